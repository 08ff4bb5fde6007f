/-
  EI is proved here: parts of w5 proof, one behind w5 other (texts of this work, merged by a program; Iy w5 theorem Iz not use is left out). No condition.
-/
import Derived.Test.YtlenamcfacpheaaGreatDoorMAsese
set_option maxRecDepth 100000
set_option maxHeartbeats 4000000
namespace Go.Proofs.YtlenamcfacpheaaGreatDoor
open Go.Den
open IntKind (wrap)
open Int (toNat)
section
variable {h:ai} {R:fx}
variable {s out d D:Nat} {a:bW.S} {f:cj} {S:Int} {r:aH.S}
theorem JV.walk{now:Int}{eH:Int}(H:R (.U (if 1099511627776<wrap .u64 (now+eH)then 1099511627776 else wrap .u64 (now+eH))) h):ar Tryz.prog 157 #[.U now,.U eH] h R:=aR (lq ll) Tryz.func157 H
theorem My.walk{y:ax.S}(O:aS h (.cells y.arr 29) λb C=>aS C (.cells ah.S.z.arr 124) λc I=>aS I (.cells ah.S.z.arr 124) λe w=>Hp w s 5 λt15=>Cl 74 #[.pointer t15] w λv L=>ah.EX λt16=>v=t16.agg/\aS L (.cells ah.S.z.arr 124) λB M=>ah.cY M (AA B 0) t16 λx=>ax.cG x (AA B 0) λt19=>Cl 33 #[t19.agg] x λW H=> ∃t T,W=.tuple #[.pointer t,.I T]/\if(T !=0)then ah.cY H (AA c 0) ah.S.z λN=>ah.cY N (AA e 0) ah.S.z λm=>ah.cG m (AA c 0) λP=>ah.cG m (AA e 0) λU=>R (.tuple #[P.agg,U.agg,.I T]) m else aK (λ(t35:Bool) (k:ai)=>aK (λ(o:ai)=>Hu o s 6 λt44=>Cl 190 #[.pointer t,.U t44] o λX E=>ah.EX λz=> ∃A,X=.tuple #[z.agg,.I A]/\aS E (.cells ah.S.z.arr 124) λg F=>ah.cY F (AA g 0) z λp=>ah.cG p (AA g 0) λt48=>aS p (.cells ah.S.z.arr 124) λj G=>ah.cY G (AA j 0) t48 λq=>ax.cG q (AA b 0) λt49=>ax.cY q (AA j 0) t49 λi=>ah.cG i (AA j 0) λt51=>ah.cG i (AA g 0) λt52=>ah.cY i (AA c 0) t51 λu=>Kp i u [(some (AA g 0))]/\ah.cY u (AA e 0) t52 λl=>ah.cG l (AA c 0) λQ=>ah.cG l (AA e 0) λV=>R (.tuple #[Q.agg,V.agg,.I A]) l) (λn=>if t35 then ah.cG k (AA B 0) λt37=>Cl 189 #[.pointer t,t37.agg] k λY K=> ∃t38,Y=.I t38/\n K else n k)) (λJ=> ∃t29,Cc H B 5 (.U t29)/\if(decide (t29>0))then J true H else∃t33,Cc H B 6 (.U t33)/\J (decide (t33>0)) H)):ar Tryz.prog 150 #[.P s 0,y.agg] h R:=aR (lq (lq (lq (sq (lq (cq ll lf)) (sq (sq (.join [(35,.one (.bool))] lf) (.join [] (cq lf lf))) (lq (lq (lq (sq (pK 6) lf))))))))) Tryz.func150 O
theorem zS.walk{b:av.S}{own:ah.S}(x:aS h (.cells a.arr 98) λB q=>aS q (.cells b.arr 129) λi u=>aS u (.cells own.arr 124) λp j=>av.cG j (AA i 0) λt13=>Cl 58 #[t13.agg] j λv H=> ∃m t l T,v=.tuple #[.slice m t l,.I T]/\if(T !=0)then R (.tuple #[.I 0,.I 0,.I T]) H else Hp H B 19 λt22=>Hi H B 20 λt24=>Hp H B 19 λt27=>aO t27 λA=>sw H (A.add 6) λt30=>Hu H i 19 λt33=>Cl 157 #[.U t30,.U t33] H λV e=> ∃t34,V=.U t34/\Kp H e [(some (AA B 19)),(some (AA B 20)),(some (AA B 19))]/\Cl 191 #[.pointer t22,.I t24,.slice m t l,.U t34] e λy c=> ∃n g,y=.tuple #[.I n,.I g]/\Kp e c [(some (AA B 19))]/\aK (λ(w:ai)=>R (.tuple #[.I n,.I ((t:Nat):Int),.I g]) w) (λJ=>if(g==0)then Hp c B 19 λt41=>aO t41 λo=>y8 c (o.add 5) λt44=>ah.cG c (AA p 0) λt45=>Cl 189 #[.pointer t44,t45.agg] c λz k=> ∃t46,z=.I t46/\Kp c k [(some (AA B 19))]/\J k else J c)):ar Tryz.prog 151 #[a.agg,b.agg,own.agg] h R:=aR (lq (lq (sq (lq (cq ll lf)) (sq (pK 20) (sq (lq (.join [] (cq (pK 7) lf))) ll))))) Tryz.func151 x
theorem yH.walk(L:aS h (.cells a.arr 98) λb H=>aK (λ(r:cj) (is:Bool) (c:ai)=>if(!is)then R (.I 4) c else aO r λG=>xq c (G.add 6) λt22=> ∃t24,Cc c b 20 (.I t24)/\if(t22 !=t24)then R (.I 13) c else R (.I 0) c) (λJ=>Hp H b 19 λt7=>aO t7 λA=>y8 H (A.add 1) λt10=>ax.cG H (AA b 2) λt13=>(Cl 155 #[.pointer t10,t13.agg] H λv e=> ∃t l n p u x z E,v=.tuple #[.agg #[.bool t,.U l,.U n,.string p,.string u,.I x,.I z],.bool E]/\Kp H e [(some (AA b 19))]/\aS e (.cells #[.bool false,.U 0,.U 0,.string gi,.string gi,.I 0,.I 0] 136) λB j=>Kp e j [(some (AA b 19))]/\bQ.ST j (AA B 0) t l n p u x z λI=>J (some (AA B 0)) E I)/\(aS H (.cells #[.bool false,.U 0,.U 0,.string gi,.string gi,.I 0,.I 0] 136) λi g=>Kp H g [(some (AA b 2)),(some (A.add 1)),(some (AA b 19))]/\Cl 155 #[.pointer t10,t13.agg] g λV k=> ∃T m o q w y C F,V=.tuple #[.agg #[.bool T,.U m,.U o,.string q,.string w,.I y,.I C],.bool F]/\Kp g k [(some (AA b 19))]/\bQ.ST k (AA i 0) T m o q w y C λK=>J (some (AA i 0)) F K)/\True)):ar Tryz.prog 104 #[a.agg] h R:=aR (lq (sq (.join [(3,.one (.ptr)),(4,.one (.bool))] (.jk (fE 8 0 (.alts (.fork 8 (fE 6 9 .done) (.fork 12 (fE 4 8 (.op 13 (.op 14 .done))) .gQ)))))) (sq (bq (lq (cq ll (lq (cq ll lf))))) ll))) Tryz.func104 L
theorem yI.walk(I:aS h (.cells a.arr 98) λb k=>bW.cG k (AA b 0) λt10=>Cl 104 #[t10.agg] k λv g=> ∃t11,v=.I t11/\if(t11 !=0)then R (.I t11) g else Hp g b 19 λt17=>ax.cG g (AA b 2) λt20=>Cl 150 #[.pointer t17,t20.agg] g λV A=>ah.EX λT=>ah.EX λn=> ∃t,V=.tuple #[T.agg,n.agg,.I t]/\aS A (.cells ah.S.z.arr 124) λi C=>aS C (.cells ah.S.z.arr 124) λj E=>ah.cY E (AA i 0) T λF=>ah.cY F (AA j 0) n λH=>if(t !=0)then R (.I t) H else ax.cG H (AA b 7) λt30=>ah.cG H (AA i 0) λt31=>Hu H b 16 λt34=>aS H (.cells aD.S.z.arr 126) λB G=>aD.cY G (AA B 0) ⟨0,0,t30.f0,t30.f1,t30.f2,t30.f3,t30.f4,false,0,0,gi,gi,t31.f0,t31.f1,t31.f2,t31.f3,t31.f4,t31.f5,t31.f6,t34⟩ λc=>Hb c b 18 λt38=>aK (λ(e:ai)=>bW.cG e (AA b 0) λt47=>aD.cG e (AA B 0) λt48=>Hl e b 15 λM L K=>aS e (.cells #[.U 1,.U 1,.U 0,.I 0,.slice M L K] 201) λu l=>ah.cG l (AA j 0) λt55=>Cl 151 #[t47.agg,.agg #[.U t48.f0,.I t48.f1,.bool t48.f2,.U t48.f3,.U t48.f4,.string t48.f5,.string t48.f6,.bool t48.f7,.U t48.f8,.U t48.f9,.string t48.f10,.string t48.f11,.bool t48.f12,.U t48.f13,.U t48.f14,.string t48.f15,.string t48.f16,.U t48.f17,.U t48.f18,.U t48.f19,.slice (some (AA u 0)) 1 1],t55.agg] l λN w=> ∃o p q,N=.tuple #[.I o,.I p,.I q]/\aE w (AA out 2) (.I o) λx=>aE x (AA out 3) (.I p) λy=>R (.I q) y) (λJ=>if t38 then ax.cG c (AA b 2) λt41=>aE c (AA B 0) (.U 131072) λm=>Kp c m [(some (AA b 2))]/\ax.cY m (AA B 7) t41 λz=>J z else J c)):ar Tryz.prog 101 #[a.agg,.P out 0] h R:=aR (lq (sq (lq (lq (cq ll lf))) (lq (sq (lq (cq ll lf)) (lq (sq (lq (.join [] (cq (pK 7) lf))) (lq ll))))))) Tryz.func101 I
theorem yJ.walk (hv:aS h (.cells a.arr 98) λb z=>bW.cG z (AA b 0) λt10=>Cl 104 #[t10.agg] z λv H=> ∃t11,v=.I t11/\if(t11 !=0)then R (.I t11) H else aK (λ(c:cj) (e:Int) (o:ai)=>if(e !=0)then R (.I e) o else aO c λU=>zp o (U.add 6) λd' c' b'=>Cl 158 #[.slice d' c' b'] o λk' Z=>av.EX λP=> ∃e',k'=.tuple #[P.agg,.I e']/\aS Z (.cells av.S.z.arr 129) λB a'=>av.cY a' (AA B 0) P λi=>aO c λt=>xq i t λt52=>av.cG i (AA B 0) λt53=>aO c λj=>zp i (j.add 6) λj' i' h'=>Cl 159 #[t53.agg] i λl' p=> ∃g' Q f',l'=.slice g' Q f'/\Kp i p [(some (j.add 6)),(some t)]/\aE p (AA out 2) (.I t52) λq=>Kp p q [(some (j.add 6))]/\aE q (AA out 3) (.I ((Q:Nat):Int)) λG=>Kp q G [(some (j.add 6))]/\aE G (AA out 5) (.slice j' i' h') λV=>R (.I 0) V) (λJ=>Hp H b 19 λt17=>aO t17 λA=>y8 H (A.add 2) λt20=>ax.cG H (AA b 2) λt23=>Hi H b 20 λt25=>Hp H b 19 λt27=>aO t27 λu=>sw H (u.add 6) λt30=>Hi H b 14 λt33=>(Cl 157 #[.U t30,.U (wrap .u64 t33)] H λm' g=> ∃t35,m'=.U t35/\Kp H g [(some (AA b 14)),(some (AA b 19)),(some (AA b 20)),(some (AA b 2)),(some (A.add 2)),(some (AA b 19))]/\(Cl 156 #[.pointer t20,t23.agg,.I t25,.U t35] g λn' k=>aL.EX λI=> ∃M,n'=.tuple #[I.agg,.I M]/\Kp g k [(some (AA b 14)),(some (AA b 19)),(some (AA b 19))]/\aS k (.cells aL.S.z.arr 114) λw C=>Kp k C [(some (AA b 14)),(some (AA b 19)),(some (AA b 19))]/\aL.cY C (AA w 0) I λW=>J (some (AA w 0)) M W)/\(aS g (.cells aL.S.z.arr 114) λx l=>Kp g l [(some (AA b 14)),(some (AA b 19)),(some (AA b 20)),(some (AA b 2)),(some (A.add 2)),(some (AA b 19))]/\Cl 156 #[.pointer t20,t23.agg,.I t25,.U t35] l λo' E=>aL.EX λK=> ∃N,o'=.tuple #[K.agg,.I N]/\Kp l E [(some (AA b 14)),(some (AA b 19)),(some (AA b 19))]/\aL.cY E (AA x 0) K λX=>J (some (AA x 0)) N X)/\True)/\(aS H (.cells aL.S.z.arr 114) λy m=>Kp H m [(some (AA b 14)),(some (u.add 6)),(some (AA b 19)),(some (AA b 20)),(some (AA b 2)),(some (A.add 2)),(some (AA b 19))]/\Cl 157 #[.U t30,.U (wrap .u64 t33)] m λp' n=> ∃T,p'=.U T/\Kp m n [(some (AA b 14)),(some (AA b 19)),(some (AA b 20)),(some (AA b 2)),(some (A.add 2)),(some (AA b 19))]/\Cl 156 #[.pointer t20,t23.agg,.I t25,.U T] n λq' F=>aL.EX λL=> ∃O,q'=.tuple #[L.agg,.I O]/\Kp n F [(some (AA b 14)),(some (AA b 19)),(some (AA b 19))]/\aL.cY F (AA y 0) L λY=>J (some (AA y 0)) O Y)/\True)):ar Tryz.prog 105 #[a.agg,.P out 0] h R:=aR (lq (sq (lq (lq (cq ll lf))) (sq (.join [(6,.one (.ptr)),(7,.one (.int .i64))] (.jk (fE 19 0 (.alts (.fork 19 (.alts (.fork 20 (fE 6 21 .done) (.fork 24 (fE 4 20 (.op 25 (.op 26 .done))) .gQ))) (.fork 24 (fE 5 19 (.op 25 (.op 26 .done))) .gQ)))))) (sq (lq (cq ll lf)) (lq (sq (.jk (fE 6 0 (.op 8 (.op 9 (.op 6 (.op 7 (fE 9 10 .done))))))) ll)))))) Tryz.func105 hv
theorem yK.walk (hv:aS h (.cells a.arr 98) λb gU=>Cl 158 #[.slice f d D] gU λv iN=>av.EX λM'=> ∃SL,v=.tuple #[M'.agg,.I SL]/\aS iN (.cells av.S.z.arr 129) λf' qZ=>av.cY qZ (AA f' 0) M' λE'=>aD.cG E' (AA f' 0) λt21=>aS E' (.cells aD.S.z.arr 126) λB Jd=>aD.cY Jd (AA B 0) t21 λE=>aK (λ(t31:Bool) (c:ai)=>if t31 then R (.I 0) c else aK (λ(id:cj) (own:cj) (e:Int) (H:ai)=>if(e !=0)then R (.I 0) H else aK (λ(V5:Int) (r:cj) (y:ai)=>if(V5 !=0)then R (.I 0) y else bW.cG y (AA b 0) λt68=>aO r λV6=>av.cG y V6 λt69=>aO own λV7=>ah.cG y V7 λt70=>Cl 151 #[t68.agg,t69.agg,t70.agg] y λFu w'=> ∃LA LB Hc,Fu=.tuple #[.I LA,.I LB,.I Hc]/\if(Hc !=0)then R (.I 0) w' else R (.I 1) w') (λe'=>Hp H b 19 λt50=>aO t50 λA=>sw H (A.add 6) λt53=>ah.cG H (AA B 12) λt55=>ax.cG H (AA B 7) λt58=>aO id λV8=>ah.cG H V8 λt59=>Hu H B 19 λt61=>(Cl 197 #[.agg #[.bool false,.bool true,.bool false,.U 0,.U t53,.bool t55.f0,.U t55.f1,.U t55.f2,.string t55.f3,.string t55.f4,.U t55.f5,.U t55.f6],t58.agg,t59.agg,.U t61] H λJm F=>av.EX λPR=> ∃PS,Jm=.tuple #[PR.agg,.I PS]/\Kp H F [(some (AA B 12)),(some (A.add 6)),(some (AA b 19))]/\aS F (.cells av.S.z.arr 129) λq' x'=>Kp F x' [(some (AA B 12)),(some (A.add 6)),(some (AA b 19))]/\av.cY x' (AA q' 0) PR λyw=>e' PS (some (AA q' 0)) yw)/\(aS H (.cells av.S.z.arr 129) λr' G=>Kp H G [(some (AA B 19)),id,(some (AA B 7)),(some (AA B 12)),(some (A.add 6)),(some (AA b 19))]/\Cl 197 #[.agg #[.bool false,.bool true,.bool false,.U 0,.U t53,.bool t55.f0,.U t55.f1,.U t55.f2,.string t55.f3,.string t55.f4,.U t55.f5,.U t55.f6],t58.agg,t59.agg,.U t61] G λFF y'=>av.EX λHP=> ∃HQ,FF=.tuple #[HP.agg,.I HQ]/\Kp G y' [(some (AA B 12)),(some (A.add 6)),(some (AA b 19))]/\av.cY y' (AA r' 0) HP λQS=>e' HQ (some (AA r' 0)) QS)/\True)) (λJ=>Hp c b 19 λt34=>Hp c b 19 λt36=>aO t36 λm=>y8 c (m.add 5) λt39=>(Cl 74 #[.pointer t39] c λBP g=>ah.EX λt40=>BP=t40.agg/\Kp c g [(some (AA b 19)),(some (AA b 19))]/\(Cl 150 #[.pointer t34,.agg #[.bool t40.f0,.U t40.f1,.U t40.f2,.string t40.f3,.string t40.f4]] g λLZ n=>ah.EX λa'=>ah.EX λb'=> ∃c',LZ=.tuple #[a'.agg,b'.agg,.I c']/\Kp g n [(some (AA b 19))]/\(aS n (.cells ah.S.z.arr 124) λs' I=>Kp n I [(some (AA b 19))]/\aS I (.cells ah.S.z.arr 124) λt' z'=>Kp I z' [(some (AA b 19))]/\ah.cY z' (AA s' 0) a' λT1=>ah.cY T1 (AA t' 0) b' λT4=>J (some (AA s' 0)) (some (AA t' 0)) c' T4)/\(aS n (.cells ah.S.z.arr 124) λu' K=>Kp n K [(some (AA b 19))]/\aS K (.cells ah.S.z.arr 124) λv' A'=>Kp K A' [(some (AA b 19))]/\ah.cY A' (AA v' 0) a' λT5=>ah.cY T5 (AA u' 0) b' λT6=>J (some (AA v' 0)) (some (AA u' 0)) c' T6)/\True)/\(aS g (.cells ah.S.z.arr 124) λC o=>Kp g o [(some (AA b 19)),(some (AA b 19))]/\(Cl 150 #[.pointer t34,.agg #[.bool t40.f0,.U t40.f1,.U t40.f2,.string t40.f3,.string t40.f4]] o λOw L=>ah.EX λN'=>ah.EX λX'=> ∃HR,Ow=.tuple #[N'.agg,X'.agg,.I HR]/\Kp o L [(some (AA b 19))]/\aS L (.cells ah.S.z.arr 124) λg' B'=>Kp L B' [(some (AA b 19))]/\ah.cY B' (AA C 0) N' λT8=>ah.cY T8 (AA g' 0) X' λUa=>J (some (AA C 0)) (some (AA g' 0)) HR Ua)/\(aS o (.cells ah.S.z.arr 124) λh' M=>Kp o M [(some (AA b 19)),(some (AA b 19))]/\Cl 150 #[.pointer t34,.agg #[.bool t40.f0,.U t40.f1,.U t40.f2,.string t40.f3,.string t40.f4]] M λOx C'=>ah.EX λP'=>ah.EX λZ'=> ∃HS,Ox=.tuple #[P'.agg,Z'.agg,.I HS]/\Kp M C' [(some (AA b 19))]/\ah.cY C' (AA C 0) P' λUb=>ah.cY Ub (AA h' 0) Z' λUc=>J (some (AA C 0)) (some (AA h' 0)) HS Uc)/\True)/\(aS g (.cells ah.S.z.arr 124) λz p=>Kp g p [(some (AA b 19)),(some (AA b 19))]/\(Cl 150 #[.pointer t34,.agg #[.bool t40.f0,.U t40.f1,.U t40.f2,.string t40.f3,.string t40.f4]] p λOy N=>ah.EX λQ'=>ah.EX λHT=> ∃HU,Oy=.tuple #[Q'.agg,HT.agg,.I HU]/\Kp p N [(some (AA b 19))]/\aS N (.cells ah.S.z.arr 124) λi' D'=>Kp N D' [(some (AA b 19))]/\ah.cY D' (AA i' 0) Q' λUd=>ah.cY Ud (AA z 0) HT λUe=>J (some (AA i' 0)) (some (AA z 0)) HU Ue)/\(aS p (.cells ah.S.z.arr 124) λj' O=>Kp p O [(some (AA b 19)),(some (AA b 19))]/\Cl 150 #[.pointer t34,.agg #[.bool t40.f0,.U t40.f1,.U t40.f2,.string t40.f3,.string t40.f4]] O λQZ F'=>ah.EX λR'=>ah.EX λHV=> ∃HW,QZ=.tuple #[R'.agg,HV.agg,.I HW]/\Kp O F' [(some (AA b 19))]/\ah.cY F' (AA j' 0) R' λUf=>ah.cY Uf (AA z 0) HV λUg=>J (some (AA j' 0)) (some (AA z 0)) HW Ug)/\True)/\True)/\(aS c (.cells ah.S.z.arr 124) λi q=>Kp c q [(some (m.add 5)),(some (AA b 19)),(some (AA b 19))]/\(Cl 74 #[.pointer t39] q λQ0 u=>ah.EX λt=>Q0=t.agg/\Kp q u [(some (AA b 19)),(some (AA b 19))]/\(Cl 150 #[.pointer t34,.agg #[.bool t.f0,.U t.f1,.U t.f2,.string t.f3,.string t.f4]] u λQ1 P=>ah.EX λS'=>ah.EX λHX=> ∃HY,Q1=.tuple #[S'.agg,HX.agg,.I HY]/\Kp u P [(some (AA b 19))]/\aS P (.cells ah.S.z.arr 124) λk' G'=>Kp P G' [(some (AA b 19))]/\ah.cY G' (AA i 0) S' λUh=>ah.cY Uh (AA k' 0) HX λUi=>J (some (AA i 0)) (some (AA k' 0)) HY Ui)/\(aS u (.cells ah.S.z.arr 124) λl' Q=>Kp u Q [(some (AA b 19)),(some (AA b 19))]/\Cl 150 #[.pointer t34,.agg #[.bool t.f0,.U t.f1,.U t.f2,.string t.f3,.string t.f4]] Q λUj H'=>ah.EX λT'=>ah.EX λHZ=> ∃Ia,Uj=.tuple #[T'.agg,HZ.agg,.I Ia]/\Kp Q H' [(some (AA b 19))]/\ah.cY H' (AA i 0) T' λUk=>ah.cY Uk (AA l' 0) HZ λUl=>J (some (AA i 0)) (some (AA l' 0)) Ia Ul)/\True)/\(aS q (.cells ah.S.z.arr 124) λm' U=>Kp q U [(some (m.add 5)),(some (AA b 19)),(some (AA b 19))]/\Cl 74 #[.pointer t39] U λUm V=>ah.EX λk=>Um=k.agg/\Kp U V [(some (AA b 19)),(some (AA b 19))]/\Cl 150 #[.pointer t34,.agg #[.bool k.f0,.U k.f1,.U k.f2,.string k.f3,.string k.f4]] V λUn I'=>ah.EX λU'=>ah.EX λIb=> ∃Ic,Un=.tuple #[U'.agg,Ib.agg,.I Ic]/\Kp V I' [(some (AA b 19))]/\ah.cY I' (AA i 0) U' λUo=>ah.cY Uo (AA m' 0) Ib λUq=>J (some (AA i 0)) (some (AA m' 0)) Ic Uq)/\True)/\(aS c (.cells ah.S.z.arr 124) λj w=>Kp c w [(some (m.add 5)),(some (AA b 19)),(some (AA b 19))]/\(Cl 74 #[.pointer t39] w λUr x=>ah.EX λT=>Ur=T.agg/\Kp w x [(some (AA b 19)),(some (AA b 19))]/\(Cl 150 #[.pointer t34,.agg #[.bool T.f0,.U T.f1,.U T.f2,.string T.f3,.string T.f4]] x λUs W=>ah.EX λV'=>ah.EX λIe=> ∃Ig,Us=.tuple #[V'.agg,Ie.agg,.I Ig]/\Kp x W [(some (AA b 19))]/\aS W (.cells ah.S.z.arr 124) λn' J'=>Kp W J' [(some (AA b 19))]/\ah.cY J' (AA n' 0) V' λUt=>ah.cY Ut (AA j 0) Ie λUu=>J (some (AA n' 0)) (some (AA j 0)) Ig Uu)/\(aS x (.cells ah.S.z.arr 124) λo' X=>Kp x X [(some (AA b 19)),(some (AA b 19))]/\Cl 150 #[.pointer t34,.agg #[.bool T.f0,.U T.f1,.U T.f2,.string T.f3,.string T.f4]] X λUv K'=>ah.EX λW'=>ah.EX λIh=> ∃Ii,Uv=.tuple #[W'.agg,Ih.agg,.I Ii]/\Kp X K' [(some (AA b 19))]/\ah.cY K' (AA o' 0) W' λUw=>ah.cY Uw (AA j 0) Ih λUx=>J (some (AA o' 0)) (some (AA j 0)) Ii Ux)/\True)/\(aS w (.cells ah.S.z.arr 124) λp' Y=>Kp w Y [(some (m.add 5)),(some (AA b 19)),(some (AA b 19))]/\Cl 74 #[.pointer t39] Y λUy Z=>ah.EX λl=>Uy=l.agg/\Kp Y Z [(some (AA b 19)),(some (AA b 19))]/\Cl 150 #[.pointer t34,.agg #[.bool l.f0,.U l.f1,.U l.f2,.string l.f3,.string l.f4]] Z λUz L'=>ah.EX λO'=>ah.EX λY'=> ∃Ed,Uz=.tuple #[O'.agg,Y'.agg,.I Ed]/\Kp Z L' [(some (AA b 19))]/\ah.cY L' (AA p' 0) O' λUA=>ah.cY UA (AA j 0) Y' λUB=>J (some (AA p' 0)) (some (AA j 0)) Ed UB)/\True)/\True)) (λd'=> ∃t23,Cc E B 0 (.U t23)/\if((wrap .u64 ((mf t23 &&& mf 131072).toNat:Int))==0)then d' true E else∃t28,Cc E B 0 (.U t28)/\d' ((wrap .u64 ((mf t28 &&& mf 2).toNat:Int)) !=0) E)):ar Tryz.prog 164 #[a.agg,.slice f d D] h R:=aR (lq (lq (lq (sq (sq (.join [(31,.one (.bool))] lf) (cq ll lf)) (sq (.join [(8,.one (.ptr)),(9,.one (.ptr)),(10,.one (.int .i64))] (.jk (fE 7 0 (.alts (.fork 7 (.op 8 (.alts (.fork 9 (fE 4 10 (.alts (.fork 14 (fE 4 15 .done) (.fork 15 (.op 14 (fE 3 16 .done)) .gQ)))) (.fork 14 (.alts (.fork 9 (fE 4 10 (fE 4 15 .done)) (.fork 15 (fE 5 9 (fE 3 16 .done)) .gQ))) (.fork 15 (.alts (.fork 9 (fE 5 10 (fE 3 16 .done)) (.fork 14 (fE 5 9 (fE 3 16 .done)) .gQ))) .gQ))))) (.fork 14 (.alts (.fork 7 (.op 8 (.alts (.fork 9 (fE 4 10 (fE 4 15 .done)) (.fork 15 (fE 5 9 (fE 3 16 .done)) .gQ)))) (.fork 15 (fE 7 7 (fE 3 16 .done)) .gQ))) (.fork 15 (.alts (.fork 7 (.op 8 (.alts (.fork 9 (fE 5 10 (fE 3 16 .done)) (.fork 14 (fE 5 9 (fE 3 16 .done)) .gQ)))) (.fork 14 (fE 7 7 (fE 3 16 .done)) .gQ))) .gQ))))))) (sq (lq (cq ll lf)) (sq (.join [(10,.one (.int .i64)),(11,.one (.ptr))] (.jk (fE 13 0 (.alts (.fork 13 (fE 6 14 .done) (.fork 17 (fE 4 13 (.op 18 (.op 19 .done))) .gQ)))))) (sq (lq (cq ll lf)) (sq (lq (lq (cq ll lf))) ll))))))))) Tryz.func164 hv
theorem iw.TL.walk{e:cj}{c i:Nat}{F:Nat}(g: ∃(I:Int->ai->Prop)(m:Int->ai->Nat),I 0 h/\∀(t8:Int)(H:ai),I t8 H->if(decide (t8<(c:Int)))then Bd t8 c/\aO e λa=>aL.cG H (a.add (toNat t8*10)) λt15=>Cl 163 #[t15.agg,.P F 0] H λv b=> ∃t16,v=.bool t16/\if t16 then R (.I t8) b else(I (wrap .i64 (t8+1)) b/\m (wrap .i64 (t8+1)) b<m t8 H)else R (.I (-1)) H):ar Tryz.prog 162 #[.slice e c i,.func (.func 163) #[] #[.P F 0]] h R:=aR (lq (sq (lq (bq (.loop [(8,.one (.int .i64))] (lq (sq (cq lf lf) (sq (bq (lq (lq (cq ll lf)))) lf)))))) ll)) Tryz.func162 g
theorem zT.walk (p:aS h (.cells a.arr 98) λb e=>Hp e b 19 λt9=>aO t9 λA=>y8 e (A.add 2) λt12=>Cl 160 #[.pointer t12] e λv H=>Vl v λT t q=>Hp H b 19 λt15=>aO t15 λk=>y8 H (k.add 2) λt18=>Hi H b 13 λt21=>Hi H b 20 λt23=>Cl 161 #[.pointer t18,.I t21,.I t23] H λV g=> ∃t24,V=.I t24/\Kp H g [(some (AA b 19))]/\Cl 162 #[.slice T t q,.func (.func 163) #[] #[.P b 0]] g λy i=>Vi y λt27=>aK (λ(t33:Bool) (c:ai)=>aK (λ(m:ai)=>R (.I t24) m) (λj=>if t33 then bW.cG c (AA b 0) λt35=>Bd t27 t/\aO T λl=>zp c ((l.add (toNat t27*10)).add 6) λx w u=>Cl 164 #[t35.agg,.slice x w u] c λz n=> ∃t41,z=.I t41/\aE n (AA out 3) (.I t41) λo=>j o else j c)) (λJ=>if(t24==0)then J (decide (t27≥0)) i else J false i)):ar Tryz.prog 106 #[a.agg,.P out 0] h R:=aR (lq (lq (sq (pK 12) (lq (sq (sq (.join [(33,.one (.bool))] lf) (.join [] (cq (pK 11) lf))) ll))))) Tryz.func106 p
theorem wM.walk{c:aL.S}{c0:Nat}(e:aS h (.cells c.arr 114) λb H=>Hi H b 0 λt5=> ∃t8,Cc H c0 13 (.I t8)/\R (.bool (t5==t8)) H):ar Tryz.prog 163 #[c.agg,.P c0 0] h R:=aR (lq ll) Tryz.func163 e
theorem wN.walk(p:aS h (.cells a.arr 98) λb c=>Hp c b 19 λt7=>aO t7 λA=>y8 c A λt10=>Hi c b 20 λt12=>Hb c b 18 λt15=>Cl 166 #[.pointer t10,.I t12,.bool t15] c λv H=> ∃t16,v=.I t16/\Kp c H [(some (AA b 19))]/\aK (λ(e:Int) (m:ai)=>R (.I e) m) (λJ=>if(t16==0)then Hp H b 19 λt23=>aO t23 λl=>y8 H l λt26=>Hi H b 20 λt28=>Cl 167 #[.pointer t26,.I t28] H λV g=> ∃i T t j k,V=.tuple #[.slice i T t,.I j,.I k]/\Kp H g [(some (AA b 19))]/\aE g (AA out 5) (.slice i T t) λn=>aE n (AA out 3) (.I j) λo=>J k o else J t16 H)):ar Tryz.prog 108 #[a.agg,.P out 0] h R:=aR (lq (sq (pK 12) (sq (lq (.join [(5,.one (.int .i64))] (cq (pK 21) lf))) ll))) Tryz.func108 p
theorem Ci.walk(F:aS h (.cells a.arr 98) λb H=> ∃t8,Cc H b 1 (.I t8)/\if(t8==1)then Hp H b 19 λt12=>aO t12 λA=>y8 H (A.add 1) λt15=>ax.cG H (AA b 2) λt18=>Hi H b 12 λt21=>Hi H b 20 λt23=>Cl 97 #[.pointer t15,.agg #[.bool t18.f0,.U t18.f1,.U t18.f2,.string t18.f3,.string t18.f4,.I t21,.I t23]] H λv j=> ∃t25,v=.I t25/\Kp H j [(some (AA b 20)),(some (AA b 12)),(some (AA b 2)),(some (AA b 19))]/\R (.I t25) j else if(t8==2)then Hp H b 19 λt29=>aO t29 λm=>y8 H (m.add 1) λt32=>ax.cG H (AA b 2) λt35=>Hi H b 20 λt37=>Cl 98 #[.pointer t32,t35.agg,.I t37] H λV c=> ∃t38,V=.I t38/\Kp H c [(some (AA b 19))]/\aK (λ(z:ai)=>R (.I t38) z) (λJ=>if(t38==0)then Hp c b 19 λt43=>aO t43 λn=>y8 c (n.add 2) λt46=>ax.cG c (AA b 2) λt49=>Cl 99 #[.pointer t46,t49.agg] c λL k=> ∃G t T,L=.slice G t T/\Kp c k [(some (AA b 19))]/\aE k (AA out 3) (.I ((t:Nat):Int)) λB=>J B else J c)else if(t8==3)then Hp H b 19 λt58=>aO t58 λo=>y8 H (o.add 1) λt61=>ax.cG H (AA b 2) λt64=>Hi H b 20 λt66=>Hi H b 12 λt69=>Cl 100 #[.pointer t61,t64.agg,.I t66,.I t69] H λM l=> ∃t70,M=.I t70/\Kp H l [(some (AA b 19))]/\R (.I t70) l else if(t8==4)then bW.cG H (AA b 0) λt73=>Cl 101 #[t73.agg,.P out 0] H λN C=> ∃t75,N=.I t75/\R (.I t75) C else if(t8==5)then Hp H b 19 λt79=>Hi H b 13 λt82=>Hi H b 20 λt84=>Cl 102 #[.pointer t79,.I t82,.I t84] H λO E=> ∃t85,O=.I t85/\R (.I t85) E else if(t8==6)then Hp H b 19 λt90=>aO t90 λp=>y8 H (p.add 2) λt93=>ax.cG H (AA b 2) λt96=>Cl 103 #[.pointer t93,t96.agg] H λP e=> ∃t97,P=.I t97/\Kp H e [(some (AA b 19))]/\aE e (AA out 2) (.I t97) λg=>bW.cG g (AA b 0) λt100=>Cl 104 #[t100.agg] g λQ u=> ∃t101,Q=.I t101/\R (.I t101) u else if(t8==7)then bW.cG H (AA b 0) λt104=>Cl 105 #[t104.agg,.P out 0] H λU w=> ∃t106,U=.I t106/\R (.I t106) w else if(t8==8)then bW.cG H (AA b 0) λt109=>Cl 106 #[t109.agg,.P out 0] H λW x=> ∃t111,W=.I t111/\R (.I t111) x else if(t8==9)then Hp H b 19 λt115=>aO t115 λq=>y8 H (q.add 2) λt118=>Hi H b 13 λt121=>Hi H b 20 λt123=>Cl 107 #[.pointer t118,.I t121,.I t123] H λI i=> ∃t124,I=.I t124/\Kp H i [(some (AA b 19))]/\R (.I t124) i else if(t8==10)then bW.cG H (AA b 0) λt127=>Cl 108 #[t127.agg,.P out 0] H λK y=> ∃t129,K=.I t129/\R (.I t129) y else R (.I 3) H):ar Tryz.prog 44 #[a.agg,.P out 0] h R:=aR (lq (sq (lq (bq (lq (cq (sq (pK 16) lf) (lq (cq (sq (pK 12) (sq (lq (.join [] (cq (pK 14) lf))) ll)) (lq (cq (sq (pK 15) lf) (lq (cq ll (lq (cq ll (lq (cq (sq (pK 13) ll) (lq (cq ll (lq (cq ll (lq (cq (sq (pK 12) lf) (lq (cq ll lf)))))))))))))))))))))) ll)) Tryz.func44 F
theorem Gn.walk(Z:aS h (.cells r.arr 47) λb N=>aS N (.cells ak.S.z.arr 44) λB H=>aK (λ(t15:Bool) (g:ai)=>if t15 then Hu g b 0 λt61=>Cl 41 #[.U t61,.I 6] g λv X=>ak.EX λt62=>v=t62.agg/\ak.cY X (AA B 0) t62 λA=>ak.cG A (AA B 0) λr0=>R (r0.agg) A else aK (λ(t63:Bool) (i:ai)=>if t63 then Hu i b 0 λt73=>Cl 41 #[.U t73,.I 3] i λg' Y=>ak.EX λt74=>g'=t74.agg/\ak.cY Y (AA B 0) t74 λC=>ak.cG C (AA B 0) λa'=>R (a'.agg) C else Hp i s 0 λt79=>Cl 28 #[.pointer t79,.I S] i λi' e=> ∃t81,i'=.bool t81/\if(!t81)then Hu e b 0 λt84=>Cl 41 #[.U t84,.I 16] e λj' O=>ak.EX λt85=>j'=t85.agg/\ak.cY O (AA B 0) t85 λq=>ak.cG q (AA B 0) λb'=>R (b'.agg) q else Hp e s 0 λt90=>Hu e b 0 λt93=>Cl 42 #[.pointer t90,.I S,.U t93] e λk' j=> ∃L K I M,k'=.tuple #[.slice L K I,.bool M]/\if M then Cl 43 #[.slice L K I] j λl' P=>ak.EX λT=> ∃e',l'=.tuple #[T.agg,.I e']/\aS P (.cells ak.S.z.arr 44) λp Q=>ak.cY Q (AA p 0) T λt=>ak.cG t (AA p 0) λt103=>ak.cY t (AA B 0) t103 λu=>ak.cG u (AA B 0) λc'=>R (c'.agg) u else Hu j b 0 λt105=>aS j (.cells ak.S.z.arr 44) λc U=>ak.cY U (AA c 0) ⟨t105,0,0,0,0,none,0,0⟩ λw=>aH.cG w (AA b 0) λt107=>Cl 44 #[.agg #[.U t107.f0,.I t107.f1,.bool t107.f2,.U t107.f3,.U t107.f4,.string t107.f5,.string t107.f6,.bool t107.f7,.U t107.f8,.U t107.f9,.string t107.f10,.string t107.f11,.I t107.f12,.I t107.f13,.I t107.f14,.slice t107.By t107.zA t107.Bz,.U t107.f16,.U t107.f17,.bool t107.f18,.P s 0,.I S],.P c 0] w λm' k=>Vi m' λt111=>aK (λ(x:ai)=>ak.cG x (AA c 0) λt119=>Cl 45 #[t119.agg] x λn' l=> ∃G F E f',n'=.tuple #[.slice G F E,.I f']/\Hp l s 0 λt126=>Hu l b 0 λt129=>Cl 46 #[.pointer t126,.I S,.U t129,.slice G F E] l λo' y=>Vi o' λt131=>ak.cG y (AA c 0) λt132=>ak.cY y (AA B 0) t132 λz=>ak.cG z (AA B 0) λd'=>R (d'.agg) z) (λo=>if(t111 !=0)then Hu k b 0 λt115=>Cl 41 #[.U t115,.I t111] k λp' V=>ak.EX λt117=>p'=t117.agg/\ak.cY V (AA c 0) t117 λW=>o W else o k)) (λn=>aH.cG g (AA b 0) λt64=>Cl 29 #[t64.agg] g λh' m=> ∃t65,h'=.bool t65/\if(!t65)then n true m else∃t69,Cc m b 1 (.I t69)/\n (decide (t69≥11)) m)) (λJ=> ∃t22,Cc H s 0 (.pointer t22)/\if t22.isNone then J true H else∃t29,Cc H s 1 (.pointer t29)/\if t29.isNone then J true H else∃t36,Cc H s 2 (.pointer t36)/\if t36.isNone then J true H else∃t43,Cc H s 3 (.pointer t43)/\if t43.isNone then J true H else∃t50,Cc H s 4 (.pointer t50)/\if t50.isNone then J true H else∃t57,Cc H s 5 (.pointer t57)/\J t57.isNone H)):ar Tryz.prog 13 #[.P s 0,.I S,r.agg] h R:=aR (lq (sq (bq (sq (.join [(15,.one (.bool))] lf) (cq ll (sq (.join [(63,.one (.bool))] lf) (cq ll (lq (cq ll lf))))))) (sq (sq (pK 13) (lq (cq (lq ll) lf))) (lq (sq (lq (lq (.join [] (cq lf lf)))) (lq (sq (pK 9) ll))))))) Tryz.func13 Z
theorem Gn.nil.walk(o:aS h (.cells r.arr 47) λb k=>aS k (.cells ak.S.z.arr 44) λB l=>aK (λ(t15:Bool) (H:ai)=>if t15 then Hu H b 0 λt61=>Cl 41 #[.U t61,.I 6] H λv m=>ak.EX λt62=>v=t62.agg/\ak.cY m (AA B 0) t62 λe=>ak.cG e (AA B 0) λp=>R (p.agg) e else aK (λ(t63:Bool) (g:ai)=>if t63 then Hu g b 0 λt73=>Cl 41 #[.U t73,.I 3] g λV n=>ak.EX λt74=>V=t74.agg/\ak.cY n (AA B 0) t74 λi=>ak.cG i (AA B 0) λq=>R (q.agg) i else False) (λj=>aH.cG H (AA b 0) λt64=>Cl 29 #[t64.agg] H λt c=> ∃t65,t=.bool t65/\if(!t65)then j true c else∃t69,Cc c b 1 (.I t69)/\j (decide (t69≥11)) c)) (λJ=>J true l)):ar Tryz.prog 13 #[.pointer none,.I S,r.agg] h R:=aR (lq (sq (bq (sq (.join [(15,.one (.bool))] lf) (cq ll (sq (.join [(63,.one (.bool))] lf) (cq ll (lq (cq ll lf))))))) (sq (sq (pK 13) (lq (cq (lq ll) lf))) (lq (sq (lq (lq (.join [] (cq lf lf)))) (lq (sq (pK 9) ll))))))) Tryz.func13 o
theorem Gp.walk(e:aS h (.cells ax.S.z.arr 29) λb c=>ax.cY c (AA b 0) ⟨true,7,0,gi,gi⟩ λH=>ax.cG H (AA b 0) λg=>R (g.agg) H):ar Tryz.prog 9 #[] h R:=aR (lq ll) Tryz.func9 e
theorem Gq.walk(e:aS h (.cells ax.S.z.arr 29) λb c=>ax.cY c (AA b 0) ⟨true,7,1,gi,gi⟩ λH=>ax.cG H (AA b 0) λg=>R (g.agg) H):ar Tryz.prog 14 #[] h R:=aR (lq ll) Tryz.func14 e
theorem Ee.walk(H: ∃t9,Cc h s 0 (.pointer t9)/\if(!t9.isNone)then∃t16,Cc h s 1 (.pointer t16)/\if(!t16.isNone)then∃t23,Cc h s 2 (.pointer t23)/\if(!t23.isNone)then∃t30,Cc h s 3 (.pointer t30)/\if(!t30.isNone)then∃t37,Cc h s 4 (.pointer t37)/\if(!t37.isNone)then∃t44,Cc h s 5 (.pointer t44)/\R (.bool (!t44.isNone)) h else R (.bool false) h else R (.bool false) h else R (.bool false) h else R (.bool false) h else R (.bool false) h):ar Tryz.prog 10 #[.P s 0] h R:=aR (lq ll) Tryz.func10 H
theorem Ef.walk (hv:Cl 9 #[] h λv u=>ax.EX λt10=>v=t10.agg/\Cl 8 #[t10.agg] u λo' c=> ∃t m,o'=.tuple #[.pointer t,.I m]/\aK (λ(t33:Bool) (g:ai)=>if t33 then R (.bool false) g else aO t λa=>y8 g a λt37=>Cl 12 #[.pointer t37,.U 5] g λx' l=> ∃h' i',x'=.tuple #[.I h',.I i']/\aO t λA=>y8 l A λt42=>Cl 12 #[.pointer t42,.U 6] l λy' a'=> ∃j' k',y'=.tuple #[.I j',.I k']/\Cl 14 #[] a' λz' b'=>ax.EX λt45=>z'=t45.agg/\Cl 13 #[.pointer t,.I 1,.agg #[.U 1,.I 1,.bool t45.f0,.U t45.f1,.U t45.f2,.string t45.f3,.string t45.f4,.bool false,.U 0,.U 0,.string gi,.string gi,.I 0,.I 0,.I 0,.Z,.U 0,.U 0,.bool false]] b' λA' c'=>ak.EX λt47=>A'=t47.agg/\aS c' (.cells ak.S.z.arr 44) λb d'=>ak.cY d' (AA b 0) t47 λe'=>Cl 14 #[] e' λB' w=>ax.EX λt49=>B'=t49.agg/\Cl 13 #[.pointer t,.I 2,.agg #[.U 1,.I 1,.bool t49.f0,.U t49.f1,.U t49.f2,.string t49.f3,.string t49.f4,.bool false,.U 0,.U 0,.string gi,.string gi,.I 0,.I 0,.I 0,.Z,.U 0,.U 0,.bool false]] w λC' x=>ak.EX λt51=>C'=t51.agg/\aS x (.cells ak.S.z.arr 44) λi y=>ak.cY y (AA i 0) t51 λz=>Cl 14 #[] z λD' C=>ax.EX λt53=>D'=t53.agg/\Cl 14 #[] C λE' E=>ax.EX λt54=>E'=t54.agg/\aS E (.cells #[.int .u8 120] 5) λq F=>aV Tryz.prog (convert 22 22 (.slice (some (AA q 0)) 1 1)) F λp' G=>Vl p' λn' m' l'=>Cl 13 #[.pointer t,.I 1,.agg #[.U 2,.I 4,.bool t53.f0,.U t53.f1,.U t53.f2,.string t53.f3,.string t53.f4,.bool t54.f0,.U t54.f1,.U t54.f2,.string t54.f3,.string t54.f4,.I 0,.I 0,.I 0,.slice n' m' l',.U 9,.U 0,.bool false]] G λq' I=>ak.EX λt58=>q'=t58.agg/\aS I (.cells ak.S.z.arr 44) λB K=>ak.cY K (AA B 0) t58 λL=>Cl 14 #[] L λr' M=>ax.EX λt60=>r'=t60.agg/\Cl 13 #[.pointer t,.I 1,.agg #[.U 2,.I 6,.bool t60.f0,.U t60.f1,.U t60.f2,.string t60.f3,.string t60.f4,.bool false,.U 0,.U 0,.string gi,.string gi,.I 0,.I 0,.I 0,.Z,.U 0,.U 0,.bool false]] M λs' N=>ak.EX λt62=>s'=t62.agg/\aS N (.cells ak.S.z.arr 44) λe O=>ak.cY O (AA e 0) t62 λP=>Cl 14 #[] P λt' Q=>ax.EX λt64=>t'=t64.agg/\Cl 13 #[.pointer t,.I 3,.agg #[.U 2,.I 6,.bool t64.f0,.U t64.f1,.U t64.f2,.string t64.f3,.string t64.f4,.bool false,.U 0,.U 0,.string gi,.string gi,.I 0,.I 0,.I 0,.Z,.U 0,.U 0,.bool false]] Q λu' U=>ak.EX λt66=>u'=t66.agg/\aS U (.cells ak.S.z.arr 44) λj V=>ak.cY V (AA j 0) t66 λW=>Cl 13 #[.pointer none,.I 1,.agg #[.U 2,.I 0,.bool false,.U 0,.U 0,.string gi,.string gi,.bool false,.U 0,.U 0,.string gi,.string gi,.I 0,.I 0,.I 0,.Z,.U 0,.U 0,.bool false]] W λv' X=>ak.EX λt68=>v'=t68.agg/\aS X (.cells ak.S.z.arr 44) λk Y=>ak.cY Y (AA k 0) t68 λH=> ∃t70,Cc H b 1 (.I t70)/\if(t70==0)then∃t74,Cc H b 0 (.U t74)/\if(t74==1)then∃t79,Cc H i 1 (.I t79)/\if(t79==11)then∃t84,Cc H B 1 (.I t84)/\if(t84==0)then∃t89,Cc H B 2 (.I t89)/\if(t89==1)then∃t94,Cc H e 2 (.I t94)/\if(t94==1)then Hi H e 3 λt99=> ∃t101,Cc H B 3 (.I t101)/\if(t99==t101)then∃t106,Cc H j 1 (.I t106)/\if(t106==16)then∃t111,Cc H k 1 (.I t111)/\if(t111==6)then aO t λn=>y8 H (n.add 3) λt118=>Cl 39 #[.pointer t118] H λw' Z=> ∃g' T f',w'=.slice g' T f'/\R (.bool (((T:Nat):Int)==1)) Z else R (.bool false) H else R (.bool false) H else R (.bool false) H else R (.bool false) H else R (.bool false) H else R (.bool false) H else R (.bool false) H else R (.bool false) H else R (.bool false) H) (λJ=>if(m !=0)then J true c else if t.isNone then J true c else aO t λo=> ∃t24,aB c o=some (.pointer t24)/\if t24.isNone then J true c else aO t λp=> ∃t31,aB c (p.add 3)=some (.pointer t31)/\J t31.isNone c)):ar Tryz.prog 11 #[] h R:=aR (lq (lq (sq (sq (.join [(33,.one (.bool))] lf) (cq ll lf)) (lq (lq (lq (lq (lq (lq (lq (lq ll))))))))))) Tryz.func11 hv
theorem wO.walk{gk:Int}{L:Int} (hv:Cl 9 #[] h λv N=>ax.EX λt19=>v=t19.agg/\Cl 8 #[t19.agg] N λO' q=> ∃t T,O'=.tuple #[.pointer t,.I T]/\aK (λ(t39:Bool) (e:ai)=>if t39 then if(T==0)then Cl 10 #[.pointer t] e λZ' x=> ∃t44,Z'=.bool t44/\if t44 then Cl 11 #[] x λFF p'=> ∃t47,FF=.bool t47/\R (.bool t47) p' else R (.bool false) x else R (.bool false) e else aO t λa=>y8 e a λt52=>Cl 12 #[.pointer t52,.U 5] e λBP y=> ∃I' J',BP=.tuple #[.I I',.I J']/\aO t λK=>y8 y K λt57=>Cl 12 #[.pointer t57,.U 6] y λLZ q'=> ∃K' L',LZ=.tuple #[.I K',.I L']/\Cl 14 #[] q' λOw r'=>ax.EX λt60=>Ow=t60.agg/\Cl 13 #[.pointer t,.I 1,.agg #[.U 1,.I 1,.bool t60.f0,.U t60.f1,.U t60.f2,.string t60.f3,.string t60.f4,.bool false,.U 0,.U 0,.string gi,.string gi,.I 0,.I 0,.I 0,.Z,.U 0,.U 0,.bool false]] r' λOx s'=>ak.EX λt62=>Ox=t62.agg/\aS s' (.cells ak.S.z.arr 44) λb O=>ak.cY O (AA b 0) t62 λn=>aO t λA=>y8 n (A.add 2) λt66=>Cl 14 #[] n λOy p=>ax.EX λt67=>Oy=t67.agg/\Kp n p [(some (A.add 2))]/\Cl 15 #[.pointer t66,t67.agg,.slice f d D,.U 5000] p λQZ P=> ∃M' N',QZ=.tuple #[.I M',.I N']/\Cl 14 #[] P λP' Q=>ax.EX λt74=>P'=t74.agg/\Cl 13 #[.pointer t,.I 1,.agg #[.U 2,.I 7,.bool t74.f0,.U t74.f1,.U t74.f2,.string t74.f3,.string t74.f4,.bool false,.U 0,.U 0,.string gi,.string gi,.I 0,.I 0,.I (wrap .i64 (1+(wrap .i64 gk))),.Z,.U 0,.U 0,.bool false]] Q λQ' U=>ak.EX λt77=>Q'=t77.agg/\aS U (.cells ak.S.z.arr 44) λB V=>ak.cY V (AA B 0) t77 λW=>Cl 13 #[.pointer t,.I 2,.agg #[.U 3,.I 8,.bool false,.U 0,.U 0,.string gi,.string gi,.bool false,.U 0,.U 0,.string gi,.string gi,.I 0,.I 1,.I 0,.Z,.U 0,.U 0,.bool false]] W λR' X=>ak.EX λt80=>R'=t80.agg/\aS X (.cells ak.S.z.arr 44) λg Y=>ak.cY Y (AA g 0) t80 λZ=>Cl 13 #[.pointer t,.I 2,.agg #[.U 4,.I 9,.bool false,.U 0,.U 0,.string gi,.string gi,.bool false,.U 0,.U 0,.string gi,.string gi,.I 0,.I 1,.I 0,.Z,.U 0,.U 0,.bool false]] Z λS' a'=>ak.EX λt83=>S'=t83.agg/\aS a' (.cells ak.S.z.arr 44) λi b'=>ak.cY b' (AA i 0) t83 λc'=>Cl 14 #[] c' λT' d'=>ax.EX λt85=>T'=t85.agg/\Cl 13 #[.pointer t,.I 2,.agg #[.U 5,.I 7,.bool t85.f0,.U t85.f1,.U t85.f2,.string t85.f3,.string t85.f4,.bool false,.U 0,.U 0,.string gi,.string gi,.I 0,.I 0,.I 1,.Z,.U 0,.U 0,.bool false]] d' λU' e'=>ak.EX λt87=>U'=t87.agg/\aS e' (.cells ak.S.z.arr 44) λj f'=>ak.cY f' (AA j 0) t87 λg'=>Cl 16 #[.pointer t,.U (wrap .u64 L)] g' λV' h'=>Vi V' λt91=>Cl 13 #[.pointer t,.I 1,.agg #[.U 6,.I 8,.bool false,.U 0,.U 0,.string gi,.string gi,.bool false,.U 0,.U 0,.string gi,.string gi,.I 0,.I 1,.I 0,.Z,.U 0,.U 0,.bool false]] h' λW' i'=>ak.EX λt94=>W'=t94.agg/\aS i' (.cells ak.S.z.arr 44) λk j'=>ak.cY j' (AA k 0) t94 λk'=>Cl 13 #[.pointer t,.I 1,.agg #[.U 7,.I 8,.bool false,.U 0,.U 0,.string gi,.string gi,.bool false,.U 0,.U 0,.string gi,.string gi,.I 0,.I 1,.I 0,.Z,.U 0,.U 0,.bool false]] k' λX' l'=>ak.EX λt97=>X'=t97.agg/\aS l' (.cells ak.S.z.arr 44) λl m'=>ak.cY m' (AA l 0) t97 λu=>aO t λM=>y8 u (M.add 2) λt101=>Cl 17 #[.pointer t101] u λY' n'=> ∃z C E F G I,Y'=.agg #[.I z,.I C,.I E,.I F,.I G,.I I]/\aS n' (.cells #[.I 0,.I 0,.I 0,.I 0,.I 0,.I 0] 50) λm o'=>fC.ST o' (AA m 0) z C E F G I λw=>if(decide ((wrap .i64 L)≥(wrap .i64 (1+(wrap .i64 gk)))))then Cl 11 #[] w λUC c=> ∃t107,UC=.bool t107/\if t107 then∃t110,Cc c b 1 (.I t110)/\if(t110==0)then∃t115,Cc c B 2 (.I t115)/\if(t115==1)then∃t120,Cc c g 1 (.I t120)/\if(t120==14)then∃t125,Cc c i 1 (.I t125)/\if(t125==14)then∃t130,Cc c j 1 (.I t130)/\if(t130==13)then∃t135,Cc c k 1 (.I t135)/\if(t135==14)then∃t140,Cc c l 1 (.I t140)/\if(t140==14)then fC.LD c (AA m 0) λt' u' v' w' x' y'=> ∃(eq:Bool),vw Tryz.prog 50 (.agg #[.I t',.I u',.I v',.I w',.I x',.I y']) (.agg #[.I 1,.I 1,.I 0,.I 0,.I 0,.I 0]) eq/\R (.bool eq) c else R (.bool false) c else R (.bool false) c else R (.bool false) c else R (.bool false) c else R (.bool false) c else R (.bool false) c else R (.bool false) c else R (.bool false) c else Cl 11 #[] w λUD H=> ∃t148,UD=.bool t148/\if t148 then∃t151,Cc H b 1 (.I t151)/\if(t151==0)then∃t156,Cc H B 2 (.I t156)/\if(t156==1)then Hl H B 5 λB' A' z'=> ∃(t162:ByteArray),qV Tryz.prog 22 9 (.slice B' A' z') H t162/\∃(t164:ByteArray),qV Tryz.prog 22 9 (.slice f d D) H t164/\if(t162.toList==t164.toList)then∃t169,Cc H g 1 (.I t169)/\if(t169==14)then∃t174,Cc H i 1 (.I t174)/\if(t174==14)then∃t179,Cc H j 1 (.I t179)/\if(t179==13)then∃t184,Cc H k 1 (.I t184)/\if(t184==0)then∃t189,Cc H l 1 (.I t189)/\if(t189==4)then fC.LD H (AA m 0) λC' D' E' F' G' H'=> ∃(eq_1:Bool),vw Tryz.prog 50 (.agg #[.I C',.I D',.I E',.I F',.I G',.I H']) (.agg #[.I 1,.I 0,.I 0,.I 1,.I 0,.I 0]) eq_1/\R (.bool eq_1) H else R (.bool false) H else R (.bool false) H else R (.bool false) H else R (.bool false) H else R (.bool false) H else R (.bool false) H else R (.bool false) H else R (.bool false) H else R (.bool false) H) (λJ=>if(T !=0)then J true q else Cl 10 #[.pointer t] q λUE o=> ∃t27,UE=.bool t27/\if(!t27)then J true o else if(decide ((d:Int)<1))then J true o else J (decide ((d:Int)>300)) o)):ar Tryz.prog 3 #[.int .u8 gk,.int .u8 L,.slice f d D] h R:=aR (lq (lq (sq (sq (.join [(39,.one (.bool))] lf) (cq ll lf)) (lq (lq (lq (sq (.jk (fE 4 0 (.op 5 (.op 4 (.op 6 .done))))) (lq (lq (lq (lq (lq (lq (lq (lq (lq (sq (lq (cq ll lf)) ll))))))))))))))))) Tryz.func3 hv

end
section
namespace Ask
open jc (Ev cK)
open eI (SS Good Pt uW Mk)
open Bn (iz gx ic yF Cf)
variable {h h':ai} {R:fx} {s k m:Nat} {X:Ft} {I:uW} {σ:SS} {e:Ev} {tm sq:Nat}
variable {K:ai->Prop}
theorem Eh(now eH:Nat)(H:now<=1099511627776)(a:eH<=1099511627776)(hk:R (.U (jZ now eH:Int)) h):ar Tryz.prog 157 #[.U (now:Int),.U (eH:Int)] h R:=by
 refine JV.walk ?_;rw[wrap_u64 ae ae];have:(if(1099511627776:Int)<(now:Int)+(eH:Int)then 1099511627776 else(now:Int)+(eH:Int))=(jZ now eH:Int):=by unfold jZ;split<;>omega
 rw[this];exact hk
theorem Mz(M:Mk h m e tm sq)(now:Nat)(V:now<=1099511627776)(W:sq<=1099511627776)(G:tm<now->∀h',Mk h' m e now 0->Fr (λy=>y=m) h h'->R (.tuple #[(⟨e,now,0⟩:iz).s.agg,.I 0]) h')(L: ¬tm<now->sq<1099511627776->∀h',Mk h' m e tm (sq+1)->Fr (λy=>y=m) h h'->R (.tuple #[(⟨e,tm,sq+1⟩:iz).s.agg,.I 0]) h')(N: ¬tm<now->1099511627776<=sq->gW h R (.tuple #[iz.zero.s.agg,.I 5])):ar Tryz.prog 190 #[pt m,.U (now:Int)] h R:=by
 refine vj.walk (ah.cT λb u T l f1=>aK.of λJ w=>aK.of λO x=> ?_);have a:=f1.get M id;have Z:=aF M;have n:b≠m:=ae
 refine⟨_,aw a,?_⟩;subst x;dsimp only;refine aK.of λP z=> ?_
 rw[cW];refine aK.of λQ D=> ?_
 rw[cW];refine⟨_,aw a,aK.of λo E=> ?_⟩;have fin: ∀g (t q:Nat),Mk g m e t q->Fr (λy=>y=m) u g->(∀h',Mk h' m e t q->Fr (λy=>y=m) h h'->R (.tuple #[(⟨e,t,q⟩:iz).s.agg,.I 0]) h')->o g:=by
  intro g t q j F hk;subst E;subst D;subst z;subst w;refine yF ⟨e,t,q⟩ j rfl rfl rfl rfl rfl rfl rfl (Cf ⟨e,t,q⟩ (F.get l n) λi f4=>hk i (f4.get j (λe=>n e.symm)) ?_);exact(Fr.no f1 F).trans f4 (λ_ _=>id) (λc U e=>ae)
 by_cases c1:tm<now
 .rw[fO];refine bB a bM λH A d f=>bB A bM λv b1 B r=> ?_
  exact fin v now 0 b1 ((Fr.of_eq (S:=λy=>y=m) d f).tt (Fr.of_eq B r)) (G c1)
 rw[cW];refine⟨_,aw a,?_⟩;by_cases C:1099511627776<=sq
 .rw[af (by simp only[aY];omega)];exact Cf .zero l λi f4=>N c1 C i (f1.fresh f4 (λy e=>ae))
 rw[cW];refine⟨_,aw a,?_⟩;rw[wrap_u64 ae ae];refine bB a bM λH A d f=> ?_
 have p:Mk H m e tm (sq+1):=by unfold Mk;rw[Int.natCast_add];exact A
 exact fin H tm (sq+1) p (Fr.of_eq d f) (L c1 ae)
theorem sV(a b:iz)(j:a.tm<b.tm\/a.tm=b.tm/\a.sq<b.sq)(hk: gW h R (.bool true)):ar Tryz.prog 238 #[a.s.agg,b.s.agg] h R:=by
 refine D6.walk (ah.cT λb1 i E d f1=>ah.cT λB f g H f2=>⟨_,aw (f2.get d id),_,aw H,?_⟩);have c:=f2.get d id;have hk:=hk f (f1.tt f2);by_cases c1:a.tm=b.tm
 .rw[ag (by show¬(((a.tm:Int)) !=(b.tm:Int))=true;rw[c1];simp)];refine⟨_,aw c,_,aw H,?_⟩;have C:a.sq<b.sq:=ae
  rw[af (by show(((a.sq:Int)) !=(b.sq:Int))=true;simp;omega)];refine⟨_,aw c,_,aw H,?_⟩;rw[aq (by show(a.sq:Int)<(b.sq:Int);omega)];exact hk
 .rw[af (by show(((a.tm:Int)) !=(b.tm:Int))=true;simp;omega)];refine⟨_,aw c,_,aw H,?_⟩;rw[aq (by show(a.tm:Int)<(b.tm:Int);omega)];exact hk
theorem UF(M:Mk h m e tm sq)(x:iz)(b:x.e=e)(hk: ∀h',Mk h' m e x.tm x.sq->Fr (λy=>y=m) h h'->K h'):ah.cY h (AA m 0) x.s K:=by
 subst b;exact(show eS (AA m 0) x.s.l 0 h K from k7 (off:=0) (ws:= [.bool x.e.kH,.U x.e.node,.U x.e.gH,.string x.e.host,.string x.e.jD,.U (x.tm:Int),.U (x.sq:Int),.bool true]) M (by show 0+7<=8;omega) rfl rfl λH d1 d2 d3=>hk H d1 (Fr.of_eq d2 λc a=>d3 c a))
theorem Ei(M:Mk h m e tm sq)(x:iz)(f:x.e=e)(o:gx x=true)(n:tm<x.tm\/tm=x.tm/\sq<x.sq)(hk: ∀h',Mk h' m e x.tm x.sq->Fr (λy=>y=m) h h'->R (.I 0) h'):ar Tryz.prog 189 #[pt m,x.s.agg] h R:=by
 refine vk.walk (ah.cT λb q E d f1=>aK.of λJ j=> ?_);have c:=f1.get M id;have z:=aF M;refine⟨_,aw c,?_⟩;subst j;dsimp only;rw[cW];refine aK.of λp l=>ah.fK (x:=x.s) d (Bn.qA x λr f2=>⟨_,rfl,?_⟩)
 have a:=f2.get c id;have H:=f2.get d id;rw[o,cW];refine ic x.e H rfl rfl rfl rfl rfl (ic e a rfl rfl rfl rfl rfl ⟨_,jc.wj (x:=x.e) (y:=e) rfl rfl,?_⟩);subst l;dsimp only;rw[aq f,cW];refine yF ⟨e,tm,sq⟩ a rfl rfl rfl rfl rfl rfl rfl (ah.fK (x:=x.s) H (sV ⟨e,tm,sq⟩ x n λt f3=>⟨_,rfl,?_⟩));rw[cW];exact ah.fK (x:=x.s) (f3.get H id) (UF (f3.get a id) x f λi g f4=>hk i g (Fr.no (f1.tt (f2.tt f3)) f4))
theorem Pt.mk'(H:Pt h s X I σ):Mk h I.k σ.e σ.tm σ.sq:=by obtain⟨Y,a,_⟩:=H;exact(a 5).1
theorem SM{b:Nat}{y:iz}(x:Ev)(a:ah.fN h b y.s)(hk: ∀h',ah.fN h' b (⟨x,y.tm,y.sq⟩:iz).s->Fr (λy=>y=b) h h'->K h'):ax.cY h (AA b 0) x.s K:=
 (show eS (AA b 0) x.s.l 0 h K from k7 (off:=0) (ws:=(⟨x,y.tm,y.sq⟩:iz).s.l) a (by show 0+5<=7;omega) rfl rfl λH d1 d2 d3=>hk H d1 (Fr.of_eq d2 λc d=>d3 c d))
theorem sW(H:Pt h s X I σ)(G:eI.Good σ k)(src:Ev)(A: ∀n,nm σ=some n->gW h R (.tuple #[(⟨src,n.1,n.2⟩:iz).s.agg,(⟨σ.e,n.1,n.2⟩:iz).s.agg,.I 0]))(V:nm σ=none->gW h R (.tuple #[(⟨src,0,0⟩:iz).s.agg,iz.zero.s.agg,.I 5])):ar Tryz.prog 150 #[pt s,src.s.agg] h R:=by
 refine My.walk (ax.cT λb h1 eb hb f1=>ah.cT λb1 h2 o' i f2=>ah.cT λo r p' j' f3=> ?_);have D:=f1.tt (f2.tt f3);have l:=H.on D;have z1:=f1.1;have z2:=f2.1;have z3:=f3.1;refine⟨_,aw l.cR,eI.Hj (Pt.mk' l) λh4 f4=>ah.ex (⟨σ.e,σ.tm,σ.sq⟩:iz).s ⟨rfl,ah.gh (x:=(⟨σ.e,σ.tm,σ.sq⟩:iz).s) λb3 h6 q' Q f6=> ?_⟩⟩;have z4:=f4.1;refine ic σ.e Q rfl rfl rfl rfl rfl (eI.vZ σ.e (λS t m M g7 f7=>⟨_,_,rfl,?_⟩) (λS=>absurd ⟨G.e.1,G.e.2.1⟩ S));rw[cW];have Y:=f4.tt (f6.tt f7);have w:=f7.get Q id;have z6:=f6.1;have z7:=f7.1;have T: ∀(g:ai)(x:iz)(q:Int),Fr No r g->(∀L,Fr No h L->R (.tuple #[(⟨src,x.tm,x.sq⟩:iz).s.agg,x.s.agg,.I q]) L)->
   aS g (.cells ah.S.z.arr 124) λB g'=>
   ah.cY g' (AA B 0) x.s λN=>
   ah.cG N (AA B 0) λt48=>
   aS N (.cells ah.S.z.arr 124) λp i'=>
   ah.cY i' (AA p 0) t48 λO=>
   ax.cG O (AA b 0) λt49=>
   ax.cY O (AA p 0) t49 λd=>
   ah.cG d (AA p 0) λt51=>
   ah.cG d (AA B 0) λt52=>
   ah.cY d (AA b1 0) t51 λP=>
   Kp d P [(some (AA B 0))]/\
   ah.cY P (AA o 0) t52 λu=>
   ah.cG u (AA b1 0) λm'=>
   ah.cG u (AA o 0) λn'=>
   R (.tuple #[m'.agg,n'.agg,.I q]) u:=by
  intro g x q f hk;refine ah.gh (x:=x.s) λb4 t' r' z f14=>ah.fK z (ah.gh (x:=x.s) λb5 u' s' k' f16=> ?_)
  have C:=f.tt (f14.tt f16);have zg:=f.1;have y':=f14.1;have w':b1≠b4:=by have:=aF i;omega
  have x':b1≠b5:=by have:=aF i;omega
  have W:o≠b1:=by have:=aF i;omega
  refine ic src (C.get ((f2.tt f3).get hb id) id) rfl rfl rfl rfl rfl (SM src k' λc' l' f17=>ah.fK (x:=(⟨src,x.tm,x.sq⟩:iz).s) l' (ah.fK (x:=x.s) (f17.get (f16.get z id) (cf (aF z))) ?_));have j:Fr No r c':=C.fresh f17 (λy e=>ae);refine ah.gO (x:=(⟨src,x.tm,x.sq⟩:iz).s) (j.get (f3.get i id) id) λv' d18 f18 _=>⟨Bn.T0 f18 (by simp;omega),ah.gO (x:=x.s) (f18.get (j.get j' id) W) λd' d19 f19 _=>ah.fK (x:=(⟨src,x.tm,x.sq⟩:iz).s) (f19.get d18 W.symm) (ah.fK (x:=x.s) d19 (hk d' ?_))⟩
  exact((D.tt j).fresh f18 (λy e=>ae)).fresh f19 (λy e=>ae)
 refine aK.of λJ hJ=> ?_
 have key: ∀v,(v=true↔0<σ.tm\/0<σ.sq)->J v t:=by
  intro v U;subst hJ;dsimp only;refine aK.of λJ1 f'=> ?_
  have fin: ∀g,Mk g m σ.e σ.tm σ.sq->Fr (λy=>y=m) t g->J1 g:=by
   intro g Mg f;subst f';have F:Fr No r g:=Y.fresh f (λy e=>ae);have Z:=l.on F;unfold nm at A V;refine⟨_,aw Z.cR,Mz Mg σ.now G.n G.t.2 (λc1 a a' f12=> ?_) (λc1 E a a' f12=> ?_) (λc1 E a f12=> ?_)⟩
   .exact ah.ex (⟨σ.e,σ.now,0⟩:iz).s ⟨_,rfl,T a ⟨σ.e,σ.now,0⟩ 0 (F.fresh f12 (λy e=>ae)) (A (σ.now,0) (af c1))⟩
   .exact ah.ex (⟨σ.e,σ.tm,σ.sq+1⟩:iz).s ⟨_,rfl,T a ⟨σ.e,σ.tm,σ.sq+1⟩ 0 (F.fresh f12 (λy e=>ae)) (A (σ.tm,σ.sq+1) ((ag c1).trans (cW)))⟩
   .exact ah.ex iz.zero.s ⟨_,rfl,T a .zero 5 (F.tt f12) (V ((ag c1).trans (af E)))⟩
  cases v with
  |true=>
   rw[af rfl];have hr:gx ⟨σ.e,σ.tm,σ.sq⟩=true:=by unfold gx;rw[G.e.1,aq G.t.1,aq G.t.2];rfl
   exact ah.fK (x:=(⟨σ.e,σ.tm,σ.sq⟩:iz).s) w (Ei M ⟨σ.e,σ.tm,σ.sq⟩ rfl hr (by have:=U.1 rfl;show 0<σ.tm\/0=σ.tm/\0<σ.sq;omega) λe' b' f20=>⟨_,rfl,fin e' b' f20⟩)
  |false=>
   rw[cW];have c: ¬(0<σ.tm\/0<σ.sq):=λc=>by have:=U.2 c;cases this
   have e1:σ.tm=0:=ae
   have e2:σ.sq=0:=ae
   exact fin t (by rw[e1,e2];exact M) (Fr.refl _ _)
 refine⟨_,aw w,?_⟩;by_cases c:0<σ.tm
 .rw[af (aq (by show((σ.tm:Nat):Int)>0;omega))];exact key true ⟨λ_=> .inl c,λ_=>rfl⟩
 .rw[ag (by simp only[aY];show¬((σ.tm:Nat):Int)>0;omega)];refine⟨_,aw w,key _ ⟨λe=> .inr (by have e:((σ.sq:Nat):Int)>0:=aQ e;omega),λe=>aq (by show((σ.sq:Nat):Int)>0;omega)⟩⟩

end Ask
end
section
variable {h:ai} {R:fx}
variable {x:aH.S}
theorem Cj.walk{a:aH.S}{b:aH.S}(f:aS h (.cells a.arr 47) λB e=>aS e (.cells b.arr 47) λc H=>Hu H B 0 λt6=> ∃t8,Cc H c 0 (.U t8)/\if(t6==t8)then Hi H B 1 λt12=> ∃t14,Cc H c 1 (.I t14)/\if(t12==t14)then ax.cG H (AA B 2) λt19=>ax.cG H (AA c 2) λt21=> ∃(eq:Bool),vw Tryz.prog 29 (t19.agg) (t21.agg) eq/\if eq then ax.cG H (AA B 7) λt26=>ax.cG H (AA c 7) λt28=> ∃(eq_1:Bool),vw Tryz.prog 29 (t26.agg) (t28.agg) eq_1/\if eq_1 then Hi H B 12 λt33=> ∃t35,Cc H c 12 (.I t35)/\if(t33==t35)then Hi H B 13 λt40=> ∃t42,Cc H c 13 (.I t42)/\if(t40==t42)then Hi H B 14 λt47=> ∃t49,Cc H c 14 (.I t49)/\if(t47==t49)then Hl H B 15 λg T t=>Hl H c 15 λk j i=>Cl 82 #[.slice g T t,.slice k j i] H λv d=> ∃t57,v=.bool t57/\if t57 then Hu d B 16 λt61=> ∃t63,Cc d c 16 (.U t63)/\if(t61==t63)then Hu d B 17 λt68=> ∃t70,Cc d c 17 (.U t70)/\if(t68==t70)then Hb d B 18 λt75=> ∃t77,Cc d c 18 (.bool t77)/\R (.bool (t75==t77)) d else R (.bool false) d else R (.bool false) d else R (.bool false) d else R (.bool false) H else R (.bool false) H else R (.bool false) H else R (.bool false) H else R (.bool false) H else R (.bool false) H else R (.bool false) H):ar Tryz.prog 80 #[a.agg,b.agg] h R:=aR (lq ll) Tryz.func80 f
theorem Ej.walk (W:aS h (.cells x.arr 47) λb C=>aS C (.cells aH.S.z.arr 47) λu g=>Hu g b 0 λt5=>Hi g b 1 λt7=>aS g (.cells aH.S.z.arr 47) λB T=>aH.cY T (AA B 0) ⟨t5,t7,false,0,0,gi,gi,false,0,0,gi,gi,0,0,0,none,0,0,0,0,false⟩ λi=>Hi i b 1 λt10=>aK (λ(y:ai)=>aH.cG y (AA B 0) λt68=>aH.cY y (AA u 0) t68 λz=>aH.cG z (AA u 0) λX=>R (X.agg) z) (λJ=>aK (λ(t11:Bool) (c:ai)=>aK (λ(V:ai)=>J V) (λm=>if t11 then ax.cG c (AA b 2) λt15=>Hi c b 12 λt17=>ax.cY c (AA B 2) t15 λA=>Kp c A [(some (AA b 12))]/\aE A (AA B 12) (.I t17) λD=>m D else aK (λ(t20:Bool) (H:ai)=>aK (λ(E:ai)=>m E) (λo=>if t20 then ax.cG H (AA b 2) λt24=>ax.cY H (AA B 2) t24 λF=>o F else aK (λ(G:ai)=>o G) (λp=>if(t10==4)then ax.cG H (AA b 2) λt29=>ax.cG H (AA b 7) λt31=>Hl H b 15 λa' Z Y=>Hu H b 16 λt35=>Hb H b 18 λt37=>ax.cY H (AA B 2) t29 λd=>Kp H d [(some (AA b 18)),(some (AA b 16)),(some (AA b 15)),(some (AA b 7))]/\ax.cY d (AA B 7) t31 λe=>Kp d e [(some (AA b 18)),(some (AA b 16)),(some (AA b 15))]/\aE e (AA B 15) (.slice a' Z Y) λf=>Kp e f [(some (AA b 18)),(some (AA b 16))]/\aE f (AA B 16) (.U t35) λv=>Kp f v [(some (AA b 18))]/\aE v (AA B 18) (.bool t37) λI=>p I else aK (λ(t43:Bool) (a:ai)=>aK (λ(K:ai)=>p K) (λr=>if t43 then∃t48,Cc a b 13 (.I t48)/\aE a (AA B 13) (.I t48) λL=>r L else aK (λ(M:ai)=>r M) (λs=>if(t10==7)then ax.cG a (AA b 2) λt53=>Hi a b 14 λt55=>ax.cY a (AA B 2) t53 λw=>Kp a w [(some (AA b 14))]/\aE w (AA B 14) (.I t55) λN=>s N else aK (λ(O:ai)=>s O) (λt=>if(t10==10)then∃t61,Cc a b 18 (.bool t61)/\aE a (AA B 18) (.bool t61) λP=>t P else aK (λ(Q:ai)=>t Q) (λk=>if(t10==12)then∃t66,Cc a b 17 (.U t66)/\aE a (AA B 17) (.U t66) λS=>k S else k a))))) (λq=>if(t10==5)then q (t10==5) H else aK (λ(b':Bool) (U:ai)=>q b' U) (λl=>if(t10==8)then l (t10==8) H else l (t10==9) H))))) (λn=>if(t10==2)then n (t10==2) c else n (t10==6) c))) (λj=>if(t10==1)then j (t10==1) i else j (t10==3) i))):ar Tryz.prog 81 #[x.agg] h R:=aR (lq (lq (sq (lq (.join [] (bq (sq (lq (.join [(11,.one (.bool))] (cq lf lf))) (.join [] (cq (pK 8) (sq (lq (.join [(20,.one (.bool))] (cq lf lf))) (.join [] (cq lf (lq (.join [] (cq (pK 20) (sq (lq (.join [(43,.one (.bool))] (cq lf (lq (.join [(43,.one (.bool))] (cq lf lf)))))) (.join [] (cq lf (lq (.join [] (cq (pK 8) (lq (.join [] (cq lf (lq (.join [] (cq lf lf)))))))))))))))))))))))) ll))) Tryz.func81 W
theorem yL.walk{x:ax.S}(c:aS h (.cells x.arr 29) λb a=>ax.cG a (AA b 0) λt3=>Cl 86 #[t3.agg] a λv H=> ∃t4,v=.bool t4/\if t4 then ax.cG H (AA b 0) λt6=> ∃(eq:Bool),vw Tryz.prog 29 (t6.agg) (ax.S.z.agg) eq/\R (.bool (!eq)) H else R (.bool false) H):ar Tryz.prog 139 #[x.agg] h R:=aR (lq ll) Tryz.func139 c
theorem zU.walk (o:aS h (.cells x.arr 47) λb g=>Hi g b 1 λt4=>aK (λ(t5:Bool) (f:ai)=>if t5 then ax.cG f (AA b 2) λt9=>Cl 139 #[t9.agg] f λv d=> ∃t10,v=.bool t10/\if t10 then∃t13,Cc d b 12 (.I t13)/\if(decide (t13≥0))then∃t18,Cc d b 12 (.I t18)/\R (.bool (decide (t18<=2))) d else R (.bool false) d else R (.bool false) d else aK (λ(t21:Bool) (a:ai)=>if t21 then ax.cG a (AA b 2) λt25=>Cl 139 #[t25.agg] a λV n=> ∃t26,V=.bool t26/\R (.bool t26) n else if(t4==4)then ax.cG a (AA b 2) λt30=>Cl 139 #[t30.agg] a λr i=> ∃t31,r=.bool t31/\if t31 then ax.cG i (AA b 7) λt34=>Cl 139 #[t34.agg] i λs c=> ∃t35,s=.bool t35/\if t35 then∃p t T,Cc c b 15 (.slice p t T)/\if(decide (((t:Nat):Int)<=200))then∃t45,Cc c b 16 (.U t45)/\if(decide (t45≥1))then∃t50,Cc c b 16 (.U t50)/\R (.bool (decide (t50<=1099511627776))) c else R (.bool false) c else R (.bool false) c else R (.bool false) c else R (.bool false) i else aK (λ(t53:Bool) (H:ai)=>if t53 then∃t58,Cc H b 13 (.I t58)/\if(decide (t58≥1))then∃t62,Cc H b 13 (.I t62)/\R (.bool (decide (t62<=1099511627776))) H else R (.bool false) H else if(t4==7)then ax.cG H (AA b 2) λt68=>Cl 139 #[t68.agg] H λu e=> ∃t69,u=.bool t69/\if t69 then∃t72,Cc e b 14 (.I t72)/\if(decide (t72≥1))then∃t77,Cc e b 14 (.I t77)/\R (.bool (decide (t77<=1000))) e else R (.bool false) e else R (.bool false) e else if(t4==12)then∃t83,Cc H b 17 (.U t83)/\if(decide (t83≥1))then∃t87,Cc H b 17 (.U t87)/\R (.bool (decide (t87<=2147483648))) H else R (.bool false) H else∃t91,Cc H b 1 (.I t91)/\if(t91==10)then R (.bool true) H else∃t95,Cc H b 1 (.I t95)/\R (.bool (t95==11)) H) (λk=>if(t4==5)then k (t4==5) a else aK (λ(q:Bool) (m:ai)=>k q m) (λl=>if(t4==8)then l (t4==8) a else l (t4==9) a))) (λj=>if(t4==2)then j (t4==2) f else j (t4==6) f)) (λJ=>if(t4==1)then J (t4==1) g else J (t4==3) g)):ar Tryz.prog 79 #[x.agg] h R:=aR (lq (sq (lq (bq (sq (lq (.join [(5,.one (.bool))] (cq lf lf))) (cq ll (sq (lq (.join [(21,.one (.bool))] (cq lf lf))) (cq ll (lq (cq ll (sq (lq (.join [(53,.one (.bool))] (cq lf (lq (.join [(53,.one (.bool))] (cq lf lf)))))) (cq ll (lq (cq ll (lq (cq ll lf)))))))))))))) ll)) Tryz.func79 o
theorem zV.walk(e:aS h (.cells x.arr 47) λb H=> ∃t4,Cc H b 0 (.U t4)/\if(decide (t4≥1))then∃t8,Cc H b 0 (.U t8)/\if(decide (t8<=1099511627776))then aH.cG H (AA b 0) λt12=>Cl 79 #[t12.agg] H λv a=> ∃t13,v=.bool t13/\Kp H a [(some (AA b 0)),(some (AA b 0))]/\if t13 then aH.cG a (AA b 0) λt16=>aH.cG a (AA b 0) λt17=>Cl 81 #[t17.agg] a λV c=>aH.EX λt18=>V=t18.agg/\Kp a c [(some (AA b 0)),(some (AA b 0)),(some (AA b 0))]/\Cl 80 #[t16.agg,t18.agg] c λf d=> ∃t19,f=.bool t19/\Kp c d [(some (AA b 0)),(some (AA b 0))]/\R (.bool t19) d else R (.bool false) a else R (.bool false) H else R (.bool false) H):ar Tryz.prog 29 #[x.agg] h R:=aR (lq (sq (pK 19) lf)) Tryz.func29 e

end
section
namespace Ask
open jc (Ev cK ku)
open Bn (ic)
variable {h h' g:ai} {R:fx} {p q:cj} {c d:Nat}
variable {b:Nat} {y:aH.S} {x:ax.S} {K:ai->Prop}
abbrev Rq.s(x:Rq)(p:cj)(c:Nat):aH.S:=⟨x.id,x.kind,x.ep.kH,x.ep.node,x.ep.gH,x.ep.host,x.ep.jD,x.dest.kH,x.dest.node,x.dest.gH,x.dest.host,x.dest.jD,x.j1,x.num,x.gk,p,x.oD.length,c,x.eH,x.token,x.on⟩
theorem vo{P:Prop}{b:Bool}(H:b=true->P)(a:b=false->P):P:=by cases b;exact a rfl;exact H rfl
theorem MA(x y:Rq)(A:Row h p (bc x.oD))(B:Row h q (bc y.oD))(hk: gW h R (.bool (decide (x=y)))):ar Tryz.prog 80 #[(x.s p c).agg,(y.s q d).agg] h R:=by
 refine Cj.walk (aH.cT λb G E z f1=>aH.cT λb1 H D f f2=> ?_);have i:=f2.get z id;have F:=f1.tt f2;have no: ∀g,Fr No h g->x≠y->R (.bool false) g:=λg w e=>by have:=hk g w;rw[az e]at this;exact this
 have I: ∀(a b:Int)(m n:Nat),a=m->b=n->m≠n->¬(a==b)=true:=λa b m n e1 e2 e=>by rw[e1,e2];simp only[cP];omega
 refine⟨_,aw i,_,aw f,?_⟩;by_cases c1:x.id=y.id
 case neg=>rw[ag (I _ _ _ _ rfl rfl c1)];exact no H F (λe=>c1 (by rw[e]))
 rw[af (by show((x.id:Int)==(y.id:Int))=true;rw[c1];simp)];refine⟨_,aw i,_,aw f,?_⟩;by_cases k:x.kind=y.kind
 case neg=>rw[ag (by show¬(x.kind==y.kind)=true;simpa using k)];exact no H F (λe=>k (by rw[e]))
 rw[af (by show(x.kind==y.kind)=true;simpa using k)];refine ic x.ep i rfl rfl rfl rfl rfl (ic y.ep f rfl rfl rfl rfl rfl ⟨_,jc.wj (x:=x.ep) (y:=y.ep) rfl rfl,?_⟩);by_cases l:x.ep=y.ep
 case neg=>rw[ag (cD l)];exact no H F (λe=>l (by rw[e]))
 rw[af (cD l)];refine ic x.dest i rfl rfl rfl rfl rfl (ic y.dest f rfl rfl rfl rfl rfl ⟨_,jc.wj (x:=x.dest) (y:=y.dest) rfl rfl,?_⟩);by_cases o:x.dest=y.dest
 case neg=>rw[ag (cD o)];exact no H F (λe=>o (by rw[e]))
 rw[af (cD o)];refine⟨_,aw i,_,aw f,?_⟩;by_cases r:x.j1=y.j1
 case neg=>rw[ag (by show¬(x.j1==y.j1)=true;simpa using r)];exact no H F (λe=>r (by rw[e]))
 rw[af (by show(x.j1==y.j1)=true;simpa using r)];refine⟨_,aw i,_,aw f,?_⟩;by_cases s:x.num=y.num
 case neg=>rw[ag (by show¬(x.num==y.num)=true;simpa using s)];exact no H F (λe=>s (by rw[e]))
 rw[af (by show(x.num==y.num)=true;simpa using s)];refine⟨_,aw i,_,aw f,?_⟩;by_cases t:x.gk=y.gk
 case neg=>rw[ag (by show¬(x.gk==y.gk)=true;simpa using t)];exact no H F (λe=>t (by rw[e]))
 rw[af (by show(x.gk==y.gk)=true;simpa using t)];refine⟨_,_,_,aw i,_,_,_,aw f,Cb.ot (A.frame F (λ_ _=>id)) (B.frame F (λ_ _=>id)) rfl rfl ⟨_,rfl,?_⟩⟩;by_cases u:x.oD=y.oD
 case neg=>rw[ag (cD u)];exact no H F (λe=>u (by rw[e]))
 rw[af (cD u)];refine⟨_,aw i,_,aw f,?_⟩;by_cases v:x.eH=y.eH
 case neg=>rw[ag (I _ _ _ _ rfl rfl v)];exact no H F (λe=>v (by rw[e]))
 rw[af (by show((x.eH:Int)==(y.eH:Int))=true;rw[v];simp)];refine⟨_,aw i,_,aw f,?_⟩;by_cases C:x.token=y.token
 case neg=>rw[ag (I _ _ _ _ rfl rfl C)];exact no H F (λe=>C (by rw[e]))
 rw[af (by show((x.token:Int)==(y.token:Int))=true;rw[C];simp)];refine⟨_,aw i,_,aw f,?_⟩;have:=hk H F;have e:decide (x=y)=(x.on==y.on):=by
  by_cases j:x.on=y.on
  .have:x=y:=by cases x;cases y;simp only at c1 k l o r s t u v C j;simp[c1,k,l,o,r,s,t,u,v,C,j]
   rw[aq this,j];simp
  .rw[az (λe=>j (by rw[e]))];simpa using j
 rw[e]at this;exact this
theorem nz(e:Ev)(hk: gW h R (.bool (jT e))):ar Tryz.prog 139 #[e.s.agg] h R:=by
 refine yL.walk (ax.cT λb f E a f1=>ax.fK (x:=e.s) a (jc.eX e λH f2=>⟨_,rfl,?_⟩));unfold jT at hk;cases c1:cK e with
 |false=>rw[c1]at hk;rw[cW];exact hk H (f1.tt f2)
 |true=>rw[c1]at hk;rw[af rfl];exact ax.fK (x:=e.s) (f2.get a id) ⟨_,jc.wj (x:=e) (y:=.zero) rfl rfl,hk H (f1.tt f2)⟩
theorem OB(a:aH.fN h b y)(hk: ∀h',aH.fN h' b { y with f2:=x.f0,f3:=x.f1,f4:=x.f2,f5:=x.f3,f6:=x.f4 } ->Fr (λy=>y=b) h h'->K h'):ax.cY h (AA b 2) x K:=
 (show eS (AA b 2) x.l 0 h K from k7 (off:=2) (ws:=aH.S.l { y with f2:=x.f0,f3:=x.f1,f4:=x.f2,f5:=x.f3,f6:=x.f4 }) a (by show 2+5<=19;omega) rfl rfl λH d1 d2 d3=>hk H d1 (Fr.of_eq d2 λc e=>d3 c e))
theorem Q5(a:aH.fN h b y)(hk: ∀h',aH.fN h' b { y with f7:=x.f0,f8:=x.f1,f9:=x.f2,f10:=x.f3,f11:=x.f4 } ->Fr (λy=>y=b) h h'->K h'):ax.cY h (AA b 7) x K:=
 (show eS (AA b 7) x.l 0 h K from k7 (off:=7) (ws:=aH.S.l { y with f7:=x.f0,f8:=x.f1,f9:=x.f2,f10:=x.f3,f11:=x.f4 }) a (by show 7+5<=19;omega) rfl rfl λH d1 d2 d3=>hk H d1 (Fr.of_eq d2 λc e=>d3 c e))
theorem pZ{i:Nat}{z:aH.S}{v:Value}(a:aH.fN h b y)(f:i<19)(j:y.arr.setIfInBounds i v=z.arr)(hk: ∀h',aH.fN h' b z->Fr (λy=>y=b) h h'->K h'):aE h (AA b i) v K:=
 bB a f λH d1 d2 d3=>hk H (by unfold aH.fN;rw[<-j];exact d1) (Fr.of_eq d2 λc e=>d3 c e)
theorem OC{B:Nat}{l:List (cj)}(f:Fr (λy=>y=B) h h')(ne:b≠B)(a: ∀p∈l,p.map (·.block)=some b):Kp h h' l:=f.Tt λp i x e H=>ne (by have:=a p i;rw[e]at this;exact(bn this).symm.trans H)
theorem bq{n k:Int}:((n==k)=true↔n=k):=cP
theorem Gg(x:Rq)(rx:Row h p (bc x.oD))(hk: ∀h' P C,Row h' P (bc (oN x).oD)->Fr No h h'->R ((oN x).s P C).agg h'):ar Tryz.prog 81 #[(x.s p c).agg] h R:=by
 refine Ej.walk (aH.cT λb h1 eb I f1=>aH.cT λb1 h2 g' U f2=>⟨_,aw (f2.get I id),_,aw (f2.get I id),aH.gh (x:=(iA x).s none 0) λB t i' l f4=> ?_⟩);have H:=(f2.tt f4).get I id;have F4:=f1.tt (f2.tt f4);have zb:=aF I;have k':=aF U;have z1:=f1.1;have z2:=f2.1;have ne:b≠B:=ae
 have j':b1≠B:=ae
 refine⟨_,aw H,aK.of λJ hJ=>aK.of λW a'=> ?_⟩;have fin: ∀g P C,aH.fN g B ((oN x).s P C)->Row h P (bc (oN x).oD)->Fr (λy=>y=B) t g->J g:=by
  intro g P C hg hr fg;have Q:Fr No h2 g:=f4.fresh fg (λy e=>ae);have G:=(f1.tt f2).tt Q;subst hJ;refine aH.fK hg (aH.gO (x:=(oN x).s P C) (Q.get U id) λh6 d6 f6 _=>aH.fK d6 ?_);have S:=G.fresh f6 (λy e=>ae);exact hk h6 P C (hr.frame S (λ_ _=>id)) S
 have N:Row h none (bc []):=Row.nil;have key: ∀v,(v=true↔x.kind=1\/x.kind=3)->W v t:=by
  intro v m;subst a';dsimp only;refine aK.of λJ2 j=> ?_
  by_cases k:x.kind=1\/x.kind=3
  .have E:oN x= { iA x with ep:=x.ep,j1:=x.j1 } :=af k;rw[E]at fin;rw[af (m.2 k)];exact ic x.ep H rfl rfl rfl rfl rfl ⟨_,aw H,OB l λi e1 f5=>⟨OC f5 ne bM,pZ (z:=({ iA x with ep:=x.ep,j1:=x.j1 } :Rq).s none 0) e1 cM rfl λD e2 f6=>by subst j;exact fin D none 0 e2 N (f5.tt f6)⟩⟩
  rw[ag (λe=>k (m.1 e))];refine aK.of λX c'=> ?_
  have V: ∀v,(v=true↔x.kind=2\/x.kind=6)->X v t:=by
   intro v m;subst c';dsimp only;refine aK.of λJ4 o=> ?_
   by_cases a:x.kind=2\/x.kind=6
   .have E:oN x= { iA x with ep:=x.ep } :=(ag k).trans (af a);rw[E]at fin;rw[af (m.2 a)];exact ic x.ep H rfl rfl rfl rfl rfl (OB l λi e1 f5=>by subst o;subst j;exact fin i none 0 e1 N f5)
   rw[ag (λe=>a (m.1 e))];refine aK.of λJ5 r=> ?_
   by_cases n:x.kind=4
   .have E:oN x= { iA x with ep:=x.ep,dest:=x.dest,oD:=x.oD,eH:=x.eH,on:=x.on } :=(ag k).trans ((ag a).trans (af n));rw[E]at fin;rw[af (bq.2 n)];refine ic x.ep H rfl rfl rfl rfl rfl (ic x.dest H rfl rfl rfl rfl rfl ⟨_,_,_,aw H,_,aw H,_,aw H,OB l λi e1 f5=>⟨OC f5 ne bM,Q5 e1 λD e2 f6=>⟨OC f6 ne bM,?_⟩⟩⟩);refine pZ (z:=({ iA x with ep:=x.ep,dest:=x.dest,oD:=x.oD } :Rq).s p c) e2 cM rfl λg3 Z f7=>⟨OC f7 ne bM,?_⟩
    refine pZ (z:=({ iA x with ep:=x.ep,dest:=x.dest,oD:=x.oD,eH:=x.eH } :Rq).s p c) Z cM rfl λg4 e4 f8=>⟨OC f8 ne bM,?_⟩
    refine pZ (z:=({ iA x with ep:=x.ep,dest:=x.dest,oD:=x.oD,eH:=x.eH,on:=x.on } :Rq).s p c) e4 cM rfl λg5 e5 f9=> ?_
    subst r;subst o;subst j;exact fin g5 p c e5 rx (f5.tt (f6.tt (f7.tt (f8.tt f9))))
   rw[ag (λe=>n (bq.1 e))];refine aK.of λY d'=> ?_
   have O: ∀v,(v=true↔x.kind=5\/x.kind=8\/x.kind=9)->Y v t:=by
    intro v m;subst d';dsimp only;refine aK.of λJ7 u=> ?_
    by_cases f:x.kind=5\/x.kind=8\/x.kind=9
    .have E:oN x= { iA x with num:=x.num } :=(ag k).trans ((ag a).trans ((ag n).trans (af f)));rw[E]at fin;rw[af (m.2 f)];exact⟨_,aw H,pZ (z:=({ iA x with num:=x.num } :Rq).s none 0) l cM rfl λi e1 f5=>by subst u;subst r;subst o;subst j;exact fin i none 0 e1 N f5⟩
    rw[ag (λe=>f (m.1 e))];refine aK.of λJ8 F=> ?_
    by_cases s:x.kind=7
    .have E:oN x= { iA x with ep:=x.ep,gk:=x.gk } :=(ag k).trans ((ag a).trans ((ag n).trans ((ag f).trans (af s))));rw[E]at fin;rw[af (bq.2 s)];exact ic x.ep H rfl rfl rfl rfl rfl ⟨_,aw H,OB l λi e1 f5=>⟨OC f5 ne bM,pZ (z:=({ iA x with ep:=x.ep,gk:=x.gk } :Rq).s none 0) e1 cM rfl λD e2 f6=>by subst F;subst u;subst r;subst o;subst j;exact fin D none 0 e2 N (f5.tt f6)⟩⟩
    rw[ag (λe=>s (bq.1 e))];refine aK.of λJ9 M=> ?_
    by_cases w:x.kind=10
    .have E:oN x= { iA x with on:=x.on } :=(ag k).trans ((ag a).trans ((ag n).trans ((ag f).trans ((ag s).trans (af w)))));rw[E]at fin;rw[af (bq.2 w)];exact⟨_,aw H,pZ (z:=({ iA x with on:=x.on } :Rq).s none 0) l cM rfl λi e1 f5=>by subst M;subst F;subst u;subst r;subst o;subst j;exact fin i none 0 e1 N f5⟩
    rw[ag (λe=>w (bq.1 e))];refine aK.of λe' T=> ?_
    by_cases L:x.kind=12
    .have E:oN x= { iA x with token:=x.token } :=(ag k).trans ((ag a).trans ((ag n).trans ((ag f).trans ((ag s).trans ((ag w).trans (af L))))));rw[E]at fin;rw[af (bq.2 L)];exact⟨_,aw H,pZ (z:=({ iA x with token:=x.token } :Rq).s none 0) l cM rfl λi e1 f5=>by subst T;subst M;subst F;subst u;subst r;subst o;subst j;exact fin i none 0 e1 N f5⟩
    rw[ag (λe=>L (bq.1 e))];have E:oN x=iA x:=(ag k).trans ((ag a).trans ((ag n).trans ((ag f).trans ((ag s).trans ((ag w).trans (ag L))))));rw[E]at fin;subst T;subst M;subst F;subst u;subst r;subst o;subst j;exact fin t none 0 l N (Fr.refl _ _)
   by_cases f:x.kind=5
   .rw[af (bq.2 f)];exact O _ ⟨λ_=> .inl f,λ_=>bq.2 f⟩
   rw[ag (λe=>f (bq.1 e))];refine aK.of λf' b'=> ?_
   subst b';dsimp only;by_cases A:x.kind=8
   .rw[af (bq.2 A)];exact O _ ⟨λ_=> .inr (.inl A),λ_=>bq.2 A⟩
   rw[ag (λe=>A (bq.1 e))];exact O _ ⟨λe=> .inr (.inr (bq.1 e)),λe=>bq.2 ((e.resolve_left f).resolve_left A)⟩
  by_cases a:x.kind=2
  .rw[af (bq.2 a)];exact V _ ⟨λ_=> .inl a,λ_=>bq.2 a⟩
  rw[ag (λe=>a (bq.1 e))];exact V _ ⟨λe=> .inr (bq.1 e),λe=>bq.2 (e.resolve_left a)⟩
 by_cases k:x.kind=1
 .rw[af (bq.2 k)];exact key _ ⟨λ_=> .inl k,λ_=>bq.2 k⟩
 rw[ag (λe=>k (bq.1 e))];exact key _ ⟨λe=> .inr (bq.1 e),λe=>bq.2 (e.resolve_left k)⟩
theorem Gr(n k:Nat):decide ((n:Int)≥(k:Int))=decide (n≥k):=by by_cases e:n≥k<;>simp[e]<;>omega
theorem MB(x:Rq)(hk: gW h R (.bool (jL x))):ar Tryz.prog 79 #[(x.s p c).agg] h R:=by
 refine zU.walk (aH.cT λb t V H f1=>⟨_,aw H,aK.of λJ O=> ?_⟩);have key: ∀v,(v=true↔x.kind=1\/x.kind=3)->J v t:=by
  intro v j;subst O;dsimp only;by_cases k:x.kind=1\/x.kind=3
  .have E:jL x=(jT x.ep && decide (x.j1≥0) && decide (x.j1<=2)):=af k;rw[E]at hk;rw[af (j.2 k)];refine ic x.ep H rfl rfl rfl rfl rfl (nz x.ep λm f3=>⟨_,rfl,?_⟩);have i:=f3.get H id;have hk:=hk m (f1.tt f3);refine vo (λc1=> ?_) (λc1=> ?_) (b:=jT x.ep)
   .rw[c1]at hk⊢;rw[af rfl];refine⟨_,aw i,?_⟩;refine vo (λC=> ?_) (λC=> ?_) (b:=decide (x.j1≥0))
    .rw[af C];rw[C]at hk;exact⟨_,aw i,hk⟩
    .rw[ag (by rw[C];decide)];rw[C]at hk;exact hk
   .rw[c1]at hk⊢;rw[cW];exact hk
  rw[ag (λe=>k (j.1 e))];refine aK.of λI Q=> ?_
  have G: ∀v,(v=true↔x.kind=2\/x.kind=6)->I v t:=by
   intro v j;subst Q;dsimp only;by_cases a:x.kind=2\/x.kind=6
   .have E:jL x=jT x.ep:=(ag k).trans (af a);rw[E]at hk;rw[af (j.2 a)];exact ic x.ep H rfl rfl rfl rfl rfl (nz x.ep λm f3=>⟨_,rfl,hk m (f1.tt f3)⟩)
   rw[ag (λe=>a (j.1 e))];by_cases n:x.kind=4
   .have E:jL x=(jT x.ep && jT x.dest && decide (x.oD.length<=200) && decide (x.eH≥1) && decide (x.eH<=1099511627776)):=(ag k).trans ((ag a).trans (af n));rw[E]at hk;rw[af (bq.2 n)];refine ic x.ep H rfl rfl rfl rfl rfl (nz x.ep λm f3=>⟨_,rfl,?_⟩);have i:=f3.get H id;refine vo (λc1=> ?_) (λc1=> ?_) (b:=jT x.ep)
    .rw[c1]at hk⊢;rw[af rfl];refine ic x.dest i rfl rfl rfl rfl rfl (nz x.dest λN f4=>⟨_,rfl,?_⟩);have B:=f4.get i id;have hk:=hk N (f1.tt (f3.tt f4));refine vo (λC=> ?_) (λC=> ?_) (b:=jT x.dest)
     .rw[C]at hk⊢;rw[af rfl];refine⟨_,_,_,aw B,?_⟩;have M:decide (((x.s p c).zA:Int)<=200)=decide (x.oD.length<=200):=Bn.kG x.oD.length 200;rw[M];refine vo (λz=> ?_) (λz=> ?_) (b:=decide (x.oD.length<=200))
      .rw[z]at hk⊢;rw[af rfl];refine⟨_,aw B,?_⟩;have A:decide (((x.s p c).f16:Int)≥1)=decide (x.eH≥1):=Gr x.eH 1;rw[A];refine vo (λl=> ?_) (λl=> ?_) (b:=decide (x.eH≥1))
       .rw[l]at hk⊢;rw[af rfl];refine⟨_,aw B,?_⟩;have o:decide (((x.s p c).f16:Int)<=1099511627776)=decide (x.eH<=1099511627776):=Bn.kG x.eH 1099511627776;rw[o];exact hk
       .rw[l]at hk⊢;rw[cW];exact hk
      .rw[z]at hk⊢;rw[cW];exact hk
     .rw[C]at hk⊢;rw[cW];exact hk
    .rw[c1]at hk⊢;rw[cW];exact hk m (f1.tt f3)
   rw[ag (λe=>n (bq.1 e))];refine aK.of λL S=> ?_
   have F:=hk;have hk:=hk t f1;have D: ∀v,(v=true↔x.kind=5\/x.kind=8\/x.kind=9)->L v t:=by
    intro v j;subst S;dsimp only;by_cases f:x.kind=5\/x.kind=8\/x.kind=9
    .have E:jL x=(decide (x.num≥1) && decide (x.num<=1099511627776)):=(ag k).trans ((ag a).trans ((ag n).trans (af f)));rw[E]at hk;rw[af (j.2 f)];refine⟨_,aw H,?_⟩;refine vo (λC=> ?_) (λC=> ?_) (b:=decide (x.num≥1))
     .rw[af C];rw[C]at hk;exact⟨_,aw H,hk⟩
     .rw[ag (by rw[C];decide)];rw[C]at hk;exact hk
    rw[ag (λe=>f (j.1 e))];by_cases r:x.kind=7
    .have E:jL x=(jT x.ep && decide (x.gk≥1) && decide (x.gk<=1000)):=(ag k).trans ((ag a).trans ((ag n).trans ((ag f).trans (af r))));rw[E]at F;rw[af (bq.2 r)];refine ic x.ep H rfl rfl rfl rfl rfl (nz x.ep λm f3=>⟨_,rfl,?_⟩);have i:=f3.get H id;have hk:=F m (f1.tt f3);refine vo (λc1=> ?_) (λc1=> ?_) (b:=jT x.ep)
     .rw[c1]at hk⊢;rw[af rfl];refine⟨_,aw i,?_⟩;refine vo (λC=> ?_) (λC=> ?_) (b:=decide (x.gk≥1))
      .rw[af C];rw[C]at hk;exact⟨_,aw i,hk⟩
      .rw[ag (by rw[C];decide)];rw[C]at hk;exact hk
     .rw[c1]at hk⊢;rw[cW];exact hk
    rw[ag (λe=>r (bq.1 e))];by_cases w:x.kind=12
    .have E:jL x=(decide (x.token≥1) && decide (x.token<=2147483648)):=(ag k).trans ((ag a).trans ((ag n).trans ((ag f).trans ((ag r).trans (af w)))));rw[E]at hk;rw[af (bq.2 w)];refine⟨_,aw H,?_⟩;have A:decide (((x.s p c).f17:Int)≥1)=decide (x.token≥1):=Gr x.token 1;rw[A];refine vo (λl=> ?_) (λl=> ?_) (b:=decide (x.token≥1))
     .rw[l]at hk⊢;rw[af rfl];refine⟨_,aw H,?_⟩;have o:decide (((x.s p c).f17:Int)<=2147483648)=decide (x.token<=2147483648):=Bn.kG x.token 2147483648;rw[o];exact hk
     .rw[l]at hk⊢;rw[cW];exact hk
    rw[ag (λe=>w (bq.1 e))];have E:jL x=decide (x.kind=10\/x.kind=11):=(ag k).trans ((ag a).trans ((ag n).trans ((ag f).trans ((ag r).trans (ag w)))));rw[E]at hk;refine⟨_,aw H,?_⟩;by_cases u:x.kind=10
    .rw[af (bq.2 u)];rw[aq (.inl u)]at hk;exact hk
    .rw[ag (λe=>u (bq.1 e))];refine⟨_,aw H,?_⟩;have o:decide (x.kind=10\/x.kind=11)=(x.kind==11):=by by_cases T:x.kind=11<;>simp[u,T]
     rw[o]at hk;exact hk
   by_cases f:x.kind=5
   .rw[af (bq.2 f)];exact D _ ⟨λ_=> .inl f,λ_=>bq.2 f⟩
   rw[ag (λe=>f (bq.1 e))];refine aK.of λU P=> ?_
   subst P;dsimp only;by_cases s:x.kind=8
   .rw[af (bq.2 s)];exact D _ ⟨λ_=> .inr (.inl s),λ_=>bq.2 s⟩
   rw[ag (λe=>s (bq.1 e))];exact D _ ⟨λe=> .inr (.inr (bq.1 e)),λe=>bq.2 ((e.resolve_left f).resolve_left s)⟩
  by_cases a:x.kind=2
  .rw[af (bq.2 a)];exact G _ ⟨λ_=> .inl a,λ_=>bq.2 a⟩
  rw[ag (λe=>a (bq.1 e))];exact G _ ⟨λe=> .inr (bq.1 e),λe=>bq.2 (e.resolve_left a)⟩
 by_cases k:x.kind=1
 .rw[af (bq.2 k)];exact key _ ⟨λ_=> .inl k,λ_=>bq.2 k⟩
 rw[ag (λe=>k (bq.1 e))];exact key _ ⟨λe=> .inr (bq.1 e),λe=>bq.2 (e.resolve_left k)⟩
theorem eX(x:Rq)(r:Row h p (bc x.oD))(hk: gW h R (.bool (iG x))):ar Tryz.prog 29 #[(x.s p c).agg] h R:=by
 refine zV.walk (aH.cT λb e n H f1=>⟨_,aw H,?_⟩);unfold iG at hk;have E:decide (((x.s p c).f0:Int)≥1)=decide (x.id≥1):=Gr x.id 1;have j:decide (((x.s p c).f0:Int)<=1099511627776)=decide (x.id<=1099511627776):=Bn.kG x.id 1099511627776;rw[E];refine vo (λc1=> ?_) (λc1=> ?_) (b:=decide (x.id≥1))
 case refine_2=>rw[c1]at hk⊢;rw[cW];exact hk e f1
 rw[c1]at hk⊢;rw[af rfl];refine⟨_,aw H,?_⟩;rw[j];refine vo (λC=> ?_) (λC=> ?_) (b:=decide (x.id<=1099511627776))
 case refine_2=>rw[C]at hk⊢;rw[cW];exact hk e f1
 rw[C]at hk⊢;rw[af rfl];refine aH.fK (x:=x.s p c) H (MB x λk f2=>⟨_,rfl,f2.kp,?_⟩);refine vo (λa=> ?_) (λa=> ?_) (b:=jL x)
 case refine_2=>rw[a]at hk⊢;rw[cW];exact hk k (f1.tt f2)
 rw[a]at hk⊢;rw[af rfl];have f:=f2.get H _root_.id;have F:=f1.tt f2;refine aH.fK (x:=x.s p c) f (aH.fK (x:=x.s p c) f (Gg x (r.frame F (λ_ _=>_root_.id)) λo P i m f3=>aH.ex ((oN x).s P i) ⟨rfl,f3.kp,?_⟩));refine MA x (oN x) (r.frame (F.tt f3) (λ_ _=>_root_.id)) m λl f4=>⟨_,rfl,f4.kp,?_⟩
 exact hk l (F.tt (f3.tt f4))

end Ask
end
end Go.Proofs.YtlenamcfacpheaaGreatDoor
namespace Go.Den
section
variable {h:ai}
def idxOf{α:Type}(P:α->Bool)(xs:List α):Int:=match xs.findIdx? P with|some k=>(k:Int)|none=> -1
theorem Ek{α:Type}(P:α->Bool){xs:List α}{n:Nat}{R:fx}(B:Int->ai->(Bool->ai->Prop)->Prop)(l:n=xs.length)(s:xs.length<=1000000000)(d: ∀(k:Nat) g x K,xs[k]? =some x->Fr No h g->(∀G,Fr No h G->K (P x) G)->B (k:Int) g K)(hk: ∀g,Fr No h g->R (.I (idxOf P xs)) g):
  ∃(I:Int->ai->Prop)(m:Int->ai->Nat),I 0 h/\∀(t:Int)(g:ai),I t g->if(decide (t<(n:Int)))=true then B t g (λq a=>if q=true then R (.I t) a else(I (IntKind.wrap .i64 (t+1)) a/\m (IntKind.wrap .i64 (t+1)) a<m t g))else R (.I (-1)) g:=by
 subst l;refine⟨λi g=>Fr No h g/\∃k:Nat,i=(k:Int)/\k<=xs.length/\∀j (H:j<xs.length),j<k->¬P xs[j]=true,λi _=>xs.length - i.toNat,⟨Fr.refl _ _,0,rfl,ae,λj _ H=>ae⟩,?_⟩;rintro _ g ⟨f,k,rfl,r,b⟩;by_cases c:k<xs.length
 .rw[fO];refine d k g xs[k] _ (aj c) f λG F=> ?_
  by_cases e:P xs[k]=true
  .rw[af e];have:idxOf P xs=(k:Int):=by
    unfold idxOf;rw[show xs.findIdx? P=some k from cv.2 ⟨c,e,λj H=>b j ae H⟩]
   rw[this]at hk;exact hk G F
  .rw[ag e,bz ae ae];refine⟨⟨F,k+1,ae,ae,λj H p=> ?_⟩,by show xs.length - Int.toNat ((k:Int)+1)<xs.length - Int.toNat (k:Int);omega⟩;by_cases q:j=k
   .subst q;exact e
   .exact b j H ae
 .rw[ag (λq=>c (cf (aQ q)))];have:idxOf P xs= -1:=by
   unfold idxOf;rw[show xs.findIdx? P=none from cV.2 λx o=> ?_];obtain⟨j,H,rfl⟩:=List.getElem_of_mem o;exact Bool.not_eq_true _▸b j H ae
  rw[this]at hk;exact hk g f

end
end Go.Den
namespace Go.Proofs.YtlenamcfacpheaaGreatDoor
open Go.Den
open IntKind (wrap)
open Int (toNat)
section
namespace eI
open gC (It IV fR gL)
open jc (Ev cK ku)
variable {h h':ai} {R:fx} {s k:Nat} {X:Ft} {I:uW} {σ:SS} {p:cj}
variable {n owner num:Int} {x:It} {b:Nat}
theorem Pt.SN{o:Int}(H:Pt h s X I σ)(ok:qY σ.Q)(d:mw σ.Q x.owner x.d.length=true)(j:n=(x.d.length:Int))(l:o=x.owner)(hk: ∀h' a,Pt h' s a I { σ with Q:=σ.Q++ [x] } ->bC X h a h'->R (.I 0) h'):ar Tryz.prog 241 #[pt I.p,.I o,.I n] h R:=by
 subst l;subst j;obtain⟨Z,⟨m,P,on⟩,r,z,go⟩:=H.use 4;refine kJ.NL P ok _ _ (λ_ h' c F=> ?_) (λe=>by unfold mw at d;rw[d]at e;cases e);rw[G3,show vu σ.Q+(x.d.length:Int)=vu (x::σ.Q) by rw[iV];omega]at c;obtain⟨a,f,st,_,_⟩:=go h' Z { σ with Q:=σ.Q++ [x] } ⟨m,Pu.perm c (dD _ _).symm,on⟩ (bC.sC (F.mono λy _ q=>(on y).1.2 q)) (λi g=>FN _ g);exact hk h' a f st
theorem uw{bs:List UInt8}{l c:Nat}(bX:Nat)(T:n=(bX:Int))(H:Pt h s X I σ)(G:Good σ k)(b':k<=30000)(U:Row h p (bc bs))(S:l=bs.length)(N:bs.length<=1000000)(hk: ∀h' t,Pt h' s t I (nk σ owner bs bX)->bC X h t h'->R (.tuple #[.I (FU σ owner bs bX),.I (wK σ owner bs bX)]) h'):
  ar Tryz.prog 191 #[pt s,.I owner,.slice p l c,.U n] h R:=by
 subst T;subst S;refine wL.walk (fI H.cR ⟨_,rfl,?_⟩);rw[cW];obtain⟨Z,r⟩:=H.box;refine aK.of λa' z=>⟨_,aw H.cR,gC.BW r λv p2 l2 c2 L f2=>⟨_,_,_,rfl,?_⟩⟩
 have ln:=L.len;have m:=H.on f2;have no:σ.B.items.length≥16\/mw σ.Q owner bs.length=false->∀g,Fr No h g->R (.tuple #[.I 0,.I 15]) g:=λc g f=>by
  have e1:wK σ owner bs bX=15:=af c;have e2:FU σ owner bs bX=0:=af c;have K:nk σ owner bs bX=σ:=ag (by rw[e1];decide);rw[e1,e2,K]at hk;exact hk g X (H.on f) (bC.hM f)
 by_cases q:σ.B.items.length≥16
 .rw[fO];subst z;dsimp only;rw[af rfl];exact no (.inl q) v f2
 rw[ag (λe=>q (cf (aQ e)))];obtain⟨Z4,⟨m4,P,c'⟩,_⟩:=m.use 4;refine⟨_,aw m.cR,kJ.NM P G.ok owner _ ⟨_,rfl,?_⟩⟩;subst z;dsimp only;cases j:mw σ.Q owner bs.length with
 |false=>
  rw[af (show(!mw σ.Q owner bs.length)=true by rw[j];rfl)];exact no (.inr j) v f2
 |true=>
  rw[ag (show¬(!mw σ.Q owner bs.length)=true by rw[j];decide)];have C: ¬(σ.B.items.length≥16\/mw σ.Q owner bs.length=false):=λc=>c.elim q (λe=>by rw[j]at e;cases e)
  have E:wK σ owner bs bX=gC.ia σ.B owner bs bX:=ag C;have M:FU σ owner bs bX=gC.zF σ.B owner bs bX:=ag C;obtain⟨Z,r,zm,zd,go⟩:=m.use 3;refine⟨_,aw m.cR,gC.x8 bX rfl r (U.frame f2 (λ_ _=>id)) rfl N (cf G.b) λw J D V=>⟨_,_,rfl,?_⟩⟩;obtain⟨F,o,W,_,_⟩:=go w J { σ with B:=gC.DF σ.B owner bs bX } D V (λi O=>FM _ O);have st:=bC.no f2 W;refine aK.of λJ2 A=> ?_
  rw[E,M]at hk;unfold nk at hk;rw[E]at hk;by_cases a:gC.ia σ.B owner bs bX=0
  .rw[af a]at hk;rw[af (by rw[a];rfl)];refine⟨_,aw o.cR,o.SN (x:=⟨σ.B.next,owner,bs,bX⟩) G.ok j rfl rfl λy u d Y=>⟨_,rfl,?_⟩⟩;subst A;refine hk y u ?_ (st.trans Y);have e:gC.DF σ.B owner bs bX= { σ.B with items:=σ.B.items++ [⟨σ.B.next,owner,bs,bX⟩],next:=σ.B.next+1 } :=af a;rw[e]at d⊢;have d:Pt y s u I { σ with B:= { σ.B with items:=σ.B.items++ [⟨σ.B.next,owner,bs,bX⟩],next:=σ.B.next+1 },Q:=σ.Q++ [⟨σ.B.next,owner,bs,bX⟩] } :=d;rw[G.q]at d;exact d
  .rw[ag a]at hk;rw[ag (cD a)];subst A;refine hk w F ?_ st;have e:gC.DF σ.B owner bs bX=σ.B:=ag a;rw[e]at o;exact o
theorem Gs(x:IV)(hid:gC.xW h b num)(hk: gW h R (.bool (decide ((x.num:Int)=num)))):ar Tryz.prog 154 #[x.agg,.P b 0] h R:=by
 refine pW.walk (aU.box λb1 H e a f1=>⟨_,aw a,_,aw (f1.get hid id),?_⟩);rw[show((x.num:Int)==num)=decide ((x.num:Int)=num) by by_cases q:(x.num:Int)=num<;>simp[q]];exact hk H f1
theorem JW(xs:List IV)(num:Int):idxOf (λx:IV=>decide ((x.num:Int)=num)) xs=gC.pD (xs.map IV.abs) num:=by
 unfold idxOf gC.pD gC.wA;rw[List.findIdx?_map];rfl
theorem pE{xs:List IV}{n m:Nat}(o:Row h p (xs.flatMap fR))(l:n=xs.length)(j:xs.length<=1000000000)(hid:gC.xW h b num)(hk: gW h R (.I (gC.pD (xs.map IV.abs) num))):
  ar Tryz.prog 153 #[.slice p n m,.func (.func 154) #[] #[.P b 0]] h R:=by
 refine eU.cancel.walk (Ek (λx:IV=>decide ((x.num:Int)=num)) (λt g K=>((0:Int)<=t/\t<(n:Int))/\aO p λa=>aU.LD g (a.add (Int.toNat t*4)) λt0 t1 t2 t3 t4 t5=>
  Cl 154 #[.agg #[.I t0,.I t1,.slice t2 t3 t4,.U t5],.P b 0] g λv G=> ∃q,v=.bool q/\K q G) l j (λk g x K c f i=> ?_) (λg f=>by rw[JW];exact hk g f))
 have lt:=(aC.1 c).1;have H:=o.frame f (λ_ _=>id);obtain⟨a,rfl⟩:=H.some (λe=>by have:=bY List.length e;rw[eO fR 4 gL,bt]at this;omega);exact⟨⟨ae,ae⟩,ay.2 (aU.ED (by rw[aI];exact H.gv gL c) (Gs x (f.get hid id) λd f2=>⟨_,rfl,i d (f.tt f2)⟩))⟩
theorem xY{l:List It}{i:Nat}(d:(l.map It.num).Pairwise (· < ·))(H:l[i]? =some x):l.Perm (x::gC.pF l (x.num:Int)):=by
 rw[<-gC.pG d H];unfold gC.zE;obtain⟨a,c⟩:=aC.1 H;have e:l=l.take i++x::l.drop (i+1):=by rw[<-c,<-cF a,List.take_append_drop]
 exact(List.Perm.of_eq e).trans List.perm_middle
theorem uJ(H:Pt h s X I σ)(G:Good σ k)(g':k<=30000)(hk: ∀h' z,Pt h' s z I (AR σ num owner)->bC X h z h'->R (.I (gC.mr σ.B num owner)) h'):ar Tryz.prog 102 #[pt s,.I num,.I owner] h R:=by
 refine r7.walk (cC ?_);have f1:Fr No h (h.push (.cells #[.I num] 3)):=Fr.push _ _;have M:gC.xW (h.push (.cells #[.I num] 3)) h.size num:=bT;generalize h.push (.cells #[.I num] 3)=h1 at f1 M⊢;have q:=H.on f1;obtain⟨Z0,e'⟩:=q.box;obtain⟨L,ok⟩:=H.okB;refine fI q.cR ⟨_,rfl,?_⟩;rw[cW];refine⟨_,aw q.cR,gC.BW e' λh2 p2 l2 C L2 f2=>⟨_,_,_,rfl,?_⟩⟩;have v:=q.on f2;have N:=f2.get M id;obtain⟨xs,D,rfl,U,A,i',hD,Q⟩:=L2;obtain⟨Z,hz,zm,zd,go⟩:=v.use 3;refine⟨_,aw v.cR,_,aw N,gC.uJ hz (cf G.b) λF Z3 B3 S=>⟨_,rfl,?_⟩⟩;obtain⟨E,H3,Y,_,_⟩:=go F Z3 { σ with B:=gC.lK σ.B num owner } B3 S (λi P=>FM _ P);have z1:=f1.1;have z2:=f2.1;have zl: ∀y,Z.M y->y<h.size:=λy j=>H.lt y (.inl (zm y j))
 have ln:xs.length=σ.B.items.length:=by rw[<-A,aJ]
 have b':gC.xW F h.size num:=S.fr.get N (λo=>cf (zl _ o));have T:=U.frame S.fr (λy j o=>ig (zl y o) (Q y j));have le:=ok.le;refine pE T.iT rfl ae b' λK f4=> ?_
 have st:=bC.no (f1.tt f2) (Y.on f4);have d:=H3.on f4;have O:=T.frame f4 (λ_ _=>id);rw[A];refine⟨_,rfl,aK.of λf' c=> ?_⟩;cases r:gC.wA σ.B.items num with
 |none=>
  have e:gC.mr σ.B num owner=4:=by unfold gC.mr;rw[r]
  have es:gC.lK σ.B num owner=σ.B:=ag (by rw[e];decide);unfold AR at hk;rw[e,es,<-G.q]at hk;rw[e]at c⊢;rw[cW];subst c;refine aK.of λJ m=> ?_
  rw[cW];subst m;rw[es]at d;exact hk K E d st
 |some i=>
  obtain⟨x,f,c'⟩:=gC.xZ r;have ev:gC.pD σ.B.items num=(i:Int):=by unfold gC.pD;rw[r]
  rw[ev]at c⊢;have e:gC.mr σ.B num owner=if x.owner=owner then 0 else 13:=by unfold gC.mr;rw[r];dsimp only;rw[f]
  by_cases t:x.owner=owner
  .rw[af t]at e;have es:gC.lK σ.B num owner= { σ.B with items:=gC.pF σ.B.items num,rU:=σ.B.rU+1 } :=af e;unfold AR at hk;rw[e]at hk;rw[e]at c⊢;rw[fO,aq ae];subst c;refine aK.of λJ m=> ?_
   rw[af rfl];have P:=(aC.1 f).1;have u:xs[i]? =some xs[i]:=aj ae;have d':xs[i].abs=x:=by
    rw[<-A,aM,u]at f;exact bn f
   obtain⟨V,W,rfl⟩:=O.addr ae;have hh:=O.gv gL u;have C: ∀g,dF (((AA V W):Addr).add (i*4)) (fR xs[i]) 0 g->aB g ((((AA V W):Addr).add (Int.toNat (i:Int)*4)).add 2)=some xs[i].v.val:=λg hg=>by
    rw[aI];exact hg.2.2.1
   refine⟨_,aw d.cR,⟨ae,ae⟩,ay.2 ⟨_,_,_,C _ hh,?_⟩⟩;have vl:xs[i].v.b=x.d:=by rw[<-d'];rfl
   rw[vl];refine d.Sq (x:=x) (l:=gC.pF σ.B.items num) (by show σ.Q.Perm _;rw[G.q,<-c'];exact xY ok.inc f) (show qY σ.Q from G.ok) (LS ok (bj f)) rfl t.symm λh5 X5 w a'=>⟨_,rfl,?_,?_⟩
   .have o5:=O.frame a'.fr (λy j o=>by
     rcases Y.jl y o with a|a
     .have:=H.lt y (.inl a);have:=Q y j;omega
     .have:=U.eg j;omega)
    rw[<-vl];exact C _ (o5.gv gL u)
   .subst m;refine hk h5 X5 ?_ (st.trans a');rw[es]at w⊢;exact w
  .rw[ag t]at e;have es:gC.lK σ.B num owner=σ.B:=ag (by rw[e];decide);unfold AR at hk;rw[e,es,<-G.q]at hk;rw[e]at c⊢;rw[cW];subst c;refine aK.of λJ m=> ?_
   rw[cW];subst m;rw[es]at d;exact hk K E d st

end eI
end
section
variable {h:ai} {R:fx}
variable {S:cj} {s c:Nat}
theorem jy.walk(e:if S.isNone then R (.Z) h else aS h (.cells #[] 262) λb H=>aV Tryz.prog (Builtin.append_ #[260,260] 260 #[.slice (some (AA b 0)) 0 0,.slice S s c]) H λv d=> ∃a T t,v=.slice a T t/\R (.slice a T t) d):ar Tryz.prog 295 #[.slice S s c] h R:=aR (lq (sq (lq (cq ll lf)) ll)) Tryz.func295 e
theorem iB.UG.walk(a:Cl 294 #[.slice S s c,.func (.func 256) #[] #[]] h λv H=> ∃t7,v=.I t7/\R (.bool (decide (t7≥0))) H):ar Tryz.prog 258 #[.slice S s c,.func (.func 256) #[] #[]] h R:=aR (lq ll) Tryz.func258 a
theorem iW.UG.walk(d: ∃(I:Int->ai->Prop)(m:Int->ai->Nat),I 0 h/\∀(t8:Int)(H:ai),I t8 H->if(decide (t8<(s:Int)))then Bd t8 s/\aO S λa=>aa.cG H (a.add (toNat t8*4)) λt15=>Cl 256 #[t15.agg] H λv b=> ∃t16,v=.bool t16/\if t16 then R (.I t8) b else(I (wrap .i64 (t8+1)) b/\m (wrap .i64 (t8+1)) b<m t8 H)else R (.I (-1)) H):ar Tryz.prog 294 #[.slice S s c,.func (.func 256) #[] #[]] h R:=aR (lq (sq (lq (bq (.loop [(8,.one (.int .i64))] (lq (sq (cq lf lf) (sq (bq (lq (lq (cq ll lf)))) lf)))))) ll)) Tryz.func294 d
theorem jo.within.walk(a:Cl 292 #[.slice S s c,.func (.func 251) #[] #[]] h λv H=> ∃t7,v=.I t7/\R (.bool (decide (t7≥0))) H):ar Tryz.prog 250 #[.slice S s c,.func (.func 251) #[] #[]] h R:=aR (lq ll) Tryz.func250 a
theorem jQ.within.walk(d: ∃(I:Int->ai->Prop)(m:Int->ai->Nat),I 0 h/\∀(t8:Int)(H:ai),I t8 H->if(decide (t8<(s:Int)))then Bd t8 s/\aO S λa=>sw H (a.add (toNat t8*1)) λt15=>Cl 251 #[.U t15] H λv b=> ∃t16,v=.bool t16/\if t16 then R (.I t8) b else(I (wrap .i64 (t8+1)) b/\m (wrap .i64 (t8+1)) b<m t8 H)else R (.I (-1)) H):ar Tryz.prog 292 #[.slice S s c,.func (.func 251) #[] #[]] h R:=aR (lq (sq (lq (bq (.loop [(8,.one (.int .i64))] (lq (sq (cq lf lf) (sq (bq (lq (lq (cq ll lf)))) lf)))))) ll)) Tryz.func292 d

end
section
namespace Bn
open Cb
open jc (Ev cK ku)
variable {V:List UInt8→Bool} {h H h' g0 g:ai} {R:fx} {D:Nat→Prop}
variable {ys:List CV} {n k:Int} {bb cl:Nat} {v:BV} {ts:List Tr} {q:cj} {t:Tr} {z:CV}
theorem MC(ys:List CV): ∀v∈ys.flatMap gV,fH v=true:=λv c=>by
 obtain⟨a,_,b⟩:=List.mem_flatMap.1 c;exact nt a v b
theorem JX{p:cj}{n m:Nat}(d:Row h p (ys.flatMap gV))(i:n=ys.length)(j:ys.length<=1000000)(hk: ∀P c h',fy h' P ys.length c 4 (ys.flatMap gV)->Fr No h h'->(∀x,aP P x->h.size<=x)->R (.slice P ys.length c) h'):ar Tryz.prog 295 #[.slice p n m] h R:=by
 subst i;refine jy.walk ?_;cases p with
 |none=>
  have:ys= []:=by
   rcases d with d|⟨a,e,_⟩
   .cases ys with
    |nil=>rfl
    |cons b bs=>cases d
   .cases e
  subst this;exact hk none 0 h (.nil rfl rfl rfl rfl) (Fr.refl _ _) (λx ⟨a,e,_⟩=>by cases e)
 |some a=>
  simp only[Option.isNone_some,au,aN];exact uf tI uI d (eO gV 4 fX ys) (MC ys) ae ae λP c h' o f g=>⟨_,_,_,rfl,hk P c h' o f g⟩
structure Lc (g0 g:ai) (bb:Nat) (k n:Int) (v:BV) (ts:List Tr) (ys:List CV) (q:cj) (cl:Nat):Prop where
 cR:aa.at g bb k n v.p v.b.length v.c q ys.length cl
 own:fy g q ys.length cl 4 (ys.flatMap gV)
 ge: ∀y,aP q y->g0.size<=y/\y≠bb
 tr:cS g (λy=>(g0.size<=y/\y≠bb)/\¬aP q y) ts ys
 fr:Fr (λy=>y=bb) g0 g
theorem Lc.on(L:Lc g0 g bb k n v ts ys q cl)(f:Fr No g h'):Lc g0 h' bb k n v ts ys q cl:=
 ⟨f.get L.cR id,L.own.frame f (λ_ _=>id),L.ge,L.tr.on f,L.fr.on f⟩
theorem MD(T:re g (λy=>g0.size<=y/\y≠bb) t z)(e:aa.fN g bb z.s)(f:Fr (λy=>y=bb) g0 g): ∃ys,ys.length=z.ll/\Lc g0 g bb z.k z.n z.v t.l ys z.q z.cl:=by
 obtain⟨i,ys,a,b,c,d⟩:=T;refine⟨ys,a.symm,?_,b,c,d,f⟩;rw[<-a];exact e
theorem ME{k':Nat}(L:Lc g0 g bb k (k':Int) v ts ys q cl)(ok:v.ok g (λy=>g0.size<=y/\y≠bb)):re g (λy=>g0.size<=y/\y≠bb) (.mk k k' v.b ts) ⟨k,k',v,q,ys.length,cl⟩:=
 ⟨⟨rfl,rfl,rfl,ok⟩,ys,rfl,L.own,L.ge,L.tr⟩
theorem UH{Φ:ai->Prop}(L:Lc g0 g bb k n v ts ys q cl)(ll:ys.length<=1000000)(J:gn g (λy=>(g0.size<=y/\y≠bb)/\¬aP q y) t z)(hk: ∀G Y Q C,Lc g0 G bb k n v (ts++ [t]) Y Q C->Y.length=ys.length+1->g.size<=G.size->(∀x,x≠bb->¬aP q x->x<g.size->G[x]? =g[x]?)->Φ G):
  aS g (.cells z.s.arr 262) λp s=>aV Tryz.prog (Builtin.append_ #[260,260] 260 #[.slice q ys.length cl,.slice (some (AA p 0)) 1 1]) s λK u=>
   ∃o m T,K=.slice o m T/\aE u (AA bb 3) (.slice o m T) λw=>Φ w:=by
 refine aa.cT λP U S j f7=> ?_
 have Z:=f7.1;have zg:=L.fr.1;have X:=aF j;have a':=aF L.cR;have W: ∀y,aP q y->y<g.size:=λy b=>L.own.eg b
 refine dO tI uI (L.own.frame f7 (λ_ _=>id)) (ds:=gV z) (.inr ⟨_,rfl,aa.yA (x:=z.s) j⟩) rfl (nt z) ae ae λQ C r O _ f11 f=>⟨_,_,_,rfl,?_⟩
 have B:=f11.get (f7.get L.cR id) (λb=>(L.ge _ b).2 rfl);refine bB B (by show 3<4;omega) λi d1 d2 d3=> ?_
 have f12:Fr (λy=>y=bb) r i:=Fr.of_eq d2 (λc A=>d3 c A);have N: ∀y,aP Q y->g0.size<=y/\y≠bb:=λy b=>by
  rcases f y b with a|a
  .exact L.ge y a
  .omega
 have E:ys.flatMap gV++gV z=(ys++ [z]).flatMap gV:=by rw[cU];simp
 refine hk i (ys++ [z]) Q C ⟨?_,?_,N,?_,?_⟩ bM ?_ ?_
 .rw[aA];exact d1
 .rw[aA,<-E];exact O.frame f12 (λy b e=>cf (N y b))
 .have t1:=((L.tr.snoc J).lt.on f7).frame f11 (λy b d=>b.1.2 d);have M:=cS.mono (D':=λy=>(g0.size<=y/\y≠bb)/\¬aP Q y) (λy b=>⟨b.1.1,λd=>by
   rcases f y d with a|a
   .exact b.1.2 a
   .have:=b.2;omega⟩) t1
  exact cS.frame f12 (λy b e=>ae) M
 .exact((L.fr.on f7).trans f11 (S'':=λy=>y=bb) (λ_ _=>id) (λx l b=>cf (L.ge x b))).trans f12 (λ_ _=>id) (λ_ _=>id)
 .have:=f11.1;omega
 .intro x l I F;rw[d3 x l,f11.2 x ae I,f7.2 x F id]
theorem MF{Φ:ai->Prop}{kl:List (cj)}(L:Lc g0 g bb k n v ts ys q cl)(ll:ys.length<=1000000)(l:gn g (λy=>(g0.size<=y/\y≠bb)/\¬aP q y) t z)(hk: ∀G Y Q C,Lc g0 G bb k n v (ts++ [t]) Y Q C->Y.length=ys.length+1->g.size<=G.size->(∀x,x≠bb->¬aP q x->x<g.size->G[x]? =g[x]?)->Φ G):
  aS g (.cells z.s.arr 262) λB a=>Kp g a kl/\aV Tryz.prog (Builtin.append_ #[260,260] 260 #[.slice q ys.length cl,.slice (some (AA B 0)) 1 1]) a λm i=>
   ∃d c T,m=.slice d c T/\aE i (AA bb 3) (.slice d c T) λj=>Φ j:=by
 intro b f E e;refine⟨?_,UH L ll l hk b f E e⟩;subst e;exact(Fr.push _ _).kp
theorem MG{l c:Nat}(U:lW V H)(u:Fr No H h)(L:lS h D q l c ys)(T:cS h D ts ys)(A:da ts<=1000000)(hk: gW h R (.bool (!ts.all (gw V)))):ar Tryz.prog 258 #[.slice q l c,.func (.func 256) #[] #[]] h R:=by
 have G:=T.len;have el:=L.len;have C:=gm ts;refine iB.UG.walk (iW.UG.walk ?_);refine⟨λt g=> ∃i:Nat,t=(i:Int)/\i<=ts.length/\Fr No h g/\(ts.take i).all (gw V)=true,λt _=>ts.length - t.toNat,⟨0,rfl,bP _,Fr.refl _ _,by rw[dM];rfl⟩,?_⟩;rintro _ g ⟨i,rfl,w,f,j⟩;by_cases d:i<ts.length
 .rw[fO];obtain⟨a,y,E,p,ty,B⟩:=elem (L.frame f (λ_ _=>id)) (T.on f) d;have I:=ju d;have eq:ts.take (i+1)=ts.take i++ [at_ ts i]:=by
   rw[bL];unfold at_;rw[aX,aj d];rfl
  have tm:at_ ts i∈ts:=by
   unfold at_;rw[aX,aj d];exact dC d
  refine⟨⟨ae,ae⟩,bZ.2 ⟨a,E,aa.mI (x:=y.s) (by rw[aI];exact p) (yC.walk (x:=y.s) (aa.cT λb s r o f1=>aa.fK o (eX U (u.tt (f.tt f1)) (ty.on f1) ae λm f2=>⟨_,rfl,_,rfl,?_⟩)))⟩⟩;have F:=f.tt (f1.tt f2);cases q:gw V (at_ ts i)with
  |false=>
   rw[fO];refine⟨_,rfl,?_⟩;have:=hk m F;rw[show ts.all (gw V)=false by rw[List.all_eq_false];exact⟨_,tm,by rw[q];decide⟩]at this;rw[aq ae];exact this
  |true=>
   rw[cW,bz (n:=(i:Int)+1) ae ae];exact⟨⟨i+1,ae,ae,F,by rw[eq,List.all_append,j];simp[q]⟩,by show ts.length - Int.toNat ((i:Int)+1)<ts.length - Int.toNat (i:Int);omega⟩
 .rw[ag (λe=>d (cf (aQ e)))];rw[bG ae]at j;have:=hk g f;rw[j]at this;exact⟨_,rfl,this⟩

end Bn
end
end Go.Proofs.YtlenamcfacpheaaGreatDoor
namespace Go.Den
section
variable {P : Program}
theorem MH{t elem:TypeId}{bytes:Nat}{z Z:Value}{h:ai}{K:fx}(T:nP P t elem 1 bytes z)(A:z.cells= #[Z])(n:Nat)(C:n*bytes<=70368744177664)(D:n<=9223372036854775807)(hk: ∀h' p,fy h' p n n 1 (List.replicate n Z)->Fr No h h'->(∀c,aP p c->h.size<=c)->K (.slice p n n) h'):
  aV P (Instr.makeSlice t (.I (n:Int)) (.I (n:Int))) h K:=by
 obtain⟨i,b,x,rfl,k⟩:=T.i;unfold Instr.makeSlice;refine bK (s:=underlying t) (bu T.u) ?_;refine bK (s:=asInt (.I (n:Int))) (a:=(n:Int)) rfl ?_;refine bK (s:=asInt (.I (n:Int))) (a:=(n:Int)) rfl ?_;refine bK (s:=typeInfo elem) (gA b) ?_;simp only[];rw[bz (n:=(n:Int)) ae ae];have u:(i.bytes:Int)*(n:Int)=((n*i.bytes:Nat):Int):=by rw[fG];simp
 have r:(decide ((n:Int)<0)||decide ((i.bytes:Int)*(n:Int)>2 ^ 48))=false:=by
  rw[u];have l: ¬(n:Int)<0:=ae
  have o: ¬((n*i.bytes:Nat):Int)>2 ^ 48:=ae
  rw[az l,az o];rfl
 have q:(((decide ((n:Int)<0)||decide ((i.bytes:Int)*(n:Int)>2 ^ 48))||decide ((n:Int)<0))||decide ((n:Int)>(n:Int)))=false:=by
  rw[r];simp
 rw[ag (by rw[q];simp)];have w: ∀(m:Nat)(K':Unit->ai->Prop),K' () h->aV P (askRoom m) h K':=λm K' g=>by
  unfold askRoom;split
  .exact g
  .exact g
 rw[dw];refine w _ _ ?_;refine bK (s:=sizeOf elem) (gD b) ?_;rw[aI,x,cr];have fin: ∀zs:Array Value,(n=0\/zs= #[Z])->aV P (newRow elem ((Array.range n).map (zs[· %zs.size]!))>>=λa=>pure (.slice (some a) n n)) h K:=by
  intro zs B;show K (.slice (some (AA h.size 0)) n n) (h.push (.cells ((Array.range n).map (zs[· %zs.size]!)) elem));refine hk _ _ (.row h.size 0 _ elem rfl bT (aZ _) bM bM ?_) (Fr.push _ _) ?_
  .intro j v d;have f:j<n:=by have:=(aC.1 d).1;simpa using this
   have y:v=Z:=by
    rw[List.getElem?_replicate,af f]at d;exact(bn d).symm
   subst y;rcases B with k|rfl
   .omega
   .rw[bE];simp[f,Nat.mod_one]
  .rintro c ⟨a,e,rfl⟩;cases e;exact aZ _
 by_cases H:n=0
 .rw[af H];exact fin #[] (.inl H)
 .rw[ag H];refine bK (s:=zeroValue elem) (iq b k) ?_;refine bK (s:=(pure z.cells:Sem (Array Value))) (a:=z.cells) rfl ?_;rw[A];exact fin #[Z] (.inr rfl)
end
end Go.Den
namespace Go.Proofs.YtlenamcfacpheaaGreatDoor
open Go.Den
open IntKind (wrap)
open Int (toNat)
section
namespace Bn
open Cb
open jc (Ev cK ku)
variable {V:List UInt8→Bool} {h h0 h':ai} {R:fx} {D:Nat→Prop} {ts:List Tr} {ys:List CV} {q:cj} {l c:Nat}
variable {i:Nat}
theorem AZ(L:lS h D q l c ys)(T:cS h D ts ys)(p:da ts<=1000000)(o:i<100)(hk: gW h R (.I (typeAt ts i))):ar Tryz.prog 257 #[.slice q l c,.I (i:Int)] h R:=by
 have s:=T.len;have el:=L.len;have r:=gm ts;refine yB.walk (aK.of λJ f=> ?_);have no: ∀g,Fr No h g->¬(i<ts.length/\(at_ ts i).n<=2/\mM (at_ ts i) (num (at_ ts i).n)=true)->J true g:=λg k b=>by
  subst f;dsimp only;rw[af rfl];have:=hk g k;unfold typeAt at this;rw[ag b]at this;exact this
 rw[cW];by_cases H:i<ts.length
 case neg=>rw[fO];exact no h (Fr.refl _ _) (λe=>H e.1)
 rw[cW];obtain⟨a,y,E,m,ty,_⟩:=elem L T H;have t:=ju H;obtain⟨_,Y,_⟩:=gn.kn ty;have j:dF (a.add (Int.toNat (i:Int)*4)) y.s.l 0 h:=by rw[aI];exact m
 have c1:aB h ((a.add (Int.toNat (i:Int)*4)).add 1)=some (.U ((at_ ts i).n:Int)):=by rw[<-Y];exact j.2.1
 refine⟨⟨ae,ae⟩,bZ.2 ⟨a,E,_,c1,?_⟩⟩;by_cases b:(at_ ts i).n<=2
 case neg=>rw[fO];exact no h (Fr.refl _ _) (λe=>b e.2.1)
 rw[cW];refine⟨⟨ae,ae⟩,bZ.2 ⟨a,E,aa.mI (x:=y.s) j ⟨⟨ae,ae⟩,bZ.2 ⟨a,E,_,c1,fM λn f2=>aa.ex (nv (at_ ts i).n).s ⟨rfl,f2.kp,iQ (x:=y) (y:=nv (at_ ts i).n) (ty.on f2) lT ae λd f3=>⟨_,rfl,f3.kp,?_⟩⟩⟩⟩⟩⟩;have F:=f2.tt f3;cases e:mM (at_ ts i) (num (at_ ts i).n)with
 |false=>exact no d F (λq=>by rw[e]at q;cases q.2.2)
 |true=>
  subst f;dsimp only;rw[cW];refine⟨⟨ae,ae⟩,bZ.2 ⟨a,E,_,F.cell c1 id,?_⟩⟩;have:=hk d F;unfold typeAt at this;rw[af ⟨H,b,e⟩]at this;rw[bz ae ae];exact this
theorem A2(ts:List Tr)(i:Nat): -1<=typeAt ts i/\typeAt ts i<=2:=by unfold typeAt;split<;>omega
theorem OD(n:Nat):List.replicate n (Value.int .u8 0)=bc (List.replicate n 0):=by unfold bc;rw[List.map_replicate];rfl
theorem Tl(n k:Nat)(m:Nat)(H:m=k):IntKind.wrap .u8 (Int.fdiv (n:Int) (2 ^ m))=((UInt8.ofNat (n/2 ^ k)).toNat:Int):=by subst H;rw[Mn,Ml]
theorem El{sum:Nat}(U:lW V h0)(u:Fr No h0 h)(L:lS h D q l c ys)(T:cS h D ts ys)(hr:da ts<=900000)(s1:1<=sum)(s2:sum<=2)(K: ∀b,sumOf V ts sum=.ok b->∀h' p c,Row h' p (bc b)->b.length=2*sum->(∀y,aP p y->h.size<=y)->Fr No h h'->R (.tuple #[.slice p b.length c,.I 0]) h')(Q:sumOf V ts sum=.error 3->gW h R (.tuple #[.Z,.I 3])):ar Tryz.prog 259 #[.slice q l c,.I (sum:Int)] h R:=by
 have ln:=T.len;have el:=L.len;have l9:=gm ts;refine zN.walk (JX L.row L.len ae λY c1 M o1 f1 G=>⟨_,_,_,rfl,oH.walk ⟨_,rfl,?_⟩⟩);rw[bz (n:=2*(sum:Int)) ae ae,show 2*(sum:Int)=((2*sum:Nat):Int) by omega];refine MH kk.tU rfl (2*sum) ae ae λN p3 C f3 g3=>⟨_,_,_,rfl,?_⟩
 rw[OD]at C;have t:(List.replicate (2*sum) (0:UInt8)).length=2*sum:=List.length_replicate;refine mV C.iT t.symm ae λh4 v ev X f4=>aa.ex (CV.s ⟨2,0,v,none,0,0⟩) ⟨rfl,aa.cT λb h5 eb P f5=> ?_⟩
 have F:=f3.tt (f4.tt f5);have z1:=f1.1;have z3:=f3.1;have z4:=f4.1;have z5:=f5.1;have n1: ∀y,aP Y y->y<M.size:=λy f=>o1.eg f
 have vl:v.b.length=2*sum:=by rw[ev,t]
 refine dO tI uI (o1.frame F (λ_ _=>id)) (ds:=gV ⟨2,0,v,none,0,0⟩) (.inr ⟨_,rfl,aa.yA (x:=CV.s ⟨2,0,v,none,0,0⟩) P⟩) rfl (nt _) ae ae λp6 c6 m O _ f6 g6=>⟨_,_,_,rfl,?_⟩
 have J:ys.flatMap gV++gV ⟨2,0,v,none,0,0⟩=(ys++ [(⟨2,0,v,none,0,0⟩:CV)]).flatMap gV:=by rw[cU];simp
 rw[J]at O;have I:zR m (ts++ [oL (List.replicate (2*sum) 0)]) (ys++ [⟨2,0,v,none,0,0⟩]):=by
  have a:=(T.lt.on (f1.tt F)).frame f6 (λy f s=>cf (G y s));have b:gn m (λy=>N.size<=y) (.mk 2 0 v.b []) ⟨2,0,v,none,0,0⟩:=AW ((X.frame f5 (λ_ _=>id)).frame f6 (λy f s=>cf (n1 y s)));rw[ev]at b;exact a.u.snoc b.u
 have S:(ys++ [(⟨2,0,v,none,0,0⟩:CV)]).length=ys.length+1:=bM
 have rA:da (ts++ [oL (List.replicate (2*sum) 0)])<=900100:=by rw[gX];simp only[da,room,t];omega
 refine jn (D:=λ_=>True) ⟨S.symm,O.iT,λ_ _ _=>trivial,O.le⟩ I ae λh7 z tz f7=>aa.ex z.s ⟨rfl,?_⟩
 have A:Fr No h m:=(f1.tt F).fresh f6 (λy f=>G y f);have g:=A.tt f7;have z6:=A.1;have z7:=f7.1;have H:sumOf V ts sum=sumOf V ts sum:=rfl;conv at H=>rhs;unfold sumOf
 refine vi (x:=z) U (u.tt g) tz.u (by simp only[room,bt];omega) (λo d p8 c8 w n8 f8=>⟨_,_,_,_,rfl,?_⟩) (λo d f8=>⟨_,_,_,_,rfl,?_⟩)
 .rw[cW];rw[af o]at H;have j:=g.tt f8;have W:(enc (qC (ts++ [oL (List.replicate (2*sum) 0)]))).length<=900200:=by
   have:=jr (qC (ts++ [oL (List.replicate (2*sum) 0)]));simp only[room,bt]at this;omega
  generalize enc (qC (ts++ [oL (List.replicate (2*sum) 0)]))=B at H w W⊢;have Z:=j.1;by_cases e1:sum=1
  .rw[af (by rw[e1];rfl)];rw[af e1]at H;refine Mu w.iT rfl ae ⟨_,rfl,cC ?_⟩;rw[Tl (xI B) 8 (min (Int.toNat 8) (IntKind.bits .u16)) rfl,Ml];have r:Row (d.push (.cells (bc (BD B)).toArray 5)) (some (AA d.size 0)) (bc (BD B)):=jq;exact K _ H _ _ _ r (by rw[e1];rfl) (λy ⟨a,E,k⟩=>by cases E;rw[<-k];exact Z) (j.tt (Fr.push _ _))
  .rw[ag (λe=>e1 (cf (eq_of_beq e)))];rw[ag e1]at H;refine Oz w.iT rfl ae ⟨_,rfl,cC ?_⟩;rw[Tl (vP B) 24 (min (Int.toNat 24) (IntKind.bits .u32)) rfl,Tl (vP B) 16 (min (Int.toNat 16) (IntKind.bits .u32)) rfl,Tl (vP B) 8 (min (Int.toNat 8) (IntKind.bits .u32)) rfl,Ml];have r:Row (d.push (.cells (bc (GV B)).toArray 5)) (some (AA d.size 0)) (bc (GV B)):=jq;exact K _ H _ _ _ r (by rw[show sum=2 by omega];rfl) (λy ⟨a,E,k⟩=>by cases E;rw[<-k];exact Z) (j.tt (Fr.push _ _))
 .rw[fO];rw[ag (by rw[o];decide)]at H;exact Q H d (g.tt f8)
theorem Ij(U:lW V h0)(u:Fr No h0 h)(L:lS h D q l c ys)(T:cS h D ts ys)(hr:da ts<=800000)(hi:i<100)(k1: ∀t,ml V ts i=.ok t->∀h' z,re h' (λy=>h.size<=y) t z->Fr No h h'->R (.tuple #[z.agg,.I 0]) h')(Q: ∀e,ml V ts i=.error e->gW h R (.tuple #[zv.agg,.I e])):ar Tryz.prog 206 #[.slice q l c,.I (i:Int)] h R:=by
 have ln:=T.len;have el:=L.len;have l9:=gm ts;refine B2.walk (aa.cT λb s eb A f1=>aK.of λr' hJ=> ?_);have zb:=aF A;have no: ∀g e,Fr No s g->ml V ts i=.error e->aa.cY g (AA b 0) .z λG=>aa.cG G (AA b 0) λr=>R (.tuple #[r.agg,.I e]) G:=λg e m k=>
  Ca (m.get A id) λG f=>Q e k G ((f1.tt m).fresh f (λy e=>ae))
 rw[cW];have H:ml V ts i=ml V ts i:=rfl;conv at H=>rhs;unfold ml
 by_cases c':i<ts.length
 case neg=>
  rw[aq ae];rw[ag c']at H;subst hJ;dsimp only;rw[af rfl];exact no s 1 (Fr.refl _ _) H
 rw[af c']at H;rw[az ae];subst hJ;dsimp only;rw[ag (show¬false=true by decide)];refine AZ (L.frame f1 (λ_ _=>id)) (T.on f1) ae hi λh4 f4=>⟨_,rfl,aK.of λJ1 a'=>MG U (u.tt (f1.tt f4)) (L.frame (f1.tt f4) (λ_ _=>id)) (T.on (f1.tt f4)) ae λj f5=>⟨_,rfl,?_⟩⟩
 have y':=A2 ts i;have p:=f1.tt (f4.tt f5);have S: ¬(ts.all (gw V)=true/\0<=typeAt ts i)->J1 true j:=λhn=>by
  subst a';dsimp only;rw[af rfl];exact no j 3 (f4.tt f5) (by rw[H,ag hn])
 cases ha:ts.all (gw V)with
 |false=>rw[fO];exact S (λe=>by rw[ha]at e;cases e.1)
 |true=>
 rw[cW];by_cases P:0<=typeAt ts i
 case neg=>rw[aq ae];exact S (λe=>P e.2)
 rw[az ae];clear S;rw[af ⟨ha,P⟩]at H;subst a';dsimp only;rw[ag (show¬false=true by decide)];refine jn (L.frame p (λ_ _=>id)) (T.on p) ae λh7 z tz f7=>aa.ex z.s ⟨rfl,aa.gh (x:=z.s) λb1 n t' B f9=>aK.of λJ2 m'=> ?_⟩
 have z1:=f1.1;have z4:=f4.1;have B':=f5.1;have z5:=p.1;have z7:=f7.1;have z9:=f9.1;have C':=aF B;have F:=p.tt (f7.tt f9);have done: ∀g (w:CV) t,re g (λy=>j.size<=y/\y≠b1) t w->room t<=900000->aa.fN g b1 w.s->Fr (λy=>j.size<=y) n g->(ml V ts i=if gw V t=true then .ok t else .error 3)->J2 g:=by
  intro g w t o rt hw m k;subst m';try dsimp only
  have J:Fr No h g:=F.fresh m (λy e=>ae);have b': ∀{Z},Fr No g Z->aa.fN Z b .z:=λf=>f.get (m.get ((f4.tt (f5.tt (f7.tt f9))).get A id) ae) id
  refine aa.fK hw (eX U (u.tt J) o.u ae λu' f11=>⟨_,rfl,?_⟩);cases C:gw V t with
  |false=>
   rw[fO];rw[C]at k;exact Ca (b' f11) λG f=>Q 3 k G ((J.tt f11).fresh f (λy e=>ae))
  |true=>
   rw[cW];rw[C,af rfl]at k;refine aa.fK (f11.get hw id) (fin (b' f11) (o.frame f11 (λ_ _=>id)) (λy d e=>cf f1.1) λj' t13 f13=>k1 t k j' w (t13.mono λy d=>ae) ((J.tt f11).fresh f13 (λy e=>ae)))
 have I:re n (λy=>j.size<=y/\y≠b1) (qC ts) z:=by
  obtain⟨⟨a1,a2,a3,a4⟩,zs,a5,W,a7,a8⟩:=tz;refine⟨⟨a1,a2,a3,((DR a4).mono λy d=>ae).frame f9 (λ_ _=>id)⟩,zs,a5,W.frame f9 (λ_ _=>id),λy d=>⟨a7 y d,cf (W.eg d)⟩,(cS.mono (λy d=>by have s:=d.1.1;have h2:=d.2;exact⟨⟨s,ae⟩,d.1.2⟩) a8.lt).on f9⟩
 by_cases N:0<typeAt ts i
 case neg=>
  rw[cW];rw[ag N]at H;exact done n z (qC ts) I (by simp only[room,bt];omega) B (Fr.refl _ _) H
 rw[af (aq N)];rw[af N]at H;obtain⟨sum,n'⟩:=gR P;rw[n']at H⊢;rw[aI]at H;refine El U (u.tt F) (L.frame F (λ_ _=>id)) (T.on F) ae ae ae (λbs O l' x' s' row lb nb f14=>⟨_,_,_,_,rfl,?_⟩) (λO l' f14=>⟨_,_,_,_,rfl,?_⟩)
 .rw[cW];rw[O]at H;refine⟨_,_,_,aw (f14.get B id),mV row rfl ae λv' v ev ov f16=>aa.ex (CV.s ⟨2,0,v,none,0,0⟩) ⟨rfl,f16.kp,?_⟩⟩;have e':=f14.tt f16;have g0:Fr (λy=>y=b1) j n:=(f7.tt f9).mono λ_ _=>False.elim
  obtain⟨zs,ez,M⟩:=MD (g0:=j) I B g0;have i':z.s.nC=zs.length:=ez.symm;have zl:zs.length=ts.length:=by have:=M.tr.len;exact this.symm
  have q9: ∀y,aP z.q y->y<n.size:=λy d=>M.own.eg d
  have z':=f14.1;have A':=f16.1;have f':=M.on e';rw[i'];obtain⟨zk,zn,d',_⟩:=I.1;refine MF f' ae (gn.mono (λy d=>⟨ae,λC=>cf (q9 y C)⟩) (AW ov)) λG p' q' g' K hl w' ho=> ?_
  have o':z.v.ok G (λy=>j.size<=y/\y≠b1):=by
   have E:z.v.b= []:=d';exact⟨by rw[E];exact Row.nil,λe=>absurd E e,I.1.2.2.2.cap⟩
  have o:=ME (k':=z.n) K o';have X:z.k=4:=zk;have Y:z.n=0:=zn;have E:z.v.b= []:=d';rw[X,Y,E,ev]at o;have lr:=gX (a:=ts) (b:= [oL bs]);simp only[da,room,bt]at lr;refine done G ⟨z.k,z.n,z.v,q',p'.length,g'⟩ (qC (ts++ [oL bs])) (by rw[X,Y];exact o) (by simp only[room,bt];omega) K.cR ?_ H;refine⟨ae,λy d hn=> ?_⟩;rw[K.fr.2 y ae ae,(f7.tt f9).2 y ae id]
 .rw[fO];rw[O]at H;exact Ca (f14.get ((f4.tt (f5.tt (f7.tt f9))).get A id) id) λG f=>Q 3 H G ((F.tt f14).fresh f (λy e=>cf f1.1))
theorem kP {i : Nat} {t : Tr} {x : CV} (U : lW V h0) (u : Fr No h0 h) (tx : D9 h t x) (hr : room t ≤ 800000) (hi : i < 100)
    (k1 : ∀ us, oB V t i = .ok us → da us ≤ da t.l → ∀ h' p zs c, lS h' (λy => h.size ≤ y) p zs.length c zs → cS h' (λy => h.size ≤ y) us zs → Fr No h h' → R (.tuple #[.slice p zs.length c, .int .i64 0]) h')
    (k2 : ∀ e, oB V t i = .error e → e ≠ 0 → ∀ h', Fr No h h' → R (.tuple #[.slice none 0 0, .int .i64 e]) h') : ar Tryz.prog 244 #[x.agg, .int .i64 (i : Int)] h R := by
  obtain ⟨xk, xn, xb, xl, xv, ys, L, TS⟩ := gn.kn tx
  have rl := mJ (t := t)
  have ln := TS.len
  have el := L.len
  have l9 := gm t.l
  have e4 : x.s.f0 = t.k := xk
  have UI : x.s.nC = t.l.length := xl
  refine B4.walk (x := x.s) (aa.cT λb h1 eb hb f1 => aK.of λJ hJ => aa.fK hb (eX U (u.tt f1) (tx.on f1) (by omega) λh3 f3 => ⟨_, rfl, ?_⟩))
  have F3 := f1.tt f3
  have OE := f3.get hb id
  have hO : oB V t i = oB V t i := rfl
  conv at hO => rhs; unfold oB
  have bad : ¬ (gw V t = true ∧ t.k = 4 ∧ 0 ≤ typeAt t.l i) → ∀ g, Fr No h g → R (.tuple #[.slice none 0 0, .int .i64 3]) g := λhn g fg => k2 3 (by rw [hO, if_neg hn]) (by decide) g fg
  have Q6 : ¬ (gw V t = true ∧ t.k = 4 ∧ 0 ≤ typeAt t.l i) → J true h3 := λhn => by
    subst hJ
    dsimp only
    rw [if_pos rfl]
    exact bad hn h3 F3
  cases hR : gw V t with
  | false => exact Q6 (λe => by rw [hR] at e; cases e.1)
  | true =>
  rw [if_neg (show ¬ (!true) = true by decide)]
  refine ⟨_, cz OE rfl, ?_⟩
  rw [e4]
  by_cases k4 : t.k = 4
  case neg => rw [show (t.k != 4) = true by simpa using k4]; exact Q6 (λe => k4 e.2.1)
  rw [show (t.k != 4) = false by simpa using k4]
  clear Q6
  subst hJ
  dsimp only
  rw [if_neg (show ¬ false = true by decide)]
  refine ⟨_, _, _, cz OE rfl, AZ (L.frame F3 (λ_ _ => id)) (TS.on F3) (by omega) hi λh4 f4 => ⟨_, rfl, ?_⟩⟩
  have F4 := F3.tt f4
  have G6 := f4.get OE id
  by_cases ht : 0 ≤ typeAt t.l i
  case neg => rw [if_pos (decide_eq_true (by omega))]; exact bad (λe => ht e.2.2) h4 F4
  rw [if_neg (by simp only [decide_eq_true_eq]; omega)]
  rw [if_pos ⟨hR, k4, ht⟩] at hO
  clear bad
  have Ik : ∀ {g} (us : List Tr) (zs : List CV) {n c : Nat} {p : Option Addr}, lS g (λ_ => True) p n c zs → zR g us zs → da us ≤ da t.l → Fr No h g → oB V t i = .ok us → ar Tryz.prog 247 #[.slice p n c] g λBP DU => aa.EX λt84 => BP = t84.agg ∧ R (.tuple #[.slice t84.sg t84.nC t84.qF, .int .i64 0]) DU := by
    intro g us zs n c p Lz Tz rz fg hu
    refine jn Lz Tz (by omega) λTJ z tz f10 => aa.ex z.s ⟨rfl, ?_⟩
    obtain ⟨_, ws, a5, a6, a7, a8⟩ := tz
    have zg := fg.1
    have := k1 us hu rz TJ z.q ws z.cl ⟨rfl, a6.iT, λ_ y hy => by have := a7 y hy; omega, a6.le⟩ (cS.mono (λy hy => by have := hy.1; omega) a8) (fg.tt f10)
    rw [← a5] at this
    exact this
  by_cases h0 : typeAt t.l i = 0
  · rw [if_pos (by rw [h0]; rfl)]
    rw [if_pos h0] at hO
    exact ⟨_, _, _, cz G6 rfl, Ik t.l ys (L.frame F4 (λ_ _ => id)) (TS.on F4) (Nat.le_refl _) F4 hO⟩
  rw [if_neg (by simpa using h0)]
  rw [if_neg h0] at hO
  have W9 : i < t.l.length := by
    rcases Nat.lt_or_ge i t.l.length with hq | hq
    · exact hq
    · have : typeAt t.l i = -1 := by unfold typeAt; rw [if_neg (λe => by omega)]
      omega
  have Xa := A2 t.l i
  obtain ⟨sum, UJ⟩ := Int.eq_ofNat_of_zero_le ht
  rw [UJ] at hO ⊢
  rw [Int.toNat_natCast] at hO
  have PT : 1 ≤ sum ∧ sum ≤ 2 := by omega
  obtain ⟨n, hn⟩ : ∃ n, t.l.length = n + 1 := ⟨t.l.length - 1, by omega⟩
  rw [show t.l.length - 1 = n by omega] at hO
  have ew : IntKind.wrap .i64 (((x.s.nC : Nat) : Int) - 1) = (n : Int) := by rw [UI, hn, bz (by omega) (by omega)]; omega
  refine ⟨_, _, _, cz G6 rfl, ?_⟩
  rw [ew]
  obtain ⟨a, y, ea, hh, ty, _⟩ := elem (L.frame F4 (λ_ _ => id)) (TS.on F4) (i := n) (by omega)
  have rn := ju (ts := t.l) (i := n) (by omega)
  obtain ⟨yk, yn, yb, yl, yv, _⟩ := gn.kn ty
  generalize PU : at_ t.l n = la at ty rn yk yn yb yl hO
  have Xb := mJ (t := la)
  refine ⟨_, _, _, cz G6 rfl, ⟨by omega, by omega⟩, bZ.2 ⟨a, ea, aa.mI (x := y.s) (by rw [Int.toNat_natCast]; exact hh) (aa.gh (x := y.s) λb1 h6 Tk JI f6 => aK.of λJ1 Vj => ?_)⟩⟩
  have F6 := F4.tt f6
  have lb : y.s.lV = la.b.length := by show y.v.b.length = _; rw [yb]
  have bad : ∀ g, Fr No h6 g → ¬ (i < n ∧ mM la (oL la.b) = true ∧ la.b.length = 2 * sum) → J1 true g := λg fg hn => by
    subst Vj
    try dsimp only
    rw [if_pos rfl]
    exact k2 3 (by rw [hO, if_neg hn]) (by decide) g (F6.tt fg)
  by_cases c1 : i < n
  case neg => rw [if_pos (decide_eq_true (by omega))]; exact bad h6 (Fr.refl _ _) (λe => c1 e.1)
  rw [if_neg (by simp only [decide_eq_true_eq]; omega)]
  have SO : ∀ {g}, Fr No h6 g → Row g y.v.p (bc la.b) := λfg => by rw [← yb]; exact ((yv.frame f6 (λ_ _ => id)).frame fg (λ_ _ => id)).row
  refine aa.fK JI ⟨_, _, _, cz JI rfl, mV (SO (Fr.refl _ _)) lb (by omega) λV9 v ev ov f11 => aa.ex (CV.s ⟨2, 0, v, none, 0, 0⟩) ⟨rfl, f11.kp, ?_⟩⟩
  refine iQ (x := y) (y := ⟨2, 0, v, none, 0, 0⟩) (s := oL la.b) (ty.on (f6.tt f11)) (ev ▸ AW ov) (by omega) λUK f12 => ⟨_, rfl, ?_⟩
  have PV := f11.tt f12
  cases c2 : mM la (oL la.b) with
  | false => rw [if_pos (by decide)]; exact bad UK PV (λe => by rw [c2] at e; cases e.2.1)
  | true =>
  rw [if_neg (show ¬ (!true) = true by decide)]
  refine ⟨_, _, _, cz (PV.get JI id) rfl, oH.walk ⟨_, rfl, (Fr.refl _ _).kp, ?_⟩⟩
  rw [lb, bz (n := 2 * (sum : Int)) (by omega) (by omega)]
  by_cases c3 : la.b.length = 2 * sum
  case neg => rw [show (((la.b.length : Nat) : Int) != 2 * (sum : Int)) = true by simp only [bne_iff_ne, ne_eq]; omega]; exact bad UK PV (λe => c3 e.2.2)
  rw [show (((la.b.length : Nat) : Int) != 2 * (sum : Int)) = false by simp only [bne_eq_false_iff_eq]; omega]
  clear bad
  rw [if_pos ⟨c1, c2, c3⟩] at hO
  subst Vj
  try dsimp only
  rw [if_neg (show ¬ false = true by decide)]
  have SP := F6.tt PV
  have cut : ∀ {g}, Fr No h g → lS g (λ_ => True) (cE x.s.sg x.s.qF 0 4) ((Int.toNat (n : Int)) - 0) (x.s.qF - 0) (ys.take n) := fun {g} fg => by
    have hr := (L.frame fg (λ_ _ => id)).row.sub (cap := x.cl) (l := 0) (u := n) (sz := 4) (Nat.zero_le _) (by have := L.cap; omega)
    rw [kW gV 4 fX, Nat.zero_mul, List.drop_zero] at hr
    have hc : x.ll ≤ x.cl := L.cap
    exact ⟨by rw [List.length_take]; omega, hr, λ_ _ _ => trivial, by show n - 0 ≤ x.cl - 0; omega⟩
  have cc : n ≤ x.s.qF := by have hc : x.ll ≤ x.cl := L.cap; show n ≤ x.cl; omega
  have rt : da (t.l.take n) ≤ da t.l := mH _ _
  refine ⟨_, _, _, cz ((f6.tt PV).get G6 id) rfl, ⟨by omega, by omega⟩, El U (u.tt SP) (cut SP) ((TS.on SP).take n) (by omega) PT.1 PT.2 (λbs hs Tm Xc Xd row Xe nb f14 => ⟨_, _, _, _, rfl, ?_⟩) (λhs Tm f14 => ⟨_, _, _, _, rfl, ?_⟩)⟩
  · rw [if_neg (by decide)]
    rw [hs] at hO
    dsimp only at hO
    refine ⟨_, _, _, cz ((PV.tt f14).get JI id) rfl, ot row (SO (PV.tt f14)) rfl lb ⟨_, rfl, ?_⟩⟩
    have Tn := SP.tt f14
    by_cases ce : bs = la.b
    · rw [decide_eq_true ce, if_neg (show ¬ (!true) = true by decide)]
      rw [if_pos ce] at hO
      exact ⟨_, _, _, cz (((f6.tt PV).tt f14).get G6 id) rfl, ⟨by omega, by omega⟩, Ik (t.l.take n) (ys.take n) (cut Tn) ((TS.on Tn).take n) rt Tn hO⟩
    · rw [decide_eq_false ce, if_pos (show (!false) = true by decide)]
      rw [if_neg ce] at hO
      exact k2 10 hO (by decide) Tm Tn
  · rw [if_pos (by decide)]
    rw [hs] at hO
    exact k2 3 hO (by decide) Tm (SP.tt f14)

end Bn
end
section
namespace Bn
open Cb
open jc (Ev cK ku)
variable {V:List UInt8→Bool} {h H h':ai} {R:fx}
variable {ts:List Tr} {i:Nat} {t:Tr} {e:Int}
abbrev Prim.s(p:Prim):aD.S:=⟨p.fl,p.sum,p.dest.kH,p.dest.node,p.dest.gH,p.dest.host,p.dest.jD,p.rep.kH,p.rep.node,p.rep.gH,p.rep.host,p.rep.jD,p.id.e.kH,p.id.e.node,p.id.e.gH,p.id.e.host,p.id.e.jD,p.id.tm,p.id.sq,p.eH⟩
def Prim.wf(p:Prim):Prop:=0<=p.dest.gH/\0<=p.rep.gH/\0<=p.id.e.gH
variable {p:Prim}
theorem SQ{b:Nat}{y:aD.S}(x:Prim){K:aD.S->ai->Prop}(a:aD.fN h b y)(hk: ∀h',Fr (λy=>y=b) h h'->K x.s h'):
  aD.cY h (AA b 0) x.s λg=>aD.cG g (AA b 0) λr=>K r g:=
 aD.gO (x:=x.s) a λg d1 f _=>aD.fK d1 (hk g f)
theorem JY(p:Prim)(hk: gW h R (.bool (je p))):ar Tryz.prog 202 #[p.s.agg] h R:=by
 refine zO.walk (aD.cT λb d E a f1=>⟨_,aw a,?_⟩);have no: ∀g,Fr No h g->je p=false->R (.bool false) g:=λg o e=>by have:=hk g o;rw[e]at this;exact this
 change if Rl (p.fl:Int) 409638=true then _ else _
 by_cases c1:Rl (p.fl:Int) 409638=true
 case neg=>rw[ag c1];exact no d f1 (by unfold je;simp[c1])
 rw[af c1];refine⟨_,aw a,?_⟩;by_cases c:0<=p.sum
 case neg=>rw[ag (by simp only[aY];exact c)];exact no d f1 (by unfold je;simp[c])
 rw[af (aq c)];refine⟨_,aw a,?_⟩;by_cases C:p.sum<=2
 case neg=>rw[ag (by simp only[aY];exact C)];exact no d f1 (by unfold je;simp[C])
 rw[af (aq C)];refine ic p.dest a rfl rfl rfl rfl rfl (jc.eX p.dest λq f2=>⟨_,rfl,?_⟩);cases f:cK p.dest with
 |false=>exact no q (f1.tt f2) (by unfold je;simp[f])
 |true=>
 rw[af rfl];have m:=f2.get a id;refine ic p.rep m rfl rfl rfl rfl rfl (jc.eX p.rep λr f3=>⟨_,rfl,?_⟩);have F:=f1.tt (f2.tt f3);cases j:cK p.rep with
 |false=>exact no r F (by unfold je;simp[j])
 |true=>
 rw[af rfl];have n:=f3.get m id;refine yF p.id n rfl rfl rfl rfl rfl rfl rfl (qA p.id λl f4=>⟨_,rfl,?_⟩);cases k:gx p.id with
 |false=>exact no l (F.tt f4) (by unfold je;simp[k])
 |true=>
 rw[af rfl];refine⟨_,aw (f4.get n id),?_⟩;have:=hk l (F.tt f4);unfold je at this;rw[c1,aq c,aq C,f,j,k]at this;rw[show decide ((p.s.f19:Int)<=1099511627776)=decide (p.eH<=1099511627776)from kG p.eH 1099511627776];exact this
theorem A4(h:je p=true):0<=p.sum/\p.sum<=2/\cK p.dest=true/\cK p.rep=true/\gx p.id=true/\p.eH<=1099511627776:=by
 unfold je at h;simp only[aT,aY]at h;exact⟨h.1.1.1.1.1.2,h.1.1.1.1.2,h.1.1.1.2,h.1.1.2,h.1.2,h.2⟩
theorem yM(h:je p=true):da (Dm p)<=1000:=by
 obtain⟨_,_,a,b,c,_⟩:=A4 h;have:=kZ _ a;have:=kZ _ b;have:=kZ _ (yG c).1;simp only[Dm,da,room,bt];omega
theorem yN(h:ml V ts i=.ok t):room t<=da ts+30:=by
 unfold ml at h;split at h
 .split at h
  .split at h
   .split at h
    .cases h
    .rename_i b a;split at h
     .cases h;have:b.length<=4:=by
       unfold sumOf at a;split at a
       .cases a;split<;>simp[BD,GV]
       .cases a
      simp only[room,gX,da,bt];omega
     .cases h
   .split at h
    .cases h;simp only[room,bt];omega
    .cases h
  .cases h
 .cases h
theorem yO(h:mn V p=.ok t):room t<=1100:=by
 unfold mn at h;split at h
 .rename_i a;have:=yN h;have:=yM a;omega
 .cases h
theorem MI(p:Prim)(w:p.wf)(U:lW V H)(u:Fr No H h)(K: ∀t,mn V p=.ok t->∀h' z,re h' (λy=>h.size<=y) t z->Fr No h h'->R (.tuple #[z.agg,.I 0]) h')(k: ∀e,mn V p=.error e->gW h R (.tuple #[zv.agg,.I e])):ar Tryz.prog 177 #[p.s.agg] h R:=by
 refine zP.walk (aD.cT λb h1 eb s f1=>aa.cT λb1 h2 f' v f2=>aD.fK (x:=p.s) (f2.get s id) (JY p λh3 f3=>⟨_,rfl,?_⟩));have a:=(f2.tt f3).get s id;have j:=f3.get v id;have f:=f1.tt (f2.tt f3);have z1:=f1.1;have u':=aF v;have z3:=f3.1;unfold mn at K k;cases c:je p with
 |false=>exact Ca j λQ f4=>k 3 (by rw[c,cW]) Q (f.fresh f4 (λy e=>ae))
 |true=>
 rw[cW];rw[c,af rfl]at K k;obtain⟨s0,s2,I,J,E,_⟩:=A4 c;have hE:=(yG E).1;refine ic p.dest a rfl rfl rfl rfl rfl (vm p.dest w.1 (λ_ h5 Z td f5=>aa.ex Z.s ⟨_,rfl,aa.gh (x:=Z.s) λb2 h7 g' S f7=> ?_⟩) (λe=>by rw[I]at e;cases e));have r:=f5.tt f7;refine ic p.rep (r.get a id) rfl rfl rfl rfl rfl (vm p.rep w.2.1 (λ_ h8 d tr f8=>aa.ex d.s ⟨_,rfl,aa.gh (x:=d.s) λb3 l' i' X f10=> ?_⟩) (λe=>by rw[J]at e;cases e));have o:=r.tt (f8.tt f10);refine yF p.id (o.get a id) rfl rfl rfl rfl rfl rfl rfl (AY p.id w.2.2 (λ_ m' m ti f11=>aa.ex m.s ⟨_,rfl,aa.gh (x:=m.s) λb4 n' j' A f13=> ?_⟩) (λe=>by rw[E]at e;cases e));have q:=o.tt (f11.tt f13);have l:=q.get a id;have W:=(f8.tt (f10.tt (f11.tt f13))).get S id;have a':=(f11.tt f13).get X id;obtain⟨ik,s',ib,il,iv,ys,L,T⟩:=gn.kn (ti.u.on f13);have lI:(KZ p.id).l.length=2:=rfl;have li:m.s.nC=2:=il;obtain⟨a0,y0,M,b',d',_⟩:=elem L T (i:=0) ae;obtain⟨D,Y,N,c',e',_⟩:=elem L T (i:=1) ae;refine⟨_,aw l,_,aw l,aa.fK W ⟨_,_,_,aw A,⟨ae,ae⟩,bZ.2 ⟨a0,M,aa.mI (x:=y0.s) b' (aa.fK a' ⟨_,_,_,aw A,⟨ae,ae⟩,bZ.2 ⟨D,N,aa.mI (x:=Y.s) c' ⟨_,aw l,?_⟩⟩⟩)⟩⟩⟩;obtain⟨sum,hs⟩:=gR s0;have es:p.sum.toNat=sum:=ae
 refine fM (n:=7) λo' f14=>aa.ex (nv 7).s ⟨rfl,f14.kp,fM (n:=p.fl) λp' f15=>aa.ex (nv p.fl).s ⟨rfl,f15.kp,?_⟩⟩
 rw[show p.s.f1=(sum:Int)from hs,wrap_u64 (n:=(sum:Int)) ae ae];refine fM (n:=sum) λq' f16=>aa.ex (nv sum).s ⟨rfl,f16.kp,fM (n:=p.eH) λr' f17=>aa.ex (nv p.eH).s ⟨rfl,f17.kp,ny (ys:= [nv 7,nv p.fl,nv sum,Z,y0,d,Y,nv p.eH]) rfl λb5 O k' B f18=>⟨f18.kp,?_⟩⟩⟩
 have G:=f14.tt (f15.tt (f16.tt (f17.tt f18)));have C:zR O (Dm p) [nv 7,nv p.fl,nv sum,Z,y0,d,Y,nv p.eH]:=by
  unfold Dm;rw[es];exact .cons lT (.cons lT (.cons lT (.cons (td.u.on (f7.tt (f8.tt (f10.tt (f11.tt (f13.tt G)))))) (.cons (d'.on G) (.cons (tr.u.on (f10.tt (f11.tt (f13.tt G)))) (.cons (e'.on G) (.cons lT .nil)))))))
 have F:=q.tt G;have rp:=yM c;refine Ij (i:=2) U (u.tt (f.tt F)) (B (λ_=>True) trivial) C ae ae (λt ht P z tz f19=>aa.ex z.s ⟨_,rfl,?_⟩) (λe he P f19=>aa.ex zv.s ⟨_,rfl,?_⟩)
 .have t':=F.1;exact fin ((F.tt f19).get j id) tz (λy hy e=>ae) λg t20 f20=>K t ht g z (t20.mono λy hy=>ae) ((f.tt (F.tt f19)).fresh f20 (λy e=>ae))
 .exact Ca ((F.tt f19).get j id) λg f20=>k e he g ((f.tt (F.tt f19)).fresh f20 (λy e=>ae))
theorem A5(h:ml V ts i=.error e):e≠0:=by
 unfold ml at h;split at h
 .split at h
  .split at h
   .split at h
    .rename_i a;cases h;unfold sumOf at a;split at a
     .cases a
     .cases a;decide
    .split at h
     .cases h
     .cases h;decide
   .split at h
    .cases h
    .cases h;decide
  .cases h;decide
 .cases h;decide
theorem JZ(h:mn V p=.error e):e≠0:=by
 unfold mn at h;split at h
 .exact A5 h
 .cases h;decide
theorem MJ(p:Prim)(w:p.wf)(U:lW V H)(u:Fr No H h)(hk: ∀h' z q,(∀t,mn V p=.ok t->q=0/\D9 h' t z)->(∀e,mn V p=.error e->q≠0)->Fr No h h'->R (.tuple #[z.s.agg,.I q]) h'):ar Tryz.prog 177 #[p.s.agg] h R:=
 MI p w U u (λt b h' z T f=>hk h' z 0 (λc e=>by rw[b]at e;cases e;exact⟨rfl,T.u⟩) (λe a=>by rw[b]at a;cases a) f) (λe a h' f=>hk h' zv e (λt b=>by rw[a]at b;cases b) (λ_ _=>JZ a) f)
theorem MK{x:CV}(U:lW V H)(u:Fr No H h)(mx:tR.Mx h)(tx:D9 h t x)(hr:room t<=400000)(k1: ∀p,vR V t=.ok p->p.wf->gW h R (.tuple #[p.s.agg,.I 0]))(k2: ∀e,vR V t=.error e->e≠0->gW h R (.tuple #[Prim.zero.s.agg,.I e])):ar Tryz.prog 194 #[x.agg] h R:=by
 have rl:=mJ (t:=t);refine B5.walk (x:=x.s) (aa.cT λb E eb hb f1=>aD.cT λb1 O Tk a' f2=>aa.fK (f2.get hb id) ?_);have v:=f1.tt f2;have E':=f2.get hb id;have zb:=aF hb;have Tj:=aF a';have z1:=f1.1;have z2:=f2.1;have no: ∀g e,Fr No O g->vR V t=.error e->e≠0->aD.cY g (AA b1 0) .z λG=>aD.cG G (AA b1 0) λr=>R (.tuple #[r.agg,.I e]) G:=λg e F K P=>
  SQ .zero (F.get a' id) λG f=>k2 e K P G ((v.tt F).fresh f (λy e=>ae))
 have l:vR V t=vR V t:=rfl;conv at l=>rhs;unfold vR
 refine kP (i:=2) U (u.tt v) (tx.on v) ae ae (λj m ru A p zs c L TS f3=>⟨_,_,_,_,rfl,?_⟩) (λe K P A f3=>⟨_,_,_,_,rfl,?_⟩)
 case refine_2=>
  rw[af (cD P)];exact no A e f3 (by rw[l,K]) P
 rw[cW];rw[m]at l;dsimp only at l;have ln:=TS.len;have l9:=gm j;by_cases l8:j.length=8
 case neg=>
  rw[af (by simp only[dJ,fa];omega)];exact no A 3 f3 (by rw[l,ag l8]) cM
 rw[ag (by simp only[dJ,fa];omega)];rw[af l8]at l;have z3:=f3.1;have it: ∀i,i<8->∃(a:Addr)(y:CV),p=some a/\dF (a.add (i*4)) y.s.l 0 A/\D9 A (at_ j i) y/\(∀{g},Fr No A g->aB g ((a.add (i*4)).add 1)=some (.U ((at_ j i).n:Int))):=λi hi=>by
  obtain⟨a,y,ea,hh,ty,_⟩:=elem L TS (i:=i) ae;obtain⟨_,yn,_⟩:=gn.kn ty;exact⟨a,y,ea,hh,ty.u,λF=>F.cell (by have:=hh.2.1;rw[<-yn];exact this) id⟩
 have Y: ∀i,i<8->room (at_ j i)<=da j:=λi hi=>ju ae
 obtain⟨a3,y3,q',P',Z',_⟩:=it 3 ae;have r3:=Y 3 ae;have r5:=Y 5 ae;have r4:=Y 4 ae;have r6:=Y 6 ae;have u2:=u.tt v;have m2:=mx.on v;refine⟨⟨ae,ae⟩,bZ.2 ⟨a3,q',aa.mI (x:=y3.s) P' (Cg U (u2.tt f3) (m2.on f3) Z' ae λd qd ⟨N',O',wd⟩ h6 f6=>ax.ex d.s ⟨_,rfl,ax.gh (x:=d.s) λb2 h8 VO F' f8=> ?_⟩)⟩⟩;obtain⟨a5,y5,s',R',Wa,_⟩:=it 5 ae;have B:=f6.tt f8;refine⟨⟨ae,ae⟩,bZ.2 ⟨a5,s',aa.mI (x:=y5.s) (kf B id R') (Cg U (u2.tt (f3.tt B)) (m2.on (f3.tt B)) (Wa.on B) ae λr qr ⟨V',W',wr⟩ h9 f9=>ax.ex r.s ⟨_,rfl,ax.gh (x:=r.s) λb3 e' Xf H' f11=>aK.of λg' hJ=> ?_⟩)⟩⟩;obtain⟨a4,y4,r',Q',Wb,_⟩:=it 4 ae;obtain⟨a6,y6,t',S',Wc,_⟩:=it 6 ae;have o:=B.tt (f9.tt f11);have G':=(f9.tt f11).get F' id;have Z:=u2.tt (f3.tt o);have S:=m2.on (f3.tt o);have rest: ∀g s (X:iz) (q:Int),ah.fN g s X.s->Fr No e' g->IQ V (qC [at_ j 4,at_ j 6]) X q->g' (some (AA s 0)) q g:=by
  intro g s X q Q F ⟨T',U',wq⟩;have C:=o.tt F;obtain⟨k',w1,u',_,_,n'⟩:=it 1 ae;obtain⟨l',w2,v',_,_,o'⟩:=it 2 ae;obtain⟨m',w7,w',_,_,p'⟩:=it 7 ae;subst hJ;dsimp only;refine⟨⟨ae,ae⟩,bZ.2 ⟨k',u',_,n' C,⟨ae,ae⟩,bZ.2 ⟨l',v',_,o' C,ax.fK (F.get G' id) (ax.fK (F.get H' id) (ay.2 (ah.fK Q ⟨⟨ae,ae⟩,bZ.2 ⟨m',w',_,p' C,?_⟩⟩)))⟩⟩⟩;have n2:(at_ j 2).n<=2:=by
   have:0<=typeAt j 2:=by
    unfold oB at m;split at m
    .rename_i E;have key: ∀k,2<k->typeAt (t.l.take k) 2=typeAt t.l 2:=λk hk=>by
      unfold typeAt at_;rw[aX,aX,cI,af hk,bF];exact ite_congr (propext (by constructor<;>(rintro⟨a,b⟩;exact⟨ae,b⟩))) (λ_=>rfl) (λ_=>rfl)
     split at m
     .cases m;exact E.2.2
     .split at m
      .rename_i O;split at m
       .cases m
       .split at m
        .cases m;rw[key _ O.1];exact E.2.2
        .cases m
      .cases m
    .cases m
   unfold typeAt at this;split at this
   .rename_i E;exact E.2.1
   .omega
  refine aD.cT λb4 Wd We I' f13=>⟨f13.kp,?_⟩
  rw[bz (n:=(((at_ j 2).n:Nat):Int)) ae ae];refine aD.gO (x:=(uk j d r X).s) I' λx' d14 f14 _=>aD.fK d14 ?_
  have zg:=C.1;have b':Fr No O x':=(f3.tt (C.tt f13)).fresh f14 (λy e=>ae);refine MJ (uk j d r X) ⟨wd,wr,wq⟩ U (u2.tt b') λWf z qz X' Y' f15=>aa.ex z.s ⟨_,rfl,aa.gh (x:=z.s) λb5 I Xg J' f17=>aK.of λJ1 f'=> ?_⟩
  have c':=f15.tt f17;have D:=b'.tt c';have bad: ∀g,Fr No I g->vR V t=.error 3->J1 true g:=λg F K=>by
   subst f';try dsimp only
   rw[af rfl];exact no g 3 (D.tt F) K cM
  by_cases c1:qd=0
  case neg=>rw[af (cD c1)];exact bad I (Fr.refl _ _) (by rw[l,O' c1])
  rw[ag (cD c1)];by_cases M:qr=0
  case neg=>rw[af (cD M)];exact bad I (Fr.refl _ _) (by rw[l,W' M];cases mU V (at_ j 3)<;>rfl)
  rw[ag (cD M)];by_cases N:q=0
  case neg=>rw[af (cD N)];exact bad I (Fr.refl _ _) (by rw[l,U' N];cases mU V (at_ j 3)<;>cases mU V (at_ j 5)<;>rfl)
  rw[ag (cD N)];rw[N' c1,V' M,T' N]at l;dsimp only at l;cases J:mn V (uk j d r X)with
  |error e=>
   rw[J]at l;rw[af (cD (Y' e J))];exact bad I (Fr.refl _ _) l
  |ok d'=>
   rw[J]at l;dsimp only at l;obtain⟨rfl,T⟩:=X' d' J;rw[cW];have ra:=yO J;refine aa.fK J' (aa.fK (x:=x.s) (D.get E' id) (iQ (x:=z) (y:=x) (T.on f17) (tx.on (v.tt D)) ae λy' f21=>⟨_,rfl,?_⟩));cases Q:mM d' t with
   |false=>exact bad y' f21 (by rw[l,ag (by rw[Q];decide)])
   |true=>
    rw[Q,af rfl]at l;subst f';try dsimp only
    rw[cW];exact aD.fK ((c'.tt f21).get d14 id) (SQ (uk j d r X) ((D.tt f21).get a' id) λG f=>k1 _ l ⟨wd,wr,wq⟩ G ((v.tt (D.tt f21)).fresh f (λy e=>ae)))
 have rI:da [at_ j 4,at_ j 6]<=2*da j:=by simp only[da];omega
 have W:room (qC [at_ j 4,at_ j 6])<=900000:=by simp only[room,bt];omega
 refine⟨⟨ae,ae⟩,bZ.2 ⟨a4,r',aa.mI (x:=y4.s) (kf o id Q') ⟨⟨ae,ae⟩,bZ.2 ⟨a6,t',aa.mI (x:=y6.s) (kf o id S') ?_⟩⟩⟩⟩;have T2:zR e' [at_ j 4,at_ j 6] [y4,y6]:=two (Wb.on o) (Wc.on o);refine⟨ny (ys:= [y4,y6]) rfl λb6 Xh Xi L6 f22=>⟨?_,?_,trivial⟩,ah.cT λj' Xj Wg D' f34=>⟨f34.kp,ny (ys:= [y4,y6]) rfl λWh Xk Wi i' f35=> ?_⟩,trivial⟩
 .refine jn (L6 (λ_=>True) trivial) (T2.on f22) ae λXl z T f23=>aa.ex z.s ⟨rfl,?_,?_,trivial⟩
  .exact Ch U (Z.tt (f22.tt f23)) (S.on (f22.tt f23)) T.u W λX q w Xm f24=>ah.ex X.s ⟨_,rfl,ah.gh (x:=X.s) λb7 z' Xn K' f26=>rest z' b7 X q K' (f22.tt (f23.tt (f24.tt f26))) w⟩
  .refine ah.cT λb8 Xo Xp L' f27=>Ch U (Z.tt (f22.tt (f23.tt f27))) (S.on (f22.tt (f23.tt f27))) (T.u.on f27) W λX q w Xq f28=>ah.ex X.s ⟨_,rfl,ah.gO (x:=X.s) (f28.get L' id) λA' d29 f29 _=>rest A' b8 X q d29 ?_ w⟩
   exact(f22.tt (f23.tt (f27.tt f28))).fresh f29 (λy e=>ig f22.1 f23.1)
 .refine ah.cT λb9 Xr Xs M' f30=>jn ((L6 (λ_=>True) trivial).frame f30 (λ_ _=>id)) (T2.on (f22.tt f30)) ae λXt z T f31=>aa.ex z.s ⟨rfl,Ch U (Z.tt (f22.tt (f30.tt f31))) (S.on (f22.tt (f30.tt f31))) T.u W λX q w Xu f32=>ah.ex X.s ⟨_,rfl,ah.gO (x:=X.s) ((f31.tt f32).get M' id) λB' d33 f33 _=>rest B' b9 X q d33 ?_ w⟩⟩
  exact(f22.tt (f30.tt (f31.tt f32))).fresh f33 (λy e=>cf f22.1)
 .refine jn (i' (λ_=>True) trivial) (T2.on (f34.tt f35)) ae λXv z T f36=>aa.ex z.s ⟨rfl,Ch U (Z.tt (f34.tt (f35.tt f36))) (S.on (f34.tt (f35.tt f36))) T.u W λX q w Xw f37=>ah.ex X.s ⟨_,rfl,ah.gO (x:=X.s) ((f35.tt (f36.tt f37)).get D' id) λC' d38 f38 _=>rest C' j' X q d38 ?_ w⟩⟩
  exact(f34.tt (f35.tt (f36.tt f37))).fresh f38 (λy e=>ae)

end Bn
end
section
variable {h:ai} {R:fx}
variable {c L:cj} {d D l e:Nat}
theorem Gt.walk(m:aS h (.cells aa.S.z.arr 262) λb i=>Cl 193 #[.slice c d D,.I 0] i λv j=>aa.EX λt=> ∃o T,v=.tuple #[t.agg,.I o,.I T]/\aS j (.cells aa.S.z.arr 262) λB k=>aa.cY k (AA B 0) t λH=>aa.cG H (AA B 0) λt13=>if(T==0)then Cl 314 #[.slice c d D] H λV a=> ∃t18,V=.bool t18/\Kp H a [(some (AA B 0))]/\aa.cY a (AA b 0) t13 λf=>aa.cG f (AA b 0) λr=>R (.tuple #[r.agg,.bool t18]) f else aa.cY H (AA b 0) t13 λg=>aa.cG g (AA b 0) λn=>R (.tuple #[n.agg,.bool false]) g):ar Tryz.prog 293 #[.slice c d D] h R:=aR (lq (lq (sq (pK 9) lf))) Tryz.func293 m
theorem yP.walk(r:aS h (.cells ax.S.z.arr 29) λb m=>Cl 293 #[.slice c d D] m λv n=>aa.EX λt=> ∃T,v=.tuple #[t.agg,.bool T]/\aS n (.cells aa.S.z.arr 262) λB o=>aa.cY o (AA B 0) t λf=>aa.cG f (AA B 0) λt14=>Cl 245 #[t14.agg] f λV p=>ax.EX λj=> ∃k,V=.tuple #[j.agg,.I k]/\aS p (.cells ax.S.z.arr 29) λa q=>ax.cY q (AA a 0) j λH=>ax.cG H (AA a 0) λt18=>if T then ax.cY H (AA b 0) t18 λg=>ax.cG g (AA b 0) λs=>R (.tuple #[s.agg,.bool (k==0)]) g else ax.cY H (AA b 0) t18 λi=>ax.cG i (AA b 0) λu=>R (.tuple #[u.agg,.bool false]) i):ar Tryz.prog 252 #[.slice c d D] h R:=aR (lq (lq (lq ll))) Tryz.func252 r
theorem J0.walk(j:Cl 293 #[.slice c d D] h λv g=>aa.EX λt=> ∃T,v=.tuple #[t.agg,.bool T]/\aS g (.cells aa.S.z.arr 262) λb i=>aa.cY i (AA b 0) t λH=> ∃t12,Cc H b 1 (.U t12)/\if T then aa.cG H (AA b 0) λt15=>Hu H b 1 λt17=>Cl 205 #[.U t17] H λV f=>aa.EX λt18=>V=t18.agg/\Kp H f [(some (AA b 0)),(some (AA b 1))]/\Cl 248 #[t15.agg,t18.agg] f λk a=> ∃t19,k=.bool t19/\Kp f a [(some (AA b 1))]/\if t19 then∃t23,Cc a b 1 (.U t23)/\R (.tuple #[.U t12,.bool (decide (t23<=1099511627776))]) a else R (.tuple #[.U t12,.bool false]) a else R (.tuple #[.U t12,.bool false]) H):ar Tryz.prog 253 #[.slice c d D] h R:=aR (lq (lq (sq (pK 17) lf))) Tryz.func253 j
theorem Gu.walk(o:Cl 293 #[.slice c d D] h λv m=>aa.EX λt=> ∃T,v=.tuple #[t.agg,.bool T]/\aS m (.cells aa.S.z.arr 262) λb n=>aa.cY n (AA b 0) t λf=>aK (λ(t26:Bool) (H:ai)=>if t26 then R (.tuple #[.U 0,.U 0,.bool false]) H else Hl H b 3 λs r y=>Bd 0 r/\aO s λa=>sw H ((a.add (toNat 0*4)).add 1) λt31=>Hl H b 3 λw u z=>Bd 1 u/\aO w λA=>sw H ((A.add (toNat 1*4)).add 1) λt36=>aa.cG H (AA b 0) λt39=>aS H (.cells #[.U t31,.U t36] 27) λB i=>Kp H i [(some (AA b 0))]/\Cl 209 #[.slice (some (AA B 0)) 2 2] i λV j=>aa.EX λt43=>V=t43.agg/\Kp i j [(some (AA b 0))]/\Cl 248 #[t39.agg,t43.agg] j λx g=> ∃t44,x=.bool t44/\if t44 then if(decide (t31≥1))then if(decide (t31<=255))then R (.tuple #[.U t31,.U t36,.bool (decide (t36<=t31))]) g else R (.tuple #[.U t31,.U t36,.bool false]) g else R (.tuple #[.U t31,.U t36,.bool false]) g else R (.tuple #[.U t31,.U t36,.bool false]) g) (λJ=>if(!T)then J true f else∃t18,Cc f b 0 (.I t18)/\if(t18 !=4)then J true f else∃q k p,Cc f b 3 (.slice q k p)/\J (((k:Nat):Int) !=2) f)):ar Tryz.prog 254 #[.slice c d D] h R:=aR (lq (lq (sq (sq (.join [(26,.one (.bool))] lf) (cq ll lf)) (sq (pK 12) (sq (pK 24) lf))))) Tryz.func254 o
theorem zW.walk(u:aS h (.cells aa.S.z.arr 262) λb o=>Cl 247 #[.Z] o λv p=>aa.EX λt6=>v=t6.agg/\aS p (.cells aa.S.z.arr 262) λB q=>aa.cY q (AA B 0) t6 λr=> ∃(I:Int->ai->Prop)(m:Int->ai->Nat),I 0 r/\∀(t9:Int)(H:ai),I t9 H->if(decide (t9<(l:Int)))then Bd t9 l/\aO L λa=>sw H (a.add (toNat t9*1)) λt12=>Hl H B 3 λz y x=>Cl 205 #[.U t12] H λV f=>aa.EX λt16=>V=t16.agg/\Kp H f [(some (AA B 3))]/\aS f (.cells t16.arr 262) λn i=>Kp f i [(some (AA B 3))]/\aV Tryz.prog (Builtin.append_ #[260,260] 260 #[.slice z y x,.slice (some (AA n 0)) 1 1]) i λA s=> ∃k T t,A=.slice k T t/\aE s (AA B 3) (.slice k T t) λj=>(I (wrap .i64 (t9+1)) j/\m (wrap .i64 (t9+1)) j<m t9 H)else aa.cG H (AA B 0) λt21=>aa.cY H (AA b 0) t21 λg=>aa.cG g (AA b 0) λw=>R (w.agg) g):ar Tryz.prog 209 #[.slice L l e] h R:=aR (lq (lq (sq (lq (bq (.loop [(9,.one (.int .i64))] (lq (sq (cq lf lf) (sq (bq (lq (pK 8))) lf)))))) ll))) Tryz.func209 u
theorem Ck.walk{kind:Int} (p:aK (λ(ok:Bool) (H:ai)=>if ok then R (.bool (decide ((d:Int)<=200))) H else R (.bool false) H) (λJ=>aK (λ(O:Bool) (g:ai)=>J O g) (λj=>if(kind==6)then Cl 252 #[.slice c d D] h λv i=>ax.EX λs=> ∃t,v=.tuple #[s.agg,.bool t]/\j t i else aK (λ(q:Bool) (k:ai)=>j q k) (λa=>if(kind==7)then Cl 253 #[.slice c d D] h λV m=> ∃u T,V=.tuple #[.U u,.bool T]/\a T m else aK (λ(r:Bool) (n:ai)=>a r n) (λb=>if(kind==10)then Cl 254 #[.slice c d D] h λy o=> ∃w x f,y=.tuple #[.U w,.U x,.bool f]/\b f o else b true h))))):ar Tryz.prog 201 #[.U kind,.slice c d D] h R:=aR (lq (lq (sq (lq (.join [(5,.one (.bool))] (bq (lq (.join [(5,.one (.bool))] (cq lf (lq (.join [(5,.one (.bool))] (cq lf (lq (.join [(5,.one (.bool))] (cq lf lf)))))))))))) ll))) Tryz.func201 p
theorem Cn.walk(a:Cl 250 #[.slice L l e,.func (.func 251) #[] #[]] h λv H=> ∃t4,v=.bool t4/\R (.bool (!t4)) H):ar Tryz.prog 200 #[.slice L l e] h R:=aR (lq ll) Tryz.func200 a
theorem yQ.walk{n:Int}(H:if(decide (n<1))then R (.bool true) h else R (.bool (decide (n>255))) h):ar Tryz.prog 251 #[.U n] h R:=aR (lq ll) Tryz.func251 H
theorem Em.walk{b:aG.S}(j:aS h (.cells b.arr 201) λB a=>Hu a B 0 λt4=>Hu a B 1 λt6=>aS a (.cells #[.U t4,.U t6] 27) λf g=>Cl 200 #[.slice (some (AA f 0)) 2 2] g λv H=> ∃t8,v=.bool t8/\if t8 then∃t11,Cc H B 2 (.U t11)/\if((wrap .u64 ((mf t11 &&& ~~~ mf 23).toNat:Int))==0)then∃t17,Cc H B 3 (.I t17)/\if(decide (t17≥0))then∃t22,Cc H B 3 (.I t22)/\if(decide (t22<=2))then Hu H B 0 λt27=>Hl H B 4 λk T t=>Cl 201 #[.U t27,.slice k T t] H λV i=> ∃t30,V=.bool t30/\R (.bool t30) i else R (.bool false) H else R (.bool false) H else R (.bool false) H else R (.bool false) H):ar Tryz.prog 175 #[b.agg] h R:=aR (lq ll) Tryz.func175 j
theorem Eo.walk {b : aG.S} (hv :
 aS h (.cells b.arr 201) λwC gU =>
 aS gU (.cells aa.S.z.arr 262) λEH iN =>
 aG.cG iN ⟨wC, 0, none⟩ λt5 =>
 Cl 175 #[t5.agg] iN λv qZ =>
 ∃ t6, v = .bool t6 ∧
 if (!t6) = true then
 aa.cY qZ ⟨EH, 0, none⟩ aa.S.z λCL =>
 aa.cG CL ⟨EH, 0, none⟩ λr0 =>
 R (.tuple #[r0.agg, .int .i64 3]) CL
 else
 ∃ t10, aB qZ ⟨wC, 0, none⟩ = some (.int .u64 t10) ∧
 ∃ t12, aB qZ ⟨wC, 1, none⟩ = some (.int .u64 t12) ∧
 ∃ t14, aB qZ ⟨wC, 2, none⟩ = some (.int .u64 t14) ∧
 ∃ t16, aB qZ ⟨wC, 3, none⟩ = some (.int .i64 t16) ∧
 aS qZ (.cells #[.int .u64 t10, .int .u64 t12, .int .u64 t14, .int .u64 (IntKind.wrap .u64 t16)] 27) λTQ Jd =>
 Cl 209 #[.slice (some ⟨TQ, 0, none⟩) 4 4] Jd λFu DC =>
 aa.EX λt19 =>
 Fu = t19.agg ∧
 ∃ PW PX PY, aB DC ⟨wC, 4, none⟩ = some (.slice PW PX PY) ∧
 Cl 210 #[.slice PW PX PY] DC λJm Je =>
 aa.EX λt24 =>
 Jm = t24.agg ∧
 aS Je (.cells t24.arr 262) λTU Nh =>
 aV Tryz.prog (Builtin.append_ #[260, 260] 260 #[.slice t19.sg t19.nC t19.qF, .slice (some ⟨TU, 0, none⟩) 1 1]) Nh λFF QK =>
 ∃ PZ P0 P1, FF = .slice PZ P0 P1 ∧
 Cl 206 #[.slice PZ P0 P1, .int .i64 3] QK λBP DU =>
 aa.EX λP2 =>
 ∃ P3, BP = .tuple #[P2.agg, .int .i64 P3] ∧
 aa.cY DU ⟨EH, 0, none⟩ P2 λDV =>
 aa.cG DV ⟨EH, 0, none⟩ λQL =>
 R (.tuple #[QL.agg, .int .i64 P3]) DV) : ar Tryz.prog 179 #[b.agg] h R :=
 aR (.seq .leaf (.seq (.seq .leaf (.cond (.seq .leaf .leaf) .leaf)) (.seq .leaf (.seq .leaf .leaf)))) Tryz.func179 hv
theorem Gv.walk{x:aa.S} (hv:aS h (.cells x.arr 262) λb d'=>aS d' (.cells aG.S.z.arr 201) λB I=>aa.cG I (AA b 0) λt10=>Cl 244 #[t10.agg,.I 3] I λv k=> ∃T t m' p,v=.tuple #[.slice T t m',.I p]/\if(p !=0)then aG.cY k (AA B 0) aG.S.z λK=>aG.cG K (AA B 0) λr0=>R (.tuple #[r0.agg,.I p]) K else aK (λ(t19:Bool) (H:ai)=>if t19 then aG.cY H (AA B 0) aG.S.z λM=>aG.cG M (AA B 0) λj'=>R (.tuple #[j'.agg,.I 3]) M else aK (λ(u:cj) (N:ai)=>aO u λa=>aG.cG N a λt55=>Cl 179 #[t55.agg] N λn' h'=>aa.EX λZ=> ∃a',n'=.tuple #[Z.agg,.I a']/\aS h' (.cells aa.S.z.arr 262) λw i'=>aa.cY i' (AA w 0) Z λj=>aK (λ(t66:Bool) (m:ai)=>if t66 then aG.cY m (AA B 0) aG.S.z λC=>aG.cG C (AA B 0) λk'=>R (.tuple #[k'.agg,.I 3]) C else aO u λb'=>aG.cG m b' λt68=>aG.cY m (AA B 0) t68 λE=>aG.cG E (AA B 0) λl'=>R (.tuple #[l'.agg,.I 0]) E) (λr=>if(a' !=0)then r true j else aa.cG j (AA w 0) λt62=>aa.cG j (AA b 0) λt63=>Cl 248 #[t62.agg,t63.agg] j λo' e'=> ∃t64,o'=.bool t64/\r (!t64) e')) (λq=>Bd 0 t/\aO T λA=>sw H ((A.add (toNat 0*4)).add 1) λt34=>Bd 1 t/\aO T λf=>sw H ((f.add (toNat 1*4)).add 1) λt38=>Bd 2 t/\aO T λg=>sw H ((g.add (toNat 2*4)).add 1) λt42=>Bd 3 t/\aO T λi=>sw H ((i.add (toNat 3*4)).add 1) λt46=>Bd 4 t/\aO T λs=>zp H ((s.add (toNat 4*4)).add 2) λQ P O=>(Cl 50 #[.slice Q P O] H λp' n=> ∃X V S,p'=.slice X V S/\Kp H n [(some ((i.add (toNat 3*4)).add 1)),(some ((g.add (toNat 2*4)).add 1)),(some ((f.add (toNat 1*4)).add 1)),(some ((A.add (toNat 0*4)).add 1))]/\aS n (.cells aG.S.z.arr 201) λy F=>Kp n F [(some ((i.add (toNat 3*4)).add 1)),(some ((g.add (toNat 2*4)).add 1)),(some ((f.add (toNat 1*4)).add 1)),(some ((A.add (toNat 0*4)).add 1))]/\aG.cY F (AA y 0) ⟨t34,t38,t42,(wrap .i64 t46),X,V,S⟩ λf'=>q (some (AA y 0)) f')/\(aS H (.cells aG.S.z.arr 201) λz o=>Kp H o [(some ((s.add (toNat 4*4)).add 2)),(some ((i.add (toNat 3*4)).add 1)),(some ((g.add (toNat 2*4)).add 1)),(some ((f.add (toNat 1*4)).add 1)),(some ((A.add (toNat 0*4)).add 1))]/\Cl 50 #[.slice Q P O] o λq' G=> ∃Y W U,q'=.slice Y W U/\Kp o G [(some ((i.add (toNat 3*4)).add 1)),(some ((g.add (toNat 2*4)).add 1)),(some ((f.add (toNat 1*4)).add 1)),(some ((A.add (toNat 0*4)).add 1))]/\aG.cY G (AA z 0) ⟨t34,t38,t42,(wrap .i64 t46),Y,W,U⟩ λg'=>q (some (AA z 0)) g')/\True)) (λJ=>if(((t:Nat):Int) !=5)then J true k else Bd 4 t/\aO T λc'=> ∃t27,aB k (c'.add (toNat 4*4))=some (.I t27)/\J (t27 !=2) k)):ar Tryz.prog 195 #[x.agg] h R:=aR (lq (lq (sq (bq (lq (cq ll (sq (.join [(19,.one (.bool))] lf) (cq ll lf))))) (sq (.join [(6,.one (.ptr))] (.jk (fE 21 0 (.alts (.fork 21 (fE 3 22 .done) (.fork 23 (.op 21 (.op 22 (.op 24 .done))) .gQ)))))) (sq (lq (sq (.join [(66,.one (.bool))] lf) (cq ll lf))) ll))))) Tryz.func195 hv

end
section
namespace Bn
open Cb
open jc (Ev cK ku)
variable {V:List UInt8→Bool} {h h0 h':ai} {R:fx} {D:Nat→Prop}
variable {p:cj} {l c n i:Nat} {bs:List UInt8} {t:Tr} {m:List Tr}
theorem sa(bs:List UInt8):room (dZ V bs)<=10*bs.length+9:=by
 unfold dZ;split
 .rename_i h;have:=(xy h).1;omega
 .simp[GP,room,da]
theorem yR(U:lW V h0)(u:Fr No h0 h)(row:Row h p (bc bs))(g:l=bs.length)(cap:bs.length<=c)(A:bs.length<=80000)(hk: ∀h' z,D9 h' (dZ V bs) z->Fr No h h'->R (.tuple #[z.s.agg,.bool (jg V bs)]) h'):ar Tryz.prog 293 #[.slice p l c] h R:=by
 refine Gt.walk (aa.cT λb v s a f1=>yy (U.mono (u.tt f1)) (row.frame f1 (λ_ _=>id)) g cap ae (λk t x N r T f2=>aa.ex x.s ⟨_,_,rfl,aa.gh (x:=x.s) λb1 o j d f4=>aa.fK d ?_⟩) (λk e f f2=>aa.ex zv.s ⟨_,_,rfl,aa.gh (x:=zv.s) λb1 o j d f4=>aa.fK d ?_⟩))
 .have F:=f1.tt (f2.tt f4);have E:dZ V bs=t:=by unfold dZ;rw[r]
  rw[E]at hk;rw[fO];refine D3 (U.mono (u.tt F)) (row.frame F (λ_ _=>id)) g cap ae λw f5=>⟨_,rfl,f5.kp,aa.gO (x:=x.s) ((f2.tt (f4.tt f5)).get a id) λH d6 f6 _=>aa.fK d6 (hk H x ?_ ((F.tt f5).fresh f6 (λy e=>ae)))⟩
  have Z:=aF a;exact((T.on f4).on f5).frame f6 (λy B e=>ae)|>.u
 .have F:=f1.tt (f2.tt f4);have E:dZ V bs=GP:=by unfold dZ;rw[f]
  have es:jg V bs=false:=by unfold jg;rw[f]
  rw[E,es]at hk;rw[ag (λq=>qi f (eq_of_beq q))];exact aa.gO (x:=zv.s) ((f2.tt f4).get a id) λH d6 f6 _=>aa.fK d6 (hk H zv (lT (n:=0)) (F.fresh f6 (λy e=>ae)))
theorem Ep(U:lW V h0)(u:Fr No h0 h)(mx:tR.Mx h)(row:Row h p (bc bs))(j:l=bs.length)(cap:bs.length<=c)(k:bs.length<=80000)(hk: ∀h' (e:Ev),Fr No h h'->R (.tuple #[e.s.agg,.bool (jg V bs && (mU V (dZ V bs)).isSome)]) h'):ar Tryz.prog 252 #[.slice p l c] h R:=by
 have G:=sa (V:=V) bs;refine yP.walk (ax.cT λb s E a f1=>yR U (u.tt f1) (row.frame f1 (λ_ _=>id)) j cap k λv z T f2=>aa.ex z.s ⟨_,rfl,aa.gh (x:=z.s) λb1 w o f f4=>aa.fK f (Cg U (u.tt (f1.tt (f2.tt f4))) (mx.on (f1.tt (f2.tt f4))) (T.on f4) ae λe q ⟨Q,q1,_⟩ A f5=>ax.ex e.s ⟨_,rfl,ax.gh (x:=e.s) λB C r g f7=>ax.fK g ?_⟩)⟩);have F:=f2.tt (f4.tt (f5.tt f7));cases d:jg V bs with
 |false=>
  rw[d]at hk;rw[cW];exact Gl (x:=e) (F.get a id) λH f8=>hk H e ((f1.tt F).fresh f8 (λy e=>ae))
 |true=>
  rw[d]at hk;rw[af rfl];refine Gl (x:=e) (F.get a id) λH f8=> ?_
  have:=hk H e ((f1.tt F).fresh f8 (λy e=>ae));have eq:(true && (mU V (dZ V bs)).isSome)=(q==0):=by
   by_cases c0:q=0
   .rw[Q c0,c0];rfl
   .rw[q1 c0,dj.2 c0];rfl
  rw[eq]at this;exact this
theorem Q7(U:lW V h0)(u:Fr No h0 h)(row:Row h p (bc bs))(j:l=bs.length)(cap:bs.length<=c)(k:bs.length<=80000)(hk: gW h R (.tuple #[.U ((dZ V bs).n:Int),.bool (Qx V bs)])):ar Tryz.prog 253 #[.slice p l c] h R:=by
 have r:=sa (V:=V) bs;refine J0.walk (yR U u row j cap k λo z T f2=>aa.ex z.s ⟨_,rfl,aa.gh (x:=z.s) λb1 f E H f4=> ?_⟩);unfold Qx at hk;obtain⟨_,Z,_⟩:=gn.kn T;rw[<-Z]at hk;refine⟨_,aw H,?_⟩;cases e:jg V bs with
 |false=>
  rw[e]at hk;rw[cW];exact hk f (f2.tt f4)
 |true=>
  rw[e]at hk;rw[af rfl];refine aa.fK H ⟨_,aw H,fM λg f5=>aa.ex (nv z.n).s ⟨rfl,f5.kp,iQ (x:=z) (y:=nv z.n) (s:=num z.n) ((T.on f4).on f5) (lT (h:=g) (n:=z.n)) ae λa f6=>⟨_,rfl,f6.kp,?_⟩⟩⟩;have F:=f2.tt (f4.tt (f5.tt f6));cases d:mM (dZ V bs) (num z.n)with
  |false=>
   rw[d]at hk;rw[cW];exact hk a F
  |true=>
   rw[d]at hk;rw[af rfl];refine⟨_,aw ((f5.tt f6).get H id),?_⟩;rw[show decide ((z.n:Int)<=1099511627776)=decide (z.n<=1099511627776)from kG z.n 1099511627776];exact hk a F
abbrev nu(l:List Nat):List Value:=l.map λ(n:Nat)=> .int .u64 (n:Int)
theorem Er{l:List Nat}(row:Row h p (nu l))(X:n=l.length)(hl:l.length<=100000)(hk: ∀h' z,re h' (λy=>h.size<=y) (Dn l) z->Fr No h h'->R z.s.agg h'):ar Tryz.prog 209 #[.slice p n c] h R:=by
 subst X;refine zW.walk (aa.cT λb d eb s f1=>jn (ts:= []) (ys:= []) (D:=λ_=>True) ⟨rfl,.inl rfl,λe=>absurd rfl e,aZ _⟩ .nil (by simp[da]) λS z T f2=>aa.ex z.s ⟨rfl,aa.gh (x:=z.s) λb1 U c' u f4=> ?_⟩);have zb:=aF s;have z1:=f1.1;have z2:=f2.1;have z4:=f4.1;have e':=aF u;have F4:=f1.tt (f2.tt f4);have a':re U (λy=>d.size<=y/\y≠b1) (qC []) z:=by
  obtain⟨⟨C,I,J,K⟩,zs,M,A,N,O⟩:=T;refine⟨⟨C,I,J,((DR K).mono λy H=>ae).frame f4 (λ_ _=>id)⟩,zs,M,A.frame f4 (λ_ _=>id),λy H=>⟨N y H,cf (A.eg H)⟩,(cS.mono (λy H=>by have d:=H.1.1;have S:=H.2;exact⟨⟨d,ae⟩,H.1.2⟩) O.lt).on f4⟩
 obtain⟨zs,ez,k⟩:=MD (g0:=d) a' u ((f2.tt f4).mono λ_ _=>False.elim);have o:z.k=4:=T.1.1;have r:z.n=0:=T.1.2.1;have E:z.v.b= []:=T.1.2.2.1;refine⟨λt g=> ∃(i:Nat)(ys:List CV)(q:cj)(cl:Nat),t=(i:Int)/\i<=l.length/\ys.length=i/\Lc d g b1 z.k z.n z.v ((l.take i).map num) ys q cl,λt _=>l.length - t.toNat,⟨0,zs,z.q,z.cl,rfl,bP _,?_,by rw[dM];exact k⟩,?_⟩
 .have:=k.tr.len;exact this.symm
 rintro _ g ⟨i,ys,q,cl,rfl,hi,H,L⟩;by_cases f:i<l.length
 case neg=>
  rw[ag (λe=>f (cf (aQ e)))];rw[bG ae]at L;have Y:z.v.ok g (λy=>d.size<=y/\y≠b1):=⟨by rw[E];exact Row.nil,λe=>absurd E e,T.1.2.2.2.cap⟩;have w:=ME (k':=z.n) L Y;rw[o,r,E]at w;refine aa.fK (x:=CV.s ⟨z.k,z.n,z.v,q,ys.length,cl⟩) L.cR (fin (z:=⟨z.k,z.n,z.v,q,ys.length,cl⟩) (t:=Dn l) (D:=λy=>d.size<=y/\y≠b1) (L.fr.get s ae) (by rw[o,r];exact w) (λy H e=>ae) λG tg Q=>hk G _ (tg.mono λy H=>ae) ((f1.fresh L.fr (λy e=>ae)).fresh Q (λy e=>ae)))
 rw[fO];have F:Fr No h g:=f1.fresh L.fr (λy e=>ae);obtain⟨a,rfl⟩:=row.some (by intro e;have:=bY List.length e;rw[aJ,bt]at this;omega);have W:aB g (a.add (i*1))=some (.U ((l[i]:Nat):Int)):=by
  have:=(row.frame F (λ_ _=>id)).cell (j:=i) (v:=.U ((l[i]:Nat):Int)) (by rw[aM,aj f];rfl);rw[cr];exact this
 refine⟨⟨ae,ae⟩,bZ.2 ⟨a,rfl,_,W,_,_,_,aw L.cR,fM λh6 f6=>aa.ex (nv l[i]).s ⟨rfl,f6.kp,?_⟩⟩⟩;refine MF (L.on f6) ae (QX (n:=l[i])).Rp λG b' Z P B d' _ _=> ?_
 rw[bz (n:=(i:Int)+1) ae ae];refine⟨⟨i+1,b',Z,P,ae,ae,ae,?_⟩,by show l.length - Int.toNat ((i:Int)+1)<l.length - Int.toNat (i:Int);omega⟩;rw[bL,aj f,bf];exact B
theorem Gw{l:List Nat}{n:Nat}{K:Nat->ai->Prop}{c:Array Value}(H:c=(nu l).toArray)(hk: ∀b h',Row h' (some (AA b 0)) (nu l)->Fr No h h'->K b h'):aS h (.cells c 27) K:=by
 refine cC (hk _ _ (by rw[H];exact jq) (Fr.push _ _))
theorem OF(U:lW V h0)(u:Fr No h0 h)(row:Row h p (bc bs))(K:l=bs.length)(cap:bs.length<=c)(M:bs.length<=80000)(hk: ∀h' (a b:Nat),Fr No h h'->R (.tuple #[.U (a:Int),.U (b:Int),.bool (K0 V bs)]) h'):ar Tryz.prog 254 #[.slice p l c] h R:=by
 have ri:=sa (V:=V) bs;have rl:=mJ (t:=dZ V bs);refine Gu.walk (yR U u row K cap M λh2 z o f2=>aa.ex z.s ⟨_,rfl,aa.gh (x:=z.s) λb1 d a' H f4=>aK.of λJ f=> ?_⟩);have F:=f2.tt f4;unfold K0 at hk;have no: ¬(jg V bs=true/\(dZ V bs).k=4/\(dZ V bs).l.length=2)->J true d:=λN=>by
  subst f;dsimp only;rw[af rfl];have:=hk d 0 0 F;rw[show(jg V bs && decide ((dZ V bs).k=4/\(dZ V bs).l.length=2) && mM (dZ V bs) (Dn [mB (dZ V bs),xK (dZ V bs)]) && decide (1<=mB (dZ V bs)/\mB (dZ V bs)<=255/\xK (dZ V bs)<=mB (dZ V bs)))=false by
   by_cases a:jg V bs=true
   .rw[az (λe=>N ⟨a,e⟩)];simp
   .simp[a]]at this
  exact this
 obtain⟨Z,zn,zb,Y,b',ys,L,T⟩:=gn.kn (o.on f4);cases j:jg V bs with
 |false=>rw[fO];exact no (λe=>by rw[j]at e;cases e.1)
 |true=>
 rw[cW];refine⟨_,aw H,?_⟩;rw[show z.s.f0=(dZ V bs).k from Z];by_cases k:(dZ V bs).k=4
 case neg=>rw[af (cD k)];exact no (λe=>k e.2.1)
 rw[ag (cD k)];refine⟨_,_,_,aw H,?_⟩;have S:z.s.nC=(dZ V bs).l.length:=Y;rw[S];by_cases l2:(dZ V bs).l.length=2
 case neg=>rw[show((((dZ V bs).l.length:Nat):Int) !=2)=true by simp only[dJ,fa];omega];exact no (λe=>l2 e.2.2)
 rw[show((((dZ V bs).l.length:Nat):Int) !=2)=false by simp only[fV];omega];clear no;rw[j,aq ⟨k,l2⟩]at hk;subst f;dsimp only;rw[cW];obtain⟨a0,y0,E,G,W,_⟩:=elem L T (i:=0) ae;obtain⟨A,y1,r,I,X,_⟩:=elem L T (i:=1) ae;have O:=(gn.kn W).2.1;have n1:=(gn.kn X).2.1;have v:aB d ((a0.add (0*4)).add 1)=some (.U ((mB (dZ V bs):Nat):Int)):=by have:=G.2.1;unfold mB;rw[<-O];exact this
 have B:aB d ((A.add (1*4)).add 1)=some (.U ((xK (dZ V bs):Nat):Int)):=by have:=I.2.1;unfold xK;rw[<-n1];exact this
 refine⟨_,_,_,aw H,⟨ae,ae⟩,bZ.2 ⟨a0,E,_,v,_,_,_,aw H,⟨ae,ae⟩,bZ.2 ⟨A,r,_,B,aa.fK H ?_⟩⟩⟩;refine Gw (l:= [mB (dZ V bs),xK (dZ V bs)]) (n:=2) rfl λb2 h5 P f5=>⟨f5.kp,Er P rfl (by show 2<=_;omega) λh6 w Q f6=>aa.ex w.s ⟨rfl,f6.kp,iQ (x:=z) (y:=w) ((o.on f4).on (f5.tt f6)) Q.u ae λs f7=>⟨_,rfl,?_⟩⟩⟩
 have q:=F.tt (f5.tt (f6.tt f7));have fin:=hk s (mB (dZ V bs)) (xK (dZ V bs)) q;cases g:mM (dZ V bs) (Dn [mB (dZ V bs),xK (dZ V bs)])with
 |false=>rw[g]at fin;rw[cW];exact fin
 |true=>
 rw[g]at fin;rw[af rfl];change if(decide (((mB (dZ V bs):Nat):Int)≥1))=true then(if(decide (((mB (dZ V bs):Nat):Int)<=255))=true then _ else _)else _
 by_cases c1:1<=mB (dZ V bs)
 case neg=>rw[az (λe=>c1 e.1)]at fin;rw[cW];exact fin
 rw[fO];by_cases C:mB (dZ V bs)<=255
 case neg=>rw[az (λe=>C e.2.1)]at fin;rw[cW];exact fin
 rw[fO];have:decide (1<=mB (dZ V bs)/\mB (dZ V bs)<=255/\xK (dZ V bs)<=mB (dZ V bs))=decide (((xK (dZ V bs):Nat):Int)<=((mB (dZ V bs):Nat):Int)):=by
  rw[kG];exact decide_eq_decide.2 ⟨λe=>e.2.2,λe=>⟨c1,C,e⟩⟩
 rw[this]at fin;exact fin
theorem Ka{ty:Nat}(U:lW V h0)(u:Fr No h0 h)(mx:tR.Mx h)(row:Row h p (bc bs))(v:l=bs.length)(cap:bs.length<=c)(j:bs.length<=80000)(hk: gW h R (.bool (xL V ty bs))):ar Tryz.prog 201 #[.U (ty:Int),.slice p l c] h R:=by
 subst v;refine Ck.walk (aK.of λJ s=>aK.of λw d=> ?_);unfold xL at hk;have fin: ∀q g,Fr No h g->(xL V ty bs=(q && decide (bs.length<=200)))->J q g:=λq g F e=>by
  subst s;have:=hk g F;unfold xL at e;rw[e]at this;rw[show decide ((bs.length:Int)<=200)=decide (bs.length<=200)from kG bs.length 200];cases q with
  |false=>exact this
  |true=>exact this
 by_cases k:ty=6
 .subst k;rw[fO];refine Ep U u mx row rfl cap j λH e f1=>ax.ex e.s ⟨_,rfl,?_⟩
  subst d;exact fin _ H f1 rfl
 rw[ag (by simp only[cP];omega)];refine aK.of λx f=> ?_
 by_cases o:ty=7
 .subst o;rw[fO];refine Q7 U u row rfl cap j λH f1=>⟨_,_,rfl,?_⟩
  subst f d;exact fin _ H f1 rfl
 rw[ag (by simp only[cP];omega)];refine aK.of λy r=> ?_
 by_cases C:ty=10
 .subst C;rw[fO];refine OF U u row rfl cap j λH a b f1=>⟨_,_,_,rfl,?_⟩
  subst r f d;exact fin _ H f1 rfl
 rw[ag (by simp only[cP];omega)];subst r f d;exact fin true h (Fr.refl _ _) (by unfold xL;rw[ag k,ag o,ag C])
theorem vp{p:cj}{n c:Nat}{l:List Nat}(row:Row h p (nu l))(o:n=l.length)(s:l.length<=100000)(hk:R (.bool (l.all kI)) h):ar Tryz.prog 200 #[.slice p n c] h R:=by
 subst o;refine Cn.walk (jo.within.walk (jQ.within.walk ?_));refine⟨λt g=> ∃i:Nat,t=(i:Int)/\i<=l.length/\g=h/\(l.take i).all kI=true,λt _=>l.length - t.toNat,⟨0,rfl,bP _,rfl,by rw[dM];rfl⟩,?_⟩;rintro _ g ⟨i,rfl,r,rfl,d⟩;by_cases H:i<l.length
 .rw[fO];obtain⟨a,rfl⟩:=row.some (by intro e;have:=bY List.length e;rw[aJ,bt]at this;omega);have f:aB g (a.add (i*1))=some (.U ((l[i]:Nat):Int)):=by
   have:=row.cell (j:=i) (v:=.U ((l[i]:Nat):Int)) (by rw[aM,aj H];rfl);rw[cr];exact this
  have key: ∀q,q=(!kI l[i])->(if q=true then∃t7,Value.I (i:Int)=.I t7/\∃t4,Value.bool (decide (t7≥0))=.bool t4/\R (.bool (!t4)) g else((∃k:Nat,IntKind.wrap .i64 ((i:Int)+1)=(k:Int)/\k<=l.length/\g=g/\(l.take k).all kI=true)/\l.length - (IntKind.wrap .i64 ((i:Int)+1)).toNat<l.length - (i:Int).toNat)):=by
   rintro q rfl;cases e:kI l[i]with
   |false=>
    rw[fO];refine⟨_,rfl,_,rfl,?_⟩;rw[aq ae];have:l.all kI=false:=List.all_eq_false.2 ⟨l[i],dC H,by rw[e];decide⟩;rw[this]at hk;exact hk
   |true=>
    rw[cW,bz (n:=(i:Int)+1) ae ae];refine⟨⟨i+1,ae,ae,rfl,?_⟩,ae⟩;rw[bL,aj H,List.all_append,d];simp[e]
  refine⟨⟨ae,ae⟩,bZ.2 ⟨a,rfl,_,f,yQ.walk ?_⟩⟩;have eq:kI l[i]=(decide (1<=l[i]) && decide (l[i]<=255)):=by unfold kI;by_cases a:1<=l[i]<;>by_cases b:l[i]<=255<;>simp[a,b]
  by_cases c1:l[i]<1
  .rw[fO];refine⟨_,rfl,key true ?_⟩;rw[eq,az (show¬1<=l[i] by omega)];rfl
  .rw[cW];refine⟨_,rfl,key _ ?_⟩;rw[eq,aq (show 1<=l[i] by omega)];by_cases C:l[i]<=255
   .rw[aq C,az (show¬((l[i]:Nat):Int)>255 by omega)];rfl
   .rw[az C,aq (show((l[i]:Nat):Int)>255 by omega)];rfl
 .rw[ag (λe=>H (cf (aQ e)))];rw[bG ae]at d;rw[d]at hk;exact⟨_,rfl,_,rfl,hk⟩
abbrev qH.s(b:qH)(p:cj)(c:Nat):aG.S:=⟨b.ty,b.nr,b.fl,b.sum,p,b.data.length,c⟩
variable {b:qH}
theorem A6(b:qH)(U:lW V h0)(u:Fr No h0 h)(mx:tR.Mx h)(row:Row h p (bc b.data))(cap:b.data.length<=c)(o:b.data.length<=80000)(hk: gW h R (.bool (jv V b))):ar Tryz.prog 175 #[(b.s p c).agg] h R:=by
 refine Em.walk (aG.cT λbb q E f f1=>⟨_,aw f,_,aw f,Gw (l:= [b.ty,b.nr]) (n:=2) rfl λB d r f2=>vp r rfl (by show 2<=_;omega) ⟨_,rfl,?_⟩⟩);have F:=f1.tt f2;have H:=f2.get f id;have no: ∀g,Fr No h g->jv V b=false->R (.bool false) g:=λg j e=>by have:=hk g j;rw[e]at this;exact this
 have e1: [b.ty,b.nr].all kI=(kI b.ty && kI b.nr):=bM
 rw[e1];cases c0:(kI b.ty && kI b.nr)with
 |false=>rw[cW];exact no d F (by unfold jv;rw[c0];rfl)
 |true=>
 rw[af rfl];refine⟨_,aw H,?_⟩;change if Rl (b.fl:Int) 23=true then _ else _
 by_cases c1:Rl (b.fl:Int) 23=true
 case neg=>rw[ag c1];exact no d F (by unfold jv;simp[c1])
 rw[af c1];refine⟨_,aw H,?_⟩;by_cases C:0<=b.sum
 case neg=>rw[ag (by simp only[aY];exact C)];exact no d F (by unfold jv;simp[C])
 rw[af (aq C)];refine⟨_,aw H,?_⟩;by_cases a:b.sum<=2
 case neg=>rw[ag (by simp only[aY];exact a)];exact no d F (by unfold jv;simp[a])
 rw[af (aq a)];refine⟨_,aw H,_,_,_,aw H,Ka U (u.tt F) (mx.on F) (row.frame F (λ_ _=>id)) rfl cap o λk f3=>⟨_,rfl,?_⟩⟩;have:=hk k (F.tt f3);unfold jv at this;rw[c0,c1,aq C,aq a]at this;exact this
theorem Gx(H:oB V t i=.ok m):0<=typeAt m i:=by
 unfold oB at H;split at H
 .rename_i d;have key: ∀k,i<k->typeAt (t.l.take k) i=typeAt t.l i:=λk hk=>by
   unfold typeAt at_;rw[aX,aX,cI,af hk,bF];exact ite_congr (propext (by constructor<;>(rintro⟨a,b⟩;exact⟨ae,b⟩))) (λ_=>rfl) (λ_=>rfl)
  split at H
  .cases H;exact d.2.2
  .split at H
   .rename_i e;split at H
    .cases H
    .split at H
     .cases H;rw[key _ e.1];exact d.2.2
     .cases H
   .cases H
 .cases H
theorem Kb(a:oB V t i=.ok m):(at_ m i).n<=2:=by
 have:=Gx a;unfold typeAt at this;split at this
 .rename_i H;exact H.2.1
 .omega
theorem vq(h:jv V b=true):0<=b.sum/\b.sum<=2/\b.data.length<=200/\1<=b.ty/\b.ty<=255/\1<=b.nr/\b.nr<=255:=by
 unfold jv at h;simp only[aT,aY]at h;obtain⟨⟨⟨⟨⟨a,A⟩,_⟩,b1⟩,c⟩,d⟩:=h;unfold kI at a A;unfold xL at d;simp only[aT,aY]at a A d;exact⟨b1,c,d.2,a.1,a.2,A.1,A.2⟩
theorem A7(h:jv V b=true):da (I2 b)<=300:=by
 obtain⟨_,_,d,_⟩:=vq h;simp only[I2,da,room,bt];omega
theorem A8(h:qI V b=.ok t):room t<=400:=by
 unfold qI at h;split at h
 .rename_i H;have:=yN h;have:=A7 H;omega
 .cases h
theorem Es{e:Int}(h:qI V b=.error e):e≠0:=by
 unfold qI at h;split at h
 .exact A5 h
 .cases h;decide
theorem Il (b : qH) {p : Option Addr} {c : Nat} (U : lW V h0) (u : Fr No h0 h) (mx : tR.Mx h) (row : Row h p (bc b.data)) (cap : b.data.length ≤ c) (hlen : b.data.length ≤ 80000)
    (hk : ∀ h' z q, (∀ t, qI V b = .ok t → q = 0 ∧ re h' (λy => h.size ≤ y) t z) → (∀ e, qI V b = .error e → q = e) → Fr No h h' → R (.tuple #[z.s.agg, .int .i64 q]) h') : ar Tryz.prog 179 #[(b.s p c).agg] h R := by
  refine Eo.walk (aG.cT λbb h1 eb hb f1 => aa.cT λb1 h2 Tk JI f2 => aG.fK (f2.get hb id) (A6 b U (u.tt (f1.tt f2)) (mx.on (f1.tt f2)) (row.frame (f1.tt f2) (λ_ _ => id)) cap hlen λh3 f3 => ⟨_, rfl, ?_⟩))
  have OE := (f2.tt f3).get hb id
  have OG := f3.get JI id
  have F3 := f1.tt (f2.tt f3)
  have z3 := F3.1
  have z1 := f1.1
  have z23 := f3.1
  have Tj := aF OG
  cases hr : jv V b with
  | false => exact Ca OG λh4 f4 => hk h4 zv 3 (λt e => by unfold qI at e; rw [hr, if_neg (by decide)] at e; cases e) (λt e => by unfold qI at e; rw [hr, if_neg (by decide)] at e; cases e; rfl) (F3.fresh f4 (λy e => by omega))
  | true =>
  rw [if_neg (by decide)]
  obtain ⟨s0, s2, d2, _⟩ := vq hr
  have rm := A7 hr
  have eW : qI V b = ml V (I2 b) 3 := by unfold qI; rw [hr, if_pos rfl]
  obtain ⟨sum, hs⟩ := Int.eq_ofNat_of_zero_le s0
  have es : b.sum.toNat = sum := by omega
  refine ⟨_, cz OE rfl, _, cz OE rfl, _, cz OE rfl, _, cz OE rfl, ?_⟩
  rw [show (b.s p c).f3 = ((sum : Nat) : Int) from hs, wrap_u64 (n := (sum : Int)) (by omega) (by omega)]
  refine Gw (l := [b.ty, b.nr, b.fl, sum]) (n := 4) rfl λb3 h5 r5 f5 => Er r5 rfl (by show 4 ≤ _; omega) λh6 z tz f6 => aa.ex z.s ⟨rfl, _, _, _, cz ((f5.tt f6).get OE id) rfl, mV (row.frame (F3.tt (f5.tt f6)) (λ_ _ => id)) rfl (by omega) λh7 v ev ov f7 => aa.ex (CV.s ⟨2, 0, v, none, 0, 0⟩) ⟨rfl, aa.cT (x := CV.s ⟨2, 0, v, none, 0, 0⟩) λb4 h8 We G6 f8 => ?_⟩⟩
  have F8 := f5.tt (f6.tt (f7.tt f8))
  obtain ⟨_, zs, a5, a6, a7, a8⟩ := tz
  have zl : zs.length = 4 := by have := a8.len; exact this.symm
  have sl : z.s.nC = zs.length := a5
  rw [sl]
  have z6 := f6.1
  have z7 := f7.1
  have z8 := f8.1
  have qs : ∀ y, aP z.q y → y < h6.size := λy hy => a6.eg hy
  refine dO tI uI (a6.frame (f7.tt f8) (λ_ _ => id)) (ds := gV ⟨2, 0, v, none, 0, 0⟩) (.inr ⟨_, rfl, aa.yA (x := CV.s ⟨2, 0, v, none, 0, 0⟩) G6⟩) rfl (nt _) (by omega) (by omega) λq' TX h9 o9 _ f9 g9 => ⟨_, _, _, rfl, ?_⟩
  have ef : zs.flatMap gV ++ gV ⟨2, 0, v, none, 0, 0⟩ = (zs ++ [(⟨2, 0, v, none, 0, 0⟩ : CV)]).flatMap gV := by rw [List.flatMap_append, List.flatMap_singleton]
  rw [ef] at o9
  have F9 : Fr No h3 h9 := F8.fresh f9 (λy hy => by have := a7 y hy; have := f5.1; omega)
  have L9 : lS h9 (λ_ => True) q' (zs.length + 1) TX (zs ++ [⟨2, 0, v, none, 0, 0⟩]) := ⟨by simp, o9.iT, λ_ _ _ => trivial, o9.le⟩
  have T9 : zR h9 (I2 b) (zs ++ [⟨2, 0, v, none, 0, 0⟩]) := by
    have t1 := cS.frame f9 (λy hy UL => hy.2 UL) (cS.on (cS.on a8 f7) f8)
    have t2 : gn h7 (λy => h6.size ≤ y) (oL v.b) ⟨2, 0, v, none, 0, 0⟩ := AW ov
    have t3 := (t2.on f8).frame f9 (λy hy UL => by have := qs y UL; omega)
    have := cS.snoc t1.u t3.u
    rw [ev] at this
    unfold I2
    rw [es]
    exact this
  refine Ij (i := 3) U (u.tt (F3.tt F9)) L9 T9 (by omega) (by omega) (λt ht Wj z tz f19 => aa.ex z.s ⟨_, rfl, ?_⟩) (λe he Wj f19 => aa.ex zv.s ⟨_, rfl, ?_⟩)
  · have z9 := F9.1
    exact fin ((F9.tt f19).get OG id) tz (λy hy e => by omega) λUM t20 f20 => hk UM z 0 (λt' e => by rw [eW, ht] at e; cases e; exact ⟨rfl, t20.mono λy hy => by omega⟩) (λe' e => by rw [eW, ht] at e; cases e) ((F3.tt (F9.tt f19)).fresh f20 (λy e => by omega))
  · exact Ca ((F9.tt f19).get OG id) λUM f20 => hk UM zv e (λt' e' => by rw [eW, he] at e'; cases e') (λe' e2 => by rw [eW, he] at e2; cases e2; rfl) ((F3.tt (F9.tt f19)).fresh f20 (λy e => by omega))
theorem P4{b:Nat}{y x:aG.S}{K:aG.S->ai->Prop}(H:aG.fN h b y)(hk: ∀h',Fr (λy=>y=b) h h'->K x h'):
  aG.cY h (AA b 0) x λg=>aG.cG g (AA b 0) λr=>K r g:=
 aG.gO (x:=x) H λg d1 f _=>aG.fK d1 (hk g f)
theorem OH{x:CV}(U:lW V h0)(u:Fr No h0 h)(mx:tR.Mx h)(tx:D9 h t x)(hr:room t<=50000)(k1: ∀b,xM V t=.ok b->∀h' p c,BV.ok h' (λy=>h.size<=y) ⟨p,c,b.data⟩->Fr No h h'->R (.tuple #[(b.s p c).agg,.I 0]) h')(k2: ∀e,xM V t=.error e->e≠0->gW h R (.tuple #[aG.S.z.agg,.I e])):ar Tryz.prog 195 #[x.agg] h R:=by
 have rl:=mJ (t:=t);refine Gv.walk (x:=x.s) (aa.cT λb h1 eb J f1=>aG.cT λb1 h2 x' M f2=>aa.fK (f2.get J id) ?_);have F:=f1.tt f2;have r':=f2.get J id;have zb:=aF J;have Q':=aF M;have z1:=f1.1;have z2:=f2.1;have no: ∀g e,Fr No h2 g->xM V t=.error e->e≠0->aG.cY g (AA b1 0) .z λG=>aG.cG G (AA b1 0) λr=>R (.tuple #[r.agg,.I e]) G:=λg e o k v=>
  P4 (o.get M id) λG f=>k2 e k v G ((F.tt o).fresh f (λy e=>ae))
 have H:xM V t=xM V t:=rfl;conv at H=>rhs;unfold xM
 refine kP (i:=3) U (u.tt F) (tx.on F) ae ae (λm hu ru j p zs c L T f3=>⟨_,_,_,_,rfl,?_⟩) (λe k v j f3=>⟨_,_,_,_,rfl,?_⟩)
 case refine_2=>
  rw[af (cD v)];exact no j e f3 (by rw[H,k]) v
 rw[cW];rw[hu]at H;dsimp only at H;have n2:=Kb hu;have ln:=T.len;have l9:=gm m;refine aK.of λe' hJ=> ?_
 have bad: ¬(m.length=5/\(at_ m 4).k=2)->e' true j:=λv=>by
  subst hJ;dsimp only;rw[af rfl];exact no j 3 f3 (by rw[H,ag v]) cM
 by_cases l5:m.length=5
 case neg=>rw[af (by simp only[dJ,fa];omega)];exact bad (λe=>l5 e.1)
 rw[ag (by simp only[dJ,fa];omega)];have z3:=f3.1;have it: ∀i,i<5->∃(a:Addr)(y:CV),p=some a/\dF (a.add (i*4)) y.s.l 0 j/\D9 j (at_ m i) y/\aB j ((a.add (i*4)).add 1)=some (.U ((at_ m i).n:Int)):=λi hi=>by
  obtain⟨a,y,ea,hh,ty,_⟩:=elem L T (i:=i) ae;obtain⟨_,yn,_⟩:=gn.kn ty;exact⟨a,y,ea,hh,ty.u,by have:=hh.2.1;rw[<-yn];exact this⟩
 obtain⟨a0,y0,f',E',K',c0⟩:=it 0 ae;obtain⟨a1,y1,g',F',L',c1⟩:=it 1 ae;obtain⟨a2,y2,i',G',M',c2⟩:=it 2 ae;obtain⟨a3,y3,j',H',N',c3⟩:=it 3 ae;obtain⟨S,Y,Z,d',w',c4⟩:=it 4 ae;obtain⟨yk,yn,Q,yl,yv,_⟩:=gn.kn w';have r4:=ju (ts:=m) (i:=4) ae;have I':=mJ (t:=at_ m 4);refine⟨⟨ae,ae⟩,bZ.2 ⟨S,Z,_,d'.1,?_⟩⟩;by_cases K:(at_ m 4).k=2
 case neg=>rw[show(Y.s.f0 !=2)=true by have:Y.s.f0=(at_ m 4).k:=yk;rw[this];simpa using K];exact bad (λe=>K e.2)
 rw[show(Y.s.f0 !=2)=false by have:Y.s.f0=(at_ m 4).k:=yk;rw[this];simpa using K];clear bad;rw[af ⟨l5,K⟩]at H;subst hJ;try dsimp only
 rw[cW];have u3:=u.tt (F.tt f3);have m3:=mx.on (F.tt f3);have E:(px m).data=Y.v.b:=Q.symm;refine aK.of λJ1 q'=> ?_
 have rest: ∀g B q cl,aG.fN g B ((px m).s q cl)->h2.size<=B->BV.ok g (λy=>j.size<=y/\y≠B) ⟨q,cl,(px m).data⟩->Fr No j g->J1 (some (AA B 0)) g:=by
  intro g B q cl hs z4 N o;subst q';refine ay.2 (aG.fK hs (Il (px m) U (u3.tt o) (m3.on o) N.row N.cap (by rw[E,Q];omega) λh8 w qw w0 w1 f8=>aa.ex w.s ⟨_,rfl,aa.gh (x:=w.s) λb5 b' y' s' f10=>aK.of λJ2 c'=> ?_⟩));have I:=f8.tt f10;have z:=f3.tt (o.tt I);have bad: ∀G,Fr No b' G->xM V t=.error 3->J2 true G:=λG l' k=>by
   subst c';try dsimp only
   rw[af rfl];exact no G 3 (z.tt l') k cM
  cases s:qI V (px m)with
  |error e=>
   rw[s]at H;rw[af (by rw[w1 e s];simpa using Es s)];exact bad b' (Fr.refl _ _) H
  |ok W=>
   rw[s]at H;dsimp only at H;obtain⟨rfl,tw⟩:=w0 W s;have J':=A8 s;rw[cW];refine aa.fK s' (aa.fK (x:=x.s) (z.get r' id) (iQ (x:=w) (y:=x) (tw.u.on f10) (tx.on (F.tt z)) ae λn' f14=>⟨_,rfl,?_⟩));cases k:mM W t with
   |false=>exact bad n' f14 (by rw[H,ag (by rw[k];decide)])
   |true=>
    rw[k,af rfl]at H;subst c';try dsimp only
    rw[cW];refine ay.2 (aG.fK ((I.tt f14).get hs id) (P4 ((z.tt f14).get M id) λG f=>k1 _ H G q cl ?_ ((F.tt (z.tt f14)).fresh f (λy e=>ae))));have:=(N.mono (D':=λy=>j.size<=y) λy d=>d.1).frame (I.tt f14) (λ_ _=>id);exact(this.frame f (λy d e=>ae)).mono λy d=>ae
 refine⟨⟨ae,ae⟩,bZ.2 ⟨a0,f',_,c0,⟨ae,ae⟩,bZ.2 ⟨a1,g',_,c1,⟨ae,ae⟩,bZ.2 ⟨a2,i',_,c2,⟨ae,ae⟩,bZ.2 ⟨a3,j',_,c3,⟨ae,ae⟩,bZ.2 ⟨S,Z,_,_,_,d'.2.2.1,?_⟩⟩⟩⟩⟩⟩;rw[bz (n:=(((at_ m 3).n:Nat):Int)) ae ae];have l4:Y.v.b.length<=50000:=by rw[Q];omega
 have X: ∀P C,(⟨(at_ m 0).n,(at_ m 1).n,(at_ m 2).n,(at_ m 3).n,P,Y.v.b.length,C⟩:aG.S)=(px m).s P C:=λP C=>by
  show _=(⟨_,_,_,_,P,(px m).data.length,C⟩:aG.S);rw[E];rfl
 refine⟨?_,?_,trivial⟩
 .refine kk.gK yv.row rfl ae λP C z' O f15 m'=>⟨_,_,_,rfl,f15.kp,aG.cT λB A' k' A f16=>⟨f16.kp,?_⟩⟩
  rw[X];have O':=f15.1;have z4:=aF A;refine aG.gO (x:=(px m).s P C) A λo' d17 f17 _=>rest o' B P C d17 ae ?_ ((f15.tt f16).fresh f17 (λy e=>ae))
  have t':=(O.frame f16 (λ_ _=>id)).frame f17 (λy d e=>cf (O.eg d));rw[E];exact BV.lC t' (λy d=>⟨m' y d,cf (O.eg d)⟩)
 .refine aG.cT λB B' k' A f18=>⟨f18.kp,kk.gK (yv.row.frame f18 (λ_ _=>id)) rfl ae λP C C' u' f19 a'=>⟨_,_,_,rfl,f19.kp,?_⟩⟩
  rw[X];have P':=f18.1;have z4:=aF A;refine aG.gO (x:=(px m).s P C) (f19.get A id) λp' d20 f20 _=>rest p' B P C d20 ae ?_ ((f18.tt f19).fresh f20 (λy e=>ae))
  have v':=u'.frame f20 (λy d e=>cf (a' y d));rw[E];exact BV.lC v' (λy d=>cf (a' y d))

end Bn
end
section
variable {h:ai} {R:fx}
variable {L:cj} {l c:Nat} {b:av.S} {r:cd.S}
theorem Co.walk{kind:Int}(H:if(kind==1)then R (.bool true) h else if(kind==6)then R (.bool true) h else if(kind==7)then R (.bool true) h else R (.bool (kind==10)) h):ar Tryz.prog 176 #[.U kind] h R:=aR (lq ll) Tryz.func176 H
theorem Gy.walk (F: ∃(I:Bool->ai->Prop)(N:Bool->ai->Nat),(aK (λ(t33:Bool) (k:ai)=>if t33 then R (.bool false) k else I true k) (λJ=>if(decide ((wrap .i64 ((l:Int) - 1))<0))then J true h else if(decide ((wrap .i64 ((l:Int) - 1))≥8))then J true h else Bd (wrap .i64 ((l:Int) - 1)) l/\aO L λa=> ∃t23,aB h (a.add (toNat (wrap .i64 ((l:Int) - 1))*5))=some (.U t23)/\if(t23 !=1)then J true h else Bd (wrap .i64 ((l:Int) - 1)) l/\aO L λA=> ∃t31,aB h ((A.add (toNat (wrap .i64 ((l:Int) - 1))*5)).add 1)=some (.U t31)/\J (t31 !=1) h))/\∀(ok:Bool)(m:ai),I ok m->aK (λ(G:Bool) (C:ai)=>R (.bool G) C) (λg=> ∃(i:Bool->Int->ai->Prop)(M:Bool->Int->ai->Nat),i ok 0 m/\∀(O:Bool)(t36:Int)(e:ai),i O t36 e->if(decide (t36<(l:Int)))then Bd t36 l/\aO L λu=>aG.cG e (u.add (toNat t36*5)) λt40=>aS e (.cells aG.S.z.arr 201) λb D=>aG.cY D (AA b 0) t40 λn=>aG.cG n (AA b 0) λt41=>Cl 175 #[t41.agg] n λv E=>Vb v λt42=>((0:Int)<=t36/\t36<=(c:Int))/\∃(f:Bool->Int->ai->Prop)(q:Bool->Int->ai->Nat),f t42 0 E/\∀(o:Bool)(t47:Int)(d:ai),f o t47 d->if(decide (t47<(((toNat t36) - 0:Nat):Int)))then aK (λ(s:Bool) (p:ai)=>(f s (wrap .i64 (t47+1)) p/\q s (wrap .i64 (t47+1)) p<q o t47 d)) (λt=>((0:Int)<=t47/\t47<(((toNat t36) - 0:Nat):Int))/\aO (cE L c 0 5) λw=>aG.cG d (w.add (toNat t47*5)) λt50=>aS d (.cells aG.S.z.arr 201) λB x=>aG.cY x (AA B 0) t50 λH=>aK (λ(K:Bool) (y:ai)=>t K y) (λj=>if o then Hu H B 1 λt54=> ∃t56,Cc H b 1 (.U t56)/\if(t54 !=t56)then Hu H B 0 λt61=> ∃t63,Cc H b 0 (.U t63)/\if(t61 !=t63)then j true H else Hu H b 0 λt67=>Cl 176 #[.U t67] H λV z=> ∃t68,V=.bool t68/\j (!t68) z else j false H else j false H))else if(!o)then g o d else(i o (wrap .i64 (t36+1)) d/\M o (wrap .i64 (t36+1)) d<M O t36 e)else g O e)):ar Tryz.prog 124 #[.slice L l c] h R:=aR (lq (.scope 0 [(4,.one (.bool))] (lq (sq (sq (.join [(33,.one (.bool))] lf) (cq ll lf)) (lq ll))) (lq (sq (lq (.join [(4,.one (.bool))] (bq (.loop [(4,.one (.bool)),(36,.one (.int .i64))] (lq (sq (cq lf lf) (sq (bq (lq (lq (sq (lq (bq (.loop [(4,.one (.bool)),(47,.one (.int .i64))] (lq (sq (cq lf lf) (sq (.join [(4,.one (.bool))] (bq (lq (.join [(4,.one (.bool))] lf)))) lf)))))) (lq (cq lf lf)))))) lf))))))) ll)))) Tryz.func124 F
theorem Cq.walk(S:aS h (.cells b.arr 129) λB m=>aD.cG m (AA B 0) λt16=>Cl 177 #[t16.agg] m λv K=>aa.EX λs=> ∃u,v=.tuple #[s.agg,.I u]/\aS K (.cells aa.S.z.arr 262) λi N=>aa.cY N (AA i 0) s λf=>if(u !=0)then R (.tuple #[.Z,.bool false]) f else aa.cG f (AA i 0) λt23=>Cl 178 #[t23.agg] f λX p=> ∃y x w U,X=.tuple #[.slice y x w,.I U]/\Hl p B 20 λV z b'=> ∃(I:cj->Nat->Nat->Int->ai->Prop)(M:cj->Nat->Nat->Int->ai->Nat),I y x w 0 p/\∀(d:cj)(O o:Nat)(t30:Int)(H:ai),I d O o t30 H->if(decide (t30<(z:Int)))then Bd t30 z/\aO V λa=>aG.cG H (a.add (toNat t30*5)) λt33=>aS H (.cells aG.S.z.arr 201) λj P=>aG.cY P (AA j 0) t33 λq=>aG.cG q (AA j 0) λt35=>Cl 179 #[t35.agg] q λY Q=>aa.EX λA=> ∃C,Y=.tuple #[A.agg,.I C]/\aS Q (.cells aa.S.z.arr 262) λk G=>aa.cY G (AA k 0) A λe=>if(C !=0)then R (.tuple #[.Z,.bool false]) e else aa.cG e (AA k 0) λt42=>Cl 178 #[t42.agg] e λZ J=> ∃F E D W,Z=.tuple #[.slice F E D,.I W]/\aV Tryz.prog (Builtin.append_ #[22,22] 22 #[.slice d O o,.slice F E D]) J λa' n=> ∃g T t,a'=.slice g T t/\(I g T t (wrap .i64 (t30+1)) n/\M g T t (wrap .i64 (t30+1)) n<M d O o t30 H)else R (.tuple #[.slice d O o,.bool true]) H):ar Tryz.prog 125 #[b.agg] h R:=aR (lq (lq (sq (lq (cq ll lf)) (lq (sq (lq (bq (.loop [(6,.one (.slice)),(30,.one (.int .i64))] (lq (sq (cq lf lf) (sq (bq (lq (lq (sq (lq (cq ll lf)) ll)))) lf)))))) ll))))) Tryz.func125 S
theorem Cr.walk(d:aS h (.cells b.arr 129) λB H=>av.cG H (AA B 0) λt6=>Cl 58 #[t6.agg] H λv a=> ∃f e T t,v=.tuple #[.slice f e T,.I t]/\R (.bool (t==0)) a):ar Tryz.prog 196 #[b.agg] h R:=aR (lq (lq ll)) Tryz.func196 d
theorem Cs.walk (u:aS h (.cells b.arr 129) λB a=>Hl a B 20 λC A z=>Cl 124 #[.slice C A z] a λv H=> ∃t8,v=.bool t8/\if(!t8)then R (.tuple #[.Z,.I 3]) H else av.cG H (AA B 0) λt11=>Cl 125 #[t11.agg] H λV d=> ∃f t T g,V=.tuple #[.slice f t T,.bool g]/\aK (λ(t21:Bool) (e:ai)=>if t21 then R (.tuple #[.Z,.I 3]) e else aS e (.cells #[.int .u8 159] 5) λm o=>aV Tryz.prog (Builtin.append_ #[22,22] 22 #[.slice (some (AA m 0)) 1 1,.slice f t T]) o λD p=>Vl D λy x w=>aS p (.cells #[.int .u8 255] 5) λn q=>aV Tryz.prog (Builtin.append_ #[22,22] 22 #[.slice y x w,.slice (some (AA n 0)) 1 1]) q λE s=> ∃k j i,E=.slice k j i/\R (.tuple #[.slice k j i,.I 0]) s) (λJ=>if(!g)then J true d else J (decide (((t:Nat):Int)>598)) d)):ar Tryz.prog 58 #[b.agg] h R:=aR (lq (sq (lq (cq ll lf)) (lq (sq (sq (.join [(21,.one (.bool))] lf) (cq ll lf)) ll)))) Tryz.func58 u
theorem Et.walk{s:cj}{f q:Nat} (hv:aS h (.cells av.S.z.arr 129) λb u=>if(decide ((f:Int)>1200))then av.cY u (AA b 0) av.S.z λz=>av.cG z (AA b 0) λr0=>R (.tuple #[r0.agg,.I 2]) z else Cl 193 #[.slice s f q,.I 0] u λv f'=>aa.EX λK=> ∃N t,v=.tuple #[K.agg,.I N,.I t]/\aS f' (.cells aa.S.z.arr 262) λB g'=>aa.cY g' (AA B 0) K λH=>if(t !=0)then av.cY H (AA b 0) av.S.z λE=>av.cG E (AA b 0) λh'=>R (.tuple #[h'.agg,.I t]) E else aK (λ(t27:Bool) (F:ai)=>if t27 then av.cY F (AA b 0) av.S.z λG=>av.cG G (AA b 0) λi'=>R (.tuple #[i'.agg,.I 3]) G else aS F (.cells av.S.z.arr 129) λe k=>Hl k B 3 λs' r' C'=>Bd 0 r'/\aO s' λa=>aa.cG k (a.add (toNat 0*4)) λt54=>Cl 194 #[t54.agg] k λy' Z=>aD.EX λQ=> ∃T,y'=.tuple #[Q.agg,.I T]/\aD.cY Z (AA e 0) Q λi=>if(T !=0)then av.cY i (AA b 0) av.S.z λw=>av.cG w (AA b 0) λj'=>R (.tuple #[j'.agg,.I T]) w else Hl i B 3 λu' m t'=>((0:Int)<=1/\1<=(m:Int))/\∃(I:Int->ai->Prop)(M:Int->ai->Nat),I 0 i/\∀(t67:Int)(d:ai),I t67 d->if(decide (t67<((m - (toNat 1):Nat):Int)))then((0:Int)<=t67/\t67<((m - (toNat 1):Nat):Int))/\aO (cE u' t' (toNat 1) 4) λX=>aa.cG d (X.add (toNat t67*4)) λt70=>aS d (.cells aa.S.z.arr 262) λo a'=>aa.cY a' (AA o 0) t70 λx=>aa.cG x (AA o 0) λt72=>Cl 195 #[t72.agg] x λz' b'=>aG.EX λS=> ∃n,z'=.tuple #[S.agg,.I n]/\aS b' (.cells aG.S.z.arr 201) λp c'=>aG.cY c' (AA p 0) S λg=>if(n !=0)then av.cY g (AA b 0) av.S.z λy=>av.cG y (AA b 0) λk'=>R (.tuple #[k'.agg,.I n]) y else Hl g e 20 λx' w' v'=>aG.cG g (AA p 0) λt82=>aS g (.cells t82.arr 201) λY d'=>aV Tryz.prog (Builtin.append_ #[127,127] 127 #[.slice x' w' v',.slice (some (AA Y 0)) 1 1]) d' λA' e'=> ∃W V U,A'=.slice W V U/\aE e' (AA e 20) (.slice W V U) λA=>(I (wrap .i64 (t67+1)) A/\M (wrap .i64 (t67+1)) A<M t67 d)else av.cG d (AA e 0) λt87=>Cl 196 #[t87.agg] d λB' j=> ∃t88,B'=.bool t88/\if(!t88)then av.cY j (AA b 0) av.S.z λC=>av.cG C (AA b 0) λl'=>R (.tuple #[l'.agg,.I 3]) C else av.cG j (AA e 0) λt91=>av.cY j (AA b 0) t91 λD=>av.cG D (AA b 0) λm'=>R (.tuple #[m'.agg,.I 0]) D) (λJ=>if(N !=(f:Int))then J true H else∃t34,Cc H B 0 (.I t34)/\if(t34 !=4)then J true H else∃o' O n',Cc H B 3 (.slice o' O n')/\if(decide (((O:Nat):Int)<2))then J true H else∃q' P p',Cc H B 3 (.slice q' P p')/\J (decide (((P:Nat):Int)>9)) H)):ar Tryz.prog 158 #[.slice s f q] h R:=aR (lq (sq (lq (cq ll lf)) (lq (sq (bq (lq (cq ll (sq (.join [(27,.one (.bool))] lf) (cq ll lf))))) (lq (sq (lq (lq (cq ll lf))) (sq (lq (bq (.loop [(67,.one (.int .i64))] (lq (sq (cq lf lf) (sq (bq (lq (lq (sq (lq (cq ll lf)) lf)))) lf)))))) (sq (lq (cq ll lf)) ll)))))))) Tryz.func158 hv
theorem yS.walk {b : av.S} (hv :
 aS h (.cells b.arr 129) λwC gU =>
 ∃ UN SR UO, aB gU ⟨wC, 20, none⟩ = some (.slice UN SR UO) ∧
 if (((SR : Nat) : Int) == 0) = true then
 R (.slice none 0 0) gU
 else
 ∃ SU SV UP, aB gU ⟨wC, 20, none⟩ = some (.slice SU SV UP) ∧
 ∃ SW Im SX, aB gU ⟨wC, 20, none⟩ = some (.slice SW Im SX) ∧
 ((0 : Int) ≤ IntKind.wrap .i64 (((Im : Nat) : Int) - 1) ∧ IntKind.wrap .i64 (((Im : Nat) : Int) - 1) < ((SV : Nat) : Int)) ∧
 aO SU λa =>
 ∃ yr yt yu, aB gU ((a.add (Int.toNat (IntKind.wrap .i64 (((Im : Nat) : Int) - 1)) * 5)).add 4) = some (.slice yr yt yu) ∧
 Cl 50 #[.slice yr yt yu] gU λv iN =>
 ∃ P5 P6 P9, v = .slice P5 P6 P9 ∧
 R (.slice P5 P6 P9) iN) : ar Tryz.prog 159 #[b.agg] h R :=
 aR (.seq .leaf (.seq (.seq .leaf (.cond (.seq .leaf .leaf) .leaf)) (.seq .leaf .leaf))) Tryz.func159 hv
theorem Cu.walk(k:aS h (.cells r.arr 287) λb H=> ∃t4,Cc H b 0 (.bool t4)/\if t4 then∃t15,Cc H b 3 (.U t15)/\if(decide (t15<=255))then∃t20,Cc H b 4 (.U t20)/\if(decide (t20<=1099511627776))then ah.cG H (AA b 5) λt25=>Cl 237 #[t25.agg] H λv g=> ∃t26,v=.bool t26/\R (.bool t26) g else R (.bool false) H else R (.bool false) H else∃t7,Cc H b 1 (.bool t7)/\if t7 then∃t,Cc H b 3 (.U t)/\if(decide (t<=255))then∃a,Cc H b 4 (.U a)/\if(decide (a<=1099511627776))then ah.cG H (AA b 5) λm=>Cl 237 #[m.agg] H λV i=> ∃e,V=.bool e/\R (.bool e) i else R (.bool false) H else R (.bool false) H else∃t11,Cc H b 2 (.bool t11)/\if t11 then∃T,Cc H b 3 (.U T)/\if(decide (T<=255))then∃d,Cc H b 4 (.U d)/\if(decide (d<=1099511627776))then ah.cG H (AA b 5) λn=>Cl 237 #[n.agg] H λo j=> ∃f,o=.bool f/\R (.bool f) j else R (.bool false) H else R (.bool false) H else R (.bool false) H):ar Tryz.prog 290 #[r.agg] h R:=aR (lq ll) Tryz.func290 k
theorem Gz.walk(w:aS h (.cells aa.S.z.arr 262) λb o=>Cl 247 #[.Z] o λv p=>aa.EX λt7=>v=t7.agg/\aS p (.cells aa.S.z.arr 262) λB q=>aa.cY q (AA B 0) t7 λs=> ∃(I:Int->ai->Prop)(m:Int->ai->Nat),I 0 s/\∀(t10:Int)(H:ai),I t10 H->if(decide (t10<(l:Int)))then Bd t10 l/\aO L λa=>Vt H (a.add (toNat t10*1)) λt13=>aK (λ(n:Int) (d:ai)=>Hl d B 3 λA z y=>Cl 205 #[.U n] d λV e=>aa.EX λt18=>V=t18.agg/\Kp d e [(some (AA B 3))]/\aS e (.cells t18.arr 262) λk i=>Kp e i [(some (AA B 3))]/\aV Tryz.prog (Builtin.append_ #[260,260] 260 #[.slice A z y,.slice (some (AA k 0)) 1 1]) i λC u=> ∃j T t,C=.slice j T t/\aE u (AA B 3) (.slice j T t) λf=>(I (wrap .i64 (t10+1)) f/\m (wrap .i64 (t10+1)) f<m t10 H)) (λJ=>if t13 then J 1 H else J 0 H)else aa.cG H (AA B 0) λt23=>aa.cY H (AA b 0) t23 λg=>aa.cG g (AA b 0) λx=>R (x.agg) g):ar Tryz.prog 291 #[.slice L l c] h R:=aR (lq (lq (sq (lq (bq (.loop [(10,.one (.int .i64))] (lq (sq (cq lf lf) (sq (bq (lq (lq (sq (lq (.join [(6,.one (.int .u64))] (cq lf lf))) (pK 8))))) lf)))))) ll))) Tryz.func291 w
theorem Cv.walk(hv:aS h (.cells r.arr 287) λb n=>ah.cG n (AA b 5) λt8=>Cl 204 #[t8.agg] n λv Y=>aa.EX λG=> ∃I,v=.tuple #[G.agg,.I I]/\aS Y (.cells aa.S.z.arr 262) λB f'=>aa.cY f' (AA B 0) G λg=>aK (λ(t18:Bool) (H:ai)=>if t18 then R (.tuple #[.Z,.I 3]) H else Hb H b 0 λt21=>Hb H b 1 λt23=>Hb H b 2 λt25=>Hu H b 3 λt29=>Hu H b 4 λt32=>aa.cG H (AA B 0) λt34=>(Cl 205 #[.U 1] H λg' i=>aa.EX λt19=>g'=t19.agg/\Kp H i [(some (AA B 0)),(some (AA b 4)),(some (AA b 3)),(some (AA b 2)),(some (AA b 1)),(some (AA b 0))]/\aS i (.cells #[.bool t21,.bool t23,.bool t25] 4) λK j=>Kp i j [(some (AA B 0)),(some (AA b 4)),(some (AA b 3))]/\Cl 291 #[.slice (some (AA K 0)) 3 3] j λn' k=>aa.EX λt27=>n'=t27.agg/\Kp j k [(some (AA B 0)),(some (AA b 4)),(some (AA b 3))]/\Cl 205 #[.U t29] k λo' m=>aa.EX λt30=>o'=t30.agg/\Kp k m [(some (AA B 0)),(some (AA b 4))]/\Cl 205 #[.U t32] m λp' o=>aa.EX λt33=>p'=t33.agg/\Kp m o [(some (AA B 0))]/\aS o (.cells (t27.l++t30.l++t33.l++t34.l).toArray 262) λM S=>Cl 247 #[.slice (some (AA M 0)) 4 4] S λq' U=>aa.EX λt36=>q'=t36.agg/\aS U (.cells (t19.l++t36.l).toArray 262) λN V=>Cl 247 #[.slice (some (AA N 0)) 2 2] V λr' W=>aa.EX λt38=>r'=t38.agg/\Cl 178 #[t38.agg] W λs' X=> ∃C z x E,s'=.tuple #[.slice C z x,.I E]/\R (.tuple #[.slice C z x,.I E]) X)/\(aS H (.cells #[.bool t21,.bool t23,.bool t25] 4) λO a=>Kp H a [(some (AA B 0)),(some (AA b 4)),(some (AA b 3))]/\Cl 205 #[.U 1] a λt' d=>aa.EX λt=>t'=t.agg/\Kp a d [(some (AA B 0)),(some (AA b 4)),(some (AA b 3))]/\Cl 291 #[.slice (some (AA O 0)) 3 3] d λu' e=>aa.EX λT=>u'=T.agg/\Kp d e [(some (AA B 0)),(some (AA b 4)),(some (AA b 3))]/\Cl 205 #[.U t29] e λh' f=>aa.EX λq=>h'=q.agg/\Kp e f [(some (AA B 0)),(some (AA b 4))]/\Cl 205 #[.U t32] f λi' p=>aa.EX λs=>i'=s.agg/\Kp f p [(some (AA B 0))]/\aS p (.cells (T.l++q.l++s.l++t34.l).toArray 262) λP Z=>Cl 247 #[.slice (some (AA P 0)) 4 4] Z λj' a'=>aa.EX λu=>j'=u.agg/\aS a' (.cells (t.l++u.l).toArray 262) λQ b'=>Cl 247 #[.slice (some (AA Q 0)) 2 2] b' λk' c'=>aa.EX λw=>k'=w.agg/\Cl 178 #[w.agg] c' λl' d'=> ∃D A y F,l'=.tuple #[.slice D A y,.I F]/\R (.tuple #[.slice D A y,.I F]) d')/\True) (λJ=>if(I !=0)then J true g else cd.cG g (AA b 0) λt15=>Cl 290 #[t15.agg] g λm' e'=> ∃t16,m'=.bool t16/\J (!t16) e')):ar Tryz.prog 249 #[r.agg] h R:=aR (lq (lq (sq (sq (.join [(18,.one (.bool))] lf) (cq ll lf)) (sq (.jk (fE 6 1 (.op 9 (.op 10 (.op 12 (.op 13 (.op 15 (.alts (.fork 0 (.op 7 (.op 8 (.op 11 (.op 14 (fE 9 16 .done))))) (.fork 7 (.op 0 (.op 8 (.op 11 (.op 14 (fE 9 16 .done))))) .gQ)))))))))) lf)))) Tryz.func249 hv
theorem zX.walk{dest:ax.S}{id:ah.S}{eH:Int}(y:aS h (.cells r.arr 287) λb q=>aS q (.cells dest.arr 29) λn s=>aS s (.cells id.arr 124) λo u=>aS u (.cells av.S.z.arr 129) λB g=>cd.cG g (AA b 0) λt14=>Cl 249 #[t14.agg] g λv H=> ∃m k T t,v=.tuple #[.slice m k T,.I t]/\if(t !=0)then av.cY H (AA B 0) av.S.z λi=>av.cG i (AA B 0) λz=>R (.tuple #[z.agg,.I t]) i else ax.cG H (AA n 0) λt22=>ah.cG H (AA o 0) λt23=>aS H (.cells #[.U 1,.U 1,.U 0,.I 0,.slice m k T] 201) λp w=>aS w (.cells av.S.z.arr 129) λa x=>av.cY x (AA a 0) ⟨2,0,t22.f0,t22.f1,t22.f2,t22.f3,t22.f4,false,0,0,gi,gi,t23.f0,t23.f1,t23.f2,t23.f3,t23.f4,t23.f5,t23.f6,eH,(some (AA p 0)),1,1⟩ λj=>av.cG j (AA a 0) λt30=>Cl 196 #[t30.agg] j λV d=> ∃t31,V=.bool t31/\if(!t31)then av.cY d (AA B 0) av.S.z λe=>av.cG e (AA B 0) λA=>R (.tuple #[A.agg,.I 3]) e else av.cG d (AA a 0) λt34=>av.cY d (AA B 0) t34 λf=>av.cG f (AA B 0) λC=>R (.tuple #[C.agg,.I 0]) f):ar Tryz.prog 197 #[r.agg,dest.agg,id.agg,.U eH] h R:=aR (lq (lq (sq (lq (cq ll lf)) (lq (sq (lq (cq ll lf)) ll))))) Tryz.func197 y

end
section
namespace Bn
open Cb
open jc (Ev cK ku)
variable {V:List UInt8→Bool} {h H h' g:ai} {R:fx} {D D':Nat→Prop}
variable {bs:List qH} {q:cj} {l cl:Nat}
structure BB where
 b:qH
 p:cj
 c:Nat
abbrev BB.s(x:BB):aG.S:=x.b.s x.p x.c
variable {xs:List BB}
abbrev yT(x:BB):List Value:=x.s.l
theorem yU(x:BB):(yT x).length=5:=rfl
theorem ML(x:BB): ∀v∈yT x,fH v=true:=λv a=>by
 simp only[yT,aG.S.l,bD,List.not_mem_nil,or_false]at a;rcases a with rfl|rfl|rfl|rfl|rfl<;>rfl
structure ji (h:ai) (D:Nat->Prop) (bs:List qH) (q:cj) (l cl:Nat) (xs:List BB):Prop where
 eq:xs.map BB.b=bs
 len:l=bs.length
 row:Row h q (xs.flatMap yT)
 own:xs≠ []->∀y,aP q y->D y
 cap:l<=cl
 ok: ∀x∈xs,BV.ok h D ⟨x.p,x.c,x.b.data⟩
theorem ji.xl(B:ji h D bs q l cl xs):xs.length=bs.length:=by rw[<-B.eq,aJ]
theorem ji.frame{Q:Nat->Prop}(B:ji h D bs q l cl xs)(f:Fr Q h h')(c: ∀y,D y->¬Q y):ji h' D bs q l cl xs:=by
 refine⟨B.eq,B.len,?_,B.own,B.cap,λx i=>(B.ok x i).frame f c⟩;by_cases e:xs= []
 .subst e;exact Row.nil
 .exact B.row.frame f (λa d=>c _ (B.own e _ ⟨a,d,rfl⟩))
theorem ji.on(B:ji h D bs q l cl xs)(f:Fr No h h'):ji h' D bs q l cl xs:=B.frame f (λ_ _=>id)
theorem ji.mono(B:ji h D bs q l cl xs)(hd: ∀y,D y->D' y):ji h D' bs q l cl xs:=
 ⟨B.eq,B.len,B.row,λe y c=>hd y (B.own e y c),B.cap,λx a=>(B.ok x a).mono hd⟩
theorem ji.get(B:ji h D bs q l cl xs){i:Nat}(d:i<bs.length): ∃(a:Addr)(x:BB),q=some a/\dF (a.add (i*5)) x.s.l 0 h/\x.b=bs[i]/\BV.ok h D ⟨x.p,x.c,x.b.data⟩/\xs[i]? =some x:=by
 have xl:=B.xl;have c:xs[i]? =some (xs[i]' ae):=aj _;obtain⟨a,rfl⟩:=B.row.some (by intro e;have:=bY List.length e;rw[eO yT 5 yU,bt]at this;omega);refine⟨a,_,rfl,B.row.gv yU c,?_,B.ok _ (bj c),c⟩;have:=B.eq;subst this;rw[List.getElem_map]
theorem ji.take(B:ji h D bs q l cl xs){n:Nat}(o:n<=bs.length):ji h D (bs.take n) (cE q cl 0 5) (n - 0) (cl - 0) (xs.take n):=by
 have k:=B.cap;have m:=B.len;have d:=B.row.sub (cap:=cl) (l:=0) (u:=n) (sz:=5) (bP _) ae;rw[kW yT 5 yU,Nat.zero_mul,fY]at d;refine⟨by rw[List.map_take,B.eq],by rw[bF];omega,d,λe y j=>B.own (λf=>e (by rw[f,List.take_nil])) y ?_,ae,λx i=>B.ok x (List.mem_of_mem_take i)⟩;obtain⟨a,E,c⟩:=j;unfold cE at E;cases q with
 |none=>split at E<;>cases E
 |some A=>
  split at E
  .cases E;exact⟨_,rfl,c⟩
  .cases E;exact⟨_,rfl,c⟩
theorem MM{k:Nat}(hk:R (.bool (alone k)) h):ar Tryz.prog 176 #[.U (k:Int)] h R:=by
 refine Co.walk ?_;unfold alone at hk;by_cases c1:k=1
 .rw[aq (.inl c1)]at hk;rw[af (by simp only[cP];omega)];exact hk
 rw[ag (by simp only[cP];omega)];by_cases C:k=6
 .rw[aq (.inr (.inl C))]at hk;rw[af (by simp only[cP];omega)];exact hk
 rw[ag (by simp only[cP];omega)];by_cases a:k=7
 .rw[aq (.inr (.inr (.inl a)))]at hk;rw[af (by simp only[cP];omega)];exact hk
 rw[ag (by simp only[cP];omega)];have:((k:Int)==10)=decide (k=1\/k=6\/k=7\/k=10):=by
  by_cases c:k=10
  .rw[aq (.inr (.inr (.inr c)))];simp only[cP];omega
  .rw[az ae];simp only[dj,fa];omega
 rw[this];exact hk
theorem Q8(U:lW V H)(u:Fr No H h)(mx:tR.Mx h)(B:ji h D bs q l cl xs)(hl:bs.length<=1000000)(hd: ∀b∈bs,b.data.length<=80000)(hk: gW h R (.bool (zC V bs))):ar Tryz.prog 124 #[.slice q l cl] h R:=by
 have el:=B.len;subst el;refine Gy.walk ?_;have c:zC V bs=zC V bs:=rfl;conv at c=>rhs;unfold zC
 refine⟨λok g=>ok=true/\g=h/\bs.length<=8/\zC V bs=Fa V [] bs,λ_ _=>0,aK.of λJ A=> ?_,?_⟩
 .have no:zC V bs=false->J true h:=λe=>by
   subst A;dsimp only;rw[af rfl];have:=hk h (Fr.refl _ _);rw[e]at this;exact this
  by_cases c0:bs.length=0
  .rw[af (by rw[c0];decide)];have:bs= []:=List.length_eq_zero_iff.1 c0;exact no (by rw[c,this];rfl)
  obtain⟨n,hn⟩: ∃n,bs.length=n+1:=⟨bs.length - 1,ae⟩;have ew:IntKind.wrap .i64 (((bs.length:Nat):Int) - 1)=(n:Int):=by rw[hn,bz ae ae];omega
  have i':bs.getLast? =some bs[n]:=by rw[List.getLast?_eq_getElem?,show bs.length - 1=n by omega,aj ae]
  rw[i']at c;dsimp only at c;rw[ew,cW];by_cases p:bs.length<=8
  case neg=>rw[af (by simp only[aY];omega)];exact no (by rw[c,az p];rfl)
  rw[cW];rw[aq p,dA]at c;obtain⟨a,x,rfl,o,ex,_⟩:=B.get (i:=n) ae;have a':aB h (a.add (n*5))=some (.U ((bs[n].ty:Nat):Int)):=by rw[<-ex];exact o.1
  have b':aB h ((a.add (n*5)).add 1)=some (.U ((bs[n].nr:Nat):Int)):=by rw[<-ex];exact o.2.1
  refine⟨⟨ae,ae⟩,ay.2 ⟨_,by rw[aI];exact a',?_⟩⟩;by_cases c1:bs[n].ty=1
  case neg=>rw[af (by simp only[dJ,fa];omega)];exact no (by rw[c,az (λe=>c1 e.1)];rfl)
  rw[ag (by simp only[dJ,fa];omega)];refine⟨⟨ae,ae⟩,ay.2 ⟨_,by rw[aI];exact b',?_⟩⟩;by_cases C:bs[n].nr=1
  case neg=>rw[show(((bs[n].nr:Nat):Int) !=1)=true by simp only[dJ,fa];omega];exact no (by rw[c,az (λe=>C e.2)];rfl)
  rw[show(((bs[n].nr:Nat):Int) !=1)=false by simp only[fV];omega];subst A;dsimp only;rw[cW];exact⟨rfl,rfl,p,by rw[c,aq ⟨c1,C⟩];rfl⟩
 rintro _ h ⟨rfl,rfl,l8,M⟩;clear c;refine aK.of λJ1 I=> ?_
 refine⟨λok t g=> ∃i:Nat,t=(i:Int)/\i<=bs.length/\ok=true/\Fr No h g/\Fa V [] bs=Fa V (bs.take i) (bs.drop i),λ_ t _=>bs.length - t.toNat,⟨0,rfl,bP _,rfl,Fr.refl _ _,rfl⟩,?_⟩;rintro _ _ g ⟨i,rfl,hi,rfl,f,d⟩;by_cases m:i<bs.length
 case neg=>
  rw[ag (λe=>m (cf (aQ e)))];subst I;have:=hk g f;rw[M,d,dK ae]at this;exact this
 rw[fO];have S:=B.on f;obtain⟨a,x,rfl,o,ex,P,_⟩:=S.get m;rw[cF m]at d;have lx:x.b.data.length<=80000:=by rw[ex];exact hd _ (dC m)
 refine⟨⟨ae,ae⟩,ay.2 (aG.mI (x:=x.s) (by rw[aI];exact o) (aG.gh (x:=x.s) λb h6 eb K f6=>aG.fK K (A6 x.b U (u.tt (f.tt f6)) (mx.on (f.tt f6)) (P.frame f6 (λ_ _=>id)).row P.cap lx λh7 f7=>⟨_,rfl,⟨ae,cf B.cap⟩,?_⟩)))⟩;have z:=f6.tt f7;have e':=f7.get K id;have z7:=f.tt z;rw[ex];have X: ∀r,Fa V (bs.take i) (bs[i]::r)=(jv V bs[i] && (bs.take i).all (apart bs[i]) && Fa V (bs.take i++ [bs[i]]) r):=λr=>rfl
 rw[X]at d;refine⟨λok t G=> ∃k:Nat,t=(k:Int)/\k<=i/\ok=(jv V bs[i] && (bs.take k).all (apart bs[i]))/\Fr No h7 G,λ_ t _=>i - t.toNat,⟨0,rfl,bP _,bM,Fr.refl _ _⟩,?_⟩;rintro ok _ G ⟨k,rfl,k',N,s⟩;have Z:((Int.toNat (i:Int)) - 0:Nat)=i:=ae
 rw[Z];have F:=f.tt (z.tt s);by_cases g':k<i
 case neg=>
  rw[ag (λe=>g' (cf (aQ e)))];have:k=i:=ae
  subst this;rw[<-N]at d;cases ok with
  |false=>
   rw[fO];subst I;have:=hk G F;rw[M,d]at this;exact this
  |true=>
   rw[cW,bz (n:=(k:Int)+1) ae ae];refine⟨⟨k+1,ae,ae,rfl,F,?_⟩,by show bs.length - Int.toNat ((k:Int)+1)<bs.length - Int.toNat (k:Int);omega⟩;rw[d,dA,bL,aj m];rfl
 rw[fO];refine aK.of λJ2 c'=> ?_
 have Q:=(B.on F).take (n:=i) ae;have lt:(bs.take i).length=i:=by rw[bF];omega
 obtain⟨W,y,Y,f',E,l',_⟩:=Q.get (i:=k) ae;rw[List.getElem_take]at E;have lk:k<bs.length:=ae
 have ek:bs.take (k+1)=bs.take k++ [bs[k]]:=by rw[bL,aj lk];rfl
 refine⟨⟨ae,ae⟩,bZ.2 ⟨W,Y,aG.mI (x:=y.s) (by rw[aI];exact f') (aG.gh (x:=y.s) λb1 j j' L f11=>aK.of λT d'=> ?_)⟩⟩;have w:=(s.tt f11).get e' id;have go: ∀r v,Fr No j v->r=(ok && apart bs[i] bs[k])->T r v:=by
  intro r v f2 er;subst d' c';dsimp only;rw[bz (n:=(k:Int)+1) ae ae];refine⟨⟨k+1,ae,ae,?_,s.tt (f11.tt f2)⟩,by show i - Int.toNat ((k:Int)+1)<i - Int.toNat (k:Int);omega⟩;rw[er,N,ek,List.all_append,<-Bool.and_assoc];simp
 cases O:ok with
 |false=>rw[cW];exact go false j (Fr.refl _ _) (by rw[O];rfl)
 |true=>
 rw[af rfl];refine⟨_,aw L,_,aw w,?_⟩;rw[O]at go;have n1:(((y.s.f1:Int) !=x.s.f1)=decide (bs[k].nr≠bs[i].nr)):=by
  show((y.b.nr:Int) !=(x.b.nr:Int))=_;rw[E,ex];by_cases e:bs[k].nr=bs[i].nr
  .rw[az (λq=>q e),e];simp
  .rw[aq e];simp only[dJ,fa];omega
 have n2:(((y.s.f0:Int) !=x.s.f0)=decide (bs[k].ty≠bs[i].ty)):=by
  show((y.b.ty:Int) !=(x.b.ty:Int))=_;rw[E,ex];by_cases e:bs[k].ty=bs[i].ty
  .rw[az (λq=>q e),e];simp
  .rw[aq e];simp only[dJ,fa];omega
 rw[n1];by_cases c1:bs[k].nr≠bs[i].nr
 case neg=>rw[ag (cD c1)];exact go false j (Fr.refl _ _) (by unfold apart;rw[az c1];rfl)
 rw[af (aq c1)];refine⟨_,aw L,_,aw w,?_⟩;rw[n2];by_cases C:bs[k].ty≠bs[i].ty
 .rw[af (aq C)];exact go true j (Fr.refl _ _) (by unfold apart;rw[aq c1,aq C];rfl)
 rw[ag (cD C)];refine⟨_,aw w,?_⟩;rw[show x.s.f0=((bs[i].ty:Nat):Int) by rw[<-ex]];exact MM ⟨_,rfl,go _ j (Fr.refl _ _) (by unfold apart;rw[aq c1,az C];rfl)⟩
theorem Eu(t:Tr):(xN V t).length<=room t:=by
 unfold xN;split
 .exact jr t
 .exact bP _
theorem Io{t:Tr}{x:CV}(U:lW V H)(u:Fr No H h)(T:gn h D t x)(d:room t<=1000000)(hk: ∀h' p c (q:Int),fy h' p (xN V t).length c 1 (bc (xN V t))->(∀y,aP p y->h.size<=y)->Fr No h h'->R (.tuple #[.slice p (xN V t).length c,.I q]) h'):ar Tryz.prog 178 #[x.agg] h R:=by
 unfold xN at hk;refine vi U u T d (λe h' p c o n f=> ?_) (λe h' f=> ?_)
 .rw[af e]at hk;exact hk h' p c 0 o n f
 .rw[e,cW]at hk;exact hk h' none 0 3 (.nil rfl rfl rfl rfl) (λy ⟨a,e,_⟩=>by cases e) f
abbrev qm.s(b:qm)(q:cj)(cl:Nat):av.S:=⟨b.p.fl,b.p.sum,b.p.dest.kH,b.p.dest.node,b.p.dest.gH,b.p.dest.host,b.p.dest.jD,b.p.rep.kH,b.p.rep.node,b.p.rep.gH,b.p.rep.host,b.p.rep.jD,b.p.id.e.kH,b.p.id.e.node,b.p.id.e.gH,b.p.id.e.host,b.p.id.e.jD,b.p.id.tm,b.p.id.sq,b.p.eH,q,b.bl.length,cl⟩
variable {b:qm}
theorem Vk{b:Nat}{x:qm}{K:aD.S->Prop}(a:av.fN h b (x.s q cl))(hk:K x.p.s):aD.cG h (AA b 0) K:=
 ⟨_,aw a,_,aw a,_,aw a,_,aw a,_,aw a,_,aw a,_,aw a,_,aw a,_,aw a,_,aw a,_,aw a,_,aw a,_,aw a,_,aw a,_,aw a,_,aw a,_,aw a,_,aw a,_,aw a,_,aw a,hk⟩
theorem MN(b':b.p.wf)(U:lW V H)(u:Fr No H h)(mx:tR.Mx h)(B:ji h D b.bl q b.bl.length cl xs)(hl:b.bl.length<=8)(hd: ∀E∈b.bl,E.data.length<=80000)(Z: ∀out,py V b=some out->out.length<=5000->∀h' p c,fy h' p out.length c 1 (bc out)->(∀y,aP p y->h.size<=y)->Fr No h h'->R (.tuple #[.slice p out.length c,.bool true]) h')(K:py V b=none->gW h R (.tuple #[.Z,.bool false])):ar Tryz.prog 125 #[(b.s q cl).agg] h R:=by
 refine Cq.walk (av.cT λb1 h1 e' v f1=>Vk v (MJ b.p b' U (u.tt f1) λh2 z qz z0 z1 f2=>aa.ex z.s ⟨_,rfl,aa.gh (x:=z.s) λb2 M f' Q f4=> ?_⟩));have F:=f1.tt (f2.tt f4);have k:py V b=py V b:=rfl;conv at k=>rhs;unfold py
 cases m:mn V b.p with
 |error e=>rw[af (cD (z1 e m))];exact K (by rw[k,m]) M F
 |ok t=>
 obtain⟨rfl,tz⟩:=z0 t m;rw[m]at k;dsimp only at k;rw[cW];have rt:=yO m;have le:=Eu (V:=V) t;refine aa.fK Q (Io U (u.tt F) (tz.on f4) ae λh5 p5 c5 q5 o5 n5 f5=>⟨_,_,_,_,rfl,_,_,_,aw ((f2.tt (f4.tt f5)).get v id),?_⟩);have C:=F.tt f5;have z4:=F.1;refine⟨λp l c t g=> ∃(i:Nat)(out:List UInt8),t=(i:Int)/\i<=b.bl.length/\l=out.length/\fy g p out.length c 1 (bc out)/\(∀y,aP p y->h.size<=y)/\Fr No h g/\py V b=Dp V (b.bl.drop i) out/\out.length<=1100+400*i,λ_ _ _ t _=>b.bl.length - t.toNat,⟨0,xN V t,rfl,bP _,rfl,o5,λy r=>cf (n5 y r),C,k,ae⟩,?_⟩;rintro p _ c _ g ⟨i,out,rfl,hi,rfl,A,N,f,d,l'⟩;have lb:(b.s q cl).zy=b.bl.length:=rfl;by_cases o:i<b.bl.length
 case neg=>
  rw[ag (λe=>o (cf (aQ e)))];rw[dK ae]at d;exact Z out d ae g p c A N f
 rw[fO];obtain⟨a,x,rfl,X,ex,w,_⟩:=(B.on f).get o;have lx:x.b.data.length<=80000:=by rw[ex];exact hd _ (dC o)
 refine⟨⟨ae,ae⟩,ay.2 (aG.mI (x:=x.s) (by rw[aI];exact X) (aG.gh (x:=x.s) λb3 h8 g' S f8=>aG.fK S (Il x.b U (u.tt (f.tt f8)) (mx.on (f.tt f8)) (w.frame f8 (λ_ _=>id)).row w.cap lx λh9 y qy y0 Y f9=>aa.ex y.s ⟨_,rfl,aa.gh (x:=y.s) λb4 J i' W f11=> ?_⟩)))⟩;have s:=f.tt (f8.tt (f9.tt f11));rw[ex]at y0 Y;rw[cF o]at d;have P: ∀L,Dp V (b.bl[i]::L) out=(match qI V b.bl[i]with| .error _=>none| .ok t=>Dp V L (out++xN V t)):=λL=>rfl
 rw[P]at d;cases j:qI V b.bl[i]with
 |error e=>rw[af (by rw[Y e j];simpa using Es j)];exact K (by rw[d,j]) J s
 |ok T=>
 obtain⟨rfl,ty⟩:=y0 T j;rw[j]at d;dsimp only at d;rw[cW];have r':=A8 j;have m':=Eu (V:=V) T;refine aa.fK W (Io U (u.tt s) (ty.u.on f11) ae λj' o' d' q' a' n' f12=>⟨_,_,_,_,rfl,?_⟩);have G:=f8.tt (f9.tt (f11.tt f12));refine dO kk.tU kk.uU (A.frame G (λ_ _=>id)) a'.iT (by rw[jK,cr]) (ph _) ae ae λp' c' k' O _ f13 I=>⟨_,_,_,rfl,?_⟩
 rw[bz (n:=(i:Int)+1) ae ae];rw[<-jA,<-aA]at O;have zG:=(f.tt G).1;refine⟨⟨i+1,out++xN V T,ae,ae,by rw[aA],O,λy r=> ?_,(f.tt G).fresh f13 N,d,by rw[aA];omega⟩,by show b.bl.length - Int.toNat ((i:Int)+1)<b.bl.length - Int.toNat (i:Int);omega⟩;rcases I y r with a|a
 .exact N y a
 .omega
theorem Ip(w:b.p.wf)(U:lW V H)(u:Fr No H h)(mx:tR.Mx h)(B:ji h D b.bl q b.bl.length cl xs)(L:b.bl.length<=1000000)(hd: ∀x∈b.bl,x.data.length<=80000)(Q: ∀out,kj V b=some out->out.length<=600->∀h' p c,fy h' p out.length c 1 (bc out)->(∀y,aP p y->h.size<=y)->Fr No h h'->R (.tuple #[.slice p out.length c,.I 0]) h')(K:kj V b=none->gW h R (.tuple #[.Z,.I 3])):ar Tryz.prog 58 #[(b.s q cl).agg] h R:=by
 have f:kj V b=kj V b:=rfl;conv at f=>rhs;unfold kj
 refine Cs.walk (av.cT λb1 h1 a' s f1=>⟨_,_,_,aw s,Q8 U (u.tt f1) (mx.on f1) (B.on f1) L hd λA f2=>⟨_,rfl,?_⟩⟩);have F:=f1.tt f2;cases i:zC V b.bl with
 |false=>rw[fO];exact K (by rw[f,i];rfl) A F
 |true=>
 rw[i,af rfl]at f;rw[cW];have S:b.bl.length<=8:=by
  unfold zC at i;split at i
  .cases i
  .simp only[aT,aY]at i;exact i.1.1
 refine av.fK (f2.get s id) (MN w U (u.tt F) (mx.on F) (B.on F) S hd (λout P lo d p c X nw f3=>⟨_,_,_,_,rfl,aK.of λJ m=> ?_⟩) (λM d f3=>⟨_,_,_,_,rfl,aK.of λJ m=> ?_⟩))
 case refine_2=>
  rw[fO];subst m;dsimp only;rw[af rfl];exact K (by rw[f,M]) d (F.tt f3)
 rw[P]at f;dsimp only at f;rw[cW];subst m;dsimp only;by_cases c1:out.length<=598
 case neg=>rw[af (by simp only[aY];omega)];exact K (by rw[f,ag c1]) d (F.tt f3)
 rw[cW];rw[af c1]at f;have r:=F.tt f3;have z3:=r.1;refine cC ?_;have f5:Fr No d (d.push (.cells #[.int .u8 159] 5)):=Fr.push _ _;have T:fy (d.push (.cells #[.int .u8 159] 5)) (some (AA d.size 0)) 1 1 1 (bc [159]):=by
  exact .row d.size 0 #[.int .u8 159] 5 rfl bT (aZ _) bM rfl (λj v n=>by
   match j,n with
   |0,n=>exact n)
 refine dO kk.tU kk.uU T ((X.frame f5 (λ_ _=>id)).iT) (by rw[jK,cr]) (ph _) ae ae λY c6 k W _ f6 G=>⟨_,_,_,rfl,cC ?_⟩
 have f7:Fr No k (k.push (.cells #[.int .u8 255] 5)):=Fr.push _ _;have z5:=f5.1;have z6:=f6.1;have z7:=f7.1;refine dO kk.tU kk.uU (W.frame f7 (λ_ _=>id)) (q:=some (AA k.size 0)) (ds:=bc [255]) jq rfl (ph _) ae ae λZ C I O _ f8 z=>⟨_,_,_,rfl,?_⟩
 rw[<-jA,<-jA]at O;have el:1+out.length+1=(159::(out++ [255])).length:=by simp;omega
 rw[el]at O⊢;have N: ∀y,aP Y y->d.size<=y:=λy o=>by
  rcases G y o with⟨a,e,E⟩|a
  .cases e;rw[<-E];exact aZ _
  .omega
 have t:Fr No d k:=f5.fresh f6 (λy ⟨a,e,E⟩=>by cases e;rw[<-E];exact aZ _);refine Q _ f (by simp;omega) I Z C O (λy o=> ?_) (r.tt ((t.tt f7).fresh f8 N));rcases z y o with a|a
 .have:=N y a;omega
 .omega
theorem Ba(w:b.p.wf)(U:lW V H)(u:Fr No H h)(mx:tR.Mx h)(B:ji h D b.bl q b.bl.length cl xs)(f:b.bl.length<=1000000)(hd: ∀d∈b.bl,d.data.length<=80000)(hk: gW h R (.bool (kj V b).isSome)):ar Tryz.prog 196 #[(b.s q cl).agg] h R:=by
 refine Cr.walk (av.cT λb1 k E e f1=>av.fK e (Ip w U (u.tt f1) (mx.on f1) (B.on f1) f hd (λout j L a p c o n f2=>⟨_,_,_,_,rfl,?_⟩) (λi a f2=>⟨_,_,_,_,rfl,?_⟩)))
 .have:=hk a (f1.tt f2);rw[j]at this;exact this
 .have:=hk a (f1.tt f2);rw[i]at this;exact this
theorem GA {b : qm} {q : Option Addr} {cl : Nat} {xs : List BB} (B : ji h D b.bl q b.bl.length cl xs) (hl : b.bl.length ≤ 1000000) (hd : ∀ b' ∈ b.bl, b'.data.length ≤ 80000)
    (hk : ∀ h' p c, fy h' p (wk b).length c 1 (bc (wk b)) → (∀ y, aP p y → h.size ≤ y) → Fr No h h' → R (.slice p (wk b).length c) h') : ar Tryz.prog 159 #[(b.s q cl).agg] h R := by
  have lb : (b.s q cl).zy = b.bl.length := rfl
  refine yS.walk (av.cT λb1 h1 Tk JI f1 => ⟨_, _, _, cz JI rfl, ?_⟩)
  by_cases c0 : b.bl.length = 0
  · rw [if_pos (by simp only [beq_iff_eq]; omega)]
    have e0 : b.bl = [] := List.length_eq_zero_iff.1 c0
    have : wk b = [] := by unfold wk; rw [e0]; rfl
    rw [this] at hk
    exact hk h1 none 0 (.nil rfl rfl rfl rfl) (λy ⟨a, e, _⟩ => by cases e) f1
  rw [if_neg (by simp only [beq_iff_eq]; omega)]
  obtain ⟨n, hn⟩ : ∃ n, b.bl.length = n + 1 := ⟨b.bl.length - 1, by omega⟩
  have ew : IntKind.wrap .i64 (((b.bl.length : Nat) : Int) - 1) = (n : Int) := by rw [hn, bz (by omega) (by omega)]; omega
  have PU : b.bl.getLast? = some b.bl[n] := by rw [List.getLast?_eq_getElem?, show b.bl.length - 1 = n by omega, List.getElem?_eq_getElem (by omega)]
  have ep : wk b = b.bl[n].data := by unfold wk; rw [PU]
  refine ⟨_, _, _, cz JI rfl, _, _, _, cz JI rfl, ?_⟩
  rw [lb, ew]
  obtain ⟨a, x, rfl, hh, ex, Wk, _⟩ := (B.on f1).get (i := n) (by omega)
  refine ⟨⟨by omega, by omega⟩, ay.2 ⟨_, _, _, by rw [Int.toNat_natCast]; exact hh.2.2.2.2.1, kk.gK Wk.row rfl (by have := hd _ (List.getElem_mem (show n < b.bl.length by omega)); rw [← ex] at this; show x.b.data.length ≤ _; omega) λp c h2 o f2 n2 => ⟨_, _, _, rfl, ?_⟩⟩⟩
  rw [ep, ← ex] at hk
  exact hk h2 p c o (λy hy => by have := n2 y hy; have := f1.1; omega) (f1.tt f2)

end Bn
end
section
namespace Ask
open jc (Ev cK)
open eI (SS Good Pt uW Mk)
open Bn (iz gx ic yF Cf qm Prim qH ji BB kj)
variable {V:List UInt8→Bool} {h h' m g:ai} {R:fx} {s k bo id c:Nat} {X j:Ft} {I:uW} {σ:SS} {p:cj} {ses:Int} {x:Rq} {D:Nat→Prop} {o:Ot}
variable {b:Nat} {K:ai->Prop} {n:Nat×Nat} {d:List UInt8} {P:Prim}
abbrev Rq.as(x:Rq)(p:cj)(c s:Nat)(ses:Int):bW.S:=⟨x.id,x.kind,x.ep.kH,x.ep.node,x.ep.gH,x.ep.host,x.ep.jD,x.dest.kH,x.dest.node,x.dest.gH,x.dest.host,x.dest.jD,x.j1,x.num,x.gk,p,x.oD.length,c,x.eH,x.token,x.on,some ⟨s,0,none⟩,ses⟩
structure En (V:List UInt8->Bool) (m h:ai) (s:Nat) (X:Ft) (I:uW) (σ:SS) (k:Nat):Prop where
 H:Pt h s X I σ
 G:eI.Good σ k
 hk:k<=30000
 u:KH m X h
 U:Cb.lW V m
 mx:tR.Mx m
theorem En.on(E:En V m h s X I σ k)(f:Fr No h h'):En V m h' s X I σ k:=⟨E.H.on f,E.G,E.hk,E.u.on f,E.U,E.mx⟩
theorem En.UQ(E:En V m h s X I σ k):tR.Mx h:=E.mx.on E.u.fr
theorem En.step{a:SS}{k':Nat}(E:En V m h s X I σ k)(H:Pt h' s j I a)(st:bC X h j h')(G:eI.Good a k')(hk:k'<=30000):En V m h' s j I a k':=⟨H,G,hk,E.u.step st,E.U,E.mx⟩
theorem En.nM(E:En V m h s X I σ k)(a:h.size<=b): ¬X.M b:=λH=>by have:=E.H.lt b (.inl H);omega
theorem Kc{S:Nat->Prop}{l:List (cj)}(f:Fr S h h')(N: ¬S b)(a: ∀p∈l,p.map (·.block)=some b):Kp h h' l:=f.Tt λp i x e H=>N (by have:=a p i;rw[e]at this;exact(bn this)▸H)
structure iy (X:Ft) (h:ai) (bo id:Nat) (o:Ot) (j:Ft) (h':ai):Prop where
 fr:Fr (λy=>X.M y\/y=bo) h h'
 jl: ∀c,j.M c->X.M c\/h.size<=c
 lB: ∀c,j.D c->X.D c\/h.size<=c
 wg: ∀c,X.D c->j.D c
 at': ∃y,ak.fN h' bo y/\(o.e=0->∃p c,y=⟨id,0,o.num,o.xX,0,p,o.d.length,c⟩/\Row h' p (bc o.d)/\(o.d≠ []->∀z,aP p z->(h.size<=z\/X.D z)/\¬j.M z))
abbrev y0(id:Nat):ak.S:=⟨id,0,0,0,0,none,0,0⟩
theorem iy.of{H:ai}(st:bC X h j H)(f:Fr (λy=>y=bo) H h')(at': ∃y,ak.fN h' bo y/\(o.e=0->∃p c,y=⟨id,0,o.num,o.xX,0,p,o.d.length,c⟩/\Row h' p (bc o.d)/\(o.d≠ []->∀z,aP p z->(h.size<=z\/X.D z)/\¬j.M z))):iy X h bo id o j h':=
 ⟨st.fr.trans f (λ_ _ a=> .inl a) (λ_ _ e=> .inr e),st.jl,st.lB,st.wg,at'⟩
theorem iy.bad{e:Int}(H:ak.fN h bo (y0 id))(N: ¬X.M bo)(st:bC X h j h'){σ:SS}:iy X h bo id (bad σ e) j h':=
 iy.of st (Fr.refl _ _) ⟨_,st.fr.get H N,λ_=>⟨none,0,rfl,Row.nil,λe=>absurd rfl e⟩⟩
theorem mK{i:Nat}{y z:ak.S}{v:Value}(a:ak.fN h b y)(f:i<6)(l:y.arr.setIfInBounds i v=z.arr)(hk: ∀h',ak.fN h' b z->Fr (λy=>y=b) h h'->K h'):aE h (AA b i) v K:=
 bB a f λH d1 d2 d3=>hk H (by unfold ak.fN;rw[<-l];exact d1) (Fr.of_eq d2 λc e=>d3 c e)
theorem Pt.kO{t q:Nat}(H:Pt h s X I σ)(M:Mk h' I.k σ.e t q)(f:Fr (λy=>y=I.k) h h'): ∃j,Pt h' s j I { σ with tm:=t,sq:=q } /\bC X h j h':=by
 obtain⟨Z,⟨_,on⟩,r,z,go⟩:=H.use 5;obtain⟨j,a,st,_,_⟩:=go h' Z { σ with tm:=t,sq:=q } ⟨M,on⟩ (bC.sC (f.mono λy _ l=>(on y).1.2 l)) (λi e=>eI.QD σ.e t q e);exact⟨j,a,st⟩
theorem MO(h:nm σ=some n):σ.tm<n.1\/σ.tm=n.1/\σ.sq<n.2:=by
 unfold nm at h;split at h
 .cases h;left;assumption
 split at h
 .cases h
 .cases h;right;exact⟨rfl,Nat.lt_succ_self _⟩
theorem GC{b:qm}(h:kj V b=some d):Bn.je b.p=true:=by
 unfold kj at h;split at h
 .split at h
  .cases h
  .rename_i H;unfold Bn.py at H;split at H
   .cases H
   .rename_i a;unfold Bn.mn at a;split at a
    .assumption
    .cases a
 .cases h
theorem Kd{b:qm}(h:kj V b=some d):b.p.eH<=1099511627776:=by
 have:=GC h;unfold Bn.je at this;simp only[aT,aY]at this;exact this.2
theorem Iq{b:qm}{q:cj}{cl:Nat}{xs:List BB}(E:En V m h s X I σ k)(b':b.p.wf)(B:ji h D b.bl q b.bl.length cl xs)(hl:b.bl.length<=1000000)(hd: ∀L∈b.bl,L.data.length<=80000)(z:nm σ=some n)(hk: ∀h' j,Pt h' s j I (kC V σ ses b n).σ->bC X h j h'->R (.tuple #[.I (kC V σ ses b n).num,.I (kC V σ ses b n).xX,.I (kC V σ ses b n).e]) h'):
  ar Tryz.prog 151 #[(x.as p c s ses).agg,(b.s q cl).agg,(⟨σ.e,n.1,n.2⟩:iz).s.agg] h R:=by
 refine zS.walk (bW.cT (x:=x.as p c s ses) λb1 h1 d' T f1=>av.cT (x:=b.s q cl) λb2 h2 e' w f2=>ah.cT (x:=(⟨σ.e,n.1,n.2⟩:iz).s) λN h3 f' Y f3=> ?_);have F:=f1.tt (f2.tt f3);have l:=E.on F;have z1:=f1.1;have z2:=f2.1;have z3:=f3.1;unfold kC at hk;refine av.fK (x:=b.s q cl) (f3.get w _root_.id) (Bn.Ip b' E.U l.u.fr l.UQ (B.on F) hl hd (λout r lo u p4 c4 o4 g4 f4=>⟨_,_,_,_,rfl,?_⟩) (λr u f4=>⟨_,_,_,_,rfl,?_⟩))
 case refine_2=>
  rw[fO];rw[r]at hk;exact hk u X (l.H.on f4) (bC.hM (F.tt f4))
 rw[cW];rw[r]at hk;dsimp only at hk;have t:=l.on f4;have i:=(f2.tt (f3.tt f4)).get T _root_.id;have W:=(f3.tt f4).get w _root_.id;have y:=f4.get Y _root_.id;have z4:=f4.1;have g':=aF i;have i':=aF y;have n1: ¬X.M b1:=E.nM ae;have n3: ¬X.M N:=E.nM ae;refine⟨_,aw i,_,aw i,_,aw i,ay.2 ⟨_,aw t.H.cR,_,aw W,Eh σ.now b.p.eH E.G.n (Kd r) ⟨_,rfl,(Fr.refl (λ_=>False) _).kp,eI.uw (jZ σ.now b.p.eH) rfl t.H E.G E.hk o4.iT rfl ae λO G f S=>⟨_,_,rfl,Kc S.fr n1 bM,aK.of λc' v=> ?_⟩⟩⟩⟩;have st:=bC.no (F.tt f4) S;unfold oQ at hk;by_cases H:eI.wK σ ses out (jZ σ.now b.p.eH)=0
 .rw[af H]at hk;rw[af (by rw[H];rfl)];have U:=S.fr.get i n1;have Z:=S.fr.get y n3;have a:(eI.nk σ ses out (jZ σ.now b.p.eH)).e=σ.e/\(eI.nk σ ses out (jZ σ.now b.p.eH)).tm=σ.tm/\(eI.nk σ ses out (jZ σ.now b.p.eH)).sq=σ.sq:=by unfold eI.nk;rw[af H];exact⟨rfl,rfl,rfl⟩
  have M:=Pt.mk' f;rw[a.1,a.2.1,a.2.2]at M;have hr:gx ⟨σ.e,n.1,n.2⟩=true:=by have:=yo E.G z;unfold gx;rw[E.G.e.1,aq this.1,aq this.2];rfl
  refine⟨_,aw U,ay.2 ⟨_,aw f.cR,ah.fK (x:=(⟨σ.e,n.1,n.2⟩:iz).s) Z (Ei M ⟨σ.e,n.1,n.2⟩ rfl hr (MO z) λQ C f8=>⟨_,rfl,?_,?_⟩)⟩⟩
  .have zk:=aF M;have:b1≠I.k:=λe=>by have:=aF (Pt.mk' E.H);omega
   exact Kc f8 this bM
  .subst v;obtain⟨J,A,a'⟩:=Pt.kO f (by rw[a.1];exact C) f8;exact H.symm▸hk Q J A (st.trans a')
 .rw[ag H]at hk;rw[ag (cD H)];subst v;have a:eI.nk σ ses out (jZ σ.now b.p.eH)=σ:=by unfold eI.nk;rw[ag H]
  rw[a]at f;exact hk O G f st
theorem Cw(H:Pt h s X I σ)(hk: gW h R (.I (gg.iu σ.G x.ep ses))):ar Tryz.prog 104 #[(x.as p c s ses).agg] h R:=by
 refine yH.walk (bW.cT (x:=x.as p c s ses) λb G O u f1=>aK.of λJ N=> ?_);have w:=H.on f1;have fin: ∀(g:ai)(q:Nat),gg.Rg.at g q ((gg.iO σ.G x.ep).getD .zero)->Fr No G g->J (some (AA q 0)) (gg.iO σ.G x.ep).isSome g:=by
  intro g q C f;subst N;dsimp only;unfold gg.iu at hk;cases z:gg.iO σ.G x.ep with
  |none=>rw[z]at hk;rw[af (by rfl)];exact hk g (f1.tt f)
  |some r=>
   rw[z]at hk C;rw[ag bM];refine ay.2 ⟨_,aw C,_,aw (f.get u _root_.id),?_⟩;dsimp only at hk;by_cases a:r.own=ses
   .rw[af a]at hk;rw[ag (by show¬(r.own !=ses)=true;simpa using a)];exact hk g (f1.tt f)
   .rw[ag a]at hk;rw[af (by show(r.own !=ses)=true;simpa using a)];exact hk g (f1.tt f)
 obtain⟨Z,E,_⟩:=w.use 1;refine⟨_,aw u,ay.2 ⟨_,aw w.cR,ic x.ep u rfl rfl rfl rfl rfl ⟨?_,?_,trivial⟩⟩⟩
 .exact gg.ir E x.ep λL f3=>⟨_,_,_,_,_,_,_,_,rfl,f3.kp,bQ.box λB M F v f4=>⟨f4.kp,bQ.set v λt A i l=>fin t B A ((f3.tt f4).fresh (Fr.of_eq (S:=λy=>y=B) i l) (λy e=>cf f3.1))⟩⟩
 .refine bQ.box λB M F v f4=>⟨f4.kp,gg.ir (gg.Tb.on E f4) x.ep λL f3=>⟨_,_,_,_,_,_,_,_,rfl,f3.kp,bQ.set (f3.get v _root_.id) λt A i l=>fin t B A ((f4.tt f3).fresh (Fr.of_eq (S:=λy=>y=B) i l) (λy e=>ae))⟩⟩
theorem UR{b:qH}{B:Nat}(H:aG.fN h B (b.s p c))(r:Row h p (bc b.data))(cap:b.data.length<=c):ji h (λ_=>True) [b] (some (AA B 0)) 1 1 [⟨b,p,c⟩]:=
 ⟨rfl,rfl,.inr ⟨_,rfl,aG.yA (x:=b.s p c) H⟩,λ_ _ _=>trivial,aZ _,λy a=>by rw[bH.1 a];exact⟨r,λ_ _ _=>trivial,cap⟩⟩
theorem Q9(n:Nat)(a:aD.fN h b P.s)(hk: ∀h',aD.fN h' b ({ P with fl:=n } :Prim).s->Fr (λy=>y=b) h h'->K h'):aE h (AA b 0) (.U (n:Int)) K:=
 bB a (by show 0<20;omega) λH d1 d2 d3=>hk H d1 (Fr.of_eq d2 λc e=>d3 c e)
theorem US(e:Ev)(a:aD.fN h b P.s)(hk: ∀h',aD.fN h' b ({ P with rep:=e } :Prim).s->Fr (λy=>y=b) h h'->K h'):ax.cY h (AA b 7) e.s K:=
 (show eS (AA b 7) e.s.l 0 h K from k7 (off:=7) (ws:=({ P with rep:=e } :Prim).s.l) a (by show 7+5<=20;omega) rfl rfl λH d1 d2 d3=>hk H d1 (Fr.of_eq d2 λc f=>d3 c f))
theorem OI(E:En V m h s X I σ k)(rx:Row h p (bc x.oD))(cap:x.oD.length<=c)(lp:x.oD.length<=1000)(Z:0<=x.ep.gH)(w2:0<=x.dest.gH)(q:ak.fN h bo (y0 id))(W: ¬(X.M bo\/X.D bo))(hk: ∀h' j,Pt h' s j I (tJ V σ ses x).σ->iy X h bo id (tJ V σ ses x) j h'->R (.I (tJ V σ ses x).e) h'):
  ar Tryz.prog 101 #[(x.as p c s ses).agg,.P bo 0] h R:=by
 refine yI.walk (bW.cT (x:=x.as p c s ses) λb h1 eb Q f1=>bW.fK (x:=x.as p c s ses) Q (Cw (E.H.on f1) λh2 f2=>⟨_,rfl,?_⟩));have F:=f1.tt f2;have E2:=E.on F;have J:=f2.get Q _root_.id;have nM: ¬X.M bo:=λe=>W (.inl e)
 unfold tJ at hk;by_cases t:gg.iu σ.G x.ep ses=0
 case neg=>
  rw[ag t]at hk;rw[af (cD t)];exact hk h2 X E2.H (iy.bad q nM (bC.hM F))
 rw[af t]at hk;rw[ag (cD t)];refine⟨_,aw J,ic x.ep J rfl rfl rfl rfl rfl (sW E2.H E.G x.ep (λn r G f3=>ah.ex _ (ah.ex _ ⟨_,rfl,?_⟩)) (λr G f3=>ah.ex _ (ah.ex _ ⟨_,rfl,?_⟩)))⟩
 case refine_2=>
  rw[r]at hk;refine ah.cT λb1 h4 k' H f4=>ah.cT λA h5 l' L f5=>ah.gO (x:=(⟨x.ep,0,0⟩:iz).s) (f5.get H _root_.id) λh6 d6 f6 _=>ah.gO (x:=iz.zero.s) (f6.get L (cf (aF H))) λf d7 f7 _=> ?_
  rw[fO];have z4:=f4.1;have l:Fr No G f:=((f4.tt f5).fresh f6 (λy e=>ae)).fresh f7 (λy e=>ae);exact hk f X (E2.H.on (f3.tt l)) (iy.bad q nM (bC.hM (F.tt (f3.tt l))))
 rw[r]at hk;dsimp only at hk;refine ah.cT λb1 h4 k' H f4=>ah.cT λA h5 l' L f5=>ah.gO (x:=(⟨x.ep,n.1,n.2⟩:iz).s) (f5.get H _root_.id) λh6 d6 f6 _=>ah.gO (x:=(⟨σ.e,n.1,n.2⟩:iz).s) (f6.get L (cf (aF H))) λf d7 f7 _=> ?_
 rw[cW];have z1:=f1.1;have z2:=f2.1;have z3:=f3.1;have z4:=f4.1;have z5:=f5.1;have r':b1≠A:=by have:=aF H;omega
 have N:Fr No G f:=((f4.tt f5).fresh f6 (λy e=>ae)).fresh f7 (λy e=>ae);have M:=f3.tt N;have l:=F.tt M;have i:=M.get J _root_.id;have d67:=f7.get d6 r';have A':=N.1;refine ic x.dest i rfl rfl rfl rfl rfl (ah.fK (x:=(⟨x.ep,n.1,n.2⟩:iz).s) d67 ⟨_,aw i,aD.gh (x:=(⟨0,0,x.dest,.zero,⟨x.ep,n.1,n.2⟩,x.eH⟩:Prim).s) λB O u' U f9=>⟨_,aw (f9.get i _root_.id),aK.of λe' hJ=> ?_⟩⟩);have S:=f9.get i _root_.id;have d79:=f9.get d7 _root_.id;have z9:=f9.1;have Y:b≠B:=by have:=aF i;omega
 have s':A≠B:=by have:=aF d7;omega
 have fin: ∀g,aD.fN g B (kr x n).p.s->Fr (λy=>y=B) O g->e' g:=by
  intro g hp C;subst hJ;have c':Fr No f g:=f9.fresh C (λy e=>ae);have T:=C.get S Y;refine bW.fK (x:=x.as p c s ses) T (aD.fK (x:=(kr x n).p.s) hp ⟨_,_,_,aw T,aG.cT (x:=(⟨1,1,0,0,x.oD⟩:qH).s p c) λb4 w' v' q' f11=>ah.fK (x:=(⟨σ.e,n.1,n.2⟩:iz).s) (f11.get (C.get d79 s') _root_.id) ?_⟩);have v:=l.tt (c'.tt f11);have a':=E.on v;refine Iq (b:=kr x n) (x:=x) (p:=p) (c:=c) a' ⟨w2,?_,Z⟩ (UR (b:=⟨1,1,0,0,x.oD⟩) q' (rx.frame v (λ_ _=>_root_.id)) cap) (by show 1<=_;omega) (λb' o'=>by rw[bH.1 o'];show x.oD.length<=_;omega) r λx' w d' t'=>⟨_,_,_,rfl,?_⟩
  .show 0<=(if x.on=true then x.ep else Ev.zero).gH;split
   .exact Z
   .exact dW 0
  .have st:=bC.no v t';have p':=st.fr.get q nM;refine mK (z:=⟨id,0,(kC V σ ses (kr x n) n).num,0,0,none,0,0⟩) p' cM rfl λy' f' f13=>mK (z:=⟨id,0,(kC V σ ses (kr x n) n).num,(kC V σ ses (kr x n) n).xX,0,none,0,0⟩) f' cM rfl λm' g' f14=> ?_
   have no: ¬(w.M bo\/w.D bo):=λhm=>by
    have zo:=aF q;rcases hm with a|a
    .rcases st.jl bo a with a|a
     .exact nM a
     .omega
    .rcases st.lB bo a with a|a
     .exact W (.inr a)
     .omega
   refine hk m' w (d'.frame (f13.tt f14) (λy hy e=>no (e▸hy))) (iy.of st (f13.tt f14) ⟨_,g',λhe=>⟨none,0,?_,?_,?_⟩⟩)
   .have:(kC V σ ses (kr x n) n).d= []:=by
     unfold kC;split
     .rfl
     .unfold oQ;split<;>rfl
    rw[this];rfl
   .have:(kC V σ ses (kr x n) n).d= []:=by
     unfold kC;split
     .rfl
     .unfold oQ;split<;>rfl
    rw[this];exact Row.nil
   .intro _ z hz;obtain⟨a,e,_⟩:=hz;cases e
 cases u:x.on with
 |false=>
  rw[ag (by show¬x.on=true;rw[u];decide)];refine fin O ?_ (Fr.refl _ _);have:(kr x n).p=⟨0,0,x.dest,.zero,⟨x.ep,n.1,n.2⟩,x.eH⟩:=by unfold kr;rw[u];rfl
  rw[this];exact U
 |true=>
  rw[af (show x.on=true from u)];refine ic x.ep S rfl rfl rfl rfl rfl (Q9 131072 U λz' i' f15=>⟨OC f15 Y bM,US x.ep i' λn' j' f16=>fin n' ?_ (f15.tt f16)⟩);have:(kr x n).p=⟨131072,0,x.dest,x.ep,⟨x.ep,n.1,n.2⟩,x.eH⟩:=by unfold kr;rw[u];rfl
  rw[this];exact j'

end Ask
end
end Go.Proofs.YtlenamcfacpheaaGreatDoor
