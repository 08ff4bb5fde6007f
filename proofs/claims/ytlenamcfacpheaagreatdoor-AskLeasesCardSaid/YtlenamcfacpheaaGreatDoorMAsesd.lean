/-
  EI is proved here: parts of w5 proof, one behind w5 other (texts of this work, merged by a program; Iy w5 theorem Iz not use is left out). No condition.
-/
import Derived.Test.YtlenamcfacpheaaGreatDoorProg
import Derived.Shelf.SortM.Plain
import Derived.Shelf.SortM.SortNone
import Derived.Ground.SlgmProg
import Derived.Shelf.Strconv.Itoa4
import Derived.Ground.NamesProg
import Derived.Test.YtlenamcfacpheaaGreatDoorMAsesc
set_option maxRecDepth 100000
set_option maxHeartbeats 4000000
namespace Go.Proofs.YtlenamcfacpheaaGreatDoor
open Go.Den
open IntKind (wrap)
open Int (toNat)
section
variable {h:ai} {R:fx}
variable {t s S D l:Nat} {n E c V k num:Int} {g m:cj} {e:Bool} {d f:ByteArray}
theorem FE.walk(o:aS h (.map #[] 0) λb H=>Cl 87 #[] H λv a=>Vp v λt2=>Cl 87 #[] a λp i=>Vp p λt3=>aS i (.cells #[.map (some b),.I 1,.I 0,.I 0,.I 0,.pointer t2,.pointer t3] 110) λB j=>R (.P B 0) j):ar Tryz.prog 37 #[] h R:=aR (lq ll) Tryz.func37 o
theorem tj.walk(H: ∃t9,Cc h t 0 (.map t9)/\R (.bool (!t9.isNone)) h):ar Tryz.prog 47 #[.P t 0] h R:=aR (lq ll) Tryz.func47 H
theorem pO.walk (K:Cl 47 #[.P t 0] h λv H=>Vb v λt6=>aK (λ(x:cj) (w u:Nat) (A:ai)=>Cl 134 #[.slice x w u] A λQ B=>Q=.tuple #[]/\R (.slice x w u) B) (λJ=>if t6 then∃t10,Cc H t 0 (.map t10)/\aV Tryz.prog (Instr.range 107 (.map t10)) H λU C=> ∃(it:Nat),U=.P it 0/\∃(I:cj->Nat->Nat->ai->Prop)(M:cj->Nat->Nat->ai->Nat),I none 0 0 C/\∀(a:cj)(O o:Nat)(i:ai),I a O o i->aV Tryz.prog (Instr.next (.P it 0) false 0) i λz q=>(z=.tuple #[.bool false]/\J a O o q)\/(∃(L N:Value),z=.tuple #[.bool true,L,N]/\aV Tryz.prog (Instr.entry (.P it 0)) q λW F=> ∃(y P:Value),W=.tuple #[y,P]/\∃t15,y=.I t15/\aS F (.cells #[.I t15] 3) λb G=>aV Tryz.prog (Builtin.append_ #[105,105] 105 #[.slice a O o,.slice (some (AA b 0)) 1 1]) G λX r=> ∃p j T,X=.slice p j T/\(I p j T r/\M p j T r<M a O o i))else J none 0 0 H)):ar Tryz.prog 68 #[.P t 0] h R:=aR (lq (lq (sq (lq (.join [(3,.one (.slice))] (cq (lq (bq (.loop [(3,.one (.slice))] (lq (sq (cq lf lf) (bq (sq (.typed [(15,.one (.int .i64))]) lf))))))) lf))) (lq ll)))) Tryz.func68 K
theorem tn.walk{c0:Nat}{c1:Nat}(H:Hp h c0 0 λt5=>aO t5 λa=> ∃t8,aB h a=some (.map t8)/\∃t10,gP Tryz.prog 107 (.map t8) (.I n) false h (.pointer t10)/\aO t10 λA=>ax.LD h (A.add 1) λT b i j o=>ax.LD h (AA c1 0) λp q r u v=> ∃(eq:Bool),vw Tryz.prog 29 (.agg #[.bool T,.U b,.U i,.string j,.string o]) (.agg #[.bool p,.U q,.U r,.string u,.string v]) eq/\R (.bool (!eq)) h):ar Tryz.prog 113 #[.I n,.P c0 0,.P c1 0] h R:=aR (lq (sq (pN 12) lf)) Tryz.func113 H
theorem kQ.of.walk{b:Nat}{o:Nat}(B:Cl 168 #[.slice g s S,.func (.func 113) #[] #[.P b 0,.P o 0]] h λv q=> ∃t10,v=.I t10/\if(t10==(-1))then R (.slice g s S) q else∃(I:Int->Int->ai->Prop)(M:Int->Int->ai->Nat),I t10 (wrap .i64 (t10+1)) q/\∀(i:Int)(j:Int)(H:ai),I i j H->if(decide (j<(s:Int)))then aK (λ(w:Int) (r:ai)=>(I w (wrap .i64 (j+1)) r/\M w (wrap .i64 (j+1)) r<M i j H)) (λJ=>Bd j s/\aO g λa=>xq H (a.add (toNat j*1)) λt25=>Cl 113 #[.I t25,.P b 0,.P o 0] H λF u=>Vb F λt28=>aK (λ(C:Int) (x:ai)=>J C x) (λp=>if(!t28)then Bd i s/\aO g λA=>aE u (A.add (toNat i*1)) (.I t25) λy=>p (wrap .i64 (i+1)) y else p i u))else((0:Int)<=i/\i<=(s:Int))/\aV Tryz.prog (Builtin.clear_ #[105] 0 #[.slice (cE g S (toNat i) 1) (s - (toNat i)) (S - (toNat i))]) H λG z=>G=.tuple #[]/\((0:Int)<=i/\i<=(S:Int))/\R (.slice (cE g S 0 1) ((toNat i) - 0) (S - 0)) z):ar Tryz.prog 112 #[.slice g s S,.func (.func 113) #[] #[.P b 0,.P o 0]] h R:=aR (lq (lq (sq (lq (cq ll lf)) (sq (lq (bq (.loop [(5,.one (.int .i64)),(6,.one (.int .i64))] (sq (lq (cq lf lf)) (sq (.join [(5,.one (.int .i64))] (bq (lq (lq (.join [(5,.one (.int .i64))] (cq ll lf)))))) lf))))) (lq ll))))) Tryz.func112 B
theorem gM.of.walk{F:Nat}{i:Nat}(j: ∃(I:Int->ai->Prop)(M:Int->ai->Nat),I 0 h/\∀(t8:Int)(H:ai),I t8 H->if(decide (t8<(s:Int)))then Bd t8 s/\aO g λa=>xq H (a.add (toNat t8*1)) λt15=>Cl 113 #[.I t15,.P F 0,.P i 0] H λv b=> ∃t16,v=.bool t16/\if t16 then R (.I t8) b else(I (wrap .i64 (t8+1)) b/\M (wrap .i64 (t8+1)) b<M t8 H)else R (.I (-1)) H):ar Tryz.prog 168 #[.slice g s S,.func (.func 113) #[] #[.P F 0,.P i 0]] h R:=aR (lq (sq (lq (bq (.loop [(8,.one (.int .i64))] (lq (sq (cq lf lf) (sq (bq (lq (lq (cq ll lf)))) lf)))))) ll)) Tryz.func168 j
theorem wI.walk(q:aS h (.cells #[.P t 0] 36) λb j=>aS j (.cells #[.bool e,.U E,.U c,.string d,.string f] 29) λB H=>Hp H b 0 λt5=>Cl 68 #[.pointer t5] H λv o=>Vl v λw u r=>Cl 112 #[.slice w u r,.func (.func 113) #[] #[.P b 0,.P B 0]] o λx p=> ∃i a T,x=.slice i a T/\R (.slice i a T) p):ar Tryz.prog 49 #[.P t 0,.agg #[.bool e,.U E,.U c,.string d,.string f]] h R:=aR (lq ll) Tryz.func49 q
theorem rV.walk(r:aS h (.cells #[.bool e,.U E,.U c,.string d,.string f] 29) λb i=>ax.LD i (AA b 0) λx y z B C=>Cl 49 #[.P t 0,.agg #[.bool x,.U y,.U z,.string B,.string C]] i λv p=>Vl v λw T F=> ∃(I:Int->Int->ai->Prop)(M:Int->Int->ai->Nat),I 0 0 p/\∀(n:Int)(t12:Int)(H:ai),I n t12 H->if(decide (t12<(T:Int)))then aK (λ(N:Int) (o:ai)=>(I N (wrap .i64 (t12+1)) o/\M N (wrap .i64 (t12+1)) o<M n t12 H)) (λJ=>Bd t12 T/\aO w λa=>xq H (a.add (toNat t12*1)) λt15=> ∃t19,Cc H t 0 (.map t19)/\∃t21,gP Tryz.prog 107 (.map t19) (.I t15) false H (.pointer t21)/\aO t21 λA=>xq H (A.add 8) λt24=>aK (λ(u:Int) (q:ai)=>J u q) (λj=>if(t24==0)then j (wrap .i64 (n+1)) H else j n H))else R (.I n) H):ar Tryz.prog 103 #[.P t 0,.agg #[.bool e,.U E,.U c,.string d,.string f]] h R:=aR (lq (lq (sq (lq (bq (.loop [(5,.one (.int .i64)),(12,.one (.int .i64))] (lq (sq (cq lf lf) (sq (.join [(5,.one (.int .i64))] (bq (lq (lq (.join [(5,.one (.int .i64))] (cq lf lf)))))) lf)))))) ll))) Tryz.func103 r
theorem qR.walk(p:aS h (.cells #[.I 0,.I 0,.I 0,.I 0,.I 0,.I 0] 50) λb o=>Cl 47 #[.P t 0] o λv a=> ∃t5,v=.bool t5/\if(!t5)then fC.ST a (AA b 0) 0 0 0 0 0 0 λi=>fC.LD i (AA b 0) λr u x z B F=>R (.agg #[.I r,.I u,.I x,.I z,.I B,.I F]) i else Hp a t 6 λt11=>Cl 56 #[.pointer t11] a λI H=>Vi I λt12=>Hi H t 1 λt16=> ∃t21,Cc H t 0 (.map t21)/\∃t22:Int,Nj Tryz.prog #[107] 3 (.map t21) H (.I t22)/\Hi H t 2 λt29=>Hi H t 3 λt33=>Hi H t 4 λt37=>fC.ST H (AA b 0) (wrap .i64 (t16 - 1)) (wrap .i64 (t22 - t12)) t12 t29 t33 t37 λj=>fC.LD j (AA b 0) λq w y A C G=>R (.agg #[.I q,.I w,.I y,.I A,.I C,.I G]) j):ar Tryz.prog 17 #[.P t 0] h R:=aR (lq (sq (lq (cq ll lf)) (lq (sq (pN 27) lf)))) Tryz.func17 p
theorem zJ.walk(i:aS h (.cells #[.bool e,.U E,.U c,.string d,.string f] 29) λb a=>ax.LD a (AA b 0) λr u w x y=>Cl 86 #[.agg #[.bool r,.U u,.U w,.string x,.string y]] a λv H=> ∃t8,v=.bool t8/\if t8 then ax.LD H (AA b 0) λT j o p q=> ∃(eq:Bool),vw Tryz.prog 29 (.agg #[.bool T,.U j,.U o,.string p,.string q]) (.agg #[.bool false,.U 0,.U 0,.string gi,.string gi]) eq/\if(!eq)then if(decide ((D:Int)≥1))then if(decide ((D:Int)<=600))then R (.bool (decide (V<=1099511627776))) H else R (.bool false) H else R (.bool false) H else R (.bool false) H else R (.bool false) H):ar Tryz.prog 48 #[.agg #[.bool e,.U E,.U c,.string d,.string f],.slice m D l,.U V] h R:=aR (lq ll) Tryz.func48 i
theorem uL.walk(C:aS h (.cells #[.bool e,.U E,.U c,.string d,.string f] 29) λb z=>Cl 47 #[.P t 0] z λv a=> ∃t13,v=.bool t13/\if(!t13)then R (.tuple #[.I 0,.I 6]) a else ax.LD a (AA b 0) λF G I J K=>Cl 48 #[.agg #[.bool F,.U G,.U I,.string J,.string K],.slice m D l,.U V] a λZ i=> ∃t19,Z=.bool t19/\if(!t19)then R (.tuple #[.I 0,.I 1]) i else ax.LD i (AA b 0) λL M N O P=>Cl 49 #[.P t 0,.agg #[.bool L,.U M,.U N,.string O,.string P]] i λa' H=> ∃U y Q,a'=.slice U y Q/\if(decide (((y:Nat):Int)≥16))then R (.tuple #[.I 0,.I 15]) H else Hi H t 1 λt30=> ∃t34,Cc H t 1 (.I t34)/\aE H (AA t 1) (.I (wrap .i64 (t34+1))) λj=> ∃t41,Cc j t 0 (.map t41)/\ax.LD j (AA b 0) λT q r u w=>Cl 50 #[.slice m D l] j λb' o=>Vl b' λY X W=>dF (AA b 0) [.bool T,.U q,.U r,.string u,.string w] 0 o/\Cc o t 0 (.map t41)/\aS o (.cells #[.I t30,.bool T,.U q,.U r,.string u,.string w,.slice Y X W,.U V,.I 0,.U 0] 114) λB p=>dF (AA b 0) [.bool T,.U q,.U r,.string u,.string w] 0 p/\Cc p t 0 (.map t41)/\aV Tryz.prog (Instr.mapUpdate 107 (.map t41) (.I t30) (.P B 0)) p λ_ x=>Hp x t 5 λt53=>Cl 51 #[.pointer t53,.I t30,.U V] x λc' A=> ∃t56,c'=.I t56/\R (.tuple #[.I t30,.I 0]) A):ar Tryz.prog 15 #[.P t 0,.agg #[.bool e,.U E,.U c,.string d,.string f],.slice m D l,.U V] h R:=aR (lq (sq (bq (lq (cq ll (lq (cq ll (lq (cq ll lf))))))) (lq (lq (sq (.gS (.op 0 (.op 1 (.op 2 (.op 3 (.op 4 (.op 5 (.op 6 (.op 7 (.op 9 (.op 8 (.op 10 (.op 11 (.op 12 .done)))))))))))))) (lq ll)))))) Tryz.func15 C
theorem uM.walk(H:if(decide (n≥1))then R (.bool (decide (n<=1099511627776))) h else R (.bool false) h):ar Tryz.prog 192 #[.I n] h R:=aR (lq ll) Tryz.func192 H
theorem rW.walk{i:Int}(hv:aS h (.cells #[.bool e,.U E,.U c,.string d,.string f] 29) λb U=>aS U (.cells #[.I 0,.bool false,.U 0,.U 0,.string gi,.string gi,.Z,.U 0,.I 0,.U 0] 114) λB Y=>Cl 47 #[.P t 0] Y λv z=> ∃t16,v=.bool t16/\if(!t16)then aL.ST z (AA B 0) 0 false 0 0 gi gi none 0 0 0 0 0 λA=>aL.LD A (AA B 0) λb' f' j' n' r' v' H' D' z' L' P' T'=>R (.tuple #[.agg #[.I b',.bool f',.U j',.U n',.string r',.string v',.slice H' D' z',.U L',.I P',.U T'],.I 6]) A else aK (λ(t19:Bool) (o:ai)=>if t19 then aL.ST o (AA B 0) 0 false 0 0 gi gi none 0 0 0 0 0 λC=>aL.LD C (AA B 0) λc' g' k' o' s' w' I' E' A' M' Q' U'=>R (.tuple #[.agg #[.I c',.bool g',.U k',.U o',.string s',.string w',.slice I' E' A',.U M',.I Q',.U U'],.I 1]) C else ax.LD o (AA b 0) λX' Y' Z' RT RU=>Cl 49 #[.P t 0,.agg #[.bool X',.U Y',.U Z',.string RT,.string RU]] o λFu Z=>Vl Fu λHa T Ly=> ∃(I:Int->ai->Prop)(M:Int->ai->Nat),I 0 Z/\∀(t32:Int)(H:ai),I t32 H->if(decide (t32<(T:Int)))then Bd t32 T/\aO Ha λa=>xq H (a.add (toNat t32*1)) λt35=> ∃t39,Cc H t 0 (.map t39)/\∃t41,gP Tryz.prog 107 (.map t39) (.I t35) false H (.pointer t41)/\aO t41 λL=> ∃t45,aB H (L.add 8)=some (.I t45)/\if(t45==0)then aO t41 λN=>aE H (N.add 8) (.I k) λa'=>aO t41 λO=>aE a' (O.add 9) (.U i) λp=>Hp p t 6 λt58=>Cl 51 #[.pointer t58,.I t35,.U i] p λJm q=>Vi Jm λt61=>aO t41 λP=>aL.LD q P λRV RW RX RY RZ R0 NS NT NU R1 R2 R3=>aS q (.cells #[.I 0,.bool false,.U 0,.U 0,.string gi,.string gi,.Z,.U 0,.I 0,.U 0] 114) λj W=>aL.ST W (AA j 0) RV RW RX RY RZ R0 NS NT NU R1 R2 R3 λr=>aO t41 λQ=>zp r (Q.add 6) λR4 R5 R6=>Cl 50 #[.slice R4 R5 R6] r λFF X=> ∃K G F,FF=.slice K G F/\aE X (AA j 6) (.slice K G F) λu=>aL.LD u (AA j 0) λLA LB Hc R7 R8 R9 NV NW NY Sa Sb Sc=>aL.ST u (AA B 0) LA LB Hc R7 R8 R9 NV NW NY Sa Sb Sc λw=>aL.LD w (AA B 0) λd' h' l' p' t' x' J' F' B' N' R' V'=>R (.tuple #[.agg #[.I d',.bool h',.U l',.U p',.string t',.string x',.slice J' F' B',.U N',.I R',.U V'],.I 0]) w else(I (wrap .i64 (t32+1)) H/\M (wrap .i64 (t32+1)) H<M t32 H)else aL.ST H (AA B 0) 0 false 0 0 gi gi none 0 0 0 0 0 λx=>aL.LD x (AA B 0) λe' i' m' q' u' y' K' G' C' O' S' W'=>R (.tuple #[.agg #[.I e',.bool i',.U m',.U q',.string u',.string y',.slice K' G' C',.U O',.I S',.U W'],.I 4]) x) (λJ=>Cl 192 #[.I k] z λBP y=> ∃t21,BP=.bool t21/\if(!t21)then J true y else J (decide (i>1099511627776)) y)):ar Tryz.prog 156 #[.P t 0,.agg #[.bool e,.U E,.U c,.string d,.string f],.I k,.U i] h R:=aR (lq (sq (bq (lq (cq ll (sq (.join [(19,.one (.bool))] lf) (cq ll lf))))) (sq (lq (bq (.loop [(32,.one (.int .i64))] (lq (sq (cq lf lf) (sq (bq (lq (lq (lq (cq (lq (lq (lq (lq ll)))) lf))))) lf)))))) ll))) Tryz.func156 hv
theorem tp.walk(i:Cl 47 #[.P t 0] h λv H=> ∃t10,v=.bool t10/\if(!t10)then R (.tuple #[.pointer none,.I 6]) H else∃t16,Cc H t 0 (.map t16)/\∃t18,gP Tryz.prog 107 (.map t16) (.I num) false H (.pointer t18)/\if t18.isNone then R (.tuple #[.pointer none,.I 4]) H else aK (λ(t20:Bool) (b:ai)=>if t20 then R (.tuple #[.pointer none,.I 14]) b else∃t47,Cc b t 0 (.map t47)/\∃t49,gP Tryz.prog 107 (.map t47) (.I num) false b (.pointer t49)/\R (.tuple #[.pointer t49,.I 0]) b) (λJ=> ∃t24,Cc H t 0 (.map t24)/\∃t26,gP Tryz.prog 107 (.map t24) (.I num) false H (.pointer t26)/\aO t26 λa=> ∃t29,aB H (a.add 8)=some (.I t29)/\if(t29==0)then J true H else∃t35,Cc H t 0 (.map t35)/\∃t37,gP Tryz.prog 107 (.map t35) (.I num) false H (.pointer t37)/\aO t37 λA=> ∃t40,aB H (A.add 8)=some (.I t40)/\J (t40 !=k) H)):ar Tryz.prog 165 #[.P t 0,.I num,.I k] h R:=aR (lq (sq (bq (lq (cq ll (lq (cq ll (sq (.join [(20,.one (.bool))] lf) (cq ll lf))))))) ll)) Tryz.func165 i
theorem tB.walk(j:Hp h t 6 λt7=>Cl 115 #[.pointer t7,.I n] h λv H=>Vi v λt9=> ∃t13,Cc H t 0 (.map t13)/\∃t15,gP Tryz.prog 107 (.map t13) (.I n) false H (.pointer t15)/\∃t19,Cc H t 0 (.map t19)/\∃t21,gP Tryz.prog 107 (.map t19) (.I n) false H (.pointer t21)/\aO t15 λa=>aE H (a.add 8) (.I 0) λb=>aO t21 λA=>aE b (A.add 9) (.U 0) λi=>R (.tuple #[]) i):ar Tryz.prog 120 #[.P t 0,.I n] h R:=aR (lq (pN 18)) Tryz.func120 j
theorem qS.walk(i:Hp h t 6 λt7=>Cl 115 #[.pointer t7,.I n] h λv H=>Vi v λt9=>Hp H t 5 λt13=>Cl 115 #[.pointer t13,.I n] H λj a=>Vi j λt15=> ∃t19,Cc a t 0 (.map t19)/\aV Tryz.prog (Builtin.delete_ #[107,3] 0 #[.map t19,.I n]) a λo b=>o=.tuple #[]/\R (.tuple #[]) b):ar Tryz.prog 119 #[.P t 0,.I n] h R:=aR (lq ll) Tryz.func119 i
theorem uO.walk(j:Cl 165 #[.P t 0,.I num,.I k] h λv H=> ∃o T,v=.tuple #[.pointer o,.I T]/\aK (λ(b:ai)=>R (.I T) b) (λJ=>if(T==0)then Cl 119 #[.P t 0,.I num] H λp a=>p=.tuple #[]/\∃t24,Cc a t 2 (.I t24)/\aE a (AA t 2) (.I (wrap .i64 (t24+1))) λi=>J i else J H)):ar Tryz.prog 161 #[.P t 0,.I num,.I k] h R:=aR (lq (lq (sq (lq (.join [] (cq ll lf))) ll))) Tryz.func161 j
theorem pP.walk(i:Cl 165 #[.P t 0,.I num,.I k] h λv H=> ∃j T,v=.tuple #[.pointer j,.I T]/\aK (λ(a:ai)=>R (.I T) a) (λJ=>if(T==0)then Cl 120 #[.P t 0,.I num] H λo b=>o=.tuple #[]/\J b else J H)):ar Tryz.prog 107 #[.P t 0,.I num,.I k] h R:=aR (lq (lq (sq (lq (.join [] (cq lf lf))) ll))) Tryz.func107 i
theorem tC.walk{now:Int}(z:Cl 47 #[.P t 0] h λv j=> ∃t11,v=.bool t11/\if(!t11)then R (.Z) j else Hp j t 5 λt16=>Cl 118 #[.pointer t16,.U now] j λF x=>Vl F λu T B=> ∃(I:Int->ai->Prop)(M:Int->ai->Nat),I 0 x/\∀(t21:Int)(H:ai),I t21 H->if(decide (t21<(T:Int)))then Bd t21 T/\aO u λa=>xq H (a.add (toNat t21*1)) λt24=>Cl 119 #[.P t 0,.I t24] H λG o=>G=.tuple #[]/\∃t31,Cc o t 3 (.I t31)/\aE o (AA t 3) (.I (wrap .i64 (t31+1))) λp=>(I (wrap .i64 (t21+1)) p/\M (wrap .i64 (t21+1)) p<M t21 H)else Hp H t 6 λt39=>Cl 118 #[.pointer t39,.U now] H λJ y=>Vl J λC w L=> ∃(i:Int->ai->Prop)(r:Int->ai->Nat),i 0 y/\∀(t43:Int)(b:ai),i t43 b->if(decide (t43<(w:Int)))then Bd t43 w/\aO C λA=>xq b (A.add (toNat t43*1)) λt46=>Cl 120 #[.P t 0,.I t46] b λK q=>K=.tuple #[]/\(i (wrap .i64 (t43+1)) q/\r (wrap .i64 (t43+1)) q<r t43 b)else R (.slice u T B) b):ar Tryz.prog 53 #[.P t 0,.U now] h R:=aR (lq (sq (lq (cq ll lf)) (lq (sq (lq (bq (.loop [(21,.one (.int .i64))] (lq (sq (cq lf lf) (sq (bq (lq ll)) lf)))))) (sq (lq (bq (.loop [(43,.one (.int .i64))] (lq (sq (cq lf lf) (sq (bq ll) lf)))))) ll))))) Tryz.func53 z
theorem tD.walk(r:aS h (.cells #[.bool e,.U E,.U c,.string d,.string f] 29) λb i=>ax.LD i (AA b 0) λw x y z A=>Cl 49 #[.P t 0,.agg #[.bool w,.U x,.U y,.string z,.string A]] i λv q=>Vl v λp T u=> ∃(I:Int->ai->Prop)(M:Int->ai->Nat),I 0 q/\∀(t13:Int)(H:ai),I t13 H->if(decide (t13<(T:Int)))then Bd t13 T/\aO p λa=>xq H (a.add (toNat t13*1)) λt16=>Cl 119 #[.P t 0,.I t16] H λB j=>B=.tuple #[]/\∃t23,Cc j t 4 (.I t23)/\aE j (AA t 4) (.I (wrap .i64 (t23+1))) λo=>(I (wrap .i64 (t13+1)) o/\M (wrap .i64 (t13+1)) o<M t13 H)else R (.slice p T u) H):ar Tryz.prog 99 #[.P t 0,.agg #[.bool e,.U E,.U c,.string d,.string f]] h R:=aR (lq (lq (sq (lq (bq (.loop [(13,.one (.int .i64))] (lq (sq (cq lf lf) (sq (bq (lq ll)) lf)))))) ll))) Tryz.func99 r
theorem uQ.walk(K:Cl 68 #[.P t 0] h λv C=>Vl v λs' z v'=> ∃(I:cj->Nat->Nat->Int->ai->Prop)(M:cj->Nat->Nat->Int->ai->Nat),I none 0 0 0 C/\∀(i:cj)(O o:Nat)(t10:Int)(H:ai),I i O o t10 H->if(decide (t10<(z:Int)))then Bd t10 z/\aO s' λa=>xq H (a.add (toNat t10*1)) λt13=> ∃t17,Cc H t 0 (.map t17)/\∃t19,gP Tryz.prog 107 (.map t17) (.I t13) false H (.pointer t19)/\aO t19 λA=>aL.LD H A λL N P Q U W Z Y X a' b' c'=>aS H (.cells #[.I 0,.bool false,.U 0,.U 0,.string gi,.string gi,.Z,.U 0,.I 0,.U 0] 114) λb F=>aL.ST F (AA b 0) L N P Q U W Z Y X a' b' c' λq=>Hl q b 6 λf' e' d'=>Cl 50 #[.slice f' e' d'] q λt' G=> ∃y x w,t'=.slice y x w/\aE G (AA b 6) (.slice y x w) λr=>aL.LD r (AA b 0) λg' h' i' j' k' l' o' n' m' p' q' r'=>aS r (.cells #[.I g',.bool h',.U i',.U j',.string k',.string l',.slice o' n' m',.U p',.I q',.U r'] 114) λB J=>aV Tryz.prog (Builtin.append_ #[242,242] 242 #[.slice i O o,.slice (some (AA B 0)) 1 1]) J λu' u=> ∃p j T,u'=.slice p j T/\(I p j T (wrap .i64 (t10+1)) u/\M p j T (wrap .i64 (t10+1)) u<M i O o t10 H)else R (.slice i O o) H):ar Tryz.prog 160 #[.P t 0] h R:=aR (lq (lq (sq (lq (bq (.loop [(3,.one (.slice)),(10,.one (.int .i64))] (lq (sq (cq lf lf) (sq (bq (lq (lq ll))) lf)))))) ll))) Tryz.func160 K

end
section
open Go.jC
namespace eZ
open jc bR
variable {h h':ai} {t:Nat} {X:Ft}
structure Cp where
 num:Nat
 e:Ev
 d:List UInt8
 bX:Nat
 ses:Int
 dl:Nat
structure CV where
 num:Nat
 b:Nat
 e:Ev
 v:BV
 bX:Nat
 ses:Int
 dl:Nat
def CV.abs(x:CV):Cp:=⟨x.num,x.e,x.v.b,x.bX,x.ses,x.dl⟩
abbrev CV.at(h:ai)(b:Nat)(x:CV):Prop:=aL.at h b (x.num:Int) x.e.kH x.e.node x.e.gH x.e.host x.e.jD x.v.p x.v.b.length x.v.c (x.bX:Int) x.ses (x.dl:Int)
structure CF where
 L:List Cp
 next:Nat
 fw:Nat
 over:Nat
 gone:Nat
 E1:List E
 E2:List E
abbrev fR(n:Int):Value:=.int .i64 n
theorem TI:Am Tryz.prog 3 fR:=⟨λa b h=>db,λe a h=>db,by
 have H:Tryz.prog.underlying 3=some (.int .i64):=db
 exact⟨_,H,λa b=> .inr rfl⟩,λa=>by simp[Instr.sameBits]⟩
theorem mZ:mS Tryz.prog 107 fR (.pointer none):=mS.of 3 111 db TI db
abbrev CV.pair(x:CV):Int×Value:=((x.num:Int),.pointer (some ⟨x.b,0,none⟩))
structure Cm (h:ai) (t:Nat) (X:Ft) (s:CF) (m:Nat) (xs:List CV) (o:Nat) (q:Nat->Prop) (p:Nat) (r:Nat->Prop) (g:Nat->Option Nat):Prop where
 cR:h[t]? =some (.cells #[.map (some m),.int .i64 (s.next:Int),.int .i64 (s.fw:Int),.int .i64 (s.over:Int),.int .i64 (s.gone:Int),.pointer (some ⟨o,0,none⟩),.pointer (some ⟨p,0,none⟩)] 110 (0,0))
 map:iR h m fR (xs.map CV.pair)
 DL: ∀x∈xs,x.at h x.b
 abs:xs.map CV.abs=s.L
 BN: ∀x∈xs,x.v.ok h X.D
 FG:Al h o q s.E1
 EG:Al h p r s.E2
 l0:g t=some 0
 l1:g m=some 1
 l2: ∀c,q c->g c=some 2
 l3: ∀c,r c->g c=some 3
 l4: ∀x∈xs,g x.b=some (4+x.num)
 mm: ∀c,X.M c↔g c≠none
 dd: ∀c,X.D c->g c=none/\c<h.size
 CN: ∀c,g c≠none->c<h.size
 so:(xs.map CV.num).Pairwise (· < ·)
def Ct(h:ai)(t:Nat)(X:Ft)(s:CF):Prop:= ∃m xs o q p r g,Cm h t X s m xs o q p r g
variable {s s' : CF} {m o p : Nat} {xs : List CV} {q r B w : Nat → Prop} {g : Nat → Option Nat}
structure Kept (h':ai) (t:Nat) (X:Ft) (s:CF) (m:Nat) (xs:List CV) (o:Nat) (q:Nat->Prop) (p:Nat) (r:Nat->Prop) (k:Nat):Prop where
 cR:k≠0->h'[t]? =some (.cells #[.map (some m),.int .i64 (s.next:Int),.int .i64 (s.fw:Int),.int .i64 (s.over:Int),.int .i64 (s.gone:Int),.pointer (some ⟨o,0,none⟩),.pointer (some ⟨p,0,none⟩)] 110 (0,0))
 map:k≠1->iR h' m fR (xs.map CV.pair)
 FG:k≠2->Al h' o q s.E1
 EG:k≠3->Al h' p r s.E2
 DL: ∀x∈xs,k≠4+x.num->x.at h' x.b
 BN: ∀x∈xs,x.v.ok h' X.D
theorem Cm.kO{Q:Nat->Prop}{k:Nat}(H:Cm h t X s m xs o q p r g)(f:Fr Q h h')(i: ∀c,Q c->c<h.size->g c=some k):Kept h' t X s m xs o q p r k:=by
 have no: ∀{c j:Nat},c<h.size->g c=some j->k≠j->¬Q c:=λa l hk d=>hk (by have:=i _ d a;rw[l]at this;exact(bn this).symm)
 refine⟨λhk=>f.get H.cR (no (aF H.cR) H.l0 hk),λhk=>H.map.frame f (no H.map.lt H.l1 hk),λhk=> ?_,λhk=> ?_,λx b hk=>f.get (H.DL x b) (no (aF (H.DL x b)) (H.l4 x b) hk),λx b=> ?_⟩
 .exact H.FG.frame f (λc a=>no (H.FG.lt a) (H.l2 c a) hk)
 .exact H.EG.frame f (λc a=>no (H.EG.lt a) (H.l3 c a) hk)
 .refine(H.BN x b).frame f (λc a d=> ?_);have:=H.dd c a;have e:=i c d this.2;rw[this.1]at e;cases e
theorem Cm.frame{Q:Nat->Prop}(H:Cm h t X s m xs o q p r g)(f:Fr Q h h')(d: ∀y,X.M y\/X.D y->¬Q y):Cm h' t X s m xs o q p r g:=by
 have no: ∀{c j:Nat},g c=some j->¬Q c:=λe=>d _ (.inl ((H.mm _).2 (by rw[e];simp)))
 exact⟨f.get H.cR (no H.l0),H.map.frame f (no H.l1),λx b=>f.get (H.DL x b) (no (H.l4 x b)),H.abs,λx b=>(H.BN x b).frame f (λc a=>d c (.inr a)),
  H.FG.frame f (λc a=>no (H.l2 c a)),H.EG.frame f (λc a=>no (H.l3 c a)),H.l0,H.l1,H.l2,H.l3,H.l4,H.mm,λc a=>⟨(H.dd c a).1,cy (H.dd c a).2 f.1⟩,λc a=>cy (H.CN c a) f.1,H.so⟩
theorem Cm.on(H:Cm h t X s m xs o q p r g)(f:Fr No h h'):Cm h' t X s m xs o q p r g:=H.frame f (λ_ _=>id)
theorem Ct.frame{Q:Nat->Prop}(H:Ct h t X s)(f:Fr Q h h')(a: ∀y,X.M y\/X.D y->¬Q y):Ct h' t X s:=by
 obtain⟨m,xs,o,q,p,r,g,H⟩:=H;exact⟨m,xs,o,q,p,r,g,H.frame f a⟩
theorem Ct.on(H:Ct h t X s)(f:Fr No h h'):Ct h' t X s:=H.frame f (λ_ _=>id)
theorem Ct.lt(H:Ct h t X s)(y:Nat)(hy:X.M y\/X.D y):y<h.size:=by
 obtain⟨m,xs,o,q,p,r,g,H⟩:=H;rcases hy with hy|hy
 .exact H.CN y ((H.mm y).1 hy)
 .exact(H.dd y hy).2
theorem Cm.step{Q:Nat->Prop}{k:Nat}(H:Cm h t X s m xs o q p r g)(f:Fr Q h h')(d: ∀c,Q c->c<h.size->g c=some k):bC X h X h':=
 bC.sC (f.mono λc b a=>(H.mm c).2 (by rw[d c a b];simp))
theorem Cm.field(H:Cm h t X s m xs o q p r g)(k:s'.L=s.L)(i:s'.E1=s.E1)(j:s'.E2=s.E2)(l:h'[t]? =some (.cells #[.map (some m),.I (s'.next:Int),.I (s'.fw:Int),.I (s'.over:Int),.I (s'.gone:Int),.P o 0,.P p 0] 110 (0,0)))(d:h'.size=h.size)(u: ∀x,x≠t->h'[x]? =h[x]?):Cm h' t X s' m xs o q p r g/\bC X h X h':=by
 have f:Fr (λc=>c=t) h h':=⟨ae,λc _ n=>u c n⟩;have b: ∀c,c=t->c<h.size->g c=some 0:=λc e _=>by rw[e];exact H.l0
 have K:=H.kO f b;refine⟨⟨l,K.map ae,λx v=>K.DL x v ae,H.abs.trans k.symm,K.BN,by rw[i];exact K.FG ae,by rw[j];exact K.EG ae,H.l0,H.l1,H.l2,H.l3,H.l4,H.mm,λc a=>by rw[d];exact H.dd c a,λc a=>by rw[d];exact H.CN c a,H.so⟩,H.step f b⟩
def LC(g:Nat->Option Nat)(S:Nat->Prop)[DecidablePred S](k:Nat):Nat->Option Nat:=λc=>if S c then some k else g c
theorem Cm.FH{u:List E}(H:Cm h t X s m xs o q p r g)(A:Al h' p w u)(n: ∀c,w c->r c\/h.size<=c)(f:Fr r h h')(C:s'.L=s.L)(v:s'.E1=s.E1)(y:s'.E2=u)(i:s'.next=s.next/\s'.fw=s.fw/\s'.over=s.over/\s'.gone=s.gone):
  ∃k l,Cm h' t k s' m xs o q p w l/\bC X h k h'/\∀c,k.M c->X.M c\/w c:=by
 classical
 have F: ∀c,r c->c<h.size->g c=some 3:=λc a _=>H.l3 c a
 have K:=H.kO f F;have z:=f.1
 let l:=LC g w 3
 have hN: ∀{c j:Nat},g c=some j->j≠3->l c=some j:=fun {c j} d D=>by
  show(if w c then some 3 else g c)=some j;rw[ag]
  .exact d
  .intro a;rcases n c a with h3|h3
   .rw[H.l3 c h3]at d;exact D (bn d).symm
   .have:=H.CN c (by rw[d];simp);omega
 have L: ∀c,l c≠none->g c≠none\/w c:=λc a=>by
  by_cases b:w c
  .exact .inr b
  .refine .inl ?_;have e:l c=g c:=ag b;rwa[e]at a
 have N: ∀c,g c≠none->l c≠none:=λc a=>by
  by_cases b:w c
  .have e:l c=some 3:=af b;rw[e];simp
  .have e:l c=g c:=ag b;rwa[e]
 have st:bC X h ⟨λc=>l c≠none,X.D⟩ h':=by
  refine⟨f.mono (λc a b=>(H.mm c).2 (by rw[H.l3 c b];simp)),λc a=> ?_,λc a=> .inl a,λc a=>a⟩;rcases L c a with h3|h3
  .exact .inl ((H.mm c).2 h3)
  .rcases n c h3 with h4|h4
   .exact .inl ((H.mm c).2 (by rw[H.l3 c h4];simp))
   .exact .inr h4
 refine⟨⟨λc=>l c≠none,X.D⟩,l,⟨?_,K.map ae,λx b=>K.DL x b ae,H.abs.trans C.symm,K.BN,by rw[v];exact K.FG ae,by rw[y];exact A,hN H.l0 ae,hN H.l1 ae,λc a=>hN (H.l2 c a) ae,λc a=>af a,λx b=>hN (H.l4 x b) ae,λc=>dU,λc a=> ?_,λc a=> ?_,H.so⟩,st,λc a=>(L c a).imp (λh=>(H.mm c).2 h) id⟩
 .rw[i.1,i.2.1,i.2.2.1,i.2.2.2];exact K.cR ae
 .have:=H.dd c a;refine⟨?_,ae⟩;show(if w c then some 3 else g c)=none;rw[ag]
  .exact this.1
  .intro b;rcases n c b with h3|h3
   .rw[H.l3 c h3]at this;cases this.1
   .omega
 .rcases L c a with h3|h3
  .have:=H.CN c h3;omega
  .exact A.lt h3
theorem Cm.FI{u:List E}(H:Cm h t X s m xs o q p r g)(A:Al h' o B u)(n: ∀c,B c->q c\/h.size<=c)(f:Fr q h h')(C:s'.L=s.L)(v:s'.E1=u)(y:s'.E2=s.E2)(i:s'.next=s.next/\s'.fw=s.fw/\s'.over=s.over/\s'.gone=s.gone):
  ∃k l,Cm h' t k s' m xs o B p r l/\bC X h k h'/\∀c,k.M c->X.M c\/B c:=by
 classical
 have F: ∀c,q c->c<h.size->g c=some 2:=λc a _=>H.l2 c a
 have K:=H.kO f F;have z:=f.1
 let l:=LC g B 2
 have hN: ∀{c j:Nat},g c=some j->j≠2->l c=some j:=fun {c j} d D=>by
  show(if B c then some 2 else g c)=some j;rw[ag]
  .exact d
  .intro a;rcases n c a with h3|h3
   .rw[H.l2 c h3]at d;exact D (bn d).symm
   .have:=H.CN c (by rw[d];simp);omega
 have L: ∀c,l c≠none->g c≠none\/B c:=λc a=>by
  by_cases b:B c
  .exact .inr b
  .refine .inl ?_;have e:l c=g c:=ag b;rwa[e]at a
 have st:bC X h ⟨λc=>l c≠none,X.D⟩ h':=by
  refine⟨f.mono (λc a b=>(H.mm c).2 (by rw[H.l2 c b];simp)),λc a=> ?_,λc a=> .inl a,λc a=>a⟩;rcases L c a with h3|h3
  .exact .inl ((H.mm c).2 h3)
  .rcases n c h3 with h4|h4
   .exact .inl ((H.mm c).2 (by rw[H.l2 c h4];simp))
   .exact .inr h4
 refine⟨⟨λc=>l c≠none,X.D⟩,l,⟨?_,K.map ae,λx b=>K.DL x b ae,H.abs.trans C.symm,K.BN,by rw[v];exact A,by rw[y];exact K.EG ae,hN H.l0 ae,hN H.l1 ae,λc a=>af a,λc a=>hN (H.l3 c a) ae,λx b=>hN (H.l4 x b) ae,λc=>dU,λc a=> ?_,λc a=> ?_,H.so⟩,st,λc a=>(L c a).imp (λh=>(H.mm c).2 h) id⟩
 .rw[i.1,i.2.1,i.2.2.1,i.2.2.2];exact K.cR ae
 .have:=H.dd c a;refine⟨?_,ae⟩;show(if B c then some 2 else g c)=none;rw[ag]
  .exact this.1
  .intro b;rcases n c b with h3|h3
   .rw[H.l2 c h3]at this;cases this.1
   .omega
 .rcases L c a with h3|h3
  .have:=H.CN c h3;omega
  .exact A.lt h3
theorem Cm.del{n:Int}(H:Cm h t X s m xs o q p r g)(M:iR h' m fR (uh (xs.map CV.pair) n))(j:h'.size=h.size)(v: ∀c,c≠m->h'[c]? =h[c]?)(u:s'.L=s.L.filter (λx=> !decide ((x.num:Int)=n)))(k:s'.E1=s.E1)(l:s'.E2=s.E2)(b:s'.next=s.next/\s'.fw=s.fw/\s'.over=s.over/\s'.gone=s.gone):
  Cm h' t X s' m (xs.filter (λx=> !decide ((x.num:Int)=n))) o q p r g/\bC X h X h':=by
 have f:Fr (λc=>c=m) h h':=⟨ae,λc _ b=>v c b⟩;have i: ∀c,c=m->c<h.size->g c=some 1:=λc e _=>by rw[e];exact H.l1
 have K:=H.kO f i;have sub: ∀x∈xs.filter (λx=> !decide ((x.num:Int)=n)),x∈xs:=λx a=>(aW.1 a).1
 refine⟨⟨?_,?_,λx a=>K.DL x (sub x a) ae,?_,λx a=>K.BN x (sub x a),by rw[k];exact K.FG ae,by rw[l];exact K.EG ae,H.l0,H.l1,H.l2,H.l3,λx a=>H.l4 x (sub x a),H.mm,λc d=>by rw[j];exact H.dd c d,λc d=>by rw[j];exact H.CN c d,H.so.sublist (cA.map _)⟩,H.step f i⟩
 .rw[b.1,b.2.1,b.2.2.1,b.2.2.2];exact K.cR ae
 .unfold uh at M;rw[dk]at M;exact M
 .rw[u,<-H.abs,dk];rfl
theorem Cm.change{x y:CV}(H:Cm h t X s m xs o q p r g)(d:x∈xs)(k:y.b=x.b)(C:y.num=x.num)(P:y.v=x.v)(Q:y.at h' x.b)(E:h'.size=h.size)(N: ∀c,c≠x.b->h'[c]? =h[c]?)(I:s'.L=s.L.map (λz=>if z.num=x.num then y.abs else z))(F:s'.E1=s.E1)(G:s'.E2=s.E2)(b:s'.next=s.next/\s'.fw=s.fw/\s'.over=s.over/\s'.gone=s.gone):
  Cm h' t X s' m (xs.map (λz=>if z.num=x.num then y else z)) o q p r g/\bC X h X h':=by
 have f:Fr (λc=>c=x.b) h h':=⟨ae,λc _ b=>N c b⟩;have D: ∀c,c=x.b->c<h.size->g c=some (4+x.num):=λc e _=>by rw[e];exact H.l4 x d
 have K:=H.kO f D;have M: ∀z∈xs.map (λz=>if z.num=x.num then y else z),(z=y)\/(z∈xs/\z.num≠x.num):=λz a=>by
  obtain⟨u,O,rfl⟩:=bg.1 a;by_cases e:u.num=x.num
  .rw[af e];exact .inl rfl
  .rw[ag e];exact .inr ⟨O,e⟩
 have R:(xs.map (λz=>if z.num=x.num then y else z)).map CV.pair=xs.map CV.pair:=by
  rw[dH];refine dS λz a=> ?_
  show CV.pair (if z.num=x.num then y else z)=z.pair;by_cases e:z.num=x.num
  .rw[af e];have:z=x:=by
    obtain⟨i,v⟩:=bx a;obtain⟨j,A⟩:=bx d;have L:(xs.map CV.num).Nodup:=H.so.imp (λh=>Nat.ne_of_lt h);have J:=(aC.1 v).1;have:=(dR (l:=xs.map CV.num) (i:=i) (j:=j) (cD J) L).1 (by rw[aM,aM,v,A];simp[e]);subst this;rw[v]at A;exact bn A
   subst this;unfold CV.pair;rw[C,k]
  .rw[ag e]
 refine⟨⟨?_,?_,λz a=> ?_,?_,λz a=> ?_,by rw[F];exact K.FG ae,by rw[G];exact K.EG ae,H.l0,H.l1,H.l2,H.l3,λz a=> ?_,H.mm,λc n=>by rw[E];exact H.dd c n,λc n=>by rw[E];exact H.CN c n,?_⟩,H.step f D⟩
 .rw[b.1,b.2.1,b.2.2.1,b.2.2.2];exact K.cR ae
 .rw[R];exact K.map ae
 .rcases M z a with rfl|⟨a,e⟩
  .rw[k];exact Q
  .exact K.DL z a ae
 .rw[I,<-H.abs,dH,dH];refine dS λz _=> ?_
  show CV.abs (if z.num=x.num then y else z)=if z.num=x.num then y.abs else z.abs
  split<;>rfl
 .rcases M z a with rfl|⟨a,_⟩
  .rw[P];exact K.BN x d
  .exact K.BN z a
 .rcases M z a with rfl|⟨a,_⟩
  .rw[k,C];exact H.l4 x d
  .exact H.l4 z a
 .have:(xs.map (λz=>if z.num=x.num then y else z)).map CV.num=xs.map CV.num:=by
   rw[dH];refine dS λz _=> ?_
   show CV.num (if z.num=x.num then y else z)=z.num;split
   .rename_i e;rw[C,e]
   .rfl
  rw[this];exact H.so
theorem Cm.add{y:CV}{f i:ai}(H:Cm h t X s m xs o q p r g)(f1:Fr No h f)(C:y.at f y.b)(W:h.size<=y.b)(J:Row f y.v.p (bc y.v.b))(I:y.v.b.length<=y.v.c)(n: ∀c,aP y.v.p c->h.size<=c/\c≠y.b/\c<f.size)(A: ∀x∈xs,x.num<y.num)(M:iR i m fR (Db (xs.map CV.pair) (y.num:Int) (.P y.b 0)))(V:i.size=f.size)(Q: ∀c,c≠m->i[c]? =f[c]?)(F:s'.L=s.L++ [y.abs])(e1:s'.E1=s.E1)(e2:s'.E2=s.E2)(k:s'.next=s.next/\s'.fw=s.fw/\s'.over=s.over/\s'.gone=s.gone):
  ∃u l,Cm i t u s' m (xs++ [y]) o q p r l/\bC X h u i:=by
 classical
 have z1:=f1.1;have D:=H.on f1;have f2:Fr (λc=>c=m) f i:=⟨ae,λc _ k=>Q c k⟩;have R: ∀c,c=m->c<f.size->g c=some 1:=λc e _=>by rw[e];exact H.l1
 have K:=D.kO f2 R;have Z:=aF C
 let l:=LC g (λc=>c=y.b) (4+y.num)
 have L: ∀c,c≠y.b->l c=g c:=λc d=>ag d
 have S:l y.b=some (4+y.num):=af rfl;have T: ∀{c:Nat},g c≠none->c≠y.b:=fun {c} d e=>by have:=H.CN c d;omega
 have hN: ∀{c j:Nat},g c=some j->l c=some j:=fun {c j} z=>by rw[L c (T (by rw[z];simp))];exact z
 let D':=λc=>X.D c\/(y.v.b≠ []/\aP y.v.p c)
 have Y:y.b≠m:=λe=>by have:=H.map.lt;omega
 have E: ∀c,D' c->l c=none/\c<i.size:=λc d=>by
  rcases d with d|⟨_,d⟩
  .have:=H.dd c d;rw[L c ae];exact⟨this.1,ae⟩
  .have:=n c d;rw[L c this.2.1];refine⟨?_,ae⟩;cases e:g c with
   |none=>rfl
   |some j=>have:=H.CN c (by rw[e];simp);omega
 refine⟨⟨λc=>l c≠none,D'⟩,l,⟨?_,?_,λx hx=> ?_,?_,λx hx=> ?_,by rw[e1];exact K.FG ae,by rw[e2];exact K.EG ae,hN H.l0,hN H.l1,λc d=>hN (H.l2 c d),λc d=>hN (H.l3 c d),λx hx=> ?_,λc=>dU,E,λc d=> ?_,?_⟩,?_⟩
 .rw[k.1,k.2.1,k.2.2.1,k.2.2.2];exact K.cR ae
 .refine M.perm ?_;unfold Db;rw[qj (λe N=>by obtain⟨x,hx,rfl⟩:=bg.1 N;have:=A x hx;show¬((x.num:Int)=(y.num:Int));omega),bf];exact(List.perm_append_comm (l₁:= [CV.pair y]) (l₂:=xs.map CV.pair))
 .rcases bJ.1 hx with hx|hx
  .exact K.DL x hx ae
  .obtain rfl:=bH.1 hx;exact f2.get C Y
 .rw[F,<-H.abs,bf];rfl
 .rcases bJ.1 hx with hx|hx
  .exact(K.BN x hx).mono (λc d=> .inl d)
  .obtain rfl:=bH.1 hx;refine⟨J.frame f2 (λa e O=> ?_),λP c d=> .inr ⟨P,d⟩,I⟩;have f:=(n a.block ⟨a,e,rfl⟩).1;have i:=H.map.lt;have U:a.block=m:=O;omega
 .rcases bJ.1 hx with hx|hx
  .exact hN (H.l4 x hx)
  .obtain rfl:=bH.1 hx;exact S
 .by_cases e:c=y.b
  .subst e;omega
  .rw[L c e]at d;have:=H.CN c d;omega
 .rw[bf,List.pairwise_append];refine⟨H.so,bM,λa G b v=> ?_⟩;obtain⟨x,hx,rfl⟩:=bg.1 G;simp at v;subst v;exact A x hx
 .refine⟨?_,λc d=> ?_,λc d=> ?_,λc d=> .inl d⟩
  .have f12:Fr (λc=>c=m) h i:=Fr.no f1 f2;exact f12.mono (λc _ e=>(H.mm c).2 (by rw[e,H.l1];simp))
  .by_cases e:c=y.b
   .exact .inr ae
   .have d:l c≠none:=d;rw[L c e]at d;exact .inl ((H.mm c).2 d)
  .rcases d with d|⟨_,d⟩
   .exact .inl d
   .exact .inr (n c d).1
end eZ
end
end Go.Proofs.YtlenamcfacpheaaGreatDoor
namespace Go.Proofs
open Go.Den
open IntKind (wrap)
open Int (toNat)
section
open Go.Shelf
def Tryz.Jn:Go.Shelf.Ren:=⟨fun|5=>134|8=>183|7=>185|19=>222|20=>223|10=>224|11=>225|12=>226|13=>227|14=>228|15=>229|16=>230|17=>231|18=>232|30=>272|31=>268|32=>269|33=>273|34=>274|35=>275|40=>306|n=>n,fun|23=>105|25=>3|3=>3|32=>211|22=>105|0=>0|44=>315|46=>27|4=>4|36=>309|35=>308|41=>253|5=>5|9=>9|53=>366|57=>369|63=>400|64=>401|n=>n,fun|n=>n⟩
theorem Tryz.Pj : Go.Proofs.SlLaysM.n5 Tryz.prog Tryz.Jn := {
  mixed := by kernel_rfl
  f5 := ⟨Tryz.f134.name, by decide, Tryz.func134.trans (congrArg some (by kernel_rfl))⟩
  f7 := ⟨Tryz.f185.name, by decide, Tryz.func185.trans (congrArg some (by kernel_rfl))⟩
  f8 := Tryz.func183.trans (congrArg some (by kernel_rfl))
  f10 := ⟨Tryz.f224.name, by decide, Tryz.func224.trans (congrArg some (by kernel_rfl))⟩
  f11 := ⟨Tryz.f225.name, by decide, Tryz.func225.trans (congrArg some (by kernel_rfl))⟩
  f12 := ⟨Tryz.f226.name, by decide, Tryz.func226.trans (congrArg some (by kernel_rfl))⟩
  f13 := ⟨Tryz.f227.name, by decide, Tryz.func227.trans (congrArg some (by kernel_rfl))⟩
  f14 := ⟨Tryz.f228.name, by decide, Tryz.func228.trans (congrArg some (by kernel_rfl))⟩
  f15 := ⟨Tryz.f229.name, by decide, Tryz.func229.trans (congrArg some (by kernel_rfl))⟩
  f16 := ⟨Tryz.f230.name, by decide, Tryz.func230.trans (congrArg some (by kernel_rfl))⟩
  f17 := ⟨Tryz.f231.name, by decide, Tryz.func231.trans (congrArg some (by kernel_rfl))⟩
  f18 := ⟨Tryz.f232.name, by decide, Tryz.func232.trans (congrArg some (by kernel_rfl))⟩
  f19 := Tryz.func222.trans (congrArg some (by kernel_rfl))
  f20 := Tryz.func223.trans (congrArg some (by kernel_rfl))
  f30 := ⟨Tryz.f272.name, by decide, Tryz.func272.trans (congrArg some (by kernel_rfl))⟩
  f31 := Tryz.func268.trans (congrArg some (by kernel_rfl))
  f32 := Tryz.func269.trans (congrArg some (by kernel_rfl))
  f33 := ⟨Tryz.f273.name, by decide, Tryz.func273.trans (congrArg some (by kernel_rfl))⟩
  f34 := ⟨Tryz.f274.name, by decide, Tryz.func274.trans (congrArg some (by kernel_rfl))⟩
  f35 := ⟨Tryz.f275.name, by decide, Tryz.func275.trans (congrArg some (by kernel_rfl))⟩
  f40 := ⟨Tryz.f306.name, by decide, Tryz.func306.trans (congrArg some (by kernel_rfl))⟩
  t0 := Tryz.underlying0
  a0 := Tryz.isAgg0
  z0 := Tryz.sizeOf0
  v0 := Tryz.zeroValue0
  t3 := Tryz.underlying3
  a3 := Tryz.isAgg3
  z3 := Tryz.sizeOf3
  v3 := Tryz.zeroValue3
  t4 := Tryz.underlying4
  a4 := Tryz.isAgg4
  z4 := Tryz.sizeOf4
  v4 := Tryz.zeroValue4
  t5 := Tryz.underlying5
  a5 := Tryz.isAgg5
  z5 := Tryz.sizeOf5
  v5 := Tryz.zeroValue5
  t9 := Tryz.underlying9
  a9 := Tryz.isAgg9
  z9 := Tryz.sizeOf9
  v9 := Tryz.zeroValue9
  t22 := Tryz.underlying105
  a22 := Tryz.isAgg105
  z22 := Tryz.sizeOf105
  v22 := Tryz.zeroValue105
  t23 := Tryz.underlying105
  a23 := Tryz.isAgg105
  z23 := Tryz.sizeOf105
  v23 := Tryz.zeroValue105
  t25 := Tryz.underlying3
  a25 := Tryz.isAgg3
  z25 := Tryz.sizeOf3
  v25 := Tryz.zeroValue3
  t32 := Tryz.underlying211
  a32 := Tryz.isAgg211
  z32 := Tryz.sizeOf211
  v32 := Tryz.zeroValue211
  t35 := Tryz.underlying308
  a35 := Tryz.isAgg308
  z35 := Tryz.sizeOf308
  v35 := Tryz.zeroValue308
  t36 := Tryz.underlying309
  a36 := Tryz.isAgg309
  z36 := Tryz.sizeOf309
  v36 := Tryz.zeroValue309
  t41 := Tryz.underlying253
  a41 := Tryz.isAgg253
  z41 := Tryz.sizeOf253
  v41 := Tryz.zeroValue253
  t44 := Tryz.underlying315
  a44 := Tryz.isAgg315
  z44 := Tryz.sizeOf315
  v44 := Tryz.zeroValue315
  t46 := Tryz.underlying27
  a46 := Tryz.isAgg27
  z46 := Tryz.sizeOf27
  v46 := Tryz.zeroValue27
  t53 := Tryz.underlying366
  a53 := Tryz.isAgg366
  z53 := Tryz.sizeOf366
  v53 := Tryz.zeroValue366
  t57 := Tryz.underlying369
  a57 := Tryz.isAgg369
  z57 := Tryz.sizeOf369
  v57 := Tryz.zeroValue369
  t63 := Tryz.underlying400
  a63 := Tryz.isAgg400
  z63 := Tryz.sizeOf400
  v63 := Tryz.zeroValue400
  t64 := Tryz.underlying401
  a64 := Tryz.isAgg401
  z64 := Tryz.sizeOf401
  v64 := Tryz.zeroValue401 }

end
end Go.Proofs
namespace Go.Proofs.YtlenamcfacpheaaGreatDoor
open Go.Den
open IntKind (wrap)
open Int (toNat)
section
open Go.Sort
namespace Vd
variable {h:ai} {R:fx} {p:cj} {n c:Nat} {xs:List Int}
abbrev iv(x:Int):Value:=.int .i64 x
theorem NZ(o:fy h p n c 1 (xs.map iv))(D:n=xs.length)(nd:xs.Nodup)(A:n<=60000)(hk: ∀h' (zs:List Int),fy h' p n c 1 (zs.map iv)->zs.Perm xs->zs.Pairwise (· < ·)->Fr (aP p) h h'->R (.tuple #[]) h'):
  ar Tryz.prog 134 #[.slice p n c] h R:=by
 subst D;intro w m;cases o with
 |nil l B g z=>
  obtain rfl:=List.eq_nil_of_length_eq_zero B;refine(AnyM.slices_Sort_int_none Tryz.Pj p c w).mono ?_;rintro e w' ⟨rfl,rfl⟩;exact⟨_,rfl,hk _ [] (by rw[m];exact .nil l rfl g rfl) (.refl _) .nil (by rw[m];exact Fr.refl _ _),fc.refl _⟩
 |row b off C t l d f g s z=>
  subst l;subst m;have u: ∀(zs:List Int)(j:Nat),j<zs.length->zs.toArray[j]! =zs.getD j 0:=λzs j H=>by
   simp[getElem!_pos,H]
  refine(AnyM.slices_Sort_int Tryz.Pj b off c xs w (λj H=> ?_) (aF d) ae).mono ?_
  .have H:j<xs.length:=by simpa using H
   refine⟨?_,by rw[tT];exact me d⟩;rw[j0,jX d,u xs j H];exact z j _ (by rw[aM,aj H,aX,aj H];rfl)
  .rintro e w' ⟨rfl,k,O,rfl⟩;have pm:=List.mergeSort_perm xs λx y=>decide (x<=y)
   have so:(xs.mergeSort λx y=>decide (x<=y)).Pairwise (· < ·):=by
    have s1:=List.pairwise_mergeSort (le:=λ(x y:Int)=>decide (x<=y)) (λa b c f s=>by simp at f s⊢;omega) (λa b=>by simp;omega) xs;have S:(xs.mergeSort λx y=>decide (x<=y)).Nodup:=pm.nodup_iff.2 nd;exact(s1.and S).imp fun {a b} h=>by have:=aQ h.1;have:=h.2;omega
   generalize (xs.mergeSort λx y=>decide (x<=y))=zs at pm so⊢;have J:zs.length=xs.length:=pm.length_eq;have G: ∀x,x<w.heap.size->x≠b->(w.heap.modify b (onCells (putCells (Value.int .i64) off zs.toArray))++O)[x]? =w.heap[x]? :=λx r E=>by
    rw[dv (cD r),dE,ag (λe=>E e.symm)]
   have F:(w.heap.modify b (onCells (putCells (Value.int .i64) off zs.toArray))++O)[b]? =some (.cells (putCells (Value.int .i64) off zs.toArray C) t (0,0)):=by
    rw[dv (cD (aF d)),dE,af rfl,d];rfl
   refine⟨_,rfl,hk _ zs (.row b off _ t rfl F f (by unfold putCells;rw[Array.size_mapIdx];exact g) (by simp[J]) λj v H=> ?_) pm so ?_,⟨rfl,rfl,rfl⟩⟩
   .rw[aM]at H;have i:j<zs.length:=by
     rcases Nat.lt_or_ge j zs.length with q|q
     .exact q
     .rw[dh q]at H;cases H
    rw[aj i]at H;obtain rfl:=bn H;unfold putCells;have I:off+j<C.size:=ae
    rw[Array.getElem?_mapIdx,Array.getElem?_eq_getElem I,cO,af ⟨ae,by simp;omega⟩,show off+j - off=j by omega,u zs j i,aX,aj i];rfl
   .refine⟨by show _<=(w.heap.modify b _++O).size;simp,λx r A=>G x r (λe=>A ⟨_,rfl,e.symm⟩)⟩

end Vd
end
section
open Go.jC
namespace eZ
open jc bR
variable {h h':ai} {R:fx} {t:Nat} {X:Ft} {s:CF} {m A f:Nat} {xs:List CV} {S d:Nat→Prop} {L:Nat→Option Nat} {p:cj} {n c:Nat}
theorem VF:Tryz.prog.underlying 105=some (.slice 3):=db
theorem fI(H:Cm h t X s m xs A S f d L)(hk:R (.bool true) h):ar Tryz.prog 47 #[.P t 0] h R:=tj.walk ⟨_,aw H.cR,hk⟩
def jS(xs:List CV):List Int:=xs.map (λx=>(x.num:Int))
theorem wX(H:Cm h t X s m xs A S f d L):(jS xs).Pairwise (· < ·):=by
 have:=H.so;rw[dY]at this;unfold jS;rw[dY];exact this.imp (λh=>ae)
theorem yf(H:Cm h t X s m xs A S f d L)(hl:xs.length<=60000)(hk: ∀h' P C,fy h' P xs.length C 1 ((jS xs).map fR)->(∀y,aP P y->h.size<=y)->Fr No h h'->R (.slice P xs.length C) h'):
  ar Tryz.prog 68 #[.P t 0] h R:=by
 refine pO.walk (fI H ⟨_,rfl,aK.of λa' M=> ?_⟩);rw[af rfl];refine⟨_,aw H.cR,EU mZ H.map λit J e1 I f1=>⟨_,rfl,?_⟩⟩;refine⟨λop o O g=> ∃ds:List (Int×Value),o=ds.length/\fy g op o O 1 ((ds.map (·.1)).map fR)/\(∀y,aP op y->h.size<=y/\y≠it)/\Iter g it m fR (xs.map CV.pair) ds/\Fr No h g,λ_ o _ _=>xs.length - o,
  ⟨[],rfl,.nil rfl rfl rfl rfl,(λy ⟨a,e,_⟩=>by cases e),I,f1⟩,?_⟩
 rintro op o O g ⟨ds,rfl,B,j,k,q⟩;have N:=k.le;rw[aJ]at N;refine IU k (λr=> .inl ⟨rfl,?_⟩) (λa v G hm c' I s1 o1=> .inr ⟨_,_,rfl,?_⟩)
 .subst M;dsimp only;have u:(ds.map (·.1)).Perm (jS xs):=by
   have:=r.map (·.1);rw[dH]at this;exact this
  have so:=wX H;have nd:(ds.map (·.1)).Nodup:=u.nodup_iff.2 (so.imp (λh=>ae));have Q:ds.length=xs.length:=by rw[r.length_eq,aJ]
  refine Vd.NZ B (by rw[aJ]) nd ae λK zs z p3 s3 f3=>⟨rfl,?_⟩
  have:zs=jS xs:=List.Perm.eq_of_pairwise (le:=(· < ·)) (λa b _ _ J h2=>ae) s3 so (p3.trans u);subst this;rw[Q]at z⊢;exact hk K op O z (λy i=>(j y i).1) (q.fresh f3 (λy i=>(j y i).1))
 .refine EV I ⟨_,_,rfl,_,rfl,cC ?_⟩;have f3:Fr No G (G.push (.cells #[.I a] 3)):=Fr.push _ _;have D:Row (G.push (.cells #[.I a] 3)) (some (AA G.size 0)) [fR a]:=jq (cs:= [fR a]);have z3:(G.push (.cells #[.I a] 3)).size=G.size+1:=dN _;generalize G.push (.cells #[.I a] 3)=g3 at f3 D z3⊢;have l:Fr (λy=>y=it) g G:=⟨ae,λy _ T=>o1 y T⟩;have Z:=(B.frame l (λy i e=>(j y i).2 e)).frame f3 (λ_ _=>id);have zf:=f1.1;have F:Fr No h G:=q.fresh l (λy e=>ae);have E:=F.tt f3;have d':it<G.size:=by
   obtain⟨_,_,_,_,_,_,V,_⟩:=I;exact aF V
  refine dO (cs:=(ds.map (·.1)).map fR) (ds:= [fR a]) tI VF Z D rfl (λv w=>by simp at w;subst w;rfl) ae ae λp4 c4 g4 Y _ f4 W=>⟨_,_,_,rfl,?_⟩
  have U: ∀y,aP p4 y->h.size<=y/\y≠it:=by
   intro y i;rcases W y i with h5|h5
   .exact j y h5
   .have:=F.1;exact⟨ae,ae⟩
  refine⟨⟨ds++ [(a,v)],bM,?_,U,?_,E.fresh f4 (λy i=>(j y i).1)⟩,?_⟩
  .rw[bf,bf];exact Y
  .have b':m<h.size:=H.map.lt;exact(I.frame f3 id id).frame f4 (λi=>(j it i).2 rfl) (λi=>cf ((j m i).1))
  .have:=I.le;rw[aA,aJ,dy]at this;show xs.length - (ds.length+1)<xs.length - ds.length;omega
theorem look(H:Cm h t X s m xs A S f d L){x:CV}(a:x∈xs):gP Tryz.prog 107 (.map (some m)) (.I (x.num:Int)) false h (.P x.b 0):=by
 have:=GU mZ H.map (x.num:Int);have e:qE (xs.map CV.pair) (x.num:Int)=some (.P x.b 0):=(Ap H.map.nodup).2 (bg.2 ⟨x,a,rfl⟩);rw[e]at this;exact this
theorem N0(H:Cm h t X s m xs A S f d L){n:Int}(b: ∀x∈xs,(x.num:Int)≠n):gP Tryz.prog 107 (.map (some m)) (.I n) false h (.pointer none):=by
 have:=GU mZ H.map n;have e:qE (xs.map CV.pair) n=none:=Ao.2 (λe a=>by obtain⟨x,g,rfl⟩:=bg.1 a;exact b x g);rw[e]at this;exact this
structure Env (h:ai) (t:Nat) (m:Nat) (xs:List CV) (c0 c1:Nat) (x:Ev):Prop where
 b0:h[c0]? =some (.cells #[.pointer (some ⟨t,0,none⟩)] 36 (0,0))
 b1:Ev.at h c1 x
 cm: ∃X s A S f d L,Cm h t X s m xs A S f d L
variable {c0 c1 : Nat} {x : Ev}
theorem LF(V:Env h t m xs c0 c1 x){y:CV}(a:y∈xs)(hk:R (.bool (!decide (y.e=x))) h):ar Tryz.prog 113 #[.I (y.num:Int),.P c0 0,.P c1 0] h R:=by
 obtain⟨X,s,A,S,f,d,L,H⟩:=V.cm;have C:=H.DL y a;refine tn.walk ⟨_,aw V.b0,ay.2 ⟨_,aw H.cR,_,look H a,ay.2 ⟨_,aw C,_,aw C,_,aw C,_,aw C,_,aw C,?_⟩⟩⟩;exact ax.ld V.b1 ⟨_,wj (x:=y.e) (y:=x) rfl rfl,hk⟩
def jN(xs:List CV)(x:Ev)(n:Int):Bool:=xs.any (λy=>decide ((y.num:Int)=n) && decide (y.e=x))
theorem uR(so:(jS xs).Pairwise (· < ·)){y:CV}(b:y∈xs):jN xs x (y.num:Int)=decide (y.e=x):=by
 unfold jN;by_cases e:y.e=x
 .rw[aq e,List.any_eq_true];exact⟨y,b,by simp[e]⟩
 .rw[az e,List.any_eq_false];intro z q;simp only[aT,aY,not_and];intro k;have:z=y:=by
   obtain⟨i,H⟩:=bx q;obtain⟨j,a⟩:=bx b;have o:(jS xs).Nodup:=so.imp (λh=>ae);have g:=(aC.1 H).1;have:=(dR (l:=jS xs) (i:=i) (j:=j) (by simpa[jS]using g) o).1 (by unfold jS;rw[aM,aM,H,a];simp[k]);subst this;rw[H]at a;exact bn a
  rw[this];exact e
theorem QC{ns:List Int}(V:Env h t m xs c0 c1 x)(o:fy h p n c 1 (ns.map fR))(w:n=ns.length)(G:n<=60000)(z: ∀k∈ns,∃y∈xs,k=(y.num:Int))(K: ∀i,i<n->(∀j,j<i->∀k,ns[j]? =some k->jN xs x k=true)->(∀k,ns[i]? =some k->jN xs x k=false)->R (.I (i:Int)) h)(B:(∀k∈ns,jN xs x k=true)->R (.I (-1)) h):
  ar Tryz.prog 168 #[.slice p n c,.func (.func 113) #[] #[.P c0 0,.P c1 0]] h R:=by
 subst w;have so:(jS xs).Pairwise (· < ·):=by obtain⟨X,s,A,S,f,d,L,H⟩:=V.cm;exact wX H
 refine gM.of.walk ?_;refine⟨λu g=>g=h/\∃i:Nat,u=(i:Int)/\i<=ns.length/\∀j,j<i->∀k,ns[j]? =some k->jN xs x k=true,λu _=>ns.length - u.toNat,⟨rfl,0,rfl,bP _,λj b=>ae⟩,?_⟩;rintro _ g ⟨rfl,i,rfl,I,l⟩;by_cases q:i<ns.length
 .rw[fO];have hk:ns[i]? =some ns[i]:=aj q;generalize ns[i]=k at hk;obtain⟨y,r,rfl⟩:=z k (bj hk);obtain⟨D,F,rfl⟩:=o.addr ae;have C:=o.cell (j:=i) (v:=fR (y.num:Int)) (by rw[aM,hk];rfl);simp only[aI,cr];refine⟨⟨ae,ae⟩,ay.2 ⟨_,C,LF V r ⟨_,rfl,?_⟩⟩⟩;have kn:=uR (x:=x) so r;by_cases e:y.e=x
  .rw[aq e,cW,bz ae ae];rw[aq e]at kn;refine⟨⟨rfl,i+1,ae,ae,λj b k a=> ?_⟩,by show ns.length - Int.toNat ((i:Int)+1)<ns.length - i;omega⟩;by_cases E:j=i
   .subst E;rw[hk]at a;cases a;exact kn
   .exact l j ae k a
  .rw[az e,fO];rw[az e]at kn;exact K i q l (λk a=>by rw[hk]at a;cases a;exact kn)
 .rw[ag (by simp;omega)];exact B (λk hk=>by
   obtain⟨j,b⟩:=bx hk;exact l j (cf ((aC.1 b).1)) k b)
theorem Fx{ns:List Int}(V:Env h t m xs c0 c1 x)(o:fy h p n c 1 (ns.map fR))(D:n=ns.length)(Y:n<=60000)(N: ∀k∈ns,∃y∈xs,k=(y.num:Int))(W: ∀g,Fr (aP p) h g->Env g t m xs c0 c1 x)(hk: ∀h' E,fy h' p (ns.filter (jN xs x)).length E 1 ((ns.filter (jN xs x)).map fR)->Fr (aP p) h h'->R (.slice p (ns.filter (jN xs x)).length E) h'):
  ar Tryz.prog 112 #[.slice p n c,.func (.func 113) #[] #[.P c0 0,.P c1 0]] h R:=by
 subst D;have so:(jS xs).Pairwise (· < ·):=by obtain⟨X,s,A,S,f,d,L,H⟩:=V.cm;exact wX H
 have one: ∀v∈((.I 0:Value)).cells.toList,fH v=true:=λv hv=>by
  have:v=.I 0:=by simpa[Value.cells]using hv
  subst this;rfl
 refine kQ.of.walk (QC V o rfl Y N (λi Z l M=>⟨_,rfl,?_⟩) (λl=>⟨_,rfl,?_⟩))
 .rw[ag (by intro h;have h:=eq_of_beq h;omega),bz ae ae];have T:(ns.take i).filter (jN xs x)=ns.take i:=by
   rw[cb];intro k b';obtain⟨j,a⟩:=bx b';rw[cI]at a;split at a
   .rename_i a';exact l j a' k a
   .cases a
  have Q:(ns.take (i+1)).filter (jN xs x)=ns.take i:=by
   have hk:ns[i]? =some ns[i]:=aj Z;rw[bL,hk,fh,T];simp[M _ hk]
  refine⟨λu w g=> ∃(i j:Nat)(vs:List Int),u=(i:Int)/\w=(j:Int)/\i<=j/\j<=ns.length/\vs.length=ns.length/\fy g p ns.length c 1 (vs.map fR)/\vs.take i=(ns.take j).filter (jN xs x)/\(∀q,j<=q->vs[q]? =ns[q]?)/\Fr (aP p) h g,λ_ w _=>ns.length - w.toNat,
   ⟨i,i+1,ns,rfl,ae,ae,ae,rfl,o,Q.symm,λ_ _=>rfl,Fr.refl _ _⟩,?_⟩
  clear T Q l M;rintro _ _ g ⟨i,j,vs,rfl,rfl,f',a,K,O,b,B,F⟩;have C:((ns.take j).filter (jN xs x)).length=i:=by rw[<-b,bF];omega
  by_cases d':j<ns.length
  .rw[fO];refine aK.of λe' I=> ?_
   have r:ns[j]? =some ns[j]:=aj d';generalize ns[j]=k at r;obtain⟨y,P,rfl⟩:=N k (bj r);obtain⟨ab,ao,rfl⟩:=O.addr ae;have c':vs[j]? =some (y.num:Int):=by rw[B j (aZ _)];exact r
   have U:=O.cell (j:=j) (v:=fR (y.num:Int)) (by rw[aM,c'];rfl);simp only[aI,cr];have kn:=uR (x:=x) so P;have tk:(ns.take (j+1)).filter (jN xs x)=(ns.take j).filter (jN xs x)++(if y.e=x then [(y.num:Int)]else []):=by
    rw[bL,r,fh];congr 1
    show [(y.num:Int)].filter (jN xs x)=_;rw[bU,kn];by_cases e:y.e=x<;>simp[e]
   refine⟨⟨ae,ae⟩,ay.2 ⟨_,U,LF (W g F) P ⟨_,rfl,aK.of λJ1 J=> ?_⟩⟩⟩;by_cases e:y.e=x
   .rw[aq e,fO];rw[af e]at tk;refine⟨⟨ae,ae⟩,ay.2 (O.store (by rw[aJ];omega) λG o2 s2 q2=> ?_)⟩;subst J;subst I;have e2:(vs.map fR).set i (.I (y.num:Int))=(vs.set i (y.num:Int)).map fR:=by rw[List.map_set]
    rw[e2]at o2;dsimp only;rw[bz (n:=(i:Int)+1) ae ae,bz (n:=(j:Int)+1) ae ae];refine⟨⟨i+1,j+1,_,ae,ae,ae,ae,by rw[du];exact K,o2,?_,λq hq=> ?_,F.tt ⟨ae,λz _ D=>q2 z D⟩⟩,by show ns.length - Int.toNat ((j:Int)+1)<ns.length - j;omega⟩
    .rw[tk,<-b,bL,List.getElem?_set_self ae];congr 1
     apply e8
     intro q;rw[cI,cI];split
     .rw[List.getElem?_set_ne ae]
     .rfl
    .rw[List.getElem?_set_ne ae];exact B q ae
   .rw[az e,cW];rw[ag e,List.append_nil]at tk;subst J;subst I;dsimp only;rw[bz (n:=(j:Int)+1) ae ae];exact⟨⟨i,j+1,vs,rfl,ae,ae,ae,K,O,by rw[tk,b],λq hq=>B q ae,F⟩,by show ns.length - Int.toNat ((j:Int)+1)<ns.length - j;omega⟩
  .rw[ag (by simp;omega)];obtain rfl:j=ns.length:=ae
   rw[fi]at b C;simp only[aI,Nat.sub_zero];refine⟨⟨ae,ae⟩,Aj tI one O ae λG o2 f2=>⟨rfl,⟨ae,cf O.le⟩,?_⟩⟩;rw[jB];rw[cr,<-List.map_take,b]at o2;have:=hk G c (by rw[C];exact o2) (F.tt f2);rw[C]at this;exact this
 .rw[af (by rfl)];have e:ns.filter (jN xs x)=ns:=by rw[cb];exact l
  have:=hk h c (by rw[e];exact o) (Fr.refl _ _);rw[e]at this;exact this
theorem Jo(so:(jS xs).Pairwise (· < ·)):(jS xs).filter (jN xs x)=jS (xs.filter (λy=>decide (y.e=x))):=by
 unfold jS;rw[dk];congr 1
 exact dG (λy H=>uR so H)
theorem AF(H:Cm h t X s m xs A S f d L)(x:Ev)(l:xs.length<=60000) (hk: ∀h' P C,fy h' P (xs.filter (λy=>decide (y.e=x))).length C 1 ((jS (xs.filter (λy=>decide (y.e=x)))).map fR)->(∀y,aP P y->h.size<=y)->Fr No h h'->R (.slice P (xs.filter (λy=>decide (y.e=x))).length C) h'):
  ar Tryz.prog 49 #[.P t 0,ku x] h R:=by
 refine wI.walk (cC ?_);have f1:Fr No h (h.push (.cells #[.P t 0] 36)):=Fr.push _ _;have b1:(h.push (.cells #[.P t 0] 36))[h.size]? =some (.cells #[.P t 0] 36 (0,0)):=bT;have Z:(h.push (.cells #[.P t 0] 36)).size=h.size+1:=dN _;generalize h.push (.cells #[.P t 0] 36)=u at f1 b1 Z⊢;refine ax.box λc1 v e2 j f2=>⟨_,aw (f2.get b1 id),?_⟩
 have I:=aF j;refine yf (H.on (f1.tt f2)) l λi q l3 O G f3=>⟨_,_,_,rfl,?_⟩
 have b:=f1.tt (f2.tt f3);have e:=H.on b;have J:=f2.1;have V:Env i t m xs h.size c1 x:=⟨(f2.tt f3).get b1 id,f3.get j id,X,s,A,S,f,d,L,e⟩;have z: ∀g,Fr (aP q) i g->Env g t m xs h.size c1 x:=λg F=>
  ⟨F.get V.b0 (λa=>cf (G _ a)),F.get V.b1 (λa=>cf (G _ a)),X,s,A,S,f,d,L,e.frame F (λy a B=>by
   have u:=G y B;have v:y<h.size:=(Ct.lt (s:=s) ⟨m,xs,A,S,f,d,L,H⟩ y a);omega)⟩
 have nl:(jS xs).length=xs.length:=by unfold jS;rw[aJ]
 refine Fx V O nl.symm l (λk D=>by
  obtain⟨y,a,rfl⟩:=bg.1 D;exact⟨y,a,rfl⟩) z λw r o f4=>⟨_,_,_,rfl,?_⟩
 have E:=Jo (x:=x) (wX H);have el:((jS xs).filter (jN xs x)).length=(xs.filter (λy=>decide (y.e=x))).length:=by rw[E];unfold jS;rw[aJ]
 rw[el]at o⊢;rw[E]at o;exact hk w q r o (λy a=>cf (G y a)) (b.fresh f4 (λy a=>cf (G y a)))
end eZ
end
section
open Go.jC
namespace eZ
open jc bR kk
variable {h h':ai} {R:fx} {t:Nat} {X:Ft} {s s':CF} {m A b:Nat} {xs:List CV} {S a:Nat→Prop} {d:Nat→Option Nat} {n c:Nat}
variable {z:Cp} {K:ai->Prop} {L:List Cp}
def yg(L:List Cp)(n:Int):List Cp:=L.filter (λx=> !decide ((x.num:Int)=n))
def nf(L:List Cp)(n:Nat)(ses:Int)(dl:Nat):List Cp:=L.map (λx=>if x.num=n then { x with ses:=ses,dl:=dl } else x)
def BQ(s:CF)(n:Int):CF:= { s with L:=yg s.L n,E1:=fk s.E1 n,E2:=fk s.E2 n }
def pQ(s:CF)(n:Nat):CF:= { s with L:=nf s.L n 0 0,E2:=fk s.E2 (n:Int) }
theorem mY(L:List E)(k:Int):(fk L k).length<=L.length:=cg _ _
structure Small (s:CF):Prop where
 n:s.next<=50000
 l:s.L.length<=50000
 e1:s.E1.length<=50000
 e2:s.E2.length<=50000
theorem Cm.len(H:Cm h t X s m xs A S b a d):xs.length=s.L.length:=by rw[<-H.abs,aJ]
theorem iH(hk: ∀h' t X,Ct h' t X ⟨[],1,0,0,0, [], []⟩->KH h X h'->R (.P t 0) h'):ar Tryz.prog 37 #[] h R:=by
 classical
 refine FE.walk (cC ?_);have f1:Fr No h (h.push (.map #[] 0)):=Fr.push _ _;have M:=iR.push (α:=Int) h fR;have Z:(h.push (.map #[] 0)).size=h.size+1:=dN _;generalize h.push (.map #[] 0)=p at f1 M Z⊢;refine bR.iH λA S i A1 G f2=>⟨_,rfl,bR.iH λb a H f o f3=>⟨_,rfl,cC ?_⟩⟩
 have f4:Fr No H (H.push (.cells #[.map (some h.size),.I 1,.I 0,.I 0,.I 0,.P A 0,.P b 0] 110)):=Fr.push _ _;have y:=f2.1;have D:=f3.1;have v:(H.push (.cells #[.map (some h.size),.I 1,.I 0,.I 0,.I 0,.P A 0,.P b 0] 110)).size=H.size+1:=dN _;have B:(H.push (.cells #[.map (some h.size),.I 1,.I 0,.I 0,.I 0,.P A 0,.P b 0] 110))[H.size]? =some (.cells #[.map (some h.size),.I 1,.I 0,.I 0,.I 0,.P A 0,.P b 0] 110 (0,0)):=bT;generalize H.push (.cells #[.map (some h.size),.I 1,.I 0,.I 0,.I 0,.P A 0,.P b 0] 110)=j at f4 v B⊢;have l1: ∀c,S c->p.size<=c/\c<i.size:=λc hc=>⟨G c hc,A1.lt hc⟩
 have l2: ∀c,a c->i.size<=c/\c<H.size:=λc hc=>⟨o c hc,f.lt hc⟩
 let d:Nat->Option Nat:=λc=>if c=H.size then some 0 else if c=h.size then some 1 else if S c then some 2 else if a c then some 3 else none
 have r: ∀c,S c->d c=some 2:=λc hc=>by
  have:=l1 c hc;show(if c=H.size then some 0 else if c=h.size then some 1 else if S c then some 2 else if a c then some 3 else none)=_;rw[cW,cW,af hc]
 have u: ∀c,a c->d c=some 3:=λc hc=>by
  have w:=l2 c hc;show(if c=H.size then some 0 else if c=h.size then some 1 else if S c then some 2 else if a c then some 3 else none)=_;rw[cW,cW,ag (λq=>cf (l1 c q)),af hc]
 have l: ∀c,d c≠none->h.size<=c/\c<j.size:=λc hc=>by
  by_cases c1:c=H.size
  .omega
  by_cases k:c=h.size
  .omega
  by_cases C:S c
  .have:=l1 c C;omega
  by_cases g:a c
  .have:=l2 c g;omega
  exact absurd (show(if c=H.size then some 0 else if c=h.size then some 1 else if S c then some 2 else if a c then some 3 else none)=none by rw[ag c1,ag k,ag C,ag g]) hc
 refine hk j H.size ⟨λc=>d c≠none,λ_=>False⟩ ⟨h.size, [],A,S,b,a,d,⟨B,(M.frame (f2.tt f3) id).frame f4 id,(λx e=>by cases e),rfl,(λx e=>by cases e),A1.frame (f3.tt f4) (λ_ _=>id),f.frame f4 (λ_ _=>id),af rfl,?_,r,u,(λx e=>by cases e),λc=>dU,λc hc=>hc.elim,λc hc=>(l c hc).2,.nil⟩⟩ ⟨f1.tt (f2.tt (f3.tt f4)),λc hc=> ?_⟩
 .show(if h.size=H.size then some 0 else if h.size=h.size then some 1 else if S h.size then some 2 else if a h.size then some 3 else none)=some 1;rw[cW,af rfl]
 .rcases hc with hc|hc
  .exact(l c hc).1
  .exact hc.elim
theorem Pk(H:Cm h t X s m xs A S b a d)(j:s.E2.length<1000000)(k:Int)(hk: ∀h' x l (e:Int),Cm h' t x { s with E2:=fk s.E2 k } m xs A S b a l->bC X h x h'->R (.I e) h'):
  ar Tryz.prog 115 #[.P b 0,.I k] h R:=by
 refine bR.oi H.EG j k (λ_ g A1 f1=> ?_) (λo=> ?_)
 .obtain⟨x,l,f,st,_⟩:=H.FH (s':= { s with E2:=fk s.E2 k }) A1 (λc i=> .inl i) f1 rfl rfl rfl ⟨rfl,rfl,rfl,rfl⟩;exact hk g x l 0 f st
 .have e:({ s with E2:=fk s.E2 k } :CF)=s:=by rw[jw o]
  exact hk h X d 4 (by rw[e];exact H) (bC.refl _ _)
theorem Sd(H:Cm h t X s m xs A S b a d)(j:s.E1.length<1000000)(k:Int)(hk: ∀h' x l (e:Int),Cm h' t x { s with E1:=fk s.E1 k } m xs A S b a l->bC X h x h'->R (.I e) h'):
  ar Tryz.prog 115 #[.P A 0,.I k] h R:=by
 refine bR.oi H.FG j k (λ_ g A1 f1=> ?_) (λo=> ?_)
 .obtain⟨x,l,f,st,_⟩:=H.FI (s':= { s with E1:=fk s.E1 k }) A1 (λc i=> .inl i) f1 rfl rfl rfl ⟨rfl,rfl,rfl,rfl⟩;exact hk g x l 0 f st
 .have e:({ s with E1:=fk s.E1 k } :CF)=s:=by rw[jw o]
  exact hk h X d 4 (by rw[e];exact H) (bC.refl _ _)
theorem na(H:Ct h t X s)(g:Small s)(k:Int)(hk: ∀h' x,Ct h' t x (BQ s k)->bC X h x h'->R (.tuple #[]) h'):
  ar Tryz.prog 119 #[.P t 0,.I k] h R:=by
 obtain⟨m,xs,A,S,b,a,d,H⟩:=H;have:=g.e1;have:=g.e2;refine qS.walk ⟨_,aw H.cR,Pk H ae k λv u y _ f st1=>⟨_,rfl,_,aw f.cR,Sd f (by show s.E1.length<_;omega) k λw j B _ e q=>⟨_,rfl,_,aw e.cR,Dd mZ e.map (k:=k) λl M p o=>⟨rfl,?_⟩⟩⟩⟩;obtain⟨i,r⟩:=e.del (s':=BQ s k) M p o rfl rfl rfl ⟨rfl,rfl,rfl,rfl⟩;exact hk l j ⟨_,_,_,_,_,_,_,i⟩ (st1.trans (q.trans r))
theorem rX(H:Cm h t X s m xs A S b a d)(f:z∈s.L): ∃x∈xs,x.abs=z:=by
 rw[<-H.abs]at f;obtain⟨x,g,e⟩:=bg.1 f;exact⟨x,g,e⟩
theorem Cm.AH{x:CV}{ses:Int}{dl:Nat}(H:Cm h t X s m xs A S b a d)(k:x∈xs)(hk: ∀h',Cm h' t X { s with L:=nf s.L x.num ses dl } m (xs.map (λz=>if z.num=x.num then { x with ses:=ses,dl:=dl } else z)) A S b a d->bC X h X h'->K h'):
  aE h (((AA x.b 0):Addr).add 8) (.I ses) λo=>aE o (((AA x.b 0):Addr).add 9) (.U (dl:Int)) K:=by
 rw[gl,gl];have v:=H.DL x k;refine bB v bM λo c1 s1 o1=>bB c1 bM λp C G o2=> ?_
 have E:({ x with ses:=ses,dl:=dl } :CV).at p x.b:=C;obtain⟨r,st⟩:=H.change (s':= { s with L:=nf s.L x.num ses dl }) (y:= { x with ses:=ses,dl:=dl }) k rfl rfl rfl E ae (λc q=>by rw[o2 c q,o1 c q]) (by
  show nf s.L x.num ses dl=_;unfold nf;refine dS λz F=> ?_
  by_cases e:z.num=x.num
  .rw[af e,af e];obtain⟨u,D,rfl⟩:=rX H F;have e:u.num=x.num:=e;have:u=x:=by
    obtain⟨i,f⟩:=bx D;obtain⟨j,g⟩:=bx k;have B:(xs.map CV.num).Nodup:=H.so.imp (λh=>Nat.ne_of_lt h);have w:=(aC.1 f).1;have:=(dR (l:=xs.map CV.num) (i:=i) (j:=j) (cD w) B).1 (by rw[aM,aM,f,g];simp[e]);subst this;rw[f]at g;exact bn g
   rw[this];rfl
  .rw[ag e,ag e]) rfl rfl ⟨rfl,rfl,rfl,rfl⟩
 exact hk p r st
theorem Hd(H:Ct h t X s)(o:Small s)(l:z∈s.L)(hk: ∀h' g,Ct h' t g (pQ s z.num)->bC X h g h'->R (.tuple #[]) h'):
  ar Tryz.prog 120 #[.P t 0,.I (z.num:Int)] h R:=by
 obtain⟨m,xs,A,S,b,a,d,H⟩:=H;obtain⟨x,f,rfl⟩:=rX H l;have:=o.e2;refine tB.walk ⟨_,aw H.cR,Pk H ae _ λq j r _ e st1=>⟨_,rfl,_,aw e.cR,_,look e f,_,aw e.cR,_,look e f,?_⟩⟩;refine ay.2 (e.AH (ses:=0) (dl:=0) f λk i p=>hk k j ⟨_,_,_,_,_,_,_,i⟩ (st1.trans p))
def uT(L:List Cp)(n:Int):Option Cp:=L.find? (λx=>decide ((x.num:Int)=n))
theorem uV{n:Int}(h:uT L n=some z):z∈L/\(z.num:Int)=n:=⟨List.mem_of_find?_eq_some h,cD (List.find?_some h)⟩
theorem Jp{n:Int}:uT L n=none↔ ∀z∈L,(z.num:Int)≠n:=by unfold uT;simp
def iP(L:List Cp)(n ses:Int):Int:=match uT L n with|none=>4|some z=>if z.ses=0\/z.ses≠ses then 14 else 0
theorem ir(H:Ct h t X s)(num ses:Int)(hk: ∀q,R (.tuple #[.pointer q,.I (iP s.L num ses)]) h):
  ar Tryz.prog 165 #[.P t 0,.I num,.I ses] h R:=by
 obtain⟨m,xs,A,S,b,a,d,H⟩:=H;refine tp.walk (fI H ⟨_,rfl,?_⟩);rw[cW];unfold iP at hk;cases i:uT s.L num with
 |none=>
  rw[i]at hk;have l: ∀x∈xs,(x.num:Int)≠num:=λx j=>Jp.1 i x.abs (by rw[<-H.abs];exact br j)
  refine⟨_,aw H.cR,_,N0 H l,?_⟩;rw[af (by rfl)];exact hk none
 |some z=>
  rw[i]at hk;dsimp only at hk;obtain⟨o,rfl⟩:=uV i;obtain⟨x,j,rfl⟩:=rX H o;have L:=look H j;have C:=H.DL x j;refine⟨_,aw H.cR,_,L,?_⟩;rw[ag bM];refine aK.of λJ k=>⟨_,aw H.cR,_,L,ay.2 ⟨_,aw C,?_⟩⟩
  have bad:(x.ses=0\/x.ses≠ses)->J true h:=λhb=>by
   subst k;simp only[bh];have:=hk none;have e:(if x.abs.ses=0\/x.abs.ses≠ses then(14:Int)else 0)=14:=af hb;rwa[e]at this
  by_cases f:x.ses=0
  .rw[af (cD f)];exact bad (.inl f)
  .rw[ag (cD f)];refine⟨_,aw H.cR,_,L,ay.2 ⟨_,aw C,?_⟩⟩;by_cases g:x.ses=ses
   .have e:(x.ses !=ses)=false:=by simp[g]
    rw[e];subst k;simp only[au,aN];refine⟨_,aw H.cR,_,L,?_⟩;have e2:(if x.abs.ses=0\/x.abs.ses≠ses then(14:Int)else 0)=0:=ag (λhb=>by
     rcases hb with hb|hb
     .exact f hb
     .exact hb g)
    have:=hk (some (AA x.b 0));rwa[e2]at this
   .have e:(x.ses !=ses)=true:=by simpa using g
    rw[e];exact bad (.inr g)
def kR(s:CF)(n ses:Int):CF:=if iP s.L n ses=0 then { BQ s n with fw:=s.fw+1 } else s
theorem Ct.bump(H:Ct h t X s)(g:s.fw<=100000)(hk: ∀h',Ct h' t X { s with fw:=s.fw+1 } ->bC X h X h'->K h'):
  ∃(u:Int),aB h (AA t 2)=some (.I u)/\aE h (AA t 2) (.I (IntKind.wrap .i64 (u+1))) K:=by
 obtain⟨m,xs,A,S,b,a,d,H⟩:=H;refine⟨_,aw H.cR,bB H.cR bM λf c1 s1 o1=> ?_⟩;rw[bz ae ae]at c1;obtain⟨e,st⟩:=H.field (s':= { s with fw:=s.fw+1 }) rfl rfl rfl c1 s1 o1;exact hk f ⟨_,_,_,_,_,_,_,e⟩ st
theorem Ct.Se(H:Ct h t X s)(g:s.over<=100000)(hk: ∀h',Ct h' t X { s with over:=s.over+1 } ->bC X h X h'->K h'):
  ∃(u:Int),aB h (AA t 3)=some (.I u)/\aE h (AA t 3) (.I (IntKind.wrap .i64 (u+1))) K:=by
 obtain⟨m,xs,A,S,b,a,d,H⟩:=H;refine⟨_,aw H.cR,bB H.cR bM λf c1 s1 o1=> ?_⟩;rw[bz ae ae]at c1;obtain⟨e,st⟩:=H.field (s':= { s with over:=s.over+1 }) rfl rfl rfl c1 s1 o1;exact hk f ⟨_,_,_,_,_,_,_,e⟩ st
theorem Ct.Sf(H:Ct h t X s)(g:s.gone<=100000)(hk: ∀h',Ct h' t X { s with gone:=s.gone+1 } ->bC X h X h'->K h'):
  ∃(u:Int),aB h (AA t 4)=some (.I u)/\aE h (AA t 4) (.I (IntKind.wrap .i64 (u+1))) K:=by
 obtain⟨m,xs,A,S,b,a,d,H⟩:=H;refine⟨_,aw H.cR,bB H.cR bM λf c1 s1 o1=> ?_⟩;rw[bz ae ae]at c1;obtain⟨e,st⟩:=H.field (s':= { s with gone:=s.gone+1 }) rfl rfl rfl c1 s1 o1;exact hk f ⟨_,_,_,_,_,_,_,e⟩ st
theorem FJ(H:Ct h t X s)(o:Small s)(l:s.fw<=100000)(num ses:Int)(hk: ∀h' x,Ct h' t x (kR s num ses)->bC X h x h'->R (.I (iP s.L num ses)) h'):
  ar Tryz.prog 161 #[.P t 0,.I num,.I ses] h R:=by
 refine uO.walk (ir H num ses λq=>⟨_,_,rfl,aK.of λJ f=> ?_⟩);by_cases e:iP s.L num ses=0
 .rw[af (cD e)];refine na H o num λr j g st1=>⟨rfl,g.bump l λk i p=> ?_⟩
  subst f;exact hk k j (by unfold kR;rw[af e];exact i) (st1.trans p)
 .rw[ag (cD e)];subst f;exact hk h X (by unfold kR;rw[ag e];exact H) (bC.refl _ _)
def wJ(s:CF)(n ses:Int):CF:=if iP s.L n ses=0 then pQ s n.toNat else s
theorem FK(H:Ct h t X s)(p:Small s)(num ses:Int)(hk: ∀h' x,Ct h' t x (wJ s num ses)->bC X h x h'->R (.I (iP s.L num ses)) h'):
  ar Tryz.prog 107 #[.P t 0,.I num,.I ses] h R:=by
 refine pP.walk (ir H num ses λq=>⟨_,_,rfl,aK.of λJ f=> ?_⟩);by_cases e:iP s.L num ses=0
 .rw[af (cD e)];obtain⟨z,l⟩: ∃z,uT s.L num=some z:=by
   cases k:uT s.L num with
   |none=>unfold iP at e;rw[k]at e;cases e
   |some z=>exact⟨z,rfl⟩
  obtain⟨o,rfl⟩:=uV l;refine Hd H p o λj i g st1=>⟨rfl,?_⟩
  subst f;exact hk j i (by unfold wJ;rw[af e,aI];exact g) st1
 .rw[ag (cD e)];subst f;exact hk h X (by unfold wJ;rw[ag e];exact H) (bC.refl _ _)

end eZ
end
section
namespace eI
open gC (It)
open jc (Ev)
variable {h h':ai} {s j:Nat} {X:Ft}
structure SS where
 A:List eY.eY
 G:List gg.Rg
 C:eZ.CF
 B:gC.BS
 Q:List It
 e:Ev
 tm:Nat
 sq:Nat
 now:Nat
 rf:Nat
structure uW where
 t:Nat
 r:Nat
 c:Nat
 o:Nat
 p:Nat
 k:Nat
abbrev Mk(h:ai)(k:Nat)(e:Ev)(tm sq:Nat):Prop:=h[k]? =some (.cells #[.bool e.kH,.int .u64 e.node,.int .u64 e.gH,.string e.host,.string e.jD,.int .u64 (tm:Int),.int .u64 (sq:Int),.bool true] 166 (0,0))
abbrev Bk(h:ai)(s:Nat)(I:uW)(now rf:Nat):Prop:=h[s]? =some (.cells #[pt I.t,pt I.r,pt I.c,pt I.o,pt I.p,pt I.k,.int .u64 (now:Int),.int .i64 (rf:Int)] 41 (0,0))
def part(σ:SS)(I:uW)(s:Nat)(i:Nat)(h:ai)(X:Ft):Prop:=match i with
 |0=>eY.Has h I.t X σ.A
 |1=>gg.Tb h I.r X σ.G
 |2=>eZ.Ct h I.c X σ.C
 |3=>gC.AG h I.o X σ.B
 |4=> ∃m,Pu h I.p m σ.Q/\only X λy=>y=I.p\/y=m
 |5=>Mk h I.k σ.e σ.tm σ.sq/\only X λy=>y=I.k
 |6=>Bk h s I σ.now σ.rf/\only X λy=>y=s
 |_=> ∀y,¬In X y
theorem part.lt{σ:SS}{I:uW}{i:Nat}(H:part σ I s i h X)(y:Nat)(hy:In X y):y<h.size:=by
 rcases i with _|_|_|_|_|_|_|i
 .exact eY.Has.lt H y hy
 .exact gg.Tb.lt H y hy
 .exact eZ.Ct.lt H y hy
 .exact gC.AG.lt H y hy
 .obtain⟨m,P,o⟩:=H;rcases hy with hy|hy
  .rcases(o y).1.1 hy with rfl|rfl
   .exact P.lt.1
   .exact P.lt.2
  .exact absurd hy (o y).2
 .obtain⟨P,o⟩:=H;rcases hy with hy|hy
  .rw[(o y).1.1 hy];exact aF P
  .exact absurd hy (o y).2
 .obtain⟨P,o⟩:=H;rcases hy with hy|hy
  .rw[(o y).1.1 hy];exact aF P
  .exact absurd hy (o y).2
 .exact absurd hy (H y)
theorem part.frame{σ:SS}{I:uW}{i:Nat}{Q:Nat->Prop}(H:part σ I s i h X)(f:Fr Q h h')(a: ∀y,In X y->¬Q y):part σ I s i h' X:=by
 rcases i with _|_|_|_|_|_|_|i
 .exact eY.Has.frame H f a
 .exact gg.Tb.frame H f a
 .exact eZ.Ct.frame H f a
 .exact gC.AG.frame H f a
 .obtain⟨m,P,o⟩:=H;exact⟨m,P.frame f (a _ (.inl ((o _).1.2 (.inl rfl)))) (a _ (.inl ((o _).1.2 (.inr rfl)))),o⟩
 .obtain⟨P,o⟩:=H;exact⟨f.get P (a _ (.inl ((o _).1.2 rfl))),o⟩
 .obtain⟨P,o⟩:=H;exact⟨f.get P (a _ (.inl ((o _).1.2 rfl))),o⟩
 .exact H
theorem part.uy{σ:SS}{I:uW}{i:Nat}(H:part σ I s i h X)(y:Nat)(b:X.M y)(hd:X.D y):False:=by
 rcases i with _|_|_|_|_|_|_|i
 .exact eY.Has.uy H y b hd
 .obtain⟨m,H⟩:=H;exact H.d y hd
 .obtain⟨m,xs,A,c,e,d,l,H⟩:=H;exact(H.mm y).1 b (H.dd y hd).1
 .obtain⟨L,⟨g,f,xs,a,S,H⟩,_⟩:=H;exact H.uy y b hd
 .obtain⟨m,P,o⟩:=H;exact(o y).2 hd
 .exact(H.2 y).2 hd
 .exact(H.2 y).2 hd
 .exact H y (.inl b)
theorem part.st(σ:SS)(I:uW)(s:Nat):x5 (part σ I s):=⟨part.lt,part.frame,part.uy⟩
def Pt(h:ai)(s:Nat)(X:Ft)(I:uW)(σ:SS):Prop:=Fs (part σ I s) h X
variable {I : uW} {σ : SS}
theorem Pt.lt(H:Pt h s X I σ)(y:Nat)(a:X.M y\/X.D y):y<h.size:=Fs.lt (part.st _ _ _) H y a
theorem Pt.uy(H:Pt h s X I σ)(y:Nat)(a:X.M y)(b:X.D y):False:=Fs.uy (part.st _ _ _) H y a b
theorem Pt.frame{Q:Nat->Prop}(H:Pt h s X I σ)(f:Fr Q h h')(a: ∀y,X.M y\/X.D y->¬Q y):Pt h' s X I σ:=Fs.frame (part.st _ _ _) H f a
theorem Pt.on(H:Pt h s X I σ)(f:Fr No h h'):Pt h' s X I σ:=H.frame f (λ_ _=>id)
theorem Pt.use(H:Pt h s X I σ)(j:Nat): ∃Z,part σ I s j h Z/\(∀y,Z.M y->X.M y)/\(∀y,Z.D y->X.D y)/\∀h' z a,part a I s j h' z->bC Z h z h'->(∀i,i≠j->part a I s i=part σ I s i)->
  ∃x,Pt h' s x I a/\bC X h x h'/\(∀y,z.D y->x.D y)/\∀y,h.size<=y->x.M y\/x.D y->z.M y\/z.D y:=by
 obtain⟨Z,b,c,d,go⟩:=Fs.use (part.st σ I s) H j;exact⟨Z,b,c,d,λh' z a=>go h' z (part a I s)⟩
theorem Pt.cR(H:Pt h s X I σ):Bk h s I σ.now σ.rf:=by obtain⟨Y,a,_⟩:=H;exact(a 6).1
theorem Pt.box(H:Pt h s X I σ): ∃Z,gC.AG h I.o Z σ.B:=by obtain⟨Y,a,_⟩:=H;exact⟨_,a 3⟩
theorem BR{i:Nat}(a:List eY.eY)(H:i≠0):part { σ with A:=a } I s i=part σ I s i:=by rcases i with _|_|_|_|_|_|_|i<;>first|rfl|exact absurd rfl H
theorem FL{i:Nat}(a:List gg.Rg)(H:i≠1):part { σ with G:=a } I s i=part σ I s i:=by rcases i with _|_|_|_|_|_|_|i<;>first|rfl|exact absurd rfl H
theorem uX{i:Nat}(a:eZ.CF)(H:i≠2):part { σ with C:=a } I s i=part σ I s i:=by rcases i with _|_|_|_|_|_|_|i<;>first|rfl|exact absurd rfl H
theorem FM{i:Nat}(a:gC.BS)(H:i≠3):part { σ with B:=a } I s i=part σ I s i:=by rcases i with _|_|_|_|_|_|_|i<;>first|rfl|exact absurd rfl H
theorem FN{i:Nat}(a:List It)(H:i≠4):part { σ with Q:=a } I s i=part σ I s i:=by rcases i with _|_|_|_|_|_|_|i<;>first|rfl|exact absurd rfl H
theorem QD{i:Nat}(a:Ev)(b c:Nat)(H:i≠5):part { σ with e:=a,tm:=b,sq:=c } I s i=part σ I s i:=by rcases i with _|_|_|_|_|_|_|i<;>first|rfl|exact absurd rfl H
theorem QE{i:Nat}(a b:Nat)(H:i≠6):part { σ with now:=a,rf:=b } I s i=part σ I s i:=by rcases i with _|_|_|_|_|_|_|i<;>first|rfl|exact absurd rfl H
end eI
end
section
open Go.jC
namespace eZ
open jc bR kk
variable {h h':ai} {R:fx} {t:Nat} {X:Ft} {s s':CF} {m B A:Nat} {xs:List CV} {r w:Nat→Prop} {o:Nat→Option Nat} {p:cj} {n c:Nat}
variable {k:Int} {l:List Int} {i:Nat} {f:CF->Int->CF}
def tF(x:Ev)(len:Nat)(bX:Int):Bool:=cK x && (!decide (x=Ev.zero) && (decide (1<=len) && (decide (len<=600) && decide (bX<=1099511627776))))
theorem Jq(x:Ev)(hk: gW h R (.bool (tF x n k))):ar Tryz.prog 48 #[ku x,.slice p n c,.U k] h R:=by
 refine zJ.walk (ax.box λb d e H f1=>ax.ld H (jc.eX x λa f2=>⟨_,rfl,?_⟩));have K:=hk a (f1.tt f2);unfold tF at K;by_cases q:cK x=true
 .rw[af q];rw[q,dA]at K;refine ax.ld (f2.get H id) ⟨_,wj (y:=.zero) (x:=x) rfl rfl,?_⟩;by_cases q1:x=.zero
  .rw[aq q1,cW];rw[aq q1]at K;exact K
  .rw[az q1,fO];rw[az q1,eh,dA]at K;by_cases q2:1<=n
   .rw[fO];rw[aq q2,dA]at K;by_cases q3:n<=600
    .rw[fO];rw[aq q3,dA]at K;exact K
    .rw[ag (by simp;omega)];rw[az q3]at K;exact K
   .rw[ag (by simp;omega)];rw[az q2]at K;exact K
 .rw[ag q];have q:cK x=false:=by simpa using q
  rw[q]at K;exact K
def kq(L:List Cp)(x:Ev):List Cp:=L.filter (λy=>decide (y.e=x))
theorem FO(H:Cm h t X s m xs B r A w o)(x:Ev):(xs.filter (λy=>decide (y.e=x))).length=(kq s.L x).length:=by
 unfold kq;rw[<-H.abs,dk,aJ];rfl
def ia(s:CF)(x:Ev)(d:List UInt8)(bX:Nat):Int:=if tF x d.length (bX:Int)=true then(if(kq s.L x).length≥16 then 15 else 0)else 1
def zF(s:CF)(x:Ev)(d:List UInt8)(bX:Nat):Int:=if ia s x d bX=0 then(s.next:Int)else 0
def jx(s:CF)(x:Ev)(d:List UInt8)(bX:Nat):CF:=if ia s x d bX=0 then { s with L:=s.L++ [⟨s.next,x,d,bX,0,0⟩],next:=s.next+1,E1:=xR s.E1 (s.next:Int) (bX:Int) } else s
theorem x8(H:Ct h t X s)(S:Small s)(c': ∀z∈s.L,z.num<s.next)(i':1<=s.next)(x:Ev){d:List UInt8}(bX:Nat)(b':k=(bX:Int))(hr:Row h p (bc d))(hn:n=d.length)(e':d≠ []->∀a,p=some a->¬X.M a.block)(hk: ∀h' N,Ct h' t N (jx s x d bX)->bC X h N h'->R (.tuple #[.I (zF s x d bX),.I (ia s x d bX)]) h'):
  ar Tryz.prog 15 #[.P t 0,ku x,.slice p n c,.U k] h R:=by
 subst b' hn;obtain⟨m,xs,B,r,A,w,o,H⟩:=H;have sn:=S.n;have sl:=S.l;have se:=S.e1;have xl:=H.len;refine uL.walk (ax.box λb h1 eb K f1=> ?_);have Z:=H.on f1;refine fI Z ⟨_,rfl,?_⟩;rw[cW];refine ax.ld K (Jq x λh3 f3=>⟨_,rfl,?_⟩);have F:=f1.tt f3;by_cases q:tF x d.length (bX:Int)=true
 .rw[q,cW];refine ax.ld (f3.get K id) (AF (H.on F) x ae λQ p4 c4 o4 g4 f4=>⟨_,_,_,rfl,?_⟩);have C:=F.tt f4;have g:=H.on C;have T:=(f3.tt f4).get K id;rw[FO H x];by_cases q1:(kq s.L x).length≥16
  .rw[fO];have e:ia s x d bX=15:=by unfold ia;rw[af q,af q1]
   have e2:zF s x d bX=0:=ag (by rw[e];decide);have E:jx s x d bX=s:=ag (by rw[e];decide);rw[e,e2,E]at hk;exact hk Q X ⟨_,_,_,_,_,_,_,g⟩ (bC.hM C)
  .rw[ag (by simp;omega)];have e:ia s x d bX=0:=by unfold ia;rw[af q,ag q1]
   have e2:zF s x d bX=(s.next:Int):=af e;have E:jx s x d bX= { s with L:=s.L++ [⟨s.next,x,d,bX,0,0⟩],next:=s.next+1,E1:=xR s.E1 (s.next:Int) (bX:Int) } :=af e;rw[e,e2,E]at hk;have lb:b<Q.size:=aF T;have nb: ∀{c},o c≠none->c≠b:=fun {c} v ec=>by have:=H.CN c v;omega
   refine⟨_,aw g.cR,_,aw g.cR,bB g.cR bM λG P s5 V=> ?_⟩;rw[bz ae ae]at P;obtain⟨j,W⟩:=g.field (s':= { s with next:=s.next+1 }) rfl rfl rfl P s5 V;have M:Ev.at G b x:=by
    unfold Ev.at ax.at;rw[V b (e6 (nb (by rw[H.l0];simp)))];exact T
   have r5:Row G p (bc d):=(hr.frame C (λ_ _=>id)).frame W.fr (λa ea=>e' (by rintro rfl;simp[tF]at q) a ea);refine⟨_,aw j.cR,ax.ld M (gK r5 rfl (by
    unfold tF at q;simp only[aT,aY]at q;omega) λp6 c6 h6 O f6 g6=>⟨_,_,_,rfl,?_⟩)⟩
   refine⟨ax.held (f6.get M id),aw (f6.get j.cR id),aL.box λJ h7 e7 a' f7=> ?_⟩;have D:=f6.tt f7;have z5:G.size<=h6.size:=f6.1;refine⟨ax.held (D.get M id),aw (D.get j.cR id),xz mZ (j.on D).map (k:=(s.next:Int)) λh8 M8 s8 o8=> ?_⟩;obtain⟨X8,j',I,f'⟩:=j.add (s':= { s with L:=s.L++ [⟨s.next,x,d,bX,0,0⟩],next:=s.next+1 }) (y:=⟨s.next,J,x,⟨p6,c6,d⟩,bX,0,0⟩) D a' (by show G.size<=J;omega) ((O.iT).frame f7 (λ_ _=>id)) O.le (λc v=>⟨g6 c v,by have:=O.eg v;show c≠J;omega,ig (O.eg v) f7.1⟩)
    (λu hu=>by
     have:u.abs∈s.L:=by rw[<-H.abs];exact br hu
     exact c' _ this) M8 s8 o8 rfl rfl rfl ⟨rfl,rfl,rfl,rfl⟩
   have d':may (s.next:Int) (bX:Int)=true:=by
    unfold tF at q;simp only[aT,aY]at q;exact kN.2 ⟨ae,ae,ae⟩
   refine⟨_,aw I.cR,bR.Fl I.FG (by show s.E1.length<_;omega) (s.next:Int) (bX:Int) ae (λU h9 S9 Y g9 f9=>⟨_,rfl,?_⟩) (λU=>absurd d' (by rw[U];simp))⟩;obtain⟨X9,k',H9,g',_⟩:=I.FI (s':= { s with L:=s.L++ [⟨s.next,x,d,bX,0,0⟩],next:=s.next+1,E1:=xR s.E1 (s.next:Int) (bX:Int) }) Y g9 f9 rfl rfl rfl ⟨rfl,rfl,rfl,rfl⟩;exact hk h9 X9 ⟨_,_,_,_,_,_,_,H9⟩ (bC.no C (W.trans (f'.trans g')))
 .have q:tF x d.length (bX:Int)=false:=by simpa using q
  rw[q,fO];have e:ia s x d bX=1:=by unfold ia;rw[q];rfl
  have e2:zF s x d bX=0:=ag (by rw[e];decide);have E:jx s x d bX=s:=ag (by rw[e];decide);rw[e,e2,E]at hk;exact hk h3 X ⟨_,_,_,_,_,_,_,H.on F⟩ (bC.hM F)
theorem AI(H:Ct h t X s)(d:Small s)(hk: gW h R (.agg #[.I ((s.next:Int) - 1),.I ((s.L.length:Int) - (s.E2.length:Int)),.I (s.E2.length:Int),.I (s.fw:Int),.I (s.over:Int),.I (s.gone:Int)])):
  ar Tryz.prog 17 #[.P t 0] h R:=by
 obtain⟨m,xs,B,r,A,w,o,H⟩:=H;have D:=d.n;have C:=d.l;have z:=d.e2;have xl:=H.len;refine qR.walk (fC.box λb v E q f1=> ?_);have a:=H.on f1;refine fI a ⟨_,rfl,?_⟩;rw[cW];refine⟨_,aw a.cR,bR.Le a.EG ⟨_,rfl,_,aw a.cR,_,aw a.cR,_,ES mZ a.map,_,aw a.cR,_,aw a.cR,_,aw a.cR,?_⟩⟩;refine fC.set q λg j x O=>fC.ld j ?_
 have F:Fr No h g:=f1.fresh (S:=λy=>y=b) ⟨ae,λy _ u=>O y u⟩ (λy e=>ae);have K:=hk g F;rw[aJ,bz (n:=(s.next:Int) - 1) ae ae,bz ae ae,xl];exact K
def jO(s:CF)(k:Int):CF:= { BQ s k with over:=s.over+1 }
def om(s:CF)(k:Int):CF:= { BQ s k with gone:=s.gone+1 }
theorem Small.rem(S:Small s)(k:Int):Small (BQ s k):=
 ⟨S.n,cJ (cg _ _) S.l,cJ (mY _ _) S.e1,cJ (mY _ _) S.e2⟩
theorem Small.free(S:Small s)(k:Nat):Small (pQ s k):=
 ⟨S.n,by show(nf s.L k 0 0).length<=_;unfold nf;rw[aJ];exact S.l,S.e1,cJ (mY _ _) S.e2⟩
def DM(s:CF):Prop:= ∀k∈keys s.E2,∃z∈s.L,(z.num:Int)=k
theorem DM.rem(H:DM s)(k:Int):DM (BQ s k):=λj a=>by
 unfold keys at a;obtain⟨e,g,rfl⟩:=bg.1 a;obtain⟨b,d⟩:=aW.1 g;have q:e.1≠k:=by simpa using d
 obtain⟨z,u,e2⟩:=H e.1 (br b);exact⟨z,aW.2 ⟨u,by simp[e2,q]⟩,e2⟩
theorem Jr(L:List Cp)(n:Nat)(a:Int)(b:Nat){z:Cp}(H:z∈L): ∃y∈nf L n a b,y.num=z.num:=by
 unfold nf;refine⟨_,br H,?_⟩;split<;>rfl
theorem Ct.Sg(H:Ct h t X s)(S:Small s)(now:Int)(hk: ∀h' x P C,Ct h' t x { s with E1:=bR.rest s.E1 now } ->bC X h x h'->fy h' P (bR.due s.E1 now).length C 1 (kc (bR.due s.E1 now))->(∀y,aP P y->h.size<=y/\¬x.M y)->R (.slice P (bR.due s.E1 now).length C) h'):
  ∃(u:cj),aB h (AA t 5)=some (.pointer u)/\ar Tryz.prog 118 #[.pointer u,.U now] h R:=by
 obtain⟨m,xs,B,r,A,w,o,H⟩:=H;have:=S.e1;refine⟨_,aw H.cR,bR.BL H.FG ae now λd v c1 A1 o1 g f1=> ?_⟩;obtain⟨x,L,b,st,e⟩:=H.FI (s':= { s with E1:=bR.rest s.E1 now }) A1 (λc j=> .inl j) f1 rfl rfl rfl ⟨rfl,rfl,rfl,rfl⟩;refine hk d x v c1 ⟨_,_,_,_,_,_,_,b⟩ st o1 (λy a=>⟨g y a,λq=> ?_⟩);have a:=g y a;rcases e y q with h2|h2
 .have:=H.CN y ((H.mm y).1 h2);omega
 .have:=H.FG.lt h2;omega
theorem Ct.Si(H:Ct h t X s)(S:Small s)(now:Int)(hk: ∀h' x P C,Ct h' t x { s with E2:=bR.rest s.E2 now } ->bC X h x h'->fy h' P (bR.due s.E2 now).length C 1 (kc (bR.due s.E2 now))->(∀y,aP P y->h.size<=y/\¬x.M y)->R (.slice P (bR.due s.E2 now).length C) h'):
  ∃(u:cj),aB h (AA t 6)=some (.pointer u)/\ar Tryz.prog 118 #[.pointer u,.U now] h R:=by
 obtain⟨m,xs,B,r,A,w,o,H⟩:=H;have:=S.e2;refine⟨_,aw H.cR,bR.BL H.EG ae now λd v c1 A1 o1 g f1=> ?_⟩;obtain⟨x,L,b,st,e⟩:=H.FH (s':= { s with E2:=bR.rest s.E2 now }) A1 (λc j=> .inl j) f1 rfl rfl rfl ⟨rfl,rfl,rfl,rfl⟩;refine hk d x v c1 ⟨_,_,_,_,_,_,_,b⟩ st o1 (λy a=>⟨g y a,λq=> ?_⟩);have a:=g y a;rcases e y q with h2|h2
 .have:=H.CN y ((H.mm y).1 h2);omega
 .have:=H.EG.lt h2;omega
structure tG (h:ai) (X:Ft) (p:cj) (n c:Nat) (l:List Int):Prop where
 own:fy h p n c 1 (l.map fR)
 len:n=l.length
 ap: ∀y,aP p y->¬X.M y
theorem tG.step{x:Ft}(N:tG h X p n c l)(st:bC X h x h'):tG h' x p n c l:=
 ⟨N.own.frame st.fr N.ap,N.len,λy H a=>by
  rcases st.jl y a with h1|h1
  .exact N.ap y H h1
  .have:=N.own.eg H;omega⟩
theorem tG.at{K:Int->Prop}(N:tG h X p n c l)(H:l[i]? =some k)(hk:K k):
  ((0:Int)<=(i:Int)/\(i:Int)<(n:Int))/\aO p λa=> ∃t:Int,aB h (a.add (Int.toNat (i:Int)*1))=some (.I t)/\K t:=by
 have g:=(aC.1 H).1;have j:=N.len;obtain⟨b,d,e⟩:=N.own.addr ae;subst e;refine⟨⟨ae,ae⟩,ay.2 ⟨k,?_,hk⟩⟩;rw[aI,cr];exact N.own.cell (by rw[aM,H];rfl)
theorem mv(H: ∀s k,Small s->Small (f s k)): ∀(l:List Int)(s:CF),Small s->Small (l.foldl f s)
 | [],_,h=>h
 |k::l,s,h=>mv H l (f s k) (H s k h)
theorem AJ: ∀(l:List Int)(s:CF),(l.foldl jO s).over=s.over+l.length
 | [],_=>rfl
 |k::l,s=>by rw[List.foldl_cons,AJ l,ba];show s.over+1+l.length=_;omega
theorem AK: ∀(l:List Int)(s:CF),(l.foldl om s).gone=s.gone+l.length
 | [],_=>rfl
 |k::l,s=>by rw[List.foldl_cons,AK l,ba];show s.gone+1+l.length=_;omega
theorem AL: ∀(l:List Int)(s:CF),DM s->DM (l.foldl jO s)
 | [],_,h=>h
 |k::l,s,h=>AL l (jO s k) (h.rem k)
theorem rY(H:l[i]? =some k)(s:CF):(l.take (i+1)).foldl f s=f ((l.take i).foldl f s) k:=by
 rw[bL,H,List.foldl_append];rfl
def ie(s:CF)(now:Int):CF:=
 let s1:=(keys (bR.due s.E1 now)).foldl jO { s with E1:=bR.rest s.E1 now }
 (keys (bR.due s1.E2 now)).foldl (λs k=>pQ s k.toNat) { s1 with E2:=bR.rest s1.E2 now }
theorem AM: ∀(l:List Int)(s:CF)(z:Cp),z∈s.L->∃y∈(l.foldl (λs k=>pQ s k.toNat) s).L,y.num=z.num
 | [],s,z,H=>⟨z,H,rfl⟩
 |k::l,s,z,H=>by
  obtain⟨y,b,e⟩:=Jr s.L k.toNat 0 0 H;obtain⟨u,a,e2⟩:=AM l (pQ s k.toNat) y b;exact⟨u,a,e2.trans e⟩
theorem yh(L:List E)(now:Int):(bR.rest L now).length<=L.length:=(List.dropWhile_sublist _).length_le
theorem oj(H:Ct h t X s)(d:Small s)(ho:s.over<=40000)(hE:DM s)(now:Int)(hk: ∀h' D E K,Ct h' t D (ie s now)->bC X h D h'->tG h' D E (bR.due s.E1 now).length K (keys (bR.due s.E1 now))->(∀y,aP E y->h.size<=y)->R (.slice E (bR.due s.E1 now).length K) h'):
  ar Tryz.prog 53 #[.P t 0,.U now] h R:=by
 have n':(bR.due s.E1 now).length<=s.E1.length:=(List.takeWhile_sublist _).length_le;have l':=d.e1;have hm: ∀{R:fx},R (.bool true) h->ar Tryz.prog 47 #[.P t 0] h R:=λhk=>by
  obtain⟨m,xs,B,r,A,w,o,H⟩:=H;exact fI H hk
 refine tC.walk (hm ⟨_,rfl,?_⟩);rw[cW];refine H.Sg d now λh2 I P C H2 k' o2 Q=>⟨_,_,_,rfl,?_⟩
 have f':Small { s with E1:=bR.rest s.E1 now } :=⟨d.n,d.l,cJ (yh _ _) d.e1,d.e2⟩;have kl:(keys (bR.due s.E1 now)).length=(bR.due s.E1 now).length:=by unfold keys;rw[aJ]
 have N2:tG h2 I P (bR.due s.E1 now).length C (keys (bR.due s.E1 now)):=⟨o2,kl.symm,λy b=>(Q y b).2⟩;have j': ∀(s:CF) k,Small s->Small (jO s k):=λs k h=>⟨(h.rem k).n,(h.rem k).l,(h.rem k).e1,(h.rem k).e2⟩
 refine⟨λu g=> ∃(i:Nat)(x:Ft),u=(i:Int)/\i<=(bR.due s.E1 now).length/\Ct g t x (((keys (bR.due s.E1 now)).take i).foldl jO { s with E1:=bR.rest s.E1 now })/\bC X h x g/\tG g x P (bR.due s.E1 now).length C (keys (bR.due s.E1 now)),λu _=>(bR.due s.E1 now).length - u.toNat,⟨0,I,rfl,bP _,H2,k',N2⟩,?_⟩;rintro _ g ⟨i,x,rfl,hi,q,a',N⟩;have S:=mv j' ((keys (bR.due s.E1 now)).take i) _ f';by_cases c':i<(bR.due s.E1 now).length
 .rw[fO];have a:(keys (bR.due s.E1 now))[i]? =some ((keys (bR.due s.E1 now))[i]' ae):=aj _;generalize (keys (bR.due s.E1 now))[i]' ae=k at a;refine N.at a (na q S k λg3 X3 H3 W=>⟨rfl,H3.Se ?_ λg4 H4 Y=> ?_⟩)
  .show(((keys (bR.due s.E1 now)).take i).foldl jO { s with E1:=bR.rest s.E1 now }).over<=100000;rw[AJ,bF];show s.over+_<=100000;omega
  .rw[bz ae ae];refine⟨⟨i+1,X3,ae,ae,?_,a'.trans (W.trans Y),(N.step W).step Y⟩,by show(bR.due s.E1 now).length - Int.toNat ((i:Int)+1)<(bR.due s.E1 now).length - i;omega⟩;rw[rY a];exact H4
 .rw[ag (by simp;omega)];obtain rfl:i=(bR.due s.E1 now).length:=ae
  have ta:(keys (bR.due s.E1 now)).take (bR.due s.E1 now).length=keys (bR.due s.E1 now):=bG ae;rw[ta]at q S;have U:DM ((keys (bR.due s.E1 now)).foldl jO { s with E1:=bR.rest s.E1 now }):=AL _ _ hE;generalize d':(keys (bR.due s.E1 now)).foldl jO { s with E1:=bR.rest s.E1 now } =s1 at q S U;refine q.Si S now λh6 J V L H6 Z o6 g6=>⟨_,_,_,rfl,?_⟩
  have e':(keys (bR.due s1.E2 now)).length=(bR.due s1.E2 now).length:=by unfold keys;rw[aJ]
  have g':Small { s1 with E2:=bR.rest s1.E2 now } :=⟨S.n,S.l,S.e1,cJ (yh _ _) S.e2⟩;have N6:tG h6 J V (bR.due s1.E2 now).length L (keys (bR.due s1.E2 now)):=⟨o6,e'.symm,λy b=>(g6 y b).2⟩;have m':=S.e2;have o':(bR.due s1.E2 now).length<=s1.E2.length:=(List.takeWhile_sublist _).length_le;refine⟨λu g=> ∃(i:Nat)(x:Ft),u=(i:Int)/\i<=(bR.due s1.E2 now).length/\Ct g t x (((keys (bR.due s1.E2 now)).take i).foldl (λs k=>pQ s k.toNat) { s1 with E2:=bR.rest s1.E2 now })/\bC X h x g/\tG g x V (bR.due s1.E2 now).length L (keys (bR.due s1.E2 now))/\tG g x P (bR.due s.E1 now).length C (keys (bR.due s.E1 now)),λu _=>(bR.due s1.E2 now).length - u.toNat,⟨0,J,rfl,bP _,H6,a'.trans Z,N6,N.step Z⟩,?_⟩;rintro _ g7 ⟨j,X7,rfl,hj,v,LG,G,M⟩;have i':=mv (f:=λs k=>pQ s k.toNat) (λs k h=>h.free k.toNat) ((keys (bR.due s1.E2 now)).take j) _ g';by_cases c':j<(bR.due s1.E2 now).length
  .rw[fO];have a:(keys (bR.due s1.E2 now))[j]? =some ((keys (bR.due s1.E2 now))[j]' ae):=aj _;generalize (keys (bR.due s1.E2 now))[j]' ae=k at a;have b':k∈keys s1.E2:=by
    have T:=bj a;unfold keys at T⊢;obtain⟨e,he,rfl⟩:=bg.1 T;exact br ((List.takeWhile_sublist _).subset he)
   obtain⟨z,hz,ez⟩:=U k b';obtain⟨y,b,ey⟩:=AM ((keys (bR.due s1.E2 now)).take j) { s1 with E2:=bR.rest s1.E2 now } z hz;have O:k=(y.num:Int):=by rw[ey];exact ez.symm
   refine G.at a ?_;rw[O];refine Hd v i' b λg8 X8 H8 F=>⟨rfl,?_⟩
   rw[bz ae ae];refine⟨⟨j+1,X8,ae,ae,?_,LG.trans F,G.step F,M.step F⟩,by show(bR.due s1.E2 now).length - Int.toNat ((j:Int)+1)<(bR.due s1.E2 now).length - j;omega⟩;rw[rY a,O,aI];exact H8
  .rw[ag (by simp;omega)];obtain rfl:j=(bR.due s1.E2 now).length:=ae
   rw[bG ae]at v;refine hk g7 X7 P C ?_ LG M (λy b=>(Q y b).1);unfold ie;rw[d'];exact v
def vW(s:CF)(x:Ev):CF:=((kq s.L x).map (λz=>(z.num:Int))).foldl om s
theorem N1(H:Cm h t X s m xs B r A w o)(x:Ev):jS (xs.filter (λy=>decide (y.e=x)))=(kq s.L x).map (λz=>(z.num:Int)):=by
 unfold kq jS;rw[<-H.abs,dk,dH];rfl
theorem oi(H:Ct h t X s)(S:Small s)(ho:s.gone<=40000)(x:Ev)(hk: ∀h' e P D,Ct h' t e (vW s x)->bC X h e h'->tG h' e P (kq s.L x).length D ((kq s.L x).map (λz=>(z.num:Int)))->(∀y,aP P y->h.size<=y)->R (.slice P (kq s.L x).length D) h'):
  ar Tryz.prog 99 #[.P t 0,ku x] h R:=by
 have K:=H;obtain⟨m,xs,B,r,A,w,o,H⟩:=H;have sl:=S.l;have xl:=H.len;refine tD.walk (ax.box λb T eb V f1=>ax.ld V (AF (H.on f1) x ae λU v C o2 G f2=>⟨_,_,_,rfl,?_⟩));have F:=f1.tt f2;have z1:=f1.1;rw[FO H x,N1 H x]at o2;rw[FO H x];have ol:(kq s.L x).length<=s.L.length:=cg _ _;have kl:((kq s.L x).map (λz=>(z.num:Int))).length=(kq s.L x).length:=aJ _;have O:tG U X v (kq s.L x).length C ((kq s.L x).map (λz=>(z.num:Int))):=⟨o2,kl.symm,λy q W=>by
  have T:=G y q;have:=H.CN y ((H.mm y).1 W);omega⟩
 have Y: ∀(s:CF) k,Small s->Small (om s k):=λs k h=>⟨(h.rem k).n,(h.rem k).l,(h.rem k).e1,(h.rem k).e2⟩
 refine⟨λu g=> ∃(i:Nat)(a:Ft),u=(i:Int)/\i<=(kq s.L x).length/\Ct g t a ((((kq s.L x).map (λz=>(z.num:Int))).take i).foldl om s)/\bC X h a g/\tG g a v (kq s.L x).length C ((kq s.L x).map (λz=>(z.num:Int))),λu _=>(kq s.L x).length - u.toNat,⟨0,X,rfl,bP _,K.on F,bC.hM F,O⟩,?_⟩;rintro _ g ⟨i,a,rfl,hi,d,J,N⟩;have Z:=mv Y (((kq s.L x).map (λz=>(z.num:Int))).take i) _ S;by_cases a':i<(kq s.L x).length
 .rw[fO];have j:((kq s.L x).map (λz=>(z.num:Int)))[i]? =some (((kq s.L x).map (λz=>(z.num:Int)))[i]' ae):=aj _;generalize ((kq s.L x).map (λz=>(z.num:Int)))[i]' ae=k at j;refine N.at j (na d Z k λg3 Q L E=>⟨rfl,L.Sf ?_ λg4 M I=> ?_⟩)
  .show((((kq s.L x).map (λz=>(z.num:Int))).take i).foldl om s).gone<=100000;rw[AK,bF];omega
  .rw[bz ae ae];refine⟨⟨i+1,Q,ae,ae,?_,J.trans (E.trans I),(N.step E).step I⟩,by show(kq s.L x).length - Int.toNat ((i:Int)+1)<(kq s.L x).length - i;omega⟩;rw[rY j];exact M
 .rw[ag (by simp;omega)];obtain rfl:i=(kq s.L x).length:=ae
  rw[bG ae]at d;exact hk g a v C d J N (λy q=>cf (G y q))
abbrev LH:Value:=.agg #[.int .i64 0,.bool false,.int .u64 0,.int .u64 0,.string ⟨#[]⟩,.string ⟨#[]⟩,.slice none 0 0,.int .u64 0,.int .i64 0,.int .u64 0]
abbrev Cp.val(z:Cp)(p:cj)(c:Nat):Value:=.agg #[.int .i64 (z.num:Int),.bool z.e.kH,.int .u64 z.e.node,.int .u64 z.e.gH,.string z.e.host,.string z.e.jD,.slice p z.d.length c,.int .u64 (z.bX:Int),.int .i64 z.ses,.int .u64 (z.dl:Int)]
def qT(ses:Int)(dl:Nat):Prop:=1<=ses/\ses<=1099511627776/\dl<=1099511627776
def jP(L:List Cp)(x:Ev):Option Cp:=(kq L x).find? (λz=>decide (z.ses=0))
def lL(s:CF)(z:Cp)(ses:Int)(dl:Nat):CF:= { s with L:=nf s.L z.num ses dl,E2:=xR s.E2 (z.num:Int) (dl:Int) }
theorem FP(hk:R (.bool (decide (1<=k/\k<=1099511627776))) h):ar Tryz.prog 192 #[.I k] h R:=by
 refine uM.walk ?_;by_cases q:1<=k
 .have Q:k≥1:=q;simp only[Q,bA,bh];simp only[q,true_and]at hk;exact hk
 .have Q: ¬k≥1:=q;simp only[Q,bk,au,aN];simp only[q,false_and,bk]at hk;exact hk
theorem Js(H:Ct h t X s)(sm:Small s)(hb: ∀z∈s.L,1<=z.num/\z.num<s.next/\z.d.length<=600)(x:Ev)(ses:Int)(dl:Nat)(K':k=(dl:Int))(k1: ¬qT ses dl->gW h R (.tuple #[LH,.I 1]))(k2:qT ses dl->jP s.L x=none->gW h R (.tuple #[LH,.I 4]))(k3:qT ses dl->∀z,jP s.L x=some z->∀h' P p' c',Ct h' t P (lL s z ses dl)->bC X h P h'->Row h' p' (bc z.d)->z.d.length<=c'->(∀y,aP p' y->h.size<=y/\¬(P.M y\/P.D y))->R (.tuple #[({ z with ses:=ses,dl:=dl } :Cp).val p' c',.I 0]) h'):
  ar Tryz.prog 156 #[.P t 0,ku x,.I ses,.U k] h R:=by
 subst K';obtain⟨m,xs,B,r,A,w,o,H⟩:=H;have sn:=sm.n;have sl:=sm.l;have se:=sm.e2;have xl:=H.len;refine rW.walk (ax.box λb h1 e1 V f1=>aL.box λq L e2 e' f2=> ?_);have z1:=aF V;have z2:=aF e';have f12:=f1.tt f2;have V:=f2.get V id;refine fI (H.on f12) ⟨_,rfl,?_⟩;rw[cW];have WN:=f1.1;have fin: ∀g (e:Int),Fr No L g->(gW h R (.tuple #[LH,.I e]))->aL.ST g (AA q 0) 0 false 0 0 gi gi none 0 0 0 0 0 λQ=>aL.LD Q (AA q 0) λO' P' Q' R' S' T' W' V' U' X' Y' Z'=>
   R (.tuple #[.agg #[.I O',.bool P',.U Q',.U R',.string S',.string T',.slice W' V' U',.U X',.I Y',.U Z'],.I e]) Q:=λg e fg hk=>
  aL.set (fg.get e' id) λQ A s2 o2=>aL.ld A (hk Q ((f12.tt fg).fresh (S:=λy=>y=q) ⟨ae,λy _ D=>o2 y D⟩ (λy e=>ae)))
 refine aK.of λy' hJ=>FP ⟨_,rfl,?_⟩
 have bad: ¬qT ses dl->y' true L:=λD=>by
  subst hJ;simp only[bh];exact fin L 1 (Fr.refl _ _) (k1 D)
 by_cases q1:1<=ses/\ses<=1099511627776
 .rw[aq q1,cW];by_cases q2:(dl:Int)>1099511627776
  .rw[aq q2];exact bad (λhm=>cf hm.2.2)
  .rw[az q2];clear bad;subst hJ;simp only[au,aN];have hm:qT ses dl:=⟨q1.1,q1.2,ae⟩;refine ax.ld V (AF (H.on f12) x ae λF p7 c7 o7 g7 f7=>⟨_,_,_,rfl,?_⟩);have Z:=f12.tt f7;have O:=H.on Z;have o':=f7.get e' id;have hF:(xs.filter (λy=>decide (y.e=x))).map CV.abs=kq s.L x:=by unfold kq;rw[<-H.abs,dk];rfl
   generalize r':xs.filter (λy=>decide (y.e=x))=C at o7 hF;have nl:(jS C).length=C.length:=by unfold jS;rw[aJ]
   have fl:C.length<=xs.length:=by rw[<-r'];exact cg _ _
   refine⟨λu g=>g=F/\∃i:Nat,u=(i:Int)/\i<=C.length/\∀j y,j<i->C[j]? =some y->y.ses≠0,λu _=>C.length - u.toNat,⟨rfl,0,rfl,bP _,λj y G=>ae⟩,?_⟩;rintro _ F ⟨rfl,i,rfl,hi,d'⟩;by_cases q':i<C.length
   .rw[fO];have d:C[i]? =some C[i]:=aj q';generalize C[i]=y at d;have M:y∈xs:=by
     have:=bj d;rw[<-r']at this;exact(aW.1 this).1
    obtain⟨ab,ao,rfl⟩:=o7.addr ae;have cc:=o7.cell (j:=i) (v:=fR (y.num:Int)) (by rw[aM];unfold jS;rw[aM,d];rfl);have L7:=look O M;have ca:=O.DL y M;simp only[aI,cr];refine⟨⟨ae,ae⟩,ay.2 ⟨_,cc,_,aw O.cR,_,L7,ay.2 ⟨_,aw ca,?_⟩⟩⟩;by_cases W:y.ses=0
    .rw[af (cD W)];have M':jP s.L x=some y.abs:=by
      unfold jP;rw[<-hF,List.find?_map];have:C.find? ((λz:Cp=>decide (z.ses=0)) ∘ CV.abs)=some y:=by
       rw[List.find?_eq_some_iff_getElem];refine⟨by simp[CV.abs,W],i,q',(aC.1 d).2,λj G=> ?_⟩;have N:=d' j (C[j]' ae) G (aj ae);have N':decide ((C[j]' ae).abs.ses=0)=false:=az N;show(!decide ((C[j]' ae).abs.ses=0))=true;rw[N'];rfl
      rw[this];rfl
     have f':=hb y.abs (by rw[<-H.abs];exact br M);have WO:1<=y.num:=f'.1;have WQ:y.num<s.next:=f'.2.1;have WR:y.v.b.length<=600:=f'.2.2;refine ay.2 (O.AH (ses:=ses) (dl:=dl) M λTJ a' TK=>⟨_,aw a'.cR,?_⟩);have L':may (y.num:Int) (dl:Int)=true:=kN.2 ⟨ae,ae,ae⟩;refine bR.Fl a'.EG (by show s.E2.length<_;omega) (y.num:Int) (dl:Int) ae (λ_ l' WS x' G' f11=>⟨_,rfl,?_⟩) (λhx=>absurd L' (by rw[hx];simp));obtain⟨E,Ve,b',N4,_⟩:=a'.FH (s':=lL s y.abs ses dl) x' G' f11 rfl rfl rfl ⟨rfl,rfl,rfl,rfl⟩;have t':({ y with ses:=ses,dl:=dl } :CV)∈xs.map (λz=>if z.num=y.num then({ y with ses:=ses,dl:=dl } :CV)else z):=bg.2 ⟨y,M,af rfl⟩;have k':=b'.DL _ t';have F':=b'.BN _ t';refine ay.2 (aL.ld k' (aL.new λJ m' WT n' f13=>ay.2 ⟨_,_,_,aw (f13.get k' id),gK ((F'.row).frame f13 (λ_ _=>id)) rfl (by show y.v.b.length<=_;omega) λY j' H' v' f14 K=>⟨_,_,_,rfl,?_⟩⟩));have qG:=TK.trans N4;have WU:F.size<=l'.size:=qG.fr.1;have WV:=f13.1;refine bB (f14.get n' id) bM λT D' WW g'=> ?_
     have I':aL.at T J (y.num:Int) y.e.kH y.e.node y.e.gH y.e.host y.e.jD Y y.v.b.length j' (y.bX:Int) ses (dl:Int):=D';refine aL.ld I' ?_;have nM: ∀y,y<F.size->h.size<=y->¬E.M y:=λy y1 y2 hm=>by
      rcases qG.jl y hm with h3|h3
      .have:=H.CN y ((H.mm y).1 h3);omega
      .omega
     have Sj:q<F.size:=aF o';have C': ¬X.M q:=λhm=>by have:=H.CN q ((H.mm q).1 hm);omega
     have J':aL.at T q 0 false 0 0 ⟨#[]⟩ ⟨#[]⟩ none 0 0 0 0 0:=by
      have h3:=qG.fr.get o' C';have h4:=(f13.tt f14).get h3 id;have:q≠J:=ae
      unfold aL.at;rw[g' q this];exact h4
     refine aL.set J' λU E' WX w'=>aL.ld E' ?_
     have VG: ∀y,aP Y y->m'.size<=y:=K;have fA:Fr (λy=>y=J) H' T:=⟨ae,λy _ D=>g' y D⟩;have fB:Fr (λy=>y=q) T U:=⟨ae,λy _ D=>w' y D⟩;have VH:J<m'.size:=aF n';have Sk:Row U Y (bc y.v.b):=((v'.iT).frame fA (λa ea hm=>by have:=K a.block ⟨a,ea,rfl⟩;have hm:a.block=J:=hm;omega)).frame fB (λa ea hm=>by have:=K a.block ⟨a,ea,rfl⟩;have hm:a.block=q:=hm;omega);have i':Ct l' t E (lL s y.abs ses dl):=⟨_,_,_,_,_,_,_,b'⟩;have u':=λy (d:E.M y\/E.D y)=>i'.lt y d
     have z':=i'.on (f13.tt f14);have A':=z'.frame fA (λy d e=>cf (u' y d));have d2: ¬(E.M q\/E.D q):=λhm=>by
      rcases hm with hm|hm
      .exact nM q Sj ae hm
      .rcases qG.lB q hm with h3|h3
       .have:=(H.dd q h3).2;omega
       .omega
     have B':=A'.frame fB (λy d e=>d2 (e▸d));have I:=bC.no Z qG;have VI:bC X h E U:=by
      refine⟨⟨ig f14.1 I.fr.1,λy d D=> ?_⟩,I.jl,I.lB,I.wg⟩;have:=I.fr.1;rw[w' y ae,g' y ae,(f13.tt f14).2 y ae id];exact I.fr.2 y d D
     exact k3 hm y.abs M' U E Y j' B' VI Sk v'.le (λy d=>⟨ig (K y d) Z.1,λhx=>ig (u' y hx) (K y d)⟩)
    .rw[ag (cD W),bz ae ae];refine⟨⟨by first|trivial|rfl,i+1,ae,ae,λj z G N=> ?_⟩,by show C.length - Int.toNat ((i:Int)+1)<C.length - i;omega⟩;by_cases ej:j=i
     .subst ej;rw[d]at N;cases N;exact W
     .exact d' j z ae N
   .rw[ag (by simp;omega)];refine fin F 4 f7 (k2 hm ?_);unfold jP;rw[<-hF,List.find?_map];have:C.find? ((λz:Cp=>decide (z.ses=0)) ∘ CV.abs)=none:=by
     rw[List.find?_eq_none];intro y d;obtain⟨j,G⟩:=bx d;have:=d' j y (cf ((aC.1 G).1)) G;have L:decide (y.abs.ses=0)=false:=az this;show¬(decide (y.abs.ses=0)=true);rw[L];decide
    rw[this];rfl
 .rw[az q1,fO];exact bad (λhm=>q1 ⟨hm.1,hm.2.1⟩)

end eZ
end
section
open Go.jC
namespace eZ
open jc bR kk
variable {h:ai} {t:Nat} {X:Ft} {s s':CF} {n:Nat} {now:Int}
variable {z:Cp} {L:List Cp} {k a ses:Int} {e:E} {b:Nat} {K:List Int}
structure Ord (s:CF):Prop where
 nd:(s.L.map Cp.num).Nodup
 o1:iI s.E1
 o2:iI s.E2
 n1:(keys s.E1).Nodup
 n2:(keys s.E2).Nodup
theorem Ct.ord(H:Ct h t X s):Ord s:=by
 obtain⟨m,xs,A,S,d,c,l,H⟩:=H;refine⟨?_,H.FG.sorted,H.EG.sorted,H.FG.nodup,H.EG.nodup⟩;rw[<-H.abs,dH];exact H.so.imp (λh=>Nat.ne_of_lt h)
structure oS (s:CF):Prop where
 bd: ∀z∈s.L,1<=z.num/\z.num<s.next/\z.d.length<=600
 sp: ∀z∈s.L,0<=z.ses
 e1: ∀e,e∈s.E1↔ ∃z∈s.L,e=((z.num:Int),(z.bX:Int))
 e2: ∀e,e∈s.E2↔ ∃z∈s.L,z.ses≠0/\e=((z.num:Int),(z.dl:Int))
 xX:s.next=1+s.L.length+s.fw+s.over+s.gone
theorem Ord.inj(O:Ord s){y:Cp}(m:z∈s.L)(l:y∈s.L)(e:z.num=y.num):z=y:=by
 obtain⟨i,H⟩:=bx m;obtain⟨j,c⟩:=bx l;have o:=(aC.1 H).1;by_cases d:i=j
 .subst d;rw[H]at c;exact bn c
 .exfalso;have f:(s.L.map Cp.num)[i]? =some z.num:=by rw[aM,H];rfl
  have g:(s.L.map Cp.num)[j]? =some y.num:=by rw[aM,c];rfl
  have:i=j:=(dR (by rw[aJ];exact o) O.nd).1 (f.trans ((bY some e).trans g.symm));exact d this
theorem qu{L:List E}:e∈fk L k↔e∈L/\e.1≠k:=by unfold fk;simp[aW]
theorem DN{L:List E}{v:Int}:e∈xR L k v↔e=(k,v)\/(e∈L/\e.1≠k):=by
 unfold xR;rw[(kM _ _).mem_iff,bD,qu]
theorem lM :z∈yg L k↔z∈L/\(z.num:Int)≠k:=by unfold yg;simp[aW]
theorem lO :z∈nf L n a b↔ ∃y∈L,z=if y.num=n then { y with ses:=a,dl:=b } else y:=by
 unfold nf;rw[bg];exact⟨λ⟨y,H,c⟩=>⟨y,H,c.symm⟩,λ⟨y,H,c⟩=>⟨y,H,c.symm⟩⟩
theorem LI(L:List Cp)(n:Nat)(a:Int)(b:Nat):(nf L n a b).length=L.length:=by unfold nf;rw[aJ]
theorem te: ∀{L:List Cp},(L.map Cp.num).Nodup->∀{z:Cp},z∈L->(yg L (z.num:Int)).length+1=L.length
 | [],_,z,hz=>by cases hz
 |y::l,nd,z,hz=>by
  rw[bV,en]at nd;unfold yg;rw[bU];rcases bD.1 hz with rfl|hz
  .rw[ag bM,cb.2 (λx H=> ?_),ba];have:x.num≠z.num:=λe=>nd.1 (by rw[<-e];exact br H)
   simp;omega
  .have c:y.num≠z.num:=λe=>nd.1 (by rw[e];exact br hz)
   rw[af (by simp;omega),ba,ba];have:=te nd.2 hz;unfold yg at this;omega
theorem oS.add(ok:oS s)(x:Ev)(d:List UInt8)(bX:Nat):oS (jx s x d bX):=by
 unfold jx;by_cases H:ia s x d bX=0
 .rw[af H];have hd:d.length<=600:=by
   unfold ia at H;split at H
   .rename_i f;unfold tF at f;simp only[aT,aY]at f;exact f.2.2.2.1
   .cases H
  refine⟨λz hz=> ?_,λz hz=> ?_,λe=> ?_,λe=> ?_,?_⟩
  .rcases bJ.1 hz with hz|hz
   .have:=ok.bd z hz;exact⟨this.1,Nat.lt_succ_of_lt this.2.1,this.2.2⟩
   .obtain rfl:=bH.1 hz;exact⟨by have:=ok.xX;show 1<=s.next;omega,Nat.lt_succ_self _,hd⟩
  .rcases bJ.1 hz with hz|hz
   .exact ok.sp z hz
   .obtain rfl:=bH.1 hz;exact dW _
  .show e∈xR s.E1 _ _↔ ∃z∈s.L++ [_],_;rw[DN,ok.e1];constructor
   .rintro(rfl|⟨⟨z,hz,rfl⟩,_⟩)
    .exact⟨_,bJ.2 (.inr (bH.2 rfl)),rfl⟩
    .exact⟨z,bJ.2 (.inl hz),rfl⟩
   .rintro⟨z,hz,rfl⟩;rcases bJ.1 hz with hz|hz
    .exact .inr ⟨⟨z,hz,rfl⟩,by have:=(ok.bd z hz).2.1;show(z.num:Int)≠_;omega⟩
    .obtain rfl:=bH.1 hz;exact .inl rfl
  .show e∈s.E2↔ ∃z∈s.L++ [_],_;rw[ok.e2];constructor
   .rintro⟨z,hz,c⟩;exact⟨z,bJ.2 (.inl hz),c⟩
   .rintro⟨z,hz,c⟩;rcases bJ.1 hz with hz|hz
    .exact⟨z,hz,c⟩
    .obtain rfl:=bH.1 hz;exact absurd rfl c.1
  .have:=ok.xX;show s.next+1=1+(s.L++ [_]).length+s.fw+s.over+s.gone;rw[aA,dy];omega
 .rw[ag H];exact ok
theorem oS.rem(ok:oS s)(O:Ord s)(l:z∈s.L)(c:s'.L=yg s.L (z.num:Int))(i:s'.E1=fk s.E1 (z.num:Int))(j:s'.E2=fk s.E2 (z.num:Int))(g:s'.next=s.next)(m:s'.fw+s'.over+s'.gone=s.fw+s.over+s.gone+1):oS s':=by
 refine⟨λy H=> ?_,λy H=> ?_,λe=> ?_,λe=> ?_,?_⟩
 .rw[c,lM]at H;rw[g];exact ok.bd y H.1
 .rw[c,lM]at H;exact ok.sp y H.1
 .rw[i,qu,ok.e1,c];constructor
  .rintro⟨⟨y,H,rfl⟩,d⟩;exact⟨y,lM.2 ⟨H,d⟩,rfl⟩
  .rintro⟨y,H,rfl⟩;have:=lM.1 H;exact⟨⟨y,this.1,rfl⟩,this.2⟩
 .rw[j,qu,ok.e2,c];constructor
  .rintro⟨⟨y,H,f,rfl⟩,d⟩;exact⟨y,lM.2 ⟨H,d⟩,f,rfl⟩
  .rintro⟨y,H,f,rfl⟩;have:=lM.1 H;exact⟨⟨y,this.1,f,rfl⟩,this.2⟩
 .have:=te O.nd l;have:=ok.xX;rw[g,c];omega
theorem DO(h:iP L k ses=0): ∃z∈L,(z.num:Int)=k/\z.ses=ses/\ses≠0:=by
 unfold iP at h;cases c:uT L k with
 |none=>rw[c]at h;cases h
 |some z=>
  rw[c]at h;dsimp only at h;split at h
  .cases h
  .rename_i H;obtain⟨d,f⟩:=uV c;refine⟨z,d,f,?_,?_⟩<;>(simp only[not_or,Decidable.not_not]at H)
   .exact H.2
   .rw[<-H.2];exact H.1
theorem oS.TL(ok:oS s)(O:Ord s)(k ses:Int):oS (kR s k ses):=by
 unfold kR;by_cases H:iP s.L k ses=0
 .rw[af H];obtain⟨z,c,rfl,_,_⟩:=DO H;exact ok.rem O c rfl rfl rfl rfl (by show s.fw+1+s.over+s.gone=_;omega)
 .rw[ag H];exact ok
theorem oS.set(ok:oS s)(O:Ord s)(p:z∈s.L)(o:0<=a)(f:s'.L=nf s.L z.num a b)(i:s'.E1=s.E1)(j: ∀e,e∈s'.E2↔(a≠0/\e=((z.num:Int),(b:Int)))\/(e∈s.E2/\e.1≠(z.num:Int)))(g:s'.next=s.next)(q:s'.fw+s'.over+s'.gone=s.fw+s.over+s.gone):oS s':=by
 refine⟨λy H=> ?_,λy H=> ?_,λe=> ?_,λe=> ?_,?_⟩
 .rw[f,lO]at H;obtain⟨u,c,rfl⟩:=H;rw[g];have:=ok.bd u c;split<;>exact this
 .rw[f,lO]at H;obtain⟨u,c,rfl⟩:=H;split
  .exact o
  .exact ok.sp u c
 .rw[i,ok.e1,f];constructor
  .rintro⟨y,H,rfl⟩;refine⟨_,lO.2 ⟨y,H,rfl⟩,?_⟩;split<;>rfl
  .rintro⟨y,H,rfl⟩;obtain⟨u,c,rfl⟩:=lO.1 H;refine⟨u,c,?_⟩;split<;>rfl
 .rw[j,ok.e2,f];constructor
  .rintro(⟨l,rfl⟩|⟨⟨y,H,d,rfl⟩,m⟩)
   .refine⟨_,lO.2 ⟨z,p,rfl⟩,?_⟩;rw[af rfl];exact⟨l,rfl⟩
   .refine⟨_,lO.2 ⟨y,H,rfl⟩,?_⟩;rw[ag (λe=>m (by rw[e]))];exact⟨d,rfl⟩
  .rintro⟨y,H,d,rfl⟩;obtain⟨u,c,rfl⟩:=lO.1 H;by_cases e:u.num=z.num
   .rw[af e]at d⊢;exact .inl ⟨d,by rw[<-e]⟩
   .rw[ag e]at d⊢;exact .inr ⟨⟨u,c,d,rfl⟩,by show(u.num:Int)≠_;omega⟩
 .have:=ok.xX;rw[g,f,LI];omega
theorem oS.rel(ok:oS s)(O:Ord s)(k ses:Int):oS (wJ s k ses):=by
 unfold wJ;by_cases H:iP s.L k ses=0
 .rw[af H];obtain⟨z,c,rfl,_,_⟩:=DO H;rw[aI];refine ok.set O c (dW 0) rfl rfl (λe=> ?_) rfl rfl;show e∈fk _ _↔_;rw[qu];simp
 .rw[ag H];exact ok
theorem FQ{x:Ev}(h:jP L x=some z):z∈L/\z.e=x/\z.ses=0:=by
 unfold jP kq at h;have H:=List.mem_of_find?_eq_some h;have c:=List.find?_some h;rw[aW]at H;exact⟨H.1,cD H.2,by simpa using c⟩
theorem oS.AH(ok:oS s)(O:Ord s)(c:z∈s.L){dl:Nat}(H:qT ses dl):oS (lL s z ses dl):=by
 have d:=H.1;refine ok.set O c ae rfl rfl (λe=> ?_) rfl rfl;show e∈xR _ _ _↔_;rw[DN];have:ses≠0:=ae
 simp[this]
theorem fJ: ∀{L:List E},iI L->bR.due L now=L.filter (iM now)/\bR.rest L now=L.filter (λe=> !iM now e)
 | [],_=>⟨rfl,rfl⟩
 |e::r,g=>by
  have f:=dx.1 g;obtain⟨i1,i2⟩:=fJ (L:=r) f.2;unfold bR.due at i1⊢;unfold bR.rest at i2⊢;by_cases d:iM now e=true
  .rw[List.takeWhile_cons,List.dropWhile_cons,bU,bU,d];simp only[bh,cQ,au,aN];rw[i1,i2];exact⟨rfl,rfl⟩
  .have c:iM now e=false:=by simpa using d
   have all: ∀x∈r,iM now x=false:=by
    intro x H;have h1:=f.1 x H;unfold iM at c⊢;have i:=fj c;apply az
    rcases h1 with h1|h1<;>omega
   rw[List.takeWhile_cons,List.dropWhile_cons,bU,bU,c];simp only[au,aN,eh,bh];refine⟨?_,?_⟩
   .symm;rw[List.filter_eq_nil_iff];intro x H;rw[all x H];simp
   .congr 1;symm;rw[cb];intro x H;rw[all x H];rfl
def rZ(L:List Cp)(K:List Int):List Cp:=L.filter (λz=> !decide ((z.num:Int)∈K))
def nh(L:List E)(K:List Int):List E:=L.filter (λe=> !decide (e.1∈K))
theorem yi(L:List Cp):rZ L []=L:=by unfold rZ;exact cb.2 (λ_ _=>bM)
theorem pR(L:List E):nh L []=L:=by unfold nh;exact cb.2 (λ_ _=>bM)
theorem uY(L:List Cp)(k:Int)(K:List Int):rZ (yg L k) K=rZ L (k::K):=by
 unfold rZ yg;rw[List.filter_filter];apply dG
 intro x _;by_cases H:(x.num:Int)=k
 .simp[H]
 .by_cases c:(x.num:Int)∈K<;>simp[H,c]
theorem ni(L:List E)(k:Int)(K:List Int):nh (fk L k) K=nh L (k::K):=by
 unfold nh fk;rw[List.filter_filter];apply dG
 intro x _;by_cases H:x.1=k
 .simp[H]
 .by_cases c:x.1∈K<;>simp[H,c]
theorem AN: ∀(K:List Int)(s:CF),K.foldl jO s= { s with L:=rZ s.L K,E1:=nh s.E1 K,E2:=nh s.E2 K,over:=s.over+K.length }
 | [],s=>by rw[yi,pR,pR];rfl
 |k::K,s=>by
  rw[List.foldl_cons,AN K];unfold jO BQ;dsimp only;rw[uY,ni,ni,ba];congr 1;omega
theorem uZ: ∀(K:List Int)(s:CF),K.foldl om s= { s with L:=rZ s.L K,E1:=nh s.E1 K,E2:=nh s.E2 K,gone:=s.gone+K.length }
 | [],s=>by rw[yi,pR,pR];rfl
 |k::K,s=>by
  rw[List.foldl_cons,uZ K];unfold om BQ;dsimp only;rw[uY,ni,ni,ba];congr 1;omega
def lP(L:List Cp)(K:List Int):List Cp:=L.map (λz=>if(z.num:Int)∈K then { z with ses:=0,dl:=0 } else z)
theorem AO: ∀(K:List Int)(s:CF),(∀k∈K,0<=k)->K.foldl (λs k=>pQ s k.toNat) s= { s with L:=lP s.L K,E2:=nh s.E2 K }
 | [],s,_=>by
  rw[pR];have:lP s.L []=s.L:=by unfold lP;simp
  rw[this];rfl
 |k::K,s,f=>by
  rw[List.foldl_cons,AO K _ (λj g=>f j (cu _ g))];have hk:=f k bM;unfold pQ;dsimp only;have e:((k.toNat:Nat):Int)=k:=ae
  rw[e,ni];have:lP (nf s.L k.toNat 0 0) K=lP s.L (k::K):=by
   unfold lP nf;rw[dH];apply dS
   intro x _;show(λz:Cp=>if(z.num:Int)∈K then({ z with ses:=0,dl:=0 } :Cp)else z) (if x.num=k.toNat then({ x with ses:=0,dl:=0 } :Cp)else x)=_;by_cases d:x.num=k.toNat
   .have c:(x.num:Int)=k:=ae
    rw[af d,af (show(x.num:Int)∈k::K by rw[c];simp)];dsimp only;split<;>rfl
   .have c:(x.num:Int)≠k:=ae
    rw[ag d];dsimp only;by_cases H:(x.num:Int)∈K
    .rw[af H,af (cu _ H)]
    .rw[ag H,ag (by simp[c,H])]
  rw[this]
theorem He: ∀(K:List Int)(L:List Cp),(L.map Cp.num).Nodup->K.Nodup->(∀k∈K,∃z∈L,(z.num:Int)=k)->(rZ L K).length+K.length=L.length
 | [],L,_,_,_=>by rw[yi];rfl
 |k::K,L,nd,f,hk=>by
  obtain⟨z,d,rfl⟩:=hk k bM;rw[<-uY,ba];have g:=te nd d;have N:=en.1 f;have i:=He K (yg L (z.num:Int)) (eK (ff _ cA) nd) N.2 (λj H=>by
   obtain⟨y,c,e⟩:=hk j (cu _ H);exact⟨y,lM.2 ⟨c,λe2=>N.1 (by rw[<-e2,e];exact H)⟩,e⟩)
  omega
theorem lQ :z∈rZ L K↔z∈L/\(z.num:Int)∉K:=by unfold rZ;simp[aW]
theorem yj{L:List E}:e∈nh L K↔e∈L/\e.1∉K:=by unfold nh;simp[aW]
theorem Jt :z∈lP L K↔ ∃y∈L,z=if(y.num:Int)∈K then { y with ses:=0,dl:=0 } else y:=by
 unfold lP;rw[bg];exact⟨λ⟨y,H,c⟩=>⟨y,H,c.symm⟩,λ⟨y,H,c⟩=>⟨y,H,c.symm⟩⟩
theorem LJ(O:Ord s)(x:Ev):((kq s.L x).map (λz=>(z.num:Int))).Nodup:=by
 have:((kq s.L x).map Cp.num).Nodup:=eK (ff _ cA) O.nd;have e:(kq s.L x).map (λz=>(z.num:Int))=((kq s.L x).map Cp.num).map (λn:Nat=>(n:Int)):=by rw[dH];rfl
 rw[e];exact List.Pairwise.map _ (λa b h=>ae) this
theorem oS.outs(ok:oS s)(O:Ord s)(N:K.Nodup)(hk: ∀k∈K,∃z∈s.L,(z.num:Int)=k)(c:s'.L=rZ s.L K)(i:s'.E1=nh s.E1 K)(j:s'.E2=nh s.E2 K)(g:s'.next=s.next)(l:s'.fw+s'.over+s'.gone=s.fw+s.over+s.gone+K.length):oS s':=by
 refine⟨λy H=> ?_,λy H=> ?_,λe=> ?_,λe=> ?_,?_⟩
 .rw[c,lQ]at H;rw[g];exact ok.bd y H.1
 .rw[c,lQ]at H;exact ok.sp y H.1
 .rw[i,yj,ok.e1,c];constructor
  .rintro⟨⟨y,H,rfl⟩,d⟩;exact⟨y,lQ.2 ⟨H,d⟩,rfl⟩
  .rintro⟨y,H,rfl⟩;have:=lQ.1 H;exact⟨⟨y,this.1,rfl⟩,this.2⟩
 .rw[j,yj,ok.e2,c];constructor
  .rintro⟨⟨y,H,f,rfl⟩,d⟩;exact⟨y,lQ.2 ⟨H,d⟩,f,rfl⟩
  .rintro⟨y,H,f,rfl⟩;have:=lQ.1 H;exact⟨⟨y,this.1,f,rfl⟩,this.2⟩
 .have:=He K s.L O.nd N hk;have:=ok.xX;rw[g,c];omega
theorem oS.drop(ok:oS s)(O:Ord s)(x:Ev):oS (vW s x):=by
 unfold vW;rw[uZ];refine ok.outs O (LJ O x) (λk hk=> ?_) rfl rfl rfl rfl (by show s.fw+s.over+(s.gone+_)=_;omega);obtain⟨z,H,e⟩:=bg.1 hk;exact⟨z,(aW.1 H).1,e⟩
theorem wY(O:Ord s):e∈bR.due s.E1 now↔e∈s.E1/\e.2<=now:=by
 rw[(fJ O.o1).1,aW];unfold iM;simp
theorem Ju(O:Ord s)(now:Int):(keys (bR.due s.E1 now)).Nodup:=by
 unfold keys;exact eK (ff _ (List.takeWhile_sublist _)) O.n1
theorem BT(ok:oS s)(O:Ord s)(H:z∈s.L):(z.num:Int)∈keys (bR.due s.E1 now)↔(z.bX:Int)<=now:=by
 unfold keys;rw[bg];constructor
 .rintro⟨e,f,e1⟩;obtain⟨c,d⟩:=(wY O).1 f;obtain⟨y,g,rfl⟩:=(ok.e1 e).1 c;obtain rfl:=O.inj g H (Int.ofNat.inj e1);exact d
 .intro h;exact⟨(z.num,z.bX),(wY O).2 ⟨(ok.e1 _).2 ⟨z,H,rfl⟩,h⟩,rfl⟩
theorem QF(ok:oS s)(O:Ord s)(hk:k∈keys (bR.due s.E1 now)): ∃z∈s.L,(z.num:Int)=k:=by
 unfold keys at hk;obtain⟨e,H,rfl⟩:=bg.1 hk;obtain⟨z,c,rfl⟩:=(ok.e1 e).1 ((wY O).1 H).1;exact⟨z,c,rfl⟩
theorem Jv(O:Ord s):nh (bR.rest s.E1 now) (keys (bR.due s.E1 now))=nh s.E1 (keys (bR.due s.E1 now)):=by
 rw[(fJ O.o1).1,(fJ O.o1).2];unfold nh keys;rw[List.filter_filter];apply dG
 intro e H;by_cases hd:iM now e=true
 .have:e.1∈(s.E1.filter (iM now)).map (·.1):=br (aW.2 ⟨H,hd⟩);simp only[this,bA,cQ,eJ]
 .simp[hd]
def jU(now:Int)(z:Cp):Cp:=if z.ses≠0/\(z.dl:Int)<=now then { z with ses:=0,dl:=0 } else z
def LK(s:CF)(now:Int):CF:= { L:=rZ s.L (keys (bR.due s.E1 now)),next:=s.next,fw:=s.fw,over:=s.over+(keys (bR.due s.E1 now)).length,gone:=s.gone,E1:=nh s.E1 (keys (bR.due s.E1 now)),E2:=nh s.E2 (keys (bR.due s.E1 now)) }
def LL(s1:CF)(now:Int):CF:=(keys (bR.due s1.E2 now)).foldl (λs k=>pQ s k.toNat) { s1 with E2:=bR.rest s1.E2 now }
theorem LM(O:Ord s):ie s now=LL (LK s now) now:=by
 unfold ie LL LK;dsimp only;rw[AN];dsimp only;rw[Jv O]
theorem AP(ok:oS s)(O:Ord s)(now:Int):oS (ie s now)/\(∀z,z∈(ie s now).L↔ ∃y∈s.L,now<(y.bX:Int)/\z=jU now y)/\(ie s now).next=s.next/\(ie s now).E1.length<=s.E1.length/\(ie s now).E2.length<=s.E2.length/\(ie s now).L=(s.L.filter (λy=>decide (now<(y.bX:Int)))).map (jU now)/\(ie s now).fw=s.fw/\(ie s now).over=s.over+(bR.due s.E1 now).length/\(ie s now).gone=s.gone:=by
 rw[LM O];generalize g:LK s now=s1;have o:oS s1:=by
  subst g;exact ok.outs O (Ju O now) (λk hk=>QF ok O hk) rfl rfl rfl rfl (by show s.fw+(s.over+_)+s.gone=_;omega)
 have j:Ord s1:=by
  subst g;exact⟨eK (ff _ cA) O.nd,fp _ O.o1,fp _ O.o2,eK (ff _ cA) O.n1,eK (ff _ cA) O.n2⟩
 have M: ∀z,z∈s1.L↔z∈s.L/\now<(z.bX:Int):=λz=>by
  subst g;show z∈rZ _ _↔_;rw[lQ];constructor
  .rintro⟨d,i⟩;exact⟨d,Int.not_le.1 (λe=>i ((BT ok O d).2 e))⟩
  .rintro⟨d,i⟩;exact⟨d,λe=>absurd ((BT ok O d).1 e) (Int.not_le.2 i)⟩
 have n1:s1.next=s.next:=by subst g;rfl
 have l1:s1.E1.length<=s.E1.length:=by subst g;exact cg _ _
 have l2:s1.E2.length<=s.E2.length:=by subst g;exact cg _ _
 have c1:s1.fw=s.fw/\s1.over=s.over+(bR.due s.E1 now).length/\s1.gone=s.gone:=by subst g;exact⟨rfl,by show s.over+(keys _).length=_;unfold keys;rw[aJ],rfl⟩
 have r:s1.L=s.L.filter (λy=>decide (now<(y.bX:Int))):=by
  subst g;show rZ _ _=_;unfold rZ;refine dG λz c=> ?_
  have:=BT (now:=now) ok O c;by_cases hd:(z.bX:Int)<=now
  .rw[aq (this.2 hd),az (Int.not_lt.2 hd)];rfl
  .rw[az (λe=>hd (this.1 e)),aq (Int.not_le.1 hd)];rfl
 clear g;have l: ∀e,e∈bR.due s1.E2 now↔e∈s1.E2/\e.2<=now:=λe=>by
  rw[(fJ j.o2).1,aW];unfold iM;simp
 have D: ∀z∈s1.L,((z.num:Int)∈keys (bR.due s1.E2 now)↔z.ses≠0/\(z.dl:Int)<=now):=λz c=>by
  unfold keys;rw[bg];constructor
  .rintro⟨e,p,e1⟩;obtain⟨d,i⟩:=(l e).1 p;obtain⟨y,H,f,rfl⟩:=(o.e2 e).1 d;obtain rfl:=j.inj H c (Int.ofNat.inj e1);exact⟨f,i⟩
  .rintro⟨d,i⟩;exact⟨(z.num,z.dl),(l _).2 ⟨(o.e2 _).2 ⟨z,c,d,rfl⟩,i⟩,rfl⟩
 have u: ∀k∈keys (bR.due s1.E2 now),0<=k:=λk hk=>by
  unfold keys at hk;obtain⟨e,p,rfl⟩:=bg.1 hk;obtain⟨z,c,_,rfl⟩:=(o.e2 e).1 ((l e).1 p).1;show(0:Int)<=(z.num:Int);omega
 unfold LL;rw[AO _ _ u];have m: ∀z∈s1.L,(if(z.num:Int)∈keys (bR.due s1.E2 now)then({ z with ses:=0,dl:=0 } :Cp)else z)=jU now z:=λz c=>by
  unfold jU;by_cases hd:z.ses≠0/\(z.dl:Int)<=now
  .rw[af hd,af ((D z c).2 hd)]
  .rw[ag hd,ag (λe=>hd ((D z c).1 e))]
 have fm: ∀z,z∈lP s1.L (keys (bR.due s1.E2 now))↔ ∃y∈s1.L,z=jU now y:=λz=>by
  rw[Jt];constructor
  .rintro⟨y,H,rfl⟩;exact⟨y,H,m y H⟩
  .rintro⟨y,H,rfl⟩;exact⟨y,H,(m y H).symm⟩
 have F: ∀y,(jU now y).num=y.num:=λy=>by unfold jU;split<;>rfl
 have q: ∀y,(jU now y).bX=y.bX:=λy=>by unfold jU;split<;>rfl
 have v: ∀y,(jU now y).d=y.d:=λy=>by unfold jU;split<;>rfl
 refine⟨⟨λz c=> ?_,λz c=> ?_,λe=> ?_,λe=> ?_,?_⟩,λz=> ?_,n1,l1,?_,?_,c1⟩
 .obtain⟨y,H,rfl⟩:=(fm z).1 c;rw[F,v];exact o.bd y H
 .obtain⟨y,H,rfl⟩:=(fm z).1 c;unfold jU;split
  .exact dW _
  .exact o.sp y H
 .show e∈s1.E1↔ ∃z∈lP _ _,_;rw[o.e1];constructor
  .rintro⟨y,H,rfl⟩;exact⟨_,(fm _).2 ⟨y,H,rfl⟩,by rw[F,q]⟩
  .rintro⟨z,c,rfl⟩;obtain⟨y,H,rfl⟩:=(fm z).1 c;exact⟨y,H,by rw[F,q]⟩
 .show e∈nh (bR.rest s1.E2 now) _↔ ∃z∈lP _ _,_;rw[yj,(fJ j.o2).2,aW];constructor
  .rintro⟨⟨d,i⟩,w⟩;obtain⟨y,H,f,rfl⟩:=(o.e2 e).1 d;have hd: ¬(y.ses≠0/\(y.dl:Int)<=now):=λhd=>w ((D y H).2 hd)
   refine⟨_,(fm _).2 ⟨y,H,rfl⟩,?_⟩;unfold jU;rw[ag hd];exact⟨f,rfl⟩
  .rintro⟨z,c,f,rfl⟩;obtain⟨y,H,rfl⟩:=(fm z).1 c;unfold jU at f⊢;by_cases hd:y.ses≠0/\(y.dl:Int)<=now
   .rw[af hd]at f;exact absurd rfl f
   .rw[ag hd]at f⊢;refine⟨⟨(o.e2 _).2 ⟨y,H,f,rfl⟩,?_⟩,λhk=>hd ((D y H).1 hk)⟩;have: ¬(y.dl:Int)<=now:=λe=>hd ⟨f,e⟩
    unfold iM;simpa using this
 .have:=o.xX;show s1.next=1+(lP _ _).length+_+_+_;unfold lP;rw[aJ];exact this
 .show z∈lP _ _↔_;rw[fm];constructor
  .rintro⟨y,H,rfl⟩;have:=(M y).1 H;exact⟨y,this.1,this.2,rfl⟩
  .rintro⟨y,H,x,rfl⟩;exact⟨y,(M y).2 ⟨H,x⟩,rfl⟩
 .refine cJ (cg _ _) (cJ (yh _ _) l2)
 .show lP _ _=_;rw[<-r];exact dS m

end eZ
end
section
variable {h:ai} {R:fx}
theorem LN.walk{x:Bool}{X:Int}{a:Int}{c:ByteArray}{d:ByteArray} (e:aS h (.cells #[.bool x,.U X,.U a,.string c,.string d] 29) λb H=>Hs H b 3 λt4=>(((⟨#[47,47]⟩:ByteArray).size+t4.size:Nat):Int)<=IntKind.max .i64/\((((⟨#[47,47]⟩:ByteArray)++t4).size+(⟨#[47]⟩:ByteArray).size:Nat):Int)<=IntKind.max .i64/\Hs H b 4 λt8=>(((((⟨#[47,47]⟩:ByteArray)++t4)++(⟨#[47]⟩:ByteArray)).size+t8.size:Nat):Int)<=IntKind.max .i64/\R (.string ((((⟨#[47,47]⟩:ByteArray)++t4)++(⟨#[47]⟩:ByteArray))++t8)) H):ar Tryz.prog 136 #[.agg #[.bool x,.U X,.U a,.string c,.string d]] h R:=aR (lq ll) Tryz.func136 e

end
section
namespace jc
variable {h:ai} {R:fx}
theorem qx(a b:List UInt8):str a++str b=str (a++b):=by
 unfold str;apply ByteArray.ext
 rw[ByteArray.data_append];simp
theorem pS(a:List UInt8):(str a).size=a.length:=by unfold str;rfl
theorem tH(s:ByteArray):s=str s.data.toList:=(KF s).symm
theorem nj(s:ByteArray):s.data.toList.length=s.size:=by rw[dQ];rfl
theorem TM:IntKind.max .i64=9223372036854775807:=rfl
theorem N7(x:Ev)(c:x.host.size<=1000)(d:x.jD.size<=1000)(hk: gW h R (.string (str ([47,47]++x.host.data.toList++ [47]++x.jD.data.toList)))):ar Tryz.prog 136 #[ku x] h R:=by
 refine LN.walk (ax.box λb a e H f3=>⟨_,aw H,?_⟩);have e1:(⟨#[47,47]⟩:ByteArray)=str [47,47]:=rfl;have e2:(⟨#[47]⟩:ByteArray)=str [47]:=rfl;have l1:=nj x.host;have l2:=nj x.jD;have K:=hk a f3;rw[e1,e2,TM];refine⟨?_,?_,_,aw H,?_,?_⟩
 .rw[pS];simp;omega
 .rw[tH x.host,qx,pS,pS];simp;omega
 .rw[tH x.host,qx,qx,pS];simp;omega
 .rw[tH x.host,tH x.jD,qx,qx,qx];exact K
def Sm(x:Ev):List UInt8:=
 if x=.zero then [100,116,110,58,110,111,110,101]
 else if x.kH=true then [105,112,110,58]++Lib.decDigits x.node.toNat++ [46]++Lib.decDigits x.gH.toNat
 else [100,116,110,58]++([47,47]++x.host.data.toList++ [47]++x.jD.data.toList)

end jc
end
section
open Go.fQ Go.jC
namespace eZ
open jc bR kk
variable {h h':ai} {R:fx} {t:Nat} {X:Ft} {s:CF} {m A i:Nat} {xs:List CV} {S c:Nat→Prop} {u:Nat→Option Nat} {p:cj} {n:Nat}
structure Pl (z:Cp):Prop where
 r:cK z.e=true
 v:0<=z.e.gH
 d:z.d.length<=600
 n:z.num<=1000000
 t:z.bX<=1099511627776
 s0:0<=z.ses
 s1:z.ses<=1099511627776
 l:z.dl<=1099511627776
abbrev BU(y:CV):List Value:= [.int .i64 (y.num:Int),.bool y.e.kH,.int .u64 y.e.node,.int .u64 y.e.gH,.string y.e.host,.string y.e.jD,y.v.val,.int .u64 (y.bX:Int),.int .i64 y.ses,.int .u64 (y.dl:Int)]
theorem gu(y:CV):(BU y).length=10:=rfl
theorem QG(y:CV): ∀v∈BU y,fH v=true:=by
 intro v H;simp only[BU,bD,List.not_mem_nil,or_false]at H;rcases H with rfl|rfl|rfl|rfl|rfl|rfl|rfl|rfl|rfl|rfl<;>rfl
theorem tA:nP Tryz.prog 242 114 10 112 (.agg #[.I 0,.bool false,.U 0,.U 0,.string ⟨#[]⟩,.string ⟨#[]⟩,.Z,.U 0,.I 0,.U 0]):=⟨db,db,rfl⟩
theorem uA:Tryz.prog.underlying 242=some (.slice 114):=db
theorem Hf(H:Ct h t X s)(sm:Small s)(hd: ∀z∈s.L,z.d.length<=600)(hk: ∀h' L Q (ys:List CV),fy h' L ys.length Q 10 (ys.flatMap BU)->ys.map CV.abs=s.L->(∀y∈ys,BV.ok h' (λz=>h.size<=z) y.v)->(∀y,aP L y->h.size<=y)->Fr No h h'->R (.slice L ys.length Q) h'):ar Tryz.prog 160 #[.P t 0] h R:=by
 obtain⟨m,xs,A,S,i,c,u,H⟩:=H;have sl:=sm.l;have xl:=H.len;refine uQ.walk (yf H ae λh1 p1 c1 o1 n1 f1=>⟨_,_,_,rfl,?_⟩);refine⟨λop K O q g=> ∃(k:Nat)(ys:List CV),q=(k:Int)/\k<=xs.length/\K=ys.length/\ys.length=k/\fy g op K O 10 (ys.flatMap BU)/\(∀y,aP op y->h1.size<=y)/\ys.map CV.abs=s.L.take k/\(∀y∈ys,BV.ok g (λz=>h1.size<=z) y.v)/\(∀y∈ys,∀z,aP y.v.p z->y.v.b≠ []->¬aP op z)/\Fr No h1 g,λ_ _ _ q _=>xs.length - q.toNat,
  ⟨0, [],rfl,ae,rfl,rfl,.nil rfl rfl rfl rfl,(λy ⟨a,e,_⟩=>by cases e),bM,(λy hy=>by cases hy),(λy hy=>by cases hy),Fr.refl _ _⟩,?_⟩
 rintro op K O _ g ⟨k,ys,rfl,g',rfl,j',o,I,D,b,U,F⟩;have G:=H.on (f1.tt F);by_cases c':k<xs.length
 .have q1:(k:Int)<(xs.length:Int):=ae
  simp only[q1,bA,bh,aI];have x:xs[k]? =some xs[k]:=aj c';generalize xs[k]=v at x;have T:s.L[k]? =some v.abs:=by rw[<-H.abs,aM,x];rfl
  have J:=bj x;have i':v.v.b.length<=600:=hd v.abs (bj T);have Y:=o1.frame F (λ_ _=>id);obtain⟨ab,f',rfl⟩:=Y.addr ae;have cn:=Y.cell (j:=k) (v:=fR (v.num:Int)) (by unfold jS;rw[dH,aM,x];rfl);have d':=G.DL v J;refine⟨⟨by first|trivial|omega,by first|trivial|omega⟩,ay.2 ⟨_,by rw[cr];exact cn,_,aw G.cR,_,look G J,ay.2 (aL.ld d' (aL.new λM h2 e2 E f2=>⟨_,_,_,aw E,gK ((G.BN v J).row.frame f2 (λ_ _=>id)) rfl ae λP C h3 o3 f3 V=>⟨_,_,_,rfl,?_⟩⟩))⟩⟩;have b':=f3.get E id;refine bB b' bM λl a4 s4 o4=> ?_
  have f4:Fr (λy=>y=M) h3 l:=⟨ae,λy _ hn=>o4 y hn⟩;have k':=aF E;have a':aL.at l M (v.num:Int) v.e.kH v.e.node v.e.gH v.e.host v.e.jD P v.v.b.length C (v.bX:Int) v.ses (v.dl:Int):=a4;refine aL.ld a' ?_;have zg:=F.1;have z2:=f2.1;have z3:=f3.1;have w:Fr No g l:=(f2.tt f3).fresh f4 (λy e=>ae);have oo:=o.frame w (λ_ _=>id);refine iU tA uA oo rfl (λe' hw=>QG ({ v with v:=⟨P,C,v.v.b⟩ } :CV) e' (cD hw)) ae ae λp5 c5 h5 o5 f5 B=>⟨_,_,_,rfl,?_⟩
  have z4:=w.1;have z5:=f5.1;rw[bz ae ae];have W:fy l P v.v.b.length C 1 (bc v.v.b):=o3.frame f4 (λy hy e=>cf (V y hy));have N: ∀y,aP P y->g.size<=y/\y<l.size:=λy hy=>⟨cf (V y hy),W.eg hy⟩
  have Z: ∀y,aP op y->y<g.size:=λy hy=>o.eg hy
  refine⟨⟨k+1,ys++ [{ v with v:=⟨P,C,v.v.b⟩ }],ae,ae,by rw[aA];rfl,by rw[aA];show ys.length+1=_;omega,?_,λy hy=>(B y hy).elim (I y) (λh1=>ae),?_,?_,?_,(F.tt w).fresh f5 I⟩,by show xs.length - Int.toNat ((k:Int)+1)<xs.length - k;omega⟩
  .rw[cU];simpa using o5
  .rw[bf,D,bL,T];rfl
  .intro y hy;rcases bJ.1 hy with hy|hy
   .have r1:=(b y hy).row.frame w (λ_ _=>id);refine⟨?_,(b y hy).own,(b y hy).cap⟩;by_cases r:y.v.b= []
    .rw[r];exact Row.nil
    .exact r1.frame f5 (λa ea d=>U y hy a.block ⟨a,ea,rfl⟩ r d)
   .obtain rfl:=bH.1 hy;exact BV.lC (W.frame f5 (λy hy d=>ig (N y hy) (Z y d))) (λy hy=>cf (N y hy))
  .intro y hy z f r d;rcases bJ.1 hy with hy|hy
   .rcases B z d with h1|h1
    .exact U y hy z f r h1
    .have:=ja (b y hy).row (by intro e;apply r;have:=bY List.length e;rw[jK]at this;exact List.length_eq_zero_iff.1 this) f;omega
   .obtain rfl:=bH.1 hy;rcases B z d with h1|h1
    .have:=(N z f).1;have:=Z z h1;omega
    .have:=(N z f).2;omega
 .have q1: ¬(k:Int)<(xs.length:Int):=ae
  simp only[q1,bk,au,aN];rw[bG ae]at D;have z1:=f1.1;exact hk g op O ys o D (λy hy=>⟨(b y hy).row,λe z f=>cf ((b y hy).own e z f),(b y hy).cap⟩) (λy hy=>cf (I y hy)) (f1.tt F)
theorem BW(H:Ct h t X s)(b:Small s)(hd: ∀z∈s.L,z.d.length<=600)(hk: ∀h' P C (ys:List CV),fy h' P ys.length C 10 (ys.flatMap BU)->ys.map CV.abs=s.L->(∀y∈ys,Row h' y.v.p (bc y.v.b))->Fr No h h'->R (.slice P ys.length C) h'):ar Tryz.prog 160 #[.P t 0] h R:=
 Hf H b hd λh' P C ys o e r _ f=>hk h' P C ys o e (λy a=>(r y a).row) f
def FR(L:List Cp)(x:Ev):Nat:=((kq L x).filter (λz=>decide (z.ses=0))).length
theorem LO(H:Ct h t X s)(K:Small s)(x:Ev)(hk: gW h R (.I (FR s.L x:Int))):ar Tryz.prog 103 #[.P t 0,ku x] h R:=by
 obtain⟨m,xs,A,S,i,c,u,H⟩:=H;have W:=K.l;have xl:=H.len;refine rV.walk (ax.box λb Q P D f1=>ax.ld D (AF (H.on f1) x ae λo V O o2 n2 f2=>⟨_,_,_,rfl,?_⟩));have F:=f1.tt f2;generalize e:xs.filter (λy=>decide (y.e=x))=ys at o2⊢;have I: ∀y∈ys,y∈xs:=λy l=>by rw[<-e]at l;exact(aW.1 l).1
 have B:ys.map CV.abs=kq s.L x:=by unfold kq;rw[<-H.abs,dk,<-e];rfl
 have Y:ys.length<=50000:=by rw[<-e];exact cJ (cg _ _) ae
 refine⟨λn q g=> ∃k:Nat,q=(k:Int)/\k<=ys.length/\n=((((ys.take k).map CV.abs).filter (λz=>decide (z.ses=0))).length:Int)/\g=o,λ_ q _=>ys.length - q.toNat,⟨0,rfl,ae,bM,rfl⟩,?_⟩;rintro _ _ _ ⟨k,rfl,T,rfl,rfl⟩;have U:(((ys.take k).map CV.abs).filter (λz=>decide (z.ses=0))).length<=k:=cJ (cg _ _) (by rw[aJ,bF];omega);have G:=H.on F;by_cases E:k<ys.length
 .have q1:(k:Int)<((ys.length:Nat):Int):=ae
  simp only[q1,bA,bh,aI];have d:ys[k]? =some ys[k]:=aj E;generalize ys[k]=v at d;have f:=I v (bj d);obtain⟨M,N,rfl⟩:=o2.addr ae;have C:=o2.cell (j:=k) (v:=fR (v.num:Int)) (by unfold jS;rw[dH,aM,d];rfl);have e1:(((ys.take (k+1)).map CV.abs).filter (λz=>decide (z.ses=0))).length=(((ys.take k).map CV.abs).filter (λz=>decide (z.ses=0))).length+if v.ses=0 then 1 else 0:=by
   rw[bL,d,bf,fh,aA];congr 1
   by_cases a:v.ses=0
   .have:v.abs.ses=0:=a;simp[a,this]
   .have: ¬v.abs.ses=0:=a;simp[a,this]
  refine aK.of λJ r=>⟨⟨by first|trivial|omega,by first|trivial|omega⟩,ay.2 ⟨_,by rw[cr];exact C,_,aw G.cR,_,look G f,ay.2 ⟨_,aw (G.DL v f),aK.of λL w=> ?_⟩⟩⟩
  subst w;subst r;dsimp only;rw[bz (n:=(k:Int)+1) ae ae];by_cases a:v.ses=0
  .rw[af (cD a),bz ae ae];rw[af a]at e1;exact⟨⟨k+1,ae,ae,ae,rfl⟩,by show ys.length - Int.toNat ((k:Int)+1)<ys.length - k;omega⟩
  .rw[ag (cD a)];rw[ag a]at e1;exact⟨⟨k+1,ae,ae,ae,rfl⟩,by show ys.length - Int.toNat ((k:Int)+1)<ys.length - k;omega⟩
 .have q1: ¬(k:Int)<((ys.length:Nat):Int):=ae
  simp only[q1,bk,au,aN];rw[bG ae,B];exact hk _ F

end eZ
end
section
open Go.jC
namespace eZ
open jc
structure OP where
 kind:Int
 num:Int
 ses:Int
 e:Ev
 p:cj
 c:Nat
 b:List UInt8
 bX:Nat

end eZ
end
section
open Go.fQ Go.jC
namespace eZ
open jc bR kk
variable {s s':CF} {k:Nat} {f:OP}
variable {z:Cp} {ses:Int} {dl:Nat}
theorem Hh{α:Type}[DecidableEq α]: ∀{l1 l2:List α},l1.Nodup->(∀a∈l1,a∈l2)->l1.length<=l2.length
 | [],_,_,_=>bP _
 |a::l,l2,h,H=>by
  obtain⟨d,g⟩:=en.1 h;have:=Hh (l1:=l) (l2:=l2.erase a) g (λb c=>(List.mem_erase_of_ne (λe=>d (by rw[<-e];exact c))).2 (H b (cu _ c)));have i:=List.length_erase_of_mem (H a bM);have j:0<l2.length:=List.length_pos_of_mem (H a bM);rw[ba];omega
theorem QH{α:Type}[DecidableEq α]{l1 l2:List α}(b:l1.Nodup)(c:l2.Nodup)(H: ∀a,a∈l1↔a∈l2):l1.length=l2.length:=
 Nat.le_antisymm (Hh b (λa h=>(H a).1 h)) (Hh c (λa h=>(H a).2 h))
theorem ym(ok:oS s)(O:Ord s):s.E2.length=(s.L.filter (λz=>decide (z.ses≠0))).length:=by
 have e:((s.L.filter (λz=>decide (z.ses≠0))).map (λz=>(((z.num:Int),(z.dl:Int)):E))).length=(s.L.filter (λz=>decide (z.ses≠0))).length:=aJ ..;rw[<-e];refine QH ?_ ?_ λa=> ?_
 .have:=O.n2;unfold keys at this;exact(dY.1 this).imp (λh e=>h (bY _ e))
 .have H:((s.L.filter (λz=>decide (z.ses≠0))).map Cp.num).Nodup:=eK (ff _ cA) O.nd;exact dY.2 ((dY.1 H).imp (λh e=>h (Int.ofNat.inj (bY Prod.fst e))))
 .rw[ok.e2,bg];constructor
  .rintro⟨z,b,d,rfl⟩;exact⟨z,aW.2 ⟨b,aq d⟩,rfl⟩
  .rintro⟨z,b,rfl⟩;obtain⟨H,c⟩:=aW.1 b;exact⟨z,H,aQ c,rfl⟩
theorem Pl.free(k:Pl z):Pl { z with ses:=0,dl:=0 } :=⟨k.r,k.v,k.d,k.n,k.t,by show(0:Int)<=0;omega,by show(0:Int)<=1099511627776;omega,by show 0<=1099511627776;omega⟩
theorem Pl.AH(k:Pl z)(h:qT ses dl):Pl { z with ses:=ses,dl:=dl } :=⟨k.r,k.v,k.d,k.n,k.t,by have:=h.1;show 0<=ses;omega,h.2.1,h.2.2⟩
structure Good (s:CF) (k:Nat):Prop where
 ok:oS s
 all: ∀z∈s.L,Pl z
 may: ∀z∈s.L,tF z.e z.d.length (z.bX:Int)=true
 fr: ∀z∈s.L,z.ses=0->z.dl=0
 full: ∀e,(kq s.L e).length<=16
 len:s.next<=k+1
theorem Good.nil:Good ⟨[],1,0,0,0, [], []⟩ 0:=⟨⟨(λz h=>by cases h),(λz h=>by cases h),(λe=>bM),(λe=>bM),rfl⟩,(λz h=>by cases h),(λz h=>by cases h),(λz h=>by cases h),λ_=>bP _,aZ _⟩
theorem Good.L(G:Good s k):s.L.length<=k/\s.fw<=k/\s.over<=k/\s.gone<=k:=by
 have:=G.ok.xX;have:=G.len;omega
theorem Good.small(G:Good s k)(O:Ord s)(hk:k<=40000):Small s:=by
 have c:=G.L;have d:=G.len;have nd: ∀{l:List E},(keys l).Nodup->l.Nodup:=fun {l} a=>(dY.1 a).imp (λh e=>h (bY _ e))
 have e1:s.E1.length<=s.L.length:=by
  have:=Hh (l2:=s.L.map (λz=>(((z.num:Int),(z.bX:Int)):E))) (nd O.n1) (λe H=>by
   obtain⟨z,b,rfl⟩:=(G.ok.e1 e).1 H;exact bg.2 ⟨z,b,rfl⟩)
  rwa[aJ]at this
 have e2:s.E2.length<=s.L.length:=by
  rw[ym G.ok O];exact cg _ _
 exact⟨ae,ae,ae,ae⟩
theorem Good.held(G:Good s k):DM s:=λj h=>by
 unfold keys at h;obtain⟨e,H,rfl⟩:=bg.1 h;obtain⟨z,a,_,rfl⟩:=(G.ok.e2 e).1 H;exact⟨z,a,rfl⟩
theorem Good.more(G:Good s k):Good s (k+1):=⟨G.ok,G.all,G.may,G.fr,G.full,cf G.len⟩
theorem Good.sub(G:Good s k)(o:oS s')(P:Cp->Bool)(g:Cp->Cp)(b: ∀z,(g z).e=z.e/\(g z).d=z.d/\(g z).bX=z.bX)(a: ∀z∈s.L,Pl (g z)/\((g z).ses=0->(g z).dl=0))(c:s'.L=(s.L.filter P).map g)(i:s'.next=s.next):Good s' (k+1):=by
 have m: ∀z∈s'.L,∃y∈s.L,z=g y:=λz a=>by
  rw[c]at a;obtain⟨y,H,rfl⟩:=bg.1 a;exact⟨y,(aW.1 H).1,rfl⟩
 refine⟨o,λz h=> ?_,λz h=> ?_,λz h=> ?_,λe=> ?_,cf G.len⟩
 .obtain⟨y,H,rfl⟩:=m z h;exact(a y H).1
 .obtain⟨y,H,rfl⟩:=m z h;rw[(b y).1,(b y).2.1,(b y).2.2];exact G.may y H
 .obtain⟨y,H,rfl⟩:=m z h;exact(a y H).2
 .have d:kq s'.L e=(kq (s.L.filter P) e).map g:=by
   rw[c];unfold kq;rw[dk];congr 1
   refine dG λz _=> ?_
   show decide ((g z).e=e)=decide (z.e=e);rw[(b z).1]
  rw[d,aJ];exact cJ ((List.Sublist.filter _ cA).length_le) (G.full e)
theorem Jw(L:List Cp):L.filter (λ_=>true)=L:=cb.2 λ_ _=>rfl
theorem Good.set(G:Good s k)(o:oS s'){n:Nat}(h:qT ses dl\/(ses=0/\dl=0))(a:s'.L=nf s.L n ses dl)(b:s'.next=s.next):Good s' (k+1):=by
 refine G.sub o (λ_=>true) (λx=>if x.num=n then { x with ses:=ses,dl:=dl } else x) (λz=>by split<;>exact⟨rfl,rfl,rfl⟩) (λz H=> ?_) (by rw[Jw];exact a) b;split
 .rcases h with h|⟨rfl,rfl⟩
  .exact⟨(G.all z H).AH h,λe=>by have:=h.1;dsimp only at e;omega⟩
  .exact⟨(G.all z H).free,λ_=>rfl⟩
 .exact⟨G.all z H,G.fr z H⟩
theorem Good.out(G:Good s k)(o:oS s'){P:Cp->Bool}(H:s'.L=s.L.filter P)(a:s'.next=s.next):Good s' (k+1):=
 G.sub o P id (λ_=>⟨rfl,rfl,rfl⟩) (λz h=>⟨G.all z h,G.fr z h⟩) (by rw[List.map_id];exact H) a
instance (ses : Int) (dl : Nat) : Decidable (qT ses dl) := by unfold qT; infer_instance
def Rn(f:OP)(s:CF):CF:=
 if f.kind=0 then jx s f.e f.b f.bX
 else if f.kind=1 then(if qT f.ses f.bX then(match jP s.L f.e with|none=>s|some z=>lL s z f.ses f.bX)else s)
 else if f.kind=2 then kR s f.num f.ses
 else if f.kind=3 then wJ s f.num f.ses
 else if f.kind=4 then ie s (f.bX:Int)
 else if f.kind=5 then vW s f.e
 else s
theorem Good.do(G:Good s k)(O:Ord s)(p:0<=f.e.gH)(hk:k<=30000):Good (Rn f s) (k+1):=by
 unfold Rn;split
 ·
  have o:=G.ok.add f.e f.b f.bX;by_cases h:ia s f.e f.b f.bX=0
  .have E:jx s f.e f.b f.bX= { s with L:=s.L++ [⟨s.next,f.e,f.b,f.bX,0,0⟩],next:=s.next+1,E1:=xR s.E1 (s.next:Int) (f.bX:Int) } :=af h;have H:tF f.e f.b.length (f.bX:Int)=true/\(kq s.L f.e).length<16:=by
    unfold ia at h;split at h
    .rename_i H;refine⟨H,?_⟩;split at h
     .cases h
     .omega
    .cases h
   have b:cK f.e=true/\f.b.length<=600/\f.bX<=1099511627776:=by
    have:=H.1;unfold tF at this;simp only[aT,Bool.not_eq_true',aY,ee]at this;exact⟨this.1,ae,ae⟩
   have q:=G.len;rw[E]at o⊢;have m: ∀{Q:Cp->Prop},(∀z∈s.L,Q z)->Q ⟨s.next,f.e,f.b,f.bX,0,0⟩->∀z∈s.L++ [⟨s.next,f.e,f.b,f.bX,0,0⟩],Q z:=λa i z hz=>by
    rcases bJ.1 hz with hz|hz
    .exact a z hz
    .obtain rfl:=bH.1 hz;exact i
   refine⟨o,m G.all ⟨b.1,p,b.2.1,by show s.next<=1000000;omega,b.2.2,by show(0:Int)<=0;omega,by show(0:Int)<=1099511627776;omega,by show 0<=1099511627776;omega⟩,m G.may H.1,m G.fr (λ_=>rfl),λe=> ?_,by show s.next+1<=_;omega⟩;show(kq (s.L++ [⟨s.next,f.e,f.b,f.bX,0,0⟩]) e).length<=16;unfold kq;rw[fh,aA];have g:=G.full e;have d:=H.2;unfold kq at g d;by_cases c:f.e=e
   .subst c;simp;omega
   .simp[c];exact g
  .have E:jx s f.e f.b f.bX=s:=ag h;rw[E];exact G.more
 split
 ·
  split
  .rename_i H;cases n:jP s.L f.e with
   |none=>exact G.more
   |some z=>exact G.set (G.ok.AH O (FQ n).1 H) (.inl H) rfl rfl
  .exact G.more
 split
 ·
  have o:=G.ok.TL O f.num f.ses;unfold kR at o⊢;split
  .rename_i h;rw[af h]at o;exact G.out o (P:=λx=> !decide ((x.num:Int)=f.num)) rfl rfl
  .exact G.more
 split
 ·
  have o:=G.ok.rel O f.num f.ses;unfold wJ at o⊢;split
  .rename_i h;rw[af h]at o;exact G.set o (.inr ⟨rfl,rfl⟩) rfl rfl
  .exact G.more
 split
 ·
  obtain⟨a,_,j,_,_,l,_⟩:=AP G.ok O (f.bX:Int);refine G.sub a _ (jU (f.bX:Int)) (λz=>by unfold jU;split<;>exact⟨rfl,rfl,rfl⟩) (λz hz=> ?_) l j;unfold jU;split
  .exact⟨(G.all z hz).free,λ_=>rfl⟩
  .exact⟨G.all z hz,G.fr z hz⟩
 split
 ·
  have e:=uZ ((kq s.L f.e).map (λz=>(z.num:Int))) s;refine G.out (G.ok.drop O f.e) (P:=λz=> !decide ((z.num:Int)∈(kq s.L f.e).map (λz=>(z.num:Int)))) ?_ ?_
  .unfold vW;rw[e];rfl
  .unfold vW;rw[e]
 .exact G.more

end eZ
end
end Go.Proofs.YtlenamcfacpheaaGreatDoor
namespace Go.Den
def BX:List Value->Nat->List Value->List Value
 |cs,_, []=>cs
 |cs,p,v::vs=>BX (cs.set p v) (p+1) vs
theorem fy.eS{a:Addr}{len cap sz p:Nat}{K:ai->Prop}: ∀(vs:List Value)(k:Nat)(h:ai)(cs:List Value),fy h (.some a) len cap sz cs->(∀v∈vs,fH v=true)->p+k+vs.length<=cs.length->
  (∀h',fy h' (.some a) len cap sz (BX cs (p+k) vs)->h'.size=h.size->(∀x,¬aP (.some a) x->h'[x]? =h[x]?)->K h')->Den.eS (a.add p) vs k h K
 | [],k,h,cs,o,_,_,hk=>hk h o rfl (λ_ _=>rfl)
 |v::vs,k,h,cs,o,H,e,hk=>by
  rw[ba]at e;unfold Den.eS;rw[H v cZ];dsimp only;rw[add_add];refine o.store ae λc o1 s1 q1=> ?_
  refine fy.eS vs (k+1) c _ o1 (λu f=>H u (cu _ f)) (by rw[du];omega) λd o2 s q2=>hk d ?_ ae (λx b=>by rw[q2 x b,q1 x b])
  unfold BX;rw[show p+k+1=p+(k+1) by omega];exact o2

end Go.Den
namespace Go.Proofs.YtlenamcfacpheaaGreatDoor
open Go.Den
open IntKind (wrap)
open Int (toNat)
section
open Go.fQ
namespace gg
open jc kk
variable {r:Rg}
structure TN (r:Rg):Prop where
 rt:hC r=true
 sv:0<=r.e.gH
theorem TN.e(k:TN r):cK r.e=true/\0<=r.j1/\r.j1<=2/\1<=r.own/\r.own<=1099511627776:=by
 have:=k.rt;unfold hC at this;simp only[aT,Bool.not_eq_true',aY,ee]at this;exact⟨this.1,this.2.2.1.1,this.2.2.1.2,this.2.2.2.1,this.2.2.2.2⟩

end gg
end
section
open Go.fQ
namespace gg
open jc kk
variable {L:List Rg}
structure EF (L:List Rg):Prop where
 len:L.length<=8
 all: ∀r∈L,TN r
theorem EF.add(k:EF L)(r:Rg)(H:0<=r.e.gH):EF (wH L r):=by
 unfold wH;rcases ye L r with⟨_,e⟩|⟨_,_,e⟩|⟨_,_,_,e⟩|⟨h,_,b,e⟩<;>rw[e]
 .exact k
 .exact k
 .exact k
 .rw[af rfl];exact⟨by rw[Lx];omega,λz a=>(DH.1 a).elim (λe=>e▸⟨h,H⟩) (k.all z)⟩
theorem EF.rem(k:EF L)(x:Ev)(o:Int):EF (yd L x o):=by
 unfold yd;split
 .exact⟨cJ (cg _ _) k.len,λz h=>k.all z (aW.1 h).1⟩
 .exact k
theorem EF.j1(k:EF L)(x:Ev)(o q:Int):EF (DI L x o q):=by
 unfold DI;split
 .rename_i H;have a:0<=q/\q<=2:=by
   unfold Jk at H;split at H
   .assumption
   .cases H
  refine⟨by unfold FD;rw[aJ];exact k.len,λz c=> ?_⟩;obtain⟨y,b,rfl⟩:=bg.1 c;have K:=k.all y b;split
  .refine⟨?_,K.sv⟩;have h:=K.rt;unfold hC at h⊢;simp only[aT,Bool.not_eq_true',aY,ee]at h⊢;exact⟨h.1,h.2.1,⟨a.1,a.2⟩,h.2.2.2⟩
  .exact K
 .exact k

end gg
end
section
namespace eI
open gC (It)
open jc (Ev cK)
variable {σ:SS} {k:Nat}
variable {l:List It} {s:eZ.CF} {owner:Int}
structure Good (σ:SS) (k:Nat):Prop where
 a:eY.qp σ.A
 g:gg.EF σ.G
 c:eZ.Good σ.C k
 b:σ.B.next<=k+1
 v:σ.B.over<=k
 q:σ.Q=σ.B.items
 ok:qY σ.Q
 n:σ.now<=1099511627776
 e:cK σ.e=true/\σ.e≠Ev.zero/\0<=σ.e.gH
 t:σ.tm<=1099511627776/\σ.sq<=1099511627776
 r:σ.rf<=k
def u0(e:Ev):SS:=⟨[], [],⟨[],1,0,0,0, [], []⟩,⟨[],1,0,0,0⟩, [],e,0,0,0,0⟩
theorem Good.new{e:Ev}(H:cK e=true)(a:e≠Ev.zero)(b:0<=e.gH):Good (u0 e) 0:=
 ⟨eY.qp.nil,⟨bP _,λ_ h=>(by cases h)⟩,eZ.Good.nil,aZ _,aZ _,rfl,qY.nil,bP _,⟨H,a,b⟩,⟨bP _,bP _⟩,aZ _⟩
def q7(s:gC.BS)(now:Nat):gC.BS:= { s with items:=s.items.filter (λx=>decide ((now:Int)<(x.bX:Int))),over:=s.over+(s.items.filter (λx=>decide ((x.bX:Int)<=(now:Int)))).length }
def pT(σ:SS)(now:Nat):Int:=if now>1099511627776 then 1 else if now<σ.now then 18 else 0
def AQ(σ:SS)(now:Nat):SS:= { σ with C:=eZ.ie σ.C (now:Int),B:=q7 σ.B now,Q:=(q7 σ.B now).items,now:=now }
def DP(σ:SS)(now:Nat):SS:=if pT σ now=0 then AQ σ now else σ
theorem qY.filter(ok:qY l)(P:It->Bool):qY (l.filter P):=by
 induction l with
 |nil=>exact ok
 |cons x l i=>
  rw[bU];split
  .obtain⟨a,b,c,d,e,f⟩:=ok;have t1:vu (l.filter P)<=vu l:=by
    clear i f e d;induction l with
    |nil=>exact dW _
    |cons y l i=>rw[bU,iV];split<;>(try rw[iV])<;>omega
   have t2: ∀o,own (l.filter P) o<=own l o:=λo=>by
    clear i f e d t1;induction l with
    |nil=>exact dW _
    |cons y l i=>rw[bU,lH];split<;>(try rw[lH])<;>(try split)<;>omega
   rw[iV]at d e;have n1:=Fo (l:=l.filter P);refine⟨a,b,c,by rw[iV];omega,by rw[iV];omega,λk=>⟨Fq,?_⟩⟩;have:=(f k).2;have:=t2 k;rw[lH]at*;omega
  .exact i ok.sub
theorem LP(G:eZ.Good s k)(O:eZ.Ord s)(hk:k<=30000)(now:Nat):eZ.Good (eZ.ie s (now:Int)) (k+1):=by
 have h:=G.do (f:=⟨4,0,0,Ev.zero,none,0, [],now⟩) O (dW 0) hk;unfold eZ.Rn at h;exact h
theorem N8(G:eZ.Good s k)(O:eZ.Ord s)(hk:k<=30000)(e:Ev)(H:0<=e.gH)(d:List UInt8)(bX:Nat):eZ.Good (eZ.jx s e d bX) (k+1):=by
 have h:=G.do (f:=⟨0,0,0,e,none,0,d,bX⟩) O H hk;unfold eZ.Rn at h;exact h
theorem Good.more(G:Good σ k):Good σ (k+1):=⟨G.a,G.g,G.c.more,cf G.b,cf G.v,G.q,G.ok,G.n,G.e,G.t,cf G.r⟩
theorem Good.pass(G:Good σ k)(O:eZ.Ord σ.C)(L:List Go.jC.E)(ok:gC.okB σ.B L)(hk:k<=30000)(now:Nat):Good (DP σ now) (k+1):=by
 unfold DP;split
 .rename_i h;have H:now<=1099511627776:=by
   unfold pT at h;split at h
   .cases h
   .omega
  have b:=ok.xX;have a:=G.b;have c:(σ.B.items.filter (λx=>decide ((x.bX:Int)<=(now:Int)))).length<=σ.B.items.length:=cg _ _;refine⟨G.a,G.g,LP G.c O hk now,by show σ.B.next<=_;omega,by show σ.B.over+_<=_;omega,rfl,?_,H,G.e,G.t,by have:=G.r;show σ.rf<=_;omega⟩;show qY (σ.B.items.filter _);rw[<-G.q];exact G.ok.filter _
 .exact G.more
abbrev mw(l:List It)(owner:Int)(n:Nat):Bool:=kJ.fits 4800 1600 (vu l) (own l) owner (n:Int)
def wK(σ:SS)(owner:Int)(d:List UInt8)(bX:Nat):Int:=if σ.B.items.length≥16\/mw σ.Q owner d.length=false then 15 else gC.ia σ.B owner d bX
def FU(σ:SS)(owner:Int)(d:List UInt8)(bX:Nat):Int:=if σ.B.items.length≥16\/mw σ.Q owner d.length=false then 0 else gC.zF σ.B owner d bX
def nk(σ:SS)(owner:Int)(d:List UInt8)(bX:Nat):SS:=if wK σ owner d bX=0 then { σ with B:=gC.DF σ.B owner d bX,Q:=(gC.DF σ.B owner d bX).items } else σ
def AR(σ:SS)(num owner:Int):SS:= { σ with B:=gC.lK σ.B num owner,Q:=(gC.lK σ.B num owner).items }
theorem qY.add{x:It}(ok:qY l)(H:mw l x.owner x.d.length=true):qY (l++ [x]):=by
 have h:=kJ.Ok.take ok H;rw[G3,show vu l+(x.d.length:Int)=vu (x::l) by rw[iV];omega]at h;exact qY.perm h (dD _ _).symm
theorem AS{d:List UInt8}{bX:Nat}(h:wK σ owner d bX=0):mw σ.Q owner d.length=true/\gC.ia σ.B owner d bX=0:=by
 unfold wK at h;split at h
 .cases h
 .rename_i H;cases a:mw σ.Q owner d.length with
  |false=>exact absurd (.inr a) H
  |true=>exact⟨rfl,h⟩
theorem Good.put(G:Good σ k)(owner:Int)(d:List UInt8)(bX:Nat):Good (nk σ owner d bX) (k+1):=by
 unfold nk;split
 .rename_i h;obtain⟨H,a⟩:=AS h;have e:gC.DF σ.B owner d bX= { σ.B with items:=σ.B.items++ [⟨σ.B.next,owner,d,bX⟩],next:=σ.B.next+1 } :=af a;rw[e];refine⟨G.a,G.g,G.c.more,by show σ.B.next+1<=_;have:=G.b;omega,by show σ.B.over<=_;have:=G.v;omega,rfl,?_,G.n,G.e,G.t,by show σ.rf<=_;have:=G.r;omega⟩;show qY (σ.B.items++ [_]);rw[<-G.q];exact qY.add G.ok H
 .exact G.more
theorem FV{s:gC.BS}{num:Int}: ∃P:It->Bool,(gC.lK s num owner).items=s.items.filter P/\(gC.lK s num owner).next=s.next/\(gC.lK s num owner).over=s.over:=by
 unfold gC.lK;split
 .exact⟨_,rfl,rfl,rfl⟩
 .exact⟨λ_=>true,(cb.2 λ_ _=>rfl).symm,rfl,rfl⟩
theorem Good.rU(G:Good σ k)(num owner:Int):Good (AR σ num owner) (k+1):=by
 obtain⟨P,h,H,a⟩:=FV (s:=σ.B) (num:=num) (owner:=owner);refine⟨G.a,G.g,G.c.more,by show(gC.lK σ.B num owner).next<=_;rw[H];have:=G.b;omega,by show(gC.lK σ.B num owner).over<=_;rw[a];have:=G.v;omega,rfl,?_,G.n,G.e,G.t,by show σ.rf<=_;have:=G.r;omega⟩;show qY (gC.lK σ.B num owner).items;rw[h,<-G.q];exact G.ok.filter _
theorem Good.ko(G:Good σ k)(token:Nat):Good { σ with A:=eY.ko σ.A token } (k+1):=
 ⟨G.a.open token,G.g,G.c.more,by show σ.B.next<=_;have:=G.b;omega,by show σ.B.over<=_;have:=G.v;omega,G.q,G.ok,G.n,G.e,G.t,by show σ.rf<=_;have:=G.r;omega⟩
theorem Good.QI(G:Good σ k)(O:eZ.Ord σ.C)(hk:k<=30000)(e:Ev)(h:0<=e.gH)(d:List UInt8)(bX:Nat):Good { σ with C:=eZ.jx σ.C e d bX } (k+1):=
 ⟨G.a,G.g,N8 G.c O hk e h d bX,by show σ.B.next<=_;have:=G.b;omega,by show σ.B.over<=_;have:=G.v;omega,G.q,G.ok,G.n,G.e,G.t,by show σ.rf<=_;have:=G.r;omega⟩

end eI
end
end Go.Proofs.YtlenamcfacpheaaGreatDoor
namespace Go.fQ
structure RD where
 id:Nat
 err:Int
 num:Int
 count:Int
 token:Nat
 b:List UInt8
def RD.zero:RD:=⟨0,0,0,0,0, []⟩
def RD.lR(x:RD):Prop:=x.id<=1099511627776/\(0<=x.err/\x.err<=99)/\(0<=x.num/\x.num<=1099511627776)/\(0<=x.count/\x.count<=1099511627776)/\x.token<=2147483648/\x.b.length<=600/\(x.err≠0->x.num=0/\x.count=0/\x.token=0/\x.b= [])
instance (x : RD) : Decidable x.lR := by unfold RD.lR; infer_instance
def RD.same(x y:RD):Prop:=x.id=y.id/\x.err=y.err/\x.num=y.num/\x.count=y.count/\x.token=y.token/\x.b=y.b
instance (x y : RD) : Decidable (x.same y) := by unfold RD.same; infer_instance
def RD.enc(x:RD):List UInt8:=gy x.id++gy (iL x.err)++gy (iL x.num)++gy (iL x.count)++gy x.token++nZ x.b
variable {x:RD}
structure TO where
 x:RD
 e:Int
 rest:List UInt8
def Sn(t:Nat)(m:Nat->Int->List UInt8->Nat×Int×List UInt8)(bs:List UInt8):TO:=
 let a:=et 0 bs
 let b:=m t a.2.1 a.2.2
 let c:=m 1099511627776 b.2.1 b.2.2
 let d:=m 1099511627776 c.2.1 c.2.2
 let f:=et d.2.1 d.2.2
 let g:=jm f.2.1 f.2.2
 ⟨⟨a.1,(b.1:Int),(c.1:Int),(d.1:Int),f.1,g.1⟩,g.2.1,g.2.2⟩
def vX(s:TO):Option RD:=if sQ s.e s.rest=0/\s.x.lR then some s.x else none
def BY(bs:List UInt8):Option RD:=vX (Sn 1099511627776 gY bs)
theorem LQ(h:x.lR):BY x.enc=some x:=by
 obtain⟨H,⟨a,b⟩,⟨c,d⟩,⟨f,g⟩,i,j,_⟩:=id h;have key:Sn 1099511627776 gY x.enc=⟨x,0, []⟩:=by
  unfold Sn RD.enc;have e2:iL x.err<=1099511627776:=by unfold iL;omega
  have e:iL x.num<=1099511627776:=by unfold iL;omega
  have E:iL x.count<=1099511627776:=by unfold iL;omega
  simp only[cX];rw[mq ae];dsimp only;rw[oa e2 ae];dsimp only;rw[oa e ae];dsimp only;rw[oa E ae];dsimp only;rw[mq ae];dsimp only;have:=BG (t:=x.b) ae [];rw[List.append_nil]at this;rw[this];cases x;unfold iL at*;simp only[TO.mk.injEq,RD.mk.injEq,and_true,true_and]at*;omega
 unfold BY vX;rw[key];simp[h,sQ]
theorem jr(h:x.b.length<=600):x.enc.length<=700:=by
 have a:=(ga x.id).2;have A:=(ga (iL x.err)).2;have b:=(ga (iL x.num)).2;have c:=(ga (iL x.count)).2;have d:=(ga x.token).2;have e:=(ga x.b.length).2;unfold RD.enc nZ;simp only[aA];omega

end Go.fQ
namespace Go.Proofs.YtlenamcfacpheaaGreatDoor
open Go.Den
open IntKind (wrap)
open Int (toNat)
section
namespace Ask
open jc (Ev cK)
open eI (SS Good)
open Bn (iz qm Prim qH y9 kj sJ wk kA)
open Go.fQ (RD)
variable {V:List UInt8→Bool} {σ:SS} {k:Nat} {ses:Int} {q:Rq}
def jZ(now eH:Nat):Nat:=min (now+eH) 1099511627776
def nm(σ:SS):Option (Nat×Nat):=if σ.tm<σ.now then some (σ.now,0)else if 1099511627776<=σ.sq then none else some (σ.tm,σ.sq+1)
structure Ot where
 σ:SS
 e:Int
 num:Int
 xX:Int
 d:List UInt8
def bad(σ:SS)(e:Int):Ot:=⟨σ,e,0,0, []⟩
def oQ(σ:SS)(ses:Int)(d:List UInt8)(bX:Nat)(n:Nat×Nat):Ot:=
 if eI.wK σ ses d bX=0 then⟨{ eI.nk σ ses d bX with tm:=n.1,sq:=n.2 },0,eI.FU σ ses d bX,d.length, []⟩else⟨σ,eI.wK σ ses d bX,eI.FU σ ses d bX,d.length, []⟩
def kC(V:List UInt8->Bool)(σ:SS)(ses:Int)(b:qm)(n:Nat×Nat):Ot:=match kj V b with
 |none=>bad σ 3
 |some d=>oQ σ ses d (jZ σ.now b.p.eH) n
def kr(q:Rq)(n:Nat×Nat):qm:=⟨⟨if q.on=true then 131072 else 0,0,q.dest,if q.on=true then q.ep else .zero,⟨q.ep,n.1,n.2⟩,q.eH⟩, [⟨1,1,0,0,q.oD⟩]⟩
def tJ(V:List UInt8->Bool)(σ:SS)(ses:Int)(q:Rq):Ot:=
 if gg.iu σ.G q.ep ses=0 then(match nm σ with
  |none=>bad σ 5
  |some n=>kC V σ ses (kr q n) n)
 else bad σ (gg.iu σ.G q.ep ses)
def FW(V:List UInt8->Bool)(d:List UInt8):Nat:=match sJ V d with| .ok b=>(wk b).length| .error _=>0
def Nf(σ:SS)(q:Rq):Nat:=jZ σ.now q.gk.toNat
def q8(V:List UInt8->Bool)(σ:SS)(ses:Int)(q:Rq):Ot:=
 if gg.iu σ.G q.ep ses=0 then
  if eZ.qT ses (Nf σ q)then(match eZ.jP σ.C.L q.ep with
   |none=>bad σ 4
   |some z=>⟨{ σ with C:=eZ.lL σ.C z ses (Nf σ q) },0,(z.num:Int),(FW V z.d:Int),z.d⟩)
  else bad σ 1
 else bad σ (gg.iu σ.G q.ep ses)
def LR(n m:Int):Bool:=IntKind.wrap .u64 ((BitVec.ofInt (IntKind.bits .u64) n &&& BitVec.ofInt (IntKind.bits .u64) m).toNat:Int)==0
def vY(p:Prim):Bool:= !LR (p.fl:Int) 131072 && LR (p.fl:Int) 2
def iZ(V:List UInt8->Bool)(σ:SS)(ses:Int)(d:List UInt8):SS×Int:=match sJ V d with
 | .error _=>(σ,0)
 | .ok b=>if vY b.p=true then(match nm σ with
  |none=>(σ,0)
  |some n=>(match kA V ⟨false,true,false,0,σ.now,b.p.id⟩ b.p.rep ⟨σ.e,n.1,n.2⟩ b.p.eH with
   |none=>(σ,0)
   |some r=>((kC V σ ses r n).σ,if(kC V σ ses r n).e=0 then 1 else 0)))
  else(σ,0)
def zK(V:List UInt8->Bool)(σ:SS)(ses:Int)(num:Int):Ot:=
 if eZ.iP σ.C.L num ses=0 then(match eZ.uT σ.C.L num with
  |none=>bad { σ with C:=eZ.kR σ.C num ses } 0
  |some z=>⟨(iZ V { σ with C:=eZ.kR σ.C num ses } ses z.d).1,0,0,(iZ V { σ with C:=eZ.kR σ.C num ses } ses z.d).2, []⟩)
 else bad σ (eZ.iP σ.C.L num ses)
def u9(σ:SS)(ses:Int)(on:Bool):Ot:=
 if eY.uH σ.A ses=0 then⟨{ σ with A:=eY.AE (eY.jh σ.A ses on) ses },eY.Lt (eY.jh σ.A ses on) ses,0,eY.G5 (eY.jh σ.A ses on) ses,eY.AD (eY.jh σ.A ses on) ses⟩
 else bad σ (eY.uH σ.A ses)
def pU(V:List UInt8->Bool)(σ:SS)(ses:Int)(q:Rq):Ot:=
 if q.kind=1 then bad { σ with G:=gg.wH σ.G ⟨q.ep,q.j1,ses⟩ } (gg.ia σ.G ⟨q.ep,q.j1,ses⟩)
 else if q.kind=2 then(if gg.iu σ.G q.ep ses=0 then⟨{ σ with G:=gg.yd σ.G q.ep ses,C:=eZ.vW σ.C q.ep },0,0,((eZ.kq σ.C.L q.ep).length:Int), []⟩else bad σ (gg.iu σ.G q.ep ses))
 else if q.kind=3 then bad { σ with G:=gg.DI σ.G q.ep ses q.j1 } (gg.Jk σ.G q.ep ses q.j1)
 else if q.kind=4 then tJ V σ ses q
 else if q.kind=5 then bad (eI.AR σ q.num ses) (gC.mr σ.B q.num ses)
 else if q.kind=6 then⟨σ,gg.iu σ.G q.ep ses,(eZ.FR σ.C.L q.ep:Int),0, []⟩
 else if q.kind=7 then q8 V σ ses q
 else if q.kind=8 then zK V σ ses q.num
 else if q.kind=9 then bad { σ with C:=eZ.wJ σ.C q.num ses } (eZ.iP σ.C.L q.num ses)
 else if q.kind=10 then u9 σ ses q.on
 else bad σ 3
def kF(id:Nat)(o:Ot):RD:=if o.e=0 then⟨id,0,o.num,o.xX,0,o.d⟩else⟨id,o.e,0,0,0, []⟩
def Ng(x:RD):List UInt8:=if x.lR then x.enc else []
def pV(id:Nat)(e:Int):RD:=⟨id,e,0,0,0, []⟩
def oq(V:List UInt8->Bool)(σ:SS)(ses:Int)(q:Rq):SS×RD:=
 if iG q=true/\q.kind<11 then
  if eY.Fy σ.A ses=true then(match eY.lJ σ.A ses q.id with
   |some b=>(σ,(Go.fQ.BY b).getD RD.zero)
   |none=>({ (pU V σ ses q).σ with A:=eY.jM (pU V σ ses q).σ.A ses q.id (Ng (kF q.id (pU V σ ses q))) },kF q.id (pU V σ ses q)))
  else(σ,pV q.id 16)
 else(σ,pV q.id 3)
theorem Good.nf{C:eZ.CF}(G:eI.Good σ k)(c:eZ.Good C (k+1)):eI.Good { σ with C:=C } (k+1):=
 ⟨G.a,G.g,c,by show σ.B.next<=_;have:=G.b;omega,by show σ.B.over<=_;have:=G.v;omega,G.q,G.ok,G.n,G.e,G.t,by show σ.rf<=_;have:=G.r;omega⟩
theorem Good.mF{A:List eY.eY}(G:eI.Good σ k)(a:eY.qp A):eI.Good { σ with A:=A } k:=⟨a,G.g,G.c,G.b,G.v,G.q,G.ok,G.n,G.e,G.t,G.r⟩
theorem Good.QJ{L:List gg.Rg}(G:eI.Good σ k)(a:gg.EF L):eI.Good { σ with G:=L } k:=⟨G.a,a,G.c,G.b,G.v,G.q,G.ok,G.n,G.e,G.t,G.r⟩
theorem Good.mk{t s:Nat}(G:eI.Good σ k)(H:t<=1099511627776)(h:s<=1099511627776):eI.Good { σ with tm:=t,sq:=s } k:=⟨G.a,G.g,G.c,G.b,G.v,G.q,G.ok,G.n,G.e,⟨H,h⟩,G.r⟩
theorem yo(G:eI.Good σ k){n:Nat×Nat}(h:nm σ=some n):n.1<=1099511627776/\n.2<=1099511627776:=by
 unfold nm at h;have:=G.n;have:=G.t;split at h
 .cases h;exact⟨by assumption,by show 0<=_;omega⟩
 split at h
 .cases h
 .cases h;exact⟨G.t.1,by show σ.sq+1<=_;omega⟩
theorem Good.oQ(G:eI.Good σ k)(ses:Int)(d:List UInt8)(bX:Nat){n:Nat×Nat}(h:n.1<=1099511627776/\n.2<=1099511627776):eI.Good (oQ σ ses d bX n).σ (k+1):=by
 unfold Ask.oQ;split
 .exact Good.mk (eI.Good.put G ses d bX) h.1 h.2
 .exact eI.Good.more G
theorem Good.kC(G:eI.Good σ k)(ses:Int)(b:qm){n:Nat×Nat}(h:n.1<=1099511627776/\n.2<=1099511627776):eI.Good (kC V σ ses b n).σ (k+1):=by
 unfold Ask.kC;split
 .exact eI.Good.more G
 .exact Good.oQ G _ _ _ h
theorem Good.tell(G:eI.Good σ k)(ses:Int)(d:List UInt8):eI.Good (iZ V σ ses d).1 (k+1):=by
 unfold iZ;split
 .exact eI.Good.more G
 split
 .split
  .exact eI.Good.more G
  .rename_i n h;split
   .exact eI.Good.more G
   .exact Good.kC G _ _ (yo G h)
 .exact eI.Good.more G
theorem Good.Sp(G:eI.Good σ k)(O:eZ.Ord σ.C)(hk:k<=30000)(f:eZ.OP)(h:0<=f.e.gH):eI.Good { σ with C:=eZ.Rn f σ.C } (k+1):=Good.nf G (G.c.do O h hk)
theorem Good.pU(G:eI.Good σ k)(O:eZ.Ord σ.C)(hk:k<=30000)(H:0<=q.ep.gH):eI.Good (pU V σ ses q).σ (k+2):=by
 unfold Ask.pU;split
 .exact eI.Good.more (eI.Good.more (Good.QJ G (G.g.add _ H)))
 split
 .split
  .have h:=Good.Sp G O hk ⟨5,0,0,q.ep,none,0, [],0⟩ H;exact eI.Good.more (Good.QJ h (G.g.rem _ _))
  .exact eI.Good.more (eI.Good.more G)
 split
 .exact eI.Good.more (eI.Good.more (Good.QJ G (G.g.j1 _ _ _)))
 split
 .unfold tJ;split
  .split
   .exact eI.Good.more (eI.Good.more G)
   .rename_i n b;exact eI.Good.more (Good.kC G _ _ (yo G b))
  .exact eI.Good.more (eI.Good.more G)
 split
 .exact eI.Good.more (eI.Good.rU G _ _)
 split
 .exact eI.Good.more (eI.Good.more G)
 split
 .unfold q8;split
  .split
   .rename_i a;have h:=Good.Sp G O hk ⟨1,0,ses,q.ep,none,0, [],Nf σ q⟩ H;unfold eZ.Rn at h;rw[ag (show¬(1:Int)=0 by decide),af (show(1:Int)=1 from rfl),af a]at h;dsimp only at h;split
    .exact eI.Good.more (eI.Good.more G)
    .rename_i z c;rw[c]at h;exact eI.Good.more h
   .exact eI.Good.more (eI.Good.more G)
  .exact eI.Good.more (eI.Good.more G)
 split
 .unfold zK;have h:=Good.Sp G O hk ⟨2,q.num,ses,.zero,none,0, [],0⟩ (dW 0);split
  .split
   .exact eI.Good.more h
   .exact Good.tell h _ _
  .exact eI.Good.more (eI.Good.more G)
 split
 .have h:=Good.Sp G O hk ⟨3,q.num,ses,.zero,none,0, [],0⟩ (dW 0);exact eI.Good.more h
 split
 .unfold u9;split
  .exact eI.Good.more (eI.Good.more (Good.mF G ((G.a.watch _ _).read _)))
  .exact eI.Good.more (eI.Good.more G)
 .exact eI.Good.more (eI.Good.more G)
theorem Good.oq(G:eI.Good σ k)(O:eZ.Ord σ.C)(hk:k<=30000)(H:0<=q.ep.gH):eI.Good (oq V σ ses q).1 (k+2):=by
 have h:=Good.pU (V:=V) (ses:=ses) G O hk H;have m:=eI.Good.more (eI.Good.more G);unfold Ask.oq;split
 .split
  .split
   .exact m
   .exact Good.mF h (h.a.kO _ _ _)
  .exact m
 .exact m
section
open eY
variable {A : List eY.eY} {m n : Int}
theorem yq{s s':eY.eY}(a:km A n=some s):km (mF A n s') m=if m=n then some s' else km A m:=by
 obtain⟨i,rfl,h⟩:=uG a;have H:=(aC.1 h).1;unfold km eY.mF;rw[show((i:Int)+1 - 1).toNat=i by omega];by_cases e:m=(i:Int)+1
 .subst e;rw[fO,af rfl,show((i:Int)+1 - 1).toNat=i by omega,List.getElem?_set_self H]
 .rw[ag e];split
  .rw[List.getElem?_set_ne ae]
  .rfl
theorem BZ{id:Nat}{d:List UInt8}:Fy (jM A n id d) m=Fy A m:=by
 unfold jM;split
 .rfl
 .rename_i s h;split
  .rfl
  .unfold Fy;rw[yq h];by_cases e:m=n
   .subst e;rw[af rfl,h]
   .rw[ag e]
theorem FX{l:List (Nat×List UInt8)}{id j:Nat}{d:List UInt8}(b:j≠id)(h:vU l j=none):vU (hN l id d) j=none:=by
 unfold vU at h⊢;rw[Option.map_eq_none_iff,List.find?_eq_none]at h⊢;have H: ∀x∈l.filter (λa=>decide (a.1≠id))++ [(id,d)],¬decide (x.1=j)=true:=λx hx=>by
  rcases bJ.1 hx with hx|hx
  .exact h x (aW.1 hx).1
  .simp at hx;subst hx;simpa using λe=>b e.symm
 intro x hx;unfold hN at hx;split at hx
 .exact H x (List.mem_of_mem_drop hx)
 .exact H x hx
theorem Jx{id j:Nat}{d:List UInt8}(a:m≠n\/j≠id)(h:lJ A m j=none):lJ (jM A n id d) m j=none:=by
 unfold jM;split
 .exact h
 .rename_i s H;split
  .exact h
  .unfold lJ at h⊢;rw[yq H];by_cases e:m=n
   .subst e;rw[af rfl];rw[H]at h;exact FX (a.resolve_left (λf=>f rfl)) h
   .rw[ag e];exact h
end
end Ask
end
section
open Go.fQ Go.jC
namespace gC
open kk
variable {h h' d:ai} {b:Nat} {X:Ft} {R:fx} {p:cj} {c:Nat} {L:List E} {s:BS}
def IL(d h:ai)(p:cj)(l c:Nat)(items:List It):Prop:=
 ∃(ys:List IV)(D:Nat->Prop),l=ys.length/\fy h p l c 4 (ys.flatMap fR)/\ys.map IV.abs=items/\(∀y∈ys,y.v.ok h D)/\(∀y,D y->d.size<=y/\y<h.size/\¬aP p y)/\∀y,aP p y->d.size<=y
theorem IL.len{l:Nat}{items:List It}(H:IL d h p l c items):l=items.length:=by
 obtain⟨ys,D,a,_,e,_⟩:=H;rw[a,<-e,aJ]
theorem BW(H:AG h b X s)(hk: ∀h' q m C,IL h h' q m C s.items->Fr No h h'->R (.slice q m C) h'):ar Tryz.prog 39 #[.P b 0] h R:=by
 obtain⟨L,⟨lp,lc,xs,a,S,H⟩,ok⟩:=H;obtain⟨hL,g'⟩:=H.EF ok;refine xT.walk (fI H ⟨_,rfl,aK.of λJ K=> ?_⟩);simp only[bh];refine⟨_,_,_,aw H.cR,?_⟩;refine⟨λop O o t g=> ∃k:Nat,t=(k:Int)/\k<=xs.length/\IL h g op O o (s.items.take k)/\Fr No h g,λ_ _ _ t _=>xs.length - t.toNat,⟨0,rfl,ae,⟨[],λ_=>False,rfl,.nil rfl rfl rfl rfl,bM,(λy hy=>by cases hy),(λy hy=>hy.elim),λy ⟨a,e,_⟩=>by cases e⟩,Fr.refl _ _⟩,?_⟩;rintro op O o _ g ⟨k,rfl,e',I,i⟩;have M:=H.on i;by_cases Q:k<xs.length
 .have q1:(k:Int)<(xs.length:Int):=ae
  simp only[q1,bA,bh,aI];have j:xs[k]? =some xs[k]:=aj Q;generalize xs[k]=x at j;obtain⟨ab,a',rfl⟩:=M.own.addr ae;refine⟨⟨by first|trivial|omega,by first|trivial|omega⟩,ay.2 (aU.ED (M.own.gv gL j) (aU.new λb1 h8 c' N f8=>aU.ld N ?_))⟩;have u:s.items[k]? =some x.abs:=by rw[<-H.abs,aM,j];rfl
  have T:=ok.it x.abs (bj u);have dl:x.v.b.length<=600:=T.2.2.2.1;have V:=((M.BN x (bj j)).row).frame f8 (λ_ _=>id);refine qo V rfl ae λl P B n f9 E=>⟨_,_,_,_,_,_,rfl,?_⟩
  have F:Fr No g l:=f8.tt f9;obtain⟨ys,D,W,Y,v,Z,z,A⟩:=I;have yl:ys.length<=16:=by
   have:=bY List.length v;rw[aJ,bF]at this;omega
  have z9:=F.1;have zg:=i.1;have z8:=f8.1;refine iU tI uI (Y.frame F (λ_ _=>id)) rfl (λw hw=>by simp at hw;rcases hw with rfl|rfl|rfl|rfl<;>rfl) ae ae λi' b' d' U f11 G=>⟨_,_,_,rfl,?_⟩
  rw[bz ae ae];have r: ∀y,aP P y->g.size<=y/\y<l.size:=λy hy=>⟨cf (E y hy),n.eg hy⟩
  have j':=f11.1;refine⟨⟨k+1,ae,ae,⟨ys++ [⟨x.num,x.owner,⟨P,B,x.v.b⟩,x.bX⟩],λy=>D y\/aP P y,by rw[aA,W];rfl,?_,?_,?_,?_,?_⟩,?_⟩,by show xs.length - Int.toNat ((k:Int)+1)<xs.length - k;omega⟩
  .rw[cU];simpa using U
  .rw[bf,v,bL,u];rfl
  .intro w hw;rcases bJ.1 hw with hw|hw
   .exact(((Z w hw).frame F (λ_ _=>id)).frame f11 (λy hy=>(z y hy).2.2)).mono (λy=> .inl)
   .obtain rfl:=bH.1 hw;exact BV.lC (n.frame f11 (λy hy f=>ig (r y hy) (Y.eg f))) (λy=> .inr)
  .rintro y (hy|hy)
   .have a:=z y hy;exact⟨a.1,ae,λf=>(G y f).elim a.2.2 (λh2=>ae)⟩
   .have a:=r y hy;exact⟨ae,ae,λf=>(G y f).elim (λh2=>cf (Y.eg h2)) (λh2=>ae)⟩
  .intro y hy;rcases G y hy with h2|h2
   .exact A y h2
   .omega
  .exact(i.tt F).fresh f11 A
 .have q1: ¬(k:Int)<(xs.length:Int):=ae
  simp only[q1,bk,au,aN];subst K;have f':=H.len;rw[bG ae]at I;exact hk g op O o I i

end gC
end
section
variable {h:ai} {R:fx}
variable {s:Nat} {owner:Int}
theorem Jy.walk{S:Bool}{d:Int}{e:Int}{f:ByteArray}{g:ByteArray}(p:aS h (.cells #[.bool S,.U d,.U e,.string f,.string g] 29) λb H=>ax.LD H (AA b 0) λq r u w x=>Cl 33 #[.agg #[.bool q,.U r,.U u,.string w,.string x]] H λv a=> ∃j T,v=.tuple #[.pointer j,.I T]/\if(T !=0)then R (.tuple #[.pointer none,.I T]) a else Cl 34 #[.I 4800,.I 1600] a λV c=> ∃i t,V=.tuple #[.pointer i,.I t]/\if(t !=0)then R (.tuple #[.pointer none,.I t]) c else Cl 35 #[] c λy k=>Vp y λt22=>Cl 36 #[] k λz l=>Vp z λt23=>Cl 37 #[] l λA m=>Vp A λt24=>Cl 38 #[] m λC n=>Vp C λt25=>aS n (.cells #[.pointer t22,.pointer t23,.pointer t24,.pointer t25,.pointer i,.pointer j,.U 0,.I 0] 41) λB o=>R (.tuple #[.P B 0,.I 0]) o):ar Tryz.prog 8 #[.agg #[.bool S,.U d,.U e,.string f,.string g]] h R:=aR (lq (lq (sq (lq (cq ll lf)) (lq (sq (lq (cq ll lf)) ll))))) Tryz.func8 p
theorem vc.walk(H: ∃t9,Cc h s 0 (.pointer t9)/\if(!t9.isNone)then∃t16,Cc h s 1 (.pointer t16)/\if(!t16.isNone)then∃t23,Cc h s 2 (.pointer t23)/\if(!t23.isNone)then∃t30,Cc h s 3 (.pointer t30)/\if(!t30.isNone)then∃t37,Cc h s 4 (.pointer t37)/\if(!t37.isNone)then∃t44,Cc h s 5 (.pointer t44)/\R (.bool (!t44.isNone)) h else R (.bool false) h else R (.bool false) h else R (.bool false) h else R (.bool false) h else R (.bool false) h):ar Tryz.prog 52 #[.P s 0] h R:=aR (lq ll) Tryz.func52 H
theorem vd.walk{now:Int}(k:Cl 52 #[.P s 0] h λv H=> ∃t9,v=.bool t9/\if(!t9)then R (.I 6) H else if(decide (now>1099511627776))then R (.I 1) H else∃t19,Cc H s 6 (.U t19)/\if(decide (now<t19))then R (.I 18) H else aE H (AA s 6) (.U now) λf=>Hp f s 2 λt28=>Cl 53 #[.pointer t28,.U now] f λV g=>Vl V λC B A=>Hp g s 3 λt34=>Cl 54 #[.pointer t34,.U now] g λy i=>Vl y λl t D=> ∃(I:Int->ai->Prop)(m:Int->ai->Nat),I 0 i/\∀(t38:Int)(c:ai),I t38 c->if(decide (t38<(t:Int)))then Bd t38 t/\aO l λa=>aU.LD c (a.add (toNat t38*4)) λn o r q p u=>aS c (.cells #[.I 0,.I 0,.Z,.U 0] 119) λb j=>aU.ST j (AA b 0) n o r q p u λd=>Hp d s 4 λt45=>Hi d b 1 λt47=>Hl d b 2 λx T w=>Cl 55 #[.pointer t45,.I t47,.I (T:Int)] d λz e=>Vi z λt51=>Cc e b 2 (.slice x T w)/\(I (wrap .i64 (t38+1)) e/\m (wrap .i64 (t38+1)) e<m t38 c)else R (.I 0) c):ar Tryz.prog 16 #[.P s 0,.U now] h R:=aR (lq (sq (bq (lq (cq ll (lq (cq ll (lq (cq ll lf))))))) (lq (lq (sq (lq (bq (.loop [(38,.one (.int .i64))] (lq (sq (cq lf lf) (sq (bq (lq (pN 10))) lf)))))) ll))))) Tryz.func16 k
theorem wL.walk{e:cj}{d D:Nat}{V:Int} (l:Cl 52 #[.P s 0] h λv H=> ∃t14,v=.bool t14/\if(!t14)then R (.tuple #[.I 0,.I 6]) H else aK (λ(t16:Bool) (a:ai)=>if t16 then R (.tuple #[.I 0,.I 15]) a else Hp a s 3 λt39=>Cl 240 #[.pointer t39,.I owner,.slice e d D,.U V] a λo b=> ∃f t,o=.tuple #[.I f,.I t]/\aK (λ(g:ai)=>R (.tuple #[.I f,.I t]) g) (λj=>if(t==0)then Hp b s 4 λt51=>Cl 241 #[.pointer t51,.I owner,.I (d:Int)] b λp i=> ∃t55,p=.I t55/\j i else j b)) (λJ=>Hp H s 3 λt20=>Cl 39 #[.pointer t20] H λq c=> ∃n T m,q=.slice n T m/\if(decide (((T:Nat):Int)≥16))then J true c else Hp c s 4 λt28=>Cl 239 #[.pointer t28,.I owner,.I (d:Int)] c λr k=> ∃t32,r=.bool t32/\J (!t32) k)):ar Tryz.prog 191 #[.P s 0,.I owner,.slice e d D,.U V] h R:=aR (lq (sq (bq (lq (cq ll (sq (.join [(16,.one (.bool))] lf) (cq ll lf))))) (lq (sq (lq (.join [] (cq lf lf))) ll)))) Tryz.func191 l
theorem r7.walk{num:Int} (m:aS h (.cells #[.I num] 3) λb i=>Cl 52 #[.P s 0] i λv c=> ∃t11,v=.bool t11/\if(!t11)then R (.I 6) c else Hp c s 3 λt16=>Cl 39 #[.pointer t16] c λV d=>Vl V λT t n=>Hp d s 3 λt21=>Hi d b 0 λt22=>Cl 152 #[.pointer t21,.I t22,.I owner] d λq k=>Vi q λt24=>Cl 153 #[.slice T t n,.func (.func 154) #[] #[.P b 0]] k λr e=>Vi r λt27=>aK (λ(t33:Bool) (H:ai)=>aK (λ(l:ai)=>R (.I t24) l) (λj=>if t33 then Hp H s 4 λt37=>Bd t27 t/\aO T λa=>zp H ((a.add (toNat t27*4)).add 2) λp g o=>Cl 55 #[.pointer t37,.I owner,.I (g:Int)] H λu f=>Vi u λt45=>aB f ((a.add (toNat t27*4)).add 2)=some (.slice p g o)/\j f else j H)) (λJ=>if(t24==0)then J (decide (t27≥0)) e else J false e)):ar Tryz.prog 102 #[.P s 0,.I num,.I owner] h R:=aR (lq (sq (lq (cq ll lf)) (lq (sq (pN 8) (sq (lq (sq (.join [(33,.one (.bool))] lf) (.join [] (cq (pN 12) lf)))) ll))))) Tryz.func102 m
theorem pW.walk{x:Int}{X:Int}{d:cj}{c a:Nat}{e:Int}{c0:Nat}(f:aS h (.cells #[.I x,.I X,.slice d c a,.U e] 119) λb H=>Hi H b 0 λt5=> ∃t6,Cc H c0 0 (.I t6)/\R (.bool (t5==t6)) H):ar Tryz.prog 154 #[.agg #[.I x,.I X,.slice d c a,.U e],.P c0 0] h R:=aR (lq ll) Tryz.func154 f
theorem Jz.walk{S:Bool}{d:Int}{e:Int}{f:ByteArray}{g:ByteArray}(j:aS h (.cells #[.bool S,.U d,.U e,.string f,.string g] 29) λb c=>aK (λ(t11:Bool) (H:ai)=>if t11 then R (.tuple #[.pointer none,.I 3]) H else ax.LD H (AA b 0) λt T k l m=>aS H (.cells #[.bool t,.U T,.U k,.string l,.string m,.U 0,.U 0,.bool true] 166) λB i=>R (.tuple #[.P B 0,.I 0]) i) (λJ=>ax.LD c (AA b 0) λn o p q r=>Cl 86 #[.agg #[.bool n,.U o,.U p,.string q,.string r]] c λv a=> ∃t5,v=.bool t5/\if(!t5)then J true a else ax.LD a (AA b 0) λu w x y z=> ∃(eq:Bool),vw Tryz.prog 29 (.agg #[.bool u,.U w,.U x,.string y,.string z]) (.agg #[.bool false,.U 0,.U 0,.string gi,.string gi]) eq/\J eq a)):ar Tryz.prog 33 #[.agg #[.bool S,.U d,.U e,.string f,.string g]] h R:=aR (lq (sq (sq (.join [(11,.one (.bool))] lf) (cq ll lf)) ll)) Tryz.func33 j
theorem ve.walk{m:Nat}(e:aS h (.cells #[.bool false,.U 0,.U 0,.string gi,.string gi,.U 0,.U 0] 124) λb a=>aK (λ(t11:Bool) (H:ai)=>if t11 then ah.ST H (AA b 0) false 0 0 gi gi 0 0 λc=>ah.LD c (AA b 0) λr g j l o q u=>R (.agg #[.bool r,.U g,.U j,.string l,.string o,.U q,.U u]) c else ah.LD H (AA m 0) λT w x y z A B=>ah.ST H (AA b 0) T w x y z A B λd=>ah.LD d (AA b 0) λf i k n p t v=>R (.agg #[.bool f,.U i,.U k,.string n,.string p,.U t,.U v]) d) (λJ=> ∃t9,Cc a m 7 (.bool t9)/\J (!t9) a)):ar Tryz.prog 74 #[.P m 0] h R:=aR (lq (sq (sq (.join [(11,.one (.bool))] lf) (cq ll lf)) ll)) Tryz.func74 e
theorem eU.cancel.walk{c:cj}{S e:Nat}{f:Nat}(d: ∃(I:Int->ai->Prop)(m:Int->ai->Nat),I 0 h/\∀(t8:Int)(H:ai),I t8 H->if(decide (t8<(S:Int)))then Bd t8 S/\aO c λa=>aU.LD H (a.add (toNat t8*4)) λt T j i g k=>Cl 154 #[.agg #[.I t,.I T,.slice j i g,.U k],.P f 0] H λv b=> ∃t16,v=.bool t16/\if t16 then R (.I t8) b else(I (wrap .i64 (t8+1)) b/\m (wrap .i64 (t8+1)) b<m t8 H)else R (.I (-1)) H):ar Tryz.prog 153 #[.slice c S e,.func (.func 154) #[] #[.P f 0]] h R:=aR (lq (sq (lq (bq (.loop [(8,.one (.int .i64))] (lq (sq (cq lf lf) (sq (bq (lq (lq (cq ll lf)))) lf)))))) ll)) Tryz.func153 d

end
section
namespace eI
open gC (It)
open jc (Ev cK ku)
variable {h h':ai} {R:fx} {s k:Nat} {X:Ft} {I:uW} {σ:SS}
variable {n r:Nat} {x:It} {l:List It} {L:List Go.jC.E} {B:gC.BS}
theorem fI(B:Bk h s I n r)(hk:R (.bool true) h):ar Tryz.prog 52 #[pt s] h R:=by
 refine vc.walk ?_;repeat (first|exact hk|refine⟨_,aw B,?_⟩|rw[af rfl])
theorem Pt.put(H:Pt h s X I σ)(b:Bk h' s I n r)(m:h'.size=h.size)(j: ∀x,x≠s->h'[x]? =h[x]?): ∃a,Pt h' s a I { σ with now:=n,rf:=r } /\bC X h a h':=by
 obtain⟨Z,⟨o,on⟩,p,z,go⟩:=H.use 6;obtain⟨a,d,st,_,_⟩:=go h' Z { σ with now:=n,rf:=r } ⟨b,on⟩ (bC.sC (Fr.of_eq m λc f=>j c (λe=>f ((on c).1.2 e)))) (λi g=>QE _ _ g);exact⟨a,d,st⟩
theorem Pt.Sq{n o:Int}(H:Pt h s X I σ)(e:σ.Q.Perm (x::l))(ok:qY σ.Q)(K:TE x)(d:n=(x.d.length:Int))(g:o=x.owner)(hk: ∀h' a,Pt h' s a I { σ with Q:=l } ->bC X h a h'->R (.I 0) h'):ar Tryz.prog 55 #[pt I.p,.I o,.I n] h R:=by
 subst g;obtain⟨Z,⟨m,P,on⟩,q,z,go⟩:=H.use 4;refine RJ (P.perm e) (qY.perm ok e) K d λh' p f=> ?_
 obtain⟨a,b,st,_,_⟩:=go h' Z { σ with Q:=l } ⟨m,p,on⟩ (bC.sC (f.mono λy _ j=>(on y).1.2 j)) (λi c=>FN _ c);exact hk h' a b st
theorem Pt.perm(H:Pt h s X I σ)(e:σ.Q.Perm l):Pt h s X I { σ with Q:=l } :=by
 obtain⟨Y,b,r⟩:=H;refine⟨Y,λi=> ?_,r⟩;by_cases a:i=4
 .subst a;obtain⟨m,P,on⟩:=b 4;exact⟨m,P.perm e,on⟩
 .rw[FN _ a];exact b i
theorem DQ{r:List It}(ok:qY (l++r)): ∀j,qY (l.drop j++r)
 |0=>ok
 |j+1=>by
  have h:=DQ ok j;rcases Nat.lt_or_ge j l.length with q|q
  .rw[cF q]at h;exact qY.sub h
  .rw[List.drop_eq_nil_of_le q]at h;rw[List.drop_eq_nil_of_le ae];exact h
theorem Pt.okB(H:Pt h s X I σ): ∃L,gC.okB σ.B L:=by
 obtain⟨Z,L,B,ok⟩:=H.box;exact⟨L,ok⟩
theorem Pt.ord(H:Pt h s X I σ):eZ.Ord σ.C:=by
 obtain⟨Y,a,_⟩:=H;exact eZ.Ct.ord (a 2)
theorem LS(ok:gC.okB B L)(H:x∈B.items):TE x:=by
 have:=ok.it x H;exact⟨this.2.2.1,this.2.2.2.1,this.2.2.2.2.1,this.2.2.2.2.2.1⟩
theorem Good.small(G:Good σ k)(O:eZ.Ord σ.C)(hk:k<=40000):eZ.Small σ.C:=G.c.small O hk
theorem JA(ok:gC.okB B L){P:It->Bool}{ys:List It}(c: ∀y∈ys,y∈B.items)(b:(ys.map It.kv).Perm ((B.items.filter P).map It.kv)):ys.Perm (B.items.filter P):=by
 have nd: ∀{l:List It},l.Sublist B.items->(l.map It.num).Nodup:=λd=>((ok.inc.sublist (d.map It.num))).imp λh=>Nat.ne_of_lt h
 have n1:((ys.map It.kv).map (λe=>e.1)).Nodup:=by
  refine(b.map _).nodup_iff.2 ?_;rw[dH];have:=nd (cA (l:=B.items) (p:=P));unfold List.Nodup at this⊢;rw[dY]at this⊢;exact this.imp λh e=>h (by have e:(_:Int)=(_:Int):=e;exact Int.ofNat.inj e)
 have n2:ys.Nodup:=by
  rw[dH]at n1;unfold List.Nodup at n1⊢;rw[dY]at n1;exact n1.imp λh e=>h (by rw[e])
 have N:(B.items.filter P).Nodup:=by
  have:=nd (cA (l:=B.items) (p:=P));unfold List.Nodup at this⊢;rw[dY]at this;exact this.imp λh e=>h (by rw[e])
 rw[List.perm_ext_iff_of_nodup n2 N];have inj: ∀x∈B.items,∀y∈B.items,x.kv=y.kv->x=y:=λx H y a e=>gC.uniq ok.inc H a (by have e:((x.num:Nat):Int)=((y.num:Nat):Int):=bY Prod.fst e;exact Int.ofNat.inj e)
 intro x;constructor
 .intro H;obtain⟨y,a,e⟩:=bg.1 (b.mem_iff.1 (bg.2 ⟨x,H,rfl⟩));rw[inj x (c x H) y (aW.1 a).1 e.symm];exact a
 .intro H;obtain⟨y,a,e⟩:=bg.1 (b.mem_iff.2 (bg.2 ⟨x,H,rfl⟩));rw[inj x (aW.1 H).1 y (c y a) e.symm];exact a
theorem FY(l:List It)(now:Nat):l.Perm (l.filter (λx=>decide ((x.bX:Int)<=(now:Int)))++l.filter (λx=>decide ((now:Int)<(x.bX:Int)))):=by
 have h:=(List.filter_append_perm (λx:It=>decide ((x.bX:Int)<=(now:Int))) l).symm;have e:(λx:It=> !decide ((x.bX:Int)<=(now:Int)))=λx:It=>decide ((now:Int)<(x.bX:Int)):=funext λx=>by
  by_cases q:(x.bX:Int)<=(now:Int)
  .rw[aq q,az ae];rfl
  .rw[az q,aq ae];rfl
 rw[e]at h;exact h
theorem oj{n:Int}(now:Nat)(hn:n=(now:Int))(H:Pt h s X I σ)(G:Good σ k)(j':k<=30000)(hk: ∀h' M,Pt h' s M I (DP σ now)->bC X h M h'->R (.I (pT σ now)) h'):ar Tryz.prog 16 #[pt s,.U n] h R:=by
 subst hn;have B:=H.cR;refine vd.walk (fI B ⟨_,rfl,?_⟩);rw[cW];unfold DP at hk;by_cases t:now>1099511627776
 .have e:pT σ now=1:=af t;rw[e,cW]at hk;rw[fO];exact hk h X H (bC.refl _ _)
 rw[ag (λe=>t (cf (aQ e)))];refine⟨_,aw B,?_⟩;by_cases u:now<σ.now
 .have e:pT σ now=18:=by unfold pT;rw[ag t,af u]
  rw[e,cW]at hk;rw[fO];exact hk h X H (bC.refl _ _)
 rw[ag (λe=>u (cf (aQ e)))];have e:pT σ now=0:=by unfold pT;rw[ag t,ag u]
 rw[e,af rfl]at hk;refine bB B bM λu a1 a2 a3=> ?_
 obtain⟨P,m,S⟩:=H.put (n:=now) (r:=σ.rf) a1 a2 a3;have a':=H.ord;have sm:=G.small a' ae;obtain⟨Z,f,zm,zd,go⟩:=m.use 2;refine⟨_,aw m.cR,eZ.oj f sm (by have:=G.c.L;show σ.C.over<=_;omega) (eZ.Good.held G.c) (now:Int) λT Z3 p3 c3 C3 s3 N3 g3=>⟨_,_,_,rfl,?_⟩⟩;obtain⟨X3,K,f',_,_⟩:=go T Z3 { σ with now:=now,C:=eZ.ie σ.C (now:Int) } C3 s3 (λi A=>uX (σ:= { σ with now:=now }) _ A);obtain⟨Z,f,zm,zd,go⟩:=K.use 3;obtain⟨L,okB⟩:=H.okB;refine⟨_,aw K.cR,gC.oj now rfl f (by have:=G.b;show σ.B.next<=_;omega) λU Z4 p4 c4 ys D F s4 Y d4 N e4 l' e' W=>⟨_,_,_,rfl,?_⟩⟩;have yp:(ys.map gC.IV.abs).Perm (σ.B.items.filter (λx=>decide ((x.bX:Int)<=(now:Int)))):=JA okB (λy c=>by obtain⟨z,f,rfl⟩:=bg.1 c;exact W z f) (by rw[e4];exact e');have yl:ys.length=(σ.B.items.filter (λx=>decide ((x.bX:Int)<=(now:Int)))).length:=by rw[<-yp.length_eq,aJ]
 have eB:({ σ.B with items:=σ.B.items.filter (λx=>decide ((now:Int)<(x.bX:Int))),over:=σ.B.over+ys.length } :gC.BS)=q7 σ.B now:=by unfold q7;rw[yl]
 rw[eB]at F;obtain⟨p,H4,g',i',c'⟩:=go U Z4 { σ with now:=now,C:=eZ.ie σ.C (now:Int),B:=q7 σ.B now } F s4 (λi A=>FM (σ:= { σ with now:=now,C:=eZ.ie σ.C (now:Int) }) _ A);have st:=S.trans (f'.trans g');have b': ∀y,aP p4 y->¬(p.M y\/p.D y)/\T.size<=y:=λy c=>⟨λd=>(N y c).2 (c' y (N y c).1 d),(N y c).1⟩
 have V:(σ.Q).Perm (ys.map gC.IV.abs++(q7 σ.B now).items):=by
  rw[G.q];exact(FY _ now).trans (yp.symm.append_right _)
 have qp:qY (ys.map gC.IV.abs++(q7 σ.B now).items):=qY.perm G.ok V;refine⟨λi g=> ∃(j:Nat)(q:Ft),i=(j:Int)/\j<=ys.length/\Pt g s q I { σ with now:=now,C:=eZ.ie σ.C (now:Int),B:=q7 σ.B now,Q:=(ys.map gC.IV.abs).drop j++(q7 σ.B now).items } /\bC p U q g/\fy g p4 ys.length c4 4 (ys.flatMap gC.fR),λi _=>ys.length - i.toNat,
  ⟨0,p,rfl,bP _,H4.perm V,bC.refl _ _,Y⟩,?_⟩
 rintro _ g ⟨j,q,rfl,hj,o,E,O⟩;have k':ys.length<=16:=by rw[yl];exact cJ (cg _ _) okB.le
 by_cases w:j<ys.length
 .rw[fO];have c:ys[j]? =some ys[j]:=aj w;obtain⟨pb,po,rfl⟩:=O.addr ae;refine⟨⟨ae,ae⟩,ay.2 (aU.ED (by rw[aI];exact O.gv gC.gL c) (aU.new λb g1 eb v f1=> ?_))⟩;have J:=o.on f1;have ed:(ys.map gC.IV.abs).drop j=ys[j].abs::(ys.map gC.IV.abs).drop (j+1):=by
   rw[cF (by rw[aJ];exact w),List.getElem_map]
  have d':=DQ qp j;refine⟨_,aw J.cR,_,aw v,_,_,_,aw v,J.Sq (x:=ys[j].abs) (l:=(ys.map gC.IV.abs).drop (j+1)++(q7 σ.B now).items) (by show((ys.map gC.IV.abs).drop j++_).Perm _;rw[ed];exact .refl _) d' (LS okB (W _ (dC w))) rfl rfl λg2 P m S=>⟨_,rfl,?_,?_⟩⟩
  .have lb:=aF v;exact S.fr.cell (aw v) (λd=>cf (o.lt b (.inl d)))
  .rw[bz ae ae];have s2:=E.on f1|>.trans S
   refine⟨⟨j+1,P,ae,ae,m,s2,(O.frame f1 (λ_ _=>id)).frame S.fr (λy c d=> ?_)⟩,by show ys.length - Int.toNat ((j:Int)+1)<ys.length - Int.toNat (j:Int);omega⟩;rcases E.jl y d with a|a
   .exact(b' y c).1 (.inl a)
   .have:=Y.eg c;omega
 .rw[ag (λe=>w (cf (aQ e)))];refine hk g q ?_ (st.trans E);rw[List.drop_eq_nil_of_le (by rw[aJ];omega)]at o;exact o

end eI
end
section
open Go.fQ
namespace eY
open kk
variable {h h':ai} {t:Nat} {X:Ft} {R:fx} {p:cj} {c i:Nat} {o:Pe} {D:Nat→Prop} {L:List SC} {A:List eY}
variable {num k:Int} {b:List UInt8} {n m nc':Nat} {s:SC} {d g:ai} {K':List BV} {np':cj} {E:Nat->Prop}
theorem CM.on(T:CM h t o D L)(f:Fr No h h'):CM h' t o D L:=by
 obtain⟨p,c,H,own,a⟩:=T.cR;refine⟨⟨p,c,f.get H id,own.frame f (λ_ _=>id),a⟩,T.Nd,λi s j=>(T.ses i s j).frame f (λ_ _ _ _ _=>id) (λ_ _=>id),?_,?_,T.ap⟩
 .intro c r e;exact cy (T.Lp c r e) f.1
 .intro c hd;exact cy (T.DA c hd) f.1
theorem FZ(xs:List AV)(id:Nat):(xs.filter (λx=>decide (x.id≠id))).map AV.abs=(xs.map AV.abs).filter (λa=>decide (a.1≠id)):=by
 rw[dk];rfl
theorem LU{B:List Nat}(id:Nat)(x':k=(id:Int))(H:qQ h t X A B)(ok:qp A)(hr:Row h p (bc b))(I:n=b.length)(hp:b≠ []->∀x,aP p x->¬X.M x)(hk: ∀h' O,qQ h' t O (jM A num id b) B->bC X h O h'->R (.I (Ls A num id b)) h'):
  ar Tryz.prog 46 #[.P t 0,.I num,.U k,.slice p n m] h R:=by
 subst x' I;have N:=H;obtain⟨o,L,Y,rfl,rfl,hS⟩:=H;have hl:=ok.le;rw[aJ]at hl;refine qN.walk (cC ?_);have f1:Fr No h (h.push (.cells #[.U (id:Int)] 27)):=Fr.push _ _;have b':pL (h.push (.cells #[.U (id:Int)] 27)) h.size id:=bT;have N':(h.push (.cells #[.U (id:Int)] 27)).size=h.size+1:=dN _;generalize h.push (.cells #[.U (id:Int)] 27)=d at f1 b' N'⊢;have Z:=Y.on f1;have st1:bC X h X d:=bC.hM f1;unfold jM Ls at hk;refine ir Z (λi s e Q=>⟨_,_,rfl,?_⟩) (λI=>⟨_,_,rfl,?_⟩) ae
 .rw[ag bM];subst e;rw[qq,mG Q]at hk;dsimp only at hk;refine aK.of λd' hJ=> ?_
  have jt:(id>1099511627776\/b.length>1000)->d' true d:=by
   intro hh;subst hJ;simp only[bh];simp only[hh,bh]at hk;exact hk d X (N.frame f1 (λ_ _ x=>x)) st1
  have jf: ¬(id>1099511627776\/b.length>1000)->d' false d:=by
   intro hh;subst hJ;simp only[au,aN];simp only[hh,aN]at hk;have S:=Z.ses i s Q;have tY:=ok.at_ i _ (mG Q);have kl:s.kept.length<=6:=by have:=tY.kl;rwa[show s.abs.kept.length=s.kept.length from aJ _]at this
   have T: ∀c,aP s.kp c->c≠s.b:=λc q e=>by have d:=S.kl c q;rw[e,S.lb]at d;simp at d
   have G': ∀c,aP s.np c->c≠s.b:=λc q e=>by have d:=S.nl c q;rw[e,S.lb]at d;simp at d
   have m': ∀c,aP s.kp c->¬aP s.np c:=λc q y=>by have d:=S.kl c q;rw[S.nl c y]at d;simp at d
   have kS: ∀c,aP s.kp c->X.M c:=λc q=>(hS c).2 ⟨_,S.kl c q⟩
   have bS:X.M s.b:=(hS s.b).2 ⟨_,S.lb⟩;have j': ¬aP s.kp h.size:=λf=>by have:=(N.lt _ (.inl (kS _ f)));omega
   have B':h.size≠s.b:=λe=>by have:=N.lt _ (.inl bS);omega
   have kD: ∀c,X.D c->¬(c=s.b\/aP s.kp c):=λc q f=>f.elim (λe=>Y.ap c _ (e▸S.lb) q) (λf=>Y.ap c _ (S.kl c f) q)
   refine ay.2 ⟨_,_,_,aw S.cR,Fx S.pJ rfl ae b' j' λh4 o4 f4 z'=>⟨_,_,_,rfl,ay.2 ?_⟩⟩;have w':=f4.get S.cR (λf=>T _ f rfl);refine bB w' bM λF k1 k2 k3=>ay.2 ?_
   have f5:Fr (λx=>x=s.b) h4 F:=Fr.of_eq k2 k3;have c':pL F h.size id:=f5.get z' B';have W:Fr (λx=>x=s.b\/aP s.kp x) d F:=(f4.mono (λ_ _ f=> .inr f)).tt (f5.mono (λ_ _ f=> .inl f));have M':Row F p (bc b):=by
    by_cases hb:b= []
    .rw[hb];exact .inl rfl
    .refine(hr.frame f1 (λ_ _ x=>x)).frame W (λa e f=> ?_);have:=hp hb a.block ⟨a,e,rfl⟩;exact f.elim (λe=>this (e▸bS)) (λf=>this (kS _ f))
   refine⟨_,_,_,aw k1,_,aw c',gK M' rfl ae λP C w o6 f6 g6=>⟨_,_,_,rfl,aw (f6.get c' (λx=>x)),aw (f6.get k1 (λx=>x)),?_⟩⟩;refine cC ?_;have f7:Fr No w (w.push (.cells #[.U (id:Int),.slice P b.length C] 161)):=Fr.push _ _;have p':Row (w.push (.cells #[.U (id:Int),.slice P b.length C] 161)) (some (AA w.size 0)) (AV.enc ⟨id,⟨P,C,b⟩⟩):=jq (cs:=AV.enc ⟨id,⟨P,C,b⟩⟩);have O':(w.push (.cells #[.U (id:Int),.slice P b.length C] 161)).size=w.size+1:=dN _;generalize w.push (.cells #[.U (id:Int),.slice P b.length C] 161)=h7 at f7 p' O'⊢;have f67:=f6.tt f7;have i':pL h7 h.size id:=f67.get c' (λx=>x);have k':=f67.get k1 (λx=>x);refine⟨aw i',aw k',?_⟩;have o5:=o4.frame f5 (λx f e=>T x f e);have o7:=o5.frame f67 (λ_ _ x=>x);have fl:=cg (λx:AV=>decide (x.id≠id)) s.kept;refine dO tA uA o7 p' rfl (λv hv=>by simp at hv;rcases hv with rfl|rfl<;>rfl) ae ae ?_;intro p8 c8 h8 o8 _ f8 g8;have A':pL h8 h.size id:=f8.get i' j';have C':=f8.get k' (λf=>T _ f rfl);refine⟨_,_,_,rfl,aw A',ay.2 ?_⟩;refine bB C' bM λz q1 q2 q3=>ay.2 ⟨_,_,_,aw q1,?_⟩
   have f9:Fr (λx=>x=s.b) h8 z:=Fr.of_eq q2 q3;have z5:d.size<=F.size:=W.1;have z6:=f6.1;have z8:=f8.1;have P':s.b<d.size:=aF S.cR;have l': ∀c,aP s.kp c->c<d.size:=λc q=>S.pJ.eg q
   have n': ∀c,aP p8 c->aP s.kp c\/h7.size<=c:=g8;have F': ∀c,aP p8 c->c≠s.b:=λc q e=>(n' c q).elim (λf=>T c f e) (λf=>ae)
   have U:=o8.frame f9 (λx f e=>F' x f e);have F9:Fr (λx=>x=s.b\/aP s.kp x) d z:=W.tt ((f67.mono (λ_ _=>False.elim)).tt ((f8.mono (λ_ _ f=> .inr f)).tt (f9.mono (λ_ _ f=> .inl f))));have r: ∀c,aP P c->F.size<=c/\c<w.size:=λc q=>⟨g6 c q,o6.eg q⟩
   have I':fy z P b.length C 1 (bc b):=((o6.frame f7 (λ_ _ x=>x)).frame f8 (λc q f=>ig (r c q) (l' c f))).frame f9 (λc q e=>cf (r c q));have r':(s.kept.filter (λx:AV=>decide (x.id≠id))).flatMap AV.enc++AV.enc ⟨id,⟨P,C,b⟩⟩=(s.kept.filter (λx:AV=>decide (x.id≠id))++ [(⟨id,⟨P,C,b⟩⟩:AV)]).flatMap AV.enc:=by rw[cU];simp
   rw[r']at U;have D':(s.kept.filter (λx:AV=>decide (x.id≠id))++ [(⟨id,⟨P,C,b⟩⟩:AV)]).map AV.abs=s.abs.kept.filter (λa=>decide (a.1≠id))++ [(id,b)]:=by
    rw[bf,FZ];rfl
   have M:(s.kept.filter (λx:AV=>decide (x.id≠id))++ [(⟨id,⟨P,C,b⟩⟩:AV)]).length=(s.kept.filter (λx:AV=>decide (x.id≠id))).length+1:=by rw[aA];rfl
   have E': ∀a∈s.kept.filter (λx:AV=>decide (x.id≠id))++ [(⟨id,⟨P,C,b⟩⟩:AV)],a.v.ok z (λc=>X.D c\/aP P c):=by
    intro a ha;rcases bJ.1 ha with ha|ha
    .exact((S.kd a (aW.1 ha).1).frame F9 kD).mono (λc=> .inl)
    .simp at ha;subst ha;exact BV.lC I' (λc=> .inr)
   generalize s.kept.filter (λx:AV=>decide (x.id≠id))++ [(⟨id,⟨P,C,b⟩⟩:AV)]=K at*;generalize (s.kept.filter (λx:AV=>decide (x.id≠id))).length=t' at*;refine aK.of λJ1 g'=> ?_
   have fin: ∀(g:ai)(K':List AV)(G:cj)(J:Nat),(∃j,K'=K.drop j)->K'.map AV.abs=hN s.abs.kept id b->At g { s with kept:=K',kp:=G,kc:=J } ->fy g G K'.length J 2 (K'.flatMap AV.enc)->
     (∀c,aP G c->aP s.kp c\/h7.size<=c)->Fr (λx=>x=s.b) z g->J1 g:=by
    intro g K' G J ⟨j,hj⟩ hK v' y' a' f12;subst g';have V:Fr (λx=>x=s.b\/aP s.kp x) d g:=F9.tt (f12.mono (λ_ _ f=> .inl f));obtain⟨O,HH,st⟩:=Z.TF (s':= { s with kept:=K',kp:=G,kc:=J }) (E:=aP P) hS Q rfl V (λc f=>f.elim (λe=>⟨_,e▸S.lb,ae,ae⟩) (λf=>⟨_,S.kl c f,ae,ae⟩)) v' y'
     (λc q=>(a' c q).imp (S.kl c) (λf=>ae)) (S.wD.frame V (λc q f=>f.elim (G' c q) (λf=>m' c f q))) (λc q=> .inl (S.nl c q))
     (λc q y=>(a' c q).elim (λf=>m' c f y) (λf=>cf (S.wD.eg y)))
     (λc q=>⟨cf ((r c q).1),rh ((r c q).2) f9.1 f12.1,λf=>(a' c f).elim (λy=>ig (l' c y) (r c q)) (λy=>cf (r c q)),λf=>ig (S.wD.eg f) (r c q)⟩)
     (λa ha=>(E' a (by rw[hj]at ha;exact List.mem_of_mem_drop ha)).frame f12 (λc q e=>q.elim (λq=>kD c q (.inl e)) (λq=>cf (r c q))))
     (λn I=>((S.nd n I).frame V kD).mono (λc=> .inl))
    refine hk g O ?_ (st1.trans st);unfold mF;rw[show((i:Int)+1 - 1).toNat=i by omega];have:({ s with kept:=K',kp:=G,kc:=J } :SC).abs= { s.abs with kept:=hN s.abs.kept id b } :=by
     unfold SC.abs;dsimp only;rw[hK];rfl
    rw[this]at HH;exact HH
   clear g';unfold hN at fin;rw[<-D',aJ,M]at fin;by_cases f':((t'+1:Nat):Int)>6
   .simp only[f',bA,bh];rw[fO]at fin;refine ay.2 ⟨_,_,_,aw q1,⟨ae,ae⟩,?_⟩;rw[<-M]at U;have o':=U.sub (l:=1) (u:=K.length) ae (aZ _);rw[<-eO AV.enc 2 gu K,fi,mR AV.enc 2 gu]at o';refine Jf o'.iT (by rw[bN,<-M];rfl) (by rw[bN];omega) λJ' q' u' H' f11 e'=>⟨_,_,_,rfl,ay.2 ?_⟩
    have L':=f11.get q1 (λx=>x);refine bB L' bM λg r1 r2 r3=> ?_
    have f12:Fr (λx=>x=s.b) u' g:=Fr.of_eq r2 r3;have z9:=f9.1;refine fin g (K.drop 1) J' q' ⟨1,rfl⟩ List.map_drop ?_ (H'.frame f12 (λc q e=>cf (e' c q))) (λc q=> .inr (cf (e' c q))) ((f11.mono (λ_ _=>False.elim)).tt f12);exact r1
   .simp only[f',bk,au,aN];rw[cW]at fin;refine fin z K p8 c8 ⟨0,rfl⟩ rfl ?_ (by rw[M];exact U) n' (Fr.refl _ _);show z[s.b]? =_;rw[q1];dsimp only;rw[M];rfl
  clear hJ;refine⟨_,aw b',?_⟩;by_cases c1:(id:Int)>1099511627776
  .simp only[c1,bA,bh];exact jt (.inl ae)
  .simp only[c1,bk,au,aN];by_cases c2:(b.length:Int)>1000
   .simp only[c2,bA];exact jt (.inr ae)
   .simp only[c2,bk];exact jf ae
 .rw[af (by rfl)];rw[kX (by rw[aJ];exact I)]at hk;exact hk d X (N.frame f1 (λ_ _ x=>x)) st1
theorem N9(id:Nat)(f:k=(id:Int))(H:Has h t X A)(ok:qp A)(q:Row h p (bc b))(j:n=b.length)(l:b≠ []->∀x,aP p x->¬X.M x)(hk: ∀h' a,Has h' t a (jM A num id b)->bC X h a h'->R (.I (Ls A num id b)) h'):
  ar Tryz.prog 46 #[.P t 0,.I num,.U k,.slice p n m] h R:=by
 obtain⟨B,H⟩:=H;exact LU id f H ok q j l λh' a e st=>hk h' a ⟨B,e⟩ st
theorem JB(xs:List AV)(id:Nat):vU (xs.map AV.abs) id=(xs.find? (λa=>decide (a.id=id))).map (λa=>a.v.b):=by
 unfold vU;rw[List.find?_map,Option.map_map];rfl
theorem Oa(id:Nat)(Z:k=(id:Int))(H:Has h t X A)(ok:qp A)(f: ∀b,lJ A num id=some b->∀h' P C,fy h' P b.length C 1 (bc b)->Fr No h h'->(∀x,aP P x->h.size<=x)->R (.tuple #[.slice P b.length C,.bool true]) h')(K:lJ A num id=none->gW h R (.tuple #[.Z,.bool false])):
  ar Tryz.prog 42 #[.P t 0,.I num,.U k] h R:=by
 subst Z;obtain⟨_,o,L,y,rfl,_,hS⟩:=H;have hl:=ok.le;rw[aJ]at hl;refine qO.walk (cC ?_);have f1:Fr No h (h.push (.cells #[.U (id:Int)] 27)):=Fr.push _ _;have I:pL (h.push (.cells #[.U (id:Int)] 27)) h.size id:=bT;generalize h.push (.cells #[.U (id:Int)] 27)=d at f1 I⊢;have T:=y.on f1;unfold lJ at f K;refine ir T (λi s e l=>⟨_,_,rfl,?_⟩) (λhn=>⟨_,_,rfl,?_⟩) ae
 .rw[ag bM];subst e;rw[qq,mG l]at f K;dsimp only at f K;rw[show s.abs.kept=s.kept.map AV.abs from rfl,JB]at f K;have S:=T.ses i s l;have tY:=ok.at_ i _ (mG l);have kl:s.kept.length<=6:=by have:=tY.kl;rwa[show s.abs.kept.length=s.kept.length from aJ _]at this
  refine ay.2 ⟨_,_,_,aw S.cR,Fw S.pJ.iT rfl ae I λF f3=>⟨_,rfl,?_⟩⟩;unfold wE;cases r:s.kept.findIdx? (λa=>decide (a.id=id))with
  |none=>
   rw[af (by rfl)];have:s.kept.find? (λa=>decide (a.id=id))=none:=by
    rw[List.find?_eq_none];intro a M;have:=cV.1 r a M;simpa using this
   rw[this]at K;exact K rfl F (f1.tt f3)
  |some j=>
   dsimp only;obtain⟨u,Y,W⟩:=cv.1 r;rw[cW];have q:s.kept[j]? =some s.kept[j]:=aj u;have Q:s.kept.find? (λa=>decide (a.id=id))=some s.kept[j]:=by
    rw[List.find?_eq_some_iff_getElem];exact⟨Y,j,u,rfl,λi V=>by have:=W i V;simpa using this⟩
   rw[Q]at f;have N:=f3.get S.cR (λx=>x);have O:=S.pJ.frame f3 (λ_ _ x=>x);have z:=S.kd _ (bj q);have b':s.kept[j].v.b.length<=1000:=(tY.kd (AV.abs s.kept[j]) (br (bj q))).2;generalize s.kept[j]=a at*;obtain⟨ab,a',v⟩:=O.addr ae;have w:=O;rw[v]at w;have U:=w.gv gu q;refine ay.2 ⟨_,_,_,aw N,⟨ae,ae⟩,?_⟩;rw[v];refine ay.2 ⟨a.v.p,a.v.b.length,a.v.c,?_,?_⟩
   .rw[aI];exact U.2.1
   refine gK (z.row.frame f3 (λ_ _ x=>x)) rfl ae λp4 B J o4 f4 G=>⟨_,_,_,rfl,?_⟩
   exact f a.v.b rfl J p4 B o4 (f1.tt (f3.tt f4)) (λx hx=>ig (G x hx) ((f1.tt f3).1))
 .rw[af (by rfl)];rw[kX (by rw[aJ];exact hn)]at K;exact K rfl d f1
theorem CM.TP(T:CM d t o X.D L)(y: ∀c,X.M c↔ ∃r,o c=some r)(w:L[i]? =some s)(B:At g { s with notes:=K',np:=np',nc:=nc' })(C:fy g np' K'.length nc' 1 (K'.flatMap wm))(v: ∀c,aP np' c->aP s.np c\/d.size<=c)(f:Fr (λx=>x=s.b\/aP s.np x) d g)(u: ∀c,E c->o c=none/\c<g.size/\¬aP np' c)(hd: ∀n∈K',n.ok g (λc=>X.D c\/E c)):
  ∃l,qQ g t l ((L.map SC.abs).set i { s.abs with notes:=K'.map BV.b }) (L.map SC.b)/\Fr X.M d g/\(∀c,l.M c->X.M c\/d.size<=c)/\(∀c,l.D c->X.D c\/E c)/\∀c,X.D c->l.D c:=by
 have S:=T.ses i s w;have F: ∀c,aP s.kp c->c≠s.b:=λc H e=>by have d:=S.kl c H;rw[e,S.lb]at d;simp at d
 have N: ∀c,aP s.kp c->¬aP s.np c:=λc H q=>by have d:=S.kl c H;rw[S.nl c q]at d;simp at d
 have kD: ∀c,X.D c->¬(c=s.b\/aP s.np c):=λc H j=>j.elim (λe=>T.ap c _ (e▸S.lb) H) (λj=>T.ap c _ (S.nl c j) H)
 exact T.RP (s':= { s with notes:=K',np:=np',nc:=nc' }) (E:=E) y w rfl f (λc j=>j.elim (λe=>⟨_,e▸S.lb,ae,ae⟩) (λj=>⟨_,S.nl c j,ae,ae⟩)) B
  (S.pJ.frame f (λc H j=>j.elim (F c H) (N c H))) (λc H=> .inl (S.kl c H)) C (λc H=>(v c H).imp (S.nl c) id)
  (λc q H=>(v c H).elim (λj=>N c q j) (λj=>cf (S.pJ.eg q)))
  (λc H=>⟨(u c H).1,(u c H).2.1,(λj=>by have a:=S.kl c j;rw[(u c H).1]at a;cases a),(u c H).2.2⟩)
  (λa z=>((S.kd a z).frame f kD).mono (λc=> .inl)) hd
theorem CM.notes(T:CM d t o X.D L)(y: ∀c,X.M c↔ ∃r,o c=some r)(w:L[i]? =some s)(B:At g { s with notes:=K',np:=np',nc:=nc' })(C:fy g np' K'.length nc' 1 (K'.flatMap wm))(v: ∀c,aP np' c->aP s.np c\/d.size<=c)(f:Fr (λx=>x=s.b\/aP s.np x) d g)(q: ∀c,E c->d.size<=c/\c<g.size/\¬aP np' c)(hd: ∀n∈K',n.ok g (λc=>X.D c\/E c)):
  ∃u,qQ g t u ((L.map SC.abs).set i { s.abs with notes:=K'.map BV.b }) (L.map SC.b)/\bC X d u g:=by
 have S:=T.ses i s w;have F: ∀c,aP s.kp c->c≠s.b:=λc H e=>by have d:=S.kl c H;rw[e,S.lb]at d;simp at d
 have N: ∀c,aP s.kp c->¬aP s.np c:=λc H l=>by have d:=S.kl c H;rw[S.nl c l]at d;simp at d
 have kD: ∀c,X.D c->¬(c=s.b\/aP s.np c):=λc H j=>j.elim (λe=>T.ap c _ (e▸S.lb) H) (λj=>T.ap c _ (S.nl c j) H)
 exact T.TF (s':= { s with notes:=K',np:=np',nc:=nc' }) (E:=E) y w rfl f (λc j=>j.elim (λe=>⟨_,e▸S.lb,ae,ae⟩) (λj=>⟨_,S.nl c j,ae,ae⟩)) B
  (S.pJ.frame f (λc H j=>j.elim (F c H) (N c H))) (λc H=> .inl (S.kl c H)) C (λc H=>(v c H).imp (S.nl c) id)
  (λc l H=>(v c H).elim (λj=>N c l j) (λj=>cf (S.pJ.eg l)))
  (λc H=>⟨(q c H).1,(q c H).2.1,λj=>ig (S.pJ.eg j) ((q c H).1),(q c H).2.2⟩)
  (λa z=>((S.kd a z).frame f kD).mono (λc=> .inl)) hd
theorem sR(H:Has h t X A)(ok:qp A)(hk: ∀h' f P G,Has h' t f (AE A num)->bC X h f h'->BV.ok h' f.D ⟨P,G,AD A num⟩->R (.tuple #[.slice P (AD A num).length G,.I (G5 A num),.I (Lt A num)]) h'):
  ar Tryz.prog 167 #[.P t 0,.I num] h R:=by
 have C:=H;obtain⟨_,o,L,T,rfl,_,Z⟩:=H;have hl:=ok.le;rw[aJ]at hl;unfold AE AD G5 Lt at hk;refine qP.walk (ir T (λi s e w=>⟨_,_,rfl,aK.of λJ y=> ?_⟩) (λq=>⟨_,_,rfl,aK.of λJ y=> ?_⟩) ae)
 .rw[af (by rfl)];subst e;rw[qq,mG w]at hk;dsimp only at hk;have S:=T.ses i s w;have tY:=ok.at_ i _ (mG w);have nl:s.notes.length<=6:=by have:=tY.nl;rwa[show s.abs.notes.length=s.notes.length from aJ _]at this
  refine ay.2 ⟨_,_,_,aw S.cR,?_⟩;subst y;dsimp only;have a':s.abs.notes=s.notes.map BV.b:=rfl;have mN: ∀s':eY,mF (L.map SC.abs) ((i:Int)+1) s'=(L.map SC.abs).set i s':=λs'=>by unfold mF;rw[show((i:Int)+1 - 1).toNat=i by omega]
  rw[mN,a',aJ]at hk;cases v:s.notes with
  |nil=>
   rw[v]at hk;rw[af (by rfl)];have b':(L.map SC.abs).set i { s.abs with notes:= [] } =L.map SC.abs:=by
    refine tc ?_;rw[mG w];congr 1
    unfold SC.abs;rw[v];rfl
   refine hk h X none 0 ?_ (bC.refl _ _) ⟨.inl rfl,λr=>absurd rfl r,bM⟩;have:(List.drop 1 (List.map BV.b []))=([]:List (List UInt8)):=rfl;rw[this,b'];exact C
  |cons x rest=>
   have r:((((x::rest).length:Nat):Int)==0)=false:=by simp only[ba,dj,fa];omega
   rw[ag (by rw[r];simp)];have e': ∀c,aP s.np c->c≠s.b:=λc a e=>by have d:=S.nl c a;rw[e,S.lb]at d;simp at d
   have own:=S.wD;have K:=S.cR;rw[v]at own hk nl;have z:h[s.b]? =some (.cells #[.I (s.num:Int),.U (s.token:Int),.bool s.up,.bool s.watch,.slice s.kp s.kept.length s.kc,.slice s.np (x::rest).length s.nc] 76 (0,0)):=by
    have:At h s:=K;unfold At hZ.at at this;rwa[v]at this
   obtain⟨U,V,B⟩:=own.addr bM;have O:=own;rw[B]at O;have c':=O.gv sS (i:=0) (x:=x) rfl;refine ay.2 ⟨_,_,_,aw z,⟨ae,by simp only[ba];omega⟩,?_⟩;rw[B];refine ay.2 ⟨x.p,x.b.length,x.c,?_,ay.2 ⟨some (AA U V),(x::rest).length,s.nc,?_,⟨ae,by simp only[ba];omega⟩,?_⟩⟩
   .have:=c'.1;rw[Nat.zero_mul,fP,fP]at this;rw[show Int.toNat 0*1=0 from rfl,fP];exact this
   .rw[<-B];exact aw z
   have M:=O.sub (l:=1) (u:=(x::rest).length) bM (aZ _);rw[<-eO wm 1 sS (x::rest),fi,mR wm 1 sS]at M;refine Jg (xs:=rest) M.iT bM (by simp only[ba]at nl;omega) λp3 W Y o3 f3 I=>⟨_,_,_,rfl,ay.2 ?_⟩
   have q3:=f3.get z id;refine bB q3 bM λj r1 r2 r3=> ?_
   have f4:Fr (λx=>x=s.b) Y j:=Fr.of_eq r2 r3;have f':s.b<h.size:=aF K;have z3:=f3.1;have F:Fr (λx=>x=s.b) h j:=(f3.mono (λ_ _=>False.elim)).tt f4;have kD: ∀c,X.D c->c≠s.b:=λc a e=>T.ap c _ (e▸S.lb) a
   have N: ∀n∈x::rest,n.ok j X.D:=λn q=>(S.nd n (by rw[v];exact q)).frame F kD
   obtain⟨f,Q,st⟩:=T.notes (K':=rest) (np':=p3) (nc':=W) (E:=λ_=>False) Z w r1 (o3.frame f4 (λc a e=>cf (I c a))) (λc a=> .inr (I c a)) (F.mono (λ_ _ hx=> .inl hx)) (λc a=>a.elim) (λn q=>(N n (cu _ q)).mono (λc=> .inl));have d':BV.ok j f.D x:=(N x cZ).mono st.wg;exact hk j f x.p x.c ⟨_,Q⟩ st d'
 .rw[ag bM];subst y;dsimp only;rw[kX (by rw[aJ];exact q)]at hk;rw[af (by rfl)];exact hk h X none 0 C (bC.refl _ _) ⟨.inl rfl,λr=>absurd rfl r,bM⟩

end eY
end
section
open Go.fQ
namespace eI
open jc (Ev cK ku Sm)
open kk
variable {h:ai} {R:fx} {k:Nat}
theorem Hj{e:Ev}{tm sq:Nat}(M:Mk h k e tm sq)(hk: gW h R (.agg #[.bool e.kH,.U e.node,.U e.gH,.string e.host,.string e.jD,.U (tm:Int),.U (sq:Int)])):
  ar Tryz.prog 74 #[pt k] h R:=by
 refine ve.walk (ah.box λb g E f f1=> ?_);have m:=f1.get M id;refine aK.of λJ d=>⟨_,aw m,?_⟩
 subst d;dsimp only;rw[cW];refine⟨_,aw m,_,aw m,_,aw m,_,aw m,_,aw m,_,aw m,_,aw m,ah.set f λH a A c=>ah.ld a (hk H (f1.fresh (Fr.of_eq (S:=λy=>y=b) A c) (λy e=>ae)))⟩

end eI
end
section
namespace eI
open jc (Ev cK ku)
variable {h h':ai} {R:fx} {s k:Nat} {X:Ft} {I:uW}
def F0(x:Ev):Prop:=cK x=true/\x≠Ev.zero
instance (x : Ev) : Decidable (F0 x) := by unfold F0; infer_instance
theorem vZ(x:Ev)(g:F0 x->∀h' b,Mk h' b x 0 0->h.size<=b->Fr No h h'->R (.tuple #[pt b,.I 0]) h')(K: ¬F0 x->gW h R (.tuple #[.pointer none,.I 3])):ar Tryz.prog 33 #[ku x] h R:=by
 refine Jz.walk (ax.box λb i E e f1=>aK.of λJ d=>ax.ld e (jc.eX x λc f2=>⟨_,rfl,?_⟩));have f:=f2.get e id;cases a:cK x with
 |false=>
  rw[fO];subst d;exact K (λm=>by rw[m.1]at a;cases a) c (f1.tt f2)
 |true=>
  rw[cW];refine ax.ld f ⟨_,jc.wj (y:=Ev.zero) rfl rfl,?_⟩;subst d;by_cases H:x=Ev.zero
  .rw[aq H];dsimp only;rw[af rfl];exact K (λm=>m.2 H) c (f1.tt f2)
  .rw[az H];dsimp only;rw[cW];refine ax.ld f (cC (g ⟨a,H⟩ _ _ bT (cJ f1.1 f2.1) ((f1.tt f2).tt (Fr.push _ _))))
theorem iH(x:Ev)(k1:F0 x->∀h' s X I,Pt h' s X I (u0 x)->KH h X h'->R (.tuple #[pt s,.I 0]) h')(k2: ¬F0 x->gW h R (.tuple #[.pointer none,.I 3])):ar Tryz.prog 8 #[ku x] h R:=by
 refine Jy.walk (ax.box λb f eb hb f1=>ax.ld hb (vZ x (λl d k M g2 f2=>⟨_,_,rfl,?_⟩) (λl d f2=>⟨_,_,rfl,?_⟩)))
 .rw[cW];refine kJ.iH 4800 1600 (λ_ G p m P g3 a' f3=>⟨_,_,rfl,?_⟩) (λe=>absurd e cM);rw[cW];refine eY.iH λJ t V z f4 u4=>⟨_,rfl,gg.iH λK r W A u=>⟨_,rfl,eZ.iH λN c Z C U=>⟨_,rfl,gC.iH λH o X3 D f7 u7=>⟨_,rfl,cC ?_⟩⟩⟩⟩
  have f8:Fr No H (H.push (.cells #[.P t 0,.P r 0,.P c 0,.P o 0,.P p 0,.P k 0,.U 0,.I 0] 41)):=Fr.push _ _;have B:(H.push (.cells #[.P t 0,.P r 0,.P c 0,.P o 0,.P p 0,.P k 0,.U 0,.I 0] 41))[H.size]? =_:=bT;have z8:(H.push (.cells #[.P t 0,.P r 0,.P c 0,.P o 0,.P p 0,.P k 0,.U 0,.I 0] 41)).size=H.size+1:=dN _;generalize H.push (.cells #[.P t 0,.P r 0,.P c 0,.P o 0,.P p 0,.P k 0,.U 0,.I 0] 41)=g at f8 B z8⊢;have w:=f7.tt f8;have v:=U.fr.tt w;have q:=u.fr.tt v;have n:=f4.tt q;have F:=f3.tt n;have T:=f1.tt (f2.tt F);have z1:=f1.1;have z2:=f2.1;have z3:=f3.1;have z4:=f4.1;have z5:=u.fr.1;have z6:=U.fr.1;have z7:=f7.1;have S:=P.lt;have lk:=aF M
  let Y:Nat->Ft:=λi=>match i with
   |0=>V|1=>W|2=>Z|3=>X3
   |4=>⟨λy=>y=p\/y=m,λ_=>False⟩
   |5=>⟨λy=>y=k,λ_=>False⟩
   |6=>⟨λy=>y=H.size,λ_=>False⟩
   |_=>⟨λ_=>False,λ_=>False⟩
  let L:Nat->Nat:=λi=> [G.size,J.size,K.size,N.size,d.size,f.size].getD i H.size
  let O:Nat->Nat:=λi=> [J.size,K.size,N.size,H.size,G.size,d.size].getD i g.size
  have bd: ∀i y,In (Y i) y->L i<=y/\y<O i:=λi y hy=>by
   rcases i with _|_|_|_|_|_|_|i
   .exact⟨u4 y hy,z.lt y hy⟩
   .exact⟨u.ge y hy,A.lt y hy⟩
   .exact⟨U.ge y hy,C.lt y hy⟩
   .exact⟨u7 y hy,D.lt y hy⟩
   .rcases hy with hy|hy
    .rcases hy with rfl|rfl
     .exact⟨g3,S.1⟩
     .exact⟨a',S.2⟩
    .exact hy.elim
   .rcases hy with hy|hy
    .have hy:y=k:=hy;exact⟨hy▸g2,hy▸lk⟩
    .exact hy.elim
   .rcases hy with hy|hy
    .have hy:y=H.size:=hy;exact⟨by show H.size<=y;omega,by show y<g.size;omega⟩
    .exact hy.elim
   .rcases hy with hy|hy<;>exact hy.elim
  refine k1 l g H.size ⟨λy=> ∃i,(Y i).M y,λy=> ∃i,(Y i).D y⟩ ⟨t,r,c,o,p,k⟩ ⟨Y,λi=> ?_,λi j y b' hy Q=> ?_,λ_=>dU,λ_=>dU⟩ ⟨T,λy hy=> ?_⟩
  .rcases i with _|_|_|_|_|_|_|i
   .exact z.frame q (λ_ _=>id)
   .exact A.on v
   .exact C.on w
   .exact gC.AG.on ⟨[],D,gC.okB.nil⟩ f8
   .exact⟨m,P.frame n id id,λy=>⟨dU,id⟩⟩
   .exact⟨F.get M id,λy=>⟨dU,id⟩⟩
   .exact⟨B,λy=>⟨dU,id⟩⟩
   .exact λy hy=>hy.elim id id
  .have f:=bd i y hy;have d:=bd j y Q;have E: ∀i,¬In (Y (i+7)) y:=λi hy=>hy.elim id id
   rcases i with _|_|_|_|_|_|_|i<;>first|exact E i hy|(rcases j with _|_|_|_|_|_|_|j<;>first|exact E j Q|exact b' rfl|(simp only[L,O,List.getD_cons_zero,List.getD_cons_succ,List.getD_nil]at f d;omega))
  .have key: ∀i,In (Y i) y->h.size<=y:=λi a=>by
    have f:=(bd i y a).1;rcases i with _|_|_|_|_|_|_|i<;>(simp only[L,List.getD_cons_zero,List.getD_cons_succ,List.getD_nil]at f;omega)
   rcases hy with⟨i,a⟩|⟨i,a⟩
   .exact key i (.inl a)
   .exact key i (.inr a)
 .rw[fO];exact k2 l d (f1.tt f2)

end eI
end
section
namespace Cb
structure CV where
 k:Int
 n:Nat
 v:BV
 q:cj
 ll:Nat
 cl:Nat
abbrev gV(x:CV):List Value:= [.int .i64 x.k,.int .u64 (x.n:Int),x.v.val,.slice x.q x.ll x.cl]
theorem fX(x:CV):(gV x).length=4:=rfl
abbrev CV.agg(x:CV):Value:=.agg (gV x).toArray
structure lS (h:ai) (D:Nat->Prop) (q:cj) (l c:Nat) (ys:List CV):Prop where
 len:l=ys.length
 row:Row h q (ys.flatMap gV)
 own:ys≠ []->∀y,aP q y->D y
 cap:l<=c
mutual
def gn (h:ai) (D:Nat->Prop):Tr->CV->Prop
 | .mk k n b l,x=>(x.k=k/\x.n=n/\x.v.b=b/\x.v.ok h D)/\∃ys,lS h D x.q x.ll x.cl ys/\cS h D l ys
def cS (h:ai) (D:Nat->Prop):List Tr->List CV->Prop
 | [], []=>True
 |t::ts,y::ys=>gn h D t y/\cS h D ts ys
 |_,_=>False
end
variable {h h' : ai} {D D' : Nat → Prop}
theorem lS.frame{Q:Nat->Prop}{q:cj}{l c:Nat}{ys:List CV}(H:lS h D q l c ys)(f:Fr Q h h')(b: ∀y,D y->¬Q y):lS h' D q l c ys:=by
 refine⟨H.len,?_,H.own,H.cap⟩;by_cases e:ys= []
 .subst e;exact Row.nil
 .exact H.row.frame f (λa E=>b _ (H.own e _ ⟨a,E,rfl⟩))
theorem lS.mono{q:cj}{l c:Nat}{ys:List CV}(H:lS h D q l c ys)(hd: ∀y,D y->D' y):lS h D' q l c ys:=⟨H.len,H.row,λe y a=>hd y (H.own e y a),H.cap⟩
theorem lS.lt{q:cj}{l c:Nat}{ys:List CV}(H:lS h D q l c ys):lS h (λy=>D y/\y<h.size) q l c ys:=⟨H.len,H.row,λe y a=>⟨H.own e y a,ja H.row (by cases ys with|nil=>exact absurd rfl e|cons=>simp) a⟩,H.cap⟩
theorem DR{x:BV}(H:x.ok h D):x.ok h (λy=>D y/\y<h.size):=⟨H.row,λe y a=>⟨H.own e y a,ja H.row (by cases b:x.b with|nil=>exact absurd b e|cons=>simp[bc]) a⟩,H.cap⟩
mutual
theorem gn.frame {Q:Nat->Prop} (f:Fr Q h h') (hq: ∀y,D y->¬Q y): ∀ {t:Tr} {x:CV},gn h D t x->gn h' D t x
 | .mk k n b l,x,H=>by
  unfold gn at H⊢;obtain⟨⟨h1,h2,h3,h4⟩,ys,h5,h6⟩:=H;exact⟨⟨h1,h2,h3,h4.frame f hq⟩,ys,h5.frame f hq,cS.frame f hq h6⟩
theorem cS.frame {Q:Nat->Prop} (f:Fr Q h h') (hq: ∀y,D y->¬Q y): ∀ {ts:List Tr} {ys:List CV},cS h D ts ys->cS h' D ts ys
 | [], [],_=>trivial
 |t::ts,y::ys,H=>by
  unfold cS at H⊢;exact⟨gn.frame f hq H.1,cS.frame f hq H.2⟩
 | [],_::_,H=>by unfold cS at H;exact H.elim
 |_::_, [],H=>by unfold cS at H;exact H.elim
end
mutual
theorem gn.mono (hd: ∀y,D y->D' y): ∀ {t:Tr} {x:CV},gn h D t x->gn h D' t x
 | .mk k n b l,x,H=>by
  unfold gn at H⊢;obtain⟨⟨h1,h2,h3,h4⟩,ys,h5,h6⟩:=H;exact⟨⟨h1,h2,h3,h4.mono hd⟩,ys,h5.mono hd,cS.mono hd h6⟩
theorem cS.mono (hd: ∀y,D y->D' y): ∀ {ts:List Tr} {ys:List CV},cS h D ts ys->cS h D' ts ys
 | [], [],_=>trivial
 |t::ts,y::ys,H=>by
  unfold cS at H⊢;exact⟨gn.mono hd H.1,cS.mono hd H.2⟩
 | [],_::_,H=>by unfold cS at H;exact H.elim
 |_::_, [],H=>by unfold cS at H;exact H.elim
end
mutual
theorem gn.lt: ∀ {t:Tr} {x:CV},gn h D t x->gn h (λy=>D y/\y<h.size) t x
 | .mk k n b l,x,H=>by
  unfold gn at H⊢;obtain⟨⟨h1,h2,h3,h4⟩,ys,h5,h6⟩:=H;exact⟨⟨h1,h2,h3,DR h4⟩,ys,h5.lt,cS.lt h6⟩
theorem cS.lt: ∀ {ts:List Tr} {ys:List CV},cS h D ts ys->cS h (λy=>D y/\y<h.size) ts ys
 | [], [],_=>trivial
 |t::ts,y::ys,H=>by
  unfold cS at H⊢;exact⟨gn.lt H.1,cS.lt H.2⟩
 | [],_::_,H=>by unfold cS at H;exact H.elim
 |_::_, [],H=>by unfold cS at H;exact H.elim
end
theorem gn.on{t:Tr}{x:CV}(H:gn h D t x)(f:Fr No h h'):gn h' D t x:=gn.frame f (λ_ _=>id) H
theorem cS.on{ts:List Tr}{ys:List CV}(H:cS h D ts ys)(f:Fr No h h'):cS h' D ts ys:=cS.frame f (λ_ _=>id) H
theorem cS.len: ∀{ts:List Tr}{ys:List CV},cS h D ts ys->ts.length=ys.length
 | [], [],_=>rfl
 |t::ts,y::ys,H=>by
  unfold cS at H;rw[ba,ba,cS.len H.2]
 | [],_::_,H=>by unfold cS at H;exact H.elim
 |_::_, [],H=>by unfold cS at H;exact H.elim
theorem cS.get: ∀{ts:List Tr}{ys:List CV}{i:Nat}{y:CV},cS h D ts ys->ys[i]? =some y->∃t,ts[i]? =some t/\gn h D t y
 | [], [],_,_,_,a=>by simp at a
 |t::ts,y::ys,0,z,H,a=>by
  unfold cS at H;rw[dt]at a;cases a;exact⟨t,rfl,H.1⟩
 |t::ts,y::ys,i+1,z,H,a=>by
  unfold cS at H;rw[dq]at a;obtain⟨u,b,c⟩:=cS.get H.2 a;exact⟨u,by rw[dq];exact b,c⟩
 | [],_::_,_,_,H,_=>by unfold cS at H;exact H.elim
 |_::_, [],_,_,H,_=>by unfold cS at H;exact H.elim
theorem cS.snoc: ∀{ts:List Tr}{ys:List CV}{t:Tr}{y:CV},cS h D ts ys->gn h D t y->cS h D (ts++ [t]) (ys++ [y])
 | [], [],_,_,_,a=>by
  show cS h D [_] [_];unfold cS;exact⟨a,trivial⟩
 |u::ts,z::ys,t,y,H,a=>by
  unfold cS at H;show cS h D (u::(ts++ [t])) (z::(ys++ [y]));unfold cS;exact⟨H.1,cS.snoc H.2 a⟩
 | [],_::_,_,_,H,_=>by unfold cS at H;exact H.elim
 |_::_, [],_,_,H,_=>by unfold cS at H;exact H.elim
theorem cS.take: ∀{ts:List Tr}{ys:List CV}(n:Nat),cS h D ts ys->cS h D (ts.take n) (ys.take n)
 | [], [],n,_=>by simp[cS]
 |t::ts,y::ys,0,_=>by simp[cS]
 |t::ts,y::ys,n+1,H=>by
  unfold cS at H;rw[fF,fF];unfold cS;exact⟨H.1,cS.take n H.2⟩
 | [],_::_,_,H=>by unfold cS at H;exact H.elim
 |_::_, [],_,H=>by unfold cS at H;exact H.elim
theorem cS.drop: ∀{ts:List Tr}{ys:List CV}(n:Nat),cS h D ts ys->cS h D (ts.drop n) (ys.drop n)
 | [], [],n,_=>by simp[cS]
 |t::ts,y::ys,0,H=>H
 |t::ts,y::ys,n+1,H=>by
  unfold cS at H;rw[List.drop_succ_cons,List.drop_succ_cons];exact cS.drop n H.2
 | [],_::_,_,H=>by unfold cS at H;exact H.elim
 |_::_, [],_,H=>by unfold cS at H;exact H.elim
end Cb
end
end Go.Proofs.YtlenamcfacpheaaGreatDoor
