/-
  Dz is proved here: parts of wz proof, one behind wz other (texts of this work, merged by a program; FI wz theorem FJ not use is left out). No condition.
-/
import Derived.Test.YtlenamcfacpheaaGreatDoorProg
import Derived.Shelf.SortM.Plain
import Derived.Shelf.SortM.SortNone
import Derived.Ground.SlgmProg
import Derived.Shelf.Strconv.Itoa4
import Derived.Ground.NamesProg
import Derived.Test.YtlenamcfacpheaaGreatDoorMAsnsc
set_option maxRecDepth 100000
set_option maxHeartbeats 4000000
namespace Go.Proofs.YtlenamcfacpheaaGreatDoor
open Go.Den
open IntKind (wrap)
open Int (toNat)
section
variable {h:aj} {R:fj}
variable {t s S D l:Nat} {n E c V k num:Int} {g m:cg} {e:Bool} {d f:ByteArray}
theorem Gv.walk(o:aQ h (.map #[] 0) λb H=>Cl 87 #[] H λv a=>Vp v λt2=>Cl 87 #[] a λp i=>Vp p λt3=>aQ i (.cells #[.map (some b),.I 1,.I 0,.I 0,.I 0,.pointer t2,.pointer t3] 110) λB j=>R (.P B 0) j):Cl 37 #[] h R:=aN (lq ll) Tryz.func37 o
theorem uC.walk(H: ∃t9,Cc h t 0 (.map t9)/\R (.bool (!t9.isNone)) h):Cl 47 #[.P t 0] h R:=aN (lq ll) Tryz.func47 H
theorem qA.walk(K:Cl 47 #[.P t 0] h λv H=>Vb v λt6=>aG (λ(x:cg) (w u:Nat) (A:aj)=>Cl 134 #[.slice x w u] A λQ B=>Q=.tuple #[]/\R (.slice x w u) B) (λJ=>if t6 then∃t10,Cc H t 0 (.map t10)/\aU Tryz.prog (Instr.range 107 (.map t10)) H λU C=> ∃(it:Nat),U=.P it 0/\∃(I:cg->Nat->Nat->aj->Prop)(M:cg->Nat->Nat->aj->Nat),I none 0 0 C/\∀(a:cg)(O o:Nat)(i:aj),I a O o i->aU Tryz.prog (Instr.next (.P it 0) false 0) i λz q=>(z=.tuple #[.bool false]/\J a O o q)\/(∃(L N:Value),z=.tuple #[.bool true,L,N]/\aU Tryz.prog (Instr.entry (.P it 0)) q λW F=> ∃(y P:Value),W=.tuple #[y,P]/\∃t15,y=.I t15/\aQ F (.cells #[.I t15] 3) λb G=>aU Tryz.prog (Builtin.append_ #[105,105] 105 #[.slice a O o,.slice (Sa b 0) 1 1]) G λX r=> ∃p j T,X=.slice p j T/\(I p j T r/\M p j T r<M a O o i))else J none 0 0 H)):Cl 68 #[.P t 0] h R:=aN (lq (lq (sq (lq (.join [(3,.one (.slice))] (cq (lq (bq (.loop [(3,.one (.slice))] (lq (sq (cq lf lf) (bq (sq (.typed [(15,.one (.int .i64))]) lf))))))) lf))) (lq ll)))) Tryz.func68 K
theorem uD.walk{c0:Nat}{c1:Nat}(H:Hp h c0 0 λt5=>aM t5 λa=> ∃t8,aX h a=some (.map t8)/\∃t10,gW Tryz.prog 107 (.map t8) (.I n) false h (.pointer t10)/\aM t10 λA=>aw.LD h (A.add 1) λT b i j o=>aw.LD h (AA c1 0) λp q r u v=> ∃(eq:Bool),xO Tryz.prog 29 (.agg #[.bool T,.U b,.U i,.string j,.string o]) (.agg #[.bool p,.U q,.U r,.string u,.string v]) eq/\R (.bool (!eq)) h):Cl 113 #[.I n,.P c0 0,.P c1 0] h R:=aN (lq (sq (pN 12) lf)) Tryz.func113 H
theorem lK.of.walk{b:Nat}{o:Nat}(B:Cl 168 #[.slice g s S,.func (.func 113) #[] #[.P b 0,.P o 0]] h λv q=> ∃t10,v=.I t10/\if(t10==(-1))then R (.slice g s S) q else∃(I:Int->Int->aj->Prop)(M:Int->Int->aj->Nat),I t10 (wrap .i64 (t10+1)) q/\∀(i:Int)(j:Int)(H:aj),I i j H->if(decide (j<(s:Int)))then aG (λ(w:Int) (r:aj)=>(I w (wrap .i64 (j+1)) r/\M w (wrap .i64 (j+1)) r<M i j H)) (λJ=>Bd j s/\aM g λa=>jV H (a.add (toNat j*1)) λt25=>Cl 113 #[.I t25,.P b 0,.P o 0] H λF u=>Vb F λt28=>aG (λ(C:Int) (x:aj)=>J C x) (λp=>if(!t28)then Bd i s/\aM g λA=>aO u (A.add (toNat i*1)) (.I t25) λy=>p (wrap .i64 (i+1)) y else p i u))else((0:Int)<=i/\i<=(s:Int))/\aU Tryz.prog (Builtin.clear_ #[105] 0 #[.slice (cK g S (toNat i) 1) (s - (toNat i)) (S - (toNat i))]) H λG z=>G=.tuple #[]/\((0:Int)<=i/\i<=(S:Int))/\R (.slice (cK g S 0 1) ((toNat i) - 0) (S - 0)) z):Cl 112 #[.slice g s S,.func (.func 113) #[] #[.P b 0,.P o 0]] h R:=aN (lq (lq (sq (lq (cq ll lf)) (sq (lq (bq (.loop [(5,.one (.int .i64)),(6,.one (.int .i64))] (sq (lq (cq lf lf)) (sq (.join [(5,.one (.int .i64))] (bq (lq (lq (.join [(5,.one (.int .i64))] (cq ll lf)))))) lf))))) (lq ll))))) Tryz.func112 B
theorem hH.of.walk{F:Nat}{i:Nat}(j: ∃(I:Int->aj->Prop)(M:Int->aj->Nat),I 0 h/\∀(t8:Int)(H:aj),I t8 H->if(decide (t8<(s:Int)))then Bd t8 s/\aM g λa=>jV H (a.add (toNat t8*1)) λt15=>Cl 113 #[.I t15,.P F 0,.P i 0] H λv b=> ∃t16,v=.bool t16/\if t16 then R (.I t8) b else(I (wrap .i64 (t8+1)) b/\M (wrap .i64 (t8+1)) b<M t8 H)else R (.I (-1)) H):Cl 168 #[.slice g s S,.func (.func 113) #[] #[.P F 0,.P i 0]] h R:=aN (lq (sq (lq (bq (.loop [(8,.one (.int .i64))] (lq (sq (cq lf lf) (sq (bq (lq (lq (cq ll lf)))) lf)))))) ll)) Tryz.func168 j
theorem xC.walk(q:aQ h (.cells #[.P t 0] 36) λb j=>aQ j (.cells #[.bool e,.U E,.U c,.string d,.string f] 29) λB H=>Hp H b 0 λt5=>Cl 68 #[.pointer t5] H λv o=>Vl v λw u r=>Cl 112 #[.slice w u r,.func (.func 113) #[] #[.P b 0,.P B 0]] o λx p=> ∃i a T,x=.slice i a T/\R (.slice i a T) p):Cl 49 #[.P t 0,.agg #[.bool e,.U E,.U c,.string d,.string f]] h R:=aN (lq ll) Tryz.func49 q
theorem sL.walk(r:aQ h (.cells #[.bool e,.U E,.U c,.string d,.string f] 29) λb i=>aw.LD i (AA b 0) λx y z B C=>Cl 49 #[.P t 0,.agg #[.bool x,.U y,.U z,.string B,.string C]] i λv p=>Vl v λw T F=> ∃(I:Int->Int->aj->Prop)(M:Int->Int->aj->Nat),I 0 0 p/\∀(n:Int)(t12:Int)(H:aj),I n t12 H->if(decide (t12<(T:Int)))then aG (λ(N:Int) (o:aj)=>(I N (wrap .i64 (t12+1)) o/\M N (wrap .i64 (t12+1)) o<M n t12 H)) (λJ=>Bd t12 T/\aM w λa=>jV H (a.add (toNat t12*1)) λt15=> ∃t19,Cc H t 0 (.map t19)/\∃t21,gW Tryz.prog 107 (.map t19) (.I t15) false H (.pointer t21)/\aM t21 λA=>jV H (A.add 8) λt24=>aG (λ(u:Int) (q:aj)=>J u q) (λj=>if(t24==0)then j (wrap .i64 (n+1)) H else j n H))else R (.I n) H):Cl 103 #[.P t 0,.agg #[.bool e,.U E,.U c,.string d,.string f]] h R:=aN (lq (lq (sq (lq (bq (.loop [(5,.one (.int .i64)),(12,.one (.int .i64))] (lq (sq (cq lf lf) (sq (.join [(5,.one (.int .i64))] (bq (lq (lq (.join [(5,.one (.int .i64))] (cq lf lf)))))) lf)))))) ll))) Tryz.func103 r
theorem rQ.walk(p:aQ h (.cells #[.I 0,.I 0,.I 0,.I 0,.I 0,.I 0] 50) λb o=>Cl 47 #[.P t 0] o λv a=> ∃t5,v=.bool t5/\if(!t5)then gj.ST a (AA b 0) 0 0 0 0 0 0 λi=>gj.LD i (AA b 0) λr u x z B F=>R (.agg #[.I r,.I u,.I x,.I z,.I B,.I F]) i else Hp a t 6 λt11=>Cl 56 #[.pointer t11] a λI H=>Vi I λt12=>Hi H t 1 λt16=> ∃t21,Cc H t 0 (.map t21)/\∃t22:Int,K3 Tryz.prog #[107] 3 (.map t21) H (.I t22)/\Hi H t 2 λt29=>Hi H t 3 λt33=>Hi H t 4 λt37=>gj.ST H (AA b 0) (wrap .i64 (t16 - 1)) (wrap .i64 (t22 - t12)) t12 t29 t33 t37 λj=>gj.LD j (AA b 0) λq w y A C G=>R (.agg #[.I q,.I w,.I y,.I A,.I C,.I G]) j):Cl 17 #[.P t 0] h R:=aN (lq (sq (lq (cq ll lf)) (lq (sq (pN 27) lf)))) Tryz.func17 p
theorem AJ.walk(i:aQ h (.cells #[.bool e,.U E,.U c,.string d,.string f] 29) λb a=>aw.LD a (AA b 0) λr u w x y=>Cl 86 #[.agg #[.bool r,.U u,.U w,.string x,.string y]] a λv H=> ∃t8,v=.bool t8/\if t8 then aw.LD H (AA b 0) λT j o p q=> ∃(eq:Bool),xO Tryz.prog 29 (.agg #[.bool T,.U j,.U o,.string p,.string q]) (.agg #[.bool false,.U 0,.U 0,.string gV,.string gV]) eq/\if(!eq)then if(decide ((D:Int)≥1))then if(decide ((D:Int)<=600))then R (.bool (decide (V<=1099511627776))) H else R (.bool false) H else R (.bool false) H else R (.bool false) H else R (.bool false) H):Cl 48 #[.agg #[.bool e,.U E,.U c,.string d,.string f],.slice m D l,.U V] h R:=aN (lq ll) Tryz.func48 i
theorem vO.walk(C:aQ h (.cells #[.bool e,.U E,.U c,.string d,.string f] 29) λb z=>Cl 47 #[.P t 0] z λv a=> ∃t13,v=.bool t13/\if(!t13)then R (.tuple #[.I 0,.I 6]) a else aw.LD a (AA b 0) λF G I J K=>Cl 48 #[.agg #[.bool F,.U G,.U I,.string J,.string K],.slice m D l,.U V] a λZ i=> ∃t19,Z=.bool t19/\if(!t19)then R (.tuple #[.I 0,.I 1]) i else aw.LD i (AA b 0) λL M N O P=>Cl 49 #[.P t 0,.agg #[.bool L,.U M,.U N,.string O,.string P]] i λa' H=> ∃U y Q,a'=.slice U y Q/\if(decide (((y:Nat):Int)≥16))then R (.tuple #[.I 0,.I 15]) H else Hi H t 1 λt30=> ∃t34,Cc H t 1 (.I t34)/\aO H (AA t 1) (.I (wrap .i64 (t34+1))) λj=> ∃t41,Cc j t 0 (.map t41)/\aw.LD j (AA b 0) λT q r u w=>Cl 50 #[.slice m D l] j λb' o=>Vl b' λY X W=>dI (AA b 0) [.bool T,.U q,.U r,.string u,.string w] 0 o/\Cc o t 0 (.map t41)/\aQ o (.cells #[.I t30,.bool T,.U q,.U r,.string u,.string w,.slice Y X W,.U V,.I 0,.U 0] 114) λB p=>dI (AA b 0) [.bool T,.U q,.U r,.string u,.string w] 0 p/\Cc p t 0 (.map t41)/\aU Tryz.prog (Instr.mapUpdate 107 (.map t41) (.I t30) (.P B 0)) p λ_ x=>Hp x t 5 λt53=>Cl 51 #[.pointer t53,.I t30,.U V] x λc' A=> ∃t56,c'=.I t56/\R (.tuple #[.I t30,.I 0]) A):Cl 15 #[.P t 0,.agg #[.bool e,.U E,.U c,.string d,.string f],.slice m D l,.U V] h R:=aN (lq (sq (bq (lq (cq ll (lq (cq ll (lq (cq ll lf))))))) (lq (lq (sq (.gY (.op 0 (.op 1 (.op 2 (.op 3 (.op 4 (.op 5 (.op 6 (.op 7 (.op 9 (.op 8 (.op 10 (.op 11 (.op 12 .done)))))))))))))) (lq ll)))))) Tryz.func15 C
theorem vP.walk(H:if(decide (n≥1))then R (.bool (decide (n<=1099511627776))) h else R (.bool false) h):Cl 192 #[.I n] h R:=aN (lq ll) Tryz.func192 H
theorem sM.walk{i:Int}(hv:aQ h (.cells #[.bool e,.U E,.U c,.string d,.string f] 29) λb U=>aQ U (.cells #[.I 0,.bool false,.U 0,.U 0,.string gV,.string gV,.Z,.U 0,.I 0,.U 0] 114) λB Y=>Cl 47 #[.P t 0] Y λv z=> ∃t16,v=.bool t16/\if(!t16)then aK.ST z (AA B 0) 0 false 0 0 gV gV none 0 0 0 0 0 λA=>aK.LD A (AA B 0) λb' f' j' n' r' v' H' D' z' L' P' T'=>R (.tuple #[.agg #[.I b',.bool f',.U j',.U n',.string r',.string v',.slice H' D' z',.U L',.I P',.U T'],.I 6]) A else aG (λ(t19:Bool) (o:aj)=>if t19 then aK.ST o (AA B 0) 0 false 0 0 gV gV none 0 0 0 0 0 λC=>aK.LD C (AA B 0) λc' g' k' o' s' w' I' E' A' M' Q' U'=>R (.tuple #[.agg #[.I c',.bool g',.U k',.U o',.string s',.string w',.slice I' E' A',.U M',.I Q',.U U'],.I 1]) C else aw.LD o (AA b 0) λX' Y' Z' Rp Rr=>Cl 49 #[.P t 0,.agg #[.bool X',.U Y',.U Z',.string Rp,.string Rr]] o λRs Z=>Vl Rs λRt T Uj=> ∃(I:Int->aj->Prop)(M:Int->aj->Nat),I 0 Z/\∀(t32:Int)(H:aj),I t32 H->if(decide (t32<(T:Int)))then Bd t32 T/\aM Rt λa=>jV H (a.add (toNat t32*1)) λt35=> ∃t39,Cc H t 0 (.map t39)/\∃t41,gW Tryz.prog 107 (.map t39) (.I t35) false H (.pointer t41)/\aM t41 λL=> ∃t45,aX H (L.add 8)=some (.I t45)/\if(t45==0)then aM t41 λN=>aO H (N.add 8) (.I k) λa'=>aM t41 λO=>aO a' (O.add 9) (.U i) λp=>Hp p t 6 λt58=>Cl 51 #[.pointer t58,.I t35,.U i] p λOw q=>Vi Ow λt61=>aM t41 λP=>aK.LD q P λRu Rv Rx Ry Rz RA Ox Oy Oz RB RC RE=>aQ q (.cells #[.I 0,.bool false,.U 0,.U 0,.string gV,.string gV,.Z,.U 0,.I 0,.U 0] 114) λj W=>aK.ST W (AA j 0) Ru Rv Rx Ry Rz RA Ox Oy Oz RB RC RE λr=>aM t41 λQ=>te r (Q.add 6) λRG RH RI=>Cl 50 #[.slice RG RH RI] r λOA X=> ∃K G F,OA=.slice K G F/\aO X (AA j 6) (.slice K G F) λu=>aK.LD u (AA j 0) λMj Ml Il RJ RL RM OB OC OD RN RO RP=>aK.ST u (AA B 0) Mj Ml Il RJ RL RM OB OC OD RN RO RP λw=>aK.LD w (AA B 0) λd' h' l' p' t' x' J' F' B' N' R' V'=>R (.tuple #[.agg #[.I d',.bool h',.U l',.U p',.string t',.string x',.slice J' F' B',.U N',.I R',.U V'],.I 0]) w else(I (wrap .i64 (t32+1)) H/\M (wrap .i64 (t32+1)) H<M t32 H)else aK.ST H (AA B 0) 0 false 0 0 gV gV none 0 0 0 0 0 λx=>aK.LD x (AA B 0) λe' i' m' q' u' y' K' G' C' O' S' W'=>R (.tuple #[.agg #[.I e',.bool i',.U m',.U q',.string u',.string y',.slice K' G' C',.U O',.I S',.U W'],.I 4]) x) (λJ=>Cl 192 #[.I k] z λJO y=> ∃t21,JO=.bool t21/\if(!t21)then J true y else J (decide (i>1099511627776)) y)):Cl 156 #[.P t 0,.agg #[.bool e,.U E,.U c,.string d,.string f],.I k,.U i] h R:=aN (lq (sq (bq (lq (cq ll (sq (.join [(19,.one (.bool))] lf) (cq ll lf))))) (sq (lq (bq (.loop [(32,.one (.int .i64))] (lq (sq (cq lf lf) (sq (bq (lq (lq (lq (cq (lq (lq (lq (lq ll)))) lf))))) lf)))))) ll))) Tryz.func156 hv
theorem uE.walk(i:Cl 47 #[.P t 0] h λv H=> ∃t10,v=.bool t10/\if(!t10)then R (.tuple #[.pointer none,.I 6]) H else∃t16,Cc H t 0 (.map t16)/\∃t18,gW Tryz.prog 107 (.map t16) (.I num) false H (.pointer t18)/\if t18.isNone then R (.tuple #[.pointer none,.I 4]) H else aG (λ(t20:Bool) (b:aj)=>if t20 then R (.tuple #[.pointer none,.I 14]) b else∃t47,Cc b t 0 (.map t47)/\∃t49,gW Tryz.prog 107 (.map t47) (.I num) false b (.pointer t49)/\R (.tuple #[.pointer t49,.I 0]) b) (λJ=> ∃t24,Cc H t 0 (.map t24)/\∃t26,gW Tryz.prog 107 (.map t24) (.I num) false H (.pointer t26)/\aM t26 λa=> ∃t29,aX H (a.add 8)=some (.I t29)/\if(t29==0)then J true H else∃t35,Cc H t 0 (.map t35)/\∃t37,gW Tryz.prog 107 (.map t35) (.I num) false H (.pointer t37)/\aM t37 λA=> ∃t40,aX H (A.add 8)=some (.I t40)/\J (t40 !=k) H)):Cl 165 #[.P t 0,.I num,.I k] h R:=aN (lq (sq (bq (lq (cq ll (lq (cq ll (sq (.join [(20,.one (.bool))] lf) (cq ll lf))))))) ll)) Tryz.func165 i
theorem uF.walk(j:Hp h t 6 λt7=>Cl 115 #[.pointer t7,.I n] h λv H=>Vi v λt9=> ∃t13,Cc H t 0 (.map t13)/\∃t15,gW Tryz.prog 107 (.map t13) (.I n) false H (.pointer t15)/\∃t19,Cc H t 0 (.map t19)/\∃t21,gW Tryz.prog 107 (.map t19) (.I n) false H (.pointer t21)/\aM t15 λa=>aO H (a.add 8) (.I 0) λb=>aM t21 λA=>aO b (A.add 9) (.U 0) λi=>R (.tuple #[]) i):Cl 120 #[.P t 0,.I n] h R:=aN (lq (pN 18)) Tryz.func120 j
theorem rR.walk(i:Hp h t 6 λt7=>Cl 115 #[.pointer t7,.I n] h λv H=>Vi v λt9=>Hp H t 5 λt13=>Cl 115 #[.pointer t13,.I n] H λj a=>Vi j λt15=> ∃t19,Cc a t 0 (.map t19)/\aU Tryz.prog (Builtin.delete_ #[107,3] 0 #[.map t19,.I n]) a λo b=>o=.tuple #[]/\R (.tuple #[]) b):Cl 119 #[.P t 0,.I n] h R:=aN (lq ll) Tryz.func119 i
theorem vQ.walk(j:Cl 165 #[.P t 0,.I num,.I k] h λv H=> ∃o T,v=.tuple #[.pointer o,.I T]/\aG (λ(b:aj)=>R (.I T) b) (λJ=>if(T==0)then Cl 119 #[.P t 0,.I num] H λp a=>p=.tuple #[]/\∃t24,Cc a t 2 (.I t24)/\aO a (AA t 2) (.I (wrap .i64 (t24+1))) λi=>J i else J H)):Cl 161 #[.P t 0,.I num,.I k] h R:=aN (lq (lq (sq (lq (.join [] (cq ll lf))) ll))) Tryz.func161 j
theorem qB.walk(i:Cl 165 #[.P t 0,.I num,.I k] h λv H=> ∃j T,v=.tuple #[.pointer j,.I T]/\aG (λ(a:aj)=>R (.I T) a) (λJ=>if(T==0)then Cl 120 #[.P t 0,.I num] H λo b=>o=.tuple #[]/\J b else J H)):Cl 107 #[.P t 0,.I num,.I k] h R:=aN (lq (lq (sq (lq (.join [] (cq lf lf))) ll))) Tryz.func107 i
theorem uH.walk{now:Int}(z:Cl 47 #[.P t 0] h λv j=> ∃t11,v=.bool t11/\if(!t11)then R (.Z) j else Hp j t 5 λt16=>Cl 118 #[.pointer t16,.U now] j λF x=>Vl F λu T B=> ∃(I:Int->aj->Prop)(M:Int->aj->Nat),I 0 x/\∀(t21:Int)(H:aj),I t21 H->if(decide (t21<(T:Int)))then Bd t21 T/\aM u λa=>jV H (a.add (toNat t21*1)) λt24=>Cl 119 #[.P t 0,.I t24] H λG o=>G=.tuple #[]/\∃t31,Cc o t 3 (.I t31)/\aO o (AA t 3) (.I (wrap .i64 (t31+1))) λp=>(I (wrap .i64 (t21+1)) p/\M (wrap .i64 (t21+1)) p<M t21 H)else Hp H t 6 λt39=>Cl 118 #[.pointer t39,.U now] H λJ y=>Vl J λC w L=> ∃(i:Int->aj->Prop)(r:Int->aj->Nat),i 0 y/\∀(t43:Int)(b:aj),i t43 b->if(decide (t43<(w:Int)))then Bd t43 w/\aM C λA=>jV b (A.add (toNat t43*1)) λt46=>Cl 120 #[.P t 0,.I t46] b λK q=>K=.tuple #[]/\(i (wrap .i64 (t43+1)) q/\r (wrap .i64 (t43+1)) q<r t43 b)else R (.slice u T B) b):Cl 53 #[.P t 0,.U now] h R:=aN (lq (sq (lq (cq ll lf)) (lq (sq (lq (bq (.loop [(21,.one (.int .i64))] (lq (sq (cq lf lf) (sq (bq (lq ll)) lf)))))) (sq (lq (bq (.loop [(43,.one (.int .i64))] (lq (sq (cq lf lf) (sq (bq ll) lf)))))) ll))))) Tryz.func53 z
theorem uJ.walk(r:aQ h (.cells #[.bool e,.U E,.U c,.string d,.string f] 29) λb i=>aw.LD i (AA b 0) λw x y z A=>Cl 49 #[.P t 0,.agg #[.bool w,.U x,.U y,.string z,.string A]] i λv q=>Vl v λp T u=> ∃(I:Int->aj->Prop)(M:Int->aj->Nat),I 0 q/\∀(t13:Int)(H:aj),I t13 H->if(decide (t13<(T:Int)))then Bd t13 T/\aM p λa=>jV H (a.add (toNat t13*1)) λt16=>Cl 119 #[.P t 0,.I t16] H λB j=>B=.tuple #[]/\∃t23,Cc j t 4 (.I t23)/\aO j (AA t 4) (.I (wrap .i64 (t23+1))) λo=>(I (wrap .i64 (t13+1)) o/\M (wrap .i64 (t13+1)) o<M t13 H)else R (.slice p T u) H):Cl 99 #[.P t 0,.agg #[.bool e,.U E,.U c,.string d,.string f]] h R:=aN (lq (lq (sq (lq (bq (.loop [(13,.one (.int .i64))] (lq (sq (cq lf lf) (sq (bq (lq ll)) lf)))))) ll))) Tryz.func99 r
theorem vR.walk(K:Cl 68 #[.P t 0] h λv C=>Vl v λs' z v'=> ∃(I:cg->Nat->Nat->Int->aj->Prop)(M:cg->Nat->Nat->Int->aj->Nat),I none 0 0 0 C/\∀(i:cg)(O o:Nat)(t10:Int)(H:aj),I i O o t10 H->if(decide (t10<(z:Int)))then Bd t10 z/\aM s' λa=>jV H (a.add (toNat t10*1)) λt13=> ∃t17,Cc H t 0 (.map t17)/\∃t19,gW Tryz.prog 107 (.map t17) (.I t13) false H (.pointer t19)/\aM t19 λA=>aK.LD H A λL N P Q U W Z Y X a' b' c'=>aQ H (.cells #[.I 0,.bool false,.U 0,.U 0,.string gV,.string gV,.Z,.U 0,.I 0,.U 0] 114) λb F=>aK.ST F (AA b 0) L N P Q U W Z Y X a' b' c' λq=>Hl q b 6 λf' e' d'=>Cl 50 #[.slice f' e' d'] q λt' G=> ∃y x w,t'=.slice y x w/\aO G (AA b 6) (.slice y x w) λr=>aK.LD r (AA b 0) λg' h' i' j' k' l' o' n' m' p' q' r'=>aQ r (.cells #[.I g',.bool h',.U i',.U j',.string k',.string l',.slice o' n' m',.U p',.I q',.U r'] 114) λB J=>aU Tryz.prog (Builtin.append_ #[242,242] 242 #[.slice i O o,.slice (Sa B 0) 1 1]) J λu' u=> ∃p j T,u'=.slice p j T/\(I p j T (wrap .i64 (t10+1)) u/\M p j T (wrap .i64 (t10+1)) u<M i O o t10 H)else R (.slice i O o) H):Cl 160 #[.P t 0] h R:=aN (lq (lq (sq (lq (bq (.loop [(3,.one (.slice)),(10,.one (.int .i64))] (lq (sq (cq lf lf) (sq (bq (lq (lq ll))) lf)))))) ll))) Tryz.func160 K

end
section
open Go.kk
namespace fU
open iT bU
variable {h h':aj} {t:Nat} {X:Ft}
structure Cp where
 num:Nat
 e:Ev
 d:cH
 bV:Nat
 ses:Int
 dl:Nat
structure CV where
 num:Nat
 b:Nat
 e:Ev
 v:BV
 bV:Nat
 ses:Int
 dl:Nat
def CV.abs(x:CV):Cp:=⟨x.num,x.e,x.v.b,x.bV,x.ses,x.dl⟩
abbrev CV.at(h:aj)(b:Nat)(x:CV):Prop:=aK.at h b (x.num:Int) x.e.jI x.e.node x.e.fX x.e.host x.e.jd x.v.p x.v.b.length x.v.c (x.bV:Int) x.ses (x.dl:Int)
structure CF where
 L:List Cp
 next:Nat
 dx:Nat
 over:Nat
 gone:Nat
 E1:List E
 E2:List E
abbrev fZ(n:Int):Value:=.int .i64 n
theorem SZ:Bl Tryz.prog 3 fZ:=⟨λa b h=>cU,λe a h=>cU,by
 have H:Tryz.prog.underlying 3=some (.int .i64):=cU
 exact⟨_,H,λa b=> .inr rfl⟩,λa=>by simp[Instr.sameBits]⟩
theorem mq:nN Tryz.prog 107 fZ (.pointer none):=nN.of 3 111 cU SZ cU
abbrev CV.pair(x:CV):Int×Value:=((x.num:Int),.pointer (some ⟨x.b,0,none⟩))
structure Cm (h:aj) (t:Nat) (X:Ft) (s:CF) (m:Nat) (xs:List CV) (o:Nat) (q:Nat->Prop) (p:Nat) (r:Nat->Prop) (g:Nat->Option Nat):Prop where
 cQ:h[t]? =some (.cells #[.map (some m),.int .i64 (s.next:Int),.int .i64 (s.dx:Int),.int .i64 (s.over:Int),.int .i64 (s.gone:Int),.pointer (some ⟨o,0,none⟩),.pointer (some ⟨p,0,none⟩)] 110 (0,0))
 map:jc h m fZ (xs.map CV.pair)
 Dx: ∀x∈xs,x.at h x.b
 abs:xs.map CV.abs=s.L
 Ar: ∀x∈xs,x.v.ok h X.D
 Gw:Al h o q s.E1
 FH:Al h p r s.E2
 l0:g t=some 0
 l1:g m=some 1
 l2: ∀c,q c->g c=some 2
 l3: ∀c,r c->g c=some 3
 l4: ∀x∈xs,g x.b=some (4+x.num)
 mm: ∀c,X.M c↔g c≠none
 dd: ∀c,X.D c->g c=none/\c<h.size
 Dy: ∀c,g c≠none->c<h.size
 so:(xs.map CV.num).Pairwise (· < ·)
def Ct(h:aj)(t:Nat)(X:Ft)(s:CF):Prop:= ∃m xs o q p r g,Cm h t X s m xs o q p r g
variable {s s' : CF} {m o p : Nat} {xs : List CV} {q r B w : Nat → Prop} {g : Nat → Option Nat}
structure Kept (h':aj) (t:Nat) (X:Ft) (s:CF) (m:Nat) (xs:List CV) (o:Nat) (q:Nat->Prop) (p:Nat) (r:Nat->Prop) (k:Nat):Prop where
 cQ:k≠0->h'[t]? =some (.cells #[.map (some m),.int .i64 (s.next:Int),.int .i64 (s.dx:Int),.int .i64 (s.over:Int),.int .i64 (s.gone:Int),.pointer (some ⟨o,0,none⟩),.pointer (some ⟨p,0,none⟩)] 110 (0,0))
 map:k≠1->jc h' m fZ (xs.map CV.pair)
 Gw:k≠2->Al h' o q s.E1
 FH:k≠3->Al h' p r s.E2
 Dx: ∀x∈xs,k≠4+x.num->x.at h' x.b
 Ar: ∀x∈xs,x.v.ok h' X.D
theorem Cm.mi{Q:Nat->Prop}{k:Nat}(H:Cm h t X s m xs o q p r g)(f:Fr Q h h')(i: ∀c,Q c->c<h.size->g c=some k):Kept h' t X s m xs o q p r k:=by
 have no: ∀{c j:Nat},c<h.size->g c=some j->k≠j->¬Q c:=λa l hk d=>hk (by have:=i _ d a;rw[l]at this;exact(bj this).symm)
 refine⟨λhk=>f.get H.cQ (no (aC H.cQ) H.l0 hk),λhk=>H.map.frame f (no H.map.lt H.l1 hk),λhk=> ?_,λhk=> ?_,λx b hk=>f.get (H.Dx x b) (no (aC (H.Dx x b)) (H.l4 x b) hk),λx b=> ?_⟩
 .exact H.Gw.frame f (λc a=>no (H.Gw.lt a) (H.l2 c a) hk)
 .exact H.FH.frame f (λc a=>no (H.FH.lt a) (H.l3 c a) hk)
 .refine(H.Ar x b).frame f (λc a d=> ?_);have:=H.dd c a;have e:=i c d this.2;rw[this.1]at e;cases e
theorem Cm.frame{Q:Nat->Prop}(H:Cm h t X s m xs o q p r g)(f:Fr Q h h')(d: ∀y,X.M y\/X.D y->¬Q y):Cm h' t X s m xs o q p r g:=by
 have no: ∀{c j:Nat},g c=some j->¬Q c:=λe=>d _ (.inl ((H.mm _).2 (by rw[e];simp)))
 exact⟨f.get H.cQ (no H.l0),H.map.frame f (no H.l1),λx b=>f.get (H.Dx x b) (no (H.l4 x b)),H.abs,λx b=>(H.Ar x b).frame f (λc a=>d c (.inr a)),
  H.Gw.frame f (λc a=>no (H.l2 c a)),H.FH.frame f (λc a=>no (H.l3 c a)),H.l0,H.l1,H.l2,H.l3,H.l4,H.mm,λc a=>⟨(H.dd c a).1,ct (H.dd c a).2 f.1⟩,λc a=>ct (H.Dy c a) f.1,H.so⟩
theorem Cm.on(H:Cm h t X s m xs o q p r g)(f:Fr No h h'):Cm h' t X s m xs o q p r g:=H.frame f cu
theorem Ct.frame{Q:Nat->Prop}(H:Ct h t X s)(f:Fr Q h h')(a: ∀y,X.M y\/X.D y->¬Q y):Ct h' t X s:=by
 obtain⟨m,xs,o,q,p,r,g,H⟩:=H;exact⟨m,xs,o,q,p,r,g,H.frame f a⟩
theorem Ct.on(H:Ct h t X s)(f:Fr No h h'):Ct h' t X s:=H.frame f cu
theorem Ct.lt(H:Ct h t X s)(y:Nat)(hy:X.M y\/X.D y):y<h.size:=by
 obtain⟨m,xs,o,q,p,r,g,H⟩:=H;rcases hy with hy|hy
 .exact H.Dy y ((H.mm y).1 hy)
 .exact(H.dd y hy).2
theorem Cm.step{Q:Nat->Prop}{k:Nat}(H:Cm h t X s m xs o q p r g)(f:Fr Q h h')(d: ∀c,Q c->c<h.size->g c=some k):bG X h X h':=
 bG.tL (f.mono λc b a=>(H.mm c).2 (by rw[d c a b];simp))
theorem Cm.field(H:Cm h t X s m xs o q p r g)(k:s'.L=s.L)(i:s'.E1=s.E1)(j:s'.E2=s.E2)(l:h'[t]? =some (.cells #[.map (some m),.I (s'.next:Int),.I (s'.dx:Int),.I (s'.over:Int),.I (s'.gone:Int),.P o 0,.P p 0] 110 (0,0)))(d:h'.size=h.size)(u: ∀x,x≠t->h'[x]? =h[x]?):Cm h' t X s' m xs o q p r g/\bG X h X h':=by
 have f:Fr (λc=>c=t) h h':=⟨af,λc _ n=>u c n⟩;have b: ∀c,c=t->c<h.size->g c=some 0:=λc e _=>by rw[e];exact H.l0
 have K:=H.mi f b;refine⟨⟨l,K.map af,λx v=>K.Dx x v af,H.abs.trans k.symm,K.Ar,by rw[i];exact K.Gw af,by rw[j];exact K.FH af,H.l0,H.l1,H.l2,H.l3,H.l4,H.mm,λc a=>by rw[d];exact H.dd c a,λc a=>by rw[d];exact H.Dy c a,H.so⟩,H.step f b⟩
def Mn(g:Nat->Option Nat)(S:Nat->Prop)[DecidablePred S](k:Nat):Nat->Option Nat:=λc=>if S c then some k else g c
theorem Cm.Gx{u:List E}(H:Cm h t X s m xs o q p r g)(A:Al h' p w u)(n: ∀c,w c->r c\/h.size<=c)(f:Fr r h h')(C:s'.L=s.L)(v:s'.E1=s.E1)(y:s'.E2=u)(i:s'.next=s.next/\s'.dx=s.dx/\s'.over=s.over/\s'.gone=s.gone):
  ∃k l,Cm h' t k s' m xs o q p w l/\bG X h k h'/\∀c,k.M c->X.M c\/w c:=by
 classical
 have F: ∀c,r c->c<h.size->g c=some 3:=λc a _=>H.l3 c a
 have K:=H.mi f F;have z:=f.1
 let l:=Mn g w 3
 have iE: ∀{c j:Nat},g c=some j->j≠3->l c=some j:=fun {c j} d D=>by
  show(if w c then some 3 else g c)=some j;rw[ae]
  .exact d
  .intro a;rcases n c a with h3|h3
   .rw[H.l3 c h3]at d;exact D (bj d).symm
   .have:=H.Dy c (by rw[d];simp);omega
 have L: ∀c,l c≠none->g c≠none\/w c:=λc a=>by
  by_cases b:w c
  .exact .inr b
  .refine .inl ?_;have e:l c=g c:=ae b;rwa[e]at a
 have N: ∀c,g c≠none->l c≠none:=λc a=>by
  by_cases b:w c
  .have e:l c=some 3:=ag b;rw[e];simp
  .have e:l c=g c:=ae b;rwa[e]
 have st:bG X h ⟨λc=>l c≠none,X.D⟩ h':=by
  refine⟨f.mono (λc a b=>(H.mm c).2 (by rw[H.l3 c b];simp)),λc a=> ?_,λc a=> .inl a,λc a=>a⟩;rcases L c a with h3|h3
  .exact .inl ((H.mm c).2 h3)
  .rcases n c h3 with h4|h4
   .exact .inl ((H.mm c).2 (by rw[H.l3 c h4];simp))
   .exact .inr h4
 refine⟨⟨λc=>l c≠none,X.D⟩,l,⟨?_,K.map af,λx b=>K.Dx x b af,H.abs.trans C.symm,K.Ar,by rw[v];exact K.Gw af,by rw[y];exact A,iE H.l0 af,iE H.l1 af,λc a=>iE (H.l2 c a) af,λc a=>ag a,λx b=>iE (H.l4 x b) af,λc=>eE,λc a=> ?_,λc a=> ?_,H.so⟩,st,λc a=>(L c a).imp (λh=>(H.mm c).2 h) id⟩
 .rw[i.1,i.2.1,i.2.2.1,i.2.2.2];exact K.cQ af
 .have:=H.dd c a;refine⟨?_,af⟩;show(if w c then some 3 else g c)=none;rw[ae]
  .exact this.1
  .intro b;rcases n c b with h3|h3
   .rw[H.l3 c h3]at this;cases this.1
   .omega
 .rcases L c a with h3|h3
  .have:=H.Dy c h3;omega
  .exact A.lt h3
theorem Cm.Gy{u:List E}(H:Cm h t X s m xs o q p r g)(A:Al h' o B u)(n: ∀c,B c->q c\/h.size<=c)(f:Fr q h h')(C:s'.L=s.L)(v:s'.E1=u)(y:s'.E2=s.E2)(i:s'.next=s.next/\s'.dx=s.dx/\s'.over=s.over/\s'.gone=s.gone):
  ∃k l,Cm h' t k s' m xs o B p r l/\bG X h k h'/\∀c,k.M c->X.M c\/B c:=by
 classical
 have F: ∀c,q c->c<h.size->g c=some 2:=λc a _=>H.l2 c a
 have K:=H.mi f F;have z:=f.1
 let l:=Mn g B 2
 have iE: ∀{c j:Nat},g c=some j->j≠2->l c=some j:=fun {c j} d D=>by
  show(if B c then some 2 else g c)=some j;rw[ae]
  .exact d
  .intro a;rcases n c a with h3|h3
   .rw[H.l2 c h3]at d;exact D (bj d).symm
   .have:=H.Dy c (by rw[d];simp);omega
 have L: ∀c,l c≠none->g c≠none\/B c:=λc a=>by
  by_cases b:B c
  .exact .inr b
  .refine .inl ?_;have e:l c=g c:=ae b;rwa[e]at a
 have st:bG X h ⟨λc=>l c≠none,X.D⟩ h':=by
  refine⟨f.mono (λc a b=>(H.mm c).2 (by rw[H.l2 c b];simp)),λc a=> ?_,λc a=> .inl a,λc a=>a⟩;rcases L c a with h3|h3
  .exact .inl ((H.mm c).2 h3)
  .rcases n c h3 with h4|h4
   .exact .inl ((H.mm c).2 (by rw[H.l2 c h4];simp))
   .exact .inr h4
 refine⟨⟨λc=>l c≠none,X.D⟩,l,⟨?_,K.map af,λx b=>K.Dx x b af,H.abs.trans C.symm,K.Ar,by rw[v];exact A,by rw[y];exact K.FH af,iE H.l0 af,iE H.l1 af,λc a=>ag a,λc a=>iE (H.l3 c a) af,λx b=>iE (H.l4 x b) af,λc=>eE,λc a=> ?_,λc a=> ?_,H.so⟩,st,λc a=>(L c a).imp (λh=>(H.mm c).2 h) id⟩
 .rw[i.1,i.2.1,i.2.2.1,i.2.2.2];exact K.cQ af
 .have:=H.dd c a;refine⟨?_,af⟩;show(if B c then some 2 else g c)=none;rw[ae]
  .exact this.1
  .intro b;rcases n c b with h3|h3
   .rw[H.l2 c h3]at this;cases this.1
   .omega
 .rcases L c a with h3|h3
  .have:=H.Dy c h3;omega
  .exact A.lt h3
theorem Cm.del{n:Int}(H:Cm h t X s m xs o q p r g)(M:jc h' m fZ (vo (xs.map CV.pair) n))(j:h'.size=h.size)(v: ∀c,c≠m->h'[c]? =h[c]?)(u:s'.L=s.L.filter (λx=> !decide ((x.num:Int)=n)))(k:s'.E1=s.E1)(l:s'.E2=s.E2)(b:s'.next=s.next/\s'.dx=s.dx/\s'.over=s.over/\s'.gone=s.gone):
  Cm h' t X s' m (xs.filter (λx=> !decide ((x.num:Int)=n))) o q p r g/\bG X h X h':=by
 have f:Fr (λc=>c=m) h h':=⟨af,λc _ b=>v c b⟩;have i: ∀c,c=m->c<h.size->g c=some 1:=λc e _=>by rw[e];exact H.l1
 have K:=H.mi f i;have sub: ∀x∈xs.filter (λx=> !decide ((x.num:Int)=n)),x∈xs:=λx a=>(ba.1 a).1
 refine⟨⟨?_,?_,λx a=>K.Dx x (sub x a) af,?_,λx a=>K.Ar x (sub x a),by rw[k];exact K.Gw af,by rw[l];exact K.FH af,H.l0,H.l1,H.l2,H.l3,λx a=>H.l4 x (sub x a),H.mm,λc d=>by rw[j];exact H.dd c d,λc d=>by rw[j];exact H.Dy c d,H.so.sublist (cJ.map _)⟩,H.step f i⟩
 .rw[b.1,b.2.1,b.2.2.1,b.2.2.2];exact K.cQ af
 .unfold vo at M;rw[dE]at M;exact M
 .rw[u,<-H.abs,dE];rfl
theorem Cm.change{x y:CV}(H:Cm h t X s m xs o q p r g)(d:x∈xs)(k:y.b=x.b)(C:y.num=x.num)(P:y.v=x.v)(Q:y.at h' x.b)(E:h'.size=h.size)(N: ∀c,c≠x.b->h'[c]? =h[c]?)(I:s'.L=s.L.map (λz=>if z.num=x.num then y.abs else z))(F:s'.E1=s.E1)(G:s'.E2=s.E2)(b:s'.next=s.next/\s'.dx=s.dx/\s'.over=s.over/\s'.gone=s.gone):
  Cm h' t X s' m (xs.map (λz=>if z.num=x.num then y else z)) o q p r g/\bG X h X h':=by
 have f:Fr (λc=>c=x.b) h h':=⟨af,λc _ b=>N c b⟩;have D: ∀c,c=x.b->c<h.size->g c=some (4+x.num):=λc e _=>by rw[e];exact H.l4 x d
 have K:=H.mi f D;have M: ∀z∈xs.map (λz=>if z.num=x.num then y else z),(z=y)\/(z∈xs/\z.num≠x.num):=λz a=>by
  obtain⟨u,O,rfl⟩:=bg.1 a;by_cases e:u.num=x.num
  .rw[ag e];exact .inl rfl
  .rw[ae e];exact .inr ⟨O,e⟩
 have R:(xs.map (λz=>if z.num=x.num then y else z)).map CV.pair=xs.map CV.pair:=by
  rw[dB];refine dN λz a=> ?_
  show CV.pair (if z.num=x.num then y else z)=z.pair;by_cases e:z.num=x.num
  .rw[ag e];have:z=x:=by
    obtain⟨i,v⟩:=bF a;obtain⟨j,A⟩:=bF d;have L:(xs.map CV.num).Nodup:=H.so.imp (λh=>Nat.ne_of_lt h);have J:=(aA.1 v).1;have:=(dM (l:=xs.map CV.num) (i:=i) (j:=j) (cy J) L).1 (by rw[aI,aI,v,A];simp[e]);subst this;rw[v]at A;exact bj A
   subst this;unfold CV.pair;rw[C,k]
  .rw[ae e]
 refine⟨⟨?_,?_,λz a=> ?_,?_,λz a=> ?_,by rw[F];exact K.Gw af,by rw[G];exact K.FH af,H.l0,H.l1,H.l2,H.l3,λz a=> ?_,H.mm,λc n=>by rw[E];exact H.dd c n,λc n=>by rw[E];exact H.Dy c n,?_⟩,H.step f D⟩
 .rw[b.1,b.2.1,b.2.2.1,b.2.2.2];exact K.cQ af
 .rw[R];exact K.map af
 .rcases M z a with rfl|⟨a,e⟩
  .rw[k];exact Q
  .exact K.Dx z a af
 .rw[I,<-H.abs,dB,dB];refine dN λz _=> ?_
  show CV.abs (if z.num=x.num then y else z)=if z.num=x.num then y.abs else z.abs
  split<;>rfl
 .rcases M z a with rfl|⟨a,_⟩
  .rw[P];exact K.Ar x d
  .exact K.Ar z a
 .rcases M z a with rfl|⟨a,_⟩
  .rw[k,C];exact H.l4 x d
  .exact H.l4 z a
 .have:(xs.map (λz=>if z.num=x.num then y else z)).map CV.num=xs.map CV.num:=by
   rw[dB];refine dN λz _=> ?_
   show CV.num (if z.num=x.num then y else z)=z.num;split
   .rename_i e;rw[C,e]
   .rfl
  rw[this];exact H.so
theorem Cm.add{y:CV}{f i:aj}(H:Cm h t X s m xs o q p r g)(f1:Fr No h f)(C:y.at f y.b)(W:h.size<=y.b)(J:Row f y.v.p (bc y.v.b))(I:y.v.b.length<=y.v.c)(n: ∀c,aL y.v.p c->h.size<=c/\c≠y.b/\c<f.size)(A: ∀x∈xs,x.num<y.num)(M:jc i m fZ (DS (xs.map CV.pair) (y.num:Int) (.P y.b 0)))(V:i.size=f.size)(Q: ∀c,c≠m->i[c]? =f[c]?)(F:s'.L=s.L++ [y.abs])(e1:s'.E1=s.E1)(e2:s'.E2=s.E2)(k:s'.next=s.next/\s'.dx=s.dx/\s'.over=s.over/\s'.gone=s.gone):
  ∃u l,Cm i t u s' m (xs++ [y]) o q p r l/\bG X h u i:=by
 classical
 have z1:=f1.1;have D:=H.on f1;have f2:Fr (λc=>c=m) f i:=⟨af,λc _ k=>Q c k⟩;have R: ∀c,c=m->c<f.size->g c=some 1:=λc e _=>by rw[e];exact H.l1
 have K:=D.mi f2 R;have Z:=aC C
 let l:=Mn g (λc=>c=y.b) (4+y.num)
 have L: ∀c,c≠y.b->l c=g c:=λc d=>ae d
 have S:l y.b=some (4+y.num):=ag rfl;have T: ∀{c:Nat},g c≠none->c≠y.b:=fun {c} d e=>by have:=H.Dy c d;omega
 have iE: ∀{c j:Nat},g c=some j->l c=some j:=fun {c j} z=>by rw[L c (T (by rw[z];simp))];exact z
 let D':=λc=>X.D c\/(y.v.b≠ []/\aL y.v.p c)
 have Y:y.b≠m:=λe=>by have:=H.map.lt;omega
 have E: ∀c,D' c->l c=none/\c<i.size:=λc d=>by
  rcases d with d|⟨_,d⟩
  .have:=H.dd c d;rw[L c af];exact⟨this.1,af⟩
  .have:=n c d;rw[L c this.2.1];refine⟨?_,af⟩;cases e:g c with
   |none=>rfl
   |some j=>have:=H.Dy c (by rw[e];simp);omega
 refine⟨⟨λc=>l c≠none,D'⟩,l,⟨?_,?_,λx hx=> ?_,?_,λx hx=> ?_,by rw[e1];exact K.Gw af,by rw[e2];exact K.FH af,iE H.l0,iE H.l1,λc d=>iE (H.l2 c d),λc d=>iE (H.l3 c d),λx hx=> ?_,λc=>eE,E,λc d=> ?_,?_⟩,?_⟩
 .rw[k.1,k.2.1,k.2.2.1,k.2.2.2];exact K.cQ af
 .refine M.perm ?_;unfold DS;rw[qT (λe N=>by obtain⟨x,hx,rfl⟩:=bg.1 N;have:=A x hx;show¬((x.num:Int)=(y.num:Int));omega),aW];exact(List.perm_append_comm (l₁:= [CV.pair y]) (l₂:=xs.map CV.pair))
 .rcases bN.1 hx with hx|hx
  .exact K.Dx x hx af
  .obtain rfl:=bK.1 hx;exact f2.get C Y
 .rw[F,<-H.abs,aW];rfl
 .rcases bN.1 hx with hx|hx
  .exact(K.Ar x hx).mono (λc d=> .inl d)
  .obtain rfl:=bK.1 hx;refine⟨J.frame f2 (λa e O=> ?_),λP c d=> .inr ⟨P,d⟩,I⟩;have f:=(n a.block ⟨a,e,rfl⟩).1;have i:=H.map.lt;have U:a.block=m:=O;omega
 .rcases bN.1 hx with hx|hx
  .exact iE (H.l4 x hx)
  .obtain rfl:=bK.1 hx;exact S
 .by_cases e:c=y.b
  .subst e;omega
  .rw[L c e]at d;have:=H.Dy c d;omega
 .rw[aW,List.pairwise_append];refine⟨H.so,bO,λa G b v=> ?_⟩;obtain⟨x,hx,rfl⟩:=bg.1 G;simp at v;subst v;exact A x hx
 .refine⟨?_,λc d=> ?_,λc d=> ?_,λc d=> .inl d⟩
  .have f12:Fr (λc=>c=m) h i:=Fr.no f1 f2;exact f12.mono (λc _ e=>(H.mm c).2 (by rw[e,H.l1];simp))
  .by_cases e:c=y.b
   .exact .inr af
   .have d:l c≠none:=d;rw[L c e]at d;exact .inl ((H.mm c).2 d)
  .rcases d with d|⟨_,d⟩
   .exact .inl d
   .exact .inr (n c d).1
end fU
end
end Go.Proofs.YtlenamcfacpheaaGreatDoor
namespace Go.Proofs
open Go.Den
open IntKind (wrap)
open Int (toNat)
section
open Go.Shelf
def Tryz.JP:Go.Shelf.Ren:=⟨fun|5=>134|8=>183|7=>185|19=>222|20=>223|10=>224|11=>225|12=>226|13=>227|14=>228|15=>229|16=>230|17=>231|18=>232|30=>272|31=>268|32=>269|33=>273|34=>274|35=>275|40=>306|n=>n,fun|23=>105|25=>3|3=>3|32=>211|22=>105|0=>0|44=>315|46=>27|4=>4|36=>309|35=>308|41=>253|5=>5|9=>9|53=>366|57=>369|63=>400|64=>401|n=>n,fun|n=>n⟩
theorem Tryz.PC : Go.Proofs.SlLaysM.n5 Tryz.prog Tryz.JP := {
  mixed := by kernel_rfl
  f5 := ⟨Tryz.f134.name, by decide, Tryz.func134.trans (congrArg some (by kernel_rfl))⟩
  f7 := ⟨Tryz.f185.name, by decide, Tryz.func185.trans (congrArg some (by kernel_rfl))⟩
  f8 := Tryz.func183.trans (congrArg some (by kernel_rfl))
  f10 := ⟨Tryz.f224.name, by decide, Tryz.func224.trans (congrArg some (by kernel_rfl))⟩
  f11 := ⟨Tryz.f225.name, by decide, Tryz.func225.trans (congrArg some (by kernel_rfl))⟩
  f12 := ⟨Tryz.f226.name, by decide, Tryz.func226.trans (congrArg some (by kernel_rfl))⟩
  f13 := ⟨Tryz.f227.name, by decide, Tryz.func227.trans (congrArg some (by kernel_rfl))⟩
  f14 := ⟨Tryz.f228.name, by decide, Tryz.func228.trans (congrArg some (by kernel_rfl))⟩
  f15 := ⟨Tryz.f229.name, by decide, Tryz.func229.trans (congrArg some (by kernel_rfl))⟩
  f16 := ⟨Tryz.f230.name, by decide, Tryz.func230.trans (congrArg some (by kernel_rfl))⟩
  f17 := ⟨Tryz.f231.name, by decide, Tryz.func231.trans (congrArg some (by kernel_rfl))⟩
  f18 := ⟨Tryz.f232.name, by decide, Tryz.func232.trans (congrArg some (by kernel_rfl))⟩
  f19 := Tryz.func222.trans (congrArg some (by kernel_rfl))
  f20 := Tryz.func223.trans (congrArg some (by kernel_rfl))
  f30 := ⟨Tryz.f272.name, by decide, Tryz.func272.trans (congrArg some (by kernel_rfl))⟩
  f31 := Tryz.func268.trans (congrArg some (by kernel_rfl))
  f32 := Tryz.func269.trans (congrArg some (by kernel_rfl))
  f33 := ⟨Tryz.f273.name, by decide, Tryz.func273.trans (congrArg some (by kernel_rfl))⟩
  f34 := ⟨Tryz.f274.name, by decide, Tryz.func274.trans (congrArg some (by kernel_rfl))⟩
  f35 := ⟨Tryz.f275.name, by decide, Tryz.func275.trans (congrArg some (by kernel_rfl))⟩
  f40 := ⟨Tryz.f306.name, by decide, Tryz.func306.trans (congrArg some (by kernel_rfl))⟩
  t0 := Tryz.underlying0
  a0 := Tryz.isAgg0
  z0 := Tryz.sizeOf0
  v0 := Tryz.zeroValue0
  t3 := Tryz.underlying3
  a3 := Tryz.isAgg3
  z3 := Tryz.sizeOf3
  v3 := Tryz.zeroValue3
  t4 := Tryz.underlying4
  a4 := Tryz.isAgg4
  z4 := Tryz.sizeOf4
  v4 := Tryz.zeroValue4
  t5 := Tryz.underlying5
  a5 := Tryz.isAgg5
  z5 := Tryz.sizeOf5
  v5 := Tryz.zeroValue5
  t9 := Tryz.underlying9
  a9 := Tryz.isAgg9
  z9 := Tryz.sizeOf9
  v9 := Tryz.zeroValue9
  t22 := Tryz.underlying105
  a22 := Tryz.isAgg105
  z22 := Tryz.sizeOf105
  v22 := Tryz.zeroValue105
  t23 := Tryz.underlying105
  a23 := Tryz.isAgg105
  z23 := Tryz.sizeOf105
  v23 := Tryz.zeroValue105
  t25 := Tryz.underlying3
  a25 := Tryz.isAgg3
  z25 := Tryz.sizeOf3
  v25 := Tryz.zeroValue3
  t32 := Tryz.underlying211
  a32 := Tryz.isAgg211
  z32 := Tryz.sizeOf211
  v32 := Tryz.zeroValue211
  t35 := Tryz.underlying308
  a35 := Tryz.isAgg308
  z35 := Tryz.sizeOf308
  v35 := Tryz.zeroValue308
  t36 := Tryz.underlying309
  a36 := Tryz.isAgg309
  z36 := Tryz.sizeOf309
  v36 := Tryz.zeroValue309
  t41 := Tryz.underlying253
  a41 := Tryz.isAgg253
  z41 := Tryz.sizeOf253
  v41 := Tryz.zeroValue253
  t44 := Tryz.underlying315
  a44 := Tryz.isAgg315
  z44 := Tryz.sizeOf315
  v44 := Tryz.zeroValue315
  t46 := Tryz.underlying27
  a46 := Tryz.isAgg27
  z46 := Tryz.sizeOf27
  v46 := Tryz.zeroValue27
  t53 := Tryz.underlying366
  a53 := Tryz.isAgg366
  z53 := Tryz.sizeOf366
  v53 := Tryz.zeroValue366
  t57 := Tryz.underlying369
  a57 := Tryz.isAgg369
  z57 := Tryz.sizeOf369
  v57 := Tryz.zeroValue369
  t63 := Tryz.underlying400
  a63 := Tryz.isAgg400
  z63 := Tryz.sizeOf400
  v63 := Tryz.zeroValue400
  t64 := Tryz.underlying401
  a64 := Tryz.isAgg401
  z64 := Tryz.sizeOf401
  v64 := Tryz.zeroValue401 }

end
end Go.Proofs
namespace Go.Proofs.YtlenamcfacpheaaGreatDoor
open Go.Den
open IntKind (wrap)
open Int (toNat)
section
open Go.Sort
namespace Uk
variable {h:aj} {R:fj} {p:cg} {n c:Nat} {xs:List Int}
abbrev iv(x:Int):Value:=.int .i64 x
theorem CQ(o:fi h p n c 1 (xs.map iv))(D:n=xs.length)(nd:xs.Nodup)(A:n<=60000)(hk: ∀h' (zs:List Int),fi h' p n c 1 (zs.map iv)->zs.Perm xs->zs.Pairwise (· < ·)->Fr (aL p) h h'->R (.tuple #[]) h'):
  Cl 134 #[.slice p n c] h R:=by
 subst D;intro w m;cases o with
 |nil l B g z=>
  obtain rfl:=List.eq_nil_of_length_eq_zero B;refine(AnyM.slices_Sort_int_none Tryz.PC p c w).mono ?_;rintro e w' ⟨rfl,rfl⟩;exact⟨_,rfl,hk _ [] (by rw[m];exact .nil l rfl g rfl) (.refl _) .nil (by rw[m];exact Fr.refl _ _),fu.refl _⟩
 |row b off C t l d f g s z=>
  subst l;subst m;have u: ∀(zs:List Int)(j:Nat),j<zs.length->zs.toArray[j]! =zs.getD j 0:=λzs j H=>by
   simp[getElem!_pos,H]
  refine(AnyM.slices_Sort_int Tryz.PC b off c xs w (λj H=> ?_) (aC d) af).mono ?_
  .have H:j<xs.length:=by simpa using H
   refine⟨?_,by rw[qM];exact kF d⟩;rw[jX,jQ d,u xs j H];exact z j _ (by rw[aI,ai H,aZ,ai H];rfl)
  .rintro e w' ⟨rfl,k,O,rfl⟩;have pm:=List.mergeSort_perm xs λx y=>decide (x<=y)
   have so:(xs.mergeSort λx y=>decide (x<=y)).Pairwise (· < ·):=by
    have s1:=List.pairwise_mergeSort (le:=λ(x y:Int)=>decide (x<=y)) (λa b c f s=>by simp at f s⊢;omega) (λa b=>by simp;omega) xs;have S:(xs.mergeSort λx y=>decide (x<=y)).Nodup:=pm.nodup_iff.2 nd;exact(s1.and S).imp fun {a b} h=>by have:=aP h.1;have:=h.2;omega
   generalize (xs.mergeSort λx y=>decide (x<=y))=zs at pm so⊢;have J:zs.length=xs.length:=pm.length_eq;have G: ∀x,x<w.heap.size->x≠b->(w.heap.modify b (onCells (putCells (Value.int .i64) off zs.toArray))++O)[x]? =w.heap[x]? :=λx r E=>by
    rw[dG (cy r),df,ae (λe=>E e.symm)]
   have F:(w.heap.modify b (onCells (putCells (Value.int .i64) off zs.toArray))++O)[b]? =some (.cells (putCells (Value.int .i64) off zs.toArray C) t (0,0)):=by
    rw[dG (cy (aC d)),df,ag rfl,d];rfl
   refine⟨_,rfl,hk _ zs (.row b off _ t rfl F f (by unfold putCells;rw[Array.size_mapIdx];exact g) (by simp[J]) λj v H=> ?_) pm so ?_,⟨rfl,rfl,rfl⟩⟩
   .rw[aI]at H;have i:j<zs.length:=by
     rcases Nat.lt_or_ge j zs.length with q|q
     .exact q
     .rw[dA q]at H;cases H
    rw[ai i]at H;obtain rfl:=bj H;unfold putCells;have I:off+j<C.size:=af
    rw[Array.getElem?_mapIdx,Array.getElem?_eq_getElem I,cZ,ag ⟨af,by simp;omega⟩,show off+j - off=j by omega,u zs j i,aZ,ai i];rfl
   .refine⟨by show _<=(w.heap.modify b _++O).size;simp,λx r A=>G x r (λe=>A ⟨_,rfl,e.symm⟩)⟩

end Uk
end
section
open Go.kk
namespace fU
open iT bU
variable {h h':aj} {R:fj} {t:Nat} {X:Ft} {s:CF} {m A f:Nat} {xs:List CV} {S d:Nat→Prop} {L:Nat→Option Nat} {p:cg} {n c:Nat}
theorem UI:Tryz.prog.underlying 105=some (.slice 3):=cU
theorem fw(H:Cm h t X s m xs A S f d L)(hk:R (.bool true) h):Cl 47 #[.P t 0] h R:=uC.walk ⟨_,ak H.cQ,hk⟩
def jW(xs:List CV):List Int:=xs.map (λx=>(x.num:Int))
theorem xV(H:Cm h t X s m xs A S f d L):(jW xs).Pairwise (· < ·):=by
 have:=H.so;rw[dT]at this;unfold jW;rw[dT];exact this.imp (λh=>af)
theorem sN(H:Cm h t X s m xs A S f d L)(hl:xs.length<=60000)(hk: ∀h' P C,fi h' P xs.length C 1 ((jW xs).map fZ)->(∀y,aL P y->h.size<=y)->Fr No h h'->R (.slice P xs.length C) h'):
  Cl 68 #[.P t 0] h R:=by
 refine qA.walk (fw H ⟨_,rfl,aG.of λa' M=> ?_⟩);rw[ag rfl];refine⟨_,cE H.cQ rfl,yt mq H.map λit J e1 I f1=>⟨_,rfl,?_⟩⟩;refine⟨λop o O g=> ∃ds:List (Int×Value),o=ds.length/\fi g op o O 1 ((ds.map (·.1)).map fZ)/\(∀y,aL op y->h.size<=y/\y≠it)/\Iter g it m fZ (xs.map CV.pair) ds/\Fr No h g,λ_ o _ _=>xs.length - o,
  ⟨[],rfl,.nil rfl rfl rfl rfl,(λy ⟨a,e,_⟩=>by cases e),I,f1⟩,?_⟩
 rintro op o O g ⟨ds,rfl,B,j,k,q⟩;have N:=k.le;rw[aF]at N;refine Br k (λr=> .inl ⟨rfl,?_⟩) (λa v G hm c' I s1 o1=> .inr ⟨_,_,rfl,?_⟩)
 .subst M;dsimp only;have u:(ds.map (·.1)).Perm (jW xs):=by
   have:=r.map (·.1);rw[dB]at this;exact this
  have so:=xV H;have nd:(ds.map (·.1)).Nodup:=u.nodup_iff.2 (so.imp (λh=>af));have Q:ds.length=xs.length:=by rw[r.length_eq,aF]
  refine Uk.CQ B (by rw[aF]) nd af λK zs z p3 s3 f3=>⟨rfl,?_⟩
  have:zs=jW xs:=List.Perm.eq_of_pairwise (le:=(· < ·)) (λa b _ _ J h2=>af) s3 so (p3.trans u);subst this;rw[Q]at z⊢;exact hk K op O z (λy i=>(j y i).1) (q.fresh f3 (λy i=>(j y i).1))
 .refine yx I ⟨_,_,rfl,_,rfl,cG ?_⟩;have f3:Fr No G (G.push (.cells #[.I a] 3)):=Fr.push _ _;have D:Row (G.push (.cells #[.I a] 3)) (Sa G.size 0) [fZ a]:=jl (cs:= [fZ a]);have z3:(G.push (.cells #[.I a] 3)).size=G.size+1:=dD _;generalize G.push (.cells #[.I a] 3)=g3 at f3 D z3⊢;have l:Fr (λy=>y=it) g G:=⟨af,λy _ T=>o1 y T⟩;have Z:=(B.frame l (λy i e=>(j y i).2 e)).frame f3 (λ_ _=>id);have zf:=f1.1;have F:Fr No h G:=q.fresh l (λy e=>af);have E:=F.tt f3;have d':it<G.size:=by
   obtain⟨_,_,_,_,_,_,V,_⟩:=I;exact aC V
  refine dY (cs:=(ds.map (·.1)).map fZ) (ds:= [fZ a]) tI UI Z D rfl (λv w=>by simp at w;subst w;rfl) af af λp4 c4 g4 Y _ f4 W=>⟨_,_,_,rfl,?_⟩
  have U: ∀y,aL p4 y->h.size<=y/\y≠it:=by
   intro y i;rcases W y i with h5|h5
   .exact j y h5
   .have:=F.1;exact⟨af,af⟩
  refine⟨⟨ds++ [(a,v)],bO,?_,U,?_,E.fresh f4 (λy i=>(j y i).1)⟩,?_⟩
  .rw[aW,aW];exact Y
  .have b':m<h.size:=H.map.lt;exact(I.frame f3 id id).frame f4 (λi=>(j it i).2 rfl) (λi=>by have:=(j m i).1;omega)
  .have:=I.le;rw[av,aF,dy]at this;show xs.length - (ds.length+1)<xs.length - ds.length;omega
theorem look(H:Cm h t X s m xs A S f d L){x:CV}(a:x∈xs):gW Tryz.prog 107 (.map (some m)) (.I (x.num:Int)) false h (.P x.b 0):=by
 have:=HS mq H.map (x.num:Int);have e:rB (xs.map CV.pair) (x.num:Int)=some (.P x.b 0):=(Bp H.map.nodup).2 (bg.2 ⟨x,a,rfl⟩);rw[e]at this;exact this
theorem OE(H:Cm h t X s m xs A S f d L){n:Int}(b: ∀x∈xs,(x.num:Int)≠n):gW Tryz.prog 107 (.map (some m)) (.I n) false h (.pointer none):=by
 have:=HS mq H.map n;have e:rB (xs.map CV.pair) n=none:=Bo.2 (λe a=>by obtain⟨x,g,rfl⟩:=bg.1 a;exact b x g);rw[e]at this;exact this
structure Env (h:aj) (t:Nat) (m:Nat) (xs:List CV) (c0 c1:Nat) (x:Ev):Prop where
 b0:h[c0]? =some (.cells #[.pointer (some ⟨t,0,none⟩)] 36 (0,0))
 b1:Ev.at h c1 x
 cm: ∃X s A S f d L,Cm h t X s m xs A S f d L
variable {c0 c1 : Nat} {x : Ev}
theorem Mo(V:Env h t m xs c0 c1 x){y:CV}(a:y∈xs)(hk:R (.bool (!decide (y.e=x))) h):Cl 113 #[.I (y.num:Int),.P c0 0,.P c1 0] h R:=by
 obtain⟨X,s,A,S,f,d,L,H⟩:=V.cm;have C:=H.Dx y a;refine uD.walk ⟨_,ak V.b0,ay.2 ⟨_,ak H.cQ,_,look H a,ay.2 ⟨_,ak C,_,ak C,_,ak C,_,ak C,_,ak C,?_⟩⟩⟩;exact aw.ld V.b1 ⟨_,tW (x:=y.e) (y:=x) rfl rfl,hk⟩
def ke(xs:List CV)(x:Ev)(n:Int):Bool:=xs.any (λy=>decide ((y.num:Int)=n) && decide (y.e=x))
theorem vS(so:(jW xs).Pairwise (· < ·)){y:CV}(b:y∈xs):ke xs x (y.num:Int)=decide (y.e=x):=by
 unfold ke;by_cases e:y.e=x
 .rw[au e,List.any_eq_true];exact⟨y,b,by simp[e]⟩
 .rw[az e,List.any_eq_false];intro z q;simp only[aR,aY,not_and];intro k;have:z=y:=by
   obtain⟨i,H⟩:=bF q;obtain⟨j,a⟩:=bF b;have o:(jW xs).Nodup:=so.imp (λh=>af);have g:=(aA.1 H).1;have:=(dM (l:=jW xs) (i:=i) (j:=j) (by simpa[jW]using g) o).1 (by unfold jW;rw[aI,aI,H,a];simp[k]);subst this;rw[H]at a;exact bj a
  rw[this];exact e
theorem Qe{ns:List Int}(V:Env h t m xs c0 c1 x)(o:fi h p n c 1 (ns.map fZ))(w:n=ns.length)(G:n<=60000)(z: ∀k∈ns,∃y∈xs,k=(y.num:Int))(K: ∀i,i<n->(∀j,j<i->∀k,ns[j]? =some k->ke xs x k=true)->(∀k,ns[i]? =some k->ke xs x k=false)->R (.I (i:Int)) h)(B:(∀k∈ns,ke xs x k=true)->R (.I (-1)) h):
  Cl 168 #[.slice p n c,.func (.func 113) #[] #[.P c0 0,.P c1 0]] h R:=by
 subst w;have so:(jW xs).Pairwise (· < ·):=by obtain⟨X,s,A,S,f,d,L,H⟩:=V.cm;exact xV H
 refine hH.of.walk ?_;refine⟨λu g=>g=h/\∃i:Nat,u=(i:Int)/\i<=ns.length/\∀j,j<i->∀k,ns[j]? =some k->ke xs x k=true,λu _=>ns.length - u.toNat,⟨rfl,0,rfl,bL _,λj b=>af⟩,?_⟩;rintro _ g ⟨rfl,i,rfl,I,l⟩;by_cases q:i<ns.length
 .rw[fY];have hk:ns[i]? =some ns[i]:=ai q;generalize ns[i]=k at hk;obtain⟨y,r,rfl⟩:=z k (aT hk);obtain⟨D,F,rfl⟩:=o.addr af;have C:=o.cell (j:=i) (v:=fZ (y.num:Int)) (by rw[aI,hk];rfl);simp only[aD,cv];refine⟨af,ay.2 ⟨_,C,Mo V r ⟨_,rfl,?_⟩⟩⟩;have kn:=vS (x:=x) so r;by_cases e:y.e=x
  .rw[au e,dj,bA af af];rw[au e]at kn;refine⟨⟨rfl,i+1,af,af,λj b k a=> ?_⟩,by show ns.length - Int.toNat ((i:Int)+1)<ns.length - i;omega⟩;by_cases E:j=i
   .subst E;rw[hk]at a;cases a;exact kn
   .exact l j af k a
  .rw[az e,fY];rw[az e]at kn;exact K i q l (λk a=>by rw[hk]at a;cases a;exact kn)
 .rw[ae (by simp;omega)];exact B (λk hk=>by
   obtain⟨j,b⟩:=bF hk;exact l j (bX ((aA.1 b).1)) k b)
theorem Gm{ns:List Int}(V:Env h t m xs c0 c1 x)(o:fi h p n c 1 (ns.map fZ))(D:n=ns.length)(Y:n<=60000)(N: ∀k∈ns,∃y∈xs,k=(y.num:Int))(W: ∀g,Fr (aL p) h g->Env g t m xs c0 c1 x)(hk: ∀h' E,fi h' p (ns.filter (ke xs x)).length E 1 ((ns.filter (ke xs x)).map fZ)->Fr (aL p) h h'->R (.slice p (ns.filter (ke xs x)).length E) h'):
  Cl 112 #[.slice p n c,.func (.func 113) #[] #[.P c0 0,.P c1 0]] h R:=by
 subst D;have so:(jW xs).Pairwise (· < ·):=by obtain⟨X,s,A,S,f,d,L,H⟩:=V.cm;exact xV H
 have one: ∀v∈((.I 0:Value)).cells.toList,fI v=true:=λv hv=>by
  have:v=.I 0:=by simpa[Value.cells]using hv
  subst this;rfl
 refine lK.of.walk (Qe V o rfl Y N (λi Z l M=>⟨_,rfl,?_⟩) (λl=>⟨_,rfl,?_⟩))
 .rw[ae (by intro h;have h:=eq_of_beq h;omega),bA af af];have T:(ns.take i).filter (ke xs x)=ns.take i:=by
   rw[cd];intro k b';obtain⟨j,a⟩:=bF b';rw[cS]at a;split at a
   .rename_i a';exact l j a' k a
   .cases a
  have Q:(ns.take (i+1)).filter (ke xs x)=ns.take i:=by
   have hk:ns[i]? =some ns[i]:=ai Z;rw[bD,hk,fz,T];simp[M _ hk]
  refine⟨λu w g=> ∃(i j:Nat)(vs:List Int),u=(i:Int)/\w=(j:Int)/\i<=j/\j<=ns.length/\vs.length=ns.length/\fi g p ns.length c 1 (vs.map fZ)/\vs.take i=(ns.take j).filter (ke xs x)/\(∀q,j<=q->vs[q]? =ns[q]?)/\Fr (aL p) h g,λ_ w _=>ns.length - w.toNat,
   ⟨i,i+1,ns,rfl,af,af,af,rfl,o,Q.symm,λ_ _=>rfl,Fr.refl _ _⟩,?_⟩
  clear T Q l M;rintro _ _ g ⟨i,j,vs,rfl,rfl,f',a,K,O,b,B,F⟩;have C:((ns.take j).filter (ke xs x)).length=i:=by rw[<-b,bE];omega
  by_cases d':j<ns.length
  .rw[fY];refine aG.of λe' I=> ?_
   have r:ns[j]? =some ns[j]:=ai d';generalize ns[j]=k at r;obtain⟨y,P,rfl⟩:=N k (aT r);obtain⟨ab,ao,rfl⟩:=O.addr af;have c':vs[j]? =some (y.num:Int):=by rw[B j (bk _)];exact r
   have U:=O.cell (j:=j) (v:=fZ (y.num:Int)) (by rw[aI,c'];rfl);simp only[aD,cv];have kn:=vS (x:=x) so P;have tk:(ns.take (j+1)).filter (ke xs x)=(ns.take j).filter (ke xs x)++(if y.e=x then [(y.num:Int)]else []):=by
    rw[bD,r,fz];congr 1
    show [(y.num:Int)].filter (ke xs x)=_;rw[bZ,kn];by_cases e:y.e=x<;>simp[e]
   refine⟨af,ay.2 ⟨_,U,Mo (W g F) P ⟨_,rfl,aG.of λJ1 J=> ?_⟩⟩⟩;by_cases e:y.e=x
   .rw[au e,fY];rw[ag e]at tk;refine⟨af,ay.2 (O.store (by rw[aF];omega) λG o2 s2 q2=> ?_)⟩;subst J;subst I;have e2:(vs.map fZ).set i (.I (y.num:Int))=(vs.set i (y.num:Int)).map fZ:=by rw[List.map_set]
    rw[e2]at o2;dsimp only;rw[bA (n:=(i:Int)+1) af af,bA (n:=(j:Int)+1) af af];refine⟨⟨i+1,j+1,_,af,af,af,af,by rw[cY];exact K,o2,?_,λq hq=> ?_,F.tt ⟨af,λz _ D=>q2 z D⟩⟩,by show ns.length - Int.toNat ((j:Int)+1)<ns.length - j;omega⟩
    .rw[tk,<-b,bD,List.getElem?_set_self af];congr 1
     apply fp
     intro q;rw[cS,cS];split
     .rw[List.getElem?_set_ne af]
     .rfl
    .rw[List.getElem?_set_ne af];exact B q af
   .rw[az e,dj];rw[ae e,List.append_nil]at tk;subst J;subst I;dsimp only;rw[bA (n:=(j:Int)+1) af af];exact⟨⟨i,j+1,vs,rfl,af,af,af,K,O,by rw[tk,b],λq hq=>B q af,F⟩,by show ns.length - Int.toNat ((j:Int)+1)<ns.length - j;omega⟩
  .rw[ae (by simp;omega)];obtain rfl:j=ns.length:=af
   rw[eO]at b C;simp only[aD,Nat.sub_zero];refine⟨af,Bj tI one O af λG o2 f2=>⟨rfl,⟨af,bX O.le⟩,?_⟩⟩;rw[jS];rw[cv,<-List.map_take,b]at o2;have:=hk G c (by rw[C];exact o2) (F.tt f2);rw[C]at this;exact this
 .rw[ag (by rfl)];have e:ns.filter (ke xs x)=ns:=by rw[cd];exact l
  have:=hk h c (by rw[e];exact o) (Fr.refl _ _);rw[e]at this;exact this
theorem JQ(so:(jW xs).Pairwise (· < ·)):(jW xs).filter (ke xs x)=jW (xs.filter (λy=>decide (y.e=x))):=by
 unfold jW;rw[dE];congr 1
 exact dS (λy H=>vS so H)
theorem BE(H:Cm h t X s m xs A S f d L)(x:Ev)(l:xs.length<=60000) (hk: ∀h' P C,fi h' P (xs.filter (λy=>decide (y.e=x))).length C 1 ((jW (xs.filter (λy=>decide (y.e=x)))).map fZ)->(∀y,aL P y->h.size<=y)->Fr No h h'->R (.slice P (xs.filter (λy=>decide (y.e=x))).length C) h'):
  Cl 49 #[.P t 0,kj x] h R:=by
 refine xC.walk (cG ?_);have f1:Fr No h (h.push (.cells #[.P t 0] 36)):=Fr.push _ _;have b1:(h.push (.cells #[.P t 0] 36))[h.size]? =some (.cells #[.P t 0] 36 (0,0)):=bR;have Z:(h.push (.cells #[.P t 0] 36)).size=h.size+1:=dD _;generalize h.push (.cells #[.P t 0] 36)=u at f1 b1 Z⊢;refine aw.box λc1 v e2 j f2=>⟨_,ak (f2.get b1 id),?_⟩
 have I:=aC j;refine sN (H.on (f1.tt f2)) l λi q l3 O G f3=>⟨_,_,_,rfl,?_⟩
 have b:=f1.tt (f2.tt f3);have e:=H.on b;have J:=f2.1;have V:Env i t m xs h.size c1 x:=⟨(f2.tt f3).get b1 id,f3.get j id,X,s,A,S,f,d,L,e⟩;have z: ∀g,Fr (aL q) i g->Env g t m xs h.size c1 x:=λg F=>
  ⟨F.get V.b0 (λa=>bX (G _ a)),F.get V.b1 (λa=>bX (G _ a)),X,s,A,S,f,d,L,e.frame F (λy a B=>by
   have u:=G y B;have v:y<h.size:=(Ct.lt (s:=s) ⟨m,xs,A,S,f,d,L,H⟩ y a);omega)⟩
 have nl:(jW xs).length=xs.length:=by unfold jW;rw[aF]
 refine Gm V O nl.symm l (λk D=>by
  obtain⟨y,a,rfl⟩:=bg.1 D;exact⟨y,a,rfl⟩) z λw r o f4=>⟨_,_,_,rfl,?_⟩
 have E:=JQ (x:=x) (xV H);have el:((jW xs).filter (ke xs x)).length=(xs.filter (λy=>decide (y.e=x))).length:=by rw[E];unfold jW;rw[aF]
 rw[el]at o⊢;rw[E]at o;exact hk w q r o (λy a=>bX (G y a)) (b.fresh f4 (λy a=>bX (G y a)))
end fU
end
section
open Go.kk
namespace fU
open iT bU iD
variable {h h':aj} {R:fj} {t:Nat} {X:Ft} {s s':CF} {m A b:Nat} {xs:List CV} {S a:Nat→Prop} {d:Nat→Option Nat} {n c:Nat}
variable {z:Cp} {K:aj->Prop} {L:List Cp}
def AK(L:List Cp)(n:Int):List Cp:=L.filter (λx=> !decide ((x.num:Int)=n))
def nW(L:List Cp)(n:Nat)(ses:Int)(dl:Nat):List Cp:=L.map (λx=>if x.num=n then { x with ses:=ses,dl:=dl } else x)
def CR(s:CF)(n:Int):CF:= { s with L:=AK s.L n,E1:=fD s.E1 n,E2:=fD s.E2 n }
def pc(s:CF)(n:Nat):CF:= { s with L:=nW s.L n 0 0,E2:=fD s.E2 (n:Int) }
theorem nU(L:List E)(k:Int):(fD L k).length<=L.length:=cr _ _
structure Small (s:CF):Prop where
 n:s.next<=50000
 l:s.L.length<=50000
 e1:s.E1.length<=50000
 e2:s.E2.length<=50000
theorem Cm.len(H:Cm h t X s m xs A S b a d):xs.length=s.L.length:=by rw[<-H.abs,aF]
theorem gC(hk: ∀h' t X,Ct h' t X ⟨[],1,0,0,0, [], []⟩->Ln h X h'->R (.P t 0) h'):Cl 37 #[] h R:=by
 classical
 refine Gv.walk (cG ?_);have f1:Fr No h (h.push (.map #[] 0)):=Fr.push _ _;have M:=jc.push (α:=Int) h fZ;have Z:(h.push (.map #[] 0)).size=h.size+1:=dD _;generalize h.push (.map #[] 0)=p at f1 M Z⊢;refine bU.gC λA S i A1 G f2=>⟨_,rfl,bU.gC λb a H f o f3=>⟨_,rfl,cG ?_⟩⟩
 have f4:Fr No H (H.push (.cells #[.map (some h.size),.I 1,.I 0,.I 0,.I 0,.P A 0,.P b 0] 110)):=Fr.push _ _;have y:=f2.1;have D:=f3.1;have v:(H.push (.cells #[.map (some h.size),.I 1,.I 0,.I 0,.I 0,.P A 0,.P b 0] 110)).size=H.size+1:=dD _;have B:(H.push (.cells #[.map (some h.size),.I 1,.I 0,.I 0,.I 0,.P A 0,.P b 0] 110))[H.size]? =some (.cells #[.map (some h.size),.I 1,.I 0,.I 0,.I 0,.P A 0,.P b 0] 110 (0,0)):=bR;generalize H.push (.cells #[.map (some h.size),.I 1,.I 0,.I 0,.I 0,.P A 0,.P b 0] 110)=j at f4 v B⊢;have l1: ∀c,S c->p.size<=c/\c<i.size:=λc hc=>⟨G c hc,A1.lt hc⟩
 have l2: ∀c,a c->i.size<=c/\c<H.size:=λc hc=>⟨o c hc,f.lt hc⟩
 let d:Nat->Option Nat:=λc=>if c=H.size then some 0 else if c=h.size then some 1 else if S c then some 2 else if a c then some 3 else none
 have r: ∀c,S c->d c=some 2:=λc hc=>by
  have:=l1 c hc;show(if c=H.size then some 0 else if c=h.size then some 1 else if S c then some 2 else if a c then some 3 else none)=_;rw[dj,dj,ag hc]
 have u: ∀c,a c->d c=some 3:=λc hc=>by
  have w:=l2 c hc;show(if c=H.size then some 0 else if c=h.size then some 1 else if S c then some 2 else if a c then some 3 else none)=_;rw[dj,dj,ae (λq=>bX (l1 c q)),ag hc]
 have l: ∀c,d c≠none->h.size<=c/\c<j.size:=λc hc=>by
  by_cases c1:c=H.size
  .omega
  by_cases k:c=h.size
  .omega
  by_cases C:S c
  .have:=l1 c C;omega
  by_cases g:a c
  .have:=l2 c g;omega
  exact absurd (show(if c=H.size then some 0 else if c=h.size then some 1 else if S c then some 2 else if a c then some 3 else none)=none by rw[ae c1,ae k,ae C,ae g]) hc
 refine hk j H.size ⟨λc=>d c≠none,λ_=>False⟩ ⟨h.size, [],A,S,b,a,d,⟨B,(M.frame (f2.tt f3) id).frame f4 id,(λx e=>by cases e),rfl,(λx e=>by cases e),A1.frame (f3.tt f4) cu,f.frame f4 cu,ag rfl,?_,r,u,(λx e=>by cases e),λc=>eE,λc hc=>hc.elim,λc hc=>(l c hc).2,.nil⟩⟩ ⟨f1.tt (f2.tt (f3.tt f4)),λc hc=> ?_⟩
 .show(if h.size=H.size then some 0 else if h.size=h.size then some 1 else if S h.size then some 2 else if a h.size then some 3 else none)=some 1;rw[dj,ag rfl]
 .rcases hc with hc|hc
  .exact(l c hc).1
  .exact hc.elim
theorem PD(H:Cm h t X s m xs A S b a d)(j:s.E2.length<1000000)(k:Int)(hk: ∀h' x l (e:Int),Cm h' t x { s with E2:=fD s.E2 k } m xs A S b a l->bG X h x h'->R (.I e) h'):
  Cl 115 #[.P b 0,.I k] h R:=by
 refine bU.oR H.FH j k (λ_ g A1 f1=> ?_) (λo=> ?_)
 .obtain⟨x,l,f,st,_⟩:=H.Gx (s':= { s with E2:=fD s.E2 k }) A1 (λc i=> .inl i) f1 rfl rfl rfl ⟨rfl,rfl,rfl,rfl⟩;exact hk g x l 0 f st
 .have e:({ s with E2:=fD s.E2 k } :CF)=s:=by rw[jL o]
  exact hk h X d 4 (by rw[e];exact H) (bG.refl _ _)
theorem RQ(H:Cm h t X s m xs A S b a d)(j:s.E1.length<1000000)(k:Int)(hk: ∀h' x l (e:Int),Cm h' t x { s with E1:=fD s.E1 k } m xs A S b a l->bG X h x h'->R (.I e) h'):
  Cl 115 #[.P A 0,.I k] h R:=by
 refine bU.oR H.Gw j k (λ_ g A1 f1=> ?_) (λo=> ?_)
 .obtain⟨x,l,f,st,_⟩:=H.Gy (s':= { s with E1:=fD s.E1 k }) A1 (λc i=> .inl i) f1 rfl rfl rfl ⟨rfl,rfl,rfl,rfl⟩;exact hk g x l 0 f st
 .have e:({ s with E1:=fD s.E1 k } :CF)=s:=by rw[jL o]
  exact hk h X d 4 (by rw[e];exact H) (bG.refl _ _)
theorem nV(H:Ct h t X s)(g:Small s)(k:Int)(hk: ∀h' x,Ct h' t x (CR s k)->bG X h x h'->R (.tuple #[]) h'):
  Cl 119 #[.P t 0,.I k] h R:=by
 obtain⟨m,xs,A,S,b,a,d,H⟩:=H;have:=g.e1;have:=g.e2;refine rR.walk ⟨_,ak H.cQ,PD H af k λv u y _ f st1=>⟨_,rfl,_,ak f.cQ,RQ f (by show s.E1.length<_;omega) k λw j B _ e q=>⟨_,rfl,_,ak e.cQ,DU mq e.map (k:=k) λl M p o=>⟨rfl,?_⟩⟩⟩⟩;obtain⟨i,r⟩:=e.del (s':=CR s k) M p o rfl rfl rfl ⟨rfl,rfl,rfl,rfl⟩;exact hk l j ⟨_,_,_,_,_,_,_,i⟩ (st1.trans (q.trans r))
theorem sO(H:Cm h t X s m xs A S b a d)(f:z∈s.L): ∃x∈xs,x.abs=z:=by
 rw[<-H.abs]at f;obtain⟨x,g,e⟩:=bg.1 f;exact⟨x,g,e⟩
theorem Cm.BF{x:CV}{ses:Int}{dl:Nat}(H:Cm h t X s m xs A S b a d)(k:x∈xs)(hk: ∀h',Cm h' t X { s with L:=nW s.L x.num ses dl } m (xs.map (λz=>if z.num=x.num then { x with ses:=ses,dl:=dl } else z)) A S b a d->bG X h X h'->K h'):
  aO h (((AA x.b 0):Addr).add 8) (.I ses) λo=>aO o (((AA x.b 0):Addr).add 9) (.U (dl:Int)) K:=by
 rw[gz,gz];have v:=H.Dx x k;refine bH v bO λo c1 s1 o1=>bH c1 bO λp C G o2=> ?_
 have E:({ x with ses:=ses,dl:=dl } :CV).at p x.b:=C;obtain⟨r,st⟩:=H.change (s':= { s with L:=nW s.L x.num ses dl }) (y:= { x with ses:=ses,dl:=dl }) k rfl rfl rfl E af (λc q=>by rw[o2 c q,o1 c q]) (by
  show nW s.L x.num ses dl=_;unfold nW;refine dN λz F=> ?_
  by_cases e:z.num=x.num
  .rw[ag e,ag e];obtain⟨u,D,rfl⟩:=sO H F;have e:u.num=x.num:=e;have:u=x:=by
    obtain⟨i,f⟩:=bF D;obtain⟨j,g⟩:=bF k;have B:(xs.map CV.num).Nodup:=H.so.imp (λh=>Nat.ne_of_lt h);have w:=(aA.1 f).1;have:=(dM (l:=xs.map CV.num) (i:=i) (j:=j) (cy w) B).1 (by rw[aI,aI,f,g];simp[e]);subst this;rw[f]at g;exact bj g
   rw[this];rfl
  .rw[ae e,ae e]) rfl rfl ⟨rfl,rfl,rfl,rfl⟩
 exact hk p r st
theorem Im(H:Ct h t X s)(o:Small s)(l:z∈s.L)(hk: ∀h' g,Ct h' t g (pc s z.num)->bG X h g h'->R (.tuple #[]) h'):
  Cl 120 #[.P t 0,.I (z.num:Int)] h R:=by
 obtain⟨m,xs,A,S,b,a,d,H⟩:=H;obtain⟨x,f,rfl⟩:=sO H l;have:=o.e2;refine uF.walk ⟨_,ak H.cQ,PD H af _ λq j r _ e st1=>⟨_,rfl,_,ak e.cQ,_,look e f,_,ak e.cQ,_,look e f,?_⟩⟩;refine ay.2 (e.BF (ses:=0) (dl:=0) f λk i p=>hk k j ⟨_,_,_,_,_,_,_,i⟩ (st1.trans p))
def xD(L:List Cp)(n:Int):Option Cp:=L.find? (λx=>decide ((x.num:Int)=n))
theorem vT{n:Int}(h:xD L n=some z):z∈L/\(z.num:Int)=n:=⟨List.mem_of_find?_eq_some h,cy (List.find?_some h)⟩
theorem JR{n:Int}:xD L n=none↔ ∀z∈L,(z.num:Int)≠n:=by unfold xD;simp
def km(L:List Cp)(n ses:Int):Int:=match xD L n with|none=>4|some z=>if z.ses=0\/z.ses≠ses then 14 else 0
theorem iJ(H:Ct h t X s)(num ses:Int)(hk: ∀q,R (.tuple #[.pointer q,.I (km s.L num ses)]) h):
  Cl 165 #[.P t 0,.I num,.I ses] h R:=by
 obtain⟨m,xs,A,S,b,a,d,H⟩:=H;refine uE.walk (fw H ⟨_,rfl,?_⟩);rw[dj];unfold km at hk;cases i:xD s.L num with
 |none=>
  rw[i]at hk;have l: ∀x∈xs,(x.num:Int)≠num:=λx j=>JR.1 i x.abs (by rw[<-H.abs];exact bw j)
  refine⟨_,ak H.cQ,_,OE H l,?_⟩;rw[ag (by rfl)];exact hk none
 |some z=>
  rw[i]at hk;dsimp only at hk;obtain⟨o,rfl⟩:=vT i;obtain⟨x,j,rfl⟩:=sO H o;have L:=look H j;have C:=H.Dx x j;refine⟨_,ak H.cQ,_,L,?_⟩;rw[ae bO];refine aG.of λJ k=>⟨_,ak H.cQ,_,L,ay.2 ⟨_,ak C,?_⟩⟩
  have bad:(x.ses=0\/x.ses≠ses)->J true h:=λhb=>by
   subst k;simp only[bf];have:=hk none;have e:(if x.abs.ses=0\/x.abs.ses≠ses then(14:Int)else 0)=14:=ag hb;rwa[e]at this
  by_cases f:x.ses=0
  .rw[ag (cy f)];exact bad (.inl f)
  .rw[ae (cy f)];refine⟨_,ak H.cQ,_,L,ay.2 ⟨_,ak C,?_⟩⟩;by_cases g:x.ses=ses
   .have e:(x.ses !=ses)=false:=by simp[g]
    rw[e];subst k;simp only[aq,aJ];refine⟨_,ak H.cQ,_,L,?_⟩;have e2:(if x.abs.ses=0\/x.abs.ses≠ses then(14:Int)else 0)=0:=ae (λhb=>by
     rcases hb with hb|hb
     .exact f hb
     .exact hb g)
    have:=hk (Sa x.b 0);rwa[e2]at this
   .have e:(x.ses !=ses)=true:=by simpa using g
    rw[e];exact bad (.inr g)
def pA(s:CF)(n ses:Int):CF:=if km s.L n ses=0 then { CR s n with dx:=s.dx+1 } else s
theorem Ct.bump(H:Ct h t X s)(g:s.dx<=100000)(hk: ∀h',Ct h' t X { s with dx:=s.dx+1 } ->bG X h X h'->K h'):
  ∃(u:Int),aX h (AA t 2)=some (.I u)/\aO h (AA t 2) (.I (IntKind.wrap .i64 (u+1))) K:=by
 obtain⟨m,xs,A,S,b,a,d,H⟩:=H;refine⟨_,ak H.cQ,bH H.cQ bO λf c1 s1 o1=> ?_⟩;rw[bA af af]at c1;obtain⟨e,st⟩:=H.field (s':= { s with dx:=s.dx+1 }) rfl rfl rfl c1 s1 o1;exact hk f ⟨_,_,_,_,_,_,_,e⟩ st
theorem Ct.RR(H:Ct h t X s)(g:s.over<=100000)(hk: ∀h',Ct h' t X { s with over:=s.over+1 } ->bG X h X h'->K h'):
  ∃(u:Int),aX h (AA t 3)=some (.I u)/\aO h (AA t 3) (.I (IntKind.wrap .i64 (u+1))) K:=by
 obtain⟨m,xs,A,S,b,a,d,H⟩:=H;refine⟨_,ak H.cQ,bH H.cQ bO λf c1 s1 o1=> ?_⟩;rw[bA af af]at c1;obtain⟨e,st⟩:=H.field (s':= { s with over:=s.over+1 }) rfl rfl rfl c1 s1 o1;exact hk f ⟨_,_,_,_,_,_,_,e⟩ st
theorem Ct.RT(H:Ct h t X s)(g:s.gone<=100000)(hk: ∀h',Ct h' t X { s with gone:=s.gone+1 } ->bG X h X h'->K h'):
  ∃(u:Int),aX h (AA t 4)=some (.I u)/\aO h (AA t 4) (.I (IntKind.wrap .i64 (u+1))) K:=by
 obtain⟨m,xs,A,S,b,a,d,H⟩:=H;refine⟨_,ak H.cQ,bH H.cQ bO λf c1 s1 o1=> ?_⟩;rw[bA af af]at c1;obtain⟨e,st⟩:=H.field (s':= { s with gone:=s.gone+1 }) rfl rfl rfl c1 s1 o1;exact hk f ⟨_,_,_,_,_,_,_,e⟩ st
theorem Gz(H:Ct h t X s)(o:Small s)(l:s.dx<=100000)(num ses:Int)(hk: ∀h' x,Ct h' t x (pA s num ses)->bG X h x h'->R (.I (km s.L num ses)) h'):
  Cl 161 #[.P t 0,.I num,.I ses] h R:=by
 refine vQ.walk (iJ H num ses λq=>⟨_,_,rfl,aG.of λJ f=> ?_⟩);by_cases e:km s.L num ses=0
 .rw[ag (cy e)];refine nV H o num λr j g st1=>⟨rfl,g.bump l λk i p=> ?_⟩
  subst f;exact hk k j (by unfold pA;rw[ag e];exact i) (st1.trans p)
 .rw[ae (cy e)];subst f;exact hk h X (by unfold pA;rw[ae e];exact H) (bG.refl _ _)
def zA(s:CF)(n ses:Int):CF:=if km s.L n ses=0 then pc s n.toNat else s
theorem GA(H:Ct h t X s)(p:Small s)(num ses:Int)(hk: ∀h' x,Ct h' t x (zA s num ses)->bG X h x h'->R (.I (km s.L num ses)) h'):
  Cl 107 #[.P t 0,.I num,.I ses] h R:=by
 refine qB.walk (iJ H num ses λq=>⟨_,_,rfl,aG.of λJ f=> ?_⟩);by_cases e:km s.L num ses=0
 .rw[ag (cy e)];obtain⟨z,l⟩: ∃z,xD s.L num=some z:=by
   cases k:xD s.L num with
   |none=>unfold km at e;rw[k]at e;cases e
   |some z=>exact⟨z,rfl⟩
  obtain⟨o,rfl⟩:=vT l;refine Im H p o λj i g st1=>⟨rfl,?_⟩
  subst f;exact hk j i (by unfold zA;rw[ag e,aD];exact g) st1
 .rw[ae (cy e)];subst f;exact hk h X (by unfold zA;rw[ae e];exact H) (bG.refl _ _)

end fU
end
section
namespace eU
open gD (It)
open iT (Ev)
variable {h h':aj} {s j:Nat} {X:Ft}
structure SS where
 A:List fx.fx
 G:List gg.Rg
 C:fU.CF
 B:gD.BS
 Q:List It
 e:Ev
 tm:Nat
 sq:Nat
 now:Nat
 rf:Nat
structure sP where
 t:Nat
 r:Nat
 c:Nat
 o:Nat
 p:Nat
 k:Nat
abbrev Mk(h:aj)(k:Nat)(e:Ev)(tm sq:Nat):Prop:=h[k]? =some (.cells #[.bool e.jI,.int .u64 e.node,.int .u64 e.fX,.string e.host,.string e.jd,.int .u64 (tm:Int),.int .u64 (sq:Int),.bool true] 166 (0,0))
abbrev Bk(h:aj)(s:Nat)(I:sP)(now rf:Nat):Prop:=h[s]? =some (.cells #[pt I.t,pt I.r,pt I.c,pt I.o,pt I.p,pt I.k,.int .u64 (now:Int),.int .i64 (rf:Int)] 41 (0,0))
def part(σ:SS)(I:sP)(s:Nat)(i:Nat)(h:aj)(X:Ft):Prop:=match i with
 |0=>fx.Has h I.t X σ.A
 |1=>gg.Tb h I.r X σ.G
 |2=>fU.Ct h I.c X σ.C
 |3=>gD.As h I.o X σ.B
 |4=> ∃m,Pu h I.p m σ.Q/\only X λy=>y=I.p\/y=m
 |5=>Mk h I.k σ.e σ.tm σ.sq/\only X λy=>y=I.k
 |6=>Bk h s I σ.now σ.rf/\only X λy=>y=s
 |_=> ∀y,¬In X y
theorem part.lt{σ:SS}{I:sP}{i:Nat}(H:part σ I s i h X)(y:Nat)(hy:In X y):y<h.size:=by
 rcases i with _|_|_|_|_|_|_|i
 .exact fx.Has.lt H y hy
 .exact gg.Tb.lt H y hy
 .exact fU.Ct.lt H y hy
 .exact gD.As.lt H y hy
 .obtain⟨m,P,o⟩:=H;rcases hy with hy|hy
  .rcases(o y).1.1 hy with rfl|rfl
   .exact P.lt.1
   .exact P.lt.2
  .exact absurd hy (o y).2
 .obtain⟨P,o⟩:=H;rcases hy with hy|hy
  .rw[(o y).1.1 hy];exact aC P
  .exact absurd hy (o y).2
 .obtain⟨P,o⟩:=H;rcases hy with hy|hy
  .rw[(o y).1.1 hy];exact aC P
  .exact absurd hy (o y).2
 .exact absurd hy (H y)
theorem part.frame{σ:SS}{I:sP}{i:Nat}{Q:Nat->Prop}(H:part σ I s i h X)(f:Fr Q h h')(a: ∀y,In X y->¬Q y):part σ I s i h' X:=by
 rcases i with _|_|_|_|_|_|_|i
 .exact fx.Has.frame H f a
 .exact gg.Tb.frame H f a
 .exact fU.Ct.frame H f a
 .exact gD.As.frame H f a
 .obtain⟨m,P,o⟩:=H;exact⟨m,P.frame f (a _ (.inl ((o _).1.2 (.inl rfl)))) (a _ (.inl ((o _).1.2 (.inr rfl)))),o⟩
 .obtain⟨P,o⟩:=H;exact⟨f.get P (a _ (.inl ((o _).1.2 rfl))),o⟩
 .obtain⟨P,o⟩:=H;exact⟨f.get P (a _ (.inl ((o _).1.2 rfl))),o⟩
 .exact H
theorem part.vr{σ:SS}{I:sP}{i:Nat}(H:part σ I s i h X)(y:Nat)(b:X.M y)(hd:X.D y):False:=by
 rcases i with _|_|_|_|_|_|_|i
 .exact fx.Has.vr H y b hd
 .obtain⟨m,H⟩:=H;exact H.d y hd
 .obtain⟨m,xs,A,c,e,d,l,H⟩:=H;exact(H.mm y).1 b (H.dd y hd).1
 .obtain⟨L,⟨g,f,xs,a,S,H⟩,_⟩:=H;exact H.vr y b hd
 .obtain⟨m,P,o⟩:=H;exact(o y).2 hd
 .exact(H.2 y).2 hd
 .exact(H.2 y).2 hd
 .exact H y (.inl b)
theorem part.st(σ:SS)(I:sP)(s:Nat):yz (part σ I s):=⟨part.lt,part.frame,part.vr⟩
def Pt(h:aj)(s:Nat)(X:Ft)(I:sP)(σ:SS):Prop:=Gb (part σ I s) h X
variable {I : sP} {σ : SS}
theorem Pt.lt(H:Pt h s X I σ)(y:Nat)(a:X.M y\/X.D y):y<h.size:=Gb.lt (part.st _ _ _) H y a
theorem Pt.vr(H:Pt h s X I σ)(y:Nat)(a:X.M y)(b:X.D y):False:=Gb.vr (part.st _ _ _) H y a b
theorem Pt.frame{Q:Nat->Prop}(H:Pt h s X I σ)(f:Fr Q h h')(a: ∀y,X.M y\/X.D y->¬Q y):Pt h' s X I σ:=Gb.frame (part.st _ _ _) H f a
theorem Pt.on(H:Pt h s X I σ)(f:Fr No h h'):Pt h' s X I σ:=H.frame f cu
theorem Pt.use(H:Pt h s X I σ)(j:Nat): ∃Z,part σ I s j h Z/\(∀y,Z.M y->X.M y)/\(∀y,Z.D y->X.D y)/\∀h' z a,part a I s j h' z->bG Z h z h'->(∀i,i≠j->part a I s i=part σ I s i)->
  ∃x,Pt h' s x I a/\bG X h x h'/\(∀y,z.D y->x.D y)/\∀y,h.size<=y->x.M y\/x.D y->z.M y\/z.D y:=by
 obtain⟨Z,b,c,d,go⟩:=Gb.use (part.st σ I s) H j;exact⟨Z,b,c,d,λh' z a=>go h' z (part a I s)⟩
theorem Pt.cQ(H:Pt h s X I σ):Bk h s I σ.now σ.rf:=by obtain⟨Y,a,_⟩:=H;exact(a 6).1
theorem Pt.box(H:Pt h s X I σ): ∃Z,gD.As h I.o Z σ.B:=by obtain⟨Y,a,_⟩:=H;exact⟨_,a 3⟩
theorem zB{i:Nat}(a:List fx.fx)(H:i≠0):part { σ with A:=a } I s i=part σ I s i:=by rcases i with _|_|_|_|_|_|_|i<;>first|rfl|exact absurd rfl H
theorem GC{i:Nat}(a:List gg.Rg)(H:i≠1):part { σ with G:=a } I s i=part σ I s i:=by rcases i with _|_|_|_|_|_|_|i<;>first|rfl|exact absurd rfl H
theorem vU{i:Nat}(a:fU.CF)(H:i≠2):part { σ with C:=a } I s i=part σ I s i:=by rcases i with _|_|_|_|_|_|_|i<;>first|rfl|exact absurd rfl H
theorem GD{i:Nat}(a:gD.BS)(H:i≠3):part { σ with B:=a } I s i=part σ I s i:=by rcases i with _|_|_|_|_|_|_|i<;>first|rfl|exact absurd rfl H
theorem GF{i:Nat}(a:List It)(H:i≠4):part { σ with Q:=a } I s i=part σ I s i:=by rcases i with _|_|_|_|_|_|_|i<;>first|rfl|exact absurd rfl H
theorem Qf{i:Nat}(a:Ev)(b c:Nat)(H:i≠5):part { σ with e:=a,tm:=b,sq:=c } I s i=part σ I s i:=by rcases i with _|_|_|_|_|_|_|i<;>first|rfl|exact absurd rfl H
theorem Qg{i:Nat}(a b:Nat)(H:i≠6):part { σ with now:=a,rf:=b } I s i=part σ I s i:=by rcases i with _|_|_|_|_|_|_|i<;>first|rfl|exact absurd rfl H
end eU
end
section
open Go.kk
namespace fU
open iT bU iD
variable {h h':aj} {R:fj} {t:Nat} {X:Ft} {s s':CF} {m B A:Nat} {xs:List CV} {r w:Nat→Prop} {o:Nat→Option Nat} {p:cg} {n c:Nat}
variable {k:Int} {l:List Int} {i:Nat} {f:CF->Int->CF}
def xE(x:Ev)(len:Nat)(bV:Int):Bool:=cN x && (!decide (x=Ev.zero) && (decide (1<=len) && (decide (len<=600) && decide (bV<=1099511627776))))
theorem JS(x:Ev)(hk: gU h R (.bool (xE x n k))):Cl 48 #[kj x,.slice p n c,.U k] h R:=by
 refine AJ.walk (aw.box λb d e H f1=>aw.ld H (iT.fc x λa f2=>⟨_,rfl,?_⟩));have K:=hk a (f1.tt f2);unfold xE at K;by_cases q:cN x=true
 .rw[ag q];rw[q,dP]at K;refine aw.ld (f2.get H id) ⟨_,tW (y:=.zero) (x:=x) rfl rfl,?_⟩;by_cases q1:x=.zero
  .rw[au q1,dj];rw[au q1]at K;exact K
  .rw[az q1,fY];rw[az q1,ee,dP]at K;by_cases q2:1<=n
   .rw[fY];rw[au q2,dP]at K;by_cases q3:n<=600
    .rw[fY];rw[au q3,dP]at K;exact K
    .rw[ae (by simp;omega)];rw[az q3]at K;exact K
   .rw[ae (by simp;omega)];rw[az q2]at K;exact K
 .rw[ae q];have q:cN x=false:=by simpa using q
  rw[q]at K;exact K
def kN(L:List Cp)(x:Ev):List Cp:=L.filter (λy=>decide (y.e=x))
theorem GG(H:Cm h t X s m xs B r A w o)(x:Ev):(xs.filter (λy=>decide (y.e=x))).length=(kN s.L x).length:=by
 unfold kN;rw[<-H.abs,dE,aF];rfl
def iK(s:CF)(x:Ev)(d:cH)(bV:Nat):Int:=if xE x d.length (bV:Int)=true then(if(kN s.L x).length≥16 then 15 else 0)else 1
def AG(s:CF)(x:Ev)(d:cH)(bV:Nat):Int:=if iK s x d bV=0 then(s.next:Int)else 0
def jw(s:CF)(x:Ev)(d:cH)(bV:Nat):CF:=if iK s x d bV=0 then { s with L:=s.L++ [⟨s.next,x,d,bV,0,0⟩],next:=s.next+1,E1:=yT s.E1 (s.next:Int) (bV:Int) } else s
theorem zh(H:Ct h t X s)(S:Small s)(c': ∀z∈s.L,z.num<s.next)(i':1<=s.next)(x:Ev){d:cH}(bV:Nat)(b':k=(bV:Int))(hr:Row h p (bc d))(hn:n=d.length)(e':d≠ []->∀a,p=some a->¬X.M a.block)(hk: ∀h' N,Ct h' t N (jw s x d bV)->bG X h N h'->R (.tuple #[.I (AG s x d bV),.I (iK s x d bV)]) h'):
  Cl 15 #[.P t 0,kj x,.slice p n c,.U k] h R:=by
 subst b' hn;obtain⟨m,xs,B,r,A,w,o,H⟩:=H;have sn:=S.n;have sl:=S.l;have se:=S.e1;have xl:=H.len;refine vO.walk (aw.box λb h1 eb K f1=> ?_);have Z:=H.on f1;refine fw Z ⟨_,rfl,?_⟩;rw[dj];refine aw.ld K (JS x λh3 f3=>⟨_,rfl,?_⟩);have F:=f1.tt f3;by_cases q:xE x d.length (bV:Int)=true
 .rw[q,dj];refine aw.ld (f3.get K id) (BE (H.on F) x af λQ p4 c4 o4 g4 f4=>⟨_,_,_,rfl,?_⟩);have C:=F.tt f4;have g:=H.on C;have T:=(f3.tt f4).get K id;rw[GG H x];by_cases q1:(kN s.L x).length≥16
  .rw[fY];have e:iK s x d bV=15:=by unfold iK;rw[ag q,ag q1]
   have e2:AG s x d bV=0:=ae (by rw[e];decide);have E:jw s x d bV=s:=ae (by rw[e];decide);rw[e,e2,E]at hk;exact hk Q X ⟨_,_,_,_,_,_,_,g⟩ (bG.im C)
  .rw[ae (by simp;omega)];have e:iK s x d bV=0:=by unfold iK;rw[ag q,ae q1]
   have e2:AG s x d bV=(s.next:Int):=ag e;have E:jw s x d bV= { s with L:=s.L++ [⟨s.next,x,d,bV,0,0⟩],next:=s.next+1,E1:=yT s.E1 (s.next:Int) (bV:Int) } :=ag e;rw[e,e2,E]at hk;have lb:b<Q.size:=aC T;have nb: ∀{c},o c≠none->c≠b:=fun {c} v ec=>by have:=H.Dy c v;omega
   refine⟨_,ak g.cQ,_,ak g.cQ,bH g.cQ bO λG P s5 V=> ?_⟩;rw[bA af af]at P;obtain⟨j,W⟩:=g.field (s':= { s with next:=s.next+1 }) rfl rfl rfl P s5 V;have M:Ev.at G b x:=by
    unfold Ev.at aw.at;rw[V b (e6 (nb (by rw[H.l0];simp)))];exact T
   have r5:Row G p (bc d):=(hr.frame C cu).frame W.fr (λa ea=>e' (by rintro rfl;simp[xE]at q) a ea);refine⟨_,ak j.cQ,aw.ld M (hC r5 rfl (by
    unfold xE at q;simp only[aR,aY]at q;omega) λp6 c6 h6 O f6 g6=>⟨_,_,_,rfl,?_⟩)⟩
   refine⟨aw.held (f6.get M id),ak (f6.get j.cQ id),aK.box λJ h7 e7 a' f7=> ?_⟩;have D:=f6.tt f7;have z5:G.size<=h6.size:=f6.1;refine⟨aw.held (D.get M id),ak (D.get j.cQ id),yr mq (j.on D).map (k:=(s.next:Int)) λh8 M8 s8 o8=> ?_⟩;obtain⟨X8,j',I,f'⟩:=j.add (s':= { s with L:=s.L++ [⟨s.next,x,d,bV,0,0⟩],next:=s.next+1 }) (y:=⟨s.next,J,x,⟨p6,c6,d⟩,bV,0,0⟩) D a' (by show G.size<=J;omega) ((O.jb).frame f7 cu) O.le (λc v=>⟨g6 c v,by have:=O.dV v;show c≠J;omega,gF (O.dV v) f7.1⟩)
    (λu hu=>by
     have:u.abs∈s.L:=by rw[<-H.abs];exact bw hu
     exact c' _ this) M8 s8 o8 rfl rfl rfl ⟨rfl,rfl,rfl,rfl⟩
   have d':may (s.next:Int) (bV:Int)=true:=by
    unfold xE at q;simp only[aR,aY]at q;exact lJ.2 ⟨af,af,af⟩
   refine⟨_,ak I.cQ,bU.Gg I.Gw (by show s.E1.length<_;omega) (s.next:Int) (bV:Int) af (λU h9 S9 Y g9 f9=>⟨_,rfl,?_⟩) (λU=>absurd d' (by rw[U];simp))⟩;obtain⟨X9,k',H9,g',_⟩:=I.Gy (s':= { s with L:=s.L++ [⟨s.next,x,d,bV,0,0⟩],next:=s.next+1,E1:=yT s.E1 (s.next:Int) (bV:Int) }) Y g9 f9 rfl rfl rfl ⟨rfl,rfl,rfl,rfl⟩;exact hk h9 X9 ⟨_,_,_,_,_,_,_,H9⟩ (bG.no C (W.trans (f'.trans g')))
 .have q:xE x d.length (bV:Int)=false:=by simpa using q
  rw[q,fY];have e:iK s x d bV=1:=by unfold iK;rw[q];rfl
  have e2:AG s x d bV=0:=ae (by rw[e];decide);have E:jw s x d bV=s:=ae (by rw[e];decide);rw[e,e2,E]at hk;exact hk h3 X ⟨_,_,_,_,_,_,_,H.on F⟩ (bG.im F)
theorem BG(H:Ct h t X s)(d:Small s)(hk: gU h R (.agg #[.I ((s.next:Int) - 1),.I ((s.L.length:Int) - (s.E2.length:Int)),.I (s.E2.length:Int),.I (s.dx:Int),.I (s.over:Int),.I (s.gone:Int)])):
  Cl 17 #[.P t 0] h R:=by
 obtain⟨m,xs,B,r,A,w,o,H⟩:=H;have D:=d.n;have C:=d.l;have z:=d.e2;have xl:=H.len;refine rQ.walk (gj.box λb v E q f1=> ?_);have a:=H.on f1;refine fw a ⟨_,rfl,?_⟩;rw[dj];refine⟨_,ak a.cQ,bU.CM a.FH ⟨_,rfl,_,ak a.cQ,_,ak a.cQ,_,Cu mq a.map,_,ak a.cQ,_,ak a.cQ,_,ak a.cQ,?_⟩⟩;refine gj.set q λg j x O=>gj.ld j ?_
 have F:Fr No h g:=f1.fresh (S:=λy=>y=b) ⟨af,λy _ u=>O y u⟩ (λy e=>af);have K:=hk g F;rw[aF,bA (n:=(s.next:Int) - 1) af af,bA af af,xl];exact K
def jJ(s:CF)(k:Int):CF:= { CR s k with over:=s.over+1 }
def mW(s:CF)(k:Int):CF:= { CR s k with gone:=s.gone+1 }
theorem Small.rem(S:Small s)(k:Int):Small (CR s k):=
 ⟨S.n,cM (cr _ _) S.l,cM (nU _ _) S.e1,cM (nU _ _) S.e2⟩
theorem Small.free(S:Small s)(k:Nat):Small (pc s k):=
 ⟨S.n,by show(nW s.L k 0 0).length<=_;unfold nW;rw[aF];exact S.l,S.e1,cM (nU _ _) S.e2⟩
def Ey(s:CF):Prop:= ∀k∈keys s.E2,∃z∈s.L,(z.num:Int)=k
theorem Ey.rem(H:Ey s)(k:Int):Ey (CR s k):=λj a=>by
 unfold keys at a;obtain⟨e,g,rfl⟩:=bg.1 a;obtain⟨b,d⟩:=ba.1 g;have q:e.1≠k:=by simpa using d
 obtain⟨z,u,e2⟩:=H e.1 (bw b);exact⟨z,ba.2 ⟨u,by simp[e2,q]⟩,e2⟩
theorem JT(L:List Cp)(n:Nat)(a:Int)(b:Nat){z:Cp}(H:z∈L): ∃y∈nW L n a b,y.num=z.num:=by
 unfold nW;refine⟨_,bw H,?_⟩;split<;>rfl
theorem Ct.RU(H:Ct h t X s)(S:Small s)(now:Int)(hk: ∀h' x P C,Ct h' t x { s with E1:=bU.rest s.E1 now } ->bG X h x h'->fi h' P (bU.due s.E1 now).length C 1 (kc (bU.due s.E1 now))->(∀y,aL P y->h.size<=y/\¬x.M y)->R (.slice P (bU.due s.E1 now).length C) h'):
  ∃(u:cg),aX h (AA t 5)=some (.pointer u)/\Cl 118 #[.pointer u,.U now] h R:=by
 obtain⟨m,xs,B,r,A,w,o,H⟩:=H;have:=S.e1;refine⟨_,ak H.cQ,bU.CN H.Gw af now λd v c1 A1 o1 g f1=> ?_⟩;obtain⟨x,L,b,st,e⟩:=H.Gy (s':= { s with E1:=bU.rest s.E1 now }) A1 (λc j=> .inl j) f1 rfl rfl rfl ⟨rfl,rfl,rfl,rfl⟩;refine hk d x v c1 ⟨_,_,_,_,_,_,_,b⟩ st o1 (λy a=>⟨g y a,λq=> ?_⟩);have a:=g y a;rcases e y q with h2|h2
 .have:=H.Dy y ((H.mm y).1 h2);omega
 .have:=H.Gw.lt h2;omega
theorem Ct.RV(H:Ct h t X s)(S:Small s)(now:Int)(hk: ∀h' x P C,Ct h' t x { s with E2:=bU.rest s.E2 now } ->bG X h x h'->fi h' P (bU.due s.E2 now).length C 1 (kc (bU.due s.E2 now))->(∀y,aL P y->h.size<=y/\¬x.M y)->R (.slice P (bU.due s.E2 now).length C) h'):
  ∃(u:cg),aX h (AA t 6)=some (.pointer u)/\Cl 118 #[.pointer u,.U now] h R:=by
 obtain⟨m,xs,B,r,A,w,o,H⟩:=H;have:=S.e2;refine⟨_,ak H.cQ,bU.CN H.FH af now λd v c1 A1 o1 g f1=> ?_⟩;obtain⟨x,L,b,st,e⟩:=H.Gx (s':= { s with E2:=bU.rest s.E2 now }) A1 (λc j=> .inl j) f1 rfl rfl rfl ⟨rfl,rfl,rfl,rfl⟩;refine hk d x v c1 ⟨_,_,_,_,_,_,_,b⟩ st o1 (λy a=>⟨g y a,λq=> ?_⟩);have a:=g y a;rcases e y q with h2|h2
 .have:=H.Dy y ((H.mm y).1 h2);omega
 .have:=H.FH.lt h2;omega
structure uL (h:aj) (X:Ft) (p:cg) (n c:Nat) (l:List Int):Prop where
 own:fi h p n c 1 (l.map fZ)
 len:n=l.length
 ap: ∀y,aL p y->¬X.M y
theorem uL.step{x:Ft}(N:uL h X p n c l)(st:bG X h x h'):uL h' x p n c l:=
 ⟨N.own.frame st.fr N.ap,N.len,λy H a=>by
  rcases st.jr y a with h1|h1
  .exact N.ap y H h1
  .have:=N.own.dV H;omega⟩
theorem uL.at{K:Int->Prop}(N:uL h X p n c l)(H:l[i]? =some k)(hk:K k):
  ((0:Int)<=(i:Int)/\(i:Int)<(n:Int))/\aM p λa=> ∃t:Int,aX h (a.add (Int.toNat (i:Int)*1))=some (.I t)/\K t:=by
 have g:=(aA.1 H).1;have j:=N.len;obtain⟨b,d,e⟩:=N.own.addr af;subst e;refine⟨af,ay.2 ⟨k,?_,hk⟩⟩;rw[aD,cv];exact N.own.cell (by rw[aI,H];rfl)
theorem mX(H: ∀s k,Small s->Small (f s k)): ∀(l:List Int)(s:CF),Small s->Small (l.foldl f s)
 | [],_,h=>h
 |k::l,s,h=>mX H l (f s k) (H s k h)
theorem BH: ∀(l:List Int)(s:CF),(l.foldl jJ s).over=s.over+l.length
 | [],_=>rfl
 |k::l,s=>by rw[List.foldl_cons,BH l,aV];show s.over+1+l.length=_;omega
theorem BI: ∀(l:List Int)(s:CF),(l.foldl mW s).gone=s.gone+l.length
 | [],_=>rfl
 |k::l,s=>by rw[List.foldl_cons,BI l,aV];show s.gone+1+l.length=_;omega
theorem BJ: ∀(l:List Int)(s:CF),Ey s->Ey (l.foldl jJ s)
 | [],_,h=>h
 |k::l,s,h=>BJ l (jJ s k) (h.rem k)
theorem sQ(H:l[i]? =some k)(s:CF):(l.take (i+1)).foldl f s=f ((l.take i).foldl f s) k:=by
 rw[bD,H,List.foldl_append];rfl
def jo(s:CF)(now:Int):CF:=
 let s1:=(keys (bU.due s.E1 now)).foldl jJ { s with E1:=bU.rest s.E1 now }
 (keys (bU.due s1.E2 now)).foldl (λs k=>pc s k.toNat) { s1 with E2:=bU.rest s1.E2 now }
theorem BK: ∀(l:List Int)(s:CF)(z:Cp),z∈s.L->∃y∈(l.foldl (λs k=>pc s k.toNat) s).L,y.num=z.num
 | [],s,z,H=>⟨z,H,rfl⟩
 |k::l,s,z,H=>by
  obtain⟨y,b,e⟩:=JT s.L k.toNat 0 0 H;obtain⟨u,a,e2⟩:=BK l (pc s k.toNat) y b;exact⟨u,a,e2.trans e⟩
theorem zC(L:List E)(now:Int):(bU.rest L now).length<=L.length:=(List.dropWhile_sublist _).length_le
theorem uw(H:Ct h t X s)(d:Small s)(ho:s.over<=40000)(hE:Ey s)(now:Int)(hk: ∀h' D E K,Ct h' t D (jo s now)->bG X h D h'->uL h' D E (bU.due s.E1 now).length K (keys (bU.due s.E1 now))->(∀y,aL E y->h.size<=y)->R (.slice E (bU.due s.E1 now).length K) h'):
  Cl 53 #[.P t 0,.U now] h R:=by
 have n':(bU.due s.E1 now).length<=s.E1.length:=(List.takeWhile_sublist _).length_le;have l':=d.e1;have hm: ∀{R:fj},R (.bool true) h->Cl 47 #[.P t 0] h R:=λhk=>by
  obtain⟨m,xs,B,r,A,w,o,H⟩:=H;exact fw H hk
 refine uH.walk (hm ⟨_,rfl,?_⟩);rw[dj];refine H.RU d now λh2 I P C H2 k' o2 Q=>⟨_,_,_,rfl,?_⟩
 have f':Small { s with E1:=bU.rest s.E1 now } :=⟨d.n,d.l,cM (zC _ _) d.e1,d.e2⟩;have kl:(keys (bU.due s.E1 now)).length=(bU.due s.E1 now).length:=by unfold keys;rw[aF]
 have N2:uL h2 I P (bU.due s.E1 now).length C (keys (bU.due s.E1 now)):=⟨o2,kl.symm,λy b=>(Q y b).2⟩;have j': ∀(s:CF) k,Small s->Small (jJ s k):=λs k h=>⟨(h.rem k).n,(h.rem k).l,(h.rem k).e1,(h.rem k).e2⟩
 refine⟨λu g=> ∃(i:Nat)(x:Ft),u=(i:Int)/\i<=(bU.due s.E1 now).length/\Ct g t x (((keys (bU.due s.E1 now)).take i).foldl jJ { s with E1:=bU.rest s.E1 now })/\bG X h x g/\uL g x P (bU.due s.E1 now).length C (keys (bU.due s.E1 now)),λu _=>(bU.due s.E1 now).length - u.toNat,⟨0,I,rfl,bL _,H2,k',N2⟩,?_⟩;rintro _ g ⟨i,x,rfl,hi,q,a',N⟩;have S:=mX j' ((keys (bU.due s.E1 now)).take i) _ f';by_cases c':i<(bU.due s.E1 now).length
 .rw[fY];have a:(keys (bU.due s.E1 now))[i]? =some ((keys (bU.due s.E1 now))[i]' af):=ai _;generalize (keys (bU.due s.E1 now))[i]' af=k at a;refine N.at a (nV q S k λg3 X3 H3 W=>⟨rfl,H3.RR ?_ λg4 H4 Y=> ?_⟩)
  .show(((keys (bU.due s.E1 now)).take i).foldl jJ { s with E1:=bU.rest s.E1 now }).over<=100000;rw[BH,bE];show s.over+_<=100000;omega
  .rw[bA af af];refine⟨⟨i+1,X3,af,af,?_,a'.trans (W.trans Y),(N.step W).step Y⟩,by show(bU.due s.E1 now).length - Int.toNat ((i:Int)+1)<(bU.due s.E1 now).length - i;omega⟩;rw[sQ a];exact H4
 .rw[ae (by simp;omega)];obtain rfl:i=(bU.due s.E1 now).length:=af
  have ta:(keys (bU.due s.E1 now)).take (bU.due s.E1 now).length=keys (bU.due s.E1 now):=bB af;rw[ta]at q S;have U:Ey ((keys (bU.due s.E1 now)).foldl jJ { s with E1:=bU.rest s.E1 now }):=BJ _ _ hE;generalize d':(keys (bU.due s.E1 now)).foldl jJ { s with E1:=bU.rest s.E1 now } =s1 at q S U;refine q.RV S now λh6 J V L H6 Z o6 g6=>⟨_,_,_,rfl,?_⟩
  have e':(keys (bU.due s1.E2 now)).length=(bU.due s1.E2 now).length:=by unfold keys;rw[aF]
  have g':Small { s1 with E2:=bU.rest s1.E2 now } :=⟨S.n,S.l,S.e1,cM (zC _ _) S.e2⟩;have N6:uL h6 J V (bU.due s1.E2 now).length L (keys (bU.due s1.E2 now)):=⟨o6,e'.symm,λy b=>(g6 y b).2⟩;have m':=S.e2;have o':(bU.due s1.E2 now).length<=s1.E2.length:=(List.takeWhile_sublist _).length_le;refine⟨λu g=> ∃(i:Nat)(x:Ft),u=(i:Int)/\i<=(bU.due s1.E2 now).length/\Ct g t x (((keys (bU.due s1.E2 now)).take i).foldl (λs k=>pc s k.toNat) { s1 with E2:=bU.rest s1.E2 now })/\bG X h x g/\uL g x V (bU.due s1.E2 now).length L (keys (bU.due s1.E2 now))/\uL g x P (bU.due s.E1 now).length C (keys (bU.due s.E1 now)),λu _=>(bU.due s1.E2 now).length - u.toNat,⟨0,J,rfl,bL _,H6,a'.trans Z,N6,N.step Z⟩,?_⟩;rintro _ g7 ⟨j,X7,rfl,hj,v,Mp,G,M⟩;have i':=mX (f:=λs k=>pc s k.toNat) (λs k h=>h.free k.toNat) ((keys (bU.due s1.E2 now)).take j) _ g';by_cases c':j<(bU.due s1.E2 now).length
  .rw[fY];have a:(keys (bU.due s1.E2 now))[j]? =some ((keys (bU.due s1.E2 now))[j]' af):=ai _;generalize (keys (bU.due s1.E2 now))[j]' af=k at a;have b':k∈keys s1.E2:=by
    have T:=aT a;unfold keys at T⊢;obtain⟨e,he,rfl⟩:=bg.1 T;exact bw ((List.takeWhile_sublist _).subset he)
   obtain⟨z,hz,ez⟩:=U k b';obtain⟨y,b,ey⟩:=BK ((keys (bU.due s1.E2 now)).take j) { s1 with E2:=bU.rest s1.E2 now } z hz;have O:k=(y.num:Int):=by rw[ey];exact ez.symm
   refine G.at a ?_;rw[O];refine Im v i' b λg8 X8 H8 F=>⟨rfl,?_⟩
   rw[bA af af];refine⟨⟨j+1,X8,af,af,?_,Mp.trans F,G.step F,M.step F⟩,by show(bU.due s1.E2 now).length - Int.toNat ((j:Int)+1)<(bU.due s1.E2 now).length - j;omega⟩;rw[sQ a,O,aD];exact H8
  .rw[ae (by simp;omega)];obtain rfl:j=(bU.due s1.E2 now).length:=af
   rw[bB af]at v;refine hk g7 X7 P C ?_ Mp M (λy b=>(Q y b).1);unfold jo;rw[d'];exact v
def uM(s:CF)(x:Ev):CF:=((kN s.L x).map (λz=>(z.num:Int))).foldl mW s
theorem OF(H:Cm h t X s m xs B r A w o)(x:Ev):jW (xs.filter (λy=>decide (y.e=x)))=(kN s.L x).map (λz=>(z.num:Int)):=by
 unfold kN jW;rw[<-H.abs,dE,dB];rfl
theorem oR(H:Ct h t X s)(S:Small s)(ho:s.gone<=40000)(x:Ev)(hk: ∀h' e P D,Ct h' t e (uM s x)->bG X h e h'->uL h' e P (kN s.L x).length D ((kN s.L x).map (λz=>(z.num:Int)))->(∀y,aL P y->h.size<=y)->R (.slice P (kN s.L x).length D) h'):
  Cl 99 #[.P t 0,kj x] h R:=by
 have K:=H;obtain⟨m,xs,B,r,A,w,o,H⟩:=H;have sl:=S.l;have xl:=H.len;refine uJ.walk (aw.box λb T eb V f1=>aw.ld V (BE (H.on f1) x af λU v C o2 G f2=>⟨_,_,_,rfl,?_⟩));have F:=f1.tt f2;have z1:=f1.1;rw[GG H x,OF H x]at o2;rw[GG H x];have ol:(kN s.L x).length<=s.L.length:=cr _ _;have kl:((kN s.L x).map (λz=>(z.num:Int))).length=(kN s.L x).length:=aF _;have O:uL U X v (kN s.L x).length C ((kN s.L x).map (λz=>(z.num:Int))):=⟨o2,kl.symm,λy q W=>by
  have T:=G y q;have:=H.Dy y ((H.mm y).1 W);omega⟩
 have Y: ∀(s:CF) k,Small s->Small (mW s k):=λs k h=>⟨(h.rem k).n,(h.rem k).l,(h.rem k).e1,(h.rem k).e2⟩
 refine⟨λu g=> ∃(i:Nat)(a:Ft),u=(i:Int)/\i<=(kN s.L x).length/\Ct g t a ((((kN s.L x).map (λz=>(z.num:Int))).take i).foldl mW s)/\bG X h a g/\uL g a v (kN s.L x).length C ((kN s.L x).map (λz=>(z.num:Int))),λu _=>(kN s.L x).length - u.toNat,⟨0,X,rfl,bL _,K.on F,bG.im F,O⟩,?_⟩;rintro _ g ⟨i,a,rfl,hi,d,J,N⟩;have Z:=mX Y (((kN s.L x).map (λz=>(z.num:Int))).take i) _ S;by_cases a':i<(kN s.L x).length
 .rw[fY];have j:((kN s.L x).map (λz=>(z.num:Int)))[i]? =some (((kN s.L x).map (λz=>(z.num:Int)))[i]' af):=ai _;generalize ((kN s.L x).map (λz=>(z.num:Int)))[i]' af=k at j;refine N.at j (nV d Z k λg3 Q L E=>⟨rfl,L.RT ?_ λg4 M I=> ?_⟩)
  .show((((kN s.L x).map (λz=>(z.num:Int))).take i).foldl mW s).gone<=100000;rw[BI,bE];omega
  .rw[bA af af];refine⟨⟨i+1,Q,af,af,?_,J.trans (E.trans I),(N.step E).step I⟩,by show(kN s.L x).length - Int.toNat ((i:Int)+1)<(kN s.L x).length - i;omega⟩;rw[sQ j];exact M
 .rw[ae (by simp;omega)];obtain rfl:i=(kN s.L x).length:=af
  rw[bB af]at d;exact hk g a v C d J N (λy q=>bX (G y q))
abbrev Mq:Value:=.agg #[.int .i64 0,.bool false,.int .u64 0,.int .u64 0,.string ⟨#[]⟩,.string ⟨#[]⟩,.slice none 0 0,.int .u64 0,.int .i64 0,.int .u64 0]
abbrev Cp.val(z:Cp)(p:cg)(c:Nat):Value:=.agg #[.int .i64 (z.num:Int),.bool z.e.jI,.int .u64 z.e.node,.int .u64 z.e.fX,.string z.e.host,.string z.e.jd,.slice p z.d.length c,.int .u64 (z.bV:Int),.int .i64 z.ses,.int .u64 (z.dl:Int)]
def sR(ses:Int)(dl:Nat):Prop:=1<=ses/\ses<=1099511627776/\dl<=1099511627776
def kX(L:List Cp)(x:Ev):Option Cp:=(kN L x).find? (λz=>decide (z.ses=0))
def qC(s:CF)(z:Cp)(ses:Int)(dl:Nat):CF:= { s with L:=nW s.L z.num ses dl,E2:=yT s.E2 (z.num:Int) (dl:Int) }
theorem GH(hk:R (.bool (decide (1<=k/\k<=1099511627776))) h):Cl 192 #[.I k] h R:=by
 refine vP.walk ?_;by_cases q:1<=k
 .have Q:k≥1:=q;simp only[Q,bu,bf];simp only[q,true_and]at hk;exact hk
 .have Q: ¬k≥1:=q;simp only[Q,bh,aq,aJ];simp only[q,false_and,bh]at hk;exact hk
theorem JU(H:Ct h t X s)(sm:Small s)(hb: ∀z∈s.L,1<=z.num/\z.num<s.next/\z.d.length<=600)(x:Ev)(ses:Int)(dl:Nat)(K':k=(dl:Int))(k1: ¬sR ses dl->gU h R (.tuple #[Mq,.I 1]))(k2:sR ses dl->kX s.L x=none->gU h R (.tuple #[Mq,.I 4]))(k3:sR ses dl->∀z,kX s.L x=some z->∀h' P p' c',Ct h' t P (qC s z ses dl)->bG X h P h'->Row h' p' (bc z.d)->z.d.length<=c'->(∀y,aL p' y->h.size<=y/\¬(P.M y\/P.D y))->R (.tuple #[({ z with ses:=ses,dl:=dl } :Cp).val p' c',.I 0]) h'):
  Cl 156 #[.P t 0,kj x,.I ses,.U k] h R:=by
 subst K';obtain⟨m,xs,B,r,A,w,o,H⟩:=H;have sn:=sm.n;have sl:=sm.l;have se:=sm.e2;have xl:=H.len;refine sM.walk (aw.box λb h1 e1 V f1=>aK.box λq L e2 e' f2=> ?_);have z1:=aC V;have z2:=aC e';have f12:=f1.tt f2;have V:=f2.get V id;refine fw (H.on f12) ⟨_,rfl,?_⟩;rw[dj];have VH:=f1.1;have fin: ∀g (e:Int),Fr No L g->(gU h R (.tuple #[Mq,.I e]))->aK.ST g (AA q 0) 0 false 0 0 gV gV none 0 0 0 0 0 λQ=>aK.LD Q (AA q 0) λO' P' Q' R' S' T' W' V' U' X' Y' Z'=>
   R (.tuple #[.agg #[.I O',.bool P',.U Q',.U R',.string S',.string T',.slice W' V' U',.U X',.I Y',.U Z'],.I e]) Q:=λg e fg hk=>
  aK.set (fg.get e' id) λQ A s2 o2=>aK.ld A (hk Q ((f12.tt fg).fresh (S:=λy=>y=q) ⟨af,λy _ D=>o2 y D⟩ (λy e=>af)))
 refine aG.of λy' hJ=>GH ⟨_,rfl,?_⟩
 have bad: ¬sR ses dl->y' true L:=λD=>by
  subst hJ;simp only[bf];exact fin L 1 (Fr.refl _ _) (k1 D)
 by_cases q1:1<=ses/\ses<=1099511627776
 .rw[au q1,dj];by_cases q2:(dl:Int)>1099511627776
  .rw[au q2];exact bad (λhm=>bX hm.2.2)
  .rw[az q2];clear bad;subst hJ;simp only[aq,aJ];have hm:sR ses dl:=⟨q1.1,q1.2,af⟩;refine aw.ld V (BE (H.on f12) x af λF p7 c7 o7 g7 f7=>⟨_,_,_,rfl,?_⟩);have Z:=f12.tt f7;have O:=H.on Z;have o':=f7.get e' id;have hF:(xs.filter (λy=>decide (y.e=x))).map CV.abs=kN s.L x:=by unfold kN;rw[<-H.abs,dE];rfl
   generalize r':xs.filter (λy=>decide (y.e=x))=C at o7 hF;have nl:(jW C).length=C.length:=by unfold jW;rw[aF]
   have fl:C.length<=xs.length:=by rw[<-r'];exact cr _ _
   refine⟨λu g=>g=F/\∃i:Nat,u=(i:Int)/\i<=C.length/\∀j y,j<i->C[j]? =some y->y.ses≠0,λu _=>C.length - u.toNat,⟨rfl,0,rfl,bL _,λj y G=>af⟩,?_⟩;rintro _ F ⟨rfl,i,rfl,hi,d'⟩;by_cases q':i<C.length
   .rw[fY];have d:C[i]? =some C[i]:=ai q';generalize C[i]=y at d;have M:y∈xs:=by
     have:=aT d;rw[<-r']at this;exact(ba.1 this).1
    obtain⟨ab,ao,rfl⟩:=o7.addr af;have cc:=o7.cell (j:=i) (v:=fZ (y.num:Int)) (by rw[aI];unfold jW;rw[aI,d];rfl);have L7:=look O M;have ca:=O.Dx y M;simp only[aD,cv];refine⟨af,ay.2 ⟨_,cc,_,ak O.cQ,_,L7,ay.2 ⟨_,ak ca,?_⟩⟩⟩;by_cases W:y.ses=0
    .rw[ag (cy W)];have M':kX s.L x=some y.abs:=by
      unfold kX;rw[<-hF,List.find?_map];have:C.find? ((λz:Cp=>decide (z.ses=0)) ∘ CV.abs)=some y:=by
       rw[List.find?_eq_some_iff_getElem];refine⟨by simp[CV.abs,W],i,q',(aA.1 d).2,λj G=> ?_⟩;have N:=d' j (C[j]' af) G (ai af);have N':decide ((C[j]' af).abs.ses=0)=false:=az N;show(!decide ((C[j]' af).abs.ses=0))=true;rw[N'];rfl
      rw[this];rfl
     have f':=hb y.abs (by rw[<-H.abs];exact bw M);have VI:1<=y.num:=f'.1;have VJ:y.num<s.next:=f'.2.1;have VK:y.v.b.length<=600:=f'.2.2;refine ay.2 (O.BF (ses:=ses) (dl:=dl) M λUl a' S0=>⟨_,ak a'.cQ,?_⟩);have L':may (y.num:Int) (dl:Int)=true:=lJ.2 ⟨af,af,af⟩;refine bU.Gg a'.FH (by show s.E2.length<_;omega) (y.num:Int) (dl:Int) af (λ_ l' VL x' G' f11=>⟨_,rfl,?_⟩) (λhx=>absurd L' (by rw[hx];simp));obtain⟨E,Um,b',S1,_⟩:=a'.Gx (s':=qC s y.abs ses dl) x' G' f11 rfl rfl rfl ⟨rfl,rfl,rfl,rfl⟩;have t':({ y with ses:=ses,dl:=dl } :CV)∈xs.map (λz=>if z.num=y.num then({ y with ses:=ses,dl:=dl } :CV)else z):=bg.2 ⟨y,M,ag rfl⟩;have k':=b'.Dx _ t';have F':=b'.Ar _ t';refine ay.2 (aK.ld k' (aK.new λJ m' VM n' f13=>ay.2 ⟨_,_,_,ak (f13.get k' id),hC ((F'.row).frame f13 cu) rfl (by show y.v.b.length<=_;omega) λY j' H' v' f14 K=>⟨_,_,_,rfl,?_⟩⟩));have qc:=S0.trans S1;have VN:F.size<=l'.size:=qc.fr.1;have VO:=f13.1;refine bH (f14.get n' id) bO λT D' VP g'=> ?_
     have I':aK.at T J (y.num:Int) y.e.jI y.e.node y.e.fX y.e.host y.e.jd Y y.v.b.length j' (y.bV:Int) ses (dl:Int):=D';refine aK.ld I' ?_;have nM: ∀y,y<F.size->h.size<=y->¬E.M y:=λy y1 y2 hm=>by
      rcases qc.jr y hm with h3|h3
      .have:=H.Dy y ((H.mm y).1 h3);omega
      .omega
     have RW:q<F.size:=aC o';have C': ¬X.M q:=λhm=>by have:=H.Dy q ((H.mm q).1 hm);omega
     have J':aK.at T q 0 false 0 0 ⟨#[]⟩ ⟨#[]⟩ none 0 0 0 0 0:=by
      have h3:=qc.fr.get o' C';have h4:=(f13.tt f14).get h3 id;have:q≠J:=af
      unfold aK.at;rw[g' q this];exact h4
     refine aK.set J' λU E' VQ w'=>aK.ld E' ?_
     have UJ: ∀y,aL Y y->m'.size<=y:=K;have fA:Fr (λy=>y=J) H' T:=⟨af,λy _ D=>g' y D⟩;have fB:Fr (λy=>y=q) T U:=⟨af,λy _ D=>w' y D⟩;have UK:J<m'.size:=aC n';have RX:Row U Y (bc y.v.b):=((v'.jb).frame fA (λa ea hm=>by have:=K a.block ⟨a,ea,rfl⟩;have hm:a.block=J:=hm;omega)).frame fB (λa ea hm=>by have:=K a.block ⟨a,ea,rfl⟩;have hm:a.block=q:=hm;omega);have i':Ct l' t E (qC s y.abs ses dl):=⟨_,_,_,_,_,_,_,b'⟩;have u':=λy (d:E.M y\/E.D y)=>i'.lt y d
     have z':=i'.on (f13.tt f14);have A':=z'.frame fA (λy d e=>bX (u' y d));have d2: ¬(E.M q\/E.D q):=λhm=>by
      rcases hm with hm|hm
      .exact nM q RW af hm
      .rcases qc.kR q hm with h3|h3
       .have:=(H.dd q h3).2;omega
       .omega
     have B':=A'.frame fB (λy d e=>d2 (e▸d));have I:=bG.no Z qc;have UL:bG X h E U:=by
      refine⟨⟨gF f14.1 I.fr.1,λy d D=> ?_⟩,I.jr,I.kR,I.vk⟩;have:=I.fr.1;rw[w' y af,g' y af,(f13.tt f14).2 y af id];exact I.fr.2 y d D
     exact k3 hm y.abs M' U E Y j' B' UL RX v'.le (λy d=>⟨gF (K y d) Z.1,λhx=>gF (u' y hx) (K y d)⟩)
    .rw[ae (cy W),bA af af];refine⟨⟨by first|trivial|rfl,i+1,af,af,λj z G N=> ?_⟩,by show C.length - Int.toNat ((i:Int)+1)<C.length - i;omega⟩;by_cases ej:j=i
     .subst ej;rw[d]at N;cases N;exact W
     .exact d' j z af N
   .rw[ae (by simp;omega)];refine fin F 4 f7 (k2 hm ?_);unfold kX;rw[<-hF,List.find?_map];have:C.find? ((λz:Cp=>decide (z.ses=0)) ∘ CV.abs)=none:=by
     rw[List.find?_eq_none];intro y d;obtain⟨j,G⟩:=bF d;have:=d' j y (bX ((aA.1 G).1)) G;have L:decide (y.abs.ses=0)=false:=az this;show¬(decide (y.abs.ses=0)=true);rw[L];decide
    rw[this];rfl
 .rw[az q1,fY];exact bad (λhm=>q1 ⟨hm.1,hm.2.1⟩)

end fU
end
section
open Go.kk
namespace fU
open iT bU iD
variable {h:aj} {t:Nat} {X:Ft} {s s':CF} {n:Nat} {now:Int}
variable {z:Cp} {L:List Cp} {k a ses:Int} {e:E} {b:Nat} {K:List Int}
structure Ord (s:CF):Prop where
 nd:(s.L.map Cp.num).Nodup
 o1:iW s.E1
 o2:iW s.E2
 n1:(keys s.E1).Nodup
 n2:(keys s.E2).Nodup
theorem Ct.ord(H:Ct h t X s):Ord s:=by
 obtain⟨m,xs,A,S,d,c,l,H⟩:=H;refine⟨?_,H.Gw.sorted,H.FH.sorted,H.Gw.nodup,H.FH.nodup⟩;rw[<-H.abs,dB];exact H.so.imp (λh=>Nat.ne_of_lt h)
structure q7 (s:CF):Prop where
 bd: ∀z∈s.L,1<=z.num/\z.num<s.next/\z.d.length<=600
 sp: ∀z∈s.L,0<=z.ses
 e1: ∀e,e∈s.E1↔ ∃z∈s.L,e=((z.num:Int),(z.bV:Int))
 e2: ∀e,e∈s.E2↔ ∃z∈s.L,z.ses≠0/\e=((z.num:Int),(z.dl:Int))
 vE:s.next=1+s.L.length+s.dx+s.over+s.gone
theorem Ord.inj(O:Ord s){y:Cp}(m:z∈s.L)(l:y∈s.L)(e:z.num=y.num):z=y:=by
 obtain⟨i,H⟩:=bF m;obtain⟨j,c⟩:=bF l;have o:=(aA.1 H).1;by_cases d:i=j
 .subst d;rw[H]at c;exact bj c
 .exfalso;have f:(s.L.map Cp.num)[i]? =some z.num:=by rw[aI,H];rfl
  have g:(s.L.map Cp.num)[j]? =some y.num:=by rw[aI,c];rfl
  have:i=j:=(dM (by rw[aF];exact o) O.nd).1 (f.trans ((bT some e).trans g.symm));exact d this
theorem re{L:List E}:e∈fD L k↔e∈L/\e.1≠k:=by unfold fD;simp[ba]
theorem Ez{L:List E}{v:Int}:e∈yT L k v↔e=(k,v)\/(e∈L/\e.1≠k):=by
 unfold yT;rw[(lE _ _).mem_iff,bJ,re]
theorem mr :z∈AK L k↔z∈L/\(z.num:Int)≠k:=by unfold AK;simp[ba]
theorem mv :z∈nW L n a b↔ ∃y∈L,z=if y.num=n then { y with ses:=a,dl:=b } else y:=by
 unfold nW;rw[bg];exact⟨λ⟨y,H,c⟩=>⟨y,H,c.symm⟩,λ⟨y,H,c⟩=>⟨y,H,c.symm⟩⟩
theorem Mr(L:List Cp)(n:Nat)(a:Int)(b:Nat):(nW L n a b).length=L.length:=by unfold nW;rw[aF]
theorem uv: ∀{L:List Cp},(L.map Cp.num).Nodup->∀{z:Cp},z∈L->(AK L (z.num:Int)).length+1=L.length
 | [],_,z,hz=>by cases hz
 |y::l,nd,z,hz=>by
  rw[bW,eM]at nd;unfold AK;rw[bZ];rcases bJ.1 hz with rfl|hz
  .rw[ae bO,cd.2 (λx H=> ?_),aV];have:x.num≠z.num:=λe=>nd.1 (by rw[<-e];exact bw H)
   simp;omega
  .have c:y.num≠z.num:=λe=>nd.1 (by rw[e];exact bw hz)
   rw[ag (by simp;omega),aV,aV];have:=uv nd.2 hz;unfold AK at this;omega
theorem q7.add(ok:q7 s)(x:Ev)(d:cH)(bV:Nat):q7 (jw s x d bV):=by
 unfold jw;by_cases H:iK s x d bV=0
 .rw[ag H];have hd:d.length<=600:=by
   unfold iK at H;split at H
   .rename_i f;unfold xE at f;simp only[aR,aY]at f;exact f.2.2.2.1
   .cases H
  refine⟨λz hz=> ?_,λz hz=> ?_,λe=> ?_,λe=> ?_,?_⟩
  .rcases bN.1 hz with hz|hz
   .have:=ok.bd z hz;exact⟨this.1,Nat.lt_succ_of_lt this.2.1,this.2.2⟩
   .obtain rfl:=bK.1 hz;exact⟨by have:=ok.vE;show 1<=s.next;omega,Nat.lt_succ_self _,hd⟩
  .rcases bN.1 hz with hz|hz
   .exact ok.sp z hz
   .obtain rfl:=bK.1 hz;exact dL _
  .show e∈yT s.E1 _ _↔ ∃z∈s.L++ [_],_;rw[Ez,ok.e1];constructor
   .rintro(rfl|⟨⟨z,hz,rfl⟩,_⟩)
    .exact⟨_,bN.2 (.inr (bK.2 rfl)),rfl⟩
    .exact⟨z,bN.2 (.inl hz),rfl⟩
   .rintro⟨z,hz,rfl⟩;rcases bN.1 hz with hz|hz
    .exact .inr ⟨⟨z,hz,rfl⟩,by have:=(ok.bd z hz).2.1;show(z.num:Int)≠_;omega⟩
    .obtain rfl:=bK.1 hz;exact .inl rfl
  .show e∈s.E2↔ ∃z∈s.L++ [_],_;rw[ok.e2];constructor
   .rintro⟨z,hz,c⟩;exact⟨z,bN.2 (.inl hz),c⟩
   .rintro⟨z,hz,c⟩;rcases bN.1 hz with hz|hz
    .exact⟨z,hz,c⟩
    .obtain rfl:=bK.1 hz;exact absurd rfl c.1
  .have:=ok.vE;show s.next+1=1+(s.L++ [_]).length+s.dx+s.over+s.gone;rw[av,dy];omega
 .rw[ae H];exact ok
theorem q7.rem(ok:q7 s)(O:Ord s)(l:z∈s.L)(c:s'.L=AK s.L (z.num:Int))(i:s'.E1=fD s.E1 (z.num:Int))(j:s'.E2=fD s.E2 (z.num:Int))(g:s'.next=s.next)(m:s'.dx+s'.over+s'.gone=s.dx+s.over+s.gone+1):q7 s':=by
 refine⟨λy H=> ?_,λy H=> ?_,λe=> ?_,λe=> ?_,?_⟩
 .rw[c,mr]at H;rw[g];exact ok.bd y H.1
 .rw[c,mr]at H;exact ok.sp y H.1
 .rw[i,re,ok.e1,c];constructor
  .rintro⟨⟨y,H,rfl⟩,d⟩;exact⟨y,mr.2 ⟨H,d⟩,rfl⟩
  .rintro⟨y,H,rfl⟩;have:=mr.1 H;exact⟨⟨y,this.1,rfl⟩,this.2⟩
 .rw[j,re,ok.e2,c];constructor
  .rintro⟨⟨y,H,f,rfl⟩,d⟩;exact⟨y,mr.2 ⟨H,d⟩,f,rfl⟩
  .rintro⟨y,H,f,rfl⟩;have:=mr.1 H;exact⟨⟨y,this.1,f,rfl⟩,this.2⟩
 .have:=uv O.nd l;have:=ok.vE;rw[g,c];omega
theorem EA(h:km L k ses=0): ∃z∈L,(z.num:Int)=k/\z.ses=ses/\ses≠0:=by
 unfold km at h;cases c:xD L k with
 |none=>rw[c]at h;cases h
 |some z=>
  rw[c]at h;dsimp only at h;split at h
  .cases h
  .rename_i H;obtain⟨d,f⟩:=vT c;refine⟨z,d,f,?_,?_⟩<;>(simp only[not_or,Decidable.not_not]at H)
   .exact H.2
   .rw[<-H.2];exact H.1
theorem q7.PE(ok:q7 s)(O:Ord s)(k ses:Int):q7 (pA s k ses):=by
 unfold pA;by_cases H:km s.L k ses=0
 .rw[ag H];obtain⟨z,c,rfl,_,_⟩:=EA H;exact ok.rem O c rfl rfl rfl rfl (by show s.dx+1+s.over+s.gone=_;omega)
 .rw[ae H];exact ok
theorem q7.set(ok:q7 s)(O:Ord s)(p:z∈s.L)(o:0<=a)(f:s'.L=nW s.L z.num a b)(i:s'.E1=s.E1)(j: ∀e,e∈s'.E2↔(a≠0/\e=((z.num:Int),(b:Int)))\/(e∈s.E2/\e.1≠(z.num:Int)))(g:s'.next=s.next)(q:s'.dx+s'.over+s'.gone=s.dx+s.over+s.gone):q7 s':=by
 refine⟨λy H=> ?_,λy H=> ?_,λe=> ?_,λe=> ?_,?_⟩
 .rw[f,mv]at H;obtain⟨u,c,rfl⟩:=H;rw[g];have:=ok.bd u c;split<;>exact this
 .rw[f,mv]at H;obtain⟨u,c,rfl⟩:=H;split
  .exact o
  .exact ok.sp u c
 .rw[i,ok.e1,f];constructor
  .rintro⟨y,H,rfl⟩;refine⟨_,mv.2 ⟨y,H,rfl⟩,?_⟩;split<;>rfl
  .rintro⟨y,H,rfl⟩;obtain⟨u,c,rfl⟩:=mv.1 H;refine⟨u,c,?_⟩;split<;>rfl
 .rw[j,ok.e2,f];constructor
  .rintro(⟨l,rfl⟩|⟨⟨y,H,d,rfl⟩,m⟩)
   .refine⟨_,mv.2 ⟨z,p,rfl⟩,?_⟩;rw[ag rfl];exact⟨l,rfl⟩
   .refine⟨_,mv.2 ⟨y,H,rfl⟩,?_⟩;rw[ae (λe=>m (by rw[e]))];exact⟨d,rfl⟩
  .rintro⟨y,H,d,rfl⟩;obtain⟨u,c,rfl⟩:=mv.1 H;by_cases e:u.num=z.num
   .rw[ag e]at d⊢;exact .inl ⟨d,by rw[<-e]⟩
   .rw[ae e]at d⊢;exact .inr ⟨⟨u,c,d,rfl⟩,by show(u.num:Int)≠_;omega⟩
 .have:=ok.vE;rw[g,f,Mr];omega
theorem q7.rel(ok:q7 s)(O:Ord s)(k ses:Int):q7 (zA s k ses):=by
 unfold zA;by_cases H:km s.L k ses=0
 .rw[ag H];obtain⟨z,c,rfl,_,_⟩:=EA H;rw[aD];refine ok.set O c (dL 0) rfl rfl (λe=> ?_) rfl rfl;show e∈fD _ _↔_;rw[re];simp
 .rw[ae H];exact ok
theorem GI{x:Ev}(h:kX L x=some z):z∈L/\z.e=x/\z.ses=0:=by
 unfold kX kN at h;have H:=List.mem_of_find?_eq_some h;have c:=List.find?_some h;rw[ba]at H;exact⟨H.1,cy H.2,by simpa using c⟩
theorem q7.BF(ok:q7 s)(O:Ord s)(c:z∈s.L){dl:Nat}(H:sR ses dl):q7 (qC s z ses dl):=by
 have d:=H.1;refine ok.set O c af rfl rfl (λe=> ?_) rfl rfl;show e∈yT _ _ _↔_;rw[Ez];have:ses≠0:=af
 simp[this]
theorem fT: ∀{L:List E},iW L->bU.due L now=L.filter (iZ now)/\bU.rest L now=L.filter (λe=> !iZ now e)
 | [],_=>⟨rfl,rfl⟩
 |e::r,g=>by
  have f:=dK.1 g;obtain⟨i1,i2⟩:=fT (L:=r) f.2;unfold bU.due at i1⊢;unfold bU.rest at i2⊢;by_cases d:iZ now e=true
  .rw[List.takeWhile_cons,List.dropWhile_cons,bZ,bZ,d];simp only[bf,cV,aq,aJ];rw[i1,i2];exact⟨rfl,rfl⟩
  .have c:iZ now e=false:=by simpa using d
   have all: ∀x∈r,iZ now x=false:=by
    intro x H;have h1:=f.1 x H;unfold iZ at c⊢;have i:=fC c;apply az
    rcases h1 with h1|h1<;>omega
   rw[List.takeWhile_cons,List.dropWhile_cons,bZ,bZ,c];simp only[aq,aJ,ee,bf];refine⟨?_,?_⟩
   .symm;rw[List.filter_eq_nil_iff];intro x H;rw[all x H];simp
   .congr 1;symm;rw[cd];intro x H;rw[all x H];rfl
def sS(L:List Cp)(K:List Int):List Cp:=L.filter (λz=> !decide ((z.num:Int)∈K))
def nY(L:List E)(K:List Int):List E:=L.filter (λe=> !decide (e.1∈K))
theorem zD(L:List Cp):sS L []=L:=by unfold sS;exact cd.2 (λ_ _=>bO)
theorem qD(L:List E):nY L []=L:=by unfold nY;exact cd.2 (λ_ _=>bO)
theorem vV(L:List Cp)(k:Int)(K:List Int):sS (AK L k) K=sS L (k::K):=by
 unfold sS AK;rw[List.filter_filter];apply dS
 intro x _;by_cases H:(x.num:Int)=k
 .simp[H]
 .by_cases c:(x.num:Int)∈K<;>simp[H,c]
theorem nZ(L:List E)(k:Int)(K:List Int):nY (fD L k) K=nY L (k::K):=by
 unfold nY fD;rw[List.filter_filter];apply dS
 intro x _;by_cases H:x.1=k
 .simp[H]
 .by_cases c:x.1∈K<;>simp[H,c]
theorem BM: ∀(K:List Int)(s:CF),K.foldl jJ s= { s with L:=sS s.L K,E1:=nY s.E1 K,E2:=nY s.E2 K,over:=s.over+K.length }
 | [],s=>by rw[zD,qD,qD];rfl
 |k::K,s=>by
  rw[List.foldl_cons,BM K];unfold jJ CR;dsimp only;rw[vV,nZ,nZ,aV];congr 1;omega
theorem vW: ∀(K:List Int)(s:CF),K.foldl mW s= { s with L:=sS s.L K,E1:=nY s.E1 K,E2:=nY s.E2 K,gone:=s.gone+K.length }
 | [],s=>by rw[zD,qD,qD];rfl
 |k::K,s=>by
  rw[List.foldl_cons,vW K];unfold mW CR;dsimp only;rw[vV,nZ,nZ,aV];congr 1;omega
def mw(L:List Cp)(K:List Int):List Cp:=L.map (λz=>if(z.num:Int)∈K then { z with ses:=0,dl:=0 } else z)
theorem BN: ∀(K:List Int)(s:CF),(∀k∈K,0<=k)->K.foldl (λs k=>pc s k.toNat) s= { s with L:=mw s.L K,E2:=nY s.E2 K }
 | [],s,_=>by
  rw[qD];have:mw s.L []=s.L:=by unfold mw;simp
  rw[this];rfl
 |k::K,s,f=>by
  rw[List.foldl_cons,BN K _ (λj g=>f j (cp _ g))];have hk:=f k bO;unfold pc;dsimp only;have e:((k.toNat:Nat):Int)=k:=af
  rw[e,nZ];have:mw (nW s.L k.toNat 0 0) K=mw s.L (k::K):=by
   unfold mw nW;rw[dB];apply dN
   intro x _;show(λz:Cp=>if(z.num:Int)∈K then({ z with ses:=0,dl:=0 } :Cp)else z) (if x.num=k.toNat then({ x with ses:=0,dl:=0 } :Cp)else x)=_;by_cases d:x.num=k.toNat
   .have c:(x.num:Int)=k:=af
    rw[ag d,ag (show(x.num:Int)∈k::K by rw[c];simp)];dsimp only;split<;>rfl
   .have c:(x.num:Int)≠k:=af
    rw[ae d];dsimp only;by_cases H:(x.num:Int)∈K
    .rw[ag H,ag (cp _ H)]
    .rw[ae H,ae (by simp[c,H])]
  rw[this]
theorem Io: ∀(K:List Int)(L:List Cp),(L.map Cp.num).Nodup->K.Nodup->(∀k∈K,∃z∈L,(z.num:Int)=k)->(sS L K).length+K.length=L.length
 | [],L,_,_,_=>by rw[zD];rfl
 |k::K,L,nd,f,hk=>by
  obtain⟨z,d,rfl⟩:=hk k bO;rw[<-vV,aV];have g:=uv nd d;have N:=eM.1 f;have i:=Io K (AK L (z.num:Int)) (eZ (fy _ cJ) nd) N.2 (λj H=>by
   obtain⟨y,c,e⟩:=hk j (cp _ H);exact⟨y,mr.2 ⟨c,λe2=>N.1 (by rw[<-e2,e];exact H)⟩,e⟩)
  omega
theorem my :z∈sS L K↔z∈L/\(z.num:Int)∉K:=by unfold sS;simp[ba]
theorem zE{L:List E}:e∈nY L K↔e∈L/\e.1∉K:=by unfold nY;simp[ba]
theorem JV :z∈mw L K↔ ∃y∈L,z=if(y.num:Int)∈K then { y with ses:=0,dl:=0 } else y:=by
 unfold mw;rw[bg];exact⟨λ⟨y,H,c⟩=>⟨y,H,c.symm⟩,λ⟨y,H,c⟩=>⟨y,H,c.symm⟩⟩
theorem Ms(O:Ord s)(x:Ev):((kN s.L x).map (λz=>(z.num:Int))).Nodup:=by
 have:((kN s.L x).map Cp.num).Nodup:=eZ (fy _ cJ) O.nd;have e:(kN s.L x).map (λz=>(z.num:Int))=((kN s.L x).map Cp.num).map (λn:Nat=>(n:Int)):=by rw[dB];rfl
 rw[e];exact List.Pairwise.map _ (λa b h=>af) this
theorem q7.outs(ok:q7 s)(O:Ord s)(N:K.Nodup)(hk: ∀k∈K,∃z∈s.L,(z.num:Int)=k)(c:s'.L=sS s.L K)(i:s'.E1=nY s.E1 K)(j:s'.E2=nY s.E2 K)(g:s'.next=s.next)(l:s'.dx+s'.over+s'.gone=s.dx+s.over+s.gone+K.length):q7 s':=by
 refine⟨λy H=> ?_,λy H=> ?_,λe=> ?_,λe=> ?_,?_⟩
 .rw[c,my]at H;rw[g];exact ok.bd y H.1
 .rw[c,my]at H;exact ok.sp y H.1
 .rw[i,zE,ok.e1,c];constructor
  .rintro⟨⟨y,H,rfl⟩,d⟩;exact⟨y,my.2 ⟨H,d⟩,rfl⟩
  .rintro⟨y,H,rfl⟩;have:=my.1 H;exact⟨⟨y,this.1,rfl⟩,this.2⟩
 .rw[j,zE,ok.e2,c];constructor
  .rintro⟨⟨y,H,f,rfl⟩,d⟩;exact⟨y,my.2 ⟨H,d⟩,f,rfl⟩
  .rintro⟨y,H,f,rfl⟩;have:=my.1 H;exact⟨⟨y,this.1,f,rfl⟩,this.2⟩
 .have:=Io K s.L O.nd N hk;have:=ok.vE;rw[g,c];omega
theorem q7.drop(ok:q7 s)(O:Ord s)(x:Ev):q7 (uM s x):=by
 unfold uM;rw[vW];refine ok.outs O (Ms O x) (λk hk=> ?_) rfl rfl rfl rfl (by show s.dx+s.over+(s.gone+_)=_;omega);obtain⟨z,H,e⟩:=bg.1 hk;exact⟨z,(ba.1 H).1,e⟩
theorem CS(O:Ord s):e∈bU.due s.E1 now↔e∈s.E1/\e.2<=now:=by
 rw[(fT O.o1).1,ba];unfold iZ;simp
theorem JW(O:Ord s)(now:Int):(keys (bU.due s.E1 now)).Nodup:=by
 unfold keys;exact eZ (fy _ (List.takeWhile_sublist _)) O.n1
theorem CT(ok:q7 s)(O:Ord s)(H:z∈s.L):(z.num:Int)∈keys (bU.due s.E1 now)↔(z.bV:Int)<=now:=by
 unfold keys;rw[bg];constructor
 .rintro⟨e,f,e1⟩;obtain⟨c,d⟩:=(CS O).1 f;obtain⟨y,g,rfl⟩:=(ok.e1 e).1 c;obtain rfl:=O.inj g H (Int.ofNat.inj e1);exact d
 .intro h;exact⟨(z.num,z.bV),(CS O).2 ⟨(ok.e1 _).2 ⟨z,H,rfl⟩,h⟩,rfl⟩
theorem Qh(ok:q7 s)(O:Ord s)(hk:k∈keys (bU.due s.E1 now)): ∃z∈s.L,(z.num:Int)=k:=by
 unfold keys at hk;obtain⟨e,H,rfl⟩:=bg.1 hk;obtain⟨z,c,rfl⟩:=(ok.e1 e).1 ((CS O).1 H).1;exact⟨z,c,rfl⟩
theorem JX(O:Ord s):nY (bU.rest s.E1 now) (keys (bU.due s.E1 now))=nY s.E1 (keys (bU.due s.E1 now)):=by
 rw[(fT O.o1).1,(fT O.o1).2];unfold nY keys;rw[List.filter_filter];apply dS
 intro e H;by_cases hd:iZ now e=true
 .have:e.1∈(s.E1.filter (iZ now)).map (·.1):=bw (ba.2 ⟨H,hd⟩);simp only[this,bu,cV,eY]
 .simp[hd]
def kK(now:Int)(z:Cp):Cp:=if z.ses≠0/\(z.dl:Int)<=now then { z with ses:=0,dl:=0 } else z
def Mt(s:CF)(now:Int):CF:= { L:=sS s.L (keys (bU.due s.E1 now)),next:=s.next,dx:=s.dx,over:=s.over+(keys (bU.due s.E1 now)).length,gone:=s.gone,E1:=nY s.E1 (keys (bU.due s.E1 now)),E2:=nY s.E2 (keys (bU.due s.E1 now)) }
def Mu(s1:CF)(now:Int):CF:=(keys (bU.due s1.E2 now)).foldl (λs k=>pc s k.toNat) { s1 with E2:=bU.rest s1.E2 now }
theorem Mv(O:Ord s):jo s now=Mu (Mt s now) now:=by
 unfold jo Mu Mt;dsimp only;rw[BM];dsimp only;rw[JX O]
theorem JY(ok:q7 s)(O:Ord s)(now:Int):q7 (jo s now)/\(∀z,z∈(jo s now).L↔ ∃y∈s.L,now<(y.bV:Int)/\z=kK now y)/\(jo s now).next=s.next/\(jo s now).E1.length<=s.E1.length/\(jo s now).E2.length<=s.E2.length/\(jo s now).L=(s.L.filter (λy=>decide (now<(y.bV:Int)))).map (kK now)/\(jo s now).dx=s.dx/\(jo s now).over=s.over+(bU.due s.E1 now).length/\(jo s now).gone=s.gone:=by
 rw[Mv O];generalize g:Mt s now=s1;have o:q7 s1:=by
  subst g;exact ok.outs O (JW O now) (λk hk=>Qh ok O hk) rfl rfl rfl rfl (by show s.dx+(s.over+_)+s.gone=_;omega)
 have j:Ord s1:=by
  subst g;exact⟨eZ (fy _ cJ) O.nd,fF _ O.o1,fF _ O.o2,eZ (fy _ cJ) O.n1,eZ (fy _ cJ) O.n2⟩
 have M: ∀z,z∈s1.L↔z∈s.L/\now<(z.bV:Int):=λz=>by
  subst g;show z∈sS _ _↔_;rw[my];constructor
  .rintro⟨d,i⟩;exact⟨d,Int.not_le.1 (λe=>i ((CT ok O d).2 e))⟩
  .rintro⟨d,i⟩;exact⟨d,λe=>absurd ((CT ok O d).1 e) (Int.not_le.2 i)⟩
 have n1:s1.next=s.next:=by subst g;rfl
 have l1:s1.E1.length<=s.E1.length:=by subst g;exact cr _ _
 have l2:s1.E2.length<=s.E2.length:=by subst g;exact cr _ _
 have c1:s1.dx=s.dx/\s1.over=s.over+(bU.due s.E1 now).length/\s1.gone=s.gone:=by subst g;exact⟨rfl,by show s.over+(keys _).length=_;unfold keys;rw[aF],rfl⟩
 have r:s1.L=s.L.filter (λy=>decide (now<(y.bV:Int))):=by
  subst g;show sS _ _=_;unfold sS;refine dS λz c=> ?_
  have:=CT (now:=now) ok O c;by_cases hd:(z.bV:Int)<=now
  .rw[au (this.2 hd),az (Int.not_lt.2 hd)];rfl
  .rw[az (λe=>hd (this.1 e)),au (Int.not_le.1 hd)];rfl
 clear g;have l: ∀e,e∈bU.due s1.E2 now↔e∈s1.E2/\e.2<=now:=λe=>by
  rw[(fT j.o2).1,ba];unfold iZ;simp
 have D: ∀z∈s1.L,((z.num:Int)∈keys (bU.due s1.E2 now)↔z.ses≠0/\(z.dl:Int)<=now):=λz c=>by
  unfold keys;rw[bg];constructor
  .rintro⟨e,p,e1⟩;obtain⟨d,i⟩:=(l e).1 p;obtain⟨y,H,f,rfl⟩:=(o.e2 e).1 d;obtain rfl:=j.inj H c (Int.ofNat.inj e1);exact⟨f,i⟩
  .rintro⟨d,i⟩;exact⟨(z.num,z.dl),(l _).2 ⟨(o.e2 _).2 ⟨z,c,d,rfl⟩,i⟩,rfl⟩
 have u: ∀k∈keys (bU.due s1.E2 now),0<=k:=λk hk=>by
  unfold keys at hk;obtain⟨e,p,rfl⟩:=bg.1 hk;obtain⟨z,c,_,rfl⟩:=(o.e2 e).1 ((l e).1 p).1;show(0:Int)<=(z.num:Int);omega
 unfold Mu;rw[BN _ _ u];have m: ∀z∈s1.L,(if(z.num:Int)∈keys (bU.due s1.E2 now)then({ z with ses:=0,dl:=0 } :Cp)else z)=kK now z:=λz c=>by
  unfold kK;by_cases hd:z.ses≠0/\(z.dl:Int)<=now
  .rw[ag hd,ag ((D z c).2 hd)]
  .rw[ae hd,ae (λe=>hd ((D z c).1 e))]
 have fm: ∀z,z∈mw s1.L (keys (bU.due s1.E2 now))↔ ∃y∈s1.L,z=kK now y:=λz=>by
  rw[JV];constructor
  .rintro⟨y,H,rfl⟩;exact⟨y,H,m y H⟩
  .rintro⟨y,H,rfl⟩;exact⟨y,H,(m y H).symm⟩
 have F: ∀y,(kK now y).num=y.num:=λy=>by unfold kK;split<;>rfl
 have q: ∀y,(kK now y).bV=y.bV:=λy=>by unfold kK;split<;>rfl
 have v: ∀y,(kK now y).d=y.d:=λy=>by unfold kK;split<;>rfl
 refine⟨⟨λz c=> ?_,λz c=> ?_,λe=> ?_,λe=> ?_,?_⟩,λz=> ?_,n1,l1,?_,?_,c1⟩
 .obtain⟨y,H,rfl⟩:=(fm z).1 c;rw[F,v];exact o.bd y H
 .obtain⟨y,H,rfl⟩:=(fm z).1 c;unfold kK;split
  .exact dL _
  .exact o.sp y H
 .show e∈s1.E1↔ ∃z∈mw _ _,_;rw[o.e1];constructor
  .rintro⟨y,H,rfl⟩;exact⟨_,(fm _).2 ⟨y,H,rfl⟩,by rw[F,q]⟩
  .rintro⟨z,c,rfl⟩;obtain⟨y,H,rfl⟩:=(fm z).1 c;exact⟨y,H,by rw[F,q]⟩
 .show e∈nY (bU.rest s1.E2 now) _↔ ∃z∈mw _ _,_;rw[zE,(fT j.o2).2,ba];constructor
  .rintro⟨⟨d,i⟩,w⟩;obtain⟨y,H,f,rfl⟩:=(o.e2 e).1 d;have hd: ¬(y.ses≠0/\(y.dl:Int)<=now):=λhd=>w ((D y H).2 hd)
   refine⟨_,(fm _).2 ⟨y,H,rfl⟩,?_⟩;unfold kK;rw[ae hd];exact⟨f,rfl⟩
  .rintro⟨z,c,f,rfl⟩;obtain⟨y,H,rfl⟩:=(fm z).1 c;unfold kK at f⊢;by_cases hd:y.ses≠0/\(y.dl:Int)<=now
   .rw[ag hd]at f;exact absurd rfl f
   .rw[ae hd]at f⊢;refine⟨⟨(o.e2 _).2 ⟨y,H,f,rfl⟩,?_⟩,λhk=>hd ((D y H).1 hk)⟩;have: ¬(y.dl:Int)<=now:=λe=>hd ⟨f,e⟩
    unfold iZ;simpa using this
 .have:=o.vE;show s1.next=1+(mw _ _).length+_+_+_;unfold mw;rw[aF];exact this
 .show z∈mw _ _↔_;rw[fm];constructor
  .rintro⟨y,H,rfl⟩;have:=(M y).1 H;exact⟨y,this.1,this.2,rfl⟩
  .rintro⟨y,H,x,rfl⟩;exact⟨y,(M y).2 ⟨H,x⟩,rfl⟩
 .refine cM (cr _ _) (cM (zC _ _) l2)
 .show mw _ _=_;rw[<-r];exact dN m

end fU
end
section
variable {h:aj} {R:fj}
variable {x:Bool} {X a:Int} {c d:ByteArray}
theorem Mw.walk (j:aQ h (.cells #[.bool x,.U X,.U a,.string c,.string d] 29) λb e=>aw.LD e (AA b 0) λn o p q r=>Cl 86 #[.agg #[.bool n,.U o,.U p,.string q,.string r]] e λv H=> ∃t6,v=.bool t6/\if(!t6)then R (.tuple #[.string gV,.I 3]) H else aw.LD H (AA b 0) λs u w y z=> ∃(eq:Bool),xO Tryz.prog 29 (.agg #[.bool s,.U u,.U w,.string y,.string z]) (.agg #[.bool false,.U 0,.U 0,.string gV,.string gV]) eq/\if eq then R (.tuple #[.string (⟨#[100,116,110,58,110,111,110,101]⟩:ByteArray),.I 0]) H else∃t14,Cc H b 0 (.bool t14)/\if t14 then Hu H b 1 λt16=>Hu H b 2 λt21=>Cl 135 #[.U t16,.I 10] H λV f=> ∃t17,V=.string t17/\Cc f b 2 (.U t21)/\(((⟨#[105,112,110,58]⟩:ByteArray).size+t17.size:Nat):Int)<=IntKind.max .i64/\((((⟨#[105,112,110,58]⟩:ByteArray)++t17).size+(⟨#[46]⟩:ByteArray).size:Nat):Int)<=IntKind.max .i64/\Cl 135 #[.U t21,.I 10] f λA g=> ∃t22,A=.string t22/\(((((⟨#[105,112,110,58]⟩:ByteArray)++t17)++(⟨#[46]⟩:ByteArray)).size+t22.size:Nat):Int)<=IntKind.max .i64/\R (.tuple #[.string ((((⟨#[105,112,110,58]⟩:ByteArray)++t17)++(⟨#[46]⟩:ByteArray))++t22),.I 0]) g else aw.LD H (AA b 0) λt T k l m=>Cl 136 #[.agg #[.bool t,.U T,.U k,.string l,.string m]] H λB i=> ∃t25,B=.string t25/\(((⟨#[100,116,110,58]⟩:ByteArray).size+t25.size:Nat):Int)<=IntKind.max .i64/\R (.tuple #[.string ((⟨#[100,116,110,58]⟩:ByteArray)++t25),.I 0]) i):Cl 75 #[.agg #[.bool x,.U X,.U a,.string c,.string d]] h R:=aN (lq (sq (bq (lq (cq ll (lq (cq ll (lq (cq (sq (.gY (.op 0 (.op 1 (.op 5 (.op 6 (.op 2 (.op 3 (.op 4 (.op 7 (.op 8 (.op 9 (.op 10 .done)))))))))))) lf) lf))))))) ll)) Tryz.func75 j
theorem My.walk (e:aQ h (.cells #[.bool x,.U X,.U a,.string c,.string d] 29) λb H=>Hs H b 3 λt4=>(((⟨#[47,47]⟩:ByteArray).size+t4.size:Nat):Int)<=IntKind.max .i64/\((((⟨#[47,47]⟩:ByteArray)++t4).size+(⟨#[47]⟩:ByteArray).size:Nat):Int)<=IntKind.max .i64/\Hs H b 4 λt8=>(((((⟨#[47,47]⟩:ByteArray)++t4)++(⟨#[47]⟩:ByteArray)).size+t8.size:Nat):Int)<=IntKind.max .i64/\R (.string ((((⟨#[47,47]⟩:ByteArray)++t4)++(⟨#[47]⟩:ByteArray))++t8)) H):Cl 136 #[.agg #[.bool x,.U X,.U a,.string c,.string d]] h R:=aN (lq ll) Tryz.func136 e

end
section
namespace iT
variable {h:aj} {R:fj}
theorem jn(a b:cH):str a++str b=str (a++b):=by
 unfold str;apply ByteArray.ext
 rw[ByteArray.data_append];simp
theorem hI(a:cH):(str a).size=a.length:=by unfold str;rfl
theorem uO(s:ByteArray):s=str s.data.toList:=(Lm s).symm
theorem kf(s:ByteArray):s.data.toList.length=s.size:=by rw[et];rfl
theorem Qi:IntKind.max .i64=9223372036854775807:=rfl
theorem Ip(x:Ev)(c:x.host.size<=1000)(d:x.jd.size<=1000)(hk: gU h R (.string (str ([47,47]++x.host.data.toList++ [47]++x.jd.data.toList)))):Cl 136 #[kj x] h R:=by
 refine My.walk (aw.box λb a e H f3=>⟨_,ak H,?_⟩);have e1:(⟨#[47,47]⟩:ByteArray)=str [47,47]:=rfl;have e2:(⟨#[47]⟩:ByteArray)=str [47]:=rfl;have l1:=kf x.host;have l2:=kf x.jd;have K:=hk a f3;rw[e1,e2,Qi];refine⟨?_,?_,_,ak H,?_,?_⟩
 .rw[hI];simp;omega
 .rw[uO x.host,jn,hI,hI];simp;omega
 .rw[uO x.host,jn,jn,hI];simp;omega
 .rw[uO x.host,uO x.jd,jn,jn,jn];exact K

end iT
end
end Go.Proofs.YtlenamcfacpheaaGreatDoor
namespace Go.Proofs
open Go.Den
open IntKind (wrap)
open Int (toNat)
section
open Go.Shelf
def Tryz.EB:Go.Shelf.Ren:=⟨fun|284=>234|129=>223|317=>276|318=>277|n=>n,fun|53=>27|3=>3|212=>374|0=>0|4=>4|46=>211|5=>5|9=>9|n=>n,fun|17=>0|n=>n⟩
theorem Tryz.OG : Go.Proofs.LaysM.n284 Tryz.prog Tryz.EB := {
  mixed := by kernel_rfl
  f129 := Tryz.func223.trans (congrArg some (by kernel_rfl))
  f284 := Tryz.func234.trans (congrArg some (by kernel_rfl))
  f317 := Tryz.func276.trans (congrArg some (by kernel_rfl))
  f318 := Tryz.func277.trans (congrArg some (by kernel_rfl))
  t0 := Tryz.underlying0
  a0 := Tryz.isAgg0
  z0 := Tryz.sizeOf0
  v0 := Tryz.zeroValue0
  t3 := Tryz.underlying3
  a3 := Tryz.isAgg3
  z3 := Tryz.sizeOf3
  v3 := Tryz.zeroValue3
  t4 := Tryz.underlying4
  a4 := Tryz.isAgg4
  z4 := Tryz.sizeOf4
  v4 := Tryz.zeroValue4
  t5 := Tryz.underlying5
  a5 := Tryz.isAgg5
  z5 := Tryz.sizeOf5
  v5 := Tryz.zeroValue5
  t9 := Tryz.underlying9
  a9 := Tryz.isAgg9
  z9 := Tryz.sizeOf9
  v9 := Tryz.zeroValue9
  t46 := Tryz.underlying211
  a46 := Tryz.isAgg211
  z46 := Tryz.sizeOf211
  v46 := Tryz.zeroValue211
  t53 := Tryz.underlying27
  a53 := Tryz.isAgg27
  z53 := Tryz.sizeOf27
  v53 := Tryz.zeroValue27
  t212 := Tryz.underlying374
  a212 := Tryz.isAgg374
  z212 := Tryz.sizeOf374
  v212 := Tryz.zeroValue374
  g17 := by kernel_rfl
  i0 := by kernel_rfl
  i3 := by kernel_rfl
  i4 := by kernel_rfl
  i5 := by kernel_rfl
  i9 := by kernel_rfl
  i46 := by kernel_rfl
  i53 := by kernel_rfl
  i212 := by kernel_rfl
  m17 := by kernel_rfl }
def Tryz.EC:Go.Shelf.Ren:=⟨fun|285=>235|n=>n,fun|37=>22|53=>27|3=>3|4=>4|51=>315|9=>9|5=>5|0=>0|n=>n,fun|n=>n⟩
theorem Tryz.OH : Go.Proofs.Lays.n285 Tryz.prog Tryz.EC := {
  mixed := by kernel_rfl
  f285 := Tryz.func235.trans (congrArg some (by kernel_rfl))
  t0 := Tryz.underlying0
  a0 := Tryz.isAgg0
  z0 := Tryz.sizeOf0
  v0 := Tryz.zeroValue0
  t3 := Tryz.underlying3
  a3 := Tryz.isAgg3
  z3 := Tryz.sizeOf3
  v3 := Tryz.zeroValue3
  t4 := Tryz.underlying4
  a4 := Tryz.isAgg4
  z4 := Tryz.sizeOf4
  v4 := Tryz.zeroValue4
  t5 := Tryz.underlying5
  a5 := Tryz.isAgg5
  z5 := Tryz.sizeOf5
  v5 := Tryz.zeroValue5
  t9 := Tryz.underlying9
  a9 := Tryz.isAgg9
  z9 := Tryz.sizeOf9
  v9 := Tryz.zeroValue9
  t37 := Tryz.underlying22
  a37 := Tryz.isAgg22
  z37 := Tryz.sizeOf22
  v37 := Tryz.zeroValue22
  t51 := Tryz.underlying315
  a51 := Tryz.isAgg315
  z51 := Tryz.sizeOf315
  v51 := Tryz.zeroValue315
  t53 := Tryz.underlying27
  a53 := Tryz.isAgg27
  z53 := Tryz.sizeOf27
  v53 := Tryz.zeroValue27 }
def Tryz.ED:Go.Shelf.Ren:=⟨fun|283=>233|n=>n,fun|3=>3|9=>9|4=>4|n=>n,fun|n=>n⟩
theorem Tryz.OI : Go.Proofs.Lays.n283 Tryz.prog Tryz.ED := {
  mixed := by kernel_rfl
  f283 := Tryz.func233.trans (congrArg some (by kernel_rfl))
  t3 := Tryz.underlying3
  a3 := Tryz.isAgg3
  z3 := Tryz.sizeOf3
  v3 := Tryz.zeroValue3
  t4 := Tryz.underlying4
  a4 := Tryz.isAgg4
  z4 := Tryz.sizeOf4
  v4 := Tryz.zeroValue4
  t9 := Tryz.underlying9
  a9 := Tryz.isAgg9
  z9 := Tryz.sizeOf9
  v9 := Tryz.zeroValue9 }

end
end Go.Proofs
namespace Go.Proofs.YtlenamcfacpheaaGreatDoor
open Go.Den
open IntKind (wrap)
open Int (toNat)
section
namespace mD
variable {h h':aj} {R:fj}
def nE(h:aj):Prop:= ∃t f,h[(0:Nat)]? =some (.cells (Lib.pow10Tab.map λz=>Value.int .u64 z).toArray t f)
theorem nE.frame{S:Nat->Prop}(T:nE h)(f:Fr S h h')(a: ∀c,c<h.size->¬S c):nE h':=by
 obtain⟨t,fr,H⟩:=T;exact⟨t,fr,f.get H (a _ (aC H))⟩
theorem nE.on(T:nE h)(f:Fr No h h'):nE h':=T.frame f cu
theorem nE.is{w:World}{s:String}(a:Tryz.prog.globalNamed s=some 0)(T:nE w.heap):Lib.TabIs Tryz.prog w s .u64 Lib.pow10Tab:=by
 obtain⟨t,fr,H⟩:=T;unfold Lib.TabIs World.var?;rw[a];show(match w.heap[(0:Nat)]? with|some (.cells cs _ _)=>some cs|_=>none)=_;rw[H]
theorem Mz{i:Nat}(b:i<100)(hk:R (.string ⟨(Lib.decDigits i).toArray⟩) h):Cl 233 #[.I i] h R:=λw c=>
 (Any.internal_strconv_small Tryz.OI i b w).mono λe w' ⟨a,H⟩=>⟨_,a,by rw[H,c];exact hk,by rw[H];exact fu.refl _⟩
theorem JZ{u:Nat}(T:nE h)(b:1<=u)(c:u<18446744073709551616)(hk:R (.I (Lib.nDigits u)) h):Cl 234 #[.U u] h R:=λw H=>
 (Any.internal_strconv_numDigits Tryz.OG u b c w (by rw[<-H]at T;exact T.is cU)).mono λe w' ⟨d,a⟩=>⟨_,d,by rw[a,H];exact hk,by rw[a];exact fu.refl _⟩

end mD
end
section
variable {h:aj} {R:fj}
variable {i B:Int}
theorem lL.walk(f:if(B==10)then if(decide (i<100))then Cl 233 #[.I (wrap .i64 i)] h λv a=> ∃t15,v=.string t15/\R (.string t15) a else aQ h (.cells #[.int .u8 0,.int .u8 0,.int .u8 0,.int .u8 0,.int .u8 0,.int .u8 0,.int .u8 0,.int .u8 0,.int .u8 0,.int .u8 0,.int .u8 0,.int .u8 0,.int .u8 0,.int .u8 0,.int .u8 0,.int .u8 0,.int .u8 0,.int .u8 0,.int .u8 0,.int .u8 0,.int .u8 0,.int .u8 0,.int .u8 0,.int .u8 0] 324) λb c=>Cl 234 #[.U i] c λV d=>Vi V λt17=>((0:Int)<=t17/\t17<=((24:Nat):Int))/\Cl 235 #[.slice (cK (Sa b 0) 24 0 1) ((toNat t17) - 0) (24 - 0),.U i] d λk H=>k=.tuple #[]/\((0:Int)<=t17/\t17<=((24:Nat):Int))/\∃(t24:ByteArray),pH Tryz.prog 22 9 (.slice (cK (Sa b 0) 24 0 1) ((toNat t17) - 0) (24 - 0)) H t24/\R (.string t24) H else Cl 236 #[.Z,.U i,.I B,.bool false,.bool false] h λl e=> ∃j g T t,l=.tuple #[.slice j g T,.string t]/\R (.string t) e):Cl 186 #[.U i,.I B] h R:=aN (lq (sq (lq (cq (sq (lq (cq ll lf)) (lq (lq (lq ll)))) lf)) (lq ll))) Tryz.func186 f
theorem sU.walk(a:Cl 186 #[.U i,.I B] h λv H=> ∃t7,v=.string t7/\R (.string t7) H):Cl 135 #[.U i,.I B] h R:=aN (lq ll) Tryz.func135 a

end
section
namespace mD
variable {h h':aj} {R:fj}
variable {u:Nat}
theorem J0{cQ n cap:Nat}{c:Array Value}{t:TypeId}(a:h[cQ]? =some (.cells c t (0,0)))(i: ∀j,j<n->c[j]? =some (.int .u8 0))(p:u<10 ^ n)(q:u<18446744073709551616)(y:n<100)(hk: ∀h' C d v,h'[cQ]? =some (.cells C t (0,0))->Lib.FmtInv n u 0 v d->(∀j,j<n->C[j]? =some (.int .u8 ((d[j]!).toNat:Int)))->h'.size=h.size->(∀x,x≠cQ->h'[x]? =h[x]?)->R (.tuple #[]) h'):
  Cl 235 #[.slice (Sa cQ 0) n cap,.U u] h R:=λw r=>by
 subst r;have l:Sort.Holds (λ(b:UInt8)=>Value.int .u8 (b.toNat:Int)) w cQ 0 (Array.replicate n 0):=λj H=>by
  rw[Array.size_replicate]at H;refine⟨?_,?_⟩
  .rw[jX,jQ a,bC,i j H];have:(Array.replicate n (0:UInt8))[j]! =0:=by simp[H]
   rw[this];rfl
  .rw[qM];exact kF a
 have key:=Any.internal_strconv_formatBase10 Tryz.OH cQ 0 cap u (Array.replicate n 0) w l (by rw[Array.size_replicate];exact p) q (by rw[Array.size_replicate];omega);rw[Array.size_replicate]at key;refine Calls.mono key λe w' ⟨m,k,v,d,g,f⟩=>⟨_,m,?_,?_⟩
 .subst g;have o:((Sort.putRow (λ(b:UInt8)=>Value.int .u8 (b.toNat:Int)) w cQ 0 d).drewN k).heap=w.heap.modify cQ (Sort.onCells (Sort.putCells (λ(b:UInt8)=>Value.int .u8 (b.toNat:Int)) 0 d)):=rfl;rw[o];refine hk _ (Sort.putCells (λ(b:UInt8)=>Value.int .u8 (b.toNat:Int)) 0 d c) d v ?_ f (λj H=> ?_) bO (λx s=>by rw[df,ae (λe=>s e.symm)])
  .rw[df,ag rfl,a];rfl
  .unfold Sort.putCells;rw[Array.getElem?_mapIdx,i j H,cZ,ag ⟨bL _,by rw[f.size];omega⟩,Nat.sub_zero]
 .subst g;exact⟨rfl,rfl,rfl⟩
theorem tS:Tryz.prog.underlying 22=some (.slice 5):=cU
theorem t8:Tryz.prog.underlying 5=some (.int .u8):=cU
theorem tT:Tryz.prog.underlying 9=some .string:=cU
theorem Ka(t:nE h)(b:u<18446744073709551616)(hk: gU h R (.string ⟨(Lib.decDigits u).toArray⟩)):Cl 186 #[.U u,.I 10] h R:=by
 refine lL.walk ?_;rw[ag (by rfl)];by_cases c:u<100
 .rw[fY,bA af af];exact Mz c ⟨_,rfl,hk h (Fr.refl _ _)⟩
 .rw[ae (by simp;omega)];refine cG ?_;generalize m:(#[.int .u8 0,.int .u8 0,.int .u8 0,.int .u8 0,.int .u8 0,.int .u8 0,.int .u8 0,.int .u8 0,.int .u8 0,.int .u8 0,.int .u8 0,.int .u8 0,.int .u8 0,.int .u8 0,.int .u8 0,.int .u8 0,.int .u8 0,.int .u8 0,.int .u8 0,.int .u8 0,.int .u8 0,.int .u8 0,.int .u8 0,.int .u8 0]:Array Value)=cs;have k: ∀j,j<24->cs[j]? =some (.int .u8 0):=by
   have:cs=Array.replicate 24 (.int .u8 0):=by rw[<-m];rfl
   intro j H;rw[this];simp[H]
  have f1:Fr No h (h.push (.cells cs 324)):=Fr.push _ _;have g:(h.push (.cells cs 324))[h.size]? =some (.cells cs 324 (0,0)):=bR;have p:Lib.nDigits u<=20:=by have:=Lib.numDigits_eq u af b;split at this<;>omega
  refine JZ (t.on f1) af b ⟨_,rfl,af,?_⟩;have es:cK (some ((AA h.size 0):Addr)) 24 0 1=some (AA h.size 0):=rfl;rw[es,aD,Nat.sub_zero];refine J0 g (λj H=>k j af) (Lib.lt_pow_nDigits u) b af λd C D v2 i f l s o2=>⟨rfl,af,str (Lib.decDigits u),?_,?_⟩
  .refine DQ tS t8 tT (.inr ⟨_,rfl,gA i (λj v H=> ?_)⟩) (Lib.decDigits_length u).symm;rw[bC];have a:j<(Lib.decDigits u).length:=by have:=(aA.1 H).1;rwa[iV]at this
   have n:j<Lib.nDigits u:=by rwa[Lib.decDigits_length]at a
   rw[l j n,<-Lib.row_is_numeral f j a,<-H];unfold bc;rw[aI,ai a];rfl
  .exact hk d (f1.fresh (S:=λy=>y=h.size) ⟨af,λy _ o=>o2 y o⟩ (λy e=>Nat.le_of_eq e.symm))
theorem rX(t:nE h)(a:u<18446744073709551616)(hk: gU h R (.string ⟨(Lib.decDigits u).toArray⟩)):Cl 135 #[.U u,.I 10] h R:=
 sU.walk (Ka t a λH f1=>⟨_,rfl,hk H f1⟩)

end mD
end
section
namespace iT
variable {h:aj} {R:fj}
def ia(x:Ev):cH:=
 if x=.zero then [100,116,110,58,110,111,110,101]
 else if x.jI=true then [105,112,110,58]++Lib.decDigits x.node.toNat++ [46]++Lib.decDigits x.fX.toNat
 else [100,116,110,58]++([47,47]++x.host.data.toList++ [47]++x.jd.data.toList)
theorem xW{u:Nat}(a:u<18446744073709551616):(Lib.decDigits u).length<=20:=by
 rw[Lib.decDigits_length];by_cases H:u<10
 .rw[Lib.nDigits_small H];omega
 .have:=Lib.numDigits_eq u af a;split at this<;>omega
theorem qE{x:Ev}(H:cN x=true)(b:0<=x.fX):(ia x).length<=100:=by
 unfold ia;unfold cN at H;by_cases z:x=.zero
 .rw[ag z];simp
 rw[ae z]at H⊢;by_cases a:x.jI=true
 .rw[ag a]at H⊢;have H:=aP H;have l1:=xW (u:=x.node.toNat) af;have l2:=xW (u:=x.fX.toNat) af;simp only[av,aV,bm];omega
 .rw[ae a]at H⊢;simp only[aR,aY]at H;simp only[av,aV,bm,kf];omega
theorem oQ(x:Ev)(T:mD.nE h)(w1:0<=x.fX)(hk: gU h R (.tuple #[.string (if cN x=true then str (ia x)else⟨#[]⟩),.I (if cN x=true then 0 else 3)])):Cl 75 #[kj x] h R:=by
 refine Mw.walk (aw.box λb j i f f1=>aw.ld f (fc x λd f2=>⟨_,rfl,?_⟩));by_cases H:cN x=true
 .simp only[H,bf]at hk;rw[ae (cy H)];have a:=f2.get f id;have F:=f1.tt f2;have t:=T.on F;refine aw.ld a ⟨_,tW (y:=.zero) (x:=x) rfl rfl,?_⟩;unfold ia at hk;unfold cN at H;by_cases z:x=.zero
  .rw[ag (au z)];rw[ag z]at hk;exact hk d F
  rw[ae (cy z)];rw[ae z]at H;simp only[ae z]at hk;refine⟨_,ak a,?_⟩;have e1:(⟨#[105,112,110,58]⟩:ByteArray)=str [105,112,110,58]:=rfl;have e2:(⟨#[46]⟩:ByteArray)=str [46]:=rfl;have E:(⟨#[100,116,110,58]⟩:ByteArray)=str [100,116,110,58]:=rfl;by_cases c:x.jI=true
  .rw[ag c]at H⊢;simp only[ag c]at hk;have H:=aP H;have l1:=xW (u:=x.node.toNat) af;have l2:=xW (u:=x.fX.toNat) af;have n1:x.node=(x.node.toNat:Int):=af
   have n2:x.fX=(x.fX.toNat:Int):=af
   rw[e1,e2,Qi];refine⟨_,ak a,_,ak a,?_⟩;rw[n1];refine mD.rX t af λe f3=>⟨_,rfl,ak (f3.get a id),?_⟩
   have c1:(⟨(Lib.decDigits x.node.toNat).toArray⟩:ByteArray)=str (Lib.decDigits x.node.toNat):=rfl;have C:(⟨(Lib.decDigits x.fX.toNat).toArray⟩:ByteArray)=str (Lib.decDigits x.fX.toNat):=rfl;rw[c1];refine⟨?_,?_,?_⟩
   .rw[hI,hI];simp;omega
   .rw[jn,hI,hI];simp;omega
   rw[n2];refine mD.rX (t.on f3) af λg f4=>⟨_,rfl,?_⟩
   rw[C];refine⟨?_,?_⟩
   .rw[jn,jn,hI,hI];simp;omega
   .rw[jn,jn,jn];exact hk g (F.tt (f3.tt f4))
  .rw[ae c]at H⊢;simp only[ae c]at hk;simp only[aR,aY]at H;refine aw.ld a (Ip x af af λe f3=>⟨_,rfl,?_⟩);have l1:=kf x.host;have l2:=kf x.jd;rw[E,Qi];refine⟨?_,?_⟩
   .rw[hI,hI];simp;omega
   .rw[jn];exact hk e (F.tt f3)
 .simp only[H,aq,aJ]at hk;rw[ag (cy H)];exact hk d (f1.tt f2)

end iT
end
section
variable {h:aj} {R:fj}
theorem GJ.walk{c:cg}{A e:Nat}{B:cg}{b f:Nat}(g:if((A:Int) !=(b:Int))then R (.bool false) h else∃(I:Int->aj->Prop)(m:Int->aj->Nat),I 0 h/\∀(i:Int)(H:aj),I i H->if(decide (i<(A:Int)))then Bd i A/\aM c λa=>te H (a.add (toNat i*1)) λj T t=> ∃(t21:ByteArray),pH Tryz.prog 22 9 (.slice j T t) H t21/\Bd i b/\aM B λd=>te H (d.add (toNat i*1)) λn l k=> ∃(t26:ByteArray),pH Tryz.prog 22 9 (.slice n l k) H t26/\if(!(t21.toList==t26.toList))then R (.bool false) H else(I (wrap .i64 (i+1)) H/\m (wrap .i64 (i+1)) H<m i H)else R (.bool true) H):Cl 26 #[.slice c A e,.slice B b f] h R:=aN (lq (sq (lq (cq ll lf)) (sq (lq (bq (.loop [(5,.one (.int .i64))] (sq (lq (cq lf lf)) (sq (bq (sq (pN 11) (cq ll lf))) lf))))) ll))) Tryz.func26 g

end
section
open Go.fM
namespace iD
variable {h f:aj} {R:fj} {p q:cg} {c d i:Nat}
variable {l:Nat}
structure Rows (h:aj) (p:cg) (l c:Nat) (xs:List BV):Prop where
 len:l=xs.length
 row:Row h p (xs.flatMap qj)
 cap:l<=c
 each: ∀x∈xs,Row h x.p (bc x.b)
theorem BL.Iq{bs:List (cH)}(H:BL f h p l c bs): ∃xs,Rows h p l c xs/\xs.map BV.b=bs:=by
 obtain⟨xs,e1,e2,e,E,a⟩:=H.rows;exact⟨xs,⟨e1,e2,E,a⟩,e⟩
theorem iu{m:Nat}{xs ys:List BV}(v:Rows h p l c xs)(w:Rows h q m d ys)(A:l<=1000000000)(hk:R (.bool (decide (xs.map BV.b=ys.map BV.b))) h):Cl 26 #[.slice p l c,.slice q m d] h R:=by
 obtain⟨rfl,r1,_,e1⟩:=v;obtain⟨rfl,r2,_,e2⟩:=w;refine GJ.walk ?_;by_cases o:xs.length=ys.length
 .have:((xs.length:Int) !=(ys.length:Int))=false:=by rw[o];simp
  rw[this];simp only[aq,aJ];refine⟨λi g=>g=h/\∃k:Nat,i=(k:Int)/\k<=xs.length/\(xs.take k).map BV.b=(ys.take k).map BV.b,λi _=>xs.length - i.toNat,⟨rfl,0,rfl,af,bO⟩,?_⟩;rintro _ _ ⟨rfl,k,rfl,z,n⟩;by_cases u:k<xs.length
  .have q1:(k:Int)<(xs.length:Int):=af
   simp only[q1,bu,bf,aD];have j:xs[k]? =some xs[k]:=ai u;have G:ys[k]? =some (ys[k]' af):=ai _;generalize xs[k]=x at j;generalize ys[k]' af=y at G;obtain⟨a,rfl⟩:=r1.some (by intro e;cases xs with|nil=>simp at u|cons=>simp at e);obtain⟨b,rfl⟩:=r2.some (by intro e;cases ys with|nil=>simp at G|cons=>simp at e);have C:=(r1.fL nR j).1;have s:=(r2.fL nR G).1;rw[fo]at C s;refine⟨⟨by first|trivial|omega,by first|trivial|omega⟩,ay.2 ⟨_,_,_,C,_,conv (e1 x (aT j)) rfl,⟨by first|trivial|omega,by first|trivial|omega⟩,ay.2 ⟨_,_,_,s,_,conv (e2 y (aT G)) rfl,?_⟩⟩⟩;rw[nK,nK];by_cases H:x.b=y.b
   .rw[H];simp only[eP,cV,aq,aJ];rw[bA af af];refine⟨⟨by first|trivial|rfl,k+1,af,af,?_⟩,by show _ - Int.toNat ((k:Int)+1)<_;omega⟩;rw[bD,bD,j,G,aW,aW,n];simp[H]
   .have:(x.b==y.b)=false:=by simpa using H
    simp only[this,ee,bf];have r:xs.map BV.b≠ys.map BV.b:=λe=>by
     have t:(xs.map BV.b)[k]? =(ys.map BV.b)[k]? :=by rw[e]
     rw[aI,aI,j,G]at t;exact H (bj t)
    rw[az r]at hk;exact hk
  .have q1: ¬(k:Int)<(xs.length:Int):=af
   simp only[q1,bh,aq,aJ];obtain rfl:k=xs.length:=af
   rw[eO,o,eO]at n;rw[au n]at hk;exact hk
 .have:((xs.length:Int) !=(ys.length:Int))=true:=by simp;omega
  rw[ag this];have r:xs.map BV.b≠ys.map BV.b:=λe=>o (by have:=bT List.length e;simpa using this)
  rw[az r]at hk;exact hk

end iD
end
section
variable {h:aj} {R:fj}
theorem AL.walk{c:Nat}(Q:aw.LD h (AA c 1) λq' r' s' t' u'=>Cl 75 #[.agg #[.bool q',.U r',.U s',.string t',.string u']] h λv H=> ∃r S,v=.tuple #[.string r,.I S]/\Hi H c 0 λt17=>Hl H c 6 λa T t=>Hu H c 7 λt30=>Hi H c 8 λt35=>Hu H c 9 λt40=>(Cl 65 #[] H λv' b=>Vp v' λt13=>Cc b c 9 (.U t40)/\Cc b c 8 (.I t35)/\Cc b c 7 (.U t30)/\Cc b c 6 (.slice a T t)/\Cc b c 0 (.I t17)/\(Cl 66 #[.pointer t13,.I t17] b λG' l=>Vp G' λt18=>Cc l c 9 (.U t40)/\Cc l c 8 (.I t35)/\Cc l c 7 (.U t30)/\Cc l c 6 (.slice a T t)/\aU Tryz.prog (convert 9 22 (.string r)) l λO' m=>Vl O' λd' a' X=>Cc m c 9 (.U t40)/\Cc m c 8 (.I t35)/\Cc m c 7 (.U t30)/\Cc m c 6 (.slice a T t)/\Cl 71 #[.pointer t18,.slice d' a' X] m λP' n=>Vp P' λt21=>Cc n c 9 (.U t40)/\Cc n c 8 (.I t35)/\Cc n c 7 (.U t30)/\Cc n c 6 (.slice a T t)/\Cl 71 #[.pointer t21,.slice a T t] n λQ' q=>Vp Q' λt26=>Cc q c 9 (.U t40)/\Cc q c 8 (.I t35)/\Cc q c 7 (.U t30)/\Cl 72 #[.pointer t26,.U t30] q λR' w=>Vp R' λt31=>Cc w c 9 (.U t40)/\Cc w c 8 (.I t35)/\Cl 66 #[.pointer t31,.I t35] w λS' z=>Vp S' λt36=>Cc z c 9 (.U t40)/\Cl 72 #[.pointer t36,.U t40] z λT' P=>Vp T' λt41=>Cl 67 #[.pointer t41] P λU' K=> ∃G D A,U'=.slice G D A/\R (.slice G D A) K)/\(aU Tryz.prog (convert 9 22 (.string r)) b λw' d=>Vl w' λe' b' Y=>Cc d c 9 (.U t40)/\Cc d c 8 (.I t35)/\Cc d c 7 (.U t30)/\Cc d c 6 (.slice a T t)/\Cc d c 0 (.I t17)/\Cl 66 #[.pointer t13,.I t17] d λx' g=>Vp x' λV=>Cc g c 9 (.U t40)/\Cc g c 8 (.I t35)/\Cc g c 7 (.U t30)/\Cc g c 6 (.slice a T t)/\Cl 71 #[.pointer V,.slice e' b' Y] g λy' i=>Vp y' λg'=>Cc i c 9 (.U t40)/\Cc i c 8 (.I t35)/\Cc i c 7 (.U t30)/\Cc i c 6 (.slice a T t)/\Cl 71 #[.pointer g',.slice a T t] i λz' o=>Vp z' λi'=>Cc o c 9 (.U t40)/\Cc o c 8 (.I t35)/\Cc o c 7 (.U t30)/\Cl 72 #[.pointer i',.U t30] o λA' s=>Vp A' λk'=>Cc s c 9 (.U t40)/\Cc s c 8 (.I t35)/\Cl 66 #[.pointer k',.I t35] s λB' x=>Vp B' λm'=>Cc x c 9 (.U t40)/\Cl 72 #[.pointer m',.U t40] x λC' L=>Vp C' λo'=>Cl 67 #[.pointer o'] L λD' M=> ∃I E B,D'=.slice I E B/\R (.slice I E B) M)/\True)/\(aU Tryz.prog (convert 9 22 (.string r)) H λE' e=>Vl E' λf' c' Z=>Cc e c 9 (.U t40)/\Cc e c 8 (.I t35)/\Cc e c 7 (.U t30)/\Cc e c 6 (.slice a T t)/\Cc e c 0 (.I t17)/\Cl 65 #[] e λF' f=>Vp F' λU=>Cc f c 9 (.U t40)/\Cc f c 8 (.I t35)/\Cc f c 7 (.U t30)/\Cc f c 6 (.slice a T t)/\Cc f c 0 (.I t17)/\Cl 66 #[.pointer U,.I t17] f λH' j=>Vp H' λW=>Cc j c 9 (.U t40)/\Cc j c 8 (.I t35)/\Cc j c 7 (.U t30)/\Cc j c 6 (.slice a T t)/\Cl 71 #[.pointer W,.slice f' c' Z] j λI' k=>Vp I' λh'=>Cc k c 9 (.U t40)/\Cc k c 8 (.I t35)/\Cc k c 7 (.U t30)/\Cc k c 6 (.slice a T t)/\Cl 71 #[.pointer h',.slice a T t] k λJ' p=>Vp J' λj'=>Cc p c 9 (.U t40)/\Cc p c 8 (.I t35)/\Cc p c 7 (.U t30)/\Cl 72 #[.pointer j',.U t30] p λK' u=>Vp K' λl'=>Cc u c 9 (.U t40)/\Cc u c 8 (.I t35)/\Cl 66 #[.pointer l',.I t35] u λL' y=>Vp L' λn'=>Cc y c 9 (.U t40)/\Cl 72 #[.pointer n',.U t40] y λM' N=>Vp M' λp'=>Cl 67 #[.pointer p'] N λN' O=> ∃J F C,N'=.slice J F C/\R (.slice J F C) O)/\True):Cl 69 #[.P c 0] h R:=aN (lq (lq (sq (.gY (.op 1 (.op 2 (.op 3 (.op 4 (.op 6 (.op 9 (.op 10 (.op 11 (.op 12 (.op 14 (.op 15 (.op 16 (.op 17 (.op 19 (.op 20 (.op 21 (.op 22 (.op 24 (.op 25 (.op 26 (.op 27 (.alts (.fork 0 (.alts (.fork 5 (.op 7 (.op 8 (.op 13 (.op 18 (.op 23 (.op 28 (.op 29 (.op 30 .done)))))))) (.fork 7 (.op 5 (.op 8 (.op 13 (.op 18 (.op 23 (.op 28 (.op 29 (.op 30 .done)))))))) .gG))) (.fork 7 (.op 0 (.op 5 (.op 8 (.op 13 (.op 18 (.op 23 (.op 28 (.op 29 (.op 30 .done))))))))) .gG))))))))))))))))))))))))) lf))) Tryz.func69 Q
theorem uQ.walk{t:Nat}(x:Cl 47 #[.P t 0] h λv H=> ∃t7,v=.bool t7/\if(!t7)then R (.Z) H else Hi H t 1 λt13=>Hi H t 2 λt18=>Hi H t 3 λt23=>Hi H t 4 λt28=> ∃t33,Cc H t 0 (.map t33)/\Cl 65 #[] H λV d=>Vp V λt9=>Cc d t 0 (.map t33)/\Cc d t 4 (.I t28)/\Cc d t 3 (.I t23)/\Cc d t 2 (.I t18)/\Cc d t 1 (.I t13)/\Cl 66 #[.pointer t9,.I t13] d λJ e=>Vp J λt14=>Cc e t 0 (.map t33)/\Cc e t 4 (.I t28)/\Cc e t 3 (.I t23)/\Cc e t 2 (.I t18)/\Cl 66 #[.pointer t14,.I t18] e λK f=>Vp K λt19=>Cc f t 0 (.map t33)/\Cc f t 4 (.I t28)/\Cc f t 3 (.I t23)/\Cl 66 #[.pointer t19,.I t23] f λL i=>Vp L λt24=>Cc i t 0 (.map t33)/\Cc i t 4 (.I t28)/\Cl 66 #[.pointer t24,.I t28] i λN j=>Vp N λt29=>Cc j t 0 (.map t33)/\∃t34:Int,K3 Tryz.prog #[107] 3 (.map t33) j (.I t34)/\Cl 66 #[.pointer t29,.I t34] j λP n=>Vp P λt35=>Cc n t 0 (.map t33)/\Cl 67 #[.pointer t35] n λQ p=>Vl Q λA z y=>Cc p t 0 (.map t33)/\aQ p (.cells #[.slice A z y] 22) λb q=>Cc q t 0 (.map t33)/\Cl 68 #[.P t 0] q λS s=>Vl S λC r W=> ∃(I:cg->Nat->Nat->Int->aj->Prop)(M:cg->Nat->Nat->Int->aj->Nat),I (Sa b 0) 1 1 0 s/\∀(g:cg)(O o:Nat)(t41:Int)(c:aj),I g O o t41 c->if(decide (t41<(r:Int)))then Bd t41 r/\aM C λa=>jV c (a.add (toNat t41*1)) λt44=> ∃t49,Cc c t 0 (.map t49)/\∃t51,gW Tryz.prog 107 (.map t49) (.I t44) false c (.pointer t51)/\Cl 69 #[.pointer t51] c λU u=>Vl U λF E D=>aQ u (.cells #[.slice F E D] 22) λB w=>aU Tryz.prog (Builtin.append_ #[64,64] 64 #[.slice g O o,.slice (Sa B 0) 1 1]) w λG m=> ∃l k T,G=.slice l k T/\(I l k T (wrap .i64 (t41+1)) m/\M l k T (wrap .i64 (t41+1)) m<M g O o t41 c)else R (.slice g O o) c):Cl 23 #[.P t 0] h R:=aN (lq (sq (lq (cq ll lf)) (sq (.gY (.op 1 (.op 2 (.op 3 (.op 4 (.op 6 (.op 7 (.op 8 (.op 9 (.op 11 (.op 12 (.op 13 (.op 14 (.op 16 (.op 17 (.op 18 (.op 19 (.op 21 (.op 22 (.op 23 (.op 24 (.op 0 (.op 5 (.op 10 (.op 15 (.op 20 (.op 25 (.op 26 (.op 27 (.op 28 (.op 29 .done))))))))))))))))))))))))))))))) (sq (lq (bq (.loop [(3,.one (.slice)),(41,.one (.int .i64))] (lq (sq (cq lf lf) (sq (bq ll) lf)))))) ll)))) Tryz.func23 x

end
section
open Go.fM Go.kk
namespace fU
open iT bU iD
variable {h h':aj} {R:fj} {t:Nat} {X:Ft} {s:CF} {m A w:Nat} {xs:List CV} {u i:Nat→Prop} {C:Nat→Option Nat} {p:cg} {n c:Nat}
variable {z:CV} {g:aj} {b:Nat}
def recC(z:Cp):cH:=dt z.num++ga (ia z.e)++ga z.d++dt z.bV++dt (fO z.ses)++dt z.dl
structure KX (z:Cp):Prop where
 r:cN z.e=true
 v:0<=z.e.fX
 d:z.d.length<=600
 n:z.num<=1000000
 t:z.bV<=1099511627776
 s0:0<=z.ses
 s1:z.ses<=1099511627776
 l:z.dl<=1099511627776
theorem mY(t:cH):(ga t).length<=t.length+10:=by
 have:=(cj t.length).2;unfold ga;rw[av];omega
theorem MA{z:Cp}(k:KX z):(recC z).length<=1000:=by
 have l0:=qE k.r k.v;have l1:=mY (ia z.e);have l2:=mY z.d;have l3:=k.d;have e1:=(cj z.num).2;have e2:=(cj z.bV).2;have e:=(cj (fO z.ses)).2;have E:=(cj z.dl).2;unfold recC;simp only[av];omega
theorem Gt{x:CV}{K:Bool->Int->Int->ByteArray->ByteArray->Prop}(H:x.at g b)(hk:K x.e.jI x.e.node x.e.fX x.e.host x.e.jd):aw.LD g (AA b 1) K:=
 ⟨_,ak H,_,ak H,_,ak H,_,ak H,_,ak H,hk⟩
theorem zF{H:aj}{b':Nat}{S:Nat->Prop}{q:cg}{dq:Nat}(k:KX z.abs)(d:z.at H b)(Q:Row H z.v.p (bc z.v.b))(x:Fr No H g)(c':Wr g b' S (dt z.num))(L: ∀y,S y->H.size<=y)(row:Row g q (bc (ia z.e)))(hq: ∀y,aL q y->¬S y)(hk: ∀P K h',fi h' P (recC z.abs).length K 1 (bc (recC z.abs))->Fr No H h'->(∀y,aL P y->H.size<=y)->R (.slice P (recC z.abs).length K) h'):
  aX g (AA b 9)=some (.U (z.dl:Int))/\aX g (AA b 8)=some (.I z.ses)/\aX g (AA b 7)=some (.U (z.bV:Int))/\aX g (AA b 6)=some (.slice z.v.p z.v.b.length z.v.c)/\
  Cl 71 #[.P b' 0,.slice q (str (ia z.e)).size dq] g λj' f=>
  ∃(t21:cg),j'=.pointer t21/\
  aX f (AA b 9)=some (.U (z.dl:Int))/\
  aX f (AA b 8)=some (.I z.ses)/\
  aX f (AA b 7)=some (.U (z.bV:Int))/\
  aX f (AA b 6)=some (.slice z.v.p z.v.b.length z.v.c)/\
  Cl 71 #[.pointer t21,.slice z.v.p z.v.b.length z.v.c] f λk' j=>
  ∃(t26:cg),k'=.pointer t26/\
  aX j (AA b 9)=some (.U (z.dl:Int))/\
  aX j (AA b 8)=some (.I z.ses)/\
  aX j (AA b 7)=some (.U (z.bV:Int))/\
  Cl 72 #[.pointer t26,.U (z.bV:Int)] j λl' E=>
  ∃(t31:cg),l'=.pointer t31/\
  aX E (AA b 9)=some (.U (z.dl:Int))/\
  aX E (AA b 8)=some (.I z.ses)/\
  Cl 66 #[.pointer t31,.I z.ses] E λm' O=>
  ∃(t36:cg),m'=.pointer t36/\
  aX O (AA b 9)=some (.U (z.dl:Int))/\
  Cl 72 #[.pointer t36,.U (z.dl:Int)] O λn' f'=>
  ∃(t41:cg),n'=.pointer t41/\
  Cl 67 #[.pointer t41] f' λo' e'=>
  ∃(a':cg)(Z Y:Nat),o'=.slice a' Z Y/\
  R (.slice a' Z Y) e':=by
 have kr:cN z.e=true:=k.r;have kv:0<=z.e.fX:=k.v;have kd:z.v.b.length<=600:=k.d;have kt:z.bV<=1099511627776:=k.t;have k0:0<=z.ses:=k.s0;have k1:z.ses<=1099511627776:=k.s1;have kl:z.dl<=1099511627776:=k.l;have lb:=aC d;have bS: ∀{I:Nat->Prop},(∀y,I y->H.size<=y)->¬I b:=λhh hn=>by have:=hh b hn;omega
 have l0:=qE kr kv;have p':=mY (ia z.e);have q':=mY z.v.b;have e1:=(cj z.num).2;have e2:=(cj z.bV).2;have e3:=(cj (fO z.ses)).2;have l:z.at g b:=x.get d id;have zg:=x.1;refine⟨ak l,ak l,ak l,ak l,iD.oQ c' af row (hI _) af hq λg1 u W1 st1=> ?_⟩;have D: ∀y,u y->H.size<=y:=λy a=>(st1.new y a).elim (L y) (λH=>af)
 have F:=x.fresh st1.fr L;have b1:z.at g1 b:=F.get d id;have z1:=F.1;refine⟨_,rfl,ak b1,ak b1,ak b1,ak b1,iD.uh W1 (by simp only[av];omega) (Q.frame F cu) rfl af (λy a g' hs=>gF (iI Q (by intro e;apply g';have:=bT List.length e;rw[iV]at this;exact gm.1 this) a) (D y hs)) λg2 i W2 T=> ?_⟩;have M: ∀y,i y->H.size<=y:=λy a=>(T.new y a).elim (D y) (λH=>af)
 have o:=F.fresh T.fr D;have B:z.at g2 b:=o.get d id;have z2:=o.1;refine⟨_,rfl,ak B,ak B,ak B,iD.fN z.bV W2 (by simp only[av];omega) rfl af λg3 S3 W3 U=> ?_⟩;have N: ∀y,S3 y->H.size<=y:=λy a=>(U.new y a).elim (M y) (λH=>af)
 have r:=o.fresh U.fr M;have J:z.at g3 b:=r.get d id;have z3:=r.1;refine⟨_,rfl,ak J,ak J,iD.ie W3 (by simp only[av];omega) af λg4 S4 W4 V=> ?_⟩;have d': ∀y,S4 y->H.size<=y:=λy a=>(V.new y a).elim (N y) (λH=>af)
 have v:=r.fresh V.fr N;have b4:z.at g4 b:=v.get d id;have z4:=v.1;refine⟨_,rfl,ak b4,iD.fN z.dl W4 (by simp only[av];omega) rfl af λg5 S5 W i'=> ?_⟩;have G:=v.fresh i'.fr d';have er:dt z.num++ga (ia z.e)++ga z.v.b++dt z.bV++dt (fO z.ses)++dt z.dl=recC z.abs:=rfl;rw[er]at W;have lr:=MA k;refine⟨_,rfl,iD.jh W af λp6 c6 g6 o6 f6 n6=>⟨_,_,_,rfl,?_⟩⟩;have z5:=G.1;exact hk p6 c6 g6 o6 (G.tt f6) (λy a=>bX (n6 y a))
theorem vX(V:z.at h b)(b':Row h z.v.p (bc z.v.b))(k:KX z.abs)(tb:mD.nE h)(hk: ∀P D h',fi h' P (recC z.abs).length D 1 (bc (recC z.abs))->Fr No h h'->(∀y,aL P y->h.size<=y)->R (.slice P (recC z.abs).length D) h'):Cl 69 #[.P b 0] h R:=by
 have kr:cN z.e=true:=k.r;have kn:z.num<=1000000:=k.n;refine AL.walk (Gt V (iT.oQ z.e tb k.v λl f1=> ?_));simp only[kr,bf];have j:z.at l b:=f1.get V id;have z0:=f1.1;have L:=b'.frame f1 cu;have K: ∀P D h',fi h' P (recC z.abs).length D 1 (bc (recC z.abs))->Fr No l h'->(∀y,aL P y->l.size<=y)->R (.slice P (recC z.abs).length D) h':=λP D h' o f g=>hk P D h' o (f1.tt f) (λy H=>bX (g y H))
 clear hk;have I:(str (ia z.e)).data.toList=ia z.e:=by unfold str;simp
 have a':bc (ia z.e)≠ []:=by
  intro e;have:=bT List.length e;rw[iV]at this;revert this;unfold ia;split<;>(try split)<;>simp
 have O:dt (fO (z.num:Int))=dt z.num:=by unfold fO;rw[aD]
 refine⟨_,_,rfl,_,ak j,_,_,_,ak j,_,ak j,_,ak j,_,ak j,?_,?_,trivial⟩
 .refine iD.gC λG c' S W f2 n2=> ?_
  have r:z.at G b:=f2.get j id;refine⟨_,rfl,ak r,ak r,ak r,ak r,ak r,?_,?_,trivial⟩
  .refine iD.ie W bO af λh3 S3 E Z=> ?_
   rw[O,cD]at E;have z2:=f2.1;have Q:=f2.fresh Z.fr n2;have B:z.at h3 b:=Q.get j id;have N: ∀y,S3 y->l.size<=y:=λy H=>(Z.new y H).elim (n2 y) (λl=>af)
   refine⟨_,rfl,ak B,ak B,ak B,ak B,QZ λq d U row cq f4 M=>⟨_,_,_,rfl,?_⟩⟩;rw[I]at row;exact zF k j L (Q.tt f4) (E.frame f4 cu) N row (λy H v=>gF (M y H) (E.lt y v)) K
  .refine QZ λq d h3 row cq f3 N=>⟨_,_,_,rfl,?_⟩
   have B:z.at h3 b:=(f2.tt f3).get j id;have E:=W.frame f3 cu;refine⟨ak B,ak B,ak B,ak B,ak B,iD.ie E bO af λU T F x=>⟨_,rfl,?_⟩⟩;rw[O,cD]at F;have z2:=(f2.tt f3).1;have M: ∀y,T y->l.size<=y:=λy H=>(x.new y H).elim (n2 y) (λl=>af)
   rw[I]at row;refine zF k j L ((f2.tt f3).fresh x.fr n2) F M (row.frame x.fr (λa J v=>gF (N a.block ⟨a,J,rfl⟩) (W.lt _ v))) (λy H v=> ?_) K;have l:=iI row a' H;have G:=N y H;rcases x.new y v with h3|h3
   .have:=W.lt y h3;omega
   .omega
 .refine QZ λq d G row cq f2 n2=>⟨_,_,_,rfl,?_⟩
  have r:z.at G b:=f2.get j id;refine⟨ak r,ak r,ak r,ak r,ak r,iD.gC λh3 c' S W f3 N=> ?_⟩;have B:z.at h3 b:=(f2.tt f3).get j id;have z2:=f2.1;have z3:=f3.1;refine⟨_,rfl,ak B,ak B,ak B,ak B,ak B,iD.ie W bO af λU T F x=>⟨_,rfl,?_⟩⟩;rw[O,cD]at F;rw[I]at row;have Y: ∀y,aL q y->y<G.size:=λy H=>iI row a' H
  refine zF k j L ((f2.tt f3).fresh x.fr (λy H=>bX (N y H))) F (λy H=>(x.new y H).elim (λl=>bX (N y l)) (λl=>af)) ((row.frame f3 cu).frame x.fr (λa J v=>gF (Y a.block ⟨a,J,rfl⟩) (N _ v))) (λy H v=> ?_) K;have l:=Y y H;rcases x.new y v with h3|h3
  .have:=N y h3;omega
  .omega
def pd(s:CF):cH:=dt s.next++dt s.dx++dt s.over++dt s.gone++dt s.L.length
def Ir(s:CF):List (cH):=pd s::s.L.map recC
theorem uR(H:Ct h t X s)(sm:Small s)(hc:s.dx<=50000/\s.over<=50000/\s.gone<=50000)(ok: ∀z∈s.L,KX z)(tb:mD.nE h)(hk: ∀h' p' l' c',BL h h' p' l' c' (Ir s)->Fr No h h'->R (.slice p' l' c') h'):Cl 23 #[.P t 0] h R:=by
 obtain⟨m,xs,A,u,w,i,C,H⟩:=H;have sn:=sm.n;have sl:=sm.l;have xl:=H.len;refine uQ.walk (fw H ⟨_,rfl,?_⟩);rw[dj];refine⟨_,ak H.cQ,_,ak H.cQ,_,ak H.cQ,_,ak H.cQ,_,ak H.cQ,iD.gC λl C' S k' f1 n1=> ?_⟩;have N: ∀k:Nat,fO (k:Int)=k:=λk=>by unfold fO;rw[aD]
 have l1:=(cj s.next).2;have l2:=(cj s.dx).2;have l3:=(cj s.over).2;have l4:=(cj s.gone).2;have l5:=(cj s.L.length).2;have G:=H.on f1;refine⟨_,rfl,ak G.cQ,ak G.cQ,ak G.cQ,ak G.cQ,ak G.cQ,iD.ie k' bO af λh2 i W2 f'=> ?_⟩;rw[N,cD]at W2;have z1:=f1.1;have K:=f1.fresh f'.fr n1;have n2: ∀y,i y->h.size<=y:=λy d=>(f'.new y d).elim (n1 y) (λl=>af)
 have E:=H.on K;have z2:=K.1;refine⟨_,rfl,ak E.cQ,ak E.cQ,ak E.cQ,ak E.cQ,iD.ie W2 af af λh3 S3 W3 g'=> ?_⟩;rw[N]at W3;have L:=K.fresh g'.fr n2;have n3: ∀y,S3 y->h.size<=y:=λy d=>(g'.new y d).elim (n2 y) (λl=>af)
 have W:=H.on L;have z3:=L.1;refine⟨_,rfl,ak W.cQ,ak W.cQ,ak W.cQ,iD.ie W3 (by simp only[av];omega) af λh4 S4 W4 i'=> ?_⟩;rw[N]at W4;have M:=L.fresh i'.fr n3;have n4: ∀y,S4 y->h.size<=y:=λy d=>(i'.new y d).elim (n3 y) (λl=>af)
 have G4:=H.on M;have z4:=M.1;refine⟨_,rfl,ak G4.cQ,ak G4.cQ,iD.ie W4 (by simp only[av];omega) af λh5 S5 W5 j'=> ?_⟩;rw[N]at W5;have Q:=M.fresh j'.fr n4;have n5: ∀y,S5 y->h.size<=y:=λy d=>(j'.new y d).elim (n4 y) (λl=>af)
 have G5:=H.on Q;have z5:=Q.1;refine⟨_,rfl,ak G5.cQ,_,Cu mq G5.map,?_⟩;rw[aF,xl];refine iD.ie W5 (by simp only[av];omega) af λh6 S6 Y u'=> ?_
 rw[N]at Y;have T:=Q.fresh u'.fr n5;have G6:=H.on T;have z6:=T.1;have er:dt s.next++dt s.dx++dt s.over++dt s.gone++dt s.L.length=pd s:=rfl;rw[er]at Y;have lh:(pd s).length<=50:=by unfold pd;simp only[av];omega
 refine⟨_,rfl,ak G6.cQ,iD.jh Y af λP o f o7 f7 n7=>⟨_,_,_,rfl,?_⟩⟩;have U:=T.tt f7;have z7:=U.1;have B7:BL h f none 0 0 []:=BL.nil;refine⟨cE (H.on U).cQ rfl,cG ?_⟩;have f8:Fr No f (f.push (.cells #[.slice P (pd s).length o] 22)):=Fr.push _ _;have o8:fi (f.push (.cells #[.slice P (pd s).length o] 22)) (Sa f.size 0) 1 1 1 (qj ⟨P,o,pd s⟩):=.row f.size 0 _ _ rfl bR (bk _) bO rfl (λj v hj=>by rw[bC];simpa using hj);have D:BL h (f.push (.cells #[.slice P (pd s).length o] 22)) (Sa f.size 0) 1 1 [pd s]:=by
  refine⟨[⟨P,o,pd s⟩],aL P,rfl,cy o8,rfl,?_,?_,λy ⟨a,e,e2⟩=>by cases e;rw[<-e2];exact z7⟩
  .intro v x;obtain rfl:=bK.1 x;exact BV.j9 (o7.frame f8 cu) (λ_=>id)
  .intro y d;have l:=n7 y d;have h2:=o7.dV d;exact⟨af,by rw[dD];omega,λ⟨a,e,e2⟩=>by cases e;have e2:f.size=y:=e2;omega⟩
 generalize f.push (.cells #[.slice P (pd s).length o] 22)=h8 at f8 D⊢;generalize (some (AA f.size 0):cg)=p8 at D⊢;clear o8;have V:=U.tt f8;have G8:=H.on V;refine⟨ak G8.cQ,sN G8 af λh9 p9 c9 o9 n9 f9=>⟨_,_,_,rfl,?_⟩⟩;have F9:=V.tt f9;have z8:=V.1;refine⟨λop ol Z q g=> ∃k:Nat,q=(k:Int)/\k<=xs.length/\BL h g op ol Z (pd s::(s.L.take k).map recC)/\Fr No h g/\fi g p9 xs.length c9 1 ((jW xs).map fZ)/\(∀y,aL op y->¬aL p9 y),λ_ _ _ q _=>xs.length - q.toNat,⟨0,rfl,af,cy (D.on f9),F9,o9,λy d r=>gF (D.lt d) (n9 y r)⟩,?_⟩;rintro op ol Z _ g ⟨k,rfl,z',B,F,O,d'⟩;by_cases r':k<xs.length
 .have q1:(k:Int)<(xs.length:Int):=af
  simp only[q1,bu,bf,aD];have J:xs[k]? =some xs[k]:=ai r';generalize xs[k]=v at J;have b':s.L[k]? =some v.abs:=by rw[<-H.abs,aI,J];rfl
  have x:=aT J;have I:=H.on F;obtain⟨ab,m',rfl⟩:=O.addr af;have cn:=O.cell (j:=k) (v:=fZ (v.num:Int)) (by unfold jW;rw[dB,aI,J];rfl);refine⟨⟨by first|trivial|omega,by first|trivial|omega⟩,ay.2 ⟨_,by rw[cv];exact cn,_,ak I.cQ,_,look I x,vX (I.Dx v x) (I.Ar v x).row (ok v.abs (aT b')) (tb.on F) λA' v' x' s' f10 e'=>⟨_,_,_,rfl,?_⟩⟩⟩;have zg:=F.1;have bl:=B.len;rw[aV,aF,bE]at bl;have t': ∀y,aL (some ((AA ab m'):Addr)) y->y<g.size:=λy d=>O.dV d
  have n': ∀y,aL op y->y<g.size:=λy d=>B.lt d
  have D':=f10.1;refine(B.on f10).push af s' (λy d=>⟨bX (e' y d),λho=>gF (n' y ho) (e' y d)⟩) af λB' w' y' a' f11 o'=>⟨_,_,_,rfl,?_⟩
  rw[bA af af];refine⟨⟨k+1,af,af,?_,?_,(O.frame f10 cu).frame f11 (λy d r=>d' y r d),λy d r=>(o' y d).elim (λl=>d' y l r) (λl=>bX (t' y r))⟩,by show xs.length - Int.toNat ((k:Int)+1)<xs.length - k;omega⟩
  .rw[bD,b',aW];rw[dp]at a';exact a'
  .obtain⟨_,_,_,_,_,_,_,q'⟩:=B;exact(F.tt f10).fresh f11 q'
 .have q1: ¬(k:Int)<(xs.length:Int):=af
  simp only[q1,bh,aq,aJ];rw[bB af]at B;exact hk g op ol Z B F
abbrev CU(y:CV):List Value:= [.int .i64 (y.num:Int),.bool y.e.jI,.int .u64 y.e.node,.int .u64 y.e.fX,.string y.e.host,.string y.e.jd,y.v.val,.int .u64 (y.bV:Int),.int .i64 y.ses,.int .u64 (y.dl:Int)]
theorem gJ(y:CV):(CU y).length=10:=rfl
theorem Qj(y:CV): ∀v∈CU y,fI v=true:=by
 intro v H;simp only[CU,bJ,List.not_mem_nil,or_false]at H;rcases H with rfl|rfl|rfl|rfl|rfl|rfl|rfl|rfl|rfl|rfl<;>rfl
theorem tA:nJ Tryz.prog 242 114 10 112 (.agg #[.I 0,.bool false,.U 0,.U 0,.string ⟨#[]⟩,.string ⟨#[]⟩,.Z,.U 0,.I 0,.U 0]):=⟨cU,cU,rfl⟩
theorem uA:Tryz.prog.underlying 242=some (.slice 114):=cU
theorem Is(H:Ct h t X s)(sm:Small s)(hd: ∀z∈s.L,z.d.length<=600)(hk: ∀h' S U (ys:List CV),fi h' S ys.length U 10 (ys.flatMap CU)->ys.map CV.abs=s.L->(∀y∈ys,BV.ok h' (λz=>h.size<=z) y.v)->(∀y,aL S y->h.size<=y)->Fr No h h'->R (.slice S ys.length U) h'):Cl 160 #[.P t 0] h R:=by
 obtain⟨m,xs,A,u,w,i,C,H⟩:=H;have sl:=sm.l;have xl:=H.len;refine vR.walk (sN H af λh1 p1 c1 o1 n1 f1=>⟨_,_,_,rfl,?_⟩);refine⟨λop Q O q g=> ∃(k:Nat)(ys:List CV),q=(k:Int)/\k<=xs.length/\Q=ys.length/\ys.length=k/\fi g op Q O 10 (ys.flatMap CU)/\(∀y,aL op y->h1.size<=y)/\ys.map CV.abs=s.L.take k/\(∀y∈ys,BV.ok g (λz=>h1.size<=z) y.v)/\(∀y∈ys,∀z,aL y.v.p z->y.v.b≠ []->¬aL op z)/\Fr No h1 g,λ_ _ _ q _=>xs.length - q.toNat,
  ⟨0, [],rfl,af,rfl,rfl,.nil rfl rfl rfl rfl,(λy ⟨a,e,_⟩=>by cases e),bO,(λy hy=>by cases hy),(λy hy=>by cases hy),Fr.refl _ _⟩,?_⟩
 rintro op Q O _ g ⟨k,ys,rfl,i',rfl,k',o,L,J,d,W,F⟩;have G:=H.on (f1.tt F);by_cases d':k<xs.length
 .have q1:(k:Int)<(xs.length:Int):=af
  simp only[q1,bu,bf,aD];have E:xs[k]? =some xs[k]:=ai d';generalize xs[k]=v at E;have V:s.L[k]? =some v.abs:=by rw[<-H.abs,aI,E];rfl
  have M:=aT E;have j':v.v.b.length<=600:=hd v.abs (aT V);have og:=o1.frame F cu;obtain⟨ab,g',rfl⟩:=og.addr af;have cn:=og.cell (j:=k) (v:=fZ (v.num:Int)) (by unfold jW;rw[dB,aI,E];rfl);have e':=G.Dx v M;refine⟨⟨by first|trivial|omega,by first|trivial|omega⟩,ay.2 ⟨_,by rw[cv];exact cn,_,ak G.cQ,_,look G M,ay.2 (aK.ld e' (aK.new λT h2 e2 K f2=>⟨_,_,_,ak K,hC ((G.Ar v M).row.frame f2 cu) rfl af λP D h3 o3 f3 Y=>⟨_,_,_,rfl,?_⟩⟩))⟩⟩;have c':=f3.get K id;refine bH c' bO λr a4 s4 o4=> ?_
  have f4:Fr (λy=>y=T) h3 r:=⟨af,λy _ hn=>o4 y hn⟩;have l':=aC K;have b':aK.at r T (v.num:Int) v.e.jI v.e.node v.e.fX v.e.host v.e.jd P v.v.b.length D (v.bV:Int) v.ses (v.dl:Int):=a4;refine aK.ld b' ?_;have zg:=F.1;have z2:=f2.1;have z3:=f3.1;have B:Fr No g r:=(f2.tt f3).fresh f4 (λy e=>af);have oo:=o.frame B cu;refine iC tA uA oo rfl (λf' hw=>Qj ({ v with v:=⟨P,D,v.v.b⟩ } :CV) f' (cy hw)) af af λp5 c5 h5 o5 f5 I=>⟨_,_,_,rfl,?_⟩
  have z4:=B.1;have z5:=f5.1;rw[bA af af];have Z:fi r P v.v.b.length D 1 (bc v.v.b):=o3.frame f4 (λy hy e=>bX (Y y hy));have N: ∀y,aL P y->g.size<=y/\y<r.size:=λy hy=>⟨bX (Y y hy),Z.dV hy⟩
  have a': ∀y,aL op y->y<g.size:=λy hy=>o.dV hy
  refine⟨⟨k+1,ys++ [{ v with v:=⟨P,D,v.v.b⟩ }],af,af,by rw[av];rfl,by rw[av];show ys.length+1=_;omega,?_,λy hy=>(I y hy).elim (L y) (λh1=>af),?_,?_,?_,(F.tt B).fresh f5 L⟩,by show xs.length - Int.toNat ((k:Int)+1)<xs.length - k;omega⟩
  .rw[cW];simpa using o5
  .rw[aW,J,bD,V];rfl
  .intro y hy;rcases bN.1 hy with hy|hy
   .have r1:=(d y hy).row.frame B cu;refine⟨?_,(d y hy).own,(d y hy).cap⟩;by_cases x:y.v.b= []
    .rw[x];exact Row.nil
    .exact r1.frame f5 (λa ea f=>W y hy a.block ⟨a,ea,rfl⟩ x f)
   .obtain rfl:=bK.1 hy;exact BV.j9 (Z.frame f5 (λy hy f=>gF (N y hy) (a' y f))) (λy hy=>bX (N y hy))
  .intro y hy z l x f;rcases bN.1 hy with hy|hy
   .rcases I z f with h1|h1
    .exact W y hy z l x h1
    .have:=iI (d y hy).row (by intro e;apply x;have:=bT List.length e;rw[iV]at this;exact gm.1 this) l;omega
   .obtain rfl:=bK.1 hy;rcases I z f with h1|h1
    .have:=(N z l).1;have:=a' z h1;omega
    .have:=(N z l).2;omega
 .have q1: ¬(k:Int)<(xs.length:Int):=af
  simp only[q1,bh,aq,aJ];rw[bB af]at J;have z1:=f1.1;exact hk g op O ys o J (λy hy=>⟨(d y hy).row,λe z l=>bX ((d y hy).own e z l),(d y hy).cap⟩) (λy hy=>bX (L y hy)) (f1.tt F)
theorem vY(H:Ct h t X s)(S:Small s)(hd: ∀z∈s.L,z.d.length<=600)(hk: ∀h' P a (ys:List CV),fi h' P ys.length a 10 (ys.flatMap CU)->ys.map CV.abs=s.L->(∀y∈ys,Row h' y.v.p (bc y.v.b))->Fr No h h'->R (.slice P ys.length a) h'):Cl 160 #[.P t 0] h R:=
 Is H S hd λh' P a ys o e r _ f=>hk h' P a ys o e (λy d=>(r y d).row) f
def GK(L:List Cp)(x:Ev):Nat:=((kN L x).filter (λz=>decide (z.ses=0))).length
theorem MB(H:Ct h t X s)(S:Small s)(x:Ev)(hk: gU h R (.I (GK s.L x:Int))):Cl 103 #[.P t 0,kj x] h R:=by
 obtain⟨m,xs,A,u,w,i,C,H⟩:=H;have Y:=S.l;have xl:=H.len;refine sL.walk (aw.box λb T Q I f1=>aw.ld I (BE (H.on f1) x af λr W P o2 n2 f2=>⟨_,_,_,rfl,?_⟩));have F:=f1.tt f2;generalize e:xs.filter (λy=>decide (y.e=x))=ys at o2⊢;have L: ∀y∈ys,y∈xs:=λy l=>by rw[<-e]at l;exact(ba.1 l).1
 have E:ys.map CV.abs=kN s.L x:=by unfold kN;rw[<-H.abs,dE,<-e];rfl
 have Z:ys.length<=50000:=by rw[<-e];exact cM (cr _ _) af
 refine⟨λn q g=> ∃k:Nat,q=(k:Int)/\k<=ys.length/\n=((((ys.take k).map CV.abs).filter (λz=>decide (z.ses=0))).length:Int)/\g=r,λ_ q _=>ys.length - q.toNat,⟨0,rfl,af,bO,rfl⟩,?_⟩;rintro _ _ _ ⟨k,rfl,U,rfl,rfl⟩;have V:(((ys.take k).map CV.abs).filter (λz=>decide (z.ses=0))).length<=k:=cM (cr _ _) (by rw[aF,bE];omega);have G:=H.on F;by_cases K:k<ys.length
 .have q1:(k:Int)<((ys.length:Nat):Int):=af
  simp only[q1,bu,bf,aD];have d:ys[k]? =some ys[k]:=ai K;generalize ys[k]=v at d;have f:=L v (aT d);obtain⟨N,O,rfl⟩:=o2.addr af;have o:=o2.cell (j:=k) (v:=fZ (v.num:Int)) (by unfold jW;rw[dB,aI,d];rfl);have e1:(((ys.take (k+1)).map CV.abs).filter (λz=>decide (z.ses=0))).length=(((ys.take k).map CV.abs).filter (λz=>decide (z.ses=0))).length+if v.ses=0 then 1 else 0:=by
   rw[bD,d,aW,fz,av];congr 1
   by_cases a:v.ses=0
   .have:v.abs.ses=0:=a;simp[a,this]
   .have: ¬v.abs.ses=0:=a;simp[a,this]
  refine aG.of λJ B=>⟨⟨by first|trivial|omega,by first|trivial|omega⟩,ay.2 ⟨_,by rw[cv];exact o,_,ak G.cQ,_,look G f,ay.2 ⟨_,ak (G.Dx v f),aG.of λM D=> ?_⟩⟩⟩
  subst D;subst B;dsimp only;rw[bA (n:=(k:Int)+1) af af];by_cases a:v.ses=0
  .rw[ag (cy a),bA af af];rw[ag a]at e1;exact⟨⟨k+1,af,af,af,rfl⟩,by show ys.length - Int.toNat ((k:Int)+1)<ys.length - k;omega⟩
  .rw[ae (cy a)];rw[ae a]at e1;exact⟨⟨k+1,af,af,af,rfl⟩,by show ys.length - Int.toNat ((k:Int)+1)<ys.length - k;omega⟩
 .have q1: ¬(k:Int)<((ys.length:Nat):Int):=af
  simp only[q1,bh,aq,aJ];rw[bB af,E];exact hk _ F

end fU
end
section
open Go.kk
namespace fU
open iT
structure OP where
 kind:Int
 num:Int
 ses:Int
 e:Ev
 p:cg
 c:Nat
 b:cH
 bV:Nat
abbrev GL(f:OP):List Value:= [.int .i64 f.kind,.int .i64 f.num,.int .i64 f.ses,.bool f.e.jI,.int .u64 f.e.node,.int .u64 f.e.fX,.string f.e.host,.string f.e.jd,.slice f.p f.b.length f.c,.int .u64 (f.bV:Int)]

end fU
end
section
open Go.fM Go.kk
namespace fU
open iT bU iD
variable {s s':CF} {k:Nat} {f:OP}
variable {z:Cp} {ses:Int} {dl:Nat}
theorem Iu{α:Type}[DecidableEq α]: ∀{l1 l2:List α},l1.Nodup->(∀a∈l1,a∈l2)->l1.length<=l2.length
 | [],_,_,_=>bL _
 |a::l,l2,h,H=>by
  obtain⟨d,g⟩:=eM.1 h;have:=Iu (l1:=l) (l2:=l2.erase a) g (λb c=>(List.mem_erase_of_ne (λe=>d (by rw[<-e];exact c))).2 (H b (cp _ c)));have i:=List.length_erase_of_mem (H a bO);have j:0<l2.length:=List.length_pos_of_mem (H a bO);rw[aV];omega
theorem Qk{α:Type}[DecidableEq α]{l1 l2:List α}(b:l1.Nodup)(c:l2.Nodup)(H: ∀a,a∈l1↔a∈l2):l1.length=l2.length:=
 Nat.le_antisymm (Iu b (λa h=>(H a).1 h)) (Iu c (λa h=>(H a).2 h))
theorem GM(ok:q7 s)(O:Ord s):s.E2.length=(s.L.filter (λz=>decide (z.ses≠0))).length:=by
 have e:((s.L.filter (λz=>decide (z.ses≠0))).map (λz=>(((z.num:Int),(z.dl:Int)):E))).length=(s.L.filter (λz=>decide (z.ses≠0))).length:=aF ..;rw[<-e];refine Qk ?_ ?_ λa=> ?_
 .have:=O.n2;unfold keys at this;exact(dT.1 this).imp (λh e=>h (bT _ e))
 .have H:((s.L.filter (λz=>decide (z.ses≠0))).map Cp.num).Nodup:=eZ (fy _ cJ) O.nd;exact dT.2 ((dT.1 H).imp (λh e=>h (Int.ofNat.inj (bT Prod.fst e))))
 .rw[ok.e2,bg];constructor
  .rintro⟨z,b,d,rfl⟩;exact⟨z,ba.2 ⟨b,au d⟩,rfl⟩
  .rintro⟨z,b,rfl⟩;obtain⟨H,c⟩:=ba.1 b;exact⟨z,H,aP c,rfl⟩
theorem KX.free(k:KX z):KX { z with ses:=0,dl:=0 } :=⟨k.r,k.v,k.d,k.n,k.t,by show(0:Int)<=0;omega,by show(0:Int)<=1099511627776;omega,by show 0<=1099511627776;omega⟩
theorem KX.BF(k:KX z)(h:sR ses dl):KX { z with ses:=ses,dl:=dl } :=⟨k.r,k.v,k.d,k.n,k.t,by have:=h.1;show 0<=ses;omega,h.2.1,h.2.2⟩
structure Good (s:CF) (k:Nat):Prop where
 ok:q7 s
 all: ∀z∈s.L,KX z
 may: ∀z∈s.L,xE z.e z.d.length (z.bV:Int)=true
 fr: ∀z∈s.L,z.ses=0->z.dl=0
 full: ∀e,(kN s.L e).length<=16
 len:s.next<=k+1
theorem Good.nil:Good ⟨[],1,0,0,0, [], []⟩ 0:=⟨⟨(λz h=>by cases h),(λz h=>by cases h),(λe=>bO),(λe=>bO),rfl⟩,(λz h=>by cases h),(λz h=>by cases h),(λz h=>by cases h),λ_=>bL _,bk _⟩
theorem Good.L(G:Good s k):s.L.length<=k/\s.dx<=k/\s.over<=k/\s.gone<=k:=by
 have:=G.ok.vE;have:=G.len;omega
theorem Good.small(G:Good s k)(O:Ord s)(hk:k<=40000):Small s:=by
 have c:=G.L;have d:=G.len;have nd: ∀{l:List E},(keys l).Nodup->l.Nodup:=fun {l} a=>(dT.1 a).imp (λh e=>h (bT _ e))
 have e1:s.E1.length<=s.L.length:=by
  have:=Iu (l2:=s.L.map (λz=>(((z.num:Int),(z.bV:Int)):E))) (nd O.n1) (λe H=>by
   obtain⟨z,b,rfl⟩:=(G.ok.e1 e).1 H;exact bg.2 ⟨z,b,rfl⟩)
  rwa[aF]at this
 have e2:s.E2.length<=s.L.length:=by
  rw[GM G.ok O];exact cr _ _
 exact⟨af,af,af,af⟩
theorem Good.held(G:Good s k):Ey s:=λj h=>by
 unfold keys at h;obtain⟨e,H,rfl⟩:=bg.1 h;obtain⟨z,a,_,rfl⟩:=(G.ok.e2 e).1 H;exact⟨z,a,rfl⟩
theorem Good.more(G:Good s k):Good s (k+1):=⟨G.ok,G.all,G.may,G.fr,G.full,bX G.len⟩
theorem Good.sub(G:Good s k)(o:q7 s')(P:Cp->Bool)(g:Cp->Cp)(b: ∀z,(g z).e=z.e/\(g z).d=z.d/\(g z).bV=z.bV)(a: ∀z∈s.L,KX (g z)/\((g z).ses=0->(g z).dl=0))(c:s'.L=(s.L.filter P).map g)(i:s'.next=s.next):Good s' (k+1):=by
 have m: ∀z∈s'.L,∃y∈s.L,z=g y:=λz a=>by
  rw[c]at a;obtain⟨y,H,rfl⟩:=bg.1 a;exact⟨y,(ba.1 H).1,rfl⟩
 refine⟨o,λz h=> ?_,λz h=> ?_,λz h=> ?_,λe=> ?_,bX G.len⟩
 .obtain⟨y,H,rfl⟩:=m z h;exact(a y H).1
 .obtain⟨y,H,rfl⟩:=m z h;rw[(b y).1,(b y).2.1,(b y).2.2];exact G.may y H
 .obtain⟨y,H,rfl⟩:=m z h;exact(a y H).2
 .have d:kN s'.L e=(kN (s.L.filter P) e).map g:=by
   rw[c];unfold kN;rw[dE];congr 1
   refine dS λz _=> ?_
   show decide ((g z).e=e)=decide (z.e=e);rw[(b z).1]
  rw[d,aF];exact cM ((List.Sublist.filter _ cJ).length_le) (G.full e)
theorem Kb(L:List Cp):L.filter (λ_=>true)=L:=cd.2 λ_ _=>rfl
theorem Good.set(G:Good s k)(o:q7 s'){n:Nat}(h:sR ses dl\/(ses=0/\dl=0))(a:s'.L=nW s.L n ses dl)(b:s'.next=s.next):Good s' (k+1):=by
 refine G.sub o (λ_=>true) (λx=>if x.num=n then { x with ses:=ses,dl:=dl } else x) (λz=>by split<;>exact⟨rfl,rfl,rfl⟩) (λz H=> ?_) (by rw[Kb];exact a) b;split
 .rcases h with h|⟨rfl,rfl⟩
  .exact⟨(G.all z H).BF h,λe=>by have:=h.1;dsimp only at e;omega⟩
  .exact⟨(G.all z H).free,λ_=>rfl⟩
 .exact⟨G.all z H,G.fr z H⟩
theorem Good.out(G:Good s k)(o:q7 s'){P:Cp->Bool}(H:s'.L=s.L.filter P)(a:s'.next=s.next):Good s' (k+1):=
 G.sub o P id (λ_=>⟨rfl,rfl,rfl⟩) (λz h=>⟨G.all z h,G.fr z h⟩) (by rw[List.map_id];exact H) a
instance (ses : Int) (dl : Nat) : Decidable (sR ses dl) := by unfold sR; infer_instance
def Q0(f:OP)(s:CF):CF:=
 if f.kind=0 then jw s f.e f.b f.bV
 else if f.kind=1 then(if sR f.ses f.bV then(match kX s.L f.e with|none=>s|some z=>qC s z f.ses f.bV)else s)
 else if f.kind=2 then pA s f.num f.ses
 else if f.kind=3 then zA s f.num f.ses
 else if f.kind=4 then jo s (f.bV:Int)
 else if f.kind=5 then uM s f.e
 else s
theorem Good.do(G:Good s k)(O:Ord s)(p:0<=f.e.fX)(hk:k<=30000):Good (Q0 f s) (k+1):=by
 unfold Q0;split
 ·
  have o:=G.ok.add f.e f.b f.bV;by_cases h:iK s f.e f.b f.bV=0
  .have E:jw s f.e f.b f.bV= { s with L:=s.L++ [⟨s.next,f.e,f.b,f.bV,0,0⟩],next:=s.next+1,E1:=yT s.E1 (s.next:Int) (f.bV:Int) } :=ag h;have H:xE f.e f.b.length (f.bV:Int)=true/\(kN s.L f.e).length<16:=by
    unfold iK at h;split at h
    .rename_i H;refine⟨H,?_⟩;split at h
     .cases h
     .omega
    .cases h
   have b:cN f.e=true/\f.b.length<=600/\f.bV<=1099511627776:=by
    have:=H.1;unfold xE at this;simp only[aR,Bool.not_eq_true',aY,eL]at this;exact⟨this.1,af,af⟩
   have q:=G.len;rw[E]at o⊢;have m: ∀{Q:Cp->Prop},(∀z∈s.L,Q z)->Q ⟨s.next,f.e,f.b,f.bV,0,0⟩->∀z∈s.L++ [⟨s.next,f.e,f.b,f.bV,0,0⟩],Q z:=λa i z hz=>by
    rcases bN.1 hz with hz|hz
    .exact a z hz
    .obtain rfl:=bK.1 hz;exact i
   refine⟨o,m G.all ⟨b.1,p,b.2.1,by show s.next<=1000000;omega,b.2.2,by show(0:Int)<=0;omega,by show(0:Int)<=1099511627776;omega,by show 0<=1099511627776;omega⟩,m G.may H.1,m G.fr (λ_=>rfl),λe=> ?_,by show s.next+1<=_;omega⟩;show(kN (s.L++ [⟨s.next,f.e,f.b,f.bV,0,0⟩]) e).length<=16;unfold kN;rw[fz,av];have g:=G.full e;have d:=H.2;unfold kN at g d;by_cases c:f.e=e
   .subst c;simp;omega
   .simp[c];exact g
  .have E:jw s f.e f.b f.bV=s:=ae h;rw[E];exact G.more
 split
 ·
  split
  .rename_i H;cases n:kX s.L f.e with
   |none=>exact G.more
   |some z=>exact G.set (G.ok.BF O (GI n).1 H) (.inl H) rfl rfl
  .exact G.more
 split
 ·
  have o:=G.ok.PE O f.num f.ses;unfold pA at o⊢;split
  .rename_i h;rw[ag h]at o;exact G.out o (P:=λx=> !decide ((x.num:Int)=f.num)) rfl rfl
  .exact G.more
 split
 ·
  have o:=G.ok.rel O f.num f.ses;unfold zA at o⊢;split
  .rename_i h;rw[ag h]at o;exact G.set o (.inr ⟨rfl,rfl⟩) rfl rfl
  .exact G.more
 split
 ·
  obtain⟨a,_,j,_,_,l,_⟩:=JY G.ok O (f.bV:Int);refine G.sub a _ (kK (f.bV:Int)) (λz=>by unfold kK;split<;>exact⟨rfl,rfl,rfl⟩) (λz hz=> ?_) l j;unfold kK;split
  .exact⟨(G.all z hz).free,λ_=>rfl⟩
  .exact⟨G.all z hz,G.fr z hz⟩
 split
 ·
  have e:=vW ((kN s.L f.e).map (λz=>(z.num:Int))) s;refine G.out (G.ok.drop O f.e) (P:=λz=> !decide ((z.num:Int)∈(kN s.L f.e).map (λz=>(z.num:Int)))) ?_ ?_
  .unfold uM;rw[e];rfl
  .unfold uM;rw[e]
 .exact G.more

end fU
end
section
variable {h:aj} {R:fj}
variable {x:Int}
theorem AM.walk(a:Cl 223 #[.U x] h λv H=> ∃t7,v=.I t7/\R (.I t7) H):Cl 183 #[.U x] h R:=aN (lq (sq (cq ll lf) ll)) Tryz.func183 a
theorem xF.walk (f:aG (λ(X:Int) (n:Int) (H:aj)=>aG (λ(a:Int) (N:Int) (d:aj)=>aG (λ(b:Int) (g:Int) (e:aj)=>((0:Int)<=wrap .u8 b/\wrap .u8 b<(((⟨#[0,1,2,2,3,3,3,3,4,4,4,4,4,4,4,4,5,5,5,5,5,5,5,5,5,5,5,5,5,5,5,5,6,6,6,6,6,6,6,6,6,6,6,6,6,6,6,6,6,6,6,6,6,6,6,6,6,6,6,6,6,6,6,6,7,7,7,7,7,7,7,7,7,7,7,7,7,7,7,7,7,7,7,7,7,7,7,7,7,7,7,7,7,7,7,7,7,7,7,7,7,7,7,7,7,7,7,7,7,7,7,7,7,7,7,7,7,7,7,7,7,7,7,7,7,7,7,7,8,8,8,8,8,8,8,8,8,8,8,8,8,8,8,8,8,8,8,8,8,8,8,8,8,8,8,8,8,8,8,8,8,8,8,8,8,8,8,8,8,8,8,8,8,8,8,8,8,8,8,8,8,8,8,8,8,8,8,8,8,8,8,8,8,8,8,8,8,8,8,8,8,8,8,8,8,8,8,8,8,8,8,8,8,8,8,8,8,8,8,8,8,8,8,8,8,8,8,8,8,8,8,8,8,8,8,8,8,8,8,8,8,8,8,8,8,8,8,8,8,8,8,8,8,8,8,8]⟩:ByteArray).size:Nat):Int))/\R (.I (wrap .i64 (g+(wrap .i64 ((((⟨#[0,1,2,2,3,3,3,3,4,4,4,4,4,4,4,4,5,5,5,5,5,5,5,5,5,5,5,5,5,5,5,5,6,6,6,6,6,6,6,6,6,6,6,6,6,6,6,6,6,6,6,6,6,6,6,6,6,6,6,6,6,6,6,6,7,7,7,7,7,7,7,7,7,7,7,7,7,7,7,7,7,7,7,7,7,7,7,7,7,7,7,7,7,7,7,7,7,7,7,7,7,7,7,7,7,7,7,7,7,7,7,7,7,7,7,7,7,7,7,7,7,7,7,7,7,7,7,7,8,8,8,8,8,8,8,8,8,8,8,8,8,8,8,8,8,8,8,8,8,8,8,8,8,8,8,8,8,8,8,8,8,8,8,8,8,8,8,8,8,8,8,8,8,8,8,8,8,8,8,8,8,8,8,8,8,8,8,8,8,8,8,8,8,8,8,8,8,8,8,8,8,8,8,8,8,8,8,8,8,8,8,8,8,8,8,8,8,8,8,8,8,8,8,8,8,8,8,8,8,8,8,8,8,8,8,8,8,8,8,8,8,8,8,8,8,8,8,8,8,8,8,8,8,8,8,8]⟩:ByteArray).data.toList.getD (toNat (wrap .u8 b)) 0).toNat:Nat):Int))))) e) (λc=>if(decide (a≥256))then c (Int.fdiv a (2 ^ min (toNat 8) (IntKind.bits .u64))) (wrap .i64 (N+8)) d else c a N d)) (λj=>if(decide (X≥65536))then j (Int.fdiv X (2 ^ min (toNat 16) (IntKind.bits .u64))) (wrap .i64 (n+16)) H else j X n H)) (λJ=>if(decide (x≥4294967296))then J (Int.fdiv x (2 ^ min (toNat 32) (IntKind.bits .u64))) 32 h else J x 0 h)):Cl 223 #[.U x] h R:=aN (lq (sq (lq (.join [(0,.one (.int .u64)),(2,.one (.int .i64))] (cq ll lf))) (sq (lq (.join [(0,.one (.int .u64)),(2,.one (.int .i64))] (cq ll lf))) (sq (lq (.join [(0,.one (.int .u64)),(2,.one (.int .i64))] (cq ll lf))) ll)))) Tryz.func223 f

end
section
namespace gg
open iT
variable {h h':aj} {R:fj} {b:Nat} {X:Ft} {L xs:List Rg} {m n c:Nat} {p:cg}
theorem zH(r:Rg): ∀v∈uB r,fI v=true:=by
 intro v H;simp only[bJ,List.not_mem_nil,or_false]at H;rcases H with rfl|rfl|rfl|rfl|rfl|rfl|rfl<;>rfl
theorem Ql(x y:Rg)(hk: gU h R (.I (if ka x.e y.e=true then -1 else 1))):Cl 132 #[x.val,y.val] h R:=by
 refine vN.walk (bp.box λb1 e e1 a f1=>bp.box λB f e2 d f2=>Gt (r:=x) (f2.get a id) (Gt (r:=y) d (Oq x.e y.e λH f3=>⟨_,rfl,?_⟩)));have K:=hk H (f1.tt (f2.tt f3));by_cases q:ka x.e y.e=true
 .rw[ag q];rw[ag q]at K;exact K
 .rw[ae q];rw[ae q]at K;exact K
theorem tG:nJ Tryz.prog 133 136 7 72 (Rg.zero).val:=⟨cU,cU,rfl⟩
theorem uG:Tryz.prog.underlying 133=some (.slice 136):=cU
def Un(x:Ev×Value):Rg:=
 match x.2 with
 | .agg ⟨[_,_,_,_,_,.int _ a,.int _ b]⟩=>⟨x.1,a,b⟩
 |_=> .zero
abbrev vZ(xs:List Rg):Prop:=(xs.map Rg.e).Nodup
theorem vZ.ne{i j:Nat}{x y:Rg}(f:vZ xs)(H:xs[i]? =some x)(g:xs[j]? =some y)(d:i≠j):x.e≠y.e:=λe=>by
 apply d
 have a:=(aA.1 H).1;exact(dM (l:=xs.map Rg.e) (cy a) f).1 (by rw[aI,aI,H,g];simp[e])
theorem CW(o:fi h p n c 7 (xs.flatMap uB))(e:n=xs.length)(d:xs.length<=1000)(nd:vZ xs)(hk: ∀h' (ys:List Rg),fi h' p n c 7 (ys.flatMap uB)->ys.Perm xs->ys.Pairwise jT->Fr (aL p) h h'->R (.tuple #[]) h'):
  Cl 214 #[.slice p n c,.I 0,.I (n:Int),.func (.func 132) #[] #[]] h R:=by
 subst e;refine jy.Ro.walk ?_;have C: ∀{ys:List Rg},ys.Perm xs->ys.length=xs.length:=λT=>T.length_eq
 refine⟨λt g=> ∃(i:Nat)(ys:List Rg),t=(i:Int)/\1<=i/\(i<=xs.length\/i=1)/\fi g p xs.length c 7 (ys.flatMap uB)/\ys.Perm xs/\jD jT ys 0 i/\Fr (aL p) h g,λt _=>xs.length - t.toNat,⟨1,xs,by rw[bA af af];rfl,af,.inr rfl,o,.refl _,jD.small af,Fr.refl _ _⟩,?_⟩;rintro _ g ⟨i,ys,rfl,Z,h2,B,P,S,F⟩;have ly:=C P;by_cases hi:i<xs.length
 .have q1:(i:Int)<(xs.length:Int):=af
  simp only[q1,bu,bf];refine⟨λt r=> ∃(j:Nat)(zs:List Rg),t=(j:Int)/\j<=i/\fi r p xs.length c 7 (zs.flatMap uB)/\CA jT ys zs 0 i j/\Fr (aL p) h r,λt _=>t.toNat,⟨i,ys,rfl,bk _,B,CA.start S,F⟩,?_⟩;rintro _ s ⟨j,zs,rfl,u,O,I,q⟩;have l:=I.perm.trans P;have lz:=C l;have U:vZ zs:=(l.map Rg.e).nodup_iff.2 nd;obtain⟨D,E,rfl⟩:=O.addr af;refine aG.of λJ f=> ?_
  have stop:(j=0\/∀x y,zs[j]? =some x->zs[j - 1]? =some y->jT y x)->∀G,Fr No s G->J false G:=by
   intro N G f3;subst f;simp only[aq,aJ];rw[bA af af];refine⟨⟨i+1,zs,af,af,.inl af,O.frame f3 cu,l,I.stop sF (bL _) u af N,q.on f3⟩,by show xs.length - Int.toNat ((i:Int)+1)<xs.length - i;omega⟩
  by_cases Q:0<j
  .have q2:(j:Int)>0:=af
   have e1:IntKind.wrap .i64 ((j:Int) - 1)=((j - 1:Nat):Int):=by rw[bA af af];omega
   have H:zs[j]? =some (zs[j]' af):=ai _;have a:zs[j - 1]? =some (zs[j - 1]' af):=ai _;generalize zs[j]' af=x at H;generalize zs[j - 1]' af=y at a;simp only[q2,bu,bf,e1,aD]at f⊢;refine⟨af,ay.2 (bp.yH (O.fL mn H) ⟨af,ay.2 (bp.yH (O.fL mn a) (Ql x y λG f3=>⟨_,rfl,?_⟩))⟩)⟩;by_cases d:ka x.e y.e=true
   .rw[ag d,au af];have k:=O.frame f3 cu;subst f;simp only[bf];refine⟨af,ay.2 (bp.yH (k.fL mn a) ⟨af,ay.2 (bp.yH (k.fL mn H) ⟨af,ay.2 (bp.qc (k.DZ mn (zH y) af λY V s4 q4=>⟨af,ay.2 (bp.qc (V.DZ mn (zH x) (by rw[cY];omega) λM A s5 W=> ?_))⟩))⟩)⟩)⟩;have K:(zs.set j y).set (j - 1) x=swp zs j (j - 1):=P1 H a;rw[K]at A;have f5:Fr (aL (Sa D E)) G M:=⟨af,λz _ e=>by rw[W z e,q4 z e]⟩;exact⟨⟨j - 1,_,rfl,af,A,I.swap Q u af H a d,(q.on f3).tt f5⟩,by show Int.toNat ((j - 1:Nat):Int)<j;omega⟩
   .rw[ae d,az af];refine stop (.inr λx' y' v w=> ?_) G f3;rw[H]at v;rw[a]at w;cases v;cases w;exact(yK (U.ne H a af)).resolve_left d
  .have q2: ¬(j:Int)>0:=af
   simp only[q2,bh,aq,aJ];exact stop (.inl af) s (Fr.refl _ _)
 .have q1: ¬(i:Int)<(xs.length:Int):=af
  simp only[q1,bh,aq,aJ];have:jD jT ys 0 ys.length:=by
   rcases h2 with h2|h2
   .have:i=ys.length:=af
    rw[<-this];exact S
   .exact jD.small af
  exact hk g ys B P this.pair F
theorem CM{x:Int}(hk: ∀n:Int,R (.I n) h):Cl 183 #[.U x] h R:=by
 refine AM.walk (xF.walk (aG.of λJ H=> ?_));have w: ∀n:Int,0<=IntKind.wrap .u8 n/\IntKind.wrap .u8 n<256:=λn=>by rw[IntKind.wrap_u8];omega
 have k: ∀y n,J y n h:=by
  intro y n;subst H;refine aG.of λJ H=> ?_
  have K: ∀y n,J y n h:=by
   intro y n;subst H;refine aG.of λJ H=> ?_
   have a: ∀y n,J y n h:=by
    intro y n;subst H;exact⟨w y,_,rfl,hk _⟩
   split
   .exact a _ _
   .exact a _ _
  split
  .exact K _ _
  .exact K _ _
 split
 .exact k _ _
 .exact k _ _
theorem CQ(o:fi h p n c 7 (xs.flatMap uB))(H:n=xs.length)(i:xs.length<=12)(nd:vZ xs)(hk: ∀h' (ys:List Rg),fi h' p n c 7 (ys.flatMap uB)->ys.Perm xs->ys.Pairwise jT->Fr (aL p) h h'->R (.tuple #[]) h'):
  Cl 131 #[.slice p n c,.func (.func 132) #[] #[]] h R:=by
 subst H;refine jE.Ro.walk (CM λd=>⟨_,rfl,ky.Ro.walk ?_⟩);refine⟨λa b l _ _ g=>a=0/\b=(xs.length:Int)/\l=d/\g=h,λ_ _ _ _ _ _=>0,⟨rfl,rfl,rfl,rfl⟩,?_⟩;rintro _ _ _ w wp _ ⟨rfl,rfl,rfl,rfl⟩;refine aG.of λJ e=> ?_
 rw[bA af af,ag (by simp;omega)];exact CW o rfl af nd λh' ys O P s' f=>⟨rfl,rfl,hk h' ys O P s' f⟩
theorem vY(H:Tb h b X L)(hl:L.length<=12)(hk: ∀h' P C,fi h' P L.length C 7 (L.flatMap uB)->(∀y,aL P y->h.size<=y)->Fr No h h'->R (.slice P L.length C) h'):
  Cl 63 #[.P b 0] h R:=by
 obtain⟨m,H⟩:=H;refine zt.walk (fw H ⟨_,rfl,aG.of λa' K=> ?_⟩);rw[ag rfl];refine⟨_,cE H.cQ rfl,yt mq H.map λit t e1 I f1=>⟨_,rfl,?_⟩⟩;refine⟨λop o O g=> ∃ys:List Rg,o=ys.length/\fi g op o O 7 (ys.flatMap uB)/\(∀y,aL op y->h.size<=y/\y≠it)/\Iter g it m kj (L.map Rg.pair) (ys.map Rg.pair)/\Fr No h g,λ_ o _ _=>L.length - o,
  ⟨[],rfl,.nil rfl rfl rfl rfl,(λy ⟨a,e,_⟩=>by cases e),I,f1⟩,?_⟩
 rintro op o O g ⟨ys,rfl,x,G,q,F⟩;have zy:=F.1;have N:=q.le;rw[aF,aF]at N;refine Br q (λU=> .inl ⟨rfl,?_⟩) (λa v i S c' I s1 o1=> .inr ⟨_,_,rfl,?_⟩)
 .subst K;dsimp only;have j:ys.Perm L:=by
   have e: ∀l:List Rg,(l.map Rg.pair).map Un=l:=λl=>by
    rw[dB];conv=>rhs;rw[<-List.map_id l]
    exact dN (λr _=>rfl)
   have:=U.map Un;rwa[e,e]at this
  have nd:vZ ys:=(j.map Rg.e).nodup_iff.2 (Gu H.so);have Q:=j.length_eq;refine CQ x rfl af nd λJ zs w p3 s3 f3=>⟨rfl,?_⟩
  have:zs=L:=(List.Perm.eq_of_pairwise (le:=jT) (λa b _ _ t D=>by have:=sF t D;rw[mQ]at this;cases this) s3 H.so (p3.trans j));subst this;rw[Q]at w⊢;exact hk J op O w (λy d=>(G y d).1) (F.fresh f3 (λy d=>(G y d).1))
 .obtain⟨r,u,e⟩:=bg.1 S;have E:a=r.e:=(bT Prod.fst e).symm;have ev:v=r.val:=(bT Prod.snd e).symm;subst E ev;refine yx I ⟨_,_,rfl,_,_,_,_,_,_,_,rfl,bp.new λb2 f e2 M f2=>bp.ld M (cG ?_)⟩;have f3:Fr No f (f.push (.cells #[.bool r.e.jI,.U r.e.node,.U r.e.fX,.string r.e.host,.string r.e.jd,.I r.jA,.I r.own] 136)):=Fr.push _ _;have z:Row (f.push (.cells #[.bool r.e.jI,.U r.e.node,.U r.e.fX,.string r.e.host,.string r.e.jd,.I r.jA,.I r.own] 136)) (Sa f.size 0) (uB r):=jl (cs:=uB r);generalize f.push (.cells #[.bool r.e.jI,.U r.e.node,.U r.e.fX,.string r.e.host,.string r.e.jd,.I r.jA,.I r.own] 136)=B at f3 z⊢;have s:Fr (λy=>y=it) g i:=⟨af,λy _ T=>o1 y T⟩;have Z:=(x.frame s (λy d e=>(G y d).2 e)).frame (f2.tt f3) (λ_ _=>id);have k:Fr No h i:=F.fresh s (λy e=>by have:=f1.1;omega);have A:=k.tt (f2.tt f3);have d':i.size<=B.size:=(f2.tt f3).1;have e':it<i.size:=by
   obtain⟨_,_,_,_,_,_,u,_⟩:=I;exact aC u
  refine dY (cs:=ys.flatMap uB) (ds:=uB r) tG uG Z z rfl (zH r) af af λp4 c4 g4 Y _ f4 W=>⟨_,_,_,rfl,?_⟩
  have V: ∀y,aL p4 y->h.size<=y/\y≠it:=by
   intro y d;rcases W y d with h5|h5
   .exact G y h5
   .have:=k.1;exact⟨af,af⟩
  refine⟨⟨ys++ [r],bO,?_,V,?_,A.fresh f4 (λy d=>(G y d).1)⟩,?_⟩
  .rw[cW,List.flatMap_singleton];exact Y
  .rw[aW];have b':m<h.size:=H.map.lt;exact(I.frame (f2.tt f3) id id).frame f4 (λd=>(G it d).2 rfl) (λd=>by have:=(G m d).1;omega)
  .have:=I.le;rw[av,aF,aF,dy]at this;show L.length - (ys.length+1)<L.length - ys.length;omega

end gg
end
section
variable {h:aj} {R:fj}
theorem xG.walk{t:Nat}(p:Cl 63 #[.P t 0] h λv j=>Vl v λM i P=> ∃(I:cg->Nat->Nat->Int->aj->Prop)(m:cg->Nat->Nat->Int->aj->Nat),I none 0 0 0 j/\∀(c:cg)(O o:Nat)(t9:Int)(H:aj),I c O o t9 H->if(decide (t9<(i:Int)))then Bd t9 i/\aM M λa=>bp.LD H (a.add (toNat t9*7)) λq r s u w x y=>aQ H (.cells #[.bool false,.U 0,.U 0,.string gV,.string gV,.I 0,.I 0] 136) λb k=>bp.ST k (AA b 0) q r s u w x y λf=>bp.LD f (AA b 0) λz A C D E F G=>Cl 64 #[.agg #[.bool z,.U A,.U C,.string D,.string E,.I F,.I G]] f λV l=>Vl V λL K J=>aQ l (.cells #[.slice L K J] 22) λB n=>aU Tryz.prog (Builtin.append_ #[64,64] 64 #[.slice c O o,.slice (Sa B 0) 1 1]) n λN g=> ∃e d T,N=.slice e d T/\(I e d T (wrap .i64 (t9+1)) g/\m e d T (wrap .i64 (t9+1)) g<m c O o t9 H)else R (.slice c O o) H):Cl 22 #[.P t 0] h R:=aN (lq (lq (sq (lq (bq (.loop [(3,.one (.slice)),(9,.one (.int .i64))] (lq (sq (cq lf lf) (sq (bq ll) lf)))))) ll))) Tryz.func22 p
theorem EE.walk{r:Bool}{l:Int}{m:Int}{n:ByteArray}{o:ByteArray}{p:Int}{q:Int}(D:aQ h (.cells #[.bool r,.U l,.U m,.string n,.string o,.I p,.I q] 136) λb i=>aw.LD i (AA b 0) λP Q S U V=>Cl 75 #[.agg #[.bool P,.U Q,.U S,.string U,.string V]] i λv H=> ∃t W,v=.tuple #[.string t,.I W]/\Hi H b 5 λt16=>Hi H b 6 λt19=>(Cl 65 #[] H λX d=>Vp X λt11=>Cc d b 6 (.I t19)/\Cc d b 5 (.I t16)/\aU Tryz.prog (convert 9 22 (.string t)) d λb' e=>Vl b' λK I F=>Cc e b 6 (.I t19)/\Cc e b 5 (.I t16)/\Cl 71 #[.pointer t11,.slice K I F] e λc' f=>Vp c' λt14=>Cc f b 6 (.I t19)/\Cc f b 5 (.I t16)/\Cl 66 #[.pointer t14,.I t16] f λd' k=>Vp d' λt17=>Cc k b 6 (.I t19)/\Cl 66 #[.pointer t17,.I t19] k λe' B=>Vp e' λt20=>Cl 67 #[.pointer t20] B λf' C=> ∃x u T,f'=.slice x u T/\R (.slice x u T) C)/\(aU Tryz.prog (convert 9 22 (.string t)) H λg' g=>Vl g' λL J G=>Cc g b 6 (.I t19)/\Cc g b 5 (.I t16)/\Cl 65 #[] g λh' a=>Vp h' λE=>Cc a b 6 (.I t19)/\Cc a b 5 (.I t16)/\Cl 71 #[.pointer E,.slice L J G] a λi' c=>Vp i' λM=>Cc c b 6 (.I t19)/\Cc c b 5 (.I t16)/\Cl 66 #[.pointer M,.I t16] c λY j=>Vp Y λN=>Cc j b 6 (.I t19)/\Cl 66 #[.pointer N,.I t19] j λZ z=>Vp Z λO=>Cl 67 #[.pointer O] z λa' A=> ∃y w s,a'=.slice y w s/\R (.slice y w s) A)/\True):Cl 64 #[.agg #[.bool r,.U l,.U m,.string n,.string o,.I p,.I q]] h R:=aN (lq (lq (sq (.gY (.op 1 (.op 4 (.op 5 (.op 7 (.op 8 (.alts (.fork 0 (.op 2 (.op 3 (.op 6 (.op 9 (.op 10 (.op 11 .done)))))) (.fork 2 (.op 0 (.op 3 (.op 6 (.op 9 (.op 10 (.op 11 .done)))))) .gG))))))))) lf))) Tryz.func64 D

end
section
open Go.fM
namespace gg
open iT iD
variable {h h':aj} {R:fj} {b:Nat} {X:Ft} {L:List Rg} {r:Rg}
def zI(r:Rg):cH:=ga (ia r.e)++dt (fO r.jA)++dt (fO r.own)
structure Q1 (r:Rg):Prop where
 rt:ic r=true
 sv:0<=r.e.fX
theorem Q1.e(k:Q1 r):cN r.e=true/\0<=r.jA/\r.jA<=2/\1<=r.own/\r.own<=1099511627776:=by
 have:=k.rt;unfold ic at this;simp only[aR,Bool.not_eq_true',aY,eL]at this;exact⟨this.1,this.2.2.1.1,this.2.2.1.2,this.2.2.2.1,this.2.2.2.2⟩
theorem MC(k:Q1 r):(zI r).length<=200:=by
 have l0:=qE k.e.1 k.sv;have l1:=(cj (ia r.e).length).2;have l2:=(cj (fO r.jA)).2;have l3:=(cj (fO r.own)).2;unfold zI ga;simp only[av];omega
theorem vX(k:Q1 r)(tb:mD.nE h)(hk: ∀P C h',fi h' P (zI r).length C 1 (bc (zI r))->Fr No h h'->(∀y,aL P y->h.size<=y)->R (.slice P (zI r).length C) h'):Cl 64 #[r.val] h R:=by
 have K:=k.e;refine EE.walk (bp.box λb f eb G f1=>Gt G (iT.oQ r.e (tb.on f1) k.sv λa f2=> ?_));simp only[K.1,bf];refine⟨_,_,rfl,?_⟩;have c:r.at a b:=f2.get G id;have u:=f1.tt f2;have l0:=qE K.1 k.sv;have sz:(str (ia r.e)).size=(ia r.e).length:=hI _;have D:(str (ia r.e)).data.toList=ia r.e:=by unfold str;simp
 have O: ∀g (w:Nat) (S:Nat->Prop) q d,Fr No a g->Wr g w S []->(∀y,S y->a.size<=y)->Row g q (bc (ia r.e))->(∀y,aL q y->¬S y)->aX g (AA b 6)=some (.I r.own)/\aX g (AA b 5)=some (.I r.jA)/\Cl 71 #[.P w 0,.slice q (str (ia r.e)).size d] g λd' m=>
   ∃(t14:cg),d'=.pointer t14/\
   aX m (AA b 6)=some (.I r.own)/\
   aX m (AA b 5)=some (.I r.jA)/\
   Cl 66 #[.pointer t14,.I r.jA] m λe' E=>
   ∃(t17:cg),e'=.pointer t17/\
   aX E (AA b 6)=some (.I r.own)/\
   Cl 66 #[.pointer t17,.I r.own] E λf' a'=>
   ∃(t20:cg),f'=.pointer t20/\
   Cl 67 #[.pointer t20] a' λg' b'=>
   ∃(M:cg)(J T:Nat),g'=.slice M J T/\
   R (.slice M J T) b':=by
  intro g w S q d F W j row hq;have B: ∀{x:Nat->Prop},(∀y,x y->a.size<=y)->¬x b:=λhh hn=>by have:=hh b hn;have:=aC c;omega
  have p:r.at g b:=F.get c id;have zg:=F.1;refine⟨ak p,ak p,iD.oQ W bO row sz af hq λg1 Q Y st1=> ?_⟩;have l: ∀y,Q y->a.size<=y:=λy H=>(st1.new y H).elim (j y) (λf=>af)
  have o:r.at g1 b:=st1.fr.get p (B j);have z1:=st1.fr.1;have lt:=qE K.1 k.sv;have l1:=(cj (ia r.e).length).2;have l2:=(cj (fO r.jA)).2;have l3:=(cj (fO r.own)).2;have el:(ga (ia r.e)).length=(dt (ia r.e).length).length+(ia r.e).length:=by unfold ga;rw[av]
  refine⟨_,rfl,ak o,ak o,ie Y (by rw[cD];omega) af λg2 U Z s=>⟨_,rfl,?_⟩⟩;have A: ∀y,U y->a.size<=y:=λy H=>(s.new y H).elim (l y) (λf=>af)
  have c':r.at g2 b:=s.fr.get o (B l);have z2:=s.fr.1;refine⟨ak c',ie Z (by rw[cD,av];omega) af λg3 V z I=>⟨_,rfl,?_⟩⟩;have i': ∀y,V y->a.size<=y:=λy H=>(I.new y H).elim (A y) (λf=>af)
  have er: []++ga (ia r.e)++dt (fO r.jA)++dt (fO r.own)=zI r:=by unfold zI;rw[cD]
  rw[er]at z;have lr:=MC k;refine jh z af λp4 c4 g4 o4 f4 n=>⟨_,_,_,rfl,?_⟩
  have v:Fr No a g3:=((F.fresh st1.fr j).fresh s.fr l).fresh I.fr A;have z3:=v.1;have zz:=u.1;exact hk p4 c4 g4 o4 (u.tt (v.tt f4)) (λy H=>bX (n y H))
 refine⟨_,ak c,_,ak c,iD.gC λh3 w S W f3 N=>⟨_,rfl,ak (f3.get c id),ak (f3.get c id),QZ λq d i row cq f4 n=>⟨_,_,_,rfl,?_⟩⟩,QZ λq d h3 row cq f3 N=>⟨_,_,_,rfl,ak (f3.get c id),ak (f3.get c id),iD.gC λi w S W f4 n=>⟨_,rfl,?_⟩⟩,trivial⟩
 .rw[D]at row;exact O i w S q d (f3.tt f4) (W.frame f4 cu) N row (λy H t=>gF (n y H) (W.lt y t))
 .rw[D]at row;have z3:=f3.1;refine O i w S q d (f3.tt f4) W (λy H=>bX (n y H)) (row.frame f4 cu) (λy H t=> ?_);have f:=n y t;have a:=iI row (by unfold ia;intro e;have:=bT List.length e;rw[iV]at this;revert this;split<;>(try split)<;>simp) H;omega
theorem uR(H:Tb h b X L)(u:L.length<=12)(ok: ∀r∈L,Q1 r)(T:mD.nE h)(hk: ∀h' p l c,BL h h' p l c (L.map zI)->Fr No h h'->R (.slice p l c) h'):Cl 22 #[.P b 0] h R:=by
 refine xG.walk (vY H u λd P c1 o1 n1 f1=>⟨_,_,_,rfl,?_⟩);refine⟨λop O o t g=> ∃k:Nat,t=(k:Int)/\k<=L.length/\BL d g op O o ((L.take k).map zI)/\Fr No d g,λ_ _ _ t _=>L.length - t.toNat,⟨0,rfl,af,cy BL.nil,Fr.refl _ _⟩,?_⟩;rintro op O o _ g ⟨k,rfl,N,B,f⟩;by_cases w:k<L.length
 .have q1:(k:Int)<((L.length:Nat):Int):=af
  simp only[q1,bu,bf,aD];have a:L[k]? =some L[k]:=ai w;generalize L[k]=v at a;have i:=o1.frame f cu;obtain⟨A,C,rfl⟩:=i.addr af;refine⟨⟨by first|trivial|omega,by first|trivial|omega⟩,ay.2 (bp.yH (i.fL mn a) (bp.new λD J e2 s f2=>bp.ld s ?_))⟩;have m:=f1.tt (f.tt f2);refine vX (r:=v) (ok v (aT a)) (T.on m) λQ E K z f3 n=>⟨_,_,_,rfl,?_⟩
  have Z:=f.1;have U:=f2.1;have bl:=B.len;rw[aF,bE]at bl;have F:=f2.tt f3;refine(B.on F).push (bX F.1) z (λy e=>⟨bX (n y e),λx=>gF (B.lt x) (n y e)⟩) af λS G M j f4 I=>⟨_,_,_,rfl,?_⟩
  rw[bA af af];refine⟨⟨k+1,af,af,?_,?_⟩,by show L.length - Int.toNat ((k:Int)+1)<L.length - k;omega⟩
  .rw[bD,a,aW];exact j
  .obtain⟨_,_,_,_,_,_,_,q⟩:=B;exact(f.tt F).fresh f4 q
 .have q1: ¬(k:Int)<((L.length:Nat):Int):=af
  simp only[q1,bh,aq,aJ];rw[bB af]at B;exact hk g op O o (B.mono f1.1) (f1.tt f)

end gg
end
section
open Go.fM
namespace gg
open iT iD
variable {L:List Rg}
structure Eo (L:List Rg):Prop where
 len:L.length<=8
 all: ∀r∈L,Q1 r
theorem Eo.add(k:Eo L)(r:Rg)(H:0<=r.e.fX):Eo (xB L r):=by
 unfold xB;rcases zx L r with⟨_,e⟩|⟨_,_,e⟩|⟨_,_,_,e⟩|⟨h,_,b,e⟩<;>rw[e]
 .exact k
 .exact k
 .exact k
 .rw[ag rfl];exact⟨by rw[Mi];omega,λz a=>(Et.1 a).elim (λe=>e▸⟨h,H⟩) (k.all z)⟩
theorem Eo.rem(k:Eo L)(x:Ev)(o:Int):Eo (zu L x o):=by
 unfold zu;split
 .exact⟨cM (cr _ _) k.len,λz h=>k.all z (ba.1 h).1⟩
 .exact k
theorem Eo.jA(k:Eo L)(x:Ev)(o q:Int):Eo (Eu L x o q):=by
 unfold Eu;split
 .rename_i H;have a:0<=q/\q<=2:=by
   unfold JM at H;split at H
   .assumption
   .cases H
  refine⟨by unfold Gs;rw[aF];exact k.len,λz c=> ?_⟩;obtain⟨y,b,rfl⟩:=bg.1 c;have K:=k.all y b;split
  .refine⟨?_,K.sv⟩;have h:=K.rt;unfold ic at h⊢;simp only[aR,Bool.not_eq_true',aY,eL]at h⊢;exact⟨h.1,h.2.1,⟨a.1,a.2⟩,h.2.2.2⟩
  .exact K
 .exact k

end gg
end
section
namespace eU
open gD (It)
open iT (Ev cN)
variable {σ:SS} {k:Nat}
variable {l:List It} {s:fU.CF} {owner:Int}
structure Good (σ:SS) (k:Nat):Prop where
 a:fx.pz σ.A
 g:gg.Eo σ.G
 c:fU.Good σ.C k
 b:σ.B.next<=k+1
 v:σ.B.over<=k
 q:σ.Q=σ.B.items
 ok:rV σ.Q
 n:σ.now<=1099511627776
 e:cN σ.e=true/\σ.e≠Ev.zero/\0<=σ.e.fX
 t:σ.tm<=1099511627776/\σ.sq<=1099511627776
 r:σ.rf<=k
def CX(e:Ev):SS:=⟨[], [],⟨[],1,0,0,0, [], []⟩,⟨[],1,0,0,0⟩, [],e,0,0,0,0⟩
theorem Good.new{e:Ev}(H:cN e=true)(a:e≠Ev.zero)(b:0<=e.fX):Good (CX e) 0:=
 ⟨fx.pz.nil,⟨bL _,λ_ h=>(by cases h)⟩,fU.Good.nil,bk _,bk _,rfl,rV.nil,bL _,⟨H,a,b⟩,⟨bL _,bL _⟩,bk _⟩
def rY(s:gD.BS)(now:Nat):gD.BS:= { s with items:=s.items.filter (λx=>decide ((now:Int)<(x.bV:Int))),over:=s.over+(s.items.filter (λx=>decide ((x.bV:Int)<=(now:Int)))).length }
def wZ(σ:SS)(now:Nat):Int:=if now>1099511627776 then 1 else if now<σ.now then 18 else 0
def RY(σ:SS)(now:Nat):SS:= { σ with C:=fU.jo σ.C (now:Int),B:=rY σ.B now,Q:=(rY σ.B now).items,now:=now }
def w4(σ:SS)(now:Nat):SS:=if wZ σ now=0 then RY σ now else σ
theorem rV.filter(ok:rV l)(P:It->Bool):rV (l.filter P):=by
 induction l with
 |nil=>exact ok
 |cons x l i=>
  rw[bZ];split
  .obtain⟨a,b,c,d,e,f⟩:=ok;have t1:wA (l.filter P)<=wA l:=by
    clear i f e d;induction l with
    |nil=>exact dL _
    |cons y l i=>rw[bZ,ji];split<;>(try rw[ji])<;>omega
   have t2: ∀o,own (l.filter P) o<=own l o:=λo=>by
    clear i f e d t1;induction l with
    |nil=>exact dL _
    |cons y l i=>rw[bZ,mh];split<;>(try rw[mh])<;>(try split)<;>omega
   rw[ji]at d e;have n1:=Gi (l:=l.filter P);refine⟨a,b,c,by rw[ji];omega,by rw[ji];omega,λk=>⟨Gj,?_⟩⟩;have:=(f k).2;have:=t2 k;rw[mh]at*;omega
  .exact i ok.sub
theorem MD(G:fU.Good s k)(O:fU.Ord s)(hk:k<=30000)(now:Nat):fU.Good (fU.jo s (now:Int)) (k+1):=by
 have h:=G.do (f:=⟨4,0,0,Ev.zero,none,0, [],now⟩) O (dL 0) hk;unfold fU.Q0 at h;exact h
theorem OJ(G:fU.Good s k)(O:fU.Ord s)(hk:k<=30000)(e:Ev)(H:0<=e.fX)(d:cH)(bV:Nat):fU.Good (fU.jw s e d bV) (k+1):=by
 have h:=G.do (f:=⟨0,0,0,e,none,0,d,bV⟩) O H hk;unfold fU.Q0 at h;exact h
theorem Good.more(G:Good σ k):Good σ (k+1):=⟨G.a,G.g,G.c.more,bX G.b,bX G.v,G.q,G.ok,G.n,G.e,G.t,bX G.r⟩
theorem Good.pass(G:Good σ k)(O:fU.Ord σ.C)(L:List Go.kk.E)(ok:gD.okB σ.B L)(hk:k<=30000)(now:Nat):Good (w4 σ now) (k+1):=by
 unfold w4;split
 .rename_i h;have H:now<=1099511627776:=by
   unfold wZ at h;split at h
   .cases h
   .omega
  have b:=ok.vE;have a:=G.b;have c:(σ.B.items.filter (λx=>decide ((x.bV:Int)<=(now:Int)))).length<=σ.B.items.length:=cr _ _;refine⟨G.a,G.g,MD G.c O hk now,by show σ.B.next<=_;omega,by show σ.B.over+_<=_;omega,rfl,?_,H,G.e,G.t,by have:=G.r;show σ.rf<=_;omega⟩;show rV (σ.B.items.filter _);rw[<-G.q];exact G.ok.filter _
 .exact G.more
abbrev mZ(l:List It)(owner:Int)(n:Nat):Bool:=lu.fits 4800 1600 (wA l) (own l) owner (n:Int)
def xH(σ:SS)(owner:Int)(d:cH)(bV:Nat):Int:=if σ.B.items.length≥16\/mZ σ.Q owner d.length=false then 15 else gD.iK σ.B owner d bV
def GN(σ:SS)(owner:Int)(d:cH)(bV:Nat):Int:=if σ.B.items.length≥16\/mZ σ.Q owner d.length=false then 0 else gD.AG σ.B owner d bV
def nt(σ:SS)(owner:Int)(d:cH)(bV:Nat):SS:=if xH σ owner d bV=0 then { σ with B:=gD.Ep σ.B owner d bV,Q:=(gD.Ep σ.B owner d bV).items } else σ
def BO(σ:SS)(num owner:Int):SS:= { σ with B:=gD.ml σ.B num owner,Q:=(gD.ml σ.B num owner).items }
theorem rV.add{x:It}(ok:rV l)(H:mZ l x.owner x.d.length=true):rV (l++ [x]):=by
 have h:=lu.Ok.take ok H;rw[Ig,show wA l+(x.d.length:Int)=wA (x::l) by rw[ji];omega]at h;exact rV.perm h (dR _ _).symm
theorem BP{d:cH}{bV:Nat}(h:xH σ owner d bV=0):mZ σ.Q owner d.length=true/\gD.iK σ.B owner d bV=0:=by
 unfold xH at h;split at h
 .cases h
 .rename_i H;cases a:mZ σ.Q owner d.length with
  |false=>exact absurd (.inr a) H
  |true=>exact⟨rfl,h⟩
theorem Good.put(G:Good σ k)(owner:Int)(d:cH)(bV:Nat):Good (nt σ owner d bV) (k+1):=by
 unfold nt;split
 .rename_i h;obtain⟨H,a⟩:=BP h;have e:gD.Ep σ.B owner d bV= { σ.B with items:=σ.B.items++ [⟨σ.B.next,owner,d,bV⟩],next:=σ.B.next+1 } :=ag a;rw[e];refine⟨G.a,G.g,G.c.more,by show σ.B.next+1<=_;have:=G.b;omega,by show σ.B.over<=_;have:=G.v;omega,rfl,?_,G.n,G.e,G.t,by show σ.rf<=_;have:=G.r;omega⟩;show rV (σ.B.items++ [_]);rw[<-G.q];exact rV.add G.ok H
 .exact G.more
theorem GO{s:gD.BS}{num:Int}: ∃P:It->Bool,(gD.ml s num owner).items=s.items.filter P/\(gD.ml s num owner).next=s.next/\(gD.ml s num owner).over=s.over:=by
 unfold gD.ml;split
 .exact⟨_,rfl,rfl,rfl⟩
 .exact⟨λ_=>true,(cd.2 λ_ _=>rfl).symm,rfl,rfl⟩
theorem Good.ps(G:Good σ k)(num owner:Int):Good (BO σ num owner) (k+1):=by
 obtain⟨P,h,H,a⟩:=GO (s:=σ.B) (num:=num) (owner:=owner);refine⟨G.a,G.g,G.c.more,by show(gD.ml σ.B num owner).next<=_;rw[H];have:=G.b;omega,by show(gD.ml σ.B num owner).over<=_;rw[a];have:=G.v;omega,rfl,?_,G.n,G.e,G.t,by show σ.rf<=_;have:=G.r;omega⟩;show rV (gD.ml σ.B num owner).items;rw[h,<-G.q];exact G.ok.filter _
theorem Good.lA(G:Good σ k)(token:Nat):Good { σ with A:=fx.lA σ.A token } (k+1):=
 ⟨G.a.open token,G.g,G.c.more,by show σ.B.next<=_;have:=G.b;omega,by show σ.B.over<=_;have:=G.v;omega,G.q,G.ok,G.n,G.e,G.t,by show σ.rf<=_;have:=G.r;omega⟩
theorem Good.Ta(G:Good σ k)(O:fU.Ord σ.C)(hk:k<=30000)(e:Ev)(h:0<=e.fX)(d:cH)(bV:Nat):Good { σ with C:=fU.jw σ.C e d bV } (k+1):=
 ⟨G.a,G.g,OJ G.c O hk e h d bV,by show σ.B.next<=_;have:=G.b;omega,by show σ.B.over<=_;have:=G.v;omega,G.q,G.ok,G.n,G.e,G.t,by show σ.rf<=_;have:=G.r;omega⟩

end eU
end
section
namespace Ask
open iT (Ev cN)
open eU (SS Good)
open Bn (iN pC Prim rE Aq kJ sH xh kT)
open Go.fM (RD)
variable {V:cH→Bool} {σ:SS} {k:Nat} {ses:Int} {q:Rq}
def kY(now eV:Nat):Nat:=min (now+eV) 1099511627776
def oa(σ:SS):Option (Nat×Nat):=if σ.tm<σ.now then some (σ.now,0)else if 1099511627776<=σ.sq then none else some (σ.tm,σ.sq+1)
structure Ot where
 σ:SS
 e:Int
 num:Int
 vE:Int
 d:cH
def bad(σ:SS)(e:Int):Ot:=⟨σ,e,0,0, []⟩
def zJ(σ:SS)(ses:Int)(d:cH)(bV:Nat)(n:Nat×Nat):Ot:=
 if eU.xH σ ses d bV=0 then⟨{ eU.nt σ ses d bV with tm:=n.1,sq:=n.2 },0,eU.GN σ ses d bV,d.length, []⟩else⟨σ,eU.xH σ ses d bV,eU.GN σ ses d bV,d.length, []⟩
def kg(V:cH->Bool)(σ:SS)(ses:Int)(b:pC)(n:Nat×Nat):Ot:=match kJ V b with
 |none=>bad σ 3
 |some d=>zJ σ ses d (kY σ.now b.p.eV) n
def kL(q:Rq)(n:Nat×Nat):pC:=⟨⟨if q.on=true then 131072 else 0,0,q.dest,if q.on=true then q.ep else .zero,⟨q.ep,n.1,n.2⟩,q.eV⟩, [⟨1,1,0,0,q.nj⟩]⟩
def qF(V:cH->Bool)(σ:SS)(ses:Int)(q:Rq):Ot:=
 if gg.jg σ.G q.ep ses=0 then(match oa σ with
  |none=>bad σ 5
  |some n=>kg V σ ses (kL q n) n)
 else bad σ (gg.jg σ.G q.ep ses)
def Kc(V:cH->Bool)(d:cH):Nat:=match sH V d with| .ok b=>(xh b).length| .error _=>0
def PF(σ:SS)(q:Rq):Nat:=kY σ.now q.iA.toNat
def w5(V:cH->Bool)(σ:SS)(ses:Int)(q:Rq):Ot:=
 if gg.jg σ.G q.ep ses=0 then
  if fU.sR ses (PF σ q)then(match fU.kX σ.C.L q.ep with
   |none=>bad σ 4
   |some z=>⟨{ σ with C:=fU.qC σ.C z ses (PF σ q) },0,(z.num:Int),(Kc V z.d:Int),z.d⟩)
  else bad σ 1
 else bad σ (gg.jg σ.G q.ep ses)
def ME(n m:Int):Bool:=IntKind.wrap .u64 ((BitVec.ofInt (IntKind.bits .u64) n &&& BitVec.ofInt (IntKind.bits .u64) m).toNat:Int)==0
def w8(p:Prim):Bool:= !ME (p.fl:Int) 131072 && ME (p.fl:Int) 2
def ko(V:cH->Bool)(σ:SS)(ses:Int)(d:cH):SS×Int:=match sH V d with
 | .error _=>(σ,0)
 | .ok b=>if w8 b.p=true then(match oa σ with
  |none=>(σ,0)
  |some n=>(match kT V ⟨false,true,false,0,σ.now,b.p.id⟩ b.p.rep ⟨σ.e,n.1,n.2⟩ b.p.eV with
   |none=>(σ,0)
   |some r=>((kg V σ ses r n).σ,if(kg V σ ses r n).e=0 then 1 else 0)))
  else(σ,0)
def EF(V:cH->Bool)(σ:SS)(ses:Int)(num:Int):Ot:=
 if fU.km σ.C.L num ses=0 then(match fU.xD σ.C.L num with
  |none=>bad { σ with C:=fU.pA σ.C num ses } 0
  |some z=>⟨(ko V { σ with C:=fU.pA σ.C num ses } ses z.d).1,0,0,(ko V { σ with C:=fU.pA σ.C num ses } ses z.d).2, []⟩)
 else bad σ (fU.km σ.C.L num ses)
def qG(σ:SS)(ses:Int)(on:Bool):Ot:=
 if fx.vL σ.A ses=0 then⟨{ σ with A:=fx.BD (fx.jx σ.A ses on) ses },fx.Md (fx.jx σ.A ses on) ses,0,fx.Ih (fx.jx σ.A ses on) ses,fx.BC (fx.jx σ.A ses on) ses⟩
 else bad σ (fx.vL σ.A ses)
def th(V:cH->Bool)(σ:SS)(ses:Int)(q:Rq):Ot:=
 if q.kind=1 then bad { σ with G:=gg.xB σ.G ⟨q.ep,q.jA,ses⟩ } (gg.iK σ.G ⟨q.ep,q.jA,ses⟩)
 else if q.kind=2 then(if gg.jg σ.G q.ep ses=0 then⟨{ σ with G:=gg.zu σ.G q.ep ses,C:=fU.uM σ.C q.ep },0,0,((fU.kN σ.C.L q.ep).length:Int), []⟩else bad σ (gg.jg σ.G q.ep ses))
 else if q.kind=3 then bad { σ with G:=gg.Eu σ.G q.ep ses q.jA } (gg.JM σ.G q.ep ses q.jA)
 else if q.kind=4 then qF V σ ses q
 else if q.kind=5 then bad (eU.BO σ q.num ses) (gD.mV σ.B q.num ses)
 else if q.kind=6 then⟨σ,gg.jg σ.G q.ep ses,(fU.GK σ.C.L q.ep:Int),0, []⟩
 else if q.kind=7 then w5 V σ ses q
 else if q.kind=8 then EF V σ ses q.num
 else if q.kind=9 then bad { σ with C:=fU.zA σ.C q.num ses } (fU.km σ.C.L q.num ses)
 else if q.kind=10 then qG σ ses q.on
 else bad σ 3
def kZ(id:Nat)(o:Ot):RD:=if o.e=0 then⟨id,0,o.num,o.vE,0,o.d⟩else⟨id,o.e,0,0,0, []⟩
def NP(x:RD):cH:=if x.mc then x.enc else []
def qH(id:Nat)(e:Int):RD:=⟨id,e,0,0,0, []⟩
def oS(V:cH->Bool)(σ:SS)(ses:Int)(q:Rq):SS×RD:=
 if kx q=true/\q.kind<11 then
  if fx.KV σ.A ses=true then(match fx.rW σ.A ses q.id with
   |some b=>(σ,(Go.fM.CB b).getD RD.zero)
   |none=>({ (th V σ ses q).σ with A:=fx.mT (th V σ ses q).σ.A ses q.id (NP (kZ q.id (th V σ ses q))) },kZ q.id (th V σ ses q)))
  else(σ,qH q.id 16)
 else(σ,qH q.id 3)
theorem Good.nW{C:fU.CF}(G:eU.Good σ k)(c:fU.Good C (k+1)):eU.Good { σ with C:=C } (k+1):=
 ⟨G.a,G.g,c,by show σ.B.next<=_;have:=G.b;omega,by show σ.B.over<=_;have:=G.v;omega,G.q,G.ok,G.n,G.e,G.t,by show σ.rf<=_;have:=G.r;omega⟩
theorem Good.mj{A:List fx.fx}(G:eU.Good σ k)(a:fx.pz A):eU.Good { σ with A:=A } k:=⟨a,G.g,G.c,G.b,G.v,G.q,G.ok,G.n,G.e,G.t,G.r⟩
theorem Good.Qm{L:List gg.Rg}(G:eU.Good σ k)(a:gg.Eo L):eU.Good { σ with G:=L } k:=⟨G.a,a,G.c,G.b,G.v,G.q,G.ok,G.n,G.e,G.t,G.r⟩
theorem Good.mk{t s:Nat}(G:eU.Good σ k)(H:t<=1099511627776)(h:s<=1099511627776):eU.Good { σ with tm:=t,sq:=s } k:=⟨G.a,G.g,G.c,G.b,G.v,G.q,G.ok,G.n,G.e,⟨H,h⟩,G.r⟩
theorem zK(G:eU.Good σ k){n:Nat×Nat}(h:oa σ=some n):n.1<=1099511627776/\n.2<=1099511627776:=by
 unfold oa at h;have:=G.n;have:=G.t;split at h
 .cases h;exact⟨by assumption,by show 0<=_;omega⟩
 split at h
 .cases h
 .cases h;exact⟨G.t.1,by show σ.sq+1<=_;omega⟩
theorem Good.zJ(G:eU.Good σ k)(ses:Int)(d:cH)(bV:Nat){n:Nat×Nat}(h:n.1<=1099511627776/\n.2<=1099511627776):eU.Good (zJ σ ses d bV n).σ (k+1):=by
 unfold Ask.zJ;split
 .exact Good.mk (eU.Good.put G ses d bV) h.1 h.2
 .exact eU.Good.more G
theorem Good.kg(G:eU.Good σ k)(ses:Int)(b:pC){n:Nat×Nat}(h:n.1<=1099511627776/\n.2<=1099511627776):eU.Good (kg V σ ses b n).σ (k+1):=by
 unfold Ask.kg;split
 .exact eU.Good.more G
 .exact Good.zJ G _ _ _ h
theorem Good.tell(G:eU.Good σ k)(ses:Int)(d:cH):eU.Good (ko V σ ses d).1 (k+1):=by
 unfold ko;split
 .exact eU.Good.more G
 split
 .split
  .exact eU.Good.more G
  .rename_i n h;split
   .exact eU.Good.more G
   .exact Good.kg G _ _ (zK G h)
 .exact eU.Good.more G
theorem Good.RZ(G:eU.Good σ k)(O:fU.Ord σ.C)(hk:k<=30000)(f:fU.OP)(h:0<=f.e.fX):eU.Good { σ with C:=fU.Q0 f σ.C } (k+1):=Good.nW G (G.c.do O h hk)
theorem Good.th(G:eU.Good σ k)(O:fU.Ord σ.C)(hk:k<=30000)(H:0<=q.ep.fX):eU.Good (th V σ ses q).σ (k+2):=by
 unfold Ask.th;split
 .exact eU.Good.more (eU.Good.more (Good.Qm G (G.g.add _ H)))
 split
 .split
  .have h:=Good.RZ G O hk ⟨5,0,0,q.ep,none,0, [],0⟩ H;exact eU.Good.more (Good.Qm h (G.g.rem _ _))
  .exact eU.Good.more (eU.Good.more G)
 split
 .exact eU.Good.more (eU.Good.more (Good.Qm G (G.g.jA _ _ _)))
 split
 .unfold qF;split
  .split
   .exact eU.Good.more (eU.Good.more G)
   .rename_i n b;exact eU.Good.more (Good.kg G _ _ (zK G b))
  .exact eU.Good.more (eU.Good.more G)
 split
 .exact eU.Good.more (eU.Good.ps G _ _)
 split
 .exact eU.Good.more (eU.Good.more G)
 split
 .unfold w5;split
  .split
   .rename_i a;have h:=Good.RZ G O hk ⟨1,0,ses,q.ep,none,0, [],PF σ q⟩ H;unfold fU.Q0 at h;rw[ae (show¬(1:Int)=0 by decide),ag (show(1:Int)=1 from rfl),ag a]at h;dsimp only at h;split
    .exact eU.Good.more (eU.Good.more G)
    .rename_i z c;rw[c]at h;exact eU.Good.more h
   .exact eU.Good.more (eU.Good.more G)
  .exact eU.Good.more (eU.Good.more G)
 split
 .unfold EF;have h:=Good.RZ G O hk ⟨2,q.num,ses,.zero,none,0, [],0⟩ (dL 0);split
  .split
   .exact eU.Good.more h
   .exact Good.tell h _ _
  .exact eU.Good.more (eU.Good.more G)
 split
 .have h:=Good.RZ G O hk ⟨3,q.num,ses,.zero,none,0, [],0⟩ (dL 0);exact eU.Good.more h
 split
 .unfold qG;split
  .exact eU.Good.more (eU.Good.more (Good.mj G ((G.a.watch _ _).read _)))
  .exact eU.Good.more (eU.Good.more G)
 .exact eU.Good.more (eU.Good.more G)
theorem Good.oS(G:eU.Good σ k)(O:fU.Ord σ.C)(hk:k<=30000)(H:0<=q.ep.fX):eU.Good (oS V σ ses q).1 (k+2):=by
 have h:=Good.th (V:=V) (ses:=ses) G O hk H;have m:=eU.Good.more (eU.Good.more G);unfold Ask.oS;split
 .split
  .split
   .exact m
   .exact Good.mj h (h.a.mi _ _ _)
  .exact m
 .exact m
section
open fx
variable {A : List fx.fx} {m n : Int}
theorem EG{s s':fx.fx}(a:kW A n=some s):kW (mj A n s') m=if m=n then some s' else kW A m:=by
 obtain⟨i,rfl,h⟩:=vK a;have H:=(aA.1 h).1;unfold kW fx.mj;rw[show((i:Int)+1 - 1).toNat=i by omega];by_cases e:m=(i:Int)+1
 .subst e;rw[fY,ag rfl,show((i:Int)+1 - 1).toNat=i by omega,List.getElem?_set_self H]
 .rw[ae e];split
  .rw[List.getElem?_set_ne af]
  .rfl
theorem OK{id:Nat}{d:cH}:KV (mT A n id d) m=KV A m:=by
 unfold mT;split
 .rfl
 .rename_i s h;split
  .rfl
  .unfold KV;rw[EG h];by_cases e:m=n
   .subst e;rw[ag rfl,h]
   .rw[ae e]
end
end Ask
end
section
namespace Ask
open iT (Ev cN)
open eU (SS Good)
open Bn (pC sH)
open Go.fM (RD)
variable {V:cH→Bool} {σ c:SS} {k:Nat} {ses o:Int} {q:Rq} {d:cH} {n:Nat × Nat} {b:pC} {t:Nat}
variable {C:fU.CF}
theorem Qn:(eU.nt σ o d t).C=σ.C:=by unfold eU.nt;split<;>rfl
theorem MF:(kg V σ ses b n).σ.C=σ.C:=by
 unfold kg;split
 .rfl
 .unfold zJ;split
  .exact Qn
  .rfl
theorem Qo:(ko V σ ses d).1.C=σ.C:=by
 unfold ko;repeat (first|rfl|exact MF|split)
def R0(σ c:SS):Prop:=c.G=σ.G/\c.C=σ.C/\c.B=σ.B
theorem R0.rfl:R0 σ σ:=⟨Eq.refl _,Eq.refl _,Eq.refl _⟩
theorem MG(h:(kg V σ ses b n).e≠0):R0 σ (kg V σ ses b n).σ:=by
 revert h;unfold kg;split
 .exact λ_=> .rfl
 .unfold zJ;split
  .exact λh=>absurd (Eq.refl _) h
  .exact λ_=> .rfl
theorem OL(h:(th V σ ses q).e≠0):R0 σ (th V σ ses q).σ:=by
 revert h;unfold th;split
 .exact λh=>⟨ae h,Eq.refl _,Eq.refl _⟩
 split
 .split
  .exact λh=>absurd (Eq.refl _) h
  .exact λ_=> .rfl
 split
 .exact λh=>⟨ae h,Eq.refl _,Eq.refl _⟩
 split
 .unfold qF;split
  .split
   .exact λ_=> .rfl
   .exact MG
  .exact λ_=> .rfl
 split
 .exact λh=>⟨Eq.refl _,Eq.refl _,ae h⟩
 split
 .exact λ_=> .rfl
 split
 .unfold w5;split
  .split
   .split
    .exact λ_=> .rfl
    .exact λh=>absurd (Eq.refl _) h
   .exact λ_=> .rfl
  .exact λ_=> .rfl
 split
 .unfold EF;split
  .split<;>exact λh=>absurd (Eq.refl _) h
  .exact λ_=> .rfl
 split
 .exact λh=>⟨Eq.refl _,ae h,Eq.refl _⟩
 split
 .unfold qG;split<;>exact λ_=> .rfl
 .exact λ_=> .rfl
theorem OM(h:(oS V σ ses q).2.err≠0):R0 σ (oS V σ ses q).1:=by
 revert h;unfold oS;split
 .split
  .split
   .exact λ_=> .rfl
   .intro h;have:(th V σ ses q).e≠0:=λe=>h (by show(kZ _ _).err=0;unfold kZ;rw[ag e])
    exact OL (V:=V) (σ:=σ) (ses:=ses) (q:=q) this
  .exact λ_=> .rfl
 .exact λ_=> .rfl
theorem rh{α:Type}{f:fU.CF->α->fU.CF}(h: ∀s a,(f s a).dx=s.dx): ∀(l:List α)(s:fU.CF),(l.foldl f s).dx=s.dx
 | [],_=>rfl
 |a::l,s=>(rh h l (f s a)).trans (h s a)
theorem MH{x:Ev}:(fU.uM C x).dx=C.dx:=rh (f:=fU.mW) (λ_ _=>rfl) _ _
theorem MI{n:Int}:(fU.jo C n).dx=C.dx:=by
 unfold fU.jo;refine(rh (f:=λ(s:fU.CF) (k:Int)=>fU.pc s k.toNat) (λ_ _=>rfl) _ _).trans ?_;exact rh (f:=fU.jJ) (λ_ _=>rfl) _ { C with E1:=bU.rest C.E1 n }
def Ak(σ c:SS)(q:Rq):Prop:=c.C.dx=σ.C.dx\/(q.kind=8/\c.C.dx=σ.C.dx+1)
theorem ON:Ak σ (th V σ ses q).σ q:=by
 unfold th;split
 .exact .inl rfl
 split
 .split
  .exact .inl MH
  .exact .inl rfl
 split
 .exact .inl rfl
 split
 .unfold qF;split
  .split
   .exact .inl rfl
   .exact .inl (by rw[MF])
  .exact .inl rfl
 split
 .exact .inl rfl
 split
 .exact .inl rfl
 split
 .unfold w5;split
  .split
   .split<;>exact .inl rfl
   .exact .inl rfl
  .exact .inl rfl
 split
 .rename_i h;unfold EF;split
  .rename_i H;have e:(fU.pA σ.C q.num ses).dx=σ.C.dx+1:=by unfold fU.pA;rw[ag H]
   split
   .exact .inr ⟨h,e⟩
   .exact .inr ⟨h,by show(ko _ _ _ _).1.C.dx=_;rw[Qo];exact e⟩
  .exact .inl rfl
 split
 .exact .inl (by show(fU.zA _ _ _).dx=_;unfold fU.zA;split<;>rfl)
 split
 .unfold qG;split<;>exact .inl rfl
 .exact .inl rfl
theorem OO:Ak σ (oS V σ ses q).1 q:=by
 unfold oS;split
 .split
  .split
   .exact .inl rfl
   .exact ON (V:=V) (σ:=σ) (ses:=ses) (q:=q)
  .exact .inl rfl
 .exact .inl rfl
structure Op where
 kind:Int
 ses:Int
 q:Rq
 at_:Nat
 x:Ev
 b:cH
def jU(V:cH->Bool)(σ:SS)(o:Op):SS×RD:=
 if o.kind=0 then oS V σ o.ses o.q
 else if o.kind=1 then(eU.w4 σ o.at_,RD.zero)
 else if o.kind=2 then({ σ with A:=fx.lA σ.A o.at_ },RD.zero)
 else if o.kind=3 then({ σ with A:=fx.zc σ.A o.ses },RD.zero)
 else if o.kind=4 then({ σ with C:=fU.jw σ.C o.x o.b o.at_ },RD.zero)
 else(σ,RD.zero)
theorem MJ{o:Op}(h:o.kind≠0):(jU V σ o).1.C.dx=σ.C.dx:=by
 unfold jU;rw[ae h];split
 .show(eU.w4 _ _).C.dx=_;unfold eU.w4;split
  .exact MI
  .rfl
 split
 .rfl
 split
 .rfl
 split
 .show(fU.jw _ _ _ _).dx=_;unfold fU.jw;split<;>rfl
 .rfl

end Ask
end
section
variable {h:aj} {R:fj}
theorem xI.walk{b:Nat}(P:Cl 70 #[.P b 0] h λv H=> ∃t7,v=.bool t7/\if(!t7)then R (.Z) H else Hi H b 1 λt13=>Hi H b 2 λt18=>Hi H b 3 λt23=>Hi H b 4 λt28=>Hl H b 0 λc t T=>Cl 65 #[] H λf' d=>Vp f' λt9=>Cc d b 0 (.slice c t T)/\Cc d b 4 (.I t28)/\Cc d b 3 (.I t23)/\Cc d b 2 (.I t18)/\Cc d b 1 (.I t13)/\Cl 66 #[.pointer t9,.I t13] d λl' i=>Vp l' λt14=>Cc i b 0 (.slice c t T)/\Cc i b 4 (.I t28)/\Cc i b 3 (.I t23)/\Cc i b 2 (.I t18)/\Cl 66 #[.pointer t14,.I t18] i λm' k=>Vp m' λt19=>Cc k b 0 (.slice c t T)/\Cc k b 4 (.I t28)/\Cc k b 3 (.I t23)/\Cl 66 #[.pointer t19,.I t23] k λn' r=>Vp n' λt24=>Cc r b 0 (.slice c t T)/\Cc r b 4 (.I t28)/\Cl 66 #[.pointer t24,.I t28] r λo' A=>Vp o' λt29=>Cc A b 0 (.slice c t T)/\Cl 66 #[.pointer t29,.I (t:Int)] A λp' C=>Vp p' λt35=>Cc C b 0 (.slice c t T)/\Cl 67 #[.pointer t35] C λq' D=>Vl q' λU S Q=>Cc D b 0 (.slice c t T)/\aQ D (.cells #[.slice U S Q] 22) λF s=>Cc s b 0 (.slice c t T)/\Hl s b 0 λV E t'=> ∃(I:cg->Nat->Nat->Int->aj->Prop)(M:cg->Nat->Nat->Int->aj->Nat),I (Sa F 0) 1 1 0 s/\∀(l:cg)(O o:Nat)(t43:Int)(e:aj),I l O o t43 e->if(decide (t43<(E:Int)))then Bd t43 E/\aM V λa=>aS.LD e (a.add (toNat t43*4)) λW X a' Z Y b'=>aQ e (.cells #[.I 0,.I 0,.Z,.U 0] 119) λB J=>aS.ST J (AA B 0) W X a' Z Y b' λf=>Hi f B 0 λt50=>Hi f B 1 λt53=>Hl f B 2 λp n m=>Hu f B 3 λt59=>Cl 65 #[] f λr' g=>Vp r' λt48=>Cc g B 3 (.U t59)/\Cc g B 2 (.slice p n m)/\Cc g B 1 (.I t53)/\Cc g B 0 (.I t50)/\Cl 66 #[.pointer t48,.I t50] g λs' j=>Vp s' λt51=>Cc j B 3 (.U t59)/\Cc j B 2 (.slice p n m)/\Cc j B 1 (.I t53)/\Cl 66 #[.pointer t51,.I t53] j λg' q=>Vp g' λt54=>Cc q B 3 (.U t59)/\Cc q B 2 (.slice p n m)/\Cl 71 #[.pointer t54,.slice p n m] q λh' y=>Vp h' λt57=>Cc y B 3 (.U t59)/\Cl 72 #[.pointer t57,.U t59] y λi' K=>Vp i' λt60=>Cl 67 #[.pointer t60] K λj' L=>Vl j' λe' d' c'=>aQ L (.cells #[.slice e' d' c'] 22) λG N=>aU Tryz.prog (Builtin.append_ #[64,64] 64 #[.slice l O o,.slice (Sa G 0) 1 1]) N λk' z=> ∃x w u,k'=.slice x w u/\(I x w u (wrap .i64 (t43+1)) z/\M x w u (wrap .i64 (t43+1)) z<M l O o t43 e)else R (.slice l O o) e):Cl 24 #[.P b 0] h R:=aN (lq (sq (lq (cq ll lf)) (sq (.gY (.op 1 (.op 2 (.op 3 (.op 4 (.op 6 (.op 7 (.op 8 (.op 9 (.op 11 (.op 12 (.op 13 (.op 14 (.op 16 (.op 17 (.op 18 (.op 19 (.op 21 (.op 22 (.op 23 (.op 24 (.op 25 (.op 0 (.op 5 (.op 10 (.op 15 (.op 20 (.op 26 (.op 27 (.op 28 (.op 29 .done))))))))))))))))))))))))))))))) (sq (lq (bq (.loop [(3,.one (.slice)),(43,.one (.int .i64))] (lq (sq (cq lf lf) (sq (bq (lq (.gY (.op 0 (.op 2 (.op 3 (.op 5 (.op 6 (.op 8 (.op 9 (.op 11 (.op 12 (.op 1 (.op 4 (.op 7 (.op 10 (.op 13 (.op 14 (.op 15 (.op 16 (.op 17 .done))))))))))))))))))))) lf)))))) ll)))) Tryz.func24 P

end
end Go.Proofs.YtlenamcfacpheaaGreatDoor
