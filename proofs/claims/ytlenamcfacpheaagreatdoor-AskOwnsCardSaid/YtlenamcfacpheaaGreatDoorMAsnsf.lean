/-
  Dz is proved here: parts of wz proof, one behind wz other (texts of this work, merged by a program; FI wz theorem FJ not use is left out). No condition.
-/
import Derived.Test.YtlenamcfacpheaaGreatDoorMAsnse
set_option maxRecDepth 100000
set_option maxHeartbeats 4000000
namespace Go.Proofs.YtlenamcfacpheaaGreatDoor
open Go.Den
open IntKind (wrap)
open Int (toNat)
section
variable {h:aj} {R:fj}
variable {sum V s P:Int} {L e:cg} {l d B f m:Nat} {x:aa.S} {p:aB.S}
theorem pf.walk(H:R (.I (wrap .i64 (2*sum))) h):Cl 285 #[.I sum] h R:=aN (lq ll) Tryz.func285 H
theorem zP.walk (j:aG (λ(t34:Bool) (H:aj)=>if t34 then R (.I (-1)) H else Bd V l/\aM L λa=> ∃t39,aX H ((a.add (toNat V*4)).add 1)=some (.U t39)/\R (.I (wrap .i64 t39)) H) (λJ=>if(decide (V<0))then J true h else if(decide (V≥(l:Int)))then J true h else Bd V l/\aM L λA=> ∃t18,aX h ((A.add (toNat V*4)).add 1)=some (.U t18)/\if(decide (t18>2))then J true h else Bd V l/\aM L λc=>aa.cO h (c.add (toNat V*4)) λt25=>Bd V l/\aM L λi=>gT h ((i.add (toNat V*4)).add 1) λt30=>Cl 205 #[.U t30] h λv b=>aa.EX λt31=>v=t31.agg/\Kp h b [(some (c.add (toNat V*4))),(some ((A.add (toNat V*4)).add 1))]/\Cl 248 #[t25.agg,t31.agg] b λk g=> ∃t32,k=.bool t32/\Kp b g [(some ((A.add (toNat V*4)).add 1))]/\J (!t32) g)):Cl 257 #[.slice L l d,.I V] h R:=aN (lq (sq (sq (.join [(34,.one (.bool))] (pK 30)) (cq ll lf)) ll)) Tryz.func257 j
theorem AO.walk (C:Cl 295 #[.slice L l d] h λv j=>Vl v λF E D=>Cl 285 #[.I sum] j λO q=>Vi O λt14=>aU Tryz.prog (Instr.makeSlice 22 (.I t14) (.I t14)) q λQ r=>Vl Q λJ I G=>Cl 210 #[.slice J I G] r λS u=>aa.EX λt16=>S=t16.agg/\aQ u (.cells t16.arr 262) λb w=>aU Tryz.prog (Builtin.append_ #[260,260] 260 #[.slice F E D,.slice (Sa b 0) 1 1]) w λU y=>Vl U λN M K=>Cl 247 #[.slice N M K] y λW z=>aa.EX λt19=>W=t19.agg/\Cl 178 #[t19.agg] z λX H=> ∃a T t c,X=.tuple #[.slice a T t,.I c]/\if(c !=0)then R (.tuple #[.Z,.I 3]) H else if(sum==1)then Cl 296 #[.slice a T t] H λY A=> ∃t28,Y=.int .u16 t28/\aQ A (.cells #[.int .u8 (wrap .u8 (Int.fdiv t28 (2 ^ min (toNat 8) (IntKind.bits .u16)))),.int .u8 (wrap .u8 t28)] 5) λg k=>R (.tuple #[.slice (Sa g 0) 2 2,.I 0]) k else Cl 297 #[.slice a T t] H λZ n=> ∃t36,Z=.int .u32 t36/\aQ n (.cells #[.int .u8 (wrap .u8 (Int.fdiv t36 (2 ^ min (toNat 24) (IntKind.bits .u32)))),.int .u8 (wrap .u8 (Int.fdiv t36 (2 ^ min (toNat 16) (IntKind.bits .u32)))),.int .u8 (wrap .u8 (Int.fdiv t36 (2 ^ min (toNat 8) (IntKind.bits .u32)))),.int .u8 (wrap .u8 t36)] 5) λi o=>R (.tuple #[.slice (Sa i 0) 4 4,.I 0]) o):Cl 259 #[.slice L l d,.I sum] h R:=aN (lq (lq (sq (lq (cq ll lf)) (sq (lq (cq (lq ll) lf)) (lq ll))))) Tryz.func259 C
theorem CZ.walk (W:aQ h (.cells aa.S.z.arr 262) λb k=>aG (λ(t18:Bool) (w:aj)=>if t18 then aa.dv w (AA b 0) aa.S.z λz=>aa.cO z (AA b 0) λX=>R (.tuple #[X.agg,.I 1]) z else Cl 257 #[.slice L l d,.I V] w λv Q=>Vi v λt22=>aG (λ(t29:Bool) (A:aj)=>if t29 then aa.dv A (AA b 0) aa.S.z λC=>aa.cO C (AA b 0) λY=>R (.tuple #[Y.agg,.I 3]) C else Cl 247 #[.slice L l d] A λf' S=>aa.EX λt32=>f'=t32.agg/\aQ S (.cells aa.S.z.arr 262) λa U=>aa.dv U (AA a 0) t32 λD=>aG (λ(n:aj)=>aa.cO n (AA a 0) λt52=>Cl 207 #[t52.agg] n λg' c=> ∃t53,g'=.bool t53/\if(!t53)then aa.dv c (AA b 0) aa.S.z λo=>aa.cO o (AA b 0) λZ=>R (.tuple #[Z.agg,.I 3]) o else aa.cO c (AA a 0) λt56=>aa.dv c (AA b 0) t56 λq=>aa.cO q (AA b 0) λa'=>R (.tuple #[a'.agg,.I 0]) q) (λi=>if(decide (t22>0))then Cl 259 #[.slice L l d,.I t22] D λh' H=> ∃F E T t,h'=.tuple #[.slice F E T,.I t]/\if(t !=0)then aa.dv H (AA b 0) aa.S.z λr=>aa.cO r (AA b 0) λb'=>R (.tuple #[b'.agg,.I t]) r else Hl H a 3 λe' d' c'=>Cl 210 #[.slice F E T] H λi' g=>aa.EX λt48=>i'=t48.agg/\Kp H g [(Sa a 3)]/\aQ g (.cells t48.arr 262) λM u=>Kp g u [(Sa a 3)]/\aU Tryz.prog (Builtin.append_ #[260,260] 260 #[.slice e' d' c',.slice (Sa M 0) 1 1]) u λj' N=> ∃K I G,j'=.slice K I G/\aO N (AA a 3) (.slice K I G) λO=>i O else i D)) (λj=>Cl 258 #[.slice L l d,.func (.func 256) #[] #[]] Q λk' y=> ∃t25,k'=.bool t25/\if t25 then j true y else j (decide (t22<0)) y)) (λJ=>if(decide (V<0))then J true k else J (decide (V≥(l:Int))) k)):Cl 206 #[.slice L l d,.I V] h R:=aN (lq (sq (sq (.join [(18,.one (.bool))] lf) (cq ll lf)) (lq (lq (sq (sq (.join [(29,.one (.bool))] lf) (cq ll lf)) (lq (sq (lq (.join [] (cq (lq (sq (lq (cq ll lf)) (pK 8))) lf))) (sq (lq (cq ll lf)) ll)))))))) Tryz.func206 W
theorem zQ.walk(c:aQ h (.cells x.arr 262) λb H=>aa.cO H (AA b 0) λt3=>Cl 207 #[t3.agg] H λv a=> ∃t4,v=.bool t4/\R (.bool (!t4)) a):Cl 256 #[x.agg] h R:=aN (lq ll) Tryz.func256 c
theorem C0.walk (hv:aQ h (.cells x.arr 262) λb y=>aG (λ(t18:Bool) (o:aj)=>if t18 then R (.tuple #[.Z,.I 3]) o else∃E D C,Cc o b 3 (.slice E D C)/\Cl 257 #[.slice E D C,.I V] o λv H=> ∃t22,v=.I t22/\if(decide (t22<0))then R (.tuple #[.Z,.I 3]) H else if(t22==0)then∃I G F,Cc H b 3 (.slice I G F)/\Cl 247 #[.slice I G F] H λn' e'=>aa.EX λt31=>n'=t31.agg/\R (.tuple #[.slice t31.vt t31.pq t31.tf,.I 0]) e' else∃h' t g',Cc H b 3 (.slice h' t g')/\∃M K i',Cc H b 3 (.slice M K i')/\((0:Int)<=wrap .i64 (((t:Nat):Int) - 1)/\wrap .i64 (((t:Nat):Int) - 1)<((K:Nat):Int))/\aM M λa=>aa.cO H (a.add (toNat (wrap .i64 (((t:Nat):Int) - 1))*4)) λt41=>aQ H (.cells aa.S.z.arr 262) λc f'=>aa.dv f' (AA c 0) t41 λg=>aG (λ(t60:Bool) (q:aj)=>if t60 then R (.tuple #[.Z,.I 3]) q else∃U l' T,Cc q b 3 (.slice U l' T)/\((0:Int)<=wrap .i64 (((t:Nat):Int) - 1)/\wrap .i64 (((t:Nat):Int) - 1)<=((T:Nat):Int))/\Cl 259 #[.slice (cK U T 0 4) ((toNat (wrap .i64 (((t:Nat):Int) - 1))) - 0) (T - 0),.I t22] q λo' r=> ∃Y X W w,o'=.tuple #[.slice Y X W,.I w]/\if(w !=0)then R (.tuple #[.Z,.I w]) r else∃b' a' Z,Cc r c 2 (.slice b' a' Z)/\Cl 82 #[.slice Y X W,.slice b' a' Z] r λp' u=> ∃t78,p'=.bool t78/\if(!t78)then R (.tuple #[.Z,.I 10]) u else∃c' m' j,Cc u b 3 (.slice c' m' j)/\((0:Int)<=wrap .i64 (((t:Nat):Int) - 1)/\wrap .i64 (((t:Nat):Int) - 1)<=((j:Nat):Int))/\Cl 247 #[.slice (cK c' j 0 4) ((toNat (wrap .i64 (((t:Nat):Int) - 1))) - 0) (j - 0)] u λq' d'=>aa.EX λt84=>q'=t84.agg/\R (.tuple #[.slice t84.vt t84.pq t84.tf,.I 0]) d') (λk=>if(decide ((wrap .i64 (((t:Nat):Int) - 1))<=V))then k true g else aa.cO g (AA c 0) λt46=> ∃Q O N,Cc g c 2 (.slice Q O N)/\Cl 210 #[.slice Q O N] g λr' z=>aa.EX λt49=>r'=t49.agg/\Kp g z [(Sa c 0)]/\Cl 248 #[t46.agg,t49.agg] z λs' i=> ∃t50,s'=.bool t50/\if(!t50)then k true i else∃k' S j',Cc i c 2 (.slice k' S j')/\Cl 285 #[.I t22] i λt' A=> ∃t58,t'=.I t58/\Kp i A [(Sa c 2)]/\k (((S:Nat):Int) !=t58) A)) (λJ=>aa.cO y (AA b 0) λt11=>Cl 207 #[t11.agg] y λu' n=> ∃t12,u'=.bool t12/\if(!t12)then J true n else∃t16,Cc n b 0 (.I t16)/\J (t16 !=4) n)):Cl 244 #[x.agg,.I V] h R:=aN (lq (sq (sq (.join [(18,.one (.bool))] lf) (cq ll lf)) (lq (sq (bq (lq (cq ll (lq (cq ll lf))))) (lq (lq (sq (sq (.join [(60,.one (.bool))] (pK 19)) (cq ll lf)) (lq (sq (bq (lq (cq ll (lq (cq ll lf))))) ll))))))))) Tryz.func244 hv
theorem AP.walk(i:aQ h (.cells p.arr 126) λb H=> ∃t4,Cc H b 0 (.U t4)/\if((wrap .u64 ((mM t4 &&& ~~~ mM 409638).toNat:Int))==0)then∃t9,Cc H b 1 (.I t9)/\if(decide (t9≥0))then∃t14,Cc H b 1 (.I t14)/\if(decide (t14<=2))then aw.cO H (AA b 2) λt19=>Cl 86 #[t19.agg] H λv a=> ∃t20,v=.bool t20/\if t20 then aw.cO a (AA b 7) λt24=>Cl 86 #[t24.agg] a λj c=> ∃t25,j=.bool t25/\if t25 then ah.cO c (AA b 12) λt29=>Cl 237 #[t29.agg] c λk g=> ∃t30,k=.bool t30/\if t30 then∃t34,Cc g b 19 (.U t34)/\R (.bool (decide (t34<=1099511627776))) g else R (.bool false) g else R (.bool false) c else R (.bool false) a else R (.bool false) H else R (.bool false) H else R (.bool false) H):Cl 202 #[p.agg] h R:=aN (lq ll) Tryz.func202 i
theorem AQ.walk(W:aQ h (.cells p.arr 126) λb J=>aQ J (.cells aa.S.z.arr 262) λj w=>aB.cO w (AA b 0) λt11=>Cl 202 #[t11.agg] w λv r=> ∃t12,v=.bool t12/\if(!t12)then aa.dv r (AA j 0) aa.S.z λz=>aa.cO z (AA j 0) λX=>R (.tuple #[X.agg,.I 3]) z else aw.cO r (AA b 2) λt17=>Cl 203 #[t17.agg] r λg' O=>aa.EX λT=> ∃Z,g'=.tuple #[T.agg,.I Z]/\aQ O (.cells aa.S.z.arr 262) λg Q=>aa.dv Q (AA g 0) T λC=>aw.cO C (AA b 7) λt23=>Cl 203 #[t23.agg] C λh' S=>aa.EX λD=> ∃a',h'=.tuple #[D.agg,.I a']/\aQ S (.cells aa.S.z.arr 262) λi U=>aa.dv U (AA i 0) D λt=>ah.cO t (AA b 12) λt29=>Cl 204 #[t29.agg] t λi' K=>aa.EX λE=> ∃b',i'=.tuple #[E.agg,.I b']/\aQ K (.cells aa.S.z.arr 262) λc M=>aa.dv M (AA c 0) E λH=>Hu H b 0 λt35=>Hi H b 1 λt38=>aa.cO H (AA g 0) λt41=>Hl H c 3 λd' c' o'=>Bd 0 c'/\aM d' λa=>aa.cO H (a.add (toNat 0*4)) λt45=>aa.cO H (AA i 0) λt46=>Hl H c 3 λf' e' p'=>Bd 1 e'/\aM f' λA=>aa.cO H (A.add (toNat 1*4)) λt50=>Hu H b 19 λt52=>Cl 205 #[.U 7] H λj' k=>aa.EX λt33=>j'=t33.agg/\Kp H k [(Sa b 19),(some (A.add (toNat 1*4))),(Sa c 3),(Sa i 0),(some (a.add (toNat 0*4))),(Sa c 3),(Sa g 0),(Sa b 1),(Sa b 0)]/\Cl 205 #[.U t35] k λk' n=>aa.EX λt36=>k'=t36.agg/\Kp k n [(Sa b 19),(some (A.add (toNat 1*4))),(Sa c 3),(Sa i 0),(some (a.add (toNat 0*4))),(Sa c 3),(Sa g 0),(Sa b 1)]/\Cl 205 #[.U (wrap .u64 t38)] n λl' o=>aa.EX λt40=>l'=t40.agg/\Kp n o [(Sa b 19),(some (A.add (toNat 1*4))),(Sa c 3),(Sa i 0),(some (a.add (toNat 0*4))),(Sa c 3),(Sa g 0),(Sa b 1)]/\Cl 205 #[.U t52] o λm' q=>aa.EX λt53=>m'=t53.agg/\Kp o q [(some (A.add (toNat 1*4))),(Sa c 3),(Sa i 0),(some (a.add (toNat 0*4))),(Sa c 3),(Sa g 0),(Sa b 1)]/\aQ q (.cells (t33.l++t36.l++t40.l++t41.l++t45.l++t46.l++t50.l++t53.l).toArray 262) λI u=>Kp q u [(Sa c 3),(Sa c 3),(Sa b 1)]/\Cl 206 #[.slice (Sa I 0) 8 8,.I 2] u λn' N=>aa.EX λF=> ∃G,n'=.tuple #[F.agg,.I G]/\aa.dv N (AA j 0) F λy=>aa.cO y (AA j 0) λY=>R (.tuple #[Y.agg,.I G]) y):Cl 177 #[p.agg] h R:=aN (lq (sq (lq (cq ll lf)) (lq (lq (lq (sq (.jP (.op 1 (.op 2 (fJ 3 4 (fJ 12 8 (.op 0 (.op 3 (.op 7 (fJ 3 20 .done))))))))) ll)))))) Tryz.func177 W
theorem C1.walk (hv:aQ h (.cells x.arr 262) λb v'=>aQ v' (.cells aB.S.z.arr 126) λc S=>aa.cO S (AA b 0) λt15=>Cl 244 #[t15.agg,.I 2] S λv n=> ∃T t U' w,v=.tuple #[.slice T t U',.I w]/\if(w !=0)then aB.dv n (AA c 0) aB.S.z λZ=>aB.cO Z (AA c 0) λr0=>R (.tuple #[r0.agg,.I w]) Z else if(((t:Nat):Int) !=8)then aB.dv n (AA c 0) aB.S.z λa'=>aB.cO a' (AA c 0) λR'=>R (.tuple #[R'.agg,.I 3]) a' else Bd 3 t/\aM T λa=>aa.cO n (a.add (toNat 3*4)) λt32=>Cl 245 #[t32.agg] n λV' O'=>aw.EX λc'=> ∃d',V'=.tuple #[c'.agg,.I d']/\aQ O' (.cells aw.S.z.arr 29) λo P'=>aw.dv P' (AA o 0) c' λb'=>Bd 5 t/\aM T λs'=>aa.cO b' (s'.add (toNat 5*4)) λt39=>Cl 245 #[t39.agg] b' λY' Q'=>aw.EX λe'=> ∃f',Y'=.tuple #[e'.agg,.I f']/\aQ Q' (.cells aw.S.z.arr 29) λq w'=>aw.dv w' (AA q 0) e' λk=>aG (λ(id:cg) (g:Int) (H:aj)=>Bd 1 t/\aM T λA=>gT H ((A.add (toNat 1*4)).add 1) λt58=>Bd 2 t/\aM T λy=>gT H ((y.add (toNat 2*4)).add 1) λt62=>aw.cO H (AA o 0) λt64=>aw.cO H (AA q 0) λt65=>aM id λt'=>ah.cO H t' λt66=>Bd 7 t/\aM T λz=>gT H ((z.add (toNat 7*4)).add 1) λt70=>aQ H (.cells aB.S.z.arr 126) λr N=>Kp H N [(some ((z.add (toNat 7*4)).add 1)),id,(Sa q 0),(Sa o 0),(some ((y.add (toNat 2*4)).add 1)),(some ((A.add (toNat 1*4)).add 1))]/\aB.dv N (AA r 0) ⟨t58,(wrap .i64 t62),t64.f0,t64.f1,t64.f2,t64.f3,t64.f4,t65.f0,t65.f1,t65.f2,t65.f3,t65.f4,t66.f0,t66.f1,t66.f2,t66.f3,t66.f4,t66.f5,t66.f6,t70⟩ λO=>aB.cO O (AA r 0) λt73=>Cl 177 #[t73.agg] O λZ' x'=>aa.EX λq'=> ∃r',Z'=.tuple #[q'.agg,.I r']/\aQ x' (.cells aa.S.z.arr 262) λF y'=>aa.dv y' (AA F 0) q' λi=>aG (λ(t96:Bool) (u:aj)=>if t96 then aB.dv u (AA c 0) aB.S.z λQ=>aB.cO Q (AA c 0) λS'=>R (.tuple #[S'.agg,.I 3]) Q else aB.cO u (AA r 0) λt98=>aB.dv u (AA c 0) t98 λU=>aB.cO U (AA c 0) λT'=>R (.tuple #[T'.agg,.I 0]) U) (λj=>if(d' !=0)then j true i else if(f' !=0)then j true i else if(g !=0)then j true i else if(r' !=0)then j true i else aa.cO i (AA F 0) λt92=>aa.cO i (AA b 0) λt93=>Cl 248 #[t92.agg,t93.agg] i λJO z'=> ∃t94,JO=.bool t94/\j (!t94) z')) (λJ=>Bd 4 t/\aM T λC=>aa.cO k (C.add (toNat 4*4)) λt46=>Bd 6 t/\aM T λD=>aa.cO k (D.add (toNat 6*4)) λt49=>(aQ k (.cells (t46.l++t49.l).toArray 262) λG W=>(Cl 247 #[.slice (Sa G 0) 2 2] W λOS X=>aa.EX λt51=>OS=t51.agg/\(Cl 246 #[t51.agg] X λQt A'=>ah.EX λi'=> ∃m',Qt=.tuple #[i'.agg,.I m']/\aQ A' (.cells ah.S.z.arr 124) λI B'=>ah.dv B' (AA I 0) i' λC'=>J (Sa I 0) m' C')/\(aQ X (.cells ah.S.z.arr 124) λK D'=>Cl 246 #[t51.agg] D' λQu E'=>ah.EX λj'=> ∃n',Qu=.tuple #[j'.agg,.I n']/\ah.dv E' (AA K 0) j' λF'=>J (Sa K 0) n' F')/\True)/\(aQ W (.cells ah.S.z.arr 124) λM G'=>Cl 247 #[.slice (Sa G 0) 2 2] G' λQv H'=>aa.EX λg'=>Qv=g'.agg/\Cl 246 #[g'.agg] H' λQw I'=>ah.EX λk'=> ∃o',Qw=.tuple #[k'.agg,.I o']/\ah.dv I' (AA M 0) k' λJ'=>J (Sa M 0) o' J')/\True)/\(aQ k (.cells ah.S.z.arr 124) λE Y=>Kp k Y [(some (D.add (toNat 6*4))),(some (C.add (toNat 4*4)))]/\aQ Y (.cells (t46.l++t49.l).toArray 262) λu' K'=>Cl 247 #[.slice (Sa u' 0) 2 2] K' λW' L'=>aa.EX λh'=>W'=h'.agg/\Cl 246 #[h'.agg] L' λX' M'=>ah.EX λl'=> ∃p',X'=.tuple #[l'.agg,.I p']/\ah.dv M' (AA E 0) l' λN'=>J (Sa E 0) p' N')/\True)):Cl 194 #[x.agg] h R:=aN (lq (lq (sq (bq (lq (cq ll (lq (cq ll lf))))) (lq (lq (sq (.join [(9,.one (.ptr)),(10,.one (.int .i64))] (.jP (fJ 6 0 (.alts (.fork 6 (.alts (.fork 7 (.alts (.fork 8 (fJ 6 9 .done) (.fork 12 (fJ 4 8 (.op 13 (.op 14 .done))) .gG))) (.fork 12 (fJ 5 7 (.op 13 (.op 14 .done))) .gG))) (.fork 12 (fJ 6 6 (.op 13 (.op 14 .done))) .gG)))))) (sq (pK 19) (lq (sq (sq (.join [(96,.one (.bool))] lf) (cq ll lf)) ll))))))))) Tryz.func194 hv
theorem G3.walk (H:if((wrap .u32 ((BitVec.ofInt (IntKind.bits .u32) s &&& BitVec.ofInt (IntKind.bits .u32) 1).toNat:Int))==1)then R (.int .u32 (wrap .u32 ((BitVec.ofInt (IntKind.bits .u32) (Int.fdiv s (2 ^ min (toNat 1) (IntKind.bits .u32))) ^^^ BitVec.ofInt (IntKind.bits .u32) P).toNat:Int))) h else R (.int .u32 (Int.fdiv s (2 ^ min (toNat 1) (IntKind.bits .u32)))) h):Cl 327 #[.int .u32 s,.int .u32 P] h R:=aN (lq (sq (lq (cq ll lf)) ll)) Tryz.func327 H
theorem ES.walk{c:Int}(b: ∃(I:Int->Int->aj->Prop)(M:Int->Int->aj->Nat),I (wrap .u32 ((BitVec.ofInt (IntKind.bits .u32) s ^^^ BitVec.ofInt (IntKind.bits .u32) (wrap .u32 c)).toNat:Int)) 0 h/\∀(S:Int)(t11:Int)(H:aj),I S t11 H->if(decide (t11<8))then Cl 327 #[.int .u32 S,.int .u32 P] H λv a=> ∃t15,v=.int .u32 t15/\(I t15 (wrap .i64 (t11+1)) a/\M t15 (wrap .i64 (t11+1)) a<M S t11 H)else R (.int .u32 S) H):Cl 323 #[.int .u32 s,.int .u8 c,.int .u32 P] h R:=aN (lq (lq (sq (lq (bq (.loop [(0,.one (.int .u32)),(11,.one (.int .i64))] (lq (sq (cq lf lf) (sq (bq lf) lf)))))) ll))) Tryz.func323 b
theorem MV.walk(c: ∃(I:Int->Int->aj->Prop)(M:Int->Int->aj->Nat),I s 0 h/\∀(S:Int)(t11:Int)(H:aj),I S t11 H->if(decide (t11<(B:Int)))then Bd t11 B/\aM e λa=>HR H (a.add (toNat t11*1)) λt14=>Cl 323 #[.int .u32 S,.int .u8 t14,.int .u32 P] H λv b=> ∃t18,v=.int .u32 t18/\(I t18 (wrap .i64 (t11+1)) b/\M t18 (wrap .i64 (t11+1)) b<M S t11 H)else R (.int .u32 S) H):Cl 315 #[.int .u32 s,.slice e B f,.int .u32 P] h R:=aN (lq (sq (lq (bq (.loop [(0,.one (.int .u32)),(11,.one (.int .i64))] (lq (sq (cq lf lf) (sq (bq ll) lf)))))) ll)) Tryz.func315 c
theorem G9.walk (a:Cl 315 #[.int .u32 65535,.slice e B f,.int .u32 33800] h λv H=> ∃t4,v=.int .u32 t4/\R (.int .u16 (wrap .u16 ((BitVec.ofInt (IntKind.bits .u16) (IntKind.max .u16) ^^^ BitVec.ofInt (IntKind.bits .u16) (wrap .u16 t4)).toNat:Int))) H):Cl 296 #[.slice e B f] h R:=aN (lq ll) Tryz.func296 a
theorem Kx.walk (a:Cl 315 #[.int .u32 4294967295,.slice e B f,.int .u32 2197175160] h λv H=> ∃t4,v=.int .u32 t4/\R (.int .u32 (wrap .u32 ((BitVec.ofInt (IntKind.bits .u32) (IntKind.max .u32) ^^^ BitVec.ofInt (IntKind.bits .u32) t4).toNat:Int))) H):Cl 297 #[.slice e B f] h R:=aN (lq ll) Tryz.func297 a
theorem ET.walk{x:ah.S}(c:aQ h (.cells x.arr 124) λb a=>aw.cO a (AA b 0) λt4=>Cl 86 #[t4.agg] a λv H=> ∃t5,v=.bool t5/\if t5 then∃t8,Cc H b 5 (.U t8)/\if(decide (t8<=1099511627776))then∃t13,Cc H b 6 (.U t13)/\R (.bool (decide (t13<=1099511627776))) H else R (.bool false) H else R (.bool false) H):Cl 237 #[x.agg] h R:=aN (lq ll) Tryz.func237 c
theorem EU.walk{a:ah.S}{b:ah.S}(k:aQ h (.cells a.arr 124) λc i=>aQ i (.cells b.arr 124) λg H=>Hu H c 5 λt7=> ∃t9,Cc H g 5 (.U t9)/\if(t7 !=t9)then Hu H c 5 λt12=> ∃t14,Cc H g 5 (.U t14)/\R (.bool (decide (t12<t14))) H else Hu H c 6 λt18=> ∃t20,Cc H g 6 (.U t20)/\if(t18 !=t20)then Hu H c 6 λt23=> ∃t25,Cc H g 6 (.U t25)/\R (.bool (decide (t23<t25))) H else aw.cO H (AA c 0) λt28=>aw.cO H (AA g 0) λt30=>Cl 133 #[t28.agg,t30.agg] H λv j=> ∃t31,v=.bool t31/\R (.bool t31) j):Cl 238 #[a.agg,b.agg] h R:=aN (lq (sq (bq (lq (cq ll (lq (cq ll lf))))) ll)) Tryz.func238 k
theorem EV.walk{x:ah.S}(E:aQ h (.cells x.arr 124) λb y=>aQ y (.cells aa.S.z.arr 262) λc q=>ah.cO q (AA b 0) λt6=>Cl 237 #[t6.agg] q λv i=> ∃t7,v=.bool t7/\if(!t7)then aa.dv i (AA c 0) aa.S.z λr=>aa.cO r (AA c 0) λF=>R (.tuple #[F.agg,.I 3]) r else aw.cO i (AA b 0) λt12=>Cl 203 #[t12.agg] i λI C=>aa.EX λt=> ∃T,I=.tuple #[t.agg,.I T]/\aQ C (.cells aa.S.z.arr 262) λa D=>aa.dv D (AA a 0) t λH=>aa.cO H (AA a 0) λt16=>Hu H b 5 λt18=>Hu H b 6 λt21=>Cl 205 #[.U t18] H λJ j=>aa.EX λt19=>J=t19.agg/\Kp H j [(Sa b 6),(Sa a 0)]/\Cl 205 #[.U t21] j λK k=>aa.EX λt22=>K=t22.agg/\Kp j k [(Sa a 0)]/\aQ k (.cells (t19.l++t22.l).toArray 262) λu g=>Kp k g [(Sa a 0)]/\Cl 247 #[.slice (Sa u 0) 2 2] g λM n=>aa.EX λt24=>M=t24.agg/\Kp g n [(Sa a 0)]/\aQ n (.cells (t16.l++t24.l).toArray 262) λw z=>Cl 247 #[.slice (Sa w 0) 2 2] z λN A=>aa.EX λt26=>N=t26.agg/\aa.dv A (AA c 0) t26 λo=>aa.cO o (AA c 0) λG=>R (.tuple #[G.agg,.I T]) o):Cl 204 #[x.agg] h R:=aN (lq (sq (lq (cq ll lf)) (lq (sq (.jP (fJ 3 0 (.op 4 (.op 5 (.op 11 (.op 3 (fJ 5 6 (.op 12 (.op 13 .done))))))))) lf)))) Tryz.func204 E
theorem Ha.walk (Z:aQ h (.cells x.arr 262) λb Q=>aQ Q (.cells ah.S.z.arr 124) λg H=>aG (λ(t34:Bool) (j:aj)=>if t34 then ah.dv j (AA g 0) ah.S.z λC=>ah.cO C (AA g 0) λr0=>R (.tuple #[r0.agg,.I 3]) C else Hl j b 3 λl' k' y'=>Bd 0 k'/\aM l' λa=>aa.cO j (a.add (toNat 0*4)) λt40=>Cl 245 #[t40.agg] j λv X=>aw.EX λG=> ∃I,v=.tuple #[G.agg,.I I]/\aQ X (.cells aw.S.z.arr 29) λn Y=>aw.dv Y (AA n 0) G λc=>aw.cO c (AA n 0) λt44=>Hl c b 3 λn' m' z'=>Bd 1 m'/\aM n' λA=>te c ((A.add (toNat 1*4)).add 3) λp' o' A'=>Bd 0 o'/\aM p' λr=>gT c ((r.add (toNat 0*4)).add 1) λt52=>Hl c b 3 λr' q' B'=>Bd 1 q'/\aM r' λt=>te c ((t.add (toNat 1*4)).add 3) λt' s' C'=>Bd 1 s'/\aM t' λu=>gT c ((u.add (toNat 1*4)).add 1) λt60=>aQ c (.cells ah.S.z.arr 124) λo D=>Kp c D [(some ((u.add (toNat 1*4)).add 1)),(some ((t.add (toNat 1*4)).add 3)),(Sa b 3),(some ((r.add (toNat 0*4)).add 1)),(some ((A.add (toNat 1*4)).add 3)),(Sa b 3),(Sa n 0)]/\ah.dv D (AA o 0) ⟨t44.f0,t44.f1,t44.f2,t44.f3,t44.f4,t52,t60⟩ λE=>ah.cO E (AA o 0) λt63=>Cl 204 #[t63.agg] E λu' S=>aa.EX λK=> ∃M,u'=.tuple #[K.agg,.I M]/\aQ S (.cells aa.S.z.arr 262) λw U=>aa.dv U (AA w 0) K λi=>aG (λ(t78:Bool) (q:aj)=>if t78 then ah.dv q (AA g 0) ah.S.z λy=>ah.cO y (AA g 0) λa'=>R (.tuple #[a'.agg,.I 3]) y else ah.cO q (AA o 0) λt80=>ah.dv q (AA g 0) t80 λz=>ah.cO z (AA g 0) λb'=>R (.tuple #[b'.agg,.I 0]) z) (λk=>if(I !=0)then k true i else if(M !=0)then k true i else aa.cO i (AA w 0) λt74=>aa.cO i (AA b 0) λt75=>Cl 248 #[t74.agg,t75.agg] i λv' W=> ∃t76,v'=.bool t76/\k (!t76) W)) (λJ=> ∃t10,Cc H b 0 (.I t10)/\if(t10 !=4)then J true H else∃d' T c',Cc H b 3 (.slice d' T c')/\if(((T:Nat):Int) !=2)then J true H else Hl H b 3 λf' e' w'=>Bd 1 e'/\aM f' λN=> ∃t23,aX H (N.add (toNat 1*4))=some (.I t23)/\if(t23 !=4)then J true H else Hl H b 3 λh' g' x'=>Bd 1 g'/\aM h' λO=> ∃j' F i',aX H ((O.add (toNat 1*4)).add 3)=some (.slice j' F i')/\J (((F:Nat):Int) !=2) H)):Cl 246 #[x.agg] h R:=aN (lq (sq (sq (.join [(34,.one (.bool))] lf) (cq ll lf)) (lq (sq (pK 20) (sq (lq (sq (.join [(78,.one (.bool))] lf) (cq ll lf))) ll))))) Tryz.func246 Z
theorem wm.walk{now:Int} (A:aQ h (.cells ah.S.z.arr 124) λb a=>aG (λ(g:aj)=>ah.cO g (AA m 0) λt58=>ah.dv g (AA b 0) t58 λi=>ah.cO i (AA b 0) λC=>R (.tuple #[C.agg,.I 0]) i) (λJ=>aG (λ(t15:Bool) (H:aj)=>aG (λ(w:aj)=>J w) (λq=>if t15 then ah.dv H (AA b 0) ah.S.z λk=>ah.cO k (AA b 0) λD=>R (.tuple #[D.agg,.I 6]) k else aG (λ(y:aj)=>q y) (λr=>if(decide (now>1099511627776))then ah.dv H (AA b 0) ah.S.z λn=>ah.cO n (AA b 0) λE=>R (.tuple #[E.agg,.I 1]) n else Hu H m 5 λt36=>aG (λ(z:aj)=>r z) (λj=>if(decide (now>t36))then aO H (AA m 5) (.U now) λt=>aO t (AA m 6) (.U 0) λu=>j u else∃t52,Cc H m 6 (.U t52)/\if(decide (t52≥1099511627776))then ah.dv H (AA b 0) ah.S.z λc=>ah.cO c (AA b 0) λF=>R (.tuple #[F.agg,.I 5]) c else∃t10,Cc H m 6 (.U t10)/\aO H (AA m 6) (.U (wrap .u64 (t10+1))) λv=>j v)))) (λo=> ∃t22,Cc a m 7 (.bool t22)/\o (!t22) a))):Cl 190 #[.P m 0,.U now] h R:=aN (lq (sq (.join [] (bq (sq (.join [(15,.one (.bool))] lf) (.join [] (cq ll (lq (.join [] (cq ll (lq (.join [] (cq lf (lq (cq ll lf))))))))))))) ll)) Tryz.func190 A
theorem wo.walk{x:ah.S}(n:aQ h (.cells x.arr 124) λb i=>aG (λ(t5:Bool) (c:aj)=>if t5 then R (.I 6) c else aG (λ(t15:Bool) (H:aj)=>if t15 then R (.I 1) H else ah.cO H (AA m 0) λt33=>ah.cO H (AA b 0) λt34=>Cl 238 #[t33.agg,t34.agg] H λv g=> ∃t35,v=.bool t35/\if(!t35)then R (.I 7) g else ah.cO g (AA b 0) λt38=>ah.dv g (AA m 0) t38 λk=>R (.I 0) k) (λj=>ah.cO c (AA b 0) λt16=>Cl 237 #[t16.agg] c λo a=> ∃t17,o=.bool t17/\if(!t17)then j true a else aw.cO a (AA b 0) λt21=>aw.cO a (AA m 0) λt26=> ∃(eq:Bool),xO Tryz.prog 29 (t21.agg) (t26.agg) eq/\j (!eq) a)) (λJ=> ∃t12,Cc i m 7 (.bool t12)/\J (!t12) i)):Cl 189 #[.P m 0,x.agg] h R:=aN (lq (sq (bq (sq (.join [(5,.one (.bool))] lf) (cq ll (sq (.join [(15,.one (.bool))] (pK 14)) (cq ll (sq (pK 8) (cq ll lf))))))) (lq ll))) Tryz.func189 n
theorem Ky.walk{x:aw.S}(Q:aQ h (.cells x.arr 29) λb y=>aQ y (.cells aa.S.z.arr 262) λa k=>aw.cO k (AA b 0) λt5=>Cl 86 #[t5.agg] k λv H=> ∃t6,v=.bool t6/\if(!t6)then aa.dv H (AA a 0) aa.S.z λo=>aa.cO o (AA a 0) λS=>R (.tuple #[S.agg,.I 3]) o else aw.cO H (AA b 0) λt10=> ∃(eq:Bool),xO Tryz.prog 29 (t10.agg) (aw.S.z.agg) eq/\if eq then Cl 205 #[.U 1] H λX K=>aa.EX λt13=>X=t13.agg/\Cl 205 #[.U 0] K λb' M=>aa.EX λt14=>b'=t14.agg/\aQ M (.cells (t13.l++t14.l).toArray 262) λr N=>Cl 247 #[.slice (Sa r 0) 2 2] N λc' O=>aa.EX λt16=>c'=t16.agg/\aa.dv O (AA a 0) t16 λq=>aa.cO q (AA a 0) λT=>R (.tuple #[T.agg,.I 0]) q else∃t19,Cc H b 0 (.bool t19)/\if t19 then Hu H b 1 λt22=>Hu H b 2 λt25=>Cl 205 #[.U 2] H λd' c=>aa.EX λt20=>d'=t20.agg/\Kp H c [(Sa b 2),(Sa b 1)]/\Cl 205 #[.U t22] c λe' g=>aa.EX λt23=>e'=t23.agg/\Kp c g [(Sa b 2)]/\Cl 205 #[.U t25] g λf' z=>aa.EX λt26=>f'=t26.agg/\aQ z (.cells (t23.l++t26.l).toArray 262) λt A=>Cl 247 #[.slice (Sa t 0) 2 2] A λg' C=>aa.EX λt28=>g'=t28.agg/\aQ C (.cells (t20.l++t28.l).toArray 262) λu D=>Cl 247 #[.slice (Sa u 0) 2 2] D λh' E=>aa.EX λt30=>h'=t30.agg/\aa.dv E (AA a 0) t30 λi=>aa.cO i (AA a 0) λU=>R (.tuple #[U.agg,.I 0]) i else aw.cO H (AA b 0) λt32=>Cl 205 #[.U 1] H λi' j=>aa.EX λt31=>i'=t31.agg/\Kp H j [(Sa b 0)]/\Cl 136 #[t32.agg] j λY F=> ∃t33,Y=.string t33/\Cl 255 #[.string t33] F λZ G=>aa.EX λt34=>Z=t34.agg/\aQ G (.cells (t31.l++t34.l).toArray 262) λw I=>Cl 247 #[.slice (Sa w 0) 2 2] I λa' J=>aa.EX λt36=>a'=t36.agg/\aa.dv J (AA a 0) t36 λn=>aa.cO n (AA a 0) λW=>R (.tuple #[W.agg,.I 0]) n):Cl 203 #[x.agg] h R:=aN (lq (sq (bq (lq (cq ll (lq (cq ll (lq (cq (sq (.jP (.op 1 (.op 2 (.op 4 (.op 5 (.op 0 (.op 3 (fJ 7 6 .done)))))))) lf) lf))))))) (sq (.jP (.op 1 (.op 0 (fJ 6 2 .done)))) lf))) Tryz.func203 Q
theorem AR.walk{s:ByteArray}(z:aQ h (.cells aw.S.z.arr 29) λb r=>Cl 312 #[.string s,.string (⟨#[47,47]⟩:ByteArray)] r λv u=> ∃T n,v=.tuple #[.string T,.bool n]/\Cl 313 #[.string T,.string (⟨#[47]⟩:ByteArray)] u λF w=> ∃t o q,F=.tuple #[.string t,.string o,.bool q]/\aQ w (.cells aw.S.z.arr 29) λa y=>aw.dv y (AA a 0) ⟨false,0,0,t,o⟩ λH=>aw.cO H (AA a 0) λt24=>if n then if q then if(!(t.toList==gV.toList))then aw.cO H (AA a 0) λt34=>Cl 86 #[t34.agg] H λG g=> ∃t35,G=.bool t35/\Kp H g [(Sa a 0)]/\aw.dv g (AA b 0) t24 λi=>aw.cO i (AA b 0) λA=>R (.tuple #[A.agg,.bool t35]) i else aw.dv H (AA b 0) t24 λj=>aw.cO j (AA b 0) λC=>R (.tuple #[C.agg,.bool false]) j else aw.dv H (AA b 0) t24 λk=>aw.cO k (AA b 0) λD=>R (.tuple #[D.agg,.bool false]) k else aw.dv H (AA b 0) t24 λc=>aw.cO c (AA b 0) λE=>R (.tuple #[E.agg,.bool false]) c):Cl 286 #[.string s] h R:=aN (lq (lq (lq (lq (sq (pK 15) lf))))) Tryz.func286 z
theorem EW.walk{n:Int}(E:aQ h (.cells x.arr 262) λb g=>aG (λ(t18:Bool) (k:aj)=>if t18 then R (.tuple #[.Z,.bool false]) k else Hl k b 3 λK z S=> ∃(I:cg->Nat->Nat->Int->aj->Prop)(M:cg->Nat->Nat->Int->aj->Nat),I none 0 0 0 k/\∀(j:cg)(O o:Nat)(t22:Int)(H:aj),I j O o t22 H->if(decide (t22<(z:Int)))then Bd t22 z/\aM K λa=>aa.cO H (a.add (toNat t22*4)) λt25=>aQ H (.cells aa.S.z.arr 262) λc C=>aa.dv C (AA c 0) t25 λi=>aa.cO i (AA c 0) λt26=>Hu i c 1 λt28=>Cl 205 #[.U t28] i λv u=>aa.EX λt29=>v=t29.agg/\Kp i u [(Sa c 0)]/\Cl 248 #[t26.agg,t29.agg] u λN q=> ∃t30,N=.bool t30/\if(!t30)then R (.tuple #[.Z,.bool false]) q else Hu q c 1 λt34=>aQ q (.cells #[.U t34] 27) λA D=>aU Tryz.prog (Builtin.append_ #[345,345] 345 #[.slice j O o,.slice (Sa A 0) 1 1]) D λQ w=> ∃r T t,Q=.slice r T t/\(I r T t (wrap .i64 (t22+1)) w/\M r T t (wrap .i64 (t22+1)) w<M j O o t22 H)else R (.tuple #[.slice j O o,.bool true]) H) (λJ=> ∃t10,Cc g b 0 (.I t10)/\if(t10 !=4)then J true g else∃G y F,Cc g b 3 (.slice G y F)/\J (((y:Nat):Int) !=n) g)):Cl 287 #[x.agg,.I n] h R:=aN (lq (sq (sq (.join [(18,.one (.bool))] lf) (cq ll lf)) (lq (sq (lq (bq (.loop [(6,.one (.slice)),(22,.one (.int .i64))] (lq (sq (cq lf lf) (sq (bq (lq (sq (sq (pK 6) (cq ll lf)) lf))) lf)))))) ll)))) Tryz.func287 E
theorem MW.walk (hv:aQ h (.cells x.arr 262) λb x'=>aQ x' (.cells aw.S.z.arr 29) λc a'=>aG (λ(t22:Bool) (H:aj)=>if t22 then aw.dv H (AA c 0) aw.S.z λh'=>aw.cO h' (AA c 0) λr0=>R (.tuple #[r0.agg,.I 3]) h' else aG (λ(S:cg) (rest:cg) (I':aj)=>aQ I' (.cells aw.S.z.arr 29) λk C=>aG (λ(ok:Bool) (D:aj)=>if(!ok)then aw.dv D (AA c 0) aw.S.z λi'=>aw.cO i' (AA c 0) λN'=>R (.tuple #[N'.agg,.I 3]) i' else aw.cO D (AA k 0) λt80=>aw.dv D (AA c 0) t80 λj'=>aw.cO j' (AA c 0) λO'=>R (.tuple #[O'.agg,.I 0]) j') (λn'=>aG (λ(t32:Bool) (n:aj)=>aG (λ(J':Bool) (y':aj)=>n' J' y') (λo'=>if t32 then aw.dv n (AA c 0) aw.S.z λY=>aw.cO Y (AA c 0) λP'=>R (.tuple #[P'.agg,.I 0]) Y else aG (λ(t42:Bool) (g:aj)=>aG (λ(K':Bool) (z':aj)=>o' K' z') (λM=>if t42 then aM rest λa=>te g (a.add 2) λY' X' W'=> ∃(t54:ByteArray),pH Tryz.prog 22 9 (.slice Y' X' W') g t54/\Cl 286 #[.string t54] g λv A'=>aw.EX λl'=> ∃m',v=.tuple #[l'.agg,.bool m']/\aw.dv A' (AA k 0) l' λB'=>M m' B' else aM S λp'=>aa.cO g p' λt59=>Cl 205 #[.U 2] g λRs Z=>aa.EX λt60=>Rs=t60.agg/\Kp g Z [S]/\Cl 248 #[t59.agg,t60.agg] Z λOw r=>Vb Ow λt61=>aG (λ(L':Bool) (C':aj)=>M L' C') (λN=>if t61 then aM rest λq'=>aa.cO r q' λt63=>Cl 287 #[t63.agg,.I 2] r λOA o=> ∃E T Z' F,OA=.tuple #[.slice E T Z',.bool F]/\aG (λ(M':Bool) (D':aj)=>N M' D') (λO=>if F then Bd 0 T/\aM E λr'=>gT o (r'.add (toNat 0*1)) λt70=>Bd 1 T/\aM E λs'=>gT o (s'.add (toNat 1*1)) λt73=>aw.dv o (AA k 0) ⟨true,t70,t73,gV,gV⟩ λb'=>aw.cO b' (AA k 0) λt75=>Cl 86 #[t75.agg] b' λJO E'=> ∃t76,JO=.bool t76/\O t76 E' else O F o)else N false r))) (λK=>aM S λt'=>aa.cO n t' λt43=>Cl 205 #[.U 1] n λOS c'=>aa.EX λt44=>OS=t44.agg/\Kp n c' [S]/\Cl 248 #[t43.agg,t44.agg] c' λQt t=> ∃t45,Qt=.bool t45/\if t45 then aM rest λu'=> ∃t48,aX t u'=some (.I t48)/\K (t48==3) t else K false t))) (λI=>aM S λv'=>aa.cO C v' λt33=>Cl 205 #[.U 1] C λQu d'=>aa.EX λt34=>Qu=t34.agg/\Kp C d' [S]/\Cl 248 #[t33.agg,t34.agg] d' λQv q=> ∃t35,Qv=.bool t35/\if t35 then aM rest λw'=>aa.cO q w' λt37=>Cl 205 #[.U 0] q λQw e'=>aa.EX λt38=>Qw=t38.agg/\Kp q e' [rest]/\Cl 248 #[t37.agg,t38.agg] e' λQx F'=> ∃t39,Qx=.bool t39/\I t39 F' else I false q))) (λG=>Hl H b 3 λT' S' Ur=>Bd 0 S'/\aM T' λi=>aa.cO H (i.add (toNat 0*4)) λt27=>Hl H b 3 λV' U' Us=>Bd 1 U'/\aM V' λA=>aa.cO H (A.add (toNat 1*4)) λt31=>(aQ H (.cells aa.S.z.arr 262) λQ u=>Kp H u [(some (A.add (toNat 1*4))),(Sa b 3),(some (i.add (toNat 0*4))),(Sa b 3)]/\aQ u (.cells aa.S.z.arr 262) λU w=>Kp u w [(some (A.add (toNat 1*4))),(Sa b 3),(some (i.add (toNat 0*4))),(Sa b 3)]/\aa.dv w (AA Q 0) t27 λf'=>Kp w f' [(some (A.add (toNat 1*4))),(Sa b 3)]/\aa.dv f' (AA U 0) t31 λG'=>G (Sa Q 0) (Sa U 0) G')/\(aQ H (.cells aa.S.z.arr 262) λW y=>Kp H y [(some (A.add (toNat 1*4))),(Sa b 3),(some (i.add (toNat 0*4))),(Sa b 3)]/\aQ y (.cells aa.S.z.arr 262) λX z=>Kp y z [(some (A.add (toNat 1*4))),(Sa b 3),(some (i.add (toNat 0*4))),(Sa b 3)]/\aa.dv z (AA X 0) t27 λg'=>Kp z g' [(some (A.add (toNat 1*4))),(Sa b 3)]/\aa.dv g' (AA W 0) t31 λH'=>G (Sa X 0) (Sa W 0) H')/\True)) (λJ=>aa.cO a' (AA b 0) λt9=>Cl 207 #[t9.agg] a' λQy j=> ∃t10,Qy=.bool t10/\if(!t10)then J true j else∃t14,Cc j b 0 (.I t14)/\if(t14 !=4)then J true j else∃R' k' Q',Cc j b 3 (.slice R' k' Q')/\J (((k':Nat):Int) !=2) j)):Cl 245 #[x.agg] h R:=aN (lq (sq (sq (.join [(22,.one (.bool))] lf) (cq ll lf)) (sq (.join [(4,.one (.ptr)),(5,.one (.ptr))] (.jP (fJ 8 0 (.alts (.fork 8 (fJ 3 9 .done) (.fork 9 (.op 8 (.op 10 (.op 11 .done))) .gG)))))) (lq (lq (sq (.join [(7,.one (.bool))] (bq (sq (.join [(32,.one (.bool))] (pK 9)) (.join [(7,.one (.bool))] (cq ll (sq (.join [(42,.one (.bool))] (pK 9)) (.join [(7,.one (.bool))] (cq lf (sq (pK 4) (.join [(7,.one (.bool))] (cq (lq (lq (lq (.join [(7,.one (.bool))] (cq (sq (pK 8) lf) lf))))) lf))))))))))) (sq (lq (cq ll lf)) ll))))))) Tryz.func245 hv

end
section
namespace Bn
open Cb
open iT (Ev cN kj)
variable {h:aj} {R:fj}
variable {n s q c l:Nat} {p:cg} {bs:cH}
theorem Qz(H:n<4294967296):IntKind.wrap .u32 (n:Int)=(n:Int):=by
 have e:IntKind.wrap .u32 (n:Int)=(n:Int)%4294967296:=by simp[IntKind.wrap,IntKind.bits,IntKind.signed]
 rw[e];omega
theorem Th(H:n<4294967296):(BitVec.ofInt (IntKind.bits .u32) (n:Int)).toNat=n:=by
 rw[BitVec.ofInt_natCast,BitVec.toNat_ofNat];exact fW H
theorem MX{a b:Nat}(H:a<4294967296)(d:b<4294967296):IntKind.wrap .u32 ((BitVec.ofInt (IntKind.bits .u32) (a:Int) ^^^ BitVec.ofInt (IntKind.bits .u32) (b:Int)).toNat:Int)=((a ^^^ b:Nat):Int):=by
 rw[BitVec.toNat_xor,Th H,Th d];exact Qz (Nat.xor_lt_two_pow (n:=32) H d)
theorem R4(H:s<4294967296):IntKind.wrap .u32 ((BitVec.ofInt (IntKind.bits .u32) (s:Int) &&& BitVec.ofInt (IntKind.bits .u32) 1).toNat:Int)=((s%2:Nat):Int):=by
 rw[BitVec.toNat_and,Th H,show(BitVec.ofInt (IntKind.bits .u32) 1).toNat=1 from rfl,Nat.and_one_is_mod];exact Qz af
theorem QA(s:Nat):Int.fdiv (s:Int) (2 ^ min (Int.toNat 1) (IntKind.bits .u32))=((s/2:Nat):Int):=MU s 1
theorem Kz(a:s<4294967296)(H:q<4294967296):oP s q<4294967296:=by
 unfold oP;split
 .exact Nat.xor_lt_two_pow (n:=32) (show s/2<2 ^ 32 by omega) H
 .omega
theorem MY(a:s<4294967296)(H:q<4294967296)(hk:R (.int .u32 (oP s q:Int)) h):Cl 327 #[.int .u32 (s:Int),.int .u32 (q:Int)] h R:=by
 refine G3.walk ?_;unfold oP at hk;rw[R4 a,QA,MX af H];by_cases c:s%2=1
 .rw[ag (by rw[c];rfl)];rw[ag c]at hk;exact hk
 .rw[ae (λe=>c (bX (eq_of_beq e)))];rw[ae c]at hk;exact hk
theorem zR(q:Nat): ∀(k s:Nat),qe q (k+1) s=oP (qe q k s) q
 |0,_=>rfl
 |k+1,s=>by
  show qe q (k+1) (oP s q)=oP (qe q k (oP s q)) q;exact zR q k _
theorem zS(a:q<4294967296): ∀(k s:Nat),s<4294967296->qe q k s<4294967296
 |0,_,H=>H
 |k+1,s,H=>zS a k _ (Kz H a)
theorem KA(a:s<4294967296)(f:c<256)(H:q<4294967296)(hk:R (.int .u32 (Pr s c q:Int)) h):Cl 323 #[.int .u32 (s:Int),.int .u8 (c:Int),.int .u32 (q:Int)] h R:=by
 have d:=Nat.xor_lt_two_pow (n:=32) (x:=s) (y:=c) a af;refine ES.walk ⟨λz t g=>g=h/\∃i:Nat,t=(i:Int)/\i<=8/\z=(qe q i (s ^^^ c):Int),λ_ t _=>8 - t.toNat,⟨rfl,0,rfl,af,?_⟩,?_⟩
 .rw[Qz (n:=c) af,MX a af];rfl
 rintro _ _ _ ⟨rfl,i,rfl,j,rfl⟩;have b:=zS H i (s ^^^ c) d;by_cases c1:i<8
 .rw[fY];refine MY b H ⟨_,rfl,?_⟩;rw[bA af af,<-zR];exact⟨⟨rfl,i+1,af,af,rfl⟩,by show 8 - Int.toNat ((i:Int)+1)<8 - Int.toNat (i:Int);omega⟩
 .rw[ae (λe=>c1 (bX (aP e)))];obtain rfl:i=8:=af
  exact hk
theorem C2(a:q<4294967296): ∀(b:cH)(s:Nat),s<4294967296->runN s b q<4294967296
 | [],_,H=>H
 |c::b,s,H=>C2 a b _ (zS a 8 _ (Nat.xor_lt_two_pow (n:=32) H (bX c.toNat_lt)))
theorem MZ(d:s<4294967296)(H:q<4294967296)(row:Row h p (bc bs))(b:l=bs.length)(j:bs.length<=100000000)(hk:R (.int .u32 (runN s bs q:Int)) h):Cl 315 #[.int .u32 (s:Int),.slice p l c,.int .u32 (q:Int)] h R:=by
 subst b;refine MV.walk ⟨λz t g=>g=h/\∃i:Nat,t=(i:Int)/\i<=bs.length/\z=(runN s (bs.take i) q:Int),λ_ t _=>bs.length - t.toNat,⟨rfl,0,rfl,af,by rw[eh];rfl⟩,?_⟩;rintro _ _ _ ⟨rfl,i,rfl,f,rfl⟩;by_cases c1:i<bs.length
 .rw[fY];obtain⟨a,rfl,C⟩:=Cb.byte_at row c1;refine⟨af,ay.2 ⟨_,by rw[aD];exact C,KA (C2 H _ _ d) (bs[i]).toNat_lt H ⟨_,rfl,?_⟩⟩⟩;rw[bA af af];refine⟨⟨rfl,i+1,af,af,?_⟩,by show bs.length - Int.toNat ((i:Int)+1)<bs.length - Int.toNat (i:Int);omega⟩;rw[bD,ai c1];unfold runN;rw[List.foldl_append];rfl
 .rw[ae (λe=>c1 (bX (aP e)))];rw[bB af];exact hk
theorem M0(row:Row h p (bc bs))(a:l=bs.length)(b:bs.length<=100000000)(hk:R (.int .u16 (yL bs:Int)) h):Cl 296 #[.slice p l c] h R:=by
 refine G9.walk (MZ (s:=65535) (q:=33800) dH dH row a b ⟨_,rfl,?_⟩);unfold yL at hk;generalize runN 65535 bs 33800=z at hk⊢;have e:IntKind.wrap .u16 (z:Int)=((z%65536:Nat):Int):=by
  have e:IntKind.wrap .u16 (z:Int)=(z:Int)%65536:=by simp[IntKind.wrap,IntKind.bits,IntKind.signed]
  rw[e];omega
 rw[e];have H:z%65536<65536:=af
 generalize z%65536=y at hk H⊢;have e2:(BitVec.ofInt (IntKind.bits .u16) (IntKind.max .u16) ^^^ BitVec.ofInt (IntKind.bits .u16) (y:Int)).toNat=65535 ^^^ y:=by
  rw[BitVec.toNat_xor,BitVec.ofInt_natCast,BitVec.toNat_ofNat,show(BitVec.ofInt (IntKind.bits .u16) (IntKind.max .u16)).toNat=65535 from rfl,show(2:Nat) ^ IntKind.bits .u16=65536 from rfl,fW H]
 rw[e2];have E:IntKind.wrap .u16 ((65535 ^^^ y:Nat):Int)=((65535 ^^^ y:Nat):Int):=by
  have d:=Nat.xor_lt_two_pow (n:=16) (x:=65535) (y:=y) dH af;have e:IntKind.wrap .u16 ((65535 ^^^ y:Nat):Int)=((65535 ^^^ y:Nat):Int)%65536:=by simp[IntKind.wrap,IntKind.bits,IntKind.signed]
  rw[e];omega
 rw[E];exact hk
theorem OY(row:Row h p (bc bs))(H:l=bs.length)(d:bs.length<=100000000)(hk:R (.int .u32 (wU bs:Int)) h):Cl 297 #[.slice p l c] h R:=by
 refine Kx.walk (MZ (s:=4294967295) (q:=2197175160) dH dH row H d ⟨_,rfl,?_⟩);have:=MX (a:=4294967295) (b:=runN 4294967295 bs 2197175160) dH (C2 dH _ _ dH);rw[show(IntKind.max .u32)=((4294967295:Nat):Int)from rfl,this];exact hk

end Bn
end
section
namespace Cb
variable {h i h':aj} {R:fj} {D D':Nat→Prop}
abbrev CV.s(x:CV):aa.S:=⟨x.k,x.n,x.v.p,x.v.b.length,x.v.c,x.q,x.ll,x.cl⟩
abbrev nv(n:Nat):CV:=⟨0,n,⟨none,0, []⟩,none,0,0⟩
theorem rZ.frame{Q:Nat->Prop}{t:Tr}{x:CV}(H:rZ h D t x)(f:Fr Q h h')(e: ∀y,D y->¬Q y):rZ h' D t x:=by
 obtain⟨⟨a,b,c,d⟩,ys,k,l,j,m⟩:=H;exact⟨⟨a,b,c,d.frame f e⟩,ys,k,l.frame f (λy g=>e y (j y g)),j,dc.frame f (λy g=>e y g.1) m⟩
theorem rZ.mono{t:Tr}{x:CV}(H:rZ h D t x)(hd: ∀y,D y->D' y):rZ h D' t x:=by
 obtain⟨⟨a,b,c,d⟩,ys,f,g,j,k⟩:=H;exact⟨⟨a,b,c,d.mono hd⟩,ys,f,g,λy e=>hd y (j y e),dc.mono (λy e=>⟨hd y e.1,e.2⟩) k⟩
abbrev EY(h:aj)(t:Tr)(x:CV):Prop:=gE h (λ_=>True) t x
abbrev AS(h:aj)(ts:List Tr)(xs:List CV):Prop:=dc h (λ_=>True) ts xs
theorem gE.u{t:Tr}{x:CV}(H:gE h D t x):EY h t x:=H.mono λ_ _=>trivial
theorem dc.u{t:List Tr}{x:List CV}(H:dc h D t x):AS h t x:=H.mono λ_ _=>trivial
theorem rZ.u{t:Tr}{x:CV}(H:rZ h D t x):EY h t x:=H.Q3.u
theorem dc.nil:dc h D [] []:=by unfold dc;trivial
theorem dc.cons{t:Tr}{y:CV}{ts:List Tr}{ys:List CV}(a:gE h D t y)(b:dc h D ts ys):dc h D (t::ts) (y::ys):=by unfold dc;exact⟨a,b⟩
theorem mB{n:Nat}:EY h (num n) (nv n):=Qr.Q3
theorem two{t u:Tr}{x y:CV}(a:gE h D t x)(b:gE h D u y):dc h D [t,u] [x,y]:=.cons a (.cons b .nil)
theorem oh{ys:List CV}{K:Nat->aj->Prop}{c:Array Value}(d:c=(ys.flatMap hT).toArray)(hk: ∀b h',b=h.size->(∀D,D b->mz h' D (Sa b 0) ys.length ys.length ys)->Fr No h h'->K b h'):aQ h (.cells c 262) K:=by
 refine cG (hk _ _ rfl (λD H=>⟨rfl,by rw[d];exact jl,λ_ y ⟨a,e,E⟩=>by cases e;rw[<-E];exact H,bk _⟩) (Fr.push _ _))
theorem oU{ts:List Tr}{ys:List CV}{c:Array Value}{l:Nat}(T:AS h ts ys)(e:dw ts<=100000000)(a:c=(ys.flatMap hT).toArray)(d:l=ys.length)(hk: ∀h' z,rZ h' (λy=>h.size<=y) (rC ts) z->Fr No h h'->R z.agg h'):
  aQ h (.cells c 262) λb g=>Cl 247 #[.slice (Sa b 0) l l] g R:=by
 subst d;refine oh a λb f E L f1=>jF (L (λ_=>True) trivial) (T.on f1) e λH z t f2=>hk H z (t.mono λy j=>bX f1.1) (f1.tt f2)
theorem oQ{s:ByteArray}(hk: ∀h' (v:BV),v.b=s.data.toList->v.ok h' (λy=>h.size<=y)->Fr No h h'->R (CV.agg ⟨3,0,v,none,0,0⟩) h'):Cl 255 #[.string s] h R:=by
 refine Kr.walk (aa.box λb m k d f1=>iD.QZ λp c g row f f2 n=>⟨_,_,_,rfl,aa.set (f2.get d id) λH d1 d2 d3=>aa.ld d1 ?_⟩);have f3:Fr (λy=>y=b) g H:=Fr.of_eq d2 (λc f=>d3 c f);have z:=f1.1;have Z:=aC d;have e:s.size=s.data.toList.length:=(iT.kf s).symm;have ok:BV.ok H (λy=>h.size<=y) ⟨p,c,s.data.toList⟩:=by
  refine⟨?_,λ_ y j=>bX (n y j),by show s.data.toList.length<=c;omega⟩;by_cases q:s.data.toList= []
  .show Row H p (bc s.data.toList);rw[q];exact Row.nil
  .exact row.frame f3 (λa E l=>bX (n a.block ⟨a,E,rfl⟩))
 have:=hk H ⟨p,c,s.data.toList⟩ rfl ok ((f1.tt f2).fresh f3 (λy e=>af));unfold CV.agg hT BV.val at this;rw[e];exact this
end Cb
namespace Bn
open Cb
open iT (Ev cN kj)
variable {V : List UInt8 → Bool} {h i h' : aj} {R : Value → aj → Prop} {D : Nat → Prop}
abbrev _root_.Go.Proofs.YtlenamcfacpheaaGreatDoor.iT.Ev.s(x:Ev):aw.S:=⟨x.jI,x.node,x.fX,x.host,x.jd⟩
theorem fin{b:Nat}{y:aa.S}{z:CV}{t:Tr}{K:aa.S->aj->Prop}(a:aa.fV h b y)(T:rZ h D t z)(H: ∀y,D y->y≠b)(hk: ∀h',rZ h' D t z->Fr (λy=>y=b) h h'->K z.s h'):
  aa.dv h (AA b 0) z.s λg=>aa.cO g (AA b 0) λr=>K r g:=
 aa.hM (x:=z.s) a λg d1 f _=>aa.fR d1 (hk g (T.frame f H) f)
theorem C4{b:Nat}{y:aa.S}{K:aa.S->aj->Prop}(H:aa.fV h b y)(hk: ∀h',Fr (λy=>y=b) h h'->K .z h'):
  aa.dv h (AA b 0) .z λg=>aa.cO g (AA b 0) λr=>K r g:=
 aa.hM H λg d1 f _=>aa.fR d1 (hk g f)
theorem lU(x:Ev)(H:cN x=true):room (AB x)<=200:=by
 unfold AB;split
 .simp[room,dw]
 .rename_i z;split
  .simp[room,dw]
  .rename_i a;unfold cN at H;rw[ae z,ae a]at H;simp only[aR,aY]at H;have:=iT.kf x.host;have:=iT.kf x.jd;simp only[room,dw,D8,av,aV,bm];omega
abbrev zv:CV:=⟨0,0,⟨none,0, []⟩,none,0,0⟩
theorem wu(x:Ev)(w1:0<=x.fX)(K:cN x=true->∀h' z,rZ h' (λy=>h.size<=y) (AB x) z->Fr No h h'->R (.tuple #[z.agg,.I 0]) h')(s:cN x=false->gU h R (.tuple #[zv.agg,.I 3])):Cl 203 #[kj x] h R:=by
 refine Ky.walk (x:=x.s) (aw.db λb C A l f1=>aa.db λb1 P B m f2=>aw.fR (f2.get l id) (iT.fc x λk f3=>⟨_,rfl,?_⟩));have c:=(f2.tt f3).get l id;have o:=f3.get m id;have F:=f1.tt (f2.tt f3);have Z:=f1.1;have X:=aC m;have W:=f3.1;have done: ∀g z,cN x=true->rZ g (λy=>k.size<=y) (AB x) z->Fr No k g->aa.dv g (AA b1 0) z.s λa=>aa.cO a (AA b1 0) λw=>R (.tuple #[w.agg,.I 0]) a:=λg z H T j=>
  fin (j.get o id) T (λy f e=>af) λa t4 f4=>K H a z (t4.mono λy f=>af) ((F.tt j).fresh f4 (λy e=>af))
 cases H:cN x with
 |false=>exact C4 o λa f4=>s H a (F.fresh f4 (λy e=>af))
 |true=>
  have done:=λg z=>done g z H
  rw[dj];refine aw.fR c ⟨_,iT.tW (y:=.zero) (x:=x) rfl rfl,?_⟩;have E:room (AB x)<=200:=lU x H;unfold AB at done E;unfold cN at H;by_cases z:x=.zero
  .rw[ag (au z)];simp only[ag z]at done;exact fN (n:=1) λS f5=>aa.ex (nv 1).s ⟨rfl,fN (n:=0) λU f6=>aa.ex (nv 0).s ⟨rfl,oU (two mB mB) (by simp[room,dw]) rfl rfl λr y ty f7=>aa.ex y.s ⟨rfl,done r y (ty.mono λy f=>gF f5.1 f6.1) (f5.tt (f6.tt f7))⟩⟩⟩
  rw[ae (cy z)];rw[ae z]at H;simp only[ae z]at done E;refine⟨_,ak c,?_⟩;by_cases d:x.jI=true
  .rw[ag d]at H⊢;simp only[ag d]at done;have H:=aP H;have n1:x.node=(x.node.toNat:Int):=af
   have n2:x.fX=(x.fX.toNat:Int):=af
   refine⟨_,ak c,_,ak c,fN (n:=2) λG f10=>aa.ex (nv 2).s ⟨rfl,f10.kp,?_⟩⟩;dsimp only;rw[n1];refine fN λI f11=>aa.ex (nv x.node.toNat).s ⟨rfl,f11.kp,?_⟩
   rw[n2];refine fN λJ f12=>aa.ex (nv x.fX.toNat).s ⟨rfl,oU (two mB mB) (by simp[room,dw]) rfl rfl λL y ty f14=>aa.ex y.s ⟨rfl,oU (ys:= [nv 2,y]) (two mB ty.u) (by simp[room,dw]) rfl rfl λp u t f16=>aa.ex u.s ⟨rfl,?_⟩⟩⟩
   exact done p u (t.mono λy f=>by have:=f10.1;have:=f11.1;have:=f12.1;have:=f14.1;omega) (f10.tt (f11.tt (f12.tt (f14.tt f16))))
  .rw[ae d]at H⊢;simp only[ae d]at done E;simp only[aR,aY]at H;refine aw.fR c (fN (n:=1) λM f18=>aa.ex (nv 1).s ⟨rfl,f18.kp,iT.Ip x af af λN f19=>⟨_,rfl,oQ λQ v ev O f20=>aa.ex (CV.s ⟨3,0,v,none,0,0⟩) ⟨rfl,?_⟩⟩⟩);have ev:v.b=D8 x:=by rw[ev];unfold str;simp[D8]
   refine oU (ts:= [num 1,.mk 3 0 (D8 x) []]) (ys:= [nv 1,⟨3,0,v,none,0,0⟩]) (two mB (ev▸BQ O).u) (by simp only[room,bm]at E⊢;omega) rfl rfl λq u t f22=>aa.ex u.s ⟨rfl,?_⟩
   exact done q u (t.mono λy f=>r7 f18.1 f19.1 f20.1) (f18.tt (f19.tt (f20.tt f22)))
end Bn
end
section
namespace Bn
open Cb
open iT (Ev cN kj)
variable {V:cH→Bool} {h d h':aj} {R:fj} {D:Nat→Prop}
variable {b i off:Nat} {x:CV} {c:Array Value} {ts:List Tr} {t:Tr} {ty:TypeId}
theorem Ti{l:List (cg)}(f:Fr (λy=>y=b) h h')(a: ∀p∈l,p.map (·.block)≠some b):Kp h h' l:=f.SB λp g x e H=>a p g (by rw[e];exact bT some H)
theorem Hc{y:aw.S}{x:Ev}{K:aw.S->aj->Prop}(H:aw.fV h b y)(hk: ∀h',Fr (λy=>y=b) h h'->K x.s h'):
  aw.dv h (AA b 0) x.s λg=>aw.cO g (AA b 0) λr=>K r g:=
 aw.hM (x:=x.s) H λg d1 f _=>aw.fR d1 (hk g f)
theorem QB(l:cH):(!((⟨l.toArray⟩:ByteArray).toList==gV.toList))= !l.isEmpty:=by
 rw[toList_data,toList_data];cases l<;>simp
theorem C6{s:ByteArray}(mx:mD.Mx h)(z:s.size<1000000)(hk: gU h R (.tuple #[kj (wV s.data.toList),.bool (tY s.data.toList)])):Cl 286 #[.string s] h R:=by
 refine AR.walk (aw.db λb w u m f1=>mD.Jz ⟨_,_,rfl,mD.CG (mx.on f1) ?_ ⟨_,_,_,rfl,aw.gh λb1 a v H f5=>aw.fR H ?_⟩⟩)
 .show(Lib.trimPrefix s.data.toList _).length<_;have:=iT.kf s;unfold Lib.trimPrefix;split
  .rw[bQ];omega
  .omega
 have E:(⟨(Lib.trimPrefix s.data.toList (⟨#[47,47]⟩:ByteArray).data.toList).toArray⟩:ByteArray).data.toList=Lib.trimPrefix s.data.toList [47,47]:=bO
 rw[E]at H⊢;rw[show(⟨#[47]⟩:ByteArray).data.toList= [47]from rfl]at H⊢;rw[show(⟨#[47,47]⟩:ByteArray).data.toList= [47,47]from rfl];have ex:(⟨false,0,0,⟨(Lib.cut (Lib.trimPrefix s.data.toList [47,47]) [47]).1.toArray⟩,⟨(Lib.cut (Lib.trimPrefix s.data.toList [47,47]) [47]).2.1.toArray⟩⟩:aw.S)=(wV s.data.toList).s:=rfl;rw[ex]at H⊢;have Z:=f1.1;have n:=f1.tt f5;have A:=aC m;have p:=f5.get m id;have done: ∀g q,Fr No a g->q=tY s.data.toList->aw.dv g (AA b 0) (wV s.data.toList).s λG=>aw.cO G (AA b 0) λr=>R (.tuple #[r.agg,.bool q]) G:=λg q F e=>
  Hc (F.get p id) λG f=>by rw[e];exact hk G ((n.tt F).fresh f (λy e=>af))
 rw[QB];cases j:Lib.hasPrefix s.data.toList [47,47]with
 |false=>exact done a _ (Fr.refl _ _) (by unfold tY;rw[j];rfl)
 |true=>
  rw[ag rfl];cases k:(Lib.cut (Lib.trimPrefix s.data.toList [47,47]) [47]).2.2 with
  |false=>exact done a _ (Fr.refl _ _) (by unfold tY;rw[j,k];rfl)
  |true=>
   rw[ag rfl];cases l:(Lib.cut (Lib.trimPrefix s.data.toList [47,47]) [47]).1.isEmpty with
   |true=>exact done a _ (Fr.refl _ _) (by unfold tY;rw[j,k,l];rfl)
   |false=>
    rw[ag (show(!false)=true from rfl)];exact aw.fR H (iT.fc (wV s.data.toList) λo f6=>⟨_,rfl,f6.kp,done o _ f6 (by unfold tY;rw[j,k,l];rfl)⟩)
theorem t64:nJ Tryz.prog 345 27 1 8 (.U 0):=⟨cU,cU,rfl⟩
theorem u64:Tryz.prog.underlying 345=some (.slice 27):=cU
abbrev nc(l:List Tr):List Value:=l.map λt=> .int .u64 (t.n:Int)
theorem elem{D:Nat->Prop}{q:cg}{l c:Nat}{ys:List CV}(L:mz h D q l c ys)(T:dc h D ts ys)(g:i<ts.length): ∃(a:Addr)(y:CV),q=some a/\dI (a.add (i*4)) y.s.l 0 h/\gE h D (at_ ts i) y/\ys[i]? =some y:=by
 have j:=T.len;have H:ys[i]? =some (ys[i]' af):=ai _;obtain⟨t,f,ty⟩:=T.get H;obtain⟨a,rfl⟩:=L.row.some (by intro e;have:=bT List.length e;rw[eS hT 4 gu,bm]at this;omega);refine⟨a,_,rfl,L.row.fL gu H,?_,H⟩;unfold at_;rw[aZ,f];exact ty
theorem jK(H:i<ts.length):room (at_ ts i)<=dw ts:=by
 unfold at_;rw[aZ,ai H];exact lT (dQ H)
theorem EZ(T:EY h t x)(S:room t<=1000000)(z:t.k=4->t.l.length=2->yM t.l=true->∀h' p c,Row h' p (nc t.l)->Fr No h h'->R (.tuple #[.slice p 2 c,.bool true]) h')(K: ¬(t.k=4/\t.l.length=2/\yM t.l=true)->gU h R (.tuple #[.Z,.bool false])):Cl 287 #[x.agg,.I 2] h R:=by
 have b':=T;cases t with
 |mk k n b l=>
  simp only[room]at S;have z:k=4->l.length=2->yM l=true->∀h' p c,Row h' p (nc l)->Fr No h h'->R (.tuple #[.slice p 2 c,.bool true]) h':=z;have K: ¬(k=4/\l.length=2/\yM l=true)->∀h',Fr No h h'->R (.tuple #[.Z,.bool false]) h':=K;unfold gE at T;obtain⟨⟨rfl,rfl,rfl,a'⟩,ys,L,A⟩:=T;have ln:=A.len;have W:=L.len;refine EW.walk (x:=x.s) (aa.db λbb j X u f1=>aG.of λJ B=>⟨_,ak u,?_⟩);have no: ¬(x.k=4/\l.length=2)->J true j:=λH=>by
   subst B;exact K (λe=>H ⟨e.1,e.2.1⟩) j f1
  by_cases o:x.k=4
  case neg=>rw[ag (cy o)];exact no (λe=>o e.1)
  rw[ae (cy o)];refine⟨_,_,_,ak u,?_⟩;by_cases l2:l.length=2
  case neg=>rw[show((x.ll:Int) !=2)=true by simp only[dX,ft];omega];exact no (λe=>l2 e.2)
  rw[show((x.ll:Int) !=2)=false by simp only[gp];omega];subst B;rw[dj];have sl:x.s.pq=2:=by show x.ll=2;omega
  refine⟨_,_,_,ak u,?_⟩;refine⟨λp len c t g=> ∃i:Nat,t=(i:Int)/\i<=2/\i=len/\fi g p i c 1 (nc (l.take i))/\(∀y,aL p y->j.size<=y)/\Fr No j g/\yM (l.take i)=true,λ_ _ _ t _=>2 - t.toNat,⟨0,rfl,af,rfl,by rw[eh];exact .nil rfl rfl rfl rfl,(λy ⟨a,e,_⟩=>by cases e),Fr.refl _ _,by rw[eh];rfl⟩,?_⟩;rintro p _ c _ g ⟨i,rfl,hi,rfl,O,N,f,H⟩;by_cases Q:i<2
  .rw[fY];have r:=f1.tt f;obtain⟨a,y,G,P,ty,m⟩:=elem (L.frame r cu) (A.on r) (i:=i) af;refine⟨⟨af,by show _<(x.ll:Int);omega⟩,cb.2 ⟨a,G,(aa.mA (x:=y.s) (by rw[aD];exact P) (aa.gh (x:=y.s) λb1 h5 Z w f5=>aa.fR w ⟨_,ak w,fN λh6 f6=>aa.ex (nv y.n).s ⟨rfl,f6.kp,?_⟩⟩))⟩⟩;have ra:=jK (ts:=l) (i:=i) af;have eq:l.take (i+1)=l.take i++ [at_ l i]:=by
    rw[bD];unfold at_;rw[aZ,ai af];rfl
   have Y:y.n=(at_ l i).n:=by
    revert ty;generalize at_ l i=s;intro ty;cases s;unfold gE at ty;exact ty.1.2.1
   refine iu (t:=at_ l i) (s:=num y.n) (x:=y) (y:=nv y.n) (ty.on (f5.tt f6)) mB af λM f7=>⟨_,rfl,?_⟩
   rw[Y];cases q:nC (at_ l i) (num (at_ l i).n)with
   |false=>
    rw[fY];refine K (λe=> ?_) M (r.tt (f5.tt (f6.tt f7)));have:=List.all_eq_true.1 e.2.2 (at_ l i) (by unfold at_;rw[aZ,ai af];exact dQ _);rw[q]at this;cases this
   |true=>
    rw[dj];have F:=f5.tt (f6.tt f7);refine⟨_,ak ((f6.tt f7).get w id),iC t64 u64 (O.frame F cu) rfl (λv C=>by simp at C;rw[C];rfl) af af λp2 U h9 E f9 I=>⟨_,_,_,rfl,?_⟩⟩;rw[bA (n:=(i:Int)+1) af af];refine⟨⟨i+1,af,af,af,?_,λy m=> ?_,(f.tt F).fresh f9 (λy m=>N y m),?_⟩,by show 2 - Int.toNat ((i:Int)+1)<2 - Int.toNat (i:Int);omega⟩
    .rw[eq,nc,aW];rw[show y.s.f1=((at_ l i).n:Int) by show(y.n:Int)=_;rw[Y]]at E;exact E
    .rcases I y m with a|a
     .exact N y a
     .have:=f.1;have:=F.1;omega
    .rw[eq];unfold yM at H⊢;rw[List.all_append,H];simp[q]
  .rw[ae (λe=>Q (bX (aP e)))];obtain rfl:i=2:=af
   rw[bB af]at H O;exact z o l2 H g p c O.jb (f1.tt f)
theorem gE.kn(H:gE h D t x):x.k=t.k/\x.n=t.n/\x.v.b=t.b/\x.ll=t.l.length/\x.v.ok h D/\∃ys,mz h D x.q x.ll x.cl ys/\dc h D t.l ys:=by
 cases t with
 |mk k n b l=>
  unfold gE at H;obtain⟨⟨a,A,e,f⟩,ys,L,T⟩:=H;exact⟨a,A,e,by rw[L.len,<-T.len];rfl,f,ys,L,T⟩
theorem nz :dw t.l+t.b.length+9=room t:=by cases t;simp only[room,Tr.l,Tr.b];omega
theorem R5{p:Addr}{n:Nat}(h:p.block≠b):(some (p.add n)).map Addr.block≠some b:=by
 simp only[cZ,lP];exact λe=>h (bj e)
theorem M1(U:mE V d)(u:Fr No d h)(mx:mD.Mx h)(tx:EY h t x)(hr:room t<=900000)(K: ∀e,nQ V t=some e->gU h R (.tuple #[kj e,.I 0]))(k:nQ V t=none->gU h R (.tuple #[kj .zero,.I 3])):Cl 245 #[x.agg] h R:=by
 obtain⟨xk,xn,xb,xl,xv,ys,L,TS⟩:=gE.kn tx;have rl:=nz (t:=t);refine MW.walk (x:=x.s) (aa.db λb h1 eb hb f1=>aw.db λb1 h2 P' m' f2=>aG.of λs' hJ=>aa.fR (f2.get hb id) (fc U (u.tt (f1.tt f2)) ((tx.on f1).on f2) af λE f3=>⟨_,rfl,?_⟩));have o:=f1.tt (f2.tt f3);have I:=(f2.tt f3).get hb id;have n':=f3.get m' id;have zb:=aC hb;have St:=aC m';have z1:=f1.1;have z2:=f2.1;have z3:=f3.1;have bad:nQ V t=none->s' true E:=λhn=>by
  subst hJ;dsimp only;rw[ag rfl];exact Hc (x:=.zero) n' λg f=>k hn g (o.fresh f (λy e=>af))
 cases hR:gK V t with
 |false=>exact bad (by unfold nQ;rw[ae (λe=>by rw[hR]at e;cases e.1)])
 |true=>
 rw[ae (show¬(!true)=true by decide)];refine⟨_,ak I,?_⟩;have e4:x.s.f0=t.k:=xk;rw[e4];by_cases M:t.k=4
 case neg=>rw[ag (cy M)];exact bad (by unfold nQ;rw[ae (λe=>M e.2.1)])
 rw[ae (cy M)];refine⟨_,_,_,ak I,?_⟩;have el:x.s.pq=t.l.length:=xl;rw[el];by_cases l2:t.l.length=2
 case neg=>rw[show((t.l.length:Int) !=2)=true by simp only[dX,ft];omega];exact bad (by unfold nQ;rw[ae (λe=>l2 e.2.2)])
 rw[show((t.l.length:Int) !=2)=false by simp only[gp];omega];clear bad;subst hJ;dsimp only;rw[ae (show¬false=true by decide)];unfold nQ at K k;rw[ag ⟨hR,M,l2⟩]at K k;obtain⟨a0,y0,t',o',T,_⟩:=elem (L.frame o cu) (TS.on o) (i:=0) af;obtain⟨a1,Y,u',p',O,_⟩:=elem (L.frame o cu) (TS.on o) (i:=1) af;have r0:=jK (ts:=t.l) (i:=0) af;have r1:=jK (ts:=t.l) (i:=1) af;generalize at_ t.l 0=t0 at T r0 K k;generalize at_ t.l 1=t1 at O r1 K k;refine aG.of λJ1 B'=>⟨_,_,_,ak I,af,cb.2 ⟨a0,t',aa.mA (x:=y0.s) o' ⟨_,_,_,ak I,af,cb.2 ⟨a1,u',aa.mA (x:=Y.s) p' ?_⟩⟩⟩⟩
 have q': ∀g s r,aa.fV g s y0.s->aa.fV g r Y.s->Fr No E g->J1 (Sa s 0) (Sa r 0) g:=by
  intro g s r hs H' F;subst B';have Fg:=o.tt F;have zg:=F.1;refine aw.db λB l Q' b' f6=>aG.of λJ l'=>aG.of λJ3 C'=> ?_
  have e':=f6.get hs id;have z:=f6.get H' id;have d':=(F.tt f6).get n' id;have RW:=aC b';have C:=Fg.tt f6;have z6:=f6.1;have R6: ∀G e,aw.fV G B e.s->Fr (λy=>y=B) l G->(gU h R (.tuple #[kj e,.I 0]))->J true G:=λG e he f hk=>by
   subst l';rw[dj];exact aw.fR he (Hc (f.get d' af) λj f7=>hk j ((C.fresh f (λy e=>af)).fresh f7 (λy e=>af)))
  have N: ∀G,Fr (λy=>y=B) l G->(gU h R (.tuple #[kj .zero,.I 3]))->J false G:=λG f hk=>by
   subst l';rw[fY];exact Hc (x:=.zero) (f.get d' af) λj f7=>hk j ((C.fresh f (λy e=>af)).fresh f7 (λy e=>af))
  have r': ∀{G},Fr No l G->Fr (λy=>y=B) l G:=λf=>f.mono λ_ _=>False.elim
  obtain⟨M',VV,L',VW,N',VX,L1,O'⟩:=gE.kn O;have VY:=nz (t:=t1);have j3: ∀q G,Fr No l G->q=decide (nC t0 (num 1)=true/\nC t1 (num 0)=true)->J3 q G:=by
   intro q G f w;subst C';refine aG.of λJ4 D'=> ?_
   cases q with
   |true=>
    rw[ag rfl];have c:=aP w.symm;exact Hc (x:=.zero) (f.get d' id) λj f7=>K _ (by rw[ag c]) j ((C.tt f).fresh f7 (λy e=>af))
   |false=>
    rw[dj];have c:=fC w.symm;rw[ae c]at K k;have J':=f.get e' id;have VZ:=f.get z id;refine aG.of λJ5 E'=>ay.2 (aa.fR J' (fN (n:=1) λU' f24=>aa.ex (nv 1).s ⟨rfl,f24.kp,iu (x:=y0) (y:=nv 1) (T.on (F.tt (f6.tt (f.tt f24)))) mB af λV' f25=>⟨_,rfl,?_⟩⟩))
    have j5: ∀q j,Fr No l j->q=decide (nC t0 (num 1)=true/\t1.k=3)->J5 q j:=by
     intro q j f7 w;have K':=f7.get e' id;have I':=f7.get z id;have G7:=F.tt (f6.tt f7);subst E';refine aG.of λJ6 F'=> ?_
     have j6: ∀q g,J q g->J6 q g:=λq g hh=>by subst F';subst D';exact hh
     cases q with
     |true=>
      rw[ag rfl];have W:=aP w.symm;rw[ag W]at K k;have ev:Y.v.b=t1.b:=L';refine ay.2 ⟨_,_,_,ak I',str t1.b,iD.conv (by rw[<-ev];exact(N'.frame G7 cu).row) (by show Y.v.b.length=_;rw[ev]),C6 (mx.on (C.tt f7)) (by rw[iT.hI];omega) λR' f15=> ?_⟩;have ed:(str t1.b).data.toList=t1.b:=by unfold str;simp
      rw[ed];refine aw.ex (wV t1.b).s ⟨_,rfl,aw.hM (x:=(wV t1.b).s) ((f7.tt f15).get b' id) λj' d16 f16 _=>j6 _ _ ?_⟩;have f':=Fr.no (f7.tt f15) f16;cases H:tY t1.b with
      |true=>exact R6 j' _ d16 f' (K _ (by rw[ag H]))
      |false=>exact N j' f' (k (by rw[ae (by rw[H];decide)]))
     |false=>
      rw[dj];have W:=fC w.symm;rw[ae W]at K k;refine ay.2 (aa.fR K' (fN (n:=2) λS' f17=>aa.ex (nv 2).s ⟨rfl,f17.kp,iu (x:=y0) (y:=nv 2) (T.on (G7.tt f17)) mB af λx' f18=>⟨_,rfl,aG.of λJ7 G'=> ?_⟩⟩));have j7: ∀q g,J q g->J7 q g:=λq g hh=>by subst G';exact j6 _ _ hh
      have v:=f7.tt (f17.tt f18);cases e2:nC t0 (num 2)with
      |false=>
       rw[dj];exact j7 _ _ (N x' (r' v) (k (by rw[ae (by rw[e2];decide)])))
      |true=>
       rw[ag rfl];rw[ag e2]at K k;refine ay.2 (aa.fR (v.get z id) (EZ (O.on (F.tt (f6.tt v))) af (λq4 q2 qn k' p c row f20=>⟨_,_,_,_,rfl,aG.of λJ8 a'=> ?_⟩) (λqn k' f20=>⟨_,_,_,_,rfl,aG.of λJ8 a'=> ?_⟩)))
       .rw[ag rfl];have n0:(nc t1.l)[0]? =some (.U ((at_ t1.l 0).n:Int)):=by unfold nc at_;rw[aI,aZ,ai af];rfl
        have n1:(nc t1.l)[1]? =some (.U ((at_ t1.l 1).n:Int)):=by unfold nc at_;rw[aI,aZ,ai af];rfl
        obtain⟨a,rfl⟩:=row.some (by intro e;rw[e]at n0;cases n0);have c0:=row.cell n0;have c1:=row.cell n1;have g':=v.tt f20;refine⟨af,ay.2 ⟨_,by rw[show Int.toNat 0*1=0 from rfl];exact c0,af,ay.2 ⟨_,by rw[show Int.toNat 1*1=1 from rfl];exact c1,aw.hM (x:=(LP t1).s) (g'.get b' id) λT' d22 f22 _=>aw.fR d22 (iT.fc (LP t1) λX f23=>⟨_,rfl,?_⟩)⟩⟩⟩;have i':Fr (λy=>y=B) l X:=(Fr.no g' f22).on f23;subst a';refine j7 _ _ ?_;cases H:cN (LP t1)with
        |true=>exact R6 X _ (f23.get d22 id) i' (K _ (by rw[ag ⟨q4,q2,qn,H⟩]))
        |false=>exact N X i' (k (by rw[ae (λe=>by rw[H]at e;cases e.2.2.2)]))
       .rw[dj];subst a';exact j7 _ _ (N k' (r' (v.tt f20)) (k (by rw[ae (λe=>qn ⟨e.1,e.2.1,e.2.2.1⟩)])))
    have P:=f.tt (f24.tt f25);cases e1:nC t0 (num 1)with
    |false=>
     rw[dj];exact j5 _ _ P (by rw[e1];simp)
    |true=>
     rw[ag rfl];refine ay.2 ⟨_,ak (P.get z id),j5 _ _ P ?_⟩;rw[show Y.s.f0=t1.k from M',e1];by_cases q:t1.k=3<;>simp[q]
  refine ay.2 (aa.fR e' (fN (n:=1) λW' f26=>aa.ex (nv 1).s ⟨rfl,f26.kp,iu (x:=y0) (y:=nv 1) (T.on (F.tt (f6.tt f26))) mB af λX' f27=>⟨_,rfl,?_⟩⟩));have A:=f26.tt f27;cases e1:nC t0 (num 1)with
  |false=>
   rw[dj];exact j3 _ _ A (by rw[e1];simp)
  |true=>
   rw[ag rfl];refine ay.2 (aa.fR (A.get z id) (fN (n:=0) λY' f28=>aa.ex (nv 0).s ⟨rfl,f28.kp,iu (x:=Y) (y:=nv 0) (O.on (F.tt (f6.tt (A.tt f28)))) mB af λZ' f29=>⟨_,rfl,?_⟩⟩));exact j3 _ _ (A.tt (f28.tt f29)) (by rw[e1];simp)
 have V0:a0.block<E.size:=by
  have:=o'.1;have:=pJ this;rwa[lP,lP]at this
 have V1:a1.block<E.size:=by
  have:=p'.1;have:=pJ this;rwa[lP,lP]at this
 refine⟨aa.db λQ y' v' m f30=>⟨f30.kp,aa.db λS z' w' c' f31=>⟨f31.kp,aa.hM (x:=y0.s) (f31.get m id) λA' d32 f32 _=>⟨Ti f32 ?_,aa.hM (x:=Y.s) (f32.get c' (bX (aC m))) λZ d33 f33 _=> ?_⟩⟩⟩,
  aa.db λQ y' v' m f30=>⟨f30.kp,aa.db λS z' w' c' f31=>⟨f31.kp,aa.hM (x:=y0.s) c' λA' d32 f32 _=>⟨Ti f32 ?_,aa.hM (x:=Y.s) (f32.get (f31.get m id) (bX (aC m))) λZ d33 f33 _=> ?_⟩⟩⟩,trivial⟩
 .intro p H;simp only[bJ,List.not_mem_nil,or_false]at H;rcases H with rfl|rfl
  .exact R5 af
  .simp only[cZ];intro e;have:=bj e;omega
 .have:=aC m;have:=f30.1;exact q' Z Q S (f33.get d32 af) d33 (((f30.tt f31).fresh f32 (λy e=>af)).fresh f33 (λy e=>af))
 .intro p H;simp only[bJ,List.not_mem_nil,or_false]at H;have:=f30.1;rcases H with rfl|rfl
  .exact R5 af
  .simp only[cZ];intro e;have:=bj e;omega
 .have:=aC m;have:=f30.1;exact q' Z S Q (f33.get d32 af) d33 (((f30.tt f31).fresh f32 (λy e=>af)).fresh f33 (λy e=>af))
abbrev iN.s(x:iN):ah.S:=⟨x.e.jI,x.e.node,x.e.fX,x.e.host,x.e.jd,x.tm,x.sq⟩
theorem iB(x:Ev){K:aw.S->Prop}(H:h[b]? =some (.cells c ty (0,0)))(d:c[off]? =some (.bool x.jI))(a:c[off+1]? =some (.U x.node))(e:c[off+2]? =some (.U x.fX))(f:c[off+3]? =some (.string x.host))(g:c[off+4]? =some (.string x.jd))(hk:K x.s):aw.cO h (AA b off) K:=
 ⟨_,cE H d,_,cE H a,_,cE H e,_,cE H f,_,cE H g,hk⟩
theorem zT(x:iN){K:ah.S->Prop}(H:h[b]? =some (.cells c ty (0,0)))(d:c[off]? =some (.bool x.e.jI))(a:c[off+1]? =some (.U x.e.node))(e:c[off+2]? =some (.U x.e.fX))(f:c[off+3]? =some (.string x.e.host))(g:c[off+4]? =some (.string x.e.jd))(j:c[off+5]? =some (.U (x.tm:Int)))(k:c[off+6]? =some (.U (x.sq:Int)))(hk:K x.s):ah.cO h (AA b off) K:=
 ⟨_,cE H d,_,cE H a,_,cE H e,_,cE H f,_,cE H g,_,cE H j,_,cE H k,hk⟩
theorem C7{y:ah.S}(x:iN){K:ah.S->aj->Prop}(H:ah.fV h b y)(hk: ∀h',Fr (λy=>y=b) h h'->K x.s h'):
  ah.dv h (AA b 0) x.s λg=>ah.cO g (AA b 0) λr=>K r g:=
 ah.hM (x:=x.s) H λg d1 f _=>ah.fR d1 (hk g f)
theorem k7(n m:Nat):decide ((n:Int)<=(m:Int))=decide (n<=m):=by by_cases e:n<=m<;>simp[e]<;>omega
theorem rj(x:iN)(hk: gU h R (.bool (gL x))):Cl 237 #[x.s.agg] h R:=by
 refine ET.walk (ah.db λb j E H f1=>iB x.e H rfl rfl rfl rfl rfl (iT.fc x.e λg f2=>⟨_,rfl,?_⟩));have a:=f2.get H id;have hk:=hk g (f1.tt f2);unfold gL at hk;cases e:cN x.e with
 |false=>rw[e]at hk;exact hk
 |true=>
  rw[e]at hk;rw[ag rfl];refine⟨_,ak a,?_⟩;have e1:decide ((x.s.f5:Int)<=1099511627776)=decide (x.tm<=1099511627776):=k7 x.tm 1099511627776;have e2:decide ((x.s.f6:Int)<=1099511627776)=decide (x.sq<=1099511627776):=k7 x.sq 1099511627776;rw[e1];cases f:decide (x.tm<=1099511627776)with
  |false=>rw[f]at hk;exact hk
  |true=>
   rw[f]at hk;rw[ag rfl];refine⟨_,ak a,?_⟩;rw[e2];exact hk
theorem BT(x:iN)(w1:0<=x.e.fX)(K:gL x=true->∀h' z,rZ h' (λy=>h.size<=y) (LQ x) z->Fr No h h'->R (.tuple #[z.agg,.I 0]) h')(q:gL x=false->gU h R (.tuple #[zv.agg,.I 3])):Cl 204 #[x.s.agg] h R:=by
 refine EV.walk (ah.db λb G E j f1=>aa.db λb1 N u k f2=>ah.fR (x:=x.s) (f2.get j id) (rj x λO f3=>⟨_,rfl,?_⟩));have a:=(f2.tt f3).get j id;have l:=f3.get k id;have f:=f1.tt (f2.tt f3);have Z:=f1.1;have a':=aC k;have X:=f3.1;cases H:gL x with
 |false=>exact C4 l λn f4=>q H n (f.fresh f4 (λy e=>af))
 |true=>
  have g:cN x.e=true:=by unfold gL at H;simp only[aR]at H;exact H.1.1
  rw[dj];refine iB x.e a rfl rfl rfl rfl rfl (wu x.e w1 (λ_ P z r f5=>aa.ex z.s ⟨_,rfl,aa.gh (x:=z.s) λB Q v o f7=>aa.fR o ⟨_,ak ((f5.tt f7).get a id),_,ak ((f5.tt f7).get a id),?_⟩⟩) (λe=>by rw[g]at e;cases e));refine fN λS f8=>aa.ex (nv x.tm).s ⟨rfl,f8.kp,fN λU f9=>aa.ex (nv x.sq).s ⟨rfl,f9.kp,oh (ys:= [nv x.tm,nv x.sq]) rfl λs I A L f10=>⟨f10.kp,jF (L (λ_=>True) trivial) (two mB mB) (by simp[room,dw]) λJ y ty f11=>aa.ex y.s ⟨rfl,f11.kp,?_⟩⟩⟩⟩
  have F:=f7.tt (f8.tt (f9.tt (f10.tt f11)));have C:=lU x.e g;refine oU (ys:= [z,y]) (two (r.u.on F) ty.u) (by simp only[room,dw,bm];omega) rfl rfl λM w T f13=>aa.ex w.s ⟨rfl,?_⟩
  have Y:=f5.1;have W:=F.1;exact fin ((f5.tt (F.tt f13)).get l id) T (λy p e=>af) λm t14 f14=>K H m w (t14.mono λy p=>af) ((f.tt (f5.tt (F.tt f13))).fresh f14 (λy e=>af))
theorem zU{x:iN}(h:gL x=true):cN x.e=true/\x.tm<=1099511627776/\x.sq<=1099511627776:=by
 unfold gL at h;simp only[aR,aY]at h;exact⟨h.1.1,h.1.2,h.2⟩
theorem E0{e:Ev}(h:nQ V t=some e):0<=e.fX/\cN e=true:=by
 unfold nQ at h;split at h
 .split at h
  .cases h;decide
  .split at h
   .split at h
    .rename_i H;cases h;unfold tY at H;simp only[aR]at H;exact⟨by show(0:Int)<=0;omega,H.2⟩
    .cases h
   .split at h
    .split at h
     .rename_i H;cases h;exact⟨by show(0:Int)<=((_:Nat):Int);omega,H.2.2.2⟩
     .cases h
    .cases h
 .cases h
theorem E6(x:iN)(h:gL x=true):room (LQ x)<=300:=by
 have:=lU x.e (zU h).1;simp only[LQ,room,dw,bm];omega
def EQ(V:cH->Bool)(t:Tr)(e:Ev)(q:Int):Prop:=(q=0->nQ V t=some e)/\(q≠0->nQ V t=none)/\0<=e.fX
theorem C8(U:mE V d)(u:Fr No d h)(mx:mD.Mx h)(T:EY h t x)(a:room t<=900000)(hk: ∀e q,EQ V t e q->gU h R (.tuple #[e.s.agg,.I q])):Cl 245 #[x.agg] h R:=
 M1 U u mx T a (λe H h' f=>hk e 0 ⟨λ_=>H,λq=>absurd rfl q,(E0 H).1⟩ h' f) (λH h' f=>hk .zero 3 ⟨λq=>absurd q dH,λ_=>H,dH⟩ h' f)
theorem IB(x:iN)(w1:0<=x.e.fX)(hk: ∀h' z q,(q=0->EY h' (LQ x) z)->(q=0↔gL x=true)->Fr No h h'->R (.tuple #[z.s.agg,.I q]) h'):Cl 204 #[x.s.agg] h R:=
 BT x w1 (λH h' z T f=>hk h' z 0 (λ_=>T.u) ⟨λ_=>H,λ_=>rfl⟩ f) (λH h' f=>hk h' zv 3 (λe=>absurd e dH) ⟨λe=>absurd e dH,λe=>by rw[H]at e;cases e⟩ f)
theorem M4(U:mE V d)(u:Fr No d h)(mx:mD.Mx h)(tx:EY h t x)(hr:room t<=900000)(K: ∀e,ku V t=some e->gU h R (.tuple #[e.s.agg,.I 0]))(k:ku V t=none->gU h R (.tuple #[iN.zero.s.agg,.I 3])):Cl 246 #[x.agg] h R:=by
 obtain⟨xk,xn,xb,xl,xv,ys,L,N⟩:=gE.kn tx;have rl:=nz (t:=t);refine Ha.walk (x:=x.s) (aa.db λb h1 eb X f1=>ah.db λb1 l z' B f2=>aG.of λJ o=> ?_);have F:=f1.tt f2;have H:=f2.get X id;have zb:=aC X;have H':=aC B;have z1:=f1.1;have z2:=f2.1;have bad:ku V t=none->J true l:=λhn=>by
  subst o;dsimp only;rw[ag rfl];exact C7 .zero B λg f=>k hn g (F.fresh f (λy e=>af))
 have e4:x.s.f0=t.k:=xk;have el:x.s.pq=t.l.length:=xl;refine⟨_,ak H,?_⟩;rw[e4];by_cases v:t.k=4
 case neg=>rw[ag (cy v)];exact bad (by unfold ku;rw[ae (λe=>v e.1)])
 rw[ae (cy v)];refine⟨_,_,_,ak H,?_⟩;rw[el];by_cases l2:t.l.length=2
 case neg=>rw[ag (by simp only[dX,ft];omega)];exact bad (by unfold ku;rw[ae (λe=>l2 e.2.1)])
 rw[ae (by simp only[dX,ft];omega)];obtain⟨a0,y0,g',n',c',_⟩:=elem (L.frame F cu) (N.on F) (i:=0) af;obtain⟨A,Y,E,b',d',_⟩:=elem (L.frame F cu) (N.on F) (i:=1) af;obtain⟨e',x',w',f',F',G',M,T⟩:=gE.kn d';have c0:aX l (A.add (Int.toNat 1*4))=some (.I Y.k):=by have:=b'.1;rwa[fo]at this
 have C:aX l ((A.add (Int.toNat 1*4)).add 3)=some (.slice Y.q Y.ll Y.cl):=b'.2.2.2.1;have r0:=jK (ts:=t.l) (i:=0) af;have r1:=jK (ts:=t.l) (i:=1) af;refine⟨_,_,_,ak H,af,cb.2 ⟨A,E,_,c0,?_⟩⟩;rw[e'];by_cases s:(at_ t.l 1).k=4
 case neg=>rw[ag (cy s)];exact bad (by unfold ku;rw[ae (λe=>s e.2.2.1)])
 rw[ae (cy s)];refine⟨_,_,_,ak H,af,cb.2 ⟨A,E,_,_,_,C,?_⟩⟩;rw[f'];by_cases l3:(at_ t.l 1).l.length=2
 case neg=>rw[show(((((at_ t.l 1).l.length:Nat):Int)) !=2)=true by simp only[dX,ft];omega];exact bad (by unfold ku;rw[ae (λe=>l3 e.2.2.2)])
 rw[show(((((at_ t.l 1).l.length:Nat):Int)) !=2)=false by simp only[gp];omega];clear bad;subst o;dsimp only;rw[ae (show¬false=true by decide)];unfold ku at K k;rw[ag ⟨v,l2,s,l3⟩]at K k;generalize D':at_ t.l 0=t0 at c' r0 K k;generalize E':at_ t.l 1=t1 at d' r1 K k e' x' w' f' T s l3;refine⟨_,_,_,ak H,af,cb.2 ⟨a0,g',aa.mA (x:=y0.s) n' (C8 U (u.tt F) (mx.on F) c' af λe q ⟨q',r',we⟩ g O=>aw.ex e.s ⟨_,rfl,?_⟩)⟩⟩;obtain⟨p0,w0,i',p,s',_⟩:=elem M T (i:=0) af;obtain⟨p1,w1,j',r,t',_⟩:=elem M T (i:=1) af;obtain⟨_,u',_⟩:=gE.kn s';obtain⟨_,v',_⟩:=gE.kn t';have p:aX l ((p0.add (Int.toNat 0*4)).add 1)=some (.U (w0.n:Int)):=p.2.1;have r:aX l ((p1.add (Int.toNat 1*4)).add 1)=some (.U (w1.n:Int)):=r.2.1;rw[u']at p;rw[v']at r;obtain⟨n,o'⟩: ∃n,(at_ t1.l 0).n=n:=⟨_,rfl⟩;obtain⟨n1,p'⟩: ∃n1,(at_ t1.l 1).n=n1:=⟨_,rfl⟩;rw[o']at p K k;rw[p']at r K k;refine aw.gh (x:=e.s) λb2 h7 A' l' f7=>aw.fR l' ?_
 have G:=O.tt f7;refine⟨_,_,_,ak (G.get H id),af,cb.2 ⟨A,E,_,_,_,G.cell C id,af,cb.2 ⟨p0,i',_,G.cell p id,_,_,_,ak (G.get H id),af,cb.2 ⟨A,E,_,_,_,G.cell C id,af,cb.2 ⟨p1,j',_,G.cell r id,?_⟩⟩⟩⟩⟩;refine ah.db λb3 h8 B' a' f8=>⟨f8.kp,ah.hM (x:=(⟨e,n,n1⟩:iN).s) a' λS d9 f9 _=>ah.fR d9 ?_⟩
 have z7:=f7.1;have z8:=f8.1;have zg:=O.1;have I':=aC a';have z9:=f9.1;have I:Fr (λy=>y=b3) l S:=Fr.no (G.tt f8) f9;have z:Fr No h S:=(F.tt (G.tt f8)).fresh f9 (λy e=>af);refine IB ⟨e,n,n1⟩ we λg2 w q2 hw hq k'=>aa.ex w.s ⟨_,rfl,?_⟩
 refine aa.gh (x:=w.s) λb4 m C' m' f12=>aG.of λJ o=> ?_
 have j:=k'.tt f12;have Z: ∀{g},Fr No m g->ah.fV g b1 .z:=λfq=>fq.get (j.get (I.get B af) id) id
 have no: ∀a,Fr No m a->(gU h R (.tuple #[iN.zero.s.agg,.I 3]))->J true a:=λa f3 hk=>by
  subst o;try dsimp only
  rw[ag rfl];exact C7 .zero (Z f3) λg f=>hk g ((z.tt (j.tt f3)).fresh f (λy e=>af))
 have y': ∀a,Fr No m a->(gU h R (.tuple #[(⟨e,n,n1⟩:iN).s.agg,.I 0]))->J false a:=λa f3 hk=>by
  subst o;try dsimp only
  rw[dj];exact ah.fR ((j.tt f3).get d9 id) (C7 ⟨e,n,n1⟩ (Z f3) λg f=>hk g ((z.tt (j.tt f3)).fresh f (λy e=>af)))
 by_cases Q:q=0
 case neg=>rw[ag (cy Q)];exact no m (Fr.refl _ _) (k (by rw[r' Q]))
 rw[ae (cy Q)];rw[q' Q]at K k;dsimp only at K k;by_cases q1:q2=0
 case neg=>rw[ag (cy q1)];exact no m (Fr.refl _ _) (k (by rw[ae (λe=>q1 (hq.2 e.1))]))
 rw[ae (cy q1)];have W:=hq.1 q1;have rI:=E6 _ W;refine aa.fR m' (aa.fR (x:=x.s) (j.get (I.get H af) id) (iu (x:=w) (y:=x) ((hw q1).on f12) (tx.on (z.tt j)) af λP f16=>⟨_,rfl,?_⟩));cases hs:nC (LQ ⟨e,n,n1⟩) t with
 |true=>exact y' P f16 (K _ (by rw[ag ⟨W,hs⟩]))
 |false=>exact no P f16 (k (by rw[ae (λe=>by rw[hs]at e;cases e.2)]))
theorem Hd{x:iN}(h:ku V t=some x):0<=x.e.fX:=by
 unfold ku at h;split at h
 .split at h
  .cases h
  .rename_i e H;split at h
   .cases h;exact(E0 H).1
   .cases h
 .cases h
def IQ(V:cH->Bool)(t:Tr)(x:iN)(q:Int):Prop:=(q=0->ku V t=some x)/\(q≠0->ku V t=none)/\0<=x.e.fX
theorem C9(U:mE V d)(u:Fr No d h)(mx:mD.Mx h)(T:EY h t x)(a:room t<=900000)(hk: ∀e q,IQ V t e q->gU h R (.tuple #[e.s.agg,.I q])):Cl 246 #[x.agg] h R:=
 M4 U u mx T a (λe H h' f=>hk e 0 ⟨λ_=>H,λq=>absurd rfl q,Hd H⟩ h' f) (λH h' f=>hk .zero 3 ⟨λq=>absurd q dH,λ_=>H,dH⟩ h' f)

end Bn
end
section
variable {h:aj} {R:fj}
variable {s out:Nat} {a:bY.S} {S:Int} {r:aE.S}
theorem KB.walk{now:Int}{eV:Int}(H:R (.U (if 1099511627776<wrap .u64 (now+eV)then 1099511627776 else wrap .u64 (now+eV))) h):Cl 157 #[.U now,.U eV] h R:=aN (lq ll) Tryz.func157 H
theorem M6.walk{w:aw.S}(L:aQ h (.cells w.arr 29) λb z=>aQ z (.cells ah.S.z.arr 124) λc E=>aQ E (.cells ah.S.z.arr 124) λd q=>Hp q s 5 λt15=>Cl 74 #[.pointer t15] q λv G=>ah.EX λt16=>v=t16.agg/\aQ G (.cells ah.S.z.arr 124) λB I=>ah.dv I (AA B 0) t16 λu=>aw.cO u (AA B 0) λt19=>Cl 33 #[t19.agg] u λV H=> ∃t T,V=.tuple #[.pointer t,.I T]/\if(T !=0)then ah.dv H (AA c 0) ah.S.z λK=>ah.dv K (AA d 0) ah.S.z λk=>ah.cO k (AA c 0) λM=>ah.cO k (AA d 0) λr1=>R (.tuple #[M.agg,r1.agg,.I T]) k else aG (λ(t35:Bool) (i:aj)=>aG (λ(m:aj)=>Hu m s 6 λt44=>Cl 190 #[.pointer t,.U t44] m λP A=>ah.EX λx=> ∃y,P=.tuple #[x.agg,.I y]/\aQ A (.cells ah.S.z.arr 124) λe C=>ah.dv C (AA e 0) x λn=>ah.cO n (AA e 0) λt48=>aQ n (.cells ah.S.z.arr 124) λg D=>ah.dv D (AA g 0) t48 λo=>aw.cO o (AA b 0) λt49=>aw.dv o (AA g 0) t49 λf=>ah.cO f (AA g 0) λt51=>ah.cO f (AA e 0) λt52=>ah.dv f (AA c 0) t51 λp=>Kp f p [(Sa e 0)]/\ah.dv p (AA d 0) t52 λj=>ah.cO j (AA c 0) λN=>ah.cO j (AA d 0) λO=>R (.tuple #[N.agg,O.agg,.I y]) j) (λl=>if t35 then ah.cO i (AA B 0) λt37=>Cl 189 #[.pointer t,t37.agg] i λQ F=> ∃t38,Q=.I t38/\l F else l i)) (λJ=> ∃t29,Cc H B 5 (.U t29)/\if(decide (t29>0))then J true H else∃t33,Cc H B 6 (.U t33)/\J (decide (t33>0)) H)):Cl 150 #[.P s 0,w.agg] h R:=aN (lq (lq (lq (sq (lq (cq ll lf)) (sq (sq (.join [(35,.one (.bool))] lf) (.join [] (cq lf lf))) (lq (lq (lq (sq (pK 6) lf))))))))) Tryz.func150 L
theorem AT.walk{b:ax.S}{own:ah.S}(u:aQ h (.cells a.arr 98) λB o=>aQ o (.cells b.arr 129) λf p=>aQ p (.cells own.arr 124) λn g=>ax.cO g (AA f 0) λt13=>Cl 58 #[t13.agg] g λv H=> ∃k t j T,v=.tuple #[.slice k t j,.I T]/\if(T !=0)then R (.tuple #[.I 0,.I 0,.I T]) H else Hp H B 19 λt22=>Hi H B 20 λt24=>Hp H B 19 λt27=>aM t27 λA=>gT H (A.add 6) λt30=>Hu H f 19 λt33=>Cl 157 #[.U t30,.U t33] H λV d=> ∃t34,V=.U t34/\Kp H d [(Sa B 19),(Sa B 20),(Sa B 19)]/\Cl 191 #[.pointer t22,.I t24,.slice k t j,.U t34] d λw c=> ∃l e,w=.tuple #[.I l,.I e]/\Kp d c [(Sa B 19)]/\aG (λ(q:aj)=>R (.tuple #[.I l,.I ((t:Nat):Int),.I e]) q) (λJ=>if(e==0)then Hp c B 19 λt41=>aM t41 λm=>vj c (m.add 5) λt44=>ah.cO c (AA n 0) λt45=>Cl 189 #[.pointer t44,t45.agg] c λx i=> ∃t46,x=.I t46/\Kp c i [(Sa B 19)]/\J i else J c)):Cl 151 #[a.agg,b.agg,own.agg] h R:=aN (lq (lq (sq (lq (cq ll lf)) (sq (pK 20) (sq (lq (.join [] (cq (pK 7) lf))) ll))))) Tryz.func151 u
theorem zV.walk(G:aQ h (.cells a.arr 98) λb H=>aG (λ(r:cg) (is:Bool) (c:aj)=>if(!is)then R (.I 4) c else aM r λD=>jV c (D.add 6) λt22=> ∃t24,Cc c b 20 (.I t24)/\if(t22 !=t24)then R (.I 13) c else R (.I 0) c) (λJ=>Hp H b 19 λt7=>aM t7 λA=>vj H (A.add 1) λt10=>aw.cO H (AA b 2) λt13=>(Cl 155 #[.pointer t10,t13.agg] H λv d=> ∃t j l n p u x z,v=.tuple #[.agg #[.bool t,.U j,.U l,.string n,.string p,.I u,.I x],.bool z]/\Kp H d [(Sa b 19)]/\aQ d (.cells #[.bool false,.U 0,.U 0,.string gV,.string gV,.I 0,.I 0] 136) λB g=>Kp d g [(Sa b 19)]/\bp.ST g (AA B 0) t j l n p u x λE=>J (Sa B 0) z E)/\(aQ H (.cells #[.bool false,.U 0,.U 0,.string gV,.string gV,.I 0,.I 0] 136) λf e=>Kp H e [(Sa b 2),(some (A.add 1)),(Sa b 19)]/\Cl 155 #[.pointer t10,t13.agg] e λV i=> ∃T k m o q w y C,V=.tuple #[.agg #[.bool T,.U k,.U m,.string o,.string q,.I w,.I y],.bool C]/\Kp e i [(Sa b 19)]/\bp.ST i (AA f 0) T k m o q w y λF=>J (Sa f 0) C F)/\True)):Cl 104 #[a.agg] h R:=aN (lq (sq (.join [(3,.one (.ptr)),(4,.one (.bool))] (.jP (fJ 8 0 (.alts (.fork 8 (fJ 6 9 .done) (.fork 12 (fJ 4 8 (.op 13 (.op 14 .done))) .gG)))))) (sq (bq (lq (cq ll (lq (cq ll lf))))) ll))) Tryz.func104 G
theorem zW.walk(E:aQ h (.cells a.arr 98) λb i=>bY.cO i (AA b 0) λt10=>Cl 104 #[t10.agg] i λv e=> ∃t11,v=.I t11/\if(t11 !=0)then R (.I t11) e else Hp e b 19 λt17=>aw.cO e (AA b 2) λt20=>Cl 150 #[.pointer t17,t20.agg] e λV y=>ah.EX λT=>ah.EX λl=> ∃t,V=.tuple #[T.agg,l.agg,.I t]/\aQ y (.cells ah.S.z.arr 124) λf z=>aQ z (.cells ah.S.z.arr 124) λg A=>ah.dv A (AA f 0) T λC=>ah.dv C (AA g 0) l λH=>if(t !=0)then R (.I t) H else aw.cO H (AA b 7) λt30=>ah.cO H (AA f 0) λt31=>Hu H b 16 λt34=>aQ H (.cells aB.S.z.arr 126) λB D=>aB.dv D (AA B 0) ⟨0,0,t30.f0,t30.f1,t30.f2,t30.f3,t30.f4,false,0,0,gV,gV,t31.f0,t31.f1,t31.f2,t31.f3,t31.f4,t31.f5,t31.f6,t34⟩ λc=>Hb c b 18 λt38=>aG (λ(d:aj)=>bY.cO d (AA b 0) λt47=>aB.cO d (AA B 0) λt48=>Hl d b 15 λI G F=>aQ d (.cells #[.U 1,.U 1,.U 0,.I 0,.slice I G F] 201) λp j=>ah.cO j (AA g 0) λt55=>Cl 151 #[t47.agg,.agg #[.U t48.f0,.I t48.f1,.bool t48.f2,.U t48.f3,.U t48.f4,.string t48.f5,.string t48.f6,.bool t48.f7,.U t48.f8,.U t48.f9,.string t48.f10,.string t48.f11,.bool t48.f12,.U t48.f13,.U t48.f14,.string t48.f15,.string t48.f16,.U t48.f17,.U t48.f18,.U t48.f19,.slice (Sa p 0) 1 1],t55.agg] j λK q=> ∃m n o,K=.tuple #[.I m,.I n,.I o]/\aO q (AA out 2) (.I m) λu=>aO u (AA out 3) (.I n) λw=>R (.I o) w) (λJ=>if t38 then aw.cO c (AA b 2) λt41=>aO c (AA B 0) (.U 131072) λk=>Kp c k [(Sa b 2)]/\aw.dv k (AA B 7) t41 λx=>J x else J c)):Cl 101 #[a.agg,.P out 0] h R:=aN (lq (sq (lq (lq (cq ll lf))) (lq (sq (lq (cq ll lf)) (lq (sq (lq (.join [] (cq (pK 7) lf))) (lq ll))))))) Tryz.func101 E
theorem zX.walk (Y:aQ h (.cells a.arr 98) λb x=>bY.cO x (AA b 0) λt10=>Cl 104 #[t10.agg] x λv H=> ∃t11,v=.I t11/\if(t11 !=0)then R (.I t11) H else aG (λ(c:cg) (e:Int) (m:aj)=>if(e !=0)then R (.I e) m else aM c λO=>te m (O.add 6) λb' a' Z=>Cl 158 #[.slice b' a' Z] m λi' W=>ax.EX λM=> ∃c',i'=.tuple #[M.agg,.I c']/\aQ W (.cells ax.S.z.arr 129) λB X=>ax.dv X (AA B 0) M λf=>aM c λp=>jV f p λt52=>ax.cO f (AA B 0) λt53=>aM c λg=>te f (g.add 6) λh' g' f'=>Cl 159 #[t53.agg] f λj' n=> ∃e' N d',j'=.slice e' N d'/\Kp f n [(some (g.add 6)),(some p)]/\aO n (AA out 2) (.I t52) λo=>Kp n o [(some (g.add 6))]/\aO o (AA out 3) (.I ((N:Nat):Int)) λD=>Kp o D [(some (g.add 6))]/\aO D (AA out 5) (.slice h' g' f') λP=>R (.I 0) P) (λJ=>Hp H b 19 λt17=>aM t17 λA=>vj H (A.add 2) λt20=>aw.cO H (AA b 2) λt23=>Hi H b 20 λt25=>Hp H b 19 λt27=>aM t27 λq=>gT H (q.add 6) λt30=>Hi H b 14 λt33=>(Cl 157 #[.U t30,.U (wrap .u64 t33)] H λk' d=> ∃t35,k'=.U t35/\Kp H d [(Sa b 14),(Sa b 19),(Sa b 20),(Sa b 2),(some (A.add 2)),(Sa b 19)]/\(Cl 156 #[.pointer t20,t23.agg,.I t25,.U t35] d λl' i=>aK.EX λE=> ∃I,l'=.tuple #[E.agg,.I I]/\Kp d i [(Sa b 14),(Sa b 19),(Sa b 19)]/\aQ i (.cells aK.S.z.arr 114) λt y=>Kp i y [(Sa b 14),(Sa b 19),(Sa b 19)]/\aK.dv y (AA t 0) E λQ=>J (Sa t 0) I Q)/\(aQ d (.cells aK.S.z.arr 114) λu j=>Kp d j [(Sa b 14),(Sa b 19),(Sa b 20),(Sa b 2),(some (A.add 2)),(Sa b 19)]/\Cl 156 #[.pointer t20,t23.agg,.I t25,.U t35] j λm' z=>aK.EX λF=> ∃K,m'=.tuple #[F.agg,.I K]/\Kp j z [(Sa b 14),(Sa b 19),(Sa b 19)]/\aK.dv z (AA u 0) F λU=>J (Sa u 0) K U)/\True)/\(aQ H (.cells aK.S.z.arr 114) λw k=>Kp H k [(Sa b 14),(some (q.add 6)),(Sa b 19),(Sa b 20),(Sa b 2),(some (A.add 2)),(Sa b 19)]/\Cl 157 #[.U t30,.U (wrap .u64 t33)] k λn' l=> ∃T,n'=.U T/\Kp k l [(Sa b 14),(Sa b 19),(Sa b 20),(Sa b 2),(some (A.add 2)),(Sa b 19)]/\Cl 156 #[.pointer t20,t23.agg,.I t25,.U T] l λo' C=>aK.EX λG=> ∃L,o'=.tuple #[G.agg,.I L]/\Kp l C [(Sa b 14),(Sa b 19),(Sa b 19)]/\aK.dv C (AA w 0) G λV=>J (Sa w 0) L V)/\True)):Cl 105 #[a.agg,.P out 0] h R:=aN (lq (sq (lq (lq (cq ll lf))) (sq (.join [(6,.one (.ptr)),(7,.one (.int .i64))] (.jP (fJ 19 0 (.alts (.fork 19 (.alts (.fork 20 (fJ 6 21 .done) (.fork 24 (fJ 4 20 (.op 25 (.op 26 .done))) .gG))) (.fork 24 (fJ 5 19 (.op 25 (.op 26 .done))) .gG)))))) (sq (lq (cq ll lf)) (lq (sq (.jP (fJ 6 0 (.op 8 (.op 9 (.op 6 (.op 7 (fJ 9 10 .done))))))) ll)))))) Tryz.func105 Y
theorem zY.walk{v':cg}{u' t':Nat} (hv:aQ h (.cells a.arr 98) λb Vd=>Cl 158 #[.slice v' u' t'] Vd λv Ve=>ax.EX λM'=> ∃R7,v=.tuple #[M'.agg,.I R7]/\aQ Ve (.cells ax.S.z.arr 129) λc' Vf=>ax.dv Vf (AA c' 0) M' λE'=>aB.cO E' (AA c' 0) λt21=>aQ E' (.cells aB.S.z.arr 126) λB Vg=>aB.dv Vg (AA B 0) t21 λz=>aG (λ(t31:Bool) (c:aj)=>if t31 then R (.I 0) c else aG (λ(id:cg) (own:cg) (e:Int) (H:aj)=>if(e !=0)then R (.I 0) H else aG (λ(Vh:Int) (r:cg) (w:aj)=>if(Vh !=0)then R (.I 0) w else bY.cO w (AA b 0) λt68=>aM r λVj=>ax.cO w Vj λt69=>aM own λVk=>ah.cO w Vk λt70=>Cl 151 #[t68.agg,t69.agg,t70.agg] w λRs w'=> ∃Mj Ml Il,Rs=.tuple #[.I Mj,.I Ml,.I Il]/\if(Il !=0)then R (.I 0) w' else R (.I 1) w') (λb'=>Hp H b 19 λt50=>aM t50 λA=>gT H (A.add 6) λt53=>ah.cO H (AA B 12) λt55=>aw.cO H (AA B 7) λt58=>aM id λVm=>ah.cO H Vm λt59=>Hu H B 19 λt61=>(Cl 197 #[.agg #[.bool false,.bool true,.bool false,.U 0,.U t53,.bool t55.f0,.U t55.f1,.U t55.f2,.string t55.f3,.string t55.f4,.U t55.f5,.U t55.f6],t58.agg,t59.agg,.U t61] H λOw C=>ax.EX λPH=> ∃PI,Ow=.tuple #[PH.agg,.I PI]/\Kp H C [(Sa B 12),(some (A.add 6)),(Sa b 19)]/\aQ C (.cells ax.S.z.arr 129) λn' x'=>Kp C x' [(Sa B 12),(some (A.add 6)),(Sa b 19)]/\ax.dv x' (AA n' 0) PH λTj=>b' PI (Sa n' 0) Tj)/\(aQ H (.cells ax.S.z.arr 129) λo' D=>Kp H D [(Sa B 19),id,(Sa B 7),(Sa B 12),(some (A.add 6)),(Sa b 19)]/\Cl 197 #[.agg #[.bool false,.bool true,.bool false,.U 0,.U t53,.bool t55.f0,.U t55.f1,.U t55.f2,.string t55.f3,.string t55.f4,.U t55.f5,.U t55.f6],t58.agg,t59.agg,.U t61] D λOA y'=>ax.EX λIC=> ∃ID,OA=.tuple #[IC.agg,.I ID]/\Kp D y' [(Sa B 12),(some (A.add 6)),(Sa b 19)]/\ax.dv y' (AA o' 0) IC λTk=>b' ID (Sa o' 0) Tk)/\True)) (λJ=>Hp c b 19 λt34=>Hp c b 19 λt36=>aM t36 λk=>vj c (k.add 5) λt39=>(Cl 74 #[.pointer t39] c λJO d=>ah.EX λt40=>JO=t40.agg/\Kp c d [(Sa b 19),(Sa b 19)]/\(Cl 150 #[.pointer t34,.agg #[.bool t40.f0,.U t40.f1,.U t40.f2,.string t40.f3,.string t40.f4]] d λOS l=>ah.EX λX=>ah.EX λY=> ∃Z,OS=.tuple #[X.agg,Y.agg,.I Z]/\Kp d l [(Sa b 19)]/\(aQ l (.cells ah.S.z.arr 124) λp' E=>Kp l E [(Sa b 19)]/\aQ E (.cells ah.S.z.arr 124) λq' z'=>Kp E z' [(Sa b 19)]/\ah.dv z' (AA p' 0) X λTl=>ah.dv Tl (AA q' 0) Y λTm=>J (Sa p' 0) (Sa q' 0) Z Tm)/\(aQ l (.cells ah.S.z.arr 124) λr' F=>Kp l F [(Sa b 19)]/\aQ F (.cells ah.S.z.arr 124) λs' A'=>Kp F A' [(Sa b 19)]/\ah.dv A' (AA s' 0) X λTn=>ah.dv Tn (AA r' 0) Y λTo=>J (Sa s' 0) (Sa r' 0) Z To)/\True)/\(aQ d (.cells ah.S.z.arr 124) λy m=>Kp d m [(Sa b 19),(Sa b 19)]/\(Cl 150 #[.pointer t34,.agg #[.bool t40.f0,.U t40.f1,.U t40.f2,.string t40.f3,.string t40.f4]] m λQt G=>ah.EX λN'=>ah.EX λX'=> ∃IE,Qt=.tuple #[N'.agg,X'.agg,.I IE]/\Kp m G [(Sa b 19)]/\aQ G (.cells ah.S.z.arr 124) λd' B'=>Kp G B' [(Sa b 19)]/\ah.dv B' (AA y 0) N' λTp=>ah.dv Tp (AA d' 0) X' λTq=>J (Sa y 0) (Sa d' 0) IE Tq)/\(aQ m (.cells ah.S.z.arr 124) λe' I=>Kp m I [(Sa b 19),(Sa b 19)]/\Cl 150 #[.pointer t34,.agg #[.bool t40.f0,.U t40.f1,.U t40.f2,.string t40.f3,.string t40.f4]] I λQu C'=>ah.EX λP'=>ah.EX λZ'=> ∃IF,Qu=.tuple #[P'.agg,Z'.agg,.I IF]/\Kp I C' [(Sa b 19)]/\ah.dv C' (AA y 0) P' λTs=>ah.dv Ts (AA e' 0) Z' λTt=>J (Sa y 0) (Sa e' 0) IF Tt)/\True)/\(aQ d (.cells ah.S.z.arr 124) λx n=>Kp d n [(Sa b 19),(Sa b 19)]/\(Cl 150 #[.pointer t34,.agg #[.bool t40.f0,.U t40.f1,.U t40.f2,.string t40.f3,.string t40.f4]] n λQv K=>ah.EX λQ'=>ah.EX λIG=> ∃II,Qv=.tuple #[Q'.agg,IG.agg,.I II]/\Kp n K [(Sa b 19)]/\aQ K (.cells ah.S.z.arr 124) λf' D'=>Kp K D' [(Sa b 19)]/\ah.dv D' (AA f' 0) Q' λTu=>ah.dv Tu (AA x 0) IG λTv=>J (Sa f' 0) (Sa x 0) II Tv)/\(aQ n (.cells ah.S.z.arr 124) λg' L=>Kp n L [(Sa b 19),(Sa b 19)]/\Cl 150 #[.pointer t34,.agg #[.bool t40.f0,.U t40.f1,.U t40.f2,.string t40.f3,.string t40.f4]] L λQw F'=>ah.EX λR'=>ah.EX λIJ=> ∃IK,Qw=.tuple #[R'.agg,IJ.agg,.I IK]/\Kp L F' [(Sa b 19)]/\ah.dv F' (AA g' 0) R' λTw=>ah.dv Tw (AA x 0) IJ λTx=>J (Sa g' 0) (Sa x 0) IK Tx)/\True)/\True)/\(aQ c (.cells ah.S.z.arr 124) λf o=>Kp c o [(some (k.add 5)),(Sa b 19),(Sa b 19)]/\(Cl 74 #[.pointer t39] o λQx p=>ah.EX λt=>Qx=t.agg/\Kp o p [(Sa b 19),(Sa b 19)]/\(Cl 150 #[.pointer t34,.agg #[.bool t.f0,.U t.f1,.U t.f2,.string t.f3,.string t.f4]] p λQy M=>ah.EX λS'=>ah.EX λIM=> ∃IN,Qy=.tuple #[S'.agg,IM.agg,.I IN]/\Kp p M [(Sa b 19)]/\aQ M (.cells ah.S.z.arr 124) λh' G'=>Kp M G' [(Sa b 19)]/\ah.dv G' (AA f 0) S' λTy=>ah.dv Ty (AA h' 0) IM λTA=>J (Sa f 0) (Sa h' 0) IN TA)/\(aQ p (.cells ah.S.z.arr 124) λi' N=>Kp p N [(Sa b 19),(Sa b 19)]/\Cl 150 #[.pointer t34,.agg #[.bool t.f0,.U t.f1,.U t.f2,.string t.f3,.string t.f4]] N λTC H'=>ah.EX λT'=>ah.EX λIP=> ∃IS,TC=.tuple #[T'.agg,IP.agg,.I IS]/\Kp N H' [(Sa b 19)]/\ah.dv H' (AA f 0) T' λTD=>ah.dv TD (AA i' 0) IP λTE=>J (Sa f 0) (Sa i' 0) IS TE)/\True)/\(aQ o (.cells ah.S.z.arr 124) λj' O=>Kp o O [(some (k.add 5)),(Sa b 19),(Sa b 19)]/\Cl 74 #[.pointer t39] O λTF P=>ah.EX λi=>TF=i.agg/\Kp O P [(Sa b 19),(Sa b 19)]/\Cl 150 #[.pointer t34,.agg #[.bool i.f0,.U i.f1,.U i.f2,.string i.f3,.string i.f4]] P λTG I'=>ah.EX λU'=>ah.EX λIT=> ∃IU,TG=.tuple #[U'.agg,IT.agg,.I IU]/\Kp P I' [(Sa b 19)]/\ah.dv I' (AA f 0) U' λTH=>ah.dv TH (AA j' 0) IT λTI=>J (Sa f 0) (Sa j' 0) IU TI)/\True)/\(aQ c (.cells ah.S.z.arr 124) λg q=>Kp c q [(some (k.add 5)),(Sa b 19),(Sa b 19)]/\(Cl 74 #[.pointer t39] q λQC u=>ah.EX λT=>QC=T.agg/\Kp q u [(Sa b 19),(Sa b 19)]/\(Cl 150 #[.pointer t34,.agg #[.bool T.f0,.U T.f1,.U T.f2,.string T.f3,.string T.f4]] u λQD Q=>ah.EX λV'=>ah.EX λIW=> ∃IX,QD=.tuple #[V'.agg,IW.agg,.I IX]/\Kp u Q [(Sa b 19)]/\aQ Q (.cells ah.S.z.arr 124) λk' J'=>Kp Q J' [(Sa b 19)]/\ah.dv J' (AA k' 0) V' λTJ=>ah.dv TJ (AA g 0) IW λTK=>J (Sa k' 0) (Sa g 0) IX TK)/\(aQ u (.cells ah.S.z.arr 124) λl' U=>Kp u U [(Sa b 19),(Sa b 19)]/\Cl 150 #[.pointer t34,.agg #[.bool T.f0,.U T.f1,.U T.f2,.string T.f3,.string T.f4]] U λQE K'=>ah.EX λW'=>ah.EX λIY=> ∃IZ,QE=.tuple #[W'.agg,IY.agg,.I IZ]/\Kp U K' [(Sa b 19)]/\ah.dv K' (AA l' 0) W' λTL=>ah.dv TL (AA g 0) IY λTM=>J (Sa l' 0) (Sa g 0) IZ TM)/\True)/\(aQ q (.cells ah.S.z.arr 124) λm' V=>Kp q V [(some (k.add 5)),(Sa b 19),(Sa b 19)]/\Cl 74 #[.pointer t39] V λTN W=>ah.EX λj=>TN=j.agg/\Kp V W [(Sa b 19),(Sa b 19)]/\Cl 150 #[.pointer t34,.agg #[.bool j.f0,.U j.f1,.U j.f2,.string j.f3,.string j.f4]] W λTO L'=>ah.EX λO'=>ah.EX λY'=> ∃E9,TO=.tuple #[O'.agg,Y'.agg,.I E9]/\Kp W L' [(Sa b 19)]/\ah.dv L' (AA m' 0) O' λTP=>ah.dv TP (AA g 0) Y' λTQ=>J (Sa m' 0) (Sa g 0) E9 TQ)/\True)/\True)) (λa'=> ∃t23,Cc z B 0 (.U t23)/\if((wrap .u64 ((mM t23 &&& mM 131072).toNat:Int))==0)then a' true z else∃t28,Cc z B 0 (.U t28)/\a' ((wrap .u64 ((mM t28 &&& mM 2).toNat:Int)) !=0) z)):Cl 164 #[a.agg,.slice v' u' t'] h R:=aN (lq (lq (lq (sq (sq (.join [(31,.one (.bool))] lf) (cq ll lf)) (sq (.join [(8,.one (.ptr)),(9,.one (.ptr)),(10,.one (.int .i64))] (.jP (fJ 7 0 (.alts (.fork 7 (.op 8 (.alts (.fork 9 (fJ 4 10 (.alts (.fork 14 (fJ 4 15 .done) (.fork 15 (.op 14 (fJ 3 16 .done)) .gG)))) (.fork 14 (.alts (.fork 9 (fJ 4 10 (fJ 4 15 .done)) (.fork 15 (fJ 5 9 (fJ 3 16 .done)) .gG))) (.fork 15 (.alts (.fork 9 (fJ 5 10 (fJ 3 16 .done)) (.fork 14 (fJ 5 9 (fJ 3 16 .done)) .gG))) .gG))))) (.fork 14 (.alts (.fork 7 (.op 8 (.alts (.fork 9 (fJ 4 10 (fJ 4 15 .done)) (.fork 15 (fJ 5 9 (fJ 3 16 .done)) .gG)))) (.fork 15 (fJ 7 7 (fJ 3 16 .done)) .gG))) (.fork 15 (.alts (.fork 7 (.op 8 (.alts (.fork 9 (fJ 5 10 (fJ 3 16 .done)) (.fork 14 (fJ 5 9 (fJ 3 16 .done)) .gG)))) (.fork 14 (fJ 7 7 (fJ 3 16 .done)) .gG))) .gG))))))) (sq (lq (cq ll lf)) (sq (.join [(10,.one (.int .i64)),(11,.one (.ptr))] (.jP (fJ 13 0 (.alts (.fork 13 (fJ 6 14 .done) (.fork 17 (fJ 4 13 (.op 18 (.op 19 .done))) .gG)))))) (sq (lq (cq ll lf)) (sq (lq (lq (cq ll lf))) ll))))))))) Tryz.func164 hv
theorem iL.PE.walk{d:cg}{c g:Nat}{f:Nat}(e: ∃(I:Int->aj->Prop)(m:Int->aj->Nat),I 0 h/\∀(t8:Int)(H:aj),I t8 H->if(decide (t8<(c:Int)))then Bd t8 c/\aM d λa=>aK.cO H (a.add (toNat t8*10)) λt15=>Cl 163 #[t15.agg,.P f 0] H λv b=> ∃t16,v=.bool t16/\if t16 then R (.I t8) b else(I (wrap .i64 (t8+1)) b/\m (wrap .i64 (t8+1)) b<m t8 H)else R (.I (-1)) H):Cl 162 #[.slice d c g,.func (.func 163) #[] #[.P f 0]] h R:=aN (lq (sq (lq (bq (.loop [(8,.one (.int .i64))] (lq (sq (cq lf lf) (sq (bq (lq (lq (cq ll lf)))) lf)))))) ll)) Tryz.func162 e
theorem AU.walk (n:aQ h (.cells a.arr 98) λb d=>Hp d b 19 λt9=>aM t9 λA=>vj d (A.add 2) λt12=>Cl 160 #[.pointer t12] d λv H=>Vl v λT t o=>Hp H b 19 λt15=>aM t15 λg=>vj H (g.add 2) λt18=>Hi H b 13 λt21=>Hi H b 20 λt23=>Cl 161 #[.pointer t18,.I t21,.I t23] H λV e=> ∃t24,V=.I t24/\Kp H e [(Sa b 19)]/\Cl 162 #[.slice T t o,.func (.func 163) #[] #[.P b 0]] e λw f=>Vi w λt27=>aG (λ(t33:Bool) (c:aj)=>aG (λ(k:aj)=>R (.I t24) k) (λj=>if t33 then bY.cO c (AA b 0) λt35=>Bd t27 t/\aM T λi=>te c ((i.add (toNat t27*10)).add 6) λu q p=>Cl 164 #[t35.agg,.slice u q p] c λx l=> ∃t41,x=.I t41/\aO l (AA out 3) (.I t41) λm=>j m else j c)) (λJ=>if(t24==0)then J (decide (t27≥0)) f else J false f)):Cl 106 #[a.agg,.P out 0] h R:=aN (lq (lq (sq (pK 12) (lq (sq (sq (.join [(33,.one (.bool))] lf) (.join [] (cq (pK 11) lf))) ll))))) Tryz.func106 n
theorem xK.walk{c:aK.S}{c0:Nat}(d:aQ h (.cells c.arr 114) λb H=>Hi H b 0 λt5=> ∃t8,Cc H c0 13 (.I t8)/\R (.bool (t5==t8)) H):Cl 163 #[c.agg,.P c0 0] h R:=aN (lq ll) Tryz.func163 d
theorem xL.walk(n:aQ h (.cells a.arr 98) λb c=>Hp c b 19 λt7=>aM t7 λA=>vj c A λt10=>Hi c b 20 λt12=>Hb c b 18 λt15=>Cl 166 #[.pointer t10,.I t12,.bool t15] c λv H=> ∃t16,v=.I t16/\Kp c H [(Sa b 19)]/\aG (λ(e:Int) (k:aj)=>R (.I e) k) (λJ=>if(t16==0)then Hp H b 19 λt23=>aM t23 λj=>vj H j λt26=>Hi H b 20 λt28=>Cl 167 #[.pointer t26,.I t28] H λV d=> ∃f T t g i,V=.tuple #[.slice f T t,.I g,.I i]/\Kp H d [(Sa b 19)]/\aO d (AA out 5) (.slice f T t) λl=>aO l (AA out 3) (.I g) λm=>J i m else J t16 H)):Cl 108 #[a.agg,.P out 0] h R:=aN (lq (sq (pK 12) (sq (lq (.join [(5,.one (.int .i64))] (cq (pK 21) lf))) ll))) Tryz.func108 n
theorem Da.walk(C:aQ h (.cells a.arr 98) λb H=> ∃t8,Cc H b 1 (.I t8)/\if(t8==1)then Hp H b 19 λt12=>aM t12 λA=>vj H (A.add 1) λt15=>aw.cO H (AA b 2) λt18=>Hi H b 12 λt21=>Hi H b 20 λt23=>Cl 97 #[.pointer t15,.agg #[.bool t18.f0,.U t18.f1,.U t18.f2,.string t18.f3,.string t18.f4,.I t21,.I t23]] H λv g=> ∃t25,v=.I t25/\Kp H g [(Sa b 20),(Sa b 12),(Sa b 2),(Sa b 19)]/\R (.I t25) g else if(t8==2)then Hp H b 19 λt29=>aM t29 λk=>vj H (k.add 1) λt32=>aw.cO H (AA b 2) λt35=>Hi H b 20 λt37=>Cl 98 #[.pointer t32,t35.agg,.I t37] H λV c=> ∃t38,V=.I t38/\Kp H c [(Sa b 19)]/\aG (λ(x:aj)=>R (.I t38) x) (λJ=>if(t38==0)then Hp c b 19 λt43=>aM t43 λl=>vj c (l.add 2) λt46=>aw.cO c (AA b 2) λt49=>Cl 99 #[.pointer t46,t49.agg] c λG i=> ∃D t T,G=.slice D t T/\Kp c i [(Sa b 19)]/\aO i (AA out 3) (.I ((t:Nat):Int)) λy=>J y else J c)else if(t8==3)then Hp H b 19 λt58=>aM t58 λm=>vj H (m.add 1) λt61=>aw.cO H (AA b 2) λt64=>Hi H b 20 λt66=>Hi H b 12 λt69=>Cl 100 #[.pointer t61,t64.agg,.I t66,.I t69] H λI j=> ∃t70,I=.I t70/\Kp H j [(Sa b 19)]/\R (.I t70) j else if(t8==4)then bY.cO H (AA b 0) λt73=>Cl 101 #[t73.agg,.P out 0] H λK z=> ∃t75,K=.I t75/\R (.I t75) z else if(t8==5)then Hp H b 19 λt79=>Hi H b 13 λt82=>Hi H b 20 λt84=>Cl 102 #[.pointer t79,.I t82,.I t84] H λL B=> ∃t85,L=.I t85/\R (.I t85) B else if(t8==6)then Hp H b 19 λt90=>aM t90 λn=>vj H (n.add 2) λt93=>aw.cO H (AA b 2) λt96=>Cl 103 #[.pointer t93,t96.agg] H λM d=> ∃t97,M=.I t97/\Kp H d [(Sa b 19)]/\aO d (AA out 2) (.I t97) λe=>bY.cO e (AA b 0) λt100=>Cl 104 #[t100.agg] e λN p=> ∃t101,N=.I t101/\R (.I t101) p else if(t8==7)then bY.cO H (AA b 0) λt104=>Cl 105 #[t104.agg,.P out 0] H λO q=> ∃t106,O=.I t106/\R (.I t106) q else if(t8==8)then bY.cO H (AA b 0) λt109=>Cl 106 #[t109.agg,.P out 0] H λP u=> ∃t111,P=.I t111/\R (.I t111) u else if(t8==9)then Hp H b 19 λt115=>aM t115 λo=>vj H (o.add 2) λt118=>Hi H b 13 λt121=>Hi H b 20 λt123=>Cl 107 #[.pointer t118,.I t121,.I t123] H λE f=> ∃t124,E=.I t124/\Kp H f [(Sa b 19)]/\R (.I t124) f else if(t8==10)then bY.cO H (AA b 0) λt127=>Cl 108 #[t127.agg,.P out 0] H λF w=> ∃t129,F=.I t129/\R (.I t129) w else R (.I 3) H):Cl 44 #[a.agg,.P out 0] h R:=aN (lq (sq (lq (bq (lq (cq (sq (pK 16) lf) (lq (cq (sq (pK 12) (sq (lq (.join [] (cq (pK 14) lf))) ll)) (lq (cq (sq (pK 15) lf) (lq (cq ll (lq (cq ll (lq (cq (sq (pK 13) ll) (lq (cq ll (lq (cq ll (lq (cq (sq (pK 12) lf) (lq (cq ll lf)))))))))))))))))))))) ll)) Tryz.func44 C
theorem He.walk(W:aQ h (.cells r.arr 47) λb K=>aQ K (.cells ar.S.z.arr 44) λB H=>aG (λ(t15:Bool) (e:aj)=>if t15 then Hu e b 0 λt61=>Cl 41 #[.U t61,.I 6] e λv U=>ar.EX λt62=>v=t62.agg/\ar.dv U (AA B 0) t62 λy=>ar.cO y (AA B 0) λX=>R (X.agg) y else aG (λ(t63:Bool) (f:aj)=>if t63 then Hu f b 0 λt73=>Cl 41 #[.U t73,.I 3] f λe' V=>ar.EX λt74=>e'=t74.agg/\ar.dv V (AA B 0) t74 λz=>ar.cO z (AA B 0) λY=>R (Y.agg) z else Hp f s 0 λt79=>Cl 28 #[.pointer t79,.I S] f λg' d=> ∃t81,g'=.bool t81/\if(!t81)then Hu d b 0 λt84=>Cl 41 #[.U t84,.I 16] d λh' L=>ar.EX λt85=>h'=t85.agg/\ar.dv L (AA B 0) t85 λo=>ar.cO o (AA B 0) λZ=>R (Z.agg) o else Hp d s 0 λt90=>Hu d b 0 λt93=>Cl 42 #[.pointer t90,.I S,.U t93] d λi' g=> ∃G F E I,i'=.tuple #[.slice G F E,.bool I]/\if I then Cl 43 #[.slice G F E] g λj' M=>ar.EX λT=> ∃c',j'=.tuple #[T.agg,.I c']/\aQ M (.cells ar.S.z.arr 44) λn N=>ar.dv N (AA n 0) T λp=>ar.cO p (AA n 0) λt103=>ar.dv p (AA B 0) t103 λq=>ar.cO q (AA B 0) λa'=>R (a'.agg) q else Hu g b 0 λt105=>aQ g (.cells ar.S.z.arr 44) λc O=>ar.dv O (AA c 0) ⟨t105,0,0,0,0,none,0,0⟩ λt=>aE.cO t (AA b 0) λt107=>Cl 44 #[.agg #[.U t107.f0,.I t107.f1,.bool t107.f2,.U t107.f3,.U t107.f4,.string t107.f5,.string t107.f6,.bool t107.f7,.U t107.f8,.U t107.f9,.string t107.f10,.string t107.f11,.I t107.f12,.I t107.f13,.I t107.f14,.slice t107.N8 t107.LK t107.N9,.U t107.f16,.U t107.f17,.bool t107.f18,.P s 0,.I S],.P c 0] t λk' i=>Vi k' λt111=>aG (λ(u:aj)=>ar.cO u (AA c 0) λt119=>Cl 45 #[t119.agg] u λl' j=> ∃D C A d',l'=.tuple #[.slice D C A,.I d']/\Hp j s 0 λt126=>Hu j b 0 λt129=>Cl 46 #[.pointer t126,.I S,.U t129,.slice D C A] j λm' w=>Vi m' λt131=>ar.cO w (AA c 0) λt132=>ar.dv w (AA B 0) t132 λx=>ar.cO x (AA B 0) λb'=>R (b'.agg) x) (λm=>if(t111 !=0)then Hu i b 0 λt115=>Cl 41 #[.U t115,.I t111] i λn' P=>ar.EX λt117=>n'=t117.agg/\ar.dv P (AA c 0) t117 λQ=>m Q else m i)) (λl=>aE.cO e (AA b 0) λt64=>Cl 29 #[t64.agg] e λf' k=> ∃t65,f'=.bool t65/\if(!t65)then l true k else∃t69,Cc k b 1 (.I t69)/\l (decide (t69≥11)) k)) (λJ=> ∃t22,Cc H s 0 (.pointer t22)/\if t22.isNone then J true H else∃t29,Cc H s 1 (.pointer t29)/\if t29.isNone then J true H else∃t36,Cc H s 2 (.pointer t36)/\if t36.isNone then J true H else∃t43,Cc H s 3 (.pointer t43)/\if t43.isNone then J true H else∃t50,Cc H s 4 (.pointer t50)/\if t50.isNone then J true H else∃t57,Cc H s 5 (.pointer t57)/\J t57.isNone H)):Cl 13 #[.P s 0,.I S,r.agg] h R:=aN (lq (sq (bq (sq (.join [(15,.one (.bool))] lf) (cq ll (sq (.join [(63,.one (.bool))] lf) (cq ll (lq (cq ll lf))))))) (sq (sq (pK 13) (lq (cq (lq ll) lf))) (lq (sq (lq (lq (.join [] (cq lf lf)))) (lq (sq (pK 9) ll))))))) Tryz.func13 W
theorem He.nil.walk(m:aQ h (.cells r.arr 47) λb g=>aQ g (.cells ar.S.z.arr 44) λB i=>aG (λ(t15:Bool) (H:aj)=>if t15 then Hu H b 0 λt61=>Cl 41 #[.U t61,.I 6] H λv k=>ar.EX λt62=>v=t62.agg/\ar.dv k (AA B 0) t62 λd=>ar.cO d (AA B 0) λn=>R (n.agg) d else aG (λ(t63:Bool) (e:aj)=>if t63 then Hu e b 0 λt73=>Cl 41 #[.U t73,.I 3] e λV l=>ar.EX λt74=>V=t74.agg/\ar.dv l (AA B 0) t74 λf=>ar.cO f (AA B 0) λo=>R (o.agg) f else False) (λj=>aE.cO H (AA b 0) λt64=>Cl 29 #[t64.agg] H λp c=> ∃t65,p=.bool t65/\if(!t65)then j true c else∃t69,Cc c b 1 (.I t69)/\j (decide (t69≥11)) c)) (λJ=>J true i)):Cl 13 #[.pointer none,.I S,r.agg] h R:=aN (lq (sq (bq (sq (.join [(15,.one (.bool))] lf) (cq ll (sq (.join [(63,.one (.bool))] lf) (cq ll (lq (cq ll lf))))))) (sq (sq (pK 13) (lq (cq (lq ll) lf))) (lq (sq (lq (lq (.join [] (cq lf lf)))) (lq (sq (pK 9) ll))))))) Tryz.func13 m
theorem Hf.walk(d:aQ h (.cells aw.S.z.arr 29) λb c=>aw.dv c (AA b 0) ⟨true,7,0,gV,gV⟩ λH=>aw.cO H (AA b 0) λe=>R (e.agg) H):Cl 9 #[] h R:=aN (lq ll) Tryz.func9 d
theorem Hh.walk(d:aQ h (.cells aw.S.z.arr 29) λb c=>aw.dv c (AA b 0) ⟨true,7,1,gV,gV⟩ λH=>aw.cO H (AA b 0) λe=>R (e.agg) H):Cl 14 #[] h R:=aN (lq ll) Tryz.func14 d
theorem Fa.walk(H: ∃t9,Cc h s 0 (.pointer t9)/\if(!t9.isNone)then∃t16,Cc h s 1 (.pointer t16)/\if(!t16.isNone)then∃t23,Cc h s 2 (.pointer t23)/\if(!t23.isNone)then∃t30,Cc h s 3 (.pointer t30)/\if(!t30.isNone)then∃t37,Cc h s 4 (.pointer t37)/\if(!t37.isNone)then∃t44,Cc h s 5 (.pointer t44)/\R (.bool (!t44.isNone)) h else R (.bool false) h else R (.bool false) h else R (.bool false) h else R (.bool false) h else R (.bool false) h):Cl 10 #[.P s 0] h R:=aN (lq ll) Tryz.func10 H
theorem Fb.walk (hv:Cl 9 #[] h λv p=>aw.EX λt10=>v=t10.agg/\Cl 8 #[t10.agg] p λl' c=> ∃t k,l'=.tuple #[.pointer t,.I k]/\aG (λ(t33:Bool) (e:aj)=>if t33 then R (.bool false) e else aM t λa=>vj e a λt37=>Cl 12 #[.pointer t37,.U 5] e λu' j=> ∃e' f',u'=.tuple #[.I e',.I f']/\aM t λA=>vj j A λt42=>Cl 12 #[.pointer t42,.U 6] j λv' X=> ∃g' h',v'=.tuple #[.I g',.I h']/\Cl 14 #[] X λw' Y=>aw.EX λt45=>w'=t45.agg/\Cl 13 #[.pointer t,.I 1,.agg #[.U 1,.I 1,.bool t45.f0,.U t45.f1,.U t45.f2,.string t45.f3,.string t45.f4,.bool false,.U 0,.U 0,.string gV,.string gV,.I 0,.I 0,.I 0,.Z,.U 0,.U 0,.bool false]] Y λx' Z=>ar.EX λt47=>x'=t47.agg/\aQ Z (.cells ar.S.z.arr 44) λb a'=>ar.dv a' (AA b 0) t47 λb'=>Cl 14 #[] b' λy' q=>aw.EX λt49=>y'=t49.agg/\Cl 13 #[.pointer t,.I 2,.agg #[.U 1,.I 1,.bool t49.f0,.U t49.f1,.U t49.f2,.string t49.f3,.string t49.f4,.bool false,.U 0,.U 0,.string gV,.string gV,.I 0,.I 0,.I 0,.Z,.U 0,.U 0,.bool false]] q λz' u=>ar.EX λt51=>z'=t51.agg/\aQ u (.cells ar.S.z.arr 44) λf w=>ar.dv w (AA f 0) t51 λx=>Cl 14 #[] x λA' y=>aw.EX λt53=>A'=t53.agg/\Cl 14 #[] y λB' z=>aw.EX λt54=>B'=t54.agg/\aQ z (.cells #[.int .u8 120] 5) λo C=>aU Tryz.prog (convert 22 22 (.slice (Sa o 0) 1 1)) C λm' D=>Vl m' λk' j' i'=>Cl 13 #[.pointer t,.I 1,.agg #[.U 2,.I 4,.bool t53.f0,.U t53.f1,.U t53.f2,.string t53.f3,.string t53.f4,.bool t54.f0,.U t54.f1,.U t54.f2,.string t54.f3,.string t54.f4,.I 0,.I 0,.I 0,.slice k' j' i',.U 9,.U 0,.bool false]] D λn' E=>ar.EX λt58=>n'=t58.agg/\aQ E (.cells ar.S.z.arr 44) λB F=>ar.dv F (AA B 0) t58 λG=>Cl 14 #[] G λo' I=>aw.EX λt60=>o'=t60.agg/\Cl 13 #[.pointer t,.I 1,.agg #[.U 2,.I 6,.bool t60.f0,.U t60.f1,.U t60.f2,.string t60.f3,.string t60.f4,.bool false,.U 0,.U 0,.string gV,.string gV,.I 0,.I 0,.I 0,.Z,.U 0,.U 0,.bool false]] I λp' K=>ar.EX λt62=>p'=t62.agg/\aQ K (.cells ar.S.z.arr 44) λd L=>ar.dv L (AA d 0) t62 λM=>Cl 14 #[] M λq' N=>aw.EX λt64=>q'=t64.agg/\Cl 13 #[.pointer t,.I 3,.agg #[.U 2,.I 6,.bool t64.f0,.U t64.f1,.U t64.f2,.string t64.f3,.string t64.f4,.bool false,.U 0,.U 0,.string gV,.string gV,.I 0,.I 0,.I 0,.Z,.U 0,.U 0,.bool false]] N λr' O=>ar.EX λt66=>r'=t66.agg/\aQ O (.cells ar.S.z.arr 44) λg P=>ar.dv P (AA g 0) t66 λQ=>Cl 13 #[.pointer none,.I 1,.agg #[.U 2,.I 0,.bool false,.U 0,.U 0,.string gV,.string gV,.bool false,.U 0,.U 0,.string gV,.string gV,.I 0,.I 0,.I 0,.Z,.U 0,.U 0,.bool false]] Q λs' U=>ar.EX λt68=>s'=t68.agg/\aQ U (.cells ar.S.z.arr 44) λi V=>ar.dv V (AA i 0) t68 λH=> ∃t70,Cc H b 1 (.I t70)/\if(t70==0)then∃t74,Cc H b 0 (.U t74)/\if(t74==1)then∃t79,Cc H f 1 (.I t79)/\if(t79==11)then∃t84,Cc H B 1 (.I t84)/\if(t84==0)then∃t89,Cc H B 2 (.I t89)/\if(t89==1)then∃t94,Cc H d 2 (.I t94)/\if(t94==1)then Hi H d 3 λt99=> ∃t101,Cc H B 3 (.I t101)/\if(t99==t101)then∃t106,Cc H g 1 (.I t106)/\if(t106==16)then∃t111,Cc H i 1 (.I t111)/\if(t111==6)then aM t λl=>vj H (l.add 3) λt118=>Cl 39 #[.pointer t118] H λt' W=> ∃d' T c',t'=.slice d' T c'/\R (.bool (((T:Nat):Int)==1)) W else R (.bool false) H else R (.bool false) H else R (.bool false) H else R (.bool false) H else R (.bool false) H else R (.bool false) H else R (.bool false) H else R (.bool false) H else R (.bool false) H) (λJ=>if(k !=0)then J true c else if t.isNone then J true c else aM t λm=> ∃t24,aX c m=some (.pointer t24)/\if t24.isNone then J true c else aM t λn=> ∃t31,aX c (n.add 3)=some (.pointer t31)/\J t31.isNone c)):Cl 11 #[] h R:=aN (lq (lq (sq (sq (.join [(33,.one (.bool))] lf) (cq ll lf)) (lq (lq (lq (lq (lq (lq (lq (lq ll))))))))))) Tryz.func11 hv

end
section
namespace Ask
open iT (Ev cN)
open eU (SS Good Pt sP Mk)
open Bn (iN gL iB zT C7)
variable {h h':aj} {R:fj} {s k m:Nat} {X:Ft} {I:sP} {σ:SS} {e:Ev} {tm sq:Nat}
variable {K:aj->Prop}
theorem Fc(now eV:Nat)(H:now<=1099511627776)(a:eV<=1099511627776)(hk:R (.U (kY now eV:Int)) h):Cl 157 #[.U (now:Int),.U (eV:Int)] h R:=by
 refine KB.walk ?_;rw[wrap_u64 af af];have:(if(1099511627776:Int)<(now:Int)+(eV:Int)then 1099511627776 else(now:Int)+(eV:Int))=(kY now eV:Int):=by unfold kY;split<;>omega
 rw[this];exact hk
theorem M7(M:Mk h m e tm sq)(now:Nat)(V:now<=1099511627776)(W:sq<=1099511627776)(G:tm<now->∀h',Mk h' m e now 0->Fr (λy=>y=m) h h'->R (.tuple #[(⟨e,now,0⟩:iN).s.agg,.I 0]) h')(L: ¬tm<now->sq<1099511627776->∀h',Mk h' m e tm (sq+1)->Fr (λy=>y=m) h h'->R (.tuple #[(⟨e,tm,sq+1⟩:iN).s.agg,.I 0]) h')(N: ¬tm<now->1099511627776<=sq->gU h R (.tuple #[iN.zero.s.agg,.I 5])):Cl 190 #[pt m,.U (now:Int)] h R:=by
 refine wm.walk (ah.db λb u T l f1=>aG.of λJ w=>aG.of λO x=> ?_);have a:=f1.get M id;have Z:=aC M;have n:b≠m:=af
 refine⟨_,ak a,?_⟩;subst x;dsimp only;refine aG.of λP z=> ?_
 rw[dj];refine aG.of λQ D=> ?_
 rw[dj];refine⟨_,ak a,aG.of λo E=> ?_⟩;have fin: ∀g (t q:Nat),Mk g m e t q->Fr (λy=>y=m) u g->(∀h',Mk h' m e t q->Fr (λy=>y=m) h h'->R (.tuple #[(⟨e,t,q⟩:iN).s.agg,.I 0]) h')->o g:=by
  intro g t q j F hk;subst E;subst D;subst z;subst w;refine zT ⟨e,t,q⟩ j rfl rfl rfl rfl rfl rfl rfl (C7 ⟨e,t,q⟩ (F.get l n) λi f4=>hk i (f4.get j (λe=>n e.symm)) ?_);exact(Fr.no f1 F).trans f4 cu (λc U e=>af)
 by_cases c1:tm<now
 .rw[fY];refine bH a bO λH A d f=>bH A bO λv b1 B r=> ?_
  exact fin v now 0 b1 ((Fr.of_eq (S:=λy=>y=m) d f).tt (Fr.of_eq B r)) (G c1)
 rw[dj];refine⟨_,ak a,?_⟩;by_cases C:1099511627776<=sq
 .rw[ag (by simp only[aY];omega)];exact C7 .zero l λi f4=>N c1 C i (f1.fresh f4 (λy e=>af))
 rw[dj];refine⟨_,ak a,?_⟩;rw[wrap_u64 af af];refine bH a bO λH A d f=> ?_
 have p:Mk H m e tm (sq+1):=by unfold Mk;rw[Int.natCast_add];exact A
 exact fin H tm (sq+1) p (Fr.of_eq d f) (L c1 af)
theorem uj(a b:iN)(j:a.tm<b.tm\/a.tm=b.tm/\a.sq<b.sq)(hk: gU h R (.bool true)):Cl 238 #[a.s.agg,b.s.agg] h R:=by
 refine EU.walk (ah.db λb1 i E d f1=>ah.db λB f g H f2=>⟨_,ak (f2.get d id),_,ak H,?_⟩);have c:=f2.get d id;have hk:=hk f (f1.tt f2);by_cases c1:a.tm=b.tm
 .rw[ae (by show¬(((a.tm:Int)) !=(b.tm:Int))=true;rw[c1];simp)];refine⟨_,ak c,_,ak H,?_⟩;have C:a.sq<b.sq:=af
  rw[ag (by show(((a.sq:Int)) !=(b.sq:Int))=true;simp;omega)];refine⟨_,ak c,_,ak H,?_⟩;rw[au (by show(a.sq:Int)<(b.sq:Int);omega)];exact hk
 .rw[ag (by show(((a.tm:Int)) !=(b.tm:Int))=true;simp;omega)];refine⟨_,ak c,_,ak H,?_⟩;rw[au (by show(a.tm:Int)<(b.tm:Int);omega)];exact hk
theorem TR(M:Mk h m e tm sq)(x:iN)(b:x.e=e)(hk: ∀h',Mk h' m e x.tm x.sq->Fr (λy=>y=m) h h'->K h'):ah.dv h (AA m 0) x.s K:=by
 subst b;exact(show dU (AA m 0) x.s.l 0 h K from lR (off:=0) (ws:= [.bool x.e.jI,.U x.e.node,.U x.e.fX,.string x.e.host,.string x.e.jd,.U (x.tm:Int),.U (x.sq:Int),.bool true]) M (by show 0+7<=8;omega) rfl rfl λH d1 d2 d3=>hk H d1 (Fr.of_eq d2 λc a=>d3 c a))
theorem Fe(M:Mk h m e tm sq)(x:iN)(f:x.e=e)(o:gL x=true)(n:tm<x.tm\/tm=x.tm/\sq<x.sq)(hk: ∀h',Mk h' m e x.tm x.sq->Fr (λy=>y=m) h h'->R (.I 0) h'):Cl 189 #[pt m,x.s.agg] h R:=by
 refine wo.walk (ah.db λb q E d f1=>aG.of λJ j=> ?_);have c:=f1.get M id;have z:=aC M;refine⟨_,ak c,?_⟩;subst j;dsimp only;rw[dj];refine aG.of λp l=>ah.fR (x:=x.s) d (Bn.rj x λr f2=>⟨_,rfl,?_⟩)
 have a:=f2.get c id;have H:=f2.get d id;rw[o,dj];refine iB x.e H rfl rfl rfl rfl rfl (iB e a rfl rfl rfl rfl rfl ⟨_,iT.tW (x:=x.e) (y:=e) rfl rfl,?_⟩);subst l;dsimp only;rw[au f,dj];refine zT ⟨e,tm,sq⟩ a rfl rfl rfl rfl rfl rfl rfl (ah.fR (x:=x.s) H (uj ⟨e,tm,sq⟩ x n λt f3=>⟨_,rfl,?_⟩));rw[dj];exact ah.fR (x:=x.s) (f3.get H id) (TR (f3.get a id) x f λi g f4=>hk i g (Fr.no (f1.tt (f2.tt f3)) f4))
theorem Pt.mk'(H:Pt h s X I σ):Mk h I.k σ.e σ.tm σ.sq:=by obtain⟨Y,a,_⟩:=H;exact(a 5).1
theorem R8{b:Nat}{y:iN}(x:Ev)(a:ah.fV h b y.s)(hk: ∀h',ah.fV h' b (⟨x,y.tm,y.sq⟩:iN).s->Fr (λy=>y=b) h h'->K h'):aw.dv h (AA b 0) x.s K:=
 (show dU (AA b 0) x.s.l 0 h K from lR (off:=0) (ws:=(⟨x,y.tm,y.sq⟩:iN).s.l) a (by show 0+5<=7;omega) rfl rfl λH d1 d2 d3=>hk H d1 (Fr.of_eq d2 λc d=>d3 c d))
theorem uk(H:Pt h s X I σ)(G:eU.Good σ k)(src:Ev)(A: ∀n,oa σ=some n->gU h R (.tuple #[(⟨src,n.1,n.2⟩:iN).s.agg,(⟨σ.e,n.1,n.2⟩:iN).s.agg,.I 0]))(V:oa σ=none->gU h R (.tuple #[(⟨src,0,0⟩:iN).s.agg,iN.zero.s.agg,.I 5])):Cl 150 #[pt s,src.s.agg] h R:=by
 refine M6.walk (aw.db λb h1 eb hb f1=>ah.db λb1 h2 o' i f2=>ah.db λo r p' j' f3=> ?_);have D:=f1.tt (f2.tt f3);have l:=H.on D;have z1:=f1.1;have z2:=f2.1;have z3:=f3.1;refine⟨_,ak l.cQ,eU.Iw (Pt.mk' l) λh4 f4=>ah.ex (⟨σ.e,σ.tm,σ.sq⟩:iN).s ⟨rfl,ah.gh (x:=(⟨σ.e,σ.tm,σ.sq⟩:iN).s) λb3 h6 q' Q f6=> ?_⟩⟩;have z4:=f4.1;refine iB σ.e Q rfl rfl rfl rfl rfl (eU.w9 σ.e (λS t m M g7 f7=>⟨_,_,rfl,?_⟩) (λS=>absurd ⟨G.e.1,G.e.2.1⟩ S));rw[dj];have Y:=f4.tt (f6.tt f7);have w:=f7.get Q id;have z6:=f6.1;have z7:=f7.1;have T: ∀(g:aj)(x:iN)(q:Int),Fr No r g->(∀L,Fr No h L->R (.tuple #[(⟨src,x.tm,x.sq⟩:iN).s.agg,x.s.agg,.I q]) L)->
   aQ g (.cells ah.S.z.arr 124) λB g'=>
   ah.dv g' (AA B 0) x.s λN=>
   ah.cO N (AA B 0) λt48=>
   aQ N (.cells ah.S.z.arr 124) λp i'=>
   ah.dv i' (AA p 0) t48 λO=>
   aw.cO O (AA b 0) λt49=>
   aw.dv O (AA p 0) t49 λd=>
   ah.cO d (AA p 0) λt51=>
   ah.cO d (AA B 0) λt52=>
   ah.dv d (AA b1 0) t51 λP=>
   Kp d P [(Sa B 0)]/\
   ah.dv P (AA o 0) t52 λu=>
   ah.cO u (AA b1 0) λm'=>
   ah.cO u (AA o 0) λn'=>
   R (.tuple #[m'.agg,n'.agg,.I q]) u:=by
  intro g x q f hk;refine ah.gh (x:=x.s) λb4 t' r' z f14=>ah.fR z (ah.gh (x:=x.s) λb5 u' s' k' f16=> ?_)
  have C:=f.tt (f14.tt f16);have zg:=f.1;have y':=f14.1;have w':b1≠b4:=by have:=aC i;omega
  have x':b1≠b5:=by have:=aC i;omega
  have W:o≠b1:=by have:=aC i;omega
  refine iB src (C.get ((f2.tt f3).get hb id) id) rfl rfl rfl rfl rfl (R8 src k' λc' l' f17=>ah.fR (x:=(⟨src,x.tm,x.sq⟩:iN).s) l' (ah.fR (x:=x.s) (f17.get (f16.get z id) (bX (aC z))) ?_));have j:Fr No r c':=C.fresh f17 (λy e=>af);refine ah.hM (x:=(⟨src,x.tm,x.sq⟩:iN).s) (j.get (f3.get i id) id) λv' d18 f18 _=>⟨Bn.Ti f18 (by simp;omega),ah.hM (x:=x.s) (f18.get (j.get j' id) W) λd' d19 f19 _=>ah.fR (x:=(⟨src,x.tm,x.sq⟩:iN).s) (f19.get d18 W.symm) (ah.fR (x:=x.s) d19 (hk d' ?_))⟩
  exact((D.tt j).fresh f18 (λy e=>af)).fresh f19 (λy e=>af)
 refine aG.of λJ hJ=> ?_
 have key: ∀v,(v=true↔0<σ.tm\/0<σ.sq)->J v t:=by
  intro v U;subst hJ;dsimp only;refine aG.of λJ1 f'=> ?_
  have fin: ∀g,Mk g m σ.e σ.tm σ.sq->Fr (λy=>y=m) t g->J1 g:=by
   intro g Mg f;subst f';have F:Fr No r g:=Y.fresh f (λy e=>af);have Z:=l.on F;unfold oa at A V;refine⟨_,ak Z.cQ,M7 Mg σ.now G.n G.t.2 (λc1 a a' f12=> ?_) (λc1 E a a' f12=> ?_) (λc1 E a f12=> ?_)⟩
   .exact ah.ex (⟨σ.e,σ.now,0⟩:iN).s ⟨_,rfl,T a ⟨σ.e,σ.now,0⟩ 0 (F.fresh f12 (λy e=>af)) (A (σ.now,0) (ag c1))⟩
   .exact ah.ex (⟨σ.e,σ.tm,σ.sq+1⟩:iN).s ⟨_,rfl,T a ⟨σ.e,σ.tm,σ.sq+1⟩ 0 (F.fresh f12 (λy e=>af)) (A (σ.tm,σ.sq+1) ((ae c1).trans (dj)))⟩
   .exact ah.ex iN.zero.s ⟨_,rfl,T a .zero 5 (F.tt f12) (V ((ae c1).trans (ag E)))⟩
  cases v with
  |true=>
   rw[ag rfl];have hr:gL ⟨σ.e,σ.tm,σ.sq⟩=true:=by unfold gL;rw[G.e.1,au G.t.1,au G.t.2];rfl
   exact ah.fR (x:=(⟨σ.e,σ.tm,σ.sq⟩:iN).s) w (Fe M ⟨σ.e,σ.tm,σ.sq⟩ rfl hr (by have:=U.1 rfl;show 0<σ.tm\/0=σ.tm/\0<σ.sq;omega) λe' b' f20=>⟨_,rfl,fin e' b' f20⟩)
  |false=>
   rw[dj];have c: ¬(0<σ.tm\/0<σ.sq):=λc=>by have:=U.2 c;cases this
   have e1:σ.tm=0:=af
   have e2:σ.sq=0:=af
   exact fin t (by rw[e1,e2];exact M) (Fr.refl _ _)
 refine⟨_,ak w,?_⟩;by_cases c:0<σ.tm
 .rw[ag (au (by show((σ.tm:Nat):Int)>0;omega))];exact key true ⟨λ_=> .inl c,λ_=>rfl⟩
 .rw[ae (by simp only[aY];show¬((σ.tm:Nat):Int)>0;omega)];refine⟨_,ak w,key _ ⟨λe=> .inr (by have e:((σ.sq:Nat):Int)>0:=aP e;omega),λe=>au (by show((σ.sq:Nat):Int)>0;omega)⟩⟩

end Ask
end
section
variable {h:aj} {R:fj}
variable {x:aE.S}
theorem Db.walk{a:aE.S}{b:aE.S}(f:aQ h (.cells a.arr 47) λB e=>aQ e (.cells b.arr 47) λc H=>Hu H B 0 λt6=> ∃t8,Cc H c 0 (.U t8)/\if(t6==t8)then Hi H B 1 λt12=> ∃t14,Cc H c 1 (.I t14)/\if(t12==t14)then aw.cO H (AA B 2) λt19=>aw.cO H (AA c 2) λt21=> ∃(eq:Bool),xO Tryz.prog 29 (t19.agg) (t21.agg) eq/\if eq then aw.cO H (AA B 7) λt26=>aw.cO H (AA c 7) λt28=> ∃(eq_1:Bool),xO Tryz.prog 29 (t26.agg) (t28.agg) eq_1/\if eq_1 then Hi H B 12 λt33=> ∃t35,Cc H c 12 (.I t35)/\if(t33==t35)then Hi H B 13 λt40=> ∃t42,Cc H c 13 (.I t42)/\if(t40==t42)then Hi H B 14 λt47=> ∃t49,Cc H c 14 (.I t49)/\if(t47==t49)then Hl H B 15 λg T t=>Hl H c 15 λk j i=>Cl 82 #[.slice g T t,.slice k j i] H λv d=> ∃t57,v=.bool t57/\if t57 then Hu d B 16 λt61=> ∃t63,Cc d c 16 (.U t63)/\if(t61==t63)then Hu d B 17 λt68=> ∃t70,Cc d c 17 (.U t70)/\if(t68==t70)then Hb d B 18 λt75=> ∃t77,Cc d c 18 (.bool t77)/\R (.bool (t75==t77)) d else R (.bool false) d else R (.bool false) d else R (.bool false) d else R (.bool false) H else R (.bool false) H else R (.bool false) H else R (.bool false) H else R (.bool false) H else R (.bool false) H else R (.bool false) H):Cl 80 #[a.agg,b.agg] h R:=aN (lq ll) Tryz.func80 f
theorem Ff.walk (W:aQ h (.cells x.arr 47) λb C=>aQ C (.cells aE.S.z.arr 47) λu g=>Hu g b 0 λt5=>Hi g b 1 λt7=>aQ g (.cells aE.S.z.arr 47) λB T=>aE.dv T (AA B 0) ⟨t5,t7,false,0,0,gV,gV,false,0,0,gV,gV,0,0,0,none,0,0,0,0,false⟩ λi=>Hi i b 1 λt10=>aG (λ(y:aj)=>aE.cO y (AA B 0) λt68=>aE.dv y (AA u 0) t68 λz=>aE.cO z (AA u 0) λX=>R (X.agg) z) (λJ=>aG (λ(t11:Bool) (c:aj)=>aG (λ(V:aj)=>J V) (λm=>if t11 then aw.cO c (AA b 2) λt15=>Hi c b 12 λt17=>aw.dv c (AA B 2) t15 λA=>Kp c A [(Sa b 12)]/\aO A (AA B 12) (.I t17) λD=>m D else aG (λ(t20:Bool) (H:aj)=>aG (λ(E:aj)=>m E) (λo=>if t20 then aw.cO H (AA b 2) λt24=>aw.dv H (AA B 2) t24 λF=>o F else aG (λ(G:aj)=>o G) (λp=>if(t10==4)then aw.cO H (AA b 2) λt29=>aw.cO H (AA b 7) λt31=>Hl H b 15 λa' Z Y=>Hu H b 16 λt35=>Hb H b 18 λt37=>aw.dv H (AA B 2) t29 λd=>Kp H d [(Sa b 18),(Sa b 16),(Sa b 15),(Sa b 7)]/\aw.dv d (AA B 7) t31 λe=>Kp d e [(Sa b 18),(Sa b 16),(Sa b 15)]/\aO e (AA B 15) (.slice a' Z Y) λf=>Kp e f [(Sa b 18),(Sa b 16)]/\aO f (AA B 16) (.U t35) λv=>Kp f v [(Sa b 18)]/\aO v (AA B 18) (.bool t37) λI=>p I else aG (λ(t43:Bool) (a:aj)=>aG (λ(K:aj)=>p K) (λr=>if t43 then∃t48,Cc a b 13 (.I t48)/\aO a (AA B 13) (.I t48) λL=>r L else aG (λ(M:aj)=>r M) (λs=>if(t10==7)then aw.cO a (AA b 2) λt53=>Hi a b 14 λt55=>aw.dv a (AA B 2) t53 λw=>Kp a w [(Sa b 14)]/\aO w (AA B 14) (.I t55) λN=>s N else aG (λ(O:aj)=>s O) (λt=>if(t10==10)then∃t61,Cc a b 18 (.bool t61)/\aO a (AA B 18) (.bool t61) λP=>t P else aG (λ(Q:aj)=>t Q) (λk=>if(t10==12)then∃t66,Cc a b 17 (.U t66)/\aO a (AA B 17) (.U t66) λS=>k S else k a))))) (λq=>if(t10==5)then q (t10==5) H else aG (λ(b':Bool) (U:aj)=>q b' U) (λl=>if(t10==8)then l (t10==8) H else l (t10==9) H))))) (λn=>if(t10==2)then n (t10==2) c else n (t10==6) c))) (λj=>if(t10==1)then j (t10==1) i else j (t10==3) i))):Cl 81 #[x.agg] h R:=aN (lq (lq (sq (lq (.join [] (bq (sq (lq (.join [(11,.one (.bool))] (cq lf lf))) (.join [] (cq (pK 8) (sq (lq (.join [(20,.one (.bool))] (cq lf lf))) (.join [] (cq lf (lq (.join [] (cq (pK 20) (sq (lq (.join [(43,.one (.bool))] (cq lf (lq (.join [(43,.one (.bool))] (cq lf lf)))))) (.join [] (cq lf (lq (.join [] (cq (pK 8) (lq (.join [] (cq lf (lq (.join [] (cq lf lf)))))))))))))))))))))))) ll))) Tryz.func81 W
theorem zZ.walk{x:aw.S}(c:aQ h (.cells x.arr 29) λb a=>aw.cO a (AA b 0) λt3=>Cl 86 #[t3.agg] a λv H=> ∃t4,v=.bool t4/\if t4 then aw.cO H (AA b 0) λt6=> ∃(eq:Bool),xO Tryz.prog 29 (t6.agg) (aw.S.z.agg) eq/\R (.bool (!eq)) H else R (.bool false) H):Cl 139 #[x.agg] h R:=aN (lq ll) Tryz.func139 c
theorem AW.walk (o:aQ h (.cells x.arr 47) λb g=>Hi g b 1 λt4=>aG (λ(t5:Bool) (f:aj)=>if t5 then aw.cO f (AA b 2) λt9=>Cl 139 #[t9.agg] f λv d=> ∃t10,v=.bool t10/\if t10 then∃t13,Cc d b 12 (.I t13)/\if(decide (t13≥0))then∃t18,Cc d b 12 (.I t18)/\R (.bool (decide (t18<=2))) d else R (.bool false) d else R (.bool false) d else aG (λ(t21:Bool) (a:aj)=>if t21 then aw.cO a (AA b 2) λt25=>Cl 139 #[t25.agg] a λV n=> ∃t26,V=.bool t26/\R (.bool t26) n else if(t4==4)then aw.cO a (AA b 2) λt30=>Cl 139 #[t30.agg] a λr i=> ∃t31,r=.bool t31/\if t31 then aw.cO i (AA b 7) λt34=>Cl 139 #[t34.agg] i λs c=> ∃t35,s=.bool t35/\if t35 then∃p t T,Cc c b 15 (.slice p t T)/\if(decide (((t:Nat):Int)<=200))then∃t45,Cc c b 16 (.U t45)/\if(decide (t45≥1))then∃t50,Cc c b 16 (.U t50)/\R (.bool (decide (t50<=1099511627776))) c else R (.bool false) c else R (.bool false) c else R (.bool false) c else R (.bool false) i else aG (λ(t53:Bool) (H:aj)=>if t53 then∃t58,Cc H b 13 (.I t58)/\if(decide (t58≥1))then∃t62,Cc H b 13 (.I t62)/\R (.bool (decide (t62<=1099511627776))) H else R (.bool false) H else if(t4==7)then aw.cO H (AA b 2) λt68=>Cl 139 #[t68.agg] H λu e=> ∃t69,u=.bool t69/\if t69 then∃t72,Cc e b 14 (.I t72)/\if(decide (t72≥1))then∃t77,Cc e b 14 (.I t77)/\R (.bool (decide (t77<=1000))) e else R (.bool false) e else R (.bool false) e else if(t4==12)then∃t83,Cc H b 17 (.U t83)/\if(decide (t83≥1))then∃t87,Cc H b 17 (.U t87)/\R (.bool (decide (t87<=2147483648))) H else R (.bool false) H else∃t91,Cc H b 1 (.I t91)/\if(t91==10)then R (.bool true) H else∃t95,Cc H b 1 (.I t95)/\R (.bool (t95==11)) H) (λk=>if(t4==5)then k (t4==5) a else aG (λ(q:Bool) (m:aj)=>k q m) (λl=>if(t4==8)then l (t4==8) a else l (t4==9) a))) (λj=>if(t4==2)then j (t4==2) f else j (t4==6) f)) (λJ=>if(t4==1)then J (t4==1) g else J (t4==3) g)):Cl 79 #[x.agg] h R:=aN (lq (sq (lq (bq (sq (lq (.join [(5,.one (.bool))] (cq lf lf))) (cq ll (sq (lq (.join [(21,.one (.bool))] (cq lf lf))) (cq ll (lq (cq ll (sq (lq (.join [(53,.one (.bool))] (cq lf (lq (.join [(53,.one (.bool))] (cq lf lf)))))) (cq ll (lq (cq ll (lq (cq ll lf)))))))))))))) ll)) Tryz.func79 o
theorem AX.walk(e:aQ h (.cells x.arr 47) λb H=> ∃t4,Cc H b 0 (.U t4)/\if(decide (t4≥1))then∃t8,Cc H b 0 (.U t8)/\if(decide (t8<=1099511627776))then aE.cO H (AA b 0) λt12=>Cl 79 #[t12.agg] H λv a=> ∃t13,v=.bool t13/\Kp H a [(Sa b 0),(Sa b 0)]/\if t13 then aE.cO a (AA b 0) λt16=>aE.cO a (AA b 0) λt17=>Cl 81 #[t17.agg] a λV c=>aE.EX λt18=>V=t18.agg/\Kp a c [(Sa b 0),(Sa b 0),(Sa b 0)]/\Cl 80 #[t16.agg,t18.agg] c λf d=> ∃t19,f=.bool t19/\Kp c d [(Sa b 0),(Sa b 0)]/\R (.bool t19) d else R (.bool false) a else R (.bool false) H else R (.bool false) H):Cl 29 #[x.agg] h R:=aN (lq (sq (pK 19) lf)) Tryz.func29 e

end
section
namespace Ask
open iT (Ev cN kj)
open Bn (iB)
variable {h h' g:aj} {R:fj} {p q:cg} {c d:Nat}
variable {b:Nat} {y:aE.S} {x:aw.S} {K:aj->Prop}
abbrev Rq.s(x:Rq)(p:cg)(c:Nat):aE.S:=⟨x.id,x.kind,x.ep.jI,x.ep.node,x.ep.fX,x.ep.host,x.ep.jd,x.dest.jI,x.dest.node,x.dest.fX,x.dest.host,x.dest.jd,x.jA,x.num,x.iA,p,x.nj.length,c,x.eV,x.token,x.on⟩
theorem wv{P:Prop}{b:Bool}(H:b=true->P)(a:b=false->P):P:=by cases b;exact a rfl;exact H rfl
theorem Na(x y:Rq)(A:Row h p (bc x.nj))(B:Row h q (bc y.nj))(hk: gU h R (.bool (decide (x=y)))):Cl 80 #[(x.s p c).agg,(y.s q d).agg] h R:=by
 refine Db.walk (aE.db λb G E z f1=>aE.db λb1 H D f f2=> ?_);have i:=f2.get z id;have F:=f1.tt f2;have no: ∀g,Fr No h g->x≠y->R (.bool false) g:=λg w e=>by have:=hk g w;rw[az e]at this;exact this
 have I: ∀(a b:Int)(m n:Nat),a=m->b=n->m≠n->¬(a==b)=true:=λa b m n e1 e2 e=>by rw[e1,e2];simp only[da];omega
 refine⟨_,ak i,_,ak f,?_⟩;by_cases c1:x.id=y.id
 case neg=>rw[ae (I _ _ _ _ rfl rfl c1)];exact no H F (λe=>c1 (by rw[e]))
 rw[ag (by show((x.id:Int)==(y.id:Int))=true;rw[c1];simp)];refine⟨_,ak i,_,ak f,?_⟩;by_cases k:x.kind=y.kind
 case neg=>rw[ae (by show¬(x.kind==y.kind)=true;simpa using k)];exact no H F (λe=>k (by rw[e]))
 rw[ag (by show(x.kind==y.kind)=true;simpa using k)];refine iB x.ep i rfl rfl rfl rfl rfl (iB y.ep f rfl rfl rfl rfl rfl ⟨_,iT.tW (x:=x.ep) (y:=y.ep) rfl rfl,?_⟩);by_cases l:x.ep=y.ep
 case neg=>rw[ae (cy l)];exact no H F (λe=>l (by rw[e]))
 rw[ag (cy l)];refine iB x.dest i rfl rfl rfl rfl rfl (iB y.dest f rfl rfl rfl rfl rfl ⟨_,iT.tW (x:=x.dest) (y:=y.dest) rfl rfl,?_⟩);by_cases o:x.dest=y.dest
 case neg=>rw[ae (cy o)];exact no H F (λe=>o (by rw[e]))
 rw[ag (cy o)];refine⟨_,ak i,_,ak f,?_⟩;by_cases r:x.jA=y.jA
 case neg=>rw[ae (by show¬(x.jA==y.jA)=true;simpa using r)];exact no H F (λe=>r (by rw[e]))
 rw[ag (by show(x.jA==y.jA)=true;simpa using r)];refine⟨_,ak i,_,ak f,?_⟩;by_cases s:x.num=y.num
 case neg=>rw[ae (by show¬(x.num==y.num)=true;simpa using s)];exact no H F (λe=>s (by rw[e]))
 rw[ag (by show(x.num==y.num)=true;simpa using s)];refine⟨_,ak i,_,ak f,?_⟩;by_cases t:x.iA=y.iA
 case neg=>rw[ae (by show¬(x.iA==y.iA)=true;simpa using t)];exact no H F (λe=>t (by rw[e]))
 rw[ag (by show(x.iA==y.iA)=true;simpa using t)];refine⟨_,_,_,ak i,_,_,_,ak f,Cb.oT (A.frame F cu) (B.frame F cu) rfl rfl ⟨_,rfl,?_⟩⟩;by_cases u:x.nj=y.nj
 case neg=>rw[ae (cy u)];exact no H F (λe=>u (by rw[e]))
 rw[ag (cy u)];refine⟨_,ak i,_,ak f,?_⟩;by_cases v:x.eV=y.eV
 case neg=>rw[ae (I _ _ _ _ rfl rfl v)];exact no H F (λe=>v (by rw[e]))
 rw[ag (by show((x.eV:Int)==(y.eV:Int))=true;rw[v];simp)];refine⟨_,ak i,_,ak f,?_⟩;by_cases C:x.token=y.token
 case neg=>rw[ae (I _ _ _ _ rfl rfl C)];exact no H F (λe=>C (by rw[e]))
 rw[ag (by show((x.token:Int)==(y.token:Int))=true;rw[C];simp)];refine⟨_,ak i,_,ak f,?_⟩;have:=hk H F;have e:decide (x=y)=(x.on==y.on):=by
  by_cases j:x.on=y.on
  .have:x=y:=by cases x;cases y;simp only at c1 k l o r s t u v C j;simp[c1,k,l,o,r,s,t,u,v,C,j]
   rw[au this,j];simp
  .rw[az (λe=>j (by rw[e]))];simpa using j
 rw[e]at this;exact this
theorem oi(e:Ev)(hk: gU h R (.bool (lj e))):Cl 139 #[e.s.agg] h R:=by
 refine zZ.walk (aw.db λb f E a f1=>aw.fR (x:=e.s) a (iT.fc e λH f2=>⟨_,rfl,?_⟩));unfold lj at hk;cases c1:cN e with
 |false=>rw[c1]at hk;rw[dj];exact hk H (f1.tt f2)
 |true=>rw[c1]at hk;rw[ag rfl];exact aw.fR (x:=e.s) (f2.get a id) ⟨_,iT.tW (x:=e) (y:=.zero) rfl rfl,hk H (f1.tt f2)⟩
theorem OZ(a:aE.fV h b y)(hk: ∀h',aE.fV h' b { y with f2:=x.f0,f3:=x.f1,f4:=x.f2,f5:=x.f3,f6:=x.f4 } ->Fr (λy=>y=b) h h'->K h'):aw.dv h (AA b 2) x K:=
 (show dU (AA b 2) x.l 0 h K from lR (off:=2) (ws:=aE.S.l { y with f2:=x.f0,f3:=x.f1,f4:=x.f2,f5:=x.f3,f6:=x.f4 }) a (by show 2+5<=19;omega) rfl rfl λH d1 d2 d3=>hk H d1 (Fr.of_eq d2 λc e=>d3 c e))
theorem QF(a:aE.fV h b y)(hk: ∀h',aE.fV h' b { y with f7:=x.f0,f8:=x.f1,f9:=x.f2,f10:=x.f3,f11:=x.f4 } ->Fr (λy=>y=b) h h'->K h'):aw.dv h (AA b 7) x K:=
 (show dU (AA b 7) x.l 0 h K from lR (off:=7) (ws:=aE.S.l { y with f7:=x.f0,f8:=x.f1,f9:=x.f2,f10:=x.f3,f11:=x.f4 }) a (by show 7+5<=19;omega) rfl rfl λH d1 d2 d3=>hk H d1 (Fr.of_eq d2 λc e=>d3 c e))
theorem qK{i:Nat}{z:aE.S}{v:Value}(a:aE.fV h b y)(f:i<19)(j:y.arr.setIfInBounds i v=z.arr)(hk: ∀h',aE.fV h' b z->Fr (λy=>y=b) h h'->K h'):aO h (AA b i) v K:=
 bH a f λH d1 d2 d3=>hk H (by unfold aE.fV;rw[<-j];exact d1) (Fr.of_eq d2 λc e=>d3 c e)
theorem O0{B:Nat}{l:List (cg)}(f:Fr (λy=>y=B) h h')(ne:b≠B)(a: ∀p∈l,p.map (·.block)=some b):Kp h h' l:=f.SB λp i x e H=>ne (by have:=a p i;rw[e]at this;exact(bj this).symm.trans H)
theorem bq{n k:Int}:((n==k)=true↔n=k):=da
theorem G1(x:Rq)(rx:Row h p (bc x.nj))(hk: ∀h' P C,Row h' P (bc (rG x).nj)->Fr No h h'->R ((rG x).s P C).agg h'):Cl 81 #[(x.s p c).agg] h R:=by
 refine Ff.walk (aE.db λb h1 eb I f1=>aE.db λb1 h2 g' U f2=>⟨_,ak (f2.get I id),_,ak (f2.get I id),aE.gh (x:=(iO x).s none 0) λB t i' l f4=> ?_⟩);have H:=(f2.tt f4).get I id;have F4:=f1.tt (f2.tt f4);have zb:=aC I;have k':=aC U;have z1:=f1.1;have z2:=f2.1;have ne:b≠B:=af
 have j':b1≠B:=af
 refine⟨_,ak H,aG.of λJ hJ=>aG.of λW a'=> ?_⟩;have fin: ∀g P C,aE.fV g B ((rG x).s P C)->Row h P (bc (rG x).nj)->Fr (λy=>y=B) t g->J g:=by
  intro g P C hg hr fg;have Q:Fr No h2 g:=f4.fresh fg (λy e=>af);have G:=(f1.tt f2).tt Q;subst hJ;refine aE.fR hg (aE.hM (x:=(rG x).s P C) (Q.get U id) λh6 d6 f6 _=>aE.fR d6 ?_);have S:=G.fresh f6 (λy e=>af);exact hk h6 P C (hr.frame S cu) S
 have N:Row h none (bc []):=Row.nil;have key: ∀v,(v=true↔x.kind=1\/x.kind=3)->W v t:=by
  intro v m;subst a';dsimp only;refine aG.of λJ2 j=> ?_
  by_cases k:x.kind=1\/x.kind=3
  .have E:rG x= { iO x with ep:=x.ep,jA:=x.jA } :=ag k;rw[E]at fin;rw[ag (m.2 k)];exact iB x.ep H rfl rfl rfl rfl rfl ⟨_,ak H,OZ l λi e1 f5=>⟨O0 f5 ne bO,qK (z:=({ iO x with ep:=x.ep,jA:=x.jA } :Rq).s none 0) e1 dH rfl λD e2 f6=>by subst j;exact fin D none 0 e2 N (f5.tt f6)⟩⟩
  rw[ae (λe=>k (m.1 e))];refine aG.of λX c'=> ?_
  have V: ∀v,(v=true↔x.kind=2\/x.kind=6)->X v t:=by
   intro v m;subst c';dsimp only;refine aG.of λJ4 o=> ?_
   by_cases a:x.kind=2\/x.kind=6
   .have E:rG x= { iO x with ep:=x.ep } :=(ae k).trans (ag a);rw[E]at fin;rw[ag (m.2 a)];exact iB x.ep H rfl rfl rfl rfl rfl (OZ l λi e1 f5=>by subst o;subst j;exact fin i none 0 e1 N f5)
   rw[ae (λe=>a (m.1 e))];refine aG.of λJ5 r=> ?_
   by_cases n:x.kind=4
   .have E:rG x= { iO x with ep:=x.ep,dest:=x.dest,nj:=x.nj,eV:=x.eV,on:=x.on } :=(ae k).trans ((ae a).trans (ag n));rw[E]at fin;rw[ag (bq.2 n)];refine iB x.ep H rfl rfl rfl rfl rfl (iB x.dest H rfl rfl rfl rfl rfl ⟨_,_,_,ak H,_,ak H,_,ak H,OZ l λi e1 f5=>⟨O0 f5 ne bO,QF e1 λD e2 f6=>⟨O0 f6 ne bO,?_⟩⟩⟩);refine qK (z:=({ iO x with ep:=x.ep,dest:=x.dest,nj:=x.nj } :Rq).s p c) e2 dH rfl λg3 Z f7=>⟨O0 f7 ne bO,?_⟩
    refine qK (z:=({ iO x with ep:=x.ep,dest:=x.dest,nj:=x.nj,eV:=x.eV } :Rq).s p c) Z dH rfl λg4 e4 f8=>⟨O0 f8 ne bO,?_⟩
    refine qK (z:=({ iO x with ep:=x.ep,dest:=x.dest,nj:=x.nj,eV:=x.eV,on:=x.on } :Rq).s p c) e4 dH rfl λg5 e5 f9=> ?_
    subst r;subst o;subst j;exact fin g5 p c e5 rx (f5.tt (f6.tt (f7.tt (f8.tt f9))))
   rw[ae (λe=>n (bq.1 e))];refine aG.of λY d'=> ?_
   have O: ∀v,(v=true↔x.kind=5\/x.kind=8\/x.kind=9)->Y v t:=by
    intro v m;subst d';dsimp only;refine aG.of λJ7 u=> ?_
    by_cases f:x.kind=5\/x.kind=8\/x.kind=9
    .have E:rG x= { iO x with num:=x.num } :=(ae k).trans ((ae a).trans ((ae n).trans (ag f)));rw[E]at fin;rw[ag (m.2 f)];exact⟨_,ak H,qK (z:=({ iO x with num:=x.num } :Rq).s none 0) l dH rfl λi e1 f5=>by subst u;subst r;subst o;subst j;exact fin i none 0 e1 N f5⟩
    rw[ae (λe=>f (m.1 e))];refine aG.of λJ8 F=> ?_
    by_cases s:x.kind=7
    .have E:rG x= { iO x with ep:=x.ep,iA:=x.iA } :=(ae k).trans ((ae a).trans ((ae n).trans ((ae f).trans (ag s))));rw[E]at fin;rw[ag (bq.2 s)];exact iB x.ep H rfl rfl rfl rfl rfl ⟨_,ak H,OZ l λi e1 f5=>⟨O0 f5 ne bO,qK (z:=({ iO x with ep:=x.ep,iA:=x.iA } :Rq).s none 0) e1 dH rfl λD e2 f6=>by subst F;subst u;subst r;subst o;subst j;exact fin D none 0 e2 N (f5.tt f6)⟩⟩
    rw[ae (λe=>s (bq.1 e))];refine aG.of λJ9 M=> ?_
    by_cases w:x.kind=10
    .have E:rG x= { iO x with on:=x.on } :=(ae k).trans ((ae a).trans ((ae n).trans ((ae f).trans ((ae s).trans (ag w)))));rw[E]at fin;rw[ag (bq.2 w)];exact⟨_,ak H,qK (z:=({ iO x with on:=x.on } :Rq).s none 0) l dH rfl λi e1 f5=>by subst M;subst F;subst u;subst r;subst o;subst j;exact fin i none 0 e1 N f5⟩
    rw[ae (λe=>w (bq.1 e))];refine aG.of λe' T=> ?_
    by_cases L:x.kind=12
    .have E:rG x= { iO x with token:=x.token } :=(ae k).trans ((ae a).trans ((ae n).trans ((ae f).trans ((ae s).trans ((ae w).trans (ag L))))));rw[E]at fin;rw[ag (bq.2 L)];exact⟨_,ak H,qK (z:=({ iO x with token:=x.token } :Rq).s none 0) l dH rfl λi e1 f5=>by subst T;subst M;subst F;subst u;subst r;subst o;subst j;exact fin i none 0 e1 N f5⟩
    rw[ae (λe=>L (bq.1 e))];have E:rG x=iO x:=(ae k).trans ((ae a).trans ((ae n).trans ((ae f).trans ((ae s).trans ((ae w).trans (ae L))))));rw[E]at fin;subst T;subst M;subst F;subst u;subst r;subst o;subst j;exact fin t none 0 l N (Fr.refl _ _)
   by_cases f:x.kind=5
   .rw[ag (bq.2 f)];exact O _ ⟨λ_=> .inl f,λ_=>bq.2 f⟩
   rw[ae (λe=>f (bq.1 e))];refine aG.of λf' b'=> ?_
   subst b';dsimp only;by_cases A:x.kind=8
   .rw[ag (bq.2 A)];exact O _ ⟨λ_=> .inr (.inl A),λ_=>bq.2 A⟩
   rw[ae (λe=>A (bq.1 e))];exact O _ ⟨λe=> .inr (.inr (bq.1 e)),λe=>bq.2 ((e.resolve_left f).resolve_left A)⟩
  by_cases a:x.kind=2
  .rw[ag (bq.2 a)];exact V _ ⟨λ_=> .inl a,λ_=>bq.2 a⟩
  rw[ae (λe=>a (bq.1 e))];exact V _ ⟨λe=> .inr (bq.1 e),λe=>bq.2 (e.resolve_left a)⟩
 by_cases k:x.kind=1
 .rw[ag (bq.2 k)];exact key _ ⟨λ_=> .inl k,λ_=>bq.2 k⟩
 rw[ae (λe=>k (bq.1 e))];exact key _ ⟨λe=> .inr (bq.1 e),λe=>bq.2 (e.resolve_left k)⟩
theorem Hj(n k:Nat):decide ((n:Int)≥(k:Int))=decide (n≥k):=by by_cases e:n≥k<;>simp[e]<;>omega
theorem Nb(x:Rq)(hk: gU h R (.bool (kU x))):Cl 79 #[(x.s p c).agg] h R:=by
 refine AW.walk (aE.db λb t V H f1=>⟨_,ak H,aG.of λJ O=> ?_⟩);have key: ∀v,(v=true↔x.kind=1\/x.kind=3)->J v t:=by
  intro v j;subst O;dsimp only;by_cases k:x.kind=1\/x.kind=3
  .have E:kU x=(lj x.ep && decide (x.jA≥0) && decide (x.jA<=2)):=ag k;rw[E]at hk;rw[ag (j.2 k)];refine iB x.ep H rfl rfl rfl rfl rfl (oi x.ep λm f3=>⟨_,rfl,?_⟩);have i:=f3.get H id;have hk:=hk m (f1.tt f3);refine wv (λc1=> ?_) (λc1=> ?_) (b:=lj x.ep)
   .rw[c1]at hk⊢;rw[ag rfl];refine⟨_,ak i,?_⟩;refine wv (λC=> ?_) (λC=> ?_) (b:=decide (x.jA≥0))
    .rw[ag C];rw[C]at hk;exact⟨_,ak i,hk⟩
    .rw[ae (by rw[C];decide)];rw[C]at hk;exact hk
   .rw[c1]at hk⊢;rw[dj];exact hk
  rw[ae (λe=>k (j.1 e))];refine aG.of λI Q=> ?_
  have G: ∀v,(v=true↔x.kind=2\/x.kind=6)->I v t:=by
   intro v j;subst Q;dsimp only;by_cases a:x.kind=2\/x.kind=6
   .have E:kU x=lj x.ep:=(ae k).trans (ag a);rw[E]at hk;rw[ag (j.2 a)];exact iB x.ep H rfl rfl rfl rfl rfl (oi x.ep λm f3=>⟨_,rfl,hk m (f1.tt f3)⟩)
   rw[ae (λe=>a (j.1 e))];by_cases n:x.kind=4
   .have E:kU x=(lj x.ep && lj x.dest && decide (x.nj.length<=200) && decide (x.eV≥1) && decide (x.eV<=1099511627776)):=(ae k).trans ((ae a).trans (ag n));rw[E]at hk;rw[ag (bq.2 n)];refine iB x.ep H rfl rfl rfl rfl rfl (oi x.ep λm f3=>⟨_,rfl,?_⟩);have i:=f3.get H id;refine wv (λc1=> ?_) (λc1=> ?_) (b:=lj x.ep)
    .rw[c1]at hk⊢;rw[ag rfl];refine iB x.dest i rfl rfl rfl rfl rfl (oi x.dest λN f4=>⟨_,rfl,?_⟩);have B:=f4.get i id;have hk:=hk N (f1.tt (f3.tt f4));refine wv (λC=> ?_) (λC=> ?_) (b:=lj x.dest)
     .rw[C]at hk⊢;rw[ag rfl];refine⟨_,_,_,ak B,?_⟩;have M:decide (((x.s p c).LK:Int)<=200)=decide (x.nj.length<=200):=Bn.k7 x.nj.length 200;rw[M];refine wv (λz=> ?_) (λz=> ?_) (b:=decide (x.nj.length<=200))
      .rw[z]at hk⊢;rw[ag rfl];refine⟨_,ak B,?_⟩;have A:decide (((x.s p c).f16:Int)≥1)=decide (x.eV≥1):=Hj x.eV 1;rw[A];refine wv (λl=> ?_) (λl=> ?_) (b:=decide (x.eV≥1))
       .rw[l]at hk⊢;rw[ag rfl];refine⟨_,ak B,?_⟩;have o:decide (((x.s p c).f16:Int)<=1099511627776)=decide (x.eV<=1099511627776):=Bn.k7 x.eV 1099511627776;rw[o];exact hk
       .rw[l]at hk⊢;rw[dj];exact hk
      .rw[z]at hk⊢;rw[dj];exact hk
     .rw[C]at hk⊢;rw[dj];exact hk
    .rw[c1]at hk⊢;rw[dj];exact hk m (f1.tt f3)
   rw[ae (λe=>n (bq.1 e))];refine aG.of λL S=> ?_
   have F:=hk;have hk:=hk t f1;have D: ∀v,(v=true↔x.kind=5\/x.kind=8\/x.kind=9)->L v t:=by
    intro v j;subst S;dsimp only;by_cases f:x.kind=5\/x.kind=8\/x.kind=9
    .have E:kU x=(decide (x.num≥1) && decide (x.num<=1099511627776)):=(ae k).trans ((ae a).trans ((ae n).trans (ag f)));rw[E]at hk;rw[ag (j.2 f)];refine⟨_,ak H,?_⟩;refine wv (λC=> ?_) (λC=> ?_) (b:=decide (x.num≥1))
     .rw[ag C];rw[C]at hk;exact⟨_,ak H,hk⟩
     .rw[ae (by rw[C];decide)];rw[C]at hk;exact hk
    rw[ae (λe=>f (j.1 e))];by_cases r:x.kind=7
    .have E:kU x=(lj x.ep && decide (x.iA≥1) && decide (x.iA<=1000)):=(ae k).trans ((ae a).trans ((ae n).trans ((ae f).trans (ag r))));rw[E]at F;rw[ag (bq.2 r)];refine iB x.ep H rfl rfl rfl rfl rfl (oi x.ep λm f3=>⟨_,rfl,?_⟩);have i:=f3.get H id;have hk:=F m (f1.tt f3);refine wv (λc1=> ?_) (λc1=> ?_) (b:=lj x.ep)
     .rw[c1]at hk⊢;rw[ag rfl];refine⟨_,ak i,?_⟩;refine wv (λC=> ?_) (λC=> ?_) (b:=decide (x.iA≥1))
      .rw[ag C];rw[C]at hk;exact⟨_,ak i,hk⟩
      .rw[ae (by rw[C];decide)];rw[C]at hk;exact hk
     .rw[c1]at hk⊢;rw[dj];exact hk
    rw[ae (λe=>r (bq.1 e))];by_cases w:x.kind=12
    .have E:kU x=(decide (x.token≥1) && decide (x.token<=2147483648)):=(ae k).trans ((ae a).trans ((ae n).trans ((ae f).trans ((ae r).trans (ag w)))));rw[E]at hk;rw[ag (bq.2 w)];refine⟨_,ak H,?_⟩;have A:decide (((x.s p c).f17:Int)≥1)=decide (x.token≥1):=Hj x.token 1;rw[A];refine wv (λl=> ?_) (λl=> ?_) (b:=decide (x.token≥1))
     .rw[l]at hk⊢;rw[ag rfl];refine⟨_,ak H,?_⟩;have o:decide (((x.s p c).f17:Int)<=2147483648)=decide (x.token<=2147483648):=Bn.k7 x.token 2147483648;rw[o];exact hk
     .rw[l]at hk⊢;rw[dj];exact hk
    rw[ae (λe=>w (bq.1 e))];have E:kU x=decide (x.kind=10\/x.kind=11):=(ae k).trans ((ae a).trans ((ae n).trans ((ae f).trans ((ae r).trans (ae w)))));rw[E]at hk;refine⟨_,ak H,?_⟩;by_cases u:x.kind=10
    .rw[ag (bq.2 u)];rw[au (.inl u)]at hk;exact hk
    .rw[ae (λe=>u (bq.1 e))];refine⟨_,ak H,?_⟩;have o:decide (x.kind=10\/x.kind=11)=(x.kind==11):=by by_cases T:x.kind=11<;>simp[u,T]
     rw[o]at hk;exact hk
   by_cases f:x.kind=5
   .rw[ag (bq.2 f)];exact D _ ⟨λ_=> .inl f,λ_=>bq.2 f⟩
   rw[ae (λe=>f (bq.1 e))];refine aG.of λU P=> ?_
   subst P;dsimp only;by_cases s:x.kind=8
   .rw[ag (bq.2 s)];exact D _ ⟨λ_=> .inr (.inl s),λ_=>bq.2 s⟩
   rw[ae (λe=>s (bq.1 e))];exact D _ ⟨λe=> .inr (.inr (bq.1 e)),λe=>bq.2 ((e.resolve_left f).resolve_left s)⟩
  by_cases a:x.kind=2
  .rw[ag (bq.2 a)];exact G _ ⟨λ_=> .inl a,λ_=>bq.2 a⟩
  rw[ae (λe=>a (bq.1 e))];exact G _ ⟨λe=> .inr (bq.1 e),λe=>bq.2 (e.resolve_left a)⟩
 by_cases k:x.kind=1
 .rw[ag (bq.2 k)];exact key _ ⟨λ_=> .inl k,λ_=>bq.2 k⟩
 rw[ae (λe=>k (bq.1 e))];exact key _ ⟨λe=> .inr (bq.1 e),λe=>bq.2 (e.resolve_left k)⟩
theorem fc(x:Rq)(r:Row h p (bc x.nj))(hk: gU h R (.bool (kx x))):Cl 29 #[(x.s p c).agg] h R:=by
 refine AX.walk (aE.db λb e n H f1=>⟨_,ak H,?_⟩);unfold kx at hk;have E:decide (((x.s p c).f0:Int)≥1)=decide (x.id≥1):=Hj x.id 1;have j:decide (((x.s p c).f0:Int)<=1099511627776)=decide (x.id<=1099511627776):=Bn.k7 x.id 1099511627776;rw[E];refine wv (λc1=> ?_) (λc1=> ?_) (b:=decide (x.id≥1))
 case refine_2=>rw[c1]at hk⊢;rw[dj];exact hk e f1
 rw[c1]at hk⊢;rw[ag rfl];refine⟨_,ak H,?_⟩;rw[j];refine wv (λC=> ?_) (λC=> ?_) (b:=decide (x.id<=1099511627776))
 case refine_2=>rw[C]at hk⊢;rw[dj];exact hk e f1
 rw[C]at hk⊢;rw[ag rfl];refine aE.fR (x:=x.s p c) H (Nb x λk f2=>⟨_,rfl,f2.kp,?_⟩);refine wv (λa=> ?_) (λa=> ?_) (b:=kU x)
 case refine_2=>rw[a]at hk⊢;rw[dj];exact hk k (f1.tt f2)
 rw[a]at hk⊢;rw[ag rfl];have f:=f2.get H _root_.id;have F:=f1.tt f2;refine aE.fR (x:=x.s p c) f (aE.fR (x:=x.s p c) f (G1 x (r.frame F (λ_ _=>_root_.id)) λo P i m f3=>aE.ex ((rG x).s P i) ⟨rfl,f3.kp,?_⟩));refine Na x (rG x) (r.frame (F.tt f3) (λ_ _=>_root_.id)) m λl f4=>⟨_,rfl,f4.kp,?_⟩
 exact hk l (F.tt (f3.tt f4))

end Ask
end
section
namespace eU
open gD (It IV fZ gI)
open iT (Ev cN kj)
variable {h h':aj} {R:fj} {s k:Nat} {X:Ft} {I:sP} {σ:SS} {p:cg}
variable {n owner num:Int} {x:It} {b:Nat}
theorem Pt.R9{o:Int}(H:Pt h s X I σ)(ok:rV σ.Q)(d:mZ σ.Q x.owner x.d.length=true)(j:n=(x.d.length:Int))(l:o=x.owner)(hk: ∀h' a,Pt h' s a I { σ with Q:=σ.Q++ [x] } ->bG X h a h'->R (.I 0) h'):Cl 241 #[pt I.p,.I o,.I n] h R:=by
 subst l;subst j;obtain⟨Z,⟨m,P,on⟩,r,z,go⟩:=H.use 4;refine lu.Oj P ok _ _ (λ_ h' c F=> ?_) (λe=>by unfold mZ at d;rw[d]at e;cases e);rw[Ig,show wA σ.Q+(x.d.length:Int)=wA (x::σ.Q) by rw[ji];omega]at c;obtain⟨a,f,st,_,_⟩:=go h' Z { σ with Q:=σ.Q++ [x] } ⟨m,Pu.perm c (dR _ _).symm,on⟩ (bG.tL (F.mono λy _ q=>(on y).1.2 q)) (λi g=>GF _ g);exact hk h' a f st
theorem vC{bs:cH}{l c:Nat}(bV:Nat)(T:n=(bV:Int))(H:Pt h s X I σ)(G:Good σ k)(b':k<=30000)(U:Row h p (bc bs))(S:l=bs.length)(N:bs.length<=1000000)(hk: ∀h' t,Pt h' s t I (nt σ owner bs bV)->bG X h t h'->R (.tuple #[.I (GN σ owner bs bV),.I (xH σ owner bs bV)]) h'):
  Cl 191 #[pt s,.I owner,.slice p l c,.U n] h R:=by
 subst T;subst S;refine xJ.walk (fw H.cQ ⟨_,rfl,?_⟩);rw[dj];obtain⟨Z,r⟩:=H.box;refine aG.of λa' z=>⟨_,ak H.cQ,gD.vY r λv p2 l2 c2 L f2=>⟨_,_,_,rfl,?_⟩⟩
 have ln:=L.len;have m:=H.on f2;have no:σ.B.items.length≥16\/mZ σ.Q owner bs.length=false->∀g,Fr No h g->R (.tuple #[.I 0,.I 15]) g:=λc g f=>by
  have e1:xH σ owner bs bV=15:=ag c;have e2:GN σ owner bs bV=0:=ag c;have K:nt σ owner bs bV=σ:=ae (by rw[e1];decide);rw[e1,e2,K]at hk;exact hk g X (H.on f) (bG.im f)
 by_cases q:σ.B.items.length≥16
 .rw[fY];subst z;dsimp only;rw[ag rfl];exact no (.inl q) v f2
 rw[ae (λe=>q (bX (aP e)))];obtain⟨Z4,⟨m4,P,c'⟩,_⟩:=m.use 4;refine⟨_,ak m.cQ,lu.Ol P G.ok owner _ ⟨_,rfl,?_⟩⟩;subst z;dsimp only;cases j:mZ σ.Q owner bs.length with
 |false=>
  rw[ag (show(!mZ σ.Q owner bs.length)=true by rw[j];rfl)];exact no (.inr j) v f2
 |true=>
  rw[ae (show¬(!mZ σ.Q owner bs.length)=true by rw[j];decide)];have C: ¬(σ.B.items.length≥16\/mZ σ.Q owner bs.length=false):=λc=>c.elim q (λe=>by rw[j]at e;cases e)
  have E:xH σ owner bs bV=gD.iK σ.B owner bs bV:=ae C;have M:GN σ owner bs bV=gD.AG σ.B owner bs bV:=ae C;obtain⟨Z,r,zm,zd,go⟩:=m.use 3;refine⟨_,ak m.cQ,gD.zh bV rfl r (U.frame f2 cu) rfl N (bX G.b) λw J D V=>⟨_,_,rfl,?_⟩⟩;obtain⟨F,o,W,_,_⟩:=go w J { σ with B:=gD.Ep σ.B owner bs bV } D V (λi O=>GD _ O);have st:=bG.no f2 W;refine aG.of λJ2 A=> ?_
  rw[E,M]at hk;unfold nt at hk;rw[E]at hk;by_cases a:gD.iK σ.B owner bs bV=0
  .rw[ag a]at hk;rw[ag (by rw[a];rfl)];refine⟨_,ak o.cQ,o.R9 (x:=⟨σ.B.next,owner,bs,bV⟩) G.ok j rfl rfl λy u d Y=>⟨_,rfl,?_⟩⟩;subst A;refine hk y u ?_ (st.trans Y);have e:gD.Ep σ.B owner bs bV= { σ.B with items:=σ.B.items++ [⟨σ.B.next,owner,bs,bV⟩],next:=σ.B.next+1 } :=ag a;rw[e]at d⊢;have d:Pt y s u I { σ with B:= { σ.B with items:=σ.B.items++ [⟨σ.B.next,owner,bs,bV⟩],next:=σ.B.next+1 },Q:=σ.Q++ [⟨σ.B.next,owner,bs,bV⟩] } :=d;rw[G.q]at d;exact d
  .rw[ae a]at hk;rw[ae (cy a)];subst A;refine hk w F ?_ st;have e:gD.Ep σ.B owner bs bV=σ.B:=ae a;rw[e]at o;exact o
theorem Hk(x:IV)(hid:gD.yY h b num)(hk: gU h R (.bool (decide ((x.num:Int)=num)))):Cl 154 #[x.agg,.P b 0] h R:=by
 refine qI.walk (aS.box λb1 H e a f1=>⟨_,ak a,_,ak (f1.get hid id),?_⟩);rw[show((x.num:Int)==num)=decide ((x.num:Int)=num) by by_cases q:(x.num:Int)=num<;>simp[q]];exact hk H f1
theorem KC(xs:List IV)(num:Int):idxOf (λx:IV=>decide ((x.num:Int)=num)) xs=gD.qk (xs.map IV.abs) num:=by
 unfold idxOf gD.qk gD.xu;rw[List.findIdx?_map];rfl
theorem qm{xs:List IV}{n m:Nat}(o:Row h p (xs.flatMap fZ))(l:n=xs.length)(j:xs.length<=1000000000)(hid:gD.yY h b num)(hk: gU h R (.I (gD.qk (xs.map IV.abs) num))):
  Cl 153 #[.slice p n m,.func (.func 154) #[] #[.P b 0]] h R:=by
 refine fh.cancel.walk (D0 (λx:IV=>decide ((x.num:Int)=num)) (λt g K=>((0:Int)<=t/\t<(n:Int))/\aM p λa=>aS.LD g (a.add (Int.toNat t*4)) λt0 t1 t2 t3 t4 t5=>
  Cl 154 #[.agg #[.I t0,.I t1,.slice t2 t3 t4,.U t5],.P b 0] g λv G=> ∃q,v=.bool q/\K q G) l j (λk g x K c f i=> ?_) (λg f=>by rw[KC];exact hk g f))
 have lt:=(aA.1 c).1;have H:=o.frame f cu;obtain⟨a,rfl⟩:=H.some (λe=>by have:=bT List.length e;rw[eS fZ 4 gI,bm]at this;omega);exact⟨af,ay.2 (aS.yH (by rw[aD];exact H.fL gI c) (Hk x (f.get hid id) λd f2=>⟨_,rfl,i d (f.tt f2)⟩))⟩
theorem yZ{l:List It}{i:Nat}(d:(l.map It.num).Pairwise (· < ·))(H:l[i]? =some x):l.Perm (x::gD.qo l (x.num:Int)):=by
 rw[<-gD.qp d H];unfold gD.AF;obtain⟨a,c⟩:=aA.1 H;have e:l=l.take i++x::l.drop (i+1):=by rw[<-c,<-cR a,List.take_append_drop]
 exact(List.Perm.of_eq e).trans List.perm_middle
theorem vM(H:Pt h s X I σ)(G:Good σ k)(g':k<=30000)(hk: ∀h' z,Pt h' s z I (BO σ num owner)->bG X h z h'->R (.I (gD.mV σ.B num owner)) h'):Cl 102 #[pt s,.I num,.I owner] h R:=by
 refine sV.walk (cG ?_);have f1:Fr No h (h.push (.cells #[.I num] 3)):=Fr.push _ _;have M:gD.yY (h.push (.cells #[.I num] 3)) h.size num:=bR;generalize h.push (.cells #[.I num] 3)=h1 at f1 M⊢;have q:=H.on f1;obtain⟨Z0,e'⟩:=q.box;obtain⟨L,ok⟩:=H.okB;refine fw q.cQ ⟨_,rfl,?_⟩;rw[dj];refine⟨_,ak q.cQ,gD.vY e' λh2 p2 l2 C L2 f2=>⟨_,_,_,rfl,?_⟩⟩;have v:=q.on f2;have N:=f2.get M id;obtain⟨xs,D,rfl,U,A,i',hD,Q⟩:=L2;obtain⟨Z,hz,zm,zd,go⟩:=v.use 3;refine⟨_,ak v.cQ,_,ak N,gD.vM hz (bX G.b) λF Z3 B3 S=>⟨_,rfl,?_⟩⟩;obtain⟨E,H3,Y,_,_⟩:=go F Z3 { σ with B:=gD.ml σ.B num owner } B3 S (λi P=>GD _ P);have z1:=f1.1;have z2:=f2.1;have zl: ∀y,Z.M y->y<h.size:=λy j=>H.lt y (.inl (zm y j))
 have ln:xs.length=σ.B.items.length:=by rw[<-A,aF]
 have b':gD.yY F h.size num:=S.fr.get N (λo=>bX (zl _ o));have T:=U.frame S.fr (λy j o=>gF (zl y o) (Q y j));have le:=ok.le;refine qm T.jb rfl af b' λK f4=> ?_
 have st:=bG.no (f1.tt f2) (Y.on f4);have d:=H3.on f4;have O:=T.frame f4 cu;rw[A];refine⟨_,rfl,aG.of λf' c=> ?_⟩;cases r:gD.xu σ.B.items num with
 |none=>
  have e:gD.mV σ.B num owner=4:=by unfold gD.mV;rw[r]
  have es:gD.ml σ.B num owner=σ.B:=ae (by rw[e];decide);unfold BO at hk;rw[e,es,<-G.q]at hk;rw[e]at c⊢;rw[dj];subst c;refine aG.of λJ m=> ?_
  rw[dj];subst m;rw[es]at d;exact hk K E d st
 |some i=>
  obtain⟨x,f,c'⟩:=gD.y7 r;have ev:gD.qk σ.B.items num=(i:Int):=by unfold gD.qk;rw[r]
  rw[ev]at c⊢;have e:gD.mV σ.B num owner=if x.owner=owner then 0 else 13:=by unfold gD.mV;rw[r];dsimp only;rw[f]
  by_cases t:x.owner=owner
  .rw[ag t]at e;have es:gD.ml σ.B num owner= { σ.B with items:=gD.qo σ.B.items num,ps:=σ.B.ps+1 } :=ag e;unfold BO at hk;rw[e]at hk;rw[e]at c⊢;rw[fY,au af];subst c;refine aG.of λJ m=> ?_
   rw[ag rfl];have P:=(aA.1 f).1;have u:xs[i]? =some xs[i]:=ai af;have d':xs[i].abs=x:=by
    rw[<-A,aI,u]at f;exact bj f
   obtain⟨V,W,rfl⟩:=O.addr af;have hh:=O.fL gI u;have C: ∀g,dI (((AA V W):Addr).add (i*4)) (fZ xs[i]) 0 g->aX g ((((AA V W):Addr).add (Int.toNat (i:Int)*4)).add 2)=some xs[i].v.val:=λg hg=>by
    rw[aD];exact hg.2.2.1
   refine⟨_,ak d.cQ,af,ay.2 ⟨_,_,_,C _ hh,?_⟩⟩;have vl:xs[i].v.b=x.d:=by rw[<-d'];rfl
   rw[vl];refine d.R1 (x:=x) (l:=gD.qo σ.B.items num) (by show σ.Q.Perm _;rw[G.q,<-c'];exact yZ ok.inc f) (show rV σ.Q from G.ok) (MM ok (aT f)) rfl t.symm λh5 X5 w a'=>⟨_,rfl,?_,?_⟩
   .have o5:=O.frame a'.fr (λy j o=>by
     rcases Y.jr y o with a|a
     .have:=H.lt y (.inl a);have:=Q y j;omega
     .have:=U.dV j;omega)
    rw[<-vl];exact C _ (o5.fL gI u)
   .subst m;refine hk h5 X5 ?_ (st.trans a');rw[es]at w⊢;exact w
  .rw[ae t]at e;have es:gD.ml σ.B num owner=σ.B:=ae (by rw[e];decide);unfold BO at hk;rw[e,es,<-G.q]at hk;rw[e]at c⊢;rw[dj];subst c;refine aG.of λJ m=> ?_
   rw[dj];subst m;rw[es]at d;exact hk K E d st

end eU
end
section
variable {h:aj} {R:fj}
variable {S:cg} {s c:Nat}
theorem jN.walk(e:if S.isNone then R (.Z) h else aQ h (.cells #[] 262) λb H=>aU Tryz.prog (Builtin.append_ #[260,260] 260 #[.slice (Sa b 0) 0 0,.slice S s c]) H λv d=> ∃a T t,v=.slice a T t/\R (.slice a T t) d):Cl 295 #[.slice S s c] h R:=aN (lq (sq (lq (cq ll lf)) ll)) Tryz.func295 e
theorem iP.TT.walk(a:Cl 294 #[.slice S s c,.func (.func 256) #[] #[]] h λv H=> ∃t7,v=.I t7/\R (.bool (decide (t7≥0))) H):Cl 258 #[.slice S s c,.func (.func 256) #[] #[]] h R:=aN (lq ll) Tryz.func258 a
theorem jj.TT.walk(d: ∃(I:Int->aj->Prop)(m:Int->aj->Nat),I 0 h/\∀(t8:Int)(H:aj),I t8 H->if(decide (t8<(s:Int)))then Bd t8 s/\aM S λa=>aa.cO H (a.add (toNat t8*4)) λt15=>Cl 256 #[t15.agg] H λv b=> ∃t16,v=.bool t16/\if t16 then R (.I t8) b else(I (wrap .i64 (t8+1)) b/\m (wrap .i64 (t8+1)) b<m t8 H)else R (.I (-1)) H):Cl 294 #[.slice S s c,.func (.func 256) #[] #[]] h R:=aN (lq (sq (lq (bq (.loop [(8,.one (.int .i64))] (lq (sq (cq lf lf) (sq (bq (lq (lq (cq ll lf)))) lf)))))) ll)) Tryz.func294 d
theorem jG.within.walk(a:Cl 292 #[.slice S s c,.func (.func 251) #[] #[]] h λv H=> ∃t7,v=.I t7/\R (.bool (decide (t7≥0))) H):Cl 250 #[.slice S s c,.func (.func 251) #[] #[]] h R:=aN (lq ll) Tryz.func250 a
theorem kh.within.walk(d: ∃(I:Int->aj->Prop)(m:Int->aj->Nat),I 0 h/\∀(t8:Int)(H:aj),I t8 H->if(decide (t8<(s:Int)))then Bd t8 s/\aM S λa=>gT H (a.add (toNat t8*1)) λt15=>Cl 251 #[.U t15] H λv b=> ∃t16,v=.bool t16/\if t16 then R (.I t8) b else(I (wrap .i64 (t8+1)) b/\m (wrap .i64 (t8+1)) b<m t8 H)else R (.I (-1)) H):Cl 292 #[.slice S s c,.func (.func 251) #[] #[]] h R:=aN (lq (sq (lq (bq (.loop [(8,.one (.int .i64))] (lq (sq (cq lf lf) (sq (bq (lq (lq (cq ll lf)))) lf)))))) ll)) Tryz.func292 d

end
section
namespace Bn
open Cb
open iT (Ev cN kj)
variable {V:cH→Bool} {h H h' g0 g:aj} {R:fj} {D:Nat→Prop}
variable {ys:List CV} {n k:Int} {bb cl:Nat} {v:BV} {ts:List Tr} {q:cg} {t:Tr} {z:CV}
theorem Nc(ys:List CV): ∀v∈ys.flatMap hT,fI v=true:=λv c=>by
 obtain⟨a,_,b⟩:=List.mem_flatMap.1 c;exact oe a v b
theorem KD{p:cg}{n m:Nat}(d:Row h p (ys.flatMap hT))(i:n=ys.length)(j:ys.length<=1000000)(hk: ∀P c h',fi h' P ys.length c 4 (ys.flatMap hT)->Fr No h h'->(∀x,aL P x->h.size<=x)->R (.slice P ys.length c) h'):Cl 295 #[.slice p n m] h R:=by
 subst i;refine jN.walk ?_;cases p with
 |none=>
  have:ys= []:=by
   rcases d with d|⟨a,e,_⟩
   .cases ys with
    |nil=>rfl
    |cons b bs=>cases d
   .cases e
  subst this;exact hk none 0 h (.nil rfl rfl rfl rfl) (Fr.refl _ _) (λx ⟨a,e,_⟩=>by cases e)
 |some a=>
  simp only[Option.isNone_some,aq,aJ];exact vm tI uI d (eS hT 4 gu ys) (Nc ys) af af λP c h' o f g=>⟨_,_,_,rfl,hk P c h' o f g⟩
structure Lc (g0 g:aj) (bb:Nat) (k n:Int) (v:BV) (ts:List Tr) (ys:List CV) (q:cg) (cl:Nat):Prop where
 cQ:aa.at g bb k n v.p v.b.length v.c q ys.length cl
 own:fi g q ys.length cl 4 (ys.flatMap hT)
 ge: ∀y,aL q y->g0.size<=y/\y≠bb
 tr:dc g (λy=>(g0.size<=y/\y≠bb)/\¬aL q y) ts ys
 fr:Fr (λy=>y=bb) g0 g
theorem Lc.on(L:Lc g0 g bb k n v ts ys q cl)(f:Fr No g h'):Lc g0 h' bb k n v ts ys q cl:=
 ⟨f.get L.cQ id,L.own.frame f cu,L.ge,L.tr.on f,L.fr.on f⟩
theorem Nd(T:rZ g (λy=>g0.size<=y/\y≠bb) t z)(e:aa.fV g bb z.s)(f:Fr (λy=>y=bb) g0 g): ∃ys,ys.length=z.ll/\Lc g0 g bb z.k z.n z.v t.l ys z.q z.cl:=by
 obtain⟨i,ys,a,b,c,d⟩:=T;refine⟨ys,a.symm,?_,b,c,d,f⟩;rw[<-a];exact e
theorem Nf{k':Nat}(L:Lc g0 g bb k (k':Int) v ts ys q cl)(ok:v.ok g (λy=>g0.size<=y/\y≠bb)):rZ g (λy=>g0.size<=y/\y≠bb) (.mk k k' v.b ts) ⟨k,k',v,q,ys.length,cl⟩:=
 ⟨⟨rfl,rfl,rfl,ok⟩,ys,rfl,L.own,L.ge,L.tr⟩
theorem TU{Φ:aj->Prop}(L:Lc g0 g bb k n v ts ys q cl)(ll:ys.length<=1000000)(J:gE g (λy=>(g0.size<=y/\y≠bb)/\¬aL q y) t z)(hk: ∀G Y Q C,Lc g0 G bb k n v (ts++ [t]) Y Q C->Y.length=ys.length+1->g.size<=G.size->(∀x,x≠bb->¬aL q x->x<g.size->G[x]? =g[x]?)->Φ G):
  aQ g (.cells z.s.arr 262) λp s=>aU Tryz.prog (Builtin.append_ #[260,260] 260 #[.slice q ys.length cl,.slice (Sa p 0) 1 1]) s λK u=>
   ∃o m T,K=.slice o m T/\aO u (AA bb 3) (.slice o m T) λw=>Φ w:=by
 refine aa.db λP U S j f7=> ?_
 have Z:=f7.1;have zg:=L.fr.1;have X:=aC j;have a':=aC L.cQ;have W: ∀y,aL q y->y<g.size:=λy b=>L.own.dV b
 refine dY tI uI (L.own.frame f7 cu) (ds:=hT z) (.inr ⟨_,rfl,aa.zO (x:=z.s) j⟩) rfl (oe z) af af λQ C r O _ f11 f=>⟨_,_,_,rfl,?_⟩
 have B:=f11.get (f7.get L.cQ id) (λb=>(L.ge _ b).2 rfl);refine bH B (by show 3<4;omega) λi d1 d2 d3=> ?_
 have f12:Fr (λy=>y=bb) r i:=Fr.of_eq d2 (λc A=>d3 c A);have N: ∀y,aL Q y->g0.size<=y/\y≠bb:=λy b=>by
  rcases f y b with a|a
  .exact L.ge y a
  .omega
 have E:ys.flatMap hT++hT z=(ys++ [z]).flatMap hT:=by rw[cW];simp
 refine hk i (ys++ [z]) Q C ⟨?_,?_,N,?_,?_⟩ bO ?_ ?_
 .rw[av];exact d1
 .rw[av,<-E];exact O.frame f12 (λy b e=>bX (N y b))
 .have t1:=((L.tr.snoc J).lt.on f7).frame f11 (λy b d=>b.1.2 d);have M:=dc.mono (D':=λy=>(g0.size<=y/\y≠bb)/\¬aL Q y) (λy b=>⟨b.1.1,λd=>by
   rcases f y d with a|a
   .exact b.1.2 a
   .have:=b.2;omega⟩) t1
  exact dc.frame f12 (λy b e=>af) M
 .exact((L.fr.on f7).trans f11 (S'':=λy=>y=bb) cu (λx l b=>bX (L.ge x b))).trans f12 cu cu
 .have:=f11.1;omega
 .intro x l I F;rw[d3 x l,f11.2 x af I,f7.2 x F id]
theorem Ng{Φ:aj->Prop}{kl:List (cg)}(L:Lc g0 g bb k n v ts ys q cl)(ll:ys.length<=1000000)(l:gE g (λy=>(g0.size<=y/\y≠bb)/\¬aL q y) t z)(hk: ∀G Y Q C,Lc g0 G bb k n v (ts++ [t]) Y Q C->Y.length=ys.length+1->g.size<=G.size->(∀x,x≠bb->¬aL q x->x<g.size->G[x]? =g[x]?)->Φ G):
  aQ g (.cells z.s.arr 262) λB a=>Kp g a kl/\aU Tryz.prog (Builtin.append_ #[260,260] 260 #[.slice q ys.length cl,.slice (Sa B 0) 1 1]) a λm i=>
   ∃d c T,m=.slice d c T/\aO i (AA bb 3) (.slice d c T) λj=>Φ j:=by
 intro b f E e;refine⟨?_,TU L ll l hk b f E e⟩;subst e;exact(Fr.push _ _).kp
theorem Nh{l c:Nat}(U:mE V H)(u:Fr No H h)(L:mz h D q l c ys)(T:dc h D ts ys)(A:dw ts<=1000000)(hk: gU h R (.bool (!ts.all (gK V)))):Cl 258 #[.slice q l c,.func (.func 256) #[] #[]] h R:=by
 have G:=T.len;have el:=L.len;have C:=gB ts;refine iP.TT.walk (jj.TT.walk ?_);refine⟨λt g=> ∃i:Nat,t=(i:Int)/\i<=ts.length/\Fr No h g/\(ts.take i).all (gK V)=true,λt _=>ts.length - t.toNat,⟨0,rfl,bL _,Fr.refl _ _,by rw[eh];rfl⟩,?_⟩;rintro _ g ⟨i,rfl,w,f,j⟩;by_cases d:i<ts.length
 .rw[fY];obtain⟨a,y,E,p,ty,B⟩:=elem (L.frame f cu) (T.on f) d;have I:=jK d;have eq:ts.take (i+1)=ts.take i++ [at_ ts i]:=by
   rw[bD];unfold at_;rw[aZ,ai d];rfl
  have tm:at_ ts i∈ts:=by
   unfold at_;rw[aZ,ai d];exact dQ d
  refine⟨af,cb.2 ⟨a,E,aa.mA (x:=y.s) (by rw[aD];exact p) (zQ.walk (x:=y.s) (aa.db λb s r o f1=>aa.fR o (fc U (u.tt (f.tt f1)) (ty.on f1) af λm f2=>⟨_,rfl,_,rfl,?_⟩)))⟩⟩;have F:=f.tt (f1.tt f2);cases q:gK V (at_ ts i)with
  |false=>
   rw[fY];refine⟨_,rfl,?_⟩;have:=hk m F;rw[show ts.all (gK V)=false by rw[List.all_eq_false];exact⟨_,tm,by rw[q];decide⟩]at this;rw[au af];exact this
  |true=>
   rw[dj,bA (n:=(i:Int)+1) af af];exact⟨⟨i+1,af,af,F,by rw[eq,List.all_append,j];simp[q]⟩,by show ts.length - Int.toNat ((i:Int)+1)<ts.length - Int.toNat (i:Int);omega⟩
 .rw[ae (λe=>d (bX (aP e)))];rw[bB af]at j;have:=hk g f;rw[j]at this;exact⟨_,rfl,this⟩

end Bn
end
section
namespace Bn
open Cb
open iT (Ev cN kj)
variable {V:cH→Bool} {h h0 h':aj} {R:fj} {D:Nat→Prop} {ts:List Tr} {ys:List CV} {q:cg} {l c:Nat}
variable {i:Nat}
theorem BU(L:mz h D q l c ys)(T:dc h D ts ys)(p:dw ts<=1000000)(o:i<100)(hk: gU h R (.I (typeAt ts i))):Cl 257 #[.slice q l c,.I (i:Int)] h R:=by
 have s:=T.len;have el:=L.len;have r:=gB ts;refine zP.walk (aG.of λJ f=> ?_);have no: ∀g,Fr No h g->¬(i<ts.length/\(at_ ts i).n<=2/\nC (at_ ts i) (num (at_ ts i).n)=true)->J true g:=λg k b=>by
  subst f;dsimp only;rw[ag rfl];have:=hk g k;unfold typeAt at this;rw[ae b]at this;exact this
 rw[dj];by_cases H:i<ts.length
 case neg=>rw[fY];exact no h (Fr.refl _ _) (λe=>H e.1)
 rw[dj];obtain⟨a,y,E,m,ty,_⟩:=elem L T H;have t:=jK H;obtain⟨_,Y,_⟩:=gE.kn ty;have j:dI (a.add (Int.toNat (i:Int)*4)) y.s.l 0 h:=by rw[aD];exact m
 have c1:aX h ((a.add (Int.toNat (i:Int)*4)).add 1)=some (.U ((at_ ts i).n:Int)):=by rw[<-Y];exact j.2.1
 refine⟨af,cb.2 ⟨a,E,_,c1,?_⟩⟩;by_cases b:(at_ ts i).n<=2
 case neg=>rw[fY];exact no h (Fr.refl _ _) (λe=>b e.2.1)
 rw[dj];refine⟨af,cb.2 ⟨a,E,aa.mA (x:=y.s) j ⟨af,cb.2 ⟨a,E,_,c1,fN λn f2=>aa.ex (nv (at_ ts i).n).s ⟨rfl,f2.kp,iu (x:=y) (y:=nv (at_ ts i).n) (ty.on f2) mB af λd f3=>⟨_,rfl,f3.kp,?_⟩⟩⟩⟩⟩⟩;have F:=f2.tt f3;cases e:nC (at_ ts i) (num (at_ ts i).n)with
 |false=>exact no d F (λq=>by rw[e]at q;cases q.2.2)
 |true=>
  subst f;dsimp only;rw[dj];refine⟨af,cb.2 ⟨a,E,_,F.cell c1 id,?_⟩⟩;have:=hk d F;unfold typeAt at this;rw[ag ⟨H,b,e⟩]at this;rw[bA af af];exact this
theorem BW(ts:List Tr)(i:Nat): -1<=typeAt ts i/\typeAt ts i<=2:=by unfold typeAt;split<;>omega
theorem O1(n:Nat):List.replicate n (Value.int .u8 0)=bc (List.replicate n 0):=by unfold bc;rw[List.map_replicate];rfl
theorem Sv(n k:Nat)(m:Nat)(H:m=k):IntKind.wrap .u8 (Int.fdiv (n:Int) (2 ^ m))=((UInt8.ofNat (n/2 ^ k)).toNat:Int):=by subst H;rw[MU,MT]
theorem Fh{sum:Nat}(U:mE V h0)(u:Fr No h0 h)(L:mz h D q l c ys)(T:dc h D ts ys)(hr:dw ts<=900000)(s1:1<=sum)(s2:sum<=2)(K: ∀b,sumOf V ts sum=.ok b->∀h' p c,Row h' p (bc b)->b.length=2*sum->(∀y,aL p y->h.size<=y)->Fr No h h'->R (.tuple #[.slice p b.length c,.I 0]) h')(Q:sumOf V ts sum=.error 3->gU h R (.tuple #[.Z,.I 3])):Cl 259 #[.slice q l c,.I (sum:Int)] h R:=by
 have ln:=T.len;have el:=L.len;have l9:=gB ts;refine AO.walk (KD L.row L.len af λY c1 M o1 f1 G=>⟨_,_,_,rfl,pf.walk ⟨_,rfl,?_⟩⟩);rw[bA (n:=2*(sum:Int)) af af,show 2*(sum:Int)=((2*sum:Nat):Int) by omega];refine LA iD.tU rfl (2*sum) af af λN p3 C f3 g3=>⟨_,_,_,rfl,?_⟩
 rw[O1]at C;have t:(List.replicate (2*sum) (0:UInt8)).length=2*sum:=List.length_replicate;refine jh C.jb t.symm af λh4 v ev X f4=>aa.ex (CV.s ⟨2,0,v,none,0,0⟩) ⟨rfl,aa.db λb h5 eb P f5=> ?_⟩
 have F:=f3.tt (f4.tt f5);have z1:=f1.1;have z3:=f3.1;have z4:=f4.1;have z5:=f5.1;have n1: ∀y,aL Y y->y<M.size:=λy f=>o1.dV f
 have vl:v.b.length=2*sum:=by rw[ev,t]
 refine dY tI uI (o1.frame F cu) (ds:=hT ⟨2,0,v,none,0,0⟩) (.inr ⟨_,rfl,aa.zO (x:=CV.s ⟨2,0,v,none,0,0⟩) P⟩) rfl (oe _) af af λp6 c6 m O _ f6 g6=>⟨_,_,_,rfl,?_⟩
 have J:ys.flatMap hT++hT ⟨2,0,v,none,0,0⟩=(ys++ [(⟨2,0,v,none,0,0⟩:CV)]).flatMap hT:=by rw[cW];simp
 rw[J]at O;have I:AS m (ts++ [pn (List.replicate (2*sum) 0)]) (ys++ [⟨2,0,v,none,0,0⟩]):=by
  have a:=(T.lt.on (f1.tt F)).frame f6 (λy f s=>bX (G y s));have b:gE m (λy=>N.size<=y) (.mk 2 0 v.b []) ⟨2,0,v,none,0,0⟩:=BQ ((X.frame f5 cu).frame f6 (λy f s=>bX (n1 y s)));rw[ev]at b;exact a.u.snoc b.u
 have S:(ys++ [(⟨2,0,v,none,0,0⟩:CV)]).length=ys.length+1:=bO
 have rA:dw (ts++ [pn (List.replicate (2*sum) 0)])<=900100:=by rw[hZ];simp only[dw,room,t];omega
 refine jF (D:=λ_=>True) ⟨S.symm,O.jb,λ_ _ _=>trivial,O.le⟩ I af λh7 z tz f7=>aa.ex z.s ⟨rfl,?_⟩
 have A:Fr No h m:=(f1.tt F).fresh f6 (λy f=>G y f);have g:=A.tt f7;have z6:=A.1;have z7:=f7.1;have H:sumOf V ts sum=sumOf V ts sum:=rfl;conv at H=>rhs;unfold sumOf
 refine wk (x:=z) U (u.tt g) tz.u (by simp only[room,bm];omega) (λo d p8 c8 w n8 f8=>⟨_,_,_,_,rfl,?_⟩) (λo d f8=>⟨_,_,_,_,rfl,?_⟩)
 .rw[dj];rw[ag o]at H;have j:=g.tt f8;have W:(enc (rC (ts++ [pn (List.replicate (2*sum) 0)]))).length<=900200:=by
   have:=jH (rC (ts++ [pn (List.replicate (2*sum) 0)]));simp only[room,bm]at this;omega
  generalize enc (rC (ts++ [pn (List.replicate (2*sum) 0)]))=B at H w W⊢;have Z:=j.1;by_cases e1:sum=1
  .rw[ag (by rw[e1];rfl)];rw[ag e1]at H;refine M0 w.jb rfl af ⟨_,rfl,cG ?_⟩;rw[Sv (yL B) 8 (min (Int.toNat 8) (IntKind.bits .u16)) rfl,MT];have r:Row (d.push (.cells (bc (CH B)).toArray 5)) (Sa d.size 0) (bc (CH B)):=jl;exact K _ H _ _ _ r (by rw[e1];rfl) (λy ⟨a,E,k⟩=>by cases E;rw[<-k];exact Z) (j.tt (Fr.push _ _))
  .rw[ae (λe=>e1 (bX (eq_of_beq e)))];rw[ae e1]at H;refine OY w.jb rfl af ⟨_,rfl,cG ?_⟩;rw[Sv (wU B) 24 (min (Int.toNat 24) (IntKind.bits .u32)) rfl,Sv (wU B) 16 (min (Int.toNat 16) (IntKind.bits .u32)) rfl,Sv (wU B) 8 (min (Int.toNat 8) (IntKind.bits .u32)) rfl,MT];have r:Row (d.push (.cells (bc (HZ B)).toArray 5)) (Sa d.size 0) (bc (HZ B)):=jl;exact K _ H _ _ _ r (by rw[show sum=2 by omega];rfl) (λy ⟨a,E,k⟩=>by cases E;rw[<-k];exact Z) (j.tt (Fr.push _ _))
 .rw[fY];rw[ae (by rw[o];decide)]at H;exact Q H d (g.tt f8)
theorem I0(U:mE V h0)(u:Fr No h0 h)(L:mz h D q l c ys)(T:dc h D ts ys)(hr:dw ts<=800000)(hi:i<100)(k1: ∀t,mR V ts i=.ok t->∀h' z,rZ h' (λy=>h.size<=y) t z->Fr No h h'->R (.tuple #[z.agg,.I 0]) h')(Q: ∀e,mR V ts i=.error e->gU h R (.tuple #[zv.agg,.I e])):Cl 206 #[.slice q l c,.I (i:Int)] h R:=by
 have ln:=T.len;have el:=L.len;have l9:=gB ts;refine CZ.walk (aa.db λb s eb A f1=>aG.of λr' hJ=> ?_);have zb:=aC A;have no: ∀g e,Fr No s g->mR V ts i=.error e->aa.dv g (AA b 0) .z λG=>aa.cO G (AA b 0) λr=>R (.tuple #[r.agg,.I e]) G:=λg e m k=>
  C4 (m.get A id) λG f=>Q e k G ((f1.tt m).fresh f (λy e=>af))
 rw[dj];have H:mR V ts i=mR V ts i:=rfl;conv at H=>rhs;unfold mR
 by_cases c':i<ts.length
 case neg=>
  rw[au af];rw[ae c']at H;subst hJ;dsimp only;rw[ag rfl];exact no s 1 (Fr.refl _ _) H
 rw[ag c']at H;rw[az af];subst hJ;dsimp only;rw[ae (show¬false=true by decide)];refine BU (L.frame f1 cu) (T.on f1) af hi λh4 f4=>⟨_,rfl,aG.of λJ1 a'=>Nh U (u.tt (f1.tt f4)) (L.frame (f1.tt f4) cu) (T.on (f1.tt f4)) af λj f5=>⟨_,rfl,?_⟩⟩
 have y':=BW ts i;have p:=f1.tt (f4.tt f5);have S: ¬(ts.all (gK V)=true/\0<=typeAt ts i)->J1 true j:=λhn=>by
  subst a';dsimp only;rw[ag rfl];exact no j 3 (f4.tt f5) (by rw[H,ae hn])
 cases ha:ts.all (gK V)with
 |false=>rw[fY];exact S (λe=>by rw[ha]at e;cases e.1)
 |true=>
 rw[dj];by_cases P:0<=typeAt ts i
 case neg=>rw[au af];exact S (λe=>P e.2)
 rw[az af];clear S;rw[ag ⟨ha,P⟩]at H;subst a';dsimp only;rw[ae (show¬false=true by decide)];refine jF (L.frame p cu) (T.on p) af λh7 z tz f7=>aa.ex z.s ⟨rfl,aa.gh (x:=z.s) λb1 n t' B f9=>aG.of λJ2 m'=> ?_⟩
 have z1:=f1.1;have z4:=f4.1;have B':=f5.1;have z5:=p.1;have z7:=f7.1;have z9:=f9.1;have C':=aC B;have F:=p.tt (f7.tt f9);have done: ∀g (w:CV) t,rZ g (λy=>j.size<=y/\y≠b1) t w->room t<=900000->aa.fV g b1 w.s->Fr (λy=>j.size<=y) n g->(mR V ts i=if gK V t=true then .ok t else .error 3)->J2 g:=by
  intro g w t o rt hw m k;subst m';try dsimp only
  have J:Fr No h g:=F.fresh m (λy e=>af);have b': ∀{Z},Fr No g Z->aa.fV Z b .z:=λf=>f.get (m.get ((f4.tt (f5.tt (f7.tt f9))).get A id) af) id
  refine aa.fR hw (fc U (u.tt J) o.u af λu' f11=>⟨_,rfl,?_⟩);cases C:gK V t with
  |false=>
   rw[fY];rw[C]at k;exact C4 (b' f11) λG f=>Q 3 k G ((J.tt f11).fresh f (λy e=>af))
  |true=>
   rw[dj];rw[C,ag rfl]at k;refine aa.fR (f11.get hw id) (fin (b' f11) (o.frame f11 cu) (λy d e=>bX f1.1) λj' t13 f13=>k1 t k j' w (t13.mono λy d=>af) ((J.tt f11).fresh f13 (λy e=>af)))
 have I:rZ n (λy=>j.size<=y/\y≠b1) (rC ts) z:=by
  obtain⟨⟨a1,a2,a3,a4⟩,zs,a5,W,a7,a8⟩:=tz;refine⟨⟨a1,a2,a3,((EI a4).mono λy d=>af).frame f9 cu⟩,zs,a5,W.frame f9 cu,λy d=>⟨a7 y d,bX (W.dV d)⟩,(dc.mono (λy d=>by have s:=d.1.1;have h2:=d.2;exact⟨⟨s,af⟩,d.1.2⟩) a8.lt).on f9⟩
 by_cases N:0<typeAt ts i
 case neg=>
  rw[dj];rw[ae N]at H;exact done n z (rC ts) I (by simp only[room,bm];omega) B (Fr.refl _ _) H
 rw[ag (au N)];rw[ag N]at H;obtain⟨sum,n'⟩:=eK P;rw[n']at H⊢;rw[aD]at H;refine Fh U (u.tt F) (L.frame F cu) (T.on F) af af af (λbs O l' x' s' row lb nb f14=>⟨_,_,_,_,rfl,?_⟩) (λO l' f14=>⟨_,_,_,_,rfl,?_⟩)
 .rw[dj];rw[O]at H;refine⟨_,_,_,ak (f14.get B id),jh row rfl af λv' v ev ov f16=>aa.ex (CV.s ⟨2,0,v,none,0,0⟩) ⟨rfl,f16.kp,?_⟩⟩;have e':=f14.tt f16;have g0:Fr (λy=>y=b1) j n:=(f7.tt f9).mono λ_ _=>False.elim
  obtain⟨zs,ez,M⟩:=Nd (g0:=j) I B g0;have i':z.s.pq=zs.length:=ez.symm;have zl:zs.length=ts.length:=by have:=M.tr.len;exact this.symm
  have q9: ∀y,aL z.q y->y<n.size:=λy d=>M.own.dV d
  have z':=f14.1;have A':=f16.1;have f':=M.on e';rw[i'];obtain⟨zk,zn,d',_⟩:=I.1;refine Ng f' af (gE.mono (λy d=>⟨af,λC=>bX (q9 y C)⟩) (BQ ov)) λG p' q' g' K hl w' ho=> ?_
  have o':z.v.ok G (λy=>j.size<=y/\y≠b1):=by
   have E:z.v.b= []:=d';exact⟨by rw[E];exact Row.nil,λe=>absurd E e,I.1.2.2.2.cap⟩
  have o:=Nf (k':=z.n) K o';have X:z.k=4:=zk;have Y:z.n=0:=zn;have E:z.v.b= []:=d';rw[X,Y,E,ev]at o;have lr:=hZ (a:=ts) (b:= [pn bs]);simp only[dw,room,bm]at lr;refine done G ⟨z.k,z.n,z.v,q',p'.length,g'⟩ (rC (ts++ [pn bs])) (by rw[X,Y];exact o) (by simp only[room,bm];omega) K.cQ ?_ H;refine⟨af,λy d hn=> ?_⟩;rw[K.fr.2 y af af,(f7.tt f9).2 y af id]
 .rw[fY];rw[O]at H;exact C4 (f14.get ((f4.tt (f5.tt (f7.tt f9))).get A id) id) λG f=>Q 3 H G ((F.tt f14).fresh f (λy e=>bX f1.1))
theorem mU {i : Nat} {t : Tr} {x : CV} (U : mE V h0) (u : Fr No h0 h) (tx : EY h t x) (hr : room t ≤ 800000) (hi : i < 100)
    (k1 : ∀ us, oZ V t i = .ok us → dw us ≤ dw t.l → ∀ h' p zs c, mz h' (λy => h.size ≤ y) p zs.length c zs → dc h' (λy => h.size ≤ y) us zs → Fr No h h' → R (.tuple #[.slice p zs.length c, .int .i64 0]) h')
    (k2 : ∀ e, oZ V t i = .error e → e ≠ 0 → ∀ h', Fr No h h' → R (.tuple #[.slice none 0 0, .int .i64 e]) h') : Cl 244 #[x.agg, .int .i64 (i : Int)] h R := by
  obtain ⟨xk, xn, xb, xl, xv, ys, L, TS⟩ := gE.kn tx
  have rl := nz (t := t)
  have ln := TS.len
  have el := L.len
  have l9 := gB t.l
  have e4 : x.s.f0 = t.k := xk
  have TV : x.s.pq = t.l.length := xl
  refine C0.walk (x := x.s) (aa.db λb h1 eb hb f1 => aG.of λJ hJ => aa.fR hb (fc U (u.tt f1) (tx.on f1) (by omega) λh3 f3 => ⟨_, rfl, ?_⟩))
  have F3 := f1.tt f3
  have O2 := f3.get hb id
  have hO : oZ V t i = oZ V t i := rfl
  conv at hO => rhs; unfold oZ
  have bad : ¬ (gK V t = true ∧ t.k = 4 ∧ 0 ≤ typeAt t.l i) → ∀ g, Fr No h g → R (.tuple #[.slice none 0 0, .int .i64 3]) g := λhn g fg => k2 3 (by rw [hO, if_neg hn]) (by decide) g fg
  have QG : ¬ (gK V t = true ∧ t.k = 4 ∧ 0 ≤ typeAt t.l i) → J true h3 := λhn => by
    subst hJ
    dsimp only
    rw [if_pos rfl]
    exact bad hn h3 F3
  cases hR : gK V t with
  | false => exact QG (λe => by rw [hR] at e; cases e.1)
  | true =>
  rw [if_neg (show ¬ (!true) = true by decide)]
  refine ⟨_, cE O2 rfl, ?_⟩
  rw [e4]
  by_cases k4 : t.k = 4
  case neg => rw [show (t.k != 4) = true by simpa using k4]; exact QG (λe => k4 e.2.1)
  rw [show (t.k != 4) = false by simpa using k4]
  clear QG
  subst hJ
  dsimp only
  rw [if_neg (show ¬ false = true by decide)]
  refine ⟨_, _, _, cE O2 rfl, BU (L.frame F3 (λ_ _ => id)) (TS.on F3) (by omega) hi λh4 f4 => ⟨_, rfl, ?_⟩⟩
  have F4 := F3.tt f4
  have Ii := f4.get O2 id
  by_cases ht : 0 ≤ typeAt t.l i
  case neg => rw [if_pos (decide_eq_true (by omega))]; exact bad (λe => ht e.2.2) h4 F4
  rw [if_neg (by simp only [decide_eq_true_eq]; omega)]
  rw [if_pos ⟨hR, k4, ht⟩] at hO
  clear bad
  have I1 : ∀ {g} (us : List Tr) (zs : List CV) {n c : Nat} {p : Option Addr}, mz g (λ_ => True) p n c zs → AS g us zs → dw us ≤ dw t.l → Fr No h g → oZ V t i = .ok us → Cl 247 #[.slice p n c] g λJO TW => aa.EX λt84 => JO = t84.agg ∧ R (.tuple #[.slice t84.vt t84.pq t84.tf, .int .i64 0]) TW := by
    intro g us zs n c p Lz Tz rz fg hu
    refine jF Lz Tz (by omega) λUl z tz f10 => aa.ex z.s ⟨rfl, ?_⟩
    obtain ⟨_, ws, a5, a6, a7, a8⟩ := tz
    have zg := fg.1
    have := k1 us hu rz Ul z.q ws z.cl ⟨rfl, a6.jb, λ_ y hy => by have := a7 y hy; omega, a6.le⟩ (dc.mono (λy hy => by have := hy.1; omega) a8) (fg.tt f10)
    rw [← a5] at this
    exact this
  by_cases h0 : typeAt t.l i = 0
  · rw [if_pos (by rw [h0]; rfl)]
    rw [if_pos h0] at hO
    exact ⟨_, _, _, cE Ii rfl, I1 t.l ys (L.frame F4 (λ_ _ => id)) (TS.on F4) (Nat.le_refl _) F4 hO⟩
  rw [if_neg (by simpa using h0)]
  rw [if_neg h0] at hO
  have V2 : i < t.l.length := by
    rcases Nat.lt_or_ge i t.l.length with hq | hq
    · exact hq
    · have : typeAt t.l i = -1 := by unfold typeAt; rw [if_neg (λe => by omega)]
      omega
  have V3 := BW t.l i
  obtain ⟨sum, TX⟩ := Int.eq_ofNat_of_zero_le ht
  rw [TX] at hO ⊢
  rw [Int.toNat_natCast] at hO
  have PJ : 1 ≤ sum ∧ sum ≤ 2 := by omega
  obtain ⟨n, hn⟩ : ∃ n, t.l.length = n + 1 := ⟨t.l.length - 1, by omega⟩
  rw [show t.l.length - 1 = n by omega] at hO
  have ew : IntKind.wrap .i64 (((x.s.pq : Nat) : Int) - 1) = (n : Int) := by rw [TV, hn, bA (by omega) (by omega)]; omega
  refine ⟨_, _, _, cE Ii rfl, ?_⟩
  rw [ew]
  obtain ⟨a, y, ea, hh, ty, _⟩ := elem (L.frame F4 (λ_ _ => id)) (TS.on F4) (i := n) (by omega)
  have rn := jK (ts := t.l) (i := n) (by omega)
  obtain ⟨yk, yn, yb, yl, yv, _⟩ := gE.kn ty
  generalize PK : at_ t.l n = la at ty rn yk yn yb yl hO
  have V4 := nz (t := la)
  refine ⟨_, _, _, cE Ii rfl, ⟨by omega, by omega⟩, cb.2 ⟨a, ea, aa.mA (x := y.s) (by rw [Int.toNat_natCast]; exact hh) (aa.gh (x := y.s) λb1 h6 Su Kn f6 => aG.of λJ1 Ut => ?_)⟩⟩
  have F6 := F4.tt f6
  have lb : y.s.nP = la.b.length := by show y.v.b.length = _; rw [yb]
  have bad : ∀ g, Fr No h6 g → ¬ (i < n ∧ nC la (pn la.b) = true ∧ la.b.length = 2 * sum) → J1 true g := λg fg hn => by
    subst Ut
    try dsimp only
    rw [if_pos rfl]
    exact k2 3 (by rw [hO, if_neg hn]) (by decide) g (F6.tt fg)
  by_cases c1 : i < n
  case neg => rw [if_pos (decide_eq_true (by omega))]; exact bad h6 (Fr.refl _ _) (λe => c1 e.1)
  rw [if_neg (by simp only [decide_eq_true_eq]; omega)]
  have Sb : ∀ {g}, Fr No h6 g → Row g y.v.p (bc la.b) := λfg => by rw [← yb]; exact ((yv.frame f6 (λ_ _ => id)).frame fg (λ_ _ => id)).row
  refine aa.fR Kn ⟨_, _, _, cE Kn rfl, jh (Sb (Fr.refl _ _)) lb (by omega) λV5 v ev ov f11 => aa.ex (CV.s ⟨2, 0, v, none, 0, 0⟩) ⟨rfl, f11.kp, ?_⟩⟩
  refine iu (x := y) (y := ⟨2, 0, v, none, 0, 0⟩) (s := pn la.b) (ty.on (f6.tt f11)) (ev ▸ BQ ov) (by omega) λUu f12 => ⟨_, rfl, ?_⟩
  have PL := f11.tt f12
  cases c2 : nC la (pn la.b) with
  | false => rw [if_pos (by decide)]; exact bad Uu PL (λe => by rw [c2] at e; cases e.2.1)
  | true =>
  rw [if_neg (show ¬ (!true) = true by decide)]
  refine ⟨_, _, _, cE (PL.get Kn id) rfl, pf.walk ⟨_, rfl, (Fr.refl _ _).kp, ?_⟩⟩
  rw [lb, bA (n := 2 * (sum : Int)) (by omega) (by omega)]
  by_cases c3 : la.b.length = 2 * sum
  case neg => rw [show (((la.b.length : Nat) : Int) != 2 * (sum : Int)) = true by simp only [bne_iff_ne, ne_eq]; omega]; exact bad Uu PL (λe => c3 e.2.2)
  rw [show (((la.b.length : Nat) : Int) != 2 * (sum : Int)) = false by simp only [bne_eq_false_iff_eq]; omega]
  clear bad
  rw [if_pos ⟨c1, c2, c3⟩] at hO
  subst Ut
  try dsimp only
  rw [if_neg (show ¬ false = true by decide)]
  have Sc := F6.tt PL
  have cut : ∀ {g}, Fr No h g → mz g (λ_ => True) (cK x.s.vt x.s.tf 0 4) ((Int.toNat (n : Int)) - 0) (x.s.tf - 0) (ys.take n) := fun {g} fg => by
    have hr := (L.frame fg (λ_ _ => id)).row.sub (cap := x.cl) (l := 0) (u := n) (sz := 4) (Nat.zero_le _) (by have := L.cap; omega)
    rw [lQ hT 4 gu, Nat.zero_mul, List.drop_zero] at hr
    have hc : x.ll ≤ x.cl := L.cap
    exact ⟨by rw [List.length_take]; omega, hr, λ_ _ _ => trivial, by show n - 0 ≤ x.cl - 0; omega⟩
  have cc : n ≤ x.s.tf := by have hc : x.ll ≤ x.cl := L.cap; show n ≤ x.cl; omega
  have rt : dw (t.l.take n) ≤ dw t.l := ny _ _
  refine ⟨_, _, _, cE ((f6.tt PL).get Ii id) rfl, ⟨by omega, by omega⟩, Fh U (u.tt Sc) (cut Sc) ((TS.on Sc).take n) (by omega) PJ.1 PJ.2 (λbs hs TY V6 V7 row V8 nb f14 => ⟨_, _, _, _, rfl, ?_⟩) (λhs TY f14 => ⟨_, _, _, _, rfl, ?_⟩)⟩
  · rw [if_neg (by decide)]
    rw [hs] at hO
    dsimp only at hO
    refine ⟨_, _, _, cE ((PL.tt f14).get Kn id) rfl, oT row (Sb (PL.tt f14)) rfl lb ⟨_, rfl, ?_⟩⟩
    have Sw := Sc.tt f14
    by_cases ce : bs = la.b
    · rw [decide_eq_true ce, if_neg (show ¬ (!true) = true by decide)]
      rw [if_pos ce] at hO
      exact ⟨_, _, _, cE (((f6.tt PL).tt f14).get Ii id) rfl, ⟨by omega, by omega⟩, I1 (t.l.take n) (ys.take n) (cut Sw) ((TS.on Sw).take n) rt Sw hO⟩
    · rw [decide_eq_false ce, if_pos (show (!false) = true by decide)]
      rw [if_neg ce] at hO
      exact k2 10 hO (by decide) TY Sw
  · rw [if_pos (by decide)]
    rw [hs] at hO
    exact k2 3 hO (by decide) TY (Sc.tt f14)

end Bn
end
section
namespace Bn
open Cb
open iT (Ev cN kj)
variable {V:cH→Bool} {h H h':aj} {R:fj}
variable {ts:List Tr} {i:Nat} {t:Tr} {e:Int}
abbrev Prim.s(p:Prim):aB.S:=⟨p.fl,p.sum,p.dest.jI,p.dest.node,p.dest.fX,p.dest.host,p.dest.jd,p.rep.jI,p.rep.node,p.rep.fX,p.rep.host,p.rep.jd,p.id.e.jI,p.id.e.node,p.id.e.fX,p.id.e.host,p.id.e.jd,p.id.tm,p.id.sq,p.eV⟩
def Prim.wf(p:Prim):Prop:=0<=p.dest.fX/\0<=p.rep.fX/\0<=p.id.e.fX
variable {p:Prim}
theorem Sd{b:Nat}{y:aB.S}(x:Prim){K:aB.S->aj->Prop}(a:aB.fV h b y)(hk: ∀h',Fr (λy=>y=b) h h'->K x.s h'):
  aB.dv h (AA b 0) x.s λg=>aB.cO g (AA b 0) λr=>K r g:=
 aB.hM (x:=x.s) a λg d1 f _=>aB.fR d1 (hk g f)
theorem KE(p:Prim)(hk: gU h R (.bool (ju p))):Cl 202 #[p.s.agg] h R:=by
 refine AP.walk (aB.db λb d E a f1=>⟨_,ak a,?_⟩);have no: ∀g,Fr No h g->ju p=false->R (.bool false) g:=λg o e=>by have:=hk g o;rw[e]at this;exact this
 change if QY (p.fl:Int) 409638=true then _ else _
 by_cases c1:QY (p.fl:Int) 409638=true
 case neg=>rw[ae c1];exact no d f1 (by unfold ju;simp[c1])
 rw[ag c1];refine⟨_,ak a,?_⟩;by_cases c:0<=p.sum
 case neg=>rw[ae (by simp only[aY];exact c)];exact no d f1 (by unfold ju;simp[c])
 rw[ag (au c)];refine⟨_,ak a,?_⟩;by_cases C:p.sum<=2
 case neg=>rw[ae (by simp only[aY];exact C)];exact no d f1 (by unfold ju;simp[C])
 rw[ag (au C)];refine iB p.dest a rfl rfl rfl rfl rfl (iT.fc p.dest λq f2=>⟨_,rfl,?_⟩);cases f:cN p.dest with
 |false=>exact no q (f1.tt f2) (by unfold ju;simp[f])
 |true=>
 rw[ag rfl];have m:=f2.get a id;refine iB p.rep m rfl rfl rfl rfl rfl (iT.fc p.rep λr f3=>⟨_,rfl,?_⟩);have F:=f1.tt (f2.tt f3);cases j:cN p.rep with
 |false=>exact no r F (by unfold ju;simp[j])
 |true=>
 rw[ag rfl];have n:=f3.get m id;refine zT p.id n rfl rfl rfl rfl rfl rfl rfl (rj p.id λl f4=>⟨_,rfl,?_⟩);cases k:gL p.id with
 |false=>exact no l (F.tt f4) (by unfold ju;simp[k])
 |true=>
 rw[ag rfl];refine⟨_,ak (f4.get n id),?_⟩;have:=hk l (F.tt f4);unfold ju at this;rw[c1,au c,au C,f,j,k]at this;rw[show decide ((p.s.f19:Int)<=1099511627776)=decide (p.eV<=1099511627776)from k7 p.eV 1099511627776];exact this
theorem BX(h:ju p=true):0<=p.sum/\p.sum<=2/\cN p.dest=true/\cN p.rep=true/\gL p.id=true/\p.eV<=1099511627776:=by
 unfold ju at h;simp only[aR,aY]at h;exact⟨h.1.1.1.1.1.2,h.1.1.1.1.2,h.1.1.1.2,h.1.1.2,h.1.2,h.2⟩
theorem Aa(h:ju p=true):dw (D9 p)<=1000:=by
 obtain⟨_,_,a,b,c,_⟩:=BX h;have:=lU _ a;have:=lU _ b;have:=lU _ (zU c).1;simp only[D9,dw,room,bm];omega
theorem Ab(h:mR V ts i=.ok t):room t<=dw ts+30:=by
 unfold mR at h;split at h
 .split at h
  .split at h
   .split at h
    .cases h
    .rename_i b a;split at h
     .cases h;have:b.length<=4:=by
       unfold sumOf at a;split at a
       .cases a;split<;>simp[CH,HZ]
       .cases a
      simp only[room,hZ,dw,bm];omega
     .cases h
   .split at h
    .cases h;simp only[room,bm];omega
    .cases h
  .cases h
 .cases h
theorem Ac(h:mS V p=.ok t):room t<=1100:=by
 unfold mS at h;split at h
 .rename_i a;have:=Ab h;have:=Aa a;omega
 .cases h
theorem Ni(p:Prim)(w:p.wf)(U:mE V H)(u:Fr No H h)(K: ∀t,mS V p=.ok t->∀h' z,rZ h' (λy=>h.size<=y) t z->Fr No h h'->R (.tuple #[z.agg,.I 0]) h')(k: ∀e,mS V p=.error e->gU h R (.tuple #[zv.agg,.I e])):Cl 177 #[p.s.agg] h R:=by
 refine AQ.walk (aB.db λb h1 eb s f1=>aa.db λb1 h2 f' v f2=>aB.fR (x:=p.s) (f2.get s id) (KE p λh3 f3=>⟨_,rfl,?_⟩));have a:=(f2.tt f3).get s id;have j:=f3.get v id;have f:=f1.tt (f2.tt f3);have z1:=f1.1;have u':=aC v;have z3:=f3.1;unfold mS at K k;cases c:ju p with
 |false=>exact C4 j λQ f4=>k 3 (by rw[c,dj]) Q (f.fresh f4 (λy e=>af))
 |true=>
 rw[dj];rw[c,ag rfl]at K k;obtain⟨s0,s2,I,J,E,_⟩:=BX c;have hE:=(zU E).1;refine iB p.dest a rfl rfl rfl rfl rfl (wu p.dest w.1 (λ_ h5 Z td f5=>aa.ex Z.s ⟨_,rfl,aa.gh (x:=Z.s) λb2 h7 g' S f7=> ?_⟩) (λe=>by rw[I]at e;cases e));have r:=f5.tt f7;refine iB p.rep (r.get a id) rfl rfl rfl rfl rfl (wu p.rep w.2.1 (λ_ h8 d tr f8=>aa.ex d.s ⟨_,rfl,aa.gh (x:=d.s) λb3 l' i' X f10=> ?_⟩) (λe=>by rw[J]at e;cases e));have o:=r.tt (f8.tt f10);refine zT p.id (o.get a id) rfl rfl rfl rfl rfl rfl rfl (BT p.id w.2.2 (λ_ m' m ti f11=>aa.ex m.s ⟨_,rfl,aa.gh (x:=m.s) λb4 n' j' A f13=> ?_⟩) (λe=>by rw[E]at e;cases e));have q:=o.tt (f11.tt f13);have l:=q.get a id;have W:=(f8.tt (f10.tt (f11.tt f13))).get S id;have a':=(f11.tt f13).get X id;obtain⟨ik,s',ib,il,iv,ys,L,T⟩:=gE.kn (ti.u.on f13);have lI:(LQ p.id).l.length=2:=rfl;have li:m.s.pq=2:=il;obtain⟨a0,y0,M,b',d',_⟩:=elem L T (i:=0) af;obtain⟨D,Y,N,c',e',_⟩:=elem L T (i:=1) af;refine⟨_,ak l,_,ak l,aa.fR W ⟨_,_,_,ak A,af,cb.2 ⟨a0,M,aa.mA (x:=y0.s) b' (aa.fR a' ⟨_,_,_,ak A,af,cb.2 ⟨D,N,aa.mA (x:=Y.s) c' ⟨_,ak l,?_⟩⟩⟩)⟩⟩⟩;obtain⟨sum,hs⟩:=eK s0;have es:p.sum.toNat=sum:=af
 refine fN (n:=7) λo' f14=>aa.ex (nv 7).s ⟨rfl,f14.kp,fN (n:=p.fl) λp' f15=>aa.ex (nv p.fl).s ⟨rfl,f15.kp,?_⟩⟩
 rw[show p.s.f1=(sum:Int)from hs,wrap_u64 (n:=(sum:Int)) af af];refine fN (n:=sum) λq' f16=>aa.ex (nv sum).s ⟨rfl,f16.kp,fN (n:=p.eV) λr' f17=>aa.ex (nv p.eV).s ⟨rfl,f17.kp,oh (ys:= [nv 7,nv p.fl,nv sum,Z,y0,d,Y,nv p.eV]) rfl λb5 O k' B f18=>⟨f18.kp,?_⟩⟩⟩
 have G:=f14.tt (f15.tt (f16.tt (f17.tt f18)));have C:AS O (D9 p) [nv 7,nv p.fl,nv sum,Z,y0,d,Y,nv p.eV]:=by
  unfold D9;rw[es];exact .cons mB (.cons mB (.cons mB (.cons (td.u.on (f7.tt (f8.tt (f10.tt (f11.tt (f13.tt G)))))) (.cons (d'.on G) (.cons (tr.u.on (f10.tt (f11.tt (f13.tt G)))) (.cons (e'.on G) (.cons mB .nil)))))))
 have F:=q.tt G;have rp:=Aa c;refine I0 (i:=2) U (u.tt (f.tt F)) (B (λ_=>True) trivial) C af af (λt ht P z tz f19=>aa.ex z.s ⟨_,rfl,?_⟩) (λe he P f19=>aa.ex zv.s ⟨_,rfl,?_⟩)
 .have t':=F.1;exact fin ((F.tt f19).get j id) tz (λy hy e=>af) λg t20 f20=>K t ht g z (t20.mono λy hy=>af) ((f.tt (F.tt f19)).fresh f20 (λy e=>af))
 .exact C4 ((F.tt f19).get j id) λg f20=>k e he g ((f.tt (F.tt f19)).fresh f20 (λy e=>af))
theorem BY(h:mR V ts i=.error e):e≠0:=by
 unfold mR at h;split at h
 .split at h
  .split at h
   .split at h
    .rename_i a;cases h;unfold sumOf at a;split at a
     .cases a
     .cases a;decide
    .split at h
     .cases h
     .cases h;decide
   .split at h
    .cases h
    .cases h;decide
  .cases h;decide
 .cases h;decide
theorem KF(h:mS V p=.error e):e≠0:=by
 unfold mS at h;split at h
 .exact BY h
 .cases h;decide
theorem Nj(p:Prim)(w:p.wf)(U:mE V H)(u:Fr No H h)(hk: ∀h' z q,(∀t,mS V p=.ok t->q=0/\EY h' t z)->(∀e,mS V p=.error e->q≠0)->Fr No h h'->R (.tuple #[z.s.agg,.I q]) h'):Cl 177 #[p.s.agg] h R:=
 Ni p w U u (λt b h' z T f=>hk h' z 0 (λc e=>by rw[b]at e;cases e;exact⟨rfl,T.u⟩) (λe a=>by rw[b]at a;cases a) f) (λe a h' f=>hk h' zv e (λt b=>by rw[a]at b;cases b) (λ_ _=>KF a) f)
theorem Nk{x:CV}(U:mE V H)(u:Fr No H h)(mx:mD.Mx h)(tx:EY h t x)(hr:room t<=400000)(k1: ∀p,wW V t=.ok p->p.wf->gU h R (.tuple #[p.s.agg,.I 0]))(k2: ∀e,wW V t=.error e->e≠0->gU h R (.tuple #[Prim.zero.s.agg,.I e])):Cl 194 #[x.agg] h R:=by
 have rl:=nz (t:=t);refine C1.walk (x:=x.s) (aa.db λb E eb hb f1=>aB.db λb1 O Su a' f2=>aa.fR (f2.get hb id) ?_);have v:=f1.tt f2;have E':=f2.get hb id;have zb:=aC hb;have St:=aC a';have z1:=f1.1;have z2:=f2.1;have no: ∀g e,Fr No O g->wW V t=.error e->e≠0->aB.dv g (AA b1 0) .z λG=>aB.cO G (AA b1 0) λr=>R (.tuple #[r.agg,.I e]) G:=λg e F K P=>
  Sd .zero (F.get a' id) λG f=>k2 e K P G ((v.tt F).fresh f (λy e=>af))
 have l:wW V t=wW V t:=rfl;conv at l=>rhs;unfold wW
 refine mU (i:=2) U (u.tt v) (tx.on v) af af (λj m ru A p zs c L TS f3=>⟨_,_,_,_,rfl,?_⟩) (λe K P A f3=>⟨_,_,_,_,rfl,?_⟩)
 case refine_2=>
  rw[ag (cy P)];exact no A e f3 (by rw[l,K]) P
 rw[dj];rw[m]at l;dsimp only at l;have ln:=TS.len;have l9:=gB j;by_cases l8:j.length=8
 case neg=>
  rw[ag (by simp only[dX,ft];omega)];exact no A 3 f3 (by rw[l,ae l8]) dH
 rw[ae (by simp only[dX,ft];omega)];rw[ag l8]at l;have z3:=f3.1;have it: ∀i,i<8->∃(a:Addr)(y:CV),p=some a/\dI (a.add (i*4)) y.s.l 0 A/\EY A (at_ j i) y/\(∀{g},Fr No A g->aX g ((a.add (i*4)).add 1)=some (.U ((at_ j i).n:Int))):=λi hi=>by
  obtain⟨a,y,ea,hh,ty,_⟩:=elem L TS (i:=i) af;obtain⟨_,yn,_⟩:=gE.kn ty;exact⟨a,y,ea,hh,ty.u,λF=>F.cell (by have:=hh.2.1;rw[<-yn];exact this) id⟩
 have Y: ∀i,i<8->room (at_ j i)<=dw j:=λi hi=>jK af
 obtain⟨a3,y3,q',P',Z',_⟩:=it 3 af;have r3:=Y 3 af;have r5:=Y 5 af;have r4:=Y 4 af;have r6:=Y 6 af;have u2:=u.tt v;have m2:=mx.on v;refine⟨af,cb.2 ⟨a3,q',aa.mA (x:=y3.s) P' (C8 U (u2.tt f3) (m2.on f3) Z' af λd qd ⟨N',O',wd⟩ h6 f6=>aw.ex d.s ⟨_,rfl,aw.gh (x:=d.s) λb2 h8 UR F' f8=> ?_⟩)⟩⟩;obtain⟨a5,y5,s',R',Vn,_⟩:=it 5 af;have B:=f6.tt f8;refine⟨af,cb.2 ⟨a5,s',aa.mA (x:=y5.s) (kG B id R') (C8 U (u2.tt (f3.tt B)) (m2.on (f3.tt B)) (Vn.on B) af λr qr ⟨V',W',wr⟩ h9 f9=>aw.ex r.s ⟨_,rfl,aw.gh (x:=r.s) λb3 e' V9 H' f11=>aG.of λg' hJ=> ?_⟩)⟩⟩;obtain⟨a4,y4,r',Q',Vo,_⟩:=it 4 af;obtain⟨a6,y6,t',S',Vq,_⟩:=it 6 af;have o:=B.tt (f9.tt f11);have G':=(f9.tt f11).get F' id;have Z:=u2.tt (f3.tt o);have S:=m2.on (f3.tt o);have rest: ∀g s (X:iN) (q:Int),ah.fV g s X.s->Fr No e' g->IQ V (rC [at_ j 4,at_ j 6]) X q->g' (Sa s 0) q g:=by
  intro g s X q Q F ⟨T',U',wq⟩;have C:=o.tt F;obtain⟨k',w1,u',_,_,n'⟩:=it 1 af;obtain⟨l',w2,v',_,_,o'⟩:=it 2 af;obtain⟨m',w7,w',_,_,p'⟩:=it 7 af;subst hJ;dsimp only;refine⟨af,cb.2 ⟨k',u',_,n' C,af,cb.2 ⟨l',v',_,o' C,aw.fR (F.get G' id) (aw.fR (F.get H' id) (ay.2 (ah.fR Q ⟨af,cb.2 ⟨m',w',_,p' C,?_⟩⟩)))⟩⟩⟩;have n2:(at_ j 2).n<=2:=by
   have:0<=typeAt j 2:=by
    unfold oZ at m;split at m
    .rename_i E;have key: ∀k,2<k->typeAt (t.l.take k) 2=typeAt t.l 2:=λk hk=>by
      unfold typeAt at_;rw[aZ,aZ,cS,ag hk,bE];exact ite_congr (propext (by constructor<;>(rintro⟨a,b⟩;exact⟨af,b⟩))) (λ_=>rfl) (λ_=>rfl)
     split at m
     .cases m;exact E.2.2
     .split at m
      .rename_i O;split at m
       .cases m
       .split at m
        .cases m;rw[key _ O.1];exact E.2.2
        .cases m
      .cases m
    .cases m
   unfold typeAt at this;split at this
   .rename_i E;exact E.2.1
   .omega
  refine aB.db λb4 Wa Vr I' f13=>⟨f13.kp,?_⟩
  rw[bA (n:=(((at_ j 2).n:Nat):Int)) af af];refine aB.hM (x:=(vw j d r X).s) I' λx' d14 f14 _=>aB.fR d14 ?_
  have zg:=C.1;have b':Fr No O x':=(f3.tt (C.tt f13)).fresh f14 (λy e=>af);refine Nj (vw j d r X) ⟨wd,wr,wq⟩ U (u2.tt b') λWb z qz X' Y' f15=>aa.ex z.s ⟨_,rfl,aa.gh (x:=z.s) λb5 I Wc J' f17=>aG.of λJ1 f'=> ?_⟩
  have c':=f15.tt f17;have D:=b'.tt c';have bad: ∀g,Fr No I g->wW V t=.error 3->J1 true g:=λg F K=>by
   subst f';try dsimp only
   rw[ag rfl];exact no g 3 (D.tt F) K dH
  by_cases c1:qd=0
  case neg=>rw[ag (cy c1)];exact bad I (Fr.refl _ _) (by rw[l,O' c1])
  rw[ae (cy c1)];by_cases M:qr=0
  case neg=>rw[ag (cy M)];exact bad I (Fr.refl _ _) (by rw[l,W' M];cases nQ V (at_ j 3)<;>rfl)
  rw[ae (cy M)];by_cases N:q=0
  case neg=>rw[ag (cy N)];exact bad I (Fr.refl _ _) (by rw[l,U' N];cases nQ V (at_ j 3)<;>cases nQ V (at_ j 5)<;>rfl)
  rw[ae (cy N)];rw[N' c1,V' M,T' N]at l;dsimp only at l;cases J:mS V (vw j d r X)with
  |error e=>
   rw[J]at l;rw[ag (cy (Y' e J))];exact bad I (Fr.refl _ _) l
  |ok d'=>
   rw[J]at l;dsimp only at l;obtain⟨rfl,T⟩:=X' d' J;rw[dj];have ra:=Ac J;refine aa.fR J' (aa.fR (x:=x.s) (D.get E' id) (iu (x:=z) (y:=x) (T.on f17) (tx.on (v.tt D)) af λy' f21=>⟨_,rfl,?_⟩));cases Q:nC d' t with
   |false=>exact bad y' f21 (by rw[l,ae (by rw[Q];decide)])
   |true=>
    rw[Q,ag rfl]at l;subst f';try dsimp only
    rw[dj];exact aB.fR ((c'.tt f21).get d14 id) (Sd (vw j d r X) ((D.tt f21).get a' id) λG f=>k1 _ l ⟨wd,wr,wq⟩ G ((v.tt (D.tt f21)).fresh f (λy e=>af)))
 have rI:dw [at_ j 4,at_ j 6]<=2*dw j:=by simp only[dw];omega
 have W:room (rC [at_ j 4,at_ j 6])<=900000:=by simp only[room,bm];omega
 refine⟨af,cb.2 ⟨a4,r',aa.mA (x:=y4.s) (kG o id Q') ⟨af,cb.2 ⟨a6,t',aa.mA (x:=y6.s) (kG o id S') ?_⟩⟩⟩⟩;have T2:AS e' [at_ j 4,at_ j 6] [y4,y6]:=two (Vo.on o) (Vq.on o);refine⟨oh (ys:= [y4,y6]) rfl λb6 Wd We L6 f22=>⟨?_,?_,trivial⟩,ah.db λj' Wf Vs D' f34=>⟨f34.kp,oh (ys:= [y4,y6]) rfl λWg Wh Vt i' f35=> ?_⟩,trivial⟩
 .refine jF (L6 (λ_=>True) trivial) (T2.on f22) af λWi z T f23=>aa.ex z.s ⟨rfl,?_,?_,trivial⟩
  .exact C9 U (Z.tt (f22.tt f23)) (S.on (f22.tt f23)) T.u W λX q w Wj f24=>ah.ex X.s ⟨_,rfl,ah.gh (x:=X.s) λb7 z' Wk K' f26=>rest z' b7 X q K' (f22.tt (f23.tt (f24.tt f26))) w⟩
  .refine ah.db λb8 Wl Wm L' f27=>C9 U (Z.tt (f22.tt (f23.tt f27))) (S.on (f22.tt (f23.tt f27))) (T.u.on f27) W λX q w Wn f28=>ah.ex X.s ⟨_,rfl,ah.hM (x:=X.s) (f28.get L' id) λA' d29 f29 _=>rest A' b8 X q d29 ?_ w⟩
   exact(f22.tt (f23.tt (f27.tt f28))).fresh f29 (λy e=>gF f22.1 f23.1)
 .refine ah.db λb9 Wo Wp M' f30=>jF ((L6 (λ_=>True) trivial).frame f30 cu) (T2.on (f22.tt f30)) af λWq z T f31=>aa.ex z.s ⟨rfl,C9 U (Z.tt (f22.tt (f30.tt f31))) (S.on (f22.tt (f30.tt f31))) T.u W λX q w Ws f32=>ah.ex X.s ⟨_,rfl,ah.hM (x:=X.s) ((f31.tt f32).get M' id) λB' d33 f33 _=>rest B' b9 X q d33 ?_ w⟩⟩
  exact(f22.tt (f30.tt (f31.tt f32))).fresh f33 (λy e=>bX f22.1)
 .refine jF (i' (λ_=>True) trivial) (T2.on (f34.tt f35)) af λWt z T f36=>aa.ex z.s ⟨rfl,C9 U (Z.tt (f34.tt (f35.tt f36))) (S.on (f34.tt (f35.tt f36))) T.u W λX q w Wu f37=>ah.ex X.s ⟨_,rfl,ah.hM (x:=X.s) ((f35.tt (f36.tt f37)).get D' id) λC' d38 f38 _=>rest C' j' X q d38 ?_ w⟩⟩
  exact(f34.tt (f35.tt (f36.tt f37))).fresh f38 (λy e=>af)

end Bn
end
section
variable {h:aj} {R:fj}
variable {c L:cg} {d D l e:Nat} {b:aH.S}
theorem Hm.walk(m:aQ h (.cells aa.S.z.arr 262) λb i=>Cl 193 #[.slice c d D,.I 0] i λv j=>aa.EX λt=> ∃o T,v=.tuple #[t.agg,.I o,.I T]/\aQ j (.cells aa.S.z.arr 262) λB k=>aa.dv k (AA B 0) t λH=>aa.cO H (AA B 0) λt13=>if(T==0)then Cl 314 #[.slice c d D] H λV a=> ∃t18,V=.bool t18/\Kp H a [(Sa B 0)]/\aa.dv a (AA b 0) t13 λf=>aa.cO f (AA b 0) λr=>R (.tuple #[r.agg,.bool t18]) f else aa.dv H (AA b 0) t13 λg=>aa.cO g (AA b 0) λn=>R (.tuple #[n.agg,.bool false]) g):Cl 293 #[.slice c d D] h R:=aN (lq (lq (sq (pK 9) lf))) Tryz.func293 m
theorem Ad.walk(r:aQ h (.cells aw.S.z.arr 29) λb m=>Cl 293 #[.slice c d D] m λv n=>aa.EX λt=> ∃T,v=.tuple #[t.agg,.bool T]/\aQ n (.cells aa.S.z.arr 262) λB o=>aa.dv o (AA B 0) t λf=>aa.cO f (AA B 0) λt14=>Cl 245 #[t14.agg] f λV p=>aw.EX λj=> ∃k,V=.tuple #[j.agg,.I k]/\aQ p (.cells aw.S.z.arr 29) λa q=>aw.dv q (AA a 0) j λH=>aw.cO H (AA a 0) λt18=>if T then aw.dv H (AA b 0) t18 λg=>aw.cO g (AA b 0) λs=>R (.tuple #[s.agg,.bool (k==0)]) g else aw.dv H (AA b 0) t18 λi=>aw.cO i (AA b 0) λu=>R (.tuple #[u.agg,.bool false]) i):Cl 252 #[.slice c d D] h R:=aN (lq (lq (lq ll))) Tryz.func252 r
theorem KG.walk(j:Cl 293 #[.slice c d D] h λv g=>aa.EX λt=> ∃T,v=.tuple #[t.agg,.bool T]/\aQ g (.cells aa.S.z.arr 262) λb i=>aa.dv i (AA b 0) t λH=> ∃t12,Cc H b 1 (.U t12)/\if T then aa.cO H (AA b 0) λt15=>Hu H b 1 λt17=>Cl 205 #[.U t17] H λV f=>aa.EX λt18=>V=t18.agg/\Kp H f [(Sa b 0),(Sa b 1)]/\Cl 248 #[t15.agg,t18.agg] f λk a=> ∃t19,k=.bool t19/\Kp f a [(Sa b 1)]/\if t19 then∃t23,Cc a b 1 (.U t23)/\R (.tuple #[.U t12,.bool (decide (t23<=1099511627776))]) a else R (.tuple #[.U t12,.bool false]) a else R (.tuple #[.U t12,.bool false]) H):Cl 253 #[.slice c d D] h R:=aN (lq (lq (sq (pK 17) lf))) Tryz.func253 j
theorem Hn.walk(o:Cl 293 #[.slice c d D] h λv m=>aa.EX λt=> ∃T,v=.tuple #[t.agg,.bool T]/\aQ m (.cells aa.S.z.arr 262) λb n=>aa.dv n (AA b 0) t λf=>aG (λ(t26:Bool) (H:aj)=>if t26 then R (.tuple #[.U 0,.U 0,.bool false]) H else Hl H b 3 λs r y=>Bd 0 r/\aM s λa=>gT H ((a.add (toNat 0*4)).add 1) λt31=>Hl H b 3 λw u z=>Bd 1 u/\aM w λA=>gT H ((A.add (toNat 1*4)).add 1) λt36=>aa.cO H (AA b 0) λt39=>aQ H (.cells #[.U t31,.U t36] 27) λB i=>Kp H i [(Sa b 0)]/\Cl 209 #[.slice (Sa B 0) 2 2] i λV j=>aa.EX λt43=>V=t43.agg/\Kp i j [(Sa b 0)]/\Cl 248 #[t39.agg,t43.agg] j λx g=> ∃t44,x=.bool t44/\if t44 then if(decide (t31≥1))then if(decide (t31<=255))then R (.tuple #[.U t31,.U t36,.bool (decide (t36<=t31))]) g else R (.tuple #[.U t31,.U t36,.bool false]) g else R (.tuple #[.U t31,.U t36,.bool false]) g else R (.tuple #[.U t31,.U t36,.bool false]) g) (λJ=>if(!T)then J true f else∃t18,Cc f b 0 (.I t18)/\if(t18 !=4)then J true f else∃q k p,Cc f b 3 (.slice q k p)/\J (((k:Nat):Int) !=2) f)):Cl 254 #[.slice c d D] h R:=aN (lq (lq (sq (sq (.join [(26,.one (.bool))] lf) (cq ll lf)) (sq (pK 12) (sq (pK 24) lf))))) Tryz.func254 o
theorem AY.walk(u:aQ h (.cells aa.S.z.arr 262) λb o=>Cl 247 #[.Z] o λv p=>aa.EX λt6=>v=t6.agg/\aQ p (.cells aa.S.z.arr 262) λB q=>aa.dv q (AA B 0) t6 λr=> ∃(I:Int->aj->Prop)(m:Int->aj->Nat),I 0 r/\∀(t9:Int)(H:aj),I t9 H->if(decide (t9<(l:Int)))then Bd t9 l/\aM L λa=>gT H (a.add (toNat t9*1)) λt12=>Hl H B 3 λz y x=>Cl 205 #[.U t12] H λV f=>aa.EX λt16=>V=t16.agg/\Kp H f [(Sa B 3)]/\aQ f (.cells t16.arr 262) λn i=>Kp f i [(Sa B 3)]/\aU Tryz.prog (Builtin.append_ #[260,260] 260 #[.slice z y x,.slice (Sa n 0) 1 1]) i λA s=> ∃k T t,A=.slice k T t/\aO s (AA B 3) (.slice k T t) λj=>(I (wrap .i64 (t9+1)) j/\m (wrap .i64 (t9+1)) j<m t9 H)else aa.cO H (AA B 0) λt21=>aa.dv H (AA b 0) t21 λg=>aa.cO g (AA b 0) λw=>R (w.agg) g):Cl 209 #[.slice L l e] h R:=aN (lq (lq (sq (lq (bq (.loop [(9,.one (.int .i64))] (lq (sq (cq lf lf) (sq (bq (lq (pK 8))) lf)))))) ll))) Tryz.func209 u
theorem Dc.walk{kind:Int} (q:aG (λ(ok:Bool) (H:aj)=>if ok then R (.bool (decide ((d:Int)<=200))) H else R (.bool false) H) (λJ=>aG (λ(O:Bool) (i:aj)=>J O i) (λj=>if(kind==6)then Cl 252 #[.slice c d D] h λv k=>aw.EX λu=> ∃t,v=.tuple #[u.agg,.bool t]/\j t k else aG (λ(r:Bool) (m:aj)=>j r m) (λa=>if(kind==7)then Cl 253 #[.slice c d D] h λV n=> ∃w T,V=.tuple #[.U w,.bool T]/\a T n else aG (λ(s:Bool) (o:aj)=>a s o) (λf=>if(kind==10)then Cl 254 #[.slice c d D] h λz p=> ∃x y g,z=.tuple #[.U x,.U y,.bool g]/\f g p else f true h))))):Cl 201 #[.U kind,.slice c d D] h R:=aN (lq (lq (sq (lq (.join [(5,.one (.bool))] (bq (lq (.join [(5,.one (.bool))] (cq lf (lq (.join [(5,.one (.bool))] (cq lf (lq (.join [(5,.one (.bool))] (cq lf lf)))))))))))) ll))) Tryz.func201 q
theorem Dd.walk(a:Cl 250 #[.slice L l e,.func (.func 251) #[] #[]] h λv H=> ∃t4,v=.bool t4/\R (.bool (!t4)) H):Cl 200 #[.slice L l e] h R:=aN (lq ll) Tryz.func200 a
theorem Ae.walk{n:Int}(H:if(decide (n<1))then R (.bool true) h else R (.bool (decide (n>255))) h):Cl 251 #[.U n] h R:=aN (lq ll) Tryz.func251 H
theorem Fi.walk(j:aQ h (.cells b.arr 201) λB a=>Hu a B 0 λt4=>Hu a B 1 λt6=>aQ a (.cells #[.U t4,.U t6] 27) λf g=>Cl 200 #[.slice (Sa f 0) 2 2] g λv H=> ∃t8,v=.bool t8/\if t8 then∃t11,Cc H B 2 (.U t11)/\if((wrap .u64 ((mM t11 &&& ~~~ mM 23).toNat:Int))==0)then∃t17,Cc H B 3 (.I t17)/\if(decide (t17≥0))then∃t22,Cc H B 3 (.I t22)/\if(decide (t22<=2))then Hu H B 0 λt27=>Hl H B 4 λk T t=>Cl 201 #[.U t27,.slice k T t] H λV i=> ∃t30,V=.bool t30/\R (.bool t30) i else R (.bool false) H else R (.bool false) H else R (.bool false) H else R (.bool false) H):Cl 175 #[b.agg] h R:=aN (lq ll) Tryz.func175 j
theorem Fj.walk(C:aQ h (.cells b.arr 201) λB u=>aQ u (.cells aa.S.z.arr 262) λa g=>aH.cO g (AA B 0) λt5=>Cl 175 #[t5.agg] g λv H=> ∃t6,v=.bool t6/\if(!t6)then aa.dv H (AA a 0) aa.S.z λi=>aa.cO i (AA a 0) λE=>R (.tuple #[E.agg,.I 3]) i else∃t10,Cc H B 0 (.U t10)/\∃t12,Cc H B 1 (.U t12)/\∃t14,Cc H B 2 (.U t14)/\∃t16,Cc H B 3 (.I t16)/\aQ H (.cells #[.U t10,.U t12,.U t14,.U (wrap .u64 t16)] 27) λr x=>Cl 209 #[.slice (Sa r 0) 4 4] x λV j=>aa.EX λt19=>V=t19.agg/\∃k T t,Cc j B 4 (.slice k T t)/\Cl 210 #[.slice k T t] j λG y=>aa.EX λt24=>G=t24.agg/\aQ y (.cells t24.arr 262) λs z=>aU Tryz.prog (Builtin.append_ #[260,260] 260 #[.slice t19.vt t19.pq t19.tf,.slice (Sa s 0) 1 1]) z λI A=> ∃o n m,I=.slice o n m/\Cl 206 #[.slice o n m,.I 3] A λJ w=>aa.EX λp=> ∃q,J=.tuple #[p.agg,.I q]/\aa.dv w (AA a 0) p λf=>aa.cO f (AA a 0) λF=>R (.tuple #[F.agg,.I q]) f):Cl 179 #[b.agg] h R:=aN (lq (sq (lq (cq ll lf)) (lq ll))) Tryz.func179 C
theorem Ho.walk{x:aa.S} (hv:aQ h (.cells x.arr 262) λb d'=>aQ d' (.cells aH.S.z.arr 201) λB I=>aa.cO I (AA b 0) λt10=>Cl 244 #[t10.agg,.I 3] I λv k=> ∃T t m' p,v=.tuple #[.slice T t m',.I p]/\if(p !=0)then aH.dv k (AA B 0) aH.S.z λK=>aH.cO K (AA B 0) λr0=>R (.tuple #[r0.agg,.I p]) K else aG (λ(t19:Bool) (H:aj)=>if t19 then aH.dv H (AA B 0) aH.S.z λM=>aH.cO M (AA B 0) λj'=>R (.tuple #[j'.agg,.I 3]) M else aG (λ(u:cg) (N:aj)=>aM u λa=>aH.cO N a λt55=>Cl 179 #[t55.agg] N λn' h'=>aa.EX λZ=> ∃a',n'=.tuple #[Z.agg,.I a']/\aQ h' (.cells aa.S.z.arr 262) λw i'=>aa.dv i' (AA w 0) Z λj=>aG (λ(t66:Bool) (m:aj)=>if t66 then aH.dv m (AA B 0) aH.S.z λC=>aH.cO C (AA B 0) λk'=>R (.tuple #[k'.agg,.I 3]) C else aM u λb'=>aH.cO m b' λt68=>aH.dv m (AA B 0) t68 λE=>aH.cO E (AA B 0) λl'=>R (.tuple #[l'.agg,.I 0]) E) (λr=>if(a' !=0)then r true j else aa.cO j (AA w 0) λt62=>aa.cO j (AA b 0) λt63=>Cl 248 #[t62.agg,t63.agg] j λo' e'=> ∃t64,o'=.bool t64/\r (!t64) e')) (λq=>Bd 0 t/\aM T λA=>gT H ((A.add (toNat 0*4)).add 1) λt34=>Bd 1 t/\aM T λf=>gT H ((f.add (toNat 1*4)).add 1) λt38=>Bd 2 t/\aM T λg=>gT H ((g.add (toNat 2*4)).add 1) λt42=>Bd 3 t/\aM T λi=>gT H ((i.add (toNat 3*4)).add 1) λt46=>Bd 4 t/\aM T λs=>te H ((s.add (toNat 4*4)).add 2) λQ P O=>(Cl 50 #[.slice Q P O] H λp' n=> ∃X V S,p'=.slice X V S/\Kp H n [(some ((i.add (toNat 3*4)).add 1)),(some ((g.add (toNat 2*4)).add 1)),(some ((f.add (toNat 1*4)).add 1)),(some ((A.add (toNat 0*4)).add 1))]/\aQ n (.cells aH.S.z.arr 201) λy F=>Kp n F [(some ((i.add (toNat 3*4)).add 1)),(some ((g.add (toNat 2*4)).add 1)),(some ((f.add (toNat 1*4)).add 1)),(some ((A.add (toNat 0*4)).add 1))]/\aH.dv F (AA y 0) ⟨t34,t38,t42,(wrap .i64 t46),X,V,S⟩ λf'=>q (Sa y 0) f')/\(aQ H (.cells aH.S.z.arr 201) λz o=>Kp H o [(some ((s.add (toNat 4*4)).add 2)),(some ((i.add (toNat 3*4)).add 1)),(some ((g.add (toNat 2*4)).add 1)),(some ((f.add (toNat 1*4)).add 1)),(some ((A.add (toNat 0*4)).add 1))]/\Cl 50 #[.slice Q P O] o λq' G=> ∃Y W U,q'=.slice Y W U/\Kp o G [(some ((i.add (toNat 3*4)).add 1)),(some ((g.add (toNat 2*4)).add 1)),(some ((f.add (toNat 1*4)).add 1)),(some ((A.add (toNat 0*4)).add 1))]/\aH.dv G (AA z 0) ⟨t34,t38,t42,(wrap .i64 t46),Y,W,U⟩ λg'=>q (Sa z 0) g')/\True)) (λJ=>if(((t:Nat):Int) !=5)then J true k else Bd 4 t/\aM T λc'=> ∃t27,aX k (c'.add (toNat 4*4))=some (.I t27)/\J (t27 !=2) k)):Cl 195 #[x.agg] h R:=aN (lq (lq (sq (bq (lq (cq ll (sq (.join [(19,.one (.bool))] lf) (cq ll lf))))) (sq (.join [(6,.one (.ptr))] (.jP (fJ 21 0 (.alts (.fork 21 (fJ 3 22 .done) (.fork 23 (.op 21 (.op 22 (.op 24 .done))) .gG)))))) (sq (lq (sq (.join [(66,.one (.bool))] lf) (cq ll lf))) ll))))) Tryz.func195 hv

end
section
namespace Bn
open Cb
open iT (Ev cN kj)
variable {V:cH→Bool} {h H h':aj} {R:fj} {D:Nat→Prop}
variable {p:cg} {l c n:Nat} {bs:cH}
theorem sX(bs:cH):room (eJ V bs)<=10*bs.length+9:=by
 unfold eJ;split
 .rename_i h;have:=(yE h).1;omega
 .simp[HV,room,dw]
theorem Af(U:mE V H)(u:Fr No H h)(row:Row h p (bc bs))(i:l=bs.length)(cap:bs.length<=c)(w:bs.length<=80000)(hk: ∀h' z,EY h' (eJ V bs) z->Fr No h h'->R (.tuple #[z.s.agg,.bool (jv V bs)]) h'):Cl 293 #[.slice p l c] h R:=by
 refine Hm.walk (aa.db λb s r d f1=>zM (U.mono (u.tt f1)) (row.frame f1 cu) i cap af (λk t x N o T f2=>aa.ex x.s ⟨_,_,rfl,aa.gh (x:=x.s) λb1 m j f f4=>aa.fR f ?_⟩) (λk e g f2=>aa.ex zv.s ⟨_,_,rfl,aa.gh (x:=zv.s) λb1 m j f f4=>aa.fR f ?_⟩))
 .have F:=f1.tt (f2.tt f4);have E:eJ V bs=t:=by unfold eJ;rw[o]
  rw[E]at hk;rw[fY];refine ER (U.mono (u.tt F)) (row.frame F cu) i cap af λv f5=>⟨_,rfl,f5.kp,aa.hM (x:=x.s) ((f2.tt (f4.tt f5)).get d id) λa d6 f6 _=>aa.fR d6 (hk a x ?_ ((F.tt f5).fresh f6 (λy e=>af)))⟩
  have Z:=aC d;exact((T.on f4).on f5).frame f6 (λy A e=>af)|>.u
 .have F:=f1.tt (f2.tt f4);have E:eJ V bs=HV:=by unfold eJ;rw[g]
  have es:jv V bs=false:=by unfold jv;rw[g]
  rw[E,es]at hk;rw[ae (λq=>qW g (eq_of_beq q))];exact aa.hM (x:=zv.s) ((f2.tt f4).get d id) λa d6 f6 _=>aa.fR d6 (hk a zv (mB (n:=0)) (F.fresh f6 (λy e=>af)))
theorem Fk(U:mE V H)(u:Fr No H h)(mx:mD.Mx h)(row:Row h p (bc bs))(j:l=bs.length)(cap:bs.length<=c)(k:bs.length<=80000)(hk: ∀h' (e:Ev),Fr No h h'->R (.tuple #[e.s.agg,.bool (jv V bs && (nQ V (eJ V bs)).isSome)]) h'):Cl 252 #[.slice p l c] h R:=by
 have C:=sX (V:=V) bs;refine Ad.walk (aw.db λb r E d f1=>Af U (u.tt f1) (row.frame f1 cu) j cap k λs z t f2=>aa.ex z.s ⟨_,rfl,aa.gh (x:=z.s) λb1 v m g f4=>aa.fR g (C8 U (u.tt (f1.tt (f2.tt f4))) (mx.on (f1.tt (f2.tt f4))) (t.on f4) af λe q ⟨Q,q1,_⟩ w f5=>aw.ex e.s ⟨_,rfl,aw.gh (x:=e.s) λB A o i f7=>aw.fR i ?_⟩)⟩);have F:=f2.tt (f4.tt (f5.tt f7));cases f:jv V bs with
 |false=>
  rw[f]at hk;rw[dj];exact Hc (x:=e) (F.get d id) λa f8=>hk a e ((f1.tt F).fresh f8 (λy e=>af))
 |true=>
  rw[f]at hk;rw[ag rfl];refine Hc (x:=e) (F.get d id) λa f8=> ?_
  have:=hk a e ((f1.tt F).fresh f8 (λy e=>af));have eq:(true && (nQ V (eJ V bs)).isSome)=(q==0):=by
   by_cases c0:q=0
   .rw[Q c0,c0];rfl
   .rw[q1 c0,dC.2 c0];rfl
  rw[eq]at this;exact this
theorem QH(U:mE V H)(u:Fr No H h)(row:Row h p (bc bs))(i:l=bs.length)(cap:bs.length<=c)(j:bs.length<=80000)(hk: gU h R (.tuple #[.U ((eJ V bs).n:Int),.bool (P6 V bs)])):Cl 253 #[.slice p l c] h R:=by
 have r:=sX (V:=V) bs;refine KG.walk (Af U u row i cap j λk z t f2=>aa.ex z.s ⟨_,rfl,aa.gh (x:=z.s) λb1 f E a f4=> ?_⟩);unfold P6 at hk;obtain⟨_,Z,_⟩:=gE.kn t;rw[<-Z]at hk;refine⟨_,ak a,?_⟩;cases e:jv V bs with
 |false=>
  rw[e]at hk;rw[dj];exact hk f (f2.tt f4)
 |true=>
  rw[e]at hk;rw[ag rfl];refine aa.fR a ⟨_,ak a,fN λg f5=>aa.ex (nv z.n).s ⟨rfl,f5.kp,iu (x:=z) (y:=nv z.n) (s:=num z.n) ((t.on f4).on f5) (mB (h:=g) (n:=z.n)) af λb f6=>⟨_,rfl,f6.kp,?_⟩⟩⟩;have F:=f2.tt (f4.tt (f5.tt f6));cases d:nC (eJ V bs) (num z.n)with
  |false=>
   rw[d]at hk;rw[dj];exact hk b F
  |true=>
   rw[d]at hk;rw[ag rfl];refine⟨_,ak ((f5.tt f6).get a id),?_⟩;rw[show decide ((z.n:Int)<=1099511627776)=decide (z.n<=1099511627776)from k7 z.n 1099511627776];exact hk b F
abbrev nu(l:List Nat):List Value:=l.map λ(n:Nat)=> .int .u64 (n:Int)
theorem Fl{l:List Nat}(row:Row h p (nu l))(X:n=l.length)(hl:l.length<=100000)(hk: ∀h' z,rZ h' (λy=>h.size<=y) (Ea l) z->Fr No h h'->R z.s.agg h'):Cl 209 #[.slice p n c] h R:=by
 subst X;refine AY.walk (aa.db λb f eb s f1=>jF (ts:= []) (ys:= []) (D:=λ_=>True) ⟨rfl,.inl rfl,λe=>absurd rfl e,bk _⟩ .nil (by simp[dw]) λS z T f2=>aa.ex z.s ⟨rfl,aa.gh (x:=z.s) λb1 U c' u f4=> ?_⟩);have zb:=aC s;have z1:=f1.1;have z2:=f2.1;have z4:=f4.1;have e':=aC u;have F4:=f1.tt (f2.tt f4);have a':rZ U (λy=>f.size<=y/\y≠b1) (rC []) z:=by
  obtain⟨⟨C,I,J,K⟩,zs,M,A,N,O⟩:=T;refine⟨⟨C,I,J,((EI K).mono λy d=>af).frame f4 cu⟩,zs,M,A.frame f4 cu,λy d=>⟨N y d,bX (A.dV d)⟩,(dc.mono (λy d=>by have f:=d.1.1;have S:=d.2;exact⟨⟨f,af⟩,d.1.2⟩) O.lt).on f4⟩
 obtain⟨zs,ez,m⟩:=Nd (g0:=f) a' u ((f2.tt f4).mono λ_ _=>False.elim);have o:z.k=4:=T.1.1;have r:z.n=0:=T.1.2.1;have E:z.v.b= []:=T.1.2.2.1;refine⟨λt g=> ∃(i:Nat)(ys:List CV)(q:cg)(cl:Nat),t=(i:Int)/\i<=l.length/\ys.length=i/\Lc f g b1 z.k z.n z.v ((l.take i).map num) ys q cl,λt _=>l.length - t.toNat,⟨0,zs,z.q,z.cl,rfl,bL _,?_,by rw[eh];exact m⟩,?_⟩
 .have:=m.tr.len;exact this.symm
 rintro _ g ⟨i,ys,q,cl,rfl,hi,d,L⟩;by_cases k:i<l.length
 case neg=>
  rw[ae (λe=>k (bX (aP e)))];rw[bB af]at L;have Y:z.v.ok g (λy=>f.size<=y/\y≠b1):=⟨by rw[E];exact Row.nil,λe=>absurd E e,T.1.2.2.2.cap⟩;have w:=Nf (k':=z.n) L Y;rw[o,r,E]at w;refine aa.fR (x:=CV.s ⟨z.k,z.n,z.v,q,ys.length,cl⟩) L.cQ (fin (z:=⟨z.k,z.n,z.v,q,ys.length,cl⟩) (t:=Ea l) (D:=λy=>f.size<=y/\y≠b1) (L.fr.get s af) (by rw[o,r];exact w) (λy d e=>af) λG tg Q=>hk G _ (tg.mono λy d=>af) ((f1.fresh L.fr (λy e=>af)).fresh Q (λy e=>af)))
 rw[fY];have F:Fr No h g:=f1.fresh L.fr (λy e=>af);obtain⟨a,rfl⟩:=row.some (by intro e;have:=bT List.length e;rw[aF,bm]at this;omega);have W:aX g (a.add (i*1))=some (.U ((l[i]:Nat):Int)):=by
  have:=(row.frame F cu).cell (j:=i) (v:=.U ((l[i]:Nat):Int)) (by rw[aI,ai k];rfl);rw[cv];exact this
 refine⟨af,cb.2 ⟨a,rfl,_,W,_,_,_,ak L.cQ,fN λh6 f6=>aa.ex (nv l[i]).s ⟨rfl,f6.kp,?_⟩⟩⟩;refine Ng (L.on f6) af (Qr (n:=l[i])).Q3 λG b' Z P B d' _ _=> ?_
 rw[bA (n:=(i:Int)+1) af af];refine⟨⟨i+1,b',Z,P,af,af,af,?_⟩,by show l.length - Int.toNat ((i:Int)+1)<l.length - Int.toNat (i:Int);omega⟩;rw[bD,ai k,aW];exact B
theorem Hq{l:List Nat}{n:Nat}{K:Nat->aj->Prop}{c:Array Value}(a:c=(nu l).toArray)(hk: ∀b h',Row h' (Sa b 0) (nu l)->Fr No h h'->K b h'):aQ h (.cells c 27) K:=by
 refine cG (hk _ _ (by rw[a];exact jl) (Fr.push _ _))
theorem O3(U:mE V H)(u:Fr No H h)(row:Row h p (bc bs))(K:l=bs.length)(cap:bs.length<=c)(M:bs.length<=80000)(hk: ∀h' (a b:Nat),Fr No h h'->R (.tuple #[.U (a:Int),.U (b:Int),.bool (LR V bs)]) h'):Cl 254 #[.slice p l c] h R:=by
 have ri:=sX (V:=V) bs;have rl:=nz (t:=eJ V bs);refine Hn.walk (Af U u row K cap M λh2 z o f2=>aa.ex z.s ⟨_,rfl,aa.gh (x:=z.s) λb1 f a' d f4=>aG.of λJ g=> ?_⟩);have F:=f2.tt f4;unfold LR at hk;have no: ¬(jv V bs=true/\(eJ V bs).k=4/\(eJ V bs).l.length=2)->J true f:=λN=>by
  subst g;dsimp only;rw[ag rfl];have:=hk f 0 0 F;rw[show(jv V bs && decide ((eJ V bs).k=4/\(eJ V bs).l.length=2) && nC (eJ V bs) (Ea [ni (eJ V bs),yN (eJ V bs)]) && decide (1<=ni (eJ V bs)/\ni (eJ V bs)<=255/\yN (eJ V bs)<=ni (eJ V bs)))=false by
   by_cases a:jv V bs=true
   .rw[az (λe=>N ⟨a,e⟩)];simp
   .simp[a]]at this
  exact this
 obtain⟨Z,zn,zb,Y,b',ys,L,T⟩:=gE.kn (o.on f4);cases m:jv V bs with
 |false=>rw[fY];exact no (λe=>by rw[m]at e;cases e.1)
 |true=>
 rw[dj];refine⟨_,ak d,?_⟩;rw[show z.s.f0=(eJ V bs).k from Z];by_cases k:(eJ V bs).k=4
 case neg=>rw[ag (cy k)];exact no (λe=>k e.2.1)
 rw[ae (cy k)];refine⟨_,_,_,ak d,?_⟩;have S:z.s.pq=(eJ V bs).l.length:=Y;rw[S];by_cases l2:(eJ V bs).l.length=2
 case neg=>rw[show((((eJ V bs).l.length:Nat):Int) !=2)=true by simp only[dX,ft];omega];exact no (λe=>l2 e.2.2)
 rw[show((((eJ V bs).l.length:Nat):Int) !=2)=false by simp only[gp];omega];clear no;rw[m,au ⟨k,l2⟩]at hk;subst g;dsimp only;rw[dj];obtain⟨a0,y0,E,G,W,_⟩:=elem L T (i:=0) af;obtain⟨A,y1,r,I,X,_⟩:=elem L T (i:=1) af;have O:=(gE.kn W).2.1;have n1:=(gE.kn X).2.1;have v:aX f ((a0.add (0*4)).add 1)=some (.U ((ni (eJ V bs):Nat):Int)):=by have:=G.2.1;unfold ni;rw[<-O];exact this
 have B:aX f ((A.add (1*4)).add 1)=some (.U ((yN (eJ V bs):Nat):Int)):=by have:=I.2.1;unfold yN;rw[<-n1];exact this
 refine⟨_,_,_,ak d,af,cb.2 ⟨a0,E,_,v,_,_,_,ak d,af,cb.2 ⟨A,r,_,B,aa.fR d ?_⟩⟩⟩;refine Hq (l:= [ni (eJ V bs),yN (eJ V bs)]) (n:=2) rfl λb2 h5 P f5=>⟨f5.kp,Fl P rfl (by show 2<=_;omega) λh6 w Q f6=>aa.ex w.s ⟨rfl,f6.kp,iu (x:=z) (y:=w) ((o.on f4).on (f5.tt f6)) Q.u af λs f7=>⟨_,rfl,?_⟩⟩⟩
 have q:=F.tt (f5.tt (f6.tt f7));have fin:=hk s (ni (eJ V bs)) (yN (eJ V bs)) q;cases j:nC (eJ V bs) (Ea [ni (eJ V bs),yN (eJ V bs)])with
 |false=>rw[j]at fin;rw[dj];exact fin
 |true=>
 rw[j]at fin;rw[ag rfl];change if(decide (((ni (eJ V bs):Nat):Int)≥1))=true then(if(decide (((ni (eJ V bs):Nat):Int)<=255))=true then _ else _)else _
 by_cases c1:1<=ni (eJ V bs)
 case neg=>rw[az (λe=>c1 e.1)]at fin;rw[dj];exact fin
 rw[fY];by_cases C:ni (eJ V bs)<=255
 case neg=>rw[az (λe=>C e.2.1)]at fin;rw[dj];exact fin
 rw[fY];have:decide (1<=ni (eJ V bs)/\ni (eJ V bs)<=255/\yN (eJ V bs)<=ni (eJ V bs))=decide (((yN (eJ V bs):Nat):Int)<=((ni (eJ V bs):Nat):Int)):=by
  rw[k7];exact decide_eq_decide.2 ⟨λe=>e.2.2,λe=>⟨c1,C,e⟩⟩
 rw[this]at fin;exact fin
theorem KH{ty:Nat}(U:mE V H)(u:Fr No H h)(mx:mD.Mx h)(row:Row h p (bc bs))(s:l=bs.length)(cap:bs.length<=c)(j:bs.length<=80000)(hk: gU h R (.bool (yO V ty bs))):Cl 201 #[.U (ty:Int),.slice p l c] h R:=by
 subst s;refine Dc.walk (aG.of λJ r=>aG.of λt f=> ?_);unfold yO at hk;have fin: ∀q g,Fr No h g->(yO V ty bs=(q && decide (bs.length<=200)))->J q g:=λq g F e=>by
  subst r;have:=hk g F;unfold yO at e;rw[e]at this;rw[show decide ((bs.length:Int)<=200)=decide (bs.length<=200)from k7 bs.length 200];cases q with
  |false=>exact this
  |true=>exact this
 by_cases k:ty=6
 .subst k;rw[fY];refine Fk U u mx row rfl cap j λd e f1=>aw.ex e.s ⟨_,rfl,?_⟩
  subst f;exact fin _ d f1 rfl
 rw[ae (by simp only[da];omega)];refine aG.of λv i=> ?_
 by_cases m:ty=7
 .subst m;rw[fY];refine QH U u row rfl cap j λd f1=>⟨_,_,rfl,?_⟩
  subst i f;exact fin _ d f1 rfl
 rw[ae (by simp only[da];omega)];refine aG.of λw o=> ?_
 by_cases C:ty=10
 .subst C;rw[fY];refine O3 U u row rfl cap j λd a b f1=>⟨_,_,_,rfl,?_⟩
  subst o i f;exact fin _ d f1 rfl
 rw[ae (by simp only[da];omega)];subst o i f;exact fin true h (Fr.refl _ _) (by unfold yO;rw[ae k,ae m,ae C])
theorem wx{p:cg}{n c:Nat}{l:List Nat}(row:Row h p (nu l))(o:n=l.length)(s:l.length<=100000)(hk:R (.bool (l.all lg)) h):Cl 200 #[.slice p n c] h R:=by
 subst o;refine Dd.walk (jG.within.walk (kh.within.walk ?_));refine⟨λt g=> ∃i:Nat,t=(i:Int)/\i<=l.length/\g=h/\(l.take i).all lg=true,λt _=>l.length - t.toNat,⟨0,rfl,bL _,rfl,by rw[eh];rfl⟩,?_⟩;rintro _ g ⟨i,rfl,r,rfl,f⟩;by_cases d:i<l.length
 .rw[fY];obtain⟨a,rfl⟩:=row.some (by intro e;have:=bT List.length e;rw[aF,bm]at this;omega);have m:aX g (a.add (i*1))=some (.U ((l[i]:Nat):Int)):=by
   have:=row.cell (j:=i) (v:=.U ((l[i]:Nat):Int)) (by rw[aI,ai d];rfl);rw[cv];exact this
  have key: ∀q,q=(!lg l[i])->(if q=true then∃t7,Value.I (i:Int)=.I t7/\∃t4,Value.bool (decide (t7≥0))=.bool t4/\R (.bool (!t4)) g else((∃k:Nat,IntKind.wrap .i64 ((i:Int)+1)=(k:Int)/\k<=l.length/\g=g/\(l.take k).all lg=true)/\l.length - (IntKind.wrap .i64 ((i:Int)+1)).toNat<l.length - (i:Int).toNat)):=by
   rintro q rfl;cases e:lg l[i]with
   |false=>
    rw[fY];refine⟨_,rfl,_,rfl,?_⟩;rw[au af];have:l.all lg=false:=List.all_eq_false.2 ⟨l[i],dQ d,by rw[e];decide⟩;rw[this]at hk;exact hk
   |true=>
    rw[dj,bA (n:=(i:Int)+1) af af];refine⟨⟨i+1,af,af,rfl,?_⟩,af⟩;rw[bD,ai d,List.all_append,f];simp[e]
  refine⟨af,cb.2 ⟨a,rfl,_,m,Ae.walk ?_⟩⟩;have eq:lg l[i]=(decide (1<=l[i]) && decide (l[i]<=255)):=by unfold lg;by_cases a:1<=l[i]<;>by_cases b:l[i]<=255<;>simp[a,b]
  by_cases c1:l[i]<1
  .rw[fY];refine⟨_,rfl,key true ?_⟩;rw[eq,az (show¬1<=l[i] by omega)];rfl
  .rw[dj];refine⟨_,rfl,key _ ?_⟩;rw[eq,au (show 1<=l[i] by omega)];by_cases C:l[i]<=255
   .rw[au C,az (show¬((l[i]:Nat):Int)>255 by omega)];rfl
   .rw[az C,au (show((l[i]:Nat):Int)>255 by omega)];rfl
 .rw[ae (λe=>d (bX (aP e)))];rw[bB af]at f;rw[f]at hk;exact⟨_,rfl,_,rfl,hk⟩
abbrev rE.s(b:rE)(p:cg)(c:Nat):aH.S:=⟨b.ty,b.nr,b.fl,b.sum,p,b.data.length,c⟩
theorem BZ(b:rE)(U:mE V H)(u:Fr No H h)(mx:mD.Mx h)(row:Row h p (bc b.data))(cap:b.data.length<=c)(m:b.data.length<=80000)(hk: gU h R (.bool (jM V b))):Cl 175 #[(b.s p c).agg] h R:=by
 refine Fi.walk (aH.db λbb o E i f1=>⟨_,ak i,_,ak i,Hq (l:= [b.ty,b.nr]) (n:=2) rfl λB f r2 f2=>wx r2 rfl (by show 2<=_;omega) ⟨_,rfl,?_⟩⟩);have F:=f1.tt f2;have a:=f2.get i id;have no: ∀g,Fr No h g->jM V b=false->R (.bool false) g:=λg j e=>by have:=hk g j;rw[e]at this;exact this
 have e1: [b.ty,b.nr].all lg=(lg b.ty && lg b.nr):=bO
 rw[e1];cases c0:(lg b.ty && lg b.nr)with
 |false=>rw[dj];exact no f F (by unfold jM;rw[c0];rfl)
 |true=>
 rw[ag rfl];refine⟨_,ak a,?_⟩;change if QY (b.fl:Int) 23=true then _ else _
 by_cases c1:QY (b.fl:Int) 23=true
 case neg=>rw[ae c1];exact no f F (by unfold jM;simp[c1])
 rw[ag c1];refine⟨_,ak a,?_⟩;by_cases C:0<=b.sum
 case neg=>rw[ae (by simp only[aY];exact C)];exact no f F (by unfold jM;simp[C])
 rw[ag (au C)];refine⟨_,ak a,?_⟩;by_cases d:b.sum<=2
 case neg=>rw[ae (by simp only[aY];exact d)];exact no f F (by unfold jM;simp[d])
 rw[ag (au d)];refine⟨_,ak a,_,_,_,ak a,KH U (u.tt F) (mx.on F) (row.frame F cu) rfl cap m λk f3=>⟨_,rfl,?_⟩⟩;have:=hk k (F.tt f3);unfold jM at this;rw[c0,c1,au C,au d]at this;exact this

end Bn
end
end Go.Proofs.YtlenamcfacpheaaGreatDoor
