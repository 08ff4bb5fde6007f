/-
  EI is proved here: parts of w5 proof, one behind w5 other (texts of this work, merged by a program; Iy w5 theorem Iz not use is left out). No condition.
-/
import Derived.Test.YtlenamcfacpheaaGreatDoorMAsesd
set_option maxRecDepth 100000
set_option maxHeartbeats 4000000
namespace Go.Proofs.YtlenamcfacpheaaGreatDoor
open Go.Den
open IntKind (wrap)
open Int (toNat)
section
variable {h:ai} {R:fx}
variable {E:fx} {r c0 c1 C B d:Nat} {Ko gU V n:Int} {iN:Bool} {K:Option Value->ai->Prop} {c:cj}
theorem JC.walk{is:Bool}{e:Int}(H:if(!is)then E (.iface 331 (.agg #[.I e])) h else R (.tuple #[]) h):gT Tryz.prog 282 #[.bool is,.I e] h R E:=gJ (lq (cq lf lf)) E0 Tryz.func282 rfl rfl (Eq.mp db H)
theorem vf.walk(M:aS h (.cells #[.I 0,.U 0,.bool false] 360) λb gU=>aK (λ(iN:cj) (next:Int) (e:Int) (D:ai)=>Ce 282 #[.bool (e==0),.I e] D (λv F=>v=.tuple #[]/\aE F (AA r 1) (.I next) λj=>aO iN λa=>bp.LD j a λQ S U=>bp.ST j (AA b 0) Q S U λk=>bp.LD k (AA b 0) λN O P=>R (.agg #[.I N,.U O,.bool P]) k) E) (λJ=>Hl gU r 0 λf T t=>Hi gU r 1 λt14=>(Cl 309 #[.slice f T t,.I t14] gU λW G=> ∃l o q u x,W=.tuple #[.agg #[.I l,.U o,.bool q],.I u,.I x]/\aS G (.cells #[.I 0,.U 0,.bool false] 360) λg I=>bp.ST I (AA g 0) l o q λL=>([]:List Deferred)= []/\J (some (AA g 0)) u x L)/\(aS gU (.cells #[.I 0,.U 0,.bool false] 360) λi H=>Cc H r 1 (.I t14)/\Cc H r 0 (.slice f T t)/\Cl 309 #[.slice f T t,.I t14] H λX z=> ∃m p s w y,X=.tuple #[.agg #[.I m,.U p,.bool s],.I w,.I y]/\bp.ST z (AA i 0) m p s λA=>([]:List Deferred)= []/\J (some (AA i 0)) w y A)/\True)):gT Tryz.prog 281 #[.P r 0] h R E:=gJ (lq (sq (.join [(3,.one (.ptr)),(4,.one (.int .i64)),(5,.one (.int .i64))] (.gS (fE 8 0 (.alts (.fork 8 (fE 8 9 .done) (.fork 13 (.op 8 (.op 9 (.op 10 (.op 11 (.op 12 (.op 14 (.op 15 (.op 16 .done)))))))) .gQ)))))) (lq (lq ll)))) E0 Tryz.func281 rfl rfl (Eq.mp db M)
theorem vg.walk (H:aK (λ(t25:Bool) (gU:ai)=>if t25 then∃t29,Cc gU r 1 (.I t29)/\aE gU (AA r 1) (.I (wrap .i64 (t29+1))) λiN=>R (.bool true) iN else R (.bool false) gU) (λJ=>Hi h r 1 λt6=> ∃b t T,Cc h r 0 (.slice b t T)/\if(decide (t6<((t:Nat):Int)))then Hl h r 0 λf e g=>Hi h r 1 λt21=>Bd t21 e/\aO f λa=> ∃t23,aB h (a.add (toNat t21*1))=some (.int .u8 t23)/\J (t23==255) h else J false h)):ar Tryz.prog 310 #[.P r 0] h R:=aR (lq (sq (sq (.join [(25,.one (.bool))] (pN 23)) (cq (lq ll) lf)) ll)) Tryz.func310 H
theorem tL.walk {r : Nat} {Ko : Int} {gU : Int} {iN : Bool} {E : Value → ai → Prop} (hv :
 aS h (.cells #[.int .i64 Ko, .int .u64 gU, .bool iN] 360) λb gU =>
 ∃ t7, aB gU ⟨b, 1, none⟩ = some (.int .u64 t7) ∧
 ∃ Pm LV Pn, aB gU ⟨r, 0, none⟩ = some (.slice Pm LV Pn) ∧
 ∃ t16, aB gU ⟨r, 1, none⟩ = some (.int .i64 t16) ∧
 Ce 282 #[.bool (decide (t7 ≤ (IntKind.wrap .u64 (IntKind.wrap .i64 (((LV : Nat) : Int) - t16))))), .int .i64 8] gU (λv iN =>
 v = .tuple #[] ∧
 aB iN ⟨r, 1, none⟩ = some (.int .i64 t16) ∧
 aB iN ⟨r, 0, none⟩ = some (.slice Pm LV Pn) ∧
 aB iN ⟨b, 1, none⟩ = some (.int .u64 t7) ∧
 ∃ LW Po DS, aB iN ⟨r, 0, none⟩ = some (.slice LW Po DS) ∧
 ∃ t28, aB iN ⟨r, 1, none⟩ = some (.int .i64 t28) ∧
 ∃ t32, aB iN ⟨r, 1, none⟩ = some (.int .i64 t32) ∧
 ∃ t34, aB iN ⟨b, 1, none⟩ = some (.int .u64 t34) ∧
 ((0 : Int) ≤ IntKind.wrap .i64 (t32 + (IntKind.wrap .i64 t34)) ∧ IntKind.wrap .i64 (t32 + (IntKind.wrap .i64 t34)) ≤ ((DS : Nat) : Int)) ∧ ((0 : Int) ≤ t28 ∧ t28 ≤ IntKind.wrap .i64 (t32 + (IntKind.wrap .i64 t34))) ∧
 Cl 50 #[.slice (cE LW DS (Int.toNat t28) 1) ((Int.toNat (IntKind.wrap .i64 (t32 + (IntKind.wrap .i64 t34)))) - (Int.toNat t28)) (DS - (Int.toNat t28))] iN λFu qZ =>
 ∃ AT AU DT, Fu = .slice AT AU DT ∧
 aB qZ ⟨b, 1, none⟩ = some (.int .u64 t34) ∧
 aB qZ ⟨r, 1, none⟩ = some (.int .i64 t32) ∧
 aB qZ ⟨r, 1, none⟩ = some (.int .i64 t28) ∧
 aB qZ ⟨r, 0, none⟩ = some (.slice LW Po DS) ∧
 aK (fun (CL : ai) =>
 ∃ t50, aB CL ⟨r, 1, none⟩ = some (.int .i64 t50) ∧
 ∃ t52, aB CL ⟨b, 1, none⟩ = some (.int .u64 t52) ∧
 aE CL ⟨r, 1, none⟩ (.int .i64 (IntKind.wrap .i64 (t50 + (IntKind.wrap .i64 t52)))) λJd =>
 R (.slice AT AU DT) Jd)
 (λJ =>
 ∃ t40, aB qZ ⟨b, 0, none⟩ = some (.int .i64 t40) ∧
 if (t40 != 3) = true then
 Ce 282 #[.bool true, .int .i64 3] qZ (λJm DC =>
 Jm = .tuple #[] ∧
 ([] : List Deferred) = [] ∧ J DC)
 E
 else
 Cl 316 #[.slice AT AU DT] qZ λFF Je =>
 ∃ t44, FF = .bool t44 ∧
 Ce 282 #[.bool t44, .int .i64 3] Je (λBP Nh =>
 BP = .tuple #[] ∧
 ([] : List Deferred) = [] ∧ J Nh)
 E))
 E) : gT Tryz.prog 311 #[.pointer (some ⟨r, 0, none⟩), .agg #[.int .i64 Ko, .int .u64 gU, .bool iN]] h R E :=
 gJ (.seq .leaf (.seq (.gS (.op 0 (.op 1 (.op 2 (.op 3 (.op 4 (.op 5 (.op 6 (.op 7 (.op 8 (.op 9 (.op 10 (.op 11 (.op 12 (.op 13 (.op 14 .done)))))))))))))))) (.seq (.gS (.op 0 (.op 1 (.op 2 (.op 3 (.op 4 (.op 5 (.op 6 (.op 7 (.op 8 (.op 9 (.op 10 (.op 11 (.op 12 (.op 13 (.op 14 (.op 15 (.op 16 (.op 17 (.op 18 .done)))))))))))))))))))) (.seq (.join [] .leaf) (.seq (.gS (.op 0 (.op 1 (.op 2 (.op 3 (.op 4 (.op 5 (.op 6 (.op 7 (.op 8 (.op 9 (.op 10 .done)))))))))))) (.seq .leaf .leaf)))))) E0 Tryz.func311 rfl rfl (Eq.mp (by kernel_rfl) hv)
theorem r8.walk (W:aS h (.cells #[.I Ko,.U gU,.bool iN] 360) λb gU=>aS gU (.cells #[.I 0,.U 0,.Z,.Z] 262) λe iN=>Hi iN b 0 λt8=>aS iN (.cells #[.I 0,.U 0,.Z,.Z] 262) λa S=>aa.ST S (AA a 0) t8 0 none 0 0 none 0 0 λg=> ∃t11,Cc g b 2 (.bool t11)/\if(!t11)then bp.LD g (AA b 0) λn' o' p'=>Ce 311 #[.P r 0,.agg #[.I n',.U o',.bool p']] g (λv U=> ∃s T t,v=.slice s T t/\aE U (AA a 2) (.slice s T t) λp=>aa.LD p (AA a 0) λq' r' u' t' s' x' w' v'=>aa.ST p (AA e 0) q' r' u' t' s' x' w' v' λq=>aa.LD q (AA e 0) λX Z f' d' b' l' j' h'=>R (.agg #[.I X,.U Z,.slice f' d' b',.slice l' j' h']) q) E else∃(I:ai->Prop)(M:ai->Nat),I g/\∀(j:ai),I j->Cl 310 #[.P r 0] j λM' k=> ∃t19,M'=.bool t19/\if(!t19)then Ce 281 #[.P r 0] k (λN' L=> ∃u w x,N'=.agg #[.I u,.U w,.bool x]/\aS L (.cells #[.I 0,.U 0,.bool false] 360) λf N=>bp.ST N (AA f 0) u w x λH=>aK (λ(i:ai)=>Hl i a 2 λA z y=>bp.LD i (AA f 0) λy' z' A'=>Ce 311 #[.P r 0,.agg #[.I y',.U z',.bool A']] i (λO' l=>Vl O' λD' C' B'=>Cc l a 2 (.slice A z y)/\aV Tryz.prog (Builtin.append_ #[22,22] 22 #[.slice A z y,.slice D' C' B']) l λP' O=> ∃G F D,P'=.slice G F D/\aE O (AA a 2) (.slice G F D) λm=>(([]:List Deferred)= []/\I m/\M m<M j)) E) (λJ=>Hi H f 0 λt24=> ∃t26,Cc H b 0 (.I t26)/\if(t24==t26)then Hb H f 2 λt30=>Ce 282 #[.bool (!t30),.I 3] H (λQ' P=>Q'=.tuple #[]/\([]:List Deferred)= []/\J P) E else Ce 282 #[.bool false,.I 3] H (λR' Q=>R'=.tuple #[]/\([]:List Deferred)= []/\J Q) E)) E else aa.LD k (AA a 0) λE' F' I' H' G' L' K' J'=>aa.ST k (AA e 0) E' F' I' H' G' L' K' J' λo=>aa.LD o (AA e 0) λY a' g' e' c' m' k' i'=>R (.agg #[.I Y,.U a',.slice g' e' c',.slice m' k' i']) o):gT Tryz.prog 284 #[.P r 0,.agg #[.I Ko,.U gU,.bool iN]] h R E:=gJ (lq (lq (sq (lq (cq (lq ll) lf)) (sq (bq (.loop [] (sq (lq (cq lf lf)) (bq (lq (sq (.join [] lf) (pN 8))))))) ll)))) E0 Tryz.func284 rfl rfl (Eq.mp db W)
theorem vh.walk {r : Nat} {Ko : Int} {gU : Int} {iN : Bool} {deep : Int} {E : Value → ai → Prop} (hv :
 aS h (.cells #[.int .i64 Ko, .int .u64 gU, .bool iN] 360) λb gU =>
 aS gU (.cells #[.int .i64 0, .int .u64 0, .slice none 0 0, .slice none 0 0] 262) λwC iN =>
 aS iN (.cells #[.int .i64 0, .int .u64 0, .slice none 0 0, .slice none 0 0] 262) λEH qZ =>
 aa.ST qZ ⟨EH, 0, none⟩ 4 0 none 0 0 none 0 0 λCL =>
 ∃ t10, aB CL ⟨b, 2, none⟩ = some (.bool t10) ∧
 if t10 = true then
 ∃ (I : ai → Prop) (mu : ai → Nat), I CL ∧ ∀ (Jd : ai), I Jd →
 Cl 310 #[.pointer (some ⟨r, 0, none⟩)] Jd λv DC =>
 ∃ t12, v = .bool t12 ∧
 if (!t12) = true then
 ∃ yr yt yu, aB DC ⟨EH, 3, none⟩ = some (.slice yr yt yu) ∧
 Ce 243 #[.pointer (some ⟨r, 0, none⟩), .int .i64 (IntKind.wrap .i64 (deep + 1))] DC (λFu Je =>
 ∃ Pp Pq Hk Hm Hn Ho Hq Hr, Fu = .agg #[.int .i64 Pp, .int .u64 Pq, .slice Hk Hm Hn, .slice Ho Hq Hr] ∧
 aB Je ⟨EH, 3, none⟩ = some (.slice yr yt yu) ∧
 aS Je (.cells #[.int .i64 Pp, .int .u64 Pq, .slice Hk Hm Hn, .slice Ho Hq Hr] 262) λTQ Nh =>
 aB Nh ⟨EH, 3, none⟩ = some (.slice yr yt yu) ∧
 aV Tryz.prog (Builtin.append_ #[260, 260] 260 #[.slice yr yt yu, .slice (some ⟨TQ, 0, none⟩) 1 1]) Nh λJm QK =>
 ∃ Pr Ps Pv, Jm = .slice Pr Ps Pv ∧
 aE QK ⟨EH, 3, none⟩ (.slice Pr Ps Pv) λDU =>
 (([] : List Deferred) = [] ∧ I DU ∧ mu DU < mu Jd))
 E
 else
 aa.LD DC ⟨EH, 0, none⟩ λSr Ss Ob Oc Od Oe Of Og =>
 aa.ST DC ⟨wC, 0, none⟩ Sr Ss Ob Oc Od Oe Of Og λDV =>
 aa.LD DV ⟨wC, 0, none⟩ λTR QL QM QN QO QP QQ QR =>
 R (.agg #[.int .i64 TR, .int .u64 QL, .slice QM QN QO, .slice QP QQ QR]) DV
 else
 ∃ t25, aB CL ⟨b, 1, none⟩ = some (.int .u64 t25) ∧
 ∃ Pw LX LY, aB CL ⟨r, 0, none⟩ = some (.slice Pw LX LY) ∧
 ∃ t34, aB CL ⟨r, 1, none⟩ = some (.int .i64 t34) ∧
 Ce 282 #[.bool (decide (t25 ≤ (IntKind.wrap .u64 (IntKind.wrap .i64 (((LX : Nat) : Int) - t34))))), .int .i64 8] CL (λFF zL =>
 FF = .tuple #[] ∧
 aB zL ⟨r, 1, none⟩ = some (.int .i64 t34) ∧
 aB zL ⟨r, 0, none⟩ = some (.slice Pw LX LY) ∧
 aB zL ⟨b, 1, none⟩ = some (.int .u64 t25) ∧
 ∃ t40, aB zL ⟨b, 1, none⟩ = some (.int .u64 t40) ∧
 ∃ (TT : Int → ai → Prop) (St : Int → ai → Nat), TT 0 zL ∧ ∀ (t41 : Int) (yw : ai), TT t41 yw →
 if (decide (t41 < t40)) = true then
 ∃ Ht Hv Hw, aB yw ⟨EH, 3, none⟩ = some (.slice Ht Hv Hw) ∧
 Ce 243 #[.pointer (some ⟨r, 0, none⟩), .int .i64 (IntKind.wrap .i64 (deep + 1))] yw (λBP JD =>
 ∃ Px Py Hx Hz HA HB HC HD, BP = .agg #[.int .i64 Px, .int .u64 Py, .slice Hx Hz HA, .slice HB HC HD] ∧
 aB JD ⟨EH, 3, none⟩ = some (.slice Ht Hv Hw) ∧
 aS JD (.cells #[.int .i64 Px, .int .u64 Py, .slice Hx Hz HA, .slice HB HC HD] 262) λTU Su =>
 aB Su ⟨EH, 3, none⟩ = some (.slice Ht Hv Hw) ∧
 aV Tryz.prog (Builtin.append_ #[260, 260] 260 #[.slice Ht Hv Hw, .slice (some ⟨TU, 0, none⟩) 1 1]) Su λLZ QS =>
 ∃ Pz PA PB, LZ = .slice Pz PA PB ∧
 aE QS ⟨EH, 3, none⟩ (.slice Pz PA PB) λSv =>
 (([] : List Deferred) = [] ∧ TT (IntKind.wrap .u64 (t41 + 1)) Sv ∧ St (IntKind.wrap .u64 (t41 + 1)) Sv < St t41 yw))
 E
 else
 aa.LD yw ⟨EH, 0, none⟩ λSw Sx Oh Oi Oj Ol Om On =>
 aa.ST yw ⟨wC, 0, none⟩ Sw Sx Oh Oi Oj Ol Om On λSy =>
 aa.LD Sy ⟨wC, 0, none⟩ λQT QU L3 L4 L5 Ma Mb Mc =>
 R (.agg #[.int .i64 QT, .int .u64 QU, .slice L3 L4 L5, .slice Ma Mb Mc]) Sy)
 E) : gT Tryz.prog 283 #[.pointer (some ⟨r, 0, none⟩), .agg #[.int .i64 Ko, .int .u64 gU, .bool iN], .int .i64 deep] h R E :=
 gJ (.seq .leaf (.seq .leaf (.seq (.seq .leaf (.cond (.seq (.block (.loop [] (.seq (.seq .leaf (.cond .leaf .leaf)) (.block (.gS (.op 0 (.op 1 (.op 2 (.op 3 (.op 4 (.op 5 (.op 6 (.op 7 (.op 8 (.op 9 .done))))))))))))))) (.seq .leaf .leaf)) .leaf)) (.seq (.gS (.op 0 (.op 1 (.op 2 (.op 3 (.op 4 (.op 5 (.op 6 (.op 7 (.op 8 (.op 9 (.op 10 (.op 11 (.op 12 (.op 13 (.op 14 .done)))))))))))))))) (.seq (.seq .leaf (.block (.loop [(41, .one (.int .u64))] (.seq .leaf (.seq (.cond .leaf .leaf) (.seq (.block (.gS (.op 0 (.op 1 (.op 2 (.op 3 (.op 4 (.op 5 (.op 6 (.op 7 (.op 8 (.op 9 .done)))))))))))) .leaf)))))) (.seq .leaf .leaf)))))) E0 Tryz.func283 rfl rfl (Eq.mp (by kernel_rfl) hv)
theorem nn.walk{deep:Int} (X:aS h (.cells #[.I 0,.U 0,.Z,.Z] 262) λb gU=>Ce 281 #[.P r 0] gU (λv iN=> ∃G I L,v=.agg #[.I G,.U I,.bool L]/\aS iN (.cells #[.I 0,.U 0,.bool false] 360) λa U=>bp.ST U (AA a 0) G I L λH=>aK (λ(W:ai)=>Ce 282 #[.bool (decide (deep<=6)),.I 9] W (λC' i=>C'=.tuple #[]/\Hi i r 2 λt33=>Ce 282 #[.bool (decide (t33>0)),.I 2] i (λD' j=>D'=.tuple #[]/\∃t39,Cc j r 2 (.I t39)/\aE j (AA r 2) (.I (wrap .i64 (t39 - 1))) λe=> ∃t44,Cc e a 0 (.I t44)/\if(t44==0)then Hu e a 1 λt48=>aa.ST e (AA b 0) 0 t48 none 0 0 none 0 0 λk=>aa.LD k (AA b 0) λY b' k' h' e' t' q' n'=>R (.agg #[.I Y,.U b',.slice k' h' e',.slice t' q' n']) k else if(t44==4)then bp.LD e (AA a 0) λw' x' y'=>Ce 283 #[.P r 0,.agg #[.I w',.U x',.bool y'],.I deep] e (λE' M=> ∃t T o m l s q p,E'=.agg #[.I t,.U T,.slice o m l,.slice s q p]/\aa.ST M (AA b 0) t T o m l s q p λf=>aa.LD f (AA b 0) λZ c' l' i' f' u' r' o'=>R (.agg #[.I Z,.U c',.slice l' i' f',.slice u' r' o']) f) E else bp.LD e (AA a 0) λz' A' B'=>Ce 284 #[.P r 0,.agg #[.I z',.U A',.bool B']] e (λF' N=> ∃u w z y x F D A,F'=.agg #[.I u,.U w,.slice z y x,.slice F D A]/\aa.ST N (AA b 0) u w z y x F D A λg=>aa.LD g (AA b 0) λa' d' m' j' g' v' s' p'=>R (.agg #[.I a',.U d',.slice m' j' g',.slice v' s' p']) g) E) E) E) (λJ=> ∃t9,Cc H a 0 (.I t9)/\if(t9==0)then Ce 282 #[.bool true,.I 3] H (λG' O=>G'=.tuple #[]/\([]:List Deferred)= []/\J O) E else∃t13,Cc H a 0 (.I t13)/\if(t13==2)then Ce 282 #[.bool true,.I 3] H (λH' P=>H'=.tuple #[]/\([]:List Deferred)= []/\J P) E else∃t18,Cc H a 0 (.I t18)/\if(t18==3)then Ce 282 #[.bool true,.I 3] H (λI' Q=>I'=.tuple #[]/\([]:List Deferred)= []/\J Q) E else Hi H a 0 λt23=>Ce 282 #[.bool (t23==4),.I 3] H (λJ' S=>J'=.tuple #[]/\([]:List Deferred)= []/\J S) E)) E):gT Tryz.prog 243 #[.P r 0,.I deep] h R E:=gJ (lq (lq (sq (.join [] lf) (lq (lq (lq (sq (lq (bq (lq (cq ll (lq (cq ll lf)))))) ll))))))) E0 Tryz.func243 rfl rfl (Eq.mp db X)
theorem pX.ret.walk(H:aS h (.cells #[.I 0] 331) λb gU=>aE gU (AA b 0) (.I 0) λiN=>K none iN):pn Tryz.prog 242 #[.P c0 0,.P c1 0,.P C 0] none h K:=pq (lq (lq (cq (pN 6) lf))) Tryz.func242 rfl rfl (Eq.mp db H)
theorem pX.lU.walk{e:Int}(g:aS h (.cells #[.I 0] 331) λb gU=>aE gU (AA b 0) (.I e) λiN=>Hi iN b 0 λt13=>aa.ST iN (AA c0 0) 0 0 none 0 0 none 0 0 λH=>Cc H b 0 (.I t13)/\aE H (AA c1 0) (.I 0) λa=>Cc a b 0 (.I t13)/\aE a (AA C 0) (.I t13) λf=>K none f):pn Tryz.prog 242 #[.P c0 0,.P c1 0,.P C 0] (some (.iface 331 (.agg #[.I e]))) h K:=pq (lq (lq (cq (pN 6) lf))) Tryz.func242 rfl rfl (Eq.mp db g)
theorem JE.walk (M:aS h (.cells #[.I 0,.U 0,.Z,.Z] 262) λb gU=>aS gU (.cells #[.I 0] 3) λa iN=>aS iN (.cells #[.I 0] 24) λe k=>aK (λ(t15:Bool) (l:ai)=>if t15 then aa.ST l (AA b 0) 0 0 none 0 0 none 0 0 λD=>aE D (AA a 0) (.I 0) λF=>aE F (AA e 0) (.I 1) λf=>aa.LD f (AA b 0) λN Q c' Z W l' i' f'=>Hi f a 0 λr1=> ∃m,Cc f e 0 (.I m)/\R (.tuple #[.agg #[.I N,.U Q,.slice c' Z W,.slice l' i' f'],.I r1,.I m]) f else aS l (.cells #[.slice c B d,.I V,.I 256] 335) λg G=>Ce 243 #[.P g 0,.I 1] G (λv I=> ∃t T u s q y x w,v=.agg #[.I t,.U T,.slice u s q,.slice y x w]/\aa.ST I (AA b 0) t T u s q y x w λi=>aa.LD i (AA b 0) λq' r' u' t' s' x' w' v'=>Hi i g 1 λt28=>aa.ST i (AA b 0) q' r' u' t' s' x' w' v' λj=>Cc j g 1 (.I t28)/\aE j (AA a 0) (.I t28) λz=>aE z (AA e 0) (.I 0) λA=>pn Tryz.prog 242 #[.P b 0,.P a 0,.P e 0] none A (KS (λH=>aa.LD H (AA b 0) λO S d' a' X m' j' g'=>Hi H a 0 λo'=> ∃o,Cc H e 0 (.I o)/\R (.tuple #[.agg #[.I O,.U S,.slice d' a' X,.slice m' j' g'],.I o',.I o]) H) E)) (λv_ L=>pn Tryz.prog 242 #[.P b 0,.P a 0,.P e 0] (some v_) L (KS (λH=>aa.LD H (AA b 0) λP U e' b' Y n' k' h'=>Hi H a 0 λp'=> ∃p,Cc H e 0 (.I p)/\R (.tuple #[.agg #[.I P,.U U,.slice e' b' Y,.slice n' k' h'],.I p',.I p]) H) E))) (λJ=>if(decide (V<0))then([]:List Deferred)= []/\J true k else([]:List Deferred)= []/\J (decide (V>(B:Int))) k)):gT Tryz.prog 193 #[.slice c B d,.I V] h R E:=gJ (lq (sq (sq (.join [(15,.one (.bool))] lf) (cq ll lf)) (lq (lq (lq (sq (pN 8) lf)))))) E0 Tryz.func193 rfl rfl (Eq.mp db M)
theorem zM.walk(p:Cl 193 #[.slice c B d,.I 0] h λv gU=> ∃t T f e a j i g k l,v=.tuple #[.agg #[.I t,.U T,.slice f e a,.slice j i g],.I k,.I l]/\aS gU (.cells #[.I 0,.U 0,.Z,.Z] 262) λb iN=>aa.ST iN (AA b 0) t T f e a j i g λH=>if(l==0)then if(k==(B:Int))then aa.LD H (AA b 0) λq s x w u A z y=>Cl 208 #[.Z,.agg #[.I q,.U s,.slice x w u,.slice A z y]] H λI m=>Vl I λG F D=>Cl 82 #[.slice G F D,.slice c B d] m λJ o=> ∃t24,J=.bool t24/\R (.bool t24) o else R (.bool false) H else R (.bool false) H):ar Tryz.prog 314 #[.slice c B d] h R:=aR (lq (lq ll)) Tryz.func314 p
theorem B1.walk{m:Int}(H:if(decide (m≥2))then if(decide (m<=5))then R (.bool true) h else R (.bool (m==7)) h else R (.bool (m==7)) h):ar Tryz.prog 317 #[.I m] h R:=aR (lq ll) Tryz.func317 H
theorem F1.walk(H:aS h (.cells #[.I Ko,.U gU,.bool iN] 360) λb gU=> ∃t4,Cc gU b 2 (.bool t4)/\if t4 then bp.LD gU (AA b 0) λt T a=>Hi gU b 0 λt7=> ∃(eq:Bool),vw Tryz.prog 360 (.agg #[.I t,.U T,.bool a]) (.agg #[.I t7,.U 0,.bool true]) eq/\if eq then Hi gU b 0 λt12=>Cl 317 #[.I t12] gU λv iN=> ∃t13,v=.bool t13/\R (.bool t13) iN else R (.bool false) gU else∃t16,Cc gU b 0 (.I t16)/\if(decide (t16≥0))then∃t20,Cc gU b 0 (.I t20)/\R (.bool (decide (t20<=7))) gU else R (.bool false) gU):ar Tryz.prog 299 #[.agg #[.I Ko,.U gU,.bool iN]] h R:=aR (lq (sq (lq (cq ll lf)) ll)) Tryz.func299 H
theorem DW.walk(H:if(decide (n<24))then R (.I 0) h else if(decide (n<256))then R (.I 1) h else if(decide (n<65536))then R (.I 2) h else if(decide (n<4294967296))then R (.I 4) h else R (.I 8) h):ar Tryz.prog 301 #[.U n] h R:=aR (lq (sq (bq (lq (cq ll (lq (cq ll (lq (cq ll (lq (cq ll lf))))))))) ll)) Tryz.func301 H
theorem JF.walk(H:Cl 301 #[.U n] h λv gU=> ∃t4,v=.I t4/\if(t4==1)then R (.int .u8 24) gU else if(t4==2)then R (.int .u8 25) gU else if(t4==4)then R (.int .u8 26) gU else if(t4==8)then R (.int .u8 27) gU else R (.int .u8 (wrap .u8 n)) gU):ar Tryz.prog 300 #[.U n] h R:=aR (lq (sq (lq (bq (lq (cq ll (lq (cq ll (lq (cq ll (lq (cq ll lf)))))))))) ll)) Tryz.func300 H
theorem Ga.walk (u:aS h (.cells #[.I Ko,.U gU,.bool iN] 360) λb gU=>bp.LD gU (AA b 0) λw x y=>Cl 299 #[.agg #[.I w,.U x,.bool y]] gU λv iN=> ∃t9,v=.bool t9/\if(!t9)then R (.tuple #[.Z,.I 3]) iN else∃t13,Cc iN b 2 (.bool t13)/\if t13 then Hi iN b 0 λt15=>aS iN (.cells #[.int .u8 (wrap .u8 ((oR (wrap .u8 ((wrap .u8 t15)*2 ^ min (toNat 5) (IntKind.bits .u8)))|||oR 31).toNat:Int))] 5) λj p=>R (.tuple #[.slice (some (AA j 0)) 1 1,.I 0]) p else Hi iN b 0 λt21=>Hu iN b 1 λt25=>Cl 300 #[.U t25] iN λz g=> ∃t26,z=.int .u8 t26/\Cc g b 0 (.I t21)/\aS g (.cells #[.int .u8 (wrap .u8 ((oR (wrap .u8 ((wrap .u8 t21)*2 ^ min (toNat 5) (IntKind.bits .u8)))|||oR t26).toNat:Int))] 5) λk e=>Cc e b 0 (.I t21)/\Hu e b 1 λt30=>Cl 301 #[.U t30] e λA q=>Vi A λt31=> ∃(I:cj->Nat->Nat->Int->ai->Prop)(m:cj->Nat->Nat->Int->ai->Nat),I (some (AA k 0)) 1 1 0 q/\∀(a:cj)(O o:Nat)(t33:Int)(H:ai),I a O o t33 H->if(decide (t33<t31))then∃t38,Cc H b 1 (.U t38)/\if wrap .i64 (8*(wrap .i64 ((wrap .i64 (t31 - 1)) - t33)))<0 then False else aS H (.cells #[.int .u8 (wrap .u8 (Int.fdiv t38 (2 ^ min (toNat (wrap .i64 (8*(wrap .i64 ((wrap .i64 (t31 - 1)) - t33))))) (IntKind.bits .u64))))] 5) λl s=>aV Tryz.prog (Builtin.append_ #[22,22] 22 #[.slice a O o,.slice (some (AA l 0)) 1 1]) s λD i=> ∃f T t,D=.slice f T t/\(I f T t (wrap .i64 (t33+1)) i/\m f T t (wrap .i64 (t33+1)) i<m a O o t33 H)else R (.tuple #[.slice a O o,.I 0]) H):ar Tryz.prog 261 #[.agg #[.I Ko,.U gU,.bool iN]] h R:=aR (lq (sq (bq (lq (cq ll (lq (cq ll lf))))) (sq (pN 10) (lq (sq (lq (bq (.loop [(4,.one (.slice)),(33,.one (.int .i64))] (lq (sq (cq lf lf) (sq (bq ll) lf)))))) ll))))) Tryz.func261 u
theorem JG.walk (z:aS h (.cells #[.I 0,.U 0,.bool false] 360) λb gU=>aK (λ(t11:Bool) (iN:ai)=>if t11 then bp.ST iN (AA b 0) 0 0 false λq=>bp.LD q (AA b 0) λD Q Z=>R (.tuple #[.agg #[.I D,.U Q,.bool Z],.I 0,.I 1]) q else if(V==(B:Int))then bp.ST iN (AA b 0) 0 0 false λs=>bp.LD s (AA b 0) λF S a'=>R (.tuple #[.agg #[.I F,.U S,.bool a'],.I 0,.I 8]) s else Bd V B/\aO c λa=>GO iN (a.add (toNat V*1)) λt30=>aS iN (.cells #[.I 0,.U 0,.bool false] 360) λe y=>bp.ST y (AA e 0) (wrap .i64 (Int.fdiv t30 (2 ^ min (toNat 5) (IntKind.bits .u8)))) 0 false λf=>Bd V B/\aO c λA=> ∃t37,aB f (A.add (toNat V*1))=some (.int .u8 t37)/\if(decide ((wrap .u8 ((oR t37 &&& oR 31).toNat:Int))<24))then aE f (AA e 1) (.U (wrap .u64 (wrap .u8 ((oR t37 &&& oR 31).toNat:Int)))) λt=>bp.LD t (AA e 0) λg' h' i'=>bp.ST t (AA b 0) g' h' i' λu=>bp.LD u (AA b 0) λG T b'=>R (.tuple #[.agg #[.I G,.U T,.bool b'],.I (wrap .i64 (V+1)),.I 0]) u else aK (λ(t49:Bool) (g:ai)=>if t49 then aE g (AA e 2) (.bool true) λi=>bp.LD i (AA e 0) λj' k' l'=>bp.ST i (AA b 0) j' k' l' λk=>bp.LD k (AA b 0) λL U c'=>R (.tuple #[.agg #[.I L,.U U,.bool c'],.I (wrap .i64 (V+1)),.I 0]) k else if(decide ((wrap .u8 ((oR t37 &&& oR 31).toNat:Int))>27))then bp.ST g (AA b 0) 0 0 false λl=>bp.LD l (AA b 0) λN W d'=>R (.tuple #[.agg #[.I N,.U W,.bool d'],.I 0,.I 3]) l else if wrap .u8 ((wrap .u8 ((oR t37 &&& oR 31).toNat:Int)) - 24)<0 then False else if(decide ((wrap .i64 (1*2 ^ min (toNat (wrap .u8 ((wrap .u8 ((oR t37 &&& oR 31).toNat:Int)) - 24))) (IntKind.bits .i64)))>(wrap .i64 ((B:Int) - (wrap .i64 (V+1))))))then bp.ST g (AA b 0) 0 0 false λm=>bp.LD m (AA b 0) λO X e'=>R (.tuple #[.agg #[.I O,.U X,.bool e'],.I 0,.I 8]) m else∃(I:Int->ai->Prop)(M:Int->ai->Nat),I 0 g/\∀(t75:Int)(H:ai),I t75 H->if(decide (t75<(wrap .i64 (1*2 ^ min (toNat (wrap .u8 ((wrap .u8 ((oR t37 &&& oR 31).toNat:Int)) - 24))) (IntKind.bits .i64)))))then Hu H e 1 λt79=>Bd (wrap .i64 ((wrap .i64 (V+1))+t75)) B/\aO c λw=> ∃t86,aB H (w.add (toNat (wrap .i64 ((wrap .i64 (V+1))+t75))*1))=some (.int .u8 t86)/\aE H (AA e 1) (.U (wrap .u64 ((mf (wrap .u64 (t79*2 ^ min (toNat 8) (IntKind.bits .u64)))|||mf (wrap .u64 t86)).toNat:Int))) λo=>(I (wrap .i64 (t75+1)) o/\M (wrap .i64 (t75+1)) o<M t75 H)else bp.LD H (AA e 0) λm' n' o'=>bp.ST H (AA b 0) m' n' o' λp=>bp.LD p (AA b 0) λP Y f'=>R (.tuple #[.agg #[.I P,.U Y,.bool f'],.I (wrap .i64 ((wrap .i64 (V+1))+(wrap .i64 (1*2 ^ min (toNat (wrap .u8 ((wrap .u8 ((oR t37 &&& oR 31).toNat:Int)) - 24))) (IntKind.bits .i64))))),.I 0]) p) (λj=>if((wrap .u8 ((oR t37 &&& oR 31).toNat:Int))==31)then Hi f e 0 λt54=>Cl 317 #[.I t54] f λv x=> ∃t55,v=.bool t55/\j t55 x else j false f)) (λJ=>if(decide (V<0))then J true gU else J (decide (V>(B:Int))) gU)):ar Tryz.prog 309 #[.slice c B d,.I V] h R:=aR (lq (sq (bq (sq (.join [(11,.one (.bool))] lf) (cq ll (lq (cq ll lf))))) (lq (lq (lq (sq (bq (lq (cq (lq ll) (sq (.join [(49,.one (.bool))] lf) (cq (lq ll) (lq (cq ll lf))))))) (lq (sq (lq (cq ll lf)) (sq (lq (bq (.loop [(75,.one (.int .i64))] (lq (sq (cq lf lf) (sq (bq (lq (pN 13))) lf)))))) ll))))))))) Tryz.func309 z

end
section
namespace Cb
variable {h h':ai} {R E:fx} {p:cj} {r l c:Nat} {bs:List UInt8}
variable {pos left:Nat}
abbrev Oo(e:Int):Value:=.iface 331 (.agg #[.int .i64 e])
structure tS (h:ai) (r:Nat) (p:cj) (c:Nat) (bs:List UInt8) (pos left:Nat):Prop where
 cR:h[r]? =some (.cells #[.slice p bs.length c,.int .i64 (pos:Int),.int .i64 (left:Int)] 335 (0,0))
 row:Row h p (bc bs)
 cap:bs.length<=c
 pos:pos<=bs.length
 ap:bs≠ []->¬aP p r
 len:bs.length<=1000000
 left:left<=1000000
theorem gz{q:Bool}{e:Int}(k:q=true->R (.tuple #[]) h)(K:q=false->E (Oo e) h):gT Tryz.prog 282 #[.bool q,.I e] h R E:=by
 refine JC.walk ?_;cases q with
 |true=>rw[cW];exact k rfl
 |false=>rw[fO];exact K rfl
theorem tS.frame{Q:Nat->Prop}(H:tS h r p c bs pos left)(f:Fr Q h h')(d: ¬Q r)(g: ∀y,aP p y->bs≠ []->¬Q y):tS h' r p c bs pos left:=by
 refine⟨f.get H.cR d,?_,H.cap,H.pos,H.ap,H.len,H.left⟩;by_cases e:bs= []
 .subst e;exact Row.nil
 .exact H.row.frame f (λa b=>g _ ⟨a,b,rfl⟩ e)
theorem tS.on(H:tS h r p c bs pos left)(f:Fr No h h'):tS h' r p c bs pos left:=H.frame f id (λ_ _ _=>id)
theorem tS.set{pos' left':Nat}(H:tS h r p c bs pos left)(j:pos'<=bs.length)(i:left'<=1000000)(d1:h'[r]? =some (.cells #[.slice p bs.length c,.I (pos':Int),.I (left':Int)] 335 (0,0)))(d2:h'.size=h.size)(d3: ∀x,x≠r->h'[x]? =h[x]?):
  tS h' r p c bs pos' left'/\Fr (λy=>y=r) h h':=by
 have f:Fr (λy=>y=r) h h':=Fr.of_eq d2 (λc g=>d3 c g);refine⟨⟨d1,?_,H.cap,j,H.ap,H.len,i⟩,f⟩;by_cases e:bs= []
 .subst e;exact Row.nil
 .exact H.row.frame f (λa d b=>H.ap e ⟨a,d,b⟩)
theorem HE(H:tS h r p c bs pos left)(K: ∀h',sD bs pos=true->pos<bs.length->tS h' r p c bs (pos+1) left->Fr (λy=>y=r) h h'->R (.bool true) h')(k:sD bs pos=false->R (.bool false) h):ar Tryz.prog 310 #[.P r 0] h R:=by
 have b:=H.cR;have m:=H.len;refine vg.walk (aK.of λJ g=>⟨_,aw b,_,_,_,aw b,?_⟩);by_cases d:pos<bs.length
 .rw[fO];obtain⟨a,rfl⟩:=H.row.some (by cases bs with|nil=>simp at d|cons=>simp[bc]);have j:(bc bs)[pos]? =some (.int .u8 ((bs[pos]).toNat:Int)):=by unfold bc;rw[aM,aj d];rfl
  have C:=H.row.cell j;have f:sD bs pos=decide ((bs[pos]).toNat=255):=by unfold sD;rw[aj d]
  generalize (bs[pos]).toNat=x at C f;refine⟨_,_,_,aw b,_,aw b,⟨ae,ae⟩,ay.2 ⟨_,by rw[aI,cr];exact C,?_⟩⟩;subst g;dsimp only;split
  .rename_i q;refine⟨_,aw b,bB b (by show 1<3;omega) λi d1 d2 d3=> ?_⟩;rw[bz ae ae]at d1;obtain⟨q1,q2⟩:=H.set (pos':=pos+1) ae H.left d1 d2 d3;exact K i (by rw[f];have:=eq_of_beq q;exact aq ae) d q1 q2
  .rename_i q;exact k (by rw[f];exact az λe=>q (by rw[e];rfl))
 .rw[ag (λe=>d (cf (aQ e)))];subst g;dsimp only;rw[cW];exact k (by unfold sD;rw[dh ae])
theorem Gb{m:Nat}(hk:R (.bool (pk m)) h):ar Tryz.prog 317 #[.I (m:Int)] h R:=by
 refine B1.walk ?_;have a:((m:Int)==7)=decide (m=7):=by
  by_cases e:m=7
  .subst e;rfl
  .rw[az e,dj];omega
 have hk: ∀q,q=pk m->R (.bool q) h:=λq e=>by rw[e];exact hk
 unfold pk at hk;rw[a];split
 .rename_i q2;split
  .rename_i Q;exact hk _ (by rw[aq];rfl;have:=aQ q2;have:=aQ Q;omega)
  .rename_i Q;exact hk _ (by rw[az (p:=2<=m/\m<=5)];rfl;intro e;exact Q (aq ae))
 .rename_i q2;exact hk _ (by rw[az (p:=2<=m/\m<=5)];rfl;intro e;exact q2 (aq ae))
theorem byte_at(b:Row h p (bc bs)){i:Nat}(H:i<bs.length): ∃a,p=some a/\aB h (a.add (i*1))=some (.int .u8 ((bs[i]).toNat:Int)):=by
 obtain⟨a,rfl⟩:=b.some (by cases bs with|nil=>simp at H|cons=>simp[bc]);exact⟨a,rfl,by rw[cr];exact b.cell (v:=.int .u8 ((bs[i]).toNat:Int)) (by unfold bc;rw[aM,aj H];rfl)⟩
theorem VJ: ∀x:Fin 256,IntKind.wrap .i64 (Int.fdiv (x.val:Int) (2 ^ min (Int.toNat 5) (IntKind.bits .u8)))=((x.val/32:Nat):Int):=cM
theorem Sz: ∀x:Fin 256,IntKind.wrap .u8 ((BitVec.ofInt (IntKind.bits .u8) (x.val:Int) &&& BitVec.ofInt (IntKind.bits .u8) 31).toNat:Int)=((x.val%32:Nat):Int):=cM
theorem wZ{n:Nat}(h:n<18446744073709551616):IntKind.wrap .u64 (n:Int)=(n:Int):=by
 have e:IntKind.wrap .u64 (n:Int)=(n:Int)%18446744073709551616:=by simp[IntKind.wrap,IntKind.bits,IntKind.signed]
 rw[e];omega
theorem QV{v y:Nat}(H:v<72057594037927936)(a:y<256):IntKind.wrap .u64 ((BitVec.ofInt (IntKind.bits .u64) (IntKind.wrap .u64 ((v:Int)*2 ^ min (Int.toNat 8) (IntKind.bits .u64)))|||BitVec.ofInt (IntKind.bits .u64) (IntKind.wrap .u64 (y:Int))).toNat:Int)=((v*256+y:Nat):Int):=by
 have e1:(v:Int)*2 ^ min (Int.toNat 8) (IntKind.bits .u64)=((v*256:Nat):Int):=by
  rw[show(2:Int) ^ min (Int.toNat 8) (IntKind.bits .u64)=256 from rfl];omega
 rw[e1,wZ (n:=v*256) ae,wZ (n:=y) ae];have e2:((BitVec.ofInt (IntKind.bits .u64) ((v*256:Nat):Int)|||BitVec.ofInt (IntKind.bits .u64) (y:Int)).toNat)=v*256+y:=by
  rw[BitVec.toNat_or,BitVec.ofInt_natCast,BitVec.ofInt_natCast,BitVec.toNat_ofNat,BitVec.toNat_ofNat];rw[show(2:Nat) ^ IntKind.bits .u64=18446744073709551616 from rfl,fL ae,fL ae];have:=Nat.two_pow_add_eq_or_of_lt (i:=8) (b:=y) ae v;rw[show(2:Nat) ^ 8=256 from rfl]at this;rw[fG v 256];exact this.symm
 rw[e2];exact wZ ae
theorem DX(Q:Row h p (bc bs))(hl:l=bs.length)(j':bs.length<=1000000)(hp:pos<=bs.length)(k1: ∀h' (m n next:Nat) (o:Bool),CJ bs pos=.ok (m,n,o,next)->Fr No h h'->R (.tuple #[.agg #[.I (m:Int),.U (n:Int),.bool o],.I (next:Int),.I 0]) h')(k2: ∀h' e,CJ bs pos=.error e->Fr No h h'->e≠0->R (.tuple #[.agg #[.I 0,.U 0,.bool false],.I 0,.I e]) h'):ar Tryz.prog 309 #[.slice p l c,.I (pos:Int)] h R:=by
 subst hl;refine JG.walk (bp.box λb s eb D f1=>aK.of λg' hJ=> ?_);rw[cW,az ae];subst hJ;dsimp only;rw[cW];have zb:=aF D;have err: ∀g e,Fr No s g->CJ bs pos=.error e->e≠0->bp.ST g (AA b 0) 0 0 false λj=>bp.LD j (AA b 0) λJ K L=>R (.tuple #[.agg #[.I J,.U K,.bool L],.I 0,.I e]) j:=λg e F hx w=>
  bp.set (F.get D id) λj d1 d2 d3=>bp.ld d1 (k2 j e hx ((f1.tt F).fresh (Fr.of_eq (S:=λy=>y=b) d2 (λc d=>d3 c d)) (λy e=>ae)) w)
 by_cases w:pos=bs.length
 .rw[af (by rw[w];simp)];exact err s 8 (Fr.refl _ _) (by unfold CJ;rw[dh ae]) cM
 rw[ag (λe=>w (cf (eq_of_beq e)))];have O:pos<bs.length:=ae
 obtain⟨a,rfl,B⟩:=byte_at Q O;have H:CJ bs pos=CJ bs pos:=rfl;conv at H=>rhs;unfold CJ;rw[aj O]
 dsimp only at H;have X:=(bs[pos]).toNat_lt;generalize (bs[pos]).toNat=x at B H X;refine⟨⟨ae,ae⟩,ay.2 ⟨_,f1.cell (by rw[aI];exact B) id,bp.new λb1 u i' k f2=>⟨⟨ae,ae⟩,ay.2 ⟨_,(f1.tt f2).cell (by rw[aI];exact B) id,?_⟩⟩⟩⟩;have k':=aF k;have z2:=f2.1;have z1:=f1.1;rw[VJ ⟨x,X⟩]at k;rw[Sz ⟨x,X⟩];rw[show(⟨x,X⟩:Fin 256).val=x from rfl]at k⊢;have f':x/32<8:=ae
 generalize em:x/32=m at k H f';have b':x%32<32:=ae
 generalize x%32=f at H b'⊢;rw[bz (n:=(pos:Int)+1) ae ae];have ok: ∀g (n next:Nat) (o:Bool),bp.at g b1 (m:Int) (n:Int) o->bp.at g b 0 0 false->Fr No h g->CJ bs pos=.ok (m,n,o,next)->
   bp.LD g (AA b1 0) λt0 t1 t2=>bp.ST g (AA b 0) t0 t1 t2 λv=>bp.LD v (AA b 0) λJ K L=>R (.tuple #[.agg #[.I J,.U K,.bool L],.I (next:Int),.I 0]) v:=λg n next o q1 q2 F s=>
  bp.ld q1 (bp.set q2 λv d1 d2 d3=>bp.ld d1 (k1 v m n next o s (F.fresh (Fr.of_eq (S:=λy=>y=b) d2 (λc d=>d3 c d)) (λy e=>ae))))
 have z:=f1.tt f2;have G:=f2.get D id;by_cases C:f<24
 .rw[fO];rw[af C]at H;refine bB k (by show 1<3;omega) λj d1 d2 d3=> ?_
  rw[wZ ae]at d1;exact ok j f (pos+1) false d1 ((d3 b ae).trans G) (z.fresh (Fr.of_eq (S:=λy=>y=b1) d2 (λc d=>d3 c d)) (λy e=>ae)) H
 rw[ag (λe=>C (cf (aQ e)))];rw[ag C]at H;refine aK.of λT c'=> ?_
 have rest: ∀q,q=decide (f=31/\pk m=true)->T q u:=by
  intro q P;subst c';dsimp only;cases q with
  |true=>
   rw[af rfl];rw[af (aQ P.symm)]at H;refine bB k (by show 2<3;omega) λj d1 d2 d3=> ?_
   exact ok j 0 (pos+1) true d1 ((d3 b ae).trans G) (z.fresh (Fr.of_eq (S:=λy=>y=b1) d2 (λc d=>d3 c d)) (λy e=>ae)) H
  |false=>
   rw[cW];rw[ag (fj P.symm)]at H;by_cases A:f>27
   .rw[fO];rw[af A]at H;exact err u 3 f2 H cM
   rw[ag (λe=>A (cf (aQ e)))];rw[ag A]at H;have V:IntKind.wrap .u8 ((f:Int) - 24)=(f:Int) - 24:=wrap_u8 ae ae;rw[V,cW];obtain⟨N,W,lN,gN,Y⟩: ∃N:Nat,IntKind.wrap .i64 (1*2 ^ min (Int.toNat ((f:Int) - 24)) (IntKind.bits .i64))=(N:Int)/\N<=8/\1<=N/\2 ^ (f - 24)=N:=by
    have:f=24\/f=25\/f=26\/f=27:=ae
    rcases this with rfl|rfl|rfl|rfl
    .exact⟨1,db,ae,ae,rfl⟩
    .exact⟨2,db,ae,ae,rfl⟩
    .exact⟨4,db,ae,ae,rfl⟩
    .exact⟨8,db,ae,ae,rfl⟩
   rw[Y]at H;rw[W,bz (n:=(bs.length:Int) - ((pos:Int)+1)) ae ae];by_cases cs:(N:Int)>(bs.length:Int) - ((pos:Int)+1)
   .rw[af (aq cs)];rw[fO]at H;exact err u 8 f2 H cM
   rw[ag (λe=>cs (aQ e))];rw[cW]at H;refine⟨λt g=> ∃i:Nat,t=(i:Int)/\i<=N/\bp.at g b1 (m:Int) (OX ((bs.drop (pos+1)).take i):Int) false/\Fr (λy=>y=b1) u g,λt _=>N - t.toNat,⟨0,rfl,bP _,by rw[dM];exact k,Fr.refl _ _⟩,?_⟩;rintro _ g ⟨i,rfl,hi,I,F⟩;have M:Fr No h g:=z.fresh F (λy e=>ae);by_cases d':i<N
   .rw[fO,bz (n:=(pos:Int)+1+(i:Int)) ae ae];obtain⟨a',Z,U⟩:=byte_at Q (i:=pos+1+i) ae;cases Z;refine⟨_,aw I,⟨ae,ae⟩,ay.2 ⟨_,by rw[show Int.toNat ((pos:Int)+1+(i:Int))=pos+1+i by omega];exact M.cell U id,?_⟩⟩;have hv:=KL ((bs.drop (pos+1)).take i);have e':=fv (n:=256) ae (show((bs.drop (pos+1)).take i).length<=7 by rw[bF];omega);rw[show(256:Nat) ^ 7=72057594037927936 from rfl]at e';refine bB I (by show 1<3;omega) λg2 d1 d2 d3=> ?_
    rw[QV ae (bs[pos+1+i]).toNat_lt,<-C8]at d1;rw[bz (n:=(i:Int)+1) ae ae];refine⟨⟨i+1,ae,ae,?_,F.tt (Fr.of_eq d2 (λc d=>d3 c d))⟩,by show N - Int.toNat ((i:Int)+1)<N - Int.toNat (i:Int);omega⟩;rw[bL,ft,aj ae];exact d1
   .rw[ag (λe=>d' (cf (aQ e)))];obtain rfl:i=N:=ae
    rw[bz (n:=(pos:Int)+1+(i:Int)) ae ae,show(pos:Int)+1+(i:Int)=((pos+1+i:Nat):Int) by omega];exact ok g _ (pos+1+i) false I (F.get G ae) M H
 split
 .rename_i q;have q:f=31:=by have:=eq_of_beq q;omega
  refine⟨_,aw k,Gb ⟨_,rfl,rest _ (by rw[q];simp)⟩⟩
 .rename_i q;exact rest false (by rw[eq_comm,ee];intro e;exact q (by rw[e.1];decide))

end Cb
end
section
namespace Cb
variable {h h':ai} {R E:fx} {p:cj} {r c:Nat} {bs:List UInt8} {pos left:Nat}
theorem yx(H:tS h r p c bs pos left)(M: ∀h' (m n next:Nat) (o:Bool),CJ bs pos=.ok (m,n,o,next)->tS h' r p c bs next left->Fr (λy=>y=r) h h'->R (.agg #[.I (m:Int),.U (n:Int),.bool o]) h')(N: ∀h' e,CJ bs pos=.error e->Fr No h h'->E (Oo e) h'):gT Tryz.prog 281 #[.P r 0] h R E:=by
 refine vf.walk (bp.box λb l O w f1=>aK.of λJ v=> ?_);have a:=H.on f1;have U:=aF H.cR;have T:=aF w;have done: ∀g b1 (m n next:Nat) (o:Bool),bp.at g b1 (m:Int) (n:Int) o->l.size<=b1->Fr No l g->CJ bs pos=.ok (m,n,o,next)->J (some (AA b1 0)) (next:Int) 0 g:=by
  intro g b1 m n next o k Z f q1;have q2:=(xu q1).2.1;subst v;have t:=a.on f;refine gz (λ_=>⟨rfl,bB t.cR (by show 1<3;omega) λC d1 d2 d3=> ?_⟩) (λe=>absurd e cM);obtain⟨z,f5⟩:=t.set (pos':=next) q2 H.left d1 d2 d3;have D:=(d3 b1 (cf f1.1)).trans k;have I:=(d3 b (cf f1.1)).trans (f.get w id);refine ay.2 (bp.ld D (bp.set I λu e1 e2 A=>bp.ld e1 ?_));have f6:Fr (λy=>y=b) C u:=Fr.of_eq e2 (λc j=>A c j);refine M u m n next o q1 (z.frame f6 ae (λy L e d=> ?_)) ?_
  .have:=ja H.row (by cases K:bs with|nil=>exact absurd K e|cons=>simp[bc]) L;omega
  .exact(Fr.no (f1.tt f) f5).trans f6 (λ_ _=>id) (λx i e=>ae)
 have fail: ∀g b1 e,Fr No l g->CJ bs pos=.error e->e≠0->J (some (AA b1 0)) 0 e g:=by
  intro g b1 e f i d;subst v;exact gz (λq=>absurd (cD q) d) (λ_=>N g e i (f1.tt f))
 refine⟨_,_,_,aw a.cR,_,aw a.cR,?_,?_,trivial⟩
 .refine DX a.row rfl H.len H.pos (λg m n next o q1 f=>⟨_,_,_,_,_,rfl,bp.new λb1 G e1 k F=>⟨rfl,done G b1 m n next o k (cf f.1) (f.tt F) q1⟩⟩) (λg e i f d=>⟨_,_,_,_,_,rfl,bp.new λb1 G e1 k F=>⟨rfl,fail G b1 e (f.tt F) i d⟩⟩)
 .refine bp.box λB P e2 s f10=>⟨cz (a.on f10).cR rfl,cz (a.on f10).cR rfl,?_⟩
  have Q:=aF s;refine DX (a.on f10).row rfl H.len H.pos (λg m n next o q1 f=>⟨_,_,_,_,_,rfl,bp.set (f.get s id) λG d1 d2 d3=>⟨rfl,done G B m n next o d1 ae ((f10.tt f).fresh (Fr.of_eq (S:=λy=>y=B) d2 (λc j=>d3 c j)) (λy e=>ae)) q1⟩⟩) (λg e i f d=>⟨_,_,_,_,_,rfl,bp.set (f.get s id) λG d1 d2 d3=>⟨rfl,fail G B e ((f10.tt f).fresh (Fr.of_eq (S:=λy=>y=B) d2 (λc j=>d3 c j)) (λy e=>ae)) i d⟩⟩)

end Cb
end
section
namespace Cb
variable {V:List UInt8→Bool} {h h0 h':ai} {R E:fx} {p:cj} {r l c:Nat} {bs:List UInt8} {pos left:Nat}
variable {c0 c1 C:Nat} {K:Option Value->ai->Prop}
def lW(V:List UInt8->Bool)(h0:ai):Prop:= ∀(g:ai)(p:cj)(c:Nat)(bs:List UInt8)(R:fx),Fr No h0 g->Row g p (bc bs)->bs.length<=1000000->bs.length<=c->(∀G,Fr No g G->R (.bool (V bs)) G)->ar Tryz.prog 316 #[.slice p bs.length c] g R
theorem DY {m n : Nat} {o : Bool} (U : lW V h0) (u : Fr No h0 h) (H : tS h r p c bs pos left) (hn : n < 18446744073709551616)
    (k1 : ∀ h' (v : BV), lE V bs pos m n = .ok v.b → v.ok h' (λy => h.size ≤ y) → v.b.length = n → pos + n ≤ bs.length → tS h' r p c bs (pos + n) left → Fr (λy => y = r) h h' → R v.val h')
    (kE : ∀ h' e, lE V bs pos m n = .error e → Fr No h h' → E (Oo e) h') : gT Tryz.prog 311 #[.pointer (some ⟨r, 0, none⟩), .agg #[.int .i64 (m : Int), .int .u64 (n : Int), .bool o]] h R E := by
  refine tL.walk (bp.box λb h1 eb hb f1 => ?_)
  have H1 := H.on f1
  have zr := aF H.cR
  have zb := aF hb
  have hp := H.pos
  have hlen := H.len
  have VK := H.cap
  refine ⟨_, cz hb rfl, _, _, _, cz H1.cR rfl, _, cz H1.cR rfl, ?_⟩
  rw [bz (n := ((bs.length : Nat) : Int) - (pos : Int)) (by omega) (by omega), wrap_u64 (by omega) (by omega)]
  refine gz (λhq => ?_) (λhq => kE h1 8 (by have := of_decide_eq_false hq; unfold lE; rw [if_neg (by omega)]) f1)
  have hq : pos + n ≤ bs.length := by have := of_decide_eq_true hq; omega
  have eD : (bs.take (pos + n)).drop pos = (bs.drop pos).take n := by rw [List.take_drop]
  have e1 : IntKind.wrap .i64 ((pos : Int) + (IntKind.wrap .i64 (n : Int))) = ((pos + n : Nat) : Int) := by rw [bz (n := (n : Int)) (by omega) (by omega), bz (by omega) (by omega)]; omega
  refine ⟨rfl, cz H1.cR rfl, cz H1.cR rfl, cz hb rfl, _, _, _, cz H1.cR rfl, _, cz H1.cR rfl, _, cz H1.cR rfl, _, cz hb rfl, ⟨by rw [e1]; omega, by rw [e1]; omega⟩, ⟨by omega, by rw [e1]; omega⟩, ?_⟩
  rw [e1]
  have row : Row h1 (cE p c (Int.toNat (pos : Int)) 1) (bc ((bs.take (pos + n)).drop pos)) := by
    have := H1.row.sub (cap := c) (l := pos) (u := pos + n) (sz := 1) (by omega) (by omega)
    rw [Nat.mul_one, Nat.mul_one] at this
    rw [Int.toNat_natCast]
    unfold bc at this ⊢
    rw [List.map_drop, List.map_take]
    exact this
  have ln : ((bs.take (pos + n)).drop pos).length = n := by rw [List.length_drop, List.length_take]; omega
  refine kk.gK row (by rw [ln]; omega) (by rw [ln]; omega) λp' c' h3 o3 f3 g3 => ⟨_, _, _, rfl, cz (f3.get hb id) rfl, cz (H1.on f3).cR rfl, cz (H1.on f3).cR rfl, cz (H1.on f3).cR rfl, aK.of λJ hJ => ⟨_, cz (f3.get hb id) rfl, ?_⟩⟩
  have done : ∀ g, Fr No h3 g → (m ≠ 3 ∨ V ((bs.drop pos).take n) = true) → J g := by
    intro g fg hv
    subst hJ
    have Hg := (H1.on f3).on fg
    have VL := (f3.tt fg).get hb id
    refine ⟨_, cz Hg.cR rfl, _, cz VL rfl, bB Hg.cR (by show 1 < 3; omega) λh5 d1 d2 d3 => ?_⟩
    rw [e1] at d1
    obtain ⟨H5, f5⟩ := Hg.set (pos' := pos + n) hq H.left d1 d2 d3
    have ov := (o3.frame fg (λ_ _ => id)).frame f5 (λy hy e => by have := g3 y hy; have := f1.1; omega)
    refine k1 h5 ⟨p', c', (bs.take (pos + n)).drop pos⟩ (by unfold lE; rw [if_pos (by omega), if_pos hv]; exact congrArg _ eD.symm) (BV.lC ov (λy hy => by have := g3 y hy; have := f1.1; omega)) ln hq H5 (Fr.no (f1.tt (f3.tt fg)) f5)
  split
  · rename_i q
    exact gz (λ_ => ⟨rfl, rfl, done h3 (Fr.refl _ _) (.inl λe => by rw [e] at q; exact absurd q (by decide))⟩) (λe => absurd e (by decide))
  · rename_i q
    have m3 : m = 3 := by
      have : ¬ ((m : Int) ≠ 3) := λe => q (by simpa using e)
      omega
    refine U h3 p' c' _ _ (u.tt (f1.tt f3)) o3.iT (by rw [ln]; omega) o3.le λg fg => ⟨_, rfl, ?_⟩
    rw [eD]
    exact gz (λhv => ⟨rfl, rfl, done g fg (.inr hv)⟩) (λhv => kE g 3 (by unfold lE; rw [if_pos (by omega), if_neg (λe => e.elim (λe => e m3) (λe => by rw [hv] at e; cases e))]) (f1.tt (f3.tt fg)))
def tM(g:ai)(r:Nat):Nat:=match aB g ⟨r,1,none⟩with
 |some (.int _ z)=>z.toNat
 |_=>0
theorem tS.tM(H:tS h r p c bs pos left):tM h r=pos:=by
 unfold Cb.tM;rw[show aB h (AA r 1)=some (.I (pos:Int))from aw H.cR];exact aI _
theorem AW{D:Nat->Prop}{v:BV}{m:Int}(H:v.ok h D):gn h D (.mk m 0 v.b []) ⟨m,0,v,none,0,0⟩:=by
 unfold gn;exact⟨⟨rfl,rfl,rfl,H⟩, [],⟨rfl,Row.nil,λe=>absurd rfl e,aZ _⟩,by unfold cS;trivial⟩
theorem JH{m n:Nat}{o:Bool}(U:lW V h0)(u:Fr No h0 h)(hr:h0.size<=r)(H:tS h r p c bs pos left)(hn:n<18446744073709551616)(k1: ∀h' (x:CV) (b:List UInt8) (next:Nat),Bt V bs pos m n o=.ok (b,next)->gn h' (λy=>h.size<=y) (.mk m 0 b []) x->tS h' r p c bs next left->Fr (λy=>y=r) h h'->R x.agg h')(D: ∀h' e,Bt V bs pos m n o=.error e->Fr (λy=>y=r) h h'->E (Oo e) h'):gT Tryz.prog 284 #[.P r 0,.agg #[.I (m:Int),.U (n:Int),.bool o]] h R E:=by
 refine r8.walk (bp.box λb h1 eb J f1=>aa.box λb1 h2 V' g' f2=>⟨_,aw (f2.get J id),aa.new λB j W' Y f4=>⟨_,aw ((f2.tt f4).get J id),?_⟩⟩);have zr:=aF H.cR;have zb:=aF J;have Tj:=aF g';have Sj:=aF Y;have z1:=f1.1;have z2:=f2.1;have z4:=f4.1;have F:=f1.tt (f2.tt f4);have H4:=H.on F;have j':=(f2.tt f4).get J id;have i':=f4.get g' id;have Z':=H.len;have z: ∀y,aP p y->bs≠ []->y<h.size:=λy d e=>ja H.row (by cases C':bs with|nil=>exact absurd C' e|cons=>simp[bc]) d
 have fin: ∀g (v:BV) (next:Nat),aa.at g B m 0 v.p v.b.length v.c none 0 0->aa.at g b1 0 0 none 0 0 none 0 0->v.ok g (λy=>j.size<=y)->Bt V bs pos m n o=.ok (v.b,next)->tS g r p c bs next left->Fr (λy=>y=r\/y=B) j g->
   aa.LD g (AA B 0) λt0 t1 R' Q' P' U' T' S'=>aa.ST g (AA b1 0) t0 t1 R' Q' P' U' T' S' λA=>aa.LD A (AA b1 0) λr0 r1 L' K' J' O' N' M'=>R (.agg #[.I r0,.U r1,.slice L' K' J',.slice O' N' M']) A:=by
  intro g v next q2 q1 qv ql qr qf;refine aa.ld q2 (aa.set q1 λA d1 d2 d3=>aa.ld d1 ?_);have f7:Fr (λy=>y=b1) g A:=Fr.of_eq d2 (λc s=>d3 c s);refine k1 A ⟨m,0,v,none,0,0⟩ v.b next ql (AW ((qv.frame f7 (λy d e=>ae)).mono (λy d=>ae))) (qr.frame f7 ae (λy d e w=>cf (z y d e))) ?_;exact((Fr.no F qf).trans f7 (S'':=λy=>y=r) (λx N e=>ae) (λx N e=>ae))
 cases o with
 |false=>
  rw[fO];refine bp.ld j' (DY U (u.tt F) H4 hn (λX v pv H' lv le H5 f5=>⟨_,_,_,rfl,?_⟩) (λX e pe f5=>D X e (by simp only[Bt,pe]) ((F.tt f5).mono λ_ _=>False.elim)));have A':=f5.get Y ae;refine bB A' (by show 2<4;omega) λh6 d1 d2 d3=> ?_
  have f6:Fr (λy=>y=B) X h6:=Fr.of_eq d2 (λc s=>d3 c s);refine fin h6 v (pos+n) d1 (f6.get (f5.get i' ae) ae) (H'.frame f6 (λy d e=>ae)) (by simp only[Bt,pv]) (H5.frame f6 ae (λy d e w=>cf (z y d e))) (f5.trans f6 (λ_ _=> .inl) (λ_ _=> .inr))
 |true=>
  rw[cW];refine⟨λg=> ∃(k next:Nat)(v:BV),(bs.length+1<=k+next/\C9 V bs m k next v.b=Bt V bs pos m n true)/\aa.at g B m 0 v.p v.b.length v.c none 0 0/\fy g v.p v.b.length v.c 1 (bc v.b)/\(∀y,aP v.p y->j.size<=y)/\tS g r p c bs next left/\Fr (λy=>y=r\/y=B) j g/\v.b.length<=next,λg=>bs.length+1 - tM g r,
   ⟨bs.length+1,pos,⟨none,0, []⟩,⟨ae,rfl⟩,Y,.nil rfl rfl rfl rfl,(λy ⟨a,e,_⟩=>by cases e),H4,Fr.refl _ _,bP _⟩,?_⟩
  rintro g ⟨k,next,v,⟨Y',f⟩,g2,ov,nv,I,t,hv⟩;have VM:=I.pos;have z':=t.get i' ae;have B':=t.get j' ae;obtain⟨k,rfl⟩: ∃k',k=k'+1:=⟨k - 1,ae⟩;refine HE I (λh9 w Ro H9 f9=>⟨_,rfl,?_⟩) (λw=>⟨_,rfl,?_⟩);all_goals unfold C9 at f;simp only[w,bh,au,aN]at f
  .rw[cW];exact fin h9 v (next+1) (f9.get g2 ae) (f9.get z' ae) (BV.lC (ov.frame f9 (λy d e=>cf (nv y d))) nv) f.symm H9 (t.trans f9 (λ_ _=>id) (λ_ _=> .inl))
  .rw[fO];refine yx I (λe' m' n' q' o' L t' f10=>⟨_,_,_,rfl,bp.new λb3 i X' Z f12=>aK.of λv' hJ=>⟨_,aw Z,_,aw (f12.get (f10.get B' ae) id),?_⟩⟩) (λe' e L f10=>D e' e (by rw[<-f,L]) ?_)
   .obtain⟨WY,WZ,E',_⟩:=xu L;rw[L]at f;dsimp only at f;have u':=t'.on f12;have d':Fr (λy=>y=r\/y=B) j i:=(t.trans f10 (λ_ _=>id) (λ_ _=> .inl)).on f12;have zg:=t.1;have W0:=f10.1;have P:aa.at i B m 0 v.p v.b.length v.c none 0 0:=f12.get (f10.get g2 ae) id;have F':=(ov.frame f10 (λy d e=>cf (nv y d))).frame f12 (λ_ _=>id);have G:Fr (λy=>y=r) h i:=(Fr.no F d').mono (λx N e=>ae);have w':Fr No h0 i:=u.fresh G (λy e=>ae);have done: ∀Q,Fr No i Q->(m'=m/\o'=false)->v' Q:=by
     intro Q f3 D';rw[af D']at f;subst hJ;refine⟨_,_,_,aw (f3.get P id),bp.ld (f3.get Z id) (DY U (w'.tt f3) (u'.on f3) E' (λT s' pw I' lw le b' f14=>⟨_,_,_,rfl,aw (f14.get (f3.get P id) ae),?_⟩) (λT e pe f14=>D T e (by rw[<-f,pe]) (G.on (f3.tt f14))))⟩;have G':=(F'.frame f3 (λ_ _=>id)).frame f14 (λy d e=>cf (nv y d));have lv:v.b.length<=1000000:=ae
     refine dO kk.tU kk.uU G' I'.row (by rw[jK,cr]) (ph s'.b) ae ae ?_;intro p' c' f' r' _ f15 y';rw[<-jA]at r';have z12:=f12.1;have z3:=f3.1;have W1:=f14.1;refine⟨_,_,_,rfl,bB (f15.get (f14.get (f3.get P id) ae) (λd=>cf (nv _ d))) (by show 2<4;omega) λW d1 d2 d3=>⟨rfl,?_,?_⟩⟩
     .have f16:Fr (λy=>y=B) f' W:=Fr.of_eq d2 (λc s=>d3 c s);have l': ∀y,aP p' y->j.size<=y:=λy d=>by
       rcases y' y d with a|a
       .exact nv y a
       .omega
      have O:=b'.frame f15 (λd=>cf (nv _ d)) (λy d e a'=>ig (nv _ a') (z y d e));rw[pw]at f;refine⟨k,q'+n',⟨p',c',v.b++s'.b⟩,⟨ae,f⟩,by rw[aA];exact d1,by rw[aA];exact r'.frame f16 (λy d e=>cf (l' y d)),l',O.frame f16 ae (λy d e w=>cf (z y d e)),?_,by rw[aA];omega⟩;have a1:Fr (λy=>y=r\/y=B) j T:=(d'.on f3).trans f14 (λ_ _=>id) (λ_ _=> .inl);have a2:Fr (λy=>y=r\/y=B) j f':=a1.trans f15 (λ_ _=>id) (λx N d=>cf (nv x d));exact a2.trans f16 (λ_ _=>id) (λ_ _=> .inr)
     .have x':tM W r=q'+n':=by
       have O:=b'.frame f15 (λd=>cf (nv _ d)) (λy d e a'=>ig (nv _ a') (z y d e));exact(O.frame (Fr.of_eq (S:=λy=>y=B) d2 (λc s=>d3 c s)) ae (λy d e w=>cf (z y d e))).tM
      show bs.length+1 - tM W r<bs.length+1 - tM g r;rw[x',I.tM];omega
    split
    .rename_i q;have em:m'=m:=by have:=eq_of_beq q;omega
     refine⟨_,aw Z,gz (λM=>⟨rfl,rfl,done i (Fr.refl _ _) ⟨em,by cases o' with|true=>cases M|false=>rfl⟩⟩) (λM=>D i 3 (by rw[<-f,ag (λe=>by rw[e.2]at M;cases M)]) G)⟩
    .rename_i q;exact gz (λe=>absurd e cM) (λ_=>D i 3 (by rw[<-f,ag (λe=>q (by rw[e.1];simp))]) G)
   .exact((Fr.no F t).on f10).mono (λx N e=>ae)
theorem tI:nP Tryz.prog 260 262 4 64 (.agg #[.I 0,.U 0,.Z,.Z]):=⟨db,db,rfl⟩
theorem uI:Tryz.prog.underlying 260=some (.slice 262):=db
theorem nt(x:CV): ∀v∈gV x,fH v=true:=by
 intro v H;simp only[bD,List.not_mem_nil,or_false]at H;rcases H with rfl|rfl|rfl|rfl<;>rfl
theorem gm: ∀(ts:List Tr),9*ts.length<=da ts
 | []=>bP _
 | .mk k n b l::ts=>by
  have:=gm ts;simp only[da,room,ba];omega
def Gc(V:List UInt8->Bool)(h0:ai)(r:Nat)(p:cj)(c:Nat)(bs:List UInt8)(L:Nat):Prop:= ∀(h:ai)(pos left:Nat)(R E:fx),Fr No h0 h->tS h r p c bs pos left->
 (∀h' (t:Tr) (x:CV) (next left':Nat),gB V bs L pos left=.ok (t,next,left')->gn h' (λy=>h.size<=y) t x->tS h' r p c bs next left'->Fr (λy=>y=r) h h'->R x.agg h')->
 (∀h' e,gB V bs L pos left=.error e->Fr (λy=>y=r) h h'->E (Oo e) h')->gT Tryz.prog 243 #[.pointer (some ⟨r,0,none⟩),.int .i64 (7 - (L:Int))] h R E
structure QW (h4 g:ai) (r b2:Nat) (p:cj) (c:Nat) (bs:List UInt8) (pos next left:Nat) (ts:List Tr) (ys:List CV) (q:cj) (cl:Nat):Prop where
 cR:aa.at g b2 4 0 none 0 0 q ys.length cl
 own:fy g q ys.length cl 4 (ys.flatMap gV)
 ge: ∀y,aP q y->h4.size<=y
 tr:cS g (λy=>h4.size<=y/\¬aP q y) ts ys
 room:da ts<=10*(next - pos)
 le:pos<=next
 rd:tS g r p c bs next left
 fr:Fr (λy=>y=r\/y=b2) h4 g
theorem Md{d g:ai}{b next i:Nat}{ts:List Tr}{ys:List CV}{q:cj}{cl:Nat}{deep:Int}{Φ:ai->Prop}(IH:Gc V h0 r p c bs i)(u4:Fr No h0 d)(o':h0.size<=r)(r4:r<d.size)(b4:b<d.size)(rb:r≠b)(b0:h0.size<=b)(hd:deep=6 - (i:Int))(n':i<=6)(rows: ∀y,aP p y->bs≠ []->y<d.size/\y≠b)(L:QW d g r b p c bs pos next left ts ys q cl)(hk: ∀v u left' t j' Q s,gB V bs i next left=.ok (t,u,left')->QW d v r b p c bs pos u left' (ts++ [t]) j' Q s->next<u->Φ v)(kE: ∀h' e,gB V bs i next left=.error e->Fr (λy=>y=r\/y=b) d h'->E (Oo e) h'):
  ∃(o:cj)(m T:Nat),aB g (AA b 3)=some (.slice o m T)/\
  Ce 243 #[.P r 0,.I (IntKind.wrap .i64 (deep+1))] g (λg' z=>
  ∃(I J:Int)(P:cj)(O M:Nat)(W:cj)(U S:Nat),g'=.agg #[.I I,.U J,.slice P O M,.slice W U S]/\
  aB z (AA b 3)=some (.slice o m T)/\
  aS z (.cells #[.I I,.U J,.slice P O M,.slice W U S] 262) λa' A=>
  aB A (AA b 3)=some (.slice o m T)/\
  aV Tryz.prog (Builtin.append_ #[260,260] 260 #[.slice o m T,.slice (some (AA a' 0)) 1 1]) A λi' c'=>
  ∃(Z:cj)(Y X:Nat),i'=.slice Z Y X/\
  aE c' (AA b 3) (.slice Z Y X) λb'=>Φ b') E:=by
 have zg:=L.fr.1;have m':=L.rd.len;have hp:=L.rd.pos;have l':=L.le;have ll:ys.length<=2000000:=by
  have h1:=gm ts;have h2:=L.room;have h3:=L.tr.len;omega
 refine⟨_,_,_,aw L.cR,?_⟩;rw[bz (n:=deep+1) ae ae];rw[show deep+1=7 - (i:Int) by omega];refine IH g next left _ E (u4.fresh L.fr (λy e=>ae)) L.rd (λj t x f' e' k tx H7 f7=> ?_) (λj e k f7=>kE j e k (L.fr.trans f7 (λ_ _=>id) (λ_ _=> .inl)));obtain⟨rx,lx,_,_⟩:=Da i _ _ _ _ _ L.rd.pos k;have z7:=f7.1;have B:=f7.get L.cR ae;refine⟨_,_,_,_,_,_,_,_,rfl,aw B,aa.box λb3 h8 k' d' f8=>⟨aw (f8.get B id),?_⟩⟩;have z8:=f8.1;have o8:=(L.own.frame f7 (λy H e=>cf (L.ge y H))).frame f8 (λ_ _=>id);have F: ∀y,aP q y->y<g.size:=λy H=>L.own.eg H
 refine dO tI uI o8 (ds:=gV x) (.inr ⟨_,rfl,aa.held d'⟩) rfl (nt x) ae ae λQ s h9 o9 _ f9 G=>⟨_,_,_,rfl,?_⟩
 have z9:=f9.1;have N: ∀y,aP q y->d.size<=y:=L.ge;have b9:=f9.get (f8.get B id) (λH=>cf (N _ H));refine bB b9 (by show 3<4;omega) λw d1 d2 d3=> ?_
 have f10:Fr (λy=>y=b) h9 w:=Fr.of_eq d2 (λc hc=>d3 c hc);have D: ∀y,aP Q y->d.size<=y:=λy H=>by
  rcases G y H with a|a
  .exact N y a
  .omega
 have ef:ys.flatMap gV++gV x=(ys++ [x]).flatMap gV:=by rw[cU];simp
 have H9:=(H7.on f8).frame f9 (λH=>cf (N _ H)) (λy H e f=>ig (N _ f) ((rows y H e).1));refine hk w f' e' t (ys++ [x]) Q s k ⟨?_,?_,D,?_,?_,ae,H9.frame f10 ae (λy H e he=>(rows y H e).2 he),?_⟩ lx
 .rw[aA];exact d1
 .rw[aA,<-ef];exact o9.frame f10 (λy H e=>cf (D y H))
 .have t1:=((L.tr.lt.frame f7 (λy H e=>ae)).frame f8 (λ_ _=>id)).frame f9 (λy H f=>H.1.2 f);have t2:=tx.lt.mono (D':=λy=>g.size<=y/\y<j.size) (λ_=>id);have t2:=(t2.on f8).mono (D':=λy=>g.size<=y/\y<j.size) (λ_=>id);have t2:=gn.frame f9 (λy H f=>cf (F y f)) t2;have m1:=cS.mono (D':=λy=>d.size<=y/\¬aP Q y) (λy H=>⟨H.1.1,λf=>by
   rcases G y f with a|a
   .exact H.1.2 a
   .have:=H.2;omega⟩) t1
  have m2:=gn.mono (D':=λy=>d.size<=y/\¬aP Q y) (λy H=>⟨ae,λf=>by
   rcases G y f with a|a
   .have:=F y a;omega
   .omega⟩) t2
  exact cS.frame f10 (λy H e=>ae) (m1.snoc m2)
 .rw[gX];have:=L.room;simp only[da];omega
 .have a1:=(L.fr.trans f7 (S'':=λy=>y=r\/y=b) (λ_ _=>id) (λ_ _=> .inl)).on f8;have a2:=a1.trans f9 (S'':=λy=>y=r\/y=b) (λ_ _=>id) (λx hx H=>cf (N x H));exact a2.trans f10 (λ_ _=>id) (λ_ _=> .inr)
theorem Oq {lv m n : Nat} {o : Bool} {deep : Int} (IH : Gc V h0 r p c bs lv) (u : Fr No h0 h) (hr : h0.size ≤ r) (H : tS h r p c bs pos left) (hd : deep = 6 - (lv : Int)) (VN : lv ≤ 6) (hn : n < 18446744073709551616)
    (k1 : ∀ h' (ts : List Tr) (x : CV) (next left' : Nat), mh bs (gB V bs lv) pos left n o = .ok (ts, next, left') → gn h' (λy => h.size ≤ y) (.mk 4 0 [] ts) x → tS h' r p c bs next left' → Fr (λy => y = r) h h' → R x.agg h')
    (kE : ∀ h' e, mh bs (gB V bs lv) pos left n o = .error e → Fr (λy => y = r) h h' → E (Oo e) h') : gT Tryz.prog 283 #[.pointer (some ⟨r, 0, none⟩), .agg #[.int .i64 (m : Int), .int .u64 (n : Int), .bool o], .int .i64 deep] h R E := by
  refine vh.walk (bp.box λb h1 eb hb f1 => aa.box λb1 h2 Tk JI f2 => aa.new λb2 h4 VO Vf f4 => ⟨_, cz ((f2.tt f4).get hb id) rfl, ?_⟩)
  have zr := aF H.cR
  have zb := aF hb
  have Tj := aF JI
  have Sj := aF Vf
  have z0 := u.1
  have z1 := f1.1
  have z2 := f2.1
  have z4 := f4.1
  have F4 := f1.tt (f2.tt f4)
  have H4 := H.on F4
  have G6 := (f2.tt f4).get hb id
  have TV := f4.get JI id
  have hlen := H.len
  have VP := H.pos
  have rows : ∀ y, aP p y → bs ≠ [] → y < h4.size ∧ y ≠ b2 := λy hy e => by
    have := ja H.row (by cases TW : bs with | nil => exact absurd TW e | cons => simp [bc]) hy
    omega
  have Vg : ∀ g e, mh bs (gB V bs lv) pos left n o = .error e → Fr (λy => y = r ∨ y = b2) h4 g → E (Oo e) g := λg e hx fg => kE g e hx ((Fr.no F4 fg).mono (λx hx q => by omega))
  have fin : ∀ g next left' ts ys q cl, QW h4 g r b2 p c bs pos next left' ts ys q cl → mh bs (gB V bs lv) pos left n o = .ok (ts, next, left') →
      aa.LD g ⟨b2, 0, none⟩ λt0 t1 VQ VR VS VT VU VV => aa.ST g ⟨b1, 0, none⟩ t0 t1 VQ VR VS VT VU VV λh7 => aa.LD h7 ⟨b1, 0, none⟩ λr0 r1 VW VX VY VZ V0 V1 => R (.agg #[.int .i64 r0, .int .u64 r1, .slice VW VX VY, .slice VZ V0 V1]) h7 := by
    intro g next left' ts ys q cl L hx
    refine aa.ld L.cR (aa.set (L.fr.get TV (by omega)) λh7 d1 d2 d3 => aa.ld d1 ?_)
    have f7 : Fr (λy => y = b1) g h7 := Fr.of_eq d2 (λc hc => d3 c hc)
    have o7 := L.own.frame f7 (λy hy e => by have := L.ge y hy; omega)
    have t7 := cS.frame f7 (λy hy e => by omega) L.tr
    refine k1 h7 ts ⟨4, 0, ⟨none, 0, []⟩, q, ys.length, cl⟩ next left' hx ?_ (L.rd.frame f7 (by omega) (λy hy e he => by
      have := ja H.row (by cases TW : bs with | nil => exact absurd TW e | cons => simp [bc]) hy; omega)) ?_
    · unfold gn
      exact ⟨⟨rfl, rfl, rfl, ⟨Row.nil, λe => absurd rfl e, Nat.le_refl _⟩⟩, ys, ⟨rfl, o7.iT, λ_ y hy => by have := L.ge y hy; omega, o7.le⟩, cS.mono (λy hy => by omega) t7⟩
    · exact ((Fr.no F4 L.fr).trans f7 (S'' := λy => y = r) (λx hx e => by omega) (λx hx e => by omega))
  have L0 : QW h4 h4 r b2 p c bs pos pos left [] [] none 0 := ⟨Vf, .nil rfl rfl rfl rfl, (λy ⟨a, e, _⟩ => by cases e), by unfold cS; trivial, by simp [da], Nat.le_refl _, H4, Fr.refl _ _⟩
  have step := fun {g next left' ts ys q cl} {Φ : ai → Prop} (L : QW h4 g r b2 p c bs pos next left' ts ys q cl) hk (hE : ∀ e, gB V bs lv next left' = .error e → mh bs (gB V bs lv) pos left n o = .error e) => Md (V := V) (Φ := Φ) (E := E) (deep := deep) IH (u.tt F4) hr (by omega) Sj (by omega) (by omega) hd VN rows L hk (λg e hx fg => Vg g e (hE e hx) fg)
  cases o with
  | true =>
    rw [if_pos rfl]
    refine ⟨λg => ∃ k next left' ts ys q cl, (bs.length + 1 ≤ k + next ∧ vH bs (gB V bs lv) k next left' ts = mh bs (gB V bs lv) pos left n true) ∧ QW h4 g r b2 p c bs pos next left' ts ys q cl, λg => bs.length + 1 - tM g r, ⟨_, _, _, _, _, _, _, ⟨by omega, rfl⟩, L0⟩, ?_⟩
    rintro g ⟨k, next, left', ts, ys, q, cl, ⟨V2, HF⟩, L⟩
    have VM := L.rd.pos
    obtain ⟨k, rfl⟩ : ∃ k', k = k' + 1 := ⟨k - 1, by omega⟩
    refine HE L.rd (λh6 he Ro H6 f6 => ⟨_, rfl, ?_⟩) (λhe => ⟨_, rfl, ?_⟩)
    all_goals unfold vH at HF; simp only [he, if_true, Bool.false_eq_true, if_false] at HF
    · rw [if_neg (by decide)]
      have t6 := cS.frame f6 (λy hy e => by omega) L.tr
      refine fin h6 (next + 1) left' ts ys q cl ⟨f6.get L.cR (by omega), L.own.frame f6 (λy hy e => by have := L.ge y hy; omega), L.ge, t6, by have := L.room; have := L.le; omega, by have := L.le; omega, H6, L.fr.trans f6 (λ_ _ => id) (λ_ _ => .inl)⟩ HF.symm
    · rw [if_pos (by decide)]
      refine step L (λg' next' SA t V3 q' TX hi L' Ro => ⟨rfl, ⟨k, _, _, _, _, _, _, ⟨by omega, by rw [hi] at HF; exact HF⟩, L'⟩, ?_⟩) (λe hi => by rw [← HF, hi])
      show bs.length + 1 - tM g' r < bs.length + 1 - tM g r
      rw [L'.rd.tM, L.rd.tM]
      have := L'.rd.pos
      omega
  | false =>
    rw [if_neg (by decide)]
    refine ⟨_, cz G6 rfl, _, _, _, cz H4.cR rfl, _, cz H4.cR rfl, ?_⟩
    rw [bz (n := ((bs.length : Nat) : Int) - (pos : Int)) (by omega) (by omega), wrap_u64 (by omega) (by omega)]
    refine gz (λhq => ?_) (λhq => Vg h4 8 (by have := of_decide_eq_false hq; unfold mh; dsimp only; rw [if_neg (by omega)]) (Fr.refl _ _))
    have hq : pos + n ≤ bs.length := by have := of_decide_eq_true hq; omega
    refine ⟨rfl, cz H4.cR rfl, cz H4.cR rfl, cz G6 rfl, _, cz G6 rfl, ?_⟩
    have e0 : mh bs (gB V bs lv) pos left n false = sE (gB V bs lv) n pos left [] := by unfold mh; dsimp only; rw [if_pos (by omega)]
    refine ⟨λt g => ∃ i next left' ts ys q cl, t = ((i : Nat) : Int) ∧ i ≤ n ∧ sE (gB V bs lv) (n - i) next left' ts = mh bs (gB V bs lv) pos left n false ∧ QW h4 g r b2 p c bs pos next left' ts ys q cl, λt _ => n - t.toNat, ⟨0, _, _, _, _, _, _, rfl, Nat.zero_le _, e0.symm, L0⟩, ?_⟩
    rintro _ g ⟨i, next, left', ts, ys, q, cl, rfl, hi, HF, L⟩
    by_cases V4 : i < n
    · rw [if_pos (decide_eq_true (by omega))]
      rw [show n - i = (n - (i + 1)) + 1 by omega] at HF
      unfold sE at HF
      refine step L (λg' next' SA t V3 q' TX TY L' Ro => ⟨rfl, ?_, ?_⟩) (λe TY => by rw [← HF, TY])
      · rw [wrap_u64 (n := (i : Int) + 1) (by omega) (by omega)]
        exact ⟨i + 1, _, _, _, _, _, _, by omega, by omega, by rw [TY] at HF; exact HF, L'⟩
      · rw [wrap_u64 (n := (i : Int) + 1) (by omega) (by omega)]
        show n - Int.toNat ((i : Int) + 1) < n - Int.toNat (i : Int)
        omega
    · rw [if_neg (λe => V4 (by have := of_decide_eq_true e; omega))]
      rw [show n - i = 0 by omega] at HF
      exact fin g next left' ts ys q cl L HF.symm
theorem Me(U:lW V h0)(hr:h0.size<=r): ∀L,L<=6->Gc V h0 r p c bs L:=by
 intro L;induction L with
 |zero=>
  intro _ h pos left R E u H k1 k;refine nn.walk (aa.box λb h1 eb Z f1=>yx (H.on f1) (λw m n next o i A f2=>⟨_,_,_,rfl,bp.new λb1 f f' d f4=>aK.of λJ W=> ?_⟩) (λw e i f2=>k w e (by unfold gB;rw[i]) ((f1.tt f2).mono λ_ _=>False.elim)));have z1:=f1.1;have zr:=aF H.cR;have F:Fr (λy=>y=r) h f:=(Fr.no f1 f2).on f4;have done:(m=0\/m=2\/m=3\/m=4)->J f:=by
   intro hm;subst W;exact gz (λb'=>absurd b' cM) (λ_=>k f 9 (by unfold gB;rw[i];dsimp only;rw[af hm]) F)
  refine⟨_,aw d,?_⟩;split
  .rename_i q;exact gz (λ_=>⟨rfl,rfl,done (.inl (cf (eq_of_beq q)))⟩) (λe=>absurd e cM)
  rename_i Q;refine⟨_,aw d,?_⟩;split
  .rename_i q;exact gz (λ_=>⟨rfl,rfl,done (.inr (.inl (cf (eq_of_beq q))))⟩) (λe=>absurd e cM)
  rename_i q2;refine⟨_,aw d,?_⟩;split
  .rename_i q;exact gz (λ_=>⟨rfl,rfl,done (.inr (.inr (.inl (cf (eq_of_beq q)))))⟩) (λe=>absurd e cM)
  rename_i q3;refine⟨_,aw d,?_⟩;refine gz (λq=>⟨rfl,rfl,done (.inr (.inr (.inr (cf (eq_of_beq q)))))⟩) (λq=>k f 3 (by unfold gB;rw[i];dsimp only;rw[ag];rintro(rfl|rfl|rfl|rfl)<;>first|exact Q rfl|exact q2 rfl|exact q3 rfl|exact absurd q cM) F)
 |succ L M=>
  intro t' h pos left R E u H k1 k;have M:=M ae;have zr:=aF H.cR;refine nn.walk (aa.box λb h1 eb Z f1=>yx (H.on f1) (λw m n next o i A f2=>⟨_,_,_,rfl,bp.new λb1 f f' d f4=>aK.of λJ W=> ?_⟩) (λw e i f2=>k w e (by unfold gB;rw[i]) ((f1.tt f2).mono λ_ _=>False.elim)));obtain⟨s',_,hn,_⟩:=xu i;have a:gB V bs (L+1) pos left=gB V bs (L+1) pos left:=rfl;conv at a=>rhs;unfold gB;rw[i]
  dsimp only at a;have zb:=aF Z;have u':=aF d;have z1:=f1.1;have z2:=f2.1;have z4:=f4.1;have hp:=H.pos;have j':=A.pos;have r':=A.left;have F:Fr (λy=>y=r) h f:=(Fr.no f1 f2).on f4;have U4:Fr No h0 f:=u.fresh F (λy e=>ae);have B:=A.on f4;have g':=f4.get (f2.get Z ae) id;have k': ∀y,aP p y->bs≠ []->y<h.size:=λy j e=>ja H.row (by cases i':bs with|nil=>exact absurd i' e|cons=>simp[bc]) j
  have c': ∀g (t:Tr) (x:CV) N v,aa.at g b 0 0 none 0 0 none 0 0->gn g (λy=>h1.size<=y) t x->gB V bs (L+1) pos left=.ok (t,N,v)->tS g r p c bs N v->Fr (λy=>y=r) h g->
    aa.ST g (AA b 0) x.k (x.n:Int) x.v.p x.v.b.length x.v.c x.q x.ll x.cl λz=>aa.LD z (AA b 0) λr0 r1 n' m' l' q' p' o'=>R (.agg #[.I r0,.U r1,.slice n' m' l',.slice q' p' o']) z:=by
   intro g t x N v gb T rx Hg fg;refine aa.set gb λz d1 d2 d3=>aa.ld d1 ?_
   have f9:Fr (λy=>y=b) g z:=Fr.of_eq d2 (λc hc=>d3 c hc);exact k1 z t x N v rx (gn.mono (λy j=>ae) (gn.frame f9 (λy j e=>ae) T)) (Hg.frame f9 ae (λy j e he=>cf (k' y j e))) (fg.trans f9 (λ_ _=>id) (λx hx e=>ae))
  have done:(m=0\/m=2\/m=3\/m=4)->J f:=by
   intro hm;rw[af hm]at a;subst W;refine gz (λ_=>⟨rfl,_,aw B.cR,gz (λG=>⟨rfl,_,aw B.cR,bB B.cR (by show 2<3;omega) λS d1 d2 d3=> ?_⟩) (λG=>k f 2 (by rw[a,af (cf (fj G))]) F)⟩) (λb'=>absurd (fj b') ae);have G:=aQ G;rw[cW]at a;rw[bz (n:=(left:Int) - 1) ae ae,show(left:Int) - 1=((left - 1:Nat):Int) by omega]at d1;obtain⟨I,f8⟩:=B.set (pos':=next) (left':=left - 1) j' ae d1 d2 d3;have D:=f8.get d ae;have a':=f8.get g' ae;have s:Fr (λy=>y=r) h S:=F.tt f8;have U8:Fr No h0 S:=u.fresh s (λy e=>ae);have z8:=f8.1;refine⟨_,aw D,?_⟩;split
   .rename_i q;rw[af (cf (eq_of_beq q))]at a;refine⟨_,aw D,?_⟩;refine c' S (.mk 0 n [] []) ⟨0,n,⟨none,0, []⟩,none,0,0⟩ next (left - 1) a' ?_ a I s;unfold gn;exact⟨⟨rfl,rfl,rfl,⟨Row.nil,λe=>absurd rfl e,aZ _⟩⟩, [],⟨rfl,Row.nil,λe=>absurd rfl e,aZ _⟩,by unfold cS;trivial⟩
   .rename_i Q;rw[ag (λe=>Q (by rw[e];rfl))]at a;split
    .rename_i q;have m4:m=4:=by have:=eq_of_beq q;omega
     rw[af m4]at a;refine bp.ld D (Oq M U8 hr I ae ae hn (λO ts x N v X T d' f10=>⟨_,_,_,_,_,_,_,_,rfl,?_⟩) (λO e X f10=>k O e (by rw[a,X]) (s.tt f10)));exact c' O (.mk 4 0 [] ts) x N v (f10.get a' ae) (gn.mono (λy j=>ae) T) (by rw[a,X]) d' (s.tt f10)
    .rename_i q;rw[ag (λe=>q (by rw[e];rfl))]at a;refine bp.ld D (JH U U8 hr I hn (λP x sb N Y T e' f12=>⟨_,_,_,_,_,_,_,_,rfl,?_⟩) (λP e Y f12=>k P e (by rw[a,Y]) (s.tt f12)));exact c' P (.mk m 0 sb []) x N (left - 1) (f12.get a' ae) (gn.mono (λy j=>ae) T) (by rw[a,Y]) e' (s.tt f12)
  refine⟨_,aw d,?_⟩;split
  .rename_i q;exact gz (λ_=>⟨rfl,rfl,done (.inl (cf (eq_of_beq q)))⟩) (λe=>absurd e cM)
  rename_i Q;refine⟨_,aw d,?_⟩;split
  .rename_i q;exact gz (λ_=>⟨rfl,rfl,done (.inr (.inl (cf (eq_of_beq q))))⟩) (λe=>absurd e cM)
  rename_i q2;refine⟨_,aw d,?_⟩;split
  .rename_i q;exact gz (λ_=>⟨rfl,rfl,done (.inr (.inr (.inl (cf (eq_of_beq q)))))⟩) (λe=>absurd e cM)
  rename_i q3;refine⟨_,aw d,?_⟩;refine gz (λq=>⟨rfl,rfl,done (.inr (.inr (.inr (cf (eq_of_beq q)))))⟩) (λq=>k f 3 (by rw[a,ag];rintro(rfl|rfl|rfl|rfl)<;>first|exact Q rfl|exact q2 rfl|exact q3 rfl|exact absurd q cM) F)
theorem JJ(hk: ∀h',Fr No h h'->K none h'):pn Tryz.prog 242 #[.P c0 0,.P c1 0,.P C 0] none h K:=by
 refine pX.ret.walk (cC (vG cM (hk _ (Fr.push _ _))))
theorem JK{e g0 G:Int}{u z:cj}{t s w v:Nat}{N o:Int}(h0:aa.at h c0 g0 G u t s z w v)(i:h[c1]? =some (.cells #[.I N] 3 (0,0)))(j:h[C]? =some (.cells #[.I o] 24 (0,0)))(D:c0≠c1)(F:c0≠C)(I:c1≠C)(hk: ∀h',aa.at h' c0 0 0 none 0 0 none 0 0->h'[c1]? =some (.cells #[.I 0] 3 (0,0))->h'[C]? =some (.cells #[.I e] 24 (0,0))->Fr (λy=>y=c0\/y=c1\/y=C) h h'->K none h'):
  pn Tryz.prog 242 #[.P c0 0,.P c1 0,.P C 0] (some (Oo e)) h K:=by
 refine pX.lU.walk (cC (vG cM ?_));have f:Fr No h (h.push (.cells (#[Value.I 0].setIfInBounds 0 (.I e)) 331 (0,0))):=Fr.push _ _;have a:(h.push (.cells (#[Value.I 0].setIfInBounds 0 (.I e)) 331 (0,0)))[h.size]? =some (.cells #[.I e] 331 (0,0)):=bT;have Z:=aF h0;have J:=aF i;have L:=aF j;generalize h.push (.cells (#[Value.I 0].setIfInBounds 0 (.I e)) 331 (0,0))=g at f a⊢;refine⟨_,aw a,aa.set (f.get h0 id) λG d1 d2 d3=> ?_⟩;have f1:Fr (λy=>y=c0) g G:=Fr.of_eq d2 (λc H=>d3 c H);refine⟨aw (f1.get a ae),bB (f1.get (f.get i id) ae) (by show 0<1;omega) λb A k m=> ?_⟩;have f2:Fr (λy=>y=c1) G b:=Fr.of_eq k (λc H=>m c H);refine⟨aw (f2.get (f1.get a ae) ae),bB (f2.get (f1.get (f.get j id) ae) ae) (by show 0<1;omega) λd b1 B n=> ?_⟩;have f3:Fr (λy=>y=C) b d:=Fr.of_eq B (λc H=>n c H);exact hk d (f3.get (f2.get d1 ae) ae) (f3.get A ae) b1 (((Fr.no f f1).trans f2 (S'':=λy=>y=c0\/y=c1) (λ_ _=> .inl) (λ_ _=> .inr)).trans f3 (λx _ q=>q.imp id .inl) (λ_ _ q=> .inr (.inr q)))
theorem yy(U:lW V h)(row:Row h p (bc bs))(hl:l=bs.length)(cap:bs.length<=c)(d':bs.length<=1000000)(k1: ∀h' (t:Tr) (x:CV) (next:Nat),oy V bs=.ok (t,next)->gn h' (λy=>h.size<=y) t x->Fr No h h'->R (.tuple #[x.agg,.I (next:Int),.I 0]) h')(k2: ∀h' e,oy V bs=.error e->Fr No h h'->R (.tuple #[CV.agg ⟨0,0,⟨none,0, []⟩,none,0,0⟩,.I 0,.I e]) h'):
  ar Tryz.prog 193 #[.slice p l c,.I 0] h R:=by
 subst hl;refine gT.Vw (JE.walk (aa.box λb d eb P f1=>cC (cC ?_)));have zb:=aF P;have z1:=f1.1;have f2:Fr No d (d.push (.cells #[.I 0] 3)):=Fr.push _ _;have A:(d.push (.cells #[.I 0] 3))[d.size]? =some (.cells #[.I 0] 3 (0,0)):=bT;generalize d.push (.cells #[.I 0] 3)=f at f2 A⊢;have f3:Fr No f (f.push (.cells #[.I 0] 24)):=Fr.push _ _;have j:(f.push (.cells #[.I 0] 24))[f.size]? =some (.cells #[.I 0] 24 (0,0)):=bT;have z2:=aF A;generalize f.push (.cells #[.I 0] 24)=i at f3 j⊢;have z3:=aF j;obtain⟨b1,D⟩: ∃b1,b1=d.size:=⟨_,rfl⟩;obtain⟨B,I⟩: ∃B,B=f.size:=⟨_,rfl⟩;rw[<-D]at A;rw[<-I]at j;rw[<-D,<-I];refine aK.of λe' hJ=> ?_
 rw[cW,az ae];refine⟨rfl,?_⟩;subst hJ;dsimp only;rw[cW];refine cC ?_;have f4:Fr No i (i.push (.cells #[.slice p bs.length c,.I 0,.I 256] 335)):=Fr.push _ _;have o:(i.push (.cells #[.slice p bs.length c,.I 0,.I 256] 335))[i.size]? =some (.cells #[.slice p bs.length c,.I 0,.I 256] 335 (0,0)):=bT;generalize i.push (.cells #[.slice p bs.length c,.I 0,.I 256] 335)=N at f4 o⊢;obtain⟨q,J⟩: ∃q,q=i.size:=⟨_,rfl⟩;rw[<-J]at o;rw[<-J];have T:=f2.tt f3;have u:=T.tt f4;have F:=f1.tt u;have f':=f2.1;have g':=f3.1;have S: ∀y,aP p y->bs≠ []->y<h.size:=λy H e=>ja row (by cases c':bs with|nil=>exact absurd c' e|cons=>simp[bc]) H
 have W:tS N q p c bs 0 256:=⟨o,row.frame F (λ_ _=>id),cap,bP _,λe H=>cf (S _ H e),d',ae⟩;have Q:=u.get P id;have w:=(f3.tt f4).get A id;have z:=f4.get j id;refine Me U ae 6 (aZ _) N 0 256 _ _ F W (λO t x next left' s tx X f9=> ?_) (λO e s f9=> ?_)
 .refine⟨_,_,_,_,_,_,_,_,rfl,aa.set (f9.get Q ae) λn d1 d2 d3=>aa.ld d1 ?_⟩;have g:Fr (λy=>y=b) O n:=Fr.of_eq d2 (λc a=>d3 c a);have v:=X.frame g ae (λy H e he=>cf (S y H e));refine⟨_,aw v.cR,aa.set d1 λL e1 e2 Z=> ?_⟩;have G:Fr (λy=>y=b) n L:=Fr.of_eq e2 (λc a=>Z c a);refine⟨aw (G.get v.cR ae),bB (G.get (g.get (f9.get w ae) ae) ae) (by show 0<1;omega) λM c1 C Y=> ?_⟩;have k:Fr (λy=>y=b1) L M:=Fr.of_eq C (λc a=>Y c a);refine bB (k.get (G.get (g.get (f9.get z ae) ae) ae) ae) (by show 0<1;omega) λa' m1 m2 m3=> ?_
  have m:Fr (λy=>y=B) M a':=Fr.of_eq m2 (λc a=>m3 c a);refine JJ λb' f14=>aa.ld (f14.get (m.get (k.get e1 ae) ae) id) ⟨_,aw (f14.get (m.get c1 ae) id),_,aw (f14.get m1 id),?_⟩
  have z4:=f4.1;have t13:=gn.frame f14 (λ_ _=>id) (gn.frame m (λy H e=>ae) (gn.frame k (λy H e=>ae) (gn.frame G (λy H e=>ae) (gn.frame g (λy H e=>ae) tx))));refine k1 b' t x next (by unfold oy;rw[s]) (gn.mono (λy H=>ae) t13) ?_;exact((((((F.fresh f9 (λy e=>ae)).fresh g (λy e=>ae)).fresh G (λy e=>ae)).fresh k (λy e=>ae)).fresh m (λy e=>ae)).tt f14)
 .refine JK (f9.get Q ae) (f9.get w ae) (f9.get z ae) ae ae ae λn q1 q2 q3 g=>aa.ld q1 ⟨_,aw q2,_,aw q3,?_⟩
  exact k2 n e (by unfold oy;rw[s]) ((F.fresh f9 (λy e=>ae)).fresh g (λy e=>ae))

end Cb
end
section
variable {h:ai} {R:fx}
variable {k e i:cj} {j B d c g f:Nat} {x X:Int}
theorem Mf.walk{n:Int}(l:aS h (.cells #[.I 0,.U 0,.Z,.Z] 262) λb a=>aa.ST a (AA b 0) 0 n none 0 0 none 0 0 λH=>aa.LD H (AA b 0) λr m q p o u t s=>R (.agg #[.I r,.U m,.slice q p o,.slice u t s]) H):ar Tryz.prog 205 #[.U n] h R:=aR (lq ll) Tryz.func205 l
theorem Gd.walk(m:aS h (.cells #[.I 0,.U 0,.Z,.Z] 262) λb a=>Cl 50 #[.slice k j B] a λv l=>Vl v λy w T=>aa.ST l (AA b 0) 2 0 y w T none 0 0 λH=>aa.LD H (AA b 0) λr n q p o u t s=>R (.agg #[.I r,.U n,.slice q p o,.slice u t s]) H):ar Tryz.prog 210 #[.slice k j B] h R:=aR (lq ll) Tryz.func210 m
theorem JL.walk{s:ByteArray}(m:aS h (.cells #[.I 0,.U 0,.Z,.Z] 262) λb a=>aV Tryz.prog (convert 9 22 (.string s)) a λv l=>Vl v λz y T=>aa.ST l (AA b 0) 3 0 z y T none 0 0 λH=>aa.LD H (AA b 0) λr n q p o w u t=>R (.agg #[.I r,.U n,.slice q p o,.slice w u t]) H):ar Tryz.prog 255 #[.string s] h R:=aR (lq ll) Tryz.func255 m
theorem DZ.walk(hv:aS h (.cells #[.I x,.U X,.slice e d c,.slice i g f] 262) λb V=>aS V (.cells #[.I 0,.U 0,.Z,.Z] 262) λo u=>Hl u b 2 λK' J' I'=>Cl 50 #[.slice K' J' I'] u λv Y=> ∃S Q P,v=.slice S Q P/\aE Y (AA b 2) (.slice S Q P) λw=> ∃z t j',Cc w b 3 (.slice z t j')/\aE w (AA b 3) (.Z) λZ=> ∃(I:Int->ai->Prop)(M:Int->ai->Nat),I 0 Z/\∀(t15:Int)(H:ai),I t15 H->if(decide (t15<((t:Nat):Int)))then Bd t15 t/\aO z λa=>aa.LD H (a.add (toNat t15*4)) λk' l' o' n' m' r' q' p'=>aS H (.cells #[.I 0,.U 0,.Z,.Z] 262) λp a'=>aa.ST a' (AA p 0) k' l' o' n' m' r' q' p' λl=>Hl l b 3 λn m T=>aa.LD l (AA p 0) λs' t' w' v' u' z' y' x'=>Cl 288 #[.agg #[.I s',.U t',.slice w' v' u',.slice z' y' x']] l λL' y=> ∃A C F E D K J G,L'=.agg #[.I A,.U C,.slice F E D,.slice K J G]/\Cc y b 3 (.slice n m T)/\aS y (.cells #[.I A,.U C,.slice F E D,.slice K J G] 262) λU q=>Cc q b 3 (.slice n m T)/\aV Tryz.prog (Builtin.append_ #[260,260] 260 #[.slice n m T,.slice (some (AA U 0)) 1 1]) q λM' W=> ∃O N L,M'=.slice O N L/\aE W (AA b 3) (.slice O N L) λr=>(I (wrap .i64 (t15+1)) r/\M (wrap .i64 (t15+1)) r<M t15 H)else aa.LD H (AA b 0) λA' B' E' D' C' H' G' F'=>aa.ST H (AA o 0) A' B' E' D' C' H' G' F' λs=>aa.LD s (AA o 0) λb' c' f' e' d' i' h' g'=>R (.agg #[.I b',.U c',.slice f' e' d',.slice i' h' g']) s):ar Tryz.prog 288 #[.agg #[.I x,.U X,.slice e d c,.slice i g f]] h R:=aR (lq (lq (lq (lq (sq (lq (bq (.loop [(15,.one (.int .i64))] (lq (sq (cq lf lf) (sq (bq (lq (pN 8))) lf)))))) ll))))) Tryz.func288 hv
theorem JM.walk{u:cj}{L W:Nat}(V:aS h (.cells #[.I 0,.U 0,.Z,.Z] 262) λb O=>aS O (.cells #[.I 0,.U 0,.Z,.Z] 262) λl P=>aa.ST P (AA l 0) 4 0 none 0 0 none 0 0 λQ=> ∃(I:Int->ai->Prop)(M:Int->ai->Nat),I 0 Q/\∀(t9:Int)(H:ai),I t9 H->if(decide (t9<(L:Int)))then Bd t9 L/\aO u λa=>aa.LD H (a.add (toNat t9*4)) λg' h' k' j' i' n' m' l'=>aS H (.cells #[.I 0,.U 0,.Z,.Z] 262) λo S=>aa.ST S (AA o 0) g' h' k' j' i' n' m' l' λm=>Hl m l 3 λn T t=>aa.LD m (AA o 0) λo' p' s' r' q' v' u' t'=>Cl 288 #[.agg #[.I o',.U p',.slice s' r' q',.slice v' u' t']] m λv r=> ∃w y C A z F E D,v=.agg #[.I w,.U y,.slice C A z,.slice F E D]/\Cc r l 3 (.slice n T t)/\aS r (.cells #[.I w,.U y,.slice C A z,.slice F E D] 262) λN s=>Cc s l 3 (.slice n T t)/\aV Tryz.prog (Builtin.append_ #[260,260] 260 #[.slice n T t,.slice (some (AA N 0)) 1 1]) s λE' U=> ∃K J G,E'=.slice K J G/\aE U (AA l 3) (.slice K J G) λp=>(I (wrap .i64 (t9+1)) p/\M (wrap .i64 (t9+1)) p<M t9 H)else aa.LD H (AA l 0) λw' x' A' z' y' D' C' B'=>aa.ST H (AA b 0) w' x' A' z' y' D' C' B' λq=>aa.LD q (AA b 0) λY Z c' b' a' f' e' d'=>R (.agg #[.I Y,.U Z,.slice c' b' a',.slice f' e' d']) q):ar Tryz.prog 247 #[.slice u L W] h R:=aR (lq (lq (sq (lq (bq (.loop [(9,.one (.int .i64))] (lq (sq (cq lf lf) (sq (bq (lq (pN 8))) lf)))))) ll))) Tryz.func247 V
theorem v7.walk{b:cj}{A a:Nat}(H: ∃(t6:ByteArray),qV Tryz.prog 22 9 (.slice b A a) h t6/\∃(t8:ByteArray),qV Tryz.prog 22 9 (.slice k j B) h t8/\R (.bool (t6.toList==t8.toList)) h):ar Tryz.prog 82 #[.slice b A a,.slice k j B] h R:=aR (lq ll) Tryz.func82 H
theorem JN.walk{A:Int}{m:Int}{p:cj}{o n:Nat}{s:cj}{r q:Nat}{t:Int}{a:Int}{y:cj}{w u:Nat}{D:cj}{C z:Nat}(G:aS h (.cells #[.I A,.U m,.slice p o n,.slice s r q] 262) λb E=>aS E (.cells #[.I t,.U a,.slice y w u,.slice D C z] 262) λa H=>Hi H b 0 λt6=> ∃t8,Cc H a 0 (.I t8)/\if(t6==t8)then Hu H b 1 λt12=> ∃t14,Cc H a 1 (.U t14)/\if(t12==t14)then Hl H b 2 λJ I T=>Hl H a 2 λM L K=>Cl 82 #[.slice J I T,.slice M L K] H λv l=> ∃t22,v=.bool t22/\if t22 then Hl l b 3 λP O N=>Hl l a 3 λU S Q=>Cl 289 #[.slice P O N,.slice U S Q,.func (.func 248) #[] #[]] l λV F=> ∃t29,V=.bool t29/\R (.bool t29) F else R (.bool false) l else R (.bool false) H else R (.bool false) H):ar Tryz.prog 248 #[.agg #[.I A,.U m,.slice p o n,.slice s r q],.agg #[.I t,.U a,.slice y w u,.slice D C z]] h R:=aR (lq ll) Tryz.func248 G
theorem fT.same.walk{p:cj}{s w:Nat}{q:cj}{S y:Nat}(u:if((s:Int) !=(S:Int))then R (.bool false) h else∃(I:Int->ai->Prop)(M:Int->ai->Nat),I 0 h/\∀(t17:Int)(H:ai),I t17 H->if(decide (t17<(s:Int)))then Bd t17 s/\aO p λa=>aa.LD H (a.add (toNat t17*4)) λT z E D C J G F=>aS H (.cells #[.I 0,.U 0,.Z,.Z] 262) λb r=>aa.ST r (AA b 0) T z E D C J G F λo=>Bd t17 S/\aO q λA=>aa.LD o (A.add (toNat t17*4)) λK L P O N V U Q=>aS o (.cells #[.I 0,.U 0,.Z,.Z] 262) λn t=>aa.ST t (AA n 0) K L P O N V U Q λl=>aa.LD l (AA b 0) λW Y b' a' Z e' d' c'=>aa.LD l (AA n 0) λf' g' j' i' h' m' l' k'=>Cl 248 #[.agg #[.I W,.U Y,.slice b' a' Z,.slice e' d' c'],.agg #[.I f',.U g',.slice j' i' h',.slice m' l' k']] l λv m=> ∃t29,v=.bool t29/\if(!t29)then R (.bool false) m else(I (wrap .i64 (t17+1)) m/\M (wrap .i64 (t17+1)) m<M t17 H)else R (.bool true) H):ar Tryz.prog 289 #[.slice p s w,.slice q S y,.func (.func 248) #[] #[]] h R:=aR (lq (sq (lq (cq ll lf)) (sq (lq (bq (.loop [(17,.one (.int .i64))] (lq (sq (cq lf lf) (sq (bq (lq (lq (lq (cq ll lf))))) lf)))))) ll))) Tryz.func289 u
theorem Mh.walk(o:aS h (.cells #[.I x,.U X,.slice e d c,.slice i g f] 262) λb H=> ∃t4,Cc H b 0 (.I t4)/\if(t4==0)then∃F m E,Cc H b 2 (.slice F m E)/\if(((m:Nat):Int)==0)then∃q t p,Cc H b 3 (.slice q t p)/\R (.bool (((t:Nat):Int)==0)) H else R (.bool false) H else if(t4==2)then∃t20,Cc H b 1 (.U t20)/\if(t20==0)then∃s T r,Cc H b 3 (.slice s T r)/\R (.bool (((T:Nat):Int)==0)) H else R (.bool false) H else if(t4==3)then∃t31,Cc H b 1 (.U t31)/\if(t31==0)then∃w a u,Cc H b 3 (.slice w a u)/\if(((a:Nat):Int)==0)then Hl H b 2 λA z y=>Cl 316 #[.slice A z y] H λv n=> ∃t42,v=.bool t42/\R (.bool t42) n else R (.bool false) H else R (.bool false) H else if(t4==4)then∃t47,Cc H b 1 (.U t47)/\if(t47==0)then∃D l C,Cc H b 2 (.slice D l C)/\R (.bool (((l:Nat):Int)==0)) H else R (.bool false) H else R (.bool false) H):ar Tryz.prog 298 #[.agg #[.I x,.U X,.slice e d c,.slice i g f]] h R:=aR (lq (sq (lq (bq (lq (cq ll (lq (cq ll (lq (cq ll (lq (cq ll lf)))))))))) ll)) Tryz.func298 o
theorem JO.walk{deep:Int}{left:Int}(s:aS h (.cells #[.I x,.U X,.slice e d c,.slice i g f] 262) λb l=>aK (λ(t19:Bool) (m:ai)=>if t19 then R (.I (-1)) m else Hl m b 3 λE t e'=> ∃(I:Int->Int->ai->Prop)(M:Int->Int->ai->Nat),I (wrap .i64 (left - 1)) 0 m/\∀(L:Int)(t25:Int)(H:ai),I L t25 H->if(decide (t25<(t:Int)))then Bd t25 t/\aO E λa=>aa.LD H (a.add (toNat t25*4)) λF G O N K S Q P=>aS H (.cells #[.I 0,.U 0,.Z,.Z] 262) λo q=>aa.ST q (AA o 0) F G O N K S Q P λp=>aa.LD p (AA o 0) λU V Z Y W c' b' a'=>Cl 260 #[.agg #[.I U,.U V,.slice Z Y W,.slice c' b' a'],.I (wrap .i64 (deep+1)),.I L] p λv n=> ∃t33,v=.I t33/\if(decide (t33<0))then R (.I (-1)) n else(I t33 (wrap .i64 (t25+1)) n/\M t33 (wrap .i64 (t25+1)) n<M L t25 H)else R (.I L) H) (λJ=>if(decide (deep>6))then J true l else if(decide (left<1))then J true l else aa.LD l (AA b 0) λT u z y w D C A=>Cl 298 #[.agg #[.I T,.U u,.slice z y w,.slice D C A]] l λd' r=> ∃t17,d'=.bool t17/\J (!t17) r)):ar Tryz.prog 260 #[.agg #[.I x,.U X,.slice e d c,.slice i g f],.I deep,.I left] h R:=aR (lq (sq (sq (.join [(19,.one (.bool))] lf) (cq ll lf)) (lq (sq (lq (bq (.loop [(2,.one (.int .i64)),(25,.one (.int .i64))] (lq (sq (cq lf lf) (sq (bq (lq (lq (lq (cq ll lf))))) lf)))))) ll)))) Tryz.func260 s
theorem Ge.walk(l:aS h (.cells #[.I x,.U X,.slice e d c,.slice i g f] 262) λb H=>aa.LD H (AA b 0) λt T o n m r q p=>Cl 260 #[.agg #[.I t,.U T,.slice o n m,.slice r q p],.I 1,.I 256] H λv a=> ∃t4,v=.I t4/\R (.bool (decide (t4≥0))) a):ar Tryz.prog 207 #[.agg #[.I x,.U X,.slice e d c,.slice i g f]] h R:=aR (lq ll) Tryz.func207 l
theorem Mi.walk{K:cj}{G F:Nat} (hv:aS h (.cells #[.I x,.U X,.slice e d c,.slice i g f] 262) λb m=>Hu m b 1 λt11=>Hi m b 0 λt13=>aK (λ(n:Int) (y:ai)=>Hi y b 0 λt29=>Cl 261 #[.agg #[.I t29,.U n,.bool false]] y λv z=> ∃S Q P i',v=.tuple #[.slice S Q P,.I i']/\Hl z b 2 λW V U=>aV Tryz.prog (Builtin.append_ #[22,22] 22 #[.slice K G F,.slice S Q P]) z λG' A=>Vl G' λl' k' j'=>Cc A b 2 (.slice W V U)/\aV Tryz.prog (Builtin.append_ #[22,22] 22 #[.slice l' k' j',.slice W V U]) A λH' C=>Vl H' λo' n' m'=>Hl C b 3 λp' Y J'=> ∃(I:cj->Nat->Nat->Int->ai->Prop)(M:cj->Nat->Nat->Int->ai->Nat),I o' n' m' 0 C/\∀(p:cj)(O o:Nat)(t44:Int)(l:ai),I p O o t44 l->if(decide (t44<(Y:Int)))then Bd t44 Y/\aO p' λa=>aa.LD l (a.add (toNat t44*4)) λq' r' u' t' s' x' w' v'=>aS l (.cells #[.I 0,.U 0,.Z,.Z] 262) λw b'=>aa.ST b' (AA w 0) q' r' u' t' s' x' w' v' λD=>aa.LD D (AA w 0) λy' z' C' B' A' F' E' D'=>Cl 208 #[.slice p O o,.agg #[.I y',.U z',.slice C' B' A',.slice F' E' D']] D λI' E=> ∃q T t,I'=.slice q T t/\(I q T t (wrap .i64 (t44+1)) E/\M q T t (wrap .i64 (t44+1)) E<M p O o t44 l)else R (.slice p O o) l) (λJ=>aK (λ(t14:Bool) (H:ai)=>aK (λ(c':Int) (Z:ai)=>J c' Z) (λs=>if t14 then∃f' L e',Cc H b 2 (.slice f' L e')/\s (wrap .u64 ((L:Nat):Int)) H else aK (λ(d':Int) (a':ai)=>s d' a') (λu=>if(t13==4)then∃h' N g',Cc H b 3 (.slice h' N g')/\u (wrap .u64 ((N:Nat):Int)) H else u t11 H))) (λr=>if(t13==2)then r (t13==2) m else r (t13==3) m))):ar Tryz.prog 208 #[.slice K G F,.agg #[.I x,.U X,.slice e d c,.slice i g f]] h R:=aR (lq (lq (sq (lq (.join [(5,.one (.int .u64))] (bq (sq (lq (.join [(14,.one (.bool))] (cq lf lf))) (.join [(5,.one (.int .u64))] (cq lf (lq (.join [(5,.one (.int .u64))] (cq lf lf))))))))) (lq (sq (.gS (.op 0 (.op 1 (.op 3 (.op 4 (.op 2 (.op 5 (.op 6 .done)))))))) (sq (lq (bq (.loop [(0,.one (.slice)),(44,.one (.int .i64))] (lq (sq (cq lf lf) (sq (bq ll) lf)))))) ll)))))) Tryz.func208 hv
theorem Gf.walk(n:aS h (.cells #[.I x,.U X,.slice e d c,.slice i g f] 262) λb a=>aa.LD a (AA b 0) λo p s r q y w u=>Cl 207 #[.agg #[.I o,.U p,.slice s r q,.slice y w u]] a λv H=> ∃t5,v=.bool t5/\if(!t5)then R (.tuple #[.Z,.I 3]) H else aa.LD H (AA b 0) λz A E D C I G F=>Cl 208 #[.Z,.agg #[.I z,.U A,.slice E D C,.slice I G F]] H λV m=> ∃l T t,V=.slice l T t/\R (.tuple #[.slice l T t,.I 0]) m):ar Tryz.prog 178 #[.agg #[.I x,.U X,.slice e d c,.slice i g f]] h R:=aR (lq (sq (lq (cq ll lf)) ll)) Tryz.func178 n

end
section
namespace Cb
variable {h h':ai} {R:fx} {p:cj} {l c:Nat} {bs:List UInt8}
variable {D:Nat->Prop} {t:Tr} {x:CV} {g0:ai} {bb cl:Nat} {k n:Int} {v:BV} {ts:List Tr} {ys:List CV} {q:cj}
def re(h:ai)(D:Nat->Prop)(t:Tr)(x:CV):Prop:=(x.k=t.k/\x.n=t.n/\x.v.b=t.b/\x.v.ok h D)/\∃ys:List CV,x.ll=ys.length/\fy h x.q ys.length x.cl 4 (ys.flatMap gV)/\(∀y,aP x.q y->D y)/\cS h (λy=>D y/\¬aP x.q y) t.l ys
theorem re.Rp(H:re h D t x):gn h D t x:=by
 obtain⟨e,ys,a,d,f,g⟩:=H;cases t with
 |mk k n b l=>
  unfold gn;exact⟨e,ys,⟨a,d.iT,λ_=>f,by rw[a];exact d.le⟩,cS.mono (λ_ i=>i.1) g⟩
structure PC (g0 g:ai) (bb:Nat) (k n:Int) (v:BV) (ts:List Tr) (ys:List CV) (q:cj) (cl:Nat):Prop where
 cR:aa.at g bb k n v.p v.b.length v.c q ys.length cl
 own:fy g q ys.length cl 4 (ys.flatMap gV)
 ge: ∀y,aP q y->g0.size<=y
 tr:cS g (λy=>g0.size<=y/\¬aP q y) ts ys
 fr:Fr (λy=>y=bb) g0 g
theorem D0{g:ai}{y:CV}{Φ:ai->Prop}(L:PC g0 g bb k n v ts ys q cl)(w':bb<g0.size)(ll:ys.length<=100000000)(V: ∀(G:ai)(R:fx),Fr No g G->(∀h' z,re h' (λc=>G.size<=c) t z->Fr No G h'->R z.agg h')->ar Tryz.prog 288 #[y.agg] G R)(hk: ∀m Y Q C,PC g0 m bb k n v (ts++ [t]) Y Q C->Y.length=ys.length+1->Φ m):
  aS g (.cells #[.I 0,.U 0,.Z,.Z] 262) λB e'=>
  aa.ST e' (AA B 0) y.k (y.n:Int) y.v.p y.v.b.length y.v.c y.q y.ll y.cl λj=>
  ∃(f:cj)(d T:Nat),aB j (AA bb 3)=some (.slice f d T)/\
  aa.LD j (AA B 0) λk' l' o' n' m' r' q' p'=>
  Cl 288 #[.agg #[.I k',.U l',.slice o' n' m',.slice r' q' p']] j λs' s=>
  ∃(w A:Int)(J:cj)(I E:Nat)(O:cj)(M K:Nat),s'=.agg #[.I w,.U A,.slice J I E,.slice O M K]/\
  aB s (AA bb 3)=some (.slice f d T)/\
  aS s (.cells #[.I w,.U A,.slice J I E,.slice O M K] 262) λX r=>
  aB r (AA bb 3)=some (.slice f d T)/\
  aV Tryz.prog (Builtin.append_ #[260,260] 260 #[.slice f d T,.slice (some (AA X 0)) 1 1]) r λt' c'=>
  ∃(U:cj)(S P:Nat),t'=.slice U S P/\
  aE c' (AA bb 3) (.slice U S P) λd'=>Φ d':=by
 have zg:=L.fr.1;refine aa.new λb2 h8 u' f' f8=>⟨_,_,_,aw (f8.get L.cR id),aa.ld f' (V h8 _ f8 λh9 z tz f9=>⟨_,_,_,_,_,_,_,_,rfl,aw ((f8.tt f9).get L.cR id),aa.box λb3 a' v' g' f10=>⟨aw (((f8.tt f9).tt f10).get L.cR id),?_⟩⟩)⟩
 have F:=(f8.tt f9).tt f10;have z8:=f8.1;have z9:=f9.1;have x':=f10.1;have i':=L.own.frame F (λ_ _=>id);have u: ∀y,aP q y->y<g.size:=λy H=>L.own.eg H
 refine dO tI uI i' (ds:=gV z) (.inr ⟨_,rfl,aa.held g'⟩) rfl (nt z) ae ae λQ C b' j' _ f11 i=>⟨_,_,_,rfl,?_⟩
 have y':=f11.1;have W:=f11.get (F.get L.cR id) (λH=>cf (L.ge _ H));refine bB W (by show 3<4;omega) λo d1 d2 d3=> ?_
 have f12:Fr (λy=>y=bb) b' o:=Fr.of_eq d2 (λc hc=>d3 c hc);have N: ∀y,aP Q y->g0.size<=y:=λy H=>by
  rcases i y H with a|a
  .exact L.ge y a
  .omega
 have Z:ys.flatMap gV++gV z=(ys++ [z]).flatMap gV:=by rw[cU];simp
 refine hk o (ys++ [z]) Q C ⟨?_,?_,N,?_,?_⟩ bM
 .rw[aA];exact d1
 .rw[aA,<-Z];exact j'.frame f12 (λy H e=>cf (N y H))
 .have t1:=(cS.on L.tr.lt F).frame f11 (λy H b=>H.1.2 b);have t2:=gn.mono (D':=λy=>g.size<=y/\y<a'.size) (λy H=>ae) (tz.Rp.lt.on f10);have t2:=gn.frame f11 (λy H b=>cf (u y b)) t2;have m1:=cS.mono (D':=λy=>g0.size<=y/\¬aP Q y) (λy H=>⟨H.1.1,λb=>by
   rcases i y b with a|a
   .exact H.1.2 a
   .have:=H.2;omega⟩) t1
  have m2:=gn.mono (D':=λy=>g0.size<=y/\¬aP Q y) (λy H=>⟨ae,λb=>by
   rcases i y b with a|a
   .have:=u y a;omega
   .omega⟩) t2
  exact cS.frame f12 (λy H e=>ae) (m1.snoc m2)
 .exact((L.fr.on F).trans f11 (S'':=λy=>y=bb) (λ_ _=>id) (λx hx H=>cf (L.ge x H))).trans f12 (λ_ _=>id) (λ_ _=>id)
theorem fM{n:Nat}(hk: gW h R (CV.agg ⟨0,n,⟨none,0, []⟩,none,0,0⟩)):ar Tryz.prog 205 #[.U (n:Int)] h R:=
 Mf.walk (aa.new λb H e a f2=>aa.ld a (hk H f2))
theorem QX{n:Nat}:re h D (num n) ⟨0,n,⟨none,0, []⟩,none,0,0⟩:=
 ⟨⟨rfl,rfl,rfl,⟨Row.nil,λe=>absurd rfl e,aZ _⟩⟩, [],rfl,.nil rfl rfl rfl rfl,(λy ⟨a,e,_⟩=>by cases e),by show cS h _ [] [];unfold cS;trivial⟩
theorem mV(row:Row h p (bc bs))(j:l=bs.length)(o:bs.length<=1000000)(hk: ∀h' (v:BV),v.b=bs->v.ok h' (λy=>h.size<=y)->Fr No h h'->R (CV.agg ⟨2,0,v,none,0,0⟩) h'):ar Tryz.prog 210 #[.slice p l c] h R:=by
 refine Gd.walk (aa.box λb m E d f1=>kk.gK (row.frame f1 (λ_ _=>id)) j ae λP C f o2 f2 g=>⟨_,_,_,rfl,aa.set (f2.get d id) λa d1 d2 d3=>aa.ld d1 ?_⟩);have z:=f1.1;have f3:Fr (λy=>y=b) f a:=Fr.of_eq d2 (λc i=>d3 c i);refine hk a ⟨P,C,bs⟩ rfl (BV.lC (o2.frame f3 (λy H e=>ig (g y H) (aF d))) (λy H=>cf (g y H))) ((f1.tt f2).fresh f3 (λy e=>ae))
theorem kY{l:List Tr}(h:t∈l):room t<=da l:=by
 induction l with
 |nil=>cases h
 |cons u l i=>
  simp only[da];rcases bD.1 h with rfl|h
  .omega
  .have:=i h;omega
theorem PC.zero(H:aa.at g0 bb k n v.p v.b.length v.c none 0 0):PC g0 g0 bb k n v [] [] none 0:=
 ⟨H,.nil rfl rfl rfl rfl,(λy ⟨a,e,_⟩=>by cases e),by unfold cS;trivial,Fr.refl _ _⟩
theorem yz: ∀(N:Nat)(t:Tr),deep t<=N->room t<=100000000->∀(h:ai)(D:Nat->Prop)(x:CV)(R:fx),gn h D t x->(∀h' z,re h' (λy=>h.size<=y) t z->Fr No h h'->R z.agg h')->ar Tryz.prog 288 #[x.agg] h R
 |0,.mk k n b l,hd,_,_,_,_,_,_,_=>by simp only[deep]at hd;omega
 |N+1,.mk k n b l,hd,Z,h,D,x,R,B,hk=>by
  simp only[deep]at hd;simp only[room]at Z;unfold gn at B;obtain⟨⟨rfl,rfl,rfl,a'⟩,ys,j,T⟩:=B;have lt:=T.len;have l9:=gm l;have e0:=j.len;refine DZ.walk (aa.box λbb h1 d' m f1=>aa.box λb1 h2 c' s f2=>⟨_,_,_,aw (f2.get m id),kk.gK ((a'.row.frame f1 (λ_ _=>id)).frame f2 (λ_ _=>id)) rfl ae λP C W o3 f3 G=>⟨_,_,_,rfl,bB (f3.get (f2.get m id) id) (by show 2<4;omega) λr d1 d2 d3=>⟨_,_,_,aw d1,bB d1 (by show 3<4;omega) λf e1 e2 S=> ?_⟩⟩⟩);have i':=aF m;have f':=aF s;have z1:=f1.1;have z2:=f2.1;have z3:=f3.1;have f4:Fr (λy=>y=bb) W r:=Fr.of_eq d2 (λc d=>d3 c d);have f5:Fr (λy=>y=bb) r f:=Fr.of_eq e2 (λc d=>S c d);have J:=f1.tt (f2.tt f3);have K:Fr No h f:=(J.fresh f4 (λy e=>ae)).fresh f5 (λy e=>ae);have X:=f5.get (f4.get (f3.get s id) ae) ae;have o5:=(o3.frame f4 (λy H e=>cf (G y H))).frame f5 (λy H e=>cf (G y H));have I:=PC.zero (g0:=f) (bb:=bb) (k:=x.k) (n:=(x.n:Int)) (v:=⟨P,C,x.v.b⟩) e1;refine⟨λt g=> ∃(i:Nat)(zs:List CV)(q:cj)(cl:Nat),t=(i:Int)/\i<=ys.length/\PC f g bb x.k (x.n:Int) ⟨P,C,x.v.b⟩ (l.take i) zs q cl/\zs.length=i,λt _=>ys.length - t.toNat,⟨0, [],none,0,rfl,bP _,by rw[dM];exact I,rfl⟩,?_⟩;rintro _ g ⟨i,zs,q,cl,rfl,hi,L,lz⟩;have F:Fr No h g:=K.fresh L.fr (λy e=>ae);by_cases u:i<ys.length
  .rw[fO];have H:ys[i]? =some ys[i]:=aj u;generalize ys[i]=y at H;obtain⟨t,w,ty⟩:=T.get H;have tm:=bj w;have d1:=qh tm;have r1:=kY tm;obtain⟨a,E⟩:=j.row.some (by intro e;have:=bY List.length e;rw[eO gV 4 fX,bt]at this;omega);rw[E];have A:=j.row.frame F (λ_ _=>id);rw[E]at A;refine⟨⟨ae,ae⟩,ay.2 (aa.ED (by rw[aI];exact A.gv fX H) (D0 (t:=t) L ae ae (λV O U Y=>yz N t ae ae V D y O (ty.on (F.tt U)) Y) λg' b' q' Q M e'=> ?_))⟩;rw[bz (n:=(i:Int)+1) ae ae];refine⟨⟨i+1,b',q',Q,ae,ae,?_,ae⟩,by show ys.length - Int.toNat ((i:Int)+1)<ys.length - Int.toNat (i:Int);omega⟩;rw[bL,w];exact M
  .rw[ag (λe=>u (cf (aQ e)))];rw[bG (show l.length<=i by omega)]at L;refine aa.ld L.cR (aa.set (L.fr.get X ae) λo k1 k2 k3=>aa.ld k1 ?_);have f13:Fr (λy=>y=b1) g o:=Fr.of_eq k2 (λc d=>k3 c d);have og:=o5.frame L.fr (λy H e=>cf (G y H));refine hk o ⟨x.k,x.n,⟨P,C,x.v.b⟩,q,zs.length,cl⟩ ⟨⟨rfl,rfl,rfl,BV.lC (og.frame f13 (λy H e=>cf (G y H))) (λy H=>cf (G y H))⟩,zs,rfl,L.own.frame f13 (λy H e=>rh (L.ge y H) f4.1 f5.1),(λy H=>rh (L.ge y H) f4.1 f5.1),?_⟩ (F.fresh f13 (λy e=>ae));exact cS.mono (λy H=>⟨rh H.1 f4.1 f5.1,H.2⟩) (cS.frame f13 (λy H e=>rh H.1 f4.1 f5.1) L.tr)
theorem qo(T:gn h D t x)(H:room t<=100000000)(hk: ∀h' z,re h' (λy=>h.size<=y) t z->Fr No h h'->R z.agg h'):ar Tryz.prog 288 #[x.agg] h R:=
 yz (deep t) t (aZ _) H h D x R T hk
theorem jn(b:lS h D q l cl ys)(T:cS h D ts ys)(hr:da ts<=100000000)(hk: ∀h' z,re h' (λy=>h.size<=y) (qC ts) z->Fr No h h'->R z.agg h'):ar Tryz.prog 247 #[.slice q l cl] h R:=by
 have lt:=T.len;have l9:=gm ts;have P:=b.len;refine JM.walk (aa.box λb1 X S j f1=>aa.new λbb f U m f2=> ?_);have c':=aF m;have b':=aF j;have z1:=f1.1;have z2:=f2.1;have s:=f1.tt f2;have E:=f2.get j id;have C:=PC.zero (g0:=f) (bb:=bb) (k:=4) (n:=0) (v:=⟨none,0, []⟩) m;refine⟨λt g=> ∃(i:Nat)(zs:List CV)(q:cj)(cl:Nat),t=(i:Int)/\i<=ys.length/\PC f g bb 4 0 ⟨none,0, []⟩ (ts.take i) zs q cl/\zs.length=i,λt _=>ys.length - t.toNat,⟨0, [],none,0,rfl,bP _,by rw[dM];exact C,rfl⟩,?_⟩;rintro _ g ⟨i,zs,q2,A,rfl,Y,L,lz⟩;have F:Fr No h g:=s.fresh L.fr (λy e=>ae);by_cases o:i<ys.length
 .rw[fO];have H:ys[i]? =some ys[i]:=aj o;generalize ys[i]=y at H;obtain⟨t,r,ty⟩:=T.get H;have r1:=kY (bj r);obtain⟨a,rfl⟩:=b.row.some (by intro e;have:=bY List.length e;rw[eO gV 4 fX,bt]at this;omega);have N:=b.row.frame F (λ_ _=>id);refine⟨⟨ae,ae⟩,ay.2 (aa.ED (by rw[aI];exact N.gv fX H) (D0 (t:=t) L ae ae (λW O B I=>qo (ty.on (F.tt B)) ae I) λV Z Q w u a'=> ?_))⟩;rw[bz (n:=(i:Int)+1) ae ae];refine⟨⟨i+1,Z,Q,w,ae,ae,?_,ae⟩,by show ys.length - Int.toNat ((i:Int)+1)<ys.length - Int.toNat (i:Int);omega⟩;rw[bL,r];exact u
 .rw[ag (λe=>o (cf (aQ e)))];rw[bG (show ts.length<=i by omega)]at L;refine aa.ld L.cR (aa.set (L.fr.get E ae) λd K J M=>aa.ld K ?_);have f13:Fr (λy=>y=b1) g d:=Fr.of_eq J (λc G=>M c G);refine hk d ⟨4,0,⟨none,0, []⟩,q2,zs.length,A⟩ ⟨⟨rfl,rfl,rfl,⟨Row.nil,λe=>absurd rfl e,aZ _⟩⟩,zs,rfl,L.own.frame f13 (λy H e=>cf (L.ge y H)),(λy H=>cf (L.ge y H)),?_⟩ (F.fresh f13 (λy e=>ae));exact cS.mono (λy H=>⟨cf H.1,H.2⟩) (cS.frame f13 (λy H e=>cf H.1) L.tr)

end Cb
end
section
namespace Cb
variable {V:List UInt8→Bool} {h H h':ai} {R:fx} {D:Nat→Prop}
variable {t:Tr} {x:CV}
theorem Mj{α:Type}(b:List α):(((b.length:Int))==0)=b.isEmpty:=by
 cases b with
 |nil=>rfl
 |cons a b=>simp only[ba,List.isEmpty_cons,dj,fa];omega
theorem Gg(U:lW V H)(u:Fr No H h)(T:gn h D t x)(q:room t<=1000000)(hk: gW h R (.bool (KJ V t.k t.n t.b t.l))):ar Tryz.prog 298 #[x.agg] h R:=by
 cases t with
 |mk k n b l=>
  simp only[room]at q;unfold gn at T;obtain⟨⟨rfl,rfl,rfl,O⟩,ys,L,p⟩:=T;have ll:x.ll=l.length:=by rw[L.len,p.len]
  have hk: ∀h' o,o=KJ V x.k x.n x.v.b l->Fr No h h'->R (.bool o) h':=λh' o e f=>by rw[e];exact hk h' f
  unfold KJ at hk;have N:((x.n:Int)==0)=decide (x.n=0):=by by_cases e:x.n=0<;>simp[e]
  refine Mh.walk (aa.box λbb a E c f1=>⟨_,aw c,?_⟩);by_cases K:x.k=0
  .rw[af (cD K)];simp only[K,bh]at hk;refine⟨_,_,_,aw c,?_⟩;rw[Mj];by_cases e:x.v.b.isEmpty=true
   .rw[af e];refine⟨_,_,_,aw c,hk a _ ?_ f1⟩;rw[ll,Mj,e];rfl
   .rw[ag e];refine hk a _ ?_ f1;rw[show x.v.b.isEmpty=false by cases m:x.v.b.isEmpty with|false=>rfl|true=>exact absurd m e];rfl
  rw[ag (cD K)];simp only[K,aN]at hk;by_cases d:x.k=2
  .rw[af (cD d)];simp only[d,bh]at hk;refine⟨_,aw c,?_⟩;rw[N];by_cases e:x.n=0
   .rw[af (aq e)];refine⟨_,_,_,aw c,hk a _ ?_ f1⟩;rw[ll,Mj,aq e];rfl
   .rw[ag (by rw[az e];decide)];refine hk a _ ?_ f1;rw[az e];rfl
  rw[ag (cD d)];simp only[d,aN]at hk;by_cases i:x.k=3
  .rw[af (cD i)];simp only[i,bh]at hk;refine⟨_,aw c,?_⟩;rw[N];by_cases e:x.n=0
   .rw[af (aq e)];refine⟨_,_,_,aw c,?_⟩;rw[ll,Mj];by_cases e2:l.isEmpty=true
    .rw[af e2];exact⟨_,_,_,aw c,U a _ _ x.v.b _ (u.tt f1) (O.row.frame f1 (λ_ _=>id)) ae O.cap λg F=>⟨_,rfl,hk g _ (by rw[aq e,e2];rfl) (f1.tt F)⟩⟩
    .rw[ag e2];refine hk a _ ?_ f1;rw[show l.isEmpty=false by cases m:l.isEmpty with|false=>rfl|true=>exact absurd m e2,Bool.and_false];rfl
   .rw[ag (by rw[az e];decide)];refine hk a _ ?_ f1;rw[az e];rfl
  rw[ag (cD i)];simp only[i,aN]at hk;by_cases j:x.k=4
  .rw[af (cD j)];simp only[j,bh]at hk;refine⟨_,aw c,?_⟩;rw[N];by_cases e:x.n=0
   .rw[af (aq e)];refine⟨_,_,_,aw c,hk a _ ?_ f1⟩;rw[Mj,aq e];rfl
   .rw[ag (by rw[az e];decide)];refine hk a _ ?_ f1;rw[az e];rfl
  rw[ag (cD j)];simp only[j,aN]at hk;exact hk a _ rfl f1
theorem D1(U:lW V H): ∀(N:Nat)(t:Tr),deep t<=N->room t<=1000000->∀(h:ai)(D:Nat->Prop)(x:CV)(d left:Int)(R:fx),Fr No H h->gn h D t x->0<=d->d<=7->left<=1000->
  (gW h R (.I (mg V t d left)))->ar Tryz.prog 260 #[x.agg,.I d,.I left] h R
 |0,.mk k n b l,hd,_,_,_,_,_,_,_,_,_,_,_,_,_=>by simp only[deep]at hd;omega
 |N+1,.mk k n b l,hd,w,h,D,x,d,left,R,u,T,d0,d7,hl,hk=>by
  have Y:=T;simp only[deep]at hd;have S:=w;simp only[room]at w;unfold gn at T;obtain⟨⟨rfl,rfl,rfl,d'⟩,ys,L,m⟩:=T;have lt:=m.len;have l9:=gm l;have e0:=L.len;refine JO.walk (aa.box λbb p b' s f1=>aK.of λJ r=> ?_);have bad: ∀g,Fr No h g->mg V (.mk x.k x.n x.v.b l) d left= -1->J true g:=λg f c=>by
   subst r;dsimp only;rw[af rfl];have:=hk g f;rw[c]at this;exact this
  by_cases c1:d>6
  .rw[af (aq c1)];exact bad p f1 (by unfold mg;rw[af (.inl c1)])
  rw[ag (λe=>c1 (aQ e))];by_cases C:left<1
  .rw[af (aq C)];exact bad p f1 (by unfold mg;rw[af (.inr C)])
  rw[ag (λe=>C (aQ e))];have B: ¬(d>6\/left<1):=λe=>e.elim c1 C
  unfold mg at hk bad;rw[ag B]at hk bad;refine aa.ld s (Gg U (u.tt f1) (Y.on f1) S λI f2=>⟨_,rfl,?_⟩);simp only[Tr.k,Tr.n,Tr.b,Tr.l];generalize KJ V x.k x.n x.v.b l=o at hk bad⊢;cases o with
  |false=>exact bad I (f1.tt f2) (by rw[cW])
  |true=>
   rw[af rfl]at hk;subst r;rw[cW];have P:=f2.get s id;refine⟨_,_,_,aw P,?_⟩;rw[bz (n:=left - 1) ae ae];refine⟨λlf t g=> ∃i:Nat,t=(i:Int)/\i<=ys.length/\Fr No h g/\lf<=1000/\0<=lf/\lD V (l.drop i) (d+1) lf=lD V l (d+1) (left - 1),λ_ t _=>ys.length - t.toNat,⟨0,rfl,bP _,f1.tt f2,ae,ae,rfl⟩,?_⟩;rintro lf _ g ⟨i,rfl,hi,f,W,c',c⟩;by_cases v:i<ys.length
   .rw[fO];have j:ys[i]? =some ys[i]:=aj v;generalize ys[i]=y at j;obtain⟨t,z,ty⟩:=m.get j;have tm:=bj z;have Z:=qh tm;have rm:=kY tm;have G:l.drop i=t::l.drop (i+1):=by
     obtain⟨q1,q2⟩:=aC.1 z;rw[cF q1,q2]
    rw[G]at c;obtain⟨a,E⟩:=L.row.some (by intro e;have:=bY List.length e;rw[eO gV 4 fX,bt]at this;omega);rw[E];have A:=L.row.frame f (λ_ _=>id);rw[E]at A;refine⟨⟨ae,ae⟩,ay.2 (aa.ED (by rw[aI];exact A.gv fX j) (aa.new λb1 K a' O f5=>aa.ld O ?_))⟩;rw[bz (n:=d+1) ae ae];refine D1 U N t ae ae K D y (d+1) lf _ (u.tt (f.tt f5)) (ty.on (f.tt f5)) ae ae W λM f6=>⟨_,rfl,?_⟩
    have F:=f.tt (f5.tt f6);have X:=C6 (V:=V) (t:=t) (d:=d+1) (left:=lf);conv at c=>lhs;unfold lD
    generalize mg V t (d+1) lf=q at c X⊢;by_cases Q:q<0
    .rw[af (aq Q)];rw[af Q]at c;have:=hk M F;rw[<-c]at this;exact this
    .rw[ag (λe=>Q (aQ e)),bz (n:=(i:Int)+1) ae ae];rw[ag Q]at c;exact⟨⟨i+1,ae,ae,F,ae,ae,c⟩,by show ys.length - Int.toNat ((i:Int)+1)<ys.length - Int.toNat (i:Int);omega⟩
   .rw[ag (λe=>v (cf (aQ e)))];rw[dK (show l.length<=i by omega)]at c;have:=hk g f;rw[<-c]at this;unfold lD at this;exact this
theorem eX(U:lW V H)(u:Fr No H h)(T:gn h D t x)(d:room t<=1000000)(hk: gW h R (.bool (gw V t))):ar Tryz.prog 207 #[x.agg] h R:=
 Ge.walk (aa.box λbb a e c f1=>aa.ld c (D1 U (deep t) t (aZ _) d a D x 1 256 _ (u.tt f1) (T.on f1) cM cM cM λb f2=>⟨_,rfl,hk b (f1.tt f2)⟩))

end Cb
end
section
namespace Cb
variable {h:ai} {R:fx} {D D':Nat→Prop}
theorem ot{p q:cj}{n m c d:Nat}{a b:List UInt8}(r:Row h p (bc a))(g:Row h q (bc b))(f:n=a.length)(H:m=b.length)(hk:R (.bool (decide (a=b))) h):ar Tryz.prog 82 #[.slice p n c,.slice q m d] h R:=by
 refine v7.walk ⟨_,kk.conv r f,_,kk.conv g H,?_⟩;rw[sy,sy];have:(a==b)=decide (a=b):=by by_cases e:a=b<;>simp[e]
 rw[this];exact hk
theorem D2: ∀(N:Nat)(t s:Tr),deep t<=N->room t<=100000000->∀(h:ai)(D D':Nat->Prop)(x y:CV)(R:fx),gn h D t x->gn h D' s y->(gW h R (.bool (mM t s)))->ar Tryz.prog 248 #[x.agg,y.agg] h R
 |0,.mk k n b l,_,hd,_,_,_,_,_,_,_,_,_,_=>by simp only[deep]at hd;omega
 |N+1,.mk k n b l,.mk k' n' b' L,hd,c',h,D,D',x,y,R,M,ty,hk=>by
  simp only[deep]at hd;simp only[room]at c';unfold gn at M ty;obtain⟨⟨rfl,rfl,rfl,d'⟩,xs,p,T⟩:=M;obtain⟨⟨rfl,rfl,rfl,e'⟩,ys,r,A⟩:=ty;have lx:=T.len;have ly:=A.len;have l9:=gm l;have ex:=p.len;have S:=r.len;refine JN.walk (aa.box λb1 h1 f' W f1=>aa.box λb2 j g' o f2=> ?_);have F:=f1.tt f2;have m:=f2.get W id;have no: ∀g,Fr No h g->mM (.mk x.k x.n x.v.b l) (.mk y.k y.n y.v.b L)=false->R (.bool false) g:=λg f e=>by have:=hk g f;rw[e]at this;exact this
  refine⟨_,aw m,_,aw o,?_⟩;by_cases c1:x.k=y.k
  case neg=>
   rw[ag (cD c1)];exact no j F (by unfold mM;rw[az c1];rfl)
  rw[af (cD c1)];refine⟨_,aw m,_,aw o,?_⟩;by_cases C:x.n=y.n
  case neg=>
   rw[ag (λe=>C (cf (eq_of_beq e)))];exact no j F (by unfold mM;rw[az C,Bool.and_false];rfl)
  rw[af (by rw[C];simp)];refine⟨_,_,_,aw m,_,_,_,aw o,ot (d'.row.frame F (λ_ _=>id)) (e'.row.frame F (λ_ _=>id)) rfl rfl ⟨_,rfl,?_⟩⟩;by_cases d:x.v.b=y.v.b
  case neg=>
   rw[ag (cD d)];exact no j F (by unfold mM;rw[az d,Bool.and_false];rfl)
  rw[af (cD d)];have O:mM (.mk x.k x.n x.v.b l) (.mk y.k y.n y.v.b L)=qD l L:=by unfold mM;rw[aq c1,aq C,aq d];simp
  rw[O]at hk;refine⟨_,_,_,aw m,_,_,_,aw o,?_⟩;rw[ex,S];have done: ∀g,Fr No h g->∀q,q=qD l L->∃t29:Bool,Value.bool q=.bool t29/\R (.bool t29) g:=λg f q e=>⟨q,rfl,by rw[e];exact hk g f⟩
  refine fT.same.walk ?_;by_cases cl:xs.length=ys.length
  case neg=>
   rw[af (by simp only[dJ,fa];omega)];refine done j F false ?_;cases Z:qD l L with
   |false=>rfl
   |true=>exact absurd (bY List.length ((xt l L).1 Z)) ae
  rw[ag (by simp only[dJ,fa];omega)];refine⟨λt g=> ∃i:Nat,t=(i:Int)/\i<=xs.length/\Fr No h g/\qD l L=qD (l.drop i) (L.drop i),λt _=>xs.length - t.toNat,⟨0,rfl,bP _,F,rfl⟩,?_⟩;rintro _ g ⟨i,rfl,hi,f,H⟩;by_cases G:i<xs.length
  .rw[fO];have w:xs[i]? =some xs[i]:=aj G;have z:ys[i]? =some (ys[i]' ae):=aj _;generalize xs[i]=u at w;generalize ys[i]' ae=v at z;obtain⟨t,I,tu⟩:=T.get w;obtain⟨s,hs,tv⟩:=A.get z;have tm:=bj I;have dm:=qh tm;have rm:=kY tm;have P:l.drop i=t::l.drop (i+1):=by
    obtain⟨q1,q2⟩:=aC.1 I;rw[cF q1,q2]
   have Q:L.drop i=s::L.drop (i+1):=by
    obtain⟨q1,q2⟩:=aC.1 hs;rw[cF q1,q2]
   rw[P,Q]at H;have H:qD l L=(mM t s && qD (l.drop (i+1)) (L.drop (i+1))):=by rw[H];simp only[qD]
   obtain⟨a,E⟩:=p.row.some (by intro e;have:=bY List.length e;rw[eO gV 4 fX,bt]at this;omega);obtain⟨a',B⟩:=r.row.some (by intro e;have:=bY List.length e;rw[eO gV 4 fX,bt]at this;omega);rw[E,B];have J:=p.row;have K:=r.row;rw[E]at J;rw[B]at K;refine⟨⟨ae,ae⟩,ay.2 (aa.ED (by rw[aI];exact(J.frame f (λ_ _=>id)).gv fX w) (aa.new λb3 h3 h' X f3=>⟨⟨ae,ae⟩,ay.2 (aa.ED (by rw[aI];exact(K.frame (f.tt f3) (λ_ _=>id)).gv fX z) (aa.new λb4 U i' Y f4=>aa.ld (f4.get X id) (aa.ld Y ?_)))⟩))⟩;have c:=f.tt (f3.tt f4);refine D2 N t s ae ae U D D' u v _ (tu.on c) (tv.on c) λV f6=>⟨_,rfl,?_⟩
   cases q:mM t s with
   |false=>
    rw[fO];exact done V (c.tt f6) false (by rw[H,q];rfl)
   |true=>
    rw[cW,bz (n:=(i:Int)+1) ae ae];exact⟨⟨i+1,ae,ae,c.tt f6,by rw[H,q];rfl⟩,by show xs.length - Int.toNat ((i:Int)+1)<xs.length - Int.toNat (i:Int);omega⟩
  .rw[ag (λe=>G (cf (aQ e)))];rw[dK (show l.length<=i by omega),dK (show L.length<=i by omega)]at H;exact done g f true (by rw[H];simp only[qD])
theorem iQ{t s:Tr}{x y:CV}(T:gn h D t x)(ty:gn h D' s y)(H:room t<=100000000)(hk: gW h R (.bool (mM t s))):ar Tryz.prog 248 #[x.agg,y.agg] h R:=
 D2 (deep t) t s (aZ _) H h D D' x y R T ty hk

end Cb
end
section
namespace Cb
variable {h h':ai} {R:fx}
variable {m:Int} {n:Nat}
theorem Ml(n:Nat):IntKind.wrap .u8 (n:Int)=((UInt8.ofNat n).toNat:Int):=by
 have e:IntKind.wrap .u8 (n:Int)=(n:Int)%256:=by simp[IntKind.wrap,IntKind.bits,IntKind.signed]
 rw[e,eN];omega
theorem JP{n:Int}(hk: gW h R (.bool (decide (0<=m/\m<=7)))):ar Tryz.prog 299 #[.agg #[.I m,.U n,.bool false]] h R:=by
 refine F1.walk (bp.box λb a E H f1=>⟨_,aw H,?_⟩);rw[cW];have hk:=hk a f1;refine⟨_,aw H,?_⟩;by_cases c1:m≥0
 .rw[af (aq c1)];refine⟨_,aw H,?_⟩;rw[show decide (0<=m/\m<=7)=decide (m<=7) by simp[show 0<=m from c1]]at hk;exact hk
 .rw[ag (λe=>c1 (aQ e))];rw[az (λe=>c1 e.1)]at hk;exact hk
theorem AX(hk:R (.I (C7 n:Int)) h):ar Tryz.prog 301 #[.U (n:Int)] h R:=by
 obtain⟨z,H⟩: ∃z:Int,z=(n:Int):=⟨_,rfl⟩;rw[<-H];refine DW.walk ?_;unfold C7 at hk
 repeat' split
 all_goals simp only[aY]at*
 .rw[fO]at hk;exact hk
 .rw[cW,fO]at hk;exact hk
 .rw[cW,cW,fO]at hk;exact hk
 .rw[cW,cW,cW,fO]at hk;exact hk
 .rw[cW,cW,cW,cW]at hk;exact hk
theorem Ou(hk:R (.int .u8 (wh n:Int)) h):ar Tryz.prog 300 #[.U (n:Int)] h R:=by
 refine JF.walk (AX ⟨_,rfl,?_⟩);unfold wh at hk;unfold C7;by_cases c1:n<24
 .rw[af c1]at hk⊢;rw[cW,cW,cW,cW];rw[Ml,eN,fL ae];exact hk
 rw[ag c1]at hk⊢;by_cases c:n<256
 .rw[af c]at hk⊢;rw[fO];exact hk
 rw[ag c]at hk⊢;by_cases C:n<65536
 .rw[af C]at hk⊢;rw[cW,fO];exact hk
 rw[ag C]at hk⊢;by_cases a:n<4294967296
 .rw[af a]at hk⊢;rw[cW,cW,fO];exact hk
 rw[ag a]at hk⊢;rw[cW,cW,cW,fO];exact hk
theorem Ov(n:Nat):wh n<32:=by unfold wh;repeat (first|omega|split)
theorem QY: ∀(m:Fin 8)(z:Fin 32),IntKind.wrap .u8 ((BitVec.ofInt (IntKind.bits .u8) (IntKind.wrap .u8 ((IntKind.wrap .u8 (m.val:Int))*2 ^ min (Int.toNat 5) (IntKind.bits .u8)))|||BitVec.ofInt (IntKind.bits .u8) (z.val:Int)).toNat:Int)=((32*m.val+z.val:Nat):Int):=cM
theorem Mn(n k:Nat):Int.fdiv (n:Int) (2 ^ k)=((n/2 ^ k:Nat):Int):=by
 rw[Int.fdiv_eq_ediv_of_nonneg _ (by exact_mod_cast bP (2 ^ k))]
 exact_mod_cast rfl
theorem JQ(hk: ∀h' (p:cj) (C:Nat) (e:Int),Row h' p (bc (KK m n))->(KK m n).length<=C->Fr No h h'->R (.tuple #[.slice p (KK m n).length C,.I e]) h'):ar Tryz.prog 261 #[.agg #[.I m,.U (n:Int),.bool false]] h R:=by
 refine Ga.walk (bp.box λb J I d f1=>bp.ld d (JP λH f2=>⟨_,rfl,?_⟩));by_cases cm:0<=m/\m<=7
 case neg=>
  rw[az cm,fO];have E:KK m n= []:=by unfold KK;rw[ag cm]
  rw[E]at hk;exact hk H none 0 3 Row.nil bM (f1.tt f2)
 rw[aq cm,cW];obtain⟨m,rfl⟩:=gR cm.1;have c:=f2.get d id;refine⟨_,aw c,?_⟩;rw[cW];refine⟨_,aw c,_,aw c,Ou ⟨_,rfl,aw c,cC ?_⟩⟩;have F:=f1.tt f2;have i32:=Ov n;rw[QY ⟨m,ae⟩ ⟨wh n,i32⟩];rw[show(32*(⟨m,ae⟩:Fin 8).val+(⟨wh n,i32⟩:Fin 32).val)=32*m+wh n from rfl];have z:((32*m+wh n:Nat):Int)=((UInt8.ofNat (32*m+wh n)).toNat:Int):=by rw[eN,fL ae]
 rw[z];have E:KK (m:Int) n=UInt8.ofNat (32*m+wh n)::OW (C7 n) n:=by unfold KK;rw[af cm,aI]
 rw[E]at hk;generalize UInt8.ofNat (32*m+wh n)=w at hk⊢;have f3:Fr No H (H.push (.cells #[.int .u8 (w.toNat:Int)] 5)):=Fr.push _ _;have O:fy (H.push (.cells #[.int .u8 (w.toNat:Int)] 5)) (some (AA H.size 0)) 1 1 1 (bc [w]):=.row H.size 0 #[.int .u8 (w.toNat:Int)] 5 rfl bT ae bM rfl (λj v q=>by
  cases j with
  |zero=>simpa[bc]using q
  |succ j=>simp[bc]at q)
 generalize H.push (.cells #[.int .u8 (w.toNat:Int)] 5)=M at f3 O⊢;have Z:=f1.1;have T:=f2.1;have U:=aF d;refine⟨aw (f3.get c id),_,aw (f3.get c id),AX ⟨_,rfl,?_⟩⟩;have K:=GQ n;generalize C7 n=k at hk K⊢;refine⟨λp L C t g=> ∃(i:Nat),t=(i:Int)/\i<=k/\L=1+i/\fy g p (1+i) C 1 (bc (w::(OW k n).take i))/\(∀y,aP p y->H.size<=y)/\Fr No H g,λ_ _ _ t _=>k - t.toNat,⟨0,rfl,bP _,rfl,by rw[dM];exact O,(λy ⟨a,e,s⟩=>by cases e;rw[<-s];exact aZ _),f3⟩,?_⟩;rintro p _ C _ g ⟨i,rfl,Q,rfl,o,N,f⟩;by_cases l:i<k
 .rw[fO];refine⟨_,aw (f.get c id),?_⟩;rw[bz (n:=(k:Int) - 1) ae ae,bz (n:=(k:Int) - 1 - (i:Int)) ae ae,bz (n:=8*((k:Int) - 1 - (i:Int))) ae ae,cW];have u:min (Int.toNat (8*((k:Int) - 1 - (i:Int)))) (IntKind.bits .u64)=8*(k - 1 - i):=by
   rw[show IntKind.bits .u64=64 from rfl];omega
  rw[u,Mn,Ml];refine iU kk.tU kk.uU o rfl (λv r=>by simp at r;rw[r];rfl) ae ae λS D P B f9 G=>⟨_,_,_,rfl,?_⟩
  rw[bz (n:=(i:Int)+1) ae ae];refine⟨⟨i+1,ae,ae,ae,?_,λy A=> ?_,f.fresh f9 N⟩,by show k - Int.toNat ((i:Int)+1)<k - Int.toNat (i:Int);omega⟩
  .have x:(OW k n).take (i+1)=(OW k n).take i++ [UInt8.ofNat (n/2 ^ (8*(k - 1 - i)))]:=by
    rw[bL];unfold OW;rw[aM,List.getElem?_range l];rfl
   rw[x,<-dB,jA];exact B
  .rcases G y A with a|a
   .exact N y a
   .have:=f.1;omega
 .rw[ag (λe=>l (cf (aQ e)))];obtain rfl:i=k:=ae
  rw[bG (by rw[wT];omega)]at o;have:=hk g p C 0 o.iT (by rw[ba,wT,Nat.add_comm];exact o.le) (F.tt f);rw[ba,wT,Nat.add_comm]at this;exact this
theorem Gh{l:List Tr}{i:Nat}{t:Tr}(H:l[i]? =some t):da (l.take (i+1))=da (l.take i)+room t:=by
 rw[bL,H,gX];show _+da [t]=_;simp[da]
theorem mH(l:List Tr)(i:Nat):da (l.take i)<=da l:=by
 conv=>rhs;rw[<-List.take_append_drop i l]
 rw[gX];omega
theorem HG: ∀(N:Nat)(t:Tr),deep t<=N->∀(h:ai)(D:Nat->Prop)(x:CV)(p:cj)(l c:Nat)(a:List UInt8)(R:fx),l=a.length->a.length+room t<=20000000->fy h p a.length c 1 (bc a)->gn h D t x->(∀y,aP p y->¬D y)->
  (∀h' P C,fy h' P (a++enc t).length C 1 (bc (a++enc t))->Fr (λy=>aP p y) h h'->(∀y,aP P y->aP p y\/h.size<=y)->R (.slice P (a++enc t).length C) h')->ar Tryz.prog 208 #[.slice p l c,x.agg] h R
 |0,.mk k n b l,hd,_,_,_,_,_,_,_,_,_,_,_,_,_,_=>by simp only[deep]at hd;omega
 |N+1,.mk k n b l,hd,h,D,x,p,_,c,a,R,rfl,ha,Y,T,j,hk=>by
  simp only[deep]at hd;simp only[room]at ha;unfold enc at hk;have T:=T.lt;unfold gn at T;obtain⟨⟨rfl,rfl,rfl,X⟩,ys,L,I⟩:=T;have lt:=I.len;have l9:=gm l;have e0:=L.len;refine Mi.walk (aa.box λbb K q' d f1=>⟨_,aw d,_,aw d,aK.of λc' hJ=> ?_⟩);have r':=aF d;have z1:=f1.1;have np: ∀y,aP p y->y<h.size:=λy H=>Y.eg H
  have done:c' (vI x.k x.n x.v.b l:Int) K:=by
   subst hJ;refine⟨_,aw d,JQ λh3 q3 c3 e3 a' d' f3=>⟨_,_,_,_,rfl,_,_,_,aw (f3.get d id),?_⟩⟩;have k':=GR x.k (vI x.k x.n x.v.b l);generalize KK x.k (vI x.k x.n x.v.b l)=B at a' d' k' hk⊢;have z3:=f3.1;have r:=f1.tt f3;refine dO kk.tU kk.uU (Y.frame r (λ_ _=>id)) a' (by rw[jK,cr]) (ph B) ae ae λZ c4 h4 o4 _ f4 g4=>⟨_,_,_,rfl,aw (f4.get (f3.get d id) (λH=>cf (np _ H))),?_⟩
   have z4:=f4.1;have G: ∀y,aP Z y->aP p y\/h3.size<=y:=g4;have n':Row h4 x.v.p (bc x.v.b):=by
    by_cases e:x.v.b= []
    .rw[e];exact Row.nil
    .exact((X.row.frame r (λ_ _=>id)).frame f4 (λJ s H=>j _ H (X.own e _ ⟨J,s,rfl⟩).1))
   refine dO kk.tU kk.uU o4 n' (by rw[jK,cr]) (ph x.v.b) ae ae λp5 c5 h5 O _ f5 g5=> ?_
   have m': ¬aP Z bb:=λH=>by
    rcases G _ H with q|q
    .have:=np _ q;omega
    .omega
   have g':=f5.get (f4.get (f3.get d id) (λH=>cf (np _ H))) m';refine⟨_,_,_,rfl,_,_,_,aw g',?_⟩;have z5:=f5.1;rw[<-jA,<-jA,cX]at O;have Fp:Fr (λy=>aP p y) h h5:=(Fr.no r f4).trans f5 (λ_ _=>id) (λy H q=>by
    rcases G y q with q|q
    .exact q
    .omega)
   have n5: ∀y,aP p5 y->aP p y\/h.size<=y:=λy H=>by
    rcases g5 y H with q|q
    .rcases G y q with q|q
     .exact .inl q
     .exact .inr ae
    .exact .inr ae
   have el:a.length+B.length+x.v.b.length=(a++(B++x.v.b)).length:=by simp only[aA];omega
   rw[el]at O⊢;refine⟨λP l' C t g=> ∃(i:Nat)(w:List UInt8),t=(i:Int)/\i<=ys.length/\l'=(a++w).length/\fy g P (a++w).length C 1 (bc (a++w))/\w=B++x.v.b++wi (l.take i)/\Fr (λy=>aP p y) h g/\∀y,aP P y->aP p y\/h.size<=y,λ_ _ _ t _=>ys.length - t.toNat,
    ⟨0,B++x.v.b,rfl,bP _,rfl,O,by rw[dM];simp[wi],Fp,n5⟩,?_⟩
   rintro P _ C _ g ⟨i,w,rfl,hi,rfl,W,E,F,ng⟩;have rl:=mH l i;have lw:w.length<=9+x.v.b.length+da (l.take i):=by
    rw[E,aA,aA];have:=xw (l.take i);omega
   by_cases o:i<ys.length
   .rw[fO];have H:ys[i]? =some ys[i]:=aj o;generalize ys[i]=y at H;obtain⟨t,v,ty⟩:=I.get H;have tm:=bj v;have dm:=qh tm;have rm:=kY tm;have rt:=Gh v;have i':ys≠ []:=by intro e;rw[e]at o;simp at o
    obtain⟨J,s⟩:=L.row.some (by intro e;have:=bY List.length e;rw[eO gV 4 fX,bt]at this;omega);have b':=L.row.frame F (λa2 e2 j'=>j _ j' (L.own i' _ ⟨a2,e2,rfl⟩).1);rw[s]at b'⊢;refine⟨⟨ae,ae⟩,ay.2 (aa.ED (by rw[aI];exact b'.gv fX H) (aa.new λb1 M p' f' f8=>aa.ld f' ?_))⟩;have o':gn M (λy=>D y/\y<h.size) t y:=(gn.frame F (λz f A=>j z A f.1) ty).on f8;have zg:=F.1;have z8:=f8.1;refine HG N t ae M (λy=>D y/\y<h.size) y P _ C (a++w) _ rfl (by rw[aA];have:=mH l (i+1);omega) (W.frame f8 (λ_ _=>id)) o' (λz f A=>by
     rcases ng z f with q|q
     .exact j z q A.1
     .omega) λh9 p9 c9 V f9 n9=>⟨_,_,_,rfl,?_⟩
    rw[bz (n:=(i:Int)+1) ae ae];rw[cX]at V⊢;refine⟨⟨i+1,w++enc t,ae,ae,rfl,V,by rw[bL,v];show _=_++wi (l.take i++ [t]);rw[IM,E,cX _ (wi (l.take i))],(F.on f8).trans f9 (λ_ _=>id) (λz f q=> ?_),λz f=> ?_⟩,by show ys.length - Int.toNat ((i:Int)+1)<ys.length - Int.toNat (i:Int);omega⟩
    .rcases ng z q with q|q
     .exact q
     .omega
    .rcases n9 z f with q|q
     .exact ng z q
     .exact .inr ae
   .rw[ag (λe=>o (cf (aQ e)))];rw[bG (show l.length<=i by omega)]at E;subst E;exact hk g P C W F ng
  have ub:IntKind.wrap .u64 (x.v.b.length:Int)=(x.v.b.length:Int):=wrap_u64 ae ae;have ul:IntKind.wrap .u64 (x.ll:Int)=(l.length:Int):=by rw[e0,<-lt];exact wrap_u64 ae ae
  unfold vI at done;refine aK.of λJ1 e'=> ?_
  have U: ∀q,q=decide (x.k=2\/x.k=3)->J1 q K:=by
   intro q S;subst e';refine aK.of λJ2 u=> ?_
   split
   .rename_i q1;rw[af (aQ (S.symm.trans q1))]at done;exact⟨_,_,_,aw d,by subst u;rw[ub];exact done⟩
   .rename_i q1;rw[ag (λe=>q1 (S.trans (aq e)))]at done;refine aK.of λJ3 Q=> ?_
    split
    .rename_i q2;rw[af (cD q2)]at done;exact⟨_,_,_,aw d,by subst Q;subst u;rw[ul];exact done⟩
    .rename_i q2;rw[ag (cD q2)]at done;subst Q;subst u;exact done
  split
  .rename_i q;exact U _ (by simp only[cP]at q;rw[q];decide)
  .rename_i q;refine U _ ?_;by_cases e:x.k=3
   .rw[e];decide
   .simp only[cP]at q;simp[q,e]

end Cb
end
section
namespace Cb
variable {V:List UInt8→Bool} {h H h':ai} {R:fx} {D:Nat→Prop}
variable {t:Tr} {x:CV}
theorem HI(T:gn h D t x)(d:room t<=1000000)(hk: ∀h' p c,fy h' p (enc t).length c 1 (bc (enc t))->(∀y,aP p y->h.size<=y)->Fr No h h'->R (.slice p (enc t).length c) h'):ar Tryz.prog 208 #[.Z,x.agg] h R:=
 HG (deep t) t (aZ _) h D x none 0 0 [] R rfl (by simp only[bt];omega) (.nil rfl rfl rfl rfl) T (λy ⟨a,e,_⟩=>by cases e) λh' P C o f n=>hk h' P C o (λy b=>(n y b).resolve_left (λ⟨a,e,_⟩=>by cases e)) (f.mono λy _ ⟨a,e,_⟩=>by cases e)
theorem vi(U:lW V H)(u:Fr No H h)(T:gn h D t x)(d:room t<=1000000)(k:gw V t=true->∀h' p c,fy h' p (enc t).length c 1 (bc (enc t))->(∀y,aP p y->h.size<=y)->Fr No h h'->R (.tuple #[.slice p (enc t).length c,.I 0]) h')(K:gw V t=false->gW h R (.tuple #[.Z,.I 3])):ar Tryz.prog 178 #[x.agg] h R:=by
 refine Gf.walk (aa.box λbb i E a f1=>aa.ld a (eX U (u.tt f1) (T.on f1) d λe f2=>⟨_,rfl,?_⟩));have z:=f1.1;have Z:=f2.1;cases b:gw V t with
 |false=>
  rw[fO];exact K b e (f1.tt f2)
 |true=>
  rw[cW];exact aa.ld (f2.get a id) (HI ((T.on f1).on f2) d λf p c o n f3=>⟨_,_,_,rfl,k b f p c o (λy g=>cf (n y g)) ((f1.tt f2).tt f3)⟩)
theorem lW.mono{a:ai}(U:lW V H)(f:Fr No H a):lW V a:=λg p c bs R F=>U g p c bs R (f.tt F)
def jg(V:List UInt8->Bool)(bs:List UInt8):Bool:=match oy V bs with| .ok (t,n)=>decide (n=bs.length) && decide (enc t=bs)| .error _=>false
theorem D3{p:cj}{l c:Nat}{bs:List UInt8}(U:lW V h)(row:Row h p (bc bs))(k:l=bs.length)(cap:bs.length<=c)(m:bs.length<=90000)(hk: gW h R (.bool (jg V bs))):ar Tryz.prog 314 #[.slice p l c] h R:=by
 subst k;unfold jg at hk;refine zM.walk (yy U row rfl cap ae (λi t x next g T f1=>⟨_,_,_,_,_,_,_,_,_,_,rfl,aa.new λbb a E b f3=> ?_⟩) (λi e f f1=>⟨_,_,_,_,_,_,_,_,_,_,rfl,aa.new λbb a E b f3=> ?_⟩))
 .have F:=f1.tt f3;rw[g]at hk;obtain⟨rt,N⟩:=xy g;rw[fO];by_cases c1:next=bs.length
  .rw[af (by rw[c1];simp)];refine aa.ld b (HI (T.on f3) ae λj q d o n f4=>⟨_,_,_,rfl,ot o.iT (row.frame (F.tt f4) (λ_ _=>id)) rfl rfl ⟨_,rfl,?_⟩⟩);have:=hk j (F.tt f4);simp only[c1,bA,dA]at this;exact this
  .rw[ag (λe=>c1 (cf (eq_of_beq e)))];have:=hk a F;simp only[c1,bk,eJ]at this;exact this
 .have F:=f1.tt f3;have:=hk a F;rw[f]at this;rw[ag (λq=>qi f (eq_of_beq q))];exact this

end Cb
end
section
variable {h:ai} {R:fx}
variable {K:Nat->ai->Prop} {b l d B f m:Nat} {a:Addr} {L e:cj} {l6 s P:Int}
abbrev aa.fN(h:ai)(b:Nat)(x:aa.S):Prop:=h[b]? =some (.cells x.arr 262 (0,0))
theorem aa.ex{K:aa.S->Prop}(x:aa.S)(hk:K x):aa.EX K:=⟨_,_,_,_,_,_,_,_,hk⟩
theorem aa.fK{x:aa.S}{K:aa.S->Prop}(H:aa.fN h b x)(hk:K x):aa.cG h (AA b 0) K:=
 ⟨_,aw H,_,aw H,_,_,_,aw H,_,_,_,aw H,hk⟩
theorem aa.mI{x:aa.S}{K:aa.S->Prop}(H:dF a x.l 0 h)(hk:K x):aa.cG h a K:=by
 obtain⟨q,q1,q2,q3,_⟩:=H;rw[fP]at q;exact⟨_,q,_,q1,_,_,_,q2,_,_,_,q3,hk⟩
theorem aa.yA{x:aa.S}(H:aa.fN h b x):dF (AA b 0) x.l 0 h:=
 gF H (λj v c=>by rw[bE];simpa using c)
theorem aa.gh{x:aa.S}(hk: ∀b h',b=h.size->aa.fN h' b x->Fr No h h'->K b h'):aS h (.cells aa.S.z.arr 262) λb H=>aa.cY H (AA b 0) x (K b):=
 gp (vs:=x.l) rfl rfl hk
theorem aa.cT{x:aa.S}(hk: ∀b h',b=h.size->aa.fN h' b x->Fr No h h'->K b h'):aS h (.cells x.arr 262) λb H=>K b H:=
 cC (hk _ _ rfl bT (Fr.push _ _))
theorem aa.gO{y x:aa.S}{K:ai->Prop}(a0:aa.fN h b y)(hk: ∀h',aa.fN h' b x->Fr (λy=>y=b) h h'->h'.size=h.size->K h'):aa.cY h (AA b 0) x K:=
 (show eS (AA b 0) x.l 0 h K from eE a0 rfl rfl λH d1 d2 d3=>hk H d1 (Fr.of_eq d2 λc g=>d3 c g) d2)
variable {x:aa.S}
abbrev ax.fN(h:ai)(b:Nat)(x:ax.S):Prop:=h[b]? =some (.cells x.arr 29 (0,0))
theorem ax.ex{K:ax.S->Prop}(x:ax.S)(hk:K x):ax.EX K:=⟨_,_,_,_,_,hk⟩
theorem ax.fK{x:ax.S}{K:ax.S->Prop}(H:ax.fN h b x)(hk:K x):ax.cG h (AA b 0) K:=
 ⟨_,aw H,_,aw H,_,aw H,_,aw H,_,aw H,hk⟩
theorem ax.gh{x:ax.S}(hk: ∀b h',b=h.size->ax.fN h' b x->Fr No h h'->K b h'):aS h (.cells ax.S.z.arr 29) λb H=>ax.cY H (AA b 0) x (K b):=
 gp (vs:=x.l) rfl rfl hk
theorem ax.cT{x:ax.S}(hk: ∀b h',b=h.size->ax.fN h' b x->Fr No h h'->K b h'):aS h (.cells x.arr 29) λb H=>K b H:=
 cC (hk _ _ rfl bT (Fr.push _ _))
theorem ax.gO{y x:ax.S}{K:ai->Prop}(a0:ax.fN h b y)(hk: ∀h',ax.fN h' b x->Fr (λy=>y=b) h h'->h'.size=h.size->K h'):ax.cY h (AA b 0) x K:=
 (show eS (AA b 0) x.l 0 h K from eE a0 rfl rfl λH d1 d2 d3=>hk H d1 (Fr.of_eq d2 λc g=>d3 c g) d2)
abbrev ah.fN(h:ai)(b:Nat)(x:ah.S):Prop:=h[b]? =some (.cells x.arr 124 (0,0))
theorem ah.ex{K:ah.S->Prop}(x:ah.S)(hk:K x):ah.EX K:=⟨_,_,_,_,_,_,_,hk⟩
theorem ah.fK{x:ah.S}{K:ah.S->Prop}(H:ah.fN h b x)(hk:K x):ah.cG h (AA b 0) K:=
 ⟨_,aw H,_,aw H,_,aw H,_,aw H,_,aw H,_,aw H,_,aw H,hk⟩
theorem ah.gh{x:ah.S}(hk: ∀b h',b=h.size->ah.fN h' b x->Fr No h h'->K b h'):aS h (.cells ah.S.z.arr 124) λb H=>ah.cY H (AA b 0) x (K b):=
 gp (vs:=x.l) rfl rfl hk
theorem ah.cT{x:ah.S}(hk: ∀b h',b=h.size->ah.fN h' b x->Fr No h h'->K b h'):aS h (.cells x.arr 124) λb H=>K b H:=
 cC (hk _ _ rfl bT (Fr.push _ _))
theorem ah.gO{y x:ah.S}{K:ai->Prop}(a0:ah.fN h b y)(hk: ∀h',ah.fN h' b x->Fr (λy=>y=b) h h'->h'.size=h.size->K h'):ah.cY h (AA b 0) x K:=
 (show eS (AA b 0) x.l 0 h K from eE a0 rfl rfl λH d1 d2 d3=>hk H d1 (Fr.of_eq d2 λc g=>d3 c g) d2)
abbrev aD.fN(h:ai)(b:Nat)(x:aD.S):Prop:=h[b]? =some (.cells x.arr 126 (0,0))
theorem aD.ex{K:aD.S->Prop}(x:aD.S)(hk:K x):aD.EX K:=⟨_,_,_,_,_,_,_,_,_,_,_,_,_,_,_,_,_,_,_,_,hk⟩
theorem aD.fK{x:aD.S}{K:aD.S->Prop}(H:aD.fN h b x)(hk:K x):aD.cG h (AA b 0) K:=
 ⟨_,aw H,_,aw H,_,aw H,_,aw H,_,aw H,_,aw H,_,aw H,_,aw H,_,aw H,_,aw H,_,aw H,_,aw H,_,aw H,_,aw H,_,aw H,_,aw H,_,aw H,_,aw H,_,aw H,_,aw H,hk⟩
theorem aD.gh{x:aD.S}(hk: ∀b h',b=h.size->aD.fN h' b x->Fr No h h'->K b h'):aS h (.cells aD.S.z.arr 126) λb H=>aD.cY H (AA b 0) x (K b):=
 gp (vs:=x.l) rfl rfl hk
theorem aD.cT{x:aD.S}(hk: ∀b h',b=h.size->aD.fN h' b x->Fr No h h'->K b h'):aS h (.cells x.arr 126) λb H=>K b H:=
 cC (hk _ _ rfl bT (Fr.push _ _))
theorem aD.gO{y x:aD.S}{K:ai->Prop}(a0:aD.fN h b y)(hk: ∀h',aD.fN h' b x->Fr (λy=>y=b) h h'->h'.size=h.size->K h'):aD.cY h (AA b 0) x K:=
 (show eS (AA b 0) x.l 0 h K from eE a0 rfl rfl λH d1 d2 d3=>hk H d1 (Fr.of_eq d2 λc g=>d3 c g) d2)
variable {p:aD.S}
abbrev aG.fN(h:ai)(b:Nat)(x:aG.S):Prop:=h[b]? =some (.cells x.arr 201 (0,0))
theorem aG.ex{K:aG.S->Prop}(x:aG.S)(hk:K x):aG.EX K:=⟨_,_,_,_,_,_,_,hk⟩
theorem aG.fK{x:aG.S}{K:aG.S->Prop}(H:aG.fN h b x)(hk:K x):aG.cG h (AA b 0) K:=
 ⟨_,aw H,_,aw H,_,aw H,_,aw H,_,_,_,aw H,hk⟩
theorem aG.mI{x:aG.S}{K:aG.S->Prop}(H:dF a x.l 0 h)(hk:K x):aG.cG h a K:=by
 obtain⟨q,q1,q2,q3,q4,_⟩:=H;rw[fP]at q;exact⟨_,q,_,q1,_,q2,_,q3,_,_,_,q4,hk⟩
theorem aG.yA{x:aG.S}(H:aG.fN h b x):dF (AA b 0) x.l 0 h:=
 gF H (λj v c=>by rw[bE];simpa using c)
theorem aG.gh{x:aG.S}(hk: ∀b h',b=h.size->aG.fN h' b x->Fr No h h'->K b h'):aS h (.cells aG.S.z.arr 201) λb H=>aG.cY H (AA b 0) x (K b):=
 gp (vs:=x.l) rfl rfl hk
theorem aG.cT{x:aG.S}(hk: ∀b h',b=h.size->aG.fN h' b x->Fr No h h'->K b h'):aS h (.cells x.arr 201) λb H=>K b H:=
 cC (hk _ _ rfl bT (Fr.push _ _))
theorem aG.gO{y x:aG.S}{K:ai->Prop}(a0:aG.fN h b y)(hk: ∀h',aG.fN h' b x->Fr (λy=>y=b) h h'->h'.size=h.size->K h'):aG.cY h (AA b 0) x K:=
 (show eS (AA b 0) x.l 0 h K from eE a0 rfl rfl λH d1 d2 d3=>hk H d1 (Fr.of_eq d2 λc g=>d3 c g) d2)
abbrev av.fN(h:ai)(b:Nat)(x:av.S):Prop:=h[b]? =some (.cells x.arr 129 (0,0))
theorem av.ex{K:av.S->Prop}(x:av.S)(hk:K x):av.EX K:=⟨_,_,_,_,_,_,_,_,_,_,_,_,_,_,_,_,_,_,_,_,_,_,_,hk⟩
theorem av.fK{x:av.S}{K:av.S->Prop}(H:av.fN h b x)(hk:K x):av.cG h (AA b 0) K:=
 ⟨_,aw H,_,aw H,_,aw H,_,aw H,_,aw H,_,aw H,_,aw H,_,aw H,_,aw H,_,aw H,_,aw H,_,aw H,_,aw H,_,aw H,_,aw H,_,aw H,_,aw H,_,aw H,_,aw H,_,aw H,_,_,_,aw H,hk⟩
theorem av.gh{x:av.S}(hk: ∀b h',b=h.size->av.fN h' b x->Fr No h h'->K b h'):aS h (.cells av.S.z.arr 129) λb H=>av.cY H (AA b 0) x (K b):=
 gp (vs:=x.l) rfl rfl hk
theorem av.cT{x:av.S}(hk: ∀b h',b=h.size->av.fN h' b x->Fr No h h'->K b h'):aS h (.cells x.arr 129) λb H=>K b H:=
 cC (hk _ _ rfl bT (Fr.push _ _))
theorem av.gO{y x:av.S}{K:ai->Prop}(a0:av.fN h b y)(hk: ∀h',av.fN h' b x->Fr (λy=>y=b) h h'->h'.size=h.size->K h'):av.cY h (AA b 0) x K:=
 (show eS (AA b 0) x.l 0 h K from eE a0 rfl rfl λH d1 d2 d3=>hk H d1 (Fr.of_eq d2 λc g=>d3 c g) d2)
abbrev cd.fN(h:ai)(b:Nat)(x:cd.S):Prop:=h[b]? =some (.cells x.arr 287 (0,0))
theorem cd.ex{K:cd.S->Prop}(x:cd.S)(hk:K x):cd.EX K:=⟨_,_,_,_,_,_,_,_,_,_,_,_,hk⟩
theorem cd.fK{x:cd.S}{K:cd.S->Prop}(H:cd.fN h b x)(hk:K x):cd.cG h (AA b 0) K:=
 ⟨_,aw H,_,aw H,_,aw H,_,aw H,_,aw H,_,aw H,_,aw H,_,aw H,_,aw H,_,aw H,_,aw H,_,aw H,hk⟩
theorem cd.cT{x:cd.S}(hk: ∀b h',b=h.size->cd.fN h' b x->Fr No h h'->K b h'):aS h (.cells x.arr 287) λb H=>K b H:=
 cC (hk _ _ rfl bT (Fr.push _ _))
abbrev aH.fN(h:ai)(b:Nat)(x:aH.S):Prop:=h[b]? =some (.cells x.arr 47 (0,0))
theorem aH.ex{K:aH.S->Prop}(x:aH.S)(hk:K x):aH.EX K:=⟨_,_,_,_,_,_,_,_,_,_,_,_,_,_,_,_,_,_,_,_,_,hk⟩
theorem aH.fK{x:aH.S}{K:aH.S->Prop}(H:aH.fN h b x)(hk:K x):aH.cG h (AA b 0) K:=
 ⟨_,aw H,_,aw H,_,aw H,_,aw H,_,aw H,_,aw H,_,aw H,_,aw H,_,aw H,_,aw H,_,aw H,_,aw H,_,aw H,_,aw H,_,aw H,_,_,_,aw H,_,aw H,_,aw H,_,aw H,hk⟩
theorem aH.gh{x:aH.S}(hk: ∀b h',b=h.size->aH.fN h' b x->Fr No h h'->K b h'):aS h (.cells aH.S.z.arr 47) λb H=>aH.cY H (AA b 0) x (K b):=
 gp (vs:=x.l) rfl rfl hk
theorem aH.cT{x:aH.S}(hk: ∀b h',b=h.size->aH.fN h' b x->Fr No h h'->K b h'):aS h (.cells x.arr 47) λb H=>K b H:=
 cC (hk _ _ rfl bT (Fr.push _ _))
theorem aH.gO{y x:aH.S}{K:ai->Prop}(a0:aH.fN h b y)(hk: ∀h',aH.fN h' b x->Fr (λy=>y=b) h h'->h'.size=h.size->K h'):aH.cY h (AA b 0) x K:=
 (show eS (AA b 0) x.l 0 h K from eE a0 rfl rfl λH d1 d2 d3=>hk H d1 (Fr.of_eq d2 λc g=>d3 c g) d2)
abbrev ak.fN(h:ai)(b:Nat)(x:ak.S):Prop:=h[b]? =some (.cells x.arr 44 (0,0))
theorem ak.ex{K:ak.S->Prop}(x:ak.S)(hk:K x):ak.EX K:=⟨_,_,_,_,_,_,_,_,hk⟩
theorem ak.fK{x:ak.S}{K:ak.S->Prop}(H:ak.fN h b x)(hk:K x):ak.cG h (AA b 0) K:=
 ⟨_,aw H,_,aw H,_,aw H,_,aw H,_,aw H,_,_,_,aw H,hk⟩
theorem ak.gh{x:ak.S}(hk: ∀b h',b=h.size->ak.fN h' b x->Fr No h h'->K b h'):aS h (.cells ak.S.z.arr 44) λb H=>ak.cY H (AA b 0) x (K b):=
 gp (vs:=x.l) rfl rfl hk
theorem ak.cT{x:ak.S}(hk: ∀b h',b=h.size->ak.fN h' b x->Fr No h h'->K b h'):aS h (.cells x.arr 44) λb H=>K b H:=
 cC (hk _ _ rfl bT (Fr.push _ _))
theorem ak.gO{y x:ak.S}{K:ai->Prop}(a0:ak.fN h b y)(hk: ∀h',ak.fN h' b x->Fr (λy=>y=b) h h'->h'.size=h.size->K h'):ak.cY h (AA b 0) x K:=
 (show eS (AA b 0) x.l 0 h K from eE a0 rfl rfl λH d1 d2 d3=>hk H d1 (Fr.of_eq d2 λc g=>d3 c g) d2)
theorem fD.ex{K:fD.S->Prop}(x:fD.S)(hk:K x):fD.EX K:=⟨_,_,_,_,_,_,_,_,_,_,_,_,_,_,_,_,_,_,_,_,_,_,_,_,_,_,_,_,hk⟩
abbrev aL.fN(h:ai)(b:Nat)(x:aL.S):Prop:=h[b]? =some (.cells x.arr 114 (0,0))
theorem aL.ex{K:aL.S->Prop}(x:aL.S)(hk:K x):aL.EX K:=⟨_,_,_,_,_,_,_,_,_,_,_,_,hk⟩
theorem aL.mI{x:aL.S}{K:aL.S->Prop}(H:dF a x.l 0 h)(hk:K x):aL.cG h a K:=by
 obtain⟨q,q1,q2,q3,q4,Q,q6,c,g,i,_⟩:=H;rw[fP]at q;exact⟨_,q,_,q1,_,q2,_,q3,_,q4,_,Q,_,_,_,q6,_,c,_,g,_,i,hk⟩
theorem aL.cT{x:aL.S}(hk: ∀b h',b=h.size->aL.fN h' b x->Fr No h h'->K b h'):aS h (.cells x.arr 114) λb H=>K b H:=
 cC (hk _ _ rfl bT (Fr.push _ _))
theorem aL.gO{y x:aL.S}{K:ai->Prop}(a0:aL.fN h b y)(hk: ∀h',aL.fN h' b x->Fr (λy=>y=b) h h'->h'.size=h.size->K h'):aL.cY h (AA b 0) x K:=
 (show eS (AA b 0) x.l 0 h K from eE a0 rfl rfl λH d1 d2 d3=>hk H d1 (Fr.of_eq d2 λc g=>d3 c g) d2)
theorem aU.ex{K:aU.S->Prop}(x:aU.S)(hk:K x):aU.EX K:=⟨_,_,_,_,_,_,hk⟩
abbrev bW.fN(h:ai)(b:Nat)(x:bW.S):Prop:=h[b]? =some (.cells x.arr 98 (0,0))
theorem bW.ex{K:bW.S->Prop}(x:bW.S)(hk:K x):bW.EX K:=⟨_,_,_,_,_,_,_,_,_,_,_,_,_,_,_,_,_,_,_,_,_,_,_,hk⟩
theorem bW.fK{x:bW.S}{K:bW.S->Prop}(H:bW.fN h b x)(hk:K x):bW.cG h (AA b 0) K:=
 ⟨_,aw H,_,aw H,_,aw H,_,aw H,_,aw H,_,aw H,_,aw H,_,aw H,_,aw H,_,aw H,_,aw H,_,aw H,_,aw H,_,aw H,_,aw H,_,_,_,aw H,_,aw H,_,aw H,_,aw H,_,aw H,_,aw H,hk⟩
theorem bW.cT{x:bW.S}(hk: ∀b h',b=h.size->bW.fN h' b x->Fr No h h'->K b h'):aS h (.cells x.arr 98) λb H=>K b H:=
 cC (hk _ _ rfl bT (Fr.push _ _))
theorem eM.ex{K:eM.S->Prop}(x:eM.S)(hk:K x):eM.EX K:=⟨_,_,_,_,_,_,_,_,_,_,_,_,_,_,_,_,_,_,_,_,_,_,_,_,_,_,_,hk⟩
theorem oH.walk {sum : Int} (hv :
 R (.int .i64 (IntKind.wrap .i64 (2 * sum))) h) : ar Tryz.prog 285 #[.int .i64 sum] h R :=
 aR (.seq .leaf (.seq .leaf .leaf)) Tryz.func285 hv
theorem yB.walk (k:aK (λ(t34:Bool) (H:ai)=>if t34 then R (.I (-1)) H else Bd l6 l/\aO L λa=> ∃t39,aB H ((a.add (toNat l6*4)).add 1)=some (.U t39)/\R (.I (wrap .i64 t39)) H) (λJ=>if(decide (l6<0))then J true h else if(decide (l6≥(l:Int)))then J true h else Bd l6 l/\aO L λA=> ∃t18,aB h ((A.add (toNat l6*4)).add 1)=some (.U t18)/\if(decide (t18>2))then J true h else Bd l6 l/\aO L λg=>aa.cG h (g.add (toNat l6*4)) λt25=>Bd l6 l/\aO L λj=>sw h ((j.add (toNat l6*4)).add 1) λt30=>Cl 205 #[.U t30] h λv c=>aa.EX λt31=>v=t31.agg/\Kp h c [(some (g.add (toNat l6*4))),(some ((A.add (toNat l6*4)).add 1))]/\Cl 248 #[t25.agg,t31.agg] c λV i=> ∃t32,V=.bool t32/\Kp c i [(some ((A.add (toNat l6*4)).add 1))]/\J (!t32) i)):ar Tryz.prog 257 #[.slice L l d,.I l6] h R:=aR (lq (sq (sq (.join [(34,.one (.bool))] (pK 30)) (cq ll lf)) ll)) Tryz.func257 k
theorem zN.walk{sum:Int} (D:Cl 295 #[.slice L l d] h λv k=>Vl v λG F E=>Cl 285 #[.I sum] k λV r=>Vi V λt14=>aV Tryz.prog (Instr.makeSlice 22 (.I t14) (.I t14)) r λS u=>Vl S λM J I=>Cl 210 #[.slice M J I] u λU w=>aa.EX λt16=>U=t16.agg/\aS w (.cells t16.arr 262) λb y=>aV Tryz.prog (Builtin.append_ #[260,260] 260 #[.slice G F E,.slice (some (AA b 0)) 1 1]) y λW z=>Vl W λQ O N=>Cl 247 #[.slice Q O N] z λX A=>aa.EX λt19=>X=t19.agg/\Cl 178 #[t19.agg] A λY H=> ∃c T t g,Y=.tuple #[.slice c T t,.I g]/\if(g !=0)then R (.tuple #[.Z,.I 3]) H else if(sum==1)then Cl 296 #[.slice c T t] H λZ C=> ∃t28,Z=.int .u16 t28/\aS C (.cells #[.int .u8 (wrap .u8 (Int.fdiv t28 (2 ^ min (toNat 8) (IntKind.bits .u16)))),.int .u8 (wrap .u8 t28)] 5) λi n=>R (.tuple #[.slice (some (AA i 0)) 2 2,.I 0]) n else Cl 297 #[.slice c T t] H λa' o=> ∃t36,a'=.int .u32 t36/\aS o (.cells #[.int .u8 (wrap .u8 (Int.fdiv t36 (2 ^ min (toNat 24) (IntKind.bits .u32)))),.int .u8 (wrap .u8 (Int.fdiv t36 (2 ^ min (toNat 16) (IntKind.bits .u32)))),.int .u8 (wrap .u8 (Int.fdiv t36 (2 ^ min (toNat 8) (IntKind.bits .u32)))),.int .u8 (wrap .u8 t36)] 5) λj q=>R (.tuple #[.slice (some (AA j 0)) 4 4,.I 0]) q):ar Tryz.prog 259 #[.slice L l d,.I sum] h R:=aR (lq (lq (sq (lq (cq ll lf)) (sq (lq (cq (lq ll) lf)) (lq ll))))) Tryz.func259 D
theorem B2.walk (X:aS h (.cells aa.S.z.arr 262) λb n=>aK (λ(t18:Bool) (y:ai)=>if t18 then aa.cY y (AA b 0) aa.S.z λA=>aa.cG A (AA b 0) λY=>R (.tuple #[Y.agg,.I 1]) A else Cl 257 #[.slice L l d,.I l6] y λv U=>Vi v λt22=>aK (λ(t29:Bool) (C:ai)=>if t29 then aa.cY C (AA b 0) aa.S.z λD=>aa.cG D (AA b 0) λZ=>R (.tuple #[Z.agg,.I 3]) D else Cl 247 #[.slice L l d] C λg' V=>aa.EX λt32=>g'=t32.agg/\aS V (.cells aa.S.z.arr 262) λc W=>aa.cY W (AA c 0) t32 λE=>aK (λ(o:ai)=>aa.cG o (AA c 0) λt52=>Cl 207 #[t52.agg] o λh' g=> ∃t53,h'=.bool t53/\if(!t53)then aa.cY g (AA b 0) aa.S.z λq=>aa.cG q (AA b 0) λa'=>R (.tuple #[a'.agg,.I 3]) q else aa.cG g (AA c 0) λt56=>aa.cY g (AA b 0) t56 λr=>aa.cG r (AA b 0) λb'=>R (.tuple #[b'.agg,.I 0]) r) (λk=>if(decide (t22>0))then Cl 259 #[.slice L l d,.I t22] E λi' H=> ∃G F T t,i'=.tuple #[.slice G F T,.I t]/\if(t !=0)then aa.cY H (AA b 0) aa.S.z λu=>aa.cG u (AA b 0) λc'=>R (.tuple #[c'.agg,.I t]) u else Hl H c 3 λf' e' d'=>Cl 210 #[.slice G F T] H λj' i=>aa.EX λt48=>j'=t48.agg/\Kp H i [(some (AA c 3))]/\aS i (.cells t48.arr 262) λO w=>Kp i w [(some (AA c 3))]/\aV Tryz.prog (Builtin.append_ #[260,260] 260 #[.slice f' e' d',.slice (some (AA O 0)) 1 1]) w λk' Q=> ∃N M I,k'=.slice N M I/\aE Q (AA c 3) (.slice N M I) λS=>k S else k E)) (λj=>Cl 258 #[.slice L l d,.func (.func 256) #[] #[]] U λl' z=> ∃t25,l'=.bool t25/\if t25 then j true z else j (decide (t22<0)) z)) (λJ=>if(decide (l6<0))then J true n else J (decide (l6≥(l:Int))) n)):ar Tryz.prog 206 #[.slice L l d,.I l6] h R:=aR (lq (sq (sq (.join [(18,.one (.bool))] lf) (cq ll lf)) (lq (lq (sq (sq (.join [(29,.one (.bool))] lf) (cq ll lf)) (lq (sq (lq (.join [] (cq (lq (sq (lq (cq ll lf)) (pK 8))) lf))) (sq (lq (cq ll lf)) ll)))))))) Tryz.func206 X
theorem yC.walk(g:aS h (.cells x.arr 262) λb H=>aa.cG H (AA b 0) λt3=>Cl 207 #[t3.agg] H λv c=> ∃t4,v=.bool t4/\R (.bool (!t4)) c):ar Tryz.prog 256 #[x.agg] h R:=aR (lq ll) Tryz.func256 g
theorem B4.walk {x : aa.S} {l6 : Int} (hv :
 aS h (.cells x.arr 262) λb gU =>
 aK (fun (t18 : Bool) (iN : ai) =>
 if t18 = true then
 R (.tuple #[.slice none 0 0, .int .i64 3]) iN
 else
 ∃ PD PE PF, aB iN ⟨b, 3, none⟩ = some (.slice PD PE PF) ∧
 Cl 257 #[.slice PD PE PF, .int .i64 l6] iN λv qZ =>
 ∃ t22, v = .int .i64 t22 ∧
 if (decide (t22 < 0)) = true then
 R (.tuple #[.slice none 0 0, .int .i64 3]) qZ
 else
 if (t22 == 0) = true then
 ∃ Ha PG Ly, aB qZ ⟨b, 3, none⟩ = some (.slice Ha PG Ly) ∧
 Cl 247 #[.slice Ha PG Ly] qZ λFu CL =>
 aa.EX λt31 =>
 Fu = t31.agg ∧
 R (.tuple #[.slice t31.sg t31.nC t31.qF, .int .i64 0]) CL
 else
 ∃ SB pY SD, aB qZ ⟨b, 3, none⟩ = some (.slice SB pY SD) ∧
 ∃ AT AU DT, aB qZ ⟨b, 3, none⟩ = some (.slice AT AU DT) ∧
 ((0 : Int) ≤ IntKind.wrap .i64 (((pY : Nat) : Int) - 1) ∧ IntKind.wrap .i64 (((pY : Nat) : Int) - 1) < ((AU : Nat) : Int)) ∧
 aO AT λa =>
 aa.cG qZ (a.add (Int.toNat (IntKind.wrap .i64 (((pY : Nat) : Int) - 1)) * 4)) λt41 =>
 aS qZ (.cells aa.S.z.arr 262) λwC Jd =>
 aa.cY Jd ⟨wC, 0, none⟩ t41 λDC =>
 aK (fun (t60 : Bool) (Je : ai) =>
 if t60 = true then
 R (.tuple #[.slice none 0 0, .int .i64 3]) Je
 else
 ∃ PH SE HJ, aB Je ⟨b, 3, none⟩ = some (.slice PH SE HJ) ∧
 ((0 : Int) ≤ IntKind.wrap .i64 (((pY : Nat) : Int) - 1) ∧ IntKind.wrap .i64 (((pY : Nat) : Int) - 1) ≤ ((HJ : Nat) : Int)) ∧
 Cl 259 #[.slice (cE PH HJ 0 4) ((Int.toNat (IntKind.wrap .i64 (((pY : Nat) : Int) - 1))) - 0) (HJ - 0), .int .i64 t22] Je λJm Nh =>
 ∃ HK HL HM Mo, Jm = .tuple #[.slice HK HL HM, .int .i64 Mo] ∧
 if (Mo != 0) = true then
 R (.tuple #[.slice none 0 0, .int .i64 Mo]) Nh
 else
 ∃ PI PJ PK, aB Nh ⟨wC, 2, none⟩ = some (.slice PI PJ PK) ∧
 Cl 82 #[.slice HK HL HM, .slice PI PJ PK] Nh λFF QK =>
 ∃ t78, FF = .bool t78 ∧
 if (!t78) = true then
 R (.tuple #[.slice none 0 0, .int .i64 10]) QK
 else
 ∃ PL SF HN, aB QK ⟨b, 3, none⟩ = some (.slice PL SF HN) ∧
 ((0 : Int) ≤ IntKind.wrap .i64 (((pY : Nat) : Int) - 1) ∧ IntKind.wrap .i64 (((pY : Nat) : Int) - 1) ≤ ((HN : Nat) : Int)) ∧
 Cl 247 #[.slice (cE PL HN 0 4) ((Int.toNat (IntKind.wrap .i64 (((pY : Nat) : Int) - 1))) - 0) (HN - 0)] QK λBP DU =>
 aa.EX λt84 =>
 BP = t84.agg ∧
 R (.tuple #[.slice t84.sg t84.nC t84.qF, .int .i64 0]) DU)
 (λRm =>
 if (decide ((IntKind.wrap .i64 (((pY : Nat) : Int) - 1)) ≤ l6)) = true then
 Rm true DC
 else
 aa.cG DC ⟨wC, 0, none⟩ λt46 =>
 ∃ PM PN PO, aB DC ⟨wC, 2, none⟩ = some (.slice PM PN PO) ∧
 Cl 210 #[.slice PM PN PO] DC λLZ DV =>
 aa.EX λt49 =>
 LZ = t49.agg ∧
 Kp DC DV [(some ⟨wC, 0, none⟩)] ∧
 Cl 248 #[t46.agg, t49.agg] DV λOw zL =>
 ∃ t50, Ow = .bool t50 ∧
 if (!t50) = true then
 Rm true zL
 else
 ∃ SG PQ SH, aB zL ⟨wC, 2, none⟩ = some (.slice SG PQ SH) ∧
 Cl 285 #[.int .i64 t22] zL λOx yw =>
 ∃ t58, Ox = .int .i64 t58 ∧
 Kp zL yw [(some ⟨wC, 2, none⟩)] ∧
 Rm (((PQ : Nat) : Int) != t58) yw))
 (λJ =>
 aa.cG gU ⟨b, 0, none⟩ λt11 =>
 Cl 207 #[t11.agg] gU λOy JD =>
 ∃ t12, Oy = .bool t12 ∧
 if (!t12) = true then
 J true JD
 else
 ∃ t16, aB JD ⟨b, 0, none⟩ = some (.int .i64 t16) ∧
 J (t16 != 4) JD)) : ar Tryz.prog 244 #[x.agg, .int .i64 l6] h R :=
 aR (.seq .leaf (.seq (.seq (.join [(18, .one (.bool))] .leaf) (.cond (.seq .leaf .leaf) .leaf)) (.seq .leaf (.seq (.block (.seq .leaf (.cond (.seq .leaf .leaf) (.seq .leaf (.cond (.seq .leaf .leaf) .leaf))))) (.seq .leaf (.seq .leaf (.seq (.seq (.join [(60, .one (.bool))] (.jk (fE 19 0 .done))) (.cond (.seq .leaf .leaf) .leaf)) (.seq .leaf (.seq (.block (.seq .leaf (.cond (.seq .leaf .leaf) (.seq .leaf (.cond (.seq .leaf .leaf) .leaf))))) (.seq .leaf .leaf)))))))))) Tryz.func244 hv
theorem zO.walk(j:aS h (.cells p.arr 126) λb H=> ∃t4,Cc H b 0 (.U t4)/\if((wrap .u64 ((mf t4 &&& ~~~ mf 409638).toNat:Int))==0)then∃t9,Cc H b 1 (.I t9)/\if(decide (t9≥0))then∃t14,Cc H b 1 (.I t14)/\if(decide (t14<=2))then ax.cG H (AA b 2) λt19=>Cl 86 #[t19.agg] H λv c=> ∃t20,v=.bool t20/\if t20 then ax.cG c (AA b 7) λt24=>Cl 86 #[t24.agg] c λV g=> ∃t25,V=.bool t25/\if t25 then ah.cG g (AA b 12) λt29=>Cl 237 #[t29.agg] g λk i=> ∃t30,k=.bool t30/\if t30 then∃t34,Cc i b 19 (.U t34)/\R (.bool (decide (t34<=1099511627776))) i else R (.bool false) i else R (.bool false) g else R (.bool false) c else R (.bool false) H else R (.bool false) H else R (.bool false) H):ar Tryz.prog 202 #[p.agg] h R:=aR (lq ll) Tryz.func202 j
theorem zP.walk(W:aS h (.cells p.arr 126) λb J=>aS J (.cells aa.S.z.arr 262) λj w=>aD.cG w (AA b 0) λt11=>Cl 202 #[t11.agg] w λv r=> ∃t12,v=.bool t12/\if(!t12)then aa.cY r (AA j 0) aa.S.z λz=>aa.cG z (AA j 0) λX=>R (.tuple #[X.agg,.I 3]) z else ax.cG r (AA b 2) λt17=>Cl 203 #[t17.agg] r λg' Q=>aa.EX λT=> ∃Z,g'=.tuple #[T.agg,.I Z]/\aS Q (.cells aa.S.z.arr 262) λg S=>aa.cY S (AA g 0) T λC=>ax.cG C (AA b 7) λt23=>Cl 203 #[t23.agg] C λh' U=>aa.EX λD=> ∃a',h'=.tuple #[D.agg,.I a']/\aS U (.cells aa.S.z.arr 262) λi V=>aa.cY V (AA i 0) D λt=>ah.cG t (AA b 12) λt29=>Cl 204 #[t29.agg] t λi' M=>aa.EX λE=> ∃b',i'=.tuple #[E.agg,.I b']/\aS M (.cells aa.S.z.arr 262) λc N=>aa.cY N (AA c 0) E λH=>Hu H b 0 λt35=>Hi H b 1 λt38=>aa.cG H (AA g 0) λt41=>Hl H c 3 λd' c' o'=>Bd 0 c'/\aO d' λa=>aa.cG H (a.add (toNat 0*4)) λt45=>aa.cG H (AA i 0) λt46=>Hl H c 3 λf' e' p'=>Bd 1 e'/\aO f' λA=>aa.cG H (A.add (toNat 1*4)) λt50=>Hu H b 19 λt52=>Cl 205 #[.U 7] H λj' k=>aa.EX λt33=>j'=t33.agg/\Kp H k [(some (AA b 19)),(some (A.add (toNat 1*4))),(some (AA c 3)),(some (AA i 0)),(some (a.add (toNat 0*4))),(some (AA c 3)),(some (AA g 0)),(some (AA b 1)),(some (AA b 0))]/\Cl 205 #[.U t35] k λk' n=>aa.EX λt36=>k'=t36.agg/\Kp k n [(some (AA b 19)),(some (A.add (toNat 1*4))),(some (AA c 3)),(some (AA i 0)),(some (a.add (toNat 0*4))),(some (AA c 3)),(some (AA g 0)),(some (AA b 1))]/\Cl 205 #[.U (wrap .u64 t38)] n λl' o=>aa.EX λt40=>l'=t40.agg/\Kp n o [(some (AA b 19)),(some (A.add (toNat 1*4))),(some (AA c 3)),(some (AA i 0)),(some (a.add (toNat 0*4))),(some (AA c 3)),(some (AA g 0)),(some (AA b 1))]/\Cl 205 #[.U t52] o λm' q=>aa.EX λt53=>m'=t53.agg/\Kp o q [(some (A.add (toNat 1*4))),(some (AA c 3)),(some (AA i 0)),(some (a.add (toNat 0*4))),(some (AA c 3)),(some (AA g 0)),(some (AA b 1))]/\aS q (.cells (t33.l++t36.l++t40.l++t41.l++t45.l++t46.l++t50.l++t53.l).toArray 262) λI u=>Kp q u [(some (AA c 3)),(some (AA c 3)),(some (AA b 1))]/\Cl 206 #[.slice (some (AA I 0)) 8 8,.I 2] u λn' O=>aa.EX λF=> ∃G,n'=.tuple #[F.agg,.I G]/\aa.cY O (AA j 0) F λy=>aa.cG y (AA j 0) λY=>R (.tuple #[Y.agg,.I G]) y):ar Tryz.prog 177 #[p.agg] h R:=aR (lq (sq (lq (cq ll lf)) (lq (lq (lq (sq (.jk (.op 1 (.op 2 (fE 3 4 (fE 12 8 (.op 0 (.op 3 (.op 7 (fE 3 20 .done))))))))) ll)))))) Tryz.func177 W
theorem B5.walk (hv:aS h (.cells x.arr 262) λb v'=>aS v' (.cells aD.S.z.arr 126) λc U=>aa.cG U (AA b 0) λt15=>Cl 244 #[t15.agg,.I 2] U λv n=> ∃T t U' w,v=.tuple #[.slice T t U',.I w]/\if(w !=0)then aD.cY n (AA c 0) aD.S.z λZ=>aD.cG Z (AA c 0) λr0=>R (.tuple #[r0.agg,.I w]) Z else if(((t:Nat):Int) !=8)then aD.cY n (AA c 0) aD.S.z λa'=>aD.cG a' (AA c 0) λR'=>R (.tuple #[R'.agg,.I 3]) a' else Bd 3 t/\aO T λa=>aa.cG n (a.add (toNat 3*4)) λt32=>Cl 245 #[t32.agg] n λV' O'=>ax.EX λc'=> ∃d',V'=.tuple #[c'.agg,.I d']/\aS O' (.cells ax.S.z.arr 29) λo P'=>ax.cY P' (AA o 0) c' λb'=>Bd 5 t/\aO T λs'=>aa.cG b' (s'.add (toNat 5*4)) λt39=>Cl 245 #[t39.agg] b' λY' Q'=>ax.EX λe'=> ∃f',Y'=.tuple #[e'.agg,.I f']/\aS Q' (.cells ax.S.z.arr 29) λq w'=>ax.cY w' (AA q 0) e' λk=>aK (λ(id:cj) (g:Int) (H:ai)=>Bd 1 t/\aO T λA=>sw H ((A.add (toNat 1*4)).add 1) λt58=>Bd 2 t/\aO T λy=>sw H ((y.add (toNat 2*4)).add 1) λt62=>ax.cG H (AA o 0) λt64=>ax.cG H (AA q 0) λt65=>aO id λt'=>ah.cG H t' λt66=>Bd 7 t/\aO T λz=>sw H ((z.add (toNat 7*4)).add 1) λt70=>aS H (.cells aD.S.z.arr 126) λr O=>Kp H O [(some ((z.add (toNat 7*4)).add 1)),id,(some (AA q 0)),(some (AA o 0)),(some ((y.add (toNat 2*4)).add 1)),(some ((A.add (toNat 1*4)).add 1))]/\aD.cY O (AA r 0) ⟨t58,(wrap .i64 t62),t64.f0,t64.f1,t64.f2,t64.f3,t64.f4,t65.f0,t65.f1,t65.f2,t65.f3,t65.f4,t66.f0,t66.f1,t66.f2,t66.f3,t66.f4,t66.f5,t66.f6,t70⟩ λQ=>aD.cG Q (AA r 0) λt73=>Cl 177 #[t73.agg] Q λZ' x'=>aa.EX λq'=> ∃r',Z'=.tuple #[q'.agg,.I r']/\aS x' (.cells aa.S.z.arr 262) λF y'=>aa.cY y' (AA F 0) q' λi=>aK (λ(t96:Bool) (u:ai)=>if t96 then aD.cY u (AA c 0) aD.S.z λS=>aD.cG S (AA c 0) λS'=>R (.tuple #[S'.agg,.I 3]) S else aD.cG u (AA r 0) λt98=>aD.cY u (AA c 0) t98 λV=>aD.cG V (AA c 0) λT'=>R (.tuple #[T'.agg,.I 0]) V) (λj=>if(d' !=0)then j true i else if(f' !=0)then j true i else if(g !=0)then j true i else if(r' !=0)then j true i else aa.cG i (AA F 0) λt92=>aa.cG i (AA b 0) λt93=>Cl 248 #[t92.agg,t93.agg] i λBP z'=> ∃t94,BP=.bool t94/\j (!t94) z')) (λJ=>Bd 4 t/\aO T λC=>aa.cG k (C.add (toNat 4*4)) λt46=>Bd 6 t/\aO T λD=>aa.cG k (D.add (toNat 6*4)) λt49=>(aS k (.cells (t46.l++t49.l).toArray 262) λG W=>(Cl 247 #[.slice (some (AA G 0)) 2 2] W λLZ X=>aa.EX λt51=>LZ=t51.agg/\(Cl 246 #[t51.agg] X λOw A'=>ah.EX λi'=> ∃m',Ow=.tuple #[i'.agg,.I m']/\aS A' (.cells ah.S.z.arr 124) λI B'=>ah.cY B' (AA I 0) i' λC'=>J (some (AA I 0)) m' C')/\(aS X (.cells ah.S.z.arr 124) λM D'=>Cl 246 #[t51.agg] D' λOx E'=>ah.EX λj'=> ∃n',Ox=.tuple #[j'.agg,.I n']/\ah.cY E' (AA M 0) j' λF'=>J (some (AA M 0)) n' F')/\True)/\(aS W (.cells ah.S.z.arr 124) λN G'=>Cl 247 #[.slice (some (AA G 0)) 2 2] G' λOy H'=>aa.EX λg'=>Oy=g'.agg/\Cl 246 #[g'.agg] H' λQZ I'=>ah.EX λk'=> ∃o',QZ=.tuple #[k'.agg,.I o']/\ah.cY I' (AA N 0) k' λJ'=>J (some (AA N 0)) o' J')/\True)/\(aS k (.cells ah.S.z.arr 124) λE Y=>Kp k Y [(some (D.add (toNat 6*4))),(some (C.add (toNat 4*4)))]/\aS Y (.cells (t46.l++t49.l).toArray 262) λu' K'=>Cl 247 #[.slice (some (AA u' 0)) 2 2] K' λW' L'=>aa.EX λh'=>W'=h'.agg/\Cl 246 #[h'.agg] L' λX' M'=>ah.EX λl'=> ∃p',X'=.tuple #[l'.agg,.I p']/\ah.cY M' (AA E 0) l' λN'=>J (some (AA E 0)) p' N')/\True)):ar Tryz.prog 194 #[x.agg] h R:=aR (lq (lq (sq (bq (lq (cq ll (lq (cq ll lf))))) (lq (lq (sq (.join [(9,.one (.ptr)),(10,.one (.int .i64))] (.jk (fE 6 0 (.alts (.fork 6 (.alts (.fork 7 (.alts (.fork 8 (fE 6 9 .done) (.fork 12 (fE 4 8 (.op 13 (.op 14 .done))) .gQ))) (.fork 12 (fE 5 7 (.op 13 (.op 14 .done))) .gQ))) (.fork 12 (fE 6 6 (.op 13 (.op 14 .done))) .gQ)))))) (sq (pK 19) (lq (sq (sq (.join [(96,.one (.bool))] lf) (cq ll lf)) ll))))))))) Tryz.func194 hv
theorem Gi.walk (H:if((wrap .u32 ((BitVec.ofInt (IntKind.bits .u32) s &&& BitVec.ofInt (IntKind.bits .u32) 1).toNat:Int))==1)then R (.int .u32 (wrap .u32 ((BitVec.ofInt (IntKind.bits .u32) (Int.fdiv s (2 ^ min (toNat 1) (IntKind.bits .u32))) ^^^ BitVec.ofInt (IntKind.bits .u32) P).toNat:Int))) h else R (.int .u32 (Int.fdiv s (2 ^ min (toNat 1) (IntKind.bits .u32)))) h):ar Tryz.prog 327 #[.int .u32 s,.int .u32 P] h R:=aR (lq (sq (lq (cq ll lf)) ll)) Tryz.func327 H
theorem D4.walk{c:Int}(i: ∃(I:Int->Int->ai->Prop)(M:Int->Int->ai->Nat),I (wrap .u32 ((BitVec.ofInt (IntKind.bits .u32) s ^^^ BitVec.ofInt (IntKind.bits .u32) (wrap .u32 c)).toNat:Int)) 0 h/\∀(S:Int)(t11:Int)(H:ai),I S t11 H->if(decide (t11<8))then Cl 327 #[.int .u32 S,.int .u32 P] H λv g=> ∃t15,v=.int .u32 t15/\(I t15 (wrap .i64 (t11+1)) g/\M t15 (wrap .i64 (t11+1)) g<M S t11 H)else R (.int .u32 S) H):ar Tryz.prog 323 #[.int .u32 s,.int .u8 c,.int .u32 P] h R:=aR (lq (lq (sq (lq (bq (.loop [(0,.one (.int .u32)),(11,.one (.int .i64))] (lq (sq (cq lf lf) (sq (bq lf) lf)))))) ll))) Tryz.func323 i
theorem Mp.walk(g: ∃(I:Int->Int->ai->Prop)(M:Int->Int->ai->Nat),I s 0 h/\∀(S:Int)(t11:Int)(H:ai),I S t11 H->if(decide (t11<(B:Int)))then Bd t11 B/\aO e λa=>GO H (a.add (toNat t11*1)) λt14=>Cl 323 #[.int .u32 S,.int .u8 t14,.int .u32 P] H λv c=> ∃t18,v=.int .u32 t18/\(I t18 (wrap .i64 (t11+1)) c/\M t18 (wrap .i64 (t11+1)) c<M S t11 H)else R (.int .u32 S) H):ar Tryz.prog 315 #[.int .u32 s,.slice e B f,.int .u32 P] h R:=aR (lq (sq (lq (bq (.loop [(0,.one (.int .u32)),(11,.one (.int .i64))] (lq (sq (cq lf lf) (sq (bq ll) lf)))))) ll)) Tryz.func315 g
theorem Gj.walk (c:Cl 315 #[.int .u32 65535,.slice e B f,.int .u32 33800] h λv H=> ∃t4,v=.int .u32 t4/\R (.int .u16 (wrap .u16 ((BitVec.ofInt (IntKind.bits .u16) (IntKind.max .u16) ^^^ BitVec.ofInt (IntKind.bits .u16) (wrap .u16 t4)).toNat:Int))) H):ar Tryz.prog 296 #[.slice e B f] h R:=aR (lq ll) Tryz.func296 c
theorem JR.walk (c:Cl 315 #[.int .u32 4294967295,.slice e B f,.int .u32 2197175160] h λv H=> ∃t4,v=.int .u32 t4/\R (.int .u32 (wrap .u32 ((BitVec.ofInt (IntKind.bits .u32) (IntKind.max .u32) ^^^ BitVec.ofInt (IntKind.bits .u32) t4).toNat:Int))) H):ar Tryz.prog 297 #[.slice e B f] h R:=aR (lq ll) Tryz.func297 c
theorem D5.walk{x:ah.S}(g:aS h (.cells x.arr 124) λb c=>ax.cG c (AA b 0) λt4=>Cl 86 #[t4.agg] c λv H=> ∃t5,v=.bool t5/\if t5 then∃t8,Cc H b 5 (.U t8)/\if(decide (t8<=1099511627776))then∃t13,Cc H b 6 (.U t13)/\R (.bool (decide (t13<=1099511627776))) H else R (.bool false) H else R (.bool false) H):ar Tryz.prog 237 #[x.agg] h R:=aR (lq ll) Tryz.func237 g
theorem D6.walk{a:ah.S}{b:ah.S}(k:aS h (.cells a.arr 124) λc i=>aS i (.cells b.arr 124) λg H=>Hu H c 5 λt7=> ∃t9,Cc H g 5 (.U t9)/\if(t7 !=t9)then Hu H c 5 λt12=> ∃t14,Cc H g 5 (.U t14)/\R (.bool (decide (t12<t14))) H else Hu H c 6 λt18=> ∃t20,Cc H g 6 (.U t20)/\if(t18 !=t20)then Hu H c 6 λt23=> ∃t25,Cc H g 6 (.U t25)/\R (.bool (decide (t23<t25))) H else ax.cG H (AA c 0) λt28=>ax.cG H (AA g 0) λt30=>Cl 133 #[t28.agg,t30.agg] H λv j=> ∃t31,v=.bool t31/\R (.bool t31) j):ar Tryz.prog 238 #[a.agg,b.agg] h R:=aR (lq (sq (bq (lq (cq ll (lq (cq ll lf))))) ll)) Tryz.func238 k
theorem D7.walk{x:ah.S}(F:aS h (.cells x.arr 124) λb z=>aS z (.cells aa.S.z.arr 262) λg r=>ah.cG r (AA b 0) λt6=>Cl 237 #[t6.agg] r λv j=> ∃t7,v=.bool t7/\if(!t7)then aa.cY j (AA g 0) aa.S.z λt=>aa.cG t (AA g 0) λG=>R (.tuple #[G.agg,.I 3]) t else ax.cG j (AA b 0) λt12=>Cl 203 #[t12.agg] j λV D=>aa.EX λT=> ∃u,V=.tuple #[T.agg,.I u]/\aS D (.cells aa.S.z.arr 262) λc E=>aa.cY E (AA c 0) T λH=>aa.cG H (AA c 0) λt16=>Hu H b 5 λt18=>Hu H b 6 λt21=>Cl 205 #[.U t18] H λJ k=>aa.EX λt19=>J=t19.agg/\Kp H k [(some (AA b 6)),(some (AA c 0))]/\Cl 205 #[.U t21] k λM n=>aa.EX λt22=>M=t22.agg/\Kp k n [(some (AA c 0))]/\aS n (.cells (t19.l++t22.l).toArray 262) λw i=>Kp n i [(some (AA c 0))]/\Cl 247 #[.slice (some (AA w 0)) 2 2] i λN o=>aa.EX λt24=>N=t24.agg/\Kp i o [(some (AA c 0))]/\aS o (.cells (t16.l++t24.l).toArray 262) λy A=>Cl 247 #[.slice (some (AA y 0)) 2 2] A λO C=>aa.EX λt26=>O=t26.agg/\aa.cY C (AA g 0) t26 λq=>aa.cG q (AA g 0) λI=>R (.tuple #[I.agg,.I u]) q):ar Tryz.prog 204 #[x.agg] h R:=aR (lq (sq (lq (cq ll lf)) (lq (sq (.jk (fE 3 0 (.op 4 (.op 5 (.op 11 (.op 3 (fE 5 6 (.op 12 (.op 13 .done))))))))) lf)))) Tryz.func204 F
theorem Gk.walk (Z:aS h (.cells x.arr 262) λb S=>aS S (.cells ah.S.z.arr 124) λg H=>aK (λ(t34:Bool) (j:ai)=>if t34 then ah.cY j (AA g 0) ah.S.z λC=>ah.cG C (AA g 0) λr0=>R (.tuple #[r0.agg,.I 3]) C else Hl j b 3 λl' k' y'=>Bd 0 k'/\aO l' λa=>aa.cG j (a.add (toNat 0*4)) λt40=>Cl 245 #[t40.agg] j λv X=>ax.EX λG=> ∃I,v=.tuple #[G.agg,.I I]/\aS X (.cells ax.S.z.arr 29) λn Y=>ax.cY Y (AA n 0) G λc=>ax.cG c (AA n 0) λt44=>Hl c b 3 λn' m' z'=>Bd 1 m'/\aO n' λA=>zp c ((A.add (toNat 1*4)).add 3) λp' o' A'=>Bd 0 o'/\aO p' λr=>sw c ((r.add (toNat 0*4)).add 1) λt52=>Hl c b 3 λr' q' B'=>Bd 1 q'/\aO r' λt=>zp c ((t.add (toNat 1*4)).add 3) λt' s' C'=>Bd 1 s'/\aO t' λu=>sw c ((u.add (toNat 1*4)).add 1) λt60=>aS c (.cells ah.S.z.arr 124) λo D=>Kp c D [(some ((u.add (toNat 1*4)).add 1)),(some ((t.add (toNat 1*4)).add 3)),(some (AA b 3)),(some ((r.add (toNat 0*4)).add 1)),(some ((A.add (toNat 1*4)).add 3)),(some (AA b 3)),(some (AA n 0))]/\ah.cY D (AA o 0) ⟨t44.f0,t44.f1,t44.f2,t44.f3,t44.f4,t52,t60⟩ λE=>ah.cG E (AA o 0) λt63=>Cl 204 #[t63.agg] E λu' U=>aa.EX λM=> ∃N,u'=.tuple #[M.agg,.I N]/\aS U (.cells aa.S.z.arr 262) λw V=>aa.cY V (AA w 0) M λi=>aK (λ(t78:Bool) (q:ai)=>if t78 then ah.cY q (AA g 0) ah.S.z λy=>ah.cG y (AA g 0) λa'=>R (.tuple #[a'.agg,.I 3]) y else ah.cG q (AA o 0) λt80=>ah.cY q (AA g 0) t80 λz=>ah.cG z (AA g 0) λb'=>R (.tuple #[b'.agg,.I 0]) z) (λk=>if(I !=0)then k true i else if(N !=0)then k true i else aa.cG i (AA w 0) λt74=>aa.cG i (AA b 0) λt75=>Cl 248 #[t74.agg,t75.agg] i λv' W=> ∃t76,v'=.bool t76/\k (!t76) W)) (λJ=> ∃t10,Cc H b 0 (.I t10)/\if(t10 !=4)then J true H else∃d' T c',Cc H b 3 (.slice d' T c')/\if(((T:Nat):Int) !=2)then J true H else Hl H b 3 λf' e' w'=>Bd 1 e'/\aO f' λO=> ∃t23,aB H (O.add (toNat 1*4))=some (.I t23)/\if(t23 !=4)then J true H else Hl H b 3 λh' g' x'=>Bd 1 g'/\aO h' λQ=> ∃j' F i',aB H ((Q.add (toNat 1*4)).add 3)=some (.slice j' F i')/\J (((F:Nat):Int) !=2) H)):ar Tryz.prog 246 #[x.agg] h R:=aR (lq (sq (sq (.join [(34,.one (.bool))] lf) (cq ll lf)) (lq (sq (pK 20) (sq (lq (sq (.join [(78,.one (.bool))] lf) (cq ll lf))) ll))))) Tryz.func246 Z
theorem vj.walk{now:Int} (C:aS h (.cells ah.S.z.arr 124) λb c=>aK (λ(i:ai)=>ah.cG i (AA m 0) λt58=>ah.cY i (AA b 0) t58 λk=>ah.cG k (AA b 0) λD=>R (.tuple #[D.agg,.I 0]) k) (λJ=>aK (λ(t15:Bool) (H:ai)=>aK (λ(y:ai)=>J y) (λr=>if t15 then ah.cY H (AA b 0) ah.S.z λn=>ah.cG n (AA b 0) λE=>R (.tuple #[E.agg,.I 6]) n else aK (λ(z:ai)=>r z) (λt=>if(decide (now>1099511627776))then ah.cY H (AA b 0) ah.S.z λo=>ah.cG o (AA b 0) λF=>R (.tuple #[F.agg,.I 1]) o else Hu H m 5 λt36=>aK (λ(A:ai)=>t A) (λj=>if(decide (now>t36))then aE H (AA m 5) (.U now) λu=>aE u (AA m 6) (.U 0) λv=>j v else∃t52,Cc H m 6 (.U t52)/\if(decide (t52≥1099511627776))then ah.cY H (AA b 0) ah.S.z λg=>ah.cG g (AA b 0) λG=>R (.tuple #[G.agg,.I 5]) g else∃t10,Cc H m 6 (.U t10)/\aE H (AA m 6) (.U (wrap .u64 (t10+1))) λw=>j w)))) (λq=> ∃t22,Cc c m 7 (.bool t22)/\q (!t22) c))):ar Tryz.prog 190 #[.P m 0,.U now] h R:=aR (lq (sq (.join [] (bq (sq (.join [(15,.one (.bool))] lf) (.join [] (cq ll (lq (.join [] (cq ll (lq (.join [] (cq lf (lq (cq ll lf))))))))))))) ll)) Tryz.func190 C
theorem vk.walk{x:ah.S}(o:aS h (.cells x.arr 124) λb k=>aK (λ(t5:Bool) (g:ai)=>if t5 then R (.I 6) g else aK (λ(t15:Bool) (H:ai)=>if t15 then R (.I 1) H else ah.cG H (AA m 0) λt33=>ah.cG H (AA b 0) λt34=>Cl 238 #[t33.agg,t34.agg] H λv i=> ∃t35,v=.bool t35/\if(!t35)then R (.I 7) i else ah.cG i (AA b 0) λt38=>ah.cY i (AA m 0) t38 λn=>R (.I 0) n) (λj=>ah.cG g (AA b 0) λt16=>Cl 237 #[t16.agg] g λV c=> ∃t17,V=.bool t17/\if(!t17)then j true c else ax.cG c (AA b 0) λt21=>ax.cG c (AA m 0) λt26=> ∃(eq:Bool),vw Tryz.prog 29 (t21.agg) (t26.agg) eq/\j (!eq) c)) (λJ=> ∃t12,Cc k m 7 (.bool t12)/\J (!t12) k)):ar Tryz.prog 189 #[.P m 0,x.agg] h R:=aR (lq (sq (bq (sq (.join [(5,.one (.bool))] lf) (cq ll (sq (.join [(15,.one (.bool))] (pK 14)) (cq ll (sq (pK 8) (cq ll lf))))))) (lq ll))) Tryz.func189 o
theorem JS.walk{x:ax.S}(T:aS h (.cells x.arr 29) λb z=>aS z (.cells aa.S.z.arr 262) λc n=>ax.cG n (AA b 0) λt5=>Cl 86 #[t5.agg] n λv H=> ∃t6,v=.bool t6/\if(!t6)then aa.cY H (AA c 0) aa.S.z λq=>aa.cG q (AA c 0) λU=>R (.tuple #[U.agg,.I 3]) q else ax.cG H (AA b 0) λt10=> ∃(eq:Bool),vw Tryz.prog 29 (t10.agg) (ax.S.z.agg) eq/\if eq then Cl 205 #[.U 1] H λY N=>aa.EX λt13=>Y=t13.agg/\Cl 205 #[.U 0] N λc' O=>aa.EX λt14=>c'=t14.agg/\aS O (.cells (t13.l++t14.l).toArray 262) λt Q=>Cl 247 #[.slice (some (AA t 0)) 2 2] Q λd' S=>aa.EX λt16=>d'=t16.agg/\aa.cY S (AA c 0) t16 λr=>aa.cG r (AA c 0) λV=>R (.tuple #[V.agg,.I 0]) r else∃t19,Cc H b 0 (.bool t19)/\if t19 then Hu H b 1 λt22=>Hu H b 2 λt25=>Cl 205 #[.U 2] H λe' g=>aa.EX λt20=>e'=t20.agg/\Kp H g [(some (AA b 2)),(some (AA b 1))]/\Cl 205 #[.U t22] g λf' i=>aa.EX λt23=>f'=t23.agg/\Kp g i [(some (AA b 2))]/\Cl 205 #[.U t25] i λg' A=>aa.EX λt26=>g'=t26.agg/\aS A (.cells (t23.l++t26.l).toArray 262) λu C=>Cl 247 #[.slice (some (AA u 0)) 2 2] C λh' D=>aa.EX λt28=>h'=t28.agg/\aS D (.cells (t20.l++t28.l).toArray 262) λw E=>Cl 247 #[.slice (some (AA w 0)) 2 2] E λi' F=>aa.EX λt30=>i'=t30.agg/\aa.cY F (AA c 0) t30 λj=>aa.cG j (AA c 0) λW=>R (.tuple #[W.agg,.I 0]) j else ax.cG H (AA b 0) λt32=>Cl 205 #[.U 1] H λj' k=>aa.EX λt31=>j'=t31.agg/\Kp H k [(some (AA b 0))]/\Cl 136 #[t32.agg] k λZ G=> ∃t33,Z=.string t33/\Cl 255 #[.string t33] G λa' I=>aa.EX λt34=>a'=t34.agg/\aS I (.cells (t31.l++t34.l).toArray 262) λy J=>Cl 247 #[.slice (some (AA y 0)) 2 2] J λb' M=>aa.EX λt36=>b'=t36.agg/\aa.cY M (AA c 0) t36 λo=>aa.cG o (AA c 0) λX=>R (.tuple #[X.agg,.I 0]) o):ar Tryz.prog 203 #[x.agg] h R:=aR (lq (sq (bq (lq (cq ll (lq (cq ll (lq (cq (sq (.jk (.op 1 (.op 2 (.op 4 (.op 5 (.op 0 (.op 3 (fE 7 6 .done)))))))) lf) lf))))))) (sq (.jk (.op 1 (.op 0 (fE 6 2 .done)))) lf))) Tryz.func203 T
theorem zQ.walk{s:ByteArray}(A:aS h (.cells ax.S.z.arr 29) λb u=>Cl 312 #[.string s,.string (⟨#[47,47]⟩:ByteArray)] u λv w=> ∃T o,v=.tuple #[.string T,.bool o]/\Cl 313 #[.string T,.string (⟨#[47]⟩:ByteArray)] w λV y=> ∃t q r,V=.tuple #[.string t,.string q,.bool r]/\aS y (.cells ax.S.z.arr 29) λc z=>ax.cY z (AA c 0) ⟨false,0,0,t,q⟩ λH=>ax.cG H (AA c 0) λt24=>if o then if r then if(!(t.toList==gi.toList))then ax.cG H (AA c 0) λt34=>Cl 86 #[t34.agg] H λG i=> ∃t35,G=.bool t35/\Kp H i [(some (AA c 0))]/\ax.cY i (AA b 0) t24 λj=>ax.cG j (AA b 0) λC=>R (.tuple #[C.agg,.bool t35]) j else ax.cY H (AA b 0) t24 λk=>ax.cG k (AA b 0) λD=>R (.tuple #[D.agg,.bool false]) k else ax.cY H (AA b 0) t24 λn=>ax.cG n (AA b 0) λE=>R (.tuple #[E.agg,.bool false]) n else ax.cY H (AA b 0) t24 λg=>ax.cG g (AA b 0) λF=>R (.tuple #[F.agg,.bool false]) g):ar Tryz.prog 286 #[.string s] h R:=aR (lq (lq (lq (lq (sq (pK 15) lf))))) Tryz.func286 A
theorem D8.walk{n:Int}(E:aS h (.cells x.arr 262) λb g=>aK (λ(t18:Bool) (k:ai)=>if t18 then R (.tuple #[.Z,.bool false]) k else Hl k b 3 λN z S=> ∃(I:cj->Nat->Nat->Int->ai->Prop)(M:cj->Nat->Nat->Int->ai->Nat),I none 0 0 0 k/\∀(j:cj)(O o:Nat)(t22:Int)(H:ai),I j O o t22 H->if(decide (t22<(z:Int)))then Bd t22 z/\aO N λa=>aa.cG H (a.add (toNat t22*4)) λt25=>aS H (.cells aa.S.z.arr 262) λc C=>aa.cY C (AA c 0) t25 λi=>aa.cG i (AA c 0) λt26=>Hu i c 1 λt28=>Cl 205 #[.U t28] i λv u=>aa.EX λt29=>v=t29.agg/\Kp i u [(some (AA c 0))]/\Cl 248 #[t26.agg,t29.agg] u λV q=> ∃t30,V=.bool t30/\if(!t30)then R (.tuple #[.Z,.bool false]) q else Hu q c 1 λt34=>aS q (.cells #[.U t34] 27) λA D=>aV Tryz.prog (Builtin.append_ #[345,345] 345 #[.slice j O o,.slice (some (AA A 0)) 1 1]) D λQ w=> ∃r T t,Q=.slice r T t/\(I r T t (wrap .i64 (t22+1)) w/\M r T t (wrap .i64 (t22+1)) w<M j O o t22 H)else R (.tuple #[.slice j O o,.bool true]) H) (λJ=> ∃t10,Cc g b 0 (.I t10)/\if(t10 !=4)then J true g else∃G y F,Cc g b 3 (.slice G y F)/\J (((y:Nat):Int) !=n) g)):ar Tryz.prog 287 #[x.agg,.I n] h R:=aR (lq (sq (sq (.join [(18,.one (.bool))] lf) (cq ll lf)) (lq (sq (lq (bq (.loop [(6,.one (.slice)),(22,.one (.int .i64))] (lq (sq (cq lf lf) (sq (bq (lq (sq (sq (pK 6) (cq ll lf)) lf))) lf)))))) ll)))) Tryz.func287 E
theorem Mq.walk (hv:aS h (.cells x.arr 262) λb x'=>aS x' (.cells ax.S.z.arr 29) λc a'=>aK (λ(t22:Bool) (H:ai)=>if t22 then ax.cY H (AA c 0) ax.S.z λh'=>ax.cG h' (AA c 0) λr0=>R (.tuple #[r0.agg,.I 3]) h' else aK (λ(S:cj) (rest:cj) (I':ai)=>aS I' (.cells ax.S.z.arr 29) λk C=>aK (λ(ok:Bool) (D:ai)=>if(!ok)then ax.cY D (AA c 0) ax.S.z λi'=>ax.cG i' (AA c 0) λN'=>R (.tuple #[N'.agg,.I 3]) i' else ax.cG D (AA k 0) λt80=>ax.cY D (AA c 0) t80 λj'=>ax.cG j' (AA c 0) λO'=>R (.tuple #[O'.agg,.I 0]) j') (λn'=>aK (λ(t32:Bool) (n:ai)=>aK (λ(J':Bool) (y':ai)=>n' J' y') (λo'=>if t32 then ax.cY n (AA c 0) ax.S.z λY=>ax.cG Y (AA c 0) λP'=>R (.tuple #[P'.agg,.I 0]) Y else aK (λ(t42:Bool) (g:ai)=>aK (λ(K':Bool) (z':ai)=>o' K' z') (λN=>if t42 then aO rest λa=>zp g (a.add 2) λY' X' W'=> ∃(t54:ByteArray),qV Tryz.prog 22 9 (.slice Y' X' W') g t54/\Cl 286 #[.string t54] g λv A'=>ax.EX λl'=> ∃m',v=.tuple #[l'.agg,.bool m']/\ax.cY A' (AA k 0) l' λB'=>N m' B' else aO S λp'=>aa.cG g p' λt59=>Cl 205 #[.U 2] g λFu Z=>aa.EX λt60=>Fu=t60.agg/\Kp g Z [S]/\Cl 248 #[t59.agg,t60.agg] Z λJm r=>Vb Jm λt61=>aK (λ(L':Bool) (C':ai)=>N L' C') (λO=>if t61 then aO rest λq'=>aa.cG r q' λt63=>Cl 287 #[t63.agg,.I 2] r λFF o=> ∃E T Z' F,FF=.tuple #[.slice E T Z',.bool F]/\aK (λ(M':Bool) (D':ai)=>O M' D') (λQ=>if F then Bd 0 T/\aO E λr'=>sw o (r'.add (toNat 0*1)) λt70=>Bd 1 T/\aO E λs'=>sw o (s'.add (toNat 1*1)) λt73=>ax.cY o (AA k 0) ⟨true,t70,t73,gi,gi⟩ λb'=>ax.cG b' (AA k 0) λt75=>Cl 86 #[t75.agg] b' λBP E'=> ∃t76,BP=.bool t76/\Q t76 E' else Q F o)else O false r))) (λM=>aO S λt'=>aa.cG n t' λt43=>Cl 205 #[.U 1] n λLZ c'=>aa.EX λt44=>LZ=t44.agg/\Kp n c' [S]/\Cl 248 #[t43.agg,t44.agg] c' λOw t=> ∃t45,Ow=.bool t45/\if t45 then aO rest λu'=> ∃t48,aB t u'=some (.I t48)/\M (t48==3) t else M false t))) (λI=>aO S λv'=>aa.cG C v' λt33=>Cl 205 #[.U 1] C λOx d'=>aa.EX λt34=>Ox=t34.agg/\Kp C d' [S]/\Cl 248 #[t33.agg,t34.agg] d' λOy q=> ∃t35,Oy=.bool t35/\if t35 then aO rest λw'=>aa.cG q w' λt37=>Cl 205 #[.U 0] q λQZ e'=>aa.EX λt38=>QZ=t38.agg/\Kp q e' [rest]/\Cl 248 #[t37.agg,t38.agg] e' λQ0 F'=> ∃t39,Q0=.bool t39/\I t39 F' else I false q))) (λG=>Hl H b 3 λT' S' Vh=>Bd 0 S'/\aO T' λi=>aa.cG H (i.add (toNat 0*4)) λt27=>Hl H b 3 λV' U' LY=>Bd 1 U'/\aO V' λA=>aa.cG H (A.add (toNat 1*4)) λt31=>(aS H (.cells aa.S.z.arr 262) λU u=>Kp H u [(some (A.add (toNat 1*4))),(some (AA b 3)),(some (i.add (toNat 0*4))),(some (AA b 3))]/\aS u (.cells aa.S.z.arr 262) λV w=>Kp u w [(some (A.add (toNat 1*4))),(some (AA b 3)),(some (i.add (toNat 0*4))),(some (AA b 3))]/\aa.cY w (AA U 0) t27 λf'=>Kp w f' [(some (A.add (toNat 1*4))),(some (AA b 3))]/\aa.cY f' (AA V 0) t31 λG'=>G (some (AA U 0)) (some (AA V 0)) G')/\(aS H (.cells aa.S.z.arr 262) λW y=>Kp H y [(some (A.add (toNat 1*4))),(some (AA b 3)),(some (i.add (toNat 0*4))),(some (AA b 3))]/\aS y (.cells aa.S.z.arr 262) λX z=>Kp y z [(some (A.add (toNat 1*4))),(some (AA b 3)),(some (i.add (toNat 0*4))),(some (AA b 3))]/\aa.cY z (AA X 0) t27 λg'=>Kp z g' [(some (A.add (toNat 1*4))),(some (AA b 3))]/\aa.cY g' (AA W 0) t31 λH'=>G (some (AA X 0)) (some (AA W 0)) H')/\True)) (λJ=>aa.cG a' (AA b 0) λt9=>Cl 207 #[t9.agg] a' λQ1 j=> ∃t10,Q1=.bool t10/\if(!t10)then J true j else∃t14,Cc j b 0 (.I t14)/\if(t14 !=4)then J true j else∃R' k' Q',Cc j b 3 (.slice R' k' Q')/\J (((k':Nat):Int) !=2) j)):ar Tryz.prog 245 #[x.agg] h R:=aR (lq (sq (sq (.join [(22,.one (.bool))] lf) (cq ll lf)) (sq (.join [(4,.one (.ptr)),(5,.one (.ptr))] (.jk (fE 8 0 (.alts (.fork 8 (fE 3 9 .done) (.fork 9 (.op 8 (.op 10 (.op 11 .done))) .gQ)))))) (lq (lq (sq (.join [(7,.one (.bool))] (bq (sq (.join [(32,.one (.bool))] (pK 9)) (.join [(7,.one (.bool))] (cq ll (sq (.join [(42,.one (.bool))] (pK 9)) (.join [(7,.one (.bool))] (cq lf (sq (pK 4) (.join [(7,.one (.bool))] (cq (lq (lq (lq (.join [(7,.one (.bool))] (cq (sq (pK 8) lf) lf))))) lf))))))))))) (sq (lq (cq ll lf)) ll))))))) Tryz.func245 hv

end
section
namespace Bn
open Cb
open jc (Ev cK ku)
variable {h:ai} {R:fx}
variable {n s q c l:Nat} {p:cj} {bs:List UInt8}
theorem Q2(H:n<4294967296):IntKind.wrap .u32 (n:Int)=(n:Int):=by
 have e:IntKind.wrap .u32 (n:Int)=(n:Int)%4294967296:=by simp[IntKind.wrap,IntKind.bits,IntKind.signed]
 rw[e];omega
theorem TZ(H:n<4294967296):(BitVec.ofInt (IntKind.bits .u32) (n:Int)).toNat=n:=by
 rw[BitVec.ofInt_natCast,BitVec.toNat_ofNat];exact fL H
theorem Mr{a b:Nat}(H:a<4294967296)(d:b<4294967296):IntKind.wrap .u32 ((BitVec.ofInt (IntKind.bits .u32) (a:Int) ^^^ BitVec.ofInt (IntKind.bits .u32) (b:Int)).toNat:Int)=((a ^^^ b:Nat):Int):=by
 rw[BitVec.toNat_xor,TZ H,TZ d];exact Q2 (Nat.xor_lt_two_pow (n:=32) H d)
theorem SI(H:s<4294967296):IntKind.wrap .u32 ((BitVec.ofInt (IntKind.bits .u32) (s:Int) &&& BitVec.ofInt (IntKind.bits .u32) 1).toNat:Int)=((s%2:Nat):Int):=by
 rw[BitVec.toNat_and,TZ H,show(BitVec.ofInt (IntKind.bits .u32) 1).toNat=1 from rfl,Nat.and_one_is_mod];exact Q2 ae
theorem Q3(s:Nat):Int.fdiv (s:Int) (2 ^ min (Int.toNat 1) (IntKind.bits .u32))=((s/2:Nat):Int):=Mn s 1
theorem JT(a:s<4294967296)(H:q<4294967296):nY s q<4294967296:=by
 unfold nY;split
 .exact Nat.xor_lt_two_pow (n:=32) (show s/2<2 ^ 32 by omega) H
 .omega
theorem Ms(a:s<4294967296)(H:q<4294967296)(hk:R (.int .u32 (nY s q:Int)) h):ar Tryz.prog 327 #[.int .u32 (s:Int),.int .u32 (q:Int)] h R:=by
 refine Gi.walk ?_;unfold nY at hk;rw[SI a,Q3,Mr ae H];by_cases c:s%2=1
 .rw[af (by rw[c];rfl)];rw[af c]at hk;exact hk
 .rw[ag (λe=>c (cf (eq_of_beq e)))];rw[ag c]at hk;exact hk
theorem yD(q:Nat): ∀(k s:Nat),ps q (k+1) s=nY (ps q k s) q
 |0,_=>rfl
 |k+1,s=>by
  show ps q (k+1) (nY s q)=nY (ps q k (nY s q)) q;exact yD q k _
theorem yE(a:q<4294967296): ∀(k s:Nat),s<4294967296->ps q k s<4294967296
 |0,_,H=>H
 |k+1,s,H=>yE a k _ (JT H a)
theorem JU(a:s<4294967296)(f:c<256)(H:q<4294967296)(hk:R (.int .u32 (O0 s c q:Int)) h):ar Tryz.prog 323 #[.int .u32 (s:Int),.int .u8 (c:Int),.int .u32 (q:Int)] h R:=by
 have d:=Nat.xor_lt_two_pow (n:=32) (x:=s) (y:=c) a ae;refine D4.walk ⟨λz t g=>g=h/\∃i:Nat,t=(i:Int)/\i<=8/\z=(ps q i (s ^^^ c):Int),λ_ t _=>8 - t.toNat,⟨rfl,0,rfl,ae,?_⟩,?_⟩
 .rw[Q2 (n:=c) ae,Mr a ae];rfl
 rintro _ _ _ ⟨rfl,i,rfl,j,rfl⟩;have b:=yE H i (s ^^^ c) d;by_cases c1:i<8
 .rw[fO];refine Ms b H ⟨_,rfl,?_⟩;rw[bz ae ae,<-yD];exact⟨⟨rfl,i+1,ae,ae,rfl⟩,by show 8 - Int.toNat ((i:Int)+1)<8 - Int.toNat (i:Int);omega⟩
 .rw[ag (λe=>c1 (cf (aQ e)))];obtain rfl:i=8:=ae
  exact hk
theorem B9(a:q<4294967296): ∀(b:List UInt8)(s:Nat),s<4294967296->runN s b q<4294967296
 | [],_,H=>H
 |c::b,s,H=>B9 a b _ (yE a 8 _ (Nat.xor_lt_two_pow (n:=32) H (cf c.toNat_lt)))
theorem Mt(d:s<4294967296)(H:q<4294967296)(row:Row h p (bc bs))(b:l=bs.length)(j:bs.length<=100000000)(hk:R (.int .u32 (runN s bs q:Int)) h):ar Tryz.prog 315 #[.int .u32 (s:Int),.slice p l c,.int .u32 (q:Int)] h R:=by
 subst b;refine Mp.walk ⟨λz t g=>g=h/\∃i:Nat,t=(i:Int)/\i<=bs.length/\z=(runN s (bs.take i) q:Int),λ_ t _=>bs.length - t.toNat,⟨rfl,0,rfl,ae,by rw[dM];rfl⟩,?_⟩;rintro _ _ _ ⟨rfl,i,rfl,f,rfl⟩;by_cases c1:i<bs.length
 .rw[fO];obtain⟨a,rfl,C⟩:=Cb.byte_at row c1;refine⟨⟨ae,ae⟩,ay.2 ⟨_,by rw[aI];exact C,JU (B9 H _ _ d) (bs[i]).toNat_lt H ⟨_,rfl,?_⟩⟩⟩;rw[bz ae ae];refine⟨⟨rfl,i+1,ae,ae,?_⟩,by show bs.length - Int.toNat ((i:Int)+1)<bs.length - Int.toNat (i:Int);omega⟩;rw[bL,aj c1];unfold runN;rw[List.foldl_append];rfl
 .rw[ag (λe=>c1 (cf (aQ e)))];rw[bG ae];exact hk
theorem Mu(row:Row h p (bc bs))(a:l=bs.length)(b:bs.length<=100000000)(hk:R (.int .u16 (xI bs:Int)) h):ar Tryz.prog 296 #[.slice p l c] h R:=by
 refine Gj.walk (Mt (s:=65535) (q:=33800) cM cM row a b ⟨_,rfl,?_⟩);unfold xI at hk;generalize runN 65535 bs 33800=z at hk⊢;have e:IntKind.wrap .u16 (z:Int)=((z%65536:Nat):Int):=by
  have e:IntKind.wrap .u16 (z:Int)=(z:Int)%65536:=by simp[IntKind.wrap,IntKind.bits,IntKind.signed]
  rw[e];omega
 rw[e];have H:z%65536<65536:=ae
 generalize z%65536=y at hk H⊢;have e2:(BitVec.ofInt (IntKind.bits .u16) (IntKind.max .u16) ^^^ BitVec.ofInt (IntKind.bits .u16) (y:Int)).toNat=65535 ^^^ y:=by
  rw[BitVec.toNat_xor,BitVec.ofInt_natCast,BitVec.toNat_ofNat,show(BitVec.ofInt (IntKind.bits .u16) (IntKind.max .u16)).toNat=65535 from rfl,show(2:Nat) ^ IntKind.bits .u16=65536 from rfl,fL H]
 rw[e2];have E:IntKind.wrap .u16 ((65535 ^^^ y:Nat):Int)=((65535 ^^^ y:Nat):Int):=by
  have d:=Nat.xor_lt_two_pow (n:=16) (x:=65535) (y:=y) cM ae;have e:IntKind.wrap .u16 ((65535 ^^^ y:Nat):Int)=((65535 ^^^ y:Nat):Int)%65536:=by simp[IntKind.wrap,IntKind.bits,IntKind.signed]
  rw[e];omega
 rw[E];exact hk
theorem Oz(row:Row h p (bc bs))(H:l=bs.length)(d:bs.length<=100000000)(hk:R (.int .u32 (vP bs:Int)) h):ar Tryz.prog 297 #[.slice p l c] h R:=by
 refine JR.walk (Mt (s:=4294967295) (q:=2197175160) cM cM row H d ⟨_,rfl,?_⟩);have:=Mr (a:=4294967295) (b:=runN 4294967295 bs 2197175160) cM (B9 cM _ _ cM);rw[show(IntKind.max .u32)=((4294967295:Nat):Int)from rfl,this];exact hk

end Bn
end
section
namespace Cb
variable {h i h':ai} {R:fx} {D D':Nat→Prop}
abbrev CV.s(x:CV):aa.S:=⟨x.k,x.n,x.v.p,x.v.b.length,x.v.c,x.q,x.ll,x.cl⟩
abbrev nv(n:Nat):CV:=⟨0,n,⟨none,0, []⟩,none,0,0⟩
theorem re.frame{Q:Nat->Prop}{t:Tr}{x:CV}(H:re h D t x)(f:Fr Q h h')(e: ∀y,D y->¬Q y):re h' D t x:=by
 obtain⟨⟨a,b,c,d⟩,ys,k,l,j,m⟩:=H;exact⟨⟨a,b,c,d.frame f e⟩,ys,k,l.frame f (λy g=>e y (j y g)),j,cS.frame f (λy g=>e y g.1) m⟩
theorem re.mono{t:Tr}{x:CV}(H:re h D t x)(hd: ∀y,D y->D' y):re h D' t x:=by
 obtain⟨⟨a,b,c,d⟩,ys,f,g,j,k⟩:=H;exact⟨⟨a,b,c,d.mono hd⟩,ys,f,g,λy e=>hd y (j y e),cS.mono (λy e=>⟨hd y e.1,e.2⟩) k⟩
abbrev D9(h:ai)(t:Tr)(x:CV):Prop:=gn h (λ_=>True) t x
abbrev zR(h:ai)(ts:List Tr)(xs:List CV):Prop:=cS h (λ_=>True) ts xs
theorem gn.u{t:Tr}{x:CV}(H:gn h D t x):D9 h t x:=H.mono λ_ _=>trivial
theorem cS.u{t:List Tr}{x:List CV}(H:cS h D t x):zR h t x:=H.mono λ_ _=>trivial
theorem re.u{t:Tr}{x:CV}(H:re h D t x):D9 h t x:=H.Rp.u
theorem cS.nil:cS h D [] []:=by unfold cS;trivial
theorem cS.cons{t:Tr}{y:CV}{ts:List Tr}{ys:List CV}(a:gn h D t y)(b:cS h D ts ys):cS h D (t::ts) (y::ys):=by unfold cS;exact⟨a,b⟩
theorem lT{n:Nat}:D9 h (num n) (nv n):=QX.Rp
theorem two{t u:Tr}{x y:CV}(a:gn h D t x)(b:gn h D u y):cS h D [t,u] [x,y]:=.cons a (.cons b .nil)
theorem ny{ys:List CV}{K:Nat->ai->Prop}{c:Array Value}(d:c=(ys.flatMap gV).toArray)(hk: ∀b h',b=h.size->(∀D,D b->lS h' D (some (AA b 0)) ys.length ys.length ys)->Fr No h h'->K b h'):aS h (.cells c 262) K:=by
 refine cC (hk _ _ rfl (λD H=>⟨rfl,by rw[d];exact jq,λ_ y ⟨a,e,E⟩=>by cases e;rw[<-E];exact H,aZ _⟩) (Fr.push _ _))
theorem ou{ts:List Tr}{ys:List CV}{c:Array Value}{l:Nat}(T:zR h ts ys)(e:da ts<=100000000)(a:c=(ys.flatMap gV).toArray)(d:l=ys.length)(hk: ∀h' z,re h' (λy=>h.size<=y) (qC ts) z->Fr No h h'->R z.agg h'):
  aS h (.cells c 262) λb g=>Cl 247 #[.slice (some (AA b 0)) l l] g R:=by
 subst d;refine ny a λb f E L f1=>jn (L (λ_=>True) trivial) (T.on f1) e λH z t f2=>hk H z (t.mono λy j=>cf f1.1) (f1.tt f2)
theorem OA{s:ByteArray}(hk: ∀h' (v:BV),v.b=s.data.toList->v.ok h' (λy=>h.size<=y)->Fr No h h'->R (CV.agg ⟨3,0,v,none,0,0⟩) h'):ar Tryz.prog 255 #[.string s] h R:=by
 refine JL.walk (aa.box λb m k d f1=>kk.Vy λp c g row f f2 n=>⟨_,_,_,rfl,aa.set (f2.get d id) λH d1 d2 d3=>aa.ld d1 ?_⟩);have f3:Fr (λy=>y=b) g H:=Fr.of_eq d2 (λc f=>d3 c f);have z:=f1.1;have Z:=aF d;have e:s.size=s.data.toList.length:=(jc.nj s).symm;have ok:BV.ok H (λy=>h.size<=y) ⟨p,c,s.data.toList⟩:=by
  refine⟨?_,λ_ y j=>cf (n y j),by show s.data.toList.length<=c;omega⟩;by_cases q:s.data.toList= []
  .show Row H p (bc s.data.toList);rw[q];exact Row.nil
  .exact row.frame f3 (λa E l=>cf (n a.block ⟨a,E,rfl⟩))
 have:=hk H ⟨p,c,s.data.toList⟩ rfl ok ((f1.tt f2).fresh f3 (λy e=>ae));unfold CV.agg gV BV.val at this;rw[e];exact this
end Cb
namespace Bn
open Cb
open jc (Ev cK ku)
variable {V : List UInt8 → Bool} {h i h' : ai} {R : Value → ai → Prop} {D : Nat → Prop}
abbrev _root_.Go.Proofs.YtlenamcfacpheaaGreatDoor.jc.Ev.s(x:Ev):ax.S:=⟨x.kH,x.node,x.gH,x.host,x.jD⟩
theorem fin{b:Nat}{y:aa.S}{z:CV}{t:Tr}{K:aa.S->ai->Prop}(a:aa.fN h b y)(T:re h D t z)(H: ∀y,D y->y≠b)(hk: ∀h',re h' D t z->Fr (λy=>y=b) h h'->K z.s h'):
  aa.cY h (AA b 0) z.s λg=>aa.cG g (AA b 0) λr=>K r g:=
 aa.gO (x:=z.s) a λg d1 f _=>aa.fK d1 (hk g (T.frame f H) f)
theorem Ca{b:Nat}{y:aa.S}{K:aa.S->ai->Prop}(H:aa.fN h b y)(hk: ∀h',Fr (λy=>y=b) h h'->K .z h'):
  aa.cY h (AA b 0) .z λg=>aa.cG g (AA b 0) λr=>K r g:=
 aa.gO H λg d1 f _=>aa.fK d1 (hk g f)
theorem kZ(x:Ev)(H:cK x=true):room (zB x)<=200:=by
 unfold zB;split
 .simp[room,da]
 .rename_i z;split
  .simp[room,da]
  .rename_i a;unfold cK at H;rw[ag z,ag a]at H;simp only[aT,aY]at H;have:=jc.nj x.host;have:=jc.nj x.jD;simp only[room,da,Dk,aA,ba,bt];omega
abbrev zv:CV:=⟨0,0,⟨none,0, []⟩,none,0,0⟩
theorem vm(x:Ev)(W:0<=x.gH)(K:cK x=true->∀h' z,re h' (λy=>h.size<=y) (zB x) z->Fr No h h'->R (.tuple #[z.agg,.I 0]) h')(s:cK x=false->gW h R (.tuple #[zv.agg,.I 3])):ar Tryz.prog 203 #[ku x] h R:=by
 refine JS.walk (x:=x.s) (ax.cT λb C A l f1=>aa.cT λb1 P B m f2=>ax.fK (f2.get l id) (jc.eX x λk f3=>⟨_,rfl,?_⟩));have c:=(f2.tt f3).get l id;have o:=f3.get m id;have F:=f1.tt (f2.tt f3);have Z:=f1.1;have Y:=aF m;have X:=f3.1;have done: ∀g z,cK x=true->re g (λy=>k.size<=y) (zB x) z->Fr No k g->aa.cY g (AA b1 0) z.s λa=>aa.cG a (AA b1 0) λw=>R (.tuple #[w.agg,.I 0]) a:=λg z H T j=>
  fin (j.get o id) T (λy f e=>ae) λa t4 f4=>K H a z (t4.mono λy f=>ae) ((F.tt j).fresh f4 (λy e=>ae))
 cases H:cK x with
 |false=>exact Ca o λa f4=>s H a (F.fresh f4 (λy e=>ae))
 |true=>
  have done:=λg z=>done g z H
  rw[cW];refine ax.fK c ⟨_,jc.wj (y:=.zero) (x:=x) rfl rfl,?_⟩;have E:room (zB x)<=200:=kZ x H;unfold zB at done E;unfold cK at H;by_cases z:x=.zero
  .rw[af (aq z)];simp only[af z]at done;exact fM (n:=1) λS f5=>aa.ex (nv 1).s ⟨rfl,fM (n:=0) λU f6=>aa.ex (nv 0).s ⟨rfl,ou (two lT lT) (by simp[room,da]) rfl rfl λr y ty f7=>aa.ex y.s ⟨rfl,done r y (ty.mono λy f=>ig f5.1 f6.1) (f5.tt (f6.tt f7))⟩⟩⟩
  rw[ag (cD z)];rw[ag z]at H;simp only[ag z]at done E;refine⟨_,aw c,?_⟩;by_cases d:x.kH=true
  .rw[af d]at H⊢;simp only[af d]at done;have H:=aQ H;have n1:x.node=(x.node.toNat:Int):=ae
   have n2:x.gH=(x.gH.toNat:Int):=ae
   refine⟨_,aw c,_,aw c,fM (n:=2) λG f10=>aa.ex (nv 2).s ⟨rfl,f10.kp,?_⟩⟩;dsimp only;rw[n1];refine fM λI f11=>aa.ex (nv x.node.toNat).s ⟨rfl,f11.kp,?_⟩
   rw[n2];refine fM λJ f12=>aa.ex (nv x.gH.toNat).s ⟨rfl,ou (two lT lT) (by simp[room,da]) rfl rfl λL y ty f14=>aa.ex y.s ⟨rfl,ou (ys:= [nv 2,y]) (two lT ty.u) (by simp[room,da]) rfl rfl λp u t f16=>aa.ex u.s ⟨rfl,?_⟩⟩⟩
   exact done p u (t.mono λy f=>by have:=f10.1;have:=f11.1;have:=f12.1;have:=f14.1;omega) (f10.tt (f11.tt (f12.tt (f14.tt f16))))
  .rw[ag d]at H⊢;simp only[ag d]at done E;simp only[aT,aY]at H;refine ax.fK c (fM (n:=1) λM f18=>aa.ex (nv 1).s ⟨rfl,f18.kp,jc.N7 x ae ae λN f19=>⟨_,rfl,OA λQ v ev O f20=>aa.ex (CV.s ⟨3,0,v,none,0,0⟩) ⟨rfl,?_⟩⟩⟩);have ev:v.b=Dk x:=by rw[ev];unfold str;simp[Dk]
   refine ou (ts:= [num 1,.mk 3 0 (Dk x) []]) (ys:= [nv 1,⟨3,0,v,none,0,0⟩]) (two lT (ev▸AW O).u) (by simp only[room,bt]at E⊢;omega) rfl rfl λq u t f22=>aa.ex u.s ⟨rfl,?_⟩
   exact done q u (t.mono λy f=>rh f18.1 f19.1 f20.1) (f18.tt (f19.tt (f20.tt f22)))
end Bn
end
section
namespace Bn
open Cb
open jc (Ev cK ku)
variable {V:List UInt8→Bool} {h d h':ai} {R:fx} {D:Nat→Prop}
variable {b i off:Nat} {x:CV} {c:Array Value} {ts:List Tr} {t:Tr} {ty:TypeId}
theorem T0{l:List (cj)}(f:Fr (λy=>y=b) h h')(a: ∀p∈l,p.map (·.block)≠some b):Kp h h' l:=f.Tt λp g x e H=>a p g (by rw[e];exact bY some H)
theorem Gl{y:ax.S}{x:Ev}{K:ax.S->ai->Prop}(H:ax.fN h b y)(hk: ∀h',Fr (λy=>y=b) h h'->K x.s h'):
  ax.cY h (AA b 0) x.s λg=>ax.cG g (AA b 0) λr=>K r g:=
 ax.gO (x:=x.s) H λg d1 f _=>ax.fK d1 (hk g f)
theorem Q4(l:List UInt8):(!((⟨l.toArray⟩:ByteArray).toList==gi.toList))= !l.isEmpty:=by
 rw[toList_data,toList_data];cases l<;>simp
theorem Cd{s:ByteArray}(mx:tR.Mx h)(z:s.size<1000000)(hk: gW h R (.tuple #[ku (vQ s.data.toList),.bool (sI s.data.toList)])):ar Tryz.prog 286 #[.string s] h R:=by
 refine zQ.walk (ax.cT λb w u m f1=>tR.I1 ⟨_,_,rfl,tR.BC (mx.on f1) ?_ ⟨_,_,_,rfl,ax.gh λb1 a v H f5=>ax.fK H ?_⟩⟩)
 .show(Lib.trimPrefix s.data.toList _).length<_;have:=jc.nj s;unfold Lib.trimPrefix;split
  .rw[bN];omega
  .omega
 have E:(⟨(Lib.trimPrefix s.data.toList (⟨#[47,47]⟩:ByteArray).data.toList).toArray⟩:ByteArray).data.toList=Lib.trimPrefix s.data.toList [47,47]:=bM
 rw[E]at H⊢;rw[show(⟨#[47]⟩:ByteArray).data.toList= [47]from rfl]at H⊢;rw[show(⟨#[47,47]⟩:ByteArray).data.toList= [47,47]from rfl];have ex:(⟨false,0,0,⟨(Lib.cut (Lib.trimPrefix s.data.toList [47,47]) [47]).1.toArray⟩,⟨(Lib.cut (Lib.trimPrefix s.data.toList [47,47]) [47]).2.1.toArray⟩⟩:ax.S)=(vQ s.data.toList).s:=rfl;rw[ex]at H⊢;have Z:=f1.1;have n:=f1.tt f5;have A:=aF m;have p:=f5.get m id;have done: ∀g q,Fr No a g->q=sI s.data.toList->ax.cY g (AA b 0) (vQ s.data.toList).s λG=>ax.cG G (AA b 0) λr=>R (.tuple #[r.agg,.bool q]) G:=λg q F e=>
  Gl (F.get p id) λG f=>by rw[e];exact hk G ((n.tt F).fresh f (λy e=>ae))
 rw[Q4];cases j:Lib.hasPrefix s.data.toList [47,47]with
 |false=>exact done a _ (Fr.refl _ _) (by unfold sI;rw[j];rfl)
 |true=>
  rw[af rfl];cases k:(Lib.cut (Lib.trimPrefix s.data.toList [47,47]) [47]).2.2 with
  |false=>exact done a _ (Fr.refl _ _) (by unfold sI;rw[j,k];rfl)
  |true=>
   rw[af rfl];cases l:(Lib.cut (Lib.trimPrefix s.data.toList [47,47]) [47]).1.isEmpty with
   |true=>exact done a _ (Fr.refl _ _) (by unfold sI;rw[j,k,l];rfl)
   |false=>
    rw[af (show(!false)=true from rfl)];exact ax.fK H (jc.eX (vQ s.data.toList) λo f6=>⟨_,rfl,f6.kp,done o _ f6 (by unfold sI;rw[j,k,l];rfl)⟩)
theorem t64:nP Tryz.prog 345 27 1 8 (.U 0):=⟨db,db,rfl⟩
theorem u64:Tryz.prog.underlying 345=some (.slice 27):=db
abbrev nc(l:List Tr):List Value:=l.map λt=> .int .u64 (t.n:Int)
theorem elem{D:Nat->Prop}{q:cj}{l c:Nat}{ys:List CV}(L:lS h D q l c ys)(T:cS h D ts ys)(g:i<ts.length): ∃(a:Addr)(y:CV),q=some a/\dF (a.add (i*4)) y.s.l 0 h/\gn h D (at_ ts i) y/\ys[i]? =some y:=by
 have j:=T.len;have H:ys[i]? =some (ys[i]' ae):=aj _;obtain⟨t,f,ty⟩:=T.get H;obtain⟨a,rfl⟩:=L.row.some (by intro e;have:=bY List.length e;rw[eO gV 4 fX,bt]at this;omega);refine⟨a,_,rfl,L.row.gv fX H,?_,H⟩;unfold at_;rw[aX,f];exact ty
theorem ju(H:i<ts.length):room (at_ ts i)<=da ts:=by
 unfold at_;rw[aX,aj H];exact kY (dC H)
theorem Ea(T:D9 h t x)(S:room t<=1000000)(z:t.k=4->t.l.length=2->xJ t.l=true->∀h' p c,Row h' p (nc t.l)->Fr No h h'->R (.tuple #[.slice p 2 c,.bool true]) h')(K: ¬(t.k=4/\t.l.length=2/\xJ t.l=true)->gW h R (.tuple #[.Z,.bool false])):ar Tryz.prog 287 #[x.agg,.I 2] h R:=by
 have b':=T;cases t with
 |mk k n b l=>
  simp only[room]at S;have z:k=4->l.length=2->xJ l=true->∀h' p c,Row h' p (nc l)->Fr No h h'->R (.tuple #[.slice p 2 c,.bool true]) h':=z;have K: ¬(k=4/\l.length=2/\xJ l=true)->∀h',Fr No h h'->R (.tuple #[.Z,.bool false]) h':=K;unfold gn at T;obtain⟨⟨rfl,rfl,rfl,a'⟩,ys,L,A⟩:=T;have ln:=A.len;have W:=L.len;refine D8.walk (x:=x.s) (aa.cT λbb j X u f1=>aK.of λJ B=>⟨_,aw u,?_⟩);have no: ¬(x.k=4/\l.length=2)->J true j:=λH=>by
   subst B;exact K (λe=>H ⟨e.1,e.2.1⟩) j f1
  by_cases o:x.k=4
  case neg=>rw[af (cD o)];exact no (λe=>o e.1)
  rw[ag (cD o)];refine⟨_,_,_,aw u,?_⟩;by_cases l2:l.length=2
  case neg=>rw[show((x.ll:Int) !=2)=true by simp only[dJ,fa];omega];exact no (λe=>l2 e.2)
  rw[show((x.ll:Int) !=2)=false by simp only[fV];omega];subst B;rw[cW];have sl:x.s.nC=2:=by show x.ll=2;omega
  refine⟨_,_,_,aw u,?_⟩;refine⟨λp len c t g=> ∃i:Nat,t=(i:Int)/\i<=2/\i=len/\fy g p i c 1 (nc (l.take i))/\(∀y,aP p y->j.size<=y)/\Fr No j g/\xJ (l.take i)=true,λ_ _ _ t _=>2 - t.toNat,⟨0,rfl,ae,rfl,by rw[dM];exact .nil rfl rfl rfl rfl,(λy ⟨a,e,_⟩=>by cases e),Fr.refl _ _,by rw[dM];rfl⟩,?_⟩;rintro p _ c _ g ⟨i,rfl,hi,rfl,O,N,f,H⟩;by_cases Q:i<2
  .rw[fO];have r:=f1.tt f;obtain⟨a,y,G,P,ty,m⟩:=elem (L.frame r (λ_ _=>id)) (A.on r) (i:=i) ae;refine⟨⟨ae,by show _<(x.ll:Int);omega⟩,bZ.2 ⟨a,G,(aa.mI (x:=y.s) (by rw[aI];exact P) (aa.gh (x:=y.s) λb1 h5 Z w f5=>aa.fK w ⟨_,aw w,fM λh6 f6=>aa.ex (nv y.n).s ⟨rfl,f6.kp,?_⟩⟩))⟩⟩;have ra:=ju (ts:=l) (i:=i) ae;have eq:l.take (i+1)=l.take i++ [at_ l i]:=by
    rw[bL];unfold at_;rw[aX,aj ae];rfl
   have Y:y.n=(at_ l i).n:=by
    revert ty;generalize at_ l i=s;intro ty;cases s;unfold gn at ty;exact ty.1.2.1
   refine iQ (t:=at_ l i) (s:=num y.n) (x:=y) (y:=nv y.n) (ty.on (f5.tt f6)) lT ae λM f7=>⟨_,rfl,?_⟩
   rw[Y];cases q:mM (at_ l i) (num (at_ l i).n)with
   |false=>
    rw[fO];refine K (λe=> ?_) M (r.tt (f5.tt (f6.tt f7)));have:=List.all_eq_true.1 e.2.2 (at_ l i) (by unfold at_;rw[aX,aj ae];exact dC _);rw[q]at this;cases this
   |true=>
    rw[cW];have F:=f5.tt (f6.tt f7);refine⟨_,aw ((f6.tt f7).get w id),iU t64 u64 (O.frame F (λ_ _=>id)) rfl (λv C=>by simp at C;rw[C];rfl) ae ae λp2 U h9 E f9 I=>⟨_,_,_,rfl,?_⟩⟩;rw[bz (n:=(i:Int)+1) ae ae];refine⟨⟨i+1,ae,ae,ae,?_,λy m=> ?_,(f.tt F).fresh f9 (λy m=>N y m),?_⟩,by show 2 - Int.toNat ((i:Int)+1)<2 - Int.toNat (i:Int);omega⟩
    .rw[eq,nc,bf];rw[show y.s.f1=((at_ l i).n:Int) by show(y.n:Int)=_;rw[Y]]at E;exact E
    .rcases I y m with a|a
     .exact N y a
     .have:=f.1;have:=F.1;omega
    .rw[eq];unfold xJ at H⊢;rw[List.all_append,H];simp[q]
  .rw[ag (λe=>Q (cf (aQ e)))];obtain rfl:i=2:=ae
   rw[bG ae]at H O;exact z o l2 H g p c O.iT (f1.tt f)
theorem gn.kn(H:gn h D t x):x.k=t.k/\x.n=t.n/\x.v.b=t.b/\x.ll=t.l.length/\x.v.ok h D/\∃ys,lS h D x.q x.ll x.cl ys/\cS h D t.l ys:=by
 cases t with
 |mk k n b l=>
  unfold gn at H;obtain⟨⟨a,A,e,f⟩,ys,L,T⟩:=H;exact⟨a,A,e,by rw[L.len,<-T.len];rfl,f,ys,L,T⟩
theorem mJ :da t.l+t.b.length+9=room t:=by cases t;simp only[room,Tr.l,Tr.b];omega
theorem SJ{p:Addr}{n:Nat}(h:p.block≠b):(some (p.add n)).map Addr.block≠some b:=by
 simp only[cO,kV];exact λe=>h (bn e)
theorem Mv(U:lW V d)(u:Fr No d h)(mx:tR.Mx h)(tx:D9 h t x)(hr:room t<=900000)(K: ∀e,mU V t=some e->gW h R (.tuple #[ku e,.I 0]))(k:mU V t=none->gW h R (.tuple #[ku .zero,.I 3])):ar Tryz.prog 245 #[x.agg] h R:=by
 obtain⟨xk,xn,xb,xl,xv,ys,L,TS⟩:=gn.kn tx;have rl:=mJ (t:=t);refine Mq.walk (x:=x.s) (aa.cT λb h1 eb hb f1=>ax.cT λb1 h2 P' m' f2=>aK.of λs' hJ=>aa.fK (f2.get hb id) (eX U (u.tt (f1.tt f2)) ((tx.on f1).on f2) ae λE f3=>⟨_,rfl,?_⟩));have o:=f1.tt (f2.tt f3);have I:=(f2.tt f3).get hb id;have n':=f3.get m' id;have zb:=aF hb;have Tj:=aF m';have z1:=f1.1;have z2:=f2.1;have z3:=f3.1;have bad:mU V t=none->s' true E:=λhn=>by
  subst hJ;dsimp only;rw[af rfl];exact Gl (x:=.zero) n' λg f=>k hn g (o.fresh f (λy e=>ae))
 cases hR:gw V t with
 |false=>exact bad (by unfold mU;rw[ag (λe=>by rw[hR]at e;cases e.1)])
 |true=>
 rw[ag (show¬(!true)=true by decide)];refine⟨_,aw I,?_⟩;have e4:x.s.f0=t.k:=xk;rw[e4];by_cases M:t.k=4
 case neg=>rw[af (cD M)];exact bad (by unfold mU;rw[ag (λe=>M e.2.1)])
 rw[ag (cD M)];refine⟨_,_,_,aw I,?_⟩;have el:x.s.nC=t.l.length:=xl;rw[el];by_cases l2:t.l.length=2
 case neg=>rw[show((t.l.length:Int) !=2)=true by simp only[dJ,fa];omega];exact bad (by unfold mU;rw[ag (λe=>l2 e.2.2)])
 rw[show((t.l.length:Int) !=2)=false by simp only[fV];omega];clear bad;subst hJ;dsimp only;rw[ag (show¬false=true by decide)];unfold mU at K k;rw[af ⟨hR,M,l2⟩]at K k;obtain⟨a0,y0,t',o',T,_⟩:=elem (L.frame o (λ_ _=>id)) (TS.on o) (i:=0) ae;obtain⟨a1,Y,u',p',O,_⟩:=elem (L.frame o (λ_ _=>id)) (TS.on o) (i:=1) ae;have r0:=ju (ts:=t.l) (i:=0) ae;have r1:=ju (ts:=t.l) (i:=1) ae;generalize at_ t.l 0=t0 at T r0 K k;generalize at_ t.l 1=t1 at O r1 K k;refine aK.of λJ1 B'=>⟨_,_,_,aw I,⟨ae,ae⟩,bZ.2 ⟨a0,t',aa.mI (x:=y0.s) o' ⟨_,_,_,aw I,⟨ae,ae⟩,bZ.2 ⟨a1,u',aa.mI (x:=Y.s) p' ?_⟩⟩⟩⟩
 have q': ∀g s r,aa.fN g s y0.s->aa.fN g r Y.s->Fr No E g->J1 (some (AA s 0)) (some (AA r 0)) g:=by
  intro g s r hs H' F;subst B';have Fg:=o.tt F;have zg:=F.1;refine ax.cT λB l Q' b' f6=>aK.of λJ l'=>aK.of λJ3 C'=> ?_
  have e':=f6.get hs id;have z:=f6.get H' id;have d':=(F.tt f6).get n' id;have Sj:=aF b';have C:=Fg.tt f6;have z6:=f6.1;have SK: ∀G e,ax.fN G B e.s->Fr (λy=>y=B) l G->(gW h R (.tuple #[ku e,.I 0]))->J true G:=λG e he f hk=>by
   subst l';rw[cW];exact ax.fK he (Gl (f.get d' ae) λj f7=>hk j ((C.fresh f (λy e=>ae)).fresh f7 (λy e=>ae)))
  have N: ∀G,Fr (λy=>y=B) l G->(gW h R (.tuple #[ku .zero,.I 3]))->J false G:=λG f hk=>by
   subst l';rw[fO];exact Gl (x:=.zero) (f.get d' ae) λj f7=>hk j ((C.fresh f (λy e=>ae)).fresh f7 (λy e=>ae))
  have r': ∀{G},Fr No l G->Fr (λy=>y=B) l G:=λf=>f.mono λ_ _=>False.elim
  obtain⟨M',W2,L',W3,N',W4,L1,O'⟩:=gn.kn O;have W5:=mJ (t:=t1);have j3: ∀q G,Fr No l G->q=decide (mM t0 (num 1)=true/\mM t1 (num 0)=true)->J3 q G:=by
   intro q G f w;subst C';refine aK.of λJ4 D'=> ?_
   cases q with
   |true=>
    rw[af rfl];have c:=aQ w.symm;exact Gl (x:=.zero) (f.get d' id) λj f7=>K _ (by rw[af c]) j ((C.tt f).fresh f7 (λy e=>ae))
   |false=>
    rw[cW];have c:=fj w.symm;rw[ag c]at K k;have J':=f.get e' id;have W6:=f.get z id;refine aK.of λJ5 E'=>ay.2 (aa.fK J' (fM (n:=1) λU' f24=>aa.ex (nv 1).s ⟨rfl,f24.kp,iQ (x:=y0) (y:=nv 1) (T.on (F.tt (f6.tt (f.tt f24)))) lT ae λV' f25=>⟨_,rfl,?_⟩⟩))
    have j5: ∀q j,Fr No l j->q=decide (mM t0 (num 1)=true/\t1.k=3)->J5 q j:=by
     intro q j f7 w;have K':=f7.get e' id;have I':=f7.get z id;have G7:=F.tt (f6.tt f7);subst E';refine aK.of λJ6 F'=> ?_
     have j6: ∀q g,J q g->J6 q g:=λq g hh=>by subst F';subst D';exact hh
     cases q with
     |true=>
      rw[af rfl];have W:=aQ w.symm;rw[af W]at K k;have ev:Y.v.b=t1.b:=L';refine ay.2 ⟨_,_,_,aw I',str t1.b,kk.conv (by rw[<-ev];exact(N'.frame G7 (λ_ _=>id)).row) (by show Y.v.b.length=_;rw[ev]),Cd (mx.on (C.tt f7)) (by rw[jc.pS];omega) λR' f15=> ?_⟩;have ed:(str t1.b).data.toList=t1.b:=by unfold str;simp
      rw[ed];refine ax.ex (vQ t1.b).s ⟨_,rfl,ax.gO (x:=(vQ t1.b).s) ((f7.tt f15).get b' id) λj' d16 f16 _=>j6 _ _ ?_⟩;have f':=Fr.no (f7.tt f15) f16;cases H:sI t1.b with
      |true=>exact SK j' _ d16 f' (K _ (by rw[af H]))
      |false=>exact N j' f' (k (by rw[ag (by rw[H];decide)]))
     |false=>
      rw[cW];have W:=fj w.symm;rw[ag W]at K k;refine ay.2 (aa.fK K' (fM (n:=2) λS' f17=>aa.ex (nv 2).s ⟨rfl,f17.kp,iQ (x:=y0) (y:=nv 2) (T.on (G7.tt f17)) lT ae λx' f18=>⟨_,rfl,aK.of λJ7 G'=> ?_⟩⟩));have j7: ∀q g,J q g->J7 q g:=λq g hh=>by subst G';exact j6 _ _ hh
      have v:=f7.tt (f17.tt f18);cases e2:mM t0 (num 2)with
      |false=>
       rw[cW];exact j7 _ _ (N x' (r' v) (k (by rw[ag (by rw[e2];decide)])))
      |true=>
       rw[af rfl];rw[af e2]at K k;refine ay.2 (aa.fK (v.get z id) (Ea (O.on (F.tt (f6.tt v))) ae (λq4 q2 qn k' p c row f20=>⟨_,_,_,_,rfl,aK.of λJ8 a'=> ?_⟩) (λqn k' f20=>⟨_,_,_,_,rfl,aK.of λJ8 a'=> ?_⟩)))
       .rw[af rfl];have n0:(nc t1.l)[0]? =some (.U ((at_ t1.l 0).n:Int)):=by unfold nc at_;rw[aM,aX,aj ae];rfl
        have n1:(nc t1.l)[1]? =some (.U ((at_ t1.l 1).n:Int)):=by unfold nc at_;rw[aM,aX,aj ae];rfl
        obtain⟨a,rfl⟩:=row.some (by intro e;rw[e]at n0;cases n0);have c0:=row.cell n0;have c1:=row.cell n1;have g':=v.tt f20;refine⟨⟨ae,ae⟩,ay.2 ⟨_,by rw[show Int.toNat 0*1=0 from rfl];exact c0,⟨ae,ae⟩,ay.2 ⟨_,by rw[show Int.toNat 1*1=1 from rfl];exact c1,ax.gO (x:=(KY t1).s) (g'.get b' id) λT' d22 f22 _=>ax.fK d22 (jc.eX (KY t1) λX f23=>⟨_,rfl,?_⟩)⟩⟩⟩;have i':Fr (λy=>y=B) l X:=(Fr.no g' f22).on f23;subst a';refine j7 _ _ ?_;cases H:cK (KY t1)with
        |true=>exact SK X _ (f23.get d22 id) i' (K _ (by rw[af ⟨q4,q2,qn,H⟩]))
        |false=>exact N X i' (k (by rw[ag (λe=>by rw[H]at e;cases e.2.2.2)]))
       .rw[cW];subst a';exact j7 _ _ (N k' (r' (v.tt f20)) (k (by rw[ag (λe=>qn ⟨e.1,e.2.1,e.2.2.1⟩)])))
    have P:=f.tt (f24.tt f25);cases e1:mM t0 (num 1)with
    |false=>
     rw[cW];exact j5 _ _ P (by rw[e1];simp)
    |true=>
     rw[af rfl];refine ay.2 ⟨_,aw (P.get z id),j5 _ _ P ?_⟩;rw[show Y.s.f0=t1.k from M',e1];by_cases q:t1.k=3<;>simp[q]
  refine ay.2 (aa.fK e' (fM (n:=1) λW' f26=>aa.ex (nv 1).s ⟨rfl,f26.kp,iQ (x:=y0) (y:=nv 1) (T.on (F.tt (f6.tt f26))) lT ae λX' f27=>⟨_,rfl,?_⟩⟩));have A:=f26.tt f27;cases e1:mM t0 (num 1)with
  |false=>
   rw[cW];exact j3 _ _ A (by rw[e1];simp)
  |true=>
   rw[af rfl];refine ay.2 (aa.fK (A.get z id) (fM (n:=0) λY' f28=>aa.ex (nv 0).s ⟨rfl,f28.kp,iQ (x:=Y) (y:=nv 0) (O.on (F.tt (f6.tt (A.tt f28)))) lT ae λZ' f29=>⟨_,rfl,?_⟩⟩));exact j3 _ _ (A.tt (f28.tt f29)) (by rw[e1];simp)
 have W7:a0.block<E.size:=by
  have:=o'.1;have:=oY this;rwa[kV,kV]at this
 have W8:a1.block<E.size:=by
  have:=p'.1;have:=oY this;rwa[kV,kV]at this
 refine⟨aa.cT λQ y' v' m f30=>⟨f30.kp,aa.cT λS z' w' c' f31=>⟨f31.kp,aa.gO (x:=y0.s) (f31.get m id) λA' d32 f32 _=>⟨T0 f32 ?_,aa.gO (x:=Y.s) (f32.get c' (cf (aF m))) λZ d33 f33 _=> ?_⟩⟩⟩,
  aa.cT λQ y' v' m f30=>⟨f30.kp,aa.cT λS z' w' c' f31=>⟨f31.kp,aa.gO (x:=y0.s) c' λA' d32 f32 _=>⟨T0 f32 ?_,aa.gO (x:=Y.s) (f32.get (f31.get m id) (cf (aF m))) λZ d33 f33 _=> ?_⟩⟩⟩,trivial⟩
 .intro p H;simp only[bD,List.not_mem_nil,or_false]at H;rcases H with rfl|rfl
  .exact SJ ae
  .simp only[cO];intro e;have:=bn e;omega
 .have:=aF m;have:=f30.1;exact q' Z Q S (f33.get d32 ae) d33 (((f30.tt f31).fresh f32 (λy e=>ae)).fresh f33 (λy e=>ae))
 .intro p H;simp only[bD,List.not_mem_nil,or_false]at H;have:=f30.1;rcases H with rfl|rfl
  .exact SJ ae
  .simp only[cO];intro e;have:=bn e;omega
 .have:=aF m;have:=f30.1;exact q' Z S Q (f33.get d32 ae) d33 (((f30.tt f31).fresh f32 (λy e=>ae)).fresh f33 (λy e=>ae))
abbrev iz.s(x:iz):ah.S:=⟨x.e.kH,x.e.node,x.e.gH,x.e.host,x.e.jD,x.tm,x.sq⟩
theorem ic(x:Ev){K:ax.S->Prop}(H:h[b]? =some (.cells c ty (0,0)))(d:c[off]? =some (.bool x.kH))(a:c[off+1]? =some (.U x.node))(e:c[off+2]? =some (.U x.gH))(f:c[off+3]? =some (.string x.host))(g:c[off+4]? =some (.string x.jD))(hk:K x.s):ax.cG h (AA b off) K:=
 ⟨_,cz H d,_,cz H a,_,cz H e,_,cz H f,_,cz H g,hk⟩
theorem yF(x:iz){K:ah.S->Prop}(H:h[b]? =some (.cells c ty (0,0)))(d:c[off]? =some (.bool x.e.kH))(a:c[off+1]? =some (.U x.e.node))(e:c[off+2]? =some (.U x.e.gH))(f:c[off+3]? =some (.string x.e.host))(g:c[off+4]? =some (.string x.e.jD))(j:c[off+5]? =some (.U (x.tm:Int)))(k:c[off+6]? =some (.U (x.sq:Int)))(hk:K x.s):ah.cG h (AA b off) K:=
 ⟨_,cz H d,_,cz H a,_,cz H e,_,cz H f,_,cz H g,_,cz H j,_,cz H k,hk⟩
theorem Cf{y:ah.S}(x:iz){K:ah.S->ai->Prop}(H:ah.fN h b y)(hk: ∀h',Fr (λy=>y=b) h h'->K x.s h'):
  ah.cY h (AA b 0) x.s λg=>ah.cG g (AA b 0) λr=>K r g:=
 ah.gO (x:=x.s) H λg d1 f _=>ah.fK d1 (hk g f)
theorem kG(n m:Nat):decide ((n:Int)<=(m:Int))=decide (n<=m):=by by_cases e:n<=m<;>simp[e]<;>omega
theorem qA(x:iz)(hk: gW h R (.bool (gx x))):ar Tryz.prog 237 #[x.s.agg] h R:=by
 refine D5.walk (ah.cT λb j E H f1=>ic x.e H rfl rfl rfl rfl rfl (jc.eX x.e λg f2=>⟨_,rfl,?_⟩));have a:=f2.get H id;have hk:=hk g (f1.tt f2);unfold gx at hk;cases e:cK x.e with
 |false=>rw[e]at hk;exact hk
 |true=>
  rw[e]at hk;rw[af rfl];refine⟨_,aw a,?_⟩;have e1:decide ((x.s.f5:Int)<=1099511627776)=decide (x.tm<=1099511627776):=kG x.tm 1099511627776;have e2:decide ((x.s.f6:Int)<=1099511627776)=decide (x.sq<=1099511627776):=kG x.sq 1099511627776;rw[e1];cases f:decide (x.tm<=1099511627776)with
  |false=>rw[f]at hk;exact hk
  |true=>
   rw[f]at hk;rw[af rfl];refine⟨_,aw a,?_⟩;rw[e2];exact hk
theorem AY(x:iz)(W:0<=x.e.gH)(K:gx x=true->∀h' z,re h' (λy=>h.size<=y) (KZ x) z->Fr No h h'->R (.tuple #[z.agg,.I 0]) h')(q:gx x=false->gW h R (.tuple #[zv.agg,.I 3])):ar Tryz.prog 204 #[x.s.agg] h R:=by
 refine D7.walk (ah.cT λb G E j f1=>aa.cT λb1 N u k f2=>ah.fK (x:=x.s) (f2.get j id) (qA x λO f3=>⟨_,rfl,?_⟩));have a:=(f2.tt f3).get j id;have l:=f3.get k id;have f:=f1.tt (f2.tt f3);have Z:=f1.1;have a':=aF k;have Y:=f3.1;cases H:gx x with
 |false=>exact Ca l λn f4=>q H n (f.fresh f4 (λy e=>ae))
 |true=>
  have g:cK x.e=true:=by unfold gx at H;simp only[aT]at H;exact H.1.1
  rw[cW];refine ic x.e a rfl rfl rfl rfl rfl (vm x.e W (λ_ P z r f5=>aa.ex z.s ⟨_,rfl,aa.gh (x:=z.s) λB Q v o f7=>aa.fK o ⟨_,aw ((f5.tt f7).get a id),_,aw ((f5.tt f7).get a id),?_⟩⟩) (λe=>by rw[g]at e;cases e));refine fM λS f8=>aa.ex (nv x.tm).s ⟨rfl,f8.kp,fM λU f9=>aa.ex (nv x.sq).s ⟨rfl,f9.kp,ny (ys:= [nv x.tm,nv x.sq]) rfl λs I A L f10=>⟨f10.kp,jn (L (λ_=>True) trivial) (two lT lT) (by simp[room,da]) λJ y ty f11=>aa.ex y.s ⟨rfl,f11.kp,?_⟩⟩⟩⟩
  have F:=f7.tt (f8.tt (f9.tt (f10.tt f11)));have C:=kZ x.e g;refine ou (ys:= [z,y]) (two (r.u.on F) ty.u) (by simp only[room,da,bt];omega) rfl rfl λM w T f13=>aa.ex w.s ⟨rfl,?_⟩
  have z5:=f5.1;have X:=F.1;exact fin ((f5.tt (F.tt f13)).get l id) T (λy p e=>ae) λm t14 f14=>K H m w (t14.mono λy p=>ae) ((f.tt (f5.tt (F.tt f13))).fresh f14 (λy e=>ae))
theorem yG{x:iz}(h:gx x=true):cK x.e=true/\x.tm<=1099511627776/\x.sq<=1099511627776:=by
 unfold gx at h;simp only[aT,aY]at h;exact⟨h.1.1,h.1.2,h.2⟩
theorem Eb{e:Ev}(h:mU V t=some e):0<=e.gH/\cK e=true:=by
 unfold mU at h;split at h
 .split at h
  .cases h;decide
  .split at h
   .split at h
    .rename_i H;cases h;unfold sI at H;simp only[aT]at H;exact⟨by show(0:Int)<=0;omega,H.2⟩
    .cases h
   .split at h
    .split at h
     .rename_i H;cases h;exact⟨by show(0:Int)<=((_:Nat):Int);omega,H.2.2.2⟩
     .cases h
    .cases h
 .cases h
theorem Ec(x:iz)(h:gx x=true):room (KZ x)<=300:=by
 have:=kZ x.e (yG h).1;simp only[KZ,room,da,bt];omega
def EQ(V:List UInt8->Bool)(t:Tr)(e:Ev)(q:Int):Prop:=(q=0->mU V t=some e)/\(q≠0->mU V t=none)/\0<=e.gH
theorem Cg(U:lW V d)(u:Fr No d h)(mx:tR.Mx h)(T:D9 h t x)(a:room t<=900000)(hk: ∀e q,EQ V t e q->gW h R (.tuple #[e.s.agg,.I q])):ar Tryz.prog 245 #[x.agg] h R:=
 Mv U u mx T a (λe H h' f=>hk e 0 ⟨λ_=>H,λq=>absurd rfl q,(Eb H).1⟩ h' f) (λH h' f=>hk .zero 3 ⟨λq=>absurd q cM,λ_=>H,cM⟩ h' f)
theorem HO(x:iz)(w:0<=x.e.gH)(hk: ∀h' z q,(q=0->D9 h' (KZ x) z)->(q=0↔gx x=true)->Fr No h h'->R (.tuple #[z.s.agg,.I q]) h'):ar Tryz.prog 204 #[x.s.agg] h R:=
 AY x w (λH h' z T f=>hk h' z 0 (λ_=>T.u) ⟨λ_=>H,λ_=>rfl⟩ f) (λH h' f=>hk h' zv 3 (λe=>absurd e cM) ⟨λe=>absurd e cM,λe=>by rw[H]at e;cases e⟩ f)
theorem Mw(U:lW V d)(u:Fr No d h)(mx:tR.Mx h)(tx:D9 h t x)(hr:room t<=900000)(K: ∀e,jY V t=some e->gW h R (.tuple #[e.s.agg,.I 0]))(k:jY V t=none->gW h R (.tuple #[iz.zero.s.agg,.I 3])):ar Tryz.prog 246 #[x.agg] h R:=by
 obtain⟨xk,xn,xb,xl,xv,ys,L,N⟩:=gn.kn tx;have rl:=mJ (t:=t);refine Gk.walk (x:=x.s) (aa.cT λb h1 eb X f1=>ah.cT λb1 l z' B f2=>aK.of λJ o=> ?_);have F:=f1.tt f2;have H:=f2.get X id;have zb:=aF X;have H':=aF B;have z1:=f1.1;have z2:=f2.1;have bad:jY V t=none->J true l:=λhn=>by
  subst o;dsimp only;rw[af rfl];exact Cf .zero B λg f=>k hn g (F.fresh f (λy e=>ae))
 have e4:x.s.f0=t.k:=xk;have el:x.s.nC=t.l.length:=xl;refine⟨_,aw H,?_⟩;rw[e4];by_cases v:t.k=4
 case neg=>rw[af (cD v)];exact bad (by unfold jY;rw[ag (λe=>v e.1)])
 rw[ag (cD v)];refine⟨_,_,_,aw H,?_⟩;rw[el];by_cases l2:t.l.length=2
 case neg=>rw[af (by simp only[dJ,fa];omega)];exact bad (by unfold jY;rw[ag (λe=>l2 e.2.1)])
 rw[ag (by simp only[dJ,fa];omega)];obtain⟨a0,y0,g',n',c',_⟩:=elem (L.frame F (λ_ _=>id)) (N.on F) (i:=0) ae;obtain⟨A,Y,E,b',d',_⟩:=elem (L.frame F (λ_ _=>id)) (N.on F) (i:=1) ae;obtain⟨e',x',w',f',F',G',M,T⟩:=gn.kn d';have c0:aB l (A.add (Int.toNat 1*4))=some (.I Y.k):=by have:=b'.1;rwa[fP]at this
 have C:aB l ((A.add (Int.toNat 1*4)).add 3)=some (.slice Y.q Y.ll Y.cl):=b'.2.2.2.1;have r0:=ju (ts:=t.l) (i:=0) ae;have r1:=ju (ts:=t.l) (i:=1) ae;refine⟨_,_,_,aw H,⟨ae,ae⟩,bZ.2 ⟨A,E,_,c0,?_⟩⟩;rw[e'];by_cases s:(at_ t.l 1).k=4
 case neg=>rw[af (cD s)];exact bad (by unfold jY;rw[ag (λe=>s e.2.2.1)])
 rw[ag (cD s)];refine⟨_,_,_,aw H,⟨ae,ae⟩,bZ.2 ⟨A,E,_,_,_,C,?_⟩⟩;rw[f'];by_cases l3:(at_ t.l 1).l.length=2
 case neg=>rw[show(((((at_ t.l 1).l.length:Nat):Int)) !=2)=true by simp only[dJ,fa];omega];exact bad (by unfold jY;rw[ag (λe=>l3 e.2.2.2)])
 rw[show(((((at_ t.l 1).l.length:Nat):Int)) !=2)=false by simp only[fV];omega];clear bad;subst o;dsimp only;rw[ag (show¬false=true by decide)];unfold jY at K k;rw[af ⟨v,l2,s,l3⟩]at K k;generalize D':at_ t.l 0=t0 at c' r0 K k;generalize E':at_ t.l 1=t1 at d' r1 K k e' x' w' f' T s l3;refine⟨_,_,_,aw H,⟨ae,ae⟩,bZ.2 ⟨a0,g',aa.mI (x:=y0.s) n' (Cg U (u.tt F) (mx.on F) c' ae λe q ⟨q',r',we⟩ g O=>ax.ex e.s ⟨_,rfl,?_⟩)⟩⟩;obtain⟨p0,w0,i',p,s',_⟩:=elem M T (i:=0) ae;obtain⟨p1,w1,j',r,t',_⟩:=elem M T (i:=1) ae;obtain⟨_,u',_⟩:=gn.kn s';obtain⟨_,v',_⟩:=gn.kn t';have p:aB l ((p0.add (Int.toNat 0*4)).add 1)=some (.U (w0.n:Int)):=p.2.1;have r:aB l ((p1.add (Int.toNat 1*4)).add 1)=some (.U (w1.n:Int)):=r.2.1;rw[u']at p;rw[v']at r;obtain⟨n,o'⟩: ∃n,(at_ t1.l 0).n=n:=⟨_,rfl⟩;obtain⟨n1,p'⟩: ∃n1,(at_ t1.l 1).n=n1:=⟨_,rfl⟩;rw[o']at p K k;rw[p']at r K k;refine ax.gh (x:=e.s) λb2 h7 A' l' f7=>ax.fK l' ?_
 have G:=O.tt f7;refine⟨_,_,_,aw (G.get H id),⟨ae,ae⟩,bZ.2 ⟨A,E,_,_,_,G.cell C id,⟨ae,ae⟩,bZ.2 ⟨p0,i',_,G.cell p id,_,_,_,aw (G.get H id),⟨ae,ae⟩,bZ.2 ⟨A,E,_,_,_,G.cell C id,⟨ae,ae⟩,bZ.2 ⟨p1,j',_,G.cell r id,?_⟩⟩⟩⟩⟩;refine ah.cT λb3 h8 B' a' f8=>⟨f8.kp,ah.gO (x:=(⟨e,n,n1⟩:iz).s) a' λS d9 f9 _=>ah.fK d9 ?_⟩
 have z7:=f7.1;have z8:=f8.1;have zg:=O.1;have I':=aF a';have z9:=f9.1;have I:Fr (λy=>y=b3) l S:=Fr.no (G.tt f8) f9;have z:Fr No h S:=(F.tt (G.tt f8)).fresh f9 (λy e=>ae);refine HO ⟨e,n,n1⟩ we λg2 w q2 hw hq k'=>aa.ex w.s ⟨_,rfl,?_⟩
 refine aa.gh (x:=w.s) λb4 m C' m' f12=>aK.of λJ o=> ?_
 have j:=k'.tt f12;have Z: ∀{g},Fr No m g->ah.fN g b1 .z:=λfq=>fq.get (j.get (I.get B ae) id) id
 have no: ∀a,Fr No m a->(gW h R (.tuple #[iz.zero.s.agg,.I 3]))->J true a:=λa f3 hk=>by
  subst o;try dsimp only
  rw[af rfl];exact Cf .zero (Z f3) λg f=>hk g ((z.tt (j.tt f3)).fresh f (λy e=>ae))
 have y': ∀a,Fr No m a->(gW h R (.tuple #[(⟨e,n,n1⟩:iz).s.agg,.I 0]))->J false a:=λa f3 hk=>by
  subst o;try dsimp only
  rw[cW];exact ah.fK ((j.tt f3).get d9 id) (Cf ⟨e,n,n1⟩ (Z f3) λg f=>hk g ((z.tt (j.tt f3)).fresh f (λy e=>ae)))
 by_cases Q:q=0
 case neg=>rw[af (cD Q)];exact no m (Fr.refl _ _) (k (by rw[r' Q]))
 rw[ag (cD Q)];rw[q' Q]at K k;dsimp only at K k;by_cases q1:q2=0
 case neg=>rw[af (cD q1)];exact no m (Fr.refl _ _) (k (by rw[ag (λe=>q1 (hq.2 e.1))]))
 rw[ag (cD q1)];have W:=hq.1 q1;have rI:=Ec _ W;refine aa.fK m' (aa.fK (x:=x.s) (j.get (I.get H ae) id) (iQ (x:=w) (y:=x) ((hw q1).on f12) (tx.on (z.tt j)) ae λP f16=>⟨_,rfl,?_⟩));cases hs:mM (KZ ⟨e,n,n1⟩) t with
 |true=>exact y' P f16 (K _ (by rw[af ⟨W,hs⟩]))
 |false=>exact no P f16 (k (by rw[ag (λe=>by rw[hs]at e;cases e.2)]))
theorem Gm{x:iz}(h:jY V t=some x):0<=x.e.gH:=by
 unfold jY at h;split at h
 .split at h
  .cases h
  .rename_i e H;split at h
   .cases h;exact(Eb H).1
   .cases h
 .cases h
def IQ(V:List UInt8->Bool)(t:Tr)(x:iz)(q:Int):Prop:=(q=0->jY V t=some x)/\(q≠0->jY V t=none)/\0<=x.e.gH
theorem Ch(U:lW V d)(u:Fr No d h)(mx:tR.Mx h)(T:D9 h t x)(a:room t<=900000)(hk: ∀e q,IQ V t e q->gW h R (.tuple #[e.s.agg,.I q])):ar Tryz.prog 246 #[x.agg] h R:=
 Mw U u mx T a (λe H h' f=>hk e 0 ⟨λ_=>H,λq=>absurd rfl q,Gm H⟩ h' f) (λH h' f=>hk .zero 3 ⟨λq=>absurd q cM,λ_=>H,cM⟩ h' f)

end Bn
end
end Go.Proofs.YtlenamcfacpheaaGreatDoor
namespace Go.Den
section
variable {b off:Nat}
theorem tO : ∀(vs:List Value)(i:Nat)(h:ai)(K:ai->Prop),eS (AA b 0) vs (off+i) h K->eS (AA b off) vs i h K
 | [],_,_,_,H=>H
 |v::vs,i,h,K,H=>by
  unfold eS at H⊢;cases a:fH v with
  |false=>rw[a]at H;exact H
  |true=>
   rw[a]at H;dsimp only at H⊢;rw[gl,bE]at H;rw[gl];obtain⟨c,d,f⟩:=H;exact⟨c,d,λh' e=>tO vs (i+1) h' K (f h' e)⟩
theorem k7{h:ai}{c:Array Value}{t:TypeId}{vs ws:List Value}{K:ai->Prop}(d:h[b]? =some (.cells c t (0,0)))(i:off+vs.length<=c.size)(f:vs.all fH=true)(e:c.toList.take off++vs++c.toList.drop (off+vs.length)=ws)(hk: ∀h',h'[b]? =some (.cells ws.toArray t (0,0))->h'.size=h.size->(∀x,x≠b->h'[x]? =h[x]?)->K h'):eS (AA b off) vs 0 h K:=by
 refine tO vs 0 h K (pj vs (off+0) h c K d ae f λh' C B z q r s o=>hk h' ?_ s o);have:C=ws.toArray:=by
  subst e;apply Array.ext'
  apply e8
  intro j;have k:c.toList.length=c.size:=dQ;rw[df];show C[j]? =(c.toList.take off++vs++c.toList.drop (off+vs.length))[j]?;by_cases a:j<off
  .rw[cX,cN (by rw[bF];omega),cI,af a,df];exact q j ae
  .by_cases g:j<off+vs.length
   .have l1:(c.toList.take off).length=off:=by rw[bF];omega
    rw[cX,cH ae,l1,cN ae];have H:j - off<vs.length:=ae
    have:=r (j - off) vs[j - off] (aj H);rw[show off+0+(j - off)=j by omega]at this;rw[this,aj H]
   .have l1:(c.toList.take off++vs).length=off+vs.length:=by rw[aA,bF];omega
    rw[cH ae,l1,ft,df,show off+vs.length+(j - (off+vs.length))=j by omega];exact q j ae
 rw[<-this];exact B

end
end Go.Den
