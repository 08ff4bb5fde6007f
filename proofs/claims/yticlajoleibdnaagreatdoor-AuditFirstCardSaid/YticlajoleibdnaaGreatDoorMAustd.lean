/-
  IY is proved here: parts of AH proof, one behind AH other (texts of this work, merged by a program; KW AH theorem KX not use is left out). No condition.
-/
import Derived.Test.YticlajoleibdnaaGreatDoorProg
import Derived.Shelf.SortM.Plain
import Derived.Shelf.SortM.SortNone
import Derived.Ground.SlgmProg
import Derived.Test.YticlajoleibdnaaGreatDoorMAustc
set_option linter.defProp false
set_option maxRecDepth 100000
set_option maxHeartbeats 4000000
namespace Go.Proofs.YticlajoleibdnaaGreatDoor
open Go.Den
open IntKind (wrap)
open Int (toNat)
section
variable {h:Heap} {R:dH}
variable {sum v:Int} {L:bH} {l a:Nat} {x:aa.S} {p:aH.S}
def lV(H:R (.I (wrap .i64 (2*sum))) h):Cl 388 #[.I sum] h R:=aD [] H
def vM (j:ay (λ(n:Bool) H=>ite n (R (.I (-1)) H) (Bd v l/\aJ L λg=> ∃f,aQ H ((g.add (toNat v*4)).add 1)=some (.U f)/\R (.I (wrap .i64 f)) H)) (λJ=>ite (decide (v<0)) (J true h) (ite (decide (v≥(l:Int))) (J true h) (Bd v l/\aJ L λA=> ∃t,aQ h ((A.add (toNat v*4)).add 1)=some (.U t)/\ite (decide (t>2)) (J true h) (Bd v l/\aJ L λc=>aa.ck h (c.add (toNat v*4)) λk=>Bd v l/\aJ L λi=>fM h ((i.add (toNat v*4)).add 1) λm=>Cl 390 #[.U m] h λV b=>aa.EX λT=>V=T.agg/\Kp h b [(some (c.add (toNat v*4))),(some ((A.add (toNat v*4)).add 1))]/\Cl 329 #[k.agg,T.agg] b λo d=> ∃e,o=.B e/\Kp b d [(some ((A.add (toNat v*4)).add 1))]/\J (!e) d))))):Cl 386 #[.L L l a,.I v] h R:=aD [(4,.join [(34,sB)]),(4,λ_=>pK 30)] j
def xe (C:Cl 458 #[.L L l a] h λV m=>Vl V λF E D=>Cl 388 #[.I sum] m λP r=>Vi P λf=>ij (Instr.makeSlice 69 (.I f) (.I f)) r λQ s=>Vl Q λJ I G=>Cl 387 #[.L J I G] s λS u=>aa.EX λg=>S=g.agg/\aT u (.C g.arr 368) λb w=>ij (Builtin.append_ #[366,366] 366 #[.L F E D,.L (Sa b 0) 1 1]) w λU y=>Vl U λO M K=>Cl 327 #[.L O M K] y λX z=>aa.EX λi=>X=i.agg/\Cl 333 #[i.agg] z λZ H=> ∃d c T j,Z=.T #[.L d c T,.I j]/\ite (j !=0) (R (.T #[.Z,.I 3]) H) (ite (sum==1) (Cl 459 #[.L d c T] H λa' A=> ∃e,a'=.int .u16 e/\aT A (.C #[.int .u8 (wrap .u8 (Int.fdiv e (2 ^ min (toNat 8) (IntKind.bits .u16)))),.int .u8 (wrap .u8 e)] 5) λB n=>R (.T #[.L (Sa B 0) 2 2,.I 0]) n) (Cl 423 #[.L d c T] H λb' o=> ∃t,b'=.int .u32 t/\aT o (.C #[.int .u8 (wrap .u8 (Int.fdiv t (2 ^ min (toNat 24) (IntKind.bits .u32)))),.int .u8 (wrap .u8 (Int.fdiv t (2 ^ min (toNat 16) (IntKind.bits .u32)))),.int .u8 (wrap .u8 (Int.fdiv t (2 ^ min (toNat 8) (IntKind.bits .u32)))),.int .u8 (wrap .u8 t)] 5) λk q=>R (.T #[.L (Sa k 0) 4 4,.I 0]) q))):Cl 389 #[.L L l a,.I sum] h R:=aD [] C
def yt (V:aa.NW h λb f=>ay (λ(d':Bool) o=>ite d' (aa.cR o (AA b 0) aa.S.z λr=>aa.ck r (AA b 0) λX=>R (.T #[X.agg,.I 1]) r) (Cl 386 #[.L L l a,.I v] o λk' Q=>Vi k' λt=>ay (λ(e':Bool) s=>ite e' (aa.cR s (AA b 0) aa.S.z λu=>aa.ck u (AA b 0) λZ=>R (.T #[Z.agg,.I 3]) u) (Cl 327 #[.L L l a] s λl' S=>aa.EX λz=>l'=z.agg/\aa.NW S λB U=>aa.cR U (AA B 0) z λw=>ay (λg=>aa.ck g (AA B 0) λi'=>Cl 385 #[i'.agg] g λm' c=> ∃K,m'=.B K/\ite (!K) (aa.cR c (AA b 0) aa.S.z λi=>aa.ck i (AA b 0) λa'=>R (.T #[a'.agg,.I 3]) i) (aa.ck c (AA B 0) λj'=>aa.cR c (AA b 0) j' λk=>aa.ck k (AA b 0) λb'=>R (.T #[b'.agg,.I 0]) k)) (λe=>ite (decide (t>0)) (Cl 389 #[.L L l a,.I t] w λn' H=> ∃D C A T,n'=.T #[.L D C A,.I T]/\ite (T !=0) (aa.cR H (AA b 0) aa.S.z λm=>aa.ck m (AA b 0) λc'=>R (.T #[c'.agg,.I T]) m) (Hl H B 3 λh' g' f'=>Cl 387 #[.L D C A] H λo' d=>aa.EX λE=>o'=E.agg/\Kp H d [(Sa B 3)]/\aT d (.C E.arr 368) λM n=>Kp d n [(Sa B 3)]/\ij (Builtin.append_ #[366,366] 366 #[.L h' g' f',.L (Sa M 0) 1 1]) n λp' O=> ∃I G F,p'=.L I G F/\aI O (AA B 3) (.L I G F) λP=>e P)) (e w)))) (λj=>Cl 463 #[.L L l a,.func (.func 462) #[] #[]] Q λq' q=> ∃y,q'=.B y/\ite y (j true q) (j (decide (t<0)) q)))) (λJ=>ite (decide (v<0)) (J true f) (J (decide (v≥(l:Int))) f))):Cl 397 #[.L L l a,.I v] h R:=aD [(4,.join [(18,sB)]),(16,.join [(29,sB)]),(27,.join []),(38,λ_=>pK 8)] V
def vN(d:aT h (.C x.arr 368) λb H=>aa.ck H (AA b 0) λT=>Cl 385 #[T.agg] H λV c=> ∃t,V=.B t/\R (.B (!t)) c):Cl 462 #[x.agg] h R:=aD [] d
theorem yu (hv:aT h (.C x.arr 368) λb s=>ay (λ(m':Bool) m=>ite m' (R (.T #[.Z,.I 3]) m) (∃D C A,Cc m b 3 (.L D C A)/\Cl 386 #[.L D C A,.I v] m λx' H=> ∃T,x'=.I T/\ite (decide (T<0)) (R (.T #[.Z,.I 3]) H) (ite (T==0) (∃G F E,Cc H b 3 (.L G F E)/\Cl 327 #[.L G F E] H λy' j'=>aa.EX λe=>y'=e.agg/\R (.T #[.L e.Pl e.Fw e.Ll,.I 0]) j') (∃o' t n',Cc H b 3 (.L o' t n')/\∃K I p',Cc H b 3 (.L K I p')/\((0:Int)<=wrap .i64 (((t:Nat):Int) - 1)/\wrap .i64 (((t:Nat):Int) - 1)<((I:Nat):Int))/\aJ K λh'=>aa.ck H (h'.add (toNat (wrap .i64 (((t:Nat):Int) - 1))*4)) λq'=>aa.NW H λB k'=>aa.cR k' (AA B 0) q' λc=>ay (λ(u':Bool) n=>ite u' (R (.T #[.Z,.I 3]) n) (∃X v' f,Cc n b 3 (.L X v' f)/\((0:Int)<=wrap .i64 (((t:Nat):Int) - 1)/\wrap .i64 (((t:Nat):Int) - 1)<=((f:Nat):Int))/\Cl 389 #[.slice (bV X f 0 4) ((toNat (wrap .i64 (((t:Nat):Int) - 1))) - 0) (f - 0),.I T] n λz' o=> ∃b' a' Z r,z'=.T #[.L b' a' Z,.I r]/\ite (r !=0) (R (.T #[.Z,.I r]) o) (∃e' d' c',Cc o B 2 (.L e' d' c')/\Cl 194 #[.L b' a' Z,.L e' d' c'] o λA' q=> ∃f',A'=.B f'/\ite (!f') (R (.T #[.Z,.I 10]) q) (∃g' w' g,Cc q b 3 (.L g' w' g)/\((0:Int)<=wrap .i64 (((t:Nat):Int) - 1)/\wrap .i64 (((t:Nat):Int) - 1)<=((g:Nat):Int))/\Cl 327 #[.slice (bV g' g 0 4) ((toNat (wrap .i64 (((t:Nat):Int) - 1))) - 0) (g - 0)] q λB' i'=>aa.EX λi=>B'=i.agg/\R (.T #[.L i.Pl i.Fw i.Ll,.I 0]) i')))) (λj=>ite (decide ((wrap .i64 (((t:Nat):Int) - 1))<=v)) (j true c) (aa.ck c (AA B 0) λr'=> ∃P O M,Cc c B 2 (.L P O M)/\Cl 387 #[.L P O M] c λC' u=>aa.EX λQ=>C'=Q.agg/\Kp c u [(Sa B 0)]/\Cl 329 #[r'.agg,Q.agg] u λD' d=> ∃S,D'=.B S/\ite (!S) (j true d) (∃t' U s',Cc d B 2 (.L t' U s')/\Cl 388 #[.I T] d λE' w=> ∃V,E'=.I V/\Kp d w [(Sa B 2)]/\j (((U:Nat):Int) !=V) w))))))) (λJ=>aa.ck s (AA b 0) λl'=>Cl 385 #[l'.agg] s λF' k=> ∃y,F'=.B y/\ite (!y) (J true k) (∃z,Cc k b 0 (.I z)/\J (z !=4) k))):Cl 324 #[x.agg,.I v] h R:=aD [(4,.join [(18,sB)]),(33,.join [(60,sB)]),(33,λ_=>pK 19)] hv
def xf (m:aT h (.C p.arr 274) λb H=> ∃j,Cc H b 0 (.U j)/\ite ((wrap .u64 ((ry j &&& ~~~ ry 409638).toNat:Int))==0) (∃k,Cc H b 1 (.I k)/\ite (decide (k≥0)) (∃t,Cc H b 1 (.I t)/\ite (decide (t<=2)) (aw.ck H (AA b 2) λn=>Cl 84 #[n.agg] H λV c=> ∃T,V=.B T/\ite T (aw.ck c (AA b 7) λo=>Cl 84 #[o.agg] c λr d=> ∃f,r=.B f/\ite f (aB.ck d (AA b 12) λq=>Cl 413 #[q.agg] d λs e=> ∃g,s=.B g/\ite g (∃i,Cc e b 19 (.U i)/\R (.B (decide (i<=1099511627776))) e) (R (.B false) e)) (R (.B false) d)) (R (.B false) c)) (R (.B false) H)) (R (.B false) H)) (R (.B false) H)):Cl 395 #[p.agg] h R:=aD [] m
def xg(V:aT h (.C p.arr 274) λb J=>aa.NW J λf q=>aH.ck q (AA b 0) λa'=>Cl 395 #[a'.agg] q λs' m=> ∃T,s'=.B T/\ite (!T) (aa.cR m (AA f 0) aa.S.z λs=>aa.ck s (AA f 0) λX=>R (.T #[X.agg,.I 3]) s) (aw.ck m (AA b 2) λb'=>Cl 396 #[b'.agg] m λt' P=>aa.EX λu=> ∃c',t'=.T #[u.agg,.I c']/\aa.NW P λc Q=>aa.cR Q (AA c 0) u λt=>aw.ck t (AA b 7) λd'=>Cl 396 #[d'.agg] t λu' S=>aa.EX λw=> ∃e',u'=.T #[w.agg,.I e']/\aa.NW S λd U=>aa.cR U (AA d 0) w λn=>aB.ck n (AA b 12) λf'=>Cl 393 #[f'.agg] n λv' K=>aa.EX λy=> ∃g',v'=.T #[y.agg,.I g']/\aa.NW K λB M=>aa.cR M (AA B 0) y λH=>Hu H b 0 λh'=>Hi H b 1 λi'=>aa.ck H (AA c 0) λj'=>Hl H B 3 λl' k' B'=>Bd 0 k'/\aJ l' λA=>aa.ck H (A.add (toNat 0*4)) λm'=>aa.ck H (AA d 0) λn'=>Hl H B 3 λp' o' C'=>Bd 1 o'/\aJ p' λe=>aa.ck H (e.add (toNat 1*4)) λq'=>Hu H b 19 λr'=>Cl 390 #[.U 7] H λw' g=>aa.EX λz=>w'=z.agg/\Kp H g [(Sa b 19),(some (e.add (toNat 1*4))),(Sa B 3),(Sa d 0),(some (A.add (toNat 0*4))),(Sa B 3),(Sa c 0),(Sa b 1),(Sa b 0)]/\Cl 390 #[.U h'] g λx' i=>aa.EX λC=>x'=C.agg/\Kp g i [(Sa b 19),(some (e.add (toNat 1*4))),(Sa B 3),(Sa d 0),(some (A.add (toNat 0*4))),(Sa B 3),(Sa c 0),(Sa b 1)]/\Cl 390 #[.U (wrap .u64 i')] i λy' j=>aa.EX λD=>y'=D.agg/\Kp i j [(Sa b 19),(some (e.add (toNat 1*4))),(Sa B 3),(Sa d 0),(some (A.add (toNat 0*4))),(Sa B 3),(Sa c 0),(Sa b 1)]/\Cl 390 #[.U r'] j λz' k=>aa.EX λE=>z'=E.agg/\Kp j k [(some (e.add (toNat 1*4))),(Sa B 3),(Sa d 0),(some (A.add (toNat 0*4))),(Sa B 3),(Sa c 0),(Sa b 1)]/\aT k (.C (z.l++C.l++D.l++j'.l++m'.l++n'.l++q'.l++E.l).toArray 368) λI o=>Kp k o [(Sa B 3),(Sa B 3),(Sa b 1)]/\Cl 397 #[.L (Sa I 0) 8 8,.I 2] o λA' O=>aa.EX λF=> ∃G,A'=.T #[F.agg,.I G]/\aa.cR O (AA f 0) F λr=>aa.ck r (AA f 0) λZ=>R (.T #[Z.agg,.I G]) r)):Cl 328 #[p.agg] h R:=aD [(17,λ_=> .ju (mL [1,2] (fE 3 4 (fE 12 8 (mL [0,3,7] (fE 3 20 .done))))))] V
def yw (hv:aT h (.C x.arr 368) λb y'=>aH.NW y' λB O=>aa.ck O (AA b 0) λa0=>Cl 324 #[a0.agg,.I 2] O λb2 i=> ∃T t a1 q,b2=.T #[.L T t a1,.I q]/\ite (q !=0) (aH.cR i (AA B 0) aH.S.z λV=>aH.ck V (AA B 0) λr0=>R (.T #[r0.agg,.I q]) V) (ite (((t:Nat):Int) !=8) (aH.cR i (AA B 0) aH.S.z λX=>aH.ck X (AA B 0) λV'=>R (.T #[V'.agg,.I 3]) X) (Bd 3 t/\aJ T λt'=>aa.ck i (t'.add (toNat 3*4)) λa2=>Cl 325 #[a2.agg] i λb3 S'=>aw.EX λa'=> ∃b',b3=.T #[a'.agg,.I b']/\aw.NW S' λk T'=>aw.cR T' (AA k 0) a' λZ=>Bd 5 t/\aJ T λu'=>aa.ck Z (u'.add (toNat 5*4)) λa3=>Cl 325 #[a3.agg] Z λb6 U'=>aw.EX λc'=> ∃d',b6=.T #[c'.agg,.I d']/\aw.NW U' λm z'=>aw.cR z' (AA m 0) c' λe=>ay (λ(id:bH) (x':Int) H=>Bd 1 t/\aJ T λA=>fM H ((A.add (toNat 1*4)).add 1) λa4=>Bd 2 t/\aJ T λs=>fM H ((s.add (toNat 2*4)).add 1) λa5=>aw.ck H (AA k 0) λf=>aw.ck H (AA m 0) λg=>aJ id λv'=>aB.ck H v' λd=>Bd 7 t/\aJ T λu=>fM H ((u.add (toNat 7*4)).add 1) λa6=>aH.NW H λn I=>Kp H I [(some ((u.add (toNat 7*4)).add 1)),id,(Sa m 0),(Sa k 0),(some ((s.add (toNat 2*4)).add 1)),(some ((A.add (toNat 1*4)).add 1))]/\aH.cR I (AA n 0) ⟨a4,(wrap .i64 a5),f.f0,f.f1,f.f2,f.f3,f.f4,g.f0,g.f1,g.f2,g.f3,g.f4,d.f0,d.f1,d.f2,d.f3,d.f4,d.f5,d.f6,a6⟩ λK=>aH.ck K (AA n 0) λa7=>Cl 328 #[a7.agg] K λb7 A'=>aa.EX λq'=> ∃r',b7=.T #[q'.agg,.I r']/\aa.NW A' λC B'=>aa.cR B' (AA C 0) q' λc=>ay (λ(b0:Bool) o=>ite b0 (aH.cR o (AA B 0) aH.S.z λM=>aH.ck M (AA B 0) λX'=>R (.T #[X'.agg,.I 3]) M) (aH.ck o (AA n 0) λb1=>aH.cR o (AA B 0) b1 λP=>aH.ck P (AA B 0) λZ'=>R (.T #[Z'.agg,.I 0]) P)) (λj=>ite (b' !=0) (j true c) (ite (d' !=0) (j true c) (ite (x' !=0) (j true c) (ite (r' !=0) (j true c) (aa.ck c (AA C 0) λa8=>aa.ck c (AA b 0) λa9=>Cl 329 #[a8.agg,a9.agg] c λb8 C'=> ∃s',b8=.B s'/\j (!s') C')))))) (λJ=>Bd 4 t/\aJ T λw=>aa.ck e (w.add (toNat 4*4)) λe'=>Bd 6 t/\aJ T λy=>aa.ck e (y.add (toNat 6*4)) λf'=>(aT e (.C (e'.l++f'.l).toArray 368) λD Q=>(Cl 327 #[.L (Sa D 0) 2 2] Q λb9 S=>aa.EX λr=>b9=r.agg/\(Cl 326 #[r.agg] S λc0 D'=>aB.EX λi'=> ∃m',c0=.T #[i'.agg,.I m']/\aB.NW D' λE E'=>aB.cR E' (AA E 0) i' λF'=>J (Sa E 0) m' F')/\(aB.NW S λF G'=>Cl 326 #[r.agg] G' λc1 H'=>aB.EX λj'=> ∃n',c1=.T #[j'.agg,.I n']/\aB.cR H' (AA F 0) j' λI'=>J (Sa F 0) n' I')/\True)/\(aB.NW Q λG J'=>Cl 327 #[.L (Sa D 0) 2 2] J' λc2 K'=>aa.EX λg'=>c2=g'.agg/\Cl 326 #[g'.agg] K' λc3 L'=>aB.EX λk'=> ∃o',c3=.T #[k'.agg,.I o']/\aB.cR L' (AA G 0) k' λM'=>J (Sa G 0) o' M')/\True)/\(aB.NW e λz U=>Kp e U [(some (y.add (toNat 6*4))),(some (w.add (toNat 4*4)))]/\aT U (.C (e'.l++f'.l).toArray 368) λw' O'=>Cl 327 #[.L (Sa w' 0) 2 2] O' λb4 P'=>aa.EX λh'=>b4=h'.agg/\Cl 326 #[h'.agg] P' λb5 Q'=>aB.EX λl'=> ∃p',b5=.T #[l'.agg,.I p']/\aB.cR Q' (AA z 0) l' λR'=>J (Sa z 0) p' R')/\True)))):Cl 254 #[x.agg] h R:=aD [(24,.join [(9,sP),(10,sI)]),(24,λ_=> .ju (fE 6 0 (.alts (.fork 6 (.alts (.fork 7 (.alts (.fork 8 (fE 6 9 .done) (.fork 12 (fE 4 8 (mL [13,14] .done)) .iH))) (.fork 12 (fE 5 7 (mL [13,14] .done)) .iH))) (.fork 12 (fE 6 6 (mL [13,14] .done)) .iH))))),(26,λ_=>pK 19),(31,.join [(96,sB)])] hv
def BR{c:bH}{B b:Nat} (d:Cl 480 #[.int .u32 65535,.L c B b,.int .u32 33800] h λV H=> ∃t,V=.int .u32 t/\R (.int .u16 (wrap .u16 ((BitVec.ofInt (IntKind.bits .u16) (IntKind.max .u16) ^^^ BitVec.ofInt (IntKind.bits .u16) (wrap .u16 t)).toNat:Int))) H):Cl 459 #[.L c B b] h R:=aD [] d
def Ac{x:aB.S} (e:aT h (.C x.arr 272) λb c=>aw.ck c (AA b 0) λf=>Cl 84 #[f.agg] c λV H=> ∃T,V=.B T/\ite T (∃d,Cc H b 5 (.U d)/\ite (decide (d<=1099511627776)) (∃t,Cc H b 6 (.U t)/\R (.B (decide (t<=1099511627776))) H) (R (.B false) H)) (R (.B false) H)):Cl 413 #[x.agg] h R:=aD [] e
def Ad{x:aB.S}(E:aT h (.C x.arr 272) λb y=>aa.NW y λc k=>aB.ck k (AA b 0) λO=>Cl 413 #[O.agg] k λV e=> ∃s,V=.B s/\ite (!s) (aa.cR e (AA c 0) aa.S.z λm=>aa.ck m (AA c 0) λF=>R (.T #[F.agg,.I 3]) m) (aw.ck e (AA b 0) λI=>Cl 396 #[I.agg] e λP C=>aa.EX λt=> ∃T,P=.T #[t.agg,.I T]/\aa.NW C λB D=>aa.cR D (AA B 0) t λH=>aa.ck H (AA B 0) λJ=>Hu H b 5 λK=>Hu H b 6 λM=>Cl 390 #[.U K] H λQ f=>aa.EX λn=>Q=n.agg/\Kp H f [(Sa b 6),(Sa B 0)]/\Cl 390 #[.U M] f λS g=>aa.EX λo=>S=o.agg/\Kp f g [(Sa B 0)]/\aT g (.C (n.l++o.l).toArray 368) λu d=>Kp g d [(Sa B 0)]/\Cl 327 #[.L (Sa u 0) 2 2] d λU i=>aa.EX λq=>U=q.agg/\Kp d i [(Sa B 0)]/\aT i (.C (J.l++q.l).toArray 368) λw z=>Cl 327 #[.L (Sa w 0) 2 2] z λX A=>aa.EX λr=>X=r.agg/\aa.cR A (AA c 0) r λj=>aa.ck j (AA c 0) λG=>R (.T #[G.agg,.I T]) j)):Cl 393 #[x.agg] h R:=aD [(13,λ_=> .ju (fE 3 0 (mL [4,5,11,3] (fE 5 6 (mL [12,13] .done)))))] E
def BT (Z:aT h (.C x.arr 368) λb P=>aB.NW P λB H=>ay (λ(k':Bool) e=>ite k' (aB.cR e (AA B 0) aB.S.z λs=>aB.ck s (AA B 0) λr0=>R (.T #[r0.agg,.I 3]) s) (Hl e b 3 λm' l' I'=>Bd 0 l'/\aJ m' λK=>aa.ck e (K.add (toNat 0*4)) λn'=>Cl 325 #[n'.agg] e λD' V=>aw.EX λD=> ∃E,D'=.T #[D.agg,.I E]/\aw.NW V λf X=>aw.cR X (AA f 0) D λc=>aw.ck c (AA f 0) λt=>Hl c b 3 λp' o' J'=>Bd 1 o'/\aJ p' λA=>oM c ((A.add (toNat 1*4)).add 3) λr' q' K'=>Bd 0 q'/\aJ r' λk=>fM c ((k.add (toNat 0*4)).add 1) λs'=>Hl c b 3 λu' t' L'=>Bd 1 t'/\aJ u' λm=>oM c ((m.add (toNat 1*4)).add 3) λw' v' M'=>Bd 1 v'/\aJ w' λn=>fM c ((n.add (toNat 1*4)).add 1) λx'=>aB.NW c λg u=>Kp c u [(some ((n.add (toNat 1*4)).add 1)),(some ((m.add (toNat 1*4)).add 3)),(Sa b 3),(some ((k.add (toNat 0*4)).add 1)),(some ((A.add (toNat 1*4)).add 3)),(Sa b 3),(Sa f 0)]/\aB.cR u (AA g 0) ⟨t.f0,t.f1,t.f2,t.f3,t.f4,s',x'⟩ λw=>aB.ck w (AA g 0) λy'=>Cl 393 #[y'.agg] w λE' Q=>aa.EX λF=> ∃G,E'=.T #[F.agg,.I G]/\aa.NW Q λo S=>aa.cR S (AA o 0) F λd=>ay (λ(B':Bool) i=>ite B' (aB.cR i (AA B 0) aB.S.z λq=>aB.ck q (AA B 0) λa'=>R (.T #[a'.agg,.I 3]) q) (aB.ck i (AA g 0) λC'=>aB.cR i (AA B 0) C' λr=>aB.ck r (AA B 0) λb'=>R (.T #[b'.agg,.I 0]) r)) (λj=>ite (E !=0) (j true d) (ite (G !=0) (j true d) (aa.ck d (AA o 0) λz'=>aa.ck d (AA b 0) λA'=>Cl 329 #[z'.agg,A'.agg] d λF' U=> ∃I,F'=.B I/\j (!I) U))))) (λJ=> ∃T,Cc H b 0 (.I T)/\ite (T !=4) (J true H) (∃d' y c',Cc H b 3 (.L d' y c')/\ite (((y:Nat):Int) !=2) (J true H) (Hl H b 3 λf' e' G'=>Bd 1 e'/\aJ f' λM=> ∃z,aQ H (M.add (toNat 1*4))=some (.I z)/\ite (z !=4) (J true H) (Hl H b 3 λh' g' H'=>Bd 1 g'/\aJ h' λO=> ∃j' C i',aQ H ((O.add (toNat 1*4)).add 3)=some (.L j' C i')/\J (((C:Nat):Int) !=2) H))))):Cl 326 #[x.agg] h R:=aD [(4,.join [(34,sB)]),(13,λ_=>pK 20),(18,.join [(78,sB)])] Z
def Ei{x:aw.S} (hv:aT h (.C x.arr 64) λb J=>aa.NW J λB i=>aw.ck i (AA b 0) λt5=>Cl 84 #[t5.agg] i λk' H=> ∃D,k'=.B D/\ite (!D) (aa.cR H (AA B 0) aa.S.z λk=>aa.ck k (AA B 0) λr0=>R (.T #[r0.agg,.I 3]) k) (aw.ck H (AA b 0) λg'=> ∃(e:Bool),Lj 64 (g'.agg) (aw.S.z.agg) e/\ite e (Cl 390 #[.U 1] H λl' Z=>aa.EX λt=>l'=t.agg/\Cl 390 #[.U 0] Z λp' a'=>aa.EX λT=>p'=T.agg/\aT a' (.C (t.l++T.l).toArray 368) λE b'=>Cl 327 #[.L (Sa E 0) 2 2] b' λq' c'=>aa.EX λn=>q'=n.agg/\aa.cR c' (AA B 0) n λm=>aa.ck m (AA B 0) λd'=>R (.T #[d'.agg,.I 0]) m) (∃o,Cc H b 0 (.B o)/\ite o (Hu H b 1 λh'=>Hu H b 2 λi'=>Cl 390 #[.U 2] H λr' c=>aa.EX λq=>r'=q.agg/\Kp H c [(Sa b 2),(Sa b 1)]/\Cl 390 #[.U h'] c λs' d=>aa.EX λr=>s'=r.agg/\Kp c d [(Sa b 2)]/\Cl 390 #[.U i'] d λt' K=>aa.EX λs=>t'=s.agg/\aT K (.C (r.l++s.l).toArray 368) λF M=>Cl 327 #[.L (Sa F 0) 2 2] M λu' O=>aa.EX λu=>u'=u.agg/\aT O (.C (q.l++u.l).toArray 368) λG P=>Cl 327 #[.L (Sa G 0) 2 2] P λv' Q=>aa.EX λw=>v'=w.agg/\aa.cR Q (AA B 0) w λf=>aa.ck f (AA B 0) λe'=>R (.T #[e'.agg,.I 0]) f) (aw.ck H (AA b 0) λj'=>Cl 390 #[.U 1] H λw' g=>aa.EX λy=>w'=y.agg/\Kp H g [(Sa b 0)]/\Cl 334 #[j'.agg] g λm' S=> ∃z,m'=.S z/\Cl 461 #[.S z] S λn' U=>aa.EX λA=>n'=A.agg/\aT U (.C (y.l++A.l).toArray 368) λI V=>Cl 327 #[.L (Sa I 0) 2 2] V λo' X=>aa.EX λC=>o'=C.agg/\aa.cR X (AA B 0) C λj=>aa.ck j (AA B 0) λf'=>R (.T #[f'.agg,.I 0]) j)))):Cl 396 #[x.agg] h R:=aD [(20,λ_=> .ju (mL [1,2,4,5,0,3] (fE 7 6 .done))),(24,λ_=> .ju (mL [1,0] (fE 6 2 .done)))] hv
def xh{s:bC} (w:aw.NW h λb o=>Cl 411 #[.S s,.S (⟨#[47,47]⟩:bC)] o λV q=> ∃i j,V=.T #[.S i,.B j]/\Cl 460 #[.S i,.S (⟨#[47]⟩:bC)] q λE r=> ∃T k m,E=.T #[.S T,.S k,.B m]/\aw.NW r λB u=>aw.cR u (AA B 0) ⟨false,0,0,T,k⟩ λH=>aw.ck H (AA B 0) λt=>ite j (ite m (ite (!(T.toList==(⟨#[]⟩:bC).toList)) (aw.ck H (AA B 0) λD=>Cl 84 #[D.agg] H λF d=> ∃n,F=.B n/\Kp H d [(Sa B 0)]/\aw.cR d (AA b 0) t λe=>aw.ck e (AA b 0) λy=>R (.T #[y.agg,.B n]) e) (aw.cR H (AA b 0) t λf=>aw.ck f (AA b 0) λz=>R (.T #[z.agg,.B false]) f)) (aw.cR H (AA b 0) t λg=>aw.ck g (AA b 0) λA=>R (.T #[A.agg,.B false]) g)) (aw.cR H (AA b 0) t λc=>aw.ck c (AA b 0) λC=>R (.T #[C.agg,.B false]) c)):Cl 391 #[.S s] h R:=aD [(9,λ_=>pK 15)] w
def Ae{n:Int} (D:aT h (.C x.arr 368) λb c=>ay (λ(G:Bool) f=>ite G (R (.T #[.Z,.B false]) f) (Hl f b 3 λK s a'=> ∃(I:bH->Nat->Nat->iT)(M:bH->Nat->Nat->iW),I none 0 0 0 f/\∀e O o t H,I e O o t H->ite (decide (t<(s:Int))) (Bd t s/\aJ K λA=>aa.ck H (A.add (toNat t*4)) λP=>aa.NW H λB z=>aa.cR z (AA B 0) P λd=>aa.ck d (AA B 0) λQ=>Hu d B 1 λS=>Cl 390 #[.U S] d λV k=>aa.EX λu=>V=u.agg/\Kp d k [(Sa B 0)]/\Cl 329 #[Q.agg,u.agg] k λX g=> ∃w,X=.B w/\ite (!w) (R (.T #[.Z,.B false]) g) (Hu g B 1 λU=>aT g (.C #[.U U] 62) λy C=>ij (Builtin.append_ #[68,68] 68 #[.L e O o,.L (Sa y 0) 1 1]) C λZ m=> ∃j i T,Z=.L j i T/\(I j i T (wrap .i64 (t+1)) m/\M j i T (wrap .i64 (t+1)) m<M e O o t H))) (R (.T #[.L e O o,.B true]) H))) (λJ=> ∃q,Cc c b 0 (.I q)/\ite (q !=4) (J true c) (∃F r E,Cc c b 3 (.L F r E)/\J (((r:Nat):Int) !=n) c))):Cl 392 #[x.agg,.I n] h R:=aD [(4,.join [(18,sB)]),(16,.loop [(6,sS),(22,sI)]),(29,λ_=>pK 6)] D
def FR (hv:aT h (.C x.arr 368) λb I'=>aw.NW I' λB U=>ay (λ(a6:Bool) H=>ite a6 (aw.cR H (AA B 0) aw.S.z λd'=>aw.ck d' (AA B 0) λr0=>R (.T #[r0.agg,.I 3]) d') (ay (λ(s:bH) (r:bH) U'=>aw.NW U' λf u=>ay (λ(ok:Bool) w=>ite (!ok) (aw.cR w (AA B 0) aw.S.z λe'=>aw.ck e' (AA B 0) λa1=>R (.T #[a1.agg,.I 3]) e') (aw.ck w (AA f 0) λc6=>aw.cR w (AA B 0) c6 λf'=>aw.ck f' (AA B 0) λa2=>R (.T #[a2.agg,.I 0]) f')) (λx'=>ay (λ(b1:Bool) g=>ay (λ(V':Bool) J'=>x' V' J') (λy'=>ite b1 (aw.cR g (AA B 0) aw.S.z λQ=>aw.ck Q (AA B 0) λa3=>R (.T #[a3.agg,.I 0]) Q) (ay (λ(b4:Bool) c=>ay (λ(X':Bool) K'=>y' X' K') (λF=>ite b4 (aJ r λz'=>oM c (z'.add 2) λb8 b7 b6=> ∃(s':bC),xL Tryz.prog 69 9 (.L b8 b7 b6) c s'/\Cl 391 #[.S s'] c λc7 L'=>aw.EX λt'=> ∃u',c7=.T #[t'.agg,.B u']/\aw.cR L' (AA f 0) t' λM'=>F u' M') (aJ s λA'=>aa.ck c A' λb9=>Cl 390 #[.U 2] c λc8 S=>aa.EX λv'=>c8=v'.agg/\Kp c S [s]/\Cl 329 #[b9.agg,v'.agg] S λd1 k=>Vb d1 λc0=>ay (λ(Z':Bool) O'=>F Z' O') (λG=>ite c0 (aJ r λB'=>aa.ck k B' λc1=>Cl 392 #[c1.agg,.I 2] k λd2 i=> ∃y T c2 z,d2=.T #[.L y T c2,.B z]/\ay (λ(a0:Bool) P'=>G a0 P') (λI=>ite z (Bd 0 T/\aJ y λC'=>fM i (C'.add (toNat 0*1)) λc3=>Bd 1 T/\aJ y λD'=>fM i (D'.add (toNat 1*1)) λc4=>aw.cR i (AA f 0) ⟨true,c3,c4,(⟨#[]⟩:bC),(⟨#[]⟩:bC)⟩ λV=>aw.ck V (AA f 0) λc5=>Cl 84 #[c5.agg] V λd3 Q'=> ∃w',d3=.B w'/\I w' Q') (I z i))) (G false k))))) (λE=>aJ s λE'=>aa.ck g E' λb5=>Cl 390 #[.U 1] g λd4 X=>aa.EX λp'=>d4=p'.agg/\Kp g X [s]/\Cl 329 #[b5.agg,p'.agg] X λd5 m=> ∃q',d5=.B q'/\ite q' (aJ r λF'=> ∃r',aQ m F'=some (.I r')/\E (r'==3) m) (E false m))))) (λD=>aJ s λG'=>aa.ck u G' λb2=>Cl 390 #[.U 1] u λd6 Z=>aa.EX λl'=>d6=l'.agg/\Kp u Z [s]/\Cl 329 #[b2.agg,l'.agg] Z λd7 j=> ∃m',d7=.B m'/\ite m' (aJ r λH'=>aa.ck j H' λb3=>Cl 390 #[.U 0] j λd8 a'=>aa.EX λn'=>d8=n'.agg/\Kp j a' [r]/\Cl 329 #[b3.agg,n'.agg] a' λc9 R'=> ∃o',c9=.B o'/\D o' R') (D false j)))) (λC=>Hl H b 3 λa8 a7 d9=>Bd 0 a7/\aJ a8 λd=>aa.ck H (d.add (toNat 0*4)) λj'=>Hl H b 3 λb0 a9 e0=>Bd 1 a9/\aJ b0 λA=>aa.ck H (A.add (toNat 1*4)) λk'=>(aa.NW H λK n=>Kp H n [(some (A.add (toNat 1*4))),(Sa b 3),(some (d.add (toNat 0*4))),(Sa b 3)]/\aa.NW n λM o=>Kp n o [(some (A.add (toNat 1*4))),(Sa b 3),(some (d.add (toNat 0*4))),(Sa b 3)]/\aa.cR o (AA K 0) j' λb'=>Kp o b' [(some (A.add (toNat 1*4))),(Sa b 3)]/\aa.cR b' (AA M 0) k' λS'=>C (Sa K 0) (Sa M 0) S')/\(aa.NW H λO q=>Kp H q [(some (A.add (toNat 1*4))),(Sa b 3),(some (d.add (toNat 0*4))),(Sa b 3)]/\aa.NW q λP t=>Kp q t [(some (A.add (toNat 1*4))),(Sa b 3),(some (d.add (toNat 0*4))),(Sa b 3)]/\aa.cR t (AA P 0) j' λc'=>Kp t c' [(some (A.add (toNat 1*4))),(Sa b 3)]/\aa.cR c' (AA O 0) k' λT'=>C (Sa P 0) (Sa O 0) T')/\True))) (λJ=>aa.ck U (AA b 0) λt9=>Cl 385 #[t9.agg] U λd0 e=> ∃g',d0=.B g'/\ite (!g') (J true e) (∃h',Cc e b 0 (.I h')/\ite (h' !=4) (J true e) (∃a5 i' a4,Cc e b 3 (.L a5 i' a4)/\J (((i':Nat):Int) !=2) e)))):Cl 325 #[x.agg] h R:=aD [(4,.join [(22,sB)]),(11,.join [(4,sP),(5,sP)]),(11,λ_=> .ju (fE 8 0 (.alts (.fork 8 (fE 3 9 .done) (.fork 9 (mL [8,10,11] .done) .iH))))),(17,.join [(7,sB)]),(19,.join [(32,sB)]),(19,λ_=>pK 9),(20,.join [(7,sB)]),(25,.join [(42,sB)]),(25,λ_=>pK 9),(26,.join [(7,sB)]),(29,λ_=>pK 4),(30,.join [(7,sB)]),(37,.join [(7,sB)]),(39,λ_=>pK 8)] hv

end
section
namespace Bn
open Cb
open iZ (Ev dD jQ)
variable {h:Heap} {R:dH}
variable {n s q c l:Nat} {p:bH} {B:cO}
def Lx(H:n<4294967296):IntKind.wrap .u32 (n:Int)=(n:Int):=by
 have e:IntKind.wrap .u32 (n)=(n)%4294967296:=by rfl
 omega
def U6(H:n<4294967296):(BitVec.ofInt (IntKind.bits .u32) (n:Int)).toNat=n:=by exact fo H
def DF{a b:Nat}(H:a<4294967296)(d:b<4294967296):IntKind.wrap .u32 ((BitVec.ofInt (IntKind.bits .u32) (a:Int) ^^^ BitVec.ofInt (IntKind.bits .u32) (b:Int)).toNat:Int)=((a ^^^ b:Nat):Int):=by rw[BitVec.toNat_xor,U6 H,U6 d];exact Lx (dS (n:=32) H d)
def Qj(H:s<4294967296):IntKind.wrap .u32 ((BitVec.ofInt (IntKind.bits .u32) (s:Int) &&& BitVec.ofInt (IntKind.bits .u32) 1).toNat:Int)=((s%2:Nat):Int):=by rw[BitVec.toNat_and,U6 H,show(BitVec.ofInt (IntKind.bits .u32) 1).toNat=1 from rfl,Nat.and_one_is_mod];exact Lx ae
def Ly(s:Nat):Int.fdiv (s:Int) (2 ^ min (Int.toNat 1) (IntKind.bits .u32))=((s/2:Nat):Int):=DE s 1
def zN(a:s<4294967296)(H:q<4294967296):jK s q<4294967296:=by unfold jK;split;exact dS (show s/2<2 ^ 32 by omega) H;omega
theorem DG(b:s<4294967296)(a:q<4294967296)(H:R (.int .u32 (jK s q:Int)) h):Cl 567 #[.int .u32 (s:Int),.int .u32 (q:Int)] h R:=by refine rJ ?_;unfold jK at H;rw[Qj b,Ly,DF ae a];by_cases c:s%2=1;grind;grind
def nf(q:Nat): ∀(k s:Nat),jU q (k+1) s=jK (jU q k s) q
 |0,_=>rfl
 |k+1,s=>by exact nf q k _
def nh(a:q<4294967296): ∀(k s:Nat),s<4294967296->jU q k s<4294967296
 |0,_,H=>H
 |k+1,s,H=>nh a k _ (zN H a)
theorem zO(a:s<4294967296)(d:c<256)(H:q<4294967296)(b:R (.int .u32 (JH s c q:Int)) h):Cl 544 #[.int .u32 (s:Int),.int .u8 (c:Int),.int .u32 (q:Int)] h R:=by
 refine pF ⟨λz t g=>g=h/\∃i:Nat,t=(i)/\i<=8/\z=(jU q i (s ^^^ c)),λ_ t _=>8 - t.toNat,⟨rfl,0,rfl,ae,?_⟩,?_⟩;rw[Lx (n:=c) ae,DF a ae];rfl;rintro _ _ _ ⟨rfl,i,rfl,e,rfl⟩;by_cases C:i<8;rw[iE];refine DG (nh H i (s ^^^ c) (dS (n:=32) (y:=c) a ae)) H ⟨_,rfl,?_⟩;rw[eY,<-nf];exact⟨⟨rfl,i+1,ae,ae,rfl⟩,by grind⟩;obtain rfl:i=8:=ae
 exact b
def oB(a:q<4294967296): ∀(b:cO)(s:Nat),s<4294967296->runN s b q<4294967296
 | [],_,H=>H
 |c::b,s,H=>oB a b _ (nh a 8 _ (dS (n:=32) H (cv c.toNat_lt)))
theorem Ie(b:s<4294967296)(H:q<4294967296)(r:Row h p (bc B))(j:l=B.length)(k:B.length<=100000000)(f:R (.int .u32 (runN s B q:Int)) h):Cl 480 #[.int .u32 (s:Int),.L p l c,.int .u32 (q:Int)] h R:=by refine wm ⟨λz t g=>g=h/\∃i:Nat,t=(i)/\i<=B.length/\z=(runN s (B.take i) q),λ_ t _=>B.length - t.toNat,⟨rfl,0,rfl,ae,by rfl⟩,?_⟩;rintro _ _ _ ⟨rfl,i,rfl,e,rfl⟩;by_cases C:i<B.length;rw[iE];obtain⟨a,rfl,d⟩:=Cb.byte_at r C;refine⟨ae,av.2 ⟨_,by grind,zO (oB H _ _ b) (B[i]).toNat_lt H ⟨_,rfl,?_⟩⟩⟩;rw[eY];refine⟨⟨rfl,i+1,ae,ae,?_⟩,by grind⟩;rw[bt,ai C];unfold runN;rw[List.foldl_append];rfl;grind
def QB(r:Row h p (bc B))(d:l=B.length)(f:B.length<=100000000)(H:R (.int .u16 (Ec B:Int)) h):Cl 459 #[.L p l c] h R:=by
 refine BR (Ie bA bA r d f ⟨_,rfl,?_⟩);unfold Ec at H;generalize runN 65535 B 33800=z at H⊢;have e:IntKind.wrap .u16 (z)=((z%65536:Nat)):=by
  have e:IntKind.wrap .u16 (z)=(z)%65536:=by simp[IntKind.wrap,IntKind.bits,IntKind.signed]
  omega
 rw[e];have a:z%65536<65536:=ae
 generalize z%65536=y at H a⊢;have E:(BitVec.ofInt (IntKind.bits .u16) (IntKind.max .u16) ^^^ BitVec.ofInt (IntKind.bits .u16) (y)).toNat=65535 ^^^ y:=by rw[BitVec.toNat_xor,fG,gg,show(BitVec.ofInt (IntKind.bits .u16) (IntKind.max .u16)).toNat=65535 from rfl,show(2) ^ IntKind.bits .u16=65536 from rfl,fo a]
 rw[E];have b:IntKind.wrap .u16 ((65535 ^^^ y:Nat))=((65535 ^^^ y:Nat)):=by
  have g:=dS (n:=16) (x:=65535) bA ae;have e:IntKind.wrap .u16 ((65535 ^^^ y:Nat))=((65535 ^^^ y:Nat))%65536:=by rfl
  omega
 rw[b];exact H
def Ig(r:Row h p (bc B))(a:l=B.length)(b:B.length<=100000000)(H:R (.int .u32 (mq B:Int)) h):Cl 423 #[.L p l c] h R:=by refine tY (Ie bA bA r a b ⟨_,rfl,?_⟩);have:=DF (a:=4294967295) (b:=runN 4294967295 B 2197175160) bA (oB bA _ _ bA);rw[show(IntKind.max .u32)=((4294967295:Nat))from rfl,this];exact H

end Bn
end
end Go.Proofs.YticlajoleibdnaaGreatDoor
namespace Go.Den
def Te{P:Program}{S d e:TypeId}{h:Heap}{s:bC}{K:dH}(t:P.underlying S=some .string)(l:P.underlying d=some (.slice e))(m:P.underlying e=some (.int .u8))(o: ∀p c H,Row H p (bc s.data.toList)->s.size<=c->Fr No h H->(∀y,aN p y->h.size<=y)->K (.L p s.size c) H):bu P (convert S d (.S s)) h K:=by
 unfold convert;refine aZ (s:=underlying S) (bh t) ?_;refine aZ (s:=underlying d) (bh l) ?_;show bu P (underlying e>>=_) h K;refine aZ (s:=underlying e) (bh m) ?_;show bu P (Conv.stringToBytes e s) h K;unfold Conv.stringToBytes;rw[cY];unfold choose;simp only[bu,Question.forced,aV,bQ,Question.cut];intro T;generalize x:s.size+T%(2 ^ 63 - s.size)=cap;have q:s.size<=cap:=ae
 generalize k:(s.data.map λb=>Value.int .u8 (b.toNat:Int))++Array.replicate (cap - s.size) (Value.int .u8 0)=C;have r: ∀j v,(bc s.data.toList)[j]? =some v->C[0+j]? =some v:=λj v f=>by have g:=(aS.1 f).1;rw[fO,Array.length_toList]at g;rw[<-k,aX,cH (dQ g),Array.getElem?_map,<-f];unfold bc;rw[aP,eu]
 show bu P (newRow e C>>=_) h K;rw[cY];show bu P (markStringish (AA h.size 0)>>=λ_=>pure (.L (Sa h.size 0) s.size cap)) (h.push (.C C e)) K;rw[cY];unfold markStringish shape;have u:qu (h.push (.C C e)) h.size=some (e,C.size):=by simp[qu]
 show bu P (match qu (h.push (.C C e)) h.size with|some (_,n)=>freeze { block:=h.size,off:=n } 1|_=>pure ()) (h.push (.C C e)) _;rw[u];show K (.L (Sa h.size 0) s.size cap) (oo (h.push (.C C e)) { block:=h.size,off:=C.size } 1);unfold oo;rw[fe];refine o _ _ _ (.inr ⟨_,rfl,dy (c:=C) (t:=e) (f:=if(0:Nat)==0 then(C.size,C.size+1)else(min 0 C.size,max 0 (C.size+1))) ?_ r⟩) q ⟨bO,λc w _=> ?_⟩ (λy ⟨A,E,i⟩=>by cases E;exact Nat.le_of_eq i);rw[cX,ah rfl,aU];rfl;rw[cX,af (by simp;omega),eV,fe]
end Go.Den
namespace Go.Proofs.YticlajoleibdnaaGreatDoor
open Go.Den
namespace gD
variable {h H a : Heap} {R : Value → Heap → Prop}
def Uo{s:bC}{K:dH}(b: ∀p c H,Row H p (bc s.data.toList)->s.size<=c->Fr No h H->(∀y,aN p y->h.size<=y)->K (.L p s.size c) H):bu Tryz.prog (convert 9 69 (.S s)) h K:=Te uS uU u8 b
end gD
end Go.Proofs.YticlajoleibdnaaGreatDoor
namespace Go.Proofs.YticlajoleibdnaaGreatDoor
open Go.Den
open IntKind (wrap)
open Int (toNat)
section
variable {h:Heap} {R:dH}
variable {x:Bool} {X a:Int} {b c:bC}
def FU (n:aT h (.C #[.B x,.U X,.U a,.S b,.S c] 64) λB f=>aw.LD f (AA B 0) λw y z A C=>Cl 84 #[.agg #[.B w,.U y,.U z,.S A,.S C]] f λv H=> ∃k,v=.B k/\ite (!k) (R (.T #[.S (⟨#[]⟩:bC),.I 3]) H) (aw.LD H (AA B 0) λD E F G I=> ∃(e:Bool),Lj 64 (.agg #[.B D,.U E,.U F,.S G,.S I]) (.agg #[.B false,.U 0,.U 0,.S (⟨#[]⟩:bC),.S (⟨#[]⟩:bC)]) e/\ite e (R (.T #[.S (⟨#[100,116,110,58,110,111,110,101]⟩:bC),.I 0]) H) (∃i,Cc H B 0 (.B i)/\ite i (Hu H B 1 λo=>Hu H B 2 λj=>Cl 94 #[.U o,.I 10] H λV g=> ∃t,V=.S t/\Cc g B 2 (.U j)/\(((⟨#[105,112,110,58]⟩:bC).size+t.size:Nat):Int)<=IntKind.max .i64/\((((⟨#[105,112,110,58]⟩:bC)++t).size+(⟨#[46]⟩:bC).size:Nat):Int)<=IntKind.max .i64/\Cl 94 #[.U j,.I 10] g λJ l=> ∃T,J=.S T/\(((((⟨#[105,112,110,58]⟩:bC)++t)++(⟨#[46]⟩:bC)).size+T.size:Nat):Int)<=IntKind.max .i64/\R (.T #[.S ((((⟨#[105,112,110,58]⟩:bC)++t)++(⟨#[46]⟩:bC))++T),.I 0]) l) (aw.LD H (AA B 0) λp q r s u=>Cl 334 #[.agg #[.B p,.U q,.U r,.S s,.S u]] H λK m=> ∃d,K=.S d/\(((⟨#[100,116,110,58]⟩:bC).size+d.size:Nat):Int)<=IntKind.max .i64/\R (.T #[.S ((⟨#[100,116,110,58]⟩:bC)++d),.I 0]) m)))):Cl 263 #[.agg #[.B x,.U X,.U a,.S b,.S c]] h R:=aD [(20,λ_=> .pn (mL [0,1,5,6,2,3,4,7,8,9,10] .done))] n
def FV (d:aT h (.C #[.B x,.U X,.U a,.S b,.S c] 64) λB H=>Hs H B 3 λt=>(((⟨#[47,47]⟩:bC).size+t.size:Nat):Int)<=IntKind.max .i64/\((((⟨#[47,47]⟩:bC)++t).size+(⟨#[47]⟩:bC).size:Nat):Int)<=IntKind.max .i64/\Hs H B 4 λT=>(((((⟨#[47,47]⟩:bC)++t)++(⟨#[47]⟩:bC)).size+T.size:Nat):Int)<=IntKind.max .i64/\R (.S ((((⟨#[47,47]⟩:bC)++t)++(⟨#[47]⟩:bC))++T)) H):Cl 334 #[.agg #[.B x,.U X,.U a,.S b,.S c]] h R:=aD [] d

end
section
namespace iZ
variable {h:Heap} {R:dH}
def lF(a b:cO):str a++str b=str (a++b):=by rfl
def ir(a:cO):(str a).size=a.length:=by unfold str;rfl
def Kd(s:bC):s=str s.data.toList:=(Jj s).symm
def lW(s:bC):s.data.toList.length=s.size:=by rfl
def Vn:IntKind.max .i64=9223372036854775807:=rfl
def MZ(x:Ev)(g:x.host.size<=1000)(i:x.kj.size<=1000)(c: jA h R (.S (str ([47,47]++x.host.data.toList++ [47]++x.kj.data.toList)))):Cl 334 #[jQ x] h R:=by refine FV (aw.box λb a d H f=>⟨_,aj H,?_⟩);have e:(⟨#[47,47]⟩)=str [47,47]:=rfl;have E:(⟨#[47]⟩)=str [47]:=rfl;have l:=lW x.kj;rw[e,E,Vn];refine⟨?_,?_,_,aj H,?_,?_⟩;rw[ir];simp;omega;rw[Kd x.host,lF,ir,ir];simp;omega;rw[Kd x.host,lF,lF,ir];simp;omega;exact(c a f)

end iZ
end
section
namespace Cb
variable {h a H:Heap} {R:dH} {D D':Nat→Prop}
abbrev CV.s(x:CV):aa.S:=⟨x.k,x.n,x.v.p,x.v.b.length,x.v.c,x.q,x.ll,x.cl⟩
abbrev nv(n:Nat):CV:=⟨0,n,⟨none,0, []⟩,none,0,0⟩
def wv.frame{Q:fZ}{t:Tr}{x:CV}(j:wv h D t x)(f:Fr Q h H)(e: ∀y,D y->¬Q y):wv H D t x:=by have⟨⟨A,b,c,d⟩,n,k,l,i,m⟩:=j;exact⟨⟨A,b,c,d.frame f e⟩,n,k,l.frame f (λy g=>e y (i y g)),i,dT.frame f (λy g=>e y g.1) m⟩
def wv.mono{t:Tr}{x:CV}(g:wv h D t x)(f: ∀y,D y->D' y):wv h D' t x:=by have⟨⟨A,b,c,d⟩,m,i,j,k,l⟩:=g;exact⟨⟨A,b,c,d.mono f⟩,m,i,j,λy e=>f y (k y e),dT.mono (λy e=>⟨f y e.1,e.2⟩) l⟩
abbrev KV(h:Heap)(t:Tr)(x:CV):Prop:=hM h (λ_=>True) t x
abbrev Ke(h:Heap)(t:List Tr)(x:List CV):Prop:=dT h (λ_=>True) t x
def hM.u{t:Tr}{x:CV}(b:hM h D t x):KV h t x:=b.mono λ_ _=>trivial
def dT.u{t:List Tr}{x:List CV}(b:dT h D t x):Ke h t x:=b.mono λ_ _=>trivial
def wv.u{t:Tr}{x:CV}(b:wv h D t x):KV h t x:=b.Xy.u
def dT.nil:dT h D [] []:=by unfold dT;trivial
def dT.cons{t:Tr}{y:CV}{T:List Tr}{c:List CV}(A:hM h D t y)(b:dT h D T c):dT h D (t::T) (y::c):=by exact⟨A,b⟩
def pP{n:Nat}:KV h (num n) (nv n):=WE.Xy
def two{t u:Tr}{x y:CV}(A:hM h D t x)(b:hM h D u y):dT h D [t,u] [x,y]:=.cons A (.cons b .nil)
def pQ{ys:List CV}{K:Nat->cM}{c:Array Value}(f:c=(ys.flatMap jr).toArray)(g: ∀b H,b=h.size->(∀D,D b->ny H D (Sa b 0) ys.length ys.length ys)->Fr No h H->K b H):aT h (.C c 368) K:=by refine bn (g _ _ rfl (λD d=>⟨rfl,by rw[f];exact gW,λ_ y ⟨A,e,E⟩=>by cases e;rw[<-E];exact d,bf _⟩) (Fr.push _ _))
def yx{ts:List Tr}{ys:List CV}{c:Array Value}{l:Nat}(T:Ke h ts ys)(k:dG ts<=100000000)(e:c=(ys.flatMap jr).toArray)(j:l=ys.length)(i: ∀H z,wv H (λy=>h.size<=y) (wW ts) z->Fr No h H->R z.agg H):
  aT h (.C c 368) λb g=>Cl 327 #[.L (Sa b 0) l l] g R:=by
 subst j;refine pQ e λb m E L f=>kI (L (λ_=>True) trivial) (T.on f) k λd z t F=>i d z (t.mono λy n=>cv f.1) (f.tt F)
theorem mF{s:bC}(n: ∀H (v:BV),v.b=s.data.toList->v.ok H (λy=>h.size<=y)->Fr No h H->R (CV.agg ⟨3,0,v,none,0,0⟩) H):Cl 461 #[.S s] h R:=by
 refine Dr (aa.box λb w t g m=>gD.Uo λp c x r i f o=>⟨_,_,_,rfl,aa.set (f.get g id) λd j k l=>aa.ld j ?_⟩);have F:=Fr.of_eq k (λc i=>l c i);have Z:=aE g;have e:=(iZ.lW s).symm;have O:BV.ok d (λy=>h.size<=y) ⟨p,c,s.data.toList⟩:=by refine⟨?_,λ_ y z=>by grind,by grind⟩;by_cases q:s.data.toList= [];rw[q];exact Row.nil;exact r.frame F (λA E u=>cv (o A.block ⟨A,E,rfl⟩))
 have:=n d ⟨p,c,s.data.toList⟩ rfl O ((m.tt f).fresh F (λy e=>ae));exact this
end Cb
namespace Bn
open Cb
open iZ (Ev dD jQ)
variable {V : List UInt8 → Bool} {h a H : Heap} {R : Value → Heap → Prop} {D : Nat → Prop}
abbrev _root_.Go.Proofs.YticlajoleibdnaaGreatDoor.iZ.Ev.s(x:Ev):aw.S:=⟨x.lS,x.node,x.iA,x.host,x.kj⟩
def fin{b:Nat}{y:aa.S}{z:CV}{t:Tr}{K:aa.S->cM}(e:aa.ff h b y)(T:wv h D t z)(c: ∀y,D y->y≠b)(i: ∀H,wv H D t z->Fr (λy=>y=b) h H->K z.s H):
  aa.cR h (AA b 0) z.s λg=>aa.ck g (AA b 0) λr=>K r g:=
 aa.fB (x:=z.s) e λg d f _=>aa.dZ d (i g (T.frame f c) f)
def Iu{b:Nat}{y:aa.S}{K:aa.S->cM}(c:aa.ff h b y)(e: ∀H,Fr (λy=>y=b) h H->K .z H):
  aa.cR h (AA b 0) .z λg=>aa.ck g (AA b 0) λr=>K r g:=
 aa.fB c λg d f _=>aa.dZ d (e g f)
def mO(x:Ev)(b:dD x=true):room (FP x)<=200:=by unfold FP;split;decide;rename_i z;split;simp[room,dG];rename_i c;unfold dD at b;rw[af z,af c]at b;simp only[bE,bN]at b;have:=iZ.lW x.host;have:=iZ.lW x.kj;simp only[room,dG,JV,ak,bw,bZ];omega
abbrev zv:CV:=⟨0,0,⟨none,0, []⟩,none,0,0⟩
theorem Af(x:Ev)(w1:0<=x.iA)(Z:dD x=true->∀H z,wv H (λy=>h.size<=y) (FP x) z->Fr No h H->R (.T #[z.agg,.I 0]) H)(k2:dD x=false->jA h R (.T #[zv.agg,.I 3])):Cl 396 #[jQ x] h R:=by
 refine Ei (x:=x.s) (aw.cE λa' h1 eb K q=>aa.cE λB h2 b' L n=>aw.dZ (n.get K id) (iZ.fA x λJ f=>⟨_,rfl,?_⟩));have d:=(n.tt f).get K id;have M:=f.get L id;have p:=q.tt (n.tt f);have z1:=q.1;have j':=aE L;have z3:=f.1;have done: ∀g z,dD x=true->wv g (λy=>J.size<=y) (FP x) z->Fr No J g->aa.cR g (AA B 0) z.s λc=>aa.ck c (AA B 0) λr0=>R (.T #[r0.agg,.I 0]) c:=λg z b tz I=>fin (I.get M id) tz (λy j e=>ae) λc t4 o=>Z b c z (t4.mono λy j=>ae) ((p.tt I).fresh o (λy e=>ae));cases b:dD x with
 |false=>exact Iu M λc o=>k2 b c (p.fresh o (λy e=>ae))
 |true=>
  have done:=λg z=>done g z b;rw[fe];refine aw.dZ d ⟨_,iZ.Dx (y:=.zero) (x:=x) rfl rfl,?_⟩;have E:room (FP x)<=200:=mO x b;unfold FP at done E;unfold dD at b;by_cases z:x=.zero
  .rw[ah (aq z)];simp only[ah z]at done;exact fD (n:=1) λh5 C=>aa.ex (nv 1).s ⟨rfl,fD (n:=0) λh6 G=>aa.ex (nv 0).s ⟨rfl,yx (two pP pP) (by simp[room,dG]) rfl rfl λX y T Q=>aa.ex y.s ⟨rfl,done X y (T.mono λy j=>iI C.1 G.1) (C.tt (G.tt Q))⟩⟩⟩
  rw[af (by grind)];rw[af z]at b;simp only[af z]at done E;refine⟨_,aj d,?_⟩;by_cases i:x.lS=true
  .rw[ah i]at b⊢;simp only[ah i]at done;have b:=bj b;have n1:x.node=(x.node.toNat:Int):=ae
   have n2:x.iA=(x.iA.toNat:Int):=ae
   refine⟨_,aj d,_,aj d,fD (n:=2) λc' F=>aa.ex (nv 2).s ⟨rfl,F.kp,?_⟩⟩;dsimp only;rw[n1];refine fD λd' l=>aa.ex (nv x.node.toNat).s ⟨rfl,l.kp,?_⟩;rw[n2];refine fD λe' r=>aa.ex (nv x.iA.toNat).s ⟨rfl,yx (two pP pP) (by simp[room,dG]) rfl rfl λf' y T s=>aa.ex y.s ⟨rfl,yx (ys:= [nv 2,y]) (two pP T.u) (by simp[room,dG]) rfl rfl λS u t O=>aa.ex u.s ⟨rfl,?_⟩⟩⟩;exact done S u (t.mono λy j=>by have:=F.1;have:=l.1;have:=r.1;have:=s.1;omega) (F.tt (l.tt (r.tt (s.tt O))))
  .rw[af i]at b⊢;simp only[af i]at done E;simp only[bE,bN]at b;refine aw.dZ d (fD (n:=1) λg' m=>aa.ex (nv 1).s ⟨rfl,m.kp,iZ.MZ x ae ae λh' w=>⟨_,rfl,mF λi' v k ov A=>aa.ex (CV.s ⟨3,0,v,none,0,0⟩) ⟨rfl,?_⟩⟩⟩);have k:v.b=JV x:=by rw[k];unfold str;simp[JV]
   refine yx (ts:= [num 1,.mk 3 0 (JV x) []]) (ys:= [nv 1,⟨3,0,v,none,0,0⟩]) (two pP (k▸GR ov).u) (by simp only[room,bZ]at E⊢;omega) rfl rfl λU u t P=>aa.ex u.s ⟨rfl,?_⟩;exact done U u (t.mono λy j=>Pv m.1 w.1 A.1) (m.tt (w.tt (A.tt P)))
end Bn
end
section
variable {h:Heap} {R:dH}
variable {d l L a s:Nat} {self:aw.S} {b:bH}
def gC.ex{K:gC.S->Prop}(x:gC.S)(H:K x):gC.EX K:=⟨_,_,_,H⟩
def BU(m:Cl 294 #[.P d 0] h λv f=>aO.EX λT=>aO.EX λc=> ∃o,v=.T #[T.agg,c.agg,.I o]/\aO.NW f λB g=>aO.NW g λe i=>aO.cR i (AA B 0) T λj=>aO.cR j (AA e 0) c λH=>aO.ck H (AA B 0) λn=>Cl 295 #[n.agg] H λV k=> ∃t,V=.I t/\R (.I t) k):Cl 215 #[.P d 0] h R:=aD [] m
def yy(m:aT h (.C self.arr 64) λB H=>aw.ck H (AA B 0) λn=>Cl 198 #[n.agg] H λv c=> ∃f t,v=.T #[.Q f,.I t]/\ite (t !=0) (R (.T #[.Q none,.I t]) c) (Cl 216 #[.P d 0] c λV e=> ∃g T,V=.T #[.Q g,.I T]/\ite (T !=0) (R (.T #[.Q none,.I T]) e) (Cl 215 #[.P d 0] e λp j=>Vi p λo=>aT j (.C #[.Q g,.Q f,.I o] 233) λi k=>R (.T #[.P i 0,.I 0]) k))):Cl 150 #[.P d 0,self.agg] h R:=aD [] m
def vO(H: ∃t,Cc h l 1 (.Q t)/\R (.B (!t.isNone)) h):Cl 153 #[.P l 0] h R:=aD [] H
def uj(H: ∃t,Cc h l 1 (.Q t)/\R (.Q t) h):Cl 86 #[.P l 0] h R:=aD [] H
def vP(e:Cl 153 #[.P l 0] h λv H=> ∃T,v=.B T/\ite (!T) (R (.I 0) H) (Hp H l 0 λf=>Cl 180 #[.Q f] H λV c=> ∃t,V=.I t/\R (.I t) c)):Cl 108 #[.P l 0] h R:=aD [] e
def xi(e:Cl 153 #[.P l 0] h λv H=> ∃T,v=.B T/\ite (!T) (R (.I 0) H) (Hp H l 0 λf=>Cl 232 #[.Q f] H λV c=> ∃t,V=.I t/\R (.I t) c)):Cl 158 #[.P l 0] h R:=aD [] e
def iS{e:bH}{S g:Nat} (f: ∃(I:iT)(m:iW),I 0 h/\∀t H,I t H->ite (decide (t<(S:Int))) (Bd t S/\aJ e λA=>oM H (A.add (toNat t*1)) λk j i=>Cl 289 #[.L k j i] H λv c=> ∃T,v=.B T/\ite T (R (.I t) c) ((I (wrap .i64 (t+1)) c/\m (wrap .i64 (t+1)) c<m t H))) (R (.I (-1)) H)):Cl 290 #[.L e S g,.func (.func 289) #[] #[]] h R:=aD [(6,.loop [(8,sI)])] f
def yz (D: ∃(I:bH->Nat->Nat->iT)(m:bH->Nat->Nat->iW),I none 0 0 0 h/\∀c O o t H,I c O o t H->ite (decide (t<(L:Int))) (Bd t L/\aJ b λA=>oM H (A.add (toNat t*1)) λp T n=>((0:Int)<=1/\1<=(T:Int))/\Cl 357 #[.L (bV p n (toNat 1) 1) (T - (toNat 1)) (n - (toNat 1))] H λv y=>ax.EX λq=> ∃r,v=.T #[q.agg,.I r]/\ax.NW y λB z=>ax.cR z (AA B 0) q λe=>ay (λ(E:Bool) f=>ite E (R (.T #[.Z,.B false]) f) (ax.ck f (AA B 0) λF=>aT f (.C F.arr 176) λx C=>ij (Builtin.append_ #[414,414] 414 #[.L c O o,.L (Sa x 0) 1 1]) C λV k=> ∃j i g,V=.L j i g/\(I j i g (wrap .i64 (t+1)) k/\m j i g (wrap .i64 (t+1)) k<m c O o t H))) (λJ=>ite (r !=0) (J true e) (Bd 0 T/\aJ p λw=> ∃u,aQ e (w.add (toNat 0*1))=some (.int .u8 u)/\J (u !=69) e))) (R (.T #[.L c O o,.B true]) H)):Cl 292 #[.L b L a] h R:=aD [(8,.loop [(4,sS),(11,sI)]),(23,.join [(28,sB)])] D
def BW (P:Cl 290 #[.L b L a,.func (.func 289) #[] #[]] h λv i=>Vi v λr=>ay (λ(n:Int) k=>ay (λ(S:bH) K=>((0:Int)<=n/\n<=(L:Int))/\Cl 292 #[.L (bV b a (toNat n) 1) (L - (toNat n)) (a - (toNat n))] K λV m=> ∃B A z C,V=.T #[.L B A z,.B C]/\ite (!C) (R (.T #[.Q none,.I 3]) m) (Cl 293 #[.Q S,.L B A z] m λX o=> ∃U D,X=.T #[.I U,.I D]/\ite (D !=0) (R (.T #[.Q none,.I 3]) o) (R (.T #[.Q S,.I 0]) o))) (λj=>ite (decide (n>0)) (((0:Int)<=n/\n<=(a:Int))/\∃(I:bH->Nat->Nat->iT)(M:bH->Nat->Nat->iW),I none 0 0 0 k/\∀c F f t H,I c F f t H->ite (decide (t<(((toNat n) - 0:Nat):Int))) (((0:Int)<=t/\t<(((toNat n) - 0:Nat):Int))/\aJ (bV b a 0 1) λE=>oM H (E.add (toNat t*1)) λQ w u=>((0:Int)<=1/\1<=(w:Int))/\aT H (.C #[.L (bV Q u (toNat 1) 1) (w - (toNat 1)) (u - (toNat 1))] 69) λG O=>ij (Builtin.append_ #[164,164] 164 #[.L c F f,.L (Sa G 0) 1 1]) O λZ p=> ∃g e T,Z=.L g e T/\(I g e T (wrap .i64 (t+1)) p/\M g e T (wrap .i64 (t+1)) p<M c F f t H)) (Cl 291 #[.L c F f] H λa' q=> ∃x y,a'=.T #[.Q x,.I y]/\ite (y !=0) (R (.T #[.Q none,.I 3]) q) (j x q))) (j (Sa s 0) k))) (λJ=>ite (decide (r<0)) (J (L:Int) i) (J r i))):Cl 214 #[.L b L a,.P s 0] h R:=aD [(9,.join [(7,sI)]),(15,.join [(1,sP)]),(22,.loop [(8,sS),(30,sI)])] P
def rN(u:aT h (.C self.arr 64) λB H=>aw.ck H (AA B 0) λw=>Cl 198 #[w.agg] H λv e=> ∃i t,v=.T #[.Q i,.I t]/\ite (t !=0) (R (.T #[.Q none,.I t]) e) (Cl 213 #[.P d 0] e λV f=> ∃j n m k T,V=.T #[.Q j,.L n m k,.I T]/\ite (T !=0) (R (.T #[.Q none,.I T]) f) (Cl 214 #[.L n m k,.Q i] f λy g=> ∃o c,y=.T #[.Q o,.I c]/\ite (c !=0) (R (.T #[.Q none,.I c]) g) (Cl 215 #[.P d 0] g λz q=>Vi z λx=>aT q (.C #[.Q j,.Q o,.I x] 233) λp r=>R (.T #[.P p 0,.I 0]) r)))):Cl 149 #[.P d 0,self.agg] h R:=aD [] u
def xj (n: ∃(I:iT)(m:iW),I 0 h/\∀t H,I t H->ite (decide (t<(L:Int))) (Bd t L/\aJ b λA=>ax.ck H (A.add (toNat t*24)) λo=>ax.NW H λB i=>ax.cR i (AA B 0) o λe=>ax.ck e (AA B 0) λp=>Cl 157 #[.P s 0,p.agg] e λv j=>ag.EX λf=> ∃T,v=.T #[f.agg,.I T]/\ag.NW j λg k=>ag.cR k (AA g 0) f λc=>ite (T !=0) (R (.T #[.I t,.I T]) c) ((I (wrap .i64 (t+1)) c/\m (wrap .i64 (t+1)) c<m t H))) (R (.T #[.I (L:Int),.I 0]) H)):Cl 293 #[.P s 0,.L b L a] h R:=aD [(6,.loop [(12,sI)])] n

end
section
namespace y7
open qM JK Im xH
variable {h:Heap} {R:dH} {d n:Nat} {X:Ft} {s:DS}
def M0(H:Dk h d X n s)(i:4<=n)(u:n<=4096)(w: ∀g,Fr No h g->R (.I (room n:Int)) g):Cl 215 #[.P d 0] h R:=by
 refine BU (A6 H i u λa F=>aO.ex (gM n).1.S (aO.ex (gM n).2.S ⟨_,rfl,bn (bn ?_)⟩));have b:Fr No a (a.push (.C aO.S.z.arr 334)):=Fr.push _ _;generalize j:a.push (.C aO.S.z.arr 334)=G at b⊢;have A:aO.ff G a.size aO.S.z:=j▸aU;have f:Fr No G (G.push (.C aO.S.z.arr 334)):=Fr.push _ _;generalize v:G.push (.C aO.S.z.arr 334)=q at f⊢;have m:aO.ff q G.size aO.S.z:=v▸aU;have C:a.size<G.size:=by rw[<-j];simp
 have Z:=F.1;refine aO.fB (x:=(gM n).1.S) (f.get A id) λB o c D=> ?_;refine aO.fB (x:=(gM n).2.S) (c.get m ae) λr z e E=> ?_;have l:Fr No h r:=((((F.tt b).tt f).fresh (S:=λy=>y=a.size) c (λy x=>ae)).fresh e λy x=>ae);have k:=(GP i).1;refine aO.dZ (e.get o ae) (vz k.2.2.1 (cv k.2.2.2) λt p=>⟨_,rfl,?_⟩);exact w t (l.tt p)

end y7
end
section
open Go.Fields
namespace gD
variable {h H:Heap} {w:Nat} {S:Nat→Prop} {bs:cO} {e:Int} {R:dH}
variable {p:bH} {c n:Nat} {K:Heap->Prop} {t:cO}
def Wr(h:Heap)(w:Nat)(S:fZ)(bs:cO):Prop:=
 ∃p c,h[w]? =some (.cells #[.bool true,.slice p bs.length c] 423 (0,0))/\Own h p bs.length c 1 (bc bs)/\¬aN p w/\∀x,S x↔x=w\/aN p x
theorem Wr.lt(a:Wr h w S bs): ∀x,S x->x<h.size:=by have⟨p,c,d,o,_,b⟩:=a;intro x hx;rcases(b x).1 hx with rfl|hx;grind;exact o.dW hx
def Wr.frame{Q:fZ}{b:Heap}(g:Wr h w S bs)(d:Fr Q h b)(f: ∀x,S x->¬Q x):Wr b w S bs:=by have⟨p,c,i,o,j,a⟩:=g;exact⟨p,c,d.get i (f w ((a w).2 (.inl rfl))),o.frame d (λx k=>f x ((a x).2 (.inr k))),j,a⟩
def ft(f: ∀b w S,Wr b w S []->Fr No h b->(∀x,S x->h.size<=x)->R (.P w 0) b):Cl 217 #[] h R:=by refine Bv (bn (f _ _ (λx=>x=h.size) ⟨none,0,aU,.nil rfl rfl rfl rfl,(λ⟨a,e,_⟩=>by cases e),λx=> ?_⟩ (Fr.push _ _) (λx d=>ae)));constructor;exact .inl;rintro(d|⟨a,e,_⟩);exact d;cases e
theorem Wr.store{P:bH}{C:Nat}{d:Heap}{cs:cO}(i:h[w]? =some (.C #[.B true,.L p bs.length c] 423 (0,0)))(k: ¬aN p w)(j: ∀x,S x↔x=w\/aN p x)(o:Own d P (bs.length+n) C 1 (bc bs++bc cs))(f:Fr (aN p) h d)(g: ∀x,aN P x->aN p x\/h.size<=x)(q:n=cs.length)(m: ∀b s,Wr b w s (bs++cs)->Step S h s b->K b):aI d (AA w 1) (.L P (bs.length+n) C) K:=by
 subst q;have y:=aE i;have l:=λa=>(g w a).elim k (λv=>ae);refine aY (f.get i k) bO λb z r u=> ?_;have F:=Fr.of_eq r u;refine m b (λx=>x=w\/aN P x) ⟨P,C,?_,?_,l,λx=>dY⟩ ⟨?_,?_⟩;grind;rw[ak,hZ];exact o.frame F (λx a e=>l (e▸a));exact f.trans F (λx _ a=>(j x).2 (.inr a)) (λx _ a=>(j x).2 (.inl a));grind
def Wr.push{x:Int}{b:UInt8}(i:Wr h w S bs)(B:bs.length<=1099511627786)(z:x=(b.toNat:Int))(r: ∀a s,Wr a w s (bs++ [b])->Step S h s a->K a):
  ∃(p:bH)(l c:Nat),aQ h (AA w 1)=some (.L p l c)/\
  aT h (.C #[.int .u8 x] 5) λb j=>
  bu Tryz.prog (Builtin.append_ #[69,69] 69 #[.L p l c,.L (Sa b 0) 1 1]) j λv k=>
  ∃(q:bH)(m d:Nat),v=.L q m d/\aI k (AA w 1) (.L q m d) K:=by
 have⟨p,c,f,o,y,u⟩:=i;refine⟨p,bs.length,c,aj f,(hX tU uU o rfl (λv g=>by simp at g;subst g;rfl) ae ae ?_)⟩;intro P C A O F G;subst z;exact⟨_,_,_,rfl,Wr.store (cs:= [b]) f y u O F G rfl r⟩
def Ya(H:Heap)(w:Nat)(s:fZ)(bs:cO)(a:Nat)(n:Int)(h:Heap):Prop:=
 ∃(m:Nat)(S:fZ)(d:cO),n=(m:Int)/\m<18446744073709551616/\Wr h w S (bs++d)/\d++bU m=bU a/\Step s H S h
theorem fD{n:Int}(k:Nat)(q:Wr h w S bs)(D:bs.length<=1099511627776)(e:n=(k:Int))(z:k<18446744073709551616)(y: ∀a g,Wr a w g (bs++bU k)->Step S h g a->R (.P w 0) a):Cl 218 #[.P w 0,.U n] h R:=by
 subst e;refine qK ?_;have⟨p,c,v,_⟩:=id q;refine ay.of λJ u=>⟨true,aj v,?_⟩;subst u;refine⟨Ya h w S bs k,λn _=>n.toNat,⟨k,S, [],rfl,z,by grind,rfl,Step.refl _ _⟩,?_⟩;rintro _ B ⟨m,A,d,rfl,l,f,j,o⟩;have C:=by have:=(bF k).2;omega
 by_cases x:(m:Int)>127;simp only[x,di,cI];refine f.push (by grind) (Wn m) λi s r b=> ?_;rw[XG];refine⟨⟨m/128,s,d++ [UInt8.ofNat (m%128+128)],rfl,ae,by grind,?_,o.trans b⟩,?_⟩;rw[<-j,AX l,iE];simp;omega;rw[fe];refine f.push (by grind) (b:=UInt8.ofNat m) (by rfl) λi s r b=>(y i s ?_ (o.trans b));rwa[<-j,AX l,fe,<-cP]
def Yb(n:Int)(a:n<=9223372036854775807):IntKind.wrap .u64 (if 0>n then 0 else n)=((gv n:Nat):Int):=by unfold gv;split;rw[HN];omega;rw[HN];omega
def gY{n:Int}(b:Wr h w S bs)(g:bs.length<=2^40)(i:n<=9223372036854775807)(f: ∀a s,Wr a w s (bs++bU (gv n))->Step S h s a->R (.P w 0) a):Cl 219 #[.P w 0,.I n] h R:=
 qL (fD (gv n) b g (Yb n i) (by unfold gv;omega) λa s d j=>⟨_,rfl,f a s d j⟩)
def M1{b:Bool}(g:Wr h w S bs)(j:bs.length<=2^40)(i: ∀a s,Wr a w s (bs++bU (bit b))->Step S h s a->R (.P w 0) a):Cl 300 #[.P w 0,.B b] h R:=by
 refine pB ?_;cases b;all_goals simp
 exact fD 0 g j rfl ae λa s d f=>⟨_,rfl,i a s d f⟩;exact fD 1 g j rfl ae λa s d f=>⟨_,rfl,i a s d f⟩
theorem pR(l:Wr h w S bs)(A:bs.length<=2^40)(D:Row h p (bc t))(B:n=t.length)(T:t.length<=2^40)(C: ∀x,aN p x->t≠ []->¬S x)(z: ∀b s,Wr b w s (bs++dF t)->Step S h s b->R (.P w 0) b):Cl 221 #[.P w 0,.L p n c] h R:=by
 subst B;refine pC (fD t.length l A (HN) ae λP M m k=>⟨_,rfl,?_⟩);have⟨q,d,f,o,G,E⟩:=m;refine ay.of λJ i=>⟨true,aj f,?_⟩;subst i;refine ay.of λJ i=>⟨q,_,d,aj f,?_⟩;have Q:=(bF t.length).2;rw[ak];rw[ak]at o;refine du tU uU o (by by_cases j:t= [];rw[j];exact .inl rfl;exact D.frame k.fr (λa e I=>C _ ⟨a,e,rfl⟩ j I)) (by rw[fO,bJ]) (kY t) ae ae ?_;intro V O b U _ F g;refine⟨_,_,_,rfl,?_⟩;rw[ak]at f;have:=Wr.store (K:=λy=>R (Value.pointer (some { block:=w,off:=0 })) y) (bs:=bs++bU t.length) (by simp;omega) G E (by simp;omega) F g rfl λv u r L=> ?_;grind;exact z v u (by rwa[cP]at r) (k.trans L)
def mF(b:Wr h w S bs)(f:bs.length<=2^40)(j:Row h p (bc t))(g:n=t.length)(k:t.length<=2^40)(i: ∀x,aN p x->¬S x)(d: ∀a s,Wr a w s (bs++dF t)->Step S h s a->R (.P w 0) a):Cl 221 #[.P w 0,.L p n c] h R:=
 pR b f j g k (λx l _=>i x l) d
def gJ(b:Wr h w S bs)(j:bs.length<=70368744177664)(i: ∀P C a,Own a P bs.length C 1 (bc bs)->Fr No h a->(∀x,aN P x->h.size<=x)->R (.L P bs.length C) a):Cl 222 #[.P w 0] h R:=by
 have⟨p,c,d,o,l,k⟩:=b;exact oN ⟨p,_,c,aj d,jC o.iy rfl j λP C a O f g=>⟨_,_,_,rfl,i P C a O f g⟩⟩

end gD
end
section
open Go.Fields
namespace gD
variable {h a H:Heap} {p:bH} {l c:Nat} {B:List (cO)}
abbrev kR(n:BV):List Value:= [n.val]
def tN:jL Tryz.prog 164 69 1 24 (.Z):=⟨zzkr,zzkr,rfl⟩
def uN:Tryz.prog.underlying 164=some (.slice 69):=zzkr
def yA(n:BV):(kR n).length=1:=rfl
def Kf(x:List BV): ∀v∈x.flatMap kR,fH v=true:=by intro v d;have⟨A,_,b⟩:=List.mem_flatMap.1 d;simp at b;subst b;rfl
def BL(H h:Heap)(p:bH)(l c:Nat)(B:List (cO)):Prop:=
 ∃(X:List BV)(D:fZ),l=X.length/\Own h p l c 1 (X.flatMap kR)/\X.map BV.b=B/\(∀x∈X,x.ok h D)/\(∀y,D y->H.size<=y/\y<h.size/\¬aN p y)/\∀y,aN p y->H.size<=y
def BL.nil:BL H h none 0 0 []:=⟨[],λ_=>False,rfl,.nil rfl rfl rfl rfl,rfl,(λx b=>by cases b),(λy d=>d.elim),λy ⟨A,e,_⟩=>by cases e⟩
def BL.on(e:BL H h p l c B)(f:Fr No h a):BL H a p l c B:=by have⟨X,D,g,i,j,k,b,m⟩:=e;exact⟨X,D,g,i.frame f bD,j,λx n=>(k x n).frame f bD,λy d=>⟨(b y d).1,cN (b y d).2.1 f.1,(b y d).2.2⟩,m⟩
def BL.len(b:BL H h p l c B):l=B.length:=by have⟨x,D,d,_,e,_⟩:=b;rw[d,<-e,aM]
def BL.lt(b:BL H h p l c B){y:Nat}(e:aN p y):y<h.size:=by have⟨x,D,_,d,_⟩:=b;exact d.dW e
def BL.mono{b:Heap}(g:BL b h p l c B)(f:H.size<=b.size):BL H h p l c B:=by have⟨x,D,b,i,j,k,e,m⟩:=g;exact⟨x,D,b,i,j,k,λy d=>⟨cw f (e y d).1,(e y d).2⟩,λy d=>cw f (m y d)⟩
def BL.push{b:cO}{q:bH}{d:Nat}{K:dH}(m:BL H h p l c B)(up:H.size<=h.size)(o:Own h q b.length d 1 (bc b))(j: ∀y,aN q y->H.size<=y/\¬aN p y)(w:l<=1000000)(u: ∀P C a,BL H a P (l+1) C (B++ [b])->Fr (aN p) h a->(∀y,aN P y->aN p y\/h.size<=y)->K (.L P (l+1) C) a):
  aT h (.C #[.L q b.length d] 69) λn i=>bu Tryz.prog (Builtin.append_ #[164,164] 164 #[.L p l c,.L (Sa n 0) 1 1]) i K:=by
 obtain⟨X,D,i,h2,r,s,e,t⟩:=m;refine hX tN uN h2 rfl (λv k=>by simp at k;subst k;rfl) ae ae ?_;intro P C a O f g;have lt: ∀y,aN q y->y<h.size:=λy hy=>o.dW hy;refine u P C a ⟨X++ [⟨q,d,b⟩],λy=>D y\/aN q y,by rw[ak,i];rfl,?_,?_,?_,?_,?_⟩ f g;rw[cC];simpa using O;rw[bB,r];rfl;intro x hx;rcases cG.1 hx with hx|hx;exact((s x hx).frame f (λy hy=>(e y hy).2.2)).mono (λy=> .inl);simp at hx;subst hx;exact BV.kZ (o.frame f (λy hy=>(j y hy).2)) (λy=> .inr);have z:=f.1;rintro y (hy|hy);exact⟨(e y hy).1,cv ((e y hy).2.1),λhx=>(g y hx).elim (e y hy).2.2 (λh2=>cv ((e y hy).2.1))⟩;exact⟨(j y hy).1,cv (lt y hy),λhx=>(g y hx).elim (j y hy).2 (λh2=>cv (lt y hy))⟩;intro y hy;rcases g y hy with h2|h2;exact t y h2;omega
def BL.frame{Q:fZ}(i:BL H h p l c B)(f:Fr Q h a)(g: ∀y,H.size<=y->¬Q y):BL H a p l c B:=by have⟨X,D,j,k,m,n,d,e⟩:=i;exact⟨X,D,j,k.frame f (λy b=>g y (e y b)),m,λx o=>(n x o).frame f (λy b=>g y (d y b).1),λy b=>⟨(d y b).1,cN (d y b).2.1 f.1,(d y b).2.2⟩,e⟩

end gD
end
section
variable {h:Heap} {R:dH}
variable {a:Nat} {x X i:Int}
def Ej(d:aT h (.map #[] 0) λb H=>aT H (.C #[.Z,.map (some b)] 563) λB c=>R (.P B 0) c):Cl 346 #[] h R:=aD [] d
def se(H: ∃t,Cc h a 1 (.map t)/\R (.B (!t.isNone)) h):Cl 482 #[.P a 0] h R:=aD [] H
def uk(H: ∃b t T,Cc h a 0 (.L b t T)/\R (.I ((t:Nat):Int)) h):Cl 481 #[.P a 0] h R:=aD [] H
def Ag{y:Int}{d:Int} (f:aT h (.C #[.I x,.U X] 639) λb e=>aT e (.C #[.I y,.U d] 639) λB H=>Hu H b 1 λk=> ∃c,Cc H B 1 (.U c)/\ite (decide (k<c)) (R (.B true) H) (Hu H b 1 λg=> ∃t,Cc H B 1 (.U t)/\ite (g==t) (Hi H b 0 λj=> ∃T,Cc H B 0 (.I T)/\R (.B (decide (j<T))) H) (R (.B false) H))):Cl 545 #[.agg #[.I x,.U X],.agg #[.I y,.U d]] h R:=aD [] f
def um(f:aT h (.C #[.I x,.U X] 639) λb H=>Hl H a 0 λl k m=>Hi H b 0 λT=>Hu H b 1 λg=>Bd i k/\aJ l λA=>aI H (A.add (toNat i*2)) (.I T) λd=>aI d ((A.add (toNat i*2)).add 1) (.U g) λc=> ∃t,Cc c a 1 (.map t)/\Hi c b 0 λj=>ij (Instr.mapUpdate 492 (.map t) (.I j) (.I i)) c λ_ e=>R (.T #[]) e):Cl 483 #[.P a 0,.I i,.agg #[.I x,.U X]] h R:=aD [(3,λ_=>pN 8),(4,λ_=>pN 8)] f
def vQ (hv: ∃(I:iT)(O:iW),(I i h)/\∀c H,I c H->ay (λ(l':Bool) d=>ite l' (ay (λ(t':bH) (u':bH) z=>aJ t' λF=>iw z F λm'=>fM z (F.add 1) λn'=>Cl 483 #[.P a 0,.I (wrap .i64 (Int.tdiv (wrap .i64 (c - 1)) 2)),.agg #[.I m',.U n']] z λq' C=>q'=.T #[]/\aJ u' λG=>iw C G λo'=>fM C (G.add 1) λp'=>Cl 483 #[.P a 0,.I c,.agg #[.I o',.U p']] C λr' M=>r'=.T #[]/\(I (wrap .i64 (Int.tdiv (wrap .i64 (c - 1)) 2)) M/\O (wrap .i64 (Int.tdiv (wrap .i64 (c - 1)) 2)) M<O c H)) (λE=>Hl d a 0 λr q s=>Bd c q/\aJ r λg=>iw d (g.add (toNat c*2)) λj=>fM d ((g.add (toNat c*2)).add 1) λk=>Hl d a 0 λf e l=>Bd (wrap .i64 (Int.tdiv (wrap .i64 (c - 1)) 2)) e/\aJ f λA=> ∃t,aQ d (A.add (toNat (wrap .i64 (Int.tdiv (wrap .i64 (c - 1)) 2))*2))=some (.I t)/\∃T,aQ d ((A.add (toNat (wrap .i64 (Int.tdiv (wrap .i64 (c - 1)) 2))*2)).add 1)=some (.U T)/\(aT d (.C #[.I 0,.U 0] 639) λb o=>cz (A.add (toNat (wrap .i64 (Int.tdiv (wrap .i64 (c - 1)) 2))*2)) [.I t,.U T] 0 o/\Cc o a 0 (.L f e l)/\cz (g.add (toNat c*2)) [.I j,.U k] 0 o/\Cc o a 0 (.L r q s)/\aT o (.C #[.I 0,.U 0] 639) λB p=>cz (A.add (toNat (wrap .i64 (Int.tdiv (wrap .i64 (c - 1)) 2))*2)) [.I t,.U T] 0 p/\Cc p a 0 (.L f e l)/\cz (g.add (toNat c*2)) [.I j,.U k] 0 p/\Cc p a 0 (.L r q s)/\aI p (AA b 0) (.I j) λf'=>aI f' (AA b 1) (.U k) λD=>cz (A.add (toNat (wrap .i64 (Int.tdiv (wrap .i64 (c - 1)) 2))*2)) [.I t,.U T] 0 D/\Cc D a 0 (.L f e l)/\aI D (AA B 0) (.I t) λa'=>aI a' (AA B 1) (.U T) λb'=>E (Sa b 0) (Sa B 0) b')/\(aT d (.C #[.I 0,.U 0] 639) λu m=>cz (A.add (toNat (wrap .i64 (Int.tdiv (wrap .i64 (c - 1)) 2))*2)) [.I t,.U T] 0 m/\Cc m a 0 (.L f e l)/\cz (g.add (toNat c*2)) [.I j,.U k] 0 m/\Cc m a 0 (.L r q s)/\aT m (.C #[.I 0,.U 0] 639) λv n=>cz (A.add (toNat (wrap .i64 (Int.tdiv (wrap .i64 (c - 1)) 2))*2)) [.I t,.U T] 0 n/\Cc n a 0 (.L f e l)/\cz (g.add (toNat c*2)) [.I j,.U k] 0 n/\Cc n a 0 (.L r q s)/\aI n (AA v 0) (.I j) λc'=>aI c' (AA v 1) (.U k) λw=>cz (A.add (toNat (wrap .i64 (Int.tdiv (wrap .i64 (c - 1)) 2))*2)) [.I t,.U T] 0 w/\Cc w a 0 (.L f e l)/\aI w (AA u 0) (.I t) λd'=>aI d' (AA u 1) (.U T) λe'=>E (Sa v 0) (Sa u 0) e')/\True)) (R (.T #[]) d)) (λJ=>ite (decide (c>0)) (Hl H a 0 λQ P g'=>Bd c P/\aJ Q λK=>iw H (K.add (toNat c*2)) λh'=>fM H ((K.add (toNat c*2)).add 1) λi'=>Hl H a 0 λU S j'=>Bd (wrap .i64 (Int.tdiv (wrap .i64 (c - 1)) 2)) S/\aJ U λL=> ∃V,aQ H (L.add (toNat (wrap .i64 (Int.tdiv (wrap .i64 (c - 1)) 2))*2))=some (.I V)/\∃Z,aQ H ((L.add (toNat (wrap .i64 (Int.tdiv (wrap .i64 (c - 1)) 2))*2)).add 1)=some (.U Z)/\Cl 545 #[.agg #[.I h',.U i'],.agg #[.I V,.U Z]] H λs' y=>Vb s' λk'=>Cc y a 0 (.L U S j')/\Cc y a 0 (.L Q P g')/\J k' y) (J false H))):Cl 484 #[.P a 0,.I i] h R:=aD [(0,λ_=> .scope 0 [(1,sI)] ll (lq (lq (sq (.join [(28,sB)] (pN 19)) (cq (sq (.join [(5,sP),(6,sP)] (.pn (fE 14 0 (.alts (.fork 14 (fE 3 15 .done) (.fork 15 (mL [14,16,17] .done) .iH)))))) (lq (lq ll))) lf)))))] hv
def sf (hv: ∃(I:iT)(mu:iW),(I i h)/\∀c D,I c D->∃(w:Int->iT)(j':Int->iW),w c 0 D/\∀B t H,w B t H->ite (decide (t<2)) (ay (λ(e':Int) g'=>(w e' (wrap .i64 (t+1)) g'/\j' e' (wrap .i64 (t+1)) g'<j' B t H)) (λJ=>Bd t 2/\(t=((0:Nat):Int)->ay (λ(V':Bool) h'=>ay (λ(A':Int) I'=>J A' I') (λP=>ite V' (P (wrap .i64 ((wrap .i64 (2*c))+1)) h') (P B h'))) (λO=> ∃m' L k',Cc H a 0 (.L m' L k')/\ite (decide ((wrap .i64 ((wrap .i64 (2*c))+1))<((L:Nat):Int))) (Hl H a 0 λq' o' K'=>Bd (wrap .i64 ((wrap .i64 (2*c))+1)) o'/\aJ q' λV=> ∃s',aQ H (V.add (toNat (wrap .i64 ((wrap .i64 (2*c))+1))*2))=some (.I s')/\∃u',aQ H ((V.add (toNat (wrap .i64 ((wrap .i64 (2*c))+1))*2)).add 1)=some (.U u')/\Hl H a 0 λy' w' M'=>Bd B w'/\aJ y' λZ=>iw H (Z.add (toNat B*2)) λP'=>fM H ((Z.add (toNat B*2)).add 1) λR'=>Cl 545 #[.agg #[.I s',.U u'],.agg #[.I P',.U R']] H λa3 s=>Vb a3 λT'=>Cc s a 0 (.L y' w' M')/\Cc s a 0 (.L q' o' K')/\Cc s a 0 (.L m' L k')/\O T' s) (O false H)))/\(t=((1:Nat):Int)->ay (λ(X':Bool) i'=>ay (λ(B':Int) J'=>J B' J') (λS=>ite X' (S (wrap .i64 ((wrap .i64 (2*c))+2)) i') (S B i'))) (λQ=> ∃n' M l',Cc H a 0 (.L n' M l')/\ite (decide ((wrap .i64 ((wrap .i64 (2*c))+2))<((M:Nat):Int))) (Hl H a 0 λr' p' L'=>Bd (wrap .i64 ((wrap .i64 (2*c))+2)) p'/\aJ r' λa'=> ∃t',aQ H (a'.add (toNat (wrap .i64 ((wrap .i64 (2*c))+2))*2))=some (.I t')/\∃v',aQ H ((a'.add (toNat (wrap .i64 ((wrap .i64 (2*c))+2))*2)).add 1)=some (.U v')/\Hl H a 0 λz' x' O'=>Bd B x'/\aJ z' λb'=>iw H (b'.add (toNat B*2)) λQ'=>fM H ((b'.add (toNat B*2)).add 1) λS'=>Cl 545 #[.agg #[.I t',.U v'],.agg #[.I Q',.U S']] H λa4 u=>Vb a4 λU'=>Cc u a 0 (.L z' x' O')/\Cc u a 0 (.L r' p' L')/\Cc u a 0 (.L n' M l')/\Q U' u) (Q false H)))/\True)) (ite (B !=c) (ay (λ(a7:bH) (a8:bH) E=>aJ a7 λc'=>iw E c' λZ'=>fM E (c'.add 1) λa0=>Cl 483 #[.P a 0,.I B,.agg #[.I Z',.U a0]] E λa5 F=>a5=.T #[]/\aJ a8 λd'=>iw F d' λa1=>fM F (d'.add 1) λa2=>Cl 483 #[.P a 0,.I c,.agg #[.I a1,.U a2]] F λa6 f'=>a6=.T #[]/\(I B f'/\mu B f'<mu c D)) (λU=>Hl H a 0 λr q v=>Bd c q/\aJ r λg=>iw H (g.add (toNat c*2)) λj=>fM H ((g.add (toNat c*2)).add 1) λk=>Hl H a 0 λf e l=>Bd B e/\aJ f λA=>iw H (A.add (toNat B*2)) λT=>fM H ((A.add (toNat B*2)).add 1) λd=>(aT H (.C #[.I 0,.U 0] 639) λb m=>cz (A.add (toNat B*2)) [.I T,.U d] 0 m/\Cc m a 0 (.L f e l)/\cz (g.add (toNat c*2)) [.I j,.U k] 0 m/\Cc m a 0 (.L r q v)/\aT m (.C #[.I 0,.U 0] 639) λy n=>cz (A.add (toNat B*2)) [.I T,.U d] 0 n/\Cc n a 0 (.L f e l)/\cz (g.add (toNat c*2)) [.I j,.U k] 0 n/\Cc n a 0 (.L r q v)/\aI n (AA b 0) (.I j) λC'=>aI C' (AA b 1) (.U k) λG=>cz (A.add (toNat B*2)) [.I T,.U d] 0 G/\Cc G a 0 (.L f e l)/\aI G (AA y 0) (.I T) λD'=>aI D' (AA y 1) (.U d) λE'=>U (Sa b 0) (Sa y 0) E')/\(aT H (.C #[.I 0,.U 0] 639) λz o=>cz (A.add (toNat B*2)) [.I T,.U d] 0 o/\Cc o a 0 (.L f e l)/\cz (g.add (toNat c*2)) [.I j,.U k] 0 o/\Cc o a 0 (.L r q v)/\aT o (.C #[.I 0,.U 0] 639) λC p=>cz (A.add (toNat B*2)) [.I T,.U d] 0 p/\Cc p a 0 (.L f e l)/\cz (g.add (toNat c*2)) [.I j,.U k] 0 p/\Cc p a 0 (.L r q v)/\aI p (AA C 0) (.I j) λF'=>aI F' (AA C 1) (.U k) λK=>cz (A.add (toNat B*2)) [.I T,.U d] 0 K/\Cc K a 0 (.L f e l)/\aI K (AA z 0) (.I T) λG'=>aI G' (AA z 1) (.U d) λH'=>U (Sa C 0) (Sa z 0) H')/\True)) (R (.T #[]) H))):Cl 485 #[.P a 0,.I i] h R:=aD [(0,λ_=> .scope 0 [(1,sI)] ll (lq (lq (sq (lq (bq (.loop [(4,sI),(17,sI)] (lq (sq (cq lf lf) (sq (.join [(4,sI)] (bq (lq (sq (.join [(43,sB)] (pN 24)) (.join [(4,sI)] (cq lf lf)))))) lf)))))) (lq (cq (sq (.join [(7,sP),(8,sP)] (.pn (fE 14 0 (.alts (.fork 14 (fE 3 15 .done) (.fork 15 (mL [14,16,17] .done) .iH)))))) (lq (lq ll))) lf))))))] hv
def sg{k:Int} (C:Cl 482 #[.P a 0] h λv H=> ∃m,v=.B m/\ite (!m) (R (.I 6) H) (∃n,Cc H a 1 (.map n)/\∃T o,Pk 492 (.map n) (.I k) true H (.T #[.I T,.B o])/\ite (!o) (R (.I 4) H) (Hl H a 0 λP t O=>Hl H a 0 λE D Q=>Bd (wrap .i64 ((t:Int) - 1)) D/\aJ E λA=> ∃p,aQ H (A.add (toNat (wrap .i64 ((t:Int) - 1))*2))=some (.I p)/\∃q,aQ H ((A.add (toNat (wrap .i64 ((t:Int) - 1))*2)).add 1)=some (.U q)/\aT H (.C #[.I 0,.U 0] 639) λb w=>aI w (AA b 0) (.I p) λy=>aI y (AA b 1) (.U q) λj=>Hl j a 0 λF S f=>((0:Int)<=wrap .i64 ((t:Int) - 1)/\wrap .i64 ((t:Int) - 1)<=(f:Int))/\aI j (AA a 0) (.slice (bV F f 0 2) ((toNat (wrap .i64 ((t:Int) - 1))) - 0) (f - 0)) λl=> ∃r,Cc l a 1 (.map r)/\ij (Builtin.delete_ #[492,3] 0 #[.map r,.I k]) l λV c=>V=.T #[]/\ay (λz=>R (.I 0) z) (λJ=>ite (decide (T<(wrap .i64 ((t:Int) - 1)))) (Hi c b 0 λG=>Hu c b 1 λI=>Cl 483 #[.P a 0,.I T,.agg #[.I G,.U I]] c λK B=>K=.T #[]/\Cl 484 #[.P a 0,.I T] B λL d=>L=.T #[]/\∃g,Cc d a 1 (.map g)/\Hi d b 0 λs=> ∃u,Pk 492 (.map g) (.I s) false d (.I u)/\Cl 485 #[.P a 0,.I u] d λM e=>M=.T #[]/\Cc e b 0 (.I s)/\Cc e a 1 (.map g)/\J e) (J c))))):Cl 427 #[.P a 0,.I k] h R:=aD [(31,.join []),(36,λ_=>pN 9)] C
def si(c:Cl 481 #[.P a 0] h λv H=> ∃T,v=.I T/\ite (T==0) (R (.T #[.I 0,.U 0,.B false]) H) (Hl H a 0 λe d k=>Bd 0 d/\aJ e λA=>iw H (A.add (toNat 0*2)) λf=>Hl H a 0 λj g l=>Bd 0 g/\aJ j λb=> ∃t,aQ H ((b.add (toNat 0*2)).add 1)=some (.U t)/\R (.T #[.I f,.U t,.B true]) H)):Cl 426 #[.P a 0] h R:=aD [(11,λ_=>pN 17)] c
def sj{n:Int}(A:Cl 426 #[.P a 0] h λv u=> ∃j l p,v=.T #[.I j,.U l,.B p]/\∃(I:bH->Nat->Nat->Int->Int->Bool->cM)(m:bH->Nat->Nat->Int->Int->Bool->Heap->Nat),I none 0 0 j l p u/\∀c O o k V d H,I c O o k V d H->ay (λ(B:Bool) f=>ite B (aT f (.C #[.I k] 3) λb w=>ij (Builtin.append_ #[49,49] 49 #[.L c O o,.L (Sa b 0) 1 1]) w λC y=>Vl C λs r q=>Cl 427 #[.P a 0,.I k] y λD z=>Vi D λF=>Cl 426 #[.P a 0] z λE g=> ∃t T e,E=.T #[.I t,.U T,.B e]/\(I s r q t T e g/\m s r q t T e g<m c O o k V d H)) (R (.L c O o) f)) (λJ=>ite d (J (decide (V<=n)) H) (J false H))):Cl 364 #[.P a 0,.U n] h R:=aD [(8,.loop [(5,sS),(6,sI),(7,sU),(8,sB)]),(11,.join [(20,sB)])] A

end
section
open Go.mj
namespace cB
def tm:tH Tryz.prog 492 (.I 0):=.of 3 3 .i64 zzkr zzkr zzkr
def enc(b:List E):List Value:=b.flatMap λe=> [.int .i64 e.1,.int .u64 e.2]
def uo(e:E)(b:List E):enc (e::b)=.I e.1:: .U e.2::enc b:=rfl
def mD: ∀b:List E,(enc b).length=b.length*2
 | []=>rfl
 |e::b=>by rw[uo];simp only[bw,mD b];omega
theorem Uq: ∀{b:List E}{i:Nat},i<b.length->(enc b)[i*2]? =some (.I (at_ b i).1)
 | [],_,h=>by simp at h
 |e::b,0,_=>rfl
 |e::b,i+1,h=>by rw[uo,show(i+1)*2=i*2+1+1 by omega,List.getElem?_cons_succ,List.getElem?_cons_succ,Uq (by grind)];rfl
theorem Ur: ∀{b:List E}{i:Nat},i<b.length->(enc b)[i*2+1]? =some (.U (at_ b i).2)
 | [],_,h=>by simp at h
 |e::b,0,_=>rfl
 |e::b,i+1,h=>by rw[uo,show(i+1)*2+1=i*2+1+1+1 by omega,List.getElem?_cons_succ,List.getElem?_cons_succ,Ur (by grind)];rfl
def M4: ∀(b:List E)(i:Nat)(x:E),((enc b).set (i*2) (.I x.1)).set (i*2+1) (.U x.2)=enc (b.set i x)
 | [],_,_=>by simp[enc]
 |e::b,0,x=>rfl
 |e::b,i+1,x=>by rw[uo,show(i+1)*2=i*2+1+1 by omega,List.set_cons_succ,List.set_cons_succ,List.set_cons_succ,List.set_cons_succ,M4 b i x];rfl
def Kg: ∀(b:List E)(n:Nat),(enc b).take (n*2)=enc (b.take n)
 | [],n=>by simp[enc]
 |e::b,0=>by simp[enc]
 |e::b,n+1=>by rw[uo,show(n+1)*2=n*2+1+1 by omega,List.take_succ_cons,List.take_succ_cons,Kg b n];rfl
structure Mem (h:Heap) (a:Nat) (p:bH) (cap m:Nat) (b:List E) (g:Int->Option Value):Prop where
 cV:h[a]? =some (.cells #[.slice p b.length cap,.map (some m)] 563 (0,0))
 own:Own h p b.length cap 2 (enc b)
 map:nR h m g
 ne: ¬aN p a
def Kh(a:Nat)(p:bH)(m:Nat)(c:Nat):Prop:=c=a\/c=m\/aN p c
def inner(p:bH)(m:Nat)(c:Nat):Prop:=c=m\/aN p c
variable {h : Heap} {a m cap : Nat} {p : Option Addr} {b : List E} {g : Int → Option Value} {R : Value → Heap → Prop}
def Mem.am(M:Mem h a p cap m b g):a≠m:=by rintro rfl;have⟨x,c,H⟩:=M.map.map;rw[M.cV]at H;cases H
def Mem.pm(M:Mem h a p cap m b g): ¬aN p m:=λd=>by have⟨x,c,H⟩:=M.map.map;have⟨y,t,e⟩:=M.own.cells d;rw[e]at H;cases H
def Mem.lt(M:Mem h a p cap m b g){c:Nat}(hc:Kh a p m c):c<h.size:=by rcases hc with rfl|rfl|hc;exact aE M.cV;exact M.map.lt;exact M.own.dW hc
def Mem.frame{S:fZ}{e:Heap}(M:Mem h a p cap m b g)(H:Fr S h e)(d: ∀c,Kh a p m c->¬S c):Mem e a p cap m b g:=
 ⟨H.get M.cV (d a (.inl rfl)),M.own.frame H λc f=>d c (.inr (.inr f)),M.map.frame H (d m (.inr (.inl rfl))),M.ne⟩
def Mem.calm{H:Heap}(M:Mem h a p cap m b g)(c:Fr No h H):Mem H a p cap m b g:=M.frame c λ_ _=>id
def Mem.hd(M:Mem h a p cap m b g):aQ h (AA a 0)=some (.L p b.length cap):=aj M.cV
def Mem.mp(M:Mem h a p cap m b g):aQ h (AA a 1)=some (.map (some m)):=aj M.cV
def Mem.some(M:Mem h a p cap m b g)(c:0<b.length): ∃A,p=some A:=by have⟨B,o,H⟩:=M.own.some (by rw[mD];omega);exact⟨_,H⟩
def Mem.c0{A:Addr}(M:Mem h a (.some A) cap m b g){i:Nat}(H:i<b.length):aQ h (A.add (i*2))=.some (.I (at_ b i).1):=M.own.cell (Uq H)
def Mem.c1{A:Addr}(M:Mem h a (.some A) cap m b g){i:Nat}(H:i<b.length):aQ h ((A.add (i*2)).add 1)=.some (.U (at_ b i).2):=by rw[add_add];exact M.own.cell (Ur H)
def Ki{X x c y:Int}(l: jA h R (.B (decide (lt (X,x) (c,y))))):
  Cl 545 #[.agg #[.I X,.U x],.agg #[.I c,.U y]] h R:=by
 refine Ag ?_;rintro B d rfl rfl n i rfl rfl;have f:Fr No h ((h.push (.C #[.I X,.U x] 639)).push (.C #[.I c,.U y] 639)):=Fr.tt (Fr.push _ _) (Fr.push _ _);have j:=xT (x:=.C #[.I c,.U y] 639) (aU (h:=h) (x:=.C #[.I X,.U x] 639));have k:=aU (h:=h.push (.C #[.I X,.U x] 639)) (x:=.C #[.I c,.U y] 639);have H:=l _ f;refine⟨x,aj j,y,aj k,?_⟩;by_cases d:x<y;have e:decide (lt (X,x) (c,y))=true:=by simp[lt,d]
 rw[e]at H;simpa only[d,di,cI]using H;rw[fe];refine⟨x,aj j,y,aj k,?_⟩;by_cases i:x=y;subst i;simp only[beq_self_eq_true,cI];refine⟨X,aj j,c,aj k,?_⟩;have e:decide (lt (X,x) (c,x))=decide (X<c):=by simp[lt]
 rw[e]at H;exact H;have e:decide (lt (X,x) (c,y))=false:=by simp[lt,d,i]
 rw[e]at H;simpa only[fV.2 i,aV,bQ]using H
theorem wT(M:Mem h a p cap m b g){i:Nat}(G:i<b.length){x X:Int}(v: ∀l,Mem l a p cap m (b.set i (x,X)) (λk=>if k=x then some (.I i)else g k)->Fr (inner p m) h l->R (.T #[]) l):
  Cl 483 #[.P a 0,.I i,.agg #[.I x,.U X]] h R:=by
 obtain⟨A,rfl⟩:=M.some ae;refine um ?_;rintro B q t rfl;have j:Fr No h (h.push (.C #[.I x,.U X] 639)):=Fr.push _ _;have d:=M.calm j;have f:=aU (h:=h) (x:=.C #[.I x,.U X] 639);rw[<-t]at f;generalize h.push (.C #[.I x,.U X] 639)=q at j d f;have u: ∀c,Kh a (some A) m c->B≠c:=λc H e=>by have:=M.lt H;omega
 refine⟨_,_,_,d.hd,x,aj f,X,aj f,ae,av.2 ?_⟩;rw[aG,add_add];have I:=mD b;refine d.own.store ae λD O S w=>O.store (by grind) λE o C y=> ?_;rw[M4 b i (x,X)]at o;have F:=Fr.tt (Fr.of_eq S w) (Fr.of_eq C y);have n:=F.get d.cV M.ne;refine⟨_,aj n,x,aj (F.get f (λH=>u B (.inr (.inr H)) rfl)),(tJ tm (d.map.frame F M.pm) λr z s K=>v r ⟨?_,?_,z,M.ne⟩ ?_)⟩;rw[K a M.am,n,fz];rw[fz];exact o.frame (Fr.of_eq s K) (λc H e=>M.pm (e▸H));exact Fr.no j ((F.mono λc _ H=> .inr H).trans (Fr.of_eq s K) bD (λ_ _ H=> .inl H))
def Us{h:Heap}{t:TypeId}{z Z X M O P:Value}{G k u v:cM}{J:bH->bH->cM}(s: ∀j,Fr No h j->G j/\k j/\u j/\v j)(hJ: ∀B d j,j[B]? =some (.C #[X,M] t (0,0))->j[d]? =some (.C #[O,P] t (0,0))->h.size<=B->h.size<=d->Fr No h j->J (Sa B 0) (Sa d 0) j):
  (aT h (.C #[z,Z] t) λB H=>G H/\k H/\u H/\v H/\aT H (.C #[z,Z] t) λl e=>G e/\k e/\u e/\v e/\
   aI e (AA B 0) X λE=>aI E (AA B 1) M λi=>G i/\k i/\aI i (AA l 0) O λC=>aI C (AA l 1) P λD=>J (Sa B 0) (Sa l 0) D)/\
  (aT h (.C #[z,Z] t) λB H=>G H/\k H/\u H/\v H/\aT H (.C #[z,Z] t) λl e=>G e/\k e/\u e/\v e/\
   aI e (AA l 0) X λE=>aI E (AA l 1) M λi=>G i/\k i/\aI i (AA B 0) O λC=>aI C (AA B 1) P λD=>J (Sa l 0) (Sa B 0) D)/\True:=by
 have a': ∀(B d:Nat)(A:Heap),B≠d->h.size<=B->h.size<=d->Fr No h A->A[B]? =some (.C #[z,Z] t (0,0))->A[d]? =some (.C #[z,Z] t (0,0))->
   aI A (AA B 0) X λE=>aI E (AA B 1) M λi=>G i/\k i/\aI i (AA d 0) O λC=>aI C (AA d 1) P λD=>J (Sa B 0) (Sa d 0) D:=by
  intro B d A L S T f7 c7 f';have K: ∀{w x:Heap}{c':Nat},Fr No h w->h.size<=c'->x.size=w.size->(∀y,y≠c'->x[y]? =w[y]?)->Fr No h x:=λf hx hs ho=>⟨cv f.1,λc hc hn=>by rw[ho c ae];exact f.2 c hc hn⟩;refine aY c7 bO λh8 c8 s8 k8=>aY c8 bO λh9 c9 s9 k9=> ?_;have Q:=K (K f7 S s8 k8) S s9 k9;have g':h9[d]? =some (.C #[z,Z] t (0,0)):=by rw[k9 _ L.symm,k8 _ L.symm];exact f'
  refine⟨(s _ Q).1,(s _ Q).2.1,aY g' bO λk' d' i' U=>aY d' bO λh' e' j' V=> ?_⟩;refine hJ B d h' ?_ e' S T (K (K Q T i' U) T j' V);rw[V _ L,U _ L];exact c9
 have I: ∀b',Fr No h (h.push b'):=λb'=>Fr.push _ _;refine⟨?_,?_,trivial⟩;rintro B w rfl rfl;obtain⟨n,o,q,r⟩:=s _ (I _);refine⟨n,o,q,r,?_⟩;rintro d x rfl rfl;have F:=Fr.tt (I (.C #[z,Z] t)) (Fr.push (h.push (.C #[z,Z] t)) (.C #[z,Z] t));obtain⟨n,o,q,r⟩:=s _ F;exact⟨n,o,q,r,a' _ _ _ bO bO bO F (xT aU) aU⟩;rintro B w rfl rfl;obtain⟨n,o,q,r⟩:=s _ (I _);refine⟨n,o,q,r,?_⟩;rintro d x rfl rfl;have F:=Fr.tt (I (.C #[z,Z] t)) (Fr.push (h.push (.C #[z,Z] t)) (.C #[z,Z] t));obtain⟨n,o,q,r⟩:=s _ F;exact⟨n,o,q,r,a' _ _ _ bO bO bO F aU (xT aU)⟩
end cB
end
section
open Go.mj
namespace cB
variable {h:Heap} {a m cap:Nat} {p:bH} {c:List E} {g:Int→Option Value} {R:dH}
variable {q i b:Nat}
def Vo(H:q<1000000):IntKind.wrap .i64 (Int.tdiv (IntKind.wrap .i64 ((q:Int) - 1)) 2)=(((q - 1)/2:Nat):Int):=by
 rw[df (n:=(q) - 1) ae ae];cases q with
 |zero=>decide
 |succ n=>
  rw[show((n+1:Nat)) - 1=(n:Int) by omega,show n+1 - 1=n from rfl];have:Int.tdiv (n) 2=((n/2)):=by rfl
  exact eY
def Tf(H:q<1000000):IntKind.wrap .i64 (IntKind.wrap .i64 (2*(q:Int))+1)=((2*q+1:Nat):Int):=by rw[df (n:=2*(q)) ae ae,eY];omega
def Tg(H:q<1000000):IntKind.wrap .i64 (IntKind.wrap .i64 (2*(q:Int))+2)=((2*q+2:Nat):Int):=by rw[df (n:=2*(q)) ae ae,eY];omega
def M6{K:cM}(M:Mem h a p cap m c g)(y:iY c g){j B:Nat}(n:i<c.length)(o:j<c.length)(E:i≠j)(k:h[b]? =some (.C #[.I (at_ c i).1,.U (at_ c i).2] 639 (0,0)))(C:h[B]? =some (.C #[.I (at_ c j).1,.U (at_ c j).2] 639 (0,0)))(I: ¬inner p m B)(D: ∀H G,Mem H a p cap m (rB c i j) G->iY (rB c i j) G->Fr (inner p m) h H->K H):
  aJ (some ((AA b 0):Addr)) λA=>
   ∃(t:Int),aQ h A=some (.I t)/\∃(T:Int),aQ h (A.add 1)=some (.U T)/\
   Cl 483 #[.P a 0,.I (j:Int),.agg #[.I t,.U T]] h λv d=>
   v=.T #[]/\
   aJ (some ((AA B 0):Addr)) λe=>
   ∃(r:Int),aQ d e=some (.I r)/\∃(s:Int),aQ d (e.add 1)=some (.U s)/\
   Cl 483 #[.P a 0,.I (i:Int),.agg #[.I r,.U s]] d λV z=>
   V=.T #[]/\K z:=by
 refine av.2 ⟨_,aj k,_,by rw[hH];exact aj k,?_⟩;refine wT M o λJ u f=>⟨rfl,av.2 ?_⟩;have l:=f.get C I;refine⟨_,aj l,_,by rw[hH];exact aj l,?_⟩;refine wT u (by rw[fz];exact n) λx w F=>⟨rfl,D x _ w (y.swap n o E) (Fr.tt f F)⟩
def Zd(H:Heap)(a:Nat)(p:bH)(cap m:Nat)(e:List E)(I:Nat)(i:Int)(h:Heap):Prop:=
 ∃c g q,i=((q:Nat):Int)/\q<e.length/\c.length=e.length/\Mem h a p cap m c g/\iY c g/\c.Perm e/\zE (at_ c) e.length q/\
  ((q=I/\c=e)\/HU (at_ c) e.length q)/\at_ c q=at_ e I/\Fr (inner p m) H h
theorem WG(M:Mem h a p cap m c g)(V:iY c g)(hi:i<c.length)(hn:c.length<1000000)(K:zE (at_ c) c.length i)(hk: ∀o E G q,Mem o a p cap m E G->iY E G->E.Perm c->E.length=c.length->q<c.length->at_ E q=at_ c i->wN (at_ E) c.length q->(HU (at_ c) c.length i->wk (at_ E) c.length)->Fr (inner p m) h o->R (.T #[]) o):
  Cl 484 #[.P a 0,.I (i:Int)] h R:=by
 refine vQ ⟨Zd h a p cap m c i,λi _=>i.toNat,⟨c,g,i,rfl,hi,rfl,M,V,.refl _,K,.inl ⟨rfl,rfl⟩,rfl,Fr.refl _ _⟩,?_⟩;rintro i1 u ⟨e,O,q,rfl,y,x,d,P,A,s,kd,w,t⟩;rw[Vo ae];refine ay.of λJ v=> ?_;have k:q<e.length:=ae
 have H:(q - 1)/2<e.length:=ae
 have S: ∀n,Fr No u n->(q=0\/le (at_ e ((q - 1)/2)) (at_ e q))->J false n:=by intro n f c';subst v;simp only[aV,bQ];have hd:=Sw s c';refine hk n e O q (d.calm f) P A x y w hd (λk0=> ?_) (Fr.on t f);rcases kd with⟨D,I⟩|kd;subst D I;exact qJ hd k0;exact qJ hd kd
 by_cases T:q=0;subst T;exact S u (Fr.refl _ _) (.inl rfl);have a':(q:Int)>0:=ae
 simp only[a',di,cI,aG];obtain⟨ad,rfl⟩:=d.some ae;refine⟨_,_,_,d.hd,ae,av.2 ⟨_,d.c0 k,_,d.c1 k,_,_,_,d.hd,ae,av.2 ⟨_,d.c0 H,_,d.c1 H,Ki λn f=>⟨_,rfl,(d.calm f).hd,(d.calm f).hd,?_⟩⟩⟩⟩;by_cases r:lt (at_ e q) (at_ e ((q - 1)/2));rw[show decide (lt ((at_ e q).1,(at_ e q).2) ((at_ e ((q - 1)/2)).1,(at_ e ((q - 1)/2)).2))=true from aq r];subst v;rw[ah rfl,aG];have j:=d.calm f;refine ay.of λJ1 U=>⟨_,_,_,j.hd,ae,av.2 ⟨_,j.c0 k,_,j.c1 k,_,_,_,j.hd,ae,av.2 ⟨_,j.c0 H,_,j.c1 H,(Us (λo F=> ?_) (λb b' o X Z sb d' F=> ?_))⟩⟩⟩;have l:=j.calm F;exact⟨⟨l.c0 H,l.c1 H,trivial⟩,l.hd,⟨l.c0 k,l.c1 k,trivial⟩,l.hd⟩;subst U;refine M6 (j.calm F) P k H ae X Z (λhc=> ?_) λh5 Q B C L=>⟨⟨rB e q ((q - 1)/2),Q,(q - 1)/2,rfl,ae,by rw[zH];exact x,B,C,(wO k H).trans A,?_⟩,?_⟩;have:=j.lt (.inr hc);omega;have z:=Sx s ae y rfl r;rw[GJ k H];refine⟨z.1,.inr z.2,?_,Fr.tt t (Fr.no f (Fr.no F L))⟩;rw[<-w];unfold px;rw[fe,ah rfl];grind;rw[show decide (lt ((at_ e q).1,(at_ e q).2) ((at_ e ((q - 1)/2)).1,(at_ e ((q - 1)/2)).2))=false from aA r];exact S n f (.inr r)
def QC{J:iT}(M:Mem h a p cap m c g){C:Nat}(z:b<c.length)(S:c.length<=C->J b h)(U:C<c.length->lt (at_ c C) (at_ c b)->∀H,Fr No h H->J C H)(V:C<c.length->¬lt (at_ c C) (at_ c b)->∀H,Fr No h H->J b H):
  ay (λ(X:Bool) (y:Heap)=>
   ay (λ(P:Int) (Q:Heap)=>J P Q)
   (λs=>
    if X=true then
     s (C:Int) y
    else
     s (b:Int) y))
  (λr=>
   ∃(D:bH)(t B:Nat),aQ h (AA a 0)=some (.L D t B)/\
   if(decide ((C:Int)<(t:Int)))=true then
    ∃(l:bH)(T E:Nat),aQ h (AA a 0)=some (.L l T E)/\
    ((0:Int)<=(C:Int)/\(C:Int)<(T:Int))/\
    aJ l λA=>
    ∃(F:Int),aQ h (A.add (Int.toNat (C:Int)*2))=some (.I F)/\∃(G:Int),aQ h ((A.add (Int.toNat (C:Int)*2)).add 1)=some (.U G)/\
    ∃(o:bH)(n I:Nat),aQ h (AA a 0)=some (.L o n I)/\
    ((0:Int)<=(b:Int)/\(b:Int)<(n:Int))/\
    aJ o λu=>
    ∃(K:Int),aQ h (u.add (Int.toNat (b:Int)*2))=some (.I K)/\∃(L:Int),aQ h ((u.add (Int.toNat (b:Int)*2)).add 1)=some (.U L)/\
    Cl 545 #[.agg #[.I F,.U G],.agg #[.I K,.U L]] h λv d=>
    ∃(O:Bool),v=.B O/\
    aQ d (AA a 0)=some (.L o n I)/\
    aQ d (AA a 0)=some (.L l T E)/\
    aQ d (AA a 0)=some (.L D t B)/\
    r O d
   else
    r false h):=by
 refine ay.of λZ x=>⟨_,_,_,M.hd,?_⟩;by_cases e:C<c.length;have k:(C:Int)<(c.length:Int):=ae
 simp only[k,di,cI,aG];obtain⟨ad,rfl⟩:=M.some ae;refine⟨_,_,_,M.hd,ae,av.2 ⟨_,M.c0 e,_,M.c1 e,_,_,_,M.hd,ae,av.2 ⟨_,M.c0 z,_,M.c1 z,Ki λw f=>⟨_,rfl,(M.calm f).hd,(M.calm f).hd,(M.calm f).hd,?_⟩⟩⟩⟩;subst x;by_cases j:lt (at_ c C) (at_ c b);rw[show decide (lt ((at_ c C).1,(at_ c C).2) ((at_ c b).1,(at_ c b).2))=true from aq j];simp only[cI,ay];exact U e j w f;rw[show decide (lt ((at_ c C).1,(at_ c C).2) ((at_ c b).1,(at_ c b).2))=false from aA j];simp only[aV,bQ,ay];exact V e j w f;have k: ¬(C:Int)<(c.length:Int):=ae
 subst x;simp only[k,fC,aV,bQ,ay];exact S ae
def Ze(H:Heap)(a:Nat)(p:bH)(cap m:Nat)(e:List E)(i:Int)(h:Heap):Prop:=
 ∃c g q,i=((q:Nat):Int)/\q<e.length/\c.length=e.length/\Mem h a p cap m c g/\iY c g/\c.Perm e/\wN (at_ c) e.length q/\Fr (inner p m) H h
def Yc(H:Heap)(c:List E)(q:Nat)(B t:Int)(h:Heap):Prop:=
 ∃b k:Nat,B=b/\t=k/\k<=2/\b<c.length/\Fr No H h/\(b≠q->(b - 1)/2=q/\0<b/\lt (at_ c b) (at_ c q))/\∀C,0<C->C<c.length->C<=2*q+k->(C - 1)/2=q->le (at_ c b) (at_ c C)
theorem Th(M:Mem h a p cap m c g)(hP:iY c g)(hi:i<c.length)(hn:c.length<1000000)(ex:wN (at_ c) c.length i)(hk: ∀z E Q,Mem z a p cap m E Q->iY E Q->E.Perm c->E.length=c.length->wk (at_ E) c.length->Fr (inner p m) h z->R (.T #[]) z):
  Cl 485 #[.P a 0,.I (i:Int)] h R:=by
 refine sf ⟨Ze h a p cap m c,λi _=>c.length - i.toNat,⟨c,g,i,rfl,hi,rfl,M,hP,.refl _,ex,Fr.refl _ _⟩,?_⟩;rintro i1 S ⟨A,g1,q,rfl,hq,V,Z,P,X,L,O⟩;have n:q<A.length:=ae
 rw[Tf ae,Tg ae];refine⟨Yc S A q,λ_ t _=>2 - t.toNat,⟨q,0,rfl,rfl,ae,n,Fr.refl _ _,λI=>absurd rfl I,λC S T D h4=>ae⟩,?_⟩;rintro e' t T ⟨b,k,rfl,rfl,h',H,F,v,G⟩;have d:=Z.calm F;by_cases i':k<2;have b':(k:Int)<2:=ae
 simp only[b',di,cI];rw[df (n:=(k:Int)+1) ae ae];refine ay.of λd' U=>⟨ae,λf'=> ?_,λg'=> ?_,trivial⟩;obtain rfl:k=0:=ae
 refine QC d H (λl=> ?_) (λl f D u=> ?_) (λl f D u=> ?_)<;>subst U<;>refine⟨?_,bO⟩;exact⟨b,1,rfl,rfl,ae,H,F,v,λC o r y s=>ae⟩;refine⟨2*q+1,1,rfl,rfl,ae,l,Fr.tt F u,λ_=>⟨ae,ae,?_⟩,λC o r y s=> ?_⟩;by_cases e:b=q;rw[<-e];exact e▸f;exact lt_trans f (v e).2.2;have:C=2*q+1:=ae
 subst this;exact le_refl _;refine⟨b,1,rfl,rfl,ae,H,Fr.tt F u,v,λC o r y s=> ?_⟩;have:C=2*q+1:=ae
 subst this;exact f;obtain rfl:k=1:=ae
 refine QC d H (λl=> ?_) (λl f D u=> ?_) (λl f D u=> ?_)<;>subst U<;>refine⟨?_,bO⟩;exact⟨b,2,rfl,rfl,ae,H,F,v,λC o r y s=>G C o r ae s⟩;refine⟨2*q+2,2,rfl,rfl,ae,l,Fr.tt F u,λ_=>⟨ae,ae,?_⟩,λC o r y s=> ?_⟩;by_cases e:b=q;rw[<-e];exact e▸f;exact lt_trans f (v e).2.2;by_cases e:C=2*q+2;subst e;exact le_refl _;exact le_trans (le_of_lt f) (G C o r ae s);refine⟨b,2,rfl,rfl,ae,H,Fr.tt F u,v,λC o r y s=> ?_⟩;by_cases e:C=2*q+2;subst e;exact f;grind;obtain rfl:k=2:=ae
 simp only[show¬((2:Nat):Int)<2 by omega,fC,aV,bQ];by_cases e:b=q;subst e;simp only[bne_self_eq_false,aV,bQ];refine hk T A g1 d P X V (qJ L λj J j2 K=>G j J ae ae K) (Fr.on O F);obtain⟨b1,b2,b3⟩:=v e;have I:((b:Int) !=(q:Int))=true:=by simp;omega
 simp only[I,cI,aG];obtain⟨ad,rfl⟩:=d.some ae;refine ay.of λJ1 a'=> ?_;refine⟨_,_,_,d.hd,ae,av.2 ⟨_,d.c0 n,_,d.c1 n,_,_,_,d.hd,ae,av.2 ⟨_,d.c0 H,_,d.c1 H,?_⟩⟩⟩;refine Us (λz B=> ?_) (λx x' z hx c' sx j' B=> ?_);have w:=d.calm B;exact⟨⟨w.c0 H,w.c1 H,trivial⟩,w.hd,⟨w.c0 n,w.c1 n,trivial⟩,w.hd⟩;subst a';have M3:=d.calm B;refine M6 M3 P n H (λx=>e x.symm) hx c' (λl=> ?_) λh5 g5 M5 P5 f5=>⟨⟨rB A q b,g5,b,rfl,ae,by rw[zH];exact V,M5,P5,(wO n H).trans X,?_,Fr.tt O (Fr.no F (Fr.no B f5))⟩,?_⟩;have:=d.lt (.inr l);omega;rw[GJ n H];exact N1 L b1 b2 ae b3 λj J j2 K=>G j J ae ae K;grind

end cB
end
section
open Go.mj
namespace cB
variable {h:Heap} {a m cap:Nat} {p:bH} {b:List E} {g:Int→Option Value} {R:dH} {S:Nat→Prop} {L:List E}
def tI:jL Tryz.prog 49 3 1 8 (.I 0):=⟨zzkr,zzkr,rfl⟩
def Good(L:List E):Prop:= ∀e∈L,1<=e.1/\e.1<=2^40/\0<=e.2/\e.2<=2^40
def Al(h:Heap)(a:Nat)(S:fZ)(L:List E):Prop:=
 ∃p cap m b g,Mem h a p cap m b g/\iY b g/\wk (at_ b) b.length/\b.Perm L/\kA L/\Good L/\∀c,S c↔Kh a p m c
def Al.lt(A:Al h a S L){c:Nat}(d:S c):c<h.size:=by have⟨p,cap,m,b,g,M,_,_,_,_,_,H⟩:=A;exact M.lt ((H c).1 d)
def Al.frame{Q:fZ}{d:Heap}(A:Al h a S L)(i:Fr Q h d)(j: ∀c,S c->¬Q c):Al d a S L:=by have⟨p,cap,m,b,g,M,P,H,k,s,G,e⟩:=A;exact⟨p,cap,m,b,g,M.frame i λc f=>j c ((e c).2 f),P,H,k,s,G,e⟩
def Al.sorted(A:Al h a S L):kA L:=by have⟨p,cap,m,b,g,M,P,H,d,s,G,c⟩:=A;exact s
def Al.nodup(A:Al h a S L):(keys L).Nodup:=by have⟨p,cap,m,b,g,M,P,H,c,s,G,d⟩:=A;exact(keys_perm c).nodup_iff.1 P.1
def fJ(M:Mem h a p cap m b g)(H:R (.B true) h):Cl 482 #[.P a 0] h R:=
 se ⟨some m,M.mp,H⟩
def ft(k: ∀a S H,Al H a S []->(∀c,S c->h.size<=c)->Fr No h H->R (.P a 0) H):Cl 346 #[] h R:=by refine Ej ?_;rintro B n rfl rfl l o rfl rfl;have f:Fr No (h.push (.map #[] 0)) ((h.push (.map #[] 0)).push (.C #[.Z,.map (some h.size)] 563)):=Fr.push _ _;refine k _ (Kh (h.push (.map #[] 0)).size none h.size) _ ⟨none,0,h.size, [],λ_=>none,⟨aU,.nil rfl rfl rfl rfl,(nR.push h).frame f id,?_⟩,⟨.nil,?_,λ_ _=>rfl⟩,?_,.refl _,.nil,?_,λ_=>dY⟩ ?_ (Fr.tt (Fr.push _ _) f);rintro⟨_,e,_⟩;cases e;simp;intro j _ i;simp at i;intro e d;cases d;rintro c (rfl|rfl|⟨_,e,_⟩);simp;omega;cases e
def LI(A:Al h a S L)(c:R (.I (L.length:Int)) h):Cl 481 #[.P a 0] h R:=by have⟨p,cap,m,b,g,M,P,H,d,s,G,e⟩:=A;refine uk ⟨_,_,_,M.hd,?_⟩;rw[d.length_eq];exact c
def hd(L:List E):E:=L.headD (0,0)
def M7(A:Al h a S L)(d:R (.T #[.I (hd L).1,.U (hd L).2,.B (!L.isEmpty)]) h):Cl 426 #[.P a 0] h R:=by
 refine si (LI A ⟨_,rfl,?_⟩);have⟨p,cap,m,b,g,M,P,H,f,s,G,l⟩:=A;cases L with
 |nil=>exact d
 |cons e r=>have i:=f.length_eq;simp only[bw]at i;obtain⟨k,rfl⟩:=M.some ae;have⟨n,j⟩:=P0 f s H ae;have c:=M.c0 (i:=0) ae;have C:=M.c1 (i:=0) ae;rw[((List.cons.inj j).1.symm)]at c C;refine⟨_,_,_,M.hd,ae,av.2 ⟨_,c,_,_,_,M.hd,ae,av.2 ⟨_,C,d⟩⟩⟩
def Vq{t:TypeId}{z Z x X:Value}{K:Nat->cM}(k: ∀B H,H[B]? =some (.C #[x,X] t (0,0))->h.size<=B->Fr No h H->K B H):
  aT h (.C #[z,Z] t) λB e=>aI e (AA B 0) x λf=>aI f (AA B 1) X λd=>K B d:=by
 rintro B e rfl rfl;refine aY aU bO λf C s l=>aY C bO λd i o n=>k _ d i (bf _) ⟨?_,λc j _=> ?_⟩;rw[o,s];simp;rw[n c ae,l c ae];exact(Fr.push (S:=λ_=>False) h _).2 c j id
theorem CD(j':Al h a S L)(hn:L.length<1000000)(k:Int)(T:k∈keys L->∀f,Al f a S (gO L k)->Fr S h f->R (.I 0) f)(k2:k∉keys L->R (.I 4) h):Cl 427 #[.P a 0,.I k] h R:=by
 obtain⟨p,cap,m,b,g,M,P,H,y,so,gd,hS⟩:=j';have w':=y.length_eq;refine sg (fJ M ⟨true,rfl,?_⟩);simp only[Bool.not_true,aV,bQ];have w:=HM tm M.map k;by_cases v:k∈keys b
 .have T:=T ((keys_perm y).mem_iff.1 v);clear k2;obtain⟨j,O,rfl⟩:=mem_keys v;obtain⟨n,l⟩: ∃n,b.length=n+1:=⟨b.length - 1,ae⟩;rw[P.2.1 j O]at w;refine⟨some m,M.mp,(j:Int),true,w,?_⟩;simp only[Bool.not_true,aV,bQ];obtain⟨B,o,rfl⟩:=M.own.some (by rw[mD];omega);refine⟨_,_,_,M.hd,_,_,_,M.hd,?_⟩;rw[show IntKind.wrap .i64 ((b.length:Int) - 1)=(n:Int) by rw[eY];omega];simp only[aG];refine⟨ae,av.2 ⟨_,M.c0 (i:=n) ae,_,M.c1 (i:=n) ae,Vq λC h4 hb sb f4=> ?_⟩⟩;have r:=M.calm f4;have v':=M.own.le;have r':bV (some ((AA B o):Addr)) cap 0 2=some (AA B o):=by
   unfold bV;split;rfl;rfl
  refine⟨_,_,_,r.hd,ae,aY r.cV bO λI c5 s5 k5=> ?_⟩;have F:Fr (λc=>c=a) h4 I:=Fr.of_eq s5 k5;have tl:(b.take n).length=n:=by grind
  have s:Mem I a (Sa B o) cap m (b.take n) g:=by refine⟨?_,?_,r.map.frame F (λe=>M.am e.symm),M.ne⟩;grind;have h':=(r.own.frame F (λc d e=>M.ne (e▸d))).sub (l:=0) (u:=n) ae ae;rw[r',Kg,Nat.zero_mul,List.drop_zero]at h';rw[tl];exact h'
  refine⟨some m,s.mp,AQ tm s.map λu m6 s6 k6=>⟨rfl,?_⟩⟩;have t:Fr (λc=>c=m) I u:=Fr.of_eq s6 k6;have z:Mem u a (Sa B o) cap m (b.take n) (λi'=>if i'=(at_ b j).1 then none else g i'):=
   ⟨t.get s.cV M.am,s.own.frame t (λc d e=>M.pm (e▸d)),m6,M.ne⟩
  have c':Fr (Kh a (Sa B o) m) h u:=Fr.no f4 (F.trans t (λ_ _ e=> .inl e) (λ_ _ e=> .inr (.inl e)));have K: ∀c,Kh a (Sa B o) m c->C≠c:=λc d e=>by have:=M.lt d;omega
  have J:=t.get (F.get hb (K a (.inl rfl))) (K m (.inr (.inl rfl)));refine ay.of λk' hJ=> ?_;have done: ∀f E G,Mem f a (Sa B o) cap m E G->iY E G->wk (at_ E) E.length->E.Perm (cut b n j)->Fr (Kh a (Sa B o) m) h f->k' f:=by intro f E G M' P' V s' f';subst hJ;exact T f ⟨_,_,_,E,G,M',P',V,s'.trans (P1 l O P.1 y),so.drop _,λe he=>gd e (bW.1 he).1,hS⟩ (f'.mono λc _ d=>(hS c).2 d)
  have x:=N4 P l O;have cl:=MB (j:=j) l;by_cases i:j<n
  .have Q:(j:Int)<(n:Int):=ae
   simp only[i,cI]at x;simp only[Q,di,cI];have D:(b.take n).set j ((at_ b n).1,(at_ b n).2)=cut b n j:=by unfold cut;rw[ah i]
   refine⟨_,aj J,_,aj J,wT z ae λh8 M8 f8=>⟨rfl,?_⟩⟩;rw[D]at M8;have ex:=P3 l i H;refine WG M8 x ae ae (by grind) λh9 o' g9 q A P9 u' l9 q9 m' a' _ f9=>⟨rfl,some m,A.mp,?_⟩;have U: ¬inner (Sa B o) m C:=λd=>K C (.inr d) rfl;have e':=f9.get (f8.get J U) U;have g':=Gv tm A.map (at_ b n).1;have e9:at_ o' q=at_ b n:=by rw[m',tV l i,ah rfl]
   have d':=P9.2.1 q ae;rw[e9]at d';rw[d']at g';refine⟨_,aj e',(q:Int),g',?_⟩;rw[<-l9]at a';refine Th A P9 ae ae a' λq' n' p' Z l' t' l10 X b'=>⟨rfl,aj (b'.get e' U),Z.mp,?_⟩;rw[<-l10]at X;exact done q' n' p' Z l' X (t'.trans u') (c'.trans (Fr.tt f8 (Fr.tt f9 b')) bD (λ_ _ d=> .inr d))
  .have Q: ¬(j:Int)<(n:Int):=ae
   simp only[i,bQ]at x;simp only[Q,fC,aV,bQ];have D:b.take n=cut b n j:=by unfold cut;rw[af i]
   rw[D]at z;have V:=P4 l i H;exact done u _ _ z x (by grind) (.refl _) c'
 rw[P.2.2 k v]at w;exact⟨some m,M.mp,0,false,w,k2 λhx=>v ((keys_perm y).mem_iff.2 hx)⟩
def may(k t:Int):Bool:=decide (1<=k) && decide (k<=1099511627776) && decide (t<=1099511627776)
def CE{k t:Int}:may k t=true↔1<=k/\k<=2^40/\t<=2^40:=by simp[may,and_assoc]
def Yd(L:List E)(k t:Int):List E:=Sy (gO L k) (k,t)
def lY(n:Int)(e:E):Bool:=decide (e.2<=n)
def due(L:List E)(n:Int):List E:=L.takeWhile (lY n)
def rest(L:List E)(n:Int):List E:=L.dropWhile (lY n)
def kc(L:List E):List Value:=(keys L).map (.int .i64 ·)
theorem Ou{D T:List E}{n:Int}(hd: ∀e∈D,lY n e=true)(H: ∀e r,T=e::r->lY n e=false):due (D++T) n=D/\rest (D++T) n=T:=by
 unfold due rest;induction D with
 |nil=>
  cases T with
  |nil=>simp
  |cons e r=>simp_all
 |cons d D i=>simp_all
def WH(H:Heap)(a:Nat)(S:fZ)(L:List E)(n:Int)(o:bH)(l c:Nat)(k t:Int)(i:Bool)(h:Heap):Prop:=
 ∃D T,L=D++T/\(∀e∈D,lY n e=true)/\Al h a S T/\k=(hd T).1/\t=(hd T).2/\i= !T.isEmpty/\l=D.length/\Own h o l c 1 (kc D)/\(∀x,aN o x->H.size<=x)/\Fr S H h
theorem Iv(A:Al h a S L)(hn:L.length<999999)(n:Int)(X: ∀i P C,Al i a S (rest L n)->Own i P (due L n).length C 1 (kc (due L n))->(∀c,aN P c->h.size<=c)->Fr S h i->R (.slice P (due L n).length C) i):
  Cl 364 #[.P a 0,.U n] h R:=by
 refine sj (M7 A ⟨_,_,_,rfl,?_⟩);refine⟨WH h a S L n,λ_ l _ _ _ _ _=>L.length - l,⟨[],L,rfl,(λ_ T=>by cases T),A,rfl,rfl,rfl,rfl,.nil rfl rfl rfl rfl,(λc ⟨_,e,_⟩=>by cases e),Fr.refl _ _⟩,?_⟩;rintro b' l c j' k' is H ⟨D,U,o,u,B,rfl,rfl,rfl,rfl,O,z,F⟩;refine ay.of λJ v=> ?_;have stop:(∀e r,U=e::r->lY n e=false)->J false H:=λht=>by subst v;simp only[aV,bQ];obtain⟨E,G⟩:=Ou u ht;rw[<-o]at E G;rw[<-E];rw[<-E]at O;exact X H b' c (by grind) O z F
 cases U with
 |nil=>grind
 |cons e U=>
  simp only[List.isEmpty_cons,Bool.not_false,cI];by_cases j:e.2<=n;rw[show decide ((hd (e::U)).2<=n)=true from aq j];subst v;simp only[cI];rintro f' h4 rfl rfl;have h':L.length=D.length+(U.length+1):=by rw[o];simp
  have f:Fr No H (H.push (.C #[.I (hd (e::U)).1] 3)):=Fr.push _ _;have c':Row (H.push (.C #[.I (hd (e::U)).1] 3)) (Sa H.size 0) (kc [e]):=.inr ⟨_,rfl,dy aU λi' d' V=>by rw[aX];simpa[kc,keys,hd]using V⟩;have sz:H.size<=(H.push (.C #[.I (hd (e::U)).1] 3)).size:=f.1;refine du tI (eT:=3) zzkr (O.frame f λ_ _=>id) c' rfl (λd' w=>by simp[kc,keys]at w;subst w;rfl) ae ae λP C Q y _ s M=>⟨_,_,_,rfl,?_⟩;have I:kc D++kc [e]=kc (D++ [e]):=by simp[kc,keys]
  rw[I]at y;have g': ∀{c},S c->c<h.size:=λd=>A.lt d;have q:=(B.frame f λ_ _=>id).frame s (λc d hx=>by grind);have a': ∀c,aN P c->h.size<=c:=λc d=>by rcases M c d with hx|hx;exact z c hx;have:=F.1;omega
  have K:Fr S h Q:=F.trans (Fr.no f s) bD (λc d hx=>by grind);refine CD q (by simp;omega) _ (λ_ h6 k t=>⟨_,rfl,?_⟩) (λZ=>absurd (by exact dz) Z);rw[show gO (e::U) (hd (e::U)).1=U from Li q.nodup]at k;refine M7 k ⟨_,_,_,rfl,⟨D++ [e],U,by rw[o];simp,?_,k,rfl,rfl,rfl,bO,?_,a',Fr.tt K t⟩,?_⟩;intro x hx;rcases cG.1 hx with hx|hx;exact u x hx;simp at hx;subst hx;exact aq j;exact y.frame t λc d hx=>by grind
  omega;rw[show decide ((hd (e::U)).2<=n)=false from aA j];exact stop λe' r x=>by cases x;exact aA j

end cB
end
section
variable {h:Heap} {R:dH}
variable {b S s:Nat} {a:bH}
def BX(d:Cl 346 #[] h λv H=>Vp v λt=>aT H (.C #[.Z,.I 1,.I 0,.I 0,.I 0,.Q t] 489) λb c=>R (.P b 0) c):Cl 278 #[] h R:=aD [] d
def uq(H: ∃t,Cc h b 5 (.Q t)/\R (.B (!t.isNone)) h):Cl 340 #[.P b 0] h R:=aD [] H
def ur{num:Int}(d:aT h (.C #[.I num] 3) λB H=>Hl H b 0 λf e T=>Cl 429 #[.L f e T,.func (.func 430) #[] #[.P B 0]] H λv c=> ∃t,v=.I t/\R (.I t) c):Cl 368 #[.P b 0,.I num] h R:=aD [] d
def qQ{x:Int}{X:Int}{f:bH}{e d:Nat}{g:Int}{c:Nat}(i:aT h (.C #[.I x,.I X,.L f e d,.U g] 434) λb H=>Hi H b 0 λT=> ∃t,Cc H c 0 (.I t)/\R (.B (T==t)) H):Cl 430 #[.agg #[.I x,.I X,.L f e d,.U g],.P c 0] h R:=aD [] i
def vR{i:Int} (r:aT h (.C #[.I 0,.I 0,.Z,.U 0] 434) λl H=>Hl H b 0 λb' a' f'=>Bd i a'/\aJ b' λA=>aR.LD H (A.add (toNat i*4)) λC D G F E I=>aT H (.C #[.I 0,.I 0,.Z,.U 0] 434) λB q=>aR.ST q (AA B 0) C D G F E I λd=>Hp d b 5 λJ=>Hi d B 0 λK=>Cl 427 #[.Q J,.I K] d λc' e=>Vi c' λe'=>Hl e b 0 λj o t=>((0:Int)<=i/\i<=(t:Int))/\Hl e b 0 λk c T=>((0:Int)<=wrap .i64 (i+1)/\wrap .i64 (i+1)<=(c:Int))/\aT e (.C #[.L (bV j t 0 4) ((toNat i) - 0) (t - 0),.slice (bV k T (toNat (wrap .i64 (i+1))) 4) (c - (toNat (wrap .i64 (i+1)))) (T - (toNat (wrap .i64 (i+1))))] 431) λp f=>Cc f b 0 (.L k c T)/\Cc f b 0 (.L j o t)/\Cl 428 #[.L (Sa p 0) 2 2] f λd' g=>Vl d' λO M L=>Cc g b 0 (.L k c T)/\Cc g b 0 (.L j o t)/\aI g (AA b 0) (.L O M L) λm=>aR.LD m (AA B 0) λP Q X V U Z=>aR.ST m (AA l 0) P Q X V U Z λn=>aR.LD n (AA l 0) λu v y x w z=>R (.agg #[.I u,.I v,.L y x w,.U z]) n):Cl 367 #[.P b 0,.I i] h R:=aD [(5,λ_=>pN 7),(7,λ_=>pN 19)] r
def uu (q:aT h (.C #[.I 0,.I 0,.Z,.U 0] 434) λB n=>Cl 340 #[.P b 0] n λv H=> ∃m,v=.B m/\ite (!m) (aR.ST H (AA B 0) 0 0 none 0 0 0 λc=>aR.LD c (AA B 0) λr x I E A L=>R (.T #[.agg #[.I r,.I x,.L I E A,.U L],.I 6]) c) (∃Q t P,Cc H b 0 (.L Q t P)/\ite (((t:Nat):Int)==0) (aR.ST H (AA B 0) 0 0 none 0 0 0 λd=>aR.LD d (AA B 0) λu y J F C M=>R (.T #[.agg #[.I u,.I y,.L J F C,.U M],.I 4]) d) (∃T,Cc H b 2 (.I T)/\aI H (AA b 2) (.I (wrap .i64 (T+1))) λo=>Cl 367 #[.P b 0,.I 0] o λV p=> ∃f g k j i l,V=.agg #[.I f,.I g,.L k j i,.U l]/\aR.ST p (AA B 0) f g k j i l λe=>aR.LD e (AA B 0) λw z K G D O=>R (.T #[.agg #[.I w,.I z,.L K G D,.U O],.I 0]) e))):Cl 377 #[.P b 0] h R:=aD [] q
def uv{n:Int} (E:Cl 340 #[.P b 0] h λv d=>Vb v λU=>ay (λ(K:bH) (G F:Nat) x=>R (.L K G F) x) (λJ=>ite U (Hp d b 5 λL=>Cl 364 #[.Q L,.U n] d λV y=>Vl V λM T b'=> ∃(I:bH->Nat->Nat->iT)(m:bH->Nat->Nat->iW),I none 0 0 0 y/\∀c O o t H,I c O o t H->ite (decide (t<(T:Int))) (Bd t T/\aJ M λA=>iw H (A.add (toNat t*1)) λP=>Cl 368 #[.P b 0,.I P] H λX z=>Vi X λQ=>Cl 367 #[.P b 0,.I Q] z λZ C=> ∃g i l k j p,Z=.agg #[.I g,.I i,.L l k j,.U p]/\aT C (.C #[.I g,.I i,.L l k j,.U p] 434) λB D=>ij (Builtin.append_ #[431,431] 431 #[.L c O o,.L (Sa B 0) 1 1]) D λa' e=>Vl a' λu r q=> ∃w,Cc e b 4 (.I w)/\aI e (AA b 4) (.I (wrap .i64 (w+1))) λf=>(I u r q (wrap .i64 (t+1)) f/\m u r q (wrap .i64 (t+1)) f<m c O o t H)) (J c O o H)) (J none 0 0 d))):Cl 304 #[.P b 0,.U n] h R:=aD [(7,.join [(5,sS)]),(11,.loop [(5,sS),(17,sI)])] E
def hO{f:Nat} (d: ∃(I:iT)(m:iW),I 0 h/\∀t H,I t H->ite (decide (t<(S:Int))) (Bd t S/\aJ a λA=>aR.LD H (A.add (toNat t*4)) λe g k j i l=>Cl 430 #[.agg #[.I e,.I g,.L k j i,.U l],.P f 0] H λv c=> ∃T,v=.B T/\ite T (R (.I t) c) ((I (wrap .i64 (t+1)) c/\m (wrap .i64 (t+1)) c<m t H))) (R (.I (-1)) H)):Cl 429 #[.L a S s,.func (.func 430) #[] #[.P f 0]] h R:=aD [(6,.loop [(8,sI)])] d
def iP{g:bH}{d B:Nat} (z: ∃(I:Int->iT)(M:Int->iW),I 0 0 h/\∀size t H,I size t H->ite (decide (t<(d:Int))) (ay (λ(q:Int) m=>(I q (wrap .i64 (t+1)) m/\M q (wrap .i64 (t+1)) m<M size t H)) (λJ=>Bd t d/\aJ g λA=>oM H (A.add (toNat t*1)) λO r L=>ay (λx=>J (wrap .i64 (size+(r:Int))) x) (λu=>ite (decide ((wrap .i64 (size+(r:Int)))<0)) (False) (u H)))) (Cl 486 #[.Z,.I size] H λv y=>Vl v λE D C=> ∃(i:bH->Nat->Nat->iT)(p:bH->Nat->Nat->iW),i E D C 0 y/\∀f e n T c,i f e n T c->ite (decide (T<(d:Int))) (Bd T d/\aJ g λw=>oM c (w.add (toNat T*1)) λK G F=>ij (Builtin.append_ #[431,431] 431 #[.L f e n,.L K G F]) c λV o=> ∃l k j,V=.L l k j/\(i l k j (wrap .i64 (T+1)) o/\p l k j (wrap .i64 (T+1)) o<p f e n T c)) (R (.L f e n) c))):Cl 428 #[.L g d B] h R:=aD [(8,.loop [(3,sI),(11,sI)]),(16,.join [(3,sI)]),(23,.join []),(33,.loop [(6,sS),(27,sI)])] z
def jb{n:Int} (e:ay (λH=>ay (λ(i:bH) (g f:Nat) c=>R (.L i g f) c) (λj=>ite (decide ((wrap .i64 (n - (wrap .i64 ((s:Int) - (S:Int)))))>0)) (((0:Int)<=(s:Int)/\(s:Int)<=(s:Int))/\ij (Builtin.append_ #[431,3] 431 #[.L (bV a s 0 4) ((toNat (s:Int)) - 0) (s - 0),.I (wrap .i64 (n - (wrap .i64 ((s:Int) - (S:Int)))))]) H λv d=>Vl v λT k t=>((0:Int)<=(S:Int)/\(S:Int)<=(t:Int))/\j (bV T t 0 4) ((toNat (S:Int)) - 0) (t - 0) d) (j a S s H))) (λJ=>ite (decide (n<0)) (False) (J h))):Cl 486 #[.L a S s,.I n] h R:=aD [(5,.join []),(13,.join [(0,sS)])] e

end
section
open Go.Fields Go.mj
namespace nz
open gD
variable {h H:Heap} {b:Nat} {X:Ft} {R:dH} {p:bH} {c d i:Nat} {L:List E}
structure It where
 num:Nat
 owner:Int
 d:cO
 gZ:Nat
structure IV where
 num:Nat
 owner:Int
 v:BV
 gZ:Nat
def IV.abs(x:IV):It:=⟨x.num,x.owner,x.v.b,x.gZ⟩
abbrev jc(x:IV):List Value:= [.int .i64 (x.num:Int),.int .i64 x.owner,x.v.val,.int .u64 (x.gZ:Int)]
def kJ(x:IV):(jc x).length=4:=rfl
def Kj(xs:List IV): ∀v∈xs.flatMap jc,fH v=true:=by intro v f;have⟨a,_,e⟩:=List.mem_flatMap.1 f;simp at e;rcases e with rfl|rfl|rfl|rfl<;>rfl
abbrev IV.agg(x:IV):Value:=.agg #[.int .i64 (x.num:Int),.int .i64 x.owner,x.v.val,.int .u64 (x.gZ:Int)]
def tI:jL Tryz.prog 431 434 4 48 (.agg #[.I 0,.I 0,.Z,.U 0]):=⟨zzkr,zzkr,rfl⟩
def uI:Tryz.prog.underlying 431=some (.slice 434):=zzkr
def Ye:Tryz.prog.underlying 3=some (.int .i64):=zzkr
structure BS where
 items:List It
 next:Nat
 taken:Nat
 FW:Nat
 over:Nat
structure Mm (h : Heap) (b : Nat) (X : Ft) (s : BS) (L : List E) (lp : Option Addr) (lc : Nat) (xs : List IV) (a : Nat) (S : Nat → Prop) : Prop where
  cV : h[b]? = some (.cells #[.slice lp xs.length lc, .int .i64 (s.next : Int), .int .i64 (s.taken : Int), .int .i64 (s.FW : Int), .int .i64 (s.over : Int), .pointer (some ⟨a, 0, none⟩)] 489 (0, 0))
  own : Own h lp xs.length lc 4 (xs.flatMap jc)
  al : cB.Al h a S L
  abs : xs.map IV.abs = s.items
  Kk : ∀ x ∈ xs, x.v.ok h X.D
  m : ∀ c, X.M c ↔ c = b ∨ aN lp c ∨ S c
  bl : ¬ aN lp b
  bs : ¬ S b
  ls : ∀ c, aN lp c → ¬ S c
  IT : ∀ c, X.M c → ¬ X.D c
  Sg : ∀ c, X.D c → c < h.size
def Bx (h : Heap) (b : Nat) (X : Ft) (s : BS) (L : List E) : Prop := ∃ lp lc xs a S, Mm h b X s L lp lc xs a S
variable {s : BS} {lp : Option Addr} {lc a : Nat} {xs : List IV} {S : Nat → Prop}
def Mm.lt(e:Mm h b X s L lp lc xs a S)(y:Nat)(hy:X.M y\/X.D y):y<h.size:=by rcases hy with hy|hy;rcases(e.m y).1 hy with rfl|h1|h1;exact aE e.cV;exact e.own.dW h1;exact e.al.lt h1;exact e.Sg y hy
def Bx.lt(e:Bx h b X s L)(y:Nat)(f:X.M y\/X.D y):y<h.size:=by have⟨lp,lc,xs,a,S,e⟩:=e;exact e.lt y f
def Mm.frame{Q:fZ}(e:Mm h b X s L lp lc xs a S)(f:Fr Q h H)(k: ∀y,X.M y\/X.D y->¬Q y):Mm H b X s L lp lc xs a S:=
 have j:=λy g=>k y (.inl g)
 ⟨f.get e.cV (j b ((e.m b).2 (.inl rfl))),e.own.frame f (λy g=>j y ((e.m y).2 (.inr (.inl g)))),e.al.frame f (λy g=>j y ((e.m y).2 (.inr (.inr g)))),e.abs,λx l=>(e.Kk x l).frame f (λy g=>k y (.inr g)),e.m,e.bl,e.bs,e.ls,e.IT,λy g=>cN (e.Sg y g) f.1⟩
def Bx.frame{Q:fZ}(e:Bx h b X s L)(f:Fr Q h H)(g: ∀y,X.M y\/X.D y->¬Q y):Bx H b X s L:=by have⟨lp,lc,xs,a,S,e⟩:=e;exact⟨lp,lc,xs,a,S,e.frame f g⟩
def Mm.on(e:Mm h b X s L lp lc xs a S)(f:Fr No h H):Mm H b X s L lp lc xs a S:=e.frame f bD
def Mm.len(e:Mm h b X s L lp lc xs a S):xs.length=s.items.length:=by rw[<-e.abs,aM]
def fJ(e:Mm h b X s L lp lc xs a S)(f:R (.B true) h):Cl 340 #[.P b 0] h R:=
 uq ⟨_,aj e.cV,f⟩
theorem ft(j: ∀H b X,Bx H b X ⟨[],1,0,0,0⟩ []->Fr No h H->(∀y,X.M y\/X.D y->h.size<=y)->R (.P b 0) H):Cl 278 #[] h R:=by refine BX (cB.ft λa S f A G F=>⟨_,rfl,bn ?_⟩);have g:Fr No f (f.push (.C #[.Z,.I 1,.I 0,.I 0,.I 0,.P a 0] 489)):=Fr.push _ _;refine j _ f.size ⟨λy=>y=f.size\/aN none y\/S y,λ_=>False⟩ ⟨none,0, [],a,S,⟨aU,.nil rfl rfl rfl rfl,A.frame g bD,rfl,(λx k=>by cases k),λ_=>dY,(λ⟨a,e,_⟩=>by cases e),λhs=> ?_,(λy ⟨a,e,_⟩=>by cases e),λ_ _=>id,λ_ hy=>hy.elim⟩⟩ (F.tt g) ?_;have:=A.lt hs;omega;rintro y ((rfl|⟨a,e,_⟩|hs)|hy);exact F.1;cases e;grind;grind
def Vr(o:Int)(n:Nat)(t:Int):Bool:=decide (1<=o) && decide (o<=1099511627776) && decide (1<=n) && decide (n<=600) && decide (t<=1099511627776)
def LJ(xs:List It)(num:Int):Option Nat:=xs.findIdx? (λa=>decide ((a.num:Int)=num))
def Ov(xs:List It)(num:Int):Int:=match LJ xs num with|some k=>(k:Int)|none=> -1
abbrev Uu(h:Heap)(b:Nat)(num:Int):Prop:=h[b]? =some (.cells #[.int .i64 num] 3 (0,0))
def QD{b:Nat}{num:Int}(x:IV)(hid:Uu h b num)(j: jA h R (.B (decide ((x.num:Int)=num)))):Cl 430 #[x.agg,.P b 0] h R:=by refine qQ (aR.box λB e E g f=>⟨_,aj g,_,aj (f.get hid (λx=>x)),(j e f)⟩)
def QE{xs:List IV}{n m b:Nat}{num:Int}(C:Row h p (xs.flatMap jc))(B:n=xs.length)(A:xs.length<=1000000000)(hid:Uu h b num)(o: jA h R (.I (Ov (xs.map IV.abs) num))):
  Cl 429 #[.L p n m,.func (.func 430) #[] #[.P b 0]] h R:=by
 have e:Ov (xs.map IV.abs) num=idxOf (λx=>decide ((x.num)=num)) xs:=by unfold Ov LJ idxOf;rw[List.findIdx?_map];rfl
 rw[e]at o;refine hO (PY (λx=>decide ((x.num)=num)) (λt g K=>((0)<=t/\t<((n)))/\aJ p λa=>aR.LD g (a.add (Int.toNat t*4)) λx y z l c w=>Cl 430 #[.agg #[.I x,.I y,.L z l c,.U w],.P b 0] g λv r=> ∃t,v=.B t/\K t r) B A (λk g x K q f u=> ?_) o);have lt:=(aS.1 q).1;have j:=C.frame f bD;obtain⟨a,rfl⟩:=j.any kJ;exact⟨ae,av.2 (aR.vy (j.gL kJ q) (QD x (f.get hid id) λG F=>⟨_,rfl,u G (f.tt F)⟩))⟩
def CG{num:Int}(e:Mm h b X s L lp lc xs a S)(l:s.items.length<=1000000000)(k: jA h R (.I (Ov s.items num))):Cl 368 #[.P b 0,.I num] h R:=by refine ur (bn ?_);have F:Fr No h (h.push (.C #[.I num] 3)):=Fr.push _ _;have f:=e.on F;have m:=e.len;refine⟨_,_,_,aj f.cV,QE f.own.iy rfl ae aU λj g=>⟨_,rfl,?_⟩⟩;rw[e.abs];exact k j (F.tt g)
theorem Ti{n:Nat}(r:n<=1000000)(g: ∀P C H,Own H P 0 C 4 []->Fr No h H->(∀y,aN P y->h.size<=y)->R (.L P 0 C) H):
  Cl 486 #[.Z,.I (n:Int)] h R:=by
 refine jb ?_;have k:IntKind.wrap .i64 (((0:Nat)) - ((0:Nat)))=0:=rfl;have E:IntKind.wrap .i64 ((n) - 0)=(n):=by rw[eY];omega
 rw[k,E];by_cases l:n=0;subst l;exact g none 0 h (.nil rfl rfl rfl rfl) (Fr.refl _ _) (λy ⟨a,e,_⟩=>by cases e);have q:(n:Int)>0:=ae
 simp only[q,di,cI];refine⟨ae,(Jr tI Ye ae ae ae λj H o m f=>⟨_,_,_,rfl,ae,?_⟩)⟩;rw[iV];exact g _ j H o f (λy ⟨a,e,E⟩=>by grind)
theorem GV{z A:bH}{M D Q I:Nat}{u w:List IV}(K:Row h (Sa c 0) [.L z M D,.L A Q I])(r1:Row h z (u.flatMap jc))(V:M=u.length)(r2:Row h A (w.flatMap jc))(Z:Q=w.length)(hl:u.length+w.length<=1000)(hk: ∀P C H,Own H P (u++w).length C 4 ((u++w).flatMap jc)->Fr No h H->(∀y,aN P y->h.size<=y)->R (.slice P (u++w).length C) H):
  Cl 428 #[.L (Sa c 0) 2 2] h R:=by
 subst V Z;have B: ∀{g:Heap},Fr No h g->aQ g (((AA c 0):Addr).add (0*1))=some (.L z u.length D):=λf=>(K.frame f bD).cell rfl;have E: ∀{g:Heap},Fr No h g->aQ g (((AA c 0):Addr).add (1*1))=some (.L A w.length I):=λf=>(K.frame f bD).cell rfl;refine iP ⟨λsize i g=>g=h/\((i=0/\size=0)\/(i=1/\size=(u.length))\/(i=2/\size=((u.length+w.length)))),λ_ i _=>2 - i.toNat,⟨rfl,.inl ⟨rfl,rfl⟩⟩,?_⟩;rintro size i g ⟨rfl,v⟩;rcases v with⟨rfl,rfl⟩|⟨rfl,rfl⟩|⟨rfl,rfl⟩;rw[ah (by rfl)];refine ay.of λJ t=>⟨ae,av.2 ⟨_,_,_,B (Fr.refl _ _),ay.of λT j=> ?_⟩⟩;have e:IntKind.wrap .i64 (0+((u.length)))=(u.length):=by rw[eY];omega
 rw[e]at j;rw[e,af bO];subst j;subst t;exact⟨⟨rfl,.inr (.inl ⟨rfl,rfl⟩)⟩,by show 2 - Int.toNat 1<2 - Int.toNat 0;decide⟩;rw[ah (by rfl)];refine ay.of λJ t=>⟨ae,av.2 ⟨_,_,_,E (Fr.refl _ _),ay.of λT j=> ?_⟩⟩;have e:IntKind.wrap .i64 ((u.length)+((w.length)))=((u.length+w.length:Nat)):=by rw[eY];omega
 rw[e]at j;rw[e,af (by grind)];subst j;subst t;exact⟨⟨rfl,.inr (.inr ⟨rfl,rfl⟩)⟩,by show 2 - Int.toNat 2<2 - Int.toNat 1;decide⟩;rw[fe];refine Ti ae λp4 c4 h4 o4 f4 g4=>⟨_,_,_,rfl,⟨λk n m i G=>Fr No g G/\(∀y,aN k y->g.size<=y)/\((i=0/\n=0/\Own G k n m 4 [])\/(i=1/\n=u.length/\Own G k n m 4 (u.flatMap jc))\/(i=2/\n=(u++w).length/\Own G k n m 4 ((u++w).flatMap jc))),λ_ _ _ i _=>2 - i.toNat,⟨f4,g4,.inl ⟨rfl,rfl,o4⟩⟩,?_⟩⟩;rintro k n m i G ⟨F,l,v⟩;rcases v with⟨rfl,rfl,o⟩|⟨rfl,rfl,o⟩|⟨rfl,rfl,o⟩;refine⟨ae,av.2 ⟨_,_,_,B F,(du tI uI o (r1.frame F bD) (ky jc 4 kJ u) (Kj u) ae ae λp6 U h6 O _ q r=>⟨_,_,_,rfl,?_⟩)⟩⟩;rw[dJ,aX]at O;rw[aX];have a':=F.1;exact⟨⟨F.fresh q l,(λy x=>(r y x).elim (l y) (λh2=>ae)),.inr (.inl ⟨rfl,rfl,O⟩)⟩,by show 2 - Int.toNat 1<2 - Int.toNat 0;decide⟩;refine⟨ae,av.2 ⟨_,_,_,E F,(du tI uI o (r2.frame F bD) (ky jc 4 kJ w) (Kj w) ae ae λp6 U h6 O _ q r=>⟨_,_,_,rfl,?_⟩)⟩⟩;rw[<-cC,<-ak]at O;rw[<-ak];have a':=F.1;exact⟨⟨F.fresh q l,(λy x=>(r y x).elim (l y) (λh2=>ae)),.inr (.inr ⟨rfl,rfl,O⟩)⟩,by show 2 - Int.toNat 2<2 - Int.toNat 1;decide⟩;grind
def Ow{L:List E}{k:Int}(j:k∉keys L):gO L k=L:=by unfold gO;rw[cZ];intro e g;have:e.1≠k:=λf=>j (f▸cm g);simpa using this
def Own.CH{h:Heap}{p:bH}{xs:List IV}{cap l u:Nat}(g:Row h p (xs.flatMap jc))(e:l<=u)(f:u<=cap):Row h (bV p cap l 4) (((xs.take u).drop l).flatMap jc):=by have:=g.sub (sz:=4) e f;rwa[mM jc 4 kJ,zB jc 4 kJ]at this
def BY(xs:List It)(i:Nat):List It:=xs.take i++xs.drop (i+1)
theorem HZ{x:IV}(f:Mm h b X s L lp lc xs a S)(hl:s.items.length<=100)(hL:L.length<1000)(j:xs[i]? =some x)(hk: ∀H X',Bx H b X' { s with items:=BY s.items i } (gO L (x.num:Int))->cW X h X' H->x.v.ok H X'.D->R x.agg H):
  Cl 367 #[.P b 0,.I (i:Int)] h R:=by
 have F':=f.len;have hi:=(aS.1 j).1;refine vR (aR.box λB h1 D' i' f1=> ?_);have H1:=f.on f1;obtain⟨r,t,rfl⟩:=f.own.addr ae;refine⟨_,_,_,aj H1.cV,ae,av.2 (aR.vy (by rw[aG];exact H1.own.gL kJ j) (aR.new λn l E' f' T=> ?_))⟩;have u:=H1.on T;have A':aR.at l B 0 0 none 0 0 0:=T.get i' id;have z1:=f1.1;have z2:=T.1;have l1:=aE i';have l2:=aE f';have ne:n≠B:=ae
 have nX: ∀y,h.size<=y->¬(X.M y\/X.D y):=λy hy j=>by have:=f.lt y j;omega
 refine⟨_,aj u.cV,_,aj f',?_⟩;have g': ∀g,cB.Al g a S (gO L (x.num:Int))->Fr S l g->
   g[b]? =some (.C #[.L (Sa r t) xs.length lc,.I (s.next:Int),.I (s.taken:Int),.I (s.FW:Int),.I (s.over:Int),.P a 0] 489 (0,0))/\
   Row g (Sa r t) (xs.flatMap jc)/\aR.at g B 0 0 none 0 0 0/\aR.at g n (x.num:Int) x.owner x.v.p x.v.b.length x.v.c (x.gZ:Int):=by
  intro g A F;have nS: ∀y,h.size<=y->¬S y:=λy hy D=>by have:=f.al.lt D;omega
  exact⟨F.get u.cV f.bs,u.own.iy.frame F (λa' ea D=>f.ls _ ⟨a',ea,rfl⟩ D),F.get A' (nS B ae),F.get f' (nS n ae)⟩
 have h': ∀g,cB.Al g a S (gO L (x.num:Int))->Fr S l g->∀P C m,Fr No g m->Own m P (xs.take i++xs.drop (i+1)).length C 4 ((xs.take i++xs.drop (i+1)).flatMap jc)->(∀y,aN P y->g.size<=y)->
   aI m (AA b 0) (.slice P (xs.take i++xs.drop (i+1)).length C) λw=>
    ∃(q':Int),aQ w (AA n 0)=some (.I q')/\∃(r':Int),aQ w (AA n 1)=some (.I r')/\∃(u':bH)(t' s':Nat),aQ w (AA n 2)=some (.L u' t' s')/\∃(v':Int),aQ w (AA n 3)=some (.U v')/\
    aI w (AA B 0) (.I q') λx'=>
    aI x' (AA B 1) (.I r') λy'=>
    aI y' (AA B 2) (.L u' t' s') λz'=>
    aI z' (AA B 3) (.U v') λz=>
    ∃(k':Int),aQ z (AA B 0)=some (.I k')/\∃(l':Int),aQ z (AA B 1)=some (.I l')/\∃(o':bH)(n' m':Nat),aQ z (AA B 2)=some (.L o' n' m')/\∃(p':Int),aQ z (AA B 3)=some (.U p')/\
    R (.agg #[.I k',.I l',.L o' n' m',.U p']) z:=by
  intro g A F P C m k O G;obtain⟨K,_,k3,k4⟩:=g' g A F;have lb:=aE f.cV;have z7:=F.1;have z9:=k.1;refine aY (k.get K id) bO λv a1 a2 a3=> ?_;have i2:aR.at v n (x.num:Int) x.owner x.v.p x.v.b.length x.v.c (x.gZ:Int):=(a3 n ae).trans (k.get k4 id);refine aR.ld i2 ?_;have i1:aR.at v B 0 0 none 0 0 0:=(a3 B ae).trans (k.get k3 id);refine aR.set i1 λU d1 d2 d3=>aR.ld d1 ?_;have e':Fr (λy=>y=b) m v:=Fr.of_eq a2 a3;have Q:Fr (λy=>y=B) v U:=Fr.of_eq d2 d3;have F2:Fr No h l:=f1.tt T;have F7:Fr S h g:=Fr.no F2 F;have F9:Fr S h m:=F7.tt (k.mono (λ_ _ j=>j.elim));have c':Fr (λy=>S y\/y=b) h v:=(F9.mono (λ_ _ j=> .inl j)).tt (e'.mono (λ_ _ j=> .inr j));have d':Fr X.M h U:=by refine⟨cw c'.1 Q.1,λy hy hn=> ?_⟩;rw[Q.2 y (cN hy c'.1) (λe=>ae),c'.2 y hy (λj=>hn ((f.m y).2 (j.elim (λh=> .inr (.inr h)) .inl)))]
  have B': ∀y,aN P y->¬S y:=λy hy D=>by have:=G y hy;have:=f.al.lt D;omega
  have j': ∀y,aN P y->y≠b:=λy hy e=>by have:=G y hy;omega
  have C': ∀y,aN P y->y≠B:=λy hy e=>by have:=G y hy;omega
  have w': ∀b':IV,b'∈xs->b'.v.ok U X.D:=λb' hv=>(f.Kk b' hv).frame d' (λy V Z=>f.IT y Z V);refine hk U ⟨λy=>y=b\/aN P y\/S y,X.D⟩ ⟨P,C,xs.take i++xs.drop (i+1),a,S,⟨?_,(O.frame e' j').frame Q C',?_,?_,?_,λ_=>dY,λj=>j' b j rfl,f.bs,B',?_,λy hy=>cN (f.Sg y hy) d'.1⟩⟩ ⟨d',?_,λ_=> .inl,λ_=>id⟩ (w' x (aW j));rw[d3 b ae,a1];simp;have A9:=A.frame k bD;exact(A9.frame e' (λy hy e=>f.bs (e▸hy))).frame Q (λy hy e=>cv (f.al.lt hy));show _=BY s.items i;unfold BY;rw[<-f.abs,bB,List.map_take,List.map_drop];grind;rintro y (rfl|hy|hy) V;exact f.IT _ ((f.m _).2 (.inl rfl)) V;grind;exact f.IT _ ((f.m _).2 (.inr (.inr hy))) V;rintro y (rfl|hy|hy);exact .inl ((f.m _).2 (.inl rfl));right;have:=G y hy;omega;exact .inl ((f.m _).2 (.inr (.inr hy)))
 have ew:IntKind.wrap .i64 ((i:Int)+1)=((i+1:Nat):Int):=by rw[eY];omega
 have cap:=f.own.le;rw[ew];simp only[aG,Nat.sub_zero];refine cB.CD u.al ae _ (λZ g A F=>⟨_,rfl,?_⟩) (λZ=>⟨_,rfl,?_⟩);obtain⟨K,k2,k3,k4⟩:=g' g A F;refine⟨_,_,_,aj K,ae,_,_,_,aj K,ae,bn ?_⟩;have o:Fr No g (g.push (.C #[.L (bV (Sa r t) lc 0 4) i lc,.L (bV (Sa r t) lc (i+1) 4) (xs.length - (i+1)) (lc - (i+1))] 431)):=Fr.push _ _;have q:=o.get K id;refine⟨aj q,aj q,?_⟩;have I:=k2.frame o bD;have J:=Own.CH (l:=0) (u:=i) (cap:=lc) I ae ae;have M:=Own.CH (l:=i+1) (u:=xs.length) (cap:=lc) I ae ae;rw[List.drop_zero]at J;rw[fk]at M;refine GV gW J (by rw[bM];omega) M (by rw[cj]) (by grind) λP C m O k G=>⟨_,_,_,rfl,?_⟩;have E:=k.get q id;exact⟨aj E,aj E,h' g A F P C m (o.tt k) O (λy hy=>by grind)⟩;have A:cB.Al l a S (gO L (x.num:Int)):=by rw[Ow Z];exact u.al
 have F:Fr S l l:=Fr.refl _ _;obtain⟨K,k2,k3,k4⟩:=g' l A F;refine⟨_,_,_,aj K,ae,_,_,_,aj K,ae,bn ?_⟩;have o:Fr No l (l.push (.C #[.L (bV (Sa r t) lc 0 4) i lc,.L (bV (Sa r t) lc (i+1) 4) (xs.length - (i+1)) (lc - (i+1))] 431)):=Fr.push _ _;have q:=o.get K id;refine⟨aj q,aj q,?_⟩;have I:=k2.frame o bD;have J:=Own.CH (l:=0) (u:=i) (cap:=lc) I ae ae;have M:=Own.CH (l:=i+1) (u:=xs.length) (cap:=lc) I ae ae;rw[List.drop_zero]at J;rw[fk]at M;refine GV gW J (by rw[bM];omega) M (by rw[cj]) (by grind) λP C m O k G=>⟨_,_,_,rfl,?_⟩;have E:=k.get q id;exact⟨aj E,aj E,h' l A F P C m (o.tt k) O (λy hy=>by grind)⟩
end nz
end
section
open Go.Fields Go.mj
namespace nz
open cB (lY)
variable {L:List E} {s:BS} {i:List It} {now:Int}
variable {num:Int}
def It.kv (x : It) : E := ((x.num : Int), (x.gZ : Int))
structure okB (s : BS) (L : List E) : Prop where
  le : s.items.length ≤ 16
  pm : L.Perm (s.items.map It.kv)
  it : ∀ x ∈ s.items, 1 ≤ x.num ∧ x.num < s.next ∧ 1 ≤ x.d.length ∧ x.d.length ≤ 600 ∧ 1 ≤ x.owner ∧ x.owner ≤ 1099511627776 ∧ x.gZ ≤ 1099511627776
  inc : (s.items.map It.num).Pairwise (· < ·)
  Vs : s.next = 1 + s.items.length + s.taken + s.FW + s.over
def okB.nil:okB ⟨[],1,0,0,0⟩ []:=⟨bO,.refl _,bO,.nil,rfl⟩
def FX(i:List It)(num:Int):List It:=i.filter (λy=> !decide ((y.num:Int)=num))
def yB: ∀{i:List It}{I:Nat}{x:It},(i.map It.num).Pairwise (· < ·)->i[I]? =some x->BY i I=FX i (x.num:Int)
 | [],I,x,_,h=>by simp at h
 |y::r,0,x,H,h=>by
  simp at h;subst h;rw[cp,gj]at H;unfold BY FX;rw[dK];simp only[di,Bool.not_true,aV,bQ,fy,dJ,List.drop_succ_cons,List.drop_zero];symm;rw[cZ];intro z c;have:=H.1 z.num (cm c);have: ¬(z.num)=(y.num:Int):=ae
  simp[this]
 |y::r,I+1,x,H,h=>by
  rw[cp,gj]at H;have a:=yB H.2 h;have d:=H.1 x.num (cm (aW h));have b: ¬(y.num)=(x.num:Int):=ae
  unfold BY FX at a⊢;rw[dK];simp only[b,fC,Bool.not_false,cI,List.take_succ_cons,List.drop_succ_cons,eH];rw[a]
def QF(h:L.Perm (i.map It.kv)):(gO L num).Perm ((FX i num).map It.kv):=by have:=h.filter (λe=> !(e.1==num));refine this.trans ?_;rw[List.filter_map];refine List.Perm.of_eq (bY _ (List.filter_congr ?_));intro x _;show(!((x.num)==num))=_;by_cases q:(x.num)=num<;>simp[q]
def okB.sub{I:List It}{l:List E}{t c o:Nat}(O:okB s L)(h:I.Sublist s.items)(a:l.Perm (I.map It.kv))(H:s.next=1+I.length+t+c+o):okB ⟨I,s.next,t,c,o⟩ l:=
 ⟨cw h.length_le O.le,a,λx b=>O.it x (h.subset b),O.inc.sublist (h.map _),H⟩
theorem QG{I:Nat}(h:LJ i num=some I): ∃x,i[I]? =some x/\(x.num:Int)=num:=by unfold LJ at h;rw[List.findIdx?_eq_some_iff_getElem]at h;have⟨H,a,_⟩:=h;exact⟨_,ai H,by grind⟩
def QH(h:LJ i num=none): ∀x∈i,(x.num:Int)≠num:=by unfold LJ at h;rw[List.findIdx?_eq_none_iff]at h;intro x H;simpa using h x H
theorem uniq(h:(i.map It.num).Pairwise (· < ·)){x y:It}(H:x∈i)(a:y∈i)(e:x.num=y.num):x=y:=by
 induction i with
 |nil=>cases H
 |cons z r I=>rw[cp,gj]at h;rcases bG.1 H with b|Zf;rcases bG.1 a with E|YQ;grind;have:=h.1 y.num (cm YQ);rw[b]at e;omega;rcases bG.1 a with E|YQ;have:=h.1 x.num (cm Zf);rw[E]at e;omega;grind
theorem jd: ∀{L:List E},kA L->cB.due L now=L.filter (lY now)/\cB.rest L now=L.filter (λe=> !lY now e)
 | [],_=>⟨rfl,rfl⟩
 |e::r,b=>by
  have a:=gj.1 b;have⟨I,c⟩:=jd a.2;unfold cB.due at I⊢;unfold cB.rest at c⊢;by_cases f:lY now e=true;simp_all;have H:lY now e=false:=by grind
  have all: ∀x∈r,lY now x=false:=by intro x h;have h1:=a.1 x h;have d:=fh H;apply aA;rcases h1 with h1|h1<;>omega
  rw[List.takeWhile_cons,List.dropWhile_cons,dK,dK,H];simp only[aV,bQ,Bool.not_false,cI];refine⟨?_,?_⟩;simp_all;congr 1;symm;rw[cZ];intro x h;rw[all x h];rfl
def pS(i:List It)(K:List Int):List It:=i.filter (λx=>decide ((x.num:Int)∉K))
def QI:pS i []=i:=by unfold pS;simp
theorem QJ{K:List Int}{k:Int}:FX (pS i K) k=pS i (K++ [k]):=by unfold FX pS;rw[List.filter_filter];apply List.filter_congr;intro x _;by_cases h:(x.num)=k;simp[h];grind
def QK(o:okB s L)(S:kA L)(n:(keys L).Nodup):pS s.items (keys (cB.due L now))=s.items.filter (λx=>decide (now<(x.gZ:Int))):=by have⟨E,_⟩:=jd (now:=now) S;apply List.filter_congr;intro x b;by_cases a:now<(x.gZ);simp only[a,di,bN];intro H;rw[E]at H;have⟨e,d,c⟩:=bR.1 H;have h:=bW.1 d;obtain⟨y,f,rfl⟩:=bR.1 (o.pm.mem_iff.1 h.1);have:=uniq o.inc f b (by have:(y.num)=(x.num:Int):=c;omega);subst this;have:=bj h.2;unfold It.kv at this;omega;simp only[a,fC,decide_eq_false_iff_not,Classical.not_not];rw[E];refine bR.2 ⟨x.kv,bW.2 ⟨(o.pm.mem_iff.2 (cm b)),aq ?_⟩,rfl⟩;unfold It.kv;omega
theorem GW(o:okB s L)(S:kA L):(cB.rest L now).Perm ((s.items.filter (λx=>decide (now<(x.gZ:Int)))).map It.kv):=by rw[(jd S).2];refine(o.pm.filter _).trans (List.Perm.of_eq ?_);rw[List.filter_map];congr 1;apply List.filter_congr;intro x _;show(!decide ((x.gZ)<=now))=_;by_cases q:now<(x.gZ);simp[q];grind
def QL(o:okB s L)(S:kA L):(cB.due L now).Perm ((s.items.filter (λx=>decide ((x.gZ:Int)<=now))).map It.kv):=by rw[(jd S).1];refine(o.pm.filter _).trans (List.Perm.of_eq ?_);rw[List.filter_map];rfl

end nz
end
section
variable {h:Heap} {R:dH}
variable {p:Nat} {o n:Int}
def sr(H: ∃t,Cc h p 2 (.map t)/\R (.B (!t.isNone)) h):Cl 431 #[.P p 0] h R:=aD [] H
def Ek{w:Int}{s:Int} (d:ay (λ(t:Bool) H=>ite t (R (.T #[.Q none,.I 1]) H) (aT H (.map #[] 0) λb a=>aT a (.C #[.I w,.I s,.map (some b),.I 0] 494) λB c=>R (.T #[.P B 0,.I 0]) c)) (λJ=>ite (decide (w<1)) (J true h) (ite (decide (w>1048576)) (J true h) (ite (decide (s<1)) (J true h) (J (decide (s>w)) h))))):Cl 274 #[.I w,.I s] h R:=aD [(4,.join [(20,sB)])] d
def uw (b:Cl 431 #[.P p 0] h λv H=> ∃t,v=.B t/\ite (!t) (R (.I 6) H) (ay (λ(T:Bool) a=>ite T (R (.I 1) a) (R (.I 0) a)) (λJ=>ite (decide (o<1)) (J true H) (ite (decide (o>1099511627776)) (J true H) (J (decide (n<0)) H))))):Cl 369 #[.P p 0,.I o,.I n] h R:=aD [(11,.join [(11,sB)])] b
def ss (m:Cl 369 #[.P p 0,.I o,.I n] h λv H=> ∃t,v=.I t/\ite (t !=0) (R (.I t) H) (∃c,Cc H p 2 (.map c)/\∃d,Pk 492 (.map c) (.I o) false H (.I d)/\ite (decide (n>d)) (R (.I 7) H) (∃e,Cc H p 3 (.I e)/\aI H (AA p 3) (.I (wrap .i64 (e - n))) λb=> ∃T,Cc b p 2 (.map T)/\∃f,Pk 492 (.map T) (.I o) false b (.I f)/\ij (Instr.mapUpdate 492 (.map T) (.I o) (.I (wrap .i64 (f - n)))) b λ_ a=> ∃g,Cc a p 2 (.map g)/\∃i,Pk 492 (.map g) (.I o) false a (.I i)/\ay (λk=>R (.I 0) k) (λJ=>ite (i==0) (∃j,Cc a p 2 (.map j)/\ij (Builtin.delete_ #[492,3] 0 #[.map j,.I o]) a λV l=>V=.T #[]/\J l) (J a))))):Cl 305 #[.P p 0,.I o,.I n] h R:=aD [(27,.join [])] m

end
section
namespace wx
def tm:tH Tryz.prog 492 (.I 0):=.of 3 3 .i64 zzkr zzkr zzkr
def iL(h:Heap)(p m:Nat)(w S A:Int)(f:Int->Int):Prop:=
 h[p]? =some (.cells #[.int .i64 w,.int .i64 S,.map (some m),.int .i64 A] 494 (0,0))/\
 ∃g:Int->Option Value,nR h m g/\∀k,(g k).getD (.int .i64 0)=.int .i64 (f k)
def Ok(w S A:Int)(f:Int->Int):Prop:=1<=S/\S<=w/\w<=1048576/\ -2000000000000<=A/\A<=w/\∀k,0<=f k/\f k<=S
variable {h : Heap} {p m : Nat} {w S A : Int} {f : Int → Int} {R : Value → Heap → Prop}
def iL.frame{Q:fZ}{H:Heap}(j:iL h p m w S A f)(a:Fr Q h H)(b: ¬Q p)(c: ¬Q m):iL H p m w S A f:=by have⟨d,g,e,i⟩:=j;exact⟨a.get d b,g,e.frame a c,i⟩
def iL.ne(d:iL h p m w S A f):p≠m:=by have⟨a,g,b,_⟩:=d;have⟨e,c,H⟩:=b.map;rintro rfl;rw[a]at H;cases H
def iL.lt(H:iL h p m w S A f):p<h.size/\m<h.size:=⟨aE H.1,by have⟨_,g,a,_⟩:=H;exact a.lt⟩
def fJ(a:iL h p m w S A f)(H:R (.B true) h):Cl 431 #[.P p 0] h R:=
 sr ⟨some m,aj a.1,H⟩
def look(b:iL h p m w S A f)(o:Int):xK Tryz.prog 492 (.map (some m)) (.I o) false h (.I (f o)):=by have⟨_,g,H,a⟩:=b;have:=Gv tm H o;rw[a]at this;exact this
def may(o n:Int):Bool:=decide (1<=o) && decide (o<=1099511627776) && decide (0<=n)
def Tj(o n:Int):Int:=if may o n=true then 0 else 1
def CE{o n:Int}:may o n=true↔1<=o/\o<=2^40/\0<=n:=by simp[may,and_assoc]
theorem zP(a:iL h p m w S A f)(o n:Int)(H:R (.I (Tj o n)) h):Cl 369 #[.P p 0,.I o,.I n] h R:=by refine uw (fJ a ⟨true,rfl,?_⟩);simp only[ay];unfold Tj may at H;by_cases b:o<1;grind;grind
def fits(w S A:Int)(f:Int->Int)(o n:Int):Bool:=may o n && decide (n<=S - f o) && decide (n<=w - A)
def Iw(f:Int->Int)(o n:Int):Int->Int:=λk=>if k=o then f k+n else f k
def WI{o n:Int}:fits w S A f o n=true↔(1<=o/\o<=2^40/\0<=n)/\n<=S - f o/\n<=w - A:=by simp[fits,CE,and_assoc]
def gives(f:Int->Int)(o n:Int):Bool:=may o n && decide (n<=f o)
def Uv(f:Int->Int)(o n:Int):Int:=if may o n=true then(if gives f o n=true then 0 else 7)else 1
def Ox{o n:Int}:gives f o n=true↔(1<=o/\o<=2^40/\0<=n)/\n<=f o:=by simp[gives,CE,and_assoc]
theorem Tk(a:iL h p m w S A f)(P:Ok w S A f)(o n:Int)(M:gives f o n=true->∀e,iL e p m w S (A - n) (Iw f o (-n))->Fr (λc=>c=p\/c=m) h e->R (.I 0) e)(K:gives f o n=false->R (.I (Uv f o n)) h):
  Cl 305 #[.P p 0,.I o,.I n] h R:=by
 have⟨Z,o2,o3,o4,o5,O⟩:=P;have of:=O o;refine ss (zP a o n ⟨_,rfl,?_⟩);unfold Uv at K;unfold Tj;cases H:may o n with
 |false=>have:=K (by simp[gives,H]);simpa[H]using this
 |true=>
  have T:=CE.1 H;simp only[cI,bne_self_eq_false,aV,bQ];refine⟨some m,aj a.1,f o,look a o,?_⟩;by_cases l:n>f o;have d:gives f o n=false:=by simp[gives,show¬n<=f o by omega]
  have:=K d;simpa[l,H,d]using this;have d:gives f o n=true:=by simp[gives,H,show n<=f o by omega]
  simp only[l,fC,aV,bQ];have j:=a.ne;have⟨r,g,B,u⟩:=a;refine⟨A,aj r,?_⟩;rw[eY];refine aY r bO ?_;intro x i U E;have s:=B.mV (E m (Ne.symm j));have I:iL x p m w S (A - n) f:=⟨i,g,s,u⟩;refine⟨some m,aj i,f o,look I o,?_⟩;rw[eY];refine tJ tm s ?_;intro q t V F;have b:=(F p j).trans i;have J:iL q p m w S (A - n) (Iw f o (-n)):=⟨b,_,t,λk=>by unfold Iw;by_cases v:k=o;grind;grind⟩;have Q:Fr (λc=>c=p\/c=m) h q:=Fr.of_eq ae λc z=>by grind
  have D:=look J o;refine⟨some m,aj b,Iw f o (-n) o,D,?_⟩;simp only[ay];by_cases L:Iw f o (-n) o=0;simp only[L,beq_self_eq_true,cI];refine⟨some m,aj b,(AQ tm t ?_)⟩;intro y C X G;refine⟨rfl,M d y ⟨(G p j).trans b,_,C,λk=> ?_⟩ (Fr.of_eq ae λc z=> ?_)⟩;by_cases v:k=o;grind;simp[v,u,Iw];grind;grind
def Bf(w S:Int):Bool:=decide (1<=w) && decide (w<=1048576) && decide (1<=S) && decide (S<=w)
def Oy:Bf w S=true↔1<=w/\w<=1048576/\1<=S/\S<=w:=by simp[Bf,and_assoc]
def ft(w S:Int){h:Heap}(K:Bf w S=true->∀H p m,iL H p m w S 0 (λ_=>0)->h.size<=p->h.size<=m->Fr No h H->R (.T #[.P p 0,.I 0]) H)(k:Bf w S=false->R (.T #[.Q none,.I 1]) h):Cl 274 #[.I w,.I S] h R:=by
 refine Ek ?_;simp only[ay];by_cases c:w<1;simpa only[c,di,cI]using k (by simp[Bf,show¬1<=w by omega]);rw[fe];by_cases d:w>1048576;simpa only[d,di,cI]using k (by simp[Bf,show¬w<=1048576 by omega]);rw[fe];by_cases e:S<1;simpa only[e,di,cI]using k (by simp[Bf,show¬1<=S by omega]);rw[fe];by_cases g:S>w;simpa only[g,di,cI]using k (by simp[Bf,show¬S<=w by omega]);rw[fe];rintro b i rfl rfl B j rfl rfl;refine K (Oy.2 ae) _ _ h.size ⟨aU,λ_=>none,?_,λ_=>rfl⟩ bO bO ?_;exact(nR.push h).frame (Fr.push (S:=λ_=>False) _ _) bO;exact(Fr.push h _).trans (Fr.push _ _) (λ_ _ a=>a) (λ_ _ a=>a)
end wx
end
section
namespace pg
open nz (It)
variable {l L:List It} {x:It} {o:Int}
def IS(l:List It):Int:=(l.map (λx=>(x.d.length:Int))).sum
def own(l:List It)(o:Int):Int:=IS (l.filter (λx=>decide (x.owner=o)))
def El(p:l.Perm L):IS l=IS L:=by
 induction p with
 |nil=>rfl
 |cons x _ i=>unfold IS at i⊢;simp only[cp,List.sum_cons];omega
 |swap x y l=>unfold IS;simp only[cp,List.sum_cons];omega
 |trans _ _ a b=>omega
def Em(p:l.Perm L):own l=own L:=funext λo=>El (p.filter _)
def yC:IS (x::l)=x.d.length+IS l:=by rfl
theorem En:own (x::l) o=(if x.owner=o then(x.d.length:Int)else 0)+own l o:=by unfold own;rw[dK];split<;>rename_i h;rw[yC,ah (bj h)];grind
def QM:0<=IS l:=by
 induction l with
 |nil=>decide
 |cons x l i=>rw[yC];omega
def QN:0<=own l o:=QM
def Vt(c:x∈l):(x.d.length:Int)<=own l x.owner:=by obtain⟨a,b,rfl⟩:=List.append_of_mem c;rw[Em List.perm_middle,En,ah rfl];have:=QN (l:=a++b) (o:=x.owner);omega
abbrev yY(l:List It):Prop:=wx.Ok 4800 1600 (IS l) (own l)
def yY.perm(O:yY l)(p:l.Perm L):yY L:=by unfold yY;rw[<-El p,<-Em p];exact O
def yY.sub(O:yY (x::l)):yY l:=by have⟨a,b,c,d,e,f⟩:=O;rw[yC]at d e;have:=QM (l:=l);refine⟨a,b,c,ae,ae,λk=>⟨QN,?_⟩⟩;have:=(f k).2;rw[En]at this;split at this<;>omega
def yY.nil:yY []:=⟨bA,bA,bA,bA,bA,λ_=>⟨Int.le_refl 0,show(0)<=1600 by decide⟩⟩
def QO:wx.Iw (own (x::l)) x.owner (-(x.d.length:Int))=own l:=by funext k;unfold wx.Iw;rw[En];by_cases e:k=x.owner;omega;omega
def Yf(x:It):Prop:=1<=x.d.length/\x.d.length<=600/\1<=x.owner/\x.owner<=2^40
section
variable {h H : Heap} {R : Value → Heap → Prop} {p m : Nat}
abbrev Pu(h:Heap)(p m:Nat)(l:List It):Prop:=wx.iL h p m 4800 1600 (IS l) (own l)
def Pu.perm(a:Pu h p m l)(q:l.Perm L):Pu h p m L:=by unfold Pu;rw[<-El q,<-Em q];exact a
def WJ{n:Int}(b:Pu h p m (x::l))(O:yY (x::l))(k:Yf x)(i:n=(x.d.length:Int))(d: ∀H,Pu H p m l->Fr (λc=>c=p\/c=m) h H->R (.I 0) H):
  Cl 305 #[.P p 0,.I x.owner,.I n] h R:=by
 subst i;have g:wx.gives (own (x::l)) x.owner (x.d.length:Int)=true:=wx.Ox.2 ⟨⟨k.2.2.1,k.2.2.2,ae⟩,Vt bO⟩;refine wx.Tk b O _ _ (λ_ H a f=>d H ?_ f) (λe=>by rw[g]at e;cases e);rw[QO,yC,show(x.d.length:Int)+IS l - x.d.length=IS l by omega]at a;exact a
end
end pg
end
section
variable {h:Heap} {R:dH}
def yD(a:aT h (.C #[.B true,.Z] 237) λb H=>R (.P b 0) H):Cl 275 #[] h R:=aD [] a

end
section
open Go.Fields
namespace me
open gD
variable {h H d:Heap} {t:Nat} {X:Ft} {p:bH} {c i:Nat}
structure AV where
 id:Nat
 v:BV
abbrev AV.enc(a:AV):List Value:= [.int .u64 (a.id:Int),a.v.val]
structure SC where
 b:Nat
 num:Nat
 token:Nat
 up:Bool
 watch:Bool
 kept:List AV
 kp:bH
 kc:Nat
 notes:List BV
 np:bH
 nc:Nat
structure me where
 num:Nat
 token:Nat
 up:Bool
 watch:Bool
 kept:List (Nat×cO)
 notes:List (cO)
def AV.abs(a:AV):Nat×cO:=(a.id,a.v.b)
def SC.abs(s:SC):me:=⟨s.num,s.token,s.up,s.watch,s.kept.map AV.abs,s.notes.map BV.b⟩
theorem QP{b:Type}{a:List b}{i:Nat}{v:b}(h:a[i]? =some v):a.set i v=a:=by apply List.ext_getElem?;intro j;rw[List.getElem?_set];split;grind;rfl
abbrev WK:=Nat->Option Nat
abbrev At(h:Heap)(s:SC):Prop:=cg.at h s.b (s.num:Int) (s.token:Int) s.up s.watch s.kp s.kept.length s.kc s.np s.notes.length s.nc
structure Na (h:Heap) (l:WK) (D:fZ) (i:Nat) (s:SC):Prop where
 cV:At h s
 lb:l s.b=some (2+3*i)
 WL:Own h s.kp s.kept.length s.kc 2 (s.kept.flatMap AV.enc)
 kl: ∀c,aN s.kp c->l c=some (3+3*i)
 WM:Own h s.np s.notes.length s.nc 1 (s.notes.flatMap kR)
 nl: ∀c,aN s.np c->l c=some (4+3*i)
 kd: ∀a∈s.kept,a.v.ok h D
 nd: ∀n∈s.notes,n.ok h D
structure vx (h:Heap) (t:Nat) (l:WK) (D:fZ) (L:List SC):Prop where
 cV: ∃p c,h[t]? =some (.cells #[.bool true,.slice p L.length c] 237 (0,0))/\Own h p L.length c 1 (L.map λs=> .pointer (some ⟨s.b,0,none⟩))/\∀x,aN p x->l x=some 1
 WN:l t=some 0
 kQ: ∀i s,L[i]? =some s->Na h l D i s
 Yg: ∀c r,l c=some r->c<h.size
 Sg: ∀c,D c->c<h.size
 ap: ∀c r,l c=some r->¬D c
def Kl(h:Heap)(t:Nat)(X:Ft)(A:List me)(B:List Nat):Prop:=
 ∃l L,vx h t l X.D L/\L.map SC.abs=A/\L.map SC.b=B/\∀c,X.M c↔ ∃r,l c=some r
def Has(h:Heap)(t:Nat)(X:Ft)(A:List me):Prop:= ∃B,Kl h t X A B
variable {l : WK} {D : Nat → Prop} {L : List SC} {A : List me}
def Na.frame{Q:fZ}{s:SC}(b:Na h l D i s)(f:Fr Q h H)(g: ∀c r,l c=some r->2+3*i<=r->r<=4+3*i->¬Q c)(j: ∀c,D c->¬Q c):Na H l D i s:=
 ⟨f.get b.cV (g _ _ b.lb ae ae),b.lb,b.WL.frame f (λc e=>g c _ (b.kl c e) ae ae),b.kl,b.WM.frame f (λc e=>g c _ (b.nl c e) ae ae),b.nl,λa k=>(b.kd a k).frame f j,λn m=>(b.nd n m).frame f j⟩
def Kl.lt{B:List Nat}(a:Kl h t X A B): ∀x,X.M x\/X.D x->x<h.size:=by have⟨l,L,T,_,_,b⟩:=a;rintro x (f|hd);have⟨r,e⟩:=(b x).1 f;exact T.Yg x r e;exact T.Sg x hd
def Kl.IT{B:List Nat}(a:Kl h t X A B): ∀x,X.M x->¬X.D x:=by have⟨l,L,T,_,_,b⟩:=a;intro x f;have⟨r,e⟩:=(b x).1 f;exact T.ap x r e
def Kl.frame{B:List Nat}{Q:fZ}(n:Kl h t X A B)(f:Fr Q h H)(m: ∀x,X.M x\/X.D x->¬Q x):Kl H t X A B:=by have⟨l,L,T,e,E,j⟩:=n;have⟨p,c,o,O,k⟩:=T.cV;have g:=λc r a=>m c (.inl ((j c).2 ⟨r,a⟩));refine⟨l,L,⟨⟨p,c,f.get o (g t _ T.WN),O.frame f (λx u=>g x _ (k x u)),k⟩,T.WN,λi s q=>(T.kQ i s q).frame f (λc r a _ _=>g c r a) (λc b=>m c (.inr b)),?_,?_,T.ap⟩,e,E,j⟩;intro c r a;exact cN (T.Yg c r a) f.1;intro c b;exact cN (T.Sg c b) f.1
def Has.lt(a:Has h t X A): ∀x,X.M x\/X.D x->x<h.size:=by have⟨B,a⟩:=a;exact a.lt
def Has.IT(a:Has h t X A): ∀x,X.M x->¬X.D x:=by have⟨B,a⟩:=a;exact a.IT
def Has.frame{Q:fZ}(a:Has h t X A)(f:Fr Q h H)(b: ∀x,X.M x\/X.D x->¬Q x):Has H t X A:=by have⟨B,a⟩:=a;exact⟨B,a.frame f b⟩
open Classical in
open Classical in
def tA:jL Tryz.prog 163 240 2 32 (.agg #[.U 0,.Z]):=⟨zzkr,zzkr,rfl⟩
def uA:Tryz.prog.underlying 163=some (.slice 240):=zzkr
def Eo(a:AV):a.enc.length=2:=rfl
abbrev Yh(h:Heap)(b:Nat)(id:Nat):Prop:=h[b]? =some (.cells #[.int .u64 (id:Int)] 62 (0,0))
def FX(d:Heap)(p:bH)(cap b id:Nat)(e:List AV)(i j:Int)(h:Heap):Prop:=
 ∃(a k:Nat)(z:List AV),i=(a:Int)/\j=(k:Int)/\a<k/\k<=e.length/\z.length=e.length/\z.take a=(e.take k).filter (λx=>decide (x.id≠id))/\z.drop k=e.drop k/\Own h p e.length cap 2 (z.flatMap AV.enc)/\Fr (aN p) d h/\Yh h b id
end me
end
section
namespace me
variable {A:List me} {s:me}
structure Cy (i:Nat) (s:me):Prop where
 num:s.num=i+1
 tk:1<=s.token/\s.token<=2147483648
 kl:s.kept.length<=6
 nl:s.notes.length<=6
 kd: ∀a∈s.kept,a.1<=2^40/\a.2.length<=1000
 nd: ∀n∈s.notes,1<=n.length/\n.length<=600
 ki:(s.kept.map (·.1)).Nodup
structure Pn (A:List me):Prop where
 le:A.length<=8
 at_: ∀i s,A[i]? =some s->Cy i s
 tk:(A.map (·.token)).Nodup
def WO(A:List me)(num:Int):Option me:=if 1<=num then A[(num - 1).toNat]? else none
def V9{num:Int}(h:WO A num=some s): ∃i:Nat,num=(i:Int)+1/\A[i]? =some s:=by unfold WO at h;split at h;exact⟨(num - 1).toNat,ae,h⟩;cases h
theorem Pn.set{i:Nat}{S:me}(o:Pn A)(b:A[i]? =some s)(H:S.token=s.token)(a:Cy i S):Pn (A.set i S):=by refine⟨by rw[fz];exact o.le,λj u h=> ?_,?_⟩;rw[List.getElem?_set]at h;by_cases e:i=j;grind;rw[af e]at h;exact o.at_ j u h;rw[List.map_set,H,QP (by grind)];exact o.tk
def Pn.nil:Pn []:=⟨bO,bO,bO⟩

end me
end
section
open Go.Fields
namespace me
open gD
variable {h H:Heap} {t:Nat} {X:Ft} {R:dH} {i:Nat} {D:Nat→Prop} {L:List SC}
theorem ft(b: ∀H t X,Has H t X []->Fr No h H->(∀x,X.M x\/X.D x->h.size<=x)->R (.P t 0) H):Cl 275 #[] h R:=by refine yD (bn (b _ _ ⟨λx=>x=h.size,λ_=>False⟩ ⟨[],λx=>if x=h.size then some 0 else none, [],⟨⟨none,0,aU,.nil rfl rfl rfl rfl,λx ⟨a,e,_⟩=>by cases e⟩,bO,λi s c=>by simp at c,?_,λ_ h=>h.elim,λ_ _ _ h=>h⟩,rfl,rfl,?_⟩ (Fr.push _ _) (λx d=>d.elim (λe=>ae) False.elim)));grind;simp
theorem Vv{s:SC}(a:L[i]? =some s):(L.map SC.abs)[i]? =some s.abs:=by grind

end me
end
section
open Go.Fields Go.mj
namespace nz
open gD
variable {h h':Heap} {b:Nat} {X:Ft} {R:dH} {p:bH} {c d i:Nat} {L:List E} {s:BS}
variable {g:bH} {l a:Nat} {f:List IV} {S:Nat->Prop} {x:It}
def GX(h:Heap)(b:Nat)(X:Ft)(s:BS):Prop:= ∃L,Bx h b X s L/\okB s L
def GX.frame{Q:fZ}(H:GX h b X s)(F:Fr Q h h')(e: ∀y,X.M y\/X.D y->¬Q y):GX h' b X s:=by have⟨L,H,o⟩:=H;exact⟨L,H.frame F e,o⟩
def GX.on(H:GX h b X s)(F:Fr No h h'):GX h' b X s:=H.frame F bD
def GX.lt(H:GX h b X s)(y:Nat)(e:X.M y\/X.D y):y<h.size:=by have⟨L,H,o⟩:=H;exact H.lt y e
def Mm.WQ(H:Mm h b X s L g l f a S)(o:okB s L):L.length<1000/\f.length<=16:=by have e:=o.pm.length_eq;rw[aM]at e;have:=o.le;have:=H.len;omega
def Vw(s:BS)(o:Int)(d:cO)(t:Nat):Int:=if Vr o d.length (t:Int)=true then(if s.items.length≥16 then 15 else 0)else 1
def Mm.field{s':BS}(H:Mm h b X s L g l f a S)(o:s'.items=s.items)(n:h'[b]? =some (.C #[.L g f.length l,.I (s'.next:Int),.I (s'.taken:Int),.I (s'.FW:Int),.I (s'.over:Int),.P a 0] 489 (0,0)))(F:Fr (λy=>y=b) h h'):Mm h' b X s' L g l f a S/\cW X h X h':=by
 have m: ∀y,X.D y->y≠b:=λy k e=>H.IT b ((H.m b).2 (.inl rfl)) (e▸k);refine⟨⟨n,H.own.frame F (λy j e=>H.bl (e▸j)),H.al.frame F (λy j e=>H.bs (e▸j)),H.abs.trans o.symm,λx q=>(H.Kk x q).frame F (λy k e=>m y k e),H.m,H.bl,H.bs,H.ls,H.IT,λy j=>cN (H.Sg y j) F.1⟩,cW.Gx (F.mono (λy _ e=>(H.m y).2 (.inl e)))⟩
theorem Nb(H:Mm h b X s L g l f a S)(e:s.items[i]? =some x): ∃v,f[i]? =some v/\v.abs=x:=by
 rw[<-H.abs,aP]at e;cases j:f[i]? with
 |_=>grind
def CI{I:List It}(e:(I.map It.num).Pairwise (· < ·))(H:I[i]? =some x):(FX I (x.num:Int)).length+1=I.length:=by have j:=(aS.1 H).1;rw[<-yB e H];unfold BY;rw[ak,bM,cj];omega
def okB.del{t o:Nat}(O:okB s L)(H:s.items[i]? =some x)(e:t+c+o=s.taken+s.FW+s.over+1):okB ⟨FX s.items (x.num:Int),s.next,t,c,o⟩ (gO L (x.num:Int)):=by refine O.sub dX (QF O.pm) ?_;have:=CI O.inc H;have:=O.Vs;omega
def Tl(H:GX h b X s)(n':s.next<=1000000000)(k1:s.items= []->∀h',GX h' b X s->Fr No h h'->R (.T #[.agg #[.I 0,.I 0,.Z,.U 0],.I 4]) h')(k2: ∀x r,s.items=x::r->∀h' w (v:IV),v.abs=x->GX h' b w { s with items:=r,taken:=s.taken+1 } ->cW X h w h'->v.v.ok h' w.D->R (.T #[v.agg,.I 0]) h'):
  Cl 377 #[.P b 0] h R:=by
 obtain⟨L,⟨g,l,f,a,S,H⟩,o⟩:=H;obtain⟨hL,o'⟩:=H.WQ o;have U:=H.len;have m':=o.le;have l':=o.Vs;refine uu (aR.box λB P k' t C=> ?_);have j:=H.on C;refine fJ j ⟨_,rfl,?_⟩;simp only[Bool.not_true,aV,bQ];refine⟨_,_,_,aj j.cV,?_⟩;cases hit:s.items with
 |nil=>
  have e':f.length=0:=by rw[U,hit];rfl
  rw[ah (by rw[e'];rfl)];refine aR.set t λT D z A=>aR.ld D ?_;have O:Fr (λy=>y=B) P T:=Fr.of_eq z A;have l1:=aE t;have nX: ∀y,X.M y\/X.D y->y≠B:=λy m e=>by have:=H.lt y m;omega
  exact k1 hit T ⟨L,⟨g,l,f,a,S,j.frame O nX⟩,o⟩ (C.fresh O (λy e=>ae))
 |cons x r=>
  have p':0<f.length:=by rw[U,hit];simp
  rw[af (by simp only[cU];omega)];have G:s.items[0]? =some x:=by rw[hit];rfl
  obtain⟨v,hv,Z⟩:=Nb j G;refine⟨_,aj j.cV,aY j.cV bO λQ a1 J K=> ?_⟩;have d':Fr (λy=>y=b) P Q:=Fr.of_eq J K;obtain⟨c',g'⟩:=j.field (s':= { s with taken:=s.taken+1 }) (h':=Q) rfl (by rw[a1];dsimp only;rw[eY];rfl) d';refine HZ (i:=0) c' (by show s.items.length<=100;omega) hL hv λE k u I j'=>⟨_,_,_,_,_,_,rfl,?_⟩;have l1:=aE t;have lb:=aE H.cV;have f':aR.at E B 0 0 none 0 0 0:=I.fr.get ((K B ae).trans t) (λhm=>cv (H.lt B (.inl hm)));refine aR.set f' λq D z A=>aR.ld D ?_;have F:Fr (λy=>y=B) E q:=Fr.of_eq z A;have a': ∀y,k.M y\/k.D y->y≠B:=I.apart (Q:=λy=>y=B) (λy m e=>cv (H.lt y m)) (λy e=>by rw[e,J];exact l1);have vn:(v.num:Int)=(x.num:Int):=by rw[<-Z];rfl
  have M:BY s.items 0=r:=by unfold BY;rw[hit];rfl
  have ed:FX s.items (x.num:Int)=r:=by rw[<-yB o.inc G];exact M
  rw[vn]at u;have V:=o.del (t:=s.taken+1) (c:=s.FW) (o:=s.over) G ae;rw[ed]at V;have b':Bx q b k { s with items:=r,taken:=s.taken+1 } (gO L (x.num:Int)):=by
   have:({ ({ s with taken:=s.taken+1 } :BS)with items:=BY ({ s with taken:=s.taken+1 } :BS).items 0 } :BS)= { s with items:=r,taken:=s.taken+1 } :=by show(⟨BY s.items 0,_,_,_,_⟩:BS)=_;rw[M]
   rw[this]at u;exact u.frame F a'
  have n:cW X h k E:=(cW.My C).trans (g'.trans I);have i':cW X h k q:=by refine⟨⟨cw n.fr.1 F.1,λy m hn=> ?_⟩,n.nT,n.qG,n.NR⟩;rw[F.2 y (cN m n.fr.1) (λe=>ae)];exact n.fr.2 y m hn
  exact k2 x r hit q k v Z ⟨_,b',V⟩ i' (j'.frame F (λy hd e=>a' y (.inr hd) e))
def yE{k:Int}(u:Nat)(I':k=(u:Int))(H:GX h b X s)(b2:s.next<=1000000000)
  (hk: ∀h' o p' c' (m:List IV) D,GX h' b o { s with items:=s.items.filter (λx=>decide ((u:Int)<(x.gZ:Int))),over:=s.over+m.length } ->cW X h o h'->Own h' p' m.length c' 4 (m.flatMap jc)->(∀y∈m,y.v.ok h' o.D)->(∀y,aN p' y->h.size<=y/\¬(o.M y\/o.D y))->
   (m.map IV.abs).map It.kv=D->kA D->D.Perm ((s.items.filter (λx=>decide ((x.gZ:Int)<=(u:Int)))).map It.kv)->(∀y∈m,y.abs∈s.items)->R (.L p' m.length c') h'):
  Cl 304 #[.P b 0,.U k] h R:=by
 subst I';obtain⟨L,⟨g,l,f,a,S,H⟩,O⟩:=H;obtain⟨hL,b3⟩:=H.WQ O;have J':=O.le;have a6:=O.Vs;have P:=H.al.sorted;have z:=H.al.nodup;refine uv (fJ H ⟨_,rfl,ay.of λa5 hJ=> ?_⟩);simp only[cI];refine⟨_,aj H.cV,cB.Iv H.al ae _ λh3 p3 c3 A3 o3 g3 U=>⟨_,_,_,rfl,?_⟩⟩;generalize hD:cB.due L (u:Int)=D at o3⊢;have J:L=D++cB.rest L (u:Int):=by rw[<-hD];exact(List.takeWhile_append_dropWhile).symm
 have M3:Mm h3 b X s (cB.rest L (u:Int)) g l f a S:=by refine⟨U.get H.cV H.bs,H.own.frame U (λy j hs=>H.ls y j hs),A3,H.abs,λx n=>(H.Kk x n).frame U (λy hd hs=>H.IT y ((H.m y).2 (.inr (.inr hs))) hd),H.m,H.bl,H.bs,H.ls,H.IT,λy j=>cN (H.Sg y j) U.1⟩
 have s3:cW X h X h3:=cW.Gx (U.mono (λy _ hs=>(H.m y).2 (.inr (.inr hs))));have Dl:D.length<=16:=by have h1:=bY List.length J;rw[ak]at h1;have:=O.pm.length_eq;rw[aM]at this;omega
 have V':(keys D).Nodup:=by rw[J]at z;unfold keys at z⊢;rw[bB,fN]at z;exact z.1
 have dr: ∀e∈D,e.1∉keys (cB.rest L (u:Int)):=by intro e he t;rw[J]at z;unfold keys at z t;rw[bB,fN]at z;exact z.2.2 e.1 (cm he) e.1 t rfl
 have X':(cB.rest L (u:Int)).length<1000:=by have h1:=bY List.length J;rw[ak]at h1;omega
 refine⟨λK ol oc q' G=> ∃(k:Nat)(o:Ft)(m:List IV),q'=(k:Int)/\k<=D.length/\ol=m.length/\m.length=k/\Bx G b o { s with items:=pS s.items (keys (D.take k)),over:=s.over+k } (cB.rest L (u:Int))/\cW X h o G/\Fr (λy=>h.size<=y\/X.M y) h3 G/\Own G K ol oc 4 (m.flatMap jc)/\(∀y∈m,y.v.ok G o.D)/\
   (∀y,aN K y->h.size<=y/\¬(o.M y\/o.D y)/\¬aN p3 y)/\(∀y,aN p3 y->¬(o.M y\/o.D y))/\Row G p3 (cB.kc D)/\(m.map IV.abs).map It.kv=D.take k/\(∀y∈m,y.abs∈s.items),λ_ _ _ q' _=>D.length - q'.toNat,
   ⟨0,X, [],rfl,ae,rfl,rfl,?_,s3,Fr.refl _ _,.nil rfl rfl rfl rfl,(λy j=>by cases j),(λy ⟨a,e,_⟩=>by cases e),(λy j n=>iI (g3 y j) (H.lt y n)),o3.iy,rfl,λy j=>by cases j⟩,?_⟩
 have:({ s with items:=pS s.items (keys (D.take 0)),over:=s.over+0 } :BS)=s:=by show(⟨pS s.items [],_,_,_,_⟩:BS)=s;rw[QI];rfl
 rw[this];exact⟨g,l,f,a,S,M3⟩;clear M3 A3;rintro K ol oc _ G ⟨k,o,m,rfl,a9,rfl,z',B,st,fg,B',hd,A,t',r3,i',w'⟩;by_cases K':k<D.length
 .rw[iE];have⟨e,a'⟩:=tL K';have v':=aW a';have aQ:(cB.kc D)[k]? =some (.I e.1):=by
   unfold cB.kc keys;rw[aP,aP,a'];rfl
  obtain⟨pa,rfl⟩:=r3.some (λE=>by rw[E]at aQ;cases aQ);have E':=r3.cell aQ;refine⟨⟨by first|trivial|omega,by first|trivial|omega⟩,av.2 ⟨e.1,by rw[aG,bJ];exact E',?_⟩⟩;obtain⟨b5,b4,b7,F,S',f'⟩:=B;have n':({ s with items:=pS s.items (keys (D.take k)),over:=s.over+k } :BS).items=pS s.items (keys (D.take k)):=rfl;have rl:(pS s.items (keys (D.take k))).length<=16:=cw (gi _ _) J';refine CG f' (by rw[n'];omega) λh5 f5=>⟨_,rfl,?_⟩;rw[n'];have M5:=f'.on f5;have H':e∈L:=by rw[J];exact dp _ v'
  obtain⟨x,n,y'⟩:=bR.1 (O.pm.mem_iff.1 H');have d':(x.num:Int)=e.1:=by rw[<-y'];rfl
  have L':e.1∉keys (D.take k):=by
   intro t;obtain⟨e',G',ek⟩:=bR.1 t;obtain⟨R',hj⟩:=cd G';rw[eC]at hj;split at hj;rename_i a7;have h1:(keys D)[R']? =some e.1:=by unfold keys;rw[aP,hj,<-ek];rfl
   have h2:(keys D)[k]? =some e.1:=by unfold keys;rw[aP,a'];rfl
   have:=(eK (by unfold keys;rw[aM];omega) V').1 (h1.trans h2.symm);omega;cases hj
  have P':x∈pS s.items (keys (D.take k)):=bW.2 ⟨n,aq (by rw[d'];exact L')⟩;cases g':LJ (pS s.items (keys (D.take k))) e.1 with
  |none=>exact absurd d' (QH g' x P')
  |some i=>
   obtain⟨x',l',b1⟩:=QG g';have O':x'∈s.items:=(bW.1 (aW l')).1;obtain rfl:x'=x:=uniq O.inc O' n ae;have ev:Ov (pS s.items (keys (D.take k))) e.1=(i:Int):=by unfold Ov;rw[g']
   rw[ev];obtain⟨v,hv,k'⟩:=Nb M5 l';refine HZ M5 (by rw[n'];omega) X' hv λh6 r B6 s6 v6=>⟨_,_,_,_,_,_,rfl,?_⟩;have vn:(v.num:Int)=e.1:=by rw[<-d',<-k'];rfl
   rw[vn,mZ (dr e v')]at B6;have Q':((pS s.items (keys (D.take k))).map It.num).Pairwise (· < ·):=O.inc.sublist (dX.map _);have M':keys (D.take (k+1))=keys (D.take k)++ [e.1]:=by unfold keys;rw[bt,a',bB];rfl
   have F':BY (pS s.items (keys (D.take k))) i=pS s.items (keys (D.take (k+1))):=by rw[yB Q' l',d',QJ,M']
   have o5:=B'.frame f5 bD;have o': ∀y,aN K y->¬(r.M y\/r.D y):=λy j=>λn=>s6.apart (Q:=aN K) (λb' hz q=>(A b' q).2.1 hz) (λb' q=>o5.dW q) y n j;have o6:=o5.frame s6.fr (λy j t=>(A y j).2.1 (.inl t));refine hX tI uI o6 rfl (λw hw=>by simp at hw;rcases hw with rfl|rfl|rfl|rfl<;>rfl) ae ae λp8 c8 h8 o8 I g8=>⟨_,_,_,rfl,?_⟩;have B8:Bx h8 b r _ _:=B6.frame I (λy j q=>o' y q j);obtain⟨U',T',a0,a8,S8,Q⟩:=B8;refine⟨_,aj Q.cV,aY Q.cV bO λZ a1 a2 a3=> ?_⟩;have V:Fr (λy=>y=b) h8 Z:=Fr.of_eq a2 a3;obtain⟨M9,s9⟩:=Q.field (s':=⟨pS s.items (keys (D.take (k+1))),s.next,s.taken,s.FW,s.over+(k+1)⟩) (h':=Z) F'.symm (by rw[a1];dsimp only;rw[eY];rfl) V;have b6:r.M b:=(Q.m b).2 (.inl rfl);have C': ∀y,aN p8 y->h.size<=y/\¬(r.M y\/r.D y)/\¬aN (some pa) y:=by intro y j;rcases g8 y j with h1|h1;exact⟨(A y h1).1,o' y h1,(A y h1).2.2⟩;have z6:=s6.fr.1;have z5:=f5.1;have zg:=st.fr.1;refine⟨ae,λn=>cv (B6.lt y n),λn=> ?_⟩;have:=jT r3 (by intro E;rw[E]at aQ;cases aQ) n;omega
   have M:cW o G r h6:=(cW.My f5).trans s6;have u': ∀y,aN (some pa) y->¬(r.M y\/r.D y):=λy j n=>M.apart (Q:=aN (some pa)) (λb' hz q=>t' b' q hz) (λb' q=>jT r3 (by intro E;rw[E]at aQ;cases aQ) q) y n j;have C:cW X h r h6:=st.trans M;have s': ∀y,y<h.size->¬X.M y->Z[y]? =h6[y]? :=by intro y j t;have zz:=C.fr.1;have b8:=I.1;rw[V.2 y ae (λE=>(C.nT b b6).elim (λh1=>t (E▸h1)) (λh1=>ae)),I.2 y ae (λq=>cv ((A y q).1))]
   have Z':cW X h r Z:=by refine⟨⟨iI C.fr.1 I.1,λy j hn=> ?_⟩,C.nT,C.qG,C.NR⟩;rw[s' y j hn];exact C.fr.2 y j hn
   have a4: ∀y,aN p8 y->y≠b:=λy j E=>(C' y j).2.1 (.inl (E▸b6));have D':m.flatMap jc++([.I (v.num:Int),.I v.owner,.L v.v.p v.v.b.length v.v.c,.U (v.gZ:Int)]:List Value)=(m++ [v]).flatMap jc:=by rw[cC];simp
   have ln:(m++ [v]).length=m.length+1:=by rw[ak];rfl
   rw[eY];refine⟨⟨k+1,r,m++ [v],ae,ae,ln.symm,by rw[ln,z'],⟨U',T',a0,a8,S8,M9⟩,Z',?_,?_,?_,C',u',?_,?_,?_⟩,?_⟩;refine⟨Pv fg.1 M.fr.1 I.1,λy j hn=> ?_⟩;have m':y<h.size:=Nat.lt_of_not_le (λn=>hn (.inl n));have j': ¬X.M y:=λn=>hn (.inr n);rw[s' y m' j',C.fr.2 y m' j',s3.fr.2 y m' j'];rw[<-D'];exact o8.frame V a4;intro w hw;have A': ∀r':IV,r'.v.ok h6 r.D->r'.v.ok Z r.D:=λr' hu=>(hu.frame I (λy j q=>o' y q (.inr j))).frame V (λy j E=>Q.IT b b6 (E▸j));rcases cG.1 hw with hw|hw;exact A' w (((hd w hw).frame M.fr (λy j t=>f'.IT y t j)).mono (λy j=>M.NR y j));obtain rfl:=bT.1 hw;exact A' w v6;refine((r3.frame M.fr (λF T t=>t' _ ⟨F,T,rfl⟩ (.inl t))).frame I (λF T q=>(A _ q).2.2 ⟨F,T,rfl⟩)).frame V (λF T E=>u' _ ⟨F,T,rfl⟩ (.inl (by have E:F.block=b:=E;rw[E];exact b6)));rw[bB,bB,i',bt,a'];simp[k',y'];intro w hw;rcases cG.1 hw with hw|hw;exact w' w hw;obtain rfl:=bT.1 hw;rw[k'];exact n;show D.length - Int.toNat ((k:Int)+1)<D.length - Int.toNat (k:Int);omega
 rw[fe];obtain rfl:k=D.length:=ae
 subst hJ;rw[fk]at B i';have e1:pS s.items (keys D)=s.items.filter (λx=>decide ((u:Int)<(x.gZ:Int))):=by rw[<-hD];exact QK O P z
 rw[e1]at B;have b0:D.length+(s.items.filter (λx=>decide ((u:Int)<(x.gZ:Int)))).length=s.items.length:=by have h1:=bY List.length J;rw[ak,(GW (now:=(u:Int)) O P).length_eq,aM,O.pm.length_eq,aM]at h1;omega
 refine hk G o K oc m D ⟨_,by rw[z'];exact B,?_⟩ st B' hd (λy j=>⟨(A y j).1,(A y j).2.1⟩) i' ?_ ?_ w';exact O.sub dX (GW O P) ae;rw[<-hD,(jd P).1];exact List.Pairwise.filter _ P;rw[<-hD];exact QL O P

end nz
end
section
variable {h:Heap} {R:dH}
variable {t d c:Nat} {D:bH} {a b:Int}
def FY(f:aT h (.map #[] 0) λb H=>aT H (.C #[.map (some b)] 497) λB e=>R (.P B 0) e):Cl 276 #[] h R:=aD [] f
def uy(H: ∃T,Cc h t 0 (.map T)/\R (.B (!T.isNone)) h):Cl 403 #[.P t 0] h R:=aD [] H
def uz{E:Bool}{g:Int}{i:Int}{j:bC}{k:bC}(J:aT h (.C #[.B E,.U g,.U i,.S j,.S k] 64) λb G=>aT G (.C #[.B false,.U 0,.U 0,.S (⟨#[]⟩:bC),.S (⟨#[]⟩:bC),.I 0,.I 0] 479) λB I=>Cl 403 #[.P t 0] I λk' H=> ∃F,k'=.B F/\ite (!F) (bX.ST H (AA B 0) false 0 0 (⟨#[]⟩:bC) (⟨#[]⟩:bC) 0 0 λl=>bX.LD l (AA B 0) λK M P S V Z b'=>R (.T #[.agg #[.B K,.U M,.U P,.S S,.S V,.I Z,.I b'],.B false]) l) (∃T,Cc H t 0 (.map T)/\aw.LD H (AA b 0) λo p q r s=> ∃u v w x y z A C,Pk 495 (.map T) (.agg #[.B o,.U p,.U q,.S r,.S s]) true H (.T #[.agg #[.B u,.U v,.U w,.S x,.S y,.I z,.I A],.B C])/\aT H (.C #[.B false,.U 0,.U 0,.S (⟨#[]⟩:bC),.S (⟨#[]⟩:bC),.I 0,.I 0] 479) λf e=>mz (.map T) H e/\cz (AA b 0) [.B o,.U p,.U q,.S r,.S s] 0 e/\Cc e t 0 (.map T)/\bX.ST e (AA f 0) u v w x y z A λm=>bX.LD m (AA f 0) λd' e' f' g' h' i' j'=>bX.ST m (AA B 0) d' e' f' g' h' i' j' λn=>bX.LD n (AA B 0) λL O Q U X a' c'=>R (.T #[.agg #[.B L,.U O,.U Q,.S U,.S X,.I a',.I c'],.B C]) n)):Cl 449 #[.P t 0,.agg #[.B E,.U g,.U i,.S j,.S k]] h R:=aD [(11,λ_=>pN 12)] J
def vS (P:Cl 403 #[.P t 0] h λf' H=>Vb f' λt7=>ay (λ(q:bH) (p n:Nat) E=>Cl 404 #[.L q p n,.func (.func 405) #[] #[]] E λg' F=>g'=.T #[]/\R (.L q p n) F) (λJ=>ite t7 (∃r,Cc H t 0 (.map r)/\ij (Instr.range 495 (.map r)) H λh' G=> ∃(i:Nat),h'=.P i 0/\∃(I:bH->Nat->Nat->cM)(M:bH->Nat->Nat->Heap->Nat),I none 0 0 G/\∀e O o f,I e O o f->ij (Instr.next (.P i 0) false 0) f λV l=>(V=.T #[.B false]/\J e O o l)\/(∃(Q S:Value),V=.T #[.B true,Q,S]/\ij (Instr.entry (.P i 0)) l λi' K=> ∃(U s:Value),i'=.T #[U,s]/\∃u v w x y z A,s=.agg #[.B u,.U v,.U w,.S x,.S y,.I z,.I A]/\aT K (.C #[.B false,.U 0,.U 0,.S (⟨#[]⟩:bC),.S (⟨#[]⟩:bC),.I 0,.I 0] 479) λb L=>bX.ST L (AA b 0) u v w x y z A λm=>bX.LD m (AA b 0) λX Z a' b' c' d' e'=>aT m (.C #[.B X,.U Z,.U a',.S b',.S c',.I d',.I e'] 479) λB C=>ij (Builtin.append_ #[476,476] 476 #[.L e O o,.L (Sa B 0) 1 1]) C λj' k=> ∃j g T,j'=.L j g T/\(I j g T k/\M j g T k<M e O o f))) (J none 0 0 H))):Cl 335 #[.P t 0] h R:=aD [(7,.join [(3,sS)]),(11,.loop [(3,sS)]),(20,λ_=> .typed [(16,.agg [.bool,.int .u64,.int .u64,.str,.str,.int .i64,.int .i64])])] P
def su{A:Bool}{e:Int}{f:Int}{g:bC}{i:bC}{j:Int}{k:Int}{l:Bool}{B:Int}{m:Int}{n:bC}{o:bC}{p:Int}{q:Int}(u:aT h (.C #[.B A,.U e,.U f,.S g,.S i,.I j,.I k] 479) λb s=>aT s (.C #[.B l,.U B,.U m,.S n,.S o,.I p,.I q] 479) λB H=>aw.LD H (AA b 0) λw x y z C=>aw.LD H (AA B 0) λE F G I J=>Cl 406 #[.agg #[.B w,.U x,.U y,.S z,.S C],.agg #[.B E,.U F,.U G,.S I,.S J]] H λv r=> ∃T,v=.B T/\ite T (R (.I (-1)) r) (R (.I 1) r)):Cl 405 #[.agg #[.B A,.U e,.U f,.S g,.S i,.I j,.I k],.agg #[.B l,.U B,.U m,.S n,.S o,.I p,.I q]] h R:=aD [] u
def iQ{e:bH}{x X:Nat}(g:Cl 471 #[.U (wrap .u64 (x:Int))] h λv H=>Vi v λT=>Cl 470 #[.L e x X,.I 0,.I (x:Int),.I T,.func (.func 405) #[] #[]] H λV f=>V=.T #[]/\R (.T #[]) f):Cl 404 #[.L e x X,.func (.func 405) #[] #[]] h R:=aD [] g
def jy{F:Int} (hv: ∃(I:Int->Int->Int->Bool->Bool->cM)(M:Int->Int->Int->Bool->Bool->Heap->Nat),I a b F true true h/\∀A B l w f H,I A B l w f H->ay (λ(s:Int) (u:Int) (G:Int) (S:Bool) (U:Bool) z=>(I s u G S U z/\M s u G S U z<M A B l w f H)) (λJ=>ite (decide ((wrap .i64 (B - A))<=12)) (Cl 522 #[.L D d c,.I A,.I B,.func (.func 405) #[] #[]] H λC' i'=>C'=.T #[]/\R (.T #[]) i') (ite (l==0) (Cl 523 #[.L D d c,.I A,.I B,.func (.func 405) #[] #[]] H λD' j'=>D'=.T #[]/\R (.T #[]) j') (ay (λ(L:Int) k'=>Cl 525 #[.L D d c,.I A,.I B,.func (.func 405) #[] #[]] k' λF' C=> ∃i k,F'=.T #[.I i,.I k]/\ay (λ(p:Int) (l':Int) g=>ay (λ(m':Bool) E=>ay (λe=>ay (λ(B':Bool) v=>ite B' (Cl 528 #[.L D d c,.I A,.I B,.I p,.func (.func 405) #[] #[]] v λG' b'=> ∃K,G'=.I K/\J K B L w f b') (Cl 529 #[.L D d c,.I A,.I B,.I p,.func (.func 405) #[] #[]] v λH' x=> ∃T O,H'=.T #[.I T,.B O]/\ay (λ(V:Int) (a':Int) (O':Bool) c'=>J V a' L O' O c') (λr=>ite (decide ((wrap .i64 (T - A))<(wrap .i64 (B - T)))) (Cl 470 #[.L D d c,.I A,.I T,.I L,.func (.func 405) #[] #[]] x λI' d'=>I'=.T #[]/\r (wrap .i64 (T+1)) B (decide ((wrap .i64 (T - A))≥(wrap .i64 (Int.tdiv (wrap .i64 (B - A)) 8)))) d') (Cl 470 #[.L D d c,.I (wrap .i64 (T+1)),.I B,.I L,.func (.func 405) #[] #[]] x λJ' e'=>J'=.T #[]/\r A T (decide ((wrap .i64 (B - T))≥(wrap .i64 (Int.tdiv (wrap .i64 (B - A)) 8)))) e')))) (λq=>ite (decide (A>0)) (Bd (wrap .i64 (A - 1)) d/\aJ D λX=>bX.LD e (X.add (toNat (wrap .i64 (A - 1))*7)) λn' o' p' q' r' s' t'=>Bd p d/\aJ D λZ=>bX.LD e (Z.add (toNat p*7)) λu' v' w' x' y' z' A'=>Cl 405 #[.agg #[.B n',.U o',.U p',.S q',.S r',.I s',.I t'],.agg #[.B u',.U v',.U w',.S x',.S y',.I z',.I A']] e λK' f'=> ∃Q,K'=.I Q/\q (!(decide (Q<0))) f') (q false e))) (λo=>ite m' (Cl 527 #[.L D d c,.I A,.I B,.func (.func 405) #[] #[]] E λL' y=> ∃P,L'=.B P/\ite P (R (.T #[]) y) (o y)) (o E))) (λj=>ite w (ite f (j (l'==1) g) (j false g)) (j false g))) (λn=>ite (k==2) (Cl 526 #[.L D d c,.I A,.I B,.func (.func 405) #[] #[]] C λM' g'=>M'=.T #[]/\n (wrap .i64 ((wrap .i64 (B - 1)) - (wrap .i64 (i - A)))) 1 g') (n i k C))) (λm=>ite (!w) (Cl 524 #[.L D d c,.I A,.I B,.func (.func 405) #[] #[]] H λE' h'=>E'=.T #[]/\m (wrap .i64 (l - 1)) h') (m l H)))))):Cl 470 #[.L D d c,.I a,.I b,.I F,.func (.func 405) #[] #[]] h R:=aD [(5,.loop [(1,sI),(2,sI),(3,sI),(10,sB),(11,sB)]),(6,.join [(1,sI),(2,sI),(3,sI),(10,sB),(11,sB)]),(28,.join [(3,sI)]),(38,.join [(13,sI),(14,sI)]),(47,.join [(75,sB)]),(48,.join []),(57,.join [(97,sB)]),(57,λ_=>pN 17),(75,.join [(1,sI),(2,sI),(10,sB)])] hv
def iJ (u: ∃(I:iT)(m:iW),I (wrap .i64 (a+1)) h/\∀i f,I i f->ite (decide (i<b)) (∃(g:iT)(M:iW),g i f/\∀j H,g j H->ay (λ(Q:Bool) e=>ite Q (Bd (wrap .i64 (j - 1)) d/\aJ D λA=>bX.LD e (A.add (toNat (wrap .i64 (j - 1))*7)) λS U V X Z a' b'=>Bd j d/\aJ D λl=>bX.LD e (l.add (toNat j*7)) λc' d' e' f' g' h' i'=>Bd j d/\aJ D λn=>bX.ST e (n.add (toNat j*7)) S U V X Z a' b' λr=>Bd (wrap .i64 (j - 1)) d/\aJ D λo=>bX.ST r (o.add (toNat (wrap .i64 (j - 1))*7)) c' d' e' f' g' h' i' λk=>(g (wrap .i64 (j - 1)) k/\M (wrap .i64 (j - 1)) k<M j H)) ((I (wrap .i64 (i+1)) e/\m (wrap .i64 (i+1)) e<m i f))) (λJ=>ite (decide (j>a)) (Bd j d/\aJ D λp=>bX.LD H (p.add (toNat j*7)) λv w x y z B C=>Bd (wrap .i64 (j - 1)) d/\aJ D λq=>bX.LD H (q.add (toNat (wrap .i64 (j - 1))*7)) λE F G K L O P=>Cl 405 #[.agg #[.B v,.U w,.U x,.S y,.S z,.I B,.I C],.agg #[.B E,.U F,.U G,.S K,.S L,.I O,.I P]] H λj' s=> ∃T,j'=.I T/\J (decide (T<0)) s) (J false H))) (R (.T #[]) f)):Cl 522 #[.L D d c,.I a,.I b,.func (.func 405) #[] #[]] h R:=aD [(3,.loop [(8,sI)]),(15,.loop [(9,sI)]),(18,.join [(34,sB)]),(18,λ_=>pN 17),(24,λ_=>pN 18)] u

end
section
namespace nB
open iZ
variable {h H:Heap} {R:dH} {b:Nat} {X:Ft}
structure Rg where
 e:Ev
 wy:Int
 own:Int
abbrev Rg.zero:Rg:=⟨.zero,0,0⟩
abbrev Rg.val(r:Rg):Value:=.agg #[.bool r.e.lS,.int .u64 r.e.node,.int .u64 r.e.iA,.string r.e.host,.string r.e.kj,.int .i64 r.wy,.int .i64 r.own]
abbrev Rg.at(h:Heap)(b:Nat)(r:Rg):Prop:=bX.at h b r.e.lS r.e.node r.e.iA r.e.host r.e.kj r.wy r.own
abbrev Ep(r:Rg):List Value:= [.bool r.e.lS,.int .u64 r.e.node,.int .u64 r.e.iA,.string r.e.host,.string r.e.kj,.int .i64 r.wy,.int .i64 r.own]
def nC(r:Rg):(Ep r).length=7:=rfl
abbrev Rg.pair(r:Rg):Ev×Value:=(r.e,r.val)
abbrev yF(x y:Rg):Prop:=mn x.e y.e=true
def uB:mY Tryz.prog 495 jQ Rg.zero.val:=mY.of 64 479 zzkr key zzkr
structure Tm (h:Heap) (b:Nat) (X:Ft) (L:List Rg) (m:Nat):Prop where
 cV:h[b]? =some (.cells #[.map (some m)] 497 (0,0))
 map:jN h m jQ (L.map Rg.pair)
 fm: ∀c,X.M c↔c=b\/c=m
 d: ∀c,¬X.D c
 ne:b≠m
 so:L.Pairwise yF
def Tb(h:Heap)(b:Nat)(X:Ft)(L:List Rg):Prop:= ∃m,Tm h b X L m
variable {L : List Rg} {m : Nat}
def Tm.frame{Q:fZ}(a:Tm h b X L m)(f:Fr Q h H)(c: ∀y,X.M y\/X.D y->¬Q y):Tm H b X L m:=
 ⟨f.get a.cV (c b (.inl ((a.fm b).2 (.inl rfl)))),a.map.frame f (c m (.inl ((a.fm m).2 (.inr rfl)))),a.fm,a.d,a.ne,a.so⟩
def Tm.on(a:Tm h b X L m)(f:Fr No h H):Tm H b X L m:=a.frame f bD
def Tb.frame{Q:fZ}(a:Tb h b X L)(f:Fr Q h H)(c: ∀y,X.M y\/X.D y->¬Q y):Tb H b X L:=by have⟨m,a⟩:=a;exact⟨m,a.frame f c⟩
def Tb.on(a:Tb h b X L)(f:Fr No h H):Tb H b X L:=a.frame f bD
def Tb.lt(a:Tb h b X L)(y:Nat)(hy:X.M y\/X.D y):y<h.size:=by have⟨m,a⟩:=a;rcases hy with hy|hy;rcases(a.fm y).1 hy with rfl|rfl;exact aE a.cV;exact a.map.lt;exact absurd hy (a.d y)
def wA(L:List Rg)(x:Ev):Option Rg:=L.find? (λr=>decide (r.e=x))
theorem Oz(L:List Rg)(x:Ev):xW (L.map Rg.pair) x=(wA L x).map Rg.val:=by
 unfold xW wA;rw[List.find?_map];cases h:L.find? ((λe=>decide (e.1=x)) ∘ Rg.pair)with
 |none=>grind
 |some r=>have:L.find? (λr=>decide (r.e=x))=some r:=h;rw[this];rfl
def Is(r:Rg):Bool:=dD r.e && (!decide (r.e=Ev.zero) && (decide (r.wy≥0) && decide (r.wy<=2) && (decide (r.own≥1) && decide (r.own<=1099511627776))))
def Vw(L:List Rg)(r:Rg):Int:=if Is r=false then 1 else if(wA L r.e).isSome=true then 11 else if L.length≥8 then 15 else 0
def Tj(L:List Rg)(x:Ev)(o:Int):Int:=match wA L x with|none=>4|some r=>if r.own=o then 0 else 13
def fJ(a:Tm h b X L m)(c:R (.B true) h):Cl 403 #[.P b 0] h R:=uy ⟨_,aj a.cV,c⟩
theorem ft(d: ∀H b X,Tb H b X []->Xt h X H->R (.P b 0) H):Cl 276 #[] h R:=by refine FY (bn (bn ?_));have f:Fr No h (h.push (.map #[] 0)):=Fr.push _ _;have M:=jN.push h jQ;have z:(h.push (.map #[] 0)).size=h.size+1:=bK _;generalize h.push (.map #[] 0)=a at f M z⊢;have F:Fr No a (a.push (.C #[.map (some h.size)] 497)):=Fr.push _ _;refine d _ a.size ⟨λc=>c=a.size\/c=h.size,λ_=>False⟩ ⟨h.size,aU,M.frame F id,λc=>dY,λ_=>id,ae,.nil⟩ ⟨f.tt F,λc hc=> ?_⟩;rcases hc with hc|hc;omega;grind
def QQ{g:Heap}{b:Nat}{r:Rg}{K:Bool->Int->Int->bC->bC->Prop}(a:r.at g b)(c:K r.e.lS r.e.node r.e.iA r.e.host r.e.kj):aw.LD g (AA b 0) K:=
 ⟨_,aj a,_,aj a,_,aj a,_,aj a,_,aj a,c⟩
theorem look(a:Tm h b X L m)(x:Ev):xK Tryz.prog 495 (.map (some m)) (jQ x) true h (.T #[((wA L x).getD .zero).val,.B (wA L x).isSome]):=by
 have:=NV uB a.map x;rw[Oz]at this;cases c:wA L x with
 |none=>rw[c]at this;exact this
 |some r=>grind
def Fr.put{a d g:Heap}{c:Nat}(f:Fr No a d)(l:g.size=d.size)(j: ∀x,x≠c->g[x]? =d[x]?)(k:a.size<=c):Fr No a g:=
 f.fresh ⟨ae,λy _ i=>j y i⟩ (λy e=>ae)
def CG(d:Tb h b X L)(x:Ev)(r: jA h R (.T #[((wA L x).getD .zero).val,.B (wA L x).isSome])):
  Cl 449 #[.P b 0,jQ x] h R:=by
 have⟨m,d⟩:=d;refine uz (aw.box λu y E c e=>bX.box λB z v i g=> ?_);have F:=e.tt g;have c:=g.get c id;have a:=d.on F;refine fJ a ⟨_,rfl,⟨_,aj a.cV,aw.ld c ⟨_,_,_,_,_,_,_,_,look a x,bX.box λk C w q f=>⟨f.2 m a.map.lt id,aw.held (f.get c id),aj (f.get a.cV id),bX.set q λl A S o=>bX.ld A ?_⟩⟩⟩⟩;have p:(Rg.zero).at l B:=by
  have:=f.get i id;have s:B≠k:=by have:=aE i;omega
  unfold Rg.at bX.at;rw[o B s];exact this
 have Z:=F.1;refine bX.set p λn j t O=>bX.ld j (r n (Fr.put (Fr.put (F.tt f) S o ae) t O (cv e.1)))
def LK{L:List Rg}(s:L.Pairwise yF):(L.map Rg.e).Nodup:=by unfold List.Nodup;rw[ec];refine s.imp fun {x y} a e=> ?_;rw[yF,e,A5]at a;cases a
end nB
end
section
variable {h:Heap} {R:dH}
variable {t:Nat} {n:Int}
def BZ(e:aT h (.map #[] 0) λb H=>Cl 346 #[] H λv a=>Vp v λT=>Cl 346 #[] a λV c=>Vp V λf=>aT c (.C #[.map (some b),.I 1,.I 0,.I 0,.I 0,.Q T,.Q f] 484) λB d=>R (.P B 0) d):Cl 277 #[] h R:=aD [] e
def qR(H: ∃T,Cc h t 0 (.map T)/\R (.B (!T.isNone)) h):Cl 337 #[.P t 0] h R:=aD [] H
def od (z:Cl 337 #[.P t 0] h λv H=>Vb v λD=>ay (λ(l:bH) (k j:Nat) s=>Cl 407 #[.L l k j] s λE u=>E=.T #[]/\R (.L l k j) u) (λJ=>ite D (∃p,Cc H t 0 (.map p)/\ij (Instr.range 481 (.map p)) H λF w=> ∃(i:Nat),F=.P i 0/\∃(I:bH->Nat->Nat->cM)(m:bH->Nat->Nat->Heap->Nat),I none 0 0 w/\∀a O o c,I a O o c->ij (Instr.next (.P i 0) false 0) c λV f=>(V=.T #[.B false]/\J a O o f)\/(∃(A B:Value),V=.T #[.B true,A,B]/\ij (Instr.entry (.P i 0)) f λG x=> ∃(q C:Value),G=.T #[q,C]/\∃r,q=.I r/\aT x (.C #[.I r] 3) λb y=>ij (Builtin.append_ #[49,49] 49 #[.L a O o,.L (Sa b 0) 1 1]) y λK g=> ∃e d T,K=.L e d T/\(I e d T g/\m e d T g<m a O o c))) (J none 0 0 H))):Cl 338 #[.P t 0] h R:=aD [(7,.join [(3,sS)]),(11,.loop [(3,sS)]),(20,λ_=> .typed [(15,sI)])] z
def qS(g:Hp h t 6 λi=>Cl 427 #[.Q i,.I n] h λv H=>Vi v λj=> ∃T,Cc H t 0 (.map T)/\∃b,Pk 481 (.map T) (.I n) false H (.Q b)/\∃c,Cc H t 0 (.map c)/\∃d,Pk 481 (.map c) (.I n) false H (.Q d)/\aJ b λa=>aI H (a.add 8) (.I 0) λe=>aJ d λA=>aI e (A.add 9) (.U 0) λf=>R (.T #[]) f):Cl 366 #[.P t 0,.I n] h R:=aD [(2,λ_=>pN 18)] g
def oR(c:Hp h t 6 λe=>Cl 427 #[.Q e,.I n] h λv H=>Vi v λi=>Hp H t 5 λd=>Cl 427 #[.Q d,.I n] H λV a=>Vi V λg=> ∃T,Cc a t 0 (.map T)/\ij (Builtin.delete_ #[481,3] 0 #[.map T,.I n]) a λf b=>f=.T #[]/\R (.T #[]) b):Cl 365 #[.P t 0,.I n] h R:=aD [] c
def qT{e:Int} (u:Cl 337 #[.P t 0] h λv d=> ∃l,v=.B l/\ite (!l) (R (.Z) d) (Hp d t 5 λw=>Cl 364 #[.Q w,.U e] d λV r=>Vl V λo f x=> ∃(I:iT)(m:iW),I 0 r/\∀T H,I T H->ite (decide (T<(f:Int))) (Bd T f/\aJ o λa=>iw H (a.add (toNat T*1)) λy=>Cl 365 #[.P t 0,.I y] H λD g=>D=.T #[]/\∃p,Cc g t 3 (.I p)/\aI g (AA t 3) (.I (wrap .i64 (p+1))) λj=>(I (wrap .i64 (T+1)) j/\m (wrap .i64 (T+1)) j<m T H)) (Hp H t 6 λz=>Cl 364 #[.Q z,.U e] H λE s=>Vl E λB q G=> ∃(i:iT)(M:iW),i 0 s/\∀b c,i b c->ite (decide (b<(q:Int))) (Bd b q/\aJ B λA=>iw c (A.add (toNat b*1)) λC=>Cl 366 #[.P t 0,.I C] c λF k=>F=.T #[]/\(i (wrap .i64 (b+1)) k/\M (wrap .i64 (b+1)) k<M b c)) (R (.L o f x) c)))):Cl 303 #[.P t 0,.U e] h R:=aD [(16,.loop [(21,sI)]),(35,.loop [(43,sI)])] u

end
section
open Go.mj
namespace oF
open iZ cB
variable {h h':Heap} {t:Nat} {X:Ft}
structure Cp where
 num:Nat
 e:Ev
 d:cO
 gZ:Nat
 kQ:Int
 dl:Nat
structure CV where
 num:Nat
 b:Nat
 e:Ev
 v:BV
 gZ:Nat
 kQ:Int
 dl:Nat
def CV.abs(x:CV):Cp:=⟨x.num,x.e,x.v.b,x.gZ,x.kQ,x.dl⟩
abbrev CV.at(h:Heap)(b:Nat)(x:CV):Prop:=eL.at h b (x.num:Int) x.e.lS x.e.node x.e.iA x.e.host x.e.kj x.v.p x.v.b.length x.v.c (x.gZ:Int) x.kQ (x.dl:Int)
structure CF where
 L:List Cp
 next:Nat
 kK:Nat
 over:Nat
 gone:Nat
 E1:List E
 E2:List E
abbrev jc(b:Int):Value:=.int .i64 b
def WR:Gz Tryz.prog 3 jc:=⟨λc b h=>zzkr,λe c h=>zzkr,by
 have H:Tryz.prog.underlying 3=some (.int .i64):=zzkr
 exact⟨_,H,λc b=> .inr rfl⟩,λc=>by simp[Instr.sameBits]⟩
def uB:mY Tryz.prog 481 jc (.Q none):=mY.of 3 487 zzkr WR zzkr
abbrev CV.pair(x:CV):Int×Value:=((x.num:Int),.pointer (some ⟨x.b,0,none⟩))
structure Cm (h:Heap) (t:Nat) (X:Ft) (s:CF) (m:Nat) (a:List CV) (A:Nat) (g:fZ) (f:Nat) (i:fZ) (l:Nat->Option Nat):Prop where
 cV:h[t]? =some (.cells #[.map (some m),.int .i64 (s.next:Int),.int .i64 (s.kK:Int),.int .i64 (s.over:Int),.int .i64 (s.gone:Int),.pointer (some ⟨A,0,none⟩),.pointer (some ⟨f,0,none⟩)] 484 (0,0))
 map:jN h m jc (a.map CV.pair)
 QR: ∀x∈a,x.at h x.b
 abs:a.map CV.abs=s.L
 Kk: ∀x∈a,x.v.ok h X.D
 OA:Al h A g s.E1
 OB:Al h f i s.E2
 l0:l t=some 0
 l1:l m=some 1
 l2: ∀c,g c->l c=some 2
 l3: ∀c,i c->l c=some 3
 l4: ∀x∈a,l x.b=some (4+x.num)
 mm: ∀c,X.M c↔l c≠none
 dd: ∀c,X.D c->l c=none/\c<h.size
 QS: ∀c,l c≠none->c<h.size
 so:(a.map CV.num).Pairwise (· < ·)
def Ct(h:Heap)(t:Nat)(X:Ft)(s:CF):Prop:= ∃m a A g f i l,Cm h t X s m a A g f i l
variable {s s' : CF} {m A f : Nat} {a : List CV} {g i n j : Nat → Prop} {l : Nat → Option Nat}
structure Kept (h':Heap) (t:Nat) (X:Ft) (s:CF) (m:Nat) (a:List CV) (A:Nat) (g:fZ) (f:Nat) (i:fZ) (k:Nat):Prop where
 cV:k≠0->h'[t]? =some (.cells #[.map (some m),.int .i64 (s.next:Int),.int .i64 (s.kK:Int),.int .i64 (s.over:Int),.int .i64 (s.gone:Int),.pointer (some ⟨A,0,none⟩),.pointer (some ⟨f,0,none⟩)] 484 (0,0))
 map:k≠1->jN h' m jc (a.map CV.pair)
 OA:k≠2->Al h' A g s.E1
 OB:k≠3->Al h' f i s.E2
 QR: ∀x∈a,k≠4+x.num->x.at h' x.b
 Kk: ∀x∈a,x.v.ok h' X.D
theorem Cm.QT{Q:fZ}{k:Nat}(H:Cm h t X s m a A g f i l)(F:Fr Q h h')(r: ∀c,Q c->c<h.size->l c=some k):Kept h' t X s m a A g f i k:=by have o: ∀{c J:Nat},c<h.size->l c=some J->k≠J->¬Q c:=λd u b q=>b (by grind);refine⟨λb=>F.get H.cV (o (aE H.cV) H.l0 b),λb=>H.map.frame F (o H.map.lt H.l1 b),λb=> ?_,λb=> ?_,λx e b=>F.get (H.QR x e) (o (aE (H.QR x e)) (H.l4 x e) b),λx e=> ?_⟩;exact H.OA.frame F (λc d=>o (H.OA.lt d) (H.l2 c d) b);exact H.OB.frame F (λc d=>o (H.OB.lt d) (H.l3 c d) b);refine(H.Kk x e).frame F (λc d q=> ?_);have:=H.dd c d;have p:=r c q this.2;rw[this.1]at p;cases p
theorem Cm.frame{Q:fZ}(H:Cm h t X s m a A g f i l)(F:Fr Q h h')(k: ∀y,X.M y\/X.D y->¬Q y):Cm h' t X s m a A g f i l:=by
 have d: ∀{c J:Nat},l c=some J->¬Q c:=λo=>k _ (.inl ((H.mm _).2 (by grind)));exact⟨F.get H.cV (d H.l0),H.map.frame F (d H.l1),λx e=>F.get (H.QR x e) (d (H.l4 x e)),H.abs,λx e=>(H.Kk x e).frame F (λc b=>k c (.inr b)),
  H.OA.frame F (λc b=>d (H.l2 c b)),H.OB.frame F (λc b=>d (H.l3 c b)),H.l0,H.l1,H.l2,H.l3,H.l4,H.mm,λc b=>⟨(H.dd c b).1,cN (H.dd c b).2 F.1⟩,λc b=>cN (H.QS c b) F.1,H.so⟩
def Cm.on(H:Cm h t X s m a A g f i l)(F:Fr No h h'):Cm h' t X s m a A g f i l:=H.frame F bD
def Ct.frame{Q:fZ}(H:Ct h t X s)(F:Fr Q h h')(b: ∀y,X.M y\/X.D y->¬Q y):Ct h' t X s:=by have⟨m,a,A,g,f,i,l,H⟩:=H;exact⟨m,a,A,g,f,i,l,H.frame F b⟩
def Ct.on(H:Ct h t X s)(F:Fr No h h'):Ct h' t X s:=H.frame F bD
def Ct.lt(H:Ct h t X s)(y:Nat)(hy:X.M y\/X.D y):y<h.size:=by have⟨m,a,A,g,f,i,l,H⟩:=H;rcases hy with hy|hy;exact H.QS y ((H.mm y).1 hy);exact(H.dd y hy).2
theorem Cm.step{Q:fZ}{k:Nat}(H:Cm h t X s m a A g f i l)(F:Fr Q h h')(e: ∀c,Q c->c<h.size->l c=some k):cW X h X h':=
 cW.Gx (F.mono λc d b=>(H.mm c).2 (by grind))
def Cm.field(H:Cm h t X s m a A g f i l)(q:s'.L=s.L)(o:s'.E1=s.E1)(p:s'.E2=s.E2)(r:h'[t]? =some (.C #[.map (some m),.I (s'.next:Int),.I (s'.kK:Int),.I (s'.over:Int),.I (s'.gone:Int),.P A 0,.P f 0] 484 (0,0)))(k:h'.size=h.size)(v: ∀x,x≠t->h'[x]? =h[x]?):Cm h' t X s' m a A g f i l/\cW X h X h':=by
 have F:Fr (λc=>c=t) h h':=⟨ae,λc _ u=>v c u⟩;have d: ∀c,c=t->c<h.size->l c=some 0:=λc e _=>by rw[e];exact H.l0
 have K:=H.QT F d;refine⟨⟨r,K.map ae,λx w=>K.QR x w ae,H.abs.trans q.symm,K.Kk,by rw[o];exact K.OA ae,by rw[p];exact K.OB ae,H.l0,H.l1,H.l2,H.l3,H.l4,H.mm,λc b=>by rw[k];exact H.dd c b,λc b=>by rw[k];exact H.QS c b,H.so⟩,H.step F d⟩
def Uw(l:Nat->Option Nat)(S:fZ)[DecidablePred S](k:Nat):Nat->Option Nat:=λc=>if S c then some k else l c
def Cm.QU{w:List E}(H:Cm h t X s m a A g f i l)(v:Al h' f j w)(r: ∀c,j c->i c\/h.size<=c)(F:Fr i h h')(C:s'.L=s.L)(y:s'.E1=s.E1)(B:s'.E2=w)(o:s'.next=s.next/\s'.kK=s.kK/\s'.over=s.over/\s'.gone=s.gone):
  ∃q L,Cm h' t q s' m a A g f j L/\cW X h q h'/\∀c,q.M c->X.M c\/j c:=by
 classical
 have G: ∀c,i c->c<h.size->l c=some 3:=λc b _=>H.l3 c b;have K:=H.QT F G;have z:=F.1;let L:=Uw l j 3
 have p: ∀{c J:Nat},l c=some J->J≠3->L c=some J:=fun {c J} k D=>by show(if j c then some 3 else l c)=some J;rw[af];exact k;intro b;rcases r c b with h3|h3;rw[H.l3 c h3]at k;exact D (bL k).symm;have:=H.QS c (by rw[k];simp);omega
 have u: ∀c,L c≠none->l c≠none\/j c:=λc b=>by by_cases d:j c;exact .inr d;refine .inl ?_;have e:L c=l c:=af d;rwa[e]at b
 have I: ∀c,l c≠none->L c≠none:=λc b=>by by_cases d:j c;have e:L c=some 3:=ah d;rw[e];simp;have e:L c=l c:=af d;rwa[e]
 have S:cW X h ⟨λc=>L c≠none,X.D⟩ h':=by refine⟨F.mono (λc b d=>(H.mm c).2 (by rw[H.l3 c d];simp)),λc b=> ?_,λc b=> .inl b,λc b=>b⟩;rcases u c b with h3|h3;exact .inl ((H.mm c).2 h3);rcases r c h3 with h4|h4;exact .inl ((H.mm c).2 (by rw[H.l3 c h4];simp));exact .inr h4
 refine⟨⟨λc=>L c≠none,X.D⟩,L,⟨?_,K.map ae,λx d=>K.QR x d ae,H.abs.trans C.symm,K.Kk,by rw[y];exact K.OA ae,by rw[B];exact v,p H.l0 ae,p H.l1 ae,λc b=>p (H.l2 c b) ae,λc b=>ah b,λx d=>p (H.l4 x d) ae,λc=>dY,λc b=> ?_,λc b=> ?_,H.so⟩,S,λc b=>(u c b).imp (λh=>(H.mm c).2 h) id⟩;rw[o.1,o.2.1,o.2.2.1,o.2.2.2];exact K.cV ae;have:=H.dd c b;refine⟨?_,ae⟩;show(if j c then some 3 else l c)=none;rw[af];exact this.1;intro d;rcases r c d with h3|h3;rw[H.l3 c h3]at this;cases this.1;omega;rcases u c b with h3|h3;have:=H.QS c h3;omega;exact v.lt h3
def Cm.QV{w:List E}(H:Cm h t X s m a A g f i l)(v:Al h' A n w)(r: ∀c,n c->g c\/h.size<=c)(F:Fr g h h')(C:s'.L=s.L)(y:s'.E1=w)(B:s'.E2=s.E2)(o:s'.next=s.next/\s'.kK=s.kK/\s'.over=s.over/\s'.gone=s.gone):
  ∃q L,Cm h' t q s' m a A n f i L/\cW X h q h'/\∀c,q.M c->X.M c\/n c:=by
 classical
 have G: ∀c,g c->c<h.size->l c=some 2:=λc b _=>H.l2 c b;have K:=H.QT F G;have z:=F.1;let L:=Uw l n 2
 have p: ∀{c J:Nat},l c=some J->J≠2->L c=some J:=fun {c J} k D=>by show(if n c then some 2 else l c)=some J;rw[af];exact k;intro b;rcases r c b with h3|h3;rw[H.l2 c h3]at k;exact D (bL k).symm;have:=H.QS c (by rw[k];simp);omega
 have u: ∀c,L c≠none->l c≠none\/n c:=λc b=>by by_cases d:n c;exact .inr d;refine .inl ?_;have e:L c=l c:=af d;rwa[e]at b
 have S:cW X h ⟨λc=>L c≠none,X.D⟩ h':=by refine⟨F.mono (λc b d=>(H.mm c).2 (by rw[H.l2 c d];simp)),λc b=> ?_,λc b=> .inl b,λc b=>b⟩;rcases u c b with h3|h3;exact .inl ((H.mm c).2 h3);rcases r c h3 with h4|h4;exact .inl ((H.mm c).2 (by rw[H.l2 c h4];simp));exact .inr h4
 refine⟨⟨λc=>L c≠none,X.D⟩,L,⟨?_,K.map ae,λx d=>K.QR x d ae,H.abs.trans C.symm,K.Kk,by rw[y];exact v,by rw[B];exact K.OB ae,p H.l0 ae,p H.l1 ae,λc b=>ah b,λc b=>p (H.l3 c b) ae,λx d=>p (H.l4 x d) ae,λc=>dY,λc b=> ?_,λc b=> ?_,H.so⟩,S,λc b=>(u c b).imp (λh=>(H.mm c).2 h) id⟩;rw[o.1,o.2.1,o.2.2.1,o.2.2.2];exact K.cV ae;have:=H.dd c b;refine⟨?_,ae⟩;show(if n c then some 2 else l c)=none;rw[af];exact this.1;intro d;rcases r c d with h3|h3;rw[H.l2 c h3]at this;cases this.1;omega;rcases u c b with h3|h3;have:=H.QS c h3;omega;exact v.lt h3
def Cm.del{k:Int}(H:Cm h t X s m a A g f i l)(M:jN h' m jc (Dd (a.map CV.pair) k))(q:h'.size=h.size)(w: ∀c,c≠m->h'[c]? =h[c]?)(v:s'.L=s.L.filter (λx=> !decide ((x.num:Int)=k)))(r:s'.E1=s.E1)(u:s'.E2=s.E2)(d:s'.next=s.next/\s'.kK=s.kK/\s'.over=s.over/\s'.gone=s.gone):
  Cm h' t X s' m (a.filter (λx=> !decide ((x.num:Int)=k))) A g f i l/\cW X h X h':=by
 have F:Fr (λc=>c=m) h h':=⟨ae,λc _ d=>w c d⟩;have p: ∀c,c=m->c<h.size->l c=some 1:=λc e _=>by rw[e];exact H.l1
 have K:=H.QT F p;have S: ∀x∈a.filter (λx=> !decide ((x.num:Int)=k)),x∈a:=λx b=>(bW.1 b).1;refine⟨⟨?_,?_,λx b=>K.QR x (S x b) ae,?_,λx b=>K.Kk x (S x b),by rw[r];exact K.OA ae,by rw[u];exact K.OB ae,H.l0,H.l1,H.l2,H.l3,λx b=>H.l4 x (S x b),H.mm,λc o=>by rw[q];exact H.dd c o,λc o=>by rw[q];exact H.QS c o,H.so.sublist (dX.map _)⟩,H.step F p⟩;rw[d.1,d.2.1,d.2.2.1,d.2.2.2];exact K.cV ae;unfold Dd at M;rw[List.filter_map]at M;exact M;rw[v,<-H.abs,List.filter_map];rfl
def Cm.change{x y:CV}(H:Cm h t X s m a A g f i l)(k:x∈a)(o:y.b=x.b)(v:y.num=x.num)(O:y.v=x.v)(P:y.at h' x.b)(B:h'.size=h.size)(J: ∀c,c≠x.b->h'[c]? =h[c]?)(E:s'.L=s.L.map (λz=>if z.num=x.num then y.abs else z))(C:s'.E1=s.E1)(D:s'.E2=s.E2)(d:s'.next=s.next/\s'.kK=s.kK/\s'.over=s.over/\s'.gone=s.gone):
  Cm h' t X s' m (a.map (λz=>if z.num=x.num then y else z)) A g f i l/\cW X h X h':=by
 have F:Fr (λc=>c=x.b) h h':=⟨ae,λc _ d=>J c d⟩;have w: ∀c,c=x.b->c<h.size->l c=some (4+x.num):=λc e _=>by rw[e];exact H.l4 x k
 have K:=H.QT F w;have M: ∀z∈a.map (λz=>if z.num=x.num then y else z),(z=y)\/(z∈a/\z.num≠x.num):=λz b=>by obtain⟨u,L,rfl⟩:=bR.1 b;by_cases e:u.num=x.num;rw[ah e];exact .inl rfl;rw[af e];exact .inr ⟨L,e⟩
 have S:(a.map (λz=>if z.num=x.num then y else z)).map CV.pair=a.map CV.pair:=by
  rw[fu];refine List.map_congr_left λz b=> ?_;show CV.pair (if z.num=x.num then y else z)=z.pair;by_cases e:z.num=x.num;rw[ah e];have:z=x:=by obtain⟨Q,q⟩:=cd b;obtain⟨R,r⟩:=cd k;have I:(a.map CV.num).Nodup:=H.so.imp (λh=>Nat.ne_of_lt h);have G:=(aS.1 q).1;have:=(eK (l:=a.map CV.num) (i:=Q) (j:=R) (dQ G) I).1 (by rw[aP,aP,q,r];simp[e]);subst this;rw[q]at r;exact bL r
  subst this;unfold CV.pair;rw[v,o];rw[af e]
 refine⟨⟨?_,?_,λz b=> ?_,?_,λz b=> ?_,by rw[C];exact K.OA ae,by rw[D];exact K.OB ae,H.l0,H.l1,H.l2,H.l3,λz b=> ?_,H.mm,λc p=>by rw[B];exact H.dd c p,λc p=>by rw[B];exact H.QS c p,?_⟩,H.step F w⟩;rw[d.1,d.2.1,d.2.2.1,d.2.2.2];exact K.cV ae;rw[S];exact K.map ae;rcases M z b with rfl|⟨b,e⟩;rw[o];exact P;exact K.QR z b ae;rw[E,<-H.abs,fu,fu];refine List.map_congr_left λz _=> ?_;show CV.abs (if z.num=x.num then y else z)=if z.num=x.num then y.abs else z.abs;split<;>rfl;rcases M z b with rfl|⟨b,_⟩;rw[O];exact K.Kk x k;exact K.Kk z b;rcases M z b with rfl|⟨b,_⟩;rw[o,v];exact H.l4 x k;exact H.l4 z b;have:(a.map (λz=>if z.num=x.num then y else z)).map CV.num=a.map CV.num:=by rw[fu];refine List.map_congr_left λz _=> ?_;show CV.num (if z.num=x.num then y else z)=z.num;split;rename_i e;rw[v,e];rfl
 rw[this];exact H.so
end oF
end
end Go.Proofs.YticlajoleibdnaaGreatDoor
namespace Go.Proofs
open Go.Den
open IntKind (wrap)
open Int (toNat)
section
open Go.Shelf
def Tryz.OC:Go.Shelf.Ren:=⟨fun|5=>407|8=>471|7=>473|19=>530|20=>207|10=>531|11=>532|12=>533|13=>534|14=>535|15=>536|16=>537|17=>538|18=>539|30=>563|31=>559|32=>560|33=>564|34=>565|35=>566|40=>576|n=>n,fun|23=>49|25=>3|3=>3|32=>185|22=>49|0=>0|44=>306|46=>62|4=>4|36=>677|35=>676|41=>634|5=>5|9=>9|53=>704|57=>707|63=>716|64=>427|n=>n,fun|n=>n⟩
def Tryz.Uy:Go.Proofs.SlLaysM.n5 Tryz.prog Tryz.OC:=by constructor;kernel_rfl;exact⟨Tryz.f407.name,bA,zzkr⟩;exact⟨Tryz.f473.name,bA,zzkr⟩;kernel_rfl;exact⟨Tryz.f531.name,bA,zzkr⟩;exact⟨Tryz.f532.name,bA,zzkr⟩;exact⟨Tryz.f533.name,bA,zzkr⟩;exact⟨Tryz.f534.name,bA,zzkr⟩;exact⟨Tryz.f535.name,bA,zzkr⟩;exact⟨Tryz.f536.name,bA,zzkr⟩;exact⟨Tryz.f537.name,bA,zzkr⟩;exact⟨Tryz.f538.name,bA,zzkr⟩;exact⟨Tryz.f539.name,bA,zzkr⟩;kernel_rfl;kernel_rfl;exact⟨Tryz.f563.name,bA,zzkr⟩;kernel_rfl;kernel_rfl;exact⟨Tryz.f564.name,bA,zzkr⟩;exact⟨Tryz.f565.name,bA,zzkr⟩;exact⟨Tryz.f566.name,bA,zzkr⟩;exact⟨Tryz.f576.name,bA,zzkr⟩;all_goals first|kernel_rfl|(intro _;kernel_rfl)

end
end Go.Proofs
namespace Go.Proofs.YticlajoleibdnaaGreatDoor
open Go.Den
open IntKind (wrap)
open Int (toNat)
section
open Go.Sort
namespace YR
variable {h:Heap} {R:dH} {p:bH} {n c:Nat} {x:List Int}
abbrev iv(X:Int):Value:=.int .i64 X
theorem Ix(o:Own h p n c 1 (x.map iv))(F:n=x.length)(L:x.Nodup)(B:n<=60000)(A: ∀f (z:List Int),Own f p n c 1 (z.map iv)->z.Perm x->z.Pairwise (· < ·)->Fr (aN p) h f->R (.T #[]) f):
  Cl 407 #[.L p n c] h R:=by
 subst F;intro w q;cases o with
 |nil m E i u=>obtain rfl:=List.eq_nil_of_length_eq_zero E;refine(AnyM.slices_Sort_int_none Tryz.Uy p c w).mono ?_;rintro e T ⟨rfl,rfl⟩;exact⟨_,rfl,A _ [] (by rw[q];exact .nil m rfl i rfl) (.refl _) .nil (by rw[q];exact Fr.refl _ _),eJ.refl _⟩
 |row b O C t m d g i r u=>
  subst m;subst q;have s: ∀(z:List Int)(j:Nat),j<z.length->z.toArray[j]! =z.getD j 0:=λz j H=>by simp[getElem!_pos,H]
  refine(AnyM.slices_Sort_int Tryz.Uy b O c x w (λj H=> ?_) (aE d) ae).mono ?_;have H:j<x.length:=by simpa using H
  refine⟨?_,by rw[vi];exact lM d⟩;rw[kk,jY d,s x j H];exact u j _ (by grind);rintro e T ⟨rfl,k,os,rfl⟩;have P:=List.mergeSort_perm x λX y=>decide (X<=y);have S:(x.mergeSort λX y=>decide (X<=y)).Pairwise (· < ·):=by have M:=List.pairwise_mergeSort (le:=λ(X y:Int)=>decide (X<=y)) (λa b c g r=>by simp at g r⊢;omega) (λa b=>by simp;omega) x;have Q:(x.mergeSort λX y=>decide (X<=y)).Nodup:=P.nodup_iff.2 L;exact(M.and Q).imp fun {a b} h=>by grind
  generalize (x.mergeSort λX y=>decide (X<=y))=z at P S⊢;have K:z.length=x.length:=P.length_eq;have I: ∀X,X<w.heap.size->X≠b->(w.heap.modify b (onCells (putCells (Value.int .i64) O z.toArray))++os)[X]? =w.heap[X]? :=λX D U=>by grind
  have G:(w.heap.modify b (onCells (putCells (Value.int .i64) O z.toArray))++os)[b]? =some (.C (putCells (Value.int .i64) O z.toArray C) t (0,0)):=by rw[cH (dQ (aE d)),cX,ah rfl,d];rfl
  refine⟨_,rfl,A _ z (.row b O _ t rfl G g (by unfold putCells;rw[Array.size_mapIdx];exact i) (by simp[K]) λj v H=> ?_) P S ?_,⟨rfl,rfl,rfl⟩⟩;rw[aP]at H;have l:j<z.length:=by grind
  rw[ai l]at H;obtain rfl:=bL H;unfold putCells;have J:O+j<C.size:=ae
  rw[Array.getElem?_mapIdx,Array.getElem?_eq_getElem J,dB,ah ⟨ae,by simp;omega⟩,show O+j - O=j by omega,s z j l,aL,ai l];rfl;refine⟨bO,λX D B=>I X D (λe=>B ⟨_,rfl,e.symm⟩)⟩

end YR
end
section
open Go.mj
namespace oF
open iZ cB
variable {h H:Heap} {R:dH} {t:Nat} {X:Ft} {s:CF} {m A c:Nat} {a:List CV} {S b:Nat→Prop} {l:Nat→Option Nat}
def Zg:Tryz.prog.underlying 49=some (.slice 3):=zzkr
def fJ(e:Cm h t X s m a A S c b l)(f:R (.B true) h):Cl 337 #[.P t 0] h R:=qR ⟨_,aj e.cV,f⟩
def QW(a:List CV):List Int:=a.map (λx=>(x.num:Int))
def Tn(e:Cm h t X s m a A S c b l):(QW a).Pairwise (· < ·):=by have:=e.so;rw[ec]at this;unfold QW;rw[ec];exact this.imp (λh=>ae)
theorem LL(k:Cm h t X s m a A S c b l)(hl:a.length<=60000)(hk: ∀H P r,Own H P a.length r 1 ((QW a).map jc)->(∀y,aN P y->h.size<=y)->Fr No h H->R (.L P a.length r) H):
  Cl 338 #[.P t 0] h R:=by
 refine od (fJ k ⟨_,rfl,ay.of λe' hJ=> ?_⟩);rw[ah rfl];refine⟨_,aj k.cV,De uB k.map λj Z e1 I u=>⟨_,rfl,?_⟩⟩;refine⟨λO o p g=> ∃D:List (Int×Value),o=D.length/\Own g O o p 1 ((D.map (·.1)).map jc)/\(∀y,aN O y->h.size<=y/\y≠j)/\Iter g j m jc (a.map CV.pair) D/\Fr No h g,λ_ o _ _=>a.length - o,
  ⟨[],rfl,.nil rfl rfl rfl rfl,(λy ⟨i,e,_⟩=>by cases e),I,u⟩,?_⟩
 rintro O o p g ⟨D,rfl,M,n,q,B⟩;have a':=q.le;rw[aM]at a';refine GG q (λE=> .inl ⟨rfl,?_⟩) (λi v G hm h' I s1 o1=> .inr ⟨_,_,rfl,?_⟩);subst hJ;have J:=by have:=E.map (·.1);rw[fu]at this;exact this
 have T:=Tn k;have nd:=J.nodup_iff.2 (T.imp (λh=>ae));have b':D.length=a.length:=by rw[E.length_eq,aM]
 refine YR.Ix M bO nd ae λh3 zs L p3 s3 F=>⟨rfl,?_⟩;have:=List.Perm.eq_of_pairwise (λi f' _ _ Z h2=>ae) s3 T (p3.trans J);subst this;rw[b']at L⊢;exact hk h3 O p L (λy f=>(n y f).1) (B.fresh F (λy f=>(n y f).1));refine Dh I ⟨_,_,rfl,_,rfl,bn ?_⟩;have F:Fr No G (G.push (.C #[.I i] 3)):=Fr.push _ _;have Q:Row (G.push (.C #[.I i] 3)) (Sa G.size 0) [jc i]:=gW;have z3:(G.push (.C #[.I i] 3)).size=G.size+1:=bK _;generalize G.push (.C #[.I i] 3)=g3 at F Q z3⊢;have z:Fr (λy=>y=j) g G:=⟨ae,λy _ hn=>o1 y hn⟩;have d':=(M.frame z (λy f e=>(n y f).2 e)).frame F bD;have zf:=u.1;have U:=B.fresh z (λy e=>ae);have V:=U.tt F;have i':j<G.size:=by have⟨_,_,_,_,_,_,hr,_⟩:=I;exact aE hr
 refine du tI Zg d' Q rfl (λv K=>by simp at K;subst K;rfl) ae ae λp4 c4 g4 o4 _ w k4=>⟨_,_,_,rfl,?_⟩;have c': ∀y,aN p4 y->h.size<=y/\y≠j:=by grind
 refine⟨⟨D++ [(i,v)],bO,?_,c',?_,V.fresh w (λy f=>(n y f).1)⟩,?_⟩;grind;have g':=k.map.lt;exact(I.frame F id id).frame w (λf=>(n j f).2 rfl) (λf=>by grind);have:=I.le;rw[ak,aM,List.length_singleton]at this;show a.length - (D.length+1)<a.length - D.length;omega
def look(e:Cm h t X s m a A S c b l){x:CV}(f:x∈a):xK Tryz.prog 481 (.map (some m)) (.I (x.num:Int)) false h (.P x.b 0):=by have:=Mz uB e.map (x.num);rw[((GC e.map.nodup).2 (bR.2 ⟨x,f,rfl⟩))]at this;exact this
variable {C d : Nat} {x : Ev}
end oF
end
section
open Go.mj
namespace oF
open iZ cB gD
variable {h H:Heap} {R:dH} {t:Nat} {X:Ft} {s f:CF} {m a A:Nat} {x:List CV} {S d:Nat→Prop} {b:Nat→Option Nat} {n c:Nat}
variable {z:Cp} {K:Heap->Prop}
def Iy(L:List Cp)(n:Int):List Cp:=L.filter (λe=> !decide ((e.num:Int)=n))
def Km(L:List Cp)(n:Nat)(g:Int)(D:Nat):List Cp:=L.map (λe=>if e.num=n then { e with kQ:=g,dl:=D } else e)
def QX(s:CF)(n:Int):CF:= { s with L:=Iy s.L n,E1:=gO s.E1 n,E2:=gO s.E2 n }
def Es(s:CF)(n:Nat):CF:= { s with L:=Km s.L n 0 0,E2:=gO s.E2 (n:Int) }
def Ah(L:List E)(k:Int):(gO L k).length<=L.length:=gi _ _
structure Small (s:CF):Prop where
 n:s.next<=50000
 l:s.L.length<=50000
 e1:s.E1.length<=50000
 e2:s.E2.length<=50000
def Cm.len(e:Cm h t X s m x a S A d b):x.length=s.L.length:=by rw[<-e.abs,aM]
theorem ft(y: ∀H t X,Ct H t X ⟨[],1,0,0,0, [], []⟩->Xt h X H->R (.P t 0) H):Cl 277 #[] h R:=by
 classical
 refine BZ (bn ?_);have p:Fr No h (h.push (.map #[] 0)):=Fr.push _ _;have M:=jN.push h jc;have Z:(h.push (.map #[] 0)).size=h.size+1:=bK _;generalize h.push (.map #[] 0)=w at p M Z⊢;refine cB.ft λa S q l G k=>⟨_,rfl,cB.ft λA d g o v j=>⟨_,rfl,bn ?_⟩⟩;have F:Fr No g (g.push (.C #[.map (some h.size),.I 1,.I 0,.I 0,.I 0,.P a 0,.P A 0] 484)):=Fr.push _ _;have O:=k.1;have P:=j.1;have E:(g.push (.C #[.map (some h.size),.I 1,.I 0,.I 0,.I 0,.P a 0,.P A 0] 484)).size=g.size+1:=bK _;have B:(g.push (.C #[.map (some h.size),.I 1,.I 0,.I 0,.I 0,.P a 0,.P A 0] 484))[g.size]? =some (.C #[.map (some h.size),.I 1,.I 0,.I 0,.I 0,.P a 0,.P A 0] 484 (0,0)):=aU;generalize g.push (.C #[.map (some h.size),.I 1,.I 0,.I 0,.I 0,.P a 0,.P A 0] 484)=r at F E B⊢;have I: ∀c,S c->w.size<=c/\c<q.size:=λc e=>⟨G c e,l.lt e⟩;have J: ∀c,d c->q.size<=c/\c<g.size:=λc e=>⟨v c e,o.lt e⟩;let b:=λc=>if c=g.size then some 0 else if c=h.size then some 1 else if S c then some 2 else if d c then some 3 else none
 have L: ∀c,S c->b c=some 2:=λc e=>by grind
 have C: ∀c,d c->b c=some 3:=λc e=>by grind
 have D: ∀c,b c≠none->h.size<=c/\c<r.size:=λc e=>by grind
 refine y r g.size ⟨λc=>b c≠none,λ_=>False⟩ ⟨h.size, [],a,S,A,d,b,⟨B,(M.frame (k.tt j) id).frame F id,(λu i=>by cases i),rfl,(λu i=>by cases i),l.frame (j.tt F) bD,o.frame F bD,ah rfl,?_,L,C,(λu i=>by cases i),λc=>dY,λc e=>e.elim,λc e=>(D c e).2,.nil⟩⟩ ⟨p.tt (k.tt (j.tt F)),λc e=> ?_⟩;grind;grind
theorem Uz(i:Cm h t X s m x a S A d b)(u:s.E2.length<1000000)(k:Int)(j: ∀H g l (e:Int),Cm H t g { s with E2:=gO s.E2 k } m x a S A d l->cW X h g H->R (.I e) H):
  Cl 427 #[.P A 0,.I k] h R:=by
 refine cB.CD i.OB u k (λ_ q o F=> ?_) (λv=> ?_);have⟨g,l,p,w,_⟩:=i.QU (s':= { s with E2:=gO s.E2 k }) o (λc r=> .inl r) F rfl rfl rfl ⟨rfl,rfl,rfl,rfl⟩;exact j q g l 0 p w;have e:({ s with E2:=gO s.E2 k })=s:=by rw[mZ v]
 exact j h X b 4 (by grind) (cW.refl _ _)
theorem WS(i:Cm h t X s m x a S A d b)(u:s.E1.length<1000000)(k:Int)(j: ∀H g l (e:Int),Cm H t g { s with E1:=gO s.E1 k } m x a S A d l->cW X h g H->R (.I e) H):
  Cl 427 #[.P a 0,.I k] h R:=by
 refine cB.CD i.OA u k (λ_ q o F=> ?_) (λv=> ?_);have⟨g,l,p,w,_⟩:=i.QV (s':= { s with E1:=gO s.E1 k }) o (λc r=> .inl r) F rfl rfl rfl ⟨rfl,rfl,rfl,rfl⟩;exact j q g l 0 p w;have e:({ s with E1:=gO s.E1 k })=s:=by rw[mZ v]
 exact j h X b 4 (by grind) (cW.refl _ _)
theorem OD(e:Ct h t X s)(sm:Small s)(k:Int)(q: ∀H j,Ct H t j (QX s k)->cW X h j H->R (.T #[]) H):
  Cl 365 #[.P t 0,.I k] h R:=by
 have⟨m,x,a,S,A,d,b,e⟩:=e;have:=sm.e1;have:=sm.e2;refine oR ⟨_,aj e.cV,Uz e ae k λB y L _ i u=>⟨_,rfl,_,aj i.cV,WS i (by grind) k λC o D _ g v=>⟨_,rfl,_,aj g.cV,PU uB g.map λp M r O=>⟨rfl,?_⟩⟩⟩⟩;have⟨l,w⟩:=g.del (s':=QX s k) M r O rfl rfl rfl ⟨rfl,rfl,rfl,rfl⟩;exact q p o ⟨_,_,_,_,_,_,_,l⟩ (u.trans (v.trans w))
def Et(j:Cm h t X s m x a S A d b)(i:z∈s.L): ∃g∈x,g.abs=z:=by rw[<-j.abs]at i;have⟨g,k,e⟩:=bR.1 i;exact⟨g,k,e⟩
def Cm.WT{g:CV}{k:Int}{D:Nat}(l:Cm h t X s m x a S A d b)(q:g∈x)(G: ∀H,Cm H t X { s with L:=Km s.L g.num k D } m (x.map (λz=>if z.num=g.num then { g with kQ:=k,dl:=D } else z)) a S A d b->cW X h X H->K H):
  aI h (((AA g.b 0):Addr).add 8) (.I k) λr=>aI r (((AA g.b 0):Addr).add 9) (.U (D:Int)) K:=by
 rw[hH,hH];have E:=l.QR g q;refine aY E bO λr C T O=>aY C bO λv B U P=> ?_;have L:({ g with kQ:=k,dl:=D } :CV).at v g.b:=B;obtain⟨y,Q⟩:=l.change (s':= { s with L:=Km s.L g.num k D }) (y:= { g with kQ:=k,dl:=D }) q rfl rfl rfl L ae (λc w=>by rw[P c w,O c w]) (by
  show Km s.L g.num k D=_;unfold Km;refine List.map_congr_left λz M=> ?_;by_cases e:z.num=g.num;rw[ah e,ah e];obtain⟨u,J,rfl⟩:=Et l M;have e:u.num=g.num:=e;have:u=g:=by obtain⟨i,o⟩:=cd J;obtain⟨j,p⟩:=cd q;have I:(x.map CV.num).Nodup:=l.so.imp (λh=>Nat.ne_of_lt h);have F:=(aS.1 o).1;have:=(eK (l:=x.map CV.num) (i:=i) (j:=j) (dQ F) I).1 (by rw[aP,aP,o,p];simp[e]);subst this;rw[o]at p;exact bL p
  rw[this];rfl;rw[af e,af e]) rfl rfl ⟨rfl,rfl,rfl,rfl⟩
 exact G v y Q
def To(e:Ct h t X s)(sm:Small s)(q:z∈s.L)(p: ∀H j,Ct H t j (Es s z.num)->cW X h j H->R (.T #[]) H):
  Cl 366 #[.P t 0,.I (z.num:Int)] h R:=by
 have⟨m,x,a,S,A,d,b,e⟩:=e;obtain⟨w,i,rfl⟩:=Et e q;have:=sm.e2;refine qS ⟨_,aj e.cV,Uz e ae _ λv l L _ g r=>⟨_,rfl,_,aj g.cV,_,look g i,_,aj g.cV,_,look g i,(av.2 (g.WT i λo k u=>p o l ⟨_,_,_,_,_,_,_,k⟩ (r.trans u)))⟩⟩
def Ct.WU(e:Ct h t X s)(p:s.over<=100000)(j: ∀H,Ct H t X { s with over:=s.over+1 } ->cW X h X H->K H):
  ∃(u:Int),aQ h (AA t 3)=some (.I u)/\aI h (AA t 3) (.I (IntKind.wrap .i64 (u+1))) K:=by
 have⟨m,x,a,S,A,d,b,e⟩:=e;refine⟨_,aj e.cV,aY e.cV bO λi C k o=> ?_⟩;rw[eY]at C;have⟨g,l⟩:=e.field (s':= { s with over:=s.over+1 }) rfl rfl rfl C k o;exact j i ⟨_,_,_,_,_,_,_,g⟩ l

end oF
end
section
namespace pg
open nz (It)
open iZ (Ev)
variable {h H:Heap} {s j:Nat} {X:Ft}
structure SS where
 A:List me.me
 G:List nB.Rg
 C:oF.CF
 B:nz.BS
 Q:List It
 e:Ev
 tm:Nat
 sq:Nat
 now:Nat
 rf:Nat
structure GY where
 t:Nat
 r:Nat
 c:Nat
 o:Nat
 p:Nat
 k:Nat
abbrev Mk(h:Heap)(k:Nat)(e:Ev)(t sq:Nat):Prop:=h[k]? =some (.cells #[.bool e.lS,.int .u64 e.node,.int .u64 e.iA,.string e.host,.string e.kj,.int .u64 (t:Int),.int .u64 (sq:Int),.bool true] 474 (0,0))
abbrev Bk(h:Heap)(s:Nat)(I:GY)(n r:Nat):Prop:=h[s]? =some (.cells #[pt I.t,pt I.r,pt I.c,pt I.o,pt I.p,pt I.k,.int .u64 (n:Int),.int .i64 (r:Int)] 160 (0,0))
def part(σ:SS)(I:GY)(s:Nat)(i:Nat)(h:Heap)(X:Ft):Prop:=match i with
 |0=>me.Has h I.t X σ.A
 |1=>nB.Tb h I.r X σ.G
 |2=>oF.Ct h I.c X σ.C
 |3=>nz.GX h I.o X σ.B
 |4=> ∃m,Pu h I.p m σ.Q/\only X λy=>y=I.p\/y=m
 |5=>Mk h I.k σ.e σ.tm σ.sq/\only X λy=>y=I.k
 |6=>Bk h s I σ.now σ.rf/\only X λy=>y=s
 |_=> ∀y,¬In X y
theorem part.lt{σ:SS}{I:GY}{i:Nat}(a:part σ I s i h X)(y:Nat)(hy:In X y):y<h.size:=by rcases i with _|_|_|_|_|_|_|i;exact me.Has.lt a y hy;exact nB.Tb.lt a y hy;exact oF.Ct.lt a y hy;exact nz.GX.lt a y hy;have⟨m,P,o⟩:=a;rcases hy with hy|hy;rcases(o y).1.1 hy with rfl|rfl;exact P.lt.1;exact P.lt.2;exact absurd hy (o y).2;have⟨P,o⟩:=a;rcases hy with hy|hy;grind;grind;have⟨P,o⟩:=a;rcases hy with hy|hy;rw[(o y).1.1 hy];exact aE P;exact absurd hy (o y).2;exact absurd hy (a y)
def part.frame{σ:SS}{I:GY}{i:Nat}{Q:fZ}(a:part σ I s i h X)(f:Fr Q h H)(b: ∀y,In X y->¬Q y):part σ I s i H X:=by rcases i with _|_|_|_|_|_|_|i;exact me.Has.frame a f b;exact nB.Tb.frame a f b;exact oF.Ct.frame a f b;exact nz.GX.frame a f b;have⟨m,P,o⟩:=a;exact⟨m,P.frame f (b _ (.inl ((o _).1.2 (.inl rfl)))) (b _ (.inl ((o _).1.2 (.inr rfl)))),o⟩;have⟨P,o⟩:=a;exact⟨f.get P (b _ (.inl ((o _).1.2 rfl))),o⟩;have⟨P,o⟩:=a;exact⟨f.get P (b _ (.inl ((o _).1.2 rfl))),o⟩;exact a
def part.IT{σ:SS}{I:GY}{i:Nat}(b:part σ I s i h X)(y:Nat)(d:X.M y)(c:X.D y):False:=by rcases i with _|_|_|_|_|_|_|i;exact me.Has.IT b y d c;have⟨m,b⟩:=b;exact b.d y c;have⟨m,x,A,e,g,f,l,b⟩:=b;exact(b.mm y).1 d (b.dd y c).1;have⟨L,⟨n,k,x,a,S,b⟩,_⟩:=b;exact b.IT y d c;have⟨m,P,o⟩:=b;exact(o y).2 c;exact(b.2 y).2 c;exact(b.2 y).2 c;exact b y (.inl d)
def part.st(σ:SS)(I:GY)(s:Nat):HT (part σ I s):=⟨part.lt,part.frame,part.IT⟩
def Pt(h:Heap)(s:Nat)(X:Ft)(I:GY)(σ:SS):Prop:=Pj (part σ I s) h X
variable {I : GY} {σ : SS}
def Pt.lt(a:Pt h s X I σ)(y:Nat)(b:X.M y\/X.D y):y<h.size:=Pj.lt (part.st _ _ _) a y b
def Pt.frame{Q:fZ}(a:Pt h s X I σ)(f:Fr Q h H)(b: ∀y,X.M y\/X.D y->¬Q y):Pt H s X I σ:=Pj.frame (part.st _ _ _) a f b
def Pt.on(a:Pt h s X I σ)(f:Fr No h H):Pt H s X I σ:=a.frame f bD
def Pt.use(b:Pt h s X I σ)(j:Nat): ∃Z,part σ I s j h Z/\(∀y,Z.M y->X.M y)/\(∀y,Z.D y->X.D y)/\∀H z a,part a I s j H z->cW Z h z H->(∀i,i≠j->part a I s i=part σ I s i)->
  ∃x,Pt H s x I a/\cW X h x H/\(∀y,z.D y->x.D y)/\∀y,h.size<=y->x.M y\/x.D y->z.M y\/z.D y:=by
 obtain⟨Z,c,d,e,go⟩:=Pj.use (part.st σ I s) b j;exact⟨Z,c,d,e,λH z a=>go H z (part a I s)⟩
def Pt.cV(a:Pt h s X I σ):Bk h s I σ.now σ.rf:=by have⟨y,b,_⟩:=a;exact(b 6).1
def Pt.box(a:Pt h s X I σ): ∃Z,nz.GX h I.o Z σ.B:=by have⟨y,b,_⟩:=a;exact⟨_,b 3⟩
def Vx{i:Nat}(a:oF.CF)(b:i≠2):part { σ with C:=a } I s i=part σ I s i:=by rcases i with _|_|_|_|_|_|_|i<;>first|rfl|omega
def Vy{i:Nat}(a:nz.BS)(b:i≠3):part { σ with B:=a } I s i=part σ I s i:=by rcases i with _|_|_|_|_|_|_|i<;>first|rfl|omega
def QY{i:Nat}(a:List It)(b:i≠4):part { σ with Q:=a } I s i=part σ I s i:=by rcases i with _|_|_|_|_|_|_|i<;>first|rfl|omega
def Vz{i:Nat}(a b:Nat)(c:i≠6):part { σ with now:=a,rf:=b } I s i=part σ I s i:=by rcases i with _|_|_|_|_|_|_|i<;>first|rfl|omega
end pg
end
section
open Go.mj
namespace oF
open iZ cB gD
variable {h H:Heap} {R:dH} {t:Nat} {X:Ft} {s d:CF} {m A b:Nat} {x:List CV} {S a:Nat→Prop} {l:Nat→Option Nat} {p:bH} {n c:Nat}
variable {K:List Int} {i:Nat} {k:Int} {f:CF->Int->CF}
def WV(e:Ev)(len:Nat)(T:Int):Bool:=dD e && (!decide (e=Ev.zero) && (decide (1<=len) && (decide (len<=600) && decide (T<=1099511627776))))
def Wa(L:List Cp)(e:Ev):List Cp:=L.filter (λy=>decide (y.e=e))
def Vw(s:CF)(e:Ev)(D:cO)(T:Nat):Int:=if WV e D.length (T:Int)=true then(if(Wa s.L e).length≥16 then 15 else 0)else 1
def Iw(s:CF)(e:Ev)(D:cO)(T:Nat):CF:=if Vw s e D T=0 then { s with L:=s.L++ [⟨s.next,e,D,T,0,0⟩],next:=s.next+1,E1:=Yd s.E1 (s.next:Int) (T:Int) } else s
def mG(s:CF)(k:Int):CF:= { QX s k with over:=s.over+1 }
def Small.rem(sm:Small s)(k:Int):Small (QX s k):=
 ⟨sm.n,cw (gi _ _) sm.l,cw (Ah _ _) sm.e1,cw (Ah _ _) sm.e2⟩
def Small.free(sm:Small s)(k:Nat):Small (Es s k):=
 ⟨sm.n,by show(Km s.L k 0 0).length<=_;unfold Km;rw[aM];exact sm.l,sm.e1,cw (Ah _ _) sm.e2⟩
def Kn(s:CF):Prop:= ∀k∈keys s.E2,∃z∈s.L,(z.num:Int)=k
theorem Kn.rem(g:Kn s)(k:Int):Kn (QX s k):=λj r=>by obtain⟨e,q,rfl⟩:=bR.1 r;have⟨o,v⟩:=bW.1 q;have⟨z,u,E⟩:=g e.1 (cm o);exact⟨z,bW.2 ⟨u,by grind⟩,E⟩
def OE(L:List Cp)(n:Nat)(e:Int)(B:Nat){z:Cp}(g:z∈L): ∃y∈Km L n e B,y.num=z.num:=by refine⟨_,cm g,?_⟩;split<;>rfl
def Ct.WW(e:Ct h t X s)(sm:Small s)(g:Int)(D: ∀H j P C,Ct H t j { s with E1:=cB.rest s.E1 g } ->cW X h j H->Own H P (cB.due s.E1 g).length C 1 (kc (cB.due s.E1 g))->(∀y,aN P y->h.size<=y/\¬j.M y)->R (.slice P (cB.due s.E1 g).length C) H):
  ∃(u:bH),aQ h (AA t 5)=some (.Q u)/\Cl 364 #[.Q u,.U g] h R:=by
 have⟨m,x,A,S,b,a,l,e⟩:=e;have:=sm.e1;refine⟨_,aj e.cV,cB.Iv e.OA ae g λw I v q O G F=> ?_⟩;have⟨j,L,r,J,z⟩:=e.QV (s':= { s with E1:=cB.rest s.E1 g }) q (λc B=> .inl B) F rfl rfl rfl ⟨rfl,rfl,rfl,rfl⟩;refine D w j I v ⟨_,_,_,_,_,_,_,r⟩ J O (λy o=>⟨G y o,λE=> ?_⟩);have o:=G y o;rcases z y E with h2|h2;have:=e.QS y ((e.mm y).1 h2);omega;have:=e.OA.lt h2;omega
def Ct.WX(e:Ct h t X s)(sm:Small s)(g:Int)(D: ∀H j P C,Ct H t j { s with E2:=cB.rest s.E2 g } ->cW X h j H->Own H P (cB.due s.E2 g).length C 1 (kc (cB.due s.E2 g))->(∀y,aN P y->h.size<=y/\¬j.M y)->R (.slice P (cB.due s.E2 g).length C) H):
  ∃(u:bH),aQ h (AA t 6)=some (.Q u)/\Cl 364 #[.Q u,.U g] h R:=by
 have⟨m,x,A,S,b,a,l,e⟩:=e;have:=sm.e2;refine⟨_,aj e.cV,cB.Iv e.OB ae g λw I v q O G F=> ?_⟩;have⟨j,L,r,J,z⟩:=e.QU (s':= { s with E2:=cB.rest s.E2 g }) q (λc B=> .inl B) F rfl rfl rfl ⟨rfl,rfl,rfl,rfl⟩;refine D w j I v ⟨_,_,_,_,_,_,_,r⟩ J O (λy o=>⟨G y o,λE=> ?_⟩);have o:=G y o;rcases z y E with h2|h2;have:=e.QS y ((e.mm y).1 h2);omega;have:=e.OB.lt h2;omega
structure Eu (h:Heap) (X:Ft) (p:bH) (n c:Nat) (K:List Int):Prop where
 own:Own h p n c 1 (K.map jc)
 len:n=K.length
 ap: ∀y,aN p y->¬X.M y
def Eu.step{g:Ft}(e:Eu h X p n c K)(o:cW X h g H):Eu H g p n c K:=
 ⟨e.own.frame o.fr e.ap,e.len,λy j q=>by rcases o.nT y q with h1|h1;exact e.ap y j h1;have:=e.own.dW j;omega⟩
theorem Eu.at{j:Int->Prop}(g:Eu h X p n c K)(q:K[i]? =some k)(r:j k):
  ((0:Int)<=(i:Int)/\(i:Int)<(n:Int))/\aJ p λo=> ∃t:Int,aQ h (o.add (Int.toNat (i:Int)*1))=some (.I t)/\j t:=by
 have w:=(aS.1 q).1;have y:=g.len;have⟨u,v,e⟩:=g.own.addr ae;subst e;refine⟨ae,av.2 ⟨k,(g.own.cell (by grind)),r⟩⟩
def uC(e: ∀s k,Small s->Small (f s k)): ∀(K:List Int)(s:CF),Small s->Small (K.foldl f s)
 | [],_,h=>h
 |k::K,s,h=>uC e K (f s k) (e s k h)
def GZ: ∀(K:List Int)(s:CF),(K.foldl mG s).over=s.over+K.length
 | [],_=>rfl
 |k::K,s=>by rw[List.foldl_cons,GZ K,bw];show s.over+1+K.length=_;omega
def G0: ∀(K:List Int)(s:CF),Kn s->Kn (K.foldl mG s)
 | [],_,h=>h
 |k::K,s,h=>G0 K (mG s k) (h.rem k)
def Ew(e:K[i]? =some k)(s:CF):(K.take (i+1)).foldl f s=f ((K.take i).foldl f s) k:=by rw[bt,e,List.foldl_append];rfl
def Ex(s:CF)(e:Int):CF:=
 let g:=(keys (cB.due s.E1 e)).foldl mG { s with E1:=cB.rest s.E1 e }
 (keys (cB.due g.E2 e)).foldl (λs k=>Es s k.toNat) { g with E2:=cB.rest g.E2 e }
def G1: ∀(K:List Int)(s:CF)(z:Cp),z∈s.L->∃y∈(K.foldl (λs k=>Es s k.toNat) s).L,y.num=z.num
 | [],s,z,g=>⟨z,g,rfl⟩
 |k::K,s,z,g=>by have⟨y,o,e⟩:=OE s.L k.toNat 0 0 g;have⟨u,j,E⟩:=G1 K (Es s k.toNat) y o;exact⟨u,j,E.trans e⟩
def Ko(L:List E)(e:Int):(cB.rest L e).length<=L.length:=(List.dropWhile_sublist _).length_le
theorem yE(B:Ct h t X s)(sm:Small s)(ho:s.over<=40000)(hE:Kn s)(o:Int)(I: ∀H G J U,Ct H t G (Ex s o)->cW X h G H->Eu H G J (cB.due s.E1 o).length U (keys (cB.due s.E1 o))->(∀y,aN J y->h.size<=y)->R (.slice J (cB.due s.E1 o).length U) H):
  Cl 303 #[.P t 0,.U o] h R:=by
 have s':(cB.due s.E1 o).length<=s.E1.length:=(List.takeWhile_sublist _).length_le;have q':=sm.e1;have hm: ∀{R:dH},R (.B true) h->Cl 337 #[.P t 0] h R:=λI=>by have⟨m,x,A,S,b,a,l,B⟩:=B;exact fJ B I
 refine qT (hm ⟨_,rfl,?_⟩);rw[fe];refine B.WW sm o λh2 Q P D H2 o' o2 g2=>⟨_,_,_,rfl,?_⟩;have k':Small { s with E1:=cB.rest s.E1 o } :=⟨sm.n,sm.l,cw (Ko _ _) sm.e1,sm.e2⟩;have kl:(keys (cB.due s.E1 o)).length=(cB.due s.E1 o).length:=by unfold keys;rw[aM]
 have N2:Eu h2 Q P (cB.due s.E1 o).length D (keys (cB.due s.E1 o)):=⟨o2,kl.symm,λy w=>(g2 y w).2⟩;have n': ∀(s:CF) k,Small s->Small (mG s k):=λs k h=>⟨(h.rem k).n,(h.rem k).l,(h.rem k).e1,(h.rem k).e2⟩;refine⟨λu g=> ∃(i:Nat)(r:Ft),u=(i)/\i<=(cB.due s.E1 o).length/\Ct g t r (((keys (cB.due s.E1 o)).take i).foldl mG { s with E1:=cB.rest s.E1 o })/\cW X h r g/\Eu g r P (cB.due s.E1 o).length D (keys (cB.due s.E1 o)),λu _=>(cB.due s.E1 o).length - u.toNat,⟨0,Q,rfl,bg _,H2,o',N2⟩,?_⟩;rintro _ g ⟨i,r,rfl,hi,C,f',F⟩;have v:=uC n' ((keys (cB.due s.E1 o)).take i) _ k';by_cases h':i<(cB.due s.E1 o).length;rw[iE];have⟨k,z⟩:=Wm (keys (cB.due s.E1 o)) i;refine F.at z (OD C v k λg3 X3 H3 b'=>⟨rfl,H3.WU ?_ λg4 H4 c'=> ?_⟩);show(((keys (cB.due s.E1 o)).take i).foldl mG { s with E1:=cB.rest s.E1 o }).over<=100000;rw[GZ,bM];show s.over+_<=100000;omega;rw[eY];refine⟨⟨i+1,X3,ae,ae,?_,f'.trans (b'.trans c'),(F.step b').step c'⟩,by grind⟩;rw[Ew z];exact H4;rw[af (by grind)];obtain rfl:i=(cB.due s.E1 o).length:=ae
 have ta:(keys (cB.due s.E1 o)).take (cB.due s.E1 o).length=keys (cB.due s.E1 o):=bz ae;rw[ta]at C v;have a':Kn ((keys (cB.due s.E1 o)).foldl mG { s with E1:=cB.rest s.E1 o }):=G0 _ _ hE;generalize i':(keys (cB.due s.E1 o)).foldl mG { s with E1:=cB.rest s.E1 o } =q at C v a';refine C.WX v o λh6 T p6 V H6 d' o6 g6=>⟨_,_,_,rfl,?_⟩;have j':(keys (cB.due q.E2 o)).length=(cB.due q.E2 o).length:=by unfold keys;rw[aM]
 have l':Small { q with E2:=cB.rest q.E2 o } :=⟨v.n,v.l,v.e1,cw (Ko _ _) v.e2⟩;have N6:Eu h6 T p6 (cB.due q.E2 o).length V (keys (cB.due q.E2 o)):=⟨o6,j'.symm,λy w=>(g6 y w).2⟩;have r':=v.e2;have t':(cB.due q.E2 o).length<=q.E2.length:=(List.takeWhile_sublist _).length_le;refine⟨λu g=> ∃(i:Nat)(r:Ft),u=(i:Int)/\i<=(cB.due q.E2 o).length/\Ct g t r (((keys (cB.due q.E2 o)).take i).foldl (λs k=>Es s k.toNat) { q with E2:=cB.rest q.E2 o })/\cW X h r g/\Eu g r p6 (cB.due q.E2 o).length V (keys (cB.due q.E2 o))/\Eu g r P (cB.due s.E1 o).length D (keys (cB.due s.E1 o)),λu _=>(cB.due q.E2 o).length - u.toNat,⟨0,T,rfl,bg _,H6,f'.trans d',N6,F.step d'⟩,?_⟩;rintro _ g7 ⟨j,X7,rfl,hj,E,e',O,M⟩;have m':=uC (f:=λs k=>Es s k.toNat) (λs k h=>h.free k.toNat) ((keys (cB.due q.E2 o)).take j) _ l';by_cases h':j<(cB.due q.E2 o).length;rw[iE];have⟨k,z⟩:=Wm (keys (cB.due q.E2 o)) j;have g':k∈keys q.E2:=by have h1:=aW z;unfold keys at h1⊢;obtain⟨e,he,rfl⟩:=bR.1 h1;exact cm ((List.takeWhile_sublist _).subset he)
 obtain⟨p',hz,ez⟩:=a' k g';obtain⟨y,w,ey⟩:=G1 ((keys (cB.due q.E2 o)).take j) { q with E2:=cB.rest q.E2 o } p' hz;have Z:k=(y.num:Int):=ae
 refine O.at z ?_;rw[Z];refine To E m' w λg8 X8 H8 L=>⟨rfl,?_⟩;rw[eY];refine⟨⟨j+1,X8,ae,ae,?_,e'.trans L,O.step L,M.step L⟩,by grind⟩;rw[Ew z,Z,aG];exact H8;rw[af (by simp;omega)];obtain rfl:j=(cB.due q.E2 o).length:=ae
 rw[bz ae]at E;refine I g7 X7 P D ?_ e' M (λy w=>(g2 y w).1);unfold Ex;rw[i'];exact E
abbrev Cp.val(z:Cp)(p:bH)(c:Nat):Value:=.agg #[.int .i64 (z.num:Int),.bool z.e.lS,.int .u64 z.e.node,.int .u64 z.e.iA,.string z.e.host,.string z.e.kj,.slice p z.d.length c,.int .u64 (z.gZ:Int),.int .i64 z.kQ,.int .u64 (z.dl:Int)]
def WY(e:Int)(D:Nat):Prop:=1<=e/\e<=2^40/\D<=2^40

end oF
end
section
open Go.mj
namespace oF
open iZ cB gD
variable {h:Heap} {t:Nat} {X:Ft} {s s':CF} {n:Nat} {now:Int}
variable {z:Cp} {L:List Cp} {ks:List Int}
structure Ord (s:CF):Prop where
 nd:(s.L.map Cp.num).Nodup
 o1:kA s.E1
 o2:kA s.E2
 n1:(keys s.E1).Nodup
 n2:(keys s.E2).Nodup
def Ct.ord(H:Ct h t X s):Ord s:=by have⟨m,x,A,S,b,a,l,H⟩:=H;refine⟨?_,H.OA.sorted,H.OB.sorted,H.OA.nodup,H.OB.nodup⟩;rw[<-H.abs,fu];exact H.so.imp (λh=>Nat.ne_of_lt h)
structure WZ (s:CF):Prop where
 bd: ∀z∈s.L,1<=z.num/\z.num<s.next/\z.d.length<=600
 sp: ∀z∈s.L,0<=z.kQ
 e1: ∀e,e∈s.E1↔ ∃z∈s.L,e=((z.num:Int),(z.gZ:Int))
 e2: ∀e,e∈s.E2↔ ∃z∈s.L,z.kQ≠0/\e=((z.num:Int),(z.dl:Int))
 Vs:s.next=1+s.L.length+s.kK+s.over+s.gone
theorem Ord.inj(O:Ord s){y:Cp}(d:z∈s.L)(c:y∈s.L)(e:z.num=y.num):z=y:=by
 have⟨i,f⟩:=cd d;have⟨j,g⟩:=cd c;by_cases b:i=j;grind;exfalso;have H:(s.L.map Cp.num)[i]? =some z.num:=by grind
 have a:(s.L.map Cp.num)[j]? =some y.num:=by grind
 have:=(eK (by grind) O.nd).1 (H.trans ((bY some e).trans a.symm));exact b this
def QZ{k:Int}:z∈Iy L k↔z∈L/\(z.num:Int)≠k:=by unfold Iy;simp[bW]
theorem CI: ∀{L:List Cp},(L.map Cp.num).Nodup->∀{z:Cp},z∈L->(Iy L (z.num:Int)).length+1=L.length
 | [],_,z,hz=>by cases hz
 |y::l,a,z,hz=>by rw[cp,fT]at a;unfold Iy;rw[dK];rcases bG.1 hz with rfl|hz;rw[af bO,cZ.2 (λx H=> ?_),bw];have:x.num≠z.num:=λe=>a.1 (by grind);simp;omega;rw[ah (by grind),bw,bw];have:=CI a.2 hz;unfold Iy at this;omega
theorem jd: ∀{L:List E},kA L->cB.due L now=L.filter (lY now)/\cB.rest L now=L.filter (λe=> !lY now e)
 | [],_=>⟨rfl,rfl⟩
 |e::r,c=>by
  have b:=gj.1 c;have⟨i,I⟩:=jd b.2;unfold cB.due at i⊢;unfold cB.rest at I⊢;by_cases f:lY now e=true;simp_all;have a:lY now e=false:=by grind
  have all: ∀x∈r,lY now x=false:=by intro x H;have h1:=b.1 x H;have d:=fh a;apply aA;rcases h1 with h1|h1<;>omega
  rw[List.takeWhile_cons,List.dropWhile_cons,dK,dK,a];simp only[aV,bQ,Bool.not_false,cI];refine⟨?_,?_⟩;simp_all;congr 1;symm;rw[cZ];intro x H;rw[all x H];rfl
def Kq(L:List Cp)(ks:List Int):List Cp:=L.filter (λz=> !decide ((z.num:Int)∈ks))
def Tp(L:List E)(ks:List Int):List E:=L.filter (λe=> !decide (e.1∈ks))
def Q0(L:List Cp):Kq L []=L:=by exact cZ.2 (λ_ _=>bO)
theorem OF(L:List Cp)(k:Int)(ks:List Int):Kq (Iy L k) ks=Kq L (k::ks):=by unfold Kq Iy;rw[List.filter_filter];apply List.filter_congr;intro x _;by_cases H:(x.num)=k;simp[H];grind
theorem Nc: ∀(ks:List Int)(L:List Cp),(L.map Cp.num).Nodup->ks.Nodup->(∀k∈ks,∃z∈L,(z.num:Int)=k)->(Kq L ks).length+ks.length=L.length
 | [],L,_,_,_=>by rw[Q0];rfl
 |k::ks,L,a,g,H=>by obtain⟨z,f,rfl⟩:=H k bO;rw[<-OF,bw];have i:=CI a f;have b:=fT.1 g;have l:=Nc ks (Iy L (z.num)) (List.Pairwise.sublist (List.Sublist.map _ dX) a) b.2 (λj c=>by have⟨y,d,e⟩:=H j (cD _ c);exact⟨y,QZ.2 ⟨d,λE=>b.1 (by grind)⟩,e⟩);omega
def pT :z∈Kq L ks↔z∈L/\(z.num:Int)∉ks:=by unfold Kq;simp[bW]
def Kr{L:List E}{e:E}:e∈Tp L ks↔e∈L/\e.1∉ks:=by unfold Tp;simp[bW]
theorem W0 (O : Ord s) (x : Ev) : ((Wa s.L x).map (λz => (z.num : Int))).Nodup := by
  have : ((Wa s.L x).map Cp.num).Nodup := List.Pairwise.sublist (List.Sublist.map _ List.filter_sublist) O.nd
  have e : (Wa s.L x).map (λz => (z.num : Int)) = ((Wa s.L x).map Cp.num).map (λn : Nat => (n : Int)) := by simp
  rw [e]
  exact List.Pairwise.map _ (λa b h => by omega) this
theorem WZ.outs (ok : WZ s) (O : Ord s) {ks : List Int} (nk : ks.Nodup) (hk : ∀ k ∈ ks, ∃ z ∈ s.L, (z.num : Int) = k) (hL : s'.L = Kq s.L ks) (h1 : s'.E1 = Tp s.E1 ks) (h2 : s'.E2 = Tp s.E2 ks) (hn : s'.next = s.next) (hc : s'.kK + s'.over + s'.gone = s.kK + s.over + s.gone + ks.length) : WZ s' := by
  refine ⟨λy hy => ?_, λy hy => ?_, λe => ?_, λe => ?_, ?_⟩
  · rw [hL, pT] at hy; rw [hn]; exact ok.bd y hy.1
  · rw [hL, pT] at hy; exact ok.sp y hy.1
  · rw [h1, Kr, ok.e1, hL]
    constructor
    · rintro ⟨⟨y, hy, rfl⟩, Yi⟩; exact ⟨y, pT.2 ⟨hy, Yi⟩, rfl⟩
    · rintro ⟨y, hy, rfl⟩; have := pT.1 hy; exact ⟨⟨y, this.1, rfl⟩, this.2⟩
  · rw [h2, Kr, ok.e2, hL]
    constructor
    · rintro ⟨⟨y, hy, hs, rfl⟩, Yi⟩; exact ⟨y, pT.2 ⟨hy, Yi⟩, hs, rfl⟩
    · rintro ⟨y, hy, hs, rfl⟩; have := pT.1 hy; exact ⟨⟨y, this.1, hs, rfl⟩, this.2⟩
  · have := Nc ks s.L O.nd nk hk
    have := ok.Vs
    rw [hn, hL]; omega

end oF
end
section
namespace iZ
variable {h:Heap} {R:dH}
def gP(x:Ev):cO:=
 if x=.zero then [100,116,110,58,110,111,110,101]
 else if x.lS=true then [105,112,110,58]++Lib.decDigits x.node.toNat++ [46]++Lib.decDigits x.iA.toNat
 else [100,116,110,58]++([47,47]++x.host.data.toList++ [47]++x.kj.data.toList)
def mH{u:Nat}(a:u<18446744073709551616):(Lib.decDigits u).length<=20:=by rw[Lib.decDigits_length];by_cases H:u<10;rw[Lib.nDigits_small H];omega;have:=Lib.numDigits_eq u ae a;split at this<;>omega
theorem pU{x:Ev}(H:dD x=true)(b:0<=x.iA):(gP x).length<=100:=by unfold gP;unfold dD at H;by_cases z:x=.zero;simp_all;rw[af z]at H⊢;by_cases a:x.lS=true;rw[ah a]at H⊢;have H:=bj H;have l:=mH (u:=x.node.toNat) ae;have L:=mH (u:=x.iA.toNat) ae;simp only[ak,bw,bZ];omega;rw[af a]at H⊢;simp only[bE,bN]at H;simp only[ak,bw,bZ,lW];omega
theorem mF(x:Ev)(T:jk.vx h)(w:0<=x.iA)(H: jA h R (.T #[.S (if dD x=true then str (gP x)else⟨#[]⟩),.I (if dD x=true then 0 else 3)])):Cl 263 #[jQ x] h R:=by
 refine FU (aw.box λb v u k g=>aw.ld k (fA x λi e=>⟨_,rfl,?_⟩));by_cases a:dD x=true;simp only[a,cI]at H;rw[af (by grind)];have c:=e.get k id;have F:=g.tt e;have t:=T.on F;refine aw.ld c ⟨_,Dx (y:=.zero) rfl rfl,?_⟩;unfold gP at H;unfold dD at a;by_cases z:x=.zero;rw[ah (aq z)];rw[ah z]at H;exact H i F;rw[af (by grind)];rw[af z]at a;simp only[af z]at H;refine⟨_,aj c,?_⟩;have E:(⟨#[105,112,110,58]⟩)=str [105,112,110,58]:=rfl;have m:(⟨#[46]⟩)=str [46]:=rfl;have n:(⟨#[100,116,110,58]⟩)=str [100,116,110,58]:=rfl;by_cases d:x.lS=true;rw[ah d]at a⊢;simp only[ah d]at H;have a:=bj a;have L:=mH (u:=x.node.toNat) ae;have q:=mH (u:=x.iA.toNat) ae;have r:x.node=((x.node.toNat:Nat)):=ae
 have s:x.iA=((x.iA.toNat:Nat)):=ae
 rw[E,m,Vn];refine⟨_,aj c,_,aj c,?_⟩;rw[r];refine jk.jm t ae λj f=>⟨_,rfl,aj (f.get c id),?_⟩;have C:(⟨(Lib.decDigits x.node.toNat).toArray⟩)=str (Lib.decDigits x.node.toNat):=rfl;have l:(⟨(Lib.decDigits x.iA.toNat).toArray⟩)=str (Lib.decDigits x.iA.toNat):=rfl;rw[C];refine⟨?_,?_,?_⟩;rw[ir,ir];simp;omega;rw[lF,ir,ir];simp;omega;rw[s];refine jk.jm (t.on f) ae λp o=>⟨_,rfl,?_⟩;rw[l];refine⟨?_,?_⟩;rw[lF,lF,ir,ir];simp;omega;rw[lF,lF,lF];exact H p (F.tt (f.tt o));rw[af d]at a⊢;simp only[af d]at H;simp only[bE,bN]at a;refine aw.ld c (MZ x ae ae λj f=>⟨_,rfl,?_⟩);have L:=lW x.host;have q:=lW x.kj;rw[n,Vn];refine⟨?_,?_⟩;rw[ir,ir];simp;omega;rw[lF];exact H j (F.tt f);simp only[a,aV,bQ]at H;rw[ah (dQ a)];exact H i (g.tt e)

end iZ
end
end Go.Proofs.YticlajoleibdnaaGreatDoor
