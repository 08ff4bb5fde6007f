/-
  FD is proved here: parts of x4 proof, one behind x4 other (texts of this work, merged by a program; IX x4 theorem IY not use is left out). No condition.
-/
import Derived.Handed
import Derived.Shelf.Vars
import Derived.Lib.LaidU8
import Derived.Lib.LaidTab
import Derived.Test.YtlenamcfacpheaaGreatDoorMArtsf
set_option maxRecDepth 100000
set_option maxHeartbeats 4000000
namespace Go.Proofs.YtlenamcfacpheaaGreatDoor
open Go.Den
open IntKind (wrap)
open Int (toNat)
section
variable {h:ai} {R:fp}
variable {b:aq.S} {kind s now:Int}
theorem KH.walk{b:ax.S}(c:aQ h (.cells b.arr 201) λB H=> ∃t7,Cc H B 0 (.U t7)/\if(t7 !=kind)then R (.I 4) H else ax.cv H (AA B 0) λt11=>Cl 175 #[t11.agg] H λv a=> ∃t12,v=.bool t12/\if(!t12)then R (.I 3) a else R (.I 0) a):Cl 320 #[b.agg,.U kind] h R:=aO (lq (sq (bq (lq (cq ll (lq (cq ll lf))))) ll)) Tryz.func320 c
theorem Ff.walk{b:ax.S}(d:aQ h (.cells b.arr 201) λB a=>ax.cv a (AA B 0) λt7=>Cl 320 #[t7.agg,.U 7] a λv H=> ∃t8,v=.I t8/\if(t8 !=0)then R (.tuple #[.U 0,.I t8]) H else Hl H B 4 λf e T=>Cl 253 #[.slice f e T] H λV c=> ∃t g,V=.tuple #[.U t,.bool g]/\R (.tuple #[.U t,.I 0]) c):Cl 304 #[b.agg] h R:=aO (lq (sq (lq (lq (cq ll lf))) (lq ll))) Tryz.func304 d
theorem AQ.walk{c:ax.S}{c0:Nat}(a:aQ h (.cells c.arr 201) λb H=>Hu H b 0 λt5=> ∃t6,Cc H c0 0 (.U t6)/\R (.bool (t5==t6)) H):Cl 318 #[c.agg,.P c0 0] h R:=aO (lq ll) Tryz.func318 a
theorem iJ.find.walk{d:cy}{S g:Nat}{f:Nat}(e: ∃(I:Int->ai->Prop)(m:Int->ai->Nat),I 0 h/\∀(t8:Int)(H:ai),I t8 H->if(decide (t8<(S:Int)))then Bd t8 S/\aL d λa=>ax.cv H (a.add (toNat t8*5)) λt15=>Cl 318 #[t15.agg,.P f 0] H λv c=> ∃t16,v=.bool t16/\if t16 then R (.I t8) c else(I (wrap .i64 (t8+1)) c/\m (wrap .i64 (t8+1)) c<m t8 H)else R (.I (-1)) H):Cl 319 #[.slice d S g,.func (.func 318) #[] #[.P f 0]] h R:=aO (lq (sq (lq (bq (.loop [(8,.one (.int .i64))] (lq (sq (cq lf lf) (sq (bq (lq (lq (cq ll lf)))) lf)))))) ll)) Tryz.func319 e
theorem Fh.walk(q:aQ h (.cells b.arr 129) λd m=>aQ m (.cells #[.U kind] 27) λl n=>aQ n (.cells ax.S.z.arr 201) λB f=>Hl f d 20 λy x w=>Cl 319 #[.slice y x w,.func (.func 318) #[] #[.P l 0]] f λv H=> ∃t13,v=.I t13/\if(decide (t13<0))then ax.cX H (AA B 0) ax.S.z λg=>ax.cv g (AA B 0) λr=>R (.tuple #[r.agg,.bool false]) g else Hl H d 20 λA z F=>Bd t13 z/\aL A λa=>ax.cv H (a.add (toNat t13*5)) λt21=>aQ H (.cells ax.S.z.arr 201) λc o=>ax.cX o (AA c 0) t21 λi=>Hl i c 4 λE D C=>Cl 50 #[.slice E D C] i λV p=> ∃k T t,V=.slice k T t/\aS p (AA c 4) (.slice k T t) λj=>ax.cv j (AA c 0) λt26=>ax.cX j (AA B 0) t26 λe=>ax.cv e (AA B 0) λu=>R (.tuple #[u.agg,.bool true]) e):Cl 303 #[b.agg,.U kind] h R:=aO (lq (lq (lq (sq (lq (cq ll lf)) (lq (lq ll)))))) Tryz.func303 q
theorem O9.walk(d:aQ h (.cells b.arr 129) λB a=>aq.cv a (AA B 0) λt8=>Cl 196 #[t8.agg] a λv H=> ∃t9,v=.bool t9/\if(!t9)then R (.I 3) H else aG (λ(t11:Bool) (c:ai)=>if t11 then R (.I 1) c else R (.I 0) c) (λJ=>if(decide (s>now))then J true H else J (decide (now>1099511627776)) H)):Cl 264 #[b.agg,.U s,.U now] h R:=aO (lq (sq (bq (lq (cq ll (sq (.join [(11,.one (.bool))] lf) (cq ll lf))))) ll)) Tryz.func264 d
theorem Pa.walk(i:aQ h (.cells b.arr 129) λd a=>aq.cv a (AA d 0) λt8=>Cl 303 #[t8.agg,.U 7] a λv e=>ax.EX λT=> ∃c,v=.tuple #[T.agg,.bool c]/\aQ e (.cells ax.S.z.arr 201) λB f=>ax.cX f (AA B 0) T λH=>if(!c)then R (.U 0) H else ax.cv H (AA B 0) λt15=>Cl 304 #[t15.agg] H λV g=> ∃t j,V=.tuple #[.U t,.I j]/\R (.U t) g):Cl 266 #[b.agg] h R:=aO (lq (lq (sq (lq (cq ll lf)) (lq ll)))) Tryz.func266 i
theorem Nr.walk{p:aC.S}{py:Int}{c:Int} (d:aQ h (.cells p.arr 126) λb H=>Hu H b 17 λt15=>aG (λ(P:Int) (a:ai)=> ∃t37,Cc a b 19 (.U t37)/\if(decide (P≥t37))then R (.U 0) a else∃t40,Cc a b 19 (.U t40)/\R (.U (wrap .u64 (t40 - P))) a) (λJ=>if(decide (t15>0))then∃t20,Cc H b 17 (.U t20)/\if(decide (now<t20))then Hu H b 19 λt23=> ∃t26,Cc H b 17 (.U t26)/\R (.U (wrap .u64 (t23+(wrap .u64 (t26 - now))))) H else∃t33,Cc H b 17 (.U t33)/\J (wrap .u64 (now - t33)) H else J (wrap .u64 (py+c)) H)):Cl 265 #[p.agg,.U py,.U c,.U now] h R:=aO (lq (lq (sq (lq (.join [(9,.one (.int .u64))] (cq (sq (lq (cq ll lf)) lf) lf))) (sq (lq (cq ll lf)) ll)))) Tryz.func265 d
theorem Ns.walk(e:aQ h (.cells b.arr 129) λB a=>aq.cv a (AA B 0) λt9=>Cl 264 #[t9.agg,.U s,.U now] a λv H=> ∃t12,v=.I t12/\if(t12 !=0)then R (.tuple #[.U 0,.I t12]) H else aC.cv H (AA B 0) λt17=>aq.cv H (AA B 0) λt18=>Cl 266 #[t18.agg] H λV c=> ∃t19,V=.U t19/\Kp H c [(Sa B 0)]/\Cl 265 #[t17.agg,.U t19,.U (wrap .u64 (now - s)),.U now] c λf d=> ∃t24,f=.U t24/\R (.tuple #[.U t24,.I 0]) d):Cl 213 #[b.agg,.U s,.U now] h R:=aO (lq (sq (lq (lq (cq ll lf))) (sq (.jz (fC 3 0 (fC 4 4 (.op 3 (fC 3 8 .done))))) lf))) Tryz.func213 e
theorem Fi.walk{j:cy}{i g:Nat} (hv:aQ h (.cells aJ.S.z.arr 287) λb Y=>Cl 193 #[.slice j i g,.I 0] Y λv a'=>aa.EX λF=> ∃h' G,v=.tuple #[F.agg,.I h',.I G]/\aQ a' (.cells aa.S.z.arr 262) λB b'=>aa.cX b' (AA B 0) F λc=>aG (λ(t46:Bool) (d:ai)=>if t46 then aJ.cX d (AA b 0) aJ.S.z λE=>aJ.cv E (AA b 0) λr0=>R (.tuple #[r0.agg,.I 3]) E else Hl d B 3 λv' u' I'=>Bd 1 u'/\aL v' λa=>oP d ((a.add (toNat 1*4)).add 3) λT t J'=>Bd 3 t/\aL T λU=>aa.cv d (U.add (toNat 3*4)) λt56=>Cl 246 #[t56.agg] d λC' c'=>ah.EX λM=> ∃N,C'=.tuple #[M.agg,.I N]/\aQ c' (.cells ah.S.z.arr 124) λe d'=>ah.cX d' (AA e 0) M λH=>if(N !=0)then aJ.cX H (AA b 0) aJ.S.z λw=>aJ.cv w (AA b 0) λe'=>R (.tuple #[e'.agg,.I 3]) w else Bd 0 t/\aL T λA=>oP H ((A.add (toNat 0*4)).add 3) λx' w' K'=>Bd 0 w'/\aL x' λm=>fW H ((m.add (toNat 0*4)).add 1) λt69=>Bd 0 t/\aL T λn=>oP H ((n.add (toNat 0*4)).add 3) λz' y' L'=>Bd 1 y'/\aL z' λo=>fW H ((o.add (toNat 1*4)).add 1) λt77=>Bd 0 t/\aL T λp=>oP H ((p.add (toNat 0*4)).add 3) λB' A' M'=>Bd 2 A'/\aL B' λq=>fW H ((q.add (toNat 2*4)).add 1) λt85=>Bd 1 t/\aL T λr=>fW H ((r.add (toNat 1*4)).add 1) λt90=>Bd 2 t/\aL T λu=>fW H ((u.add (toNat 2*4)).add 1) λt94=>ah.cv H (AA e 0) λt95=>aQ H (.cells aJ.S.z.arr 287) λf x=>Kp H x [(Sa e 0),(some ((u.add (toNat 2*4)).add 1)),(some ((r.add (toNat 1*4)).add 1)),(some ((q.add (toNat 2*4)).add 1)),(some ((p.add (toNat 0*4)).add 3)),(some ((o.add (toNat 1*4)).add 1)),(some ((n.add (toNat 0*4)).add 3)),(some ((m.add (toNat 0*4)).add 1)),(some ((A.add (toNat 0*4)).add 3))]/\aJ.cX x (AA f 0) ⟨(t69==1),(t77==1),(t85==1),t90,t94,t95.f0,t95.f1,t95.f2,t95.f3,t95.f4,t95.f5,t95.f6⟩ λy=>aJ.cv y (AA f 0) λt98=>Cl 249 #[t98.agg] y λD' z=> ∃Q P O S,D'=.tuple #[.slice Q P O,.I S]/\aG (λ(t109:Bool) (k:ai)=>if t109 then aJ.cX k (AA b 0) aJ.S.z λC=>aJ.cv C (AA b 0) λf'=>R (.tuple #[f'.agg,.I 3]) C else aJ.cv k (AA f 0) λt111=>aJ.cX k (AA b 0) t111 λD=>aJ.cv D (AA b 0) λg'=>R (.tuple #[g'.agg,.I 0]) D) (λl=>if(S !=0)then l true z else Cl 82 #[.slice Q P O,.slice j i g] z λE' Z=> ∃t107,E'=.bool t107/\l (!t107) Z)) (λJ=>if(G !=0)then J true c else∃j' I i',Cc c B 3 (.slice j' I i')/\if(((I:Nat):Int) !=2)then J true c else Hl c B 3 λl' k' F'=>Bd 1 k'/\aL l' λV=> ∃n' K m',bg c ((V.add (toNat 1*4)).add 3)=some (.slice n' K m')/\if(((K:Nat):Int) !=4)then J true c else Hl c B 3 λp' o' G'=>Bd 1 o'/\aL p' λW=>oP c ((W.add (toNat 1*4)).add 3) λr' q' H'=>Bd 0 q'/\aL r' λX=> ∃t' L s',bg c ((X.add (toNat 0*4)).add 3)=some (.slice t' L s')/\J (((L:Nat):Int) !=3) c)):Cl 262 #[.slice j i g] h R:=aO (lq (lq (sq (sq (.join [(46,.one (.bool))] lf) (cq ll lf)) (lq (lq (sq (lq (cq ll lf)) (sq (pK 36) (sq (lq (sq (.join [(109,.one (.bool))] lf) (cq ll lf))) ll)))))))) Tryz.func262 hv
theorem KI.walk(k:aQ h (.cells b.arr 129) λa g=>aQ g (.cells aJ.S.z.arr 287) λB H=> ∃t7,Cc H a 0 (.U t7)/\if((wrap .u64 ((mr t7 &&& mr 2).toNat:Int))==0)then aJ.cX H (AA B 0) aJ.S.z λd=>aJ.cv d (AA B 0) λr=>R (.tuple #[r.agg,.I 4]) d else aq.cv H (AA a 0) λt12=>Cl 196 #[t12.agg] H λv c=> ∃t13,v=.bool t13/\if(!t13)then aJ.cX c (AA B 0) aJ.S.z λe=>aJ.cv e (AA B 0) λl=>R (.tuple #[l.agg,.I 3]) e else aq.cv c (AA a 0) λt16=>Cl 159 #[t16.agg] c λV i=>Vl V λp o n=>Cl 262 #[.slice p o n] i λq j=>aJ.EX λt=> ∃T,q=.tuple #[t.agg,.I T]/\aJ.cX j (AA B 0) t λf=>aJ.cv f (AA B 0) λm=>R (.tuple #[m.agg,.I T]) f):Cl 211 #[b.agg] h R:=aO (lq (sq (bq (lq (cq ll (lq (cq ll lf))))) ll)) Tryz.func211 k

end
section
namespace EI
open Cb (Tr gl CI kX lg Bo)
open Bn (at_ jG iS kJ lh Prim xS iA ic BB xe ud qb CB jv dU On iR elem ir jX)
variable {V:cD→Bool} {h h' H g:ai} {R:fp} {p q:cy} {c cl:Nat} {xs:List BB} {D:Nat→Prop} {b:kJ}
variable {k:Nat}
def Pb(V:cD->Bool)(z:lh)(k:Nat):Int:=if z.ty=k then(if iR V z=true then 0 else 3)else 4
def Pc(V:cD->Bool)(z:lh):Nat:=if Pb V z 7=0 then(dU V z.data).n else 0
def BW(l:List lh)(k:Nat):Option lh:=l.find? λz=>decide (z.ty=k)
def Hw(V:cD->Bool)(l:List lh):Nat:=match BW l 7 with|none=>0|some z=>Pc V z
def Hx(V:cD->Bool)(b:kJ)(s now:Nat):Int:=if(iS V b).isSome=true then(if s>now\/now>1099511627776 then 1 else 0)else 3
def P3(P:Prim)(py now:Nat):Nat:=if P.id.tm>0 then now - P.id.tm else py
def Fj(P:Prim)(py now:Nat):Nat:=if P.id.tm>0/\now<P.id.tm then P.dN+(P.id.tm - now)else P.dN - P3 P py now
theorem Pd(z:lh)(k:Nat)(U:Cb.ke V H)(u:Fr No H h)(mx:oT.Mx h)(row:Row h p (bc z.data))(cap:z.data.length<=c)(i:z.data.length<=80000)(hk: gL h R (.I (Pb V z k))):Cl 320 #[(z.s p c).agg,.U (k:Int)] h R:=by
 refine KH.walk (ax.cM λb f E d f1=>⟨_,ar d,?_⟩);unfold Pb at hk;by_cases c1:z.ty=k
 case neg=>
  rw[ae c1]at hk;rw[af (by show((z.ty:Int) !=(k:Int))=true;simp only[cU,en];omega)];exact hk f f1
 rw[af c1]at hk;rw[ae (by show¬((z.ty:Int) !=(k:Int))=true;simp only[cU,en];omega)];refine ax.ff (x:=z.s p c) d (Bn.vE z U (u.tt f1) (mx.on f1) (row.frame f1 cb) cap i λa f2=>⟨_,rfl,?_⟩);cases e:iR V z with
 |false=>rw[e]at hk;rw[fK];exact hk a (f1.tt f2)
 |true=>rw[e]at hk;rw[dc];exact hk a (f1.tt f2)
theorem Nt(z:lh)(U:Cb.ke V H)(u:Fr No H h)(mx:oT.Mx h)(row:Row h p (bc z.data))(cap:z.data.length<=c)(d:z.data.length<=80000)(hk: ∀h' (e:Int),Fr No h h'->R (.tuple #[.U (Pc V z:Int),.I e]) h'):Cl 304 #[(z.s p c).agg] h R:=by
 refine Ff.walk (ax.cM λb j E a f1=>ax.ff (x:=z.s p c) a (Pd z 7 U (u.tt f1) (mx.on f1) (row.frame f1 cb) cap d λf f2=>⟨_,rfl,?_⟩));unfold Pc at hk;by_cases c1:Pb V z 7=0
 case neg=>
  rw[ae c1]at hk;rw[af (cA c1)];exact hk f _ (f1.tt f2)
 rw[af c1]at hk;rw[ae (cA c1)];refine⟨_,_,_,ar (f2.get a id),Bn.CS U (u.tt (f1.tt f2)) (row.frame (f1.tt f2) cb) rfl cap d λi f3=>⟨_,_,rfl,hk i _ (f1.tt (f2.tt f3))⟩⟩
theorem Nu{d n m:Nat}(B:ic h D b.bl q b.bl.length cl xs)(J:n=b.bl.length)(I:b.bl.length<=1000000)(u:h[d]? =some (.cells #[.U (k:Int)] 27 (0,0)))(hk: gL h R (.I (idxOf (λx:BB=>decide (x.b.ty=k)) xs))):
  Cl 319 #[.slice q n m,.func (.func 318) #[] #[.P d 0]] h R:=by
 have xl:=B.xl;refine iJ.find.walk (yE (λx:BB=>decide (x.b.ty=k)) (λt g K=>((0:Int)<=t/\t<(n:Int))/\aL q λa=>ax.cv g (a.add (Int.toNat t*5)) λt15=>
  Cl 318 #[t15.agg,.P d 0] g λv G=> ∃t,v=.bool t/\K t G) ag ag (λj g0 y K o f s=> ?_) hk)
 have lt:=(aB.1 o).1;have r:=B.on f;obtain⟨a,Y,E,z,e1,ok,A⟩:=r.get (i:=j) ag;obtain rfl:Y=y:=aX (A.symm.trans o);refine⟨ag,bK.2 ⟨a,E,ax.ko (x:=Y.s) (by rw[aI];exact z) (AQ.walk (ax.cM λC l F w f3=>⟨_,ar w,_,ar ((f.tt f3).get u id),_,rfl,?_⟩))⟩⟩;have e:((Y.b.ty:Int)==(k:Int))=decide (Y.b.ty=k):=by by_cases q:Y.b.ty=k<;>simp[q]<;>omega
 show K ((Y.b.ty:Int)==(k:Int)) l;rw[e];exact s l (f.tt f3)
theorem Nv{l:List BB}:(BW (l.map BB.b) k=none/\idxOf (λx:BB=>decide (x.b.ty=k)) l= -1)\/∃(i:Nat)(y:BB),idxOf (λx:BB=>decide (x.b.ty=k)) l=(i:Int)/\l[i]? =some y/\BW (l.map BB.b) k=some y.b:=by
 unfold BW idxOf;rw[List.find?_map];cases a:l.findIdx? (λx:BB=>decide (x.b.ty=k))with
 |none=>
  left;refine⟨?_,rfl⟩;rw[cY]at a;have:l.find? ((λz:lh=>decide (z.ty=k)) ∘ BB.b)=none:=List.find?_eq_none.2 λx n=>by have:=a x n;simpa using this
  rw[this];rfl
 |some i=>
  right;obtain⟨d,e,f⟩:=cp.1 a;refine⟨i,l[i],rfl,aj d,?_⟩;have:l.find? ((λz:lh=>decide (z.ty=k)) ∘ BB.b)=some l[i]:=fa.2 ⟨e,i,d,rfl,λj m=>by have:=f j m;simpa using this⟩;rw[this];rfl
theorem Nw{b:Nat}{y x:ax.S}{K:ax.S->ai->Prop}(a:ax.fi h b y)(hk: ∀h',Fr (λy=>y=b) h h'->K x h'):
  ax.cX h (AA b 0) x λg=>ax.cv g (AA b 0) λr=>K r g:=
 ax.gy (x:=x) a λg d1 f _=>ax.ff d1 (hk g f)
theorem Pe{b:Nat}{z:lh}{q':cy}{c':Nat}{K:ai->Prop}(d:ax.fi h b (z.s p c))(hk: ∀h',ax.fi h' b (z.s q' c')->Fr (λy=>y=b) h h'->K h'):aS h (AA b 4) (.slice q' z.data.length c') K:=
 bw d (by show 4<5;omega) λa d1 d2 d3=>hk a d1 (Fr.of_eq d2 λc e=>d3 c e)
theorem gH(k:Nat)(B:ic h D b.bl q b.bl.length cl xs)(I:b.bl.length<=1000000)(hd: ∀z∈b.bl,z.data.length<=80000)(K: ∀z,BW b.bl k=some z->z∈b.bl->∀h' p c,Row h' p (bc z.data)->z.data.length<=c->Fr No h h'->R (.tuple #[(z.s p c).agg,.bool true]) h')(L:BW b.bl k=none->gL h R (.tuple #[ax.S.z.agg,.bool false])):
  Cl 303 #[(b.s q cl).agg,.U (k:Int)] h R:=by
 refine Fh.walk (aq.cM (x:=b.s q cl) λb1 d Q o f1=>cF ?_);have f2:Fr No d (d.push (.cells #[.U (k:Int)] 27)):=Fr.push _ _;have r:(d.push (.cells #[.U (k:Int)] 27))[d.size]? =some (.cells #[.U (k:Int)] 27 (0,0)):=bV;generalize d.push (.cells #[.U (k:Int)] 27)=U at f2 r⊢;refine ax.cM (x:=.z) λu W S j f3=> ?_
 have n:=f1.tt (f2.tt f3);have z1:=f1.1;have z2:=f2.1;have a':=aD j;refine⟨_,_,_,ar ((f2.tt f3).get o id),Nu (B.on n) rfl I (f3.get r id) λX f4=>⟨_,rfl,?_⟩⟩;have F:=n.tt f4;have eq:=B.eq;rcases Nv (l:=xs) (k:=k)with⟨n1,n2⟩|⟨i,y,n1,n2,N⟩
 .rw[eq]at n1;rw[n2,fK];exact Nw (f4.get j id) λA f5=>L n1 A (F.fresh f5 (λy e=>ag))
 rw[eq]at N;rw[n1,dc];have xl:=B.xl;have li:=(aB.1 n2).1;obtain⟨a,Y,E,G,e1,ok,J⟩:=(B.on F).get (i:=i) ag;obtain rfl:Y=y:=aX (J.symm.trans n2);have s:Y.b∈b.bl:=by rw[e1];exact dA _
 have sl:(b.s q cl).Gb=b.bl.length:=rfl;have ld:=hd _ s;refine⟨_,_,_,ar ((f2.tt (f3.tt f4)).get o id),ag,bK.2 ⟨a,E,ax.ko (x:=Y.s) (by rw[aI];exact G) (ax.ft (x:=Y.s) λv Z T m f7=>⟨_,_,_,ar m,kK.gF (ok.row.frame f7 cb) rfl (by show Y.b.data.length<=_;omega) λP C h8 O f8 t=>⟨_,_,_,rfl,?_⟩⟩)⟩⟩;have z7:=f7.1;have z8:=f8.1;have z4:=f4.1;have b':=aD m;refine Pe (z:=Y.b) (q':=P) (c':=C) (f8.get m id) λh9 d9 f9=>ax.ff (x:=Y.b.s P C) d9 (Nw (f9.get ((f4.tt (f7.tt f8)).get j id) ag) λw f10=> ?_)
 have M:=(O.iw.frame f9 (λa E f=>by have:=t a.block ⟨a,E,rfl⟩;have f:a.block=v:=f;omega)).frame f10 (λa E f=>by have:=t a.block ⟨a,E,rfl⟩;have f:a.block=u:=f;omega);exact K Y.b N s w P C M O.le (((F.tt (f7.tt f8)).fresh f9 (λy e=>bY F.1)).fresh f10 (λy e=>ag))
theorem CS(U:Cb.ke V H)(u:Fr No H h)(mx:oT.Mx h)(B:ic h D b.bl q b.bl.length cl xs)(m:b.bl.length<=1000000)(hd: ∀z∈b.bl,z.data.length<=80000)(hk: gL h R (.U (Hw V b.bl:Int))):
  Cl 266 #[(b.s q cl).agg] h R:=by
 unfold Hw at hk;refine Pa.walk (aq.cM (x:=b.s q cl) λb1 v t l f1=>aq.ff (x:=b.s q cl) l (gH 7 (B.on f1) m hd (λz s n i p c r C f2=>ax.ex (z.s p c) ⟨_,rfl,ax.ft (x:=z.s p c) λf a E d f4=> ?_⟩) (λo i f2=>ax.ex .z ⟨_,rfl,ax.ft (x:=.z) λf a E d f4=> ?_⟩)))
 .rw[s]at hk;rw[dc];have F:=f1.tt (f2.tt f4);exact ax.ff (x:=z.s p c) d (Nt z U (u.tt F) (mx.on F) (r.frame f4 cb) C (hd z n) λj e f5=>⟨_,_,rfl,hk j (F.tt f5)⟩)
 .rw[o]at hk;rw[fK];exact hk a (f1.tt (f2.tt f4))
theorem Pf(s now:Nat)(w:b.p.wf)(U:Cb.ke V H)(u:Fr No H h)(mx:oT.Mx h)(B:ic h D b.bl q b.bl.length cl xs)(i:b.bl.length<=1000000)(hd: ∀z∈b.bl,z.data.length<=80000)(hk: gL h R (.I (Hx V b s now))):
  Cl 264 #[(b.s q cl).agg,.U (s:Int),.U (now:Int)] h R:=by
 unfold Hx at hk;refine O9.walk (aq.cM (x:=b.s q cl) λb1 j E f f1=>aq.ff (x:=b.s q cl) f (Bn.qR w U (u.tt f1) (mx.on f1) (B.on f1) i hd λd f2=>⟨_,rfl,?_⟩));cases e:(iS V b).isSome with
 |false=>rw[e]at hk;rw[fK];exact hk d (f1.tt f2)
 |true=>
 rw[e,af rfl]at hk;rw[dc];have hk:=hk d (f1.tt f2);refine aG.of λJ a=> ?_
 by_cases c1:s>now
 .rw[fK];subst a;dsimp only;rw[af rfl];rw[af (.inl c1)]at hk;exact hk
 rw[dc];by_cases c2:now>1099511627776
 .rw[av ag];subst a;dsimp only;rw[af rfl];rw[af (.inr c2)]at hk;exact hk
 .rw[az ag];subst a;dsimp only;rw[dc];rw[dc]at hk;exact hk
theorem Nx(P:Prim)(py now:Nat)(d:P.dN<=1099511627776)(i:P.id.tm<=1099511627776)(j:now<=1099511627776)(l:py<=18446744073709551615)(hk: gL h R (.U (Fj P py now:Int))):
  Cl 265 #[P.s.agg,.U (py:Int),.U 0,.U (now:Int)] h R:=by
 refine Nr.walk (aC.cM (x:=P.s) λb d E a f1=>⟨_,ar a,aG.of λJ f=> ?_⟩);have hk:=hk d f1;unfold Fj P3 at hk;have fin: ∀n:Nat,(if P.id.tm>0/\now<P.id.tm then P.dN+(P.id.tm - now)else P.dN - (if P.id.tm>0 then now - P.id.tm else py))=P.dN - n->J (n:Int) d:=by
  intro n e;rw[e]at hk;subst f;dsimp only;refine⟨_,ar a,?_⟩;by_cases c:n≥P.dN
  .rw[af (av (by show(n:Int)≥(P.dN:Int);omega))];rw[show P.dN - n=0 by omega]at hk;exact hk
  .rw[ae (by simp only[aV];show¬(n:Int)≥(P.dN:Int);omega)];refine⟨_,ar a,?_⟩;show R (.U (IntKind.wrap .u64 ((P.dN:Int) - (n:Int)))) d;rw[wrap_u64 ag ag,show(P.dN:Int) - (n:Int)=((P.dN - n:Nat):Int) by omega];exact hk
 by_cases c1:P.id.tm>0
 .rw[af (av (by show(P.id.tm:Int)>0;omega))];refine⟨_,ar a,?_⟩;by_cases c2:now<P.id.tm
  .rw[af (av (by show(now:Int)<(P.id.tm:Int);omega))];rw[af ⟨c1,c2⟩]at hk;refine⟨_,ar a,_,ar a,?_⟩;show R (.U (IntKind.wrap .u64 ((P.dN:Int)+(IntKind.wrap .u64 ((P.id.tm:Int) - (now:Int)))))) d;rw[wrap_u64 (n:=(P.id.tm:Int) - (now:Int)) ag ag,wrap_u64 ag ag,show(P.dN:Int)+((P.id.tm:Int) - (now:Int))=((P.dN+(P.id.tm - now):Nat):Int) by omega];exact hk
  .rw[ae (by simp only[aV];show¬(now:Int)<(P.id.tm:Int);omega)];refine⟨_,ar a,?_⟩;show J (IntKind.wrap .u64 ((now:Int) - (P.id.tm:Int))) d;rw[wrap_u64 ag ag,show(now:Int) - (P.id.tm:Int)=((now - P.id.tm:Nat):Int) by omega];exact fin _ (by rw[ae (λe=>c2 e.2),af c1])
 .rw[ae (by simp only[aV];show¬(P.id.tm:Int)>0;omega)];rw[Int.add_zero,wrap_u64 ag ag];exact fin _ (by rw[ae (λe=>c1 e.1),ae c1])
def j4(V:cD->Bool)(b:kJ)(now:Nat):Nat×Int:=if Hx V b now now=0 then(Fj b.p (Hw V b.bl) now,0)else(0,Hx V b now now)
theorem Pg{bs:cD}{l pos left:Nat}{t:Cb.Tr}{N lf:Nat}(h:Cb.gC V bs l pos left=.ok (t,N,lf)):t.n<=18446744073709551615:=by
 cases l with
 |zero=>
  unfold Cb.gC at h;split at h
  .cases h
  .split at h<;>cases h
 |succ l=>
  unfold Cb.gC at h;split at h
  .cases h
  rename_i m n o d a;have:=(Cb.vp a).2.2.1;split at h
  .dsimp only at h;split at h
   .cases h
   split at h
   .cases h;show n<=_;omega
   split at h
   .split at h
    .cases h
    .cases h;exact bG _
   .split at h
    .cases h
    .cases h;exact bG _
  .cases h
theorem Ph(bs:cD):(dU V bs).n<=18446744073709551615:=by
 unfold dU Cb.lg;split
 .rename_i t n a;split at a
  .cases a
  .rename_i d;cases a;exact Pg d
 .exact bG _
theorem Pj(l:List lh):Hw V l<=18446744073709551615:=by
 unfold Hw Pc;split
 .exact bG _
 .split
  .exact Ph _
  .exact bG _
theorem Pk(now:Nat)(n:now<=1099511627776)(w:b.p.wf)(U:Cb.ke V H)(u:Fr No H h)(mx:oT.Mx h)(B:ic h D b.bl q b.bl.length cl xs)(i:b.bl.length<=1000000)(hd: ∀z∈b.bl,z.data.length<=80000)(hk: gL h R (.tuple #[.U ((j4 V b now).1:Int),.I (j4 V b now).2])):
  Cl 213 #[(b.s q cl).agg,.U (now:Int),.U (now:Int)] h R:=by
 unfold j4 at hk;refine Ns.walk (aq.cM (x:=b.s q cl) λb1 r E e f1=>aq.ff (x:=b.s q cl) e (Pf now now w U (u.tt f1) (mx.on f1) (B.on f1) i hd λj f2=>⟨_,rfl,?_⟩));have F:=f1.tt f2;by_cases c1:Hx V b now now=0
 case neg=>
  rw[ae c1]at hk;rw[af (cA c1)];exact hk j F
 rw[af c1]at hk;rw[ae (cA c1)];have f:=f2.get e id;have a:Bn.iG b.p=true:=by
  unfold Hx at c1;split at c1
  .rename_i o;obtain⟨d,hd⟩:=dG.1 o;exact Ask.sN hd
  .cases c1
 have m:=Pj (V:=V) b.bl;have pr:b.p.dN<=1099511627776/\b.p.id.tm<=1099511627776:=by
  unfold Bn.iG Bn.gE at a;simp only[aT,aV]at a;exact⟨a.2,a.1.2.1.2⟩
 refine Bn.SG f (aq.ff (x:=b.s q cl) f (CS U (u.tt F) (mx.on F) (B.on F) i hd λs f3=>⟨_,rfl,f3.kp,?_⟩));rw[Int.sub_self,show IntKind.wrap .u64 0=0 by rfl];exact Nx b.p (Hw V b.bl) now pr.1 pr.2 n m λl f4=>⟨_,rfl,hk l (F.tt (f3.tt f4))⟩

end EI
end
section
namespace EI
open Cb (Tr gl CI kX lg km pW Bo)
open Bn (at_ jG iS kJ lh Prim xS iA ic BB qb CB jv elem ir jX)
variable {V:cD→Bool} {h h' H g:ai} {R:fp} {p q:cy} {c cl:Nat} {xs:List BB} {D:Nat→Prop} {b:kJ}
def Ae(t:Tr):Prop:=t.l.length=2/\(at_ t.l 1).l.length=4/\(at_ (at_ t.l 1).l 0).l.length=3
instance (t : Tr) : Decidable (Ae t) := by unfold Ae; infer_instance
def IN(t:Tr)(x:iA):xS:=⟨(at_ (at_ (at_ t.l 1).l 0).l 0).n==1,(at_ (at_ (at_ t.l 1).l 0).l 1).n==1,(at_ (at_ (at_ t.l 1).l 0).l 2).n==1,(at_ (at_ t.l 1).l 1).n,(at_ (at_ t.l 1).l 2).n,x⟩
def wm(V:cD->Bool)(bs:cD):Bool:=match lg V bs with
 | .error _=>false
 | .ok (t,_)=>if Ae t then(match jv V (at_ (at_ t.l 1).l 3)with|none=>false|some x=>decide (CB V (IN t x)=some bs))else false
theorem Dq{b:Nat}{y x:aJ.S}{K:aJ.S->ai->Prop}(a:aJ.fi h b y)(hk: ∀h',Fr (λy=>y=b) h h'->K x h'):
  aJ.cX h (AA b 0) x λg=>aJ.cv g (AA b 0) λr=>K r g:=
 aJ.gy (x:=x) a λg d1 f _=>aJ.ff d1 (hk g f)
theorem Hz{bs:cD}{l:Nat}(U:Cb.ke V H)(u:Fr No H h)(mx:oT.Mx h)(row:Row h p (bc bs))(hl:l=bs.length)(cap:bs.length<=c)(Y':bs.length<=1300)(hk: ∀h' (r:aJ.S) (e:Int),(e=0↔wm V bs=true)->Fr No h h'->R (.tuple #[r.agg,.I e]) h'):Cl 262 #[.slice p l c] h R:=by
 subst hl;refine Fi.walk (aJ.cM (x:=.z) λb h1 eb P f1=> ?_);have zb:=aD P;have z1:=f1.1;have no: ∀g,Fr No h1 g->wm V bs=false->aJ.cX g (AA b 0) .z λG=>aJ.cv G (AA b 0) λr=>R (.tuple #[r.agg,.I 3]) G:=λg Z e=>
  Dq (Z.get P id) λG f'=>hk G _ 3 ⟨λq=>absurd q di,λq=>by rw[e]at q;cases q⟩ ((f1.tt Z).fresh f' (λy e=>ag))
 have a:wm V bs=wm V bs:=rfl;conv at a=>rhs;unfold wm
 refine Cb.tZ (U.mono (u.tt f1)) (row.frame f1 cb) rfl cap ag (λh3 t x nx hr tx f3=>aa.ex x.s ⟨_,_,rfl,aa.ft (x:=x.s) λb1 k e' o f5=> ?_⟩) (λh3 e he f3=>aa.ex Bn.zv.s ⟨_,_,rfl,aa.ft (x:=Bn.zv.s) λb1 k e' o f5=> ?_⟩)
 case refine_2=>
  refine aG.of λJ s=> ?_
  rw[af (cA (km he))];subst s;dsimp only;rw[af rfl];exact no k (f3.tt f5) (by rw[a,he])
 rw[hr]at a;dsimp only at a;obtain⟨rt,WJ⟩:=pW hr;have m:=f3.tt f5;obtain⟨xk,xn,xb,xl,xv,ys,L,TS⟩:=Bn.gl.kn (tx.u.on f5);have rl:=jX (t:=t);have sl:x.s.oS=t.l.length:=xl;refine aG.of λJ s=> ?_
 have bad: ¬Ae t->J true k:=λhn=>by
  subst s;dsimp only;rw[af rfl];exact no k m (by rw[a,ae hn])
 rw[dc];refine⟨_,_,_,ar o,?_⟩;rw[sl];by_cases l2:t.l.length=2
 case neg=>rw[af (by simp only[cU,en];omega)];exact bad (λe=>l2 e.1)
 rw[ae (by simp only[cU,en];omega)];obtain⟨a1,Y,K,s',b',_⟩:=elem L TS (i:=1) ag;obtain⟨T',U',S',w,WK,Vg,A,T⟩:=Bn.gl.kn b';have C:bg k ((a1.add (Int.toNat 1*4)).add 3)=some (.slice Y.q Y.ll Y.cl):=s'.2.2.2.1;have r1:=ir (ts:=t.l) (i:=1) ag;refine⟨_,_,_,ar o,ag,bK.2 ⟨a1,K,_,_,_,C,?_⟩⟩;rw[w];by_cases l4:(at_ t.l 1).l.length=4
 case neg=>rw[af (by simp only[cU,en];omega)];exact bad (λe=>l4 e.2.1)
 rw[ae (by simp only[cU,en];omega)];obtain⟨t1,j⟩: ∃t1,at_ t.l 1=t1:=⟨_,rfl⟩;rw[j]at b' r1 T' U' S' w T l4;obtain⟨p0,w0,n',z',J',_⟩:=elem A T (i:=0) ag;obtain⟨WL,WM,WN,Q',WO,WQ,L0,V'⟩:=Bn.gl.kn J';have c0:bg k ((p0.add (Int.toNat 0*4)).add 3)=some (.slice w0.q w0.ll w0.cl):=z'.2.2.2.1;refine⟨_,_,_,ar o,ag,bK.2 ⟨a1,K,_,_,_,C,ag,bK.2 ⟨p0,n',_,_,_,c0,?_⟩⟩⟩;rw[Q'];by_cases l3:(at_ t1.l 0).l.length=3
 case neg=>rw[show(((((at_ t1.l 0).l.length:Nat):Int)) !=3)=true by simp only[cU,en];omega];exact bad (λe=>l3 (by rw[<-j];exact e.2.2))
 rw[show(((((at_ t1.l 0).l.length:Nat):Int)) !=3)=false by simp only[fO];omega];have sh:Ae t:=⟨l2,by rw[j];exact l4,by rw[j];exact l3⟩;rw[af sh]at a;clear bad;subst s;dsimp only;rw[ae (show¬false=true by decide)];obtain⟨p3,w3,o',A',K',_⟩:=elem A T (i:=3) ag;have r3:=ir (ts:=t1.l) (i:=3) ag;have Vh:=jX (t:=t1);have C':Y.ll=t1.l.length:=w;refine⟨_,_,_,ar o,ag,bK.2 ⟨a1,K,_,_,_,C,ag,bK.2 ⟨p3,o',aa.ko (x:=w3.s) A' (Bn.Eu U (u.tt (f1.tt m)) (mx.on (f1.tt m)) K' ag (λid hid h7 f7=>ah.ex id.s ⟨_,rfl,ah.ft (x:=id.s) λb2 d g' a' f9=> ?_⟩) (λhid h7 f7=>ah.ex iA.zero.s ⟨_,rfl,ah.ft (x:=iA.zero.s) λb2 d g' a' f9=> ?_⟩))⟩⟩⟩
 case refine_2=>
  rw[fK];rw[j,hid]at a;exact no d (m.tt (f7.tt f9)) a
 rw[dc];rw[j,hid]at a;dsimp only at a;have z:=f7.tt f9;have X:=m.tt z;have R':=Bn.sB hid;have B:=A.frame z (λ_ _=>_root_.id);have I:=T.on z;obtain⟨d0,W,N,w',G',_⟩:=elem B I (i:=0) ag;obtain⟨d1,v1,i',x',H',_⟩:=elem B I (i:=1) ag;obtain⟨d2,v2,j',y',I',_⟩:=elem B I (i:=2) ag;obtain⟨_,_,_,WR,_,zs,M,E⟩:=Bn.gl.kn G';obtain⟨_,O',_⟩:=Bn.gl.kn H';obtain⟨_,P',_⟩:=Bn.gl.kn I';obtain⟨g0,u0,k',t',D',_⟩:=elem M E (i:=0) ag;obtain⟨g1,u1,l',u',E',_⟩:=elem M E (i:=1) ag;obtain⟨g2,u2,m',v',F',_⟩:=elem M E (i:=2) ag;obtain⟨_,L',_⟩:=Bn.gl.kn D';obtain⟨_,M',_⟩:=Bn.gl.kn E';obtain⟨_,N',_⟩:=Bn.gl.kn F';have C:bg d ((d0.add (Int.toNat 0*4)).add 3)=some (.slice W.q W.ll W.cl):=w'.2.2.2.1;have n0:bg d ((g0.add (Int.toNat 0*4)).add 1)=some (.U (u0.n:Int)):=t'.2.1;have n1:bg d ((g1.add (Int.toNat 1*4)).add 1)=some (.U (u1.n:Int)):=u'.2.1;have n2:bg d ((g2.add (Int.toNat 2*4)).add 1)=some (.U (u2.n:Int)):=v'.2.1;have m1:bg d ((d1.add (Int.toNat 1*4)).add 1)=some (.U (v1.n:Int)):=x'.2.1;have m2:bg d ((d2.add (Int.toNat 2*4)).add 1)=some (.U (v2.n:Int)):=y'.2.1;rw[L']at n0;rw[M']at n1;rw[N']at n2;rw[O']at m1;rw[P']at m2;have S: ∀n:Nat,((n:Int)==1)=(n==1):=λn=>by
  by_cases e:n=1
  .rw[e];rfl
  .rw[db.2 e,db.2 ag]
 have C':Y.ll=t1.l.length:=w;refine⟨ag,bK.2 ⟨d0,N,_,_,_,C,ag,bK.2 ⟨g0,k',_,n0,ag,bK.2 ⟨d0,N,_,_,_,C,ag,bK.2 ⟨g1,l',_,n1,ag,bK.2 ⟨d0,N,_,_,_,C,ag,bK.2 ⟨g2,m',_,n2,ag,bK.2 ⟨d1,i',_,m1,ag,bK.2 ⟨d2,j',_,m2,ah.ff (x:=id.s) a' ?_⟩⟩⟩⟩⟩⟩⟩⟩⟩;refine aJ.cM (x:=.z) λb3 p' X' r' f11=>⟨f11.kp,?_⟩
 rw[S,S,S];subst j;have wr:0<=(IN t id).of.e.gk:=R';refine show aJ.cX p' (AA b3 0) (IN t id).s _ from ?_;generalize IN t id=r at a wr;refine aJ.gy (x:=r.s) r' λq' d12 f12 _=>aJ.ff (x:=r.s) d12 ?_
 have c':=X.tt f11;have z9:=X.1;have F:Fr No h1 q':=c'.fresh f12 (λy e=>ag);refine Bn.IM r wr U (u.tt (f1.tt F)) (λd' Q lw O WS W' B' Z' f13=>⟨_,_,_,_,rfl,aG.of λJ1 v=> ?_⟩) (λQ O f13=>⟨_,_,_,_,rfl,aG.of λJ1 v=> ?_⟩)
 .rw[dc];refine Cb.jH B'.iw (row.frame (f1.tt (F.tt f13)) (λ_ _=>_root_.id)) rfl rfl ⟨_,rfl,?_⟩;rw[Q]at a;by_cases e:d'=bs
  .rw[av e];subst v;dsimp only;rw[dc];refine aJ.ff (x:=r.s) (f13.get d12 _root_.id) (Dq ((F.tt f13).get P _root_.id) λg f=> ?_);exact hk g _ 0 ⟨λ_=>by rw[a,av (by rw[e])],λ_=>rfl⟩ ((f1.tt (F.tt f13)).fresh f (λy e=>ag))
  .rw[az e];subst v;dsimp only;rw[fK];exact no O (F.tt f13) (by rw[a,az (λq=>e (aX q))])
 .rw[fK];subst v;dsimp only;rw[af rfl];exact no O (F.tt f13) (by rw[a,az (by rw[Q];intro q;cases q)])
def Af(V:cD->Bool)(b:kJ):Bool:= !Ask.Dj (b.p.fl:Int) 2 && (iS V b).isSome && wm V (qb b)
theorem uy(w:b.p.wf)(U:Cb.ke V H)(u:Fr No H h)(mx:oT.Mx h)(B:ic h D b.bl q b.bl.length cl xs)(o:b.bl.length<=1000000)(hd: ∀z∈b.bl,z.data.length<=1000)(hk: ∀h' (r:aJ.S) (e:Int),(e=0↔Af V b=true)->Fr No h h'->R (.tuple #[r.agg,.I e]) h'):Cl 211 #[(b.s q cl).agg] h R:=by
 refine KI.walk (aq.cM (x:=b.s q cl) λb1 P M d f1=>aJ.cM (x:=.z) λj l N m f2=>⟨_,ar (f2.get d id),?_⟩);have F:=f1.tt f2;have Z:=f1.1;have E:Af V b=Af V b:=rfl;conv at E=>rhs;unfold Af
 have no: ∀g (e:Int),Fr No l g->Af V b=false->e≠0->aJ.cX g (AA j 0) .z λG=>aJ.cv G (AA j 0) λr=>R (.tuple #[r.agg,.I e]) G:=λg e k t J=>
  Dq (k.get m id) λG v=>hk G _ e ⟨λq=>absurd q J,λq=>by rw[t]at q;cases q⟩ ((F.tt k).fresh v (λy e=>ag))
 split
 .rename_i c1;have c1:Ask.Dj (b.p.fl:Int) 2=true:=c1;exact no l 4 (Fr.refl _ _) (by rw[E,c1];rfl) di
 .rename_i c1;have c1:Ask.Dj (b.p.fl:Int) 2=false:=by
   cases I:Ask.Dj (b.p.fl:Int) 2 with
   |true=>exact absurd I c1
   |false=>rfl
  rw[c1]at E;have n: ∀z∈b.bl,z.data.length<=80000:=λz i=>by have:=hd z i;omega
  refine aq.ff (x:=b.s q cl) (f2.get d id) (Bn.qR w U (u.tt F) (mx.on F) (B.on F) o n λA f4=>⟨_,rfl,?_⟩);cases s:(iS V b).isSome with
  |false=>
   rw[fK];exact no A 3 f4 (by rw[E,s];rfl) di
  |true=>
  rw[dc];rw[s]at E;refine aq.ff (x:=b.s q cl) ((f2.tt f4).get d id) (Bn.zp (B.on (F.tt f4)) o n λQ W K O T f6=>⟨_,_,_,rfl,?_⟩);have a:=F.tt (f4.tt f6);have L:(qb b).length<=1300:=by
   unfold qb;split
   .exact bG _
   .rename_i z i;have:=hd z (List.mem_of_getLast? i);omega
  refine Hz U (u.tt a) (mx.on a) O.iw rfl O.le L λS r e C f7=>aJ.ex r ⟨_,rfl,Dq ((f4.tt (f6.tt f7)).get m id) λg f=>hk g r e ?_ ((a.tt f7).fresh f (λy e=>ag))⟩
  rw[E,C];rfl

end EI
end
section
namespace EI
open dH (SS Good)
open Go.Proofs.YtlenamcfacpheaaGreatDoor.Ask (Ot bad Rq AN nU)
open Bn (kJ jG iS)
open Go.fT (RD)
variable {V:cD→Bool} {σ:SS} {k:Nat} {b:kJ} {data:cD} {x:rq}
variable {o n ses e:Int} {C:fM.CF} {d:cD} {t:Cb.Tr} {q:Rq}
def j8(V:cD->Bool)(σ:SS)(b:kJ)(data:cD):Ot:=match gj.ij σ.G b.p.dest with
 |none=>bad σ 4
 |some r=>if Af V b=true then⟨{ σ with A:=fj.zK σ.A r.own data },0,0,if fj.BI σ.A r.own data=0 then 1 else 0, []⟩
  else if r.j9=2/\fj.QA σ.A r.own=false then bad σ 19
  else if(j4 V b σ.now).2≠0 then bad σ (j4 V b σ.now).2
  else if(j4 V b σ.now).1=0 then bad σ 18
  else⟨{ σ with C:=fM.jn σ.C b.p.dest data (min (σ.now+(j4 V b σ.now).1) 1099511627776) },fM.iH σ.C b.p.dest data (min (σ.now+(j4 V b σ.now).1) 1099511627776),fM.uz σ.C b.p.dest data (min (σ.now+(j4 V b σ.now).1) 1099511627776),0, []⟩
def oK(o:Ot):Ot:=if o.e≠0 then { o with σ:= { o.σ with rf:=o.σ.rf+1 } } else o
def jK(V:cD->Bool)(σ:SS)(data:cD):Ot:=match jG V data with
 | .error e=>oK (bad σ e)
 | .ok b=>oK (j8 V σ b data)
structure Hq where
 σ:SS
 e:Int
 y:RD
def gn(V:cD->Bool)(σ:SS)(x:rq):Hq:=
 if x.kind=1 then⟨{ σ with A:=fj.ux σ.A x.token },fj.nJ σ.A x.token,⟨0,0,fj.ER σ.A x.token,0,x.token, []⟩⟩
 else if x.kind=2 then⟨{ σ with A:=fj.J0 σ.A x.token },fj.QB σ.A x.token,⟨0,0,fj.MS σ.A x.token,0,x.token, []⟩⟩
 else if x.kind=3 then⟨{ σ with A:=fj.BG σ.A x.ses },fj.MT σ.A x.ses,RD.zero⟩
 else if x.kind=4 then⟨(AN V σ x.ses x.jb).1,0,(AN V σ x.ses x.jb).2⟩
 else if x.kind=5 then⟨(jK V σ x.data).σ,(jK V σ x.data).e,⟨0,0,(jK V σ x.data).num,(jK V σ x.data).uo,0, []⟩⟩
 else if x.kind=6 then(match σ.B.items with| []=>⟨σ,4,RD.zero⟩|z::_=>⟨dH.wV σ,0,⟨0,0,z.num,0,0,z.d⟩⟩)
 else if x.kind=8 then⟨{ σ with A:=fj.mf σ.A },0,RD.zero⟩
 else⟨σ,0,RD.zero⟩
def fY(V:cD->Bool)(σ:SS)(x:rq):Hq:=
 if ue V x=true then
  if dH.nQ σ x.now=0 then(if(gn V (dH.lC σ x.now) x).e=0 then⟨(gn V (dH.lC σ x.now) x).σ,0,(gn V (dH.lC σ x.now) x).y⟩
   else⟨(gn V (dH.lC σ x.now) x).σ,0,nU 0 (gn V (dH.lC σ x.now) x).e⟩)
  else⟨σ,dH.nQ σ x.now,RD.zero⟩
 else⟨σ,3,RD.zero⟩
theorem Good.kr{A:List fj.fj}(G:dH.Good σ k)(a:fj.lB A):dH.Good { σ with A:=A } k:=⟨a,G.g,G.c,G.b,G.v,G.q,G.ok,G.n,G.e,G.t,G.r⟩
theorem Good.Sk(G:dH.Good σ k)(O:fM.Ord σ.C)(hk:k<=30000)(h:0<=b.p.dest.gk):dH.Good (j8 V σ b data).σ (k+1):=by
 have m:=dH.Good.more G;unfold j8;split
 .exact m
 .split
  .exact dH.Good.more (Good.kr G (G.a.note _ _))
  .split
   .exact m
   .split
    .exact m
    .split
     .exact m
     .exact dH.Good.TF G O hk _ h _ _
theorem Good.ref{o:Ot}(G:dH.Good o.σ k):dH.Good (oK o).σ (k+1):=by
 unfold oK;split
 .have m:=dH.Good.more G;exact⟨m.a,m.g,m.c,m.b,m.v,m.q,m.ok,m.n,m.e,m.t,by have:=G.r;show o.σ.rf+1<=_;omega⟩
 .exact dH.Good.more G
theorem Good.arr(G:dH.Good σ k)(O:fM.Ord σ.C)(hk:k<=30000)(H: ∀b,jG V data=.ok b->0<=b.p.dest.gk):dH.Good (jK V σ data).σ (k+2):=by
 unfold jK;split
 .exact Good.ref (dH.Good.more G)
 .rename_i b h;exact Good.ref (Good.Sk G O hk (H b h))
theorem Good.QM(G:dH.Good σ k)(O:fM.Ord σ.C)(hk:k<=30000)(H: ∀b,jG V x.data=.ok b->0<=b.p.dest.gk)(h:0<=x.jb.ep.gk):dH.Good (gn V σ x).σ (k+2):=by
 unfold gn;split
 .exact dH.Good.more (dH.Good.ux G _)
 split
 .exact dH.Good.more (dH.Good.more (Good.kr G (G.a.res _)))
 split
 .exact dH.Good.more (dH.Good.more (Good.kr G (G.a.down _)))
 split
 .exact Ask.Good.AN G O hk h
 split
 .exact Good.arr G O hk H
 split
 .split
  .exact dH.Good.more (dH.Good.more G)
  .exact dH.Good.more (dH.Good.take G)
 split
 .exact dH.Good.more (dH.Good.more (Good.kr G G.a.OS))
 .exact dH.Good.more (dH.Good.more G)
abbrev cn(σ:SS):Nat×Nat:=(σ.C.next,σ.rf)
theorem oL{α:Type}{f:fM.CF->α->fM.CF}(h: ∀s a,(f s a).next=s.next): ∀(l:List α)(s:fM.CF),(l.foldl f s).next=s.next
 | [],_=>rfl
 |a::l,s=>(oL h l (f s a)).trans (h s a)
theorem KJ{x:iW.Ev}:(fM.uQ C x).next=C.next:=oL (f:=fM.mL) (λ_ _=>rfl) _ _
theorem BX :(fM.jo C n).next=C.next:=by
 unfold fM.jo;refine(oL (f:=λ(s:fM.CF) (k:Int)=>fM.oW s k.toNat) (λ_ _=>rfl) _ _).trans ?_;exact oL (f:=fM.jE) (λ_ _=>rfl) _ { C with E1:=bW.rest C.E1 n }
theorem Fk :(fM.pq C n ses).next=C.next:=by unfold fM.pq;split<;>rfl
theorem Ny :(fM.zT C n ses).next=C.next:=by unfold fM.zT;split<;>rfl
theorem Pl{t:Nat}:cn (dH.uR σ o d t)=cn σ:=by unfold dH.uR;split<;>rfl
theorem Pm{t:Nat}{n:Nat×Nat}:cn (Ask.AM σ o d t n).σ=cn σ:=by
 unfold Ask.AM;split
 .exact Pl (σ:=σ)
 .rfl
theorem IP{n:Nat×Nat}:cn (Ask.k7 V σ ses b n).σ=cn σ:=by
 unfold Ask.k7;split
 .rfl
 .exact Pm
theorem Pn :cn (Ask.kM V σ ses d).1=cn σ:=by
 unfold Ask.kM;repeat (first|rfl|exact IP|split)
theorem QN :cn (Ask.FC V σ ses q).σ=cn σ:=by
 unfold Ask.FC;split
 .rfl
 split
 .split
  .exact bU (λz=>(z,σ.rf)) (KJ (C:=σ.C) (x:=q.ep))
  .rfl
 split
 .rfl
 split
 .unfold Ask.zX;repeat (first|rfl|exact IP|split)
 split
 .rfl
 split
 .rfl
 split
 .unfold Ask.zY;repeat (first|rfl|split)
 split
 .unfold Ask.Hk;split
  .split
   .exact bU (λz=>(z,σ.rf)) (Fk (C:=σ.C) (n:=q.num) (ses:=ses))
   .exact Pn.trans (bU (λz=>(z,σ.rf)) (Fk (C:=σ.C) (n:=q.num) (ses:=ses)))
  .rfl
 split
 .exact bU (λz=>(z,σ.rf)) (Ny (C:=σ.C) (n:=q.num) (ses:=ses))
 split
 .unfold Ask.sL;repeat (first|rfl|split)
 .rfl
theorem QO :cn (AN V σ ses q).1=cn σ:=by
 unfold Ask.AN;split
 .split
  .split
   .rfl
   .exact QN
  .rfl
 .rfl
def SH(σ:SS)(x:rq)(o:Hq):Prop:=
 if o.e=0/\x.kind=5 then(if o.y.err≠0 then o.σ.C.next=σ.C.next/\o.σ.rf=σ.rf+1 else if o.y.num>0 then o.σ.C.next=σ.C.next+1/\o.σ.rf=σ.rf/\o.y.num=(σ.C.next:Int)else o.σ.C.next=σ.C.next/\o.σ.rf=σ.rf)
 else cn o.σ=cn σ
theorem Dr(H:1<=σ.C.next):(j8 V σ b data).σ.rf=σ.rf/\((j8 V σ b data).e≠0->(j8 V σ b data).σ.C.next=σ.C.next)/\((j8 V σ b data).e=0->if(j8 V σ b data).num>0 then(j8 V σ b data).σ.C.next=σ.C.next+1/\(j8 V σ b data).num=(σ.C.next:Int)else(j8 V σ b data).σ.C.next=σ.C.next):=by
 unfold j8;split
 .exact⟨rfl,λ_=>rfl,λe=>by cases e⟩
 split
 .exact⟨rfl,λ_=>rfl,λ_=>rfl⟩
 split
 .exact⟨rfl,λ_=>rfl,λe=>by cases e⟩
 split
 .rename_i h;exact⟨rfl,λ_=>rfl,λe=>absurd e h⟩
 split
 .exact⟨rfl,λ_=>rfl,λe=>by cases e⟩
 .generalize min (σ.now+(j4 V b σ.now).1) 1099511627776=t;refine⟨rfl,λe=> ?_,λe=> ?_⟩
  .show(fM.jn σ.C b.p.dest data t).next=_;unfold fM.jn;rw[ae e]
  .show if fM.uz σ.C b.p.dest data t>0 then(fM.jn σ.C b.p.dest data t).next=_/\fM.uz σ.C b.p.dest data t=_ else _
   have e:fM.iH σ.C b.p.dest data t=0:=e;unfold fM.uz fM.jn;rw[af e,af e,fK];exact⟨rfl,rfl⟩
theorem KK{l:List Cb.Tr}{n:Nat}(h:Bn.sumOf V l n=.error e):e≠0:=by
 unfold Bn.sumOf at h;split at h
 .cases h
 .cases h;decide
theorem BY{n:Nat}(h:Bn.mI V t n=.error e):e≠0:=by
 unfold Bn.mI at h
 repeat' (first|(cases h;done)|(cases h;decide)|(cases h;exact KK (by assumption))|split at h)
theorem Po(h:Bn.vu V t=.error e):e≠0:=by
 unfold Bn.vu at h
 repeat' (first|(cases h;done)|(cases h;decide)|(cases h;exact BY (by assumption))|split at h)
theorem BZ : ∀(l:List Cb.Tr)(a:List Bn.lh),Bn.wQ V l a=.error e->e≠0
 | [],a=>by intro h;unfold Bn.wQ at h;cases h
 |t::l,a=>by
  intro h;unfold Bn.wQ at h;split at h
  .cases h;exact Po (by assumption)
  .exact BZ l _ h
theorem KL(h:Bn.oU V t=.error e):e≠0:=by
 unfold Bn.oU at h
 repeat' (first|(cases h;done)|(cases h;decide)|(cases h;exact BY (by assumption))|split at h)
theorem Nz(h:jG V data=.error e):e≠0:=by
 unfold jG at h;split at h
 case isFalse=>cases h;decide
 split at h
 .cases h;exact Cb.km (by assumption)
 split at h
 case isFalse=>cases h;decide
 split at h
 .cases h;exact KL (by assumption)
 split at h
 .cases h;exact BZ _ _ (by assumption)
 split at h
 .cases h
 .cases h;decide
theorem QP(H:1<=σ.C.next):((jK V σ data).e≠0->(jK V σ data).σ.C.next=σ.C.next/\(jK V σ data).σ.rf=σ.rf+1)/\((jK V σ data).e=0->(jK V σ data).σ.rf=σ.rf/\if(jK V σ data).num>0 then(jK V σ data).σ.C.next=σ.C.next+1/\(jK V σ data).num=(σ.C.next:Int)else(jK V σ data).σ.C.next=σ.C.next):=by
 have key: ∀o:Ot,o.σ.rf=σ.rf->(o.e≠0->o.σ.C.next=σ.C.next)->(o.e=0->if o.num>0 then o.σ.C.next=σ.C.next+1/\o.num=(σ.C.next:Int)else o.σ.C.next=σ.C.next)->((oK o).e≠0->(oK o).σ.C.next=σ.C.next/\(oK o).σ.rf=σ.rf+1)/\((oK o).e=0->(oK o).σ.rf=σ.rf/\if(oK o).num>0 then(oK o).σ.C.next=σ.C.next+1/\(oK o).num=(σ.C.next:Int)else(oK o).σ.C.next=σ.C.next):=by
  intro o a c f;unfold oK;split
  .rename_i h;exact⟨λ_=>⟨c h,by show o.σ.rf+1=_;rw[a]⟩,λe=>absurd e h⟩
  .rename_i h;exact⟨λe=>absurd e h,λe=>⟨a,f e⟩⟩
 unfold jK;split
 .rename_i e h;exact key (bad σ e) rfl (λ_=>rfl) (λq=>absurd q (Nz h))
 .exact key _ (Dr H).1 (Dr H).2.1 (Dr H).2.2
theorem Pp:cn (dH.wV σ)=cn σ:=by unfold dH.wV;split<;>rfl
theorem NA(f:1<=σ.C.next):SH σ x (fY V σ x):=by
 have p:cn (dH.lC σ x.now)=cn σ:=bU (λz=>(z,σ.rf)) (BX (C:=σ.C));have P:(dH.lC σ x.now).C.next=σ.C.next:=BX;have pr:(dH.lC σ x.now).rf=σ.rf:=rfl;unfold SH fY;by_cases c1:ue V x=true
 case neg=>rw[ae c1,ae bP]
 rw[af c1];by_cases c2:dH.nQ σ x.now=0
 case neg=>rw[ae c2,ae (λe=>c2 e.1)]
 rw[af c2];generalize dH.lC σ x.now=a at p P pr;by_cases K:x.kind=5
 .have E:gn V a x=⟨(jK V a x.data).σ,(jK V a x.data).e,⟨0,0,(jK V a x.data).num,(jK V a x.data).uo,0, []⟩⟩:=by
   unfold gn;rw[dc,dc,dc,dc,af K]
  rw[E];obtain⟨a1,a2⟩:=QP (V:=V) (σ:=a) (data:=x.data) ag;generalize jK V a x.data=o at a1 a2;by_cases c:o.e=0
  .obtain⟨b1,B⟩:=a2 c;rw[af c,af ⟨rfl,K⟩];show if(0:Int)≠0 then _ else if o.num>0 then o.σ.C.next=_/\o.σ.rf=_/\o.num=_ else o.σ.C.next=_/\o.σ.rf=_
   rw[ae bP];split
   .rename_i h;rw[af h]at B;exact⟨ag,ag,by rw[B.2,P]⟩
   .rename_i h;rw[ae h]at B;exact⟨ag,ag⟩
  .obtain⟨b1,B⟩:=a1 c;rw[ae c,af ⟨rfl,K⟩];show if o.e≠0 then o.σ.C.next=_/\o.σ.rf=_ else _
   rw[af c];exact⟨ag,ag⟩
 .rw[ae (λe=>K e.2)];have H:cn (gn V a x).σ=cn a:=by
   unfold gn;split
   .rfl
   split
   .rfl
   split
   .rfl
   split
   .exact QO
   split
   .split
    .rfl
    .exact Pp
   split<;>rfl
  split
  .exact H.trans p
  .exact H.trans p

end EI
end
section
namespace Ask
open iW (Ev cV)
open dH (SS Good Pt ps Mk)
open Bn (iA gE hU yY CL kJ Prim lh ic BB iS jG qb)
variable {V:cD→Bool} {h h' j g:ai} {R:fp} {s k bo id c:Nat} {X d:Ft} {I:ps} {σ:SS} {p:cy} {ses:Int} {x:Rq} {D:Nat→Prop}
theorem bm.box{b:Nat}(st:bm X h d h')(f:Fr (λy=>y=b) h' g)(H:h.size<=b):bm X h d g:=⟨st.fr.trans f (λ_ _ a=>a) (λc i e=>ag),st.gI,st.iF,st.lE⟩
def NB(σ:SS)(X:Ft)(I:ps)(s:Nat)(ses:Int)(dl:Nat)(x:Ev)(g:ai)(S:aN.S)(e:Int)(h':ai):Prop:=
 ∃d a,Pt h' s d I a/\bm X g d h'/\((¬fM.sJ ses dl/\e=1/\a=σ)\/(fM.sJ ses dl/\fM.kZ σ.C.L x=none/\e=4/\a=σ)\/
  (fM.sJ ses dl/\∃z,fM.kZ σ.C.L x=some z/\e=0/\a= { σ with C:=fM.qB σ.C z ses dl } /\∃p c,S.f0=(z.num:Int)/\S.Dw=p/\S.Dx=z.d.length/\S.Dy=c/\Row h' p (bc z.d)/\z.d.length<=c/\∀y,aR p y->g.size<=y/\¬d.M y))
theorem Ag(H:Pt g s X I σ)(G:dH.Good σ k)(hk:k<=30000)(x:Ev)(dl:Nat){K:aN.S->Int->ai->Prop}(f: ∀S e h',NB σ X I s ses dl x g S e h'->K S e h'):
  Cl 156 #[pt I.c,x.s.agg,.I ses,.U (dl:Int)] g λv h'=>aN.EX λS=> ∃e,v=.tuple #[S.agg,.I e]/\K S e h':=by
 obtain⟨Z,m,J,F,go⟩:=H.use 2;have B:=G.small H.ord ag;refine fM.Km m B G.c.ok.bd x ses dl rfl (λa b f1=> ?_) (λa w b f1=> ?_) (λa z m b r P c1 n s1 r1 t n1=> ?_)
 .exact aN.ex .z ⟨_,rfl,f _ _ _ ⟨X,σ,H.on f1,bm.gr f1,.inl ⟨a,rfl,rfl⟩⟩⟩
 .exact aN.ex .z ⟨_,rfl,f _ _ _ ⟨X,σ,H.on f1,bm.gr f1,.inr (.inl ⟨a,w,rfl,rfl⟩)⟩⟩
 .obtain⟨q,o,st1,E,N⟩:=go b r { σ with C:=fM.qB σ.C z ses dl } n s1 (λi u=>dH.wa _ u);exact aN.ex ⟨(z.num:Int),z.e.ky,z.e.node,z.e.gk,z.e.host,z.e.jB,P,z.d.length,c1,(z.cf:Int),ses,(dl:Int)⟩ ⟨_,rfl,f _ _ _ ⟨q,_,o,st1,.inr (.inr ⟨a,z,m,rfl,rfl,P,c1,rfl,rfl,rfl,rfl,r1,t,λy l=>⟨(n1 y l).1,λA=>(n1 y l).2 (N y (n1 y l).1 (.inl A))⟩⟩)⟩⟩
theorem Pq(E:En V j h s X I σ k)(ht:0<=x.iz/\x.iz<=1000000)(o:ak.fi h bo (y0 id))(nb: ¬(X.M bo\/X.D bo))(hk: ∀h' d,Pt h' s d I (zY V σ ses x).σ->gg X h bo id (zY V σ ses x) d h'->R (.I (zY V σ ses x).e) h'):
  Cl 105 #[(x.as p c s ses).agg,.P bo 0] h R:=by
 refine Ac.walk (cg.cM (x:=x.as p c s ses) λb h1 eb j' f1=>cg.ff (x:=x.as p c s ses) j' (Dp (E.H.on f1) λZ f2=>⟨_,rfl,?_⟩));have O:=f1.tt f2;have E2:=E.on O;have r:=f2.get j' _root_.id;have nM: ¬X.M bo:=λe=>nb (.inl e)
 have zo:=aD o;have z1:=f1.1;have z2:=f2.1;unfold zY at hk;by_cases N:gj.jh σ.G x.ep ses=0
 case neg=>
  rw[ae N]at hk;rw[af (cA N)];exact hk Z X E2.H (gg.bad o nM (bm.gr O))
 rw[af N]at hk;rw[ae (cA N)];refine aG.of λo' hJ=> ?_
 have fin: ∀(g h' G:ai)(S:aN.S)(e:Int)(l:Nat),NB σ X I s ses (PY σ x) x.ep g S e h'->Fr No Z g->h.size<=l->(l<g.size\/h'.size<=l)->aN.fi G l S->Fr (λy=>y=l) h' G->o' (Sa l 0) e G:=by
  intro g h' G S e l L fg z' K' hS f;subst hJ;dsimp only;obtain⟨d,P',H',d',c⟩:=L;have zg:=fg.1;have rh:=bm.no (O.tt fg) d';have st:=bm.box rh f z';have C': ∀y,d.M y\/d.D y->y≠l:=λy H e=>by
   have:=H'.lt y H;rcases H with a|a
   .rcases d'.gI y a with a|a
    .have:=E.H.lt y (.inl a);omega
    .omega
   .rcases d'.iF y a with a|a
    .have:=E.H.lt y (.inr a);omega
    .omega
  have P:=H'.frame f (λy H e=>C' y H e);rcases c with⟨w,rfl,rfl⟩|⟨w,hn,rfl,rfl⟩|⟨w,z,hz,rfl,rfl,p1,c1,e0,e1,e2,e3,r1,cap,n1⟩
  .rw[ae w]at hk;rw[fK];exact hk G d P (gg.bad o nM st)
  .rw[af w,hn]at hk;rw[fK];exact hk G d P (gg.bad o nM st)
  rw[af w,hz]at hk;dsimp only at hk;rw[dc];have rg:Row G p1 (bc z.d):=by
   by_cases hd:z.d= []
   .rw[hd];exact Row.nil
   .refine r1.frame f (λa J A=> ?_);have h3:=n1 a.block ⟨a,J,rfl⟩;have h4:=jr r1 (by simpa[bc]using hd) ⟨a,J,rfl⟩;have A:a.block=l:=A;omega
  have ug:=(E.u.step st).fr;have ac: ∀{g2:ai}{i:Nat}{v:Value},Fr No G g2->S.arr[i]? =some v->bg g2 (AA l i)=some v:=λf2 hv=>cH (f2.get hS _root_.id) hv
  have J':=aD hS;have A':=st.fr.get o nM;have bne:bo≠l:=ag
  have rest: ∀(M:ai)(m:kJ)(q:cy)(cl:Nat)(xs:List BB)(D:Nat->Prop),ic M D m.bl q m.bl.length cl xs->m.bl.length<=1000000->(∀y∈m.bl,y.data.length<=80000)->(qb m).length=Kv V z.d->Fr No G M->
   aQ M (.cells aq.S.z.arr 129) λg' u'=>
   aq.cX u' (AA g' 0) (m.s q cl) λn=>
   aL (some ((AA l 0):Addr)) λf'=>
   ∃t52,bg n f'=some (.I t52)/\
   aq.cv n (AA g' 0) λt53=>
   aL (some ((AA l 0):Addr)) λC=>
   ∃n' m' l',bg n (C.add 6)=some (.slice n' m' l')/\
   Cl 159 #[t53.agg] n λG' a'=>
   ∃F' k' E',G'=.slice F' k' E'/\
   Kp n a' [(some (C.add 6)),(some f')]/\
   aS a' (AA bo 2) (.I t52) λb'=>
   Kp a' b' [(some (C.add 6))]/\
   aS b' (AA bo 3) (.I ((k':Nat):Int)) λi'=>
   Kp b' i' [(some (C.add 6))]/\
   aS i' (AA bo 5) (.slice n' m' l') λt'=>
   R (.I 0) t':=by
   intro M m q cl xs D B hl hd hp f5;refine aq.ft (x:=m.s q cl) λb6 g6 M' y' f6=>aw.2 ⟨_,ac (i:=0) (f5.tt f6) rfl,aq.ff (x:=m.s q cl) y' (aw.2 ⟨_,_,_,ac (i:=6) (f5.tt f6) rfl,Bn.zp (B.on f6) hl hd λg7 p7 c7 o7 n7 f7=>⟨_,_,_,rfl,f7.kp,?_⟩⟩)⟩
   have F:=f5.tt (f6.tt f7);rw[hp,e0,e1,e2,e3];refine hH (z:=⟨id,0,(z.num:Int),0,0,none,0,0⟩) (F.get A' _root_.id) di rfl λg8 d8 f8=>⟨Mf f8 bne.symm (by simp;rfl),hH (z:=⟨id,0,(z.num:Int),(Kv V z.d:Int),0,none,0,0⟩) d8 di rfl λg9 d9 f9=>⟨Mf f9 bne.symm (by simp;rfl),hH (z:=⟨id,0,(z.num:Int),(Kv V z.d:Int),0,p1,z.d.length,c1⟩) d9 di rfl λq' d10 f10=> ?_⟩⟩
   have T:=f8.tt (f9.tt f10);have D': ∀y,d.M y\/d.D y->y≠bo:=λy H e=>by
    rcases H with a|a
    .rcases rh.gI y a with a|a
     .exact nM (e▸a)
     .omega
    .rcases rh.iF y a with a|a
     .exact nb (.inr (e▸a))
     .omega
   refine hk q' d ((P.on F).frame T (λy H e=>D' y H e)) (gg.of (st.on F) T ⟨_,d10,λ_=>⟨p1,c1,rfl,?_,λ_ y H=>⟨.inl (bY ((n1 y H).1)),(n1 y H).2⟩⟩⟩);exact(rg.frame F (λ_ _=>_root_.id)).frame T (λa J A=>by have h3:=(n1 a.block ⟨a,J,rfl⟩).1;have A:a.block=bo:=A;omega)
  refine aw.2 ⟨_,_,_,ac (i:=6) (Fr.refl _ _) rfl,?_⟩;rw[e1,e2,e3];refine Bn.xW E.U ug (E.mx.on ug) rg rfl cap (λm v' w' B' O' h5 q cl xs B f5=>aq.ex (m.s q cl) ⟨_,rfl,?_⟩) (λe he hn h5 f5=>aq.ex .z ⟨_,rfl,?_⟩)
  .exact rest h5 m q cl xs _ B ag (λy H=>bY (B' y H)) (by unfold Kv;rw[v']) f5
  .exact rest h5 ⟨.zero, []⟩ none 0 [] (λ_=>True) ⟨rfl,rfl,Row.nil,λe=>absurd rfl e,bk _,λy H=>by cases H⟩ (by show 0<=_;omega) (λy H=>by cases H) (by unfold Kv;rw[he];rfl) f5
 have c': ¬X.M b:=E.nM ag;have eT:IntKind.wrap .u64 x.iz=(x.iz.toNat:Int):=by rw[wrap_u64 ag ag];omega
 have un: ∀{g:ai}{K:Int->ai->Prop},K (PY σ x:Int) g->Cl 157 #[.U (σ.now:Int),.U (IntKind.wrap .u64 x.iz)] g λv G=> ∃t,v=.U t/\K t G:=λhK=>by
  rw[eT];exact Fc σ.now x.iz.toNat E.G.n ag ⟨_,rfl,hK⟩
 refine⟨_,ar r,aw.2 ⟨_,ar E2.H.cT,hU x.ep r rfl rfl rfl rfl rfl ⟨_,ar r,_,ar r,aw.2 ⟨_,ar E2.H.cT,_,ar r,⟨?_,?_,trivial⟩⟩⟩⟩⟩
 .refine un ⟨(Fr.refl (λ_=>False) _).kp,?_,?_,trivial⟩
  .exact Ag E2.H E.G E.hk x.ep (PY σ x) λS e r' L=>⟨(by obtain⟨_,_,_,st,_⟩:=_root_.id L;exact Dn st.fr c' bP),aN.cM λb2 N' L' x' f13=>⟨f13.kp,aN.gy (x:=S) x' λs' d14 f14 _=>fin Z r' s' S e b2 L (Fr.refl _ _) (by obtain⟨_,_,_,st,_⟩:=_root_.id L;have:=st.fr.1;omega) (.inr ag) d14 (Fr.no f13 f14)⟩⟩
  .refine aN.cM λQ U p' u f15=>⟨f15.kp,Ag (E2.H.on f15) E.G E.hk x.ep (PY σ x) λS e W L=> ?_⟩
   have I':=f15.1;have e':=aD u;exact⟨(by obtain⟨_,_,_,st,_⟩:=_root_.id L;exact Dn st.fr c' bP),aN.gy (x:=S) (by obtain⟨_,_,_,st,_⟩:=_root_.id L;exact st.fr.get u (E.nM ag)) λY d17 f17 _=>fin U W Y S e Q L f15 ag (.inl e') d17 f17⟩
 .refine aN.cM λQ U p' u f15=>⟨f15.kp,un ⟨(Fr.refl (λ_=>False) _).kp,Ag (E2.H.on f15) E.G E.hk x.ep (PY σ x) λS e W L=> ?_⟩⟩
  have I':=f15.1;have e':=aD u;exact⟨(by obtain⟨_,_,_,st,_⟩:=_root_.id L;exact Dn st.fr c' bP),aN.gy (x:=S) (by obtain⟨_,_,_,st,_⟩:=_root_.id L;exact st.fr.get u (E.nM ag)) λY d17 f17 _=>fin U W Y S e Q L f15 ag (.inl e') d17 f17⟩
theorem zL(E:En V j h s X I σ k)(o:ak.fi h bo (y0 id))(L: ¬(X.M bo\/X.D bo))(hk: ∀h' d,Pt h' s d I (sL σ ses x.on).σ->gg X h bo id (sL σ ses x.on) d h'->R (.I (sL σ ses x.on).e) h'):
  Cl 108 #[(x.as p c s ses).agg,.P bo 0] h R:=by
 refine xE.walk (cg.cM (x:=x.as p c s ses) λb h1 eb f f1=> ?_);have E1:=E.on f1;have nM: ¬X.M bo:=λe=>L (.inl e)
 have zo:=aD o;have N: ¬X.M b:=E.nM ag;obtain⟨Z,t,zm,zd,go⟩:=E1.H.use 0;unfold sL at hk;refine⟨_,ar f,aw.2 ⟨_,ar E1.H.cT,_,ar f,_,ar f,fj.zL t E.G.a λB W T s2=> ?_⟩⟩;obtain⟨v,m,S,f',g'⟩:=go B W { σ with A:=fj.jx σ.A ses x.on } T s2 (λi q=>dH.qA _ q);refine⟨_,rfl,Dn S.fr N bP,aG.of λe' J=> ?_⟩;have rh:=bm.no f1 S;by_cases H:fj.vS σ.A ses=0
 case neg=>
  rw[ae H]at hk;rw[ae (cA H)];subst J;have eA:fj.jx σ.A ses x.on=σ.A:=by
   unfold fj.vS at H;unfold fj.jx;cases hs:fj.mw σ.A ses with
   |none=>rfl
   |some z=>rw[hs]at H;exact absurd rfl H
  rw[eA]at m;exact hk B v m (gg.bad o nM rh)
 rw[af H]at hk;rw[af (by rw[H];rfl)];have K:=S.fr.get f N;have d': ¬v.M b:=λr=>by
  rcases S.gI b r with a|a
  .exact N a
  .have:=aD f;omega
 obtain⟨Z3,c',k',j',a'⟩:=m.use 0;refine⟨_,ar K,aw.2 ⟨_,ar m.cT,_,ar K,fj.uf c' (E.G.a.watch ses x.on) λh4 Y P C U s4 O=> ?_⟩⟩;obtain⟨n,u,Q,w,i'⟩:=a' h4 Y { σ with A:=fj.BL (fj.jx σ.A ses x.on) ses } U s4 (λi q=>dH.qA (σ:= { σ with A:=fj.jx σ.A ses x.on }) _ q);have st:=rh.trans Q;refine⟨_,_,_,_,_,rfl,Dn Q.fr d' bP,?_⟩;have b':=st.fr.get o nM;refine hH (z:=⟨id,0,0,0,0,P,(fj.BK (fj.jx σ.A ses x.on) ses).length,C⟩) b' di rfl λh5 d5 f5=>hH (z:=⟨id,0,0,fj.Ii (fj.jx σ.A ses x.on) ses,0,P,(fj.BK (fj.jx σ.A ses x.on) ses).length,C⟩) d5 di rfl λh6 d6 f6=> ?_
 subst J;have F:=f5.tt f6;have M: ∀y,n.M y\/n.D y->y≠bo:=λy l e=>by
  rcases l with a|a
  .rcases st.gI y a with a|a
   .exact nM (e▸a)
   .omega
  .rcases st.iF y a with a|a
   .exact L (.inr (e▸a))
   .omega
 refine hk h6 n (u.frame F (λy l e=>M y l e)) (gg.of st F ⟨_,d6,λ_=>⟨P,C,rfl,?_,λhd z t=> ?_⟩⟩)
 .have:=BV.ok.frame O F (λy l e=>M y (.inr (w y l)) e);exact this.row
 .have G:=w z (O.own hd z t);exact⟨(st.iF z G).symm,λr=>u.tH z r G⟩

end Ask
end
section
namespace Ask
open iW (Ev cV)
open dH (SS Good Pt ps Mk)
open Bn (iA gE hU yY CL kJ Prim lh xS ic BB iS jG qb kV)
variable {V:cD→Bool} {h h' j g:ai} {R:fp} {s k c:Nat} {X i:Ft} {I:ps} {σ:SS} {p:cy} {ses:Int} {x:Rq} {D:Nat→Prop}
variable {K:aq.S->Int->ai->Prop} {d:cD} {q:cy} {C:Nat}
def NX(σ:SS)(a b:iA)(e:Int):Prop:=(e=0/\∃n,oY σ=some n/\a=⟨σ.e,n.1,n.2⟩/\b=⟨σ.e,n.1,n.2⟩)\/(e=5/\oY σ=none)
theorem Fl(H:Pt g s X I σ){K:ah.S->ai->Prop}(a: ∀G,Fr No g G->K (⟨σ.e,σ.tm,σ.sq⟩:iA).s G):Cl 74 #[pt I.k] g λv G=>ah.EX λt=>v=t.agg/\K t G:=
 dH.Iq (Pt.mk' H) λG f=>ah.ex (⟨σ.e,σ.tm,σ.sq⟩:iA).s ⟨rfl,a G f⟩
theorem qE(H:Pt g s X I σ)(G:dH.Good σ k){K:ah.S->ah.S->Int->ai->Prop}(l: ∀a m o e,NX σ m o e->Fr No g a->K m.s o.s e a):
  Cl 150 #[pt s,σ.e.s.agg] g λv a=>ah.EX λt1=>ah.EX λt2=> ∃e,v=.tuple #[t1.agg,t2.agg,.I e]/\K t1 t2 e a:=
 ui H G σ.e (λn b a f=>ah.ex (⟨σ.e,n.1,n.2⟩:iA).s (ah.ex (⟨σ.e,n.1,n.2⟩:iA).s ⟨_,rfl,l a _ _ 0 (.inl ⟨rfl,n,b,rfl,rfl⟩) f⟩)) (λb a f=>ah.ex (⟨σ.e,0,0⟩:iA).s (ah.ex iA.zero.s ⟨_,rfl,l a _ _ 5 (.inr ⟨rfl,b⟩) f⟩))
theorem Sm(E:En V j g s X I σ k)(P:Prim)(n:Nat×Nat)(w:P.wf)(H: ∀G (b:kJ) q cl xs e,((e=0/\kV V ⟨false,true,false,0,σ.now,P.id⟩ P.rep ⟨σ.e,n.1,n.2⟩ P.dN=some b/\b.p.wf/\b.bl.length=1/\(∀y∈b.bl,y.data.length<=80000)/\ic G (λy=>g.size<=y) b.bl q b.bl.length cl xs)\/(e=3/\kV V ⟨false,true,false,0,σ.now,P.id⟩ P.rep ⟨σ.e,n.1,n.2⟩ P.dN=none))->Fr No g G->K (b.s q cl) e G):
  Cl 197 #[(⟨false,true,false,0,σ.now,P.id⟩:xS).s.agg,P.rep.s.agg,(⟨σ.e,n.1,n.2⟩:iA).s.agg,.U (P.dN:Int)] g λv G=>aq.EX λt=> ∃e,v=.tuple #[t.agg,.I e]/\K t e G:=
 Bn.KG ⟨false,true,false,0,σ.now,P.id⟩ P.rep ⟨σ.e,n.1,n.2⟩ P.dN w.2.2 w.2.1 E.G.e.2.2 E.U E.u.fr E.P2
  (λb a l W hd G q cl xs B f=>aq.ex (b.s q cl) ⟨_,rfl,H G b q cl xs 0 (.inl ⟨rfl,a,W,l,(λy o=>bY (hd y o)),B⟩) f⟩)
  (λm G f=>aq.ex (kJ.s ⟨.zero, []⟩ none 0) ⟨_,rfl,H G ⟨.zero, []⟩ none 0 [] 3 (.inr ⟨rfl,m⟩) f⟩)
theorem Sn(E:En V j g s X I σ k)(row:Row g q (bc d))(cap:d.length<=C)(a: ∀G (b:kJ) q' cl e,b.p.wf->(wW b.p=false->kM V σ ses d=(σ,0))->(wW b.p=true->jG V d=.ok b)->Fr No g G->K (b.s q' cl) e G):
  Cl 158 #[.slice q d.length C] g λv G=>aq.EX λt=> ∃e,v=.tuple #[t.agg,.I e]/\K t e G:=
 Bn.xW E.U E.u.fr E.P2 row rfl cap
  (λb l w hd n G q' cl xs B f=>aq.ex (b.s q' cl) ⟨_,rfl,a G b q' cl 0 w (λH=>by unfold kM;rw[l];dsimp only;rw[ae (by rw[H];decide)]) (λ_=>l) f⟩)
  (λe m o G f=>aq.ex (kJ.s ⟨.zero, []⟩ none 0) ⟨_,rfl,a G ⟨.zero, []⟩ none 0 e ⟨eJ 0,eJ 0,eJ 0⟩ (λ_=>by unfold kM;rw[m]) (λH=>absurd H (by rw[show wW Prim.zero=false by kernel_rfl];decide)) f⟩)
theorem Pr{l:Nat}(E:En V j h s X I σ k)(row:Row h q (bc d))(hl:l=d.length)(cap:d.length<=C)(hk: ∀h' i,Pt h' s i I (kM V σ ses d).1->bm X h i h'->R (.I (kM V σ ses d).2) h'):
  Cl 164 #[(x.as p c s ses).agg,.slice q l C] h R:=by
 subst hl;refine Ad.walk (cg.cM (x:=x.as p c s ses) λb h1 eb n' f1=> ?_);refine Sn (ses:=ses) (E.on f1) (row.frame f1 cb) cap λh2 H q' cl e0 i' r' s' f2=>aq.ft (x:=H.s q' cl) λb3 h4 t' o' f4=>Bn.SG o' (aC.ft (x:=H.p.s) λb4 Y u' b' f6=>aG.of λj' hJ=> ?_)
 have F6:=f1.tt (f2.tt (f4.tt f6));have F:=E.on F6;have a':=(f2.tt (f4.tt f6)).get n' id;have dn: ∀g,Fr No h g->kM V σ ses d=(σ,0)->R (.I 0) g:=λg P e=>by rw[e]at hk;exact hk g X (E.H.on P) (bm.gr P)
 have key: ∀v,v= !wW H.p->j' v Y:=by
  intro v hv;subst hv;subst hJ;dsimp only;cases ht:wW H.p with
  |false=>rw[fK];exact dn Y F6 (r' ht)
  |true=>
  rw[dc];have d':=s' ht;refine aG.of λJ1 l'=> ?_
  have k': ∀(g:ai)(L M:Nat)(o r:iA)(e:Int),NX σ o r e->ah.fi g L o.s->ah.fi g M r.s->Fr No Y g->J1 (Sa L 0) (Sa M 0) e g:=by
   intro g L M o r e N hi hw P;subst l';dsimp only;rcases N with⟨rfl,n,hn,rfl,rfl⟩|⟨rfl,hn⟩
   case inr=>
    rw[fK];exact dn g (F6.tt P) (by unfold kM;rw[d'];dsimp only;rw[af ht,hn])
   rw[dc];have Eg:=F.on P;have f':=P.get a' id;have c':=P.get b' id;refine aG.of λJ2 m'=> ?_
   have e': ∀(W:ai)(m:kJ)(q:cy)(cl:Nat)(xs:List BB)(D:Nat->Prop)(S:Nat)(e:Int),((e=0/\kV V ⟨false,true,false,0,σ.now,H.p.id⟩ H.p.rep ⟨σ.e,n.1,n.2⟩ H.p.dN=some m/\m.p.wf/\m.bl.length=1/\(∀y∈m.bl,y.data.length<=80000)/\ic W D m.bl q m.bl.length cl xs)\/(e=3/\kV V ⟨false,true,false,0,σ.now,H.p.id⟩ H.p.rep ⟨σ.e,n.1,n.2⟩ H.p.dN=none))->
     aq.fi W S (m.s q cl)->Fr No g W->J2 e (Sa S 0) W:=by
    intro W m q cl xs D S e sp Z f5;subst m';dsimp only;rcases sp with⟨rfl,hs,wb,hl,hd,B⟩|⟨rfl,hs⟩
    case inr=>
     rw[fK];exact dn W (F6.tt (P.tt f5)) (by unfold kM;rw[d'];dsimp only;rw[af ht,hn];dsimp only;rw[hs])
    rw[dc];refine cg.ff (x:=x.as p c s ses) (f5.get f' id) (aw.2 (aq.ff (x:=m.s q cl) Z (aw.2 (ah.ff (x:=(⟨σ.e,n.1,n.2⟩:iA).s) (f5.get hw id) (IK (b:=m) (x:=x) (p:=p) (c:=c) (ses:=ses) (Eg.on f5) wb B ag hd hn λh9 X9 H9 p'=>⟨_,_,_,rfl,?_⟩)))));have eQ:kM V σ ses d=((k7 V σ ses m n).σ,if(k7 V σ ses m n).e=0 then 1 else 0):=by unfold kM;rw[d'];dsimp only;rw[af ht,hn];dsimp only;rw[hs]
    rw[eQ]at hk;have hk:=hk h9 X9 H9 (bm.no (F6.tt (P.tt f5)) p');by_cases c0:(k7 V σ ses m n).e=0
    .rw[ae (cA c0)];rw[af c0]at hk;exact hk
    .rw[af (cA c0)];rw[ae c0]at hk;exact hk
   refine⟨_,ar f',aw.2 ⟨_,ar Eg.H.cT,yY H.p.id c' rfl rfl rfl rfl rfl rfl rfl (hU H.p.rep c' rfl rfl rfl rfl rfl (aw.2 (ah.ff (x:=(⟨σ.e,n.1,n.2⟩:iA).s) hi ⟨_,ar c',?_,?_,trivial⟩)))⟩⟩
   .refine Sm Eg H.p n i' λG m q cl xs e sp u2=>⟨u2.kp,aq.cM λS Q er Z U=>⟨U.kp,aq.gy (x:=m.s q cl) Z λA d4 u _=> ?_⟩⟩
    have U4:Fr No G A:=U.fresh u (λy e=>ag);refine e' A m q cl xs (λy=>g.size<=y) S e ?_ d4 (u2.tt U4);rcases sp with⟨a1,a2,a3,a4,a5,a6⟩|a
    .exact .inl ⟨a1,a2,a3,a4,a5,a6.on U4⟩
    .exact .inr a
   .refine aq.cM λS Q er Z U=>⟨U.kp,Sm (Eg.on U) H.p n i' λG m q cl xs e sp u2=>⟨u2.kp,aq.gy (x:=m.s q cl) (u2.get Z id) λA d4 u _=> ?_⟩⟩
    have zr:=aD Z;have U4:Fr No g A:=(U.tt u2).fresh u (λy e=>ag);refine e' A m q cl xs (λy=>Q.size<=y) S e ?_ d4 U4;rcases sp with⟨a1,a2,a3,a4,a5,a6⟩|a
    .exact .inl ⟨a1,a2,a3,a4,a5,a6.frame u (λy hy e=>ag)⟩
    .exact .inr a
  have J: ∀(g:ai)(L M:Nat)(y1 y2:ah.S)(o r:iA)(e:Int),NX σ o r e->ah.fi g L y1->ah.fi g M y2->L≠M->Y.size<=L->Y.size<=M->Fr No Y g->
    ah.cX g (AA L 0) o.s λT=>ah.cX T (AA M 0) r.s λG=>J1 (Sa L 0) (Sa M 0) e G:=by
   intro g L M y1 y2 o r e N hi hw ne zi zw P;exact ah.gy (x:=o.s) hi λT d1 u1 _=>ah.gy (x:=r.s) (u1.get hw ne.symm) λG d2 u2 _=>k' G L M o r e N (u2.get d1 ne) d2 ((P.fresh u1 (λy e=>ag)).fresh u2 (λy e=>ag))
  have lt: ∀{g:ai}{b:Nat}{y:ah.S},ah.fi g b y->b<g.size:=λh=>aD h
  have le: ∀{g g':ai},Fr No g g'->g.size<=g'.size:=λf=>f.1
  refine⟨_,ar a',_,ar a',aw.2 ⟨_,ar F.H.cT,?_,?_,?_,trivial⟩⟩
  .refine Fl F.H λT u1=>⟨u1.kp,?_,?_,?_,trivial⟩
   .refine qE (F.H.on u1) E.G λG o r e N u2=>⟨u2.kp,?_,?_,trivial⟩
    .exact ah.cM λm Q e5 t U=>⟨U.kp,ah.cM λw A O z u=>⟨u.kp,J A m w _ _ o r e N (u.get t id) z (bY (lt t)) (hY (le u1) (le u2)) (qW (le u1) (le u2) (le U)) (u1.tt (u2.tt (U.tt u)))⟩⟩
    .exact ah.cM λm Q e5 t U=>⟨U.kp,ah.cM λw A O z u=>⟨u.kp,J A w m _ _ o r e N z (u.get t id) (bY (lt t)) (qW (le u1) (le u2) (le U)) (hY (le u1) (le u2)) (u1.tt (u2.tt (U.tt u)))⟩⟩
   .refine ah.cM λm Q e5 t U=>⟨U.kp,?_,?_,trivial⟩
    .exact qE (F.H.on (u1.tt U)) E.G λG o r e N u2=>⟨u2.kp,ah.cM λw A O z u=>⟨u.kp,J A m w _ _ o r e N ((u2.tt u).get t id) z (hY (lt t) (le u2)) (bY (le u1)) (qW (le u1) (le u2) (le U)) (u1.tt (U.tt (u2.tt u)))⟩⟩
    .exact ah.cM λw A O z u=>⟨u.kp,qE (F.H.on (u1.tt (U.tt u))) E.G λG o r e N u2=>⟨u2.kp,J G m w _ _ o r e N ((u.tt u2).get t id) (u2.get z id) (bY (lt t)) (bY (le u1)) (hY (le u1) (le U)) (u1.tt (U.tt (u.tt u2)))⟩⟩
   .refine ah.cM λm Q e5 t U=>⟨U.kp,?_,?_,trivial⟩
    .exact qE (F.H.on (u1.tt U)) E.G λG o r e N u2=>⟨u2.kp,ah.cM λw A O z u=>⟨u.kp,J A w m _ _ o r e N z ((u2.tt u).get t id) (hY (lt t) (le u2)) (qW (le u1) (le u2) (le U)) (bY (le u1)) (u1.tt (U.tt (u2.tt u)))⟩⟩
    .exact ah.cM λw A O z u=>⟨u.kp,qE (F.H.on (u1.tt (U.tt u))) E.G λG o r e N u2=>⟨u2.kp,J G w m _ _ o r e N (u2.get z id) ((u.tt u2).get t id) (bY (lt t)) (hY (le u1) (le U)) (bY (le u1)) (u1.tt (U.tt (u.tt u2)))⟩⟩
  .refine ah.cM λm Q e5 t U=>⟨U.kp,?_,?_,trivial⟩
   .refine Fl (F.H.on U) λT u1=>⟨u1.kp,?_,?_,trivial⟩
    .exact qE (F.H.on (U.tt u1)) E.G λG o r e N u2=>⟨u2.kp,ah.cM λw A O z u=>⟨u.kp,J A m w _ _ o r e N ((u1.tt (u2.tt u)).get t id) z (qW (lt t) (le u1) (le u2)) ag (qW (le u1) (le u2) (le U)) (U.tt (u1.tt (u2.tt u)))⟩⟩
    .exact ah.cM λw A O z u=>⟨u.kp,qE (F.H.on (U.tt (u1.tt u))) E.G λG o r e N u2=>⟨u2.kp,J G m w _ _ o r e N ((u1.tt (u.tt u2)).get t id) (u2.get z id) (hY (lt t) (le u1)) ag (hY (le u1) (le U)) (U.tt (u1.tt (u.tt u2)))⟩⟩
   .exact ah.cM λw A O z u=>⟨u.kp,Fl (F.H.on (U.tt u)) λT u1=>⟨u1.kp,qE (F.H.on (U.tt (u.tt u1))) E.G λG o r e N u2=>⟨u2.kp,J G m w _ _ o r e N ((u.tt (u1.tt u2)).get t id) ((u1.tt u2).get z id) (bY (lt t)) ag (bY (le U)) (U.tt (u.tt (u1.tt u2)))⟩⟩⟩
  .refine ah.cM λm Q e5 t U=>⟨U.kp,?_,?_,trivial⟩
   .refine Fl (F.H.on U) λT u1=>⟨u1.kp,?_,?_,trivial⟩
    .exact qE (F.H.on (U.tt u1)) E.G λG o r e N u2=>⟨u2.kp,ah.cM λw A O z u=>⟨u.kp,J A w m _ _ o r e N z ((u1.tt (u2.tt u)).get t id) (qW (lt t) (le u1) (le u2)) (qW (le u1) (le u2) (le U)) ag (U.tt (u1.tt (u2.tt u)))⟩⟩
    .exact ah.cM λw A O z u=>⟨u.kp,qE (F.H.on (U.tt (u1.tt u))) E.G λG o r e N u2=>⟨u2.kp,J G w m _ _ o r e N (u2.get z id) ((u1.tt (u.tt u2)).get t id) (hY (lt t) (le u1)) (hY (le u1) (le U)) ag (U.tt (u1.tt (u.tt u2)))⟩⟩
   .exact ah.cM λw A O z u=>⟨u.kp,Fl (F.H.on (U.tt u)) λT u1=>⟨u1.kp,qE (F.H.on (U.tt (u.tt u1))) E.G λG o r e N u2=>⟨u2.kp,J G w m _ _ o r e N ((u1.tt u2).get z id) ((u.tt (u1.tt u2)).get t id) (bY (lt t)) (bY (le U)) ag (U.tt (u.tt (u1.tt u2)))⟩⟩⟩
 refine⟨_,ar b',?_⟩;split
 .rename_i c0;exact key true (by have:Dj (H.p.fl:Int) 131072=true:=c0;unfold wW;rw[this];rfl)
 .rename_i c0;refine⟨_,ar b',key _ ?_⟩;have:Dj (H.p.fl:Int) 131072=false:=by
   cases hh:Dj (H.p.fl:Int) 131072 with
   |true=>exact absurd hh c0
   |false=>rfl
  unfold wW;rw[this];rfl

end Ask
end
section
namespace Ask
open iW (Ev cV)
open dH (SS Good Pt ps Mk)
open fM (CV Dh gM)
variable {V:cD→Bool} {h h' H g:ai} {R:fp} {s k bo r c:Nat} {X l:Ft} {I:ps} {σ:SS} {p:cy} {ses:Int} {x:Rq} {D:Nat→Prop} {o:Ot}
variable {ys:List CV}
theorem qk{b n m:Nat}{q:cy}(o:fJ h q ys.length m 10 (ys.flatMap Dh))(B:n=ys.length)(C:ys.length<=1000000)(w:cg.fi h b (x.as p c s ses)) (hk: ∀h',Fr No h h'->R (.I (idxOf (λy:CV=>decide ((y.num:Int)=x.num)) ys)) h'):
  Cl 162 #[.slice q n m,.func (.func 163) #[] #[.P b 0]] h R:=by
 refine iI.TD.walk (yE (λy:CV=>decide ((y.num:Int)=x.num)) (λt g K=>((0:Int)<=t/\t<(n:Int))/\aL q λa=>aN.cv g (a.add (Int.toNat t*10)) λt15=>
  Cl 163 #[t15.agg,.P b 0] g λv G=> ∃t,v=.bool t/\K t G) B ag (λj g0 y K i f u=> ?_) hk)
 have lt:=(aB.1 i).1;have o1:=o.frame f cb;obtain⟨P,F,rfl⟩:=o1.addr ag;have A:=o1.gJ gM i;refine⟨ag,aw.2 (aN.ko (x:=⟨(y.num:Int),y.e.ky,y.e.node,y.e.gk,y.e.host,y.e.jB,y.v.p,y.v.b.length,y.v.c,(y.cf:Int),y.ses,(y.dl:Int)⟩) (by rw[aI];exact A) (xD.walk (aN.cM λb1 d E z f1=>⟨_,ar z,_,ar ((f.tt f1).get w id),_,rfl,?_⟩)))⟩;have e:((y.num:Int)==x.num)=decide ((y.num:Int)=x.num):=by by_cases q:(y.num:Int)=x.num<;>simp[q]
 show K ((y.num:Int)==x.num) d;rw[e];exact u d (f.tt f1)
theorem NC{num:Int}{z:fM.Cp}(h:fM.xA (ys.map CV.abs) num=some z): ∃(i:Nat)(y:CV),idxOf (λy:CV=>decide ((y.num:Int)=num)) ys=(i:Int)/\ys[i]? =some y/\y.abs=z:=by
 unfold fM.xA at h;rw[List.find?_map]at h;obtain⟨y,a,rfl⟩:=Option.map_eq_some_iff.1 h;have a:ys.find? (λy:CV=>decide ((y.num:Int)=num))=some y:=a;obtain⟨d,i,b,rfl,e⟩:=fa.1 a;refine⟨i,ys[i],?_,aj b,rfl⟩;have:ys.findIdx? (λy:CV=>decide ((y.num:Int)=num))=some i:=cp.2 ⟨b,d,λj f=>cA (e j f)⟩;unfold idxOf;rw[this]
theorem G3(E:En V H h s X I σ k)(c':k+1<=30000)(F:ak.fi h bo (y0 r))(P: ¬(X.M bo\/X.D bo))(hk: ∀h' l,Pt h' s l I (Hk V σ ses x.num).σ->gg X h bo r (Hk V σ ses x.num) l h'->R (.I (Hk V σ ses x.num).e) h'):
  Cl 106 #[(x.as p c s ses).agg,.P bo 0] h R:=by
 refine AP.walk (cg.cM (x:=x.as p c s ses) λb h1 eb M f1=> ?_);have E1:=E.on f1;have nM: ¬X.M bo:=λe=>P (.inl e)
 have zo:=aD F;have Q: ¬X.M b:=E.nM ag;obtain⟨Z,n,zm,zd,go⟩:=E1.H.use 2;have sm:=E.G.small E.H.ord (bY E.hk);have z1:=f1.1;refine⟨_,ar M,aw.2 ⟨_,ar E1.H.cT,fM.Io n sm (λz n=>(E.G.c.ok.bd z n).2.2) λh2 q2 c2 ys o2 a2 r2 n2 f2=>⟨_,_,_,rfl,?_⟩⟩⟩;have E2:=E1.on f2;have q:=f2.get M id;obtain⟨Z,n,zm,zd,go⟩:=E2.H.use 2;have L:=E.G.c;refine⟨_,ar q,aw.2 ⟨_,ar E2.H.cT,_,ar q,_,ar q,fM.G3 n sm (hY L.L E.hk) x.num ses λh3 Z3 C3 s3=> ?_⟩⟩;obtain⟨G,H3,S,g',i'⟩:=go h3 Z3 { σ with C:=fM.pq σ.C x.num ses } C3 s3 (λi O=>dH.wa _ O);refine⟨_,rfl,Dn S.fr Q bP,?_⟩;have new: ∀y,h1.size<=y->¬X.M y:=λy j=>E.nM ag
 have T:=o2.frame S.fr (λy j=>new y (n2 y j));have N:=S.fr.get q Q;have F2:=f1.tt f2;have ll:ys.length<=30000:=by
  have e1:=bU List.length a2;rw[aF]at e1;have e2:=L.L;have J:=E.hk;omega
 refine qk T rfl ag N λK f4=>⟨_,rfl,?_⟩
 have st:=(bm.no F2 S).on f4;have u:=H3.on f4;refine aG.of λf' A=> ?_
 unfold Hk at hk;by_cases f:fM.kf σ.C.L x.num ses=0
 case neg=>
  rw[ae f]at hk;rw[ae (cA f)];subst A;dsimp only;refine aG.of λJ1 B=> ?_
  rw[dc];subst B;have eC:fM.pq σ.C x.num ses=σ.C:=by unfold fM.pq;rw[ae f]
  rw[eC]at u;exact hk K G u (gg.bad F nM st)
 rw[af f]at hk;rw[af (by rw[f];rfl)];cases m:fM.xA σ.C.L x.num with
 |none=>unfold fM.kf at f;rw[m]at f;cases f
 |some z=>
  rw[m]at hk;dsimp only at hk;rw[<-a2]at m;obtain⟨i,y,e1,e2,J⟩:=NC m;rw[e1]at A⊢;subst A;dsimp only;refine aG.of λJ1 B=> ?_
  rw[fK];have O:=(aB.1 e2).1;have U:=T.frame f4 cb;obtain⟨W,Y,rfl⟩:=U.addr ag;have hh:=U.gJ gM e2;have a':=f4.get N id;have ry:=((r2 y (bn e2)).frame S.fr (λy j=>new y j)).frame f4 cb;have w:z.d=y.v.b:=by rw[<-J];rfl
  have G4:dH.Good { σ with C:=fM.pq σ.C x.num ses } (k+1):=Good.Se E.G E.H.ord E.hk ⟨2,x.num,ses,.zero,none,0, [],0⟩ (eJ 0);have c2: ∀g,dI (((AA W Y):Addr).add (i*10)) (Dh y) 0 g->bg g ((((AA W Y):Addr).add (Int.toNat (i:Int)*10)).add 6)=some y.v.val:=λg m=>by
   rw[aI];exact m.2.2.2.2.2.2.1
  have E4:En V H K s G I { σ with C:=fM.pq σ.C x.num ses } (k+1):=E.step u st G4 c';refine cg.ff (x:=x.as p c s ses) a' ⟨ag,aw.2 ⟨_,_,_,c2 _ hh,Pr (ses:=ses) (x:=x) (p:=p) (c:=c) (d:=z.d) E4 (by rw[w];exact ry.row) (by rw[w]) (by rw[w];exact ry.cap) λh5 v H5 e'=>⟨_,rfl,?_⟩⟩⟩;have t:=st.trans e';have b':=t.fr.get F nM;refine hH (z:=⟨r,0,0,(kM V { σ with C:=fM.pq σ.C x.num ses } ses z.d).2,0,none,0,0⟩) b' di rfl λh6 d6 f6=> ?_
  subst B;dsimp only;rw[f];have d': ∀y,v.M y\/v.D y->y≠bo:=λy j e=>by
   rcases j with a|a
   .rcases t.gI y a with a|a
    .exact nM (e▸a)
    .omega
   .rcases t.iF y a with a|a
    .exact P (.inr (e▸a))
    .omega
  exact hk h6 v (H5.frame f6 (λy j e=>d' y j e)) (gg.of t f6 ⟨_,d6,λ_=>⟨none,0,rfl,Row.nil,λe=>absurd rfl e⟩⟩)

end Ask
end
section
variable {h:ai} {R:fp}
variable {x X c d f:Int} {j S:cy} {i g s k:Nat}
theorem HA.walk{a:Int}{A:Int}{e:Int}{l:Int}{m:Int}{p:cy}{o n:Nat}{q:Int}{B:Int}{r:Int}{t:Int}{u:Int}{z:cy}{y w:Nat}(E:aQ h (.cells #[.U a,.I A,.I e,.I l,.U m,.slice p o n] 44) λb C=>aQ C (.cells #[.U q,.I B,.I r,.I t,.U u,.slice z y w] 44) λB H=>Hu H b 0 λt6=> ∃t8,Cc H B 0 (.U t8)/\if(t6==t8)then Hi H b 1 λt12=> ∃t14,Cc H B 1 (.I t14)/\if(t12==t14)then Hi H b 2 λt19=> ∃t21,Cc H B 2 (.I t21)/\if(t19==t21)then Hi H b 3 λt26=> ∃t28,Cc H B 3 (.I t28)/\if(t26==t28)then Hu H b 4 λt33=> ∃t35,Cc H B 4 (.U t35)/\if(t33==t35)then Hl H b 5 λG F T=>Hl H B 5 λK J I=>Cl 82 #[.slice G F T,.slice K J I] H λv D=> ∃t43,v=.bool t43/\R (.bool t43) D else R (.bool false) H else R (.bool false) H else R (.bool false) H else R (.bool false) H else R (.bool false) H):Cl 30 #[.agg #[.U a,.I A,.I e,.I l,.U m,.slice p o n],.agg #[.U q,.I B,.I r,.I t,.U u,.slice z y w]] h R:=aO (lq ll) Tryz.func30 E
theorem HB.walk{id:Int}{e:Int}(l:aQ h (.cells #[.U 0,.I 0,.I 0,.I 0,.U 0,.Z] 44) λb a=>ak.ST a (AA b 0) id e 0 0 0 none 0 0 λH=>ak.LD H (AA b 0) λr m n o p u t q=>R (.agg #[.U r,.I m,.I n,.I o,.U p,.slice u t q]) H):Cl 41 #[.U id,.I e] h R:=aO (lq ll) Tryz.func41 l
theorem Ds.walk{a:cy}{L l:Nat}(b:Cl 187 #[.slice a L l,.func (.func 188) #[] #[]] h λv H=> ∃t4,v=.bool t4/\R (.bool (!t4)) H):Cl 146 #[.slice a L l] h R:=aO (lq ll) Tryz.func146 b
theorem Ah.walk{n:Int}(H:if(decide (n<0))then R (.bool true) h else R (.bool (decide (n>1099511627776))) h):Cl 188 #[.I n] h R:=aO (lq ll) Tryz.func188 H
theorem Fm.walk (K:aQ h (.cells #[.U x,.I X,.I c,.I d,.U f,.slice j i g] 44) λb H=>aG (λ(t3:Bool) (a:ai)=>if t3 then R (.bool false) a else∃t39,Cc a b 1 (.I t39)/\if(t39 !=0)then ak.LD a (AA b 0) λT m n o p u r q=>Hu a b 0 λt43=>Hi a b 1 λt45=>Cl 41 #[.U t43,.I t45] a λv l=> ∃w y z A B E D C,v=.agg #[.U w,.I y,.I z,.I A,.U B,.slice E D C]/\dI (AA b 0) [.U T,.I m,.I n,.I o,.U p,.slice u r q] 0 l/\Cl 30 #[.agg #[.U T,.I m,.I n,.I o,.U p,.slice u r q],.agg #[.U w,.I y,.I z,.I A,.U B,.slice E D C]] l λV G=> ∃t47,V=.bool t47/\R (.bool t47) G else R (.bool true) a) (λJ=> ∃t5,Cc H b 0 (.U t5)/\if(decide (t5>1099511627776))then J true H else∃t9,Cc H b 1 (.I t9)/\if(decide (t9<0))then J true H else∃t14,Cc H b 1 (.I t14)/\if(decide (t14>99))then J true H else Hi H b 2 λt19=>Hi H b 3 λt21=>aQ H (.cells #[.I t19,.I t21] 3) λF I=>Cl 146 #[.slice (Sa F 0) 2 2] I λN e=> ∃t23,N=.bool t23/\if(!t23)then J true e else∃t28,Cc e b 4 (.U t28)/\if(decide (t28>2147483648))then J true e else∃M t L,Cc e b 5 (.slice M t L)/\J (decide (((t:Nat):Int)>600)) e)):Cl 96 #[.agg #[.U x,.I X,.I c,.I d,.U f,.slice j i g]] h R:=aO (lq (sq (bq (sq (.join [(3,.one (.bool))] lf) (cq ll (lq (cq (sq (pN 8) lf) lf))))) ll)) Tryz.func96 K
theorem Fo.walk(A:aQ h (.cells #[.U x,.I X,.I c,.I d,.U f,.slice j i g] 44) λb p=>ak.LD p (AA b 0) λB C D E F J I G=>Cl 96 #[.agg #[.U B,.I C,.I D,.I E,.U F,.slice J I G]] p λv H=> ∃t5,v=.bool t5/\if(!t5)then R (.tuple #[.Z,.I 3]) H else Hu H b 0 λt9=>Hi H b 1 λt12=>Hi H b 2 λt15=>Hi H b 3 λt18=>Hu H b 4 λt21=>Hl H b 5 λe T t=>Cl 65 #[] H λV a=>Vp V λt7=>Cc a b 5 (.slice e T t)/\Cc a b 4 (.U t21)/\Cc a b 3 (.I t18)/\Cc a b 2 (.I t15)/\Cc a b 1 (.I t12)/\Cc a b 0 (.U t9)/\Cl 72 #[.pointer t7,.U t9] a λK l=>Vp K λt10=>Cc l b 5 (.slice e T t)/\Cc l b 4 (.U t21)/\Cc l b 3 (.I t18)/\Cc l b 2 (.I t15)/\Cc l b 1 (.I t12)/\Cl 66 #[.pointer t10,.I t12] l λL m=>Vp L λt13=>Cc m b 5 (.slice e T t)/\Cc m b 4 (.U t21)/\Cc m b 3 (.I t18)/\Cc m b 2 (.I t15)/\Cl 66 #[.pointer t13,.I t15] m λM n=>Vp M λt16=>Cc n b 5 (.slice e T t)/\Cc n b 4 (.U t21)/\Cc n b 3 (.I t18)/\Cl 66 #[.pointer t16,.I t18] n λN o=>Vp N λt19=>Cc o b 5 (.slice e T t)/\Cc o b 4 (.U t21)/\Cl 72 #[.pointer t19,.U t21] o λO q=>Vp O λt22=>Cc q b 5 (.slice e T t)/\Cl 71 #[.pointer t22,.slice e T t] q λP z=>Vp P λt25=>Cl 67 #[.pointer t25] z λQ y=> ∃w u r,Q=.slice w u r/\R (.tuple #[.slice w u r,.I 0]) y):Cl 45 #[.agg #[.U x,.I X,.I c,.I d,.U f,.slice j i g]] h R:=aO (lq (sq (lq (cq ll lf)) (sq (.iC (.op 1 (.op 2 (.op 4 (.op 5 (.op 7 (.op 8 (.op 10 (.op 11 (.op 13 (.op 14 (.op 16 (.op 17 (.op 0 (.op 3 (.op 6 (.op 9 (.op 12 (.op 15 (.op 18 (.op 19 (.op 20 (.op 21 .done))))))))))))))))))))))) lf))) Tryz.func45 A
theorem HC.walk{m:cy}{l e:Nat}(E:aQ h (.cells #[.U 0,.I 0,.I 0,.I 0,.U 0,.Z] 44) λb p=>Cl 91 #[.slice m l e] p λv t=>Vp v λt7=>Cl 92 #[.pointer t7] t λt' u=>Vu t' λt9=>Cl 93 #[.pointer t7] u λu' w=>Vi u' λt11=>Cl 93 #[.pointer t7] w λv' y=>Vi v' λt13=>Cl 93 #[.pointer t7] y λw' z=>Vi w' λt15=>Cl 92 #[.pointer t7] z λx' A=>Vu x' λt17=>Cl 94 #[.pointer t7] A λy' C=>Vl y' λc' b' a'=>aQ C (.cells #[.U 0,.I 0,.I 0,.I 0,.U 0,.Z] 44) λB D=>ak.ST D (AA B 0) t9 t11 t13 t15 t17 c' b' a' λq=>aG (λ(t28:Bool) (H:ai)=>if t28 then ak.ST H (AA b 0) 0 0 0 0 0 none 0 0 λn=>ak.LD n (AA b 0) λF I L N P Y V T=>R (.tuple #[.agg #[.U F,.I I,.I L,.I N,.U P,.slice Y V T],.I 3]) n else ak.LD H (AA B 0) λl' m' n' o' p' s' r' q'=>ak.ST H (AA b 0) l' m' n' o' p' s' r' q' λo=>ak.LD o (AA b 0) λG K M O Q Z W U=>R (.tuple #[.agg #[.U G,.I K,.I M,.I O,.U Q,.slice Z W U],.I 0]) o) (λJ=>Cl 95 #[.pointer t7] q λz' a=> ∃t22,z'=.I t22/\if(t22 !=0)then J true a else ak.LD a (AA B 0) λd' e' f' g' h' k' j' i'=>Cl 96 #[.agg #[.U d',.I e',.I f',.I g',.U h',.slice k' j' i']] a λA' r=> ∃t26,A'=.bool t26/\J (!t26) r)):Cl 43 #[.slice m l e] h R:=aO (lq (lq (lq (sq (sq (.join [(28,.one (.bool))] lf) (cq ll lf)) ll)))) Tryz.func43 E
theorem kN.within.walk(a:Cl 168 #[.slice S s k,.func (.func 188) #[] #[]] h λv H=> ∃t7,v=.I t7/\R (.bool (decide (t7≥0))) H):Cl 187 #[.slice S s k,.func (.func 188) #[] #[]] h R:=aO (lq ll) Tryz.func187 a
theorem hC.within.walk(e: ∃(I:Int->ai->Prop)(m:Int->ai->Nat),I 0 h/\∀(t8:Int)(H:ai),I t8 H->if(decide (t8<(s:Int)))then((0:Int)<=t8/\t8<(s:Int))/\aL S λa=> ∃t15,bg H (a.add (toNat t8*1))=some (.I t15)/\Cl 188 #[.I t15] H λv b=> ∃t16,v=.bool t16/\if t16 then R (.I t8) b else(I (wrap .i64 (t8+1)) b/\m (wrap .i64 (t8+1)) b<m t8 H)else R (.I (-1)) H):Cl 168 #[.slice S s k,.func (.func 188) #[] #[]] h R:=aO (lq (sq (lq (bq (.loop [(8,.one (.int .i64))] (lq (sq (cq lf lf) (sq (bq (lq (lq (cq ll lf)))) lf)))))) ll)) Tryz.func168 e

end
section
open Go.fT
namespace xS
open kK
variable {h h0:ai} {R:fp} {p q:cy} {c d:Nat}
variable {n:Nat}
abbrev val(x:RD)(p:cy)(c:Nat):Value:=.agg #[.int .u64 (x.id:Int),.int .i64 x.err,.int .i64 x.num,.int .i64 x.count,.int .u64 (x.token:Int),.slice p x.b.length c]
abbrev At(h:ai)(b:Nat)(x:RD)(p:cy)(c:Nat):Prop:=ak.at h b (x.id:Int) x.err x.num x.count (x.token:Int) p x.b.length c
theorem AR{a b:cD}{m:Nat}(r:Row h p (bc a))(g:Row h q (bc b))(f:n=a.length)(H:m=b.length)(hk:R (.bool (decide (a=b))) h):Cl 82 #[.slice p n c,.slice q m d] h R:=by
 refine wR.walk ⟨_,conv r f,_,conv g H,?_⟩;rw[tp,tp];have:(a==b)=decide (a=b):=by
  by_cases e:a=b<;>simp[e]
 rw[this];exact hk
theorem iX(x y:RD)(r:Row h p (bc x.b))(j:Row h q (bc y.b))(hk: gL h R (.bool (decide (x.same y)))):Cl 30 #[val x p c,val y q d] h R:=by
 refine HA.walk (ak.box λb k _ i f1=>ak.box λB g _ H f2=> ?_);have a:=f2.get i id;have f12:=f1.tt f2;have hk:=hk g f12;unfold RD.same at hk;refine⟨_,ar a,_,ar H,?_⟩;by_cases E:x.id=y.id
 .rw[af (by rw[E];simp)];refine⟨_,ar a,_,ar H,?_⟩;by_cases e1:x.err=y.err
  .rw[af (by rw[e1];simp)];refine⟨_,ar a,_,ar H,?_⟩;by_cases e2:x.num=y.num
   .rw[af (by rw[e2];simp)];refine⟨_,ar a,_,ar H,?_⟩;by_cases e:x.count=y.count
    .rw[af (by rw[e];simp)];refine⟨_,ar a,_,ar H,?_⟩;by_cases f:x.token=y.token
     .rw[af (by rw[f];simp)];refine⟨_,_,_,ar a,_,_,_,ar H,AR (r.frame f12 cb) (j.frame f12 cb) rfl rfl ⟨_,rfl,?_⟩⟩;simpa[E,e1,e2,e,f]using hk
     .rw[ae (by simp;omega)];simpa[f]using hk
    .rw[ae (cA e)];simpa[e]using hk
   .rw[ae (cA e2)];simpa[e2]using hk
  .rw[ae (cA e1)];simpa[e1]using hk
 .rw[ae (by simp;omega)];simpa[E]using hk
def IS(id:Nat)(e:Int):RD:=⟨id,e,0,0,0, []⟩
theorem lG{i:Int}(id:Nat)(f:i=(id:Int))(e:Int)(hk: gL h R (val (IS id e) none 0)):Cl 41 #[.U i,.I e] h R:=by
 subst f;refine HB.walk (ak.new λb H _ a f1=>ak.ld a ?_);exact hk H f1
def NV(n:Int):Bool:=decide (0<=n/\n<=1099511627776)
theorem QQ(n:Int)(hk:R (.bool (!NV n)) h):Cl 188 #[.I n] h R:=by
 refine Ah.walk ?_;unfold NV at hk;by_cases H:n<0
 .simpa[H,show¬0<=n by omega]using hk
 .by_cases a:n>1099511627776
  .simpa[H,a,show¬n<=1099511627776 by omega]using hk
  .simpa[H,a,show 0<=n by omega,show n<=1099511627776 by omega]using hk
theorem vD {ns : List Int} {n m : Nat} (hr : Row h p (ns.map (.int .i64 ·))) (hn : n = ns.length) (hl : ns.length ≤ 1000000) (hk : R (.bool (ns.all NV)) h) : Cl 146 #[.slice p n m] h R := by
  subst hn
  refine Ds.walk (kN.within.walk (hC.within.walk ?_))
  refine ⟨λi h' => h' = h ∧ ∃ k : Nat, i = (k : Int) ∧ k ≤ ns.length ∧ ∀ j, j < k → NV (ns.getD j 0) = true, λi _ => ns.length - i.toNat, ⟨rfl, 0, rfl, by omega, λj hj => by omega⟩, ?_⟩
  rintro _ h1 ⟨rfl, k, rfl, Vc, Sp⟩
  by_cases Rm : k < ns.length
  · have : (k : Int) < (ns.length : Int) := by omega
    simp only [this, decide_true, if_true, Int.toNat_natCast]
    obtain ⟨a, rfl, ck⟩ := FO hr Rm
    refine ⟨⟨by omega, trivial⟩, aw.2 ⟨_, ck, QQ _ ⟨_, rfl, ?_⟩⟩⟩
    cases hb : NV (ns.getD k 0) with
    | false =>
      simp only [Bool.not_false, if_true]
      refine ⟨_, rfl, ⟨_, rfl, ?_⟩⟩
      have : ns.all NV = false := by
        rw [List.all_eq_false]
        exact ⟨_, Lm Rm, by rw [hb]; simp⟩
      rw [this] at hk
      have h0 : (k : Int) ≥ 0 := by omega
      simpa [h0] using hk
    | true =>
      simp only [Bool.not_true, Bool.false_eq_true, if_false]
      rw [bD (by omega) (by omega)]
      refine ⟨⟨trivial, k + 1, by omega, by omega, λj hj => ?_⟩, ?_⟩
      · by_cases q : j = k
        · subst q; exact hb
        · exact Sp j (by omega)
      · show ns.length - Int.toNat ((k : Int) + 1) < ns.length - Int.toNat (k : Int); omega
  · have : ¬ (k : Int) < (ns.length : Int) := by omega
    simp only [this, decide_false, Bool.false_eq_true, if_false]
    refine ⟨_, rfl, ⟨_, rfl, ?_⟩⟩
    have : ns.all NV = true := by
      rw [List.all_eq_true]
      intro n hn
      obtain ⟨j, hj⟩ := List.getElem?_of_mem hn
      have WT := (List.getElem?_eq_some_iff.1 hj).1
      have := Sp j (by omega)
      rwa [List.getD_eq_getElem?_getD, hj] at this
    rw [this] at hk
    simpa using hk
theorem e8(x:RD)(w:Row h p (bc x.b))(hk: gL h R (.bool (decide x.ni))):Cl 96 #[val x p c] h R:=by
 refine Fm.walk (ak.box λb l _ f f1=>aG.of λJ m=> ?_);have j: ∀a,Fr No h a->¬x.ni->J true a:=by
  intro a f2 s;subst m;simp only[bj];have:=hk a f2;rwa[az s]at this
 have t: ∀a,At a b x p c->Fr No h a->x.id<=1099511627776->(0<=x.err/\x.err<=99)->(0<=x.num/\x.num<=1099511627776)->(0<=x.count/\x.count<=1099511627776)->x.token<=2147483648->x.b.length<=600->J false a:=by
  intro a g f2 q1 q2 q3 q4 Q q6;subst m;simp only[au,aM];refine⟨_,ar g,?_⟩;by_cases i:x.err=0
  .rw[ae (by simp[i])];have:=hk a f2;rwa[av (show x.ni from⟨q1,q2,q3,q4,Q,q6,λh=>absurd i h⟩)]at this
  .rw[af (cA i)];refine ak.ld g ⟨_,ar g,_,ar g,lG x.id rfl x.err λy f3=>⟨_,_,_,_,_,_,_,_,rfl,(ak.held (f3.get g id)),?_⟩⟩;have f23:=f2.tt f3;refine iX x (IS x.id x.err) (w.frame f23 cb) (.inl rfl) λr f4=>⟨_,rfl,?_⟩
   have e:decide (x.same (IS x.id x.err))=decide x.ni:=by
    unfold RD.same RD.ni IS;simp[q1,q2,q3,q4,Q,q6,i]
   rw[e];exact hk r (f23.tt f4)
 clear m;refine⟨_,ar f,?_⟩;by_cases q1:x.id<=1099511627776
 .rw[ae (by simp;omega)];refine⟨_,ar f,?_⟩;by_cases q2:0<=x.err
  .rw[ae (by simp;omega)];refine⟨_,ar f,?_⟩;by_cases q3:x.err<=99
   .rw[ae (by simp;omega)];refine⟨_,ar f,_,ar f,cF ?_⟩;refine vD (ns:= [x.num,x.count]) jl rfl bP ⟨_,rfl,?_⟩;have f5:=f1.tt (Fr.push l (.cells #[.I x.num,.I x.count] 3));have o:At _ b x p c:=(Fr.push (S:=λ_=>False) l (.cells #[.I x.num,.I x.count] 3)).get f id;generalize l.push (.cells #[.I x.num,.I x.count] 3)=z at*;cases k: [x.num,x.count].all NV with
    |false=>
     simp only[dK,bj];refine j _ f5 λH=> ?_
     obtain⟨_,_,u,v,_⟩:=H;simp[NV,u,v]at k
    |true=>
     simp only[cN,au,aM];simp[NV]at k;refine⟨_,ar o,?_⟩;by_cases Q:x.token<=2147483648
     .rw[ae (by simp;omega)];refine⟨_,_,_,ar o,?_⟩;by_cases q6:x.b.length<=600
      .have:decide ((x.b.length:Int)>600)=false:=by simp;omega
       rw[this];exact t _ o f5 q1 ⟨q2,q3⟩ k.1 k.2 Q q6
      .have:decide ((x.b.length:Int)>600)=true:=by simp;omega
       rw[this];exact j _ f5 λH=>q6 H.2.2.2.2.2.1
     .rw[af (by simp;omega)];exact j _ f5 λH=>Q H.2.2.2.2.1
   .rw[af (by simp;omega)];exact j _ f1 λH=>q3 H.2.1.2
  .rw[af (by simp;omega)];exact j _ f1 λH=>q2 H.2.1.1
 .rw[af (by simp;omega)];exact j _ f1 λH=>q1 H.1
theorem ND(x:RD)(r:Row h p (bc x.b))(k1:x.ni->∀h' q d,fJ h' q x.enc.length d 1 (bc x.enc)->Fr No h h'->(∀y,aR q y->h.size<=y)->R (.tuple #[.slice q x.enc.length d,.I 0]) h')(k2: ¬x.ni->gL h R (.tuple #[.Z,.I 3])):Cl 45 #[val x p c] h R:=by
 refine Fo.walk (ak.box λb h1 eb o f1=>ak.ld o ?_);refine e8 x (r.frame f1 cb) λk f2=>⟨_,rfl,?_⟩
 by_cases g:x.ni
 .rw[av g];simp only[cN,au,aM];obtain⟨q1,⟨q2,c'⟩,⟨q3,d'⟩,⟨q4,e'⟩,q5,q6,_⟩:=id g;have H:=f2.get o id;have F:=f1.tt f2;refine⟨_,ar H,_,ar H,_,ar H,_,ar H,_,ar H,_,_,_,ar H,?_⟩;refine iT λX f' O G f3 V=>⟨_,rfl,?_⟩
  have B:=f3.get H id;have U:Up k O X:=⟨f3,V⟩;have N: ∀{S:Nat->Prop}{h':ai},Up k S h'->¬S b:=λu hx=>by have:=u.ge b hx;have:=aD H;omega
  refine⟨ar B,ar B,ar B,ar B,ar B,ar B,?_⟩;refine fX x.id G bP rfl ag λh4 S4 I s4=>⟨_,rfl,?_⟩
  have a:=s4.fr.get B (N U);have z:=U.step s4;have l1:=(gx x.id).2;refine⟨ar a,ar a,ar a,ar a,ar a,?_⟩;refine GH I (by simp only[dW];omega) ag λh5 S5 J s=>⟨_,rfl,?_⟩
  have f:=s.fr.get a (N z);have A:=z.step s;have l2:=(gx (kH x.err)).2;refine⟨ar f,ar f,ar f,ar f,?_⟩;refine GH J (by simp only[dW,aA];omega) ag λh6 S6 K t=>⟨_,rfl,?_⟩
  have i:=t.fr.get f (N A);have C:=A.step t;have l3:=(gx (kH x.num)).2;refine⟨ar i,ar i,ar i,?_⟩;refine GH K (by simp only[dW,aA];omega) ag λh7 S7 L v=>⟨_,rfl,?_⟩
  have j:=v.fr.get i (N C);have D:=C.step v;have l4:=(gx (kH x.count)).2;refine⟨ar j,ar j,?_⟩;refine fX x.token L (by simp only[dW,aA];omega) rfl ag λh8 S8 M w=>⟨_,rfl,?_⟩
  have P:=w.fr.get j (N D);have u8:=D.step w;have l5:=(gx x.token).2;have Q:=F.tt u8.fr;refine⟨ar P,?_⟩;refine MB M (by simp only[dW,aA];omega) (r.frame Q cb) rfl ag (λy l a' Y=> ?_) λh9 S9 m s9=>⟨_,rfl,?_⟩
  .have:=jr r (λe=>a' (List.map_eq_nil_iff.1 e)) l;have:=u8.ge y Y;have:=F.1;omega
  have E:=u8.step s9;have Z: []++hZ x.id++hZ (kH x.err)++hZ (kH x.num)++hZ (kH x.count)++hZ x.token++tF x.b=x.enc:=rfl;rw[Z]at m;refine ny m (bY (jV q6)) λq d W b' f10 T=>⟨_,_,_,rfl,?_⟩
  exact k1 g W q d b' (F.tt (E.fr.tt f10)) (λy l=>hY (T y l) ((F.tt E.fr).1))
 .rw[az g];simp only[dK,bj];exact k2 g k (f1.tt f2)
theorem uf{bs:cD}(rb:Row h p (bc bs))(hn:n=bs.length)(hl:bs.length<=70368744177664)(k1: ∀x,Jj bs=some x->∀h' q d,fJ h' q x.b.length d 1 (bc x.b)->Fr No h h'->(∀y,aR q y->h.size<=y)->R (.tuple #[val x q d,.I 0]) h')(k2:Jj bs=none->gL h R (.tuple #[val RD.zero none 0,.I 3])):Cl 43 #[.slice p n c] h R:=by
 refine HC.walk (ak.box (f5l:=0) λb V eb hb f1=> ?_);refine kK.uf (rb.frame f1 cb) hn hl λh2 r T f f2 g2=>⟨_,rfl,?_⟩
 have u2:Up V T h2:=⟨f2,g2⟩;refine xX f λh3 k f3=>⟨_,rfl,?_⟩
 have u3:=u2.A8 f3 (λy e=>e▸f.self);have la:=pT 0 bs;generalize hA:eX 0 bs=A at k la⊢;obtain⟨a,N,t⟩:=A;dsimp only at k la⊢;refine C2 k λh4 l f4=>⟨_,rfl,?_⟩
 have u4:=u3.A8 f4 (λy e=>e▸f.self);have lb:(kx N t).2.2.length<=t.length:=oC _ N t;generalize X:kx N t=B at l lb⊢;obtain⟨u,P,v⟩:=B;dsimp only at l lb⊢;refine C2 l λh5 m f5=>⟨_,rfl,?_⟩
 have u5:=u4.A8 f5 (λy e=>e▸f.self);have lc:(kx P v).2.2.length<=v.length:=oC _ P v;generalize Y:kx P v=C at m lc⊢;obtain⟨c',Q,w⟩:=C;dsimp only at m lc⊢;refine C2 m λh6 o f6=>⟨_,rfl,?_⟩
 have u6:=u5.A8 f6 (λy e=>e▸f.self);have ld:(kx Q w).2.2.length<=w.length:=oC _ Q w;generalize Z:kx Q w=D at o ld⊢;obtain⟨z,de,dr⟩:=D;dsimp only at o ld⊢;refine xX o λh7 s f7=>⟨_,rfl,?_⟩
 have u7:=u6.A8 f7 (λy e=>e▸f.self);have lf:=pT de dr;generalize hF:eX de dr=F at s lf⊢;obtain⟨E,fe,fr⟩:=F;dsimp only at s lf⊢;refine MC s ag λh8 q d L O g8 f8=>⟨_,_,_,rfl,?_⟩
 have u8:=u7.A8 f8 (λy e=>e▸f.self);generalize hG:kI fe fr=G at L O⊢;obtain⟨I,ge,j⟩:=G;dsimp only at L O⊢;have hX:SO 1099511627776 je bs=⟨⟨a,u,c',z,E,I⟩,ge,j⟩:=by
  unfold kx at X Y Z;unfold SO;simp only[hA,X,Y,Z,hF,hG]
 have i':Jj bs=yD ⟨⟨a,u,c',z,E,I⟩,ge,j⟩:=by unfold Jj;rw[hX]
 clear hX hA X Y Z hF hG la lb lc ld lf k l m o s f3 f4 f5 f6 f7 f8;generalize g:(⟨a,u,c',z,E,I⟩:RD)=x at*;have e0:a=x.id:=by rw[<-g]
 have e1:(u:Int)=x.err:=by rw[<-g]
 have e2:(c':Int)=x.num:=by rw[<-g]
 have e3:(z:Int)=x.count:=by rw[<-g]
 have e4:E=x.token:=by rw[<-g]
 have U:I=x.b:=by rw[<-g]
 rw[e0,e1,e2,e3,e4,U];rw[U]at O;clear g e0 e1 e2 e3 e4 U;refine ak.new λb1 W t' g' f15=> ?_
 have a':At W b RD.zero none 0:=f15.get (u8.fr.get hb id) id;have M:Fr No h W:=f1.tt (u8.fr.tt f15);have j':=O.frame f15 cb;have gq: ∀y,aR q y->V.size<=y:=λy i=>by have:=g8 y i;have:=u7.fr.1;omega
 have bne:b≠b1:=λe=>by have:=aD (u8.fr.get hb id);omega
 have u':b<V.size:=aD hb;refine aG.of λd' hJ=> ?_
 have jt:yD ⟨x,ge,j⟩=none->∀H,At H b RD.zero none 0->Fr No h H->d' true H:=by
  intro hn H b' f16;subst hJ;simp only[bj];refine ak.set b' λk' m' r' p'=>ak.ld m' ?_
  exact k2 (i'.trans hn) k' (f16.step (Fr.of_eq (S:=λy=>y=b) r' p') (λy i e=>ag))
 have jf:yD ⟨x,ge,j⟩=some x->∀H,At H b RD.zero none 0->At H b1 x q d->fJ H q x.b.length d 1 (bc x.b)->Fr No h H->d' false H:=by
  intro hs H b' l' o' f16;subst hJ;simp only[au,aM];refine ak.ld l' (ak.set b' λe' n' s' q'=>ak.ld n' ?_);have f28:Fr (λy=>y=b) H e':=Fr.of_eq s' q';refine k1 x (i'.trans hs) e' q d (o'.frame f28 (λy i e=> ?_)) (f16.step f28 (λy i e=>ag)) (λy i=> ?_)
  .have:=gq y i;omega
  .have:=gq y i;have:=f1.1;omega
 clear hJ;refine OL (L.frame f15 cb) ⟨_,rfl,?_⟩;by_cases J:xO ge j=0
 .rw[ae (cA J)];refine ak.ld g' (e8 x j'.iw λf' f30=>⟨_,rfl,?_⟩);by_cases K:x.ni
  .rw[av K];exact jf (by unfold yD;rw[af ⟨J,K⟩]) f' (f30.get a' id) (f30.get g' id) (j'.frame f30 cb) (M.tt f30)
  .rw[az K];exact jt (by unfold yD;rw[ae (λhh=>K hh.2)]) f' (f30.get a' id) (M.tt f30)
 .rw[af (cA J)];exact jt (by unfold yD;rw[ae (λhh=>J hh.1)]) W a' M

end xS
end
section
namespace Ask
open iW (Ev cV)
open dH (SS Good Pt ps Mk)
open Bn (hU)
variable {V:cD→Bool} {h h' u H g:ai} {R:fp} {s k bo t c:Nat} {X l:Ft} {I:ps} {σ:SS} {p:cy} {ses:Int} {x:Rq} {D:Nat→Prop} {o:Ot}
theorem gg.no(f:Fr No h H)(O:gg X H bo t o l h'):gg X h bo t o l h':=by
 have z:=f.1;refine⟨Fr.no f O.fr,λc b=>(O.gI c b).imp _root_.id (λa=>ag),λc b=>(O.iF c b).imp _root_.id (λa=>ag),O.lE,?_⟩;obtain⟨y,m,j⟩:=O.at';refine⟨y,m,λi=> ?_⟩;obtain⟨p,c,e,r,n⟩:=j i;exact⟨p,c,e,r,λhd z d=>⟨(n hd z d).1.imp (λa=>ag) _root_.id,(n hd z d).2⟩⟩
theorem gg.num{st1:bm X h l H}(n c:Int)(f:Fr (λy=>y=bo) H h')(a:ak.fi h' bo ⟨t,0,n,c,0,none,0,0⟩){σ:SS}{e:Int}:gg X h bo t ⟨σ,e,n,c, []⟩ l h':=
 gg.of st1 f ⟨_,a,λ_=>⟨none,0,rfl,Row.nil,λe=>absurd rfl e⟩⟩
theorem oM(st:bm X h l H)(n: ¬(X.M bo\/X.D bo))(z:bo<h.size): ∀y,l.M y\/l.D y->y≠bo:=λy b e=>by
 subst e;rcases b with a|a
 .rcases st.gI _ a with a|a
  .exact n (.inl a)
  .omega
 .rcases st.iF _ a with a|a
  .exact n (.inr a)
  .omega
theorem Fq(a:jW x=true):kW x=true:=by unfold jW at a;simp only[aT]at a;exact a.1.2
theorem Sq(E:En V u h s X I σ k)(c':k+1<=30000)(hr:jW x=true)(w1:0<=x.ep.gk)(w2:0<=x.dest.gk)(rx:Row h p (bc x.kO))(cap:x.kO.length<=c)(n:ak.fi h bo (y0 t))(N: ¬(X.M bo\/X.D bo))(hk: ∀h' l,Pt h' s l I (FC V σ ses x).σ->gg X h bo t (FC V σ ses x) l h'->R (.I (FC V σ ses x).e) h'):
  Cl 44 #[(x.as p c s ses).agg,.P bo 0] h R:=by
 refine Dm.walk (cg.cM (x:=x.as p c s ses) λb H eb d f1=>⟨_,ar d,?_⟩);have E1:=E.on f1;have nM: ¬X.M bo:=λe=>N (.inl e)
 have zo:=aD n;have z1:=f1.1;have A: ¬X.M b:=E.nM ag;have L:=f1.get n id;have sm:=E.G.small E.H.ord (bY E.hk);have cL:=E.G.c.L;have ek:=E.hk;have pr:=Fq hr;unfold FC at hk;unfold kW at pr;by_cases P:x.kind=1
 .rw[af P]at hk;rw[af (bq.2 P)];obtain⟨Z,q,J,F,go⟩:=E1.H.use 1;refine⟨_,ar d,aw.2 ⟨_,ar E1.H.cT,hU x.ep d rfl rfl rfl rfl rfl ⟨_,ar d,_,ar d,gj.zN q ⟨x.ep,x.j9,ses⟩ E.G.g.len λf T s2=> ?_⟩⟩⟩;obtain⟨m,j,S,_,_⟩:=go f Z { σ with G:=gj.AJ σ.G ⟨x.ep,x.j9,ses⟩ } T s2 (λi r=>dH.G6 _ r);exact⟨_,rfl,Dn S.fr A bP,hk f m j (gg.bad n nM (bm.no f1 S))⟩
 rw[ae P]at hk;rw[ae (λe=>P (bq.1 e))];by_cases U:x.kind=2
 .rw[af U]at hk;rw[af (bq.2 U)];obtain⟨Z,q,J,F,go⟩:=E1.H.use 1;refine⟨_,ar d,aw.2 ⟨_,ar E1.H.cT,hU x.ep d rfl rfl rfl rfl rfl ⟨_,ar d,gj.nL q x.ep ses λh3 T3 s3=> ?_⟩⟩⟩;obtain⟨X3,v,a',_,_⟩:=go h3 Z { σ with G:=gj.zQ σ.G x.ep ses } T3 s3 (λi r=>dH.G6 _ r);have rh:=bm.no f1 a';refine⟨_,rfl,Dn a'.fr A bP,aG.of λe' hJ=> ?_⟩;by_cases w:gj.jh σ.G x.ep ses=0
  case neg=>
   rw[ae w]at hk;rw[ae (cA w)];subst hJ;have eG:gj.zQ σ.G x.ep ses=σ.G:=by unfold gj.zQ;rw[ae w]
   rw[eG]at v;exact hk h3 X3 v (gg.bad n nM rh)
  rw[af w]at hk;rw[af (by rw[w];rfl)];have M:=a'.fr.get d A;obtain⟨Z,q,J,F,go⟩:=v.use 2;have d': ¬X3.M b:=λhm=>by
   rcases a'.gI b hm with a|a
   .exact A a
   .have:=aD d;omega
  refine⟨_,ar M,aw.2 ⟨_,ar v.cT,hU x.ep M rfl rfl rfl rfl rfl (fM.oH q sm (by show σ.C.gone<=_;omega) x.ep λh5 Z5 p5 c5 C5 s5 N5 n5=> ?_)⟩⟩;obtain⟨X5,H5,b',_,_⟩:=go h5 Z5 { σ with G:=gj.zQ σ.G x.ep ses,C:=fM.uQ σ.C x.ep } C5 s5 (λi r=>dH.wa (σ:= { σ with G:=gj.zQ σ.G x.ep ses }) _ r);have st:=rh.trans b';refine⟨_,_,_,rfl,Dn b'.fr d' bP,hH (z:=⟨t,0,0,((fM.kP σ.C.L x.ep).length:Int),0,none,0,0⟩) (st.fr.get n nM) di rfl λh6 d6 f6=> ?_⟩;subst hJ;rw[w];exact hk h6 X5 (H5.frame f6 (λy hy e=>oM st N zo y hy e)) (gg.num (st1:=st) 0 _ f6 d6)
 rw[ae U]at hk;rw[ae (λe=>U (bq.1 e))];by_cases W:x.kind=3
 .rw[af W]at hk;rw[af (bq.2 W)];obtain⟨Z,q,J,F,go⟩:=E1.H.use 1;refine⟨_,ar d,aw.2 ⟨_,ar E1.H.cT,hU x.ep d rfl rfl rfl rfl rfl ⟨_,ar d,_,ar d,gj.Kf q x.ep ses x.j9 λf T s2=> ?_⟩⟩⟩;obtain⟨m,j,S,_,_⟩:=go f Z { σ with G:=gj.EY σ.G x.ep ses x.j9 } T s2 (λi r=>dH.G6 _ r);exact⟨_,rfl,Dn S.fr A bP,hk f m j (gg.bad n nM (bm.no f1 S))⟩
 rw[ae W]at hk;rw[ae (λe=>W (bq.1 e))];by_cases K:x.kind=4
 .rw[af K]at hk;rw[af (bq.2 K)];rw[dc,dc,af K]at pr;simp only[aT,aV]at pr;exact cg.ff (x:=x.as p c s ses) d (O8 E1 (rx.frame f1 cb) cap ag w1 w2 L N λf m j O=>⟨_,rfl,hk f m j (gg.no f1 O)⟩)
 rw[ae K]at hk;rw[ae (λe=>K (bq.1 e))];by_cases Y:x.kind=5
 .rw[af Y]at hk;rw[af (bq.2 Y)];exact⟨_,ar d,_,ar d,_,ar d,dH.vT E1.H E.G E.hk λf m j S=>⟨_,rfl,hk f m j (gg.bad n nM (bm.no f1 S))⟩⟩
 rw[ae Y]at hk;rw[ae (λe=>Y (bq.1 e))];by_cases k6:x.kind=6
 .rw[af k6]at hk;rw[af (bq.2 k6)];obtain⟨Z,q,J,F,go⟩:=E1.H.use 2;refine⟨_,ar d,aw.2 ⟨_,ar E1.H.cT,hU x.ep d rfl rfl rfl rfl rfl (fM.Nh q sm x.ep λf f2=>⟨_,rfl,f2.kp,?_⟩)⟩⟩;have F2:=f1.tt f2;refine hH (z:=⟨t,0,(fM.Hf σ.C.L x.ep:Int),0,0,none,0,0⟩) (F2.get n id) di rfl λh3 d3 f3=> ?_
  have M:=f3.get (f2.get d id) (λe=>bY (aD n));have v:=(E.H.on F2).frame f3 (λy hy e=>N (e▸hy));refine cg.ff (x:=x.as p c s ses) M (Dp v λh4 f4=>⟨_,rfl,?_⟩);exact hk h4 X (v.on f4) (gg.num (st1:=bm.gr F2) _ 0 (f3.on f4) (f4.get d3 id))
 rw[ae k6]at hk;rw[ae (λe=>k6 (bq.1 e))];by_cases B:x.kind=7
 .rw[af B]at hk;rw[af (bq.2 B)];rw[dc,dc,ae K,dc,af B]at pr;simp only[aT,aV]at pr;exact cg.ff (x:=x.as p c s ses) d (Pq E1 ag L N λf m j O=>⟨_,rfl,hk f m j (gg.no f1 O)⟩)
 rw[ae B]at hk;rw[ae (λe=>B (bq.1 e))];by_cases k8:x.kind=8
 .rw[af k8]at hk;rw[af (bq.2 k8)];exact cg.ff (x:=x.as p c s ses) d (G3 E1 c' L N λf m j O=>⟨_,rfl,hk f m j (gg.no f1 O)⟩)
 rw[ae k8]at hk;rw[ae (λe=>k8 (bq.1 e))];by_cases k9:x.kind=9
 .rw[af k9]at hk;rw[af (bq.2 k9)];obtain⟨Z,q,J,F,go⟩:=E1.H.use 2;refine⟨_,ar d,aw.2 ⟨_,ar E1.H.cT,_,ar d,_,ar d,fM.G5 q sm x.num ses λf Z2 T s2=> ?_⟩⟩;obtain⟨m,j,S,_,_⟩:=go f Z2 { σ with C:=fM.zT σ.C x.num ses } T s2 (λi r=>dH.wa _ r);exact⟨_,rfl,Dn S.fr A bP,hk f m j (gg.bad n nM (bm.no f1 S))⟩
 rw[ae k9]at hk;rw[ae (λe=>k9 (bq.1 e))];by_cases Q:x.kind=10
 .rw[af Q]at hk;rw[af (bq.2 Q)];exact cg.ff (x:=x.as p c s ses) d (zL E1 L N λf m j O=>⟨_,rfl,hk f m j (gg.no f1 O)⟩)
 rw[ae Q]at hk;rw[ae (λe=>Q (bq.1 e))];exact hk H X E1.H (gg.bad n nM (bm.gr f1))
theorem Ps{A:List fj.fj}(ok:fj.lB A){m:Int}{j:Nat}{b:cD}(h:fj.BH A m j=some b):b.length<=1000:=by
 unfold fj.BH at h;split at h
 .cases h
 .rename_i z f;obtain⟨i,_,e⟩:=fj.BF f;unfold fj.Ih at h;obtain⟨a,d,rfl⟩:=Option.map_eq_some_iff.1 h;exact((ok.at_ i z e).kd a (List.mem_of_find?_eq_some d)).2
abbrev rS(y:Go.fT.RD)(p:cy)(c:Nat):ak.S:=⟨(y.id:Int),y.err,y.num,y.count,(y.token:Int),p,y.b.length,c⟩
theorem wY{b:Nat}{y z:ak.S}{K:ak.S->ai->Prop}(a:ak.fi h b y)(hk: ∀h',Fr (λy=>y=b) h h'->K z h'):
  ak.cX h (AA b 0) z λg=>ak.cv g (AA b 0) λr=>K r g:=
 ak.gy (x:=z) a λg d1 f _=>ak.ff d1 (hk g f)
theorem Sr(E:En V u h s X I σ k)(B':k+1<=30000)(w1:0<=x.ep.gk)(w2:0<=x.dest.gk)(rx:Row h p (bc x.kO))(cap:x.kO.length<=c)(hk: ∀h' l q d,Pt h' s l I (AN V σ ses x).1->bm X h l h'->Row h' q (bc (AN V σ ses x).2.b)->((AN V σ ses x).2.b≠ []->∀y,aR q y->¬l.M y)->R (xS.val (AN V σ ses x).2 q d) h'):
  Cl 13 #[pt s,.I ses,(x.s p c).agg] h R:=by
 refine QK.walk (aE.cM (x:=x.s p c) λb H eb hb f1=>ak.cM (x:=.z) λb1 h2 M' L f2=>aG.of λq' hJ=> ?_);have Q:=f1.tt f2;have E2:=E.on Q;have b':=f2.get hb _root_.id;have z1:=f1.1;have z2:=f2.1;have B:=E2.H.cT;have fl: ∀(g:ai)(e:Int),Fr No h2 g->AN V σ ses x=(σ,nU x.id e)->Cl 41 #[.U (x.id:Int),.I e] g λv w'=>ak.EX λt62=>v=t62.agg/\ak.cX w' (AA b1 0) t62 λn'=>ak.cv n' (AA b1 0) λr0=>R (r0.agg) n':=by
  intro g e r hq;rw[hq]at hk;refine xS.lG x.id rfl e λh' F=>ak.ex (rS (nU x.id e) none 0) ⟨rfl,wY ((r.tt F).get L _root_.id) λt' s'=> ?_⟩
  have S:=(Q.tt (r.tt F)).fresh s' (λy e=>ag);exact hk t' X none 0 (E.H.on S) (bm.gr S) Row.nil (λe=>absurd rfl e)
 have r': ∀(e:Int),¬(jW x=true/\x.kind<11)->AN V σ ses x=(σ,nU x.id 3):=λe hn=>by unfold AN;rw[ae hn]
 have key:q' false h2:=by
  subst hJ;dsimp only;rw[dc];refine aG.of λJ1 i'=>aE.ff (x:=x.s p c) b' (e8 x (rx.frame Q (λ_ _=>_root_.id)) λh3 f3=>⟨_,rfl,?_⟩)
  have Y:=f3.get b' _root_.id;have P':J1 true h3->True:=λ_=>trivial
  have bad: ¬(jW x=true/\x.kind<11)->J1 true h3:=by
   intro hn;subst i';try dsimp only
   rw[af rfl];exact⟨_,ar Y,fl h3 3 f3 (r' 0 hn)⟩
  cases hr:jW x with
  |false=>rw[fK];exact bad (λe=>by rw[hr]at e;cases e.1)
  |true=>
  rw[dc];refine⟨_,ar Y,?_⟩;by_cases e':x.kind<11
  case neg=>
   have:decide ((x.s p c).f1≥11)=true:=av (by show x.kind≥11;omega);rw[this];exact bad (λe=>e' e.2)
  have:decide ((x.s p c).f1≥11)=false:=az (by show¬x.kind≥11;omega);rw[this];subst i';dsimp only;rw[dc];have E3:=E2.on f3;obtain⟨Z,n,_⟩:=E3.H.use 0;unfold AN at hk fl;rw[af ⟨hr,e'⟩]at hk;simp only[af (show jW x=true/\x.kind<11 from⟨hr,e'⟩)]at fl;refine⟨_,ar E3.H.cT,fj.EL n E.G.a ⟨_,rfl,?_⟩⟩;cases hu:fj.QA σ.A ses with
  |false=>
   rw[fK];exact⟨_,ar Y,fl h3 16 f3 (by rw[hu];rfl)⟩
  |true=>
  rw[hu,af rfl]at hk;rw[dc];refine⟨_,ar E3.H.cT,_,ar Y,fj.O7 x.id rfl n E.G.a (λkb c' h4 p4 c4 o4 f4 n4=>⟨_,_,_,_,rfl,?_⟩) (λc' h4 f4=>⟨_,_,_,_,rfl,?_⟩)⟩
  .rw[c']at hk;rw[af rfl];dsimp only at hk;have F4:=Q.tt (f3.tt f4);have z3:=f3.1;have z4:=f4.1;have fin: ∀(g:ai)(y:Go.fT.RD)(q:cy)(d:Nat),(Go.fT.Jj kb).getD Go.fT.RD.zero=y->Row g q (bc y.b)->(∀z,aR q z->h4.size<=z)->Fr No h4 g->
     aQ g (.cells ak.S.z.arr 44) λg' v'=>
     ak.cX v' (AA g' 0) (rS y q d) λj'=>
     ak.cv j' (AA g' 0) λt103=>
     ak.cX j' (AA b1 0) t103 λk'=>
     ak.cv k' (AA b1 0) λG'=>
     R (G'.agg) k':=by
    intro g y q d j row N r;refine ak.ft (x:=rS y q d) λb2 g2 N' b' f5=>ak.ff (x:=rS y q d) b' (wY ((f3.tt (f4.tt (r.tt f5))).get L _root_.id) λg3 f6=> ?_)
    have S:=(F4.tt (r.tt f5)).fresh f6 (λy e=>ag);have rr:=((row.frame f5 (λ_ _=>_root_.id)).frame f6 (λa T C=>by have:=N a.block ⟨a,T,rfl⟩;have C:a.block=b1:=C;have:=aD L;omega));rw[j]at hk;exact hk g3 X q d (E.H.on S) (bm.gr S) rr (λ_ z n m=>hY (N z n) (E.H.lt z (.inl m)))
   refine xS.uf o4.iw rfl (bY (Ps E.G.a c')) (λy j K q d o5 f5 n5=>ak.ex (rS y q d) ⟨_,rfl,?_⟩) (λj K f5=>ak.ex (rS .zero none 0) ⟨_,rfl,?_⟩)
   .exact fin K y q d (by rw[j];rfl) o5.iw n5 f5
   .exact fin K .zero none 0 (by rw[j];rfl) Row.nil (λz n=>by obtain⟨a,e,_⟩:=n;cases e) f5
  .rw[c']at hk;rw[dc];dsimp only at hk;have F4:=Q.tt (f3.tt f4);have z3:=f3.1;have z4:=f4.1;have a':=f4.get Y _root_.id;refine⟨_,ar a',ak.ft (x:=y0 x.id) λw K O' o' f5=>aE.ff (x:=x.s p c) (f5.get a' _root_.id) ?_⟩;have F5:=F4.tt f5;have E5:=E.on F5;have z5:=f5.1;have M: ∀y,h.size<=y->¬(X.M y\/X.D y):=λy j m=>by have:=E.H.lt y m;omega
   refine Sq (p:=p) (c:=c) (ses:=ses) E5 B' hr w1 w2 (rx.frame F5 (λ_ _=>_root_.id)) cap o' (M w ag) λU J H6 O=>⟨_,rfl,aG.of λJ2 u'=> ?_⟩
   have sG:=Good.FC (V:=V) (ses:=ses) (q:=x) E.G E.H.ord E.hk w1;generalize FC V σ ses x=o at hk H6 O sG;have p':aE.fi U b (x.s p c):=O.fr.get (f5.get a' _root_.id) (λm=>by
    rcases m with a|a
    .exact M b ag (.inl a)
    .have:=aD a';omega)
   have y':ak.fi U b1 .z:=O.fr.get ((f3.tt (f4.tt f5)).get L _root_.id) (λm=>by
    rcases m with a|a
    .exact M b1 ag (.inl a)
    .have:=aD L;omega)
   have zo:=aD o';have st:bm X h J U:=⟨(Fr.no F5 O.fr).trans (Fr.refl (λ_=>False) _) (λc hc m=>by
    rcases m with a|a
    .exact a
    .omega) (λ_ _=>False.elim),λc hc=>(O.gI c hc).imp _root_.id (λa=>ag),λc hc=>(O.iF c hc).imp _root_.id (λa=>ag),O.lE⟩
   have R':=aD a';have Q':=aD L;have d': ∀y,h.size<=y->y<K.size->¬(J.M y\/J.D y):=λy j hl m=>by
    rcases m with a|a
    .rcases O.gI y a with a|a
     .exact M y j (.inl a)
     .omega
    .rcases O.iF y a with a|a
     .exact M y j (.inr a)
     .omega
   have fin: ∀(g:ai)(q:cy)(d:Nat),ak.fi g w (rS (nT x.id o) q d)->Fr (λy=>y=w) U g->Row g q (bc (nT x.id o).b)->((nT x.id o).b≠ []->∀z,aR q z->(K.size<=z\/X.D z)/\¬J.M z)->J2 g:=by
    intro g q d hg r row N;subst u';have Hg:=H6.frame r (λy j e=>d' w ag zo (e▸j));have zg:=r.1;have z6:=O.fr.1;have E':b≠w:=ag
    have F':b1≠w:=ag
    obtain⟨Z,n,zm,zd,go⟩:=Hg.use 0;have wr: ∀(G:ai)(P:cy)(cw:Nat),Row G P (bc (PZ (nT x.id o)))->(∀y,aR P y->g.size<=y)->Fr No g G->∀(e:Int),
      ∃t126,bg G (AA s 0)=some (.pointer t126)/\
      ∃t129,bg G (AA b 0)=some (.U t129)/\
      Cl 46 #[.pointer t126,.I ses,.U t129,.slice P (PZ (nT x.id o)).length cw] G λL' l'=>
      ∃t131,L'=.I t131/\
      ak.cv l' (AA w 0) λt132=>
      ak.cX l' (AA b1 0) t132 λm'=>
      ak.cv m' (AA b1 0) λH'=>
      R (H'.agg) m':=by
     intro G P cw I' nw F _;have f':=Hg.on F;obtain⟨Z,n,zm,zd,go⟩:=f'.use 0;have x':=F.get (r.get p' E') _root_.id;refine⟨_,ar f'.cT,_,ar x',fj.O6 x.id rfl n sG.a I' rfl (λ_ y j m=>hY (nw y j) (Hg.lt y (.inl (zm y m)))) λh7 Z7 T7 s7=>⟨_,rfl,?_⟩⟩;obtain⟨X7,H7,Ha,_,_⟩:=go h7 Z7 { o.σ with A:=fj.zJ o.σ.A ses x.id (PZ (nT x.id o)) } T7 s7 (λi hi=>dH.qA _ hi);have n3: ¬J.M w:=λa=>d' w ag zo (.inl a)
     have n1: ¬J.M b1:=λa=>d' b1 ag ag (.inl a)
     have A':=Ha.fr.get (F.get hg _root_.id) n3;have z':=Ha.fr.get (F.get (r.get y' F') _root_.id) n1;refine ak.ff (x:=rS (nT x.id o) q d) A' (wY z' λh8 f8=> ?_);have z7:=Ha.fr.1;have zf:=F.1;have rh:bm X h J G:=(bm.box st r ag).on F;have J':=rh.trans Ha;have K':=bm.box J' f8 ag;have D': ∀y,X7.M y\/X7.D y->y≠b1:=λy j e=>by
      rcases j with a|a
      .rcases Ha.gI y a with a|a
       .exact n1 (e▸a)
       .omega
      .rcases Ha.iF y a with a|a
       .exact d' b1 ag ag (.inr (e▸a))
       .omega
     refine hk h8 X7 q d (H7.frame f8 (λy j e=>D' y j e)) K' ?_ (λhd z n m=> ?_)
     .by_cases hd:(nT x.id o).b= []
      .rw[hd];exact Row.nil
      .refine(((row.frame F (λ_ _=>_root_.id)).frame Ha.fr (λa T C=>(N hd a.block ⟨a,T,rfl⟩).2 C)).frame f8 (λa T C=> ?_));have C:a.block=b1:=C;rcases(N hd a.block ⟨a,T,rfl⟩).1 with a1|a1
       .omega
       .exact M b1 ag (.inr (C▸a1))
     .rcases Ha.gI z m with a|a
      .exact(N hd z n).2 a
      .have:=jr row (by simpa[bc]using hd) n;omega
    refine ak.ff (x:=rS (nT x.id o) q d) hg (xS.ND (nT x.id o) row (λW G P cw ow F nw=>⟨_,_,_,_,rfl,?_⟩) (λW G F=>⟨_,_,_,_,rfl,?_⟩))
    .have:=wr G P cw (by rw[show PZ (nT x.id o)=(nT x.id o).enc from af W];exact ow.iw) nw F 0;rw[show PZ (nT x.id o)=(nT x.id o).enc from af W]at this;exact this
    .have:=wr G none 0 (by rw[show PZ (nT x.id o)= []from ae W];exact Row.nil) (λy j=>by obtain⟨a,e,_⟩:=j;cases e) F 0;rw[show PZ (nT x.id o)= []from ae W]at this;exact this
   obtain⟨y,j,C'⟩:=O.at';by_cases he:o.e=0
   .rw[ae (cA he)];obtain⟨q,d,rfl,row,N⟩:=C' he;have eo:nT x.id o=⟨x.id,0,o.num,o.uo,0,o.d⟩:=af he;rw[eo]at fin;exact fin U q d j (Fr.refl _ _) row N
   .rw[af (cA he)];have eo:nT x.id o=⟨x.id,o.e,0,0,0, []⟩:=ae he;rw[eo]at fin;refine⟨_,ar p',xS.lG x.id rfl o.e λg f=>ak.ex (rS ⟨x.id,o.e,0,0,0, []⟩ none 0) ⟨rfl,ak.gy (x:=rS ⟨x.id,o.e,0,0,0, []⟩ none 0) (f.get j _root_.id) λg2 d2 f2 _=>fin g2 none 0 d2 (Fr.no f f2) Row.nil (λe=>absurd rfl e)⟩⟩
 refine⟨_,ar B,?_⟩;rw[ae bP];refine⟨_,ar B,?_⟩;rw[ae bP];refine⟨_,ar B,?_⟩;rw[ae bP];refine⟨_,ar B,?_⟩;rw[ae bP];refine⟨_,ar B,?_⟩;rw[ae bP];exact⟨_,ar B,key⟩

end Ask
end
section
variable {h:ai} {R:fp}
variable {s out l d:Nat} {c:cu.S} {x:aP.S} {L:cy}
theorem qF.walk(H: ∃t9,Cc h s 0 (.pointer t9)/\if(!t9.isNone)then∃t16,Cc h s 1 (.pointer t16)/\if(!t16.isNone)then∃t23,Cc h s 2 (.pointer t23)/\if(!t23.isNone)then∃t30,Cc h s 3 (.pointer t30)/\if(!t30.isNone)then∃t37,Cc h s 4 (.pointer t37)/\if(!t37.isNone)then∃t44,Cc h s 5 (.pointer t44)/\R (.bool (!t44.isNone)) h else R (.bool false) h else R (.bool false) h else R (.bool false) h else R (.bool false) h else R (.bool false) h):Cl 61 #[.P s 0] h R:=aO (lq ll) Tryz.func61 H
theorem qF.nil.walk(H:R (.bool false) h):Cl 61 #[.pointer none] h R:=aO (lq ll) Tryz.func61 H
theorem sO.walk{owner:Int}(f:aQ h (.cells c.arr 268) λb H=>Hp H b 21 λt6=>aL t6 λa=>yu H a λt9=>Hl H b 22 λg T t=>Cl 263 #[.pointer t9,.I owner,.slice g T t] H λv e=> ∃t13,v=.I t13/\Kp H e [(Sa b 21)]/\if(t13 !=0)then R (.I 0) e else R (.I 1) e):Cl 212 #[c.agg,.I owner] h R:=aO (lq (sq (sq (pK 10) (cq ll lf)) ll)) Tryz.func212 f
theorem sP.walk(hv:aQ h (.cells c.arr 268) λb g=>aG (λ(r:cy) (is:Bool) (k:ai)=>if(!is)then R (.I 4) k else aq.cv k (AA b 0) λt28=>Cl 211 #[t28.agg] k λv j'=>aJ.EX λY=> ∃Z,v=.tuple #[Y.agg,.I Z]/\aQ j' (.cells aJ.S.z.arr 287) λf' k'=>aJ.cX k' (AA f' 0) Y λe=>if(Z==0)then cu.cv e (AA b 0) λt35=>aL r λa=>jk e (a.add 6) λt37=>Cl 212 #[t35.agg,.I t37] e λq' l'=> ∃t38,q'=.I t38/\aS l' (AA out 3) (.I t38) λm'=>R (.I 0) m' else aq.cv e (AA b 0) λt43=>Hp e b 21 λt45=>aL t45 λa'=>fW e (a'.add 6) λt48=>Hp e b 21 λt50=>aL t50 λb'=>fW e (b'.add 6) λt53=>Cl 213 #[t43.agg,.U t48,.U t53] e λr' f=> ∃t T,r'=.tuple #[.U t,.I T]/\Kp e f [(Sa b 21),(Sa b 21)]/\aG (λ(t57:Bool) (H:ai)=>if t57 then R (.I 19) H else if(T !=0)then R (.I T) H else if(t==0)then R (.I 18) H else Hp H b 21 λt82=>aL t82 λc'=>yu H (c'.add 2) λt85=>ay.cv H (AA b 2) λt89=>Hl H b 22 λp' o' n'=>Hp H b 21 λt93=>aL t93 λA=>fW H (A.add 6) λt96=>Cl 15 #[.pointer t85,t89.agg,.slice p' o' n',.U (if 1099511627776<wrap .u64 (t96+t)then 1099511627776 else wrap .u64 (t96+t))] H λs' q=> ∃z C,s'=.tuple #[.I z,.I C]/\Kp H q [(some (A.add 6)),(Sa b 21),(Sa b 21)]/\aS q (AA out 2) (.I z) λg'=>R (.I C) g') (λm=>aL r λn=> ∃t59,bg f (n.add 5)=some (.I t59)/\if(t59==2)then Hp f b 21 λt63=>aL t63 λd'=>yu f d' λt66=>aL r λe'=>jk f (e'.add 6) λt68=>Cl 28 #[.pointer t66,.I t68] f λt' u=> ∃t69,t'=.bool t69/\Kp f u [(Sa b 21),(some (n.add 5))]/\m (!t69) u else m false f)) (λJ=>Hp g b 21 λt13=>aL t13 λo=>yu g (o.add 1) λt16=>ay.cv g (AA b 2) λt20=>(Cl 155 #[.pointer t16,t20.agg] g λu' i=> ∃D F I M O Q U W,u'=.tuple #[.agg #[.bool D,.U F,.U I,.string M,.string O,.I Q,.I U],.bool W]/\Kp g i [(Sa b 21)]/\aQ i (.cells #[.bool false,.U 0,.U 0,.string fU,.string fU,.I 0,.I 0] 136) λB w=>Kp i w [(Sa b 21)]/\bR.ST w (AA B 0) D F I M O Q U λh'=>J (Sa B 0) W h')/\(aQ g (.cells #[.bool false,.U 0,.U 0,.string fU,.string fU,.I 0,.I 0] 136) λp j=>Kp g j [(Sa b 2),(some (o.add 1)),(Sa b 21)]/\Cl 155 #[.pointer t16,t20.agg] j λv' y=> ∃E G K N P S V X,v'=.tuple #[.agg #[.bool E,.U G,.U K,.string N,.string P,.I S,.I V],.bool X]/\Kp j y [(Sa b 21)]/\bR.ST y (AA p 0) E G K N P S V λi'=>J (Sa p 0) X i')/\True)):Cl 180 #[c.agg,.P out 0] h R:=aO (lq (sq (.join [(5,.one (.ptr)),(6,.one (.bool))] (.jz (fC 9 0 (.alts (.fork 9 (fC 6 10 .done) (.fork 13 (fC 4 9 (.op 14 (.op 15 .done))) .gX)))))) (sq (lq (cq ll lf)) (sq (lq (lq (cq (lq ll) lf))) (sq (pK 18) (sq (bq (sq (.join [(57,.one (.bool))] (pK 15)) (cq ll (lq (cq ll (lq (cq ll lf))))))) (sq (pK 28) ll))))))) Tryz.func180 hv
theorem AS.walk{f:cy}{a D:Nat} (p:Cl 158 #[.slice f a D] h λv i=>aq.EX λT=> ∃t,v=.tuple #[T.agg,.I t]/\aQ i (.cells aq.S.z.arr 129) λb k=>aq.cX k (AA b 0) T λH=>aG (λ(e:Int) (g:ai)=>aG (λ(m:ai)=>R (.I e) m) (λj=>if(e !=0)then∃t27,Cc g s 7 (.I t27)/\aS g (AA s 7) (.I (wrap .i64 (t27+1))) λn=>j n else j g)) (λJ=>if(t==0)then aq.cv H (AA b 0) λt16=>Cl 180 #[.agg #[.U t16.f0,.I t16.f1,.bool t16.f2,.U t16.f3,.U t16.f4,.string t16.f5,.string t16.f6,.bool t16.f7,.U t16.f8,.U t16.f9,.string t16.f10,.string t16.f11,.bool t16.f12,.U t16.f13,.U t16.f14,.string t16.f15,.string t16.f16,.U t16.f17,.U t16.f18,.U t16.f19,.slice t16.Of t16.Gb t16.Og,.P s 0,.slice f a D],.P out 0] H λV o=> ∃t21,V=.I t21/\J t21 o else J t H)):Cl 127 #[.P s 0,.slice f a D,.P out 0] h R:=aO (lq (lq (sq (lq (.join [(8,.one (.int .i64))] (cq lf lf))) (sq (lq (.join [] (cq lf lf))) ll)))) Tryz.func127 p
theorem AT.walk (hv:aQ h (.cells x.arr 56) λb H=>Hi H b 1 λt11=>aG (λ(e:Int) (Y:ai)=>R (.I e) Y) (λJ=>aG (λ(E:Int) (d':ai)=>J E d') (λj=>if(t11==1)then Hp H s 0 λt19=>Hu H b 2 λt21=>Cl 12 #[.pointer t19,.U t21] H λv e'=> ∃t T,v=.tuple #[.I t,.I T]/\aS e' (AA out 2) (.I t) λp=> ∃t29,Cc p b 2 (.U t29)/\aS p (AA out 4) (.U t29) λf'=>j T f' else aG (λ(D:Int) (g':ai)=>j D g') (λf=>if(t11==2)then Hp H s 0 λt39=>Hu H b 2 λt41=>Cl 126 #[.pointer t39,.U t41] H λl' h'=> ∃r u,l'=.tuple #[.I r,.I u]/\aS h' (AA out 2) (.I r) λq=> ∃t49,Cc q b 2 (.U t49)/\aS q (AA out 4) (.U t49) λM=>f u M else aG (λ(F:Int) (N:ai)=>f F N) (λg=>if(t11==3)then Hp H s 0 λt57=>Hi H b 3 λt59=>Cl 73 #[.pointer t57,.I t59] H λm' O=> ∃t60,m'=.I t60/\g t60 O else aG (λ(G:Int) (P:ai)=>g G P) (λi=>if(t11==4)then Hi H b 3 λt66=>aE.cv H (AA b 4) λt68=>Cl 13 #[.P s 0,.I t66,t68.agg] H λn' Q=>ak.EX λt69=>n'=t69.agg/\ak.cX Q (AA out 0) t69 λS=>i 0 S else aG (λ(I:Int) (U:ai)=>i I U) (λk=>if(t11==5)then Hl H b 23 λk' j' i'=>Cl 127 #[.P s 0,.slice k' j' i',.P out 0] H λo' V=> ∃t77,o'=.I t77/\k t77 V else aG (λ(K:Int) (W:ai)=>k K W) (λm=>if(t11==6)then Cl 128 #[.P s 0] H λp' X=>aH.EX λw=> ∃y,p'=.tuple #[w.agg,.I y]/\aQ X (.cells aH.S.z.arr 119) λB Z=>aH.cX Z (AA B 0) w λa=>Hi a B 0 λt88=> ∃C A z,Cc a B 2 (.slice C A z)/\aS a (AA out 2) (.I t88) λo=>Kp a o [(Sa B 2)]/\aS o (AA out 5) (.slice C A z) λa'=>m y a' else aG (λ(b':ai)=>m 0 b') (λn=>if(t11==8)then Hp H s 0 λt101=>Cl 129 #[.pointer t101] H λq' c'=>q'=.tuple #[]/\n c' else n H))))))))):Cl 62 #[.P s 0,x.agg,.P out 0] h R:=aO (lq (lq (sq (lq (.join [(7,.one (.int .i64))] (bq (lq (.join [(7,.one (.int .i64))] (cq (sq (pK 15) lf) (lq (.join [(7,.one (.int .i64))] (cq (sq (pK 15) lf) (lq (.join [(7,.one (.int .i64))] (cq (pK 8) (lq (.join [(7,.one (.int .i64))] (cq lf (lq (.join [(7,.one (.int .i64))] (cq lf (lq (.join [(7,.one (.int .i64))] (cq (lq (pK 14)) (lq (.join [] (cq lf lf)))))))))))))))))))))))) ll))) Tryz.func62 hv
theorem oN.walk(t:aQ h (.cells x.arr 56) λb p=>aQ p (.cells ak.S.z.arr 44) λB r=>Cl 61 #[.P s 0] r λv a=> ∃t11,v=.bool t11/\if(!t11)then ak.cX a (AA B 0) ak.S.z λj=>ak.cv j (AA B 0) λu=>R (.tuple #[u.agg,.I 6]) j else aP.cv a (AA b 0) λt15=>Cl 32 #[t15.agg] a λV e=> ∃t16,V=.bool t16/\if(!t16)then ak.cX e (AA B 0) ak.S.z λk=>ak.cv k (AA B 0) λw=>R (.tuple #[w.agg,.I 3]) k else Hu e b 0 λt21=>Cl 16 #[.P s 0,.U t21] e λC m=> ∃t22,C=.I t22/\if(t22 !=0)then ak.cX m (AA B 0) ak.S.z λn=>ak.cv n (AA B 0) λy=>R (.tuple #[y.agg,.I t22]) n else aQ m (.cells ak.S.z.arr 44) λf o=>aP.cv o (AA b 0) λt28=>Cl 62 #[.P s 0,t28.agg,.P f 0] o λD H=> ∃t29,D=.I t29/\if(t29 !=0)then Cl 41 #[.U 0,.I t29] H λE q=>ak.EX λt33=>E=t33.agg/\ak.cX q (AA B 0) t33 λg=>ak.cv g (AA B 0) λz=>R (.tuple #[z.agg,.I 0]) g else ak.cv H (AA f 0) λt34=>ak.cX H (AA B 0) t34 λi=>ak.cv i (AA B 0) λA=>R (.tuple #[A.agg,.I 0]) i):Cl 20 #[.P s 0,x.agg] h R:=aO (lq (sq (bq (lq (cq ll (lq (cq ll lf))))) (sq (lq (lq (cq ll lf))) (lq (sq (lq (lq (cq ll lf))) ll))))) Tryz.func20 t
theorem oN.nil.walk(t:aQ h (.cells x.arr 56) λb p=>aQ p (.cells ak.S.z.arr 44) λB r=>Cl 61 #[.pointer none] r λv a=> ∃t11,v=.bool t11/\if(!t11)then ak.cX a (AA B 0) ak.S.z λj=>ak.cv j (AA B 0) λu=>R (.tuple #[u.agg,.I 6]) j else aP.cv a (AA b 0) λt15=>Cl 32 #[t15.agg] a λV e=> ∃t16,V=.bool t16/\if(!t16)then ak.cX e (AA B 0) ak.S.z λk=>ak.cv k (AA B 0) λw=>R (.tuple #[w.agg,.I 3]) k else Hu e b 0 λt21=>Cl 16 #[.pointer none,.U t21] e λC m=> ∃t22,C=.I t22/\if(t22 !=0)then ak.cX m (AA B 0) ak.S.z λn=>ak.cv n (AA B 0) λy=>R (.tuple #[y.agg,.I t22]) n else aQ m (.cells ak.S.z.arr 44) λf o=>aP.cv o (AA b 0) λt28=>Cl 62 #[.pointer none,t28.agg,.P f 0] o λD H=> ∃t29,D=.I t29/\if(t29 !=0)then Cl 41 #[.U 0,.I t29] H λE q=>ak.EX λt33=>E=t33.agg/\ak.cX q (AA B 0) t33 λg=>ak.cv g (AA B 0) λz=>R (.tuple #[z.agg,.I 0]) g else ak.cv H (AA f 0) λt34=>ak.cX H (AA B 0) t34 λi=>ak.cv i (AA B 0) λA=>R (.tuple #[A.agg,.I 0]) i):Cl 20 #[.pointer none,x.agg] h R:=aO (lq (sq (bq (lq (cq ll (lq (cq ll lf))))) (sq (lq (lq (cq ll lf))) (lq (sq (lq (lq (cq ll lf))) ll))))) Tryz.func20 t
theorem AU.walk(k: ∃(I:Int->ai->Prop)(m:Int->ai->Nat),I 0 h/\∀(t12:Int)(H:ai),I t12 H->if(decide (t12<(l:Int)))then Bd t12 l/\aL L λa=>aP.cv H (a.add (toNat t12*24)) λt16=>aQ H (.cells aP.S.z.arr 56) λb g=>aP.cX g (AA b 0) t16 λf=>aP.cv f (AA b 0) λt19=>Cl 20 #[.P s 0,t19.agg] f λv i=>ak.EX λT=> ∃t,v=.tuple #[T.agg,.I t]/\aQ i (.cells ak.S.z.arr 44) λB j=>ak.cX j (AA B 0) T λe=>if(t !=0)then R (.tuple #[.I t12,.I t]) e else(I (wrap .i64 (t12+1)) e/\m (wrap .i64 (t12+1)) e<m t12 H)else R (.tuple #[.I (l:Int),.I 0]) H):Cl 60 #[.P s 0,.slice L l d] h R:=aO (lq (sq (lq (bq (.loop [(12,.one (.int .i64))] (lq (sq (cq lf lf) (sq (bq (lq (lq (lq (cq ll lf))))) lf)))))) ll)) Tryz.func60 k
theorem Fs.walk{e:cy}{a B:Nat}(j:aQ h (.cells aq.S.z.arr 129) λb g=>aQ g (.cells #[.U 1,.U 1,.U 0,.I 0,.slice e a B] 201) λf i=>aq.cX i (AA b 0) ⟨0,0,false,0,0,fU,fU,false,0,0,fU,fU,false,0,0,fU,fU,0,0,0,(Sa f 0),1,1⟩ λH=>aq.cv H (AA b 0) λr=>R (r.agg) H):Cl 59 #[.slice e a B] h R:=aO (lq ll) Tryz.func59 j
theorem Fu.walk{x:aE.S} (a:aQ h (.cells x.arr 47) λb H=> ∃e t T,Cc H b 15 (.slice e t T)/\if(decide (((t:Nat):Int)>400))then R (.bool true) H else Hs H b 5 λt10=>Hs H b 6 λt14=>Hs H b 10 λt19=> ∃t24,Cc H b 11 (.string t24)/\R (.bool (decide ((wrap .i64 ((wrap .i64 ((wrap .i64 ((t10.size:Int)+(t14.size:Int)))+(t19.size:Int)))+((t24.size:Nat):Int)))>300))) H):Cl 57 #[x.agg] h R:=aO (lq ll) Tryz.func57 a
theorem Fv.walk (e:aQ h (.cells x.arr 56) λb a=>aE.cv a (AA b 4) λt4=>Cl 57 #[t4.agg] a λv H=> ∃t5,v=.bool t5/\if t5 then R (.bool true) H else∃f t T,Cc H b 23 (.slice f t T)/\R (.bool (decide (((t:Nat):Int)>1300))) H):Cl 18 #[x.agg] h R:=aO (lq ll) Tryz.func18 e
theorem Fw.walk(hv:Cl 9 #[] h λv F=>ay.EX λt16=>v=t16.agg/\Cl 8 #[t16.agg] F λg' e=> ∃t T,g'=.tuple #[.pointer t,.I T]/\aG (λ(t25:Bool) (f:ai)=>if t25 then R (.bool false) f else Cl 20 #[.pointer t,.agg #[.U 3,.I 1,.U 5,.I 0,.U 0,.I 0,.bool false,.U 0,.U 0,.string fU,.string fU,.bool false,.U 0,.U 0,.string fU,.string fU,.I 0,.I 0,.I 0,.Z,.U 0,.U 0,.bool false,.Z]] f λh' W=>ak.EX λg=> ∃i,h'=.tuple #[g.agg,.I i]/\aQ W (.cells ak.S.z.arr 44) λb X=>ak.cX X (AA b 0) g λY=>aQ Y (.cells #[.int .u8 120] 5) λz Z=>aW Tryz.prog (convert 22 22 (.slice (Sa z 0) 1 1)) Z λi' a'=>Vl i' λe' d' c'=>Cl 59 #[.slice e' d' c'] a' λj' b'=>aq.EX λt35=>j'=t35.agg/\Cl 58 #[t35.agg] b' λk' G=> ∃m k j f',k'=.tuple #[.slice m k j,.I f']/\Cl 20 #[.pointer t,.agg #[.U 4,.I 5,.U 0,.I 0,.U 0,.I 0,.bool false,.U 0,.U 0,.string fU,.string fU,.bool false,.U 0,.U 0,.string fU,.string fU,.I 0,.I 0,.I 0,.Z,.U 0,.U 0,.bool false,.slice m k j]] G λl' I=>ak.EX λn=> ∃o,l'=.tuple #[n.agg,.I o]/\aQ I (.cells ak.S.z.arr 44) λB K=>ak.cX K (AA B 0) n λM=>Cl 20 #[.pointer t,.agg #[.U 3,.I 7,.U 0,.I 0,.U 0,.I 0,.bool false,.U 0,.U 0,.string fU,.string fU,.bool false,.U 0,.U 0,.string fU,.string fU,.I 0,.I 0,.I 0,.Z,.U 0,.U 0,.bool false,.Z]] M λm' N=>ak.EX λp=> ∃q,m'=.tuple #[p.agg,.I q]/\aQ N (.cells ak.S.z.arr 44) λC O=>ak.cX O (AA C 0) p λP=>Cl 20 #[.pointer none,.agg #[.U 0,.I 7,.U 0,.I 0,.U 0,.I 0,.bool false,.U 0,.U 0,.string fU,.string fU,.bool false,.U 0,.U 0,.string fU,.string fU,.I 0,.I 0,.I 0,.Z,.U 0,.U 0,.bool false,.Z]] P λn' Q=>ak.EX λr=> ∃u,n'=.tuple #[r.agg,.I u]/\aQ Q (.cells ak.S.z.arr 44) λD S=>ak.cX S (AA D 0) r λU=>aQ U (.cells #[.U 9,.I 8,.U 0,.I 0,.U 0,.I 0,.bool false,.U 0,.U 0,.string fU,.string fU,.bool false,.U 0,.U 0,.string fU,.string fU,.I 0,.I 0,.I 0,.Z,.U 0,.U 0,.bool false,.Z,.U 8,.I 7,.U 0,.I 0,.U 0,.I 0,.bool false,.U 0,.U 0,.string fU,.string fU,.bool false,.U 0,.U 0,.string fU,.string fU,.I 0,.I 0,.I 0,.Z,.U 0,.U 0,.bool false,.Z] 56) λE V=>Cl 60 #[.pointer t,.slice (Sa E 0) 2 2] V λo' H=> ∃w y,o'=.tuple #[.I w,.I y]/\∃t66,Cc H b 2 (.I t66)/\if(t66==1)then∃t70,Cc H b 4 (.U t70)/\if(t70==5)then if(i==0)then∃t79,Cc H B 1 (.I t79)/\if(t79==4)then if(o==0)then aL t λa=> ∃t90,bg H (a.add 7)=some (.I t90)/\if(t90==1)then if(q==18)then if(u==6)then if(w==1)then if(y==18)then aL t λA=> ∃t113,bg H (A.add 6)=some (.U t113)/\R (.bool (t113==9)) H else R (.bool false) H else R (.bool false) H else R (.bool false) H else R (.bool false) H else R (.bool false) H else R (.bool false) H else R (.bool false) H else R (.bool false) H else R (.bool false) H else R (.bool false) H) (λJ=>if(T !=0)then J true e else J t.isNone e)):Cl 19 #[] h R:=aO (lq (lq (sq (sq (.join [(25,.one (.bool))] lf) (cq ll lf)) (lq (lq (lq (lq (lq (lq ll))))))))) Tryz.func19 hv
theorem sQ.walk (hv:Cl 9 #[] h λv a'=>ay.EX λt12=>v=t12.agg/\Cl 8 #[t12.agg] a' λp' f=> ∃t T,p'=.tuple #[.pointer t,.I T]/\aG (λ(t28:Bool) (D:ai)=>if t28 then R (.bool false) D else∃(I:Int->Int->Int->ai->Prop)(M:Int->Int->Int->ai->Nat),I 0 0 0 D/\∀(q:Int)(r:Int)(i:Int)(g:ai),I q r i g->aG (λ(t36:Bool) (n:ai)=>if t36 then Bd i l/\aL L λa=>aP.cv n (a.add (toNat i*24)) λt42=>Cl 18 #[t42.agg] n λq' o=> ∃t43,q'=.bool t43/\if t43 then Cl 19 #[] o λr' h'=> ∃t44,r'=.bool t44/\R (.bool t44) h' else Bd i l/\aL L λV=>aP.cv o (V.add (toNat i*24)) λt50=>Cl 20 #[.pointer t,t50.agg] o λs' i'=>ak.EX λE=> ∃F,s'=.tuple #[E.agg,.I F]/\aQ i' (.cells ak.S.z.arr 44) λb j'=>ak.cX j' (AA b 0) E λk=>aG (λ(t63:Bool) (e:ai)=>aG (λ(Q:Int) (p:Int) (C:ai)=>aL t λW=>yu C (W.add 2) λt83=>Cl 17 #[.pointer t83] C λt' b'=> ∃G K N O P S,t'=.agg #[.I G,.I K,.I N,.I O,.I P,.I S]/\aQ b' (.cells #[.I 0,.I 0,.I 0,.I 0,.I 0,.I 0] 50) λB c'=>gD.ST c' (AA B 0) G K N O P S λH=>aG (λ(t115:Bool) (m:ai)=>if t115 then R (.bool false) m else(I Q p (wrap .i64 (i+1)) m/\M Q p (wrap .i64 (i+1)) m<M q r i g)) (λj=>Bd 0 6/\∃t86,bg H (((AA B 0):Addr).add (toNat 0*1))=some (.I t86)/\if(t86 !=Q)then j true H else aL t λX=> ∃t93,bg H (X.add 7)=some (.I t93)/\if(t93 !=p)then j true H else Bd 0 6/\jk H (((AA B 0):Addr).add (toNat 0*1)) λt99=>Bd 1 6/\jk H (((AA B 0):Addr).add (toNat 1*1)) λt101=>Bd 2 6/\jk H (((AA B 0):Addr).add (toNat 2*1)) λt103=>Bd 3 6/\jk H (((AA B 0):Addr).add (toNat 3*1)) λt106=>Bd 4 6/\jk H (((AA B 0):Addr).add (toNat 4*1)) λt109=>Bd 5 6/\∃t112,bg H (((AA B 0):Addr).add (toNat 5*1))=some (.I t112)/\j (t99 !=(wrap .i64 ((wrap .i64 ((wrap .i64 ((wrap .i64 (t101+t103))+t106))+t109))+t112))) H)) (λy=>if t63 then aG (λ(k':Int) (n':Int) (d':ai)=>y k' n' d') (λU=>Hi e b 1 λt66=>aG (λ(l':Int) (o':Int) (e':ai)=>U l' o' e') (λz=>if(t66 !=0)then z q (wrap .i64 (r+1)) e else Hi e b 2 λt72=>aG (λ(m':Int) (f':ai)=>z m' r f') (λA=>if(decide (t72>0))then∃t77,Cc e b 2 (.I t77)/\if(t77 !=(wrap .i64 (q+1)))then R (.bool false) e else A (wrap .i64 (q+1)) e else A q e)))else y q r e)) (λw=>if(F==0)then Bd i l/\aL L λY=> ∃t61,bg k ((Y.add (toNat i*24)).add 1)=some (.I t61)/\w (t61==5) k else w false k)else Cl 19 #[] n λu' g'=> ∃t116,u'=.bool t116/\R (.bool t116) g') (λu=>if(decide (i<(l:Int)))then u (decide (i<50)) g else u false g)) (λJ=>if(T !=0)then J true f else if t.isNone then J true f else aL t λZ=> ∃t26,bg f (Z.add 2)=some (.pointer t26)/\J t26.isNone f)):Cl 4 #[.slice L l d] h R:=aO (lq (lq (sq (sq (.join [(28,.one (.bool))] lf) (cq ll lf)) (lq (sq (lq (bq (.loop [(5,.one (.int .i64)),(6,.one (.int .i64)),(7,.one (.int .i64))] (sq (sq (.join [(36,.one (.bool))] lf) (cq lf lf)) (sq (bq (sq (lq (cq ll lf)) (lq (sq (sq (.join [(63,.one (.bool))] lf) (.join [(5,.one (.int .i64)),(6,.one (.int .i64))] (cq (.join [(5,.one (.int .i64)),(6,.one (.int .i64))] (bq (lq (.join [(5,.one (.int .i64)),(6,.one (.int .i64))] (cq lf (lq (.join [(5,.one (.int .i64))] (cq (lq (lq (cq ll lf))) lf)))))))) lf))) (lq (sq (.join [(115,.one (.bool))] lf) (cq ll lf))))))) lf))))) ll))))) Tryz.func4 hv

end
section
namespace EI
open iW (Ev cV)
open dH (SS Good Pt ps Mk Bk)
open Go.Proofs.YtlenamcfacpheaaGreatDoor.Ask (En gg y0 hH Dn)
open Bn (kJ jG iS ic BB hU SG)
variable {V:cD→Bool} {h h' j g:ai} {R:fp} {s k bo c cl:Nat} {X f:Ft} {I:ps} {σ:SS} {p q:cy} {D:Nat→Prop} {b:kJ} {data:cD} {xs:List BB}
abbrev Q5(b:kJ)(q:cy)(cl s:Nat)(p:cy)(n c:Nat):cu.S:=⟨b.p.fl,b.p.sum,b.p.dest.ky,b.p.dest.node,b.p.dest.gk,b.p.dest.host,b.p.dest.jB,b.p.rep.ky,b.p.rep.node,b.p.rep.gk,b.p.rep.host,b.p.rep.jB,b.p.id.e.ky,b.p.id.e.node,b.p.id.e.gk,b.p.id.e.host,b.p.id.e.jB,b.p.id.tm,b.p.id.sq,b.p.dN,q,b.bl.length,cl,some ⟨s,0,none⟩,p,n,c⟩
theorem KM(h:jG V data=.ok b):(iS V b).isSome=true/\data.length<=1200:=by
 unfold jG at h;split at h
 case isFalse=>cases h
 rename_i H;refine⟨?_,H⟩;repeat (first|(split at h<;>first|(cases h;done)|skip)|(cases h;assumption))
theorem Dk(E:En V j h s X I σ k)(owner:Int)(row:Row h p (bc data))(r:data.length<=1200)(hk: ∀h' f,Pt h' s f I { σ with A:=fj.zK σ.A owner data } ->bm X h f h'->R (.I (if fj.BI σ.A owner data=0 then 1 else 0)) h'):
  Cl 212 #[(Q5 b q cl s p data.length c).agg,.I owner] h R:=by
 refine sO.walk (cu.cM (x:=Q5 b q cl s p data.length c) λb1 o n e f1=> ?_);have E1:=E.on f1;obtain⟨Z,m,u,t,go⟩:=E1.H.use 0;refine⟨_,ar e,aw.2 ⟨_,ar E1.H.cT,_,_,_,ar e,fj.Dk m E.G.a (row.frame f1 cb) rfl ag λH z T s2=> ?_⟩⟩;obtain⟨d,a,S,_,_⟩:=go H z { σ with A:=fj.zK σ.A owner data } T s2 (λi l=>dH.qA _ l);have st:=bm.no f1 S;refine⟨_,rfl,Dn S.fr (b:=b1) (E.nM ag) bP,?_⟩;by_cases c1:fj.BI σ.A owner data=0
 .rw[ae (by rw[c1];decide)];have:=hk H d a st;rw[af c1]at this;exact this
 .rw[af (cA c1)];have:=hk H d a st;rw[ae c1]at this;exact this
theorem Ss{b1 n:Nat}{K:aq.S->Prop}(H:cu.fi h b1 (Q5 b q cl s p n c))(hk:K (b.s q cl)):aq.cv h (AA b1 0) K:=
 ⟨_,ar H,_,ar H,_,ar H,_,ar H,_,ar H,_,ar H,_,ar H,_,ar H,_,ar H,_,ar H,_,ar H,_,ar H,_,ar H,_,ar H,_,ar H,_,ar H,_,ar H,_,ar H,_,ar H,_,ar H,_,_,_,ar H,hk⟩
theorem NF(b:kJ)(now:Nat):(j4 V b now).1<=2199023255552:=by
 unfold j4;split
 .rename_i c1;unfold Hx at c1;split at c1
  .rename_i a;obtain⟨d,hd⟩:=dG.1 a;have H:=Ask.sN hd;have pr:b.p.dN<=1099511627776/\b.p.id.tm<=1099511627776:=by
    unfold Bn.iG Bn.gE at H;simp only[aT,aV]at H;exact⟨H.2,H.1.2.1.2⟩
   show Fj b.p (Hw V b.bl) now<=_;unfold Fj;split<;>omega
  .cases c1
 .exact bG _
theorem Pv(E:En V j h s X I σ k)(g':b.p.wf)(B:ic h D b.bl q b.bl.length cl xs)(hl:b.bl.length<=8)(hd: ∀z∈b.bl,z.data.length<=200)(row:Row h p (bc data))(ld:data.length<=1200)(m':data≠ []->∀a,p=some a->¬X.M a.block)(l:ak.fi h bo (y0 0))(Y: ¬(X.M bo\/X.D bo))(hk: ∀h' f,Pt h' s f I (j8 V σ b data).σ->gg X h bo 0 (j8 V σ b data) f h'->R (.I (j8 V σ b data).e) h'):
  Cl 180 #[(Q5 b q cl s p data.length c).agg,.P bo 0] h R:=by
 refine sP.walk (cu.cM (x:=Q5 b q cl s p data.length c) λb1 h1 eb N f1=>aG.of λi' hJ=> ?_);have E1:=E.on f1;have nM: ¬X.M bo:=λe=>Y (.inl e)
 have zo:=aD l;have r':=E.hk;have sm:=E.G.small E.H.ord ag;have e': ¬X.M b1:=E.nM ag;have s': ¬X.D b1:=λW=>by have:=E.H.lt b1 (.inr W);omega
 have key: ∀(g:ai)(w:Nat),h1.size<=w->gj.Rg.at g w ((gj.ij σ.G b.p.dest).getD .zero)->Fr No h1 g->i' (Sa w 0) (gj.ij σ.G b.p.dest).isSome g:=by
  intro g w zr O K;subst hJ;dsimp only;unfold j8 at hk;cases hf:gj.ij σ.G b.p.dest with
  |none=>
   rw[hf]at hk;rw[af (by rfl)];have F:=f1.tt K;exact hk g X (E.H.on F) (gg.bad l nM (bm.gr F))
  |some r=>
   rw[hf]at hk O;rw[ae bP];dsimp only at hk;have F:=f1.tt K;have Eg:=E.on F;have O:gj.Rg.at g w r:=O;have ug:=Eg.u.fr;refine Ss (K.get N id) (uy g' E.U ug Eg.P2 (B.on F) ag (λz H=>bY (hd z H)) λh2 rr e he f2=>aJ.ex rr ⟨_,rfl,aJ.ft (x:=rr) λb4 h4 o' p' f4=> ?_⟩);have f24:=f2.tt f4;have n:=F.tt f24;have t:=E.on n;have A:=f24.get (K.get N id) id;have a':=f24.get O id;have c':=n.get l id;by_cases c1:Af V b=true
   .rw[af c1]at hk;have T:=he.2 c1;subst T;rw[af (by rfl)];refine cu.ff (x:=Q5 b q cl s p data.length c) A (aw.2 ⟨_,ar a',Dk t r.own (row.frame n cb) ld λL X5 H5 f'=>⟨_,rfl,?_⟩⟩);have st:=bm.no n f';refine hH (z:=⟨0,0,0,if fj.BI σ.A r.own data=0 then 1 else 0,0,none,0,0⟩) (f'.fr.get c' nM) di rfl λh6 d6 f6=> ?_
    exact hk h6 X5 (H5.frame f6 (λy l e=>Ask.oM st Y zo y l e)) (gg.num (st1:=st) 0 _ f6 d6)
   rw[ae c1]at hk;have T: ¬e=0:=λe=>c1 (he.1 e)
   rw[ae (cA T)];refine Ss A ⟨_,ar A,aw.2 ⟨_,ar t.H.cT,_,ar A,aw.2 ⟨_,ar t.H.cT,Pk σ.now E.G.n g' E.U t.u.fr t.P2 (B.on n) ag (λz H=>bY (hd z H)) λM f8=>⟨_,_,rfl,f8.kp,aG.of λJ1 l'=> ?_⟩⟩⟩⟩;have o:=n.tt f8;have m:=E.on o;have G:=f8.get A id;have b':=f8.get a' id;have n':=f8.get c' id;have ll:=NF (V:=V) b σ.now;have d': ∀v,(v=true↔(r.j9=2/\fj.QA σ.A r.own=false))->J1 v M:=by
    intro v hv;subst l';dsimp only;by_cases c2:r.j9=2/\fj.QA σ.A r.own=false
    .rw[af c2]at hk;rw[af (hv.2 c2)];exact hk M X m.H (gg.bad l nM (bm.gr o))
    rw[ae c2]at hk;rw[ae (λe=>c2 (hv.1 e))];by_cases J:(j4 V b σ.now).2=0
    case neg=>
     rw[af J]at hk;rw[af (cA J)];exact hk M X m.H (gg.bad l nM (bm.gr o))
    rw[ae (λe=>e J)]at hk;rw[ae (cA J)];by_cases Q:(j4 V b σ.now).1=0
    .rw[af Q]at hk;rw[af (by rw[Q];rfl)];exact hk M X m.H (gg.bad l nM (bm.gr o))
    rw[ae Q]at hk;rw[ae (by simp only[cR];omega)];have wl:IntKind.wrap .u64 ((σ.now:Int)+((j4 V b σ.now).1:Int))=(σ.now:Int)+((j4 V b σ.now).1:Int):=wrap_u64 ag (bY E.G.n);obtain⟨Z,H,zm,zd,go⟩:=m.H.use 2;refine⟨_,ar G,aw.2 ⟨_,ar m.H.cT,hU b.p.dest G rfl rfl rfl rfl rfl ⟨_,_,_,ar G,_,ar G,aw.2 ⟨_,ar m.H.cT,fM.zN H sm (λz H=>(E.G.c.ok.bd z H).2.1) (bY E.G.c.ok.uo) b.p.dest (d:=data) (min (σ.now+(j4 V b σ.now).1) 1099511627776) (by rw[wl];split<;>omega) (row.frame o cb) rfl (λhd a ea W=>m' hd a ea (zm _ W)) λh9 Z9 C9 s9=>⟨_,_,rfl,?_⟩⟩⟩⟩⟩;obtain⟨X9,H9,P,_,_⟩:=go h9 Z9 { σ with C:=fM.jn σ.C b.p.dest data (min (σ.now+(j4 V b σ.now).1) 1099511627776) } C9 s9 (λi hi=>dH.wa _ hi);have st:=bm.no o P;refine⟨λq' hq x e hx=> ?_,hH (z:=⟨0,0,fM.uz σ.C b.p.dest data (min (σ.now+(j4 V b σ.now).1) 1099511627776),0,0,none,0,0⟩) (P.fr.get n' nM) di rfl λk' d10 f10=> ?_⟩
    .simp only[bH,List.not_mem_nil,or_false]at hq;rcases hq with rfl|rfl|rfl
     .cases e;exact H9.cT.trans m.H.cT.symm
     .cases e;exact P.fr.2 b1 hx e'
     .cases e;exact P.fr.2 b1 hx e'
    .exact hk k' X9 (H9.frame f10 (λy l e=>Ask.oM st Y zo y l e)) (gg.num (st1:=st) _ 0 f10 d10)
   refine aw.2 ⟨_,ar b',?_⟩;by_cases c2:r.j9=2
   .rw[af (by rw[c2];rfl)];obtain⟨Z,H,_⟩:=m.H.use 0;exact⟨_,ar G,aw.2 ⟨_,ar m.H.cT,aw.2 ⟨_,ar b',fj.EL H E.G.a ⟨_,rfl,(Fr.refl _ _).kp,d' _ (by simp[c2])⟩⟩⟩⟩
   .rw[ae (cA c2)];exact d' _ (by simp[c2])
 obtain⟨Z,H,_⟩:=E1.H.use 1;refine⟨_,ar N,aw.2 ⟨_,ar E1.H.cT,hU b.p.dest N rfl rfl rfl rfl rfl ⟨?_,?_,trivial⟩⟩⟩
 .exact gj.gH H b.p.dest λh3 f3=>⟨_,_,_,_,_,_,_,_,rfl,f3.kp,bR.box λu h4 j' U f4=>⟨f4.kp,bR.set U λL a1 a2 a3=>key L u (bY f3.1) a1 ((f3.tt f4).fresh (Fr.of_eq (S:=λy=>y=u) a2 a3) (λy e=>bY f3.1))⟩⟩
 .refine bR.box λu h4 j' U f4=>⟨f4.kp,gj.gH (gj.Tb.on H f4) b.p.dest λh3 f3=>⟨_,_,_,_,_,_,_,_,rfl,f3.kp,bR.set (f3.get U _root_.id) λL a1 a2 a3=>key L u ag a1 ((f4.tt f3).fresh (Fr.of_eq (S:=λy=>y=u) a2 a3) (λy e=>ag))⟩⟩
theorem gg.St{o o':Ask.Ot}{x d:Ft}{G:ai}(O:gg X h bo 0 o x g)(st:bm x g d G)(i: ¬o'.e=0)(nM: ¬X.M bo)(Z:bo<h.size):gg X h bo 0 o' d G:=by
 have z:=O.fr.1;have N: ¬x.M bo:=λl=>(O.gI bo l).elim nM (λa=>ag)
 refine⟨O.fr.trans st.fr cb (λc H m=> .inl ((O.gI c m).resolve_right ag)),λc H=> ?_,λc H=> ?_,λc H=>st.lE c (O.lE c H),?_⟩
 .rcases st.gI c H with a|a
  .exact O.gI c a
  .right;omega
 .rcases st.iF c H with a|a
  .exact O.iF c a
  .right;omega
 .obtain⟨y,n,_⟩:=O.at';exact⟨y,st.fr.get n N,λe=>absurd e i⟩
theorem KN(E:En V j h s X I σ k)(c':k+2<=30000)(row:Row h p (bc data))(cap:data.length<=c)(a':data≠ []->∀a,p=some a->¬X.M a.block)(u:ak.fi h bo (y0 0))(N: ¬(X.M bo\/X.D bo))(hk: ∀h' f,Pt h' s f I (jK V σ data).σ->gg X h bo 0 (jK V σ data) f h'->R (.I (jK V σ data).e) h'):
  Cl 127 #[pt s,.slice p data.length c,.P bo 0] h R:=by
 have nM: ¬X.M bo:=λe=>N (.inl e)
 have zo:=aD u;have fin: ∀(o:Ask.Ot) g d,jK V σ data=oK o->o.σ.rf<=40000->Pt g s d I o.σ->gg X h bo 0 o d g->(aG (λ(T:ai)=>R (.I o.e) T) λi=>if(o.e !=0)=true then∃t27,bg g (AA s 7)=some (.I t27)/\aS g (AA s 7) (.I (IntKind.wrap .i64 (t27+1))) λU=>i U else i g):=by
  intro o g d t hr H O;refine aG.of λi y=> ?_
  rw[t]at hk;unfold oK at hk;by_cases c1:o.e=0
  .rw[ae (λe=>e c1)]at hk;rw[ae (by rw[c1];decide)];subst y;exact hk g d H O
  .rw[af c1]at hk;rw[af (cA c1)];refine⟨_,ar H.cT,?_⟩;rw[show(o.σ.rf:Int)+1=((o.σ.rf+1:Nat):Int) by omega,bD ag ag];refine bw H.cT bP λS a1 a2 a3=> ?_
   obtain⟨L,C,b'⟩:=H.put (n:=o.σ.now) (r:=o.σ.rf+1) a1 a2 a3;subst y;exact hk S L C (gg.St (o':= { o with σ:= { o.σ with rf:=o.σ.rf+1 } }) O b' c1 nM zo)
 refine AS.walk (Bn.xW E.U E.u.fr E.P2 row rfl cap (λb z w hd hl W q cl xs B f1=>aq.ex (b.s q cl) ⟨_,rfl,aq.ft (x:=b.s q cl) λP v Q A f2=>aG.of λJ m=> ?_⟩) (λe t hn W f1=>aq.ex .z ⟨_,rfl,aq.ft (x:=.z) λP v Q A f2=>aG.of λJ m=> ?_⟩))
 .have F:=f1.tt f2;have E2:=E.on F;have Z:=KM z;have l:jK V σ data=oK (j8 V σ b data):=by unfold jK;rw[z]
  rw[af (by rfl)];refine aq.ff (x:=b.s q cl) A (Pv E2 w (B.frame f2 cb) hl hd (row.frame F cb) Z.2 a' (F.get u id) N λY M G K=>⟨_,rfl,?_⟩);subst m;refine fin _ Y M l ?_ G (Ask.gg.no F K);have:=(Good.Sk (V:=V) (b:=b) (data:=data) E.G E.H.ord E.hk w.1).r;omega
 .have F:=f1.tt f2;have E2:=E.on F;have l:jK V σ data=oK (Ask.bad σ e):=by unfold jK;rw[t]
  rw[ae (cA hn)];subst m;refine fin (Ask.bad σ e) v X l (by have:=E.G.r;have:=E.hk;show σ.rf<=_;omega) E2.H (gg.bad u nM (bm.gr F))

end EI
end
section
namespace Ask
open iW (Ev cV)
open dH (SS Good)
open Go.fT (RD)
abbrev IT:Ev:=⟨true,7,0,⟨#[]⟩,⟨#[]⟩⟩
abbrev Su:Ev:=⟨true,7,1,⟨#[]⟩,⟨#[]⟩⟩
def q1:Rq:=⟨1,1,Su,.zero,0,0,0, [],0,0,false⟩
def q2(n:Nat)(id:Nat):Rq:=⟨id,7,Su,.zero,0,0,(n:Int), [],0,0,false⟩
def q3(id:Nat)(kind:Int):Rq:=⟨id,kind,.zero,.zero,0,1,0, [],0,0,false⟩
def q4:Rq:=⟨2,4,Su,Su,0,0,0, [120],9,0,false⟩
def q6:Rq:=⟨2,6,Su,.zero,0,0,0, [],0,0,false⟩

end Ask
end
section
namespace Ask
open iW (Ev cV kz)
open dH (SS Good Pt ps Mk Bk)
open Go.fT (RD)
variable {V:cD→Bool} {h h' j k:ai} {R:fp} {s c:Nat} {X g:Ft} {I:ps} {p:cy} {x:Rq} {L:List (Nat × ak.S)}
variable {d:cD}
theorem x3(hk: gL h R (kz IT)):Cl 9 #[] h R:=Ht.walk (ay.ft (x:=IT.s) λ_ k _ H f1=>ay.ff (x:=IT.s) H (hk k f1))
theorem B0:dH.Hr IT:=⟨dj,λe=>by cases bU Ev.ky e⟩
def Bx(h:ai)(X:Ft)(L:List (Nat×ak.S)):Prop:= ∀e∈L,ak.fi h e.1 e.2/\¬X.M e.1
theorem Bx.step(B:Bx h X L)(st:bm X h g h'):Bx h' g L:=λe H=>⟨st.fr.get (B e H).1 (B e H).2,λb=>by
 rcases st.gI _ b with a|a
 .exact(B e H).2 a
 .have:=aD (B e H).1;omega⟩
theorem Bx.on(B:Bx h X L)(f:Fr No h h'):Bx h' X L:=λe H=>⟨f.get (B e H).1 id,(B e H).2⟩
def Rw(h:ai)(X:Ft)(p:cy)(d:cD):Prop:=Row h p (bc d)/\(d≠ []->∀z,aR p z->¬X.M z)
theorem Rw.step(B:Rw h X p d)(st:bm X h g h'):Rw h' g p d:=by
 by_cases hd:d= []
 .subst hd;exact⟨Row.nil,λe=>absurd rfl e⟩
 .refine⟨B.1.frame st.fr (λa E f=>B.2 hd a.block ⟨a,E,rfl⟩ f),λ_ z H b=> ?_⟩;rcases st.gI z b with a|a
  .exact B.2 hd z H a
  .have:=jr B.1 (by simpa[bc]using hd) H;omega
theorem Rw.on(B:Rw h X p d)(f:Fr No h h'):Rw h' X p d:=⟨B.1.frame f cb,B.2⟩
theorem Bx.nth{b:Nat}{y:ak.S}(B:Bx h X L)(i:Nat)(H:L[i]? =some (b,y)):ak.fi h b y:=(B _ (bn H)).1
theorem En.NG(U:Cb.ke V j)(mx:oT.Mx j)(f:Fr No j k)(H:Pt h s X I (dH.Kt IT))(u:Lp k X h):En V j h s X I (dH.Kt IT) 0:=
 ⟨H,dH.Good.new B0.1 B0.2 di,ag,⟨f.tt u.fr,λc a=>cW f.1 (u.ge c a)⟩,U,mx⟩

end Ask
end
section
namespace EI
open dH (SS Good Pt ps Mk Bk)
open Go.Proofs.YtlenamcfacpheaaGreatDoor.Ask (En gg y0 hH Dn rS Rw oM)
open Go.fT (RD)
variable {V:cD→Bool} {h h' n m g:ai} {R:fp} {s k bo c d:Nat} {X l:Ft} {I:ps} {σ:SS} {p q:cy} {x:rq} {o:Hq}
variable {data:cD}
structure HD (X:Ft) (h:ai) (bo:Nat) (o:Hq) (l:Ft) (h':ai):Prop where
 fr:Fr (λy=>X.M y\/y=bo) h h'
 gI: ∀c,l.M c->X.M c\/h.size<=c
 iF: ∀c,l.D c->X.D c\/h.size<=c
 lE: ∀c,X.D c->l.D c
 at': ∃y,ak.fi h' bo y/\(o.e=0->∃p c,y=rS o.y p c/\Row h' p (bc o.y.b)/\(o.y.b≠ []->∀z,aR p z->¬l.M z))
theorem HD.of(st:bm X h l m)(f:Fr (λy=>y=bo) m h')(at': ∃y,ak.fi h' bo y/\(o.e=0->∃p c,y=rS o.y p c/\Row h' p (bc o.y.b)/\(o.y.b≠ []->∀z,aR p z->¬l.M z))):HD X h bo o l h':=
 ⟨st.fr.trans f (λ_ _ a=> .inl a) (λ_ _ e=> .inr e),st.gI,st.iF,st.lE,at'⟩
theorem HD.nil{y:RD}{e:Int}(st:bm X h l m)(f:Fr (λy=>y=bo) m h')(a:ak.fi h' bo (rS y none 0))(H:y.b= []):HD X h bo ⟨σ,e,y⟩ l h':=
 HD.of st f ⟨_,a,λ_=>⟨none,0,rfl,by rw[show(⟨σ,e,y⟩:Hq).y.b= []from H];exact Row.nil,λe=>absurd H e⟩⟩
theorem Pw{b:Bn.kJ}:(j8 V σ b data).d= []:=by
 unfold j8;split
 .rfl
 .split
  .rfl
  .split
   .rfl
   .split
    .rfl
    .split<;>rfl
theorem QR :(jK V σ data).d= []:=by
 unfold jK oK;split
 .split<;>rfl
 .split<;>exact Pw
theorem NH{d:cD}{y:ak.S}(r:Row h q (bc d))(f:ak.fi h bo y)(hd:d≠ [])(a:Addr)(E:q=some a):a.block≠bo:=by
 intro b;subst E;obtain⟨x,t,rfl⟩:=List.exists_cons_of_ne_nil hd;have H:=r.cell (j:=0) (v:=.int .u8 (x.toNat:Int)) rfl;unfold bg at H;rw[show(a.add 0).block=bo from b,f]at H;dsimp only at H;split at H
 .cases H
 generalize (a.add 0).off=i at H;rcases i with _|_|_|_|_|_|i
 .have e:=aX (show some (Value.U y.f0)=some _ from H);cases e
 .have e:=aX (show some (Value.I y.f1)=some _ from H);cases e
 .have e:=aX (show some (Value.I y.f2)=some _ from H);cases e
 .have e:=aX (show some (Value.I y.f3)=some _ from H);cases e
 .have e:=aX (show some (Value.U y.f4)=some _ from H);cases e
 .have e:=aX (show some (Value.slice y.xQ y.f5l y.xR)=some _ from H);cases e
 .have e:(none:Option Value)=some _:=H;cases e
theorem KO(E:En V n h s X I σ k)(q':k+2<=30000)(x:rq)(rx:Row h p (bc x.jb.kO))(cx:x.jb.kO.length<=c)(dx:Rw h X q x.data)(cd:x.data.length<=d)(w1:0<=x.jb.ep.gk)(w2:0<=x.jb.dest.gk)(j:ak.fi h bo (y0 0))(N: ¬(X.M bo\/X.D bo))(hk: ∀h' l,Pt h' s l I (gn V σ x).σ->HD X h bo (gn V σ x) l h'->R (.I (gn V σ x).e) h'):
  Cl 62 #[pt s,(x.s p c q d).agg,.P bo 0] h R:=by
 refine AT.walk (aP.cM (x:=x.s p c q d) λb m eb w f1=>⟨_,ar w,aG.of λp' hJ=>aG.of λJ1 c'=> ?_⟩);have E1:=E.on f1;have nM: ¬X.M bo:=λe=>N (.inl e)
 have zo:=aD j;have C:=f1.get j id;have k': ¬X.M b:=E.nM ag;have fin: ∀g l,Pt g s l I (gn V σ x).σ->HD X h bo (gn V σ x) l g->J1 (gn V σ x).e g:=by
  intro g l H O;subst c';subst hJ;exact hk g l H O
 clear hJ c' hk;unfold gn at fin;by_cases L:x.kind=1
 .rw[af L]at fin;rw[af (Ask.bq.2 L)];obtain⟨Z,D,zm,zd,go⟩:=E1.H.use 0;refine⟨_,ar E1.H.cT,_,ar w,fj.xU x.token rfl D E.G.a λf F T s2=> ?_⟩;obtain⟨u,t,S,_,_⟩:=go f F { σ with A:=fj.ux σ.A x.token } T s2 (λi B=>dH.qA _ B);have st:=bm.no f1 S;refine⟨_,_,rfl,hH (z:=⟨0,0,fj.ER σ.A x.token,0,0,none,0,0⟩) (S.fr.get C nM) di rfl λG d3 f3=>⟨_,ar (f3.get (S.fr.get w k') ag),hH (z:=⟨0,0,fj.ER σ.A x.token,0,x.token,none,0,0⟩) d3 di rfl λJ d4 f4=> ?_⟩⟩;exact fin J u (t.frame (f3.tt f4) (λy j e=>oM st N zo y j e)) (HD.nil st (f3.tt f4) d4 rfl)
 rw[ae L]at fin;rw[ae (λe=>L (Ask.bq.1 e))];refine aG.of λJ2 d'=> ?_
 have e2:J2=J1:=d';clear d';subst e2;by_cases M:x.kind=2
 .rw[af M]at fin;rw[af (Ask.bq.2 M)];obtain⟨Z,D,zm,zd,go⟩:=E1.H.use 0;refine⟨_,ar E1.H.cT,_,ar w,fj.Ka x.token rfl D E.G.a λf F T s2=> ?_⟩;obtain⟨u,t,S,_,_⟩:=go f F { σ with A:=fj.J0 σ.A x.token } T s2 (λi B=>dH.qA _ B);have st:=bm.no f1 S;refine⟨_,_,rfl,hH (z:=⟨0,0,fj.MS σ.A x.token,0,0,none,0,0⟩) (S.fr.get C nM) di rfl λG d3 f3=>⟨_,ar (f3.get (S.fr.get w k') ag),hH (z:=⟨0,0,fj.MS σ.A x.token,0,x.token,none,0,0⟩) d3 di rfl λJ d4 f4=> ?_⟩⟩;exact fin J u (t.frame (f3.tt f4) (λy j e=>oM st N zo y j e)) (HD.nil st (f3.tt f4) d4 rfl)
 rw[ae M]at fin;rw[ae (λe=>M (Ask.bq.1 e))];refine aG.of λJ3 e'=> ?_
 have e3:J3=J2:=e';clear e';subst e3;by_cases P:x.kind=3
 .rw[af P]at fin;rw[af (Ask.bq.2 P)];obtain⟨Z,D,zm,zd,go⟩:=E1.H.use 0;refine⟨_,ar E1.H.cT,_,ar w,fj.C4 D E.G.a λf F T s2=> ?_⟩;obtain⟨u,t,S,_,_⟩:=go f F { σ with A:=fj.BG σ.A x.ses } T s2 (λi B=>dH.qA _ B);have st:=bm.no f1 S;exact⟨_,rfl,fin f u t (HD.nil (y:=RD.zero) st (Fr.refl _ _) (S.fr.get C nM) rfl)⟩
 rw[ae P]at fin;rw[ae (λe=>P (Ask.bq.1 e))];refine aG.of λJ4 f'=> ?_
 have e4:J4=J3:=f';clear f';subst e4;by_cases Q:x.kind=4
 .rw[af Q]at fin;rw[af (Ask.bq.2 Q)];refine⟨_,ar w,JQ w (Ask.Sr E1 ag w1 w2 (rx.frame f1 cb) cx λf u q2 d2 t S l' n'=>ak.ex (rS (Ask.AN V σ x.ses x.jb).2 q2 d2) ⟨rfl,ak.gy (x:=rS (Ask.AN V σ x.ses x.jb).2 q2 d2) (S.fr.get C nM) λG d3 f3 _=> ?_⟩)⟩;have st:=bm.no f1 S;have a':Fr (λy=>y=bo) f G:=f3;refine fin G u (t.frame a' (λy j e=>oM st N zo y j e)) (HD.of st a' ⟨_,d3,λ_=>⟨q2,d2,rfl,?_,n'⟩⟩);by_cases hd:(Ask.AN V σ x.ses x.jb).2.b= []
  .show Row G q2 (bc (Ask.AN V σ x.ses x.jb).2.b);rw[hd];exact Row.nil
  .exact l'.frame a' (λa ea e=>NH l' (S.fr.get C nM) hd a ea e)
 rw[ae Q]at fin;rw[ae (λe=>Q (Ask.bq.1 e))];refine aG.of λJ5 g'=> ?_
 have e5:J5=J4:=g';clear g';subst e5;by_cases U:x.kind=5
 .rw[af U]at fin;rw[af (Ask.bq.2 U)];refine⟨_,_,_,ar w,KN (data:=x.data) E1 ag (dx.1.frame f1 cb) cd (λb' a ea=>dx.2 b' a.block ⟨a,ea,rfl⟩) C N λf u t O2=>⟨_,rfl,?_⟩⟩;have O:=Ask.gg.no f1 O2;refine fin f u t ⟨O.fr,O.gI,O.iF,O.lE,?_⟩;obtain⟨y,j,hx⟩:=O.at';refine⟨y,j,λhe=> ?_⟩;obtain⟨p2,c2,ey,r2,_⟩:=hx he;rw[QR]at ey r2;exact⟨p2,c2,ey,r2,λe=>absurd rfl e⟩
 rw[ae U]at fin;rw[ae (λe=>U (Ask.bq.1 e))];refine aG.of λJ6 i'=> ?_
 have e6:J6=J5:=i';clear i';subst e6;by_cases W:x.kind=6
 .rw[af W]at fin;rw[af (Ask.bq.2 W)];refine dH.uq E1.H E.G ag (λhn f f2=>aH.ex .z ⟨_,rfl,aH.ft (x:=.z) λb2 G m' K f3=> ?_⟩) (λz r B f u v ev t S vk=>aH.ex ⟨v.num,v.owner,v.v.p,v.v.b.length,v.v.c,v.cf⟩ ⟨_,rfl,aH.ft (x:=⟨v.num,v.owner,v.v.p,v.v.b.length,v.v.c,v.cf⟩) λb2 G m' K f3=> ?_⟩)
  .rw[hn]at fin;have F3:=f1.tt (f2.tt f3);have z1:=(f1.tt f2).1;refine⟨_,ar K,_,_,_,ar K,hH (z:=⟨0,0,0,0,0,none,0,0⟩) (F3.get j id) di rfl λJ d4 f4=>⟨Dn f4 (b:=b2) ag bP,hH (z:=⟨0,0,0,0,0,none,0,0⟩) d4 di rfl λh5 d5 f5=> ?_⟩⟩;exact fin h5 X ((E.H.on F3).frame (f4.tt f5) (λy j e=>N (e▸j))) (HD.nil (y:=RD.zero) (bm.gr F3) (f4.tt f5) d5 rfl)
  .rw[B]at fin;have st:=bm.no f1 S;have z1:=f1.1;have z2:=S.fr.1;have nx:=oM st N zo;refine⟨_,ar K,_,_,_,ar K,hH (z:=⟨0,0,v.num,0,0,none,0,0⟩) (f3.get (S.fr.get C nM) id) di rfl λJ d4 f4=>⟨Dn f4 (b:=b2) ag bP,hH (z:=⟨0,0,v.num,0,0,v.v.p,v.v.b.length,v.v.c⟩) d4 di rfl λh5 d5 f5=> ?_⟩⟩;have o':=vk.frame (f3.no (f4.tt f5)) (λy j e=>nx y (.inr j) e);subst ev;refine fin h5 u ((t.on f3).frame (f4.tt f5) nx) (HD.of (st.on f3) (f4.tt f5) ⟨_,d5,λ_=>⟨v.v.p,v.v.c,rfl,o'.row,λb' z D hm=>t.tH z hm (vk.own b' z D)⟩⟩)
 rw[ae W]at fin;rw[ae (λe=>W (Ask.bq.1 e))];refine aG.of λJ7 j'=> ?_
 by_cases Y:x.kind=8
 .rw[af Y]at fin;rw[af (Ask.bq.2 Y)];obtain⟨Z,D,zm,zd,go⟩:=E1.H.use 0;refine⟨_,ar E1.H.cT,fj.GU D E.G.a λf F T s2=> ?_⟩;obtain⟨u,t,S,_,_⟩:=go f F { σ with A:=fj.mf σ.A } T s2 (λi B=>dH.qA _ B);have st:=bm.no f1 S;subst j';exact⟨rfl,fin f u t (HD.nil (y:=RD.zero) st (Fr.refl _ _) (S.fr.get C nM) rfl)⟩
 rw[ae Y]at fin;rw[ae (λe=>Y (Ask.bq.1 e))];subst j';exact fin m X E1.H (HD.nil (y:=RD.zero) (bm.gr f1) (Fr.refl _ _) C rfl)

end EI
end
section
namespace EI
open dH (SS Good Pt ps Mk Bk)
open Go.Proofs.YtlenamcfacpheaaGreatDoor.Ask (En gg y0 hH Dn rS Rw oM wY nU)
open Go.fT (RD)
variable {V:cD→Bool} {h h' H j g:ai} {R:fp} {s k c d:Nat} {X f:Ft} {I:ps} {σ:SS} {p q:cy} {x:rq}
theorem _root_.Go.Proofs.YtlenamcfacpheaaGreatDoor.Ask.Rw.nil :Rw h X none []:=⟨Row.nil,λe=>absurd rfl e⟩
theorem NI{n r:Nat}(B:Bk h s I n r)(hk:R (.bool true) h):Cl 61 #[pt s] h R:=by
 refine qF.walk ?_;repeat (first|exact hk|refine⟨_,ar B,?_⟩|rw[af rfl])
theorem Good.apply(G:dH.Good σ k)(O:fM.Ord σ.C)(Op:fM.Ord (dH.wU σ x.now).C)(L:List Go.jU.E)(ok:gV.okB σ.B L)(hk:k+1<=30000)(n: ∀b,Bn.jG V x.data=.ok b->0<=b.p.dest.gk)(l:0<=x.jb.ep.gk):dH.Good (fY V σ x).σ (k+3):=by
 have a:=dH.Good.pass G O L ok ag x.now;have m:=dH.Good.more (dH.Good.more (dH.Good.more G));unfold fY;split
 .split
  .rename_i i;have e:dH.wU σ x.now=dH.lC σ x.now:=af i;rw[e]at a Op;have:=Good.QM (V:=V) (x:=x) a Op hk n l;split<;>exact this
  .exact m
 .exact m
theorem NJ{t:Cb.Tr}{p:Bn.Prim}(h:Bn.oU V t=.ok p):p.wf:=by
 unfold Bn.oU at h;split at h
 .cases h
 .split at h
  .split at h
   .rename_i d r i hd b a;split at h
    .split at h
     .cases h;exact⟨(Bn.uc hd).1,(Bn.uc b).1,Bn.sB a⟩
     .cases h
    .cases h
   .cases h
  .cases h
theorem Px{data:cD}{b:Bn.kJ}(h:Bn.jG V data=.ok b):b.p.wf:=by
 unfold Bn.jG at h;split at h
 case isFalse=>cases h
 split at h
 .cases h
 split at h
 case isFalse=>cases h
 split at h
 .cases h
 rename_i p a;split at h
 .cases h
 split at h
 .cases h;exact NJ a
 .cases h
theorem NK(E:En V H h s X I σ k)(U:k+3<=30000)(x:rq)(rx:Rw h X p x.jb.kO)(cx:x.jb.kO.length<=c)(dx:Rw h X q x.data)(cd:x.data.length<=d)(w1:0<=x.jb.ep.gk)(w2:0<=x.jb.dest.gk)(hk: ∀h' f q' D,En V H h' s f I (fY V σ x).σ (k+3)->bm X h f h'->Rw h' f q' (fY V σ x).y.b->R (.tuple #[(rS (fY V σ x).y q' D).agg,.I (fY V σ x).e]) h'):
  Cl 20 #[pt s,(x.s p c q d).agg] h R:=by
 refine oN.walk (aP.cM (x:=x.s p c q d) λb j eb P f1=>ak.cM (x:=.z) λb1 h2 l' J f2=>NI ((f1.tt f2).get E.H.cT id) ⟨_,rfl,?_⟩);rw[dc];have u:=f1.tt f2;have z1:=f1.1;have z2:=f2.1;have E2:=E.on u;have Q:=f2.get P id;have n':=E.hk;obtain⟨L,ok⟩:=E.H.okB;have bad: ∀g (e:Int),Fr No h2 g->fY V σ x=⟨σ,e,RD.zero⟩->ak.cX g (AA b1 0) ak.S.z λM=>ak.cv M (AA b1 0) λr0=>R (.tuple #[r0.agg,.I e]) M:=by
  intro g e i T;rw[T]at hk;refine wY (i.get J id) λG F=> ?_
  have FF:=(u.tt i).fresh F (λy e=>ag);have A:=E.on FF;exact hk G X none 0 ⟨A.H,dH.Good.more (dH.Good.more (dH.Good.more E.G)),U,A.u,A.U,A.mx⟩ (bm.gr FF) Ask.Rw.nil
 refine aP.ff (x:=x.s p c q d) Q (JS x E.U E2.u.fr E2.P2 (rx.on u).1 (dx.on u).1 cd λh3 f3=>⟨_,rfl,?_⟩);have v:=u.tt f3;have E3:=E.on v;cases B:ue V x with
 |false=>rw[fK];exact bad h3 3 f3 (by unfold fY;rw[B];rfl)
 |true=>
 rw[dc];refine⟨_,ar (f3.get Q id),dH.uC x.now rfl E3.H E3.G ag λM n m S=>⟨_,rfl,?_⟩⟩;have nb: ¬X.M b:=E.nM ag;have a': ¬X.M b1:=E.nM ag;have i':=S.fr.get (f3.get Q id) nb;have c':=S.fr.get (f3.get J id) a';by_cases C:dH.nQ σ x.now=0
 case neg=>
  rw[af (cA C)];have w:dH.wU σ x.now=σ:=ae C;have eA:fY V σ x=⟨σ,dH.nQ σ x.now,RD.zero⟩:=by unfold fY;rw[af B,ae C]
  rw[eA]at hk;rw[w]at m;refine wY c' λG F=> ?_
  have st:=bm.no v S;have z3:=st.fr.1;have nx: ∀y,n.M y\/n.D y->¬y=b1:=λy l e=>by
   subst e;have lt:=aD (f3.get J id);rcases l with a|a
   .rcases S.gI _ a with a|a
    .exact a' a
    .omega
   .rcases S.iF _ a with a|a
    .have:=E.H.lt y (.inr a);omega
    .omega
  have g':bm X h n G:=⟨st.fr.trans F cb (λy l e=>ag),st.gI,st.iF,st.lE⟩;exact hk G n none 0 (E.step (m.frame F nx) g' (dH.Good.more (dH.Good.more (dH.Good.more E.G))) U) g' Ask.Rw.nil
 rw[ae (cA C)];have w:dH.wU σ x.now=dH.lC σ x.now:=af C;rw[w]at m;have G4:=dH.Good.pass E.G E.H.ord L ok ag x.now;rw[w]at G4;have st:=bm.no v S;have E4:=E.step m st G4 ag;have Gf:dH.Good (fY V σ x).σ (k+3):=Good.apply E.G E.H.ord (by rw[w];exact m.ord) L ok ag (λb P=>(Px P).1) w1;have o':=aD (f3.get J id);have z4:=S.fr.1;have z3:=f3.1;have f': ¬n.M b1:=λW=>(S.gI _ W).elim a' (λa=>ag)
 have d41: ¬n.D b1:=λW=>(S.iF _ W).elim (λa=>bY (E.H.lt b1 (.inr a))) (λa=>ag)
 refine ak.cM (x:=.z) λb2 h5 m' j' f5=>aP.ff (x:=x.s p c q d) (f5.get i' id) (KO (E4.on f5) ag x (((rx.on v).step S).on f5).1 cx (((dx.on v).step S).on f5) cd w1 w2 j' (λe=>bY (m.lt b2 e)) λN o H6 O=>⟨_,rfl,?_⟩)
 have z5:=f5.1;have z6:=O.fr.1;have K:bm X h o N:=by
  have t:=st.on f5;have zz:=t.fr.1;refine⟨t.fr.trans O.fr cb (λc r Z=>Z.elim (λa=>(t.gI c a).resolve_right ag) (λe=>ag)),λc r=> ?_,λc r=> ?_,λc r=>O.lE c (t.lE c r)⟩
  .rcases O.gI c r with a|a
   .exact t.gI c a
   .right;omega
  .rcases O.iF c r with a|a
   .exact t.iF c a
   .right;omega
 have d':=O.fr.get (f5.get c' id) (λe=>e.elim f' (λe=>ag));have k': ∀y,o.M y\/o.D y->¬y=b1:=λy l e=>by
  subst e;rcases l with a|a
  .exact(O.gI _ a).elim f' (λa=>ag)
  .exact(O.iF _ a).elim d41 (λa=>ag)
 have e': ∀g Y q' D,Fr No N g->fY V σ x=⟨(gn V (dH.lC σ x.now) x).σ,0,Y⟩->Rw g o q' Y.b->ak.cX g (AA b1 0) (rS Y q' D) λb'=>ak.cv b' (AA b1 0) λr0=>R (.tuple #[r0.agg,.I 0]) b':=by
  intro g Y q' D i T z;rw[T]at hk Gf;refine wY (i.get d' id) λG F=> ?_
  have Ha:bm X h o G:=⟨(K.fr.on i).trans F cb (λy l e=>ag),K.gI,K.iF,K.lE⟩;refine hk G o q' D (E.step ((H6.on i).frame F k') Ha Gf U) Ha ?_;refine⟨?_,z.2⟩;by_cases hd:Y.b= []
  .show Row G q' (bc Y.b);rw[hd];exact Row.nil
  .exact z.1.frame F (λa ea e=>NH z.1 (i.get d' id) hd a ea e)
 by_cases c1:(gn V (dH.lC σ x.now) x).e=0
 .rw[ae (by rw[c1];decide)];obtain⟨y,l,Z⟩:=O.at';obtain⟨q',D,rfl,z,hn⟩:=Z c1;exact ak.ff l (e' N _ q' D (Fr.refl _ _) (by unfold fY;rw[af B,af C,af c1]) ⟨z,hn⟩)
 .rw[af (cA c1)];refine xS.lG 0 rfl _ λh7 f7=>ak.ex (rS (nU 0 (gn V (dH.lC σ x.now) x).e) none 0) ⟨rfl,?_⟩
  exact e' h7 (nU 0 (gn V (dH.lC σ x.now) x).e) none 0 f7 (by unfold fY;rw[af B,af C,ae c1]) Ask.Rw.nil
theorem KP(x:rq)(hk: gL h R (.tuple #[ak.S.z.agg,.I 6])):Cl 20 #[.pointer none,(x.s p c q d).agg] h R:=by
 refine oN.nil.walk (aP.cM (x:=x.s p c q d) λb j E m f1=>ak.cM (x:=.z) λb1 l i a f2=>qF.nil.walk ⟨_,rfl,?_⟩);rw[fK];exact wY a λG F=>hk G (f1.tt (f2.fresh F (λy e=>ag)))

end EI
end
section
namespace EI
open iW (Ev kz)
open dH (SS Good Pt ps Mk Bk)
open Go.Proofs.YtlenamcfacpheaaGreatDoor.Ask (En rS Rw Bx x3 B0 nU IT)
open Bn (kJ jG iS lh)
open Go.fT (RD)
variable {V:cD→Bool} {h h' H f g:ai} {R:fp} {s k c d:Nat} {X a:Ft} {I:ps} {σ:SS} {p q:cy} {x:rq} {L:List (Nat × ak.S)}
theorem B1{K:Int->Nat->ai->Prop}(E:En V H h s X I σ k)(u:k+3<=30000)(x:rq)(y:Rw h X p x.jb.kO)(j:x.jb.kO.length<=c)(l:Rw h X q x.data)(C:x.data.length<=d)(w1:0<=x.jb.ep.gk)(w2:0<=x.jb.dest.gk)(B:Bx h X L)(o: ∀h' a b q' D,En V H h' s a I (fY V σ x).σ (k+3)->Bx h' a ((b,rS (fY V σ x).y q' D)::L)->bm X h a h'->K (fY V σ x).e b h'):
  Cl 20 #[pt s,(x.s p c q d).agg] h λv g=>ak.EX λt=> ∃e,v=.tuple #[t.agg,.I e]/\aQ g (.cells ak.S.z.arr 44) λb G=>ak.cX G (AA b 0) t λm=>K e b m:=by
 refine NK E u x y j l C w1 w2 λA i q' D E2 S row=>ak.ex (rS (fY V σ x).y q' D) ⟨_,rfl,ak.ft (x:=rS (fY V σ x).y q' D) λb n z r f3=> ?_⟩
 refine o n i b q' D (E2.on f3) (λe he=> ?_) (S.on f3);rcases bH.1 he with rfl|he
 .exact⟨r,λw=>bY (E2.H.lt b (.inl w))⟩
 .exact((B.step S).on f3) e he
abbrev ev(now:Nat)(kind:Int)(token:Nat)(data:cD):rq:=⟨now,kind,token,0,Rq.none,data⟩
theorem Py:Rw h X none []:=Ask.Rw.nil
def dX:cD:= [159,136,7,0,0,130,1,0,130,1,0,130,1,0,130,0,0,0,133,1,1,0,0,65,120,255]
def Sv:kJ:=⟨⟨0,0,.zero,.zero,⟨.zero,0,0⟩,0⟩, [⟨1,1,0,0, [120]⟩]⟩
theorem UH:iS V Sv=some dX:=dj
def V0:cD->Bool:=λ_=>true
def s1:SS:=(fY V0 (dH.Kt Ask.IT) (ev 3 1 5 [])).σ
def s2:SS:=(fY V0 s1 (ev 4 5 0 dX)).σ
def s4:SS:=(fY V0 s2 (ev 9 8 0 [])).σ
theorem a1:fY V (dH.Kt Ask.IT) (ev 3 1 5 [])=⟨s1,0,⟨0,0,1,0,5, []⟩⟩:=dj
theorem a2:fY V s1 (ev 4 5 0 dX)=⟨s2,0,nU 0 4⟩:=dj
theorem a3:fY V s2 (ev 3 7 0 [])=⟨s2,18,RD.zero⟩:=dj
theorem a4:fY V s2 (ev 9 8 0 [])=⟨s4,0,RD.zero⟩:=dj
theorem a5:fY V s4 (ev 8 7 0 [])=⟨s4,18,RD.zero⟩:=dj
theorem a6:s4.rf=1/\s4.now=9:=⟨dj,dj⟩
theorem NL(hk: ∀h' B,ax.fi h' B (lh.s ⟨1,1,0,0, [120]⟩ p c)->Fr No h h'->R (Sv.s (Sa B 0) 1).agg h'):Cl 59 #[.slice p 1 c] h R:=by
 refine Fs.walk (aq.cM (x:=.z) λb f E i f1=>ax.cM (x:=lh.s ⟨1,1,0,0, [120]⟩ p c) λb1 n m l f2=>aq.gy (x:=Sv.s (Sa b1 0) 1) (f2.get i id) λj d3 f3 _=>aq.ff d3 ?_);have Z:=aD i;have z:=f1.1;exact hk j b1 (f3.get l ag) ((f1.tt f2).fresh f3 (λy e=>ag))
theorem QS{n:Nat}(E:En V H h s X I s2 k)(C:k+6<=30000)(u:h[n]? =some (.cells #[.U 9,.I 8,.U 0,.I 0,.U 0,.I 0,.bool false,.U 0,.U 0,.string fU,.string fU,.bool false,.U 0,.U 0,.string fU,.string fU,.I 0,.I 0,.I 0,.Z,.U 0,.U 0,.bool false,.Z,.U 8,.I 7,.U 0,.I 0,.U 0,.I 0,.bool false,.U 0,.U 0,.string fU,.string fU,.bool false,.U 0,.U 0,.string fU,.string fU,.I 0,.I 0,.I 0,.Z,.U 0,.U 0,.bool false,.Z] 56 (0,0)))(N: ¬X.M n)(B:Bx h X L)(hk: ∀h' a,En V H h' s a I s4 (k+6)->Bx h' a L->R (.tuple #[.I 1,.I 18]) h'):Cl 60 #[pt s,.slice (Sa n 0) 2 2] h R:=by
 refine AU.walk ⟨λt g=>(t=0/\∃a,En V H g s a I s2 k/\Bx g a L/\bm X h a g)\/(t=1/\∃a,En V H g s a I s4 (k+3)/\Bx g a L/\bm X h a g),λt _=>2 - t.toNat,.inl ⟨rfl,X,E,B,bm.refl _ _⟩,?_⟩;rintro t g (⟨rfl,v,E1,j,st1⟩|⟨rfl,v,E1,j,st1⟩)
 .have b:=st1.fr.get u N;rw[fK];refine⟨di,aw.2 ⟨_,ar b,_,ar b,_,ar b,_,ar b,_,ar b,_,ar b,_,ar b,_,ar b,_,ar b,_,ar b,_,ar b,_,ar b,_,ar b,_,ar b,_,ar b,_,ar b,_,ar b,_,ar b,_,ar b,_,_,_,ar b,_,ar b,_,ar b,_,ar b,_,_,_,ar b,?_⟩⟩;refine aP.ft (x:=(ev 9 8 0 []).s none 0 none 0) λw A z o f2=>aP.ff (x:=(ev 9 8 0 []).s none 0 none 0) o ?_
  refine B1 (x:=ev 9 8 0 []) (E1.on f2) ag Py (bk _) Py (bk _) di di (j.on f2) λG m y q3 d3 i l S=> ?_
  rw[a4]at i;rw[a4,dc];exact⟨.inr ⟨rfl,m,i,λe r=>l e (bZ _ r),(st1.on f2).trans S⟩,by show 2 - (IntKind.wrap .i64 (0+1)).toNat<2 - (0:Int).toNat;decide⟩
 .have b:=st1.fr.get u N;rw[fK];refine⟨di,aw.2 ⟨_,ar b,_,ar b,_,ar b,_,ar b,_,ar b,_,ar b,_,ar b,_,ar b,_,ar b,_,ar b,_,ar b,_,ar b,_,ar b,_,ar b,_,ar b,_,ar b,_,ar b,_,ar b,_,ar b,_,_,_,ar b,_,ar b,_,ar b,_,ar b,_,_,_,ar b,?_⟩⟩;refine aP.ft (x:=(ev 8 7 0 []).s none 0 none 0) λw A z o f2=>aP.ff (x:=(ev 8 7 0 []).s none 0 none 0) o ?_
  refine B1 (x:=ev 8 7 0 []) (E1.on f2) ag Py (bk _) Py (bk _) di di (j.on f2) λG m y q3 d3 i l S=> ?_
  rw[a5]at i;rw[a5,fK];exact hk G m i λe r=>l e (bZ _ r)
theorem Fx(U:Cb.ke V H)(mx:oT.Mx H)(u:Fr No H h)(hk: gL h R (.bool true)):Cl 19 #[] h R:=by
 refine Fw.walk (x3 λf f1=>ay.ex IT.s ⟨rfl,dH.iT IT (λ_ h2 s X I M u2=>⟨_,_,rfl,aG.of λb' S=> ?_⟩) (λn=>absurd B0 n)⟩);have E2:=Ask.En.NG (U.mono u) (mx.on u) f1 M u2;rw[dc];subst S;dsimp only;rw[ae bP];refine B1 (x:=ev 3 1 5 []) (p:=none) (c:=0) (q:=none) (d:=0) E2 ag Py (bk _) Py (bk _) di di (L:= []) (λe Y=>by cases Y) λh3 X3 b3 q3 d3 r j g'=> ?_
 rw[a1]at r j;rw[a1];dsimp only at r j⊢;refine kK.Ql (bs:= [120]) rfl λh4 a' f4=>NL λh5 N W f5=>aq.ex (Sv.s (Sa N 0) 1) ⟨rfl,?_⟩
 have E:=r.on (f4.tt f5);have D:=j.on (f4.tt f5);refine Bn.xV (b:=Sv) ⟨di,di,di⟩ E.U E.u.fr E.P2 (Ask.Sj W (a'.frame f5 cb) di) di (λb T=>by rw[bN.1 T];decide) (λout A hl h6 p6 P O n6 f6=>⟨_,_,_,_,rfl,?_⟩) (λy=>by rw[UH]at y;cases y);rw[UH]at A;cases A;have K:=E.on f6;have G:=D.on f6;refine B1 (x:=ev 4 5 0 dX) (p:=none) (c:=0) (q:=p6) (d:=P) K ag Py (bk _) ⟨O.iw,λ_ z Z v=>hY (n6 z Z) (E.H.lt z (.inl v))⟩ O.le di di G λh7 X7 b7 q7 d7 t l Ha=> ?_
 rw[a2]at t l;rw[a2];dsimp only at t l⊢;refine B1 (x:=ev 3 7 0 []) (p:=none) (c:=0) (q:=none) (d:=0) t ag Py (bk _) Py (bk _) di di l λh8 X8 b8 q8 d8 i m i'=> ?_
 rw[a3]at i m;rw[a3];dsimp only at i m⊢;refine KP (p:=none) (c:=0) (q:=none) (d:=0) (ev 0 7 0 []) λh9 f9=>ak.ex .z ⟨_,rfl,ak.ft (x:=.z) λd' w e' f' f10=>cF ?_⟩
 have f11:Fr No w (w.push (.cells #[.U 9,.I 8,.U 0,.I 0,.U 0,.I 0,.bool false,.U 0,.U 0,.string fU,.string fU,.bool false,.U 0,.U 0,.string fU,.string fU,.I 0,.I 0,.I 0,.Z,.U 0,.U 0,.bool false,.Z,.U 8,.I 7,.U 0,.I 0,.U 0,.I 0,.bool false,.U 0,.U 0,.string fU,.string fU,.bool false,.U 0,.U 0,.string fU,.string fU,.I 0,.I 0,.I 0,.Z,.U 0,.U 0,.bool false,.Z] 56)):=Fr.push _ _;have F:=(f9.tt f10).tt f11;have J:=i.on F;have C:=m.on F;refine QS J ag bV (λv=>hY (i.H.lt _ (.inl v)) ((f9.tt f10).1)) C λQ c' o B=>⟨_,_,rfl,?_⟩
 refine⟨_,ar (B.nth 2 rfl),?_⟩;rw[af (by rfl)];refine⟨_,ar (B.nth 2 rfl),?_⟩;rw[af (by rfl),af (by rfl)];refine⟨_,ar (B.nth 1 rfl),?_⟩;rw[af (by rfl),af (by rfl)];refine aw.2 ⟨_,ar o.H.cT,?_⟩;rw[af (by rw[a6.1];rfl),af (by rfl),af (by rfl),af (by rfl),af (by rfl)];refine aw.2 ⟨_,ar o.H.cT,?_⟩;rw[a6.2];exact hk Q o.u.fr

end EI
end
section
namespace EI
open iW (Ev kz)
open dH (SS Good Pt ps Mk Bk)
open Go.Proofs.YtlenamcfacpheaaGreatDoor.Ask (En rS Rw Bx x3 B0 nU IT)
open Go.fT (RD)
variable {V:cD→Bool} {h h' H g:ai} {R:fp} {s k c d:Nat} {X t:Ft} {I:ps} {σ:SS} {p q:cy} {x:rq} {L:List (Nat × ak.S)}
variable {v:Value}
structure EV where
 x:rq
 p:cy
 c:Nat
 q:cy
 d:Nat
abbrev EV.cs(f:EV):aP.S:=f.x.s f.p f.c f.q f.d
abbrev KQ(f:EV):List Value:=f.cs.l
theorem NM(f:EV):(KQ f).length=24:=rfl
structure EV.ok (h:ai) (f:EV):Prop where
 r1:Row h f.p (bc f.x.jb.kO)
 c1:f.x.jb.kO.length<=f.c
 r2:Row h f.q (bc f.x.data)
 c2:f.x.data.length<=f.d
 w1:0<=f.x.jb.ep.gk
 w2:0<=f.x.jb.dest.gk
theorem Sw:tn Tryz.prog 8 56=some [27,3,27,3,27,3,4,27,27,9,9,4,27,27,9,9,3,3,3,22,27,27,4,22]:=dj
theorem pf.NN{n:Nat}(b:pf Tryz.prog h n 22 [v]): ∃p c bs,v=.slice p (bs:cD).length c/\Row h p (bc bs)/\bs.length<=c:=by
 obtain⟨p,c,bs,rfl,i⟩:=pf.bytes dj kK.u8 kK.uU b;refine⟨p,c,bs,rfl,i,?_⟩;cases n with
 |zero=>exact b.elim
 |succ n=>
  unfold pf at b;rw[kK.uU]at b;rcases b with f|⟨a,l,c',f,H,_⟩
  .injection f with e _
   injection e with e1 e2 E
   omega
  .injection f with e _
   injection e with e1 e2 E
   omega
theorem Pz{m:Nat}(a:pf Tryz.prog h m 9 [v]): ∃s,v=.string s:=by
 cases m with
 |zero=>exact a.elim
 |succ m=>
  unfold pf at a;rw[show Tryz.prog.underlying 9=some .string by kernel_rfl]at a;obtain⟨s,e,_⟩:=a;exact⟨s,cA e⟩
theorem QT(n:Nat)(cs:List Value)(a:cs.length=24)(l:pf Tryz.prog h n 56 cs): ∃f:EV,cs=KQ f/\f.ok h:=by
 have L:=yx 8 n _ _ cs Sw (by rw[a];rfl) l
 match cs,a with
 | [v0,v1,v2,v3,v4,v5,v6,v7,v8,v9,b',c',d',e',f',g',i',j',k',l',m',n',o',p'],_=>
  obtain⟨K,rfl,w0⟩:=L.int 0 rfl rfl (k:=.u64) dj;obtain⟨m,rfl,_⟩:=L.int 1 rfl rfl (k:=.i64) dj;obtain⟨b,rfl,w2⟩:=L.int 2 rfl rfl (k:=.u64) dj;obtain⟨F,rfl,_⟩:=L.int 3 rfl rfl (k:=.i64) dj;obtain⟨j,rfl,w4⟩:=L.int 4 rfl rfl (k:=.u64) dj;obtain⟨G,rfl,_⟩:=L.int 5 rfl rfl (k:=.i64) dj;obtain⟨J,rfl⟩:=L.bool 6 rfl rfl dj;obtain⟨M,rfl,_⟩:=L.int 7 rfl rfl (k:=.u64) dj;obtain⟨N,rfl,w8⟩:=L.int 8 rfl rfl (k:=.u64) dj;obtain⟨_,W⟩:=L.get 9 rfl rfl;obtain⟨O,rfl⟩:=Pz W;obtain⟨_,P⟩:=L.get 10 rfl rfl;obtain⟨o,rfl⟩:=Pz P;obtain⟨r,rfl⟩:=L.bool 11 rfl rfl dj;obtain⟨u,rfl,_⟩:=L.int 12 rfl rfl (k:=.u64) dj;obtain⟨w,rfl,Y⟩:=L.int 13 rfl rfl (k:=.u64) dj;obtain⟨_,Q⟩:=L.get 14 rfl rfl;obtain⟨y,rfl⟩:=Pz Q;obtain⟨_,S⟩:=L.get 15 rfl rfl;obtain⟨z,rfl⟩:=Pz S;obtain⟨A,rfl,_⟩:=L.int 16 rfl rfl (k:=.i64) dj;obtain⟨C,rfl,_⟩:=L.int 17 rfl rfl (k:=.i64) dj;obtain⟨D,rfl,_⟩:=L.int 18 rfl rfl (k:=.i64) dj;obtain⟨_,T⟩:=L.get 19 rfl rfl;obtain⟨p,c,b1,rfl,r1,c1⟩:=pf.NN T;obtain⟨e,rfl,Z⟩:=L.int 20 rfl rfl (k:=.u64) dj;obtain⟨i,rfl,a'⟩:=L.int 21 rfl rfl (k:=.u64) dj;obtain⟨E,rfl⟩:=L.bool 22 rfl rfl dj;obtain⟨_,U⟩:=L.get 23 rfl rfl;obtain⟨q,d,B,rfl,r2,c2⟩:=pf.NN U;obtain⟨K,rfl⟩:=dP (wf_u64 w0).1;obtain⟨b,rfl⟩:=dP (wf_u64 w2).1;obtain⟨j,rfl⟩:=dP (wf_u64 w4).1;obtain⟨e,rfl⟩:=dP (wf_u64 Z).1;obtain⟨i,rfl⟩:=dP (wf_u64 a').1;exact⟨⟨⟨K,m,b,F,⟨j,G,⟨J,M,N,O,o⟩,⟨r,u,w,y,z⟩,A,C,D,b1,e,i,E⟩,B⟩,p,c,q,d⟩,rfl,⟨r1,c1,r2,c2,(wf_u64 w8).1,(wf_u64 Y).1⟩⟩
theorem NO{l:Nat}(m:pP Tryz.prog h 53 (.slice p l c)): ∃fs:List EV,fs.length=l/\Row h p (fs.flatMap KQ)/\∀f∈fs,f.ok h:=by
 obtain⟨xs,H,_,_,a,b⟩:=pP.slice (e:=56) KQ 24 (λf=>f.ok h) dj (λ_=>rfl) (λn cs i j=>QT n cs i j) dj m;exact⟨xs,H,a,b⟩
theorem NP(f:EV)(hk: ∀h' b,Fr No h h'->R (.bool b) h'):Cl 18 #[f.cs.agg] h R:=by
 refine Fv.walk (aP.cM (x:=f.cs) λb H m i f1=>JQ i (Fu.walk (aE.cM (x:=f.x.jb.s f.p f.c) λB a n e f2=>⟨_,_,_,ar e,?_⟩)));have F:=f1.tt f2;have E: ∀v:Bool,∃t5,Value.bool v=.bool t5/\if t5=true then R (.bool true) a else∃l T j,bg a (AA b 23)=some (.slice l T j)/\R (.bool (decide (((T:Nat):Int)>1300))) a:=by
  intro v;refine⟨v,rfl,?_⟩;split
  .exact hk a _ F
  .exact⟨_,_,_,ar (f2.get i id),hk a _ F⟩
 split
 .exact E _
 .exact⟨_,ar e,_,ar e,_,ar e,_,ar e,E _⟩
theorem _root_.Go.Proofs.YtlenamcfacpheaaGreatDoor.arriveCounts_ok(O:cy)(ll lc:Nat)(B:pP Tryz.prog h 53 (.slice O ll lc))(ut: ∃V,Cb.ke V h)(mx:oT.Mx h):Ll Tryz.prog 4 #[.slice O ll lc] h:=by
 obtain⟨fs,rfl,row,j'⟩:=NO B;obtain⟨V,U⟩:=ut;clear B;unfold Ll;generalize hR:(λ(v:Value) h'=>v=.bool true/\Fr No h h')=R;have hk: ∀h',Fr No h h'->R (.bool true) h':=λh' D=>by rw[<-hR];exact⟨rfl,D⟩
 clear hR;refine sQ.walk (x3 λH f1=>ay.ex IT.s ⟨rfl,dH.iT IT (λ_ h2 s X I Y u2=>⟨_,_,rfl,aG.of λl' hJ=> ?_⟩) (λn=>absurd B0 n)⟩);have E2:=Ask.En.NG U mx f1 Y u2;rw[dc,ae bP];refine aw.2 ⟨_,ar Y.cT,?_⟩;subst hJ;dsimp only;rw[ae bP];refine⟨λQ rf i g=> ∃(j:Nat)(t:Ft)(σ:SS),i=(j:Int)/\j<=fs.length/\j<=50/\En V h g s t I σ (3*j)/\Q=(σ.C.next:Int) - 1/\rf=(σ.rf:Int),λ_ _ i _=>51 - i.toNat,⟨0,X,_,rfl,bG _,bG _,E2,rfl,rfl⟩,?_⟩;rintro _ _ _ g ⟨j,X1,σ,rfl,hj,n',E,rfl,rfl⟩;refine aG.of λJ1 a'=> ?_
 have out:J1 false g:=by
  subst a';dsimp only;rw[dc];exact Fx U mx E.u.fr λC f3=>⟨_,rfl,hk C (E.u.fr.tt f3)⟩
 by_cases hl:j<fs.length
 case neg=>rw[dc];exact out
 rw[fK];by_cases h5:j<50
 case neg=>rw[az ag];exact out
 rw[av ag];clear out;subst a';dsimp only;rw[af rfl];obtain⟨f,D⟩: ∃f,fs[j]? =some f:=⟨_,aj hl⟩;have F:=j' f (bn D);obtain⟨a,rfl⟩: ∃a,O=some a:=row.some (λe=>by
  have:=bU List.length e;rw[eU KQ 24 (λ_=>rfl)]at this;simp at this;omega)
 have P: ∀G,Fr No h G->dI (a.add (j*24)) (KQ f) 0 G:=λG fg=>(row.frame fg cb).gJ NM D
 refine⟨ag,aw.2 (aP.ko (x:=f.cs) (P g E.u.fr) (NP f λC v f3=>⟨_,rfl,?_⟩))⟩;have y:=E.on f3;cases v with
 |true=>
  rw[af rfl];exact Fx U mx y.u.fr λA f4=>⟨_,rfl,hk A (y.u.fr.tt f4)⟩
 |false=>
 rw[dc];have e': ∀{pp:cy}{dd:cD},Row h pp (bc dd)->Rw C X1 pp dd:=λr=>⟨r.frame y.u.fr cb,λhd z K hm=>by
  have:=jr r (by simpa[bc]using hd) K;have:=y.u.ge z (.inl hm);omega⟩
 refine⟨ag,aw.2 (aP.ko (x:=f.cs) (P C y.u.fr) (B1 (x:=f.x) y ag (e' F.r1) F.c1 (e' F.r2) F.c2 F.w1 F.w2 (L:= []) (λe he=>by cases he) λA X4 b4 q4 d4 l T o'=>aG.of λJ2 f'=> ?_))⟩;have cn:=NA (V:=V) (σ:=σ) (x:=f.x) (bY E.G.c.ok.uo);generalize fY V σ f.x=o at l T cn⊢;have J:=T.nth 0 rfl;have k':=E.G.small E.H.ord ag;have n0:=k'.n;have r0:=E.G.r;have key: ∀v:Bool,(v=true↔o.e=0/\f.x.kind=5)->J2 v A:=by
  intro v B;subst f';dsimp only;refine aG.of λJ3 b'=> ?_
  have N: ∀Q rf:Int,Q=(o.σ.C.next:Int) - 1->rf=(o.σ.rf:Int)->J3 Q rf A:=by
   rintro _ _ rfl rfl;subst b';dsimp only;obtain⟨Z,K,_⟩:=l.H.use 2;have S:=l.G.small l.H.ord ag;refine aw.2 ⟨_,ar l.H.cT,fM.Kk K S λh5 f5=>⟨_,_,_,_,_,_,rfl,gD.new λb6 h6 m' m f6=>aG.of λJ4 g'=> ?_⟩⟩;have W:=l.on (f5.tt f6);have uo:=l.G.c.ok.uo;have n1:=S.n;have n2:=S.l;have n3:=S.e2;refine⟨di,_,ar m,?_⟩;rw[ae bP];refine aw.2 ⟨_,ar W.H.cT,?_⟩;rw[ae bP];refine⟨di,_,ar m,di,_,ar m,di,_,ar m,di,_,ar m,di,_,ar m,di,_,ar m,?_⟩;have w1: ∀n:Int, -9223372036854775808<=n->n<=9223372036854775807->IntKind.wrap .i64 n=n:=λn a b=>bD a b
   rw[w1 (((o.σ.C.L.length:Int) - (o.σ.C.E2.length:Int))+(o.σ.C.E2.length:Int)) ag ag,w1 (((o.σ.C.L.length:Int) - (o.σ.C.E2.length:Int))+(o.σ.C.E2.length:Int)+(o.σ.C.fQ:Int)) ag ag,w1 (((o.σ.C.L.length:Int) - (o.σ.C.E2.length:Int))+(o.σ.C.E2.length:Int)+(o.σ.C.fQ:Int)+(o.σ.C.over:Int)) ag ag,w1 (((o.σ.C.L.length:Int) - (o.σ.C.E2.length:Int))+(o.σ.C.E2.length:Int)+(o.σ.C.fQ:Int)+(o.σ.C.over:Int)+(o.σ.C.gone:Int)) ag ag];have e0: ∀u w:Int,u=w->(u !=w)=false:=λu w e=>by rw[e];simp
   rw[e0 _ _ ag];subst g';dsimp only;rw[dc,w1 _ ag ag];exact⟨⟨j+1,X4,o.σ,rfl,ag,ag,W,rfl,rfl⟩,by show 51 - ((j:Int)+1).toNat<51 - (j:Int).toNat;omega⟩
  clear b';cases v with
  |false=>
   rw[dc];unfold SH at cn;rw[ae (λe=>by have:=B.2 e;cases this)]at cn;have c1:o.σ.C.next=σ.C.next:=bU Prod.fst cn;have c2:o.σ.rf=σ.rf:=bU Prod.snd cn;exact N _ _ (by rw[c1]) (by rw[c2])
  |true=>
   rw[af rfl];unfold SH at cn;rw[af (B.1 rfl)]at cn;refine aG.of λJ5 i'=>⟨_,ar J,aG.of λJ6 c'=> ?_⟩
   have M: ∀Q rf:Int,Q=(o.σ.C.next:Int) - 1->rf=(o.σ.rf:Int)->J6 Q rf A:=λQ rf a b=>by
    subst c';subst i';exact N Q rf a b
   clear c' N;have w1: ∀n:Int, -9223372036854775808<=n->n<=9223372036854775807->IntKind.wrap .i64 n=n:=λn a b=>bD a b
   by_cases c1:o.y.err=0
   case neg=>
    rw[af c1]at cn;rw[af (cA c1),w1 _ ag ag];exact M _ _ (by rw[cn.1]) ag
   rw[ae (λe=>e c1)]at cn;rw[ae (cA c1)];refine⟨_,ar J,aG.of λJ7 d'=> ?_⟩;by_cases c2:o.y.num>0
   .rw[af c2]at cn;rw[af (av c2)];refine⟨_,ar J,?_⟩;rw[w1 _ ag ag];rw[ae (by have:=cn.2.2;simp only[cU,en,Decidable.not_not];show o.y.num=_;omega)];subst d';exact M _ _ ag ag
   .rw[ae c2]at cn;rw[ae (cA c2)];subst d';exact M _ _ ag ag
 by_cases c1:o.e=0
 .rw[af (cA c1)];have hc:=jA.1 (P A l.u.fr) 1 (.I f.x.kind) rfl;refine⟨ag,aw.2 ⟨f.x.kind,?_,key (f.x.kind==5) (by simp[c1])⟩⟩;exact hc
 .rw[ae (cA c1)];exact key false (by simp[c1])

end EI
end
theorem AW{H:Type}{enc:TypeId×Value->H}{C:Checked}{o:Os}{f:FuncId}{F:Func}{s:ChangeSpec}{d:List PathCond}{apart fresh k A:Bool}{a:Assume}{X:World->Array Value->Prop}(m: ∀(w w':World)(args:Array Value),w.heap=w'.heap->X w args->X w' args)(own:ownKnob C.prog.godebug=none)(u:o.Started)(N:C.prog.inits.idxOf? f=none)(n:C.prog.funcs[f]? =some F)(x: ∃(w:World)(T:Tape)(i:Input),w.os=o/\(w.forCall T i).Shaped C.prog/\i.vars= []/\Input.okWide C.prog (w.forCall T i) .any w.heap.size f i/\
   ((s.pre enc C.prog F d apart (w.forCall T i).memory i.args/\X (w.forCall T i).memory i.args)/\sizedMet enc C.prog F (OpenSpec.ofChange s) apart (w.forCall T i).memory i.args)/\a.holds C.prog (lone (Frame.enter C.prog f i.args .normal) [] (w.forCall T i)))(l: ∀(W:World)(B:Nat)(args:Array Value)(ds G:List (DataW H))(b:List MemPlace),W.ShapedOpen C.prog->(∀(j:Nat) t v,F.params[j]? =some t->args[j]? =some v->Value.okWide C.prog W .any B t v)->
   DataW.Whole enc C.prog F.params.toList s.vars apart W args.toList ds G b->X W args->Calls C.prog f args W λe c=> ∃v,e=.returned v/\s.post enc C.prog F apart fresh k A W args v c):
  ReturnsInHanded a C o f .any (λw args=>(s.pre enc C.prog F d apart w args/\X w args)/\sizedMet enc C.prog F (OpenSpec.ofChange s) apart w args) (s.post enc C.prog F apart fresh k A):=
 returnsInHanded_of_calls own u N x λw T i _ S _ ok pre _=>by
  obtain⟨_,_,_,g,p,_,_,_,_,val⟩:=ok;cases aX (p.symm.trans n);obtain⟨⟨⟨ds,G,b,q,_⟩,r⟩,_⟩:=pre;refine(l (w.forCall T i) w.heap.size i.args ds G b S val (DataW.Whole.of_heap (w':=w.forCall T i) (by rfl) q) (m _ _ _ (by rfl) r)).mono λe c h=> ?_
  obtain⟨v,rfl,h⟩:=h;exact ChangeSpec.post_blind h
theorem oT.Mx.KR{W:World}(h:W.ShapedOpen Tryz.prog):oT.Mx W.heap:=by
 obtain⟨m,H⟩:=cell_of_shapedOpen_int (g:=5) (t:=3) (zero:= #[.I 0]) (k:=.i64) h (aU dj) dj rfl dj dj dj;rw[ks]at H;exact⟨m,H⟩

section
variable {h:ai} {R:fp}
theorem mV.walk{S:cy}{s i:Nat} (H:Bd 0 s/\aL S λa=>HL h (a.add (toNat 0*1)) λt27=>Bd 1 s/\aL S λA=>HL h (A.add (toNat 1*1)) λt31=>Bd 2 s/\aL S λb=>HL h (b.add (toNat 2*1)) λt37=>Bd 3 s/\aL S λc=>HL h (c.add (toNat 3*1)) λt43=>Bd 4 s/\aL S λd=>HL h (d.add (toNat 4*1)) λt49=>Bd 5 s/\aL S λe=>HL h (e.add (toNat 5*1)) λt55=>Bd 6 s/\aL S λf=>HL h (f.add (toNat 6*1)) λt61=>Bd 7 s/\aL S λg=> ∃t67,bg h (g.add (toNat 7*1))=some (.int .u8 t67)/\R (.U (wrap .u64 ((mr (wrap .u64 ((mr (wrap .u64 ((mr (wrap .u64 ((mr (wrap .u64 ((mr (wrap .u64 ((mr (wrap .u64 ((mr (wrap .u64 t27)|||mr (wrap .u64 ((wrap .u64 t31)*2 ^ min (toNat 8) (IntKind.bits .u64)))).toNat:Int))|||mr (wrap .u64 ((wrap .u64 t37)*2 ^ min (toNat 16) (IntKind.bits .u64)))).toNat:Int))|||mr (wrap .u64 ((wrap .u64 t43)*2 ^ min (toNat 24) (IntKind.bits .u64)))).toNat:Int))|||mr (wrap .u64 ((wrap .u64 t49)*2 ^ min (toNat 32) (IntKind.bits .u64)))).toNat:Int))|||mr (wrap .u64 ((wrap .u64 t55)*2 ^ min (toNat 40) (IntKind.bits .u64)))).toNat:Int))|||mr (wrap .u64 ((wrap .u64 t61)*2 ^ min (toNat 48) (IntKind.bits .u64)))).toNat:Int))|||mr (wrap .u64 ((wrap .u64 t67)*2 ^ min (toNat 56) (IntKind.bits .u64)))).toNat:Int))) h):Cl 324 #[.slice S s i] h R:=aO (lq (sq (cq (sq (pN 23) lf) lf) (sq (pN 47) lf))) Tryz.func324 H
theorem sR.walk{L:cy}{g F:Nat} (hv:((0:Int)<=(g:Int)/\(g:Int)<=(F:Int))/\((0:Int)<=(g:Int)/\(g:Int)<=(g:Int))/\∃(I:cy->Nat->Nat->ai->Prop)(M:cy->Nat->Nat->ai->Nat),I (cO L (toNat (g:Int)) 0 1) (toNat (g:Int)) (toNat (g:Int)) h/\∀(c:cy)(p P:Nat)(f:ai),I c p P f->if(decide ((p:Int)>0))then aG (λ(N:cy) (K G:Nat) (z:ai)=>(I N K G z/\M N K G z<M c p P f)) (λJ=>Bd 0 p/\aL c λa=> ∃t18,bg f (a.add (toNat 0*1))=some (.int .u8 t18)/\if(decide (t18<128))then((0:Int)<=1/\1<=(p:Int))/\aG (λ(t31:Bool) (o:ai)=>aG (λ(D':cy) (y' t':Nat) (q':ai)=>J D' y' t' q') (λs=>if t31 then((0:Int)<=8/\8<=((p - (toNat 1):Nat):Int))/\aG (λ(t46:Bool) (D:ai)=>aG (λ(E':cy) (z' u':Nat) (r':ai)=>s E' z' u' r') (λu=>if t46 then((0:Int)<=16/\16<=(((p - (toNat 1)) - (toNat 8):Nat):Int))/\∃(m:cy->Nat->Nat->ai->Prop)(E:cy->Nat->Nat->ai->Nat),m (cO (cO (cO c P (toNat 1) 1) (P - (toNat 1)) (toNat 8) 1) ((P - (toNat 1)) - (toNat 8)) (toNat 16) 1) (((p - (toNat 1)) - (toNat 8)) - (toNat 16)) (((P - (toNat 1)) - (toNat 8)) - (toNat 16)) D/\∀(i:cy)(e d:Nat)(l:ai),m i e d l->aG (λ(t69:Bool) (q:ai)=>if t69 then((0:Int)<=32/\32<=(e:Int))/\(m (cO i d (toNat 32) 1) (e - (toNat 32)) (d - (toNat 32)) q/\E (cO i d (toNat 32) 1) (e - (toNat 32)) (d - (toNat 32)) q<E i e d l)else u i e d q) (λw=>if(decide ((e:Int)>32))then((0:Int)<=8/\8<=(e:Int))/\((0:Int)<=16/\16<=(e:Int))/\((0:Int)<=24/\24<=(e:Int))/\Cl 324 #[.slice i e d] l λv s'=>Vu v λt54=>Cl 324 #[.slice (cO i d (toNat 8) 1) (e - (toNat 8)) (d - (toNat 8))] s' λI' f'=>Vu I' λt57=>Cl 324 #[.slice (cO i d (toNat 16) 1) (e - (toNat 16)) (d - (toNat 16))] f' λJ' g'=>Vu J' λt61=>Cl 324 #[.slice (cO i d (toNat 24) 1) (e - (toNat 24)) (d - (toNat 24))] g' λK' h'=> ∃t64,K'=.U t64/\w ((wrap .u64 ((mr (wrap .u64 ((mr (wrap .u64 ((mr t54|||mr t57).toNat:Int))|||mr (wrap .u64 ((mr t61|||mr t64).toNat:Int))).toNat:Int)) &&& mr 9259542123273814144).toNat:Int))==0) h' else w false l)else u (cO (cO c P (toNat 1) 1) (P - (toNat 1)) (toNat 8) 1) ((p - (toNat 1)) - (toNat 8)) ((P - (toNat 1)) - (toNat 8)) D)) (λt=>if(decide ((((p - (toNat 1)) - (toNat 8):Nat):Int)>16))then((0:Int)<=8/\8<=(((p - (toNat 1)) - (toNat 8):Nat):Int))/\Cl 324 #[.slice (cO (cO c P (toNat 1) 1) (P - (toNat 1)) (toNat 8) 1) ((p - (toNat 1)) - (toNat 8)) ((P - (toNat 1)) - (toNat 8))] o λL' i'=>Vu L' λt39=>Cl 324 #[.slice (cO (cO (cO c P (toNat 1) 1) (P - (toNat 1)) (toNat 8) 1) ((P - (toNat 1)) - (toNat 8)) (toNat 8) 1) (((p - (toNat 1)) - (toNat 8)) - (toNat 8)) (((P - (toNat 1)) - (toNat 8)) - (toNat 8))] i' λM' j'=> ∃t42,M'=.U t42/\t ((wrap .u64 ((mr (wrap .u64 ((mr t39|||mr t42).toNat:Int)) &&& mr 9259542123273814144).toNat:Int))==0) j' else t false o)else s (cO c P (toNat 1) 1) (p - (toNat 1)) (P - (toNat 1)) o)) (λr=>if(decide (((p - (toNat 1):Nat):Int)>8))then Cl 324 #[.slice (cO c P (toNat 1) 1) (p - (toNat 1)) (P - (toNat 1))] f λN' k'=> ∃t28,N'=.U t28/\r ((wrap .u64 ((mr t28 &&& mr 9259542123273814144).toNat:Int))==0) k' else r false f)else Bd t18 256/\HL f (((AA 3 0):Addr).add (toNat t18*1)) λt74=>Bd (Int.fdiv t74 (2 ^ min (toNat 4) (IntKind.bits .u8))) 16/\∃T,bg f (((AA 4 0):Addr).add (toNat (Int.fdiv t74 (2 ^ min (toNat 4) (IntKind.bits .u8)))*2))=some (.int .u8 T)/\∃O,bg f ((((AA 4 0):Addr).add (toNat (Int.fdiv t74 (2 ^ min (toNat 4) (IntKind.bits .u8)))*2)).add 1)=some (.int .u8 O)/\aQ f (.cells #[.int .u8 0,.int .u8 0] 421) λb l'=>aS l' (AA b 0) (.int .u8 T) λm'=>aS m' (AA b 1) (.int .u8 O) λH=>aG (λ(F':cy) (A' v':Nat) (n':ai)=>J F' A' v' n') (λQ=>aG (λ(G':cy) (B' w':Nat) (o':ai)=>Q G' B' w' o') (λx=>if((wrap .i64 (wrap .u8 ((px t74 &&& px 7).toNat:Int)))==2)then aG (λ(t103:Bool) (A:ai)=>if t103 then R (.bool false) A else((0:Int)<=2/\2<=(p:Int))/\x (cO c P (toNat 2) 1) (p - (toNat 2)) (P - (toNat 2)) A) (λn=>if(decide ((p:Int)<2))then n true H else Bd 1 p/\aL c λS=>HL H (S.add (toNat 1*1)) λt91=> ∃t93,Cc H b 0 (.int .u8 t93)/\if(decide (t91<t93))then n true H else Hy H b 1 λt98=>Bd 1 p/\aL c λX=> ∃t101,bg H (X.add (toNat 1*1))=some (.int .u8 t101)/\n (decide (t98<t101)) H)else aG (λ(H':cy) (C' x':Nat) (p':ai)=>x H' C' x' p') (λy=>if((wrap .i64 (wrap .u8 ((px t74 &&& px 7).toNat:Int)))==3)then aG (λ(t138:Bool) (B:ai)=>if t138 then R (.bool false) B else((0:Int)<=3/\3<=(p:Int))/\y (cO c P (toNat 3) 1) (p - (toNat 3)) (P - (toNat 3)) B) (λk=>if(decide ((p:Int)<3))then k true H else Bd 1 p/\aL c λY=>HL H (Y.add (toNat 1*1)) λt114=> ∃t116,Cc H b 0 (.int .u8 t116)/\if(decide (t114<t116))then k true H else Hy H b 1 λt121=>Bd 1 p/\aL c λZ=> ∃t124,bg H (Z.add (toNat 1*1))=some (.int .u8 t124)/\if(decide (t121<t124))then k true H else Bd 2 p/\aL c λa'=> ∃t130,bg H (a'.add (toNat 2*1))=some (.int .u8 t130)/\if(decide (t130<128))then k true H else Bd 2 p/\aL c λb'=> ∃t136,bg H (b'.add (toNat 2*1))=some (.int .u8 t136)/\k (decide (191<t136)) H)else if((wrap .i64 (wrap .u8 ((px t74 &&& px 7).toNat:Int)))==4)then aG (λ(t185:Bool) (C:ai)=>if t185 then R (.bool false) C else((0:Int)<=4/\4<=(p:Int))/\y (cO c P (toNat 4) 1) (p - (toNat 4)) (P - (toNat 4)) C) (λj=>if(decide ((p:Int)<4))then j true H else Bd 1 p/\aL c λc'=>HL H (c'.add (toNat 1*1)) λt149=> ∃t151,Cc H b 0 (.int .u8 t151)/\if(decide (t149<t151))then j true H else Hy H b 1 λt156=>Bd 1 p/\aL c λd'=> ∃t159,bg H (d'.add (toNat 1*1))=some (.int .u8 t159)/\if(decide (t156<t159))then j true H else Bd 2 p/\aL c λe'=> ∃t165,bg H (e'.add (toNat 2*1))=some (.int .u8 t165)/\if(decide (t165<128))then j true H else Bd 2 p/\aL c λU=> ∃t171,bg H (U.add (toNat 2*1))=some (.int .u8 t171)/\if(decide (191<t171))then j true H else Bd 3 p/\aL c λV=> ∃t177,bg H (V.add (toNat 3*1))=some (.int .u8 t177)/\if(decide (t177<128))then j true H else Bd 3 p/\aL c λW=> ∃t183,bg H (W.add (toNat 3*1))=some (.int .u8 t183)/\j (decide (191<t183)) H)else R (.bool false) H))))else R (.bool true) f):Cl 316 #[.slice L g F] h R:=aO (lq (lq (sq (bq (.loop [(0,.one (.slice))] (sq (lq (cq lf lf)) (.join [(0,.one (.slice))] (bq (lq (sq (lq (cq (lq (sq (sq (.join [(31,.one (.bool))] lf) (.join [(0,.one (.slice))] (cq (lq (sq (.join [(46,.one (.bool))] (.iC (.op 0 (.op 1 (.op 2 (.op 3 (.op 4 (.op 6 (.op 7 (.op 5 (.op 8 (.op 9 (.op 10 (.op 11 (.op 12 .done))))))))))))))) (.join [(0,.one (.slice))] (cq (lq (bq (.loop [(0,.one (.slice))] (sq (sq (.join [(69,.one (.bool))] (.iC (.op 0 (.op 1 (.op 2 (.op 3 (.op 4 (.op 6 (.op 7 (.op 10 (.op 11 (.op 13 (.op 14 (.op 5 (.op 8 (.op 9 (.op 12 (.op 15 (.op 16 (.op 17 (.op 18 (.op 19 (.op 20 .done))))))))))))))))))))))) (cq lf lf)) (bq lf))))) lf)))) lf))) lf)) lf)) (lq (lq (lq (lq (.join [(0,.one (.slice))] (bq (lq (.join [(0,.one (.slice))] (cq (sq (sq (.join [(103,.one (.bool))] (pN 19)) (cq ll lf)) lf) (lq (.join [(0,.one (.slice))] (cq (sq (sq (.join [(138,.one (.bool))] (pN 31)) (cq ll lf)) lf) (lq (cq (sq (sq (.join [(185,.one (.bool))] (pN 43)) (cq ll lf)) lf) ll))))))))))))))))))))) ll))) Tryz.func316 hv

end
section
namespace Cb
variable {h H h' g:ai} {R:fp} {p:cy} {l c:Nat} {b bs:cD} {FT A0 A1:Nat→Int}
variable {A B:Prop}
def bI(b:cD)(i:Nat):Int:=((b.getD i 0).toNat:Int)
def Um(a0 a1 a2 a3 a4 a5 a6 a:Int):Int:=(IntKind.wrap .u64 ((BitVec.ofInt (IntKind.bits .u64) (IntKind.wrap .u64 ((BitVec.ofInt (IntKind.bits .u64) (IntKind.wrap .u64 ((BitVec.ofInt (IntKind.bits .u64) (IntKind.wrap .u64 ((BitVec.ofInt (IntKind.bits .u64) (IntKind.wrap .u64 ((BitVec.ofInt (IntKind.bits .u64) (IntKind.wrap .u64 ((BitVec.ofInt (IntKind.bits .u64) (IntKind.wrap .u64 ((BitVec.ofInt (IntKind.bits .u64) (IntKind.wrap .u64 a0)|||BitVec.ofInt (IntKind.bits .u64) (IntKind.wrap .u64 ((IntKind.wrap .u64 a1)*2 ^ min (Int.toNat 8) (IntKind.bits .u64)))).toNat:Int))|||BitVec.ofInt (IntKind.bits .u64) (IntKind.wrap .u64 ((IntKind.wrap .u64 a2)*2 ^ min (Int.toNat 16) (IntKind.bits .u64)))).toNat:Int))|||BitVec.ofInt (IntKind.bits .u64) (IntKind.wrap .u64 ((IntKind.wrap .u64 a3)*2 ^ min (Int.toNat 24) (IntKind.bits .u64)))).toNat:Int))|||BitVec.ofInt (IntKind.bits .u64) (IntKind.wrap .u64 ((IntKind.wrap .u64 a4)*2 ^ min (Int.toNat 32) (IntKind.bits .u64)))).toNat:Int))|||BitVec.ofInt (IntKind.bits .u64) (IntKind.wrap .u64 ((IntKind.wrap .u64 a5)*2 ^ min (Int.toNat 40) (IntKind.bits .u64)))).toNat:Int))|||BitVec.ofInt (IntKind.bits .u64) (IntKind.wrap .u64 ((IntKind.wrap .u64 a6)*2 ^ min (Int.toNat 48) (IntKind.bits .u64)))).toNat:Int))|||BitVec.ofInt (IntKind.bits .u64) (IntKind.wrap .u64 ((IntKind.wrap .u64 a)*2 ^ min (Int.toNat 56) (IntKind.bits .u64)))).toNat:Int))
def wZ(b:cD):Int:=Um (bI b 0) (bI b 1) (bI b 2) (bI b 3) (bI b 4) (bI b 5) (bI b 6) (bI b 7)
def Un(n:Int):Bool:=(IntKind.wrap .u64 ((BitVec.ofInt (IntKind.bits .u64) n &&& BitVec.ofInt (IntKind.bits .u64) 9259542123273814144).toNat:Int))==0
def SI(a b:Int):Int:=IntKind.wrap .u64 ((BitVec.ofInt (IntKind.bits .u64) a|||BitVec.ofInt (IntKind.bits .u64) b).toNat:Int)
def Ai(b:cD):Bool:=decide (b.length>32) && Un (SI (SI (wZ b) (wZ (b.drop 8))) (SI (wZ (b.drop 16)) (wZ (b.drop 24))))
def B2(b:cD):Bool:=decide (b.length>16) && Un (SI (wZ b) (wZ (b.drop 8)))
def KS(b:cD):Bool:=decide (b.length>8) && Un (wZ b)
def uT:Nat->cD->cD
 |0,b=>b
 |f+1,b=>if Ai b=true then uT f (b.drop 32)else b
def Fy(b:cD):cD:=if KS b=true then(if B2 (b.drop 8)=true then uT (b.length+1) ((b.drop 8).drop 16)else b.drop 8)else b
def oZ(x:Int):Int:=IntKind.wrap .i64 (IntKind.wrap .u8 ((BitVec.ofInt (IntKind.bits .u8) x &&& BitVec.ofInt (IntKind.bits .u8) 7).toNat:Int))
def xF(x:Int):Int:=Int.fdiv x (2 ^ min (Int.toNat 4) (IntKind.bits .u8))
def nV(n:Nat)(L a:Int)(b:cD):Bool:=decide (b.length<n)||(decide (bI b 1<L)||decide (a<bI b 1))
def o0(b:cD)(i:Nat):Bool:=decide (bI b i<128)||decide (191<bI b i)
def w5(FT A0 A1:Nat->Int)(b:cD):Option (cD):=
 if bI b 0<128 then some (Fy (b.drop 1))
 else if oZ (FT (bI b 0).toNat)=2 then(if nV 2 (A0 (xF (FT (bI b 0).toNat)).toNat) (A1 (xF (FT (bI b 0).toNat)).toNat) b=true then none else some (b.drop 2))
 else if oZ (FT (bI b 0).toNat)=3 then(if(nV 3 (A0 (xF (FT (bI b 0).toNat)).toNat) (A1 (xF (FT (bI b 0).toNat)).toNat) b||o0 b 2)=true then none else some (b.drop 3))
 else if oZ (FT (bI b 0).toNat)=4 then(if(nV 4 (A0 (xF (FT (bI b 0).toNat)).toNat) (A1 (xF (FT (bI b 0).toNat)).toNat) b||(o0 b 2||o0 b 3))=true then none else some (b.drop 4))
 else none
def IU(n:cD->Option (cD)):Nat->cD->Bool
 |0,_=>true
 |f+1,b=>if b.length=0 then true else match n b with|none=>false|some r=>IU n f r
theorem PA(n:cD->Option (cD))(f:Nat):IU n (f+1) b=if b.length=0 then true else match n b with|none=>false|some r=>IU n f r:=rfl
def sS(FT A0 A1:Nat->Int)(f:Nat)(b:cD):Bool:=IU (w5 FT A0 A1) f b
theorem PB(f:Nat):uT (f+1) b=if Ai b=true then uT f (b.drop 32)else b:=rfl
theorem Fz(f:Nat):sS FT A0 A1 (f+1) b=if b.length=0 then true else match w5 FT A0 A1 b with|none=>false|some r=>sS FT A0 A1 f r:=by unfold sS;exact PA _ _
theorem B4: ∀(f:Nat)(b:cD),(uT f b).length<=b.length
 |0,b=>bk _
 |f+1,b=>by
  unfold uT;split
  .exact cW (B4 f _) (by rw[bF];omega)
  .exact bk _
theorem NQ(b:cD):(Fy b).length<=b.length:=by
 unfold Fy;split
 .split
  .exact cW (B4 _ _) (by rw[bF,bF];omega)
  .rw[bF];omega
 .exact bk _
theorem KT{r:cD}(e:b.length≠0)(a:w5 FT A0 A1 b=some r):r.length<b.length:=by
 have d: ∀k,1<=k->(b.drop k).length<b.length:=λk hk=>by rw[bF];omega
 unfold w5 at a
 repeat' split at a
 all_goals first|(cases a;done)|(cases a;first|exact d _ di|exact Nat.lt_of_le_of_lt (NQ _) (d 1 di))
structure Dt (h:ai) (FT A0 A1:Nat->Int):Prop where
 f: ∀i,i<256->bg h ⟨3,i,none⟩=some (.int .u8 (FT i))/\0<=FT i/\FT i<256
 a: ∀i,i<16->bg h ⟨4,i*2,none⟩=some (.int .u8 (A0 i))/\bg h ⟨4,i*2+1,none⟩=some (.int .u8 (A1 i))
theorem Dt.on(U:Dt h FT A0 A1)(f:Fr No h h'):Dt h' FT A0 A1:=⟨λi a=>⟨f.cell (U.f i a).1 id,(U.f i a).2⟩,λi a=>⟨f.cell (U.a i a).1 id,f.cell (U.a i a).2 id⟩⟩
structure Sl (h:ai) (p:cy) (l c:Nat) (b:cD):Prop where
 row:Row h p (bc b)
 len:l=b.length
 cap:l<=c
theorem Sl.drop(S:Sl h p l c b){k:Nat}(hk:k<=b.length):Sl h (cO p c k 1) (l - k) (c - k) (b.drop k):=by
 have d:=S.len;have a:=S.cap;refine⟨?_,by rw[bF];omega,ag⟩;have:=S.row.sub (cap:=c) (l:=k) (u:=b.length) (sz:=1) hk ag;rw[ct,ct]at this;unfold bc at this⊢;rw[bJ (by rw[aF];omega)]at this;rw[List.map_drop];exact this
theorem Sl.on(S:Sl h p l c b)(f:Fr No h h'):Sl h' p l c b:=⟨S.row.frame f cb,S.len,S.cap⟩
theorem Sl.at{i:Nat}(S:Sl h p l c b)(d:i<b.length): ∃a,p=some a/\bg h (a.add (i*1))=some (.int .u8 (bI b i)):=by
 obtain⟨a,e,f⟩:=byte_at S.row d;refine⟨a,e,?_⟩;unfold bI;rw[aY,aj d];exact f
theorem Sx(b:cD)(i:Nat):0<=bI b i/\bI b i<256:=by
 unfold bI;have:=(b.getD i 0).toNat_lt;omega
theorem QU{x:Int}(H:0<=x)(a:x<256):0<=xF x/\xF x<16:=by
 have e:xF x=x/16:=Int.fdiv_eq_ediv_of_nonneg x di;rw[e];omega
theorem KU{c:Prop}[Decidable c](d:c)(a:A):if c then A else B:=by rw[af d];exact a
theorem KV{c:Prop}[Decidable c](d: ¬c)(a:B):if c then A else B:=by rw[ae d];exact a
theorem oO(S:Sl h p l c b)(j:8<=b.length)(hk:R (.U (wZ b)) h):Cl 324 #[.slice p l c] h R:=by
 have k:=S.len;obtain⟨a,rfl,c0⟩:=S.at (i:=0) ag;have C: ∀i,i<b.length->bg h (a.add (i*1))=some (.int .u8 (bI b i)):=λi d=>by
  obtain⟨f,e,c⟩:=S.at (i:=i) d;cases e;exact c
 refine mV.walk ?_;refine⟨ag,aw.2 ⟨_,C 0 ag,ag,aw.2 ⟨_,C 1 ag,ag,aw.2 ⟨_,C 2 ag,ag,aw.2 ⟨_,C 3 ag,ag,aw.2 ⟨_,C 4 ag,ag,aw.2 ⟨_,C 5 ag,ag,aw.2 ⟨_,C 6 ag,ag,aw.2 ⟨_,C 7 ag,?_⟩⟩⟩⟩⟩⟩⟩⟩⟩;exact hk
theorem NR{vv:Bool}(hV:sS FT A0 A1 (bs.length+1) bs=vv)(UT:Dt h FT A0 A1)(row:Row h p (bc bs))(hl:bs.length<=1000000)(cap:bs.length<=c)(hk: ∀g,Fr No h g->R (.bool vv) g):Cl 316 #[.slice p bs.length c] h R:=by
 refine sR.walk ⟨ag,ag,λp l c g=>Fr No h g/\∃b f,Sl g p l c b/\b.length<f/\b.length<=1000000/\sS FT A0 A1 f b=vv,λ_ l _ _=>l,⟨Fr.refl _ _,bs,bs.length+1,⟨by rw[jN];exact row,aI _,bk _⟩,Nat.lt_succ_self _,hl,hV⟩,?_⟩;clear hV;rintro p l c g ⟨N,b,f,S,hf,hb,w⟩;have z':=S.len;by_cases c0:b.length=0
 case pos=>
  rw[dc];have:sS FT A0 A1 f b=true:=by
   cases f with
   |zero=>rfl
   |succ f=>rw[Fz,af c0]
  rw[w.symm.trans this]at hk;exact hk g N
 rw[af (by simp only[aV];omega)];refine aG.of λr' hJ=> ?_
 obtain⟨f,rfl⟩: ∃F,f=F+1:=⟨f - 1,ag⟩;rw[Fz,ae c0]at w;have m: ∀(G:ai)(p':cy)(V c':Nat)(s:cD),Fr No g G->Sl G p' V c' s->w5 FT A0 A1 b=some s->r' p' V c' G:=by
  intro G p' V c' s F S' U;subst hJ;have A':=KT c0 U;rw[U]at w;exact⟨⟨N.tt F,s,f,S',ag,ag,w⟩,by have:=S'.len;show V<l;omega⟩
 have stop: ∀G,Fr No g G->w5 FT A0 A1 b=none->R (.bool false) G:=by
  intro G F U;rw[U]at w;rw[<-w]at hk;exact hk G (N.tt F)
 clear hJ w hk;obtain⟨a,rfl,ca⟩:=S.at (i:=0) ag;have n0:=Sx b 0;refine⟨ag,aw.2 ⟨_,ca,?_⟩⟩;by_cases c1:bI b 0<128
 .have E:w5 FT A0 A1 b=some (Fy (b.drop 1)):=af c1;rw[E]at m;clear stop E;rw[af (av c1)];refine⟨ag,aG.of λJ1 s'=> ?_⟩;have I:=S.drop (k:=1) ag;generalize hr:b.drop 1=r at m I;have n': ∀v,v=KS r->J1 v g:=by
   intro v d;subst s';refine aG.of λJ2 b'=> ?_
   cases t:KS r with
   |false=>
    rw[d,t,dc];subst b';exact m g _ _ _ _ (Fr.refl _ _) I (by unfold Fy;rw[t];rfl)
   |true=>
   rw[d,t,af rfl];have l8:r.length>8:=by unfold KS at t;simp only[aT,aV]at t;exact t.1
   have J:=I.drop (k:=8) ag;have f':=I.len;refine⟨⟨ag,by show(8:Int)<=((l - 1:Nat):Int);omega⟩,aG.of λJ3 t'=> ?_⟩;have o': ∀v,v=B2 (r.drop 8)->J3 v g:=by
    intro v d;subst t';refine aG.of λJ4 l'=> ?_
    cases D:B2 (r.drop 8)with
    |false=>
     rw[d,D,dc];subst l';subst b';exact m g _ _ _ _ (Fr.refl _ _) J (by unfold Fy;rw[t,af rfl,D];rfl)
    |true=>
    rw[d,D,af rfl];have B':(r.drop 8).length>16:=by unfold B2 at D;simp only[aT,aV]at D;exact D.1
    have S3:=J.drop (k:=16) ag;have T:=J.len;have eF:Fy r=uT (r.length+1) ((r.drop 8).drop 16):=by unfold Fy;rw[t,af rfl,D,af rfl]
    rw[eF]at m;refine⟨⟨ag,by show(16:Int)<=((l - 1 - 8:Nat):Int);omega⟩,λp l c G=>G=g/\∃s F,Sl g p l c s/\s.length<F/\uT F s=uT (r.length+1) ((r.drop 8).drop 16),λ_ l _ _=>l,⟨rfl,_,_,S3,by rw[bF,bF];omega,rfl⟩,?_⟩;rintro p5 l5 c5 G ⟨rfl,P,f5,u,x',M⟩;have y':=u.len;obtain⟨f5,rfl⟩: ∃F,f5=F+1:=⟨f5 - 1,ag⟩;rw[PB]at M;refine aG.of λJ5 u'=> ?_
    have q': ∀v,v=Ai P->J5 v G:=by
     intro v d;subst u';dsimp only;cases z:Ai P with
     |false=>
      rw[d,z,dc];rw[z,dc]at M;subst l';subst b';exact m G _ _ _ _ (Fr.refl _ _) u (by rw[M])
     |true=>
      rw[d,z,af rfl];rw[z,af rfl]at M;have C':P.length>32:=by unfold Ai at z;simp only[aT,aV]at z;exact z.1
      exact⟨ag,⟨rfl,_,f5,u.drop (k:=32) ag,by rw[bF];omega,M⟩,by show l5 - 32<l5;omega⟩
    by_cases q:P.length>32
    .rw[fK];refine⟨ag,ag,ag,oO u ag ⟨_,rfl,oO (u.drop (k:=8) ag) (by rw[bF];omega) ⟨_,rfl,oO (u.drop (k:=16) ag) (by rw[bF];omega) ⟨_,rfl,oO (u.drop (k:=24) ag) (by rw[bF];omega) ⟨_,rfl,q' _ ?_⟩⟩⟩⟩⟩;unfold Ai;rw[av q];rfl
    .rw[dc];exact q' false (by unfold Ai;rw[az q];rfl)
   have T:=J.len;by_cases q:(r.drop 8).length>16
   .rw[af (av (by show((l - 1 - 8:Nat):Int)>16;have:l - 1 - 8=(r.drop 8).length:=T;omega))];refine⟨⟨ag,by show(8:Int)<=((l - 1 - 8:Nat):Int);have:l - 1 - 8=(r.drop 8).length:=T;omega⟩,oO J ag ⟨_,rfl,oO (J.drop (k:=8) ag) (by rw[bF];omega) ⟨_,rfl,o' _ ?_⟩⟩⟩;unfold B2;rw[av q];rfl
   .rw[ae (by simp only[aV];show¬((l - 1 - 8:Nat):Int)>16;have:l - 1 - 8=(r.drop 8).length:=T;omega)];exact o' false (by unfold B2;rw[az q];rfl)
  have f':=I.len;by_cases q:r.length>8
  .rw[af (av (by show((l - 1:Nat):Int)>8;have:l - 1=r.length:=f';omega))];refine oO I ag ⟨_,rfl,n' _ ?_⟩;unfold KS;rw[av q];rfl
  .rw[ae (by simp only[aV];show¬((l - 1:Nat):Int)>8;have:l - 1=r.length:=f';omega)];exact n' false (by unfold KS;rw[az q];rfl)
 obtain⟨x0,x1,x2⟩:=(UT.on N).f (bI b 0).toNat ag;have E:w5 FT A0 A1 b=_:=ae c1;generalize FT (bI b 0).toNat=x at x0 x1 x2 E;have rr:=QU x1 x2;obtain⟨y0,y1⟩:=(UT.on N).a (xF x).toNat ag;generalize A0 (xF x).toNat=L at y0 E;generalize A1 (xF x).toNat=n at y1 E;rw[dc];refine⟨ag,x,by rw[gz,bL,ct];exact x0,rr,L,by rw[gz,bL];exact y0,n,by rw[gz,gz,bL];exact y1,cF ?_⟩;have j':Fr No g (g.push (.cells #[.int .u8 0,.int .u8 0] 421)):=Fr.push _ _;have g':(g.push (.cells #[.int .u8 0,.int .u8 0] 421))[g.size]? =_:=bV;generalize g.push (.cells #[.int .u8 0,.int .u8 0] 421)=v' at j' g'⊢;refine bw g' bP λw' a1 a2 a3=>bw a1 bP λj i' b2 b3=> ?_
 have o:Fr No g j:=(j'.fresh (Fr.of_eq (S:=λy=>y=g.size) a2 a3) (λy e=>ag)).fresh (Fr.of_eq (S:=λy=>y=g.size) b2 b3) (λy e=>ag);have k':=S.on o;have C: ∀i,i<b.length->bg j (a.add (i*1))=some (.int .u8 (bI b i)):=λi n=>by
  obtain⟨a',e,c⟩:=k'.at (i:=i) n;cases e;exact c
 have cl:bg j (AA g.size 0)=some (.int .u8 L):=ar i';have Y:bg j (AA g.size 1)=some (.int .u8 n):=ar i';have Z: ∀k,k<=b.length->Sl j (cO (some a) c k 1) (l - k) (c - k) (b.drop k):=λk hk=>k'.drop hk
 refine aG.of λJ6 d'=>aG.of λJ7 e'=> ?_
 by_cases s2:oZ x=2
 .replace E:=E.trans (af s2);refine KU (show(oZ x==2)=true from cR.2 s2) (aG.of λK O=> ?_);have key: ∀v,v=nV 2 L n b->K v j:=by
   intro v d;subst O;rw[<-d]at E;cases v with
   |true=>exact KU rfl (stop j o (E.trans (af rfl)))
   |false=>
    have l2:2<=b.length:=by simp[nV]at d;omega
    refine KV di ⟨ag,?_⟩;subst e';subst d';exact m j _ _ _ _ o (Z 2 l2) (E.trans (dc))
  by_cases Q:b.length<2
  .rw[fK];exact key true (by simp[nV,Q])
  rw[dc];refine⟨ag,aw.2 ⟨_,C 1 ag,_,cl,?_⟩⟩;by_cases q1:bI b 1<L
  .rw[af (av q1)];exact key true (by simp[nV,q1])
  rw[ae (cA q1)];exact⟨_,Y,ag,aw.2 ⟨_,C 1 ag,key _ (by simp[nV,Q,q1])⟩⟩
 replace E:=E.trans (ae s2);refine KV (show¬(oZ x==2)=true from λe=>s2 (cR.1 e)) (aG.of λJ9 m'=> ?_);by_cases X:oZ x=3
 .replace E:=E.trans (af X);refine KU (show(oZ x==3)=true from cR.2 X) (aG.of λK O=> ?_);have key: ∀v,v=(nV 3 L n b||o0 b 2)->K v j:=by
   intro v d;subst O;rw[<-d]at E;cases v with
   |true=>exact KU rfl (stop j o (E.trans (af rfl)))
   |false=>
    have l2:3<=b.length:=by simp[nV]at d;omega
    refine KV di ⟨ag,?_⟩;subst m';subst e';subst d';exact m j _ _ _ _ o (Z 3 l2) (E.trans (dc))
  by_cases Q:b.length<3
  .rw[fK];exact key true (by simp[nV,Q])
  rw[dc];refine⟨ag,aw.2 ⟨_,C 1 ag,_,cl,?_⟩⟩;by_cases q1:bI b 1<L
  .rw[af (av q1)];exact key true (by simp[nV,q1])
  rw[ae (cA q1)];refine⟨_,Y,ag,aw.2 ⟨_,C 1 ag,?_⟩⟩;by_cases q2:n<bI b 1
  .rw[af (av q2)];exact key true (by simp[nV,q2])
  rw[ae (cA q2)];refine⟨ag,aw.2 ⟨_,C 2 ag,?_⟩⟩;by_cases q3:bI b 2<128
  .rw[af (av q3)];exact key true (by simp[o0,q3])
  rw[ae (cA q3)];exact⟨ag,aw.2 ⟨_,C 2 ag,key _ (by simp[nV,o0,Q,q1,q2,q3])⟩⟩
 replace E:=E.trans (ae X);refine KV (show¬(oZ x==3)=true from λe=>X (cR.1 e)) ?_;by_cases s4:oZ x=4
 .replace E:=E.trans (af s4);refine KU (show(oZ x==4)=true from cR.2 s4) (aG.of λK O=> ?_);have key: ∀v,v=(nV 4 L n b||(o0 b 2||o0 b 3))->K v j:=by
   intro v d;subst O;rw[<-d]at E;cases v with
   |true=>exact KU rfl (stop j o (E.trans (af rfl)))
   |false=>
    have l2:4<=b.length:=by simp[nV]at d;omega
    refine KV di ⟨ag,?_⟩;subst m';subst e';subst d';exact m j _ _ _ _ o (Z 4 l2) (E.trans (dc))
  by_cases Q:b.length<4
  .rw[fK];exact key true (by simp[nV,Q])
  rw[dc];refine⟨ag,aw.2 ⟨_,C 1 ag,_,cl,?_⟩⟩;by_cases q1:bI b 1<L
  .rw[af (av q1)];exact key true (by simp[nV,q1])
  rw[ae (cA q1)];refine⟨_,Y,ag,aw.2 ⟨_,C 1 ag,?_⟩⟩;by_cases q2:n<bI b 1
  .rw[af (av q2)];exact key true (by simp[nV,q2])
  rw[ae (cA q2)];refine⟨ag,aw.2 ⟨_,C 2 ag,?_⟩⟩;by_cases q3:bI b 2<128
  .rw[af (av q3)];exact key true (by simp[o0,q3])
  rw[ae (cA q3)];refine⟨ag,aw.2 ⟨_,C 2 ag,?_⟩⟩;by_cases q4:191<bI b 2
  .rw[af (av q4)];exact key true (by simp[o0,q4])
  rw[ae (cA q4)];refine⟨ag,aw.2 ⟨_,C 3 ag,?_⟩⟩;by_cases W:bI b 3<128
  .rw[af (av W)];exact key true (by simp[o0,W])
  rw[ae (cA W)];exact⟨ag,aw.2 ⟨_,C 3 ag,key _ (by simp[nV,o0,Q,q1,q2,q3,q4,W])⟩⟩
 refine KV (show¬(oZ x==4)=true from λe=>s4 (cR.1 e)) ?_;exact stop j o (E.trans (ae s4))
theorem Dt.VM(U:Dt h FT A0 A1):ke (λbs=>sS FT A0 A1 (bs.length+1) bs) h:=λg p c bs R f row a cap hk=>NR rfl (U.on f) row a cap hk

end Cb
end
section
namespace Cb
theorem KW: ∀i:Fin 256,Lib.firstT i.val<256:=di
theorem Dt.PC{W:World}{l:List (String×DataW Unit)}{s1 s2:String}(w:Tryz.prog.globalNamed s1=some 3)(x:Tryz.prog.globalNamed s2=some 4)(h:laidMet Tryz.prog l W)(M:(s1,Lib.firstData)∈l)(y:(s2,Lib.acceptData)∈l): ∃V,ke V W.heap:=by
 refine⟨_,Dt.VM (FT:=λi=>(Lib.firstT i:Int)) (A0:=λi=>(Lib.accLo i:Int)) (A1:=λi=>(Lib.accHi i:Int)) ⟨λc r=> ?_,λi v=> ?_⟩⟩
 .obtain⟨g,t,cs,F,p,a,o,m,hd⟩:=Lib.laidMet.reads h M;obtain rfl:3=g:=aX (w.symm.trans a);obtain rfl:419=t:=by
   have e:(Tryz.prog.globals[(3:Nat)]?).map (·.type)=some 419:=dj
   exact aX (e.symm.trans o)
  have b:=Lib.cells_of_tab (n:=256) (e:=5) dj dj dj dj hd;have:=World.var?_cell a m c;rw[ks,<-dq,b]at this;refine⟨?_,Int.natCast_nonneg _,by have:Lib.firstT c<256:=KW ⟨c,r⟩;show((Lib.firstT c:Nat):Int)<256;omega⟩;rw[this];simp[Lib.firstTab,r]
 .obtain⟨g,t,cs,F,p,a,o,m,hd⟩:=Lib.laidMet.reads h y;obtain rfl:4=g:=aX (x.symm.trans a);obtain rfl:422=t:=by
   have e:(Tryz.prog.globals[(4:Nat)]?).map (·.type)=some 422:=dj
   exact aX (e.symm.trans o)
  obtain⟨z,d,q,s,u⟩:=Lib.array_elem (n:=16) (e:=421) dj hd i v;simp only[aK,List.getElem?_range v,cZ,br]at s;subst s;have c2:Tryz.prog.cellsOf 421=2:=dj
  rw[c2]at u;have b:=Lib.ints_of_struct (t:=421) (k:=.u8) (fs:= #[Go.Field.mk "lo" 5 0 false "" "unicode/utf8" 0,Go.Field.mk "hi" 5 1 false "" "unicode/utf8" 1]) dj (λj f H=>by
   match j,H with
   |0,H=>simp at H;subst H;exact⟨dj,rfl,dj⟩
   |1,H=>simp at H;subst H;exact⟨dj,rfl,dj⟩
   |j+2,H=>simp at H) (by rw[c2];rfl) u
  have E:=bU (·[0]?) b;have e1:=bU (·[1]?) b;simp only[cP,eO]at E e1;constructor
  .have:=World.var?_cell a m (i*2);rw[ks,<-dq]at this;rw[this];simpa using E
  .have:=World.var?_cell a m (i*2+1);rw[ks,<-dq]at this;rw[this];simpa using e1

end Cb
end
end Go.Proofs.YtlenamcfacpheaaGreatDoor
