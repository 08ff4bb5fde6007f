/-
  Ei is proved here: parts of xi proof, one behind xi other (texts of this work, merged by a program; GH xi theorem GI not use is left out). No condition.
-/
import Derived.Test.YtlenamcfacpheaaGreatDoorMAsced
set_option maxRecDepth 100000
set_option maxHeartbeats 4000000
namespace Go.Proofs.YtlenamcfacpheaaGreatDoor
open Go.Den
open IntKind (wrap)
open Int (toNat)
section
namespace Ask
open iY (Ev cV)
open eN (SS Good)
open Bn (jh oH Prim qj yI kJ oI tY kY)
open Go.fk (RD)
variable {V:cM→Bool} {σ:SS} {k:Nat} {ses:Int} {q:Rq}
def lu(now fj:Nat):Nat:=min (now+fj) 1099511627776
def oQ(σ:SS):Option (Nat×Nat):=if σ.tm<σ.now then some (σ.now,0)else if 1099511627776<=σ.sq then none else some (σ.tm,σ.sq+1)
structure Ot where
 σ:SS
 e:Int
 num:Int
 xO:Int
 d:cM
def bad(σ:SS)(e:Int):Ot:=⟨σ,e,0,0, []⟩
def Ay(σ:SS)(ses:Int)(d:cM)(cg:Nat)(n:Nat×Nat):Ot:=
 if eN.uv σ ses d cg=0 then⟨{ eN.oh σ ses d cg with tm:=n.1,sq:=n.2 },0,eN.DD σ ses d cg,d.length, []⟩else⟨σ,eN.uv σ ses d cg,eN.DD σ ses d cg,d.length, []⟩
def kP(V:cM->Bool)(σ:SS)(ses:Int)(b:oH)(n:Nat×Nat):Ot:=match kJ V b with
 |none=>bad σ 3
 |some d=>Ay σ ses d (lu σ.now b.p.fj) n
def lO(q:Rq)(n:Nat×Nat):oH:=⟨⟨if q.on=true then 131072 else 0,0,q.dest,if q.on=true then q.ep else .zero,⟨q.ep,n.1,n.2⟩,q.fj⟩, [⟨1,1,0,0,q.oa⟩]⟩
def rE(V:cM->Bool)(σ:SS)(ses:Int)(q:Rq):Ot:=
 if gj.jj σ.G q.ep ses=0 then(match oQ σ with
  |none=>bad σ 5
  |some n=>kP V σ ses (lO q n) n)
 else bad σ (gj.jj σ.G q.ep ses)
def FE(V:cM->Bool)(d:cM):Nat:=match oI V d with| .ok b=>(tY b).length| .error _=>0
def RB(σ:SS)(q:Rq):Nat:=lu σ.now q.iV.toNat
def xU(V:cM->Bool)(σ:SS)(ses:Int)(q:Rq):Ot:=
 if gj.jj σ.G q.ep ses=0 then
  if gx.uq ses (RB σ q)then(match gx.lg σ.C.L q.ep with
   |none=>bad σ 4
   |some z=>⟨{ σ with C:=gx.rB σ.C z ses (RB σ q) },0,(z.num:Int),(FE V z.d:Int),z.d⟩)
  else bad σ 1
 else bad σ (gj.jj σ.G q.ep ses)
def NK(n m:Int):Bool:=IntKind.wrap .u64 ((BitVec.ofInt (IntKind.bits .u64) n &&& BitVec.ofInt (IntKind.bits .u64) m).toNat:Int)==0
def xV(p:Prim):Bool:= !NK (p.fl:Int) 131072 && NK (p.fl:Int) 2
def ks(V:cM->Bool)(σ:SS)(ses:Int)(d:cM):SS×Int:=match oI V d with
 | .error _=>(σ,0)
 | .ok b=>if xV b.p=true then(match oQ σ with
  |none=>(σ,0)
  |some n=>(match kY V ⟨false,true,false,0,σ.now,b.p.id⟩ b.p.rep ⟨σ.e,n.1,n.2⟩ b.p.fj with
   |none=>(σ,0)
   |some r=>((kP V σ ses r n).σ,if(kP V σ ses r n).e=0 then 1 else 0)))
  else(σ,0)
def FF(V:cM->Bool)(σ:SS)(ses:Int)(num:Int):Ot:=
 if gx.km σ.C.L num ses=0 then(match gx.yr σ.C.L num with
  |none=>bad { σ with C:=gx.sJ σ.C num ses } 0
  |some z=>⟨(ks V { σ with C:=gx.sJ σ.C num ses } ses z.d).1,0,0,(ks V { σ with C:=gx.sJ σ.C num ses } ses z.d).2, []⟩)
 else bad σ (gx.km σ.C.L num ses)
def rF(σ:SS)(ses:Int)(on:Bool):Ot:=
 if eE.uh σ.A ses=0 then⟨{ σ with A:=eE.sU (eE.iB σ.A ses on) ses },eE.Jk (eE.iB σ.A ses on) ses,0,eE.Fk (eE.iB σ.A ses on) ses,eE.Ag (eE.iB σ.A ses on) ses⟩
 else bad σ (eE.uh σ.A ses)
def nT(V:cM->Bool)(σ:SS)(ses:Int)(q:Rq):Ot:=
 if q.kind=1 then bad { σ with G:=gj.yo σ.G ⟨q.ep,q.jS,ses⟩ } (gj.iN σ.G ⟨q.ep,q.jS,ses⟩)
 else if q.kind=2 then(if gj.jj σ.G q.ep ses=0 then⟨{ σ with G:=gj.Ap σ.G q.ep ses,C:=gx.xR σ.C q.ep },0,0,((gx.lC σ.C.L q.ep).length:Int), []⟩else bad σ (gj.jj σ.G q.ep ses))
 else if q.kind=3 then bad { σ with G:=gj.Fu σ.G q.ep ses q.jS } (gj.Hz σ.G q.ep ses q.jS)
 else if q.kind=4 then rE V σ ses q
 else if q.kind=5 then bad (eN.CB σ q.num ses) (gD.mS σ.B q.num ses)
 else if q.kind=6 then⟨σ,gj.jj σ.G q.ep ses,(gx.Dz σ.C.L q.ep:Int),0, []⟩
 else if q.kind=7 then xU V σ ses q
 else if q.kind=8 then FF V σ ses q.num
 else if q.kind=9 then bad { σ with C:=gx.Dv σ.C q.num ses } (gx.km σ.C.L q.num ses)
 else if q.kind=10 then rF σ ses q.on
 else bad σ 3
def jQ(id:Nat)(o:Ot):RD:=if o.e=0 then⟨id,0,o.num,o.xO,0,o.d⟩else⟨id,o.e,0,0,0, []⟩
def L8(x:RD):cM:=if x.ma then x.enc else []
def oR(id:Nat)(e:Int):RD:=⟨id,e,0,0,0, []⟩
def nj(V:cM->Bool)(σ:SS)(ses:Int)(q:Rq):SS×RD:=
 if iW q=true/\q.kind<11 then
  if eE.yi σ.A ses=true then(match eE.lL σ.A ses q.id with
   |some b=>(σ,(Go.fk.tW b).getD RD.zero)
   |none=>({ (nT V σ ses q).σ with A:=eE.jz (nT V σ ses q).σ.A ses q.id (L8 (jQ q.id (nT V σ ses q))) },jQ q.id (nT V σ ses q)))
  else(σ,oR q.id 16)
 else(σ,oR q.id 3)
theorem Good.oM{C:gx.CF}(G:eN.Good σ k)(c:gx.Good C (k+1)):eN.Good { σ with C:=C } (k+1):=
 ⟨G.a,G.g,c,by show σ.B.next<=_;have:=G.b;omega,by show σ.B.over<=_;have:=G.v;omega,G.q,G.ok,G.n,G.e,G.t,by show σ.rf<=_;have:=G.r;omega⟩
theorem Good.ku{A:List eE.eE}(G:eN.Good σ k)(a:eE.ox A):eN.Good { σ with A:=A } k:=⟨a,G.g,G.c,G.b,G.v,G.q,G.ok,G.n,G.e,G.t,G.r⟩
theorem Good.Sr{L:List gj.Rg}(G:eN.Good σ k)(a:gj.Fl L):eN.Good { σ with G:=L } k:=⟨G.a,a,G.c,G.b,G.v,G.q,G.ok,G.n,G.e,G.t,G.r⟩
theorem Good.mk{t s:Nat}(G:eN.Good σ k)(H:t<=1099511627776)(h:s<=1099511627776):eN.Good { σ with tm:=t,sq:=s } k:=⟨G.a,G.g,G.c,G.b,G.v,G.q,G.ok,G.n,G.e,⟨H,h⟩,G.r⟩
theorem Az(G:eN.Good σ k){n:Nat×Nat}(h:oQ σ=some n):n.1<=1099511627776/\n.2<=1099511627776:=by
 unfold oQ at h;have:=G.n;have:=G.t;split at h
 .cases h;exact⟨by assumption,by show 0<=_;omega⟩
 split at h
 .cases h
 .cases h;exact⟨G.t.1,by show σ.sq+1<=_;omega⟩
theorem Good.Ay(G:eN.Good σ k)(ses:Int)(d:cM)(cg:Nat){n:Nat×Nat}(h:n.1<=1099511627776/\n.2<=1099511627776):eN.Good (Ay σ ses d cg n).σ (k+1):=by
 unfold Ask.Ay;split
 .exact Good.mk (eN.Good.put G ses d cg) h.1 h.2
 .exact eN.Good.more G
theorem Good.kP(G:eN.Good σ k)(ses:Int)(b:oH){n:Nat×Nat}(h:n.1<=1099511627776/\n.2<=1099511627776):eN.Good (kP V σ ses b n).σ (k+1):=by
 unfold Ask.kP;split
 .exact eN.Good.more G
 .exact Good.Ay G _ _ _ h
theorem Good.tell(G:eN.Good σ k)(ses:Int)(d:cM):eN.Good (ks V σ ses d).1 (k+1):=by
 unfold ks;split
 .exact eN.Good.more G
 split
 .split
  .exact eN.Good.more G
  .rename_i n h;split
   .exact eN.Good.more G
   .exact Good.kP G _ _ (Az G h)
 .exact eN.Good.more G
theorem Good.Ud(G:eN.Good σ k)(O:gx.Ord σ.C)(hk:k<=30000)(f:gx.OP)(h:0<=f.e.gr):eN.Good { σ with C:=gx.Tc f σ.C } (k+1):=Good.oM G (G.c.do O h hk)
theorem Good.nT(G:eN.Good σ k)(O:gx.Ord σ.C)(hk:k<=30000)(H:0<=q.ep.gr):eN.Good (nT V σ ses q).σ (k+2):=by
 unfold Ask.nT;split
 .exact eN.Good.more (eN.Good.more (Good.Sr G (G.g.add _ H)))
 split
 .split
  .have h:=Good.Ud G O hk ⟨5,0,0,q.ep,none,0, [],0⟩ H;exact eN.Good.more (Good.Sr h (G.g.rem _ _))
  .exact eN.Good.more (eN.Good.more G)
 split
 .exact eN.Good.more (eN.Good.more (Good.Sr G (G.g.jS _ _ _)))
 split
 .unfold rE;split
  .split
   .exact eN.Good.more (eN.Good.more G)
   .rename_i n b;exact eN.Good.more (Good.kP G _ _ (Az G b))
  .exact eN.Good.more (eN.Good.more G)
 split
 .exact eN.Good.more (eN.Good.qc G _ _)
 split
 .exact eN.Good.more (eN.Good.more G)
 split
 .unfold xU;split
  .split
   .rename_i a;have h:=Good.Ud G O hk ⟨1,0,ses,q.ep,none,0, [],RB σ q⟩ H;unfold gx.Tc at h;rw[af (show¬(1:Int)=0 by decide),ah (show(1:Int)=1 from rfl),ah a]at h;dsimp only at h;split
    .exact eN.Good.more (eN.Good.more G)
    .rename_i z c;rw[c]at h;exact eN.Good.more h
   .exact eN.Good.more (eN.Good.more G)
  .exact eN.Good.more (eN.Good.more G)
 split
 .unfold FF;have h:=Good.Ud G O hk ⟨2,q.num,ses,.zero,none,0, [],0⟩ (dT 0);split
  .split
   .exact eN.Good.more h
   .exact Good.tell h _ _
  .exact eN.Good.more (eN.Good.more G)
 split
 .have h:=Good.Ud G O hk ⟨3,q.num,ses,.zero,none,0, [],0⟩ (dT 0);exact eN.Good.more h
 split
 .unfold rF;split
  .exact eN.Good.more (eN.Good.more (Good.ku G ((G.a.watch _ _).read _)))
  .exact eN.Good.more (eN.Good.more G)
 .exact eN.Good.more (eN.Good.more G)
theorem Good.nj(G:eN.Good σ k)(O:gx.Ord σ.C)(hk:k<=30000)(H:0<=q.ep.gr):eN.Good (nj V σ ses q).1 (k+2):=by
 have h:=Good.nT (V:=V) (ses:=ses) G O hk H;have m:=eN.Good.more (eN.Good.more G);unfold Ask.nj;split
 .split
  .split
   .exact m
   .exact Good.ku h (h.a.lK _ _ _)
  .exact m
 .exact m
section
open eE
variable {A : List eE.eE} {m n : Int}
theorem FG{s s':eE.eE}(a:jd A n=some s):jd (ku A n s') m=if m=n then some s' else jd A m:=by
 obtain⟨i,rfl,h⟩:=kZ a;have H:=(aB.1 h).1;unfold jd eE.ku;rw[show((i:Int)+1 - 1).toNat=i by omega];by_cases e:m=(i:Int)+1
 .subst e;rw[gh,ah rfl,show((i:Int)+1 - 1).toNat=i by omega,List.getElem?_set_self H]
 .rw[af e];split
  .rw[List.getElem?_set_ne ae]
  .rfl
theorem PX{id:Nat}{d:cM}:yi (jz A n id d) m=yi A m:=by
 unfold jz;split
 .rfl
 .rename_i s h;split
  .rfl
  .unfold yi;rw[FG h];by_cases e:m=n
   .subst e;rw[ah rfl,h]
   .rw[af e]
end
end Ask
end
section
namespace Ask
open iY (Ev cV)
open eN (SS Good)
open Bn (oH oI)
open Go.fk (RD)
variable {V:cM→Bool} {σ:SS} {ses o:Int} {q:Rq} {b:oH}
structure Op where
 kind:Int
 ses:Int
 q:Rq
 at_:Nat
 x:Ev
 b:cM
def iy(V:cM->Bool)(σ:SS)(o:Op):SS×RD:=
 if o.kind=0 then nj V σ o.ses o.q
 else if o.kind=1 then(eN.xT σ o.at_,RD.zero)
 else if o.kind=2 then({ σ with A:=eE.kj σ.A o.at_ },RD.zero)
 else if o.kind=3 then({ σ with A:=eE.rh σ.A o.ses },RD.zero)
 else if o.kind=4 then({ σ with C:=gx.j8 σ.C o.x o.b o.at_ },RD.zero)
 else(σ,RD.zero)

end Ask
end
section
variable {h:ak} {R:fG}
theorem yx.walk{b:Nat}(P:Cl 70 #[.P b 0] h λv H=> ∃t7,v=.bool t7/\if(!t7)then R (.Z) H else Hi H b 1 λt13=>Hi H b 2 λt18=>Hi H b 3 λt23=>Hi H b 4 λt28=>Hl H b 0 λc t T=>Cl 65 #[] H λf' d=>Vp f' λt9=>Cc d b 0 (.slice c t T)/\Cc d b 4 (.I t28)/\Cc d b 3 (.I t23)/\Cc d b 2 (.I t18)/\Cc d b 1 (.I t13)/\Cl 66 #[.pointer t9,.I t13] d λl' i=>Vp l' λt14=>Cc i b 0 (.slice c t T)/\Cc i b 4 (.I t28)/\Cc i b 3 (.I t23)/\Cc i b 2 (.I t18)/\Cl 66 #[.pointer t14,.I t18] i λm' k=>Vp m' λt19=>Cc k b 0 (.slice c t T)/\Cc k b 4 (.I t28)/\Cc k b 3 (.I t23)/\Cl 66 #[.pointer t19,.I t23] k λn' r=>Vp n' λt24=>Cc r b 0 (.slice c t T)/\Cc r b 4 (.I t28)/\Cl 66 #[.pointer t24,.I t28] r λo' A=>Vp o' λt29=>Cc A b 0 (.slice c t T)/\Cl 66 #[.pointer t29,.I (t:Int)] A λp' C=>Vp p' λt35=>Cc C b 0 (.slice c t T)/\Cl 67 #[.pointer t35] C λq' D=>Vl q' λU S Q=>Cc D b 0 (.slice c t T)/\aT D (.cells #[.slice U S Q] 22) λF s=>Cc s b 0 (.slice c t T)/\Hl s b 0 λV E t'=> ∃(I:bZ->Nat->Nat->Int->ak->Prop)(M:bZ->Nat->Nat->Int->ak->Nat),I (Sa F 0) 1 1 0 s/\∀(l:bZ)(O o:Nat)(t43:Int)(e:ak),I l O o t43 e->if(decide (t43<(E:Int)))then Bd t43 E/\aO V λa=>aY.LD e (a.add (toNat t43*4)) λW X a' Z Y b'=>aT e (.cells #[.I 0,.I 0,.Z,.U 0] 119) λB J=>aY.ST J (AA B 0) W X a' Z Y b' λf=>Hi f B 0 λt50=>Hi f B 1 λt53=>Hl f B 2 λp n m=>Hu f B 3 λt59=>Cl 65 #[] f λr' g=>Vp r' λt48=>Cc g B 3 (.U t59)/\Cc g B 2 (.slice p n m)/\Cc g B 1 (.I t53)/\Cc g B 0 (.I t50)/\Cl 66 #[.pointer t48,.I t50] g λs' j=>Vp s' λt51=>Cc j B 3 (.U t59)/\Cc j B 2 (.slice p n m)/\Cc j B 1 (.I t53)/\Cl 66 #[.pointer t51,.I t53] j λg' q=>Vp g' λt54=>Cc q B 3 (.U t59)/\Cc q B 2 (.slice p n m)/\Cl 71 #[.pointer t54,.slice p n m] q λh' y=>Vp h' λt57=>Cc y B 3 (.U t59)/\Cl 72 #[.pointer t57,.U t59] y λi' K=>Vp i' λt60=>Cl 67 #[.pointer t60] K λj' L=>Vl j' λe' d' c'=>aT L (.cells #[.slice e' d' c'] 22) λG N=>aU Tryz.prog (Builtin.append_ #[64,64] 64 #[.slice l O o,.slice (Sa G 0) 1 1]) N λk' z=> ∃x w u,k'=.slice x w u/\(I x w u (wrap .i64 (t43+1)) z/\M x w u (wrap .i64 (t43+1)) z<M l O o t43 e)else R (.slice l O o) e):Cl 24 #[.P b 0] h R:=aR (lq (sq (lq (cq ll lf)) (sq (.gT (.op 1 (.op 2 (.op 3 (.op 4 (.op 6 (.op 7 (.op 8 (.op 9 (.op 11 (.op 12 (.op 13 (.op 14 (.op 16 (.op 17 (.op 18 (.op 19 (.op 21 (.op 22 (.op 23 (.op 24 (.op 25 (.op 0 (.op 5 (.op 10 (.op 15 (.op 20 (.op 26 (.op 27 (.op 28 (.op 29 .done))))))))))))))))))))))))))))))) (sq (lq (bq (.loop [(3,.one (.slice)),(43,.one (.int .i64))] (lq (sq (cq lf lf) (sq (bq (lq (.gT (.op 0 (.op 2 (.op 3 (.op 5 (.op 6 (.op 8 (.op 9 (.op 11 (.op 12 (.op 1 (.op 4 (.op 7 (.op 10 (.op 13 (.op 14 (.op 15 (.op 16 (.op 17 .done))))))))))))))))))))) lf)))))) ll)))) Tryz.func24 P

end
section
open Go.fk Go.kQ
namespace gD
open hM
variable {h h' f:ak} {b:Nat} {X:Ft} {R:fG} {p:bZ} {c d:Nat} {L:List E} {s:BS}
def IL(f h:ak)(p:bZ)(l c:Nat)(items:List It):Prop:=
 ∃(ys:List IV)(D:Nat->Prop),l=ys.length/\fi h p l c 4 (ys.flatMap gw)/\ys.map IV.abs=items/\(∀y∈ys,y.v.ok h D)/\(∀y,D y->f.size<=y/\y<h.size/\¬aL p y)/\∀y,aL p y->f.size<=y
theorem IL.len{l:Nat}{items:List It}(H:IL f h p l c items):l=items.length:=by
 obtain⟨ys,D,a,_,e,_⟩:=H;rw[a,<-e,aA]
theorem rD(H:Be h b X s)(hk: ∀h' r n C,IL h h' r n C s.items->Fr No h h'->R (.slice r n C) h'):Cl 39 #[.P b 0] h R:=by
 obtain⟨L,⟨lp,lc,xs,a,S,H⟩,ok⟩:=H;obtain⟨hL,i'⟩:=H.Fl ok;refine zY.walk (fO H ⟨_,rfl,aI.of λa' K=> ?_⟩);simp only[bg];refine⟨_,_,_,aq H.cX,?_⟩;refine⟨λop O o t g=> ∃k:Nat,t=(k:Int)/\k<=xs.length/\IL h g op O o (s.items.take k)/\Fr No h g,λ_ _ _ t _=>xs.length - t.toNat,⟨0,rfl,ae,⟨[],λ_=>False,rfl,.nil rfl rfl rfl rfl,bQ,(λy hy=>by cases hy),(λy hy=>hy.elim),λy ⟨a,e,_⟩=>by cases e⟩,Fr.refl _ _⟩,?_⟩;rintro op O o _ g ⟨k,rfl,f',I,j⟩;have M:=H.on j;by_cases Q:k<xs.length
 .have q1:(k:Int)<(xs.length:Int):=ae
  simp only[q1,bt,bg,aC];have l:xs[k]? =some xs[k]:=aj Q;generalize xs[k]=x at l;obtain⟨ab,b',rfl⟩:=M.own.addr ae;refine⟨⟨by first|trivial|omega,by first|trivial|omega⟩,az.2 (aY.wm (M.own.fI gZ l) (aY.new λb1 h8 d' N f8=>aY.ld N ?_))⟩;have v:s.items[k]? =some x.abs:=by rw[<-H.abs,aF,l];rfl
  have T:=ok.it x.abs (aJ v);have dl:x.v.b.length<=600:=T.2.2.2.1;have V:=((M.Bb x (aJ l)).row).frame f8 cb;refine rY V rfl ae λm P E q f9 J=>⟨_,_,_,_,_,_,rfl,?_⟩
  have F:Fr No g m:=f8.tt f9;obtain⟨ys,D,W,Y,z,Z,A,B⟩:=I;have yl:ys.length<=16:=by
   have:=bP List.length z;rw[aA,bC]at this;omega
  have z9:=F.1;have zg:=j.1;have z8:=f8.1;refine iD tI uI (Y.frame F cb) rfl (λw hw=>by simp at hw;rcases hw with rfl|rfl|rfl|rfl<;>rfl) ae ae λj' c' e' U f11 G=>⟨_,_,_,rfl,?_⟩
  rw[bB ae ae];have u: ∀y,aL P y->g.size<=y/\y<m.size:=λy hy=>⟨bR (J y hy),q.dw hy⟩
  have k':=f11.1;refine⟨⟨k+1,ae,ae,⟨ys++ [⟨x.num,x.owner,⟨P,E,x.v.b⟩,x.cg⟩],λy=>D y\/aL P y,by rw[ar,W];rfl,?_,?_,?_,?_,?_⟩,?_⟩,by show xs.length - Int.toNat ((k:Int)+1)<xs.length - k;omega⟩
  .rw[bY];simpa using U
  .rw[aV,z,bm,v];rfl
  .intro w hw;rcases bz.1 hw with hw|hw
   .exact(((Z w hw).frame F cb).frame f11 (λy hy=>(A y hy).2.2)).mono (λy=> .inl)
   .obtain rfl:=bM.1 hw;exact BV.jr (q.frame f11 (λy hy i=>gv (u y hy) (Y.dw i))) (λy=> .inr)
  .rintro y (hy|hy)
   .have a:=A y hy;exact⟨a.1,ae,λi=>(G y i).elim a.2.2 (λh2=>ae)⟩
   .have a:=u y hy;exact⟨ae,ae,λi=>(G y i).elim (λh2=>bR (Y.dw h2)) (λh2=>ae)⟩
  .intro y hy;rcases G y hy with h2|h2
   .exact B y h2
   .omega
  .exact(j.tt F).fresh f11 B
 .have q1: ¬(k:Int)<(xs.length:Int):=ae
  simp only[q1,bf,au,aM];subst K;have g':=H.len;rw[bk ae]at I;exact hk g op O o I j
def oS(s:BS):cM:=cd s.next++cd s.taken++cd s.qc++cd s.over++cd s.items.length
def NL(x:It):cM:=cd x.num++cd x.owner.toNat++dJ x.d++cd x.cg
def vL(s:BS):List (cM):=oS s::s.items.map NL
theorem Ld(s:BS):(oS s).length<=60:=by
 unfold oS;simp only[ar];have a:=(bO s.next).2;have A:=(bO s.taken).2;have e:=(bO s.qc).2;have g:=(bO s.over).2;have i:=(bO s.items.length).2;omega
theorem NM{x:It}(h:x.d.length<=600):(NL x).length<=700:=by
 unfold NL dJ;simp only[ar];have a:=(bO x.num).2;have A:=(bO x.owner.toNat).2;have e:=(bO x.d.length).2;have g:=(bO x.cg).2;omega
theorem mq(H:Be h b X s)(U':s.next<=1000000000)(hk: ∀h' p' l' c',BL h h' p' l' c' (vL s)->Fr No h h'->R (.slice p' l' c') h'):Cl 24 #[.P b 0] h R:=by
 obtain⟨L,⟨lp,lc,xs,a,S,H⟩,ok⟩:=H;obtain⟨hL,V'⟩:=H.Fl ok;have S':=ok.xO;have x':=H.len;have N: ∀(n:Nat),fJ (n:Int)=n:=λn=>by unfold fJ;omega
 refine yx.walk (fO H ⟨_,rfl,?_⟩);simp only[dh,au,aM];refine⟨_,aq H.cX,_,aq H.cX,_,aq H.cX,_,aq H.cX,_,_,_,aq H.cX,?_⟩;refine hM.gu λh2 E' S2 W2 f2 g2=>⟨_,rfl,?_⟩
 have u2:Up h S2 h2:=⟨f2,g2⟩;have lb:=aE H.cX;have A: ∀{S:Nat->Prop}{h':ak},Up h S h'->¬S b:=λu l=>by have:=u.ge b l;omega
 have o:=f2.get H.cX id;refine⟨aq o,aq o,aq o,aq o,aq o,?_⟩;refine gR W2 bQ ae λh3 S3 W3 s3=>⟨_,rfl,?_⟩
 have w:=s3.fr.get o (A u2);have u3:=u2.step s3;rw[N,cy]at W3;have l1:=(bO s.next).2;refine⟨aq w,aq w,aq w,aq w,?_⟩;refine gR W3 ae ae λh4 S4 W4 s4=>⟨_,rfl,?_⟩
 have D:=s4.fr.get w (A u3);have u4:=u3.step s4;rw[N]at W4;have l2:=(bO s.taken).2;refine⟨aq D,aq D,aq D,?_⟩;refine gR W4 (by simp only[ar];omega) ae λh5 S5 W5 s5=>⟨_,rfl,?_⟩
 have K:=s5.fr.get D (A u4);have u5:=u4.step s5;rw[N]at W5;have l3:=(bO s.qc).2;refine⟨aq K,aq K,?_⟩;refine gR W5 (by simp only[ar];omega) ae λh6 S6 W6 s6=>⟨_,rfl,?_⟩
 have b6:=s6.fr.get K (A u5);have u6:=u5.step s6;rw[N]at W6;have l4:=(bO s.over).2;refine⟨aq b6,?_⟩;refine gR W6 (by simp only[ar];omega) ae λh7 S7 W7 s7=>⟨_,rfl,?_⟩
 have b7:=s7.fr.get b6 (A u6);have u7:=u6.step s7;rw[N,x']at W7;refine⟨aq b7,?_⟩;have hh:=Ld s;refine ir (bs:=oS s) W7 ae λq d8 i o8 f8 g8=>⟨_,_,_,rfl,?_⟩
 have b8:=f8.get b7 id;refine⟨aq b8,cI ?_⟩;have f9:Fr No i (i.push (.cells #[.slice q (oS s).length d8] 22)):=Fr.push _ _;have o9:fi (i.push (.cells #[.slice q (oS s).length d8] 22)) (Sa i.size 0) 1 1 1 (jO ⟨q,d8,oS s⟩):=.row i.size 0 _ _ rfl bV (bn _) bQ rfl (λj v hj=>by rw[bH];simpa using hj);have W:Fr No h i:=u7.fr.tt f8;have z8:=W.1;have z7:=u7.fr.1;have G:BL h (i.push (.cells #[.slice q (oS s).length d8] 22)) (Sa i.size 0) 1 1 [oS s]:=by
  refine⟨[⟨q,d8,oS s⟩],aL q,rfl,cH o9,rfl,?_,?_,λy ⟨a,e,e2⟩=>by cases e;rw[<-e2];exact z8⟩
  .intro x l;obtain rfl:=bM.1 l;exact BV.jr (o8.frame f9 cb) (λ_=>id)
  .intro y m;have h1:=g8 y m;have h2:=o8.dw m;exact⟨ae,by rw[du];omega,λ⟨a,e,e2⟩=>by cases e;have e2:i.size=y:=e2;omega⟩
 have J:Fr No h (i.push (.cells #[.slice q (oS s).length d8] 22)):=W.tt f9;generalize i.push (.cells #[.slice q (oS s).length d8] 22)=h9 at G J⊢;generalize (some (AA i.size 0):bZ)=p9 at G⊢;have Y:=H.on J;refine⟨aq Y.cX,_,_,_,aq Y.cX,?_⟩;refine⟨λop T Q t g=> ∃k:Nat,t=(k:Int)/\k<=xs.length/\BL h g op T Q (oS s::(s.items.take k).map NL)/\Fr No h g,λ_ _ _ t _=>xs.length - t.toNat,⟨0,rfl,ae,cH G,J⟩,?_⟩;rintro op T Q _ g ⟨k,rfl,T',B,F⟩;have M:=H.on F;by_cases y':k<xs.length
 .have q1:(k:Int)<(xs.length:Int):=ae
  simp only[q1,bt,bg,aC];have l:xs[k]? =some xs[k]:=aj y';generalize xs[k]=x at l;obtain⟨ab,J',rfl⟩:=M.own.addr ae;refine⟨⟨by first|trivial|omega,by first|trivial|omega⟩,az.2 (aY.wm (M.own.fI gZ l) (aY.new λb1 d' L' r f15=> ?_))⟩;have m':s.items[k]? =some x.abs:=by rw[<-H.abs,aF,l];rfl
  have z:=ok.it x.abs (aJ m');have dl:x.v.b.length<=600:=z.2.2.2.1;have xo:1<=x.owner/\x.owner<=1099511627776:=⟨z.2.2.2.2.1,z.2.2.2.2.2.1⟩;have xt:x.cg<=1099511627776:=z.2.2.2.2.2.2;have xn:x.num<s.next:=z.2.1;refine⟨_,aq r,_,aq r,_,_,_,aq r,_,aq r,?_⟩;refine hM.gu λu' E' n' o' f16 t'=>⟨_,rfl,?_⟩
  have i':Up d' n' u':=⟨f16,t'⟩;have W':=aE r;have P: ∀{S:Nat->Prop}{h':ak},Up d' S h'->¬S b1:=λu l=>by have:=u.ge b1 l;omega
  have C:=f16.get r id;refine⟨aq C,aq C,aq C,aq C,?_⟩;refine gR o' bQ ae λN' F' Z e'=>⟨_,rfl,?_⟩
  have E:=e'.fr.get C (P i');have j':=i'.step e';rw[N,cy]at Z;have l5:=(bO x.num).2;refine⟨aq E,aq E,aq E,?_⟩;refine gR Z ae ae λO' G' a' f'=>⟨_,rfl,?_⟩
  have O:=f'.fr.get E (P j');have U:=j'.step f';have eo:fJ x.owner=x.owner.toNat:=by unfold fJ;omega
  rw[eo]at a';have l6:=(bO x.owner.toNat).2;refine⟨aq O,aq O,?_⟩;have B':=((M.Bb x (aJ l)).row).frame (f15.tt U.fr) cb;refine mP a' (by simp only[ar];omega) B' rfl ae (λy m z' hS=> ?_) λP' H' q' g'=>⟨_,rfl,?_⟩
  .have a1:=(M.Bb x (aJ l)).own z' y m;have a2:=M.Ee y a1;have a3:=U.ge y hS;have a4:=f15.1;omega
  have s':=g'.fr.get O (P U);have D':=U.step g';have el:(dJ x.v.b).length=(cd x.v.b.length).length+x.v.b.length:=by unfold dJ;rw[ar]
  have l7:=(bO x.v.b.length).2;refine⟨aq s',?_⟩;refine fz x.cg q' (by simp only[ar];omega) rfl ae λQ' I' r' C'=>⟨_,rfl,?_⟩
  have k':=D'.step C';have rl:=NM (x:=x.abs) dl;refine ir (bs:=NL x.abs) r' ae λY' d21 v' A' f21 b'=>⟨_,_,_,rfl,?_⟩
  have I:Fr No g v':=f15.tt (k'.fr.tt f21);have z21:=I.1;have zg:=F.1;have Z':=(f15.tt k'.fr).1;have bl:=B.len;rw[aW,aA,bC]at bl;refine(B.on I).push ae A' (λy m=>⟨bR (b' y m),λho=>gv (B.lt ho) (b' y m)⟩) ae ?_;intro X' K' R' V f23 M';refine⟨_,_,_,rfl,?_⟩;rw[bB ae ae];refine⟨⟨k+1,ae,ae,?_,?_⟩,by show xs.length - Int.toNat ((k:Int)+1)<xs.length - k;omega⟩
  .rw[bm,m',aV];rw[dC]at V;exact V
  .obtain⟨_,_,_,_,_,_,_,w'⟩:=B;exact(F.tt I).fresh f23 w'
 .have q1: ¬(k:Int)<(xs.length:Int):=ae
  simp only[q1,bf,au,aM];rw[bk ae]at B;exact hk g op T Q B F

end gD
end
section
variable {h:ak} {R:fG}
variable {s c S:Nat} {owner:Int} {d:bZ}
theorem Le.walk{f:Bool}{g:Int}{i:Int}{j:ByteArray}{k:ByteArray}(u:aT h (.cells #[.bool f,.U g,.U i,.string j,.string k] 29) λb H=>ax.LD H (AA b 0) λw x y z A=>Cl 33 #[.agg #[.bool w,.U x,.U y,.string z,.string A]] H λv a=> ∃m T,v=.tuple #[.pointer m,.I T]/\if(T !=0)then R (.tuple #[.pointer none,.I T]) a else Cl 34 #[.I 4800,.I 1600] a λV e=> ∃l t,V=.tuple #[.pointer l,.I t]/\if(t !=0)then R (.tuple #[.pointer none,.I t]) e else Cl 35 #[] e λC n=>Vp C λt22=>Cl 36 #[] n λD o=>Vp D λt23=>Cl 37 #[] o λE p=>Vp E λt24=>Cl 38 #[] p λF q=>Vp F λt25=>aT q (.cells #[.pointer t22,.pointer t23,.pointer t24,.pointer t25,.pointer l,.pointer m,.U 0,.I 0] 41) λB r=>R (.tuple #[.P B 0,.I 0]) r):Cl 8 #[.agg #[.bool f,.U g,.U i,.string j,.string k]] h R:=aR (lq (lq (sq (lq (cq ll lf)) (lq (sq (lq (cq ll lf)) ll))))) Tryz.func8 u
theorem wW.walk(H: ∃t9,Cc h s 0 (.pointer t9)/\if(!t9.isNone)then∃t16,Cc h s 1 (.pointer t16)/\if(!t16.isNone)then∃t23,Cc h s 2 (.pointer t23)/\if(!t23.isNone)then∃t30,Cc h s 3 (.pointer t30)/\if(!t30.isNone)then∃t37,Cc h s 4 (.pointer t37)/\if(!t37.isNone)then∃t44,Cc h s 5 (.pointer t44)/\R (.bool (!t44.isNone)) h else R (.bool false) h else R (.bool false) h else R (.bool false) h else R (.bool false) h else R (.bool false) h):Cl 52 #[.P s 0] h R:=aR (lq ll) Tryz.func52 H
theorem wX.walk{now:Int}(n:Cl 52 #[.P s 0] h λv H=> ∃t9,v=.bool t9/\if(!t9)then R (.I 6) H else if(decide (now>1099511627776))then R (.I 1) H else∃t19,Cc H s 6 (.U t19)/\if(decide (now<t19))then R (.I 18) H else aQ H (AA s 6) (.U now) λi=>Hp i s 2 λt28=>Cl 53 #[.pointer t28,.U now] i λV j=>Vl V λE D C=>Hp j s 3 λt34=>Cl 54 #[.pointer t34,.U now] j λA k=>Vl A λo t F=> ∃(I:Int->ak->Prop)(m:Int->ak->Nat),I 0 k/\∀(t38:Int)(e:ak),I t38 e->if(decide (t38<(t:Int)))then Bd t38 t/\aO o λa=>aY.LD e (a.add (toNat t38*4)) λp q w u r x=>aT e (.cells #[.I 0,.I 0,.Z,.U 0] 119) λb l=>aY.ST l (AA b 0) p q w u r x λf=>Hp f s 4 λt45=>Hi f b 1 λt47=>Hl f b 2 λz T y=>Cl 55 #[.pointer t45,.I t47,.I (T:Int)] f λB g=>Vi B λt51=>Cc g b 2 (.slice z T y)/\(I (wrap .i64 (t38+1)) g/\m (wrap .i64 (t38+1)) g<m t38 e)else R (.I 0) e):Cl 16 #[.P s 0,.U now] h R:=aR (lq (sq (bq (lq (cq ll (lq (cq ll (lq (cq ll lf))))))) (lq (lq (sq (lq (bq (.loop [(38,.one (.int .i64))] (lq (sq (cq lf lf) (sq (bq (lq (pN 10))) lf)))))) ll))))) Tryz.func16 n
theorem yy.walk{g:bZ}{D f:Nat}{V:Int} (n:Cl 52 #[.P s 0] h λv H=> ∃t14,v=.bool t14/\if(!t14)then R (.tuple #[.I 0,.I 6]) H else aI (λ(t16:Bool) (a:ak)=>if t16 then R (.tuple #[.I 0,.I 15]) a else Hp a s 3 λt39=>Cl 240 #[.pointer t39,.I owner,.slice g D f,.U V] a λq b=> ∃i t,q=.tuple #[.I i,.I t]/\aI (λ(k:ak)=>R (.tuple #[.I i,.I t]) k) (λj=>if(t==0)then Hp b s 4 λt51=>Cl 241 #[.pointer t51,.I owner,.I (D:Int)] b λr l=> ∃t55,r=.I t55/\j l else j b)) (λJ=>Hp H s 3 λt20=>Cl 39 #[.pointer t20] H λu e=> ∃p T o,u=.slice p T o/\if(decide (((T:Nat):Int)≥16))then J true e else Hp e s 4 λt28=>Cl 239 #[.pointer t28,.I owner,.I (D:Int)] e λw m=> ∃t32,w=.bool t32/\J (!t32) m)):Cl 191 #[.P s 0,.I owner,.slice g D f,.U V] h R:=aR (lq (sq (bq (lq (cq ll (sq (.join [(16,.one (.bool))] lf) (cq ll lf))))) (lq (sq (lq (.join [] (cq lf lf))) ll)))) Tryz.func191 n
theorem uw.walk{num:Int} (o:aT h (.cells #[.I num] 3) λb l=>Cl 52 #[.P s 0] l λv e=> ∃t11,v=.bool t11/\if(!t11)then R (.I 6) e else Hp e s 3 λt16=>Cl 39 #[.pointer t16] e λV f=>Vl V λT t p=>Hp f s 3 λt21=>Hi f b 0 λt22=>Cl 152 #[.pointer t21,.I t22,.I owner] f λu m=>Vi u λt24=>Cl 153 #[.slice T t p,.func (.func 154) #[] #[.P b 0]] m λw g=>Vi w λt27=>aI (λ(t33:Bool) (H:ak)=>aI (λ(n:ak)=>R (.I t24) n) (λj=>if t33 then Hp H s 4 λt37=>Bd t27 t/\aO T λa=>oY H ((a.add (toNat t27*4)).add 2) λr k q=>Cl 55 #[.pointer t37,.I owner,.I (k:Int)] H λx i=>Vi x λt45=>aX i ((a.add (toNat t27*4)).add 2)=some (.slice r k q)/\j i else j H)) (λJ=>if(t24==0)then J (decide (t27≥0)) g else J false g)):Cl 102 #[.P s 0,.I num,.I owner] h R:=aR (lq (sq (lq (cq ll lf)) (lq (sq (pN 8) (sq (lq (sq (.join [(33,.one (.bool))] lf) (.join [] (cq (pN 12) lf)))) ll))))) Tryz.func102 o
theorem rG.walk{x:Int}{X:Int}{f:bZ}{e a:Nat}{g:Int}{c0:Nat}(i:aT h (.cells #[.I x,.I X,.slice f e a,.U g] 119) λb H=>Hi H b 0 λt5=> ∃t6,Cc H c0 0 (.I t6)/\R (.bool (t5==t6)) H):Cl 154 #[.agg #[.I x,.I X,.slice f e a,.U g],.P c0 0] h R:=aR (lq ll) Tryz.func154 i
theorem wY.walk (hv:Cl 52 #[.P s 0] h λv B=> ∃t11,v=.bool t11/\if(!t11)then R (.Z) B else Hp B s 5 λt16=>Cl 74 #[.pointer t16] B λPI O'=> ∃m' n' o' p' q' r' s',PI=.agg #[.bool m',.U n',.U o',.string p',.string q',.U r',.U s']/\aT O' (.cells #[.bool false,.U 0,.U 0,.string hC,.string hC,.U 0,.U 0] 124) λb Q'=>ai.ST Q' (AA b 0) m' n' o' p' q' r' s' λf'=>ax.LD f' (AA b 0) λUe Uf Ug Uh Ui=>Cl 75 #[.agg #[.bool Ue,.U Uf,.U Ug,.string Uh,.string Ui]] f' λNq e=> ∃L Uj,Nq=.tuple #[.string L,.I Uj]/\aI (λ(l:bZ) (f:ak)=>aI (λ(w:bZ) (k':ak)=>aO l λa=>cO.LD k' a λU9 PY Va Vc PZ Vd Ve P0 Vf Vg P1 Vh=> ∃(I:Int->ak->Prop)(m:Int->ak->Nat),I 0 k'/\∀(t66:Int)(H:ak),I t66 H->if(decide (t66<4))then Bd t66 4/\(t66=((0:Nat):Int)->Cl 66 #[.pointer w,.I (PY:Int)] H λKW l'=> ∃t72,KW=.pointer t72/\(I (wrap .i64 (t66+1)) l'/\m (wrap .i64 (t66+1)) l'<m t66 H))/\(t66=((1:Nat):Int)->Cl 66 #[.pointer w,.I (PZ:Int)] H λHD Z=> ∃Uk,HD=.pointer Uk/\(I (wrap .i64 (t66+1)) Z/\m (wrap .i64 (t66+1)) Z<m t66 H))/\(t66=((2:Nat):Int)->Cl 66 #[.pointer w,.I (P0:Int)] H λNN a'=> ∃Ul,NN=.pointer Ul/\(I (wrap .i64 (t66+1)) a'/\m (wrap .i64 (t66+1)) a'<m t66 H))/\(t66=((3:Nat):Int)->Cl 66 #[.pointer w,.I (P1:Int)] H λP2 b'=> ∃Um,P2=.pointer Um/\(I (wrap .i64 (t66+1)) b'/\m (wrap .i64 (t66+1)) b'<m t66 H))/\True else aO l λQ=>Cl 67 #[.pointer w] H λP3 c'=>Vl P3 λz' y' x'=>(aT c' (.cells #[.slice z' y' x'] 22) λG' I'=>Cl 77 #[.slice (cR (some Q) 4 0 1) (4 - 0) (4 - 0)] I' λP4 J'=>Vl P4 λUn Uo Uq=>aU Tryz.prog (Builtin.append_ #[64,64] 64 #[.slice (Sa G' 0) 1 1,.slice Un Uo Uq]) J' λP5 K'=> ∃E' C' A',P5=.slice E' C' A'/\R (.slice E' C' A') K')/\(Cl 77 #[.slice (cR (some Q) 4 0 1) (4 - 0) (4 - 0)] c' λHV L'=>Vl HV λP6 P9 Qa=>aT L' (.cells #[.slice z' y' x'] 22) λH' M'=>aU Tryz.prog (Builtin.append_ #[64,64] 64 #[.slice (Sa H' 0) 1 1,.slice P6 P9 Qa]) M' λHW N'=> ∃F' D' B',HW=.slice F' D' B'/\R (.slice F' D' B') N')/\True) (λP=>Hu f s 6 λt52=>Hi f s 7 λt57=>Hu f b 5 λt60=>Hu f b 6 λt63=>(Cl 65 #[] f λNO g=>Vp NO λt45=>Cc g b 6 (.U t63)/\Cc g b 5 (.U t60)/\Cc g s 7 (.I t57)/\Cc g s 6 (.U t52)/\aU Tryz.prog (convert 9 22 (.string L)) g λNP i=>Vl NP λUr Us Ut=>Cc i b 6 (.U t63)/\Cc i b 5 (.U t60)/\Cc i s 7 (.I t57)/\Cc i s 6 (.U t52)/\Cl 71 #[.pointer t45,.slice Ur Us Ut] i λNQ j=>Vp NQ λt48=>Cc j b 6 (.U t63)/\Cc j b 5 (.U t60)/\Cc j s 7 (.I t57)/\Cc j s 6 (.U t52)/\Cl 72 #[.pointer t48,.U t52] j λNR r=>Vp NR λt53=>Cc r b 6 (.U t63)/\Cc r b 5 (.U t60)/\Cc r s 7 (.I t57)/\Cl 66 #[.pointer t53,.I t57] r λNS C=>Vp NS λt58=>Cc C b 6 (.U t63)/\Cc C b 5 (.U t60)/\Cl 72 #[.pointer t58,.U t60] C λNT d'=>Vp NT λt61=>Cc d' b 6 (.U t63)/\Cl 72 #[.pointer t61,.U t63] d' λNU P'=> ∃t64,NU=.pointer t64/\P t64 P')/\(aU Tryz.prog (convert 9 22 (.string L)) f λSs k=>Vl Ss λQb Qc Qd=>Cc k b 6 (.U t63)/\Cc k b 5 (.U t60)/\Cc k s 7 (.I t57)/\Cc k s 6 (.U t52)/\Cl 65 #[] k λVU n=>Vp VU λUu=>Cc n b 6 (.U t63)/\Cc n b 5 (.U t60)/\Cc n s 7 (.I t57)/\Cc n s 6 (.U t52)/\Cl 71 #[.pointer Uu,.slice Qb Qc Qd] n λVV o=>Vp VV λUv=>Cc o b 6 (.U t63)/\Cc o b 5 (.U t60)/\Cc o s 7 (.I t57)/\Cc o s 6 (.U t52)/\Cl 72 #[.pointer Uv,.U t52] o λVW t=>Vp VW λUw=>Cc t b 6 (.U t63)/\Cc t b 5 (.U t60)/\Cc t s 7 (.I t57)/\Cl 66 #[.pointer Uw,.I t57] t λVX D=>Vp VX λUx=>Cc D b 6 (.U t63)/\Cc D b 5 (.U t60)/\Cl 72 #[.pointer Ux,.U t60] D λVY e'=>Vp VY λUy=>Cc e' b 6 (.U t63)/\Cl 72 #[.pointer Uy,.U t63] e' λVZ R'=> ∃w',VZ=.pointer w'/\P w' R')/\True)) (λJ=>Hp e s 0 λt27=>Hp e s 1 λt32=>Hp e s 2 λt37=>Hp e s 3 λt42=>(Cl 76 #[.pointer t27] e λV0 p=>Vl V0 λA z T=>Cc p s 3 (.pointer t42)/\Cc p s 2 (.pointer t37)/\Cc p s 1 (.pointer t32)/\(Cl 22 #[.pointer t32] p λV1 u=>Vl V1 λO N M=>Cc u s 3 (.pointer t42)/\Cc u s 2 (.pointer t37)/\(Cl 23 #[.pointer t37] u λV2 E=>Vl V2 λv' u' t'=>Cc E s 3 (.pointer t42)/\(Cl 24 #[.pointer t42] E λV3 S'=>Vl V3 λUz UA RC=>aT S' (.cells #[.Z,.Z,.Z,.Z] 152) λU T'=>cO.ST T' (AA U 0) A z T O N M v' u' t' Uz UA RC λU'=>J (Sa U 0) U')/\(aT E (.cells #[.Z,.Z,.Z,.Z] 152) λV g'=>Cc g' s 3 (.pointer t42)/\Cl 24 #[.pointer t42] g' λV4 V'=>Vl V4 λQe Qf Qg=>cO.ST V' (AA V 0) A z T O N M v' u' t' Qe Qf Qg λW'=>J (Sa V 0) W')/\True)/\(aT u (.cells #[.Z,.Z,.Z,.Z] 152) λW F=>Cc F s 3 (.pointer t42)/\Cc F s 2 (.pointer t37)/\Cl 23 #[.pointer t37] F λV5 h'=>Vl V5 λQh Qi Qj=>Cc h' s 3 (.pointer t42)/\Cl 24 #[.pointer t42] h' λV6 X'=>Vl V6 λQk Ql Qm=>cO.ST X' (AA W 0) A z T O N M Qh Qi Qj Qk Ql Qm λY'=>J (Sa W 0) Y')/\True)/\(aT p (.cells #[.Z,.Z,.Z,.Z] 152) λX x=>Cc x s 3 (.pointer t42)/\Cc x s 2 (.pointer t37)/\Cc x s 1 (.pointer t32)/\Cl 22 #[.pointer t32] x λV7 G=>Vl V7 λQn Qo Qp=>Cc G s 3 (.pointer t42)/\Cc G s 2 (.pointer t37)/\Cl 23 #[.pointer t37] G λV8 i'=>Vl V8 λQq Qr Qs=>Cc i' s 3 (.pointer t42)/\Cl 24 #[.pointer t42] i' λV9 Z'=>Vl V9 λQt Qu Qv=>cO.ST Z' (AA X 0) A z T Qn Qo Qp Qq Qr Qs Qt Qu Qv λWa=>J (Sa X 0) Wa)/\True)/\(aT e (.cells #[.Z,.Z,.Z,.Z] 152) λY q=>Cc q s 3 (.pointer t42)/\Cc q s 2 (.pointer t37)/\Cc q s 1 (.pointer t32)/\Cc q s 0 (.pointer t27)/\Cl 76 #[.pointer t27] q λWb y=>Vl Wb λQw Qx Qy=>Cc y s 3 (.pointer t42)/\Cc y s 2 (.pointer t37)/\Cc y s 1 (.pointer t32)/\Cl 22 #[.pointer t32] y λWc K=>Vl Wc λQz QA QB=>Cc K s 3 (.pointer t42)/\Cc K s 2 (.pointer t37)/\Cl 23 #[.pointer t37] K λWd j'=>Vl Wd λQC QD QE=>Cc j' s 3 (.pointer t42)/\Cl 24 #[.pointer t42] j' λWe Wf=>Vl We λQF QG QH=>cO.ST Wf (AA Y 0) Qw Qx Qy Qz QA QB QC QD QE QF QG QH λWg=>J (Sa Y 0) Wg)/\True)):Cl 27 #[.P s 0] h R:=aR (lq (sq (lq (cq ll lf)) (lq (lq (sq (.join [(6,.one (.ptr))] (.gT (.op 0 (.op 1 (.op 2 (.op 3 (.op 5 (.op 6 (.op 7 (.op 8 (.op 10 (.op 11 (.op 12 (.op 13 (.op 15 (.op 16 (.op 17 (.op 18 (.alts (.fork 4 (.alts (.fork 9 (.alts (.fork 14 (.alts (.fork 19 (ga 3 20 .done) (.fork 21 (.op 19 (.op 20 (.op 22 .done))) .gy))) (.fork 21 (.op 14 (.op 19 (.op 20 (.op 22 .done)))) .gy))) (.fork 21 (.op 9 (.op 14 (.op 19 (.op 20 (.op 22 .done))))) .gy))) (.fork 21 (.op 4 (.op 9 (.op 14 (.op 19 (.op 20 (.op 22 .done)))))) .gy))))))))))))))))))))) (sq (.join [(7,.one (.ptr))] (.gT (.op 1 (.op 4 (.op 5 (.op 6 (.op 7 (.op 9 (.op 10 (.op 11 (.op 12 (.op 14 (.op 15 (.op 17 (.op 18 (.alts (.fork 0 (.op 2 (.op 3 (.op 8 (.op 13 (.op 16 (.op 19 (.op 20 .done))))))) (.fork 2 (.op 0 (.op 3 (.op 8 (.op 13 (.op 16 (.op 19 (.op 20 .done))))))) .gy)))))))))))))))))) (sq (lq (bq (.loop [(66,.one (.int .i64))] (lq (sq (cq lf lf) (sq (bq ll) lf)))))) (sq (.gT (.op 0 (.op 3 (.op 1 (.alts (.fork 2 (ga 3 4 .done) (.fork 4 (.op 2 (.op 5 (.op 6 .done))) .gy))))))) lf)))))))) Tryz.func27 hv
theorem Lf.walk{f:Bool}{g:Int}{i:Int}{j:ByteArray}{k:ByteArray}(m:aT h (.cells #[.bool f,.U g,.U i,.string j,.string k] 29) λb e=>aI (λ(t11:Bool) (H:ak)=>if t11 then R (.tuple #[.pointer none,.I 3]) H else ax.LD H (AA b 0) λt T n o p=>aT H (.cells #[.bool t,.U T,.U n,.string o,.string p,.U 0,.U 0,.bool true] 166) λB l=>R (.tuple #[.P B 0,.I 0]) l) (λJ=>ax.LD e (AA b 0) λq r u w x=>Cl 86 #[.agg #[.bool q,.U r,.U u,.string w,.string x]] e λv a=> ∃t5,v=.bool t5/\if(!t5)then J true a else ax.LD a (AA b 0) λy z A C D=> ∃(eq:Bool),yD Tryz.prog 29 (.agg #[.bool y,.U z,.U A,.string C,.string D]) (.agg #[.bool false,.U 0,.U 0,.string hC,.string hC]) eq/\J eq a)):Cl 33 #[.agg #[.bool f,.U g,.U i,.string j,.string k]] h R:=aR (lq (sq (sq (.join [(11,.one (.bool))] lf) (cq ll lf)) ll)) Tryz.func33 m
theorem wZ.walk{m:Nat}(g:aT h (.cells #[.bool false,.U 0,.U 0,.string hC,.string hC,.U 0,.U 0] 124) λb a=>aI (λ(t11:Bool) (H:ak)=>if t11 then ai.ST H (AA b 0) false 0 0 hC hC 0 0 λe=>ai.LD e (AA b 0) λr j l o q u w=>R (.agg #[.bool r,.U j,.U l,.string o,.string q,.U u,.U w]) e else ai.LD H (AA m 0) λT y z A B C D=>ai.ST H (AA b 0) T y z A B C D λf=>ai.LD f (AA b 0) λi k n p t v x=>R (.agg #[.bool i,.U k,.U n,.string p,.string t,.U v,.U x]) f) (λJ=> ∃t9,Cc a m 7 (.bool t9)/\J (!t9) a)):Cl 74 #[.P m 0] h R:=aR (lq (sq (sq (.join [(11,.one (.bool))] lf) (cq ll lf)) ll)) Tryz.func74 g
theorem lP.walk{g:bZ}{e x:Nat} (w: ∃(I:Int->Int->ak->Prop)(m:Int->Int->ak->Nat),I 0 0 h/\∀(size:Int)(t11:Int)(H:ak),I size t11 H->if(decide (t11<(e:Int)))then aI (λ(o:Int) (k:ak)=>(I o (wrap .i64 (t11+1)) k/\m o (wrap .i64 (t11+1)) k<m size t11 H)) (λJ=>Bd t11 e/\aO g λa=>oY H (a.add (toNat t11*1)) λG p F=>aI (λ(r:ak)=>J (wrap .i64 (size+(p:Int))) r) (λq=>if(decide ((wrap .i64 (size+(p:Int)))<0))then False else q H))else Cl 138 #[.Z,.I size] H λv u=>Vl v λB z y=> ∃(i:bZ->Nat->Nat->Int->ak->Prop)(M:bZ->Nat->Nat->Int->ak->Nat),i B z y 0 u/\∀(f:bZ)(N n:Nat)(t27:Int)(b:ak),i f N n t27 b->if(decide (t27<(e:Int)))then Bd t27 e/\aO g λA=>oY b (A.add (toNat t27*1)) λE D C=>aU Tryz.prog (Builtin.append_ #[64,64] 64 #[.slice f N n,.slice E D C]) b λV l=> ∃j T t,V=.slice j T t/\(i j T t (wrap .i64 (t27+1)) l/\M j T t (wrap .i64 (t27+1)) l<M f N n t27 b)else R (.slice f N n) b):Cl 77 #[.slice g e x] h R:=aR (lq (lq (sq (lq (bq (.loop [(3,.one (.int .i64)),(11,.one (.int .i64))] (lq (sq (cq lf lf) (sq (.join [(3,.one (.int .i64))] (bq (lq (lq (lq (.join [] (cq lf lf))))))) lf)))))) (lq (sq (lq (bq (.loop [(6,.one (.slice)),(27,.one (.int .i64))] (lq (sq (cq lf lf) (sq (bq ll) lf)))))) ll))))) Tryz.func77 w
theorem mr.walk{n:Int} (e:aI (λ(H:ak)=>aI (λ(i:bZ) (g f:Nat) (a:ak)=>R (.slice i g f) a) (λj=>if(decide ((wrap .i64 (n - (wrap .i64 ((S:Int) - (c:Int)))))>0))then((0:Int)<=(S:Int)/\(S:Int)<=(S:Int))/\aU Tryz.prog (Builtin.append_ #[64,3] 64 #[.slice (cR d S 0 1) ((toNat (S:Int)) - 0) (S - 0),.I (wrap .i64 (n - (wrap .i64 ((S:Int) - (c:Int)))))]) H λv b=>Vl v λT k t=>((0:Int)<=(c:Int)/\(c:Int)<=(t:Int))/\j (cR T t 0 1) ((toNat (c:Int)) - 0) (t - 0) b else j d c S H)) (λJ=>if(decide (n<0))then False else J h)):Cl 138 #[.slice d c S,.I n] h R:=aR (lq (sq (lq (.join [] (cq lf lf))) (sq (lq (lq (.join [(0,.one (.slice))] (cq lf lf)))) ll))) Tryz.func138 e
theorem fE.cancel.walk{f:Nat}(e: ∃(I:Int->ak->Prop)(m:Int->ak->Nat),I 0 h/\∀(t8:Int)(H:ak),I t8 H->if(decide (t8<(c:Int)))then Bd t8 c/\aO d λa=>aY.LD H (a.add (toNat t8*4)) λt T j i g k=>Cl 154 #[.agg #[.I t,.I T,.slice j i g,.U k],.P f 0] H λv b=> ∃t16,v=.bool t16/\if t16 then R (.I t8) b else(I (wrap .i64 (t8+1)) b/\m (wrap .i64 (t8+1)) b<m t8 H)else R (.I (-1)) H):Cl 153 #[.slice d c S,.func (.func 154) #[] #[.P f 0]] h R:=aR (lq (sq (lq (bq (.loop [(8,.one (.int .i64))] (lq (sq (cq lf lf) (sq (bq (lq (lq (cq ll lf)))) lf)))))) ll)) Tryz.func153 e

end
section
namespace eN
open gD (It)
open iY (Ev cV kO)
variable {h h':ak} {R:fG} {s k:Nat} {X:Ft} {I:sK} {σ:SS}
variable {n r:Nat} {x:It} {l:List It} {L:List Go.kQ.E} {B:gD.BS}
theorem fO(B:Bk h s I n r)(hk:R (.bool true) h):Cl 52 #[pt s] h R:=by
 refine wW.walk ?_;repeat (first|exact hk|refine⟨_,aq B,?_⟩|rw[ah rfl])
theorem Pt.put(H:Pt h s X I σ)(b:Bk h' s I n r)(m:h'.size=h.size)(j: ∀x,x≠s->h'[x]? =h[x]?): ∃a,Pt h' s a I { σ with now:=n,rf:=r } /\bN X h a h':=by
 obtain⟨Z,⟨o,on⟩,p,z,go⟩:=H.use 6;obtain⟨a,d,st,_,_⟩:=go h' Z { σ with now:=n,rf:=r } ⟨b,on⟩ (bN.uT (Fr.of_eq m λc f=>j c (λe=>f ((on c).1.2 e)))) (λi g=>Sj _ _ g);exact⟨a,d,st⟩
theorem Pt.UB{n o:Int}(H:Pt h s X I σ)(e:σ.Q.Perm (x::l))(ok:sS σ.Q)(K:VL x)(d:n=(x.d.length:Int))(g:o=x.owner)(hk: ∀h' a,Pt h' s a I { σ with Q:=l } ->bN X h a h'->R (.I 0) h'):Cl 55 #[pt I.p,.I o,.I n] h R:=by
 subst g;obtain⟨Z,⟨m,P,on⟩,q,z,go⟩:=H.use 4;refine Tw (P.perm e) (sS.perm ok e) K d λh' p f=> ?_
 obtain⟨a,b,st,_,_⟩:=go h' Z { σ with Q:=l } ⟨m,p,on⟩ (bN.uT (f.mono λy _ j=>(on y).1.2 j)) (λi c=>HN _ c);exact hk h' a b st
theorem Pt.perm(H:Pt h s X I σ)(e:σ.Q.Perm l):Pt h s X I { σ with Q:=l } :=by
 obtain⟨Y,b,r⟩:=H;refine⟨Y,λi=> ?_,r⟩;by_cases a:i=4
 .subst a;obtain⟨m,P,on⟩:=b 4;exact⟨m,P.perm e,on⟩
 .rw[HN _ a];exact b i
theorem FH{r:List It}(ok:sS (l++r)): ∀j,sS (l.drop j++r)
 |0=>ok
 |j+1=>by
  have h:=FH ok j;rcases Nat.lt_or_ge j l.length with q|q
  .rw[da q]at h;exact sS.sub h
  .rw[List.drop_eq_nil_of_le q]at h;rw[List.drop_eq_nil_of_le ae];exact h
theorem Pt.okB(H:Pt h s X I σ): ∃L,gD.okB σ.B L:=by
 obtain⟨Z,L,B,ok⟩:=H.box;exact⟨L,ok⟩
theorem Pt.ord(H:Pt h s X I σ):gx.Ord σ.C:=by
 obtain⟨Y,a,_⟩:=H;exact gx.Ct.ord (a 2)
theorem NV(ok:gD.okB B L)(H:x∈B.items):VL x:=by
 have:=ok.it x H;exact⟨this.2.2.1,this.2.2.2.1,this.2.2.2.2.1,this.2.2.2.2.2.1⟩
theorem Good.small(G:Good σ k)(O:gx.Ord σ.C)(hk:k<=40000):gx.Small σ.C:=G.c.small O hk
theorem Lh(ok:gD.okB B L){P:It->Bool}{ys:List It}(c: ∀y∈ys,y∈B.items)(b:(ys.map It.kv).Perm ((B.items.filter P).map It.kv)):ys.Perm (B.items.filter P):=by
 have nd: ∀{l:List It},l.Sublist B.items->(l.map It.num).Nodup:=λd=>((ok.inc.sublist (d.map It.num))).imp λh=>Nat.ne_of_lt h
 have n1:((ys.map It.kv).map (λe=>e.1)).Nodup:=by
  refine(b.map _).nodup_iff.2 ?_;rw[dK];have:=nd (cU (l:=B.items) (p:=P));unfold List.Nodup at this⊢;rw[en]at this⊢;exact this.imp λh e=>h (by have e:(_:Int)=(_:Int):=e;exact Int.ofNat.inj e)
 have n2:ys.Nodup:=by
  rw[dK]at n1;unfold List.Nodup at n1⊢;rw[en]at n1;exact n1.imp λh e=>h (by rw[e])
 have N:(B.items.filter P).Nodup:=by
  have:=nd (cU (l:=B.items) (p:=P));unfold List.Nodup at this⊢;rw[en]at this;exact this.imp λh e=>h (by rw[e])
 rw[List.perm_ext_iff_of_nodup n2 N];have inj: ∀x∈B.items,∀y∈B.items,x.kv=y.kv->x=y:=λx H y a e=>gD.uniq ok.inc H a (by have e:((x.num:Nat):Int)=((y.num:Nat):Int):=bP Prod.fst e;exact Int.ofNat.inj e)
 intro x;constructor
 .intro H;obtain⟨y,a,e⟩:=bj.1 (b.mem_iff.1 (bj.2 ⟨x,H,rfl⟩));rw[inj x (c x H) y (ba.1 a).1 e.symm];exact a
 .intro H;obtain⟨y,a,e⟩:=bj.1 (b.mem_iff.2 (bj.2 ⟨x,H,rfl⟩));rw[inj x (ba.1 H).1 y (c y a) e.symm];exact a
theorem HX(l:List It)(now:Nat):l.Perm (l.filter (λx=>decide ((x.cg:Int)<=(now:Int)))++l.filter (λx=>decide ((now:Int)<(x.cg:Int)))):=by
 have h:=(List.filter_append_perm (λx:It=>decide ((x.cg:Int)<=(now:Int))) l).symm;have e:(λx:It=> !decide ((x.cg:Int)<=(now:Int)))=λx:It=>decide ((now:Int)<(x.cg:Int)):=funext λx=>by
  by_cases q:(x.cg:Int)<=(now:Int)
  .rw[aw q,aD ae];rfl
  .rw[aD q,aw ae];rfl
 rw[e]at h;exact h
theorem vw{n:Int}(now:Nat)(hn:n=(now:Int))(H:Pt h s X I σ)(G:Good σ k)(j':k<=30000)(hk: ∀h' M,Pt h' s M I (xT σ now)->bN X h M h'->R (.I (xS σ now)) h'):Cl 16 #[pt s,.U n] h R:=by
 subst hn;have B:=H.cX;refine wX.walk (fO B ⟨_,rfl,?_⟩);rw[dz];unfold xT at hk;by_cases t:now>1099511627776
 .have e:xS σ now=1:=ah t;rw[e,dz]at hk;rw[gh];exact hk h X H (bN.refl _ _)
 rw[af (λe=>t (bR (aP e)))];refine⟨_,aq B,?_⟩;by_cases u:now<σ.now
 .have e:xS σ now=18:=by unfold xS;rw[af t,ah u]
  rw[e,dz]at hk;rw[gh];exact hk h X H (bN.refl _ _)
 rw[af (λe=>u (bR (aP e)))];have e:xS σ now=0:=by unfold xS;rw[af t,af u]
 rw[e,ah rfl]at hk;refine bL B bQ λu a1 a2 a3=> ?_
 obtain⟨P,m,S⟩:=H.put (n:=now) (r:=σ.rf) a1 a2 a3;have a':=H.ord;have sm:=G.small a' ae;obtain⟨Z,f,zm,zd,go⟩:=m.use 2;refine⟨_,aq m.cX,gx.vw f sm (by have:=G.c.L;show σ.C.over<=_;omega) (gx.Good.held G.c) (now:Int) λT Z3 p3 c3 C3 s3 N3 g3=>⟨_,_,_,rfl,?_⟩⟩;obtain⟨X3,K,f',_,_⟩:=go T Z3 { σ with now:=now,C:=gx.kq σ.C (now:Int) } C3 s3 (λi A=>wQ (σ:= { σ with now:=now }) _ A);obtain⟨Z,f,zm,zd,go⟩:=K.use 3;obtain⟨L,okB⟩:=H.okB;refine⟨_,aq K.cX,gD.vw now rfl f (by have:=G.b;show σ.B.next<=_;omega) λU Z4 p4 c4 ys D F s4 Y d4 N e4 l' e' W=>⟨_,_,_,rfl,?_⟩⟩;have yp:(ys.map gD.IV.abs).Perm (σ.B.items.filter (λx=>decide ((x.cg:Int)<=(now:Int)))):=Lh okB (λy c=>by obtain⟨z,f,rfl⟩:=bj.1 c;exact W z f) (by rw[e4];exact e');have yl:ys.length=(σ.B.items.filter (λx=>decide ((x.cg:Int)<=(now:Int)))).length:=by rw[<-yp.length_eq,aA]
 have eB:({ σ.B with items:=σ.B.items.filter (λx=>decide ((now:Int)<(x.cg:Int))),over:=σ.B.over+ys.length } :gD.BS)=sW σ.B now:=by unfold sW;rw[yl]
 rw[eB]at F;obtain⟨p,H4,g',i',c'⟩:=go U Z4 { σ with now:=now,C:=gx.kq σ.C (now:Int),B:=sW σ.B now } F s4 (λi A=>HM (σ:= { σ with now:=now,C:=gx.kq σ.C (now:Int) }) _ A);have st:=S.trans (f'.trans g');have b': ∀y,aL p4 y->¬(p.M y\/p.D y)/\T.size<=y:=λy c=>⟨λd=>(N y c).2 (c' y (N y c).1 d),(N y c).1⟩
 have V:(σ.Q).Perm (ys.map gD.IV.abs++(sW σ.B now).items):=by
  rw[G.q];exact(HX _ now).trans (yp.symm.append_right _)
 have ox:sS (ys.map gD.IV.abs++(sW σ.B now).items):=sS.perm G.ok V;refine⟨λi g=> ∃(j:Nat)(q:Ft),i=(j:Int)/\j<=ys.length/\Pt g s q I { σ with now:=now,C:=gx.kq σ.C (now:Int),B:=sW σ.B now,Q:=(ys.map gD.IV.abs).drop j++(sW σ.B now).items } /\bN p U q g/\fi g p4 ys.length c4 4 (ys.flatMap gD.gw),λi _=>ys.length - i.toNat,
  ⟨0,p,rfl,br _,H4.perm V,bN.refl _ _,Y⟩,?_⟩
 rintro _ g ⟨j,q,rfl,hj,o,E,O⟩;have k':ys.length<=16:=by rw[yl];exact cD (cC _ _) okB.le
 by_cases w:j<ys.length
 .rw[gh];have c:ys[j]? =some ys[j]:=aj w;obtain⟨pb,po,rfl⟩:=O.addr ae;refine⟨ae,az.2 (aY.wm (by rw[aC];exact O.fI gD.gZ c) (aY.new λb g1 eb v f1=> ?_))⟩;have J:=o.on f1;have ed:(ys.map gD.IV.abs).drop j=ys[j].abs::(ys.map gD.IV.abs).drop (j+1):=by
   rw[da (by rw[aA];exact w),List.getElem_map]
  have d':=FH ox j;refine⟨_,aq J.cX,_,aq v,_,_,_,aq v,J.UB (x:=ys[j].abs) (l:=(ys.map gD.IV.abs).drop (j+1)++(sW σ.B now).items) (by show((ys.map gD.IV.abs).drop j++_).Perm _;rw[ed];exact .refl _) d' (NV okB (W _ (dQ w))) rfl rfl λg2 P m S=>⟨_,rfl,?_,?_⟩⟩
  .have lb:=aE v;exact S.fr.cell (aq v) (λd=>bR (o.lt b (.inl d)))
  .rw[bB ae ae];have s2:=E.on f1|>.trans S
   refine⟨⟨j+1,P,ae,ae,m,s2,(O.frame f1 cb).frame S.fr (λy c d=> ?_)⟩,by show ys.length - Int.toNat ((j:Int)+1)<ys.length - Int.toNat (j:Int);omega⟩;rcases E.jD y d with a|a
   .exact(b' y c).1 (.inl a)
   .have:=Y.dw c;omega
 .rw[af (λe=>w (bR (aP e)))];refine hk g q ?_ (st.trans E);rw[List.drop_eq_nil_of_le (by rw[aA];omega)]at o;exact o

end eN
end
section
open Go.fk
namespace eE
open hM
variable {h h':ak} {t:Nat} {X:Ft} {R:fG} {p:bZ} {c i:Nat} {o:PC} {D:Nat→Prop} {L:List SC} {A:List eE}
variable {num k:Int} {b:cM} {n m nc':Nat} {s:SC} {d g:ak} {K':List BV} {np':bZ} {E:Nat->Prop}
theorem oe.on(T:oe h t o D L)(f:Fr No h h'):oe h' t o D L:=by
 obtain⟨p,c,H,own,a⟩:=T.cX;refine⟨⟨p,c,f.get H id,own.frame f cb,a⟩,T.O6,λi s j=>(T.ses i s j).frame f (λ_ _ _ _ _=>id) cb,?_,?_,T.ap⟩
 .intro c r e;exact cE (T.Ng c r e) f.1
 .intro c hd;exact cE (T.Ee c hd) f.1
theorem HY(xs:List AV)(id:Nat):(xs.filter (λx=>decide (x.id≠id))).map AV.abs=(xs.map AV.abs).filter (λa=>decide (a.1≠id)):=by
 rw[dN];rfl
theorem NW{B:List Nat}(id:Nat)(x':k=(id:Int))(H:sH h t X A B)(ok:ox A)(hr:Row h p (bc b))(I:n=b.length)(hp:b≠ []->∀x,aL p x->¬X.M x)(hk: ∀h' O,sH h' t O (jz A num id b) B->bN X h O h'->R (.I (Nj A num id b)) h'):
  Cl 46 #[.P t 0,.I num,.U k,.slice p n m] h R:=by
 subst x' I;have N:=H;obtain⟨o,L,Y,rfl,rfl,hS⟩:=H;have hl:=ok.le;rw[aA]at hl;refine sD.walk (cI ?_);have f1:Fr No h (h.push (.cells #[.U (id:Int)] 27)):=Fr.push _ _;have b':re (h.push (.cells #[.U (id:Int)] 27)) h.size id:=bV;have N':(h.push (.cells #[.U (id:Int)] 27)).size=h.size+1:=du _;generalize h.push (.cells #[.U (id:Int)] 27)=d at f1 b' N'⊢;have Z:=Y.on f1;have st1:bN X h X d:=bN.iP f1;unfold jz Nj at hk;refine jc Z (λi s e Q=>⟨_,_,rfl,?_⟩) (λI=>⟨_,_,rfl,?_⟩) ae
 .rw[af bQ];subst e;rw[rZ,mR Q]at hk;dsimp only at hk;refine aI.of λd' hJ=> ?_
  have jt:(id>1099511627776\/b.length>1000)->d' true d:=by
   intro hh;subst hJ;simp only[bg];simp only[hh,bg]at hk;exact hk d X (N.frame f1 (λ_ _ x=>x)) st1
  have jf: ¬(id>1099511627776\/b.length>1000)->d' false d:=by
   intro hh;subst hJ;simp only[au,aM];simp only[hh,aM]at hk;have S:=Z.ses i s Q;have pj:=ok.at_ i _ (mR Q);have kl:s.kept.length<=6:=by have:=pj.kl;rwa[show s.abs.kept.length=s.kept.length from aA _]at this
   have T: ∀c,aL s.kp c->c≠s.b:=λc q e=>by have d:=S.kl c q;rw[e,S.lb]at d;simp at d
   have G': ∀c,aL s.np c->c≠s.b:=λc q e=>by have d:=S.nl c q;rw[e,S.lb]at d;simp at d
   have m': ∀c,aL s.kp c->¬aL s.np c:=λc q y=>by have d:=S.kl c q;rw[S.nl c y]at d;simp at d
   have kS: ∀c,aL s.kp c->X.M c:=λc q=>(hS c).2 ⟨_,S.kl c q⟩
   have bS:X.M s.b:=(hS s.b).2 ⟨_,S.lb⟩;have j': ¬aL s.kp h.size:=λf=>by have:=(N.lt _ (.inl (kS _ f)));omega
   have B':h.size≠s.b:=λe=>by have:=N.lt _ (.inl bS);omega
   have kD: ∀c,X.D c->¬(c=s.b\/aL s.kp c):=λc q f=>f.elim (λe=>Y.ap c _ (e▸S.lb) q) (λf=>Y.ap c _ (S.kl c f) q)
   refine az.2 ⟨_,_,_,aq S.cX,Hq S.qh rfl ae b' j' λh4 o4 f4 z'=>⟨_,_,_,rfl,az.2 ?_⟩⟩;have w':=f4.get S.cX (λf=>T _ f rfl);refine bL w' bQ λF k1 k2 k3=>az.2 ?_
   have f5:Fr (λx=>x=s.b) h4 F:=Fr.of_eq k2 k3;have c':re F h.size id:=f5.get z' B';have W:Fr (λx=>x=s.b\/aL s.kp x) d F:=(f4.mono (λ_ _ f=> .inr f)).tt (f5.mono (λ_ _ f=> .inl f));have M':Row F p (bc b):=by
    by_cases hb:b= []
    .rw[hb];exact .inl rfl
    .refine(hr.frame f1 (λ_ _ x=>x)).frame W (λa e f=> ?_);have:=hp hb a.block ⟨a,e,rfl⟩;exact f.elim (λe=>this (e▸bS)) (λf=>this (kS _ f))
   refine⟨_,_,_,aq k1,_,aq c',gQ M' rfl ae λP C w o6 f6 g6=>⟨_,_,_,rfl,aq (f6.get c' (λx=>x)),aq (f6.get k1 (λx=>x)),?_⟩⟩;refine cI ?_;have f7:Fr No w (w.push (.cells #[.U (id:Int),.slice P b.length C] 161)):=Fr.push _ _;have p':Row (w.push (.cells #[.U (id:Int),.slice P b.length C] 161)) (Sa w.size 0) (AV.enc ⟨id,⟨P,C,b⟩⟩):=iS (cs:=AV.enc ⟨id,⟨P,C,b⟩⟩);have O':(w.push (.cells #[.U (id:Int),.slice P b.length C] 161)).size=w.size+1:=du _;generalize w.push (.cells #[.U (id:Int),.slice P b.length C] 161)=h7 at f7 p' O'⊢;have f67:=f6.tt f7;have i':re h7 h.size id:=f67.get c' (λx=>x);have k':=f67.get k1 (λx=>x);refine⟨aq i',aq k',?_⟩;have o5:=o4.frame f5 (λx f e=>T x f e);have o7:=o5.frame f67 (λ_ _ x=>x);have fl:=cC (λx:AV=>decide (x.id≠id)) s.kept;refine dD tA uA o7 p' rfl (λv hv=>by simp at hv;rcases hv with rfl|rfl<;>rfl) ae ae ?_;intro p8 c8 h8 o8 _ f8 g8;have A':re h8 h.size id:=f8.get i' j';have C':=f8.get k' (λf=>T _ f rfl);refine⟨_,_,_,rfl,aq A',az.2 ?_⟩;refine bL C' bQ λz q1 q2 q3=>az.2 ⟨_,_,_,aq q1,?_⟩
   have f9:Fr (λx=>x=s.b) h8 z:=Fr.of_eq q2 q3;have z5:d.size<=F.size:=W.1;have z6:=f6.1;have z8:=f8.1;have P':s.b<d.size:=aE S.cX;have l': ∀c,aL s.kp c->c<d.size:=λc q=>S.qh.dw q
   have n': ∀c,aL p8 c->aL s.kp c\/h7.size<=c:=g8;have F': ∀c,aL p8 c->c≠s.b:=λc q e=>(n' c q).elim (λf=>T c f e) (λf=>ae)
   have U:=o8.frame f9 (λx f e=>F' x f e);have F9:Fr (λx=>x=s.b\/aL s.kp x) d z:=W.tt ((f67.mono (λ_ _=>False.elim)).tt ((f8.mono (λ_ _ f=> .inr f)).tt (f9.mono (λ_ _ f=> .inl f))));have r: ∀c,aL P c->F.size<=c/\c<w.size:=λc q=>⟨g6 c q,o6.dw q⟩
   have I':fi z P b.length C 1 (bc b):=((o6.frame f7 (λ_ _ x=>x)).frame f8 (λc q f=>gv (r c q) (l' c f))).frame f9 (λc q e=>bR (r c q));have r':(s.kept.filter (λx:AV=>decide (x.id≠id))).flatMap AV.enc++AV.enc ⟨id,⟨P,C,b⟩⟩=(s.kept.filter (λx:AV=>decide (x.id≠id))++ [(⟨id,⟨P,C,b⟩⟩:AV)]).flatMap AV.enc:=by rw[bY];simp
   rw[r']at U;have D':(s.kept.filter (λx:AV=>decide (x.id≠id))++ [(⟨id,⟨P,C,b⟩⟩:AV)]).map AV.abs=s.abs.kept.filter (λa=>decide (a.1≠id))++ [(id,b)]:=by
    rw[aV,HY];rfl
   have M:(s.kept.filter (λx:AV=>decide (x.id≠id))++ [(⟨id,⟨P,C,b⟩⟩:AV)]).length=(s.kept.filter (λx:AV=>decide (x.id≠id))).length+1:=by rw[ar];rfl
   have E': ∀a∈s.kept.filter (λx:AV=>decide (x.id≠id))++ [(⟨id,⟨P,C,b⟩⟩:AV)],a.v.ok z (λc=>X.D c\/aL P c):=by
    intro a ha;rcases bz.1 ha with ha|ha
    .exact((S.kd a (ba.1 ha).1).frame F9 kD).mono (λc=> .inl)
    .simp at ha;subst ha;exact BV.jr I' (λc=> .inr)
   generalize s.kept.filter (λx:AV=>decide (x.id≠id))++ [(⟨id,⟨P,C,b⟩⟩:AV)]=K at*;generalize (s.kept.filter (λx:AV=>decide (x.id≠id))).length=t' at*;refine aI.of λJ1 g'=> ?_
   have fin: ∀(g:ak)(K':List AV)(G:bZ)(J:Nat),(∃j,K'=K.drop j)->K'.map AV.abs=gV s.abs.kept id b->At g { s with kept:=K',kp:=G,kc:=J } ->fi g G K'.length J 2 (K'.flatMap AV.enc)->
     (∀c,aL G c->aL s.kp c\/h7.size<=c)->Fr (λx=>x=s.b) z g->J1 g:=by
    intro g K' G J ⟨j,hj⟩ hK v' y' a' f12;subst g';have V:Fr (λx=>x=s.b\/aL s.kp x) d g:=F9.tt (f12.mono (λ_ _ f=> .inl f));obtain⟨O,HH,st⟩:=Z.VM (s':= { s with kept:=K',kp:=G,kc:=J }) (E:=aL P) hS Q rfl V (λc f=>f.elim (λe=>⟨_,e▸S.lb,ae,ae⟩) (λf=>⟨_,S.kl c f,ae,ae⟩)) v' y'
     (λc q=>(a' c q).imp (S.kl c) (λf=>ae)) (S.wH.frame V (λc q f=>f.elim (G' c q) (λf=>m' c f q))) (λc q=> .inl (S.nl c q))
     (λc q y=>(a' c q).elim (λf=>m' c f y) (λf=>bR (S.wH.dw y)))
     (λc q=>⟨bR ((r c q).1),sY ((r c q).2) f9.1 f12.1,λf=>(a' c f).elim (λy=>gv (l' c y) (r c q)) (λy=>bR (r c q)),λf=>gv (S.wH.dw f) (r c q)⟩)
     (λa ha=>(E' a (by rw[hj]at ha;exact List.mem_of_mem_drop ha)).frame f12 (λc q e=>q.elim (λq=>kD c q (.inl e)) (λq=>bR (r c q))))
     (λn I=>((S.nd n I).frame V kD).mono (λc=> .inl))
    refine hk g O ?_ (st1.trans st);unfold ku;rw[show((i:Int)+1 - 1).toNat=i by omega];have:({ s with kept:=K',kp:=G,kc:=J } :SC).abs= { s.abs with kept:=gV s.abs.kept id b } :=by
     unfold SC.abs;dsimp only;rw[hK];rfl
    rw[this]at HH;exact HH
   clear g';unfold gV at fin;rw[<-D',aA,M]at fin;by_cases f':((t'+1:Nat):Int)>6
   .simp only[f',bt,bg];rw[gh]at fin;refine az.2 ⟨_,_,_,aq q1,ae,?_⟩;rw[<-M]at U;have o':=U.sub (l:=1) (u:=K.length) ae (bn _);rw[<-eO AV.enc 2 gA K,dZ,oD AV.enc 2 gA]at o';refine KR o'.iJ (by rw[bX,<-M];rfl) (by rw[bX];omega) λJ' q' u' H' f11 e'=>⟨_,_,_,rfl,az.2 ?_⟩
    have L':=f11.get q1 (λx=>x);refine bL L' bQ λg r1 r2 r3=> ?_
    have f12:Fr (λx=>x=s.b) u' g:=Fr.of_eq r2 r3;have z9:=f9.1;refine fin g (K.drop 1) J' q' ⟨1,rfl⟩ List.map_drop ?_ (H'.frame f12 (λc q e=>bR (e' c q))) (λc q=> .inr (bR (e' c q))) ((f11.mono (λ_ _=>False.elim)).tt f12);exact r1
   .simp only[f',bf,au,aM];rw[dz]at fin;refine fin z K p8 c8 ⟨0,rfl⟩ rfl ?_ (by rw[M];exact U) n' (Fr.refl _ _);show z[s.b]? =_;rw[q1];dsimp only;rw[M];rfl
  clear hJ;refine⟨_,aq b',?_⟩;by_cases c1:(id:Int)>1099511627776
  .simp only[c1,bt,bg];exact jt (.inl ae)
  .simp only[c1,bf,au,aM];by_cases c2:(b.length:Int)>1000
   .simp only[c2,bt];exact jt (.inr ae)
   .simp only[c2,bf];exact jf ae
 .rw[ah (by rfl)];rw[mB (by rw[aA];exact I)]at hk;exact hk d X (N.frame f1 (λ_ _ x=>x)) st1
theorem QI(id:Nat)(f:k=(id:Int))(H:Has h t X A)(ok:ox A)(q:Row h p (bc b))(j:n=b.length)(l:b≠ []->∀x,aL p x->¬X.M x)(hk: ∀h' a,Has h' t a (jz A num id b)->bN X h a h'->R (.I (Nj A num id b)) h'):
  Cl 46 #[.P t 0,.I num,.U k,.slice p n m] h R:=by
 obtain⟨B,H⟩:=H;exact NW id f H ok q j l λh' a e st=>hk h' a ⟨B,e⟩ st
theorem Li(xs:List AV)(id:Nat):pU (xs.map AV.abs) id=(xs.find? (λa=>decide (a.id=id))).map (λa=>a.v.b):=by
 unfold pU;rw[List.find?_map,Option.map_map];rfl
theorem QJ(id:Nat)(Y:k=(id:Int))(H:Has h t X A)(ok:ox A)(f: ∀b,lL A num id=some b->∀h' P C,fi h' P b.length C 1 (bc b)->Fr No h h'->(∀x,aL P x->h.size<=x)->R (.tuple #[.slice P b.length C,.bool true]) h')(K:lL A num id=none->iq h R (.tuple #[.Z,.bool false])):
  Cl 42 #[.P t 0,.I num,.U k] h R:=by
 subst Y;obtain⟨_,o,L,y,rfl,_,hS⟩:=H;have Z:=ok.le;rw[aA]at Z;refine sE.walk (cI ?_);have f1:Fr No h (h.push (.cells #[.U (id:Int)] 27)):=Fr.push _ _;have I:re (h.push (.cells #[.U (id:Int)] 27)) h.size id:=bV;generalize h.push (.cells #[.U (id:Int)] 27)=d at f1 I⊢;have T:=y.on f1;unfold lL at f K;refine jc T (λi s e l=>⟨_,_,rfl,?_⟩) (λhn=>⟨_,_,rfl,?_⟩) ae
 .rw[af bQ];subst e;rw[rZ,mR l]at f K;dsimp only at f K;rw[show s.abs.kept=s.kept.map AV.abs from rfl,Li]at f K;have S:=T.ses i s l;have pj:=ok.at_ i _ (mR l);have kl:s.kept.length<=6:=by have:=pj.kl;rwa[show s.abs.kept.length=s.kept.length from aA _]at this
  refine az.2 ⟨_,_,_,aq S.cX,Ho S.qh.iJ rfl ae I λF f3=>⟨_,rfl,?_⟩⟩;unfold yh;cases r:s.kept.findIdx? (λa=>decide (a.id=id))with
  |none=>
   rw[ah (by rfl)];have:s.kept.find? (λa=>decide (a.id=id))=none:=by
    rw[List.find?_eq_none];intro a J;have:=dB.1 r a J;simpa using this
   rw[this]at K;exact K rfl F (f1.tt f3)
  |some j=>
   dsimp only;obtain⟨u,W,V⟩:=cN.1 r;rw[dz];have q:s.kept[j]? =some s.kept[j]:=aj u;have N:s.kept.find? (λa=>decide (a.id=id))=some s.kept[j]:=by
    rw[List.find?_eq_some_iff_getElem];exact⟨W,j,u,rfl,λi U=>by have:=V i U;simpa using this⟩
   rw[N]at f;have M:=f3.get S.cX (λx=>x);have O:=S.qh.frame f3 (λ_ _ x=>x);have z:=S.kd _ (aJ q);have b':s.kept[j].v.b.length<=1000:=(pj.kd (AV.abs s.kept[j]) (bu (aJ q))).2;generalize s.kept[j]=a at*;obtain⟨ab,a',v⟩:=O.addr ae;have w:=O;rw[v]at w;have Q:=w.fI gA q;refine az.2 ⟨_,_,_,aq M,ae,?_⟩;rw[v];refine az.2 ⟨a.v.p,a.v.b.length,a.v.c,?_,?_⟩
   .rw[aC];exact Q.2.1
   refine gQ (z.row.frame f3 (λ_ _ x=>x)) rfl ae λp4 B G o4 f4 g4=>⟨_,_,_,rfl,?_⟩
   exact f a.v.b rfl G p4 B o4 (f1.tt (f3.tt f4)) (λx hx=>gv (g4 x hx) ((f1.tt f3).1))
 .rw[ah (by rfl)];rw[mB (by rw[aA];exact hn)]at K;exact K rfl d f1
theorem oe.Wh(T:oe d t o X.D L)(y: ∀c,X.M c↔ ∃r,o c=some r)(w:L[i]? =some s)(B:At g { s with notes:=K',np:=np',nc:=nc' })(C:fi g np' K'.length nc' 1 (K'.flatMap jO))(v: ∀c,aL np' c->aL s.np c\/d.size<=c)(f:Fr (λx=>x=s.b\/aL s.np x) d g)(u: ∀c,E c->o c=none/\c<g.size/\¬aL np' c)(hd: ∀n∈K',n.ok g (λc=>X.D c\/E c)):
  ∃l,sH g t l ((L.map SC.abs).set i { s.abs with notes:=K'.map BV.b }) (L.map SC.b)/\Fr X.M d g/\(∀c,l.M c->X.M c\/d.size<=c)/\(∀c,l.D c->X.D c\/E c)/\∀c,X.D c->l.D c:=by
 have S:=T.ses i s w;have F: ∀c,aL s.kp c->c≠s.b:=λc H e=>by have d:=S.kl c H;rw[e,S.lb]at d;simp at d
 have N: ∀c,aL s.kp c->¬aL s.np c:=λc H q=>by have d:=S.kl c H;rw[S.nl c q]at d;simp at d
 have kD: ∀c,X.D c->¬(c=s.b\/aL s.np c):=λc H j=>j.elim (λe=>T.ap c _ (e▸S.lb) H) (λj=>T.ap c _ (S.nl c j) H)
 exact T.Tx (s':= { s with notes:=K',np:=np',nc:=nc' }) (E:=E) y w rfl f (λc j=>j.elim (λe=>⟨_,e▸S.lb,ae,ae⟩) (λj=>⟨_,S.nl c j,ae,ae⟩)) B
  (S.qh.frame f (λc H j=>j.elim (F c H) (N c H))) (λc H=> .inl (S.kl c H)) C (λc H=>(v c H).imp (S.nl c) id)
  (λc q H=>(v c H).elim (λj=>N c q j) (λj=>bR (S.qh.dw q)))
  (λc H=>⟨(u c H).1,(u c H).2.1,(λj=>by have a:=S.kl c j;rw[(u c H).1]at a;cases a),(u c H).2.2⟩)
  (λa z=>((S.kd a z).frame f kD).mono (λc=> .inl)) hd
theorem oe.notes(T:oe d t o X.D L)(y: ∀c,X.M c↔ ∃r,o c=some r)(w:L[i]? =some s)(B:At g { s with notes:=K',np:=np',nc:=nc' })(C:fi g np' K'.length nc' 1 (K'.flatMap jO))(v: ∀c,aL np' c->aL s.np c\/d.size<=c)(f:Fr (λx=>x=s.b\/aL s.np x) d g)(q: ∀c,E c->d.size<=c/\c<g.size/\¬aL np' c)(hd: ∀n∈K',n.ok g (λc=>X.D c\/E c)):
  ∃u,sH g t u ((L.map SC.abs).set i { s.abs with notes:=K'.map BV.b }) (L.map SC.b)/\bN X d u g:=by
 have S:=T.ses i s w;have F: ∀c,aL s.kp c->c≠s.b:=λc H e=>by have d:=S.kl c H;rw[e,S.lb]at d;simp at d
 have N: ∀c,aL s.kp c->¬aL s.np c:=λc H l=>by have d:=S.kl c H;rw[S.nl c l]at d;simp at d
 have kD: ∀c,X.D c->¬(c=s.b\/aL s.np c):=λc H j=>j.elim (λe=>T.ap c _ (e▸S.lb) H) (λj=>T.ap c _ (S.nl c j) H)
 exact T.VM (s':= { s with notes:=K',np:=np',nc:=nc' }) (E:=E) y w rfl f (λc j=>j.elim (λe=>⟨_,e▸S.lb,ae,ae⟩) (λj=>⟨_,S.nl c j,ae,ae⟩)) B
  (S.qh.frame f (λc H j=>j.elim (F c H) (N c H))) (λc H=> .inl (S.kl c H)) C (λc H=>(v c H).imp (S.nl c) id)
  (λc l H=>(v c H).elim (λj=>N c l j) (λj=>bR (S.qh.dw l)))
  (λc H=>⟨(q c H).1,(q c H).2.1,λj=>gv (S.qh.dw j) ((q c H).1),(q c H).2.2⟩)
  (λa z=>((S.kd a z).frame f kD).mono (λc=> .inl)) hd
theorem vj(H:Has h t X A)(ok:ox A)(hk: ∀h' f P G,Has h' t f (sU A num)->bN X h f h'->BV.ok h' f.D ⟨P,G,Ag A num⟩->R (.tuple #[.slice P (Ag A num).length G,.I (Fk A num),.I (Jk A num)]) h'):
  Cl 167 #[.P t 0,.I num] h R:=by
 have C:=H;obtain⟨_,o,L,T,rfl,_,Z⟩:=H;have hl:=ok.le;rw[aA]at hl;unfold sU Ag Fk Jk at hk;refine sF.walk (jc T (λi s e w=>⟨_,_,rfl,aI.of λJ y=> ?_⟩) (λq=>⟨_,_,rfl,aI.of λJ y=> ?_⟩) ae)
 .rw[ah (by rfl)];subst e;rw[rZ,mR w]at hk;dsimp only at hk;have S:=T.ses i s w;have pj:=ok.at_ i _ (mR w);have nl:s.notes.length<=6:=by have:=pj.nl;rwa[show s.abs.notes.length=s.notes.length from aA _]at this
  refine az.2 ⟨_,_,_,aq S.cX,?_⟩;subst y;dsimp only;have a':s.abs.notes=s.notes.map BV.b:=rfl;have oy: ∀s':eE,ku (L.map SC.abs) ((i:Int)+1) s'=(L.map SC.abs).set i s':=λs'=>by unfold ku;rw[show((i:Int)+1 - 1).toNat=i by omega]
  rw[oy,a',aA]at hk;cases v:s.notes with
  |nil=>
   rw[v]at hk;rw[ah (by rfl)];have b':(L.map SC.abs).set i { s.abs with notes:= [] } =L.map SC.abs:=by
    refine vt ?_;rw[mR w];congr 1
    unfold SC.abs;rw[v];rfl
   refine hk h X none 0 ?_ (bN.refl _ _) ⟨.inl rfl,λr=>absurd rfl r,bQ⟩;have:(List.drop 1 (List.map BV.b []))=([]:List (cM)):=rfl;rw[this,b'];exact C
  |cons x rest=>
   have r:((((x::rest).length:Nat):Int)==0)=false:=by simp only[aW,dL,fL];omega
   rw[af (by rw[r];simp)];have e': ∀c,aL s.np c->c≠s.b:=λc a e=>by have d:=S.nl c a;rw[e,S.lb]at d;simp at d
   have own:=S.wH;have K:=S.cX;rw[v]at own hk nl;have z:h[s.b]? =some (.cells #[.I (s.num:Int),.U (s.token:Int),.bool s.up,.bool s.watch,.slice s.kp s.kept.length s.kc,.slice s.np (x::rest).length s.nc] 76 (0,0)):=by
    have:At h s:=K;unfold At cG.at at this;rwa[v]at this
   obtain⟨U,V,B⟩:=own.addr bQ;have O:=own;rw[B]at O;have c':=O.fI jX (i:=0) (x:=x) rfl;refine az.2 ⟨_,_,_,aq z,⟨ae,by simp only[aW];omega⟩,?_⟩;rw[B];refine az.2 ⟨x.p,x.b.length,x.c,?_,az.2 ⟨some (AA U V),(x::rest).length,s.nc,?_,⟨ae,by simp only[aW];omega⟩,?_⟩⟩
   .have:=c'.1;rw[Nat.zero_mul,eK,eK]at this;rw[show Int.toNat 0*1=0 from rfl,eK];exact this
   .rw[<-B];exact aq z
   have M:=O.sub (l:=1) (u:=(x::rest).length) bQ (bn _);rw[<-eO jO 1 jX (x::rest),dZ,oD jO 1 jX]at M;refine KS (xs:=rest) M.iJ bQ (by simp only[aW]at nl;omega) λp3 W Y o3 f3 I=>⟨_,_,_,rfl,az.2 ?_⟩
   have q3:=f3.get z id;refine bL q3 bQ λj r1 r2 r3=> ?_
   have f4:Fr (λx=>x=s.b) Y j:=Fr.of_eq r2 r3;have f':s.b<h.size:=aE K;have z3:=f3.1;have F:Fr (λx=>x=s.b) h j:=(f3.mono (λ_ _=>False.elim)).tt f4;have kD: ∀c,X.D c->c≠s.b:=λc a e=>T.ap c _ (e▸S.lb) a
   have N: ∀n∈x::rest,n.ok j X.D:=λn q=>(S.nd n (by rw[v];exact q)).frame F kD
   obtain⟨f,Q,st⟩:=T.notes (K':=rest) (np':=p3) (nc':=W) (E:=λ_=>False) Z w r1 (o3.frame f4 (λc a e=>bR (I c a))) (λc a=> .inr (I c a)) (F.mono (λ_ _ hx=> .inl hx)) (λc a=>a.elim) (λn q=>(N n (ct _ q)).mono (λc=> .inl));have d':BV.ok j f.D x:=(N x df).mono st.wc;exact hk j f x.p x.c ⟨_,Q⟩ st d'
 .rw[af bQ];subst y;dsimp only;rw[mB (by rw[aA];exact q)]at hk;rw[ah (by rfl)];exact hk h X none 0 C (bN.refl _ _) ⟨.inl rfl,λr=>absurd rfl r,bQ⟩

end eE
end
section
variable {h:ak} {R:fG}
variable {t:Nat}
theorem ux.walk(hv:Hl h t 1 λg' G Xn=> ∃(I:bZ->Nat->Nat->Int->ak->Prop)(M:bZ->Nat->Nat->Int->ak->Nat),I none 0 0 0 h/\∀(f:bZ)(O o:Nat)(t18:Int)(c:ak),I f O o t18 c->if(decide (t18<(G:Int)))then Bd t18 G/\aO g' λa=>Bm c (a.add (toNat t18*1)) λt21=>aO t21 λQ=>cG.LD c Q λh' i' j' k' n' m' l' q' p' o'=>aT c (.cells #[.I 0,.U 0,.bool false,.bool false,.Z,.Z] 76) λb c'=>cG.ST c' (AA b 0) h' i' j' k' n' m' l' q' p' o' λd'=>aQ d' (AA b 4) (.Z) λe'=>aQ e' (AA b 5) (.Z) λD=>aO t21 λS=>oY D (S.add 4) λr' J TG=> ∃(i:Int->ak->Prop)(E:Int->ak->Nat),i 0 D/\∀(t32:Int)(d:ak),i t32 d->if(decide (t32<(J:Int)))then Bd t32 J/\aO r' λU=>bW.LD d (U.add (toNat t32*2)) λs' v' u' t'=>aT d (.cells #[.U 0,.Z] 161) λB f'=>bW.ST f' (AA B 0) s' v' u' t' λe=>Hl e b 4 λm l T=>Hu e B 0 λt39=>Hl e B 1 λy' x' w'=>Cl 50 #[.slice y' x' w'] e λv k=>Vl v λB' A' z'=>Cc k B 0 (.U t39)/\Cc k b 4 (.slice m l T)/\aT k (.cells #[.U t39,.slice B' A' z'] 161) λX j=>Cc j B 0 (.U t39)/\Cc j b 4 (.slice m l T)/\aU Tryz.prog (Builtin.append_ #[74,74] 74 #[.slice m l T,.slice (Sa X 0) 1 1]) j λW' w=>Vl W' λE' D' C'=>Cc w B 0 (.U t39)/\aQ w (AA b 4) (.slice E' D' C') λx=>(i (wrap .i64 (t32+1)) x/\E (wrap .i64 (t32+1)) x<E t32 d)else aO t21 λV=>oY d (V.add 5) λF' K Xo=> ∃(g:Int->ak->Prop)(F:Int->ak->Nat),g 0 d/\∀(t53:Int)(H:ak),g t53 H->if(decide (t53<(K:Int)))then Bd t53 K/\aO F' λW=>oY H (W.add (toNat t53*1)) λI' H' G'=>Hl H b 5 λq p n=>Cl 50 #[.slice I' H' G'] H λX' y=>Vl X' λL' K' J'=>Cc y b 5 (.slice q p n)/\aT y (.cells #[.slice L' K' J'] 22) λY z=>Cc z b 5 (.slice q p n)/\aU Tryz.prog (Builtin.append_ #[64,64] 64 #[.slice q p n,.slice (Sa Y 0) 1 1]) z λY' a'=> ∃P N L,Y'=.slice P N L/\aQ a' (AA b 5) (.slice P N L) λA=>(g (wrap .i64 (t53+1)) A/\F (wrap .i64 (t53+1)) A<F t53 H)else cG.LD H (AA b 0) λM' N' O' P' S' R' Q' V' U' T'=>aT H (.cells #[.I M',.U N',.bool O',.bool P',.slice S' R' Q',.slice V' U' T'] 76) λZ b'=>aU Tryz.prog (Builtin.append_ #[72,72] 72 #[.slice f O o,.slice (Sa Z 0) 1 1]) b' λZ' C=> ∃u s r,Z'=.slice u s r/\(I u s r (wrap .i64 (t18+1)) C/\M u s r (wrap .i64 (t18+1)) C<M f O o t18 c)else R (.slice f O o) c):Cl 31 #[.P t 0] h R:=aR (lq (lq (sq (lq (cq ll lf)) (sq (lq (bq (.loop [(3,.one (.slice)),(18,.one (.int .i64))] (lq (sq (cq lf lf) (sq (bq (lq (lq (lq (sq (lq (bq (.loop [(32,.one (.int .i64))] (lq (sq (cq lf lf) (sq (bq (lq (pN 12))) lf)))))) (sq (lq (bq (.loop [(53,.one (.int .i64))] (lq (sq (cq lf lf) (sq (bq (lq (pN 8))) lf)))))) lf)))))) lf)))))) ll)))) Tryz.func31 hv
theorem sL.walk(hv:Cl 31 #[.P t 0] h λv l'=>Vl v λv' d' Xp=> ∃(I:bZ->Nat->Nat->Int->ak->Prop)(mu:bZ->Nat->Nat->Int->ak->Nat),I none 0 0 0 l'/\∀(y:bZ)(w s:Nat)(t13:Int)(m:ak),I y w s t13 m->if(decide (t13<(d':Int)))then Bd t13 d'/\aO v' λa=>cG.LD m (a.add (toNat t13*6)) λw' x' y' z' C' B' A' F' E' D'=>aT m (.cells #[.I 0,.U 0,.bool false,.bool false,.Z,.Z] 76) λb u'=>cG.ST u' (AA b 0) w' x' y' z' C' B' A' F' E' D' λH=>Hi H b 0 λt20=>Hu H b 1 λt23=>Hb H b 2 λt26=>Hb H b 3 λt29=>Hl H b 4 λe T d=>Hl H b 5 λg c f=>Cl 65 #[] H λPI i=>Vp PI λt18=>Cc i b 5 (.slice g c f)/\Cc i b 4 (.slice e T d)/\Cc i b 3 (.bool t29)/\Cc i b 2 (.bool t26)/\Cc i b 1 (.U t23)/\Cc i b 0 (.I t20)/\Cl 66 #[.pointer t18,.I t20] i λNq l=>Vp Nq λt21=>Cc l b 5 (.slice g c f)/\Cc l b 4 (.slice e T d)/\Cc l b 3 (.bool t29)/\Cc l b 2 (.bool t26)/\Cc l b 1 (.U t23)/\Cl 72 #[.pointer t21,.U t23] l λKW n=>Vp KW λt24=>Cc n b 5 (.slice g c f)/\Cc n b 4 (.slice e T d)/\Cc n b 3 (.bool t29)/\Cc n b 2 (.bool t26)/\Cl 137 #[.pointer t24,.bool t26] n λHD r=>Vp HD λt27=>Cc r b 5 (.slice g c f)/\Cc r b 4 (.slice e T d)/\Cc r b 3 (.bool t29)/\Cl 137 #[.pointer t27,.bool t29] r λNN L=>Vp NN λt30=>Cc L b 5 (.slice g c f)/\Cc L b 4 (.slice e T d)/\Cl 66 #[.pointer t30,.I (T:Int)] L λP2 D=>Vp P2 λt34=>Cc D b 5 (.slice g c f)/\Cc D b 4 (.slice e T d)/\Cl 66 #[.pointer t34,.I (c:Int)] D λP3 E=>Vp P3 λt38=>Cc E b 5 (.slice g c f)/\Cc E b 4 (.slice e T d)/\Cl 67 #[.pointer t38] E λP4 F=>Vl P4 λI' H' G'=>Cc F b 5 (.slice g c f)/\Cc F b 4 (.slice e T d)/\aT F (.cells #[.slice I' H' G'] 22) λi' G=>Cc G b 5 (.slice g c f)/\Cc G b 4 (.slice e T d)/\aU Tryz.prog (Builtin.append_ #[64,64] 64 #[.slice y w s,.slice (Sa i' 0) 1 1]) G λP5 q=>Vl P5 λL' K' J'=>Cc q b 5 (.slice g c f)/\Cc q b 4 (.slice e T d)/\Hl q b 4 λM' e' RC=> ∃(A:bZ->Nat->Nat->Int->ak->Prop)(b':bZ->Nat->Nat->Int->ak->Nat),A L' K' J' 0 q/\∀(z:bZ)(x u:Nat)(t45:Int)(j:ak),A z x u t45 j->if(decide (t45<(e':Int)))then Bd t45 e'/\aO M' λg'=>bW.LD j (g'.add (toNat t45*2)) λN' Q' P' O'=>aT j (.cells #[.U 0,.Z] 161) λB m'=>bW.ST m' (AA B 0) N' Q' P' O' λJ=>Hu J B 0 λt52=>Hl J B 1 λP N M=>Cl 65 #[] J λHV K=>Vp HV λt50=>Cc K B 1 (.slice P N M)/\Cc K B 0 (.U t52)/\Cl 72 #[.pointer t50,.U t52] K λHW Y=>Vp HW λt53=>Cc Y B 1 (.slice P N M)/\Cl 71 #[.pointer t53,.slice P N M] Y λNO n'=>Vp NO λt56=>Cl 67 #[.pointer t56] n' λNP o'=>Vl NP λT' S' R'=>aT o' (.cells #[.slice T' S' R'] 22) λj' p'=>aU Tryz.prog (Builtin.append_ #[64,64] 64 #[.slice z x u,.slice (Sa j' 0) 1 1]) p' λNQ Z=> ∃U S Q,NQ=.slice U S Q/\(A U S Q (wrap .i64 (t45+1)) Z/\b' U S Q (wrap .i64 (t45+1)) Z<b' z x u t45 j)else Hl j b 5 λU' f' Xq=> ∃(C:bZ->Nat->Nat->Int->ak->Prop)(c':bZ->Nat->Nat->Int->ak->Nat),C z x u 0 j/\∀(p:bZ)(O o:Nat)(t64:Int)(k:ak),C p O o t64 k->if(decide (t64<(f':Int)))then Bd t64 f'/\aO U' λh'=>oY k (h'.add (toNat t64*1)) λX' W' V'=>Cl 65 #[] k λNR q'=>Vp NR λt69=>Cl 71 #[.pointer t69,.slice X' W' V'] q' λNS r'=>Vp NS λt71=>Cl 67 #[.pointer t71] r' λNT s'=>Vl NT λUC Z' Y'=>aT s' (.cells #[.slice UC Z' Y'] 22) λk' t'=>aU Tryz.prog (Builtin.append_ #[64,64] 64 #[.slice p O o,.slice (Sa k' 0) 1 1]) t' λNU a'=> ∃X W V,NU=.slice X W V/\(C X W V (wrap .i64 (t64+1)) a'/\c' X W V (wrap .i64 (t64+1)) a'<c' p O o t64 k)else(I p O o (wrap .i64 (t13+1)) k/\mu p O o (wrap .i64 (t13+1)) k<mu y w s t13 m)else R (.slice y w s) m):Cl 76 #[.P t 0] h R:=aR (lq (lq (sq (lq (bq (.loop [(3,.one (.slice)),(13,.one (.int .i64))] (lq (sq (cq lf lf) (sq (bq (lq (sq (.gT (.op 0 (.op 2 (.op 3 (.op 5 (.op 6 (.op 8 (.op 9 (.op 11 (.op 12 (.op 14 (.op 15 (.op 16 (.op 18 (.op 19 (.op 20 (.op 1 (.op 4 (.op 7 (.op 10 (.op 13 (.op 17 (.op 21 (.op 22 (.op 23 (.op 24 (.op 25 .done))))))))))))))))))))))))))) (sq (lq (bq (.loop [(3,.one (.slice)),(45,.one (.int .i64))] (lq (sq (cq lf lf) (sq (bq (lq (.gT (.op 0 (.op 2 (.op 3 (.op 5 (.op 6 (.op 1 (.op 4 (.op 7 (.op 8 (.op 9 (.op 10 (.op 11 .done))))))))))))))) lf)))))) (lq (bq (.loop [(3,.one (.slice)),(64,.one (.int .i64))] (lq (sq (cq lf lf) (sq (bq ll) lf)))))))))) lf)))))) ll))) Tryz.func76 hv

end
section
open Go.fk
namespace eE
open hM
variable {h h' d:ak} {t:Nat} {X:Ft} {R:fG} {p:bZ} {c i:Nat} {m:PC} {D:Nat→Prop} {L:List SC} {A:List eE}
variable {s:SC} {g:ak} {b:Nat} {E:Nat->Prop} {K:ak->Prop}
abbrev UD(s:SC):List Value:= [.int .i64 (s.num:Int),.int .u64 (s.token:Int),.bool s.up,.bool s.watch,.slice s.kp s.kept.length s.kc,.slice s.np s.notes.length s.nc]
theorem NY(s:SC):(UD s).length=6:=rfl
theorem tS:nW Tryz.prog 72 76 6 72 (.agg #[.I 0,.U 0,.bool false,.bool false,.Z,.Z]):=⟨cZ,cZ,rfl⟩
theorem Yj:Tryz.prog.underlying 72=some (.slice 76):=cZ
structure By (h:ak) (D:Nat->Prop) (s:SC):Prop where
 k:Row h s.kp (s.kept.flatMap AV.enc)
 kD:s.kept≠ []->∀y,aL s.kp y->D y
 kd: ∀a∈s.kept,a.v.ok h D
 n:Row h s.np (s.notes.flatMap jO)
 nD:s.notes≠ []->∀y,aL s.np y->D y
 nd: ∀n∈s.notes,n.ok h D
theorem By.frame{Q:Nat->Prop}(H:By h D s)(f:Fr Q h h')(j: ∀y,D y->¬Q y):By h' D s:=by
 refine⟨?_,H.kD,λa l=>(H.kd a l).frame f j,?_,H.nD,λa l=>(H.nd a l).frame f j⟩
 .by_cases e:s.kept= []
  .rw[e];exact .inl rfl
  .exact H.k.frame f (λa k=>j _ (H.kD e _ ⟨a,k,rfl⟩))
 .by_cases e:s.notes= []
  .rw[e];exact .inl rfl
  .exact H.n.frame f (λa k=>j _ (H.nD e _ ⟨a,k,rfl⟩))
theorem By.mono{D':Nat->Prop}(H:By h D s)(hd: ∀y,D y->D' y):By h D' s:=
 ⟨H.k,λe y j=>hd y (H.kD e y j),λa f=>(H.kd a f).mono hd,H.n,λe y j=>hd y (H.nD e y j),λa f=>(H.nd a f).mono hd⟩
def SL(d h:ak)(p:bZ)(l c:Nat)(A:List eE):Prop:=
 ∃(xs:List SC)(D:Nat->Prop),l=xs.length/\fi h p l c 6 (xs.flatMap UD)/\xs.map SC.abs=A/\(∀x∈xs,By h D x)/\(∀y,D y->d.size<=y/\y<h.size/\¬aL p y)/\∀y,aL p y->d.size<=y
theorem SL.len{l:Nat}(H:SL d h p l c A):l=A.length:=by
 obtain⟨xs,D,a,_,e,_⟩:=H;rw[a,<-e,aA]
structure Cp (g h:ak) (b:Nat) (s:SC) (E:Nat->Prop):Prop where
 fr:Fr No g h
 cX:cG.at h b (s.num:Int) (s.token:Int) s.up s.watch s.kp s.kept.length s.kc s.np s.notes.length s.nc
 gb:g.size<=b
 ko:fi h s.kp s.kept.length s.kc 2 (s.kept.flatMap AV.enc)
 kg: ∀y,aL s.kp y->g.size<=y/\y≠b/\¬E y
 no:fi h s.np s.notes.length s.nc 1 (s.notes.flatMap jO)
 ng: ∀y,aL s.np y->g.size<=y/\y≠b/\¬E y/\¬aL s.kp y
 kd: ∀a∈s.kept,a.v.ok h E
 nd: ∀n∈s.notes,n.ok h E
 eg: ∀y,E y->g.size<=y/\y<h.size/\y≠b
theorem Cp.answer{a:AV}(C:Cp g h b s E)(hr:Row h a.v.p (bc a.v.b))(H':a.v.b.length<=1000)(G':s.kept.length<=1000)(hk: ∀h' s' E',Cp g h' b s' E'->s'.abs= { s.abs with kept:=s.abs.kept++ [a.abs] } ->K h'):
  aT h (.cells #[.U 0,.Z] 161) λk u'=>
     aQ u' (AA k 0) (.U (a.id:Int)) λv'=>
     aQ v' (AA k 1) (.slice a.v.p a.v.b.length a.v.c) λo=>
     ∃(w:bZ)(u T:Nat),aX o (AA b 4)=some (.slice w u T)/\
     ∃(t39:Int),aX o (AA k 0)=some (.U t39)/\
     ∃(f':bZ)(e' d':Nat),aX o (AA k 1)=some (.slice f' e' d')/\
     Cl 50 #[.slice f' e' d'] o λv G=>
     ∃(j':bZ)(i' g':Nat),v=.slice j' i' g'/\
     aX G (AA k 0)=some (.U t39)/\
     aX G (AA b 4)=some (.slice w u T)/\
     aT G (.cells #[.U t39,.slice j' i' g'] 161) λo' I=>
     aX I (AA k 0)=some (.U t39)/\
     aX I (AA b 4)=some (.slice w u T)/\
     aU Tryz.prog (Builtin.append_ #[74,74] 74 #[.slice w u T,.slice (Sa o' 0) 1 1]) I λC' W=>
     ∃(m':bZ)(l' k':Nat),C'=.slice m' l' k'/\
     aX W (AA k 0)=some (.U t39)/\
     aQ W (AA b 4) (.slice m' l' k') λw'=>K w':=by
 refine bW.new λb1 F' D' q f14=> ?_
 have J:=f14.get C.cX id;have zb:b<h.size:=aE C.cX;refine⟨_,_,_,aq J,_,aq q,_,_,_,aq q,gQ (hr.frame f14 cb) rfl ae λP f H b' f15 p'=>⟨_,_,_,rfl,aq (f15.get q id),aq (f15.get J id),cI ?_⟩⟩;have f16:Fr No H (H.push (.cells #[.U (a.id:Int),.slice P a.v.b.length f] 161)):=Fr.push _ _;have c':Row (H.push (.cells #[.U (a.id:Int),.slice P a.v.b.length f] 161)) (Sa H.size 0) (AV.enc ⟨a.id,⟨P,f,a.v.b⟩⟩):=iS (cs:=AV.enc ⟨a.id,⟨P,f,a.v.b⟩⟩);have B':(H.push (.cells #[.U (a.id:Int),.slice P a.v.b.length f] 161)).size=H.size+1:=du _;generalize H.push (.cells #[.U (a.id:Int),.slice P a.v.b.length f] 161)=r' at f16 c' B'⊢;have z:=f15.tt f16;have V:=f14.tt z;have Z:=z.get J id;have Q:=z.get q id;refine⟨aq Q,aq Z,?_⟩;have K':=f14.1;have L':=f15.1;have zg:=C.fr.1;have a': ∀y,aL s.kp y->y≠b:=λy hy=>(C.kg y hy).2.1
 have M: ∀y,aL s.kp y->y<h.size:=λy hy=>C.ko.dw hy
 refine dD tA uA (C.ko.frame V cb) c' rfl (λv Y=>by simp at Y;rcases Y with rfl|rfl<;>rfl) ae ae ?_;intro O S t' z' _ f17 q';have n':=f17.get Q (λhx=>bR (M _ hx));refine⟨_,_,_,rfl,aq n',?_⟩;have x':=f17.get Z (λhx=>a' _ hx rfl);refine bL x' bQ λl q1 q2 q3=> ?_
 have f18:Fr (λx=>x=b) t' l:=Fr.of_eq q2 q3;have F:Fr (λx=>x=b\/aL s.kp x) h l:=(V.mono (λ_ _=>False.elim)).tt ((f17.mono (λ_ _ hx=> .inr hx)).tt (f18.mono (λ_ _ hx=> .inl hx)));have I':=f17.1;have J':=f18.1;have N: ∀y,aL O y->aL s.kp y\/r'.size<=y:=q';have B: ∀y,aL P y->h.size<=y/\y<H.size:=λy hy=>⟨bR (p' y hy),b'.dw hy⟩
 have y':fi l P a.v.b.length f 1 (bc a.v.b):=((b'.frame f16 cb).frame f17 (λy hy hx=>gv (B y hy) (M y hx))).frame f18 (λy hy e=>bR (B y hy));have U: ∀y,E y->¬(y=b\/aL s.kp y):=λy hy hx=>hx.elim (C.eg y hy).2.2 (λhx=>(C.kg y hx).2.2 hy)
 have A':=z'.frame f18 (λy hy e=>(N y hy).elim (λhx=>a' y hx e) (λhx=>ae));refine hk l { s with kept:=s.kept++ [⟨a.id,⟨P,f,a.v.b⟩⟩],kp:=O,kc:=S } (λy=>E y\/aL P y) ⟨?_,?_,C.gb,?_,?_,?_,?_,?_,?_,?_⟩ ?_
 .exact C.fr.step F (λy hy hx=>hx.elim (λe=>bR C.gb) (λhx=>bR ((C.kg y hx).1)))
 .show l[b]? =_;rw[q1];dsimp only;rw[ar];rfl
 .show fi l O (s.kept++ [_]).length S 2 ((s.kept++ [_]).flatMap AV.enc);rw[ar,bY];simpa using A'
 .intro y hy;rcases N y hy with hx|hx
  .exact⟨(C.kg y hx).1,(C.kg y hx).2.1,λn=>n.elim (C.kg y hx).2.2 (λj=>gv (B y j) (M y hx))⟩
  .exact⟨ae,ae,λn=>n.elim (λj=>bR ((C.eg y j).2.1)) (λj=>bR (B y j))⟩
 .exact C.no.frame F (λy hy hx=>hx.elim (C.ng y hy).2.1 (C.ng y hy).2.2.2)
 .intro y hy;have r:=C.ng y hy;have ly:y<h.size:=C.no.dw hy;exact⟨r.1,r.2.1,λn=>n.elim r.2.2.1 (λj=>bR (B y j)),λhx=>(N y hx).elim r.2.2.2 (λj=>ae)⟩
 .intro x hx;rcases bz.1 hx with hx|hx
  .exact((C.kd x hx).frame F U).mono (λy=> .inl)
  .simp at hx;subst hx;exact BV.jr y' (λy=> .inr)
 .intro x hx;exact((C.nd x hx).frame F U).mono (λy=> .inl)
 .rintro y (hy|hy)
  .exact⟨(C.eg y hy).1,bR ((C.eg y hy).2.1),(C.eg y hy).2.2⟩
  .exact⟨bR (B y hy),bR (B y hy),bR (B y hy)⟩
 .unfold SC.abs;dsimp only;rw[aV];rfl
theorem Cp.note{n:BV}(C:Cp g h b s E)(hr:Row h n.p (bc n.b))(t':n.b.length<=1000)(r':s.notes.length<=1000)(hk: ∀h' s' E',Cp g h' b s' E'->s'.abs= { s.abs with notes:=s.abs.notes++ [n.b] } ->K h'):
  ∃(o:bZ)(l T:Nat),aX h (AA b 5)=some (.slice o l T)/\
       Cl 50 #[.slice n.p n.b.length n.c] h λp' G=>
       ∃(Y:bZ)(W V:Nat),p'=.slice Y W V/\
       aX G (AA b 5)=some (.slice o l T)/\
       aT G (.cells #[.slice Y W V] 22) λc' I=>
       aX I (AA b 5)=some (.slice o l T)/\
       aU Tryz.prog (Builtin.append_ #[64,64] 64 #[.slice o l T,.slice (Sa c' 0) 1 1]) I λq' i'=>
       ∃(b':bZ)(a' Z:Nat),q'=.slice b' a' Z/\
       aQ i' (AA b 5) (.slice b' a' Z) λj'=>K j':=by
 have zb:b<h.size:=aE C.cX;refine⟨_,_,_,aq C.cX,gQ hr rfl ae λP a f S f15 d'=>⟨_,_,_,rfl,aq (f15.get C.cX id),cI ?_⟩⟩;have f16:Fr No f (f.push (.cells #[.slice P n.b.length a] 22)):=Fr.push _ _;have U:Row (f.push (.cells #[.slice P n.b.length a] 22)) (Sa f.size 0) (jO ⟨P,a,n.b⟩):=iS (cs:=jO ⟨P,a,n.b⟩);have o':(f.push (.cells #[.slice P n.b.length a] 22)).size=f.size+1:=du _;generalize f.push (.cells #[.slice P n.b.length a] 22)=f' at f16 U o'⊢;have q:=f15.tt f16;have M:=q.get C.cX id;refine⟨aq M,?_⟩;have w':=f15.1;have zg:=C.fr.1;have Q: ∀y,aL s.np y->y≠b:=λy hy=>(C.ng y hy).2.1
 have N: ∀y,aL s.np y->y<h.size:=λy hy=>C.no.dw hy
 refine dD tN uN (C.no.frame q cb) U rfl (λv J=>by simp at J;subst J;rfl) ae ae ?_;intro u w g' m' _ f17 e';refine⟨_,_,_,rfl,?_⟩;have k':=f17.get M (λhx=>Q _ hx rfl);refine bL k' bQ λj q1 q2 q3=> ?_
 have f18:Fr (λx=>x=b) g' j:=Fr.of_eq q2 q3;have F:Fr (λx=>x=b\/aL s.np x) h j:=(q.mono (λ_ _=>False.elim)).tt ((f17.mono (λ_ _ hx=> .inr hx)).tt (f18.mono (λ_ _ hx=> .inl hx)));have u':=f17.1;have v':=f18.1;have O: ∀y,aL u y->aL s.np y\/f'.size<=y:=e';have B: ∀y,aL P y->h.size<=y/\y<f.size:=λy hy=>⟨d' y hy,S.dw hy⟩
 have l':fi j P n.b.length a 1 (bc n.b):=((S.frame f16 cb).frame f17 (λy hy hx=>gv (B y hy) (N y hx))).frame f18 (λy hy e=>bR (B y hy));have z: ∀y,E y->¬(y=b\/aL s.np y):=λy hy hx=>hx.elim (C.eg y hy).2.2 (λhx=>(C.ng y hx).2.2.1 hy)
 have n':=m'.frame f18 (λy hy e=>(O y hy).elim (λhx=>Q y hx e) (λhx=>ae));refine hk j { s with notes:=s.notes++ [⟨P,a,n.b⟩],np:=u,nc:=w } (λy=>E y\/aL P y) ⟨?_,?_,C.gb,?_,?_,?_,?_,?_,?_,?_⟩ ?_
 .exact C.fr.step F (λy hy hx=>hx.elim (λe=>bR C.gb) (λhx=>bR ((C.ng y hx).1)))
 .show j[b]? =_;rw[q1];dsimp only;rw[ar];rfl
 .exact C.ko.frame F (λy hy hx=>hx.elim (C.kg y hy).2.1 (λH=>(C.ng y H).2.2.2 hy))
 .intro y hy;have r:=C.kg y hy;have ly:y<h.size:=C.ko.dw hy;exact⟨r.1,r.2.1,λk=>k.elim r.2.2 (λH=>bR (B y H))⟩
 .show fi j u (s.notes++ [_]).length w 1 ((s.notes++ [_]).flatMap jO);rw[ar,bY];simpa using n'
 .intro y hy;rcases O y hy with hx|hx
  .exact⟨(C.ng y hx).1,(C.ng y hx).2.1,λk=>k.elim (C.ng y hx).2.2.1 (λH=>gv (B y H) (N y hx)),(C.ng y hx).2.2.2⟩
  .exact⟨ae,ae,λk=>k.elim (λH=>bR ((C.eg y H).2.1)) (λH=>bR (B y H)),λH=>bR (C.ko.dw H)⟩
 .intro x hx;exact((C.kd x hx).frame F z).mono (λy=> .inl)
 .intro x hx;rcases bz.1 hx with hx|hx
  .exact((C.nd x hx).frame F z).mono (λy=> .inl)
  .simp at hx;subst hx;exact BV.jr l' (λy=> .inr)
 .rintro y (hy|hy)
  .exact⟨(C.eg y hy).1,bR ((C.eg y hy).2.1),(C.eg y hy).2.2⟩
  .exact⟨bR (B y hy),bR (B y hy),bR (B y hy)⟩
 .unfold SC.abs;dsimp only;rw[aV];rfl
theorem rD(H:Has h t X A)(ok:ox A)(hk: ∀h' p' l' c',SL h h' p' l' c' A->Fr No h h'->R (.slice p' l' c') h'):Cl 31 #[.P t 0] h R:=by
 obtain⟨_,m,L,Y,rfl,_,hS⟩:=H;have hl:=ok.le;rw[aA]at hl;obtain⟨tp,tc,g',z',_⟩:=Y.cX;refine ux.walk ⟨_,_,_,aq g',?_⟩;refine⟨λop P N i h1=> ∃k:Nat,i=(k:Int)/\k<=L.length/\SL h h1 op P N ((L.map SC.abs).take k)/\Fr No h h1,λ_ _ _ i _=>L.length - i.toNat,⟨0,rfl,ae,⟨[],λ_=>False,rfl,.nil rfl rfl rfl rfl,rfl,(λx hx=>by cases hx),(λy hy=>hy.elim),λy ⟨a,e,_⟩=>by cases e⟩,Fr.refl _ _⟩,?_⟩;rintro op P N _ g ⟨k,rfl,E',O,F⟩;have m':=Y.on F;have F':=F.get g' id;have k':=z'.frame F cb;have x':=O.len;rw[bC,aA]at x';by_cases r':k<L.length
 .have q1:(k:Int)<(L.length:Int):=ae
  simp only[q1,bt,bg,aC];have r:L[k]? =some L[k]:=aj r';generalize L[k]=s at r;have w:=m'.ses k s r;have pj:=ok.at_ k _ (mR r);have kl:s.kept.length<=6:=by have:=pj.kl;rwa[show s.abs.kept.length=s.kept.length from aA _]at this
  have nl:s.notes.length<=6:=by have:=pj.nl;rwa[show s.abs.notes.length=s.notes.length from aA _]at this
  have kb: ∀a∈s.kept,a.v.b.length<=1000:=λa f=>(pj.kd a.abs (bu f)).2
  have nb: ∀a∈s.notes,a.b.length<=1000:=λa f=>by have:=(pj.nd a.b (bu f)).2;omega
  obtain⟨ab,A',rfl⟩:=k'.addr ae;refine⟨⟨by first|trivial|omega,by first|trivial|omega⟩,az.2 ⟨some (AA s.b 0),?_,az.2 ?_⟩⟩
  .rw[cp];exact k'.cell (by rw[aF,r];rfl)
  refine cG.ld w.cX (cG.new λb h8 eb d' f8=> ?_);refine bL d' bQ λh9 Z a2 a3=>bL Z bQ λa' b1 b2 b3=>az.2 ?_
  have f10:Fr No g a':=f8.step ((Fr.of_eq (S:=λx=>x=b) a2 a3).tt (Fr.of_eq b2 b3)) (λy hy e=>ae);have V:=w.frame f10 (λ_ _ _ _ _=>id) cb;refine⟨_,_,_,aq V.cX,?_⟩;have U:Cp g a' b ⟨b,s.num,s.token,s.up,s.watch, [],none,0, [],none,0⟩ (λ_=>False):=
   ⟨f10,b1,ae,.nil rfl rfl rfl rfl,(λy ⟨a,e,_⟩=>by cases e),.nil rfl rfl rfl rfl,(λy ⟨a,e,_⟩=>by cases e),(λa f=>by cases f),(λa f=>by cases f),λy hy=>hy.elim⟩
  refine⟨λi h'=> ∃(j:Nat)(s':SC)(E:Nat->Prop),i=(j:Int)/\j<=s.kept.length/\Cp g h' b s' E/\s'.abs=⟨s.num,s.token,s.up,s.watch,s.abs.kept.take j, []⟩,λi _=>s.kept.length - i.toNat,⟨0,_,_,rfl,ae,U,rfl⟩,?_⟩;clear U V f10 b1 b2 b3 Z a2 a3 d' f8;rintro _ C' ⟨j,s',E,rfl,hj,C,n⟩;have z:=w.frame C.fr (λ_ _ _ _ _=>id) cb;by_cases B:j<s.kept.length
  .have q2:(j:Int)<(s.kept.length:Int):=ae
   simp only[q2,bt,bg,aC];have f:s.kept[j]? =some s.kept[j]:=aj B;generalize s.kept[j]=a at f;have Q:=z.qh;obtain⟨G',H',e'⟩:=Q.addr ae;rw[e']at Q;refine⟨⟨by first|trivial|omega,by first|trivial|omega⟩,?_⟩;rw[e'];refine az.2 (bW.wm (Q.fI gA f) ?_);have y':s'.kept.length=j:=by
    have:=bP (λx=>x.kept.length) n;have e1:s'.abs.kept.length=s'.kept.length:=aA _;dsimp only at this;rw[e1,bC]at this;have e2:s.abs.kept.length=s.kept.length:=aA _;omega
   refine C.answer (z.kd a (aJ f)).row (kb a (aJ f)) ae λn' T J I M=> ?_
   rw[bB ae ae];refine⟨⟨j+1,T,J,ae,ae,I,?_⟩,?_⟩
   .rw[M,n];dsimp only;congr 1
    rw[bm,show s.abs.kept[j]? =some a.abs by show(s.kept.map AV.abs)[j]? =_;rw[aF,f];rfl];rfl
   .show s.kept.length - Int.toNat ((j:Int)+1)<s.kept.length - Int.toNat (j:Int);omega
  .have q2: ¬(j:Int)<(s.kept.length:Int):=ae
   simp only[q2,bf,au,aM];refine az.2 ⟨_,_,_,aq z.cX,?_⟩;have b':s'.abs=⟨s.num,s.token,s.up,s.watch,s.abs.kept,s.abs.notes.take 0⟩:=by
    rw[n,bk (by have:s.abs.kept.length=s.kept.length:=aA _;omega)];rfl
   refine⟨λi h'=> ∃(j:Nat)(s':SC)(E:Nat->Prop),i=(j:Int)/\j<=s.notes.length/\Cp g h' b s' E/\s'.abs=⟨s.num,s.token,s.up,s.watch,s.abs.kept,s.abs.notes.take j⟩,λi _=>s.notes.length - i.toNat,⟨0,s',E,rfl,ae,C,b'⟩,?_⟩;clear C z n b' hj B q2;rintro _ o' ⟨j,s',E,rfl,hj,C,n⟩;have W:=w.frame C.fr (λ_ _ _ _ _=>id) cb;by_cases B:j<s.notes.length
   .have q2:(j:Int)<(s.notes.length:Int):=ae
    simp only[q2,bt,bg,aC];have f:s.notes[j]? =some s.notes[j]:=aj B;generalize s.notes[j]=a at f;have u:=W.wH;obtain⟨I',J',f'⟩:=u.addr ae;rw[f']at u;refine⟨⟨by first|trivial|omega,by first|trivial|omega⟩,?_⟩;rw[f'];refine az.2 ⟨a.p,a.b.length,a.c,?_,?_⟩
    .have:=(u.fI jX f).1;rwa[eK]at this
    have y':s'.notes.length=j:=by
     have:=bP (λx=>x.notes.length) n;have e1:s'.abs.notes.length=s'.notes.length:=aA _;dsimp only at this;rw[e1,bC]at this;have e2:s.abs.notes.length=s.notes.length:=aA _;omega
    refine C.note (W.nd a (aJ f)).row (nb a (aJ f)) ae λn' T J I M=> ?_
    rw[bB ae ae];refine⟨⟨j+1,T,J,ae,ae,I,?_⟩,?_⟩
    .rw[M,n];dsimp only;congr 1
     rw[bm,show s.abs.notes[j]? =some a.b by show(s.notes.map BV.b)[j]? =_;rw[aF,f];rfl];rfl
    .show s.notes.length - Int.toNat ((j:Int)+1)<s.notes.length - Int.toNat (j:Int);omega
   .have q2: ¬(j:Int)<(s.notes.length:Int):=ae
    simp only[q2,bf,au,aM];have q':s'.abs=s.abs:=by
     rw[n,bk (by have:s.abs.notes.length=s.notes.length:=aA _;omega)];rfl
    refine cG.ld C.cX ?_;obtain⟨xs,D,t',i',u',v',o,j'⟩:=O;have u:=i'.frame C.fr cb;refine iD tS Yj u rfl (λv hv=>by simp at hv;rcases hv with rfl|rfl|rfl|rfl|rfl|rfl<;>rfl) ae ae ?_;intro K' B' D' w' f25 G;refine⟨_,_,_,rfl,?_⟩;rw[bB ae ae];have L':=C.fr.1;have zg:=F.1;have q: ∀y,aL op y->y<g.size:=λy hy=>i'.dw hy
    refine⟨⟨k+1,ae,ae,⟨xs++ [s'],λy=>D y\/E y\/aL s'.kp y\/aL s'.np y,by rw[ar,t'];rfl,?_,?_,?_,?_,?_⟩,?_⟩,?_⟩
    .rw[bY];simpa using w'
    .rw[aV,u',bm,aF,r];show _++ [s'.abs]=_++ [s.abs];rw[q']
    .intro x hx;rcases bz.1 hx with hx|hx
     .refine(((v' x hx).frame C.fr cb).frame f25 (λy hy=>(o y hy).2.2)).mono (λy=> .inl)
     .simp at hx;subst hx;refine By.frame (h:=o') ⟨C.ko.iJ,λ_ y hy=> .inr (.inr (.inl hy)),λa f=>(C.kd a f).mono (λy hy=> .inr (.inl hy)),C.no.iJ,λ_ y hy=> .inr (.inr (.inr hy)),λa f=>(C.nd a f).mono (λy hy=> .inr (.inl hy))⟩ f25 ?_;rintro y (hy|hy|hy|hy) l
      .exact(o y hy).2.2 l
      .have:=q y l;have:=(C.eg y hy).1;omega
      .have:=q y l;have:=(C.kg y hy).1;omega
      .have:=q y l;have:=(C.ng y hy).1;omega
    .have M':=f25.1;rintro y (hy|hy|hy|hy)
     .exact⟨(o y hy).1,bR ((o y hy).2.1),λl=>(G y l).elim (o y hy).2.2 (λh2=>bR ((o y hy).2.1))⟩
     .have a:=C.eg y hy;exact⟨ae,ae,λl=>(G y l).elim (λh2=>bR (q y h2)) (λh2=>ae)⟩
     .have a:=C.kg y hy;have b:=C.ko.dw hy;exact⟨ae,ae,λl=>(G y l).elim (λh2=>bR (q y h2)) (λh2=>ae)⟩
     .have a:=C.ng y hy;have b:=C.no.dw hy;exact⟨ae,ae,λl=>(G y l).elim (λh2=>bR (q y h2)) (λh2=>ae)⟩
    .intro y hy;rcases G y hy with h2|h2
     .exact j' y h2
     .omega
    .exact(F.tt C.fr).step f25 (λy hy l=>bR (j' y l))
    .show L.length - Int.toNat ((k:Int)+1)<L.length - Int.toNat (k:Int);omega
 .have q1: ¬(k:Int)<(L.length:Int):=ae
  simp only[q1,bf,au,aM];rw[bk (by rw[aA];omega)]at O;exact hk g op P N O F

end eE
end
section
open Go.fk
namespace eE
open hM
variable {h h':ak} {t:Nat} {X:Ft} {R:fG} {p:bZ} {c i:Nat} {A:List eE}
def mZ(s:eE):cM:=cd s.num++cd s.token++cd (bit s.up)++cd (bit s.watch)++cd s.kept.length++cd s.notes.length
def DE(a:Nat×cM):cM:=cd a.1++dJ a.2
def QK(s:eE):List (cM):=mZ s::(s.kept.map DE++s.notes.map dJ)
def sM(A:List eE):List (cM):=A.flatMap QK
theorem NZ(s:eE):(QK s).length=1+s.kept.length+s.notes.length:=by unfold QK;simp;omega
theorem vM(ok:ox A):(sM A).length<=13*A.length:=by
 have key: ∀B:List eE,(∀s∈B,s.kept.length<=6/\s.notes.length<=6)->(sM B).length<=13*B.length:=by
  intro B;induction B with
  |nil=>intro _;simp[sM]
  |cons s B I=>
   intro H;have e:=H s df;have f:=I (λx d=>H x (ct _ d));unfold sM at*;rw[fp,ar,NZ,aW];omega
 refine key A λs b=> ?_
 obtain⟨i,a⟩:=bK b;exact⟨(ok.at_ i s a).kl,(ok.at_ i s a).nl⟩
theorem mq(H:Has h t X A)(ok:ox A)(hk: ∀h' p' l' c',BL h h' p' l' c' (sM A)->Fr No h h'->R (.slice p' l' c') h'):Cl 76 #[.P t 0] h R:=by
 refine sL.walk (rD H ok λn p1 l1 c1 O1 f1=>⟨_,_,_,rfl,?_⟩);obtain⟨xs,D,rfl,Yk,rfl,k',Xr,ZH⟩:=O1;have Yl:=ok.le;rw[aA]at Yl;refine⟨λop O oc i h2=> ∃k:Nat,i=(k:Int)/\k<=xs.length/\BL n h2 op O oc (sM ((xs.map SC.abs).take k))/\O<=13*k/\Fr No n h2,λ_ _ _ i _=>xs.length - i.toNat,⟨0,rfl,ae,BL.nil,ae,Fr.refl _ _⟩,?_⟩;rintro op O oc _ g ⟨k,rfl,Xs,B,ZI,U⟩;by_cases RE:k<xs.length
 .have q1:(k:Int)<(xs.length:Int):=ae
  simp only[q1,bt,bg,aC];have z:xs[k]? =some xs[k]:=aj RE;generalize xs[k]=s at z;have Xt:(xs.map SC.abs)[k]? =some s.abs:=by rw[aF,z];rfl
  have pj:=ok.at_ k _ Xt;have kl:s.kept.length<=6:=by have:=pj.kl;rwa[show s.abs.kept.length=s.kept.length from aA _]at this
  have nl:s.notes.length<=6:=by have:=pj.nl;rwa[show s.abs.notes.length=s.notes.length from aA _]at this
  have Ym:s.num=k+1:=pj.num;have ZJ:s.token<=2147483648:=pj.tk.2;have kb: ∀a∈s.kept,a.id<=1099511627776/\a.v.b.length<=1000:=λa m=>pj.kd a.abs (bu m)
  have nb: ∀a∈s.notes,a.b.length<=600:=λa m=>(pj.nd a.b (bu m)).2
  have UE:=Yk.frame U cb;have ZK: ∀{h':ak},Fr No g h'->By h' D s:=λf=>(k' s (aJ z)).frame (U.tt f) cb
  obtain⟨ab,Yn,rfl⟩:=UE.addr ae;have zg:=U.1;have zh:=f1.1;refine⟨⟨by first|trivial|omega,by first|trivial|omega⟩,az.2 (cG.wm (UE.fI NY z) (cG.new λb h9 eb q f9=> ?_))⟩;refine⟨_,aq q,_,aq q,_,aq q,_,aq q,_,_,_,aq q,_,_,_,aq q,?_⟩;refine hM.gu λU7 w Yo X' f10 g10=>⟨_,rfl,?_⟩
  have N':Up h9 Yo U7:=⟨f10,g10⟩;have N: ∀{S:Nat->Prop}{h':ak},Up h9 S h'->¬S b:=λu hx=>by have:=u.ge b hx;have:=aE q;omega
  have r:=f10.get q id;refine⟨aq r,aq r,aq r,aq r,aq r,aq r,?_⟩;refine gR X' bQ ae λYp Yf q' H'=>⟨_,rfl,?_⟩
  have w:=H'.fr.get r (N N');have O':=N'.step H';have e1:fJ (s.num:Int)=s.num:=by unfold fJ;omega
  rw[e1,cy]at q';have l1:=(bO s.num).2;refine⟨aq w,aq w,aq w,aq w,aq w,?_⟩;refine fz s.token q' ae rfl ae λWi ZL Y' I'=>⟨_,rfl,?_⟩
  have G:=I'.fr.get w (N O');have P':=O'.step I';have l2:=(bO s.token).2;refine⟨aq G,aq G,aq G,aq G,?_⟩;refine Jf Y' (by rw[ar];omega) λYq ZM Z' J'=>⟨_,rfl,?_⟩
  have T:=J'.fr.get G (N P');have Q':=P'.step J';have l3:=(bO (bit s.up)).2;refine⟨aq T,aq T,aq T,?_⟩;refine Jf Z' (by simp only[ar];omega) λVj ZN Xu K'=>⟨_,rfl,?_⟩
  have a':=K'.fr.get T (N Q');have R':=Q'.step K';have l4:=(bO (bit s.watch)).2;refine⟨aq a',aq a',?_⟩;refine gR Xu (by simp only[ar];omega) ae λYr ZO r' L'=>⟨_,rfl,?_⟩
  have b':=L'.fr.get a' (N R');have S':=R'.step L';have e5:fJ ((s.kept.length:Nat):Int)=s.kept.length:=by unfold fJ;omega
  rw[e5]at r';have l5:=(bO s.kept.length).2;refine⟨aq b',aq b',?_⟩;refine gR r' (by simp only[ar];omega) ae λYs ZP Z M'=>⟨_,rfl,?_⟩
  have d':=M'.fr.get b' (N S');have T':=S'.step M';have e6:fJ ((s.notes.length:Nat):Int)=s.notes.length:=by unfold fJ;omega
  rw[e6]at Z;have l6:=(bO s.notes.length).2;refine⟨aq d',aq d',?_⟩;have eh:cd s.num++cd s.token++cd (bit s.up)++cd (bit s.watch)++cd s.kept.length++cd s.notes.length=mZ s.abs:=by
   unfold mZ;rw[show s.abs.kept.length=s.kept.length from aA _,show s.abs.notes.length=s.notes.length from aA _];rfl
  have ZQ:(mZ s.abs).length<=60:=by rw[<-eh];simp only[ar];omega
  rw[eh]at Z;refine ir Z ae λQ d17 o B' f17 g17=>⟨_,_,_,rfl,?_⟩
  have e':=f17.get d' id;refine⟨aq e',aq e',?_⟩;have L:Fr No g o:=f9.tt (T'.fr.tt f17);have z9:=f9.1;have ZR:=T'.fr.1;have Yt:=L.1;obtain⟨ys,DB,Tv,y',Yu,Xv,z',Xw⟩:=B;refine cI ?_;have f18:Fr No o (o.push (.cells #[.slice Q (mZ s.abs).length d17] 22)):=Fr.push _ _;have D':Row (o.push (.cells #[.slice Q (mZ s.abs).length d17] 22)) (Sa o.size 0) (jO ⟨Q,d17,mZ s.abs⟩):=iS (cs:=jO ⟨Q,d17,mZ s.abs⟩);have UF:(o.push (.cells #[.slice Q (mZ s.abs).length d17] 22)).size=o.size+1:=du _;generalize o.push (.cells #[.slice Q (mZ s.abs).length d17] 22)=ZS at f18 D' UF⊢;have f':=f18.get e' id;refine⟨aq f',aq f',?_⟩;have C': ∀y,aL op y->y<g.size:=λy hy=>y'.dw hy
  have Xx: ¬aL op b:=λhx=>by have:=C' b hx;omega
  refine dD tN uN ((y'.frame L cb).frame f18 cb) D' rfl (λv hv=>by simp at hv;subst hv;rfl) ae ae ?_;intro Xy Yw u' Xz _ f19 V;have I:=f19.get f' Xx;refine⟨_,_,_,rfl,aq I,aq I,?_⟩;have ZT:=f19.1;have s': ∀y,aL Q y->Ys.size<=y/\y<o.size:=λy hy=>⟨g17 y hy,B'.dw hy⟩
  have V':BL n u' Xy (O+1) Yw (sM ((xs.map SC.abs).take k)++ [mZ s.abs]):=by
   refine⟨ys++ [⟨Q,d17,mZ s.abs⟩],λy=>DB y\/aL Q y,by rw[ar,Tv];rfl,?_,?_,?_,?_,?_⟩
   .rw[bY];simpa using Xz
   .rw[aV,Yu];rfl
   .intro x hx;rcases bz.1 hx with hx|hx
    .exact((((Xv x hx).frame L cb).frame f18 cb).frame f19 (λy hy=>(z' y hy).2.2)).mono (λy=> .inl)
    .simp at hx;subst hx;exact BV.jr ((B'.frame f18 cb).frame f19 (λy hy d=>gv (s' y hy) (C' y d))) (λy=> .inr)
   .rintro y (hy|hy)
    .have a:=z' y hy;exact⟨a.1,ae,λd=>(V y d).elim a.2.2 (λh2=>ae)⟩
    .have a:=s' y hy;exact⟨ae,ae,λd=>(V y d).elim (λh2=>bR (C' y h2)) (λh2=>ae)⟩
   .intro y hy;rcases V y hy with h2|h2
    .exact Xw y h2
    .omega
  have W':Fr No n u':=(U.tt (L.tt f18)).step f19 (λy hy d=>bR (Xw y d));have Yx:b<u'.size:=aE I;have Jv:n.size<=b:=ae
  have Ty: ¬aL Xy b:=λd=>(V b d).elim Xx (λh2=>ae)
  have Y: ∀{h':ak},Fr No n h'->By h' D s:=λf=>(k' s (aJ z)).frame f cb
  clear Xz f19 V D' UF f18 f' e' B' f17 g17 Z d' r' b' Xu a' Z' T Y' G q' w X' r q M' L' K' J' I' H' f10 g10 N' O' P' Q' R' S' T' s' y' Xv z' L f9;refine⟨_,_,_,aq I,?_⟩;refine⟨λJ C W i h'=> ∃j:Nat,i=(j:Int)/\j<=s.kept.length/\BL n h' J C W (sM ((xs.map SC.abs).take k)++ [mZ s.abs]++(s.abs.kept.map DE).take j)/\C<=O+1+j/\Fr No n h'/\
   cG.at h' b (s.num:Int) (s.token:Int) s.up s.watch s.kp s.kept.length s.kc s.np s.notes.length s.nc/\¬aL J b,λ_ _ _ i _=>s.kept.length - i.toNat,⟨0,rfl,ae,cH V',ae,W',I,Ty⟩,?_⟩
  clear V' W' I Ty;rintro J C W _ UG ⟨j,rfl,hj,E,UH,F,g',A'⟩;have z20:=F.1;by_cases j':j<s.kept.length
  .have q2:(j:Int)<(s.kept.length:Int):=ae
   simp only[q2,bt,bg,aC];have m:s.kept[j]? =some s.kept[j]:=aj j';generalize s.kept[j]=a at m;have E':=(Y F).k;obtain⟨ka,w'⟩:=E'.some (λe=>by have:=bP List.length e;rw[eO AV.enc 2 gA,bw]at this;omega);rw[w']at E';refine⟨⟨by first|trivial|omega,by first|trivial|omega⟩,?_⟩;rw[w'];have ZU:=kb a (aJ m);refine az.2 (bW.wm (E'.fI gA m) (bW.new λb2 XA XB i' f23=>⟨_,aq i',_,_,_,aq i',?_⟩));refine hM.gu λXC w Yy Yz f24 g24=>⟨_,rfl,?_⟩
   have XD:Up XA Yy XC:=⟨f24,g24⟩;have t':=f24.get i' id;refine⟨aq t',aq t',?_⟩;refine fz a.id Yz bQ rfl ae λYA ZV XE XF=>⟨_,rfl,?_⟩
   rw[cy]at XE;have U':=XD.step XF;have YB:=XF.fr.get t' (λhx=>gv (XD.ge b2 hx) (aE i'));refine⟨aq YB,?_⟩;have YC:Fr No n YA:=F.tt (f23.tt U'.fr);have l7:=(bO a.id).2;have G':=((Y YC).kd a (aJ m)).row;refine mP XE ae G' rfl ae (λy hy x' hS=> ?_) λZW ZX YD YE=>⟨_,rfl,?_⟩
   .have a1:=(k' s (aJ z)).kd a (aJ m);have a2:=(Xr y (a1.own x' y hy)).2.1;have a3:=U'.ge y hS;have a4:=f23.1;omega
   have XG:=U'.step YE;have l8:=(bO a.v.b.length).2;have el:(dJ a.v.b).length=(cd a.v.b.length).length+a.v.b.length:=by unfold dJ;rw[ar]
   refine ir YD (by rw[ar];omega) λZY d27 XH XI f27 XJ=>⟨_,_,_,rfl,?_⟩
   have M:Fr No UG XH:=f23.tt (XG.fr.tt f27);have z27:=M.1;have zu:=(f23.tt XG.fr).1;have er:cd a.id++dJ a.v.b=DE a.abs:=rfl;rw[er]at XI⊢;refine(E.on M).push ae XI (λy hy=>⟨bR (XJ y hy),λd=>gv (E.lt d) (XJ y hy)⟩) ae ?_;intro ZZ Z1 Z6 m' f29 YF;refine⟨_,_,_,rfl,?_⟩;rw[bB ae ae];refine⟨⟨j+1,ae,ae,?_,ae,?_,(by rw[<-w'];exact f29.get (M.get g' id) A'),?_⟩,?_⟩
   .rw[cT]at m';rw[bm,show(s.abs.kept.map DE)[j]? =some (DE a.abs) by show((s.kept.map AV.abs).map DE)[j]? =_;rw[aF,aF,m];rfl];rw[<-cT]at m'⊢;exact m'
   .refine(F.tt M).step f29 (λy hy d=> ?_);obtain⟨_,_,_,_,_,_,_,v'⟩:=E;have:=v' y d;omega
   .intro d;rcases YF b d with h2|h2
    .exact A' h2
    .have:=aE (M.get g' id);omega
   .show s.kept.length - Int.toNat ((j:Int)+1)<s.kept.length - Int.toNat (j:Int);omega
  .have q2: ¬(j:Int)<(s.kept.length:Int):=ae
   simp only[q2,bf,au,aM];rw[bk (l:=s.abs.kept.map DE) (by rw[aA,show s.abs.kept.length=s.kept.length from aA _];omega)]at E;refine⟨_,_,_,aq g',?_⟩;refine⟨λJ C W i h'=> ∃j:Nat,i=(j:Int)/\j<=s.notes.length/\BL n h' J C W (sM ((xs.map SC.abs).take k)++ [mZ s.abs]++s.abs.kept.map DE++(s.abs.notes.map dJ).take j)/\C<=O+7+j/\Fr No n h',λ_ _ _ i _=>s.notes.length - i.toNat,⟨0,rfl,ae,cH E,ae,F⟩,?_⟩;clear E F g' A' z20 UH j' hj q2;rintro J C W _ Wj ⟨j,rfl,hj,K,UH,P⟩;have Z8:=P.1;by_cases j':j<s.notes.length
   .have q2:(j:Int)<(s.notes.length:Int):=ae
    simp only[q2,bt,bg,aC];have m:s.notes[j]? =some s.notes[j]:=aj j';generalize s.notes[j]=a at m;have F':=(Y P).n;obtain⟨ka,XK⟩:=F'.some (λe=>by have:=bP List.length e;rw[eO jO 1 jX,bw]at this;omega);rw[XK]at F';refine⟨⟨by first|trivial|omega,by first|trivial|omega⟩,?_⟩;rw[XK];have Z9:=nb a (aJ m);refine az.2 ⟨a.p,a.b.length,a.c,?_,?_⟩
    .have:=(F'.fI jX m).1;rwa[eK]at this
    refine hM.gu λXL w YG YH f31 YI=>⟨_,rfl,?_⟩
    have XM:Up Wj YG XL:=⟨f31,YI⟩;have G':=((Y (P.tt f31)).nd a (aJ m)).row;refine mP YH bQ G' rfl ae (λy hy x' hS=> ?_) λYJ S32 XN YK=>⟨_,rfl,?_⟩
    .have a1:=(k' s (aJ z)).nd a (aJ m);have a2:=(Xr y (a1.own x' y hy)).2.1;have a3:=XM.ge y hS;omega
    rw[cy]at XN;have u32:=XM.step YK;have l8:=(bO a.b.length).2;have el:(dJ a.b).length=(cd a.b.length).length+a.b.length:=by unfold dJ;rw[ar]
    refine ir XN ae λq33 d33 YL YM f33 XO=>⟨_,_,_,rfl,?_⟩
    have o':Fr No Wj YL:=u32.fr.tt f33;have z33:=o'.1;have zu:=u32.fr.1;refine(K.on o').push ae YM (λy hy=>⟨bR (XO y hy),λd=>gv (K.lt d) (XO y hy)⟩) ae ?_;intro p35 c35 YN n' f35 g35;refine⟨_,_,_,rfl,?_⟩;rw[bB ae ae];refine⟨⟨j+1,ae,ae,?_,ae,?_⟩,?_⟩
    .rw[cT]at n';rw[bm,show(s.abs.notes.map dJ)[j]? =some (dJ a.b) by show((s.notes.map BV.b).map dJ)[j]? =_;rw[aF,aF,m];rfl];rw[<-cT]at n'⊢;exact n'
    .refine(P.tt o').step f35 (λy hy d=> ?_);obtain⟨_,_,_,_,_,_,_,v'⟩:=K;have:=v' y d;omega
    .show s.notes.length - Int.toNat ((j:Int)+1)<s.notes.length - Int.toNat (j:Int);omega
   .have q2: ¬(j:Int)<(s.notes.length:Int):=ae
    simp only[q2,bf,au,aM];rw[bk (l:=s.abs.notes.map dJ) (by rw[aA,show s.abs.notes.length=s.notes.length from aA _];omega)]at K;rw[bB ae ae];refine⟨⟨k+1,ae,ae,?_,ae,P⟩,?_⟩
    .have e:sM ((xs.map SC.abs).take (k+1))=sM ((xs.map SC.abs).take k)++ [mZ s.abs]++s.abs.kept.map DE++s.abs.notes.map dJ:=by
      unfold sM;rw[bm,Xt,bY];simp[QK]
     rw[e];exact K
    .show xs.length - Int.toNat ((k:Int)+1)<xs.length - Int.toNat (k:Int);omega
 .have q1: ¬(k:Int)<(xs.length:Int):=ae
  simp only[q1,bf,au,aM];rw[bk (by rw[aA];omega)]at B;exact hk g op O oc (B.mono f1.1) (f1.tt U)

end eE
end
section
open Go.fk
namespace hM
variable {h h' b:ak} {R:fG} {p q:bZ} {l c:Nat} {bs:List (cM)}
variable {n:Nat}
structure RS where
 p:bZ
 c:Nat
 xs:List BV
abbrev RS.val(t:RS):Value:=.slice t.p t.xs.length t.c
variable {ts:List RS}
theorem CD(xs:List BV):(xs.flatMap jO).length=xs.length:=by
 rw[eO jO 1 jX,cp]
theorem N0(m:n<=1000000)(hk: ∀P C h',fi h' P 0 C 1 []->Fr No h h'->(∀y,aL P y->h.size<=y)->R (.slice P 0 C) h'):
  Cl 138 #[.Z,.I (n:Int)] h R:=by
 refine mr.walk (aI.of λJ g=> ?_);have e2:IntKind.wrap .i64 ((n:Int) - (IntKind.wrap .i64 (((0:Nat):Int) - ((0:Nat):Int))))=(n:Int):=by
  rw[show IntKind.wrap .i64 (((0:Nat):Int) - ((0:Nat):Int))=0 from rfl,bB ae ae];omega
 rw[af (λe=>bR (aP e))];subst g;refine aI.of λj H=> ?_
 rw[e2];by_cases i:n=0
 .subst i;rw[af bQ];subst H;exact hk none 0 h (.nil rfl rfl rfl rfl) (Fr.refl _ _) (λy ⟨a,e,_⟩=>by cases e)
 .rw[gh];refine⟨ae,?_⟩;rw[iE];refine EM tN cZ ae ae ae λd h' o k f=>⟨_,_,_,rfl,ae,?_⟩
  rw[iE];subst H;exact hk _ d h' o f (λy ⟨a,e,e2⟩=>by cases e;exact Nat.le_of_eq e2)
theorem w4{j:Nat}{t:RS}(H:ts[j]? =some t):(ts.take (j+1)).flatMap RS.xs=(ts.take j).flatMap RS.xs++t.xs:=by
 rw[bm,H,bY];simp
theorem HZ{a:Addr}{m:Nat}(w:Row h (some a) (ts.map RS.val))(B: ∀t∈ts,Row h t.p (t.xs.flatMap jO))(A:n=ts.length)(s:ts.length<=1000)(U:(ts.flatMap RS.xs).length<=1000000)(hk: ∀h' P C,fi h' P (ts.flatMap RS.xs).length C 1 ((ts.flatMap RS.xs).flatMap jO)->Fr No h h'->(∀y,aL P y->h.size<=y)->R (.slice P (ts.flatMap RS.xs).length C) h'):
  Cl 77 #[.slice (some a) n m] h R:=by
 subst A;have T: ∀j,((ts.take j).flatMap RS.xs).length<=(ts.flatMap RS.xs).length:=λj=>by
  conv=>rhs;rw[<-List.take_append_drop j ts]
  rw[bY,ar];omega
 have at_: ∀{g:ak}{j:Nat}{t:RS},Fr No h g->ts[j]? =some t->aX g (a.add (Int.toNat (j:Int)*1))=some t.val:=λf s=>by
  rw[aC,cp];exact(w.frame f cb).cell (by rw[aF,s];rfl)
 refine lP.walk ⟨λsize i g=>g=h/\∃j:Nat,i=(j:Int)/\j<=ts.length/\size=((((ts.take j).flatMap RS.xs).length:Nat):Int),λ_ i _=>ts.length - i.toNat,⟨rfl,0,rfl,br _,rfl⟩,?_⟩;rintro _ _ g ⟨rfl,j,rfl,x,rfl⟩;by_cases d:j<ts.length
 .rw[gh];have H:=aj d;have e1:=bP List.length (w4 H);rw[ar]at e1;have t1:=T (j+1);refine aI.of λJ v=>⟨ae,az.2 ⟨_,_,_,at_ (Fr.refl _ _) H,aI.of λK r=> ?_⟩⟩
  have e:IntKind.wrap .i64 (((((ts.take j).flatMap RS.xs).length:Nat):Int)+((ts[j].xs.length:Nat):Int))=((((ts.take (j+1)).flatMap RS.xs).length:Nat):Int):=by rw[bB ae ae];omega
  rw[e]at r⊢;rw[af (λe=>bR (aP e))];subst r;subst v;dsimp only;rw[bB ae ae];exact⟨⟨rfl,j+1,ae,ae,rfl⟩,by show ts.length - Int.toNat ((j:Int)+1)<ts.length - Int.toNat (j:Int);omega⟩
 .rw[af (λe=>bR (aP e))];have E:j=ts.length:=ae
  subst E;rw[dZ];refine N0 ae λV L Q I f4 g4=>⟨_,_,_,rfl,?_⟩
  refine⟨λnp nl nc i G=>Fr No g G/\(∀y,aL np y->g.size<=y)/\∃j:Nat,i=(j:Int)/\j<=ts.length/\nl=((ts.take j).flatMap RS.xs).length/\fi G np nl nc 1 (((ts.take j).flatMap RS.xs).flatMap jO),λ_ _ _ i _=>ts.length - i.toNat,⟨f4,g4,0,rfl,br _,rfl,I⟩,?_⟩;rintro np nl nc i G ⟨F,k,j,rfl,x,rfl,o⟩;by_cases d:j<ts.length
  .rw[gh];have H:=aj d;have e1:=bP List.length (w4 H);rw[ar]at e1;have t1:=T (j+1);refine⟨ae,az.2 ⟨_,_,_,at_ F H,?_⟩⟩;refine dD tN uN o ((B _ (dQ d)).frame F cb) (by rw[CD,cp]) (zT _) ae ae λW M S O _ f6 u=>⟨_,_,_,rfl,?_⟩
   rw[<-bY,<-w4 H,<-e1]at O;rw[<-e1,bB ae ae];have z:=F.1;exact⟨⟨F.fresh f6 k,(λy D=>(u y D).elim (k y) (λN=>ae)),j+1,ae,ae,rfl,O⟩,by show ts.length - Int.toNat ((j:Int)+1)<ts.length - Int.toNat (j:Int);omega⟩
  .rw[af (λe=>bR (aP e))];have E:j=ts.length:=ae
   subst E;rw[dZ]at o⊢;exact hk G np nc o F k
theorem BL.frame{Q:Nat->Prop}(H:BL b h p l c bs)(f:Fr Q h h')(g: ∀y,b.size<=y->¬Q y):BL b h' p l c bs:=by
 obtain⟨xs,D,i,j,k,m,d,e⟩:=H;exact⟨xs,D,i,j.frame f (λy a=>g y (e y a)),k,λx o=>(m x o).frame f (λy a=>g y (d y a).1),λy a=>⟨(d y a).1,cE (d y a).2.1 f.1,(d y a).2.2⟩,e⟩
theorem QL{g g4:ak}{X d e f:List BV}{D i j k:Nat->Prop}{P m:bZ}{C o:Nat}{hd:cM}{e1 e2 E r:List (cM)}(d1: ∀x∈X,x.ok g D)(d2: ∀x∈d,x.ok g i)(d3: ∀x∈e,x.ok g j)(d4: ∀x∈f,x.ok g k)(q1:X.map BV.b=e1)(q2:d.map BV.b=e2)(q3:e.map BV.b=E)(q4:f.map BV.b=r)(all: ∀y,D y\/i y\/j y\/k y->h.size<=y/\y<g.size)(F:Fr No g h')(Z:g.size<=g4.size)(z:g4.size<=h'.size)(t:h.size<=g4.size)(s:fi h' P hd.length C 1 (bc hd))(i5: ∀y,aL P y->h.size<=y/\y<g4.size)(H:n=1+(X++(d++(e++f))).length)
  (O:fi h' m n o 1 ((⟨P,C,hd⟩::(X++(d++(e++f)))).flatMap jO)) (L: ∀y,aL m y->g4.size<=y):BL h h' m n o (hd::(e1++(e2++(E++r)))):=by
 subst q1 q2 q3 q4;refine⟨⟨P,C,hd⟩::(X++(d++(e++f))),λy=>(D y\/i y\/j y\/k y)\/aL P y,by rw[aW];omega,O,bQ,λx hx=> ?_,λy hy=> ?_,λy hy=> ?_⟩
 .rcases bG.1 hx with rfl|hx
  .exact BV.jr s (λy hy=> .inr hy)
  rcases bz.1 hx with hx|hx
  .exact((d1 x hx).frame F cb).mono λy a=> .inl (.inl a)
  rcases bz.1 hx with hx|hx
  .exact((d2 x hx).frame F cb).mono λy a=> .inl (.inr (.inl a))
  rcases bz.1 hx with hx|hx
  .exact((d3 x hx).frame F cb).mono λy a=> .inl (.inr (.inr (.inl a)))
  .exact((d4 x hx).frame F cb).mono λy a=> .inl (.inr (.inr (.inr a)))
 .rcases hy with hy|hy
  .have:=all y hy;exact⟨ae,ae,λq=>bR (L y q)⟩
  .have:=i5 y hy;exact⟨ae,ae,λq=>bR (L y q)⟩
 .have:=L y hy;omega

end hM
end
section
open Go.fk
namespace eN
open iY (Ev cV kO gE)
open hM
variable {h h':ak} {R:fG} {s k:Nat} {X:Ft} {I:sK} {σ:SS} {p:bZ}
variable {e:Ev} {tm sq:Nat}
theorem DF(M:Mk h k e tm sq)(hk: iq h R (.agg #[.bool e.jT,.U e.node,.U e.gr,.string e.host,.string e.jv,.U (tm:Int),.U (sq:Int)])):
  Cl 74 #[pt k] h R:=by
 refine wZ.walk (ai.box λb g E f f1=> ?_);have m:=f1.get M id;refine aI.of λJ d=>⟨_,aq m,?_⟩
 subst d;dsimp only;rw[dz];refine⟨_,aq m,_,aq m,_,aq m,_,aq m,_,aq m,_,aq m,_,aq m,ai.set f λH a A c=>ai.ld a (hk H (f1.fresh (Fr.of_eq (S:=λy=>y=b) A c) (λy e=>ae)))⟩
def N1(σ:SS):List (cM):=eE.sM σ.A++(σ.G.map gj.wV++(gx.vK σ.C++gD.vL σ.B))
def Jw(σ:SS):cM:=dJ (gE σ.e)++cd σ.now++cd σ.rf++cd σ.tm++cd σ.sq++cd (eE.sM σ.A).length++cd (σ.G.map gj.wV).length++cd (gx.vK σ.C).length++cd (gD.vL σ.B).length
theorem Jx{w b:Nat}{S:Nat->Prop}{t:cM}{T c:Nat}{now rf:Nat}{K:bZ->ak->Prop}(W:Wr h w S [])(r:Row h p (bc t))(O:T=t.length)(hl:t.length<=100000000)(o:now<18446744073709551616/\rf<=1000000000/\tm<18446744073709551616/\sq<18446744073709551616)(N: ∀y,aL p y->t≠ []->¬S y)(B:Bk h s I now rf)(M:ai.at h b e.jT e.node e.gr e.host e.jv (tm:Int) (sq:Int))(P: ¬S b)(ns: ¬S s)(hk: ∀g a,Wr g w a (dJ t++cd now++cd rf++cd tm++cd sq)->Step S h a g->K (Sa w 0) g):
  Cl 71 #[.P w 0,.slice p T c] h λV H=>
   ∃t48,V=.pointer t48/\
   aX H (AA b 6)=some (.U (sq:Int))/\
   aX H (AA b 5)=some (.U (tm:Int))/\
   aX H (AA s 7)=some (.I (rf:Int))/\
   aX H (AA s 6)=some (.U (now:Int))/\
   Cl 72 #[.pointer t48,.U (now:Int)] H λU j=>
   ∃t53,U=.pointer t53/\
   aX j (AA b 6)=some (.U (sq:Int))/\
   aX j (AA b 5)=some (.U (tm:Int))/\
   aX j (AA s 7)=some (.I (rf:Int))/\
   Cl 66 #[.pointer t53,.I (rf:Int)] j λY n=>
   ∃t58,Y=.pointer t58/\
   aX n (AA b 6)=some (.U (sq:Int))/\
   aX n (AA b 5)=some (.U (tm:Int))/\
   Cl 72 #[.pointer t58,.U (tm:Int)] n λZ x=>
   ∃t61,Z=.pointer t61/\
   aX x (AA b 6)=some (.U (sq:Int))/\
   Cl 72 #[.pointer t61,.U (sq:Int)] x λa' L=>
   ∃t64,a'=.pointer t64/\K t64 L:=by
 subst O;have C: ∀{g a}(i:Nat)(v:Value),Step S h a g->(#[Value.bool e.jT,.U e.node,.U e.gr,.string e.host,.string e.jv,.U (tm:Int),.U (sq:Int)])[i]? =some v->aX g (AA b i)=some v:=λi v st q=>st.fr.cell (cK M q) P
 have cs: ∀{g a}(i:Nat)(v:Value),Step S h a g->(#[pt I.t,pt I.r,pt I.c,pt I.o,pt I.p,pt I.k,.U (now:Int),.I (rf:Int)])[i]? =some v->aX g (AA s i)=some v:=λi v st q=>st.fr.cell (cK B q) ns
 have l0:(dJ t).length<=200000000:=by unfold dJ;rw[ar];have:=bO t.length;omega
 have ln:=bO now;have lr:=bO rf;have lt:=bO tm;refine mP W bQ r rfl ae N λg1 S1 u s1=>⟨_,rfl,C _ _ s1 rfl,C _ _ s1 rfl,cs _ _ s1 rfl,cs _ _ s1 rfl,?_⟩
 rw[cy]at u;refine fz now u ae rfl o.1 λg2 S2 D d=>⟨_,rfl,?_⟩
 have d:=s1.trans d;refine⟨C _ _ d rfl,C _ _ d rfl,cs _ _ d rfl,gR D (by rw[ar];omega) ae λG z m f=>⟨_,rfl,?_⟩⟩;have f:=d.trans f;have m:Wr G w z (dJ t++cd now++cd rf):=m;refine⟨C _ _ f rfl,C _ _ f rfl,fz tm m (by simp only[ar];omega) rfl o.2.2.1 λg4 S4 E l=>⟨_,rfl,?_⟩⟩;have l:=f.trans l;refine⟨C _ _ l rfl,fz sq E (by simp only[ar];omega) rfl o.2.2.2 λJ A F Q=>⟨_,rfl,hk J A F (l.trans Q)⟩⟩
theorem mq(H:Pt h s X I σ)(G:Good σ k)(Z':k<=30000)(tb:mO.oe h)(hk: ∀h' V l' c',BL h h' V l' c' (Jw σ::N1 σ)->Fr No h h'->R (.slice V l' c') h'):
  Cl 27 #[pt s] h R:=by
 refine wY.walk (fO H.cX ⟨_,rfl,?_⟩);rw[dz];obtain⟨W',hp,_⟩:=id H;obtain⟨M,_⟩:=hp 5;refine⟨_,aq H.cX,DF M λh2 f2=>⟨_,_,_,_,_,_,_,rfl,ai.new λb X' eb hb f10=>⟨_,aq hb,_,aq hb,_,aq hb,_,aq hb,_,aq hb,?_⟩⟩⟩;have s':=f2.tt f10;refine iY.nL σ.e (tb.on s') G.e.2.2 λJ f11=>⟨_,_,rfl,aI.of λG' hJ=> ?_⟩
 rw[ah G.e.1]at hJ;have N:=s'.tt f11;have N':=f11.get hb id;have B: ∀{g},Fr No J g->Bk g s I σ.now σ.rf:=λf=>f.get (N.get H.cX id) id
 have H':=H.ord;have sm:=G.small H' ae;have gl:=G.c.L;obtain⟨Lb,U'⟩:=H.okB;have s0: ∀{g:ak}{K:bZ->Nat->Nat->ak->Prop},Fr No J g->(∀d p l c,BL g d p l c (eE.sM σ.A)->Fr No g d->K p l c d)->Cl 76 #[pt I.t] g λv d=> ∃p l c,v=.slice p l c/\K p l c d:=λf U=>
  eE.mq (eE.Has.frame (hp 0) (N.tt f) cb) G.a λd p l c L T=>⟨p,l,c,rfl,U d p l c L T⟩
 have s1: ∀{g:ak}{K:bZ->Nat->Nat->ak->Prop},Fr No J g->(∀d p l c,BL g d p l c (σ.G.map gj.wV)->Fr No g d->K p l c d)->Cl 22 #[pt I.r] g λv d=> ∃p l c,v=.slice p l c/\K p l c d:=λf U=>
  gj.mq (gj.Tb.on (hp 1) (N.tt f)) (bR G.g.len) G.g.all (tb.on (N.tt f)) λd p l c L T=>⟨p,l,c,rfl,U d p l c L T⟩
 have s2: ∀{g:ak}{K:bZ->Nat->Nat->ak->Prop},Fr No J g->(∀d p l c,BL g d p l c (gx.vK σ.C)->Fr No g d->K p l c d)->Cl 23 #[pt I.c] g λv d=> ∃p l c,v=.slice p l c/\K p l c d:=λf U=>
  gx.mq (gx.Ct.on (hp 2) (N.tt f)) sm ae G.c.all (tb.on (N.tt f)) λd p l c L T=>⟨p,l,c,rfl,U d p l c L T⟩
 have s3: ∀{g:ak}{K:bZ->Nat->Nat->ak->Prop},Fr No J g->(∀d p l c,BL g d p l c (gD.vL σ.B)->Fr No g d->K p l c d)->Cl 24 #[pt I.o] g λv d=> ∃p l c,v=.slice p l c/\K p l c d:=λf U=>
  gD.mq (gD.Be.on (hp 3) (N.tt f)) (bR G.b) λd p l c L T=>⟨p,l,c,rfl,U d p l c L T⟩
 have fin: ∀{g:ak}{u:Nat}{p1 p2 p3 W:bZ}{l1 c1 l2 c2 l3 c3 l4 Q:Nat},cO.at g u p1 l1 c1 p2 l2 c2 p3 l3 c3 W l4 Q->BL J g p1 l1 c1 (eE.sM σ.A)->BL J g p2 l2 c2 (σ.G.map gj.wV)->BL J g p3 l3 c3 (gx.vK σ.C)->BL J g W l4 Q (gD.vL σ.B)->Fr No J g->G' (Sa u 0) g:=by
  intro g u p1 p2 p3 W l1 c1 l2 c2 l3 c3 l4 Q ha Z P C z fg;subst hJ;dsimp only;have e':=fg.get N' id;have lb:=aE e';have ls:=aE (B fg);refine aI.of λJ1 L'=> ?_
  have tl:(gE σ.e).length<=100000000:=cD (iY.oP G.e.1 G.e.2.2) ae;have t': ∀{x:ak}{w:Nat}{S:Nat->Prop},Wr x w S (dJ (gE σ.e)++cd σ.now++cd σ.rf++cd σ.tm++cd σ.sq)->Fr No g x->(∀y,S y->g.size<=y)->J1 (Sa w 0) x:=by
   intro x w S W2 w' gS;subst L';dsimp only;have M':=w'.get ha id;obtain⟨q0,q1,q2,q3,_⟩:=cO.held M';rw[eK]at q0;refine az.2 ⟨_,_,_,q0,_,_,_,q1,_,_,_,q2,_,_,_,q3,?_⟩;obtain⟨k',D1,rfl,o1,e1,d1,b1,i1⟩:=Z;obtain⟨m',D2,rfl,o2,e2,d2,b2,i2⟩:=P;obtain⟨n',D3,rfl,o3,e3,d3,b3,i3⟩:=C;obtain⟨p',D4,rfl,o4,e4,d4,u',i4⟩:=z;have n1:=bP List.length e1;have n2:=bP List.length e2;have n3:=bP List.length e3;have n4:=bP List.length e4;rw[aA]at n1 n2 n3 n4;have m1:=eE.vM G.a;have m1':=G.a.le;have m2:=G.g.len;have m3:(gx.vK σ.C).length=σ.C.L.length+1:=by unfold gx.vK;simp
   have m4:(gD.vL σ.B).length=σ.B.items.length+1:=by unfold gD.vL;simp
   have m4':=U'.le;rw[aA]at n2
   let cs:List Nat:= [k'.length,m'.length,n'.length,p'.length]
   have Q':(dJ (gE σ.e)++cd σ.now++cd σ.rf++cd σ.tm++cd σ.sq).length<=1000000000:=by
    have:=bO σ.now;have:=bO σ.rf;have:=bO σ.tm;have:=bO σ.sq;have:=bO (gE σ.e).length;simp only[ar,dJ];omega
   generalize P':dJ (gE σ.e)++cd σ.now++cd σ.rf++cd σ.tm++cd σ.sq=b' at W2 Q';have fl: ∀l:List Nat,(l.flatMap cd).length<=10*l.length:=λl=>by
    induction l with
    |nil=>exact bn _
    |cons n l ih=>rw[fp,ar,aW];have:=bO n;omega
   refine⟨λi D=> ∃(j:Nat)(S':Nat->Prop),i=(j:Int)/\j<=4/\Wr D w S' (b'++(cs.take j).flatMap cd)/\Step S x S' D,λi _=>4 - i.toNat,⟨0,S,rfl,ae,cH W2,Step.refl _ _⟩,?_⟩;rintro _ D ⟨j,S',rfl,hj,W3,F'⟩;have lj:(b'++(cs.take j).flatMap cd).length<=1000000100:=by
    have:=fl (cs.take j);rw[bC]at this;rw[ar];have:min j cs.length<=4:=ae
    omega
   have one: ∀(n:Nat),cs[j]? =some n->n<=40000->Cl 66 #[.P w 0,.I (n:Int)] D λv y'=> ∃t72,v=.pointer t72/\((∃(j':Nat)(S':Nat->Prop),IntKind.wrap .i64 ((j:Int)+1)=(j':Int)/\j'<=4/\Wr y' w S' (b'++(cs.take j').flatMap cd)/\Step S x S' y')/\4 - (IntKind.wrap .i64 ((j:Int)+1)).toNat<4 - Int.toNat (j:Int)):=by
    intro n hn hb;have Y':j<4:=(aB.1 hn).1;refine gR W3 ae ae λg4 S4 W4 V'=>⟨_,rfl,?_⟩
    have W4:Wr g4 w S4 ((b'++(cs.take j).flatMap cd)++cd n):=W4;rw[bB ae ae];refine⟨⟨j+1,S4,ae,ae,?_,F'.trans V'⟩,ae⟩;rw[bm,hn,bY,<-cT];simpa using W4
   by_cases R':j<4
   .rw[gh];refine⟨ae,λe=> ?_,λe=> ?_,λe=> ?_,λe=> ?_,trivial⟩
    .obtain rfl:j=0:=ae
     exact one k'.length rfl ae
    .obtain rfl:j=1:=ae
     exact one m'.length rfl ae
    .obtain rfl:j=2:=ae
     exact one n'.length rfl ae
    .obtain rfl:j=3:=ae
     exact one p'.length rfl ae
   .rw[af (λe=>R' (bR (aP e)))];obtain rfl:j=4:=ae
    clear one;have eh:Jw σ=b'++(cs.take 4).flatMap cd:=by
     unfold Jw;rw[P',<-n1,aA,<-n2,<-n3,<-n4];simp[cs]
    rw[eh]at hk;generalize b'++(cs.take 4).flatMap cd=hd at W3 hk lj;refine az.2 (ir W3 ae λp5 c5 g4 o5 f5 i5=>⟨_,_,_,rfl,?_⟩);have x':Fr No g D:=w'.fresh F'.fr gS;have r':=x'.tt f5
    let ts:List hM.RS:= [⟨p1,c1,k'⟩,⟨p2,c2,m'⟩,⟨p3,c3,n'⟩,⟨W,Q,p'⟩]
    have et:ts.flatMap hM.RS.xs=k'++(m'++(n'++p')):=by simp[ts]
    have lt:(ts.flatMap hM.RS.xs).length<=40000:=by rw[et];simp only[ar];omega
    have v': ∀{d:ak}{K:fG},Fr No g4 d->(∀h' V c',fi h' V (ts.flatMap hM.RS.xs).length c' 1 ((ts.flatMap hM.RS.xs).flatMap jO)->Fr No d h'->(∀y,aL V y->d.size<=y)->K (.slice V (ts.flatMap hM.RS.xs).length c') h')->Cl 77 #[.slice (cR (Sa u 0) 4 0 1) (4 - 0) (4 - 0)] d K:=by
     intro d K f U;rw[iE];have F:=r'.tt f;refine HZ (ts:=ts) (.inr ⟨_,rfl,cO.held (F.get ha id)⟩) (λt ht=> ?_) rfl (by show 4<=1000;omega) ae U;rcases bG.1 ht with rfl|ht
     .exact o1.iJ.frame F cb
     rcases bG.1 ht with rfl|ht
     .exact o2.iJ.frame F cb
     rcases bG.1 ht with rfl|ht
     .exact o3.iJ.frame F cb
     .obtain rfl:=bM.1 ht;exact o4.iJ.frame F cb
    have done: ∀{d:ak}{b5 cc:Nat}{pc:bZ},Fr No g4 d->fi d (Sa b5 0) 1 1 1 [.slice p5 hd.length c5]->g4.size<=b5->fi d pc (ts.flatMap hM.RS.xs).length cc 1 ((ts.flatMap hM.RS.xs).flatMap jO)->
      aU Tryz.prog (Builtin.append_ #[64,64] 64 #[.slice (Sa b5 0) 1 1,.slice pc (ts.flatMap hM.RS.xs).length cc]) d λv h'=> ∃p l c,v=.slice p l c/\R (.slice p l c) h':=by
     intro d b5 cc pc f ol D' oc;refine dD tN uN ol oc.iJ (by rw[CD,cp]) (zT _) ae ae λV c' h' o' _ T I'=>⟨_,_,_,rfl,?_⟩
     have fF:=f.fresh T (λy ⟨a,e,e2⟩=>by cases e;rw[<-e2];exact D');have F:=r'.tt fF;have lo: ∀y,aL V y->g4.size<=y:=λy hy=>(I' y hy).elim (λ⟨a,e,e2⟩=>by cases e;rw[<-e2];exact D') (λq=>cD f.1 q)
     have q':=N.1;have z3:=x'.1;have z4:=r'.1;have zF:=fF.1;have zg:=fg.1;rw[et]at o'⊢;refine hk h' V _ c' (QL (g4:=g4) d1 d2 d3 d4 e1 e2 e3 e4 (λy hy=> ?_) F ae ae ae (o5.frame fF cb) (λy hy=>⟨bR (i5 y hy),o5.dw hy⟩) rfl o' lo) ((N.tt fg).tt F);rcases hy with hy|hy|hy|hy
     .exact⟨cD q' (b1 y hy).1,(b1 y hy).2.1⟩
     .exact⟨cD q' (b2 y hy).1,(b2 y hy).2.1⟩
     .exact⟨cD q' (b3 y hy).1,(b3 y hy).2.1⟩
     .exact⟨cD q' (u' y hy).1,(u' y hy).2.1⟩
    have E': ∀(d:ak),fi (d.push (.cells #[.slice p5 hd.length c5] 22)) (Sa d.size 0) 1 1 1 [.slice p5 hd.length c5]:=λd=> .row _ 0 _ _ rfl bV ae bQ rfl (λj v hj=>by rw[bH];simpa using hj)
    refine⟨cI (v' (Fr.push _ _) λA p6 c6 O f6 i6=>⟨_,_,_,rfl,done ((Fr.push _ _).tt f6) ((E' g4).frame f6 cb) (bn _) O⟩),v' (Fr.refl _ _) λE p6 c6 O f6 i6=>⟨_,_,_,rfl,cI (done (f6.tt (Fr.push _ _)) (E' E) f6.1 (O.frame (Fr.push (S:=λ_=>False) _ _) cb))⟩,trivial⟩
  have bS: ∀{S:Nat->Prop},(∀y,S y->g.size<=y)->¬S b/\¬S s:=λgS=>⟨λe=>bR (gS _ e),λe=>bR (gS _ e)⟩
  have nn:σ.now<18446744073709551616/\σ.rf<=1000000000/\σ.tm<18446744073709551616/\σ.sq<18446744073709551616:=by
   have:=G.n;have:=G.t;have:=G.r;omega
  have tx:(str (gE σ.e)).data.toList=gE σ.e:=rfl;refine⟨_,aq (B fg),_,aq (B fg),_,aq e',_,aq e',?_,?_,trivial⟩
  .refine hM.gu λJ' w S W6 f26 d'=>⟨_,rfl,?_⟩
   have F6:=fg.tt f26;have r:=f26.get e' id;refine⟨aq r,aq r,aq (B F6),aq (B F6),Rp λp7 c7 K' r7 ic f27 g'=>⟨_,_,_,rfl,?_⟩⟩;have F7:=F6.tt f27;have a':=f27.get r id;refine⟨aq a',aq a',aq (B F7),aq (B F7),Jx (W6.frame f27 cb) r7 (by rw[tx];rfl) tl nn (λy hy _ hs=>gv (g' y hy) (W6.lt y hs)) (B F7) a' (bS d').1 (bS d').2 λx S2 W2 f'=>t' W2 ((f26.tt f27).fresh f'.fr d') (λy hy=>(f'.new y hy).elim (d' y) (λq=>gv f26.1 f27.1))⟩
  .refine Rp λp7 c7 J' r7 ic f26 d'=>⟨_,_,_,rfl,?_⟩
   have F6:=fg.tt f26;have r:=f26.get e' id;refine⟨aq r,aq r,aq (B F6),aq (B F6),hM.gu λK' w S W7 f27 g'=>⟨_,rfl,?_⟩⟩;have F7:=F6.tt f27;have a':=f27.get r id;have i': ∀y,S y->g.size<=y:=λy hy=>cD f26.1 (g' y hy)
   refine⟨aq a',aq a',aq (B F7),aq (B F7),Jx W7 (r7.frame f27 cb) (by rw[tx];rfl) tl nn (λy hy T' hs=>gv (iK r7 (by rw[tx];intro e;exact T' (by cases ht:gE σ.e with|nil=>rfl|cons=>rw[ht]at e;simp[bc]at e)) hy) (g' y hs)) (B F7) a' (bS i').1 (bS i').2 λx S2 W2 f'=>t' W2 ((f26.tt f27).fresh f'.fr i') (λy hy=>(f'.new y hy).elim (i' y) (λq=>gv f26.1 f27.1))⟩
 refine⟨_,aq (B (Fr.refl _ _)),_,aq (B (Fr.refl _ _)),_,aq (B (Fr.refl _ _)),_,aq (B (Fr.refl _ _)),?_,?_,trivial⟩
 .refine s0 (Fr.refl _ _) λg1 p1 l1 c1 Z f1=>⟨aq (B f1),aq (B f1),aq (B f1),?_,?_,trivial⟩
  .refine s1 f1 λx p2 l2 c2 P f2=>⟨aq (B (f1.tt f2)),aq (B (f1.tt f2)),?_,?_,trivial⟩
   .have m:=f1.tt f2;refine s2 m λD p3 l3 c3 C f3=>⟨aq (B (m.tt f3)),?_,?_,trivial⟩
    .have o:=m.tt f3;refine s3 o λg4 W l4 Q z f4=>cO.new λu E eb O' f5=> ?_
     exact fin O' (Z.on (f2.tt (f3.tt (f4.tt f5)))) ((P.mono f1.1).on (f3.tt (f4.tt f5))) ((C.mono m.1).on (f4.tt f5)) ((z.mono o.1).on f5) (o.tt (f4.tt f5))
    .have o:=m.tt f3;refine cO.box λu g4 eb C' f4=>⟨aq (B (o.tt f4)),?_⟩
     have Y:=o.tt f4;refine s3 Y λE W l4 Q z f5=>cO.set (f5.get C' id) λA r z6 O=> ?_
     have f6:Fr (λy=>y=u) E A:=Fr.of_eq z6 O;have T3:Fr No D A:=(f4.tt f5).fresh f6 (λy e=>ae);exact fin r (Z.on (f2.tt (f3.tt T3))) ((P.mono f1.1).on (f3.tt T3)) ((C.mono m.1).on T3) ((z.frame f6 (λy hy e=>bR (aE C'))).mono Y.1) (o.tt T3)
   .have m:=f1.tt f2;refine cO.box λu D eb B' f3=>⟨aq (B (m.tt f3)),aq (B (m.tt f3)),?_⟩
    have o:=m.tt f3;have lb:=aE B';refine s2 o λg4 p3 l3 c3 C f4=>⟨aq (B (o.tt f4)),s3 (o.tt f4) λE W l4 Q z f5=>cO.set ((f4.tt f5).get B' id) λA r z6 O=> ?_⟩
    have Y:=o.tt f4;have f6:Fr (λy=>y=u) E A:=Fr.of_eq z6 O;have z4:=f4.1;have T2:Fr No x A:=(f3.tt (f4.tt f5)).fresh f6 (λy e=>ae);exact fin r (Z.on (f2.tt T2)) ((P.mono f1.1).on T2) (((C.on f5).frame f6 (λy hy e=>ae)).mono o.1) ((z.frame f6 (λy hy e=>ae)).mono Y.1) (m.tt T2)
  .refine cO.box λu x eb A' f2=>⟨aq (B (f1.tt f2)),aq (B (f1.tt f2)),aq (B (f1.tt f2)),?_⟩
   have m:=f1.tt f2;have lb:=aE A';refine s1 m λD p2 l2 c2 P f3=>⟨aq (B (m.tt f3)),aq (B (m.tt f3)),s2 (m.tt f3) λg4 p3 l3 c3 C f4=>⟨aq (B (m.tt (f3.tt f4))),s3 (m.tt (f3.tt f4)) λE W l4 Q z f5=>cO.set ((f3.tt (f4.tt f5)).get A' id) λA r z6 O=> ?_⟩⟩
   have o:=m.tt f3;have Y:=o.tt f4;have f6:Fr (λy=>y=u) E A:=Fr.of_eq z6 O;have z3:=f3.1;have z4:=f4.1;have T1:Fr No g1 A:=(f2.tt (f3.tt (f4.tt f5))).fresh f6 (λy e=>ae);exact fin r (Z.on T1) (((P.on (f4.tt f5)).frame f6 (λy hy e=>ae)).mono m.1) (((C.on f5).frame f6 (λy hy e=>ae)).mono o.1) ((z.frame f6 (λy hy e=>ae)).mono Y.1) (f1.tt T1)
 .refine cO.box λu g1 eb z' f1=>⟨aq (B f1),aq (B f1),aq (B f1),aq (B f1),?_⟩
  have lb:=aE z';refine s0 f1 λx p1 l1 c1 Z f2=>⟨aq (B (f1.tt f2)),aq (B (f1.tt f2)),aq (B (f1.tt f2)),s1 (f1.tt f2) λD p2 l2 c2 P f3=>⟨aq (B (f1.tt (f2.tt f3))),aq (B (f1.tt (f2.tt f3))),s2 (f1.tt (f2.tt f3)) λg4 p3 l3 c3 C f4=>⟨aq (B (f1.tt (f2.tt (f3.tt f4)))),s3 (f1.tt (f2.tt (f3.tt f4))) λE W l4 Q z f5=>cO.set ((f2.tt (f3.tt (f4.tt f5))).get z' id) λA r z6 O=> ?_⟩⟩⟩
  have m:=f1.tt f2;have o:=m.tt f3;have Y:=o.tt f4;have f6:Fr (λy=>y=u) E A:=Fr.of_eq z6 O;have z2:=f2.1;have z3:=f3.1;have z4:=f4.1;exact fin r (((Z.on (f3.tt (f4.tt f5))).frame f6 (λy hy e=>ae)).mono f1.1) (((P.on (f4.tt f5)).frame f6 (λy hy e=>ae)).mono m.1) (((C.on f5).frame f6 (λy hy e=>ae)).mono o.1) ((z.frame f6 (λy hy e=>ae)).mono Y.1) ((f1.tt (f2.tt (f3.tt (f4.tt f5)))).fresh f6 (λy e=>ae))

end eN
end
section
namespace eN
open iY (Ev cV kO)
variable {h h':ak} {R:fG} {s k:Nat} {X:Ft} {I:sK}
def Ia(x:Ev):Prop:=cV x=true/\x≠Ev.zero
instance (x : Ev) : Decidable (Ia x) := by unfold Ia; infer_instance
theorem xW(x:Ev)(g:Ia x->∀h' b,Mk h' b x 0 0->h.size<=b->Fr No h h'->R (.tuple #[pt b,.I 0]) h')(K: ¬Ia x->iq h R (.tuple #[.pointer none,.I 3])):Cl 33 #[kO x] h R:=by
 refine Lf.walk (ax.box λb i E e f1=>aI.of λJ d=>ax.ld e (iY.fx x λc f2=>⟨_,rfl,?_⟩));have f:=f2.get e id;cases a:cV x with
 |false=>
  rw[gh];subst d;exact K (λm=>by rw[m.1]at a;cases a) c (f1.tt f2)
 |true=>
  rw[dz];refine ax.ld f ⟨_,iY.u0 (y:=Ev.zero) rfl rfl,?_⟩;subst d;by_cases H:x=Ev.zero
  .rw[aw H];dsimp only;rw[ah rfl];exact K (λm=>m.2 H) c (f1.tt f2)
  .rw[aD H];dsimp only;rw[dz];refine ax.ld f (cI (g ⟨a,H⟩ _ _ bV (cD f1.1 f2.1) ((f1.tt f2).tt (Fr.push _ _))))
theorem gu(x:Ev)(k1:Ia x->∀h' s X I,Pt h' s X I (DC x)->MA h X h'->R (.tuple #[pt s,.I 0]) h')(k2: ¬Ia x->iq h R (.tuple #[.pointer none,.I 3])):Cl 8 #[kO x] h R:=by
 refine Le.walk (ax.box λb f eb hb f1=>ax.ld hb (xW x (λl d k M g2 f2=>⟨_,_,rfl,?_⟩) (λl d f2=>⟨_,_,rfl,?_⟩)))
 .rw[dz];refine me.gu 4800 1600 (λ_ G p m P g3 a' f3=>⟨_,_,rfl,?_⟩) (λe=>absurd e dt);rw[dz];refine eE.gu λJ t V z f4 u4=>⟨_,rfl,gj.gu λK r W A u=>⟨_,rfl,gx.gu λN c Z C U=>⟨_,rfl,gD.gu λH o X3 D f7 u7=>⟨_,rfl,cI ?_⟩⟩⟩⟩
  have f8:Fr No H (H.push (.cells #[.P t 0,.P r 0,.P c 0,.P o 0,.P p 0,.P k 0,.U 0,.I 0] 41)):=Fr.push _ _;have B:(H.push (.cells #[.P t 0,.P r 0,.P c 0,.P o 0,.P p 0,.P k 0,.U 0,.I 0] 41))[H.size]? =_:=bV;have z8:(H.push (.cells #[.P t 0,.P r 0,.P c 0,.P o 0,.P p 0,.P k 0,.U 0,.I 0] 41)).size=H.size+1:=du _;generalize H.push (.cells #[.P t 0,.P r 0,.P c 0,.P o 0,.P p 0,.P k 0,.U 0,.I 0] 41)=g at f8 B z8⊢;have w:=f7.tt f8;have v:=U.fr.tt w;have q:=u.fr.tt v;have n:=f4.tt q;have F:=f3.tt n;have T:=f1.tt (f2.tt F);have z1:=f1.1;have z2:=f2.1;have z3:=f3.1;have z4:=f4.1;have z5:=u.fr.1;have z6:=U.fr.1;have z7:=f7.1;have S:=P.lt;have lk:=aE M
  let Y:Nat->Ft:=λi=>match i with
   |0=>V|1=>W|2=>Z|3=>X3
   |4=>⟨λy=>y=p\/y=m,λ_=>False⟩
   |5=>⟨λy=>y=k,λ_=>False⟩
   |6=>⟨λy=>y=H.size,λ_=>False⟩
   |_=>⟨λ_=>False,λ_=>False⟩
  let L:Nat->Nat:=λi=> [G.size,J.size,K.size,N.size,d.size,f.size].getD i H.size
  let O:Nat->Nat:=λi=> [J.size,K.size,N.size,H.size,G.size,d.size].getD i g.size
  have bd: ∀i y,In (Y i) y->L i<=y/\y<O i:=λi y hy=>by
   rcases i with _|_|_|_|_|_|_|i
   .exact⟨u4 y hy,z.lt y hy⟩
   .exact⟨u.ge y hy,A.lt y hy⟩
   .exact⟨U.ge y hy,C.lt y hy⟩
   .exact⟨u7 y hy,D.lt y hy⟩
   .rcases hy with hy|hy
    .rcases hy with rfl|rfl
     .exact⟨g3,S.1⟩
     .exact⟨a',S.2⟩
    .exact hy.elim
   .rcases hy with hy|hy
    .have hy:y=k:=hy;exact⟨hy▸g2,hy▸lk⟩
    .exact hy.elim
   .rcases hy with hy|hy
    .have hy:y=H.size:=hy;exact⟨by show H.size<=y;omega,by show y<g.size;omega⟩
    .exact hy.elim
   .rcases hy with hy|hy<;>exact hy.elim
  refine k1 l g H.size ⟨λy=> ∃i,(Y i).M y,λy=> ∃i,(Y i).D y⟩ ⟨t,r,c,o,p,k⟩ ⟨Y,λi=> ?_,λi j y b' hy Q=> ?_,λ_=>eU,λ_=>eU⟩ ⟨T,λy hy=> ?_⟩
  .rcases i with _|_|_|_|_|_|_|i
   .exact z.frame q cb
   .exact A.on v
   .exact C.on w
   .exact gD.Be.on ⟨[],D,gD.okB.nil⟩ f8
   .exact⟨m,P.frame n id id,λy=>⟨eU,id⟩⟩
   .exact⟨F.get M id,λy=>⟨eU,id⟩⟩
   .exact⟨B,λy=>⟨eU,id⟩⟩
   .exact λy hy=>hy.elim id id
  .have f:=bd i y hy;have d:=bd j y Q;have E: ∀i,¬In (Y (i+7)) y:=λi hy=>hy.elim id id
   rcases i with _|_|_|_|_|_|_|i<;>first|exact E i hy|(rcases j with _|_|_|_|_|_|_|j<;>first|exact E j Q|exact b' rfl|(simp only[L,O,List.getD_cons_zero,List.getD_cons_succ,List.getD_nil]at f d;omega))
  .have key: ∀i,In (Y i) y->h.size<=y:=λi a=>by
    have f:=(bd i y a).1;rcases i with _|_|_|_|_|_|_|i<;>(simp only[L,List.getD_cons_zero,List.getD_cons_succ,List.getD_nil]at f;omega)
   rcases hy with⟨i,a⟩|⟨i,a⟩
   .exact key i (.inl a)
   .exact key i (.inr a)
 .rw[gh];exact k2 l d (f1.tt f2)

end eN
end
section
namespace Cb
structure CV where
 k:Int
 n:Nat
 v:BV
 q:bZ
 ll:Nat
 cl:Nat
abbrev iC(x:CV):List Value:= [.int .i64 x.k,.int .u64 (x.n:Int),x.v.val,.slice x.q x.ll x.cl]
theorem gK(x:CV):(iC x).length=4:=rfl
abbrev CV.agg(x:CV):Value:=.agg (iC x).toArray
structure na (h:ak) (D:Nat->Prop) (q:bZ) (l c:Nat) (ys:List CV):Prop where
 len:l=ys.length
 row:Row h q (ys.flatMap iC)
 own:ys≠ []->∀y,aL q y->D y
 cap:l<=c
mutual
def gX (h:ak) (D:Nat->Prop):Tr->CV->Prop
 | .mk k n b l,x=>(x.k=k/\x.n=n/\x.v.b=b/\x.v.ok h D)/\∃ys,na h D x.q x.ll x.cl ys/\dx h D l ys
def dx (h:ak) (D:Nat->Prop):List Tr->List CV->Prop
 | [], []=>True
 |t::ts,y::ys=>gX h D t y/\dx h D ts ys
 |_,_=>False
end
variable {h h' : ak} {D D' : Nat → Prop}
theorem na.frame{Q:Nat->Prop}{q:bZ}{l c:Nat}{ys:List CV}(H:na h D q l c ys)(f:Fr Q h h')(b: ∀y,D y->¬Q y):na h' D q l c ys:=by
 refine⟨H.len,?_,H.own,H.cap⟩;by_cases e:ys= []
 .subst e;exact Row.nil
 .exact H.row.frame f (λa E=>b _ (H.own e _ ⟨a,E,rfl⟩))
theorem na.mono{q:bZ}{l c:Nat}{ys:List CV}(H:na h D q l c ys)(hd: ∀y,D y->D' y):na h D' q l c ys:=⟨H.len,H.row,λe y a=>hd y (H.own e y a),H.cap⟩
theorem na.lt{q:bZ}{l c:Nat}{ys:List CV}(H:na h D q l c ys):na h (λy=>D y/\y<h.size) q l c ys:=⟨H.len,H.row,λe y a=>⟨H.own e y a,iK H.row (by cases ys with|nil=>exact absurd rfl e|cons=>simp) a⟩,H.cap⟩
theorem FI{x:BV}(H:x.ok h D):x.ok h (λy=>D y/\y<h.size):=⟨H.row,λe y a=>⟨H.own e y a,iK H.row (by cases b:x.b with|nil=>exact absurd b e|cons=>simp[bc]) a⟩,H.cap⟩
mutual
theorem gX.frame {Q:Nat->Prop} (f:Fr Q h h') (hq: ∀y,D y->¬Q y): ∀ {t:Tr} {x:CV},gX h D t x->gX h' D t x
 | .mk k n b l,x,H=>by
  unfold gX at H⊢;obtain⟨⟨h1,h2,h3,h4⟩,ys,h5,h6⟩:=H;exact⟨⟨h1,h2,h3,h4.frame f hq⟩,ys,h5.frame f hq,dx.frame f hq h6⟩
theorem dx.frame {Q:Nat->Prop} (f:Fr Q h h') (hq: ∀y,D y->¬Q y): ∀ {ts:List Tr} {ys:List CV},dx h D ts ys->dx h' D ts ys
 | [], [],_=>trivial
 |t::ts,y::ys,H=>by
  unfold dx at H⊢;exact⟨gX.frame f hq H.1,dx.frame f hq H.2⟩
 | [],_::_,H=>by unfold dx at H;exact H.elim
 |_::_, [],H=>by unfold dx at H;exact H.elim
end
mutual
theorem gX.mono (hd: ∀y,D y->D' y): ∀ {t:Tr} {x:CV},gX h D t x->gX h D' t x
 | .mk k n b l,x,H=>by
  unfold gX at H⊢;obtain⟨⟨h1,h2,h3,h4⟩,ys,h5,h6⟩:=H;exact⟨⟨h1,h2,h3,h4.mono hd⟩,ys,h5.mono hd,dx.mono hd h6⟩
theorem dx.mono (hd: ∀y,D y->D' y): ∀ {ts:List Tr} {ys:List CV},dx h D ts ys->dx h D' ts ys
 | [], [],_=>trivial
 |t::ts,y::ys,H=>by
  unfold dx at H⊢;exact⟨gX.mono hd H.1,dx.mono hd H.2⟩
 | [],_::_,H=>by unfold dx at H;exact H.elim
 |_::_, [],H=>by unfold dx at H;exact H.elim
end
mutual
theorem gX.lt: ∀ {t:Tr} {x:CV},gX h D t x->gX h (λy=>D y/\y<h.size) t x
 | .mk k n b l,x,H=>by
  unfold gX at H⊢;obtain⟨⟨h1,h2,h3,h4⟩,ys,h5,h6⟩:=H;exact⟨⟨h1,h2,h3,FI h4⟩,ys,h5.lt,dx.lt h6⟩
theorem dx.lt: ∀ {ts:List Tr} {ys:List CV},dx h D ts ys->dx h (λy=>D y/\y<h.size) ts ys
 | [], [],_=>trivial
 |t::ts,y::ys,H=>by
  unfold dx at H⊢;exact⟨gX.lt H.1,dx.lt H.2⟩
 | [],_::_,H=>by unfold dx at H;exact H.elim
 |_::_, [],H=>by unfold dx at H;exact H.elim
end
theorem gX.on{t:Tr}{x:CV}(H:gX h D t x)(f:Fr No h h'):gX h' D t x:=gX.frame f cb H
theorem dx.on{ts:List Tr}{ys:List CV}(H:dx h D ts ys)(f:Fr No h h'):dx h' D ts ys:=dx.frame f cb H
theorem dx.len: ∀{ts:List Tr}{ys:List CV},dx h D ts ys->ts.length=ys.length
 | [], [],_=>rfl
 |t::ts,y::ys,H=>by
  unfold dx at H;rw[aW,aW,dx.len H.2]
 | [],_::_,H=>by unfold dx at H;exact H.elim
 |_::_, [],H=>by unfold dx at H;exact H.elim
theorem dx.get: ∀{ts:List Tr}{ys:List CV}{i:Nat}{y:CV},dx h D ts ys->ys[i]? =some y->∃t,ts[i]? =some t/\gX h D t y
 | [], [],_,_,_,a=>by simp at a
 |t::ts,y::ys,0,z,H,a=>by
  unfold dx at H;rw[dO]at a;cases a;exact⟨t,rfl,H.1⟩
 |t::ts,y::ys,i+1,z,H,a=>by
  unfold dx at H;rw[dA]at a;obtain⟨u,b,c⟩:=dx.get H.2 a;exact⟨u,by rw[dA];exact b,c⟩
 | [],_::_,_,_,H,_=>by unfold dx at H;exact H.elim
 |_::_, [],_,_,H,_=>by unfold dx at H;exact H.elim
theorem dx.snoc: ∀{ts:List Tr}{ys:List CV}{t:Tr}{y:CV},dx h D ts ys->gX h D t y->dx h D (ts++ [t]) (ys++ [y])
 | [], [],_,_,_,a=>by
  show dx h D [_] [_];unfold dx;exact⟨a,trivial⟩
 |u::ts,z::ys,t,y,H,a=>by
  unfold dx at H;show dx h D (u::(ts++ [t])) (z::(ys++ [y]));unfold dx;exact⟨H.1,dx.snoc H.2 a⟩
 | [],_::_,_,_,H,_=>by unfold dx at H;exact H.elim
 |_::_, [],_,_,H,_=>by unfold dx at H;exact H.elim
theorem dx.take: ∀{ts:List Tr}{ys:List CV}(n:Nat),dx h D ts ys->dx h D (ts.take n) (ys.take n)
 | [], [],n,_=>by simp[dx]
 |t::ts,y::ys,0,_=>by simp[dx]
 |t::ts,y::ys,n+1,H=>by
  unfold dx at H;rw[gg,gg];unfold dx;exact⟨H.1,dx.take n H.2⟩
 | [],_::_,_,H=>by unfold dx at H;exact H.elim
 |_::_, [],_,H=>by unfold dx at H;exact H.elim
theorem dx.drop: ∀{ts:List Tr}{ys:List CV}(n:Nat),dx h D ts ys->dx h D (ts.drop n) (ys.drop n)
 | [], [],n,_=>by simp[dx]
 |t::ts,y::ys,0,H=>H
 |t::ts,y::ys,n+1,H=>by
  unfold dx at H;rw[List.drop_succ_cons,List.drop_succ_cons];exact dx.drop n H.2
 | [],_::_,_,H=>by unfold dx at H;exact H.elim
 |_::_, [],_,H=>by unfold dx at H;exact H.elim
end Cb
end
section
variable {h:ak} {R:fG}
variable {E:fG} {r c0 c1 C B g:Nat} {d H deep V n:Int} {c:Bool} {K:Option Value->ak->Prop} {f:bZ}
theorem Lj.walk{is:Bool}{e:Int}(a:if(!is)then E (.iface 331 (.agg #[.I e])) h else R (.tuple #[]) h):iA Tryz.prog 282 #[.bool is,.I e] h R E:=im (lq (cq lf lf)) G3 Tryz.func282 rfl rfl (Eq.mp cZ a)
theorem w5.walk(P:aT h (.cells #[.I 0,.U 0,.bool false] 360) λb H=>aI (λ(c:bZ) (next:Int) (e:Int) (I:ak)=>Ce 282 #[.bool (e==0),.I e] I (λv L=>v=.tuple #[]/\aQ L (AA r 1) (.I next) λm=>aO c λa=>bF.LD m a λW X Y=>bF.ST m (AA b 0) W X Y λo=>bF.LD o (AA b 0) λQ S U=>R (.agg #[.I Q,.U S,.bool U]) o) E) (λJ=>Hl H r 0 λj T t=>Hi H r 1 λt14=>(Cl 309 #[.slice j T t,.I t14] H λZ M=> ∃p s w y A,Z=.tuple #[.agg #[.I p,.U s,.bool w],.I y,.I A]/\aT M (.cells #[.I 0,.U 0,.bool false] 360) λk N=>bF.ST N (AA k 0) p s w λO=>([]:List Deferred)= []/\J (Sa k 0) y A O)/\(aT H (.cells #[.I 0,.U 0,.bool false] 360) λl i=>Cc i r 1 (.I t14)/\Cc i r 0 (.slice j T t)/\Cl 309 #[.slice j T t,.I t14] i λa' F=> ∃q u x z D,a'=.tuple #[.agg #[.I q,.U u,.bool x],.I z,.I D]/\bF.ST F (AA l 0) q u x λG=>([]:List Deferred)= []/\J (Sa l 0) z D G)/\True)):iA Tryz.prog 281 #[.P r 0] h R E:=im (lq (sq (.join [(3,.one (.ptr)),(4,.one (.int .i64)),(5,.one (.int .i64))] (.gT (ga 8 0 (.alts (.fork 8 (ga 8 9 .done) (.fork 13 (.op 8 (.op 9 (.op 10 (.op 11 (.op 12 (.op 14 (.op 15 (.op 16 .done)))))))) .gy)))))) (lq (lq ll)))) G3 Tryz.func281 rfl rfl (Eq.mp cZ P)
theorem w8.walk (b:aI (λ(t25:Bool) (H:ak)=>if t25 then∃t29,Cc H r 1 (.I t29)/\aQ H (AA r 1) (.I (wrap .i64 (t29+1))) λc=>R (.bool true) c else R (.bool false) H) (λJ=>Hi h r 1 λt6=> ∃e t T,Cc h r 0 (.slice e t T)/\if(decide (t6<((t:Nat):Int)))then Hl h r 0 λj i k=>Hi h r 1 λt21=>Bd t21 i/\aO j λa=> ∃t23,aX h (a.add (toNat t21*1))=some (.int .u8 t23)/\J (t23==255) h else J false h)):Cl 310 #[.P r 0] h R:=aR (lq (sq (sq (.join [(25,.one (.bool))] (pN 23)) (cq (lq ll) lf)) ll)) Tryz.func310 b
theorem vN.walk (x:aT h (.cells #[.I d,.U H,.bool c] 360) λb H=> ∃t7,Cc H b 1 (.U t7)/\∃o T m,Cc H r 0 (.slice o T m)/\∃t16,Cc H r 1 (.I t16)/\Ce 282 #[.bool (decide (t7<=(wrap .u64 (wrap .i64 (((T:Nat):Int) - t16))))),.I 8] H (λv c=>v=.tuple #[]/\Cc c r 1 (.I t16)/\Cc c r 0 (.slice o T m)/\Cc c b 1 (.U t7)/\∃i p t,Cc c r 0 (.slice i p t)/\∃t28,Cc c r 1 (.I t28)/\∃t32,Cc c r 1 (.I t32)/\∃t34,Cc c b 1 (.U t34)/\((0:Int)<=wrap .i64 (t32+(wrap .i64 t34))/\wrap .i64 (t32+(wrap .i64 t34))<=((t:Nat):Int))/\((0:Int)<=t28/\t28<=wrap .i64 (t32+(wrap .i64 t34)))/\Cl 50 #[.slice (cR i t (toNat t28) 1) ((toNat (wrap .i64 (t32+(wrap .i64 t34)))) - (toNat t28)) (t - (toNat t28))] c λy a=> ∃l k j,y=.slice l k j/\Cc a b 1 (.U t34)/\Cc a r 1 (.I t32)/\Cc a r 1 (.I t28)/\Cc a r 0 (.slice i p t)/\aI (λ(e:ak)=> ∃t50,Cc e r 1 (.I t50)/\∃t52,Cc e b 1 (.U t52)/\aQ e (AA r 1) (.I (wrap .i64 (t50+(wrap .i64 t52)))) λq=>R (.slice l k j) q) (λJ=> ∃t40,Cc a b 0 (.I t40)/\if(t40 !=3)then Ce 282 #[.bool true,.I 3] a (λz s=>z=.tuple #[]/\([]:List Deferred)= []/\J s) E else Cl 316 #[.slice l k j] a λA u=> ∃t44,A=.bool t44/\Ce 282 #[.bool t44,.I 3] u (λD w=>D=.tuple #[]/\([]:List Deferred)= []/\J w) E)) E):iA Tryz.prog 311 #[.P r 0,.agg #[.I d,.U H,.bool c]] h R E:=im (lq (sq (pN 15) (sq (pN 19) (sq (.join [] lf) (sq (pN 11) ll))))) G3 Tryz.func311 rfl rfl (Eq.mp cZ x)
theorem uy.walk (Z:aT h (.cells #[.I d,.U H,.bool c] 360) λb H=>aT H (.cells #[.I 0,.U 0,.Z,.Z] 262) λi c=>Hi c b 0 λt8=>aT c (.cells #[.I 0,.U 0,.Z,.Z] 262) λa X=>aa.ST X (AA a 0) t8 0 none 0 0 none 0 0 λk=> ∃t11,Cc k b 2 (.bool t11)/\if(!t11)then bF.LD k (AA b 0) λq' r' s'=>Ce 311 #[.P r 0,.agg #[.I q',.U r',.bool s']] k (λv Y=> ∃x w T,v=.slice x w T/\aQ Y (AA a 2) (.slice x w T) λt=>aa.LD t (AA a 0) λt' u' x' w' v' A' z' y'=>aa.ST t (AA i 0) t' u' x' w' v' A' z' y' λu=>aa.LD u (AA i 0) λa' c' i' g' e' o' m' k'=>R (.agg #[.I a',.U c',.slice i' g' e',.slice o' m' k']) u) E else∃(I:ak->Prop)(M:ak->Nat),I k/\∀(m:ak),I m->Cl 310 #[.P r 0] m λP' o=> ∃t19,P'=.bool t19/\if(!t19)then Ce 281 #[.P r 0] o (λQ' P=> ∃y z A,Q'=.agg #[.I y,.U z,.bool A]/\aT P (.cells #[.I 0,.U 0,.bool false] 360) λj Q=>bF.ST Q (AA j 0) y z A λe=>aI (λ(l:ak)=>Hl l a 2 λG F D=>bF.LD l (AA j 0) λB' C' D'=>Ce 311 #[.P r 0,.agg #[.I B',.U C',.bool D']] l (λR' p=>Vl R' λG' F' E'=>Cc p a 2 (.slice G F D)/\aU Tryz.prog (Builtin.append_ #[22,22] 22 #[.slice G F D,.slice G' F' E']) p λS' S=> ∃O N L,S'=.slice O N L/\aQ S (AA a 2) (.slice O N L) λq=>(([]:List Deferred)= []/\I q/\M q<M m)) E) (λJ=>Hi e j 0 λt24=> ∃t26,Cc e b 0 (.I t26)/\if(t24==t26)then Hb e j 2 λt30=>Ce 282 #[.bool (!t30),.I 3] e (λT' U=>T'=.tuple #[]/\([]:List Deferred)= []/\J U) E else Ce 282 #[.bool false,.I 3] e (λU' W=>U'=.tuple #[]/\([]:List Deferred)= []/\J W) E)) E else aa.LD o (AA a 0) λH' I' L' K' J' O' N' M'=>aa.ST o (AA i 0) H' I' L' K' J' O' N' M' λs=>aa.LD s (AA i 0) λb' d' j' h' f' p' n' l'=>R (.agg #[.I b',.U d',.slice j' h' f',.slice p' n' l']) s):iA Tryz.prog 284 #[.P r 0,.agg #[.I d,.U H,.bool c]] h R E:=im (lq (lq (sq (lq (cq (lq ll) lf)) (sq (bq (.loop [] (sq (lq (cq lf lf)) (bq (lq (sq (.join [] lf) (pN 8))))))) ll)))) G3 Tryz.func284 rfl rfl (Eq.mp cZ Z)
theorem w9.walk (hv:aT h (.cells #[.I d,.U H,.bool c] 360) λb H=>aT H (.cells #[.I 0,.U 0,.Z,.Z] 262) λk c=>aT c (.cells #[.I 0,.U 0,.Z,.Z] 262) λa r'=>aa.ST r' (AA a 0) 4 0 none 0 0 none 0 0 λi=> ∃t10,Cc i b 2 (.bool t10)/\if t10 then∃(I:ak->Prop)(M:ak->Nat),I i/\∀(u:ak),I u->Cl 310 #[.P r 0] u λv l=> ∃t12,v=.bool t12/\if(!t12)then∃m T t,Cc l a 3 (.slice m T t)/\Ce 243 #[.P r 0,.I (wrap .i64 (deep+1))] l (λZ' G=> ∃N O S Q P X W U,Z'=.agg #[.I N,.U O,.slice S Q P,.slice X W U]/\Cc G a 3 (.slice m T t)/\aT G (.cells #[.I N,.U O,.slice S Q P,.slice X W U] 262) λo' J=>Cc J a 3 (.slice m T t)/\aU Tryz.prog (Builtin.append_ #[260,260] 260 #[.slice m T t,.slice (Sa o' 0) 1 1]) J λNq s'=> ∃a' Z Y,Nq=.slice a' Z Y/\aQ s' (AA a 3) (.slice a' Z Y) λx=>(([]:List Deferred)= []/\I x/\M x<M u)) E else aa.LD l (AA a 0) λJ' K' N' M' L' Q' P' O'=>aa.ST l (AA k 0) J' K' N' M' L' Q' P' O' λy=>aa.LD y (AA k 0) λt' v' B' z' x' H' F' D'=>R (.agg #[.I t',.U v',.slice B' z' x',.slice H' F' D']) y else∃t25,Cc i b 1 (.U t25)/\∃c' w b',Cc i r 0 (.slice c' w b')/\∃t34,Cc i r 1 (.I t34)/\Ce 282 #[.bool (decide (t25<=(wrap .u64 (wrap .i64 (((w:Nat):Int) - t34))))),.I 8] i (λKW j=>KW=.tuple #[]/\Cc j r 1 (.I t34)/\Cc j r 0 (.slice c' w b')/\Cc j b 1 (.U t25)/\∃t40,Cc j b 1 (.U t40)/\∃(s:Int->ak->Prop)(L:Int->ak->Nat),s 0 j/\∀(t41:Int)(e:ak),s t41 e->if(decide (t41<t40))then∃q p o,Cc e a 3 (.slice q p o)/\Ce 243 #[.P r 0,.I (wrap .i64 (deep+1))] e (λHD z=> ∃d' e' h' g' f' k' j' i',HD=.agg #[.I d',.U e',.slice h' g' f',.slice k' j' i']/\Cc z a 3 (.slice q p o)/\aT z (.cells #[.I d',.U e',.slice h' g' f',.slice k' j' i'] 262) λp' A=>Cc A a 3 (.slice q p o)/\aU Tryz.prog (Builtin.append_ #[260,260] 260 #[.slice q p o,.slice (Sa p' 0) 1 1]) A λNN q'=> ∃n' m' l',NN=.slice n' m' l'/\aQ q' (AA a 3) (.slice n' m' l') λD=>(([]:List Deferred)= []/\s (wrap .u64 (t41+1)) D/\L (wrap .u64 (t41+1)) D<L t41 e)) E else aa.LD e (AA a 0) λR' S' V' U' T' Y' X' W'=>aa.ST e (AA k 0) R' S' V' U' T' Y' X' W' λF=>aa.LD F (AA k 0) λu' w' C' A' y' I' G' E'=>R (.agg #[.I u',.U w',.slice C' A' y',.slice I' G' E']) F) E):iA Tryz.prog 283 #[.P r 0,.agg #[.I d,.U H,.bool c],.I deep] h R E:=im (lq (lq (sq (lq (cq (sq (bq (.loop [] (sq (lq (cq lf lf)) (bq (pN 10))))) ll) lf)) (sq (pN 15) (sq (lq (bq (.loop [(41,.one (.int .u64))] (lq (sq (cq lf lf) (sq (bq (pN 10)) lf)))))) ll))))) G3 Tryz.func283 rfl rfl (Eq.mp cZ hv)
theorem oT.walk (hv:aT h (.cells #[.I 0,.U 0,.Z,.Z] 262) λb H=>Ce 281 #[.P r 0] H (λv c=> ∃M N O,v=.agg #[.I M,.U N,.bool O]/\aT c (.cells #[.I 0,.U 0,.bool false] 360) λa Y=>bF.ST Y (AA a 0) M N O λe=>aI (λ(Z:ak)=>Ce 282 #[.bool (decide (deep<=6)),.I 9] Z (λE' l=>E'=.tuple #[]/\Hi l r 2 λt33=>Ce 282 #[.bool (decide (t33>0)),.I 2] l (λF' m=>F'=.tuple #[]/\∃t39,Cc m r 2 (.I t39)/\aQ m (AA r 2) (.I (wrap .i64 (t39 - 1))) λi=> ∃t44,Cc i a 0 (.I t44)/\if(t44==0)then Hu i a 1 λt48=>aa.ST i (AA b 0) 0 t48 none 0 0 none 0 0 λo=>aa.LD o (AA b 0) λa' d' m' j' g' v' s' p'=>R (.agg #[.I a',.U d',.slice m' j' g',.slice v' s' p']) o else if(t44==4)then bF.LD i (AA a 0) λy' z' A'=>Ce 283 #[.P r 0,.agg #[.I y',.U z',.bool A'],.I deep] i (λG' P=> ∃t T s q p x w u,G'=.agg #[.I t,.U T,.slice s q p,.slice x w u]/\aa.ST P (AA b 0) t T s q p x w u λj=>aa.LD j (AA b 0) λb' e' n' k' h' w' t' q'=>R (.agg #[.I b',.U e',.slice n' k' h',.slice w' t' q']) j) E else bF.LD i (AA a 0) λB' C' D'=>Ce 284 #[.P r 0,.agg #[.I B',.U C',.bool D']] i (λH' Q=> ∃y z F D A L I G,H'=.agg #[.I y,.U z,.slice F D A,.slice L I G]/\aa.ST Q (AA b 0) y z F D A L I G λk=>aa.LD k (AA b 0) λc' f' o' l' i' x' u' r'=>R (.agg #[.I c',.U f',.slice o' l' i',.slice x' u' r']) k) E) E) E) (λJ=> ∃t9,Cc e a 0 (.I t9)/\if(t9==0)then Ce 282 #[.bool true,.I 3] e (λI' S=>I'=.tuple #[]/\([]:List Deferred)= []/\J S) E else∃t13,Cc e a 0 (.I t13)/\if(t13==2)then Ce 282 #[.bool true,.I 3] e (λJ' U=>J'=.tuple #[]/\([]:List Deferred)= []/\J U) E else∃t18,Cc e a 0 (.I t18)/\if(t18==3)then Ce 282 #[.bool true,.I 3] e (λK' W=>K'=.tuple #[]/\([]:List Deferred)= []/\J W) E else Hi e a 0 λt23=>Ce 282 #[.bool (t23==4),.I 3] e (λL' X=>L'=.tuple #[]/\([]:List Deferred)= []/\J X) E)) E):iA Tryz.prog 243 #[.P r 0,.I deep] h R E:=im (lq (lq (sq (.join [] lf) (lq (lq (lq (sq (lq (bq (lq (cq ll (lq (cq ll lf)))))) ll))))))) G3 Tryz.func243 rfl rfl (Eq.mp cZ hv)
theorem rH.ret.walk(a:aT h (.cells #[.I 0] 331) λb H=>aQ H (AA b 0) (.I 0) λc=>K none c):qB Tryz.prog 242 #[.P c0 0,.P c1 0,.P C 0] none h K:=qC (lq (lq (cq (pN 6) lf))) Tryz.func242 rfl rfl (Eq.mp cZ a)
theorem rH.ni.walk{i:Int}(k:aT h (.cells #[.I 0] 331) λb H=>aQ H (AA b 0) (.I i) λc=>Hi c b 0 λt13=>aa.ST c (AA c0 0) 0 0 none 0 0 none 0 0 λa=>Cc a b 0 (.I t13)/\aQ a (AA c1 0) (.I 0) λe=>Cc e b 0 (.I t13)/\aQ e (AA C 0) (.I t13) λj=>K none j):qB Tryz.prog 242 #[.P c0 0,.P c1 0,.P C 0] (some (.iface 331 (.agg #[.I i]))) h K:=qC (lq (lq (cq (pN 6) lf))) Tryz.func242 rfl rfl (Eq.mp cZ k)
theorem Lk.walk (O:aT h (.cells #[.I 0,.U 0,.Z,.Z] 262) λb H=>aT H (.cells #[.I 0] 3) λe c=>aT c (.cells #[.I 0] 24) λi o=>aI (λ(t15:Bool) (p:ak)=>if t15 then aa.ST p (AA b 0) 0 0 none 0 0 none 0 0 λG=>aQ G (AA e 0) (.I 0) λI=>aQ I (AA i 0) (.I 1) λj=>aa.LD j (AA b 0) λP U e' b' Y n' k' h'=>Hi j e 0 λr1=> ∃r2,Cc j i 0 (.I r2)/\R (.tuple #[.agg #[.I P,.U U,.slice e' b' Y,.slice n' k' h'],.I r1,.I r2]) j else aT p (.cells #[.slice f B g,.I V,.I 256] 335) λk L=>Ce 243 #[.P k 0,.I 1] L (λv M=> ∃t T x w u A z y,v=.agg #[.I t,.U T,.slice x w u,.slice A z y]/\aa.ST M (AA b 0) t T x w u A z y λl=>aa.LD l (AA b 0) λs' t' w' v' u' z' y' x'=>Hi l k 1 λt28=>aa.ST l (AA b 0) s' t' w' v' u' z' y' x' λm=>Cc m k 1 (.I t28)/\aQ m (AA e 0) (.I t28) λD=>aQ D (AA i 0) (.I 0) λF=>qB Tryz.prog 242 #[.P b 0,.P e 0,.P i 0] none F (Mr (λa=>aa.LD a (AA b 0) λQ W f' c' Z o' l' i'=>Hi a e 0 λq'=> ∃q,Cc a i 0 (.I q)/\R (.tuple #[.agg #[.I Q,.U W,.slice f' c' Z,.slice o' l' i'],.I q',.I q]) a) E)) (λv_ N=>qB Tryz.prog 242 #[.P b 0,.P e 0,.P i 0] (some v_) N (Mr (λa=>aa.LD a (AA b 0) λS X g' d' a' p' m' j'=>Hi a e 0 λr'=> ∃s,Cc a i 0 (.I s)/\R (.tuple #[.agg #[.I S,.U X,.slice g' d' a',.slice p' m' j'],.I r',.I s]) a) E))) (λJ=>if(decide (V<0))then([]:List Deferred)= []/\J true o else([]:List Deferred)= []/\J (decide (V>(B:Int))) o)):iA Tryz.prog 193 #[.slice f B g,.I V] h R E:=im (lq (sq (sq (.join [(15,.one (.bool))] lf) (cq ll lf)) (lq (lq (lq (sq (pN 8) lf)))))) G3 Tryz.func193 rfl rfl (Eq.mp cZ O)
theorem Bz.walk(u:Cl 193 #[.slice f B g,.I 0] h λv H=> ∃t T j i e m l k o p,v=.tuple #[.agg #[.I t,.U T,.slice j i e,.slice m l k],.I o,.I p]/\aT H (.cells #[.I 0,.U 0,.Z,.Z] 262) λb c=>aa.ST c (AA b 0) t T j i e m l k λa=>if(p==0)then if(o==(B:Int))then aa.LD a (AA b 0) λw x A z y G F D=>Cl 208 #[.Z,.agg #[.I w,.U x,.slice A z y,.slice G F D]] a λM q=>Vl M λL J I=>Cl 82 #[.slice L J I,.slice f B g] q λN s=> ∃t24,N=.bool t24/\R (.bool t24) s else R (.bool false) a else R (.bool false) a):Cl 314 #[.slice f B g] h R:=aR (lq (lq ll)) Tryz.func314 u
theorem DG.walk{m:Int}(a:if(decide (m≥2))then if(decide (m<=5))then R (.bool true) h else R (.bool (m==7)) h else R (.bool (m==7)) h):Cl 317 #[.I m] h R:=aR (lq ll) Tryz.func317 a
theorem Ib.walk(a:aT h (.cells #[.I d,.U H,.bool c] 360) λb H=> ∃t4,Cc H b 2 (.bool t4)/\if t4 then bF.LD H (AA b 0) λt T e=>Hi H b 0 λt7=> ∃(eq:Bool),yD Tryz.prog 360 (.agg #[.I t,.U T,.bool e]) (.agg #[.I t7,.U 0,.bool true]) eq/\if eq then Hi H b 0 λt12=>Cl 317 #[.I t12] H λv c=> ∃t13,v=.bool t13/\R (.bool t13) c else R (.bool false) H else∃t16,Cc H b 0 (.I t16)/\if(decide (t16≥0))then∃t20,Cc H b 0 (.I t20)/\R (.bool (decide (t20<=7))) H else R (.bool false) H):Cl 299 #[.agg #[.I d,.U H,.bool c]] h R:=aR (lq (sq (lq (cq ll lf)) ll)) Tryz.func299 a
theorem FJ.walk(a:if(decide (n<24))then R (.I 0) h else if(decide (n<256))then R (.I 1) h else if(decide (n<65536))then R (.I 2) h else if(decide (n<4294967296))then R (.I 4) h else R (.I 8) h):Cl 301 #[.U n] h R:=aR (lq (sq (bq (lq (cq ll (lq (cq ll (lq (cq ll (lq (cq ll lf))))))))) ll)) Tryz.func301 a
theorem Ll.walk(a:Cl 301 #[.U n] h λv H=> ∃t4,v=.I t4/\if(t4==1)then R (.int .u8 24) H else if(t4==2)then R (.int .u8 25) H else if(t4==4)then R (.int .u8 26) H else if(t4==8)then R (.int .u8 27) H else R (.int .u8 (wrap .u8 n)) H):Cl 300 #[.U n] h R:=aR (lq (sq (lq (bq (lq (cq ll (lq (cq ll (lq (cq ll (lq (cq ll lf)))))))))) ll)) Tryz.func300 a
theorem Ic.walk (y:aT h (.cells #[.I d,.U H,.bool c] 360) λb H=>bF.LD H (AA b 0) λz A D=>Cl 299 #[.agg #[.I z,.U A,.bool D]] H λv c=> ∃t9,v=.bool t9/\if(!t9)then R (.tuple #[.Z,.I 3]) c else∃t13,Cc c b 2 (.bool t13)/\if t13 then Hi c b 0 λt15=>aT c (.cells #[.int .u8 (wrap .u8 ((qi (wrap .u8 ((wrap .u8 t15)*2 ^ min (toNat 5) (IntKind.bits .u8)))|||qi 31).toNat:Int))] 5) λp u=>R (.tuple #[.slice (Sa p 0) 1 1,.I 0]) u else Hi c b 0 λt21=>Hu c b 1 λt25=>Cl 300 #[.U t25] c λF k=> ∃t26,F=.int .u8 t26/\Cc k b 0 (.I t21)/\aT k (.cells #[.int .u8 (wrap .u8 ((qi (wrap .u8 ((wrap .u8 t21)*2 ^ min (toNat 5) (IntKind.bits .u8)))|||qi t26).toNat:Int))] 5) λq i=>Cc i b 0 (.I t21)/\Hu i b 1 λt30=>Cl 301 #[.U t30] i λG w=>Vi G λt31=> ∃(I:bZ->Nat->Nat->Int->ak->Prop)(m:bZ->Nat->Nat->Int->ak->Nat),I (Sa q 0) 1 1 0 w/\∀(e:bZ)(O o:Nat)(t33:Int)(a:ak),I e O o t33 a->if(decide (t33<t31))then∃t38,Cc a b 1 (.U t38)/\if wrap .i64 (8*(wrap .i64 ((wrap .i64 (t31 - 1)) - t33)))<0 then False else aT a (.cells #[.int .u8 (wrap .u8 (Int.fdiv t38 (2 ^ min (toNat (wrap .i64 (8*(wrap .i64 ((wrap .i64 (t31 - 1)) - t33))))) (IntKind.bits .u64))))] 5) λs x=>aU Tryz.prog (Builtin.append_ #[22,22] 22 #[.slice e O o,.slice (Sa s 0) 1 1]) x λJ l=> ∃j T t,J=.slice j T t/\(I j T t (wrap .i64 (t33+1)) l/\m j T t (wrap .i64 (t33+1)) l<m e O o t33 a)else R (.tuple #[.slice e O o,.I 0]) a):Cl 261 #[.agg #[.I d,.U H,.bool c]] h R:=aR (lq (sq (bq (lq (cq ll (lq (cq ll lf))))) (sq (pN 10) (lq (sq (lq (bq (.loop [(4,.one (.slice)),(33,.one (.int .i64))] (lq (sq (cq lf lf) (sq (bq ll) lf)))))) ll))))) Tryz.func261 y
theorem Lm.walk (G:aT h (.cells #[.I 0,.U 0,.bool false] 360) λb H=>aI (λ(t11:Bool) (c:ak)=>if t11 then bF.ST c (AA b 0) 0 0 false λu=>bF.LD u (AA b 0) λL U c'=>R (.tuple #[.agg #[.I L,.U U,.bool c'],.I 0,.I 1]) u else if(V==(B:Int))then bF.ST c (AA b 0) 0 0 false λw=>bF.LD w (AA b 0) λN W d'=>R (.tuple #[.agg #[.I N,.U W,.bool d'],.I 0,.I 8]) w else Bd V B/\aO f λa=>I6 c (a.add (toNat V*1)) λt30=>aT c (.cells #[.I 0,.U 0,.bool false] 360) λe F=>bF.ST F (AA e 0) (wrap .i64 (Int.fdiv t30 (2 ^ min (toNat 5) (IntKind.bits .u8)))) 0 false λj=>Bd V B/\aO f λA=> ∃t37,aX j (A.add (toNat V*1))=some (.int .u8 t37)/\if(decide ((wrap .u8 ((qi t37 &&& qi 31).toNat:Int))<24))then aQ j (AA e 1) (.U (wrap .u64 (wrap .u8 ((qi t37 &&& qi 31).toNat:Int)))) λx=>bF.LD x (AA e 0) λj' k' l'=>bF.ST x (AA b 0) j' k' l' λy=>bF.LD y (AA b 0) λO X e'=>R (.tuple #[.agg #[.I O,.U X,.bool e'],.I (wrap .i64 (V+1)),.I 0]) y else aI (λ(t49:Bool) (k:ak)=>if t49 then aQ k (AA e 2) (.bool true) λm=>bF.LD m (AA e 0) λm' n' o'=>bF.ST m (AA b 0) m' n' o' λo=>bF.LD o (AA b 0) λP Y f'=>R (.tuple #[.agg #[.I P,.U Y,.bool f'],.I (wrap .i64 (V+1)),.I 0]) o else if(decide ((wrap .u8 ((qi t37 &&& qi 31).toNat:Int))>27))then bF.ST k (AA b 0) 0 0 false λp=>bF.LD p (AA b 0) λQ Z g'=>R (.tuple #[.agg #[.I Q,.U Z,.bool g'],.I 0,.I 3]) p else if wrap .u8 ((wrap .u8 ((qi t37 &&& qi 31).toNat:Int)) - 24)<0 then False else if(decide ((wrap .i64 (1*2 ^ min (toNat (wrap .u8 ((wrap .u8 ((qi t37 &&& qi 31).toNat:Int)) - 24))) (IntKind.bits .i64)))>(wrap .i64 ((B:Int) - (wrap .i64 (V+1))))))then bF.ST k (AA b 0) 0 0 false λq=>bF.LD q (AA b 0) λS a' h'=>R (.tuple #[.agg #[.I S,.U a',.bool h'],.I 0,.I 8]) q else∃(I:Int->ak->Prop)(M:Int->ak->Nat),I 0 k/\∀(t75:Int)(i:ak),I t75 i->if(decide (t75<(wrap .i64 (1*2 ^ min (toNat (wrap .u8 ((wrap .u8 ((qi t37 &&& qi 31).toNat:Int)) - 24))) (IntKind.bits .i64)))))then Hu i e 1 λt79=>Bd (wrap .i64 ((wrap .i64 (V+1))+t75)) B/\aO f λz=> ∃t86,aX i (z.add (toNat (wrap .i64 ((wrap .i64 (V+1))+t75))*1))=some (.int .u8 t86)/\aQ i (AA e 1) (.U (wrap .u64 ((nE (wrap .u64 (t79*2 ^ min (toNat 8) (IntKind.bits .u64)))|||nE (wrap .u64 t86)).toNat:Int))) λs=>(I (wrap .i64 (t75+1)) s/\M (wrap .i64 (t75+1)) s<M t75 i)else bF.LD i (AA e 0) λp' q' r'=>bF.ST i (AA b 0) p' q' r' λt=>bF.LD t (AA b 0) λT b' i'=>R (.tuple #[.agg #[.I T,.U b',.bool i'],.I (wrap .i64 ((wrap .i64 (V+1))+(wrap .i64 (1*2 ^ min (toNat (wrap .u8 ((wrap .u8 ((qi t37 &&& qi 31).toNat:Int)) - 24))) (IntKind.bits .i64))))),.I 0]) t) (λl=>if((wrap .u8 ((qi t37 &&& qi 31).toNat:Int))==31)then Hi j e 0 λt54=>Cl 317 #[.I t54] j λv D=> ∃t55,v=.bool t55/\l t55 D else l false j)) (λJ=>if(decide (V<0))then J true H else J (decide (V>(B:Int))) H)):Cl 309 #[.slice f B g,.I V] h R:=aR (lq (sq (bq (sq (.join [(11,.one (.bool))] lf) (cq ll (lq (cq ll lf))))) (lq (lq (lq (sq (bq (lq (cq (lq ll) (sq (.join [(49,.one (.bool))] lf) (cq (lq ll) (lq (cq ll lf))))))) (lq (sq (lq (cq ll lf)) (sq (lq (bq (.loop [(75,.one (.int .i64))] (lq (sq (cq lf lf) (sq (bq (lq (pN 13))) lf)))))) ll))))))))) Tryz.func309 G

end
section
namespace Cb
variable {h h':ak} {R E:fG} {p:bZ} {r l c:Nat} {bs:cM}
variable {pos left:Nat}
abbrev QM(e:Int):Value:=.iface 331 (.agg #[.int .i64 e])
structure vR (h:ak) (r:Nat) (p:bZ) (c:Nat) (bs:cM) (pos left:Nat):Prop where
 cX:h[r]? =some (.cells #[.slice p bs.length c,.int .i64 (pos:Int),.int .i64 (left:Int)] 335 (0,0))
 row:Row h p (bc bs)
 cap:bs.length<=c
 pos:pos<=bs.length
 ap:bs≠ []->¬aL p r
 len:bs.length<=1000000
 left:left<=1000000
theorem hN{q:Bool}{e:Int}(k:q=true->R (.tuple #[]) h)(K:q=false->E (QM e) h):iA Tryz.prog 282 #[.bool q,.I e] h R E:=by
 refine Lj.walk ?_;cases q with
 |true=>rw[dz];exact k rfl
 |false=>rw[gh];exact K rfl
theorem vR.frame{Q:Nat->Prop}(H:vR h r p c bs pos left)(f:Fr Q h h')(d: ¬Q r)(g: ∀y,aL p y->bs≠ []->¬Q y):vR h' r p c bs pos left:=by
 refine⟨f.get H.cX d,?_,H.cap,H.pos,H.ap,H.len,H.left⟩;by_cases e:bs= []
 .subst e;exact Row.nil
 .exact H.row.frame f (λa b=>g _ ⟨a,b,rfl⟩ e)
theorem vR.on(H:vR h r p c bs pos left)(f:Fr No h h'):vR h' r p c bs pos left:=H.frame f id (λ_ _ _=>id)
theorem vR.set{pos' left':Nat}(H:vR h r p c bs pos left)(j:pos'<=bs.length)(i:left'<=1000000)(d1:h'[r]? =some (.cells #[.slice p bs.length c,.I (pos':Int),.I (left':Int)] 335 (0,0)))(d2:h'.size=h.size)(d3: ∀x,x≠r->h'[x]? =h[x]?):
  vR h' r p c bs pos' left'/\Fr (λy=>y=r) h h':=by
 have f:Fr (λy=>y=r) h h':=Fr.of_eq d2 (λc g=>d3 c g);refine⟨⟨d1,?_,H.cap,j,H.ap,H.len,i⟩,f⟩;by_cases e:bs= []
 .subst e;exact Row.nil
 .exact H.row.frame f (λa d b=>H.ap e ⟨a,d,b⟩)
theorem Jy(H:vR h r p c bs pos left)(K: ∀h',uY bs pos=true->pos<bs.length->vR h' r p c bs (pos+1) left->Fr (λy=>y=r) h h'->R (.bool true) h')(k:uY bs pos=false->R (.bool false) h):Cl 310 #[.P r 0] h R:=by
 have b:=H.cX;have m:=H.len;refine w8.walk (aI.of λJ g=>⟨_,aq b,_,_,_,aq b,?_⟩);by_cases d:pos<bs.length
 .rw[gh];obtain⟨a,rfl⟩:=H.row.some (by cases bs with|nil=>simp at d|cons=>simp[bc]);have j:(bc bs)[pos]? =some (.int .u8 ((bs[pos]).toNat:Int)):=by unfold bc;rw[aF,aj d];rfl
  have C:=H.row.cell j;have f:uY bs pos=decide ((bs[pos]).toNat=255):=by unfold uY;rw[aj d]
  generalize (bs[pos]).toNat=x at C f;refine⟨_,_,_,aq b,_,aq b,ae,az.2 ⟨_,by rw[aC,cp];exact C,?_⟩⟩;subst g;dsimp only;split
  .rename_i q;refine⟨_,aq b,bL b (by show 1<3;omega) λi d1 d2 d3=> ?_⟩;rw[bB ae ae]at d1;obtain⟨q1,q2⟩:=H.set (pos':=pos+1) ae H.left d1 d2 d3;exact K i (by rw[f];have:=eq_of_beq q;exact aw ae) d q1 q2
  .rename_i q;exact k (by rw[f];exact aD λe=>q (by rw[e];rfl))
 .rw[af (λe=>d (bR (aP e)))];subst g;dsimp only;rw[dz];exact k (by unfold uY;rw[dI ae])
theorem Ie{m:Nat}(hk:R (.bool (qP m)) h):Cl 317 #[.I (m:Int)] h R:=by
 refine DG.walk ?_;have a:((m:Int)==7)=decide (m=7):=by
  by_cases e:m=7
  .subst e;rfl
  .rw[aD e,dL];omega
 have hk: ∀q,q=qP m->R (.bool q) h:=λq e=>by rw[e];exact hk
 unfold qP at hk;rw[a];split
 .rename_i q2;split
  .rename_i Q;exact hk _ (by rw[aw];rfl;have:=aP q2;have:=aP Q;omega)
  .rename_i Q;exact hk _ (by rw[aD (p:=2<=m/\m<=5)];rfl;intro e;exact Q (aw ae))
 .rename_i q2;exact hk _ (by rw[aD (p:=2<=m/\m<=5)];rfl;intro e;exact q2 (aw ae))
theorem byte_at(b:Row h p (bc bs)){i:Nat}(H:i<bs.length): ∃a,p=some a/\aX h (a.add (i*1))=some (.int .u8 ((bs[i]).toNat:Int)):=by
 obtain⟨a,rfl⟩:=b.some (by cases bs with|nil=>simp at H|cons=>simp[bc]);exact⟨a,rfl,by rw[cp];exact b.cell (v:=.int .u8 ((bs[i]).toNat:Int)) (by unfold bc;rw[aF,aj H];rfl)⟩
theorem YO: ∀x:Fin 256,IntKind.wrap .i64 (Int.fdiv (x.val:Int) (2 ^ min (Int.toNat 5) (IntKind.bits .u8)))=((x.val/32:Nat):Int):=dt
theorem UI: ∀x:Fin 256,IntKind.wrap .u8 ((BitVec.ofInt (IntKind.bits .u8) (x.val:Int) &&& BitVec.ofInt (IntKind.bits .u8) 31).toNat:Int)=((x.val%32:Nat):Int):=dt
theorem yN{n:Nat}(h:n<18446744073709551616):IntKind.wrap .u64 (n:Int)=(n:Int):=by
 have e:IntKind.wrap .u64 (n:Int)=(n:Int)%18446744073709551616:=by simp[IntKind.wrap,IntKind.bits,IntKind.signed]
 rw[e];omega
theorem St{v y:Nat}(H:v<72057594037927936)(a:y<256):IntKind.wrap .u64 ((BitVec.ofInt (IntKind.bits .u64) (IntKind.wrap .u64 ((v:Int)*2 ^ min (Int.toNat 8) (IntKind.bits .u64)))|||BitVec.ofInt (IntKind.bits .u64) (IntKind.wrap .u64 (y:Int))).toNat:Int)=((v*256+y:Nat):Int):=by
 have e1:(v:Int)*2 ^ min (Int.toNat 8) (IntKind.bits .u64)=((v*256:Nat):Int):=by
  rw[show(2:Int) ^ min (Int.toNat 8) (IntKind.bits .u64)=256 from rfl];omega
 rw[e1,yN (n:=v*256) ae,yN (n:=y) ae];have e2:((BitVec.ofInt (IntKind.bits .u64) ((v*256:Nat):Int)|||BitVec.ofInt (IntKind.bits .u64) (y:Int)).toNat)=v*256+y:=by
  rw[BitVec.toNat_or,BitVec.ofInt_natCast,BitVec.ofInt_natCast,BitVec.toNat_ofNat,BitVec.toNat_ofNat];rw[show(2:Nat) ^ IntKind.bits .u64=18446744073709551616 from rfl,gp ae,gp ae];have:=Nat.two_pow_add_eq_or_of_lt (i:=8) (b:=y) ae v;rw[show(2:Nat) ^ 8=256 from rfl]at this;rw[gi v 256];exact this.symm
 rw[e2];exact yN ae
theorem FK(O:Row h p (bc bs))(hl:l=bs.length)(i':bs.length<=1000000)(hp:pos<=bs.length)(k1: ∀h' (m n next:Nat) (o:Bool),Ea bs pos=.ok (m,n,o,next)->Fr No h h'->R (.tuple #[.agg #[.I (m:Int),.U (n:Int),.bool o],.I (next:Int),.I 0]) h')(k2: ∀h' e,Ea bs pos=.error e->Fr No h h'->e≠0->R (.tuple #[.agg #[.I 0,.U 0,.bool false],.I 0,.I e]) h'):Cl 309 #[.slice p l c,.I (pos:Int)] h R:=by
 subst hl;refine Lm.walk (bF.box λb s eb D f1=>aI.of λf' Z=> ?_);rw[dz,aD ae];subst Z;dsimp only;rw[dz];have zb:=aE D;have err: ∀g e,Fr No s g->Ea bs pos=.error e->e≠0->bF.ST g (AA b 0) 0 0 false λj=>bF.LD j (AA b 0) λJ r1 r2=>R (.tuple #[.agg #[.I J,.U r1,.bool r2],.I 0,.I e]) j:=λg e F hx w=>
  bF.set (F.get D id) λj d1 d2 d3=>bF.ld d1 (k2 j e hx ((f1.tt F).fresh (Fr.of_eq (S:=λy=>y=b) d2 (λc d=>d3 c d)) (λy e=>ae)) w)
 by_cases w:pos=bs.length
 .rw[ah (by rw[w];simp)];exact err s 8 (Fr.refl _ _) (by unfold Ea;rw[dI ae]) dt
 rw[af (λe=>w (bR (eq_of_beq e)))];have L:pos<bs.length:=ae
 obtain⟨a,rfl,B⟩:=byte_at O L;have H:Ea bs pos=Ea bs pos:=rfl;conv at H=>rhs;unfold Ea;rw[aj L]
 dsimp only at H;have X:=(bs[pos]).toNat_lt;generalize (bs[pos]).toNat=x at B H X;refine⟨ae,az.2 ⟨_,f1.cell (by rw[aC];exact B) id,bF.new λb1 u g' k f2=>⟨ae,az.2 ⟨_,(f1.tt f2).cell (by rw[aC];exact B) id,?_⟩⟩⟩⟩;have j':=aE k;have z2:=f2.1;have z1:=f1.1;rw[YO ⟨x,X⟩]at k;rw[UI ⟨x,X⟩];rw[show(⟨x,X⟩:Fin 256).val=x from rfl]at k⊢;have e':x/32<8:=ae
 generalize em:x/32=m at k H e';have Y:x%32<32:=ae
 generalize x%32=f at H Y⊢;rw[bB (n:=(pos:Int)+1) ae ae];have ok: ∀g (n next:Nat) (o:Bool),bF.at g b1 (m:Int) (n:Int) o->bF.at g b 0 0 false->Fr No h g->Ea bs pos=.ok (m,n,o,next)->
   bF.LD g (AA b1 0) λt0 t1 t2=>bF.ST g (AA b 0) t0 t1 t2 λv=>bF.LD v (AA b 0) λJ r1 r2=>R (.tuple #[.agg #[.I J,.U r1,.bool r2],.I (next:Int),.I 0]) v:=λg n next o q1 q2 F s=>
  bF.ld q1 (bF.set q2 λv d1 d2 d3=>bF.ld d1 (k1 v m n next o s (F.fresh (Fr.of_eq (S:=λy=>y=b) d2 (λc d=>d3 c d)) (λy e=>ae))))
 have z:=f1.tt f2;have G:=f2.get D id;by_cases C:f<24
 .rw[gh];rw[ah C]at H;refine bL k (by show 1<3;omega) λj d1 d2 d3=> ?_
  rw[yN ae]at d1;exact ok j f (pos+1) false d1 ((d3 b ae).trans G) (z.fresh (Fr.of_eq (S:=λy=>y=b1) d2 (λc d=>d3 c d)) (λy e=>ae)) H
 rw[af (λe=>C (bR (aP e)))];rw[af C]at H;refine aI.of λP b'=> ?_
 have rest: ∀q,q=decide (f=31/\qP m=true)->P q u:=by
  intro q M;subst b';dsimp only;cases q with
  |true=>
   rw[ah rfl];rw[ah (aP M.symm)]at H;refine bL k (by show 2<3;omega) λj d1 d2 d3=> ?_
   exact ok j 0 (pos+1) true d1 ((d3 b ae).trans G) (z.fresh (Fr.of_eq (S:=λy=>y=b1) d2 (λc d=>d3 c d)) (λy e=>ae)) H
  |false=>
   rw[dz];rw[af (fR M.symm)]at H;by_cases A:f>27
   .rw[gh];rw[ah A]at H;exact err u 3 f2 H dt
   rw[af (λe=>A (bR (aP e)))];rw[af A]at H;have T:IntKind.wrap .u8 ((f:Int) - 24)=(f:Int) - 24:=wrap_u8 ae ae;rw[T,dz];obtain⟨N,U,lN,gN,V⟩: ∃N:Nat,IntKind.wrap .i64 (1*2 ^ min (Int.toNat ((f:Int) - 24)) (IntKind.bits .i64))=(N:Int)/\N<=8/\1<=N/\2 ^ (f - 24)=N:=by
    have:f=24\/f=25\/f=26\/f=27:=ae
    rcases this with rfl|rfl|rfl|rfl
    .exact⟨1,cZ,ae,ae,rfl⟩
    .exact⟨2,cZ,ae,ae,rfl⟩
    .exact⟨4,cZ,ae,ae,rfl⟩
    .exact⟨8,cZ,ae,ae,rfl⟩
   rw[V]at H;rw[U,bB (n:=(bs.length:Int) - ((pos:Int)+1)) ae ae];by_cases cs:(N:Int)>(bs.length:Int) - ((pos:Int)+1)
   .rw[ah (aw cs)];rw[gh]at H;exact err u 8 f2 H dt
   rw[af (λe=>cs (aP e))];rw[dz]at H;refine⟨λt g=> ∃i:Nat,t=(i:Int)/\i<=N/\bF.at g b1 (m:Int) (Rm ((bs.drop (pos+1)).take i):Int) false/\Fr (λy=>y=b1) u g,λt _=>N - t.toNat,⟨0,rfl,br _,by rw[eM];exact k,Fr.refl _ _⟩,?_⟩;rintro _ g ⟨i,rfl,hi,I,F⟩;have K:Fr No h g:=z.fresh F (λy e=>ae);by_cases c':i<N
   .rw[gh,bB (n:=(pos:Int)+1+(i:Int)) ae ae];obtain⟨a',W,Q⟩:=byte_at O (i:=pos+1+i) ae;cases W;refine⟨_,aq I,ae,az.2 ⟨_,by rw[show Int.toNat ((pos:Int)+1+(i:Int))=pos+1+i by omega];exact K.cell Q id,?_⟩⟩;have hv:=MO ((bs.drop (pos+1)).take i);have d':=fW (n:=256) ae (show((bs.drop (pos+1)).take i).length<=7 by rw[bC];omega);rw[show(256:Nat) ^ 7=72057594037927936 from rfl]at d';refine bL I (by show 1<3;omega) λg2 d1 d2 d3=> ?_
    rw[St ae (bs[pos+1+i]).toNat_lt,<-ES]at d1;rw[bB (n:=(i:Int)+1) ae ae];refine⟨⟨i+1,ae,ae,?_,F.tt (Fr.of_eq d2 (λc d=>d3 c d))⟩,by show N - Int.toNat ((i:Int)+1)<N - Int.toNat (i:Int);omega⟩;rw[bm,fD,aj ae];exact d1
   .rw[af (λe=>c' (bR (aP e)))];obtain rfl:i=N:=ae
    rw[bB (n:=(pos:Int)+1+(i:Int)) ae ae,show(pos:Int)+1+(i:Int)=((pos+1+i:Nat):Int) by omega];exact ok g _ (pos+1+i) false I (F.get G ae) K H
 split
 .rename_i q;have q:f=31:=by have:=eq_of_beq q;omega
  refine⟨_,aq k,Ie ⟨_,rfl,rest _ (by rw[q];simp)⟩⟩
 .rename_i q;exact rest false (by rw[eq_comm,fa];intro e;exact q (by rw[e.1];decide))

end Cb
end
section
namespace Cb
variable {h h':ak} {R E:fG} {p:bZ} {r c:Nat} {bs:cM} {pos left:Nat}
theorem AB(H:vR h r p c bs pos left)(M: ∀h' (m n next:Nat) (o:Bool),Ea bs pos=.ok (m,n,o,next)->vR h' r p c bs next left->Fr (λy=>y=r) h h'->R (.agg #[.I (m:Int),.U (n:Int),.bool o]) h')(N: ∀h' e,Ea bs pos=.error e->Fr No h h'->E (QM e) h'):iA Tryz.prog 281 #[.P r 0] h R E:=by
 refine w5.walk (bF.box λb l O w f1=>aI.of λJ v=> ?_);have a:=H.on f1;have U:=aE H.cX;have T:=aE w;have done: ∀g b1 (m n next:Nat) (o:Bool),bF.at g b1 (m:Int) (n:Int) o->l.size<=b1->Fr No l g->Ea bs pos=.ok (m,n,o,next)->J (Sa b1 0) (next:Int) 0 g:=by
  intro g b1 m n next o k Z f q1;have q2:=(zH q1).2.1;subst v;have t:=a.on f;refine hN (λ_=>⟨rfl,bL t.cX (by show 1<3;omega) λC d1 d2 d3=> ?_⟩) (λe=>absurd e dt);obtain⟨z,f5⟩:=t.set (pos':=next) q2 H.left d1 d2 d3;have D:=(d3 b1 (bR f1.1)).trans k;have I:=(d3 b (bR f1.1)).trans (f.get w id);refine az.2 (bF.ld D (bF.set I λu e1 e2 A=>bF.ld e1 ?_));have f6:Fr (λy=>y=b) C u:=Fr.of_eq e2 (λc j=>A c j);refine M u m n next o q1 (z.frame f6 ae (λy L e d=> ?_)) ?_
  .have:=iK H.row (by cases K:bs with|nil=>exact absurd K e|cons=>simp[bc]) L;omega
  .exact(Fr.no (f1.tt f) f5).trans f6 cb (λx i e=>ae)
 have fail: ∀g b1 e,Fr No l g->Ea bs pos=.error e->e≠0->J (Sa b1 0) 0 e g:=by
  intro g b1 e f i d;subst v;exact hN (λq=>absurd (cH q) d) (λ_=>N g e i (f1.tt f))
 refine⟨_,_,_,aq a.cX,_,aq a.cX,?_,?_,trivial⟩
 .refine FK a.row rfl H.len H.pos (λg m n next o q1 f=>⟨_,_,_,_,_,rfl,bF.new λb1 G e1 k F=>⟨rfl,done G b1 m n next o k (bR f.1) (f.tt F) q1⟩⟩) (λg e i f d=>⟨_,_,_,_,_,rfl,bF.new λb1 G e1 k F=>⟨rfl,fail G b1 e (f.tt F) i d⟩⟩)
 .refine bF.box λB P e2 s f10=>⟨cK (a.on f10).cX rfl,cK (a.on f10).cX rfl,?_⟩
  have Q:=aE s;refine FK (a.on f10).row rfl H.len H.pos (λg m n next o q1 f=>⟨_,_,_,_,_,rfl,bF.set (f.get s id) λG d1 d2 d3=>⟨rfl,done G B m n next o d1 ae ((f10.tt f).fresh (Fr.of_eq (S:=λy=>y=B) d2 (λc j=>d3 c j)) (λy e=>ae)) q1⟩⟩) (λg e i f d=>⟨_,_,_,_,_,rfl,bF.set (f.get s id) λG d1 d2 d3=>⟨rfl,fail G B e ((f10.tt f).fresh (Fr.of_eq (S:=λy=>y=B) d2 (λc j=>d3 c j)) (λy e=>ae)) i d⟩⟩)

end Cb
end
section
namespace Cb
variable {V:cM→Bool} {h h0 h':ak} {R E:fG} {p:bZ} {r l c:Nat} {bs:cM} {pos left:Nat}
variable {c0 c1 C:Nat} {K:Option Value->ak->Prop}
def nk(V:cM->Bool)(h0:ak):Prop:= ∀(g:ak)(p:bZ)(c:Nat)(bs:cM)(R:fG),Fr No h0 g->Row g p (bc bs)->bs.length<=1000000->bs.length<=c->(∀G,Fr No g G->R (.bool (V bs)) G)->Cl 316 #[.slice p bs.length c] g R
theorem FL {m n : Nat} {o : Bool} (U : nk V h0) (u : Fr No h0 h) (H : vR h r p c bs pos left) (hn : n < 18446744073709551616)
    (k1 : ∀ h' (v : BV), mM V bs pos m n = .ok v.b → v.ok h' (λy => h.size ≤ y) → v.b.length = n → pos + n ≤ bs.length → vR h' r p c bs (pos + n) left → Fr (λy => y = r) h h' → R v.val h')
    (kE : ∀ h' e, mM V bs pos m n = .error e → Fr No h h' → E (QM e) h') : iA Tryz.prog 311 #[.pointer (some ⟨r, 0, none⟩), .agg #[.int .i64 (m : Int), .int .u64 (n : Int), .bool o]] h R E := by
  refine vN.walk (bF.box λb h1 eb hb f1 => ?_)
  have H1 := H.on f1
  have zr := aE H.cX
  have zb := aE hb
  have hp := H.pos
  have hlen := H.len
  have YP := H.cap
  refine ⟨_, cK hb rfl, _, _, _, cK H1.cX rfl, _, cK H1.cX rfl, ?_⟩
  rw [bB (n := ((bs.length : Nat) : Int) - (pos : Int)) (by omega) (by omega), wrap_u64 (by omega) (by omega)]
  refine hN (λhq => ?_) (λhq => kE h1 8 (by have := of_decide_eq_false hq; unfold mM; rw [if_neg (by omega)]) f1)
  have hq : pos + n ≤ bs.length := by have := of_decide_eq_true hq; omega
  have eD : (bs.take (pos + n)).drop pos = (bs.drop pos).take n := by rw [List.take_drop]
  have e1 : IntKind.wrap .i64 ((pos : Int) + (IntKind.wrap .i64 (n : Int))) = ((pos + n : Nat) : Int) := by rw [bB (n := (n : Int)) (by omega) (by omega), bB (by omega) (by omega)]; omega
  refine ⟨rfl, cK H1.cX rfl, cK H1.cX rfl, cK hb rfl, _, _, _, cK H1.cX rfl, _, cK H1.cX rfl, _, cK H1.cX rfl, _, cK hb rfl, ⟨by rw [e1]; omega, by rw [e1]; omega⟩, ⟨by omega, by rw [e1]; omega⟩, ?_⟩
  rw [e1]
  have row : Row h1 (cR p c (Int.toNat (pos : Int)) 1) (bc ((bs.take (pos + n)).drop pos)) := by
    have := H1.row.sub (cap := c) (l := pos) (u := pos + n) (sz := 1) (by omega) (by omega)
    rw [Nat.mul_one, Nat.mul_one] at this
    rw [Int.toNat_natCast]
    unfold bc at this ⊢
    rw [List.map_drop, List.map_take]
    exact this
  have ln : ((bs.take (pos + n)).drop pos).length = n := by rw [List.length_drop, List.length_take]; omega
  refine hM.gQ row (by rw [ln]; omega) (by rw [ln]; omega) λp' c' h3 o3 f3 g3 => ⟨_, _, _, rfl, cK (f3.get hb id) rfl, cK (H1.on f3).cX rfl, cK (H1.on f3).cX rfl, cK (H1.on f3).cX rfl, aI.of λJ hJ => ⟨_, cK (f3.get hb id) rfl, ?_⟩⟩
  have done : ∀ g, Fr No h3 g → (m ≠ 3 ∨ V ((bs.drop pos).take n) = true) → J g := by
    intro g fg hv
    subst hJ
    have Hg := (H1.on f3).on fg
    have YQ := (f3.tt fg).get hb id
    refine ⟨_, cK Hg.cX rfl, _, cK YQ rfl, bL Hg.cX (by show 1 < 3; omega) λh5 d1 d2 d3 => ?_⟩
    rw [e1] at d1
    obtain ⟨H5, f5⟩ := Hg.set (pos' := pos + n) hq H.left d1 d2 d3
    have ov := (o3.frame fg (λ_ _ => id)).frame f5 (λy hy e => by have := g3 y hy; have := f1.1; omega)
    refine k1 h5 ⟨p', c', (bs.take (pos + n)).drop pos⟩ (by unfold mM; rw [if_pos (by omega), if_pos hv]; exact congrArg _ eD.symm) (BV.jr ov (λy hy => by have := g3 y hy; have := f1.1; omega)) ln hq H5 (Fr.no (f1.tt (f3.tt fg)) f5)
  split
  · rename_i q
    exact hN (λ_ => ⟨rfl, rfl, done h3 (Fr.refl _ _) (.inl λe => by rw [e] at q; exact absurd q (by decide))⟩) (λe => absurd e (by decide))
  · rename_i q
    have m3 : m = 3 := by
      have : ¬ ((m : Int) ≠ 3) := λe => q (by simpa using e)
      omega
    refine U h3 p' c' _ _ (u.tt (f1.tt f3)) o3.iJ (by rw [ln]; omega) o3.le λg fg => ⟨_, rfl, ?_⟩
    rw [eD]
    exact hN (λhv => ⟨rfl, rfl, done g fg (.inr hv)⟩) (λhv => kE g 3 (by unfold mM; rw [if_pos (by omega), if_neg (λe => e.elim (λe => e m3) (λe => by rw [hv] at e; cases e))]) (f1.tt (f3.tt fg)))
def vO(g:ak)(r:Nat):Nat:=match aX g ⟨r,1,none⟩with
 |some (.int _ z)=>z.toNat
 |_=>0
theorem vR.vO(H:vR h r p c bs pos left):vO h r=pos:=by
 unfold Cb.vO;rw[show aX h (AA r 1)=some (.I (pos:Int))from aq H.cX];exact aC _
theorem CE{D:Nat->Prop}{v:BV}{m:Int}(H:v.ok h D):gX h D (.mk m 0 v.b []) ⟨m,0,v,none,0,0⟩:=by
 unfold gX;exact⟨⟨rfl,rfl,rfl,H⟩, [],⟨rfl,Row.nil,λe=>absurd rfl e,bn _⟩,by unfold dx;trivial⟩
theorem Ln{m n:Nat}{o:Bool}(U:nk V h0)(u:Fr No h0 h)(hr:h0.size<=r)(H:vR h r p c bs pos left)(hn:n<18446744073709551616)(k1: ∀h' (x:CV) (b:cM) (next:Nat),De V bs pos m n o=.ok (b,next)->gX h' (λy=>h.size<=y) (.mk m 0 b []) x->vR h' r p c bs next left->Fr (λy=>y=r) h h'->R x.agg h')(D: ∀h' e,De V bs pos m n o=.error e->Fr (λy=>y=r) h h'->E (QM e) h'):iA Tryz.prog 284 #[.P r 0,.agg #[.I (m:Int),.U (n:Int),.bool o]] h R E:=by
 refine uy.walk (bF.box λb h1 eb J f1=>aa.box λb1 h2 V' g' f2=>⟨_,aq (f2.get J id),aa.new λB j W' Y f4=>⟨_,aq ((f2.tt f4).get J id),?_⟩⟩);have zr:=aE H.cX;have zb:=aE J;have Vk:=aE g';have Ua:=aE Y;have z1:=f1.1;have z2:=f2.1;have z4:=f4.1;have F:=f1.tt (f2.tt f4);have H4:=H.on F;have j':=(f2.tt f4).get J id;have i':=f4.get g' id;have Z':=H.len;have z: ∀y,aL p y->bs≠ []->y<h.size:=λy d e=>iK H.row (by cases C':bs with|nil=>exact absurd C' e|cons=>simp[bc]) d
 have fin: ∀g (v:BV) (next:Nat),aa.at g B m 0 v.p v.b.length v.c none 0 0->aa.at g b1 0 0 none 0 0 none 0 0->v.ok g (λy=>j.size<=y)->De V bs pos m n o=.ok (v.b,next)->vR g r p c bs next left->Fr (λy=>y=r\/y=B) j g->
   aa.LD g (AA B 0) λt0 t1 R' Q' P' U' T' S'=>aa.ST g (AA b1 0) t0 t1 R' Q' P' U' T' S' λA=>aa.LD A (AA b1 0) λr0 r1 L' K' J' O' N' M'=>R (.agg #[.I r0,.U r1,.slice L' K' J',.slice O' N' M']) A:=by
  intro g v next q2 q1 qv ql qr qf;refine aa.ld q2 (aa.set q1 λA d1 d2 d3=>aa.ld d1 ?_);have f7:Fr (λy=>y=b1) g A:=Fr.of_eq d2 (λc s=>d3 c s);refine k1 A ⟨m,0,v,none,0,0⟩ v.b next ql (CE ((qv.frame f7 (λy d e=>ae)).mono (λy d=>ae))) (qr.frame f7 ae (λy d e w=>bR (z y d e))) ?_;exact((Fr.no F qf).trans f7 (S'':=λy=>y=r) (λx N e=>ae) (λx N e=>ae))
 cases o with
 |false=>
  rw[gh];refine bF.ld j' (FL U (u.tt F) H4 hn (λX v pv H' lv le H5 f5=>⟨_,_,_,rfl,?_⟩) (λX e pe f5=>D X e (by simp only[De,pe]) ((F.tt f5).mono λ_ _=>False.elim)));have A':=f5.get Y ae;refine bL A' (by show 2<4;omega) λh6 d1 d2 d3=> ?_
  have f6:Fr (λy=>y=B) X h6:=Fr.of_eq d2 (λc s=>d3 c s);refine fin h6 v (pos+n) d1 (f6.get (f5.get i' ae) ae) (H'.frame f6 (λy d e=>ae)) (by simp only[De,pv]) (H5.frame f6 ae (λy d e w=>bR (z y d e))) (f5.trans f6 (λ_ _=> .inl) (λ_ _=> .inr))
 |true=>
  rw[dz];refine⟨λg=> ∃(k next:Nat)(v:BV),(bs.length+1<=k+next/\ET V bs m k next v.b=De V bs pos m n true)/\aa.at g B m 0 v.p v.b.length v.c none 0 0/\fi g v.p v.b.length v.c 1 (bc v.b)/\(∀y,aL v.p y->j.size<=y)/\vR g r p c bs next left/\Fr (λy=>y=r\/y=B) j g/\v.b.length<=next,λg=>bs.length+1 - vO g r,
   ⟨bs.length+1,pos,⟨none,0, []⟩,⟨ae,rfl⟩,Y,.nil rfl rfl rfl rfl,(λy ⟨a,e,_⟩=>by cases e),H4,Fr.refl _ _,br _⟩,?_⟩
  rintro g ⟨k,next,v,⟨Y',f⟩,g2,ov,nv,I,t,hv⟩;have YR:=I.pos;have z':=t.get i' ae;have B':=t.get j' ae;obtain⟨k,rfl⟩: ∃k',k=k'+1:=⟨k - 1,ae⟩;refine Jy I (λh9 w RE H9 f9=>⟨_,rfl,?_⟩) (λw=>⟨_,rfl,?_⟩);all_goals unfold ET at f;simp only[w,bg,au,aM]at f
  .rw[dz];exact fin h9 v (next+1) (f9.get g2 ae) (f9.get z' ae) (BV.jr (ov.frame f9 (λy d e=>bR (nv y d))) nv) f.symm H9 (t.trans f9 cb (λ_ _=> .inl))
  .rw[gh];refine AB I (λe' m' n' q' o' L t' f10=>⟨_,_,_,rfl,bF.new λb3 i X' Z f12=>aI.of λv' hJ=>⟨_,aq Z,_,aq (f12.get (f10.get B' ae) id),?_⟩⟩) (λe' e L f10=>D e' e (by rw[<-f,L]) ?_)
   .obtain⟨hnx,hnl,E',_⟩:=zH L;rw[L]at f;dsimp only at f;have u':=t'.on f12;have d':Fr (λy=>y=r\/y=B) j i:=(t.trans f10 cb (λ_ _=> .inl)).on f12;have zg:=t.1;have z10:=f10.1;have P:aa.at i B m 0 v.p v.b.length v.c none 0 0:=f12.get (f10.get g2 ae) id;have F':=(ov.frame f10 (λy d e=>bR (nv y d))).frame f12 cb;have G:Fr (λy=>y=r) h i:=(Fr.no F d').mono (λx N e=>ae);have w':Fr No h0 i:=u.fresh G (λy e=>ae);have done: ∀Q,Fr No i Q->(m'=m/\o'=false)->v' Q:=by
     intro Q f3 D';rw[ah D']at f;subst hJ;refine⟨_,_,_,aq (f3.get P id),bF.ld (f3.get Z id) (FL U (w'.tt f3) (u'.on f3) E' (λT s' pw I' lw le b' f14=>⟨_,_,_,rfl,aq (f14.get (f3.get P id) ae),?_⟩) (λT e pe f14=>D T e (by rw[<-f,pe]) (G.on (f3.tt f14))))⟩;have G':=(F'.frame f3 cb).frame f14 (λy d e=>bR (nv y d));have lv:v.b.length<=1000000:=ae
     refine dD hM.tU hM.uU G' I'.row (by rw[jq,cp]) (qJ s'.b) ae ae ?_;intro p' c' f' r' _ f15 y';rw[<-kh]at r';have z12:=f12.1;have z3:=f3.1;have z14:=f14.1;refine⟨_,_,_,rfl,bL (f15.get (f14.get (f3.get P id) ae) (λd=>bR (nv _ d))) (by show 2<4;omega) λW d1 d2 d3=>⟨rfl,?_,?_⟩⟩
     .have f16:Fr (λy=>y=B) f' W:=Fr.of_eq d2 (λc s=>d3 c s);have l': ∀y,aL p' y->j.size<=y:=λy d=>by
       rcases y' y d with a|a
       .exact nv y a
       .omega
      have O:=b'.frame f15 (λd=>bR (nv _ d)) (λy d e a'=>gv (nv _ a') (z y d e));rw[pw]at f;refine⟨k,q'+n',⟨p',c',v.b++s'.b⟩,⟨ae,f⟩,by rw[ar];exact d1,by rw[ar];exact r'.frame f16 (λy d e=>bR (l' y d)),l',O.frame f16 ae (λy d e w=>bR (z y d e)),?_,by rw[ar];omega⟩;have a1:Fr (λy=>y=r\/y=B) j T:=(d'.on f3).trans f14 cb (λ_ _=> .inl);have a2:Fr (λy=>y=r\/y=B) j f':=a1.trans f15 cb (λx N d=>bR (nv x d));exact a2.trans f16 cb (λ_ _=> .inr)
     .have x':vO W r=q'+n':=by
       have O:=b'.frame f15 (λd=>bR (nv _ d)) (λy d e a'=>gv (nv _ a') (z y d e));exact(O.frame (Fr.of_eq (S:=λy=>y=B) d2 (λc s=>d3 c s)) ae (λy d e w=>bR (z y d e))).vO
      show bs.length+1 - vO W r<bs.length+1 - vO g r;rw[x',I.vO];omega
    split
    .rename_i q;have em:m'=m:=by have:=eq_of_beq q;omega
     refine⟨_,aq Z,hN (λM=>⟨rfl,rfl,done i (Fr.refl _ _) ⟨em,by cases o' with|true=>cases M|false=>rfl⟩⟩) (λM=>D i 3 (by rw[<-f,af (λe=>by rw[e.2]at M;cases M)]) G)⟩
    .rename_i q;exact hN (λe=>absurd e dt) (λ_=>D i 3 (by rw[<-f,af (λe=>q (by rw[e.1];simp))]) G)
   .exact((Fr.no F t).on f10).mono (λx N e=>ae)
theorem tI:nW Tryz.prog 260 262 4 64 (.agg #[.I 0,.U 0,.Z,.Z]):=⟨cZ,cZ,rfl⟩
theorem uI:Tryz.prog.underlying 260=some (.slice 262):=cZ
theorem oU(x:CV): ∀v∈iC x,fX v=true:=by
 intro v H;simp only[bG,List.not_mem_nil,or_false]at H;rcases H with rfl|rfl|rfl|rfl<;>rfl
theorem gW: ∀(ts:List Tr),9*ts.length<=dF ts
 | []=>br _
 | .mk k n b l::ts=>by
  have:=gW ts;simp only[dF,room,aW];omega
def Ig(V:cM->Bool)(h0:ak)(r:Nat)(p:bZ)(c:Nat)(bs:cM)(L:Nat):Prop:= ∀(h:ak)(pos left:Nat)(R E:fG),Fr No h0 h->vR h r p c bs pos left->
 (∀h' (t:Tr) (x:CV) (next left':Nat),hU V bs L pos left=.ok (t,next,left')->gX h' (λy=>h.size<=y) t x->vR h' r p c bs next left'->Fr (λy=>y=r) h h'->R x.agg h')->
 (∀h' e,hU V bs L pos left=.error e->Fr (λy=>y=r) h h'->E (QM e) h')->iA Tryz.prog 243 #[.pointer (some ⟨r,0,none⟩),.int .i64 (7 - (L:Int))] h R E
structure Su (h4 g:ak) (r b2:Nat) (p:bZ) (c:Nat) (bs:cM) (pos next left:Nat) (ts:List Tr) (ys:List CV) (q:bZ) (cl:Nat):Prop where
 cX:aa.at g b2 4 0 none 0 0 q ys.length cl
 own:fi g q ys.length cl 4 (ys.flatMap iC)
 ge: ∀y,aL q y->h4.size<=y
 tr:dx g (λy=>h4.size<=y/\¬aL q y) ts ys
 room:dF ts<=10*(next - pos)
 le:pos<=next
 rd:vR g r p c bs next left
 fr:Fr (λy=>y=r\/y=b2) h4 g
theorem N4{d g:ak}{b next i:Nat}{ts:List Tr}{ys:List CV}{q:bZ}{cl:Nat}{deep:Int}{Φ:ak->Prop}(IH:Ig V h0 r p c bs i)(u4:Fr No h0 d)(o':h0.size<=r)(r4:r<d.size)(b4:b<d.size)(rb:r≠b)(b0:h0.size<=b)(hd:deep=6 - (i:Int))(n':i<=6)(rows: ∀y,aL p y->bs≠ []->y<d.size/\y≠b)(L:Su d g r b p c bs pos next left ts ys q cl)(hk: ∀v u left' t j' Q s,hU V bs i next left=.ok (t,u,left')->Su d v r b p c bs pos u left' (ts++ [t]) j' Q s->next<u->Φ v)(kE: ∀h' e,hU V bs i next left=.error e->Fr (λy=>y=r\/y=b) d h'->E (QM e) h'):
  ∃(o:bZ)(m T:Nat),aX g (AA b 3)=some (.slice o m T)/\
  Ce 243 #[.P r 0,.I (IntKind.wrap .i64 (deep+1))] g (λg' z=>
  ∃(I J:Int)(P:bZ)(O M:Nat)(W:bZ)(U S:Nat),g'=.agg #[.I I,.U J,.slice P O M,.slice W U S]/\
  aX z (AA b 3)=some (.slice o m T)/\
  aT z (.cells #[.I I,.U J,.slice P O M,.slice W U S] 262) λa' A=>
  aX A (AA b 3)=some (.slice o m T)/\
  aU Tryz.prog (Builtin.append_ #[260,260] 260 #[.slice o m T,.slice (Sa a' 0) 1 1]) A λi' c'=>
  ∃(Z:bZ)(Y X:Nat),i'=.slice Z Y X/\
  aQ c' (AA b 3) (.slice Z Y X) λb'=>Φ b') E:=by
 have zg:=L.fr.1;have m':=L.rd.len;have hp:=L.rd.pos;have l':=L.le;have ll:ys.length<=2000000:=by
  have h1:=gW ts;have h2:=L.room;have h3:=L.tr.len;omega
 refine⟨_,_,_,aq L.cX,?_⟩;rw[bB (n:=deep+1) ae ae];rw[show deep+1=7 - (i:Int) by omega];refine IH g next left _ E (u4.fresh L.fr (λy e=>ae)) L.rd (λj t x f' e' k tx H7 f7=> ?_) (λj e k f7=>kE j e k (L.fr.trans f7 cb (λ_ _=> .inl)));obtain⟨rx,lx,_,_⟩:=EU i _ _ _ _ _ L.rd.pos k;have z7:=f7.1;have B:=f7.get L.cX ae;refine⟨_,_,_,_,_,_,_,_,rfl,aq B,aa.box λb3 h8 k' d' f8=>⟨aq (f8.get B id),?_⟩⟩;have z8:=f8.1;have o8:=(L.own.frame f7 (λy H e=>bR (L.ge y H))).frame f8 cb;have F: ∀y,aL q y->y<g.size:=λy H=>L.own.dw H
 refine dD tI uI o8 (ds:=iC x) (.inr ⟨_,rfl,aa.held d'⟩) rfl (oU x) ae ae λQ s h9 o9 _ f9 G=>⟨_,_,_,rfl,?_⟩
 have z9:=f9.1;have N: ∀y,aL q y->d.size<=y:=L.ge;have b9:=f9.get (f8.get B id) (λH=>bR (N _ H));refine bL b9 (by show 3<4;omega) λw d1 d2 d3=> ?_
 have f10:Fr (λy=>y=b) h9 w:=Fr.of_eq d2 (λc hc=>d3 c hc);have D: ∀y,aL Q y->d.size<=y:=λy H=>by
  rcases G y H with a|a
  .exact N y a
  .omega
 have ef:ys.flatMap iC++iC x=(ys++ [x]).flatMap iC:=by rw[bY];simp
 have H9:=(H7.on f8).frame f9 (λH=>bR (N _ H)) (λy H e f=>gv (N _ f) ((rows y H e).1));refine hk w f' e' t (ys++ [x]) Q s k ⟨?_,?_,D,?_,?_,ae,H9.frame f10 ae (λy H e he=>(rows y H e).2 he),?_⟩ lx
 .rw[ar];exact d1
 .rw[ar,<-ef];exact o9.frame f10 (λy H e=>bR (D y H))
 .have t1:=((L.tr.lt.frame f7 (λy H e=>ae)).frame f8 cb).frame f9 (λy H f=>H.1.2 f);have t2:=tx.lt.mono (D':=λy=>g.size<=y/\y<j.size) (λ_=>id);have t2:=(t2.on f8).mono (D':=λy=>g.size<=y/\y<j.size) (λ_=>id);have t2:=gX.frame f9 (λy H f=>bR (F y f)) t2;have m1:=dx.mono (D':=λy=>d.size<=y/\¬aL Q y) (λy H=>⟨H.1.1,λf=>by
   rcases G y f with a|a
   .exact H.1.2 a
   .have:=H.2;omega⟩) t1
  have m2:=gX.mono (D':=λy=>d.size<=y/\¬aL Q y) (λy H=>⟨ae,λf=>by
   rcases G y f with a|a
   .have:=F y a;omega
   .omega⟩) t2
  exact dx.frame f10 (λy H e=>ae) (m1.snoc m2)
 .rw[iH];have:=L.room;simp only[dF];omega
 .have a1:=(L.fr.trans f7 (S'':=λy=>y=r\/y=b) cb (λ_ _=> .inl)).on f8;have a2:=a1.trans f9 (S'':=λy=>y=r\/y=b) cb (λx hx H=>bR (N x H));exact a2.trans f10 cb (λ_ _=> .inr)
theorem QN {lv m n : Nat} {o : Bool} {deep : Int} (IH : Ig V h0 r p c bs lv) (u : Fr No h0 h) (hr : h0.size ≤ r) (H : vR h r p c bs pos left) (hd : deep = 6 - (lv : Int)) (YS : lv ≤ 6) (hn : n < 18446744073709551616)
    (k1 : ∀ h' (ts : List Tr) (x : CV) (next left' : Nat), nH bs (hU V bs lv) pos left n o = .ok (ts, next, left') → gX h' (λy => h.size ≤ y) (.mk 4 0 [] ts) x → vR h' r p c bs next left' → Fr (λy => y = r) h h' → R x.agg h')
    (kE : ∀ h' e, nH bs (hU V bs lv) pos left n o = .error e → Fr (λy => y = r) h h' → E (QM e) h') : iA Tryz.prog 283 #[.pointer (some ⟨r, 0, none⟩), .agg #[.int .i64 (m : Int), .int .u64 (n : Int), .bool o], .int .i64 deep] h R E := by
  refine w9.walk (bF.box λb h1 eb hb f1 => aa.box λb1 h2 Vm Jv f2 => aa.new λb2 h4 XB XP f4 => ⟨_, cK ((f2.tt f4).get hb id) rfl, ?_⟩)
  have zr := aE H.cX
  have zb := aE hb
  have Vk := aE Jv
  have Ua := aE XP
  have z0 := u.1
  have z1 := f1.1
  have z2 := f2.1
  have z4 := f4.1
  have F4 := f1.tt (f2.tt f4)
  have H4 := H.on F4
  have Jl := (f2.tt f4).get hb id
  have Wk := f4.get Jv id
  have hlen := H.len
  have YT := H.pos
  have rows : ∀ y, aL p y → bs ≠ [] → y < h4.size ∧ y ≠ b2 := λy hy e => by
    have := iK H.row (by cases Wl : bs with | nil => exact absurd Wl e | cons => simp [bc]) hy
    omega
  have XQ : ∀ g e, nH bs (hU V bs lv) pos left n o = .error e → Fr (λy => y = r ∨ y = b2) h4 g → E (QM e) g := λg e hx fg => kE g e hx ((Fr.no F4 fg).mono (λx hx q => by omega))
  have fin : ∀ g next left' ts ys q cl, Su h4 g r b2 p c bs pos next left' ts ys q cl → nH bs (hU V bs lv) pos left n o = .ok (ts, next, left') →
      aa.LD g ⟨b2, 0, none⟩ λt0 t1 YU YV YW YX YY YZ => aa.ST g ⟨b1, 0, none⟩ t0 t1 YU YV YW YX YY YZ λh7 => aa.LD h7 ⟨b1, 0, none⟩ λr0 r1 Y0 Y1 Y2 Y3 Y4 Y5 => R (.agg #[.int .i64 r0, .int .u64 r1, .slice Y0 Y1 Y2, .slice Y3 Y4 Y5]) h7 := by
    intro g next left' ts ys q cl L hx
    refine aa.ld L.cX (aa.set (L.fr.get Wk (by omega)) λh7 d1 d2 d3 => aa.ld d1 ?_)
    have f7 : Fr (λy => y = b1) g h7 := Fr.of_eq d2 (λc hc => d3 c hc)
    have o7 := L.own.frame f7 (λy hy e => by have := L.ge y hy; omega)
    have t7 := dx.frame f7 (λy hy e => by omega) L.tr
    refine k1 h7 ts ⟨4, 0, ⟨none, 0, []⟩, q, ys.length, cl⟩ next left' hx ?_ (L.rd.frame f7 (by omega) (λy hy e he => by
      have := iK H.row (by cases Wl : bs with | nil => exact absurd Wl e | cons => simp [bc]) hy; omega)) ?_
    · unfold gX
      exact ⟨⟨rfl, rfl, rfl, ⟨Row.nil, λe => absurd rfl e, Nat.le_refl _⟩⟩, ys, ⟨rfl, o7.iJ, λ_ y hy => by have := L.ge y hy; omega, o7.le⟩, dx.mono (λy hy => by omega) t7⟩
    · exact ((Fr.no F4 L.fr).trans f7 (S'' := λy => y = r) (λx hx e => by omega) (λx hx e => by omega))
  have L0 : Su h4 h4 r b2 p c bs pos pos left [] [] none 0 := ⟨XP, .nil rfl rfl rfl rfl, (λy ⟨a, e, _⟩ => by cases e), by unfold dx; trivial, by simp [dF], Nat.le_refl _, H4, Fr.refl _ _⟩
  have step := fun {g next left' ts ys q cl} {Φ : ak → Prop} (L : Su h4 g r b2 p c bs pos next left' ts ys q cl) hk (hE : ∀ e, hU V bs lv next left' = .error e → nH bs (hU V bs lv) pos left n o = .error e) => N4 (V := V) (Φ := Φ) (E := E) (deep := deep) IH (u.tt F4) hr (by omega) Ua (by omega) (by omega) hd YS rows L hk (λg e hx fg => XQ g e (hE e hx) fg)
  cases o with
  | true =>
    rw [if_pos rfl]
    refine ⟨λg => ∃ k next left' ts ys q cl, (bs.length + 1 ≤ k + next ∧ xJ bs (hU V bs lv) k next left' ts = nH bs (hU V bs lv) pos left n true) ∧ Su h4 g r b2 p c bs pos next left' ts ys q cl, λg => bs.length + 1 - vO g r, ⟨_, _, _, _, _, _, _, ⟨by omega, rfl⟩, L0⟩, ?_⟩
    rintro g ⟨k, next, left', ts, ys, q, cl, ⟨Xs, Jz⟩, L⟩
    have YR := L.rd.pos
    obtain ⟨k, rfl⟩ : ∃ k', k = k' + 1 := ⟨k - 1, by omega⟩
    refine Jy L.rd (λh6 he RE H6 f6 => ⟨_, rfl, ?_⟩) (λhe => ⟨_, rfl, ?_⟩)
    all_goals unfold xJ at Jz; simp only [he, if_true, Bool.false_eq_true, if_false] at Jz
    · rw [if_neg (by decide)]
      have t6 := dx.frame f6 (λy hy e => by omega) L.tr
      refine fin h6 (next + 1) left' ts ys q cl ⟨f6.get L.cX (by omega), L.own.frame f6 (λy hy e => by have := L.ge y hy; omega), L.ge, t6, by have := L.room; have := L.le; omega, by have := L.le; omega, H6, L.fr.trans f6 (λ_ _ => id) (λ_ _ => .inl)⟩ Jz.symm
    · rw [if_pos (by decide)]
      refine step L (λg' next' UJ t Y6 q' Wm hi L' RE => ⟨rfl, ⟨k, _, _, _, _, _, _, ⟨by omega, by rw [hi] at Jz; exact Jz⟩, L'⟩, ?_⟩) (λe hi => by rw [← Jz, hi])
      show bs.length + 1 - vO g' r < bs.length + 1 - vO g r
      rw [L'.rd.vO, L.rd.vO]
      have := L'.rd.pos
      omega
  | false =>
    rw [if_neg (by decide)]
    refine ⟨_, cK Jl rfl, _, _, _, cK H4.cX rfl, _, cK H4.cX rfl, ?_⟩
    rw [bB (n := ((bs.length : Nat) : Int) - (pos : Int)) (by omega) (by omega), wrap_u64 (by omega) (by omega)]
    refine hN (λhq => ?_) (λhq => XQ h4 8 (by have := of_decide_eq_false hq; unfold nH; dsimp only; rw [if_neg (by omega)]) (Fr.refl _ _))
    have hq : pos + n ≤ bs.length := by have := of_decide_eq_true hq; omega
    refine ⟨rfl, cK H4.cX rfl, cK H4.cX rfl, cK Jl rfl, _, cK Jl rfl, ?_⟩
    have e0 : nH bs (hU V bs lv) pos left n false = uZ (hU V bs lv) n pos left [] := by unfold nH; dsimp only; rw [if_pos (by omega)]
    refine ⟨λt g => ∃ i next left' ts ys q cl, t = ((i : Nat) : Int) ∧ i ≤ n ∧ uZ (hU V bs lv) (n - i) next left' ts = nH bs (hU V bs lv) pos left n false ∧ Su h4 g r b2 p c bs pos next left' ts ys q cl, λt _ => n - t.toNat, ⟨0, _, _, _, _, _, _, rfl, Nat.zero_le _, e0.symm, L0⟩, ?_⟩
    rintro _ g ⟨i, next, left', ts, ys, q, cl, rfl, hi, Jz, L⟩
    by_cases Y7 : i < n
    · rw [if_pos (decide_eq_true (by omega))]
      rw [show n - i = (n - (i + 1)) + 1 by omega] at Jz
      unfold uZ at Jz
      refine step L (λg' next' UJ t Y6 q' Wm Wn L' RE => ⟨rfl, ?_, ?_⟩) (λe Wn => by rw [← Jz, Wn])
      · rw [wrap_u64 (n := (i : Int) + 1) (by omega) (by omega)]
        exact ⟨i + 1, _, _, _, _, _, _, by omega, by omega, by rw [Wn] at Jz; exact Jz, L'⟩
      · rw [wrap_u64 (n := (i : Int) + 1) (by omega) (by omega)]
        show n - Int.toNat ((i : Int) + 1) < n - Int.toNat (i : Int)
        omega
    · rw [if_neg (λe => Y7 (by have := of_decide_eq_true e; omega))]
      rw [show n - i = 0 by omega] at Jz
      exact fin g next left' ts ys q cl L Jz.symm
theorem N7(U:nk V h0)(hr:h0.size<=r): ∀L,L<=6->Ig V h0 r p c bs L:=by
 intro L;induction L with
 |zero=>
  intro _ h pos left R E u H k1 k;refine oT.walk (aa.box λb h1 eb Z f1=>AB (H.on f1) (λw m n next o i A f2=>⟨_,_,_,rfl,bF.new λb1 f f' d f4=>aI.of λJ W=> ?_⟩) (λw e i f2=>k w e (by unfold hU;rw[i]) ((f1.tt f2).mono λ_ _=>False.elim)));have z1:=f1.1;have zr:=aE H.cX;have F:Fr (λy=>y=r) h f:=(Fr.no f1 f2).on f4;have done:(m=0\/m=2\/m=3\/m=4)->J f:=by
   intro hm;subst W;exact hN (λb'=>absurd b' dt) (λ_=>k f 9 (by unfold hU;rw[i];dsimp only;rw[ah hm]) F)
  refine⟨_,aq d,?_⟩;split
  .rename_i q;exact hN (λ_=>⟨rfl,rfl,done (.inl (bR (eq_of_beq q)))⟩) (λe=>absurd e dt)
  rename_i Q;refine⟨_,aq d,?_⟩;split
  .rename_i q;exact hN (λ_=>⟨rfl,rfl,done (.inr (.inl (bR (eq_of_beq q))))⟩) (λe=>absurd e dt)
  rename_i q2;refine⟨_,aq d,?_⟩;split
  .rename_i q;exact hN (λ_=>⟨rfl,rfl,done (.inr (.inr (.inl (bR (eq_of_beq q)))))⟩) (λe=>absurd e dt)
  rename_i q3;refine⟨_,aq d,?_⟩;refine hN (λq=>⟨rfl,rfl,done (.inr (.inr (.inr (bR (eq_of_beq q)))))⟩) (λq=>k f 3 (by unfold hU;rw[i];dsimp only;rw[af];rintro(rfl|rfl|rfl|rfl)<;>first|exact Q rfl|exact q2 rfl|exact q3 rfl|exact absurd q dt) F)
 |succ L M=>
  intro t' h pos left R E u H k1 k;have M:=M ae;have zr:=aE H.cX;refine oT.walk (aa.box λb h1 eb Z f1=>AB (H.on f1) (λw m n next o i A f2=>⟨_,_,_,rfl,bF.new λb1 f f' d f4=>aI.of λJ W=> ?_⟩) (λw e i f2=>k w e (by unfold hU;rw[i]) ((f1.tt f2).mono λ_ _=>False.elim)));obtain⟨s',_,hn,_⟩:=zH i;have a:hU V bs (L+1) pos left=hU V bs (L+1) pos left:=rfl;conv at a=>rhs;unfold hU;rw[i]
  dsimp only at a;have zb:=aE Z;have u':=aE d;have z1:=f1.1;have z2:=f2.1;have z4:=f4.1;have hp:=H.pos;have j':=A.pos;have r':=A.left;have F:Fr (λy=>y=r) h f:=(Fr.no f1 f2).on f4;have U4:Fr No h0 f:=u.fresh F (λy e=>ae);have B:=A.on f4;have g':=f4.get (f2.get Z ae) id;have k': ∀y,aL p y->bs≠ []->y<h.size:=λy j e=>iK H.row (by cases i':bs with|nil=>exact absurd i' e|cons=>simp[bc]) j
  have c': ∀g (t:Tr) (x:CV) N v,aa.at g b 0 0 none 0 0 none 0 0->gX g (λy=>h1.size<=y) t x->hU V bs (L+1) pos left=.ok (t,N,v)->vR g r p c bs N v->Fr (λy=>y=r) h g->
    aa.ST g (AA b 0) x.k (x.n:Int) x.v.p x.v.b.length x.v.c x.q x.ll x.cl λz=>aa.LD z (AA b 0) λr0 r1 n' m' l' q' p' o'=>R (.agg #[.I r0,.U r1,.slice n' m' l',.slice q' p' o']) z:=by
   intro g t x N v gb T rx Hg fg;refine aa.set gb λz d1 d2 d3=>aa.ld d1 ?_
   have f9:Fr (λy=>y=b) g z:=Fr.of_eq d2 (λc hc=>d3 c hc);exact k1 z t x N v rx (gX.mono (λy j=>ae) (gX.frame f9 (λy j e=>ae) T)) (Hg.frame f9 ae (λy j e he=>bR (k' y j e))) (fg.trans f9 cb (λx hx e=>ae))
  have done:(m=0\/m=2\/m=3\/m=4)->J f:=by
   intro hm;rw[ah hm]at a;subst W;refine hN (λ_=>⟨rfl,_,aq B.cX,hN (λG=>⟨rfl,_,aq B.cX,bL B.cX (by show 2<3;omega) λS d1 d2 d3=> ?_⟩) (λG=>k f 2 (by rw[a,ah (bR (fR G))]) F)⟩) (λb'=>absurd (fR b') ae);have G:=aP G;rw[dz]at a;rw[bB (n:=(left:Int) - 1) ae ae,show(left:Int) - 1=((left - 1:Nat):Int) by omega]at d1;obtain⟨I,f8⟩:=B.set (pos':=next) (left':=left - 1) j' ae d1 d2 d3;have D:=f8.get d ae;have a':=f8.get g' ae;have s:Fr (λy=>y=r) h S:=F.tt f8;have U8:Fr No h0 S:=u.fresh s (λy e=>ae);have z8:=f8.1;refine⟨_,aq D,?_⟩;split
   .rename_i q;rw[ah (bR (eq_of_beq q))]at a;refine⟨_,aq D,?_⟩;refine c' S (.mk 0 n [] []) ⟨0,n,⟨none,0, []⟩,none,0,0⟩ next (left - 1) a' ?_ a I s;unfold gX;exact⟨⟨rfl,rfl,rfl,⟨Row.nil,λe=>absurd rfl e,bn _⟩⟩, [],⟨rfl,Row.nil,λe=>absurd rfl e,bn _⟩,by unfold dx;trivial⟩
   .rename_i Q;rw[af (λe=>Q (by rw[e];rfl))]at a;split
    .rename_i q;have m4:m=4:=by have:=eq_of_beq q;omega
     rw[ah m4]at a;refine bF.ld D (QN M U8 hr I ae ae hn (λO ts x N v X T d' f10=>⟨_,_,_,_,_,_,_,_,rfl,?_⟩) (λO e X f10=>k O e (by rw[a,X]) (s.tt f10)));exact c' O (.mk 4 0 [] ts) x N v (f10.get a' ae) (gX.mono (λy j=>ae) T) (by rw[a,X]) d' (s.tt f10)
    .rename_i q;rw[af (λe=>q (by rw[e];rfl))]at a;refine bF.ld D (Ln U U8 hr I hn (λP x sb N Y T e' f12=>⟨_,_,_,_,_,_,_,_,rfl,?_⟩) (λP e Y f12=>k P e (by rw[a,Y]) (s.tt f12)));exact c' P (.mk m 0 sb []) x N (left - 1) (f12.get a' ae) (gX.mono (λy j=>ae) T) (by rw[a,Y]) e' (s.tt f12)
  refine⟨_,aq d,?_⟩;split
  .rename_i q;exact hN (λ_=>⟨rfl,rfl,done (.inl (bR (eq_of_beq q)))⟩) (λe=>absurd e dt)
  rename_i Q;refine⟨_,aq d,?_⟩;split
  .rename_i q;exact hN (λ_=>⟨rfl,rfl,done (.inr (.inl (bR (eq_of_beq q))))⟩) (λe=>absurd e dt)
  rename_i q2;refine⟨_,aq d,?_⟩;split
  .rename_i q;exact hN (λ_=>⟨rfl,rfl,done (.inr (.inr (.inl (bR (eq_of_beq q)))))⟩) (λe=>absurd e dt)
  rename_i q3;refine⟨_,aq d,?_⟩;refine hN (λq=>⟨rfl,rfl,done (.inr (.inr (.inr (bR (eq_of_beq q)))))⟩) (λq=>k f 3 (by rw[a,af];rintro(rfl|rfl|rfl|rfl)<;>first|exact Q rfl|exact q2 rfl|exact q3 rfl|exact absurd q dt) F)
theorem Lo(hk: ∀h',Fr No h h'->K none h'):qB Tryz.prog 242 #[.P c0 0,.P c1 0,.P C 0] none h K:=by
 refine rH.ret.walk (cI (xD dt (hk _ (Fr.push _ _))))
theorem Lp{e g0 G:Int}{u z:bZ}{t s w v:Nat}{N o:Int}(h0:aa.at h c0 g0 G u t s z w v)(i:h[c1]? =some (.cells #[.I N] 3 (0,0)))(j:h[C]? =some (.cells #[.I o] 24 (0,0)))(D:c0≠c1)(F:c0≠C)(I:c1≠C)(hk: ∀h',aa.at h' c0 0 0 none 0 0 none 0 0->h'[c1]? =some (.cells #[.I 0] 3 (0,0))->h'[C]? =some (.cells #[.I e] 24 (0,0))->Fr (λy=>y=c0\/y=c1\/y=C) h h'->K none h'):
  qB Tryz.prog 242 #[.P c0 0,.P c1 0,.P C 0] (some (QM e)) h K:=by
 refine rH.ni.walk (cI (xD dt ?_));have f:Fr No h (h.push (.cells (#[Value.I 0].setIfInBounds 0 (.I e)) 331 (0,0))):=Fr.push _ _;have a:(h.push (.cells (#[Value.I 0].setIfInBounds 0 (.I e)) 331 (0,0)))[h.size]? =some (.cells #[.I e] 331 (0,0)):=bV;have Z:=aE h0;have J:=aE i;have L:=aE j;generalize h.push (.cells (#[Value.I 0].setIfInBounds 0 (.I e)) 331 (0,0))=g at f a⊢;refine⟨_,aq a,aa.set (f.get h0 id) λG d1 d2 d3=> ?_⟩;have f1:Fr (λy=>y=c0) g G:=Fr.of_eq d2 (λc H=>d3 c H);refine⟨aq (f1.get a ae),bL (f1.get (f.get i id) ae) (by show 0<1;omega) λb A k m=> ?_⟩;have f2:Fr (λy=>y=c1) G b:=Fr.of_eq k (λc H=>m c H);refine⟨aq (f2.get (f1.get a ae) ae),bL (f2.get (f1.get (f.get j id) ae) ae) (by show 0<1;omega) λd b1 B n=> ?_⟩;have f3:Fr (λy=>y=C) b d:=Fr.of_eq B (λc H=>n c H);exact hk d (f3.get (f2.get d1 ae) ae) (f3.get A ae) b1 (((Fr.no f f1).trans f2 (S'':=λy=>y=c0\/y=c1) (λ_ _=> .inl) (λ_ _=> .inr)).trans f3 (λx _ q=>q.imp id .inl) (λ_ _ q=> .inr (.inr q)))
theorem AD(U:nk V h)(row:Row h p (bc bs))(hl:l=bs.length)(cap:bs.length<=c)(d':bs.length<=1000000)(k1: ∀h' (t:Tr) (x:CV) (next:Nat),pR V bs=.ok (t,next)->gX h' (λy=>h.size<=y) t x->Fr No h h'->R (.tuple #[x.agg,.I (next:Int),.I 0]) h')(k2: ∀h' e,pR V bs=.error e->Fr No h h'->R (.tuple #[CV.agg ⟨0,0,⟨none,0, []⟩,none,0,0⟩,.I 0,.I e]) h'):
  Cl 193 #[.slice p l c,.I 0] h R:=by
 subst hl;refine iA.XY (Lk.walk (aa.box λb d eb P f1=>cI (cI ?_)));have zb:=aE P;have z1:=f1.1;have f2:Fr No d (d.push (.cells #[.I 0] 3)):=Fr.push _ _;have A:(d.push (.cells #[.I 0] 3))[d.size]? =some (.cells #[.I 0] 3 (0,0)):=bV;generalize d.push (.cells #[.I 0] 3)=f at f2 A⊢;have f3:Fr No f (f.push (.cells #[.I 0] 24)):=Fr.push _ _;have j:(f.push (.cells #[.I 0] 24))[f.size]? =some (.cells #[.I 0] 24 (0,0)):=bV;have z2:=aE A;generalize f.push (.cells #[.I 0] 24)=i at f3 j⊢;have z3:=aE j;obtain⟨b1,D⟩: ∃b1,b1=d.size:=⟨_,rfl⟩;obtain⟨B,I⟩: ∃B,B=f.size:=⟨_,rfl⟩;rw[<-D]at A;rw[<-I]at j;rw[<-D,<-I];refine aI.of λe' hJ=> ?_
 rw[dz,aD ae];refine⟨rfl,?_⟩;subst hJ;dsimp only;rw[dz];refine cI ?_;have f4:Fr No i (i.push (.cells #[.slice p bs.length c,.I 0,.I 256] 335)):=Fr.push _ _;have o:(i.push (.cells #[.slice p bs.length c,.I 0,.I 256] 335))[i.size]? =some (.cells #[.slice p bs.length c,.I 0,.I 256] 335 (0,0)):=bV;generalize i.push (.cells #[.slice p bs.length c,.I 0,.I 256] 335)=N at f4 o⊢;obtain⟨q,J⟩: ∃q,q=i.size:=⟨_,rfl⟩;rw[<-J]at o;rw[<-J];have T:=f2.tt f3;have u:=T.tt f4;have F:=f1.tt u;have f':=f2.1;have g':=f3.1;have S: ∀y,aL p y->bs≠ []->y<h.size:=λy H e=>iK row (by cases c':bs with|nil=>exact absurd c' e|cons=>simp[bc]) H
 have W:vR N q p c bs 0 256:=⟨o,row.frame F cb,cap,br _,λe H=>bR (S _ H e),d',ae⟩;have Q:=u.get P id;have w:=(f3.tt f4).get A id;have z:=f4.get j id;refine N7 U ae 6 (bn _) N 0 256 _ _ F W (λO t x next left' s tx X f9=> ?_) (λO e s f9=> ?_)
 .refine⟨_,_,_,_,_,_,_,_,rfl,aa.set (f9.get Q ae) λn d1 d2 d3=>aa.ld d1 ?_⟩;have g:Fr (λy=>y=b) O n:=Fr.of_eq d2 (λc a=>d3 c a);have v:=X.frame g ae (λy H e he=>bR (S y H e));refine⟨_,aq v.cX,aa.set d1 λL e1 e2 Z=> ?_⟩;have G:Fr (λy=>y=b) n L:=Fr.of_eq e2 (λc a=>Z c a);refine⟨aq (G.get v.cX ae),bL (G.get (g.get (f9.get w ae) ae) ae) (by show 0<1;omega) λM c1 C Y=> ?_⟩;have k:Fr (λy=>y=b1) L M:=Fr.of_eq C (λc a=>Y c a);refine bL (k.get (G.get (g.get (f9.get z ae) ae) ae) ae) (by show 0<1;omega) λa' m1 m2 m3=> ?_
  have m:Fr (λy=>y=B) M a':=Fr.of_eq m2 (λc a=>m3 c a);refine Lo λb' f14=>aa.ld (f14.get (m.get (k.get e1 ae) ae) id) ⟨_,aq (f14.get (m.get c1 ae) id),_,aq (f14.get m1 id),?_⟩
  have z4:=f4.1;have t13:=gX.frame f14 cb (gX.frame m (λy H e=>ae) (gX.frame k (λy H e=>ae) (gX.frame G (λy H e=>ae) (gX.frame g (λy H e=>ae) tx))));refine k1 b' t x next (by unfold pR;rw[s]) (gX.mono (λy H=>ae) t13) ?_;exact((((((F.fresh f9 (λy e=>ae)).fresh g (λy e=>ae)).fresh G (λy e=>ae)).fresh k (λy e=>ae)).fresh m (λy e=>ae)).tt f14)
 .refine Lp (f9.get Q ae) (f9.get w ae) (f9.get z ae) ae ae ae λn q1 q2 q3 g=>aa.ld q1 ⟨_,aq q2,_,aq q3,?_⟩
  exact k2 n e (by unfold pR;rw[s]) ((F.fresh f9 (λy e=>ae)).fresh g (λy e=>ae))

end Cb
end
end Go.Proofs.YtlenamcfacpheaaGreatDoor
