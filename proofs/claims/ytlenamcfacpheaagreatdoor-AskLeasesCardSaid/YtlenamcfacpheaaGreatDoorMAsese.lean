/-
  TU is proved here: parts of Jr proof, one behind Jr other (texts of this work, merged by a program; ZU Jr theorem ZV not use is left out). No condition.
-/
import Derived.Test.YtlenamcfacpheaaGreatDoorMAsesd
set_option maxRecDepth 100000
set_option maxHeartbeats 4000000
namespace Go.Proofs.YtlenamcfacpheaaGreatDoor
open Go.Den
open IntKind (wrap)
open Int (toNat)
section
namespace gJ
open qI (Ev dj uG)
variable {h h':aj} {R:iI} {s k:Nat} {X:Ft} {I:GW}
def Vt (x:Ev):Prop:=dj x=true/\x≠Ev.zero
instance (x : Ev) : Decidable (Vt x) := by unfold Vt; infer_instance
theorem Il (x:Ev) (k1:Vt x->∀h' b,Mk h' b x 0 0->h.size<=b->Fr No h h'->R (.tuple #[pt b,.I 0]) h')
  (k2: ¬Vt x->∀h',Fr No h h'->R (.tuple #[.pointer none,.I 3]) h'):Cl F.wv #[uG x] h R:=by
 refine wv.walk (az.box λb h1 eb hb f1=>aK.of λJ hJ=>az.ld hb (qI.ic x λh2 f2=>⟨_,rfl,?_⟩));have fI:=f2.get hb id;cases hr:dj x with
 |false=>
  rw[jy];subst hJ;exact k2 (λm=>by rw[m.1] at hr;cases hr) h2 (f1.tt f2)
 |true=>
  rw[dL];refine az.ld fI ⟨_,qI.ID (y:=Ev.zero) rfl rfl,?_⟩;subst hJ;by_cases hz:x=Ev.zero
  ·rw[ay hz];dsimp only;rw[ag rfl];exact k2 (λm=>m.2 hz) h2 (f1.tt f2)
  ·rw[decide_eq_false hz];dsimp only;rw[dL];refine az.ld fI (cX (k1 ⟨hr,hz⟩ _ _ cz (dv f1.1 f2.1) ((f1.tt f2).tt (Fr.push _ _))))
theorem pD (x:Ev) (k1:Vt x->∀h' s X I,Pt h' s X I (G5 x)->UpF h X h'->R (.tuple #[pt s,.I 0]) h')
  (k2: ¬Vt x->∀h',Fr No h h'->R (.tuple #[.pointer none,.I 3]) h'):Cl F.wu #[uG x] h R:=by
 refine wu.walk (az.box λb h1 eb hb f1=>az.ld hb (Il x (λhm h2 k M2 g2 f2=>⟨_,_,rfl,?_⟩) (λhm h2 f2=>⟨_,_,rfl,?_⟩)))
 ·rw[dL];refine vM.pD 4800 1600 (λ_ h3 p m P3 g3 g3' f3=>⟨_,_,rfl,?_⟩) (λe=>absurd e (by decide));rw[dL];refine gU.pD λh4 t X0 H4 f4 u4=>⟨_,rfl,j4.pD λh5 r X1 H5 u5=>⟨_,rfl,hU.pD λh6 c X2 H6 u6=>⟨_,rfl,lH.pD λh7 o X3 H7 f7 u7=>⟨_,rfl,cX ?_⟩⟩⟩⟩
  have f8:Fr No h7 (h7.push (.cells #[.P t 0,.P r 0,.P c 0,.P o 0,.P p 0,.P k 0,.U 0,.I 0] T.sI)):=Fr.push _ _;have B8:(h7.push (.cells #[.P t 0,.P r 0,.P c 0,.P o 0,.P p 0,.P k 0,.U 0,.I 0] T.sI))[h7.size]? =_:=cz;have z8:(h7.push (.cells #[.P t 0,.P r 0,.P c 0,.P o 0,.P p 0,.P k 0,.U 0,.I 0] T.sI)).size=h7.size+1:=fO _;generalize h7.push (.cells #[.P t 0,.P r 0,.P c 0,.P o 0,.P p 0,.P k 0,.U 0,.I 0] T.sI)=h8 at f8 B8 z8⊢;have F7:=f7.tt f8;have F6:=u6.fr.tt F7;have F5:=u5.fr.tt F6;have F4:=f4.tt F5;have F3:=f3.tt F4;have F8:=f1.tt (f2.tt F3);have z1:=f1.1;have z2:=f2.1;have z3:=f3.1;have z4:=f4.1;have z5:=u5.fr.1;have z6:=u6.fr.1;have z7:=f7.1;have lp:=P3.lt;have lk:=aI M2
  let Y:Nat->Ft:=λi=>match i with
   |0=>X0|1=>X1|2=>X2|3=>X3
   |4=>⟨λy=>y=p\/y=m,λ_=>False⟩
   |5=>⟨λy=>y=k,λ_=>False⟩
   |6=>⟨λy=>y=h7.size,λ_=>False⟩
   |_=>⟨λ_=>False,λ_=>False⟩
  let lo:Nat->Nat:=λi=> [h3.size,h4.size,h5.size,h6.size,h2.size,h1.size].getD i h7.size
  let hi:Nat->Nat:=λi=> [h4.size,h5.size,h6.size,h7.size,h3.size,h2.size].getD i h8.size
  have bd: ∀i y,In (Y i) y->lo i<=y/\y<hi i:=λi y hy=>by
   rcases i with _|_|_|_|_|_|_|i
   ·exact⟨u4 y hy,H4.lt y hy⟩
   ·exact⟨u5.ge y hy,H5.lt y hy⟩
   ·exact⟨u6.ge y hy,H6.lt y hy⟩
   ·exact⟨u7 y hy,H7.lt y hy⟩
   ·rcases hy with hy|hy
    ·rcases hy with rfl|rfl
     ·exact⟨g3,lp.1⟩
     ·exact⟨g3',lp.2⟩
    ·exact hy.elim
   ·rcases hy with hy|hy
    ·have hy:y=k:=hy;exact⟨hy▸g2,hy▸lk⟩
    ·exact hy.elim
   ·rcases hy with hy|hy
    ·have hy:y=h7.size:=hy;exact⟨by show h7.size<=y;omega,by show y<h8.size;omega⟩
    ·exact hy.elim
   ·rcases hy with hy|hy<;>exact hy.elim
  refine k1 hm h8 h7.size ⟨λy=> ∃i,(Y i).M y,λy=> ∃i,(Y i).D y⟩ ⟨t,r,c,o,p,k⟩ ⟨Y,λi=> ?_,λi j y hij hy hz=> ?_,λ_=>fY,λ_=>fY⟩ ⟨F8,λy hy=> ?_⟩
  ·rcases i with _|_|_|_|_|_|_|i
   ·exact H4.frame F5 (λ_ _=>id)
   ·exact H5.on F6
   ·exact H6.on F7
   ·exact lH.Nt.on ⟨[],H7,lH.okB.nil⟩ f8
   ·exact⟨m,P3.frame F4 id id,λy=>⟨fY,id⟩⟩
   ·exact⟨F3.get M2 id,λy=>⟨fY,id⟩⟩
   ·exact⟨B8,λy=>⟨fY,id⟩⟩
   ·exact λy hy=>hy.elim id id
  ·have h1:=bd i y hy;have h2:=bd j y hz;have e7: ∀i,¬In (Y (i+7)) y:=λi hy=>hy.elim id id
   rcases i with _|_|_|_|_|_|_|i<;>first|exact e7 i hy|(rcases j with _|_|_|_|_|_|_|j<;>first|exact e7 j hz|exact hij rfl|(simp only[lo,hi,List.getD_cons_zero,List.getD_cons_succ,List.getD_nil] at h1 h2;omega))
  ·have key: ∀i,In (Y i) y->h.size<=y:=λi a=>by
    have h1:=(bd i y a).1;rcases i with _|_|_|_|_|_|_|i<;>(simp only[lo,List.getD_cons_zero,List.getD_cons_succ,List.getD_nil] at h1;omega)
   rcases hy with⟨i,a⟩|⟨i,a⟩
   ·exact key i (.inl a)
   ·exact key i (.inr a)
 ·rw[jy];exact k2 hm h2 (f1.tt f2)
end gJ
end
section
namespace Cb
structure CV where
 k:Int
 n:Nat
 v:BV
 q:bU
 ll:Nat
 cl:Nat
abbrev mJ (x:CV):List Value:= [.int .i64 x.k,.int .u64 (x.n:Int),x.v.val,.slice x.q x.ll x.cl]
theorem jR (x:CV):(mJ x).length=4:=rfl
abbrev CV.agg (x:CV):Value:=.agg (mJ x).toArray
structure xD (h:aj) (D:Nat->Prop) (q:bU) (l c:Nat) (ys:List CV):Prop where
 len:l=ys.length
 row:Row h q (ys.flatMap mJ)
 own:ys≠ []->∀y,aQ q y->D y
 cap:l<=c
mutual
def kT (h:aj) (D:Nat->Prop):Tr->CV->Prop
 | .mk k n b l,x=>(x.k=k/\x.n=n/\x.v.b=b/\x.v.ok h D)/\∃ys,xD h D x.q x.ll x.cl ys/\dG h D l ys
def dG (h:aj) (D:Nat->Prop):List Tr->List CV->Prop
 | [], []=>True
 |t::ts,y::ys=>kT h D t y/\dG h D ts ys
 |_,_=>False
end
variable {h h' : aj} {D D' : Nat → Prop}
theorem xD.frame {Q:Nat->Prop} {q:bU} {l c:Nat} {ys:List CV} (H:xD h D q l c ys) (f:Fr Q h h') (hq: ∀y,D y->¬Q y):xD h' D q l c ys:=by
 refine⟨H.len,?_,H.own,H.cap⟩;by_cases e:ys= []
 ·subst e;exact Row.nil
 ·exact H.row.frame f (λa ea=>hq _ (H.own e _ ⟨a,ea,rfl⟩))
theorem xD.mono {q:bU} {l c:Nat} {ys:List CV} (H:xD h D q l c ys) (hd: ∀y,D y->D' y):xD h D' q l c ys:=⟨H.len,H.row,λe y hy=>hd y (H.own e y hy),H.cap⟩
theorem xD.lt {q:bU} {l c:Nat} {ys:List CV} (H:xD h D q l c ys):xD h (λy=>D y/\y<h.size) q l c ys:=⟨H.len,H.row,λe y hy=>⟨H.own e y hy,qN H.row (by cases ys with|nil=>exact absurd rfl e|cons=>simp) hy⟩,H.cap⟩
theorem Sy {x:BV} (H:x.ok h D):x.ok h (λy=>D y/\y<h.size):=⟨H.row,λe y hy=>⟨H.own e y hy,qN H.row (by cases hb:x.b with|nil=>exact absurd hb e|cons=>simp[bc]) hy⟩,H.cap⟩
mutual
theorem kT.frame {Q:Nat->Prop} (f:Fr Q h h') (hq: ∀y,D y->¬Q y): ∀ {t:Tr} {x:CV},kT h D t x->kT h' D t x
 | .mk k n b l,x,H=>by
  unfold kT at H⊢;obtain⟨⟨h1,h2,h3,h4⟩,ys,h5,h6⟩:=H;exact⟨⟨h1,h2,h3,h4.frame f hq⟩,ys,h5.frame f hq,dG.frame f hq h6⟩
theorem dG.frame {Q:Nat->Prop} (f:Fr Q h h') (hq: ∀y,D y->¬Q y): ∀ {ts:List Tr} {ys:List CV},dG h D ts ys->dG h' D ts ys
 | [], [],_=>trivial
 |t::ts,y::ys,H=>by
  unfold dG at H⊢;exact⟨kT.frame f hq H.1,dG.frame f hq H.2⟩
 | [],_::_,H=>by unfold dG at H;exact H.elim
 |_::_, [],H=>by unfold dG at H;exact H.elim
end
mutual
theorem kT.mono (hd: ∀y,D y->D' y): ∀ {t:Tr} {x:CV},kT h D t x->kT h D' t x
 | .mk k n b l,x,H=>by
  unfold kT at H⊢;obtain⟨⟨h1,h2,h3,h4⟩,ys,h5,h6⟩:=H;exact⟨⟨h1,h2,h3,h4.mono hd⟩,ys,h5.mono hd,dG.mono hd h6⟩
theorem dG.mono (hd: ∀y,D y->D' y): ∀ {ts:List Tr} {ys:List CV},dG h D ts ys->dG h D' ts ys
 | [], [],_=>trivial
 |t::ts,y::ys,H=>by
  unfold dG at H⊢;exact⟨kT.mono hd H.1,dG.mono hd H.2⟩
 | [],_::_,H=>by unfold dG at H;exact H.elim
 |_::_, [],H=>by unfold dG at H;exact H.elim
end
mutual
theorem kT.lt: ∀ {t:Tr} {x:CV},kT h D t x->kT h (λy=>D y/\y<h.size) t x
 | .mk k n b l,x,H=>by
  unfold kT at H⊢;obtain⟨⟨h1,h2,h3,h4⟩,ys,h5,h6⟩:=H;exact⟨⟨h1,h2,h3,Sy h4⟩,ys,h5.lt,dG.lt h6⟩
theorem dG.lt: ∀ {ts:List Tr} {ys:List CV},dG h D ts ys->dG h (λy=>D y/\y<h.size) ts ys
 | [], [],_=>trivial
 |t::ts,y::ys,H=>by
  unfold dG at H⊢;exact⟨kT.lt H.1,dG.lt H.2⟩
 | [],_::_,H=>by unfold dG at H;exact H.elim
 |_::_, [],H=>by unfold dG at H;exact H.elim
end
theorem kT.on {t:Tr} {x:CV} (H:kT h D t x) (f:Fr No h h'):kT h' D t x:=kT.frame f (λ_ _=>id) H
theorem dG.on {ts:List Tr} {ys:List CV} (H:dG h D ts ys) (f:Fr No h h'):dG h' D ts ys:=dG.frame f (λ_ _=>id) H
theorem dG.len: ∀ {ts:List Tr} {ys:List CV},dG h D ts ys->ts.length=ys.length
 | [], [],_=>rfl
 |t::ts,y::ys,H=>by
  unfold dG at H;rw[bj,bj,dG.len H.2]
 | [],_::_,H=>by unfold dG at H;exact H.elim
 |_::_, [],H=>by unfold dG at H;exact H.elim
theorem dG.get: ∀ {ts:List Tr} {ys:List CV} {i:Nat} {y:CV},dG h D ts ys->ys[i]? =some y->∃t,ts[i]? =some t/\kT h D t y
 | [], [],_,_,_,hi=>by simp at hi
 |t::ts,y::ys,0,z,H,hi=>by
  unfold dG at H;rw[eO] at hi;cases hi;exact⟨t,rfl,H.1⟩
 |t::ts,y::ys,i+1,z,H,hi=>by
  unfold dG at H;rw[eM] at hi;obtain⟨u,h1,h2⟩:=dG.get H.2 hi;exact⟨u,by rw[eM];exact h1,h2⟩
 | [],_::_,_,_,H,_=>by unfold dG at H;exact H.elim
 |_::_, [],_,_,H,_=>by unfold dG at H;exact H.elim
theorem dG.snoc: ∀ {ts:List Tr} {ys:List CV} {t:Tr} {y:CV},dG h D ts ys->kT h D t y->dG h D (ts++ [t]) (ys++ [y])
 | [], [],_,_,_,H2=>by
  show dG h D [_] [_];unfold dG;exact⟨H2,trivial⟩
 |u::ts,z::ys,t,y,H,H2=>by
  unfold dG at H;show dG h D (u::(ts++ [t])) (z::(ys++ [y]));unfold dG;exact⟨H.1,dG.snoc H.2 H2⟩
 | [],_::_,_,_,H,_=>by unfold dG at H;exact H.elim
 |_::_, [],_,_,H,_=>by unfold dG at H;exact H.elim
theorem dG.take: ∀ {ts:List Tr} {ys:List CV} (n:Nat),dG h D ts ys->dG h D (ts.take n) (ys.take n)
 | [], [],n,_=>by simp[dG]
 |t::ts,y::ys,0,_=>by simp[dG]
 |t::ts,y::ys,n+1,H=>by
  unfold dG at H;rw[jb,jb];unfold dG;exact⟨H.1,dG.take n H.2⟩
 | [],_::_,_,H=>by unfold dG at H;exact H.elim
 |_::_, [],_,H=>by unfold dG at H;exact H.elim
theorem dG.drop: ∀ {ts:List Tr} {ys:List CV} (n:Nat),dG h D ts ys->dG h D (ts.drop n) (ys.drop n)
 | [], [],n,_=>by simp[dG]
 |t::ts,y::ys,0,H=>H
 |t::ts,y::ys,n+1,H=>by
  unfold dG at H;rw[List.drop_succ_cons,List.drop_succ_cons];exact dG.drop n H.2
 | [],_::_,_,H=>by unfold dG at H;exact H.elim
 |_::_, [],_,H=>by unfold dG at H;exact H.elim
end Cb
end
section
variable {h:aj} {R:iI}
theorem jd.walk {is:Bool} {e:Int} {E:iI} (hv:if(!is) then E (.iface T.oO (.agg #[.I e])) h else R (.tuple #[]) h):mH Tryz.prog F.jd #[.bool is,.I e] h R E:=me (lq (cq lf lf)) Um Tryz.func282 rfl rfl (Eq.mp (by kernel_rfl) hv)
theorem jY.walk {r:Nat} {E:iI} (hv:aV h (.cells #[.I 0,.U 0,.bool false] T.bg) λb aR=>aK (λ(aZ:bU) (next:Int) (e:Int) (bJ:aj)=>Ce F.jd #[.bool (e==0),.I e] bJ (λv cB=>v=.tuple #[]/\aH cB (AA r 1) (.I next) λcJ=>aP aZ λa=>bg.LD cJ a λBv zP adr=>bg.ST cJ (AA b 0) Bv zP adr λcQ=>bg.LD cQ (AA b 0) λoP ia oS=>R (.agg #[.I oP,.U ia,.bool oS]) cQ) E) (λJ=>Hl aR r 0 λyu rP CR=>Hi aR r 1 λt14=>(Cl F.wy #[.slice yu rP CR,.I t14] aR λeJ cW=> ∃XD XE XF ue Sz,eJ=.tuple #[.agg #[.I XD,.U XE,.bool XF],.I ue,.I Sz]/\aV cW (.cells #[.I 0,.U 0,.bool false] T.bg) λcD dA=>bg.ST dA (AA cD 0) XD XE XF λfc=>([]:List Deferred)= []/\J (some (AA cD 0)) ue Sz fc)/\(aV aR (.cells #[.I 0,.U 0,.bool false] T.bg) λeY cP=>ak cP (AA r 1)=some (.I t14)/\ak cP (AA r 0)=some (.slice yu rP CR)/\Cl F.wy #[.slice yu rP CR,.I t14] cP λgR cV=> ∃NM NN NO XG XH,gR=.tuple #[.agg #[.I NM,.U NN,.bool NO],.I XG,.I XH]/\bg.ST cV (AA eY 0) NM NN NO λdD=>([]:List Deferred)= []/\J (some (AA eY 0)) XG XH dD)/\True)):mH Tryz.prog F.jY #[.P r 0] h R E:=me (lq (sq (.join [(3,.one (.ptr)),(4,.one (.int .i64)),(5,.one (.int .i64))] (.mB (jh 8 0 (.alts (.fork 8 (jh 8 9 .done) (.fork 13 (.op 8 (.op 9 (.op 10 (.op 11 (.op 12 (.op 14 (.op 15 (.op 16 .done)))))))) .mD)))))) (lq (lq ll)))) Um Tryz.func281 rfl rfl (Eq.mp (by kernel_rfl) hv)
theorem lZ.walk {r:Nat} (hv:aK (λ(t25:Bool) (aR:aj)=>if t25 then∃t29,ak aR (AA r 1)=some (.I t29)/\aH aR (AA r 1) (.I (wrap .i64 (t29+1))) λaZ=>R (.bool true) aZ else R (.bool false) aR) (λJ=>Hi h r 1 λt6=> ∃yu rP CR,ak h (AA r 0)=some (.slice yu rP CR)/\if(decide (t6<(rP:Int))) then Hl h r 0 λXz XA aiu=>Hi h r 1 λt21=>Bd t21 XA/\aP Xz λa=> ∃t23,ak h (a.add (toNat t21*1))=some (.int .u8 t23)/\J (t23==255) h else J false h)):Cl F.lZ #[.P r 0] h R:=aS (lq (sq (sq (.join [(25,.one (.bool))] (pN 23)) (cq (lq ll) lf)) ll)) Tryz.func310 hv
theorem jG.walk {r : Nat} {mO : Int} {aR : Int} {aZ : Bool} {E : Value → aj → Prop} (hv :
 aV h (.cells #[.int .i64 mO, .int .u64 aR, .bool aZ] T.bg) λb aR =>
 ∃ t7, ak aR ⟨b, 1, none⟩ = some (.int .u64 t7) ∧
 ∃ Fw Bs MZ, ak aR ⟨r, 0, none⟩ = some (.slice Fw Bs MZ) ∧
 ∃ t16, ak aR ⟨r, 1, none⟩ = some (.int .i64 t16) ∧
 Ce F.jd #[.bool (decide (t7 ≤ (IntKind.wrap .u64 (IntKind.wrap .i64 (((Bs : Nat) : Int) - t16))))), .int .i64 8] aR (λv aZ =>
 v = .tuple #[] ∧
 ak aZ ⟨r, 1, none⟩ = some (.int .i64 t16) ∧
 ak aZ ⟨r, 0, none⟩ = some (.slice Fw Bs MZ) ∧
 ak aZ ⟨b, 1, none⟩ = some (.int .u64 t7) ∧
 ∃ iP iy iz, ak aZ ⟨r, 0, none⟩ = some (.slice iP iy iz) ∧
 ∃ t28, ak aZ ⟨r, 1, none⟩ = some (.int .i64 t28) ∧
 ∃ t32, ak aZ ⟨r, 1, none⟩ = some (.int .i64 t32) ∧
 ∃ t34, ak aZ ⟨b, 1, none⟩ = some (.int .u64 t34) ∧
 ((0 : Int) ≤ IntKind.wrap .i64 (t32 + (IntKind.wrap .i64 t34)) ∧ IntKind.wrap .i64 (t32 + (IntKind.wrap .i64 t34)) ≤ ((iz : Nat) : Int)) ∧ ((0 : Int) ≤ t28 ∧ t28 ≤ IntKind.wrap .i64 (t32 + (IntKind.wrap .i64 t34))) ∧
 Cl F.cu #[.slice (cZ iP iz (Int.toNat t28) 1) ((Int.toNat (IntKind.wrap .i64 (t32 + (IntKind.wrap .i64 t34)))) - (Int.toNat t28)) (iz - (Int.toNat t28))] aZ λeJ bJ =>
 ∃ rJ rK vg, eJ = .slice rJ rK vg ∧
 ak bJ ⟨b, 1, none⟩ = some (.int .u64 t34) ∧
 ak bJ ⟨r, 1, none⟩ = some (.int .i64 t32) ∧
 ak bJ ⟨r, 1, none⟩ = some (.int .i64 t28) ∧
 ak bJ ⟨r, 0, none⟩ = some (.slice iP iy iz) ∧
 aK (fun (cB : aj) =>
 ∃ t50, ak cB ⟨r, 1, none⟩ = some (.int .i64 t50) ∧
 ∃ t52, ak cB ⟨b, 1, none⟩ = some (.int .u64 t52) ∧
 aH cB ⟨r, 1, none⟩ (.int .i64 (IntKind.wrap .i64 (t50 + (IntKind.wrap .i64 t52)))) λcJ =>
 R (.slice rJ rK vg) cJ)
 (λJ =>
 ∃ t40, ak bJ ⟨b, 0, none⟩ = some (.int .i64 t40) ∧
 if (t40 != 3) = true then
 Ce F.jd #[.bool true, .int .i64 3] bJ (λgR cQ =>
 gR = .tuple #[] ∧
 ([] : List Deferred) = [] ∧ J cQ)
 E
 else
 Cl F.jm #[.slice rJ rK vg] bJ λkU cW =>
 ∃ t44, kU = .bool t44 ∧
 Ce F.jd #[.bool t44, .int .i64 3] cW (λot dA =>
 ot = .tuple #[] ∧
 ([] : List Deferred) = [] ∧ J dA)
 E))
 E) : mH Tryz.prog F.jG #[.pointer (some ⟨r, 0, none⟩), .agg #[.int .i64 mO, .int .u64 aR, .bool aZ]] h R E :=
 me (.seq .leaf (.seq (.mB (.op 0 (.op 1 (.op 2 (.op 3 (.op 4 (.op 5 (.op 6 (.op 7 (.op 8 (.op 9 (.op 10 (.op 11 (.op 12 (.op 13 (.op 14 .done)))))))))))))))) (.seq (.mB (.op 0 (.op 1 (.op 2 (.op 3 (.op 4 (.op 5 (.op 6 (.op 7 (.op 8 (.op 9 (.op 10 (.op 11 (.op 12 (.op 13 (.op 14 (.op 15 (.op 16 (.op 17 (.op 18 .done)))))))))))))))))))) (.seq (.join [] .leaf) (.seq (.mB (.op 0 (.op 1 (.op 2 (.op 3 (.op 4 (.op 5 (.op 6 (.op 7 (.op 8 (.op 9 (.op 10 .done)))))))))))) (.seq .leaf .leaf)))))) Um Tryz.func311 rfl rfl (Eq.mp (by kernel_rfl) hv)
theorem jZ.walk {r:Nat} {mO:Int} {aR:Int} {aZ:Bool} {E:iI} (hv:aV h (.cells #[.I mO,.U aR,.bool aZ] T.bg) λb aR=>aV aR (.cells #[.I 0,.U 0,.Z,.Z] T.aa) λcD aZ=>Hi aZ b 0 λt8=>aV aZ (.cells #[.I 0,.U 0,.Z,.Z] T.aa) λeY bJ=>aa.ST bJ (AA eY 0) t8 0 none 0 0 none 0 0 λcB=> ∃t11,ak cB (AA b 2)=some (.bool t11)/\if(!t11) then bg.LD cB (AA b 0) λqL rQ ac7=>Ce F.jG #[.P r 0,.agg #[.I qL,.U rQ,.bool ac7]] cB (λv cJ=> ∃tG sJ ud,v=.slice tG sJ ud/\aH cJ (AA eY 2) (.slice tG sJ ud) λcQ=>aa.LD cQ (AA eY 0) λyx xq agn ago agp agq agr ags=>aa.ST cQ (AA cD 0) yx xq agn ago agp agq agr ags λcW=>aa.LD cW (AA cD 0) λoP ia nB nC nE qx qA qB=>R (.agg #[.I oP,.U ia,.slice nB nC nE,.slice qx qA qB]) cW) E else∃(I:aj->Prop) (mu:aj->Nat),I cB/\∀(dA:aj),I dA->Cl F.lZ #[.P r 0] dA λeJ fc=> ∃t19,eJ=.bool t19/\if(!t19) then Ce F.jY #[.P r 0] fc (λgR cP=> ∃zL vk W6,gR=.agg #[.I zL,.U vk,.bool W6]/\aV cP (.cells #[.I 0,.U 0,.bool false] T.bg) λjQ cV=>bg.ST cV (AA jQ 0) zL vk W6 λdD=>aK (λ(dF:aj)=>Hl dF eY 2 λzy yc zA=>bg.LD dF (AA jQ 0) λaod aoe aof=>Ce F.jG #[.P r 0,.agg #[.I aod,.U aoe,.bool aof]] dF (λkU fC=>Vl kU λrJ rK vg=>ak fC (AA eY 2)=some (.slice zy yc zA)/\aX Tryz.prog (Builtin.append_ #[T.dt,T.dt] T.dt #[.slice zy yc zA,.slice rJ rK vg]) fC λot gD=> ∃oq kH oF,ot=.slice oq kH oF/\aH gD (AA eY 2) (.slice oq kH oF) λgX=>(([]:List Deferred)= []/\I gX/\mu gX<mu dA)) E) (λJ=>Hi dD jQ 0 λt24=> ∃t26,ak dD (AA b 0)=some (.I t26)/\if(t24==t26) then Hb dD jQ 2 λt30=>Ce F.jd #[.bool (!t30),.I 3] dD (λxu gQ=>xu=.tuple #[]/\([]:List Deferred)= []/\J gQ) E else Ce F.jd #[.bool false,.I 3] dD (λAT fh=>AT=.tuple #[]/\([]:List Deferred)= []/\J fh) E)) E else aa.LD fc (AA eY 0) λxg xh PQ PR PS agt agu agv=>aa.ST fc (AA cD 0) xg xh PQ PR PS agt agu agv λjn=>aa.LD jn (AA cD 0) λnF nG xE xF xG xH xI xJ=>R (.agg #[.I nF,.U nG,.slice xE xF xG,.slice xH xI xJ]) jn):mH Tryz.prog F.jZ #[.P r 0,.agg #[.I mO,.U aR,.bool aZ]] h R E:=me (lq (lq (sq (lq (cq (lq ll) lf)) (sq (bq (.loop [] (sq (lq (cq lf lf)) (bq (lq (sq (.join [] lf) (pN 8))))))) ll)))) Um Tryz.func284 rfl rfl (Eq.mp (by kernel_rfl) hv)
theorem lY.walk {r : Nat} {mO : Int} {aR : Int} {aZ : Bool} {deep : Int} {E : Value → aj → Prop} (hv :
 aV h (.cells #[.int .i64 mO, .int .u64 aR, .bool aZ] T.bg) λb aR =>
 aV aR (.cells #[.int .i64 0, .int .u64 0, .slice none 0 0, .slice none 0 0] T.aa) λcD aZ =>
 aV aZ (.cells #[.int .i64 0, .int .u64 0, .slice none 0 0, .slice none 0 0] T.aa) λeY bJ =>
 aa.ST bJ ⟨eY, 0, none⟩ 4 0 none 0 0 none 0 0 λcB =>
 ∃ t10, ak cB ⟨b, 2, none⟩ = some (.bool t10) ∧
 if t10 = true then
 ∃ (I : aj → Prop) (mu : aj → Nat), I cB ∧ ∀ (cJ : aj), I cJ →
 Cl F.lZ #[.pointer (some ⟨r, 0, none⟩)] cJ λv cQ =>
 ∃ t12, v = .bool t12 ∧
 if (!t12) = true then
 ∃ tG sJ ud, ak cQ ⟨eY, 3, none⟩ = some (.slice tG sJ ud) ∧
 Ce F.ig #[.pointer (some ⟨r, 0, none⟩), .int .i64 (IntKind.wrap .i64 (deep + 1))] cQ (λeJ cW =>
 ∃ zF vI yj ym yo FR FU FV, eJ = .agg #[.int .i64 zF, .int .u64 vI, .slice yj ym yo, .slice FR FU FV] ∧
 ak cW ⟨eY, 3, none⟩ = some (.slice tG sJ ud) ∧
 aV cW (.cells #[.int .i64 zF, .int .u64 vI, .slice yj ym yo, .slice FR FU FV] T.aa) λjQ dA =>
 ak dA ⟨eY, 3, none⟩ = some (.slice tG sJ ud) ∧
 aX Tryz.prog (Builtin.append_ #[T.cE, T.cE] T.cE #[.slice tG sJ ud, .slice (some ⟨jQ, 0, none⟩) 1 1]) dA λgR fc =>
 ∃ vd ua vF, gR = .slice vd ua vF ∧
 aH fc ⟨eY, 3, none⟩ (.slice vd ua vF) λcP =>
 (([] : List Deferred) = [] ∧ I cP ∧ mu cP < mu cJ))
 E
 else
 aa.LD cQ ⟨eY, 0, none⟩ λDX DY Jg Jh Ji Jj Jk Jl =>
 aa.ST cQ ⟨cD, 0, none⟩ DX DY Jg Jh Ji Jj Jk Jl λcV =>
 aa.LD cV ⟨cD, 0, none⟩ λoP ia nB nC nE qx qA qB =>
 R (.agg #[.int .i64 oP, .int .u64 ia, .slice nB nC nE, .slice qx qA qB]) cV
 else
 ∃ t25, ak cB ⟨b, 1, none⟩ = some (.int .u64 t25) ∧
 ∃ Bl yd Cz, ak cB ⟨r, 0, none⟩ = some (.slice Bl yd Cz) ∧
 ∃ t34, ak cB ⟨r, 1, none⟩ = some (.int .i64 t34) ∧
 Ce F.jd #[.bool (decide (t25 ≤ (IntKind.wrap .u64 (IntKind.wrap .i64 (((yd : Nat) : Int) - t34))))), .int .i64 8] cB (λkU dD =>
 kU = .tuple #[] ∧
 ak dD ⟨r, 1, none⟩ = some (.int .i64 t34) ∧
 ak dD ⟨r, 0, none⟩ = some (.slice Bl yd Cz) ∧
 ak dD ⟨b, 1, none⟩ = some (.int .u64 t25) ∧
 ∃ t40, ak dD ⟨b, 1, none⟩ = some (.int .u64 t40) ∧
 ∃ (Ko : Int → aj → Prop) (CC : Int → aj → Nat), Ko 0 dD ∧ ∀ (t41 : Int) (dF : aj), Ko t41 dF →
 if (decide (t41 < t40)) = true then
 ∃ NP NQ NR, ak dF ⟨eY, 3, none⟩ = some (.slice NP NQ NR) ∧
 Ce F.ig #[.pointer (some ⟨r, 0, none⟩), .int .i64 (IntKind.wrap .i64 (deep + 1))] dF (λot fC =>
 ∃ aix aiy XI XJ XK XL XM XN, ot = .agg #[.int .i64 aix, .int .u64 aiy, .slice XI XJ XK, .slice XL XM XN] ∧
 ak fC ⟨eY, 3, none⟩ = some (.slice NP NQ NR) ∧
 aV fC (.cells #[.int .i64 aix, .int .u64 aiy, .slice XI XJ XK, .slice XL XM XN] T.aa) λpH gD =>
 ak gD ⟨eY, 3, none⟩ = some (.slice NP NQ NR) ∧
 aX Tryz.prog (Builtin.append_ #[T.cE, T.cE] T.cE #[.slice NP NQ NR, .slice (some ⟨pH, 0, none⟩) 1 1]) gD λxu gX =>
 ∃ C9 By Da, xu = .slice C9 By Da ∧
 aH gX ⟨eY, 3, none⟩ (.slice C9 By Da) λgQ =>
 (([] : List Deferred) = [] ∧ Ko (IntKind.wrap .u64 (t41 + 1)) gQ ∧ CC (IntKind.wrap .u64 (t41 + 1)) gQ < CC t41 dF))
 E
 else
 aa.LD dF ⟨eY, 0, none⟩ λSB Lb agw agx agy agz agA agB =>
 aa.ST dF ⟨cD, 0, none⟩ SB Lb agw agx agy agz agA agB λfh =>
 aa.LD fh ⟨cD, 0, none⟩ λnF nG xE xF xG xH xI xJ =>
 R (.agg #[.int .i64 nF, .int .u64 nG, .slice xE xF xG, .slice xH xI xJ]) fh)
 E) : mH Tryz.prog F.lY #[.pointer (some ⟨r, 0, none⟩), .agg #[.int .i64 mO, .int .u64 aR, .bool aZ], .int .i64 deep] h R E :=
 me (.seq .leaf (.seq .leaf (.seq (.seq .leaf (.cond (.seq (.block (.loop [] (.seq (.seq .leaf (.cond .leaf .leaf)) (.block (.mB (.op 0 (.op 1 (.op 2 (.op 3 (.op 4 (.op 5 (.op 6 (.op 7 (.op 8 (.op 9 .done))))))))))))))) (.seq .leaf .leaf)) .leaf)) (.seq (.mB (.op 0 (.op 1 (.op 2 (.op 3 (.op 4 (.op 5 (.op 6 (.op 7 (.op 8 (.op 9 (.op 10 (.op 11 (.op 12 (.op 13 (.op 14 .done)))))))))))))))) (.seq (.seq .leaf (.block (.loop [(41, .one (.int .u64))] (.seq .leaf (.seq (.cond .leaf .leaf) (.seq (.block (.mB (.op 0 (.op 1 (.op 2 (.op 3 (.op 4 (.op 5 (.op 6 (.op 7 (.op 8 (.op 9 .done)))))))))))) .leaf)))))) (.seq .leaf .leaf)))))) Um Tryz.func283 rfl rfl (Eq.mp (by kernel_rfl) hv)
theorem ig.walk {r:Nat} {deep:Int} {E:iI} (hv:aV h (.cells #[.I 0,.U 0,.Z,.Z] T.aa) λb aR=>Ce F.jY #[.P r 0] aR (λv aZ=> ∃RR Kx af1,v=.agg #[.I RR,.U Kx,.bool af1]/\aV aZ (.cells #[.I 0,.U 0,.bool false] T.bg) λcD bJ=>bg.ST bJ (AA cD 0) RR Kx af1 λcB=>aK (λ(cJ:aj)=>Ce F.jd #[.bool (decide (deep<=6)),.I 9] cJ (λeJ cQ=>eJ=.tuple #[]/\Hi cQ r 2 λt33=>Ce F.jd #[.bool (decide (t33>0)),.I 2] cQ (λgR cW=>gR=.tuple #[]/\∃t39,ak cW (AA r 2)=some (.I t39)/\aH cW (AA r 2) (.I (wrap .i64 (t39 - 1))) λdA=> ∃t44,ak dA (AA cD 0)=some (.I t44)/\if(t44==0) then Hu dA cD 1 λt48=>aa.ST dA (AA b 0) 0 t48 none 0 0 none 0 0 λfc=>aa.LD fc (AA b 0) λoP ia nB nC nE qx qA qB=>R (.agg #[.I oP,.U ia,.slice nB nC nE,.slice qx qA qB]) fc else if(t44==4) then bg.LD dA (AA cD 0) λSB Lb aog=>Ce F.lY #[.P r 0,.agg #[.I SB,.U Lb,.bool aog],.I deep] dA (λkU cP=> ∃uc tF XO XP XQ XR XS XT,kU=.agg #[.I uc,.U tF,.slice XO XP XQ,.slice XR XS XT]/\aa.ST cP (AA b 0) uc tF XO XP XQ XR XS XT λcV=>aa.LD cV (AA b 0) λnF nG xE xF xG xH xI xJ=>R (.agg #[.I nF,.U nG,.slice xE xF xG,.slice xH xI xJ]) cV) E else bg.LD dA (AA cD 0) λaoh aoi aoj=>Ce F.jZ #[.P r 0,.agg #[.I aoh,.U aoi,.bool aoj]] dA (λot dD=> ∃NS NT XU XV XW XX XY XZ,ot=.agg #[.I NS,.U NT,.slice XU XV XW,.slice XX XY XZ]/\aa.ST dD (AA b 0) NS NT XU XV XW XX XY XZ λdF=>aa.LD dF (AA b 0) λAP AQ Ld Le Lf Lh Lj Lk=>R (.agg #[.I AP,.U AQ,.slice Ld Le Lf,.slice Lh Lj Lk]) dF) E) E) E) (λJ=> ∃t9,ak cB (AA cD 0)=some (.I t9)/\if(t9==0) then Ce F.jd #[.bool true,.I 3] cB (λxu fC=>xu=.tuple #[]/\([]:List Deferred)= []/\J fC) E else∃t13,ak cB (AA cD 0)=some (.I t13)/\if(t13==2) then Ce F.jd #[.bool true,.I 3] cB (λAT gD=>AT=.tuple #[]/\([]:List Deferred)= []/\J gD) E else∃t18,ak cB (AA cD 0)=some (.I t18)/\if(t18==3) then Ce F.jd #[.bool true,.I 3] cB (λDM gX=>DM=.tuple #[]/\([]:List Deferred)= []/\J gX) E else Hi cB cD 0 λt23=>Ce F.jd #[.bool (t23==4),.I 3] cB (λEJ gQ=>EJ=.tuple #[]/\([]:List Deferred)= []/\J gQ) E)) E):mH Tryz.prog F.ig #[.P r 0,.I deep] h R E:=me (lq (lq (sq (.join [] lf) (lq (lq (lq (sq (lq (bq (lq (cq ll (lq (cq ll lf)))))) ll))))))) Um Tryz.func243 rfl rfl (Eq.mp (by kernel_rfl) hv)
theorem lM.ret.walk {c0:Nat} {c1:Nat} {c2:Nat} {K:Option Value->aj->Prop} (hv:aV h (.cells #[.I 0] T.oO) λb aR=>aH aR (AA b 0) (.I 0) λaZ=>K none aZ):Cj Tryz.prog F.lM #[.P c0 0,.P c1 0,.P c2 0] none h K:=Ck (lq (lq (cq (pN 6) lf))) Tryz.func242 rfl rfl (Eq.mp (by kernel_rfl) hv)
theorem lM.xN.walk {c0:Nat} {c1:Nat} {c2:Nat} {aiz:Int} {K:Option Value->aj->Prop} (hv:aV h (.cells #[.I 0] T.oO) λb aR=>aH aR (AA b 0) (.I aiz) λaZ=>Hi aZ b 0 λt13=>aa.ST aZ (AA c0 0) 0 0 none 0 0 none 0 0 λbJ=>ak bJ (AA b 0)=some (.I t13)/\aH bJ (AA c1 0) (.I 0) λcB=>ak cB (AA b 0)=some (.I t13)/\aH cB (AA c2 0) (.I t13) λcJ=>K none cJ):Cj Tryz.prog F.lM #[.P c0 0,.P c1 0,.P c2 0] (some (.iface T.oO (.agg #[.I aiz]))) h K:=Ck (lq (lq (cq (pN 6) lf))) Tryz.func242 rfl rfl (Eq.mp (by kernel_rfl) hv)
theorem uv.walk {Bf:bU} {xd Dq:Nat} {kQ:Int} {E:iI} (hv:aV h (.cells #[.I 0,.U 0,.Z,.Z] T.aa) λb aR=>aV aR (.cells #[.I 0] T.int) λcD aZ=>aV aZ (.cells #[.I 0] T.uy) λeY bJ=>aK (λ(t15:Bool) (cB:aj)=>if t15 then aa.ST cB (AA b 0) 0 0 none 0 0 none 0 0 λcJ=>aH cJ (AA cD 0) (.I 0) λcQ=>aH cQ (AA eY 0) (.I 1) λcW=>aa.LD cW (AA b 0) λoP ia nB nC nE qx qA qB=>Hi cW cD 0 λr1=> ∃r2,ak cW (AA eY 0)=some (.I r2)/\R (.tuple #[.agg #[.I oP,.U ia,.slice nB nC nE,.slice qx qA qB],.I r1,.I r2]) cW else aV cB (.cells #[.slice Bf xd Dq,.I kQ,.I 256] T.qp) λjQ dA=>Ce F.ig #[.P jQ 0,.I 1] dA (λv fc=> ∃DX DY Jg Jh Ji Jj Jk Jl,v=.agg #[.I DX,.U DY,.slice Jg Jh Ji,.slice Jj Jk Jl]/\aa.ST fc (AA b 0) DX DY Jg Jh Ji Jj Jk Jl λcP=>aa.LD cP (AA b 0) λNd Ky Px Py Pz agC agD agE=>Hi cP jQ 1 λt28=>aa.ST cP (AA b 0) Nd Ky Px Py Pz agC agD agE λcV=>ak cV (AA jQ 1)=some (.I t28)/\aH cV (AA cD 0) (.I t28) λdD=>aH dD (AA eY 0) (.I 0) λdF=>Cj Tryz.prog F.lM #[.P b 0,.P cD 0,.P eY 0] none dF (abZ (λh_=>aa.LD h_ (AA b 0) λnF nG xE xF xG xH xI xJ=>Hi h_ cD 0 λadQ=> ∃aok,ak h_ (AA eY 0)=some (.I aok)/\R (.tuple #[.agg #[.I nF,.U nG,.slice xE xF xG,.slice xH xI xJ],.I adQ,.I aok]) h_) E)) (λv_ h__=>Cj Tryz.prog F.lM #[.P b 0,.P cD 0,.P eY 0] (some v_) h__ (abZ (λh_=>aa.LD h_ (AA b 0) λAP AQ Ld Le Lf Lh Lj Lk=>Hi h_ cD 0 λaqN=> ∃aol,ak h_ (AA eY 0)=some (.I aol)/\R (.tuple #[.agg #[.I AP,.U AQ,.slice Ld Le Lf,.slice Lh Lj Lk],.I aqN,.I aol]) h_) E))) (λJ=>if(decide (kQ<0)) then([]:List Deferred)= []/\J true bJ else([]:List Deferred)= []/\J (decide (kQ>(xd:Int))) bJ)):mH Tryz.prog F.uv #[.slice Bf xd Dq,.I kQ] h R E:=me (lq (sq (sq (.join [(15,.one (.bool))] lf) (cq ll lf)) (lq (lq (lq (sq (pN 8) lf)))))) Um Tryz.func193 rfl rfl (Eq.mp (by kernel_rfl) hv)
theorem rC.walk {Bf:bU} {xd Dq:Nat} (hv:Cl F.uv #[.slice Bf xd Dq,.I 0] h λv aR=> ∃adR adS SD SE SF SG SH SI GR Mo,v=.tuple #[.agg #[.I adR,.U adS,.slice SD SE SF,.slice SG SH SI],.I GR,.I Mo]/\aV aR (.cells #[.I 0,.U 0,.Z,.Z] T.aa) λb aZ=>aa.ST aZ (AA b 0) adR adS SD SE SF SG SH SI λbJ=>if(Mo==0) then if(GR==(xd:Int)) then aa.LD bJ (AA b 0) λuh ui vZ v7 v8 wa wc wg=>Cl F.uX #[.Z,.agg #[.I uh,.U ui,.slice vZ v7 v8,.slice wa wc wg]] bJ λeJ cB=>Vl eJ λFi Fj Cx=>Cl F.ke #[.slice Fi Fj Cx,.slice Bf xd Dq] cB λgR cJ=> ∃t24,gR=.bool t24/\R (.bool t24) cJ else R (.bool false) bJ else R (.bool false) bJ):Cl F.rC #[.slice Bf xd Dq] h R:=aS (lq (lq ll)) Tryz.func314 hv
theorem qH.walk {major:Int} (hv:if(decide (major≥2)) then if(decide (major<=5)) then R (.bool true) h else R (.bool (major==7)) h else R (.bool (major==7)) h):Cl F.qH #[.I major] h R:=aS (lq ll) Tryz.func317 hv
theorem w4.walk {mO:Int} {aR:Int} {aZ:Bool} (hv:aV h (.cells #[.I mO,.U aR,.bool aZ] T.bg) λb aR=> ∃t4,ak aR (AA b 2)=some (.bool t4)/\if t4 then bg.LD aR (AA b 0) λaqO aqP aqQ=>Hi aR b 0 λt7=> ∃(eq:Bool),Ho Tryz.prog T.bg (.agg #[.I aqO,.U aqP,.bool aqQ]) (.agg #[.I t7,.U 0,.bool true]) eq/\if eq then Hi aR b 0 λt12=>Cl F.qH #[.I t12] aR λv aZ=> ∃t13,v=.bool t13/\R (.bool t13) aZ else R (.bool false) aR else∃t16,ak aR (AA b 0)=some (.I t16)/\if(decide (t16≥0)) then∃t20,ak aR (AA b 0)=some (.I t20)/\R (.bool (decide (t20<=7))) aR else R (.bool false) aR):Cl F.w4 #[.agg #[.I mO,.U aR,.bool aZ]] h R:=aS (lq (sq (lq (cq ll lf)) ll)) Tryz.func299 hv
theorem sH.walk {n:Int} (hv:if(decide (n<24)) then R (.I 0) h else if(decide (n<256)) then R (.I 1) h else if(decide (n<65536)) then R (.I 2) h else if(decide (n<4294967296)) then R (.I 4) h else R (.I 8) h):Cl F.sH #[.U n] h R:=aS (lq (sq (bq (lq (cq ll (lq (cq ll (lq (cq ll (lq (cq ll lf))))))))) ll)) Tryz.func301 hv
theorem zh.walk {n:Int} (hv:Cl F.sH #[.U n] h λv aR=> ∃t4,v=.I t4/\if(t4==1) then R (.int .u8 24) aR else if(t4==2) then R (.int .u8 25) aR else if(t4==4) then R (.int .u8 26) aR else if(t4==8) then R (.int .u8 27) aR else R (.int .u8 (wrap .u8 n)) aR):Cl F.zh #[.U n] h R:=aS (lq (sq (lq (bq (lq (cq ll (lq (cq ll (lq (cq ll (lq (cq ll lf)))))))))) ll)) Tryz.func300 hv
theorem wY.walk {mO:Int} {aR:Int} {aZ:Bool} (hv:aV h (.cells #[.I mO,.U aR,.bool aZ] T.bg) λb aR=>bg.LD aR (AA b 0) λMn GR Mo=>Cl F.w4 #[.agg #[.I Mn,.U GR,.bool Mo]] aR λv aZ=> ∃t9,v=.bool t9/\if(!t9) then R (.tuple #[.Z,.I 3]) aZ else∃t13,ak aZ (AA b 2)=some (.bool t13)/\if t13 then Hi aZ b 0 λt15=>aV aZ (.cells #[.int .u8 (wrap .u8 ((BitVec.ofInt (IntKind.bits .u8) (wrap .u8 ((wrap .u8 t15)*2 ^ min (toNat 5) (IntKind.bits .u8)))|||BitVec.ofInt (IntKind.bits .u8) 31).toNat:Int))] T.uint8) λcD bJ=>R (.tuple #[.slice (some (AA cD 0)) 1 1,.I 0]) bJ else Hi aZ b 0 λt21=>Hu aZ b 1 λt25=>Cl F.zh #[.U t25] aZ λeJ cB=> ∃t26,eJ=.int .u8 t26/\ak cB (AA b 0)=some (.I t21)/\aV cB (.cells #[.int .u8 (wrap .u8 ((BitVec.ofInt (IntKind.bits .u8) (wrap .u8 ((wrap .u8 t21)*2 ^ min (toNat 5) (IntKind.bits .u8)))|||BitVec.ofInt (IntKind.bits .u8) t26).toNat:Int))] T.uint8) λeY cJ=>ak cJ (AA b 0)=some (.I t21)/\Hu cJ b 1 λt30=>Cl F.sH #[.U t30] cJ λgR cQ=>Vi gR λt31=> ∃(I:bU->Nat->Nat->Int->aj->Prop) (mu:bU->Nat->Nat->Int->aj->Nat),I (some (AA eY 0)) 1 1 0 cQ/\∀(kI:bU) (kJ kK:Nat) (t33:Int) (cW:aj),I kI kJ kK t33 cW->if(decide (t33<t31)) then∃t38,ak cW (AA b 1)=some (.U t38)/\if wrap .i64 (8*(wrap .i64 ((wrap .i64 (t31 - 1)) - t33)))<0 then False else aV cW (.cells #[.int .u8 (wrap .u8 (Int.fdiv t38 (2 ^ min (toNat (wrap .i64 (8*(wrap .i64 ((wrap .i64 (t31 - 1)) - t33))))) (IntKind.bits .u64))))] T.uint8) λjQ dA=>aX Tryz.prog (Builtin.append_ #[T.dt,T.dt] T.dt #[.slice kI kJ kK,.slice (some (AA jQ 0)) 1 1]) dA λkU fc=> ∃adT adU adV,kU=.slice adT adU adV/\(I adT adU adV (wrap .i64 (t33+1)) fc/\mu adT adU adV (wrap .i64 (t33+1)) fc<mu kI kJ kK t33 cW) else R (.tuple #[.slice kI kJ kK,.I 0]) cW):Cl F.wY #[.agg #[.I mO,.U aR,.bool aZ]] h R:=aS (lq (sq (bq (lq (cq ll (lq (cq ll lf))))) (sq (pN 10) (lq (sq (lq (bq (.loop [(4,.one (.slice)),(33,.one (.int .i64))] (lq (sq (cq lf lf) (sq (bq ll) lf)))))) ll))))) Tryz.func261 hv
theorem wy.walk {Bf:bU} {xd Dq:Nat} {kQ:Int} (hv:aV h (.cells #[.I 0,.U 0,.bool false] T.bg) λb aR=>aK (λ(t11:Bool) (aZ:aj)=>if t11 then bg.ST aZ (AA b 0) 0 0 false λbJ=>bg.LD bJ (AA b 0) λoP ia oS=>R (.tuple #[.agg #[.I oP,.U ia,.bool oS],.I 0,.I 1]) bJ else if(kQ==(xd:Int)) then bg.ST aZ (AA b 0) 0 0 false λcB=>bg.LD cB (AA b 0) λnF nG uB=>R (.tuple #[.agg #[.I nF,.U nG,.bool uB],.I 0,.I 8]) cB else Bd kQ xd/\aP Bf λa=>V1 aZ (a.add (toNat kQ*1)) λt30=>aV aZ (.cells #[.I 0,.U 0,.bool false] T.bg) λcD cJ=>bg.ST cJ (AA cD 0) (wrap .i64 (Int.fdiv t30 (2 ^ min (toNat 5) (IntKind.bits .u8)))) 0 false λcQ=>Bd kQ xd/\aP Bf λku=> ∃t37,ak cQ (ku.add (toNat kQ*1))=some (.int .u8 t37)/\if(decide ((wrap .u8 ((BitVec.ofInt (IntKind.bits .u8) t37 &&& BitVec.ofInt (IntKind.bits .u8) 31).toNat:Int))<24)) then aH cQ (AA cD 1) (.U (wrap .u64 (wrap .u8 ((BitVec.ofInt (IntKind.bits .u8) t37 &&& BitVec.ofInt (IntKind.bits .u8) 31).toNat:Int)))) λcW=>bg.LD cW (AA cD 0) λadW adX aom=>bg.ST cW (AA b 0) adW adX aom λdA=>bg.LD dA (AA b 0) λAP AQ KU=>R (.tuple #[.agg #[.I AP,.U AQ,.bool KU],.I (wrap .i64 (kQ+1)),.I 0]) dA else aK (λ(t49:Bool) (fc:aj)=>if t49 then aH fc (AA cD 2) (.bool true) λcP=>bg.LD cP (AA cD 0) λNS NT aon=>bg.ST cP (AA b 0) NS NT aon λcV=>bg.LD cV (AA b 0) λKV KW KX=>R (.tuple #[.agg #[.I KV,.U KW,.bool KX],.I (wrap .i64 (kQ+1)),.I 0]) cV else if(decide ((wrap .u8 ((BitVec.ofInt (IntKind.bits .u8) t37 &&& BitVec.ofInt (IntKind.bits .u8) 31).toNat:Int))>27)) then bg.ST fc (AA b 0) 0 0 false λdD=>bg.LD dD (AA b 0) λakx aky akz=>R (.tuple #[.agg #[.I akx,.U aky,.bool akz],.I 0,.I 3]) dD else if wrap .u8 ((wrap .u8 ((BitVec.ofInt (IntKind.bits .u8) t37 &&& BitVec.ofInt (IntKind.bits .u8) 31).toNat:Int)) - 24)<0 then False else if(decide ((wrap .i64 (1*2 ^ min (toNat (wrap .u8 ((wrap .u8 ((BitVec.ofInt (IntKind.bits .u8) t37 &&& BitVec.ofInt (IntKind.bits .u8) 31).toNat:Int)) - 24))) (IntKind.bits .i64)))>(wrap .i64 ((xd:Int) - (wrap .i64 (kQ+1)))))) then bg.ST fc (AA b 0) 0 0 false λdF=>bg.LD dF (AA b 0) λakA akB akC=>R (.tuple #[.agg #[.I akA,.U akB,.bool akC],.I 0,.I 8]) dF else∃(I:Int->aj->Prop) (mu:Int->aj->Nat),I 0 fc/\∀(t75:Int) (fC:aj),I t75 fC->if(decide (t75<(wrap .i64 (1*2 ^ min (toNat (wrap .u8 ((wrap .u8 ((BitVec.ofInt (IntKind.bits .u8) t37 &&& BitVec.ofInt (IntKind.bits .u8) 31).toNat:Int)) - 24))) (IntKind.bits .i64))))) then Hu fC cD 1 λt79=>Bd (wrap .i64 ((wrap .i64 (kQ+1))+t75)) xd/\aP Bf λpE=> ∃t86,ak fC (pE.add (toNat (wrap .i64 ((wrap .i64 (kQ+1))+t75))*1))=some (.int .u8 t86)/\aH fC (AA cD 1) (.U (wrap .u64 ((BitVec.ofInt (IntKind.bits .u64) (wrap .u64 (t79*2 ^ min (toNat 8) (IntKind.bits .u64)))|||BitVec.ofInt (IntKind.bits .u64) (wrap .u64 t86)).toNat:Int))) λgD=>(I (wrap .i64 (t75+1)) gD/\mu (wrap .i64 (t75+1)) gD<mu t75 fC) else bg.LD fC (AA cD 0) λaoo aop aoq=>bg.ST fC (AA b 0) aoo aop aoq λgX=>bg.LD gX (AA b 0) λakD akE akF=>R (.tuple #[.agg #[.I akD,.U akE,.bool akF],.I (wrap .i64 ((wrap .i64 (kQ+1))+(wrap .i64 (1*2 ^ min (toNat (wrap .u8 ((wrap .u8 ((BitVec.ofInt (IntKind.bits .u8) t37 &&& BitVec.ofInt (IntKind.bits .u8) 31).toNat:Int)) - 24))) (IntKind.bits .i64))))),.I 0]) gX) (λjo=>if((wrap .u8 ((BitVec.ofInt (IntKind.bits .u8) t37 &&& BitVec.ofInt (IntKind.bits .u8) 31).toNat:Int))==31) then Hi cQ cD 0 λt54=>Cl F.qH #[.I t54] cQ λv gQ=> ∃t55,v=.bool t55/\jo t55 gQ else jo false cQ)) (λJ=>if(decide (kQ<0)) then J true aR else J (decide (kQ>(xd:Int))) aR)):Cl F.wy #[.slice Bf xd Dq,.I kQ] h R:=aS (lq (sq (bq (sq (.join [(11,.one (.bool))] lf) (cq ll (lq (cq ll lf))))) (lq (lq (lq (sq (bq (lq (cq (lq ll) (sq (.join [(49,.one (.bool))] lf) (cq (lq ll) (lq (cq ll lf))))))) (lq (sq (lq (cq ll lf)) (sq (lq (bq (.loop [(75,.one (.int .i64))] (lq (sq (cq lf lf) (sq (bq (lq (pN 13))) lf)))))) ll))))))))) Tryz.func309 hv
end
section
namespace Cb
variable {h h':aj} {R E:iI} {p:bU} {r l c:Nat} {bs:List UInt8}
abbrev flt (e:Int):Value:=.iface T.oO (.agg #[.int .i64 e])
structure Gk (h:aj) (r:Nat) (p:bU) (c:Nat) (bs:List UInt8) (pos left:Nat):Prop where
 dE:h[r]? =some (.cells #[.slice p bs.length c,.int .i64 (pos:Int),.int .i64 (left:Int)] T.qp (0,0))
 row:Row h p (bc bs)
 cap:bs.length<=c
 pos:pos<=bs.length
 ap:bs≠ []->¬aQ p r
 len:bs.length<=1000000
 left:left<=1000000
theorem lJ {q:Bool} {e:Int} (k1:q=true->R (.tuple #[]) h) (k2:q=false->E (flt e) h):mH Tryz.prog F.jd #[.bool q,.I e] h R E:=by
 refine jd.walk ?_;cases q with
 |true=>rw[dL];exact k1 rfl
 |false=>rw[jy];exact k2 rfl
theorem Gk.frame {Q:Nat->Prop} {pos left:Nat} (H:Gk h r p c bs pos left) (f:Fr Q h h') (h1: ¬Q r) (h2: ∀y,aQ p y->bs≠ []->¬Q y):Gk h' r p c bs pos left:=by
 refine⟨f.get H.dE h1,?_,H.cap,H.pos,H.ap,H.len,H.left⟩;by_cases e:bs= []
 ·subst e;exact Row.nil
 ·exact H.row.frame f (λa ea=>h2 _ ⟨a,ea,rfl⟩ e)
theorem Gk.on {pos left:Nat} (H:Gk h r p c bs pos left) (f:Fr No h h'):Gk h' r p c bs pos left:=H.frame f id (λ_ _ _=>id)
theorem Gk.set {pos left pos' left':Nat} (H:Gk h r p c bs pos left) (hp:pos'<=bs.length) (hl:left'<=1000000) (d1:h'[r]? =some (.cells #[.slice p bs.length c,.I (pos':Int),.I (left':Int)] T.qp (0,0))) (d2:h'.size=h.size) (d3: ∀x,x≠r->h'[x]? =h[x]?):
  Gk h' r p c bs pos' left'/\Fr (λy=>y=r) h h':=by
 have f:Fr (λy=>y=r) h h':=Fr.of_eq d2 (λc hc=>d3 c hc);refine⟨⟨d1,?_,H.cap,hp,H.ap,H.len,hl⟩,f⟩;by_cases e:bs= []
 ·subst e;exact Row.nil
 ·exact H.row.frame f (λa ea e'=>H.ap e ⟨a,ea,e'⟩)
theorem Ya {pos left:Nat} (H:Gk h r p c bs pos left) (k1: ∀h',E9 bs pos=true->pos<bs.length->Gk h' r p c bs (pos+1) left->Fr (λy=>y=r) h h'->R (.bool true) h') (k2:E9 bs pos=false->R (.bool false) h):Cl F.lZ #[.P r 0] h R:=by
 have hb:=H.dE;have hlen:=H.len;refine lZ.walk (aK.of λJ hJ=>⟨_,af hb rfl,_,_,_,af hb rfl,?_⟩);by_cases jc:pos<bs.length
 ·rw[jy];obtain⟨a,rfl⟩:=H.row.some (by cases bs with|nil=>simp at jc|cons=>simp[bc]);have hx:(bc bs)[pos]? =some (.int .u8 ((bs[pos]).toNat:Int)):=by unfold bc;rw[aO,au jc];rfl
  have cx:=H.row.cell hx;have hE:E9 bs pos=decide ((bs[pos]).toNat=255):=by unfold E9;rw[au jc]
  generalize (bs[pos]).toNat=x at cx hE;refine⟨_,_,_,af hb rfl,_,af hb rfl,⟨by omega,by omega⟩,aB.2 ⟨_,by rw[aL,cN];exact cx,?_⟩⟩;subst hJ;dsimp only;split
  ·rename_i q;refine⟨_,af hb rfl,bL hb (by show 1<3;omega) λh1 d1 d2 d3=> ?_⟩;rw[bK (by omega) (by omega)] at d1;obtain⟨q1,q2⟩:=H.set (pos':=pos+1) (by omega) H.left d1 d2 d3;exact k1 h1 (by rw[hE];have:=eq_of_beq q;exact ay (by omega)) jc q1 q2
  ·rename_i q;exact k2 (by rw[hE];exact decide_eq_false λe=>q (by rw[e];rfl))
 ·rw[ai (λe=>jc (by have:=of_decide_eq_true e;omega))];subst hJ;dsimp only;rw[dL];exact k2 (by unfold E9;rw[eg (by omega)])
theorem Vv {m:Nat} (hk:R (.bool (Ci m)) h):Cl F.qH #[.I (m:Int)] h R:=by
 refine qH.walk ?_;have e7:((m:Int)==7)=decide (m=7):=by
  by_cases e:m=7
  ·subst e;rfl
  ·rw[decide_eq_false e,beq_eq_false_iff_ne];omega
 have hk: ∀q,q=Ci m->R (.bool q) h:=λq e=>by rw[e];exact hk
 unfold Ci at hk;rw[e7];split
 ·rename_i q2;split
  ·rename_i q5;exact hk _ (by rw[ay];rfl;have:=of_decide_eq_true q2;have:=of_decide_eq_true q5;omega)
  ·rename_i q5;exact hk _ (by rw[decide_eq_false (p:=2<=m/\m<=5)];rfl;intro e;exact q5 (ay (by omega)))
 ·rename_i q2;exact hk _ (by rw[decide_eq_false (p:=2<=m/\m<=5)];rfl;intro e;exact q2 (ay (by omega)))
theorem byte_at (hr:Row h p (bc bs)) {i:Nat} (hi:i<bs.length): ∃a,p=some a/\ak h (a.add (i*1))=some (.int .u8 ((bs[i]).toNat:Int)):=by
 obtain⟨a,rfl⟩:=hr.some (by cases bs with|nil=>simp at hi|cons=>simp[bc]);exact⟨a,rfl,by rw[cN];exact hr.cell (v:=.int .u8 ((bs[i]).toNat:Int)) (by unfold bc;rw[aO,au hi];rfl)⟩
theorem sh5: ∀x:Fin 256,IntKind.wrap .i64 (Int.fdiv (x.val:Int) (2 ^ min (Int.toNat 5) (IntKind.bits .u8)))=((x.val/32:Nat):Int):=by decide
theorem aor: ∀x:Fin 256,IntKind.wrap .u8 ((BitVec.ofInt (IntKind.bits .u8) (x.val:Int) &&& BitVec.ofInt (IntKind.bits .u8) 31).toNat:Int)=((x.val%32:Nat):Int):=by decide
theorem Jm {n:Nat} (h:n<18446744073709551616):IntKind.wrap .u64 (n:Int)=(n:Int):=by
 have e:IntKind.wrap .u64 (n:Int)=(n:Int)%18446744073709551616:=by simp[IntKind.wrap,IntKind.bits,IntKind.signed]
 rw[e];omega
theorem akG {v y:Nat} (hv:v<72057594037927936) (hy:y<256):IntKind.wrap .u64 ((BitVec.ofInt (IntKind.bits .u64) (IntKind.wrap .u64 ((v:Int)*2 ^ min (Int.toNat 8) (IntKind.bits .u64)))|||BitVec.ofInt (IntKind.bits .u64) (IntKind.wrap .u64 (y:Int))).toNat:Int)=((v*256+y:Nat):Int):=by
 have e1:(v:Int)*2 ^ min (Int.toNat 8) (IntKind.bits .u64)=((v*256:Nat):Int):=by
  rw[show(2:Int) ^ min (Int.toNat 8) (IntKind.bits .u64)=256 from rfl];omega
 rw[e1,Jm (n:=v*256) (by omega),Jm (n:=y) (by omega)];have e2:((BitVec.ofInt (IntKind.bits .u64) ((v*256:Nat):Int)|||BitVec.ofInt (IntKind.bits .u64) (y:Int)).toNat)=v*256+y:=by
  rw[BitVec.toNat_or,BitVec.ofInt_natCast,BitVec.ofInt_natCast,BitVec.toNat_ofNat,BitVec.toNat_ofNat];rw[show(2:Nat) ^ IntKind.bits .u64=18446744073709551616 from rfl,jl (by omega),jl (by omega)];have:=Nat.two_pow_add_eq_or_of_lt (i:=8) (b:=y) (by omega) v;rw[show(2:Nat) ^ 8=256 from rfl] at this;rw[je v 256];exact this.symm
 rw[e2];exact Jm (by omega)
theorem SJ {pos:Nat} (hr:Row h p (bc bs)) (hl:l=bs.length) (hlen:bs.length<=1000000) (hp:pos<=bs.length)
  (k1: ∀h' (m n next:Nat) (o:Bool),QL bs pos=.ok (m,n,o,next)->Fr No h h'->R (.tuple #[.agg #[.I (m:Int),.U (n:Int),.bool o],.I (next:Int),.I 0]) h')
  (k2: ∀h' e,QL bs pos=.error e->Fr No h h'->e≠0->R (.tuple #[.agg #[.I 0,.U 0,.bool false],.I 0,.I e]) h'):Cl F.wy #[.slice p l c,.I (pos:Int)] h R:=by
 subst hl;refine wy.walk (bg.box λb h1 eb hb f1=>aK.of λJ hJ=> ?_);rw[dL,decide_eq_false (by omega)];subst hJ;dsimp only;rw[dL];have zb:=aI hb;have err: ∀g e,Fr No h1 g->QL bs pos=.error e->e≠0->bg.ST g (AA b 0) 0 0 false λh3=>bg.LD h3 (AA b 0) λr0 r1 r2=>R (.tuple #[.agg #[.I r0,.U r1,.bool r2],.I 0,.I e]) h3:=λg e fg hx he=>
  bg.set (fg.get hb id) λh3 d1 d2 d3=>bg.ld d1 (k2 h3 e hx ((f1.tt fg).fresh (Fr.of_eq (S:=λy=>y=b) d2 (λc hc=>d3 c hc)) (λy e=>by omega)) he)
 by_cases he:pos=bs.length
 ·rw[ag (by rw[he];simp)];exact err h1 8 (Fr.refl _ _) (by unfold QL;rw[eg (by omega)]) (by decide)
 rw[ai (λe=>he (by have:=eq_of_beq e;omega))];have jc:pos<bs.length:=by omega
 obtain⟨a,rfl,cx⟩:=byte_at hr jc;have hR:QL bs pos=QL bs pos:=rfl;conv at hR=>rhs;unfold QL;rw[au jc]
 dsimp only at hR;have agF:=(bs[pos]).toNat_lt;generalize (bs[pos]).toNat=x at cx hR agF;refine⟨⟨by omega,by omega⟩,aB.2 ⟨_,f1.cell (by rw[aL];exact cx) id,bg.new λb1 h2 uf dw f2=>⟨⟨by omega,by omega⟩,aB.2 ⟨_,(f1.tt f2).cell (by rw[aL];exact cx) id,?_⟩⟩⟩⟩;have PT:=aI dw;have z2:=f2.1;have z1:=f1.1;rw[sh5 ⟨x,agF⟩] at dw;rw[aor ⟨x,agF⟩];rw[show(⟨x,agF⟩:Fin 256).val=x from rfl] at dw⊢;have m32:x/32<8:=by omega
 generalize em:x/32=m at dw hR m32;have h31:x%32<32:=by omega
 generalize x%32=Ha at hR h31⊢;rw[bK (n:=(pos:Int)+1) (by omega) (by omega)];have ok: ∀g (n next:Nat) (o:Bool),bg.at g b1 (m:Int) (n:Int) o->bg.at g b 0 0 false->Fr No h g->QL bs pos=.ok (m,n,o,next)->
   bg.LD g (AA b1 0) λt0 t1 t2=>bg.ST g (AA b 0) t0 t1 t2 λh8=>bg.LD h8 (AA b 0) λr0 r1 r2=>R (.tuple #[.agg #[.I r0,.U r1,.bool r2],.I (next:Int),.I 0]) h8:=λg n next o q1 q2 fg h1=>
  bg.ld q1 (bg.set q2 λh8 d1 d2 d3=>bg.ld d1 (k1 h8 m n next o h1 (fg.fresh (Fr.of_eq (S:=λy=>y=b) d2 (λc hc=>d3 c hc)) (λy e=>by omega))))
 have F2:=f1.tt f2;have fI:=f2.get hb id;by_cases c24:Ha<24
 ·rw[jy];rw[ag c24] at hR;refine bL dw (by show 1<3;omega) λh3 d1 d2 d3=> ?_
  rw[Jm (by omega)] at d1;exact ok h3 Ha (pos+1) false d1 ((d3 b (by omega)).trans fI) (F2.fresh (Fr.of_eq (S:=λy=>y=b1) d2 (λc hc=>d3 c hc)) (λy e=>by omega)) hR
 rw[ai (λe=>c24 (by have:=of_decide_eq_true e;omega))];rw[ai c24] at hR;refine aK.of λJ1 pA=> ?_
 have rest: ∀q,q=decide (Ha=31/\Ci m=true)->J1 q h2:=by
  intro q hq;subst pA;dsimp only;cases q with
  |true=>
   rw[ag rfl];rw[ag (of_decide_eq_true hq.symm)] at hR;refine bL dw (by show 2<3;omega) λh3 d1 d2 d3=> ?_
   exact ok h3 0 (pos+1) true d1 ((d3 b (by omega)).trans fI) (F2.fresh (Fr.of_eq (S:=λy=>y=b1) d2 (λc hc=>d3 c hc)) (λy e=>by omega)) hR
  |false=>
   rw[dL];rw[ai (of_decide_eq_false hq.symm)] at hR;by_cases c27:Ha>27
   ·rw[jy];rw[ag c27] at hR;exact err h2 3 f2 hR (by decide)
   rw[ai (λe=>c27 (by have:=of_decide_eq_true e;omega))];rw[ai c27] at hR;have e5:IntKind.wrap .u8 ((Ha:Int) - 24)=(Ha:Int) - 24:=wrap_u8 (by omega) (by omega);rw[e5,dL];obtain⟨N,eN,lN,gN,eP⟩: ∃N:Nat,IntKind.wrap .i64 (1*2 ^ min (Int.toNat ((Ha:Int) - 24)) (IntKind.bits .i64))=(N:Int)/\N<=8/\1<=N/\2 ^ (Ha - 24)=N:=by
    have:Ha=24\/Ha=25\/Ha=26\/Ha=27:=by omega
    rcases this with rfl|rfl|rfl|rfl
    ·exact⟨1,by kernel_rfl,by omega,by omega,rfl⟩
    ·exact⟨2,by kernel_rfl,by omega,by omega,rfl⟩
    ·exact⟨4,by kernel_rfl,by omega,by omega,rfl⟩
    ·exact⟨8,by kernel_rfl,by omega,by omega,rfl⟩
   rw[eP] at hR;rw[eN,bK (n:=(bs.length:Int) - ((pos:Int)+1)) (by omega) (by omega)];by_cases cs:(N:Int)>(bs.length:Int) - ((pos:Int)+1)
   ·rw[ag (ay cs)];rw[jy] at hR;exact err h2 8 f2 hR (by decide)
   rw[ai (λe=>cs (of_decide_eq_true e))];rw[dL] at hR;refine⟨λt g=> ∃i:Nat,t=(i:Int)/\i<=N/\bg.at g b1 (m:Int) (beN ((bs.drop (pos+1)).take i):Int) false/\Fr (λy=>y=b1) h2 g,λt _=>N - t.toNat,⟨0,rfl,cj _,by rw[fM];exact dw,Fr.refl _ _⟩,?_⟩;rintro _ g ⟨i,rfl,hi,hg,fg⟩;have Fg:Fr No h g:=F2.fresh fg (λy e=>by omega);by_cases nQ:i<N
   ·rw[jy,bK (n:=(pos:Int)+1+(i:Int)) (by omega) (by omega)];obtain⟨a',ea,cy⟩:=byte_at hr (i:=pos+1+i) (by omega);cases ea;refine⟨_,af hg rfl,⟨by omega,by omega⟩,aB.2 ⟨_,by rw[show Int.toNat ((pos:Int)+1+(i:Int))=pos+1+i by omega];exact Fg.cell cy id,?_⟩⟩;have hv:=abS ((bs.drop (pos+1)).take i);have hpw:=iN (n:=256) (by omega) (show((bs.drop (pos+1)).take i).length<=7 by rw[bQ];omega);rw[show(256:Nat) ^ 7=72057594037927936 from rfl] at hpw;refine bL hg (by show 1<3;omega) λg2 d1 d2 d3=> ?_
    rw[akG (by omega) (bs[pos+1+i]).toNat_lt,<-Rl] at d1;rw[bK (n:=(i:Int)+1) (by omega) (by omega)];refine⟨⟨i+1,by omega,by omega,?_,fg.tt (Fr.of_eq d2 (λc hc=>d3 c hc))⟩,by show N - Int.toNat ((i:Int)+1)<N - Int.toNat (i:Int);omega⟩;rw[bY,iL,au (by omega)];exact d1
   ·rw[ai (λe=>nQ (by have:=of_decide_eq_true e;omega))];obtain rfl:i=N:=by omega
    rw[bK (n:=(pos:Int)+1+(i:Int)) (by omega) (by omega),show(pos:Int)+1+(i:Int)=((pos+1+i:Nat):Int) by omega];exact ok g _ (pos+1+i) false hg (fg.get fI (by omega)) Fg hR
 split
 ·rename_i q;have q:Ha=31:=by have:=eq_of_beq q;omega
  refine⟨_,af dw rfl,Vv ⟨_,rfl,rest _ (by rw[q];simp)⟩⟩
 ·rename_i q;exact rest false (by rw[eq_comm,decide_eq_false_iff_not];intro e;exact q (by rw[e.1];decide))
end Cb
end
section
namespace Cb
variable {h h':aj} {R E:iI} {p:bU} {r c:Nat} {bs:List UInt8} {pos left:Nat}
theorem Ll (H:Gk h r p c bs pos left)
  (k1: ∀h' (m n next:Nat) (o:Bool),QL bs pos=.ok (m,n,o,next)->Gk h' r p c bs next left->Fr (λy=>y=r) h h'->R (.agg #[.I (m:Int),.U (n:Int),.bool o]) h')
  (kE: ∀h' e,QL bs pos=.error e->Fr No h h'->E (flt e) h'):mH Tryz.prog F.jY #[.P r 0] h R E:=by
 refine jY.walk (bg.box λb h1 eb hb f1=>aK.of λJ hJ=> ?_);have H1:=H.on f1;have zr:=aI H.dE;have zb:=aI hb;have done: ∀g b1 (m n next:Nat) (o:Bool),bg.at g b1 (m:Int) (n:Int) o->h1.size<=b1->Fr No h1 g->QL bs pos=.ok (m,n,o,next)->J (some (AA b1 0)) (next:Int) 0 g:=by
  intro g b1 m n next o dw z1 fg q1;have q2:=(JO q1).2.1;subst hJ;have Hg:=H1.on fg;refine lJ (λ_=>⟨rfl,bL Hg.dE (by show 1<3;omega) λh5 d1 d2 d3=> ?_⟩) (λe=>absurd e (by decide));obtain⟨H5,f5⟩:=Hg.set (pos':=next) q2 H.left d1 d2 d3;have FM:=(d3 b1 (by have:=f1.1;omega)).trans dw;have DJ:=(d3 b (by have:=f1.1;omega)).trans (fg.get hb id);refine aB.2 (bg.ld FM (bg.set DJ λh6 e1 e2 e3=>bg.ld e1 ?_));have f6:Fr (λy=>y=b) h5 h6:=Fr.of_eq e2 (λc hc=>e3 c hc);refine k1 h6 m n next o q1 (H5.frame f6 (by omega) (λy hy e he=> ?_)) ?_
  ·have:=qN H.row (by cases hbs:bs with|nil=>exact absurd hbs e|cons=>simp[bc]) hy;omega
  ·exact(Fr.no (f1.tt fg) f5).trans f6 (λ_ _=>id) (λx hx e=>by omega)
 have fail: ∀g b1 e,Fr No h1 g->QL bs pos=.error e->e≠0->J (some (AA b1 0)) 0 e g:=by
  intro g b1 e fg hx he;subst hJ;exact lJ (λq=>absurd (by simpa using q) he) (λ_=>kE g e hx (f1.tt fg))
 refine⟨_,_,_,af H1.dE rfl,_,af H1.dE rfl,?_,?_,trivial⟩
 ·refine SJ H1.row rfl H.len H.pos (λg m n next o q1 fg=>⟨_,_,_,_,_,rfl,bg.new λb1 g1 e1 dw fg1=>⟨rfl,done g1 b1 m n next o dw (by have:=fg.1;omega) (fg.tt fg1) q1⟩⟩) (λg e hx fg he=>⟨_,_,_,_,_,rfl,bg.new λb1 g1 e1 dw fg1=>⟨rfl,fail g1 b1 e (fg.tt fg1) hx he⟩⟩)
 ·refine bg.box λb2 vj e2 fI f10=>⟨af (H1.on f10).dE rfl,af (H1.on f10).dE rfl,?_⟩
  have z2:=aI fI;refine SJ (H1.on f10).row rfl H.len H.pos (λg m n next o q1 fg=>⟨_,_,_,_,_,rfl,bg.set (fg.get fI id) λg1 d1 d2 d3=>⟨rfl,done g1 b2 m n next o d1 (by omega) ((f10.tt fg).fresh (Fr.of_eq (S:=λy=>y=b2) d2 (λc hc=>d3 c hc)) (λy e=>by omega)) q1⟩⟩) (λg e hx fg he=>⟨_,_,_,_,_,rfl,bg.set (fg.get fI id) λg1 d1 d2 d3=>⟨rfl,fail g1 b2 e ((f10.tt fg).fresh (Fr.of_eq (S:=λy=>y=b2) d2 (λc hc=>d3 c hc)) (λy e=>by omega)) hx he⟩⟩)
end Cb
end
section
namespace Cb
variable {V:List UInt8→Bool} {h h0 h':aj} {R E:iI} {p:bU} {r l c:Nat} {bs:List UInt8} {pos left:Nat}
def xP (V:List UInt8->Bool) (h0:aj):Prop:= ∀(g:aj) (p:bU) (c:Nat) (bs:List UInt8) (R:iI),Fr No h0 g->Row g p (bc bs)->bs.length<=1000000->bs.length<=c->(∀g',Fr No g g'->R (.bool (V bs)) g')->Cl F.jm #[.slice p bs.length c] g R
theorem SK {m n : Nat} {o : Bool} (U : xP V h0) (u : Fr No h0 h) (H : Gk h r p c bs pos left) (hn : n < 18446744073709551616)
    (k1 : ∀ h' (v : BV), wN V bs pos m n = .ok v.b → v.ok h' (λy => h.size ≤ y) → v.b.length = n → pos + n ≤ bs.length → Gk h' r p c bs (pos + n) left → Fr (λy => y = r) h h' → R v.val h')
    (kE : ∀ h' e, wN V bs pos m n = .error e → Fr No h h' → E (flt e) h') : mH Tryz.prog F.jG #[.pointer (some ⟨r, 0, none⟩), .agg #[.int .i64 (m : Int), .int .u64 (n : Int), .bool o]] h R E := by
  refine jG.walk (bg.box λb h1 eb hb f1 => ?_)
  have H1 := H.on f1
  have zr := aI H.dE
  have zb := aI hb
  have hp := H.pos
  have hlen := H.len
  have OQ := H.cap
  refine ⟨_, af hb rfl, _, _, _, af H1.dE rfl, _, af H1.dE rfl, ?_⟩
  rw [bK (n := ((bs.length : Nat) : Int) - (pos : Int)) (by omega) (by omega), wrap_u64 (by omega) (by omega)]
  refine lJ (λhq => ?_) (λhq => kE h1 8 (by have := of_decide_eq_false hq; unfold wN; rw [if_neg (by omega)]) f1)
  have hq : pos + n ≤ bs.length := by have := of_decide_eq_true hq; omega
  have eD : (bs.take (pos + n)).drop pos = (bs.drop pos).take n := by rw [List.take_drop]
  have e1 : IntKind.wrap .i64 ((pos : Int) + (IntKind.wrap .i64 (n : Int))) = ((pos + n : Nat) : Int) := by rw [bK (n := (n : Int)) (by omega) (by omega), bK (by omega) (by omega)]; omega
  refine ⟨rfl, af H1.dE rfl, af H1.dE rfl, af hb rfl, _, _, _, af H1.dE rfl, _, af H1.dE rfl, _, af H1.dE rfl, _, af hb rfl, ⟨by rw [e1]; omega, by rw [e1]; omega⟩, ⟨by omega, by rw [e1]; omega⟩, ?_⟩
  rw [e1]
  have row : Row h1 (cZ p c (Int.toNat (pos : Int)) 1) (bc ((bs.take (pos + n)).drop pos)) := by
    have := H1.row.sub (cap := c) (l := pos) (u := pos + n) (sz := 1) (by omega) (by omega)
    rw [Nat.mul_one, Nat.mul_one] at this
    rw [Int.toNat_natCast]
    unfold bc at this ⊢
    rw [List.map_drop, List.map_take]
    exact this
  have ln : ((bs.take (pos + n)).drop pos).length = n := by rw [List.length_drop, List.length_take]; omega
  refine vf.my row (by rw [ln]; omega) (by rw [ln]; omega) λp' c' h3 o3 f3 g3 => ⟨_, _, _, rfl, af (f3.get hb id) rfl, af (H1.on f3).dE rfl, af (H1.on f3).dE rfl, af (H1.on f3).dE rfl, aK.of λJ hJ => ⟨_, af (f3.get hb id) rfl, ?_⟩⟩
  have done : ∀ g, Fr No h3 g → (m ≠ 3 ∨ V ((bs.drop pos).take n) = true) → J g := by
    intro g fg hv
    subst hJ
    have Hg := (H1.on f3).on fg
    have hbg := (f3.tt fg).get hb id
    refine ⟨_, af Hg.dE rfl, _, af hbg rfl, bL Hg.dE (by show 1 < 3; omega) λh5 d1 d2 d3 => ?_⟩
    rw [e1] at d1
    obtain ⟨H5, f5⟩ := Hg.set (pos' := pos + n) hq H.left d1 d2 d3
    have ov := (o3.frame fg (λ_ _ => id)).frame f5 (λy hy e => by have := g3 y hy; have := f1.1; omega)
    refine k1 h5 ⟨p', c', (bs.take (pos + n)).drop pos⟩ (by unfold wN; rw [if_pos (by omega), if_pos hv]; exact congrArg _ eD.symm) (BV.wL ov (λy hy => by have := g3 y hy; have := f1.1; omega)) ln hq H5 (Fr.no (f1.tt (f3.tt fg)) f5)
  split
  · rename_i q
    exact lJ (λ_ => ⟨rfl, rfl, done h3 (Fr.refl _ _) (.inl λe => by rw [e] at q; exact absurd q (by decide))⟩) (λe => absurd e (by decide))
  · rename_i q
    have m3 : m = 3 := by
      have : ¬ ((m : Int) ≠ 3) := λe => q (by simpa using e)
      omega
    refine U h3 p' c' _ _ (u.tt (f1.tt f3)) o3.pZ (by rw [ln]; omega) o3.le λg fg => ⟨_, rfl, ?_⟩
    rw [eD]
    exact lJ (λhv => ⟨rfl, rfl, done g fg (.inr hv)⟩) (λhv => kE g 3 (by unfold wN; rw [if_pos (by omega), if_neg (λe => e.elim (λe => e m3) (λe => by rw [hv] at e; cases e))]) (f1.tt (f3.tt fg)))
def FW (g:aj) (r:Nat):Nat:=match ak g ⟨r,1,none⟩ with
 |some (.int _ z)=>z.toNat
 |_=>0
theorem Gk.FW (H:Gk h r p c bs pos left):FW h r=pos:=by
 unfold Cb.FW;rw[show ak h (AA r 1)=some (.I (pos:Int)) from af H.dE rfl];exact aL _
theorem NU {D:Nat->Prop} {v:BV} {m:Int} (H:v.ok h D):kT h D (.mk m 0 v.b []) ⟨m,0,v,none,0,0⟩:=by
 unfold kT;exact⟨⟨rfl,rfl,rfl,H⟩, [],⟨rfl,Row.nil,λe=>absurd rfl e,bh _⟩,by unfold dG;trivial⟩
theorem aaZ {m n:Nat} {o:Bool} (U:xP V h0) (u:Fr No h0 h) (hr:h0.size<=r) (H:Gk h r p c bs pos left) (hn:n<18446744073709551616)
  (k1: ∀h' (x:CV) (b:List UInt8) (next:Nat),OU V bs pos m n o=.ok (b,next)->kT h' (λy=>h.size<=y) (.mk m 0 b []) x->Gk h' r p c bs next left->Fr (λy=>y=r) h h'->R x.agg h')
  (kE: ∀h' e,OU V bs pos m n o=.error e->Fr (λy=>y=r) h h'->E (flt e) h'):mH Tryz.prog F.jZ #[.P r 0,.agg #[.I (m:Int),.U (n:Int),.bool o]] h R E:=by
 refine jZ.walk (bg.box λb h1 eb hb f1=>aa.box λb1 h2 uf dw f2=>⟨_,af (f2.get hb id) rfl,aa.new λb2 h4 FE fI f4=>⟨_,af ((f2.tt f4).get hb id) rfl,?_⟩⟩);have zr:=aI H.dE;have zb:=aI hb;have PT:=aI dw;have zb2:=aI fI;have z1:=f1.1;have z2:=f2.1;have z4:=f4.1;have F4:=f1.tt (f2.tt f4);have H4:=H.on F4;have ma:=(f2.tt f4).get hb id;have CX:=f4.get dw id;have hlen:=H.len;have GF: ∀y,aQ p y->bs≠ []->y<h.size:=λy hy e=>qN H.row (by cases hbs:bs with|nil=>exact absurd hbs e|cons=>simp[bc]) hy
 have fin: ∀g (v:BV) (next:Nat),aa.at g b2 m 0 v.p v.b.length v.c none 0 0->aa.at g b1 0 0 none 0 0 none 0 0->v.ok g (λy=>h4.size<=y)->OU V bs pos m n o=.ok (v.b,next)->Gk g r p c bs next left->Fr (λy=>y=r\/y=b2) h4 g->
   aa.LD g (AA b2 0) λt0 t1 TG TH TI t3p t3l t3c=>aa.ST g (AA b1 0) t0 t1 TG TH TI t3p t3l t3c λh7=>aa.LD h7 (AA b1 0) λr0 r1 r2p r2l r2c r3p r3l r3c=>R (.agg #[.I r0,.U r1,.slice r2p r2l r2c,.slice r3p r3l r3c]) h7:=by
  intro g v next q2 q1 qv ql qr qf;refine aa.ld q2 (aa.set q1 λh7 d1 d2 d3=>aa.ld d1 ?_);have f7:Fr (λy=>y=b1) g h7:=Fr.of_eq d2 (λc hc=>d3 c hc);refine k1 h7 ⟨m,0,v,none,0,0⟩ v.b next ql (NU ((qv.frame f7 (λy hy e=>by omega)).mono (λy hy=>by omega))) (qr.frame f7 (by omega) (λy hy e he=>by have:=GF y hy e;omega)) ?_;exact((Fr.no F4 qf).trans f7 (S'':=λy=>y=r) (λx hx e=>by omega) (λx hx e=>by omega))
 cases o with
 |false=>
  rw[jy];refine bg.ld ma (SK U (u.tt F4) H4 hn (λh5 v pv ok1 lv le H5 f5=>⟨_,_,_,rfl,?_⟩) (λh5 e pe f5=>kE h5 e (by simp only[OU,pe]) ((F4.tt f5).mono λ_ _=>False.elim)));have aqR:=f5.get fI (by omega);refine bL aqR (by show 2<4;omega) λh6 d1 d2 d3=> ?_
  have f6:Fr (λy=>y=b2) h5 h6:=Fr.of_eq d2 (λc hc=>d3 c hc);refine fin h6 v (pos+n) d1 (f6.get (f5.get CX (by omega)) (by omega)) (ok1.frame f6 (λy hy e=>by omega)) (by simp only[OU,pv]) (H5.frame f6 (by omega) (λy hy e he=>by have:=GF y hy e;omega)) (f5.trans f6 (λ_ _=> .inl) (λ_ _=> .inr))
 |true=>
  rw[dL];refine⟨λg=> ∃(k next:Nat) (v:BV),(bs.length+1<=k+next/\Rm V bs m k next v.b=OU V bs pos m n true)/\aa.at g b2 m 0 v.p v.b.length v.c none 0 0/\iR g v.p v.b.length v.c 1 (bc v.b)/\(∀y,aQ v.p y->h4.size<=y)/\Gk g r p c bs next left/\Fr (λy=>y=r\/y=b2) h4 g/\v.b.length<=next,λg=>bs.length+1 - FW g r,
   ⟨bs.length+1,pos,⟨none,0, []⟩,⟨by omega,rfl⟩,fI,.nil rfl rfl rfl rfl,(λy ⟨a,e,_⟩=>by cases e),H4,Fr.refl _ _,cj _⟩,?_⟩
  rintro g ⟨k,next,v,⟨hkn,xM⟩,g2,ov,nv,Hg,fg,hv⟩;have hng:=Hg.pos;have agG:=fg.get CX (by omega);have hbg:=fg.get ma (by omega);obtain⟨k,rfl⟩: ∃k',k=k'+1:=⟨k - 1,by omega⟩;refine Ya Hg (λh9 he jc H9 f9=>⟨_,rfl,?_⟩) (λhe=>⟨_,rfl,?_⟩);all_goals unfold Rm at xM;simp only[he,bA,aA,aU] at xM
  ·rw[dL];exact fin h9 v (next+1) (f9.get g2 (by omega)) (f9.get agG (by omega)) (BV.wL (ov.frame f9 (λy hy e=>by have:=nv y hy;omega)) nv) xM.symm H9 (fg.trans f9 (λ_ _=>id) (λ_ _=> .inl))
  ·rw[jy];refine Ll Hg (λvj m' n' aiA o' hh H10 f10=>⟨_,_,_,rfl,bg.new λb3 mE LP kR f12=>aK.of λJ hJ=>⟨_,af kR rfl,_,af (f12.get (f10.get hbg (by omega)) id) rfl,?_⟩⟩) (λvj e hh f10=>kE vj e (by rw[<-xM,hh]) ?_)
   ·obtain⟨hnx,hnl,hn',_⟩:=JO hh;rw[hh] at xM;dsimp only at xM;have H12:=H10.on f12;have aos:Fr (λy=>y=r\/y=b2) h4 mE:=(fg.trans f10 (λ_ _=>id) (λ_ _=> .inl)).on f12;have zg:=fg.1;have z10:=f10.1;have g12:aa.at mE b2 m 0 v.p v.b.length v.c none 0 0:=f12.get (f10.get g2 (by omega)) id;have o12:=(ov.frame f10 (λy hy e=>by have:=nv y hy;omega)).frame f12 (λ_ _=>id);have PF:Fr (λy=>y=r) h mE:=(Fr.no F4 aos).mono (λx hx e=>by omega);have U12:Fr No h0 mE:=u.fresh PF (λy e=>by omega);have done: ∀g3,Fr No mE g3->(m'=m/\o'=false)->J g3:=by
     intro g3 f3 hmo;rw[ag hmo] at xM;subst hJ;refine⟨_,_,_,af (f3.get g12 id) rfl,bg.ld (f3.get kR id) (SK U (U12.tt f3) (H12.on f3) hn' (λDv w pw okw lw le H14 f14=>⟨_,_,_,rfl,af (f14.get (f3.get g12 id) (by omega)) rfl,?_⟩) (λDv e pe f14=>kE Dv e (by rw[<-xM,pe]) (PF.on (f3.tt f14))))⟩;have o14:=(o12.frame f3 (λ_ _=>id)).frame f14 (λy hy e=>by have:=nv y hy;omega);have lv:v.b.length<=1000000:=by omega
     refine fQ vf.tU vf.uU o14 okw.row (by rw[sU,cN]) (Cg w.b) (by omega) (by omega) ?_;intro p' c' GY Mq _ f15 g15;rw[<-su] at Mq;have z12:=f12.1;have z3:=f3.1;have z14:=f14.1;refine⟨_,_,_,rfl,bL (f15.get (f14.get (f3.get g12 id) (by omega)) (λhy=>by have:=nv _ hy;omega)) (by show 2<4;omega) λvY d1 d2 d3=>⟨rfl,?_,?_⟩⟩
     ·have f16:Fr (λy=>y=b2) GY vY:=Fr.of_eq d2 (λc hc=>d3 c hc);have n15: ∀y,aQ p' y->h4.size<=y:=λy hy=>by
       rcases g15 y hy with a|a
       ·exact nv y a
       ·omega
      have H15:=H14.frame f15 (λhy=>by have:=nv _ hy;omega) (λy hy e AU=>by have:=nv _ AU;have:=GF y hy e;omega);rw[pw] at xM;refine⟨k,aiA+n',⟨p',c',v.b++w.b⟩,⟨by omega,xM⟩,by rw[aF];exact d1,by rw[aF];exact Mq.frame f16 (λy hy e=>by have:=n15 y hy;omega),n15,H15.frame f16 (by omega) (λy hy e he=>by have:=GF y hy e;omega),?_,by rw[aF];omega⟩;have a1:Fr (λy=>y=r\/y=b2) h4 Dv:=(aos.on f3).trans f14 (λ_ _=>id) (λ_ _=> .inl);have a2:Fr (λy=>y=r\/y=b2) h4 GY:=a1.trans f15 (λ_ _=>id) (λx hx hy=>by have:=nv x hy;omega);exact a2.trans f16 (λ_ _=>id) (λ_ _=> .inr)
     ·have e16:FW vY r=aiA+n':=by
       have H15:=H14.frame f15 (λhy=>by have:=nv _ hy;omega) (λy hy e AU=>by have:=nv _ AU;have:=GF y hy e;omega);exact(H15.frame (Fr.of_eq (S:=λy=>y=b2) d2 (λc hc=>d3 c hc)) (by omega) (λy hy e he=>by have:=GF y hy e;omega)).FW
      show bs.length+1 - FW vY r<bs.length+1 - FW g r;rw[e16,Hg.FW];omega
    split
    ·rename_i q;have em:m'=m:=by have:=eq_of_beq q;omega
     refine⟨_,af kR rfl,lJ (λho=>⟨rfl,rfl,done mE (Fr.refl _ _) ⟨em,by cases o' with|true=>cases ho|false=>rfl⟩⟩) (λho=>kE mE 3 (by rw[<-xM,ai (λe=>by rw[e.2] at ho;cases ho)]) PF)⟩
    ·rename_i q;exact lJ (λe=>absurd e (by decide)) (λ_=>kE mE 3 (by rw[<-xM,ai (λe=>q (by rw[e.1];simp))]) PF)
   ·exact((Fr.no F4 fg).on f10).mono (λx hx e=>by omega)
theorem tI:Ao Tryz.prog T.cE T.aa 4 64 (.agg #[.I 0,.U 0,.Z,.Z]):=⟨by kernel_rfl,by kernel_rfl,rfl⟩
theorem uI:Tryz.prog.underlying T.cE=some (.slice T.aa):=by kernel_rfl
theorem zW (x:CV): ∀v∈mJ x,jg v=true:=by
 intro v hv;simp only[bP,List.not_mem_nil,or_false] at hv;rcases hv with rfl|rfl|rfl|rfl<;>rfl
theorem kM: ∀(ts:List Tr),9*ts.length<=dY ts
 | []=>cj _
 | .mk k n b l::ts=>by
  have:=kM ts;simp only[dY,room,bj];omega
def Vw (V:List UInt8->Bool) (h0:aj) (r:Nat) (p:bU) (c:Nat) (bs:List UInt8) (lv:Nat):Prop:= ∀(h:aj) (pos left:Nat) (R E:iI),Fr No h0 h->Gk h r p c bs pos left->
 (∀h' (t:Tr) (x:CV) (next left':Nat),lL V bs lv pos left=.ok (t,next,left')->kT h' (λy=>h.size<=y) t x->Gk h' r p c bs next left'->Fr (λy=>y=r) h h'->R x.agg h')->
 (∀h' e,lL V bs lv pos left=.error e->Fr (λy=>y=r) h h'->E (flt e) h')->mH Tryz.prog F.ig #[.pointer (some ⟨r,0,none⟩),.int .i64 (7 - (lv:Int))] h R E
structure Lst (h4 g:aj) (r b2:Nat) (p:bU) (c:Nat) (bs:List UInt8) (pos next left:Nat) (ts:List Tr) (ys:List CV) (q:bU) (cl:Nat):Prop where
 dE:aa.at g b2 4 0 none 0 0 q ys.length cl
 own:iR g q ys.length cl 4 (ys.flatMap mJ)
 ge: ∀y,aQ q y->h4.size<=y
 tr:dG g (λy=>h4.size<=y/\¬aQ q y) ts ys
 room:dY ts<=10*(next - pos)
 le:pos<=next
 rd:Gk g r p c bs next left
 fr:Fr (λy=>y=r\/y=b2) h4 g
theorem adY {h4 g:aj} {b2 next lv:Nat} {ts:List Tr} {ys:List CV} {q:bU} {cl:Nat} {deep:Int} {Φ:aj->Prop} (IH:Vw V h0 r p c bs lv) (u4:Fr No h0 h4) (hr0:h0.size<=r) (r4:r<h4.size) (b4:b2<h4.size) (rb:r≠b2) (b0:h0.size<=b2) (hd:deep=6 - (lv:Int)) (hlv:lv<=6)
  (rows: ∀y,aQ p y->bs≠ []->y<h4.size/\y≠b2)
  (L:Lst h4 g r b2 p c bs pos next left ts ys q cl)
  (hk: ∀g' next' left' t QQ q' DN,lL V bs lv next left=.ok (t,next',left')->Lst h4 g' r b2 p c bs pos next' left' (ts++ [t]) QQ q' DN->next<next'->Φ g') (kE: ∀h' e,lL V bs lv next left=.error e->Fr (λy=>y=r\/y=b2) h4 h'->E (flt e) h'):
  ∃(tG:bU) (sJ ud:Nat),ak g (AA b2 3)=some (.slice tG sJ ud)/\
  Ce F.ig #[.P r 0,.I (IntKind.wrap .i64 (deep+1))] g (λeJ cW=>
  ∃(zF vI:Int) (yj:bU) (ym yo:Nat) (FR:bU) (FU FV:Nat),eJ=.agg #[.I zF,.U vI,.slice yj ym yo,.slice FR FU FV]/\
  ak cW (AA b2 3)=some (.slice tG sJ ud)/\
  aV cW (.cells #[.I zF,.U vI,.slice yj ym yo,.slice FR FU FV] T.aa) λjQ dA=>
  ak dA (AA b2 3)=some (.slice tG sJ ud)/\
  aX Tryz.prog (Builtin.append_ #[T.cE,T.cE] T.cE #[.slice tG sJ ud,.slice (some (AA jQ 0)) 1 1]) dA λgR fc=>
  ∃(vd:bU) (ua vF:Nat),gR=.slice vd ua vF/\
  aH fc (AA b2 3) (.slice vd ua vF) λcP=>Φ cP) E:=by
 have zg:=L.fr.1;have hlen:=L.rd.len;have hp:=L.rd.pos;have hle:=L.le;have ll:ys.length<=2000000:=by
  have h1:=kM ts;have h2:=L.room;have h3:=L.tr.len;omega
 refine⟨_,_,_,af L.dE rfl,?_⟩;rw[bK (n:=deep+1) (by omega) (by omega)];rw[show deep+1=7 - (lv:Int) by omega];refine IH g next left _ E (u4.fresh L.fr (λy e=>by omega)) L.rd (λh7 t x Ec Ed hi tx H7 f7=> ?_) (λh7 e hi f7=>kE h7 e hi (L.fr.trans f7 (λ_ _=>id) (λ_ _=> .inl)));obtain⟨rx,lx,_,_⟩:=Rn lv _ _ _ _ _ L.rd.pos hi;have z7:=f7.1;have b7:=f7.get L.dE (by omega);refine⟨_,_,_,_,_,_,_,_,rfl,af b7 rfl,aa.box λb3 h8 LP kR f8=>⟨af (f8.get b7 id) rfl,?_⟩⟩;have z8:=f8.1;have o8:=(L.own.frame f7 (λy hy e=>by have:=L.ge y hy;omega)).frame f8 (λ_ _=>id);have q7: ∀y,aQ q y->y<g.size:=λy hy=>L.own.gm hy
 refine fQ tI uI o8 (ds:=mJ x) (.inr ⟨_,rfl,aa.held kR⟩) rfl (zW x) (by omega) (by omega) λq' DN h9 o9 _ f9 g9=>⟨_,_,_,rfl,?_⟩
 have z9:=f9.1;have nq: ∀y,aQ q y->h4.size<=y:=L.ge;have b9:=f9.get (f8.get b7 id) (λhy=>by have:=nq _ hy;omega);refine bL b9 (by show 3<4;omega) λvj d1 d2 d3=> ?_
 have f10:Fr (λy=>y=b2) h9 vj:=Fr.of_eq d2 (λc hc=>d3 c hc);have nq': ∀y,aQ q' y->h4.size<=y:=λy hy=>by
  rcases g9 y hy with a|a
  ·exact nq y a
  ·omega
 have ef:ys.flatMap mJ++mJ x=(ys++ [x]).flatMap mJ:=by rw[dI];simp
 have H9:=(H7.on f8).frame f9 (λhy=>by have:=nq _ hy;omega) (λy hy e AU=>by have:=nq _ AU;have:=(rows y hy e).1;omega);refine hk vj Ec Ed t (ys++ [x]) q' DN hi ⟨?_,?_,nq',?_,?_,by omega,H9.frame f10 (by omega) (λy hy e he=>(rows y hy e).2 he),?_⟩ lx
 ·rw[aF];exact d1
 ·rw[aF,<-ef];exact o9.frame f10 (λy hy e=>by have:=nq' y hy;omega)
 ·have t1:=((L.tr.lt.frame f7 (λy hy e=>by omega)).frame f8 (λ_ _=>id)).frame f9 (λy hy AU=>hy.1.2 AU);have t2:=tx.lt.mono (D':=λy=>g.size<=y/\y<h7.size) (λ_=>id);have t2:=(t2.on f8).mono (D':=λy=>g.size<=y/\y<h7.size) (λ_=>id);have t2:=kT.frame f9 (λy hy AU=>by have:=q7 y AU;omega) t2;have m1:=dG.mono (D':=λy=>h4.size<=y/\¬aQ q' y) (λy hy=>⟨hy.1.1,λAU=>by
   rcases g9 y AU with a|a
   ·exact hy.1.2 a
   ·have:=hy.2;omega⟩) t1
  have m2:=kT.mono (D':=λy=>h4.size<=y/\¬aQ q' y) (λy hy=>⟨by omega,λAU=>by
   rcases g9 y AU with a|a
   ·have:=q7 y a;omega
   ·omega⟩) t2
  exact dG.frame f10 (λy hy e=>by omega) (m1.snoc m2)
 ·rw[mP];have:=L.room;simp only[dY];omega
 ·have a1:=(L.fr.trans f7 (S'':=λy=>y=r\/y=b2) (λ_ _=>id) (λ_ _=> .inl)).on f8;have a2:=a1.trans f9 (S'':=λy=>y=r\/y=b2) (λ_ _=>id) (λx hx hy=>by have:=nq x hy;omega);exact a2.trans f10 (λ_ _=>id) (λ_ _=> .inr)
theorem agH {lv m n : Nat} {o : Bool} {deep : Int} (IH : Vw V h0 r p c bs lv) (u : Fr No h0 h) (hr : h0.size ≤ r) (H : Gk h r p c bs pos left) (hd : deep = 6 - (lv : Int)) (hlv : lv ≤ 6) (hn : n < 18446744073709551616)
    (k1 : ∀ h' (ts : List Tr) (x : CV) (next left' : Nat), x4 bs (lL V bs lv) pos left n o = .ok (ts, next, left') → kT h' (λy => h.size ≤ y) (.mk 4 0 [] ts) x → Gk h' r p c bs next left' → Fr (λy => y = r) h h' → R x.agg h')
    (kE : ∀ h' e, x4 bs (lL V bs lv) pos left n o = .error e → Fr (λy => y = r) h h' → E (flt e) h') : mH Tryz.prog F.lY #[.pointer (some ⟨r, 0, none⟩), .agg #[.int .i64 (m : Int), .int .u64 (n : Int), .bool o], .int .i64 deep] h R E := by
  refine lY.walk (bg.box λb h1 eb hb f1 => aa.box λb1 h2 uf dw f2 => aa.new λb2 h4 FE fI f4 => ⟨_, af ((f2.tt f4).get hb id) rfl, ?_⟩)
  have zr := aI H.dE
  have zb := aI hb
  have PT := aI dw
  have zb2 := aI fI
  have z0 := u.1
  have z1 := f1.1
  have z2 := f2.1
  have z4 := f4.1
  have F4 := f1.tt (f2.tt f4)
  have H4 := H.on F4
  have ma := (f2.tt f4).get hb id
  have CX := f4.get dw id
  have hlen := H.len
  have Ue := H.pos
  have rows : ∀ y, aQ p y → bs ≠ [] → y < h4.size ∧ y ≠ b2 := λy hy e => by
    have := qN H.row (by cases hbs : bs with | nil => exact absurd hbs e | cons => simp [bc]) hy
    omega
  have toE : ∀ g e, x4 bs (lL V bs lv) pos left n o = .error e → Fr (λy => y = r ∨ y = b2) h4 g → E (flt e) g := λg e hx fg => kE g e hx ((Fr.no F4 fg).mono (λx hx q => by omega))
  have fin : ∀ g next left' ts ys q cl, Lst h4 g r b2 p c bs pos next left' ts ys q cl → x4 bs (lL V bs lv) pos left n o = .ok (ts, next, left') →
      aa.LD g ⟨b2, 0, none⟩ λt0 t1 TG TH TI t3p t3l t3c => aa.ST g ⟨b1, 0, none⟩ t0 t1 TG TH TI t3p t3l t3c λh7 => aa.LD h7 ⟨b1, 0, none⟩ λr0 r1 r2p r2l r2c r3p r3l r3c => R (.agg #[.int .i64 r0, .int .u64 r1, .slice r2p r2l r2c, .slice r3p r3l r3c]) h7 := by
    intro g next left' ts ys q cl L hx
    refine aa.ld L.dE (aa.set (L.fr.get CX (by omega)) λh7 d1 d2 d3 => aa.ld d1 ?_)
    have f7 : Fr (λy => y = b1) g h7 := Fr.of_eq d2 (λc hc => d3 c hc)
    have o7 := L.own.frame f7 (λy hy e => by have := L.ge y hy; omega)
    have t7 := dG.frame f7 (λy hy e => by omega) L.tr
    refine k1 h7 ts ⟨4, 0, ⟨none, 0, []⟩, q, ys.length, cl⟩ next left' hx ?_ (L.rd.frame f7 (by omega) (λy hy e he => by
      have := qN H.row (by cases hbs : bs with | nil => exact absurd hbs e | cons => simp [bc]) hy; omega)) ?_
    · unfold kT
      exact ⟨⟨rfl, rfl, rfl, ⟨Row.nil, λe => absurd rfl e, Nat.le_refl _⟩⟩, ys, ⟨rfl, o7.pZ, λ_ y hy => by have := L.ge y hy; omega, o7.le⟩, dG.mono (λy hy => by omega) t7⟩
    · exact ((Fr.no F4 L.fr).trans f7 (S'' := λy => y = r) (λx hx e => by omega) (λx hx e => by omega))
  have L0 : Lst h4 h4 r b2 p c bs pos pos left [] [] none 0 := ⟨fI, .nil rfl rfl rfl rfl, (λy ⟨a, e, _⟩ => by cases e), by unfold dG; trivial, by simp [dY], Nat.le_refl _, H4, Fr.refl _ _⟩
  have step := fun {g next left' ts ys q cl} {Φ : aj → Prop} (L : Lst h4 g r b2 p c bs pos next left' ts ys q cl) hk (hE : ∀ e, lL V bs lv next left' = .error e → x4 bs (lL V bs lv) pos left n o = .error e) => adY (V := V) (Φ := Φ) (E := E) (deep := deep) IH (u.tt F4) hr (by omega) zb2 (by omega) (by omega) hd hlv rows L hk (λg e hx fg => toE g e (hE e hx) fg)
  cases o with
  | true =>
    rw [if_pos rfl]
    refine ⟨λg => ∃ k next left' ts ys q cl, (bs.length + 1 ≤ k + next ∧ HE bs (lL V bs lv) k next left' ts = x4 bs (lL V bs lv) pos left n true) ∧ Lst h4 g r b2 p c bs pos next left' ts ys q cl, λg => bs.length + 1 - FW g r, ⟨_, _, _, _, _, _, _, ⟨by omega, rfl⟩, L0⟩, ?_⟩
    rintro g ⟨k, next, left', ts, ys, q, cl, ⟨hkn, xM⟩, L⟩
    have hng := L.rd.pos
    obtain ⟨k, rfl⟩ : ∃ k', k = k' + 1 := ⟨k - 1, by omega⟩
    refine Ya L.rd (λh6 he jc H6 f6 => ⟨_, rfl, ?_⟩) (λhe => ⟨_, rfl, ?_⟩)
    all_goals unfold HE at xM; simp only [he, if_true, Bool.false_eq_true, if_false] at xM
    · rw [if_neg (by decide)]
      have t6 := dG.frame f6 (λy hy e => by omega) L.tr
      refine fin h6 (next + 1) left' ts ys q cl ⟨f6.get L.dE (by omega), L.own.frame f6 (λy hy e => by have := L.ge y hy; omega), L.ge, t6, by have := L.room; have := L.le; omega, by have := L.le; omega, H6, L.fr.trans f6 (λ_ _ => id) (λ_ _ => .inl)⟩ xM.symm
    · rw [if_pos (by decide)]
      refine step L (λg' next' Ed t QQ q' DN hi L' jc => ⟨rfl, ⟨k, _, _, _, _, _, _, ⟨by omega, by rw [hi] at xM; exact xM⟩, L'⟩, ?_⟩) (λe hi => by rw [← xM, hi])
      show bs.length + 1 - FW g' r < bs.length + 1 - FW g r
      rw [L'.rd.FW, L.rd.FW]
      have := L'.rd.pos
      omega
  | false =>
    rw [if_neg (by decide)]
    refine ⟨_, af ma rfl, _, _, _, af H4.dE rfl, _, af H4.dE rfl, ?_⟩
    rw [bK (n := ((bs.length : Nat) : Int) - (pos : Int)) (by omega) (by omega), wrap_u64 (by omega) (by omega)]
    refine lJ (λhq => ?_) (λhq => toE h4 8 (by have := of_decide_eq_false hq; unfold x4; dsimp only; rw [if_neg (by omega)]) (Fr.refl _ _))
    have hq : pos + n ≤ bs.length := by have := of_decide_eq_true hq; omega
    refine ⟨rfl, af H4.dE rfl, af H4.dE rfl, af ma rfl, _, af ma rfl, ?_⟩
    have e0 : x4 bs (lL V bs lv) pos left n false = Fa (lL V bs lv) n pos left [] := by unfold x4; dsimp only; rw [if_pos (by omega)]
    refine ⟨λt g => ∃ i next left' ts ys q cl, t = ((i : Nat) : Int) ∧ i ≤ n ∧ Fa (lL V bs lv) (n - i) next left' ts = x4 bs (lL V bs lv) pos left n false ∧ Lst h4 g r b2 p c bs pos next left' ts ys q cl, λt _ => n - t.toNat, ⟨0, _, _, _, _, _, _, rfl, Nat.zero_le _, e0.symm, L0⟩, ?_⟩
    rintro _ g ⟨i, next, left', ts, ys, q, cl, rfl, hi, xM, L⟩
    by_cases nQ : i < n
    · rw [if_pos (decide_eq_true (by omega))]
      rw [show n - i = (n - (i + 1)) + 1 by omega] at xM
      unfold Fa at xM
      refine step L (λg' next' Ed t QQ q' DN hi2 L' jc => ⟨rfl, ?_, ?_⟩) (λe hi2 => by rw [← xM, hi2])
      · rw [wrap_u64 (n := (i : Int) + 1) (by omega) (by omega)]
        exact ⟨i + 1, _, _, _, _, _, _, by omega, by omega, by rw [hi2] at xM; exact xM, L'⟩
      · rw [wrap_u64 (n := (i : Int) + 1) (by omega) (by omega)]
        show n - Int.toNat ((i : Int) + 1) < n - Int.toNat (i : Int)
        omega
    · rw [if_neg (λe => nQ (by have := of_decide_eq_true e; omega))]
      rw [show n - i = 0 by omega] at xM
      exact fin g next left' ts ys q cl L xM.symm
theorem adZ (U:xP V h0) (hr:h0.size<=r): ∀lv,lv<=6->Vw V h0 r p c bs lv:=by
 intro lv;induction lv with
 |zero=>
  intro _ h pos left R E u H k1 kE;refine ig.walk (aa.box λb h1 eb hb f1=>Ll (H.on f1) (λh2 m n next o hh H2 f2=>⟨_,_,_,rfl,bg.new λb1 h4 uf dw f4=>aK.of λJ hJ=> ?_⟩) (λh2 e hh f2=>kE h2 e (by unfold lL;rw[hh]) ((f1.tt f2).mono λ_ _=>False.elim)));have z1:=f1.1;have zr:=aI H.dE;have F4:Fr (λy=>y=r) h h4:=(Fr.no f1 f2).on f4;have done:(m=0\/m=2\/m=3\/m=4)->J h4:=by
   intro hm;subst hJ;exact lJ (λhdp=>absurd hdp (by decide)) (λ_=>kE h4 9 (by unfold lL;rw[hh];dsimp only;rw[ag hm]) F4)
  refine⟨_,af dw rfl,?_⟩;split
  ·rename_i q;exact lJ (λ_=>⟨rfl,rfl,done (.inl (by have:=eq_of_beq q;omega))⟩) (λe=>absurd e (by decide))
  rename_i q0;refine⟨_,af dw rfl,?_⟩;split
  ·rename_i q;exact lJ (λ_=>⟨rfl,rfl,done (.inr (.inl (by have:=eq_of_beq q;omega)))⟩) (λe=>absurd e (by decide))
  rename_i q2;refine⟨_,af dw rfl,?_⟩;split
  ·rename_i q;exact lJ (λ_=>⟨rfl,rfl,done (.inr (.inr (.inl (by have:=eq_of_beq q;omega))))⟩) (λe=>absurd e (by decide))
  rename_i q3;refine⟨_,af dw rfl,?_⟩;refine lJ (λq=>⟨rfl,rfl,done (.inr (.inr (.inr (by have:=eq_of_beq q;omega))))⟩) (λq=>kE h4 3 (by unfold lL;rw[hh];dsimp only;rw[ai];rintro(rfl|rfl|rfl|rfl)<;>first|exact q0 rfl|exact q2 rfl|exact q3 rfl|exact absurd q (by decide)) F4)
 |succ lv IH=>
  intro hlv h pos left R E u H k1 kE;have IH:=IH (by omega);have zr:=aI H.dE;refine ig.walk (aa.box λb h1 eb hb f1=>Ll (H.on f1) (λh2 m n next o hh H2 f2=>⟨_,_,_,rfl,bg.new λb1 h4 uf dw f4=>aK.of λJ hJ=> ?_⟩) (λh2 e hh f2=>kE h2 e (by unfold lL;rw[hh]) ((f1.tt f2).mono λ_ _=>False.elim)));obtain⟨jc,_,hn,_⟩:=JO hh;have hX:lL V bs (lv+1) pos left=lL V bs (lv+1) pos left:=rfl;conv at hX=>rhs;unfold lL;rw[hh]
  dsimp only at hX;have zb:=aI hb;have PT:=aI dw;have z1:=f1.1;have z2:=f2.1;have z4:=f4.1;have hp:=H.pos;have JE:=H2.pos;have ahT:=H2.left;have F4:Fr (λy=>y=r) h h4:=(Fr.no f1 f2).on f4;have U4:Fr No h0 h4:=u.fresh F4 (λy e=>by omega);have H4:=H2.on f4;have ma:=f4.get (f2.get hb (by omega)) id;have GF: ∀y,aQ p y->bs≠ []->y<h.size:=λy hy e=>qN H.row (by cases hbs:bs with|nil=>exact absurd hbs e|cons=>simp[bc]) hy
  have lay: ∀g (t:Tr) (x:CV) Ec Ed,aa.at g b 0 0 none 0 0 none 0 0->kT g (λy=>h1.size<=y) t x->lL V bs (lv+1) pos left=.ok (t,Ec,Ed)->Gk g r p c bs Ec Ed->Fr (λy=>y=r) h g->
    aa.ST g (AA b 0) x.k (x.n:Int) x.v.p x.v.b.length x.v.c x.q x.ll x.cl λh9=>aa.LD h9 (AA b 0) λr0 r1 r2p r2l r2c r3p r3l r3c=>R (.agg #[.I r0,.U r1,.slice r2p r2l r2c,.slice r3p r3l r3c]) h9:=by
   intro g t x Ec Ed gb tx rx Hg fg;refine aa.set gb λh9 d1 d2 d3=>aa.ld d1 ?_
   have f9:Fr (λy=>y=b) g h9:=Fr.of_eq d2 (λc hc=>d3 c hc);exact k1 h9 t x Ec Ed rx (kT.mono (λy hy=>by omega) (kT.frame f9 (λy hy e=>by omega) tx)) (Hg.frame f9 (by omega) (λy hy e he=>by have:=GF y hy e;omega)) (fg.trans f9 (λ_ _=>id) (λx hx e=>by omega))
  have done:(m=0\/m=2\/m=3\/m=4)->J h4:=by
   intro hm;rw[ag hm] at hX;subst hJ;refine lJ (λ_=>⟨rfl,_,af H4.dE rfl,lJ (λhl=>⟨rfl,_,af H4.dE rfl,bL H4.dE (by show 2<3;omega) λh8 d1 d2 d3=> ?_⟩) (λhl=>kE h4 2 (by rw[hX,ag (by have:=of_decide_eq_false hl;omega)]) F4)⟩) (λhdp=>absurd (of_decide_eq_false hdp) (by omega));have hl:=of_decide_eq_true hl;rw[dL] at hX;rw[bK (n:=(left:Int) - 1) (by omega) (by omega),show(left:Int) - 1=((left - 1:Nat):Int) by omega] at d1;obtain⟨H8,f8⟩:=H4.set (pos':=next) (left':=left - 1) JE (by omega) d1 d2 d3;have aa0:=f8.get dw (by omega);have hb8:=f8.get ma (by omega);have F8:Fr (λy=>y=r) h h8:=F4.tt f8;have U8:Fr No h0 h8:=u.fresh F8 (λy e=>by omega);have z8:=f8.1;refine⟨_,af aa0 rfl,?_⟩;split
   ·rename_i q;rw[ag (by have:=eq_of_beq q;omega)] at hX;refine⟨_,af aa0 rfl,?_⟩;refine lay h8 (.mk 0 n [] []) ⟨0,n,⟨none,0, []⟩,none,0,0⟩ next (left - 1) hb8 ?_ hX H8 F8;unfold kT;exact⟨⟨rfl,rfl,rfl,⟨Row.nil,λe=>absurd rfl e,bh _⟩⟩, [],⟨rfl,Row.nil,λe=>absurd rfl e,bh _⟩,by unfold dG;trivial⟩
   ·rename_i q0;rw[ai (λe=>q0 (by rw[e];rfl))] at hX;split
    ·rename_i q;have m4:m=4:=by have:=eq_of_beq q;omega
     rw[ag m4] at hX;refine bg.ld aa0 (agH IH U8 hr H8 (by omega) (by omega) hn (λvj ts x Ec Ed hL tx H10 f10=>⟨_,_,_,_,_,_,_,_,rfl,?_⟩) (λvj e hL f10=>kE vj e (by rw[hX,hL]) (F8.tt f10)));exact lay vj (.mk 4 0 [] ts) x Ec Ed (f10.get hb8 (by omega)) (kT.mono (λy hy=>by omega) tx) (by rw[hX,hL]) H10 (F8.tt f10)
    ·rename_i q;rw[ai (λe=>q (by rw[e];rfl))] at hX;refine bg.ld aa0 (aaZ U U8 hr H8 hn (λmE x sb Ec hS tx H12 f12=>⟨_,_,_,_,_,_,_,_,rfl,?_⟩) (λmE e hS f12=>kE mE e (by rw[hX,hS]) (F8.tt f12)));exact lay mE (.mk m 0 sb []) x Ec (left - 1) (f12.get hb8 (by omega)) (kT.mono (λy hy=>by omega) tx) (by rw[hX,hS]) H12 (F8.tt f12)
  refine⟨_,af dw rfl,?_⟩;split
  ·rename_i q;exact lJ (λ_=>⟨rfl,rfl,done (.inl (by have:=eq_of_beq q;omega))⟩) (λe=>absurd e (by decide))
  rename_i q0;refine⟨_,af dw rfl,?_⟩;split
  ·rename_i q;exact lJ (λ_=>⟨rfl,rfl,done (.inr (.inl (by have:=eq_of_beq q;omega)))⟩) (λe=>absurd e (by decide))
  rename_i q2;refine⟨_,af dw rfl,?_⟩;split
  ·rename_i q;exact lJ (λ_=>⟨rfl,rfl,done (.inr (.inr (.inl (by have:=eq_of_beq q;omega))))⟩) (λe=>absurd e (by decide))
  rename_i q3;refine⟨_,af dw rfl,?_⟩;refine lJ (λq=>⟨rfl,rfl,done (.inr (.inr (.inr (by have:=eq_of_beq q;omega))))⟩) (λq=>kE h4 3 (by rw[hX,ai];rintro(rfl|rfl|rfl|rfl)<;>first|exact q0 rfl|exact q2 rfl|exact q3 rfl|exact absurd q (by decide)) F4)
theorem aa1 {c0 c1 c2:Nat} {K:Option Value->aj->Prop} (hk: ∀h',Fr No h h'->K none h'):Cj Tryz.prog F.lM #[.P c0 0,.P c1 0,.P c2 0] none h K:=by
 refine lM.ret.walk (cX (HD (by decide) (hk _ (Fr.push _ _))))
theorem aa2 {c0 c1 c2:Nat} {e g0 g1:Int} {g2p g3p:bU} {g2l g2c g3l g3c:Nat} {n0 e0:Int} {K:Option Value->aj->Prop} (h0:aa.at h c0 g0 g1 g2p g2l g2c g3p g3l g3c) (h1:h[c1]? =some (.cells #[.I n0] T.int (0,0))) (h2:h[c2]? =some (.cells #[.I e0] T.uy (0,0))) (n01:c0≠c1) (n02:c0≠c2) (n12:c1≠c2)
  (hk: ∀h',aa.at h' c0 0 0 none 0 0 none 0 0->h'[c1]? =some (.cells #[.I 0] T.int (0,0))->h'[c2]? =some (.cells #[.I e] T.uy (0,0))->Fr (λy=>y=c0\/y=c1\/y=c2) h h'->K none h'):
  Cj Tryz.prog F.lM #[.P c0 0,.P c1 0,.P c2 0] (some (flt e)) h K:=by
 refine lM.xN.walk (cX (HD (by decide) ?_));have fb:Fr No h (h.push (.cells (#[Value.I 0].setIfInBounds 0 (.I e)) T.oO (0,0))):=Fr.push _ _;have hb:(h.push (.cells (#[Value.I 0].setIfInBounds 0 (.I e)) T.oO (0,0)))[h.size]? =some (.cells #[.I e] T.oO (0,0)):=cz;have z0:=aI h0;have z1:=aI h1;have z2:=aI h2;generalize h.push (.cells (#[Value.I 0].setIfInBounds 0 (.I e)) T.oO (0,0))=g at fb hb⊢;refine⟨_,af hb rfl,aa.set (fb.get h0 id) λg1 d1 d2 d3=> ?_⟩;have f1:Fr (λy=>y=c0) g g1:=Fr.of_eq d2 (λc hc=>d3 c hc);refine⟨af (f1.get hb (by omega)) rfl,bL (f1.get (fb.get h1 id) (by omega)) (by show 0<1;omega) λg2 a1 a2 a3=> ?_⟩;have f2:Fr (λy=>y=c1) g1 g2:=Fr.of_eq a2 (λc hc=>a3 c hc);refine⟨af (f2.get (f1.get hb (by omega)) (by omega)) rfl,bL (f2.get (f1.get (fb.get h2 id) (by omega)) (by omega)) (by show 0<1;omega) λg3 b1 b2 b3=> ?_⟩;have f3:Fr (λy=>y=c2) g2 g3:=Fr.of_eq b2 (λc hc=>b3 c hc);exact hk g3 (f3.get (f2.get d1 (by omega)) (by omega)) (f3.get a1 (by omega)) b1 (((Fr.no fb f1).trans f2 (S'':=λy=>y=c0\/y=c1) (λ_ _=> .inl) (λ_ _=> .inr)).trans f3 (λx _ q=>q.imp id .inl) (λ_ _ q=> .inr (.inr q)))
theorem Lm (U:xP V h) (row:Row h p (bc bs)) (hl:l=bs.length) (cap:bs.length<=c) (hlen:bs.length<=1000000)
  (k1: ∀h' (t:Tr) (x:CV) (next:Nat),A8 V bs=.ok (t,next)->kT h' (λy=>h.size<=y) t x->Fr No h h'->R (.tuple #[x.agg,.I (next:Int),.I 0]) h')
  (k2: ∀h' e,A8 V bs=.error e->Fr No h h'->R (.tuple #[CV.agg ⟨0,0,⟨none,0, []⟩,none,0,0⟩,.I 0,.I e]) h'):
  Cl F.uv #[.slice p l c,.I 0] h R:=by
 subst hl;refine mH.toH (uv.walk (aa.box λb h1 eb hb f1=>cX (cX ?_)));have zb:=aI hb;have z1:=f1.1;have f2:Fr No h1 (h1.push (.cells #[.I 0] T.int)):=Fr.push _ _;have a2:(h1.push (.cells #[.I 0] T.int))[h1.size]? =some (.cells #[.I 0] T.int (0,0)):=cz;generalize h1.push (.cells #[.I 0] T.int)=h2 at f2 a2⊢;have f3:Fr No h2 (h2.push (.cells #[.I 0] T.uy)):=Fr.push _ _;have a3:(h2.push (.cells #[.I 0] T.uy))[h2.size]? =some (.cells #[.I 0] T.uy (0,0)):=cz;have z2:=aI a2;generalize h2.push (.cells #[.I 0] T.uy)=h3 at f3 a3⊢;have z3:=aI a3;obtain⟨b1,uf⟩: ∃b1,b1=h1.size:=⟨_,rfl⟩;obtain⟨b2,FE⟩: ∃b2,b2=h2.size:=⟨_,rfl⟩;rw[<-uf] at a2;rw[<-FE] at a3;rw[<-uf,<-FE];refine aK.of λJ hJ=> ?_
 rw[dL,decide_eq_false (by omega)];refine⟨rfl,?_⟩;subst hJ;dsimp only;rw[dL];refine cX ?_;have f4:Fr No h3 (h3.push (.cells #[.slice p bs.length c,.I 0,.I 256] T.qp)):=Fr.push _ _;have a4:(h3.push (.cells #[.slice p bs.length c,.I 0,.I 256] T.qp))[h3.size]? =some (.cells #[.slice p bs.length c,.I 0,.I 256] T.qp (0,0)):=cz;generalize h3.push (.cells #[.slice p bs.length c,.I 0,.I 256] T.qp)=h4 at f4 a4⊢;obtain⟨b3,LP⟩: ∃b3,b3=h3.size:=⟨_,rfl⟩;rw[<-LP] at a4;rw[<-LP];have F3:=f2.tt f3;have F4:=F3.tt f4;have FF:=f1.tt F4;have zz2:=f2.1;have zz3:=f3.1;have GF: ∀y,aQ p y->bs≠ []->y<h.size:=λy hy e=>qN row (by cases hbs:bs with|nil=>exact absurd hbs e|cons=>simp[bc]) hy
 have H4:Gk h4 b3 p c bs 0 256:=⟨a4,row.frame FF (λ_ _=>id),cap,cj _,λe hy=>by have:=GF _ hy e;omega,hlen,by omega⟩;have ma:=F4.get hb id;have a24:=(f3.tt f4).get a2 id;have a34:=f4.get a3 id;refine adZ U (by omega) 6 (bh _) h4 0 256 _ _ FF H4 (λh9 t x next left' hi tx H9 f9=> ?_) (λh9 e hi f9=> ?_)
 ·refine⟨_,_,_,_,_,_,_,_,rfl,aa.set (f9.get ma (by omega)) λvj d1 d2 d3=>aa.ld d1 ?_⟩;have g10:Fr (λy=>y=b) h9 vj:=Fr.of_eq d2 (λc hc=>d3 c hc);have H10:=H9.frame g10 (by omega) (λy hy e he=>by have:=GF y hy e;omega);refine⟨_,af H10.dE rfl,aa.set d1 λyi e1 e2 e3=> ?_⟩;have g11:Fr (λy=>y=b) vj yi:=Fr.of_eq e2 (λc hc=>e3 c hc);refine⟨af (g11.get H10.dE (by omega)) rfl,bL (g11.get (g10.get (f9.get a24 (by omega)) (by omega)) (by omega)) (by show 0<1;omega) λmE c1 c2 c3=> ?_⟩;have g12:Fr (λy=>y=b1) yi mE:=Fr.of_eq c2 (λc hc=>c3 c hc);refine bL (g12.get (g11.get (g10.get (f9.get a34 (by omega)) (by omega)) (by omega)) (by omega)) (by show 0<1;omega) λGP m1 m2 m3=> ?_
  have g13:Fr (λy=>y=b2) mE GP:=Fr.of_eq m2 (λc hc=>m3 c hc);refine aa1 λDv f14=>aa.ld (f14.get (g13.get (g12.get e1 (by omega)) (by omega)) id) ⟨_,af (f14.get (g13.get c1 (by omega)) id) rfl,_,af (f14.get m1 id) rfl,?_⟩
  have z4:=f4.1;have t13:=kT.frame f14 (λ_ _=>id) (kT.frame g13 (λy hy e=>by omega) (kT.frame g12 (λy hy e=>by omega) (kT.frame g11 (λy hy e=>by omega) (kT.frame g10 (λy hy e=>by omega) tx))));refine k1 Dv t x next (by unfold A8;rw[hi]) (kT.mono (λy hy=>by omega) t13) ?_;exact((((((FF.fresh f9 (λy e=>by omega)).fresh g10 (λy e=>by omega)).fresh g11 (λy e=>by omega)).fresh g12 (λy e=>by omega)).fresh g13 (λy e=>by omega)).tt f14)
 ·refine aa2 (f9.get ma (by omega)) (f9.get a24 (by omega)) (f9.get a34 (by omega)) (by omega) (by omega) (by omega) λvj q1 q2 q3 g10=>aa.ld q1 ⟨_,af q2 rfl,_,af q3 rfl,?_⟩
  exact k2 vj e (by unfold A8;rw[hi]) ((FF.fresh f9 (λy e=>by omega)).fresh g10 (λy e=>by omega))
end Cb
end
section
variable {h:aj} {R:iI}
theorem fH.walk {n:Int} (hv:aV h (.cells #[.I 0,.U 0,.Z,.Z] T.aa) λb aR=>aa.ST aR (AA b 0) 0 n none 0 0 none 0 0 λaZ=>aa.LD aZ (AA b 0) λoP ia nB nC nE qx qA qB=>R (.agg #[.I oP,.U ia,.slice nB nC nE,.slice qx qA qB]) aZ):Cl F.fH #[.U n] h R:=aS (lq ll) Tryz.func205 hv
theorem qk.walk {Bf:bU} {xd Dq:Nat} (hv:aV h (.cells #[.I 0,.U 0,.Z,.Z] T.aa) λb aR=>Cl F.cu #[.slice Bf xd Dq] aR λv aZ=>Vl v λPa Mf Pb=>aa.ST aZ (AA b 0) 2 0 Pa Mf Pb none 0 0 λbJ=>aa.LD bJ (AA b 0) λoP ia nB nC nE qx qA qB=>R (.agg #[.I oP,.U ia,.slice nB nC nE,.slice qx qA qB]) bJ):Cl F.qk #[.slice Bf xd Dq] h R:=aS (lq ll) Tryz.func210 hv
theorem zc.walk {s:ByteArray} (hv:aV h (.cells #[.I 0,.U 0,.Z,.Z] T.aa) λb aR=>aX Tryz.prog (convert T.string T.dt (.string s)) aR λv aZ=>Vl v λPa Mf Pb=>aa.ST aZ (AA b 0) 3 0 Pa Mf Pb none 0 0 λbJ=>aa.LD bJ (AA b 0) λoP ia nB nC nE qx qA qB=>R (.agg #[.I oP,.U ia,.slice nB nC nE,.slice qx qA qB]) bJ):Cl F.zc #[.string s] h R:=aS (lq ll) Tryz.func255 hv
theorem mY.walk {w9:Int} {xa:Int} {nf:bU} {nh ni:Nat} {vr:bU} {vt vu:Nat} (hv:aV h (.cells #[.I w9,.U xa,.slice nf nh ni,.slice vr vt vu] T.aa) λb aR=>aV aR (.cells #[.I 0,.U 0,.Z,.Z] T.aa) λcD aZ=>Hl aZ b 2 λEy Ez EA=>Cl F.cu #[.slice Ey Ez EA] aZ λv bJ=> ∃yL vQ Az,v=.slice yL vQ Az/\aH bJ (AA b 2) (.slice yL vQ Az) λcB=> ∃Fw Bs MZ,ak cB (AA b 3)=some (.slice Fw Bs MZ)/\aH cB (AA b 3) (.Z) λcJ=> ∃(I:Int->aj->Prop) (mu:Int->aj->Nat),I 0 cJ/\∀(t15:Int) (cQ:aj),I t15 cQ->if(decide (t15<(Bs:Int))) then Bd t15 Bs/\aP Fw λa=>aa.LD cQ (a.add (toNat t15*4)) λvK vi Ps Pv Pw agI agJ agK=>aV cQ (.cells #[.I 0,.U 0,.Z,.Z] T.aa) λeY cW=>aa.ST cW (AA eY 0) vK vi Ps Pv Pw agI agJ agK λdA=>Hl dA b 3 λum tO vO=>aa.LD dA (AA eY 0) λuh ui vZ v7 v8 wa wc wg=>Cl F.mY #[.agg #[.I uh,.U ui,.slice vZ v7 v8,.slice wa wc wg]] dA λeJ fc=> ∃zL vk yq yr yt FX FY FZ,eJ=.agg #[.I zL,.U vk,.slice yq yr yt,.slice FX FY FZ]/\ak fc (AA b 3)=some (.slice um tO vO)/\aV fc (.cells #[.I zL,.U vk,.slice yq yr yt,.slice FX FY FZ] T.aa) λjQ cP=>ak cP (AA b 3)=some (.slice um tO vO)/\aX Tryz.prog (Builtin.append_ #[T.cE,T.cE] T.cE #[.slice um tO vO,.slice (some (AA jQ 0)) 1 1]) cP λgR cV=> ∃iP iy iz,gR=.slice iP iy iz/\aH cV (AA b 3) (.slice iP iy iz) λdD=>(I (wrap .i64 (t15+1)) dD/\mu (wrap .i64 (t15+1)) dD<mu t15 cQ) else aa.LD cQ (AA b 0) λBv zP PU PV PW PX PY PZ=>aa.ST cQ (AA cD 0) Bv zP PU PV PW PX PY PZ λdF=>aa.LD dF (AA cD 0) λoP ia nB nC nE qx qA qB=>R (.agg #[.I oP,.U ia,.slice nB nC nE,.slice qx qA qB]) dF):Cl F.mY #[.agg #[.I w9,.U xa,.slice nf nh ni,.slice vr vt vu]] h R:=aS (lq (lq (lq (lq (sq (lq (bq (.loop [(15,.one (.int .i64))] (lq (sq (cq lf lf) (sq (bq (lq (pN 8))) lf)))))) ll))))) Tryz.func288 hv
theorem fN.walk {Db:bU} {xQ Im:Nat} (hv:aV h (.cells #[.I 0,.U 0,.Z,.Z] T.aa) λb aR=>aV aR (.cells #[.I 0,.U 0,.Z,.Z] T.aa) λcD aZ=>aa.ST aZ (AA cD 0) 4 0 none 0 0 none 0 0 λbJ=> ∃(I:Int->aj->Prop) (mu:Int->aj->Nat),I 0 bJ/\∀(t9:Int) (cB:aj),I t9 cB->if(decide (t9<(xQ:Int))) then Bd t9 xQ/\aP Db λa=>aa.LD cB (a.add (toNat t9*4)) λCJ xi Pp Pq Pr agL agM agN=>aV cB (.cells #[.I 0,.U 0,.Z,.Z] T.aa) λeY cJ=>aa.ST cJ (AA eY 0) CJ xi Pp Pq Pr agL agM agN λcQ=>Hl cQ cD 3 λBh ve Bi=>aa.LD cQ (AA eY 0) λBu ue FB FC FD agO agP agQ=>Cl F.mY #[.agg #[.I Bu,.U ue,.slice FB FC FD,.slice agO agP agQ]] cQ λv cW=> ∃vL rO Dr Ds Dt Jn Jo Jp,v=.agg #[.I vL,.U rO,.slice Dr Ds Dt,.slice Jn Jo Jp]/\ak cW (AA cD 3)=some (.slice Bh ve Bi)/\aV cW (.cells #[.I vL,.U rO,.slice Dr Ds Dt,.slice Jn Jo Jp] T.aa) λjQ dA=>ak dA (AA cD 3)=some (.slice Bh ve Bi)/\aX Tryz.prog (Builtin.append_ #[T.cE,T.cE] T.cE #[.slice Bh ve Bi,.slice (some (AA jQ 0)) 1 1]) dA λeJ fc=> ∃qq pd rM,eJ=.slice qq pd rM/\aH fc (AA cD 3) (.slice qq pd rM) λcP=>(I (wrap .i64 (t9+1)) cP/\mu (wrap .i64 (t9+1)) cP<mu t9 cB) else aa.LD cB (AA cD 0) λuh ui vZ v7 v8 wa wc wg=>aa.ST cB (AA b 0) uh ui vZ v7 v8 wa wc wg λcV=>aa.LD cV (AA b 0) λoP ia nB nC nE qx qA qB=>R (.agg #[.I oP,.U ia,.slice nB nC nE,.slice qx qA qB]) cV):Cl F.fN #[.slice Db xQ Im] h R:=aS (lq (lq (sq (lq (bq (.loop [(9,.one (.int .i64))] (lq (sq (cq lf lf) (sq (bq (lq (pN 8))) lf)))))) ll))) Tryz.func247 hv
theorem ke.walk {a_p:bU} {a_l a_c:Nat} {Bf:bU} {xd Dq:Nat} (hv: ∃(t6:ByteArray),DP Tryz.prog T.dt T.string (.slice a_p a_l a_c) h t6/\∃(t8:ByteArray),DP Tryz.prog T.dt T.string (.slice Bf xd Dq) h t8/\R (.bool (t6.toList==t8.toList)) h):Cl F.ke #[.slice a_p a_l a_c,.slice Bf xd Dq] h R:=aS (lq ll) Tryz.func82 hv
theorem iB.walk {a_0:Int} {ku:Int} {aiB:bU} {aiC aiD:Nat} {aiE:bU} {aiF aiG:Nat} {b_0:Int} {cD:Int} {aiH:bU} {aiI aiJ:Nat} {aiK:bU} {aiL aiM:Nat} (hv:aV h (.cells #[.I a_0,.U ku,.slice aiB aiC aiD,.slice aiE aiF aiG] T.aa) λb aR=>aV aR (.cells #[.I b_0,.U cD,.slice aiH aiI aiJ,.slice aiK aiL aiM] T.aa) λcD aZ=>Hi aZ b 0 λt6=> ∃t8,ak aZ (AA cD 0)=some (.I t8)/\if(t6==t8) then Hu aZ b 1 λt12=> ∃t14,ak aZ (AA cD 1)=some (.U t14)/\if(t12==t14) then Hl aZ b 2 λCH zK CI=>Hl aZ cD 2 λvd ua vF=>Cl F.ke #[.slice CH zK CI,.slice vd ua vF] aZ λv bJ=> ∃t22,v=.bool t22/\if t22 then Hl bJ b 3 λx9 rE ya=>Hl bJ cD 3 λBj zC Fk=>Cl F.di #[.slice x9 rE ya,.slice Bj zC Fk,.func (.func F.iB) #[] #[]] bJ λeJ cB=> ∃t29,eJ=.bool t29/\R (.bool t29) cB else R (.bool false) bJ else R (.bool false) aZ else R (.bool false) aZ):Cl F.iB #[.agg #[.I a_0,.U ku,.slice aiB aiC aiD,.slice aiE aiF aiG],.agg #[.I b_0,.U cD,.slice aiH aiI aiJ,.slice aiK aiL aiM]] h R:=aS (lq ll) Tryz.func248 hv
theorem di.same.walk {aot:bU} {agR aqS:Nat} {aou:bU} {akH aqT:Nat} (hv:if((agR:Int) !=(akH:Int)) then R (.bool false) h else∃(I:Int->aj->Prop) (mu:Int->aj->Nat),I 0 h/\∀(t17:Int) (aR:aj),I t17 aR->if(decide (t17<(agR:Int))) then Bd t17 agR/\aP aot λa=>aa.LD aR (a.add (toNat t17*4)) λuh ui vZ v7 v8 wa wc wg=>aV aR (.cells #[.I 0,.U 0,.Z,.Z] T.aa) λb aZ=>aa.ST aZ (AA b 0) uh ui vZ v7 v8 wa wc wg λbJ=>Bd t17 akH/\aP aou λku=>aa.LD bJ (ku.add (toNat t17*4)) λKN Ln agS agT agU agV agW agX=>aV bJ (.cells #[.I 0,.U 0,.Z,.Z] T.aa) λcD cB=>aa.ST cB (AA cD 0) KN Ln agS agT agU agV agW agX λcJ=>aa.LD cJ (AA b 0) λBv zP PU PV PW PX PY PZ=>aa.LD cJ (AA cD 0) λad0 ad1 P0 P2 P6 Qa Qb Qc=>Cl F.iB #[.agg #[.I Bv,.U zP,.slice PU PV PW,.slice PX PY PZ],.agg #[.I ad0,.U ad1,.slice P0 P2 P6,.slice Qa Qb Qc]] cJ λv cQ=> ∃t29,v=.bool t29/\if(!t29) then R (.bool false) cQ else(I (wrap .i64 (t17+1)) cQ/\mu (wrap .i64 (t17+1)) cQ<mu t17 aR) else R (.bool true) aR):Cl F.di #[.slice aot agR aqS,.slice aou akH aqT,.func (.func F.iB) #[] #[]] h R:=aS (lq (sq (lq (cq ll lf)) (sq (lq (bq (.loop [(17,.one (.int .i64))] (lq (sq (cq lf lf) (sq (bq (lq (lq (lq (cq ll lf))))) lf)))))) ll))) Tryz.func289 hv
theorem Cq.walk {w9:Int} {xa:Int} {nf:bU} {nh ni:Nat} {vr:bU} {vt vu:Nat} (hv:aV h (.cells #[.I w9,.U xa,.slice nf nh ni,.slice vr vt vu] T.aa) λb aR=> ∃t4,ak aR (AA b 0)=some (.I t4)/\if(t4==0) then∃yL vQ Az,ak aR (AA b 2)=some (.slice yL vQ Az)/\if((vQ:Int)==0) then∃HR Cy Kj,ak aR (AA b 3)=some (.slice HR Cy Kj)/\R (.bool ((Cy:Int)==0)) aR else R (.bool false) aR else if(t4==2) then∃t20,ak aR (AA b 1)=some (.U t20)/\if(t20==0) then∃iP iy iz,ak aR (AA b 3)=some (.slice iP iy iz)/\R (.bool ((iy:Int)==0)) aR else R (.bool false) aR else if(t4==3) then∃t31,ak aR (AA b 1)=some (.U t31)/\if(t31==0) then∃zy yc zA,ak aR (AA b 3)=some (.slice zy yc zA)/\if((yc:Int)==0) then Hl aR b 2 λNf Kz RU=>Cl F.jm #[.slice Nf Kz RU] aR λv aZ=> ∃t42,v=.bool t42/\R (.bool t42) aZ else R (.bool false) aR else R (.bool false) aR else if(t4==4) then∃t47,ak aR (AA b 1)=some (.U t47)/\if(t47==0) then∃NV Lo NW,ak aR (AA b 2)=some (.slice NV Lo NW)/\R (.bool ((Lo:Int)==0)) aR else R (.bool false) aR else R (.bool false) aR):Cl F.Cq #[.agg #[.I w9,.U xa,.slice nf nh ni,.slice vr vt vu]] h R:=aS (lq (sq (lq (bq (lq (cq ll (lq (cq ll (lq (cq ll (lq (cq ll lf)))))))))) ll)) Tryz.func298 hv
theorem wx.walk {w9:Int} {xa:Int} {nf:bU} {nh ni:Nat} {vr:bU} {vt vu:Nat} {deep:Int} {left:Int} (hv:aV h (.cells #[.I w9,.U xa,.slice nf nh ni,.slice vr vt vu] T.aa) λb aR=>aK (λ(t19:Bool) (aZ:aj)=>if t19 then R (.I (-1)) aZ else Hl aZ b 3 λzB xe DV=> ∃(I:Int->Int->aj->Prop) (mu:Int->Int->aj->Nat),I (wrap .i64 (left - 1)) 0 aZ/\∀(Qd:Int) (t25:Int) (bJ:aj),I Qd t25 bJ->if(decide (t25<(xe:Int))) then Bd t25 xe/\aP zB λa=>aa.LD bJ (a.add (toNat t25*4)) λad0 ad1 P0 P2 P6 Qa Qb Qc=>aV bJ (.cells #[.I 0,.U 0,.Z,.Z] T.aa) λcD cB=>aa.ST cB (AA cD 0) ad0 ad1 P0 P2 P6 Qa Qb Qc λcJ=>aa.LD cJ (AA cD 0) λadi Nx agY agZ ag0 ag1 ag2 ag3=>Cl F.wx #[.agg #[.I adi,.U Nx,.slice agY agZ ag0,.slice ag1 ag2 ag3],.I (wrap .i64 (deep+1)),.I Qd] cJ λv cQ=> ∃t33,v=.I t33/\if(decide (t33<0)) then R (.I (-1)) cQ else(I t33 (wrap .i64 (t25+1)) cQ/\mu t33 (wrap .i64 (t25+1)) cQ<mu Qd t25 bJ) else R (.I Qd) bJ) (λJ=>if(decide (deep>6)) then J true aR else if(decide (left<1)) then J true aR else aa.LD aR (AA b 0) λvL rO Dr Ds Dt Jn Jo Jp=>Cl F.Cq #[.agg #[.I vL,.U rO,.slice Dr Ds Dt,.slice Jn Jo Jp]] aR λeJ cW=> ∃t17,eJ=.bool t17/\J (!t17) cW)):Cl F.wx #[.agg #[.I w9,.U xa,.slice nf nh ni,.slice vr vt vu],.I deep,.I left] h R:=aS (lq (sq (sq (.join [(19,.one (.bool))] lf) (cq ll lf)) (lq (sq (lq (bq (.loop [(2,.one (.int .i64)),(25,.one (.int .i64))] (lq (sq (cq lf lf) (sq (bq (lq (lq (lq (cq ll lf))))) lf)))))) ll)))) Tryz.func260 hv
theorem oM.walk {w9:Int} {xa:Int} {nf:bU} {nh ni:Nat} {vr:bU} {vt vu:Nat} (hv:aV h (.cells #[.I w9,.U xa,.slice nf nh ni,.slice vr vt vu] T.aa) λb aR=>aa.LD aR (AA b 0) λaqU aqV akI akJ akK akL akM akN=>Cl F.wx #[.agg #[.I aqU,.U aqV,.slice akI akJ akK,.slice akL akM akN],.I 1,.I 256] aR λv aZ=> ∃t4,v=.I t4/\R (.bool (decide (t4≥0))) aZ):Cl F.oM #[.agg #[.I w9,.U xa,.slice nf nh ni,.slice vr vt vu]] h R:=aS (lq ll) Tryz.func207 hv
theorem uX.walk {kI:bU} {kJ kK:Nat} {w9:Int} {xa:Int} {nf:bU} {nh ni:Nat} {vr:bU} {vt vu:Nat} (hv:aV h (.cells #[.I w9,.U xa,.slice nf nh ni,.slice vr vt vu] T.aa) λb aR=>Hu aR b 1 λt11=>Hi aR b 0 λt13=>aK (λ(n:Int) (aZ:aj)=>Hi aZ b 0 λt29=>Cl F.wY #[.agg #[.I t29,.U n,.bool false]] aZ λv bJ=> ∃Yb Yc Yd ab8,v=.tuple #[.slice Yb Yc Yd,.I ab8]/\Hl bJ b 2 λoq kH oF=>aX Tryz.prog (Builtin.append_ #[T.dt,T.dt] T.dt #[.slice kI kJ kK,.slice Yb Yc Yd]) bJ λeJ cB=>Vl eJ λacR WE WG=>ak cB (AA b 2)=some (.slice oq kH oF)/\aX Tryz.prog (Builtin.append_ #[T.dt,T.dt] T.dt #[.slice acR WE WG,.slice oq kH oF]) cB λgR cJ=>Vl gR λKt MY Fv=>Hl cJ b 3 λKK Ia Nn=> ∃(I:bU->Nat->Nat->Int->aj->Prop) (mu:bU->Nat->Nat->Int->aj->Nat),I Kt MY Fv 0 cJ/\∀(lE:bU) (lF lG:Nat) (t44:Int) (cQ:aj),I lE lF lG t44 cQ->if(decide (t44<(Ia:Int))) then Bd t44 Ia/\aP KK λa=>aa.LD cQ (a.add (toNat t44*4)) λadW adX ag4 ag5 ag6 ag7 ag8 ag9=>aV cQ (.cells #[.I 0,.U 0,.Z,.Z] T.aa) λcD cW=>aa.ST cW (AA cD 0) adW adX ag4 ag5 ag6 ag7 ag8 ag9 λdA=>aa.LD dA (AA cD 0) λMV MW aha ahb ahc ahd ahe ahf=>Cl F.uX #[.slice lE lF lG,.agg #[.I MV,.U MW,.slice aha ahb ahc,.slice ahd ahe ahf]] dA λkU fc=> ∃C9 By Da,kU=.slice C9 By Da/\(I C9 By Da (wrap .i64 (t44+1)) fc/\mu C9 By Da (wrap .i64 (t44+1)) fc<mu lE lF lG t44 cQ) else R (.slice lE lF lG) cQ) (λJ=>aK (λ(t14:Bool) (cP:aj)=>aK (λ(n_1:Int) (cV:aj)=>J n_1 cV) (λBo=>if t14 then∃qq pd rM,ak cP (AA b 2)=some (.slice qq pd rM)/\Bo (wrap .u64 (pd:Int)) cP else aK (λ(n_2:Int) (dD:aj)=>Bo n_2 dD) (λGG=>if(t13==4) then∃iP iy iz,ak cP (AA b 3)=some (.slice iP iy iz)/\GG (wrap .u64 (iy:Int)) cP else GG t11 cP))) (λjo=>if(t13==2) then jo (t13==2) aR else jo (t13==3) aR))):Cl F.uX #[.slice kI kJ kK,.agg #[.I w9,.U xa,.slice nf nh ni,.slice vr vt vu]] h R:=aS (lq (lq (sq (lq (.join [(5,.one (.int .u64))] (bq (sq (lq (.join [(14,.one (.bool))] (cq lf lf))) (.join [(5,.one (.int .u64))] (cq lf (lq (.join [(5,.one (.int .u64))] (cq lf lf))))))))) (lq (sq (.mB (.op 0 (.op 1 (.op 3 (.op 4 (.op 2 (.op 5 (.op 6 .done)))))))) (sq (lq (bq (.loop [(0,.one (.slice)),(44,.one (.int .i64))] (lq (sq (cq lf lf) (sq (bq ll) lf)))))) ll)))))) Tryz.func208 hv
theorem mr.walk {w9:Int} {xa:Int} {nf:bU} {nh ni:Nat} {vr:bU} {vt vu:Nat} (hv:aV h (.cells #[.I w9,.U xa,.slice nf nh ni,.slice vr vt vu] T.aa) λb aR=>aa.LD aR (AA b 0) λO4 O5 akO akP akQ akR akS akT=>Cl F.oM #[.agg #[.I O4,.U O5,.slice akO akP akQ,.slice akR akS akT]] aR λv aZ=> ∃t5,v=.bool t5/\if(!t5) then R (.tuple #[.Z,.I 3]) aZ else aa.LD aZ (AA b 0) λRR Kx UF UG UH akU akV akW=>Cl F.uX #[.Z,.agg #[.I RR,.U Kx,.slice UF UG UH,.slice akU akV akW]] aZ λeJ bJ=> ∃yL vQ Az,eJ=.slice yL vQ Az/\R (.tuple #[.slice yL vQ Az,.I 0]) bJ):Cl F.mr #[.agg #[.I w9,.U xa,.slice nf nh ni,.slice vr vt vu]] h R:=aS (lq (sq (lq (cq ll lf)) ll)) Tryz.func178 hv
end
section
namespace Cb
variable {h h':aj} {R:iI} {p:bU} {l c:Nat} {bs:List UInt8}
def Ee (h:aj) (D:Nat->Prop) (t:Tr) (x:CV):Prop:=(x.k=t.k/\x.n=t.n/\x.v.b=t.b/\x.v.ok h D)/\∃ys:List CV,x.ll=ys.length/\iR h x.q ys.length x.cl 4 (ys.flatMap mJ)/\(∀y,aQ x.q y->D y)/\dG h (λy=>D y/\¬aQ x.q y) t.l ys
theorem Ee.toA {D:Nat->Prop} {t:Tr} {x:CV} (H:Ee h D t x):kT h D t x:=by
 obtain⟨h1,ys,h2,h3,h4,h5⟩:=H;cases t with
 |mk k n b l=>
  unfold kT;exact⟨h1,ys,⟨h2,h3.pZ,λ_=>h4,by rw[h2];exact h3.le⟩,dG.mono (λ_ hy=>hy.1) h5⟩
structure Cpy (g0 g:aj) (bb:Nat) (k n:Int) (v:BV) (ts:List Tr) (ys:List CV) (q:bU) (cl:Nat):Prop where
 dE:aa.at g bb k n v.p v.b.length v.c q ys.length cl
 own:iR g q ys.length cl 4 (ys.flatMap mJ)
 ge: ∀y,aQ q y->g0.size<=y
 tr:dG g (λy=>g0.size<=y/\¬aQ q y) ts ys
 fr:Fr (λy=>y=bb) g0 g
theorem SL {g0 g:aj} {bb:Nat} {k n:Int} {v:BV} {ts:List Tr} {ys:List CV} {q:bU} {cl:Nat} {t:Tr} {y:CV} {Φ:aj->Prop} (L:Cpy g0 g bb k n v ts ys q cl) (AW:bb<g0.size) (ll:ys.length<=100000000)
  (IH: ∀(g1:aj) (R:iI),Fr No g g1->(∀h' z,Ee h' (λc=>g1.size<=c) t z->Fr No g1 h'->R z.agg h')->Cl F.mY #[y.agg] g1 R)
  (hk: ∀g' QQ q' DN,Cpy g0 g' bb k n v (ts++ [t]) QQ q' DN->QQ.length=ys.length+1->Φ g'):
  aV g (.cells #[.I 0,.U 0,.Z,.Z] T.aa) λeY cW=>
  aa.ST cW (AA eY 0) y.k (y.n:Int) y.v.p y.v.b.length y.v.c y.q y.ll y.cl λdA=>
  ∃(um:bU) (tO vO:Nat),ak dA (AA bb 3)=some (.slice um tO vO)/\
  aa.LD dA (AA eY 0) λuh ui vZ v7 v8 wa wc wg=>
  Cl F.mY #[.agg #[.I uh,.U ui,.slice vZ v7 v8,.slice wa wc wg]] dA λeJ fc=>
  ∃(zL vk:Int) (yq:bU) (yr yt:Nat) (FX:bU) (FY FZ:Nat),eJ=.agg #[.I zL,.U vk,.slice yq yr yt,.slice FX FY FZ]/\
  ak fc (AA bb 3)=some (.slice um tO vO)/\
  aV fc (.cells #[.I zL,.U vk,.slice yq yr yt,.slice FX FY FZ] T.aa) λjQ cP=>
  ak cP (AA bb 3)=some (.slice um tO vO)/\
  aX Tryz.prog (Builtin.append_ #[T.cE,T.cE] T.cE #[.slice um tO vO,.slice (some (AA jQ 0)) 1 1]) cP λgR cV=>
  ∃(iP:bU) (iy iz:Nat),gR=.slice iP iy iz/\
  aH cV (AA bb 3) (.slice iP iy iz) λdD=>Φ dD:=by
 have zg:=L.fr.1;refine aa.new λb2 h8 FE fI f8=>⟨_,_,_,af (f8.get L.dE id) rfl,aa.ld fI (IH h8 _ f8 λh9 z tz f9=>⟨_,_,_,_,_,_,_,_,rfl,af ((f8.tt f9).get L.dE id) rfl,aa.box λb3 vj LP kR f10=>⟨af (((f8.tt f9).tt f10).get L.dE id) rfl,?_⟩⟩)⟩
 have Nj:=(f8.tt f9).tt f10;have z8:=f8.1;have z9:=f9.1;have z10:=f10.1;have WH:=L.own.frame Nj (λ_ _=>id);have qg: ∀y,aQ q y->y<g.size:=λy hy=>L.own.gm hy
 refine fQ tI uI WH (ds:=mJ z) (.inr ⟨_,rfl,aa.held kR⟩) rfl (zW z) (by omega) (by omega) λq' DN yi o11 _ f11 g11=>⟨_,_,_,rfl,?_⟩
 have z11:=f11.1;have b11:=f11.get (Nj.get L.dE id) (λhy=>by have:=L.ge _ hy;omega);refine bL b11 (by show 3<4;omega) λmE d1 d2 d3=> ?_
 have f12:Fr (λy=>y=bb) yi mE:=Fr.of_eq d2 (λc hc=>d3 c hc);have nq': ∀y,aQ q' y->g0.size<=y:=λy hy=>by
  rcases g11 y hy with a|a
  ·exact L.ge y a
  ·omega
 have ef:ys.flatMap mJ++mJ z=(ys++ [z]).flatMap mJ:=by rw[dI];simp
 refine hk mE (ys++ [z]) q' DN ⟨?_,?_,nq',?_,?_⟩ (by simp)
 ·rw[aF];exact d1
 ·rw[aF,<-ef];exact o11.frame f12 (λy hy e=>by have:=nq' y hy;omega)
 ·have t1:=(dG.on L.tr.lt Nj).frame f11 (λy hy AU=>hy.1.2 AU);have t2:=kT.mono (D':=λy=>g.size<=y/\y<vj.size) (λy hy=>by omega) (tz.toA.lt.on f10);have t2:=kT.frame f11 (λy hy AU=>by have:=qg y AU;omega) t2;have m1:=dG.mono (D':=λy=>g0.size<=y/\¬aQ q' y) (λy hy=>⟨hy.1.1,λAU=>by
   rcases g11 y AU with a|a
   ·exact hy.1.2 a
   ·have:=hy.2;omega⟩) t1
  have m2:=kT.mono (D':=λy=>g0.size<=y/\¬aQ q' y) (λy hy=>⟨by omega,λAU=>by
   rcases g11 y AU with a|a
   ·have:=qg y a;omega
   ·omega⟩) t2
  exact dG.frame f12 (λy hy e=>by omega) (m1.snoc m2)
 ·exact((L.fr.on Nj).trans f11 (S'':=λy=>y=bb) (λ_ _=>id) (λx hx hy=>by have:=L.ge x hy;omega)).trans f12 (λ_ _=>id) (λ_ _=>id)
theorem jw {n:Nat} (hk: ∀h',Fr No h h'->R (CV.agg ⟨0,n,⟨none,0, []⟩,none,0,0⟩) h'):Cl F.fH #[.U (n:Int)] h R:=
 fH.walk (aa.new λb h2 eb hb f2=>aa.ld hb (hk h2 f2))
theorem akX {D:Nat->Prop} {n:Nat} :Ee h D (num n) ⟨0,n,⟨none,0, []⟩,none,0,0⟩:=
 ⟨⟨rfl,rfl,rfl,⟨Row.nil,λe=>absurd rfl e,bh _⟩⟩, [],rfl,.nil rfl rfl rfl rfl,(λy ⟨a,e,_⟩=>by cases e),by show dG h _ [] [];unfold dG;trivial⟩
theorem zD {p:bU} {l c:Nat} (row:Row h p (bc bs)) (hl:l=bs.length) (hlen:bs.length<=1000000) (hk: ∀h' (v:BV),v.b=bs->v.ok h' (λy=>h.size<=y)->Fr No h h'->R (CV.agg ⟨2,0,v,none,0,0⟩) h'):Cl F.qk #[.slice p l c] h R:=by
 refine qk.walk (aa.box λb h1 eb hb f1=>vf.my (row.frame f1 (λ_ _=>id)) hl (by omega) λp' c' h2 o2 f2 g2=>⟨_,_,_,rfl,aa.set (f2.get hb id) λh3 d1 d2 d3=>aa.ld d1 ?_⟩);have z1:=f1.1;have f3:Fr (λy=>y=b) h2 h3:=Fr.of_eq d2 (λc hc=>d3 c hc);refine hk h3 ⟨p',c',bs⟩ rfl (BV.wL (o2.frame f3 (λy hy e=>by have:=g2 y hy;have:=aI hb;omega)) (λy hy=>by have:=g2 y hy;omega)) ((f1.tt f2).fresh f3 (λy e=>by omega))
theorem wA {t:Tr} {l:List Tr} (h:t∈l):room t<=dY l:=by
 induction l with
 |nil=>cases h
 |cons u l ih=>
  simp only[dY];rcases bP.1 h with rfl|h
  ·omega
  ·have:=ih h;omega
theorem Cpy.zero {g0:aj} {bb:Nat} {k n:Int} {v:BV} (hb:aa.at g0 bb k n v.p v.b.length v.c none 0 0):Cpy g0 g0 bb k n v [] [] none 0:=
 ⟨hb,.nil rfl rfl rfl rfl,(λy ⟨a,e,_⟩=>by cases e),by unfold dG;trivial,Fr.refl _ _⟩
theorem Lp: ∀(N:Nat) (t:Tr),deep t<=N->room t<=100000000->∀(h:aj) (D:Nat->Prop) (x:CV) (R:iI),kT h D t x->(∀h' z,Ee h' (λy=>h.size<=y) t z->Fr No h h'->R z.agg h')->Cl F.mY #[x.agg] h R
 |0,.mk k n b l,hd,_,_,_,_,_,_,_=>by simp only[deep] at hd;omega
 |N+1,.mk k n b l,hd,hrm,h,D,x,R,tx,hk=>by
  simp only[deep] at hd;simp only[room] at hrm;unfold kT at tx;obtain⟨⟨rfl,rfl,rfl,Vx⟩,ys,LR,TS⟩:=tx;have lt:=TS.len;have l9:=kM l;have e0:=LR.len;refine mY.walk (aa.box λbb h1 ebb AW f1=>aa.box λb1 h2 uf dw f2=>⟨_,_,_,af (f2.get AW id) rfl,vf.my ((Vx.row.frame f1 (λ_ _=>id)).frame f2 (λ_ _=>id)) rfl (by omega) λp' c' h3 o3 f3 g3=>⟨_,_,_,rfl,bL (f3.get (f2.get AW id) id) (by show 2<4;omega) λh4 d1 d2 d3=>⟨_,_,_,af d1 rfl,bL d1 (by show 3<4;omega) λh5 e1 e2 e3=> ?_⟩⟩⟩);have zbb:=aI AW;have PT:=aI dw;have z1:=f1.1;have z2:=f2.1;have z3:=f3.1;have f4:Fr (λy=>y=bb) h3 h4:=Fr.of_eq d2 (λc hc=>d3 c hc);have f5:Fr (λy=>y=bb) h4 h5:=Fr.of_eq e2 (λc hc=>e3 c hc);have F3:=f1.tt (f2.tt f3);have F5:Fr No h h5:=(F3.fresh f4 (λy e=>by omega)).fresh f5 (λy e=>by omega);have FM:=f5.get (f4.get (f3.get dw id) (by omega)) (by omega);have o5:=(o3.frame f4 (λy hy e=>by have:=g3 y hy;omega)).frame f5 (λy hy e=>by have:=g3 y hy;omega);have C0:=Cpy.zero (g0:=h5) (bb:=bb) (k:=x.k) (n:=(x.n:Int)) (v:=⟨p',c',x.v.b⟩) e1;refine⟨λt g=> ∃(i:Nat) (zs:List CV) (q:bU) (cl:Nat),t=(i:Int)/\i<=ys.length/\Cpy h5 g bb x.k (x.n:Int) ⟨p',c',x.v.b⟩ (l.take i) zs q cl/\zs.length=i,λt _=>ys.length - t.toNat,⟨0, [],none,0,rfl,cj _,by rw[fM];exact C0,rfl⟩,?_⟩;rintro _ g ⟨i,zs,q,cl,rfl,hi,L,lz⟩;have Fg:Fr No h g:=F5.fresh L.fr (λy e=>by omega);by_cases nQ:i<ys.length
  ·rw[jy];have hy:ys[i]? =some ys[i]:=au nQ;generalize ys[i]=y at hy;obtain⟨t,ht,ty⟩:=TS.get hy;have tm:=bt ht;have d1:=Dk tm;have r1:=wA tm;obtain⟨a,ea⟩:=LR.row.some (by intro e;have:=bp List.length e;rw[gW mJ 4 jR,bC] at this;omega);rw[ea];have Ms:=LR.row.frame Fg (λ_ _=>id);rw[ea] at Ms;refine⟨⟨by omega,by omega⟩,aB.2 (aa.TM (by rw[aL];exact Ms.lj jR hy) (SL (t:=t) L (by omega) (by omega) (λg1 R1 fg1 QK=>Lp N t (by omega) (by omega) g1 D y R1 (ty.on (Fg.tt fg1)) QK) λg' zs' q' DN L' lz'=> ?_))⟩;rw[bK (n:=(i:Int)+1) (by omega) (by omega)];refine⟨⟨i+1,zs',q',DN,by omega,by omega,?_,by omega⟩,by show ys.length - Int.toNat ((i:Int)+1)<ys.length - Int.toNat (i:Int);omega⟩;rw[bY,ht];exact L'
  ·rw[ai (λe=>nQ (by have:=of_decide_eq_true e;omega))];rw[bR (show l.length<=i by omega)] at L;refine aa.ld L.dE (aa.set (L.fr.get FM (by omega)) λGP k1 k2 k3=>aa.ld k1 ?_);have f13:Fr (λy=>y=b1) g GP:=Fr.of_eq k2 (λc hc=>k3 c hc);have og:=o5.frame L.fr (λy hy e=>by have:=g3 y hy;omega);refine hk GP ⟨x.k,x.n,⟨p',c',x.v.b⟩,q,zs.length,cl⟩ ⟨⟨rfl,rfl,rfl,BV.wL (og.frame f13 (λy hy e=>by have:=g3 y hy;omega)) (λy hy=>by have:=g3 y hy;omega)⟩,zs,rfl,L.own.frame f13 (λy hy e=>by have:=L.ge y hy;have:=f4.1;have:=f5.1;omega),(λy hy=>by have:=L.ge y hy;have:=f4.1;have:=f5.1;omega),?_⟩ (Fg.fresh f13 (λy e=>by omega));exact dG.mono (λy hy=>⟨by have:=hy.1;have:=f4.1;have:=f5.1;omega,hy.2⟩) (dG.frame f13 (λy hy e=>by have:=hy.1;have:=f4.1;have:=f5.1;omega) L.tr)
theorem Du {D:Nat->Prop} {t:Tr} {x:CV} (tx:kT h D t x) (hr:room t<=100000000) (hk: ∀h' z,Ee h' (λy=>h.size<=y) t z->Fr No h h'->R z.agg h'):Cl F.mY #[x.agg] h R:=
 Lp (deep t) t (bh _) hr h D x R tx hk
theorem rU {D:Nat->Prop} {ts:List Tr} {ys:List CV} {q:bU} {cl:Nat} (LR:xD h D q l cl ys) (TS:dG h D ts ys) (hr:dY ts<=100000000) (hk: ∀h' z,Ee h' (λy=>h.size<=y) (DE ts) z->Fr No h h'->R z.agg h'):Cl F.fN #[.slice q l cl] h R:=by
 have lt:=TS.len;have l9:=kM ts;have e0:=LR.len;refine fN.walk (aa.box λb1 h1 uf dw f1=>aa.new λbb h5 ebb AW f2=> ?_);have zbb:=aI AW;have PT:=aI dw;have z1:=f1.1;have z2:=f2.1;have F5:=f1.tt f2;have FM:=f2.get dw id;have C0:=Cpy.zero (g0:=h5) (bb:=bb) (k:=4) (n:=0) (v:=⟨none,0, []⟩) AW;refine⟨λt g=> ∃(i:Nat) (zs:List CV) (q:bU) (cl:Nat),t=(i:Int)/\i<=ys.length/\Cpy h5 g bb 4 0 ⟨none,0, []⟩ (ts.take i) zs q cl/\zs.length=i,λt _=>ys.length - t.toNat,⟨0, [],none,0,rfl,cj _,by rw[fM];exact C0,rfl⟩,?_⟩;rintro _ g ⟨i,zs,q2,cl2,rfl,hi,L,lz⟩;have Fg:Fr No h g:=F5.fresh L.fr (λy e=>by omega);by_cases nQ:i<ys.length
 ·rw[jy];have hy:ys[i]? =some ys[i]:=au nQ;generalize ys[i]=y at hy;obtain⟨t,ht,ty⟩:=TS.get hy;have r1:=wA (bt ht);obtain⟨a,rfl⟩:=LR.row.some (by intro e;have:=bp List.length e;rw[gW mJ 4 jR,bC] at this;omega);have Ms:=LR.row.frame Fg (λ_ _=>id);refine⟨⟨by omega,by omega⟩,aB.2 (aa.TM (by rw[aL];exact Ms.lj jR hy) (SL (t:=t) L (by omega) (by omega) (λg1 R1 fg1 QK=>Du (ty.on (Fg.tt fg1)) (by omega) QK) λg' zs' q' DN L' lz'=> ?_))⟩;rw[bK (n:=(i:Int)+1) (by omega) (by omega)];refine⟨⟨i+1,zs',q',DN,by omega,by omega,?_,by omega⟩,by show ys.length - Int.toNat ((i:Int)+1)<ys.length - Int.toNat (i:Int);omega⟩;rw[bY,ht];exact L'
 ·rw[ai (λe=>nQ (by have:=of_decide_eq_true e;omega))];rw[bR (show ts.length<=i by omega)] at L;refine aa.ld L.dE (aa.set (L.fr.get FM (by omega)) λGP k1 k2 k3=>aa.ld k1 ?_);have f13:Fr (λy=>y=b1) g GP:=Fr.of_eq k2 (λc hc=>k3 c hc);refine hk GP ⟨4,0,⟨none,0, []⟩,q2,zs.length,cl2⟩ ⟨⟨rfl,rfl,rfl,⟨Row.nil,λe=>absurd rfl e,bh _⟩⟩,zs,rfl,L.own.frame f13 (λy hy e=>by have:=L.ge y hy;omega),(λy hy=>by have:=L.ge y hy;omega),?_⟩ (Fg.fresh f13 (λy e=>by omega));exact dG.mono (λy hy=>⟨by have:=hy.1;omega,hy.2⟩) (dG.frame f13 (λy hy e=>by have:=hy.1;omega) L.tr)
end Cb
end
section
namespace Cb
variable {V:List UInt8→Bool} {h h0 h':aj} {R:iI} {D:Nat→Prop}
theorem ad2 {α:Type} (b:List α):(((b.length:Int))==0)=b.isEmpty:=by
 cases b with
 |nil=>rfl
 |cons a b=>simp only[bj,List.isEmpty_cons,beq_eq_false_iff_ne,iq];omega
theorem Vy {t:Tr} {x:CV} (U:xP V h0) (u:Fr No h0 h) (tx:kT h D t x) (hr:room t<=1000000) (hk: ∀h',Fr No h h'->R (.bool (abR V t.k t.n t.b t.l)) h'):Cl F.Cq #[x.agg] h R:=by
 cases t with
 |mk k n b l=>
  simp only[room] at hr;unfold kT at tx;obtain⟨⟨rfl,rfl,rfl,Vx⟩,ys,LR,TS⟩:=tx;have ll:x.ll=l.length:=by rw[LR.len,TS.len]
  have hk: ∀h' o,o=abR V x.k x.n x.v.b l->Fr No h h'->R (.bool o) h':=λh' o e f=>by rw[e];exact hk h' f
  unfold abR at hk;have nz:((x.n:Int)==0)=decide (x.n=0):=by by_cases e:x.n=0<;>simp[e]
  refine Cq.walk (aa.box λbb h1 ebb AW f1=>⟨_,af AW rfl,?_⟩);by_cases k0:x.k=0
  ·rw[ag (by simpa using k0)];simp only[k0,bA] at hk;refine⟨_,_,_,af AW rfl,?_⟩;rw[ad2];by_cases e:x.v.b.isEmpty=true
   ·rw[ag e];refine⟨_,_,_,af AW rfl,hk h1 _ ?_ f1⟩;rw[ll,ad2,e];rfl
   ·rw[ai e];refine hk h1 _ ?_ f1;rw[show x.v.b.isEmpty=false by cases hq:x.v.b.isEmpty with|false=>rfl|true=>exact absurd hq e];rfl
  rw[ai (by simpa using k0)];simp only[k0,aU] at hk;by_cases k2:x.k=2
  ·rw[ag (by simpa using k2)];simp only[k2,bA] at hk;refine⟨_,af AW rfl,?_⟩;rw[nz];by_cases e:x.n=0
   ·rw[ag (ay e)];refine⟨_,_,_,af AW rfl,hk h1 _ ?_ f1⟩;rw[ll,ad2,ay e];rfl
   ·rw[ai (by rw[decide_eq_false e];decide)];refine hk h1 _ ?_ f1;rw[decide_eq_false e];rfl
  rw[ai (by simpa using k2)];simp only[k2,aU] at hk;by_cases k3:x.k=3
  ·rw[ag (by simpa using k3)];simp only[k3,bA] at hk;refine⟨_,af AW rfl,?_⟩;rw[nz];by_cases e:x.n=0
   ·rw[ag (ay e)];refine⟨_,_,_,af AW rfl,?_⟩;rw[ll,ad2];by_cases e2:l.isEmpty=true
    ·rw[ag e2];exact⟨_,_,_,af AW rfl,U h1 _ _ x.v.b _ (u.tt f1) (Vx.row.frame f1 (λ_ _=>id)) (by omega) Vx.cap λg fg=>⟨_,rfl,hk g _ (by rw[ay e,e2];rfl) (f1.tt fg)⟩⟩
    ·rw[ai e2];refine hk h1 _ ?_ f1;rw[show l.isEmpty=false by cases hq:l.isEmpty with|false=>rfl|true=>exact absurd hq e2,Bool.and_false];rfl
   ·rw[ai (by rw[decide_eq_false e];decide)];refine hk h1 _ ?_ f1;rw[decide_eq_false e];rfl
  rw[ai (by simpa using k3)];simp only[k3,aU] at hk;by_cases k4:x.k=4
  ·rw[ag (by simpa using k4)];simp only[k4,bA] at hk;refine⟨_,af AW rfl,?_⟩;rw[nz];by_cases e:x.n=0
   ·rw[ag (ay e)];refine⟨_,_,_,af AW rfl,hk h1 _ ?_ f1⟩;rw[ad2,ay e];rfl
   ·rw[ai (by rw[decide_eq_false e];decide)];refine hk h1 _ ?_ f1;rw[decide_eq_false e];rfl
  rw[ai (by simpa using k4)];simp only[k4,aU] at hk;exact hk h1 _ rfl f1
theorem SM (U:xP V h0): ∀(N:Nat) (t:Tr),deep t<=N->room t<=1000000->∀(h:aj) (D:Nat->Prop) (x:CV) (d left:Int) (R:iI),Fr No h0 h->kT h D t x->0<=d->d<=7->left<=1000->
  (∀h',Fr No h h'->R (.I (xZ V t d left)) h')->Cl F.wx #[x.agg,.I d,.I left] h R
 |0,.mk k n b l,hd,_,_,_,_,_,_,_,_,_,_,_,_,_=>by simp only[deep] at hd;omega
 |N+1,.mk k n b l,hd,hrm,h,D,x,d,left,R,u,tx,d0,d7,hl,hk=>by
  have tx':=tx;simp only[deep] at hd;have aqW:=hrm;simp only[room] at hrm;unfold kT at tx;obtain⟨⟨rfl,rfl,rfl,Vx⟩,ys,LR,TS⟩:=tx;have lt:=TS.len;have l9:=kM l;have e0:=LR.len;refine wx.walk (aa.box λbb h1 ebb AW f1=>aK.of λJ hJ=> ?_);have bad: ∀g,Fr No h g->xZ V (.mk x.k x.n x.v.b l) d left= -1->J true g:=λg fg hw=>by
   subst hJ;dsimp only;rw[ag rfl];have:=hk g fg;rw[hw] at this;exact this
  by_cases c1:d>6
  ·rw[ag (ay c1)];exact bad h1 f1 (by unfold xZ;rw[ag (.inl c1)])
  rw[ai (λe=>c1 (of_decide_eq_true e))];by_cases c2:left<1
  ·rw[ag (ay c2)];exact bad h1 f1 (by unfold xZ;rw[ag (.inr c2)])
  rw[ai (λe=>c2 (of_decide_eq_true e))];have c12: ¬(d>6\/left<1):=λe=>e.elim c1 c2
  unfold xZ at hk bad;rw[ai c12] at hk bad;refine aa.ld AW (Vy U (u.tt f1) (tx'.on f1) aqW λh2 f2=>⟨_,rfl,?_⟩);simp only[Tr.k,Tr.n,Tr.b,Tr.l];generalize abR V x.k x.n x.v.b l=o at hk bad⊢;cases o with
  |false=>exact bad h2 (f1.tt f2) (by rw[dL])
  |true=>
   rw[ag rfl] at hk;subst hJ;rw[dL];have fI:=f2.get AW id;refine⟨_,_,_,af fI rfl,?_⟩;rw[bK (n:=left - 1) (by omega) (by omega)];refine⟨λlf t g=> ∃i:Nat,t=(i:Int)/\i<=ys.length/\Fr No h g/\lf<=1000/\0<=lf/\wM V (l.drop i) (d+1) lf=wM V l (d+1) (left - 1),λ_ t _=>ys.length - t.toNat,⟨0,rfl,cj _,f1.tt f2,by omega,by omega,rfl⟩,?_⟩;rintro lf _ g ⟨i,rfl,hi,fg,lf1,lf0,hw⟩;by_cases nQ:i<ys.length
   ·rw[jy];have hy:ys[i]? =some ys[i]:=au nQ;generalize ys[i]=y at hy;obtain⟨t,ht,ty⟩:=TS.get hy;have tm:=bt ht;have dm:=Dk tm;have rm:=wA tm;have ed:l.drop i=t::l.drop (i+1):=by
     obtain⟨q1,q2⟩:=aG.1 ht;rw[da q1,q2]
    rw[ed] at hw;obtain⟨a,ea⟩:=LR.row.some (by intro e;have:=bp List.length e;rw[gW mJ 4 jR,bC] at this;omega);rw[ea];have Ms:=LR.row.frame fg (λ_ _=>id);rw[ea] at Ms;refine⟨⟨by omega,by omega⟩,aB.2 (aa.TM (by rw[aL];exact Ms.lj jR hy) (aa.new λb1 h5 uf dw f5=>aa.ld dw ?_))⟩;rw[bK (n:=d+1) (by omega) (by omega)];refine SM U N t (by omega) (by omega) h5 D y (d+1) lf _ (u.tt (fg.tt f5)) (ty.on (fg.tt f5)) (by omega) (by omega) lf1 λh6 f6=>⟨_,rfl,?_⟩
    have F6:=fg.tt (f5.tt f6);have ql:=Rj (V:=V) (t:=t) (d:=d+1) (left:=lf);conv at hw=>lhs;unfold wM
    generalize xZ V t (d+1) lf=q at hw ql⊢;by_cases q0:q<0
    ·rw[ag (ay q0)];rw[ag q0] at hw;have:=hk h6 F6;rw[<-hw] at this;exact this
    ·rw[ai (λe=>q0 (of_decide_eq_true e)),bK (n:=(i:Int)+1) (by omega) (by omega)];rw[ai q0] at hw;exact⟨⟨i+1,by omega,by omega,F6,by omega,by omega,hw⟩,by show ys.length - Int.toNat ((i:Int)+1)<ys.length - Int.toNat (i:Int);omega⟩
   ·rw[ai (λe=>nQ (by have:=of_decide_eq_true e;omega))];rw[fL (show l.length<=i by omega)] at hw;have:=hk g fg;rw[<-hw] at this;unfold wM at this;exact this
theorem ic {t:Tr} {x:CV} (U:xP V h0) (u:Fr No h0 h) (tx:kT h D t x) (hr:room t<=1000000) (hk: ∀h',Fr No h h'->R (.bool (lu V t)) h'):Cl F.oM #[x.agg] h R:=
 oM.walk (aa.box λbb h1 ebb AW f1=>aa.ld AW (SM U (deep t) t (bh _) hr h1 D x 1 256 _ (u.tt f1) (tx.on f1) (by decide) (by decide) (by decide) λh2 f2=>⟨_,rfl,hk h2 (f1.tt f2)⟩))
end Cb
end
section
namespace Cb
variable {h h':aj} {R:iI} {D D':Nat→Prop}
theorem AX {p q:bU} {n m c d:Nat} {a b:List UInt8} (ra:Row h p (bc a)) (rb:Row h q (bc b)) (hn:n=a.length) (hm:m=b.length) (hk:R (.bool (decide (a=b))) h):Cl F.ke #[.slice p n c,.slice q m d] h R:=by
 refine ke.walk ⟨_,vf.conv ra hn,_,vf.conv rb hm,?_⟩;rw[EZ,EZ];have:(a==b)=decide (a=b):=by by_cases e:a=b<;>simp[e]
 rw[this];exact hk
theorem SN: ∀(N:Nat) (t s:Tr),deep t<=N->room t<=100000000->∀(h:aj) (D D':Nat->Prop) (x y:CV) (R:iI),kT h D t x->kT h D' s y->(∀h',Fr No h h'->R (.bool (yV t s)) h')->Cl F.iB #[x.agg,y.agg] h R
 |0,.mk k n b l,_,hd,_,_,_,_,_,_,_,_,_,_=>by simp only[deep] at hd;omega
 |N+1,.mk k n b l,.mk k' n' b' l',hd,hrm,h,D,D',x,y,R,tx,ty,hk=>by
  simp only[deep] at hd;simp only[room] at hrm;unfold kT at tx ty;obtain⟨⟨rfl,rfl,rfl,okx⟩,xs,LX,TX⟩:=tx;obtain⟨⟨rfl,rfl,rfl,oky⟩,ys,LY,TY⟩:=ty;have lx:=TX.len;have ly:=TY.len;have l9:=kM l;have ex:=LX.len;have ey:=LY.len;refine iB.walk (aa.box λb1 h1 uf dw f1=>aa.box λb2 h2 FE fI f2=> ?_);have F2:=f1.tt f2;have rR:=f2.get dw id;have no: ∀g,Fr No h g->yV (.mk x.k x.n x.v.b l) (.mk y.k y.n y.v.b l')=false->R (.bool false) g:=λg fg e=>by have:=hk g fg;rw[e] at this;exact this
  refine⟨_,af rR rfl,_,af fI rfl,?_⟩;by_cases c1:x.k=y.k
  case neg=>
   rw[ai (by simpa using c1)];exact no h2 F2 (by unfold yV;rw[decide_eq_false c1];rfl)
  rw[ag (by simpa using c1)];refine⟨_,af rR rfl,_,af fI rfl,?_⟩;by_cases c2:x.n=y.n
  case neg=>
   rw[ai (λe=>c2 (by have:=eq_of_beq e;omega))];exact no h2 F2 (by unfold yV;rw[decide_eq_false c2,Bool.and_false];rfl)
  rw[ag (by rw[c2];simp)];refine⟨_,_,_,af rR rfl,_,_,_,af fI rfl,AX (okx.row.frame F2 (λ_ _=>id)) (oky.row.frame F2 (λ_ _=>id)) rfl rfl ⟨_,rfl,?_⟩⟩;by_cases c3:x.v.b=y.v.b
  case neg=>
   rw[ai (by simpa using c3)];exact no h2 F2 (by unfold yV;rw[decide_eq_false c3,Bool.and_false];rfl)
  rw[ag (by simpa using c3)];have e0:yV (.mk x.k x.n x.v.b l) (.mk y.k y.n y.v.b l')=DF l l':=by unfold yV;rw[ay c1,ay c2,ay c3];simp
  rw[e0] at hk;refine⟨_,_,_,af rR rfl,_,_,_,af fI rfl,?_⟩;rw[ex,ey];have done: ∀g,Fr No h g->∀q,q=DF l l'->∃t29:Bool,Value.bool q=.bool t29/\R (.bool t29) g:=λg fg q e=>⟨q,rfl,by rw[e];exact hk g fg⟩
  refine di.same.walk ?_;by_cases cl:xs.length=ys.length
  case neg=>
   rw[ag (by simp only[fK,iq];omega)];refine done h2 F2 false ?_;cases hq:DF l l' with
   |false=>rfl
   |true=>exact absurd (bp List.length ((JN l l').1 hq)) (by omega)
  rw[ai (by simp only[fK,iq];omega)];refine⟨λt g=> ∃i:Nat,t=(i:Int)/\i<=xs.length/\Fr No h g/\DF l l'=DF (l.drop i) (l'.drop i),λt _=>xs.length - t.toNat,⟨0,rfl,cj _,F2,rfl⟩,?_⟩;rintro _ g ⟨i,rfl,hi,fg,he⟩;by_cases nQ:i<xs.length
  ·rw[jy];have hx:xs[i]? =some xs[i]:=au nQ;have hy:ys[i]? =some (ys[i]'(by omega)):=au _;generalize xs[i]=u at hx;generalize ys[i]'(by omega)=v at hy;obtain⟨t,ht,tu⟩:=TX.get hx;obtain⟨s,hs,tv⟩:=TY.get hy;have tm:=bt ht;have dm:=Dk tm;have rm:=wA tm;have ed:l.drop i=t::l.drop (i+1):=by
    obtain⟨q1,q2⟩:=aG.1 ht;rw[da q1,q2]
   have ed':l'.drop i=s::l'.drop (i+1):=by
    obtain⟨q1,q2⟩:=aG.1 hs;rw[da q1,q2]
   rw[ed,ed'] at he;have he:DF l l'=(yV t s && DF (l.drop (i+1)) (l'.drop (i+1))):=by rw[he];simp only[DF]
   obtain⟨a,ea⟩:=LX.row.some (by intro e;have:=bp List.length e;rw[gW mJ 4 jR,bC] at this;omega);obtain⟨a',ea'⟩:=LY.row.some (by intro e;have:=bp List.length e;rw[gW mJ 4 jR,bC] at this;omega);rw[ea,ea'];have rx:=LX.row;have ry:=LY.row;rw[ea] at rx;rw[ea'] at ry;refine⟨⟨by omega,by omega⟩,aB.2 (aa.TM (by rw[aL];exact(rx.frame fg (λ_ _=>id)).lj jR hx) (aa.new λb3 h3 LP kR f3=>⟨⟨by omega,by omega⟩,aB.2 (aa.TM (by rw[aL];exact(ry.frame (fg.tt f3) (λ_ _=>id)).lj jR hy) (aa.new λb4 h5 Vz ma f4=>aa.ld (f4.get kR id) (aa.ld ma ?_)))⟩))⟩;have F5:=fg.tt (f3.tt f4);refine SN N t s (by omega) (by omega) h5 D D' u v _ (tu.on F5) (tv.on F5) λh6 f6=>⟨_,rfl,?_⟩
   cases q:yV t s with
   |false=>
    rw[jy];exact done h6 (F5.tt f6) false (by rw[he,q];rfl)
   |true=>
    rw[dL,bK (n:=(i:Int)+1) (by omega) (by omega)];exact⟨⟨i+1,by omega,by omega,F5.tt f6,by rw[he,q];rfl⟩,by show xs.length - Int.toNat ((i:Int)+1)<xs.length - Int.toNat (i:Int);omega⟩
  ·rw[ai (λe=>nQ (by have:=of_decide_eq_true e;omega))];rw[fL (show l.length<=i by omega),fL (show l'.length<=i by omega)] at he;exact done g fg true (by rw[he];simp only[DF])
theorem pV {t s:Tr} {x y:CV} (tx:kT h D t x) (ty:kT h D' s y) (hr:room t<=100000000) (hk: ∀h',Fr No h h'->R (.bool (yV t s)) h'):Cl F.iB #[x.agg,y.agg] h R:=
 SN (deep t) t s (bh _) hr h D D' x y R tx ty hk
end Cb
end
section
namespace Cb
variable {h h':aj} {R:iI}
theorem ad3 (n:Nat):IntKind.wrap .u8 (n:Int)=((UInt8.ofNat n).toNat:Int):=by
 have e:IntKind.wrap .u8 (n:Int)=(n:Int)%256:=by simp[IntKind.wrap,IntKind.bits,IntKind.signed]
 rw[e,gV];omega
theorem aa3 {m n:Int} (hk: ∀h',Fr No h h'->R (.bool (decide (0<=m/\m<=7))) h'):Cl F.w4 #[.agg #[.I m,.U n,.bool false]] h R:=by
 refine w4.walk (bg.box λb h1 eb hb f1=>⟨_,af hb rfl,?_⟩);rw[dL];have hk:=hk h1 f1;refine⟨_,af hb rfl,?_⟩;by_cases c1:m≥0
 ·rw[ag (ay c1)];refine⟨_,af hb rfl,?_⟩;rw[show decide (0<=m/\m<=7)=decide (m<=7) by simp[show 0<=m from c1]] at hk;exact hk
 ·rw[ai (λe=>c1 (of_decide_eq_true e))];rw[decide_eq_false (λe=>c1 e.1)] at hk;exact hk
theorem NY {n:Nat} (hk:R (.I (Rk n:Int)) h):Cl F.sH #[.U (n:Int)] h R:=by
 obtain⟨z,hz⟩: ∃z:Int,z=(n:Int):=⟨_,rfl⟩;rw[<-hz];refine sH.walk ?_;unfold Rk at hk
 repeat' split
 all_goals simp only[bf] at*
 ·rw[jy] at hk;exact hk
 ·rw[dL,jy] at hk;exact hk
 ·rw[dL,dL,jy] at hk;exact hk
 ·rw[dL,dL,dL,jy] at hk;exact hk
 ·rw[dL,dL,dL,dL] at hk;exact hk
theorem ahg {n:Nat} (hk:R (.int .u8 (Ix n:Int)) h):Cl F.zh #[.U (n:Int)] h R:=by
 refine zh.walk (NY ⟨_,rfl,?_⟩);unfold Ix at hk;unfold Rk;by_cases c1:n<24
 ·rw[ag c1] at hk⊢;rw[dL,dL,dL,dL];rw[ad3,gV,jl (by omega)];exact hk
 rw[ai c1] at hk⊢;by_cases c2:n<256
 ·rw[ag c2] at hk⊢;rw[jy];exact hk
 rw[ai c2] at hk⊢;by_cases c3:n<65536
 ·rw[ag c3] at hk⊢;rw[dL,jy];exact hk
 rw[ai c3] at hk⊢;by_cases c4:n<4294967296
 ·rw[ag c4] at hk⊢;rw[dL,dL,jy];exact hk
 rw[ai c4] at hk⊢;rw[dL,dL,dL,jy];exact hk
theorem ahh (n:Nat):Ix n<32:=by unfold Ix;repeat (first|omega|split)
theorem akY: ∀(m:Fin 8) (z:Fin 32),IntKind.wrap .u8 ((BitVec.ofInt (IntKind.bits .u8) (IntKind.wrap .u8 ((IntKind.wrap .u8 (m.val:Int))*2 ^ min (Int.toNat 5) (IntKind.bits .u8)))|||BitVec.ofInt (IntKind.bits .u8) (z.val:Int)).toNat:Int)=((32*m.val+z.val:Nat):Int):=by decide
theorem ad4 (n k:Nat):Int.fdiv (n:Int) (2 ^ k)=((n/2 ^ k:Nat):Int):=by
 rw[Int.fdiv_eq_ediv_of_nonneg _ (by exact_mod_cast cj (2 ^ k))]
 exact_mod_cast rfl
theorem aa4 {m:Int} {n:Nat} (hk: ∀h' (p':bU) (c':Nat) (e:Int),Row h' p' (bc (hdB m n))->(hdB m n).length<=c'->Fr No h h'->R (.tuple #[.slice p' (hdB m n).length c',.I e]) h'):Cl F.wY #[.agg #[.I m,.U (n:Int),.bool false]] h R:=by
 refine wY.walk (bg.box λb h1 eb hb f1=>bg.ld hb (aa3 λh2 f2=>⟨_,rfl,?_⟩));by_cases cm:0<=m/\m<=7
 case neg=>
  rw[decide_eq_false cm,jy];have e0:hdB m n= []:=by unfold hdB;rw[ai cm]
  rw[e0] at hk;exact hk h2 none 0 3 Row.nil (by simp) (f1.tt f2)
 rw[ay cm,dL];obtain⟨m,rfl⟩:=mG cm.1;have fI:=f2.get hb id;refine⟨_,af fI rfl,?_⟩;rw[dL];refine⟨_,af fI rfl,_,af fI rfl,ahg ⟨_,rfl,af fI rfl,cX ?_⟩⟩;have F2:=f1.tt f2;have i32:=ahh n;rw[akY ⟨m,by omega⟩ ⟨Ix n,i32⟩];rw[show(32*(⟨m,by omega⟩:Fin 8).val+(⟨Ix n,i32⟩:Fin 32).val)=32*m+Ix n from rfl];have ew:((32*m+Ix n:Nat):Int)=((UInt8.ofNat (32*m+Ix n)).toNat:Int):=by rw[gV,jl (by omega)]
 rw[ew];have e0:hdB (m:Int) n=UInt8.ofNat (32*m+Ix n)::beB (Rk n) n:=by unfold hdB;rw[ag cm,aL]
 rw[e0] at hk;generalize UInt8.ofNat (32*m+Ix n)=w at hk⊢;have f3:Fr No h2 (h2.push (.cells #[.int .u8 (w.toNat:Int)] T.uint8)):=Fr.push _ _;have o3:iR (h2.push (.cells #[.int .u8 (w.toNat:Int)] T.uint8)) (some (AA h2.size 0)) 1 1 1 (bc [w]):=.row h2.size 0 #[.int .u8 (w.toNat:Int)] T.uint8 rfl cz (by omega) (by simp) rfl (λj v hj=>by
  cases j with
  |zero=>simpa[bc] using hj
  |succ j=>simp[bc] at hj)
 generalize h2.push (.cells #[.int .u8 (w.toNat:Int)] T.uint8)=h5 at f3 o3⊢;have z1:=f1.1;have z2:=f2.1;have zb:=aI hb;refine⟨af (f3.get fI id) rfl,_,af (f3.get fI id) rfl,NY ⟨_,rfl,?_⟩⟩;have k8:=V5 n;generalize Rk n=k at hk k8⊢;refine⟨λp' l' c' t g=> ∃(i:Nat),t=(i:Int)/\i<=k/\l'=1+i/\iR g p' (1+i) c' 1 (bc (w::(beB k n).take i))/\(∀y,aQ p' y->h2.size<=y)/\Fr No h2 g,λ_ _ _ t _=>k - t.toNat,⟨0,rfl,cj _,rfl,by rw[fM];exact o3,(λy ⟨a,e,e'⟩=>by cases e;rw[<-e'];exact bh _),f3⟩,?_⟩;rintro p' _ c' _ g ⟨i,rfl,hi,rfl,ow,nw,fg⟩;by_cases nQ:i<k
 ·rw[jy];refine⟨_,af (fg.get fI id) rfl,?_⟩;rw[bK (n:=(k:Int) - 1) (by omega) (by omega),bK (n:=(k:Int) - 1 - (i:Int)) (by omega) (by omega),bK (n:=8*((k:Int) - 1 - (i:Int))) (by omega) (by omega),dL];have e8:min (Int.toNat (8*((k:Int) - 1 - (i:Int)))) (IntKind.bits .u64)=8*(k - 1 - i):=by
   rw[show IntKind.bits .u64=64 from rfl];omega
  rw[e8,ad4,ad3];refine qa vf.tU vf.uU ow rfl (λv hv=>by simp at hv;rw[hv];rfl) (by omega) (by omega) λp2 c2 h9 o9 f9 g9=>⟨_,_,_,rfl,?_⟩
  rw[bK (n:=(i:Int)+1) (by omega) (by omega)];refine⟨⟨i+1,by omega,by omega,by omega,?_,λy hy=> ?_,fg.fresh f9 nw⟩,by show k - Int.toNat ((i:Int)+1)<k - Int.toNat (i:Int);omega⟩
  ·have et:(beB k n).take (i+1)=(beB k n).take i++ [UInt8.ofNat (n/2 ^ (8*(k - 1 - i)))]:=by
    rw[bY];unfold beB;rw[aO,List.getElem?_range nQ];rfl
   rw[et,<-fv,su];exact o9
  ·rcases g9 y hy with a|a
   ·exact nw y a
   ·have:=fg.1;omega
 ·rw[ai (λe=>nQ (by have:=of_decide_eq_true e;omega))];obtain rfl:i=k:=by omega
  rw[bR (by rw[I7];omega)] at ow;have:=hk g p' c' 0 ow.pZ (by rw[bj,I7,Nat.add_comm];exact ow.le) (F2.tt fg);rw[bj,I7,Nat.add_comm] at this;exact this
theorem VA {l:List Tr} {i:Nat} {t:Tr} (ht:l[i]? =some t):dY (l.take (i+1))=dY (l.take i)+room t:=by
 rw[bY,ht,mP];show _+dY [t]=_;simp[dY]
theorem yR (l:List Tr) (i:Nat):dY (l.take i)<=dY l:=by
 conv=>rhs;rw[<-List.take_append_drop i l]
 rw[mP];omega
theorem Ye: ∀(N:Nat) (t:Tr),deep t<=N->∀(h:aj) (D:Nat->Prop) (x:CV) (p:bU) (l c:Nat) (a:List UInt8) (R:iI),l=a.length->a.length+room t<=20000000->iR h p a.length c 1 (bc a)->kT h D t x->(∀y,aQ p y->¬D y)->
  (∀h' p' c',iR h' p' (a++enc t).length c' 1 (bc (a++enc t))->Fr (λy=>aQ p y) h h'->(∀y,aQ p' y->aQ p y\/h.size<=y)->R (.slice p' (a++enc t).length c') h')->Cl F.uX #[.slice p l c,x.agg] h R
 |0,.mk k n b l,hd,_,_,_,_,_,_,_,_,_,_,_,_,_,_=>by simp only[deep] at hd;omega
 |N+1,.mk k n b l,hd,h,D,x,p,_,c,a,R,rfl,ha,ow,tx,hD,hk=>by
  simp only[deep] at hd;simp only[room] at ha;unfold enc at hk;have tx:=tx.lt;unfold kT at tx;obtain⟨⟨rfl,rfl,rfl,Vx⟩,ys,LR,TS⟩:=tx;have lt:=TS.len;have l9:=kM l;have e0:=LR.len;refine uX.walk (aa.box λbb h1 ebb AW f1=>⟨_,af AW rfl,_,af AW rfl,aK.of λJ hJ=> ?_⟩);have zbb:=aI AW;have z1:=f1.1;have np: ∀y,aQ p y->y<h.size:=λy hy=>ow.gm hy
  have done:J (HF x.k x.n x.v.b l:Int) h1:=by
   subst hJ;refine⟨_,af AW rfl,aa4 λh3 q3 c3 e3 aov aqX f3=>⟨_,_,_,_,rfl,_,_,_,af (f3.get AW id) rfl,?_⟩⟩;have lb3:=V6 x.k (HF x.k x.n x.v.b l);generalize hdB x.k (HF x.k x.n x.v.b l)=b3 at aov aqX lb3 hk⊢;have z3:=f3.1;have F3:=f1.tt f3;refine fQ vf.tU vf.uU (ow.frame F3 (λ_ _=>id)) aov (by rw[sU,cN]) (Cg b3) (by omega) (by omega) λp4 c4 h4 o4 _ f4 g4=>⟨_,_,_,rfl,af (f4.get (f3.get AW id) (λhy=>by have:=np _ hy;omega)) rfl,?_⟩
   have z4:=f4.1;have n4: ∀y,aQ p4 y->aQ p y\/h3.size<=y:=g4;have aqY:Row h4 x.v.p (bc x.v.b):=by
    by_cases e:x.v.b= []
    ·rw[e];exact Row.nil
    ·exact((Vx.row.frame F3 (λ_ _=>id)).frame f4 (λad ea hy=>hD _ hy (Vx.own e _ ⟨ad,ea,rfl⟩).1))
   refine fQ vf.tU vf.uU o4 aqY (by rw[sU,cN]) (Cg x.v.b) (by omega) (by omega) λp5 c5 h5 o5 _ f5 g5=> ?_
   have n4b: ¬aQ p4 bb:=λhy=>by
    rcases n4 _ hy with q|q
    ·have:=np _ q;omega
    ·omega
   have DJ:=f5.get (f4.get (f3.get AW id) (λhy=>by have:=np _ hy;omega)) n4b;refine⟨_,_,_,rfl,_,_,_,af DJ rfl,?_⟩;have z5:=f5.1;rw[<-su,<-su,dU] at o5;have Fp:Fr (λy=>aQ p y) h h5:=(Fr.no F3 f4).trans f5 (λ_ _=>id) (λy hy q=>by
    rcases n4 y q with q|q
    ·exact q
    ·omega)
   have n5: ∀y,aQ p5 y->aQ p y\/h.size<=y:=λy hy=>by
    rcases g5 y hy with q|q
    ·rcases n4 y q with q|q
     ·exact .inl q
     ·exact .inr (by omega)
    ·exact .inr (by omega)
   have el:a.length+b3.length+x.v.b.length=(a++(b3++x.v.b)).length:=by simp only[aF];omega
   rw[el] at o5⊢;refine⟨λp' l' c' t g=> ∃(i:Nat) (w:List UInt8),t=(i:Int)/\i<=ys.length/\l'=(a++w).length/\iR g p' (a++w).length c' 1 (bc (a++w))/\w=b3++x.v.b++Iz (l.take i)/\Fr (λy=>aQ p y) h g/\∀y,aQ p' y->aQ p y\/h.size<=y,λ_ _ _ t _=>ys.length - t.toNat,
    ⟨0,b3++x.v.b,rfl,cj _,rfl,o5,by rw[fM];simp[Iz],Fp,n5⟩,?_⟩
   rintro p' _ c' _ g ⟨i,w,rfl,hi,rfl,og,ew,fg,ng⟩;have rl:=yR l i;have lw:w.length<=9+x.v.b.length+dY (l.take i):=by
    rw[ew,aF,aF];have:=JP (l.take i);omega
   by_cases nQ:i<ys.length
   ·rw[jy];have hy:ys[i]? =some ys[i]:=au nQ;generalize ys[i]=y at hy;obtain⟨t,ht,ty⟩:=TS.get hy;have tm:=bt ht;have dm:=Dk tm;have rm:=wA tm;have rt:=VA ht;have kA:ys≠ []:=by intro e;rw[e] at nQ;simp at nQ
    obtain⟨ad,ea⟩:=LR.row.some (by intro e;have:=bp List.length e;rw[gW mJ 4 jR,bC] at this;omega);have Ms:=LR.row.frame fg (λa2 e2 AU=>hD _ AU (LR.own kA _ ⟨a2,e2,rfl⟩).1);rw[ea] at Ms⊢;refine⟨⟨by omega,by omega⟩,aB.2 (aa.TM (by rw[aL];exact Ms.lj jR hy) (aa.new λb1 h8 uf dw f8=>aa.ld dw ?_))⟩;have ty8:kT h8 (λy=>D y/\y<h.size) t y:=(kT.frame fg (λz hz hz2=>hD z hz2 hz.1) ty).on f8;have zg:=fg.1;have z8:=f8.1;refine Ye N t (by omega) h8 (λy=>D y/\y<h.size) y p' _ c' (a++w) _ rfl (by rw[aF];have:=yR l (i+1);omega) (og.frame f8 (λ_ _=>id)) ty8 (λz hz hz2=>by
     rcases ng z hz with q|q
     ·exact hD z q hz2.1
     ·omega) λh9 p9 c9 o9 f9 n9=>⟨_,_,_,rfl,?_⟩
    rw[bK (n:=(i:Int)+1) (by omega) (by omega)];rw[dU] at o9⊢;refine⟨⟨i+1,w++enc t,by omega,by omega,rfl,o9,by rw[bY,ht];show _=_++Iz (l.take i++ [t]);rw[aae,ew,dU _ (Iz (l.take i))],(fg.on f8).trans f9 (λ_ _=>id) (λz hz q=> ?_),λz hz=> ?_⟩,by show ys.length - Int.toNat ((i:Int)+1)<ys.length - Int.toNat (i:Int);omega⟩
    ·rcases ng z q with q|q
     ·exact q
     ·omega
    ·rcases n9 z hz with q|q
     ·exact ng z q
     ·exact .inr (by omega)
   ·rw[ai (λe=>nQ (by have:=of_decide_eq_true e;omega))];rw[bR (show l.length<=i by omega)] at ew;subst ew;exact hk g p' c' og fg ng
  have ub:IntKind.wrap .u64 (x.v.b.length:Int)=(x.v.b.length:Int):=wrap_u64 (by omega) (by omega);have ul:IntKind.wrap .u64 (x.ll:Int)=(l.length:Int):=by rw[e0,<-lt];exact wrap_u64 (by omega) (by omega)
  unfold HF at done;refine aK.of λJ1 pA=> ?_
  have j1: ∀q,q=decide (x.k=2\/x.k=3)->J1 q h1:=by
   intro q hq;subst pA;refine aK.of λJ2 zX=> ?_
   split
   ·rename_i q1;rw[ag (of_decide_eq_true (hq.symm.trans q1))] at done;exact⟨_,_,_,af AW rfl,by subst zX;rw[ub];exact done⟩
   ·rename_i q1;rw[ai (λe=>q1 (hq.trans (ay e)))] at done;refine aK.of λJ3 SO=> ?_
    split
    ·rename_i q2;rw[ag (by simpa using q2)] at done;exact⟨_,_,_,af AW rfl,by subst SO;subst zX;rw[ul];exact done⟩
    ·rename_i q2;rw[ai (by simpa using q2)] at done;subst SO;subst zX;exact done
  split
  ·rename_i q;exact j1 _ (by simp only[dz] at q;rw[q];decide)
  ·rename_i q;refine j1 _ ?_;by_cases e:x.k=3
   ·rw[e];decide
   ·simp only[dz] at q;simp[q,e]
end Cb
end
section
namespace Cb
variable {V:List UInt8→Bool} {h h0 h':aj} {R:iI} {D:Nat→Prop}
theorem Yf {t:Tr} {x:CV} (tx:kT h D t x) (hr:room t<=1000000) (hk: ∀h' p c,iR h' p (enc t).length c 1 (bc (enc t))->(∀y,aQ p y->h.size<=y)->Fr No h h'->R (.slice p (enc t).length c) h'):Cl F.uX #[.Z,x.agg] h R:=
 Ye (deep t) t (bh _) h D x none 0 0 [] R rfl (by simp only[bC];omega) (.nil rfl rfl rfl rfl) tx (λy ⟨a,e,_⟩=>by cases e) λh' p' c' o f n=>hk h' p' c' o (λy hy=>(n y hy).resolve_left (λ⟨a,e,_⟩=>by cases e)) (f.mono λy _ ⟨a,e,_⟩=>by cases e)
theorem Hc {t:Tr} {x:CV} (U:xP V h0) (u:Fr No h0 h) (tx:kT h D t x) (hr:room t<=1000000)
  (k1:lu V t=true->∀h' p c,iR h' p (enc t).length c 1 (bc (enc t))->(∀y,aQ p y->h.size<=y)->Fr No h h'->R (.tuple #[.slice p (enc t).length c,.I 0]) h')
  (k2:lu V t=false->∀h',Fr No h h'->R (.tuple #[.Z,.I 3]) h'):Cl F.mr #[x.agg] h R:=by
 refine mr.walk (aa.box λbb h1 ebb AW f1=>aa.ld AW (ic U (u.tt f1) (tx.on f1) hr λh2 f2=>⟨_,rfl,?_⟩));have z1:=f1.1;have z2:=f2.1;cases ho:lu V t with
 |false=>
  rw[jy];exact k2 ho h2 (f1.tt f2)
 |true=>
  rw[dL];exact aa.ld (f2.get AW id) (Yf ((tx.on f1).on f2) hr λh3 p c o3 n3 f3=>⟨_,_,_,rfl,k1 ho h3 p c o3 (λy hy=>by have:=n3 y hy;omega) ((f1.tt f2).tt f3)⟩)
theorem xP.mono {h0 h1:aj} (U:xP V h0) (f:Fr No h0 h1):xP V h1:=λg p c bs R fg=>U g p c bs R (f.tt fg)
def qR (V:List UInt8->Bool) (bs:List UInt8):Bool:=match A8 V bs with| .ok (t,nx)=>decide (nx=bs.length) && decide (enc t=bs)| .error _=>false
theorem SP {p:bU} {l c:Nat} {bs:List UInt8} (U:xP V h) (row:Row h p (bc bs)) (hl:l=bs.length) (cap:bs.length<=c) (hlen:bs.length<=90000) (hk: ∀h',Fr No h h'->R (.bool (qR V bs)) h'):Cl F.rC #[.slice p l c] h R:=by
 subst hl;unfold qR at hk;refine rC.walk (Lm U row rfl cap (by omega) (λh1 t x next hr tx f1=>⟨_,_,_,_,_,_,_,_,_,_,rfl,aa.new λbb h3 ebb AW f3=> ?_⟩) (λh1 e he f1=>⟨_,_,_,_,_,_,_,_,_,_,rfl,aa.new λbb h3 ebb AW f3=> ?_⟩))
 ·have F3:=f1.tt f3;rw[hr] at hk;obtain⟨rt,nx⟩:=JR hr;rw[jy];by_cases c1:next=bs.length
  ·rw[ag (by rw[c1];simp)];refine aa.ld AW (Yf (tx.on f3) (by omega) λh4 q d o4 n4 f4=>⟨_,_,_,rfl,AX o4.pZ (row.frame (F3.tt f4) (λ_ _=>id)) rfl rfl ⟨_,rfl,?_⟩⟩);have:=hk h4 (F3.tt f4);simp only[c1,decide_true,fu] at this;exact this
  ·rw[ai (λe=>c1 (by have:=eq_of_beq e;omega))];have:=hk h3 F3;simp only[c1,decide_false,gK] at this;exact this
 ·have F3:=f1.tt f3;have:=hk h3 F3;rw[he] at this;rw[ai (λq=>Dm he (eq_of_beq q))];exact this
end Cb
end
section
variable {h:aj} {R:iI}
abbrev aa.jx (h:aj) (b:Nat) (x:aa.S):Prop:=h[b]? =some (.cells x.arr T.aa (0,0))
theorem aa.ex {K:aa.S->Prop} (x:aa.S) (hk:K x):aa.EX K:=⟨_,_,_,_,_,_,_,_,hk⟩
theorem aa.jk {h:aj} {b:Nat} {x:aa.S} {K:aa.S->Prop} (hb:aa.jx h b x) (hk:K x):aa.df h (AA b 0) K:=
 ⟨_,af hb rfl,_,af hb rfl,_,_,_,af hb rfl,_,_,_,af hb rfl,hk⟩
theorem aa.yS {h:aj} {a:Addr} {x:aa.S} {K:aa.S->Prop} (hb:fE a x.l 0 h) (hk:K x):aa.df h a K:=by
 obtain⟨q0,q1,q2,q3,_⟩:=hb;rw[jz] at q0;exact⟨_,q0,_,q1,_,_,_,q2,_,_,_,q3,hk⟩
theorem aa.Lq {h:aj} {b:Nat} {x:aa.S} (hb:aa.jx h b x):fE (AA b 0) x.l 0 h:=
 lR hb (λj v hj=>by rw[bZ];simpa using hj)
theorem aa.j8 {h:aj} {x:aa.S} {K:Nat->aj->Prop} (hk: ∀b h',b=h.size->aa.jx h' b x->Fr No h h'->K b h'):aV h (.cells aa.S.z.arr T.aa) λb mO=>aa.dV mO (AA b 0) x (K b):=
 kV (vs:=x.l) rfl rfl hk
theorem aa.dH {h:aj} {x:aa.S} {K:Nat->aj->Prop} (hk: ∀b h',b=h.size->aa.jx h' b x->Fr No h h'->K b h'):aV h (.cells x.arr T.aa) λb mO=>K b mO:=
 cX (hk _ _ rfl cz (Fr.push _ _))
theorem aa.mA {h:aj} {b:Nat} {y x:aa.S} {K:aj->Prop} (a0:aa.jx h b y) (hk: ∀h',aa.jx h' b x->Fr (λy=>y=b) h h'->h'.size=h.size->K h'):aa.dV h (AA b 0) x K:=
 (show gY (AA b 0) x.l 0 h K from gF a0 rfl rfl λh1 d1 d2 d3=>hk h1 d1 (Fr.of_eq d2 λc hc=>d3 c hc) d2)
abbrev az.jx (h:aj) (b:Nat) (x:az.S):Prop:=h[b]? =some (.cells x.arr T.az (0,0))
theorem az.ex {K:az.S->Prop} (x:az.S) (hk:K x):az.EX K:=⟨_,_,_,_,_,hk⟩
theorem az.jk {h:aj} {b:Nat} {x:az.S} {K:az.S->Prop} (hb:az.jx h b x) (hk:K x):az.df h (AA b 0) K:=
 ⟨_,af hb rfl,_,af hb rfl,_,af hb rfl,_,af hb rfl,_,af hb rfl,hk⟩
theorem az.j8 {h:aj} {x:az.S} {K:Nat->aj->Prop} (hk: ∀b h',b=h.size->az.jx h' b x->Fr No h h'->K b h'):aV h (.cells az.S.z.arr T.az) λb mO=>az.dV mO (AA b 0) x (K b):=
 kV (vs:=x.l) rfl rfl hk
theorem az.dH {h:aj} {x:az.S} {K:Nat->aj->Prop} (hk: ∀b h',b=h.size->az.jx h' b x->Fr No h h'->K b h'):aV h (.cells x.arr T.az) λb mO=>K b mO:=
 cX (hk _ _ rfl cz (Fr.push _ _))
theorem az.mA {h:aj} {b:Nat} {y x:az.S} {K:aj->Prop} (a0:az.jx h b y) (hk: ∀h',az.jx h' b x->Fr (λy=>y=b) h h'->h'.size=h.size->K h'):az.dV h (AA b 0) x K:=
 (show gY (AA b 0) x.l 0 h K from gF a0 rfl rfl λh1 d1 d2 d3=>hk h1 d1 (Fr.of_eq d2 λc hc=>d3 c hc) d2)
abbrev ah.jx (h:aj) (b:Nat) (x:ah.S):Prop:=h[b]? =some (.cells x.arr T.ah (0,0))
theorem ah.ex {K:ah.S->Prop} (x:ah.S) (hk:K x):ah.EX K:=⟨_,_,_,_,_,_,_,hk⟩
theorem ah.jk {h:aj} {b:Nat} {x:ah.S} {K:ah.S->Prop} (hb:ah.jx h b x) (hk:K x):ah.df h (AA b 0) K:=
 ⟨_,af hb rfl,_,af hb rfl,_,af hb rfl,_,af hb rfl,_,af hb rfl,_,af hb rfl,_,af hb rfl,hk⟩
theorem ah.j8 {h:aj} {x:ah.S} {K:Nat->aj->Prop} (hk: ∀b h',b=h.size->ah.jx h' b x->Fr No h h'->K b h'):aV h (.cells ah.S.z.arr T.ah) λb mO=>ah.dV mO (AA b 0) x (K b):=
 kV (vs:=x.l) rfl rfl hk
theorem ah.dH {h:aj} {x:ah.S} {K:Nat->aj->Prop} (hk: ∀b h',b=h.size->ah.jx h' b x->Fr No h h'->K b h'):aV h (.cells x.arr T.ah) λb mO=>K b mO:=
 cX (hk _ _ rfl cz (Fr.push _ _))
theorem ah.mA {h:aj} {b:Nat} {y x:ah.S} {K:aj->Prop} (a0:ah.jx h b y) (hk: ∀h',ah.jx h' b x->Fr (λy=>y=b) h h'->h'.size=h.size->K h'):ah.dV h (AA b 0) x K:=
 (show gY (AA b 0) x.l 0 h K from gF a0 rfl rfl λh1 d1 d2 d3=>hk h1 d1 (Fr.of_eq d2 λc hc=>d3 c hc) d2)
abbrev aC.jx (h:aj) (b:Nat) (x:aC.S):Prop:=h[b]? =some (.cells x.arr T.aC (0,0))
theorem aC.ex {K:aC.S->Prop} (x:aC.S) (hk:K x):aC.EX K:=⟨_,_,_,_,_,_,_,_,_,_,_,_,_,_,_,_,_,_,_,_,hk⟩
theorem aC.jk {h:aj} {b:Nat} {x:aC.S} {K:aC.S->Prop} (hb:aC.jx h b x) (hk:K x):aC.df h (AA b 0) K:=
 ⟨_,af hb rfl,_,af hb rfl,_,af hb rfl,_,af hb rfl,_,af hb rfl,_,af hb rfl,_,af hb rfl,_,af hb rfl,_,af hb rfl,_,af hb rfl,_,af hb rfl,_,af hb rfl,_,af hb rfl,_,af hb rfl,_,af hb rfl,_,af hb rfl,_,af hb rfl,_,af hb rfl,_,af hb rfl,_,af hb rfl,hk⟩
theorem aC.j8 {h:aj} {x:aC.S} {K:Nat->aj->Prop} (hk: ∀b h',b=h.size->aC.jx h' b x->Fr No h h'->K b h'):aV h (.cells aC.S.z.arr T.aC) λb mO=>aC.dV mO (AA b 0) x (K b):=
 kV (vs:=x.l) rfl rfl hk
theorem aC.dH {h:aj} {x:aC.S} {K:Nat->aj->Prop} (hk: ∀b h',b=h.size->aC.jx h' b x->Fr No h h'->K b h'):aV h (.cells x.arr T.aC) λb mO=>K b mO:=
 cX (hk _ _ rfl cz (Fr.push _ _))
theorem aC.mA {h:aj} {b:Nat} {y x:aC.S} {K:aj->Prop} (a0:aC.jx h b y) (hk: ∀h',aC.jx h' b x->Fr (λy=>y=b) h h'->h'.size=h.size->K h'):aC.dV h (AA b 0) x K:=
 (show gY (AA b 0) x.l 0 h K from gF a0 rfl rfl λh1 d1 d2 d3=>hk h1 d1 (Fr.of_eq d2 λc hc=>d3 c hc) d2)
abbrev aE.jx (h:aj) (b:Nat) (x:aE.S):Prop:=h[b]? =some (.cells x.arr T.aE (0,0))
theorem aE.ex {K:aE.S->Prop} (x:aE.S) (hk:K x):aE.EX K:=⟨_,_,_,_,_,_,_,hk⟩
theorem aE.jk {h:aj} {b:Nat} {x:aE.S} {K:aE.S->Prop} (hb:aE.jx h b x) (hk:K x):aE.df h (AA b 0) K:=
 ⟨_,af hb rfl,_,af hb rfl,_,af hb rfl,_,af hb rfl,_,_,_,af hb rfl,hk⟩
theorem aE.yS {h:aj} {a:Addr} {x:aE.S} {K:aE.S->Prop} (hb:fE a x.l 0 h) (hk:K x):aE.df h a K:=by
 obtain⟨q0,q1,q2,q3,q4,_⟩:=hb;rw[jz] at q0;exact⟨_,q0,_,q1,_,q2,_,q3,_,_,_,q4,hk⟩
theorem aE.Lq {h:aj} {b:Nat} {x:aE.S} (hb:aE.jx h b x):fE (AA b 0) x.l 0 h:=
 lR hb (λj v hj=>by rw[bZ];simpa using hj)
theorem aE.j8 {h:aj} {x:aE.S} {K:Nat->aj->Prop} (hk: ∀b h',b=h.size->aE.jx h' b x->Fr No h h'->K b h'):aV h (.cells aE.S.z.arr T.aE) λb mO=>aE.dV mO (AA b 0) x (K b):=
 kV (vs:=x.l) rfl rfl hk
theorem aE.dH {h:aj} {x:aE.S} {K:Nat->aj->Prop} (hk: ∀b h',b=h.size->aE.jx h' b x->Fr No h h'->K b h'):aV h (.cells x.arr T.aE) λb mO=>K b mO:=
 cX (hk _ _ rfl cz (Fr.push _ _))
theorem aE.mA {h:aj} {b:Nat} {y x:aE.S} {K:aj->Prop} (a0:aE.jx h b y) (hk: ∀h',aE.jx h' b x->Fr (λy=>y=b) h h'->h'.size=h.size->K h'):aE.dV h (AA b 0) x K:=
 (show gY (AA b 0) x.l 0 h K from gF a0 rfl rfl λh1 d1 d2 d3=>hk h1 d1 (Fr.of_eq d2 λc hc=>d3 c hc) d2)
abbrev aw.jx (h:aj) (b:Nat) (x:aw.S):Prop:=h[b]? =some (.cells x.arr T.aw (0,0))
theorem aw.ex {K:aw.S->Prop} (x:aw.S) (hk:K x):aw.EX K:=⟨_,_,_,_,_,_,_,_,_,_,_,_,_,_,_,_,_,_,_,_,_,_,_,hk⟩
theorem aw.jk {h:aj} {b:Nat} {x:aw.S} {K:aw.S->Prop} (hb:aw.jx h b x) (hk:K x):aw.df h (AA b 0) K:=
 ⟨_,af hb rfl,_,af hb rfl,_,af hb rfl,_,af hb rfl,_,af hb rfl,_,af hb rfl,_,af hb rfl,_,af hb rfl,_,af hb rfl,_,af hb rfl,_,af hb rfl,_,af hb rfl,_,af hb rfl,_,af hb rfl,_,af hb rfl,_,af hb rfl,_,af hb rfl,_,af hb rfl,_,af hb rfl,_,af hb rfl,_,_,_,af hb rfl,hk⟩
theorem aw.j8 {h:aj} {x:aw.S} {K:Nat->aj->Prop} (hk: ∀b h',b=h.size->aw.jx h' b x->Fr No h h'->K b h'):aV h (.cells aw.S.z.arr T.aw) λb mO=>aw.dV mO (AA b 0) x (K b):=
 kV (vs:=x.l) rfl rfl hk
theorem aw.dH {h:aj} {x:aw.S} {K:Nat->aj->Prop} (hk: ∀b h',b=h.size->aw.jx h' b x->Fr No h h'->K b h'):aV h (.cells x.arr T.aw) λb mO=>K b mO:=
 cX (hk _ _ rfl cz (Fr.push _ _))
theorem aw.mA {h:aj} {b:Nat} {y x:aw.S} {K:aj->Prop} (a0:aw.jx h b y) (hk: ∀h',aw.jx h' b x->Fr (λy=>y=b) h h'->h'.size=h.size->K h'):aw.dV h (AA b 0) x K:=
 (show gY (AA b 0) x.l 0 h K from gF a0 rfl rfl λh1 d1 d2 d3=>hk h1 d1 (Fr.of_eq d2 λc hc=>d3 c hc) d2)
abbrev bW.jx (h:aj) (b:Nat) (x:bW.S):Prop:=h[b]? =some (.cells x.arr T.bW (0,0))
theorem bW.ex {K:bW.S->Prop} (x:bW.S) (hk:K x):bW.EX K:=⟨_,_,_,_,_,_,_,_,_,_,_,_,hk⟩
theorem bW.jk {h:aj} {b:Nat} {x:bW.S} {K:bW.S->Prop} (hb:bW.jx h b x) (hk:K x):bW.df h (AA b 0) K:=
 ⟨_,af hb rfl,_,af hb rfl,_,af hb rfl,_,af hb rfl,_,af hb rfl,_,af hb rfl,_,af hb rfl,_,af hb rfl,_,af hb rfl,_,af hb rfl,_,af hb rfl,_,af hb rfl,hk⟩
theorem bW.dH {h:aj} {x:bW.S} {K:Nat->aj->Prop} (hk: ∀b h',b=h.size->bW.jx h' b x->Fr No h h'->K b h'):aV h (.cells x.arr T.bW) λb mO=>K b mO:=
 cX (hk _ _ rfl cz (Fr.push _ _))
abbrev aD.jx (h:aj) (b:Nat) (x:aD.S):Prop:=h[b]? =some (.cells x.arr T.aD (0,0))
theorem aD.ex {K:aD.S->Prop} (x:aD.S) (hk:K x):aD.EX K:=⟨_,_,_,_,_,_,_,_,_,_,_,_,_,_,_,_,_,_,_,_,_,hk⟩
theorem aD.jk {h:aj} {b:Nat} {x:aD.S} {K:aD.S->Prop} (hb:aD.jx h b x) (hk:K x):aD.df h (AA b 0) K:=
 ⟨_,af hb rfl,_,af hb rfl,_,af hb rfl,_,af hb rfl,_,af hb rfl,_,af hb rfl,_,af hb rfl,_,af hb rfl,_,af hb rfl,_,af hb rfl,_,af hb rfl,_,af hb rfl,_,af hb rfl,_,af hb rfl,_,af hb rfl,_,_,_,af hb rfl,_,af hb rfl,_,af hb rfl,_,af hb rfl,hk⟩
theorem aD.j8 {h:aj} {x:aD.S} {K:Nat->aj->Prop} (hk: ∀b h',b=h.size->aD.jx h' b x->Fr No h h'->K b h'):aV h (.cells aD.S.z.arr T.aD) λb mO=>aD.dV mO (AA b 0) x (K b):=
 kV (vs:=x.l) rfl rfl hk
theorem aD.dH {h:aj} {x:aD.S} {K:Nat->aj->Prop} (hk: ∀b h',b=h.size->aD.jx h' b x->Fr No h h'->K b h'):aV h (.cells x.arr T.aD) λb mO=>K b mO:=
 cX (hk _ _ rfl cz (Fr.push _ _))
theorem aD.mA {h:aj} {b:Nat} {y x:aD.S} {K:aj->Prop} (a0:aD.jx h b y) (hk: ∀h',aD.jx h' b x->Fr (λy=>y=b) h h'->h'.size=h.size->K h'):aD.dV h (AA b 0) x K:=
 (show gY (AA b 0) x.l 0 h K from gF a0 rfl rfl λh1 d1 d2 d3=>hk h1 d1 (Fr.of_eq d2 λc hc=>d3 c hc) d2)
abbrev aq.jx (h:aj) (b:Nat) (x:aq.S):Prop:=h[b]? =some (.cells x.arr T.aq (0,0))
theorem aq.ex {K:aq.S->Prop} (x:aq.S) (hk:K x):aq.EX K:=⟨_,_,_,_,_,_,_,_,hk⟩
theorem aq.jk {h:aj} {b:Nat} {x:aq.S} {K:aq.S->Prop} (hb:aq.jx h b x) (hk:K x):aq.df h (AA b 0) K:=
 ⟨_,af hb rfl,_,af hb rfl,_,af hb rfl,_,af hb rfl,_,af hb rfl,_,_,_,af hb rfl,hk⟩
theorem aq.j8 {h:aj} {x:aq.S} {K:Nat->aj->Prop} (hk: ∀b h',b=h.size->aq.jx h' b x->Fr No h h'->K b h'):aV h (.cells aq.S.z.arr T.aq) λb mO=>aq.dV mO (AA b 0) x (K b):=
 kV (vs:=x.l) rfl rfl hk
theorem aq.dH {h:aj} {x:aq.S} {K:Nat->aj->Prop} (hk: ∀b h',b=h.size->aq.jx h' b x->Fr No h h'->K b h'):aV h (.cells x.arr T.aq) λb mO=>K b mO:=
 cX (hk _ _ rfl cz (Fr.push _ _))
theorem aq.mA {h:aj} {b:Nat} {y x:aq.S} {K:aj->Prop} (a0:aq.jx h b y) (hk: ∀h',aq.jx h' b x->Fr (λy=>y=b) h h'->h'.size=h.size->K h'):aq.dV h (AA b 0) x K:=
 (show gY (AA b 0) x.l 0 h K from gF a0 rfl rfl λh1 d1 d2 d3=>hk h1 d1 (Fr.of_eq d2 λc hc=>d3 c hc) d2)
theorem ja.ex {K:ja.S->Prop} (x:ja.S) (hk:K x):ja.EX K:=⟨_,_,_,_,_,_,_,_,_,_,_,_,_,_,_,_,_,_,_,_,_,_,_,_,_,_,_,_,hk⟩
abbrev aJ.jx (h:aj) (b:Nat) (x:aJ.S):Prop:=h[b]? =some (.cells x.arr T.aJ (0,0))
theorem aJ.ex {K:aJ.S->Prop} (x:aJ.S) (hk:K x):aJ.EX K:=⟨_,_,_,_,_,_,_,_,_,_,_,_,hk⟩
theorem aJ.yS {h:aj} {a:Addr} {x:aJ.S} {K:aJ.S->Prop} (hb:fE a x.l 0 h) (hk:K x):aJ.df h a K:=by
 obtain⟨q0,q1,q2,q3,q4,q5,q6,q7,q8,q9,_⟩:=hb;rw[jz] at q0;exact⟨_,q0,_,q1,_,q2,_,q3,_,q4,_,q5,_,_,_,q6,_,q7,_,q8,_,q9,hk⟩
theorem aJ.dH {h:aj} {x:aJ.S} {K:Nat->aj->Prop} (hk: ∀b h',b=h.size->aJ.jx h' b x->Fr No h h'->K b h'):aV h (.cells x.arr T.aJ) λb mO=>K b mO:=
 cX (hk _ _ rfl cz (Fr.push _ _))
theorem aJ.mA {h:aj} {b:Nat} {y x:aJ.S} {K:aj->Prop} (a0:aJ.jx h b y) (hk: ∀h',aJ.jx h' b x->Fr (λy=>y=b) h h'->h'.size=h.size->K h'):aJ.dV h (AA b 0) x K:=
 (show gY (AA b 0) x.l 0 h K from gF a0 rfl rfl λh1 d1 d2 d3=>hk h1 d1 (Fr.of_eq d2 λc hc=>d3 c hc) d2)
theorem aM.ex {K:aM.S->Prop} (x:aM.S) (hk:K x):aM.EX K:=⟨_,_,_,_,_,_,hk⟩
abbrev bN.jx (h:aj) (b:Nat) (x:bN.S):Prop:=h[b]? =some (.cells x.arr T.bN (0,0))
theorem bN.ex {K:bN.S->Prop} (x:bN.S) (hk:K x):bN.EX K:=⟨_,_,_,_,_,_,_,_,_,_,_,_,_,_,_,_,_,_,_,_,_,_,_,hk⟩
theorem bN.jk {h:aj} {b:Nat} {x:bN.S} {K:bN.S->Prop} (hb:bN.jx h b x) (hk:K x):bN.df h (AA b 0) K:=
 ⟨_,af hb rfl,_,af hb rfl,_,af hb rfl,_,af hb rfl,_,af hb rfl,_,af hb rfl,_,af hb rfl,_,af hb rfl,_,af hb rfl,_,af hb rfl,_,af hb rfl,_,af hb rfl,_,af hb rfl,_,af hb rfl,_,af hb rfl,_,_,_,af hb rfl,_,af hb rfl,_,af hb rfl,_,af hb rfl,_,af hb rfl,_,af hb rfl,hk⟩
theorem bN.dH {h:aj} {x:bN.S} {K:Nat->aj->Prop} (hk: ∀b h',b=h.size->bN.jx h' b x->Fr No h h'->K b h'):aV h (.cells x.arr T.bN) λb mO=>K b mO:=
 cX (hk _ _ rfl cz (Fr.push _ _))
theorem gT.ex {K:gT.S->Prop} (x:gT.S) (hk:K x):gT.EX K:=⟨_,_,_,_,_,_,_,_,_,_,_,_,_,_,_,_,_,_,_,_,_,_,_,_,_,_,_,hk⟩
theorem mN.walk {sum : Int} (hv :
 R (.int .i64 (IntKind.wrap .i64 (2 * sum))) h) : Cl F.mN #[.int .i64 sum] h R :=
 aS (.seq .leaf (.seq .leaf .leaf)) Tryz.func285 hv
theorem om.walk {Db:bU} {xQ Im:Nat} {kQ:Int} (hv:aK (λ(t34:Bool) (aR:aj)=>if t34 then R (.I (-1)) aR else Bd kQ xQ/\aP Db λa=> ∃t39,ak aR ((a.add (toNat kQ*4)).add 1)=some (.U t39)/\R (.I (wrap .i64 t39)) aR) (λJ=>if(decide (kQ<0)) then J true h else if(decide (kQ≥(xQ:Int))) then J true h else Bd kQ xQ/\aP Db λku=> ∃t18,ak h ((ku.add (toNat kQ*4)).add 1)=some (.U t18)/\if(decide (t18>2)) then J true h else Bd kQ xQ/\aP Db λpE=>aa.df h (pE.add (toNat kQ*4)) λt25=>Bd kQ xQ/\aP Db λrY=>JL h ((rY.add (toNat kQ*4)).add 1) λt30=>Cl F.fH #[.U t30] h λv aZ=>aa.EX λt31=>v=t31.agg/\Kp h aZ [(some (pE.add (toNat kQ*4))),(some ((ku.add (toNat kQ*4)).add 1))]/\Cl F.iB #[t25.agg,t31.agg] aZ λeJ bJ=> ∃t32,eJ=.bool t32/\Kp aZ bJ [(some ((ku.add (toNat kQ*4)).add 1))]/\J (!t32) bJ)):Cl F.om #[.slice Db xQ Im,.I kQ] h R:=aS (lq (sq (sq (.join [(34,.one (.bool))] (pK 30)) (cq ll lf)) ll)) Tryz.func257 hv
theorem pz.walk {Db:bU} {xQ Im:Nat} {sum:Int} (hv:Cl F.fR #[.slice Db xQ Im] h λv aR=>Vl v λaow aox aoy=>Cl F.mN #[.I sum] aR λeJ aZ=>Vi eJ λt14=>aX Tryz.prog (Instr.makeSlice T.dt (.I t14) (.I t14)) aZ λgR bJ=>Vl gR λtG sJ ud=>Cl F.qk #[.slice tG sJ ud] bJ λkU cB=>aa.EX λt16=>kU=t16.agg/\aV cB (.cells t16.arr T.aa) λb cJ=>aX Tryz.prog (Builtin.append_ #[T.cE,T.cE] T.cE #[.slice aow aox aoy,.slice (some (AA b 0)) 1 1]) cJ λot cQ=>Vl ot λqq pd rM=>Cl F.fN #[.slice qq pd rM] cQ λxu cW=>aa.EX λt19=>xu=t19.agg/\Cl F.mr #[t19.agg] cW λAT dA=> ∃Qe Qf Qg uj,AT=.tuple #[.slice Qe Qf Qg,.I uj]/\if(uj !=0) then R (.tuple #[.Z,.I 3]) dA else if(sum==1) then Cl F.wZ #[.slice Qe Qf Qg] dA λDM fc=> ∃t28,DM=.int .u16 t28/\aV fc (.cells #[.int .u8 (wrap .u8 (Int.fdiv t28 (2 ^ min (toNat 8) (IntKind.bits .u16)))),.int .u8 (wrap .u8 t28)] T.uint8) λcD cP=>R (.tuple #[.slice (some (AA cD 0)) 2 2,.I 0]) cP else Cl F.ze #[.slice Qe Qf Qg] dA λEJ cV=> ∃t36,EJ=.int .u32 t36/\aV cV (.cells #[.int .u8 (wrap .u8 (Int.fdiv t36 (2 ^ min (toNat 24) (IntKind.bits .u32)))),.int .u8 (wrap .u8 (Int.fdiv t36 (2 ^ min (toNat 16) (IntKind.bits .u32)))),.int .u8 (wrap .u8 (Int.fdiv t36 (2 ^ min (toNat 8) (IntKind.bits .u32)))),.int .u8 (wrap .u8 t36)] T.uint8) λeY dD=>R (.tuple #[.slice (some (AA eY 0)) 4 4,.I 0]) dD):Cl F.pz #[.slice Db xQ Im,.I sum] h R:=aS (lq (lq (sq (lq (cq ll lf)) (sq (lq (cq (lq ll) lf)) (lq ll))))) Tryz.func259 hv
theorem qF.walk {Db:bU} {xQ Im:Nat} {kQ:Int} (hv:aV h (.cells aa.S.z.arr T.aa) λb aR=>aK (λ(t18:Bool) (aZ:aj)=>if t18 then aa.dV aZ (AA b 0) aa.S.z λbJ=>aa.df bJ (AA b 0) λr0=>R (.tuple #[r0.agg,.I 1]) bJ else Cl F.om #[.slice Db xQ Im,.I kQ] aZ λv cB=>Vi v λt22=>aK (λ(t29:Bool) (cJ:aj)=>if t29 then aa.dV cJ (AA b 0) aa.S.z λcQ=>aa.df cQ (AA b 0) λia=>R (.tuple #[ia.agg,.I 3]) cQ else Cl F.fN #[.slice Db xQ Im] cJ λeJ cW=>aa.EX λt32=>eJ=t32.agg/\aV cW (.cells aa.S.z.arr T.aa) λcD dA=>aa.dV dA (AA cD 0) t32 λfc=>aK (λ(cP:aj)=>aa.df cP (AA cD 0) λt52=>Cl F.oM #[t52.agg] cP λgR cV=> ∃t53,gR=.bool t53/\if(!t53) then aa.dV cV (AA b 0) aa.S.z λdD=>aa.df dD (AA b 0) λoS=>R (.tuple #[oS.agg,.I 3]) dD else aa.df cV (AA cD 0) λt56=>aa.dV cV (AA b 0) t56 λdF=>aa.df dF (AA b 0) λpG=>R (.tuple #[pG.agg,.I 0]) dF) (λBo=>if(decide (t22>0)) then Cl F.pz #[.slice Db xQ Im,.I t22] fc λkU fC=> ∃Yg Yh Yi xj,kU=.tuple #[.slice Yg Yh Yi,.I xj]/\if(xj !=0) then aa.dV fC (AA b 0) aa.S.z λgD=>aa.df gD (AA b 0) λyQ=>R (.tuple #[yQ.agg,.I xj]) gD else Hl fC cD 3 λSg Si Xo=>Cl F.qk #[.slice Yg Yh Yi] fC λot gX=>aa.EX λt48=>ot=t48.agg/\Kp fC gX [(some (AA cD 3))]/\aV gX (.cells t48.arr T.aa) λeY gQ=>Kp gX gQ [(some (AA cD 3))]/\aX Tryz.prog (Builtin.append_ #[T.cE,T.cE] T.cE #[.slice Sg Si Xo,.slice (some (AA eY 0)) 1 1]) gQ λxu fh=> ∃C9 By Da,xu=.slice C9 By Da/\aH fh (AA cD 3) (.slice C9 By Da) λjn=>Bo jn else Bo fc)) (λjo=>Cl F.dZ #[.slice Db xQ Im,.func (.func F.jF) #[] #[]] cB λAT ju=> ∃t25,AT=.bool t25/\if t25 then jo true ju else jo (decide (t22<0)) ju)) (λJ=>if(decide (kQ<0)) then J true aR else J (decide (kQ≥(xQ:Int))) aR)):Cl F.qF #[.slice Db xQ Im,.I kQ] h R:=aS (lq (sq (sq (.join [(18,.one (.bool))] lf) (cq ll lf)) (lq (lq (sq (sq (.join [(29,.one (.bool))] lf) (cq ll lf)) (lq (sq (lq (.join [] (cq (lq (sq (lq (cq ll lf)) (pK 8))) lf))) (sq (lq (cq ll lf)) ll)))))))) Tryz.func206 hv
theorem jF.walk {x:aa.S} (hv:aV h (.cells x.arr T.aa) λb aR=>aa.df aR (AA b 0) λt3=>Cl F.oM #[t3.agg] aR λv aZ=> ∃t4,v=.bool t4/\R (.bool (!t4)) aZ):Cl F.jF #[x.agg] h R:=aS (lq ll) Tryz.func256 hv
theorem qG.walk {x : aa.S} {kQ : Int} (hv :
 aV h (.cells x.arr T.aa) λb aR =>
 aK (fun (t18 : Bool) (aZ : aj) =>
 if t18 = true then
 R (.tuple #[.slice none 0 0, .int .i64 3]) aZ
 else
 ∃ um tO vO, ak aZ ⟨b, 3, none⟩ = some (.slice um tO vO) ∧
 Cl F.om #[.slice um tO vO, .int .i64 kQ] aZ λv bJ =>
 ∃ t22, v = .int .i64 t22 ∧
 if (decide (t22 < 0)) = true then
 R (.tuple #[.slice none 0 0, .int .i64 3]) bJ
 else
 if (t22 == 0) = true then
 ∃ o0 nJ pM, ak bJ ⟨b, 3, none⟩ = some (.slice o0 nJ pM) ∧
 Cl F.fN #[.slice o0 nJ pM] bJ λeJ cB =>
 aa.EX λt31 =>
 eJ = t31.agg ∧
 R (.tuple #[.slice t31.BN t31.xO t31.Ax, .int .i64 0]) cB
 else
 ∃ acP zM acQ, ak bJ ⟨b, 3, none⟩ = some (.slice acP zM acQ) ∧
 ∃ rJ rK vg, ak bJ ⟨b, 3, none⟩ = some (.slice rJ rK vg) ∧
 ((0 : Int) ≤ IntKind.wrap .i64 (((zM : Nat) : Int) - 1) ∧ IntKind.wrap .i64 (((zM : Nat) : Int) - 1) < ((rK : Nat) : Int)) ∧
 aP rJ λa =>
 aa.df bJ (a.add (Int.toNat (IntKind.wrap .i64 (((zM : Nat) : Int) - 1)) * 4)) λt41 =>
 aV bJ (.cells aa.S.z.arr T.aa) λcD cJ =>
 aa.dV cJ ⟨cD, 0, none⟩ t41 λcQ =>
 aK (fun (t60 : Bool) (cW : aj) =>
 if t60 = true then
 R (.tuple #[.slice none 0 0, .int .i64 3]) cW
 else
 ∃ WD acO Np, ak cW ⟨b, 3, none⟩ = some (.slice WD acO Np) ∧
 ((0 : Int) ≤ IntKind.wrap .i64 (((zM : Nat) : Int) - 1) ∧ IntKind.wrap .i64 (((zM : Nat) : Int) - 1) ≤ ((Np : Nat) : Int)) ∧
 Cl F.pz #[.slice (cZ WD Np 0 4) ((Int.toNat (IntKind.wrap .i64 (((zM : Nat) : Int) - 1))) - 0) (Np - 0), .int .i64 t22] cW λgR dA =>
 ∃ Yj Yk Yl ad5, gR = .tuple #[.slice Yj Yk Yl, .int .i64 ad5] ∧
 if (ad5 != 0) = true then
 R (.tuple #[.slice none 0 0, .int .i64 ad5]) dA
 else
 ∃ aiN aiO aiP, ak dA ⟨cD, 2, none⟩ = some (.slice aiN aiO aiP) ∧
 Cl F.ke #[.slice Yj Yk Yl, .slice aiN aiO aiP] dA λkU fc =>
 ∃ t78, kU = .bool t78 ∧
 if (!t78) = true then
 R (.tuple #[.slice none 0 0, .int .i64 10]) fc
 else
 ∃ Ym ad6 NZ, ak fc ⟨b, 3, none⟩ = some (.slice Ym ad6 NZ) ∧
 ((0 : Int) ≤ IntKind.wrap .i64 (((zM : Nat) : Int) - 1) ∧ IntKind.wrap .i64 (((zM : Nat) : Int) - 1) ≤ ((NZ : Nat) : Int)) ∧
 Cl F.fN #[.slice (cZ Ym NZ 0 4) ((Int.toNat (IntKind.wrap .i64 (((zM : Nat) : Int) - 1))) - 0) (NZ - 0)] fc λot cP =>
 aa.EX λt84 =>
 ot = t84.agg ∧
 R (.tuple #[.slice t84.BN t84.xO t84.Ax, .int .i64 0]) cP)
 (λjo =>
 if (decide ((IntKind.wrap .i64 (((zM : Nat) : Int) - 1)) ≤ kQ)) = true then
 jo true cQ
 else
 aa.df cQ ⟨cD, 0, none⟩ λt46 =>
 ∃ D0 D9 FH, ak cQ ⟨cD, 2, none⟩ = some (.slice D0 D9 FH) ∧
 Cl F.qk #[.slice D0 D9 FH] cQ λxu cV =>
 aa.EX λt49 =>
 xu = t49.agg ∧
 Kp cQ cV [(some ⟨cD, 0, none⟩)] ∧
 Cl F.iB #[t46.agg, t49.agg] cV λAT dD =>
 ∃ t50, AT = .bool t50 ∧
 if (!t50) = true then
 jo true dD
 else
 ∃ aoz aiQ aoA, ak dD ⟨cD, 2, none⟩ = some (.slice aoz aiQ aoA) ∧
 Cl F.mN #[.int .i64 t22] dD λDM dF =>
 ∃ t58, DM = .int .i64 t58 ∧
 Kp dD dF [(some ⟨cD, 2, none⟩)] ∧
 jo (((aiQ : Nat) : Int) != t58) dF))
 (λJ =>
 aa.df aR ⟨b, 0, none⟩ λt11 =>
 Cl F.oM #[t11.agg] aR λEJ fC =>
 ∃ t12, EJ = .bool t12 ∧
 if (!t12) = true then
 J true fC
 else
 ∃ t16, ak fC ⟨b, 0, none⟩ = some (.int .i64 t16) ∧
 J (t16 != 4) fC)) : Cl F.qG #[x.agg, .int .i64 kQ] h R :=
 aS (.seq .leaf (.seq (.seq (.join [(18, .one (.bool))] .leaf) (.cond (.seq .leaf .leaf) .leaf)) (.seq .leaf (.seq (.block (.seq .leaf (.cond (.seq .leaf .leaf) (.seq .leaf (.cond (.seq .leaf .leaf) .leaf))))) (.seq .leaf (.seq .leaf (.seq (.seq (.join [(60, .one (.bool))] (.qW (jh 19 0 .done))) (.cond (.seq .leaf .leaf) .leaf)) (.seq .leaf (.seq (.block (.seq .leaf (.cond (.seq .leaf .leaf) (.seq .leaf (.cond (.seq .leaf .leaf) .leaf))))) (.seq .leaf .leaf)))))))))) Tryz.func244 hv
theorem rq.walk {p:aC.S} (hv:aV h (.cells p.arr T.aC) λb aR=> ∃t4,ak aR (AA b 0)=some (.U t4)/\if((wrap .u64 ((BitVec.ofInt (IntKind.bits .u64) t4 &&& ~~~ BitVec.ofInt (IntKind.bits .u64) 409638).toNat:Int))==0) then∃t9,ak aR (AA b 1)=some (.I t9)/\if(decide (t9≥0)) then∃t14,ak aR (AA b 1)=some (.I t14)/\if(decide (t14<=2)) then az.df aR (AA b 2) λt19=>Cl F.kC #[t19.agg] aR λv aZ=> ∃t20,v=.bool t20/\if t20 then az.df aZ (AA b 7) λt24=>Cl F.kC #[t24.agg] aZ λeJ bJ=> ∃t25,eJ=.bool t25/\if t25 then ah.df bJ (AA b 12) λt29=>Cl F.kk #[t29.agg] bJ λgR cB=> ∃t30,gR=.bool t30/\if t30 then∃t34,ak cB (AA b 19)=some (.U t34)/\R (.bool (decide (t34<=1099511627776))) cB else R (.bool false) cB else R (.bool false) bJ else R (.bool false) aZ else R (.bool false) aR else R (.bool false) aR else R (.bool false) aR):Cl F.rq #[p.agg] h R:=aS (lq ll) Tryz.func202 hv
theorem nm.walk {p:aC.S} (hv:aV h (.cells p.arr T.aC) λb aR=>aV aR (.cells aa.S.z.arr T.aa) λcD aZ=>aC.df aZ (AA b 0) λt11=>Cl F.rq #[t11.agg] aZ λv bJ=> ∃t12,v=.bool t12/\if(!t12) then aa.dV bJ (AA cD 0) aa.S.z λcB=>aa.df cB (AA cD 0) λr0=>R (.tuple #[r0.agg,.I 3]) cB else az.df bJ (AA b 2) λt17=>Cl F.uw #[t17.agg] bJ λeJ cJ=>aa.EX λvK=> ∃vi,eJ=.tuple #[vK.agg,.I vi]/\aV cJ (.cells aa.S.z.arr T.aa) λeY cQ=>aa.dV cQ (AA eY 0) vK λcW=>az.df cW (AA b 7) λt23=>Cl F.uw #[t23.agg] cW λgR dA=>aa.EX λNd=> ∃Ky,gR=.tuple #[Nd.agg,.I Ky]/\aV dA (.cells aa.S.z.arr T.aa) λjQ fc=>aa.dV fc (AA jQ 0) Nd λcP=>ah.df cP (AA b 12) λt29=>Cl F.oE #[t29.agg] cP λkU cV=>aa.EX λNh=> ∃HY,kU=.tuple #[Nh.agg,.I HY]/\aV cV (.cells aa.S.z.arr T.aa) λpH dD=>aa.dV dD (AA pH 0) Nh λdF=>Hu dF b 0 λt35=>Hi dF b 1 λt38=>aa.df dF (AA eY 0) λt41=>Hl dF pH 3 λadK XB aiv=>Bd 0 XB/\aP adK λa=>aa.df dF (a.add (toNat 0*4)) λt45=>aa.df dF (AA jQ 0) λt46=>Hl dF pH 3 λD0 D9 FH=>Bd 1 D9/\aP D0 λku=>aa.df dF (ku.add (toNat 1*4)) λt50=>Hu dF b 19 λt52=>Cl F.fH #[.U 7] dF λot fC=>aa.EX λt33=>ot=t33.agg/\Kp dF fC [(some (AA b 19)),(some (ku.add (toNat 1*4))),(some (AA pH 3)),(some (AA jQ 0)),(some (a.add (toNat 0*4))),(some (AA pH 3)),(some (AA eY 0)),(some (AA b 1)),(some (AA b 0))]/\Cl F.fH #[.U t35] fC λxu gD=>aa.EX λt36=>xu=t36.agg/\Kp fC gD [(some (AA b 19)),(some (ku.add (toNat 1*4))),(some (AA pH 3)),(some (AA jQ 0)),(some (a.add (toNat 0*4))),(some (AA pH 3)),(some (AA eY 0)),(some (AA b 1))]/\Cl F.fH #[.U (wrap .u64 t38)] gD λAT gX=>aa.EX λt40=>AT=t40.agg/\Kp gD gX [(some (AA b 19)),(some (ku.add (toNat 1*4))),(some (AA pH 3)),(some (AA jQ 0)),(some (a.add (toNat 0*4))),(some (AA pH 3)),(some (AA eY 0)),(some (AA b 1))]/\Cl F.fH #[.U t52] gX λDM gQ=>aa.EX λt53=>DM=t53.agg/\Kp gX gQ [(some (ku.add (toNat 1*4))),(some (AA pH 3)),(some (AA jQ 0)),(some (a.add (toNat 0*4))),(some (AA pH 3)),(some (AA eY 0)),(some (AA b 1))]/\aV gQ (.cells (t33.l++t36.l++t40.l++t41.l++t45.l++t46.l++t50.l++t53.l).toArray T.aa) λBz fh=>Kp gQ fh [(some (AA pH 3)),(some (AA pH 3)),(some (AA b 1))]/\Cl F.qF #[.slice (some (AA Bz 0)) 8 8,.I 2] fh λEJ jn=>aa.EX λIo=> ∃Ip,EJ=.tuple #[Io.agg,.I Ip]/\aa.dV jn (AA cD 0) Io λju=>aa.df ju (AA cD 0) λia=>R (.tuple #[ia.agg,.I Ip]) ju):Cl F.nm #[p.agg] h R:=aS (lq (sq (lq (cq ll lf)) (lq (lq (lq (sq (.qW (.op 1 (.op 2 (jh 3 4 (jh 12 8 (.op 0 (.op 3 (.op 7 (jh 3 20 .done))))))))) ll)))))) Tryz.func177 hv
theorem tc.walk {x:aa.S} (hv:aV h (.cells x.arr T.aa) λb aR=>aV aR (.cells aC.S.z.arr T.aC) λcD aZ=>aa.df aZ (AA b 0) λt15=>Cl F.qG #[t15.agg,.I 2] aZ λv bJ=> ∃yA wh ahi rO,v=.tuple #[.slice yA wh ahi,.I rO]/\if(rO !=0) then aC.dV bJ (AA cD 0) aC.S.z λcB=>aC.df cB (AA cD 0) λr0=>R (.tuple #[r0.agg,.I rO]) cB else if((wh:Int) !=8) then aC.dV bJ (AA cD 0) aC.S.z λcJ=>aC.df cJ (AA cD 0) λia=>R (.tuple #[ia.agg,.I 3]) cJ else Bd 3 wh/\aP yA λa=>aa.df bJ (a.add (toNat 3*4)) λt32=>Cl F.th #[t32.agg] bJ λeJ cQ=>az.EX λNw=> ∃FL,eJ=.tuple #[Nw.agg,.I FL]/\aV cQ (.cells az.S.z.arr T.az) λeY cW=>az.dV cW (AA eY 0) Nw λdA=>Bd 5 wh/\aP yA λku=>aa.df dA (ku.add (toNat 5*4)) λt39=>Cl F.th #[t39.agg] dA λgR fc=>az.EX λaiR=> ∃yB,gR=.tuple #[aiR.agg,.I yB]/\aV fc (.cells az.S.z.arr T.az) λjQ cP=>az.dV cP (AA jQ 0) aiR λcV=>aK (λ(id:bU) (g:Int) (dD:aj)=>Bd 1 wh/\aP yA λpE=>JL dD ((pE.add (toNat 1*4)).add 1) λt58=>Bd 2 wh/\aP yA λrY=>JL dD ((rY.add (toNat 2*4)).add 1) λt62=>az.df dD (AA eY 0) λt64=>az.df dD (AA jQ 0) λt65=>aP id λvS=>ah.df dD vS λt66=>Bd 7 wh/\aP yA λBJ=>JL dD ((BJ.add (toNat 7*4)).add 1) λt70=>aV dD (.cells aC.S.z.arr T.aC) λpH dF=>Kp dD dF [(some ((BJ.add (toNat 7*4)).add 1)),id,(some (AA jQ 0)),(some (AA eY 0)),(some ((rY.add (toNat 2*4)).add 1)),(some ((pE.add (toNat 1*4)).add 1))]/\aC.dV dF (AA pH 0) ⟨t58,(wrap .i64 t62),t64.f0,t64.f1,t64.f2,t64.f3,t64.f4,t65.f0,t65.f1,t65.f2,t65.f3,t65.f4,t66.f0,t66.f1,t66.f2,t66.f3,t66.f4,t66.f5,t66.f6,t70⟩ λfC=>aC.df fC (AA pH 0) λt73=>Cl F.nm #[t73.agg] fC λkU gD=>aa.EX λaiS=> ∃aiT,kU=.tuple #[aiS.agg,.I aiT]/\aV gD (.cells aa.S.z.arr T.aa) λBz gX=>aa.dV gX (AA Bz 0) aiS λgQ=>aK (λ(t96:Bool) (fh:aj)=>if t96 then aC.dV fh (AA cD 0) aC.S.z λjn=>aC.df jn (AA cD 0) λoS=>R (.tuple #[oS.agg,.I 3]) jn else aC.df fh (AA pH 0) λt98=>aC.dV fh (AA cD 0) t98 λju=>aC.df ju (AA cD 0) λpG=>R (.tuple #[pG.agg,.I 0]) ju) (λjo=>if(FL !=0) then jo true gQ else if(yB !=0) then jo true gQ else if(g !=0) then jo true gQ else if(aiT !=0) then jo true gQ else aa.df gQ (AA Bz 0) λt92=>aa.df gQ (AA b 0) λt93=>Cl F.iB #[t92.agg,t93.agg] gQ λot sK=> ∃t94,ot=.bool t94/\jo (!t94) sK)) (λJ=>Bd 4 wh/\aP yA λKn=>aa.df cV (Kn.add (toNat 4*4)) λt46=>Bd 6 wh/\aP yA λRL=>aa.df cV (RL.add (toNat 6*4)) λt49=>(aV cV (.cells (t46.l++t49.l).toArray T.aa) λSQ rL=>(Cl F.fN #[.slice (some (AA SQ 0)) 2 2] rL λxu qK=>aa.EX λt51=>xu=t51.agg/\(Cl F.oN #[t51.agg] qK λAT vh=>ah.EX λaiU=> ∃aiV,AT=.tuple #[aiU.agg,.I aiV]/\aV vh (.cells ah.S.z.arr T.ah) λb_7 zY=>ah.dV zY (AA b_7 0) aiU λBL=>J (some (AA b_7 0)) aiV BL)/\(aV qK (.cells ah.S.z.arr T.ah) λb_8 BM=>Cl F.oN #[t51.agg] BM λDM F0=>ah.EX λYn=> ∃Yo,DM=.tuple #[Yn.agg,.I Yo]/\ah.dV F0 (AA b_8 0) Yn λIU=>J (some (AA b_8 0)) Yo IU)/\True)/\(aV rL (.cells ah.S.z.arr T.ah) λb_9 Hd=>Cl F.fN #[.slice (some (AA SQ 0)) 2 2] Hd λEJ sk=>aa.EX λaiW=>EJ=aiW.agg/\Cl F.oN #[aiW.agg] sk λSR IW=>ah.EX λYp=> ∃Yq,SR=.tuple #[Yp.agg,.I Yq]/\ah.dV IW (AA b_9 0) Yp λSU=>J (some (AA b_9 0)) Yq SU)/\True)/\(aV cV (.cells ah.S.z.arr T.ah) λad7 Lr=>Kp cV Lr [(some (RL.add (toNat 6*4))),(some (Kn.add (toNat 4*4)))]/\aV Lr (.cells (t46.l++t49.l).toArray T.aa) λahj Qh=>Cl F.fN #[.slice (some (AA ahj 0)) 2 2] Qh λDc IX=>aa.EX λaiX=>Dc=aiX.agg/\Cl F.oN #[aiX.agg] IX λEK Mt=>ah.EX λYr=> ∃Ys,EK=.tuple #[Yr.agg,.I Ys]/\ah.dV Mt (AA ad7 0) Yr λtX=>J (some (AA ad7 0)) Ys tX)/\True)):Cl F.tc #[x.agg] h R:=aS (lq (lq (sq (bq (lq (cq ll (lq (cq ll lf))))) (lq (lq (sq (.join [(9,.one (.ptr)),(10,.one (.int .i64))] (.qW (jh 6 0 (.alts (.fork 6 (.alts (.fork 7 (.alts (.fork 8 (jh 6 9 .done) (.fork 12 (jh 4 8 (.op 13 (.op 14 .done))) .mD))) (.fork 12 (jh 5 7 (.op 13 (.op 14 .done))) .mD))) (.fork 12 (jh 6 6 (.op 13 (.op 14 .done))) .mD)))))) (sq (pK 19) (lq (sq (sq (.join [(96,.one (.bool))] lf) (cq ll lf)) ll))))))))) Tryz.func194 hv
theorem w5.walk {s:Int} {SV:Int} (hv:if((wrap .u32 ((BitVec.ofInt (IntKind.bits .u32) s &&& BitVec.ofInt (IntKind.bits .u32) 1).toNat:Int))==1) then R (.int .u32 (wrap .u32 ((BitVec.ofInt (IntKind.bits .u32) (Int.fdiv s (2 ^ min (toNat 1) (IntKind.bits .u32))) ^^^ BitVec.ofInt (IntKind.bits .u32) SV).toNat:Int))) h else R (.int .u32 (Int.fdiv s (2 ^ min (toNat 1) (IntKind.bits .u32)))) h):Cl F.w5 #[.int .u32 s,.int .u32 SV] h R:=aS (lq (sq (lq (cq ll lf)) ll)) Tryz.func327 hv
theorem u0.walk {s:Int} {c:Int} {SV:Int} (hv: ∃(I:Int->Int->aj->Prop) (mu:Int->Int->aj->Nat),I (wrap .u32 ((BitVec.ofInt (IntKind.bits .u32) s ^^^ BitVec.ofInt (IntKind.bits .u32) (wrap .u32 c)).toNat:Int)) 0 h/\∀(s_1:Int) (t11:Int) (aR:aj),I s_1 t11 aR->if(decide (t11<8)) then Cl F.w5 #[.int .u32 s_1,.int .u32 SV] aR λv aZ=> ∃t15,v=.int .u32 t15/\(I t15 (wrap .i64 (t11+1)) aZ/\mu t15 (wrap .i64 (t11+1)) aZ<mu s_1 t11 aR) else R (.int .u32 s_1) aR):Cl F.u0 #[.int .u32 s,.int .u8 c,.int .u32 SV] h R:=aS (lq (lq (sq (lq (bq (.loop [(0,.one (.int .u32)),(11,.one (.int .i64))] (lq (sq (cq lf lf) (sq (bq lf) lf)))))) ll))) Tryz.func323 hv
theorem zj.walk {s:Int} {Bf:bU} {xd Dq:Nat} {SV:Int} (hv: ∃(I:Int->Int->aj->Prop) (mu:Int->Int->aj->Nat),I s 0 h/\∀(s_1:Int) (t11:Int) (aR:aj),I s_1 t11 aR->if(decide (t11<(xd:Int))) then Bd t11 xd/\aP Bf λa=>V1 aR (a.add (toNat t11*1)) λt14=>Cl F.u0 #[.int .u32 s_1,.int .u8 t14,.int .u32 SV] aR λv aZ=> ∃t18,v=.int .u32 t18/\(I t18 (wrap .i64 (t11+1)) aZ/\mu t18 (wrap .i64 (t11+1)) aZ<mu s_1 t11 aR) else R (.int .u32 s_1) aR):Cl F.zj #[.int .u32 s,.slice Bf xd Dq,.int .u32 SV] h R:=aS (lq (sq (lq (bq (.loop [(0,.one (.int .u32)),(11,.one (.int .i64))] (lq (sq (cq lf lf) (sq (bq ll) lf)))))) ll)) Tryz.func315 hv
theorem wZ.walk {Bf:bU} {xd Dq:Nat} (hv:Cl F.zj #[.int .u32 65535,.slice Bf xd Dq,.int .u32 33800] h λv aR=> ∃t4,v=.int .u32 t4/\R (.int .u16 (wrap .u16 ((BitVec.ofInt (IntKind.bits .u16) (IntKind.max .u16) ^^^ BitVec.ofInt (IntKind.bits .u16) (wrap .u16 t4)).toNat:Int))) aR):Cl F.wZ #[.slice Bf xd Dq] h R:=aS (lq ll) Tryz.func296 hv
theorem ze.walk {Bf:bU} {xd Dq:Nat} (hv:Cl F.zj #[.int .u32 4294967295,.slice Bf xd Dq,.int .u32 2197175160] h λv aR=> ∃t4,v=.int .u32 t4/\R (.int .u32 (wrap .u32 ((BitVec.ofInt (IntKind.bits .u32) (IntKind.max .u32) ^^^ BitVec.ofInt (IntKind.bits .u32) t4).toNat:Int))) aR):Cl F.ze #[.slice Bf xd Dq] h R:=aS (lq ll) Tryz.func297 hv
theorem kk.walk {x:ah.S} (hv:aV h (.cells x.arr T.ah) λb aR=>az.df aR (AA b 0) λt4=>Cl F.kC #[t4.agg] aR λv aZ=> ∃t5,v=.bool t5/\if t5 then∃t8,ak aZ (AA b 5)=some (.U t8)/\if(decide (t8<=1099511627776)) then∃t13,ak aZ (AA b 6)=some (.U t13)/\R (.bool (decide (t13<=1099511627776))) aZ else R (.bool false) aZ else R (.bool false) aZ):Cl F.kk #[x.agg] h R:=aS (lq ll) Tryz.func237 hv
theorem uY.walk {a:ah.S} {b:ah.S} (hv:aV h (.cells a.arr T.ah) λcD aR=>aV aR (.cells b.arr T.ah) λeY aZ=>Hu aZ cD 5 λt7=> ∃t9,ak aZ (AA eY 5)=some (.U t9)/\if(t7 !=t9) then Hu aZ cD 5 λt12=> ∃t14,ak aZ (AA eY 5)=some (.U t14)/\R (.bool (decide (t12<t14))) aZ else Hu aZ cD 6 λt18=> ∃t20,ak aZ (AA eY 6)=some (.U t20)/\if(t18 !=t20) then Hu aZ cD 6 λt23=> ∃t25,ak aZ (AA eY 6)=some (.U t25)/\R (.bool (decide (t23<t25))) aZ else az.df aZ (AA cD 0) λt28=>az.df aZ (AA eY 0) λt30=>Cl F.ab2 #[t28.agg,t30.agg] aZ λv bJ=> ∃t31,v=.bool t31/\R (.bool t31) bJ):Cl F.uY #[a.agg,b.agg] h R:=aS (lq (sq (bq (lq (cq ll (lq (cq ll lf))))) ll)) Tryz.func238 hv
theorem oE.walk {x:ah.S} (hv:aV h (.cells x.arr T.ah) λb aR=>aV aR (.cells aa.S.z.arr T.aa) λcD aZ=>ah.df aZ (AA b 0) λt6=>Cl F.kk #[t6.agg] aZ λv bJ=> ∃t7,v=.bool t7/\if(!t7) then aa.dV bJ (AA cD 0) aa.S.z λcB=>aa.df cB (AA cD 0) λr0=>R (.tuple #[r0.agg,.I 3]) cB else az.df bJ (AA b 0) λt12=>Cl F.uw #[t12.agg] bJ λeJ cJ=>aa.EX λIg=> ∃vN,eJ=.tuple #[Ig.agg,.I vN]/\aV cJ (.cells aa.S.z.arr T.aa) λeY cQ=>aa.dV cQ (AA eY 0) Ig λcW=>aa.df cW (AA eY 0) λt16=>Hu cW b 5 λt18=>Hu cW b 6 λt21=>Cl F.fH #[.U t18] cW λgR dA=>aa.EX λt19=>gR=t19.agg/\Kp cW dA [(some (AA b 6)),(some (AA eY 0))]/\Cl F.fH #[.U t21] dA λkU fc=>aa.EX λt22=>kU=t22.agg/\Kp dA fc [(some (AA eY 0))]/\aV fc (.cells (t19.l++t22.l).toArray T.aa) λjQ cP=>Kp fc cP [(some (AA eY 0))]/\Cl F.fN #[.slice (some (AA jQ 0)) 2 2] cP λot cV=>aa.EX λt24=>ot=t24.agg/\Kp cP cV [(some (AA eY 0))]/\aV cV (.cells (t16.l++t24.l).toArray T.aa) λpH dD=>Cl F.fN #[.slice (some (AA pH 0)) 2 2] dD λxu dF=>aa.EX λt26=>xu=t26.agg/\aa.dV dF (AA cD 0) t26 λfC=>aa.df fC (AA cD 0) λia=>R (.tuple #[ia.agg,.I vN]) fC):Cl F.oE #[x.agg] h R:=aS (lq (sq (lq (cq ll lf)) (lq (sq (.qW (jh 3 0 (.op 4 (.op 5 (.op 11 (.op 3 (jh 5 6 (.op 12 (.op 13 .done))))))))) lf)))) Tryz.func204 hv
theorem oN.walk {x:aa.S} (hv:aV h (.cells x.arr T.aa) λb aR=>aV aR (.cells ah.S.z.arr T.ah) λcD aZ=>aK (λ(t34:Bool) (bJ:aj)=>if t34 then ah.dV bJ (AA cD 0) ah.S.z λcB=>ah.df cB (AA cD 0) λr0=>R (.tuple #[r0.agg,.I 3]) cB else Hl bJ b 3 λrJ rK vg=>Bd 0 rK/\aP rJ λa=>aa.df bJ (a.add (toNat 0*4)) λt40=>Cl F.th #[t40.agg] bJ λv cJ=>az.EX λxg=> ∃xh,v=.tuple #[xg.agg,.I xh]/\aV cJ (.cells az.S.z.arr T.az) λeY cQ=>az.dV cQ (AA eY 0) xg λcW=>az.df cW (AA eY 0) λt44=>Hl cW b 3 λSg Si Xo=>Bd 1 Si/\aP Sg λku=>L3 cW ((ku.add (toNat 1*4)).add 3) λNl KJ RZ=>Bd 0 KJ/\aP Nl λpE=>JL cW ((pE.add (toNat 0*4)).add 1) λt52=>Hl cW b 3 λIb CS KL=>Bd 1 CS/\aP Ib λrY=>L3 cW ((rY.add (toNat 1*4)).add 3) λN0 N1 SW=>Bd 1 N1/\aP N0 λvS=>JL cW ((vS.add (toNat 1*4)).add 1) λt60=>aV cW (.cells ah.S.z.arr T.ah) λjQ dA=>Kp cW dA [(some ((vS.add (toNat 1*4)).add 1)),(some ((rY.add (toNat 1*4)).add 3)),(some (AA b 3)),(some ((pE.add (toNat 0*4)).add 1)),(some ((ku.add (toNat 1*4)).add 3)),(some (AA b 3)),(some (AA eY 0))]/\ah.dV dA (AA jQ 0) ⟨t44.f0,t44.f1,t44.f2,t44.f3,t44.f4,t52,t60⟩ λfc=>ah.df fc (AA jQ 0) λt63=>Cl F.oE #[t63.agg] fc λeJ cP=>aa.EX λXq=> ∃Ih,eJ=.tuple #[Xq.agg,.I Ih]/\aV cP (.cells aa.S.z.arr T.aa) λpH cV=>aa.dV cV (AA pH 0) Xq λdD=>aK (λ(t78:Bool) (dF:aj)=>if t78 then ah.dV dF (AA cD 0) ah.S.z λfC=>ah.df fC (AA cD 0) λia=>R (.tuple #[ia.agg,.I 3]) fC else ah.df dF (AA jQ 0) λt80=>ah.dV dF (AA cD 0) t80 λgD=>ah.df gD (AA cD 0) λoS=>R (.tuple #[oS.agg,.I 0]) gD) (λjo=>if(xh !=0) then jo true dD else if(Ih !=0) then jo true dD else aa.df dD (AA pH 0) λt74=>aa.df dD (AA b 0) λt75=>Cl F.iB #[t74.agg,t75.agg] dD λgR gX=> ∃t76,gR=.bool t76/\jo (!t76) gX)) (λJ=> ∃t10,ak aZ (AA b 0)=some (.I t10)/\if(t10 !=4) then J true aZ else∃Bh ve Bi,ak aZ (AA b 3)=some (.slice Bh ve Bi)/\if((ve:Int) !=2) then J true aZ else Hl aZ b 3 λum tO vO=>Bd 1 tO/\aP um λBJ=> ∃t23,ak aZ (BJ.add (toNat 1*4))=some (.I t23)/\if(t23 !=4) then J true aZ else Hl aZ b 3 λBj zC Fk=>Bd 1 zC/\aP Bj λKn=> ∃yf vJ CD,ak aZ ((Kn.add (toNat 1*4)).add 3)=some (.slice yf vJ CD)/\J ((vJ:Int) !=2) aZ)):Cl F.oN #[x.agg] h R:=aS (lq (sq (sq (.join [(34,.one (.bool))] lf) (cq ll lf)) (lq (sq (pK 20) (sq (lq (sq (.join [(78,.one (.bool))] lf) (cq ll lf))) ll))))) Tryz.func246 hv
theorem oa.walk {m:Nat} {now:Int} (hv:aV h (.cells ah.S.z.arr T.ah) λb aR=>aK (λ(aZ:aj)=>ah.df aZ (AA m 0) λt58=>ah.dV aZ (AA b 0) t58 λbJ=>ah.df bJ (AA b 0) λr0=>R (.tuple #[r0.agg,.I 0]) bJ) (λJ=>aK (λ(t15:Bool) (cB:aj)=>aK (λ(cJ:aj)=>J cJ) (λBo=>if t15 then ah.dV cB (AA b 0) ah.S.z λcQ=>ah.df cQ (AA b 0) λia=>R (.tuple #[ia.agg,.I 6]) cQ else aK (λ(cW:aj)=>Bo cW) (λGG=>if(decide (now>1099511627776)) then ah.dV cB (AA b 0) ah.S.z λdA=>ah.df dA (AA b 0) λoS=>R (.tuple #[oS.agg,.I 1]) dA else Hu cB m 5 λt36=>aK (λ(fc:aj)=>GG fc) (λJ_4=>if(decide (now>t36)) then aH cB (AA m 5) (.U now) λcP=>aH cP (AA m 6) (.U 0) λcV=>J_4 cV else∃t52,ak cB (AA m 6)=some (.U t52)/\if(decide (t52≥1099511627776)) then ah.dV cB (AA b 0) ah.S.z λdD=>ah.df dD (AA b 0) λpG=>R (.tuple #[pG.agg,.I 5]) dD else∃t10,ak cB (AA m 6)=some (.U t10)/\aH cB (AA m 6) (.U (wrap .u64 (t10+1))) λdF=>J_4 dF)))) (λjo=> ∃t22,ak aR (AA m 7)=some (.bool t22)/\jo (!t22) aR))):Cl F.oa #[.P m 0,.U now] h R:=aS (lq (sq (.join [] (bq (sq (.join [(15,.one (.bool))] lf) (.join [] (cq ll (lq (.join [] (cq ll (lq (.join [] (cq lf (lq (cq ll lf))))))))))))) ll)) Tryz.func190 hv
theorem lW.walk {m:Nat} {x:ah.S} (hv:aV h (.cells x.arr T.ah) λb aR=>aK (λ(t5:Bool) (aZ:aj)=>if t5 then R (.I 6) aZ else aK (λ(t15:Bool) (bJ:aj)=>if t15 then R (.I 1) bJ else ah.df bJ (AA m 0) λt33=>ah.df bJ (AA b 0) λt34=>Cl F.uY #[t33.agg,t34.agg] bJ λv cB=> ∃t35,v=.bool t35/\if(!t35) then R (.I 7) cB else ah.df cB (AA b 0) λt38=>ah.dV cB (AA m 0) t38 λcJ=>R (.I 0) cJ) (λjo=>ah.df aZ (AA b 0) λt16=>Cl F.kk #[t16.agg] aZ λeJ cQ=> ∃t17,eJ=.bool t17/\if(!t17) then jo true cQ else az.df cQ (AA b 0) λt21=>az.df cQ (AA m 0) λt26=> ∃(eq:Bool),Ho Tryz.prog T.az (t21.agg) (t26.agg) eq/\jo (!eq) cQ)) (λJ=> ∃t12,ak aR (AA m 7)=some (.bool t12)/\J (!t12) aR)):Cl F.lW #[.P m 0,x.agg] h R:=aS (lq (sq (bq (sq (.join [(5,.one (.bool))] lf) (cq ll (sq (.join [(15,.one (.bool))] (pK 14)) (cq ll (sq (pK 8) (cq ll lf))))))) (lq ll))) Tryz.func189 hv
theorem uw.walk {x:az.S} (hv:aV h (.cells x.arr T.az) λb aR=>aV aR (.cells aa.S.z.arr T.aa) λcD aZ=>az.df aZ (AA b 0) λt5=>Cl F.kC #[t5.agg] aZ λv bJ=> ∃t6,v=.bool t6/\if(!t6) then aa.dV bJ (AA cD 0) aa.S.z λcB=>aa.df cB (AA cD 0) λr0=>R (.tuple #[r0.agg,.I 3]) cB else az.df bJ (AA b 0) λt10=> ∃(eq:Bool),Ho Tryz.prog T.az (t10.agg) (az.S.z.agg) eq/\if eq then Cl F.fH #[.U 1] bJ λeJ cJ=>aa.EX λt13=>eJ=t13.agg/\Cl F.fH #[.U 0] cJ λgR cQ=>aa.EX λt14=>gR=t14.agg/\aV cQ (.cells (t13.l++t14.l).toArray T.aa) λeY cW=>Cl F.fN #[.slice (some (AA eY 0)) 2 2] cW λkU dA=>aa.EX λt16=>kU=t16.agg/\aa.dV dA (AA cD 0) t16 λfc=>aa.df fc (AA cD 0) λia=>R (.tuple #[ia.agg,.I 0]) fc else∃t19,ak bJ (AA b 0)=some (.bool t19)/\if t19 then Hu bJ b 1 λt22=>Hu bJ b 2 λt25=>Cl F.fH #[.U 2] bJ λot cP=>aa.EX λt20=>ot=t20.agg/\Kp bJ cP [(some (AA b 2)),(some (AA b 1))]/\Cl F.fH #[.U t22] cP λxu cV=>aa.EX λt23=>xu=t23.agg/\Kp cP cV [(some (AA b 2))]/\Cl F.fH #[.U t25] cV λAT dD=>aa.EX λt26=>AT=t26.agg/\aV dD (.cells (t23.l++t26.l).toArray T.aa) λjQ dF=>Cl F.fN #[.slice (some (AA jQ 0)) 2 2] dF λDM fC=>aa.EX λt28=>DM=t28.agg/\aV fC (.cells (t20.l++t28.l).toArray T.aa) λpH gD=>Cl F.fN #[.slice (some (AA pH 0)) 2 2] gD λEJ gX=>aa.EX λt30=>EJ=t30.agg/\aa.dV gX (AA cD 0) t30 λgQ=>aa.df gQ (AA cD 0) λoS=>R (.tuple #[oS.agg,.I 0]) gQ else az.df bJ (AA b 0) λt32=>Cl F.fH #[.U 1] bJ λSR fh=>aa.EX λt31=>SR=t31.agg/\Kp bJ fh [(some (AA b 0))]/\Cl F.Co #[t32.agg] fh λDc jn=> ∃t33,Dc=.string t33/\Cl F.zc #[.string t33] jn λEK ju=>aa.EX λt34=>EK=t34.agg/\aV ju (.cells (t31.l++t34.l).toArray T.aa) λBz sK=>Cl F.fN #[.slice (some (AA Bz 0)) 2 2] sK λQi rL=>aa.EX λt36=>Qi=t36.agg/\aa.dV rL (AA cD 0) t36 λqK=>aa.df qK (AA cD 0) λpG=>R (.tuple #[pG.agg,.I 0]) qK):Cl F.uw #[x.agg] h R:=aS (lq (sq (bq (lq (cq ll (lq (cq ll (lq (cq (sq (.qW (.op 1 (.op 2 (.op 4 (.op 5 (.op 0 (.op 3 (jh 7 6 .done)))))))) lf) lf))))))) (sq (.qW (.op 1 (.op 0 (jh 6 2 .done)))) lf))) Tryz.func203 hv
theorem rB.walk {s:ByteArray} (hv:aV h (.cells az.S.z.arr T.az) λb aR=>Cl F.strings_CutPrefix #[.string s,.string (⟨#[47,47]⟩:ByteArray)] aR λv aZ=> ∃CJ xi,v=.tuple #[.string CJ,.bool xi]/\Cl F.strings_Cut #[.string CJ,.string (⟨#[47]⟩:ByteArray)] aZ λeJ bJ=> ∃yx xq Sb,eJ=.tuple #[.string yx,.string xq,.bool Sb]/\aV bJ (.cells az.S.z.arr T.az) λcD cB=>az.dV cB (AA cD 0) ⟨false,0,0,yx,xq⟩ λcJ=>az.df cJ (AA cD 0) λt24=>if xi then if Sb then if(!(yx.toList==j9.toList)) then az.df cJ (AA cD 0) λt34=>Cl F.kC #[t34.agg] cJ λgR cQ=> ∃t35,gR=.bool t35/\Kp cJ cQ [(some (AA cD 0))]/\az.dV cQ (AA b 0) t24 λcW=>az.df cW (AA b 0) λr0=>R (.tuple #[r0.agg,.bool t35]) cW else az.dV cJ (AA b 0) t24 λdA=>az.df dA (AA b 0) λia=>R (.tuple #[ia.agg,.bool false]) dA else az.dV cJ (AA b 0) t24 λfc=>az.df fc (AA b 0) λoS=>R (.tuple #[oS.agg,.bool false]) fc else az.dV cJ (AA b 0) t24 λcP=>az.df cP (AA b 0) λpG=>R (.tuple #[pG.agg,.bool false]) cP):Cl F.rB #[.string s] h R:=aS (lq (lq (lq (lq (sq (pK 15) lf))))) Tryz.func286 hv
theorem uZ.walk {x:aa.S} {n:Int} (hv:aV h (.cells x.arr T.aa) λb aR=>aK (λ(t18:Bool) (aZ:aj)=>if t18 then R (.tuple #[.Z,.bool false]) aZ else Hl aZ b 3 λum tO vO=> ∃(I:bU->Nat->Nat->Int->aj->Prop) (mu:bU->Nat->Nat->Int->aj->Nat),I none 0 0 0 aZ/\∀(kI:bU) (kJ kK:Nat) (t22:Int) (bJ:aj),I kI kJ kK t22 bJ->if(decide (t22<(tO:Int))) then Bd t22 tO/\aP um λa=>aa.df bJ (a.add (toNat t22*4)) λt25=>aV bJ (.cells aa.S.z.arr T.aa) λcD cB=>aa.dV cB (AA cD 0) t25 λcJ=>aa.df cJ (AA cD 0) λt26=>Hu cJ cD 1 λt28=>Cl F.fH #[.U t28] cJ λv cQ=>aa.EX λt29=>v=t29.agg/\Kp cJ cQ [(some (AA cD 0))]/\Cl F.iB #[t26.agg,t29.agg] cQ λeJ cW=> ∃t30,eJ=.bool t30/\if(!t30) then R (.tuple #[.Z,.bool false]) cW else Hu cW cD 1 λt34=>aV cW (.cells #[.U t34] T.uint64) λeY dA=>aX Tryz.prog (Builtin.append_ #[T.Cs,T.Cs] T.Cs #[.slice kI kJ kK,.slice (some (AA eY 0)) 1 1]) dA λgR fc=> ∃Sr NL Xw,gR=.slice Sr NL Xw/\(I Sr NL Xw (wrap .i64 (t22+1)) fc/\mu Sr NL Xw (wrap .i64 (t22+1)) fc<mu kI kJ kK t22 bJ) else R (.tuple #[.slice kI kJ kK,.bool true]) bJ) (λJ=> ∃t10,ak aR (AA b 0)=some (.I t10)/\if(t10 !=4) then J true aR else∃Bh ve Bi,ak aR (AA b 3)=some (.slice Bh ve Bi)/\J ((ve:Int) !=n) aR)):Cl F.uZ #[x.agg,.I n] h R:=aS (lq (sq (sq (.join [(18,.one (.bool))] lf) (cq ll lf)) (lq (sq (lq (bq (.loop [(6,.one (.slice)),(22,.one (.int .i64))] (lq (sq (cq lf lf) (sq (bq (lq (sq (sq (pK 6) (cq ll lf)) lf))) lf)))))) ll)))) Tryz.func287 hv
theorem th.walk {x:aa.S} (hv:aV h (.cells x.arr T.aa) λb aR=>aV aR (.cells az.S.z.arr T.az) λcD aZ=>aK (λ(t22:Bool) (bJ:aj)=>if t22 then az.dV bJ (AA cD 0) az.S.z λcB=>az.df cB (AA cD 0) λr0=>R (.tuple #[r0.agg,.I 3]) cB else aK (λ(scheme:bU) (rest:bU) (cJ:aj)=>aV cJ (.cells az.S.z.arr T.az) λeY cQ=>aK (λ(ok:Bool) (cW:aj)=>if(!ok) then az.dV cW (AA cD 0) az.S.z λdA=>az.df dA (AA cD 0) λia=>R (.tuple #[ia.agg,.I 3]) dA else az.df cW (AA eY 0) λt80=>az.dV cW (AA cD 0) t80 λfc=>az.df fc (AA cD 0) λoS=>R (.tuple #[oS.agg,.I 0]) fc) (λBo=>aK (λ(t32:Bool) (cP:aj)=>aK (λ(ad8:Bool) (cV:aj)=>Bo ad8 cV) (λJ_4=>if t32 then az.dV cP (AA cD 0) az.S.z λdD=>az.df dD (AA cD 0) λpG=>R (.tuple #[pG.agg,.I 0]) dD else aK (λ(t42:Bool) (dF:aj)=>aK (λ(VB:Bool) (fC:aj)=>J_4 VB fC) (λJ_6=>if t42 then aP rest λa=>L3 dF (a.add 2) λaoB aoC aoD=> ∃(t54:ByteArray),DP Tryz.prog T.dt T.string (.slice aoB aoC aoD) dF t54/\Cl F.rB #[.string t54] dF λv gD=>az.EX λuc=> ∃tF,v=.tuple #[uc.agg,.bool tF]/\az.dV gD (AA eY 0) uc λgX=>J_6 tF gX else aP scheme λku=>aa.df dF ku λt59=>Cl F.fH #[.U 2] dF λeJ gQ=>aa.EX λt60=>eJ=t60.agg/\Kp dF gQ [scheme]/\Cl F.iB #[t59.agg,t60.agg] gQ λgR fh=>Vb gR λt61=>aK (λ(Ls:Bool) (jn:aj)=>J_6 Ls jn) (λJ_7=>if t61 then aP rest λpE=>aa.df fh pE λt63=>Cl F.uZ #[t63.agg,.I 2] fh λkU ju=> ∃Qj Qk ahk Ih,kU=.tuple #[.slice Qj Qk ahk,.bool Ih]/\aK (λ(ahl:Bool) (sK:aj)=>J_7 ahl sK) (λJ_8=>if Ih then Bd 0 Qk/\aP Qj λrY=>JL ju (rY.add (toNat 0*1)) λt70=>Bd 1 Qk/\aP Qj λvS=>JL ju (vS.add (toNat 1*1)) λt73=>az.dV ju (AA eY 0) ⟨true,t70,t73,j9,j9⟩ λrL=>az.df rL (AA eY 0) λt75=>Cl F.kC #[t75.agg] rL λot qK=> ∃t76,ot=.bool t76/\J_8 t76 qK else J_8 Ih ju) else J_7 false fh))) (λJ_5=>aP scheme λBJ=>aa.df cP BJ λt43=>Cl F.fH #[.U 1] cP λxu vh=>aa.EX λt44=>xu=t44.agg/\Kp cP vh [scheme]/\Cl F.iB #[t43.agg,t44.agg] vh λAT zY=> ∃t45,AT=.bool t45/\if t45 then aP rest λKn=> ∃t48,ak zY Kn=some (.I t48)/\J_5 (t48==3) zY else J_5 false zY))) (λGG=>aP scheme λRL=>aa.df cQ RL λt33=>Cl F.fH #[.U 1] cQ λDM BL=>aa.EX λt34=>DM=t34.agg/\Kp cQ BL [scheme]/\Cl F.iB #[t33.agg,t34.agg] BL λEJ BM=> ∃t35,EJ=.bool t35/\if t35 then aP rest λa_8=>aa.df BM a_8 λt37=>Cl F.fH #[.U 0] BM λSR F0=>aa.EX λt38=>SR=t38.agg/\Kp BM F0 [rest]/\Cl F.iB #[t37.agg,t38.agg] F0 λDc IU=> ∃t39,Dc=.bool t39/\GG t39 IU else GG false BM))) (λjo=>Hl bJ b 3 λacf ahW Wa=>Bd 0 ahW/\aP acf λa_9=>aa.df bJ (a_9.add (toNat 0*4)) λt27=>Hl bJ b 3 λBl yd Cz=>Bd 1 yd/\aP Bl λQl=>aa.df bJ (Ql.add (toNat 1*4)) λt31=>(aV bJ (.cells aa.S.z.arr T.aa) λjQ Hd=>Kp bJ Hd [(some (Ql.add (toNat 1*4))),(some (AA b 3)),(some (a_9.add (toNat 0*4))),(some (AA b 3))]/\aV Hd (.cells aa.S.z.arr T.aa) λpH sk=>Kp Hd sk [(some (Ql.add (toNat 1*4))),(some (AA b 3)),(some (a_9.add (toNat 0*4))),(some (AA b 3))]/\aa.dV sk (AA jQ 0) t27 λIW=>Kp sk IW [(some (Ql.add (toNat 1*4))),(some (AA b 3))]/\aa.dV IW (AA pH 0) t31 λSU=>jo (some (AA jQ 0)) (some (AA pH 0)) SU)/\(aV bJ (.cells aa.S.z.arr T.aa) λBz Lr=>Kp bJ Lr [(some (Ql.add (toNat 1*4))),(some (AA b 3)),(some (a_9.add (toNat 0*4))),(some (AA b 3))]/\aV Lr (.cells aa.S.z.arr T.aa) λSQ Qh=>Kp Lr Qh [(some (Ql.add (toNat 1*4))),(some (AA b 3)),(some (a_9.add (toNat 0*4))),(some (AA b 3))]/\aa.dV Qh (AA SQ 0) t27 λIX=>Kp Qh IX [(some (Ql.add (toNat 1*4))),(some (AA b 3))]/\aa.dV IX (AA Bz 0) t31 λMt=>jo (some (AA SQ 0)) (some (AA Bz 0)) Mt)/\True)) (λJ=>aa.df aZ (AA b 0) λt9=>Cl F.oM #[t9.agg] aZ λEK tX=> ∃t10,EK=.bool t10/\if(!t10) then J true tX else∃t14,ak tX (AA b 0)=some (.I t14)/\if(t14 !=4) then J true tX else∃CH zK CI,ak tX (AA b 3)=some (.slice CH zK CI)/\J ((zK:Int) !=2) tX)):Cl F.th #[x.agg] h R:=aS (lq (sq (sq (.join [(22,.one (.bool))] lf) (cq ll lf)) (sq (.join [(4,.one (.ptr)),(5,.one (.ptr))] (.qW (jh 8 0 (.alts (.fork 8 (jh 3 9 .done) (.fork 9 (.op 8 (.op 10 (.op 11 .done))) .mD)))))) (lq (lq (sq (.join [(7,.one (.bool))] (bq (sq (.join [(32,.one (.bool))] (pK 9)) (.join [(7,.one (.bool))] (cq ll (sq (.join [(42,.one (.bool))] (pK 9)) (.join [(7,.one (.bool))] (cq lf (sq (pK 4) (.join [(7,.one (.bool))] (cq (lq (lq (lq (.join [(7,.one (.bool))] (cq (sq (pK 8) lf) lf))))) lf))))))))))) (sq (lq (cq ll lf)) ll))))))) Tryz.func245 hv
end
section
namespace Bn
open Cb
open qI (Ev dj uG)
variable {h:aj} {R:iI}
theorem akZ {n:Nat} (hn:n<4294967296):IntKind.wrap .u32 (n:Int)=(n:Int):=by
 have e:IntKind.wrap .u32 (n:Int)=(n:Int)%4294967296:=by simp[IntKind.wrap,IntKind.bits,IntKind.signed]
 rw[e];omega
theorem b32 {n:Nat} (hn:n<4294967296):(BitVec.ofInt (IntKind.bits .u32) (n:Int)).toNat=n:=by
 rw[BitVec.ofInt_natCast,BitVec.toNat_ofNat];exact jl hn
theorem ad9 {a b:Nat} (ha:a<4294967296) (hb:b<4294967296):IntKind.wrap .u32 ((BitVec.ofInt (IntKind.bits .u32) (a:Int) ^^^ BitVec.ofInt (IntKind.bits .u32) (b:Int)).toNat:Int)=((a ^^^ b:Nat):Int):=by
 rw[BitVec.toNat_xor,b32 ha,b32 hb];exact akZ (Nat.xor_lt_two_pow (n:=32) ha hb)
theorem aoE {s:Nat} (hs:s<4294967296):IntKind.wrap .u32 ((BitVec.ofInt (IntKind.bits .u32) (s:Int) &&& BitVec.ofInt (IntKind.bits .u32) 1).toNat:Int)=((s%2:Nat):Int):=by
 rw[BitVec.toNat_and,b32 hs,show(BitVec.ofInt (IntKind.bits .u32) 1).toNat=1 from rfl,Nat.and_one_is_mod];exact akZ (by omega)
theorem ak0 (s:Nat):Int.fdiv (s:Int) (2 ^ min (Int.toNat 1) (IntKind.bits .u32))=((s/2:Nat):Int):=ad4 s 1
theorem aa5 {s q:Nat} (hs:s<4294967296) (hq:q<4294967296):Ay s q<4294967296:=by
 unfold Ay;split
 ·exact Nat.xor_lt_two_pow (n:=32) (show s/2<2 ^ 32 by omega) hq
 ·omega
theorem aea {s q:Nat} (hs:s<4294967296) (hq:q<4294967296) (hk:R (.int .u32 (Ay s q:Int)) h):Cl F.w5 #[.int .u32 (s:Int),.int .u32 (q:Int)] h R:=by
 refine w5.walk ?_;unfold Ay at hk;rw[aoE hs,ak0,ad9 (by omega) hq];by_cases c:s%2=1
 ·rw[ag (by rw[c];rfl)];rw[ag c] at hk;exact hk
 ·rw[ai (λe=>c (by have:=eq_of_beq e;omega))];rw[ai c] at hk;exact hk
theorem Lt (q:Nat): ∀(k s:Nat),Cu q (k+1) s=Ay (Cu q k s) q
 |0,_=>rfl
 |k+1,s=>by
  show Cu q (k+1) (Ay s q)=Ay (Cu q k (Ay s q)) q;exact Lt q k _
theorem Lu {q:Nat} (hq:q<4294967296): ∀(k s:Nat),s<4294967296->Cu q k s<4294967296
 |0,_,hs=>hs
 |k+1,s,hs=>Lu hq k _ (aa5 hs hq)
theorem aa6 {s c q:Nat} (hs:s<4294967296) (hc:c<256) (hq:q<4294967296) (hk:R (.int .u32 (ahV s c q:Int)) h):Cl F.u0 #[.int .u32 (s:Int),.int .u8 (c:Int),.int .u32 (q:Int)] h R:=by
 have hx:=Nat.xor_lt_two_pow (n:=32) (x:=s) (y:=c) hs (by omega);refine u0.walk ⟨λz t g=>g=h/\∃i:Nat,t=(i:Int)/\i<=8/\z=(Cu q i (s ^^^ c):Int),λ_ t _=>8 - t.toNat,⟨rfl,0,rfl,by omega,?_⟩,?_⟩
 ·rw[akZ (n:=c) (by omega),ad9 hs (by omega)];rfl
 rintro _ _ _ ⟨rfl,i,rfl,hi,rfl⟩;have hl:=Lu hq i (s ^^^ c) hx;by_cases c1:i<8
 ·rw[jy];refine aea hl hq ⟨_,rfl,?_⟩;rw[bK (by omega) (by omega),<-Lt];exact⟨⟨rfl,i+1,by omega,by omega,rfl⟩,by show 8 - Int.toNat ((i:Int)+1)<8 - Int.toNat (i:Int);omega⟩
 ·rw[ai (λe=>c1 (by have:=of_decide_eq_true e;omega))];obtain rfl:i=8:=by omega
  exact hk
theorem Qm {q:Nat} (hq:q<4294967296): ∀(b:List UInt8) (s:Nat),s<4294967296->runN s b q<4294967296
 | [],_,hs=>hs
 |c::b,s,hs=>Qm hq b _ (Lu hq 8 _ (Nat.xor_lt_two_pow (n:=32) hs (by have:=c.toNat_lt;omega)))
theorem aeb {s q:Nat} {p:bU} {l c:Nat} {bs:List UInt8} (hs:s<4294967296) (hq:q<4294967296) (row:Row h p (bc bs)) (hl:l=bs.length) (hlen:bs.length<=100000000) (hk:R (.int .u32 (runN s bs q:Int)) h):Cl F.zj #[.int .u32 (s:Int),.slice p l c,.int .u32 (q:Int)] h R:=by
 subst hl;refine zj.walk ⟨λz t g=>g=h/\∃i:Nat,t=(i:Int)/\i<=bs.length/\z=(runN s (bs.take i) q:Int),λ_ t _=>bs.length - t.toNat,⟨rfl,0,rfl,by omega,by rw[fM];rfl⟩,?_⟩;rintro _ _ _ ⟨rfl,i,rfl,hi,rfl⟩;by_cases c1:i<bs.length
 ·rw[jy];obtain⟨a,rfl,cx⟩:=Cb.byte_at row c1;refine⟨⟨by omega,by omega⟩,aB.2 ⟨_,by rw[aL];exact cx,aa6 (Qm hq _ _ hs) (bs[i]).toNat_lt hq ⟨_,rfl,?_⟩⟩⟩;rw[bK (by omega) (by omega)];refine⟨⟨rfl,i+1,by omega,by omega,?_⟩,by show bs.length - Int.toNat ((i:Int)+1)<bs.length - Int.toNat (i:Int);omega⟩;rw[bY,au c1];unfold runN;rw[List.foldl_append];rfl
 ·rw[ai (λe=>c1 (by have:=of_decide_eq_true e;omega))];rw[bR (by omega)];exact hk
theorem aec {p:bU} {l c:Nat} {bs:List UInt8} (row:Row h p (bc bs)) (hl:l=bs.length) (hlen:bs.length<=100000000) (hk:R (.int .u16 (Kd bs:Int)) h):Cl F.wZ #[.slice p l c] h R:=by
 refine wZ.walk (aeb (s:=65535) (q:=33800) (by decide) (by decide) row hl hlen ⟨_,rfl,?_⟩);unfold Kd at hk;generalize runN 65535 bs 33800=z at hk⊢;have e:IntKind.wrap .u16 (z:Int)=((z%65536:Nat):Int):=by
  have e:IntKind.wrap .u16 (z:Int)=(z:Int)%65536:=by simp[IntKind.wrap,IntKind.bits,IntKind.signed]
  rw[e];omega
 rw[e];have h1:z%65536<65536:=by omega
 generalize z%65536=y at hk h1⊢;have e2:(BitVec.ofInt (IntKind.bits .u16) (IntKind.max .u16) ^^^ BitVec.ofInt (IntKind.bits .u16) (y:Int)).toNat=65535 ^^^ y:=by
  rw[BitVec.toNat_xor,BitVec.ofInt_natCast,BitVec.toNat_ofNat,show(BitVec.ofInt (IntKind.bits .u16) (IntKind.max .u16)).toNat=65535 from rfl,show(2:Nat) ^ IntKind.bits .u16=65536 from rfl,jl h1]
 rw[e2];have e3:IntKind.wrap .u16 ((65535 ^^^ y:Nat):Int)=((65535 ^^^ y:Nat):Int):=by
  have hx:=Nat.xor_lt_two_pow (n:=16) (x:=65535) (y:=y) (by decide) (by omega);have e:IntKind.wrap .u16 ((65535 ^^^ y:Nat):Int)=((65535 ^^^ y:Nat):Int)%65536:=by simp[IntKind.wrap,IntKind.bits,IntKind.signed]
  rw[e];omega
 rw[e3];exact hk
theorem ahm {p : Option Addr} {l c : Nat} {bs : List UInt8} (row : Row h p (bc bs)) (hl : l = bs.length) (hlen : bs.length ≤ 100000000) (hk : R (.int .u32 (HO bs : Int)) h) : Cl F.ze #[.slice p l c] h R := by
  refine ze.walk (aeb (s := 4294967295) (q := 2197175160) (by decide) (by decide) row hl hlen ⟨_, rfl, ?_⟩)
  have := ad9 (a := 4294967295) (b := runN 4294967295 bs 2197175160) (by decide) (Qm (by decide) _ _ (by decide))
  rw [show (IntKind.max .u32) = ((4294967295 : Nat) : Int) from rfl, this]
  exact hk
end Bn
end
section
namespace Cb
variable {h h0 h':aj} {R:iI} {D D':Nat→Prop}
abbrev CV.s (x:CV):aa.S:=⟨x.k,x.n,x.v.p,x.v.b.length,x.v.c,x.q,x.ll,x.cl⟩
abbrev nv (n:Nat):CV:=⟨0,n,⟨none,0, []⟩,none,0,0⟩
theorem Ee.frame {Q:Nat->Prop} {t:Tr} {x:CV} (H:Ee h D t x) (f:Fr Q h h') (hq: ∀y,D y->¬Q y):Ee h' D t x:=by
 obtain⟨⟨a,b,c,d⟩,ys,h2,h3,h4,h5⟩:=H;exact⟨⟨a,b,c,d.frame f hq⟩,ys,h2,h3.frame f (λy hy=>hq y (h4 y hy)),h4,dG.frame f (λy hy=>hq y hy.1) h5⟩
theorem Ee.mono {t:Tr} {x:CV} (H:Ee h D t x) (hd: ∀y,D y->D' y):Ee h D' t x:=by
 obtain⟨⟨a,b,c,d⟩,ys,h2,h3,h4,h5⟩:=H;exact⟨⟨a,b,c,d.mono hd⟩,ys,h2,h3,λy hy=>hd y (h4 y hy),dG.mono (λy hy=>⟨hd y hy.1,hy.2⟩) h5⟩
abbrev SX (h:aj) (t:Tr) (x:CV):Prop:=kT h (λ_=>True) t x
abbrev Mu (h:aj) (ts:List Tr) (xs:List CV):Prop:=dG h (λ_=>True) ts xs
theorem kT.u {t:Tr} {x:CV} (H:kT h D t x):SX h t x:=H.mono λ_ _=>trivial
theorem dG.u {t:List Tr} {x:List CV} (H:dG h D t x):Mu h t x:=H.mono λ_ _=>trivial
theorem Ee.u {t:Tr} {x:CV} (H:Ee h D t x):SX h t x:=H.toA.u
theorem dG.nil:dG h D [] []:=by unfold dG;trivial
theorem dG.cons {t:Tr} {y:CV} {ts:List Tr} {ys:List CV} (a:kT h D t y) (b:dG h D ts ys):dG h D (t::ts) (y::ys):=by unfold dG;exact⟨a,b⟩
theorem xK {n:Nat} :SX h (num n) (nv n):=akX.toA
theorem two {t u:Tr} {x y:CV} (a:kT h D t x) (b:kT h D u y):dG h D [t,u] [x,y]:=.cons a (.cons b .nil)
theorem zZ {ys:List CV} {K:Nat->aj->Prop} {c:Array Value} (hc:c=(ys.flatMap mJ).toArray) (hk: ∀b h',b=h.size->(∀D,D b->xD h' D (some (AA b 0)) ys.length ys.length ys)->Fr No h h'->K b h'):aV h (.cells c T.aa) K:=by
 refine cX (hk _ _ rfl (λD hD=>⟨rfl,by rw[hc];exact rV,λ_ y ⟨a,e,e'⟩=>by cases e;rw[<-e'];exact hD,bh _⟩) (Fr.push _ _))
theorem AY {ts:List Tr} {ys:List CV} {c:Array Value} {l:Nat} (TS:Mu h ts ys) (hr:dY ts<=100000000) (hc:c=(ys.flatMap mJ).toArray) (hl:l=ys.length) (hk: ∀h' z,Ee h' (λy=>h.size<=y) (DE ts) z->Fr No h h'->R z.agg h'):
  aV h (.cells c T.aa) λb g=>Cl F.fN #[.slice (some (AA b 0)) l l] g R:=by
 subst hl;refine zZ hc λb h1 eb L f1=>rU (L (λ_=>True) trivial) (TS.on f1) hr λh2 z tz f2=>hk h2 z (tz.mono λy hy=>by have:=f1.1;omega) (f1.tt f2)
theorem ahn {s:ByteArray} (hk: ∀h' (v:BV),v.b=s.data.toList->v.ok h' (λy=>h.size<=y)->Fr No h h'->R (CV.agg ⟨3,0,v,none,0,0⟩) h'):Cl F.zc #[.string s] h R:=by
 refine zc.walk (aa.box λb h1 eb hb f1=>vf.s2b λp c h2 row hc f2 nw=>⟨_,_,_,rfl,aa.set (f2.get hb id) λh3 d1 d2 d3=>aa.ld d1 ?_⟩);have f3:Fr (λy=>y=b) h2 h3:=Fr.of_eq d2 (λc hc=>d3 c hc);have z1:=f1.1;have zb:=aI hb;have e:s.size=s.data.toList.length:=(qI.zT s).symm;have ok:BV.ok h3 (λy=>h.size<=y) ⟨p,c,s.data.toList⟩:=by
  refine⟨?_,λ_ y hy=>by have:=nw y hy;omega,by show s.data.toList.length<=c;omega⟩;by_cases q:s.data.toList= []
  ·show Row h3 p (bc s.data.toList);rw[q];exact Row.nil
  ·exact row.frame f3 (λa ea ey=>by have:=nw a.block ⟨a,ea,rfl⟩;omega)
 have:=hk h3 ⟨p,c,s.data.toList⟩ rfl ok ((f1.tt f2).fresh f3 (λy e=>by omega));unfold CV.agg mJ BV.val at this;rw[e];exact this
end Cb
namespace Bn
open Cb
open qI (Ev dj uG)
variable {V : List UInt8 → Bool} {h h0 h' : aj} {R : Value → aj → Prop} {D : Nat → Prop}
abbrev _root_.Go.Proofs.YtlenamcfacpheaaGreatDoor.qI.Ev.s (x:Ev):az.S:=⟨x.vD,x.node,x.l6,x.host,x.sM⟩
theorem fin {b:Nat} {y:aa.S} {z:CV} {t:Tr} {K:aa.S->aj->Prop} (hb:aa.jx h b y) (tz:Ee h D t z) (hD: ∀y,D y->y≠b) (hk: ∀h',Ee h' D t z->Fr (λy=>y=b) h h'->K z.s h'):
  aa.dV h (AA b 0) z.s λg=>aa.df g (AA b 0) λr=>K r g:=
 aa.mA (x:=z.s) hb λg d1 f _=>aa.jk d1 (hk g (tz.frame f hD) f)
theorem Qn {b:Nat} {y:aa.S} {K:aa.S->aj->Prop} (hb:aa.jx h b y) (hk: ∀h',Fr (λy=>y=b) h h'->K .z h'):
  aa.dV h (AA b 0) .z λg=>aa.df g (AA b 0) λr=>K r g:=
 aa.mA hb λg d1 f _=>aa.jk d1 (hk g f)
theorem wB (x:Ev) (hr:dj x=true):room (Md x)<=200:=by
 unfold Md;split
 ·simp[room,dY]
 ·rename_i z;split
  ·simp[room,dY]
  ·rename_i hi;unfold dj at hr;rw[ai z,ai hi] at hr;simp only[aW,bf] at hr;have:=qI.zT x.host;have:=qI.zT x.sM;simp only[room,dY,Rz,aF,bj,bC];omega
abbrev zv:CV:=⟨0,0,⟨none,0, []⟩,none,0,0⟩
theorem He (x:Ev) (w1:0<=x.l6) (k1:dj x=true->∀h' z,Ee h' (λy=>h.size<=y) (Md x) z->Fr No h h'->R (.tuple #[z.agg,.I 0]) h')
  (k2:dj x=false->∀h',Fr No h h'->R (.tuple #[zv.agg,.I 3]) h'):Cl F.uw #[uG x] h R:=by
 refine uw.walk (x:=x.s) (az.dH λb h1 eb hb f1=>aa.dH λb1 h2 uf dw f2=>az.jk (f2.get hb id) (qI.ic x λh3 f3=>⟨_,rfl,?_⟩));have kR:=(f2.tt f3).get hb id;have qu:=f3.get dw id;have F3:=f1.tt (f2.tt f3);have z1:=f1.1;have PT:=aI dw;have z3:=f3.1;have done: ∀g z,dj x=true->Ee g (λy=>h3.size<=y) (Md x) z->Fr No h3 g->aa.dV g (AA b1 0) z.s λh4=>aa.df h4 (AA b1 0) λr0=>R (.tuple #[r0.agg,.I 0]) h4:=λg z hr tz fg=>
  fin (fg.get qu id) tz (λy hy e=>by omega) λh4 t4 f4=>k1 hr h4 z (t4.mono λy hy=>by omega) ((F3.tt fg).fresh f4 (λy e=>by omega))
 cases hr:dj x with
 |false=>exact Qn qu λh4 f4=>k2 hr h4 (F3.fresh f4 (λy e=>by omega))
 |true=>
  have done:=λg z=>done g z hr
  rw[dL];refine az.jk kR ⟨_,qI.ID (y:=.zero) (x:=x) rfl rfl,?_⟩;have er:room (Md x)<=200:=wB x hr;unfold Md at done er;unfold dj at hr;by_cases z:x=.zero
  ·rw[ag (ay z)];simp only[ag z] at done;exact jw (n:=1) λh5 f5=>aa.ex (nv 1).s ⟨rfl,jw (n:=0) λh6 f6=>aa.ex (nv 0).s ⟨rfl,AY (two xK xK) (by simp[room,dY]) rfl rfl λh7 y ty f7=>aa.ex y.s ⟨rfl,done h7 y (ty.mono λy hy=>by have:=f5.1;have:=f6.1;omega) (f5.tt (f6.tt f7))⟩⟩⟩
  rw[ai (by simpa using z)];rw[ai z] at hr;simp only[ai z] at done er;refine⟨_,af kR rfl,?_⟩;by_cases hi:x.vD=true
  ·rw[ag hi] at hr⊢;simp only[ag hi] at done;have hr:=of_decide_eq_true hr;have n1:x.node=(x.node.toNat:Int):=by omega
   have n2:x.l6=(x.l6.toNat:Int):=by omega
   refine⟨_,af kR rfl,_,af kR rfl,jw (n:=2) λvj f10=>aa.ex (nv 2).s ⟨rfl,f10.kp,?_⟩⟩;dsimp only;rw[n1];refine jw λyi f11=>aa.ex (nv x.node.toNat).s ⟨rfl,f11.kp,?_⟩
   rw[n2];refine jw λmE f12=>aa.ex (nv x.l6.toNat).s ⟨rfl,AY (two xK xK) (by simp[room,dY]) rfl rfl λDv y ty f14=>aa.ex y.s ⟨rfl,AY (ys:= [nv 2,y]) (two xK ty.u) (by simp[room,dY]) rfl rfl λvY u tu f16=>aa.ex u.s ⟨rfl,?_⟩⟩⟩
   exact done vY u (tu.mono λy hy=>by have:=f10.1;have:=f11.1;have:=f12.1;have:=f14.1;omega) (f10.tt (f11.tt (f12.tt (f14.tt f16))))
  ·rw[ai hi] at hr⊢;simp only[ai hi] at done er;simp only[aW,bf] at hr;refine az.jk kR (jw (n:=1) λGl f18=>aa.ex (nv 1).s ⟨rfl,f18.kp,qI.agj x (by omega) (by omega) λh19 f19=>⟨_,rfl,ahn λQo v ev ov f20=>aa.ex (CV.s ⟨3,0,v,none,0,0⟩) ⟨rfl,?_⟩⟩⟩);have ev:v.b=Rz x:=by rw[ev];unfold str;simp[Rz]
   refine AY (ts:= [num 1,.mk 3 0 (Rz x) []]) (ys:= [nv 1,⟨3,0,v,none,0,0⟩]) (two xK (ev▸NU ov).u) (by simp only[room,bC] at er⊢;omega) rfl rfl λh22 u tu f22=>aa.ex u.s ⟨rfl,?_⟩
   exact done h22 u (tu.mono λy hy=>by have:=f18.1;have:=f19.1;have:=f20.1;omega) (f18.tt (f19.tt (f20.tt f22)))
end Bn
end
section
namespace Bn
open Cb
open qI (Ev dj uG)
variable {V:List UInt8→Bool} {h h0 h':aj} {R:iI} {D:Nat→Prop}
theorem kpb {b:Nat} {l:List (bU)} (f:Fr (λy=>y=b) h h') (hn: ∀p∈l,p.map (·.block)≠some b):Kp h h' l:=f.kps λp hp x e hb=>hn p hp (by rw[e];exact bp some hb)
theorem VC {b:Nat} {y:az.S} {x:Ev} {K:az.S->aj->Prop} (hb:az.jx h b y) (hk: ∀h',Fr (λy=>y=b) h h'->K x.s h'):
  az.dV h (AA b 0) x.s λg=>az.df g (AA b 0) λr=>K r g:=
 az.mA (x:=x.s) hb λg d1 f _=>az.jk d1 (hk g f)
theorem ak1 (l:List UInt8):(!((⟨l.toArray⟩:ByteArray).toList==j9.toList))= !l.isEmpty:=by
 rw[toList_data,toList_data];cases l<;>simp
theorem Qp {s:ByteArray} (mx:Gi.Mx h) (hs:s.size<1000000) (hk: ∀h',Fr No h h'->R (.tuple #[uG (HP s.data.toList),.bool (Ff s.data.toList)]) h'):Cl F.rB #[.string s] h R:=by
 refine rB.walk (az.dH λb h1 eb hb f1=>Gi.aar ⟨_,_,rfl,Gi.O7 (mx.on f1) ?_ ⟨_,_,_,rfl,az.j8 λb1 h5 uf dw f5=>az.jk dw ?_⟩⟩)
 ·show(Lib.trimPrefix s.data.toList _).length<_;have:=qI.zT s;unfold Lib.trimPrefix;split
  ·rw[cf];omega
  ·omega
 have e0:(⟨(Lib.trimPrefix s.data.toList (⟨#[47,47]⟩:ByteArray).data.toList).toArray⟩:ByteArray).data.toList=Lib.trimPrefix s.data.toList [47,47]:=by simp
 rw[e0] at dw⊢;rw[show(⟨#[47]⟩:ByteArray).data.toList= [47] from rfl] at dw⊢;rw[show(⟨#[47,47]⟩:ByteArray).data.toList= [47,47] from rfl];have ex:(⟨false,0,0,⟨(Lib.cut (Lib.trimPrefix s.data.toList [47,47]) [47]).1.toArray⟩,⟨(Lib.cut (Lib.trimPrefix s.data.toList [47,47]) [47]).2.1.toArray⟩⟩:az.S)=(HP s.data.toList).s:=rfl;rw[ex] at dw⊢;have z1:=f1.1;have F5:=f1.tt f5;have zb:=aI hb;have DJ:=f5.get hb id;have done: ∀g q,Fr No h5 g->q=Ff s.data.toList->az.dV g (AA b 0) (HP s.data.toList).s λg1=>az.df g1 (AA b 0) λr=>R (.tuple #[r.agg,.bool q]) g1:=λg q fg e=>
  VC (fg.get DJ id) λg1 f=>by rw[e];exact hk g1 ((F5.tt fg).fresh f (λy e=>by omega))
 rw[ak1];cases hA:Lib.hasPrefix s.data.toList [47,47] with
 |false=>exact done h5 _ (Fr.refl _ _) (by unfold Ff;rw[hA];rfl)
 |true=>
  rw[ag rfl];cases hB:(Lib.cut (Lib.trimPrefix s.data.toList [47,47]) [47]).2.2 with
  |false=>exact done h5 _ (Fr.refl _ _) (by unfold Ff;rw[hA,hB];rfl)
  |true=>
   rw[ag rfl];cases hC:(Lib.cut (Lib.trimPrefix s.data.toList [47,47]) [47]).1.isEmpty with
   |true=>exact done h5 _ (Fr.refl _ _) (by unfold Ff;rw[hA,hB,hC];rfl)
   |false=>
    rw[ag (show(!false)=true from rfl)];exact az.jk dw (qI.ic (HP s.data.toList) λh6 f6=>⟨_,rfl,f6.kp,done h6 _ f6 (by unfold Ff;rw[hA,hB,hC];rfl)⟩)
theorem t64:Ao Tryz.prog T.Cs T.uint64 1 8 (.U 0):=⟨by kernel_rfl,by kernel_rfl,rfl⟩
theorem u64:Tryz.prog.underlying T.Cs=some (.slice T.uint64):=by kernel_rfl
abbrev nc (l:List Tr):List Value:=l.map λt=> .int .u64 (t.n:Int)
theorem elem {D:Nat->Prop} {q:bU} {l c:Nat} {ys:List CV} {ts:List Tr} (L:xD h D q l c ys) (TS:dG h D ts ys) {i:Nat} (hi:i<ts.length): ∃(a:Addr) (y:CV),q=some a/\fE (a.add (i*4)) y.s.l 0 h/\kT h D (at_ ts i) y/\ys[i]? =some y:=by
 have ln:=TS.len;have hy:ys[i]? =some (ys[i]'(by omega)):=au _;obtain⟨t,ht,ty⟩:=TS.get hy;obtain⟨a,rfl⟩:=L.row.some (by intro e;have:=bp List.length e;rw[gW mJ 4 jR,bC] at this;omega);refine⟨a,_,rfl,L.row.lj jR hy,?_,hy⟩;unfold at_;rw[ba,ht];exact ty
theorem rZ {ts:List Tr} {i:Nat} (hi:i<ts.length):room (at_ ts i)<=dY ts:=by
 unfold at_;rw[ba,au hi];exact wA (fw hi)
theorem SY {t:Tr} {x:CV} (tx:SX h t x) (hr:room t<=1000000)
  (k1:t.k=4->t.l.length=2->Ke t.l=true->∀h' p c,Row h' p (nc t.l)->Fr No h h'->R (.tuple #[.slice p 2 c,.bool true]) h')
  (k2: ¬(t.k=4/\t.l.length=2/\Ke t.l=true)->∀h',Fr No h h'->R (.tuple #[.Z,.bool false]) h'):Cl F.uZ #[x.agg,.I 2] h R:=by
 have tx':=tx;cases t with
 |mk k n b l=>
  simp only[room] at hr;have k1:k=4->l.length=2->Ke l=true->∀h' p c,Row h' p (nc l)->Fr No h h'->R (.tuple #[.slice p 2 c,.bool true]) h':=k1;have k2: ¬(k=4/\l.length=2/\Ke l=true)->∀h',Fr No h h'->R (.tuple #[.Z,.bool false]) h':=k2;unfold kT at tx;obtain⟨⟨rfl,rfl,rfl,Vx⟩,ys,L,TS⟩:=tx;have ln:=TS.len;have e0:=L.len;refine uZ.walk (x:=x.s) (aa.dH λbb h1 eb hb f1=>aK.of λJ hJ=>⟨_,af hb rfl,?_⟩);have no: ¬(x.k=4/\l.length=2)->J true h1:=λhn=>by
   subst hJ;exact k2 (λe=>hn ⟨e.1,e.2.1⟩) h1 f1
  by_cases k4:x.k=4
  case neg=>rw[ag (by simpa using k4)];exact no (λe=>k4 e.1)
  rw[ai (by simpa using k4)];refine⟨_,_,_,af hb rfl,?_⟩;by_cases l2:l.length=2
  case neg=>rw[show((x.ll:Int) !=2)=true by simp only[fK,iq];omega];exact no (λe=>l2 e.2)
  rw[show((x.ll:Int) !=2)=false by simp only[bne_eq_false_iff_eq];omega];subst hJ;rw[dL];have sl:x.s.xO=2:=by show x.ll=2;omega
  refine⟨_,_,_,af hb rfl,?_⟩;refine⟨λp len c t g=> ∃i:Nat,t=(i:Int)/\i<=2/\i=len/\iR g p i c 1 (nc (l.take i))/\(∀y,aQ p y->h1.size<=y)/\Fr No h1 g/\Ke (l.take i)=true,λ_ _ _ t _=>2 - t.toNat,⟨0,rfl,by omega,rfl,by rw[fM];exact .nil rfl rfl rfl rfl,(λy ⟨a,e,_⟩=>by cases e),Fr.refl _ _,by rw[fM];rfl⟩,?_⟩;rintro p _ c _ g ⟨i,rfl,hi,rfl,ow,nw,fg,hn⟩;by_cases nQ:i<2
  ·rw[jy];have Fg:=f1.tt fg;obtain⟨a,y,ea,hh,ty,hy⟩:=elem (L.frame Fg (λ_ _=>id)) (TS.on Fg) (i:=i) (by omega);refine⟨⟨by omega,by show _<(x.ll:Int);omega⟩,cG.2 ⟨a,ea,(aa.yS (x:=y.s) (by rw[aL];exact hh) (aa.j8 (x:=y.s) λb1 h5 uf dw f5=>aa.jk dw ⟨_,af dw rfl,jw λh6 f6=>aa.ex (nv y.n).s ⟨rfl,f6.kp,?_⟩⟩))⟩⟩;have ra:=rZ (ts:=l) (i:=i) (by omega);have eq:l.take (i+1)=l.take i++ [at_ l i]:=by
    rw[bY];unfold at_;rw[ba,au (by omega)];rfl
   have yn:y.n=(at_ l i).n:=by
    revert ty;generalize at_ l i=s;intro ty;cases s;unfold kT at ty;exact ty.1.2.1
   refine pV (t:=at_ l i) (s:=num y.n) (x:=y) (y:=nv y.n) (ty.on (f5.tt f6)) xK (by omega) λh7 f7=>⟨_,rfl,?_⟩
   rw[yn];cases q:yV (at_ l i) (num (at_ l i).n) with
   |false=>
    rw[jy];refine k2 (λe=> ?_) h7 (Fg.tt (f5.tt (f6.tt f7)));have:=List.all_eq_true.1 e.2.2 (at_ l i) (by unfold at_;rw[ba,au (by omega)];exact fw _);rw[q] at this;cases this
   |true=>
    rw[dL];have F7:=f5.tt (f6.tt f7);refine⟨_,af ((f6.tt f7).get dw id) rfl,qa t64 u64 (ow.frame F7 (λ_ _=>id)) rfl (λv hv=>by simp at hv;rw[hv];rfl) (by omega) (by omega) λp2 c2 h9 o9 f9 g9=>⟨_,_,_,rfl,?_⟩⟩;rw[bK (n:=(i:Int)+1) (by omega) (by omega)];refine⟨⟨i+1,by omega,by omega,by omega,?_,λy hy=> ?_,(fg.tt F7).fresh f9 (λy hy=>nw y hy),?_⟩,by show 2 - Int.toNat ((i:Int)+1)<2 - Int.toNat (i:Int);omega⟩
    ·rw[eq,nc,bm];rw[show y.s.f1=((at_ l i).n:Int) by show(y.n:Int)=_;rw[yn]] at o9;exact o9
    ·rcases g9 y hy with a|a
     ·exact nw y a
     ·have:=fg.1;have:=F7.1;omega
    ·rw[eq];unfold Ke at hn⊢;rw[List.all_append,hn];simp[q]
  ·rw[ai (λe=>nQ (by have:=of_decide_eq_true e;omega))];obtain rfl:i=2:=by omega
   rw[bR (by omega)] at hn ow;exact k1 k4 l2 hn g p c ow.pZ (f1.tt fg)
theorem kT.kn {t:Tr} {x:CV} (H:kT h D t x):x.k=t.k/\x.n=t.n/\x.v.b=t.b/\x.ll=t.l.length/\x.v.ok h D/\∃ys,xD h D x.q x.ll x.cl ys/\dG h D t.l ys:=by
 cases t with
 |mk k n b l=>
  unfold kT at H;obtain⟨⟨a1,a2,a3,a4⟩,ys,L,TS⟩:=H;exact⟨a1,a2,a3,by rw[L.len,<-TS.len];rfl,a4,ys,L,TS⟩
theorem yT {t:Tr} :dY t.l+t.b.length+9=room t:=by cases t;simp only[room,Tr.l,Tr.b];omega
theorem aoF {p:Addr} {b n:Nat} (h:p.block≠b):(some (p.add n)).map Addr.block≠some b:=by
 simp only[dy,wm];exact λe=>h (bz e)
theorem aed {t:Tr} {x:CV} (U:xP V h0) (u:Fr No h0 h) (mx:Gi.Mx h) (tx:SX h t x) (hr:room t<=900000)
  (k1: ∀e,zx V t=some e->∀h',Fr No h h'->R (.tuple #[uG e,.I 0]) h') (k2:zx V t=none->∀h',Fr No h h'->R (.tuple #[uG .zero,.I 3]) h'):Cl F.th #[x.agg] h R:=by
 obtain⟨xk,xn,xb,xl,xv,ys,L,TS⟩:=kT.kn tx;have rl:=yT (t:=t);refine th.walk (x:=x.s) (aa.dH λb h1 eb hb f1=>az.dH λb1 h2 uf dw f2=>aK.of λJ hJ=>aa.jk (f2.get hb id) (ic U (u.tt (f1.tt f2)) ((tx.on f1).on f2) (by omega) λh3 f3=>⟨_,rfl,?_⟩));have F3:=f1.tt (f2.tt f3);have kR:=(f2.tt f3).get hb id;have qu:=f3.get dw id;have zb:=aI hb;have PT:=aI dw;have z1:=f1.1;have z2:=f2.1;have z3:=f3.1;have bad:zx V t=none->J true h3:=λhn=>by
  subst hJ;dsimp only;rw[ag rfl];exact VC (x:=.zero) qu λg f=>k2 hn g (F3.fresh f (λy e=>by omega))
 cases hR:lu V t with
 |false=>exact bad (by unfold zx;rw[ai (λe=>by rw[hR] at e;cases e.1)])
 |true=>
 rw[ai (show¬(!true)=true by decide)];refine⟨_,af kR rfl,?_⟩;have e4:x.s.f0=t.k:=xk;rw[e4];by_cases k4:t.k=4
 case neg=>rw[ag (by simpa using k4)];exact bad (by unfold zx;rw[ai (λe=>k4 e.2.1)])
 rw[ai (by simpa using k4)];refine⟨_,_,_,af kR rfl,?_⟩;have el:x.s.xO=t.l.length:=xl;rw[el];by_cases l2:t.l.length=2
 case neg=>rw[show((t.l.length:Int) !=2)=true by simp only[fK,iq];omega];exact bad (by unfold zx;rw[ai (λe=>l2 e.2.2)])
 rw[show((t.l.length:Int) !=2)=false by simp only[bne_eq_false_iff_eq];omega];clear bad;subst hJ;dsimp only;rw[ai (show¬false=true by decide)];unfold zx at k1 k2;rw[ag ⟨hR,k4,l2⟩] at k1 k2;obtain⟨a0,y0,ea0,hh0,Yt,_⟩:=elem (L.frame F3 (λ_ _=>id)) (TS.on F3) (i:=0) (by omega);obtain⟨a1,y1,Yu,V0,VD,_⟩:=elem (L.frame F3 (λ_ _=>id)) (TS.on F3) (i:=1) (by omega);have r0:=rZ (ts:=t.l) (i:=0) (by omega);have r1:=rZ (ts:=t.l) (i:=1) (by omega);generalize at_ t.l 0=t0 at Yt r0 k1 k2;generalize at_ t.l 1=t1 at VD r1 k1 k2;refine aK.of λJ1 pA=>⟨_,_,_,af kR rfl,⟨by omega,by omega⟩,cG.2 ⟨a0,ea0,aa.yS (x:=y0.s) hh0 ⟨_,_,_,af kR rfl,⟨by omega,by omega⟩,cG.2 ⟨a1,Yu,aa.yS (x:=y1.s) V0 ?_⟩⟩⟩⟩
 have main: ∀g s r,aa.jx g s y0.s->aa.jx g r y1.s->Fr No h3 g->J1 (some (AA s 0)) (some (AA r 0)) g:=by
  intro g s r hs gA fg;subst pA;have Fg:=F3.tt fg;have zg:=fg.1;refine az.dH λb2 h6 FE fI f6=>aK.of λJ2 zX=>aK.of λJ3 SO=> ?_
  have hs6:=f6.get hs id;have hr6:=f6.get gA id;have RQ:=(fg.tt f6).get qu id;have zb2:=aI fI;have F6:=Fg.tt f6;have z6:=f6.1;have aoG: ∀g6 e,az.jx g6 b2 e.s->Fr (λy=>y=b2) h6 g6->(∀h',Fr No h h'->R (.tuple #[uG e,.I 0]) h')->J2 true g6:=λg6 e he f hk=>by
   subst zX;rw[dL];exact az.jk he (VC (f.get RQ (by omega)) λg7 f7=>hk g7 ((F6.fresh f (λy e=>by omega)).fresh f7 (λy e=>by omega)))
  have none_: ∀g6,Fr (λy=>y=b2) h6 g6->(∀h',Fr No h h'->R (.tuple #[uG .zero,.I 3]) h')->J2 false g6:=λg6 f hk=>by
   subst zX;rw[jy];exact VC (x:=.zero) (f.get RQ (by omega)) λg7 f7=>hk g7 ((F6.fresh f (λy e=>by omega)).fresh f7 (λy e=>by omega))
  have nof: ∀ {g6},Fr No h6 g6->Fr (λy=>y=b2) h6 g6:=λf=>f.mono λ_ _=>False.elim
  obtain⟨y1k,y1n,y1b,y1l,y1v,ys1,L1,TS1⟩:=kT.kn VD;have rl1:=yT (t:=t1);have j3: ∀q g6,Fr No h6 g6->q=decide (yV t0 (num 1)=true/\yV t1 (num 0)=true)->J3 q g6:=by
   intro q g6 f hq;subst SO;refine aK.of λJ4 Yw=> ?_
   cases q with
   |true=>
    rw[ag rfl];have c:=of_decide_eq_true hq.symm;exact VC (x:=.zero) (f.get RQ id) λg7 f7=>k1 _ (by rw[ag c]) g7 ((F6.tt f).fresh f7 (λy e=>by omega))
   |false=>
    rw[dL];have c:=of_decide_eq_false hq.symm;rw[ai c] at k1 k2;have hs7:=f.get hs6 id;have hr7:=f.get hr6 id;refine aK.of λJ5 hJ5=>aB.2 (aa.jk hs7 (jw (n:=1) λh24 f24=>aa.ex (nv 1).s ⟨rfl,f24.kp,pV (x:=y0) (y:=nv 1) (Yt.on (fg.tt (f6.tt (f.tt f24)))) xK (by omega) λh25 f25=>⟨_,rfl,?_⟩⟩))
    have j5: ∀q g7,Fr No h6 g7->q=decide (yV t0 (num 1)=true/\t1.k=3)->J5 q g7:=by
     intro q g7 f7 hq;have hs8:=f7.get hs6 id;have hr8:=f7.get hr6 id;have G7:=fg.tt (f6.tt f7);subst hJ5;refine aK.of λJ6 hJ6=> ?_
     have j6: ∀q g,J2 q g->J6 q g:=λq g hh=>by subst hJ6;subst Yw;exact hh
     cases q with
     |true=>
      rw[ag rfl];have c5:=of_decide_eq_true hq.symm;rw[ag c5] at k1 k2;have ev:y1.v.b=t1.b:=y1b;refine aB.2 ⟨_,_,_,af hr8 rfl,str t1.b,vf.conv (by rw[<-ev];exact(y1v.frame G7 (λ_ _=>id)).row) (by show y1.v.b.length=_;rw[ev]),Qp (mx.on (F6.tt f7)) (by rw[qI.C2];omega) λGY f15=> ?_⟩;have ed:(str t1.b).data.toList=t1.b:=by unfold str;simp
      rw[ed];refine az.ex (HP t1.b).s ⟨_,rfl,az.mA (x:=(HP t1.b).s) ((f7.tt f15).get fI id) λvY d16 f16 _=>j6 _ _ ?_⟩;have F16:=Fr.no (f7.tt f15) f16;cases hp:Ff t1.b with
      |true=>exact aoG vY _ d16 F16 (k1 _ (by rw[ag hp]))
      |false=>exact none_ vY F16 (k2 (by rw[ai (by rw[hp];decide)]))
     |false=>
      rw[dL];have c5:=of_decide_eq_false hq.symm;rw[ai c5] at k1 k2;refine aB.2 (aa.jk hs8 (jw (n:=2) λQq f17=>aa.ex (nv 2).s ⟨rfl,f17.kp,pV (x:=y0) (y:=nv 2) (Yt.on (G7.tt f17)) xK (by omega) λGl f18=>⟨_,rfl,aK.of λJ7 hJ7=> ?_⟩⟩));have j7: ∀q g,J2 q g->J7 q g:=λq g hh=>by subst hJ7;exact j6 _ _ hh
      have Mv:=f7.tt (f17.tt f18);cases e2:yV t0 (num 2) with
      |false=>
       rw[dL];exact j7 _ _ (none_ Gl (nof Mv) (k2 (by rw[ai (by rw[e2];decide)])))
      |true=>
       rw[ag rfl];rw[ag e2] at k1 k2;refine aB.2 (aa.jk (Mv.get hr6 id) (SY (VD.on (fg.tt (f6.tt Mv))) (by omega) (λq4 q2 qn Qo p c row f20=>⟨_,_,_,_,rfl,aK.of λJ8 Yx=> ?_⟩) (λqn Qo f20=>⟨_,_,_,_,rfl,aK.of λJ8 Yx=> ?_⟩)))
       ·rw[ag rfl];have n0:(nc t1.l)[0]? =some (.U ((at_ t1.l 0).n:Int)):=by unfold nc at_;rw[aO,ba,au (by omega)];rfl
        have n1:(nc t1.l)[1]? =some (.U ((at_ t1.l 1).n:Int)):=by unfold nc at_;rw[aO,ba,au (by omega)];rfl
        obtain⟨a,rfl⟩:=row.some (by intro e;rw[e] at n0;cases n0);have c0:=row.cell n0;have c1:=row.cell n1;have F20:=Mv.tt f20;refine⟨⟨by omega,by omega⟩,aB.2 ⟨_,by rw[show Int.toNat 0*1=0 from rfl];exact c0,⟨by omega,by omega⟩,aB.2 ⟨_,by rw[show Int.toNat 1*1=1 from rfl];exact c1,az.mA (x:=(acd t1).s) (F20.get fI id) λh22 d22 f22 _=>az.jk d22 (qI.ic (acd t1) λh23 f23=>⟨_,rfl,?_⟩)⟩⟩⟩;have F23:Fr (λy=>y=b2) h6 h23:=(Fr.no F20 f22).on f23;subst Yx;refine j7 _ _ ?_;cases hp:dj (acd t1) with
        |true=>exact aoG h23 _ (f23.get d22 id) F23 (k1 _ (by rw[ag ⟨q4,q2,qn,hp⟩]))
        |false=>exact none_ h23 F23 (k2 (by rw[ai (λe=>by rw[hp] at e;cases e.2.2.2)]))
       ·rw[dL];subst Yx;exact j7 _ _ (none_ Qo (nof (Mv.tt f20)) (k2 (by rw[ai (λe=>qn ⟨e.1,e.2.1,e.2.2.1⟩)])))
    have F25:=f.tt (f24.tt f25);cases e1:yV t0 (num 1) with
    |false=>
     rw[dL];exact j5 _ _ F25 (by rw[e1];simp)
    |true=>
     rw[ag rfl];refine aB.2 ⟨_,af (F25.get hr6 id) rfl,j5 _ _ F25 ?_⟩;rw[show y1.s.f0=t1.k from y1k,e1];by_cases q:t1.k=3<;>simp[q]
  refine aB.2 (aa.jk hs6 (jw (n:=1) λh26 f26=>aa.ex (nv 1).s ⟨rfl,f26.kp,pV (x:=y0) (y:=nv 1) (Yt.on (fg.tt (f6.tt f26))) xK (by omega) λh27 f27=>⟨_,rfl,?_⟩⟩));have F27:=f26.tt f27;cases e1:yV t0 (num 1) with
  |false=>
   rw[dL];exact j3 _ _ F27 (by rw[e1];simp)
  |true=>
   rw[ag rfl];refine aB.2 (aa.jk (F27.get hr6 id) (jw (n:=0) λh28 f28=>aa.ex (nv 0).s ⟨rfl,f28.kp,pV (x:=y1) (y:=nv 0) (VD.on (fg.tt (f6.tt (F27.tt f28)))) xK (by omega) λh29 f29=>⟨_,rfl,?_⟩⟩));exact j3 _ _ (F27.tt (f28.tt f29)) (by rw[e1];simp)
 have la0:a0.block<h3.size:=by
  have:=hh0.1;have:=BX this;rwa[wm,wm] at this
 have la1:a1.block<h3.size:=by
  have:=V0.1;have:=BX this;rwa[wm,wm] at this
 refine⟨aa.dH λb3 h30 LP Lv f30=>⟨f30.kp,aa.dH λb4 h31 Vz ma f31=>⟨f31.kp,aa.mA (x:=y0.s) (f31.get Lv id) λh32 d32 f32 _=>⟨kpb f32 ?_,aa.mA (x:=y1.s) (f32.get ma (by have:=aI Lv;omega)) λh33 d33 f33 _=> ?_⟩⟩⟩,
  aa.dH λb3 h30 LP Lv f30=>⟨f30.kp,aa.dH λb4 h31 Vz ma f31=>⟨f31.kp,aa.mA (x:=y0.s) ma λh32 d32 f32 _=>⟨kpb f32 ?_,aa.mA (x:=y1.s) (f32.get (f31.get Lv id) (by have:=aI Lv;omega)) λh33 d33 f33 _=> ?_⟩⟩⟩,trivial⟩
 ·intro p hp;simp only[bP,List.not_mem_nil,or_false] at hp;rcases hp with rfl|rfl
  ·exact aoF (by omega)
  ·simp only[dy];intro e;have:=bz e;omega
 ·have:=aI Lv;have:=f30.1;exact main h33 b3 b4 (f33.get d32 (by omega)) d33 (((f30.tt f31).fresh f32 (λy e=>by omega)).fresh f33 (λy e=>by omega))
 ·intro p hp;simp only[bP,List.not_mem_nil,or_false] at hp;have:=f30.1;rcases hp with rfl|rfl
  ·exact aoF (by omega)
  ·simp only[dy];intro e;have:=bz e;omega
 ·have:=aI Lv;have:=f30.1;exact main h33 b4 b3 (f33.get d32 (by omega)) d33 (((f30.tt f31).fresh f32 (λy e=>by omega)).fresh f33 (λy e=>by omega))
end Bn
end
end Go.Proofs.YtlenamcfacpheaaGreatDoor
