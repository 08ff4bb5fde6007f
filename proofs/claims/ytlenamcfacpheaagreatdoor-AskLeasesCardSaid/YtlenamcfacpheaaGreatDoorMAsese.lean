/-
  TT is proved here: parts of Js proof, one behind Js other (texts of this work, merged by a program; ZV Js theorem ZW not use is left out). No condition.
-/
import Derived.Test.YtlenamcfacpheaaGreatDoorMAsesd
set_option maxRecDepth 100000
set_option maxHeartbeats 4000000
namespace Go.Proofs.YtlenamcfacpheaaGreatDoor
open Go.Den
open IntKind (wrap)
open Int (toNat)
section
namespace gK
open qJ (Ev dk uH)
variable {h h':aj} {R:iI} {s k:Nat} {X:Ft} {I:GX}
def Vv (x:Ev):Prop:=dk x=true/\x≠Ev.zero
instance (x : Ev) : Decidable (Vv x) := by unfold Vv; infer_instance
theorem Im (x:Ev) (k1:Vv x->∀h' b,Mk h' b x 0 0->h.size<=b->Fr No h h'->R (.tuple #[pt b,.I 0]) h')
  (k2: ¬Vv x->∀h',Fr No h h'->R (.tuple #[.pointer none,.I 3]) h'):Cl F.wx #[uH x] h R:=by
 refine wx.walk (az.box λb h1 eb hb f1=>aK.of λJ hJ=>az.ld hb (qJ.ic x λh2 f2=>⟨_,rfl,?_⟩));have fJ:=f2.get hb id;cases hr:dk x with
 |false=>
  rw[jy];subst hJ;exact k2 (λm=>by rw[m.1] at hr;cases hr) h2 (f1.tt f2)
 |true=>
  rw[dM];refine az.ld fJ ⟨_,qJ.IE (y:=Ev.zero) rfl rfl,?_⟩;subst hJ;by_cases hz:x=Ev.zero
  ·rw[ay hz];dsimp only;rw[ag rfl];exact k2 (λm=>m.2 hz) h2 (f1.tt f2)
  ·rw[decide_eq_false hz];dsimp only;rw[dM];refine az.ld fJ (cY (k1 ⟨hr,hz⟩ _ _ cA (dw f1.1 f2.1) ((f1.tt f2).tt (Fr.push _ _))))
theorem pE (x:Ev) (k1:Vv x->∀h' s X I,Pt h' s X I (G8 x)->UpF h X h'->R (.tuple #[pt s,.I 0]) h')
  (k2: ¬Vv x->∀h',Fr No h h'->R (.tuple #[.pointer none,.I 3]) h'):Cl F.wv #[uH x] h R:=by
 refine wv.walk (az.box λb h1 eb hb f1=>az.ld hb (Im x (λhm h2 k M2 g2 f2=>⟨_,_,rfl,?_⟩) (λhm h2 f2=>⟨_,_,rfl,?_⟩)))
 ·rw[dM];refine vN.pE 4800 1600 (λ_ h3 p m P3 g3 g3' f3=>⟨_,_,rfl,?_⟩) (λe=>absurd e (by decide));rw[dM];refine gU.pE λh4 t X0 H4 f4 u4=>⟨_,rfl,j8.pE λh5 r X1 H5 u5=>⟨_,rfl,hU.pE λh6 c X2 H6 u6=>⟨_,rfl,lJ.pE λh7 o X3 H7 f7 u7=>⟨_,rfl,cY ?_⟩⟩⟩⟩
  have f8:Fr No h7 (h7.push (.cells #[.P t 0,.P r 0,.P c 0,.P o 0,.P p 0,.P k 0,.U 0,.I 0] T.sJ)):=Fr.push _ _;have B8:(h7.push (.cells #[.P t 0,.P r 0,.P c 0,.P o 0,.P p 0,.P k 0,.U 0,.I 0] T.sJ))[h7.size]? =_:=cA;have z8:(h7.push (.cells #[.P t 0,.P r 0,.P c 0,.P o 0,.P p 0,.P k 0,.U 0,.I 0] T.sJ)).size=h7.size+1:=fP _;generalize h7.push (.cells #[.P t 0,.P r 0,.P c 0,.P o 0,.P p 0,.P k 0,.U 0,.I 0] T.sJ)=h8 at f8 B8 z8⊢;have F7:=f7.tt f8;have F6:=u6.fr.tt F7;have F5:=u5.fr.tt F6;have F4:=f4.tt F5;have F3:=f3.tt F4;have F8:=f1.tt (f2.tt F3);have z1:=f1.1;have z2:=f2.1;have z3:=f3.1;have z4:=f4.1;have z5:=u5.fr.1;have z6:=u6.fr.1;have z7:=f7.1;have lp:=P3.lt;have lk:=aI M2
  let Y:Nat->Ft:=λi=>match i with
   |0=>X0|1=>X1|2=>X2|3=>X3
   |4=>⟨λy=>y=p\/y=m,λ_=>False⟩
   |5=>⟨λy=>y=k,λ_=>False⟩
   |6=>⟨λy=>y=h7.size,λ_=>False⟩
   |_=>⟨λ_=>False,λ_=>False⟩
  let lo:Nat->Nat:=λi=> [h3.size,h4.size,h5.size,h6.size,h2.size,h1.size].getD i h7.size
  let hi:Nat->Nat:=λi=> [h4.size,h5.size,h6.size,h7.size,h3.size,h2.size].getD i h8.size
  have bd: ∀i y,In (Y i) y->lo i<=y/\y<hi i:=λi y hy=>by
   rcases i with _|_|_|_|_|_|_|i
   ·exact⟨u4 y hy,H4.lt y hy⟩
   ·exact⟨u5.ge y hy,H5.lt y hy⟩
   ·exact⟨u6.ge y hy,H6.lt y hy⟩
   ·exact⟨u7 y hy,H7.lt y hy⟩
   ·rcases hy with hy|hy
    ·rcases hy with rfl|rfl
     ·exact⟨g3,lp.1⟩
     ·exact⟨g3',lp.2⟩
    ·exact hy.elim
   ·rcases hy with hy|hy
    ·have hy:y=k:=hy;exact⟨hy▸g2,hy▸lk⟩
    ·exact hy.elim
   ·rcases hy with hy|hy
    ·have hy:y=h7.size:=hy;exact⟨by show h7.size<=y;omega,by show y<h8.size;omega⟩
    ·exact hy.elim
   ·rcases hy with hy|hy<;>exact hy.elim
  refine k1 hm h8 h7.size ⟨λy=> ∃i,(Y i).M y,λy=> ∃i,(Y i).D y⟩ ⟨t,r,c,o,p,k⟩ ⟨Y,λi=> ?_,λi j y hij hy hz=> ?_,λ_=>fZ,λ_=>fZ⟩ ⟨F8,λy hy=> ?_⟩
  ·rcases i with _|_|_|_|_|_|_|i
   ·exact H4.frame F5 (λ_ _=>id)
   ·exact H5.on F6
   ·exact H6.on F7
   ·exact lJ.Nt.on ⟨[],H7,lJ.okB.nil⟩ f8
   ·exact⟨m,P3.frame F4 id id,λy=>⟨fZ,id⟩⟩
   ·exact⟨F3.get M2 id,λy=>⟨fZ,id⟩⟩
   ·exact⟨B8,λy=>⟨fZ,id⟩⟩
   ·exact λy hy=>hy.elim id id
  ·have h1:=bd i y hy;have h2:=bd j y hz;have e7: ∀i,¬In (Y (i+7)) y:=λi hy=>hy.elim id id
   rcases i with _|_|_|_|_|_|_|i<;>first|exact e7 i hy|(rcases j with _|_|_|_|_|_|_|j<;>first|exact e7 j hz|exact hij rfl|(simp only[lo,hi,List.getD_cons_zero,List.getD_cons_succ,List.getD_nil] at h1 h2;omega))
  ·have key: ∀i,In (Y i) y->h.size<=y:=λi a=>by
    have h1:=(bd i y a).1;rcases i with _|_|_|_|_|_|_|i<;>(simp only[lo,List.getD_cons_zero,List.getD_cons_succ,List.getD_nil] at h1;omega)
   rcases hy with⟨i,a⟩|⟨i,a⟩
   ·exact key i (.inl a)
   ·exact key i (.inr a)
 ·rw[jy];exact k2 hm h2 (f1.tt f2)
end gK
end
section
namespace Cb
structure CV where
 k:Int
 n:Nat
 v:BV
 q:bV
 ll:Nat
 cl:Nat
abbrev mK (x:CV):List Value:= [.int .i64 x.k,.int .u64 (x.n:Int),x.v.val,.slice x.q x.ll x.cl]
theorem jS (x:CV):(mK x).length=4:=rfl
abbrev CV.agg (x:CV):Value:=.agg (mK x).toArray
structure xE (h:aj) (D:Nat->Prop) (q:bV) (l c:Nat) (ys:List CV):Prop where
 len:l=ys.length
 row:Row h q (ys.flatMap mK)
 own:ys≠ []->∀y,aQ q y->D y
 cap:l<=c
mutual
def kU (h:aj) (D:Nat->Prop):Tr->CV->Prop
 | .mk k n b l,x=>(x.k=k/\x.n=n/\x.v.b=b/\x.v.ok h D)/\∃ys,xE h D x.q x.ll x.cl ys/\dH h D l ys
def dH (h:aj) (D:Nat->Prop):List Tr->List CV->Prop
 | [], []=>True
 |t::ts,y::ys=>kU h D t y/\dH h D ts ys
 |_,_=>False
end
variable {h h' : aj} {D D' : Nat → Prop}
theorem xE.frame {Q:Nat->Prop} {q:bV} {l c:Nat} {ys:List CV} (H:xE h D q l c ys) (f:Fr Q h h') (hq: ∀y,D y->¬Q y):xE h' D q l c ys:=by
 refine⟨H.len,?_,H.own,H.cap⟩;by_cases e:ys= []
 ·subst e;exact Row.nil
 ·exact H.row.frame f (λa ea=>hq _ (H.own e _ ⟨a,ea,rfl⟩))
theorem xE.mono {q:bV} {l c:Nat} {ys:List CV} (H:xE h D q l c ys) (hd: ∀y,D y->D' y):xE h D' q l c ys:=⟨H.len,H.row,λe y hy=>hd y (H.own e y hy),H.cap⟩
theorem xE.lt {q:bV} {l c:Nat} {ys:List CV} (H:xE h D q l c ys):xE h (λy=>D y/\y<h.size) q l c ys:=⟨H.len,H.row,λe y hy=>⟨H.own e y hy,qO H.row (by cases ys with|nil=>exact absurd rfl e|cons=>simp) hy⟩,H.cap⟩
theorem Sx {x:BV} (H:x.ok h D):x.ok h (λy=>D y/\y<h.size):=⟨H.row,λe y hy=>⟨H.own e y hy,qO H.row (by cases hb:x.b with|nil=>exact absurd hb e|cons=>simp[bc]) hy⟩,H.cap⟩
mutual
theorem kU.frame {Q:Nat->Prop} (f:Fr Q h h') (hq: ∀y,D y->¬Q y): ∀ {t:Tr} {x:CV},kU h D t x->kU h' D t x
 | .mk k n b l,x,H=>by
  unfold kU at H⊢;obtain⟨⟨h1,h2,h3,h4⟩,ys,h5,h6⟩:=H;exact⟨⟨h1,h2,h3,h4.frame f hq⟩,ys,h5.frame f hq,dH.frame f hq h6⟩
theorem dH.frame {Q:Nat->Prop} (f:Fr Q h h') (hq: ∀y,D y->¬Q y): ∀ {ts:List Tr} {ys:List CV},dH h D ts ys->dH h' D ts ys
 | [], [],_=>trivial
 |t::ts,y::ys,H=>by
  unfold dH at H⊢;exact⟨kU.frame f hq H.1,dH.frame f hq H.2⟩
 | [],_::_,H=>by unfold dH at H;exact H.elim
 |_::_, [],H=>by unfold dH at H;exact H.elim
end
mutual
theorem kU.mono (hd: ∀y,D y->D' y): ∀ {t:Tr} {x:CV},kU h D t x->kU h D' t x
 | .mk k n b l,x,H=>by
  unfold kU at H⊢;obtain⟨⟨h1,h2,h3,h4⟩,ys,h5,h6⟩:=H;exact⟨⟨h1,h2,h3,h4.mono hd⟩,ys,h5.mono hd,dH.mono hd h6⟩
theorem dH.mono (hd: ∀y,D y->D' y): ∀ {ts:List Tr} {ys:List CV},dH h D ts ys->dH h D' ts ys
 | [], [],_=>trivial
 |t::ts,y::ys,H=>by
  unfold dH at H⊢;exact⟨kU.mono hd H.1,dH.mono hd H.2⟩
 | [],_::_,H=>by unfold dH at H;exact H.elim
 |_::_, [],H=>by unfold dH at H;exact H.elim
end
mutual
theorem kU.lt: ∀ {t:Tr} {x:CV},kU h D t x->kU h (λy=>D y/\y<h.size) t x
 | .mk k n b l,x,H=>by
  unfold kU at H⊢;obtain⟨⟨h1,h2,h3,h4⟩,ys,h5,h6⟩:=H;exact⟨⟨h1,h2,h3,Sx h4⟩,ys,h5.lt,dH.lt h6⟩
theorem dH.lt: ∀ {ts:List Tr} {ys:List CV},dH h D ts ys->dH h (λy=>D y/\y<h.size) ts ys
 | [], [],_=>trivial
 |t::ts,y::ys,H=>by
  unfold dH at H⊢;exact⟨kU.lt H.1,dH.lt H.2⟩
 | [],_::_,H=>by unfold dH at H;exact H.elim
 |_::_, [],H=>by unfold dH at H;exact H.elim
end
theorem kU.on {t:Tr} {x:CV} (H:kU h D t x) (f:Fr No h h'):kU h' D t x:=kU.frame f (λ_ _=>id) H
theorem dH.on {ts:List Tr} {ys:List CV} (H:dH h D ts ys) (f:Fr No h h'):dH h' D ts ys:=dH.frame f (λ_ _=>id) H
theorem dH.len: ∀ {ts:List Tr} {ys:List CV},dH h D ts ys->ts.length=ys.length
 | [], [],_=>rfl
 |t::ts,y::ys,H=>by
  unfold dH at H;rw[bj,bj,dH.len H.2]
 | [],_::_,H=>by unfold dH at H;exact H.elim
 |_::_, [],H=>by unfold dH at H;exact H.elim
theorem dH.get: ∀ {ts:List Tr} {ys:List CV} {i:Nat} {y:CV},dH h D ts ys->ys[i]? =some y->∃t,ts[i]? =some t/\kU h D t y
 | [], [],_,_,_,hi=>by simp at hi
 |t::ts,y::ys,0,z,H,hi=>by
  unfold dH at H;rw[eU] at hi;cases hi;exact⟨t,rfl,H.1⟩
 |t::ts,y::ys,i+1,z,H,hi=>by
  unfold dH at H;rw[eO] at hi;obtain⟨u,h1,h2⟩:=dH.get H.2 hi;exact⟨u,by rw[eO];exact h1,h2⟩
 | [],_::_,_,_,H,_=>by unfold dH at H;exact H.elim
 |_::_, [],_,_,H,_=>by unfold dH at H;exact H.elim
theorem dH.snoc: ∀ {ts:List Tr} {ys:List CV} {t:Tr} {y:CV},dH h D ts ys->kU h D t y->dH h D (ts++ [t]) (ys++ [y])
 | [], [],_,_,_,H2=>by
  show dH h D [_] [_];unfold dH;exact⟨H2,trivial⟩
 |u::ts,z::ys,t,y,H,H2=>by
  unfold dH at H;show dH h D (u::(ts++ [t])) (z::(ys++ [y]));unfold dH;exact⟨H.1,dH.snoc H.2 H2⟩
 | [],_::_,_,_,H,_=>by unfold dH at H;exact H.elim
 |_::_, [],_,_,H,_=>by unfold dH at H;exact H.elim
theorem dH.take: ∀ {ts:List Tr} {ys:List CV} (n:Nat),dH h D ts ys->dH h D (ts.take n) (ys.take n)
 | [], [],n,_=>by simp[dH]
 |t::ts,y::ys,0,_=>by simp[dH]
 |t::ts,y::ys,n+1,H=>by
  unfold dH at H;rw[jb,jb];unfold dH;exact⟨H.1,dH.take n H.2⟩
 | [],_::_,_,H=>by unfold dH at H;exact H.elim
 |_::_, [],_,H=>by unfold dH at H;exact H.elim
theorem dH.drop: ∀ {ts:List Tr} {ys:List CV} (n:Nat),dH h D ts ys->dH h D (ts.drop n) (ys.drop n)
 | [], [],n,_=>by simp[dH]
 |t::ts,y::ys,0,H=>H
 |t::ts,y::ys,n+1,H=>by
  unfold dH at H;rw[List.drop_succ_cons,List.drop_succ_cons];exact dH.drop n H.2
 | [],_::_,_,H=>by unfold dH at H;exact H.elim
 |_::_, [],_,H=>by unfold dH at H;exact H.elim
end Cb
end
section
variable {h:aj} {R:iI}
theorem jd.walk {is:Bool} {e:Int} {E:iI} (hv:if(!is) then E (.iface T.oP (.agg #[.I e])) h else R (.tuple #[]) h):mI Tryz.prog F.jd #[.bool is,.I e] h R E:=mf (lq (cq lf lf)) Ul Tryz.func282 rfl rfl (Eq.mp (by kernel_rfl) hv)
theorem jZ.walk {r:Nat} {E:iI} (hv:aV h (.cells #[.I 0,.U 0,.bool false] T.bg) λb aR=>aK (λ(aZ:bV) (next:Int) (e:Int) (bK:aj)=>Ce F.jd #[.bool (e==0),.I e] bK (λv cC=>v=.tuple #[]/\aH cC (AA r 1) (.I next) λcK=>aP aZ λa=>bg.LD cK a λBw zQ ads=>bg.ST cK (AA b 0) Bw zQ ads λcR=>bg.LD cR (AA b 0) λoQ ia oT=>R (.agg #[.I oQ,.U ia,.bool oT]) cR) E) (λJ=>Hl aR r 0 λyw rQ CS=>Hi aR r 1 λt14=>(Cl F.wz #[.slice yw rQ CS,.I t14] aR λeK cX=> ∃XE XF XG uf Sy,eK=.tuple #[.agg #[.I XE,.U XF,.bool XG],.I uf,.I Sy]/\aV cX (.cells #[.I 0,.U 0,.bool false] T.bg) λcE dB=>bg.ST dB (AA cE 0) XE XF XG λff=>([]:List Deferred)= []/\J (some (AA cE 0)) uf Sy ff)/\(aV aR (.cells #[.I 0,.U 0,.bool false] T.bg) λeZ cQ=>ak cQ (AA r 1)=some (.I t14)/\ak cQ (AA r 0)=some (.slice yw rQ CS)/\Cl F.wz #[.slice yw rQ CS,.I t14] cQ λgS cW=> ∃NM NN NO XH XI,gS=.tuple #[.agg #[.I NM,.U NN,.bool NO],.I XH,.I XI]/\bg.ST cW (AA eZ 0) NM NN NO λdE=>([]:List Deferred)= []/\J (some (AA eZ 0)) XH XI dE)/\True)):mI Tryz.prog F.jZ #[.P r 0] h R E:=mf (lq (sq (.join [(3,.one (.ptr)),(4,.one (.int .i64)),(5,.one (.int .i64))] (.mC (jh 8 0 (.alts (.fork 8 (jh 8 9 .done) (.fork 13 (.op 8 (.op 9 (.op 10 (.op 11 (.op 12 (.op 14 (.op 15 (.op 16 .done)))))))) .mE)))))) (lq (lq ll)))) Ul Tryz.func281 rfl rfl (Eq.mp (by kernel_rfl) hv)
theorem l6.walk {r:Nat} (hv:aK (λ(t25:Bool) (aR:aj)=>if t25 then∃t29,ak aR (AA r 1)=some (.I t29)/\aH aR (AA r 1) (.I (wrap .i64 (t29+1))) λaZ=>R (.bool true) aZ else R (.bool false) aR) (λJ=>Hi h r 1 λt6=> ∃yw rQ CS,ak h (AA r 0)=some (.slice yw rQ CS)/\if(decide (t6<(rQ:Int))) then Hl h r 0 λXA XB aiv=>Hi h r 1 λt21=>Bd t21 XB/\aP XA λa=> ∃t23,ak h (a.add (toNat t21*1))=some (.int .u8 t23)/\J (t23==255) h else J false h)):Cl F.l6 #[.P r 0] h R:=aS (lq (sq (sq (.join [(25,.one (.bool))] (pN 23)) (cq (lq ll) lf)) ll)) Tryz.func310 hv
theorem jG.walk {r : Nat} {mP : Int} {aR : Int} {aZ : Bool} {E : Value → aj → Prop} (hv :
 aV h (.cells #[.int .i64 mP, .int .u64 aR, .bool aZ] T.bg) λb aR =>
 ∃ t7, ak aR ⟨b, 1, none⟩ = some (.int .u64 t7) ∧
 ∃ Fx Bt MZ, ak aR ⟨r, 0, none⟩ = some (.slice Fx Bt MZ) ∧
 ∃ t16, ak aR ⟨r, 1, none⟩ = some (.int .i64 t16) ∧
 Ce F.jd #[.bool (decide (t7 ≤ (IntKind.wrap .u64 (IntKind.wrap .i64 (((Bt : Nat) : Int) - t16))))), .int .i64 8] aR (λv aZ =>
 v = .tuple #[] ∧
 ak aZ ⟨r, 1, none⟩ = some (.int .i64 t16) ∧
 ak aZ ⟨r, 0, none⟩ = some (.slice Fx Bt MZ) ∧
 ak aZ ⟨b, 1, none⟩ = some (.int .u64 t7) ∧
 ∃ iQ iy iz, ak aZ ⟨r, 0, none⟩ = some (.slice iQ iy iz) ∧
 ∃ t28, ak aZ ⟨r, 1, none⟩ = some (.int .i64 t28) ∧
 ∃ t32, ak aZ ⟨r, 1, none⟩ = some (.int .i64 t32) ∧
 ∃ t34, ak aZ ⟨b, 1, none⟩ = some (.int .u64 t34) ∧
 ((0 : Int) ≤ IntKind.wrap .i64 (t32 + (IntKind.wrap .i64 t34)) ∧ IntKind.wrap .i64 (t32 + (IntKind.wrap .i64 t34)) ≤ ((iz : Nat) : Int)) ∧ ((0 : Int) ≤ t28 ∧ t28 ≤ IntKind.wrap .i64 (t32 + (IntKind.wrap .i64 t34))) ∧
 Cl F.cv #[.slice (da iQ iz (Int.toNat t28) 1) ((Int.toNat (IntKind.wrap .i64 (t32 + (IntKind.wrap .i64 t34)))) - (Int.toNat t28)) (iz - (Int.toNat t28))] aZ λeK bK =>
 ∃ rK rL vh, eK = .slice rK rL vh ∧
 ak bK ⟨b, 1, none⟩ = some (.int .u64 t34) ∧
 ak bK ⟨r, 1, none⟩ = some (.int .i64 t32) ∧
 ak bK ⟨r, 1, none⟩ = some (.int .i64 t28) ∧
 ak bK ⟨r, 0, none⟩ = some (.slice iQ iy iz) ∧
 aK (fun (cC : aj) =>
 ∃ t50, ak cC ⟨r, 1, none⟩ = some (.int .i64 t50) ∧
 ∃ t52, ak cC ⟨b, 1, none⟩ = some (.int .u64 t52) ∧
 aH cC ⟨r, 1, none⟩ (.int .i64 (IntKind.wrap .i64 (t50 + (IntKind.wrap .i64 t52)))) λcK =>
 R (.slice rK rL vh) cK)
 (λJ =>
 ∃ t40, ak bK ⟨b, 0, none⟩ = some (.int .i64 t40) ∧
 if (t40 != 3) = true then
 Ce F.jd #[.bool true, .int .i64 3] bK (λgS cR =>
 gS = .tuple #[] ∧
 ([] : List Deferred) = [] ∧ J cR)
 E
 else
 Cl F.jm #[.slice rK rL vh] bK λkV cX =>
 ∃ t44, kV = .bool t44 ∧
 Ce F.jd #[.bool t44, .int .i64 3] cX (λou dB =>
 ou = .tuple #[] ∧
 ([] : List Deferred) = [] ∧ J dB)
 E))
 E) : mI Tryz.prog F.jG #[.pointer (some ⟨r, 0, none⟩), .agg #[.int .i64 mP, .int .u64 aR, .bool aZ]] h R E :=
 mf (.seq .leaf (.seq (.mC (.op 0 (.op 1 (.op 2 (.op 3 (.op 4 (.op 5 (.op 6 (.op 7 (.op 8 (.op 9 (.op 10 (.op 11 (.op 12 (.op 13 (.op 14 .done)))))))))))))))) (.seq (.mC (.op 0 (.op 1 (.op 2 (.op 3 (.op 4 (.op 5 (.op 6 (.op 7 (.op 8 (.op 9 (.op 10 (.op 11 (.op 12 (.op 13 (.op 14 (.op 15 (.op 16 (.op 17 (.op 18 .done)))))))))))))))))))) (.seq (.join [] .leaf) (.seq (.mC (.op 0 (.op 1 (.op 2 (.op 3 (.op 4 (.op 5 (.op 6 (.op 7 (.op 8 (.op 9 (.op 10 .done)))))))))))) (.seq .leaf .leaf)))))) Ul Tryz.func311 rfl rfl (Eq.mp (by kernel_rfl) hv)
theorem j0.walk {r:Nat} {mP:Int} {aR:Int} {aZ:Bool} {E:iI} (hv:aV h (.cells #[.I mP,.U aR,.bool aZ] T.bg) λb aR=>aV aR (.cells #[.I 0,.U 0,.Z,.Z] T.aa) λcE aZ=>Hi aZ b 0 λt8=>aV aZ (.cells #[.I 0,.U 0,.Z,.Z] T.aa) λeZ bK=>aa.ST bK (AA eZ 0) t8 0 none 0 0 none 0 0 λcC=> ∃t11,ak cC (AA b 2)=some (.bool t11)/\if(!t11) then bg.LD cC (AA b 0) λqM rR ac8=>Ce F.jG #[.P r 0,.agg #[.I qM,.U rR,.bool ac8]] cC (λv cK=> ∃tH sK ue,v=.slice tH sK ue/\aH cK (AA eZ 2) (.slice tH sK ue) λcR=>aa.LD cR (AA eZ 0) λyy xr ago agp agq agr ags agt=>aa.ST cR (AA cE 0) yy xr ago agp agq agr ags agt λcX=>aa.LD cX (AA cE 0) λoQ ia nC nE nF qA qB qC=>R (.agg #[.I oQ,.U ia,.slice nC nE nF,.slice qA qB qC]) cX) E else∃(I:aj->Prop) (mu:aj->Nat),I cC/\∀(dB:aj),I dB->Cl F.l6 #[.P r 0] dB λeK ff=> ∃t19,eK=.bool t19/\if(!t19) then Ce F.jZ #[.P r 0] ff (λgS cQ=> ∃zM vm W7,gS=.agg #[.I zM,.U vm,.bool W7]/\aV cQ (.cells #[.I 0,.U 0,.bool false] T.bg) λjR cW=>bg.ST cW (AA jR 0) zM vm W7 λdE=>aK (λ(dG:aj)=>Hl dG eZ 2 λzA yd zB=>bg.LD dG (AA jR 0) λaoe aof aog=>Ce F.jG #[.P r 0,.agg #[.I aoe,.U aof,.bool aog]] dG (λkV fD=>Vl kV λrK rL vh=>ak fD (AA eZ 2)=some (.slice zA yd zB)/\aX Tryz.prog (Builtin.append_ #[T.du,T.du] T.du #[.slice zA yd zB,.slice rK rL vh]) fD λou gE=> ∃ot kI oH,ou=.slice ot kI oH/\aH gE (AA eZ 2) (.slice ot kI oH) λgX=>(([]:List Deferred)= []/\I gX/\mu gX<mu dB)) E) (λJ=>Hi dE jR 0 λt24=> ∃t26,ak dE (AA b 0)=some (.I t26)/\if(t24==t26) then Hb dE jR 2 λt30=>Ce F.jd #[.bool (!t30),.I 3] dE (λxw gR=>xw=.tuple #[]/\([]:List Deferred)= []/\J gR) E else Ce F.jd #[.bool false,.I 3] dE (λAU fi=>AU=.tuple #[]/\([]:List Deferred)= []/\J fi) E)) E else aa.LD ff (AA eZ 0) λxh xi PR PS PT agu agv agw=>aa.ST ff (AA cE 0) xh xi PR PS PT agu agv agw λjn=>aa.LD jn (AA cE 0) λnG nH xF xG xH xI xJ xK=>R (.agg #[.I nG,.U nH,.slice xF xG xH,.slice xI xJ xK]) jn):mI Tryz.prog F.j0 #[.P r 0,.agg #[.I mP,.U aR,.bool aZ]] h R E:=mf (lq (lq (sq (lq (cq (lq ll) lf)) (sq (bq (.loop [] (sq (lq (cq lf lf)) (bq (lq (sq (.join [] lf) (pN 8))))))) ll)))) Ul Tryz.func284 rfl rfl (Eq.mp (by kernel_rfl) hv)
theorem lZ.walk {r : Nat} {mP : Int} {aR : Int} {aZ : Bool} {deep : Int} {E : Value → aj → Prop} (hv :
 aV h (.cells #[.int .i64 mP, .int .u64 aR, .bool aZ] T.bg) λb aR =>
 aV aR (.cells #[.int .i64 0, .int .u64 0, .slice none 0 0, .slice none 0 0] T.aa) λcE aZ =>
 aV aZ (.cells #[.int .i64 0, .int .u64 0, .slice none 0 0, .slice none 0 0] T.aa) λeZ bK =>
 aa.ST bK ⟨eZ, 0, none⟩ 4 0 none 0 0 none 0 0 λcC =>
 ∃ t10, ak cC ⟨b, 2, none⟩ = some (.bool t10) ∧
 if t10 = true then
 ∃ (I : aj → Prop) (mu : aj → Nat), I cC ∧ ∀ (cK : aj), I cK →
 Cl F.l6 #[.pointer (some ⟨r, 0, none⟩)] cK λv cR =>
 ∃ t12, v = .bool t12 ∧
 if (!t12) = true then
 ∃ tH sK ue, ak cR ⟨eZ, 3, none⟩ = some (.slice tH sK ue) ∧
 Ce F.ig #[.pointer (some ⟨r, 0, none⟩), .int .i64 (IntKind.wrap .i64 (deep + 1))] cR (λeK cX =>
 ∃ zH vJ ym yo yq FU FV FW, eK = .agg #[.int .i64 zH, .int .u64 vJ, .slice ym yo yq, .slice FU FV FW] ∧
 ak cX ⟨eZ, 3, none⟩ = some (.slice tH sK ue) ∧
 aV cX (.cells #[.int .i64 zH, .int .u64 vJ, .slice ym yo yq, .slice FU FV FW] T.aa) λjR dB =>
 ak dB ⟨eZ, 3, none⟩ = some (.slice tH sK ue) ∧
 aX Tryz.prog (Builtin.append_ #[T.cF, T.cF] T.cF #[.slice tH sK ue, .slice (some ⟨jR, 0, none⟩) 1 1]) dB λgS ff =>
 ∃ ve uc vG, gS = .slice ve uc vG ∧
 aH ff ⟨eZ, 3, none⟩ (.slice ve uc vG) λcQ =>
 (([] : List Deferred) = [] ∧ I cQ ∧ mu cQ < mu cK))
 E
 else
 aa.LD cR ⟨eZ, 0, none⟩ λDY DZ Jh Ji Jj Jk Jl Jm =>
 aa.ST cR ⟨cE, 0, none⟩ DY DZ Jh Ji Jj Jk Jl Jm λcW =>
 aa.LD cW ⟨cE, 0, none⟩ λoQ ia nC nE nF qA qB qC =>
 R (.agg #[.int .i64 oQ, .int .u64 ia, .slice nC nE nF, .slice qA qB qC]) cW
 else
 ∃ t25, ak cC ⟨b, 1, none⟩ = some (.int .u64 t25) ∧
 ∃ Bm ye CA, ak cC ⟨r, 0, none⟩ = some (.slice Bm ye CA) ∧
 ∃ t34, ak cC ⟨r, 1, none⟩ = some (.int .i64 t34) ∧
 Ce F.jd #[.bool (decide (t25 ≤ (IntKind.wrap .u64 (IntKind.wrap .i64 (((ye : Nat) : Int) - t34))))), .int .i64 8] cC (λkV dE =>
 kV = .tuple #[] ∧
 ak dE ⟨r, 1, none⟩ = some (.int .i64 t34) ∧
 ak dE ⟨r, 0, none⟩ = some (.slice Bm ye CA) ∧
 ak dE ⟨b, 1, none⟩ = some (.int .u64 t25) ∧
 ∃ t40, ak dE ⟨b, 1, none⟩ = some (.int .u64 t40) ∧
 ∃ (Kq : Int → aj → Prop) (CD : Int → aj → Nat), Kq 0 dE ∧ ∀ (t41 : Int) (dG : aj), Kq t41 dG →
 if (decide (t41 < t40)) = true then
 ∃ NP NQ NR, ak dG ⟨eZ, 3, none⟩ = some (.slice NP NQ NR) ∧
 Ce F.ig #[.pointer (some ⟨r, 0, none⟩), .int .i64 (IntKind.wrap .i64 (deep + 1))] dG (λou fD =>
 ∃ aiy aiz XJ XK XL XM XN XO, ou = .agg #[.int .i64 aiy, .int .u64 aiz, .slice XJ XK XL, .slice XM XN XO] ∧
 ak fD ⟨eZ, 3, none⟩ = some (.slice NP NQ NR) ∧
 aV fD (.cells #[.int .i64 aiy, .int .u64 aiz, .slice XJ XK XL, .slice XM XN XO] T.aa) λpI gE =>
 ak gE ⟨eZ, 3, none⟩ = some (.slice NP NQ NR) ∧
 aX Tryz.prog (Builtin.append_ #[T.cF, T.cF] T.cF #[.slice NP NQ NR, .slice (some ⟨pI, 0, none⟩) 1 1]) gE λxw gX =>
 ∃ Da Bz Db, xw = .slice Da Bz Db ∧
 aH gX ⟨eZ, 3, none⟩ (.slice Da Bz Db) λgR =>
 (([] : List Deferred) = [] ∧ Kq (IntKind.wrap .u64 (t41 + 1)) gR ∧ CD (IntKind.wrap .u64 (t41 + 1)) gR < CD t41 dG))
 E
 else
 aa.LD dG ⟨eZ, 0, none⟩ λSz Ld agx agy agz agA agB agC =>
 aa.ST dG ⟨cE, 0, none⟩ Sz Ld agx agy agz agA agB agC λfi =>
 aa.LD fi ⟨cE, 0, none⟩ λnG nH xF xG xH xI xJ xK =>
 R (.agg #[.int .i64 nG, .int .u64 nH, .slice xF xG xH, .slice xI xJ xK]) fi)
 E) : mI Tryz.prog F.lZ #[.pointer (some ⟨r, 0, none⟩), .agg #[.int .i64 mP, .int .u64 aR, .bool aZ], .int .i64 deep] h R E :=
 mf (.seq .leaf (.seq .leaf (.seq (.seq .leaf (.cond (.seq (.block (.loop [] (.seq (.seq .leaf (.cond .leaf .leaf)) (.block (.mC (.op 0 (.op 1 (.op 2 (.op 3 (.op 4 (.op 5 (.op 6 (.op 7 (.op 8 (.op 9 .done))))))))))))))) (.seq .leaf .leaf)) .leaf)) (.seq (.mC (.op 0 (.op 1 (.op 2 (.op 3 (.op 4 (.op 5 (.op 6 (.op 7 (.op 8 (.op 9 (.op 10 (.op 11 (.op 12 (.op 13 (.op 14 .done)))))))))))))))) (.seq (.seq .leaf (.block (.loop [(41, .one (.int .u64))] (.seq .leaf (.seq (.cond .leaf .leaf) (.seq (.block (.mC (.op 0 (.op 1 (.op 2 (.op 3 (.op 4 (.op 5 (.op 6 (.op 7 (.op 8 (.op 9 .done)))))))))))) .leaf)))))) (.seq .leaf .leaf)))))) Ul Tryz.func283 rfl rfl (Eq.mp (by kernel_rfl) hv)
theorem ig.walk {r:Nat} {deep:Int} {E:iI} (hv:aV h (.cells #[.I 0,.U 0,.Z,.Z] T.aa) λb aR=>Ce F.jZ #[.P r 0] aR (λv aZ=> ∃RQ Ky af2,v=.agg #[.I RQ,.U Ky,.bool af2]/\aV aZ (.cells #[.I 0,.U 0,.bool false] T.bg) λcE bK=>bg.ST bK (AA cE 0) RQ Ky af2 λcC=>aK (λ(cK:aj)=>Ce F.jd #[.bool (decide (deep<=6)),.I 9] cK (λeK cR=>eK=.tuple #[]/\Hi cR r 2 λt33=>Ce F.jd #[.bool (decide (t33>0)),.I 2] cR (λgS cX=>gS=.tuple #[]/\∃t39,ak cX (AA r 2)=some (.I t39)/\aH cX (AA r 2) (.I (wrap .i64 (t39 - 1))) λdB=> ∃t44,ak dB (AA cE 0)=some (.I t44)/\if(t44==0) then Hu dB cE 1 λt48=>aa.ST dB (AA b 0) 0 t48 none 0 0 none 0 0 λff=>aa.LD ff (AA b 0) λoQ ia nC nE nF qA qB qC=>R (.agg #[.I oQ,.U ia,.slice nC nE nF,.slice qA qB qC]) ff else if(t44==4) then bg.LD dB (AA cE 0) λSz Ld aoh=>Ce F.lZ #[.P r 0,.agg #[.I Sz,.U Ld,.bool aoh],.I deep] dB (λkV cQ=> ∃ud tG XP XQ XR XS XT XU,kV=.agg #[.I ud,.U tG,.slice XP XQ XR,.slice XS XT XU]/\aa.ST cQ (AA b 0) ud tG XP XQ XR XS XT XU λcW=>aa.LD cW (AA b 0) λnG nH xF xG xH xI xJ xK=>R (.agg #[.I nG,.U nH,.slice xF xG xH,.slice xI xJ xK]) cW) E else bg.LD dB (AA cE 0) λaoi aoj aok=>Ce F.j0 #[.P r 0,.agg #[.I aoi,.U aoj,.bool aok]] dB (λou dE=> ∃NS NT XV XW XX XY XZ Ya,ou=.agg #[.I NS,.U NT,.slice XV XW XX,.slice XY XZ Ya]/\aa.ST dE (AA b 0) NS NT XV XW XX XY XZ Ya λdG=>aa.LD dG (AA b 0) λAQ AR Le Lf Lh Lj Lk Ll=>R (.agg #[.I AQ,.U AR,.slice Le Lf Lh,.slice Lj Lk Ll]) dG) E) E) E) (λJ=> ∃t9,ak cC (AA cE 0)=some (.I t9)/\if(t9==0) then Ce F.jd #[.bool true,.I 3] cC (λxw fD=>xw=.tuple #[]/\([]:List Deferred)= []/\J fD) E else∃t13,ak cC (AA cE 0)=some (.I t13)/\if(t13==2) then Ce F.jd #[.bool true,.I 3] cC (λAU gE=>AU=.tuple #[]/\([]:List Deferred)= []/\J gE) E else∃t18,ak cC (AA cE 0)=some (.I t18)/\if(t18==3) then Ce F.jd #[.bool true,.I 3] cC (λDN gX=>DN=.tuple #[]/\([]:List Deferred)= []/\J gX) E else Hi cC cE 0 λt23=>Ce F.jd #[.bool (t23==4),.I 3] cC (λEK gR=>EK=.tuple #[]/\([]:List Deferred)= []/\J gR) E)) E):mI Tryz.prog F.ig #[.P r 0,.I deep] h R E:=mf (lq (lq (sq (.join [] lf) (lq (lq (lq (sq (lq (bq (lq (cq ll (lq (cq ll lf)))))) ll))))))) Ul Tryz.func243 rfl rfl (Eq.mp (by kernel_rfl) hv)
theorem lO.ret.walk {c0:Nat} {c1:Nat} {c2:Nat} {K:Option Value->aj->Prop} (hv:aV h (.cells #[.I 0] T.oP) λb aR=>aH aR (AA b 0) (.I 0) λaZ=>K none aZ):Ck Tryz.prog F.lO #[.P c0 0,.P c1 0,.P c2 0] none h K:=Cn (lq (lq (cq (pN 6) lf))) Tryz.func242 rfl rfl (Eq.mp (by kernel_rfl) hv)
theorem lO.xO.walk {c0:Nat} {c1:Nat} {c2:Nat} {aiA:Int} {K:Option Value->aj->Prop} (hv:aV h (.cells #[.I 0] T.oP) λb aR=>aH aR (AA b 0) (.I aiA) λaZ=>Hi aZ b 0 λt13=>aa.ST aZ (AA c0 0) 0 0 none 0 0 none 0 0 λbK=>ak bK (AA b 0)=some (.I t13)/\aH bK (AA c1 0) (.I 0) λcC=>ak cC (AA b 0)=some (.I t13)/\aH cC (AA c2 0) (.I t13) λcK=>K none cK):Ck Tryz.prog F.lO #[.P c0 0,.P c1 0,.P c2 0] (some (.iface T.oP (.agg #[.I aiA]))) h K:=Cn (lq (lq (cq (pN 6) lf))) Tryz.func242 rfl rfl (Eq.mp (by kernel_rfl) hv)
theorem uw.walk {Bh:bV} {xe Dr:Nat} {kR:Int} {E:iI} (hv:aV h (.cells #[.I 0,.U 0,.Z,.Z] T.aa) λb aR=>aV aR (.cells #[.I 0] T.int) λcE aZ=>aV aZ (.cells #[.I 0] T.uz) λeZ bK=>aK (λ(t15:Bool) (cC:aj)=>if t15 then aa.ST cC (AA b 0) 0 0 none 0 0 none 0 0 λcK=>aH cK (AA cE 0) (.I 0) λcR=>aH cR (AA eZ 0) (.I 1) λcX=>aa.LD cX (AA b 0) λoQ ia nC nE nF qA qB qC=>Hi cX cE 0 λr1=> ∃r2,ak cX (AA eZ 0)=some (.I r2)/\R (.tuple #[.agg #[.I oQ,.U ia,.slice nC nE nF,.slice qA qB qC],.I r1,.I r2]) cX else aV cC (.cells #[.slice Bh xe Dr,.I kR,.I 256] T.qq) λjR dB=>Ce F.ig #[.P jR 0,.I 1] dB (λv ff=> ∃DY DZ Jh Ji Jj Jk Jl Jm,v=.agg #[.I DY,.U DZ,.slice Jh Ji Jj,.slice Jk Jl Jm]/\aa.ST ff (AA b 0) DY DZ Jh Ji Jj Jk Jl Jm λcQ=>aa.LD cQ (AA b 0) λNd Kz Py Pz PA agD agE agF=>Hi cQ jR 1 λt28=>aa.ST cQ (AA b 0) Nd Kz Py Pz PA agD agE agF λcW=>ak cW (AA jR 1)=some (.I t28)/\aH cW (AA cE 0) (.I t28) λdE=>aH dE (AA eZ 0) (.I 0) λdG=>Ck Tryz.prog F.lO #[.P b 0,.P cE 0,.P eZ 0] none dG (ab0 (λh_=>aa.LD h_ (AA b 0) λnG nH xF xG xH xI xJ xK=>Hi h_ cE 0 λadR=> ∃aol,ak h_ (AA eZ 0)=some (.I aol)/\R (.tuple #[.agg #[.I nG,.U nH,.slice xF xG xH,.slice xI xJ xK],.I adR,.I aol]) h_) E)) (λv_ h__=>Ck Tryz.prog F.lO #[.P b 0,.P cE 0,.P eZ 0] (some v_) h__ (ab0 (λh_=>aa.LD h_ (AA b 0) λAQ AR Le Lf Lh Lj Lk Ll=>Hi h_ cE 0 λaqO=> ∃aom,ak h_ (AA eZ 0)=some (.I aom)/\R (.tuple #[.agg #[.I AQ,.U AR,.slice Le Lf Lh,.slice Lj Lk Ll],.I aqO,.I aom]) h_) E))) (λJ=>if(decide (kR<0)) then([]:List Deferred)= []/\J true bK else([]:List Deferred)= []/\J (decide (kR>(xe:Int))) bK)):mI Tryz.prog F.uw #[.slice Bh xe Dr,.I kR] h R E:=mf (lq (sq (sq (.join [(15,.one (.bool))] lf) (cq ll lf)) (lq (lq (lq (sq (pN 8) lf)))))) Ul Tryz.func193 rfl rfl (Eq.mp (by kernel_rfl) hv)
theorem rD.walk {Bh:bV} {xe Dr:Nat} (hv:Cl F.uw #[.slice Bh xe Dr,.I 0] h λv aR=> ∃adS adT SB SD SE SF SG SH GS Mo,v=.tuple #[.agg #[.I adS,.U adT,.slice SB SD SE,.slice SF SG SH],.I GS,.I Mo]/\aV aR (.cells #[.I 0,.U 0,.Z,.Z] T.aa) λb aZ=>aa.ST aZ (AA b 0) adS adT SB SD SE SF SG SH λbK=>if(Mo==0) then if(GS==(xe:Int)) then aa.LD bK (AA b 0) λui uj v7 v8 wa wc wg wh=>Cl F.uY #[.Z,.agg #[.I ui,.U uj,.slice v7 v8 wa,.slice wc wg wh]] bK λeK cC=>Vl eK λFj Fk Cy=>Cl F.kf #[.slice Fj Fk Cy,.slice Bh xe Dr] cC λgS cK=> ∃t24,gS=.bool t24/\R (.bool t24) cK else R (.bool false) bK else R (.bool false) bK):Cl F.rD #[.slice Bh xe Dr] h R:=aS (lq (lq ll)) Tryz.func314 hv
theorem qI.walk {major:Int} (hv:if(decide (major≥2)) then if(decide (major<=5)) then R (.bool true) h else R (.bool (major==7)) h else R (.bool (major==7)) h):Cl F.qI #[.I major] h R:=aS (lq ll) Tryz.func317 hv
theorem w5.walk {mP:Int} {aR:Int} {aZ:Bool} (hv:aV h (.cells #[.I mP,.U aR,.bool aZ] T.bg) λb aR=> ∃t4,ak aR (AA b 2)=some (.bool t4)/\if t4 then bg.LD aR (AA b 0) λaqP aqQ aqR=>Hi aR b 0 λt7=> ∃(eq:Bool),Hq Tryz.prog T.bg (.agg #[.I aqP,.U aqQ,.bool aqR]) (.agg #[.I t7,.U 0,.bool true]) eq/\if eq then Hi aR b 0 λt12=>Cl F.qI #[.I t12] aR λv aZ=> ∃t13,v=.bool t13/\R (.bool t13) aZ else R (.bool false) aR else∃t16,ak aR (AA b 0)=some (.I t16)/\if(decide (t16≥0)) then∃t20,ak aR (AA b 0)=some (.I t20)/\R (.bool (decide (t20<=7))) aR else R (.bool false) aR):Cl F.w5 #[.agg #[.I mP,.U aR,.bool aZ]] h R:=aS (lq (sq (lq (cq ll lf)) ll)) Tryz.func299 hv
theorem sI.walk {n:Int} (hv:if(decide (n<24)) then R (.I 0) h else if(decide (n<256)) then R (.I 1) h else if(decide (n<65536)) then R (.I 2) h else if(decide (n<4294967296)) then R (.I 4) h else R (.I 8) h):Cl F.sI #[.U n] h R:=aS (lq (sq (bq (lq (cq ll (lq (cq ll (lq (cq ll (lq (cq ll lf))))))))) ll)) Tryz.func301 hv
theorem zj.walk {n:Int} (hv:Cl F.sI #[.U n] h λv aR=> ∃t4,v=.I t4/\if(t4==1) then R (.int .u8 24) aR else if(t4==2) then R (.int .u8 25) aR else if(t4==4) then R (.int .u8 26) aR else if(t4==8) then R (.int .u8 27) aR else R (.int .u8 (wrap .u8 n)) aR):Cl F.zj #[.U n] h R:=aS (lq (sq (lq (bq (lq (cq ll (lq (cq ll (lq (cq ll (lq (cq ll lf)))))))))) ll)) Tryz.func300 hv
theorem wZ.walk {mP:Int} {aR:Int} {aZ:Bool} (hv:aV h (.cells #[.I mP,.U aR,.bool aZ] T.bg) λb aR=>bg.LD aR (AA b 0) λMn GS Mo=>Cl F.w5 #[.agg #[.I Mn,.U GS,.bool Mo]] aR λv aZ=> ∃t9,v=.bool t9/\if(!t9) then R (.tuple #[.Z,.I 3]) aZ else∃t13,ak aZ (AA b 2)=some (.bool t13)/\if t13 then Hi aZ b 0 λt15=>aV aZ (.cells #[.int .u8 (wrap .u8 ((BitVec.ofInt (IntKind.bits .u8) (wrap .u8 ((wrap .u8 t15)*2 ^ min (toNat 5) (IntKind.bits .u8)))|||BitVec.ofInt (IntKind.bits .u8) 31).toNat:Int))] T.uint8) λcE bK=>R (.tuple #[.slice (some (AA cE 0)) 1 1,.I 0]) bK else Hi aZ b 0 λt21=>Hu aZ b 1 λt25=>Cl F.zj #[.U t25] aZ λeK cC=> ∃t26,eK=.int .u8 t26/\ak cC (AA b 0)=some (.I t21)/\aV cC (.cells #[.int .u8 (wrap .u8 ((BitVec.ofInt (IntKind.bits .u8) (wrap .u8 ((wrap .u8 t21)*2 ^ min (toNat 5) (IntKind.bits .u8)))|||BitVec.ofInt (IntKind.bits .u8) t26).toNat:Int))] T.uint8) λeZ cK=>ak cK (AA b 0)=some (.I t21)/\Hu cK b 1 λt30=>Cl F.sI #[.U t30] cK λgS cR=>Vi gS λt31=> ∃(I:bV->Nat->Nat->Int->aj->Prop) (mu:bV->Nat->Nat->Int->aj->Nat),I (some (AA eZ 0)) 1 1 0 cR/\∀(kJ:bV) (kK kL:Nat) (t33:Int) (cX:aj),I kJ kK kL t33 cX->if(decide (t33<t31)) then∃t38,ak cX (AA b 1)=some (.U t38)/\if wrap .i64 (8*(wrap .i64 ((wrap .i64 (t31 - 1)) - t33)))<0 then False else aV cX (.cells #[.int .u8 (wrap .u8 (Int.fdiv t38 (2 ^ min (toNat (wrap .i64 (8*(wrap .i64 ((wrap .i64 (t31 - 1)) - t33))))) (IntKind.bits .u64))))] T.uint8) λjR dB=>aX Tryz.prog (Builtin.append_ #[T.du,T.du] T.du #[.slice kJ kK kL,.slice (some (AA jR 0)) 1 1]) dB λkV ff=> ∃adU adV adW,kV=.slice adU adV adW/\(I adU adV adW (wrap .i64 (t33+1)) ff/\mu adU adV adW (wrap .i64 (t33+1)) ff<mu kJ kK kL t33 cX) else R (.tuple #[.slice kJ kK kL,.I 0]) cX):Cl F.wZ #[.agg #[.I mP,.U aR,.bool aZ]] h R:=aS (lq (sq (bq (lq (cq ll (lq (cq ll lf))))) (sq (pN 10) (lq (sq (lq (bq (.loop [(4,.one (.slice)),(33,.one (.int .i64))] (lq (sq (cq lf lf) (sq (bq ll) lf)))))) ll))))) Tryz.func261 hv
theorem wz.walk {Bh:bV} {xe Dr:Nat} {kR:Int} (hv:aV h (.cells #[.I 0,.U 0,.bool false] T.bg) λb aR=>aK (λ(t11:Bool) (aZ:aj)=>if t11 then bg.ST aZ (AA b 0) 0 0 false λbK=>bg.LD bK (AA b 0) λoQ ia oT=>R (.tuple #[.agg #[.I oQ,.U ia,.bool oT],.I 0,.I 1]) bK else if(kR==(xe:Int)) then bg.ST aZ (AA b 0) 0 0 false λcC=>bg.LD cC (AA b 0) λnG nH uC=>R (.tuple #[.agg #[.I nG,.U nH,.bool uC],.I 0,.I 8]) cC else Bd kR xe/\aP Bh λa=>V2 aZ (a.add (toNat kR*1)) λt30=>aV aZ (.cells #[.I 0,.U 0,.bool false] T.bg) λcE cK=>bg.ST cK (AA cE 0) (wrap .i64 (Int.fdiv t30 (2 ^ min (toNat 5) (IntKind.bits .u8)))) 0 false λcR=>Bd kR xe/\aP Bh λkz=> ∃t37,ak cR (kz.add (toNat kR*1))=some (.int .u8 t37)/\if(decide ((wrap .u8 ((BitVec.ofInt (IntKind.bits .u8) t37 &&& BitVec.ofInt (IntKind.bits .u8) 31).toNat:Int))<24)) then aH cR (AA cE 1) (.U (wrap .u64 (wrap .u8 ((BitVec.ofInt (IntKind.bits .u8) t37 &&& BitVec.ofInt (IntKind.bits .u8) 31).toNat:Int)))) λcX=>bg.LD cX (AA cE 0) λadX adY aon=>bg.ST cX (AA b 0) adX adY aon λdB=>bg.LD dB (AA b 0) λAQ AR KV=>R (.tuple #[.agg #[.I AQ,.U AR,.bool KV],.I (wrap .i64 (kR+1)),.I 0]) dB else aK (λ(t49:Bool) (ff:aj)=>if t49 then aH ff (AA cE 2) (.bool true) λcQ=>bg.LD cQ (AA cE 0) λNS NT aoo=>bg.ST cQ (AA b 0) NS NT aoo λcW=>bg.LD cW (AA b 0) λKW KX KY=>R (.tuple #[.agg #[.I KW,.U KX,.bool KY],.I (wrap .i64 (kR+1)),.I 0]) cW else if(decide ((wrap .u8 ((BitVec.ofInt (IntKind.bits .u8) t37 &&& BitVec.ofInt (IntKind.bits .u8) 31).toNat:Int))>27)) then bg.ST ff (AA b 0) 0 0 false λdE=>bg.LD dE (AA b 0) λakp akq akr=>R (.tuple #[.agg #[.I akp,.U akq,.bool akr],.I 0,.I 3]) dE else if wrap .u8 ((wrap .u8 ((BitVec.ofInt (IntKind.bits .u8) t37 &&& BitVec.ofInt (IntKind.bits .u8) 31).toNat:Int)) - 24)<0 then False else if(decide ((wrap .i64 (1*2 ^ min (toNat (wrap .u8 ((wrap .u8 ((BitVec.ofInt (IntKind.bits .u8) t37 &&& BitVec.ofInt (IntKind.bits .u8) 31).toNat:Int)) - 24))) (IntKind.bits .i64)))>(wrap .i64 ((xe:Int) - (wrap .i64 (kR+1)))))) then bg.ST ff (AA b 0) 0 0 false λdG=>bg.LD dG (AA b 0) λaks akt aku=>R (.tuple #[.agg #[.I aks,.U akt,.bool aku],.I 0,.I 8]) dG else∃(I:Int->aj->Prop) (mu:Int->aj->Nat),I 0 ff/\∀(t75:Int) (fD:aj),I t75 fD->if(decide (t75<(wrap .i64 (1*2 ^ min (toNat (wrap .u8 ((wrap .u8 ((BitVec.ofInt (IntKind.bits .u8) t37 &&& BitVec.ofInt (IntKind.bits .u8) 31).toNat:Int)) - 24))) (IntKind.bits .i64))))) then Hu fD cE 1 λt79=>Bd (wrap .i64 ((wrap .i64 (kR+1))+t75)) xe/\aP Bh λpF=> ∃t86,ak fD (pF.add (toNat (wrap .i64 ((wrap .i64 (kR+1))+t75))*1))=some (.int .u8 t86)/\aH fD (AA cE 1) (.U (wrap .u64 ((BitVec.ofInt (IntKind.bits .u64) (wrap .u64 (t79*2 ^ min (toNat 8) (IntKind.bits .u64)))|||BitVec.ofInt (IntKind.bits .u64) (wrap .u64 t86)).toNat:Int))) λgE=>(I (wrap .i64 (t75+1)) gE/\mu (wrap .i64 (t75+1)) gE<mu t75 fD) else bg.LD fD (AA cE 0) λaop aoq aor=>bg.ST fD (AA b 0) aop aoq aor λgX=>bg.LD gX (AA b 0) λakv akw akx=>R (.tuple #[.agg #[.I akv,.U akw,.bool akx],.I (wrap .i64 ((wrap .i64 (kR+1))+(wrap .i64 (1*2 ^ min (toNat (wrap .u8 ((wrap .u8 ((BitVec.ofInt (IntKind.bits .u8) t37 &&& BitVec.ofInt (IntKind.bits .u8) 31).toNat:Int)) - 24))) (IntKind.bits .i64))))),.I 0]) gX) (λjo=>if((wrap .u8 ((BitVec.ofInt (IntKind.bits .u8) t37 &&& BitVec.ofInt (IntKind.bits .u8) 31).toNat:Int))==31) then Hi cR cE 0 λt54=>Cl F.qI #[.I t54] cR λv gR=> ∃t55,v=.bool t55/\jo t55 gR else jo false cR)) (λJ=>if(decide (kR<0)) then J true aR else J (decide (kR>(xe:Int))) aR)):Cl F.wz #[.slice Bh xe Dr,.I kR] h R:=aS (lq (sq (bq (sq (.join [(11,.one (.bool))] lf) (cq ll (lq (cq ll lf))))) (lq (lq (lq (sq (bq (lq (cq (lq ll) (sq (.join [(49,.one (.bool))] lf) (cq (lq ll) (lq (cq ll lf))))))) (lq (sq (lq (cq ll lf)) (sq (lq (bq (.loop [(75,.one (.int .i64))] (lq (sq (cq lf lf) (sq (bq (lq (pN 13))) lf)))))) ll))))))))) Tryz.func309 hv
end
section
namespace Cb
variable {h h':aj} {R E:iI} {p:bV} {r l c:Nat} {bs:List UInt8}
abbrev flt (e:Int):Value:=.iface T.oP (.agg #[.int .i64 e])
structure Gl (h:aj) (r:Nat) (p:bV) (c:Nat) (bs:List UInt8) (pos left:Nat):Prop where
 dF:h[r]? =some (.cells #[.slice p bs.length c,.int .i64 (pos:Int),.int .i64 (left:Int)] T.qq (0,0))
 row:Row h p (bc bs)
 cap:bs.length<=c
 pos:pos<=bs.length
 ap:bs≠ []->¬aQ p r
 len:bs.length<=1000000
 left:left<=1000000
theorem lK {q:Bool} {e:Int} (k1:q=true->R (.tuple #[]) h) (k2:q=false->E (flt e) h):mI Tryz.prog F.jd #[.bool q,.I e] h R E:=by
 refine jd.walk ?_;cases q with
 |true=>rw[dM];exact k1 rfl
 |false=>rw[jy];exact k2 rfl
theorem Gl.frame {Q:Nat->Prop} {pos left:Nat} (H:Gl h r p c bs pos left) (f:Fr Q h h') (h1: ¬Q r) (h2: ∀y,aQ p y->bs≠ []->¬Q y):Gl h' r p c bs pos left:=by
 refine⟨f.get H.dF h1,?_,H.cap,H.pos,H.ap,H.len,H.left⟩;by_cases e:bs= []
 ·subst e;exact Row.nil
 ·exact H.row.frame f (λa ea=>h2 _ ⟨a,ea,rfl⟩ e)
theorem Gl.on {pos left:Nat} (H:Gl h r p c bs pos left) (f:Fr No h h'):Gl h' r p c bs pos left:=H.frame f id (λ_ _ _=>id)
theorem Gl.set {pos left pos' left':Nat} (H:Gl h r p c bs pos left) (hp:pos'<=bs.length) (hl:left'<=1000000) (d1:h'[r]? =some (.cells #[.slice p bs.length c,.I (pos':Int),.I (left':Int)] T.qq (0,0))) (d2:h'.size=h.size) (d3: ∀x,x≠r->h'[x]? =h[x]?):
  Gl h' r p c bs pos' left'/\Fr (λy=>y=r) h h':=by
 have f:Fr (λy=>y=r) h h':=Fr.of_eq d2 (λc hc=>d3 c hc);refine⟨⟨d1,?_,H.cap,hp,H.ap,H.len,hl⟩,f⟩;by_cases e:bs= []
 ·subst e;exact Row.nil
 ·exact H.row.frame f (λa ea e'=>H.ap e ⟨a,ea,e'⟩)
theorem Yb {pos left:Nat} (H:Gl h r p c bs pos left) (k1: ∀h',Fa bs pos=true->pos<bs.length->Gl h' r p c bs (pos+1) left->Fr (λy=>y=r) h h'->R (.bool true) h') (k2:Fa bs pos=false->R (.bool false) h):Cl F.l6 #[.P r 0] h R:=by
 have hb:=H.dF;have hlen:=H.len;refine l6.walk (aK.of λJ hJ=>⟨_,af hb rfl,_,_,_,af hb rfl,?_⟩);by_cases jc:pos<bs.length
 ·rw[jy];obtain⟨a,rfl⟩:=H.row.some (by cases bs with|nil=>simp at jc|cons=>simp[bc]);have hx:(bc bs)[pos]? =some (.int .u8 ((bs[pos]).toNat:Int)):=by unfold bc;rw[aO,au jc];rfl
  have cx:=H.row.cell hx;have hE:Fa bs pos=decide ((bs[pos]).toNat=255):=by unfold Fa;rw[au jc]
  generalize (bs[pos]).toNat=x at cx hE;refine⟨_,_,_,af hb rfl,_,af hb rfl,⟨by omega,by omega⟩,aB.2 ⟨_,by rw[aL,cO];exact cx,?_⟩⟩;subst hJ;dsimp only;split
  ·rename_i q;refine⟨_,af hb rfl,bM hb (by show 1<3;omega) λh1 d1 d2 d3=> ?_⟩;rw[bL (by omega) (by omega)] at d1;obtain⟨q1,q2⟩:=H.set (pos':=pos+1) (by omega) H.left d1 d2 d3;exact k1 h1 (by rw[hE];have:=eq_of_beq q;exact ay (by omega)) jc q1 q2
  ·rename_i q;exact k2 (by rw[hE];exact decide_eq_false λe=>q (by rw[e];rfl))
 ·rw[ai (λe=>jc (by have:=of_decide_eq_true e;omega))];subst hJ;dsimp only;rw[dM];exact k2 (by unfold Fa;rw[eH (by omega)])
theorem Vw {m:Nat} (hk:R (.bool (Cj m)) h):Cl F.qI #[.I (m:Int)] h R:=by
 refine qI.walk ?_;have e7:((m:Int)==7)=decide (m=7):=by
  by_cases e:m=7
  ·subst e;rfl
  ·rw[decide_eq_false e,beq_eq_false_iff_ne];omega
 have hk: ∀q,q=Cj m->R (.bool q) h:=λq e=>by rw[e];exact hk
 unfold Cj at hk;rw[e7];split
 ·rename_i q2;split
  ·rename_i q5;exact hk _ (by rw[ay];rfl;have:=of_decide_eq_true q2;have:=of_decide_eq_true q5;omega)
  ·rename_i q5;exact hk _ (by rw[decide_eq_false (p:=2<=m/\m<=5)];rfl;intro e;exact q5 (ay (by omega)))
 ·rename_i q2;exact hk _ (by rw[decide_eq_false (p:=2<=m/\m<=5)];rfl;intro e;exact q2 (ay (by omega)))
theorem byte_at (hr:Row h p (bc bs)) {i:Nat} (hi:i<bs.length): ∃a,p=some a/\ak h (a.add (i*1))=some (.int .u8 ((bs[i]).toNat:Int)):=by
 obtain⟨a,rfl⟩:=hr.some (by cases bs with|nil=>simp at hi|cons=>simp[bc]);exact⟨a,rfl,by rw[cO];exact hr.cell (v:=.int .u8 ((bs[i]).toNat:Int)) (by unfold bc;rw[aO,au hi];rfl)⟩
theorem sh5: ∀x:Fin 256,IntKind.wrap .i64 (Int.fdiv (x.val:Int) (2 ^ min (Int.toNat 5) (IntKind.bits .u8)))=((x.val/32:Nat):Int):=by decide
theorem aos: ∀x:Fin 256,IntKind.wrap .u8 ((BitVec.ofInt (IntKind.bits .u8) (x.val:Int) &&& BitVec.ofInt (IntKind.bits .u8) 31).toNat:Int)=((x.val%32:Nat):Int):=by decide
theorem Jn {n:Nat} (h:n<18446744073709551616):IntKind.wrap .u64 (n:Int)=(n:Int):=by
 have e:IntKind.wrap .u64 (n:Int)=(n:Int)%18446744073709551616:=by simp[IntKind.wrap,IntKind.bits,IntKind.signed]
 rw[e];omega
theorem aky {v y:Nat} (hv:v<72057594037927936) (hy:y<256):IntKind.wrap .u64 ((BitVec.ofInt (IntKind.bits .u64) (IntKind.wrap .u64 ((v:Int)*2 ^ min (Int.toNat 8) (IntKind.bits .u64)))|||BitVec.ofInt (IntKind.bits .u64) (IntKind.wrap .u64 (y:Int))).toNat:Int)=((v*256+y:Nat):Int):=by
 have e1:(v:Int)*2 ^ min (Int.toNat 8) (IntKind.bits .u64)=((v*256:Nat):Int):=by
  rw[show(2:Int) ^ min (Int.toNat 8) (IntKind.bits .u64)=256 from rfl];omega
 rw[e1,Jn (n:=v*256) (by omega),Jn (n:=y) (by omega)];have e2:((BitVec.ofInt (IntKind.bits .u64) ((v*256:Nat):Int)|||BitVec.ofInt (IntKind.bits .u64) (y:Int)).toNat)=v*256+y:=by
  rw[BitVec.toNat_or,BitVec.ofInt_natCast,BitVec.ofInt_natCast,BitVec.toNat_ofNat,BitVec.toNat_ofNat];rw[show(2:Nat) ^ IntKind.bits .u64=18446744073709551616 from rfl,jl (by omega),jl (by omega)];have:=Nat.two_pow_add_eq_or_of_lt (i:=8) (b:=y) (by omega) v;rw[show(2:Nat) ^ 8=256 from rfl] at this;rw[je v 256];exact this.symm
 rw[e2];exact Jn (by omega)
theorem SI {pos:Nat} (hr:Row h p (bc bs)) (hl:l=bs.length) (hlen:bs.length<=1000000) (hp:pos<=bs.length)
  (k1: ∀h' (m n next:Nat) (o:Bool),QM bs pos=.ok (m,n,o,next)->Fr No h h'->R (.tuple #[.agg #[.I (m:Int),.U (n:Int),.bool o],.I (next:Int),.I 0]) h')
  (k2: ∀h' e,QM bs pos=.error e->Fr No h h'->e≠0->R (.tuple #[.agg #[.I 0,.U 0,.bool false],.I 0,.I e]) h'):Cl F.wz #[.slice p l c,.I (pos:Int)] h R:=by
 subst hl;refine wz.walk (bg.box λb h1 eb hb f1=>aK.of λJ hJ=> ?_);rw[dM,decide_eq_false (by omega)];subst hJ;dsimp only;rw[dM];have zb:=aI hb;have err: ∀g e,Fr No h1 g->QM bs pos=.error e->e≠0->bg.ST g (AA b 0) 0 0 false λh3=>bg.LD h3 (AA b 0) λr0 r1 r2=>R (.tuple #[.agg #[.I r0,.U r1,.bool r2],.I 0,.I e]) h3:=λg e fg hx he=>
  bg.set (fg.get hb id) λh3 d1 d2 d3=>bg.ld d1 (k2 h3 e hx ((f1.tt fg).fresh (Fr.of_eq (S:=λy=>y=b) d2 (λc hc=>d3 c hc)) (λy e=>by omega)) he)
 by_cases he:pos=bs.length
 ·rw[ag (by rw[he];simp)];exact err h1 8 (Fr.refl _ _) (by unfold QM;rw[eH (by omega)]) (by decide)
 rw[ai (λe=>he (by have:=eq_of_beq e;omega))];have jc:pos<bs.length:=by omega
 obtain⟨a,rfl,cx⟩:=byte_at hr jc;have hR:QM bs pos=QM bs pos:=rfl;conv at hR=>rhs;unfold QM;rw[au jc]
 dsimp only at hR;have agG:=(bs[pos]).toNat_lt;generalize (bs[pos]).toNat=x at cx hR agG;refine⟨⟨by omega,by omega⟩,aB.2 ⟨_,f1.cell (by rw[aL];exact cx) id,bg.new λb1 h2 uh dx f2=>⟨⟨by omega,by omega⟩,aB.2 ⟨_,(f1.tt f2).cell (by rw[aL];exact cx) id,?_⟩⟩⟩⟩;have PU:=aI dx;have z2:=f2.1;have z1:=f1.1;rw[sh5 ⟨x,agG⟩] at dx;rw[aos ⟨x,agG⟩];rw[show(⟨x,agG⟩:Fin 256).val=x from rfl] at dx⊢;have m32:x/32<8:=by omega
 generalize em:x/32=m at dx hR m32;have h31:x%32<32:=by omega
 generalize x%32=Hc at hR h31⊢;rw[bL (n:=(pos:Int)+1) (by omega) (by omega)];have ok: ∀g (n next:Nat) (o:Bool),bg.at g b1 (m:Int) (n:Int) o->bg.at g b 0 0 false->Fr No h g->QM bs pos=.ok (m,n,o,next)->
   bg.LD g (AA b1 0) λt0 t1 t2=>bg.ST g (AA b 0) t0 t1 t2 λh8=>bg.LD h8 (AA b 0) λr0 r1 r2=>R (.tuple #[.agg #[.I r0,.U r1,.bool r2],.I (next:Int),.I 0]) h8:=λg n next o q1 q2 fg h1=>
  bg.ld q1 (bg.set q2 λh8 d1 d2 d3=>bg.ld d1 (k1 h8 m n next o h1 (fg.fresh (Fr.of_eq (S:=λy=>y=b) d2 (λc hc=>d3 c hc)) (λy e=>by omega))))
 have F2:=f1.tt f2;have fJ:=f2.get hb id;by_cases c24:Hc<24
 ·rw[jy];rw[ag c24] at hR;refine bM dx (by show 1<3;omega) λh3 d1 d2 d3=> ?_
  rw[Jn (by omega)] at d1;exact ok h3 Hc (pos+1) false d1 ((d3 b (by omega)).trans fJ) (F2.fresh (Fr.of_eq (S:=λy=>y=b1) d2 (λc hc=>d3 c hc)) (λy e=>by omega)) hR
 rw[ai (λe=>c24 (by have:=of_decide_eq_true e;omega))];rw[ai c24] at hR;refine aK.of λJ1 pB=> ?_
 have rest: ∀q,q=decide (Hc=31/\Cj m=true)->J1 q h2:=by
  intro q hq;subst pB;dsimp only;cases q with
  |true=>
   rw[ag rfl];rw[ag (of_decide_eq_true hq.symm)] at hR;refine bM dx (by show 2<3;omega) λh3 d1 d2 d3=> ?_
   exact ok h3 0 (pos+1) true d1 ((d3 b (by omega)).trans fJ) (F2.fresh (Fr.of_eq (S:=λy=>y=b1) d2 (λc hc=>d3 c hc)) (λy e=>by omega)) hR
  |false=>
   rw[dM];rw[ai (of_decide_eq_false hq.symm)] at hR;by_cases c27:Hc>27
   ·rw[jy];rw[ag c27] at hR;exact err h2 3 f2 hR (by decide)
   rw[ai (λe=>c27 (by have:=of_decide_eq_true e;omega))];rw[ai c27] at hR;have e5:IntKind.wrap .u8 ((Hc:Int) - 24)=(Hc:Int) - 24:=wrap_u8 (by omega) (by omega);rw[e5,dM];obtain⟨N,eN,lN,gN,eP⟩: ∃N:Nat,IntKind.wrap .i64 (1*2 ^ min (Int.toNat ((Hc:Int) - 24)) (IntKind.bits .i64))=(N:Int)/\N<=8/\1<=N/\2 ^ (Hc - 24)=N:=by
    have:Hc=24\/Hc=25\/Hc=26\/Hc=27:=by omega
    rcases this with rfl|rfl|rfl|rfl
    ·exact⟨1,by kernel_rfl,by omega,by omega,rfl⟩
    ·exact⟨2,by kernel_rfl,by omega,by omega,rfl⟩
    ·exact⟨4,by kernel_rfl,by omega,by omega,rfl⟩
    ·exact⟨8,by kernel_rfl,by omega,by omega,rfl⟩
   rw[eP] at hR;rw[eN,bL (n:=(bs.length:Int) - ((pos:Int)+1)) (by omega) (by omega)];by_cases cs:(N:Int)>(bs.length:Int) - ((pos:Int)+1)
   ·rw[ag (ay cs)];rw[jy] at hR;exact err h2 8 f2 hR (by decide)
   rw[ai (λe=>cs (of_decide_eq_true e))];rw[dM] at hR;refine⟨λt g=> ∃i:Nat,t=(i:Int)/\i<=N/\bg.at g b1 (m:Int) (beN ((bs.drop (pos+1)).take i):Int) false/\Fr (λy=>y=b1) h2 g,λt _=>N - t.toNat,⟨0,rfl,cp _,by rw[fN];exact dx,Fr.refl _ _⟩,?_⟩;rintro _ g ⟨i,rfl,hi,hg,fg⟩;have Fg:Fr No h g:=F2.fresh fg (λy e=>by omega);by_cases nR:i<N
   ·rw[jy,bL (n:=(pos:Int)+1+(i:Int)) (by omega) (by omega)];obtain⟨a',ea,cy⟩:=byte_at hr (i:=pos+1+i) (by omega);cases ea;refine⟨_,af hg rfl,⟨by omega,by omega⟩,aB.2 ⟨_,by rw[show Int.toNat ((pos:Int)+1+(i:Int))=pos+1+i by omega];exact Fg.cell cy id,?_⟩⟩;have hv:=abT ((bs.drop (pos+1)).take i);have hpw:=iO (n:=256) (by omega) (show((bs.drop (pos+1)).take i).length<=7 by rw[bR];omega);rw[show(256:Nat) ^ 7=72057594037927936 from rfl] at hpw;refine bM hg (by show 1<3;omega) λg2 d1 d2 d3=> ?_
    rw[aky (by omega) (bs[pos+1+i]).toNat_lt,<-Rm] at d1;rw[bL (n:=(i:Int)+1) (by omega) (by omega)];refine⟨⟨i+1,by omega,by omega,?_,fg.tt (Fr.of_eq d2 (λc hc=>d3 c hc))⟩,by show N - Int.toNat ((i:Int)+1)<N - Int.toNat (i:Int);omega⟩;rw[bZ,iM,au (by omega)];exact d1
   ·rw[ai (λe=>nR (by have:=of_decide_eq_true e;omega))];obtain rfl:i=N:=by omega
    rw[bL (n:=(pos:Int)+1+(i:Int)) (by omega) (by omega),show(pos:Int)+1+(i:Int)=((pos+1+i:Nat):Int) by omega];exact ok g _ (pos+1+i) false hg (fg.get fJ (by omega)) Fg hR
 split
 ·rename_i q;have q:Hc=31:=by have:=eq_of_beq q;omega
  refine⟨_,af dx rfl,Vw ⟨_,rfl,rest _ (by rw[q];simp)⟩⟩
 ·rename_i q;exact rest false (by rw[eq_comm,decide_eq_false_iff_not];intro e;exact q (by rw[e.1];decide))
end Cb
end
section
namespace Cb
variable {h h':aj} {R E:iI} {p:bV} {r c:Nat} {bs:List UInt8} {pos left:Nat}
theorem Lm (H:Gl h r p c bs pos left)
  (k1: ∀h' (m n next:Nat) (o:Bool),QM bs pos=.ok (m,n,o,next)->Gl h' r p c bs next left->Fr (λy=>y=r) h h'->R (.agg #[.I (m:Int),.U (n:Int),.bool o]) h')
  (kE: ∀h' e,QM bs pos=.error e->Fr No h h'->E (flt e) h'):mI Tryz.prog F.jZ #[.P r 0] h R E:=by
 refine jZ.walk (bg.box λb h1 eb hb f1=>aK.of λJ hJ=> ?_);have H1:=H.on f1;have zr:=aI H.dF;have zb:=aI hb;have done: ∀g b1 (m n next:Nat) (o:Bool),bg.at g b1 (m:Int) (n:Int) o->h1.size<=b1->Fr No h1 g->QM bs pos=.ok (m,n,o,next)->J (some (AA b1 0)) (next:Int) 0 g:=by
  intro g b1 m n next o dx z1 fg q1;have q2:=(JP q1).2.1;subst hJ;have Hg:=H1.on fg;refine lK (λ_=>⟨rfl,bM Hg.dF (by show 1<3;omega) λh5 d1 d2 d3=> ?_⟩) (λe=>absurd e (by decide));obtain⟨H5,f5⟩:=Hg.set (pos':=next) q2 H.left d1 d2 d3;have FN:=(d3 b1 (by have:=f1.1;omega)).trans dx;have DK:=(d3 b (by have:=f1.1;omega)).trans (fg.get hb id);refine aB.2 (bg.ld FN (bg.set DK λh6 e1 e2 e3=>bg.ld e1 ?_));have f6:Fr (λy=>y=b) h5 h6:=Fr.of_eq e2 (λc hc=>e3 c hc);refine k1 h6 m n next o q1 (H5.frame f6 (by omega) (λy hy e he=> ?_)) ?_
  ·have:=qO H.row (by cases hbs:bs with|nil=>exact absurd hbs e|cons=>simp[bc]) hy;omega
  ·exact(Fr.no (f1.tt fg) f5).trans f6 (λ_ _=>id) (λx hx e=>by omega)
 have fail: ∀g b1 e,Fr No h1 g->QM bs pos=.error e->e≠0->J (some (AA b1 0)) 0 e g:=by
  intro g b1 e fg hx he;subst hJ;exact lK (λq=>absurd (by simpa using q) he) (λ_=>kE g e hx (f1.tt fg))
 refine⟨_,_,_,af H1.dF rfl,_,af H1.dF rfl,?_,?_,trivial⟩
 ·refine SI H1.row rfl H.len H.pos (λg m n next o q1 fg=>⟨_,_,_,_,_,rfl,bg.new λb1 g1 e1 dx fg1=>⟨rfl,done g1 b1 m n next o dx (by have:=fg.1;omega) (fg.tt fg1) q1⟩⟩) (λg e hx fg he=>⟨_,_,_,_,_,rfl,bg.new λb1 g1 e1 dx fg1=>⟨rfl,fail g1 b1 e (fg.tt fg1) hx he⟩⟩)
 ·refine bg.box λb2 vk e2 fJ f10=>⟨af (H1.on f10).dF rfl,af (H1.on f10).dF rfl,?_⟩
  have z2:=aI fJ;refine SI (H1.on f10).row rfl H.len H.pos (λg m n next o q1 fg=>⟨_,_,_,_,_,rfl,bg.set (fg.get fJ id) λg1 d1 d2 d3=>⟨rfl,done g1 b2 m n next o d1 (by omega) ((f10.tt fg).fresh (Fr.of_eq (S:=λy=>y=b2) d2 (λc hc=>d3 c hc)) (λy e=>by omega)) q1⟩⟩) (λg e hx fg he=>⟨_,_,_,_,_,rfl,bg.set (fg.get fJ id) λg1 d1 d2 d3=>⟨rfl,fail g1 b2 e ((f10.tt fg).fresh (Fr.of_eq (S:=λy=>y=b2) d2 (λc hc=>d3 c hc)) (λy e=>by omega)) hx he⟩⟩)
end Cb
end
section
namespace Cb
variable {V:List UInt8→Bool} {h h0 h':aj} {R E:iI} {p:bV} {r l c:Nat} {bs:List UInt8} {pos left:Nat}
def xQ (V:List UInt8->Bool) (h0:aj):Prop:= ∀(g:aj) (p:bV) (c:Nat) (bs:List UInt8) (R:iI),Fr No h0 g->Row g p (bc bs)->bs.length<=1000000->bs.length<=c->(∀g',Fr No g g'->R (.bool (V bs)) g')->Cl F.jm #[.slice p bs.length c] g R
theorem SJ {m n : Nat} {o : Bool} (U : xQ V h0) (u : Fr No h0 h) (H : Gl h r p c bs pos left) (hn : n < 18446744073709551616)
    (k1 : ∀ h' (v : BV), wO V bs pos m n = .ok v.b → v.ok h' (λy => h.size ≤ y) → v.b.length = n → pos + n ≤ bs.length → Gl h' r p c bs (pos + n) left → Fr (λy => y = r) h h' → R v.val h')
    (kE : ∀ h' e, wO V bs pos m n = .error e → Fr No h h' → E (flt e) h') : mI Tryz.prog F.jG #[.pointer (some ⟨r, 0, none⟩), .agg #[.int .i64 (m : Int), .int .u64 (n : Int), .bool o]] h R E := by
  refine jG.walk (bg.box λb h1 eb hb f1 => ?_)
  have H1 := H.on f1
  have zr := aI H.dF
  have zb := aI hb
  have hp := H.pos
  have hlen := H.len
  have OQ := H.cap
  refine ⟨_, af hb rfl, _, _, _, af H1.dF rfl, _, af H1.dF rfl, ?_⟩
  rw [bL (n := ((bs.length : Nat) : Int) - (pos : Int)) (by omega) (by omega), wrap_u64 (by omega) (by omega)]
  refine lK (λhq => ?_) (λhq => kE h1 8 (by have := of_decide_eq_false hq; unfold wO; rw [if_neg (by omega)]) f1)
  have hq : pos + n ≤ bs.length := by have := of_decide_eq_true hq; omega
  have eD : (bs.take (pos + n)).drop pos = (bs.drop pos).take n := by rw [List.take_drop]
  have e1 : IntKind.wrap .i64 ((pos : Int) + (IntKind.wrap .i64 (n : Int))) = ((pos + n : Nat) : Int) := by rw [bL (n := (n : Int)) (by omega) (by omega), bL (by omega) (by omega)]; omega
  refine ⟨rfl, af H1.dF rfl, af H1.dF rfl, af hb rfl, _, _, _, af H1.dF rfl, _, af H1.dF rfl, _, af H1.dF rfl, _, af hb rfl, ⟨by rw [e1]; omega, by rw [e1]; omega⟩, ⟨by omega, by rw [e1]; omega⟩, ?_⟩
  rw [e1]
  have row : Row h1 (da p c (Int.toNat (pos : Int)) 1) (bc ((bs.take (pos + n)).drop pos)) := by
    have := H1.row.sub (cap := c) (l := pos) (u := pos + n) (sz := 1) (by omega) (by omega)
    rw [Nat.mul_one, Nat.mul_one] at this
    rw [Int.toNat_natCast]
    unfold bc at this ⊢
    rw [List.map_drop, List.map_take]
    exact this
  have ln : ((bs.take (pos + n)).drop pos).length = n := by rw [List.length_drop, List.length_take]; omega
  refine vg.mz row (by rw [ln]; omega) (by rw [ln]; omega) λp' c' h3 o3 f3 g3 => ⟨_, _, _, rfl, af (f3.get hb id) rfl, af (H1.on f3).dF rfl, af (H1.on f3).dF rfl, af (H1.on f3).dF rfl, aK.of λJ hJ => ⟨_, af (f3.get hb id) rfl, ?_⟩⟩
  have done : ∀ g, Fr No h3 g → (m ≠ 3 ∨ V ((bs.drop pos).take n) = true) → J g := by
    intro g fg hv
    subst hJ
    have Hg := (H1.on f3).on fg
    have hbg := (f3.tt fg).get hb id
    refine ⟨_, af Hg.dF rfl, _, af hbg rfl, bM Hg.dF (by show 1 < 3; omega) λh5 d1 d2 d3 => ?_⟩
    rw [e1] at d1
    obtain ⟨H5, f5⟩ := Hg.set (pos' := pos + n) hq H.left d1 d2 d3
    have ov := (o3.frame fg (λ_ _ => id)).frame f5 (λy hy e => by have := g3 y hy; have := f1.1; omega)
    refine k1 h5 ⟨p', c', (bs.take (pos + n)).drop pos⟩ (by unfold wO; rw [if_pos (by omega), if_pos hv]; exact congrArg _ eD.symm) (BV.wM ov (λy hy => by have := g3 y hy; have := f1.1; omega)) ln hq H5 (Fr.no (f1.tt (f3.tt fg)) f5)
  split
  · rename_i q
    exact lK (λ_ => ⟨rfl, rfl, done h3 (Fr.refl _ _) (.inl λe => by rw [e] at q; exact absurd q (by decide))⟩) (λe => absurd e (by decide))
  · rename_i q
    have m3 : m = 3 := by
      have : ¬ ((m : Int) ≠ 3) := λe => q (by simpa using e)
      omega
    refine U h3 p' c' _ _ (u.tt (f1.tt f3)) o3.qa (by rw [ln]; omega) o3.le λg fg => ⟨_, rfl, ?_⟩
    rw [eD]
    exact lK (λhv => ⟨rfl, rfl, done g fg (.inr hv)⟩) (λhv => kE g 3 (by unfold wO; rw [if_pos (by omega), if_neg (λe => e.elim (λe => e m3) (λe => by rw [hv] at e; cases e))]) (f1.tt (f3.tt fg)))
def FX (g:aj) (r:Nat):Nat:=match ak g ⟨r,1,none⟩ with
 |some (.int _ z)=>z.toNat
 |_=>0
theorem Gl.FX (H:Gl h r p c bs pos left):FX h r=pos:=by
 unfold Cb.FX;rw[show ak h (AA r 1)=some (.I (pos:Int)) from af H.dF rfl];exact aL _
theorem NU {D:Nat->Prop} {v:BV} {m:Int} (H:v.ok h D):kU h D (.mk m 0 v.b []) ⟨m,0,v,none,0,0⟩:=by
 unfold kU;exact⟨⟨rfl,rfl,rfl,H⟩, [],⟨rfl,Row.nil,λe=>absurd rfl e,bh _⟩,by unfold dH;trivial⟩
theorem aa0 {m n:Nat} {o:Bool} (U:xQ V h0) (u:Fr No h0 h) (hr:h0.size<=r) (H:Gl h r p c bs pos left) (hn:n<18446744073709551616)
  (k1: ∀h' (x:CV) (b:List UInt8) (next:Nat),OU V bs pos m n o=.ok (b,next)->kU h' (λy=>h.size<=y) (.mk m 0 b []) x->Gl h' r p c bs next left->Fr (λy=>y=r) h h'->R x.agg h')
  (kE: ∀h' e,OU V bs pos m n o=.error e->Fr (λy=>y=r) h h'->E (flt e) h'):mI Tryz.prog F.j0 #[.P r 0,.agg #[.I (m:Int),.U (n:Int),.bool o]] h R E:=by
 refine j0.walk (bg.box λb h1 eb hb f1=>aa.box λb1 h2 uh dx f2=>⟨_,af (f2.get hb id) rfl,aa.new λb2 h4 FH fJ f4=>⟨_,af ((f2.tt f4).get hb id) rfl,?_⟩⟩);have zr:=aI H.dF;have zb:=aI hb;have PU:=aI dx;have zb2:=aI fJ;have z1:=f1.1;have z2:=f2.1;have z4:=f4.1;have F4:=f1.tt (f2.tt f4);have H4:=H.on F4;have mb:=(f2.tt f4).get hb id;have CY:=f4.get dx id;have hlen:=H.len;have GG: ∀y,aQ p y->bs≠ []->y<h.size:=λy hy e=>qO H.row (by cases hbs:bs with|nil=>exact absurd hbs e|cons=>simp[bc]) hy
 have fin: ∀g (v:BV) (next:Nat),aa.at g b2 m 0 v.p v.b.length v.c none 0 0->aa.at g b1 0 0 none 0 0 none 0 0->v.ok g (λy=>h4.size<=y)->OU V bs pos m n o=.ok (v.b,next)->Gl g r p c bs next left->Fr (λy=>y=r\/y=b2) h4 g->
   aa.LD g (AA b2 0) λt0 t1 TF TG TH t3p t3l t3c=>aa.ST g (AA b1 0) t0 t1 TF TG TH t3p t3l t3c λh7=>aa.LD h7 (AA b1 0) λr0 r1 r2p r2l r2c r3p r3l r3c=>R (.agg #[.I r0,.U r1,.slice r2p r2l r2c,.slice r3p r3l r3c]) h7:=by
  intro g v next q2 q1 qv ql qr qf;refine aa.ld q2 (aa.set q1 λh7 d1 d2 d3=>aa.ld d1 ?_);have f7:Fr (λy=>y=b1) g h7:=Fr.of_eq d2 (λc hc=>d3 c hc);refine k1 h7 ⟨m,0,v,none,0,0⟩ v.b next ql (NU ((qv.frame f7 (λy hy e=>by omega)).mono (λy hy=>by omega))) (qr.frame f7 (by omega) (λy hy e he=>by have:=GG y hy e;omega)) ?_;exact((Fr.no F4 qf).trans f7 (S'':=λy=>y=r) (λx hx e=>by omega) (λx hx e=>by omega))
 cases o with
 |false=>
  rw[jy];refine bg.ld mb (SJ U (u.tt F4) H4 hn (λh5 v pv ok1 lv le H5 f5=>⟨_,_,_,rfl,?_⟩) (λh5 e pe f5=>kE h5 e (by simp only[OU,pe]) ((F4.tt f5).mono λ_ _=>False.elim)));have aqS:=f5.get fJ (by omega);refine bM aqS (by show 2<4;omega) λh6 d1 d2 d3=> ?_
  have f6:Fr (λy=>y=b2) h5 h6:=Fr.of_eq d2 (λc hc=>d3 c hc);refine fin h6 v (pos+n) d1 (f6.get (f5.get CY (by omega)) (by omega)) (ok1.frame f6 (λy hy e=>by omega)) (by simp only[OU,pv]) (H5.frame f6 (by omega) (λy hy e he=>by have:=GG y hy e;omega)) (f5.trans f6 (λ_ _=> .inl) (λ_ _=> .inr))
 |true=>
  rw[dM];refine⟨λg=> ∃(k next:Nat) (v:BV),(bs.length+1<=k+next/\Rn V bs m k next v.b=OU V bs pos m n true)/\aa.at g b2 m 0 v.p v.b.length v.c none 0 0/\iS g v.p v.b.length v.c 1 (bc v.b)/\(∀y,aQ v.p y->h4.size<=y)/\Gl g r p c bs next left/\Fr (λy=>y=r\/y=b2) h4 g/\v.b.length<=next,λg=>bs.length+1 - FX g r,
   ⟨bs.length+1,pos,⟨none,0, []⟩,⟨by omega,rfl⟩,fJ,.nil rfl rfl rfl rfl,(λy ⟨a,e,_⟩=>by cases e),H4,Fr.refl _ _,cp _⟩,?_⟩
  rintro g ⟨k,next,v,⟨hkn,xN⟩,g2,ov,nv,Hg,fg,hv⟩;have hng:=Hg.pos;have agH:=fg.get CY (by omega);have hbg:=fg.get mb (by omega);obtain⟨k,rfl⟩: ∃k',k=k'+1:=⟨k - 1,by omega⟩;refine Yb Hg (λh9 he jc H9 f9=>⟨_,rfl,?_⟩) (λhe=>⟨_,rfl,?_⟩);all_goals unfold Rn at xN;simp only[he,bA,aA,aU] at xN
  ·rw[dM];exact fin h9 v (next+1) (f9.get g2 (by omega)) (f9.get agH (by omega)) (BV.wM (ov.frame f9 (λy hy e=>by have:=nv y hy;omega)) nv) xN.symm H9 (fg.trans f9 (λ_ _=>id) (λ_ _=> .inl))
  ·rw[jy];refine Lm Hg (λvk m' n' aiB o' hh H10 f10=>⟨_,_,_,rfl,bg.new λb3 mF LQ kT f12=>aK.of λJ hJ=>⟨_,af kT rfl,_,af (f12.get (f10.get hbg (by omega)) id) rfl,?_⟩⟩) (λvk e hh f10=>kE vk e (by rw[<-xN,hh]) ?_)
   ·obtain⟨hnx,hnl,hn',_⟩:=JP hh;rw[hh] at xN;dsimp only at xN;have H12:=H10.on f12;have aot:Fr (λy=>y=r\/y=b2) h4 mF:=(fg.trans f10 (λ_ _=>id) (λ_ _=> .inl)).on f12;have zg:=fg.1;have z10:=f10.1;have g12:aa.at mF b2 m 0 v.p v.b.length v.c none 0 0:=f12.get (f10.get g2 (by omega)) id;have o12:=(ov.frame f10 (λy hy e=>by have:=nv y hy;omega)).frame f12 (λ_ _=>id);have PG:Fr (λy=>y=r) h mF:=(Fr.no F4 aot).mono (λx hx e=>by omega);have U12:Fr No h0 mF:=u.fresh PG (λy e=>by omega);have done: ∀g3,Fr No mF g3->(m'=m/\o'=false)->J g3:=by
     intro g3 f3 hmo;rw[ag hmo] at xN;subst hJ;refine⟨_,_,_,af (f3.get g12 id) rfl,bg.ld (f3.get kT id) (SJ U (U12.tt f3) (H12.on f3) hn' (λDw w pw okw lw le H14 f14=>⟨_,_,_,rfl,af (f14.get (f3.get g12 id) (by omega)) rfl,?_⟩) (λDw e pe f14=>kE Dw e (by rw[<-xN,pe]) (PG.on (f3.tt f14))))⟩;have o14:=(o12.frame f3 (λ_ _=>id)).frame f14 (λy hy e=>by have:=nv y hy;omega);have lv:v.b.length<=1000000:=by omega
     refine fR vg.tU vg.uU o14 okw.row (by rw[sV,cO]) (Ch w.b) (by omega) (by omega) ?_;intro p' c' GZ Mq _ f15 g15;rw[<-sw] at Mq;have z12:=f12.1;have z3:=f3.1;have z14:=f14.1;refine⟨_,_,_,rfl,bM (f15.get (f14.get (f3.get g12 id) (by omega)) (λhy=>by have:=nv _ hy;omega)) (by show 2<4;omega) λvZ d1 d2 d3=>⟨rfl,?_,?_⟩⟩
     ·have f16:Fr (λy=>y=b2) GZ vZ:=Fr.of_eq d2 (λc hc=>d3 c hc);have n15: ∀y,aQ p' y->h4.size<=y:=λy hy=>by
       rcases g15 y hy with a|a
       ·exact nv y a
       ·omega
      have H15:=H14.frame f15 (λhy=>by have:=nv _ hy;omega) (λy hy e AW=>by have:=nv _ AW;have:=GG y hy e;omega);rw[pw] at xN;refine⟨k,aiB+n',⟨p',c',v.b++w.b⟩,⟨by omega,xN⟩,by rw[aF];exact d1,by rw[aF];exact Mq.frame f16 (λy hy e=>by have:=n15 y hy;omega),n15,H15.frame f16 (by omega) (λy hy e he=>by have:=GG y hy e;omega),?_,by rw[aF];omega⟩;have a1:Fr (λy=>y=r\/y=b2) h4 Dw:=(aot.on f3).trans f14 (λ_ _=>id) (λ_ _=> .inl);have a2:Fr (λy=>y=r\/y=b2) h4 GZ:=a1.trans f15 (λ_ _=>id) (λx hx hy=>by have:=nv x hy;omega);exact a2.trans f16 (λ_ _=>id) (λ_ _=> .inr)
     ·have e16:FX vZ r=aiB+n':=by
       have H15:=H14.frame f15 (λhy=>by have:=nv _ hy;omega) (λy hy e AW=>by have:=nv _ AW;have:=GG y hy e;omega);exact(H15.frame (Fr.of_eq (S:=λy=>y=b2) d2 (λc hc=>d3 c hc)) (by omega) (λy hy e he=>by have:=GG y hy e;omega)).FX
      show bs.length+1 - FX vZ r<bs.length+1 - FX g r;rw[e16,Hg.FX];omega
    split
    ·rename_i q;have em:m'=m:=by have:=eq_of_beq q;omega
     refine⟨_,af kT rfl,lK (λho=>⟨rfl,rfl,done mF (Fr.refl _ _) ⟨em,by cases o' with|true=>cases ho|false=>rfl⟩⟩) (λho=>kE mF 3 (by rw[<-xN,ai (λe=>by rw[e.2] at ho;cases ho)]) PG)⟩
    ·rename_i q;exact lK (λe=>absurd e (by decide)) (λ_=>kE mF 3 (by rw[<-xN,ai (λe=>q (by rw[e.1];simp))]) PG)
   ·exact((Fr.no F4 fg).on f10).mono (λx hx e=>by omega)
theorem tI:Ap Tryz.prog T.cF T.aa 4 64 (.agg #[.I 0,.U 0,.Z,.Z]):=⟨by kernel_rfl,by kernel_rfl,rfl⟩
theorem uI:Tryz.prog.underlying T.cF=some (.slice T.aa):=by kernel_rfl
theorem zX (x:CV): ∀v∈mK x,jg v=true:=by
 intro v hv;simp only[bQ,List.not_mem_nil,or_false] at hv;rcases hv with rfl|rfl|rfl|rfl<;>rfl
theorem kN: ∀(ts:List Tr),9*ts.length<=dZ ts
 | []=>cp _
 | .mk k n b l::ts=>by
  have:=kN ts;simp only[dZ,room,bj];omega
def Vx (V:List UInt8->Bool) (h0:aj) (r:Nat) (p:bV) (c:Nat) (bs:List UInt8) (lv:Nat):Prop:= ∀(h:aj) (pos left:Nat) (R E:iI),Fr No h0 h->Gl h r p c bs pos left->
 (∀h' (t:Tr) (x:CV) (next left':Nat),lM V bs lv pos left=.ok (t,next,left')->kU h' (λy=>h.size<=y) t x->Gl h' r p c bs next left'->Fr (λy=>y=r) h h'->R x.agg h')->
 (∀h' e,lM V bs lv pos left=.error e->Fr (λy=>y=r) h h'->E (flt e) h')->mI Tryz.prog F.ig #[.pointer (some ⟨r,0,none⟩),.int .i64 (7 - (lv:Int))] h R E
structure Lst (h4 g:aj) (r b2:Nat) (p:bV) (c:Nat) (bs:List UInt8) (pos next left:Nat) (ts:List Tr) (ys:List CV) (q:bV) (cl:Nat):Prop where
 dF:aa.at g b2 4 0 none 0 0 q ys.length cl
 own:iS g q ys.length cl 4 (ys.flatMap mK)
 ge: ∀y,aQ q y->h4.size<=y
 tr:dH g (λy=>h4.size<=y/\¬aQ q y) ts ys
 room:dZ ts<=10*(next - pos)
 le:pos<=next
 rd:Gl g r p c bs next left
 fr:Fr (λy=>y=r\/y=b2) h4 g
theorem adZ {h4 g:aj} {b2 next lv:Nat} {ts:List Tr} {ys:List CV} {q:bV} {cl:Nat} {deep:Int} {Φ:aj->Prop} (IH:Vx V h0 r p c bs lv) (u4:Fr No h0 h4) (hr0:h0.size<=r) (r4:r<h4.size) (b4:b2<h4.size) (rb:r≠b2) (b0:h0.size<=b2) (hd:deep=6 - (lv:Int)) (hlv:lv<=6)
  (rows: ∀y,aQ p y->bs≠ []->y<h4.size/\y≠b2)
  (L:Lst h4 g r b2 p c bs pos next left ts ys q cl)
  (hk: ∀g' next' left' t QR q' DO,lM V bs lv next left=.ok (t,next',left')->Lst h4 g' r b2 p c bs pos next' left' (ts++ [t]) QR q' DO->next<next'->Φ g') (kE: ∀h' e,lM V bs lv next left=.error e->Fr (λy=>y=r\/y=b2) h4 h'->E (flt e) h'):
  ∃(tH:bV) (sK ue:Nat),ak g (AA b2 3)=some (.slice tH sK ue)/\
  Ce F.ig #[.P r 0,.I (IntKind.wrap .i64 (deep+1))] g (λeK cX=>
  ∃(zH vJ:Int) (ym:bV) (yo yq:Nat) (FU:bV) (FV FW:Nat),eK=.agg #[.I zH,.U vJ,.slice ym yo yq,.slice FU FV FW]/\
  ak cX (AA b2 3)=some (.slice tH sK ue)/\
  aV cX (.cells #[.I zH,.U vJ,.slice ym yo yq,.slice FU FV FW] T.aa) λjR dB=>
  ak dB (AA b2 3)=some (.slice tH sK ue)/\
  aX Tryz.prog (Builtin.append_ #[T.cF,T.cF] T.cF #[.slice tH sK ue,.slice (some (AA jR 0)) 1 1]) dB λgS ff=>
  ∃(ve:bV) (uc vG:Nat),gS=.slice ve uc vG/\
  aH ff (AA b2 3) (.slice ve uc vG) λcQ=>Φ cQ) E:=by
 have zg:=L.fr.1;have hlen:=L.rd.len;have hp:=L.rd.pos;have hle:=L.le;have ll:ys.length<=2000000:=by
  have h1:=kN ts;have h2:=L.room;have h3:=L.tr.len;omega
 refine⟨_,_,_,af L.dF rfl,?_⟩;rw[bL (n:=deep+1) (by omega) (by omega)];rw[show deep+1=7 - (lv:Int) by omega];refine IH g next left _ E (u4.fresh L.fr (λy e=>by omega)) L.rd (λh7 t x Ed Ee hi tx H7 f7=> ?_) (λh7 e hi f7=>kE h7 e hi (L.fr.trans f7 (λ_ _=>id) (λ_ _=> .inl)));obtain⟨rx,lx,_,_⟩:=Ro lv _ _ _ _ _ L.rd.pos hi;have z7:=f7.1;have b7:=f7.get L.dF (by omega);refine⟨_,_,_,_,_,_,_,_,rfl,af b7 rfl,aa.box λb3 h8 LQ kT f8=>⟨af (f8.get b7 id) rfl,?_⟩⟩;have z8:=f8.1;have o8:=(L.own.frame f7 (λy hy e=>by have:=L.ge y hy;omega)).frame f8 (λ_ _=>id);have q7: ∀y,aQ q y->y<g.size:=λy hy=>L.own.gn hy
 refine fR tI uI o8 (ds:=mK x) (.inr ⟨_,rfl,aa.held kT⟩) rfl (zX x) (by omega) (by omega) λq' DO h9 o9 _ f9 g9=>⟨_,_,_,rfl,?_⟩
 have z9:=f9.1;have nq: ∀y,aQ q y->h4.size<=y:=L.ge;have b9:=f9.get (f8.get b7 id) (λhy=>by have:=nq _ hy;omega);refine bM b9 (by show 3<4;omega) λvk d1 d2 d3=> ?_
 have f10:Fr (λy=>y=b2) h9 vk:=Fr.of_eq d2 (λc hc=>d3 c hc);have nq': ∀y,aQ q' y->h4.size<=y:=λy hy=>by
  rcases g9 y hy with a|a
  ·exact nq y a
  ·omega
 have ef:ys.flatMap mK++mK x=(ys++ [x]).flatMap mK:=by rw[dJ];simp
 have H9:=(H7.on f8).frame f9 (λhy=>by have:=nq _ hy;omega) (λy hy e AW=>by have:=nq _ AW;have:=(rows y hy e).1;omega);refine hk vk Ed Ee t (ys++ [x]) q' DO hi ⟨?_,?_,nq',?_,?_,by omega,H9.frame f10 (by omega) (λy hy e he=>(rows y hy e).2 he),?_⟩ lx
 ·rw[aF];exact d1
 ·rw[aF,<-ef];exact o9.frame f10 (λy hy e=>by have:=nq' y hy;omega)
 ·have t1:=((L.tr.lt.frame f7 (λy hy e=>by omega)).frame f8 (λ_ _=>id)).frame f9 (λy hy AW=>hy.1.2 AW);have t2:=tx.lt.mono (D':=λy=>g.size<=y/\y<h7.size) (λ_=>id);have t2:=(t2.on f8).mono (D':=λy=>g.size<=y/\y<h7.size) (λ_=>id);have t2:=kU.frame f9 (λy hy AW=>by have:=q7 y AW;omega) t2;have m1:=dH.mono (D':=λy=>h4.size<=y/\¬aQ q' y) (λy hy=>⟨hy.1.1,λAW=>by
   rcases g9 y AW with a|a
   ·exact hy.1.2 a
   ·have:=hy.2;omega⟩) t1
  have m2:=kU.mono (D':=λy=>h4.size<=y/\¬aQ q' y) (λy hy=>⟨by omega,λAW=>by
   rcases g9 y AW with a|a
   ·have:=q7 y a;omega
   ·omega⟩) t2
  exact dH.frame f10 (λy hy e=>by omega) (m1.snoc m2)
 ·rw[mQ];have:=L.room;simp only[dZ];omega
 ·have a1:=(L.fr.trans f7 (S'':=λy=>y=r\/y=b2) (λ_ _=>id) (λ_ _=> .inl)).on f8;have a2:=a1.trans f9 (S'':=λy=>y=r\/y=b2) (λ_ _=>id) (λx hx hy=>by have:=nq x hy;omega);exact a2.trans f10 (λ_ _=>id) (λ_ _=> .inr)
theorem agI {lv m n : Nat} {o : Bool} {deep : Int} (IH : Vx V h0 r p c bs lv) (u : Fr No h0 h) (hr : h0.size ≤ r) (H : Gl h r p c bs pos left) (hd : deep = 6 - (lv : Int)) (hlv : lv ≤ 6) (hn : n < 18446744073709551616)
    (k1 : ∀ h' (ts : List Tr) (x : CV) (next left' : Nat), x5 bs (lM V bs lv) pos left n o = .ok (ts, next, left') → kU h' (λy => h.size ≤ y) (.mk 4 0 [] ts) x → Gl h' r p c bs next left' → Fr (λy => y = r) h h' → R x.agg h')
    (kE : ∀ h' e, x5 bs (lM V bs lv) pos left n o = .error e → Fr (λy => y = r) h h' → E (flt e) h') : mI Tryz.prog F.lZ #[.pointer (some ⟨r, 0, none⟩), .agg #[.int .i64 (m : Int), .int .u64 (n : Int), .bool o], .int .i64 deep] h R E := by
  refine lZ.walk (bg.box λb h1 eb hb f1 => aa.box λb1 h2 uh dx f2 => aa.new λb2 h4 FH fJ f4 => ⟨_, af ((f2.tt f4).get hb id) rfl, ?_⟩)
  have zr := aI H.dF
  have zb := aI hb
  have PU := aI dx
  have zb2 := aI fJ
  have z0 := u.1
  have z1 := f1.1
  have z2 := f2.1
  have z4 := f4.1
  have F4 := f1.tt (f2.tt f4)
  have H4 := H.on F4
  have mb := (f2.tt f4).get hb id
  have CY := f4.get dx id
  have hlen := H.len
  have Ud := H.pos
  have rows : ∀ y, aQ p y → bs ≠ [] → y < h4.size ∧ y ≠ b2 := λy hy e => by
    have := qO H.row (by cases hbs : bs with | nil => exact absurd hbs e | cons => simp [bc]) hy
    omega
  have toE : ∀ g e, x5 bs (lM V bs lv) pos left n o = .error e → Fr (λy => y = r ∨ y = b2) h4 g → E (flt e) g := λg e hx fg => kE g e hx ((Fr.no F4 fg).mono (λx hx q => by omega))
  have fin : ∀ g next left' ts ys q cl, Lst h4 g r b2 p c bs pos next left' ts ys q cl → x5 bs (lM V bs lv) pos left n o = .ok (ts, next, left') →
      aa.LD g ⟨b2, 0, none⟩ λt0 t1 TF TG TH t3p t3l t3c => aa.ST g ⟨b1, 0, none⟩ t0 t1 TF TG TH t3p t3l t3c λh7 => aa.LD h7 ⟨b1, 0, none⟩ λr0 r1 r2p r2l r2c r3p r3l r3c => R (.agg #[.int .i64 r0, .int .u64 r1, .slice r2p r2l r2c, .slice r3p r3l r3c]) h7 := by
    intro g next left' ts ys q cl L hx
    refine aa.ld L.dF (aa.set (L.fr.get CY (by omega)) λh7 d1 d2 d3 => aa.ld d1 ?_)
    have f7 : Fr (λy => y = b1) g h7 := Fr.of_eq d2 (λc hc => d3 c hc)
    have o7 := L.own.frame f7 (λy hy e => by have := L.ge y hy; omega)
    have t7 := dH.frame f7 (λy hy e => by omega) L.tr
    refine k1 h7 ts ⟨4, 0, ⟨none, 0, []⟩, q, ys.length, cl⟩ next left' hx ?_ (L.rd.frame f7 (by omega) (λy hy e he => by
      have := qO H.row (by cases hbs : bs with | nil => exact absurd hbs e | cons => simp [bc]) hy; omega)) ?_
    · unfold kU
      exact ⟨⟨rfl, rfl, rfl, ⟨Row.nil, λe => absurd rfl e, Nat.le_refl _⟩⟩, ys, ⟨rfl, o7.qa, λ_ y hy => by have := L.ge y hy; omega, o7.le⟩, dH.mono (λy hy => by omega) t7⟩
    · exact ((Fr.no F4 L.fr).trans f7 (S'' := λy => y = r) (λx hx e => by omega) (λx hx e => by omega))
  have L0 : Lst h4 h4 r b2 p c bs pos pos left [] [] none 0 := ⟨fJ, .nil rfl rfl rfl rfl, (λy ⟨a, e, _⟩ => by cases e), by unfold dH; trivial, by simp [dZ], Nat.le_refl _, H4, Fr.refl _ _⟩
  have step := fun {g next left' ts ys q cl} {Φ : aj → Prop} (L : Lst h4 g r b2 p c bs pos next left' ts ys q cl) hk (hE : ∀ e, lM V bs lv next left' = .error e → x5 bs (lM V bs lv) pos left n o = .error e) => adZ (V := V) (Φ := Φ) (E := E) (deep := deep) IH (u.tt F4) hr (by omega) zb2 (by omega) (by omega) hd hlv rows L hk (λg e hx fg => toE g e (hE e hx) fg)
  cases o with
  | true =>
    rw [if_pos rfl]
    refine ⟨λg => ∃ k next left' ts ys q cl, (bs.length + 1 ≤ k + next ∧ HF bs (lM V bs lv) k next left' ts = x5 bs (lM V bs lv) pos left n true) ∧ Lst h4 g r b2 p c bs pos next left' ts ys q cl, λg => bs.length + 1 - FX g r, ⟨_, _, _, _, _, _, _, ⟨by omega, rfl⟩, L0⟩, ?_⟩
    rintro g ⟨k, next, left', ts, ys, q, cl, ⟨hkn, xN⟩, L⟩
    have hng := L.rd.pos
    obtain ⟨k, rfl⟩ : ∃ k', k = k' + 1 := ⟨k - 1, by omega⟩
    refine Yb L.rd (λh6 he jc H6 f6 => ⟨_, rfl, ?_⟩) (λhe => ⟨_, rfl, ?_⟩)
    all_goals unfold HF at xN; simp only [he, if_true, Bool.false_eq_true, if_false] at xN
    · rw [if_neg (by decide)]
      have t6 := dH.frame f6 (λy hy e => by omega) L.tr
      refine fin h6 (next + 1) left' ts ys q cl ⟨f6.get L.dF (by omega), L.own.frame f6 (λy hy e => by have := L.ge y hy; omega), L.ge, t6, by have := L.room; have := L.le; omega, by have := L.le; omega, H6, L.fr.trans f6 (λ_ _ => id) (λ_ _ => .inl)⟩ xN.symm
    · rw [if_pos (by decide)]
      refine step L (λg' next' Ee t QR q' DO hi L' jc => ⟨rfl, ⟨k, _, _, _, _, _, _, ⟨by omega, by rw [hi] at xN; exact xN⟩, L'⟩, ?_⟩) (λe hi => by rw [← xN, hi])
      show bs.length + 1 - FX g' r < bs.length + 1 - FX g r
      rw [L'.rd.FX, L.rd.FX]
      have := L'.rd.pos
      omega
  | false =>
    rw [if_neg (by decide)]
    refine ⟨_, af mb rfl, _, _, _, af H4.dF rfl, _, af H4.dF rfl, ?_⟩
    rw [bL (n := ((bs.length : Nat) : Int) - (pos : Int)) (by omega) (by omega), wrap_u64 (by omega) (by omega)]
    refine lK (λhq => ?_) (λhq => toE h4 8 (by have := of_decide_eq_false hq; unfold x5; dsimp only; rw [if_neg (by omega)]) (Fr.refl _ _))
    have hq : pos + n ≤ bs.length := by have := of_decide_eq_true hq; omega
    refine ⟨rfl, af H4.dF rfl, af H4.dF rfl, af mb rfl, _, af mb rfl, ?_⟩
    have e0 : x5 bs (lM V bs lv) pos left n false = Fb (lM V bs lv) n pos left [] := by unfold x5; dsimp only; rw [if_pos (by omega)]
    refine ⟨λt g => ∃ i next left' ts ys q cl, t = ((i : Nat) : Int) ∧ i ≤ n ∧ Fb (lM V bs lv) (n - i) next left' ts = x5 bs (lM V bs lv) pos left n false ∧ Lst h4 g r b2 p c bs pos next left' ts ys q cl, λt _ => n - t.toNat, ⟨0, _, _, _, _, _, _, rfl, Nat.zero_le _, e0.symm, L0⟩, ?_⟩
    rintro _ g ⟨i, next, left', ts, ys, q, cl, rfl, hi, xN, L⟩
    by_cases nR : i < n
    · rw [if_pos (decide_eq_true (by omega))]
      rw [show n - i = (n - (i + 1)) + 1 by omega] at xN
      unfold Fb at xN
      refine step L (λg' next' Ee t QR q' DO hi2 L' jc => ⟨rfl, ?_, ?_⟩) (λe hi2 => by rw [← xN, hi2])
      · rw [wrap_u64 (n := (i : Int) + 1) (by omega) (by omega)]
        exact ⟨i + 1, _, _, _, _, _, _, by omega, by omega, by rw [hi2] at xN; exact xN, L'⟩
      · rw [wrap_u64 (n := (i : Int) + 1) (by omega) (by omega)]
        show n - Int.toNat ((i : Int) + 1) < n - Int.toNat (i : Int)
        omega
    · rw [if_neg (λe => nR (by have := of_decide_eq_true e; omega))]
      rw [show n - i = 0 by omega] at xN
      exact fin g next left' ts ys q cl L xN.symm
theorem ad0 (U:xQ V h0) (hr:h0.size<=r): ∀lv,lv<=6->Vx V h0 r p c bs lv:=by
 intro lv;induction lv with
 |zero=>
  intro _ h pos left R E u H k1 kE;refine ig.walk (aa.box λb h1 eb hb f1=>Lm (H.on f1) (λh2 m n next o hh H2 f2=>⟨_,_,_,rfl,bg.new λb1 h4 uh dx f4=>aK.of λJ hJ=> ?_⟩) (λh2 e hh f2=>kE h2 e (by unfold lM;rw[hh]) ((f1.tt f2).mono λ_ _=>False.elim)));have z1:=f1.1;have zr:=aI H.dF;have F4:Fr (λy=>y=r) h h4:=(Fr.no f1 f2).on f4;have done:(m=0\/m=2\/m=3\/m=4)->J h4:=by
   intro hm;subst hJ;exact lK (λhdp=>absurd hdp (by decide)) (λ_=>kE h4 9 (by unfold lM;rw[hh];dsimp only;rw[ag hm]) F4)
  refine⟨_,af dx rfl,?_⟩;split
  ·rename_i q;exact lK (λ_=>⟨rfl,rfl,done (.inl (by have:=eq_of_beq q;omega))⟩) (λe=>absurd e (by decide))
  rename_i q0;refine⟨_,af dx rfl,?_⟩;split
  ·rename_i q;exact lK (λ_=>⟨rfl,rfl,done (.inr (.inl (by have:=eq_of_beq q;omega)))⟩) (λe=>absurd e (by decide))
  rename_i q2;refine⟨_,af dx rfl,?_⟩;split
  ·rename_i q;exact lK (λ_=>⟨rfl,rfl,done (.inr (.inr (.inl (by have:=eq_of_beq q;omega))))⟩) (λe=>absurd e (by decide))
  rename_i q3;refine⟨_,af dx rfl,?_⟩;refine lK (λq=>⟨rfl,rfl,done (.inr (.inr (.inr (by have:=eq_of_beq q;omega))))⟩) (λq=>kE h4 3 (by unfold lM;rw[hh];dsimp only;rw[ai];rintro(rfl|rfl|rfl|rfl)<;>first|exact q0 rfl|exact q2 rfl|exact q3 rfl|exact absurd q (by decide)) F4)
 |succ lv IH=>
  intro hlv h pos left R E u H k1 kE;have IH:=IH (by omega);have zr:=aI H.dF;refine ig.walk (aa.box λb h1 eb hb f1=>Lm (H.on f1) (λh2 m n next o hh H2 f2=>⟨_,_,_,rfl,bg.new λb1 h4 uh dx f4=>aK.of λJ hJ=> ?_⟩) (λh2 e hh f2=>kE h2 e (by unfold lM;rw[hh]) ((f1.tt f2).mono λ_ _=>False.elim)));obtain⟨jc,_,hn,_⟩:=JP hh;have hX:lM V bs (lv+1) pos left=lM V bs (lv+1) pos left:=rfl;conv at hX=>rhs;unfold lM;rw[hh]
  dsimp only at hX;have zb:=aI hb;have PU:=aI dx;have z1:=f1.1;have z2:=f2.1;have z4:=f4.1;have hp:=H.pos;have JF:=H2.pos;have ahU:=H2.left;have F4:Fr (λy=>y=r) h h4:=(Fr.no f1 f2).on f4;have U4:Fr No h0 h4:=u.fresh F4 (λy e=>by omega);have H4:=H2.on f4;have mb:=f4.get (f2.get hb (by omega)) id;have GG: ∀y,aQ p y->bs≠ []->y<h.size:=λy hy e=>qO H.row (by cases hbs:bs with|nil=>exact absurd hbs e|cons=>simp[bc]) hy
  have lay: ∀g (t:Tr) (x:CV) Ed Ee,aa.at g b 0 0 none 0 0 none 0 0->kU g (λy=>h1.size<=y) t x->lM V bs (lv+1) pos left=.ok (t,Ed,Ee)->Gl g r p c bs Ed Ee->Fr (λy=>y=r) h g->
    aa.ST g (AA b 0) x.k (x.n:Int) x.v.p x.v.b.length x.v.c x.q x.ll x.cl λh9=>aa.LD h9 (AA b 0) λr0 r1 r2p r2l r2c r3p r3l r3c=>R (.agg #[.I r0,.U r1,.slice r2p r2l r2c,.slice r3p r3l r3c]) h9:=by
   intro g t x Ed Ee gb tx rx Hg fg;refine aa.set gb λh9 d1 d2 d3=>aa.ld d1 ?_
   have f9:Fr (λy=>y=b) g h9:=Fr.of_eq d2 (λc hc=>d3 c hc);exact k1 h9 t x Ed Ee rx (kU.mono (λy hy=>by omega) (kU.frame f9 (λy hy e=>by omega) tx)) (Hg.frame f9 (by omega) (λy hy e he=>by have:=GG y hy e;omega)) (fg.trans f9 (λ_ _=>id) (λx hx e=>by omega))
  have done:(m=0\/m=2\/m=3\/m=4)->J h4:=by
   intro hm;rw[ag hm] at hX;subst hJ;refine lK (λ_=>⟨rfl,_,af H4.dF rfl,lK (λhl=>⟨rfl,_,af H4.dF rfl,bM H4.dF (by show 2<3;omega) λh8 d1 d2 d3=> ?_⟩) (λhl=>kE h4 2 (by rw[hX,ag (by have:=of_decide_eq_false hl;omega)]) F4)⟩) (λhdp=>absurd (of_decide_eq_false hdp) (by omega));have hl:=of_decide_eq_true hl;rw[dM] at hX;rw[bL (n:=(left:Int) - 1) (by omega) (by omega),show(left:Int) - 1=((left - 1:Nat):Int) by omega] at d1;obtain⟨H8,f8⟩:=H4.set (pos':=next) (left':=left - 1) JF (by omega) d1 d2 d3;have aa1:=f8.get dx (by omega);have hb8:=f8.get mb (by omega);have F8:Fr (λy=>y=r) h h8:=F4.tt f8;have U8:Fr No h0 h8:=u.fresh F8 (λy e=>by omega);have z8:=f8.1;refine⟨_,af aa1 rfl,?_⟩;split
   ·rename_i q;rw[ag (by have:=eq_of_beq q;omega)] at hX;refine⟨_,af aa1 rfl,?_⟩;refine lay h8 (.mk 0 n [] []) ⟨0,n,⟨none,0, []⟩,none,0,0⟩ next (left - 1) hb8 ?_ hX H8 F8;unfold kU;exact⟨⟨rfl,rfl,rfl,⟨Row.nil,λe=>absurd rfl e,bh _⟩⟩, [],⟨rfl,Row.nil,λe=>absurd rfl e,bh _⟩,by unfold dH;trivial⟩
   ·rename_i q0;rw[ai (λe=>q0 (by rw[e];rfl))] at hX;split
    ·rename_i q;have m4:m=4:=by have:=eq_of_beq q;omega
     rw[ag m4] at hX;refine bg.ld aa1 (agI IH U8 hr H8 (by omega) (by omega) hn (λvk ts x Ed Ee hL tx H10 f10=>⟨_,_,_,_,_,_,_,_,rfl,?_⟩) (λvk e hL f10=>kE vk e (by rw[hX,hL]) (F8.tt f10)));exact lay vk (.mk 4 0 [] ts) x Ed Ee (f10.get hb8 (by omega)) (kU.mono (λy hy=>by omega) tx) (by rw[hX,hL]) H10 (F8.tt f10)
    ·rename_i q;rw[ai (λe=>q (by rw[e];rfl))] at hX;refine bg.ld aa1 (aa0 U U8 hr H8 hn (λmF x sb Ed hS tx H12 f12=>⟨_,_,_,_,_,_,_,_,rfl,?_⟩) (λmF e hS f12=>kE mF e (by rw[hX,hS]) (F8.tt f12)));exact lay mF (.mk m 0 sb []) x Ed (left - 1) (f12.get hb8 (by omega)) (kU.mono (λy hy=>by omega) tx) (by rw[hX,hS]) H12 (F8.tt f12)
  refine⟨_,af dx rfl,?_⟩;split
  ·rename_i q;exact lK (λ_=>⟨rfl,rfl,done (.inl (by have:=eq_of_beq q;omega))⟩) (λe=>absurd e (by decide))
  rename_i q0;refine⟨_,af dx rfl,?_⟩;split
  ·rename_i q;exact lK (λ_=>⟨rfl,rfl,done (.inr (.inl (by have:=eq_of_beq q;omega)))⟩) (λe=>absurd e (by decide))
  rename_i q2;refine⟨_,af dx rfl,?_⟩;split
  ·rename_i q;exact lK (λ_=>⟨rfl,rfl,done (.inr (.inr (.inl (by have:=eq_of_beq q;omega))))⟩) (λe=>absurd e (by decide))
  rename_i q3;refine⟨_,af dx rfl,?_⟩;refine lK (λq=>⟨rfl,rfl,done (.inr (.inr (.inr (by have:=eq_of_beq q;omega))))⟩) (λq=>kE h4 3 (by rw[hX,ai];rintro(rfl|rfl|rfl|rfl)<;>first|exact q0 rfl|exact q2 rfl|exact q3 rfl|exact absurd q (by decide)) F4)
theorem aa2 {c0 c1 c2:Nat} {K:Option Value->aj->Prop} (hk: ∀h',Fr No h h'->K none h'):Ck Tryz.prog F.lO #[.P c0 0,.P c1 0,.P c2 0] none h K:=by
 refine lO.ret.walk (cY (HE (by decide) (hk _ (Fr.push _ _))))
theorem aa3 {c0 c1 c2:Nat} {e g0 g1:Int} {g2p g3p:bV} {g2l g2c g3l g3c:Nat} {n0 e0:Int} {K:Option Value->aj->Prop} (h0:aa.at h c0 g0 g1 g2p g2l g2c g3p g3l g3c) (h1:h[c1]? =some (.cells #[.I n0] T.int (0,0))) (h2:h[c2]? =some (.cells #[.I e0] T.uz (0,0))) (n01:c0≠c1) (n02:c0≠c2) (n12:c1≠c2)
  (hk: ∀h',aa.at h' c0 0 0 none 0 0 none 0 0->h'[c1]? =some (.cells #[.I 0] T.int (0,0))->h'[c2]? =some (.cells #[.I e] T.uz (0,0))->Fr (λy=>y=c0\/y=c1\/y=c2) h h'->K none h'):
  Ck Tryz.prog F.lO #[.P c0 0,.P c1 0,.P c2 0] (some (flt e)) h K:=by
 refine lO.xO.walk (cY (HE (by decide) ?_));have fb:Fr No h (h.push (.cells (#[Value.I 0].setIfInBounds 0 (.I e)) T.oP (0,0))):=Fr.push _ _;have hb:(h.push (.cells (#[Value.I 0].setIfInBounds 0 (.I e)) T.oP (0,0)))[h.size]? =some (.cells #[.I e] T.oP (0,0)):=cA;have z0:=aI h0;have z1:=aI h1;have z2:=aI h2;generalize h.push (.cells (#[Value.I 0].setIfInBounds 0 (.I e)) T.oP (0,0))=g at fb hb⊢;refine⟨_,af hb rfl,aa.set (fb.get h0 id) λg1 d1 d2 d3=> ?_⟩;have f1:Fr (λy=>y=c0) g g1:=Fr.of_eq d2 (λc hc=>d3 c hc);refine⟨af (f1.get hb (by omega)) rfl,bM (f1.get (fb.get h1 id) (by omega)) (by show 0<1;omega) λg2 a1 a2 a3=> ?_⟩;have f2:Fr (λy=>y=c1) g1 g2:=Fr.of_eq a2 (λc hc=>a3 c hc);refine⟨af (f2.get (f1.get hb (by omega)) (by omega)) rfl,bM (f2.get (f1.get (fb.get h2 id) (by omega)) (by omega)) (by show 0<1;omega) λg3 b1 b2 b3=> ?_⟩;have f3:Fr (λy=>y=c2) g2 g3:=Fr.of_eq b2 (λc hc=>b3 c hc);exact hk g3 (f3.get (f2.get d1 (by omega)) (by omega)) (f3.get a1 (by omega)) b1 (((Fr.no fb f1).trans f2 (S'':=λy=>y=c0\/y=c1) (λ_ _=> .inl) (λ_ _=> .inr)).trans f3 (λx _ q=>q.imp id .inl) (λ_ _ q=> .inr (.inr q)))
theorem Ln (U:xQ V h) (row:Row h p (bc bs)) (hl:l=bs.length) (cap:bs.length<=c) (hlen:bs.length<=1000000)
  (k1: ∀h' (t:Tr) (x:CV) (next:Nat),Ba V bs=.ok (t,next)->kU h' (λy=>h.size<=y) t x->Fr No h h'->R (.tuple #[x.agg,.I (next:Int),.I 0]) h')
  (k2: ∀h' e,Ba V bs=.error e->Fr No h h'->R (.tuple #[CV.agg ⟨0,0,⟨none,0, []⟩,none,0,0⟩,.I 0,.I e]) h'):
  Cl F.uw #[.slice p l c,.I 0] h R:=by
 subst hl;refine mI.toH (uw.walk (aa.box λb h1 eb hb f1=>cY (cY ?_)));have zb:=aI hb;have z1:=f1.1;have f2:Fr No h1 (h1.push (.cells #[.I 0] T.int)):=Fr.push _ _;have a2:(h1.push (.cells #[.I 0] T.int))[h1.size]? =some (.cells #[.I 0] T.int (0,0)):=cA;generalize h1.push (.cells #[.I 0] T.int)=h2 at f2 a2⊢;have f3:Fr No h2 (h2.push (.cells #[.I 0] T.uz)):=Fr.push _ _;have a3:(h2.push (.cells #[.I 0] T.uz))[h2.size]? =some (.cells #[.I 0] T.uz (0,0)):=cA;have z2:=aI a2;generalize h2.push (.cells #[.I 0] T.uz)=h3 at f3 a3⊢;have z3:=aI a3;obtain⟨b1,uh⟩: ∃b1,b1=h1.size:=⟨_,rfl⟩;obtain⟨b2,FH⟩: ∃b2,b2=h2.size:=⟨_,rfl⟩;rw[<-uh] at a2;rw[<-FH] at a3;rw[<-uh,<-FH];refine aK.of λJ hJ=> ?_
 rw[dM,decide_eq_false (by omega)];refine⟨rfl,?_⟩;subst hJ;dsimp only;rw[dM];refine cY ?_;have f4:Fr No h3 (h3.push (.cells #[.slice p bs.length c,.I 0,.I 256] T.qq)):=Fr.push _ _;have a4:(h3.push (.cells #[.slice p bs.length c,.I 0,.I 256] T.qq))[h3.size]? =some (.cells #[.slice p bs.length c,.I 0,.I 256] T.qq (0,0)):=cA;generalize h3.push (.cells #[.slice p bs.length c,.I 0,.I 256] T.qq)=h4 at f4 a4⊢;obtain⟨b3,LQ⟩: ∃b3,b3=h3.size:=⟨_,rfl⟩;rw[<-LQ] at a4;rw[<-LQ];have F3:=f2.tt f3;have F4:=F3.tt f4;have FF:=f1.tt F4;have zz2:=f2.1;have zz3:=f3.1;have GG: ∀y,aQ p y->bs≠ []->y<h.size:=λy hy e=>qO row (by cases hbs:bs with|nil=>exact absurd hbs e|cons=>simp[bc]) hy
 have H4:Gl h4 b3 p c bs 0 256:=⟨a4,row.frame FF (λ_ _=>id),cap,cp _,λe hy=>by have:=GG _ hy e;omega,hlen,by omega⟩;have mb:=F4.get hb id;have a24:=(f3.tt f4).get a2 id;have a34:=f4.get a3 id;refine ad0 U (by omega) 6 (bh _) h4 0 256 _ _ FF H4 (λh9 t x next left' hi tx H9 f9=> ?_) (λh9 e hi f9=> ?_)
 ·refine⟨_,_,_,_,_,_,_,_,rfl,aa.set (f9.get mb (by omega)) λvk d1 d2 d3=>aa.ld d1 ?_⟩;have g10:Fr (λy=>y=b) h9 vk:=Fr.of_eq d2 (λc hc=>d3 c hc);have H10:=H9.frame g10 (by omega) (λy hy e he=>by have:=GG y hy e;omega);refine⟨_,af H10.dF rfl,aa.set d1 λyj e1 e2 e3=> ?_⟩;have g11:Fr (λy=>y=b) vk yj:=Fr.of_eq e2 (λc hc=>e3 c hc);refine⟨af (g11.get H10.dF (by omega)) rfl,bM (g11.get (g10.get (f9.get a24 (by omega)) (by omega)) (by omega)) (by show 0<1;omega) λmF c1 c2 c3=> ?_⟩;have g12:Fr (λy=>y=b1) yj mF:=Fr.of_eq c2 (λc hc=>c3 c hc);refine bM (g12.get (g11.get (g10.get (f9.get a34 (by omega)) (by omega)) (by omega)) (by omega)) (by show 0<1;omega) λGQ m1 m2 m3=> ?_
  have g13:Fr (λy=>y=b2) mF GQ:=Fr.of_eq m2 (λc hc=>m3 c hc);refine aa2 λDw f14=>aa.ld (f14.get (g13.get (g12.get e1 (by omega)) (by omega)) id) ⟨_,af (f14.get (g13.get c1 (by omega)) id) rfl,_,af (f14.get m1 id) rfl,?_⟩
  have z4:=f4.1;have t13:=kU.frame f14 (λ_ _=>id) (kU.frame g13 (λy hy e=>by omega) (kU.frame g12 (λy hy e=>by omega) (kU.frame g11 (λy hy e=>by omega) (kU.frame g10 (λy hy e=>by omega) tx))));refine k1 Dw t x next (by unfold Ba;rw[hi]) (kU.mono (λy hy=>by omega) t13) ?_;exact((((((FF.fresh f9 (λy e=>by omega)).fresh g10 (λy e=>by omega)).fresh g11 (λy e=>by omega)).fresh g12 (λy e=>by omega)).fresh g13 (λy e=>by omega)).tt f14)
 ·refine aa3 (f9.get mb (by omega)) (f9.get a24 (by omega)) (f9.get a34 (by omega)) (by omega) (by omega) (by omega) λvk q1 q2 q3 g10=>aa.ld q1 ⟨_,af q2 rfl,_,af q3 rfl,?_⟩
  exact k2 vk e (by unfold Ba;rw[hi]) ((FF.fresh f9 (λy e=>by omega)).fresh g10 (λy e=>by omega))
end Cb
end
section
variable {h:aj} {R:iI}
theorem fI.walk {n:Int} (hv:aV h (.cells #[.I 0,.U 0,.Z,.Z] T.aa) λb aR=>aa.ST aR (AA b 0) 0 n none 0 0 none 0 0 λaZ=>aa.LD aZ (AA b 0) λoQ ia nC nE nF qA qB qC=>R (.agg #[.I oQ,.U ia,.slice nC nE nF,.slice qA qB qC]) aZ):Cl F.fI #[.U n] h R:=aS (lq ll) Tryz.func205 hv
theorem qm.walk {Bh:bV} {xe Dr:Nat} (hv:aV h (.cells #[.I 0,.U 0,.Z,.Z] T.aa) λb aR=>Cl F.cv #[.slice Bh xe Dr] aR λv aZ=>Vl v λPb Mf Pc=>aa.ST aZ (AA b 0) 2 0 Pb Mf Pc none 0 0 λbK=>aa.LD bK (AA b 0) λoQ ia nC nE nF qA qB qC=>R (.agg #[.I oQ,.U ia,.slice nC nE nF,.slice qA qB qC]) bK):Cl F.qm #[.slice Bh xe Dr] h R:=aS (lq ll) Tryz.func210 hv
theorem ze.walk {s:ByteArray} (hv:aV h (.cells #[.I 0,.U 0,.Z,.Z] T.aa) λb aR=>aX Tryz.prog (convert T.string T.du (.string s)) aR λv aZ=>Vl v λPb Mf Pc=>aa.ST aZ (AA b 0) 3 0 Pb Mf Pc none 0 0 λbK=>aa.LD bK (AA b 0) λoQ ia nC nE nF qA qB qC=>R (.agg #[.I oQ,.U ia,.slice nC nE nF,.slice qA qB qC]) bK):Cl F.ze #[.string s] h R:=aS (lq ll) Tryz.func255 hv
theorem mZ.walk {xa:Int} {xc:Int} {nh:bV} {ni nj:Nat} {vt:bV} {vu vw:Nat} (hv:aV h (.cells #[.I xa,.U xc,.slice nh ni nj,.slice vt vu vw] T.aa) λb aR=>aV aR (.cells #[.I 0,.U 0,.Z,.Z] T.aa) λcE aZ=>Hl aZ b 2 λEz EA EB=>Cl F.cv #[.slice Ez EA EB] aZ λv bK=> ∃yM vR AB,v=.slice yM vR AB/\aH bK (AA b 2) (.slice yM vR AB) λcC=> ∃Fx Bt MZ,ak cC (AA b 3)=some (.slice Fx Bt MZ)/\aH cC (AA b 3) (.Z) λcK=> ∃(I:Int->aj->Prop) (mu:Int->aj->Nat),I 0 cK/\∀(t15:Int) (cR:aj),I t15 cR->if(decide (t15<(Bt:Int))) then Bd t15 Bt/\aP Fx λa=>aa.LD cR (a.add (toNat t15*4)) λvL vj Pv Pw Px agJ agK agL=>aV cR (.cells #[.I 0,.U 0,.Z,.Z] T.aa) λeZ cX=>aa.ST cX (AA eZ 0) vL vj Pv Pw Px agJ agK agL λdB=>Hl dB b 3 λuo tQ vP=>aa.LD dB (AA eZ 0) λui uj v7 v8 wa wc wg wh=>Cl F.mZ #[.agg #[.I ui,.U uj,.slice v7 v8 wa,.slice wc wg wh]] dB λeK ff=> ∃zM vm yr yt yu FY FZ F0,eK=.agg #[.I zM,.U vm,.slice yr yt yu,.slice FY FZ F0]/\ak ff (AA b 3)=some (.slice uo tQ vP)/\aV ff (.cells #[.I zM,.U vm,.slice yr yt yu,.slice FY FZ F0] T.aa) λjR cQ=>ak cQ (AA b 3)=some (.slice uo tQ vP)/\aX Tryz.prog (Builtin.append_ #[T.cF,T.cF] T.cF #[.slice uo tQ vP,.slice (some (AA jR 0)) 1 1]) cQ λgS cW=> ∃iQ iy iz,gS=.slice iQ iy iz/\aH cW (AA b 3) (.slice iQ iy iz) λdE=>(I (wrap .i64 (t15+1)) dE/\mu (wrap .i64 (t15+1)) dE<mu t15 cR) else aa.LD cR (AA b 0) λBw zQ PV PW PX PY PZ P0=>aa.ST cR (AA cE 0) Bw zQ PV PW PX PY PZ P0 λdG=>aa.LD dG (AA cE 0) λoQ ia nC nE nF qA qB qC=>R (.agg #[.I oQ,.U ia,.slice nC nE nF,.slice qA qB qC]) dG):Cl F.mZ #[.agg #[.I xa,.U xc,.slice nh ni nj,.slice vt vu vw]] h R:=aS (lq (lq (lq (lq (sq (lq (bq (.loop [(15,.one (.int .i64))] (lq (sq (cq lf lf) (sq (bq (lq (pN 8))) lf)))))) ll))))) Tryz.func288 hv
theorem fO.walk {Dc:bV} {xR Io:Nat} (hv:aV h (.cells #[.I 0,.U 0,.Z,.Z] T.aa) λb aR=>aV aR (.cells #[.I 0,.U 0,.Z,.Z] T.aa) λcE aZ=>aa.ST aZ (AA cE 0) 4 0 none 0 0 none 0 0 λbK=> ∃(I:Int->aj->Prop) (mu:Int->aj->Nat),I 0 bK/\∀(t9:Int) (cC:aj),I t9 cC->if(decide (t9<(xR:Int))) then Bd t9 xR/\aP Dc λa=>aa.LD cC (a.add (toNat t9*4)) λCK xj Pq Pr Ps agM agN agO=>aV cC (.cells #[.I 0,.U 0,.Z,.Z] T.aa) λeZ cK=>aa.ST cK (AA eZ 0) CK xj Pq Pr Ps agM agN agO λcR=>Hl cR cE 3 λBi vf Bj=>aa.LD cR (AA eZ 0) λBv uf FC FD FE agP agQ agR=>Cl F.mZ #[.agg #[.I Bv,.U uf,.slice FC FD FE,.slice agP agQ agR]] cR λv cX=> ∃vM rP Ds Dt Du Jo Jp Jq,v=.agg #[.I vM,.U rP,.slice Ds Dt Du,.slice Jo Jp Jq]/\ak cX (AA cE 3)=some (.slice Bi vf Bj)/\aV cX (.cells #[.I vM,.U rP,.slice Ds Dt Du,.slice Jo Jp Jq] T.aa) λjR dB=>ak dB (AA cE 3)=some (.slice Bi vf Bj)/\aX Tryz.prog (Builtin.append_ #[T.cF,T.cF] T.cF #[.slice Bi vf Bj,.slice (some (AA jR 0)) 1 1]) dB λeK ff=> ∃qt pf rN,eK=.slice qt pf rN/\aH ff (AA cE 3) (.slice qt pf rN) λcQ=>(I (wrap .i64 (t9+1)) cQ/\mu (wrap .i64 (t9+1)) cQ<mu t9 cC) else aa.LD cC (AA cE 0) λui uj v7 v8 wa wc wg wh=>aa.ST cC (AA b 0) ui uj v7 v8 wa wc wg wh λcW=>aa.LD cW (AA b 0) λoQ ia nC nE nF qA qB qC=>R (.agg #[.I oQ,.U ia,.slice nC nE nF,.slice qA qB qC]) cW):Cl F.fO #[.slice Dc xR Io] h R:=aS (lq (lq (sq (lq (bq (.loop [(9,.one (.int .i64))] (lq (sq (cq lf lf) (sq (bq (lq (pN 8))) lf)))))) ll))) Tryz.func247 hv
theorem kf.walk {a_p:bV} {a_l a_c:Nat} {Bh:bV} {xe Dr:Nat} (hv: ∃(t6:ByteArray),DQ Tryz.prog T.du T.string (.slice a_p a_l a_c) h t6/\∃(t8:ByteArray),DQ Tryz.prog T.du T.string (.slice Bh xe Dr) h t8/\R (.bool (t6.toList==t8.toList)) h):Cl F.kf #[.slice a_p a_l a_c,.slice Bh xe Dr] h R:=aS (lq ll) Tryz.func82 hv
theorem iB.walk {a_0:Int} {kz:Int} {aiC:bV} {aiD aiE:Nat} {aiF:bV} {aiG aiH:Nat} {b_0:Int} {cE:Int} {aiI:bV} {aiJ aiK:Nat} {aiL:bV} {aiM aiN:Nat} (hv:aV h (.cells #[.I a_0,.U kz,.slice aiC aiD aiE,.slice aiF aiG aiH] T.aa) λb aR=>aV aR (.cells #[.I b_0,.U cE,.slice aiI aiJ aiK,.slice aiL aiM aiN] T.aa) λcE aZ=>Hi aZ b 0 λt6=> ∃t8,ak aZ (AA cE 0)=some (.I t8)/\if(t6==t8) then Hu aZ b 1 λt12=> ∃t14,ak aZ (AA cE 1)=some (.U t14)/\if(t12==t14) then Hl aZ b 2 λCI zL CJ=>Hl aZ cE 2 λve uc vG=>Cl F.kf #[.slice CI zL CJ,.slice ve uc vG] aZ λv bK=> ∃t22,v=.bool t22/\if t22 then Hl bK b 3 λya rF yc=>Hl bK cE 3 λBl zD Fl=>Cl F.dj #[.slice ya rF yc,.slice Bl zD Fl,.func (.func F.iB) #[] #[]] bK λeK cC=> ∃t29,eK=.bool t29/\R (.bool t29) cC else R (.bool false) bK else R (.bool false) aZ else R (.bool false) aZ):Cl F.iB #[.agg #[.I a_0,.U kz,.slice aiC aiD aiE,.slice aiF aiG aiH],.agg #[.I b_0,.U cE,.slice aiI aiJ aiK,.slice aiL aiM aiN]] h R:=aS (lq ll) Tryz.func248 hv
theorem dj.same.walk {aou:bV} {agS aqT:Nat} {aov:bV} {akz aqU:Nat} (hv:if((agS:Int) !=(akz:Int)) then R (.bool false) h else∃(I:Int->aj->Prop) (mu:Int->aj->Nat),I 0 h/\∀(t17:Int) (aR:aj),I t17 aR->if(decide (t17<(agS:Int))) then Bd t17 agS/\aP aou λa=>aa.LD aR (a.add (toNat t17*4)) λui uj v7 v8 wa wc wg wh=>aV aR (.cells #[.I 0,.U 0,.Z,.Z] T.aa) λb aZ=>aa.ST aZ (AA b 0) ui uj v7 v8 wa wc wg wh λbK=>Bd t17 akz/\aP aov λkz=>aa.LD bK (kz.add (toNat t17*4)) λKO Lo agT agU agV agW agX agY=>aV bK (.cells #[.I 0,.U 0,.Z,.Z] T.aa) λcE cC=>aa.ST cC (AA cE 0) KO Lo agT agU agV agW agX agY λcK=>aa.LD cK (AA b 0) λBw zQ PV PW PX PY PZ P0=>aa.LD cK (AA cE 0) λad1 ad2 P2 P6 Qa Qb Qc Qd=>Cl F.iB #[.agg #[.I Bw,.U zQ,.slice PV PW PX,.slice PY PZ P0],.agg #[.I ad1,.U ad2,.slice P2 P6 Qa,.slice Qb Qc Qd]] cK λv cR=> ∃t29,v=.bool t29/\if(!t29) then R (.bool false) cR else(I (wrap .i64 (t17+1)) cR/\mu (wrap .i64 (t17+1)) cR<mu t17 aR) else R (.bool true) aR):Cl F.dj #[.slice aou agS aqT,.slice aov akz aqU,.func (.func F.iB) #[] #[]] h R:=aS (lq (sq (lq (cq ll lf)) (sq (lq (bq (.loop [(17,.one (.int .i64))] (lq (sq (cq lf lf) (sq (bq (lq (lq (lq (cq ll lf))))) lf)))))) ll))) Tryz.func289 hv
theorem Cr.walk {xa:Int} {xc:Int} {nh:bV} {ni nj:Nat} {vt:bV} {vu vw:Nat} (hv:aV h (.cells #[.I xa,.U xc,.slice nh ni nj,.slice vt vu vw] T.aa) λb aR=> ∃t4,ak aR (AA b 0)=some (.I t4)/\if(t4==0) then∃yM vR AB,ak aR (AA b 2)=some (.slice yM vR AB)/\if((vR:Int)==0) then∃HS Cz Kk,ak aR (AA b 3)=some (.slice HS Cz Kk)/\R (.bool ((Cz:Int)==0)) aR else R (.bool false) aR else if(t4==2) then∃t20,ak aR (AA b 1)=some (.U t20)/\if(t20==0) then∃iQ iy iz,ak aR (AA b 3)=some (.slice iQ iy iz)/\R (.bool ((iy:Int)==0)) aR else R (.bool false) aR else if(t4==3) then∃t31,ak aR (AA b 1)=some (.U t31)/\if(t31==0) then∃zA yd zB,ak aR (AA b 3)=some (.slice zA yd zB)/\if((yd:Int)==0) then Hl aR b 2 λNf KA RT=>Cl F.jm #[.slice Nf KA RT] aR λv aZ=> ∃t42,v=.bool t42/\R (.bool t42) aZ else R (.bool false) aR else R (.bool false) aR else if(t4==4) then∃t47,ak aR (AA b 1)=some (.U t47)/\if(t47==0) then∃NV Lp NW,ak aR (AA b 2)=some (.slice NV Lp NW)/\R (.bool ((Lp:Int)==0)) aR else R (.bool false) aR else R (.bool false) aR):Cl F.Cr #[.agg #[.I xa,.U xc,.slice nh ni nj,.slice vt vu vw]] h R:=aS (lq (sq (lq (bq (lq (cq ll (lq (cq ll (lq (cq ll (lq (cq ll lf)))))))))) ll)) Tryz.func298 hv
theorem wy.walk {xa:Int} {xc:Int} {nh:bV} {ni nj:Nat} {vt:bV} {vu vw:Nat} {deep:Int} {left:Int} (hv:aV h (.cells #[.I xa,.U xc,.slice nh ni nj,.slice vt vu vw] T.aa) λb aR=>aK (λ(t19:Bool) (aZ:aj)=>if t19 then R (.I (-1)) aZ else Hl aZ b 3 λzC xg DW=> ∃(I:Int->Int->aj->Prop) (mu:Int->Int->aj->Nat),I (wrap .i64 (left - 1)) 0 aZ/\∀(Qe:Int) (t25:Int) (bK:aj),I Qe t25 bK->if(decide (t25<(xg:Int))) then Bd t25 xg/\aP zC λa=>aa.LD bK (a.add (toNat t25*4)) λad1 ad2 P2 P6 Qa Qb Qc Qd=>aV bK (.cells #[.I 0,.U 0,.Z,.Z] T.aa) λcE cC=>aa.ST cC (AA cE 0) ad1 ad2 P2 P6 Qa Qb Qc Qd λcK=>aa.LD cK (AA cE 0) λadj Nx agZ ag0 ag1 ag2 ag3 ag4=>Cl F.wy #[.agg #[.I adj,.U Nx,.slice agZ ag0 ag1,.slice ag2 ag3 ag4],.I (wrap .i64 (deep+1)),.I Qe] cK λv cR=> ∃t33,v=.I t33/\if(decide (t33<0)) then R (.I (-1)) cR else(I t33 (wrap .i64 (t25+1)) cR/\mu t33 (wrap .i64 (t25+1)) cR<mu Qe t25 bK) else R (.I Qe) bK) (λJ=>if(decide (deep>6)) then J true aR else if(decide (left<1)) then J true aR else aa.LD aR (AA b 0) λvM rP Ds Dt Du Jo Jp Jq=>Cl F.Cr #[.agg #[.I vM,.U rP,.slice Ds Dt Du,.slice Jo Jp Jq]] aR λeK cX=> ∃t17,eK=.bool t17/\J (!t17) cX)):Cl F.wy #[.agg #[.I xa,.U xc,.slice nh ni nj,.slice vt vu vw],.I deep,.I left] h R:=aS (lq (sq (sq (.join [(19,.one (.bool))] lf) (cq ll lf)) (lq (sq (lq (bq (.loop [(2,.one (.int .i64)),(25,.one (.int .i64))] (lq (sq (cq lf lf) (sq (bq (lq (lq (lq (cq ll lf))))) lf)))))) ll)))) Tryz.func260 hv
theorem oN.walk {xa:Int} {xc:Int} {nh:bV} {ni nj:Nat} {vt:bV} {vu vw:Nat} (hv:aV h (.cells #[.I xa,.U xc,.slice nh ni nj,.slice vt vu vw] T.aa) λb aR=>aa.LD aR (AA b 0) λaqV aqW akA akB akC akD akE akF=>Cl F.wy #[.agg #[.I aqV,.U aqW,.slice akA akB akC,.slice akD akE akF],.I 1,.I 256] aR λv aZ=> ∃t4,v=.I t4/\R (.bool (decide (t4≥0))) aZ):Cl F.oN #[.agg #[.I xa,.U xc,.slice nh ni nj,.slice vt vu vw]] h R:=aS (lq ll) Tryz.func207 hv
theorem uY.walk {kJ:bV} {kK kL:Nat} {xa:Int} {xc:Int} {nh:bV} {ni nj:Nat} {vt:bV} {vu vw:Nat} (hv:aV h (.cells #[.I xa,.U xc,.slice nh ni nj,.slice vt vu vw] T.aa) λb aR=>Hu aR b 1 λt11=>Hi aR b 0 λt13=>aK (λ(n:Int) (aZ:aj)=>Hi aZ b 0 λt29=>Cl F.wZ #[.agg #[.I t29,.U n,.bool false]] aZ λv bK=> ∃Yc Yd Ye ab9,v=.tuple #[.slice Yc Yd Ye,.I ab9]/\Hl bK b 2 λot kI oH=>aX Tryz.prog (Builtin.append_ #[T.du,T.du] T.du #[.slice kJ kK kL,.slice Yc Yd Ye]) bK λeK cC=>Vl eK λacS WG WH=>ak cC (AA b 2)=some (.slice ot kI oH)/\aX Tryz.prog (Builtin.append_ #[T.du,T.du] T.du #[.slice acS WG WH,.slice ot kI oH]) cC λgS cK=>Vl gS λKu MY Fw=>Hl cK b 3 λKL Ib Nn=> ∃(I:bV->Nat->Nat->Int->aj->Prop) (mu:bV->Nat->Nat->Int->aj->Nat),I Ku MY Fw 0 cK/\∀(lF:bV) (lG lH:Nat) (t44:Int) (cR:aj),I lF lG lH t44 cR->if(decide (t44<(Ib:Int))) then Bd t44 Ib/\aP KL λa=>aa.LD cR (a.add (toNat t44*4)) λadX adY ag5 ag6 ag7 ag8 ag9 aha=>aV cR (.cells #[.I 0,.U 0,.Z,.Z] T.aa) λcE cX=>aa.ST cX (AA cE 0) adX adY ag5 ag6 ag7 ag8 ag9 aha λdB=>aa.LD dB (AA cE 0) λMV MW ahb ahc ahd ahe ahf ahg=>Cl F.uY #[.slice lF lG lH,.agg #[.I MV,.U MW,.slice ahb ahc ahd,.slice ahe ahf ahg]] dB λkV ff=> ∃Da Bz Db,kV=.slice Da Bz Db/\(I Da Bz Db (wrap .i64 (t44+1)) ff/\mu Da Bz Db (wrap .i64 (t44+1)) ff<mu lF lG lH t44 cR) else R (.slice lF lG lH) cR) (λJ=>aK (λ(t14:Bool) (cQ:aj)=>aK (λ(n_1:Int) (cW:aj)=>J n_1 cW) (λBp=>if t14 then∃qt pf rN,ak cQ (AA b 2)=some (.slice qt pf rN)/\Bp (wrap .u64 (pf:Int)) cQ else aK (λ(n_2:Int) (dE:aj)=>Bp n_2 dE) (λGH=>if(t13==4) then∃iQ iy iz,ak cQ (AA b 3)=some (.slice iQ iy iz)/\GH (wrap .u64 (iy:Int)) cQ else GH t11 cQ))) (λjo=>if(t13==2) then jo (t13==2) aR else jo (t13==3) aR))):Cl F.uY #[.slice kJ kK kL,.agg #[.I xa,.U xc,.slice nh ni nj,.slice vt vu vw]] h R:=aS (lq (lq (sq (lq (.join [(5,.one (.int .u64))] (bq (sq (lq (.join [(14,.one (.bool))] (cq lf lf))) (.join [(5,.one (.int .u64))] (cq lf (lq (.join [(5,.one (.int .u64))] (cq lf lf))))))))) (lq (sq (.mC (.op 0 (.op 1 (.op 3 (.op 4 (.op 2 (.op 5 (.op 6 .done)))))))) (sq (lq (bq (.loop [(0,.one (.slice)),(44,.one (.int .i64))] (lq (sq (cq lf lf) (sq (bq ll) lf)))))) ll)))))) Tryz.func208 hv
theorem mw.walk {xa:Int} {xc:Int} {nh:bV} {ni nj:Nat} {vt:bV} {vu vw:Nat} (hv:aV h (.cells #[.I xa,.U xc,.slice nh ni nj,.slice vt vu vw] T.aa) λb aR=>aa.LD aR (AA b 0) λO5 O6 akG akH akI akJ akK akL=>Cl F.oN #[.agg #[.I O5,.U O6,.slice akG akH akI,.slice akJ akK akL]] aR λv aZ=> ∃t5,v=.bool t5/\if(!t5) then R (.tuple #[.Z,.I 3]) aZ else aa.LD aZ (AA b 0) λRQ Ky UG UH UI akM akN akO=>Cl F.uY #[.Z,.agg #[.I RQ,.U Ky,.slice UG UH UI,.slice akM akN akO]] aZ λeK bK=> ∃yM vR AB,eK=.slice yM vR AB/\R (.tuple #[.slice yM vR AB,.I 0]) bK):Cl F.mw #[.agg #[.I xa,.U xc,.slice nh ni nj,.slice vt vu vw]] h R:=aS (lq (sq (lq (cq ll lf)) ll)) Tryz.func178 hv
end
section
namespace Cb
variable {h h':aj} {R:iI} {p:bV} {l c:Nat} {bs:List UInt8}
def Ef (h:aj) (D:Nat->Prop) (t:Tr) (x:CV):Prop:=(x.k=t.k/\x.n=t.n/\x.v.b=t.b/\x.v.ok h D)/\∃ys:List CV,x.ll=ys.length/\iS h x.q ys.length x.cl 4 (ys.flatMap mK)/\(∀y,aQ x.q y->D y)/\dH h (λy=>D y/\¬aQ x.q y) t.l ys
theorem Ef.toA {D:Nat->Prop} {t:Tr} {x:CV} (H:Ef h D t x):kU h D t x:=by
 obtain⟨h1,ys,h2,h3,h4,h5⟩:=H;cases t with
 |mk k n b l=>
  unfold kU;exact⟨h1,ys,⟨h2,h3.qa,λ_=>h4,by rw[h2];exact h3.le⟩,dH.mono (λ_ hy=>hy.1) h5⟩
structure Cpy (g0 g:aj) (bb:Nat) (k n:Int) (v:BV) (ts:List Tr) (ys:List CV) (q:bV) (cl:Nat):Prop where
 dF:aa.at g bb k n v.p v.b.length v.c q ys.length cl
 own:iS g q ys.length cl 4 (ys.flatMap mK)
 ge: ∀y,aQ q y->g0.size<=y
 tr:dH g (λy=>g0.size<=y/\¬aQ q y) ts ys
 fr:Fr (λy=>y=bb) g0 g
theorem SK {g0 g:aj} {bb:Nat} {k n:Int} {v:BV} {ts:List Tr} {ys:List CV} {q:bV} {cl:Nat} {t:Tr} {y:CV} {Φ:aj->Prop} (L:Cpy g0 g bb k n v ts ys q cl) (AX:bb<g0.size) (ll:ys.length<=100000000)
  (IH: ∀(g1:aj) (R:iI),Fr No g g1->(∀h' z,Ef h' (λc=>g1.size<=c) t z->Fr No g1 h'->R z.agg h')->Cl F.mZ #[y.agg] g1 R)
  (hk: ∀g' QR q' DO,Cpy g0 g' bb k n v (ts++ [t]) QR q' DO->QR.length=ys.length+1->Φ g'):
  aV g (.cells #[.I 0,.U 0,.Z,.Z] T.aa) λeZ cX=>
  aa.ST cX (AA eZ 0) y.k (y.n:Int) y.v.p y.v.b.length y.v.c y.q y.ll y.cl λdB=>
  ∃(uo:bV) (tQ vP:Nat),ak dB (AA bb 3)=some (.slice uo tQ vP)/\
  aa.LD dB (AA eZ 0) λui uj v7 v8 wa wc wg wh=>
  Cl F.mZ #[.agg #[.I ui,.U uj,.slice v7 v8 wa,.slice wc wg wh]] dB λeK ff=>
  ∃(zM vm:Int) (yr:bV) (yt yu:Nat) (FY:bV) (FZ F0:Nat),eK=.agg #[.I zM,.U vm,.slice yr yt yu,.slice FY FZ F0]/\
  ak ff (AA bb 3)=some (.slice uo tQ vP)/\
  aV ff (.cells #[.I zM,.U vm,.slice yr yt yu,.slice FY FZ F0] T.aa) λjR cQ=>
  ak cQ (AA bb 3)=some (.slice uo tQ vP)/\
  aX Tryz.prog (Builtin.append_ #[T.cF,T.cF] T.cF #[.slice uo tQ vP,.slice (some (AA jR 0)) 1 1]) cQ λgS cW=>
  ∃(iQ:bV) (iy iz:Nat),gS=.slice iQ iy iz/\
  aH cW (AA bb 3) (.slice iQ iy iz) λdE=>Φ dE:=by
 have zg:=L.fr.1;refine aa.new λb2 h8 FH fJ f8=>⟨_,_,_,af (f8.get L.dF id) rfl,aa.ld fJ (IH h8 _ f8 λh9 z tz f9=>⟨_,_,_,_,_,_,_,_,rfl,af ((f8.tt f9).get L.dF id) rfl,aa.box λb3 vk LQ kT f10=>⟨af (((f8.tt f9).tt f10).get L.dF id) rfl,?_⟩⟩)⟩
 have Nj:=(f8.tt f9).tt f10;have z8:=f8.1;have z9:=f9.1;have z10:=f10.1;have WI:=L.own.frame Nj (λ_ _=>id);have qg: ∀y,aQ q y->y<g.size:=λy hy=>L.own.gn hy
 refine fR tI uI WI (ds:=mK z) (.inr ⟨_,rfl,aa.held kT⟩) rfl (zX z) (by omega) (by omega) λq' DO yj o11 _ f11 g11=>⟨_,_,_,rfl,?_⟩
 have z11:=f11.1;have b11:=f11.get (Nj.get L.dF id) (λhy=>by have:=L.ge _ hy;omega);refine bM b11 (by show 3<4;omega) λmF d1 d2 d3=> ?_
 have f12:Fr (λy=>y=bb) yj mF:=Fr.of_eq d2 (λc hc=>d3 c hc);have nq': ∀y,aQ q' y->g0.size<=y:=λy hy=>by
  rcases g11 y hy with a|a
  ·exact L.ge y a
  ·omega
 have ef:ys.flatMap mK++mK z=(ys++ [z]).flatMap mK:=by rw[dJ];simp
 refine hk mF (ys++ [z]) q' DO ⟨?_,?_,nq',?_,?_⟩ (by simp)
 ·rw[aF];exact d1
 ·rw[aF,<-ef];exact o11.frame f12 (λy hy e=>by have:=nq' y hy;omega)
 ·have t1:=(dH.on L.tr.lt Nj).frame f11 (λy hy AW=>hy.1.2 AW);have t2:=kU.mono (D':=λy=>g.size<=y/\y<vk.size) (λy hy=>by omega) (tz.toA.lt.on f10);have t2:=kU.frame f11 (λy hy AW=>by have:=qg y AW;omega) t2;have m1:=dH.mono (D':=λy=>g0.size<=y/\¬aQ q' y) (λy hy=>⟨hy.1.1,λAW=>by
   rcases g11 y AW with a|a
   ·exact hy.1.2 a
   ·have:=hy.2;omega⟩) t1
  have m2:=kU.mono (D':=λy=>g0.size<=y/\¬aQ q' y) (λy hy=>⟨by omega,λAW=>by
   rcases g11 y AW with a|a
   ·have:=qg y a;omega
   ·omega⟩) t2
  exact dH.frame f12 (λy hy e=>by omega) (m1.snoc m2)
 ·exact((L.fr.on Nj).trans f11 (S'':=λy=>y=bb) (λ_ _=>id) (λx hx hy=>by have:=L.ge x hy;omega)).trans f12 (λ_ _=>id) (λ_ _=>id)
theorem jw {n:Nat} (hk: ∀h',Fr No h h'->R (CV.agg ⟨0,n,⟨none,0, []⟩,none,0,0⟩) h'):Cl F.fI #[.U (n:Int)] h R:=
 fI.walk (aa.new λb h2 eb hb f2=>aa.ld hb (hk h2 f2))
theorem akP {D:Nat->Prop} {n:Nat} :Ef h D (num n) ⟨0,n,⟨none,0, []⟩,none,0,0⟩:=
 ⟨⟨rfl,rfl,rfl,⟨Row.nil,λe=>absurd rfl e,bh _⟩⟩, [],rfl,.nil rfl rfl rfl rfl,(λy ⟨a,e,_⟩=>by cases e),by show dH h _ [] [];unfold dH;trivial⟩
theorem zE {p:bV} {l c:Nat} (row:Row h p (bc bs)) (hl:l=bs.length) (hlen:bs.length<=1000000) (hk: ∀h' (v:BV),v.b=bs->v.ok h' (λy=>h.size<=y)->Fr No h h'->R (CV.agg ⟨2,0,v,none,0,0⟩) h'):Cl F.qm #[.slice p l c] h R:=by
 refine qm.walk (aa.box λb h1 eb hb f1=>vg.mz (row.frame f1 (λ_ _=>id)) hl (by omega) λp' c' h2 o2 f2 g2=>⟨_,_,_,rfl,aa.set (f2.get hb id) λh3 d1 d2 d3=>aa.ld d1 ?_⟩);have z1:=f1.1;have f3:Fr (λy=>y=b) h2 h3:=Fr.of_eq d2 (λc hc=>d3 c hc);refine hk h3 ⟨p',c',bs⟩ rfl (BV.wM (o2.frame f3 (λy hy e=>by have:=g2 y hy;have:=aI hb;omega)) (λy hy=>by have:=g2 y hy;omega)) ((f1.tt f2).fresh f3 (λy e=>by omega))
theorem wB {t:Tr} {l:List Tr} (h:t∈l):room t<=dZ l:=by
 induction l with
 |nil=>cases h
 |cons u l ih=>
  simp only[dZ];rcases bQ.1 h with rfl|h
  ·omega
  ·have:=ih h;omega
theorem Cpy.zero {g0:aj} {bb:Nat} {k n:Int} {v:BV} (hb:aa.at g0 bb k n v.p v.b.length v.c none 0 0):Cpy g0 g0 bb k n v [] [] none 0:=
 ⟨hb,.nil rfl rfl rfl rfl,(λy ⟨a,e,_⟩=>by cases e),by unfold dH;trivial,Fr.refl _ _⟩
theorem Lq: ∀(N:Nat) (t:Tr),deep t<=N->room t<=100000000->∀(h:aj) (D:Nat->Prop) (x:CV) (R:iI),kU h D t x->(∀h' z,Ef h' (λy=>h.size<=y) t z->Fr No h h'->R z.agg h')->Cl F.mZ #[x.agg] h R
 |0,.mk k n b l,hd,_,_,_,_,_,_,_=>by simp only[deep] at hd;omega
 |N+1,.mk k n b l,hd,hrm,h,D,x,R,tx,hk=>by
  simp only[deep] at hd;simp only[room] at hrm;unfold kU at tx;obtain⟨⟨rfl,rfl,rfl,Vy⟩,ys,LR,TS⟩:=tx;have lt:=TS.len;have l9:=kN l;have e0:=LR.len;refine mZ.walk (aa.box λbb h1 ebb AX f1=>aa.box λb1 h2 uh dx f2=>⟨_,_,_,af (f2.get AX id) rfl,vg.mz ((Vy.row.frame f1 (λ_ _=>id)).frame f2 (λ_ _=>id)) rfl (by omega) λp' c' h3 o3 f3 g3=>⟨_,_,_,rfl,bM (f3.get (f2.get AX id) id) (by show 2<4;omega) λh4 d1 d2 d3=>⟨_,_,_,af d1 rfl,bM d1 (by show 3<4;omega) λh5 e1 e2 e3=> ?_⟩⟩⟩);have zbb:=aI AX;have PU:=aI dx;have z1:=f1.1;have z2:=f2.1;have z3:=f3.1;have f4:Fr (λy=>y=bb) h3 h4:=Fr.of_eq d2 (λc hc=>d3 c hc);have f5:Fr (λy=>y=bb) h4 h5:=Fr.of_eq e2 (λc hc=>e3 c hc);have F3:=f1.tt (f2.tt f3);have F5:Fr No h h5:=(F3.fresh f4 (λy e=>by omega)).fresh f5 (λy e=>by omega);have FN:=f5.get (f4.get (f3.get dx id) (by omega)) (by omega);have o5:=(o3.frame f4 (λy hy e=>by have:=g3 y hy;omega)).frame f5 (λy hy e=>by have:=g3 y hy;omega);have C0:=Cpy.zero (g0:=h5) (bb:=bb) (k:=x.k) (n:=(x.n:Int)) (v:=⟨p',c',x.v.b⟩) e1;refine⟨λt g=> ∃(i:Nat) (zs:List CV) (q:bV) (cl:Nat),t=(i:Int)/\i<=ys.length/\Cpy h5 g bb x.k (x.n:Int) ⟨p',c',x.v.b⟩ (l.take i) zs q cl/\zs.length=i,λt _=>ys.length - t.toNat,⟨0, [],none,0,rfl,cp _,by rw[fN];exact C0,rfl⟩,?_⟩;rintro _ g ⟨i,zs,q,cl,rfl,hi,L,lz⟩;have Fg:Fr No h g:=F5.fresh L.fr (λy e=>by omega);by_cases nR:i<ys.length
  ·rw[jy];have hy:ys[i]? =some ys[i]:=au nR;generalize ys[i]=y at hy;obtain⟨t,ht,ty⟩:=TS.get hy;have tm:=bt ht;have d1:=Dm tm;have r1:=wB tm;obtain⟨a,ea⟩:=LR.row.some (by intro e;have:=bp List.length e;rw[gW mK 4 jS,bD] at this;omega);rw[ea];have Ms:=LR.row.frame Fg (λ_ _=>id);rw[ea] at Ms;refine⟨⟨by omega,by omega⟩,aB.2 (aa.TL (by rw[aL];exact Ms.lu jS hy) (SK (t:=t) L (by omega) (by omega) (λg1 R1 fg1 QL=>Lq N t (by omega) (by omega) g1 D y R1 (ty.on (Fg.tt fg1)) QL) λg' zs' q' DO L' lz'=> ?_))⟩;rw[bL (n:=(i:Int)+1) (by omega) (by omega)];refine⟨⟨i+1,zs',q',DO,by omega,by omega,?_,by omega⟩,by show ys.length - Int.toNat ((i:Int)+1)<ys.length - Int.toNat (i:Int);omega⟩;rw[bZ,ht];exact L'
  ·rw[ai (λe=>nR (by have:=of_decide_eq_true e;omega))];rw[bT (show l.length<=i by omega)] at L;refine aa.ld L.dF (aa.set (L.fr.get FN (by omega)) λGQ k1 k2 k3=>aa.ld k1 ?_);have f13:Fr (λy=>y=b1) g GQ:=Fr.of_eq k2 (λc hc=>k3 c hc);have og:=o5.frame L.fr (λy hy e=>by have:=g3 y hy;omega);refine hk GQ ⟨x.k,x.n,⟨p',c',x.v.b⟩,q,zs.length,cl⟩ ⟨⟨rfl,rfl,rfl,BV.wM (og.frame f13 (λy hy e=>by have:=g3 y hy;omega)) (λy hy=>by have:=g3 y hy;omega)⟩,zs,rfl,L.own.frame f13 (λy hy e=>by have:=L.ge y hy;have:=f4.1;have:=f5.1;omega),(λy hy=>by have:=L.ge y hy;have:=f4.1;have:=f5.1;omega),?_⟩ (Fg.fresh f13 (λy e=>by omega));exact dH.mono (λy hy=>⟨by have:=hy.1;have:=f4.1;have:=f5.1;omega,hy.2⟩) (dH.frame f13 (λy hy e=>by have:=hy.1;have:=f4.1;have:=f5.1;omega) L.tr)
theorem Dv {D:Nat->Prop} {t:Tr} {x:CV} (tx:kU h D t x) (hr:room t<=100000000) (hk: ∀h' z,Ef h' (λy=>h.size<=y) t z->Fr No h h'->R z.agg h'):Cl F.mZ #[x.agg] h R:=
 Lq (deep t) t (bh _) hr h D x R tx hk
theorem rV {D:Nat->Prop} {ts:List Tr} {ys:List CV} {q:bV} {cl:Nat} (LR:xE h D q l cl ys) (TS:dH h D ts ys) (hr:dZ ts<=100000000) (hk: ∀h' z,Ef h' (λy=>h.size<=y) (DF ts) z->Fr No h h'->R z.agg h'):Cl F.fO #[.slice q l cl] h R:=by
 have lt:=TS.len;have l9:=kN ts;have e0:=LR.len;refine fO.walk (aa.box λb1 h1 uh dx f1=>aa.new λbb h5 ebb AX f2=> ?_);have zbb:=aI AX;have PU:=aI dx;have z1:=f1.1;have z2:=f2.1;have F5:=f1.tt f2;have FN:=f2.get dx id;have C0:=Cpy.zero (g0:=h5) (bb:=bb) (k:=4) (n:=0) (v:=⟨none,0, []⟩) AX;refine⟨λt g=> ∃(i:Nat) (zs:List CV) (q:bV) (cl:Nat),t=(i:Int)/\i<=ys.length/\Cpy h5 g bb 4 0 ⟨none,0, []⟩ (ts.take i) zs q cl/\zs.length=i,λt _=>ys.length - t.toNat,⟨0, [],none,0,rfl,cp _,by rw[fN];exact C0,rfl⟩,?_⟩;rintro _ g ⟨i,zs,q2,cl2,rfl,hi,L,lz⟩;have Fg:Fr No h g:=F5.fresh L.fr (λy e=>by omega);by_cases nR:i<ys.length
 ·rw[jy];have hy:ys[i]? =some ys[i]:=au nR;generalize ys[i]=y at hy;obtain⟨t,ht,ty⟩:=TS.get hy;have r1:=wB (bt ht);obtain⟨a,rfl⟩:=LR.row.some (by intro e;have:=bp List.length e;rw[gW mK 4 jS,bD] at this;omega);have Ms:=LR.row.frame Fg (λ_ _=>id);refine⟨⟨by omega,by omega⟩,aB.2 (aa.TL (by rw[aL];exact Ms.lu jS hy) (SK (t:=t) L (by omega) (by omega) (λg1 R1 fg1 QL=>Dv (ty.on (Fg.tt fg1)) (by omega) QL) λg' zs' q' DO L' lz'=> ?_))⟩;rw[bL (n:=(i:Int)+1) (by omega) (by omega)];refine⟨⟨i+1,zs',q',DO,by omega,by omega,?_,by omega⟩,by show ys.length - Int.toNat ((i:Int)+1)<ys.length - Int.toNat (i:Int);omega⟩;rw[bZ,ht];exact L'
 ·rw[ai (λe=>nR (by have:=of_decide_eq_true e;omega))];rw[bT (show ts.length<=i by omega)] at L;refine aa.ld L.dF (aa.set (L.fr.get FN (by omega)) λGQ k1 k2 k3=>aa.ld k1 ?_);have f13:Fr (λy=>y=b1) g GQ:=Fr.of_eq k2 (λc hc=>k3 c hc);refine hk GQ ⟨4,0,⟨none,0, []⟩,q2,zs.length,cl2⟩ ⟨⟨rfl,rfl,rfl,⟨Row.nil,λe=>absurd rfl e,bh _⟩⟩,zs,rfl,L.own.frame f13 (λy hy e=>by have:=L.ge y hy;omega),(λy hy=>by have:=L.ge y hy;omega),?_⟩ (Fg.fresh f13 (λy e=>by omega));exact dH.mono (λy hy=>⟨by have:=hy.1;omega,hy.2⟩) (dH.frame f13 (λy hy e=>by have:=hy.1;omega) L.tr)
end Cb
end
section
namespace Cb
variable {V:List UInt8→Bool} {h h0 h':aj} {R:iI} {D:Nat→Prop}
theorem ad3 {α:Type} (b:List α):(((b.length:Int))==0)=b.isEmpty:=by
 cases b with
 |nil=>rfl
 |cons a b=>simp only[bj,List.isEmpty_cons,beq_eq_false_iff_ne,iq];omega
theorem Vz {t:Tr} {x:CV} (U:xQ V h0) (u:Fr No h0 h) (tx:kU h D t x) (hr:room t<=1000000) (hk: ∀h',Fr No h h'->R (.bool (abS V t.k t.n t.b t.l)) h'):Cl F.Cr #[x.agg] h R:=by
 cases t with
 |mk k n b l=>
  simp only[room] at hr;unfold kU at tx;obtain⟨⟨rfl,rfl,rfl,Vy⟩,ys,LR,TS⟩:=tx;have ll:x.ll=l.length:=by rw[LR.len,TS.len]
  have hk: ∀h' o,o=abS V x.k x.n x.v.b l->Fr No h h'->R (.bool o) h':=λh' o e f=>by rw[e];exact hk h' f
  unfold abS at hk;have nz:((x.n:Int)==0)=decide (x.n=0):=by by_cases e:x.n=0<;>simp[e]
  refine Cr.walk (aa.box λbb h1 ebb AX f1=>⟨_,af AX rfl,?_⟩);by_cases k0:x.k=0
  ·rw[ag (by simpa using k0)];simp only[k0,bA] at hk;refine⟨_,_,_,af AX rfl,?_⟩;rw[ad3];by_cases e:x.v.b.isEmpty=true
   ·rw[ag e];refine⟨_,_,_,af AX rfl,hk h1 _ ?_ f1⟩;rw[ll,ad3,e];rfl
   ·rw[ai e];refine hk h1 _ ?_ f1;rw[show x.v.b.isEmpty=false by cases hq:x.v.b.isEmpty with|false=>rfl|true=>exact absurd hq e];rfl
  rw[ai (by simpa using k0)];simp only[k0,aU] at hk;by_cases k2:x.k=2
  ·rw[ag (by simpa using k2)];simp only[k2,bA] at hk;refine⟨_,af AX rfl,?_⟩;rw[nz];by_cases e:x.n=0
   ·rw[ag (ay e)];refine⟨_,_,_,af AX rfl,hk h1 _ ?_ f1⟩;rw[ll,ad3,ay e];rfl
   ·rw[ai (by rw[decide_eq_false e];decide)];refine hk h1 _ ?_ f1;rw[decide_eq_false e];rfl
  rw[ai (by simpa using k2)];simp only[k2,aU] at hk;by_cases k3:x.k=3
  ·rw[ag (by simpa using k3)];simp only[k3,bA] at hk;refine⟨_,af AX rfl,?_⟩;rw[nz];by_cases e:x.n=0
   ·rw[ag (ay e)];refine⟨_,_,_,af AX rfl,?_⟩;rw[ll,ad3];by_cases e2:l.isEmpty=true
    ·rw[ag e2];exact⟨_,_,_,af AX rfl,U h1 _ _ x.v.b _ (u.tt f1) (Vy.row.frame f1 (λ_ _=>id)) (by omega) Vy.cap λg fg=>⟨_,rfl,hk g _ (by rw[ay e,e2];rfl) (f1.tt fg)⟩⟩
    ·rw[ai e2];refine hk h1 _ ?_ f1;rw[show l.isEmpty=false by cases hq:l.isEmpty with|false=>rfl|true=>exact absurd hq e2,Bool.and_false];rfl
   ·rw[ai (by rw[decide_eq_false e];decide)];refine hk h1 _ ?_ f1;rw[decide_eq_false e];rfl
  rw[ai (by simpa using k3)];simp only[k3,aU] at hk;by_cases k4:x.k=4
  ·rw[ag (by simpa using k4)];simp only[k4,bA] at hk;refine⟨_,af AX rfl,?_⟩;rw[nz];by_cases e:x.n=0
   ·rw[ag (ay e)];refine⟨_,_,_,af AX rfl,hk h1 _ ?_ f1⟩;rw[ad3,ay e];rfl
   ·rw[ai (by rw[decide_eq_false e];decide)];refine hk h1 _ ?_ f1;rw[decide_eq_false e];rfl
  rw[ai (by simpa using k4)];simp only[k4,aU] at hk;exact hk h1 _ rfl f1
theorem SL (U:xQ V h0): ∀(N:Nat) (t:Tr),deep t<=N->room t<=1000000->∀(h:aj) (D:Nat->Prop) (x:CV) (d left:Int) (R:iI),Fr No h0 h->kU h D t x->0<=d->d<=7->left<=1000->
  (∀h',Fr No h h'->R (.I (x4 V t d left)) h')->Cl F.wy #[x.agg,.I d,.I left] h R
 |0,.mk k n b l,hd,_,_,_,_,_,_,_,_,_,_,_,_,_=>by simp only[deep] at hd;omega
 |N+1,.mk k n b l,hd,hrm,h,D,x,d,left,R,u,tx,d0,d7,hl,hk=>by
  have tx':=tx;simp only[deep] at hd;have aqX:=hrm;simp only[room] at hrm;unfold kU at tx;obtain⟨⟨rfl,rfl,rfl,Vy⟩,ys,LR,TS⟩:=tx;have lt:=TS.len;have l9:=kN l;have e0:=LR.len;refine wy.walk (aa.box λbb h1 ebb AX f1=>aK.of λJ hJ=> ?_);have bad: ∀g,Fr No h g->x4 V (.mk x.k x.n x.v.b l) d left= -1->J true g:=λg fg hw=>by
   subst hJ;dsimp only;rw[ag rfl];have:=hk g fg;rw[hw] at this;exact this
  by_cases c1:d>6
  ·rw[ag (ay c1)];exact bad h1 f1 (by unfold x4;rw[ag (.inl c1)])
  rw[ai (λe=>c1 (of_decide_eq_true e))];by_cases c2:left<1
  ·rw[ag (ay c2)];exact bad h1 f1 (by unfold x4;rw[ag (.inr c2)])
  rw[ai (λe=>c2 (of_decide_eq_true e))];have c12: ¬(d>6\/left<1):=λe=>e.elim c1 c2
  unfold x4 at hk bad;rw[ai c12] at hk bad;refine aa.ld AX (Vz U (u.tt f1) (tx'.on f1) aqX λh2 f2=>⟨_,rfl,?_⟩);simp only[Tr.k,Tr.n,Tr.b,Tr.l];generalize abS V x.k x.n x.v.b l=o at hk bad⊢;cases o with
  |false=>exact bad h2 (f1.tt f2) (by rw[dM])
  |true=>
   rw[ag rfl] at hk;subst hJ;rw[dM];have fJ:=f2.get AX id;refine⟨_,_,_,af fJ rfl,?_⟩;rw[bL (n:=left - 1) (by omega) (by omega)];refine⟨λlf t g=> ∃i:Nat,t=(i:Int)/\i<=ys.length/\Fr No h g/\lf<=1000/\0<=lf/\wN V (l.drop i) (d+1) lf=wN V l (d+1) (left - 1),λ_ t _=>ys.length - t.toNat,⟨0,rfl,cp _,f1.tt f2,by omega,by omega,rfl⟩,?_⟩;rintro lf _ g ⟨i,rfl,hi,fg,lf1,lf0,hw⟩;by_cases nR:i<ys.length
   ·rw[jy];have hy:ys[i]? =some ys[i]:=au nR;generalize ys[i]=y at hy;obtain⟨t,ht,ty⟩:=TS.get hy;have tm:=bt ht;have dm:=Dm tm;have rm:=wB tm;have ed:l.drop i=t::l.drop (i+1):=by
     obtain⟨q1,q2⟩:=aG.1 ht;rw[db q1,q2]
    rw[ed] at hw;obtain⟨a,ea⟩:=LR.row.some (by intro e;have:=bp List.length e;rw[gW mK 4 jS,bD] at this;omega);rw[ea];have Ms:=LR.row.frame fg (λ_ _=>id);rw[ea] at Ms;refine⟨⟨by omega,by omega⟩,aB.2 (aa.TL (by rw[aL];exact Ms.lu jS hy) (aa.new λb1 h5 uh dx f5=>aa.ld dx ?_))⟩;rw[bL (n:=d+1) (by omega) (by omega)];refine SL U N t (by omega) (by omega) h5 D y (d+1) lf _ (u.tt (fg.tt f5)) (ty.on (fg.tt f5)) (by omega) (by omega) lf1 λh6 f6=>⟨_,rfl,?_⟩
    have F6:=fg.tt (f5.tt f6);have ql:=Rk (V:=V) (t:=t) (d:=d+1) (left:=lf);conv at hw=>lhs;unfold wN
    generalize x4 V t (d+1) lf=q at hw ql⊢;by_cases q0:q<0
    ·rw[ag (ay q0)];rw[ag q0] at hw;have:=hk h6 F6;rw[<-hw] at this;exact this
    ·rw[ai (λe=>q0 (of_decide_eq_true e)),bL (n:=(i:Int)+1) (by omega) (by omega)];rw[ai q0] at hw;exact⟨⟨i+1,by omega,by omega,F6,by omega,by omega,hw⟩,by show ys.length - Int.toNat ((i:Int)+1)<ys.length - Int.toNat (i:Int);omega⟩
   ·rw[ai (λe=>nR (by have:=of_decide_eq_true e;omega))];rw[fM (show l.length<=i by omega)] at hw;have:=hk g fg;rw[<-hw] at this;unfold wN at this;exact this
theorem ic {t:Tr} {x:CV} (U:xQ V h0) (u:Fr No h0 h) (tx:kU h D t x) (hr:room t<=1000000) (hk: ∀h',Fr No h h'->R (.bool (lB V t)) h'):Cl F.oN #[x.agg] h R:=
 oN.walk (aa.box λbb h1 ebb AX f1=>aa.ld AX (SL U (deep t) t (bh _) hr h1 D x 1 256 _ (u.tt f1) (tx.on f1) (by decide) (by decide) (by decide) λh2 f2=>⟨_,rfl,hk h2 (f1.tt f2)⟩))
end Cb
end
section
namespace Cb
variable {h h':aj} {R:iI} {D D':Nat→Prop}
theorem AY {p q:bV} {n m c d:Nat} {a b:List UInt8} (ra:Row h p (bc a)) (rb:Row h q (bc b)) (hn:n=a.length) (hm:m=b.length) (hk:R (.bool (decide (a=b))) h):Cl F.kf #[.slice p n c,.slice q m d] h R:=by
 refine kf.walk ⟨_,vg.conv ra hn,_,vg.conv rb hm,?_⟩;rw[E0,E0];have:(a==b)=decide (a=b):=by by_cases e:a=b<;>simp[e]
 rw[this];exact hk
theorem SM: ∀(N:Nat) (t s:Tr),deep t<=N->room t<=100000000->∀(h:aj) (D D':Nat->Prop) (x y:CV) (R:iI),kU h D t x->kU h D' s y->(∀h',Fr No h h'->R (.bool (yW t s)) h')->Cl F.iB #[x.agg,y.agg] h R
 |0,.mk k n b l,_,hd,_,_,_,_,_,_,_,_,_,_=>by simp only[deep] at hd;omega
 |N+1,.mk k n b l,.mk k' n' b' l',hd,hrm,h,D,D',x,y,R,tx,ty,hk=>by
  simp only[deep] at hd;simp only[room] at hrm;unfold kU at tx ty;obtain⟨⟨rfl,rfl,rfl,okx⟩,xs,LX,TX⟩:=tx;obtain⟨⟨rfl,rfl,rfl,oky⟩,ys,LY,TY⟩:=ty;have lx:=TX.len;have ly:=TY.len;have l9:=kN l;have ex:=LX.len;have ey:=LY.len;refine iB.walk (aa.box λb1 h1 uh dx f1=>aa.box λb2 h2 FH fJ f2=> ?_);have F2:=f1.tt f2;have rT:=f2.get dx id;have no: ∀g,Fr No h g->yW (.mk x.k x.n x.v.b l) (.mk y.k y.n y.v.b l')=false->R (.bool false) g:=λg fg e=>by have:=hk g fg;rw[e] at this;exact this
  refine⟨_,af rT rfl,_,af fJ rfl,?_⟩;by_cases c1:x.k=y.k
  case neg=>
   rw[ai (by simpa using c1)];exact no h2 F2 (by unfold yW;rw[decide_eq_false c1];rfl)
  rw[ag (by simpa using c1)];refine⟨_,af rT rfl,_,af fJ rfl,?_⟩;by_cases c2:x.n=y.n
  case neg=>
   rw[ai (λe=>c2 (by have:=eq_of_beq e;omega))];exact no h2 F2 (by unfold yW;rw[decide_eq_false c2,Bool.and_false];rfl)
  rw[ag (by rw[c2];simp)];refine⟨_,_,_,af rT rfl,_,_,_,af fJ rfl,AY (okx.row.frame F2 (λ_ _=>id)) (oky.row.frame F2 (λ_ _=>id)) rfl rfl ⟨_,rfl,?_⟩⟩;by_cases c3:x.v.b=y.v.b
  case neg=>
   rw[ai (by simpa using c3)];exact no h2 F2 (by unfold yW;rw[decide_eq_false c3,Bool.and_false];rfl)
  rw[ag (by simpa using c3)];have e0:yW (.mk x.k x.n x.v.b l) (.mk y.k y.n y.v.b l')=DG l l':=by unfold yW;rw[ay c1,ay c2,ay c3];simp
  rw[e0] at hk;refine⟨_,_,_,af rT rfl,_,_,_,af fJ rfl,?_⟩;rw[ex,ey];have done: ∀g,Fr No h g->∀q,q=DG l l'->∃t29:Bool,Value.bool q=.bool t29/\R (.bool t29) g:=λg fg q e=>⟨q,rfl,by rw[e];exact hk g fg⟩
  refine dj.same.walk ?_;by_cases cl:xs.length=ys.length
  case neg=>
   rw[ag (by simp only[fL,iq];omega)];refine done h2 F2 false ?_;cases hq:DG l l' with
   |false=>rfl
   |true=>exact absurd (bp List.length ((JO l l').1 hq)) (by omega)
  rw[ai (by simp only[fL,iq];omega)];refine⟨λt g=> ∃i:Nat,t=(i:Int)/\i<=xs.length/\Fr No h g/\DG l l'=DG (l.drop i) (l'.drop i),λt _=>xs.length - t.toNat,⟨0,rfl,cp _,F2,rfl⟩,?_⟩;rintro _ g ⟨i,rfl,hi,fg,he⟩;by_cases nR:i<xs.length
  ·rw[jy];have hx:xs[i]? =some xs[i]:=au nR;have hy:ys[i]? =some (ys[i]'(by omega)):=au _;generalize xs[i]=u at hx;generalize ys[i]'(by omega)=v at hy;obtain⟨t,ht,tu⟩:=TX.get hx;obtain⟨s,hs,tv⟩:=TY.get hy;have tm:=bt ht;have dm:=Dm tm;have rm:=wB tm;have ed:l.drop i=t::l.drop (i+1):=by
    obtain⟨q1,q2⟩:=aG.1 ht;rw[db q1,q2]
   have ed':l'.drop i=s::l'.drop (i+1):=by
    obtain⟨q1,q2⟩:=aG.1 hs;rw[db q1,q2]
   rw[ed,ed'] at he;have he:DG l l'=(yW t s && DG (l.drop (i+1)) (l'.drop (i+1))):=by rw[he];simp only[DG]
   obtain⟨a,ea⟩:=LX.row.some (by intro e;have:=bp List.length e;rw[gW mK 4 jS,bD] at this;omega);obtain⟨a',ea'⟩:=LY.row.some (by intro e;have:=bp List.length e;rw[gW mK 4 jS,bD] at this;omega);rw[ea,ea'];have rx:=LX.row;have ry:=LY.row;rw[ea] at rx;rw[ea'] at ry;refine⟨⟨by omega,by omega⟩,aB.2 (aa.TL (by rw[aL];exact(rx.frame fg (λ_ _=>id)).lu jS hx) (aa.new λb3 h3 LQ kT f3=>⟨⟨by omega,by omega⟩,aB.2 (aa.TL (by rw[aL];exact(ry.frame (fg.tt f3) (λ_ _=>id)).lu jS hy) (aa.new λb4 h5 VA mb f4=>aa.ld (f4.get kT id) (aa.ld mb ?_)))⟩))⟩;have F5:=fg.tt (f3.tt f4);refine SM N t s (by omega) (by omega) h5 D D' u v _ (tu.on F5) (tv.on F5) λh6 f6=>⟨_,rfl,?_⟩
   cases q:yW t s with
   |false=>
    rw[jy];exact done h6 (F5.tt f6) false (by rw[he,q];rfl)
   |true=>
    rw[dM,bL (n:=(i:Int)+1) (by omega) (by omega)];exact⟨⟨i+1,by omega,by omega,F5.tt f6,by rw[he,q];rfl⟩,by show xs.length - Int.toNat ((i:Int)+1)<xs.length - Int.toNat (i:Int);omega⟩
  ·rw[ai (λe=>nR (by have:=of_decide_eq_true e;omega))];rw[fM (show l.length<=i by omega),fM (show l'.length<=i by omega)] at he;exact done g fg true (by rw[he];simp only[DG])
theorem pW {t s:Tr} {x y:CV} (tx:kU h D t x) (ty:kU h D' s y) (hr:room t<=100000000) (hk: ∀h',Fr No h h'->R (.bool (yW t s)) h'):Cl F.iB #[x.agg,y.agg] h R:=
 SM (deep t) t s (bh _) hr h D D' x y R tx ty hk
end Cb
end
section
namespace Cb
variable {h h':aj} {R:iI}
theorem ad4 (n:Nat):IntKind.wrap .u8 (n:Int)=((UInt8.ofNat n).toNat:Int):=by
 have e:IntKind.wrap .u8 (n:Int)=(n:Int)%256:=by simp[IntKind.wrap,IntKind.bits,IntKind.signed]
 rw[e,gV];omega
theorem aa4 {m n:Int} (hk: ∀h',Fr No h h'->R (.bool (decide (0<=m/\m<=7))) h'):Cl F.w5 #[.agg #[.I m,.U n,.bool false]] h R:=by
 refine w5.walk (bg.box λb h1 eb hb f1=>⟨_,af hb rfl,?_⟩);rw[dM];have hk:=hk h1 f1;refine⟨_,af hb rfl,?_⟩;by_cases c1:m≥0
 ·rw[ag (ay c1)];refine⟨_,af hb rfl,?_⟩;rw[show decide (0<=m/\m<=7)=decide (m<=7) by simp[show 0<=m from c1]] at hk;exact hk
 ·rw[ai (λe=>c1 (of_decide_eq_true e))];rw[decide_eq_false (λe=>c1 e.1)] at hk;exact hk
theorem NY {n:Nat} (hk:R (.I (Rl n:Int)) h):Cl F.sI #[.U (n:Int)] h R:=by
 obtain⟨z,hz⟩: ∃z:Int,z=(n:Int):=⟨_,rfl⟩;rw[<-hz];refine sI.walk ?_;unfold Rl at hk
 repeat' split
 all_goals simp only[bf] at*
 ·rw[jy] at hk;exact hk
 ·rw[dM,jy] at hk;exact hk
 ·rw[dM,dM,jy] at hk;exact hk
 ·rw[dM,dM,dM,jy] at hk;exact hk
 ·rw[dM,dM,dM,dM] at hk;exact hk
theorem ahh {n:Nat} (hk:R (.int .u8 (Iz n:Int)) h):Cl F.zj #[.U (n:Int)] h R:=by
 refine zj.walk (NY ⟨_,rfl,?_⟩);unfold Iz at hk;unfold Rl;by_cases c1:n<24
 ·rw[ag c1] at hk⊢;rw[dM,dM,dM,dM];rw[ad4,gV,jl (by omega)];exact hk
 rw[ai c1] at hk⊢;by_cases c2:n<256
 ·rw[ag c2] at hk⊢;rw[jy];exact hk
 rw[ai c2] at hk⊢;by_cases c3:n<65536
 ·rw[ag c3] at hk⊢;rw[dM,jy];exact hk
 rw[ai c3] at hk⊢;by_cases c4:n<4294967296
 ·rw[ag c4] at hk⊢;rw[dM,dM,jy];exact hk
 rw[ai c4] at hk⊢;rw[dM,dM,dM,jy];exact hk
theorem ahi (n:Nat):Iz n<32:=by unfold Iz;repeat (first|omega|split)
theorem akQ: ∀(m:Fin 8) (z:Fin 32),IntKind.wrap .u8 ((BitVec.ofInt (IntKind.bits .u8) (IntKind.wrap .u8 ((IntKind.wrap .u8 (m.val:Int))*2 ^ min (Int.toNat 5) (IntKind.bits .u8)))|||BitVec.ofInt (IntKind.bits .u8) (z.val:Int)).toNat:Int)=((32*m.val+z.val:Nat):Int):=by decide
theorem ad5 (n k:Nat):Int.fdiv (n:Int) (2 ^ k)=((n/2 ^ k:Nat):Int):=by
 rw[Int.fdiv_eq_ediv_of_nonneg _ (by exact_mod_cast cp (2 ^ k))]
 exact_mod_cast rfl
theorem aa5 {m:Int} {n:Nat} (hk: ∀h' (p':bV) (c':Nat) (e:Int),Row h' p' (bc (hdB m n))->(hdB m n).length<=c'->Fr No h h'->R (.tuple #[.slice p' (hdB m n).length c',.I e]) h'):Cl F.wZ #[.agg #[.I m,.U (n:Int),.bool false]] h R:=by
 refine wZ.walk (bg.box λb h1 eb hb f1=>bg.ld hb (aa4 λh2 f2=>⟨_,rfl,?_⟩));by_cases cm:0<=m/\m<=7
 case neg=>
  rw[decide_eq_false cm,jy];have e0:hdB m n= []:=by unfold hdB;rw[ai cm]
  rw[e0] at hk;exact hk h2 none 0 3 Row.nil (by simp) (f1.tt f2)
 rw[ay cm,dM];obtain⟨m,rfl⟩:=mH cm.1;have fJ:=f2.get hb id;refine⟨_,af fJ rfl,?_⟩;rw[dM];refine⟨_,af fJ rfl,_,af fJ rfl,ahh ⟨_,rfl,af fJ rfl,cY ?_⟩⟩;have F2:=f1.tt f2;have i32:=ahi n;rw[akQ ⟨m,by omega⟩ ⟨Iz n,i32⟩];rw[show(32*(⟨m,by omega⟩:Fin 8).val+(⟨Iz n,i32⟩:Fin 32).val)=32*m+Iz n from rfl];have ew:((32*m+Iz n:Nat):Int)=((UInt8.ofNat (32*m+Iz n)).toNat:Int):=by rw[gV,jl (by omega)]
 rw[ew];have e0:hdB (m:Int) n=UInt8.ofNat (32*m+Iz n)::beB (Rl n) n:=by unfold hdB;rw[ag cm,aL]
 rw[e0] at hk;generalize UInt8.ofNat (32*m+Iz n)=w at hk⊢;have f3:Fr No h2 (h2.push (.cells #[.int .u8 (w.toNat:Int)] T.uint8)):=Fr.push _ _;have o3:iS (h2.push (.cells #[.int .u8 (w.toNat:Int)] T.uint8)) (some (AA h2.size 0)) 1 1 1 (bc [w]):=.row h2.size 0 #[.int .u8 (w.toNat:Int)] T.uint8 rfl cA (by omega) (by simp) rfl (λj v hj=>by
  cases j with
  |zero=>simpa[bc] using hj
  |succ j=>simp[bc] at hj)
 generalize h2.push (.cells #[.int .u8 (w.toNat:Int)] T.uint8)=h5 at f3 o3⊢;have z1:=f1.1;have z2:=f2.1;have zb:=aI hb;refine⟨af (f3.get fJ id) rfl,_,af (f3.get fJ id) rfl,NY ⟨_,rfl,?_⟩⟩;have k8:=V6 n;generalize Rl n=k at hk k8⊢;refine⟨λp' l' c' t g=> ∃(i:Nat),t=(i:Int)/\i<=k/\l'=1+i/\iS g p' (1+i) c' 1 (bc (w::(beB k n).take i))/\(∀y,aQ p' y->h2.size<=y)/\Fr No h2 g,λ_ _ _ t _=>k - t.toNat,⟨0,rfl,cp _,rfl,by rw[fN];exact o3,(λy ⟨a,e,e'⟩=>by cases e;rw[<-e'];exact bh _),f3⟩,?_⟩;rintro p' _ c' _ g ⟨i,rfl,hi,rfl,ow,nw,fg⟩;by_cases nR:i<k
 ·rw[jy];refine⟨_,af (fg.get fJ id) rfl,?_⟩;rw[bL (n:=(k:Int) - 1) (by omega) (by omega),bL (n:=(k:Int) - 1 - (i:Int)) (by omega) (by omega),bL (n:=8*((k:Int) - 1 - (i:Int))) (by omega) (by omega),dM];have e8:min (Int.toNat (8*((k:Int) - 1 - (i:Int)))) (IntKind.bits .u64)=8*(k - 1 - i):=by
   rw[show IntKind.bits .u64=64 from rfl];omega
  rw[e8,ad5,ad4];refine qb vg.tU vg.uU ow rfl (λv hv=>by simp at hv;rw[hv];rfl) (by omega) (by omega) λp2 c2 h9 o9 f9 g9=>⟨_,_,_,rfl,?_⟩
  rw[bL (n:=(i:Int)+1) (by omega) (by omega)];refine⟨⟨i+1,by omega,by omega,by omega,?_,λy hy=> ?_,fg.fresh f9 nw⟩,by show k - Int.toNat ((i:Int)+1)<k - Int.toNat (i:Int);omega⟩
  ·have et:(beB k n).take (i+1)=(beB k n).take i++ [UInt8.ofNat (n/2 ^ (8*(k - 1 - i)))]:=by
    rw[bZ];unfold beB;rw[aO,List.getElem?_range nR];rfl
   rw[et,<-fw,sw];exact o9
  ·rcases g9 y hy with a|a
   ·exact nw y a
   ·have:=fg.1;omega
 ·rw[ai (λe=>nR (by have:=of_decide_eq_true e;omega))];obtain rfl:i=k:=by omega
  rw[bT (by rw[I8];omega)] at ow;have:=hk g p' c' 0 ow.qa (by rw[bj,I8,Nat.add_comm];exact ow.le) (F2.tt fg);rw[bj,I8,Nat.add_comm] at this;exact this
theorem VB {l:List Tr} {i:Nat} {t:Tr} (ht:l[i]? =some t):dZ (l.take (i+1))=dZ (l.take i)+room t:=by
 rw[bZ,ht,mQ];show _+dZ [t]=_;simp[dZ]
theorem yS (l:List Tr) (i:Nat):dZ (l.take i)<=dZ l:=by
 conv=>rhs;rw[<-List.take_append_drop i l]
 rw[mQ];omega
theorem Yf: ∀(N:Nat) (t:Tr),deep t<=N->∀(h:aj) (D:Nat->Prop) (x:CV) (p:bV) (l c:Nat) (a:List UInt8) (R:iI),l=a.length->a.length+room t<=20000000->iS h p a.length c 1 (bc a)->kU h D t x->(∀y,aQ p y->¬D y)->
  (∀h' p' c',iS h' p' (a++enc t).length c' 1 (bc (a++enc t))->Fr (λy=>aQ p y) h h'->(∀y,aQ p' y->aQ p y\/h.size<=y)->R (.slice p' (a++enc t).length c') h')->Cl F.uY #[.slice p l c,x.agg] h R
 |0,.mk k n b l,hd,_,_,_,_,_,_,_,_,_,_,_,_,_,_=>by simp only[deep] at hd;omega
 |N+1,.mk k n b l,hd,h,D,x,p,_,c,a,R,rfl,ha,ow,tx,hD,hk=>by
  simp only[deep] at hd;simp only[room] at ha;unfold enc at hk;have tx:=tx.lt;unfold kU at tx;obtain⟨⟨rfl,rfl,rfl,Vy⟩,ys,LR,TS⟩:=tx;have lt:=TS.len;have l9:=kN l;have e0:=LR.len;refine uY.walk (aa.box λbb h1 ebb AX f1=>⟨_,af AX rfl,_,af AX rfl,aK.of λJ hJ=> ?_⟩);have zbb:=aI AX;have z1:=f1.1;have np: ∀y,aQ p y->y<h.size:=λy hy=>ow.gn hy
  have done:J (HG x.k x.n x.v.b l:Int) h1:=by
   subst hJ;refine⟨_,af AX rfl,aa5 λh3 q3 c3 e3 aow aqY f3=>⟨_,_,_,_,rfl,_,_,_,af (f3.get AX id) rfl,?_⟩⟩;have lb3:=V7 x.k (HG x.k x.n x.v.b l);generalize hdB x.k (HG x.k x.n x.v.b l)=b3 at aow aqY lb3 hk⊢;have z3:=f3.1;have F3:=f1.tt f3;refine fR vg.tU vg.uU (ow.frame F3 (λ_ _=>id)) aow (by rw[sV,cO]) (Ch b3) (by omega) (by omega) λp4 c4 h4 o4 _ f4 g4=>⟨_,_,_,rfl,af (f4.get (f3.get AX id) (λhy=>by have:=np _ hy;omega)) rfl,?_⟩
   have z4:=f4.1;have n4: ∀y,aQ p4 y->aQ p y\/h3.size<=y:=g4;have aqZ:Row h4 x.v.p (bc x.v.b):=by
    by_cases e:x.v.b= []
    ·rw[e];exact Row.nil
    ·exact((Vy.row.frame F3 (λ_ _=>id)).frame f4 (λad ea hy=>hD _ hy (Vy.own e _ ⟨ad,ea,rfl⟩).1))
   refine fR vg.tU vg.uU o4 aqZ (by rw[sV,cO]) (Ch x.v.b) (by omega) (by omega) λp5 c5 h5 o5 _ f5 g5=> ?_
   have n4b: ¬aQ p4 bb:=λhy=>by
    rcases n4 _ hy with q|q
    ·have:=np _ q;omega
    ·omega
   have DK:=f5.get (f4.get (f3.get AX id) (λhy=>by have:=np _ hy;omega)) n4b;refine⟨_,_,_,rfl,_,_,_,af DK rfl,?_⟩;have z5:=f5.1;rw[<-sw,<-sw,dV] at o5;have Fp:Fr (λy=>aQ p y) h h5:=(Fr.no F3 f4).trans f5 (λ_ _=>id) (λy hy q=>by
    rcases n4 y q with q|q
    ·exact q
    ·omega)
   have n5: ∀y,aQ p5 y->aQ p y\/h.size<=y:=λy hy=>by
    rcases g5 y hy with q|q
    ·rcases n4 y q with q|q
     ·exact .inl q
     ·exact .inr (by omega)
    ·exact .inr (by omega)
   have el:a.length+b3.length+x.v.b.length=(a++(b3++x.v.b)).length:=by simp only[aF];omega
   rw[el] at o5⊢;refine⟨λp' l' c' t g=> ∃(i:Nat) (w:List UInt8),t=(i:Int)/\i<=ys.length/\l'=(a++w).length/\iS g p' (a++w).length c' 1 (bc (a++w))/\w=b3++x.v.b++IA (l.take i)/\Fr (λy=>aQ p y) h g/\∀y,aQ p' y->aQ p y\/h.size<=y,λ_ _ _ t _=>ys.length - t.toNat,
    ⟨0,b3++x.v.b,rfl,cp _,rfl,o5,by rw[fN];simp[IA],Fp,n5⟩,?_⟩
   rintro p' _ c' _ g ⟨i,w,rfl,hi,rfl,og,ew,fg,ng⟩;have rl:=yS l i;have lw:w.length<=9+x.v.b.length+dZ (l.take i):=by
    rw[ew,aF,aF];have:=JQ (l.take i);omega
   by_cases nR:i<ys.length
   ·rw[jy];have hy:ys[i]? =some ys[i]:=au nR;generalize ys[i]=y at hy;obtain⟨t,ht,ty⟩:=TS.get hy;have tm:=bt ht;have dm:=Dm tm;have rm:=wB tm;have rt:=VB ht;have kB:ys≠ []:=by intro e;rw[e] at nR;simp at nR
    obtain⟨ad,ea⟩:=LR.row.some (by intro e;have:=bp List.length e;rw[gW mK 4 jS,bD] at this;omega);have Ms:=LR.row.frame fg (λa2 e2 AW=>hD _ AW (LR.own kB _ ⟨a2,e2,rfl⟩).1);rw[ea] at Ms⊢;refine⟨⟨by omega,by omega⟩,aB.2 (aa.TL (by rw[aL];exact Ms.lu jS hy) (aa.new λb1 h8 uh dx f8=>aa.ld dx ?_))⟩;have ty8:kU h8 (λy=>D y/\y<h.size) t y:=(kU.frame fg (λz hz hz2=>hD z hz2 hz.1) ty).on f8;have zg:=fg.1;have z8:=f8.1;refine Yf N t (by omega) h8 (λy=>D y/\y<h.size) y p' _ c' (a++w) _ rfl (by rw[aF];have:=yS l (i+1);omega) (og.frame f8 (λ_ _=>id)) ty8 (λz hz hz2=>by
     rcases ng z hz with q|q
     ·exact hD z q hz2.1
     ·omega) λh9 p9 c9 o9 f9 n9=>⟨_,_,_,rfl,?_⟩
    rw[bL (n:=(i:Int)+1) (by omega) (by omega)];rw[dV] at o9⊢;refine⟨⟨i+1,w++enc t,by omega,by omega,rfl,o9,by rw[bZ,ht];show _=_++IA (l.take i++ [t]);rw[aaf,ew,dV _ (IA (l.take i))],(fg.on f8).trans f9 (λ_ _=>id) (λz hz q=> ?_),λz hz=> ?_⟩,by show ys.length - Int.toNat ((i:Int)+1)<ys.length - Int.toNat (i:Int);omega⟩
    ·rcases ng z q with q|q
     ·exact q
     ·omega
    ·rcases n9 z hz with q|q
     ·exact ng z q
     ·exact .inr (by omega)
   ·rw[ai (λe=>nR (by have:=of_decide_eq_true e;omega))];rw[bT (show l.length<=i by omega)] at ew;subst ew;exact hk g p' c' og fg ng
  have ub:IntKind.wrap .u64 (x.v.b.length:Int)=(x.v.b.length:Int):=wrap_u64 (by omega) (by omega);have ul:IntKind.wrap .u64 (x.ll:Int)=(l.length:Int):=by rw[e0,<-lt];exact wrap_u64 (by omega) (by omega)
  unfold HG at done;refine aK.of λJ1 pB=> ?_
  have j1: ∀q,q=decide (x.k=2\/x.k=3)->J1 q h1:=by
   intro q hq;subst pB;refine aK.of λJ2 zY=> ?_
   split
   ·rename_i q1;rw[ag (of_decide_eq_true (hq.symm.trans q1))] at done;exact⟨_,_,_,af AX rfl,by subst zY;rw[ub];exact done⟩
   ·rename_i q1;rw[ai (λe=>q1 (hq.trans (ay e)))] at done;refine aK.of λJ3 SN=> ?_
    split
    ·rename_i q2;rw[ag (by simpa using q2)] at done;exact⟨_,_,_,af AX rfl,by subst SN;subst zY;rw[ul];exact done⟩
    ·rename_i q2;rw[ai (by simpa using q2)] at done;subst SN;subst zY;exact done
  split
  ·rename_i q;exact j1 _ (by simp only[dA] at q;rw[q];decide)
  ·rename_i q;refine j1 _ ?_;by_cases e:x.k=3
   ·rw[e];decide
   ·simp only[dA] at q;simp[q,e]
end Cb
end
section
namespace Cb
variable {V:List UInt8→Bool} {h h0 h':aj} {R:iI} {D:Nat→Prop}
theorem Yg {t:Tr} {x:CV} (tx:kU h D t x) (hr:room t<=1000000) (hk: ∀h' p c,iS h' p (enc t).length c 1 (bc (enc t))->(∀y,aQ p y->h.size<=y)->Fr No h h'->R (.slice p (enc t).length c) h'):Cl F.uY #[.Z,x.agg] h R:=
 Yf (deep t) t (bh _) h D x none 0 0 [] R rfl (by simp only[bD];omega) (.nil rfl rfl rfl rfl) tx (λy ⟨a,e,_⟩=>by cases e) λh' p' c' o f n=>hk h' p' c' o (λy hy=>(n y hy).resolve_left (λ⟨a,e,_⟩=>by cases e)) (f.mono λy _ ⟨a,e,_⟩=>by cases e)
theorem Hd {t:Tr} {x:CV} (U:xQ V h0) (u:Fr No h0 h) (tx:kU h D t x) (hr:room t<=1000000)
  (k1:lB V t=true->∀h' p c,iS h' p (enc t).length c 1 (bc (enc t))->(∀y,aQ p y->h.size<=y)->Fr No h h'->R (.tuple #[.slice p (enc t).length c,.I 0]) h')
  (k2:lB V t=false->∀h',Fr No h h'->R (.tuple #[.Z,.I 3]) h'):Cl F.mw #[x.agg] h R:=by
 refine mw.walk (aa.box λbb h1 ebb AX f1=>aa.ld AX (ic U (u.tt f1) (tx.on f1) hr λh2 f2=>⟨_,rfl,?_⟩));have z1:=f1.1;have z2:=f2.1;cases ho:lB V t with
 |false=>
  rw[jy];exact k2 ho h2 (f1.tt f2)
 |true=>
  rw[dM];exact aa.ld (f2.get AX id) (Yg ((tx.on f1).on f2) hr λh3 p c o3 n3 f3=>⟨_,_,_,rfl,k1 ho h3 p c o3 (λy hy=>by have:=n3 y hy;omega) ((f1.tt f2).tt f3)⟩)
theorem xQ.mono {h0 h1:aj} (U:xQ V h0) (f:Fr No h0 h1):xQ V h1:=λg p c bs R fg=>U g p c bs R (f.tt fg)
def qS (V:List UInt8->Bool) (bs:List UInt8):Bool:=match Ba V bs with| .ok (t,nx)=>decide (nx=bs.length) && decide (enc t=bs)| .error _=>false
theorem SO {p:bV} {l c:Nat} {bs:List UInt8} (U:xQ V h) (row:Row h p (bc bs)) (hl:l=bs.length) (cap:bs.length<=c) (hlen:bs.length<=90000) (hk: ∀h',Fr No h h'->R (.bool (qS V bs)) h'):Cl F.rD #[.slice p l c] h R:=by
 subst hl;unfold qS at hk;refine rD.walk (Ln U row rfl cap (by omega) (λh1 t x next hr tx f1=>⟨_,_,_,_,_,_,_,_,_,_,rfl,aa.new λbb h3 ebb AX f3=> ?_⟩) (λh1 e he f1=>⟨_,_,_,_,_,_,_,_,_,_,rfl,aa.new λbb h3 ebb AX f3=> ?_⟩))
 ·have F3:=f1.tt f3;rw[hr] at hk;obtain⟨rt,nx⟩:=JS hr;rw[jy];by_cases c1:next=bs.length
  ·rw[ag (by rw[c1];simp)];refine aa.ld AX (Yg (tx.on f3) (by omega) λh4 q d o4 n4 f4=>⟨_,_,_,rfl,AY o4.qa (row.frame (F3.tt f4) (λ_ _=>id)) rfl rfl ⟨_,rfl,?_⟩⟩);have:=hk h4 (F3.tt f4);simp only[c1,decide_true,fv] at this;exact this
  ·rw[ai (λe=>c1 (by have:=eq_of_beq e;omega))];have:=hk h3 F3;simp only[c1,decide_false,gL] at this;exact this
 ·have F3:=f1.tt f3;have:=hk h3 F3;rw[he] at this;rw[ai (λq=>Dn he (eq_of_beq q))];exact this
end Cb
end
section
variable {h:aj} {R:iI}
abbrev aa.jx (h:aj) (b:Nat) (x:aa.S):Prop:=h[b]? =some (.cells x.arr T.aa (0,0))
theorem aa.ex {K:aa.S->Prop} (x:aa.S) (hk:K x):aa.EX K:=⟨_,_,_,_,_,_,_,_,hk⟩
theorem aa.jk {h:aj} {b:Nat} {x:aa.S} {K:aa.S->Prop} (hb:aa.jx h b x) (hk:K x):aa.dh h (AA b 0) K:=
 ⟨_,af hb rfl,_,af hb rfl,_,_,_,af hb rfl,_,_,_,af hb rfl,hk⟩
theorem aa.yT {h:aj} {a:Addr} {x:aa.S} {K:aa.S->Prop} (hb:fF a x.l 0 h) (hk:K x):aa.dh h a K:=by
 obtain⟨q0,q1,q2,q3,_⟩:=hb;rw[jz] at q0;exact⟨_,q0,_,q1,_,_,_,q2,_,_,_,q3,hk⟩
theorem aa.Lr {h:aj} {b:Nat} {x:aa.S} (hb:aa.jx h b x):fF (AA b 0) x.l 0 h:=
 lS hb (λj v hj=>by rw[cf];simpa using hj)
theorem aa.j9 {h:aj} {x:aa.S} {K:Nat->aj->Prop} (hk: ∀b h',b=h.size->aa.jx h' b x->Fr No h h'->K b h'):aV h (.cells aa.S.z.arr T.aa) λb mP=>aa.dW mP (AA b 0) x (K b):=
 kW (vs:=x.l) rfl rfl hk
theorem aa.dI {h:aj} {x:aa.S} {K:Nat->aj->Prop} (hk: ∀b h',b=h.size->aa.jx h' b x->Fr No h h'->K b h'):aV h (.cells x.arr T.aa) λb mP=>K b mP:=
 cY (hk _ _ rfl cA (Fr.push _ _))
theorem aa.mB {h:aj} {b:Nat} {y x:aa.S} {K:aj->Prop} (a0:aa.jx h b y) (hk: ∀h',aa.jx h' b x->Fr (λy=>y=b) h h'->h'.size=h.size->K h'):aa.dW h (AA b 0) x K:=
 (show gY (AA b 0) x.l 0 h K from gG a0 rfl rfl λh1 d1 d2 d3=>hk h1 d1 (Fr.of_eq d2 λc hc=>d3 c hc) d2)
abbrev az.jx (h:aj) (b:Nat) (x:az.S):Prop:=h[b]? =some (.cells x.arr T.az (0,0))
theorem az.ex {K:az.S->Prop} (x:az.S) (hk:K x):az.EX K:=⟨_,_,_,_,_,hk⟩
theorem az.jk {h:aj} {b:Nat} {x:az.S} {K:az.S->Prop} (hb:az.jx h b x) (hk:K x):az.dh h (AA b 0) K:=
 ⟨_,af hb rfl,_,af hb rfl,_,af hb rfl,_,af hb rfl,_,af hb rfl,hk⟩
theorem az.j9 {h:aj} {x:az.S} {K:Nat->aj->Prop} (hk: ∀b h',b=h.size->az.jx h' b x->Fr No h h'->K b h'):aV h (.cells az.S.z.arr T.az) λb mP=>az.dW mP (AA b 0) x (K b):=
 kW (vs:=x.l) rfl rfl hk
theorem az.dI {h:aj} {x:az.S} {K:Nat->aj->Prop} (hk: ∀b h',b=h.size->az.jx h' b x->Fr No h h'->K b h'):aV h (.cells x.arr T.az) λb mP=>K b mP:=
 cY (hk _ _ rfl cA (Fr.push _ _))
theorem az.mB {h:aj} {b:Nat} {y x:az.S} {K:aj->Prop} (a0:az.jx h b y) (hk: ∀h',az.jx h' b x->Fr (λy=>y=b) h h'->h'.size=h.size->K h'):az.dW h (AA b 0) x K:=
 (show gY (AA b 0) x.l 0 h K from gG a0 rfl rfl λh1 d1 d2 d3=>hk h1 d1 (Fr.of_eq d2 λc hc=>d3 c hc) d2)
abbrev ah.jx (h:aj) (b:Nat) (x:ah.S):Prop:=h[b]? =some (.cells x.arr T.ah (0,0))
theorem ah.ex {K:ah.S->Prop} (x:ah.S) (hk:K x):ah.EX K:=⟨_,_,_,_,_,_,_,hk⟩
theorem ah.jk {h:aj} {b:Nat} {x:ah.S} {K:ah.S->Prop} (hb:ah.jx h b x) (hk:K x):ah.dh h (AA b 0) K:=
 ⟨_,af hb rfl,_,af hb rfl,_,af hb rfl,_,af hb rfl,_,af hb rfl,_,af hb rfl,_,af hb rfl,hk⟩
theorem ah.j9 {h:aj} {x:ah.S} {K:Nat->aj->Prop} (hk: ∀b h',b=h.size->ah.jx h' b x->Fr No h h'->K b h'):aV h (.cells ah.S.z.arr T.ah) λb mP=>ah.dW mP (AA b 0) x (K b):=
 kW (vs:=x.l) rfl rfl hk
theorem ah.dI {h:aj} {x:ah.S} {K:Nat->aj->Prop} (hk: ∀b h',b=h.size->ah.jx h' b x->Fr No h h'->K b h'):aV h (.cells x.arr T.ah) λb mP=>K b mP:=
 cY (hk _ _ rfl cA (Fr.push _ _))
theorem ah.mB {h:aj} {b:Nat} {y x:ah.S} {K:aj->Prop} (a0:ah.jx h b y) (hk: ∀h',ah.jx h' b x->Fr (λy=>y=b) h h'->h'.size=h.size->K h'):ah.dW h (AA b 0) x K:=
 (show gY (AA b 0) x.l 0 h K from gG a0 rfl rfl λh1 d1 d2 d3=>hk h1 d1 (Fr.of_eq d2 λc hc=>d3 c hc) d2)
abbrev aC.jx (h:aj) (b:Nat) (x:aC.S):Prop:=h[b]? =some (.cells x.arr T.aC (0,0))
theorem aC.ex {K:aC.S->Prop} (x:aC.S) (hk:K x):aC.EX K:=⟨_,_,_,_,_,_,_,_,_,_,_,_,_,_,_,_,_,_,_,_,hk⟩
theorem aC.jk {h:aj} {b:Nat} {x:aC.S} {K:aC.S->Prop} (hb:aC.jx h b x) (hk:K x):aC.dh h (AA b 0) K:=
 ⟨_,af hb rfl,_,af hb rfl,_,af hb rfl,_,af hb rfl,_,af hb rfl,_,af hb rfl,_,af hb rfl,_,af hb rfl,_,af hb rfl,_,af hb rfl,_,af hb rfl,_,af hb rfl,_,af hb rfl,_,af hb rfl,_,af hb rfl,_,af hb rfl,_,af hb rfl,_,af hb rfl,_,af hb rfl,_,af hb rfl,hk⟩
theorem aC.j9 {h:aj} {x:aC.S} {K:Nat->aj->Prop} (hk: ∀b h',b=h.size->aC.jx h' b x->Fr No h h'->K b h'):aV h (.cells aC.S.z.arr T.aC) λb mP=>aC.dW mP (AA b 0) x (K b):=
 kW (vs:=x.l) rfl rfl hk
theorem aC.dI {h:aj} {x:aC.S} {K:Nat->aj->Prop} (hk: ∀b h',b=h.size->aC.jx h' b x->Fr No h h'->K b h'):aV h (.cells x.arr T.aC) λb mP=>K b mP:=
 cY (hk _ _ rfl cA (Fr.push _ _))
theorem aC.mB {h:aj} {b:Nat} {y x:aC.S} {K:aj->Prop} (a0:aC.jx h b y) (hk: ∀h',aC.jx h' b x->Fr (λy=>y=b) h h'->h'.size=h.size->K h'):aC.dW h (AA b 0) x K:=
 (show gY (AA b 0) x.l 0 h K from gG a0 rfl rfl λh1 d1 d2 d3=>hk h1 d1 (Fr.of_eq d2 λc hc=>d3 c hc) d2)
abbrev aE.jx (h:aj) (b:Nat) (x:aE.S):Prop:=h[b]? =some (.cells x.arr T.aE (0,0))
theorem aE.ex {K:aE.S->Prop} (x:aE.S) (hk:K x):aE.EX K:=⟨_,_,_,_,_,_,_,hk⟩
theorem aE.jk {h:aj} {b:Nat} {x:aE.S} {K:aE.S->Prop} (hb:aE.jx h b x) (hk:K x):aE.dh h (AA b 0) K:=
 ⟨_,af hb rfl,_,af hb rfl,_,af hb rfl,_,af hb rfl,_,_,_,af hb rfl,hk⟩
theorem aE.yT {h:aj} {a:Addr} {x:aE.S} {K:aE.S->Prop} (hb:fF a x.l 0 h) (hk:K x):aE.dh h a K:=by
 obtain⟨q0,q1,q2,q3,q4,_⟩:=hb;rw[jz] at q0;exact⟨_,q0,_,q1,_,q2,_,q3,_,_,_,q4,hk⟩
theorem aE.Lr {h:aj} {b:Nat} {x:aE.S} (hb:aE.jx h b x):fF (AA b 0) x.l 0 h:=
 lS hb (λj v hj=>by rw[cf];simpa using hj)
theorem aE.j9 {h:aj} {x:aE.S} {K:Nat->aj->Prop} (hk: ∀b h',b=h.size->aE.jx h' b x->Fr No h h'->K b h'):aV h (.cells aE.S.z.arr T.aE) λb mP=>aE.dW mP (AA b 0) x (K b):=
 kW (vs:=x.l) rfl rfl hk
theorem aE.dI {h:aj} {x:aE.S} {K:Nat->aj->Prop} (hk: ∀b h',b=h.size->aE.jx h' b x->Fr No h h'->K b h'):aV h (.cells x.arr T.aE) λb mP=>K b mP:=
 cY (hk _ _ rfl cA (Fr.push _ _))
theorem aE.mB {h:aj} {b:Nat} {y x:aE.S} {K:aj->Prop} (a0:aE.jx h b y) (hk: ∀h',aE.jx h' b x->Fr (λy=>y=b) h h'->h'.size=h.size->K h'):aE.dW h (AA b 0) x K:=
 (show gY (AA b 0) x.l 0 h K from gG a0 rfl rfl λh1 d1 d2 d3=>hk h1 d1 (Fr.of_eq d2 λc hc=>d3 c hc) d2)
abbrev aw.jx (h:aj) (b:Nat) (x:aw.S):Prop:=h[b]? =some (.cells x.arr T.aw (0,0))
theorem aw.ex {K:aw.S->Prop} (x:aw.S) (hk:K x):aw.EX K:=⟨_,_,_,_,_,_,_,_,_,_,_,_,_,_,_,_,_,_,_,_,_,_,_,hk⟩
theorem aw.jk {h:aj} {b:Nat} {x:aw.S} {K:aw.S->Prop} (hb:aw.jx h b x) (hk:K x):aw.dh h (AA b 0) K:=
 ⟨_,af hb rfl,_,af hb rfl,_,af hb rfl,_,af hb rfl,_,af hb rfl,_,af hb rfl,_,af hb rfl,_,af hb rfl,_,af hb rfl,_,af hb rfl,_,af hb rfl,_,af hb rfl,_,af hb rfl,_,af hb rfl,_,af hb rfl,_,af hb rfl,_,af hb rfl,_,af hb rfl,_,af hb rfl,_,af hb rfl,_,_,_,af hb rfl,hk⟩
theorem aw.j9 {h:aj} {x:aw.S} {K:Nat->aj->Prop} (hk: ∀b h',b=h.size->aw.jx h' b x->Fr No h h'->K b h'):aV h (.cells aw.S.z.arr T.aw) λb mP=>aw.dW mP (AA b 0) x (K b):=
 kW (vs:=x.l) rfl rfl hk
theorem aw.dI {h:aj} {x:aw.S} {K:Nat->aj->Prop} (hk: ∀b h',b=h.size->aw.jx h' b x->Fr No h h'->K b h'):aV h (.cells x.arr T.aw) λb mP=>K b mP:=
 cY (hk _ _ rfl cA (Fr.push _ _))
theorem aw.mB {h:aj} {b:Nat} {y x:aw.S} {K:aj->Prop} (a0:aw.jx h b y) (hk: ∀h',aw.jx h' b x->Fr (λy=>y=b) h h'->h'.size=h.size->K h'):aw.dW h (AA b 0) x K:=
 (show gY (AA b 0) x.l 0 h K from gG a0 rfl rfl λh1 d1 d2 d3=>hk h1 d1 (Fr.of_eq d2 λc hc=>d3 c hc) d2)
abbrev bX.jx (h:aj) (b:Nat) (x:bX.S):Prop:=h[b]? =some (.cells x.arr T.bX (0,0))
theorem bX.ex {K:bX.S->Prop} (x:bX.S) (hk:K x):bX.EX K:=⟨_,_,_,_,_,_,_,_,_,_,_,_,hk⟩
theorem bX.jk {h:aj} {b:Nat} {x:bX.S} {K:bX.S->Prop} (hb:bX.jx h b x) (hk:K x):bX.dh h (AA b 0) K:=
 ⟨_,af hb rfl,_,af hb rfl,_,af hb rfl,_,af hb rfl,_,af hb rfl,_,af hb rfl,_,af hb rfl,_,af hb rfl,_,af hb rfl,_,af hb rfl,_,af hb rfl,_,af hb rfl,hk⟩
theorem bX.dI {h:aj} {x:bX.S} {K:Nat->aj->Prop} (hk: ∀b h',b=h.size->bX.jx h' b x->Fr No h h'->K b h'):aV h (.cells x.arr T.bX) λb mP=>K b mP:=
 cY (hk _ _ rfl cA (Fr.push _ _))
abbrev aD.jx (h:aj) (b:Nat) (x:aD.S):Prop:=h[b]? =some (.cells x.arr T.aD (0,0))
theorem aD.ex {K:aD.S->Prop} (x:aD.S) (hk:K x):aD.EX K:=⟨_,_,_,_,_,_,_,_,_,_,_,_,_,_,_,_,_,_,_,_,_,hk⟩
theorem aD.jk {h:aj} {b:Nat} {x:aD.S} {K:aD.S->Prop} (hb:aD.jx h b x) (hk:K x):aD.dh h (AA b 0) K:=
 ⟨_,af hb rfl,_,af hb rfl,_,af hb rfl,_,af hb rfl,_,af hb rfl,_,af hb rfl,_,af hb rfl,_,af hb rfl,_,af hb rfl,_,af hb rfl,_,af hb rfl,_,af hb rfl,_,af hb rfl,_,af hb rfl,_,af hb rfl,_,_,_,af hb rfl,_,af hb rfl,_,af hb rfl,_,af hb rfl,hk⟩
theorem aD.j9 {h:aj} {x:aD.S} {K:Nat->aj->Prop} (hk: ∀b h',b=h.size->aD.jx h' b x->Fr No h h'->K b h'):aV h (.cells aD.S.z.arr T.aD) λb mP=>aD.dW mP (AA b 0) x (K b):=
 kW (vs:=x.l) rfl rfl hk
theorem aD.dI {h:aj} {x:aD.S} {K:Nat->aj->Prop} (hk: ∀b h',b=h.size->aD.jx h' b x->Fr No h h'->K b h'):aV h (.cells x.arr T.aD) λb mP=>K b mP:=
 cY (hk _ _ rfl cA (Fr.push _ _))
theorem aD.mB {h:aj} {b:Nat} {y x:aD.S} {K:aj->Prop} (a0:aD.jx h b y) (hk: ∀h',aD.jx h' b x->Fr (λy=>y=b) h h'->h'.size=h.size->K h'):aD.dW h (AA b 0) x K:=
 (show gY (AA b 0) x.l 0 h K from gG a0 rfl rfl λh1 d1 d2 d3=>hk h1 d1 (Fr.of_eq d2 λc hc=>d3 c hc) d2)
abbrev aq.jx (h:aj) (b:Nat) (x:aq.S):Prop:=h[b]? =some (.cells x.arr T.aq (0,0))
theorem aq.ex {K:aq.S->Prop} (x:aq.S) (hk:K x):aq.EX K:=⟨_,_,_,_,_,_,_,_,hk⟩
theorem aq.jk {h:aj} {b:Nat} {x:aq.S} {K:aq.S->Prop} (hb:aq.jx h b x) (hk:K x):aq.dh h (AA b 0) K:=
 ⟨_,af hb rfl,_,af hb rfl,_,af hb rfl,_,af hb rfl,_,af hb rfl,_,_,_,af hb rfl,hk⟩
theorem aq.j9 {h:aj} {x:aq.S} {K:Nat->aj->Prop} (hk: ∀b h',b=h.size->aq.jx h' b x->Fr No h h'->K b h'):aV h (.cells aq.S.z.arr T.aq) λb mP=>aq.dW mP (AA b 0) x (K b):=
 kW (vs:=x.l) rfl rfl hk
theorem aq.dI {h:aj} {x:aq.S} {K:Nat->aj->Prop} (hk: ∀b h',b=h.size->aq.jx h' b x->Fr No h h'->K b h'):aV h (.cells x.arr T.aq) λb mP=>K b mP:=
 cY (hk _ _ rfl cA (Fr.push _ _))
theorem aq.mB {h:aj} {b:Nat} {y x:aq.S} {K:aj->Prop} (a0:aq.jx h b y) (hk: ∀h',aq.jx h' b x->Fr (λy=>y=b) h h'->h'.size=h.size->K h'):aq.dW h (AA b 0) x K:=
 (show gY (AA b 0) x.l 0 h K from gG a0 rfl rfl λh1 d1 d2 d3=>hk h1 d1 (Fr.of_eq d2 λc hc=>d3 c hc) d2)
theorem jP.ex {K:jP.S->Prop} (x:jP.S) (hk:K x):jP.EX K:=⟨_,_,_,_,_,_,_,_,_,_,_,_,_,_,_,_,_,_,_,_,_,_,_,_,_,_,_,_,hk⟩
abbrev aJ.jx (h:aj) (b:Nat) (x:aJ.S):Prop:=h[b]? =some (.cells x.arr T.aJ (0,0))
theorem aJ.ex {K:aJ.S->Prop} (x:aJ.S) (hk:K x):aJ.EX K:=⟨_,_,_,_,_,_,_,_,_,_,_,_,hk⟩
theorem aJ.yT {h:aj} {a:Addr} {x:aJ.S} {K:aJ.S->Prop} (hb:fF a x.l 0 h) (hk:K x):aJ.dh h a K:=by
 obtain⟨q0,q1,q2,q3,q4,q5,q6,q7,q8,q9,_⟩:=hb;rw[jz] at q0;exact⟨_,q0,_,q1,_,q2,_,q3,_,q4,_,q5,_,_,_,q6,_,q7,_,q8,_,q9,hk⟩
theorem aJ.dI {h:aj} {x:aJ.S} {K:Nat->aj->Prop} (hk: ∀b h',b=h.size->aJ.jx h' b x->Fr No h h'->K b h'):aV h (.cells x.arr T.aJ) λb mP=>K b mP:=
 cY (hk _ _ rfl cA (Fr.push _ _))
theorem aJ.mB {h:aj} {b:Nat} {y x:aJ.S} {K:aj->Prop} (a0:aJ.jx h b y) (hk: ∀h',aJ.jx h' b x->Fr (λy=>y=b) h h'->h'.size=h.size->K h'):aJ.dW h (AA b 0) x K:=
 (show gY (AA b 0) x.l 0 h K from gG a0 rfl rfl λh1 d1 d2 d3=>hk h1 d1 (Fr.of_eq d2 λc hc=>d3 c hc) d2)
theorem aM.ex {K:aM.S->Prop} (x:aM.S) (hk:K x):aM.EX K:=⟨_,_,_,_,_,_,hk⟩
abbrev bO.jx (h:aj) (b:Nat) (x:bO.S):Prop:=h[b]? =some (.cells x.arr T.bO (0,0))
theorem bO.ex {K:bO.S->Prop} (x:bO.S) (hk:K x):bO.EX K:=⟨_,_,_,_,_,_,_,_,_,_,_,_,_,_,_,_,_,_,_,_,_,_,_,hk⟩
theorem bO.jk {h:aj} {b:Nat} {x:bO.S} {K:bO.S->Prop} (hb:bO.jx h b x) (hk:K x):bO.dh h (AA b 0) K:=
 ⟨_,af hb rfl,_,af hb rfl,_,af hb rfl,_,af hb rfl,_,af hb rfl,_,af hb rfl,_,af hb rfl,_,af hb rfl,_,af hb rfl,_,af hb rfl,_,af hb rfl,_,af hb rfl,_,af hb rfl,_,af hb rfl,_,af hb rfl,_,_,_,af hb rfl,_,af hb rfl,_,af hb rfl,_,af hb rfl,_,af hb rfl,_,af hb rfl,hk⟩
theorem bO.dI {h:aj} {x:bO.S} {K:Nat->aj->Prop} (hk: ∀b h',b=h.size->bO.jx h' b x->Fr No h h'->K b h'):aV h (.cells x.arr T.bO) λb mP=>K b mP:=
 cY (hk _ _ rfl cA (Fr.push _ _))
theorem iJ.ex {K:iJ.S->Prop} (x:iJ.S) (hk:K x):iJ.EX K:=⟨_,_,_,_,_,_,_,_,_,_,_,_,_,_,_,_,_,_,_,_,_,_,_,_,_,_,_,hk⟩
theorem mO.walk {sum : Int} (hv :
 R (.int .i64 (IntKind.wrap .i64 (2 * sum))) h) : Cl F.mO #[.int .i64 sum] h R :=
 aS (.seq .leaf (.seq .leaf .leaf)) Tryz.func285 hv
theorem oq.walk {Dc:bV} {xR Io:Nat} {kR:Int} (hv:aK (λ(t34:Bool) (aR:aj)=>if t34 then R (.I (-1)) aR else Bd kR xR/\aP Dc λa=> ∃t39,ak aR ((a.add (toNat kR*4)).add 1)=some (.U t39)/\R (.I (wrap .i64 t39)) aR) (λJ=>if(decide (kR<0)) then J true h else if(decide (kR≥(xR:Int))) then J true h else Bd kR xR/\aP Dc λkz=> ∃t18,ak h ((kz.add (toNat kR*4)).add 1)=some (.U t18)/\if(decide (t18>2)) then J true h else Bd kR xR/\aP Dc λpF=>aa.dh h (pF.add (toNat kR*4)) λt25=>Bd kR xR/\aP Dc λrZ=>JM h ((rZ.add (toNat kR*4)).add 1) λt30=>Cl F.fI #[.U t30] h λv aZ=>aa.EX λt31=>v=t31.agg/\Kp h aZ [(some (pF.add (toNat kR*4))),(some ((kz.add (toNat kR*4)).add 1))]/\Cl F.iB #[t25.agg,t31.agg] aZ λeK bK=> ∃t32,eK=.bool t32/\Kp aZ bK [(some ((kz.add (toNat kR*4)).add 1))]/\J (!t32) bK)):Cl F.oq #[.slice Dc xR Io,.I kR] h R:=aS (lq (sq (sq (.join [(34,.one (.bool))] (pK 30)) (cq ll lf)) ll)) Tryz.func257 hv
theorem pA.walk {Dc:bV} {xR Io:Nat} {sum:Int} (hv:Cl F.fS #[.slice Dc xR Io] h λv aR=>Vl v λaox aoy aoz=>Cl F.mO #[.I sum] aR λeK aZ=>Vi eK λt14=>aX Tryz.prog (Instr.makeSlice T.du (.I t14) (.I t14)) aZ λgS bK=>Vl gS λtH sK ue=>Cl F.qm #[.slice tH sK ue] bK λkV cC=>aa.EX λt16=>kV=t16.agg/\aV cC (.cells t16.arr T.aa) λb cK=>aX Tryz.prog (Builtin.append_ #[T.cF,T.cF] T.cF #[.slice aox aoy aoz,.slice (some (AA b 0)) 1 1]) cK λou cR=>Vl ou λqt pf rN=>Cl F.fO #[.slice qt pf rN] cR λxw cX=>aa.EX λt19=>xw=t19.agg/\Cl F.mw #[t19.agg] cX λAU dB=> ∃Qf Qg Qh uk,AU=.tuple #[.slice Qf Qg Qh,.I uk]/\if(uk !=0) then R (.tuple #[.Z,.I 3]) dB else if(sum==1) then Cl F.w4 #[.slice Qf Qg Qh] dB λDN ff=> ∃t28,DN=.int .u16 t28/\aV ff (.cells #[.int .u8 (wrap .u8 (Int.fdiv t28 (2 ^ min (toNat 8) (IntKind.bits .u16)))),.int .u8 (wrap .u8 t28)] T.uint8) λcE cQ=>R (.tuple #[.slice (some (AA cE 0)) 2 2,.I 0]) cQ else Cl F.zh #[.slice Qf Qg Qh] dB λEK cW=> ∃t36,EK=.int .u32 t36/\aV cW (.cells #[.int .u8 (wrap .u8 (Int.fdiv t36 (2 ^ min (toNat 24) (IntKind.bits .u32)))),.int .u8 (wrap .u8 (Int.fdiv t36 (2 ^ min (toNat 16) (IntKind.bits .u32)))),.int .u8 (wrap .u8 (Int.fdiv t36 (2 ^ min (toNat 8) (IntKind.bits .u32)))),.int .u8 (wrap .u8 t36)] T.uint8) λeZ dE=>R (.tuple #[.slice (some (AA eZ 0)) 4 4,.I 0]) dE):Cl F.pA #[.slice Dc xR Io,.I sum] h R:=aS (lq (lq (sq (lq (cq ll lf)) (sq (lq (cq (lq ll) lf)) (lq ll))))) Tryz.func259 hv
theorem qG.walk {Dc:bV} {xR Io:Nat} {kR:Int} (hv:aV h (.cells aa.S.z.arr T.aa) λb aR=>aK (λ(t18:Bool) (aZ:aj)=>if t18 then aa.dW aZ (AA b 0) aa.S.z λbK=>aa.dh bK (AA b 0) λr0=>R (.tuple #[r0.agg,.I 1]) bK else Cl F.oq #[.slice Dc xR Io,.I kR] aZ λv cC=>Vi v λt22=>aK (λ(t29:Bool) (cK:aj)=>if t29 then aa.dW cK (AA b 0) aa.S.z λcR=>aa.dh cR (AA b 0) λia=>R (.tuple #[ia.agg,.I 3]) cR else Cl F.fO #[.slice Dc xR Io] cK λeK cX=>aa.EX λt32=>eK=t32.agg/\aV cX (.cells aa.S.z.arr T.aa) λcE dB=>aa.dW dB (AA cE 0) t32 λff=>aK (λ(cQ:aj)=>aa.dh cQ (AA cE 0) λt52=>Cl F.oN #[t52.agg] cQ λgS cW=> ∃t53,gS=.bool t53/\if(!t53) then aa.dW cW (AA b 0) aa.S.z λdE=>aa.dh dE (AA b 0) λoT=>R (.tuple #[oT.agg,.I 3]) dE else aa.dh cW (AA cE 0) λt56=>aa.dW cW (AA b 0) t56 λdG=>aa.dh dG (AA b 0) λpH=>R (.tuple #[pH.agg,.I 0]) dG) (λBp=>if(decide (t22>0)) then Cl F.pA #[.slice Dc xR Io,.I t22] ff λkV fD=> ∃Yh Yi Yj xm,kV=.tuple #[.slice Yh Yi Yj,.I xm]/\if(xm !=0) then aa.dW fD (AA b 0) aa.S.z λgE=>aa.dh gE (AA b 0) λyR=>R (.tuple #[yR.agg,.I xm]) gE else Hl fD cE 3 λSf Sg Xp=>Cl F.qm #[.slice Yh Yi Yj] fD λou gX=>aa.EX λt48=>ou=t48.agg/\Kp fD gX [(some (AA cE 3))]/\aV gX (.cells t48.arr T.aa) λeZ gR=>Kp gX gR [(some (AA cE 3))]/\aX Tryz.prog (Builtin.append_ #[T.cF,T.cF] T.cF #[.slice Sf Sg Xp,.slice (some (AA eZ 0)) 1 1]) gR λxw fi=> ∃Da Bz Db,xw=.slice Da Bz Db/\aH fi (AA cE 3) (.slice Da Bz Db) λjn=>Bp jn else Bp ff)) (λjo=>Cl F.ee #[.slice Dc xR Io,.func (.func F.jF) #[] #[]] cC λAU ju=> ∃t25,AU=.bool t25/\if t25 then jo true ju else jo (decide (t22<0)) ju)) (λJ=>if(decide (kR<0)) then J true aR else J (decide (kR≥(xR:Int))) aR)):Cl F.qG #[.slice Dc xR Io,.I kR] h R:=aS (lq (sq (sq (.join [(18,.one (.bool))] lf) (cq ll lf)) (lq (lq (sq (sq (.join [(29,.one (.bool))] lf) (cq ll lf)) (lq (sq (lq (.join [] (cq (lq (sq (lq (cq ll lf)) (pK 8))) lf))) (sq (lq (cq ll lf)) ll)))))))) Tryz.func206 hv
theorem jF.walk {x:aa.S} (hv:aV h (.cells x.arr T.aa) λb aR=>aa.dh aR (AA b 0) λt3=>Cl F.oN #[t3.agg] aR λv aZ=> ∃t4,v=.bool t4/\R (.bool (!t4)) aZ):Cl F.jF #[x.agg] h R:=aS (lq ll) Tryz.func256 hv
theorem qH.walk {x : aa.S} {kR : Int} (hv :
 aV h (.cells x.arr T.aa) λb aR =>
 aK (fun (t18 : Bool) (aZ : aj) =>
 if t18 = true then
 R (.tuple #[.slice none 0 0, .int .i64 3]) aZ
 else
 ∃ uo tQ vP, ak aZ ⟨b, 3, none⟩ = some (.slice uo tQ vP) ∧
 Cl F.oq #[.slice uo tQ vP, .int .i64 kR] aZ λv bK =>
 ∃ t22, v = .int .i64 t22 ∧
 if (decide (t22 < 0)) = true then
 R (.tuple #[.slice none 0 0, .int .i64 3]) bK
 else
 if (t22 == 0) = true then
 ∃ pd nK pO, ak bK ⟨b, 3, none⟩ = some (.slice pd nK pO) ∧
 Cl F.fO #[.slice pd nK pO] bK λeK cC =>
 aa.EX λt31 =>
 eK = t31.agg ∧
 R (.tuple #[.slice t31.BO t31.xP t31.Ay, .int .i64 0]) cC
 else
 ∃ acQ zN acR, ak bK ⟨b, 3, none⟩ = some (.slice acQ zN acR) ∧
 ∃ rK rL vh, ak bK ⟨b, 3, none⟩ = some (.slice rK rL vh) ∧
 ((0 : Int) ≤ IntKind.wrap .i64 (((zN : Nat) : Int) - 1) ∧ IntKind.wrap .i64 (((zN : Nat) : Int) - 1) < ((rL : Nat) : Int)) ∧
 aP rK λa =>
 aa.dh bK (a.add (Int.toNat (IntKind.wrap .i64 (((zN : Nat) : Int) - 1)) * 4)) λt41 =>
 aV bK (.cells aa.S.z.arr T.aa) λcE cK =>
 aa.dW cK ⟨cE, 0, none⟩ t41 λcR =>
 aK (fun (t60 : Bool) (cX : aj) =>
 if t60 = true then
 R (.tuple #[.slice none 0 0, .int .i64 3]) cX
 else
 ∃ WE acP Np, ak cX ⟨b, 3, none⟩ = some (.slice WE acP Np) ∧
 ((0 : Int) ≤ IntKind.wrap .i64 (((zN : Nat) : Int) - 1) ∧ IntKind.wrap .i64 (((zN : Nat) : Int) - 1) ≤ ((Np : Nat) : Int)) ∧
 Cl F.pA #[.slice (da WE Np 0 4) ((Int.toNat (IntKind.wrap .i64 (((zN : Nat) : Int) - 1))) - 0) (Np - 0), .int .i64 t22] cX λgS dB =>
 ∃ Yk Yl Ym ad6, gS = .tuple #[.slice Yk Yl Ym, .int .i64 ad6] ∧
 if (ad6 != 0) = true then
 R (.tuple #[.slice none 0 0, .int .i64 ad6]) dB
 else
 ∃ aiO aiP aiQ, ak dB ⟨cE, 2, none⟩ = some (.slice aiO aiP aiQ) ∧
 Cl F.kf #[.slice Yk Yl Ym, .slice aiO aiP aiQ] dB λkV ff =>
 ∃ t78, kV = .bool t78 ∧
 if (!t78) = true then
 R (.tuple #[.slice none 0 0, .int .i64 10]) ff
 else
 ∃ Yn ad7 NZ, ak ff ⟨b, 3, none⟩ = some (.slice Yn ad7 NZ) ∧
 ((0 : Int) ≤ IntKind.wrap .i64 (((zN : Nat) : Int) - 1) ∧ IntKind.wrap .i64 (((zN : Nat) : Int) - 1) ≤ ((NZ : Nat) : Int)) ∧
 Cl F.fO #[.slice (da Yn NZ 0 4) ((Int.toNat (IntKind.wrap .i64 (((zN : Nat) : Int) - 1))) - 0) (NZ - 0)] ff λou cQ =>
 aa.EX λt84 =>
 ou = t84.agg ∧
 R (.tuple #[.slice t84.BO t84.xP t84.Ay, .int .i64 0]) cQ)
 (λjo =>
 if (decide ((IntKind.wrap .i64 (((zN : Nat) : Int) - 1)) ≤ kR)) = true then
 jo true cR
 else
 aa.dh cR ⟨cE, 0, none⟩ λt46 =>
 ∃ D9 Ea FI, ak cR ⟨cE, 2, none⟩ = some (.slice D9 Ea FI) ∧
 Cl F.qm #[.slice D9 Ea FI] cR λxw cW =>
 aa.EX λt49 =>
 xw = t49.agg ∧
 Kp cR cW [(some ⟨cE, 0, none⟩)] ∧
 Cl F.iB #[t46.agg, t49.agg] cW λAU dE =>
 ∃ t50, AU = .bool t50 ∧
 if (!t50) = true then
 jo true dE
 else
 ∃ aoA aiR aoB, ak dE ⟨cE, 2, none⟩ = some (.slice aoA aiR aoB) ∧
 Cl F.mO #[.int .i64 t22] dE λDN dG =>
 ∃ t58, DN = .int .i64 t58 ∧
 Kp dE dG [(some ⟨cE, 2, none⟩)] ∧
 jo (((aiR : Nat) : Int) != t58) dG))
 (λJ =>
 aa.dh aR ⟨b, 0, none⟩ λt11 =>
 Cl F.oN #[t11.agg] aR λEK fD =>
 ∃ t12, EK = .bool t12 ∧
 if (!t12) = true then
 J true fD
 else
 ∃ t16, ak fD ⟨b, 0, none⟩ = some (.int .i64 t16) ∧
 J (t16 != 4) fD)) : Cl F.qH #[x.agg, .int .i64 kR] h R :=
 aS (.seq .leaf (.seq (.seq (.join [(18, .one (.bool))] .leaf) (.cond (.seq .leaf .leaf) .leaf)) (.seq .leaf (.seq (.block (.seq .leaf (.cond (.seq .leaf .leaf) (.seq .leaf (.cond (.seq .leaf .leaf) .leaf))))) (.seq .leaf (.seq .leaf (.seq (.seq (.join [(60, .one (.bool))] (.qX (jh 19 0 .done))) (.cond (.seq .leaf .leaf) .leaf)) (.seq .leaf (.seq (.block (.seq .leaf (.cond (.seq .leaf .leaf) (.seq .leaf (.cond (.seq .leaf .leaf) .leaf))))) (.seq .leaf .leaf)))))))))) Tryz.func244 hv
theorem rB.walk {p:aC.S} (hv:aV h (.cells p.arr T.aC) λb aR=> ∃t4,ak aR (AA b 0)=some (.U t4)/\if((wrap .u64 ((BitVec.ofInt (IntKind.bits .u64) t4 &&& ~~~ BitVec.ofInt (IntKind.bits .u64) 409638).toNat:Int))==0) then∃t9,ak aR (AA b 1)=some (.I t9)/\if(decide (t9≥0)) then∃t14,ak aR (AA b 1)=some (.I t14)/\if(decide (t14<=2)) then az.dh aR (AA b 2) λt19=>Cl F.kF #[t19.agg] aR λv aZ=> ∃t20,v=.bool t20/\if t20 then az.dh aZ (AA b 7) λt24=>Cl F.kF #[t24.agg] aZ λeK bK=> ∃t25,eK=.bool t25/\if t25 then ah.dh bK (AA b 12) λt29=>Cl F.km #[t29.agg] bK λgS cC=> ∃t30,gS=.bool t30/\if t30 then∃t34,ak cC (AA b 19)=some (.U t34)/\R (.bool (decide (t34<=1099511627776))) cC else R (.bool false) cC else R (.bool false) bK else R (.bool false) aZ else R (.bool false) aR else R (.bool false) aR else R (.bool false) aR):Cl F.rB #[p.agg] h R:=aS (lq ll) Tryz.func202 hv
theorem nt.walk {p:aC.S} (hv:aV h (.cells p.arr T.aC) λb aR=>aV aR (.cells aa.S.z.arr T.aa) λcE aZ=>aC.dh aZ (AA b 0) λt11=>Cl F.rB #[t11.agg] aZ λv bK=> ∃t12,v=.bool t12/\if(!t12) then aa.dW bK (AA cE 0) aa.S.z λcC=>aa.dh cC (AA cE 0) λr0=>R (.tuple #[r0.agg,.I 3]) cC else az.dh bK (AA b 2) λt17=>Cl F.ux #[t17.agg] bK λeK cK=>aa.EX λvL=> ∃vj,eK=.tuple #[vL.agg,.I vj]/\aV cK (.cells aa.S.z.arr T.aa) λeZ cR=>aa.dW cR (AA eZ 0) vL λcX=>az.dh cX (AA b 7) λt23=>Cl F.ux #[t23.agg] cX λgS dB=>aa.EX λNd=> ∃Kz,gS=.tuple #[Nd.agg,.I Kz]/\aV dB (.cells aa.S.z.arr T.aa) λjR ff=>aa.dW ff (AA jR 0) Nd λcQ=>ah.dh cQ (AA b 12) λt29=>Cl F.oF #[t29.agg] cQ λkV cW=>aa.EX λNh=> ∃HZ,kV=.tuple #[Nh.agg,.I HZ]/\aV cW (.cells aa.S.z.arr T.aa) λpI dE=>aa.dW dE (AA pI 0) Nh λdG=>Hu dG b 0 λt35=>Hi dG b 1 λt38=>aa.dh dG (AA eZ 0) λt41=>Hl dG pI 3 λadL XC aiw=>Bd 0 XC/\aP adL λa=>aa.dh dG (a.add (toNat 0*4)) λt45=>aa.dh dG (AA jR 0) λt46=>Hl dG pI 3 λD9 Ea FI=>Bd 1 Ea/\aP D9 λkz=>aa.dh dG (kz.add (toNat 1*4)) λt50=>Hu dG b 19 λt52=>Cl F.fI #[.U 7] dG λou fD=>aa.EX λt33=>ou=t33.agg/\Kp dG fD [(some (AA b 19)),(some (kz.add (toNat 1*4))),(some (AA pI 3)),(some (AA jR 0)),(some (a.add (toNat 0*4))),(some (AA pI 3)),(some (AA eZ 0)),(some (AA b 1)),(some (AA b 0))]/\Cl F.fI #[.U t35] fD λxw gE=>aa.EX λt36=>xw=t36.agg/\Kp fD gE [(some (AA b 19)),(some (kz.add (toNat 1*4))),(some (AA pI 3)),(some (AA jR 0)),(some (a.add (toNat 0*4))),(some (AA pI 3)),(some (AA eZ 0)),(some (AA b 1))]/\Cl F.fI #[.U (wrap .u64 t38)] gE λAU gX=>aa.EX λt40=>AU=t40.agg/\Kp gE gX [(some (AA b 19)),(some (kz.add (toNat 1*4))),(some (AA pI 3)),(some (AA jR 0)),(some (a.add (toNat 0*4))),(some (AA pI 3)),(some (AA eZ 0)),(some (AA b 1))]/\Cl F.fI #[.U t52] gX λDN gR=>aa.EX λt53=>DN=t53.agg/\Kp gX gR [(some (kz.add (toNat 1*4))),(some (AA pI 3)),(some (AA jR 0)),(some (a.add (toNat 0*4))),(some (AA pI 3)),(some (AA eZ 0)),(some (AA b 1))]/\aV gR (.cells (t33.l++t36.l++t40.l++t41.l++t45.l++t46.l++t50.l++t53.l).toArray T.aa) λBA fi=>Kp gR fi [(some (AA pI 3)),(some (AA pI 3)),(some (AA b 1))]/\Cl F.qG #[.slice (some (AA BA 0)) 8 8,.I 2] fi λEK jn=>aa.EX λIp=> ∃Iq,EK=.tuple #[Ip.agg,.I Iq]/\aa.dW jn (AA cE 0) Ip λju=>aa.dh ju (AA cE 0) λia=>R (.tuple #[ia.agg,.I Iq]) ju):Cl F.nt #[p.agg] h R:=aS (lq (sq (lq (cq ll lf)) (lq (lq (lq (sq (.qX (.op 1 (.op 2 (jh 3 4 (jh 12 8 (.op 0 (.op 3 (.op 7 (jh 3 20 .done))))))))) ll)))))) Tryz.func177 hv
theorem te.walk {x:aa.S} (hv:aV h (.cells x.arr T.aa) λb aR=>aV aR (.cells aC.S.z.arr T.aC) λcE aZ=>aa.dh aZ (AA b 0) λt15=>Cl F.qH #[t15.agg,.I 2] aZ λv bK=> ∃yB wi ahj rP,v=.tuple #[.slice yB wi ahj,.I rP]/\if(rP !=0) then aC.dW bK (AA cE 0) aC.S.z λcC=>aC.dh cC (AA cE 0) λr0=>R (.tuple #[r0.agg,.I rP]) cC else if((wi:Int) !=8) then aC.dW bK (AA cE 0) aC.S.z λcK=>aC.dh cK (AA cE 0) λia=>R (.tuple #[ia.agg,.I 3]) cK else Bd 3 wi/\aP yB λa=>aa.dh bK (a.add (toNat 3*4)) λt32=>Cl F.tj #[t32.agg] bK λeK cR=>az.EX λNw=> ∃FM,eK=.tuple #[Nw.agg,.I FM]/\aV cR (.cells az.S.z.arr T.az) λeZ cX=>az.dW cX (AA eZ 0) Nw λdB=>Bd 5 wi/\aP yB λkz=>aa.dh dB (kz.add (toNat 5*4)) λt39=>Cl F.tj #[t39.agg] dB λgS ff=>az.EX λaiS=> ∃yC,gS=.tuple #[aiS.agg,.I yC]/\aV ff (.cells az.S.z.arr T.az) λjR cQ=>az.dW cQ (AA jR 0) aiS λcW=>aK (λ(id:bV) (g:Int) (dE:aj)=>Bd 1 wi/\aP yB λpF=>JM dE ((pF.add (toNat 1*4)).add 1) λt58=>Bd 2 wi/\aP yB λrZ=>JM dE ((rZ.add (toNat 2*4)).add 1) λt62=>az.dh dE (AA eZ 0) λt64=>az.dh dE (AA jR 0) λt65=>aP id λvT=>ah.dh dE vT λt66=>Bd 7 wi/\aP yB λBK=>JM dE ((BK.add (toNat 7*4)).add 1) λt70=>aV dE (.cells aC.S.z.arr T.aC) λpI dG=>Kp dE dG [(some ((BK.add (toNat 7*4)).add 1)),id,(some (AA jR 0)),(some (AA eZ 0)),(some ((rZ.add (toNat 2*4)).add 1)),(some ((pF.add (toNat 1*4)).add 1))]/\aC.dW dG (AA pI 0) ⟨t58,(wrap .i64 t62),t64.f0,t64.f1,t64.f2,t64.f3,t64.f4,t65.f0,t65.f1,t65.f2,t65.f3,t65.f4,t66.f0,t66.f1,t66.f2,t66.f3,t66.f4,t66.f5,t66.f6,t70⟩ λfD=>aC.dh fD (AA pI 0) λt73=>Cl F.nt #[t73.agg] fD λkV gE=>aa.EX λaiT=> ∃aiU,kV=.tuple #[aiT.agg,.I aiU]/\aV gE (.cells aa.S.z.arr T.aa) λBA gX=>aa.dW gX (AA BA 0) aiT λgR=>aK (λ(t96:Bool) (fi:aj)=>if t96 then aC.dW fi (AA cE 0) aC.S.z λjn=>aC.dh jn (AA cE 0) λoT=>R (.tuple #[oT.agg,.I 3]) jn else aC.dh fi (AA pI 0) λt98=>aC.dW fi (AA cE 0) t98 λju=>aC.dh ju (AA cE 0) λpH=>R (.tuple #[pH.agg,.I 0]) ju) (λjo=>if(FM !=0) then jo true gR else if(yC !=0) then jo true gR else if(g !=0) then jo true gR else if(aiU !=0) then jo true gR else aa.dh gR (AA BA 0) λt92=>aa.dh gR (AA b 0) λt93=>Cl F.iB #[t92.agg,t93.agg] gR λou sL=> ∃t94,ou=.bool t94/\jo (!t94) sL)) (λJ=>Bd 4 wi/\aP yB λKo=>aa.dh cW (Ko.add (toNat 4*4)) λt46=>Bd 6 wi/\aP yB λRJ=>aa.dh cW (RJ.add (toNat 6*4)) λt49=>(aV cW (.cells (t46.l++t49.l).toArray T.aa) λSP rM=>(Cl F.fO #[.slice (some (AA SP 0)) 2 2] rM λxw qL=>aa.EX λt51=>xw=t51.agg/\(Cl F.oO #[t51.agg] qL λAU vi=>ah.EX λaiV=> ∃aiW,AU=.tuple #[aiV.agg,.I aiW]/\aV vi (.cells ah.S.z.arr T.ah) λb_7 zZ=>ah.dW zZ (AA b_7 0) aiV λBM=>J (some (AA b_7 0)) aiW BM)/\(aV qL (.cells ah.S.z.arr T.ah) λb_8 BN=>Cl F.oO #[t51.agg] BN λDN Ga=>ah.EX λYo=> ∃Yp,DN=.tuple #[Yo.agg,.I Yp]/\ah.dW Ga (AA b_8 0) Yo λIW=>J (some (AA b_8 0)) Yp IW)/\True)/\(aV rM (.cells ah.S.z.arr T.ah) λb_9 He=>Cl F.fO #[.slice (some (AA SP 0)) 2 2] He λEK sr=>aa.EX λaiX=>EK=aiX.agg/\Cl F.oO #[aiX.agg] sr λSQ IX=>ah.EX λYq=> ∃Yr,SQ=.tuple #[Yq.agg,.I Yr]/\ah.dW IX (AA b_9 0) Yq λSR=>J (some (AA b_9 0)) Yr SR)/\True)/\(aV cW (.cells ah.S.z.arr T.ah) λad8 Ls=>Kp cW Ls [(some (RJ.add (toNat 6*4))),(some (Ko.add (toNat 4*4)))]/\aV Ls (.cells (t46.l++t49.l).toArray T.aa) λahk Qi=>Cl F.fO #[.slice (some (AA ahk 0)) 2 2] Qi λDd IY=>aa.EX λaiY=>Dd=aiY.agg/\Cl F.oO #[aiY.agg] IY λEL Mt=>ah.EX λYs=> ∃Yt,EL=.tuple #[Ys.agg,.I Yt]/\ah.dW Mt (AA ad8 0) Ys λtW=>J (some (AA ad8 0)) Yt tW)/\True)):Cl F.te #[x.agg] h R:=aS (lq (lq (sq (bq (lq (cq ll (lq (cq ll lf))))) (lq (lq (sq (.join [(9,.one (.ptr)),(10,.one (.int .i64))] (.qX (jh 6 0 (.alts (.fork 6 (.alts (.fork 7 (.alts (.fork 8 (jh 6 9 .done) (.fork 12 (jh 4 8 (.op 13 (.op 14 .done))) .mE))) (.fork 12 (jh 5 7 (.op 13 (.op 14 .done))) .mE))) (.fork 12 (jh 6 6 (.op 13 (.op 14 .done))) .mE)))))) (sq (pK 19) (lq (sq (sq (.join [(96,.one (.bool))] lf) (cq ll lf)) ll))))))))) Tryz.func194 hv
theorem w6.walk {s:Int} {SU:Int} (hv:if((wrap .u32 ((BitVec.ofInt (IntKind.bits .u32) s &&& BitVec.ofInt (IntKind.bits .u32) 1).toNat:Int))==1) then R (.int .u32 (wrap .u32 ((BitVec.ofInt (IntKind.bits .u32) (Int.fdiv s (2 ^ min (toNat 1) (IntKind.bits .u32))) ^^^ BitVec.ofInt (IntKind.bits .u32) SU).toNat:Int))) h else R (.int .u32 (Int.fdiv s (2 ^ min (toNat 1) (IntKind.bits .u32)))) h):Cl F.w6 #[.int .u32 s,.int .u32 SU] h R:=aS (lq (sq (lq (cq ll lf)) ll)) Tryz.func327 hv
theorem vc.walk {s:Int} {c:Int} {SU:Int} (hv: ∃(I:Int->Int->aj->Prop) (mu:Int->Int->aj->Nat),I (wrap .u32 ((BitVec.ofInt (IntKind.bits .u32) s ^^^ BitVec.ofInt (IntKind.bits .u32) (wrap .u32 c)).toNat:Int)) 0 h/\∀(s_1:Int) (t11:Int) (aR:aj),I s_1 t11 aR->if(decide (t11<8)) then Cl F.w6 #[.int .u32 s_1,.int .u32 SU] aR λv aZ=> ∃t15,v=.int .u32 t15/\(I t15 (wrap .i64 (t11+1)) aZ/\mu t15 (wrap .i64 (t11+1)) aZ<mu s_1 t11 aR) else R (.int .u32 s_1) aR):Cl F.vc #[.int .u32 s,.int .u8 c,.int .u32 SU] h R:=aS (lq (lq (sq (lq (bq (.loop [(0,.one (.int .u32)),(11,.one (.int .i64))] (lq (sq (cq lf lf) (sq (bq lf) lf)))))) ll))) Tryz.func323 hv
theorem zp.walk {s:Int} {Bh:bV} {xe Dr:Nat} {SU:Int} (hv: ∃(I:Int->Int->aj->Prop) (mu:Int->Int->aj->Nat),I s 0 h/\∀(s_1:Int) (t11:Int) (aR:aj),I s_1 t11 aR->if(decide (t11<(xe:Int))) then Bd t11 xe/\aP Bh λa=>V2 aR (a.add (toNat t11*1)) λt14=>Cl F.vc #[.int .u32 s_1,.int .u8 t14,.int .u32 SU] aR λv aZ=> ∃t18,v=.int .u32 t18/\(I t18 (wrap .i64 (t11+1)) aZ/\mu t18 (wrap .i64 (t11+1)) aZ<mu s_1 t11 aR) else R (.int .u32 s_1) aR):Cl F.zp #[.int .u32 s,.slice Bh xe Dr,.int .u32 SU] h R:=aS (lq (sq (lq (bq (.loop [(0,.one (.int .u32)),(11,.one (.int .i64))] (lq (sq (cq lf lf) (sq (bq ll) lf)))))) ll)) Tryz.func315 hv
theorem w4.walk {Bh:bV} {xe Dr:Nat} (hv:Cl F.zp #[.int .u32 65535,.slice Bh xe Dr,.int .u32 33800] h λv aR=> ∃t4,v=.int .u32 t4/\R (.int .u16 (wrap .u16 ((BitVec.ofInt (IntKind.bits .u16) (IntKind.max .u16) ^^^ BitVec.ofInt (IntKind.bits .u16) (wrap .u16 t4)).toNat:Int))) aR):Cl F.w4 #[.slice Bh xe Dr] h R:=aS (lq ll) Tryz.func296 hv
theorem zh.walk {Bh:bV} {xe Dr:Nat} (hv:Cl F.zp #[.int .u32 4294967295,.slice Bh xe Dr,.int .u32 2197175160] h λv aR=> ∃t4,v=.int .u32 t4/\R (.int .u32 (wrap .u32 ((BitVec.ofInt (IntKind.bits .u32) (IntKind.max .u32) ^^^ BitVec.ofInt (IntKind.bits .u32) t4).toNat:Int))) aR):Cl F.zh #[.slice Bh xe Dr] h R:=aS (lq ll) Tryz.func297 hv
theorem km.walk {x:ah.S} (hv:aV h (.cells x.arr T.ah) λb aR=>az.dh aR (AA b 0) λt4=>Cl F.kF #[t4.agg] aR λv aZ=> ∃t5,v=.bool t5/\if t5 then∃t8,ak aZ (AA b 5)=some (.U t8)/\if(decide (t8<=1099511627776)) then∃t13,ak aZ (AA b 6)=some (.U t13)/\R (.bool (decide (t13<=1099511627776))) aZ else R (.bool false) aZ else R (.bool false) aZ):Cl F.km #[x.agg] h R:=aS (lq ll) Tryz.func237 hv
theorem uZ.walk {a:ah.S} {b:ah.S} (hv:aV h (.cells a.arr T.ah) λcE aR=>aV aR (.cells b.arr T.ah) λeZ aZ=>Hu aZ cE 5 λt7=> ∃t9,ak aZ (AA eZ 5)=some (.U t9)/\if(t7 !=t9) then Hu aZ cE 5 λt12=> ∃t14,ak aZ (AA eZ 5)=some (.U t14)/\R (.bool (decide (t12<t14))) aZ else Hu aZ cE 6 λt18=> ∃t20,ak aZ (AA eZ 6)=some (.U t20)/\if(t18 !=t20) then Hu aZ cE 6 λt23=> ∃t25,ak aZ (AA eZ 6)=some (.U t25)/\R (.bool (decide (t23<t25))) aZ else az.dh aZ (AA cE 0) λt28=>az.dh aZ (AA eZ 0) λt30=>Cl F.ab3 #[t28.agg,t30.agg] aZ λv bK=> ∃t31,v=.bool t31/\R (.bool t31) bK):Cl F.uZ #[a.agg,b.agg] h R:=aS (lq (sq (bq (lq (cq ll (lq (cq ll lf))))) ll)) Tryz.func238 hv
theorem oF.walk {x:ah.S} (hv:aV h (.cells x.arr T.ah) λb aR=>aV aR (.cells aa.S.z.arr T.aa) λcE aZ=>ah.dh aZ (AA b 0) λt6=>Cl F.km #[t6.agg] aZ λv bK=> ∃t7,v=.bool t7/\if(!t7) then aa.dW bK (AA cE 0) aa.S.z λcC=>aa.dh cC (AA cE 0) λr0=>R (.tuple #[r0.agg,.I 3]) cC else az.dh bK (AA b 0) λt12=>Cl F.ux #[t12.agg] bK λeK cK=>aa.EX λIh=> ∃vO,eK=.tuple #[Ih.agg,.I vO]/\aV cK (.cells aa.S.z.arr T.aa) λeZ cR=>aa.dW cR (AA eZ 0) Ih λcX=>aa.dh cX (AA eZ 0) λt16=>Hu cX b 5 λt18=>Hu cX b 6 λt21=>Cl F.fI #[.U t18] cX λgS dB=>aa.EX λt19=>gS=t19.agg/\Kp cX dB [(some (AA b 6)),(some (AA eZ 0))]/\Cl F.fI #[.U t21] dB λkV ff=>aa.EX λt22=>kV=t22.agg/\Kp dB ff [(some (AA eZ 0))]/\aV ff (.cells (t19.l++t22.l).toArray T.aa) λjR cQ=>Kp ff cQ [(some (AA eZ 0))]/\Cl F.fO #[.slice (some (AA jR 0)) 2 2] cQ λou cW=>aa.EX λt24=>ou=t24.agg/\Kp cQ cW [(some (AA eZ 0))]/\aV cW (.cells (t16.l++t24.l).toArray T.aa) λpI dE=>Cl F.fO #[.slice (some (AA pI 0)) 2 2] dE λxw dG=>aa.EX λt26=>xw=t26.agg/\aa.dW dG (AA cE 0) t26 λfD=>aa.dh fD (AA cE 0) λia=>R (.tuple #[ia.agg,.I vO]) fD):Cl F.oF #[x.agg] h R:=aS (lq (sq (lq (cq ll lf)) (lq (sq (.qX (jh 3 0 (.op 4 (.op 5 (.op 11 (.op 3 (jh 5 6 (.op 12 (.op 13 .done))))))))) lf)))) Tryz.func204 hv
theorem oO.walk {x:aa.S} (hv:aV h (.cells x.arr T.aa) λb aR=>aV aR (.cells ah.S.z.arr T.ah) λcE aZ=>aK (λ(t34:Bool) (bK:aj)=>if t34 then ah.dW bK (AA cE 0) ah.S.z λcC=>ah.dh cC (AA cE 0) λr0=>R (.tuple #[r0.agg,.I 3]) cC else Hl bK b 3 λrK rL vh=>Bd 0 rL/\aP rK λa=>aa.dh bK (a.add (toNat 0*4)) λt40=>Cl F.tj #[t40.agg] bK λv cK=>az.EX λxh=> ∃xi,v=.tuple #[xh.agg,.I xi]/\aV cK (.cells az.S.z.arr T.az) λeZ cR=>az.dW cR (AA eZ 0) xh λcX=>az.dh cX (AA eZ 0) λt44=>Hl cX b 3 λSf Sg Xp=>Bd 1 Sg/\aP Sf λkz=>L4 cX ((kz.add (toNat 1*4)).add 3) λNl KK RY=>Bd 0 KK/\aP Nl λpF=>JM cX ((pF.add (toNat 0*4)).add 1) λt52=>Hl cX b 3 λIc CT KM=>Bd 1 CT/\aP Ic λrZ=>L4 cX ((rZ.add (toNat 1*4)).add 3) λN0 N1 SV=>Bd 1 N1/\aP N0 λvT=>JM cX ((vT.add (toNat 1*4)).add 1) λt60=>aV cX (.cells ah.S.z.arr T.ah) λjR dB=>Kp cX dB [(some ((vT.add (toNat 1*4)).add 1)),(some ((rZ.add (toNat 1*4)).add 3)),(some (AA b 3)),(some ((pF.add (toNat 0*4)).add 1)),(some ((kz.add (toNat 1*4)).add 3)),(some (AA b 3)),(some (AA eZ 0))]/\ah.dW dB (AA jR 0) ⟨t44.f0,t44.f1,t44.f2,t44.f3,t44.f4,t52,t60⟩ λff=>ah.dh ff (AA jR 0) λt63=>Cl F.oF #[t63.agg] ff λeK cQ=>aa.EX λXr=> ∃Ii,eK=.tuple #[Xr.agg,.I Ii]/\aV cQ (.cells aa.S.z.arr T.aa) λpI cW=>aa.dW cW (AA pI 0) Xr λdE=>aK (λ(t78:Bool) (dG:aj)=>if t78 then ah.dW dG (AA cE 0) ah.S.z λfD=>ah.dh fD (AA cE 0) λia=>R (.tuple #[ia.agg,.I 3]) fD else ah.dh dG (AA jR 0) λt80=>ah.dW dG (AA cE 0) t80 λgE=>ah.dh gE (AA cE 0) λoT=>R (.tuple #[oT.agg,.I 0]) gE) (λjo=>if(xi !=0) then jo true dE else if(Ii !=0) then jo true dE else aa.dh dE (AA pI 0) λt74=>aa.dh dE (AA b 0) λt75=>Cl F.iB #[t74.agg,t75.agg] dE λgS gX=> ∃t76,gS=.bool t76/\jo (!t76) gX)) (λJ=> ∃t10,ak aZ (AA b 0)=some (.I t10)/\if(t10 !=4) then J true aZ else∃Bi vf Bj,ak aZ (AA b 3)=some (.slice Bi vf Bj)/\if((vf:Int) !=2) then J true aZ else Hl aZ b 3 λuo tQ vP=>Bd 1 tQ/\aP uo λBK=> ∃t23,ak aZ (BK.add (toNat 1*4))=some (.I t23)/\if(t23 !=4) then J true aZ else Hl aZ b 3 λBl zD Fl=>Bd 1 zD/\aP Bl λKo=> ∃yg vK CE,ak aZ ((Ko.add (toNat 1*4)).add 3)=some (.slice yg vK CE)/\J ((vK:Int) !=2) aZ)):Cl F.oO #[x.agg] h R:=aS (lq (sq (sq (.join [(34,.one (.bool))] lf) (cq ll lf)) (lq (sq (pK 20) (sq (lq (sq (.join [(78,.one (.bool))] lf) (cq ll lf))) ll))))) Tryz.func246 hv
theorem od.walk {m:Nat} {now:Int} (hv:aV h (.cells ah.S.z.arr T.ah) λb aR=>aK (λ(aZ:aj)=>ah.dh aZ (AA m 0) λt58=>ah.dW aZ (AA b 0) t58 λbK=>ah.dh bK (AA b 0) λr0=>R (.tuple #[r0.agg,.I 0]) bK) (λJ=>aK (λ(t15:Bool) (cC:aj)=>aK (λ(cK:aj)=>J cK) (λBp=>if t15 then ah.dW cC (AA b 0) ah.S.z λcR=>ah.dh cR (AA b 0) λia=>R (.tuple #[ia.agg,.I 6]) cR else aK (λ(cX:aj)=>Bp cX) (λGH=>if(decide (now>1099511627776)) then ah.dW cC (AA b 0) ah.S.z λdB=>ah.dh dB (AA b 0) λoT=>R (.tuple #[oT.agg,.I 1]) dB else Hu cC m 5 λt36=>aK (λ(ff:aj)=>GH ff) (λJ_4=>if(decide (now>t36)) then aH cC (AA m 5) (.U now) λcQ=>aH cQ (AA m 6) (.U 0) λcW=>J_4 cW else∃t52,ak cC (AA m 6)=some (.U t52)/\if(decide (t52≥1099511627776)) then ah.dW cC (AA b 0) ah.S.z λdE=>ah.dh dE (AA b 0) λpH=>R (.tuple #[pH.agg,.I 5]) dE else∃t10,ak cC (AA m 6)=some (.U t10)/\aH cC (AA m 6) (.U (wrap .u64 (t10+1))) λdG=>J_4 dG)))) (λjo=> ∃t22,ak aR (AA m 7)=some (.bool t22)/\jo (!t22) aR))):Cl F.od #[.P m 0,.U now] h R:=aS (lq (sq (.join [] (bq (sq (.join [(15,.one (.bool))] lf) (.join [] (cq ll (lq (.join [] (cq ll (lq (.join [] (cq lf (lq (cq ll lf))))))))))))) ll)) Tryz.func190 hv
theorem lX.walk {m:Nat} {x:ah.S} (hv:aV h (.cells x.arr T.ah) λb aR=>aK (λ(t5:Bool) (aZ:aj)=>if t5 then R (.I 6) aZ else aK (λ(t15:Bool) (bK:aj)=>if t15 then R (.I 1) bK else ah.dh bK (AA m 0) λt33=>ah.dh bK (AA b 0) λt34=>Cl F.uZ #[t33.agg,t34.agg] bK λv cC=> ∃t35,v=.bool t35/\if(!t35) then R (.I 7) cC else ah.dh cC (AA b 0) λt38=>ah.dW cC (AA m 0) t38 λcK=>R (.I 0) cK) (λjo=>ah.dh aZ (AA b 0) λt16=>Cl F.km #[t16.agg] aZ λeK cR=> ∃t17,eK=.bool t17/\if(!t17) then jo true cR else az.dh cR (AA b 0) λt21=>az.dh cR (AA m 0) λt26=> ∃(eq:Bool),Hq Tryz.prog T.az (t21.agg) (t26.agg) eq/\jo (!eq) cR)) (λJ=> ∃t12,ak aR (AA m 7)=some (.bool t12)/\J (!t12) aR)):Cl F.lX #[.P m 0,x.agg] h R:=aS (lq (sq (bq (sq (.join [(5,.one (.bool))] lf) (cq ll (sq (.join [(15,.one (.bool))] (pK 14)) (cq ll (sq (pK 8) (cq ll lf))))))) (lq ll))) Tryz.func189 hv
theorem ux.walk {x:az.S} (hv:aV h (.cells x.arr T.az) λb aR=>aV aR (.cells aa.S.z.arr T.aa) λcE aZ=>az.dh aZ (AA b 0) λt5=>Cl F.kF #[t5.agg] aZ λv bK=> ∃t6,v=.bool t6/\if(!t6) then aa.dW bK (AA cE 0) aa.S.z λcC=>aa.dh cC (AA cE 0) λr0=>R (.tuple #[r0.agg,.I 3]) cC else az.dh bK (AA b 0) λt10=> ∃(eq:Bool),Hq Tryz.prog T.az (t10.agg) (az.S.z.agg) eq/\if eq then Cl F.fI #[.U 1] bK λeK cK=>aa.EX λt13=>eK=t13.agg/\Cl F.fI #[.U 0] cK λgS cR=>aa.EX λt14=>gS=t14.agg/\aV cR (.cells (t13.l++t14.l).toArray T.aa) λeZ cX=>Cl F.fO #[.slice (some (AA eZ 0)) 2 2] cX λkV dB=>aa.EX λt16=>kV=t16.agg/\aa.dW dB (AA cE 0) t16 λff=>aa.dh ff (AA cE 0) λia=>R (.tuple #[ia.agg,.I 0]) ff else∃t19,ak bK (AA b 0)=some (.bool t19)/\if t19 then Hu bK b 1 λt22=>Hu bK b 2 λt25=>Cl F.fI #[.U 2] bK λou cQ=>aa.EX λt20=>ou=t20.agg/\Kp bK cQ [(some (AA b 2)),(some (AA b 1))]/\Cl F.fI #[.U t22] cQ λxw cW=>aa.EX λt23=>xw=t23.agg/\Kp cQ cW [(some (AA b 2))]/\Cl F.fI #[.U t25] cW λAU dE=>aa.EX λt26=>AU=t26.agg/\aV dE (.cells (t23.l++t26.l).toArray T.aa) λjR dG=>Cl F.fO #[.slice (some (AA jR 0)) 2 2] dG λDN fD=>aa.EX λt28=>DN=t28.agg/\aV fD (.cells (t20.l++t28.l).toArray T.aa) λpI gE=>Cl F.fO #[.slice (some (AA pI 0)) 2 2] gE λEK gX=>aa.EX λt30=>EK=t30.agg/\aa.dW gX (AA cE 0) t30 λgR=>aa.dh gR (AA cE 0) λoT=>R (.tuple #[oT.agg,.I 0]) gR else az.dh bK (AA b 0) λt32=>Cl F.fI #[.U 1] bK λSQ fi=>aa.EX λt31=>SQ=t31.agg/\Kp bK fi [(some (AA b 0))]/\Cl F.Cq #[t32.agg] fi λDd jn=> ∃t33,Dd=.string t33/\Cl F.ze #[.string t33] jn λEL ju=>aa.EX λt34=>EL=t34.agg/\aV ju (.cells (t31.l++t34.l).toArray T.aa) λBA sL=>Cl F.fO #[.slice (some (AA BA 0)) 2 2] sL λQj rM=>aa.EX λt36=>Qj=t36.agg/\aa.dW rM (AA cE 0) t36 λqL=>aa.dh qL (AA cE 0) λpH=>R (.tuple #[pH.agg,.I 0]) qL):Cl F.ux #[x.agg] h R:=aS (lq (sq (bq (lq (cq ll (lq (cq ll (lq (cq (sq (.qX (.op 1 (.op 2 (.op 4 (.op 5 (.op 0 (.op 3 (jh 7 6 .done)))))))) lf) lf))))))) (sq (.qX (.op 1 (.op 0 (jh 6 2 .done)))) lf))) Tryz.func203 hv
theorem rC.walk {s:ByteArray} (hv:aV h (.cells az.S.z.arr T.az) λb aR=>Cl F.strings_CutPrefix #[.string s,.string (⟨#[47,47]⟩:ByteArray)] aR λv aZ=> ∃CK xj,v=.tuple #[.string CK,.bool xj]/\Cl F.strings_Cut #[.string CK,.string (⟨#[47]⟩:ByteArray)] aZ λeK bK=> ∃yy xr Sa,eK=.tuple #[.string yy,.string xr,.bool Sa]/\aV bK (.cells az.S.z.arr T.az) λcE cC=>az.dW cC (AA cE 0) ⟨false,0,0,yy,xr⟩ λcK=>az.dh cK (AA cE 0) λt24=>if xj then if Sa then if(!(yy.toList==ka.toList)) then az.dh cK (AA cE 0) λt34=>Cl F.kF #[t34.agg] cK λgS cR=> ∃t35,gS=.bool t35/\Kp cK cR [(some (AA cE 0))]/\az.dW cR (AA b 0) t24 λcX=>az.dh cX (AA b 0) λr0=>R (.tuple #[r0.agg,.bool t35]) cX else az.dW cK (AA b 0) t24 λdB=>az.dh dB (AA b 0) λia=>R (.tuple #[ia.agg,.bool false]) dB else az.dW cK (AA b 0) t24 λff=>az.dh ff (AA b 0) λoT=>R (.tuple #[oT.agg,.bool false]) ff else az.dW cK (AA b 0) t24 λcQ=>az.dh cQ (AA b 0) λpH=>R (.tuple #[pH.agg,.bool false]) cQ):Cl F.rC #[.string s] h R:=aS (lq (lq (lq (lq (sq (pK 15) lf))))) Tryz.func286 hv
theorem u0.walk {x:aa.S} {n:Int} (hv:aV h (.cells x.arr T.aa) λb aR=>aK (λ(t18:Bool) (aZ:aj)=>if t18 then R (.tuple #[.Z,.bool false]) aZ else Hl aZ b 3 λuo tQ vP=> ∃(I:bV->Nat->Nat->Int->aj->Prop) (mu:bV->Nat->Nat->Int->aj->Nat),I none 0 0 0 aZ/\∀(kJ:bV) (kK kL:Nat) (t22:Int) (bK:aj),I kJ kK kL t22 bK->if(decide (t22<(tQ:Int))) then Bd t22 tQ/\aP uo λa=>aa.dh bK (a.add (toNat t22*4)) λt25=>aV bK (.cells aa.S.z.arr T.aa) λcE cC=>aa.dW cC (AA cE 0) t25 λcK=>aa.dh cK (AA cE 0) λt26=>Hu cK cE 1 λt28=>Cl F.fI #[.U t28] cK λv cR=>aa.EX λt29=>v=t29.agg/\Kp cK cR [(some (AA cE 0))]/\Cl F.iB #[t26.agg,t29.agg] cR λeK cX=> ∃t30,eK=.bool t30/\if(!t30) then R (.tuple #[.Z,.bool false]) cX else Hu cX cE 1 λt34=>aV cX (.cells #[.U t34] T.uint64) λeZ dB=>aX Tryz.prog (Builtin.append_ #[T.Cu,T.Cu] T.Cu #[.slice kJ kK kL,.slice (some (AA eZ 0)) 1 1]) dB λgS ff=> ∃Sq NL Xx,gS=.slice Sq NL Xx/\(I Sq NL Xx (wrap .i64 (t22+1)) ff/\mu Sq NL Xx (wrap .i64 (t22+1)) ff<mu kJ kK kL t22 bK) else R (.tuple #[.slice kJ kK kL,.bool true]) bK) (λJ=> ∃t10,ak aR (AA b 0)=some (.I t10)/\if(t10 !=4) then J true aR else∃Bi vf Bj,ak aR (AA b 3)=some (.slice Bi vf Bj)/\J ((vf:Int) !=n) aR)):Cl F.u0 #[x.agg,.I n] h R:=aS (lq (sq (sq (.join [(18,.one (.bool))] lf) (cq ll lf)) (lq (sq (lq (bq (.loop [(6,.one (.slice)),(22,.one (.int .i64))] (lq (sq (cq lf lf) (sq (bq (lq (sq (sq (pK 6) (cq ll lf)) lf))) lf)))))) ll)))) Tryz.func287 hv
theorem tj.walk {x:aa.S} (hv:aV h (.cells x.arr T.aa) λb aR=>aV aR (.cells az.S.z.arr T.az) λcE aZ=>aK (λ(t22:Bool) (bK:aj)=>if t22 then az.dW bK (AA cE 0) az.S.z λcC=>az.dh cC (AA cE 0) λr0=>R (.tuple #[r0.agg,.I 3]) cC else aK (λ(scheme:bV) (rest:bV) (cK:aj)=>aV cK (.cells az.S.z.arr T.az) λeZ cR=>aK (λ(ok:Bool) (cX:aj)=>if(!ok) then az.dW cX (AA cE 0) az.S.z λdB=>az.dh dB (AA cE 0) λia=>R (.tuple #[ia.agg,.I 3]) dB else az.dh cX (AA eZ 0) λt80=>az.dW cX (AA cE 0) t80 λff=>az.dh ff (AA cE 0) λoT=>R (.tuple #[oT.agg,.I 0]) ff) (λBp=>aK (λ(t32:Bool) (cQ:aj)=>aK (λ(ad9:Bool) (cW:aj)=>Bp ad9 cW) (λJ_4=>if t32 then az.dW cQ (AA cE 0) az.S.z λdE=>az.dh dE (AA cE 0) λpH=>R (.tuple #[pH.agg,.I 0]) dE else aK (λ(t42:Bool) (dG:aj)=>aK (λ(VC:Bool) (fD:aj)=>J_4 VC fD) (λJ_6=>if t42 then aP rest λa=>L4 dG (a.add 2) λaoC aoD aoE=> ∃(t54:ByteArray),DQ Tryz.prog T.du T.string (.slice aoC aoD aoE) dG t54/\Cl F.rC #[.string t54] dG λv gE=>az.EX λud=> ∃tG,v=.tuple #[ud.agg,.bool tG]/\az.dW gE (AA eZ 0) ud λgX=>J_6 tG gX else aP scheme λkz=>aa.dh dG kz λt59=>Cl F.fI #[.U 2] dG λeK gR=>aa.EX λt60=>eK=t60.agg/\Kp dG gR [scheme]/\Cl F.iB #[t59.agg,t60.agg] gR λgS fi=>Vb gS λt61=>aK (λ(Lt:Bool) (jn:aj)=>J_6 Lt jn) (λJ_7=>if t61 then aP rest λpF=>aa.dh fi pF λt63=>Cl F.u0 #[t63.agg,.I 2] fi λkV ju=> ∃Qk Ql ahl Ii,kV=.tuple #[.slice Qk Ql ahl,.bool Ii]/\aK (λ(ahm:Bool) (sL:aj)=>J_7 ahm sL) (λJ_8=>if Ii then Bd 0 Ql/\aP Qk λrZ=>JM ju (rZ.add (toNat 0*1)) λt70=>Bd 1 Ql/\aP Qk λvT=>JM ju (vT.add (toNat 1*1)) λt73=>az.dW ju (AA eZ 0) ⟨true,t70,t73,ka,ka⟩ λrM=>az.dh rM (AA eZ 0) λt75=>Cl F.kF #[t75.agg] rM λou qL=> ∃t76,ou=.bool t76/\J_8 t76 qL else J_8 Ii ju) else J_7 false fi))) (λJ_5=>aP scheme λBK=>aa.dh cQ BK λt43=>Cl F.fI #[.U 1] cQ λxw vi=>aa.EX λt44=>xw=t44.agg/\Kp cQ vi [scheme]/\Cl F.iB #[t43.agg,t44.agg] vi λAU zZ=> ∃t45,AU=.bool t45/\if t45 then aP rest λKo=> ∃t48,ak zZ Ko=some (.I t48)/\J_5 (t48==3) zZ else J_5 false zZ))) (λGH=>aP scheme λRJ=>aa.dh cR RJ λt33=>Cl F.fI #[.U 1] cR λDN BM=>aa.EX λt34=>DN=t34.agg/\Kp cR BM [scheme]/\Cl F.iB #[t33.agg,t34.agg] BM λEK BN=> ∃t35,EK=.bool t35/\if t35 then aP rest λa_8=>aa.dh BN a_8 λt37=>Cl F.fI #[.U 0] BN λSQ Ga=>aa.EX λt38=>SQ=t38.agg/\Kp BN Ga [rest]/\Cl F.iB #[t37.agg,t38.agg] Ga λDd IW=> ∃t39,Dd=.bool t39/\GH t39 IW else GH false BN))) (λjo=>Hl bK b 3 λacg ahX Wb=>Bd 0 ahX/\aP acg λa_9=>aa.dh bK (a_9.add (toNat 0*4)) λt27=>Hl bK b 3 λBm ye CA=>Bd 1 ye/\aP Bm λQm=>aa.dh bK (Qm.add (toNat 1*4)) λt31=>(aV bK (.cells aa.S.z.arr T.aa) λjR He=>Kp bK He [(some (Qm.add (toNat 1*4))),(some (AA b 3)),(some (a_9.add (toNat 0*4))),(some (AA b 3))]/\aV He (.cells aa.S.z.arr T.aa) λpI sr=>Kp He sr [(some (Qm.add (toNat 1*4))),(some (AA b 3)),(some (a_9.add (toNat 0*4))),(some (AA b 3))]/\aa.dW sr (AA jR 0) t27 λIX=>Kp sr IX [(some (Qm.add (toNat 1*4))),(some (AA b 3))]/\aa.dW IX (AA pI 0) t31 λSR=>jo (some (AA jR 0)) (some (AA pI 0)) SR)/\(aV bK (.cells aa.S.z.arr T.aa) λBA Ls=>Kp bK Ls [(some (Qm.add (toNat 1*4))),(some (AA b 3)),(some (a_9.add (toNat 0*4))),(some (AA b 3))]/\aV Ls (.cells aa.S.z.arr T.aa) λSP Qi=>Kp Ls Qi [(some (Qm.add (toNat 1*4))),(some (AA b 3)),(some (a_9.add (toNat 0*4))),(some (AA b 3))]/\aa.dW Qi (AA SP 0) t27 λIY=>Kp Qi IY [(some (Qm.add (toNat 1*4))),(some (AA b 3))]/\aa.dW IY (AA BA 0) t31 λMt=>jo (some (AA SP 0)) (some (AA BA 0)) Mt)/\True)) (λJ=>aa.dh aZ (AA b 0) λt9=>Cl F.oN #[t9.agg] aZ λEL tW=> ∃t10,EL=.bool t10/\if(!t10) then J true tW else∃t14,ak tW (AA b 0)=some (.I t14)/\if(t14 !=4) then J true tW else∃CI zL CJ,ak tW (AA b 3)=some (.slice CI zL CJ)/\J ((zL:Int) !=2) tW)):Cl F.tj #[x.agg] h R:=aS (lq (sq (sq (.join [(22,.one (.bool))] lf) (cq ll lf)) (sq (.join [(4,.one (.ptr)),(5,.one (.ptr))] (.qX (jh 8 0 (.alts (.fork 8 (jh 3 9 .done) (.fork 9 (.op 8 (.op 10 (.op 11 .done))) .mE)))))) (lq (lq (sq (.join [(7,.one (.bool))] (bq (sq (.join [(32,.one (.bool))] (pK 9)) (.join [(7,.one (.bool))] (cq ll (sq (.join [(42,.one (.bool))] (pK 9)) (.join [(7,.one (.bool))] (cq lf (sq (pK 4) (.join [(7,.one (.bool))] (cq (lq (lq (lq (.join [(7,.one (.bool))] (cq (sq (pK 8) lf) lf))))) lf))))))))))) (sq (lq (cq ll lf)) ll))))))) Tryz.func245 hv
end
section
namespace Bn
open Cb
open qJ (Ev dk uH)
variable {h:aj} {R:iI}
theorem akR {n:Nat} (hn:n<4294967296):IntKind.wrap .u32 (n:Int)=(n:Int):=by
 have e:IntKind.wrap .u32 (n:Int)=(n:Int)%4294967296:=by simp[IntKind.wrap,IntKind.bits,IntKind.signed]
 rw[e];omega
theorem b32 {n:Nat} (hn:n<4294967296):(BitVec.ofInt (IntKind.bits .u32) (n:Int)).toNat=n:=by
 rw[BitVec.ofInt_natCast,BitVec.toNat_ofNat];exact jl hn
theorem aea {a b:Nat} (ha:a<4294967296) (hb:b<4294967296):IntKind.wrap .u32 ((BitVec.ofInt (IntKind.bits .u32) (a:Int) ^^^ BitVec.ofInt (IntKind.bits .u32) (b:Int)).toNat:Int)=((a ^^^ b:Nat):Int):=by
 rw[BitVec.toNat_xor,b32 ha,b32 hb];exact akR (Nat.xor_lt_two_pow (n:=32) ha hb)
theorem aoF {s:Nat} (hs:s<4294967296):IntKind.wrap .u32 ((BitVec.ofInt (IntKind.bits .u32) (s:Int) &&& BitVec.ofInt (IntKind.bits .u32) 1).toNat:Int)=((s%2:Nat):Int):=by
 rw[BitVec.toNat_and,b32 hs,show(BitVec.ofInt (IntKind.bits .u32) 1).toNat=1 from rfl,Nat.and_one_is_mod];exact akR (by omega)
theorem akS (s:Nat):Int.fdiv (s:Int) (2 ^ min (Int.toNat 1) (IntKind.bits .u32))=((s/2:Nat):Int):=ad5 s 1
theorem aa6 {s q:Nat} (hs:s<4294967296) (hq:q<4294967296):Az s q<4294967296:=by
 unfold Az;split
 ·exact Nat.xor_lt_two_pow (n:=32) (show s/2<2 ^ 32 by omega) hq
 ·omega
theorem aeb {s q:Nat} (hs:s<4294967296) (hq:q<4294967296) (hk:R (.int .u32 (Az s q:Int)) h):Cl F.w6 #[.int .u32 (s:Int),.int .u32 (q:Int)] h R:=by
 refine w6.walk ?_;unfold Az at hk;rw[aoF hs,akS,aea (by omega) hq];by_cases c:s%2=1
 ·rw[ag (by rw[c];rfl)];rw[ag c] at hk;exact hk
 ·rw[ai (λe=>c (by have:=eq_of_beq e;omega))];rw[ai c] at hk;exact hk
theorem Lu (q:Nat): ∀(k s:Nat),Cv q (k+1) s=Az (Cv q k s) q
 |0,_=>rfl
 |k+1,s=>by
  show Cv q (k+1) (Az s q)=Az (Cv q k (Az s q)) q;exact Lu q k _
theorem Lv {q:Nat} (hq:q<4294967296): ∀(k s:Nat),s<4294967296->Cv q k s<4294967296
 |0,_,hs=>hs
 |k+1,s,hs=>Lv hq k _ (aa6 hs hq)
theorem aa7 {s c q:Nat} (hs:s<4294967296) (hc:c<256) (hq:q<4294967296) (hk:R (.int .u32 (ahW s c q:Int)) h):Cl F.vc #[.int .u32 (s:Int),.int .u8 (c:Int),.int .u32 (q:Int)] h R:=by
 have hx:=Nat.xor_lt_two_pow (n:=32) (x:=s) (y:=c) hs (by omega);refine vc.walk ⟨λz t g=>g=h/\∃i:Nat,t=(i:Int)/\i<=8/\z=(Cv q i (s ^^^ c):Int),λ_ t _=>8 - t.toNat,⟨rfl,0,rfl,by omega,?_⟩,?_⟩
 ·rw[akR (n:=c) (by omega),aea hs (by omega)];rfl
 rintro _ _ _ ⟨rfl,i,rfl,hi,rfl⟩;have hl:=Lv hq i (s ^^^ c) hx;by_cases c1:i<8
 ·rw[jy];refine aeb hl hq ⟨_,rfl,?_⟩;rw[bL (by omega) (by omega),<-Lu];exact⟨⟨rfl,i+1,by omega,by omega,rfl⟩,by show 8 - Int.toNat ((i:Int)+1)<8 - Int.toNat (i:Int);omega⟩
 ·rw[ai (λe=>c1 (by have:=of_decide_eq_true e;omega))];obtain rfl:i=8:=by omega
  exact hk
theorem Qn {q:Nat} (hq:q<4294967296): ∀(b:List UInt8) (s:Nat),s<4294967296->runN s b q<4294967296
 | [],_,hs=>hs
 |c::b,s,hs=>Qn hq b _ (Lv hq 8 _ (Nat.xor_lt_two_pow (n:=32) hs (by have:=c.toNat_lt;omega)))
theorem aec {s q:Nat} {p:bV} {l c:Nat} {bs:List UInt8} (hs:s<4294967296) (hq:q<4294967296) (row:Row h p (bc bs)) (hl:l=bs.length) (hlen:bs.length<=100000000) (hk:R (.int .u32 (runN s bs q:Int)) h):Cl F.zp #[.int .u32 (s:Int),.slice p l c,.int .u32 (q:Int)] h R:=by
 subst hl;refine zp.walk ⟨λz t g=>g=h/\∃i:Nat,t=(i:Int)/\i<=bs.length/\z=(runN s (bs.take i) q:Int),λ_ t _=>bs.length - t.toNat,⟨rfl,0,rfl,by omega,by rw[fN];rfl⟩,?_⟩;rintro _ _ _ ⟨rfl,i,rfl,hi,rfl⟩;by_cases c1:i<bs.length
 ·rw[jy];obtain⟨a,rfl,cx⟩:=Cb.byte_at row c1;refine⟨⟨by omega,by omega⟩,aB.2 ⟨_,by rw[aL];exact cx,aa7 (Qn hq _ _ hs) (bs[i]).toNat_lt hq ⟨_,rfl,?_⟩⟩⟩;rw[bL (by omega) (by omega)];refine⟨⟨rfl,i+1,by omega,by omega,?_⟩,by show bs.length - Int.toNat ((i:Int)+1)<bs.length - Int.toNat (i:Int);omega⟩;rw[bZ,au c1];unfold runN;rw[List.foldl_append];rfl
 ·rw[ai (λe=>c1 (by have:=of_decide_eq_true e;omega))];rw[bT (by omega)];exact hk
theorem aed {p:bV} {l c:Nat} {bs:List UInt8} (row:Row h p (bc bs)) (hl:l=bs.length) (hlen:bs.length<=100000000) (hk:R (.int .u16 (Ke bs:Int)) h):Cl F.w4 #[.slice p l c] h R:=by
 refine w4.walk (aec (s:=65535) (q:=33800) (by decide) (by decide) row hl hlen ⟨_,rfl,?_⟩);unfold Ke at hk;generalize runN 65535 bs 33800=z at hk⊢;have e:IntKind.wrap .u16 (z:Int)=((z%65536:Nat):Int):=by
  have e:IntKind.wrap .u16 (z:Int)=(z:Int)%65536:=by simp[IntKind.wrap,IntKind.bits,IntKind.signed]
  rw[e];omega
 rw[e];have h1:z%65536<65536:=by omega
 generalize z%65536=y at hk h1⊢;have e2:(BitVec.ofInt (IntKind.bits .u16) (IntKind.max .u16) ^^^ BitVec.ofInt (IntKind.bits .u16) (y:Int)).toNat=65535 ^^^ y:=by
  rw[BitVec.toNat_xor,BitVec.ofInt_natCast,BitVec.toNat_ofNat,show(BitVec.ofInt (IntKind.bits .u16) (IntKind.max .u16)).toNat=65535 from rfl,show(2:Nat) ^ IntKind.bits .u16=65536 from rfl,jl h1]
 rw[e2];have e3:IntKind.wrap .u16 ((65535 ^^^ y:Nat):Int)=((65535 ^^^ y:Nat):Int):=by
  have hx:=Nat.xor_lt_two_pow (n:=16) (x:=65535) (y:=y) (by decide) (by omega);have e:IntKind.wrap .u16 ((65535 ^^^ y:Nat):Int)=((65535 ^^^ y:Nat):Int)%65536:=by simp[IntKind.wrap,IntKind.bits,IntKind.signed]
  rw[e];omega
 rw[e3];exact hk
theorem ahn {p : Option Addr} {l c : Nat} {bs : List UInt8} (row : Row h p (bc bs)) (hl : l = bs.length) (hlen : bs.length ≤ 100000000) (hk : R (.int .u32 (HP bs : Int)) h) : Cl F.zh #[.slice p l c] h R := by
  refine zh.walk (aec (s := 4294967295) (q := 2197175160) (by decide) (by decide) row hl hlen ⟨_, rfl, ?_⟩)
  have := aea (a := 4294967295) (b := runN 4294967295 bs 2197175160) (by decide) (Qn (by decide) _ _ (by decide))
  rw [show (IntKind.max .u32) = ((4294967295 : Nat) : Int) from rfl, this]
  exact hk
end Bn
end
section
namespace Cb
variable {h h0 h':aj} {R:iI} {D D':Nat→Prop}
abbrev CV.s (x:CV):aa.S:=⟨x.k,x.n,x.v.p,x.v.b.length,x.v.c,x.q,x.ll,x.cl⟩
abbrev nv (n:Nat):CV:=⟨0,n,⟨none,0, []⟩,none,0,0⟩
theorem Ef.frame {Q:Nat->Prop} {t:Tr} {x:CV} (H:Ef h D t x) (f:Fr Q h h') (hq: ∀y,D y->¬Q y):Ef h' D t x:=by
 obtain⟨⟨a,b,c,d⟩,ys,h2,h3,h4,h5⟩:=H;exact⟨⟨a,b,c,d.frame f hq⟩,ys,h2,h3.frame f (λy hy=>hq y (h4 y hy)),h4,dH.frame f (λy hy=>hq y hy.1) h5⟩
theorem Ef.mono {t:Tr} {x:CV} (H:Ef h D t x) (hd: ∀y,D y->D' y):Ef h D' t x:=by
 obtain⟨⟨a,b,c,d⟩,ys,h2,h3,h4,h5⟩:=H;exact⟨⟨a,b,c,d.mono hd⟩,ys,h2,h3,λy hy=>hd y (h4 y hy),dH.mono (λy hy=>⟨hd y hy.1,hy.2⟩) h5⟩
abbrev SW (h:aj) (t:Tr) (x:CV):Prop:=kU h (λ_=>True) t x
abbrev Mu (h:aj) (ts:List Tr) (xs:List CV):Prop:=dH h (λ_=>True) ts xs
theorem kU.u {t:Tr} {x:CV} (H:kU h D t x):SW h t x:=H.mono λ_ _=>trivial
theorem dH.u {t:List Tr} {x:List CV} (H:dH h D t x):Mu h t x:=H.mono λ_ _=>trivial
theorem Ef.u {t:Tr} {x:CV} (H:Ef h D t x):SW h t x:=H.toA.u
theorem dH.nil:dH h D [] []:=by unfold dH;trivial
theorem dH.cons {t:Tr} {y:CV} {ts:List Tr} {ys:List CV} (a:kU h D t y) (b:dH h D ts ys):dH h D (t::ts) (y::ys):=by unfold dH;exact⟨a,b⟩
theorem xL {n:Nat} :SW h (num n) (nv n):=akP.toA
theorem two {t u:Tr} {x y:CV} (a:kU h D t x) (b:kU h D u y):dH h D [t,u] [x,y]:=.cons a (.cons b .nil)
theorem Aa {ys:List CV} {K:Nat->aj->Prop} {c:Array Value} (hc:c=(ys.flatMap mK).toArray) (hk: ∀b h',b=h.size->(∀D,D b->xE h' D (some (AA b 0)) ys.length ys.length ys)->Fr No h h'->K b h'):aV h (.cells c T.aa) K:=by
 refine cY (hk _ _ rfl (λD hD=>⟨rfl,by rw[hc];exact rW,λ_ y ⟨a,e,e'⟩=>by cases e;rw[<-e'];exact hD,bh _⟩) (Fr.push _ _))
theorem AZ {ts:List Tr} {ys:List CV} {c:Array Value} {l:Nat} (TS:Mu h ts ys) (hr:dZ ts<=100000000) (hc:c=(ys.flatMap mK).toArray) (hl:l=ys.length) (hk: ∀h' z,Ef h' (λy=>h.size<=y) (DF ts) z->Fr No h h'->R z.agg h'):
  aV h (.cells c T.aa) λb g=>Cl F.fO #[.slice (some (AA b 0)) l l] g R:=by
 subst hl;refine Aa hc λb h1 eb L f1=>rV (L (λ_=>True) trivial) (TS.on f1) hr λh2 z tz f2=>hk h2 z (tz.mono λy hy=>by have:=f1.1;omega) (f1.tt f2)
theorem aho {s:ByteArray} (hk: ∀h' (v:BV),v.b=s.data.toList->v.ok h' (λy=>h.size<=y)->Fr No h h'->R (CV.agg ⟨3,0,v,none,0,0⟩) h'):Cl F.ze #[.string s] h R:=by
 refine ze.walk (aa.box λb h1 eb hb f1=>vg.s2b λp c h2 row hc f2 nw=>⟨_,_,_,rfl,aa.set (f2.get hb id) λh3 d1 d2 d3=>aa.ld d1 ?_⟩);have f3:Fr (λy=>y=b) h2 h3:=Fr.of_eq d2 (λc hc=>d3 c hc);have z1:=f1.1;have zb:=aI hb;have e:s.size=s.data.toList.length:=(qJ.zU s).symm;have ok:BV.ok h3 (λy=>h.size<=y) ⟨p,c,s.data.toList⟩:=by
  refine⟨?_,λ_ y hy=>by have:=nw y hy;omega,by show s.data.toList.length<=c;omega⟩;by_cases q:s.data.toList= []
  ·show Row h3 p (bc s.data.toList);rw[q];exact Row.nil
  ·exact row.frame f3 (λa ea ey=>by have:=nw a.block ⟨a,ea,rfl⟩;omega)
 have:=hk h3 ⟨p,c,s.data.toList⟩ rfl ok ((f1.tt f2).fresh f3 (λy e=>by omega));unfold CV.agg mK BV.val at this;rw[e];exact this
end Cb
namespace Bn
open Cb
open qJ (Ev dk uH)
variable {V : List UInt8 → Bool} {h h0 h' : aj} {R : Value → aj → Prop} {D : Nat → Prop}
abbrev _root_.Go.Proofs.YtlenamcfacpheaaGreatDoor.qJ.Ev.s (x:Ev):az.S:=⟨x.vE,x.node,x.ma,x.host,x.sN⟩
theorem fin {b:Nat} {y:aa.S} {z:CV} {t:Tr} {K:aa.S->aj->Prop} (hb:aa.jx h b y) (tz:Ef h D t z) (hD: ∀y,D y->y≠b) (hk: ∀h',Ef h' D t z->Fr (λy=>y=b) h h'->K z.s h'):
  aa.dW h (AA b 0) z.s λg=>aa.dh g (AA b 0) λr=>K r g:=
 aa.mB (x:=z.s) hb λg d1 f _=>aa.jk d1 (hk g (tz.frame f hD) f)
theorem Qo {b:Nat} {y:aa.S} {K:aa.S->aj->Prop} (hb:aa.jx h b y) (hk: ∀h',Fr (λy=>y=b) h h'->K .z h'):
  aa.dW h (AA b 0) .z λg=>aa.dh g (AA b 0) λr=>K r g:=
 aa.mB hb λg d1 f _=>aa.jk d1 (hk g f)
theorem wC (x:Ev) (hr:dk x=true):room (Md x)<=200:=by
 unfold Md;split
 ·simp[room,dZ]
 ·rename_i z;split
  ·simp[room,dZ]
  ·rename_i hi;unfold dk at hr;rw[ai z,ai hi] at hr;simp only[aW,bf] at hr;have:=qJ.zU x.host;have:=qJ.zU x.sN;simp only[room,dZ,Ry,aF,bj,bD];omega
abbrev zv:CV:=⟨0,0,⟨none,0, []⟩,none,0,0⟩
theorem Hf (x:Ev) (w1:0<=x.ma) (k1:dk x=true->∀h' z,Ef h' (λy=>h.size<=y) (Md x) z->Fr No h h'->R (.tuple #[z.agg,.I 0]) h')
  (k2:dk x=false->∀h',Fr No h h'->R (.tuple #[zv.agg,.I 3]) h'):Cl F.ux #[uH x] h R:=by
 refine ux.walk (x:=x.s) (az.dI λb h1 eb hb f1=>aa.dI λb1 h2 uh dx f2=>az.jk (f2.get hb id) (qJ.ic x λh3 f3=>⟨_,rfl,?_⟩));have kT:=(f2.tt f3).get hb id;have qx:=f3.get dx id;have F3:=f1.tt (f2.tt f3);have z1:=f1.1;have PU:=aI dx;have z3:=f3.1;have done: ∀g z,dk x=true->Ef g (λy=>h3.size<=y) (Md x) z->Fr No h3 g->aa.dW g (AA b1 0) z.s λh4=>aa.dh h4 (AA b1 0) λr0=>R (.tuple #[r0.agg,.I 0]) h4:=λg z hr tz fg=>
  fin (fg.get qx id) tz (λy hy e=>by omega) λh4 t4 f4=>k1 hr h4 z (t4.mono λy hy=>by omega) ((F3.tt fg).fresh f4 (λy e=>by omega))
 cases hr:dk x with
 |false=>exact Qo qx λh4 f4=>k2 hr h4 (F3.fresh f4 (λy e=>by omega))
 |true=>
  have done:=λg z=>done g z hr
  rw[dM];refine az.jk kT ⟨_,qJ.IE (y:=.zero) (x:=x) rfl rfl,?_⟩;have er:room (Md x)<=200:=wC x hr;unfold Md at done er;unfold dk at hr;by_cases z:x=.zero
  ·rw[ag (ay z)];simp only[ag z] at done;exact jw (n:=1) λh5 f5=>aa.ex (nv 1).s ⟨rfl,jw (n:=0) λh6 f6=>aa.ex (nv 0).s ⟨rfl,AZ (two xL xL) (by simp[room,dZ]) rfl rfl λh7 y ty f7=>aa.ex y.s ⟨rfl,done h7 y (ty.mono λy hy=>by have:=f5.1;have:=f6.1;omega) (f5.tt (f6.tt f7))⟩⟩⟩
  rw[ai (by simpa using z)];rw[ai z] at hr;simp only[ai z] at done er;refine⟨_,af kT rfl,?_⟩;by_cases hi:x.vE=true
  ·rw[ag hi] at hr⊢;simp only[ag hi] at done;have hr:=of_decide_eq_true hr;have n1:x.node=(x.node.toNat:Int):=by omega
   have n2:x.ma=(x.ma.toNat:Int):=by omega
   refine⟨_,af kT rfl,_,af kT rfl,jw (n:=2) λvk f10=>aa.ex (nv 2).s ⟨rfl,f10.kp,?_⟩⟩;dsimp only;rw[n1];refine jw λyj f11=>aa.ex (nv x.node.toNat).s ⟨rfl,f11.kp,?_⟩
   rw[n2];refine jw λmF f12=>aa.ex (nv x.ma.toNat).s ⟨rfl,AZ (two xL xL) (by simp[room,dZ]) rfl rfl λDw y ty f14=>aa.ex y.s ⟨rfl,AZ (ys:= [nv 2,y]) (two xL ty.u) (by simp[room,dZ]) rfl rfl λvZ u tu f16=>aa.ex u.s ⟨rfl,?_⟩⟩⟩
   exact done vZ u (tu.mono λy hy=>by have:=f10.1;have:=f11.1;have:=f12.1;have:=f14.1;omega) (f10.tt (f11.tt (f12.tt (f14.tt f16))))
  ·rw[ai hi] at hr⊢;simp only[ai hi] at done er;simp only[aW,bf] at hr;refine az.jk kT (jw (n:=1) λGm f18=>aa.ex (nv 1).s ⟨rfl,f18.kp,qJ.agk x (by omega) (by omega) λh19 f19=>⟨_,rfl,aho λQp v ev ov f20=>aa.ex (CV.s ⟨3,0,v,none,0,0⟩) ⟨rfl,?_⟩⟩⟩);have ev:v.b=Ry x:=by rw[ev];unfold str;simp[Ry]
   refine AZ (ts:= [num 1,.mk 3 0 (Ry x) []]) (ys:= [nv 1,⟨3,0,v,none,0,0⟩]) (two xL (ev▸NU ov).u) (by simp only[room,bD] at er⊢;omega) rfl rfl λh22 u tu f22=>aa.ex u.s ⟨rfl,?_⟩
   exact done h22 u (tu.mono λy hy=>by have:=f18.1;have:=f19.1;have:=f20.1;omega) (f18.tt (f19.tt (f20.tt f22)))
end Bn
end
section
namespace Bn
open Cb
open qJ (Ev dk uH)
variable {V:List UInt8→Bool} {h h0 h':aj} {R:iI} {D:Nat→Prop}
theorem kpb {b:Nat} {l:List (bV)} (f:Fr (λy=>y=b) h h') (hn: ∀p∈l,p.map (·.block)≠some b):Kp h h' l:=f.kps λp hp x e hb=>hn p hp (by rw[e];exact bp some hb)
theorem VD {b:Nat} {y:az.S} {x:Ev} {K:az.S->aj->Prop} (hb:az.jx h b y) (hk: ∀h',Fr (λy=>y=b) h h'->K x.s h'):
  az.dW h (AA b 0) x.s λg=>az.dh g (AA b 0) λr=>K r g:=
 az.mB (x:=x.s) hb λg d1 f _=>az.jk d1 (hk g f)
theorem akT (l:List UInt8):(!((⟨l.toArray⟩:ByteArray).toList==ka.toList))= !l.isEmpty:=by
 rw[toList_data,toList_data];cases l<;>simp
theorem Qq {s:ByteArray} (mx:Gj.Mx h) (hs:s.size<1000000) (hk: ∀h',Fr No h h'->R (.tuple #[uH (HQ s.data.toList),.bool (Fh s.data.toList)]) h'):Cl F.rC #[.string s] h R:=by
 refine rC.walk (az.dI λb h1 eb hb f1=>Gj.aas ⟨_,_,rfl,Gj.O8 (mx.on f1) ?_ ⟨_,_,_,rfl,az.j9 λb1 h5 uh dx f5=>az.jk dx ?_⟩⟩)
 ·show(Lib.trimPrefix s.data.toList _).length<_;have:=qJ.zU s;unfold Lib.trimPrefix;split
  ·rw[cg];omega
  ·omega
 have e0:(⟨(Lib.trimPrefix s.data.toList (⟨#[47,47]⟩:ByteArray).data.toList).toArray⟩:ByteArray).data.toList=Lib.trimPrefix s.data.toList [47,47]:=by simp
 rw[e0] at dx⊢;rw[show(⟨#[47]⟩:ByteArray).data.toList= [47] from rfl] at dx⊢;rw[show(⟨#[47,47]⟩:ByteArray).data.toList= [47,47] from rfl];have ex:(⟨false,0,0,⟨(Lib.cut (Lib.trimPrefix s.data.toList [47,47]) [47]).1.toArray⟩,⟨(Lib.cut (Lib.trimPrefix s.data.toList [47,47]) [47]).2.1.toArray⟩⟩:az.S)=(HQ s.data.toList).s:=rfl;rw[ex] at dx⊢;have z1:=f1.1;have F5:=f1.tt f5;have zb:=aI hb;have DK:=f5.get hb id;have done: ∀g q,Fr No h5 g->q=Fh s.data.toList->az.dW g (AA b 0) (HQ s.data.toList).s λg1=>az.dh g1 (AA b 0) λr=>R (.tuple #[r.agg,.bool q]) g1:=λg q fg e=>
  VD (fg.get DK id) λg1 f=>by rw[e];exact hk g1 ((F5.tt fg).fresh f (λy e=>by omega))
 rw[akT];cases hA:Lib.hasPrefix s.data.toList [47,47] with
 |false=>exact done h5 _ (Fr.refl _ _) (by unfold Fh;rw[hA];rfl)
 |true=>
  rw[ag rfl];cases hB:(Lib.cut (Lib.trimPrefix s.data.toList [47,47]) [47]).2.2 with
  |false=>exact done h5 _ (Fr.refl _ _) (by unfold Fh;rw[hA,hB];rfl)
  |true=>
   rw[ag rfl];cases hC:(Lib.cut (Lib.trimPrefix s.data.toList [47,47]) [47]).1.isEmpty with
   |true=>exact done h5 _ (Fr.refl _ _) (by unfold Fh;rw[hA,hB,hC];rfl)
   |false=>
    rw[ag (show(!false)=true from rfl)];exact az.jk dx (qJ.ic (HQ s.data.toList) λh6 f6=>⟨_,rfl,f6.kp,done h6 _ f6 (by unfold Fh;rw[hA,hB,hC];rfl)⟩)
theorem t64:Ap Tryz.prog T.Cu T.uint64 1 8 (.U 0):=⟨by kernel_rfl,by kernel_rfl,rfl⟩
theorem u64:Tryz.prog.underlying T.Cu=some (.slice T.uint64):=by kernel_rfl
abbrev nc (l:List Tr):List Value:=l.map λt=> .int .u64 (t.n:Int)
theorem elem {D:Nat->Prop} {q:bV} {l c:Nat} {ys:List CV} {ts:List Tr} (L:xE h D q l c ys) (TS:dH h D ts ys) {i:Nat} (hi:i<ts.length): ∃(a:Addr) (y:CV),q=some a/\fF (a.add (i*4)) y.s.l 0 h/\kU h D (at_ ts i) y/\ys[i]? =some y:=by
 have ln:=TS.len;have hy:ys[i]? =some (ys[i]'(by omega)):=au _;obtain⟨t,ht,ty⟩:=TS.get hy;obtain⟨a,rfl⟩:=L.row.some (by intro e;have:=bp List.length e;rw[gW mK 4 jS,bD] at this;omega);refine⟨a,_,rfl,L.row.lu jS hy,?_,hy⟩;unfold at_;rw[ba,ht];exact ty
theorem sa {ts:List Tr} {i:Nat} (hi:i<ts.length):room (at_ ts i)<=dZ ts:=by
 unfold at_;rw[ba,au hi];exact wB (fx hi)
theorem SX {t:Tr} {x:CV} (tx:SW h t x) (hr:room t<=1000000)
  (k1:t.k=4->t.l.length=2->Kf t.l=true->∀h' p c,Row h' p (nc t.l)->Fr No h h'->R (.tuple #[.slice p 2 c,.bool true]) h')
  (k2: ¬(t.k=4/\t.l.length=2/\Kf t.l=true)->∀h',Fr No h h'->R (.tuple #[.Z,.bool false]) h'):Cl F.u0 #[x.agg,.I 2] h R:=by
 have tx':=tx;cases t with
 |mk k n b l=>
  simp only[room] at hr;have k1:k=4->l.length=2->Kf l=true->∀h' p c,Row h' p (nc l)->Fr No h h'->R (.tuple #[.slice p 2 c,.bool true]) h':=k1;have k2: ¬(k=4/\l.length=2/\Kf l=true)->∀h',Fr No h h'->R (.tuple #[.Z,.bool false]) h':=k2;unfold kU at tx;obtain⟨⟨rfl,rfl,rfl,Vy⟩,ys,L,TS⟩:=tx;have ln:=TS.len;have e0:=L.len;refine u0.walk (x:=x.s) (aa.dI λbb h1 eb hb f1=>aK.of λJ hJ=>⟨_,af hb rfl,?_⟩);have no: ¬(x.k=4/\l.length=2)->J true h1:=λhn=>by
   subst hJ;exact k2 (λe=>hn ⟨e.1,e.2.1⟩) h1 f1
  by_cases k4:x.k=4
  case neg=>rw[ag (by simpa using k4)];exact no (λe=>k4 e.1)
  rw[ai (by simpa using k4)];refine⟨_,_,_,af hb rfl,?_⟩;by_cases l2:l.length=2
  case neg=>rw[show((x.ll:Int) !=2)=true by simp only[fL,iq];omega];exact no (λe=>l2 e.2)
  rw[show((x.ll:Int) !=2)=false by simp only[bne_eq_false_iff_eq];omega];subst hJ;rw[dM];have sl:x.s.xP=2:=by show x.ll=2;omega
  refine⟨_,_,_,af hb rfl,?_⟩;refine⟨λp len c t g=> ∃i:Nat,t=(i:Int)/\i<=2/\i=len/\iS g p i c 1 (nc (l.take i))/\(∀y,aQ p y->h1.size<=y)/\Fr No h1 g/\Kf (l.take i)=true,λ_ _ _ t _=>2 - t.toNat,⟨0,rfl,by omega,rfl,by rw[fN];exact .nil rfl rfl rfl rfl,(λy ⟨a,e,_⟩=>by cases e),Fr.refl _ _,by rw[fN];rfl⟩,?_⟩;rintro p _ c _ g ⟨i,rfl,hi,rfl,ow,nw,fg,hn⟩;by_cases nR:i<2
  ·rw[jy];have Fg:=f1.tt fg;obtain⟨a,y,ea,hh,ty,hy⟩:=elem (L.frame Fg (λ_ _=>id)) (TS.on Fg) (i:=i) (by omega);refine⟨⟨by omega,by show _<(x.ll:Int);omega⟩,cH.2 ⟨a,ea,(aa.yT (x:=y.s) (by rw[aL];exact hh) (aa.j9 (x:=y.s) λb1 h5 uh dx f5=>aa.jk dx ⟨_,af dx rfl,jw λh6 f6=>aa.ex (nv y.n).s ⟨rfl,f6.kp,?_⟩⟩))⟩⟩;have ra:=sa (ts:=l) (i:=i) (by omega);have eq:l.take (i+1)=l.take i++ [at_ l i]:=by
    rw[bZ];unfold at_;rw[ba,au (by omega)];rfl
   have yn:y.n=(at_ l i).n:=by
    revert ty;generalize at_ l i=s;intro ty;cases s;unfold kU at ty;exact ty.1.2.1
   refine pW (t:=at_ l i) (s:=num y.n) (x:=y) (y:=nv y.n) (ty.on (f5.tt f6)) xL (by omega) λh7 f7=>⟨_,rfl,?_⟩
   rw[yn];cases q:yW (at_ l i) (num (at_ l i).n) with
   |false=>
    rw[jy];refine k2 (λe=> ?_) h7 (Fg.tt (f5.tt (f6.tt f7)));have:=List.all_eq_true.1 e.2.2 (at_ l i) (by unfold at_;rw[ba,au (by omega)];exact fx _);rw[q] at this;cases this
   |true=>
    rw[dM];have F7:=f5.tt (f6.tt f7);refine⟨_,af ((f6.tt f7).get dx id) rfl,qb t64 u64 (ow.frame F7 (λ_ _=>id)) rfl (λv hv=>by simp at hv;rw[hv];rfl) (by omega) (by omega) λp2 c2 h9 o9 f9 g9=>⟨_,_,_,rfl,?_⟩⟩;rw[bL (n:=(i:Int)+1) (by omega) (by omega)];refine⟨⟨i+1,by omega,by omega,by omega,?_,λy hy=> ?_,(fg.tt F7).fresh f9 (λy hy=>nw y hy),?_⟩,by show 2 - Int.toNat ((i:Int)+1)<2 - Int.toNat (i:Int);omega⟩
    ·rw[eq,nc,bm];rw[show y.s.f1=((at_ l i).n:Int) by show(y.n:Int)=_;rw[yn]] at o9;exact o9
    ·rcases g9 y hy with a|a
     ·exact nw y a
     ·have:=fg.1;have:=F7.1;omega
    ·rw[eq];unfold Kf at hn⊢;rw[List.all_append,hn];simp[q]
  ·rw[ai (λe=>nR (by have:=of_decide_eq_true e;omega))];obtain rfl:i=2:=by omega
   rw[bT (by omega)] at hn ow;exact k1 k4 l2 hn g p c ow.qa (f1.tt fg)
theorem kU.kn {t:Tr} {x:CV} (H:kU h D t x):x.k=t.k/\x.n=t.n/\x.v.b=t.b/\x.ll=t.l.length/\x.v.ok h D/\∃ys,xE h D x.q x.ll x.cl ys/\dH h D t.l ys:=by
 cases t with
 |mk k n b l=>
  unfold kU at H;obtain⟨⟨a1,a2,a3,a4⟩,ys,L,TS⟩:=H;exact⟨a1,a2,a3,by rw[L.len,<-TS.len];rfl,a4,ys,L,TS⟩
theorem yU {t:Tr} :dZ t.l+t.b.length+9=room t:=by cases t;simp only[room,Tr.l,Tr.b];omega
theorem aoG {p:Addr} {b n:Nat} (h:p.block≠b):(some (p.add n)).map Addr.block≠some b:=by
 simp only[dz,wo];exact λe=>h (bz e)
theorem aee {t:Tr} {x:CV} (U:xQ V h0) (u:Fr No h0 h) (mx:Gj.Mx h) (tx:SW h t x) (hr:room t<=900000)
  (k1: ∀e,zy V t=some e->∀h',Fr No h h'->R (.tuple #[uH e,.I 0]) h') (k2:zy V t=none->∀h',Fr No h h'->R (.tuple #[uH .zero,.I 3]) h'):Cl F.tj #[x.agg] h R:=by
 obtain⟨xk,xn,xb,xl,xv,ys,L,TS⟩:=kU.kn tx;have rl:=yU (t:=t);refine tj.walk (x:=x.s) (aa.dI λb h1 eb hb f1=>az.dI λb1 h2 uh dx f2=>aK.of λJ hJ=>aa.jk (f2.get hb id) (ic U (u.tt (f1.tt f2)) ((tx.on f1).on f2) (by omega) λh3 f3=>⟨_,rfl,?_⟩));have F3:=f1.tt (f2.tt f3);have kT:=(f2.tt f3).get hb id;have qx:=f3.get dx id;have zb:=aI hb;have PU:=aI dx;have z1:=f1.1;have z2:=f2.1;have z3:=f3.1;have bad:zy V t=none->J true h3:=λhn=>by
  subst hJ;dsimp only;rw[ag rfl];exact VD (x:=.zero) qx λg f=>k2 hn g (F3.fresh f (λy e=>by omega))
 cases hR:lB V t with
 |false=>exact bad (by unfold zy;rw[ai (λe=>by rw[hR] at e;cases e.1)])
 |true=>
 rw[ai (show¬(!true)=true by decide)];refine⟨_,af kT rfl,?_⟩;have e4:x.s.f0=t.k:=xk;rw[e4];by_cases k4:t.k=4
 case neg=>rw[ag (by simpa using k4)];exact bad (by unfold zy;rw[ai (λe=>k4 e.2.1)])
 rw[ai (by simpa using k4)];refine⟨_,_,_,af kT rfl,?_⟩;have el:x.s.xP=t.l.length:=xl;rw[el];by_cases l2:t.l.length=2
 case neg=>rw[show((t.l.length:Int) !=2)=true by simp only[fL,iq];omega];exact bad (by unfold zy;rw[ai (λe=>l2 e.2.2)])
 rw[show((t.l.length:Int) !=2)=false by simp only[bne_eq_false_iff_eq];omega];clear bad;subst hJ;dsimp only;rw[ai (show¬false=true by decide)];unfold zy at k1 k2;rw[ag ⟨hR,k4,l2⟩] at k1 k2;obtain⟨a0,y0,ea0,hh0,Yu,_⟩:=elem (L.frame F3 (λ_ _=>id)) (TS.on F3) (i:=0) (by omega);obtain⟨a1,y1,Yw,V1,VE,_⟩:=elem (L.frame F3 (λ_ _=>id)) (TS.on F3) (i:=1) (by omega);have r0:=sa (ts:=t.l) (i:=0) (by omega);have r1:=sa (ts:=t.l) (i:=1) (by omega);generalize at_ t.l 0=t0 at Yu r0 k1 k2;generalize at_ t.l 1=t1 at VE r1 k1 k2;refine aK.of λJ1 pB=>⟨_,_,_,af kT rfl,⟨by omega,by omega⟩,cH.2 ⟨a0,ea0,aa.yT (x:=y0.s) hh0 ⟨_,_,_,af kT rfl,⟨by omega,by omega⟩,cH.2 ⟨a1,Yw,aa.yT (x:=y1.s) V1 ?_⟩⟩⟩⟩
 have main: ∀g s r,aa.jx g s y0.s->aa.jx g r y1.s->Fr No h3 g->J1 (some (AA s 0)) (some (AA r 0)) g:=by
  intro g s r hs gB fg;subst pB;have Fg:=F3.tt fg;have zg:=fg.1;refine az.dI λb2 h6 FH fJ f6=>aK.of λJ2 zY=>aK.of λJ3 SN=> ?_
  have hs6:=f6.get hs id;have hr6:=f6.get gB id;have RP:=(fg.tt f6).get qx id;have zb2:=aI fJ;have F6:=Fg.tt f6;have z6:=f6.1;have aoH: ∀g6 e,az.jx g6 b2 e.s->Fr (λy=>y=b2) h6 g6->(∀h',Fr No h h'->R (.tuple #[uH e,.I 0]) h')->J2 true g6:=λg6 e he f hk=>by
   subst zY;rw[dM];exact az.jk he (VD (f.get RP (by omega)) λg7 f7=>hk g7 ((F6.fresh f (λy e=>by omega)).fresh f7 (λy e=>by omega)))
  have none_: ∀g6,Fr (λy=>y=b2) h6 g6->(∀h',Fr No h h'->R (.tuple #[uH .zero,.I 3]) h')->J2 false g6:=λg6 f hk=>by
   subst zY;rw[jy];exact VD (x:=.zero) (f.get RP (by omega)) λg7 f7=>hk g7 ((F6.fresh f (λy e=>by omega)).fresh f7 (λy e=>by omega))
  have nof: ∀ {g6},Fr No h6 g6->Fr (λy=>y=b2) h6 g6:=λf=>f.mono λ_ _=>False.elim
  obtain⟨y1k,y1n,y1b,y1l,y1v,ys1,L1,TS1⟩:=kU.kn VE;have rl1:=yU (t:=t1);have j3: ∀q g6,Fr No h6 g6->q=decide (yW t0 (num 1)=true/\yW t1 (num 0)=true)->J3 q g6:=by
   intro q g6 f hq;subst SN;refine aK.of λJ4 Yx=> ?_
   cases q with
   |true=>
    rw[ag rfl];have c:=of_decide_eq_true hq.symm;exact VD (x:=.zero) (f.get RP id) λg7 f7=>k1 _ (by rw[ag c]) g7 ((F6.tt f).fresh f7 (λy e=>by omega))
   |false=>
    rw[dM];have c:=of_decide_eq_false hq.symm;rw[ai c] at k1 k2;have hs7:=f.get hs6 id;have hr7:=f.get hr6 id;refine aK.of λJ5 hJ5=>aB.2 (aa.jk hs7 (jw (n:=1) λh24 f24=>aa.ex (nv 1).s ⟨rfl,f24.kp,pW (x:=y0) (y:=nv 1) (Yu.on (fg.tt (f6.tt (f.tt f24)))) xL (by omega) λh25 f25=>⟨_,rfl,?_⟩⟩))
    have j5: ∀q g7,Fr No h6 g7->q=decide (yW t0 (num 1)=true/\t1.k=3)->J5 q g7:=by
     intro q g7 f7 hq;have hs8:=f7.get hs6 id;have hr8:=f7.get hr6 id;have G7:=fg.tt (f6.tt f7);subst hJ5;refine aK.of λJ6 hJ6=> ?_
     have j6: ∀q g,J2 q g->J6 q g:=λq g hh=>by subst hJ6;subst Yx;exact hh
     cases q with
     |true=>
      rw[ag rfl];have c5:=of_decide_eq_true hq.symm;rw[ag c5] at k1 k2;have ev:y1.v.b=t1.b:=y1b;refine aB.2 ⟨_,_,_,af hr8 rfl,str t1.b,vg.conv (by rw[<-ev];exact(y1v.frame G7 (λ_ _=>id)).row) (by show y1.v.b.length=_;rw[ev]),Qq (mx.on (F6.tt f7)) (by rw[qJ.C4];omega) λGZ f15=> ?_⟩;have ed:(str t1.b).data.toList=t1.b:=by unfold str;simp
      rw[ed];refine az.ex (HQ t1.b).s ⟨_,rfl,az.mB (x:=(HQ t1.b).s) ((f7.tt f15).get fJ id) λvZ d16 f16 _=>j6 _ _ ?_⟩;have F16:=Fr.no (f7.tt f15) f16;cases hp:Fh t1.b with
      |true=>exact aoH vZ _ d16 F16 (k1 _ (by rw[ag hp]))
      |false=>exact none_ vZ F16 (k2 (by rw[ai (by rw[hp];decide)]))
     |false=>
      rw[dM];have c5:=of_decide_eq_false hq.symm;rw[ai c5] at k1 k2;refine aB.2 (aa.jk hs8 (jw (n:=2) λQr f17=>aa.ex (nv 2).s ⟨rfl,f17.kp,pW (x:=y0) (y:=nv 2) (Yu.on (G7.tt f17)) xL (by omega) λGm f18=>⟨_,rfl,aK.of λJ7 hJ7=> ?_⟩⟩));have j7: ∀q g,J2 q g->J7 q g:=λq g hh=>by subst hJ7;exact j6 _ _ hh
      have Mv:=f7.tt (f17.tt f18);cases e2:yW t0 (num 2) with
      |false=>
       rw[dM];exact j7 _ _ (none_ Gm (nof Mv) (k2 (by rw[ai (by rw[e2];decide)])))
      |true=>
       rw[ag rfl];rw[ag e2] at k1 k2;refine aB.2 (aa.jk (Mv.get hr6 id) (SX (VE.on (fg.tt (f6.tt Mv))) (by omega) (λq4 q2 qn Qp p c row f20=>⟨_,_,_,_,rfl,aK.of λJ8 Yy=> ?_⟩) (λqn Qp f20=>⟨_,_,_,_,rfl,aK.of λJ8 Yy=> ?_⟩)))
       ·rw[ag rfl];have n0:(nc t1.l)[0]? =some (.U ((at_ t1.l 0).n:Int)):=by unfold nc at_;rw[aO,ba,au (by omega)];rfl
        have n1:(nc t1.l)[1]? =some (.U ((at_ t1.l 1).n:Int)):=by unfold nc at_;rw[aO,ba,au (by omega)];rfl
        obtain⟨a,rfl⟩:=row.some (by intro e;rw[e] at n0;cases n0);have c0:=row.cell n0;have c1:=row.cell n1;have F20:=Mv.tt f20;refine⟨⟨by omega,by omega⟩,aB.2 ⟨_,by rw[show Int.toNat 0*1=0 from rfl];exact c0,⟨by omega,by omega⟩,aB.2 ⟨_,by rw[show Int.toNat 1*1=1 from rfl];exact c1,az.mB (x:=(ace t1).s) (F20.get fJ id) λh22 d22 f22 _=>az.jk d22 (qJ.ic (ace t1) λh23 f23=>⟨_,rfl,?_⟩)⟩⟩⟩;have F23:Fr (λy=>y=b2) h6 h23:=(Fr.no F20 f22).on f23;subst Yy;refine j7 _ _ ?_;cases hp:dk (ace t1) with
        |true=>exact aoH h23 _ (f23.get d22 id) F23 (k1 _ (by rw[ag ⟨q4,q2,qn,hp⟩]))
        |false=>exact none_ h23 F23 (k2 (by rw[ai (λe=>by rw[hp] at e;cases e.2.2.2)]))
       ·rw[dM];subst Yy;exact j7 _ _ (none_ Qp (nof (Mv.tt f20)) (k2 (by rw[ai (λe=>qn ⟨e.1,e.2.1,e.2.2.1⟩)])))
    have F25:=f.tt (f24.tt f25);cases e1:yW t0 (num 1) with
    |false=>
     rw[dM];exact j5 _ _ F25 (by rw[e1];simp)
    |true=>
     rw[ag rfl];refine aB.2 ⟨_,af (F25.get hr6 id) rfl,j5 _ _ F25 ?_⟩;rw[show y1.s.f0=t1.k from y1k,e1];by_cases q:t1.k=3<;>simp[q]
  refine aB.2 (aa.jk hs6 (jw (n:=1) λh26 f26=>aa.ex (nv 1).s ⟨rfl,f26.kp,pW (x:=y0) (y:=nv 1) (Yu.on (fg.tt (f6.tt f26))) xL (by omega) λh27 f27=>⟨_,rfl,?_⟩⟩));have F27:=f26.tt f27;cases e1:yW t0 (num 1) with
  |false=>
   rw[dM];exact j3 _ _ F27 (by rw[e1];simp)
  |true=>
   rw[ag rfl];refine aB.2 (aa.jk (F27.get hr6 id) (jw (n:=0) λh28 f28=>aa.ex (nv 0).s ⟨rfl,f28.kp,pW (x:=y1) (y:=nv 0) (VE.on (fg.tt (f6.tt (F27.tt f28)))) xL (by omega) λh29 f29=>⟨_,rfl,?_⟩⟩));exact j3 _ _ (F27.tt (f28.tt f29)) (by rw[e1];simp)
 have la0:a0.block<h3.size:=by
  have:=hh0.1;have:=BY this;rwa[wo,wo] at this
 have la1:a1.block<h3.size:=by
  have:=V1.1;have:=BY this;rwa[wo,wo] at this
 refine⟨aa.dI λb3 h30 LQ Lw f30=>⟨f30.kp,aa.dI λb4 h31 VA mb f31=>⟨f31.kp,aa.mB (x:=y0.s) (f31.get Lw id) λh32 d32 f32 _=>⟨kpb f32 ?_,aa.mB (x:=y1.s) (f32.get mb (by have:=aI Lw;omega)) λh33 d33 f33 _=> ?_⟩⟩⟩,
  aa.dI λb3 h30 LQ Lw f30=>⟨f30.kp,aa.dI λb4 h31 VA mb f31=>⟨f31.kp,aa.mB (x:=y0.s) mb λh32 d32 f32 _=>⟨kpb f32 ?_,aa.mB (x:=y1.s) (f32.get (f31.get Lw id) (by have:=aI Lw;omega)) λh33 d33 f33 _=> ?_⟩⟩⟩,trivial⟩
 ·intro p hp;simp only[bQ,List.not_mem_nil,or_false] at hp;rcases hp with rfl|rfl
  ·exact aoG (by omega)
  ·simp only[dz];intro e;have:=bz e;omega
 ·have:=aI Lw;have:=f30.1;exact main h33 b3 b4 (f33.get d32 (by omega)) d33 (((f30.tt f31).fresh f32 (λy e=>by omega)).fresh f33 (λy e=>by omega))
 ·intro p hp;simp only[bQ,List.not_mem_nil,or_false] at hp;have:=f30.1;rcases hp with rfl|rfl
  ·exact aoG (by omega)
  ·simp only[dz];intro e;have:=bz e;omega
 ·have:=aI Lw;have:=f30.1;exact main h33 b4 b3 (f33.get d32 (by omega)) d33 (((f30.tt f31).fresh f32 (λy e=>by omega)).fresh f33 (λy e=>by omega))
end Bn
end
end Go.Proofs.YtlenamcfacpheaaGreatDoor
