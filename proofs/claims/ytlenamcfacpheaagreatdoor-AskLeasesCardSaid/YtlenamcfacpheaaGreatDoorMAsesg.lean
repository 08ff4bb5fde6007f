/-
  TU is proved here: parts of Jr proof, one behind Jr other (texts of this work, merged by a program; ZU Jr theorem ZV not use is left out). No condition.
-/
import Derived.Handed
import Derived.Shelf.Vars
import Derived.Lib.LaidU8
import Derived.Lib.LaidTab
import Derived.Test.YtlenamcfacpheaaGreatDoorMAsesf
set_option maxRecDepth 100000
set_option maxHeartbeats 4000000
namespace Go.Proofs.YtlenamcfacpheaaGreatDoor
open Go.Den
open IntKind (wrap)
open Int (toNat)
section
namespace Bn
open Cb
open qI (Ev dj uG)
variable {V:List UInt8→Bool} {h h0 h' g:aj} {R:iI} {D:Nat→Prop}
theorem Tt (t:Tr):(Ki V t).length<=room t:=by
 unfold Ki;split
 ·exact rW t
 ·exact cj _
theorem ZE {t:Tr} {x:CV} (U:xP V h0) (u:Fr No h0 h) (tx:kT h D t x) (hr:room t<=1000000)
  (hk: ∀h' p c (q:Int),iR h' p (Ki V t).length c 1 (bc (Ki V t))->(∀y,aQ p y->h.size<=y)->Fr No h h'->R (.tuple #[.slice p (Ki V t).length c,.I q]) h'):Cl F.mr #[x.agg] h R:=by
 unfold Ki at hk;refine Hc U u tx hr (λe h' p c o n f=> ?_) (λe h' f=> ?_)
 ·rw[ag e] at hk;exact hk h' p c 0 o n f
 ·rw[e,dL] at hk;exact hk h' none 0 3 (.nil rfl rfl rfl rfl) (λy ⟨a,e,_⟩=>by cases e) f
abbrev BO.s (b:BO) (q:bU) (cl:Nat):aw.S:=⟨b.p.fl,b.p.sum,b.p.dest.vD,b.p.dest.node,b.p.dest.l6,b.p.dest.host,b.p.dest.sM,b.p.rep.vD,b.p.rep.node,b.p.rep.l6,b.p.rep.host,b.p.rep.sM,b.p.id.e.vD,b.p.id.e.node,b.p.id.e.l6,b.p.id.e.host,b.p.id.e.sM,b.p.id.tm,b.p.id.sq,b.p.gI,q,b.bl.length,cl⟩
theorem pld {b:Nat} {x:BO} {q:bU} {cl:Nat} {K:aC.S->Prop} (hb:aw.jx h b (x.s q cl)) (hk:K x.p.s):aC.df h (AA b 0) K:=
 ⟨_,af hb rfl,_,af hb rfl,_,af hb rfl,_,af hb rfl,_,af hb rfl,_,af hb rfl,_,af hb rfl,_,af hb rfl,_,af hb rfl,_,af hb rfl,_,af hb rfl,_,af hb rfl,_,af hb rfl,_,af hb rfl,_,af hb rfl,_,af hb rfl,_,af hb rfl,_,af hb rfl,_,af hb rfl,_,af hb rfl,hk⟩
theorem aeR {b:BO} {q:bU} {cl:Nat} {xs:List BB} (w:b.p.wf) (U:xP V h0) (u:Fr No h0 h) (mx:Gi.Mx h) (B:qT h D b.bl q b.bl.length cl xs) (hl:b.bl.length<=8) (hd: ∀b'∈b.bl,b'.data.length<=80000)
  (k1: ∀out,Cw V b=some out->out.length<=5000->∀h' p c,iR h' p out.length c 1 (bc out)->(∀y,aQ p y->h.size<=y)->Fr No h h'->R (.tuple #[.slice p out.length c,.bool true]) h')
  (k2:Cw V b=none->∀h',Fr No h h'->R (.tuple #[.Z,.bool false]) h'):Cl F.sY #[(b.s q cl).agg] h R:=by
 refine sY.walk (aw.dH λb1 h1 uf dw f1=>pld dw (aeK b.p w U (u.tt f1) λh2 z qz z0 z1 f2=>aa.ex z.s ⟨_,rfl,aa.j8 (x:=z.s) λb2 h4 FE fI f4=> ?_⟩));have F4:=f1.tt (f2.tt f4);have hI:Cw V b=Cw V b:=rfl;conv at hI=>rhs;unfold Cw
 cases hW:x8 V b.p with
 |error e=>rw[ag (by simpa using z1 e hW)];exact k2 (by rw[hI,hW]) h4 F4
 |ok t=>
 obtain⟨rfl,tz⟩:=z0 t hW;rw[hW] at hI;dsimp only at hI;rw[dL];have rt:=LC hW;have le:=Tt (V:=V) t;refine aa.jk fI (ZE U (u.tt F4) (tz.on f4) (by omega) λh5 p5 c5 q5 o5 n5 f5=>⟨_,_,_,_,rfl,_,_,_,af ((f2.tt (f4.tt f5)).get dw id) rfl,?_⟩);have F5:=F4.tt f5;have z4:=F4.1;refine⟨λp l c t g=> ∃(i:Nat) (out:List UInt8),t=(i:Int)/\i<=b.bl.length/\l=out.length/\iR g p out.length c 1 (bc out)/\(∀y,aQ p y->h.size<=y)/\Fr No h g/\Cw V b=RC V (b.bl.drop i) out/\out.length<=1100+400*i,λ_ _ _ t _=>b.bl.length - t.toNat,⟨0,Ki V t,rfl,cj _,rfl,o5,λy hy=>by have:=n5 y hy;omega,F5,hI,by omega⟩,?_⟩;rintro p _ c _ g ⟨i,out,rfl,hi,rfl,ow,nw,fg,he,hlen⟩;have lb:(b.s q cl).Mb=b.bl.length:=rfl;by_cases nQ:i<b.bl.length
 case neg=>
  rw[ai (λe=>nQ (by have:=of_decide_eq_true e;omega))];rw[fL (by omega)] at he;exact k1 out he (by omega) g p c ow nw fg
 rw[jy];obtain⟨a,x,rfl,hh,ex,okx,_⟩:=(B.on fg).get nQ;have lx:x.b.data.length<=80000:=by rw[ex];exact hd _ (fw nQ)
 refine⟨⟨by omega,by omega⟩,aB.2 (aE.yS (x:=x.s) (by rw[aL];exact hh) (aE.j8 (x:=x.s) λb3 h8 LP kR f8=>aE.jk kR (Zr x.b U (u.tt (fg.tt f8)) (mx.on (fg.tt f8)) (okx.frame f8 (λ_ _=>id)).row okx.cap lx λh9 y qy y0 y1 f9=>aa.ex y.s ⟨_,rfl,aa.j8 (x:=y.s) λb4 yi Vz ma f11=> ?_⟩)))⟩;have Qs:=fg.tt (f8.tt (f9.tt f11));rw[ex] at y0 y1;rw[da nQ] at he;have hB: ∀l',RC V (b.bl[i]::l') out=(match DI V b.bl[i] with| .error _=>none| .ok t=>RC V l' (out++Ki V t)):=λl'=>rfl
 rw[hB] at he;cases hC:DI V b.bl[i] with
 |error e=>rw[ag (by rw[y1 e hC];simpa using Ts hC)];exact k2 (by rw[he,hC]) yi Qs
 |ok t'=>
 obtain⟨rfl,ty⟩:=y0 t' hC;rw[hC] at he;dsimp only at he;rw[dL];have rt':=Oq hC;have le':=Tt (V:=V) t';refine aa.jk ma (ZE U (u.tt Qs) (ty.u.on f11) (by omega) λmE p12 c12 q12 o12 n12 f12=>⟨_,_,_,_,rfl,?_⟩);have G:=f8.tt (f9.tt (f11.tt f12));refine fQ vf.tU vf.uU (ow.frame G (λ_ _=>id)) o12.pZ (by rw[sU,cN]) (Cg _) (by omega) (by omega) λp' c' GP o13 _ f13 g13=>⟨_,_,_,rfl,?_⟩
 rw[bK (n:=(i:Int)+1) (by omega) (by omega)];rw[<-su,<-aF] at o13;have zG:=(fg.tt G).1;refine⟨⟨i+1,out++Ki V t',by omega,by omega,by rw[aF],o13,λy hy=> ?_,(fg.tt G).fresh f13 nw,he,by rw[aF];omega⟩,by show b.bl.length - Int.toNat ((i:Int)+1)<b.bl.length - Int.toNat (i:Int);omega⟩;rcases g13 y hy with a|a
 ·exact nw y a
 ·omega
theorem ZF {b:BO} {q:bU} {cl:Nat} {xs:List BB} (w:b.p.wf) (U:xP V h0) (u:Fr No h0 h) (mx:Gi.Mx h) (B:qT h D b.bl q b.bl.length cl xs) (hl:b.bl.length<=1000000) (hd: ∀b'∈b.bl,b'.data.length<=80000)
  (k1: ∀out,vc V b=some out->out.length<=600->∀h' p c,iR h' p out.length c 1 (bc out)->(∀y,aQ p y->h.size<=y)->Fr No h h'->R (.tuple #[.slice p out.length c,.I 0]) h')
  (k2:vc V b=none->∀h',Fr No h h'->R (.tuple #[.Z,.I 3]) h'):Cl F.qD #[(b.s q cl).agg] h R:=by
 have hW:vc V b=vc V b:=rfl;conv at hW=>rhs;unfold vc
 refine qD.walk (aw.dH λb1 h1 uf dw f1=>⟨_,_,_,af dw rfl,alG U (u.tt f1) (mx.on f1) (B.on f1) hl hd λh2 f2=>⟨_,rfl,?_⟩⟩);have F2:=f1.tt f2;cases hf:Me V b.bl with
 |false=>rw[jy];exact k2 (by rw[hW,hf];rfl) h2 F2
 |true=>
 rw[hf,ag rfl] at hW;rw[dL];have l8:b.bl.length<=8:=by
  unfold Me at hf;split at hf
  ·cases hf
  ·simp only[aW,bf] at hf;exact hf.1.1
 refine aw.jk (f2.get dw id) (aeR w U (u.tt F2) (mx.on F2) (B.on F2) l8 hd (λout ho lo h3 p c ow nw f3=>⟨_,_,_,_,rfl,aK.of λJ hJ=> ?_⟩) (λhn h3 f3=>⟨_,_,_,_,rfl,aK.of λJ hJ=> ?_⟩))
 case refine_2=>
  rw[jy];subst hJ;dsimp only;rw[ag rfl];exact k2 (by rw[hW,hn]) h3 (F2.tt f3)
 rw[ho] at hW;dsimp only at hW;rw[dL];subst hJ;dsimp only;by_cases c1:out.length<=598
 case neg=>rw[ag (by simp only[bf];omega)];exact k2 (by rw[hW,ai c1]) h3 (F2.tt f3)
 rw[dL];rw[ag c1] at hW;have F3:=F2.tt f3;have z3:=F3.1;refine cX ?_;have f5:Fr No h3 (h3.push (.cells #[.int .u8 159] T.uint8)):=Fr.push _ _;have o5:iR (h3.push (.cells #[.int .u8 159] T.uint8)) (some (AA h3.size 0)) 1 1 1 (bc [159]):=by
  exact .row h3.size 0 #[.int .u8 159] T.uint8 rfl cz (bh _) (by simp) rfl (λj v hj=>by
   match j,hj with
   |0,hj=>exact hj)
 refine fQ vf.tU vf.uU o5 ((ow.frame f5 (λ_ _=>id)).pZ) (by rw[sU,cN]) (Cg _) (by omega) (by omega) λp6 c6 h6 o6 _ f6 g6=>⟨_,_,_,rfl,cX ?_⟩
 have f7:Fr No h6 (h6.push (.cells #[.int .u8 255] T.uint8)):=Fr.push _ _;have z5:=f5.1;have z6:=f6.1;have z7:=f7.1;refine fQ vf.tU vf.uU (o6.frame f7 (λ_ _=>id)) (q:=some (AA h6.size 0)) (ds:=bc [255]) rV rfl (Cg _) (by omega) (by omega) λp8 c8 h8 o8 _ f8 g8=>⟨_,_,_,rfl,?_⟩
 rw[<-su,<-su] at o8;have el:1+out.length+1=(159::(out++ [255])).length:=by simp;omega
 rw[el] at o8⊢;have n6: ∀y,aQ p6 y->h3.size<=y:=λy hy=>by
  rcases g6 y hy with⟨a,e,e'⟩|a
  ·cases e;rw[<-e'];exact bh _
  ·omega
 have F6:Fr No h3 h6:=f5.fresh f6 (λy ⟨a,e,e'⟩=>by cases e;rw[<-e'];exact bh _);refine k1 _ hW (by simp;omega) h8 p8 c8 o8 (λy hy=> ?_) (F3.tt ((F6.tt f7).fresh f8 n6));rcases g8 y hy with a|a
 ·have:=n6 y a;omega
 ·omega
theorem Ox {b:BO} {q:bU} {cl:Nat} {xs:List BB} (w:b.p.wf) (U:xP V h0) (u:Fr No h0 h) (mx:Gi.Mx h) (B:qT h D b.bl q b.bl.length cl xs) (hl:b.bl.length<=1000000) (hd: ∀b'∈b.bl,b'.data.length<=80000)
  (hk: ∀h',Fr No h h'->R (.bool (vc V b).isSome) h'):Cl F.qE #[(b.s q cl).agg] h R:=by
 refine qE.walk (aw.dH λb1 h1 uf dw f1=>aw.jk dw (ZF w U (u.tt f1) (mx.on f1) (B.on f1) hl hd (λout ho lo h2 p c ow nw f2=>⟨_,_,_,_,rfl,?_⟩) (λhn h2 f2=>⟨_,_,_,_,rfl,?_⟩)))
 ·have:=hk h2 (f1.tt f2);rw[ho] at this;exact this
 ·have:=hk h2 (f1.tt f2);rw[hn] at this;exact this
theorem VN {b : BO} {q : Option Addr} {cl : Nat} {xs : List BB} (B : qT h D b.bl q b.bl.length cl xs) (hl : b.bl.length ≤ 1000000) (hd : ∀ b' ∈ b.bl, b'.data.length ≤ 80000)
    (hk : ∀ h' p c, iR h' p (IE b).length c 1 (bc (IE b)) → (∀ y, aQ p y → h.size ≤ y) → Fr No h h' → R (.slice p (IE b).length c) h') : Cl F.nV #[(b.s q cl).agg] h R := by
  have lb : (b.s q cl).Mb = b.bl.length := rfl
  refine nV.walk (aw.dH λb1 h1 uf dw f1 => ⟨_, _, _, af dw rfl, ?_⟩)
  by_cases c0 : b.bl.length = 0
  · rw [if_pos (by simp only [beq_iff_eq]; omega)]
    have e0 : b.bl = [] := List.length_eq_zero_iff.1 c0
    have : IE b = [] := by unfold IE; rw [e0]; rfl
    rw [this] at hk
    exact hk h1 none 0 (.nil rfl rfl rfl rfl) (λy ⟨a, e, _⟩ => by cases e) f1
  rw [if_neg (by simp only [beq_iff_eq]; omega)]
  obtain ⟨n, hn⟩ : ∃ n, b.bl.length = n + 1 := ⟨b.bl.length - 1, by omega⟩
  have ew : IntKind.wrap .i64 (((b.bl.length : Nat) : Int) - 1) = (n : Int) := by rw [hn, bK (by omega) (by omega)]; omega
  have HI : b.bl.getLast? = some b.bl[n] := by rw [List.getLast?_eq_getElem?, show b.bl.length - 1 = n by omega, List.getElem?_eq_getElem (by omega)]
  have ep : IE b = b.bl[n].data := by unfold IE; rw [HI]
  refine ⟨_, _, _, af dw rfl, _, _, _, af dw rfl, ?_⟩
  rw [lb, ew]
  obtain ⟨a, x, rfl, hh, ex, okx, _⟩ := (B.on f1).get (i := n) (by omega)
  refine ⟨⟨by omega, by omega⟩, aB.2 ⟨_, _, _, by rw [Int.toNat_natCast]; exact hh.2.2.2.2.1, vf.my okx.row rfl (by have := hd _ (List.getElem_mem (show n < b.bl.length by omega)); rw [← ex] at this; show x.b.data.length ≤ _; omega) λp c h2 o f2 n2 => ⟨_, _, _, rfl, ?_⟩⟩⟩
  rw [ep, ← ex] at hk
  exact hk h2 p c o (λy hy => by have := n2 y hy; have := f1.1; omega) (f1.tt f2)
end Bn
end
section
namespace Ask
open qI (Ev dj)
open gJ (SS Good Pt GW Mk)
open Bn (oY lC oz Lw Qr BO Prim xU qT BB vc)
variable {V:List UInt8→Bool} {h h' h0 g:aj} {R:iI} {s k bo id c:Nat} {X X':Ft} {I:GW} {σ:SS} {p:bU} {ses:Int} {x:Rq} {D:Nat→Prop} {o:Ot}
abbrev Rq.as (x:Rq) (p:bU) (c s:Nat) (ses:Int):bN.S:=⟨x.id,x.kind,x.ep.vD,x.ep.node,x.ep.l6,x.ep.host,x.ep.sM,x.dest.vD,x.dest.node,x.dest.l6,x.dest.host,x.dest.sM,x.uE,x.num,x.kq,p,x.Be.length,c,x.gI,x.token,x.on,some ⟨s,0,none⟩,ses⟩
structure En (V:List UInt8->Bool) (h0 h:aj) (s:Nat) (X:Ft) (I:GW) (σ:SS) (k:Nat):Prop where
 H:Pt h s X I σ
 G:gJ.Good σ k
 hk:k<=30000
 u:UpF h0 X h
 U:Cb.xP V h0
 mx:Gi.Mx h0
theorem En.on (E:En V h0 h s X I σ k) (f:Fr No h h'):En V h0 h' s X I σ k:=⟨E.H.on f,E.G,E.hk,E.u.on f,E.U,E.mx⟩
theorem En.mxh (E:En V h0 h s X I σ k):Gi.Mx h:=E.mx.on E.u.fr
theorem En.step {cT:SS} {k':Nat} (E:En V h0 h s X I σ k) (H:Pt h' s X' I cT) (st:bM X h X' h') (G:gJ.Good cT k') (hk:k'<=30000):En V h0 h' s X' I cT k':=⟨H,G,hk,E.u.step st,E.U,E.mx⟩
theorem En.nM (E:En V h0 h s X I σ k) {b:Nat} (hb:h.size<=b): ¬X.M b:=λhm=>by have:=E.H.lt b (.inl hm);omega
theorem kpx {S:Nat->Prop} {b:Nat} {l:List (bU)} (f:Fr S h h') (nb: ¬S b) (hl: ∀p∈l,p.map (·.block)=some b):Kp h h' l:=f.kps λp hp x e hb=>nb (by have:=hl p hp;rw[e] at this;exact(bz this)▸hb)
structure oT (X:Ft) (h:aj) (bo id:Nat) (o:Ot) (X':Ft) (h':aj):Prop where
 fr:Fr (λy=>X.M y\/y=bo) h h'
 re: ∀c,X'.M c->X.M c\/h.size<=c
 wK: ∀c,X'.D c->X.D c\/h.size<=c
 Iw: ∀c,X.D c->X'.D c
 at': ∃y,aq.jx h' bo y/\(o.e=0->∃p c,y=⟨id,0,o.num,o.KD,0,p,o.d.length,c⟩/\Row h' p (bc o.d)/\(o.d≠ []->∀z,aQ p z->(h.size<=z\/X.D z)/\¬X'.M z))
abbrev y0 (id:Nat):aq.S:=⟨id,0,0,0,0,none,0,0⟩
theorem oT.of {h1:aj} (st:bM X h X' h1) (f:Fr (λy=>y=bo) h1 h') (at': ∃y,aq.jx h' bo y/\(o.e=0->∃p c,y=⟨id,0,o.num,o.KD,0,p,o.d.length,c⟩/\Row h' p (bc o.d)/\(o.d≠ []->∀z,aQ p z->(h.size<=z\/X.D z)/\¬X'.M z))):oT X h bo id o X' h':=
 ⟨st.fr.trans f (λ_ _ a=> .inl a) (λ_ _ e=> .inr e),st.re,st.wK,st.Iw,at'⟩
theorem oT.bad {e:Int} (hb:aq.jx h bo (y0 id)) (nb: ¬X.M bo) (st:bM X h X' h') {σ:SS} :oT X h bo id (bad σ e) X' h':=
 oT.of st (Fr.refl _ _) ⟨_,st.fr.get hb nb,λ_=>⟨none,0,rfl,Row.nil,λe=>absurd rfl e⟩⟩
theorem yU {b i:Nat} {y z:aq.S} {v:Value} {K:aj->Prop} (hb:aq.jx h b y) (hi:i<6) (hz:y.arr.setIfInBounds i v=z.arr) (hk: ∀h',aq.jx h' b z->Fr (λy=>y=b) h h'->K h'):aH h (AA b i) v K:=
 bL hb hi λh1 d1 d2 d3=>hk h1 (by unfold aq.jx;rw[<-hz];exact d1) (Fr.of_eq d2 λc hc=>d3 c hc)
theorem Pt.vV {t q:Nat} (H:Pt h s X I σ) (M:Mk h' I.k σ.e t q) (f:Fr (λy=>y=I.k) h h'): ∃X',Pt h' s X' I { σ with tm:=t,sq:=q } /\bM X h X' h':=by
 obtain⟨Z,⟨_,on⟩,zm,zd,go⟩:=H.use 5;obtain⟨X',H',st,_,_⟩:=go h' Z { σ with tm:=t,sq:=q } ⟨M,on⟩ (bM.E0 (f.mono λy _ hy=>(on y).1.2 hy)) (λi hi=>gJ.akm σ.e t q hi);exact⟨X',H',st⟩
theorem aeS {n:Nat×Nat} (h:zV σ=some n):σ.tm<n.1\/σ.tm=n.1/\σ.sq<n.2:=by
 unfold zV at h;split at h
 ·cases h;left;assumption
 split at h
 ·cases h
 ·cases h;right;exact⟨rfl,Nat.lt_succ_self _⟩
theorem VO {b:BO} {d:List UInt8} (h:vc V b=some d):Bn.qQ b.p=true:=by
 unfold vc at h;split at h
 ·split at h
  ·cases h
  ·rename_i hi;unfold Bn.Cw at hi;split at hi
   ·cases hi
   ·rename_i hp;unfold Bn.x8 at hp;split at hp
    ·assumption
    ·cases hp
 ·cases h
theorem abf {b:BO} {d:List UInt8} (h:vc V b=some d):b.p.gI<=1099511627776:=by
 have:=VO h;unfold Bn.qQ at this;simp only[aW,bf] at this;exact this.2
theorem ZG {b:BO} {q:bU} {cl:Nat} {xs:List BB} {n:Nat×Nat} (E:En V h0 h s X I σ k) (w:b.p.wf) (B:qT h D b.bl q b.bl.length cl xs) (hl:b.bl.length<=1000000) (hd: ∀b'∈b.bl,b'.data.length<=80000) (hn:zV σ=some n)
  (hk: ∀h' X',Pt h' s X' I (vA V σ ses b n).σ->bM X h X' h'->R (.tuple #[.I (vA V σ ses b n).num,.I (vA V σ ses b n).KD,.I (vA V σ ses b n).e]) h'):
  Cl F.px #[(x.as p c s ses).agg,(b.s q cl).agg,(⟨σ.e,n.1,n.2⟩:oY).s.agg] h R:=by
 refine px.walk (bN.dH (x:=x.as p c s ses) λb1 h1 uf dw f1=>aw.dH (x:=b.s q cl) λb2 h2 FE fI f2=>ah.dH (x:=(⟨σ.e,n.1,n.2⟩:oY).s) λb3 h3 LP kR f3=> ?_);have F3:=f1.tt (f2.tt f3);have E3:=E.on F3;have z1:=f1.1;have z2:=f2.1;have z3:=f3.1;unfold vA at hk;refine aw.jk (x:=b.s q cl) (f3.get fI _root_.id) (Bn.ZF w E.U E3.u.fr E3.mxh (B.on F3) hl hd (λout ho lo h4 p4 c4 o4 g4 f4=>⟨_,_,_,_,rfl,?_⟩) (λho h4 f4=>⟨_,_,_,_,rfl,?_⟩))
 case refine_2=>
  rw[jy];rw[ho] at hk;exact hk h4 X (E3.H.on f4) (bM.nI (F3.tt f4))
 rw[dL];rw[ho] at hk;dsimp only at hk;have E4:=E3.on f4;have CX:=(f2.tt (f3.tt f4)).get dw _root_.id;have U3:=(f3.tt f4).get fI _root_.id;have ao6:=f4.get kR _root_.id;have z4:=f4.1;have PT:=aI CX;have zb3:=aI ao6;have n1: ¬X.M b1:=E.nM (by omega);have n3: ¬X.M b3:=E.nM (by omega);refine⟨_,af CX rfl,_,af CX rfl,_,af CX rfl,aB.2 ⟨_,af E4.H.dE rfl,_,af U3 rfl,Tj σ.now b.p.gI E.G.n (abf ho) ⟨_,rfl,(Fr.refl (λ_=>False) _).kp,gJ.GI (uC σ.now b.p.gI) rfl E4.H E.G E.hk o4.pZ rfl (by omega) λh6 X6 H6 TP=>⟨_,_,rfl,kpx TP.fr n1 (by simp),aK.of λJ hJ=> ?_⟩⟩⟩⟩;have st:=bM.no (F3.tt f4) TP;unfold BK at hk;by_cases he:gJ.IT σ ses out (uC σ.now b.p.gI)=0
 ·rw[ag he] at hk;rw[ag (by rw[he];rfl)];have Qx:=TP.fr.get CX n1;have arn:=TP.fr.get ao6 n3;have eS:(gJ.zU σ ses out (uC σ.now b.p.gI)).e=σ.e/\(gJ.zU σ ses out (uC σ.now b.p.gI)).tm=σ.tm/\(gJ.zU σ ses out (uC σ.now b.p.gI)).sq=σ.sq:=by unfold gJ.zU;rw[ag he];exact⟨rfl,rfl,rfl⟩
  have M6:=Pt.mk' H6;rw[eS.1,eS.2.1,eS.2.2] at M6;have hr:lC ⟨σ.e,n.1,n.2⟩=true:=by have:=K8 E.G hn;unfold lC;rw[E.G.e.1,ay this.1,ay this.2];rfl
  refine⟨_,af Qx rfl,aB.2 ⟨_,af H6.dE rfl,ah.jk (x:=(⟨σ.e,n.1,n.2⟩:oY).s) arn (Tk M6 ⟨σ.e,n.1,n.2⟩ rfl hr (aeS hn) λh8 M8 f8=>⟨_,rfl,?_,?_⟩)⟩⟩
  ·have zk:=aI M6;have:b1≠I.k:=λe=>by have:=aI (Pt.mk' E.H);omega
   exact kpx f8 this (by simp)
  ·subst hJ;obtain⟨X8,H8,st8⟩:=Pt.vV H6 (by rw[eS.1];exact M8) f8;exact he.symm▸hk h8 X8 H8 (st.trans st8)
 ·rw[ai he] at hk;rw[ai (by simpa using he)];subst hJ;have eS:gJ.zU σ ses out (uC σ.now b.p.gI)=σ:=by unfold gJ.zU;rw[ai he]
  rw[eS] at H6;exact hk h6 X6 H6 st
theorem Qy (H:Pt h s X I σ) (hk: ∀h',Fr No h h'->R (.I (j4.oR σ.G x.ep ses)) h'):Cl F.ml #[(x.as p c s ses).agg] h R:=by
 refine ml.walk (bN.dH (x:=x.as p c s ses) λb h1 eb hb f1=>aK.of λJ hJ=> ?_);have H1:=H.on f1;have fin: ∀(g:aj) (br:Nat),j4.Rg.at g br ((j4.pT σ.G x.ep).getD .zero)->Fr No h1 g->J (some (AA br 0)) (j4.pT σ.G x.ep).isSome g:=by
  intro g br hr fg;subst hJ;dsimp only;unfold j4.oR at hk;cases hf:j4.pT σ.G x.ep with
  |none=>rw[hf] at hk;rw[ag (by rfl)];exact hk g (f1.tt fg)
  |some r=>
   rw[hf] at hk hr;rw[ai (by simp)];refine aB.2 ⟨_,af hr rfl,_,af (fg.get hb _root_.id) rfl,?_⟩;dsimp only at hk;by_cases ho:r.own=ses
   ·rw[ag ho] at hk;rw[ai (by show¬(r.own !=ses)=true;simpa using ho)];exact hk g (f1.tt fg)
   ·rw[ai ho] at hk;rw[ag (by show(r.own !=ses)=true;simpa using ho)];exact hk g (f1.tt fg)
 obtain⟨Z,hz,_⟩:=H1.use 1;refine⟨_,af hb rfl,aB.2 ⟨_,af H1.dE rfl,oz x.ep hb rfl rfl rfl rfl rfl ⟨?_,?_,trivial⟩⟩⟩
 ·exact j4.oQ hz x.ep λh3 f3=>⟨_,_,_,_,_,_,_,_,rfl,f3.kp,bH.box λb2 h4 FE fI f4=>⟨f4.kp,bH.set fI λh5 a1 a2 a3=>fin h5 b2 a1 ((f3.tt f4).fresh (Fr.of_eq (S:=λy=>y=b2) a2 a3) (λy e=>by have:=f3.1;omega))⟩⟩
 ·refine bH.box λb2 h4 FE fI f4=>⟨f4.kp,j4.oQ (j4.Tb.on hz f4) x.ep λh3 f3=>⟨_,_,_,_,_,_,_,_,rfl,f3.kp,bH.set (f3.get fI _root_.id) λh5 a1 a2 a3=>fin h5 b2 a1 ((f4.tt f3).fresh (Fr.of_eq (S:=λy=>y=b2) a2 a3) (λy e=>by omega))⟩⟩
theorem aro {b:xU} {b4:Nat} (hb:aE.jx h b4 (b.s p c)) (rx:Row h p (bc b.data)) (cap:b.data.length<=c):qT h (λ_=>True) [b] (some (AA b4 0)) 1 1 [⟨b,p,c⟩]:=
 ⟨rfl,rfl,.inr ⟨_,rfl,aE.Lq (x:=b.s p c) hb⟩,λ_ _ _=>trivial,bh _,λy hy=>by rw[bV.1 hy];exact⟨rx,λ_ _ _=>trivial,cap⟩⟩
theorem alI {b:Nat} {P:Prim} {K:aj->Prop} (n:Nat) (hb:aC.jx h b P.s) (hk: ∀h',aC.jx h' b ({ P with fl:=n } :Prim).s->Fr (λy=>y=b) h h'->K h'):aH h (AA b 0) (.U (n:Int)) K:=
 bL hb (by show 0<20;omega) λh1 d1 d2 d3=>hk h1 d1 (Fr.of_eq d2 λc hc=>d3 c hc)
theorem arp {b:Nat} {P:Prim} {K:aj->Prop} (e:Ev) (hb:aC.jx h b P.s) (hk: ∀h',aC.jx h' b ({ P with rep:=e } :Prim).s->Fr (λy=>y=b) h h'->K h'):az.dV h (AA b 7) e.s K:=
 (show gY (AA b 7) e.s.l 0 h K from wC (off:=7) (ws:=({ P with rep:=e } :Prim).s.l) hb (by show 7+5<=20;omega) rfl rfl λh1 d1 d2 d3=>hk h1 d1 (Fr.of_eq d2 λc hc=>d3 c hc))
theorem ahu (E:En V h0 h s X I σ k) (rx:Row h p (bc x.Be)) (cap:x.Be.length<=c) (lp:x.Be.length<=1000) (w1:0<=x.ep.l6) (w2:0<=x.dest.l6) (hb:aq.jx h bo (y0 id)) (nb: ¬(X.M bo\/X.D bo))
  (hk: ∀h' X',Pt h' s X' I (FQ V σ ses x).σ->oT X h bo id (FQ V σ ses x) X' h'->R (.I (FQ V σ ses x).e) h'):
  Cl F.qe #[(x.as p c s ses).agg,.P bo 0] h R:=by
 refine qe.walk (bN.dH (x:=x.as p c s ses) λb h1 eb dw f1=>bN.jk (x:=x.as p c s ses) dw (Qy (E.H.on f1) λh2 f2=>⟨_,rfl,?_⟩));have F2:=f1.tt f2;have E2:=E.on F2;have rR:=f2.get dw _root_.id;have nM: ¬X.M bo:=λe=>nb (.inl e)
 unfold FQ at hk;by_cases ho:j4.oR σ.G x.ep ses=0
 case neg=>
  rw[ai ho] at hk;rw[ag (by simpa using ho)];exact hk h2 X E2.H (oT.bad hb nM (bM.nI F2))
 rw[ag ho] at hk;rw[ai (by simpa using ho)];refine⟨_,af rR rfl,oz x.ep rR rfl rfl rfl rfl rfl (Fz E2.H E.G x.ep (λn hn h3 f3=>ah.ex _ (ah.ex _ ⟨_,rfl,?_⟩)) (λhn h3 f3=>ah.ex _ (ah.ex _ ⟨_,rfl,?_⟩)))⟩
 case refine_2=>
  rw[hn] at hk;refine ah.dH λb1 h4 uf hc1 f4=>ah.dH λb2 h5 FE hc2 f5=>ah.mA (x:=(⟨x.ep,0,0⟩:oY).s) (f5.get hc1 _root_.id) λh6 d6 f6 _=>ah.mA (x:=oY.zero.s) (f6.get hc2 (by have:=aI hc1;omega)) λh7 d7 f7 _=> ?_
  rw[jy];have z4:=f4.1;have F7:Fr No h3 h7:=((f4.tt f5).fresh f6 (λy e=>by omega)).fresh f7 (λy e=>by omega);exact hk h7 X (E2.H.on (f3.tt F7)) (oT.bad hb nM (bM.nI (F2.tt (f3.tt F7))))
 rw[hn] at hk;dsimp only at hk;refine ah.dH λb1 h4 uf hc1 f4=>ah.dH λb2 h5 FE hc2 f5=>ah.mA (x:=(⟨x.ep,n.1,n.2⟩:oY).s) (f5.get hc1 _root_.id) λh6 d6 f6 _=>ah.mA (x:=(⟨σ.e,n.1,n.2⟩:oY).s) (f6.get hc2 (by have:=aI hc1;omega)) λh7 d7 f7 _=> ?_
 rw[dL];have z1:=f1.1;have z2:=f2.1;have z3:=f3.1;have z4:=f4.1;have z5:=f5.1;have arq:b1≠b2:=by have:=aI hc1;omega
 have F37:Fr No h3 h7:=((f4.tt f5).fresh f6 (λy e=>by omega)).fresh f7 (λy e=>by omega);have F27:=f3.tt F37;have F7:=F2.tt F27;have aeT:=F27.get rR _root_.id;have d67:=f7.get d6 arq;have z37:=F37.1;refine oz x.dest aeT rfl rfl rfl rfl rfl (ah.jk (x:=(⟨x.ep,n.1,n.2⟩:oY).s) d67 ⟨_,af aeT rfl,aC.j8 (x:=(⟨0,0,x.dest,.zero,⟨x.ep,n.1,n.2⟩,x.gI⟩:Prim).s) λb3 h9 LP hc3 f9=>⟨_,af (f9.get aeT _root_.id) rfl,aK.of λJ hJ=> ?_⟩⟩);have IY:=f9.get aeT _root_.id;have d79:=f9.get d7 _root_.id;have z9:=f9.1;have ne3:b≠b3:=by have:=aI aeT;omega
 have ars:b2≠b3:=by have:=aI d7;omega
 have fin: ∀g,aC.jx g b3 (vq x n).p.s->Fr (λy=>y=b3) h9 g->J g:=by
  intro g hp fg;subst hJ;have Fg9:Fr No h7 g:=f9.fresh fg (λy e=>by omega);have hbg:=fg.get IY ne3;refine bN.jk (x:=x.as p c s ses) hbg (aC.jk (x:=(vq x n).p.s) hp ⟨_,_,_,af hbg rfl,aE.dH (x:=(⟨1,1,0,0,x.Be⟩:xU).s p c) λb4 yi Vz hc4 f11=>ah.jk (x:=(⟨σ.e,n.1,n.2⟩:oY).s) (f11.get (fg.get d79 ars) _root_.id) ?_⟩);have Qs:=F7.tt (Fg9.tt f11);have E11:=E.on Qs;refine ZG (b:=vq x n) (x:=x) (p:=p) (c:=c) E11 ⟨w2,?_,w1⟩ (aro (b:=⟨1,1,0,0,x.Be⟩) hc4 (rx.frame Qs (λ_ _=>_root_.id)) cap) (by show 1<=_;omega) (λb' wF=>by rw[bV.1 wF];show x.Be.length<=_;omega) hn λmE X12 H12 ahv=>⟨_,_,_,rfl,?_⟩
  ·show 0<=(if x.on=true then x.ep else Ev.zero).l6;split
   ·exact w1
   ·exact ga 0
  ·have st:=bM.no Qs ahv;have ao7:=st.fr.get hb nM;refine yU (z:=⟨id,0,(vA V σ ses (vq x n) n).num,0,0,none,0,0⟩) ao7 (by decide) rfl λGP e13 f13=>yU (z:=⟨id,0,(vA V σ ses (vq x n) n).num,(vA V σ ses (vq x n) n).KD,0,none,0,0⟩) e13 (by decide) rfl λDv e14 f14=> ?_
   have no: ¬(X12.M bo\/X12.D bo):=λhm=>by
    have zo:=aI hb;rcases hm with a|a
    ·rcases st.re bo a with a|a
     ·exact nM a
     ·omega
    ·rcases st.wK bo a with a|a
     ·exact nb (.inr a)
     ·omega
   refine hk Dv X12 (H12.frame (f13.tt f14) (λy hy e=>no (e▸hy))) (oT.of st (f13.tt f14) ⟨_,e14,λhe=>⟨none,0,?_,?_,?_⟩⟩)
   ·have:(vA V σ ses (vq x n) n).d= []:=by
     unfold vA;split
     ·rfl
     ·unfold BK;split<;>rfl
    rw[this];rfl
   ·have:(vA V σ ses (vq x n) n).d= []:=by
     unfold vA;split
     ·rfl
     ·unfold BK;split<;>rfl
    rw[this];exact Row.nil
   ·intro _ z hz;obtain⟨a,e,_⟩:=hz;cases e
 cases hon:x.on with
 |false=>
  rw[ai (by show¬x.on=true;rw[hon];decide)];refine fin h9 ?_ (Fr.refl _ _);have:(vq x n).p=⟨0,0,x.dest,.zero,⟨x.ep,n.1,n.2⟩,x.gI⟩:=by unfold vq;rw[hon];rfl
  rw[this];exact hc3
 |true=>
  rw[ag (show x.on=true from hon)];refine oz x.ep IY rfl rfl rfl rfl rfl (alI 131072 hc3 λGY e15 f15=>⟨kpo f15 ne3 (by simp),arp x.ep e15 λvY e16 f16=>fin vY ?_ (f15.tt f16)⟩);have:(vq x n).p=⟨131072,0,x.dest,x.ep,⟨x.ep,n.1,n.2⟩,x.gI⟩:=by unfold vq;rw[hon];rfl
  rw[this];exact e16
end Ask
end
section
namespace Bn
open Cb
open qI (Ev dj uG)
variable {V:List UInt8→Bool} {h h0 h' g g0:aj} {R:iI} {D':Nat→Prop}
theorem tK:Ao Tryz.prog T.lO T.aE 5 56 (.agg #[.U 0,.U 0,.U 0,.I 0,.Z]):=⟨by kernel_rfl,by kernel_rfl,rfl⟩
theorem uK:Tryz.prog.underlying T.lO=some (.slice T.aE):=by kernel_rfl
theorem aeU {b:Nat} {x:BO} {q:bU} {cl:Nat} {p:Prim} {K:aj->Prop} (hb:aw.jx h b (x.s q cl)) (hk: ∀h',aw.jx h' b (BO.s ⟨p,x.bl⟩ q cl)->Fr (λy=>y=b) h h'->K h'):aC.dV h (AA b 0) p.s K:=
 (show gY (AA b 0) p.s.l 0 h K from wC (off:=0) (ws:=(BO.s ⟨p,x.bl⟩ q cl).l) hb (by show 0+20<=21;omega) rfl rfl λh1 d1 d2 d3=>hk h1 d1 (Fr.of_eq d2 λc hc=>d3 c hc))
theorem LI {b:Nat} {y x:aw.S} {K:aw.S->aj->Prop} (hb:aw.jx h b y) (hk: ∀h',Fr (λy=>y=b) h h'->K x h'):
  aw.dV h (AA b 0) x λg=>aw.df g (AA b 0) λr=>K r g:=
 aw.mA (x:=x) hb λg d1 f _=>aw.jk d1 (hk g f)
structure Bc (g0 g:aj) (bb:Nat) (p:Prim) (bs:List xU) (xs:List BB) (q:bU) (cl:Nat):Prop where
 dE:aw.jx g bb (BO.s ⟨p,bs⟩ q cl)
 own:iR g q xs.length cl 5 (xs.flatMap LG)
 ge: ∀y,aQ q y->g0.size<=y/\y≠bb
 eq:xs.map BB.b=bs
 ok: ∀x∈xs,BV.ok g (λy=>(g0.size<=y/\y≠bb)/\¬aQ q y) ⟨x.p,x.c,x.b.data⟩
 fr:Fr (λy=>y=bb) g0 g
theorem Bc.on {bb:Nat} {p:Prim} {bs:List xU} {xs:List BB} {q:bU} {cl:Nat} (L:Bc g0 g bb p bs xs q cl) (f:Fr No g h'):Bc g0 h' bb p bs xs q cl:=
 ⟨f.get L.dE id,L.own.frame f (λ_ _=>id),L.ge,L.eq,λx hx=>(L.ok x hx).frame f (λ_ _=>id),L.fr.on f⟩
theorem Bc.len {bb:Nat} {p:Prim} {bs:List xU} {xs:List BB} {q:bU} {cl:Nat} (L:Bc g0 g bb p bs xs q cl):xs.length=bs.length:=by rw[<-L.eq,aN]
theorem Bc.to {bb:Nat} {p:Prim} {bs:List xU} {xs:List BB} {q:bU} {cl:Nat} (L:Bc g0 g bb p bs xs q cl):qT g (λy=>g0.size<=y/\y≠bb) bs q bs.length cl xs:=
 ⟨L.eq,rfl,L.own.pZ,λ_=>L.ge,by have:=L.own.le;have:=L.len;omega,λx hx=>(L.ok x hx).mono λy hy=>hy.1⟩
theorem art {bb:Nat} {p:Prim} {bs:List xU} {xs:List BB} {q:bU} {cl l:Nat} {x:BB} {Φ:aj->Prop} (L:Bc g0 g bb p bs xs q cl) (hl:l=xs.length) (ll:xs.length<=1000000) (ox:BV.ok g (λy=>(g0.size<=y/\y≠bb)/\¬aQ q y) ⟨x.p,x.c,x.b.data⟩)
  (hk: ∀g' xs' q' DN,Bc g0 g' bb p (bs++ [x.b]) xs' q' DN->g.size<=g'.size->Φ g'):
  aV g (.cells x.s.arr T.aE) λeY cW=>aX Tryz.prog (Builtin.append_ #[T.lO,T.lO] T.lO #[.slice q l cl,.slice (some (AA eY 0)) 1 1]) cW λgR dA=>
   ∃qq pd rM,gR=.slice qq pd rM/\aH dA (AA bb 20) (.slice qq pd rM) λfc=>Φ fc:=by
 subst hl;refine aE.dH λb2 h7 FE fI f7=> ?_
 have z7:=f7.1;have zg:=L.fr.1;have zb2:=aI fI;have zbb:=aI L.dE;have nq: ∀y,aQ q y->y<g.size:=λy hy=>L.own.gm hy
 refine fQ tK uK (L.own.frame f7 (λ_ _=>id)) (ds:=LG x) (.inr ⟨_,rfl,aE.Lq (x:=x.s) fI⟩) rfl (aeP x) (by omega) (by omega) λq' DN yi o11 _ f11 g11=>⟨_,_,_,rfl,?_⟩
 have b11:=f11.get (f7.get L.dE id) (λhy=>(L.ge _ hy).2 rfl);refine bL b11 (by show 20<21;omega) λmE d1 d2 d3=> ?_
 have f12:Fr (λy=>y=bb) yi mE:=Fr.of_eq d2 (λc hc=>d3 c hc);have nq': ∀y,aQ q' y->g0.size<=y/\y≠bb:=λy hy=>by
  rcases g11 y hy with a|a
  ·exact L.ge y a
  ·omega
 have ef:xs.flatMap LG++LG x=(xs++ [x]).flatMap LG:=by rw[dI,List.flatMap_singleton]
 have el:(bs++ [x.b]).length=xs.length+1:=by rw[aF,L.len];rfl
 refine hk mE (xs++ [x]) q' DN ⟨?_,?_,nq',?_,?_,?_⟩ ?_
 ·unfold aw.jx BO.s;rw[el];exact d1
 ·rw[aF,<-ef];exact o11.frame f12 (λy hy e=>by have:=nq' y hy;omega)
 ·rw[bm,L.eq];rfl
 ·intro y hy;have key: ∀w:BB,BV.ok g (λy=>(g0.size<=y/\y≠bb)/\¬aQ q y) ⟨w.p,w.c,w.b.data⟩->BV.ok mE (λy=>(g0.size<=y/\y≠bb)/\¬aQ q' y) ⟨w.p,w.c,w.b.data⟩:=λw ow=>by
   have o1:=((Sy ow).frame f7 (λ_ _=>id)).frame f11 (λy hy AU=>hy.1.2 AU);have o2:=o1.mono (D':=λy=>(g0.size<=y/\y≠bb)/\¬aQ q' y) (λy hy=>⟨hy.1.1,λAU=>by
    rcases g11 y AU with a|a
    ·exact hy.1.2 a
    ·have:=hy.2;omega⟩)
   exact o2.frame f12 (λy hy e=>by omega)
  rcases bT.1 hy with a|a
  ·exact key y (L.ok y a)
  ·rw[bV.1 a];exact key x ox
 ·exact((L.fr.on f7).trans f11 (S'':=λy=>y=bb) (λ_ _=>id) (λx hx hy=>by have:=L.ge x hy;omega)).trans f12 (λ_ _=>id) (λ_ _=>id)
 ·have:=f11.1;omega
theorem aeV {t:Tr} {b:xU} (h:Kh V t=.ok b):b.data.length<=200:=by
 unfold Kh at h;split at h
 ·cases h
 ·split at h
  ·split at h
   ·rename_i hw;split at h
    ·cases h;unfold DI at hw;split at hw
     ·rename_i hr;exact(Hj hr).2.2.1
     ·cases hw
    ·cases h
   ·cases h
  ·cases h
theorem aeW {b:BO} (h:(vc V b).isSome=true):b.bl.length<=8/\b.bl≠ []:=by
 unfold vc at h;split at h
 ·rename_i hf;unfold Me at hf;split at hf
  ·cases hf
  ·rename_i hq;simp only[aW,bf] at hf;exact⟨hf.1.1,λe=>by rw[e] at hq;cases hq⟩
 ·cases h
def BO.zs:aw.S:=.z
theorem ZH {bs:List UInt8} {p:bU} {l c:Nat} (U:xP V h0) (u:Fr No h0 h) (mx:Gi.Mx h) (row:Row h p (bc bs)) (hl:l=bs.length) (cap:bs.length<=c)
  (k1: ∀b,Fh V bs=.ok b->b.p.wf->(∀b'∈b.bl,b'.data.length<=200)->b.bl.length<=8->∀h' q cl xs,qT h' (λy=>h.size<=y) b.bl q b.bl.length cl xs->Fr No h h'->R (.tuple #[(b.s q cl).agg,.I 0]) h')
  (k2: ∀e,Fh V bs=.error e->e≠0->∀h',Fr No h h'->R (.tuple #[aw.S.z.agg,.I e]) h'):Cl F.qi #[.slice p l c] h R:=by
 subst hl;have hP:Fh V bs=Fh V bs:=rfl;conv at hP=>rhs;unfold Fh
 refine qi.walk (aw.dH λb h1 eb hb f1=> ?_);have zb:=aI hb;have z1:=f1.1;have no: ∀g e,Fr No h1 g->Fh V bs=.error e->e≠0->aw.dV g (AA b 0) .z λg'=>aw.df g' (AA b 0) λr=>R (.tuple #[r.agg,.I e]) g':=λg e fg he hn=>
  LI (fg.get hb id) λg' f=>k2 e he hn g' ((f1.tt fg).fresh f (λy e=>by omega))
 by_cases c0:bs.length<=1200
 case neg=>rw[ag (by simp only[bf];omega)];exact no h1 2 (Fr.refl _ _) (by rw[hP,ai c0]) (by decide)
 rw[dL];rw[ag c0] at hP;refine Lm (U.mono (u.tt f1)) (row.frame f1 (λ_ _=>id)) rfl cap (by omega) (λh3 t x nx hr tx f3=>aa.ex x.s ⟨_,_,rfl,aa.j8 (x:=x.s) λb1 h5 uf dw f5=> ?_⟩) (λh3 e he f3=>aa.ex zv.s ⟨_,_,rfl,aa.j8 (x:=zv.s) λb1 h5 uf dw f5=> ?_⟩)
 case refine_2=>
  rw[ag (by simpa using Dm he)];exact no h5 e (f3.tt f5) (by rw[hP,he]) (Dm he)
 rw[hr] at hP;dsimp only at hP;obtain⟨rt,nxl⟩:=JR hr;rw[dL];have F5:=f1.tt (f3.tt f5);obtain⟨xk,xn,xb,xl,xv,ys,L,TS⟩:=kT.kn (tx.u.on f5);have rl:=yT (t:=t);have ln:=TS.len;refine aK.of λJ hJ=> ?_
 have bad: ¬(nx=bs.length/\t.k=4/\2<=t.l.length/\t.l.length<=9)->J true h5:=λhn=>by
  subst hJ;dsimp only;rw[ag rfl];exact no h5 3 (f3.tt f5) (by rw[hP,ai hn]) (by decide)
 have sl:x.s.xO=t.l.length:=xl;by_cases c1:nx=bs.length
 case neg=>rw[ag (by simp only[fK,iq];omega)];exact bad (λe=>c1 e.1)
 rw[ai (by simp only[fK,iq];omega)];refine⟨_,af dw rfl,?_⟩;rw[show x.s.f0=t.k from xk];by_cases c2:t.k=4
 case neg=>rw[ag (by simpa using c2)];exact bad (λe=>c2 e.2.1)
 rw[ai (by simpa using c2)];refine⟨_,_,_,af dw rfl,?_⟩;by_cases c3:2<=t.l.length
 case neg=>rw[ag (by simp only[bf];omega)];exact bad (λe=>c3 e.2.2.1)
 rw[dL];refine⟨_,_,_,af dw rfl,?_⟩;by_cases c4:t.l.length<=9
 case neg=>rw[show decide ((x.s.xO:Int)>9)=true by simp only[bf];omega];exact bad (λe=>c4 e.2.2.2)
 rw[show decide ((x.s.xO:Int)>9)=false by simp only[decide_eq_false_iff_not];omega];clear bad;rw[ag ⟨c1,c2,c3,c4⟩] at hP;subst hJ;try dsimp only
 rw[dL];have z5:=F5.1;have z5':=(f3.tt f5).1;refine aw.dH λb2 h9 FE fI f9=> ?_
 have z9:=f9.1;have zb2:=aI fI;obtain⟨a0,y0,ea0,hh0,Yt,_⟩:=elem (L.frame f9 (λ_ _=>id)) (TS.on f9) (i:=0) (by omega);have r0:=rZ (ts:=t.l) (i:=0) (by omega);have F9:=F5.tt f9;refine⟨_,_,_,af (f9.get dw id) rfl,⟨by omega,by omega⟩,cG.2 ⟨a0,ea0,aa.yS (x:=y0.s) hh0 ?_⟩⟩;refine aeL U (u.tt F9) (mx.on F9) Yt (by omega) (λpr hp wp vj f10=>aC.ex pr.s ⟨_,rfl,aeU (x:=⟨Prim.zero, []⟩) (p:=pr) (q:=none) (cl:=0) (f10.get fI id) λyi d11 f11=> ?_⟩) (λe he hn vj f10=>aC.ex Prim.zero.s ⟨_,rfl,aeU (x:=⟨Prim.zero, []⟩) (p:=Prim.zero) (q:=none) (cl:=0) (f10.get fI id) λyi d11 f11=> ?_⟩)
 case refine_2=>
  rw[ag (by simpa using hn)];exact no yi e ((f3.tt (f5.tt (f9.tt f10))).fresh f11 (λy e=>by omega)) (by rw[hP,he]) hn
 rw[dL];rw[hp] at hP;dsimp only at hP;have G11:Fr No h5 yi:=(f9.tt f10).fresh f11 (λy e=>by omega);refine⟨_,_,_,af (G11.get dw id) rfl,⟨by omega,by omega⟩,?_⟩;have e1:Int.toNat 1=1:=rfl;rw[e1,sl];refine⟨λt' g=> ∃(i:Nat) (out:List xU) (xs:List BB) (q:bU) (cl:Nat),t'=(i:Int)/\i+1<=t.l.length/\out.length=i/\Bc h5 g b2 pr out xs q cl/\(∀b'∈out,b'.data.length<=200)/\Fh V bs=(match RE V (t.l.drop (i+1)) out with| .error e=> .error e| .ok l=>if(vc V ⟨pr,l⟩).isSome=true then .ok ⟨pr,l⟩ else .error 3),λt' _=>t.l.length - 1 - t'.toNat,⟨0, [], [],none,0,rfl,by omega,rfl,⟨d11,.nil rfl rfl rfl rfl,(λy ⟨a,e,_⟩=>by cases e),rfl,(λx hx=>by cases hx),(f9.tt f10).mono (λ_ _=>False.elim)|>.tt f11⟩,(λx hx=>by cases hx),hP⟩,?_⟩;rintro _ g ⟨i,out,xs,q,cl,rfl,hi,ho,B,hd,he⟩;have FG:Fr No h5 g:=(Fr.refl _ _).fresh B.fr (λy e=>by omega);have G1:Fr No h1 g:=f3.tt (f5.tt FG);by_cases nQ:i+1<t.l.length
 case neg=>
  rw[ai (λe=>nQ (by have:=of_decide_eq_true e;omega))];rw[fL (by omega)] at he;have he:Fh V bs=if(vc V ⟨pr,out⟩).isSome=true then .ok ⟨pr,out⟩ else .error 3:=he
  refine aw.jk B.dE (Ox (b:=⟨pr,out⟩) wp U (u.tt (F5.tt FG)) (mx.on (F5.tt FG)) B.to (by show out.length<=_;omega) (λb' wF=>by have:=hd b' wF;omega) λh23 f23=>⟨_,rfl,?_⟩);cases hw:(vc V ⟨pr,out⟩).isSome with
  |false=>
   rw[jy];exact no h23 3 (G1.tt f23) (by rw[he,hw];rfl) (by decide)
  |true=>
   rw[hw,ag rfl] at he;rw[dL];refine aw.jk (f23.get B.dE id) (LI ((G1.tt f23).get hb id) λg' f=>k1 ⟨pr,out⟩ he wp hd (aeW hw).1 g' q cl xs ?_ ((f1.tt (G1.tt f23)).fresh f (λy e=>by omega)));exact((B.to.on f23).frame f (λy hy e=>by omega)).mono λy hy=>by omega
 rw[jy];have ao8:t.l.drop (i+1)=at_ t.l (i+1)::t.l.drop (i+1+1):=by
  rw[da nQ];unfold at_;rw[ba,au nQ];rfl
 rw[ao8] at he;have hB: ∀t' l',RE V (t'::l') out=(match Kh V t' with| .error e=> .error e| .ok b=>RE V l' (out++ [b])):=λ_ _=>rfl
 rw[hB] at he;have Lg:=L.frame FG (λ_ _=>id);have cc:x.ll<=x.cl:=L.cap;have L2:xD g (λ_=>True) (cZ x.s.BN x.s.Ax 1 4) (t.l.length - 1) (x.s.Ax - 1) (ys.drop 1):=by
  have hr:=Lg.row.sub (cap:=x.cl) (l:=1) (u:=t.l.length) (sz:=4) (by omega) (by omega);rw[wo mJ 4 jR,y7 mJ 4 jR,bR (by omega)] at hr;exact⟨by rw[cf];omega,hr,λ_ _ _=>trivial,by show _<=x.cl - 1;omega⟩
 have T2:Mu g (t.l.drop 1) (ys.drop 1):=(TS.on FG).drop 1;obtain⟨a1,y1,Yu,V0,VD,_⟩:=elem L2 T2 (i:=i) (by rw[cf];omega);have ei:at_ (t.l.drop 1) i=at_ t.l (i+1):=by unfold at_;rw[ba,ba,iL,Nat.add_comm]
 rw[ei] at VD;have r1:=rZ (ts:=t.l) (i:=i+1) nQ;refine⟨⟨by omega,by omega⟩,cG.2 ⟨a1,Yu,aa.yS (x:=y1.s) (by rw[aL];exact V0) (aa.j8 (x:=y1.s) λb3 GY LP kR f15=>aa.jk kR ?_)⟩⟩;have zg:=FG.1;refine aht U (u.tt (F5.tt (FG.tt f15))) (mx.on (F5.tt (FG.tt f15))) (VD.on f15) (by omega) (λbk hbk vY p16 c16 ov f16=>aE.ex (bk.s p16 c16) ⟨_,rfl,aE.j8 (x:=bk.s p16 c16) λb4 Gl Vz ma f18=> ?_⟩) (λe hE hn vY f16=>aE.ex .z ⟨_,rfl,aE.j8 (x:=.z) λb4 Gl Vz ma f18=> ?_⟩)
 case refine_2=>
  rw[ag (by simpa using hn)];exact no Gl e (G1.tt (f15.tt (f16.tt f18))) (by rw[he,hE]) hn
 rw[dL];rw[hbk] at he;dsimp only at he;have aru:=f15.tt (f16.tt f18);have VP:=B.on aru;have z15:=f15.1;have nq: ∀y,aQ q y->y<g.size:=λy hy=>B.own.gm hy
 have zbg:=aI B.dE;refine⟨_,_,_,af VP.dE rfl,aE.jk ma (art (x:=⟨bk,p16,c16⟩) VP (by show out.length=_;exact B.len.symm) (by have:=B.len;omega) ((ov.frame f18 (λ_ _=>id)).mono λy hy=>⟨by omega,λhq=>by have:=nq y hq;omega⟩) λg' xs' q' DN B' zg'=> ?_)⟩;rw[bK (n:=(i:Int)+1) (by omega) (by omega)];refine⟨⟨i+1,out++ [bk],xs',q',DN,by omega,by omega,by rw[aF,ho];rfl,B',λb' wF=> ?_,he⟩,by show t.l.length - 1 - Int.toNat ((i:Int)+1)<t.l.length - 1 - Int.toNat (i:Int);omega⟩;rcases bT.1 wF with a|a
 ·exact hd b' a
 ·rw[bV.1 a];exact aeV hbk
end Bn
end
section
namespace Ask
open qI (Ev dj)
open gJ (SS Good Pt GW Mk)
open Bn (oY lC oz Lw Qr BO Prim xU qT BB vc Fh IE)
variable {V:List UInt8→Bool} {h h' h0 g:aj} {R:iI} {s k bo id c:Nat} {X X':Ft} {I:GW} {σ:SS} {p:bU} {ses:Int} {x:Rq} {D:Nat→Prop}
theorem bM.box {b:Nat} (st:bM X h X' h') (f:Fr (λy=>y=b) h' g) (hb:h.size<=b):bM X h X' g:=⟨st.fr.trans f (λ_ _ a=>a) (λc hc e=>by omega),st.re,st.wK,st.Iw⟩
def aeX (σ:SS) (X:Ft) (I:GW) (s:Nat) (ses:Int) (dl:Nat) (x:Ev) (g:aj) (S:aJ.S) (e:Int) (h':aj):Prop:=
 ∃X' cT,Pt h' s X' I cT/\bM X g X' h'/\((¬hU.DL ses dl/\e=1/\cT=σ)\/(hU.DL ses dl/\hU.tM σ.C.L x=none/\e=4/\cT=σ)\/
  (hU.DL ses dl/\∃z,hU.tM σ.C.L x=some z/\e=0/\cT= { σ with C:=hU.xx σ.C z ses dl } /\∃p c,S.f0=(z.num:Int)/\S.IA=p/\S.IB=z.d.length/\S.IC=c/\Row h' p (bc z.d)/\z.d.length<=c/\∀y,aQ p y->g.size<=y/\¬X'.M y))
theorem LJ (H:Pt g s X I σ) (G:gJ.Good σ k) (hk:k<=30000) (x:Ev) (dl:Nat) {K:aJ.S->Int->aj->Prop} (hK: ∀S e h',aeX σ X I s ses dl x g S e h'->K S e h'):
  Cl F.iG #[pt I.c,x.s.agg,.I ses,.U (dl:Int)] g λv h'=>aJ.EX λS=> ∃e,v=.tuple #[S.agg,.I e]/\K S e h':=by
 obtain⟨Z,hz,zm,zd,go⟩:=H.use 2;have sm:=G.small H.ord (by omega);refine hU.aaR hz sm G.c.ok.bd x ses dl rfl (λhm g1 f1=> ?_) (λhm hn g1 f1=> ?_) (λhm z hz g1 Z1 p1 c1 C1 s1 r1 c1' n1=> ?_)
 ·exact aJ.ex .z ⟨_,rfl,hK _ _ _ ⟨X,σ,H.on f1,bM.nI f1,.inl ⟨hm,rfl,rfl⟩⟩⟩
 ·exact aJ.ex .z ⟨_,rfl,hK _ _ _ ⟨X,σ,H.on f1,bM.nI f1,.inr (.inl ⟨hm,hn,rfl,rfl⟩)⟩⟩
 ·obtain⟨X1,H1,st1,dd1,nn1⟩:=go g1 Z1 { σ with C:=hU.xx σ.C z ses dl } C1 s1 (λi hi=>gJ.GX _ hi);exact aJ.ex ⟨(z.num:Int),z.e.vD,z.e.node,z.e.l6,z.e.host,z.e.sM,p1,z.d.length,c1,(z.cF:Int),ses,(dl:Int)⟩ ⟨_,rfl,hK _ _ _ ⟨X1,_,H1,st1,.inr (.inr ⟨hm,z,hz,rfl,rfl,p1,c1,rfl,rfl,rfl,rfl,r1,c1',λy hy=>⟨(n1 y hy).1,λhx=>(n1 y hy).2 (nn1 y (n1 y hy).1 (.inl hx))⟩⟩)⟩⟩
theorem ahw (E:En V h0 h s X I σ k) (ht:0<=x.kq/\x.kq<=1000000) (hb:aq.jx h bo (y0 id)) (nb: ¬(X.M bo\/X.D bo))
  (hk: ∀h' X',Pt h' s X' I (Eb V σ ses x).σ->oT X h bo id (Eb V σ ses x) X' h'->R (.I (Eb V σ ses x).e) h'):
  Cl F.qh #[(x.as p c s ses).agg,.P bo 0] h R:=by
 refine qh.walk (bN.dH (x:=x.as p c s ses) λb h1 eb dw f1=>bN.jk (x:=x.as p c s ses) dw (Qy (E.H.on f1) λh2 f2=>⟨_,rfl,?_⟩));have F2:=f1.tt f2;have E2:=E.on F2;have rR:=f2.get dw _root_.id;have nM: ¬X.M bo:=λe=>nb (.inl e)
 have zo:=aI hb;have z1:=f1.1;have z2:=f2.1;unfold Eb at hk;by_cases ho:j4.oR σ.G x.ep ses=0
 case neg=>
  rw[ai ho] at hk;rw[ag (by simpa using ho)];exact hk h2 X E2.H (oT.bad hb nM (bM.nI F2))
 rw[ag ho] at hk;rw[ai (by simpa using ho)];refine aK.of λJ hJ=> ?_
 have fin: ∀(g h' g':aj) (S:aJ.S) (e:Int) (bx:Nat),aeX σ X I s ses (dlN σ x) x.ep g S e h'->Fr No h2 g->h.size<=bx->(bx<g.size\/h'.size<=bx)->aJ.jx g' bx S->Fr (λy=>y=bx) h' g'->J (some (AA bx 0)) e g':=by
  intro g h' g' S e bx L fg hbc dbc hS f;subst hJ;dsimp only;obtain⟨X',cT,H',st',c⟩:=L;have zg:=fg.1;have DH:=bM.no (F2.tt fg) st';have st:=bM.box DH f hbc;have UD: ∀y,X'.M y\/X'.D y->y≠bx:=λy hy e=>by
   have:=H'.lt y hy;rcases hy with a|a
   ·rcases st'.re y a with a|a
    ·have:=E.H.lt y (.inl a);omega
    ·omega
   ·rcases st'.wK y a with a|a
    ·have:=E.H.lt y (.inr a);omega
    ·omega
  have Hg:=H'.frame f (λy hy e=>UD y hy e);rcases c with⟨hm,rfl,rfl⟩|⟨hm,hn,rfl,rfl⟩|⟨hm,z,hz,rfl,rfl,p1,c1,e0,e1,e2,e3,r1,cap,n1⟩
  ·rw[ai hm] at hk;rw[jy];exact hk g' X' Hg (oT.bad hb nM st)
  ·rw[ag hm,hn] at hk;rw[jy];exact hk g' X' Hg (oT.bad hb nM st)
  rw[ag hm,hz] at hk;dsimp only at hk;rw[dL];have rg:Row g' p1 (bc z.d):=by
   by_cases hd:z.d= []
   ·rw[hd];exact Row.nil
   ·refine r1.frame f (λa ea hx=> ?_);have h3:=n1 a.block ⟨a,ea,rfl⟩;have h4:=qN r1 (by simpa[bc] using hd) ⟨a,ea,rfl⟩;have hx:a.block=bx:=hx;omega
  have ug:=(E.u.step st).fr;have ac: ∀ {g2:aj} {i:Nat} {v:Value},Fr No g' g2->S.arr[i]? =some v->ak g2 (AA bx i)=some v:=λf2 hv=>af (f2.get hS _root_.id) hv
  have bcl:=aI hS;have hbo:=st.fr.get hb nM;have bne:bo≠bx:=by omega
  have rest: ∀(g5:aj) (b':BO) (q:bU) (cl:Nat) (xs:List BB) (D:Nat->Prop),qT g5 D b'.bl q b'.bl.length cl xs->b'.bl.length<=1000000->(∀y∈b'.bl,y.data.length<=80000)->(IE b').length=Vo V z.d->Fr No g' g5->
   aV g5 (.cells aw.S.z.arr T.aw) λcD cJ=>
   aw.dV cJ (AA cD 0) (b'.s q cl) λcQ=>
   aP (some ((AA bx 0):Addr)) λpE=>
   ∃t52,ak cQ pE=some (.I t52)/\
   aw.df cQ (AA cD 0) λt53=>
   aP (some ((AA bx 0):Addr)) λrY=>
   ∃N0 N1 SW,ak cQ (rY.add 6)=some (.slice N0 N1 SW)/\
   Cl F.nV #[t53.agg] cQ λgR cW=>
   ∃Ib CS KL,gR=.slice Ib CS KL/\
   Kp cQ cW [(some (rY.add 6)),(some pE)]/\
   aH cW (AA bo 2) (.I t52) λdA=>
   Kp cW dA [(some (rY.add 6))]/\
   aH dA (AA bo 3) (.I (CS:Int)) λfc=>
   Kp dA fc [(some (rY.add 6))]/\
   aH fc (AA bo 5) (.slice N0 N1 SW) λcP=>
   R (.I 0) cP:=by
   intro g5 b' q cl xs D B hl hd hp f5;refine aw.j8 (x:=b'.s q cl) λb6 g6 eb6 RQ f6=>aB.2 ⟨_,ac (i:=0) (f5.tt f6) rfl,aw.jk (x:=b'.s q cl) RQ (aB.2 ⟨_,_,_,ac (i:=6) (f5.tt f6) rfl,Bn.VN (B.on f6) hl hd λg7 p7 c7 o7 n7 f7=>⟨_,_,_,rfl,f7.kp,?_⟩⟩)⟩
   have F7:=f5.tt (f6.tt f7);rw[hp,e0,e1,e2,e3];refine yU (z:=⟨id,0,(z.num:Int),0,0,none,0,0⟩) (F7.get hbo _root_.id) (by decide) rfl λg8 d8 f8=>⟨kpo f8 bne.symm (by simp;rfl),yU (z:=⟨id,0,(z.num:Int),(Vo V z.d:Int),0,none,0,0⟩) d8 (by decide) rfl λg9 d9 f9=>⟨kpo f9 bne.symm (by simp;rfl),yU (z:=⟨id,0,(z.num:Int),(Vo V z.d:Int),0,p1,z.d.length,c1⟩) d9 (by decide) rfl λg10 d10 f10=> ?_⟩⟩
   have fo:=f8.tt (f9.tt f10);have arv: ∀y,X'.M y\/X'.D y->y≠bo:=λy hy e=>by
    rcases hy with a|a
    ·rcases DH.re y a with a|a
     ·exact nM (e▸a)
     ·omega
    ·rcases DH.wK y a with a|a
     ·exact nb (.inr (e▸a))
     ·omega
   refine hk g10 X' ((Hg.on F7).frame fo (λy hy e=>arv y hy e)) (oT.of (st.on F7) fo ⟨_,d10,λ_=>⟨p1,c1,rfl,?_,λ_ y hy=>⟨.inl (by have:=(n1 y hy).1;omega),(n1 y hy).2⟩⟩⟩);exact(rg.frame F7 (λ_ _=>_root_.id)).frame fo (λa ea hx=>by have h3:=(n1 a.block ⟨a,ea,rfl⟩).1;have hx:a.block=bo:=hx;omega)
  refine aB.2 ⟨_,_,_,ac (i:=6) (Fr.refl _ _) rfl,?_⟩;rw[e1,e2,e3];refine Bn.ZH E.U ug (E.mx.on ug) rg rfl cap (λb' wF w' hd' hl' h5 q cl xs B f5=>aw.ex (b'.s q cl) ⟨_,rfl,?_⟩) (λe he hn h5 f5=>aw.ex .z ⟨_,rfl,?_⟩)
  ·exact rest h5 b' q cl xs _ B (by omega) (λy hy=>by have:=hd' y hy;omega) (by unfold Vo;rw[wF]) f5
  ·exact rest h5 ⟨.zero, []⟩ none 0 [] (λ_=>True) ⟨rfl,rfl,Row.nil,λe=>absurd rfl e,bh _,λy hy=>by cases hy⟩ (by show 0<=_;omega) (λy hy=>by cases hy) (by unfold Vo;rw[he];rfl) f5
 have Tu: ¬X.M b:=E.nM (by omega);have eT:IntKind.wrap .u64 x.kq=(x.kq.toNat:Int):=by rw[wrap_u64 (by omega) (by omega)];omega
 have un: ∀ {g:aj} {K:Int->aj->Prop},K (dlN σ x:Int) g->Cl F.sD #[.U (σ.now:Int),.U (IntKind.wrap .u64 x.kq)] g λv g'=> ∃t,v=.U t/\K t g':=λhK=>by
  rw[eT];exact Tj σ.now x.kq.toNat E.G.n (by omega) ⟨_,rfl,hK⟩
 refine⟨_,af rR rfl,aB.2 ⟨_,af E2.H.dE rfl,oz x.ep rR rfl rfl rfl rfl rfl ⟨_,af rR rfl,_,af rR rfl,aB.2 ⟨_,af E2.H.dE rfl,_,af rR rfl,⟨?_,?_,trivial⟩⟩⟩⟩⟩
 ·refine un ⟨(Fr.refl (λ_=>False) _).kp,?_,?_,trivial⟩
  ·exact LJ E2.H E.G E.hk x.ep (dlN σ x) λS e mE L=>⟨(by obtain⟨_,_,_,st,_⟩:=_root_.id L;exact kpx st.fr Tu (by simp)),aJ.dH λb2 GP FE fI f13=>⟨f13.kp,aJ.mA (x:=S) fI λDv d14 f14 _=>fin h2 mE Dv S e b2 L (Fr.refl _ _) (by obtain⟨_,_,_,st,_⟩:=_root_.id L;have:=st.fr.1;omega) (.inr (by omega)) d14 (Fr.no f13 f14)⟩⟩
  ·refine aJ.dH λb3 GY LP kR f15=>⟨f15.kp,LJ (E2.H.on f15) E.G E.hk x.ep (dlN σ x) λS e vY L=> ?_⟩
   have z15:=f15.1;have zb3:=aI kR;exact⟨(by obtain⟨_,_,_,st,_⟩:=_root_.id L;exact kpx st.fr Tu (by simp)),aJ.mA (x:=S) (by obtain⟨_,_,_,st,_⟩:=_root_.id L;exact st.fr.get kR (E.nM (by omega))) λQq d17 f17 _=>fin GY vY Qq S e b3 L f15 (by omega) (.inl zb3) d17 f17⟩
 ·refine aJ.dH λb3 GY LP kR f15=>⟨f15.kp,un ⟨(Fr.refl (λ_=>False) _).kp,LJ (E2.H.on f15) E.G E.hk x.ep (dlN σ x) λS e vY L=> ?_⟩⟩
  have z15:=f15.1;have zb3:=aI kR;exact⟨(by obtain⟨_,_,_,st,_⟩:=_root_.id L;exact kpx st.fr Tu (by simp)),aJ.mA (x:=S) (by obtain⟨_,_,_,st,_⟩:=_root_.id L;exact st.fr.get kR (E.nM (by omega))) λQq d17 f17 _=>fin GY vY Qq S e b3 L f15 (by omega) (.inl zb3) d17 f17⟩
theorem KP (E:En V h0 h s X I σ k) (hb:aq.jx h bo (y0 id)) (nb: ¬(X.M bo\/X.D bo))
  (hk: ∀h' X',Pt h' s X' I (G8 σ ses x.on).σ->oT X h bo id (G8 σ ses x.on) X' h'->R (.I (G8 σ ses x.on).e) h'):
  Cl F.oV #[(x.as p c s ses).agg,.P bo 0] h R:=by
 refine oV.walk (bN.dH (x:=x.as p c s ses) λb h1 eb dw f1=> ?_);have E1:=E.on f1;have nM: ¬X.M bo:=λe=>nb (.inl e)
 have zo:=aI hb;have Tu: ¬X.M b:=E.nM (by omega);obtain⟨Z,hz,zm,zd,go⟩:=E1.H.use 0;unfold G8 at hk;refine⟨_,af dw rfl,aB.2 ⟨_,af E1.H.dE rfl,_,af dw rfl,_,af dw rfl,gU.KP hz E.G.a λh2 Z2 T2 s2=> ?_⟩⟩;obtain⟨X2,H2,AF,dd2,nn2⟩:=go h2 Z2 { σ with A:=gU.qS σ.A ses x.on } T2 s2 (λi hi=>gJ.PI _ hi);refine⟨_,rfl,kpx AF.fr Tu (by simp),aK.of λJ hJ=> ?_⟩;have DH:=bM.no f1 AF;by_cases he:gU.GO σ.A ses=0
 case neg=>
  rw[ai he] at hk;rw[ai (by simpa using he)];subst hJ;have eA:gU.qS σ.A ses x.on=σ.A:=by
   unfold gU.GO at he;unfold gU.qS;cases hs:gU.vm σ.A ses with
   |none=>rfl
   |some z=>rw[hs] at he;exact absurd rfl he
  rw[eA] at H2;exact hk h2 X2 H2 (oT.bad hb nM DH)
 rw[ag he] at hk;rw[ag (by rw[he];rfl)];have rR:=AF.fr.get dw Tu;have nb2: ¬X2.M b:=λhm=>by
  rcases AF.re b hm with a|a
  ·exact Tu a
  ·have:=aI dw;omega
 obtain⟨Z3,hz3,zm3,zd3,go3⟩:=H2.use 0;refine⟨_,af rR rfl,aB.2 ⟨_,af H2.dE rfl,_,af rR rfl,gU.Fm hz3 (E.G.a.watch ses x.on) λh4 Z4 p4 c4 T4 s4 ok4=> ?_⟩⟩;obtain⟨X4,H4,Vg,dd4,nn4⟩:=go3 h4 Z4 { σ with A:=gU.Nr (gU.qS σ.A ses x.on) ses } T4 s4 (λi hi=>gJ.PI (σ:= { σ with A:=gU.qS σ.A ses x.on }) _ hi);have st:=DH.trans Vg;refine⟨_,_,_,_,_,rfl,kpx Vg.fr nb2 (by simp),?_⟩;have hbo:=st.fr.get hb nM;refine yU (z:=⟨id,0,0,0,0,p4,(gU.Nq (gU.qS σ.A ses x.on) ses).length,c4⟩) hbo (by decide) rfl λh5 d5 f5=>yU (z:=⟨id,0,0,gU.WI (gU.qS σ.A ses x.on) ses,0,p4,(gU.Nq (gU.qS σ.A ses x.on) ses).length,c4⟩) d5 (by decide) rfl λh6 d6 f6=> ?_
 subst hJ;have fo:=f5.tt f6;have UD: ∀y,X4.M y\/X4.D y->y≠bo:=λy hy e=>by
  rcases hy with a|a
  ·rcases st.re y a with a|a
   ·exact nM (e▸a)
   ·omega
  ·rcases st.wK y a with a|a
   ·exact nb (.inr (e▸a))
   ·omega
 refine hk h6 X4 (H4.frame fo (λy hy e=>UD y hy e)) (oT.of st fo ⟨_,d6,λ_=>⟨p4,c4,rfl,?_,λhd z hz=> ?_⟩⟩)
 ·have:=BV.ok.frame ok4 fo (λy hy e=>UD y (.inr (dd4 y hy)) e);exact this.row
 ·have h3:=dd4 z (ok4.own hd z hz);exact⟨(st.wK z h3).symm,λhm=>H4.GK z hm h3⟩
end Ask
end
section
namespace Bn
open Cb
open qI (Ev dj uG)
variable {V:List UInt8→Bool} {h h0 h' g:aj} {R:iI} {D:Nat→Prop}
abbrev LO.s (r:LO):bW.S:=⟨r.rc,r.dl,r.de,r.reason,r.at',r.of.e.vD,r.of.e.node,r.of.e.l6,r.of.e.host,r.of.e.sM,r.of.tm,r.of.sq⟩
theorem abg (r:LO) (hk: ∀h',Fr No h h'->R (.bool (nA r)) h'):Cl F.tp #[r.s.agg] h R:=by
 refine tp.walk (bW.dH λb h1 eb hb f1=>⟨_,af hb rfl,?_⟩);have rest:(r.rc||r.dl||r.de)=true->∃t15,ak h1 (AA b 3)=some (.U t15)/\if(decide (t15<=255))=true then∃t20,ak h1 (AA b 4)=some (.U t20)/\if(decide (t20<=1099511627776))=true then ah.df h1 (AA b 5) λt25=>Cl F.kk #[t25.agg] h1 λv aZ=> ∃t26,v=.bool t26/\R (.bool t26) aZ else R (.bool false) h1 else R (.bool false) h1:=λhc=>by
  refine⟨_,af hb rfl,?_⟩;rw[show decide ((r.s.f3:Int)<=255)=decide (r.reason<=255) from vC r.reason 255];unfold nA at hk;rw[hc] at hk;by_cases c1:r.reason<=255
  case neg=>rw[ai (by simpa using c1)];rw[decide_eq_false c1] at hk;exact hk h1 f1
  rw[ag (ay c1)];rw[ay c1] at hk;refine⟨_,af hb rfl,?_⟩;rw[show decide ((r.s.f4:Int)<=1099511627776)=decide (r.at'<=1099511627776) from vC r.at' 1099511627776];by_cases c2:r.at'<=1099511627776
  case neg=>rw[ai (by simpa using c2)];rw[decide_eq_false c2] at hk;exact hk h1 f1
  rw[ag (ay c2)];rw[ay c2] at hk;exact Lw r.of hb rfl rfl rfl rfl rfl rfl rfl (DB r.of λh2 f2=>⟨_,rfl,hk h2 (f1.tt f2)⟩)
 cases c1:r.rc with
 |true=>rw[ag (show r.s.f0=true from c1)];exact rest (by rw[c1];rfl)
 |false=>
 rw[ai (show¬r.s.f0=true by rw[show r.s.f0=r.rc from rfl,c1];decide)];refine⟨_,af hb rfl,?_⟩;cases c2:r.dl with
 |true=>rw[ag (show r.s.f1=true from c2)];exact rest (by rw[c1,c2];rfl)
 |false=>
 rw[ai (show¬r.s.f1=true by rw[show r.s.f1=r.dl from rfl,c2];decide)];refine⟨_,af hb rfl,?_⟩;cases c3:r.de with
 |true=>rw[ag (show r.s.f2=true from c3)];exact rest (by rw[c1,c2,c3];rfl)
 |false=>
 rw[ai (show¬r.s.f2=true by rw[show r.s.f2=r.de from rfl,c3];decide)];have:=hk h1 f1;unfold nA at this;rw[c1,c2,c3] at this;exact this
abbrev bo (l:List Bool):List Value:=l.map λb=> .bool b
theorem aeY {p:bU} {n c:Nat} {l:List Bool} (row:Row h p (bo l)) (hn:n=l.length) (hl:l.length<=100000)
  (hk: ∀h' z,Ee h' (λy=>h.size<=y) (RG l) z->Fr No h h'->R z.s.agg h'):Cl F.ux #[.slice p n c] h R:=by
 subst hn;refine ux.walk (aa.dH λb h1 eb hb f1=>rU (ts:= []) (ys:= []) (D:=λ_=>True) ⟨rfl,.inl rfl,λe=>absurd rfl e,bh _⟩ .nil (by simp[dY]) λh2 z tz f2=>aa.ex z.s ⟨rfl,aa.j8 (x:=z.s) λb1 h4 uf dw f4=> ?_⟩);have zb:=aI hb;have z1:=f1.1;have z2:=f2.1;have z4:=f4.1;have PT:=aI dw;have F4:=f1.tt (f2.tt f4);have tz4:Ee h4 (λy=>h1.size<=y/\y≠b1) (DE []) z:=by
  obtain⟨⟨a1,a2,a3,a4⟩,zs,a5,a6,a7,a8⟩:=tz;refine⟨⟨a1,a2,a3,((Sy a4).mono λy hy=>by omega).frame f4 (λ_ _=>id)⟩,zs,a5,a6.frame f4 (λ_ _=>id),λy hy=>⟨a7 y hy,by have:=a6.gm hy;omega⟩,(dG.mono (λy hy=>by have h1:=hy.1.1;have h2:=hy.2;exact⟨⟨h1,by omega⟩,hy.1.2⟩) a8.lt).on f4⟩
 obtain⟨zs,ez,Lz⟩:=aeD (g0:=h1) tz4 dw ((f2.tt f4).mono λ_ _=>False.elim);have e4:z.k=4:=tz.1.1;have en:z.n=0:=tz.1.2.1;have e0:z.v.b= []:=tz.1.2.2.1;refine⟨λt g=> ∃(i:Nat) (ys:List CV) (q:bU) (cl:Nat),t=(i:Int)/\i<=l.length/\ys.length=i/\Lc h1 g b1 z.k z.n z.v ((l.take i).map λb=>num (if b=true then 1 else 0)) ys q cl,λt _=>l.length - t.toNat,⟨0,zs,z.q,z.cl,rfl,cj _,?_,by rw[fM];exact Lz⟩,?_⟩
 ·have:=Lz.tr.len;exact this.symm
 rintro _ g ⟨i,ys,q,cl,rfl,hi,hy,L⟩;by_cases nQ:i<l.length
 case neg=>
  rw[ai (λe=>nQ (by have:=of_decide_eq_true e;omega))];rw[bR (by omega)] at L;have Vx:z.v.ok g (λy=>h1.size<=y/\y≠b1):=⟨by rw[e0];exact Row.nil,λe=>absurd e0 e,tz.1.2.2.2.cap⟩;have tw:=aeE (k':=z.n) L Vx;rw[e4,en,e0] at tw;refine aa.jk (x:=CV.s ⟨z.k,z.n,z.v,q,ys.length,cl⟩) L.dE (fin (z:=⟨z.k,z.n,z.v,q,ys.length,cl⟩) (t:=RG l) (D:=λy=>h1.size<=y/\y≠b1) (L.fr.get hb (by omega)) (by rw[e4,en];exact tw) (λy hy e=>by omega) λg' tg fg=>hk g' _ (tg.mono λy hy=>by omega) ((f1.fresh L.fr (λy e=>by omega)).fresh fg (λy e=>by omega)))
 rw[jy];have FG:Fr No h g:=f1.fresh L.fr (λy e=>by omega);obtain⟨a,rfl⟩:=row.some (by intro e;have:=bp List.length e;rw[aN,bC] at this;omega);have hc:ak g (a.add (i*1))=some (.bool l[i]):=by
  have:=(row.frame FG (λ_ _=>id)).cell (j:=i) (v:=.bool l[i]) (by rw[aO,au nQ];rfl);rw[cN];exact this
 refine⟨⟨by omega,by omega⟩,cG.2 ⟨a,rfl,_,hc,aK.of λJ hJ=> ?_⟩⟩;have go: ∀k:Nat,k=(if l[i]=true then 1 else 0)->J (k:Int) g:=by
  intro k ek;subst hJ;dsimp only;refine⟨_,_,_,af L.dE rfl,jw λh6 f6=>aa.ex (nv k).s ⟨rfl,f6.kp,?_⟩⟩;refine aeF (L.on f6) (by omega) (akX (n:=k)).toA λg' QQ q' DN L' hl' _ _=> ?_
  rw[bK (n:=(i:Int)+1) (by omega) (by omega)];refine⟨⟨i+1,QQ,q',DN,by omega,by omega,by omega,?_⟩,by show l.length - Int.toNat ((i:Int)+1)<l.length - Int.toNat (i:Int);omega⟩;rw[bY,au nQ,bm];rw[ek] at L';exact L'
 cases c:l[i] with
 |true=>rw[ag rfl];exact go 1 (by rw[c];rfl)
 |false=>rw[dL];exact go 0 (by rw[c];rfl)
theorem abh {r:LO} (hr:nA r=true):room (O9 r)<=1000:=by
 unfold nA at hr;simp only[aW,bf] at hr;have:=Ta r.of hr.2;simp only[O9,RG,room,dY,bC,cA,List.map_nil];omega
theorem ahx (r:LO) (w:0<=r.of.e.l6) (U:xP V h0) (u:Fr No h0 h)
  (k1: ∀bs,aat V r=some bs->bs.length<=1000->∀h' p c,iR h' p bs.length c 1 (bc bs)->(∀y,aQ p y->h.size<=y)->Fr No h h'->R (.tuple #[.slice p bs.length c,.I 0]) h')
  (k2:aat V r=none->∀h',Fr No h h'->R (.tuple #[.Z,.I 3]) h'):Cl F.tj #[r.s.agg] h R:=by
 refine tj.walk (bW.dH λb h1 eb hb f1=>Lw r.of hb rfl rfl rfl rfl rfl rfl rfl (Yy r.of w λh2 z qz z0 z1 f2=>aa.ex z.s ⟨_,rfl,aa.j8 (x:=z.s) λb1 h4 uf dw f4=>aK.of λJ hJ=> ?_⟩));have ma:=(f2.tt f4).get hb id;have F4:=f1.tt (f2.tt f4);have bad: ∀g,Fr No h g->¬(nA r=true)->J true g:=λg fg hn=>by
  subst hJ;dsimp only;rw[ag rfl];exact k2 (by unfold aat;rw[ai (λe=>hn e.1)]) g fg
 by_cases hq:qz=0
 case neg=>
  rw[ag (by simpa using hq)];exact bad h4 F4 (λe=>hq (z1.2 (by unfold nA at e;simp only[aW] at e;exact e.2)))
 rw[ai (by simpa using hq)];have tz:=z0 hq;refine bW.jk ma (abg r λh5 f5=>⟨_,rfl,?_⟩);have F5:=F4.tt f5;cases hr:nA r with
 |false=>exact bad h5 F5 (by rw[hr];decide)
 |true=>
 clear bad;subst hJ;dsimp only;rw[dL];have DJ:=f5.get ma id;have rm:=abh hr;refine⟨_,af DJ rfl,_,af DJ rfl,_,af DJ rfl,_,af DJ rfl,_,af DJ rfl,aa.jk (f5.get dw id) ?_⟩;have rest: ∀g y,SX g (RG [r.rc,r.dl,r.de]) y->Fr No h5 g->∀ {kl kl1 kl2:List (bU)},Cl F.fH #[.U (r.reason:Int)] g λkU fc=>aa.EX λt30=>kU=t30.agg/\Kp g fc kl/\Cl F.fH #[.U (r.at':Int)] fc λot cP=>aa.EX λt33=>ot=t33.agg/\Kp fc cP kl1/\
   aV cP (.cells (y.s.l++t30.l++t33.l++z.s.l).toArray T.aa) λjQ cV=>Cl F.fN #[.slice (some (AA jQ 0)) 4 4] cV λxu dD=>aa.EX λt36=>xu=t36.agg/\
   aV dD (.cells ((nv 1).s.l++t36.l).toArray T.aa) λpH dF=>Cl F.fN #[.slice (some (AA pH 0)) 2 2] dF λAT fC=>aa.EX λt38=>AT=t38.agg/\Cl F.mr #[t38.agg] fC λDM gD=>
   ∃Gb Gc Gd FA,DM=.tuple #[.slice Gb Gc Gd,.I FA]/\R (.tuple #[.slice Gb Gc Gd,.I FA]) gD:=by
  intro g y ty fg kl kl1 kl2;refine jw λh9 f9=>aa.ex (nv r.reason).s ⟨rfl,f9.kp,jw λvj f10=>aa.ex (nv r.at').s ⟨rfl,f10.kp,?_⟩⟩
  have G10:=fg.tt (f9.tt f10);have T4:Mu vj [RG [r.rc,r.dl,r.de],num r.reason,num r.at',idT r.of] [y,nv r.reason,nv r.at',z]:=.cons (ty.on (f9.tt f10)) (.cons xK (.cons xK (.cons (tz.on (f4.tt (f5.tt G10))) .nil)));have e2:room (O9 r)=27+dY [RG [r.rc,r.dl,r.de],num r.reason,num r.at',idT r.of]:=by simp only[O9,room,dY,bC];omega
  refine AY T4 (by omega) rfl rfl λmE w tw f12=>aa.ex w.s ⟨rfl,?_⟩
  have T2:Mu mE [num 1,DE [RG [r.rc,r.dl,r.de],num r.reason,num r.at',idT r.of]] [nv 1,w]:=two xK tw.u;refine AY T2 (by simp only[dY,room,bC] at e2⊢;omega) rfl rfl λDv w2 tw2 f14=>aa.ex w2.s ⟨rfl,?_⟩
  have F14:=F5.tt (G10.tt (f12.tt f14));refine Hc U (u.tt F14) tw2.toA (t:=O9 r) (by omega) (λe GY p c o n f15=>⟨_,_,_,_,rfl,?_⟩) (λe GY f15=>⟨_,_,_,_,rfl,?_⟩)
  ·have:=F14.1;exact k1 (enc (O9 r)) (by unfold aat;rw[ag ⟨hr,e⟩]) (by have:=rW (O9 r);omega) GY p c o (λy hy=>by have:=n y hy;omega) (F14.tt f15)
  ·exact k2 (by unfold aat;rw[ai (λe'=>by rw[e] at e';cases e'.2)]) GY (F14.tt f15)
 have ao9: ∀ {g} {K:Nat->aj->Prop},(∀b h',Row h' (some (AA b 0)) (bo [r.rc,r.dl,r.de])->Fr No g h'->K b h')->aV g (.cells #[.bool r.s.f0,.bool r.s.f1,.bool r.s.f2] T.bool) K:=λhk=>cX (hk _ _ rV (Fr.push _ _))
 refine⟨?_,?_,trivial⟩
 ·refine jw (n:=1) λh6 f6=>aa.ex (nv 1).s ⟨rfl,f6.kp,ao9 λb2 h7 r7 f7=>⟨f7.kp,aeY r7 rfl (by show 3<=_;omega) λh8 y ty f8=>aa.ex y.s ⟨rfl,f8.kp,rest h8 y ty.u (f6.tt (f7.tt f8)) (kl2:= [])⟩⟩⟩
 ·refine ao9 λb2 h7 r7 f7=>⟨f7.kp,jw (n:=1) λh6 f6=>aa.ex (nv 1).s ⟨rfl,f6.kp,aeY (r7.frame f6 (λ_ _=>id)) rfl (by show 3<=_;omega) λh8 y ty f8=>aa.ex y.s ⟨rfl,f8.kp,rest h8 y ty.u (f7.tt (f6.tt f8)) (kl2:= [])⟩⟩⟩
theorem abi (r:LO) (dest:Ev) (id:oY) (gI:Nat) (w:0<=r.of.e.l6) (w1:0<=dest.l6) (w2:0<=id.e.l6) (U:xP V h0) (u:Fr No h0 h) (mx:Gi.Mx h)
  (k1: ∀b,vz V r dest id gI=some b->b.bl.length=1->b.p.wf->(∀b'∈b.bl,b'.data.length<=1000)->∀h' q cl xs,qT h' (λy=>h.size<=y) b.bl q b.bl.length cl xs->Fr No h h'->R (.tuple #[(b.s q cl).agg,.I 0]) h')
  (k2:vz V r dest id gI=none->∀h',Fr No h h'->R (.tuple #[aw.S.z.agg,.I 3]) h'):Cl F.nt #[r.s.agg,dest.s.agg,id.s.agg,.U (gI:Int)] h R:=by
 refine nt.walk (bW.dH λb h1 eb hb f1=>az.dH λb1 h2 uf dw f2=>ah.dH λb2 h3 FE fI f3=>aw.dH λb3 h4 LP kR f4=>bW.jk ((f2.tt (f3.tt f4)).get hb _root_.id) ?_);have F4:=f1.tt (f2.tt (f3.tt f4));have z4:=F4.1;have z1:=f1.1;have z3:=(f1.tt (f2.tt f3)).1;have zb3:=aI kR;refine ahx r w U (u.tt F4) (λbs hw lb h5 p c o n f5=>⟨_,_,_,_,rfl,?_⟩) (λhw h5 f5=>⟨_,_,_,_,rfl,?_⟩)
 case refine_2=>
  rw[jy];exact LI (f5.get kR _root_.id) λg f=>k2 (by unfold vz;rw[hw]) g ((F4.tt f5).fresh f (λy e=>by omega))
 rw[dL];have F5:=F4.tt f5;have z5:=f5.1;refine az.jk (x:=dest.s) ((f3.tt (f4.tt f5)).get dw _root_.id) (ah.jk (x:=id.s) ((f4.tt f5).get fI _root_.id) (aE.dH (x:=xU.s ⟨1,1,0,0,bs⟩ p c) λb4 h7 Vz ma f7=>aw.dH λb5 h8 eb5 DJ f8=> ?_));have hR:vz V r dest id gI=if(vc V ⟨⟨2,0,dest,.zero,id,gI⟩, [⟨1,1,0,0,bs⟩]⟩).isSome=true then some ⟨⟨2,0,dest,.zero,id,gI⟩, [⟨1,1,0,0,bs⟩]⟩ else none:=by unfold vz;rw[hw]
 generalize hB:(⟨⟨2,0,dest,.zero,id,gI⟩, [⟨1,1,0,0,bs⟩]⟩:BO)=B at hR;have e1:B.bl= [⟨1,1,0,0,bs⟩]:=by rw[<-hB]
 have ep:B.p.wf:=by rw[<-hB];exact⟨w1,ga 0,w2⟩
 have zb4:=aI ma;have zb5:=aI DJ;have z7:=f7.1;have z8:=f8.1;have B8:qT h8 (λy=>h4.size<=y/\y≠b5) B.bl (some (AA b4 0)) B.bl.length 1 [⟨⟨1,1,0,0,bs⟩,p,c⟩]:=by
  rw[e1];refine⟨rfl,rfl,.inr ⟨_,rfl,aE.Lq (x:=xU.s ⟨1,1,0,0,bs⟩ p c) (f8.get ma _root_.id)⟩,λ_ y ⟨a,e,e'⟩=>by cases e;rw[<-e'];exact⟨by show h4.size<=b4;omega,by show b4≠b5;omega⟩,bh _,λx hx=> ?_⟩;rw[bV.1 hx];exact BV.wL ((o.frame f7 (λ_ _=>_root_.id)).frame f8 (λ_ _=>_root_.id)) (λy hy=>⟨n y hy,by have:=o.gm hy;omega⟩)
 have eS:(B.s (some (AA b4 0)) 1)=(⟨2,0,dest.s.f0,dest.s.f1,dest.s.f2,dest.s.f3,dest.s.f4,false,0,0,⟨#[]⟩,⟨#[]⟩,id.s.f0,id.s.f1,id.s.f2,id.s.f3,id.s.f4,id.s.f5,id.s.f6,gI,(some (AA b4 0)),1,1⟩:aw.S):=by rw[<-hB];rfl
 rw[<-eS];refine aw.mA (x:=B.s (some (AA b4 0)) 1) DJ λh9 d9 f9 _=>aw.jk d9 ?_
 have G9:Fr No h5 h9:=(f7.tt f8).fresh f9 (λy e=>by omega);have B9:=B8.frame f9 (λy hy e=>hy.2 e);refine Ox ep U (u.tt (F5.tt G9)) (mx.on (F5.tt G9)) B9 (by rw[e1];simp) (λb' wF=>by rw[e1] at wF;rw[bV.1 wF];show bs.length<=_;omega) λvj f10=>⟨_,rfl,?_⟩
 have ai7:=(f5.tt (G9.tt f10)).get kR _root_.id;have Nj:=F5.tt (G9.tt f10);cases hq:(vc V B).isSome with
 |false=>
  rw[jy];exact LI ai7 λg f=>k2 (by rw[hR,hq];rfl) g (Nj.fresh f (λy e=>by omega))
 |true=>
  rw[dL];rw[hq,ag rfl] at hR;refine aw.jk (f10.get d9 _root_.id) (LI ai7 λg f=>k1 B hR (by rw[e1];rfl) ep (λb' wF=>by rw[e1] at wF;rw[bV.1 wF];exact lb) g _ 1 [⟨⟨1,1,0,0,bs⟩,p,c⟩] ?_ (Nj.fresh f (λy e=>by omega)));exact((B9.on f10).frame f (λy hy e=>by omega)).mono λy hy=>by omega
end Bn
end
section
namespace Ask
open qI (Ev dj)
open gJ (SS Good Pt GW Mk)
open Bn (oY lC oz Lw Qr BO Prim xU LO qT BB vc Fh IE vz)
variable {V:List UInt8→Bool} {h h' h0 g:aj} {R:iI} {s k c:Nat} {X X':Ft} {I:GW} {σ:SS} {p:bU} {ses:Int} {x:Rq} {D:Nat→Prop}
def NX (σ:SS) (x1 x2:oY) (e:Int):Prop:=(e=0/\∃n,zV σ=some n/\x1=⟨σ.e,n.1,n.2⟩/\x2=⟨σ.e,n.1,n.2⟩)\/(e=5/\zV σ=none)
theorem Tv (H:Pt g s X I σ) {K:ah.S->aj->Prop} (hK: ∀g',Fr No g g'->K (⟨σ.e,σ.tm,σ.sq⟩:oY).s g'):Cl F.gP #[pt I.k] g λv g'=>ah.EX λt=>v=t.agg/\K t g':=
 gJ.XC (Pt.mk' H) λg' f=>ah.ex (⟨σ.e,σ.tm,σ.sq⟩:oY).s ⟨rfl,hK g' f⟩
theorem Df (H:Pt g s X I σ) (G:gJ.Good σ k) {K:ah.S->ah.S->Int->aj->Prop} (hK: ∀g' x1 x2 e,NX σ x1 x2 e->Fr No g g'->K x1.s x2.s e g'):
  Cl F.kh #[pt s,σ.e.s.agg] g λv g'=>ah.EX λt1=>ah.EX λt2=> ∃e,v=.tuple #[t1.agg,t2.agg,.I e]/\K t1 t2 e g':=
 Fz H G σ.e (λn hn g' f=>ah.ex (⟨σ.e,n.1,n.2⟩:oY).s (ah.ex (⟨σ.e,n.1,n.2⟩:oY).s ⟨_,rfl,hK g' _ _ 0 (.inl ⟨rfl,n,hn,rfl,rfl⟩) f⟩)) (λhn g' f=>ah.ex (⟨σ.e,0,0⟩:oY).s (ah.ex oY.zero.s ⟨_,rfl,hK g' _ _ 5 (.inr ⟨rfl,hn⟩) f⟩))
theorem apa (E:En V h0 g s X I σ k) (P:Prim) (n:Nat×Nat) (w:P.wf) {K:aw.S->Int->aj->Prop}
  (hK: ∀g' (b:BO) q cl xs e,((e=0/\vz V ⟨false,true,false,0,σ.now,P.id⟩ P.rep ⟨σ.e,n.1,n.2⟩ P.gI=some b/\b.p.wf/\b.bl.length=1/\(∀y∈b.bl,y.data.length<=80000)/\qT g' (λy=>g.size<=y) b.bl q b.bl.length cl xs)\/(e=3/\vz V ⟨false,true,false,0,σ.now,P.id⟩ P.rep ⟨σ.e,n.1,n.2⟩ P.gI=none))->Fr No g g'->K (b.s q cl) e g'):
  Cl F.nt #[(⟨false,true,false,0,σ.now,P.id⟩:LO).s.agg,P.rep.s.agg,(⟨σ.e,n.1,n.2⟩:oY).s.agg,.U (P.gI:Int)] g λv g'=>aw.EX λt=> ∃e,v=.tuple #[t.agg,.I e]/\K t e g':=
 Bn.abi ⟨false,true,false,0,σ.now,P.id⟩ P.rep ⟨σ.e,n.1,n.2⟩ P.gI w.2.2 w.2.1 E.G.e.2.2 E.U E.u.fr E.mxh
  (λb hb hl wb hd g' q cl xs B f=>aw.ex (b.s q cl) ⟨_,rfl,hK g' b q cl xs 0 (.inl ⟨rfl,hb,wb,hl,(λy hy=>by have:=hd y hy;omega),B⟩) f⟩)
  (λhn g' f=>aw.ex (BO.s ⟨.zero, []⟩ none 0) ⟨_,rfl,hK g' ⟨.zero, []⟩ none 0 [] 3 (.inr ⟨rfl,hn⟩) f⟩)
theorem apb {d:List UInt8} {q:bU} {cd:Nat} (E:En V h0 g s X I σ k) (row:Row g q (bc d)) (cap:d.length<=cd) {K:aw.S->Int->aj->Prop}
  (hK: ∀g' (b:BO) q' cl e,b.p.wf->(Ik b.p=false->qM V σ ses d=(σ,0))->(Ik b.p=true->Fh V d=.ok b)->Fr No g g'->K (b.s q' cl) e g'):
  Cl F.qi #[.slice q d.length cd] g λv g'=>aw.EX λt=> ∃e,v=.tuple #[t.agg,.I e]/\K t e g':=
 Bn.ZH E.U E.u.fr E.mxh row rfl cap
  (λb hb w hd hl g' q' cl xs B f=>aw.ex (b.s q' cl) ⟨_,rfl,hK g' b q' cl 0 w (λht=>by unfold qM;rw[hb];dsimp only;rw[ai (by rw[ht];decide)]) (λ_=>hb) f⟩)
  (λe he hn g' f=>aw.ex (BO.s ⟨.zero, []⟩ none 0) ⟨_,rfl,hK g' ⟨.zero, []⟩ none 0 e ⟨ga 0,ga 0,ga 0⟩ (λ_=>by unfold qM;rw[he]) (λht=>absurd ht (by rw[show Ik Prim.zero=false by kernel_rfl];decide)) f⟩)
theorem ahy {d:List UInt8} {q:bU} {l cd:Nat} (E:En V h0 h s X I σ k) (row:Row h q (bc d)) (hl:l=d.length) (cap:d.length<=cd)
  (hk: ∀h' X',Pt h' s X' I (qM V σ ses d).1->bM X h X' h'->R (.I (qM V σ ses d).2) h'):
  Cl F.qj #[(x.as p c s ses).agg,.slice q l cd] h R:=by
 subst hl;refine qj.walk (bN.dH (x:=x.as p c s ses) λb h1 eb dw f1=> ?_);refine apb (ses:=ses) (E.on f1) (row.frame f1 (λ_ _=>id)) cap λh2 b' q' cl e0 w tp0 tp1 f2=>aw.j8 (x:=b'.s q' cl) λb3 h4 LP kR f4=>Bn.pld kR (aC.j8 (x:=b'.p.s) λb4 h6 Vz ma f6=>aK.of λJ hJ=> ?_)
 have F6:=f1.tt (f2.tt (f4.tt f6));have E6:=E.on F6;have Qx:=(f2.tt (f4.tt f6)).get dw id;have dn: ∀g,Fr No h g->qM V σ ses d=(σ,0)->R (.I 0) g:=λg fg e=>by rw[e] at hk;exact hk g X (E.H.on fg) (bM.nI fg)
 have key: ∀v,v= !Ik b'.p->J v h6:=by
  intro v hv;subst hv;subst hJ;dsimp only;cases ht:Ik b'.p with
  |false=>rw[jy];exact dn h6 F6 (tp0 ht)
  |true=>
  rw[dL];have hbR:=tp1 ht;refine aK.of λJ1 pA=> ?_
  have arw: ∀(g:aj) (bi bw:Nat) (x1 x2:oY) (e:Int),NX σ x1 x2 e->ah.jx g bi x1.s->ah.jx g bw x2.s->Fr No h6 g->J1 (some (AA bi 0)) (some (AA bw 0)) e g:=by
   intro g bi bw x1 x2 e nx hi hw fg;subst pA;dsimp only;rcases nx with⟨rfl,n,hn,rfl,rfl⟩|⟨rfl,hn⟩
   case inr=>
    rw[jy];exact dn g (F6.tt fg) (by unfold qM;rw[hbR];dsimp only;rw[ag ht,hn])
   rw[dL];have Eg:=E6.on fg;have agG:=fg.get Qx id;have alJ:=fg.get ma id;refine aK.of λJ2 zX=> ?_
   have apc: ∀(g5:aj) (b5:BO) (q:bU) (cl:Nat) (xs:List BB) (D:Nat->Prop) (br:Nat) (e:Int),((e=0/\vz V ⟨false,true,false,0,σ.now,b'.p.id⟩ b'.p.rep ⟨σ.e,n.1,n.2⟩ b'.p.gI=some b5/\b5.p.wf/\b5.bl.length=1/\(∀y∈b5.bl,y.data.length<=80000)/\qT g5 D b5.bl q b5.bl.length cl xs)\/(e=3/\vz V ⟨false,true,false,0,σ.now,b'.p.id⟩ b'.p.rep ⟨σ.e,n.1,n.2⟩ b'.p.gI=none))->
     aw.jx g5 br (b5.s q cl)->Fr No g g5->J2 e (some (AA br 0)) g5:=by
    intro g5 b5 q cl xs D br e sp hr f5;subst zX;dsimp only;rcases sp with⟨rfl,hs,wb,hl,hd,B⟩|⟨rfl,hs⟩
    case inr=>
     rw[jy];exact dn g5 (F6.tt (fg.tt f5)) (by unfold qM;rw[hbR];dsimp only;rw[ag ht,hn];dsimp only;rw[hs])
    rw[dL];refine bN.jk (x:=x.as p c s ses) (f5.get agG id) (aB.2 (aw.jk (x:=b5.s q cl) hr (aB.2 (ah.jk (x:=(⟨σ.e,n.1,n.2⟩:oY).s) (f5.get hw id) (ZG (b:=b5) (x:=x) (p:=p) (c:=c) (ses:=ses) (Eg.on f5) wb B (by omega) hd hn λh9 X9 H9 st9=>⟨_,_,_,rfl,?_⟩)))));have eQ:qM V σ ses d=((vA V σ ses b5 n).σ,if(vA V σ ses b5 n).e=0 then 1 else 0):=by unfold qM;rw[hbR];dsimp only;rw[ag ht,hn];dsimp only;rw[hs]
    rw[eQ] at hk;have hk:=hk h9 X9 H9 (bM.no (F6.tt (fg.tt f5)) st9);by_cases c0:(vA V σ ses b5 n).e=0
    ·rw[ai (by simpa using c0)];rw[ag c0] at hk;exact hk
    ·rw[ag (by simpa using c0)];rw[ai c0] at hk;exact hk
   refine⟨_,af agG rfl,aB.2 ⟨_,af Eg.H.dE rfl,Lw b'.p.id alJ rfl rfl rfl rfl rfl rfl rfl (oz b'.p.rep alJ rfl rfl rfl rfl rfl (aB.2 (ah.jk (x:=(⟨σ.e,n.1,n.2⟩:oY).s) hi ⟨_,af alJ rfl,?_,?_,trivial⟩)))⟩⟩
   ·refine apa Eg b'.p n w λg2 b5 q cl xs e sp u2=>⟨u2.kp,aw.dH λbr g3 er hr u3=>⟨u3.kp,aw.mA (x:=b5.s q cl) hr λg4 d4 u4 _=> ?_⟩⟩
    have U4:Fr No g2 g4:=u3.fresh u4 (λy e=>by omega);refine apc g4 b5 q cl xs (λy=>g.size<=y) br e ?_ d4 (u2.tt U4);rcases sp with⟨a1,a2,a3,a4,a5,a6⟩|a
    ·exact .inl ⟨a1,a2,a3,a4,a5,a6.on U4⟩
    ·exact .inr a
   ·refine aw.dH λbr g3 er hr u3=>⟨u3.kp,apa (Eg.on u3) b'.p n w λg2 b5 q cl xs e sp u2=>⟨u2.kp,aw.mA (x:=b5.s q cl) (u2.get hr id) λg4 d4 u4 _=> ?_⟩⟩
    have zr:=aI hr;have U4:Fr No g g4:=(u3.tt u2).fresh u4 (λy e=>by omega);refine apc g4 b5 q cl xs (λy=>g3.size<=y) br e ?_ d4 U4;rcases sp with⟨a1,a2,a3,a4,a5,a6⟩|a
    ·exact .inl ⟨a1,a2,a3,a4,a5,a6.frame u4 (λy hy e=>by omega)⟩
    ·exact .inr a
  have IZ: ∀(g:aj) (bi bw:Nat) (y1 y2:ah.S) (x1 x2:oY) (e:Int),NX σ x1 x2 e->ah.jx g bi y1->ah.jx g bw y2->bi≠bw->h6.size<=bi->h6.size<=bw->Fr No h6 g->
    ah.dV g (AA bi 0) x1.s λg1=>ah.dV g1 (AA bw 0) x2.s λg2=>J1 (some (AA bi 0)) (some (AA bw 0)) e g2:=by
   intro g bi bw y1 y2 x1 x2 e nx hi hw ne zi zw fg;exact ah.mA (x:=x1.s) hi λg1 d1 u1 _=>ah.mA (x:=x2.s) (u1.get hw ne.symm) λg2 d2 u2 _=>arw g2 bi bw x1 x2 e nx (u2.get d1 ne) d2 ((fg.fresh u1 (λy e=>by omega)).fresh u2 (λy e=>by omega))
  have lt: ∀ {g:aj} {b:Nat} {y:ah.S},ah.jx g b y->b<g.size:=λh=>aI h
  have le: ∀ {g g':aj},Fr No g g'->g.size<=g'.size:=λf=>f.1
  refine⟨_,af Qx rfl,_,af Qx rfl,aB.2 ⟨_,af E6.H.dE rfl,?_,?_,?_,trivial⟩⟩
  ·refine Tv E6.H λg1 u1=>⟨u1.kp,?_,?_,?_,trivial⟩
   ·refine Df (E6.H.on u1) E.G λg2 x1 x2 e nx u2=>⟨u2.kp,?_,?_,trivial⟩
    ·exact ah.dH λb5 g3 e5 c5 u3=>⟨u3.kp,ah.dH λb6 g4 e6 c6 u4=>⟨u4.kp,IZ g4 b5 b6 _ _ x1 x2 e nx (u4.get c5 id) c6 (by have:=lt c5;omega) (by have:=le u1;have:=le u2;omega) (by have:=le u1;have:=le u2;have:=le u3;omega) (u1.tt (u2.tt (u3.tt u4)))⟩⟩
    ·exact ah.dH λb5 g3 e5 c5 u3=>⟨u3.kp,ah.dH λb6 g4 e6 c6 u4=>⟨u4.kp,IZ g4 b6 b5 _ _ x1 x2 e nx c6 (u4.get c5 id) (by have:=lt c5;omega) (by have:=le u1;have:=le u2;have:=le u3;omega) (by have:=le u1;have:=le u2;omega) (u1.tt (u2.tt (u3.tt u4)))⟩⟩
   ·refine ah.dH λb5 g3 e5 c5 u3=>⟨u3.kp,?_,?_,trivial⟩
    ·exact Df (E6.H.on (u1.tt u3)) E.G λg2 x1 x2 e nx u2=>⟨u2.kp,ah.dH λb6 g4 e6 c6 u4=>⟨u4.kp,IZ g4 b5 b6 _ _ x1 x2 e nx ((u2.tt u4).get c5 id) c6 (by have:=lt c5;have:=le u2;omega) (by have:=le u1;omega) (by have:=le u1;have:=le u2;have:=le u3;omega) (u1.tt (u3.tt (u2.tt u4)))⟩⟩
    ·exact ah.dH λb6 g4 e6 c6 u4=>⟨u4.kp,Df (E6.H.on (u1.tt (u3.tt u4))) E.G λg2 x1 x2 e nx u2=>⟨u2.kp,IZ g2 b5 b6 _ _ x1 x2 e nx ((u4.tt u2).get c5 id) (u2.get c6 id) (by have:=lt c5;omega) (by have:=le u1;omega) (by have:=le u1;have:=le u3;omega) (u1.tt (u3.tt (u4.tt u2)))⟩⟩
   ·refine ah.dH λb5 g3 e5 c5 u3=>⟨u3.kp,?_,?_,trivial⟩
    ·exact Df (E6.H.on (u1.tt u3)) E.G λg2 x1 x2 e nx u2=>⟨u2.kp,ah.dH λb6 g4 e6 c6 u4=>⟨u4.kp,IZ g4 b6 b5 _ _ x1 x2 e nx c6 ((u2.tt u4).get c5 id) (by have:=lt c5;have:=le u2;omega) (by have:=le u1;have:=le u2;have:=le u3;omega) (by have:=le u1;omega) (u1.tt (u3.tt (u2.tt u4)))⟩⟩
    ·exact ah.dH λb6 g4 e6 c6 u4=>⟨u4.kp,Df (E6.H.on (u1.tt (u3.tt u4))) E.G λg2 x1 x2 e nx u2=>⟨u2.kp,IZ g2 b6 b5 _ _ x1 x2 e nx (u2.get c6 id) ((u4.tt u2).get c5 id) (by have:=lt c5;omega) (by have:=le u1;have:=le u3;omega) (by have:=le u1;omega) (u1.tt (u3.tt (u4.tt u2)))⟩⟩
  ·refine ah.dH λb5 g3 e5 c5 u3=>⟨u3.kp,?_,?_,trivial⟩
   ·refine Tv (E6.H.on u3) λg1 u1=>⟨u1.kp,?_,?_,trivial⟩
    ·exact Df (E6.H.on (u3.tt u1)) E.G λg2 x1 x2 e nx u2=>⟨u2.kp,ah.dH λb6 g4 e6 c6 u4=>⟨u4.kp,IZ g4 b5 b6 _ _ x1 x2 e nx ((u1.tt (u2.tt u4)).get c5 id) c6 (by have:=lt c5;have:=le u1;have:=le u2;omega) (by omega) (by have:=le u1;have:=le u2;have:=le u3;omega) (u3.tt (u1.tt (u2.tt u4)))⟩⟩
    ·exact ah.dH λb6 g4 e6 c6 u4=>⟨u4.kp,Df (E6.H.on (u3.tt (u1.tt u4))) E.G λg2 x1 x2 e nx u2=>⟨u2.kp,IZ g2 b5 b6 _ _ x1 x2 e nx ((u1.tt (u4.tt u2)).get c5 id) (u2.get c6 id) (by have:=lt c5;have:=le u1;omega) (by omega) (by have:=le u1;have:=le u3;omega) (u3.tt (u1.tt (u4.tt u2)))⟩⟩
   ·exact ah.dH λb6 g4 e6 c6 u4=>⟨u4.kp,Tv (E6.H.on (u3.tt u4)) λg1 u1=>⟨u1.kp,Df (E6.H.on (u3.tt (u4.tt u1))) E.G λg2 x1 x2 e nx u2=>⟨u2.kp,IZ g2 b5 b6 _ _ x1 x2 e nx ((u4.tt (u1.tt u2)).get c5 id) ((u1.tt u2).get c6 id) (by have:=lt c5;omega) (by omega) (by have:=le u3;omega) (u3.tt (u4.tt (u1.tt u2)))⟩⟩⟩
  ·refine ah.dH λb5 g3 e5 c5 u3=>⟨u3.kp,?_,?_,trivial⟩
   ·refine Tv (E6.H.on u3) λg1 u1=>⟨u1.kp,?_,?_,trivial⟩
    ·exact Df (E6.H.on (u3.tt u1)) E.G λg2 x1 x2 e nx u2=>⟨u2.kp,ah.dH λb6 g4 e6 c6 u4=>⟨u4.kp,IZ g4 b6 b5 _ _ x1 x2 e nx c6 ((u1.tt (u2.tt u4)).get c5 id) (by have:=lt c5;have:=le u1;have:=le u2;omega) (by have:=le u1;have:=le u2;have:=le u3;omega) (by omega) (u3.tt (u1.tt (u2.tt u4)))⟩⟩
    ·exact ah.dH λb6 g4 e6 c6 u4=>⟨u4.kp,Df (E6.H.on (u3.tt (u1.tt u4))) E.G λg2 x1 x2 e nx u2=>⟨u2.kp,IZ g2 b6 b5 _ _ x1 x2 e nx (u2.get c6 id) ((u1.tt (u4.tt u2)).get c5 id) (by have:=lt c5;have:=le u1;omega) (by have:=le u1;have:=le u3;omega) (by omega) (u3.tt (u1.tt (u4.tt u2)))⟩⟩
   ·exact ah.dH λb6 g4 e6 c6 u4=>⟨u4.kp,Tv (E6.H.on (u3.tt u4)) λg1 u1=>⟨u1.kp,Df (E6.H.on (u3.tt (u4.tt u1))) E.G λg2 x1 x2 e nx u2=>⟨u2.kp,IZ g2 b6 b5 _ _ x1 x2 e nx ((u1.tt u2).get c6 id) ((u4.tt (u1.tt u2)).get c5 id) (by have:=lt c5;omega) (by have:=le u3;omega) (by omega) (u3.tt (u4.tt (u1.tt u2)))⟩⟩⟩
 refine⟨_,af ma rfl,?_⟩;split
 ·rename_i c0;exact key true (by have:adE (b'.p.fl:Int) 131072=true:=c0;unfold Ik;rw[this];rfl)
 ·rename_i c0;refine⟨_,af ma rfl,key _ ?_⟩;have:adE (b'.p.fl:Int) 131072=false:=by
   cases hh:adE (b'.p.fl:Int) 131072 with
   |true=>exact absurd hh c0
   |false=>rfl
  unfold Ik;rw[this];rfl
end Ask
end
section
namespace Ask
open qI (Ev dj)
open gJ (SS Good Pt GW Mk)
open hU (CV PK lh)
variable {V:List UInt8→Bool} {h h' h0 g:aj} {R:iI} {s k bo ri c:Nat} {X X':Ft} {I:GW} {σ:SS} {p:bU} {ses:Int} {x:Rq} {D:Nat→Prop} {o:Ot}
theorem CM {ys:List CV} {b n m:Nat} {q:bU} (o:iR h q ys.length m 10 (ys.flatMap PK)) (hn:n=ys.length) (hl:ys.length<=1000000) (hb:bN.jx h b (x.as p c s ses)) (hk: ∀h',Fr No h h'->R (.I (idxOf (λy:CV=>decide ((y.num:Int)=x.num)) ys)) h'):
  Cl F.dM #[.slice q n m,.func (.func F.jO) #[] #[.P b 0]] h R:=by
 refine dM.ack.walk (Tn (λy:CV=>decide ((y.num:Int)=x.num)) (λt g K=>((0:Int)<=t/\t<(n:Int))/\aP q λa=>aJ.df g (a.add (Int.toNat t*10)) λt15=>
  Cl F.jO #[t15.agg,.P b 0] g λv g2=> ∃t,v=.bool t/\K t g2) hn (by omega) (λj g0 y K hy f hK=> ?_) hk)
 have lt:=(aG.1 hy).1;have o1:=o.frame f (λ_ _=>id);obtain⟨pb,po,rfl⟩:=o1.addr (by omega);have hh:=o1.lj lh hy;refine⟨⟨by omega,by omega⟩,aB.2 (aJ.yS (x:=⟨(y.num:Int),y.e.vD,y.e.node,y.e.l6,y.e.host,y.e.sM,y.v.p,y.v.b.length,y.v.c,(y.cF:Int),y.ses,(y.dl:Int)⟩) (by rw[aL];exact hh) (jO.walk (aJ.dH λb1 h1 uf dw f1=>⟨_,af dw rfl,_,af ((f.tt f1).get hb id) rfl,_,rfl,?_⟩)))⟩;have e:((y.num:Int)==x.num)=decide ((y.num:Int)=x.num):=by by_cases q:(y.num:Int)=x.num<;>simp[q]
 show K ((y.num:Int)==x.num) h1;rw[e];exact hK h1 (f.tt f1)
theorem aeZ {ys:List CV} {num:Int} {z:hU.Cp} (h:hU.GU (ys.map CV.abs) num=some z): ∃(i:Nat) (y:CV),idxOf (λy:CV=>decide ((y.num:Int)=num)) ys=(i:Int)/\ys[i]? =some y/\y.abs=z:=by
 unfold hU.GU at h;rw[List.find?_map] at h;obtain⟨y,hy,rfl⟩:=Option.map_eq_some_iff.1 h;have hy:ys.find? (λy:CV=>decide ((y.num:Int)=num))=some y:=hy;obtain⟨h1,i,hi,rfl,h3⟩:=List.find?_eq_some_iff_getElem.1 hy;refine⟨i,ys[i],?_,au hi,rfl⟩;have:ys.findIdx? (λy:CV=>decide ((y.num:Int)=num))=some i:=cO.2 ⟨hi,h1,λj hj=>by simpa using h3 j hj⟩;unfold idxOf;rw[this]
theorem U9 (E:En V h0 h s X I σ k) (QK:k+1<=30000) (hb:aq.jx h bo (y0 ri)) (nb: ¬(X.M bo\/X.D bo))
  (hk: ∀h' X',Pt h' s X' I (Mr V σ ses x.num).σ->oT X h bo ri (Mr V σ ses x.num) X' h'->R (.I (Mr V σ ses x.num).e) h'):
  Cl F.rk #[(x.as p c s ses).agg,.P bo 0] h R:=by
 refine rk.walk (bN.dH (x:=x.as p c s ses) λb h1 eb dw f1=> ?_);have E1:=E.on f1;have nM: ¬X.M bo:=λe=>nb (.inl e)
 have zo:=aI hb;have Tu: ¬X.M b:=E.nM (by omega);obtain⟨Z,hz,zm,zd,go⟩:=E1.H.use 2;have sm:=E.G.small E.H.ord (by have:=E.hk;omega);have z1:=f1.1;refine⟨_,af dw rfl,aB.2 ⟨_,af E1.H.dE rfl,hU.Xu hz sm (λz hz=>(E.G.c.ok.bd z hz).2.2) λh2 q2 c2 ys o2 a2 r2 n2 f2=>⟨_,_,_,rfl,?_⟩⟩⟩;have E2:=E1.on f2;have rR:=f2.get dw id;obtain⟨Z,hz,zm,zd,go⟩:=E2.H.use 2;have hG:=E.G.c;refine⟨_,af rR rfl,aB.2 ⟨_,af E2.H.dE rfl,_,af rR rfl,_,af rR rfl,hU.U9 hz sm (by have:=hG.L;have:=E.hk;omega) x.num ses λh3 Z3 C3 s3=> ?_⟩⟩;obtain⟨X3,H3,Gj,dd3,nn3⟩:=go h3 Z3 { σ with C:=hU.vX σ.C x.num ses } C3 s3 (λi hi=>gJ.GX _ hi);refine⟨_,rfl,kpx Gj.fr Tu (by simp),?_⟩;have new: ∀y,h1.size<=y->¬X.M y:=λy hy=>E.nM (by omega)
 have o3:=o2.frame Gj.fr (λy hy=>new y (n2 y hy));have qu:=Gj.fr.get rR Tu;have F2:=f1.tt f2;have ll:ys.length<=30000:=by
  have e1:=bp List.length a2;rw[aN] at e1;have e2:=hG.L;have e3:=E.hk;omega
 refine CM o3 rfl (by omega) qu λh4 f4=>⟨_,rfl,?_⟩
 have st:=(bM.no F2 Gj).on f4;have H4:=H3.on f4;refine aK.of λJ hJ=> ?_
 unfold Mr at hk;by_cases he:hU.pU σ.C.L x.num ses=0
 case neg=>
  rw[ai he] at hk;rw[ai (by simpa using he)];subst hJ;dsimp only;refine aK.of λJ1 pA=> ?_
  rw[dL];subst pA;have eC:hU.vX σ.C x.num ses=σ.C:=by unfold hU.vX;rw[ai he]
  rw[eC] at H4;exact hk h4 X3 H4 (oT.bad hb nM st)
 rw[ag he] at hk;rw[ag (by rw[he];rfl)];cases hg:hU.GU σ.C.L x.num with
 |none=>unfold hU.pU at he;rw[hg] at he;cases he
 |some z=>
  rw[hg] at hk;dsimp only at hk;rw[<-a2] at hg;obtain⟨i,y,e1,e2,e3⟩:=aeZ hg;rw[e1] at hJ⊢;subst hJ;dsimp only;refine aK.of λJ1 pA=> ?_
  rw[jy];have hi:=(aG.1 e2).1;have o4:=o3.frame f4 (λ_ _=>id);obtain⟨pb,po,rfl⟩:=o4.addr (by omega);have hh:=o4.lj lh e2;have CX:=f4.get qu id;have ry:=((r2 y (bt e2)).frame Gj.fr (λy hy=>new y hy)).frame f4 (λ_ _=>id);have ez:z.d=y.v.b:=by rw[<-e3];rfl
  have G4:gJ.Good { σ with C:=hU.vX σ.C x.num ses } (k+1):=Good.doC E.G E.H.ord E.hk ⟨2,x.num,ses,.zero,none,0, [],0⟩ (ga 0);have c2: ∀g,fE (((AA pb po):Addr).add (i*10)) (PK y) 0 g->ak g ((((AA pb po):Addr).add (Int.toNat (i:Int)*10)).add 6)=some y.v.val:=λg hg=>by
   rw[aL];exact hg.2.2.2.2.2.2.1
  have E4:En V h0 h4 s X3 I { σ with C:=hU.vX σ.C x.num ses } (k+1):=E.step H4 st G4 QK;refine bN.jk (x:=x.as p c s ses) CX ⟨⟨by omega,by omega⟩,aB.2 ⟨_,_,_,c2 _ hh,ahy (ses:=ses) (x:=x) (p:=p) (c:=c) (d:=z.d) E4 (by rw[ez];exact ry.row) (by rw[ez]) (by rw[ez];exact ry.cap) λh5 X5 H5 Wc=>⟨_,rfl,?_⟩⟩⟩;have stt:=st.trans Wc;have hbo:=stt.fr.get hb nM;refine yU (z:=⟨ri,0,0,(qM V { σ with C:=hU.vX σ.C x.num ses } ses z.d).2,0,none,0,0⟩) hbo (by decide) rfl λh6 d6 f6=> ?_
  subst pA;dsimp only;rw[he];have UD: ∀y,X5.M y\/X5.D y->y≠bo:=λy hy e=>by
   rcases hy with a|a
   ·rcases stt.re y a with a|a
    ·exact nM (e▸a)
    ·omega
   ·rcases stt.wK y a with a|a
    ·exact nb (.inr (e▸a))
    ·omega
  exact hk h6 X5 (H5.frame f6 (λy hy e=>UD y hy e)) (oT.of stt f6 ⟨_,d6,λ_=>⟨none,0,rfl,Row.nil,λe=>absurd rfl e⟩⟩)
end Ask
end
section
variable {h:aj} {R:iI}
theorem wP.walk {a_0:Int} {ku:Int} {pE:Int} {rY:Int} {vS:Int} {ai8:bU} {ai9 aja:Nat} {b_0:Int} {cD:Int} {eY:Int} {jQ:Int} {pH:Int} {ajb:bU} {ajc ajd:Nat} (hv:aV h (.cells #[.U a_0,.I ku,.I pE,.I rY,.U vS,.slice ai8 ai9 aja] T.aq) λb aR=>aV aR (.cells #[.U b_0,.I cD,.I eY,.I jQ,.U pH,.slice ajb ajc ajd] T.aq) λcD aZ=>Hu aZ b 0 λt6=> ∃t8,ak aZ (AA cD 0)=some (.U t8)/\if(t6==t8) then Hi aZ b 1 λt12=> ∃t14,ak aZ (AA cD 1)=some (.I t14)/\if(t12==t14) then Hi aZ b 2 λt19=> ∃t21,ak aZ (AA cD 2)=some (.I t21)/\if(t19==t21) then Hi aZ b 3 λt26=> ∃t28,ak aZ (AA cD 3)=some (.I t28)/\if(t26==t28) then Hu aZ b 4 λt33=> ∃t35,ak aZ (AA cD 4)=some (.U t35)/\if(t33==t35) then Hl aZ b 5 λKt MY Fv=>Hl aZ cD 5 λKK Ia Nn=>Cl F.ke #[.slice Kt MY Fv,.slice KK Ia Nn] aZ λv bJ=> ∃t43,v=.bool t43/\R (.bool t43) bJ else R (.bool false) aZ else R (.bool false) aZ else R (.bool false) aZ else R (.bool false) aZ else R (.bool false) aZ):Cl F.wP #[.agg #[.U a_0,.I ku,.I pE,.I rY,.U vS,.slice ai8 ai9 aja],.agg #[.U b_0,.I cD,.I eY,.I jQ,.U pH,.slice ajb ajc ajd]] h R:=aS (lq ll) Tryz.func30 hv
theorem kN.walk {id:Int} {e:Int} (hv:aV h (.cells #[.U 0,.I 0,.I 0,.I 0,.U 0,.Z] T.aq) λb aR=>aq.ST aR (AA b 0) id e 0 0 0 none 0 0 λaZ=>aq.LD aZ (AA b 0) λoP ia oS pG yQ VQ VR VS=>R (.agg #[.U oP,.I ia,.I oS,.I pG,.U yQ,.slice VQ VR VS]) aZ):Cl F.kN #[.U id,.I e] h R:=aS (lq ll) Tryz.func41 hv
theorem sZ.walk {Db : Option Addr} {xQ Im : Nat} (hv :
 Cl F.iZ #[.slice Db xQ Im, .func (.func F.jE) #[] #[]] h λv aR =>
 ∃ t4, v = .bool t4 ∧
 R (.bool (!t4)) aR) : Cl F.sZ #[.slice Db xQ Im] h R :=
 aS (.seq .leaf (.seq .leaf .leaf)) Tryz.func146 hv
theorem jE.walk {n:Int} (hv:if(decide (n<0)) then R (.bool true) h else R (.bool (decide (n>1099511627776))) h):Cl F.jE #[.I n] h R:=aS (lq ll) Tryz.func188 hv
theorem sC.walk {w9:Int} {xa:Int} {x_2:Int} {Ka:Int} {x_4:Int} {Tw:bU} {Tx Ty:Nat} (hv:aV h (.cells #[.U w9,.I xa,.I x_2,.I Ka,.U x_4,.slice Tw Tx Ty] T.aq) λb aR=>aK (λ(t3:Bool) (aZ:aj)=>if t3 then R (.bool false) aZ else∃t39,ak aZ (AA b 1)=some (.I t39)/\if(t39 !=0) then aq.LD aZ (AA b 0) λxg xh aje Xx ajf ZI ZJ ZK=>Hu aZ b 0 λt43=>Hi aZ b 1 λt45=>Cl F.kN #[.U t43,.I t45] aZ λv bJ=> ∃ajg ajh aji ajj ajk ZL ZM ZN,v=.agg #[.U ajg,.I ajh,.I aji,.I ajj,.U ajk,.slice ZL ZM ZN]/\fE (AA b 0) [.U xg,.I xh,.I aje,.I Xx,.U ajf,.slice ZI ZJ ZK] 0 bJ/\Cl F.wP #[.agg #[.U xg,.I xh,.I aje,.I Xx,.U ajf,.slice ZI ZJ ZK],.agg #[.U ajg,.I ajh,.I aji,.I ajj,.U ajk,.slice ZL ZM ZN]] bJ λeJ cB=> ∃t47,eJ=.bool t47/\R (.bool t47) cB else R (.bool true) aZ) (λJ=> ∃t5,ak aR (AA b 0)=some (.U t5)/\if(decide (t5>1099511627776)) then J true aR else∃t9,ak aR (AA b 1)=some (.I t9)/\if(decide (t9<0)) then J true aR else∃t14,ak aR (AA b 1)=some (.I t14)/\if(decide (t14>99)) then J true aR else Hi aR b 2 λt19=>Hi aR b 3 λt21=>aV aR (.cells #[.I t19,.I t21] T.int) λcD cJ=>Cl F.sZ #[.slice (some (AA cD 0)) 2 2] cJ λgR cQ=> ∃t23,gR=.bool t23/\if(!t23) then J true cQ else∃t28,ak cQ (AA b 4)=some (.U t28)/\if(decide (t28>2147483648)) then J true cQ else∃rF pO rG,ak cQ (AA b 5)=some (.slice rF pO rG)/\J (decide ((pO:Int)>600)) cQ)):Cl F.sC #[.agg #[.U w9,.I xa,.I x_2,.I Ka,.U x_4,.slice Tw Tx Ty]] h R:=aS (lq (sq (bq (sq (.join [(3,.one (.bool))] lf) (cq ll (lq (cq (sq (pN 8) lf) lf))))) ll)) Tryz.func96 hv
theorem uT.walk {w9:Int} {xa:Int} {x_2:Int} {Ka:Int} {x_4:Int} {Tw:bU} {Tx Ty:Nat} (hv:aV h (.cells #[.U w9,.I xa,.I x_2,.I Ka,.U x_4,.slice Tw Tx Ty] T.aq) λb aR=>aq.LD aR (AA b 0) λO4 O5 Un Uo Uq alK alL alM=>Cl F.sC #[.agg #[.U O4,.I O5,.I Un,.I Uo,.U Uq,.slice alK alL alM]] aR λv aZ=> ∃t5,v=.bool t5/\if(!t5) then R (.tuple #[.Z,.I 3]) aZ else Hu aZ b 0 λt9=>Hi aZ b 1 λt12=>Hi aZ b 2 λt15=>Hi aZ b 3 λt18=>Hu aZ b 4 λt21=>Hl aZ b 5 λiP iy iz=>Cl F.wT #[] aZ λeJ bJ=>Vp eJ λt7=>ak bJ (AA b 5)=some (.slice iP iy iz)/\ak bJ (AA b 4)=some (.U t21)/\ak bJ (AA b 3)=some (.I t18)/\ak bJ (AA b 2)=some (.I t15)/\ak bJ (AA b 1)=some (.I t12)/\ak bJ (AA b 0)=some (.U t9)/\Cl F.iV #[.pointer t7,.U t9] bJ λgR cB=>Vp gR λt10=>ak cB (AA b 5)=some (.slice iP iy iz)/\ak cB (AA b 4)=some (.U t21)/\ak cB (AA b 3)=some (.I t18)/\ak cB (AA b 2)=some (.I t15)/\ak cB (AA b 1)=some (.I t12)/\Cl F.jB #[.pointer t10,.I t12] cB λkU cJ=>Vp kU λt13=>ak cJ (AA b 5)=some (.slice iP iy iz)/\ak cJ (AA b 4)=some (.U t21)/\ak cJ (AA b 3)=some (.I t18)/\ak cJ (AA b 2)=some (.I t15)/\Cl F.jB #[.pointer t13,.I t15] cJ λot cQ=>Vp ot λt16=>ak cQ (AA b 5)=some (.slice iP iy iz)/\ak cQ (AA b 4)=some (.U t21)/\ak cQ (AA b 3)=some (.I t18)/\Cl F.jB #[.pointer t16,.I t18] cQ λxu cW=>Vp xu λt19=>ak cW (AA b 5)=some (.slice iP iy iz)/\ak cW (AA b 4)=some (.U t21)/\Cl F.iV #[.pointer t19,.U t21] cW λAT dA=>Vp AT λt22=>ak dA (AA b 5)=some (.slice iP iy iz)/\Cl F.mg #[.pointer t22,.slice iP iy iz] dA λDM fc=>Vp DM λt25=>Cl F.kZ #[.pointer t25] fc λEJ cP=> ∃x9 rE ya,EJ=.slice x9 rE ya/\R (.tuple #[.slice x9 rE ya,.I 0]) cP):Cl F.uT #[.agg #[.U w9,.I xa,.I x_2,.I Ka,.U x_4,.slice Tw Tx Ty]] h R:=aS (lq (sq (lq (cq ll lf)) (sq (.mB (.op 1 (.op 2 (.op 4 (.op 5 (.op 7 (.op 8 (.op 10 (.op 11 (.op 13 (.op 14 (.op 16 (.op 17 (.op 0 (.op 3 (.op 6 (.op 9 (.op 12 (.op 15 (.op 18 (.op 19 (.op 20 (.op 21 .done))))))))))))))))))))))) lf))) Tryz.func45 hv
theorem wS.walk {Bf:bU} {xd Dq:Nat} (hv:aV h (.cells #[.U 0,.I 0,.I 0,.I 0,.U 0,.Z] T.aq) λb aR=>Cl F.uW #[.slice Bf xd Dq] aR λv aZ=>Vp v λt7=>Cl F.iW #[.pointer t7] aZ λeJ bJ=>Vu eJ λt9=>Cl F.jC #[.pointer t7] bJ λgR cB=>Vi gR λt11=>Cl F.jC #[.pointer t7] cB λkU cJ=>Vi kU λt13=>Cl F.jC #[.pointer t7] cJ λot cQ=>Vi ot λt15=>Cl F.iW #[.pointer t7] cQ λxu cW=>Vu xu λt17=>Cl F.mh #[.pointer t7] cW λAT dA=>Vl AT λCH zK CI=>aV dA (.cells #[.U 0,.I 0,.I 0,.I 0,.U 0,.Z] T.aq) λcD fc=>aq.ST fc (AA cD 0) t9 t11 t13 t15 t17 CH zK CI λcP=>aK (λ(t28:Bool) (cV:aj)=>if t28 then aq.ST cV (AA b 0) 0 0 0 0 0 none 0 0 λdD=>aq.LD dD (AA b 0) λoP ia oS pG yQ VQ VR VS=>R (.tuple #[.agg #[.U oP,.I ia,.I oS,.I pG,.U yQ,.slice VQ VR VS],.I 3]) dD else aq.LD cV (AA cD 0) λNh HY apd acB ape ahz ahA ahB=>aq.ST cV (AA b 0) Nh HY apd acB ape ahz ahA ahB λdF=>aq.LD dF (AA b 0) λnF nG uB xr xt ae0 ae1 ae2=>R (.tuple #[.agg #[.U nF,.I nG,.I uB,.I xr,.U xt,.slice ae0 ae1 ae2],.I 0]) dF) (λJ=>Cl F.mT #[.pointer t7] cP λDM fC=> ∃t22,DM=.I t22/\if(t22 !=0) then J true fC else aq.LD fC (AA cD 0) λKN Ln Om apf apg ahC ahD ahE=>Cl F.sC #[.agg #[.U KN,.I Ln,.I Om,.I apf,.U apg,.slice ahC ahD ahE]] fC λEJ gD=> ∃t26,EJ=.bool t26/\J (!t26) gD)):Cl F.wS #[.slice Bf xd Dq] h R:=aS (lq (lq (lq (sq (sq (.join [(28,.one (.bool))] lf) (cq ll lf)) ll)))) Tryz.func43 hv
theorem iZ.within.walk {oB : Option Addr} {mF qJ : Nat} (hv :
 Cl F.dN #[.slice oB mF qJ, .func (.func F.jE) #[] #[]] h λv aR =>
 ∃ t7, v = .int .i64 t7 ∧
 R (.bool (decide (t7 ≥ 0))) aR) : Cl F.iZ #[.slice oB mF qJ, .func (.func F.jE) #[] #[]] h R :=
 aS (.seq .leaf (.seq .leaf .leaf)) Tryz.func187 hv
theorem dN.within.walk {oB : Option Addr} {mF qJ : Nat} (hv :
 ∃ (I : Int → aj → Prop) (mu : Int → aj → Nat), I 0 h ∧ ∀ (t8 : Int) (aR : aj), I t8 aR →
 if (decide (t8 < ((mF : Nat) : Int))) = true then
 ((0 : Int) ≤ t8 ∧ t8 < ((mF : Nat) : Int)) ∧
 aP oB λa =>
 ∃ t15, ak aR (a.add (Int.toNat t8 * 1)) = some (.int .i64 t15) ∧
 Cl F.jE #[.int .i64 t15] aR λv aZ =>
 ∃ t16, v = .bool t16 ∧
 if t16 = true then
 R (.int .i64 t8) aZ
 else
 (I (IntKind.wrap .i64 (t8 + 1)) aZ ∧ mu (IntKind.wrap .i64 (t8 + 1)) aZ < mu t8 aR)
 else
 R (.int .i64 (-1)) aR) : Cl F.dN #[.slice oB mF qJ, .func (.func F.jE) #[] #[]] h R :=
 aS (.seq .leaf (.seq (.seq .leaf (.block (.loop [(8, .one (.int .i64))] (.seq .leaf (.seq (.cond .leaf .leaf) (.seq (.block (.seq .leaf (.seq .leaf (.cond (.seq .leaf .leaf) .leaf)))) .leaf)))))) (.seq .leaf .leaf))) Tryz.func168 hv
end
section
open Go.jH
namespace LO
open vf
variable {h h0:aj} {R:iI} {p q:bU} {c d:Nat}
abbrev val (x:RD) (p:bU) (c:Nat):Value:=.agg #[.int .u64 (x.id:Int),.int .i64 x.err,.int .i64 x.num,.int .i64 x.count,.int .u64 (x.token:Int),.slice p x.b.length c]
abbrev At (h:aj) (b:Nat) (x:RD) (p:bU) (c:Nat):Prop:=aq.at h b (x.id:Int) x.err x.num x.count (x.token:Int) p x.b.length c
theorem My {a b:List UInt8} {n m:Nat} (ra:Row h p (bc a)) (rb:Row h q (bc b)) (hn:n=a.length) (hm:m=b.length) (hk:R (.bool (decide (a=b))) h):Cl F.ke #[.slice p n c,.slice q m d] h R:=by
 refine ke.walk ⟨_,conv ra hn,_,conv rb hm,?_⟩;rw[EZ,EZ];have:(a==b)=decide (a=b):=by
  by_cases e:a=b<;>simp[e]
 rw[this];exact hk
theorem pV (x y:RD) (rx:Row h p (bc x.b)) (ry:Row h q (bc y.b)) (hk: ∀h',Fr No h h'->R (.bool (decide (x.same y))) h'):Cl F.wP #[val x p c,val y q d] h R:=by
 refine wP.walk (aq.box λb h1 _ hb f1=>aq.box λb' h2 _ wF f2=> ?_);have fI:=f2.get hb id;have f12:=f1.tt f2;have hk:=hk h2 f12;unfold RD.same at hk;refine⟨_,af fI rfl,_,af wF rfl,?_⟩;by_cases e0:x.id=y.id
 ·rw[ag (by rw[e0];simp)];refine⟨_,af fI rfl,_,af wF rfl,?_⟩;by_cases e1:x.err=y.err
  ·rw[ag (by rw[e1];simp)];refine⟨_,af fI rfl,_,af wF rfl,?_⟩;by_cases e2:x.num=y.num
   ·rw[ag (by rw[e2];simp)];refine⟨_,af fI rfl,_,af wF rfl,?_⟩;by_cases e3:x.count=y.count
    ·rw[ag (by rw[e3];simp)];refine⟨_,af fI rfl,_,af wF rfl,?_⟩;by_cases e4:x.token=y.token
     ·rw[ag (by rw[e4];simp)];refine⟨_,_,_,af fI rfl,_,_,_,af wF rfl,My (rx.frame f12 (λ_ _=>id)) (ry.frame f12 (λ_ _=>id)) rfl rfl ⟨_,rfl,?_⟩⟩;simpa[e0,e1,e2,e3,e4] using hk
     ·rw[ai (by simp;omega)];simpa[e4] using hk
    ·rw[ai (by simpa using e3)];simpa[e3] using hk
   ·rw[ai (by simpa using e2)];simpa[e2] using hk
  ·rw[ai (by simpa using e1)];simpa[e1] using hk
 ·rw[ai (by simp;omega)];simpa[e0] using hk
def ZO (id:Nat) (e:Int):RD:=⟨id,e,0,0,0, []⟩
theorem vR {i:Int} (id:Nat) (hi:i=(id:Int)) (e:Int) (hk: ∀h',Fr No h h'->R (val (ZO id e) none 0) h'):Cl F.kN #[.U i,.I e] h R:=by
 subst hi;refine kN.walk (aq.new λb h1 _ hb f1=>aq.ld hb ?_);exact hk h1 f1
def inB (n:Int):Bool:=decide (0<=n/\n<=1099511627776)
theorem alN (n:Int) (hk:R (.bool (!inB n)) h):Cl F.jE #[.I n] h R:=by
 refine jE.walk ?_;unfold inB at hk;by_cases h1:n<0
 ·simpa[h1,show¬0<=n by omega] using hk
 ·by_cases h2:n>1099511627776
  ·simpa[h1,h2,show¬n<=1099511627776 by omega] using hk
  ·simpa[h1,h2,show 0<=n by omega,show n<=1099511627776 by omega] using hk
theorem Hh {ns : List Int} {n m : Nat} (hr : Row h p (ns.map (.int .i64 ·))) (hn : n = ns.length) (hl : ns.length ≤ 1000000) (hk : R (.bool (ns.all inB)) h) : Cl F.sZ #[.slice p n m] h R := by
  subst hn
  refine sZ.walk (iZ.within.walk (dN.within.walk ?_))
  refine ⟨λi h' => h' = h ∧ ∃ k : Nat, i = (k : Int) ∧ k ≤ ns.length ∧ ∀ j, j < k → inB (ns.getD j 0) = true, λi _ => ns.length - i.toNat, ⟨rfl, 0, rfl, by omega, λj hj => by omega⟩, ?_⟩
  rintro _ h1 ⟨rfl, k, rfl, hkn, kz⟩
  by_cases jc : k < ns.length
  · have : (k : Int) < (ns.length : Int) := by omega
    simp only [this, decide_true, if_true, Int.toNat_natCast]
    obtain ⟨a, rfl, ck⟩ := Ud hr jc
    refine ⟨⟨by omega, trivial⟩, aB.2 ⟨_, ck, alN _ ⟨_, rfl, ?_⟩⟩⟩
    cases hb : inB (ns.getD k 0) with
    | false =>
      simp only [Bool.not_false, if_true]
      refine ⟨_, rfl, ⟨_, rfl, ?_⟩⟩
      have : ns.all inB = false := by
        rw [List.all_eq_false]
        exact ⟨_, abN jc, by rw [hb]; simp⟩
      rw [this] at hk
      have h0 : (k : Int) ≥ 0 := by omega
      simpa [h0] using hk
    | true =>
      simp only [Bool.not_true, Bool.false_eq_true, if_false]
      rw [bK (by omega) (by omega)]
      refine ⟨⟨trivial, k + 1, by omega, by omega, λj hj => ?_⟩, ?_⟩
      · by_cases q : j = k
        · subst q; exact hb
        · exact kz j (by omega)
      · show ns.length - Int.toNat ((k : Int) + 1) < ns.length - Int.toNat (k : Int); omega
  · have : ¬ (k : Int) < (ns.length : Int) := by omega
    simp only [this, decide_false, Bool.false_eq_true, if_false]
    refine ⟨_, rfl, ⟨_, rfl, ?_⟩⟩
    have : ns.all inB = true := by
      rw [List.all_eq_true]
      intro n hn
      obtain ⟨j, hj⟩ := List.getElem?_of_mem hn
      have Cf := (List.getElem?_eq_some_iff.1 hj).1
      have := kz j (by omega)
      rwa [List.getD_eq_getElem?_getD, hj] at this
    rw [this] at hk
    simpa using hk
theorem ic (x:RD) (rx:Row h p (bc x.b)) (hk: ∀h',Fr No h h'->R (.bool (decide x.xC)) h'):Cl F.sC #[val x p c] h R:=by
 refine sC.walk (aq.box λb h1 _ hb f1=>aK.of λJ hJ=> ?_);have jt: ∀h2,Fr No h h2->¬x.xC->J true h2:=by
  intro h2 f2 hn;subst hJ;simp only[bA];have:=hk h2 f2;rwa[decide_eq_false hn] at this
 have jf: ∀h2,At h2 b x p c->Fr No h h2->x.id<=1099511627776->(0<=x.err/\x.err<=99)->(0<=x.num/\x.num<=1099511627776)->(0<=x.count/\x.count<=1099511627776)->x.token<=2147483648->x.b.length<=600->J false h2:=by
  intro h2 fI f2 q1 q2 q3 q4 q5 q6;subst hJ;simp only[aA,aU];refine⟨_,af fI rfl,?_⟩;by_cases he:x.err=0
  ·rw[ai (by simp[he])];have:=hk h2 f2;rwa[ay (show x.xC from⟨q1,q2,q3,q4,q5,q6,λh=>absurd he h⟩)] at this
  ·rw[ag (by simpa using he)];refine aq.ld fI ⟨_,af fI rfl,_,af fI rfl,vR x.id rfl x.err λh3 f3=>⟨_,_,_,_,_,_,_,_,rfl,(aq.held (f3.get fI id)),?_⟩⟩;have f23:=f2.tt f3;refine pV x (ZO x.id x.err) (rx.frame f23 (λ_ _=>id)) (.inl rfl) λh4 f4=>⟨_,rfl,?_⟩
   have e:decide (x.same (ZO x.id x.err))=decide x.xC:=by
    unfold RD.same RD.xC ZO;simp[q1,q2,q3,q4,q5,q6,he]
   rw[e];exact hk h4 (f23.tt f4)
 clear hJ;refine⟨_,af hb rfl,?_⟩;by_cases q1:x.id<=1099511627776
 ·rw[ai (by simp;omega)];refine⟨_,af hb rfl,?_⟩;by_cases q2:0<=x.err
  ·rw[ai (by simp;omega)];refine⟨_,af hb rfl,?_⟩;by_cases q3:x.err<=99
   ·rw[ai (by simp;omega)];refine⟨_,af hb rfl,_,af hb rfl,cX ?_⟩;refine Hh (ns:= [x.num,x.count]) rV rfl (by simp) ⟨_,rfl,?_⟩;have f5:=f1.tt (Fr.push h1 (.cells #[.I x.num,.I x.count] T.int));have DJ:At _ b x p c:=(Fr.push (S:=λ_=>False) h1 (.cells #[.I x.num,.I x.count] T.int)).get hb id;generalize h1.push (.cells #[.I x.num,.I x.count] T.int)=h5 at*;cases nQ: [x.num,x.count].all inB with
    |false=>
     simp only[gL,bA];refine jt _ f5 λhr=> ?_
     obtain⟨_,_,r3,r4,_⟩:=hr;simp[inB,r3,r4] at nQ
    |true=>
     simp only[dW,aA,aU];simp[inB] at nQ;refine⟨_,af DJ rfl,?_⟩;by_cases q5:x.token<=2147483648
     ·rw[ai (by simp;omega)];refine⟨_,_,_,af DJ rfl,?_⟩;by_cases q6:x.b.length<=600
      ·have:decide ((x.b.length:Int)>600)=false:=by simp;omega
       rw[this];exact jf _ DJ f5 q1 ⟨q2,q3⟩ nQ.1 nQ.2 q5 q6
      ·have:decide ((x.b.length:Int)>600)=true:=by simp;omega
       rw[this];exact jt _ f5 λhr=>q6 hr.2.2.2.2.2.1
     ·rw[ag (by simp;omega)];exact jt _ f5 λhr=>q5 hr.2.2.2.2.1
   ·rw[ag (by simp;omega)];exact jt _ f1 λhr=>q3 hr.2.1.2
  ·rw[ag (by simp;omega)];exact jt _ f1 λhr=>q2 hr.2.1.1
 ·rw[ag (by simp;omega)];exact jt _ f1 λhr=>q1 hr.1
theorem ae3 (x:RD) (rx:Row h p (bc x.b)) (k1:x.xC->∀h' q d,iR h' q x.enc.length d 1 (bc x.enc)->Fr No h h'->(∀y,aQ q y->h.size<=y)->R (.tuple #[.slice q x.enc.length d,.I 0]) h')
  (k2: ¬x.xC->∀h',Fr No h h'->R (.tuple #[.Z,.I 3]) h'):Cl F.uT #[val x p c] h R:=by
 refine uT.walk (aq.box λb h1 eb hb f1=>aq.ld hb ?_);refine ic x (rx.frame f1 (λ_ _=>id)) λh2 f2=>⟨_,rfl,?_⟩
 by_cases hr:x.xC
 ·rw[ay hr];simp only[dW,aA,aU];obtain⟨q1,⟨q2,q2'⟩,⟨q3,q3'⟩,⟨q4,q4'⟩,q5,q6,_⟩:=id hr;have fI:=f2.get hb id;have f02:=f1.tt f2;refine⟨_,af fI rfl,_,af fI rfl,_,af fI rfl,_,af fI rfl,_,af fI rfl,_,_,_,af fI rfl,?_⟩;refine pD λh3 w S3 H3 f3 g3=>⟨_,rfl,?_⟩
  have b3:=f3.get fI id;have u3:Up h2 S3 h3:=⟨f3,g3⟩;have nb: ∀ {S:Nat->Prop} {h':aj},Up h2 S h'->¬S b:=λu hx=>by have:=u.ge b hx;have:=aI fI;omega
  refine⟨af b3 rfl,af b3 rfl,af b3 rfl,af b3 rfl,af b3 rfl,af b3 rfl,?_⟩;refine jw x.id H3 (by simp) rfl (by omega) λh4 S4 H4 s4=>⟨_,rfl,?_⟩
  have b4:=s4.fr.get b3 (nb u3);have u4:=u3.step s4;have l1:=(j0 x.id).2;refine⟨af b4 rfl,af b4 rfl,af b4 rfl,af b4 rfl,af b4 rfl,?_⟩;refine Uw H4 (by simp only[fk];omega) (by omega) λh5 S5 H5 s5=>⟨_,rfl,?_⟩
  have b5:=s5.fr.get b4 (nb u4);have u5:=u4.step s5;have l2:=(j0 (pP x.err)).2;refine⟨af b5 rfl,af b5 rfl,af b5 rfl,af b5 rfl,?_⟩;refine Uw H5 (by simp only[fk,aF];omega) (by omega) λh6 S6 H6 s6=>⟨_,rfl,?_⟩
  have b6:=s6.fr.get b5 (nb u5);have u6:=u5.step s6;have l3:=(j0 (pP x.num)).2;refine⟨af b6 rfl,af b6 rfl,af b6 rfl,?_⟩;refine Uw H6 (by simp only[fk,aF];omega) (by omega) λh7 S7 H7 s7=>⟨_,rfl,?_⟩
  have b7:=s7.fr.get b6 (nb u6);have u7:=u6.step s7;have l4:=(j0 (pP x.count)).2;refine⟨af b7 rfl,af b7 rfl,?_⟩;refine jw x.token H7 (by simp only[fk,aF];omega) rfl (by omega) λh8 S8 H8 s8=>⟨_,rfl,?_⟩
  have b8:=s8.fr.get b7 (nb u7);have u8:=u7.step s8;have l5:=(j0 x.token).2;have f08:=f02.tt u8.fr;refine⟨af b8 rfl,?_⟩;refine aci H8 (by simp only[fk,aF];omega) (rx.frame f08 (λ_ _=>id)) rfl (by omega) (λy hy kA hS=> ?_) λh9 S9 H9 s9=>⟨_,rfl,?_⟩
  ·have:=qN rx (λe=>kA (List.map_eq_nil_iff.1 e)) hy;have:=u8.ge y hS;have:=f02.1;omega
  have u9:=u8.step s9;have he: []++lD x.id++lD (pP x.err)++lD (pP x.num)++lD (pP x.count)++lD x.token++AB x.b=x.enc:=rfl;rw[he] at H9;refine zD H9 (by have:=rW q6;omega) λq d vj WH f10 g10=>⟨_,_,_,rfl,?_⟩
  exact k1 hr vj q d WH (f02.tt (u9.fr.tt f10)) (λy hy=>by have:=g10 y hy;have:=(f02.tt u9.fr).1;omega)
 ·rw[decide_eq_false hr];simp only[gL,bA];exact k2 hr h2 (f1.tt f2)
theorem Fm {bs:List UInt8} {n:Nat} (rb:Row h p (bc bs)) (hn:n=bs.length) (hl:bs.length<=70368744177664)
  (k1: ∀x,PN bs=some x->∀h' q d,iR h' q x.b.length d 1 (bc x.b)->Fr No h h'->(∀y,aQ q y->h.size<=y)->R (.tuple #[val x q d,.I 0]) h')
  (k2:PN bs=none->∀h',Fr No h h'->R (.tuple #[val RD.zero none 0,.I 3]) h'):Cl F.wS #[.slice p n c] h R:=by
 refine wS.walk (aq.box (f5l:=0) λb h1 eb hb f1=> ?_);refine vf.Fm (rb.frame f1 (λ_ _=>id)) hn hl λh2 r T D2 f2 g2=>⟨_,rfl,?_⟩
 have u2:Up h1 T h2:=⟨f2,g2⟩;refine I9 D2 λh3 D3 f3=>⟨_,rfl,?_⟩
 have u3:=u2.MI f3 (λy e=>e▸D2.self);have la:=CB 0 bs;generalize hA:gz 0 bs=A at D3 la⊢;obtain⟨a,ae,ar⟩:=A;dsimp only at D3 la⊢;refine Pf D3 λh4 D4 f4=>⟨_,rfl,?_⟩
 have u4:=u3.MI f4 (λy e=>e▸D2.self);have lb:(uH ae ar).2.2.length<=ar.length:=AE _ ae ar;generalize hB:uH ae ar=B at D4 lb⊢;obtain⟨b',be,br⟩:=B;dsimp only at D4 lb⊢;refine Pf D4 λh5 D5 f5=>⟨_,rfl,?_⟩
 have u5:=u4.MI f5 (λy e=>e▸D2.self);have lc:(uH be br).2.2.length<=br.length:=AE _ be br;generalize hC:uH be br=C at D5 lc⊢;obtain⟨c',ce,cr⟩:=C;dsimp only at D5 lc⊢;refine Pf D5 λh6 D6 f6=>⟨_,rfl,?_⟩
 have u6:=u5.MI f6 (λy e=>e▸D2.self);have ld:(uH ce cr).2.2.length<=cr.length:=AE _ ce cr;generalize hD:uH ce cr=D at D6 ld⊢;obtain⟨d',de,dr⟩:=D;dsimp only at D6 ld⊢;refine I9 D6 λh7 D7 f7=>⟨_,rfl,?_⟩
 have u7:=u6.MI f7 (λy e=>e▸D2.self);have lf:=CB de dr;generalize hF:gz de dr=F at D7 lf⊢;obtain⟨f',fe,fr⟩:=F;dsimp only at D7 lf⊢;refine acj D7 (by omega) λh8 q d D8 o8 g8 f8=>⟨_,_,_,rfl,?_⟩
 have u8:=u7.MI f8 (λy e=>e▸D2.self);generalize hG:rH fe fr=G at D8 o8⊢;obtain⟨g',ge,gr⟩:=G;dsimp only at D8 o8⊢;have hX:rdR 1099511627776 mZ bs=⟨⟨a,b',c',d',f',g'⟩,ge,gr⟩:=by
  unfold uH at hB hC hD;unfold rdR;simp only[hA,hB,hC,hD,hF,hG]
 have afh:PN bs=Ij ⟨⟨a,b',c',d',f',g'⟩,ge,gr⟩:=by unfold PN;rw[hX]
 clear hX hA hB hC hD hF hG la lb lc ld lf D3 D4 D5 D6 D7 f3 f4 f5 f6 f7 f8;generalize hx:(⟨a,b',c',d',f',g'⟩:RD)=x at*;have e0:a=x.id:=by rw[<-hx]
 have e1:(b':Int)=x.err:=by rw[<-hx]
 have e2:(c':Int)=x.num:=by rw[<-hx]
 have e3:(d':Int)=x.count:=by rw[<-hx]
 have e4:f'=x.token:=by rw[<-hx]
 have e5:g'=x.b:=by rw[<-hx]
 rw[e0,e1,e2,e3,e4,e5];rw[e5] at o8;clear hx e0 e1 e2 e3 e4 e5;refine aq.new λb1 GY uf dw f15=> ?_
 have FM:At GY b RD.zero none 0:=f15.get (u8.fr.get hb id) id;have F15:Fr No h GY:=f1.tt (u8.fr.tt f15);have Mq:=o8.frame f15 (λ_ _=>id);have gq: ∀y,aQ q y->h1.size<=y:=λy hy=>by have:=g8 y hy;have:=u7.fr.1;omega
 have bne:b≠b1:=λe=>by have:=aI (u8.fr.get hb id);omega
 have hbl:b<h1.size:=aI hb;refine aK.of λJ hJ=> ?_
 have jt:Ij ⟨x,ge,gr⟩=none->∀vY,At vY b RD.zero none 0->Fr No h vY->J true vY:=by
  intro hn vY Qx f16;subst hJ;simp only[bA];refine aq.set Qx λh22 arx s22 o22=>aq.ld arx ?_
  exact k2 (afh.trans hn) h22 (f16.step (Fr.of_eq (S:=λy=>y=b) s22 o22) (λy hy e=>by omega))
 have jf:Ij ⟨x,ge,gr⟩=some x->∀vY,At vY b RD.zero none 0->At vY b1 x q d->iR vY q x.b.length d 1 (bc x.b)->Fr No h vY->J false vY:=by
  intro hs vY Qx aph o16 f16;subst hJ;simp only[aA,aU];refine aq.ld aph (aq.set Qx λh28 ary s28 o28=>aq.ld ary ?_);have f28:Fr (λy=>y=b) vY h28:=Fr.of_eq s28 o28;refine k1 x (afh.trans hs) h28 q d (o16.frame f28 (λy hy e=> ?_)) (f16.step f28 (λy hy e=>by omega)) (λy hy=> ?_)
  ·have:=gq y hy;omega
  ·have:=gq y hy;have:=f1.1;omega
 clear hJ;refine afw (D8.frame f15 (λ_ _=>id)) ⟨_,rfl,?_⟩;by_cases he:Fl ge gr=0
 ·rw[ai (by simpa using he)];refine aq.ld dw (ic x Mq.pZ λh30 f30=>⟨_,rfl,?_⟩);by_cases hr:x.xC
  ·rw[ay hr];exact jf (by unfold Ij;rw[ag ⟨he,hr⟩]) h30 (f30.get FM id) (f30.get dw id) (Mq.frame f30 (λ_ _=>id)) (F15.tt f30)
  ·rw[decide_eq_false hr];exact jt (by unfold Ij;rw[ai (λhh=>hr hh.2)]) h30 (f30.get FM id) (F15.tt f30)
 ·rw[ag (by simpa using he)];exact jt (by unfold Ij;rw[ai (λhh=>he hh.1)]) GY FM F15
end LO
end
section
namespace Ask
open qI (Ev dj)
open gJ (SS Good Pt GW Mk)
open Bn (oz)
variable {V:List UInt8→Bool} {h h' h0 h1 g:aj} {R:iI} {s k bo ri c:Nat} {X X':Ft} {I:GW} {σ:SS} {p:bU} {ses:Int} {x:Rq} {D:Nat→Prop} {o:Ot}
theorem oT.no (f:Fr No h h1) (O:oT X h1 bo ri o X' h'):oT X h bo ri o X' h':=by
 have z:=f.1;refine⟨Fr.no f O.fr,λc hc=>(O.re c hc).imp _root_.id (λa=>by omega),λc hc=>(O.wK c hc).imp _root_.id (λa=>by omega),O.Iw,?_⟩;obtain⟨y,hy,hx⟩:=O.at';refine⟨y,hy,λhe=> ?_⟩;obtain⟨p,c,e,r,n⟩:=hx he;exact⟨p,c,e,r,λhd z hz=>⟨(n hd z hz).1.imp (λa=>by omega) _root_.id,(n hd z hz).2⟩⟩
theorem oT.num {st1:bM X h X' h1} (n c:Int) (f:Fr (λy=>y=bo) h1 h') (hb:aq.jx h' bo ⟨ri,0,n,c,0,none,0,0⟩) {σ:SS} {e:Int} :oT X h bo ri ⟨σ,e,n,c, []⟩ X' h':=
 oT.of st1 f ⟨_,hb,λ_=>⟨none,0,rfl,Row.nil,λe=>absurd rfl e⟩⟩
theorem alO (st:bM X h X' h1) (nb: ¬(X.M bo\/X.D bo)) (zo:bo<h.size): ∀y,X'.M y\/X'.D y->y≠bo:=λy hy e=>by
 subst e;rcases hy with a|a
 ·rcases st.re _ a with a|a
  ·exact nb (.inl a)
  ·omega
 ·rcases st.wK _ a with a|a
  ·exact nb (.inr a)
  ·omega
theorem TA (hr:pC x=true):tB x=true:=by unfold pC at hr;simp only[aW] at hr;exact hr.1.2
theorem api (E:En V h0 h s X I σ k) (QK:k+1<=30000) (hr:pC x=true) (w1:0<=x.ep.l6) (w2:0<=x.dest.l6) (rx:Row h p (bc x.Be)) (cap:x.Be.length<=c) (hb:aq.jx h bo (y0 ri)) (nb: ¬(X.M bo\/X.D bo))
  (hk: ∀h' X',Pt h' s X' I (C6 V σ ses x).σ->oT X h bo ri (C6 V σ ses x) X' h'->R (.I (C6 V σ ses x).e) h'):
  Cl F.sW #[(x.as p c s ses).agg,.P bo 0] h R:=by
 refine sW.walk (bN.dH (x:=x.as p c s ses) λb h1 eb dw f1=>⟨_,af dw rfl,?_⟩);have E1:=E.on f1;have nM: ¬X.M bo:=λe=>nb (.inl e)
 have zo:=aI hb;have z1:=f1.1;have Tu: ¬X.M b:=E.nM (by omega);have wF:=f1.get hb id;have sm:=E.G.small E.H.ord (by have:=E.hk;omega);have cL:=E.G.c.L;have ek:=E.hk;have pr:=TA hr;unfold C6 at hk;unfold tB at pr;by_cases k1:x.kind=1
 ·rw[ag k1] at hk;rw[ag (bq.2 k1)];obtain⟨Z,hz,zm,zd,go⟩:=E1.H.use 1;refine⟨_,af dw rfl,aB.2 ⟨_,af E1.H.dE rfl,oz x.ep dw rfl rfl rfl rfl rfl ⟨_,af dw rfl,_,af dw rfl,j4.KQ hz ⟨x.ep,x.uE,ses⟩ E.G.g.len λh2 T2 s2=> ?_⟩⟩⟩;obtain⟨X2,H2,AF,_,_⟩:=go h2 Z { σ with G:=j4.IM σ.G ⟨x.ep,x.uE,ses⟩ } T2 s2 (λi hi=>gJ.Vc _ hi);exact⟨_,rfl,kpx AF.fr Tu (by simp),hk h2 X2 H2 (oT.bad hb nM (bM.no f1 AF))⟩
 rw[ai k1] at hk;rw[ai (λe=>k1 (bq.1 e))];by_cases k2:x.kind=2
 ·rw[ag k2] at hk;rw[ag (bq.2 k2)];obtain⟨Z,hz,zm,zd,go⟩:=E1.H.use 1;refine⟨_,af dw rfl,aB.2 ⟨_,af E1.H.dE rfl,oz x.ep dw rfl rfl rfl rfl rfl ⟨_,af dw rfl,j4.zO hz x.ep ses λh3 T3 s3=> ?_⟩⟩⟩;obtain⟨X3,H3,Gj,_,_⟩:=go h3 Z { σ with G:=j4.KY σ.G x.ep ses } T3 s3 (λi hi=>gJ.Vc _ hi);have DH:=bM.no f1 Gj;refine⟨_,rfl,kpx Gj.fr Tu (by simp),aK.of λJ hJ=> ?_⟩;by_cases ho:j4.oR σ.G x.ep ses=0
  case neg=>
   rw[ai ho] at hk;rw[ai (by simpa using ho)];subst hJ;have eG:j4.KY σ.G x.ep ses=σ.G:=by unfold j4.KY;rw[ai ho]
   rw[eG] at H3;exact hk h3 X3 H3 (oT.bad hb nM DH)
  rw[ag ho] at hk;rw[ag (by rw[ho];rfl)];have qu:=Gj.fr.get dw Tu;obtain⟨Z,hz,zm,zd,go⟩:=H3.use 2;have nb3: ¬X3.M b:=λhm=>by
   rcases Gj.re b hm with a|a
   ·exact Tu a
   ·have:=aI dw;omega
  refine⟨_,af qu rfl,aB.2 ⟨_,af H3.dE rfl,oz x.ep qu rfl rfl rfl rfl rfl (hU.AJ hz sm (by show σ.C.gone<=_;omega) x.ep λh5 Z5 p5 c5 C5 s5 N5 n5=> ?_)⟩⟩;obtain⟨X5,H5,Wc,_,_⟩:=go h5 Z5 { σ with G:=j4.KY σ.G x.ep ses,C:=hU.Ii σ.C x.ep } C5 s5 (λi hi=>gJ.GX (σ:= { σ with G:=j4.KY σ.G x.ep ses }) _ hi);have st:=DH.trans Wc;refine⟨_,_,_,rfl,kpx Wc.fr nb3 (by simp),yU (z:=⟨ri,0,0,((hU.vp σ.C.L x.ep).length:Int),0,none,0,0⟩) (st.fr.get hb nM) (by decide) rfl λh6 d6 f6=> ?_⟩;subst hJ;rw[ho];exact hk h6 X5 (H5.frame f6 (λy hy e=>alO st nb zo y hy e)) (oT.num (st1:=st) 0 _ f6 d6)
 rw[ai k2] at hk;rw[ai (λe=>k2 (bq.1 e))];by_cases k3:x.kind=3
 ·rw[ag k3] at hk;rw[ag (bq.2 k3)];obtain⟨Z,hz,zm,zd,go⟩:=E1.H.use 1;refine⟨_,af dw rfl,aB.2 ⟨_,af E1.H.dE rfl,oz x.ep dw rfl rfl rfl rfl rfl ⟨_,af dw rfl,_,af dw rfl,j4.aaK hz x.ep ses x.uE λh2 T2 s2=> ?_⟩⟩⟩;obtain⟨X2,H2,AF,_,_⟩:=go h2 Z { σ with G:=j4.Sd σ.G x.ep ses x.uE } T2 s2 (λi hi=>gJ.Vc _ hi);exact⟨_,rfl,kpx AF.fr Tu (by simp),hk h2 X2 H2 (oT.bad hb nM (bM.no f1 AF))⟩
 rw[ai k3] at hk;rw[ai (λe=>k3 (bq.1 e))];by_cases k4:x.kind=4
 ·rw[ag k4] at hk;rw[ag (bq.2 k4)];rw[dL,dL,ag k4] at pr;simp only[aW,bf] at pr;exact bN.jk (x:=x.as p c s ses) dw (ahu E1 (rx.frame f1 (λ_ _=>id)) cap (by omega) w1 w2 wF nb λh2 X2 H2 O=>⟨_,rfl,hk h2 X2 H2 (oT.no f1 O)⟩)
 rw[ai k4] at hk;rw[ai (λe=>k4 (bq.1 e))];by_cases k5:x.kind=5
 ·rw[ag k5] at hk;rw[ag (bq.2 k5)];exact⟨_,af dw rfl,_,af dw rfl,_,af dw rfl,gJ.GQ E1.H E.G E.hk λh2 X2 H2 AF=>⟨_,rfl,hk h2 X2 H2 (oT.bad hb nM (bM.no f1 AF))⟩⟩
 rw[ai k5] at hk;rw[ai (λe=>k5 (bq.1 e))];by_cases k6:x.kind=6
 ·rw[ag k6] at hk;rw[ag (bq.2 k6)];obtain⟨Z,hz,zm,zd,go⟩:=E1.H.use 2;refine⟨_,af dw rfl,aB.2 ⟨_,af E1.H.dE rfl,oz x.ep dw rfl rfl rfl rfl rfl (hU.adB hz sm x.ep λh2 f2=>⟨_,rfl,f2.kp,?_⟩)⟩⟩;have F2:=f1.tt f2;refine yU (z:=⟨ri,0,(hU.Vk σ.C.L x.ep:Int),0,0,none,0,0⟩) (F2.get hb id) (by decide) rfl λh3 d3 f3=> ?_
  have qu:=f3.get (f2.get dw id) (λe=>by have:=aI hb;omega);have H3:=(E.H.on F2).frame f3 (λy hy e=>nb (e▸hy));refine bN.jk (x:=x.as p c s ses) qu (Qy H3 λh4 f4=>⟨_,rfl,?_⟩);exact hk h4 X (H3.on f4) (oT.num (st1:=bM.nI F2) _ 0 (f3.on f4) (f4.get d3 id))
 rw[ai k6] at hk;rw[ai (λe=>k6 (bq.1 e))];by_cases k7:x.kind=7
 ·rw[ag k7] at hk;rw[ag (bq.2 k7)];rw[dL,dL,ai k4,dL,ag k7] at pr;simp only[aW,bf] at pr;exact bN.jk (x:=x.as p c s ses) dw (ahw E1 (by omega) wF nb λh2 X2 H2 O=>⟨_,rfl,hk h2 X2 H2 (oT.no f1 O)⟩)
 rw[ai k7] at hk;rw[ai (λe=>k7 (bq.1 e))];by_cases k8:x.kind=8
 ·rw[ag k8] at hk;rw[ag (bq.2 k8)];exact bN.jk (x:=x.as p c s ses) dw (U9 E1 QK wF nb λh2 X2 H2 O=>⟨_,rfl,hk h2 X2 H2 (oT.no f1 O)⟩)
 rw[ai k8] at hk;rw[ai (λe=>k8 (bq.1 e))];by_cases k9:x.kind=9
 ·rw[ag k9] at hk;rw[ag (bq.2 k9)];obtain⟨Z,hz,zm,zd,go⟩:=E1.H.use 2;refine⟨_,af dw rfl,aB.2 ⟨_,af E1.H.dE rfl,_,af dw rfl,_,af dw rfl,hU.Va hz sm x.num ses λh2 Z2 T2 s2=> ?_⟩⟩;obtain⟨X2,H2,AF,_,_⟩:=go h2 Z2 { σ with C:=hU.IS σ.C x.num ses } T2 s2 (λi hi=>gJ.GX _ hi);exact⟨_,rfl,kpx AF.fr Tu (by simp),hk h2 X2 H2 (oT.bad hb nM (bM.no f1 AF))⟩
 rw[ai k9] at hk;rw[ai (λe=>k9 (bq.1 e))];by_cases Na:x.kind=10
 ·rw[ag Na] at hk;rw[ag (bq.2 Na)];exact bN.jk (x:=x.as p c s ses) dw (KP E1 wF nb λh2 X2 H2 O=>⟨_,rfl,hk h2 X2 H2 (oT.no f1 O)⟩)
 rw[ai Na] at hk;rw[ai (λe=>Na (bq.1 e))];exact hk h1 X E1.H (oT.bad hb nM (bM.nI f1))
theorem ahF {A:List gU.gU} (ok:gU.Dw A) {m:Int} {j:Nat} {b:List UInt8} (h:gU.xo A m j=some b):b.length<=1000:=by
 unfold gU.xo at h;split at h
 ·cases h
 ·rename_i z hz;obtain⟨i,_,hi⟩:=gU.GN hz;unfold gU.Ic at h;obtain⟨a,ha,rfl⟩:=Option.map_eq_some_iff.1 h;exact((ok.at_ i z hi).kd a (List.mem_of_find?_eq_some ha)).2
abbrev rS (y:Go.jH.RD) (p:bU) (c:Nat):aq.S:=⟨(y.id:Int),y.err,y.num,y.count,(y.token:Int),p,y.b.length,c⟩
theorem ZP {b:Nat} {y z:aq.S} {K:aq.S->aj->Prop} (hb:aq.jx h b y) (hk: ∀h',Fr (λy=>y=b) h h'->K z h'):
  aq.dV h (AA b 0) z λg=>aq.df g (AA b 0) λr=>K r g:=
 aq.mA (x:=z) hb λg d1 f _=>aq.jk d1 (hk g f)
theorem apj (E:En V h0 h s X I σ k) (QK:k+1<=30000) (w1:0<=x.ep.l6) (w2:0<=x.dest.l6) (rx:Row h p (bc x.Be)) (cap:x.Be.length<=c)
  (hk: ∀h' X' q d,Pt h' s X' I (AS V σ ses x).1->bM X h X' h'->Row h' q (bc (AS V σ ses x).2.b)->((AS V σ ses x).2.b≠ []->∀y,aQ q y->¬X'.M y)->R (LO.val (AS V σ ses x).2 q d) h'):
  Cl F.mI #[pt s,.I ses,(x.s p c).agg] h R:=by
 refine mI.walk (aD.dH (x:=x.s p c) λb h1 eb hb f1=>aq.dH (x:=.z) λb1 h2 uf dw f2=>aK.of λJ hJ=> ?_);have F2:=f1.tt f2;have E2:=E.on F2;have fI:=f2.get hb _root_.id;have z1:=f1.1;have z2:=f2.1;have B:=E2.H.dE;have fl: ∀(g:aj) (e:Int),Fr No h2 g->AS V σ ses x=(σ,C7 x.id e)->Cl F.kN #[.U (x.id:Int),.I e] g λv cB=>aq.EX λt62=>v=t62.agg/\aq.dV cB (AA b1 0) t62 λcJ=>aq.df cJ (AA b1 0) λr0=>R (r0.agg) cJ:=by
  intro g e fg hq;rw[hq] at hk;refine LO.vR x.id rfl e λh' f'=>aq.ex (rS (C7 x.id e) none 0) ⟨rfl,ZP ((fg.tt f').get dw _root_.id) λOK f''=> ?_⟩
  have FF:=(F2.tt (fg.tt f')).fresh f'' (λy e=>by omega);exact hk OK X none 0 (E.H.on FF) (bM.nI FF) Row.nil (λe=>absurd rfl e)
 have dne: ∀(e:Int),¬(pC x=true/\x.kind<11)->AS V σ ses x=(σ,C7 x.id 3):=λe hn=>by unfold AS;rw[ai hn]
 have key:J false h2:=by
  subst hJ;dsimp only;rw[dL];refine aK.of λJ1 pA=>aD.jk (x:=x.s p c) fI (ic x (rx.frame F2 (λ_ _=>_root_.id)) λh3 f3=>⟨_,rfl,?_⟩)
  have kR:=f3.get fI _root_.id;have alP:J1 true h3->True:=λ_=>trivial
  have bad: ¬(pC x=true/\x.kind<11)->J1 true h3:=by
   intro hn;subst pA;try dsimp only
   rw[ag rfl];exact⟨_,af kR rfl,fl h3 3 f3 (dne 0 hn)⟩
  cases hr:pC x with
  |false=>rw[jy];exact bad (λe=>by rw[hr] at e;cases e.1)
  |true=>
  rw[dL];refine⟨_,af kR rfl,?_⟩;by_cases k11:x.kind<11
  case neg=>
   have:decide ((x.s p c).f1≥11)=true:=ay (by show x.kind≥11;omega);rw[this];exact bad (λe=>k11 e.2)
  have:decide ((x.s p c).f1≥11)=false:=decide_eq_false (by show¬x.kind≥11;omega);rw[this];subst pA;dsimp only;rw[dL];have E3:=E2.on f3;obtain⟨Z,hz,_⟩:=E3.H.use 0;unfold AS at hk fl;rw[ag ⟨hr,k11⟩] at hk;simp only[ag (show pC x=true/\x.kind<11 from⟨hr,k11⟩)] at fl;refine⟨_,af E3.H.dE rfl,gU.Wu hz E.G.a ⟨_,rfl,?_⟩⟩;cases hu:gU.UO σ.A ses with
  |false=>
   rw[jy];exact⟨_,af kR rfl,fl h3 16 f3 (by rw[hu];rfl)⟩
  |true=>
  rw[hu,ag rfl] at hk;rw[dL];refine⟨_,af E3.H.dE rfl,_,af kR rfl,gU.agm x.id rfl hz E.G.a (λkb hkb h4 p4 c4 o4 f4 n4=>⟨_,_,_,_,rfl,?_⟩) (λhkb h4 f4=>⟨_,_,_,_,rfl,?_⟩)⟩
  ·rw[hkb] at hk;rw[ag rfl];dsimp only at hk;have F4:=F2.tt (f3.tt f4);have z3:=f3.1;have z4:=f4.1;have fin: ∀(g:aj) (y:Go.jH.RD) (q:bU) (d:Nat),(Go.jH.PN kb).getD Go.jH.RD.zero=y->Row g q (bc y.b)->(∀z,aQ q z->h4.size<=z)->Fr No h4 g->
     aV g (.cells aq.S.z.arr T.aq) λeY fC=>
     aq.dV fC (AA eY 0) (rS y q d) λgD=>
     aq.df gD (AA eY 0) λt103=>
     aq.dV gD (AA b1 0) t103 λgX=>
     aq.df gX (AA b1 0) λpG=>
     R (pG.agg) gX:=by
    intro g y q d hy row nq fg;refine aq.j8 (x:=rS y q d) λb2 g2 FE fI f5=>aq.jk (x:=rS y q d) fI (ZP ((f3.tt (f4.tt (fg.tt f5))).get dw _root_.id) λg3 f6=> ?_)
    have FF:=(F4.tt (fg.tt f5)).fresh f6 (λy e=>by omega);have rr:=((row.frame f5 (λ_ _=>_root_.id)).frame f6 (λa ea hx=>by have:=nq a.block ⟨a,ea,rfl⟩;have hx:a.block=b1:=hx;have:=aI dw;omega));rw[hy] at hk;exact hk g3 X q d (E.H.on FF) (bM.nI FF) rr (λ_ z hz hm=>by have:=nq z hz;have:=E.H.lt z (.inl hm);omega)
   refine LO.Fm o4.pZ rfl (by have:=ahF E.G.a hkb;omega) (λy hy h5 q d o5 f5 n5=>aq.ex (rS y q d) ⟨_,rfl,?_⟩) (λhy h5 f5=>aq.ex (rS .zero none 0) ⟨_,rfl,?_⟩)
   ·exact fin h5 y q d (by rw[hy];rfl) o5.pZ n5 f5
   ·exact fin h5 .zero none 0 (by rw[hy];rfl) Row.nil (λz hz=>by obtain⟨a,e,_⟩:=hz;cases e) f5
  ·rw[hkb] at hk;rw[dL];dsimp only at hk;have F4:=F2.tt (f3.tt f4);have z3:=f3.1;have z4:=f4.1;have ma:=f4.get kR _root_.id;refine⟨_,af ma rfl,aq.j8 (x:=y0 x.id) λb3 h5 LP DJ f5=>aD.jk (x:=x.s p c) (f5.get ma _root_.id) ?_⟩;have F5:=F4.tt f5;have E5:=E.on F5;have z5:=f5.1;have nX: ∀y,h.size<=y->¬(X.M y\/X.D y):=λy hy hm=>by have:=E.H.lt y hm;omega
   refine api (p:=p) (c:=c) (ses:=ses) E5 QK hr w1 w2 (rx.frame F5 (λ_ _=>_root_.id)) cap DJ (nX b3 (by omega)) λh6 X6 H6 O=>⟨_,rfl,aK.of λJ2 zX=> ?_⟩
   have sG:=Good.C6 (V:=V) (ses:=ses) (q:=x) E.G E.H.ord E.hk w1;generalize C6 V σ ses x=o at hk H6 O sG;have RQ:aD.jx h6 b (x.s p c):=O.fr.get (f5.get ma _root_.id) (λhm=>by
    rcases hm with a|a
    ·exact nX b (by omega) (.inl a)
    ·have:=aI ma;omega)
   have hc6:aq.jx h6 b1 .z:=O.fr.get ((f3.tt (f4.tt f5)).get dw _root_.id) (λhm=>by
    rcases hm with a|a
    ·exact nX b1 (by omega) (.inl a)
    ·have:=aI dw;omega)
   have zo:=aI DJ;have st:bM X h X6 h6:=⟨(Fr.no F5 O.fr).trans (Fr.refl (λ_=>False) _) (λc hc hm=>by
    rcases hm with a|a
    ·exact a
    ·omega) (λ_ _=>False.elim),λc hc=>(O.re c hc).imp _root_.id (λa=>by omega),λc hc=>(O.wK c hc).imp _root_.id (λa=>by omega),O.Iw⟩
   have zlt:=aI ma;have PT:=aI dw;have UD: ∀y,h.size<=y->y<h5.size->¬(X6.M y\/X6.D y):=λy hy hl hm=>by
    rcases hm with a|a
    ·rcases O.re y a with a|a
     ·exact nX y hy (.inl a)
     ·omega
    ·rcases O.wK y a with a|a
     ·exact nX y hy (.inr a)
     ·omega
   have fin: ∀(g:aj) (q:bU) (d:Nat),aq.jx g b3 (rS (vB x.id o) q d)->Fr (λy=>y=b3) h6 g->Row g q (bc (vB x.id o).b)->((vB x.id o).b≠ []->∀z,aQ q z->(h5.size<=z\/X.D z)/\¬X6.M z)->J2 g:=by
    intro g q d hg fg row nq;subst zX;have Hg:=H6.frame fg (λy hy e=>UD b3 (by omega) zo (e▸hy));have zg:=fg.1;have z6:=O.fr.1;have ne1:b≠b3:=by omega
    have ne2:b1≠b3:=by omega
    obtain⟨Z,hz,zm,zd,go⟩:=Hg.use 0;have wr: ∀(g':aj) (pw:bU) (cw:Nat),Row g' pw (bc (wrR (vB x.id o)))->(∀y,aQ pw y->g.size<=y)->Fr No g g'->∀(e:Int),
      ∃t126,ak g' (AA s 0)=some (.pointer t126)/\
      ∃t129,ak g' (AA b 0)=some (.U t129)/\
      Cl F.iT #[.pointer t126,.I ses,.U t129,.slice pw (wrR (vB x.id o)).length cw] g' λEJ rL=>
      ∃t131,EJ=.I t131/\
      aq.df rL (AA b3 0) λt132=>
      aq.dV rL (AA b1 0) t132 λqK=>
      aq.df qK (AA b1 0) λyQ=>
      R (yQ.agg) qK:=by
     intro g' pw cw rw' nw f' _;have Hg':=Hg.on f';obtain⟨Z,hz,zm,zd,go⟩:=Hg'.use 0;have hbg:=f'.get (fg.get RQ ne1) _root_.id;refine⟨_,af Hg'.dE rfl,_,af hbg rfl,gU.agl x.id rfl hz sG.a rw' rfl (λ_ y hy hm=>by have:=nw y hy;have:=Hg.lt y (.inl (zm y hm));omega) λh7 Z7 T7 s7=>⟨_,rfl,?_⟩⟩;obtain⟨X7,H7,st7,_,_⟩:=go h7 Z7 { o.σ with A:=gU.tH o.σ.A ses x.id (wrR (vB x.id o)) } T7 s7 (λi hi=>gJ.PI _ hi);have n3: ¬X6.M b3:=λa=>UD b3 (by omega) zo (.inl a)
     have n1: ¬X6.M b1:=λa=>UD b1 (by omega) (by omega) (.inl a)
     have hg7:=st7.fr.get (f'.get hg _root_.id) n3;have hc7:=st7.fr.get (f'.get (fg.get hc6 ne2) _root_.id) n1;refine aq.jk (x:=rS (vB x.id o) q d) hg7 (ZP hc7 λh8 f8=> ?_);have z7:=st7.fr.1;have zf:=f'.1;have DH:bM X h X6 g':=(bM.box st fg (by omega)).on f';have stB:=DH.trans st7;have stC:=bM.box stB f8 (by omega);have n17: ∀y,X7.M y\/X7.D y->y≠b1:=λy hy e=>by
      rcases hy with a|a
      ·rcases st7.re y a with a|a
       ·exact n1 (e▸a)
       ·omega
      ·rcases st7.wK y a with a|a
       ·exact UD b1 (by omega) (by omega) (.inr (e▸a))
       ·omega
     refine hk h8 X7 q d (H7.frame f8 (λy hy e=>n17 y hy e)) stC ?_ (λhd z hz hm=> ?_)
     ·by_cases hd:(vB x.id o).b= []
      ·rw[hd];exact Row.nil
      ·refine(((row.frame f' (λ_ _=>_root_.id)).frame st7.fr (λa ea hx=>(nq hd a.block ⟨a,ea,rfl⟩).2 hx)).frame f8 (λa ea hx=> ?_));have hx:a.block=b1:=hx;rcases(nq hd a.block ⟨a,ea,rfl⟩).1 with a1|a1
       ·omega
       ·exact nX b1 (by omega) (.inr (hx▸a1))
     ·rcases st7.re z hm with a|a
      ·exact(nq hd z hz).2 a
      ·have:=qN row (by simpa[bc] using hd) hz;omega
    refine aq.jk (x:=rS (vB x.id o) q d) hg (LO.ae3 (vB x.id o) row (λhR g' pw cw ow f' nw=>⟨_,_,_,_,rfl,?_⟩) (λhR g' f'=>⟨_,_,_,_,rfl,?_⟩))
    ·have:=wr g' pw cw (by rw[show wrR (vB x.id o)=(vB x.id o).enc from ag hR];exact ow.pZ) nw f' 0;rw[show wrR (vB x.id o)=(vB x.id o).enc from ag hR] at this;exact this
    ·have:=wr g' none 0 (by rw[show wrR (vB x.id o)= [] from ai hR];exact Row.nil) (λy hy=>by obtain⟨a,e,_⟩:=hy;cases e) f' 0;rw[show wrR (vB x.id o)= [] from ai hR] at this;exact this
   obtain⟨y,hy,hy0⟩:=O.at';by_cases he:o.e=0
   ·rw[ai (by simpa using he)];obtain⟨q,d,rfl,row,nq⟩:=hy0 he;have eo:vB x.id o=⟨x.id,0,o.num,o.KD,0,o.d⟩:=ag he;rw[eo] at fin;exact fin h6 q d hy (Fr.refl _ _) row nq
   ·rw[ag (by simpa using he)];have eo:vB x.id o=⟨x.id,o.e,0,0,0, []⟩:=ai he;rw[eo] at fin;refine⟨_,af RQ rfl,LO.vR x.id rfl o.e λg f=>aq.ex (rS ⟨x.id,o.e,0,0,0, []⟩ none 0) ⟨rfl,aq.mA (x:=rS ⟨x.id,o.e,0,0,0, []⟩ none 0) (f.get hy _root_.id) λg2 d2 f2 _=>fin g2 none 0 d2 (Fr.no f f2) Row.nil (λe=>absurd rfl e)⟩⟩
 refine⟨_,af B rfl,?_⟩;rw[ai (by simp)];refine⟨_,af B rfl,?_⟩;rw[ai (by simp)];refine⟨_,af B rfl,?_⟩;rw[ai (by simp)];refine⟨_,af B rfl,?_⟩;rw[ai (by simp)];refine⟨_,af B rfl,?_⟩;rw[ai (by simp)];exact⟨_,af B rfl,key⟩
theorem ae4 (hk: ∀h',Fr No h h'->R (LO.val (C7 x.id 6) none 0) h'):Cl F.mI #[.pointer none,.I ses,(x.s p c).agg] h R:=by
 refine mI.nil.walk (aD.dH (x:=x.s p c) λb h1 eb hb f1=>aq.dH (x:=.z) λb1 h2 uf dw f2=>aK.of λJ hJ=> ?_);subst hJ;try dsimp only
 rw[ag rfl];have z1:=f1.1;refine⟨_,af (f2.get hb _root_.id) rfl,LO.vR x.id rfl 6 λh' f'=>aq.ex (rS (C7 x.id 6) none 0) ⟨rfl,ZP (f'.get dw _root_.id) λOK f''=> ?_⟩⟩;exact hk OK ((f1.tt (f2.tt f')).fresh f'' (λy e=>by omega))
end Ask
end
section
namespace Ask
open qI (Ev dj)
open gJ (SS Good)
open Go.jH (RD)
variable {V:List UInt8→Bool} {σ:SS} {k:Nat} {ses:Int} {q:Rq}
abbrev Qz:Ev:=⟨true,7,0,⟨#[]⟩,⟨#[]⟩⟩
abbrev Ab:Ev:=⟨true,7,1,⟨#[]⟩,⟨#[]⟩⟩
structure Au (A:List gU.gU) (i:Nat):Prop where
 u1:gU.UO A 1=true
 u2:gU.UO A 2=true
 k: ∀m j,i<j->gU.xo A m j=none
theorem Jq (hr:pC q=true) (hk:q.kind<11) (hu:gU.UO σ.A ses=true) (hn:gU.xo σ.A ses q.id=none):
  AS V σ ses q=({ (C6 V σ ses q).σ with A:=gU.tH (C6 V σ ses q).σ.A ses q.id (wrR (vB q.id (C6 V σ ses q))) },vB q.id (C6 V σ ses q)):=by
 unfold AS;rw[ag ⟨hr,hk⟩,ag hu,hn]
theorem Au.vV {A:List gU.gU} {i id:Nat} (a:Au A i) (hi:id=i+1) (d:List UInt8):Au (gU.tH A ses id d) (i+1):=
 ⟨by rw[PO];exact a.u1,by rw[PO];exact a.u2,λm j hj=>aaW (.inr (by omega)) (a.k m j (by omega))⟩
structure Li (σ:SS) (i now:Nat):Prop where
 a:Au σ.A i
 g:σ.G= [⟨Ab,0,1⟩]
 n:σ.now=now
theorem Li.do {i now id:Nat} (L:Li σ i now) (hs:ses=1\/ses=2) (hi:id=i+1) (hq:q.id=id) (hr:pC q=true) (hk:q.kind<11) {o:Ot} (ho:C6 V σ ses q=o) (hA:o.σ.A=σ.A) (hG:o.σ.G=σ.G) (hn:o.σ.now=σ.now):
  (AS V σ ses q).2=vB id o/\Li (AS V σ ses q).1 (i+1) now/\(AS V σ ses q).1.C=o.σ.C:=by
 subst hq;have hu:gU.UO σ.A ses=true:=by rcases hs with rfl|rfl;exact L.a.u1;exact L.a.u2
 rw[Jq hr hk hu (L.a.k ses q.id (by omega)),ho];refine⟨rfl,⟨?_,hG.trans L.g,hn.trans L.n⟩,rfl⟩;show Au (gU.tH o.σ.A ses q.id _) (i+1);rw[hA];exact L.a.vV hi _
def two:List gU.gU:= [⟨1,5,true,false, [], []⟩,⟨2,6,true,false, [], []⟩]
theorem ae5:gU.vo (gU.vo [] 5) 6=two:=by kernel_rfl
theorem alQ:Au two 0:=⟨by kernel_rfl,by kernel_rfl,λm j _=>by
 unfold gU.xo gU.vm;split
 ·rfl
 ·rename_i s hs;split at hs
  ·generalize (m - 1).toNat=x at hs
   match x with
   |0=>cases hs;rfl
   |1=>cases hs;rfl
   |x+2=>cases hs
  ·cases hs⟩
def s1:SS:= { gJ.G5 Qz with A:=two }
def q1:Rq:=⟨1,1,Ab,.zero,0,0,0, [],0,0,false⟩
theorem do1:C6 V s1 1 q1=bad { s1 with G:= [⟨Ab,0,1⟩] } 0:=by
 unfold C6;rw[ag (show q1.kind=1 from rfl)];have h1:j4.ou s1.G ⟨q1.ep,q1.uE,1⟩=0:=by kernel_rfl
 have h2:j4.IM s1.G ⟨q1.ep,q1.uE,1⟩= [⟨Ab,0,1⟩]:=by unfold j4.IM;rw[ag h1];rfl
 rw[h1,h2]
abbrev QA (data:List UInt8) (ses:Int) (dl:Nat):hU.Cp:=⟨1,Ab,data,5000,ses,dl⟩
theorem akt (C : hU.CF) (hC : C = ⟨[], 1, 0, 0, 0, [], []⟩) (data : List UInt8) (h1 : 1 ≤ data.length) (h2 : data.length ≤ 300) : hU.si C Ab data 5000 = ⟨[QA data 0 0], 2, 0, 0, 0, [(1, 5000)], []⟩ := by
  subst hC
  have hm : hU.FN Ab data.length ((5000 : Nat) : Int) = true := by
    unfold hU.FN
    rw [show dj Ab = true by kernel_rfl, decide_eq_false (show ¬ Ab = Ev.zero from λe => by cases congrArg Ev.vD e), decide_eq_true h1, decide_eq_true (show data.length ≤ 600 by omega)]; rfl
  have he : hU.ou ⟨[], 1, 0, 0, 0, [], []⟩ Ab data 5000 = 0 := by
    unfold hU.ou
    rw [if_pos hm]; rfl
  unfold hU.si
  rw [if_pos he]
  rfl
theorem aaF (h:σ.G= [⟨Ab,0,1⟩]):j4.oR σ.G Ab 1=0/\j4.oR σ.G Ab 2=13:=by rw[h];exact⟨by kernel_rfl,by kernel_rfl⟩
def q2 (n:Nat) (id:Nat):Rq:=⟨id,7,Ab,.zero,0,0,(n:Int), [],0,0,false⟩
def q3 (id:Nat) (kind:Int):Rq:=⟨id,kind,.zero,.zero,0,1,0, [],0,0,false⟩
theorem ae6 {n id:Nat} (h1:1<=n) (h2:n<=1000) (h3:1<=id) (h4:id<=100):pC (q2 n id)=true:=by
 have hn:tZ Ab=true:=by kernel_rfl
 have ho:q2 n id=BI (q2 n id):=rfl;have hp:tB (q2 n id)=true:=by
  show(tZ Ab && decide ((n:Int)≥1) && decide ((n:Int)<=1000))=true;rw[hn,ay (by omega),ay (by omega)];rfl
 unfold pC;rw[hp,ay ho,ay (show(q2 n id).id≥1 from h3),ay (show(q2 n id).id<=1099511627776 by show id<=_;omega)];rfl
theorem Hk {id:Nat} {kind:Int} (hk:kind=8\/kind=9) (h3:1<=id) (h4:id<=100):pC (q3 id kind)=true:=by
 have ho:q3 id kind=BI (q3 id kind):=by rcases hk with rfl|rfl<;>rfl
 have hp:tB (q3 id kind)=true:=by rcases hk with rfl|rfl<;>rfl
 unfold pC;rw[hp,ay ho,ay (show(q3 id kind).id≥1 from h3),ay (show(q3 id kind).id<=1099511627776 by show id<=_;omega)];rfl
theorem do7 {n id:Nat} {data:List UInt8} (hL:σ.C.L= [QA data 0 0]) (hg:σ.G= [⟨Ab,0,1⟩]) (hn:σ.now=0) (h2:n<=1000):
  C6 V σ 1 (q2 n id)=⟨{ σ with C:=hU.xx σ.C (QA data 0 0) 1 n },0,1,(Vo V data:Int),data⟩:=by
 have e:C6 V σ 1 (q2 n id)=Eb V σ 1 (q2 n id):=rfl;have hd:dlN σ (q2 n id)=n:=by unfold dlN uC;show min (σ.now+(n:Int).toNat) _=n;rw[hn];omega
 have hm:hU.DL 1 n:=⟨by decide,by decide,by omega⟩;have hl:hU.tM σ.C.L Ab=some (QA data 0 0):=by
  rw[hL];unfold hU.tM hU.vp;rw[cC,ag (ay rfl),List.filter_nil,List.find?_cons];rfl
 rw[e];unfold Eb;rw[ag (show j4.oR σ.G (q2 n id).ep 1=0 from(aaF hg).1),hd,ag hm,show(q2 n id).ep=Ab from rfl,hl];rfl
theorem arz {n id:Nat} (hg:σ.G= [⟨Ab,0,1⟩]):C6 V σ 2 (q2 n id)=bad σ 13:=by
 have e:C6 V σ 2 (q2 n id)=Eb V σ 2 (q2 n id):=rfl;have h:=(aaF hg).2;rw[e];unfold Eb;rw[show(q2 n id).ep=Ab from rfl,h,dL]
theorem QB {data:List UInt8} {a s:Int} {b:Nat} :hU.pU [QA data a b] 1 s=if a=0\/a≠s then 14 else 0:=rfl
theorem ahG {id:Nat} {e:Int} (he:hU.pU σ.C.L 1 ses=e) (h0:e≠0):C6 V σ ses (q3 id 8)=bad σ e:=by
 have e:C6 V σ ses (q3 id 8)=Mr V σ ses 1:=rfl;rw[e];unfold Mr;rw[he,ai h0]
theorem arA {id:Nat} {e:Int} (he:hU.pU σ.C.L 1 ses=e) (h0:e≠0):C6 V σ ses (q3 id 9)=bad σ e:=by
 have e':C6 V σ ses (q3 id 9)=bad { σ with C:=hU.IS σ.C 1 ses } (hU.pU σ.C.L 1 ses):=rfl;rw[e',he];have:hU.IS σ.C 1 ses=σ.C:=by unfold hU.IS;rw[he,ai h0]
 rw[this]
theorem VT (d:List UInt8):(qM V σ ses d).1.A=σ.A/\(qM V σ ses d).1.G=σ.G/\(qM V σ ses d).1.C=σ.C/\(qM V σ ses d).1.now=σ.now/\(qM V σ ses d).1.e=σ.e/\(qM V σ ses d).1.rf=σ.rf:=by
 have BK: ∀d' t n,(BK σ ses d' t n).σ.A=σ.A/\(BK σ ses d' t n).σ.G=σ.G/\(BK σ ses d' t n).σ.C=σ.C/\(BK σ ses d' t n).σ.now=σ.now/\(BK σ ses d' t n).σ.e=σ.e/\(BK σ ses d' t n).σ.rf=σ.rf:=λd' t n=>by
  unfold BK gJ.zU;split<;>exact⟨rfl,rfl,rfl,rfl,rfl,rfl⟩
 unfold qM;split
 ·exact⟨rfl,rfl,rfl,rfl,rfl,rfl⟩
 split
 ·split
  ·exact⟨rfl,rfl,rfl,rfl,rfl,rfl⟩
  ·split
   ·exact⟨rfl,rfl,rfl,rfl,rfl,rfl⟩
   ·unfold vA;split
    ·exact⟨rfl,rfl,rfl,rfl,rfl,rfl⟩
    ·exact BK _ _ _
 ·exact⟨rfl,rfl,rfl,rfl,rfl,rfl⟩
theorem do8 {id:Nat} {data:List UInt8} {dl:Nat} (hL:σ.C.L= [QA data 1 dl]): ∃o,C6 V σ 1 (q3 id 8)=o/\o.e=0/\o.σ.A=σ.A/\o.σ.G=σ.G/\o.σ.now=σ.now/\o.σ.C=hU.vX σ.C 1 1:=by
 have e:C6 V σ 1 (q3 id 8)=Mr V σ 1 1:=rfl;have hf:hU.pU σ.C.L 1 1=0:=by rw[hL];rfl
 have hg:hU.GU σ.C.L 1=some (QA data 1 dl):=by rw[hL];rfl
 have t:=VT (V:=V) (σ:= { σ with C:=hU.vX σ.C 1 1 }) (ses:=1) data;rw[e];unfold Mr;rw[ag hf,hg];exact⟨_,rfl,rfl,t.1,t.2.1,t.2.2.2.1,t.2.2.1⟩
theorem arB {C:hU.CF} {data:List UInt8} {dl:Nat} (hL:C.L= [QA data 1 dl]):(hU.vX C 1 1).L= []/\(hU.vX C 1 1).iQ=C.iQ+1/\(hU.vX C 1 1).next=C.next/\(hU.vX C 1 1).over=C.over/\(hU.vX C 1 1).gone=C.gone:=by
 have hf:hU.pU C.L 1 1=0:=by rw[hL];rfl
 unfold hU.vX;rw[ag hf];refine⟨?_,rfl,rfl,rfl,rfl⟩;show hU.K1 C.L 1= [];rw[hL];rfl
theorem apk {C : hU.CF} {data : List UInt8} {dl now : Nat} (ok : hU.BP C) (O : hU.Ord C) (hL : C.L = [QA data 1 dl]) (hn : now < 5000) :
    (hU.oH C (now : Int)).L = [if dl ≤ now then QA data 0 0 else QA data 1 dl] ∧ (hU.oH C (now : Int)).next = C.next ∧ (hU.oH C (now : Int)).iQ = C.iQ ∧ (hU.oH C (now : Int)).over = C.over ∧ (hU.oH C (now : Int)).gone = C.gone := by
  obtain ⟨h1, _, h3, _, _, h6, h7, h8, h9⟩ := hU.NH ok O (now : Int)
  refine ⟨?_, h3, h7, ?_, h9⟩
  · rw [h6, hL, List.filter_cons, if_pos (decide_eq_true (show (now : Int) < ((5000 : Nat) : Int) by omega)), List.filter_nil, List.map_singleton]
    congr 1
    unfold hU.uk
    by_cases h : dl ≤ now
    · rw [if_pos ⟨(by show (1 : Int) ≠ 0; decide), (by show (dl : Int) ≤ now; omega)⟩, if_pos h]
    · rw [if_neg (λe => h (by have : (dl : Int) ≤ now := e.2; omega)), if_neg h]
  · rw [h8]
    have hd : cp.due C.E1 (now : Int) = [] := by
      refine List.eq_nil_iff_forall_not_mem.2 λe he => ?_
      obtain ⟨h1, h2⟩ := (hU.Jf O).1 he
      obtain ⟨z, hz, rfl⟩ := (ok.e1 e).1 h1
      rw [hL] at hz
      rw [List.mem_singleton.1 hz] at h2
      have : ((5000 : Nat) : Int) ≤ now := h2
      omega
    rw [hd]; rfl
theorem ahH {C:hU.CF} (ok:hU.BP C) (O:hU.Ord C) (hL:C.L= []\/∃data,C.L= [QA data 0 0]):C.E2.length=0:=by
 rw[hU.K7 ok O];rcases hL with h|⟨d,h⟩<;>rw[h]<;>rfl
def q4:Rq:=⟨2,4,Ab,Ab,0,0,0, [120],9,0,false⟩
def q6:Rq:=⟨2,6,Ab,.zero,0,0,0, [],0,0,false⟩
def sA:SS:= { s1 with G:= [⟨Ab,0,1⟩],A:= [⟨1,5,true,false, [(1, [1,0,0,0,0,0])], []⟩,⟨2,6,true,false, [], []⟩] }
theorem v1:AS V s1 1 q1=(sA,⟨1,0,0,0,0, []⟩):=by
 rw[Jq (by kernel_rfl) (by decide) (by kernel_rfl) (by kernel_rfl),do1];kernel_rfl
def sB:SS:= { sA with A:= [⟨1,5,true,false, [(1, [1,0,0,0,0,0])], []⟩,⟨2,6,true,false, [(1, [1,11,0,0,0,0])], []⟩] }
theorem v2:AS V sA 2 q1=(sB,⟨1,11,0,0,0, []⟩):=by
 rw[Jq (by kernel_rfl) (by decide) (by kernel_rfl) (by kernel_rfl)];kernel_rfl
theorem v3: ∃d,Bn.vc V (vq q4 (0,1))=some d/\1<=d.length/\d.length<=600:=by
 have h:(match Bn.vc V (vq q4 (0,1)) with|none=>false|some d=>decide (1<=d.length/\d.length<=600))=true:=by kernel_rfl
 cases hb:Bn.vc V (vq q4 (0,1)) with
 |none=>rw[hb] at h;cases h
 |some d=>rw[hb] at h;exact⟨d,rfl,(of_decide_eq_true h).1,(of_decide_eq_true h).2⟩
theorem ae7 {b:List UInt8} (hr:pC q=true) (hk:q.kind<11) (hu:gU.UO σ.A ses=true) (hn:gU.xo σ.A ses q.id=some b):AS V σ ses q=(σ,(Go.jH.PN b).getD RD.zero):=by
 unfold AS;rw[ag ⟨hr,hk⟩,ag hu,hn]
theorem ae8 (hr:pC q=true) (hk:q.kind<11) (hu:gU.UO σ.A ses=false):AS V σ ses q=(σ,C7 q.id 16):=by
 unfold AS;rw[ag ⟨hr,hk⟩,hu];rfl
theorem arC (hk:q.kind=4):C6 V σ ses q=FQ V σ ses q:=by
 unfold C6;rw[dL,dL,dL,ag hk]
theorem apl {d:List UInt8} (l1:1<=d.length) (l2:d.length<=600):gJ.IT sB 1 d 9=0:=by
 have h1:gJ.yz sB.Q 1 d.length=true:=by
  refine vM.RY.2 ?_;have e1:gJ.own sB.Q 1=0:=by kernel_rfl
  have e2:gJ.Hn sB.Q=0:=by kernel_rfl
  rw[e1,e2];omega
 have h2: ¬(sB.B.items.length≥16\/gJ.yz sB.Q 1 d.length=false):=by
  rw[h1];rintro(a|a)
  ·have:sB.B.items.length=0:=by kernel_rfl
   omega
  ·cases a
 unfold gJ.IT;rw[ai h2];unfold lH.ou;rw[ag (lH.KB.2 ⟨by decide,by decide,l1,l2,by decide⟩),ai (by rw[show sB.B.items.length=0 by kernel_rfl];omega)]
theorem v4: ∃cT y,AS V sB 1 q4=(cT,y)/\y.err=0/\y.num=1/\AS V cT 1 q6=(cT,y)/\AS V cT 3 q6=(cT,C7 2 16)/\cT.B.items.length=1:=by
 obtain⟨d,hd,l1,l2⟩:=v3 (V:=V);have e0:=apl l1 l2;have eN:gJ.Vm sB 1 d 9=1:=by
  unfold gJ.Vm gJ.IT at*;split at e0
  ·cases e0
  ·rename_i hh;rw[ai hh];unfold lH.Ml;rw[ag e0];kernel_rfl
 have eP:(gJ.zU sB 1 d 9).B= { sB.B with items:=sB.B.items++ [⟨sB.B.next,1,d,9⟩],next:=sB.B.next+1 } :=by
  have h:=(gJ.NK e0).2;unfold gJ.zU;rw[ag e0];exact ag h
 have eA:(gJ.zU sB 1 d 9).A=sB.A:=by unfold gJ.zU;rw[ag e0]
 have eo:C6 V sB 1 q4=⟨{ gJ.zU sB 1 d 9 with tm:=0,sq:=1 },0,1,d.length, []⟩:=by
  have h1:C6 V sB 1 q4=FQ V sB 1 q4:=arC rfl;have h2:j4.oR sB.G q4.ep 1=0:=by kernel_rfl
  have h3:zV sB=some (0,1):=by kernel_rfl
  have h4:uC sB.now (vq q4 (0,1)).p.gI=9:=by kernel_rfl
  rw[h1];unfold FQ;rw[ag h2,h3];dsimp only;unfold vA;rw[hd];dsimp only;rw[h4];unfold BK;rw[ag e0,eN]
 have eD:=Jq (V:=V) (σ:=sB) (ses:=1) (q:=q4) (by kernel_rfl) (by decide) (by kernel_rfl) (by kernel_rfl);rw[eo] at eD;have e1:vB q4.id ⟨{ gJ.zU sB 1 d 9 with tm:=0,sq:=1 },0,1,d.length, []⟩=⟨2,0,1,d.length,0, []⟩:=rfl;rw[e1] at eD;dsimp only at eD;rw[eA] at eD;have hR:(⟨2,0,1,(d.length:Int),0, []⟩:RD).xC:=⟨by show 2<=1099511627776;omega,⟨by show(0:Int)<=0;omega,by show(0:Int)<=99;omega⟩,⟨by show(0:Int)<=1;omega,by show(1:Int)<=1099511627776;omega⟩,⟨by show(0:Int)<=(d.length:Int);omega,by show(d.length:Int)<=_;omega⟩,by show 0<=2147483648;omega,cj _,λe=>absurd rfl e⟩;have ew:wrR ⟨2,0,1,(d.length:Int),0, []⟩=(⟨2,0,1,(d.length:Int),0, []⟩:RD).enc:=ag hR;rw[ew] at eD;have hl:(⟨2,0,1,(d.length:Int),0, []⟩:RD).enc.length<=1000:=dv (Go.jH.rW (cj _)) (by decide);have ek:gU.xo (gU.tH sB.A 1 q4.id (⟨2,0,1,(d.length:Int),0, []⟩:RD).enc) 1 2=some (⟨2,0,1,(d.length:Int),0, []⟩:RD).enc:=by
  generalize (⟨2,0,1,(d.length:Int),0, []⟩:RD).enc=w at hl;have hg:gU.vm sB.A 1=some ⟨1,5,true,false, [(1, [1,0,0,0,0,0])], []⟩:=by kernel_rfl
  have e2:gU.tH sB.A 1 q4.id w=gU.yO sB.A 1 ⟨1,5,true,false,gU.nK [(1, [1,0,0,0,0,0])] 2 w, []⟩:=by
   unfold gU.tH;rw[hg];dsimp only;rw[ai (λh=>h.elim (λa=>absurd a (by decide)) (λa=>by omega))];rfl
  rw[e2];unfold gU.xo;rw[K9 hg,ag rfl];show gU.Ic (gU.nK [(1, [1,0,0,0,0,0])] 2 w) 2=some w;kernel_rfl
 have eu: ∀m,gU.UO (gU.tH sB.A 1 q4.id (⟨2,0,1,(d.length:Int),0, []⟩:RD).enc) m=gU.UO sB.A m:=λm=>PO
 refine⟨_,_,eD,rfl,rfl,?_,?_,?_⟩
 ·rw[ae7 (by kernel_rfl) (by decide) ((eu 1).trans (by kernel_rfl)) ek,Go.jH.adD hR];rfl
 ·exact ae8 (by kernel_rfl) (by decide) ((eu 3).trans (by kernel_rfl))
 ·show(gJ.zU sB 1 d 9).B.items.length=1;rw[eP];kernel_rfl
end Ask
end
section
namespace Ask
open qI (Ev dj uG)
open gJ (SS Good Pt GW Mk Bk)
open Go.jH (RD)
variable {V:List UInt8→Bool} {h h' h0 h1 g:aj} {R:iI} {s k c:Nat} {X X':Ft} {I:GW} {σ:SS} {p:bU} {ses:Int} {x:Rq} {L:List (Nat × aq.S)}
theorem ZQ (hk: ∀h',Fr No h h'->R (uG Qz) h'):Cl F.ur #[] h R:=ur.walk (az.j8 (x:=Qz.s) λ_ h1 _ hb f1=>az.jk (x:=Qz.s) hb (hk h1 f1))
theorem uJ (hk: ∀h',Fr No h h'->R (uG Ab) h'):Cl F.jA #[] h R:=jA.walk (az.j8 (x:=Ab.s) λ_ h1 _ hb f1=>az.jk (x:=Ab.s) hb (hk h1 f1))
theorem ZR:gJ.Vt Qz:=⟨by kernel_rfl,λe=>by cases bp Ev.vD e⟩
theorem TC {n r:Nat} (B:Bk h s I n r) (hk:R (.bool true) h):Cl F.sy #[pt s] h R:=by
 refine sy.walk ?_;repeat (first|exact hk|refine⟨_,af B rfl,?_⟩|rw[ag rfl])
def Bx (h:aj) (X:Ft) (L:List (Nat×aq.S)):Prop:= ∀e∈L,aq.jx h e.1 e.2/\¬X.M e.1
theorem Bx.step (B:Bx h X L) (st:bM X h X' h'):Bx h' X' L:=λe he=>⟨st.fr.get (B e he).1 (B e he).2,λhm=>by
 rcases st.re _ hm with a|a
 ·exact(B e he).2 a
 ·have:=aI (B e he).1;omega⟩
theorem Bx.on (B:Bx h X L) (f:Fr No h h'):Bx h' X L:=λe he=>⟨f.get (B e he).1 id,(B e he).2⟩
def Rw (h:aj) (X:Ft) (p:bU) (d:List UInt8):Prop:=Row h p (bc d)/\(d≠ []->∀z,aQ p z->¬X.M z)
theorem Rw.step {d:List UInt8} (B:Rw h X p d) (st:bM X h X' h'):Rw h' X' p d:=by
 by_cases hd:d= []
 ·subst hd;exact⟨Row.nil,λe=>absurd rfl e⟩
 ·refine⟨B.1.frame st.fr (λa ea hx=>B.2 hd a.block ⟨a,ea,rfl⟩ hx),λ_ z hz hm=> ?_⟩;rcases st.re z hm with a|a
  ·exact B.2 hd z hz a
  ·have:=qN B.1 (by simpa[bc] using hd) hz;omega
theorem Rw.on {d:List UInt8} (B:Rw h X p d) (f:Fr No h h'):Rw h' X p d:=⟨B.1.frame f (λ_ _=>id),B.2⟩
theorem yD {K:Nat->aj->Prop} (E:En V h0 h s X I σ k) (QK:k+2<=30000) (w1:0<=x.ep.l6) (w2:0<=x.dest.l6) (rx:Row h p (bc x.Be)) (cap:x.Be.length<=c) (B:Bx h X L)
  (hK: ∀h' X' b q d,En V h0 h' s X' I (AS V σ ses x).1 (k+2)->Bx h' X' ((b,rS (AS V σ ses x).2 q d)::L)->Rw h' X' q (AS V σ ses x).2.b->bM X h X' h'->K b h'):
  Cl F.mI #[pt s,.I ses,(x.s p c).agg] h λv g=>aq.EX λt=>v=t.agg/\aV g (.cells aq.S.z.arr T.aq) λb g1=>aq.dV g1 (AA b 0) t λg2=>K b g2:=by
 refine apj E (by omega) w1 w2 rx cap λh2 X2 q d H2 AF row nM=>aq.ex (rS (AS V σ ses x).2 q d) ⟨rfl,aq.j8 (x:=rS (AS V σ ses x).2 q d) λb h3 eb hb f3=> ?_⟩
 have G2:=Good.AS (V:=V) (ses:=ses) (q:=x) E.G E.H.ord E.hk w1;have st:=AF.on f3;refine hK h3 X2 b q d (E.step (H2.on f3) st G2 QK) (λe he=> ?_) ((show Rw h2 X2 q _ from⟨row,nM⟩).on f3) st;rcases bP.1 he with rfl|he
 ·exact⟨hb,λhm=>by have:=H2.lt b (.inl hm);omega⟩
 ·exact(B.step st) e he
theorem Bx.nth {b:Nat} {y:aq.S} (B:Bx h X L) (i:Nat) (hm:L[i]? =some (b,y)):aq.jx h b y:=(B _ (bt hm)).1
theorem En.ae9 (U:Cb.xP V h0) (mx:Gi.Mx h0) (f:Fr No h0 h1) (H:Pt h s X I (gJ.G5 Qz)) (u:UpF h1 X h):En V h0 h s X I (gJ.G5 Qz) 0:=
 ⟨H,gJ.Good.new ZR.1 ZR.2 (by decide),by omega,⟨f.tt u.fr,λc hc=>dv f.1 (u.ge c hc)⟩,U,mx⟩
theorem vW (E:En V h0 h s X I σ k) (QK:k+1<=30000) (token:Nat) (hk: ∀h' X' a b,En V h0 h' s X' I { σ with A:=gU.vo σ.A token } (k+1)->bM X h X' h'->R (.tuple #[.I a,.I b]) h'):
  Cl F.gH #[pt I.t,.U (token:Int)] h R:=by
 obtain⟨Z,hz,zm,zd,go⟩:=E.H.use 0;refine gU.vW token rfl hz E.G.a λh2 Z2 T2 s2=> ?_
 obtain⟨X2,H2,AF,_,_⟩:=go h2 Z2 { σ with A:=gU.vo σ.A token } T2 s2 (λi hi=>gJ.PI _ hi);exact hk h2 X2 _ _ (E.step H2 AF (gJ.Good.vo E.G token) QK) AF
theorem LK (U:Cb.xP V h0) (mx:Gi.Mx h0) (u:Fr No h0 h) (hk: ∀h',Fr No h h'->R (.bool true) h'):Cl F.qb #[] h R:=by
 refine qb.walk (ZQ λh1 f1=>az.ex Qz.s ⟨rfl,gJ.pD Qz (λ_ h2 s X I H2 u2=>⟨_,_,rfl,aK.of λJ hJ=> ?_⟩) (λn=>absurd ZR n)⟩);have E2:=En.ae9 (U.mono u) (mx.on u) f1 H2 u2;rw[dL,ai (by simp)];refine aB.2 ⟨_,af H2.dE rfl,?_⟩;rw[ai (by simp)];refine aB.2 ⟨_,af H2.dE rfl,?_⟩;subst hJ;dsimp only;rw[ai (by simp)];refine aB.2 ⟨_,af H2.dE rfl,vW E2 (by omega) 5 λh3 X3 _ _ E3 Gj=>⟨_,_,rfl,aB.2 ⟨_,af E3.H.dE rfl,vW E3 (by omega) 6 λh4 X4 _ _ E4 Vg=>⟨_,_,rfl,?_⟩⟩⟩⟩;have e4:({ ({ gJ.G5 Qz with A:=gU.vo (gJ.G5 Qz).A 5 } :SS) with A:=gU.vo ({ gJ.G5 Qz with A:=gU.vo (gJ.G5 Qz).A 5 } :SS).A 6 } :SS)=s1:=by unfold s1;rw[<-ae5];rfl
 rw[e4] at E4;have B0:Bx h4 X4 []:=λe he=>by cases he
 refine uJ λh5 f5=>az.ex Ab.s ⟨rfl,yD (x:=q1) (p:=none) (c:=0) (E4.on f5) (by omega) (by decide) (by decide) Row.nil (bh _) (B0.on f5) λh6 X6 b6 _ _ E6 B6 _ _=> ?_⟩
 rw[v1] at E6 B6;dsimp only at E6 B6;refine uJ λh7 f7=>az.ex Ab.s ⟨rfl,yD (x:=q1) (p:=none) (c:=0) (E6.on f7) (by omega) (by decide) (by decide) Row.nil (bh _) (B6.on f7) λh8 X8 b8 _ _ E8 B8 _ _=> ?_⟩
 rw[v2] at E8 B8;dsimp only at E8 B8;obtain⟨cT,y,e1,ey,en,e2,e3,el⟩:=v4 (V:=V);refine uJ λh9 f9=>az.ex Ab.s ⟨rfl,uJ λvj f10=>az.ex Ab.s ⟨rfl,vf.ajS (bs:= [120]) rfl λyi row f11=>yD (x:=q4) (E8.on (f9.tt (f10.tt f11))) (by omega) (by decide) (by decide) row (bh _) (B8.on (f9.tt (f10.tt f11))) λmE X12 b12 _ _ E12 B12 _ _=> ?_⟩⟩
 rw[e1] at E12 B12;dsimp only at E12 B12;refine uJ λGP f13=>az.ex Ab.s ⟨rfl,yD (x:=q6) (p:=none) (c:=0) (E12.on f13) (by omega) (by decide) (by decide) Row.nil (bh _) (B12.on f13) λDv X14 b14 _ _ E14 B14 _ _=> ?_⟩
 rw[e2] at E14 B14;dsimp only at E14 B14;refine uJ λGY f15=>az.ex Ab.s ⟨rfl,yD (x:=q6) (p:=none) (c:=0) (E14.on f15) (by omega) (by decide) (by decide) Row.nil (bh _) (B14.on f15) λvY X16 b16 _ _ E16 ZS _ _=> ?_⟩
 rw[e3] at E16 ZS;dsimp only at E16 ZS;refine ae4 (x:=⟨2,0,.zero,.zero,0,0,0, [],0,0,false⟩) (p:=none) (c:=0) λQq f17=>aq.ex (rS (C7 2 6) none 0) ⟨rfl,aq.j8 (x:=rS (C7 2 6) none 0) λb18 Gl arY aa0 f18=> ?_⟩
 have VP:=ZS.on (f17.tt f18);have E18:=E16.on (f17.tt f18);refine⟨_,af (VP.nth 4 rfl) rfl,?_⟩;rw[ag (by rfl)];refine⟨_,af (VP.nth 4 rfl) rfl,?_⟩;rw[ag (by rfl)];refine⟨_,af (VP.nth 3 rfl) rfl,?_⟩;rw[ag (by rfl)];refine⟨_,af (VP.nth 2 rfl) rfl,?_⟩;rw[ag (by show(y.err==0)=true;rw[ey];rfl)];refine⟨_,af (VP.nth 2 rfl) rfl,?_⟩;rw[ag (by show(y.num==1)=true;rw[en];rfl)];refine⟨_,af (VP.nth 1 rfl) rfl,?_⟩;rw[ag (by show(y.num==1)=true;rw[en];rfl)];refine⟨_,af (VP.nth 1 rfl) rfl,_,af (VP.nth 2 rfl) rfl,?_⟩;rw[ag (by show(y.count==y.count)=true;simp)];refine⟨_,af (VP.nth 0 rfl) rfl,?_⟩;rw[ag (by rfl)];refine⟨_,af aa0 rfl,?_⟩;rw[ag (by rfl)];obtain⟨Z,hz⟩:=E18.H.box;refine aB.2 ⟨_,af E18.H.dE rfl,lH.PL hz λh19 p19 l19 c19 L19 f19=>⟨_,_,_,rfl,?_⟩⟩;have ll:l19=1:=by rw[L19.len];exact el
 rw[ll];exact hk h19 (E18.u.fr.tt f19)
theorem ahI {C:hU.CF} {data:List UInt8} {n:Nat} (h:C=hU.xx ⟨[QA data 0 0],2,0,0,0, [(1,5000)], []⟩ (QA data 0 0) 1 n):C.L= [QA data 1 n]/\C.next=2/\C.iQ=0/\C.over=0/\C.gone=0:=by subst h;exact⟨rfl,rfl,rfl,rfl,rfl⟩
theorem eqC (a b c d e f:Int):Ho Tryz.prog T.gE (.agg #[.I a,.I b,.I c,.I d,.I e,.I f]) (.agg #[.I a,.I b,.I c,.I d,.I e,.I f]) true:=by
 have q:(a==a && (b==b && (c==c && (d==d && (e==e && (f==f && true))))))=true:=by simp
 rw[<-q];exact Ho.of (by kernel_rfl)
theorem AN (E:En V h0 h s X I σ k) (QK:k+1<=30000) (r:Nat) (hp:gJ.C4 σ r=0) (hk: ∀h' X' e,En V h0 h' s X' I (gJ.NI σ r) (k+1)->bM X h X' h'->R (.I e) h'):Cl F.lS #[pt s,.U (r:Int)] h R:=by
 obtain⟨L,ok⟩:=E.H.okB;have G2:=gJ.Good.pass E.G E.H.ord L ok E.hk r;have eP:gJ.Sq σ r=gJ.NI σ r:=ag hp;rw[eP] at G2;exact gJ.AN r rfl E.H E.G E.hk λh2 X2 H2 AF=>by rw[eP] at H2;exact hk h2 X2 _ (E.step H2 AF G2 QK) AF
theorem ajl {n:Nat} (h:n<=100000):IntKind.wrap .i64 (n:Int)=(n:Int):=bK (by omega) (by omega)
theorem _root_.Go.Proofs.YtlenamcfacpheaaGreatDoor.askLeases_ok (kq later:Int) (dp:bU) (dl dc:Nat) (wt:(Lit.int .u8 kq).wf=true) (wl:(Lit.int .u8 later).wf=true) (hv:Eu Tryz.prog h T.dt (.slice dp dl dc)) (ut: ∃V,Cb.xP V h) (mx:Gi.Mx h):abM Tryz.prog F.rX #[.int .u8 kq,.int .u8 later,.slice dp dl dc] h:=by
 obtain⟨data,rfl,row⟩:=Eu.bytes (by kernel_rfl) vf.u8 vf.uU hv;obtain⟨V,U⟩:=ut;obtain⟨t,rfl⟩: ∃t:Nat,kq=(t:Int):=⟨kq.toNat,by have:=wf_u8 wt;omega⟩;obtain⟨r,rfl⟩: ∃r:Nat,later=(r:Int):=⟨later.toNat,by have:=wf_u8 wl;omega⟩;have ht:t<=255:=by have:=wf_u8 wt;omega
 have hr:r<=255:=by have:=wf_u8 wl;omega
 clear hv wt wl;unfold abM;generalize hR:(λ(v:Value) h'=>v=.bool true/\Fr No h h')=R;have hk: ∀h',Fr No h h'->R (.bool true) h':=λh' hf=>by rw[<-hR];exact⟨rfl,hf⟩
 clear hR;refine rX.walk (ZQ λh1 f1=>az.ex Qz.s ⟨rfl,gJ.pD Qz (λ_ h2 s X I H2 u2=>⟨_,_,rfl,aK.of λJ hJ=> ?_⟩) (λn=>absurd ZR n)⟩);have E2:=En.ae9 U mx f1 H2 u2;rw[dL];refine TC H2.dE ⟨_,rfl,?_⟩;rw[dL];have jt:J true h2:=by
  subst hJ;dsimp only;rw[ag rfl,jy];refine TC H2.dE ⟨_,rfl,?_⟩;rw[ag rfl];exact LK U mx E2.u.fr λh3 f3=>⟨_,rfl,hk h3 (E2.u.fr.tt f3)⟩
 by_cases g1:data.length<1
 ·rw[jy];exact jt
 rw[dL];by_cases g2:data.length>300
 ·rw[ay (by omega)];exact jt
 rw[decide_eq_false (by omega)];clear jt;subst hJ;dsimp only;rw[dL];have eT:IntKind.wrap .i64 (1+IntKind.wrap .i64 (t:Int))=((1+t:Nat):Int):=by rw[ajl (by omega),bK (by omega) (by omega)];omega
 have eR:IntKind.wrap .i64 (r:Int)=(r:Int):=ajl (by omega);have eR':IntKind.wrap .u64 (r:Int)=(r:Int):=wrap_u64 (by omega) (by omega);rw[eT,eR,eR'];clear eT eR eR';refine aB.2 ⟨_,af H2.dE rfl,vW E2 (by omega) 5 λh3 X3 _ _ E3 Gj=>⟨_,_,rfl,aB.2 ⟨_,af E3.H.dE rfl,vW E3 (by omega) 6 λh4 X4 _ _ E4 Vg=>⟨_,_,rfl,?_⟩⟩⟩⟩;have e4:({ ({ gJ.G5 Qz with A:=gU.vo (gJ.G5 Qz).A 5 } :SS) with A:=gU.vo ({ gJ.G5 Qz with A:=gU.vo (gJ.G5 Qz).A 5 } :SS).A 6 } :SS)=s1:=by unfold s1;rw[<-ae5];rfl
 rw[e4] at E4;have B0:Bx h4 X4 []:=λe he=>by cases he
 clear E2 E3 Gj Vg H2 u2 f1;have n1:1<=1+t:=by omega
 have n2:1+t<=256:=by omega
 generalize hn:1+t=n at n1 n2⊢;refine uJ λh5 f5=>az.ex Ab.s ⟨rfl,yD (x:=q1) (p:=none) (c:=0) (E4.on f5) (by omega) (by decide) (by decide) Row.nil (bh _) (B0.on f5) λh6 X6 b6 _ _ E6 B6 _ _=> ?_⟩
 rw[v1] at E6 B6;dsimp only at E6 B6;refine aB.2 ⟨_,af E6.H.dE rfl,uJ λh7 f7=>az.ex Ab.s ⟨rfl,f7.kp,?_⟩⟩;have E7:=E6.on f7;have B7:=B6.on f7;obtain⟨Z,hz,zm,zd,go⟩:=E7.H.use 2;refine hU.KQ hz (E7.G.small E7.H.ord (by omega)) (λz hz=>(E7.G.c.ok.bd z hz).2.1) (by decide) Ab (d:=data) 5000 rfl (row.frame E7.u.fr (λ_ _=>id)) rfl (λhd a ea hm=>by
  have:=qN row (by simpa[bc] using hd) ⟨a,ea,rfl⟩;have:=E7.u.ge a.block (.inl (zm _ hm));omega) λh8 Z8 C8 s8=>⟨_,_,rfl,?_⟩
 obtain⟨X8,H8,st8,_,_⟩:=go h8 Z8 { sA with C:=hU.si sA.C Ab data 5000 } C8 s8 (λi hi=>gJ.GX _ hi);have E8:=E7.step H8 st8 (gJ.Good.akt E7.G E7.H.ord (by omega) Ab (by decide) data 5000) (by omega);have B8:=B7.step st8;rw[akt sA.C rfl data (by omega) (by omega)] at E8;clear E7 B7 E6 B6 E4 B0 go hz zm zd C8 s8 H8 st8;have L8:Li { sA with C:=⟨[QA data 0 0],2,0,0,0, [(1,5000)], []⟩ } 1 0:=by
  refine⟨?_,rfl,rfl⟩;have h:=Au.vV (ses:=1) (id:=1) alQ rfl [1,0,0,0,0,0];have e:gU.tH two 1 1 [1,0,0,0,0,0]=sA.A:=by kernel_rfl
  rw[e] at h;exact h
 generalize hs8:({ sA with C:=⟨[QA data 0 0],2,0,0,0, [(1,5000)], []⟩ } :SS)=σ8 at E8 L8;have C8:σ8.C=⟨[QA data 0 0],2,0,0,0, [(1,5000)], []⟩:=by rw[<-hs8]
 clear hs8;have D:=Li.do (V:=V) (id:=2) L8 (.inl rfl) rfl rfl (ae6 n1 (by omega) (by omega) (by omega)) (show(7:Int)<11 by decide) (do7 (n:=n) (id:=2) (data:=data) (by rw[C8]) L8.g L8.n (by omega)) rfl rfl rfl;refine uJ λh9 f9=>az.ex Ab.s ⟨rfl,yD (x:=q2 n 2) (p:=none) (c:=0) (E8.on f9) (by omega) (show(0:Int)<=1 by decide) (show(0:Int)<=0 by decide) Row.nil (bh _) (B8.on f9) λvj X10 b10 q10 d10 E10 B10 R10 _=> ?_⟩
 rw[D.1] at B10 R10;obtain⟨_,L10,C10⟩:=D;obtain⟨alR,hs⟩: ∃z,(AS V σ8 1 (q2 n 2)).1=z:=⟨_,rfl⟩;rw[hs] at E10 L10 C10;clear hs;have C10:alR.C=hU.xx σ8.C (QA data 0 0) 1 n:=C10;rw[C8] at C10;obtain⟨l10,x10,a10,WH,g10⟩:=ahI C10;clear C10 L8 E8 B8 C8;have D:=Li.do (V:=V) (id:=3) L10 (.inr rfl) rfl rfl (Hk (.inl rfl) (by omega) (by omega)) (by decide) (ahG (id:=3) (e:=14) (by rw[l10,QB];exact ag (.inr (by decide))) (by decide)) rfl rfl rfl;refine yD (x:=q3 3 8) (p:=none) (c:=0) E10 (by omega) (by decide) (by decide) Row.nil (bh _) B10 λyi X11 b11 _ _ E11 B11 _ agi=> ?_
 have R11:=R10.step agi;rw[D.1] at B11;obtain⟨_,L11,C11⟩:=D;obtain⟨alS,hs⟩: ∃z,(AS V alR 2 (q3 3 8)).1=z:=⟨_,rfl⟩;rw[hs] at E11 L11 C11;clear hs;have C11:alS.C=alR.C:=C11;rw[<-C11] at l10 x10 a10 WH g10;clear C11 L10 E10 B10 R10 agi;have D:=Li.do (V:=V) (id:=4) L11 (.inr rfl) rfl rfl (Hk (.inr rfl) (by omega) (by omega)) (by decide) (arA (id:=4) (e:=14) (by rw[l10,QB];exact ag (.inr (by decide))) (by decide)) rfl rfl rfl;refine yD (x:=q3 4 9) (p:=none) (c:=0) E11 (by omega) (by decide) (by decide) Row.nil (bh _) B11 λmE X12 b12 _ _ E12 B12 _ ahv=> ?_
 have R12:=R11.step ahv;rw[D.1] at B12;obtain⟨_,L12,C12⟩:=D;obtain⟨alT,hs⟩: ∃z,(AS V alS 2 (q3 4 9)).1=z:=⟨_,rfl⟩;rw[hs] at E12 L12 C12;clear hs;have C12:alT.C=alS.C:=C12;rw[<-C12] at l10 x10 a10 WH g10;clear C12 L11 E11 B11 R11 ahv;have D:=Li.do (V:=V) (id:=5) L12 (.inr rfl) rfl rfl (ae6 (n:=1) (by omega) (by omega) (by omega) (by omega)) (by decide) (arz (n:=1) (id:=5) L12.g) rfl rfl rfl;refine uJ λGP f13=>az.ex Ab.s ⟨rfl,yD (x:=q2 1 5) (p:=none) (c:=0) (E12.on f13) (by omega) (by decide) (by decide) Row.nil (bh _) (B12.on f13) λDv X14 b14 _ _ E14 B14 _ apm=> ?_⟩
 have R14:=(R12.on f13).step apm;rw[D.1] at B14;obtain⟨_,L14,C14⟩:=D;obtain⟨abj,hs⟩: ∃z,(AS V alT 2 (q2 1 5)).1=z:=⟨_,rfl⟩;rw[hs] at E14 L14 C14;clear hs;have C14:abj.C=alT.C:=C14;rw[<-C14] at l10 x10 a10 WH g10;clear C14 L12 E12 B12 R12 apm;have hp:gJ.C4 abj r=0:=by unfold gJ.C4;rw[dL,L14.n,dL]
 refine AN E14 (by omega) r hp λGY X15 e15 E15 alU=>⟨_,rfl,?_⟩
 have R15:=R14.step alU;have B15:=B14.step alU;obtain⟨l15,x15,a15,Mq,g15⟩:=apk E14.G.c.ok E14.H.ord l10 (show r<5000 by omega);have L15:Li (gJ.NI abj r) 5 r:=⟨L14.a,L14.g,rfl⟩;have C15:(gJ.NI abj r).C=hU.oH abj.C (r:Int):=rfl;generalize gJ.NI abj r=alV at E15 L15 C15;rw[<-C15] at l15 x15 a15 Mq g15;rw[x10] at x15;rw[a10] at a15;rw[WH] at Mq;rw[g10] at g15;clear C15 L14 E14 B14 R14 alU hp l10 x10 a10 WH g10;by_cases c:n<=r
 ·rw[ag c] at l15;have D:=Li.do (V:=V) (id:=6) L15 (.inl rfl) rfl rfl (Hk (.inl rfl) (by omega) (by omega)) (by decide) (ahG (id:=6) (e:=14) (by rw[l15,QB];exact ag (.inl rfl)) (by decide)) rfl rfl rfl;refine yD (x:=q3 6 8) (p:=none) (c:=0) E15 (by omega) (by decide) (by decide) Row.nil (bh _) B15 λvY X16 b16 _ _ E16 ZS _ ahJ=> ?_
  rw[D.1] at ZS;obtain⟨_,L16,C16⟩:=D;obtain⟨abk,hs⟩: ∃z,(AS V alV 1 (q3 6 8)).1=z:=⟨_,rfl⟩;rw[hs] at E16 L16 C16;clear hs;have C16:abk.C=alV.C:=C16;rw[<-C16] at l15 x15 a15 Mq g15;clear C16 L15 E15 B15 R15 ahJ;have D:=Li.do (V:=V) (id:=7) L16 (.inl rfl) rfl rfl (Hk (.inl rfl) (by omega) (by omega)) (by decide) (ahG (id:=7) (e:=14) (by rw[l15,QB];exact ag (.inl rfl)) (by decide)) rfl rfl rfl;refine yD (x:=q3 7 8) (p:=none) (c:=0) E16 (by omega) (by decide) (by decide) Row.nil (bh _) ZS λQq X17 b17 _ _ Oy B17 _ ahK=> ?_
  rw[D.1] at B17;obtain⟨_,L17,C17⟩:=D;obtain⟨alW,hs⟩: ∃z,(AS V abk 1 (q3 7 8)).1=z:=⟨_,rfl⟩;rw[hs] at Oy L17 C17;clear hs;have C17:alW.C=abk.C:=C17;rw[<-C17] at l15 x15 a15 Mq g15;clear C17 L16 E16 ZS ahK;have ln:=ahH Oy.G.c.ok Oy.H.ord (.inr ⟨data,l15⟩);obtain⟨Z,hz,_⟩:=Oy.H.use 2;refine aB.2 ⟨_,af Oy.H.dE rfl,hU.Nz hz (Oy.G.small Oy.H.ord (by omega)) λGl f18=>⟨_,_,_,_,_,_,rfl,gE.new λb19 h19 arD IY f19=> ?_⟩⟩;rw[x15,l15,ln,a15,Mq,g15] at IY;have IY:gE.at h19 b19 1 1 0 0 0 0:=IY;rw[jy];refine LK U mx (Oy.u.fr.tt (f18.tt f19)) λQo f20=>⟨_,rfl,?_⟩
  rw[ag rfl];have F:=f18.tt (f19.tt f20);have B:=B17.on F;refine⟨_,af (B.nth 6 rfl) rfl,?_⟩;rw[ag (by rfl)];refine⟨_,af (B.nth 5 rfl) rfl,?_⟩;rw[ag (by rfl)];refine⟨_,af (B.nth 4 rfl) rfl,?_⟩;rw[ag (by rfl)];refine⟨_,af (B.nth 3 rfl) rfl,?_⟩;rw[ag (by rfl)];refine⟨_,af (B.nth 2 rfl) rfl,?_⟩;rw[ag (by rfl)];refine⟨_,af (B.nth 1 rfl) rfl,?_⟩;rw[ag (by rfl)];refine⟨_,af (B.nth 0 rfl) rfl,?_⟩;rw[ag (by rfl)];exact gE.ld (f20.get IY id) ⟨_,eqC 1 1 0 0 0 0,hk Qo (Oy.u.fr.tt F)⟩
 ·rw[ai c] at l15;obtain⟨o,ho,oe,oA,oG,on,oC⟩:=do8 (V:=V) (id:=6) l15;have D:=Li.do (V:=V) (id:=6) L15 (.inl rfl) rfl rfl (Hk (.inl rfl) (by omega) (by omega)) (by decide) ho oA oG on;refine yD (x:=q3 6 8) (p:=none) (c:=0) E15 (by omega) (by decide) (by decide) Row.nil (bh _) B15 λvY X16 b16 _ _ E16 ZS _ ahJ=> ?_
  have R16:=R15.step ahJ;have eo:vB 6 o=⟨6,0,o.num,o.KD,0,o.d⟩:=ag oe;rw[D.1,eo] at ZS;obtain⟨_,L16,C16⟩:=D;obtain⟨abk,hs⟩: ∃z,(AS V alV 1 (q3 6 8)).1=z:=⟨_,rfl⟩;rw[hs] at E16 L16 C16;clear hs;rw[oC] at C16;obtain⟨l16,a16,x16,o16,g16⟩:=arB l15;rw[<-C16] at l16 a16 x16 o16 g16;rw[x15] at x16;rw[a15] at a16;rw[Mq] at o16;rw[g15] at g16;clear C16 L15 E15 B15 R15 ahJ l15 x15 a15 Mq g15 oA oG on oC ho;have D:=Li.do (V:=V) (id:=7) L16 (.inl rfl) rfl rfl (Hk (.inl rfl) (by omega) (by omega)) (by decide) (ahG (id:=7) (e:=4) (by rw[l16];rfl) (by decide)) rfl rfl rfl;refine yD (x:=q3 7 8) (p:=none) (c:=0) E16 (by omega) (by decide) (by decide) Row.nil (bh _) ZS λQq X17 b17 _ _ Oy B17 _ ahK=> ?_
  have R17:=R16.step ahK;rw[D.1] at B17;obtain⟨_,L17,C17⟩:=D;obtain⟨alW,hs⟩: ∃z,(AS V abk 1 (q3 7 8)).1=z:=⟨_,rfl⟩;rw[hs] at Oy L17 C17;clear hs;have C17:alW.C=abk.C:=C17;rw[<-C17] at l16 x16 a16 o16 g16;clear C17 L16 E16 ZS ahK;have ln:=ahH Oy.G.c.ok Oy.H.ord (.inl l16);obtain⟨Z,hz,_⟩:=Oy.H.use 2;refine aB.2 ⟨_,af Oy.H.dE rfl,hU.Nz hz (Oy.G.small Oy.H.ord (by omega)) λGl f18=>⟨_,_,_,_,_,_,rfl,gE.new λb19 h19 arD IY f19=> ?_⟩⟩;rw[x16,l16,ln,a16,o16,g16] at IY;have IY:gE.at h19 b19 1 0 0 1 0 0:=IY;rw[dL];refine LK U mx (Oy.u.fr.tt (f18.tt f19)) λQo f20=>⟨_,rfl,?_⟩
  rw[ag rfl];have F:=f18.tt (f19.tt f20);have B:=B17.on F;refine⟨_,af (B.nth 6 rfl) rfl,?_⟩;rw[ag (by rfl)];refine⟨_,af (B.nth 5 rfl) rfl,?_⟩;rw[ag (by rfl)];refine⟨_,_,_,af (B.nth 5 rfl) rfl,_,vf.conv (R17.on F).1 rfl,_,vf.conv (row.frame (Oy.u.fr.tt F) (λ_ _=>id)) rfl,?_⟩;rw[ag (by show((str data).toList==(str data).toList)=true;simp)];refine⟨_,af (B.nth 4 rfl) rfl,?_⟩;rw[ag (by rfl)];refine⟨_,af (B.nth 3 rfl) rfl,?_⟩;rw[ag (by rfl)];refine⟨_,af (B.nth 2 rfl) rfl,?_⟩;rw[ag (by rfl)];refine⟨_,af (B.nth 1 rfl) rfl,?_⟩;rw[ag (by rfl)];refine⟨_,af (B.nth 0 rfl) rfl,?_⟩;rw[ag (by rfl)];exact gE.ld (f20.get IY id) ⟨_,eqC 1 0 0 1 0 0,hk Qo (Oy.u.fr.tt F)⟩
end Ask
end
theorem Mz {H:Type} {enc:TypeId×Value->H} {C:Checked} {os:Os} {f:FuncId} {fn:Func} {s:ChangeSpec} {conds:List PathCond} {apart fresh handsOn again:Bool} {a:Assume} {X:World->Array Value->Prop}
  (hX: ∀(w w':World) (args:Array Value),w.heap=w'.heap->X w args->X w' args) (own:ownKnob C.prog.godebug=none) (started:os.Started) (alX:C.prog.inits.idxOf? f=none) (hfn:C.prog.funcs[f]? =some fn)
  (witness: ∃(w:World) (tape:Tape) (i:Input),w.os=os/\(w.forCall tape i).Shaped C.prog/\i.vars= []/\Input.okWide C.prog (w.forCall tape i) .any w.heap.size f i/\
   ((s.pre enc C.prog fn conds apart (w.forCall tape i).memory i.args/\X (w.forCall tape i).memory i.args)/\sizedMet enc C.prog fn (OpenSpec.ofChange s) apart (w.forCall tape i).memory i.args)/\a.holds C.prog (lone (Frame.enter C.prog f i.args .normal) [] (w.forCall tape i)))
  (con: ∀(W:World) (base:Nat) (args:Array Value) (ds gs:List (DataW H)) (before:List MemPlace),W.ShapedOpen C.prog->(∀(j:Nat) t v,fn.params[j]? =some t->args[j]? =some v->Value.okWide C.prog W .any base t v)->
   DataW.Whole enc C.prog fn.params.toList s.vars apart W args.toList ds gs before->X W args->Calls C.prog f args W λe W'=> ∃v,e=.returned v/\s.post enc C.prog fn apart fresh handsOn again W args v W'):
  ReturnsInHanded a C os f .any (λw args=>(s.pre enc C.prog fn conds apart w args/\X w args)/\sizedMet enc C.prog fn (OpenSpec.ofChange s) apart w args) (s.post enc C.prog fn apart fresh handsOn again):=
 returnsInHanded_of_calls own started alX witness λw tape i _ sh _ ok pre _=>by
  obtain⟨_,_,_,g,hg,_,_,_,_,val⟩:=ok;cases bz (hg.symm.trans hfn);obtain⟨⟨⟨ds,gs,before,hw,_⟩,hx⟩,_⟩:=pre;refine(con (w.forCall tape i) w.heap.size i.args ds gs before sh val (DataW.Whole.of_heap (w':=w.forCall tape i) (by rfl) hw) (hX _ _ _ (by rfl) hx)).mono λe W' hp=> ?_
  obtain⟨v,rfl,hp⟩:=hp;exact ChangeSpec.post_blind hp
theorem Gi.Mx.abl {W:World} (h:W.ShapedOpen Tryz.prog):Gi.Mx W.heap:=by
 obtain⟨m,hm⟩:=cell_of_shapedOpen_int (g:=5) (t:=T.int) (zero:= #[.I 0]) (k:=.i64) h (of_decide_eq_true (by kernel_rfl)) (by kernel_rfl) rfl (by kernel_rfl) (by kernel_rfl) (by kernel_rfl);rw[uD] at hm;exact⟨m,hm⟩
section
variable {h:aj} {R:iI}
theorem dC.walk {oB:bU} {mF qJ:Nat} (hv:Bd 0 mF/\aP oB λa=>V1 h (a.add (toNat 0*1)) λt27=>Bd 1 mF/\aP oB λku=>V1 h (ku.add (toNat 1*1)) λt31=>Bd 2 mF/\aP oB λpE=>V1 h (pE.add (toNat 2*1)) λt37=>Bd 3 mF/\aP oB λrY=>V1 h (rY.add (toNat 3*1)) λt43=>Bd 4 mF/\aP oB λvS=>V1 h (vS.add (toNat 4*1)) λt49=>Bd 5 mF/\aP oB λBJ=>V1 h (BJ.add (toNat 5*1)) λt55=>Bd 6 mF/\aP oB λKn=>V1 h (Kn.add (toNat 6*1)) λt61=>Bd 7 mF/\aP oB λRL=> ∃t67,ak h (RL.add (toNat 7*1))=some (.int .u8 t67)/\R (.U (wrap .u64 ((BitVec.ofInt (IntKind.bits .u64) (wrap .u64 ((BitVec.ofInt (IntKind.bits .u64) (wrap .u64 ((BitVec.ofInt (IntKind.bits .u64) (wrap .u64 ((BitVec.ofInt (IntKind.bits .u64) (wrap .u64 ((BitVec.ofInt (IntKind.bits .u64) (wrap .u64 ((BitVec.ofInt (IntKind.bits .u64) (wrap .u64 ((BitVec.ofInt (IntKind.bits .u64) (wrap .u64 t27)|||BitVec.ofInt (IntKind.bits .u64) (wrap .u64 ((wrap .u64 t31)*2 ^ min (toNat 8) (IntKind.bits .u64)))).toNat:Int))|||BitVec.ofInt (IntKind.bits .u64) (wrap .u64 ((wrap .u64 t37)*2 ^ min (toNat 16) (IntKind.bits .u64)))).toNat:Int))|||BitVec.ofInt (IntKind.bits .u64) (wrap .u64 ((wrap .u64 t43)*2 ^ min (toNat 24) (IntKind.bits .u64)))).toNat:Int))|||BitVec.ofInt (IntKind.bits .u64) (wrap .u64 ((wrap .u64 t49)*2 ^ min (toNat 32) (IntKind.bits .u64)))).toNat:Int))|||BitVec.ofInt (IntKind.bits .u64) (wrap .u64 ((wrap .u64 t55)*2 ^ min (toNat 40) (IntKind.bits .u64)))).toNat:Int))|||BitVec.ofInt (IntKind.bits .u64) (wrap .u64 ((wrap .u64 t61)*2 ^ min (toNat 48) (IntKind.bits .u64)))).toNat:Int))|||BitVec.ofInt (IntKind.bits .u64) (wrap .u64 ((wrap .u64 t67)*2 ^ min (toNat 56) (IntKind.bits .u64)))).toNat:Int))) h):Cl F.dC #[.slice oB mF qJ] h R:=aS (lq (sq (cq (sq (pN 23) lf) lf) (sq (pN 47) lf))) Tryz.func324 hv
theorem jm.walk {p_p:bU} {p_l p_c:Nat} (hv:((0:Int)<=(p_l:Int)/\(p_l:Int)<=(p_c:Int))/\((0:Int)<=(p_l:Int)/\(p_l:Int)<=(p_l:Int))/\∃(I:bU->Nat->Nat->aj->Prop) (mu:bU->Nat->Nat->aj->Nat),I (cZ p_p (toNat (p_l:Int)) 0 1) (toNat (p_l:Int)) (toNat (p_l:Int)) h/\∀(pW:bU) (jS oI:Nat) (aR:aj),I pW jS oI aR->if(decide ((jS:Int)>0)) then aK (λ(ajm:bU) (ajn ajo:Nat) (aZ:aj)=>(I ajm ajn ajo aZ/\mu ajm ajn ajo aZ<mu pW jS oI aR)) (λJ=>Bd 0 jS/\aP pW λa=> ∃t18,ak aR (a.add (toNat 0*1))=some (.int .u8 t18)/\if(decide (t18<128)) then((0:Int)<=1/\1<=(jS:Int))/\aK (λ(t31:Bool) (bJ:aj)=>aK (λ(apn:bU) (apo apq:Nat) (cB:aj)=>J apn apo apq cB) (λBo=>if t31 then((0:Int)<=8/\8<=((jS - (toNat 1):Nat):Int))/\aK (λ(t46:Bool) (cJ:aj)=>aK (λ(apr:bU) (apt apu:Nat) (cQ:aj)=>Bo apr apt apu cQ) (λJ_4=>if t46 then((0:Int)<=16/\16<=(((jS - (toNat 1)) - (toNat 8):Nat):Int))/\∃(Ko:bU->Nat->Nat->aj->Prop) (CC:bU->Nat->Nat->aj->Nat),Ko (cZ (cZ (cZ pW oI (toNat 1) 1) (oI - (toNat 1)) (toNat 8) 1) ((oI - (toNat 1)) - (toNat 8)) (toNat 16) 1) (((jS - (toNat 1)) - (toNat 8)) - (toNat 16)) (((oI - (toNat 1)) - (toNat 8)) - (toNat 16)) cJ/\∀(Ge:bU) (yE yF:Nat) (cW:aj),Ko Ge yE yF cW->aK (λ(t69:Bool) (dA:aj)=>if t69 then((0:Int)<=32/\32<=(yE:Int))/\(Ko (cZ Ge yF (toNat 32) 1) (yE - (toNat 32)) (yF - (toNat 32)) dA/\CC (cZ Ge yF (toNat 32) 1) (yE - (toNat 32)) (yF - (toNat 32)) dA<CC Ge yE yF cW) else J_4 Ge yE yF dA) (λJ_5=>if(decide ((yE:Int)>32)) then((0:Int)<=8/\8<=(yE:Int))/\((0:Int)<=16/\16<=(yE:Int))/\((0:Int)<=24/\24<=(yE:Int))/\Cl F.dC #[.slice Ge yE yF] cW λv fc=>Vu v λt54=>Cl F.dC #[.slice (cZ Ge yF (toNat 8) 1) (yE - (toNat 8)) (yF - (toNat 8))] fc λeJ cP=>Vu eJ λt57=>Cl F.dC #[.slice (cZ Ge yF (toNat 16) 1) (yE - (toNat 16)) (yF - (toNat 16))] cP λgR cV=>Vu gR λt61=>Cl F.dC #[.slice (cZ Ge yF (toNat 24) 1) (yE - (toNat 24)) (yF - (toNat 24))] cV λkU dD=> ∃t64,kU=.U t64/\J_5 ((wrap .u64 ((BitVec.ofInt (IntKind.bits .u64) (wrap .u64 ((BitVec.ofInt (IntKind.bits .u64) (wrap .u64 ((BitVec.ofInt (IntKind.bits .u64) t54|||BitVec.ofInt (IntKind.bits .u64) t57).toNat:Int))|||BitVec.ofInt (IntKind.bits .u64) (wrap .u64 ((BitVec.ofInt (IntKind.bits .u64) t61|||BitVec.ofInt (IntKind.bits .u64) t64).toNat:Int))).toNat:Int)) &&& BitVec.ofInt (IntKind.bits .u64) 9259542123273814144).toNat:Int))==0) dD else J_5 false cW) else J_4 (cZ (cZ pW oI (toNat 1) 1) (oI - (toNat 1)) (toNat 8) 1) ((jS - (toNat 1)) - (toNat 8)) ((oI - (toNat 1)) - (toNat 8)) cJ)) (λGG=>if(decide ((((jS - (toNat 1)) - (toNat 8):Nat):Int)>16)) then((0:Int)<=8/\8<=(((jS - (toNat 1)) - (toNat 8):Nat):Int))/\Cl F.dC #[.slice (cZ (cZ pW oI (toNat 1) 1) (oI - (toNat 1)) (toNat 8) 1) ((jS - (toNat 1)) - (toNat 8)) ((oI - (toNat 1)) - (toNat 8))] bJ λot dF=>Vu ot λt39=>Cl F.dC #[.slice (cZ (cZ (cZ pW oI (toNat 1) 1) (oI - (toNat 1)) (toNat 8) 1) ((oI - (toNat 1)) - (toNat 8)) (toNat 8) 1) (((jS - (toNat 1)) - (toNat 8)) - (toNat 8)) (((oI - (toNat 1)) - (toNat 8)) - (toNat 8))] dF λxu fC=> ∃t42,xu=.U t42/\GG ((wrap .u64 ((BitVec.ofInt (IntKind.bits .u64) (wrap .u64 ((BitVec.ofInt (IntKind.bits .u64) t39|||BitVec.ofInt (IntKind.bits .u64) t42).toNat:Int)) &&& BitVec.ofInt (IntKind.bits .u64) 9259542123273814144).toNat:Int))==0) fC else GG false bJ) else Bo (cZ pW oI (toNat 1) 1) (jS - (toNat 1)) (oI - (toNat 1)) bJ)) (λjo=>if(decide (((jS - (toNat 1):Nat):Int)>8)) then Cl F.dC #[.slice (cZ pW oI (toNat 1) 1) (jS - (toNat 1)) (oI - (toNat 1))] aR λAT gD=> ∃t28,AT=.U t28/\jo ((wrap .u64 ((BitVec.ofInt (IntKind.bits .u64) t28 &&& BitVec.ofInt (IntKind.bits .u64) 9259542123273814144).toNat:Int))==0) gD else jo false aR) else Bd t18 256/\V1 aR (((AA 3 0):Addr).add (toNat t18*1)) λt74=>Bd (Int.fdiv t74 (2 ^ min (toNat 4) (IntKind.bits .u8))) 16/\∃ajp,ak aR (((AA 4 0):Addr).add (toNat (Int.fdiv t74 (2 ^ min (toNat 4) (IntKind.bits .u8)))*2))=some (.int .u8 ajp)/\∃ajq,ak aR ((((AA 4 0):Addr).add (toNat (Int.fdiv t74 (2 ^ min (toNat 4) (IntKind.bits .u8)))*2)).add 1)=some (.int .u8 ajq)/\aV aR (.cells #[.int .u8 0,.int .u8 0] T.gB) λb gX=>aH gX (AA b 0) (.int .u8 ajp) λgQ=>aH gQ (AA b 1) (.int .u8 ajq) λfh=>aK (λ(apv:bU) (apw apx:Nat) (jn:aj)=>J apv apw apx jn) (λJ_6=>aK (λ(apy:bU) (apz apA:Nat) (ju:aj)=>J_6 apy apz apA ju) (λJ_7=>if((wrap .i64 (wrap .u8 ((BitVec.ofInt (IntKind.bits .u8) t74 &&& BitVec.ofInt (IntKind.bits .u8) 7).toNat:Int)))==2) then aK (λ(t103:Bool) (sK:aj)=>if t103 then R (.bool false) sK else((0:Int)<=2/\2<=(jS:Int))/\J_7 (cZ pW oI (toNat 2) 1) (jS - (toNat 2)) (oI - (toNat 2)) sK) (λJ_8=>if(decide ((jS:Int)<2)) then J_8 true fh else Bd 1 jS/\aP pW λku=>V1 fh (ku.add (toNat 1*1)) λt91=> ∃t93,ak fh (AA b 0)=some (.int .u8 t93)/\if(decide (t91<t93)) then J_8 true fh else Hy fh b 1 λt98=>Bd 1 jS/\aP pW λpE=> ∃t101,ak fh (pE.add (toNat 1*1))=some (.int .u8 t101)/\J_8 (decide (t98<t101)) fh) else aK (λ(apB:bU) (apC apD:Nat) (rL:aj)=>J_7 apB apC apD rL) (λJ_9=>if((wrap .i64 (wrap .u8 ((BitVec.ofInt (IntKind.bits .u8) t74 &&& BitVec.ofInt (IntKind.bits .u8) 7).toNat:Int)))==3) then aK (λ(t138:Bool) (qK:aj)=>if t138 then R (.bool false) qK else((0:Int)<=3/\3<=(jS:Int))/\J_9 (cZ pW oI (toNat 3) 1) (jS - (toNat 3)) (oI - (toNat 3)) qK) (λTl=>if(decide ((jS:Int)<3)) then Tl true fh else Bd 1 jS/\aP pW λrY=>V1 fh (rY.add (toNat 1*1)) λt114=> ∃t116,ak fh (AA b 0)=some (.int .u8 t116)/\if(decide (t114<t116)) then Tl true fh else Hy fh b 1 λt121=>Bd 1 jS/\aP pW λvS=> ∃t124,ak fh (vS.add (toNat 1*1))=some (.int .u8 t124)/\if(decide (t121<t124)) then Tl true fh else Bd 2 jS/\aP pW λBJ=> ∃t130,ak fh (BJ.add (toNat 2*1))=some (.int .u8 t130)/\if(decide (t130<128)) then Tl true fh else Bd 2 jS/\aP pW λKn=> ∃t136,ak fh (Kn.add (toNat 2*1))=some (.int .u8 t136)/\Tl (decide (191<t136)) fh) else if((wrap .i64 (wrap .u8 ((BitVec.ofInt (IntKind.bits .u8) t74 &&& BitVec.ofInt (IntKind.bits .u8) 7).toNat:Int)))==4) then aK (λ(t185:Bool) (vh:aj)=>if t185 then R (.bool false) vh else((0:Int)<=4/\4<=(jS:Int))/\J_9 (cZ pW oI (toNat 4) 1) (jS - (toNat 4)) (oI - (toNat 4)) vh) (λMw=>if(decide ((jS:Int)<4)) then Mw true fh else Bd 1 jS/\aP pW λRL=>V1 fh (RL.add (toNat 1*1)) λt149=> ∃t151,ak fh (AA b 0)=some (.int .u8 t151)/\if(decide (t149<t151)) then Mw true fh else Hy fh b 1 λt156=>Bd 1 jS/\aP pW λa_8=> ∃t159,ak fh (a_8.add (toNat 1*1))=some (.int .u8 t159)/\if(decide (t156<t159)) then Mw true fh else Bd 2 jS/\aP pW λa_9=> ∃t165,ak fh (a_9.add (toNat 2*1))=some (.int .u8 t165)/\if(decide (t165<128)) then Mw true fh else Bd 2 jS/\aP pW λQl=> ∃t171,ak fh (Ql.add (toNat 2*1))=some (.int .u8 t171)/\if(decide (191<t171)) then Mw true fh else Bd 3 jS/\aP pW λarE=> ∃t177,ak fh (arE.add (toNat 3*1))=some (.int .u8 t177)/\if(decide (t177<128)) then Mw true fh else Bd 3 jS/\aP pW λarF=> ∃t183,ak fh (arF.add (toNat 3*1))=some (.int .u8 t183)/\Mw (decide (191<t183)) fh) else R (.bool false) fh)))) else R (.bool true) aR):Cl F.jm #[.slice p_p p_l p_c] h R:=aS (lq (lq (sq (bq (.loop [(0,.one (.slice))] (sq (lq (cq lf lf)) (.join [(0,.one (.slice))] (bq (lq (sq (lq (cq (lq (sq (sq (.join [(31,.one (.bool))] lf) (.join [(0,.one (.slice))] (cq (lq (sq (.join [(46,.one (.bool))] (.mB (.op 0 (.op 1 (.op 2 (.op 3 (.op 4 (.op 6 (.op 7 (.op 5 (.op 8 (.op 9 (.op 10 (.op 11 (.op 12 .done))))))))))))))) (.join [(0,.one (.slice))] (cq (lq (bq (.loop [(0,.one (.slice))] (sq (sq (.join [(69,.one (.bool))] (.mB (.op 0 (.op 1 (.op 2 (.op 3 (.op 4 (.op 6 (.op 7 (.op 10 (.op 11 (.op 13 (.op 14 (.op 5 (.op 8 (.op 9 (.op 12 (.op 15 (.op 16 (.op 17 (.op 18 (.op 19 (.op 20 .done))))))))))))))))))))))) (cq lf lf)) (bq lf))))) lf)))) lf))) lf)) lf)) (lq (lq (lq (lq (.join [(0,.one (.slice))] (bq (lq (.join [(0,.one (.slice))] (cq (sq (sq (.join [(103,.one (.bool))] (pN 19)) (cq ll lf)) lf) (lq (.join [(0,.one (.slice))] (cq (sq (sq (.join [(138,.one (.bool))] (pN 31)) (cq ll lf)) lf) (lq (cq (sq (sq (.join [(185,.one (.bool))] (pN 43)) (cq ll lf)) lf) ll))))))))))))))))))))) ll))) Tryz.func316 hv
end
section
namespace Cb
variable {h h0 h' g:aj} {R:iI} {p:bU} {l c:Nat} {b bs:List UInt8} {FT A0 A1:Nat→Int}
def bI (b:List UInt8) (i:Nat):Int:=((b.getD i 0).toNat:Int)
def arG (a0 a1 a2 a3 a4 a5 a6 a7:Int):Int:=(IntKind.wrap .u64 ((BitVec.ofInt (IntKind.bits .u64) (IntKind.wrap .u64 ((BitVec.ofInt (IntKind.bits .u64) (IntKind.wrap .u64 ((BitVec.ofInt (IntKind.bits .u64) (IntKind.wrap .u64 ((BitVec.ofInt (IntKind.bits .u64) (IntKind.wrap .u64 ((BitVec.ofInt (IntKind.bits .u64) (IntKind.wrap .u64 ((BitVec.ofInt (IntKind.bits .u64) (IntKind.wrap .u64 ((BitVec.ofInt (IntKind.bits .u64) (IntKind.wrap .u64 a0)|||BitVec.ofInt (IntKind.bits .u64) (IntKind.wrap .u64 ((IntKind.wrap .u64 a1)*2 ^ min (Int.toNat 8) (IntKind.bits .u64)))).toNat:Int))|||BitVec.ofInt (IntKind.bits .u64) (IntKind.wrap .u64 ((IntKind.wrap .u64 a2)*2 ^ min (Int.toNat 16) (IntKind.bits .u64)))).toNat:Int))|||BitVec.ofInt (IntKind.bits .u64) (IntKind.wrap .u64 ((IntKind.wrap .u64 a3)*2 ^ min (Int.toNat 24) (IntKind.bits .u64)))).toNat:Int))|||BitVec.ofInt (IntKind.bits .u64) (IntKind.wrap .u64 ((IntKind.wrap .u64 a4)*2 ^ min (Int.toNat 32) (IntKind.bits .u64)))).toNat:Int))|||BitVec.ofInt (IntKind.bits .u64) (IntKind.wrap .u64 ((IntKind.wrap .u64 a5)*2 ^ min (Int.toNat 40) (IntKind.bits .u64)))).toNat:Int))|||BitVec.ofInt (IntKind.bits .u64) (IntKind.wrap .u64 ((IntKind.wrap .u64 a6)*2 ^ min (Int.toNat 48) (IntKind.bits .u64)))).toNat:Int))|||BitVec.ofInt (IntKind.bits .u64) (IntKind.wrap .u64 ((IntKind.wrap .u64 a7)*2 ^ min (Int.toNat 56) (IntKind.bits .u64)))).toNat:Int))
def Ir (b:List UInt8):Int:=arG (bI b 0) (bI b 1) (bI b 2) (bI b 3) (bI b 4) (bI b 5) (bI b 6) (bI b 7)
def hiI (n:Int):Bool:=(IntKind.wrap .u64 ((BitVec.ofInt (IntKind.bits .u64) n &&& BitVec.ofInt (IntKind.bits .u64) 9259542123273814144).toNat:Int))==0
def orI (a b:Int):Int:=IntKind.wrap .u64 ((BitVec.ofInt (IntKind.bits .u64) a|||BitVec.ofInt (IntKind.bits .u64) b).toNat:Int)
def LL (b:List UInt8):Bool:=decide (b.length>32) && hiI (orI (orI (Ir b) (Ir (b.drop 8))) (orI (Ir (b.drop 16)) (Ir (b.drop 24))))
def Oz (b:List UInt8):Bool:=decide (b.length>16) && hiI (orI (Ir b) (Ir (b.drop 8)))
def abm (b:List UInt8):Bool:=decide (b.length>8) && hiI (Ir b)
def Gf:Nat->List UInt8->List UInt8
 |0,b=>b
 |f+1,b=>if LL b=true then Gf f (b.drop 32) else b
def TD (b:List UInt8):List UInt8:=if abm b=true then(if Oz (b.drop 8)=true then Gf (b.length+1) ((b.drop 8).drop 16) else b.drop 8) else b
def BA (x:Int):Int:=IntKind.wrap .i64 (IntKind.wrap .u8 ((BitVec.ofInt (IntKind.bits .u8) x &&& BitVec.ofInt (IntKind.bits .u8) 7).toNat:Int))
def I0 (x:Int):Int:=Int.fdiv x (2 ^ min (Int.toNat 4) (IntKind.bits .u8))
def Ac (n:Nat) (lo hi:Int) (b:List UInt8):Bool:=decide (b.length<n)||(decide (bI b 1<lo)||decide (hi<bI b 1))
def BC (b:List UInt8) (i:Nat):Bool:=decide (bI b i<128)||decide (191<bI b i)
def Is (FT A0 A1:Nat->Int) (b:List UInt8):Option (List UInt8):=
 if bI b 0<128 then some (TD (b.drop 1))
 else if BA (FT (bI b 0).toNat)=2 then(if Ac 2 (A0 (I0 (FT (bI b 0).toNat)).toNat) (A1 (I0 (FT (bI b 0).toNat)).toNat) b=true then none else some (b.drop 2))
 else if BA (FT (bI b 0).toNat)=3 then(if(Ac 3 (A0 (I0 (FT (bI b 0).toNat)).toNat) (A1 (I0 (FT (bI b 0).toNat)).toNat) b||BC b 2)=true then none else some (b.drop 3))
 else if BA (FT (bI b 0).toNat)=4 then(if(Ac 4 (A0 (I0 (FT (bI b 0).toNat)).toNat) (A1 (I0 (FT (bI b 0).toNat)).toNat) b||(BC b 2||BC b 3))=true then none else some (b.drop 4))
 else none
def ZT (nx:List UInt8->Option (List UInt8)):Nat->List UInt8->Bool
 |0,_=>true
 |f+1,b=>if b.length=0 then true else match nx b with|none=>false|some r=>ZT nx f r
theorem ahL (nx:List UInt8->Option (List UInt8)) (f:Nat):ZT nx (f+1) b=if b.length=0 then true else match nx b with|none=>false|some r=>ZT nx f r:=rfl
def EM (FT A0 A1:Nat->Int) (f:Nat) (b:List UInt8):Bool:=ZT (Is FT A0 A1) f b
theorem ahM (f:Nat):Gf (f+1) b=if LL b=true then Gf f (b.drop 32) else b:=rfl
theorem TE (f:Nat):EM FT A0 A1 (f+1) b=if b.length=0 then true else match Is FT A0 A1 b with|none=>false|some r=>EM FT A0 A1 f r:=by unfold EM;exact ahL _ _
theorem OA: ∀(f:Nat) (b:List UInt8),(Gf f b).length<=b.length
 |0,b=>bh _
 |f+1,b=>by
  unfold Gf;split
  ·exact dv (OA f _) (by rw[cf];omega)
  ·exact bh _
theorem afa (b:List UInt8):(TD b).length<=b.length:=by
 unfold TD;split
 ·split
  ·exact dv (OA _ _) (by rw[cf,cf];omega)
  ·rw[cf];omega
 ·exact bh _
theorem abn {r:List UInt8} (hb:b.length≠0) (hn:Is FT A0 A1 b=some r):r.length<b.length:=by
 have d: ∀k,1<=k->(b.drop k).length<b.length:=λk hk=>by rw[cf];omega
 unfold Is at hn
 repeat' split at hn
 all_goals first|(cases hn;done)|(cases hn;first|exact d _ (by decide)|exact Nat.lt_of_le_of_lt (afa _) (d 1 (by decide)))
structure QC (h:aj) (FT A0 A1:Nat->Int):Prop where
 f: ∀i,i<256->ak h ⟨3,i,none⟩=some (.int .u8 (FT i))/\0<=FT i/\FT i<256
 a: ∀i,i<16->ak h ⟨4,i*2,none⟩=some (.int .u8 (A0 i))/\ak h ⟨4,i*2+1,none⟩=some (.int .u8 (A1 i))
theorem QC.on (UT:QC h FT A0 A1) (f:Fr No h h'):QC h' FT A0 A1:=⟨λi hi=>⟨f.cell (UT.f i hi).1 id,(UT.f i hi).2⟩,λi hi=>⟨f.cell (UT.a i hi).1 id,f.cell (UT.a i hi).2 id⟩⟩
structure Sl (h:aj) (p:bU) (l c:Nat) (b:List UInt8):Prop where
 row:Row h p (bc b)
 len:l=b.length
 cap:l<=c
theorem Sl.drop (S:Sl h p l c b) {k:Nat} (hk:k<=b.length):Sl h (cZ p c k 1) (l - k) (c - k) (b.drop k):=by
 have hl:=S.len;have hc:=S.cap;refine⟨?_,by rw[cf];omega,by omega⟩;have:=S.row.sub (cap:=c) (l:=k) (u:=b.length) (sz:=1) hk (by omega);rw[cN,cN] at this;unfold bc at this⊢;rw[bR (by rw[aN];omega)] at this;rw[List.map_drop];exact this
theorem Sl.on (S:Sl h p l c b) (f:Fr No h h'):Sl h' p l c b:=⟨S.row.frame f (λ_ _=>id),S.len,S.cap⟩
theorem Sl.at {i:Nat} (S:Sl h p l c b) (hi:i<b.length): ∃a,p=some a/\ak h (a.add (i*1))=some (.int .u8 (bI b i)):=by
 obtain⟨a,ea,ha⟩:=byte_at S.row hi;refine⟨a,ea,?_⟩;unfold bI;rw[ba,au hi];exact ha
theorem apF (b:List UInt8) (i:Nat):0<=bI b i/\bI b i<256:=by
 unfold bI;have:=(b.getD i 0).toNat_lt;omega
theorem alY {x:Int} (h0:0<=x) (h1:x<256):0<=I0 x/\I0 x<16:=by
 have e:I0 x=x/16:=Int.fdiv_eq_ediv_of_nonneg x (by decide);rw[e];omega
theorem abo {c:Prop} [Decidable c] {A B:Prop} (hc:c) (ha:A):if c then A else B:=by rw[ag hc];exact ha
theorem abp {c:Prop} [Decidable c] {A B:Prop} (hc: ¬c) (hb:B):if c then A else B:=by rw[ai hc];exact hb
theorem A4 (S:Sl h p l c b) (h8:8<=b.length) (hk:R (.U (Ir b)) h):Cl F.dC #[.slice p l c] h R:=by
 have hl:=S.len;obtain⟨a,rfl,c0⟩:=S.at (i:=0) (by omega);have cc: ∀i,i<b.length->ak h (a.add (i*1))=some (.int .u8 (bI b i)):=λi hi=>by
  obtain⟨a',e,c⟩:=S.at (i:=i) hi;cases e;exact c
 refine dC.walk ?_;refine⟨⟨by omega,by omega⟩,aB.2 ⟨_,cc 0 (by omega),⟨by omega,by omega⟩,aB.2 ⟨_,cc 1 (by omega),⟨by omega,by omega⟩,aB.2 ⟨_,cc 2 (by omega),⟨by omega,by omega⟩,aB.2 ⟨_,cc 3 (by omega),⟨by omega,by omega⟩,aB.2 ⟨_,cc 4 (by omega),⟨by omega,by omega⟩,aB.2 ⟨_,cc 5 (by omega),⟨by omega,by omega⟩,aB.2 ⟨_,cc 6 (by omega),⟨by omega,by omega⟩,aB.2 ⟨_,cc 7 (by omega),?_⟩⟩⟩⟩⟩⟩⟩⟩⟩;exact hk
theorem afb {vv:Bool} (hV:EM FT A0 A1 (bs.length+1) bs=vv) (UT:QC h FT A0 A1) (row:Row h p (bc bs)) (hl:bs.length<=1000000) (cap:bs.length<=c) (hk: ∀g,Fr No h g->R (.bool vv) g):Cl F.jm #[.slice p bs.length c] h R:=by
 refine jm.walk ⟨⟨by omega,by omega⟩,⟨by omega,by omega⟩,λp l c g=>Fr No h g/\∃b f,Sl g p l c b/\b.length<f/\b.length<=1000000/\EM FT A0 A1 f b=vv,λ_ l _ _=>l,⟨Fr.refl _ _,bs,bs.length+1,⟨by rw[sw];exact row,aL _,bh _⟩,Nat.lt_succ_self _,hl,hV⟩,?_⟩;clear hV;rintro p l c g ⟨fg,b,f,S,hf,hb,eV⟩;have hlen:=S.len;by_cases c0:b.length=0
 case pos=>
  rw[dL];have:EM FT A0 A1 f b=true:=by
   cases f with
   |zero=>rfl
   |succ f=>rw[TE,ag c0]
  rw[eV.symm.trans this] at hk;exact hk g fg
 rw[ag (by simp only[bf];omega)];refine aK.of λJ hJ=> ?_
 obtain⟨f,rfl⟩: ∃f',f=f'+1:=⟨f - 1,by omega⟩;rw[TE,ai c0] at eV;have cont: ∀(g':aj) (p':bU) (l' c':Nat) (b':List UInt8),Fr No g g'->Sl g' p' l' c' b'->Is FT A0 A1 b=some b'->J p' l' c' g':=by
  intro g' p' l' c' b' f' S' hn;subst hJ;have jc:=abn c0 hn;rw[hn] at eV;exact⟨⟨fg.tt f',b',f,S',by omega,by omega,eV⟩,by have:=S'.len;show l'<l;omega⟩
 have stop: ∀g',Fr No g g'->Is FT A0 A1 b=none->R (.bool false) g':=by
  intro g' f' hn;rw[hn] at eV;rw[<-eV] at hk;exact hk g' (fg.tt f')
 clear hJ eV hk;obtain⟨a,rfl,ca⟩:=S.at (i:=0) (by omega);have n0:=apF b 0;refine⟨⟨by omega,by omega⟩,aB.2 ⟨_,ca,?_⟩⟩;by_cases c1:bI b 0<128
 ·have eN:Is FT A0 A1 b=some (TD (b.drop 1)):=ag c1;rw[eN] at cont;clear stop eN;rw[ag (ay c1)];refine⟨⟨by omega,by omega⟩,aK.of λJ1 pA=> ?_⟩;have S1:=S.drop (k:=1) (by omega);generalize hr:b.drop 1=r at cont S1;have alP: ∀v,v=abm r->J1 v g:=by
   intro v hv;subst pA;refine aK.of λJ2 zX=> ?_
   cases ho:abm r with
   |false=>
    rw[hv,ho,dL];subst zX;exact cont g _ _ _ _ (Fr.refl _ _) S1 (by unfold TD;rw[ho];rfl)
   |true=>
   rw[hv,ho,ag rfl];have l8:r.length>8:=by unfold abm at ho;simp only[aW,bf] at ho;exact ho.1
   have S2:=S1.drop (k:=8) (by omega);have hl1:=S1.len;refine⟨⟨by omega,by show(8:Int)<=((l - 1:Nat):Int);omega⟩,aK.of λJ3 SO=> ?_⟩;have Tm: ∀v,v=Oz (r.drop 8)->J3 v g:=by
    intro v hv;subst SO;refine aK.of λJ4 Yw=> ?_
    cases ht:Oz (r.drop 8) with
    |false=>
     rw[hv,ht,dL];subst Yw;subst zX;exact cont g _ _ _ _ (Fr.refl _ _) S2 (by unfold TD;rw[ho,ag rfl,ht];rfl)
    |true=>
    rw[hv,ht,ag rfl];have l16:(r.drop 8).length>16:=by unfold Oz at ht;simp only[aW,bf] at ht;exact ht.1
    have S3:=S2.drop (k:=16) (by omega);have hl2:=S2.len;have eF:TD r=Gf (r.length+1) ((r.drop 8).drop 16):=by unfold TD;rw[ho,ag rfl,ht,ag rfl]
    rw[eF] at cont;refine⟨⟨by omega,by show(16:Int)<=((l - 1 - 8:Nat):Int);omega⟩,λp l c g'=>g'=g/\∃b' f',Sl g p l c b'/\b'.length<f'/\Gf f' b'=Gf (r.length+1) ((r.drop 8).drop 16),λ_ l _ _=>l,⟨rfl,_,_,S3,by rw[cf,cf];omega,rfl⟩,?_⟩;rintro p5 l5 c5 g' ⟨rfl,b5,f5,S5,hf5,e5⟩;have hl5:=S5.len;obtain⟨f5,rfl⟩: ∃f',f5=f'+1:=⟨f5 - 1,by omega⟩;rw[ahM] at e5;refine aK.of λJ5 hJ5=> ?_
    have apG: ∀v,v=LL b5->J5 v g':=by
     intro v hv;subst hJ5;dsimp only;cases h4:LL b5 with
     |false=>
      rw[hv,h4,dL];rw[h4,dL] at e5;subst Yw;subst zX;exact cont g' _ _ _ _ (Fr.refl _ _) S5 (by rw[e5])
     |true=>
      rw[hv,h4,ag rfl];rw[h4,ag rfl] at e5;have l32:b5.length>32:=by unfold LL at h4;simp only[aW,bf] at h4;exact h4.1
      exact⟨⟨by omega,by omega⟩,⟨rfl,_,f5,S5.drop (k:=32) (by omega),by rw[cf];omega,e5⟩,by show l5 - 32<l5;omega⟩
    by_cases q:b5.length>32
    ·rw[jy];refine⟨⟨by omega,by omega⟩,⟨by omega,by omega⟩,⟨by omega,by omega⟩,A4 S5 (by omega) ⟨_,rfl,A4 (S5.drop (k:=8) (by omega)) (by rw[cf];omega) ⟨_,rfl,A4 (S5.drop (k:=16) (by omega)) (by rw[cf];omega) ⟨_,rfl,A4 (S5.drop (k:=24) (by omega)) (by rw[cf];omega) ⟨_,rfl,apG _ ?_⟩⟩⟩⟩⟩;unfold LL;rw[ay q];rfl
    ·rw[dL];exact apG false (by unfold LL;rw[decide_eq_false q];rfl)
   have hl2:=S2.len;by_cases q:(r.drop 8).length>16
   ·rw[ag (ay (by show((l - 1 - 8:Nat):Int)>16;have:l - 1 - 8=(r.drop 8).length:=hl2;omega))];refine⟨⟨by omega,by show(8:Int)<=((l - 1 - 8:Nat):Int);have:l - 1 - 8=(r.drop 8).length:=hl2;omega⟩,A4 S2 (by omega) ⟨_,rfl,A4 (S2.drop (k:=8) (by omega)) (by rw[cf];omega) ⟨_,rfl,Tm _ ?_⟩⟩⟩;unfold Oz;rw[ay q];rfl
   ·rw[ai (by simp only[bf];show¬((l - 1 - 8:Nat):Int)>16;have:l - 1 - 8=(r.drop 8).length:=hl2;omega)];exact Tm false (by unfold Oz;rw[decide_eq_false q];rfl)
  have hl1:=S1.len;by_cases q:r.length>8
  ·rw[ag (ay (by show((l - 1:Nat):Int)>8;have:l - 1=r.length:=hl1;omega))];refine A4 S1 (by omega) ⟨_,rfl,alP _ ?_⟩;unfold abm;rw[ay q];rfl
  ·rw[ai (by simp only[bf];show¬((l - 1:Nat):Int)>8;have:l - 1=r.length:=hl1;omega)];exact alP false (by unfold abm;rw[decide_eq_false q];rfl)
 obtain⟨x0,x1,x2⟩:=(UT.on fg).f (bI b 0).toNat (by omega);have eN:Is FT A0 A1 b=_:=ai c1;generalize FT (bI b 0).toNat=x at x0 x1 x2 eN;have rr:=alY x1 x2;obtain⟨y0,y1⟩:=(UT.on fg).a (I0 x).toNat (by omega);generalize A0 (I0 x).toNat=lo at y0 eN;generalize A1 (I0 x).toNat=hi at y1 eN;rw[dL];refine⟨⟨by omega,by omega⟩,x,by rw[kB,bZ,cN];exact x0,rr,lo,by rw[kB,bZ];exact y0,hi,by rw[kB,kB,bZ];exact y1,cX ?_⟩;have F16:Fr No g (g.push (.cells #[.int .u8 0,.int .u8 0] T.gB)):=Fr.push _ _;have ZS:(g.push (.cells #[.int .u8 0,.int .u8 0] T.gB))[g.size]? =_:=cz;generalize g.push (.cells #[.int .u8 0,.int .u8 0] T.gB)=vY at F16 ZS⊢;refine bL ZS (by simp) λQq a1 a2 a3=>bL a1 (by simp) λGl VP b2 b3=> ?_
 have Mv:Fr No g Gl:=(F16.fresh (Fr.of_eq (S:=λy=>y=g.size) a2 a3) (λy e=>by omega)).fresh (Fr.of_eq (S:=λy=>y=g.size) b2 b3) (λy e=>by omega);have S18:=S.on Mv;have cb: ∀i,i<b.length->ak Gl (a.add (i*1))=some (.int .u8 (bI b i)):=λi hi=>by
  obtain⟨a',e,c⟩:=S18.at (i:=i) hi;cases e;exact c
 have cl:ak Gl (AA g.size 0)=some (.int .u8 lo):=af VP rfl;have ch:ak Gl (AA g.size 1)=some (.int .u8 hi):=af VP rfl;have dr: ∀k,k<=b.length->Sl Gl (cZ (some a) c k 1) (l - k) (c - k) (b.drop k):=λk hk=>S18.drop hk
 refine aK.of λJ6 hJ6=>aK.of λJ7 hJ7=> ?_
 by_cases s2:BA x=2
 ·replace eN:=eN.trans (ag s2);refine abo (show(BA x==2)=true from dz.2 s2) (aK.of λJ8 Yx=> ?_);have key: ∀v,v=Ac 2 lo hi b->J8 v Gl:=by
   intro v hv;subst Yx;rw[<-hv] at eN;cases v with
   |true=>exact abo rfl (stop Gl Mv (eN.trans (ag rfl)))
   |false=>
    have l2:2<=b.length:=by simp[Ac] at hv;omega
    refine abp (by decide) ⟨⟨by omega,by omega⟩,?_⟩;subst hJ7;subst hJ6;exact cont Gl _ _ _ _ Mv (dr 2 l2) (eN.trans (dL))
  by_cases q0:b.length<2
  ·rw[jy];exact key true (by simp[Ac,q0])
  rw[dL];refine⟨⟨by omega,by omega⟩,aB.2 ⟨_,cb 1 (by omega),_,cl,?_⟩⟩;by_cases q1:bI b 1<lo
  ·rw[ag (ay q1)];exact key true (by simp[Ac,q1])
  rw[ai (by simpa using q1)];exact⟨_,ch,⟨by omega,by omega⟩,aB.2 ⟨_,cb 1 (by omega),key _ (by simp[Ac,q0,q1])⟩⟩
 replace eN:=eN.trans (ai s2);refine abp (show¬(BA x==2)=true from λe=>s2 (dz.1 e)) (aK.of λJ9 hJ9=> ?_);by_cases s3:BA x=3
 ·replace eN:=eN.trans (ag s3);refine abo (show(BA x==3)=true from dz.2 s3) (aK.of λJ8 Yx=> ?_);have key: ∀v,v=(Ac 3 lo hi b||BC b 2)->J8 v Gl:=by
   intro v hv;subst Yx;rw[<-hv] at eN;cases v with
   |true=>exact abo rfl (stop Gl Mv (eN.trans (ag rfl)))
   |false=>
    have l2:3<=b.length:=by simp[Ac] at hv;omega
    refine abp (by decide) ⟨⟨by omega,by omega⟩,?_⟩;subst hJ9;subst hJ7;subst hJ6;exact cont Gl _ _ _ _ Mv (dr 3 l2) (eN.trans (dL))
  by_cases q0:b.length<3
  ·rw[jy];exact key true (by simp[Ac,q0])
  rw[dL];refine⟨⟨by omega,by omega⟩,aB.2 ⟨_,cb 1 (by omega),_,cl,?_⟩⟩;by_cases q1:bI b 1<lo
  ·rw[ag (ay q1)];exact key true (by simp[Ac,q1])
  rw[ai (by simpa using q1)];refine⟨_,ch,⟨by omega,by omega⟩,aB.2 ⟨_,cb 1 (by omega),?_⟩⟩;by_cases q2:hi<bI b 1
  ·rw[ag (ay q2)];exact key true (by simp[Ac,q2])
  rw[ai (by simpa using q2)];refine⟨⟨by omega,by omega⟩,aB.2 ⟨_,cb 2 (by omega),?_⟩⟩;by_cases q3:bI b 2<128
  ·rw[ag (ay q3)];exact key true (by simp[BC,q3])
  rw[ai (by simpa using q3)];exact⟨⟨by omega,by omega⟩,aB.2 ⟨_,cb 2 (by omega),key _ (by simp[Ac,BC,q0,q1,q2,q3])⟩⟩
 replace eN:=eN.trans (ai s3);refine abp (show¬(BA x==3)=true from λe=>s3 (dz.1 e)) ?_;by_cases s4:BA x=4
 ·replace eN:=eN.trans (ag s4);refine abo (show(BA x==4)=true from dz.2 s4) (aK.of λJ8 Yx=> ?_);have key: ∀v,v=(Ac 4 lo hi b||(BC b 2||BC b 3))->J8 v Gl:=by
   intro v hv;subst Yx;rw[<-hv] at eN;cases v with
   |true=>exact abo rfl (stop Gl Mv (eN.trans (ag rfl)))
   |false=>
    have l2:4<=b.length:=by simp[Ac] at hv;omega
    refine abp (by decide) ⟨⟨by omega,by omega⟩,?_⟩;subst hJ9;subst hJ7;subst hJ6;exact cont Gl _ _ _ _ Mv (dr 4 l2) (eN.trans (dL))
  by_cases q0:b.length<4
  ·rw[jy];exact key true (by simp[Ac,q0])
  rw[dL];refine⟨⟨by omega,by omega⟩,aB.2 ⟨_,cb 1 (by omega),_,cl,?_⟩⟩;by_cases q1:bI b 1<lo
  ·rw[ag (ay q1)];exact key true (by simp[Ac,q1])
  rw[ai (by simpa using q1)];refine⟨_,ch,⟨by omega,by omega⟩,aB.2 ⟨_,cb 1 (by omega),?_⟩⟩;by_cases q2:hi<bI b 1
  ·rw[ag (ay q2)];exact key true (by simp[Ac,q2])
  rw[ai (by simpa using q2)];refine⟨⟨by omega,by omega⟩,aB.2 ⟨_,cb 2 (by omega),?_⟩⟩;by_cases q3:bI b 2<128
  ·rw[ag (ay q3)];exact key true (by simp[BC,q3])
  rw[ai (by simpa using q3)];refine⟨⟨by omega,by omega⟩,aB.2 ⟨_,cb 2 (by omega),?_⟩⟩;by_cases q4:191<bI b 2
  ·rw[ag (ay q4)];exact key true (by simp[BC,q4])
  rw[ai (by simpa using q4)];refine⟨⟨by omega,by omega⟩,aB.2 ⟨_,cb 3 (by omega),?_⟩⟩;by_cases q5:bI b 3<128
  ·rw[ag (ay q5)];exact key true (by simp[BC,q5])
  rw[ai (by simpa using q5)];exact⟨⟨by omega,by omega⟩,aB.2 ⟨_,cb 3 (by omega),key _ (by simp[Ac,BC,q0,q1,q2,q3,q4,q5])⟩⟩
 refine abp (show¬(BA x==4)=true from λe=>s4 (dz.1 e)) ?_;exact stop Gl Mv (eN.trans (ai s4))
theorem QC.utf (UT:QC h FT A0 A1):xP (λbs=>EM FT A0 A1 (bs.length+1) bs) h:=λg p c bs R f row hl cap hk=>afb rfl (UT.on f) row hl cap hk
end Cb
end
section
namespace Cb
theorem abq: ∀i:Fin 256,Lib.firstT i.val<256:=by decide
theorem QC.ahN {W:World} {l:List (String×DataW Unit)} {s1 s2:String} (h1:Tryz.prog.globalNamed s1=some 3) (h2:Tryz.prog.globalNamed s2=some 4) (h:laidMet Tryz.prog l W) (m1:(s1,Lib.firstData)∈l) (m2:(s2,Lib.acceptData)∈l): ∃V,xP V W.heap:=by
 refine⟨_,QC.utf (FT:=λi=>(Lib.firstT i:Int)) (A0:=λi=>(Lib.accLo i:Int)) (A1:=λi=>(Lib.accHi i:Int)) ⟨λc hc=> ?_,λi hi=> ?_⟩⟩
 ·obtain⟨g,t,cs,fuel,p,hg,ht,hv,hd⟩:=Lib.laidMet.reads h m1;obtain rfl:3=g:=bz (h1.symm.trans hg);obtain rfl:T.J0=t:=by
   have e:(Tryz.prog.globals[(3:Nat)]?).map (·.type)=some T.J0:=by kernel_rfl
   exact bz (e.symm.trans ht)
  have BF:=Lib.cells_of_tab (n:=256) (e:=T.uint8) (by kernel_rfl) (by kernel_rfl) (by kernel_rfl) (by kernel_rfl) hd;have:=World.var?_cell hg hv c;rw[uD,<-ee,BF] at this;refine⟨?_,Int.natCast_nonneg _,by have:Lib.firstT c<256:=abq ⟨c,hc⟩;show((Lib.firstT c:Nat):Int)<256;omega⟩;rw[this];simp[Lib.firstTab,hc]
 ·obtain⟨g,t,cs,fuel,p,hg,ht,hv,hd⟩:=Lib.laidMet.reads h m2;obtain rfl:4=g:=bz (h2.symm.trans hg);obtain rfl:T.oX=t:=by
   have e:(Tryz.prog.globals[(4:Nat)]?).map (·.type)=some T.oX:=by kernel_rfl
   exact bz (e.symm.trans ht)
  obtain⟨arK,d,q,hdi,he⟩:=Lib.array_elem (n:=16) (e:=T.gB) (by kernel_rfl) hd i hi;simp only[aO,List.getElem?_range hi,dy,bE] at hdi;subst hdi;have c2:Tryz.prog.cellsOf T.gB=2:=by kernel_rfl
  rw[c2] at he;have BF:=Lib.ints_of_struct (t:=T.gB) (k:=.u8) (fs:= #[Go.Field.mk "lo" T.uint8 0 false "" "unicode/utf8" 0,Go.Field.mk "hi" T.uint8 1 false "" "unicode/utf8" 1]) (by kernel_rfl) (λj f hj=>by
   match j,hj with
   |0,hj=>simp at hj;subst hj;exact⟨by kernel_rfl,rfl,by kernel_rfl⟩
   |1,hj=>simp at hj;subst hj;exact⟨by kernel_rfl,rfl,by kernel_rfl⟩
   |j+2,hj=>simp at hj) (by rw[c2];rfl) he
  have e0:=bp (·[0]?) BF;have e1:=bp (·[1]?) BF;simp only[dq,iL] at e0 e1;constructor
  ·have:=World.var?_cell hg hv (i*2);rw[uD,<-ee] at this;rw[this];simpa using e0
  ·have:=World.var?_cell hg hv (i*2+1);rw[uD,<-ee] at this;rw[this];simpa using e1
end Cb
end
end Go.Proofs.YtlenamcfacpheaaGreatDoor
