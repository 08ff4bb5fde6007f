/-
  TT is proved here: parts of Js proof, one behind Js other (texts of this work, merged by a program; ZV Js theorem ZW not use is left out). No condition.
-/
import Derived.Handed
import Derived.Shelf.Vars
import Derived.Lib.LaidU8
import Derived.Lib.LaidTab
import Derived.Test.YtlenamcfacpheaaGreatDoorMAsesf
set_option maxRecDepth 100000
set_option maxHeartbeats 4000000
namespace Go.Proofs.YtlenamcfacpheaaGreatDoor
open Go.Den
open IntKind (wrap)
open Int (toNat)
section
namespace Bn
open Cb
open qJ (Ev dk uH)
variable {V:List UInt8→Bool} {h h0 h' g:aj} {R:iI} {D:Nat→Prop}
theorem Ts (t:Tr):(Kj V t).length<=room t:=by
 unfold Kj;split
 ·exact rX t
 ·exact cp _
theorem ZF {t:Tr} {x:CV} (U:xQ V h0) (u:Fr No h0 h) (tx:kU h D t x) (hr:room t<=1000000)
  (hk: ∀h' p c (q:Int),iS h' p (Kj V t).length c 1 (bc (Kj V t))->(∀y,aQ p y->h.size<=y)->Fr No h h'->R (.tuple #[.slice p (Kj V t).length c,.I q]) h'):Cl F.mw #[x.agg] h R:=by
 unfold Kj at hk;refine Hd U u tx hr (λe h' p c o n f=> ?_) (λe h' f=> ?_)
 ·rw[ag e] at hk;exact hk h' p c 0 o n f
 ·rw[e,dM] at hk;exact hk h' none 0 3 (.nil rfl rfl rfl rfl) (λy ⟨a,e,_⟩=>by cases e) f
abbrev BP.s (b:BP) (q:bV) (cl:Nat):aw.S:=⟨b.p.fl,b.p.sum,b.p.dest.vE,b.p.dest.node,b.p.dest.ma,b.p.dest.host,b.p.dest.sN,b.p.rep.vE,b.p.rep.node,b.p.rep.ma,b.p.rep.host,b.p.rep.sN,b.p.id.e.vE,b.p.id.e.node,b.p.id.e.ma,b.p.id.e.host,b.p.id.e.sN,b.p.id.tm,b.p.id.sq,b.p.gJ,q,b.bl.length,cl⟩
theorem pld {b:Nat} {x:BP} {q:bV} {cl:Nat} {K:aC.S->Prop} (hb:aw.jx h b (x.s q cl)) (hk:K x.p.s):aC.dh h (AA b 0) K:=
 ⟨_,af hb rfl,_,af hb rfl,_,af hb rfl,_,af hb rfl,_,af hb rfl,_,af hb rfl,_,af hb rfl,_,af hb rfl,_,af hb rfl,_,af hb rfl,_,af hb rfl,_,af hb rfl,_,af hb rfl,_,af hb rfl,_,af hb rfl,_,af hb rfl,_,af hb rfl,_,af hb rfl,_,af hb rfl,_,af hb rfl,hk⟩
theorem aeS {b:BP} {q:bV} {cl:Nat} {xs:List BB} (w:b.p.wf) (U:xQ V h0) (u:Fr No h0 h) (mx:Gj.Mx h) (B:qU h D b.bl q b.bl.length cl xs) (hl:b.bl.length<=8) (hd: ∀b'∈b.bl,b'.data.length<=80000)
  (k1: ∀out,Cx V b=some out->out.length<=5000->∀h' p c,iS h' p out.length c 1 (bc out)->(∀y,aQ p y->h.size<=y)->Fr No h h'->R (.tuple #[.slice p out.length c,.bool true]) h')
  (k2:Cx V b=none->∀h',Fr No h h'->R (.tuple #[.Z,.bool false]) h'):Cl F.sZ #[(b.s q cl).agg] h R:=by
 refine sZ.walk (aw.dI λb1 h1 uh dx f1=>pld dx (aeL b.p w U (u.tt f1) λh2 z qz z0 z1 f2=>aa.ex z.s ⟨_,rfl,aa.j9 (x:=z.s) λb2 h4 FH fJ f4=> ?_⟩));have F4:=f1.tt (f2.tt f4);have hI:Cx V b=Cx V b:=rfl;conv at hI=>rhs;unfold Cx
 cases hW:x9 V b.p with
 |error e=>rw[ag (by simpa using z1 e hW)];exact k2 (by rw[hI,hW]) h4 F4
 |ok t=>
 obtain⟨rfl,tz⟩:=z0 t hW;rw[hW] at hI;dsimp only at hI;rw[dM];have rt:=LF hW;have le:=Ts (V:=V) t;refine aa.jk fJ (ZF U (u.tt F4) (tz.on f4) (by omega) λh5 p5 c5 q5 o5 n5 f5=>⟨_,_,_,_,rfl,_,_,_,af ((f2.tt (f4.tt f5)).get dx id) rfl,?_⟩);have F5:=F4.tt f5;have z4:=F4.1;refine⟨λp l c t g=> ∃(i:Nat) (out:List UInt8),t=(i:Int)/\i<=b.bl.length/\l=out.length/\iS g p out.length c 1 (bc out)/\(∀y,aQ p y->h.size<=y)/\Fr No h g/\Cx V b=RB V (b.bl.drop i) out/\out.length<=1100+400*i,λ_ _ _ t _=>b.bl.length - t.toNat,⟨0,Kj V t,rfl,cp _,rfl,o5,λy hy=>by have:=n5 y hy;omega,F5,hI,by omega⟩,?_⟩;rintro p _ c _ g ⟨i,out,rfl,hi,rfl,ow,nw,fg,he,hlen⟩;have lb:(b.s q cl).OY=b.bl.length:=rfl;by_cases nR:i<b.bl.length
 case neg=>
  rw[ai (λe=>nR (by have:=of_decide_eq_true e;omega))];rw[fM (by omega)] at he;exact k1 out he (by omega) g p c ow nw fg
 rw[jy];obtain⟨a,x,rfl,hh,ex,okx,_⟩:=(B.on fg).get nR;have lx:x.b.data.length<=80000:=by rw[ex];exact hd _ (fx nR)
 refine⟨⟨by omega,by omega⟩,aB.2 (aE.yT (x:=x.s) (by rw[aL];exact hh) (aE.j9 (x:=x.s) λb3 h8 LQ kT f8=>aE.jk kT (Zs x.b U (u.tt (fg.tt f8)) (mx.on (fg.tt f8)) (okx.frame f8 (λ_ _=>id)).row okx.cap lx λh9 y qy y0 y1 f9=>aa.ex y.s ⟨_,rfl,aa.j9 (x:=y.s) λb4 yj VA mb f11=> ?_⟩)))⟩;have Qt:=fg.tt (f8.tt (f9.tt f11));rw[ex] at y0 y1;rw[db nR] at he;have hB: ∀l',RB V (b.bl[i]::l') out=(match DJ V b.bl[i] with| .error _=>none| .ok t=>RB V l' (out++Kj V t)):=λl'=>rfl
 rw[hB] at he;cases hC:DJ V b.bl[i] with
 |error e=>rw[ag (by rw[y1 e hC];simpa using Tq hC)];exact k2 (by rw[he,hC]) yj Qt
 |ok t'=>
 obtain⟨rfl,ty⟩:=y0 t' hC;rw[hC] at he;dsimp only at he;rw[dM];have rt':=Oq hC;have le':=Ts (V:=V) t';refine aa.jk mb (ZF U (u.tt Qt) (ty.u.on f11) (by omega) λmF p12 c12 q12 o12 n12 f12=>⟨_,_,_,_,rfl,?_⟩);have G:=f8.tt (f9.tt (f11.tt f12));refine fR vg.tU vg.uU (ow.frame G (λ_ _=>id)) o12.qa (by rw[sV,cO]) (Ch _) (by omega) (by omega) λp' c' GQ o13 _ f13 g13=>⟨_,_,_,rfl,?_⟩
 rw[bL (n:=(i:Int)+1) (by omega) (by omega)];rw[<-sw,<-aF] at o13;have zG:=(fg.tt G).1;refine⟨⟨i+1,out++Kj V t',by omega,by omega,by rw[aF],o13,λy hy=> ?_,(fg.tt G).fresh f13 nw,he,by rw[aF];omega⟩,by show b.bl.length - Int.toNat ((i:Int)+1)<b.bl.length - Int.toNat (i:Int);omega⟩;rcases g13 y hy with a|a
 ·exact nw y a
 ·omega
theorem ZG {b:BP} {q:bV} {cl:Nat} {xs:List BB} (w:b.p.wf) (U:xQ V h0) (u:Fr No h0 h) (mx:Gj.Mx h) (B:qU h D b.bl q b.bl.length cl xs) (hl:b.bl.length<=1000000) (hd: ∀b'∈b.bl,b'.data.length<=80000)
  (k1: ∀out,vd V b=some out->out.length<=600->∀h' p c,iS h' p out.length c 1 (bc out)->(∀y,aQ p y->h.size<=y)->Fr No h h'->R (.tuple #[.slice p out.length c,.I 0]) h')
  (k2:vd V b=none->∀h',Fr No h h'->R (.tuple #[.Z,.I 3]) h'):Cl F.qE #[(b.s q cl).agg] h R:=by
 have hW:vd V b=vd V b:=rfl;conv at hW=>rhs;unfold vd
 refine qE.walk (aw.dI λb1 h1 uh dx f1=>⟨_,_,_,af dx rfl,aly U (u.tt f1) (mx.on f1) (B.on f1) hl hd λh2 f2=>⟨_,rfl,?_⟩⟩);have F2:=f1.tt f2;cases hf:Me V b.bl with
 |false=>rw[jy];exact k2 (by rw[hW,hf];rfl) h2 F2
 |true=>
 rw[hf,ag rfl] at hW;rw[dM];have l8:b.bl.length<=8:=by
  unfold Me at hf;split at hf
  ·cases hf
  ·simp only[aW,bf] at hf;exact hf.1.1
 refine aw.jk (f2.get dx id) (aeS w U (u.tt F2) (mx.on F2) (B.on F2) l8 hd (λout ho lo h3 p c ow nw f3=>⟨_,_,_,_,rfl,aK.of λJ hJ=> ?_⟩) (λhn h3 f3=>⟨_,_,_,_,rfl,aK.of λJ hJ=> ?_⟩))
 case refine_2=>
  rw[jy];subst hJ;dsimp only;rw[ag rfl];exact k2 (by rw[hW,hn]) h3 (F2.tt f3)
 rw[ho] at hW;dsimp only at hW;rw[dM];subst hJ;dsimp only;by_cases c1:out.length<=598
 case neg=>rw[ag (by simp only[bf];omega)];exact k2 (by rw[hW,ai c1]) h3 (F2.tt f3)
 rw[dM];rw[ag c1] at hW;have F3:=F2.tt f3;have z3:=F3.1;refine cY ?_;have f5:Fr No h3 (h3.push (.cells #[.int .u8 159] T.uint8)):=Fr.push _ _;have o5:iS (h3.push (.cells #[.int .u8 159] T.uint8)) (some (AA h3.size 0)) 1 1 1 (bc [159]):=by
  exact .row h3.size 0 #[.int .u8 159] T.uint8 rfl cA (bh _) (by simp) rfl (λj v hj=>by
   match j,hj with
   |0,hj=>exact hj)
 refine fR vg.tU vg.uU o5 ((ow.frame f5 (λ_ _=>id)).qa) (by rw[sV,cO]) (Ch _) (by omega) (by omega) λp6 c6 h6 o6 _ f6 g6=>⟨_,_,_,rfl,cY ?_⟩
 have f7:Fr No h6 (h6.push (.cells #[.int .u8 255] T.uint8)):=Fr.push _ _;have z5:=f5.1;have z6:=f6.1;have z7:=f7.1;refine fR vg.tU vg.uU (o6.frame f7 (λ_ _=>id)) (q:=some (AA h6.size 0)) (ds:=bc [255]) rW rfl (Ch _) (by omega) (by omega) λp8 c8 h8 o8 _ f8 g8=>⟨_,_,_,rfl,?_⟩
 rw[<-sw,<-sw] at o8;have el:1+out.length+1=(159::(out++ [255])).length:=by simp;omega
 rw[el] at o8⊢;have n6: ∀y,aQ p6 y->h3.size<=y:=λy hy=>by
  rcases g6 y hy with⟨a,e,e'⟩|a
  ·cases e;rw[<-e'];exact bh _
  ·omega
 have F6:Fr No h3 h6:=f5.fresh f6 (λy ⟨a,e,e'⟩=>by cases e;rw[<-e'];exact bh _);refine k1 _ hW (by simp;omega) h8 p8 c8 o8 (λy hy=> ?_) (F3.tt ((F6.tt f7).fresh f8 n6));rcases g8 y hy with a|a
 ·have:=n6 y a;omega
 ·omega
theorem Ox {b:BP} {q:bV} {cl:Nat} {xs:List BB} (w:b.p.wf) (U:xQ V h0) (u:Fr No h0 h) (mx:Gj.Mx h) (B:qU h D b.bl q b.bl.length cl xs) (hl:b.bl.length<=1000000) (hd: ∀b'∈b.bl,b'.data.length<=80000)
  (hk: ∀h',Fr No h h'->R (.bool (vd V b).isSome) h'):Cl F.qF #[(b.s q cl).agg] h R:=by
 refine qF.walk (aw.dI λb1 h1 uh dx f1=>aw.jk dx (ZG w U (u.tt f1) (mx.on f1) (B.on f1) hl hd (λout ho lo h2 p c ow nw f2=>⟨_,_,_,_,rfl,?_⟩) (λhn h2 f2=>⟨_,_,_,_,rfl,?_⟩)))
 ·have:=hk h2 (f1.tt f2);rw[ho] at this;exact this
 ·have:=hk h2 (f1.tt f2);rw[hn] at this;exact this
theorem VO {b : BP} {q : Option Addr} {cl : Nat} {xs : List BB} (B : qU h D b.bl q b.bl.length cl xs) (hl : b.bl.length ≤ 1000000) (hd : ∀ b' ∈ b.bl, b'.data.length ≤ 80000)
    (hk : ∀ h' p c, iS h' p (IF b).length c 1 (bc (IF b)) → (∀ y, aQ p y → h.size ≤ y) → Fr No h h' → R (.slice p (IF b).length c) h') : Cl F.nW #[(b.s q cl).agg] h R := by
  have lb : (b.s q cl).OY = b.bl.length := rfl
  refine nW.walk (aw.dI λb1 h1 uh dx f1 => ⟨_, _, _, af dx rfl, ?_⟩)
  by_cases c0 : b.bl.length = 0
  · rw [if_pos (by simp only [beq_iff_eq]; omega)]
    have e0 : b.bl = [] := List.length_eq_zero_iff.1 c0
    have : IF b = [] := by unfold IF; rw [e0]; rfl
    rw [this] at hk
    exact hk h1 none 0 (.nil rfl rfl rfl rfl) (λy ⟨a, e, _⟩ => by cases e) f1
  rw [if_neg (by simp only [beq_iff_eq]; omega)]
  obtain ⟨n, hn⟩ : ∃ n, b.bl.length = n + 1 := ⟨b.bl.length - 1, by omega⟩
  have ew : IntKind.wrap .i64 (((b.bl.length : Nat) : Int) - 1) = (n : Int) := by rw [hn, bL (by omega) (by omega)]; omega
  have HJ : b.bl.getLast? = some b.bl[n] := by rw [List.getLast?_eq_getElem?, show b.bl.length - 1 = n by omega, List.getElem?_eq_getElem (by omega)]
  have ep : IF b = b.bl[n].data := by unfold IF; rw [HJ]
  refine ⟨_, _, _, af dx rfl, _, _, _, af dx rfl, ?_⟩
  rw [lb, ew]
  obtain ⟨a, x, rfl, hh, ex, okx, _⟩ := (B.on f1).get (i := n) (by omega)
  refine ⟨⟨by omega, by omega⟩, aB.2 ⟨_, _, _, by rw [Int.toNat_natCast]; exact hh.2.2.2.2.1, vg.mz okx.row rfl (by have := hd _ (List.getElem_mem (show n < b.bl.length by omega)); rw [← ex] at this; show x.b.data.length ≤ _; omega) λp c h2 o f2 n2 => ⟨_, _, _, rfl, ?_⟩⟩⟩
  rw [ep, ← ex] at hk
  exact hk h2 p c o (λy hy => by have := n2 y hy; have := f1.1; omega) (f1.tt f2)
end Bn
end
section
namespace Ask
open qJ (Ev dk)
open gK (SS Good Pt GX Mk)
open Bn (oZ lD oB Lx Qs BP Prim xV qU BB vd)
variable {V:List UInt8→Bool} {h h' h0 g:aj} {R:iI} {s k bo id c:Nat} {X X':Ft} {I:GX} {σ:SS} {p:bV} {ses:Int} {x:Rq} {D:Nat→Prop} {o:Ot}
abbrev Rq.as (x:Rq) (p:bV) (c s:Nat) (ses:Int):bO.S:=⟨x.id,x.kind,x.ep.vE,x.ep.node,x.ep.ma,x.ep.host,x.ep.sN,x.dest.vE,x.dest.node,x.dest.ma,x.dest.host,x.dest.sN,x.uF,x.num,x.kr,p,x.Bf.length,c,x.gJ,x.token,x.on,some ⟨s,0,none⟩,ses⟩
structure En (V:List UInt8->Bool) (h0 h:aj) (s:Nat) (X:Ft) (I:GX) (σ:SS) (k:Nat):Prop where
 H:Pt h s X I σ
 G:gK.Good σ k
 hk:k<=30000
 u:UpF h0 X h
 U:Cb.xQ V h0
 mx:Gj.Mx h0
theorem En.on (E:En V h0 h s X I σ k) (f:Fr No h h'):En V h0 h' s X I σ k:=⟨E.H.on f,E.G,E.hk,E.u.on f,E.U,E.mx⟩
theorem En.mxh (E:En V h0 h s X I σ k):Gj.Mx h:=E.mx.on E.u.fr
theorem En.step {cU:SS} {k':Nat} (E:En V h0 h s X I σ k) (H:Pt h' s X' I cU) (st:bN X h X' h') (G:gK.Good cU k') (hk:k'<=30000):En V h0 h' s X' I cU k':=⟨H,G,hk,E.u.step st,E.U,E.mx⟩
theorem En.nM (E:En V h0 h s X I σ k) {b:Nat} (hb:h.size<=b): ¬X.M b:=λhm=>by have:=E.H.lt b (.inl hm);omega
theorem kpx {S:Nat->Prop} {b:Nat} {l:List (bV)} (f:Fr S h h') (nb: ¬S b) (hl: ∀p∈l,p.map (·.block)=some b):Kp h h' l:=f.kps λp hp x e hb=>nb (by have:=hl p hp;rw[e] at this;exact(bz this)▸hb)
structure oU (X:Ft) (h:aj) (bo id:Nat) (o:Ot) (X':Ft) (h':aj):Prop where
 fr:Fr (λy=>X.M y\/y=bo) h h'
 rh: ∀c,X'.M c->X.M c\/h.size<=c
 wL: ∀c,X'.D c->X.D c\/h.size<=c
 Ix: ∀c,X.D c->X'.D c
 at': ∃y,aq.jx h' bo y/\(o.e=0->∃p c,y=⟨id,0,o.num,o.KE,0,p,o.d.length,c⟩/\Row h' p (bc o.d)/\(o.d≠ []->∀z,aQ p z->(h.size<=z\/X.D z)/\¬X'.M z))
abbrev y0 (id:Nat):aq.S:=⟨id,0,0,0,0,none,0,0⟩
theorem oU.of {h1:aj} (st:bN X h X' h1) (f:Fr (λy=>y=bo) h1 h') (at': ∃y,aq.jx h' bo y/\(o.e=0->∃p c,y=⟨id,0,o.num,o.KE,0,p,o.d.length,c⟩/\Row h' p (bc o.d)/\(o.d≠ []->∀z,aQ p z->(h.size<=z\/X.D z)/\¬X'.M z))):oU X h bo id o X' h':=
 ⟨st.fr.trans f (λ_ _ a=> .inl a) (λ_ _ e=> .inr e),st.rh,st.wL,st.Ix,at'⟩
theorem oU.bad {e:Int} (hb:aq.jx h bo (y0 id)) (nb: ¬X.M bo) (st:bN X h X' h') {σ:SS} :oU X h bo id (bad σ e) X' h':=
 oU.of st (Fr.refl _ _) ⟨_,st.fr.get hb nb,λ_=>⟨none,0,rfl,Row.nil,λe=>absurd rfl e⟩⟩
theorem yV {b i:Nat} {y z:aq.S} {v:Value} {K:aj->Prop} (hb:aq.jx h b y) (hi:i<6) (hz:y.arr.setIfInBounds i v=z.arr) (hk: ∀h',aq.jx h' b z->Fr (λy=>y=b) h h'->K h'):aH h (AA b i) v K:=
 bM hb hi λh1 d1 d2 d3=>hk h1 (by unfold aq.jx;rw[<-hz];exact d1) (Fr.of_eq d2 λc hc=>d3 c hc)
theorem Pt.vW {t q:Nat} (H:Pt h s X I σ) (M:Mk h' I.k σ.e t q) (f:Fr (λy=>y=I.k) h h'): ∃X',Pt h' s X' I { σ with tm:=t,sq:=q } /\bN X h X' h':=by
 obtain⟨Z,⟨_,on⟩,zm,zd,go⟩:=H.use 5;obtain⟨X',H',st,_,_⟩:=go h' Z { σ with tm:=t,sq:=q } ⟨M,on⟩ (bN.E9 (f.mono λy _ hy=>(on y).1.2 hy)) (λi hi=>gK.ake σ.e t q hi);exact⟨X',H',st⟩
theorem aeT {n:Nat×Nat} (h:zW σ=some n):σ.tm<n.1\/σ.tm=n.1/\σ.sq<n.2:=by
 unfold zW at h;split at h
 ·cases h;left;assumption
 split at h
 ·cases h
 ·cases h;right;exact⟨rfl,Nat.lt_succ_self _⟩
theorem VP {b:BP} {d:List UInt8} (h:vd V b=some d):Bn.qR b.p=true:=by
 unfold vd at h;split at h
 ·split at h
  ·cases h
  ·rename_i hi;unfold Bn.Cx at hi;split at hi
   ·cases hi
   ·rename_i hp;unfold Bn.x9 at hp;split at hp
    ·assumption
    ·cases hp
 ·cases h
theorem abg {b:BP} {d:List UInt8} (h:vd V b=some d):b.p.gJ<=1099511627776:=by
 have:=VP h;unfold Bn.qR at this;simp only[aW,bf] at this;exact this.2
theorem ZH {b:BP} {q:bV} {cl:Nat} {xs:List BB} {n:Nat×Nat} (E:En V h0 h s X I σ k) (w:b.p.wf) (B:qU h D b.bl q b.bl.length cl xs) (hl:b.bl.length<=1000000) (hd: ∀b'∈b.bl,b'.data.length<=80000) (hn:zW σ=some n)
  (hk: ∀h' X',Pt h' s X' I (vB V σ ses b n).σ->bN X h X' h'->R (.tuple #[.I (vB V σ ses b n).num,.I (vB V σ ses b n).KE,.I (vB V σ ses b n).e]) h'):
  Cl F.py #[(x.as p c s ses).agg,(b.s q cl).agg,(⟨σ.e,n.1,n.2⟩:oZ).s.agg] h R:=by
 refine py.walk (bO.dI (x:=x.as p c s ses) λb1 h1 uh dx f1=>aw.dI (x:=b.s q cl) λb2 h2 FH fJ f2=>ah.dI (x:=(⟨σ.e,n.1,n.2⟩:oZ).s) λb3 h3 LQ kT f3=> ?_);have F3:=f1.tt (f2.tt f3);have E3:=E.on F3;have z1:=f1.1;have z2:=f2.1;have z3:=f3.1;unfold vB at hk;refine aw.jk (x:=b.s q cl) (f3.get fJ _root_.id) (Bn.ZG w E.U E3.u.fr E3.mxh (B.on F3) hl hd (λout ho lo h4 p4 c4 o4 g4 f4=>⟨_,_,_,_,rfl,?_⟩) (λho h4 f4=>⟨_,_,_,_,rfl,?_⟩))
 case refine_2=>
  rw[jy];rw[ho] at hk;exact hk h4 X (E3.H.on f4) (bN.nJ (F3.tt f4))
 rw[dM];rw[ho] at hk;dsimp only at hk;have E4:=E3.on f4;have CY:=(f2.tt (f3.tt f4)).get dx _root_.id;have U5:=(f3.tt f4).get fJ _root_.id;have ao7:=f4.get kT _root_.id;have z4:=f4.1;have PU:=aI CY;have zb3:=aI ao7;have n1: ¬X.M b1:=E.nM (by omega);have n3: ¬X.M b3:=E.nM (by omega);refine⟨_,af CY rfl,_,af CY rfl,_,af CY rfl,aB.2 ⟨_,af E4.H.dF rfl,_,af U5 rfl,Ti σ.now b.p.gJ E.G.n (abg ho) ⟨_,rfl,(Fr.refl (λ_=>False) _).kp,gK.GJ (uD σ.now b.p.gJ) rfl E4.H E.G E.hk o4.qa rfl (by omega) λh6 X6 H6 TO=>⟨_,_,rfl,kpx TO.fr n1 (by simp),aK.of λJ hJ=> ?_⟩⟩⟩⟩;have st:=bN.no (F3.tt f4) TO;unfold BL at hk;by_cases he:gK.IU σ ses out (uD σ.now b.p.gJ)=0
 ·rw[ag he] at hk;rw[ag (by rw[he];rfl)];have Qy:=TO.fr.get CY n1;have aro:=TO.fr.get ao7 n3;have eS:(gK.zV σ ses out (uD σ.now b.p.gJ)).e=σ.e/\(gK.zV σ ses out (uD σ.now b.p.gJ)).tm=σ.tm/\(gK.zV σ ses out (uD σ.now b.p.gJ)).sq=σ.sq:=by unfold gK.zV;rw[ag he];exact⟨rfl,rfl,rfl⟩
  have M6:=Pt.mk' H6;rw[eS.1,eS.2.1,eS.2.2] at M6;have hr:lD ⟨σ.e,n.1,n.2⟩=true:=by have:=K9 E.G hn;unfold lD;rw[E.G.e.1,ay this.1,ay this.2];rfl
  refine⟨_,af Qy rfl,aB.2 ⟨_,af H6.dF rfl,ah.jk (x:=(⟨σ.e,n.1,n.2⟩:oZ).s) aro (Tj M6 ⟨σ.e,n.1,n.2⟩ rfl hr (aeT hn) λh8 M8 f8=>⟨_,rfl,?_,?_⟩)⟩⟩
  ·have zk:=aI M6;have:b1≠I.k:=λe=>by have:=aI (Pt.mk' E.H);omega
   exact kpx f8 this (by simp)
  ·subst hJ;obtain⟨X8,H8,st8⟩:=Pt.vW H6 (by rw[eS.1];exact M8) f8;exact he.symm▸hk h8 X8 H8 (st.trans st8)
 ·rw[ai he] at hk;rw[ai (by simpa using he)];subst hJ;have eS:gK.zV σ ses out (uD σ.now b.p.gJ)=σ:=by unfold gK.zV;rw[ai he]
  rw[eS] at H6;exact hk h6 X6 H6 st
theorem Qz (H:Pt h s X I σ) (hk: ∀h',Fr No h h'->R (.I (j8.oS σ.G x.ep ses)) h'):Cl F.mq #[(x.as p c s ses).agg] h R:=by
 refine mq.walk (bO.dI (x:=x.as p c s ses) λb h1 eb hb f1=>aK.of λJ hJ=> ?_);have H1:=H.on f1;have fin: ∀(g:aj) (br:Nat),j8.Rg.at g br ((j8.pU σ.G x.ep).getD .zero)->Fr No h1 g->J (some (AA br 0)) (j8.pU σ.G x.ep).isSome g:=by
  intro g br hr fg;subst hJ;dsimp only;unfold j8.oS at hk;cases hf:j8.pU σ.G x.ep with
  |none=>rw[hf] at hk;rw[ag (by rfl)];exact hk g (f1.tt fg)
  |some r=>
   rw[hf] at hk hr;rw[ai (by simp)];refine aB.2 ⟨_,af hr rfl,_,af (fg.get hb _root_.id) rfl,?_⟩;dsimp only at hk;by_cases ho:r.own=ses
   ·rw[ag ho] at hk;rw[ai (by show¬(r.own !=ses)=true;simpa using ho)];exact hk g (f1.tt fg)
   ·rw[ai ho] at hk;rw[ag (by show(r.own !=ses)=true;simpa using ho)];exact hk g (f1.tt fg)
 obtain⟨Z,hz,_⟩:=H1.use 1;refine⟨_,af hb rfl,aB.2 ⟨_,af H1.dF rfl,oB x.ep hb rfl rfl rfl rfl rfl ⟨?_,?_,trivial⟩⟩⟩
 ·exact j8.oR hz x.ep λh3 f3=>⟨_,_,_,_,_,_,_,_,rfl,f3.kp,bJ.box λb2 h4 FH fJ f4=>⟨f4.kp,bJ.set fJ λh5 a1 a2 a3=>fin h5 b2 a1 ((f3.tt f4).fresh (Fr.of_eq (S:=λy=>y=b2) a2 a3) (λy e=>by have:=f3.1;omega))⟩⟩
 ·refine bJ.box λb2 h4 FH fJ f4=>⟨f4.kp,j8.oR (j8.Tb.on hz f4) x.ep λh3 f3=>⟨_,_,_,_,_,_,_,_,rfl,f3.kp,bJ.set (f3.get fJ _root_.id) λh5 a1 a2 a3=>fin h5 b2 a1 ((f4.tt f3).fresh (Fr.of_eq (S:=λy=>y=b2) a2 a3) (λy e=>by omega))⟩⟩
theorem arp {b:xV} {b4:Nat} (hb:aE.jx h b4 (b.s p c)) (rx:Row h p (bc b.data)) (cap:b.data.length<=c):qU h (λ_=>True) [b] (some (AA b4 0)) 1 1 [⟨b,p,c⟩]:=
 ⟨rfl,rfl,.inr ⟨_,rfl,aE.Lr (x:=b.s p c) hb⟩,λ_ _ _=>trivial,bh _,λy hy=>by rw[bW.1 hy];exact⟨rx,λ_ _ _=>trivial,cap⟩⟩
theorem alA {b:Nat} {P:Prim} {K:aj->Prop} (n:Nat) (hb:aC.jx h b P.s) (hk: ∀h',aC.jx h' b ({ P with fl:=n } :Prim).s->Fr (λy=>y=b) h h'->K h'):aH h (AA b 0) (.U (n:Int)) K:=
 bM hb (by show 0<20;omega) λh1 d1 d2 d3=>hk h1 d1 (Fr.of_eq d2 λc hc=>d3 c hc)
theorem arq {b:Nat} {P:Prim} {K:aj->Prop} (e:Ev) (hb:aC.jx h b P.s) (hk: ∀h',aC.jx h' b ({ P with rep:=e } :Prim).s->Fr (λy=>y=b) h h'->K h'):az.dW h (AA b 7) e.s K:=
 (show gY (AA b 7) e.s.l 0 h K from wD (off:=7) (ws:=({ P with rep:=e } :Prim).s.l) hb (by show 7+5<=20;omega) rfl rfl λh1 d1 d2 d3=>hk h1 d1 (Fr.of_eq d2 λc hc=>d3 c hc))
theorem ahv (E:En V h0 h s X I σ k) (rx:Row h p (bc x.Bf)) (cap:x.Bf.length<=c) (lp:x.Bf.length<=1000) (w1:0<=x.ep.ma) (w2:0<=x.dest.ma) (hb:aq.jx h bo (y0 id)) (nb: ¬(X.M bo\/X.D bo))
  (hk: ∀h' X',Pt h' s X' I (FR V σ ses x).σ->oU X h bo id (FR V σ ses x) X' h'->R (.I (FR V σ ses x).e) h'):
  Cl F.qh #[(x.as p c s ses).agg,.P bo 0] h R:=by
 refine qh.walk (bO.dI (x:=x.as p c s ses) λb h1 eb dx f1=>bO.jk (x:=x.as p c s ses) dx (Qz (E.H.on f1) λh2 f2=>⟨_,rfl,?_⟩));have F2:=f1.tt f2;have E2:=E.on F2;have rT:=f2.get dx _root_.id;have nM: ¬X.M bo:=λe=>nb (.inl e)
 unfold FR at hk;by_cases ho:j8.oS σ.G x.ep ses=0
 case neg=>
  rw[ai ho] at hk;rw[ag (by simpa using ho)];exact hk h2 X E2.H (oU.bad hb nM (bN.nJ F2))
 rw[ag ho] at hk;rw[ai (by simpa using ho)];refine⟨_,af rT rfl,oB x.ep rT rfl rfl rfl rfl rfl (FA E2.H E.G x.ep (λn hn h3 f3=>ah.ex _ (ah.ex _ ⟨_,rfl,?_⟩)) (λhn h3 f3=>ah.ex _ (ah.ex _ ⟨_,rfl,?_⟩)))⟩
 case refine_2=>
  rw[hn] at hk;refine ah.dI λb1 h4 uh hc1 f4=>ah.dI λb2 h5 FH hc2 f5=>ah.mB (x:=(⟨x.ep,0,0⟩:oZ).s) (f5.get hc1 _root_.id) λh6 d6 f6 _=>ah.mB (x:=oZ.zero.s) (f6.get hc2 (by have:=aI hc1;omega)) λh7 d7 f7 _=> ?_
  rw[jy];have z4:=f4.1;have F7:Fr No h3 h7:=((f4.tt f5).fresh f6 (λy e=>by omega)).fresh f7 (λy e=>by omega);exact hk h7 X (E2.H.on (f3.tt F7)) (oU.bad hb nM (bN.nJ (F2.tt (f3.tt F7))))
 rw[hn] at hk;dsimp only at hk;refine ah.dI λb1 h4 uh hc1 f4=>ah.dI λb2 h5 FH hc2 f5=>ah.mB (x:=(⟨x.ep,n.1,n.2⟩:oZ).s) (f5.get hc1 _root_.id) λh6 d6 f6 _=>ah.mB (x:=(⟨σ.e,n.1,n.2⟩:oZ).s) (f6.get hc2 (by have:=aI hc1;omega)) λh7 d7 f7 _=> ?_
 rw[dM];have z1:=f1.1;have z2:=f2.1;have z3:=f3.1;have z4:=f4.1;have z5:=f5.1;have ars:b1≠b2:=by have:=aI hc1;omega
 have F37:Fr No h3 h7:=((f4.tt f5).fresh f6 (λy e=>by omega)).fresh f7 (λy e=>by omega);have F27:=f3.tt F37;have F7:=F2.tt F27;have aeU:=F27.get rT _root_.id;have d67:=f7.get d6 ars;have z37:=F37.1;refine oB x.dest aeU rfl rfl rfl rfl rfl (ah.jk (x:=(⟨x.ep,n.1,n.2⟩:oZ).s) d67 ⟨_,af aeU rfl,aC.j9 (x:=(⟨0,0,x.dest,.zero,⟨x.ep,n.1,n.2⟩,x.gJ⟩:Prim).s) λb3 h9 LQ hc3 f9=>⟨_,af (f9.get aeU _root_.id) rfl,aK.of λJ hJ=> ?_⟩⟩);have IZ:=f9.get aeU _root_.id;have d79:=f9.get d7 _root_.id;have z9:=f9.1;have ne3:b≠b3:=by have:=aI aeU;omega
 have art:b2≠b3:=by have:=aI d7;omega
 have fin: ∀g,aC.jx g b3 (vr x n).p.s->Fr (λy=>y=b3) h9 g->J g:=by
  intro g hp fg;subst hJ;have Fg9:Fr No h7 g:=f9.fresh fg (λy e=>by omega);have hbg:=fg.get IZ ne3;refine bO.jk (x:=x.as p c s ses) hbg (aC.jk (x:=(vr x n).p.s) hp ⟨_,_,_,af hbg rfl,aE.dI (x:=(⟨1,1,0,0,x.Bf⟩:xV).s p c) λb4 yj VA hc4 f11=>ah.jk (x:=(⟨σ.e,n.1,n.2⟩:oZ).s) (f11.get (fg.get d79 art) _root_.id) ?_⟩);have Qt:=F7.tt (Fg9.tt f11);have E11:=E.on Qt;refine ZH (b:=vr x n) (x:=x) (p:=p) (c:=c) E11 ⟨w2,?_,w1⟩ (arp (b:=⟨1,1,0,0,x.Bf⟩) hc4 (rx.frame Qt (λ_ _=>_root_.id)) cap) (by show 1<=_;omega) (λb' wG=>by rw[bW.1 wG];show x.Bf.length<=_;omega) hn λmF X12 H12 ahw=>⟨_,_,_,rfl,?_⟩
  ·show 0<=(if x.on=true then x.ep else Ev.zero).ma;split
   ·exact w1
   ·exact gh 0
  ·have st:=bN.no Qt ahw;have ao8:=st.fr.get hb nM;refine yV (z:=⟨id,0,(vB V σ ses (vr x n) n).num,0,0,none,0,0⟩) ao8 (by decide) rfl λGQ e13 f13=>yV (z:=⟨id,0,(vB V σ ses (vr x n) n).num,(vB V σ ses (vr x n) n).KE,0,none,0,0⟩) e13 (by decide) rfl λDw e14 f14=> ?_
   have no: ¬(X12.M bo\/X12.D bo):=λhm=>by
    have zo:=aI hb;rcases hm with a|a
    ·rcases st.rh bo a with a|a
     ·exact nM a
     ·omega
    ·rcases st.wL bo a with a|a
     ·exact nb (.inr a)
     ·omega
   refine hk Dw X12 (H12.frame (f13.tt f14) (λy hy e=>no (e▸hy))) (oU.of st (f13.tt f14) ⟨_,e14,λhe=>⟨none,0,?_,?_,?_⟩⟩)
   ·have:(vB V σ ses (vr x n) n).d= []:=by
     unfold vB;split
     ·rfl
     ·unfold BL;split<;>rfl
    rw[this];rfl
   ·have:(vB V σ ses (vr x n) n).d= []:=by
     unfold vB;split
     ·rfl
     ·unfold BL;split<;>rfl
    rw[this];exact Row.nil
   ·intro _ z hz;obtain⟨a,e,_⟩:=hz;cases e
 cases hon:x.on with
 |false=>
  rw[ai (by show¬x.on=true;rw[hon];decide)];refine fin h9 ?_ (Fr.refl _ _);have:(vr x n).p=⟨0,0,x.dest,.zero,⟨x.ep,n.1,n.2⟩,x.gJ⟩:=by unfold vr;rw[hon];rfl
  rw[this];exact hc3
 |true=>
  rw[ag (show x.on=true from hon)];refine oB x.ep IZ rfl rfl rfl rfl rfl (alA 131072 hc3 λGZ e15 f15=>⟨kpo f15 ne3 (by simp),arq x.ep e15 λvZ e16 f16=>fin vZ ?_ (f15.tt f16)⟩);have:(vr x n).p=⟨131072,0,x.dest,x.ep,⟨x.ep,n.1,n.2⟩,x.gJ⟩:=by unfold vr;rw[hon];rfl
  rw[this];exact e16
end Ask
end
section
namespace Bn
open Cb
open qJ (Ev dk uH)
variable {V:List UInt8→Bool} {h h0 h' g g0:aj} {R:iI} {D':Nat→Prop}
theorem tK:Ap Tryz.prog T.lP T.aE 5 56 (.agg #[.U 0,.U 0,.U 0,.I 0,.Z]):=⟨by kernel_rfl,by kernel_rfl,rfl⟩
theorem uK:Tryz.prog.underlying T.lP=some (.slice T.aE):=by kernel_rfl
theorem aeV {b:Nat} {x:BP} {q:bV} {cl:Nat} {p:Prim} {K:aj->Prop} (hb:aw.jx h b (x.s q cl)) (hk: ∀h',aw.jx h' b (BP.s ⟨p,x.bl⟩ q cl)->Fr (λy=>y=b) h h'->K h'):aC.dW h (AA b 0) p.s K:=
 (show gY (AA b 0) p.s.l 0 h K from wD (off:=0) (ws:=(BP.s ⟨p,x.bl⟩ q cl).l) hb (by show 0+20<=21;omega) rfl rfl λh1 d1 d2 d3=>hk h1 d1 (Fr.of_eq d2 λc hc=>d3 c hc))
theorem LJ {b:Nat} {y x:aw.S} {K:aw.S->aj->Prop} (hb:aw.jx h b y) (hk: ∀h',Fr (λy=>y=b) h h'->K x h'):
  aw.dW h (AA b 0) x λg=>aw.dh g (AA b 0) λr=>K r g:=
 aw.mB (x:=x) hb λg d1 f _=>aw.jk d1 (hk g f)
structure Bc (g0 g:aj) (bb:Nat) (p:Prim) (bs:List xV) (xs:List BB) (q:bV) (cl:Nat):Prop where
 dF:aw.jx g bb (BP.s ⟨p,bs⟩ q cl)
 own:iS g q xs.length cl 5 (xs.flatMap LH)
 ge: ∀y,aQ q y->g0.size<=y/\y≠bb
 eq:xs.map BB.b=bs
 ok: ∀x∈xs,BV.ok g (λy=>(g0.size<=y/\y≠bb)/\¬aQ q y) ⟨x.p,x.c,x.b.data⟩
 fr:Fr (λy=>y=bb) g0 g
theorem Bc.on {bb:Nat} {p:Prim} {bs:List xV} {xs:List BB} {q:bV} {cl:Nat} (L:Bc g0 g bb p bs xs q cl) (f:Fr No g h'):Bc g0 h' bb p bs xs q cl:=
 ⟨f.get L.dF id,L.own.frame f (λ_ _=>id),L.ge,L.eq,λx hx=>(L.ok x hx).frame f (λ_ _=>id),L.fr.on f⟩
theorem Bc.len {bb:Nat} {p:Prim} {bs:List xV} {xs:List BB} {q:bV} {cl:Nat} (L:Bc g0 g bb p bs xs q cl):xs.length=bs.length:=by rw[<-L.eq,aN]
theorem Bc.to {bb:Nat} {p:Prim} {bs:List xV} {xs:List BB} {q:bV} {cl:Nat} (L:Bc g0 g bb p bs xs q cl):qU g (λy=>g0.size<=y/\y≠bb) bs q bs.length cl xs:=
 ⟨L.eq,rfl,L.own.qa,λ_=>L.ge,by have:=L.own.le;have:=L.len;omega,λx hx=>(L.ok x hx).mono λy hy=>hy.1⟩
theorem aru {bb:Nat} {p:Prim} {bs:List xV} {xs:List BB} {q:bV} {cl l:Nat} {x:BB} {Φ:aj->Prop} (L:Bc g0 g bb p bs xs q cl) (hl:l=xs.length) (ll:xs.length<=1000000) (ox:BV.ok g (λy=>(g0.size<=y/\y≠bb)/\¬aQ q y) ⟨x.p,x.c,x.b.data⟩)
  (hk: ∀g' xs' q' DO,Bc g0 g' bb p (bs++ [x.b]) xs' q' DO->g.size<=g'.size->Φ g'):
  aV g (.cells x.s.arr T.aE) λeZ cX=>aX Tryz.prog (Builtin.append_ #[T.lP,T.lP] T.lP #[.slice q l cl,.slice (some (AA eZ 0)) 1 1]) cX λgS dB=>
   ∃qt pf rN,gS=.slice qt pf rN/\aH dB (AA bb 20) (.slice qt pf rN) λff=>Φ ff:=by
 subst hl;refine aE.dI λb2 h7 FH fJ f7=> ?_
 have z7:=f7.1;have zg:=L.fr.1;have zb2:=aI fJ;have zbb:=aI L.dF;have nq: ∀y,aQ q y->y<g.size:=λy hy=>L.own.gn hy
 refine fR tK uK (L.own.frame f7 (λ_ _=>id)) (ds:=LH x) (.inr ⟨_,rfl,aE.Lr (x:=x.s) fJ⟩) rfl (aeQ x) (by omega) (by omega) λq' DO yj o11 _ f11 g11=>⟨_,_,_,rfl,?_⟩
 have b11:=f11.get (f7.get L.dF id) (λhy=>(L.ge _ hy).2 rfl);refine bM b11 (by show 20<21;omega) λmF d1 d2 d3=> ?_
 have f12:Fr (λy=>y=bb) yj mF:=Fr.of_eq d2 (λc hc=>d3 c hc);have nq': ∀y,aQ q' y->g0.size<=y/\y≠bb:=λy hy=>by
  rcases g11 y hy with a|a
  ·exact L.ge y a
  ·omega
 have ef:xs.flatMap LH++LH x=(xs++ [x]).flatMap LH:=by rw[dJ,List.flatMap_singleton]
 have el:(bs++ [x.b]).length=xs.length+1:=by rw[aF,L.len];rfl
 refine hk mF (xs++ [x]) q' DO ⟨?_,?_,nq',?_,?_,?_⟩ ?_
 ·unfold aw.jx BP.s;rw[el];exact d1
 ·rw[aF,<-ef];exact o11.frame f12 (λy hy e=>by have:=nq' y hy;omega)
 ·rw[bm,L.eq];rfl
 ·intro y hy;have key: ∀w:BB,BV.ok g (λy=>(g0.size<=y/\y≠bb)/\¬aQ q y) ⟨w.p,w.c,w.b.data⟩->BV.ok mF (λy=>(g0.size<=y/\y≠bb)/\¬aQ q' y) ⟨w.p,w.c,w.b.data⟩:=λw ow=>by
   have o1:=((Sx ow).frame f7 (λ_ _=>id)).frame f11 (λy hy AW=>hy.1.2 AW);have o2:=o1.mono (D':=λy=>(g0.size<=y/\y≠bb)/\¬aQ q' y) (λy hy=>⟨hy.1.1,λAW=>by
    rcases g11 y AW with a|a
    ·exact hy.1.2 a
    ·have:=hy.2;omega⟩)
   exact o2.frame f12 (λy hy e=>by omega)
  rcases bU.1 hy with a|a
  ·exact key y (L.ok y a)
  ·rw[bW.1 a];exact key x ox
 ·exact((L.fr.on f7).trans f11 (S'':=λy=>y=bb) (λ_ _=>id) (λx hx hy=>by have:=L.ge x hy;omega)).trans f12 (λ_ _=>id) (λ_ _=>id)
 ·have:=f11.1;omega
theorem aeW {t:Tr} {b:xV} (h:Ki V t=.ok b):b.data.length<=200:=by
 unfold Ki at h;split at h
 ·cases h
 ·split at h
  ·split at h
   ·rename_i hw;split at h
    ·cases h;unfold DJ at hw;split at hw
     ·rename_i hr;exact(Hk hr).2.2.1
     ·cases hw
    ·cases h
   ·cases h
  ·cases h
theorem aeX {b:BP} (h:(vd V b).isSome=true):b.bl.length<=8/\b.bl≠ []:=by
 unfold vd at h;split at h
 ·rename_i hf;unfold Me at hf;split at hf
  ·cases hf
  ·rename_i hq;simp only[aW,bf] at hf;exact⟨hf.1.1,λe=>by rw[e] at hq;cases hq⟩
 ·cases h
def BP.zs:aw.S:=.z
theorem ZI {bs:List UInt8} {p:bV} {l c:Nat} (U:xQ V h0) (u:Fr No h0 h) (mx:Gj.Mx h) (row:Row h p (bc bs)) (hl:l=bs.length) (cap:bs.length<=c)
  (k1: ∀b,Fi V bs=.ok b->b.p.wf->(∀b'∈b.bl,b'.data.length<=200)->b.bl.length<=8->∀h' q cl xs,qU h' (λy=>h.size<=y) b.bl q b.bl.length cl xs->Fr No h h'->R (.tuple #[(b.s q cl).agg,.I 0]) h')
  (k2: ∀e,Fi V bs=.error e->e≠0->∀h',Fr No h h'->R (.tuple #[aw.S.z.agg,.I e]) h'):Cl F.qj #[.slice p l c] h R:=by
 subst hl;have hP:Fi V bs=Fi V bs:=rfl;conv at hP=>rhs;unfold Fi
 refine qj.walk (aw.dI λb h1 eb hb f1=> ?_);have zb:=aI hb;have z1:=f1.1;have no: ∀g e,Fr No h1 g->Fi V bs=.error e->e≠0->aw.dW g (AA b 0) .z λg'=>aw.dh g' (AA b 0) λr=>R (.tuple #[r.agg,.I e]) g':=λg e fg he hn=>
  LJ (fg.get hb id) λg' f=>k2 e he hn g' ((f1.tt fg).fresh f (λy e=>by omega))
 by_cases c0:bs.length<=1200
 case neg=>rw[ag (by simp only[bf];omega)];exact no h1 2 (Fr.refl _ _) (by rw[hP,ai c0]) (by decide)
 rw[dM];rw[ag c0] at hP;refine Ln (U.mono (u.tt f1)) (row.frame f1 (λ_ _=>id)) rfl cap (by omega) (λh3 t x nx hr tx f3=>aa.ex x.s ⟨_,_,rfl,aa.j9 (x:=x.s) λb1 h5 uh dx f5=> ?_⟩) (λh3 e he f3=>aa.ex zv.s ⟨_,_,rfl,aa.j9 (x:=zv.s) λb1 h5 uh dx f5=> ?_⟩)
 case refine_2=>
  rw[ag (by simpa using Dn he)];exact no h5 e (f3.tt f5) (by rw[hP,he]) (Dn he)
 rw[hr] at hP;dsimp only at hP;obtain⟨rt,nxl⟩:=JS hr;rw[dM];have F5:=f1.tt (f3.tt f5);obtain⟨xk,xn,xb,xl,xv,ys,L,TS⟩:=kU.kn (tx.u.on f5);have rl:=yU (t:=t);have ln:=TS.len;refine aK.of λJ hJ=> ?_
 have bad: ¬(nx=bs.length/\t.k=4/\2<=t.l.length/\t.l.length<=9)->J true h5:=λhn=>by
  subst hJ;dsimp only;rw[ag rfl];exact no h5 3 (f3.tt f5) (by rw[hP,ai hn]) (by decide)
 have sl:x.s.xP=t.l.length:=xl;by_cases c1:nx=bs.length
 case neg=>rw[ag (by simp only[fL,iq];omega)];exact bad (λe=>c1 e.1)
 rw[ai (by simp only[fL,iq];omega)];refine⟨_,af dx rfl,?_⟩;rw[show x.s.f0=t.k from xk];by_cases c2:t.k=4
 case neg=>rw[ag (by simpa using c2)];exact bad (λe=>c2 e.2.1)
 rw[ai (by simpa using c2)];refine⟨_,_,_,af dx rfl,?_⟩;by_cases c3:2<=t.l.length
 case neg=>rw[ag (by simp only[bf];omega)];exact bad (λe=>c3 e.2.2.1)
 rw[dM];refine⟨_,_,_,af dx rfl,?_⟩;by_cases c4:t.l.length<=9
 case neg=>rw[show decide ((x.s.xP:Int)>9)=true by simp only[bf];omega];exact bad (λe=>c4 e.2.2.2)
 rw[show decide ((x.s.xP:Int)>9)=false by simp only[decide_eq_false_iff_not];omega];clear bad;rw[ag ⟨c1,c2,c3,c4⟩] at hP;subst hJ;try dsimp only
 rw[dM];have z5:=F5.1;have z5':=(f3.tt f5).1;refine aw.dI λb2 h9 FH fJ f9=> ?_
 have z9:=f9.1;have zb2:=aI fJ;obtain⟨a0,y0,ea0,hh0,Yu,_⟩:=elem (L.frame f9 (λ_ _=>id)) (TS.on f9) (i:=0) (by omega);have r0:=sa (ts:=t.l) (i:=0) (by omega);have F9:=F5.tt f9;refine⟨_,_,_,af (f9.get dx id) rfl,⟨by omega,by omega⟩,cH.2 ⟨a0,ea0,aa.yT (x:=y0.s) hh0 ?_⟩⟩;refine aeM U (u.tt F9) (mx.on F9) Yu (by omega) (λpr hp wp vk f10=>aC.ex pr.s ⟨_,rfl,aeV (x:=⟨Prim.zero, []⟩) (p:=pr) (q:=none) (cl:=0) (f10.get fJ id) λyj d11 f11=> ?_⟩) (λe he hn vk f10=>aC.ex Prim.zero.s ⟨_,rfl,aeV (x:=⟨Prim.zero, []⟩) (p:=Prim.zero) (q:=none) (cl:=0) (f10.get fJ id) λyj d11 f11=> ?_⟩)
 case refine_2=>
  rw[ag (by simpa using hn)];exact no yj e ((f3.tt (f5.tt (f9.tt f10))).fresh f11 (λy e=>by omega)) (by rw[hP,he]) hn
 rw[dM];rw[hp] at hP;dsimp only at hP;have G11:Fr No h5 yj:=(f9.tt f10).fresh f11 (λy e=>by omega);refine⟨_,_,_,af (G11.get dx id) rfl,⟨by omega,by omega⟩,?_⟩;have e1:Int.toNat 1=1:=rfl;rw[e1,sl];refine⟨λt' g=> ∃(i:Nat) (out:List xV) (xs:List BB) (q:bV) (cl:Nat),t'=(i:Int)/\i+1<=t.l.length/\out.length=i/\Bc h5 g b2 pr out xs q cl/\(∀b'∈out,b'.data.length<=200)/\Fi V bs=(match RC V (t.l.drop (i+1)) out with| .error e=> .error e| .ok l=>if(vd V ⟨pr,l⟩).isSome=true then .ok ⟨pr,l⟩ else .error 3),λt' _=>t.l.length - 1 - t'.toNat,⟨0, [], [],none,0,rfl,by omega,rfl,⟨d11,.nil rfl rfl rfl rfl,(λy ⟨a,e,_⟩=>by cases e),rfl,(λx hx=>by cases hx),(f9.tt f10).mono (λ_ _=>False.elim)|>.tt f11⟩,(λx hx=>by cases hx),hP⟩,?_⟩;rintro _ g ⟨i,out,xs,q,cl,rfl,hi,ho,B,hd,he⟩;have FG:Fr No h5 g:=(Fr.refl _ _).fresh B.fr (λy e=>by omega);have G1:Fr No h1 g:=f3.tt (f5.tt FG);by_cases nR:i+1<t.l.length
 case neg=>
  rw[ai (λe=>nR (by have:=of_decide_eq_true e;omega))];rw[fM (by omega)] at he;have he:Fi V bs=if(vd V ⟨pr,out⟩).isSome=true then .ok ⟨pr,out⟩ else .error 3:=he
  refine aw.jk B.dF (Ox (b:=⟨pr,out⟩) wp U (u.tt (F5.tt FG)) (mx.on (F5.tt FG)) B.to (by show out.length<=_;omega) (λb' wG=>by have:=hd b' wG;omega) λh23 f23=>⟨_,rfl,?_⟩);cases hw:(vd V ⟨pr,out⟩).isSome with
  |false=>
   rw[jy];exact no h23 3 (G1.tt f23) (by rw[he,hw];rfl) (by decide)
  |true=>
   rw[hw,ag rfl] at he;rw[dM];refine aw.jk (f23.get B.dF id) (LJ ((G1.tt f23).get hb id) λg' f=>k1 ⟨pr,out⟩ he wp hd (aeX hw).1 g' q cl xs ?_ ((f1.tt (G1.tt f23)).fresh f (λy e=>by omega)));exact((B.to.on f23).frame f (λy hy e=>by omega)).mono λy hy=>by omega
 rw[jy];have ao9:t.l.drop (i+1)=at_ t.l (i+1)::t.l.drop (i+1+1):=by
  rw[db nR];unfold at_;rw[ba,au nR];rfl
 rw[ao9] at he;have hB: ∀t' l',RC V (t'::l') out=(match Ki V t' with| .error e=> .error e| .ok b=>RC V l' (out++ [b])):=λ_ _=>rfl
 rw[hB] at he;have Lg:=L.frame FG (λ_ _=>id);have cc:x.ll<=x.cl:=L.cap;have L2:xE g (λ_=>True) (da x.s.BO x.s.Ay 1 4) (t.l.length - 1) (x.s.Ay - 1) (ys.drop 1):=by
  have hr:=Lg.row.sub (cap:=x.cl) (l:=1) (u:=t.l.length) (sz:=4) (by omega) (by omega);rw[wu mK 4 jS,y8 mK 4 jS,bT (by omega)] at hr;exact⟨by rw[cg];omega,hr,λ_ _ _=>trivial,by show _<=x.cl - 1;omega⟩
 have T2:Mu g (t.l.drop 1) (ys.drop 1):=(TS.on FG).drop 1;obtain⟨a1,y1,Yw,V1,VE,_⟩:=elem L2 T2 (i:=i) (by rw[cg];omega);have ei:at_ (t.l.drop 1) i=at_ t.l (i+1):=by unfold at_;rw[ba,ba,iM,Nat.add_comm]
 rw[ei] at VE;have r1:=sa (ts:=t.l) (i:=i+1) nR;refine⟨⟨by omega,by omega⟩,cH.2 ⟨a1,Yw,aa.yT (x:=y1.s) (by rw[aL];exact V1) (aa.j9 (x:=y1.s) λb3 GZ LQ kT f15=>aa.jk kT ?_)⟩⟩;have zg:=FG.1;refine ahu U (u.tt (F5.tt (FG.tt f15))) (mx.on (F5.tt (FG.tt f15))) (VE.on f15) (by omega) (λbk hbk vZ p16 c16 ov f16=>aE.ex (bk.s p16 c16) ⟨_,rfl,aE.j9 (x:=bk.s p16 c16) λb4 Gm VA mb f18=> ?_⟩) (λe hE hn vZ f16=>aE.ex .z ⟨_,rfl,aE.j9 (x:=.z) λb4 Gm VA mb f18=> ?_⟩)
 case refine_2=>
  rw[ag (by simpa using hn)];exact no Gm e (G1.tt (f15.tt (f16.tt f18))) (by rw[he,hE]) hn
 rw[dM];rw[hbk] at he;dsimp only at he;have arv:=f15.tt (f16.tt f18);have VQ:=B.on arv;have z15:=f15.1;have nq: ∀y,aQ q y->y<g.size:=λy hy=>B.own.gn hy
 have zbg:=aI B.dF;refine⟨_,_,_,af VQ.dF rfl,aE.jk mb (aru (x:=⟨bk,p16,c16⟩) VQ (by show out.length=_;exact B.len.symm) (by have:=B.len;omega) ((ov.frame f18 (λ_ _=>id)).mono λy hy=>⟨by omega,λhq=>by have:=nq y hq;omega⟩) λg' xs' q' DO B' zg'=> ?_)⟩;rw[bL (n:=(i:Int)+1) (by omega) (by omega)];refine⟨⟨i+1,out++ [bk],xs',q',DO,by omega,by omega,by rw[aF,ho];rfl,B',λb' wG=> ?_,he⟩,by show t.l.length - 1 - Int.toNat ((i:Int)+1)<t.l.length - 1 - Int.toNat (i:Int);omega⟩;rcases bU.1 wG with a|a
 ·exact hd b' a
 ·rw[bW.1 a];exact aeW hbk
end Bn
end
section
namespace Ask
open qJ (Ev dk)
open gK (SS Good Pt GX Mk)
open Bn (oZ lD oB Lx Qs BP Prim xV qU BB vd Fi IF)
variable {V:List UInt8→Bool} {h h' h0 g:aj} {R:iI} {s k bo id c:Nat} {X X':Ft} {I:GX} {σ:SS} {p:bV} {ses:Int} {x:Rq} {D:Nat→Prop}
theorem bN.box {b:Nat} (st:bN X h X' h') (f:Fr (λy=>y=b) h' g) (hb:h.size<=b):bN X h X' g:=⟨st.fr.trans f (λ_ _ a=>a) (λc hc e=>by omega),st.rh,st.wL,st.Ix⟩
def aeY (σ:SS) (X:Ft) (I:GX) (s:Nat) (ses:Int) (dl:Nat) (x:Ev) (g:aj) (S:aJ.S) (e:Int) (h':aj):Prop:=
 ∃X' cU,Pt h' s X' I cU/\bN X g X' h'/\((¬hU.DM ses dl/\e=1/\cU=σ)\/(hU.DM ses dl/\hU.tO σ.C.L x=none/\e=4/\cU=σ)\/
  (hU.DM ses dl/\∃z,hU.tO σ.C.L x=some z/\e=0/\cU= { σ with C:=hU.xy σ.C z ses dl } /\∃p c,S.f0=(z.num:Int)/\S.IB=p/\S.IC=z.d.length/\S.ID=c/\Row h' p (bc z.d)/\z.d.length<=c/\∀y,aQ p y->g.size<=y/\¬X'.M y))
theorem LK (H:Pt g s X I σ) (G:gK.Good σ k) (hk:k<=30000) (x:Ev) (dl:Nat) {K:aJ.S->Int->aj->Prop} (hK: ∀S e h',aeY σ X I s ses dl x g S e h'->K S e h'):
  Cl F.iG #[pt I.c,x.s.agg,.I ses,.U (dl:Int)] g λv h'=>aJ.EX λS=> ∃e,v=.tuple #[S.agg,.I e]/\K S e h':=by
 obtain⟨Z,hz,zm,zd,go⟩:=H.use 2;have sm:=G.small H.ord (by omega);refine hU.aaS hz sm G.c.ok.bd x ses dl rfl (λhm g1 f1=> ?_) (λhm hn g1 f1=> ?_) (λhm z hz g1 Z1 p1 c1 C1 s1 r1 c1' n1=> ?_)
 ·exact aJ.ex .z ⟨_,rfl,hK _ _ _ ⟨X,σ,H.on f1,bN.nJ f1,.inl ⟨hm,rfl,rfl⟩⟩⟩
 ·exact aJ.ex .z ⟨_,rfl,hK _ _ _ ⟨X,σ,H.on f1,bN.nJ f1,.inr (.inl ⟨hm,hn,rfl,rfl⟩)⟩⟩
 ·obtain⟨X1,H1,st1,dd1,nn1⟩:=go g1 Z1 { σ with C:=hU.xy σ.C z ses dl } C1 s1 (λi hi=>gK.GY _ hi);exact aJ.ex ⟨(z.num:Int),z.e.vE,z.e.node,z.e.ma,z.e.host,z.e.sN,p1,z.d.length,c1,(z.cG:Int),ses,(dl:Int)⟩ ⟨_,rfl,hK _ _ _ ⟨X1,_,H1,st1,.inr (.inr ⟨hm,z,hz,rfl,rfl,p1,c1,rfl,rfl,rfl,rfl,r1,c1',λy hy=>⟨(n1 y hy).1,λhx=>(n1 y hy).2 (nn1 y (n1 y hy).1 (.inl hx))⟩⟩)⟩⟩
theorem ahx (E:En V h0 h s X I σ k) (ht:0<=x.kr/\x.kr<=1000000) (hb:aq.jx h bo (y0 id)) (nb: ¬(X.M bo\/X.D bo))
  (hk: ∀h' X',Pt h' s X' I (Ec V σ ses x).σ->oU X h bo id (Ec V σ ses x) X' h'->R (.I (Ec V σ ses x).e) h'):
  Cl F.qi #[(x.as p c s ses).agg,.P bo 0] h R:=by
 refine qi.walk (bO.dI (x:=x.as p c s ses) λb h1 eb dx f1=>bO.jk (x:=x.as p c s ses) dx (Qz (E.H.on f1) λh2 f2=>⟨_,rfl,?_⟩));have F2:=f1.tt f2;have E2:=E.on F2;have rT:=f2.get dx _root_.id;have nM: ¬X.M bo:=λe=>nb (.inl e)
 have zo:=aI hb;have z1:=f1.1;have z2:=f2.1;unfold Ec at hk;by_cases ho:j8.oS σ.G x.ep ses=0
 case neg=>
  rw[ai ho] at hk;rw[ag (by simpa using ho)];exact hk h2 X E2.H (oU.bad hb nM (bN.nJ F2))
 rw[ag ho] at hk;rw[ai (by simpa using ho)];refine aK.of λJ hJ=> ?_
 have fin: ∀(g h' g':aj) (S:aJ.S) (e:Int) (bx:Nat),aeY σ X I s ses (dlN σ x) x.ep g S e h'->Fr No h2 g->h.size<=bx->(bx<g.size\/h'.size<=bx)->aJ.jx g' bx S->Fr (λy=>y=bx) h' g'->J (some (AA bx 0)) e g':=by
  intro g h' g' S e bx L fg hbc dbc hS f;subst hJ;dsimp only;obtain⟨X',cU,H',st',c⟩:=L;have zg:=fg.1;have DI:=bN.no (F2.tt fg) st';have st:=bN.box DI f hbc;have UE: ∀y,X'.M y\/X'.D y->y≠bx:=λy hy e=>by
   have:=H'.lt y hy;rcases hy with a|a
   ·rcases st'.rh y a with a|a
    ·have:=E.H.lt y (.inl a);omega
    ·omega
   ·rcases st'.wL y a with a|a
    ·have:=E.H.lt y (.inr a);omega
    ·omega
  have Hg:=H'.frame f (λy hy e=>UE y hy e);rcases c with⟨hm,rfl,rfl⟩|⟨hm,hn,rfl,rfl⟩|⟨hm,z,hz,rfl,rfl,p1,c1,e0,e1,e2,e3,r1,cap,n1⟩
  ·rw[ai hm] at hk;rw[jy];exact hk g' X' Hg (oU.bad hb nM st)
  ·rw[ag hm,hn] at hk;rw[jy];exact hk g' X' Hg (oU.bad hb nM st)
  rw[ag hm,hz] at hk;dsimp only at hk;rw[dM];have rg:Row g' p1 (bc z.d):=by
   by_cases hd:z.d= []
   ·rw[hd];exact Row.nil
   ·refine r1.frame f (λa ea hx=> ?_);have h3:=n1 a.block ⟨a,ea,rfl⟩;have h4:=qO r1 (by simpa[bc] using hd) ⟨a,ea,rfl⟩;have hx:a.block=bx:=hx;omega
  have ug:=(E.u.step st).fr;have ac: ∀ {g2:aj} {i:Nat} {v:Value},Fr No g' g2->S.arr[i]? =some v->ak g2 (AA bx i)=some v:=λf2 hv=>af (f2.get hS _root_.id) hv
  have bcl:=aI hS;have hbo:=st.fr.get hb nM;have bne:bo≠bx:=by omega
  have rest: ∀(g5:aj) (b':BP) (q:bV) (cl:Nat) (xs:List BB) (D:Nat->Prop),qU g5 D b'.bl q b'.bl.length cl xs->b'.bl.length<=1000000->(∀y∈b'.bl,y.data.length<=80000)->(IF b').length=Vq V z.d->Fr No g' g5->
   aV g5 (.cells aw.S.z.arr T.aw) λcE cK=>
   aw.dW cK (AA cE 0) (b'.s q cl) λcR=>
   aP (some ((AA bx 0):Addr)) λpF=>
   ∃t52,ak cR pF=some (.I t52)/\
   aw.dh cR (AA cE 0) λt53=>
   aP (some ((AA bx 0):Addr)) λrZ=>
   ∃N0 N1 SV,ak cR (rZ.add 6)=some (.slice N0 N1 SV)/\
   Cl F.nW #[t53.agg] cR λgS cX=>
   ∃Ic CT KM,gS=.slice Ic CT KM/\
   Kp cR cX [(some (rZ.add 6)),(some pF)]/\
   aH cX (AA bo 2) (.I t52) λdB=>
   Kp cX dB [(some (rZ.add 6))]/\
   aH dB (AA bo 3) (.I (CT:Int)) λff=>
   Kp dB ff [(some (rZ.add 6))]/\
   aH ff (AA bo 5) (.slice N0 N1 SV) λcQ=>
   R (.I 0) cQ:=by
   intro g5 b' q cl xs D B hl hd hp f5;refine aw.j9 (x:=b'.s q cl) λb6 g6 eb6 RP f6=>aB.2 ⟨_,ac (i:=0) (f5.tt f6) rfl,aw.jk (x:=b'.s q cl) RP (aB.2 ⟨_,_,_,ac (i:=6) (f5.tt f6) rfl,Bn.VO (B.on f6) hl hd λg7 p7 c7 o7 n7 f7=>⟨_,_,_,rfl,f7.kp,?_⟩⟩)⟩
   have F7:=f5.tt (f6.tt f7);rw[hp,e0,e1,e2,e3];refine yV (z:=⟨id,0,(z.num:Int),0,0,none,0,0⟩) (F7.get hbo _root_.id) (by decide) rfl λg8 d8 f8=>⟨kpo f8 bne.symm (by simp;rfl),yV (z:=⟨id,0,(z.num:Int),(Vq V z.d:Int),0,none,0,0⟩) d8 (by decide) rfl λg9 d9 f9=>⟨kpo f9 bne.symm (by simp;rfl),yV (z:=⟨id,0,(z.num:Int),(Vq V z.d:Int),0,p1,z.d.length,c1⟩) d9 (by decide) rfl λg10 d10 f10=> ?_⟩⟩
   have fo:=f8.tt (f9.tt f10);have arw: ∀y,X'.M y\/X'.D y->y≠bo:=λy hy e=>by
    rcases hy with a|a
    ·rcases DI.rh y a with a|a
     ·exact nM (e▸a)
     ·omega
    ·rcases DI.wL y a with a|a
     ·exact nb (.inr (e▸a))
     ·omega
   refine hk g10 X' ((Hg.on F7).frame fo (λy hy e=>arw y hy e)) (oU.of (st.on F7) fo ⟨_,d10,λ_=>⟨p1,c1,rfl,?_,λ_ y hy=>⟨.inl (by have:=(n1 y hy).1;omega),(n1 y hy).2⟩⟩⟩);exact(rg.frame F7 (λ_ _=>_root_.id)).frame fo (λa ea hx=>by have h3:=(n1 a.block ⟨a,ea,rfl⟩).1;have hx:a.block=bo:=hx;omega)
  refine aB.2 ⟨_,_,_,ac (i:=6) (Fr.refl _ _) rfl,?_⟩;rw[e1,e2,e3];refine Bn.ZI E.U ug (E.mx.on ug) rg rfl cap (λb' wG w' hd' hl' h5 q cl xs B f5=>aw.ex (b'.s q cl) ⟨_,rfl,?_⟩) (λe he hn h5 f5=>aw.ex .z ⟨_,rfl,?_⟩)
  ·exact rest h5 b' q cl xs _ B (by omega) (λy hy=>by have:=hd' y hy;omega) (by unfold Vq;rw[wG]) f5
  ·exact rest h5 ⟨.zero, []⟩ none 0 [] (λ_=>True) ⟨rfl,rfl,Row.nil,λe=>absurd rfl e,bh _,λy hy=>by cases hy⟩ (by show 0<=_;omega) (λy hy=>by cases hy) (by unfold Vq;rw[he];rfl) f5
 have Tt: ¬X.M b:=E.nM (by omega);have eT:IntKind.wrap .u64 x.kr=(x.kr.toNat:Int):=by rw[wrap_u64 (by omega) (by omega)];omega
 have un: ∀ {g:aj} {K:Int->aj->Prop},K (dlN σ x:Int) g->Cl F.sE #[.U (σ.now:Int),.U (IntKind.wrap .u64 x.kr)] g λv g'=> ∃t,v=.U t/\K t g':=λhK=>by
  rw[eT];exact Ti σ.now x.kr.toNat E.G.n (by omega) ⟨_,rfl,hK⟩
 refine⟨_,af rT rfl,aB.2 ⟨_,af E2.H.dF rfl,oB x.ep rT rfl rfl rfl rfl rfl ⟨_,af rT rfl,_,af rT rfl,aB.2 ⟨_,af E2.H.dF rfl,_,af rT rfl,⟨?_,?_,trivial⟩⟩⟩⟩⟩
 ·refine un ⟨(Fr.refl (λ_=>False) _).kp,?_,?_,trivial⟩
  ·exact LK E2.H E.G E.hk x.ep (dlN σ x) λS e mF L=>⟨(by obtain⟨_,_,_,st,_⟩:=_root_.id L;exact kpx st.fr Tt (by simp)),aJ.dI λb2 GQ FH fJ f13=>⟨f13.kp,aJ.mB (x:=S) fJ λDw d14 f14 _=>fin h2 mF Dw S e b2 L (Fr.refl _ _) (by obtain⟨_,_,_,st,_⟩:=_root_.id L;have:=st.fr.1;omega) (.inr (by omega)) d14 (Fr.no f13 f14)⟩⟩
  ·refine aJ.dI λb3 GZ LQ kT f15=>⟨f15.kp,LK (E2.H.on f15) E.G E.hk x.ep (dlN σ x) λS e vZ L=> ?_⟩
   have z15:=f15.1;have zb3:=aI kT;exact⟨(by obtain⟨_,_,_,st,_⟩:=_root_.id L;exact kpx st.fr Tt (by simp)),aJ.mB (x:=S) (by obtain⟨_,_,_,st,_⟩:=_root_.id L;exact st.fr.get kT (E.nM (by omega))) λQr d17 f17 _=>fin GZ vZ Qr S e b3 L f15 (by omega) (.inl zb3) d17 f17⟩
 ·refine aJ.dI λb3 GZ LQ kT f15=>⟨f15.kp,un ⟨(Fr.refl (λ_=>False) _).kp,LK (E2.H.on f15) E.G E.hk x.ep (dlN σ x) λS e vZ L=> ?_⟩⟩
  have z15:=f15.1;have zb3:=aI kT;exact⟨(by obtain⟨_,_,_,st,_⟩:=_root_.id L;exact kpx st.fr Tt (by simp)),aJ.mB (x:=S) (by obtain⟨_,_,_,st,_⟩:=_root_.id L;exact st.fr.get kT (E.nM (by omega))) λQr d17 f17 _=>fin GZ vZ Qr S e b3 L f15 (by omega) (.inl zb3) d17 f17⟩
theorem KQ (E:En V h0 h s X I σ k) (hb:aq.jx h bo (y0 id)) (nb: ¬(X.M bo\/X.D bo))
  (hk: ∀h' X',Pt h' s X' I (Ha σ ses x.on).σ->oU X h bo id (Ha σ ses x.on) X' h'->R (.I (Ha σ ses x.on).e) h'):
  Cl F.oW #[(x.as p c s ses).agg,.P bo 0] h R:=by
 refine oW.walk (bO.dI (x:=x.as p c s ses) λb h1 eb dx f1=> ?_);have E1:=E.on f1;have nM: ¬X.M bo:=λe=>nb (.inl e)
 have zo:=aI hb;have Tt: ¬X.M b:=E.nM (by omega);obtain⟨Z,hz,zm,zd,go⟩:=E1.H.use 0;unfold Ha at hk;refine⟨_,af dx rfl,aB.2 ⟨_,af E1.H.dF rfl,_,af dx rfl,_,af dx rfl,gU.KQ hz E.G.a λh2 Z2 T2 s2=> ?_⟩⟩;obtain⟨X2,H2,AG,dd2,nn2⟩:=go h2 Z2 { σ with A:=gU.qT σ.A ses x.on } T2 s2 (λi hi=>gK.PJ _ hi);refine⟨_,rfl,kpx AG.fr Tt (by simp),aK.of λJ hJ=> ?_⟩;have DI:=bN.no f1 AG;by_cases he:gU.GP σ.A ses=0
 case neg=>
  rw[ai he] at hk;rw[ai (by simpa using he)];subst hJ;have eA:gU.qT σ.A ses x.on=σ.A:=by
   unfold gU.GP at he;unfold gU.qT;cases hs:gU.vo σ.A ses with
   |none=>rfl
   |some z=>rw[hs] at he;exact absurd rfl he
  rw[eA] at H2;exact hk h2 X2 H2 (oU.bad hb nM DI)
 rw[ag he] at hk;rw[ag (by rw[he];rfl)];have rT:=AG.fr.get dx Tt;have nb2: ¬X2.M b:=λhm=>by
  rcases AG.rh b hm with a|a
  ·exact Tt a
  ·have:=aI dx;omega
 obtain⟨Z3,hz3,zm3,zd3,go3⟩:=H2.use 0;refine⟨_,af rT rfl,aB.2 ⟨_,af H2.dF rfl,_,af rT rfl,gU.Fo hz3 (E.G.a.watch ses x.on) λh4 Z4 p4 c4 T4 s4 ok4=> ?_⟩⟩;obtain⟨X4,H4,Vh,dd4,nn4⟩:=go3 h4 Z4 { σ with A:=gU.Nr (gU.qT σ.A ses x.on) ses } T4 s4 (λi hi=>gK.PJ (σ:= { σ with A:=gU.qT σ.A ses x.on }) _ hi);have st:=DI.trans Vh;refine⟨_,_,_,_,_,rfl,kpx Vh.fr nb2 (by simp),?_⟩;have hbo:=st.fr.get hb nM;refine yV (z:=⟨id,0,0,0,0,p4,(gU.Nq (gU.qT σ.A ses x.on) ses).length,c4⟩) hbo (by decide) rfl λh5 d5 f5=>yV (z:=⟨id,0,0,gU.WJ (gU.qT σ.A ses x.on) ses,0,p4,(gU.Nq (gU.qT σ.A ses x.on) ses).length,c4⟩) d5 (by decide) rfl λh6 d6 f6=> ?_
 subst hJ;have fo:=f5.tt f6;have UE: ∀y,X4.M y\/X4.D y->y≠bo:=λy hy e=>by
  rcases hy with a|a
  ·rcases st.rh y a with a|a
   ·exact nM (e▸a)
   ·omega
  ·rcases st.wL y a with a|a
   ·exact nb (.inr (e▸a))
   ·omega
 refine hk h6 X4 (H4.frame fo (λy hy e=>UE y hy e)) (oU.of st fo ⟨_,d6,λ_=>⟨p4,c4,rfl,?_,λhd z hz=> ?_⟩⟩)
 ·have:=BV.ok.frame ok4 fo (λy hy e=>UE y (.inr (dd4 y hy)) e);exact this.row
 ·have h3:=dd4 z (ok4.own hd z hz);exact⟨(st.wL z h3).symm,λhm=>H4.GL z hm h3⟩
end Ask
end
section
namespace Bn
open Cb
open qJ (Ev dk uH)
variable {V:List UInt8→Bool} {h h0 h' g:aj} {R:iI} {D:Nat→Prop}
abbrev LP.s (r:LP):bX.S:=⟨r.rc,r.dl,r.de,r.reason,r.at',r.of.e.vE,r.of.e.node,r.of.e.ma,r.of.e.host,r.of.e.sN,r.of.tm,r.of.sq⟩
theorem abh (r:LP) (hk: ∀h',Fr No h h'->R (.bool (nB r)) h'):Cl F.tB #[r.s.agg] h R:=by
 refine tB.walk (bX.dI λb h1 eb hb f1=>⟨_,af hb rfl,?_⟩);have rest:(r.rc||r.dl||r.de)=true->∃t15,ak h1 (AA b 3)=some (.U t15)/\if(decide (t15<=255))=true then∃t20,ak h1 (AA b 4)=some (.U t20)/\if(decide (t20<=1099511627776))=true then ah.dh h1 (AA b 5) λt25=>Cl F.km #[t25.agg] h1 λv aZ=> ∃t26,v=.bool t26/\R (.bool t26) aZ else R (.bool false) h1 else R (.bool false) h1:=λhc=>by
  refine⟨_,af hb rfl,?_⟩;rw[show decide ((r.s.f3:Int)<=255)=decide (r.reason<=255) from vD r.reason 255];unfold nB at hk;rw[hc] at hk;by_cases c1:r.reason<=255
  case neg=>rw[ai (by simpa using c1)];rw[decide_eq_false c1] at hk;exact hk h1 f1
  rw[ag (ay c1)];rw[ay c1] at hk;refine⟨_,af hb rfl,?_⟩;rw[show decide ((r.s.f4:Int)<=1099511627776)=decide (r.at'<=1099511627776) from vD r.at' 1099511627776];by_cases c2:r.at'<=1099511627776
  case neg=>rw[ai (by simpa using c2)];rw[decide_eq_false c2] at hk;exact hk h1 f1
  rw[ag (ay c2)];rw[ay c2] at hk;exact Lx r.of hb rfl rfl rfl rfl rfl rfl rfl (DC r.of λh2 f2=>⟨_,rfl,hk h2 (f1.tt f2)⟩)
 cases c1:r.rc with
 |true=>rw[ag (show r.s.f0=true from c1)];exact rest (by rw[c1];rfl)
 |false=>
 rw[ai (show¬r.s.f0=true by rw[show r.s.f0=r.rc from rfl,c1];decide)];refine⟨_,af hb rfl,?_⟩;cases c2:r.dl with
 |true=>rw[ag (show r.s.f1=true from c2)];exact rest (by rw[c1,c2];rfl)
 |false=>
 rw[ai (show¬r.s.f1=true by rw[show r.s.f1=r.dl from rfl,c2];decide)];refine⟨_,af hb rfl,?_⟩;cases c3:r.de with
 |true=>rw[ag (show r.s.f2=true from c3)];exact rest (by rw[c1,c2,c3];rfl)
 |false=>
 rw[ai (show¬r.s.f2=true by rw[show r.s.f2=r.de from rfl,c3];decide)];have:=hk h1 f1;unfold nB at this;rw[c1,c2,c3] at this;exact this
abbrev bo (l:List Bool):List Value:=l.map λb=> .bool b
theorem aeZ {p:bV} {n c:Nat} {l:List Bool} (row:Row h p (bo l)) (hn:n=l.length) (hl:l.length<=100000)
  (hk: ∀h' z,Ef h' (λy=>h.size<=y) (RE l) z->Fr No h h'->R z.s.agg h'):Cl F.uy #[.slice p n c] h R:=by
 subst hn;refine uy.walk (aa.dI λb h1 eb hb f1=>rV (ts:= []) (ys:= []) (D:=λ_=>True) ⟨rfl,.inl rfl,λe=>absurd rfl e,bh _⟩ .nil (by simp[dZ]) λh2 z tz f2=>aa.ex z.s ⟨rfl,aa.j9 (x:=z.s) λb1 h4 uh dx f4=> ?_⟩);have zb:=aI hb;have z1:=f1.1;have z2:=f2.1;have z4:=f4.1;have PU:=aI dx;have F4:=f1.tt (f2.tt f4);have tz4:Ef h4 (λy=>h1.size<=y/\y≠b1) (DF []) z:=by
  obtain⟨⟨a1,a2,a3,a4⟩,zs,a5,a6,a7,a8⟩:=tz;refine⟨⟨a1,a2,a3,((Sx a4).mono λy hy=>by omega).frame f4 (λ_ _=>id)⟩,zs,a5,a6.frame f4 (λ_ _=>id),λy hy=>⟨a7 y hy,by have:=a6.gn hy;omega⟩,(dH.mono (λy hy=>by have h1:=hy.1.1;have h2:=hy.2;exact⟨⟨h1,by omega⟩,hy.1.2⟩) a8.lt).on f4⟩
 obtain⟨zs,ez,Lz⟩:=aeE (g0:=h1) tz4 dx ((f2.tt f4).mono λ_ _=>False.elim);have e4:z.k=4:=tz.1.1;have en:z.n=0:=tz.1.2.1;have e0:z.v.b= []:=tz.1.2.2.1;refine⟨λt g=> ∃(i:Nat) (ys:List CV) (q:bV) (cl:Nat),t=(i:Int)/\i<=l.length/\ys.length=i/\Lc h1 g b1 z.k z.n z.v ((l.take i).map λb=>num (if b=true then 1 else 0)) ys q cl,λt _=>l.length - t.toNat,⟨0,zs,z.q,z.cl,rfl,cp _,?_,by rw[fN];exact Lz⟩,?_⟩
 ·have:=Lz.tr.len;exact this.symm
 rintro _ g ⟨i,ys,q,cl,rfl,hi,hy,L⟩;by_cases nR:i<l.length
 case neg=>
  rw[ai (λe=>nR (by have:=of_decide_eq_true e;omega))];rw[bT (by omega)] at L;have Vy:z.v.ok g (λy=>h1.size<=y/\y≠b1):=⟨by rw[e0];exact Row.nil,λe=>absurd e0 e,tz.1.2.2.2.cap⟩;have tw:=aeF (k':=z.n) L Vy;rw[e4,en,e0] at tw;refine aa.jk (x:=CV.s ⟨z.k,z.n,z.v,q,ys.length,cl⟩) L.dF (fin (z:=⟨z.k,z.n,z.v,q,ys.length,cl⟩) (t:=RE l) (D:=λy=>h1.size<=y/\y≠b1) (L.fr.get hb (by omega)) (by rw[e4,en];exact tw) (λy hy e=>by omega) λg' tg fg=>hk g' _ (tg.mono λy hy=>by omega) ((f1.fresh L.fr (λy e=>by omega)).fresh fg (λy e=>by omega)))
 rw[jy];have FG:Fr No h g:=f1.fresh L.fr (λy e=>by omega);obtain⟨a,rfl⟩:=row.some (by intro e;have:=bp List.length e;rw[aN,bD] at this;omega);have hc:ak g (a.add (i*1))=some (.bool l[i]):=by
  have:=(row.frame FG (λ_ _=>id)).cell (j:=i) (v:=.bool l[i]) (by rw[aO,au nR];rfl);rw[cO];exact this
 refine⟨⟨by omega,by omega⟩,cH.2 ⟨a,rfl,_,hc,aK.of λJ hJ=> ?_⟩⟩;have go: ∀k:Nat,k=(if l[i]=true then 1 else 0)->J (k:Int) g:=by
  intro k ek;subst hJ;dsimp only;refine⟨_,_,_,af L.dF rfl,jw λh6 f6=>aa.ex (nv k).s ⟨rfl,f6.kp,?_⟩⟩;refine aeG (L.on f6) (by omega) (akP (n:=k)).toA λg' QR q' DO L' hl' _ _=> ?_
  rw[bL (n:=(i:Int)+1) (by omega) (by omega)];refine⟨⟨i+1,QR,q',DO,by omega,by omega,by omega,?_⟩,by show l.length - Int.toNat ((i:Int)+1)<l.length - Int.toNat (i:Int);omega⟩;rw[bZ,au nR,bm];rw[ek] at L';exact L'
 cases c:l[i] with
 |true=>rw[ag rfl];exact go 1 (by rw[c];rfl)
 |false=>rw[dM];exact go 0 (by rw[c];rfl)
theorem abi {r:LP} (hr:nB r=true):room (Pa r)<=1000:=by
 unfold nB at hr;simp only[aW,bf] at hr;have:=SZ r.of hr.2;simp only[Pa,RE,room,dZ,bD,cB,List.map_nil];omega
theorem ahy (r:LP) (w:0<=r.of.e.ma) (U:xQ V h0) (u:Fr No h0 h)
  (k1: ∀bs,aau V r=some bs->bs.length<=1000->∀h' p c,iS h' p bs.length c 1 (bc bs)->(∀y,aQ p y->h.size<=y)->Fr No h h'->R (.tuple #[.slice p bs.length c,.I 0]) h')
  (k2:aau V r=none->∀h',Fr No h h'->R (.tuple #[.Z,.I 3]) h'):Cl F.tn #[r.s.agg] h R:=by
 refine tn.walk (bX.dI λb h1 eb hb f1=>Lx r.of hb rfl rfl rfl rfl rfl rfl rfl (Yz r.of w λh2 z qz z0 z1 f2=>aa.ex z.s ⟨_,rfl,aa.j9 (x:=z.s) λb1 h4 uh dx f4=>aK.of λJ hJ=> ?_⟩));have mb:=(f2.tt f4).get hb id;have F4:=f1.tt (f2.tt f4);have bad: ∀g,Fr No h g->¬(nB r=true)->J true g:=λg fg hn=>by
  subst hJ;dsimp only;rw[ag rfl];exact k2 (by unfold aau;rw[ai (λe=>hn e.1)]) g fg
 by_cases hq:qz=0
 case neg=>
  rw[ag (by simpa using hq)];exact bad h4 F4 (λe=>hq (z1.2 (by unfold nB at e;simp only[aW] at e;exact e.2)))
 rw[ai (by simpa using hq)];have tz:=z0 hq;refine bX.jk mb (abh r λh5 f5=>⟨_,rfl,?_⟩);have F5:=F4.tt f5;cases hr:nB r with
 |false=>exact bad h5 F5 (by rw[hr];decide)
 |true=>
 clear bad;subst hJ;dsimp only;rw[dM];have DK:=f5.get mb id;have rm:=abi hr;refine⟨_,af DK rfl,_,af DK rfl,_,af DK rfl,_,af DK rfl,_,af DK rfl,aa.jk (f5.get dx id) ?_⟩;have rest: ∀g y,SW g (RE [r.rc,r.dl,r.de]) y->Fr No h5 g->∀ {kl kl1 kl2:List (bV)},Cl F.fI #[.U (r.reason:Int)] g λkV ff=>aa.EX λt30=>kV=t30.agg/\Kp g ff kl/\Cl F.fI #[.U (r.at':Int)] ff λou cQ=>aa.EX λt33=>ou=t33.agg/\Kp ff cQ kl1/\
   aV cQ (.cells (y.s.l++t30.l++t33.l++z.s.l).toArray T.aa) λjR cW=>Cl F.fO #[.slice (some (AA jR 0)) 4 4] cW λxw dE=>aa.EX λt36=>xw=t36.agg/\
   aV dE (.cells ((nv 1).s.l++t36.l).toArray T.aa) λpI dG=>Cl F.fO #[.slice (some (AA pI 0)) 2 2] dG λAU fD=>aa.EX λt38=>AU=t38.agg/\Cl F.mw #[t38.agg] fD λDN gE=>
   ∃Gc Gd Ge FB,DN=.tuple #[.slice Gc Gd Ge,.I FB]/\R (.tuple #[.slice Gc Gd Ge,.I FB]) gE:=by
  intro g y ty fg kl kl1 kl2;refine jw λh9 f9=>aa.ex (nv r.reason).s ⟨rfl,f9.kp,jw λvk f10=>aa.ex (nv r.at').s ⟨rfl,f10.kp,?_⟩⟩
  have G10:=fg.tt (f9.tt f10);have T4:Mu vk [RE [r.rc,r.dl,r.de],num r.reason,num r.at',idT r.of] [y,nv r.reason,nv r.at',z]:=.cons (ty.on (f9.tt f10)) (.cons xL (.cons xL (.cons (tz.on (f4.tt (f5.tt G10))) .nil)));have e2:room (Pa r)=27+dZ [RE [r.rc,r.dl,r.de],num r.reason,num r.at',idT r.of]:=by simp only[Pa,room,dZ,bD];omega
  refine AZ T4 (by omega) rfl rfl λmF w tw f12=>aa.ex w.s ⟨rfl,?_⟩
  have T2:Mu mF [num 1,DF [RE [r.rc,r.dl,r.de],num r.reason,num r.at',idT r.of]] [nv 1,w]:=two xL tw.u;refine AZ T2 (by simp only[dZ,room,bD] at e2⊢;omega) rfl rfl λDw w2 tw2 f14=>aa.ex w2.s ⟨rfl,?_⟩
  have F14:=F5.tt (G10.tt (f12.tt f14));refine Hd U (u.tt F14) tw2.toA (t:=Pa r) (by omega) (λe GZ p c o n f15=>⟨_,_,_,_,rfl,?_⟩) (λe GZ f15=>⟨_,_,_,_,rfl,?_⟩)
  ·have:=F14.1;exact k1 (enc (Pa r)) (by unfold aau;rw[ag ⟨hr,e⟩]) (by have:=rX (Pa r);omega) GZ p c o (λy hy=>by have:=n y hy;omega) (F14.tt f15)
  ·exact k2 (by unfold aau;rw[ai (λe'=>by rw[e] at e';cases e'.2)]) GZ (F14.tt f15)
 have apa: ∀ {g} {K:Nat->aj->Prop},(∀b h',Row h' (some (AA b 0)) (bo [r.rc,r.dl,r.de])->Fr No g h'->K b h')->aV g (.cells #[.bool r.s.f0,.bool r.s.f1,.bool r.s.f2] T.bool) K:=λhk=>cY (hk _ _ rW (Fr.push _ _))
 refine⟨?_,?_,trivial⟩
 ·refine jw (n:=1) λh6 f6=>aa.ex (nv 1).s ⟨rfl,f6.kp,apa λb2 h7 r7 f7=>⟨f7.kp,aeZ r7 rfl (by show 3<=_;omega) λh8 y ty f8=>aa.ex y.s ⟨rfl,f8.kp,rest h8 y ty.u (f6.tt (f7.tt f8)) (kl2:= [])⟩⟩⟩
 ·refine apa λb2 h7 r7 f7=>⟨f7.kp,jw (n:=1) λh6 f6=>aa.ex (nv 1).s ⟨rfl,f6.kp,aeZ (r7.frame f6 (λ_ _=>id)) rfl (by show 3<=_;omega) λh8 y ty f8=>aa.ex y.s ⟨rfl,f8.kp,rest h8 y ty.u (f7.tt (f6.tt f8)) (kl2:= [])⟩⟩⟩
theorem abj (r:LP) (dest:Ev) (id:oZ) (gJ:Nat) (w:0<=r.of.e.ma) (w1:0<=dest.ma) (w2:0<=id.e.ma) (U:xQ V h0) (u:Fr No h0 h) (mx:Gj.Mx h)
  (k1: ∀b,vA V r dest id gJ=some b->b.bl.length=1->b.p.wf->(∀b'∈b.bl,b'.data.length<=1000)->∀h' q cl xs,qU h' (λy=>h.size<=y) b.bl q b.bl.length cl xs->Fr No h h'->R (.tuple #[(b.s q cl).agg,.I 0]) h')
  (k2:vA V r dest id gJ=none->∀h',Fr No h h'->R (.tuple #[aw.S.z.agg,.I 3]) h'):Cl F.ny #[r.s.agg,dest.s.agg,id.s.agg,.U (gJ:Int)] h R:=by
 refine ny.walk (bX.dI λb h1 eb hb f1=>az.dI λb1 h2 uh dx f2=>ah.dI λb2 h3 FH fJ f3=>aw.dI λb3 h4 LQ kT f4=>bX.jk ((f2.tt (f3.tt f4)).get hb _root_.id) ?_);have F4:=f1.tt (f2.tt (f3.tt f4));have z4:=F4.1;have z1:=f1.1;have z3:=(f1.tt (f2.tt f3)).1;have zb3:=aI kT;refine ahy r w U (u.tt F4) (λbs hw lb h5 p c o n f5=>⟨_,_,_,_,rfl,?_⟩) (λhw h5 f5=>⟨_,_,_,_,rfl,?_⟩)
 case refine_2=>
  rw[jy];exact LJ (f5.get kT _root_.id) λg f=>k2 (by unfold vA;rw[hw]) g ((F4.tt f5).fresh f (λy e=>by omega))
 rw[dM];have F5:=F4.tt f5;have z5:=f5.1;refine az.jk (x:=dest.s) ((f3.tt (f4.tt f5)).get dx _root_.id) (ah.jk (x:=id.s) ((f4.tt f5).get fJ _root_.id) (aE.dI (x:=xV.s ⟨1,1,0,0,bs⟩ p c) λb4 h7 VA mb f7=>aw.dI λb5 h8 eb5 DK f8=> ?_));have hR:vA V r dest id gJ=if(vd V ⟨⟨2,0,dest,.zero,id,gJ⟩, [⟨1,1,0,0,bs⟩]⟩).isSome=true then some ⟨⟨2,0,dest,.zero,id,gJ⟩, [⟨1,1,0,0,bs⟩]⟩ else none:=by unfold vA;rw[hw]
 generalize hB:(⟨⟨2,0,dest,.zero,id,gJ⟩, [⟨1,1,0,0,bs⟩]⟩:BP)=B at hR;have e1:B.bl= [⟨1,1,0,0,bs⟩]:=by rw[<-hB]
 have ep:B.p.wf:=by rw[<-hB];exact⟨w1,gh 0,w2⟩
 have zb4:=aI mb;have zb5:=aI DK;have z7:=f7.1;have z8:=f8.1;have B8:qU h8 (λy=>h4.size<=y/\y≠b5) B.bl (some (AA b4 0)) B.bl.length 1 [⟨⟨1,1,0,0,bs⟩,p,c⟩]:=by
  rw[e1];refine⟨rfl,rfl,.inr ⟨_,rfl,aE.Lr (x:=xV.s ⟨1,1,0,0,bs⟩ p c) (f8.get mb _root_.id)⟩,λ_ y ⟨a,e,e'⟩=>by cases e;rw[<-e'];exact⟨by show h4.size<=b4;omega,by show b4≠b5;omega⟩,bh _,λx hx=> ?_⟩;rw[bW.1 hx];exact BV.wM ((o.frame f7 (λ_ _=>_root_.id)).frame f8 (λ_ _=>_root_.id)) (λy hy=>⟨n y hy,by have:=o.gn hy;omega⟩)
 have eS:(B.s (some (AA b4 0)) 1)=(⟨2,0,dest.s.f0,dest.s.f1,dest.s.f2,dest.s.f3,dest.s.f4,false,0,0,⟨#[]⟩,⟨#[]⟩,id.s.f0,id.s.f1,id.s.f2,id.s.f3,id.s.f4,id.s.f5,id.s.f6,gJ,(some (AA b4 0)),1,1⟩:aw.S):=by rw[<-hB];rfl
 rw[<-eS];refine aw.mB (x:=B.s (some (AA b4 0)) 1) DK λh9 d9 f9 _=>aw.jk d9 ?_
 have G9:Fr No h5 h9:=(f7.tt f8).fresh f9 (λy e=>by omega);have B9:=B8.frame f9 (λy hy e=>hy.2 e);refine Ox ep U (u.tt (F5.tt G9)) (mx.on (F5.tt G9)) B9 (by rw[e1];simp) (λb' wG=>by rw[e1] at wG;rw[bW.1 wG];show bs.length<=_;omega) λvk f10=>⟨_,rfl,?_⟩
 have ai8:=(f5.tt (G9.tt f10)).get kT _root_.id;have Nj:=F5.tt (G9.tt f10);cases hq:(vd V B).isSome with
 |false=>
  rw[jy];exact LJ ai8 λg f=>k2 (by rw[hR,hq];rfl) g (Nj.fresh f (λy e=>by omega))
 |true=>
  rw[dM];rw[hq,ag rfl] at hR;refine aw.jk (f10.get d9 _root_.id) (LJ ai8 λg f=>k1 B hR (by rw[e1];rfl) ep (λb' wG=>by rw[e1] at wG;rw[bW.1 wG];exact lb) g _ 1 [⟨⟨1,1,0,0,bs⟩,p,c⟩] ?_ (Nj.fresh f (λy e=>by omega)));exact((B9.on f10).frame f (λy hy e=>by omega)).mono λy hy=>by omega
end Bn
end
section
namespace Ask
open qJ (Ev dk)
open gK (SS Good Pt GX Mk)
open Bn (oZ lD oB Lx Qs BP Prim xV LP qU BB vd Fi IF vA)
variable {V:List UInt8→Bool} {h h' h0 g:aj} {R:iI} {s k c:Nat} {X X':Ft} {I:GX} {σ:SS} {p:bV} {ses:Int} {x:Rq} {D:Nat→Prop}
def NX (σ:SS) (x1 x2:oZ) (e:Int):Prop:=(e=0/\∃n,zW σ=some n/\x1=⟨σ.e,n.1,n.2⟩/\x2=⟨σ.e,n.1,n.2⟩)\/(e=5/\zW σ=none)
theorem Tu (H:Pt g s X I σ) {K:ah.S->aj->Prop} (hK: ∀g',Fr No g g'->K (⟨σ.e,σ.tm,σ.sq⟩:oZ).s g'):Cl F.gQ #[pt I.k] g λv g'=>ah.EX λt=>v=t.agg/\K t g':=
 gK.XD (Pt.mk' H) λg' f=>ah.ex (⟨σ.e,σ.tm,σ.sq⟩:oZ).s ⟨rfl,hK g' f⟩
theorem Dg (H:Pt g s X I σ) (G:gK.Good σ k) {K:ah.S->ah.S->Int->aj->Prop} (hK: ∀g' x1 x2 e,NX σ x1 x2 e->Fr No g g'->K x1.s x2.s e g'):
  Cl F.kj #[pt s,σ.e.s.agg] g λv g'=>ah.EX λt1=>ah.EX λt2=> ∃e,v=.tuple #[t1.agg,t2.agg,.I e]/\K t1 t2 e g':=
 FA H G σ.e (λn hn g' f=>ah.ex (⟨σ.e,n.1,n.2⟩:oZ).s (ah.ex (⟨σ.e,n.1,n.2⟩:oZ).s ⟨_,rfl,hK g' _ _ 0 (.inl ⟨rfl,n,hn,rfl,rfl⟩) f⟩)) (λhn g' f=>ah.ex (⟨σ.e,0,0⟩:oZ).s (ah.ex oZ.zero.s ⟨_,rfl,hK g' _ _ 5 (.inr ⟨rfl,hn⟩) f⟩))
theorem apb (E:En V h0 g s X I σ k) (P:Prim) (n:Nat×Nat) (w:P.wf) {K:aw.S->Int->aj->Prop}
  (hK: ∀g' (b:BP) q cl xs e,((e=0/\vA V ⟨false,true,false,0,σ.now,P.id⟩ P.rep ⟨σ.e,n.1,n.2⟩ P.gJ=some b/\b.p.wf/\b.bl.length=1/\(∀y∈b.bl,y.data.length<=80000)/\qU g' (λy=>g.size<=y) b.bl q b.bl.length cl xs)\/(e=3/\vA V ⟨false,true,false,0,σ.now,P.id⟩ P.rep ⟨σ.e,n.1,n.2⟩ P.gJ=none))->Fr No g g'->K (b.s q cl) e g'):
  Cl F.ny #[(⟨false,true,false,0,σ.now,P.id⟩:LP).s.agg,P.rep.s.agg,(⟨σ.e,n.1,n.2⟩:oZ).s.agg,.U (P.gJ:Int)] g λv g'=>aw.EX λt=> ∃e,v=.tuple #[t.agg,.I e]/\K t e g':=
 Bn.abj ⟨false,true,false,0,σ.now,P.id⟩ P.rep ⟨σ.e,n.1,n.2⟩ P.gJ w.2.2 w.2.1 E.G.e.2.2 E.U E.u.fr E.mxh
  (λb hb hl wb hd g' q cl xs B f=>aw.ex (b.s q cl) ⟨_,rfl,hK g' b q cl xs 0 (.inl ⟨rfl,hb,wb,hl,(λy hy=>by have:=hd y hy;omega),B⟩) f⟩)
  (λhn g' f=>aw.ex (BP.s ⟨.zero, []⟩ none 0) ⟨_,rfl,hK g' ⟨.zero, []⟩ none 0 [] 3 (.inr ⟨rfl,hn⟩) f⟩)
theorem apc {d:List UInt8} {q:bV} {cd:Nat} (E:En V h0 g s X I σ k) (row:Row g q (bc d)) (cap:d.length<=cd) {K:aw.S->Int->aj->Prop}
  (hK: ∀g' (b:BP) q' cl e,b.p.wf->(Il b.p=false->qN V σ ses d=(σ,0))->(Il b.p=true->Fi V d=.ok b)->Fr No g g'->K (b.s q' cl) e g'):
  Cl F.qj #[.slice q d.length cd] g λv g'=>aw.EX λt=> ∃e,v=.tuple #[t.agg,.I e]/\K t e g':=
 Bn.ZI E.U E.u.fr E.mxh row rfl cap
  (λb hb w hd hl g' q' cl xs B f=>aw.ex (b.s q' cl) ⟨_,rfl,hK g' b q' cl 0 w (λht=>by unfold qN;rw[hb];dsimp only;rw[ai (by rw[ht];decide)]) (λ_=>hb) f⟩)
  (λe he hn g' f=>aw.ex (BP.s ⟨.zero, []⟩ none 0) ⟨_,rfl,hK g' ⟨.zero, []⟩ none 0 e ⟨gh 0,gh 0,gh 0⟩ (λ_=>by unfold qN;rw[he]) (λht=>absurd ht (by rw[show Il Prim.zero=false by kernel_rfl];decide)) f⟩)
theorem ahz {d:List UInt8} {q:bV} {l cd:Nat} (E:En V h0 h s X I σ k) (row:Row h q (bc d)) (hl:l=d.length) (cap:d.length<=cd)
  (hk: ∀h' X',Pt h' s X' I (qN V σ ses d).1->bN X h X' h'->R (.I (qN V σ ses d).2) h'):
  Cl F.qk #[(x.as p c s ses).agg,.slice q l cd] h R:=by
 subst hl;refine qk.walk (bO.dI (x:=x.as p c s ses) λb h1 eb dx f1=> ?_);refine apc (ses:=ses) (E.on f1) (row.frame f1 (λ_ _=>id)) cap λh2 b' q' cl e0 w tp0 tp1 f2=>aw.j9 (x:=b'.s q' cl) λb3 h4 LQ kT f4=>Bn.pld kT (aC.j9 (x:=b'.p.s) λb4 h6 VA mb f6=>aK.of λJ hJ=> ?_)
 have F6:=f1.tt (f2.tt (f4.tt f6));have E6:=E.on F6;have Qy:=(f2.tt (f4.tt f6)).get dx id;have dn: ∀g,Fr No h g->qN V σ ses d=(σ,0)->R (.I 0) g:=λg fg e=>by rw[e] at hk;exact hk g X (E.H.on fg) (bN.nJ fg)
 have key: ∀v,v= !Il b'.p->J v h6:=by
  intro v hv;subst hv;subst hJ;dsimp only;cases ht:Il b'.p with
  |false=>rw[jy];exact dn h6 F6 (tp0 ht)
  |true=>
  rw[dM];have hbR:=tp1 ht;refine aK.of λJ1 pB=> ?_
  have arx: ∀(g:aj) (bi bw:Nat) (x1 x2:oZ) (e:Int),NX σ x1 x2 e->ah.jx g bi x1.s->ah.jx g bw x2.s->Fr No h6 g->J1 (some (AA bi 0)) (some (AA bw 0)) e g:=by
   intro g bi bw x1 x2 e nx hi hw fg;subst pB;dsimp only;rcases nx with⟨rfl,n,hn,rfl,rfl⟩|⟨rfl,hn⟩
   case inr=>
    rw[jy];exact dn g (F6.tt fg) (by unfold qN;rw[hbR];dsimp only;rw[ag ht,hn])
   rw[dM];have Eg:=E6.on fg;have agH:=fg.get Qy id;have alB:=fg.get mb id;refine aK.of λJ2 zY=> ?_
   have apd: ∀(g5:aj) (b5:BP) (q:bV) (cl:Nat) (xs:List BB) (D:Nat->Prop) (br:Nat) (e:Int),((e=0/\vA V ⟨false,true,false,0,σ.now,b'.p.id⟩ b'.p.rep ⟨σ.e,n.1,n.2⟩ b'.p.gJ=some b5/\b5.p.wf/\b5.bl.length=1/\(∀y∈b5.bl,y.data.length<=80000)/\qU g5 D b5.bl q b5.bl.length cl xs)\/(e=3/\vA V ⟨false,true,false,0,σ.now,b'.p.id⟩ b'.p.rep ⟨σ.e,n.1,n.2⟩ b'.p.gJ=none))->
     aw.jx g5 br (b5.s q cl)->Fr No g g5->J2 e (some (AA br 0)) g5:=by
    intro g5 b5 q cl xs D br e sp hr f5;subst zY;dsimp only;rcases sp with⟨rfl,hs,wb,hl,hd,B⟩|⟨rfl,hs⟩
    case inr=>
     rw[jy];exact dn g5 (F6.tt (fg.tt f5)) (by unfold qN;rw[hbR];dsimp only;rw[ag ht,hn];dsimp only;rw[hs])
    rw[dM];refine bO.jk (x:=x.as p c s ses) (f5.get agH id) (aB.2 (aw.jk (x:=b5.s q cl) hr (aB.2 (ah.jk (x:=(⟨σ.e,n.1,n.2⟩:oZ).s) (f5.get hw id) (ZH (b:=b5) (x:=x) (p:=p) (c:=c) (ses:=ses) (Eg.on f5) wb B (by omega) hd hn λh9 X9 H9 st9=>⟨_,_,_,rfl,?_⟩)))));have eQ:qN V σ ses d=((vB V σ ses b5 n).σ,if(vB V σ ses b5 n).e=0 then 1 else 0):=by unfold qN;rw[hbR];dsimp only;rw[ag ht,hn];dsimp only;rw[hs]
    rw[eQ] at hk;have hk:=hk h9 X9 H9 (bN.no (F6.tt (fg.tt f5)) st9);by_cases c0:(vB V σ ses b5 n).e=0
    ·rw[ai (by simpa using c0)];rw[ag c0] at hk;exact hk
    ·rw[ag (by simpa using c0)];rw[ai c0] at hk;exact hk
   refine⟨_,af agH rfl,aB.2 ⟨_,af Eg.H.dF rfl,Lx b'.p.id alB rfl rfl rfl rfl rfl rfl rfl (oB b'.p.rep alB rfl rfl rfl rfl rfl (aB.2 (ah.jk (x:=(⟨σ.e,n.1,n.2⟩:oZ).s) hi ⟨_,af alB rfl,?_,?_,trivial⟩)))⟩⟩
   ·refine apb Eg b'.p n w λg2 b5 q cl xs e sp u2=>⟨u2.kp,aw.dI λbr g3 er hr u3=>⟨u3.kp,aw.mB (x:=b5.s q cl) hr λg4 d4 u4 _=> ?_⟩⟩
    have U4:Fr No g2 g4:=u3.fresh u4 (λy e=>by omega);refine apd g4 b5 q cl xs (λy=>g.size<=y) br e ?_ d4 (u2.tt U4);rcases sp with⟨a1,a2,a3,a4,a5,a6⟩|a
    ·exact .inl ⟨a1,a2,a3,a4,a5,a6.on U4⟩
    ·exact .inr a
   ·refine aw.dI λbr g3 er hr u3=>⟨u3.kp,apb (Eg.on u3) b'.p n w λg2 b5 q cl xs e sp u2=>⟨u2.kp,aw.mB (x:=b5.s q cl) (u2.get hr id) λg4 d4 u4 _=> ?_⟩⟩
    have zr:=aI hr;have U4:Fr No g g4:=(u3.tt u2).fresh u4 (λy e=>by omega);refine apd g4 b5 q cl xs (λy=>g3.size<=y) br e ?_ d4 U4;rcases sp with⟨a1,a2,a3,a4,a5,a6⟩|a
    ·exact .inl ⟨a1,a2,a3,a4,a5,a6.frame u4 (λy hy e=>by omega)⟩
    ·exact .inr a
  have I0: ∀(g:aj) (bi bw:Nat) (y1 y2:ah.S) (x1 x2:oZ) (e:Int),NX σ x1 x2 e->ah.jx g bi y1->ah.jx g bw y2->bi≠bw->h6.size<=bi->h6.size<=bw->Fr No h6 g->
    ah.dW g (AA bi 0) x1.s λg1=>ah.dW g1 (AA bw 0) x2.s λg2=>J1 (some (AA bi 0)) (some (AA bw 0)) e g2:=by
   intro g bi bw y1 y2 x1 x2 e nx hi hw ne zi zw fg;exact ah.mB (x:=x1.s) hi λg1 d1 u1 _=>ah.mB (x:=x2.s) (u1.get hw ne.symm) λg2 d2 u2 _=>arx g2 bi bw x1 x2 e nx (u2.get d1 ne) d2 ((fg.fresh u1 (λy e=>by omega)).fresh u2 (λy e=>by omega))
  have lt: ∀ {g:aj} {b:Nat} {y:ah.S},ah.jx g b y->b<g.size:=λh=>aI h
  have le: ∀ {g g':aj},Fr No g g'->g.size<=g'.size:=λf=>f.1
  refine⟨_,af Qy rfl,_,af Qy rfl,aB.2 ⟨_,af E6.H.dF rfl,?_,?_,?_,trivial⟩⟩
  ·refine Tu E6.H λg1 u1=>⟨u1.kp,?_,?_,?_,trivial⟩
   ·refine Dg (E6.H.on u1) E.G λg2 x1 x2 e nx u2=>⟨u2.kp,?_,?_,trivial⟩
    ·exact ah.dI λb5 g3 e5 c5 u3=>⟨u3.kp,ah.dI λb6 g4 e6 c6 u4=>⟨u4.kp,I0 g4 b5 b6 _ _ x1 x2 e nx (u4.get c5 id) c6 (by have:=lt c5;omega) (by have:=le u1;have:=le u2;omega) (by have:=le u1;have:=le u2;have:=le u3;omega) (u1.tt (u2.tt (u3.tt u4)))⟩⟩
    ·exact ah.dI λb5 g3 e5 c5 u3=>⟨u3.kp,ah.dI λb6 g4 e6 c6 u4=>⟨u4.kp,I0 g4 b6 b5 _ _ x1 x2 e nx c6 (u4.get c5 id) (by have:=lt c5;omega) (by have:=le u1;have:=le u2;have:=le u3;omega) (by have:=le u1;have:=le u2;omega) (u1.tt (u2.tt (u3.tt u4)))⟩⟩
   ·refine ah.dI λb5 g3 e5 c5 u3=>⟨u3.kp,?_,?_,trivial⟩
    ·exact Dg (E6.H.on (u1.tt u3)) E.G λg2 x1 x2 e nx u2=>⟨u2.kp,ah.dI λb6 g4 e6 c6 u4=>⟨u4.kp,I0 g4 b5 b6 _ _ x1 x2 e nx ((u2.tt u4).get c5 id) c6 (by have:=lt c5;have:=le u2;omega) (by have:=le u1;omega) (by have:=le u1;have:=le u2;have:=le u3;omega) (u1.tt (u3.tt (u2.tt u4)))⟩⟩
    ·exact ah.dI λb6 g4 e6 c6 u4=>⟨u4.kp,Dg (E6.H.on (u1.tt (u3.tt u4))) E.G λg2 x1 x2 e nx u2=>⟨u2.kp,I0 g2 b5 b6 _ _ x1 x2 e nx ((u4.tt u2).get c5 id) (u2.get c6 id) (by have:=lt c5;omega) (by have:=le u1;omega) (by have:=le u1;have:=le u3;omega) (u1.tt (u3.tt (u4.tt u2)))⟩⟩
   ·refine ah.dI λb5 g3 e5 c5 u3=>⟨u3.kp,?_,?_,trivial⟩
    ·exact Dg (E6.H.on (u1.tt u3)) E.G λg2 x1 x2 e nx u2=>⟨u2.kp,ah.dI λb6 g4 e6 c6 u4=>⟨u4.kp,I0 g4 b6 b5 _ _ x1 x2 e nx c6 ((u2.tt u4).get c5 id) (by have:=lt c5;have:=le u2;omega) (by have:=le u1;have:=le u2;have:=le u3;omega) (by have:=le u1;omega) (u1.tt (u3.tt (u2.tt u4)))⟩⟩
    ·exact ah.dI λb6 g4 e6 c6 u4=>⟨u4.kp,Dg (E6.H.on (u1.tt (u3.tt u4))) E.G λg2 x1 x2 e nx u2=>⟨u2.kp,I0 g2 b6 b5 _ _ x1 x2 e nx (u2.get c6 id) ((u4.tt u2).get c5 id) (by have:=lt c5;omega) (by have:=le u1;have:=le u3;omega) (by have:=le u1;omega) (u1.tt (u3.tt (u4.tt u2)))⟩⟩
  ·refine ah.dI λb5 g3 e5 c5 u3=>⟨u3.kp,?_,?_,trivial⟩
   ·refine Tu (E6.H.on u3) λg1 u1=>⟨u1.kp,?_,?_,trivial⟩
    ·exact Dg (E6.H.on (u3.tt u1)) E.G λg2 x1 x2 e nx u2=>⟨u2.kp,ah.dI λb6 g4 e6 c6 u4=>⟨u4.kp,I0 g4 b5 b6 _ _ x1 x2 e nx ((u1.tt (u2.tt u4)).get c5 id) c6 (by have:=lt c5;have:=le u1;have:=le u2;omega) (by omega) (by have:=le u1;have:=le u2;have:=le u3;omega) (u3.tt (u1.tt (u2.tt u4)))⟩⟩
    ·exact ah.dI λb6 g4 e6 c6 u4=>⟨u4.kp,Dg (E6.H.on (u3.tt (u1.tt u4))) E.G λg2 x1 x2 e nx u2=>⟨u2.kp,I0 g2 b5 b6 _ _ x1 x2 e nx ((u1.tt (u4.tt u2)).get c5 id) (u2.get c6 id) (by have:=lt c5;have:=le u1;omega) (by omega) (by have:=le u1;have:=le u3;omega) (u3.tt (u1.tt (u4.tt u2)))⟩⟩
   ·exact ah.dI λb6 g4 e6 c6 u4=>⟨u4.kp,Tu (E6.H.on (u3.tt u4)) λg1 u1=>⟨u1.kp,Dg (E6.H.on (u3.tt (u4.tt u1))) E.G λg2 x1 x2 e nx u2=>⟨u2.kp,I0 g2 b5 b6 _ _ x1 x2 e nx ((u4.tt (u1.tt u2)).get c5 id) ((u1.tt u2).get c6 id) (by have:=lt c5;omega) (by omega) (by have:=le u3;omega) (u3.tt (u4.tt (u1.tt u2)))⟩⟩⟩
  ·refine ah.dI λb5 g3 e5 c5 u3=>⟨u3.kp,?_,?_,trivial⟩
   ·refine Tu (E6.H.on u3) λg1 u1=>⟨u1.kp,?_,?_,trivial⟩
    ·exact Dg (E6.H.on (u3.tt u1)) E.G λg2 x1 x2 e nx u2=>⟨u2.kp,ah.dI λb6 g4 e6 c6 u4=>⟨u4.kp,I0 g4 b6 b5 _ _ x1 x2 e nx c6 ((u1.tt (u2.tt u4)).get c5 id) (by have:=lt c5;have:=le u1;have:=le u2;omega) (by have:=le u1;have:=le u2;have:=le u3;omega) (by omega) (u3.tt (u1.tt (u2.tt u4)))⟩⟩
    ·exact ah.dI λb6 g4 e6 c6 u4=>⟨u4.kp,Dg (E6.H.on (u3.tt (u1.tt u4))) E.G λg2 x1 x2 e nx u2=>⟨u2.kp,I0 g2 b6 b5 _ _ x1 x2 e nx (u2.get c6 id) ((u1.tt (u4.tt u2)).get c5 id) (by have:=lt c5;have:=le u1;omega) (by have:=le u1;have:=le u3;omega) (by omega) (u3.tt (u1.tt (u4.tt u2)))⟩⟩
   ·exact ah.dI λb6 g4 e6 c6 u4=>⟨u4.kp,Tu (E6.H.on (u3.tt u4)) λg1 u1=>⟨u1.kp,Dg (E6.H.on (u3.tt (u4.tt u1))) E.G λg2 x1 x2 e nx u2=>⟨u2.kp,I0 g2 b6 b5 _ _ x1 x2 e nx ((u1.tt u2).get c6 id) ((u4.tt (u1.tt u2)).get c5 id) (by have:=lt c5;omega) (by have:=le u3;omega) (by omega) (u3.tt (u4.tt (u1.tt u2)))⟩⟩⟩
 refine⟨_,af mb rfl,?_⟩;split
 ·rename_i c0;exact key true (by have:adF (b'.p.fl:Int) 131072=true:=c0;unfold Il;rw[this];rfl)
 ·rename_i c0;refine⟨_,af mb rfl,key _ ?_⟩;have:adF (b'.p.fl:Int) 131072=false:=by
   cases hh:adF (b'.p.fl:Int) 131072 with
   |true=>exact absurd hh c0
   |false=>rfl
  unfold Il;rw[this];rfl
end Ask
end
section
namespace Ask
open qJ (Ev dk)
open gK (SS Good Pt GX Mk)
open hU (CV PL lj)
variable {V:List UInt8→Bool} {h h' h0 g:aj} {R:iI} {s k bo ri c:Nat} {X X':Ft} {I:GX} {σ:SS} {p:bV} {ses:Int} {x:Rq} {D:Nat→Prop} {o:Ot}
theorem CN {ys:List CV} {b n m:Nat} {q:bV} (o:iS h q ys.length m 10 (ys.flatMap PL)) (hn:n=ys.length) (hl:ys.length<=1000000) (hb:bO.jx h b (x.as p c s ses)) (hk: ∀h',Fr No h h'->R (.I (idxOf (λy:CV=>decide ((y.num:Int)=x.num)) ys)) h'):
  Cl F.dN #[.slice q n m,.func (.func F.jO) #[] #[.P b 0]] h R:=by
 refine dN.ack.walk (Tm (λy:CV=>decide ((y.num:Int)=x.num)) (λt g K=>((0:Int)<=t/\t<(n:Int))/\aP q λa=>aJ.dh g (a.add (Int.toNat t*10)) λt15=>
  Cl F.jO #[t15.agg,.P b 0] g λv g2=> ∃t,v=.bool t/\K t g2) hn (by omega) (λj g0 y K hy f hK=> ?_) hk)
 have lt:=(aG.1 hy).1;have o1:=o.frame f (λ_ _=>id);obtain⟨pb,po,rfl⟩:=o1.addr (by omega);have hh:=o1.lu lj hy;refine⟨⟨by omega,by omega⟩,aB.2 (aJ.yT (x:=⟨(y.num:Int),y.e.vE,y.e.node,y.e.ma,y.e.host,y.e.sN,y.v.p,y.v.b.length,y.v.c,(y.cG:Int),y.ses,(y.dl:Int)⟩) (by rw[aL];exact hh) (jO.walk (aJ.dI λb1 h1 uh dx f1=>⟨_,af dx rfl,_,af ((f.tt f1).get hb id) rfl,_,rfl,?_⟩)))⟩;have e:((y.num:Int)==x.num)=decide ((y.num:Int)=x.num):=by by_cases q:(y.num:Int)=x.num<;>simp[q]
 show K ((y.num:Int)==x.num) h1;rw[e];exact hK h1 (f.tt f1)
theorem ae0 {ys:List CV} {num:Int} {z:hU.Cp} (h:hU.GV (ys.map CV.abs) num=some z): ∃(i:Nat) (y:CV),idxOf (λy:CV=>decide ((y.num:Int)=num)) ys=(i:Int)/\ys[i]? =some y/\y.abs=z:=by
 unfold hU.GV at h;rw[List.find?_map] at h;obtain⟨y,hy,rfl⟩:=Option.map_eq_some_iff.1 h;have hy:ys.find? (λy:CV=>decide ((y.num:Int)=num))=some y:=hy;obtain⟨h1,i,hi,rfl,h3⟩:=List.find?_eq_some_iff_getElem.1 hy;refine⟨i,ys[i],?_,au hi,rfl⟩;have:ys.findIdx? (λy:CV=>decide ((y.num:Int)=num))=some i:=cP.2 ⟨hi,h1,λj hj=>by simpa using h3 j hj⟩;unfold idxOf;rw[this]
theorem Va (E:En V h0 h s X I σ k) (QL:k+1<=30000) (hb:aq.jx h bo (y0 ri)) (nb: ¬(X.M bo\/X.D bo))
  (hk: ∀h' X',Pt h' s X' I (Mr V σ ses x.num).σ->oU X h bo ri (Mr V σ ses x.num) X' h'->R (.I (Mr V σ ses x.num).e) h'):
  Cl F.rq #[(x.as p c s ses).agg,.P bo 0] h R:=by
 refine rq.walk (bO.dI (x:=x.as p c s ses) λb h1 eb dx f1=> ?_);have E1:=E.on f1;have nM: ¬X.M bo:=λe=>nb (.inl e)
 have zo:=aI hb;have Tt: ¬X.M b:=E.nM (by omega);obtain⟨Z,hz,zm,zd,go⟩:=E1.H.use 2;have sm:=E.G.small E.H.ord (by have:=E.hk;omega);have z1:=f1.1;refine⟨_,af dx rfl,aB.2 ⟨_,af E1.H.dF rfl,hU.Xv hz sm (λz hz=>(E.G.c.ok.bd z hz).2.2) λh2 q2 c2 ys o2 a2 r2 n2 f2=>⟨_,_,_,rfl,?_⟩⟩⟩;have E2:=E1.on f2;have rT:=f2.get dx id;obtain⟨Z,hz,zm,zd,go⟩:=E2.H.use 2;have hG:=E.G.c;refine⟨_,af rT rfl,aB.2 ⟨_,af E2.H.dF rfl,_,af rT rfl,_,af rT rfl,hU.Va hz sm (by have:=hG.L;have:=E.hk;omega) x.num ses λh3 Z3 C3 s3=> ?_⟩⟩;obtain⟨X3,H3,Gk,dd3,nn3⟩:=go h3 Z3 { σ with C:=hU.vY σ.C x.num ses } C3 s3 (λi hi=>gK.GY _ hi);refine⟨_,rfl,kpx Gk.fr Tt (by simp),?_⟩;have new: ∀y,h1.size<=y->¬X.M y:=λy hy=>E.nM (by omega)
 have o3:=o2.frame Gk.fr (λy hy=>new y (n2 y hy));have qx:=Gk.fr.get rT Tt;have F2:=f1.tt f2;have ll:ys.length<=30000:=by
  have e1:=bp List.length a2;rw[aN] at e1;have e2:=hG.L;have e3:=E.hk;omega
 refine CN o3 rfl (by omega) qx λh4 f4=>⟨_,rfl,?_⟩
 have st:=(bN.no F2 Gk).on f4;have H4:=H3.on f4;refine aK.of λJ hJ=> ?_
 unfold Mr at hk;by_cases he:hU.pV σ.C.L x.num ses=0
 case neg=>
  rw[ai he] at hk;rw[ai (by simpa using he)];subst hJ;dsimp only;refine aK.of λJ1 pB=> ?_
  rw[dM];subst pB;have eC:hU.vY σ.C x.num ses=σ.C:=by unfold hU.vY;rw[ai he]
  rw[eC] at H4;exact hk h4 X3 H4 (oU.bad hb nM st)
 rw[ag he] at hk;rw[ag (by rw[he];rfl)];cases hg:hU.GV σ.C.L x.num with
 |none=>unfold hU.pV at he;rw[hg] at he;cases he
 |some z=>
  rw[hg] at hk;dsimp only at hk;rw[<-a2] at hg;obtain⟨i,y,e1,e2,e3⟩:=ae0 hg;rw[e1] at hJ⊢;subst hJ;dsimp only;refine aK.of λJ1 pB=> ?_
  rw[jy];have hi:=(aG.1 e2).1;have o4:=o3.frame f4 (λ_ _=>id);obtain⟨pb,po,rfl⟩:=o4.addr (by omega);have hh:=o4.lu lj e2;have CY:=f4.get qx id;have ry:=((r2 y (bt e2)).frame Gk.fr (λy hy=>new y hy)).frame f4 (λ_ _=>id);have ez:z.d=y.v.b:=by rw[<-e3];rfl
  have G4:gK.Good { σ with C:=hU.vY σ.C x.num ses } (k+1):=Good.doC E.G E.H.ord E.hk ⟨2,x.num,ses,.zero,none,0, [],0⟩ (gh 0);have c2: ∀g,fF (((AA pb po):Addr).add (i*10)) (PL y) 0 g->ak g ((((AA pb po):Addr).add (Int.toNat (i:Int)*10)).add 6)=some y.v.val:=λg hg=>by
   rw[aL];exact hg.2.2.2.2.2.2.1
  have E4:En V h0 h4 s X3 I { σ with C:=hU.vY σ.C x.num ses } (k+1):=E.step H4 st G4 QL;refine bO.jk (x:=x.as p c s ses) CY ⟨⟨by omega,by omega⟩,aB.2 ⟨_,_,_,c2 _ hh,ahz (ses:=ses) (x:=x) (p:=p) (c:=c) (d:=z.d) E4 (by rw[ez];exact ry.row) (by rw[ez]) (by rw[ez];exact ry.cap) λh5 X5 H5 Wd=>⟨_,rfl,?_⟩⟩⟩;have stt:=st.trans Wd;have hbo:=stt.fr.get hb nM;refine yV (z:=⟨ri,0,0,(qN V { σ with C:=hU.vY σ.C x.num ses } ses z.d).2,0,none,0,0⟩) hbo (by decide) rfl λh6 d6 f6=> ?_
  subst pB;dsimp only;rw[he];have UE: ∀y,X5.M y\/X5.D y->y≠bo:=λy hy e=>by
   rcases hy with a|a
   ·rcases stt.rh y a with a|a
    ·exact nM (e▸a)
    ·omega
   ·rcases stt.wL y a with a|a
    ·exact nb (.inr (e▸a))
    ·omega
  exact hk h6 X5 (H5.frame f6 (λy hy e=>UE y hy e)) (oU.of stt f6 ⟨_,d6,λ_=>⟨none,0,rfl,Row.nil,λe=>absurd rfl e⟩⟩)
end Ask
end
section
variable {h:aj} {R:iI}
theorem wQ.walk {a_0:Int} {kz:Int} {pF:Int} {rZ:Int} {vT:Int} {ai9:bV} {aja ajb:Nat} {b_0:Int} {cE:Int} {eZ:Int} {jR:Int} {pI:Int} {ajc:bV} {ajd aje:Nat} (hv:aV h (.cells #[.U a_0,.I kz,.I pF,.I rZ,.U vT,.slice ai9 aja ajb] T.aq) λb aR=>aV aR (.cells #[.U b_0,.I cE,.I eZ,.I jR,.U pI,.slice ajc ajd aje] T.aq) λcE aZ=>Hu aZ b 0 λt6=> ∃t8,ak aZ (AA cE 0)=some (.U t8)/\if(t6==t8) then Hi aZ b 1 λt12=> ∃t14,ak aZ (AA cE 1)=some (.I t14)/\if(t12==t14) then Hi aZ b 2 λt19=> ∃t21,ak aZ (AA cE 2)=some (.I t21)/\if(t19==t21) then Hi aZ b 3 λt26=> ∃t28,ak aZ (AA cE 3)=some (.I t28)/\if(t26==t28) then Hu aZ b 4 λt33=> ∃t35,ak aZ (AA cE 4)=some (.U t35)/\if(t33==t35) then Hl aZ b 5 λKu MY Fw=>Hl aZ cE 5 λKL Ib Nn=>Cl F.kf #[.slice Ku MY Fw,.slice KL Ib Nn] aZ λv bK=> ∃t43,v=.bool t43/\R (.bool t43) bK else R (.bool false) aZ else R (.bool false) aZ else R (.bool false) aZ else R (.bool false) aZ else R (.bool false) aZ):Cl F.wQ #[.agg #[.U a_0,.I kz,.I pF,.I rZ,.U vT,.slice ai9 aja ajb],.agg #[.U b_0,.I cE,.I eZ,.I jR,.U pI,.slice ajc ajd aje]] h R:=aS (lq ll) Tryz.func30 hv
theorem kO.walk {id:Int} {e:Int} (hv:aV h (.cells #[.U 0,.I 0,.I 0,.I 0,.U 0,.Z] T.aq) λb aR=>aq.ST aR (AA b 0) id e 0 0 0 none 0 0 λaZ=>aq.LD aZ (AA b 0) λoQ ia oT pH yR VR VS VT=>R (.agg #[.U oQ,.I ia,.I oT,.I pH,.U yR,.slice VR VS VT]) aZ):Cl F.kO #[.U id,.I e] h R:=aS (lq ll) Tryz.func41 hv
theorem tb.walk {Dc : Option Addr} {xR Io : Nat} (hv :
 Cl F.ja #[.slice Dc xR Io, .func (.func F.jE) #[] #[]] h λv aR =>
 ∃ t4, v = .bool t4 ∧
 R (.bool (!t4)) aR) : Cl F.tb #[.slice Dc xR Io] h R :=
 aS (.seq .leaf (.seq .leaf .leaf)) Tryz.func146 hv
theorem jE.walk {n:Int} (hv:if(decide (n<0)) then R (.bool true) h else R (.bool (decide (n>1099511627776))) h):Cl F.jE #[.I n] h R:=aS (lq ll) Tryz.func188 hv
theorem sD.walk {xa:Int} {xc:Int} {x_2:Int} {Kb:Int} {x_4:Int} {Tv:bV} {Tw Tx:Nat} (hv:aV h (.cells #[.U xa,.I xc,.I x_2,.I Kb,.U x_4,.slice Tv Tw Tx] T.aq) λb aR=>aK (λ(t3:Bool) (aZ:aj)=>if t3 then R (.bool false) aZ else∃t39,ak aZ (AA b 1)=some (.I t39)/\if(t39 !=0) then aq.LD aZ (AA b 0) λxh xi ajf Xy ajg ZJ ZK ZL=>Hu aZ b 0 λt43=>Hi aZ b 1 λt45=>Cl F.kO #[.U t43,.I t45] aZ λv bK=> ∃ajh aji ajj ajk ajl ZM ZN ZO,v=.agg #[.U ajh,.I aji,.I ajj,.I ajk,.U ajl,.slice ZM ZN ZO]/\fF (AA b 0) [.U xh,.I xi,.I ajf,.I Xy,.U ajg,.slice ZJ ZK ZL] 0 bK/\Cl F.wQ #[.agg #[.U xh,.I xi,.I ajf,.I Xy,.U ajg,.slice ZJ ZK ZL],.agg #[.U ajh,.I aji,.I ajj,.I ajk,.U ajl,.slice ZM ZN ZO]] bK λeK cC=> ∃t47,eK=.bool t47/\R (.bool t47) cC else R (.bool true) aZ) (λJ=> ∃t5,ak aR (AA b 0)=some (.U t5)/\if(decide (t5>1099511627776)) then J true aR else∃t9,ak aR (AA b 1)=some (.I t9)/\if(decide (t9<0)) then J true aR else∃t14,ak aR (AA b 1)=some (.I t14)/\if(decide (t14>99)) then J true aR else Hi aR b 2 λt19=>Hi aR b 3 λt21=>aV aR (.cells #[.I t19,.I t21] T.int) λcE cK=>Cl F.tb #[.slice (some (AA cE 0)) 2 2] cK λgS cR=> ∃t23,gS=.bool t23/\if(!t23) then J true cR else∃t28,ak cR (AA b 4)=some (.U t28)/\if(decide (t28>2147483648)) then J true cR else∃rG pP rH,ak cR (AA b 5)=some (.slice rG pP rH)/\J (decide ((pP:Int)>600)) cR)):Cl F.sD #[.agg #[.U xa,.I xc,.I x_2,.I Kb,.U x_4,.slice Tv Tw Tx]] h R:=aS (lq (sq (bq (sq (.join [(3,.one (.bool))] lf) (cq ll (lq (cq (sq (pN 8) lf) lf))))) ll)) Tryz.func96 hv
theorem uV.walk {xa:Int} {xc:Int} {x_2:Int} {Kb:Int} {x_4:Int} {Tv:bV} {Tw Tx:Nat} (hv:aV h (.cells #[.U xa,.I xc,.I x_2,.I Kb,.U x_4,.slice Tv Tw Tx] T.aq) λb aR=>aq.LD aR (AA b 0) λO5 O6 Uo Uq Ur alC alD alE=>Cl F.sD #[.agg #[.U O5,.I O6,.I Uo,.I Uq,.U Ur,.slice alC alD alE]] aR λv aZ=> ∃t5,v=.bool t5/\if(!t5) then R (.tuple #[.Z,.I 3]) aZ else Hu aZ b 0 λt9=>Hi aZ b 1 λt12=>Hi aZ b 2 λt15=>Hi aZ b 3 λt18=>Hu aZ b 4 λt21=>Hl aZ b 5 λiQ iy iz=>Cl F.wU #[] aZ λeK bK=>Vp eK λt7=>ak bK (AA b 5)=some (.slice iQ iy iz)/\ak bK (AA b 4)=some (.U t21)/\ak bK (AA b 3)=some (.I t18)/\ak bK (AA b 2)=some (.I t15)/\ak bK (AA b 1)=some (.I t12)/\ak bK (AA b 0)=some (.U t9)/\Cl F.iW #[.pointer t7,.U t9] bK λgS cC=>Vp gS λt10=>ak cC (AA b 5)=some (.slice iQ iy iz)/\ak cC (AA b 4)=some (.U t21)/\ak cC (AA b 3)=some (.I t18)/\ak cC (AA b 2)=some (.I t15)/\ak cC (AA b 1)=some (.I t12)/\Cl F.jB #[.pointer t10,.I t12] cC λkV cK=>Vp kV λt13=>ak cK (AA b 5)=some (.slice iQ iy iz)/\ak cK (AA b 4)=some (.U t21)/\ak cK (AA b 3)=some (.I t18)/\ak cK (AA b 2)=some (.I t15)/\Cl F.jB #[.pointer t13,.I t15] cK λou cR=>Vp ou λt16=>ak cR (AA b 5)=some (.slice iQ iy iz)/\ak cR (AA b 4)=some (.U t21)/\ak cR (AA b 3)=some (.I t18)/\Cl F.jB #[.pointer t16,.I t18] cR λxw cX=>Vp xw λt19=>ak cX (AA b 5)=some (.slice iQ iy iz)/\ak cX (AA b 4)=some (.U t21)/\Cl F.iW #[.pointer t19,.U t21] cX λAU dB=>Vp AU λt22=>ak dB (AA b 5)=some (.slice iQ iy iz)/\Cl F.mh #[.pointer t22,.slice iQ iy iz] dB λDN ff=>Vp DN λt25=>Cl F.lg #[.pointer t25] ff λEK cQ=> ∃ya rF yc,EK=.slice ya rF yc/\R (.tuple #[.slice ya rF yc,.I 0]) cQ):Cl F.uV #[.agg #[.U xa,.I xc,.I x_2,.I Kb,.U x_4,.slice Tv Tw Tx]] h R:=aS (lq (sq (lq (cq ll lf)) (sq (.mC (.op 1 (.op 2 (.op 4 (.op 5 (.op 7 (.op 8 (.op 10 (.op 11 (.op 13 (.op 14 (.op 16 (.op 17 (.op 0 (.op 3 (.op 6 (.op 9 (.op 12 (.op 15 (.op 18 (.op 19 (.op 20 (.op 21 .done))))))))))))))))))))))) lf))) Tryz.func45 hv
theorem wT.walk {Bh:bV} {xe Dr:Nat} (hv:aV h (.cells #[.U 0,.I 0,.I 0,.I 0,.U 0,.Z] T.aq) λb aR=>Cl F.uX #[.slice Bh xe Dr] aR λv aZ=>Vp v λt7=>Cl F.iX #[.pointer t7] aZ λeK bK=>Vu eK λt9=>Cl F.jC #[.pointer t7] bK λgS cC=>Vi gS λt11=>Cl F.jC #[.pointer t7] cC λkV cK=>Vi kV λt13=>Cl F.jC #[.pointer t7] cK λou cR=>Vi ou λt15=>Cl F.iX #[.pointer t7] cR λxw cX=>Vu xw λt17=>Cl F.mi #[.pointer t7] cX λAU dB=>Vl AU λCI zL CJ=>aV dB (.cells #[.U 0,.I 0,.I 0,.I 0,.U 0,.Z] T.aq) λcE ff=>aq.ST ff (AA cE 0) t9 t11 t13 t15 t17 CI zL CJ λcQ=>aK (λ(t28:Bool) (cW:aj)=>if t28 then aq.ST cW (AA b 0) 0 0 0 0 0 none 0 0 λdE=>aq.LD dE (AA b 0) λoQ ia oT pH yR VR VS VT=>R (.tuple #[.agg #[.U oQ,.I ia,.I oT,.I pH,.U yR,.slice VR VS VT],.I 3]) dE else aq.LD cW (AA cE 0) λNh HZ ape acC apf ahA ahB ahC=>aq.ST cW (AA b 0) Nh HZ ape acC apf ahA ahB ahC λdG=>aq.LD dG (AA b 0) λnG nH uC xt xu ae1 ae2 ae3=>R (.tuple #[.agg #[.U nG,.I nH,.I uC,.I xt,.U xu,.slice ae1 ae2 ae3],.I 0]) dG) (λJ=>Cl F.mU #[.pointer t7] cQ λDN fD=> ∃t22,DN=.I t22/\if(t22 !=0) then J true fD else aq.LD fD (AA cE 0) λKO Lo Om apg aph ahD ahE ahF=>Cl F.sD #[.agg #[.U KO,.I Lo,.I Om,.I apg,.U aph,.slice ahD ahE ahF]] fD λEK gE=> ∃t26,EK=.bool t26/\J (!t26) gE)):Cl F.wT #[.slice Bh xe Dr] h R:=aS (lq (lq (lq (sq (sq (.join [(28,.one (.bool))] lf) (cq ll lf)) ll)))) Tryz.func43 hv
theorem ja.within.walk {oD : Option Addr} {mG qK : Nat} (hv :
 Cl F.dO #[.slice oD mG qK, .func (.func F.jE) #[] #[]] h λv aR =>
 ∃ t7, v = .int .i64 t7 ∧
 R (.bool (decide (t7 ≥ 0))) aR) : Cl F.ja #[.slice oD mG qK, .func (.func F.jE) #[] #[]] h R :=
 aS (.seq .leaf (.seq .leaf .leaf)) Tryz.func187 hv
theorem dO.within.walk {oD : Option Addr} {mG qK : Nat} (hv :
 ∃ (I : Int → aj → Prop) (mu : Int → aj → Nat), I 0 h ∧ ∀ (t8 : Int) (aR : aj), I t8 aR →
 if (decide (t8 < ((mG : Nat) : Int))) = true then
 ((0 : Int) ≤ t8 ∧ t8 < ((mG : Nat) : Int)) ∧
 aP oD λa =>
 ∃ t15, ak aR (a.add (Int.toNat t8 * 1)) = some (.int .i64 t15) ∧
 Cl F.jE #[.int .i64 t15] aR λv aZ =>
 ∃ t16, v = .bool t16 ∧
 if t16 = true then
 R (.int .i64 t8) aZ
 else
 (I (IntKind.wrap .i64 (t8 + 1)) aZ ∧ mu (IntKind.wrap .i64 (t8 + 1)) aZ < mu t8 aR)
 else
 R (.int .i64 (-1)) aR) : Cl F.dO #[.slice oD mG qK, .func (.func F.jE) #[] #[]] h R :=
 aS (.seq .leaf (.seq (.seq .leaf (.block (.loop [(8, .one (.int .i64))] (.seq .leaf (.seq (.cond .leaf .leaf) (.seq (.block (.seq .leaf (.seq .leaf (.cond (.seq .leaf .leaf) .leaf)))) .leaf)))))) (.seq .leaf .leaf))) Tryz.func168 hv
end
section
open Go.jH
namespace LP
open vg
variable {h h0:aj} {R:iI} {p q:bV} {c d:Nat}
abbrev val (x:RD) (p:bV) (c:Nat):Value:=.agg #[.int .u64 (x.id:Int),.int .i64 x.err,.int .i64 x.num,.int .i64 x.count,.int .u64 (x.token:Int),.slice p x.b.length c]
abbrev At (h:aj) (b:Nat) (x:RD) (p:bV) (c:Nat):Prop:=aq.at h b (x.id:Int) x.err x.num x.count (x.token:Int) p x.b.length c
theorem My {a b:List UInt8} {n m:Nat} (ra:Row h p (bc a)) (rb:Row h q (bc b)) (hn:n=a.length) (hm:m=b.length) (hk:R (.bool (decide (a=b))) h):Cl F.kf #[.slice p n c,.slice q m d] h R:=by
 refine kf.walk ⟨_,conv ra hn,_,conv rb hm,?_⟩;rw[E0,E0];have:(a==b)=decide (a=b):=by
  by_cases e:a=b<;>simp[e]
 rw[this];exact hk
theorem pW (x y:RD) (rx:Row h p (bc x.b)) (ry:Row h q (bc y.b)) (hk: ∀h',Fr No h h'->R (.bool (decide (x.same y))) h'):Cl F.wQ #[val x p c,val y q d] h R:=by
 refine wQ.walk (aq.box λb h1 _ hb f1=>aq.box λb' h2 _ wG f2=> ?_);have fJ:=f2.get hb id;have f12:=f1.tt f2;have hk:=hk h2 f12;unfold RD.same at hk;refine⟨_,af fJ rfl,_,af wG rfl,?_⟩;by_cases e0:x.id=y.id
 ·rw[ag (by rw[e0];simp)];refine⟨_,af fJ rfl,_,af wG rfl,?_⟩;by_cases e1:x.err=y.err
  ·rw[ag (by rw[e1];simp)];refine⟨_,af fJ rfl,_,af wG rfl,?_⟩;by_cases e2:x.num=y.num
   ·rw[ag (by rw[e2];simp)];refine⟨_,af fJ rfl,_,af wG rfl,?_⟩;by_cases e3:x.count=y.count
    ·rw[ag (by rw[e3];simp)];refine⟨_,af fJ rfl,_,af wG rfl,?_⟩;by_cases e4:x.token=y.token
     ·rw[ag (by rw[e4];simp)];refine⟨_,_,_,af fJ rfl,_,_,_,af wG rfl,My (rx.frame f12 (λ_ _=>id)) (ry.frame f12 (λ_ _=>id)) rfl rfl ⟨_,rfl,?_⟩⟩;simpa[e0,e1,e2,e3,e4] using hk
     ·rw[ai (by simp;omega)];simpa[e4] using hk
    ·rw[ai (by simpa using e3)];simpa[e3] using hk
   ·rw[ai (by simpa using e2)];simpa[e2] using hk
  ·rw[ai (by simpa using e1)];simpa[e1] using hk
 ·rw[ai (by simp;omega)];simpa[e0] using hk
def ZP (id:Nat) (e:Int):RD:=⟨id,e,0,0,0, []⟩
theorem vS {i:Int} (id:Nat) (hi:i=(id:Int)) (e:Int) (hk: ∀h',Fr No h h'->R (val (ZP id e) none 0) h'):Cl F.kO #[.U i,.I e] h R:=by
 subst hi;refine kO.walk (aq.new λb h1 _ hb f1=>aq.ld hb ?_);exact hk h1 f1
def inB (n:Int):Bool:=decide (0<=n/\n<=1099511627776)
theorem alF (n:Int) (hk:R (.bool (!inB n)) h):Cl F.jE #[.I n] h R:=by
 refine jE.walk ?_;unfold inB at hk;by_cases h1:n<0
 ·simpa[h1,show¬0<=n by omega] using hk
 ·by_cases h2:n>1099511627776
  ·simpa[h1,h2,show¬n<=1099511627776 by omega] using hk
  ·simpa[h1,h2,show 0<=n by omega,show n<=1099511627776 by omega] using hk
theorem Hj {ns : List Int} {n m : Nat} (hr : Row h p (ns.map (.int .i64 ·))) (hn : n = ns.length) (hl : ns.length ≤ 1000000) (hk : R (.bool (ns.all inB)) h) : Cl F.tb #[.slice p n m] h R := by
  subst hn
  refine tb.walk (ja.within.walk (dO.within.walk ?_))
  refine ⟨λi h' => h' = h ∧ ∃ k : Nat, i = (k : Int) ∧ k ≤ ns.length ∧ ∀ j, j < k → inB (ns.getD j 0) = true, λi _ => ns.length - i.toNat, ⟨rfl, 0, rfl, by omega, λj hj => by omega⟩, ?_⟩
  rintro _ h1 ⟨rfl, k, rfl, hkn, kA⟩
  by_cases jc : k < ns.length
  · have : (k : Int) < (ns.length : Int) := by omega
    simp only [this, decide_true, if_true, Int.toNat_natCast]
    obtain ⟨a, rfl, ck⟩ := Uc hr jc
    refine ⟨⟨by omega, trivial⟩, aB.2 ⟨_, ck, alF _ ⟨_, rfl, ?_⟩⟩⟩
    cases hb : inB (ns.getD k 0) with
    | false =>
      simp only [Bool.not_false, if_true]
      refine ⟨_, rfl, ⟨_, rfl, ?_⟩⟩
      have : ns.all inB = false := by
        rw [List.all_eq_false]
        exact ⟨_, abO jc, by rw [hb]; simp⟩
      rw [this] at hk
      have h0 : (k : Int) ≥ 0 := by omega
      simpa [h0] using hk
    | true =>
      simp only [Bool.not_true, Bool.false_eq_true, if_false]
      rw [bL (by omega) (by omega)]
      refine ⟨⟨trivial, k + 1, by omega, by omega, λj hj => ?_⟩, ?_⟩
      · by_cases q : j = k
        · subst q; exact hb
        · exact kA j (by omega)
      · show ns.length - Int.toNat ((k : Int) + 1) < ns.length - Int.toNat (k : Int); omega
  · have : ¬ (k : Int) < (ns.length : Int) := by omega
    simp only [this, decide_false, Bool.false_eq_true, if_false]
    refine ⟨_, rfl, ⟨_, rfl, ?_⟩⟩
    have : ns.all inB = true := by
      rw [List.all_eq_true]
      intro n hn
      obtain ⟨j, hj⟩ := List.getElem?_of_mem hn
      have Cg := (List.getElem?_eq_some_iff.1 hj).1
      have := kA j (by omega)
      rwa [List.getD_eq_getElem?_getD, hj] at this
    rw [this] at hk
    simpa using hk
theorem ic (x:RD) (rx:Row h p (bc x.b)) (hk: ∀h',Fr No h h'->R (.bool (decide x.xD)) h'):Cl F.sD #[val x p c] h R:=by
 refine sD.walk (aq.box λb h1 _ hb f1=>aK.of λJ hJ=> ?_);have jt: ∀h2,Fr No h h2->¬x.xD->J true h2:=by
  intro h2 f2 hn;subst hJ;simp only[bA];have:=hk h2 f2;rwa[decide_eq_false hn] at this
 have jf: ∀h2,At h2 b x p c->Fr No h h2->x.id<=1099511627776->(0<=x.err/\x.err<=99)->(0<=x.num/\x.num<=1099511627776)->(0<=x.count/\x.count<=1099511627776)->x.token<=2147483648->x.b.length<=600->J false h2:=by
  intro h2 fJ f2 q1 q2 q3 q4 q5 q6;subst hJ;simp only[aA,aU];refine⟨_,af fJ rfl,?_⟩;by_cases he:x.err=0
  ·rw[ai (by simp[he])];have:=hk h2 f2;rwa[ay (show x.xD from⟨q1,q2,q3,q4,q5,q6,λh=>absurd he h⟩)] at this
  ·rw[ag (by simpa using he)];refine aq.ld fJ ⟨_,af fJ rfl,_,af fJ rfl,vS x.id rfl x.err λh3 f3=>⟨_,_,_,_,_,_,_,_,rfl,(aq.held (f3.get fJ id)),?_⟩⟩;have f23:=f2.tt f3;refine pW x (ZP x.id x.err) (rx.frame f23 (λ_ _=>id)) (.inl rfl) λh4 f4=>⟨_,rfl,?_⟩
   have e:decide (x.same (ZP x.id x.err))=decide x.xD:=by
    unfold RD.same RD.xD ZP;simp[q1,q2,q3,q4,q5,q6,he]
   rw[e];exact hk h4 (f23.tt f4)
 clear hJ;refine⟨_,af hb rfl,?_⟩;by_cases q1:x.id<=1099511627776
 ·rw[ai (by simp;omega)];refine⟨_,af hb rfl,?_⟩;by_cases q2:0<=x.err
  ·rw[ai (by simp;omega)];refine⟨_,af hb rfl,?_⟩;by_cases q3:x.err<=99
   ·rw[ai (by simp;omega)];refine⟨_,af hb rfl,_,af hb rfl,cY ?_⟩;refine Hj (ns:= [x.num,x.count]) rW rfl (by simp) ⟨_,rfl,?_⟩;have f5:=f1.tt (Fr.push h1 (.cells #[.I x.num,.I x.count] T.int));have DK:At _ b x p c:=(Fr.push (S:=λ_=>False) h1 (.cells #[.I x.num,.I x.count] T.int)).get hb id;generalize h1.push (.cells #[.I x.num,.I x.count] T.int)=h5 at*;cases nR: [x.num,x.count].all inB with
    |false=>
     simp only[gM,bA];refine jt _ f5 λhr=> ?_
     obtain⟨_,_,r3,r4,_⟩:=hr;simp[inB,r3,r4] at nR
    |true=>
     simp only[dX,aA,aU];simp[inB] at nR;refine⟨_,af DK rfl,?_⟩;by_cases q5:x.token<=2147483648
     ·rw[ai (by simp;omega)];refine⟨_,_,_,af DK rfl,?_⟩;by_cases q6:x.b.length<=600
      ·have:decide ((x.b.length:Int)>600)=false:=by simp;omega
       rw[this];exact jf _ DK f5 q1 ⟨q2,q3⟩ nR.1 nR.2 q5 q6
      ·have:decide ((x.b.length:Int)>600)=true:=by simp;omega
       rw[this];exact jt _ f5 λhr=>q6 hr.2.2.2.2.2.1
     ·rw[ag (by simp;omega)];exact jt _ f5 λhr=>q5 hr.2.2.2.2.1
   ·rw[ag (by simp;omega)];exact jt _ f1 λhr=>q3 hr.2.1.2
  ·rw[ag (by simp;omega)];exact jt _ f1 λhr=>q2 hr.2.1.1
 ·rw[ag (by simp;omega)];exact jt _ f1 λhr=>q1 hr.1
theorem ae4 (x:RD) (rx:Row h p (bc x.b)) (k1:x.xD->∀h' q d,iS h' q x.enc.length d 1 (bc x.enc)->Fr No h h'->(∀y,aQ q y->h.size<=y)->R (.tuple #[.slice q x.enc.length d,.I 0]) h')
  (k2: ¬x.xD->∀h',Fr No h h'->R (.tuple #[.Z,.I 3]) h'):Cl F.uV #[val x p c] h R:=by
 refine uV.walk (aq.box λb h1 eb hb f1=>aq.ld hb ?_);refine ic x (rx.frame f1 (λ_ _=>id)) λh2 f2=>⟨_,rfl,?_⟩
 by_cases hr:x.xD
 ·rw[ay hr];simp only[dX,aA,aU];obtain⟨q1,⟨q2,q2'⟩,⟨q3,q3'⟩,⟨q4,q4'⟩,q5,q6,_⟩:=id hr;have fJ:=f2.get hb id;have f02:=f1.tt f2;refine⟨_,af fJ rfl,_,af fJ rfl,_,af fJ rfl,_,af fJ rfl,_,af fJ rfl,_,_,_,af fJ rfl,?_⟩;refine pE λh3 w S3 H3 f3 g3=>⟨_,rfl,?_⟩
  have b3:=f3.get fJ id;have u3:Up h2 S3 h3:=⟨f3,g3⟩;have nb: ∀ {S:Nat->Prop} {h':aj},Up h2 S h'->¬S b:=λu hx=>by have:=u.ge b hx;have:=aI fJ;omega
  refine⟨af b3 rfl,af b3 rfl,af b3 rfl,af b3 rfl,af b3 rfl,af b3 rfl,?_⟩;refine jw x.id H3 (by simp) rfl (by omega) λh4 S4 H4 s4=>⟨_,rfl,?_⟩
  have b4:=s4.fr.get b3 (nb u3);have u4:=u3.step s4;have l1:=(j4 x.id).2;refine⟨af b4 rfl,af b4 rfl,af b4 rfl,af b4 rfl,af b4 rfl,?_⟩;refine Ux H4 (by simp only[ft];omega) (by omega) λh5 S5 H5 s5=>⟨_,rfl,?_⟩
  have b5:=s5.fr.get b4 (nb u4);have u5:=u4.step s5;have l2:=(j4 (pQ x.err)).2;refine⟨af b5 rfl,af b5 rfl,af b5 rfl,af b5 rfl,?_⟩;refine Ux H5 (by simp only[ft,aF];omega) (by omega) λh6 S6 H6 s6=>⟨_,rfl,?_⟩
  have b6:=s6.fr.get b5 (nb u5);have u6:=u5.step s6;have l3:=(j4 (pQ x.num)).2;refine⟨af b6 rfl,af b6 rfl,af b6 rfl,?_⟩;refine Ux H6 (by simp only[ft,aF];omega) (by omega) λh7 S7 H7 s7=>⟨_,rfl,?_⟩
  have b7:=s7.fr.get b6 (nb u6);have u7:=u6.step s7;have l4:=(j4 (pQ x.count)).2;refine⟨af b7 rfl,af b7 rfl,?_⟩;refine jw x.token H7 (by simp only[ft,aF];omega) rfl (by omega) λh8 S8 H8 s8=>⟨_,rfl,?_⟩
  have b8:=s8.fr.get b7 (nb u7);have u8:=u7.step s8;have l5:=(j4 x.token).2;have f08:=f02.tt u8.fr;refine⟨af b8 rfl,?_⟩;refine acj H8 (by simp only[ft,aF];omega) (rx.frame f08 (λ_ _=>id)) rfl (by omega) (λy hy kB hS=> ?_) λh9 S9 H9 s9=>⟨_,rfl,?_⟩
  ·have:=qO rx (λe=>kB (List.map_eq_nil_iff.1 e)) hy;have:=u8.ge y hS;have:=f02.1;omega
  have u9:=u8.step s9;have he: []++lE x.id++lE (pQ x.err)++lE (pQ x.num)++lE (pQ x.count)++lE x.token++AD x.b=x.enc:=rfl;rw[he] at H9;refine zE H9 (by have:=rX q6;omega) λq d vk WI f10 g10=>⟨_,_,_,rfl,?_⟩
  exact k1 hr vk q d WI (f02.tt (u9.fr.tt f10)) (λy hy=>by have:=g10 y hy;have:=(f02.tt u9.fr).1;omega)
 ·rw[decide_eq_false hr];simp only[gM,bA];exact k2 hr h2 (f1.tt f2)
theorem Fo {bs:List UInt8} {n:Nat} (rb:Row h p (bc bs)) (hn:n=bs.length) (hl:bs.length<=70368744177664)
  (k1: ∀x,PO bs=some x->∀h' q d,iS h' q x.b.length d 1 (bc x.b)->Fr No h h'->(∀y,aQ q y->h.size<=y)->R (.tuple #[val x q d,.I 0]) h')
  (k2:PO bs=none->∀h',Fr No h h'->R (.tuple #[val RD.zero none 0,.I 3]) h'):Cl F.wT #[.slice p n c] h R:=by
 refine wT.walk (aq.box (f5l:=0) λb h1 eb hb f1=> ?_);refine vg.Fo (rb.frame f1 (λ_ _=>id)) hn hl λh2 r T D2 f2 g2=>⟨_,rfl,?_⟩
 have u2:Up h1 T h2:=⟨f2,g2⟩;refine Ja D2 λh3 D3 f3=>⟨_,rfl,?_⟩
 have u3:=u2.MI f3 (λy e=>e▸D2.self);have la:=CC 0 bs;generalize hA:gA 0 bs=A at D3 la⊢;obtain⟨a,ae,ar⟩:=A;dsimp only at D3 la⊢;refine Pg D3 λh4 D4 f4=>⟨_,rfl,?_⟩
 have u4:=u3.MI f4 (λy e=>e▸D2.self);have lb:(uJ ae ar).2.2.length<=ar.length:=AF _ ae ar;generalize hB:uJ ae ar=B at D4 lb⊢;obtain⟨b',be,br⟩:=B;dsimp only at D4 lb⊢;refine Pg D4 λh5 D5 f5=>⟨_,rfl,?_⟩
 have u5:=u4.MI f5 (λy e=>e▸D2.self);have lc:(uJ be br).2.2.length<=br.length:=AF _ be br;generalize hC:uJ be br=C at D5 lc⊢;obtain⟨c',ce,cr⟩:=C;dsimp only at D5 lc⊢;refine Pg D5 λh6 D6 f6=>⟨_,rfl,?_⟩
 have u6:=u5.MI f6 (λy e=>e▸D2.self);have ld:(uJ ce cr).2.2.length<=cr.length:=AF _ ce cr;generalize hD:uJ ce cr=D at D6 ld⊢;obtain⟨d',de,dr⟩:=D;dsimp only at D6 ld⊢;refine Ja D6 λh7 D7 f7=>⟨_,rfl,?_⟩
 have u7:=u6.MI f7 (λy e=>e▸D2.self);have lf:=CC de dr;generalize hF:gA de dr=F at D7 lf⊢;obtain⟨f',fe,fr⟩:=F;dsimp only at D7 lf⊢;refine acm D7 (by omega) λh8 q d D8 o8 g8 f8=>⟨_,_,_,rfl,?_⟩
 have u8:=u7.MI f8 (λy e=>e▸D2.self);generalize hG:rJ fe fr=G at D8 o8⊢;obtain⟨g',ge,gr⟩:=G;dsimp only at D8 o8⊢;have hX:rdR 1099511627776 na bs=⟨⟨a,b',c',d',f',g'⟩,ge,gr⟩:=by
  unfold uJ at hB hC hD;unfold rdR;simp only[hA,hB,hC,hD,hF,hG]
 have afi:PO bs=Ik ⟨⟨a,b',c',d',f',g'⟩,ge,gr⟩:=by unfold PO;rw[hX]
 clear hX hA hB hC hD hF hG la lb lc ld lf D3 D4 D5 D6 D7 f3 f4 f5 f6 f7 f8;generalize hx:(⟨a,b',c',d',f',g'⟩:RD)=x at*;have e0:a=x.id:=by rw[<-hx]
 have e1:(b':Int)=x.err:=by rw[<-hx]
 have e2:(c':Int)=x.num:=by rw[<-hx]
 have e3:(d':Int)=x.count:=by rw[<-hx]
 have e4:f'=x.token:=by rw[<-hx]
 have e5:g'=x.b:=by rw[<-hx]
 rw[e0,e1,e2,e3,e4,e5];rw[e5] at o8;clear hx e0 e1 e2 e3 e4 e5;refine aq.new λb1 GZ uh dx f15=> ?_
 have FN:At GZ b RD.zero none 0:=f15.get (u8.fr.get hb id) id;have F15:Fr No h GZ:=f1.tt (u8.fr.tt f15);have Mq:=o8.frame f15 (λ_ _=>id);have gq: ∀y,aQ q y->h1.size<=y:=λy hy=>by have:=g8 y hy;have:=u7.fr.1;omega
 have bne:b≠b1:=λe=>by have:=aI (u8.fr.get hb id);omega
 have hbl:b<h1.size:=aI hb;refine aK.of λJ hJ=> ?_
 have jt:Ik ⟨x,ge,gr⟩=none->∀vZ,At vZ b RD.zero none 0->Fr No h vZ->J true vZ:=by
  intro hn vZ Qy f16;subst hJ;simp only[bA];refine aq.set Qy λh22 ary s22 o22=>aq.ld ary ?_
  exact k2 (afi.trans hn) h22 (f16.step (Fr.of_eq (S:=λy=>y=b) s22 o22) (λy hy e=>by omega))
 have jf:Ik ⟨x,ge,gr⟩=some x->∀vZ,At vZ b RD.zero none 0->At vZ b1 x q d->iS vZ q x.b.length d 1 (bc x.b)->Fr No h vZ->J false vZ:=by
  intro hs vZ Qy api o16 f16;subst hJ;simp only[aA,aU];refine aq.ld api (aq.set Qy λh28 arz s28 o28=>aq.ld arz ?_);have f28:Fr (λy=>y=b) vZ h28:=Fr.of_eq s28 o28;refine k1 x (afi.trans hs) h28 q d (o16.frame f28 (λy hy e=> ?_)) (f16.step f28 (λy hy e=>by omega)) (λy hy=> ?_)
  ·have:=gq y hy;omega
  ·have:=gq y hy;have:=f1.1;omega
 clear hJ;refine afx (D8.frame f15 (λ_ _=>id)) ⟨_,rfl,?_⟩;by_cases he:Fm ge gr=0
 ·rw[ai (by simpa using he)];refine aq.ld dx (ic x Mq.qa λh30 f30=>⟨_,rfl,?_⟩);by_cases hr:x.xD
  ·rw[ay hr];exact jf (by unfold Ik;rw[ag ⟨he,hr⟩]) h30 (f30.get FN id) (f30.get dx id) (Mq.frame f30 (λ_ _=>id)) (F15.tt f30)
  ·rw[decide_eq_false hr];exact jt (by unfold Ik;rw[ai (λhh=>hr hh.2)]) h30 (f30.get FN id) (F15.tt f30)
 ·rw[ag (by simpa using he)];exact jt (by unfold Ik;rw[ai (λhh=>he hh.1)]) GZ FN F15
end LP
end
section
namespace Ask
open qJ (Ev dk)
open gK (SS Good Pt GX Mk)
open Bn (oB)
variable {V:List UInt8→Bool} {h h' h0 h1 g:aj} {R:iI} {s k bo ri c:Nat} {X X':Ft} {I:GX} {σ:SS} {p:bV} {ses:Int} {x:Rq} {D:Nat→Prop} {o:Ot}
theorem oU.no (f:Fr No h h1) (O:oU X h1 bo ri o X' h'):oU X h bo ri o X' h':=by
 have z:=f.1;refine⟨Fr.no f O.fr,λc hc=>(O.rh c hc).imp _root_.id (λa=>by omega),λc hc=>(O.wL c hc).imp _root_.id (λa=>by omega),O.Ix,?_⟩;obtain⟨y,hy,hx⟩:=O.at';refine⟨y,hy,λhe=> ?_⟩;obtain⟨p,c,e,r,n⟩:=hx he;exact⟨p,c,e,r,λhd z hz=>⟨(n hd z hz).1.imp (λa=>by omega) _root_.id,(n hd z hz).2⟩⟩
theorem oU.num {st1:bN X h X' h1} (n c:Int) (f:Fr (λy=>y=bo) h1 h') (hb:aq.jx h' bo ⟨ri,0,n,c,0,none,0,0⟩) {σ:SS} {e:Int} :oU X h bo ri ⟨σ,e,n,c, []⟩ X' h':=
 oU.of st1 f ⟨_,hb,λ_=>⟨none,0,rfl,Row.nil,λe=>absurd rfl e⟩⟩
theorem alG (st:bN X h X' h1) (nb: ¬(X.M bo\/X.D bo)) (zo:bo<h.size): ∀y,X'.M y\/X'.D y->y≠bo:=λy hy e=>by
 subst e;rcases hy with a|a
 ·rcases st.rh _ a with a|a
  ·exact nb (.inl a)
  ·omega
 ·rcases st.wL _ a with a|a
  ·exact nb (.inr a)
  ·omega
theorem Ty (hr:pD x=true):tC x=true:=by unfold pD at hr;simp only[aW] at hr;exact hr.1.2
theorem apj (E:En V h0 h s X I σ k) (QL:k+1<=30000) (hr:pD x=true) (w1:0<=x.ep.ma) (w2:0<=x.dest.ma) (rx:Row h p (bc x.Bf)) (cap:x.Bf.length<=c) (hb:aq.jx h bo (y0 ri)) (nb: ¬(X.M bo\/X.D bo))
  (hk: ∀h' X',Pt h' s X' I (C7 V σ ses x).σ->oU X h bo ri (C7 V σ ses x) X' h'->R (.I (C7 V σ ses x).e) h'):
  Cl F.sX #[(x.as p c s ses).agg,.P bo 0] h R:=by
 refine sX.walk (bO.dI (x:=x.as p c s ses) λb h1 eb dx f1=>⟨_,af dx rfl,?_⟩);have E1:=E.on f1;have nM: ¬X.M bo:=λe=>nb (.inl e)
 have zo:=aI hb;have z1:=f1.1;have Tt: ¬X.M b:=E.nM (by omega);have wG:=f1.get hb id;have sm:=E.G.small E.H.ord (by have:=E.hk;omega);have cL:=E.G.c.L;have ek:=E.hk;have pr:=Ty hr;unfold C7 at hk;unfold tC at pr;by_cases k1:x.kind=1
 ·rw[ag k1] at hk;rw[ag (bq.2 k1)];obtain⟨Z,hz,zm,zd,go⟩:=E1.H.use 1;refine⟨_,af dx rfl,aB.2 ⟨_,af E1.H.dF rfl,oB x.ep dx rfl rfl rfl rfl rfl ⟨_,af dx rfl,_,af dx rfl,j8.KR hz ⟨x.ep,x.uF,ses⟩ E.G.g.len λh2 T2 s2=> ?_⟩⟩⟩;obtain⟨X2,H2,AG,_,_⟩:=go h2 Z { σ with G:=j8.IN σ.G ⟨x.ep,x.uF,ses⟩ } T2 s2 (λi hi=>gK.Vd _ hi);exact⟨_,rfl,kpx AG.fr Tt (by simp),hk h2 X2 H2 (oU.bad hb nM (bN.no f1 AG))⟩
 rw[ai k1] at hk;rw[ai (λe=>k1 (bq.1 e))];by_cases k2:x.kind=2
 ·rw[ag k2] at hk;rw[ag (bq.2 k2)];obtain⟨Z,hz,zm,zd,go⟩:=E1.H.use 1;refine⟨_,af dx rfl,aB.2 ⟨_,af E1.H.dF rfl,oB x.ep dx rfl rfl rfl rfl rfl ⟨_,af dx rfl,j8.zP hz x.ep ses λh3 T3 s3=> ?_⟩⟩⟩;obtain⟨X3,H3,Gk,_,_⟩:=go h3 Z { σ with G:=j8.KZ σ.G x.ep ses } T3 s3 (λi hi=>gK.Vd _ hi);have DI:=bN.no f1 Gk;refine⟨_,rfl,kpx Gk.fr Tt (by simp),aK.of λJ hJ=> ?_⟩;by_cases ho:j8.oS σ.G x.ep ses=0
  case neg=>
   rw[ai ho] at hk;rw[ai (by simpa using ho)];subst hJ;have eG:j8.KZ σ.G x.ep ses=σ.G:=by unfold j8.KZ;rw[ai ho]
   rw[eG] at H3;exact hk h3 X3 H3 (oU.bad hb nM DI)
  rw[ag ho] at hk;rw[ag (by rw[ho];rfl)];have qx:=Gk.fr.get dx Tt;obtain⟨Z,hz,zm,zd,go⟩:=H3.use 2;have nb3: ¬X3.M b:=λhm=>by
   rcases Gk.rh b hm with a|a
   ·exact Tt a
   ·have:=aI dx;omega
  refine⟨_,af qx rfl,aB.2 ⟨_,af H3.dF rfl,oB x.ep qx rfl rfl rfl rfl rfl (hU.AK hz sm (by show σ.C.gone<=_;omega) x.ep λh5 Z5 p5 c5 C5 s5 N5 n5=> ?_)⟩⟩;obtain⟨X5,H5,Wd,_,_⟩:=go h5 Z5 { σ with G:=j8.KZ σ.G x.ep ses,C:=hU.Ij σ.C x.ep } C5 s5 (λi hi=>gK.GY (σ:= { σ with G:=j8.KZ σ.G x.ep ses }) _ hi);have st:=DI.trans Wd;refine⟨_,_,_,rfl,kpx Wd.fr nb3 (by simp),yV (z:=⟨ri,0,0,((hU.vq σ.C.L x.ep).length:Int),0,none,0,0⟩) (st.fr.get hb nM) (by decide) rfl λh6 d6 f6=> ?_⟩;subst hJ;rw[ho];exact hk h6 X5 (H5.frame f6 (λy hy e=>alG st nb zo y hy e)) (oU.num (st1:=st) 0 _ f6 d6)
 rw[ai k2] at hk;rw[ai (λe=>k2 (bq.1 e))];by_cases k3:x.kind=3
 ·rw[ag k3] at hk;rw[ag (bq.2 k3)];obtain⟨Z,hz,zm,zd,go⟩:=E1.H.use 1;refine⟨_,af dx rfl,aB.2 ⟨_,af E1.H.dF rfl,oB x.ep dx rfl rfl rfl rfl rfl ⟨_,af dx rfl,_,af dx rfl,j8.aaL hz x.ep ses x.uF λh2 T2 s2=> ?_⟩⟩⟩;obtain⟨X2,H2,AG,_,_⟩:=go h2 Z { σ with G:=j8.Sc σ.G x.ep ses x.uF } T2 s2 (λi hi=>gK.Vd _ hi);exact⟨_,rfl,kpx AG.fr Tt (by simp),hk h2 X2 H2 (oU.bad hb nM (bN.no f1 AG))⟩
 rw[ai k3] at hk;rw[ai (λe=>k3 (bq.1 e))];by_cases k4:x.kind=4
 ·rw[ag k4] at hk;rw[ag (bq.2 k4)];rw[dM,dM,ag k4] at pr;simp only[aW,bf] at pr;exact bO.jk (x:=x.as p c s ses) dx (ahv E1 (rx.frame f1 (λ_ _=>id)) cap (by omega) w1 w2 wG nb λh2 X2 H2 O=>⟨_,rfl,hk h2 X2 H2 (oU.no f1 O)⟩)
 rw[ai k4] at hk;rw[ai (λe=>k4 (bq.1 e))];by_cases k5:x.kind=5
 ·rw[ag k5] at hk;rw[ag (bq.2 k5)];exact⟨_,af dx rfl,_,af dx rfl,_,af dx rfl,gK.GR E1.H E.G E.hk λh2 X2 H2 AG=>⟨_,rfl,hk h2 X2 H2 (oU.bad hb nM (bN.no f1 AG))⟩⟩
 rw[ai k5] at hk;rw[ai (λe=>k5 (bq.1 e))];by_cases k6:x.kind=6
 ·rw[ag k6] at hk;rw[ag (bq.2 k6)];obtain⟨Z,hz,zm,zd,go⟩:=E1.H.use 2;refine⟨_,af dx rfl,aB.2 ⟨_,af E1.H.dF rfl,oB x.ep dx rfl rfl rfl rfl rfl (hU.adC hz sm x.ep λh2 f2=>⟨_,rfl,f2.kp,?_⟩)⟩⟩;have F2:=f1.tt f2;refine yV (z:=⟨ri,0,(hU.Vm σ.C.L x.ep:Int),0,0,none,0,0⟩) (F2.get hb id) (by decide) rfl λh3 d3 f3=> ?_
  have qx:=f3.get (f2.get dx id) (λe=>by have:=aI hb;omega);have H3:=(E.H.on F2).frame f3 (λy hy e=>nb (e▸hy));refine bO.jk (x:=x.as p c s ses) qx (Qz H3 λh4 f4=>⟨_,rfl,?_⟩);exact hk h4 X (H3.on f4) (oU.num (st1:=bN.nJ F2) _ 0 (f3.on f4) (f4.get d3 id))
 rw[ai k6] at hk;rw[ai (λe=>k6 (bq.1 e))];by_cases k7:x.kind=7
 ·rw[ag k7] at hk;rw[ag (bq.2 k7)];rw[dM,dM,ai k4,dM,ag k7] at pr;simp only[aW,bf] at pr;exact bO.jk (x:=x.as p c s ses) dx (ahx E1 (by omega) wG nb λh2 X2 H2 O=>⟨_,rfl,hk h2 X2 H2 (oU.no f1 O)⟩)
 rw[ai k7] at hk;rw[ai (λe=>k7 (bq.1 e))];by_cases k8:x.kind=8
 ·rw[ag k8] at hk;rw[ag (bq.2 k8)];exact bO.jk (x:=x.as p c s ses) dx (Va E1 QL wG nb λh2 X2 H2 O=>⟨_,rfl,hk h2 X2 H2 (oU.no f1 O)⟩)
 rw[ai k8] at hk;rw[ai (λe=>k8 (bq.1 e))];by_cases k9:x.kind=9
 ·rw[ag k9] at hk;rw[ag (bq.2 k9)];obtain⟨Z,hz,zm,zd,go⟩:=E1.H.use 2;refine⟨_,af dx rfl,aB.2 ⟨_,af E1.H.dF rfl,_,af dx rfl,_,af dx rfl,hU.Vc hz sm x.num ses λh2 Z2 T2 s2=> ?_⟩⟩;obtain⟨X2,H2,AG,_,_⟩:=go h2 Z2 { σ with C:=hU.IT σ.C x.num ses } T2 s2 (λi hi=>gK.GY _ hi);exact⟨_,rfl,kpx AG.fr Tt (by simp),hk h2 X2 H2 (oU.bad hb nM (bN.no f1 AG))⟩
 rw[ai k9] at hk;rw[ai (λe=>k9 (bq.1 e))];by_cases Na:x.kind=10
 ·rw[ag Na] at hk;rw[ag (bq.2 Na)];exact bO.jk (x:=x.as p c s ses) dx (KQ E1 wG nb λh2 X2 H2 O=>⟨_,rfl,hk h2 X2 H2 (oU.no f1 O)⟩)
 rw[ai Na] at hk;rw[ai (λe=>Na (bq.1 e))];exact hk h1 X E1.H (oU.bad hb nM (bN.nJ f1))
theorem ahG {A:List gU.gU} (ok:gU.Dx A) {m:Int} {j:Nat} {b:List UInt8} (h:gU.xp A m j=some b):b.length<=1000:=by
 unfold gU.xp at h;split at h
 ·cases h
 ·rename_i z hz;obtain⟨i,_,hi⟩:=gU.GO hz;unfold gU.Ie at h;obtain⟨a,ha,rfl⟩:=Option.map_eq_some_iff.1 h;exact((ok.at_ i z hi).kd a (List.mem_of_find?_eq_some ha)).2
abbrev rS (y:Go.jH.RD) (p:bV) (c:Nat):aq.S:=⟨(y.id:Int),y.err,y.num,y.count,(y.token:Int),p,y.b.length,c⟩
theorem ZQ {b:Nat} {y z:aq.S} {K:aq.S->aj->Prop} (hb:aq.jx h b y) (hk: ∀h',Fr (λy=>y=b) h h'->K z h'):
  aq.dW h (AA b 0) z λg=>aq.dh g (AA b 0) λr=>K r g:=
 aq.mB (x:=z) hb λg d1 f _=>aq.jk d1 (hk g f)
theorem apk (E:En V h0 h s X I σ k) (QL:k+1<=30000) (w1:0<=x.ep.ma) (w2:0<=x.dest.ma) (rx:Row h p (bc x.Bf)) (cap:x.Bf.length<=c)
  (hk: ∀h' X' q d,Pt h' s X' I (AT V σ ses x).1->bN X h X' h'->Row h' q (bc (AT V σ ses x).2.b)->((AT V σ ses x).2.b≠ []->∀y,aQ q y->¬X'.M y)->R (LP.val (AT V σ ses x).2 q d) h'):
  Cl F.mJ #[pt s,.I ses,(x.s p c).agg] h R:=by
 refine mJ.walk (aD.dI (x:=x.s p c) λb h1 eb hb f1=>aq.dI (x:=.z) λb1 h2 uh dx f2=>aK.of λJ hJ=> ?_);have F2:=f1.tt f2;have E2:=E.on F2;have fJ:=f2.get hb _root_.id;have z1:=f1.1;have z2:=f2.1;have B:=E2.H.dF;have fl: ∀(g:aj) (e:Int),Fr No h2 g->AT V σ ses x=(σ,C9 x.id e)->Cl F.kO #[.U (x.id:Int),.I e] g λv cC=>aq.EX λt62=>v=t62.agg/\aq.dW cC (AA b1 0) t62 λcK=>aq.dh cK (AA b1 0) λr0=>R (r0.agg) cK:=by
  intro g e fg hq;rw[hq] at hk;refine LP.vS x.id rfl e λh' f'=>aq.ex (rS (C9 x.id e) none 0) ⟨rfl,ZQ ((fg.tt f').get dx _root_.id) λOK f''=> ?_⟩
  have FF:=(F2.tt (fg.tt f')).fresh f'' (λy e=>by omega);exact hk OK X none 0 (E.H.on FF) (bN.nJ FF) Row.nil (λe=>absurd rfl e)
 have dne: ∀(e:Int),¬(pD x=true/\x.kind<11)->AT V σ ses x=(σ,C9 x.id 3):=λe hn=>by unfold AT;rw[ai hn]
 have key:J false h2:=by
  subst hJ;dsimp only;rw[dM];refine aK.of λJ1 pB=>aD.jk (x:=x.s p c) fJ (ic x (rx.frame F2 (λ_ _=>_root_.id)) λh3 f3=>⟨_,rfl,?_⟩)
  have kT:=f3.get fJ _root_.id;have alH:J1 true h3->True:=λ_=>trivial
  have bad: ¬(pD x=true/\x.kind<11)->J1 true h3:=by
   intro hn;subst pB;try dsimp only
   rw[ag rfl];exact⟨_,af kT rfl,fl h3 3 f3 (dne 0 hn)⟩
  cases hr:pD x with
  |false=>rw[jy];exact bad (λe=>by rw[hr] at e;cases e.1)
  |true=>
  rw[dM];refine⟨_,af kT rfl,?_⟩;by_cases k11:x.kind<11
  case neg=>
   have:decide ((x.s p c).f1≥11)=true:=ay (by show x.kind≥11;omega);rw[this];exact bad (λe=>k11 e.2)
  have:decide ((x.s p c).f1≥11)=false:=decide_eq_false (by show¬x.kind≥11;omega);rw[this];subst pB;dsimp only;rw[dM];have E3:=E2.on f3;obtain⟨Z,hz,_⟩:=E3.H.use 0;unfold AT at hk fl;rw[ag ⟨hr,k11⟩] at hk;simp only[ag (show pD x=true/\x.kind<11 from⟨hr,k11⟩)] at fl;refine⟨_,af E3.H.dF rfl,gU.Wv hz E.G.a ⟨_,rfl,?_⟩⟩;cases hu:gU.UP σ.A ses with
  |false=>
   rw[jy];exact⟨_,af kT rfl,fl h3 16 f3 (by rw[hu];rfl)⟩
  |true=>
  rw[hu,ag rfl] at hk;rw[dM];refine⟨_,af E3.H.dF rfl,_,af kT rfl,gU.agn x.id rfl hz E.G.a (λkb hkb h4 p4 c4 o4 f4 n4=>⟨_,_,_,_,rfl,?_⟩) (λhkb h4 f4=>⟨_,_,_,_,rfl,?_⟩)⟩
  ·rw[hkb] at hk;rw[ag rfl];dsimp only at hk;have F4:=F2.tt (f3.tt f4);have z3:=f3.1;have z4:=f4.1;have fin: ∀(g:aj) (y:Go.jH.RD) (q:bV) (d:Nat),(Go.jH.PO kb).getD Go.jH.RD.zero=y->Row g q (bc y.b)->(∀z,aQ q z->h4.size<=z)->Fr No h4 g->
     aV g (.cells aq.S.z.arr T.aq) λeZ fD=>
     aq.dW fD (AA eZ 0) (rS y q d) λgE=>
     aq.dh gE (AA eZ 0) λt103=>
     aq.dW gE (AA b1 0) t103 λgX=>
     aq.dh gX (AA b1 0) λpH=>
     R (pH.agg) gX:=by
    intro g y q d hy row nq fg;refine aq.j9 (x:=rS y q d) λb2 g2 FH fJ f5=>aq.jk (x:=rS y q d) fJ (ZQ ((f3.tt (f4.tt (fg.tt f5))).get dx _root_.id) λg3 f6=> ?_)
    have FF:=(F4.tt (fg.tt f5)).fresh f6 (λy e=>by omega);have rr:=((row.frame f5 (λ_ _=>_root_.id)).frame f6 (λa ea hx=>by have:=nq a.block ⟨a,ea,rfl⟩;have hx:a.block=b1:=hx;have:=aI dx;omega));rw[hy] at hk;exact hk g3 X q d (E.H.on FF) (bN.nJ FF) rr (λ_ z hz hm=>by have:=nq z hz;have:=E.H.lt z (.inl hm);omega)
   refine LP.Fo o4.qa rfl (by have:=ahG E.G.a hkb;omega) (λy hy h5 q d o5 f5 n5=>aq.ex (rS y q d) ⟨_,rfl,?_⟩) (λhy h5 f5=>aq.ex (rS .zero none 0) ⟨_,rfl,?_⟩)
   ·exact fin h5 y q d (by rw[hy];rfl) o5.qa n5 f5
   ·exact fin h5 .zero none 0 (by rw[hy];rfl) Row.nil (λz hz=>by obtain⟨a,e,_⟩:=hz;cases e) f5
  ·rw[hkb] at hk;rw[dM];dsimp only at hk;have F4:=F2.tt (f3.tt f4);have z3:=f3.1;have z4:=f4.1;have mb:=f4.get kT _root_.id;refine⟨_,af mb rfl,aq.j9 (x:=y0 x.id) λb3 h5 LQ DK f5=>aD.jk (x:=x.s p c) (f5.get mb _root_.id) ?_⟩;have F5:=F4.tt f5;have E5:=E.on F5;have z5:=f5.1;have nX: ∀y,h.size<=y->¬(X.M y\/X.D y):=λy hy hm=>by have:=E.H.lt y hm;omega
   refine apj (p:=p) (c:=c) (ses:=ses) E5 QL hr w1 w2 (rx.frame F5 (λ_ _=>_root_.id)) cap DK (nX b3 (by omega)) λh6 X6 H6 O=>⟨_,rfl,aK.of λJ2 zY=> ?_⟩
   have sG:=Good.C7 (V:=V) (ses:=ses) (q:=x) E.G E.H.ord E.hk w1;generalize C7 V σ ses x=o at hk H6 O sG;have RP:aD.jx h6 b (x.s p c):=O.fr.get (f5.get mb _root_.id) (λhm=>by
    rcases hm with a|a
    ·exact nX b (by omega) (.inl a)
    ·have:=aI mb;omega)
   have hc6:aq.jx h6 b1 .z:=O.fr.get ((f3.tt (f4.tt f5)).get dx _root_.id) (λhm=>by
    rcases hm with a|a
    ·exact nX b1 (by omega) (.inl a)
    ·have:=aI dx;omega)
   have zo:=aI DK;have st:bN X h X6 h6:=⟨(Fr.no F5 O.fr).trans (Fr.refl (λ_=>False) _) (λc hc hm=>by
    rcases hm with a|a
    ·exact a
    ·omega) (λ_ _=>False.elim),λc hc=>(O.rh c hc).imp _root_.id (λa=>by omega),λc hc=>(O.wL c hc).imp _root_.id (λa=>by omega),O.Ix⟩
   have zlt:=aI mb;have PU:=aI dx;have UE: ∀y,h.size<=y->y<h5.size->¬(X6.M y\/X6.D y):=λy hy hl hm=>by
    rcases hm with a|a
    ·rcases O.rh y a with a|a
     ·exact nX y hy (.inl a)
     ·omega
    ·rcases O.wL y a with a|a
     ·exact nX y hy (.inr a)
     ·omega
   have fin: ∀(g:aj) (q:bV) (d:Nat),aq.jx g b3 (rS (vC x.id o) q d)->Fr (λy=>y=b3) h6 g->Row g q (bc (vC x.id o).b)->((vC x.id o).b≠ []->∀z,aQ q z->(h5.size<=z\/X.D z)/\¬X6.M z)->J2 g:=by
    intro g q d hg fg row nq;subst zY;have Hg:=H6.frame fg (λy hy e=>UE b3 (by omega) zo (e▸hy));have zg:=fg.1;have z6:=O.fr.1;have ne1:b≠b3:=by omega
    have ne2:b1≠b3:=by omega
    obtain⟨Z,hz,zm,zd,go⟩:=Hg.use 0;have wr: ∀(g':aj) (pw:bV) (cw:Nat),Row g' pw (bc (wrR (vC x.id o)))->(∀y,aQ pw y->g.size<=y)->Fr No g g'->∀(e:Int),
      ∃t126,ak g' (AA s 0)=some (.pointer t126)/\
      ∃t129,ak g' (AA b 0)=some (.U t129)/\
      Cl F.iU #[.pointer t126,.I ses,.U t129,.slice pw (wrR (vC x.id o)).length cw] g' λEK rM=>
      ∃t131,EK=.I t131/\
      aq.dh rM (AA b3 0) λt132=>
      aq.dW rM (AA b1 0) t132 λqL=>
      aq.dh qL (AA b1 0) λyR=>
      R (yR.agg) qL:=by
     intro g' pw cw rw' nw f' _;have Hg':=Hg.on f';obtain⟨Z,hz,zm,zd,go⟩:=Hg'.use 0;have hbg:=f'.get (fg.get RP ne1) _root_.id;refine⟨_,af Hg'.dF rfl,_,af hbg rfl,gU.agm x.id rfl hz sG.a rw' rfl (λ_ y hy hm=>by have:=nw y hy;have:=Hg.lt y (.inl (zm y hm));omega) λh7 Z7 T7 s7=>⟨_,rfl,?_⟩⟩;obtain⟨X7,H7,st7,_,_⟩:=go h7 Z7 { o.σ with A:=gU.tJ o.σ.A ses x.id (wrR (vC x.id o)) } T7 s7 (λi hi=>gK.PJ _ hi);have n3: ¬X6.M b3:=λa=>UE b3 (by omega) zo (.inl a)
     have n1: ¬X6.M b1:=λa=>UE b1 (by omega) (by omega) (.inl a)
     have hg7:=st7.fr.get (f'.get hg _root_.id) n3;have hc7:=st7.fr.get (f'.get (fg.get hc6 ne2) _root_.id) n1;refine aq.jk (x:=rS (vC x.id o) q d) hg7 (ZQ hc7 λh8 f8=> ?_);have z7:=st7.fr.1;have zf:=f'.1;have DI:bN X h X6 g':=(bN.box st fg (by omega)).on f';have stB:=DI.trans st7;have stC:=bN.box stB f8 (by omega);have n17: ∀y,X7.M y\/X7.D y->y≠b1:=λy hy e=>by
      rcases hy with a|a
      ·rcases st7.rh y a with a|a
       ·exact n1 (e▸a)
       ·omega
      ·rcases st7.wL y a with a|a
       ·exact UE b1 (by omega) (by omega) (.inr (e▸a))
       ·omega
     refine hk h8 X7 q d (H7.frame f8 (λy hy e=>n17 y hy e)) stC ?_ (λhd z hz hm=> ?_)
     ·by_cases hd:(vC x.id o).b= []
      ·rw[hd];exact Row.nil
      ·refine(((row.frame f' (λ_ _=>_root_.id)).frame st7.fr (λa ea hx=>(nq hd a.block ⟨a,ea,rfl⟩).2 hx)).frame f8 (λa ea hx=> ?_));have hx:a.block=b1:=hx;rcases(nq hd a.block ⟨a,ea,rfl⟩).1 with a1|a1
       ·omega
       ·exact nX b1 (by omega) (.inr (hx▸a1))
     ·rcases st7.rh z hm with a|a
      ·exact(nq hd z hz).2 a
      ·have:=qO row (by simpa[bc] using hd) hz;omega
    refine aq.jk (x:=rS (vC x.id o) q d) hg (LP.ae4 (vC x.id o) row (λhR g' pw cw ow f' nw=>⟨_,_,_,_,rfl,?_⟩) (λhR g' f'=>⟨_,_,_,_,rfl,?_⟩))
    ·have:=wr g' pw cw (by rw[show wrR (vC x.id o)=(vC x.id o).enc from ag hR];exact ow.qa) nw f' 0;rw[show wrR (vC x.id o)=(vC x.id o).enc from ag hR] at this;exact this
    ·have:=wr g' none 0 (by rw[show wrR (vC x.id o)= [] from ai hR];exact Row.nil) (λy hy=>by obtain⟨a,e,_⟩:=hy;cases e) f' 0;rw[show wrR (vC x.id o)= [] from ai hR] at this;exact this
   obtain⟨y,hy,hy0⟩:=O.at';by_cases he:o.e=0
   ·rw[ai (by simpa using he)];obtain⟨q,d,rfl,row,nq⟩:=hy0 he;have eo:vC x.id o=⟨x.id,0,o.num,o.KE,0,o.d⟩:=ag he;rw[eo] at fin;exact fin h6 q d hy (Fr.refl _ _) row nq
   ·rw[ag (by simpa using he)];have eo:vC x.id o=⟨x.id,o.e,0,0,0, []⟩:=ai he;rw[eo] at fin;refine⟨_,af RP rfl,LP.vS x.id rfl o.e λg f=>aq.ex (rS ⟨x.id,o.e,0,0,0, []⟩ none 0) ⟨rfl,aq.mB (x:=rS ⟨x.id,o.e,0,0,0, []⟩ none 0) (f.get hy _root_.id) λg2 d2 f2 _=>fin g2 none 0 d2 (Fr.no f f2) Row.nil (λe=>absurd rfl e)⟩⟩
 refine⟨_,af B rfl,?_⟩;rw[ai (by simp)];refine⟨_,af B rfl,?_⟩;rw[ai (by simp)];refine⟨_,af B rfl,?_⟩;rw[ai (by simp)];refine⟨_,af B rfl,?_⟩;rw[ai (by simp)];refine⟨_,af B rfl,?_⟩;rw[ai (by simp)];exact⟨_,af B rfl,key⟩
theorem ae5 (hk: ∀h',Fr No h h'->R (LP.val (C9 x.id 6) none 0) h'):Cl F.mJ #[.pointer none,.I ses,(x.s p c).agg] h R:=by
 refine mJ.nil.walk (aD.dI (x:=x.s p c) λb h1 eb hb f1=>aq.dI (x:=.z) λb1 h2 uh dx f2=>aK.of λJ hJ=> ?_);subst hJ;try dsimp only
 rw[ag rfl];have z1:=f1.1;refine⟨_,af (f2.get hb _root_.id) rfl,LP.vS x.id rfl 6 λh' f'=>aq.ex (rS (C9 x.id 6) none 0) ⟨rfl,ZQ (f'.get dx _root_.id) λOK f''=> ?_⟩⟩;exact hk OK ((f1.tt (f2.tt f')).fresh f'' (λy e=>by omega))
end Ask
end
section
namespace Ask
open qJ (Ev dk)
open gK (SS Good)
open Go.jH (RD)
variable {V:List UInt8→Bool} {σ:SS} {k:Nat} {ses:Int} {q:Rq}
abbrev QA:Ev:=⟨true,7,0,⟨#[]⟩,⟨#[]⟩⟩
abbrev Ac:Ev:=⟨true,7,1,⟨#[]⟩,⟨#[]⟩⟩
structure Au (A:List gU.gU) (i:Nat):Prop where
 u1:gU.UP A 1=true
 u2:gU.UP A 2=true
 k: ∀m j,i<j->gU.xp A m j=none
theorem Jr (hr:pD q=true) (hk:q.kind<11) (hu:gU.UP σ.A ses=true) (hn:gU.xp σ.A ses q.id=none):
  AT V σ ses q=({ (C7 V σ ses q).σ with A:=gU.tJ (C7 V σ ses q).σ.A ses q.id (wrR (vC q.id (C7 V σ ses q))) },vC q.id (C7 V σ ses q)):=by
 unfold AT;rw[ag ⟨hr,hk⟩,ag hu,hn]
theorem Au.vW {A:List gU.gU} {i id:Nat} (a:Au A i) (hi:id=i+1) (d:List UInt8):Au (gU.tJ A ses id d) (i+1):=
 ⟨by rw[PQ];exact a.u1,by rw[PQ];exact a.u2,λm j hj=>aaX (.inr (by omega)) (a.k m j (by omega))⟩
structure Li (σ:SS) (i now:Nat):Prop where
 a:Au σ.A i
 g:σ.G= [⟨Ac,0,1⟩]
 n:σ.now=now
theorem Li.do {i now id:Nat} (L:Li σ i now) (hs:ses=1\/ses=2) (hi:id=i+1) (hq:q.id=id) (hr:pD q=true) (hk:q.kind<11) {o:Ot} (ho:C7 V σ ses q=o) (hA:o.σ.A=σ.A) (hG:o.σ.G=σ.G) (hn:o.σ.now=σ.now):
  (AT V σ ses q).2=vC id o/\Li (AT V σ ses q).1 (i+1) now/\(AT V σ ses q).1.C=o.σ.C:=by
 subst hq;have hu:gU.UP σ.A ses=true:=by rcases hs with rfl|rfl;exact L.a.u1;exact L.a.u2
 rw[Jr hr hk hu (L.a.k ses q.id (by omega)),ho];refine⟨rfl,⟨?_,hG.trans L.g,hn.trans L.n⟩,rfl⟩;show Au (gU.tJ o.σ.A ses q.id _) (i+1);rw[hA];exact L.a.vW hi _
def two:List gU.gU:= [⟨1,5,true,false, [], []⟩,⟨2,6,true,false, [], []⟩]
theorem ae6:gU.vp (gU.vp [] 5) 6=two:=by kernel_rfl
theorem alI:Au two 0:=⟨by kernel_rfl,by kernel_rfl,λm j _=>by
 unfold gU.xp gU.vo;split
 ·rfl
 ·rename_i s hs;split at hs
  ·generalize (m - 1).toNat=x at hs
   match x with
   |0=>cases hs;rfl
   |1=>cases hs;rfl
   |x+2=>cases hs
  ·cases hs⟩
def s1:SS:= { gK.G8 QA with A:=two }
def q1:Rq:=⟨1,1,Ac,.zero,0,0,0, [],0,0,false⟩
theorem do1:C7 V s1 1 q1=bad { s1 with G:= [⟨Ac,0,1⟩] } 0:=by
 unfold C7;rw[ag (show q1.kind=1 from rfl)];have h1:j8.oz s1.G ⟨q1.ep,q1.uF,1⟩=0:=by kernel_rfl
 have h2:j8.IN s1.G ⟨q1.ep,q1.uF,1⟩= [⟨Ac,0,1⟩]:=by unfold j8.IN;rw[ag h1];rfl
 rw[h1,h2]
abbrev QB (data:List UInt8) (ses:Int) (dl:Nat):hU.Cp:=⟨1,Ac,data,5000,ses,dl⟩
theorem akl (C : hU.CF) (hC : C = ⟨[], 1, 0, 0, 0, [], []⟩) (data : List UInt8) (h1 : 1 ≤ data.length) (h2 : data.length ≤ 300) : hU.sk C Ac data 5000 = ⟨[QB data 0 0], 2, 0, 0, 0, [(1, 5000)], []⟩ := by
  subst hC
  have hm : hU.FO Ac data.length ((5000 : Nat) : Int) = true := by
    unfold hU.FO
    rw [show dk Ac = true by kernel_rfl, decide_eq_false (show ¬ Ac = Ev.zero from λe => by cases congrArg Ev.vE e), decide_eq_true h1, decide_eq_true (show data.length ≤ 600 by omega)]; rfl
  have he : hU.oz ⟨[], 1, 0, 0, 0, [], []⟩ Ac data 5000 = 0 := by
    unfold hU.oz
    rw [if_pos hm]; rfl
  unfold hU.sk
  rw [if_pos he]
  rfl
theorem aaG (h:σ.G= [⟨Ac,0,1⟩]):j8.oS σ.G Ac 1=0/\j8.oS σ.G Ac 2=13:=by rw[h];exact⟨by kernel_rfl,by kernel_rfl⟩
def q2 (n:Nat) (id:Nat):Rq:=⟨id,7,Ac,.zero,0,0,(n:Int), [],0,0,false⟩
def q3 (id:Nat) (kind:Int):Rq:=⟨id,kind,.zero,.zero,0,1,0, [],0,0,false⟩
theorem ae7 {n id:Nat} (h1:1<=n) (h2:n<=1000) (h3:1<=id) (h4:id<=100):pD (q2 n id)=true:=by
 have hn:ua Ac=true:=by kernel_rfl
 have ho:q2 n id=BJ (q2 n id):=rfl;have hp:tC (q2 n id)=true:=by
  show(ua Ac && decide ((n:Int)≥1) && decide ((n:Int)<=1000))=true;rw[hn,ay (by omega),ay (by omega)];rfl
 unfold pD;rw[hp,ay ho,ay (show(q2 n id).id≥1 from h3),ay (show(q2 n id).id<=1099511627776 by show id<=_;omega)];rfl
theorem Hm {id:Nat} {kind:Int} (hk:kind=8\/kind=9) (h3:1<=id) (h4:id<=100):pD (q3 id kind)=true:=by
 have ho:q3 id kind=BJ (q3 id kind):=by rcases hk with rfl|rfl<;>rfl
 have hp:tC (q3 id kind)=true:=by rcases hk with rfl|rfl<;>rfl
 unfold pD;rw[hp,ay ho,ay (show(q3 id kind).id≥1 from h3),ay (show(q3 id kind).id<=1099511627776 by show id<=_;omega)];rfl
theorem do7 {n id:Nat} {data:List UInt8} (hL:σ.C.L= [QB data 0 0]) (hg:σ.G= [⟨Ac,0,1⟩]) (hn:σ.now=0) (h2:n<=1000):
  C7 V σ 1 (q2 n id)=⟨{ σ with C:=hU.xy σ.C (QB data 0 0) 1 n },0,1,(Vq V data:Int),data⟩:=by
 have e:C7 V σ 1 (q2 n id)=Ec V σ 1 (q2 n id):=rfl;have hd:dlN σ (q2 n id)=n:=by unfold dlN uD;show min (σ.now+(n:Int).toNat) _=n;rw[hn];omega
 have hm:hU.DM 1 n:=⟨by decide,by decide,by omega⟩;have hl:hU.tO σ.C.L Ac=some (QB data 0 0):=by
  rw[hL];unfold hU.tO hU.vq;rw[cD,ag (ay rfl),List.filter_nil,List.find?_cons];rfl
 rw[e];unfold Ec;rw[ag (show j8.oS σ.G (q2 n id).ep 1=0 from(aaG hg).1),hd,ag hm,show(q2 n id).ep=Ac from rfl,hl];rfl
theorem arA {n id:Nat} (hg:σ.G= [⟨Ac,0,1⟩]):C7 V σ 2 (q2 n id)=bad σ 13:=by
 have e:C7 V σ 2 (q2 n id)=Ec V σ 2 (q2 n id):=rfl;have h:=(aaG hg).2;rw[e];unfold Ec;rw[show(q2 n id).ep=Ac from rfl,h,dM]
theorem QC {data:List UInt8} {a s:Int} {b:Nat} :hU.pV [QB data a b] 1 s=if a=0\/a≠s then 14 else 0:=rfl
theorem ahH {id:Nat} {e:Int} (he:hU.pV σ.C.L 1 ses=e) (h0:e≠0):C7 V σ ses (q3 id 8)=bad σ e:=by
 have e:C7 V σ ses (q3 id 8)=Mr V σ ses 1:=rfl;rw[e];unfold Mr;rw[he,ai h0]
theorem arB {id:Nat} {e:Int} (he:hU.pV σ.C.L 1 ses=e) (h0:e≠0):C7 V σ ses (q3 id 9)=bad σ e:=by
 have e':C7 V σ ses (q3 id 9)=bad { σ with C:=hU.IT σ.C 1 ses } (hU.pV σ.C.L 1 ses):=rfl;rw[e',he];have:hU.IT σ.C 1 ses=σ.C:=by unfold hU.IT;rw[he,ai h0]
 rw[this]
theorem VU (d:List UInt8):(qN V σ ses d).1.A=σ.A/\(qN V σ ses d).1.G=σ.G/\(qN V σ ses d).1.C=σ.C/\(qN V σ ses d).1.now=σ.now/\(qN V σ ses d).1.e=σ.e/\(qN V σ ses d).1.rf=σ.rf:=by
 have BL: ∀d' t n,(BL σ ses d' t n).σ.A=σ.A/\(BL σ ses d' t n).σ.G=σ.G/\(BL σ ses d' t n).σ.C=σ.C/\(BL σ ses d' t n).σ.now=σ.now/\(BL σ ses d' t n).σ.e=σ.e/\(BL σ ses d' t n).σ.rf=σ.rf:=λd' t n=>by
  unfold BL gK.zV;split<;>exact⟨rfl,rfl,rfl,rfl,rfl,rfl⟩
 unfold qN;split
 ·exact⟨rfl,rfl,rfl,rfl,rfl,rfl⟩
 split
 ·split
  ·exact⟨rfl,rfl,rfl,rfl,rfl,rfl⟩
  ·split
   ·exact⟨rfl,rfl,rfl,rfl,rfl,rfl⟩
   ·unfold vB;split
    ·exact⟨rfl,rfl,rfl,rfl,rfl,rfl⟩
    ·exact BL _ _ _
 ·exact⟨rfl,rfl,rfl,rfl,rfl,rfl⟩
theorem do8 {id:Nat} {data:List UInt8} {dl:Nat} (hL:σ.C.L= [QB data 1 dl]): ∃o,C7 V σ 1 (q3 id 8)=o/\o.e=0/\o.σ.A=σ.A/\o.σ.G=σ.G/\o.σ.now=σ.now/\o.σ.C=hU.vY σ.C 1 1:=by
 have e:C7 V σ 1 (q3 id 8)=Mr V σ 1 1:=rfl;have hf:hU.pV σ.C.L 1 1=0:=by rw[hL];rfl
 have hg:hU.GV σ.C.L 1=some (QB data 1 dl):=by rw[hL];rfl
 have t:=VU (V:=V) (σ:= { σ with C:=hU.vY σ.C 1 1 }) (ses:=1) data;rw[e];unfold Mr;rw[ag hf,hg];exact⟨_,rfl,rfl,t.1,t.2.1,t.2.2.2.1,t.2.2.1⟩
theorem arC {C:hU.CF} {data:List UInt8} {dl:Nat} (hL:C.L= [QB data 1 dl]):(hU.vY C 1 1).L= []/\(hU.vY C 1 1).iR=C.iR+1/\(hU.vY C 1 1).next=C.next/\(hU.vY C 1 1).over=C.over/\(hU.vY C 1 1).gone=C.gone:=by
 have hf:hU.pV C.L 1 1=0:=by rw[hL];rfl
 unfold hU.vY;rw[ag hf];refine⟨?_,rfl,rfl,rfl,rfl⟩;show hU.K3 C.L 1= [];rw[hL];rfl
theorem apl {C : hU.CF} {data : List UInt8} {dl now : Nat} (ok : hU.BQ C) (O : hU.Ord C) (hL : C.L = [QB data 1 dl]) (hn : now < 5000) :
    (hU.oI C (now : Int)).L = [if dl ≤ now then QB data 0 0 else QB data 1 dl] ∧ (hU.oI C (now : Int)).next = C.next ∧ (hU.oI C (now : Int)).iR = C.iR ∧ (hU.oI C (now : Int)).over = C.over ∧ (hU.oI C (now : Int)).gone = C.gone := by
  obtain ⟨h1, _, h3, _, _, h6, h7, h8, h9⟩ := hU.NH ok O (now : Int)
  refine ⟨?_, h3, h7, ?_, h9⟩
  · rw [h6, hL, List.filter_cons, if_pos (decide_eq_true (show (now : Int) < ((5000 : Nat) : Int) by omega)), List.filter_nil, List.map_singleton]
    congr 1
    unfold hU.um
    by_cases h : dl ≤ now
    · rw [if_pos ⟨(by show (1 : Int) ≠ 0; decide), (by show (dl : Int) ≤ now; omega)⟩, if_pos h]
    · rw [if_neg (λe => h (by have : (dl : Int) ≤ now := e.2; omega)), if_neg h]
  · rw [h8]
    have hd : cu.due C.E1 (now : Int) = [] := by
      refine List.eq_nil_iff_forall_not_mem.2 λe he => ?_
      obtain ⟨h1, h2⟩ := (hU.Jg O).1 he
      obtain ⟨z, hz, rfl⟩ := (ok.e1 e).1 h1
      rw [hL] at hz
      rw [List.mem_singleton.1 hz] at h2
      have : ((5000 : Nat) : Int) ≤ now := h2
      omega
    rw [hd]; rfl
theorem ahI {C:hU.CF} (ok:hU.BQ C) (O:hU.Ord C) (hL:C.L= []\/∃data,C.L= [QB data 0 0]):C.E2.length=0:=by
 rw[hU.K8 ok O];rcases hL with h|⟨d,h⟩<;>rw[h]<;>rfl
def q4:Rq:=⟨2,4,Ac,Ac,0,0,0, [120],9,0,false⟩
def q6:Rq:=⟨2,6,Ac,.zero,0,0,0, [],0,0,false⟩
def sA:SS:= { s1 with G:= [⟨Ac,0,1⟩],A:= [⟨1,5,true,false, [(1, [1,0,0,0,0,0])], []⟩,⟨2,6,true,false, [], []⟩] }
theorem v1:AT V s1 1 q1=(sA,⟨1,0,0,0,0, []⟩):=by
 rw[Jr (by kernel_rfl) (by decide) (by kernel_rfl) (by kernel_rfl),do1];kernel_rfl
def sB:SS:= { sA with A:= [⟨1,5,true,false, [(1, [1,0,0,0,0,0])], []⟩,⟨2,6,true,false, [(1, [1,11,0,0,0,0])], []⟩] }
theorem v2:AT V sA 2 q1=(sB,⟨1,11,0,0,0, []⟩):=by
 rw[Jr (by kernel_rfl) (by decide) (by kernel_rfl) (by kernel_rfl)];kernel_rfl
theorem v3: ∃d,Bn.vd V (vr q4 (0,1))=some d/\1<=d.length/\d.length<=600:=by
 have h:(match Bn.vd V (vr q4 (0,1)) with|none=>false|some d=>decide (1<=d.length/\d.length<=600))=true:=by kernel_rfl
 cases hb:Bn.vd V (vr q4 (0,1)) with
 |none=>rw[hb] at h;cases h
 |some d=>rw[hb] at h;exact⟨d,rfl,(of_decide_eq_true h).1,(of_decide_eq_true h).2⟩
theorem ae8 {b:List UInt8} (hr:pD q=true) (hk:q.kind<11) (hu:gU.UP σ.A ses=true) (hn:gU.xp σ.A ses q.id=some b):AT V σ ses q=(σ,(Go.jH.PO b).getD RD.zero):=by
 unfold AT;rw[ag ⟨hr,hk⟩,ag hu,hn]
theorem ae9 (hr:pD q=true) (hk:q.kind<11) (hu:gU.UP σ.A ses=false):AT V σ ses q=(σ,C9 q.id 16):=by
 unfold AT;rw[ag ⟨hr,hk⟩,hu];rfl
theorem arD (hk:q.kind=4):C7 V σ ses q=FR V σ ses q:=by
 unfold C7;rw[dM,dM,dM,ag hk]
theorem apm {d:List UInt8} (l1:1<=d.length) (l2:d.length<=600):gK.IU sB 1 d 9=0:=by
 have h1:gK.yA sB.Q 1 d.length=true:=by
  refine vN.RX.2 ?_;have e1:gK.own sB.Q 1=0:=by kernel_rfl
  have e2:gK.Ho sB.Q=0:=by kernel_rfl
  rw[e1,e2];omega
 have h2: ¬(sB.B.items.length≥16\/gK.yA sB.Q 1 d.length=false):=by
  rw[h1];rintro(a|a)
  ·have:sB.B.items.length=0:=by kernel_rfl
   omega
  ·cases a
 unfold gK.IU;rw[ai h2];unfold lJ.oz;rw[ag (lJ.KC.2 ⟨by decide,by decide,l1,l2,by decide⟩),ai (by rw[show sB.B.items.length=0 by kernel_rfl];omega)]
theorem v4: ∃cU y,AT V sB 1 q4=(cU,y)/\y.err=0/\y.num=1/\AT V cU 1 q6=(cU,y)/\AT V cU 3 q6=(cU,C9 2 16)/\cU.B.items.length=1:=by
 obtain⟨d,hd,l1,l2⟩:=v3 (V:=V);have e0:=apm l1 l2;have eN:gK.Vn sB 1 d 9=1:=by
  unfold gK.Vn gK.IU at*;split at e0
  ·cases e0
  ·rename_i hh;rw[ai hh];unfold lJ.Ml;rw[ag e0];kernel_rfl
 have eP:(gK.zV sB 1 d 9).B= { sB.B with items:=sB.B.items++ [⟨sB.B.next,1,d,9⟩],next:=sB.B.next+1 } :=by
  have h:=(gK.NK e0).2;unfold gK.zV;rw[ag e0];exact ag h
 have eA:(gK.zV sB 1 d 9).A=sB.A:=by unfold gK.zV;rw[ag e0]
 have eo:C7 V sB 1 q4=⟨{ gK.zV sB 1 d 9 with tm:=0,sq:=1 },0,1,d.length, []⟩:=by
  have h1:C7 V sB 1 q4=FR V sB 1 q4:=arD rfl;have h2:j8.oS sB.G q4.ep 1=0:=by kernel_rfl
  have h3:zW sB=some (0,1):=by kernel_rfl
  have h4:uD sB.now (vr q4 (0,1)).p.gJ=9:=by kernel_rfl
  rw[h1];unfold FR;rw[ag h2,h3];dsimp only;unfold vB;rw[hd];dsimp only;rw[h4];unfold BL;rw[ag e0,eN]
 have eD:=Jr (V:=V) (σ:=sB) (ses:=1) (q:=q4) (by kernel_rfl) (by decide) (by kernel_rfl) (by kernel_rfl);rw[eo] at eD;have e1:vC q4.id ⟨{ gK.zV sB 1 d 9 with tm:=0,sq:=1 },0,1,d.length, []⟩=⟨2,0,1,d.length,0, []⟩:=rfl;rw[e1] at eD;dsimp only at eD;rw[eA] at eD;have hR:(⟨2,0,1,(d.length:Int),0, []⟩:RD).xD:=⟨by show 2<=1099511627776;omega,⟨by show(0:Int)<=0;omega,by show(0:Int)<=99;omega⟩,⟨by show(0:Int)<=1;omega,by show(1:Int)<=1099511627776;omega⟩,⟨by show(0:Int)<=(d.length:Int);omega,by show(d.length:Int)<=_;omega⟩,by show 0<=2147483648;omega,cp _,λe=>absurd rfl e⟩;have ew:wrR ⟨2,0,1,(d.length:Int),0, []⟩=(⟨2,0,1,(d.length:Int),0, []⟩:RD).enc:=ag hR;rw[ew] at eD;have hl:(⟨2,0,1,(d.length:Int),0, []⟩:RD).enc.length<=1000:=dw (Go.jH.rX (cp _)) (by decide);have ek:gU.xp (gU.tJ sB.A 1 q4.id (⟨2,0,1,(d.length:Int),0, []⟩:RD).enc) 1 2=some (⟨2,0,1,(d.length:Int),0, []⟩:RD).enc:=by
  generalize (⟨2,0,1,(d.length:Int),0, []⟩:RD).enc=w at hl;have hg:gU.vo sB.A 1=some ⟨1,5,true,false, [(1, [1,0,0,0,0,0])], []⟩:=by kernel_rfl
  have e2:gU.tJ sB.A 1 q4.id w=gU.yP sB.A 1 ⟨1,5,true,false,gU.nL [(1, [1,0,0,0,0,0])] 2 w, []⟩:=by
   unfold gU.tJ;rw[hg];dsimp only;rw[ai (λh=>h.elim (λa=>absurd a (by decide)) (λa=>by omega))];rfl
  rw[e2];unfold gU.xp;rw[La hg,ag rfl];show gU.Ie (gU.nL [(1, [1,0,0,0,0,0])] 2 w) 2=some w;kernel_rfl
 have eu: ∀m,gU.UP (gU.tJ sB.A 1 q4.id (⟨2,0,1,(d.length:Int),0, []⟩:RD).enc) m=gU.UP sB.A m:=λm=>PQ
 refine⟨_,_,eD,rfl,rfl,?_,?_,?_⟩
 ·rw[ae8 (by kernel_rfl) (by decide) ((eu 1).trans (by kernel_rfl)) ek,Go.jH.adE hR];rfl
 ·exact ae9 (by kernel_rfl) (by decide) ((eu 3).trans (by kernel_rfl))
 ·show(gK.zV sB 1 d 9).B.items.length=1;rw[eP];kernel_rfl
end Ask
end
section
namespace Ask
open qJ (Ev dk uH)
open gK (SS Good Pt GX Mk Bk)
open Go.jH (RD)
variable {V:List UInt8→Bool} {h h' h0 h1 g:aj} {R:iI} {s k c:Nat} {X X':Ft} {I:GX} {σ:SS} {p:bV} {ses:Int} {x:Rq} {L:List (Nat × aq.S)}
theorem ZR (hk: ∀h',Fr No h h'->R (uH QA) h'):Cl F.uu #[] h R:=uu.walk (az.j9 (x:=QA.s) λ_ h1 _ hb f1=>az.jk (x:=QA.s) hb (hk h1 f1))
theorem uL (hk: ∀h',Fr No h h'->R (uH Ac) h'):Cl F.jA #[] h R:=jA.walk (az.j9 (x:=Ac.s) λ_ h1 _ hb f1=>az.jk (x:=Ac.s) hb (hk h1 f1))
theorem ZS:gK.Vv QA:=⟨by kernel_rfl,λe=>by cases bp Ev.vE e⟩
theorem TA {n r:Nat} (B:Bk h s I n r) (hk:R (.bool true) h):Cl F.sC #[pt s] h R:=by
 refine sC.walk ?_;repeat (first|exact hk|refine⟨_,af B rfl,?_⟩|rw[ag rfl])
def Bx (h:aj) (X:Ft) (L:List (Nat×aq.S)):Prop:= ∀e∈L,aq.jx h e.1 e.2/\¬X.M e.1
theorem Bx.step (B:Bx h X L) (st:bN X h X' h'):Bx h' X' L:=λe he=>⟨st.fr.get (B e he).1 (B e he).2,λhm=>by
 rcases st.rh _ hm with a|a
 ·exact(B e he).2 a
 ·have:=aI (B e he).1;omega⟩
theorem Bx.on (B:Bx h X L) (f:Fr No h h'):Bx h' X L:=λe he=>⟨f.get (B e he).1 id,(B e he).2⟩
def Rw (h:aj) (X:Ft) (p:bV) (d:List UInt8):Prop:=Row h p (bc d)/\(d≠ []->∀z,aQ p z->¬X.M z)
theorem Rw.step {d:List UInt8} (B:Rw h X p d) (st:bN X h X' h'):Rw h' X' p d:=by
 by_cases hd:d= []
 ·subst hd;exact⟨Row.nil,λe=>absurd rfl e⟩
 ·refine⟨B.1.frame st.fr (λa ea hx=>B.2 hd a.block ⟨a,ea,rfl⟩ hx),λ_ z hz hm=> ?_⟩;rcases st.rh z hm with a|a
  ·exact B.2 hd z hz a
  ·have:=qO B.1 (by simpa[bc] using hd) hz;omega
theorem Rw.on {d:List UInt8} (B:Rw h X p d) (f:Fr No h h'):Rw h' X p d:=⟨B.1.frame f (λ_ _=>id),B.2⟩
theorem yE {K:Nat->aj->Prop} (E:En V h0 h s X I σ k) (QL:k+2<=30000) (w1:0<=x.ep.ma) (w2:0<=x.dest.ma) (rx:Row h p (bc x.Bf)) (cap:x.Bf.length<=c) (B:Bx h X L)
  (hK: ∀h' X' b q d,En V h0 h' s X' I (AT V σ ses x).1 (k+2)->Bx h' X' ((b,rS (AT V σ ses x).2 q d)::L)->Rw h' X' q (AT V σ ses x).2.b->bN X h X' h'->K b h'):
  Cl F.mJ #[pt s,.I ses,(x.s p c).agg] h λv g=>aq.EX λt=>v=t.agg/\aV g (.cells aq.S.z.arr T.aq) λb g1=>aq.dW g1 (AA b 0) t λg2=>K b g2:=by
 refine apk E (by omega) w1 w2 rx cap λh2 X2 q d H2 AG row nM=>aq.ex (rS (AT V σ ses x).2 q d) ⟨rfl,aq.j9 (x:=rS (AT V σ ses x).2 q d) λb h3 eb hb f3=> ?_⟩
 have G2:=Good.AT (V:=V) (ses:=ses) (q:=x) E.G E.H.ord E.hk w1;have st:=AG.on f3;refine hK h3 X2 b q d (E.step (H2.on f3) st G2 QL) (λe he=> ?_) ((show Rw h2 X2 q _ from⟨row,nM⟩).on f3) st;rcases bQ.1 he with rfl|he
 ·exact⟨hb,λhm=>by have:=H2.lt b (.inl hm);omega⟩
 ·exact(B.step st) e he
theorem Bx.nth {b:Nat} {y:aq.S} (B:Bx h X L) (i:Nat) (hm:L[i]? =some (b,y)):aq.jx h b y:=(B _ (bt hm)).1
theorem En.afa (U:Cb.xQ V h0) (mx:Gj.Mx h0) (f:Fr No h0 h1) (H:Pt h s X I (gK.G8 QA)) (u:UpF h1 X h):En V h0 h s X I (gK.G8 QA) 0:=
 ⟨H,gK.Good.new ZS.1 ZS.2 (by decide),by omega,⟨f.tt u.fr,λc hc=>dw f.1 (u.ge c hc)⟩,U,mx⟩
theorem vX (E:En V h0 h s X I σ k) (QL:k+1<=30000) (token:Nat) (hk: ∀h' X' a b,En V h0 h' s X' I { σ with A:=gU.vp σ.A token } (k+1)->bN X h X' h'->R (.tuple #[.I a,.I b]) h'):
  Cl F.gI #[pt I.t,.U (token:Int)] h R:=by
 obtain⟨Z,hz,zm,zd,go⟩:=E.H.use 0;refine gU.vX token rfl hz E.G.a λh2 Z2 T2 s2=> ?_
 obtain⟨X2,H2,AG,_,_⟩:=go h2 Z2 { σ with A:=gU.vp σ.A token } T2 s2 (λi hi=>gK.PJ _ hi);exact hk h2 X2 _ _ (E.step H2 AG (gK.Good.vp E.G token) QL) AG
theorem LL (U:Cb.xQ V h0) (mx:Gj.Mx h0) (u:Fr No h0 h) (hk: ∀h',Fr No h h'->R (.bool true) h'):Cl F.qc #[] h R:=by
 refine qc.walk (ZR λh1 f1=>az.ex QA.s ⟨rfl,gK.pE QA (λ_ h2 s X I H2 u2=>⟨_,_,rfl,aK.of λJ hJ=> ?_⟩) (λn=>absurd ZS n)⟩);have E2:=En.afa (U.mono u) (mx.on u) f1 H2 u2;rw[dM,ai (by simp)];refine aB.2 ⟨_,af H2.dF rfl,?_⟩;rw[ai (by simp)];refine aB.2 ⟨_,af H2.dF rfl,?_⟩;subst hJ;dsimp only;rw[ai (by simp)];refine aB.2 ⟨_,af H2.dF rfl,vX E2 (by omega) 5 λh3 X3 _ _ E3 Gk=>⟨_,_,rfl,aB.2 ⟨_,af E3.H.dF rfl,vX E3 (by omega) 6 λh4 X4 _ _ E4 Vh=>⟨_,_,rfl,?_⟩⟩⟩⟩;have e4:({ ({ gK.G8 QA with A:=gU.vp (gK.G8 QA).A 5 } :SS) with A:=gU.vp ({ gK.G8 QA with A:=gU.vp (gK.G8 QA).A 5 } :SS).A 6 } :SS)=s1:=by unfold s1;rw[<-ae6];rfl
 rw[e4] at E4;have B0:Bx h4 X4 []:=λe he=>by cases he
 refine uL λh5 f5=>az.ex Ac.s ⟨rfl,yE (x:=q1) (p:=none) (c:=0) (E4.on f5) (by omega) (by decide) (by decide) Row.nil (bh _) (B0.on f5) λh6 X6 b6 _ _ E6 B6 _ _=> ?_⟩
 rw[v1] at E6 B6;dsimp only at E6 B6;refine uL λh7 f7=>az.ex Ac.s ⟨rfl,yE (x:=q1) (p:=none) (c:=0) (E6.on f7) (by omega) (by decide) (by decide) Row.nil (bh _) (B6.on f7) λh8 X8 b8 _ _ E8 B8 _ _=> ?_⟩
 rw[v2] at E8 B8;dsimp only at E8 B8;obtain⟨cU,y,e1,ey,en,e2,e3,el⟩:=v4 (V:=V);refine uL λh9 f9=>az.ex Ac.s ⟨rfl,uL λvk f10=>az.ex Ac.s ⟨rfl,vg.ajK (bs:= [120]) rfl λyj row f11=>yE (x:=q4) (E8.on (f9.tt (f10.tt f11))) (by omega) (by decide) (by decide) row (bh _) (B8.on (f9.tt (f10.tt f11))) λmF X12 b12 _ _ E12 B12 _ _=> ?_⟩⟩
 rw[e1] at E12 B12;dsimp only at E12 B12;refine uL λGQ f13=>az.ex Ac.s ⟨rfl,yE (x:=q6) (p:=none) (c:=0) (E12.on f13) (by omega) (by decide) (by decide) Row.nil (bh _) (B12.on f13) λDw X14 b14 _ _ E14 B14 _ _=> ?_⟩
 rw[e2] at E14 B14;dsimp only at E14 B14;refine uL λGZ f15=>az.ex Ac.s ⟨rfl,yE (x:=q6) (p:=none) (c:=0) (E14.on f15) (by omega) (by decide) (by decide) Row.nil (bh _) (B14.on f15) λvZ X16 b16 _ _ E16 ZT _ _=> ?_⟩
 rw[e3] at E16 ZT;dsimp only at E16 ZT;refine ae5 (x:=⟨2,0,.zero,.zero,0,0,0, [],0,0,false⟩) (p:=none) (c:=0) λQr f17=>aq.ex (rS (C9 2 6) none 0) ⟨rfl,aq.j9 (x:=rS (C9 2 6) none 0) λb18 Gm arZ aa1 f18=> ?_⟩
 have VQ:=ZT.on (f17.tt f18);have E18:=E16.on (f17.tt f18);refine⟨_,af (VQ.nth 4 rfl) rfl,?_⟩;rw[ag (by rfl)];refine⟨_,af (VQ.nth 4 rfl) rfl,?_⟩;rw[ag (by rfl)];refine⟨_,af (VQ.nth 3 rfl) rfl,?_⟩;rw[ag (by rfl)];refine⟨_,af (VQ.nth 2 rfl) rfl,?_⟩;rw[ag (by show(y.err==0)=true;rw[ey];rfl)];refine⟨_,af (VQ.nth 2 rfl) rfl,?_⟩;rw[ag (by show(y.num==1)=true;rw[en];rfl)];refine⟨_,af (VQ.nth 1 rfl) rfl,?_⟩;rw[ag (by show(y.num==1)=true;rw[en];rfl)];refine⟨_,af (VQ.nth 1 rfl) rfl,_,af (VQ.nth 2 rfl) rfl,?_⟩;rw[ag (by show(y.count==y.count)=true;simp)];refine⟨_,af (VQ.nth 0 rfl) rfl,?_⟩;rw[ag (by rfl)];refine⟨_,af aa1 rfl,?_⟩;rw[ag (by rfl)];obtain⟨Z,hz⟩:=E18.H.box;refine aB.2 ⟨_,af E18.H.dF rfl,lJ.PM hz λh19 p19 l19 c19 L19 f19=>⟨_,_,_,rfl,?_⟩⟩;have ll:l19=1:=by rw[L19.len];exact el
 rw[ll];exact hk h19 (E18.u.fr.tt f19)
theorem ahJ {C:hU.CF} {data:List UInt8} {n:Nat} (h:C=hU.xy ⟨[QB data 0 0],2,0,0,0, [(1,5000)], []⟩ (QB data 0 0) 1 n):C.L= [QB data 1 n]/\C.next=2/\C.iR=0/\C.over=0/\C.gone=0:=by subst h;exact⟨rfl,rfl,rfl,rfl,rfl⟩
theorem eqC (a b c d e f:Int):Hq Tryz.prog T.gF (.agg #[.I a,.I b,.I c,.I d,.I e,.I f]) (.agg #[.I a,.I b,.I c,.I d,.I e,.I f]) true:=by
 have q:(a==a && (b==b && (c==c && (d==d && (e==e && (f==f && true))))))=true:=by simp
 rw[<-q];exact Hq.of (by kernel_rfl)
theorem AO (E:En V h0 h s X I σ k) (QL:k+1<=30000) (r:Nat) (hp:gK.C6 σ r=0) (hk: ∀h' X' e,En V h0 h' s X' I (gK.NI σ r) (k+1)->bN X h X' h'->R (.I e) h'):Cl F.lT #[pt s,.U (r:Int)] h R:=by
 obtain⟨L,ok⟩:=E.H.okB;have G2:=gK.Good.pass E.G E.H.ord L ok E.hk r;have eP:gK.Sp σ r=gK.NI σ r:=ag hp;rw[eP] at G2;exact gK.AO r rfl E.H E.G E.hk λh2 X2 H2 AG=>by rw[eP] at H2;exact hk h2 X2 _ (E.step H2 AG G2 QL) AG
theorem ajm {n:Nat} (h:n<=100000):IntKind.wrap .i64 (n:Int)=(n:Int):=bL (by omega) (by omega)
theorem _root_.Go.Proofs.YtlenamcfacpheaaGreatDoor.askLeases_ok (kr later:Int) (dp:bV) (dl dc:Nat) (wt:(Lit.int .u8 kr).wf=true) (wl:(Lit.int .u8 later).wf=true) (hv:Ew Tryz.prog h T.du (.slice dp dl dc)) (ut: ∃V,Cb.xQ V h) (mx:Gj.Mx h):abN Tryz.prog F.rY #[.int .u8 kr,.int .u8 later,.slice dp dl dc] h:=by
 obtain⟨data,rfl,row⟩:=Ew.bytes (by kernel_rfl) vg.u8 vg.uU hv;obtain⟨V,U⟩:=ut;obtain⟨t,rfl⟩: ∃t:Nat,kr=(t:Int):=⟨kr.toNat,by have:=wf_u8 wt;omega⟩;obtain⟨r,rfl⟩: ∃r:Nat,later=(r:Int):=⟨later.toNat,by have:=wf_u8 wl;omega⟩;have ht:t<=255:=by have:=wf_u8 wt;omega
 have hr:r<=255:=by have:=wf_u8 wl;omega
 clear hv wt wl;unfold abN;generalize hR:(λ(v:Value) h'=>v=.bool true/\Fr No h h')=R;have hk: ∀h',Fr No h h'->R (.bool true) h':=λh' hf=>by rw[<-hR];exact⟨rfl,hf⟩
 clear hR;refine rY.walk (ZR λh1 f1=>az.ex QA.s ⟨rfl,gK.pE QA (λ_ h2 s X I H2 u2=>⟨_,_,rfl,aK.of λJ hJ=> ?_⟩) (λn=>absurd ZS n)⟩);have E2:=En.afa U mx f1 H2 u2;rw[dM];refine TA H2.dF ⟨_,rfl,?_⟩;rw[dM];have jt:J true h2:=by
  subst hJ;dsimp only;rw[ag rfl,jy];refine TA H2.dF ⟨_,rfl,?_⟩;rw[ag rfl];exact LL U mx E2.u.fr λh3 f3=>⟨_,rfl,hk h3 (E2.u.fr.tt f3)⟩
 by_cases g1:data.length<1
 ·rw[jy];exact jt
 rw[dM];by_cases g2:data.length>300
 ·rw[ay (by omega)];exact jt
 rw[decide_eq_false (by omega)];clear jt;subst hJ;dsimp only;rw[dM];have eT:IntKind.wrap .i64 (1+IntKind.wrap .i64 (t:Int))=((1+t:Nat):Int):=by rw[ajm (by omega),bL (by omega) (by omega)];omega
 have eR:IntKind.wrap .i64 (r:Int)=(r:Int):=ajm (by omega);have eR':IntKind.wrap .u64 (r:Int)=(r:Int):=wrap_u64 (by omega) (by omega);rw[eT,eR,eR'];clear eT eR eR';refine aB.2 ⟨_,af H2.dF rfl,vX E2 (by omega) 5 λh3 X3 _ _ E3 Gk=>⟨_,_,rfl,aB.2 ⟨_,af E3.H.dF rfl,vX E3 (by omega) 6 λh4 X4 _ _ E4 Vh=>⟨_,_,rfl,?_⟩⟩⟩⟩;have e4:({ ({ gK.G8 QA with A:=gU.vp (gK.G8 QA).A 5 } :SS) with A:=gU.vp ({ gK.G8 QA with A:=gU.vp (gK.G8 QA).A 5 } :SS).A 6 } :SS)=s1:=by unfold s1;rw[<-ae6];rfl
 rw[e4] at E4;have B0:Bx h4 X4 []:=λe he=>by cases he
 clear E2 E3 Gk Vh H2 u2 f1;have n1:1<=1+t:=by omega
 have n2:1+t<=256:=by omega
 generalize hn:1+t=n at n1 n2⊢;refine uL λh5 f5=>az.ex Ac.s ⟨rfl,yE (x:=q1) (p:=none) (c:=0) (E4.on f5) (by omega) (by decide) (by decide) Row.nil (bh _) (B0.on f5) λh6 X6 b6 _ _ E6 B6 _ _=> ?_⟩
 rw[v1] at E6 B6;dsimp only at E6 B6;refine aB.2 ⟨_,af E6.H.dF rfl,uL λh7 f7=>az.ex Ac.s ⟨rfl,f7.kp,?_⟩⟩;have E7:=E6.on f7;have B7:=B6.on f7;obtain⟨Z,hz,zm,zd,go⟩:=E7.H.use 2;refine hU.KR hz (E7.G.small E7.H.ord (by omega)) (λz hz=>(E7.G.c.ok.bd z hz).2.1) (by decide) Ac (d:=data) 5000 rfl (row.frame E7.u.fr (λ_ _=>id)) rfl (λhd a ea hm=>by
  have:=qO row (by simpa[bc] using hd) ⟨a,ea,rfl⟩;have:=E7.u.ge a.block (.inl (zm _ hm));omega) λh8 Z8 C8 s8=>⟨_,_,rfl,?_⟩
 obtain⟨X8,H8,st8,_,_⟩:=go h8 Z8 { sA with C:=hU.sk sA.C Ac data 5000 } C8 s8 (λi hi=>gK.GY _ hi);have E8:=E7.step H8 st8 (gK.Good.akl E7.G E7.H.ord (by omega) Ac (by decide) data 5000) (by omega);have B8:=B7.step st8;rw[akl sA.C rfl data (by omega) (by omega)] at E8;clear E7 B7 E6 B6 E4 B0 go hz zm zd C8 s8 H8 st8;have L8:Li { sA with C:=⟨[QB data 0 0],2,0,0,0, [(1,5000)], []⟩ } 1 0:=by
  refine⟨?_,rfl,rfl⟩;have h:=Au.vW (ses:=1) (id:=1) alI rfl [1,0,0,0,0,0];have e:gU.tJ two 1 1 [1,0,0,0,0,0]=sA.A:=by kernel_rfl
  rw[e] at h;exact h
 generalize hs8:({ sA with C:=⟨[QB data 0 0],2,0,0,0, [(1,5000)], []⟩ } :SS)=σ8 at E8 L8;have C8:σ8.C=⟨[QB data 0 0],2,0,0,0, [(1,5000)], []⟩:=by rw[<-hs8]
 clear hs8;have D:=Li.do (V:=V) (id:=2) L8 (.inl rfl) rfl rfl (ae7 n1 (by omega) (by omega) (by omega)) (show(7:Int)<11 by decide) (do7 (n:=n) (id:=2) (data:=data) (by rw[C8]) L8.g L8.n (by omega)) rfl rfl rfl;refine uL λh9 f9=>az.ex Ac.s ⟨rfl,yE (x:=q2 n 2) (p:=none) (c:=0) (E8.on f9) (by omega) (show(0:Int)<=1 by decide) (show(0:Int)<=0 by decide) Row.nil (bh _) (B8.on f9) λvk X10 b10 q10 d10 E10 B10 R10 _=> ?_⟩
 rw[D.1] at B10 R10;obtain⟨_,L10,C10⟩:=D;obtain⟨alJ,hs⟩: ∃z,(AT V σ8 1 (q2 n 2)).1=z:=⟨_,rfl⟩;rw[hs] at E10 L10 C10;clear hs;have C10:alJ.C=hU.xy σ8.C (QB data 0 0) 1 n:=C10;rw[C8] at C10;obtain⟨l10,x10,a10,WI,g10⟩:=ahJ C10;clear C10 L8 E8 B8 C8;have D:=Li.do (V:=V) (id:=3) L10 (.inr rfl) rfl rfl (Hm (.inl rfl) (by omega) (by omega)) (by decide) (ahH (id:=3) (e:=14) (by rw[l10,QC];exact ag (.inr (by decide))) (by decide)) rfl rfl rfl;refine yE (x:=q3 3 8) (p:=none) (c:=0) E10 (by omega) (by decide) (by decide) Row.nil (bh _) B10 λyj X11 b11 _ _ E11 B11 _ agj=> ?_
 have R11:=R10.step agj;rw[D.1] at B11;obtain⟨_,L11,C11⟩:=D;obtain⟨alK,hs⟩: ∃z,(AT V alJ 2 (q3 3 8)).1=z:=⟨_,rfl⟩;rw[hs] at E11 L11 C11;clear hs;have C11:alK.C=alJ.C:=C11;rw[<-C11] at l10 x10 a10 WI g10;clear C11 L10 E10 B10 R10 agj;have D:=Li.do (V:=V) (id:=4) L11 (.inr rfl) rfl rfl (Hm (.inr rfl) (by omega) (by omega)) (by decide) (arB (id:=4) (e:=14) (by rw[l10,QC];exact ag (.inr (by decide))) (by decide)) rfl rfl rfl;refine yE (x:=q3 4 9) (p:=none) (c:=0) E11 (by omega) (by decide) (by decide) Row.nil (bh _) B11 λmF X12 b12 _ _ E12 B12 _ ahw=> ?_
 have R12:=R11.step ahw;rw[D.1] at B12;obtain⟨_,L12,C12⟩:=D;obtain⟨alL,hs⟩: ∃z,(AT V alK 2 (q3 4 9)).1=z:=⟨_,rfl⟩;rw[hs] at E12 L12 C12;clear hs;have C12:alL.C=alK.C:=C12;rw[<-C12] at l10 x10 a10 WI g10;clear C12 L11 E11 B11 R11 ahw;have D:=Li.do (V:=V) (id:=5) L12 (.inr rfl) rfl rfl (ae7 (n:=1) (by omega) (by omega) (by omega) (by omega)) (by decide) (arA (n:=1) (id:=5) L12.g) rfl rfl rfl;refine uL λGQ f13=>az.ex Ac.s ⟨rfl,yE (x:=q2 1 5) (p:=none) (c:=0) (E12.on f13) (by omega) (by decide) (by decide) Row.nil (bh _) (B12.on f13) λDw X14 b14 _ _ E14 B14 _ apn=> ?_⟩
 have R14:=(R12.on f13).step apn;rw[D.1] at B14;obtain⟨_,L14,C14⟩:=D;obtain⟨abk,hs⟩: ∃z,(AT V alL 2 (q2 1 5)).1=z:=⟨_,rfl⟩;rw[hs] at E14 L14 C14;clear hs;have C14:abk.C=alL.C:=C14;rw[<-C14] at l10 x10 a10 WI g10;clear C14 L12 E12 B12 R12 apn;have hp:gK.C6 abk r=0:=by unfold gK.C6;rw[dM,L14.n,dM]
 refine AO E14 (by omega) r hp λGZ X15 e15 E15 alM=>⟨_,rfl,?_⟩
 have R15:=R14.step alM;have B15:=B14.step alM;obtain⟨l15,x15,a15,Mq,g15⟩:=apl E14.G.c.ok E14.H.ord l10 (show r<5000 by omega);have L15:Li (gK.NI abk r) 5 r:=⟨L14.a,L14.g,rfl⟩;have C15:(gK.NI abk r).C=hU.oI abk.C (r:Int):=rfl;generalize gK.NI abk r=alN at E15 L15 C15;rw[<-C15] at l15 x15 a15 Mq g15;rw[x10] at x15;rw[a10] at a15;rw[WI] at Mq;rw[g10] at g15;clear C15 L14 E14 B14 R14 alM hp l10 x10 a10 WI g10;by_cases c:n<=r
 ·rw[ag c] at l15;have D:=Li.do (V:=V) (id:=6) L15 (.inl rfl) rfl rfl (Hm (.inl rfl) (by omega) (by omega)) (by decide) (ahH (id:=6) (e:=14) (by rw[l15,QC];exact ag (.inl rfl)) (by decide)) rfl rfl rfl;refine yE (x:=q3 6 8) (p:=none) (c:=0) E15 (by omega) (by decide) (by decide) Row.nil (bh _) B15 λvZ X16 b16 _ _ E16 ZT _ ahK=> ?_
  rw[D.1] at ZT;obtain⟨_,L16,C16⟩:=D;obtain⟨abl,hs⟩: ∃z,(AT V alN 1 (q3 6 8)).1=z:=⟨_,rfl⟩;rw[hs] at E16 L16 C16;clear hs;have C16:abl.C=alN.C:=C16;rw[<-C16] at l15 x15 a15 Mq g15;clear C16 L15 E15 B15 R15 ahK;have D:=Li.do (V:=V) (id:=7) L16 (.inl rfl) rfl rfl (Hm (.inl rfl) (by omega) (by omega)) (by decide) (ahH (id:=7) (e:=14) (by rw[l15,QC];exact ag (.inl rfl)) (by decide)) rfl rfl rfl;refine yE (x:=q3 7 8) (p:=none) (c:=0) E16 (by omega) (by decide) (by decide) Row.nil (bh _) ZT λQr X17 b17 _ _ Oy B17 _ ahL=> ?_
  rw[D.1] at B17;obtain⟨_,L17,C17⟩:=D;obtain⟨alO,hs⟩: ∃z,(AT V abl 1 (q3 7 8)).1=z:=⟨_,rfl⟩;rw[hs] at Oy L17 C17;clear hs;have C17:alO.C=abl.C:=C17;rw[<-C17] at l15 x15 a15 Mq g15;clear C17 L16 E16 ZT ahL;have ln:=ahI Oy.G.c.ok Oy.H.ord (.inr ⟨data,l15⟩);obtain⟨Z,hz,_⟩:=Oy.H.use 2;refine aB.2 ⟨_,af Oy.H.dF rfl,hU.Nz hz (Oy.G.small Oy.H.ord (by omega)) λGm f18=>⟨_,_,_,_,_,_,rfl,gF.new λb19 h19 arE IZ f19=> ?_⟩⟩;rw[x15,l15,ln,a15,Mq,g15] at IZ;have IZ:gF.at h19 b19 1 1 0 0 0 0:=IZ;rw[jy];refine LL U mx (Oy.u.fr.tt (f18.tt f19)) λQp f20=>⟨_,rfl,?_⟩
  rw[ag rfl];have F:=f18.tt (f19.tt f20);have B:=B17.on F;refine⟨_,af (B.nth 6 rfl) rfl,?_⟩;rw[ag (by rfl)];refine⟨_,af (B.nth 5 rfl) rfl,?_⟩;rw[ag (by rfl)];refine⟨_,af (B.nth 4 rfl) rfl,?_⟩;rw[ag (by rfl)];refine⟨_,af (B.nth 3 rfl) rfl,?_⟩;rw[ag (by rfl)];refine⟨_,af (B.nth 2 rfl) rfl,?_⟩;rw[ag (by rfl)];refine⟨_,af (B.nth 1 rfl) rfl,?_⟩;rw[ag (by rfl)];refine⟨_,af (B.nth 0 rfl) rfl,?_⟩;rw[ag (by rfl)];exact gF.ld (f20.get IZ id) ⟨_,eqC 1 1 0 0 0 0,hk Qp (Oy.u.fr.tt F)⟩
 ·rw[ai c] at l15;obtain⟨o,ho,oe,oA,oG,on,oC⟩:=do8 (V:=V) (id:=6) l15;have D:=Li.do (V:=V) (id:=6) L15 (.inl rfl) rfl rfl (Hm (.inl rfl) (by omega) (by omega)) (by decide) ho oA oG on;refine yE (x:=q3 6 8) (p:=none) (c:=0) E15 (by omega) (by decide) (by decide) Row.nil (bh _) B15 λvZ X16 b16 _ _ E16 ZT _ ahK=> ?_
  have R16:=R15.step ahK;have eo:vC 6 o=⟨6,0,o.num,o.KE,0,o.d⟩:=ag oe;rw[D.1,eo] at ZT;obtain⟨_,L16,C16⟩:=D;obtain⟨abl,hs⟩: ∃z,(AT V alN 1 (q3 6 8)).1=z:=⟨_,rfl⟩;rw[hs] at E16 L16 C16;clear hs;rw[oC] at C16;obtain⟨l16,a16,x16,o16,g16⟩:=arC l15;rw[<-C16] at l16 a16 x16 o16 g16;rw[x15] at x16;rw[a15] at a16;rw[Mq] at o16;rw[g15] at g16;clear C16 L15 E15 B15 R15 ahK l15 x15 a15 Mq g15 oA oG on oC ho;have D:=Li.do (V:=V) (id:=7) L16 (.inl rfl) rfl rfl (Hm (.inl rfl) (by omega) (by omega)) (by decide) (ahH (id:=7) (e:=4) (by rw[l16];rfl) (by decide)) rfl rfl rfl;refine yE (x:=q3 7 8) (p:=none) (c:=0) E16 (by omega) (by decide) (by decide) Row.nil (bh _) ZT λQr X17 b17 _ _ Oy B17 _ ahL=> ?_
  have R17:=R16.step ahL;rw[D.1] at B17;obtain⟨_,L17,C17⟩:=D;obtain⟨alO,hs⟩: ∃z,(AT V abl 1 (q3 7 8)).1=z:=⟨_,rfl⟩;rw[hs] at Oy L17 C17;clear hs;have C17:alO.C=abl.C:=C17;rw[<-C17] at l16 x16 a16 o16 g16;clear C17 L16 E16 ZT ahL;have ln:=ahI Oy.G.c.ok Oy.H.ord (.inl l16);obtain⟨Z,hz,_⟩:=Oy.H.use 2;refine aB.2 ⟨_,af Oy.H.dF rfl,hU.Nz hz (Oy.G.small Oy.H.ord (by omega)) λGm f18=>⟨_,_,_,_,_,_,rfl,gF.new λb19 h19 arE IZ f19=> ?_⟩⟩;rw[x16,l16,ln,a16,o16,g16] at IZ;have IZ:gF.at h19 b19 1 0 0 1 0 0:=IZ;rw[dM];refine LL U mx (Oy.u.fr.tt (f18.tt f19)) λQp f20=>⟨_,rfl,?_⟩
  rw[ag rfl];have F:=f18.tt (f19.tt f20);have B:=B17.on F;refine⟨_,af (B.nth 6 rfl) rfl,?_⟩;rw[ag (by rfl)];refine⟨_,af (B.nth 5 rfl) rfl,?_⟩;rw[ag (by rfl)];refine⟨_,_,_,af (B.nth 5 rfl) rfl,_,vg.conv (R17.on F).1 rfl,_,vg.conv (row.frame (Oy.u.fr.tt F) (λ_ _=>id)) rfl,?_⟩;rw[ag (by show((str data).toList==(str data).toList)=true;simp)];refine⟨_,af (B.nth 4 rfl) rfl,?_⟩;rw[ag (by rfl)];refine⟨_,af (B.nth 3 rfl) rfl,?_⟩;rw[ag (by rfl)];refine⟨_,af (B.nth 2 rfl) rfl,?_⟩;rw[ag (by rfl)];refine⟨_,af (B.nth 1 rfl) rfl,?_⟩;rw[ag (by rfl)];refine⟨_,af (B.nth 0 rfl) rfl,?_⟩;rw[ag (by rfl)];exact gF.ld (f20.get IZ id) ⟨_,eqC 1 0 0 1 0 0,hk Qp (Oy.u.fr.tt F)⟩
end Ask
end
theorem Mz {H:Type} {enc:TypeId×Value->H} {C:Checked} {os:Os} {f:FuncId} {fn:Func} {s:ChangeSpec} {conds:List PathCond} {apart fresh handsOn again:Bool} {a:Assume} {X:World->Array Value->Prop}
  (hX: ∀(w w':World) (args:Array Value),w.heap=w'.heap->X w args->X w' args) (own:ownKnob C.prog.godebug=none) (started:os.Started) (alP:C.prog.inits.idxOf? f=none) (hfn:C.prog.funcs[f]? =some fn)
  (witness: ∃(w:World) (tape:Tape) (i:Input),w.os=os/\(w.forCall tape i).Shaped C.prog/\i.vars= []/\Input.okWide C.prog (w.forCall tape i) .any w.heap.size f i/\
   ((s.pre enc C.prog fn conds apart (w.forCall tape i).memory i.args/\X (w.forCall tape i).memory i.args)/\sizedMet enc C.prog fn (OpenSpec.ofChange s) apart (w.forCall tape i).memory i.args)/\a.holds C.prog (lone (Frame.enter C.prog f i.args .normal) [] (w.forCall tape i)))
  (con: ∀(W:World) (base:Nat) (args:Array Value) (ds gs:List (DataW H)) (before:List MemPlace),W.ShapedOpen C.prog->(∀(j:Nat) t v,fn.params[j]? =some t->args[j]? =some v->Value.okWide C.prog W .any base t v)->
   DataW.Whole enc C.prog fn.params.toList s.vars apart W args.toList ds gs before->X W args->Calls C.prog f args W λe W'=> ∃v,e=.returned v/\s.post enc C.prog fn apart fresh handsOn again W args v W'):
  ReturnsInHanded a C os f .any (λw args=>(s.pre enc C.prog fn conds apart w args/\X w args)/\sizedMet enc C.prog fn (OpenSpec.ofChange s) apart w args) (s.post enc C.prog fn apart fresh handsOn again):=
 returnsInHanded_of_calls own started alP witness λw tape i _ sh _ ok pre _=>by
  obtain⟨_,_,_,g,hg,_,_,_,_,val⟩:=ok;cases bz (hg.symm.trans hfn);obtain⟨⟨⟨ds,gs,before,hw,_⟩,hx⟩,_⟩:=pre;refine(con (w.forCall tape i) w.heap.size i.args ds gs before sh val (DataW.Whole.of_heap (w':=w.forCall tape i) (by rfl) hw) (hX _ _ _ (by rfl) hx)).mono λe W' hp=> ?_
  obtain⟨v,rfl,hp⟩:=hp;exact ChangeSpec.post_blind hp
theorem Gj.Mx.abm {W:World} (h:W.ShapedOpen Tryz.prog):Gj.Mx W.heap:=by
 obtain⟨m,hm⟩:=cell_of_shapedOpen_int (g:=5) (t:=T.int) (zero:= #[.I 0]) (k:=.i64) h (of_decide_eq_true (by kernel_rfl)) (by kernel_rfl) rfl (by kernel_rfl) (by kernel_rfl) (by kernel_rfl);rw[uE] at hm;exact⟨m,hm⟩
section
variable {h:aj} {R:iI}
theorem dD.walk {oD:bV} {mG qK:Nat} (hv:Bd 0 mG/\aP oD λa=>V2 h (a.add (toNat 0*1)) λt27=>Bd 1 mG/\aP oD λkz=>V2 h (kz.add (toNat 1*1)) λt31=>Bd 2 mG/\aP oD λpF=>V2 h (pF.add (toNat 2*1)) λt37=>Bd 3 mG/\aP oD λrZ=>V2 h (rZ.add (toNat 3*1)) λt43=>Bd 4 mG/\aP oD λvT=>V2 h (vT.add (toNat 4*1)) λt49=>Bd 5 mG/\aP oD λBK=>V2 h (BK.add (toNat 5*1)) λt55=>Bd 6 mG/\aP oD λKo=>V2 h (Ko.add (toNat 6*1)) λt61=>Bd 7 mG/\aP oD λRJ=> ∃t67,ak h (RJ.add (toNat 7*1))=some (.int .u8 t67)/\R (.U (wrap .u64 ((BitVec.ofInt (IntKind.bits .u64) (wrap .u64 ((BitVec.ofInt (IntKind.bits .u64) (wrap .u64 ((BitVec.ofInt (IntKind.bits .u64) (wrap .u64 ((BitVec.ofInt (IntKind.bits .u64) (wrap .u64 ((BitVec.ofInt (IntKind.bits .u64) (wrap .u64 ((BitVec.ofInt (IntKind.bits .u64) (wrap .u64 ((BitVec.ofInt (IntKind.bits .u64) (wrap .u64 t27)|||BitVec.ofInt (IntKind.bits .u64) (wrap .u64 ((wrap .u64 t31)*2 ^ min (toNat 8) (IntKind.bits .u64)))).toNat:Int))|||BitVec.ofInt (IntKind.bits .u64) (wrap .u64 ((wrap .u64 t37)*2 ^ min (toNat 16) (IntKind.bits .u64)))).toNat:Int))|||BitVec.ofInt (IntKind.bits .u64) (wrap .u64 ((wrap .u64 t43)*2 ^ min (toNat 24) (IntKind.bits .u64)))).toNat:Int))|||BitVec.ofInt (IntKind.bits .u64) (wrap .u64 ((wrap .u64 t49)*2 ^ min (toNat 32) (IntKind.bits .u64)))).toNat:Int))|||BitVec.ofInt (IntKind.bits .u64) (wrap .u64 ((wrap .u64 t55)*2 ^ min (toNat 40) (IntKind.bits .u64)))).toNat:Int))|||BitVec.ofInt (IntKind.bits .u64) (wrap .u64 ((wrap .u64 t61)*2 ^ min (toNat 48) (IntKind.bits .u64)))).toNat:Int))|||BitVec.ofInt (IntKind.bits .u64) (wrap .u64 ((wrap .u64 t67)*2 ^ min (toNat 56) (IntKind.bits .u64)))).toNat:Int))) h):Cl F.dD #[.slice oD mG qK] h R:=aS (lq (sq (cq (sq (pN 23) lf) lf) (sq (pN 47) lf))) Tryz.func324 hv
theorem jm.walk {p_p:bV} {p_l p_c:Nat} (hv:((0:Int)<=(p_l:Int)/\(p_l:Int)<=(p_c:Int))/\((0:Int)<=(p_l:Int)/\(p_l:Int)<=(p_l:Int))/\∃(I:bV->Nat->Nat->aj->Prop) (mu:bV->Nat->Nat->aj->Nat),I (da p_p (toNat (p_l:Int)) 0 1) (toNat (p_l:Int)) (toNat (p_l:Int)) h/\∀(pX:bV) (jT oJ:Nat) (aR:aj),I pX jT oJ aR->if(decide ((jT:Int)>0)) then aK (λ(ajn:bV) (ajo ajp:Nat) (aZ:aj)=>(I ajn ajo ajp aZ/\mu ajn ajo ajp aZ<mu pX jT oJ aR)) (λJ=>Bd 0 jT/\aP pX λa=> ∃t18,ak aR (a.add (toNat 0*1))=some (.int .u8 t18)/\if(decide (t18<128)) then((0:Int)<=1/\1<=(jT:Int))/\aK (λ(t31:Bool) (bK:aj)=>aK (λ(apo:bV) (apq apr:Nat) (cC:aj)=>J apo apq apr cC) (λBp=>if t31 then((0:Int)<=8/\8<=((jT - (toNat 1):Nat):Int))/\aK (λ(t46:Bool) (cK:aj)=>aK (λ(apt:bV) (apu apv:Nat) (cR:aj)=>Bp apt apu apv cR) (λJ_4=>if t46 then((0:Int)<=16/\16<=(((jT - (toNat 1)) - (toNat 8):Nat):Int))/\∃(Kq:bV->Nat->Nat->aj->Prop) (CD:bV->Nat->Nat->aj->Nat),Kq (da (da (da pX oJ (toNat 1) 1) (oJ - (toNat 1)) (toNat 8) 1) ((oJ - (toNat 1)) - (toNat 8)) (toNat 16) 1) (((jT - (toNat 1)) - (toNat 8)) - (toNat 16)) (((oJ - (toNat 1)) - (toNat 8)) - (toNat 16)) cK/\∀(Gf:bV) (yF yG:Nat) (cX:aj),Kq Gf yF yG cX->aK (λ(t69:Bool) (dB:aj)=>if t69 then((0:Int)<=32/\32<=(yF:Int))/\(Kq (da Gf yG (toNat 32) 1) (yF - (toNat 32)) (yG - (toNat 32)) dB/\CD (da Gf yG (toNat 32) 1) (yF - (toNat 32)) (yG - (toNat 32)) dB<CD Gf yF yG cX) else J_4 Gf yF yG dB) (λJ_5=>if(decide ((yF:Int)>32)) then((0:Int)<=8/\8<=(yF:Int))/\((0:Int)<=16/\16<=(yF:Int))/\((0:Int)<=24/\24<=(yF:Int))/\Cl F.dD #[.slice Gf yF yG] cX λv ff=>Vu v λt54=>Cl F.dD #[.slice (da Gf yG (toNat 8) 1) (yF - (toNat 8)) (yG - (toNat 8))] ff λeK cQ=>Vu eK λt57=>Cl F.dD #[.slice (da Gf yG (toNat 16) 1) (yF - (toNat 16)) (yG - (toNat 16))] cQ λgS cW=>Vu gS λt61=>Cl F.dD #[.slice (da Gf yG (toNat 24) 1) (yF - (toNat 24)) (yG - (toNat 24))] cW λkV dE=> ∃t64,kV=.U t64/\J_5 ((wrap .u64 ((BitVec.ofInt (IntKind.bits .u64) (wrap .u64 ((BitVec.ofInt (IntKind.bits .u64) (wrap .u64 ((BitVec.ofInt (IntKind.bits .u64) t54|||BitVec.ofInt (IntKind.bits .u64) t57).toNat:Int))|||BitVec.ofInt (IntKind.bits .u64) (wrap .u64 ((BitVec.ofInt (IntKind.bits .u64) t61|||BitVec.ofInt (IntKind.bits .u64) t64).toNat:Int))).toNat:Int)) &&& BitVec.ofInt (IntKind.bits .u64) 9259542123273814144).toNat:Int))==0) dE else J_5 false cX) else J_4 (da (da pX oJ (toNat 1) 1) (oJ - (toNat 1)) (toNat 8) 1) ((jT - (toNat 1)) - (toNat 8)) ((oJ - (toNat 1)) - (toNat 8)) cK)) (λGH=>if(decide ((((jT - (toNat 1)) - (toNat 8):Nat):Int)>16)) then((0:Int)<=8/\8<=(((jT - (toNat 1)) - (toNat 8):Nat):Int))/\Cl F.dD #[.slice (da (da pX oJ (toNat 1) 1) (oJ - (toNat 1)) (toNat 8) 1) ((jT - (toNat 1)) - (toNat 8)) ((oJ - (toNat 1)) - (toNat 8))] bK λou dG=>Vu ou λt39=>Cl F.dD #[.slice (da (da (da pX oJ (toNat 1) 1) (oJ - (toNat 1)) (toNat 8) 1) ((oJ - (toNat 1)) - (toNat 8)) (toNat 8) 1) (((jT - (toNat 1)) - (toNat 8)) - (toNat 8)) (((oJ - (toNat 1)) - (toNat 8)) - (toNat 8))] dG λxw fD=> ∃t42,xw=.U t42/\GH ((wrap .u64 ((BitVec.ofInt (IntKind.bits .u64) (wrap .u64 ((BitVec.ofInt (IntKind.bits .u64) t39|||BitVec.ofInt (IntKind.bits .u64) t42).toNat:Int)) &&& BitVec.ofInt (IntKind.bits .u64) 9259542123273814144).toNat:Int))==0) fD else GH false bK) else Bp (da pX oJ (toNat 1) 1) (jT - (toNat 1)) (oJ - (toNat 1)) bK)) (λjo=>if(decide (((jT - (toNat 1):Nat):Int)>8)) then Cl F.dD #[.slice (da pX oJ (toNat 1) 1) (jT - (toNat 1)) (oJ - (toNat 1))] aR λAU gE=> ∃t28,AU=.U t28/\jo ((wrap .u64 ((BitVec.ofInt (IntKind.bits .u64) t28 &&& BitVec.ofInt (IntKind.bits .u64) 9259542123273814144).toNat:Int))==0) gE else jo false aR) else Bd t18 256/\V2 aR (((AA 3 0):Addr).add (toNat t18*1)) λt74=>Bd (Int.fdiv t74 (2 ^ min (toNat 4) (IntKind.bits .u8))) 16/\∃ajq,ak aR (((AA 4 0):Addr).add (toNat (Int.fdiv t74 (2 ^ min (toNat 4) (IntKind.bits .u8)))*2))=some (.int .u8 ajq)/\∃ajr,ak aR ((((AA 4 0):Addr).add (toNat (Int.fdiv t74 (2 ^ min (toNat 4) (IntKind.bits .u8)))*2)).add 1)=some (.int .u8 ajr)/\aV aR (.cells #[.int .u8 0,.int .u8 0] T.gC) λb gX=>aH gX (AA b 0) (.int .u8 ajq) λgR=>aH gR (AA b 1) (.int .u8 ajr) λfi=>aK (λ(apw:bV) (apx apy:Nat) (jn:aj)=>J apw apx apy jn) (λJ_6=>aK (λ(apz:bV) (apA apB:Nat) (ju:aj)=>J_6 apz apA apB ju) (λJ_7=>if((wrap .i64 (wrap .u8 ((BitVec.ofInt (IntKind.bits .u8) t74 &&& BitVec.ofInt (IntKind.bits .u8) 7).toNat:Int)))==2) then aK (λ(t103:Bool) (sL:aj)=>if t103 then R (.bool false) sL else((0:Int)<=2/\2<=(jT:Int))/\J_7 (da pX oJ (toNat 2) 1) (jT - (toNat 2)) (oJ - (toNat 2)) sL) (λJ_8=>if(decide ((jT:Int)<2)) then J_8 true fi else Bd 1 jT/\aP pX λkz=>V2 fi (kz.add (toNat 1*1)) λt91=> ∃t93,ak fi (AA b 0)=some (.int .u8 t93)/\if(decide (t91<t93)) then J_8 true fi else Hy fi b 1 λt98=>Bd 1 jT/\aP pX λpF=> ∃t101,ak fi (pF.add (toNat 1*1))=some (.int .u8 t101)/\J_8 (decide (t98<t101)) fi) else aK (λ(apC:bV) (apD apF:Nat) (rM:aj)=>J_7 apC apD apF rM) (λJ_9=>if((wrap .i64 (wrap .u8 ((BitVec.ofInt (IntKind.bits .u8) t74 &&& BitVec.ofInt (IntKind.bits .u8) 7).toNat:Int)))==3) then aK (λ(t138:Bool) (qL:aj)=>if t138 then R (.bool false) qL else((0:Int)<=3/\3<=(jT:Int))/\J_9 (da pX oJ (toNat 3) 1) (jT - (toNat 3)) (oJ - (toNat 3)) qL) (λTk=>if(decide ((jT:Int)<3)) then Tk true fi else Bd 1 jT/\aP pX λrZ=>V2 fi (rZ.add (toNat 1*1)) λt114=> ∃t116,ak fi (AA b 0)=some (.int .u8 t116)/\if(decide (t114<t116)) then Tk true fi else Hy fi b 1 λt121=>Bd 1 jT/\aP pX λvT=> ∃t124,ak fi (vT.add (toNat 1*1))=some (.int .u8 t124)/\if(decide (t121<t124)) then Tk true fi else Bd 2 jT/\aP pX λBK=> ∃t130,ak fi (BK.add (toNat 2*1))=some (.int .u8 t130)/\if(decide (t130<128)) then Tk true fi else Bd 2 jT/\aP pX λKo=> ∃t136,ak fi (Ko.add (toNat 2*1))=some (.int .u8 t136)/\Tk (decide (191<t136)) fi) else if((wrap .i64 (wrap .u8 ((BitVec.ofInt (IntKind.bits .u8) t74 &&& BitVec.ofInt (IntKind.bits .u8) 7).toNat:Int)))==4) then aK (λ(t185:Bool) (vi:aj)=>if t185 then R (.bool false) vi else((0:Int)<=4/\4<=(jT:Int))/\J_9 (da pX oJ (toNat 4) 1) (jT - (toNat 4)) (oJ - (toNat 4)) vi) (λMw=>if(decide ((jT:Int)<4)) then Mw true fi else Bd 1 jT/\aP pX λRJ=>V2 fi (RJ.add (toNat 1*1)) λt149=> ∃t151,ak fi (AA b 0)=some (.int .u8 t151)/\if(decide (t149<t151)) then Mw true fi else Hy fi b 1 λt156=>Bd 1 jT/\aP pX λa_8=> ∃t159,ak fi (a_8.add (toNat 1*1))=some (.int .u8 t159)/\if(decide (t156<t159)) then Mw true fi else Bd 2 jT/\aP pX λa_9=> ∃t165,ak fi (a_9.add (toNat 2*1))=some (.int .u8 t165)/\if(decide (t165<128)) then Mw true fi else Bd 2 jT/\aP pX λQm=> ∃t171,ak fi (Qm.add (toNat 2*1))=some (.int .u8 t171)/\if(decide (191<t171)) then Mw true fi else Bd 3 jT/\aP pX λarF=> ∃t177,ak fi (arF.add (toNat 3*1))=some (.int .u8 t177)/\if(decide (t177<128)) then Mw true fi else Bd 3 jT/\aP pX λarG=> ∃t183,ak fi (arG.add (toNat 3*1))=some (.int .u8 t183)/\Mw (decide (191<t183)) fi) else R (.bool false) fi)))) else R (.bool true) aR):Cl F.jm #[.slice p_p p_l p_c] h R:=aS (lq (lq (sq (bq (.loop [(0,.one (.slice))] (sq (lq (cq lf lf)) (.join [(0,.one (.slice))] (bq (lq (sq (lq (cq (lq (sq (sq (.join [(31,.one (.bool))] lf) (.join [(0,.one (.slice))] (cq (lq (sq (.join [(46,.one (.bool))] (.mC (.op 0 (.op 1 (.op 2 (.op 3 (.op 4 (.op 6 (.op 7 (.op 5 (.op 8 (.op 9 (.op 10 (.op 11 (.op 12 .done))))))))))))))) (.join [(0,.one (.slice))] (cq (lq (bq (.loop [(0,.one (.slice))] (sq (sq (.join [(69,.one (.bool))] (.mC (.op 0 (.op 1 (.op 2 (.op 3 (.op 4 (.op 6 (.op 7 (.op 10 (.op 11 (.op 13 (.op 14 (.op 5 (.op 8 (.op 9 (.op 12 (.op 15 (.op 16 (.op 17 (.op 18 (.op 19 (.op 20 .done))))))))))))))))))))))) (cq lf lf)) (bq lf))))) lf)))) lf))) lf)) lf)) (lq (lq (lq (lq (.join [(0,.one (.slice))] (bq (lq (.join [(0,.one (.slice))] (cq (sq (sq (.join [(103,.one (.bool))] (pN 19)) (cq ll lf)) lf) (lq (.join [(0,.one (.slice))] (cq (sq (sq (.join [(138,.one (.bool))] (pN 31)) (cq ll lf)) lf) (lq (cq (sq (sq (.join [(185,.one (.bool))] (pN 43)) (cq ll lf)) lf) ll))))))))))))))))))))) ll))) Tryz.func316 hv
end
section
namespace Cb
variable {h h0 h' g:aj} {R:iI} {p:bV} {l c:Nat} {b bs:List UInt8} {FT A0 A1:Nat→Int}
def bI (b:List UInt8) (i:Nat):Int:=((b.getD i 0).toNat:Int)
def arH (a0 a1 a2 a3 a4 a5 a6 a7:Int):Int:=(IntKind.wrap .u64 ((BitVec.ofInt (IntKind.bits .u64) (IntKind.wrap .u64 ((BitVec.ofInt (IntKind.bits .u64) (IntKind.wrap .u64 ((BitVec.ofInt (IntKind.bits .u64) (IntKind.wrap .u64 ((BitVec.ofInt (IntKind.bits .u64) (IntKind.wrap .u64 ((BitVec.ofInt (IntKind.bits .u64) (IntKind.wrap .u64 ((BitVec.ofInt (IntKind.bits .u64) (IntKind.wrap .u64 ((BitVec.ofInt (IntKind.bits .u64) (IntKind.wrap .u64 a0)|||BitVec.ofInt (IntKind.bits .u64) (IntKind.wrap .u64 ((IntKind.wrap .u64 a1)*2 ^ min (Int.toNat 8) (IntKind.bits .u64)))).toNat:Int))|||BitVec.ofInt (IntKind.bits .u64) (IntKind.wrap .u64 ((IntKind.wrap .u64 a2)*2 ^ min (Int.toNat 16) (IntKind.bits .u64)))).toNat:Int))|||BitVec.ofInt (IntKind.bits .u64) (IntKind.wrap .u64 ((IntKind.wrap .u64 a3)*2 ^ min (Int.toNat 24) (IntKind.bits .u64)))).toNat:Int))|||BitVec.ofInt (IntKind.bits .u64) (IntKind.wrap .u64 ((IntKind.wrap .u64 a4)*2 ^ min (Int.toNat 32) (IntKind.bits .u64)))).toNat:Int))|||BitVec.ofInt (IntKind.bits .u64) (IntKind.wrap .u64 ((IntKind.wrap .u64 a5)*2 ^ min (Int.toNat 40) (IntKind.bits .u64)))).toNat:Int))|||BitVec.ofInt (IntKind.bits .u64) (IntKind.wrap .u64 ((IntKind.wrap .u64 a6)*2 ^ min (Int.toNat 48) (IntKind.bits .u64)))).toNat:Int))|||BitVec.ofInt (IntKind.bits .u64) (IntKind.wrap .u64 ((IntKind.wrap .u64 a7)*2 ^ min (Int.toNat 56) (IntKind.bits .u64)))).toNat:Int))
def Is (b:List UInt8):Int:=arH (bI b 0) (bI b 1) (bI b 2) (bI b 3) (bI b 4) (bI b 5) (bI b 6) (bI b 7)
def hiI (n:Int):Bool:=(IntKind.wrap .u64 ((BitVec.ofInt (IntKind.bits .u64) n &&& BitVec.ofInt (IntKind.bits .u64) 9259542123273814144).toNat:Int))==0
def orI (a b:Int):Int:=IntKind.wrap .u64 ((BitVec.ofInt (IntKind.bits .u64) a|||BitVec.ofInt (IntKind.bits .u64) b).toNat:Int)
def LM (b:List UInt8):Bool:=decide (b.length>32) && hiI (orI (orI (Is b) (Is (b.drop 8))) (orI (Is (b.drop 16)) (Is (b.drop 24))))
def Oz (b:List UInt8):Bool:=decide (b.length>16) && hiI (orI (Is b) (Is (b.drop 8)))
def abn (b:List UInt8):Bool:=decide (b.length>8) && hiI (Is b)
def Gh:Nat->List UInt8->List UInt8
 |0,b=>b
 |f+1,b=>if LM b=true then Gh f (b.drop 32) else b
def TC (b:List UInt8):List UInt8:=if abn b=true then(if Oz (b.drop 8)=true then Gh (b.length+1) ((b.drop 8).drop 16) else b.drop 8) else b
def BC (x:Int):Int:=IntKind.wrap .i64 (IntKind.wrap .u8 ((BitVec.ofInt (IntKind.bits .u8) x &&& BitVec.ofInt (IntKind.bits .u8) 7).toNat:Int))
def I2 (x:Int):Int:=Int.fdiv x (2 ^ min (Int.toNat 4) (IntKind.bits .u8))
def Ad (n:Nat) (lo hi:Int) (b:List UInt8):Bool:=decide (b.length<n)||(decide (bI b 1<lo)||decide (hi<bI b 1))
def BD (b:List UInt8) (i:Nat):Bool:=decide (bI b i<128)||decide (191<bI b i)
def Iu (FT A0 A1:Nat->Int) (b:List UInt8):Option (List UInt8):=
 if bI b 0<128 then some (TC (b.drop 1))
 else if BC (FT (bI b 0).toNat)=2 then(if Ad 2 (A0 (I2 (FT (bI b 0).toNat)).toNat) (A1 (I2 (FT (bI b 0).toNat)).toNat) b=true then none else some (b.drop 2))
 else if BC (FT (bI b 0).toNat)=3 then(if(Ad 3 (A0 (I2 (FT (bI b 0).toNat)).toNat) (A1 (I2 (FT (bI b 0).toNat)).toNat) b||BD b 2)=true then none else some (b.drop 3))
 else if BC (FT (bI b 0).toNat)=4 then(if(Ad 4 (A0 (I2 (FT (bI b 0).toNat)).toNat) (A1 (I2 (FT (bI b 0).toNat)).toNat) b||(BD b 2||BD b 3))=true then none else some (b.drop 4))
 else none
def ZU (nx:List UInt8->Option (List UInt8)):Nat->List UInt8->Bool
 |0,_=>true
 |f+1,b=>if b.length=0 then true else match nx b with|none=>false|some r=>ZU nx f r
theorem ahM (nx:List UInt8->Option (List UInt8)) (f:Nat):ZU nx (f+1) b=if b.length=0 then true else match nx b with|none=>false|some r=>ZU nx f r:=rfl
def EN (FT A0 A1:Nat->Int) (f:Nat) (b:List UInt8):Bool:=ZU (Iu FT A0 A1) f b
theorem ahN (f:Nat):Gh (f+1) b=if LM b=true then Gh f (b.drop 32) else b:=rfl
theorem TD (f:Nat):EN FT A0 A1 (f+1) b=if b.length=0 then true else match Iu FT A0 A1 b with|none=>false|some r=>EN FT A0 A1 f r:=by unfold EN;exact ahM _ _
theorem OA: ∀(f:Nat) (b:List UInt8),(Gh f b).length<=b.length
 |0,b=>bh _
 |f+1,b=>by
  unfold Gh;split
  ·exact dw (OA f _) (by rw[cg];omega)
  ·exact bh _
theorem afb (b:List UInt8):(TC b).length<=b.length:=by
 unfold TC;split
 ·split
  ·exact dw (OA _ _) (by rw[cg,cg];omega)
  ·rw[cg];omega
 ·exact bh _
theorem abo {r:List UInt8} (hb:b.length≠0) (hn:Iu FT A0 A1 b=some r):r.length<b.length:=by
 have d: ∀k,1<=k->(b.drop k).length<b.length:=λk hk=>by rw[cg];omega
 unfold Iu at hn
 repeat' split at hn
 all_goals first|(cases hn;done)|(cases hn;first|exact d _ (by decide)|exact Nat.lt_of_le_of_lt (afb _) (d 1 (by decide)))
structure QD (h:aj) (FT A0 A1:Nat->Int):Prop where
 f: ∀i,i<256->ak h ⟨3,i,none⟩=some (.int .u8 (FT i))/\0<=FT i/\FT i<256
 a: ∀i,i<16->ak h ⟨4,i*2,none⟩=some (.int .u8 (A0 i))/\ak h ⟨4,i*2+1,none⟩=some (.int .u8 (A1 i))
theorem QD.on (UT:QD h FT A0 A1) (f:Fr No h h'):QD h' FT A0 A1:=⟨λi hi=>⟨f.cell (UT.f i hi).1 id,(UT.f i hi).2⟩,λi hi=>⟨f.cell (UT.a i hi).1 id,f.cell (UT.a i hi).2 id⟩⟩
structure Sl (h:aj) (p:bV) (l c:Nat) (b:List UInt8):Prop where
 row:Row h p (bc b)
 len:l=b.length
 cap:l<=c
theorem Sl.drop (S:Sl h p l c b) {k:Nat} (hk:k<=b.length):Sl h (da p c k 1) (l - k) (c - k) (b.drop k):=by
 have hl:=S.len;have hc:=S.cap;refine⟨?_,by rw[cg];omega,by omega⟩;have:=S.row.sub (cap:=c) (l:=k) (u:=b.length) (sz:=1) hk (by omega);rw[cO,cO] at this;unfold bc at this⊢;rw[bT (by rw[aN];omega)] at this;rw[List.map_drop];exact this
theorem Sl.on (S:Sl h p l c b) (f:Fr No h h'):Sl h' p l c b:=⟨S.row.frame f (λ_ _=>id),S.len,S.cap⟩
theorem Sl.at {i:Nat} (S:Sl h p l c b) (hi:i<b.length): ∃a,p=some a/\ak h (a.add (i*1))=some (.int .u8 (bI b i)):=by
 obtain⟨a,ea,ha⟩:=byte_at S.row hi;refine⟨a,ea,?_⟩;unfold bI;rw[ba,au hi];exact ha
theorem apG (b:List UInt8) (i:Nat):0<=bI b i/\bI b i<256:=by
 unfold bI;have:=(b.getD i 0).toNat_lt;omega
theorem alQ {x:Int} (h0:0<=x) (h1:x<256):0<=I2 x/\I2 x<16:=by
 have e:I2 x=x/16:=Int.fdiv_eq_ediv_of_nonneg x (by decide);rw[e];omega
theorem abp {c:Prop} [Decidable c] {A B:Prop} (hc:c) (ha:A):if c then A else B:=by rw[ag hc];exact ha
theorem abq {c:Prop} [Decidable c] {A B:Prop} (hc: ¬c) (hb:B):if c then A else B:=by rw[ai hc];exact hb
theorem A8 (S:Sl h p l c b) (h8:8<=b.length) (hk:R (.U (Is b)) h):Cl F.dD #[.slice p l c] h R:=by
 have hl:=S.len;obtain⟨a,rfl,c0⟩:=S.at (i:=0) (by omega);have cc: ∀i,i<b.length->ak h (a.add (i*1))=some (.int .u8 (bI b i)):=λi hi=>by
  obtain⟨a',e,c⟩:=S.at (i:=i) hi;cases e;exact c
 refine dD.walk ?_;refine⟨⟨by omega,by omega⟩,aB.2 ⟨_,cc 0 (by omega),⟨by omega,by omega⟩,aB.2 ⟨_,cc 1 (by omega),⟨by omega,by omega⟩,aB.2 ⟨_,cc 2 (by omega),⟨by omega,by omega⟩,aB.2 ⟨_,cc 3 (by omega),⟨by omega,by omega⟩,aB.2 ⟨_,cc 4 (by omega),⟨by omega,by omega⟩,aB.2 ⟨_,cc 5 (by omega),⟨by omega,by omega⟩,aB.2 ⟨_,cc 6 (by omega),⟨by omega,by omega⟩,aB.2 ⟨_,cc 7 (by omega),?_⟩⟩⟩⟩⟩⟩⟩⟩⟩;exact hk
theorem afc {vv:Bool} (hV:EN FT A0 A1 (bs.length+1) bs=vv) (UT:QD h FT A0 A1) (row:Row h p (bc bs)) (hl:bs.length<=1000000) (cap:bs.length<=c) (hk: ∀g,Fr No h g->R (.bool vv) g):Cl F.jm #[.slice p bs.length c] h R:=by
 refine jm.walk ⟨⟨by omega,by omega⟩,⟨by omega,by omega⟩,λp l c g=>Fr No h g/\∃b f,Sl g p l c b/\b.length<f/\b.length<=1000000/\EN FT A0 A1 f b=vv,λ_ l _ _=>l,⟨Fr.refl _ _,bs,bs.length+1,⟨by rw[sy];exact row,aL _,bh _⟩,Nat.lt_succ_self _,hl,hV⟩,?_⟩;clear hV;rintro p l c g ⟨fg,b,f,S,hf,hb,eV⟩;have hlen:=S.len;by_cases c0:b.length=0
 case pos=>
  rw[dM];have:EN FT A0 A1 f b=true:=by
   cases f with
   |zero=>rfl
   |succ f=>rw[TD,ag c0]
  rw[eV.symm.trans this] at hk;exact hk g fg
 rw[ag (by simp only[bf];omega)];refine aK.of λJ hJ=> ?_
 obtain⟨f,rfl⟩: ∃f',f=f'+1:=⟨f - 1,by omega⟩;rw[TD,ai c0] at eV;have cont: ∀(g':aj) (p':bV) (l' c':Nat) (b':List UInt8),Fr No g g'->Sl g' p' l' c' b'->Iu FT A0 A1 b=some b'->J p' l' c' g':=by
  intro g' p' l' c' b' f' S' hn;subst hJ;have jc:=abo c0 hn;rw[hn] at eV;exact⟨⟨fg.tt f',b',f,S',by omega,by omega,eV⟩,by have:=S'.len;show l'<l;omega⟩
 have stop: ∀g',Fr No g g'->Iu FT A0 A1 b=none->R (.bool false) g':=by
  intro g' f' hn;rw[hn] at eV;rw[<-eV] at hk;exact hk g' (fg.tt f')
 clear hJ eV hk;obtain⟨a,rfl,ca⟩:=S.at (i:=0) (by omega);have n0:=apG b 0;refine⟨⟨by omega,by omega⟩,aB.2 ⟨_,ca,?_⟩⟩;by_cases c1:bI b 0<128
 ·have eN:Iu FT A0 A1 b=some (TC (b.drop 1)):=ag c1;rw[eN] at cont;clear stop eN;rw[ag (ay c1)];refine⟨⟨by omega,by omega⟩,aK.of λJ1 pB=> ?_⟩;have S1:=S.drop (k:=1) (by omega);generalize hr:b.drop 1=r at cont S1;have alH: ∀v,v=abn r->J1 v g:=by
   intro v hv;subst pB;refine aK.of λJ2 zY=> ?_
   cases ho:abn r with
   |false=>
    rw[hv,ho,dM];subst zY;exact cont g _ _ _ _ (Fr.refl _ _) S1 (by unfold TC;rw[ho];rfl)
   |true=>
   rw[hv,ho,ag rfl];have l8:r.length>8:=by unfold abn at ho;simp only[aW,bf] at ho;exact ho.1
   have S2:=S1.drop (k:=8) (by omega);have hl1:=S1.len;refine⟨⟨by omega,by show(8:Int)<=((l - 1:Nat):Int);omega⟩,aK.of λJ3 SN=> ?_⟩;have Tl: ∀v,v=Oz (r.drop 8)->J3 v g:=by
    intro v hv;subst SN;refine aK.of λJ4 Yx=> ?_
    cases ht:Oz (r.drop 8) with
    |false=>
     rw[hv,ht,dM];subst Yx;subst zY;exact cont g _ _ _ _ (Fr.refl _ _) S2 (by unfold TC;rw[ho,ag rfl,ht];rfl)
    |true=>
    rw[hv,ht,ag rfl];have l16:(r.drop 8).length>16:=by unfold Oz at ht;simp only[aW,bf] at ht;exact ht.1
    have S3:=S2.drop (k:=16) (by omega);have hl2:=S2.len;have eF:TC r=Gh (r.length+1) ((r.drop 8).drop 16):=by unfold TC;rw[ho,ag rfl,ht,ag rfl]
    rw[eF] at cont;refine⟨⟨by omega,by show(16:Int)<=((l - 1 - 8:Nat):Int);omega⟩,λp l c g'=>g'=g/\∃b' f',Sl g p l c b'/\b'.length<f'/\Gh f' b'=Gh (r.length+1) ((r.drop 8).drop 16),λ_ l _ _=>l,⟨rfl,_,_,S3,by rw[cg,cg];omega,rfl⟩,?_⟩;rintro p5 l5 c5 g' ⟨rfl,b5,f5,S5,hf5,e5⟩;have hl5:=S5.len;obtain⟨f5,rfl⟩: ∃f',f5=f'+1:=⟨f5 - 1,by omega⟩;rw[ahN] at e5;refine aK.of λJ5 hJ5=> ?_
    have apH: ∀v,v=LM b5->J5 v g':=by
     intro v hv;subst hJ5;dsimp only;cases h4:LM b5 with
     |false=>
      rw[hv,h4,dM];rw[h4,dM] at e5;subst Yx;subst zY;exact cont g' _ _ _ _ (Fr.refl _ _) S5 (by rw[e5])
     |true=>
      rw[hv,h4,ag rfl];rw[h4,ag rfl] at e5;have l32:b5.length>32:=by unfold LM at h4;simp only[aW,bf] at h4;exact h4.1
      exact⟨⟨by omega,by omega⟩,⟨rfl,_,f5,S5.drop (k:=32) (by omega),by rw[cg];omega,e5⟩,by show l5 - 32<l5;omega⟩
    by_cases q:b5.length>32
    ·rw[jy];refine⟨⟨by omega,by omega⟩,⟨by omega,by omega⟩,⟨by omega,by omega⟩,A8 S5 (by omega) ⟨_,rfl,A8 (S5.drop (k:=8) (by omega)) (by rw[cg];omega) ⟨_,rfl,A8 (S5.drop (k:=16) (by omega)) (by rw[cg];omega) ⟨_,rfl,A8 (S5.drop (k:=24) (by omega)) (by rw[cg];omega) ⟨_,rfl,apH _ ?_⟩⟩⟩⟩⟩;unfold LM;rw[ay q];rfl
    ·rw[dM];exact apH false (by unfold LM;rw[decide_eq_false q];rfl)
   have hl2:=S2.len;by_cases q:(r.drop 8).length>16
   ·rw[ag (ay (by show((l - 1 - 8:Nat):Int)>16;have:l - 1 - 8=(r.drop 8).length:=hl2;omega))];refine⟨⟨by omega,by show(8:Int)<=((l - 1 - 8:Nat):Int);have:l - 1 - 8=(r.drop 8).length:=hl2;omega⟩,A8 S2 (by omega) ⟨_,rfl,A8 (S2.drop (k:=8) (by omega)) (by rw[cg];omega) ⟨_,rfl,Tl _ ?_⟩⟩⟩;unfold Oz;rw[ay q];rfl
   ·rw[ai (by simp only[bf];show¬((l - 1 - 8:Nat):Int)>16;have:l - 1 - 8=(r.drop 8).length:=hl2;omega)];exact Tl false (by unfold Oz;rw[decide_eq_false q];rfl)
  have hl1:=S1.len;by_cases q:r.length>8
  ·rw[ag (ay (by show((l - 1:Nat):Int)>8;have:l - 1=r.length:=hl1;omega))];refine A8 S1 (by omega) ⟨_,rfl,alH _ ?_⟩;unfold abn;rw[ay q];rfl
  ·rw[ai (by simp only[bf];show¬((l - 1:Nat):Int)>8;have:l - 1=r.length:=hl1;omega)];exact alH false (by unfold abn;rw[decide_eq_false q];rfl)
 obtain⟨x0,x1,x2⟩:=(UT.on fg).f (bI b 0).toNat (by omega);have eN:Iu FT A0 A1 b=_:=ai c1;generalize FT (bI b 0).toNat=x at x0 x1 x2 eN;have rr:=alQ x1 x2;obtain⟨y0,y1⟩:=(UT.on fg).a (I2 x).toNat (by omega);generalize A0 (I2 x).toNat=lo at y0 eN;generalize A1 (I2 x).toNat=hi at y1 eN;rw[dM];refine⟨⟨by omega,by omega⟩,x,by rw[kC,cf,cO];exact x0,rr,lo,by rw[kC,cf];exact y0,hi,by rw[kC,kC,cf];exact y1,cY ?_⟩;have F16:Fr No g (g.push (.cells #[.int .u8 0,.int .u8 0] T.gC)):=Fr.push _ _;have ZT:(g.push (.cells #[.int .u8 0,.int .u8 0] T.gC))[g.size]? =_:=cA;generalize g.push (.cells #[.int .u8 0,.int .u8 0] T.gC)=vZ at F16 ZT⊢;refine bM ZT (by simp) λQr a1 a2 a3=>bM a1 (by simp) λGm VQ b2 b3=> ?_
 have Mv:Fr No g Gm:=(F16.fresh (Fr.of_eq (S:=λy=>y=g.size) a2 a3) (λy e=>by omega)).fresh (Fr.of_eq (S:=λy=>y=g.size) b2 b3) (λy e=>by omega);have S18:=S.on Mv;have cb: ∀i,i<b.length->ak Gm (a.add (i*1))=some (.int .u8 (bI b i)):=λi hi=>by
  obtain⟨a',e,c⟩:=S18.at (i:=i) hi;cases e;exact c
 have cl:ak Gm (AA g.size 0)=some (.int .u8 lo):=af VQ rfl;have ch:ak Gm (AA g.size 1)=some (.int .u8 hi):=af VQ rfl;have dr: ∀k,k<=b.length->Sl Gm (da (some a) c k 1) (l - k) (c - k) (b.drop k):=λk hk=>S18.drop hk
 refine aK.of λJ6 hJ6=>aK.of λJ7 hJ7=> ?_
 by_cases s2:BC x=2
 ·replace eN:=eN.trans (ag s2);refine abp (show(BC x==2)=true from dA.2 s2) (aK.of λJ8 Yy=> ?_);have key: ∀v,v=Ad 2 lo hi b->J8 v Gm:=by
   intro v hv;subst Yy;rw[<-hv] at eN;cases v with
   |true=>exact abp rfl (stop Gm Mv (eN.trans (ag rfl)))
   |false=>
    have l2:2<=b.length:=by simp[Ad] at hv;omega
    refine abq (by decide) ⟨⟨by omega,by omega⟩,?_⟩;subst hJ7;subst hJ6;exact cont Gm _ _ _ _ Mv (dr 2 l2) (eN.trans (dM))
  by_cases q0:b.length<2
  ·rw[jy];exact key true (by simp[Ad,q0])
  rw[dM];refine⟨⟨by omega,by omega⟩,aB.2 ⟨_,cb 1 (by omega),_,cl,?_⟩⟩;by_cases q1:bI b 1<lo
  ·rw[ag (ay q1)];exact key true (by simp[Ad,q1])
  rw[ai (by simpa using q1)];exact⟨_,ch,⟨by omega,by omega⟩,aB.2 ⟨_,cb 1 (by omega),key _ (by simp[Ad,q0,q1])⟩⟩
 replace eN:=eN.trans (ai s2);refine abq (show¬(BC x==2)=true from λe=>s2 (dA.1 e)) (aK.of λJ9 hJ9=> ?_);by_cases s3:BC x=3
 ·replace eN:=eN.trans (ag s3);refine abp (show(BC x==3)=true from dA.2 s3) (aK.of λJ8 Yy=> ?_);have key: ∀v,v=(Ad 3 lo hi b||BD b 2)->J8 v Gm:=by
   intro v hv;subst Yy;rw[<-hv] at eN;cases v with
   |true=>exact abp rfl (stop Gm Mv (eN.trans (ag rfl)))
   |false=>
    have l2:3<=b.length:=by simp[Ad] at hv;omega
    refine abq (by decide) ⟨⟨by omega,by omega⟩,?_⟩;subst hJ9;subst hJ7;subst hJ6;exact cont Gm _ _ _ _ Mv (dr 3 l2) (eN.trans (dM))
  by_cases q0:b.length<3
  ·rw[jy];exact key true (by simp[Ad,q0])
  rw[dM];refine⟨⟨by omega,by omega⟩,aB.2 ⟨_,cb 1 (by omega),_,cl,?_⟩⟩;by_cases q1:bI b 1<lo
  ·rw[ag (ay q1)];exact key true (by simp[Ad,q1])
  rw[ai (by simpa using q1)];refine⟨_,ch,⟨by omega,by omega⟩,aB.2 ⟨_,cb 1 (by omega),?_⟩⟩;by_cases q2:hi<bI b 1
  ·rw[ag (ay q2)];exact key true (by simp[Ad,q2])
  rw[ai (by simpa using q2)];refine⟨⟨by omega,by omega⟩,aB.2 ⟨_,cb 2 (by omega),?_⟩⟩;by_cases q3:bI b 2<128
  ·rw[ag (ay q3)];exact key true (by simp[BD,q3])
  rw[ai (by simpa using q3)];exact⟨⟨by omega,by omega⟩,aB.2 ⟨_,cb 2 (by omega),key _ (by simp[Ad,BD,q0,q1,q2,q3])⟩⟩
 replace eN:=eN.trans (ai s3);refine abq (show¬(BC x==3)=true from λe=>s3 (dA.1 e)) ?_;by_cases s4:BC x=4
 ·replace eN:=eN.trans (ag s4);refine abp (show(BC x==4)=true from dA.2 s4) (aK.of λJ8 Yy=> ?_);have key: ∀v,v=(Ad 4 lo hi b||(BD b 2||BD b 3))->J8 v Gm:=by
   intro v hv;subst Yy;rw[<-hv] at eN;cases v with
   |true=>exact abp rfl (stop Gm Mv (eN.trans (ag rfl)))
   |false=>
    have l2:4<=b.length:=by simp[Ad] at hv;omega
    refine abq (by decide) ⟨⟨by omega,by omega⟩,?_⟩;subst hJ9;subst hJ7;subst hJ6;exact cont Gm _ _ _ _ Mv (dr 4 l2) (eN.trans (dM))
  by_cases q0:b.length<4
  ·rw[jy];exact key true (by simp[Ad,q0])
  rw[dM];refine⟨⟨by omega,by omega⟩,aB.2 ⟨_,cb 1 (by omega),_,cl,?_⟩⟩;by_cases q1:bI b 1<lo
  ·rw[ag (ay q1)];exact key true (by simp[Ad,q1])
  rw[ai (by simpa using q1)];refine⟨_,ch,⟨by omega,by omega⟩,aB.2 ⟨_,cb 1 (by omega),?_⟩⟩;by_cases q2:hi<bI b 1
  ·rw[ag (ay q2)];exact key true (by simp[Ad,q2])
  rw[ai (by simpa using q2)];refine⟨⟨by omega,by omega⟩,aB.2 ⟨_,cb 2 (by omega),?_⟩⟩;by_cases q3:bI b 2<128
  ·rw[ag (ay q3)];exact key true (by simp[BD,q3])
  rw[ai (by simpa using q3)];refine⟨⟨by omega,by omega⟩,aB.2 ⟨_,cb 2 (by omega),?_⟩⟩;by_cases q4:191<bI b 2
  ·rw[ag (ay q4)];exact key true (by simp[BD,q4])
  rw[ai (by simpa using q4)];refine⟨⟨by omega,by omega⟩,aB.2 ⟨_,cb 3 (by omega),?_⟩⟩;by_cases q5:bI b 3<128
  ·rw[ag (ay q5)];exact key true (by simp[BD,q5])
  rw[ai (by simpa using q5)];exact⟨⟨by omega,by omega⟩,aB.2 ⟨_,cb 3 (by omega),key _ (by simp[Ad,BD,q0,q1,q2,q3,q4,q5])⟩⟩
 refine abq (show¬(BC x==4)=true from λe=>s4 (dA.1 e)) ?_;exact stop Gm Mv (eN.trans (ai s4))
theorem QD.utf (UT:QD h FT A0 A1):xQ (λbs=>EN FT A0 A1 (bs.length+1) bs) h:=λg p c bs R f row hl cap hk=>afc rfl (UT.on f) row hl cap hk
end Cb
end
section
namespace Cb
theorem abr: ∀i:Fin 256,Lib.firstT i.val<256:=by decide
theorem QD.ahO {W:World} {l:List (String×DataW Unit)} {s1 s2:String} (h1:Tryz.prog.globalNamed s1=some 3) (h2:Tryz.prog.globalNamed s2=some 4) (h:laidMet Tryz.prog l W) (m1:(s1,Lib.firstData)∈l) (m2:(s2,Lib.acceptData)∈l): ∃V,xQ V W.heap:=by
 refine⟨_,QD.utf (FT:=λi=>(Lib.firstT i:Int)) (A0:=λi=>(Lib.accLo i:Int)) (A1:=λi=>(Lib.accHi i:Int)) ⟨λc hc=> ?_,λi hi=> ?_⟩⟩
 ·obtain⟨g,t,cs,fuel,p,hg,ht,hv,hd⟩:=Lib.laidMet.reads h m1;obtain rfl:3=g:=bz (h1.symm.trans hg);obtain rfl:T.Ka=t:=by
   have e:(Tryz.prog.globals[(3:Nat)]?).map (·.type)=some T.Ka:=by kernel_rfl
   exact bz (e.symm.trans ht)
  have BG:=Lib.cells_of_tab (n:=256) (e:=T.uint8) (by kernel_rfl) (by kernel_rfl) (by kernel_rfl) (by kernel_rfl) hd;have:=World.var?_cell hg hv c;rw[uE,<-eg,BG] at this;refine⟨?_,Int.natCast_nonneg _,by have:Lib.firstT c<256:=abr ⟨c,hc⟩;show((Lib.firstT c:Nat):Int)<256;omega⟩;rw[this];simp[Lib.firstTab,hc]
 ·obtain⟨g,t,cs,fuel,p,hg,ht,hv,hd⟩:=Lib.laidMet.reads h m2;obtain rfl:4=g:=bz (h2.symm.trans hg);obtain rfl:T.oY=t:=by
   have e:(Tryz.prog.globals[(4:Nat)]?).map (·.type)=some T.oY:=by kernel_rfl
   exact bz (e.symm.trans ht)
  obtain⟨arL,d,q,hdi,he⟩:=Lib.array_elem (n:=16) (e:=T.gC) (by kernel_rfl) hd i hi;simp only[aO,List.getElem?_range hi,dz,bF] at hdi;subst hdi;have c2:Tryz.prog.cellsOf T.gC=2:=by kernel_rfl
  rw[c2] at he;have BG:=Lib.ints_of_struct (t:=T.gC) (k:=.u8) (fs:= #[Go.Field.mk "lo" T.uint8 0 false "" "unicode/utf8" 0,Go.Field.mk "hi" T.uint8 1 false "" "unicode/utf8" 1]) (by kernel_rfl) (λj f hj=>by
   match j,hj with
   |0,hj=>simp at hj;subst hj;exact⟨by kernel_rfl,rfl,by kernel_rfl⟩
   |1,hj=>simp at hj;subst hj;exact⟨by kernel_rfl,rfl,by kernel_rfl⟩
   |j+2,hj=>simp at hj) (by rw[c2];rfl) he
  have e0:=bp (·[0]?) BG;have e1:=bp (·[1]?) BG;simp only[dt,iM] at e0 e1;constructor
  ·have:=World.var?_cell hg hv (i*2);rw[uE,<-eg] at this;rw[this];simpa using e0
  ·have:=World.var?_cell hg hv (i*2+1);rw[uE,<-eg] at this;rw[this];simpa using e1
end Cb
end
end Go.Proofs.YtlenamcfacpheaaGreatDoor
