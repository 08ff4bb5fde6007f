/-
  TT is proved here: parts of Js proof, one behind Js other (texts of this work, merged by a program; ZV Js theorem ZW not use is left out). No condition.
-/
import Derived.Test.YtlenamcfacpheaaGreatDoorMAsese
set_option maxRecDepth 100000
set_option maxHeartbeats 4000000
namespace Go.Proofs.YtlenamcfacpheaaGreatDoor
open Go.Den
open IntKind (wrap)
open Int (toNat)
section
namespace Bn
open Cb
open qJ (Ev dk uH)
variable {V:List UInt8→Bool} {h h0 h':aj} {R:iI}
abbrev oZ.s (x:oZ):ah.S:=⟨x.e.vE,x.e.node,x.e.ma,x.e.host,x.e.sN,x.tm,x.sq⟩
theorem oB {b off:Nat} {c:Array Value} {ty:TypeId} (x:Ev) {K:az.S->Prop} (hb:h[b]? =some (.cells c ty (0,0))) (h0:c[off]? =some (.bool x.vE)) (h1:c[off+1]? =some (.U x.node)) (h2:c[off+2]? =some (.U x.ma)) (h3:c[off+3]? =some (.string x.host)) (h4:c[off+4]? =some (.string x.sN)) (hk:K x.s):az.dh h (AA b off) K:=
 ⟨_,af hb h0,_,af hb h1,_,af hb h2,_,af hb h3,_,af hb h4,hk⟩
theorem Lx {b off:Nat} {c:Array Value} {ty:TypeId} (x:oZ) {K:ah.S->Prop} (hb:h[b]? =some (.cells c ty (0,0))) (h0:c[off]? =some (.bool x.e.vE)) (h1:c[off+1]? =some (.U x.e.node)) (h2:c[off+2]? =some (.U x.e.ma)) (h3:c[off+3]? =some (.string x.e.host)) (h4:c[off+4]? =some (.string x.e.sN)) (h5:c[off+5]? =some (.U (x.tm:Int))) (h6:c[off+6]? =some (.U (x.sq:Int))) (hk:K x.s):ah.dh h (AA b off) K:=
 ⟨_,af hb h0,_,af hb h1,_,af hb h2,_,af hb h3,_,af hb h4,_,af hb h5,_,af hb h6,hk⟩
theorem Qs {b:Nat} {y:ah.S} (x:oZ) {K:ah.S->aj->Prop} (hb:ah.jx h b y) (hk: ∀h',Fr (λy=>y=b) h h'->K x.s h'):
  ah.dW h (AA b 0) x.s λg=>ah.dh g (AA b 0) λr=>K r g:=
 ah.mB (x:=x.s) hb λg d1 f _=>ah.jk d1 (hk g f)
theorem vD (n m:Nat):decide ((n:Int)<=(m:Int))=decide (n<=m):=by by_cases e:n<=m<;>simp[e]<;>omega
theorem DC (x:oZ) (hk: ∀h',Fr No h h'->R (.bool (lD x)) h'):Cl F.km #[x.s.agg] h R:=by
 refine km.walk (ah.dI λb h1 eb hb f1=>oB x.e hb rfl rfl rfl rfl rfl (qJ.ic x.e λh2 f2=>⟨_,rfl,?_⟩));have fJ:=f2.get hb id;have hk:=hk h2 (f1.tt f2);unfold lD at hk;cases hr:dk x.e with
 |false=>rw[hr] at hk;exact hk
 |true=>
  rw[hr] at hk;rw[ag rfl];refine⟨_,af fJ rfl,?_⟩;have e1:decide ((x.s.f5:Int)<=1099511627776)=decide (x.tm<=1099511627776):=vD x.tm 1099511627776;have e2:decide ((x.s.f6:Int)<=1099511627776)=decide (x.sq<=1099511627776):=vD x.sq 1099511627776;rw[e1];cases ht:decide (x.tm<=1099511627776) with
  |false=>rw[ht] at hk;exact hk
  |true=>
   rw[ht] at hk;rw[ag rfl];refine⟨_,af fJ rfl,?_⟩;rw[e2];exact hk
theorem N4 (x:oZ) (w1:0<=x.e.ma) (k1:lD x=true->∀h' z,Ef h' (λy=>h.size<=y) (idT x) z->Fr No h h'->R (.tuple #[z.agg,.I 0]) h')
  (k2:lD x=false->∀h',Fr No h h'->R (.tuple #[zv.agg,.I 3]) h'):Cl F.oF #[x.s.agg] h R:=by
 refine oF.walk (ah.dI λb h1 eb hb f1=>aa.dI λb1 h2 uh dx f2=>ah.jk (x:=x.s) (f2.get hb id) (DC x λh3 f3=>⟨_,rfl,?_⟩));have kT:=(f2.tt f3).get hb id;have qx:=f3.get dx id;have F3:=f1.tt (f2.tt f3);have z1:=f1.1;have PU:=aI dx;have z3:=f3.1;cases hr:lD x with
 |false=>exact Qo qx λh4 f4=>k2 hr h4 (F3.fresh f4 (λy e=>by omega))
 |true=>
  have hE:dk x.e=true:=by unfold lD at hr;simp only[aW] at hr;exact hr.1.1
  rw[dM];refine oB x.e kT rfl rfl rfl rfl rfl (Hf x.e w1 (λ_ h5 z tz f5=>aa.ex z.s ⟨_,rfl,aa.j9 (x:=z.s) λb2 h7 FH fJ f7=>aa.jk fJ ⟨_,af ((f5.tt f7).get kT id) rfl,_,af ((f5.tt f7).get kT id) rfl,?_⟩⟩) (λe=>by rw[hE] at e;cases e));refine jw λh8 f8=>aa.ex (nv x.tm).s ⟨rfl,f8.kp,jw λh9 f9=>aa.ex (nv x.sq).s ⟨rfl,f9.kp,Aa (ys:= [nv x.tm,nv x.sq]) rfl λb3 vk LQ L f10=>⟨f10.kp,rV (L (λ_=>True) trivial) (two xL xL) (by simp[room,dZ]) λyj y ty f11=>aa.ex y.s ⟨rfl,f11.kp,?_⟩⟩⟩⟩
  have Qt:=f7.tt (f8.tt (f9.tt (f10.tt f11)));have er:=wC x.e hE;refine AZ (ys:= [z,y]) (two (tz.u.on Qt) ty.u) (by simp only[room,dZ,bD];omega) rfl rfl λGQ w tw f13=>aa.ex w.s ⟨rfl,?_⟩
  have z5:=f5.1;have z11:=Qt.1;exact fin ((f5.tt (Qt.tt f13)).get qx id) tw (λy hy e=>by omega) λDw t14 f14=>k1 hr Dw w (t14.mono λy hy=>by omega) ((F3.tt (f5.tt (Qt.tt f13))).fresh f14 (λy e=>by omega))
theorem Ly {x:oZ} (h:lD x=true):dk x.e=true/\x.tm<=1099511627776/\x.sq<=1099511627776:=by
 unfold lD at h;simp only[aW,bf] at h;exact⟨h.1.1,h.1.2,h.2⟩
theorem SY {t : Tr} {e : Ev} (h : zy V t = some e) : 0 ≤ e.ma ∧ dk e = true := by
  unfold zy at h
  split at h
  · split at h
    · cases h; decide
    · split at h
      · split at h
        · rename_i hp
          cases h
          unfold Fh at hp
          simp only [Bool.and_eq_true] at hp
          exact ⟨by show (0 : Int) ≤ 0; omega, hp.2⟩
        · cases h
      · split at h
        · split at h
          · rename_i hp; cases h; exact ⟨by show (0 : Int) ≤ ((_ : Nat) : Int); omega, hp.2.2.2⟩
          · cases h
        · cases h
  · cases h
theorem SZ (x:oZ) (h:lD x=true):room (idT x)<=300:=by
 have:=wC x.e (Ly h).1;simp only[idT,room,dZ,bD];omega
def EQ (V:List UInt8->Bool) (t:Tr) (e:Ev) (q:Int):Prop:=(q=0->zy V t=some e)/\(q≠0->zy V t=none)/\0<=e.ma
theorem Qu {t:Tr} {x:CV} (U:xQ V h0) (u:Fr No h0 h) (mx:Gj.Mx h) (tx:SW h t x) (hr:room t<=900000)
  (hk: ∀e q,EQ V t e q->∀h',Fr No h h'->R (.tuple #[e.s.agg,.I q]) h'):Cl F.tj #[x.agg] h R:=
 aee U u mx tx hr (λe he h' f=>hk e 0 ⟨λ_=>he,λq=>absurd rfl q,(SY he).1⟩ h' f) (λhe h' f=>hk .zero 3 ⟨λq=>absurd q (by decide),λ_=>he,by decide⟩ h' f)
theorem Yz (x:oZ) (w1:0<=x.e.ma) (hk: ∀h' z q,(q=0->SW h' (idT x) z)->(q=0↔lD x=true)->Fr No h h'->R (.tuple #[z.s.agg,.I q]) h'):Cl F.oF #[x.s.agg] h R:=
 N4 x w1 (λhr h' z tz f=>hk h' z 0 (λ_=>tz.u) ⟨λ_=>hr,λ_=>rfl⟩ f) (λhr h' f=>hk h' zv 3 (λe=>absurd e (by decide)) ⟨λe=>absurd e (by decide),λe=>by rw[hr] at e;cases e⟩ f)
theorem aef {t:Tr} {x:CV} (U:xQ V h0) (u:Fr No h0 h) (mx:Gj.Mx h) (tx:SW h t x) (hr:room t<=900000)
  (k1: ∀e,uB V t=some e->∀h',Fr No h h'->R (.tuple #[e.s.agg,.I 0]) h') (k2:uB V t=none->∀h',Fr No h h'->R (.tuple #[oZ.zero.s.agg,.I 3]) h'):Cl F.oO #[x.agg] h R:=by
 obtain⟨xk,xn,xb,xl,xv,ys,L,TS⟩:=kU.kn tx;have rl:=yU (t:=t);refine oO.walk (x:=x.s) (aa.dI λb h1 eb hb f1=>ah.dI λb1 h2 uh dx f2=>aK.of λJ hJ=> ?_);have F2:=f1.tt f2;have fJ:=f2.get hb id;have zb:=aI hb;have PU:=aI dx;have z1:=f1.1;have z2:=f2.1;have bad:uB V t=none->J true h2:=λhn=>by
  subst hJ;dsimp only;rw[ag rfl];exact Qs .zero dx λg f=>k2 hn g (F2.fresh f (λy e=>by omega))
 have e4:x.s.f0=t.k:=xk;have el:x.s.xP=t.l.length:=xl;refine⟨_,af fJ rfl,?_⟩;rw[e4];by_cases k4:t.k=4
 case neg=>rw[ag (by simpa using k4)];exact bad (by unfold uB;rw[ai (λe=>k4 e.1)])
 rw[ai (by simpa using k4)];refine⟨_,_,_,af fJ rfl,?_⟩;rw[el];by_cases l2:t.l.length=2
 case neg=>rw[ag (by simp only[fL,iq];omega)];exact bad (by unfold uB;rw[ai (λe=>l2 e.2.1)])
 rw[ai (by simp only[fL,iq];omega)];obtain⟨a0,y0,ea0,hh0,Yu,_⟩:=elem (L.frame F2 (λ_ _=>id)) (TS.on F2) (i:=0) (by omega);obtain⟨a1,y1,Yw,V1,VE,_⟩:=elem (L.frame F2 (λ_ _=>id)) (TS.on F2) (i:=1) (by omega);obtain⟨y1k,y1n,y1b,y1l,y1v,ys1,L1,TS1⟩:=kU.kn VE;have c0:ak h2 (a1.add (Int.toNat 1*4))=some (.I y1.k):=by have:=V1.1;rwa[jz] at this
 have c3:ak h2 ((a1.add (Int.toNat 1*4)).add 3)=some (.slice y1.q y1.ll y1.cl):=V1.2.2.2.1;have r0:=sa (ts:=t.l) (i:=0) (by omega);have r1:=sa (ts:=t.l) (i:=1) (by omega);refine⟨_,_,_,af fJ rfl,⟨by omega,by omega⟩,cH.2 ⟨a1,Yw,_,c0,?_⟩⟩;rw[y1k];by_cases k5:(at_ t.l 1).k=4
 case neg=>rw[ag (by simpa using k5)];exact bad (by unfold uB;rw[ai (λe=>k5 e.2.2.1)])
 rw[ai (by simpa using k5)];refine⟨_,_,_,af fJ rfl,⟨by omega,by omega⟩,cH.2 ⟨a1,Yw,_,_,_,c3,?_⟩⟩;rw[y1l];by_cases l3:(at_ t.l 1).l.length=2
 case neg=>rw[show(((((at_ t.l 1).l.length:Nat):Int)) !=2)=true by simp only[fL,iq];omega];exact bad (by unfold uB;rw[ai (λe=>l3 e.2.2.2)])
 rw[show(((((at_ t.l 1).l.length:Nat):Int)) !=2)=false by simp only[bne_eq_false_iff_eq];omega];clear bad;subst hJ;dsimp only;rw[ai (show¬false=true by decide)];unfold uB at k1 k2;rw[ag ⟨k4,l2,k5,l3⟩] at k1 k2;generalize ht0:at_ t.l 0=t0 at Yu r0 k1 k2;generalize ht1:at_ t.l 1=t1 at VE r1 k1 k2 y1k y1n y1b y1l TS1 k5 l3;refine⟨_,_,_,af fJ rfl,⟨by omega,by omega⟩,cH.2 ⟨a0,ea0,aa.yT (x:=y0.s) hh0 (Qu U (u.tt F2) (mx.on F2) Yu (by omega) λe q ⟨HA,Gx,we⟩ g fg=>az.ex e.s ⟨_,rfl,?_⟩)⟩⟩;obtain⟨p0,w0,ep0,hw0,tw0,_⟩:=elem L1 TS1 (i:=0) (by omega);obtain⟨p1,w1,ep1,hw1,tw1,_⟩:=elem L1 TS1 (i:=1) (by omega);obtain⟨_,w0n,_⟩:=kU.kn tw0;obtain⟨_,w1n,_⟩:=kU.kn tw1;have hw0:ak h2 ((p0.add (Int.toNat 0*4)).add 1)=some (.U (w0.n:Int)):=hw0.2.1;have hw1:ak h2 ((p1.add (Int.toNat 1*4)).add 1)=some (.U (w1.n:Int)):=hw1.2.1;rw[w0n] at hw0;rw[w1n] at hw1;obtain⟨n0,hn0⟩: ∃n0,(at_ t1.l 0).n=n0:=⟨_,rfl⟩;obtain⟨n1,hn1⟩: ∃n1,(at_ t1.l 1).n=n1:=⟨_,rfl⟩;rw[hn0] at hw0 k1 k2;rw[hn1] at hw1 k1 k2;refine az.j9 (x:=e.s) λb2 h7 FH aeg f7=>az.jk aeg ?_
 have G7:=fg.tt f7;refine⟨_,_,_,af (G7.get fJ id) rfl,⟨by omega,by omega⟩,cH.2 ⟨a1,Yw,_,_,_,G7.cell c3 id,⟨by omega,by omega⟩,cH.2 ⟨p0,ep0,_,G7.cell hw0 id,_,_,_,af (G7.get fJ id) rfl,⟨by omega,by omega⟩,cH.2 ⟨a1,Yw,_,_,_,G7.cell c3 id,⟨by omega,by omega⟩,cH.2 ⟨p1,ep1,_,G7.cell hw1 id,?_⟩⟩⟩⟩⟩;refine ah.dI λb3 h8 LQ kT f8=>⟨f8.kp,ah.mB (x:=(⟨e,n0,n1⟩:oZ).s) kT λh9 d9 f9 _=>ah.jk d9 ?_⟩
 have z7:=f7.1;have z8:=f8.1;have zg:=fg.1;have zb3:=aI kT;have z9:=f9.1;have G9:Fr (λy=>y=b3) h2 h9:=Fr.no (G7.tt f8) f9;have G9':Fr No h h9:=(F2.tt (G7.tt f8)).fresh f9 (λy e=>by omega);refine Yz ⟨e,n0,n1⟩ we λg2 w q2 hw hq fg2=>aa.ex w.s ⟨_,rfl,?_⟩
 refine aa.j9 (x:=w.s) λb4 mF VA mb f12=>aK.of λJ hJ=> ?_
 have G12:=fg2.tt f12;have rT: ∀ {g},Fr No mF g->ah.jx g b1 .z:=λfq=>fq.get (G12.get (G9.get dx (by omega)) id) id
 have no: ∀g3,Fr No mF g3->(∀h',Fr No h h'->R (.tuple #[oZ.zero.s.agg,.I 3]) h')->J true g3:=λg3 f3 hk=>by
  subst hJ;try dsimp only
  rw[ag rfl];exact Qs .zero (rT f3) λg f=>hk g ((G9'.tt (G12.tt f3)).fresh f (λy e=>by omega))
 have yes: ∀g3,Fr No mF g3->(∀h',Fr No h h'->R (.tuple #[(⟨e,n0,n1⟩:oZ).s.agg,.I 0]) h')->J false g3:=λg3 f3 hk=>by
  subst hJ;try dsimp only
  rw[dM];exact ah.jk ((G12.tt f3).get d9 id) (Qs ⟨e,n0,n1⟩ (rT f3) λg f=>hk g ((G9'.tt (G12.tt f3)).fresh f (λy e=>by omega)))
 by_cases q0:q=0
 case neg=>rw[ag (by simpa using q0)];exact no mF (Fr.refl _ _) (k2 (by rw[Gx q0]))
 rw[ai (by simpa using q0)];rw[HA q0] at k1 k2;dsimp only at k1 k2;by_cases q1:q2=0
 case neg=>rw[ag (by simpa using q1)];exact no mF (Fr.refl _ _) (k2 (by rw[ai (λe=>q1 (hq.2 e.1))]))
 rw[ai (by simpa using q1)];have hI:=hq.1 q1;have rI:=SZ _ hI;refine aa.jk mb (aa.jk (x:=x.s) (G12.get (G9.get fJ (by omega)) id) (pW (x:=w) (y:=x) ((hw q1).on f12) (tx.on (G9'.tt G12)) (by omega) λvZ f16=>⟨_,rfl,?_⟩));cases hs:yW (idT ⟨e,n0,n1⟩) t with
 |true=>exact yes vZ f16 (k1 _ (by rw[ag ⟨hI,hs⟩]))
 |false=>exact no vZ f16 (k2 (by rw[ai (λe=>by rw[hs] at e;cases e.2)]))
theorem VF {t:Tr} {x:oZ} (h:uB V t=some x):0<=x.e.ma:=by
 unfold uB at h;split at h
 ·split at h
  ·cases h
  ·rename_i e he;split at h
   ·cases h;exact(SY he).1
   ·cases h
 ·cases h
def IQ (V:List UInt8->Bool) (t:Tr) (x:oZ) (q:Int):Prop:=(q=0->uB V t=some x)/\(q≠0->uB V t=none)/\0<=x.e.ma
theorem Qv {t:Tr} {x:CV} (U:xQ V h0) (u:Fr No h0 h) (mx:Gj.Mx h) (tx:SW h t x) (hr:room t<=900000)
  (hk: ∀e q,IQ V t e q->∀h',Fr No h h'->R (.tuple #[e.s.agg,.I q]) h'):Cl F.oO #[x.agg] h R:=
 aef U u mx tx hr (λe he h' f=>hk e 0 ⟨λ_=>he,λq=>absurd rfl q,VF he⟩ h' f) (λhe h' f=>hk .zero 3 ⟨λq=>absurd q (by decide),λ_=>he,by decide⟩ h' f)
end Bn
end
end Go.Proofs.YtlenamcfacpheaaGreatDoor
namespace Go.Den
theorem Gb {b off:Nat} : ∀(vs:List Value) (i:Nat) (h:aj) (K:aj->Prop),gY (AA b 0) vs (off+i) h K->gY (AA b off) vs i h K
 | [],_,_,_,hh=>hh
 |v::vs,i,h,K,hh=>by
  unfold gY at hh⊢;cases hv:jg v with
  |false=>rw[hv] at hh;exact hh
  |true=>
   rw[hv] at hh;dsimp only at hh⊢;rw[kC,cf] at hh;rw[kC];obtain⟨h1,h2,h3⟩:=hh;exact⟨h1,h2,λh' e=>Gb vs (i+1) h' K (h3 h' e)⟩
theorem wD {h:aj} {b off:Nat} {c:Array Value} {t:TypeId} {vs ws:List Value} {K:aj->Prop} (hb:h[b]? =some (.cells c t (0,0))) (hl:off+vs.length<=c.size) (hv:vs.all jg=true)
  (he:c.toList.take off++vs++c.toList.drop (off+vs.length)=ws)
  (hk: ∀h',h'[b]? =some (.cells ws.toArray t (0,0))->h'.size=h.size->(∀x,x≠b->h'[x]? =h[x]?)->K h'):gY (AA b off) vs 0 h K:=by
 refine Gb vs 0 h K (Ci vs (off+0) h c K hb (by omega) hv λh' c' b' z q r s o=>hk h' ?_ s o);have:c'=ws.toArray:=by
  subst he;apply Array.ext'
  apply im
  intro j;have hlen:c.toList.length=c.size:=fU;rw[eg];show c'[j]? =(c.toList.take off++vs++c.toList.drop (off+vs.length))[j]?;by_cases h1:j<off
  ·rw[dV,dy (by rw[bR];omega),dt,ag h1,eg];exact q j (by omega)
  ·by_cases h2:j<off+vs.length
   ·have l1:(c.toList.take off).length=off:=by rw[bR];omega
    rw[dV,dq (by omega),l1,dy (by omega)];have hj:j - off<vs.length:=by omega
    have:=r (j - off) vs[j - off] (au hj);rw[show off+0+(j - off)=j by omega] at this;rw[this,au hj]
   ·have l1:(c.toList.take off++vs).length=off+vs.length:=by rw[aF,bR];omega
    rw[dq (by omega),l1,iM,eg,show off+vs.length+(j - (off+vs.length))=j by omega];exact q j (by omega)
 rw[<-this];exact b'
end Go.Den
namespace Go.Proofs.YtlenamcfacpheaaGreatDoor
open Go.Den
open IntKind (wrap)
open Int (toNat)
section
variable {h:aj} {R:iI}
theorem sE.walk {now:Int} {gJ:Int} (hv:R (.U (if 1099511627776<wrap .u64 (now+gJ) then 1099511627776 else wrap .u64 (now+gJ))) h):Cl F.sE #[.U now,.U gJ] h R:=aS (lq ll) Tryz.func157 hv
theorem kj.walk {s:Nat} {source:az.S} (hv:aV h (.cells source.arr T.az) λb aR=>aV aR (.cells ah.S.z.arr T.ah) λcE aZ=>aV aZ (.cells ah.S.z.arr T.ah) λeZ bK=>Hp bK s 5 λt15=>Cl F.gQ #[.pointer t15] bK λv cC=>ah.EX λt16=>v=t16.agg/\aV cC (.cells ah.S.z.arr T.ah) λjR cK=>ah.dW cK (AA jR 0) t16 λcR=>az.dh cR (AA jR 0) λt19=>Cl F.wx #[t19.agg] cR λeK cX=> ∃rU uk,eK=.tuple #[.pointer rU,.I uk]/\if(uk !=0) then ah.dW cX (AA cE 0) ah.S.z λdB=>ah.dW dB (AA eZ 0) ah.S.z λff=>ah.dh ff (AA cE 0) λr0=>ah.dh ff (AA eZ 0) λr1=>R (.tuple #[r0.agg,r1.agg,.I uk]) ff else aK (λ(t35:Bool) (cQ:aj)=>aK (λ(cW:aj)=>Hu cW s 6 λt44=>Cl F.od #[.pointer rU,.U t44] cW λgS dE=>ah.EX λDX=> ∃Fs,gS=.tuple #[DX.agg,.I Fs]/\aV dE (.cells ah.S.z.arr T.ah) λpI dG=>ah.dW dG (AA pI 0) DX λfD=>ah.dh fD (AA pI 0) λt48=>aV fD (.cells ah.S.z.arr T.ah) λBA gE=>ah.dW gE (AA BA 0) t48 λgX=>az.dh gX (AA b 0) λt49=>az.dW gX (AA BA 0) t49 λgR=>ah.dh gR (AA BA 0) λt51=>ah.dh gR (AA pI 0) λt52=>ah.dW gR (AA cE 0) t51 λfi=>Kp gR fi [(some (AA pI 0))]/\ah.dW fi (AA eZ 0) t52 λjn=>ah.dh jn (AA cE 0) λia=>ah.dh jn (AA eZ 0) λadR=>R (.tuple #[ia.agg,adR.agg,.I Fs]) jn) (λjo=>if t35 then ah.dh cQ (AA jR 0) λt37=>Cl F.lX #[.pointer rU,t37.agg] cQ λkV ju=> ∃t38,kV=.I t38/\jo ju else jo cQ)) (λJ=> ∃t29,ak cX (AA jR 5)=some (.U t29)/\if(decide (t29>0)) then J true cX else∃t33,ak cX (AA jR 6)=some (.U t33)/\J (decide (t33>0)) cX)):Cl F.kj #[.P s 0,source.agg] h R:=aS (lq (lq (lq (sq (lq (cq ll lf)) (sq (sq (.join [(35,.one (.bool))] lf) (.join [] (cq lf lf))) (lq (lq (lq (sq (pK 6) lf))))))))) Tryz.func150 hv
theorem py.walk {a:bO.S} {b:aw.S} {own:ah.S} (hv:aV h (.cells a.arr T.bO) λcE aR=>aV aR (.cells b.arr T.aw) λeZ aZ=>aV aZ (.cells own.arr T.ah) λjR bK=>aw.dh bK (AA eZ 0) λt13=>Cl F.qE #[t13.agg] bK λv cC=> ∃YA Qw YB rR,v=.tuple #[.slice YA Qw YB,.I rR]/\if(rR !=0) then R (.tuple #[.I 0,.I 0,.I rR]) cC else Hp cC cE 19 λt22=>Hi cC cE 20 λt24=>Hp cC cE 19 λt27=>aP t27 λkz=>JM cC (kz.add 6) λt30=>Hu cC eZ 19 λt33=>Cl F.sE #[.U t30,.U t33] cC λeK cK=> ∃t34,eK=.U t34/\Kp cC cK [(some (AA cE 19)),(some (AA cE 20)),(some (AA cE 19))]/\Cl F.oX #[.pointer t22,.I t24,.slice YA Qw YB,.U t34] cK λgS cR=> ∃Bo vH,gS=.tuple #[.I Bo,.I vH]/\Kp cK cR [(some (AA cE 19))]/\aK (λ(cX:aj)=>R (.tuple #[.I Bo,.I (Qw:Int),.I vH]) cX) (λJ=>if(vH==0) then Hp cR cE 19 λt41=>aP t41 λpF=>LO cR (pF.add 5) λt44=>ah.dh cR (AA jR 0) λt45=>Cl F.lX #[.pointer t44,t45.agg] cR λkV dB=> ∃t46,kV=.I t46/\Kp cR dB [(some (AA cE 19))]/\J dB else J cR)):Cl F.py #[a.agg,b.agg,own.agg] h R:=aS (lq (lq (sq (lq (cq ll lf)) (sq (pK 20) (sq (lq (.join [] (cq (pK 7) lf))) ll))))) Tryz.func151 hv
theorem mq.walk {a:bO.S} (hv:aV h (.cells a.arr T.bO) λb aR=>aK (λ(r:bV) (is:Bool) (aZ:aj)=>if(!is) then R (.I 4) aZ else aP r λkz=>Rf aZ (kz.add 6) λt22=> ∃t24,ak aZ (AA b 20)=some (.I t24)/\if(t22 !=t24) then R (.I 13) aZ else R (.I 0) aZ) (λJ=>Hp aR b 19 λt7=>aP t7 λpF=>LO aR (pF.add 1) λt10=>az.dh aR (AA b 2) λt13=>(Cl F.mN #[.pointer t10,t13.agg] aR λv bK=> ∃YC YD YE YF YG YH YI rR,v=.tuple #[.agg #[.bool YC,.U YD,.U YE,.string YF,.string YG,.I YH,.I YI],.bool rR]/\Kp aR bK [(some (AA b 19))]/\aV bK (.cells #[.bool false,.U 0,.U 0,.string ka,.string ka,.I 0,.I 0] T.bJ) λcE cC=>Kp bK cC [(some (AA b 19))]/\bJ.ST cC (AA cE 0) YC YD YE YF YG YH YI λcK=>J (some (AA cE 0)) rR cK)/\(aV aR (.cells #[.bool false,.U 0,.U 0,.string ka,.string ka,.I 0,.I 0] T.bJ) λeZ cR=>Kp aR cR [(some (AA b 2)),(some (pF.add 1)),(some (AA b 19))]/\Cl F.mN #[.pointer t10,t13.agg] cR λeK cX=> ∃N8 N9 Oa Ob Oc Od Oe YJ,eK=.tuple #[.agg #[.bool N8,.U N9,.U Oa,.string Ob,.string Oc,.I Od,.I Oe],.bool YJ]/\Kp cR cX [(some (AA b 19))]/\bJ.ST cX (AA eZ 0) N8 N9 Oa Ob Oc Od Oe λdB=>J (some (AA eZ 0)) YJ dB)/\True)):Cl F.mq #[a.agg] h R:=aS (lq (sq (.join [(3,.one (.ptr)),(4,.one (.bool))] (.qX (jh 8 0 (.alts (.fork 8 (jh 6 9 .done) (.fork 12 (jh 4 8 (.op 13 (.op 14 .done))) .mE)))))) (sq (bq (lq (cq ll (lq (cq ll lf))))) ll))) Tryz.func104 hv
theorem qh.walk {a:bO.S} {out:Nat} (hv:aV h (.cells a.arr T.bO) λb aR=>bO.dh aR (AA b 0) λt10=>Cl F.mq #[t10.agg] aR λv aZ=> ∃t11,v=.I t11/\if(t11 !=0) then R (.I t11) aZ else Hp aZ b 19 λt17=>az.dh aZ (AA b 2) λt20=>Cl F.kj #[.pointer t17,t20.agg] aZ λeK bK=>ah.EX λui=>ah.EX λuj=> ∃FL,eK=.tuple #[ui.agg,uj.agg,.I FL]/\aV bK (.cells ah.S.z.arr T.ah) λcE cC=>aV cC (.cells ah.S.z.arr T.ah) λeZ cK=>ah.dW cK (AA cE 0) ui λcR=>ah.dW cR (AA eZ 0) uj λcX=>if(FL !=0) then R (.I FL) cX else az.dh cX (AA b 7) λt30=>ah.dh cX (AA cE 0) λt31=>Hu cX b 16 λt34=>aV cX (.cells aC.S.z.arr T.aC) λjR dB=>aC.dW dB (AA jR 0) ⟨0,0,t30.f0,t30.f1,t30.f2,t30.f3,t30.f4,false,0,0,ka,ka,t31.f0,t31.f1,t31.f2,t31.f3,t31.f4,t31.f5,t31.f6,t34⟩ λff=>Hb ff b 18 λt38=>aK (λ(cQ:aj)=>bO.dh cQ (AA b 0) λt47=>aC.dh cQ (AA jR 0) λt48=>Hl cQ b 15 λNV Lp NW=>aV cQ (.cells #[.U 1,.U 1,.U 0,.I 0,.slice NV Lp NW] T.aE) λpI cW=>ah.dh cW (AA eZ 0) λt55=>Cl F.py #[t47.agg,.agg #[.U t48.f0,.I t48.f1,.bool t48.f2,.U t48.f3,.U t48.f4,.string t48.f5,.string t48.f6,.bool t48.f7,.U t48.f8,.U t48.f9,.string t48.f10,.string t48.f11,.bool t48.f12,.U t48.f13,.U t48.f14,.string t48.f15,.string t48.f16,.U t48.f17,.U t48.f18,.U t48.f19,.slice (some (AA pI 0)) 1 1],t55.agg] cW λgS dE=> ∃Ip Iq aiZ,gS=.tuple #[.I Ip,.I Iq,.I aiZ]/\aH dE (AA out 2) (.I Ip) λdG=>aH dG (AA out 3) (.I Iq) λfD=>R (.I aiZ) fD) (λJ=>if t38 then az.dh ff (AA b 2) λt41=>aH ff (AA jR 0) (.U 131072) λgE=>Kp ff gE [(some (AA b 2))]/\az.dW gE (AA jR 7) t41 λgX=>J gX else J ff)):Cl F.qh #[a.agg,.P out 0] h R:=aS (lq (sq (lq (lq (cq ll lf))) (lq (sq (lq (cq ll lf)) (lq (sq (lq (.join [] (cq (pK 7) lf))) (lq ll))))))) Tryz.func101 hv
theorem qi.walk {a:bO.S} {out:Nat} (hv:aV h (.cells a.arr T.bO) λb aR=>bO.dh aR (AA b 0) λt10=>Cl F.mq #[t10.agg] aR λv aZ=> ∃t11,v=.I t11/\if(t11 !=0) then R (.I t11) aZ else aK (λ(c:bV) (e:Int) (bK:aj)=>if(e !=0) then R (.I e) bK else aP c λkz=>L4 bK (kz.add 6) λNP NQ NR=>Cl F.qj #[.slice NP NQ NR] bK λeK cC=>aw.EX λDX=> ∃Fs,eK=.tuple #[DX.agg,.I Fs]/\aV cC (.cells aw.S.z.arr T.aw) λcE cK=>aw.dW cK (AA cE 0) DX λcR=>aP c λpF=>Rf cR pF λt52=>aw.dh cR (AA cE 0) λt53=>aP c λrZ=>L4 cR (rZ.add 6) λN0 N1 SV=>Cl F.nW #[t53.agg] cR λgS cX=> ∃Ic CT KM,gS=.slice Ic CT KM/\Kp cR cX [(some (rZ.add 6)),(some pF)]/\aH cX (AA out 2) (.I t52) λdB=>Kp cX dB [(some (rZ.add 6))]/\aH dB (AA out 3) (.I (CT:Int)) λff=>Kp dB ff [(some (rZ.add 6))]/\aH ff (AA out 5) (.slice N0 N1 SV) λcQ=>R (.I 0) cQ) (λJ=>Hp aZ b 19 λt17=>aP t17 λvT=>LO aZ (vT.add 2) λt20=>az.dh aZ (AA b 2) λt23=>Hi aZ b 20 λt25=>Hp aZ b 19 λt27=>aP t27 λBK=>JM aZ (BK.add 6) λt30=>Hi aZ b 14 λt33=>(Cl F.sE #[.U t30,.U (wrap .u64 t33)] aZ λkV cW=> ∃t35,kV=.U t35/\Kp aZ cW [(some (AA b 14)),(some (AA b 19)),(some (AA b 20)),(some (AA b 2)),(some (vT.add 2)),(some (AA b 19))]/\(Cl F.iG #[.pointer t20,t23.agg,.I t25,.U t35] cW λou dE=>aJ.EX λTa=> ∃Ir,ou=.tuple #[Ta.agg,.I Ir]/\Kp cW dE [(some (AA b 14)),(some (AA b 19)),(some (AA b 19))]/\aV dE (.cells aJ.S.z.arr T.aJ) λeZ dG=>Kp dE dG [(some (AA b 14)),(some (AA b 19)),(some (AA b 19))]/\aJ.dW dG (AA eZ 0) Ta λfD=>J (some (AA eZ 0)) Ir fD)/\(aV cW (.cells aJ.S.z.arr T.aJ) λjR gE=>Kp cW gE [(some (AA b 14)),(some (AA b 19)),(some (AA b 20)),(some (AA b 2)),(some (vT.add 2)),(some (AA b 19))]/\Cl F.iG #[.pointer t20,t23.agg,.I t25,.U t35] gE λxw gX=>aJ.EX λYK=> ∃YL,xw=.tuple #[YK.agg,.I YL]/\Kp gE gX [(some (AA b 14)),(some (AA b 19)),(some (AA b 19))]/\aJ.dW gX (AA jR 0) YK λgR=>J (some (AA jR 0)) YL gR)/\True)/\(aV aZ (.cells aJ.S.z.arr T.aJ) λpI fi=>Kp aZ fi [(some (AA b 14)),(some (BK.add 6)),(some (AA b 19)),(some (AA b 20)),(some (AA b 2)),(some (vT.add 2)),(some (AA b 19))]/\Cl F.sE #[.U t30,.U (wrap .u64 t33)] fi λAU jn=> ∃vH,AU=.U vH/\Kp fi jn [(some (AA b 14)),(some (AA b 19)),(some (AA b 20)),(some (AA b 2)),(some (vT.add 2)),(some (AA b 19))]/\Cl F.iG #[.pointer t20,t23.agg,.I t25,.U vH] jn λDN ju=>aJ.EX λYM=> ∃YN,DN=.tuple #[YM.agg,.I YN]/\Kp jn ju [(some (AA b 14)),(some (AA b 19)),(some (AA b 19))]/\aJ.dW ju (AA pI 0) YM λsL=>J (some (AA pI 0)) YN sL)/\True)):Cl F.qi #[a.agg,.P out 0] h R:=aS (lq (sq (lq (lq (cq ll lf))) (sq (.join [(6,.one (.ptr)),(7,.one (.int .i64))] (.qX (jh 19 0 (.alts (.fork 19 (.alts (.fork 20 (jh 6 21 .done) (.fork 24 (jh 4 20 (.op 25 (.op 26 .done))) .mE))) (.fork 24 (jh 5 19 (.op 25 (.op 26 .done))) .mE)))))) (sq (lq (cq ll lf)) (lq (sq (.qX (jh 6 0 (.op 8 (.op 9 (.op 6 (.op 7 (jh 9 10 .done))))))) ll)))))) Tryz.func105 hv
theorem qk.walk {a:bO.S} {hH:bV} {fT hN:Nat} (hv:aV h (.cells a.arr T.bO) λb aR=>Cl F.qj #[.slice hH fT hN] aR λv aZ=>aw.EX λyy=> ∃xr,v=.tuple #[yy.agg,.I xr]/\aV aZ (.cells aw.S.z.arr T.aw) λcE bK=>aw.dW bK (AA cE 0) yy λcC=>aC.dh cC (AA cE 0) λt21=>aV cC (.cells aC.S.z.arr T.aC) λeZ cK=>aC.dW cK (AA eZ 0) t21 λcR=>aK (λ(t31:Bool) (cX:aj)=>if t31 then R (.I 0) cX else aK (λ(id:bV) (own:bV) (e:Int) (dB:aj)=>if(e !=0) then R (.I 0) dB else aK (λ(e_1:Int) (r:bV) (ff:aj)=>if(e_1 !=0) then R (.I 0) ff else bO.dh ff (AA b 0) λt68=>aP r λkz=>aw.dh ff kz λt69=>aP own λpF=>ah.dh ff pF λt70=>Cl F.py #[t68.agg,t69.agg,t70.agg] ff λeK cQ=> ∃adk adl Xs,eK=.tuple #[.I adk,.I adl,.I Xs]/\if(Xs !=0) then R (.I 0) cQ else R (.I 1) cQ) (λBp=>Hp dB b 19 λt50=>aP t50 λrZ=>JM dB (rZ.add 6) λt53=>ah.dh dB (AA eZ 12) λt55=>az.dh dB (AA eZ 7) λt58=>aP id λvT=>ah.dh dB vT λt59=>Hu dB eZ 19 λt61=>(Cl F.ny #[.agg #[.bool false,.bool true,.bool false,.U 0,.U t53,.bool t55.f0,.U t55.f1,.U t55.f2,.string t55.f3,.string t55.f4,.U t55.f5,.U t55.f6],t58.agg,t59.agg,.U t61] dB λgS cW=>aw.EX λBr=> ∃Bs,gS=.tuple #[Br.agg,.I Bs]/\Kp dB cW [(some (AA eZ 12)),(some (rZ.add 6)),(some (AA b 19))]/\aV cW (.cells aw.S.z.arr T.aw) λjR dE=>Kp cW dE [(some (AA eZ 12)),(some (rZ.add 6)),(some (AA b 19))]/\aw.dW dE (AA jR 0) Br λdG=>Bp Bs (some (AA jR 0)) dG)/\(aV dB (.cells aw.S.z.arr T.aw) λpI fD=>Kp dB fD [(some (AA eZ 19)),id,(some (AA eZ 7)),(some (AA eZ 12)),(some (rZ.add 6)),(some (AA b 19))]/\Cl F.ny #[.agg #[.bool false,.bool true,.bool false,.U 0,.U t53,.bool t55.f0,.U t55.f1,.U t55.f2,.string t55.f3,.string t55.f4,.U t55.f5,.U t55.f6],t58.agg,t59.agg,.U t61] fD λkV gE=>aw.EX λYO=> ∃YP,kV=.tuple #[YO.agg,.I YP]/\Kp fD gE [(some (AA eZ 12)),(some (rZ.add 6)),(some (AA b 19))]/\aw.dW gE (AA pI 0) YO λgX=>Bp YP (some (AA pI 0)) gX)/\True)) (λjo=>Hp cX b 19 λt34=>Hp cX b 19 λt36=>aP t36 λBK=>LO cX (BK.add 5) λt39=>(Cl F.gQ #[.pointer t39] cX λou gR=>ah.EX λt40=>ou=t40.agg/\Kp cX gR [(some (AA b 19)),(some (AA b 19))]/\(Cl F.kj #[.pointer t34,.agg #[.bool t40.f0,.U t40.f1,.U t40.f2,.string t40.f3,.string t40.f4]] gR λxw fi=>ah.EX λzF=>ah.EX λvI=> ∃aeh,xw=.tuple #[zF.agg,vI.agg,.I aeh]/\Kp gR fi [(some (AA b 19))]/\(aV fi (.cells ah.S.z.arr T.ah) λBA jn=>Kp fi jn [(some (AA b 19))]/\aV jn (.cells ah.S.z.arr T.ah) λSP ju=>Kp jn ju [(some (AA b 19))]/\ah.dW ju (AA BA 0) zF λsL=>ah.dW sL (AA SP 0) vI λrM=>jo (some (AA BA 0)) (some (AA SP 0)) aeh rM)/\(aV fi (.cells ah.S.z.arr T.ah) λb_7 qL=>Kp fi qL [(some (AA b 19))]/\aV qL (.cells ah.S.z.arr T.ah) λb_8 vi=>Kp qL vi [(some (AA b 19))]/\ah.dW vi (AA b_8 0) zF λzZ=>ah.dW zZ (AA b_7 0) vI λBM=>jo (some (AA b_8 0)) (some (AA b_7 0)) aeh BM)/\True)/\(aV gR (.cells ah.S.z.arr T.ah) λb_9 BN=>Kp gR BN [(some (AA b 19)),(some (AA b 19))]/\(Cl F.kj #[.pointer t34,.agg #[.bool t40.f0,.U t40.f1,.U t40.f2,.string t40.f3,.string t40.f4]] BN λAU Ga=>ah.EX λYQ=>ah.EX λYR=> ∃YS,AU=.tuple #[YQ.agg,YR.agg,.I YS]/\Kp BN Ga [(some (AA b 19))]/\aV Ga (.cells ah.S.z.arr T.ah) λad8 IW=>Kp Ga IW [(some (AA b 19))]/\ah.dW IW (AA b_9 0) YQ λHe=>ah.dW He (AA ad8 0) YR λsr=>jo (some (AA b_9 0)) (some (AA ad8 0)) YS sr)/\(aV BN (.cells ah.S.z.arr T.ah) λahk IX=>Kp BN IX [(some (AA b 19)),(some (AA b 19))]/\Cl F.kj #[.pointer t34,.agg #[.bool t40.f0,.U t40.f1,.U t40.f2,.string t40.f3,.string t40.f4]] IX λDN SR=>ah.EX λYT=>ah.EX λYU=> ∃YV,DN=.tuple #[YT.agg,YU.agg,.I YV]/\Kp IX SR [(some (AA b 19))]/\ah.dW SR (AA b_9 0) YT λLs=>ah.dW Ls (AA ahk 0) YU λQi=>jo (some (AA b_9 0)) (some (AA ahk 0)) YV Qi)/\True)/\(aV gR (.cells ah.S.z.arr T.ah) λahp IY=>Kp gR IY [(some (AA b 19)),(some (AA b 19))]/\(Cl F.kj #[.pointer t34,.agg #[.bool t40.f0,.U t40.f1,.U t40.f2,.string t40.f3,.string t40.f4]] IY λEK Mt=>ah.EX λYW=>ah.EX λYX=> ∃YY,EK=.tuple #[YW.agg,YX.agg,.I YY]/\Kp IY Mt [(some (AA b 19))]/\aV Mt (.cells ah.S.z.arr T.ah) λaoI tW=>Kp Mt tW [(some (AA b 19))]/\ah.dW tW (AA aoI 0) YW λxM=>ah.dW xM (AA ahp 0) YX λaei=>jo (some (AA aoI 0)) (some (AA ahp 0)) YY aei)/\(aV IY (.cells ah.S.z.arr T.ah) λaoJ akU=>Kp IY akU [(some (AA b 19)),(some (AA b 19))]/\Cl F.kj #[.pointer t34,.agg #[.bool t40.f0,.U t40.f1,.U t40.f2,.string t40.f3,.string t40.f4]] akU λSQ aoK=>ah.EX λYZ=>ah.EX λY0=> ∃Y1,SQ=.tuple #[YZ.agg,Y0.agg,.I Y1]/\Kp akU aoK [(some (AA b 19))]/\ah.dW aoK (AA aoJ 0) YZ λaq0=>ah.dW aq0 (AA ahp 0) Y0 λaq1=>jo (some (AA aoJ 0)) (some (AA ahp 0)) Y1 aq1)/\True)/\True)/\(aV cX (.cells ah.S.z.arr T.ah) λaa8 aej=>Kp cX aej [(some (BK.add 5)),(some (AA b 19)),(some (AA b 19))]/\(Cl F.gQ #[.pointer t39] aej λDd aek=>ah.EX λyC=>Dd=yC.agg/\Kp aej aek [(some (AA b 19)),(some (AA b 19))]/\(Cl F.kj #[.pointer t34,.agg #[.bool yC.f0,.U yC.f1,.U yC.f2,.string yC.f3,.string yC.f4]] aek λEL akV=>ah.EX λY2=>ah.EX λY3=> ∃Y4,EL=.tuple #[Y2.agg,Y3.agg,.I Y4]/\Kp aek akV [(some (AA b 19))]/\aV akV (.cells ah.S.z.arr T.ah) λaoL aoM=>Kp akV aoM [(some (AA b 19))]/\ah.dW aoM (AA aa8 0) Y2 λaq2=>ah.dW aq2 (AA aoL 0) Y3 λaq3=>jo (some (AA aa8 0)) (some (AA aoL 0)) Y4 aq3)/\(aV aek (.cells ah.S.z.arr T.ah) λaoN akW=>Kp aek akW [(some (AA b 19)),(some (AA b 19))]/\Cl F.kj #[.pointer t34,.agg #[.bool yC.f0,.U yC.f1,.U yC.f2,.string yC.f3,.string yC.f4]] akW λQj aoO=>ah.EX λY5=>ah.EX λY6=> ∃Y7,Qj=.tuple #[Y5.agg,Y6.agg,.I Y7]/\Kp akW aoO [(some (AA b 19))]/\ah.dW aoO (AA aa8 0) Y5 λaq4=>ah.dW aq4 (AA aoN 0) Y6 λaq5=>jo (some (AA aa8 0)) (some (AA aoN 0)) Y7 aq5)/\True)/\(aV aej (.cells ah.S.z.arr T.ah) λaoP akX=>Kp aej akX [(some (BK.add 5)),(some (AA b 19)),(some (AA b 19))]/\Cl F.gQ #[.pointer t39] akX λVG akY=>ah.EX λOf=>VG=Of.agg/\Kp akX akY [(some (AA b 19)),(some (AA b 19))]/\Cl F.kj #[.pointer t34,.agg #[.bool Of.f0,.U Of.f1,.U Of.f2,.string Of.f3,.string Of.f4]] akY λVH aoQ=>ah.EX λY8=>ah.EX λY9=> ∃Za,VH=.tuple #[Y8.agg,Y9.agg,.I Za]/\Kp akY aoQ [(some (AA b 19))]/\ah.dW aoQ (AA aa8 0) Y8 λaq6=>ah.dW aq6 (AA aoP 0) Y9 λaq7=>jo (some (AA aa8 0)) (some (AA aoP 0)) Za aq7)/\True)/\(aV cX (.cells ah.S.z.arr T.ah) λaa9 ael=>Kp cX ael [(some (BK.add 5)),(some (AA b 19)),(some (AA b 19))]/\(Cl F.gQ #[.pointer t39] ael λVI aem=>ah.EX λDe=>VI=De.agg/\Kp ael aem [(some (AA b 19)),(some (AA b 19))]/\(Cl F.kj #[.pointer t34,.agg #[.bool De.f0,.U De.f1,.U De.f2,.string De.f3,.string De.f4]] aem λaen akZ=>ah.EX λZb=>ah.EX λZc=> ∃Zd,aen=.tuple #[Zb.agg,Zc.agg,.I Zd]/\Kp aem akZ [(some (AA b 19))]/\aV akZ (.cells ah.S.z.arr T.ah) λaoR aoS=>Kp akZ aoS [(some (AA b 19))]/\ah.dW aoS (AA aoR 0) Zb λaq8=>ah.dW aq8 (AA aa9 0) Zc λaq9=>jo (some (AA aoR 0)) (some (AA aa9 0)) Zd aq9)/\(aV aem (.cells ah.S.z.arr T.ah) λaoT ak0=>Kp aem ak0 [(some (AA b 19)),(some (AA b 19))]/\Cl F.kj #[.pointer t34,.agg #[.bool De.f0,.U De.f1,.U De.f2,.string De.f3,.string De.f4]] ak0 λaeo aoU=>ah.EX λZe=>ah.EX λZf=> ∃Zg,aeo=.tuple #[Ze.agg,Zf.agg,.I Zg]/\Kp ak0 aoU [(some (AA b 19))]/\ah.dW aoU (AA aoT 0) Ze λara=>ah.dW ara (AA aa9 0) Zf λarb=>jo (some (AA aoT 0)) (some (AA aa9 0)) Zg arb)/\True)/\(aV ael (.cells ah.S.z.arr T.ah) λaoV ak1=>Kp ael ak1 [(some (BK.add 5)),(some (AA b 19)),(some (AA b 19))]/\Cl F.gQ #[.pointer t39] ak1 λak2 ak3=>ah.EX λOg=>ak2=Og.agg/\Kp ak1 ak3 [(some (AA b 19)),(some (AA b 19))]/\Cl F.kj #[.pointer t34,.agg #[.bool Og.f0,.U Og.f1,.U Og.f2,.string Og.f3,.string Og.f4]] ak3 λak4 aoW=>ah.EX λTc=>ah.EX λTd=> ∃Te,ak4=.tuple #[Tc.agg,Td.agg,.I Te]/\Kp ak3 aoW [(some (AA b 19))]/\ah.dW aoW (AA aoV 0) Tc λarc=>ah.dW arc (AA aa9 0) Td λard=>jo (some (AA aoV 0)) (some (AA aa9 0)) Te ard)/\True)/\True)) (λJ=> ∃t23,ak cR (AA eZ 0)=some (.U t23)/\if((wrap .u64 ((BitVec.ofInt (IntKind.bits .u64) t23 &&& BitVec.ofInt (IntKind.bits .u64) 131072).toNat:Int))==0) then J true cR else∃t28,ak cR (AA eZ 0)=some (.U t28)/\J ((wrap .u64 ((BitVec.ofInt (IntKind.bits .u64) t28 &&& BitVec.ofInt (IntKind.bits .u64) 2).toNat:Int)) !=0) cR)):Cl F.qk #[a.agg,.slice hH fT hN] h R:=aS (lq (lq (lq (sq (sq (.join [(31,.one (.bool))] lf) (cq ll lf)) (sq (.join [(8,.one (.ptr)),(9,.one (.ptr)),(10,.one (.int .i64))] (.qX (jh 7 0 (.alts (.fork 7 (.op 8 (.alts (.fork 9 (jh 4 10 (.alts (.fork 14 (jh 4 15 .done) (.fork 15 (.op 14 (jh 3 16 .done)) .mE)))) (.fork 14 (.alts (.fork 9 (jh 4 10 (jh 4 15 .done)) (.fork 15 (jh 5 9 (jh 3 16 .done)) .mE))) (.fork 15 (.alts (.fork 9 (jh 5 10 (jh 3 16 .done)) (.fork 14 (jh 5 9 (jh 3 16 .done)) .mE))) .mE))))) (.fork 14 (.alts (.fork 7 (.op 8 (.alts (.fork 9 (jh 4 10 (jh 4 15 .done)) (.fork 15 (jh 5 9 (jh 3 16 .done)) .mE)))) (.fork 15 (jh 7 7 (jh 3 16 .done)) .mE))) (.fork 15 (.alts (.fork 7 (.op 8 (.alts (.fork 9 (jh 5 10 (jh 3 16 .done)) (.fork 14 (jh 5 9 (jh 3 16 .done)) .mE)))) (.fork 14 (jh 7 7 (jh 3 16 .done)) .mE))) .mE))))))) (sq (lq (cq ll lf)) (sq (.join [(10,.one (.int .i64)),(11,.one (.ptr))] (.qX (jh 13 0 (.alts (.fork 13 (jh 6 14 .done) (.fork 17 (jh 4 13 (.op 18 (.op 19 .done))) .mE)))))) (sq (lq (cq ll lf)) (sq (lq (lq (cq ll lf))) ll))))))))) Tryz.func164 hv
theorem dN.ack.walk {oD:bV} {mG qK:Nat} {RU:Nat} (hv: ∃(I:Int->aj->Prop) (mu:Int->aj->Nat),I 0 h/\∀(t8:Int) (aR:aj),I t8 aR->if(decide (t8<(mG:Int))) then Bd t8 mG/\aP oD λa=>aJ.dh aR (a.add (toNat t8*10)) λt15=>Cl F.jO #[t15.agg,.P RU 0] aR λv aZ=> ∃t16,v=.bool t16/\if t16 then R (.I t8) aZ else(I (wrap .i64 (t8+1)) aZ/\mu (wrap .i64 (t8+1)) aZ<mu t8 aR) else R (.I (-1)) aR):Cl F.dN #[.slice oD mG qK,.func (.func F.jO) #[] #[.P RU 0]] h R:=aS (lq (sq (lq (bq (.loop [(8,.one (.int .i64))] (lq (sq (cq lf lf) (sq (bq (lq (lq (cq ll lf)))) lf)))))) ll)) Tryz.func162 hv
theorem rq.walk {a:bO.S} {out:Nat} (hv:aV h (.cells a.arr T.bO) λb aR=>Hp aR b 19 λt9=>aP t9 λkz=>LO aR (kz.add 2) λt12=>Cl F.lV #[.pointer t12] aR λv aZ=>Vl v λHS Cz Kk=>Hp aZ b 19 λt15=>aP t15 λpF=>LO aZ (pF.add 2) λt18=>Hi aZ b 13 λt21=>Hi aZ b 20 λt23=>Cl F.nY #[.pointer t18,.I t21,.I t23] aZ λeK bK=> ∃t24,eK=.I t24/\Kp aZ bK [(some (AA b 19))]/\Cl F.dN #[.slice HS Cz Kk,.func (.func F.jO) #[] #[.P b 0]] bK λgS cC=>Vi gS λt27=>aK (λ(t33:Bool) (cK:aj)=>aK (λ(cR:aj)=>R (.I t24) cR) (λjo=>if t33 then bO.dh cK (AA b 0) λt35=>Bd t27 Cz/\aP HS λrZ=>L4 cK ((rZ.add (toNat t27*10)).add 6) λKu MY Fw=>Cl F.qk #[t35.agg,.slice Ku MY Fw] cK λkV cX=> ∃t41,kV=.I t41/\aH cX (AA out 3) (.I t41) λdB=>jo dB else jo cK)) (λJ=>if(t24==0) then J (decide (t27≥0)) cC else J false cC)):Cl F.rq #[a.agg,.P out 0] h R:=aS (lq (lq (sq (pK 12) (lq (sq (sq (.join [(33,.one (.bool))] lf) (.join [] (cq (pK 11) lf))) ll))))) Tryz.func106 hv
theorem jO.walk {c:aJ.S} {c0:Nat} (hv:aV h (.cells c.arr T.aJ) λb aR=>Hi aR b 0 λt5=> ∃t8,ak aR (AA c0 13)=some (.I t8)/\R (.bool (t5==t8)) aR):Cl F.jO #[c.agg,.P c0 0] h R:=aS (lq ll) Tryz.func163 hv
theorem oW.walk {a:bO.S} {out:Nat} (hv:aV h (.cells a.arr T.bO) λb aR=>Hp aR b 19 λt7=>aP t7 λkz=>LO aR kz λt10=>Hi aR b 20 λt12=>Hb aR b 18 λt15=>Cl F.kk #[.pointer t10,.I t12,.bool t15] aR λv aZ=> ∃t16,v=.I t16/\Kp aR aZ [(some (AA b 19))]/\aK (λ(e:Int) (bK:aj)=>R (.I e) bK) (λJ=>if(t16==0) then Hp aZ b 19 λt23=>aP t23 λpF=>LO aZ pF λt26=>Hi aZ b 20 λt28=>Cl F.lh #[.pointer t26,.I t28] aZ λeK cC=> ∃Zh Zi Zj Nx Xq,eK=.tuple #[.slice Zh Zi Zj,.I Nx,.I Xq]/\Kp aZ cC [(some (AA b 19))]/\aH cC (AA out 5) (.slice Zh Zi Zj) λcK=>aH cK (AA out 3) (.I Nx) λcR=>J Xq cR else J t16 aZ)):Cl F.oW #[a.agg,.P out 0] h R:=aS (lq (sq (pK 12) (sq (lq (.join [(5,.one (.int .i64))] (cq (pK 21) lf))) ll))) Tryz.func108 hv
theorem sX.walk {a:bO.S} {out:Nat} (hv:aV h (.cells a.arr T.bO) λb aR=> ∃t8,ak aR (AA b 1)=some (.I t8)/\if(t8==1) then Hp aR b 19 λt12=>aP t12 λkz=>LO aR (kz.add 1) λt15=>az.dh aR (AA b 2) λt18=>Hi aR b 12 λt21=>Hi aR b 20 λt23=>Cl F.qe #[.pointer t15,.agg #[.bool t18.f0,.U t18.f1,.U t18.f2,.string t18.f3,.string t18.f4,.I t21,.I t23]] aR λv aZ=> ∃t25,v=.I t25/\Kp aR aZ [(some (AA b 20)),(some (AA b 12)),(some (AA b 2)),(some (AA b 19))]/\R (.I t25) aZ else if(t8==2) then Hp aR b 19 λt29=>aP t29 λpF=>LO aR (pF.add 1) λt32=>az.dh aR (AA b 2) λt35=>Hi aR b 20 λt37=>Cl F.mV #[.pointer t32,t35.agg,.I t37] aR λeK bK=> ∃t38,eK=.I t38/\Kp aR bK [(some (AA b 19))]/\aK (λ(cC:aj)=>R (.I t38) cC) (λJ=>if(t38==0) then Hp bK b 19 λt43=>aP t43 λrZ=>LO bK (rZ.add 2) λt46=>az.dh bK (AA b 2) λt49=>Cl F.mW #[.pointer t46,t49.agg] bK λgS cK=> ∃Da Bz Db,gS=.slice Da Bz Db/\Kp bK cK [(some (AA b 19))]/\aH cK (AA out 3) (.I (Bz:Int)) λcR=>J cR else J bK) else if(t8==3) then Hp aR b 19 λt58=>aP t58 λvT=>LO aR (vT.add 1) λt61=>az.dh aR (AA b 2) λt64=>Hi aR b 20 λt66=>Hi aR b 12 λt69=>Cl F.mX #[.pointer t61,t64.agg,.I t66,.I t69] aR λkV cX=> ∃t70,kV=.I t70/\Kp aR cX [(some (AA b 19))]/\R (.I t70) cX else if(t8==4) then bO.dh aR (AA b 0) λt73=>Cl F.qh #[t73.agg,.P out 0] aR λou dB=> ∃t75,ou=.I t75/\R (.I t75) dB else if(t8==5) then Hp aR b 19 λt79=>Hi aR b 13 λt82=>Hi aR b 20 λt84=>Cl F.mj #[.pointer t79,.I t82,.I t84] aR λxw ff=> ∃t85,xw=.I t85/\R (.I t85) ff else if(t8==6) then Hp aR b 19 λt90=>aP t90 λBK=>LO aR (BK.add 2) λt93=>az.dh aR (AA b 2) λt96=>Cl F.ml #[.pointer t93,t96.agg] aR λAU cQ=> ∃t97,AU=.I t97/\Kp aR cQ [(some (AA b 19))]/\aH cQ (AA out 2) (.I t97) λcW=>bO.dh cW (AA b 0) λt100=>Cl F.mq #[t100.agg] cW λDN dE=> ∃t101,DN=.I t101/\R (.I t101) dE else if(t8==7) then bO.dh aR (AA b 0) λt104=>Cl F.qi #[t104.agg,.P out 0] aR λEK dG=> ∃t106,EK=.I t106/\R (.I t106) dG else if(t8==8) then bO.dh aR (AA b 0) λt109=>Cl F.rq #[t109.agg,.P out 0] aR λSQ fD=> ∃t111,SQ=.I t111/\R (.I t111) fD else if(t8==9) then Hp aR b 19 λt115=>aP t115 λKo=>LO aR (Ko.add 2) λt118=>Hi aR b 13 λt121=>Hi aR b 20 λt123=>Cl F.kg #[.pointer t118,.I t121,.I t123] aR λDd gE=> ∃t124,Dd=.I t124/\Kp aR gE [(some (AA b 19))]/\R (.I t124) gE else if(t8==10) then bO.dh aR (AA b 0) λt127=>Cl F.oW #[t127.agg,.P out 0] aR λEL gX=> ∃t129,EL=.I t129/\R (.I t129) gX else R (.I 3) aR):Cl F.sX #[a.agg,.P out 0] h R:=aS (lq (sq (lq (bq (lq (cq (sq (pK 16) lf) (lq (cq (sq (pK 12) (sq (lq (.join [] (cq (pK 14) lf))) ll)) (lq (cq (sq (pK 15) lf) (lq (cq ll (lq (cq ll (lq (cq (sq (pK 13) ll) (lq (cq ll (lq (cq ll (lq (cq (sq (pK 12) lf) (lq (cq ll lf)))))))))))))))))))))) ll)) Tryz.func44 hv
theorem mJ.walk {s:Nat} {kM:Int} {r:aD.S} (hv:aV h (.cells r.arr T.aD) λb aR=>aV aR (.cells aq.S.z.arr T.aq) λcE aZ=>aK (λ(t15:Bool) (bK:aj)=>if t15 then Hu bK b 0 λt61=>Cl F.kO #[.U t61,.I 6] bK λv cC=>aq.EX λt62=>v=t62.agg/\aq.dW cC (AA cE 0) t62 λcK=>aq.dh cK (AA cE 0) λr0=>R (r0.agg) cK else aK (λ(t63:Bool) (cR:aj)=>if t63 then Hu cR b 0 λt73=>Cl F.kO #[.U t73,.I 3] cR λeK cX=>aq.EX λt74=>eK=t74.agg/\aq.dW cX (AA cE 0) t74 λdB=>aq.dh dB (AA cE 0) λia=>R (ia.agg) dB else Hp cR s 0 λt79=>Cl F.mR #[.pointer t79,.I kM] cR λgS ff=> ∃t81,gS=.bool t81/\if(!t81) then Hu ff b 0 λt84=>Cl F.kO #[.U t84,.I 16] ff λkV cQ=>aq.EX λt85=>kV=t85.agg/\aq.dW cQ (AA cE 0) t85 λcW=>aq.dh cW (AA cE 0) λoT=>R (oT.agg) cW else Hp ff s 0 λt90=>Hu ff b 0 λt93=>Cl F.kZ #[.pointer t90,.I kM,.U t93] ff λou dE=> ∃Zk Zl Zm ai0,ou=.tuple #[.slice Zk Zl Zm,.bool ai0]/\if ai0 then Cl F.wT #[.slice Zk Zl Zm] dE λxw dG=>aq.EX λaep=> ∃ak5,xw=.tuple #[aep.agg,.I ak5]/\aV dG (.cells aq.S.z.arr T.aq) λeZ fD=>aq.dW fD (AA eZ 0) aep λgE=>aq.dh gE (AA eZ 0) λt103=>aq.dW gE (AA cE 0) t103 λgX=>aq.dh gX (AA cE 0) λpH=>R (pH.agg) gX else Hu dE b 0 λt105=>aV dE (.cells aq.S.z.arr T.aq) λjR gR=>aq.dW gR (AA jR 0) ⟨t105,0,0,0,0,none,0,0⟩ λfi=>aD.dh fi (AA b 0) λt107=>Cl F.sX #[.agg #[.U t107.f0,.I t107.f1,.bool t107.f2,.U t107.f3,.U t107.f4,.string t107.f5,.string t107.f6,.bool t107.f7,.U t107.f8,.U t107.f9,.string t107.f10,.string t107.f11,.I t107.f12,.I t107.f13,.I t107.f14,.slice t107.OZ t107.Mc t107.O0,.U t107.f16,.U t107.f17,.bool t107.f18,.P s 0,.I kM],.P jR 0] fi λAU jn=>Vi AU λt111=>aK (λ(ju:aj)=>aq.dh ju (AA jR 0) λt119=>Cl F.uV #[t119.agg] ju λDN sL=> ∃Tf Tg Th ak6,DN=.tuple #[.slice Tf Tg Th,.I ak6]/\Hp sL s 0 λt126=>Hu sL b 0 λt129=>Cl F.iU #[.pointer t126,.I kM,.U t129,.slice Tf Tg Th] sL λEK rM=>Vi EK λt131=>aq.dh rM (AA jR 0) λt132=>aq.dW rM (AA cE 0) t132 λqL=>aq.dh qL (AA cE 0) λyR=>R (yR.agg) qL) (λBp=>if(t111 !=0) then Hu jn b 0 λt115=>Cl F.kO #[.U t115,.I t111] jn λSQ vi=>aq.EX λt117=>SQ=t117.agg/\aq.dW vi (AA jR 0) t117 λzZ=>Bp zZ else Bp jn)) (λjo=>aD.dh bK (AA b 0) λt64=>Cl F.pk #[t64.agg] bK λDd BM=> ∃t65,Dd=.bool t65/\if(!t65) then jo true BM else∃t69,ak BM (AA b 1)=some (.I t69)/\jo (decide (t69≥11)) BM)) (λJ=> ∃t22,ak aZ (AA s 0)=some (.pointer t22)/\if t22.isNone then J true aZ else∃t29,ak aZ (AA s 1)=some (.pointer t29)/\if t29.isNone then J true aZ else∃t36,ak aZ (AA s 2)=some (.pointer t36)/\if t36.isNone then J true aZ else∃t43,ak aZ (AA s 3)=some (.pointer t43)/\if t43.isNone then J true aZ else∃t50,ak aZ (AA s 4)=some (.pointer t50)/\if t50.isNone then J true aZ else∃t57,ak aZ (AA s 5)=some (.pointer t57)/\J t57.isNone aZ)):Cl F.mJ #[.P s 0,.I kM,r.agg] h R:=aS (lq (sq (bq (sq (.join [(15,.one (.bool))] lf) (cq ll (sq (.join [(63,.one (.bool))] lf) (cq ll (lq (cq ll lf))))))) (sq (sq (pK 13) (lq (cq (lq ll) lf))) (lq (sq (lq (lq (.join [] (cq lf lf)))) (lq (sq (pK 9) ll))))))) Tryz.func13 hv
theorem mJ.nil.walk {kM:Int} {r:aD.S} (hv:aV h (.cells r.arr T.aD) λb aR=>aV aR (.cells aq.S.z.arr T.aq) λcE aZ=>aK (λ(t15:Bool) (bK:aj)=>if t15 then Hu bK b 0 λt61=>Cl F.kO #[.U t61,.I 6] bK λv cC=>aq.EX λt62=>v=t62.agg/\aq.dW cC (AA cE 0) t62 λcK=>aq.dh cK (AA cE 0) λr0=>R (r0.agg) cK else aK (λ(t63:Bool) (cR:aj)=>if t63 then Hu cR b 0 λt73=>Cl F.kO #[.U t73,.I 3] cR λeK cX=>aq.EX λt74=>eK=t74.agg/\aq.dW cX (AA cE 0) t74 λdB=>aq.dh dB (AA cE 0) λia=>R (ia.agg) dB else False) (λjo=>aD.dh bK (AA b 0) λt64=>Cl F.pk #[t64.agg] bK λgS ff=> ∃t65,gS=.bool t65/\if(!t65) then jo true ff else∃t69,ak ff (AA b 1)=some (.I t69)/\jo (decide (t69≥11)) ff)) (λJ=>J true aZ)):Cl F.mJ #[.pointer none,.I kM,r.agg] h R:=aS (lq (sq (bq (sq (.join [(15,.one (.bool))] lf) (cq ll (sq (.join [(63,.one (.bool))] lf) (cq ll (lq (cq ll lf))))))) (sq (sq (pK 13) (lq (cq (lq ll) lf))) (lq (sq (lq (lq (.join [] (cq lf lf)))) (lq (sq (pK 9) ll))))))) Tryz.func13 hv
theorem uu.walk (hv:aV h (.cells az.S.z.arr T.az) λb aR=>az.dW aR (AA b 0) ⟨true,7,0,ka,ka⟩ λaZ=>az.dh aZ (AA b 0) λr0=>R (r0.agg) aZ):Cl F.uu #[] h R:=aS (lq ll) Tryz.func9 hv
theorem jA.walk (hv:aV h (.cells az.S.z.arr T.az) λb aR=>az.dW aR (AA b 0) ⟨true,7,1,ka,ka⟩ λaZ=>az.dh aZ (AA b 0) λr0=>R (r0.agg) aZ):Cl F.jA #[] h R:=aS (lq ll) Tryz.func14 hv
theorem sC.walk {s:Nat} (hv: ∃t9,ak h (AA s 0)=some (.pointer t9)/\if(!t9.isNone) then∃t16,ak h (AA s 1)=some (.pointer t16)/\if(!t16.isNone) then∃t23,ak h (AA s 2)=some (.pointer t23)/\if(!t23.isNone) then∃t30,ak h (AA s 3)=some (.pointer t30)/\if(!t30.isNone) then∃t37,ak h (AA s 4)=some (.pointer t37)/\if(!t37.isNone) then∃t44,ak h (AA s 5)=some (.pointer t44)/\R (.bool (!t44.isNone)) h else R (.bool false) h else R (.bool false) h else R (.bool false) h else R (.bool false) h else R (.bool false) h):Cl F.sC #[.P s 0] h R:=aS (lq ll) Tryz.func10 hv
theorem qc.walk (hv:Cl F.uu #[] h λv aR=>az.EX λt10=>v=t10.agg/\Cl F.wv #[t10.agg] aR λeK aZ=> ∃pR tD,eK=.tuple #[.pointer pR,.I tD]/\aK (λ(t33:Bool) (bK:aj)=>if t33 then R (.bool false) bK else aP pR λa=>LO bK a λt37=>Cl F.gI #[.pointer t37,.U 5] bK λgS cC=> ∃HX xm,gS=.tuple #[.I HX,.I xm]/\aP pR λkz=>LO cC kz λt42=>Cl F.gI #[.pointer t42,.U 6] cC λkV cK=> ∃Xz CG,kV=.tuple #[.I Xz,.I CG]/\Cl F.jA #[] cK λou cR=>az.EX λt45=>ou=t45.agg/\Cl F.mJ #[.pointer pR,.I 1,.agg #[.U 1,.I 1,.bool t45.f0,.U t45.f1,.U t45.f2,.string t45.f3,.string t45.f4,.bool false,.U 0,.U 0,.string ka,.string ka,.I 0,.I 0,.I 0,.Z,.U 0,.U 0,.bool false]] cR λxw cX=>aq.EX λt47=>xw=t47.agg/\aV cX (.cells aq.S.z.arr T.aq) λb dB=>aq.dW dB (AA b 0) t47 λff=>Cl F.jA #[] ff λAU cQ=>az.EX λt49=>AU=t49.agg/\Cl F.mJ #[.pointer pR,.I 2,.agg #[.U 1,.I 1,.bool t49.f0,.U t49.f1,.U t49.f2,.string t49.f3,.string t49.f4,.bool false,.U 0,.U 0,.string ka,.string ka,.I 0,.I 0,.I 0,.Z,.U 0,.U 0,.bool false]] cQ λDN cW=>aq.EX λt51=>DN=t51.agg/\aV cW (.cells aq.S.z.arr T.aq) λcE dE=>aq.dW dE (AA cE 0) t51 λdG=>Cl F.jA #[] dG λEK fD=>az.EX λt53=>EK=t53.agg/\Cl F.jA #[] fD λSQ gE=>az.EX λt54=>SQ=t54.agg/\aV gE (.cells #[.int .u8 120] T.uint8) λeZ gX=>aX Tryz.prog (convert T.du T.du (.slice (some (AA eZ 0)) 1 1)) gX λDd gR=>Vl Dd λaeq aer aes=>Cl F.mJ #[.pointer pR,.I 1,.agg #[.U 2,.I 4,.bool t53.f0,.U t53.f1,.U t53.f2,.string t53.f3,.string t53.f4,.bool t54.f0,.U t54.f1,.U t54.f2,.string t54.f3,.string t54.f4,.I 0,.I 0,.I 0,.slice aeq aer aes,.U 9,.U 0,.bool false]] gR λEL fi=>aq.EX λt58=>EL=t58.agg/\aV fi (.cells aq.S.z.arr T.aq) λjR jn=>aq.dW jn (AA jR 0) t58 λju=>Cl F.jA #[] ju λQj sL=>az.EX λt60=>Qj=t60.agg/\Cl F.mJ #[.pointer pR,.I 1,.agg #[.U 2,.I 6,.bool t60.f0,.U t60.f1,.U t60.f2,.string t60.f3,.string t60.f4,.bool false,.U 0,.U 0,.string ka,.string ka,.I 0,.I 0,.I 0,.Z,.U 0,.U 0,.bool false]] sL λVG rM=>aq.EX λt62=>VG=t62.agg/\aV rM (.cells aq.S.z.arr T.aq) λpI qL=>aq.dW qL (AA pI 0) t62 λvi=>Cl F.jA #[] vi λVH zZ=>az.EX λt64=>VH=t64.agg/\Cl F.mJ #[.pointer pR,.I 3,.agg #[.U 2,.I 6,.bool t64.f0,.U t64.f1,.U t64.f2,.string t64.f3,.string t64.f4,.bool false,.U 0,.U 0,.string ka,.string ka,.I 0,.I 0,.I 0,.Z,.U 0,.U 0,.bool false]] zZ λVI BM=>aq.EX λt66=>VI=t66.agg/\aV BM (.cells aq.S.z.arr T.aq) λBA BN=>aq.dW BN (AA BA 0) t66 λGa=>Cl F.mJ #[.pointer none,.I 1,.agg #[.U 2,.I 0,.bool false,.U 0,.U 0,.string ka,.string ka,.bool false,.U 0,.U 0,.string ka,.string ka,.I 0,.I 0,.I 0,.Z,.U 0,.U 0,.bool false]] Ga λaen IW=>aq.EX λt68=>aen=t68.agg/\aV IW (.cells aq.S.z.arr T.aq) λSP He=>aq.dW He (AA SP 0) t68 λsr=> ∃t70,ak sr (AA b 1)=some (.I t70)/\if(t70==0) then∃t74,ak sr (AA b 0)=some (.U t74)/\if(t74==1) then∃t79,ak sr (AA cE 1)=some (.I t79)/\if(t79==11) then∃t84,ak sr (AA jR 1)=some (.I t84)/\if(t84==0) then∃t89,ak sr (AA jR 2)=some (.I t89)/\if(t89==1) then∃t94,ak sr (AA pI 2)=some (.I t94)/\if(t94==1) then Hi sr pI 3 λt99=> ∃t101,ak sr (AA jR 3)=some (.I t101)/\if(t99==t101) then∃t106,ak sr (AA BA 1)=some (.I t106)/\if(t106==16) then∃t111,ak sr (AA SP 1)=some (.I t111)/\if(t111==6) then aP pR λpF=>LO sr (pF.add 3) λt118=>Cl F.mg #[.pointer t118] sr λaeo IX=> ∃ak7 aet ak8,aeo=.slice ak7 aet ak8/\R (.bool ((aet:Int)==1)) IX else R (.bool false) sr else R (.bool false) sr else R (.bool false) sr else R (.bool false) sr else R (.bool false) sr else R (.bool false) sr else R (.bool false) sr else R (.bool false) sr else R (.bool false) sr) (λJ=>if(tD !=0) then J true aZ else if pR.isNone then J true aZ else aP pR λrZ=> ∃t24,ak aZ rZ=some (.pointer t24)/\if t24.isNone then J true aZ else aP pR λvT=> ∃t31,ak aZ (vT.add 3)=some (.pointer t31)/\J t31.isNone aZ)):Cl F.qc #[] h R:=aS (lq (lq (sq (sq (.join [(33,.one (.bool))] lf) (cq ll lf)) (lq (lq (lq (lq (lq (lq (lq (lq ll))))))))))) Tryz.func11 hv
theorem rY.walk {kr:Int} {later:Int} {hH:bV} {fT hN:Nat} (hv:Cl F.uu #[] h λv aR=>az.EX λt19=>v=t19.agg/\Cl F.wv #[t19.agg] aR λeK aZ=> ∃rU uk,eK=.tuple #[.pointer rU,.I uk]/\aK (λ(t39:Bool) (bK:aj)=>if t39 then if(uk==0) then Cl F.sC #[.pointer rU] bK λgS cC=> ∃t44,gS=.bool t44/\if t44 then Cl F.qc #[] cC λkV cK=> ∃t47,kV=.bool t47/\R (.bool t47) cK else R (.bool false) cC else R (.bool false) bK else aP rU λa=>LO bK a λt52=>Cl F.gI #[.pointer t52,.U 5] bK λou cR=> ∃Sz Ld,ou=.tuple #[.I Sz,.I Ld]/\aP rU λkz=>LO cR kz λt57=>Cl F.gI #[.pointer t57,.U 6] cR λxw cX=> ∃NS NT,xw=.tuple #[.I NS,.I NT]/\Cl F.jA #[] cX λAU dB=>az.EX λt60=>AU=t60.agg/\Cl F.mJ #[.pointer rU,.I 1,.agg #[.U 1,.I 1,.bool t60.f0,.U t60.f1,.U t60.f2,.string t60.f3,.string t60.f4,.bool false,.U 0,.U 0,.string ka,.string ka,.I 0,.I 0,.I 0,.Z,.U 0,.U 0,.bool false]] dB λDN ff=>aq.EX λt62=>DN=t62.agg/\aV ff (.cells aq.S.z.arr T.aq) λb cQ=>aq.dW cQ (AA b 0) t62 λcW=>aP rU λpF=>LO cW (pF.add 2) λt66=>Cl F.jA #[] cW λEK dE=>az.EX λt67=>EK=t67.agg/\Kp cW dE [(some (pF.add 2))]/\Cl F.nT #[.pointer t66,t67.agg,.slice hH fT hN,.U 5000] dE λSQ dG=> ∃Wm Wn,SQ=.tuple #[.I Wm,.I Wn]/\Cl F.jA #[] dG λDd fD=>az.EX λt74=>Dd=t74.agg/\Cl F.mJ #[.pointer rU,.I 1,.agg #[.U 2,.I 7,.bool t74.f0,.U t74.f1,.U t74.f2,.string t74.f3,.string t74.f4,.bool false,.U 0,.U 0,.string ka,.string ka,.I 0,.I 0,.I (wrap .i64 (1+(wrap .i64 kr))),.Z,.U 0,.U 0,.bool false]] fD λEL gE=>aq.EX λt77=>EL=t77.agg/\aV gE (.cells aq.S.z.arr T.aq) λcE gX=>aq.dW gX (AA cE 0) t77 λgR=>Cl F.mJ #[.pointer rU,.I 2,.agg #[.U 3,.I 8,.bool false,.U 0,.U 0,.string ka,.string ka,.bool false,.U 0,.U 0,.string ka,.string ka,.I 0,.I 1,.I 0,.Z,.U 0,.U 0,.bool false]] gR λQj fi=>aq.EX λt80=>Qj=t80.agg/\aV fi (.cells aq.S.z.arr T.aq) λeZ jn=>aq.dW jn (AA eZ 0) t80 λju=>Cl F.mJ #[.pointer rU,.I 2,.agg #[.U 4,.I 9,.bool false,.U 0,.U 0,.string ka,.string ka,.bool false,.U 0,.U 0,.string ka,.string ka,.I 0,.I 1,.I 0,.Z,.U 0,.U 0,.bool false]] ju λVG sL=>aq.EX λt83=>VG=t83.agg/\aV sL (.cells aq.S.z.arr T.aq) λjR rM=>aq.dW rM (AA jR 0) t83 λqL=>Cl F.jA #[] qL λVH vi=>az.EX λt85=>VH=t85.agg/\Cl F.mJ #[.pointer rU,.I 2,.agg #[.U 5,.I 7,.bool t85.f0,.U t85.f1,.U t85.f2,.string t85.f3,.string t85.f4,.bool false,.U 0,.U 0,.string ka,.string ka,.I 0,.I 0,.I 1,.Z,.U 0,.U 0,.bool false]] vi λVI zZ=>aq.EX λt87=>VI=t87.agg/\aV zZ (.cells aq.S.z.arr T.aq) λpI BM=>aq.dW BM (AA pI 0) t87 λBN=>Cl F.lT #[.pointer rU,.U (wrap .u64 later)] BN λaen Ga=>Vi aen λt91=>Cl F.mJ #[.pointer rU,.I 1,.agg #[.U 6,.I 8,.bool false,.U 0,.U 0,.string ka,.string ka,.bool false,.U 0,.U 0,.string ka,.string ka,.I 0,.I 1,.I 0,.Z,.U 0,.U 0,.bool false]] Ga λaeo IW=>aq.EX λt94=>aeo=t94.agg/\aV IW (.cells aq.S.z.arr T.aq) λBA He=>aq.dW He (AA BA 0) t94 λsr=>Cl F.mJ #[.pointer rU,.I 1,.agg #[.U 7,.I 8,.bool false,.U 0,.U 0,.string ka,.string ka,.bool false,.U 0,.U 0,.string ka,.string ka,.I 0,.I 1,.I 0,.Z,.U 0,.U 0,.bool false]] sr λak2 IX=>aq.EX λt97=>ak2=t97.agg/\aV IX (.cells aq.S.z.arr T.aq) λSP SR=>aq.dW SR (AA SP 0) t97 λLs=>aP rU λrZ=>LO Ls (rZ.add 2) λt101=>Cl F.kY #[.pointer t101] Ls λak4 Qi=> ∃aeu aev aew aex aey aez,ak4=.agg #[.I aeu,.I aev,.I aew,.I aex,.I aey,.I aez]/\aV Qi (.cells #[.I 0,.I 0,.I 0,.I 0,.I 0,.I 0] T.gF) λb_7 IY=>gF.ST IY (AA b_7 0) aeu aev aew aex aey aez λMt=>if(decide ((wrap .i64 later)≥(wrap .i64 (1+(wrap .i64 kr))))) then Cl F.qc #[] Mt λare tW=> ∃t107,are=.bool t107/\if t107 then∃t110,ak tW (AA b 1)=some (.I t110)/\if(t110==0) then∃t115,ak tW (AA cE 2)=some (.I t115)/\if(t115==1) then∃t120,ak tW (AA eZ 1)=some (.I t120)/\if(t120==14) then∃t125,ak tW (AA jR 1)=some (.I t125)/\if(t125==14) then∃t130,ak tW (AA pI 1)=some (.I t130)/\if(t130==13) then∃t135,ak tW (AA BA 1)=some (.I t135)/\if(t135==14) then∃t140,ak tW (AA SP 1)=some (.I t140)/\if(t140==14) then gF.LD tW (AA b_7 0) λak9 ala alb alc ald ale=> ∃(eq:Bool),Hq Tryz.prog T.gF (.agg #[.I ak9,.I ala,.I alb,.I alc,.I ald,.I ale]) (.agg #[.I 1,.I 1,.I 0,.I 0,.I 0,.I 0]) eq/\R (.bool eq) tW else R (.bool false) tW else R (.bool false) tW else R (.bool false) tW else R (.bool false) tW else R (.bool false) tW else R (.bool false) tW else R (.bool false) tW else R (.bool false) tW else Cl F.qc #[] Mt λarf xM=> ∃t148,arf=.bool t148/\if t148 then∃t151,ak xM (AA b 1)=some (.I t151)/\if(t151==0) then∃t156,ak xM (AA cE 2)=some (.I t156)/\if(t156==1) then Hl xM cE 5 λalf alg alh=> ∃(t162:ByteArray),DQ Tryz.prog T.du T.string (.slice alf alg alh) xM t162/\∃(t164:ByteArray),DQ Tryz.prog T.du T.string (.slice hH fT hN) xM t164/\if(t162.toList==t164.toList) then∃t169,ak xM (AA eZ 1)=some (.I t169)/\if(t169==14) then∃t174,ak xM (AA jR 1)=some (.I t174)/\if(t174==14) then∃t179,ak xM (AA pI 1)=some (.I t179)/\if(t179==13) then∃t184,ak xM (AA BA 1)=some (.I t184)/\if(t184==0) then∃t189,ak xM (AA SP 1)=some (.I t189)/\if(t189==4) then gF.LD xM (AA b_7 0) λali alj alk alm aln alo=> ∃(eq_1:Bool),Hq Tryz.prog T.gF (.agg #[.I ali,.I alj,.I alk,.I alm,.I aln,.I alo]) (.agg #[.I 1,.I 0,.I 0,.I 1,.I 0,.I 0]) eq_1/\R (.bool eq_1) xM else R (.bool false) xM else R (.bool false) xM else R (.bool false) xM else R (.bool false) xM else R (.bool false) xM else R (.bool false) xM else R (.bool false) xM else R (.bool false) xM else R (.bool false) xM) (λJ=>if(uk !=0) then J true aZ else Cl F.sC #[.pointer rU] aZ λarh aei=> ∃t27,arh=.bool t27/\if(!t27) then J true aei else if(decide ((fT:Int)<1)) then J true aei else J (decide ((fT:Int)>300)) aei)):Cl F.rY #[.int .u8 kr,.int .u8 later,.slice hH fT hN] h R:=aS (lq (lq (sq (sq (.join [(39,.one (.bool))] lf) (cq ll lf)) (lq (lq (lq (sq (.qX (jh 4 0 (.op 5 (.op 4 (.op 6 .done))))) (lq (lq (lq (lq (lq (lq (lq (lq (lq (sq (lq (cq ll lf)) ll))))))))))))))))) Tryz.func3 hv
end
section
namespace Ask
open qJ (Ev dk)
open gK (SS Good Pt GX Mk)
open Bn (oZ lD oB Lx Qs)
variable {h h':aj} {R:iI} {s k m:Nat} {X:Ft} {I:GX} {σ:SS} {e:Ev} {tm sq:Nat}
theorem Ti (now gJ:Nat) (h1:now<=1099511627776) (h2:gJ<=1099511627776) (hk:R (.U (uD now gJ:Int)) h):Cl F.sE #[.U (now:Int),.U (gJ:Int)] h R:=by
 refine sE.walk ?_;rw[wrap_u64 (by omega) (by omega)];have:(if(1099511627776:Int)<(now:Int)+(gJ:Int) then 1099511627776 else(now:Int)+(gJ:Int))=(uD now gJ:Int):=by unfold uD;split<;>omega
 rw[this];exact hk
theorem aeA (M:Mk h m e tm sq) (now:Nat) (hn:now<=1099511627776) (hs:sq<=1099511627776)
  (k1:tm<now->∀h',Mk h' m e now 0->Fr (λy=>y=m) h h'->R (.tuple #[(⟨e,now,0⟩:oZ).s.agg,.I 0]) h')
  (k2: ¬tm<now->sq<1099511627776->∀h',Mk h' m e tm (sq+1)->Fr (λy=>y=m) h h'->R (.tuple #[(⟨e,tm,sq+1⟩:oZ).s.agg,.I 0]) h')
  (k3: ¬tm<now->1099511627776<=sq->∀h',Fr No h h'->R (.tuple #[oZ.zero.s.agg,.I 5]) h'):Cl F.od #[pt m,.U (now:Int)] h R:=by
 refine od.walk (ah.dI λb h1 eb hb f1=>aK.of λJ hJ=>aK.of λJ1 pB=> ?_);have M1:=f1.get M id;have zm:=aI M;have nb:b≠m:=by omega
 refine⟨_,af M1 rfl,?_⟩;subst pB;dsimp only;refine aK.of λJ2 zY=> ?_
 rw[dM];refine aK.of λJ3 SN=> ?_
 rw[dM];refine⟨_,af M1 rfl,aK.of λJ4 Yx=> ?_⟩;have fin: ∀g (t q:Nat),Mk g m e t q->Fr (λy=>y=m) h1 g->(∀h',Mk h' m e t q->Fr (λy=>y=m) h h'->R (.tuple #[(⟨e,t,q⟩:oZ).s.agg,.I 0]) h')->J4 g:=by
  intro g t q Mg fg hk;subst Yx;subst SN;subst zY;subst hJ;refine Lx ⟨e,t,q⟩ Mg rfl rfl rfl rfl rfl rfl rfl (Qs ⟨e,t,q⟩ (fg.get hb nb) λh4 f4=>hk h4 (f4.get Mg (λe=>nb e.symm)) ?_);exact(Fr.no f1 fg).trans f4 (λ_ _=>id) (λc hc e=>by omega)
 by_cases c1:tm<now
 ·rw[jy];refine bM M1 (by simp) λh2 a1 a2 a3=>bM a1 (by simp) λh3 b1 b2 b3=> ?_
  exact fin h3 now 0 b1 ((Fr.of_eq (S:=λy=>y=m) a2 a3).tt (Fr.of_eq b2 b3)) (k1 c1)
 rw[dM];refine⟨_,af M1 rfl,?_⟩;by_cases c2:1099511627776<=sq
 ·rw[ag (by simp only[bf];omega)];exact Qs .zero hb λh4 f4=>k3 c1 c2 h4 (f1.fresh f4 (λy e=>by omega))
 rw[dM];refine⟨_,af M1 rfl,?_⟩;rw[wrap_u64 (by omega) (by omega)];refine bM M1 (by simp) λh2 a1 a2 a3=> ?_
 have M2:Mk h2 m e tm (sq+1):=by unfold Mk;rw[Int.natCast_add];exact a1
 exact fin h2 tm (sq+1) M2 (Fr.of_eq a2 a3) (k2 c1 (by omega))
theorem Fz (a b:oZ) (hl:a.tm<b.tm\/a.tm=b.tm/\a.sq<b.sq) (hk: ∀h',Fr No h h'->R (.bool true) h'):Cl F.uZ #[a.s.agg,b.s.agg] h R:=by
 refine uZ.walk (ah.dI λb1 h1 uh dx f1=>ah.dI λb2 h2 FH fJ f2=>⟨_,af (f2.get dx id) rfl,_,af fJ rfl,?_⟩);have rT:=f2.get dx id;have hk:=hk h2 (f1.tt f2);by_cases c1:a.tm=b.tm
 ·rw[ai (by show¬(((a.tm:Int)) !=(b.tm:Int))=true;rw[c1];simp)];refine⟨_,af rT rfl,_,af fJ rfl,?_⟩;have c2:a.sq<b.sq:=by omega
  rw[ag (by show(((a.sq:Int)) !=(b.sq:Int))=true;simp;omega)];refine⟨_,af rT rfl,_,af fJ rfl,?_⟩;rw[ay (by show(a.sq:Int)<(b.sq:Int);omega)];exact hk
 ·rw[ag (by show(((a.tm:Int)) !=(b.tm:Int))=true;simp;omega)];refine⟨_,af rT rfl,_,af fJ rfl,?_⟩;rw[ay (by show(a.tm:Int)<(b.tm:Int);omega)];exact hk
theorem ari (M:Mk h m e tm sq) (x:oZ) (he:x.e=e) {K:aj->Prop} (hk: ∀h',Mk h' m e x.tm x.sq->Fr (λy=>y=m) h h'->K h'):ah.dW h (AA m 0) x.s K:=by
 subst he;exact(show gY (AA m 0) x.s.l 0 h K from wD (off:=0) (ws:= [.bool x.e.vE,.U x.e.node,.U x.e.ma,.string x.e.host,.string x.e.sN,.U (x.tm:Int),.U (x.sq:Int),.bool true]) M (by show 0+7<=8;omega) rfl rfl λh1 d1 d2 d3=>hk h1 d1 (Fr.of_eq d2 λc hc=>d3 c hc))
theorem Tj (M:Mk h m e tm sq) (x:oZ) (he:x.e=e) (hr:lD x=true) (hl:tm<x.tm\/tm=x.tm/\sq<x.sq) (hk: ∀h',Mk h' m e x.tm x.sq->Fr (λy=>y=m) h h'->R (.I 0) h'):Cl F.lX #[pt m,x.s.agg] h R:=by
 refine lX.walk (ah.dI λb h1 eb hb f1=>aK.of λJ hJ=> ?_);have M1:=f1.get M id;have zm:=aI M;refine⟨_,af M1 rfl,?_⟩;subst hJ;dsimp only;rw[dM];refine aK.of λJ1 pB=>ah.jk (x:=x.s) hb (Bn.DC x λh2 f2=>⟨_,rfl,?_⟩)
 have M2:=f2.get M1 id;have fJ:=f2.get hb id;rw[hr,dM];refine oB x.e fJ rfl rfl rfl rfl rfl (oB e M2 rfl rfl rfl rfl rfl ⟨_,qJ.IE (x:=x.e) (y:=e) rfl rfl,?_⟩);subst pB;dsimp only;rw[ay he,dM];refine Lx ⟨e,tm,sq⟩ M2 rfl rfl rfl rfl rfl rfl rfl (ah.jk (x:=x.s) fJ (Fz ⟨e,tm,sq⟩ x hl λh3 f3=>⟨_,rfl,?_⟩));rw[dM];exact ah.jk (x:=x.s) (f3.get fJ id) (ari (f3.get M2 id) x he λh4 M4 f4=>hk h4 M4 (Fr.no (f1.tt (f2.tt f3)) f4))
theorem Pt.mk' (H:Pt h s X I σ):Mk h I.k σ.e σ.tm σ.sq:=by obtain⟨Y,hp,_⟩:=H;exact(hp 5).1
theorem aoX {b:Nat} {y:oZ} (x:Ev) {K:aj->Prop} (hb:ah.jx h b y.s) (hk: ∀h',ah.jx h' b (⟨x,y.tm,y.sq⟩:oZ).s->Fr (λy=>y=b) h h'->K h'):az.dW h (AA b 0) x.s K:=
 (show gY (AA b 0) x.s.l 0 h K from wD (off:=0) (ws:=(⟨x,y.tm,y.sq⟩:oZ).s.l) hb (by show 0+5<=7;omega) rfl rfl λh1 d1 d2 d3=>hk h1 d1 (Fr.of_eq d2 λc hc=>d3 c hc))
theorem FA (H:Pt h s X I σ) (G:gK.Good σ k) (src:Ev) (k1: ∀n,zW σ=some n->∀h',Fr No h h'->R (.tuple #[(⟨src,n.1,n.2⟩:oZ).s.agg,(⟨σ.e,n.1,n.2⟩:oZ).s.agg,.I 0]) h')
  (k2:zW σ=none->∀h',Fr No h h'->R (.tuple #[(⟨src,0,0⟩:oZ).s.agg,oZ.zero.s.agg,.I 5]) h'):Cl F.kj #[pt s,src.s.agg] h R:=by
 refine kj.walk (az.dI λb h1 eb hb f1=>ah.dI λb1 h2 uh dx f2=>ah.dI λb2 h3 FH fJ f3=> ?_);have F3:=f1.tt (f2.tt f3);have H3:=H.on F3;have z1:=f1.1;have z2:=f2.1;have z3:=f3.1;refine⟨_,af H3.dF rfl,gK.XD (Pt.mk' H3) λh4 f4=>ah.ex (⟨σ.e,σ.tm,σ.sq⟩:oZ).s ⟨rfl,ah.j9 (x:=(⟨σ.e,σ.tm,σ.sq⟩:oZ).s) λb3 h6 LQ kT f6=> ?_⟩⟩;have z4:=f4.1;refine oB σ.e kT rfl rfl rfl rfl rfl (gK.Im σ.e (λhm h7 m M7 g7 f7=>⟨_,_,rfl,?_⟩) (λhm=>absurd ⟨G.e.1,G.e.2.1⟩ hm));rw[dM];have F37:=f4.tt (f6.tt f7);have alp:=f7.get kT id;have z6:=f6.1;have z7:=f7.1;have tail: ∀(g:aj) (x:oZ) (q:Int),Fr No h3 g->(∀g',Fr No h g'->R (.tuple #[(⟨src,x.tm,x.sq⟩:oZ).s.agg,x.s.agg,.I q]) g')->
   aV g (.cells ah.S.z.arr T.ah) λpI dG=>
   ah.dW dG (AA pI 0) x.s λfD=>
   ah.dh fD (AA pI 0) λt48=>
   aV fD (.cells ah.S.z.arr T.ah) λBA gE=>
   ah.dW gE (AA BA 0) t48 λgX=>
   az.dh gX (AA b 0) λt49=>
   az.dW gX (AA BA 0) t49 λgR=>
   ah.dh gR (AA BA 0) λt51=>
   ah.dh gR (AA pI 0) λt52=>
   ah.dW gR (AA b1 0) t51 λfi=>
   Kp gR fi [(some (AA pI 0))]/\
   ah.dW fi (AA b2 0) t52 λjn=>
   ah.dh jn (AA b1 0) λia=>
   ah.dh jn (AA b2 0) λadR=>
   R (.tuple #[ia.agg,adR.agg,.I q]) jn:=by
  intro g x q fg hk;refine ah.j9 (x:=x.s) λb4 Dw VA mb f14=>ah.jk mb (ah.j9 (x:=x.s) λb5 vZ eb5 DK f16=> ?_)
  have F16:=fg.tt (f14.tt f16);have zg:=fg.1;have z14:=f14.1;have ne1:b1≠b4:=by have:=aI dx;omega
  have ne2:b1≠b5:=by have:=aI dx;omega
  have ne3:b2≠b1:=by have:=aI dx;omega
  refine oB src (F16.get ((f2.tt f3).get hb id) id) rfl rfl rfl rfl rfl (aoX src DK λQr arj f17=>ah.jk (x:=(⟨src,x.tm,x.sq⟩:oZ).s) arj (ah.jk (x:=x.s) (f17.get (f16.get mb id) (by have:=aI mb;omega)) ?_));have F17:Fr No h3 Qr:=F16.fresh f17 (λy e=>by omega);refine ah.mB (x:=(⟨src,x.tm,x.sq⟩:oZ).s) (F17.get (f3.get dx id) id) λGm d18 f18 _=>⟨Bn.kpb f18 (by simp;omega),ah.mB (x:=x.s) (f18.get (F17.get fJ id) ne3) λh19 d19 f19 _=>ah.jk (x:=(⟨src,x.tm,x.sq⟩:oZ).s) (f19.get d18 ne3.symm) (ah.jk (x:=x.s) d19 (hk h19 ?_))⟩
  exact((F3.tt F17).fresh f18 (λy e=>by omega)).fresh f19 (λy e=>by omega)
 refine aK.of λJ hJ=> ?_
 have key: ∀v,(v=true↔0<σ.tm\/0<σ.sq)->J v h7:=by
  intro v hv;subst hJ;dsimp only;refine aK.of λJ1 pB=> ?_
  have fin: ∀g,Mk g m σ.e σ.tm σ.sq->Fr (λy=>y=m) h7 g->J1 g:=by
   intro g Mg fg;subst pB;have Fg:Fr No h3 g:=F37.fresh fg (λy e=>by omega);have Hg:=H3.on Fg;unfold zW at k1 k2;refine⟨_,af Hg.dF rfl,aeA Mg σ.now G.n G.t.2 (λc1 mF M12 f12=> ?_) (λc1 c2 mF M12 f12=> ?_) (λc1 c2 mF f12=> ?_)⟩
   ·exact ah.ex (⟨σ.e,σ.now,0⟩:oZ).s ⟨_,rfl,tail mF ⟨σ.e,σ.now,0⟩ 0 (Fg.fresh f12 (λy e=>by omega)) (k1 (σ.now,0) (ag c1))⟩
   ·exact ah.ex (⟨σ.e,σ.tm,σ.sq+1⟩:oZ).s ⟨_,rfl,tail mF ⟨σ.e,σ.tm,σ.sq+1⟩ 0 (Fg.fresh f12 (λy e=>by omega)) (k1 (σ.tm,σ.sq+1) ((ai c1).trans (dM)))⟩
   ·exact ah.ex oZ.zero.s ⟨_,rfl,tail mF .zero 5 (Fg.tt f12) (k2 ((ai c1).trans (ag c2)))⟩
  cases v with
  |true=>
   rw[ag rfl];have hr:lD ⟨σ.e,σ.tm,σ.sq⟩=true:=by unfold lD;rw[G.e.1,ay G.t.1,ay G.t.2];rfl
   exact ah.jk (x:=(⟨σ.e,σ.tm,σ.sq⟩:oZ).s) alp (Tj M7 ⟨σ.e,σ.tm,σ.sq⟩ rfl hr (by have:=hv.1 rfl;show 0<σ.tm\/0=σ.tm/\0<σ.sq;omega) λQp M20 f20=>⟨_,rfl,fin Qp M20 f20⟩)
  |false=>
   rw[dM];have c: ¬(0<σ.tm\/0<σ.sq):=λc=>by have:=hv.2 c;cases this
   have e1:σ.tm=0:=by omega
   have e2:σ.sq=0:=by omega
   exact fin h7 (by rw[e1,e2];exact M7) (Fr.refl _ _)
 refine⟨_,af alp rfl,?_⟩;by_cases c:0<σ.tm
 ·rw[ag (ay (by show(σ.tm:Int)>0;omega))];exact key true ⟨λ_=> .inl c,λ_=>rfl⟩
 ·rw[ai (by simp only[bf];show¬(σ.tm:Int)>0;omega)];refine⟨_,af alp rfl,key _ ⟨λe=> .inr (by have e:(σ.sq:Int)>0:=of_decide_eq_true e;omega),λe=>ay (by show(σ.sq:Int)>0;omega)⟩⟩
end Ask
end
section
variable {h:aj} {R:iI}
theorem sY.walk {a:aD.S} {b:aD.S} (hv:aV h (.cells a.arr T.aD) λcE aR=>aV aR (.cells b.arr T.aD) λeZ aZ=>Hu aZ cE 0 λt6=> ∃t8,ak aZ (AA eZ 0)=some (.U t8)/\if(t6==t8) then Hi aZ cE 1 λt12=> ∃t14,ak aZ (AA eZ 1)=some (.I t14)/\if(t12==t14) then az.dh aZ (AA cE 2) λt19=>az.dh aZ (AA eZ 2) λt21=> ∃(eq:Bool),Hq Tryz.prog T.az (t19.agg) (t21.agg) eq/\if eq then az.dh aZ (AA cE 7) λt26=>az.dh aZ (AA eZ 7) λt28=> ∃(eq_1:Bool),Hq Tryz.prog T.az (t26.agg) (t28.agg) eq_1/\if eq_1 then Hi aZ cE 12 λt33=> ∃t35,ak aZ (AA eZ 12)=some (.I t35)/\if(t33==t35) then Hi aZ cE 13 λt40=> ∃t42,ak aZ (AA eZ 13)=some (.I t42)/\if(t40==t42) then Hi aZ cE 14 λt47=> ∃t49,ak aZ (AA eZ 14)=some (.I t49)/\if(t47==t49) then Hl aZ cE 15 λIc CT KM=>Hl aZ eZ 15 λaeq aer aes=>Cl F.kf #[.slice Ic CT KM,.slice aeq aer aes] aZ λv bK=> ∃t57,v=.bool t57/\if t57 then Hu bK cE 16 λt61=> ∃t63,ak bK (AA eZ 16)=some (.U t63)/\if(t61==t63) then Hu bK cE 17 λt68=> ∃t70,ak bK (AA eZ 17)=some (.U t70)/\if(t68==t70) then Hb bK cE 18 λt75=> ∃t77,ak bK (AA eZ 18)=some (.bool t77)/\R (.bool (t75==t77)) bK else R (.bool false) bK else R (.bool false) bK else R (.bool false) bK else R (.bool false) aZ else R (.bool false) aZ else R (.bool false) aZ else R (.bool false) aZ else R (.bool false) aZ else R (.bool false) aZ else R (.bool false) aZ):Cl F.sY #[a.agg,b.agg] h R:=aS (lq ll) Tryz.func80 hv
theorem uW.walk {x:aD.S} (hv:aV h (.cells x.arr T.aD) λb aR=>aV aR (.cells aD.S.z.arr T.aD) λcE aZ=>Hu aZ b 0 λt5=>Hi aZ b 1 λt7=>aV aZ (.cells aD.S.z.arr T.aD) λeZ bK=>aD.dW bK (AA eZ 0) ⟨t5,t7,false,0,0,ka,ka,false,0,0,ka,ka,0,0,0,none,0,0,0,0,false⟩ λcC=>Hi cC b 1 λt10=>aK (λ(cK:aj)=>aD.dh cK (AA eZ 0) λt68=>aD.dW cK (AA cE 0) t68 λcR=>aD.dh cR (AA cE 0) λr0=>R (r0.agg) cR) (λJ=>aK (λ(t11:Bool) (cX:aj)=>aK (λ(dB:aj)=>J dB) (λBp=>if t11 then az.dh cX (AA b 2) λt15=>Hi cX b 12 λt17=>az.dW cX (AA eZ 2) t15 λff=>Kp cX ff [(some (AA b 12))]/\aH ff (AA eZ 12) (.I t17) λcQ=>Bp cQ else aK (λ(t20:Bool) (cW:aj)=>aK (λ(dE:aj)=>Bp dE) (λJ_4=>if t20 then az.dh cW (AA b 2) λt24=>az.dW cW (AA eZ 2) t24 λdG=>J_4 dG else aK (λ(fD:aj)=>J_4 fD) (λJ_5=>if(t10==4) then az.dh cW (AA b 2) λt29=>az.dh cW (AA b 7) λt31=>Hl cW b 15 λrG pP rH=>Hu cW b 16 λt35=>Hb cW b 18 λt37=>az.dW cW (AA eZ 2) t29 λgE=>Kp cW gE [(some (AA b 18)),(some (AA b 16)),(some (AA b 15)),(some (AA b 7))]/\az.dW gE (AA eZ 7) t31 λgX=>Kp gE gX [(some (AA b 18)),(some (AA b 16)),(some (AA b 15))]/\aH gX (AA eZ 15) (.slice rG pP rH) λgR=>Kp gX gR [(some (AA b 18)),(some (AA b 16))]/\aH gR (AA eZ 16) (.U t35) λfi=>Kp gR fi [(some (AA b 18))]/\aH fi (AA eZ 18) (.bool t37) λjn=>J_5 jn else aK (λ(t43:Bool) (ju:aj)=>aK (λ(sL:aj)=>J_5 sL) (λJ_7=>if t43 then∃t48,ak ju (AA b 13)=some (.I t48)/\aH ju (AA eZ 13) (.I t48) λrM=>J_7 rM else aK (λ(qL:aj)=>J_7 qL) (λJ_8=>if(t10==7) then az.dh ju (AA b 2) λt53=>Hi ju b 14 λt55=>az.dW ju (AA eZ 2) t53 λvi=>Kp ju vi [(some (AA b 14))]/\aH vi (AA eZ 14) (.I t55) λzZ=>J_8 zZ else aK (λ(BM:aj)=>J_8 BM) (λJ_9=>if(t10==10) then∃t61,ak ju (AA b 18)=some (.bool t61)/\aH ju (AA eZ 18) (.bool t61) λBN=>J_9 BN else aK (λ(Ga:aj)=>J_9 Ga) (λTk=>if(t10==12) then∃t66,ak ju (AA b 17)=some (.U t66)/\aH ju (AA eZ 17) (.U t66) λIW=>Tk IW else Tk ju))))) (λJ_6=>if(t10==5) then J_6 (t10==5) cW else aK (λ(CG:Bool) (He:aj)=>J_6 CG He) (λMw=>if(t10==8) then Mw (t10==8) cW else Mw (t10==9) cW))))) (λGH=>if(t10==2) then GH (t10==2) cX else GH (t10==6) cX))) (λjo=>if(t10==1) then jo (t10==1) cC else jo (t10==3) cC))):Cl F.uW #[x.agg] h R:=aS (lq (lq (sq (lq (.join [] (bq (sq (lq (.join [(11,.one (.bool))] (cq lf lf))) (.join [] (cq (pK 8) (sq (lq (.join [(20,.one (.bool))] (cq lf lf))) (.join [] (cq lf (lq (.join [] (cq (pK 20) (sq (lq (.join [(43,.one (.bool))] (cq lf (lq (.join [(43,.one (.bool))] (cq lf lf)))))) (.join [] (cq lf (lq (.join [] (cq (pK 8) (lq (.join [] (cq lf (lq (.join [] (cq lf lf)))))))))))))))))))))))) ll))) Tryz.func81 hv
theorem jD.walk {x:az.S} (hv:aV h (.cells x.arr T.az) λb aR=>az.dh aR (AA b 0) λt3=>Cl F.kF #[t3.agg] aR λv aZ=> ∃t4,v=.bool t4/\if t4 then az.dh aZ (AA b 0) λt6=> ∃(eq:Bool),Hq Tryz.prog T.az (t6.agg) (az.S.z.agg) eq/\R (.bool (!eq)) aZ else R (.bool false) aZ):Cl F.jD #[x.agg] h R:=aS (lq ll) Tryz.func139 hv
theorem rk.walk {x:aD.S} (hv:aV h (.cells x.arr T.aD) λb aR=>Hi aR b 1 λt4=>aK (λ(t5:Bool) (aZ:aj)=>if t5 then az.dh aZ (AA b 2) λt9=>Cl F.jD #[t9.agg] aZ λv bK=> ∃t10,v=.bool t10/\if t10 then∃t13,ak bK (AA b 12)=some (.I t13)/\if(decide (t13≥0)) then∃t18,ak bK (AA b 12)=some (.I t18)/\R (.bool (decide (t18<=2))) bK else R (.bool false) bK else R (.bool false) bK else aK (λ(t21:Bool) (cC:aj)=>if t21 then az.dh cC (AA b 2) λt25=>Cl F.jD #[t25.agg] cC λeK cK=> ∃t26,eK=.bool t26/\R (.bool t26) cK else if(t4==4) then az.dh cC (AA b 2) λt30=>Cl F.jD #[t30.agg] cC λgS cR=> ∃t31,gS=.bool t31/\if t31 then az.dh cR (AA b 7) λt34=>Cl F.jD #[t34.agg] cR λkV cX=> ∃t35,kV=.bool t35/\if t35 then∃ot kI oH,ak cX (AA b 15)=some (.slice ot kI oH)/\if(decide ((kI:Int)<=200)) then∃t45,ak cX (AA b 16)=some (.U t45)/\if(decide (t45≥1)) then∃t50,ak cX (AA b 16)=some (.U t50)/\R (.bool (decide (t50<=1099511627776))) cX else R (.bool false) cX else R (.bool false) cX else R (.bool false) cX else R (.bool false) cR else aK (λ(t53:Bool) (dB:aj)=>if t53 then∃t58,ak dB (AA b 13)=some (.I t58)/\if(decide (t58≥1)) then∃t62,ak dB (AA b 13)=some (.I t62)/\R (.bool (decide (t62<=1099511627776))) dB else R (.bool false) dB else if(t4==7) then az.dh dB (AA b 2) λt68=>Cl F.jD #[t68.agg] dB λou ff=> ∃t69,ou=.bool t69/\if t69 then∃t72,ak ff (AA b 14)=some (.I t72)/\if(decide (t72≥1)) then∃t77,ak ff (AA b 14)=some (.I t77)/\R (.bool (decide (t77<=1000))) ff else R (.bool false) ff else R (.bool false) ff else if(t4==12) then∃t83,ak dB (AA b 17)=some (.U t83)/\if(decide (t83≥1)) then∃t87,ak dB (AA b 17)=some (.U t87)/\R (.bool (decide (t87<=2147483648))) dB else R (.bool false) dB else∃t91,ak dB (AA b 1)=some (.I t91)/\if(t91==10) then R (.bool true) dB else∃t95,ak dB (AA b 1)=some (.I t95)/\R (.bool (t95==11)) dB) (λBp=>if(t4==5) then Bp (t4==5) cC else aK (λ(Ld:Bool) (cQ:aj)=>Bp Ld cQ) (λGH=>if(t4==8) then GH (t4==8) cC else GH (t4==9) cC))) (λjo=>if(t4==2) then jo (t4==2) aZ else jo (t4==6) aZ)) (λJ=>if(t4==1) then J (t4==1) aR else J (t4==3) aR)):Cl F.rk #[x.agg] h R:=aS (lq (sq (lq (bq (sq (lq (.join [(5,.one (.bool))] (cq lf lf))) (cq ll (sq (lq (.join [(21,.one (.bool))] (cq lf lf))) (cq ll (lq (cq ll (sq (lq (.join [(53,.one (.bool))] (cq lf (lq (.join [(53,.one (.bool))] (cq lf lf)))))) (cq ll (lq (cq ll (lq (cq ll lf)))))))))))))) ll)) Tryz.func79 hv
theorem pk.walk {x:aD.S} (hv:aV h (.cells x.arr T.aD) λb aR=> ∃t4,ak aR (AA b 0)=some (.U t4)/\if(decide (t4≥1)) then∃t8,ak aR (AA b 0)=some (.U t8)/\if(decide (t8<=1099511627776)) then aD.dh aR (AA b 0) λt12=>Cl F.rk #[t12.agg] aR λv aZ=> ∃t13,v=.bool t13/\Kp aR aZ [(some (AA b 0)),(some (AA b 0))]/\if t13 then aD.dh aZ (AA b 0) λt16=>aD.dh aZ (AA b 0) λt17=>Cl F.uW #[t17.agg] aZ λeK bK=>aD.EX λt18=>eK=t18.agg/\Kp aZ bK [(some (AA b 0)),(some (AA b 0)),(some (AA b 0))]/\Cl F.sY #[t16.agg,t18.agg] bK λgS cC=> ∃t19,gS=.bool t19/\Kp bK cC [(some (AA b 0)),(some (AA b 0))]/\R (.bool t19) cC else R (.bool false) aZ else R (.bool false) aR else R (.bool false) aR):Cl F.pk #[x.agg] h R:=aS (lq (sq (pK 19) lf)) Tryz.func29 hv
end
section
namespace Ask
open qJ (Ev dk uH)
open Bn (oB)
variable {h h' g:aj} {R:iI} {p q:bV} {c d:Nat}
abbrev Rq.s (x:Rq) (p:bV) (c:Nat):aD.S:=⟨x.id,x.kind,x.ep.vE,x.ep.node,x.ep.ma,x.ep.host,x.ep.sN,x.dest.vE,x.dest.node,x.dest.ma,x.dest.host,x.dest.sN,x.uF,x.num,x.kr,p,x.Bf.length,c,x.gJ,x.token,x.on⟩
theorem Hh {P:Prop} {b:Bool} (h1:b=true->P) (h2:b=false->P):P:=by cases b;exact h2 rfl;exact h1 rfl
theorem aeB (x y:Rq) (rx:Row h p (bc x.Bf)) (ry:Row h q (bc y.Bf)) (hk: ∀h',Fr No h h'->R (.bool (decide (x=y))) h'):Cl F.sY #[(x.s p c).agg,(y.s q d).agg] h R:=by
 refine sY.walk (aD.dI λb h1 eb hb f1=>aD.dI λb1 h2 uh dx f2=> ?_);have fJ:=f2.get hb id;have F2:=f1.tt f2;have no: ∀g,Fr No h g->x≠y->R (.bool false) g:=λg fg e=>by have:=hk g fg;rw[decide_eq_false e] at this;exact this
 have ib: ∀(a b:Int) (m n:Nat),a=m->b=n->m≠n->¬(a==b)=true:=λa b m n e1 e2 e=>by rw[e1,e2];simp only[dA];omega
 refine⟨_,af fJ rfl,_,af dx rfl,?_⟩;by_cases c1:x.id=y.id
 case neg=>rw[ai (ib _ _ _ _ rfl rfl c1)];exact no h2 F2 (λe=>c1 (by rw[e]))
 rw[ag (by show((x.id:Int)==(y.id:Int))=true;rw[c1];simp)];refine⟨_,af fJ rfl,_,af dx rfl,?_⟩;by_cases c2:x.kind=y.kind
 case neg=>rw[ai (by show¬(x.kind==y.kind)=true;simpa using c2)];exact no h2 F2 (λe=>c2 (by rw[e]))
 rw[ag (by show(x.kind==y.kind)=true;simpa using c2)];refine oB x.ep fJ rfl rfl rfl rfl rfl (oB y.ep dx rfl rfl rfl rfl rfl ⟨_,qJ.IE (x:=x.ep) (y:=y.ep) rfl rfl,?_⟩);by_cases c3:x.ep=y.ep
 case neg=>rw[ai (by simpa using c3)];exact no h2 F2 (λe=>c3 (by rw[e]))
 rw[ag (by simpa using c3)];refine oB x.dest fJ rfl rfl rfl rfl rfl (oB y.dest dx rfl rfl rfl rfl rfl ⟨_,qJ.IE (x:=x.dest) (y:=y.dest) rfl rfl,?_⟩);by_cases c4:x.dest=y.dest
 case neg=>rw[ai (by simpa using c4)];exact no h2 F2 (λe=>c4 (by rw[e]))
 rw[ag (by simpa using c4)];refine⟨_,af fJ rfl,_,af dx rfl,?_⟩;by_cases c5:x.uF=y.uF
 case neg=>rw[ai (by show¬(x.uF==y.uF)=true;simpa using c5)];exact no h2 F2 (λe=>c5 (by rw[e]))
 rw[ag (by show(x.uF==y.uF)=true;simpa using c5)];refine⟨_,af fJ rfl,_,af dx rfl,?_⟩;by_cases c6:x.num=y.num
 case neg=>rw[ai (by show¬(x.num==y.num)=true;simpa using c6)];exact no h2 F2 (λe=>c6 (by rw[e]))
 rw[ag (by show(x.num==y.num)=true;simpa using c6)];refine⟨_,af fJ rfl,_,af dx rfl,?_⟩;by_cases c7:x.kr=y.kr
 case neg=>rw[ai (by show¬(x.kr==y.kr)=true;simpa using c7)];exact no h2 F2 (λe=>c7 (by rw[e]))
 rw[ag (by show(x.kr==y.kr)=true;simpa using c7)];refine⟨_,_,_,af fJ rfl,_,_,_,af dx rfl,Cb.AY (rx.frame F2 (λ_ _=>id)) (ry.frame F2 (λ_ _=>id)) rfl rfl ⟨_,rfl,?_⟩⟩;by_cases c8:x.Bf=y.Bf
 case neg=>rw[ai (by simpa using c8)];exact no h2 F2 (λe=>c8 (by rw[e]))
 rw[ag (by simpa using c8)];refine⟨_,af fJ rfl,_,af dx rfl,?_⟩;by_cases c9:x.gJ=y.gJ
 case neg=>rw[ai (ib _ _ _ _ rfl rfl c9)];exact no h2 F2 (λe=>c9 (by rw[e]))
 rw[ag (by show((x.gJ:Int)==(y.gJ:Int))=true;rw[c9];simp)];refine⟨_,af fJ rfl,_,af dx rfl,?_⟩;by_cases Wt:x.token=y.token
 case neg=>rw[ai (ib _ _ _ _ rfl rfl Wt)];exact no h2 F2 (λe=>Wt (by rw[e]))
 rw[ag (by show((x.token:Int)==(y.token:Int))=true;rw[Wt];simp)];refine⟨_,af fJ rfl,_,af dx rfl,?_⟩;have:=hk h2 F2;have e:decide (x=y)=(x.on==y.on):=by
  by_cases c11:x.on=y.on
  ·have:x=y:=by cases x;cases y;simp only at c1 c2 c3 c4 c5 c6 c7 c8 c9 Wt c11;simp[c1,c2,c3,c4,c5,c6,c7,c8,c9,Wt,c11]
   rw[ay this,c11];simp
  ·rw[decide_eq_false (λe=>c11 (by rw[e]))];simpa using c11
 rw[e] at this;exact this
theorem Ab (e:Ev) (hk: ∀h',Fr No h h'->R (.bool (ua e)) h'):Cl F.jD #[e.s.agg] h R:=by
 refine jD.walk (az.dI λb h1 eb hb f1=>az.jk (x:=e.s) hb (qJ.ic e λh2 f2=>⟨_,rfl,?_⟩));unfold ua at hk;cases c1:dk e with
 |false=>rw[c1] at hk;rw[dM];exact hk h2 (f1.tt f2)
 |true=>rw[c1] at hk;rw[ag rfl];exact az.jk (x:=e.s) (f2.get hb id) ⟨_,qJ.IE (x:=e) (y:=.zero) rfl rfl,hk h2 (f1.tt f2)⟩
theorem ahq {b:Nat} {y:aD.S} {x:az.S} {K:aj->Prop} (hb:aD.jx h b y) (hk: ∀h',aD.jx h' b { y with f2:=x.f0,f3:=x.f1,f4:=x.f2,f5:=x.f3,f6:=x.f4 } ->Fr (λy=>y=b) h h'->K h'):az.dW h (AA b 2) x K:=
 (show gY (AA b 2) x.l 0 h K from wD (off:=2) (ws:=aD.S.l { y with f2:=x.f0,f3:=x.f1,f4:=x.f2,f5:=x.f3,f6:=x.f4 }) hb (by show 2+5<=19;omega) rfl rfl λh1 d1 d2 d3=>hk h1 d1 (Fr.of_eq d2 λc hc=>d3 c hc))
theorem alq {b:Nat} {y:aD.S} {x:az.S} {K:aj->Prop} (hb:aD.jx h b y) (hk: ∀h',aD.jx h' b { y with f7:=x.f0,f8:=x.f1,f9:=x.f2,f10:=x.f3,f11:=x.f4 } ->Fr (λy=>y=b) h h'->K h'):az.dW h (AA b 7) x K:=
 (show gY (AA b 7) x.l 0 h K from wD (off:=7) (ws:=aD.S.l { y with f7:=x.f0,f8:=x.f1,f9:=x.f2,f10:=x.f3,f11:=x.f4 }) hb (by show 7+5<=19;omega) rfl rfl λh1 d1 d2 d3=>hk h1 d1 (Fr.of_eq d2 λc hc=>d3 c hc))
theorem Df {b i:Nat} {y z:aD.S} {v:Value} {K:aj->Prop} (hb:aD.jx h b y) (hi:i<19) (hz:y.arr.setIfInBounds i v=z.arr) (hk: ∀h',aD.jx h' b z->Fr (λy=>y=b) h h'->K h'):aH h (AA b i) v K:=
 bM hb hi λh1 d1 d2 d3=>hk h1 (by unfold aD.jx;rw[<-hz];exact d1) (Fr.of_eq d2 λc hc=>d3 c hc)
theorem kpo {b b2:Nat} {l:List (bV)} (f:Fr (λy=>y=b2) h h') (ne:b≠b2) (hl: ∀p∈l,p.map (·.block)=some b):Kp h h' l:=f.kps λp hp x e hb=>ne (by have:=hl p hp;rw[e] at this;exact(bz this).symm.trans hb)
theorem bq {n k:Int} :((n==k)=true↔n=k):=dA
theorem Vz (x:Rq) (rx:Row h p (bc x.Bf)) (hk: ∀h' p' c',Row h' p' (bc (BJ x).Bf)->Fr No h h'->R ((BJ x).s p' c').agg h'):Cl F.uW #[(x.s p c).agg] h R:=by
 refine uW.walk (aD.dI λb h1 eb hb f1=>aD.dI λb1 h2 uh dx f2=>⟨_,af (f2.get hb id) rfl,_,af (f2.get hb id) rfl,aD.j9 (x:=(o0 x).s none 0) λb2 h4 FH fJ f4=> ?_⟩);have mb:=(f2.tt f4).get hb id;have F4:=f1.tt (f2.tt f4);have zb:=aI hb;have PU:=aI dx;have z1:=f1.1;have z2:=f2.1;have ne:b≠b2:=by omega
 have ne1:b1≠b2:=by omega
 refine⟨_,af mb rfl,aK.of λJ hJ=>aK.of λJ1 pB=> ?_⟩;have fin: ∀g p' c',aD.jx g b2 ((BJ x).s p' c')->Row h p' (bc (BJ x).Bf)->Fr (λy=>y=b2) h4 g->J g:=by
  intro g p' c' hg hr fg;have Fg:Fr No h2 g:=f4.fresh fg (λy e=>by omega);have G:=(f1.tt f2).tt Fg;subst hJ;refine aD.jk hg (aD.mB (x:=(BJ x).s p' c') (Fg.get dx id) λh6 d6 f6 _=>aD.jk d6 ?_);have G6:=G.fresh f6 (λy e=>by omega);exact hk h6 p' c' (hr.frame G6 (λ_ _=>id)) G6
 have LA:Row h none (bc []):=Row.nil;have key: ∀v,(v=true↔x.kind=1\/x.kind=3)->J1 v h4:=by
  intro v hv;subst pB;dsimp only;refine aK.of λJ2 zY=> ?_
  by_cases k1:x.kind=1\/x.kind=3
  ·have eo:BJ x= { o0 x with ep:=x.ep,uF:=x.uF } :=ag k1;rw[eo] at fin;rw[ag (hv.2 k1)];exact oB x.ep mb rfl rfl rfl rfl rfl ⟨_,af mb rfl,ahq fJ λg1 e1 f5=>⟨kpo f5 ne (by simp),Df (z:=({ o0 x with ep:=x.ep,uF:=x.uF } :Rq).s none 0) e1 (by decide) rfl λg2 e2 f6=>by subst zY;exact fin g2 none 0 e2 LA (f5.tt f6)⟩⟩
  rw[ai (λe=>k1 (hv.1 e))];refine aK.of λJ3 SN=> ?_
  have Tl: ∀v,(v=true↔x.kind=2\/x.kind=6)->J3 v h4:=by
   intro v hv;subst SN;dsimp only;refine aK.of λJ4 Yx=> ?_
   by_cases k2:x.kind=2\/x.kind=6
   ·have eo:BJ x= { o0 x with ep:=x.ep } :=(ai k1).trans (ag k2);rw[eo] at fin;rw[ag (hv.2 k2)];exact oB x.ep mb rfl rfl rfl rfl rfl (ahq fJ λg1 e1 f5=>by subst Yx;subst zY;exact fin g1 none 0 e1 LA f5)
   rw[ai (λe=>k2 (hv.1 e))];refine aK.of λJ5 hJ5=> ?_
   by_cases k4:x.kind=4
   ·have eo:BJ x= { o0 x with ep:=x.ep,dest:=x.dest,Bf:=x.Bf,gJ:=x.gJ,on:=x.on } :=(ai k1).trans ((ai k2).trans (ag k4));rw[eo] at fin;rw[ag (bq.2 k4)];refine oB x.ep mb rfl rfl rfl rfl rfl (oB x.dest mb rfl rfl rfl rfl rfl ⟨_,_,_,af mb rfl,_,af mb rfl,_,af mb rfl,ahq fJ λg1 e1 f5=>⟨kpo f5 ne (by simp),alq e1 λg2 e2 f6=>⟨kpo f6 ne (by simp),?_⟩⟩⟩);refine Df (z:=({ o0 x with ep:=x.ep,dest:=x.dest,Bf:=x.Bf } :Rq).s p c) e2 (by decide) rfl λg3 e3 f7=>⟨kpo f7 ne (by simp),?_⟩
    refine Df (z:=({ o0 x with ep:=x.ep,dest:=x.dest,Bf:=x.Bf,gJ:=x.gJ } :Rq).s p c) e3 (by decide) rfl λg4 e4 f8=>⟨kpo f8 ne (by simp),?_⟩
    refine Df (z:=({ o0 x with ep:=x.ep,dest:=x.dest,Bf:=x.Bf,gJ:=x.gJ,on:=x.on } :Rq).s p c) e4 (by decide) rfl λg5 e5 f9=> ?_
    subst hJ5;subst Yx;subst zY;exact fin g5 p c e5 rx (f5.tt (f6.tt (f7.tt (f8.tt f9))))
   rw[ai (λe=>k4 (bq.1 e))];refine aK.of λJ6 hJ6=> ?_
   have VJ: ∀v,(v=true↔x.kind=5\/x.kind=8\/x.kind=9)->J6 v h4:=by
    intro v hv;subst hJ6;dsimp only;refine aK.of λJ7 hJ7=> ?_
    by_cases k5:x.kind=5\/x.kind=8\/x.kind=9
    ·have eo:BJ x= { o0 x with num:=x.num } :=(ai k1).trans ((ai k2).trans ((ai k4).trans (ag k5)));rw[eo] at fin;rw[ag (hv.2 k5)];exact⟨_,af mb rfl,Df (z:=({ o0 x with num:=x.num } :Rq).s none 0) fJ (by decide) rfl λg1 e1 f5=>by subst hJ7;subst hJ5;subst Yx;subst zY;exact fin g1 none 0 e1 LA f5⟩
    rw[ai (λe=>k5 (hv.1 e))];refine aK.of λJ8 Yy=> ?_
    by_cases k7:x.kind=7
    ·have eo:BJ x= { o0 x with ep:=x.ep,kr:=x.kr } :=(ai k1).trans ((ai k2).trans ((ai k4).trans ((ai k5).trans (ag k7))));rw[eo] at fin;rw[ag (bq.2 k7)];exact oB x.ep mb rfl rfl rfl rfl rfl ⟨_,af mb rfl,ahq fJ λg1 e1 f5=>⟨kpo f5 ne (by simp),Df (z:=({ o0 x with ep:=x.ep,kr:=x.kr } :Rq).s none 0) e1 (by decide) rfl λg2 e2 f6=>by subst Yy;subst hJ7;subst hJ5;subst Yx;subst zY;exact fin g2 none 0 e2 LA (f5.tt f6)⟩⟩
    rw[ai (λe=>k7 (bq.1 e))];refine aK.of λJ9 hJ9=> ?_
    by_cases Na:x.kind=10
    ·have eo:BJ x= { o0 x with on:=x.on } :=(ai k1).trans ((ai k2).trans ((ai k4).trans ((ai k5).trans ((ai k7).trans (ag Na)))));rw[eo] at fin;rw[ag (bq.2 Na)];exact⟨_,af mb rfl,Df (z:=({ o0 x with on:=x.on } :Rq).s none 0) fJ (by decide) rfl λg1 e1 f5=>by subst hJ9;subst Yy;subst hJ7;subst hJ5;subst Yx;subst zY;exact fin g1 none 0 e1 LA f5⟩
    rw[ai (λe=>Na (bq.1 e))];refine aK.of λJ10 aoY=> ?_
    by_cases k12:x.kind=12
    ·have eo:BJ x= { o0 x with token:=x.token } :=(ai k1).trans ((ai k2).trans ((ai k4).trans ((ai k5).trans ((ai k7).trans ((ai Na).trans (ag k12))))));rw[eo] at fin;rw[ag (bq.2 k12)];exact⟨_,af mb rfl,Df (z:=({ o0 x with token:=x.token } :Rq).s none 0) fJ (by decide) rfl λg1 e1 f5=>by subst aoY;subst hJ9;subst Yy;subst hJ7;subst hJ5;subst Yx;subst zY;exact fin g1 none 0 e1 LA f5⟩
    rw[ai (λe=>k12 (bq.1 e))];have eo:BJ x=o0 x:=(ai k1).trans ((ai k2).trans ((ai k4).trans ((ai k5).trans ((ai k7).trans ((ai Na).trans (ai k12))))));rw[eo] at fin;subst aoY;subst hJ9;subst Yy;subst hJ7;subst hJ5;subst Yx;subst zY;exact fin h4 none 0 fJ LA (Fr.refl _ _)
   by_cases k5:x.kind=5
   ·rw[ag (bq.2 k5)];exact VJ _ ⟨λ_=> .inl k5,λ_=>bq.2 k5⟩
   rw[ai (λe=>k5 (bq.1 e))];refine aK.of λJ11 alr=> ?_
   subst alr;dsimp only;by_cases k8:x.kind=8
   ·rw[ag (bq.2 k8)];exact VJ _ ⟨λ_=> .inr (.inl k8),λ_=>bq.2 k8⟩
   rw[ai (λe=>k8 (bq.1 e))];exact VJ _ ⟨λe=> .inr (.inr (bq.1 e)),λe=>bq.2 ((e.resolve_left k5).resolve_left k8)⟩
  by_cases k2:x.kind=2
  ·rw[ag (bq.2 k2)];exact Tl _ ⟨λ_=> .inl k2,λ_=>bq.2 k2⟩
  rw[ai (λe=>k2 (bq.1 e))];exact Tl _ ⟨λe=> .inr (bq.1 e),λe=>bq.2 (e.resolve_left k2)⟩
 by_cases k1:x.kind=1
 ·rw[ag (bq.2 k1)];exact key _ ⟨λ_=> .inl k1,λ_=>bq.2 k1⟩
 rw[ai (λe=>k1 (bq.1 e))];exact key _ ⟨λe=> .inr (bq.1 e),λe=>bq.2 (e.resolve_left k1)⟩
theorem VK (n k:Nat):decide ((n:Int)≥(k:Int))=decide (n≥k):=by by_cases e:n≥k<;>simp[e]<;>omega
theorem aeC (x:Rq) (hk: ∀h',Fr No h h'->R (.bool (tC x)) h'):Cl F.rk #[(x.s p c).agg] h R:=by
 refine rk.walk (aD.dI λb h1 eb hb f1=>⟨_,af hb rfl,aK.of λJ1 pB=> ?_⟩);have key: ∀v,(v=true↔x.kind=1\/x.kind=3)->J1 v h1:=by
  intro v hv;subst pB;dsimp only;by_cases k1:x.kind=1\/x.kind=3
  ·have eo:tC x=(ua x.ep && decide (x.uF≥0) && decide (x.uF<=2)):=ag k1;rw[eo] at hk;rw[ag (hv.2 k1)];refine oB x.ep hb rfl rfl rfl rfl rfl (Ab x.ep λh3 f3=>⟨_,rfl,?_⟩);have kT:=f3.get hb id;have hk:=hk h3 (f1.tt f3);refine Hh (λc1=> ?_) (λc1=> ?_) (b:=ua x.ep)
   ·rw[c1] at hk⊢;rw[ag rfl];refine⟨_,af kT rfl,?_⟩;refine Hh (λc2=> ?_) (λc2=> ?_) (b:=decide (x.uF≥0))
    ·rw[ag c2];rw[c2] at hk;exact⟨_,af kT rfl,hk⟩
    ·rw[ai (by rw[c2];decide)];rw[c2] at hk;exact hk
   ·rw[c1] at hk⊢;rw[dM];exact hk
  rw[ai (λe=>k1 (hv.1 e))];refine aK.of λJ2 zY=> ?_
  have Tl: ∀v,(v=true↔x.kind=2\/x.kind=6)->J2 v h1:=by
   intro v hv;subst zY;dsimp only;by_cases k2:x.kind=2\/x.kind=6
   ·have eo:tC x=ua x.ep:=(ai k1).trans (ag k2);rw[eo] at hk;rw[ag (hv.2 k2)];exact oB x.ep hb rfl rfl rfl rfl rfl (Ab x.ep λh3 f3=>⟨_,rfl,hk h3 (f1.tt f3)⟩)
   rw[ai (λe=>k2 (hv.1 e))];by_cases k4:x.kind=4
   ·have eo:tC x=(ua x.ep && ua x.dest && decide (x.Bf.length<=200) && decide (x.gJ≥1) && decide (x.gJ<=1099511627776)):=(ai k1).trans ((ai k2).trans (ag k4));rw[eo] at hk;rw[ag (bq.2 k4)];refine oB x.ep hb rfl rfl rfl rfl rfl (Ab x.ep λh3 f3=>⟨_,rfl,?_⟩);have kT:=f3.get hb id;refine Hh (λc1=> ?_) (λc1=> ?_) (b:=ua x.ep)
    ·rw[c1] at hk⊢;rw[ag rfl];refine oB x.dest kT rfl rfl rfl rfl rfl (Ab x.dest λh4 f4=>⟨_,rfl,?_⟩);have mb:=f4.get kT id;have hk:=hk h4 (f1.tt (f3.tt f4));refine Hh (λc2=> ?_) (λc2=> ?_) (b:=ua x.dest)
     ·rw[c2] at hk⊢;rw[ag rfl];refine⟨_,_,_,af mb rfl,?_⟩;have e3:decide (((x.s p c).Mc:Int)<=200)=decide (x.Bf.length<=200):=Bn.vD x.Bf.length 200;rw[e3];refine Hh (λc3=> ?_) (λc3=> ?_) (b:=decide (x.Bf.length<=200))
      ·rw[c3] at hk⊢;rw[ag rfl];refine⟨_,af mb rfl,?_⟩;have e4:decide (((x.s p c).f16:Int)≥1)=decide (x.gJ≥1):=VK x.gJ 1;rw[e4];refine Hh (λc4=> ?_) (λc4=> ?_) (b:=decide (x.gJ≥1))
       ·rw[c4] at hk⊢;rw[ag rfl];refine⟨_,af mb rfl,?_⟩;have e5:decide (((x.s p c).f16:Int)<=1099511627776)=decide (x.gJ<=1099511627776):=Bn.vD x.gJ 1099511627776;rw[e5];exact hk
       ·rw[c4] at hk⊢;rw[dM];exact hk
      ·rw[c3] at hk⊢;rw[dM];exact hk
     ·rw[c2] at hk⊢;rw[dM];exact hk
    ·rw[c1] at hk⊢;rw[dM];exact hk h3 (f1.tt f3)
   rw[ai (λe=>k4 (bq.1 e))];refine aK.of λJ3 SN=> ?_
   have Mi:=hk;have hk:=hk h1 f1;have VJ: ∀v,(v=true↔x.kind=5\/x.kind=8\/x.kind=9)->J3 v h1:=by
    intro v hv;subst SN;dsimp only;by_cases k5:x.kind=5\/x.kind=8\/x.kind=9
    ·have eo:tC x=(decide (x.num≥1) && decide (x.num<=1099511627776)):=(ai k1).trans ((ai k2).trans ((ai k4).trans (ag k5)));rw[eo] at hk;rw[ag (hv.2 k5)];refine⟨_,af hb rfl,?_⟩;refine Hh (λc2=> ?_) (λc2=> ?_) (b:=decide (x.num≥1))
     ·rw[ag c2];rw[c2] at hk;exact⟨_,af hb rfl,hk⟩
     ·rw[ai (by rw[c2];decide)];rw[c2] at hk;exact hk
    rw[ai (λe=>k5 (hv.1 e))];by_cases k7:x.kind=7
    ·have eo:tC x=(ua x.ep && decide (x.kr≥1) && decide (x.kr<=1000)):=(ai k1).trans ((ai k2).trans ((ai k4).trans ((ai k5).trans (ag k7))));rw[eo] at Mi;rw[ag (bq.2 k7)];refine oB x.ep hb rfl rfl rfl rfl rfl (Ab x.ep λh3 f3=>⟨_,rfl,?_⟩);have kT:=f3.get hb id;have hk:=Mi h3 (f1.tt f3);refine Hh (λc1=> ?_) (λc1=> ?_) (b:=ua x.ep)
     ·rw[c1] at hk⊢;rw[ag rfl];refine⟨_,af kT rfl,?_⟩;refine Hh (λc2=> ?_) (λc2=> ?_) (b:=decide (x.kr≥1))
      ·rw[ag c2];rw[c2] at hk;exact⟨_,af kT rfl,hk⟩
      ·rw[ai (by rw[c2];decide)];rw[c2] at hk;exact hk
     ·rw[c1] at hk⊢;rw[dM];exact hk
    rw[ai (λe=>k7 (bq.1 e))];by_cases k12:x.kind=12
    ·have eo:tC x=(decide (x.token≥1) && decide (x.token<=2147483648)):=(ai k1).trans ((ai k2).trans ((ai k4).trans ((ai k5).trans ((ai k7).trans (ag k12)))));rw[eo] at hk;rw[ag (bq.2 k12)];refine⟨_,af hb rfl,?_⟩;have e4:decide (((x.s p c).f17:Int)≥1)=decide (x.token≥1):=VK x.token 1;rw[e4];refine Hh (λc4=> ?_) (λc4=> ?_) (b:=decide (x.token≥1))
     ·rw[c4] at hk⊢;rw[ag rfl];refine⟨_,af hb rfl,?_⟩;have e5:decide (((x.s p c).f17:Int)<=2147483648)=decide (x.token<=2147483648):=Bn.vD x.token 2147483648;rw[e5];exact hk
     ·rw[c4] at hk⊢;rw[dM];exact hk
    rw[ai (λe=>k12 (bq.1 e))];have eo:tC x=decide (x.kind=10\/x.kind=11):=(ai k1).trans ((ai k2).trans ((ai k4).trans ((ai k5).trans ((ai k7).trans (ai k12)))));rw[eo] at hk;refine⟨_,af hb rfl,?_⟩;by_cases Na:x.kind=10
    ·rw[ag (bq.2 Na)];rw[ay (.inl Na)] at hk;exact hk
    ·rw[ai (λe=>Na (bq.1 e))];refine⟨_,af hb rfl,?_⟩;have e5:decide (x.kind=10\/x.kind=11)=(x.kind==11):=by by_cases k11:x.kind=11<;>simp[Na,k11]
     rw[e5] at hk;exact hk
   by_cases k5:x.kind=5
   ·rw[ag (bq.2 k5)];exact VJ _ ⟨λ_=> .inl k5,λ_=>bq.2 k5⟩
   rw[ai (λe=>k5 (bq.1 e))];refine aK.of λJ11 alr=> ?_
   subst alr;dsimp only;by_cases k8:x.kind=8
   ·rw[ag (bq.2 k8)];exact VJ _ ⟨λ_=> .inr (.inl k8),λ_=>bq.2 k8⟩
   rw[ai (λe=>k8 (bq.1 e))];exact VJ _ ⟨λe=> .inr (.inr (bq.1 e)),λe=>bq.2 ((e.resolve_left k5).resolve_left k8)⟩
  by_cases k2:x.kind=2
  ·rw[ag (bq.2 k2)];exact Tl _ ⟨λ_=> .inl k2,λ_=>bq.2 k2⟩
  rw[ai (λe=>k2 (bq.1 e))];exact Tl _ ⟨λe=> .inr (bq.1 e),λe=>bq.2 (e.resolve_left k2)⟩
 by_cases k1:x.kind=1
 ·rw[ag (bq.2 k1)];exact key _ ⟨λ_=> .inl k1,λ_=>bq.2 k1⟩
 rw[ai (λe=>k1 (bq.1 e))];exact key _ ⟨λe=> .inr (bq.1 e),λe=>bq.2 (e.resolve_left k1)⟩
theorem ic (x:Rq) (rx:Row h p (bc x.Bf)) (hk: ∀h',Fr No h h'->R (.bool (pD x)) h'):Cl F.pk #[(x.s p c).agg] h R:=by
 refine pk.walk (aD.dI λb h1 eb hb f1=>⟨_,af hb rfl,?_⟩);unfold pD at hk;have e4:decide (((x.s p c).f0:Int)≥1)=decide (x.id≥1):=VK x.id 1;have e5:decide (((x.s p c).f0:Int)<=1099511627776)=decide (x.id<=1099511627776):=Bn.vD x.id 1099511627776;rw[e4];refine Hh (λc1=> ?_) (λc1=> ?_) (b:=decide (x.id≥1))
 case refine_2=>rw[c1] at hk⊢;rw[dM];exact hk h1 f1
 rw[c1] at hk⊢;rw[ag rfl];refine⟨_,af hb rfl,?_⟩;rw[e5];refine Hh (λc2=> ?_) (λc2=> ?_) (b:=decide (x.id<=1099511627776))
 case refine_2=>rw[c2] at hk⊢;rw[dM];exact hk h1 f1
 rw[c2] at hk⊢;rw[ag rfl];refine aD.jk (x:=x.s p c) hb (aeC x λh2 f2=>⟨_,rfl,f2.kp,?_⟩);refine Hh (λc3=> ?_) (λc3=> ?_) (b:=tC x)
 case refine_2=>rw[c3] at hk⊢;rw[dM];exact hk h2 (f1.tt f2)
 rw[c3] at hk⊢;rw[ag rfl];have fJ:=f2.get hb _root_.id;have F2:=f1.tt f2;refine aD.jk (x:=x.s p c) fJ (aD.jk (x:=x.s p c) fJ (Vz x (rx.frame F2 (λ_ _=>_root_.id)) λh3 p' c' r3 f3=>aD.ex ((BJ x).s p' c') ⟨rfl,f3.kp,?_⟩));refine aeB x (BJ x) (rx.frame (F2.tt f3) (λ_ _=>_root_.id)) r3 λh4 f4=>⟨_,rfl,f4.kp,?_⟩
 exact hk h4 (F2.tt (f3.tt f4))
end Ask
end
end Go.Proofs.YtlenamcfacpheaaGreatDoor
namespace Go.Den
section
variable {h:aj}
def idxOf {α:Type} (P:α->Bool) (xs:List α):Int:=match xs.findIdx? P with|some k=>(k:Int)|none=> -1
theorem Tm {α:Type} (P:α->Bool) {xs:List α} {n:Nat} {R:iI} (B:Int->aj->(Bool->aj->Prop)->Prop) (hn:n=xs.length) (hl:xs.length<=1000000000)
  (hb: ∀(k:Nat) g x K,xs[k]? =some x->Fr No h g->(∀g',Fr No h g'->K (P x) g')->B (k:Int) g K)
  (hk: ∀g,Fr No h g->R (.I (idxOf P xs)) g):
  ∃(I:Int->aj->Prop) (mu:Int->aj->Nat),I 0 h/\∀(t:Int) (g:aj),I t g->if(decide (t<(n:Int)))=true then B t g (λq g2=>if q=true then R (.I t) g2 else(I (IntKind.wrap .i64 (t+1)) g2/\mu (IntKind.wrap .i64 (t+1)) g2<mu t g)) else R (.I (-1)) g:=by
 subst hn;refine⟨λi g=>Fr No h g/\∃k:Nat,i=(k:Int)/\k<=xs.length/\∀j (hj:j<xs.length),j<k->¬P xs[j]=true,λi _=>xs.length - i.toNat,⟨Fr.refl _ _,0,rfl,by omega,λj _ hj=>by omega⟩,?_⟩;rintro _ g ⟨f,k,rfl,hkn,kA⟩;by_cases jc:k<xs.length
 ·rw[jy];refine hb k g xs[k] _ (au jc) f λg' f'=> ?_
  by_cases e:P xs[k]=true
  ·rw[ag e];have:idxOf P xs=(k:Int):=by
    unfold idxOf;rw[show xs.findIdx? P=some k from cP.2 ⟨jc,e,λj hj=>kA j (by omega) hj⟩]
   rw[this] at hk;exact hk g' f'
  ·rw[ai e,bL (by omega) (by omega)];refine⟨⟨f',k+1,by omega,by omega,λj hj hjk=> ?_⟩,by show xs.length - Int.toNat ((k:Int)+1)<xs.length - Int.toNat (k:Int);omega⟩;by_cases q:j=k
   ·subst q;exact e
   ·exact kA j hj (by omega)
 ·rw[ai (λq=>jc (by have:=of_decide_eq_true q;omega))];have:idxOf P xs= -1:=by
   unfold idxOf;rw[show xs.findIdx? P=none from dL.2 λx hx=> ?_];obtain⟨j,hj,rfl⟩:=List.getElem_of_mem hx;exact Bool.not_eq_true _▸kA j hj (by omega)
  rw[this] at hk;exact hk g f
end
end Go.Den
namespace Go.Proofs.YtlenamcfacpheaaGreatDoor
open Go.Den
open IntKind (wrap)
open Int (toNat)
section
namespace gK
open lJ (It IV jJ mA)
open qJ (Ev dk uH)
variable {h h':aj} {R:iI} {s k:Nat} {X:Ft} {I:GX} {σ:SS} {p:bV}
theorem Pt.aoZ {n o:Int} {x:It} (H:Pt h s X I σ) (ok:D0 σ.Q) (hf:yA σ.Q x.owner x.d.length=true) (hn:n=(x.d.length:Int)) (ho:o=x.owner)
  (hk: ∀h' X',Pt h' s X' I { σ with Q:=σ.Q++ [x] } ->bN X h X' h'->R (.I 0) h'):Cl F.lY #[pt I.p,.I o,.I n] h R:=by
 subst ho;subst hn;obtain⟨Z,⟨m,P,on⟩,zm,zd,go⟩:=H.use 4;refine vN.afM P ok _ _ (λ_ h' P' f'=> ?_) (λe=>by unfold yA at hf;rw[hf] at e;cases e);rw[WC,show Ho σ.Q+(x.d.length:Int)=Ho (x::σ.Q) by rw[qu];omega] at P';obtain⟨X',H',st,_,_⟩:=go h' Z { σ with Q:=σ.Q++ [x] } ⟨m,Pu.perm P' (fC _ _).symm,on⟩ (bN.E9 (f'.mono λy _ hy=>(on y).1.2 hy)) (λi hi=>Vf _ hi);exact hk h' X' H' st
theorem GJ {owner n:Int} {bs:List UInt8} {l c:Nat} (cG:Nat) (hn:n=(cG:Int)) (H:Pt h s X I σ) (G:Good σ k) (hk8:k<=30000) (hr:Row h p (bc bs)) (hl:l=bs.length) (hb:bs.length<=1000000)
  (hk: ∀h' X',Pt h' s X' I (zV σ owner bs cG)->bN X h X' h'->R (.tuple #[.I (Vn σ owner bs cG),.I (IU σ owner bs cG)]) h'):
  Cl F.oX #[pt s,.I owner,.slice p l c,.U n] h R:=by
 subst hn;subst hl;refine oX.walk (ji H.dF ⟨_,rfl,?_⟩);rw[dM];obtain⟨Z,hz⟩:=H.box;refine aK.of λJ hJ=>⟨_,af H.dF rfl,lJ.PM hz λh2 p2 l2 c2 L2 f2=>⟨_,_,_,rfl,?_⟩⟩
 have ln:=L2.len;have H2:=H.on f2;have no:σ.B.items.length≥16\/yA σ.Q owner bs.length=false->∀g,Fr No h g->R (.tuple #[.I 0,.I 15]) g:=λc g f=>by
  have e1:IU σ owner bs cG=15:=ag c;have e2:Vn σ owner bs cG=0:=ag c;have e3:zV σ owner bs cG=σ:=ai (by rw[e1];decide);rw[e1,e2,e3] at hk;exact hk g X (H.on f) (bN.nJ f)
 by_cases vZ:σ.B.items.length≥16
 ·rw[jy];subst hJ;dsimp only;rw[ag rfl];exact no (.inl vZ) h2 f2
 rw[ai (λe=>vZ (by have:=of_decide_eq_true e;omega))];obtain⟨Z4,⟨m4,P4,on4⟩,_⟩:=H2.use 4;refine⟨_,af H2.dF rfl,vN.afN P4 G.ok owner _ ⟨_,rfl,?_⟩⟩;subst hJ;dsimp only;cases hf:yA σ.Q owner bs.length with
 |false=>
  rw[ag (show(!yA σ.Q owner bs.length)=true by rw[hf];rfl)];exact no (.inr hf) h2 f2
 |true=>
  rw[ai (show¬(!yA σ.Q owner bs.length)=true by rw[hf];decide)];have Gw: ¬(σ.B.items.length≥16\/yA σ.Q owner bs.length=false):=λc=>c.elim vZ (λe=>by rw[hf] at e;cases e)
  have eE:IU σ owner bs cG=lJ.oz σ.B owner bs cG:=ai Gw;have eN:Vn σ owner bs cG=lJ.Ml σ.B owner bs cG:=ai Gw;obtain⟨Z,hz,zm,zd,go⟩:=H2.use 3;refine⟨_,af H2.dF rfl,lJ.KR cG rfl hz (hr.frame f2 (λ_ _=>id)) rfl hb (by have:=G.b;omega) λh3 Z3 B3 s3=>⟨_,_,rfl,?_⟩⟩;obtain⟨X3,H3,Gk,_,_⟩:=go h3 Z3 { σ with B:=lJ.R5 σ.B owner bs cG } B3 s3 (λi hi=>Ve _ hi);have st:=bN.no f2 Gk;refine aK.of λJ2 zY=> ?_
  rw[eE,eN] at hk;unfold zV at hk;rw[eE] at hk;by_cases he:lJ.oz σ.B owner bs cG=0
  ·rw[ag he] at hk;rw[ag (by rw[he];rfl)];refine⟨_,af H3.dF rfl,H3.aoZ (x:=⟨σ.B.next,owner,bs,cG⟩) G.ok hf rfl rfl λh4 X4 H4 Vh=>⟨_,rfl,?_⟩⟩;subst zY;refine hk h4 X4 ?_ (st.trans Vh);have e:lJ.R5 σ.B owner bs cG= { σ.B with items:=σ.B.items++ [⟨σ.B.next,owner,bs,cG⟩],next:=σ.B.next+1 } :=ag he;rw[e] at H4⊢;have H4:Pt h4 s X4 I { σ with B:= { σ.B with items:=σ.B.items++ [⟨σ.B.next,owner,bs,cG⟩],next:=σ.B.next+1 },Q:=σ.Q++ [⟨σ.B.next,owner,bs,cG⟩] } :=H4;rw[G.q] at H4;exact H4
  ·rw[ai he] at hk;rw[ai (by simpa using he)];subst zY;refine hk h3 X3 ?_ st;have e:lJ.R5 σ.B owner bs cG=σ.B:=ai he;rw[e] at H3;exact H3
theorem VL {b:Nat} {num:Int} (x:IV) (hid:lJ.KD h b num) (hk: ∀h',Fr No h h'->R (.bool (decide ((x.num:Int)=num))) h'):Cl F.gx #[x.agg,.P b 0] h R:=by
 refine gx.walk (aM.box λb1 h1 eb hb f1=>⟨_,af hb rfl,_,af (f1.get hid id) rfl,?_⟩);rw[show((x.num:Int)==num)=decide ((x.num:Int)=num) by by_cases q:(x.num:Int)=num<;>simp[q]];exact hk h1 f1
theorem aba (xs:List IV) (num:Int):idxOf (λx:IV=>decide ((x.num:Int)=num)) xs=lJ.CM (xs.map IV.abs) num:=by
 unfold idxOf lJ.CM lJ.II;rw[List.findIdx?_map];rfl
theorem CN {xs:List IV} {n m b:Nat} {num:Int} (hr:Row h p (xs.flatMap jJ)) (hn:n=xs.length) (hl:xs.length<=1000000000) (hid:lJ.KD h b num) (hk: ∀h',Fr No h h'->R (.I (lJ.CM (xs.map IV.abs) num)) h'):
  Cl F.cz #[.slice p n m,.func (.func F.gx) #[] #[.P b 0]] h R:=by
 refine cz.cancel.walk (Tm (λx:IV=>decide ((x.num:Int)=num)) (λt g K=>((0:Int)<=t/\t<(n:Int))/\aP p λa=>aM.LD g (a.add (Int.toNat t*4)) λt0 t1 t2 t3 t4 t5=>
  Cl F.gx #[.agg #[.I t0,.I t1,.slice t2 t3 t4,.U t5],.P b 0] g λv g2=> ∃q,v=.bool q/\K q g2) hn hl (λk g x K hx f hK=> ?_) (λg f=>by rw[aba];exact hk g f))
 have lt:=(aG.1 hx).1;have pL:=hr.frame f (λ_ _=>id);obtain⟨a,rfl⟩:=pL.some (λe=>by have:=bp List.length e;rw[gW jJ 4 mA,bD] at this;omega);exact⟨⟨by omega,by omega⟩,aB.2 (aM.TL (by rw[aL];exact pL.lu mA hx) (VL x (f.get hid id) λh2 f2=>⟨_,rfl,hK h2 (f.tt f2)⟩))⟩
theorem KF {l:List It} {i:Nat} {x:It} (hp:(l.map It.num).Pairwise (· < ·)) (hx:l[i]? =some x):l.Perm (x::lJ.CO l (x.num:Int)):=by
 rw[<-lJ.CP hp hx];unfold lJ.Mj;obtain⟨h1,h2⟩:=aG.1 hx;have e:l=l.take i++x::l.drop (i+1):=by rw[<-h2,<-db h1,List.take_append_drop]
 exact(List.Perm.of_eq e).trans List.perm_middle
theorem GR {num owner:Int} (H:Pt h s X I σ) (G:Good σ k) (hk8:k<=30000)
  (hk: ∀h' X',Pt h' s X' I (NJ σ num owner)->bN X h X' h'->R (.I (lJ.yx σ.B num owner)) h'):Cl F.mj #[pt s,.I num,.I owner] h R:=by
 refine mj.walk (cY ?_);have f1:Fr No h (h.push (.cells #[.I num] T.int)):=Fr.push _ _;have dx:lJ.KD (h.push (.cells #[.I num] T.int)) h.size num:=cA;generalize h.push (.cells #[.I num] T.int)=h1 at f1 dx⊢;have H1:=H.on f1;obtain⟨Z0,Wx⟩:=H1.box;obtain⟨L,ok⟩:=H.okB;refine ji H1.dF ⟨_,rfl,?_⟩;rw[dM];refine⟨_,af H1.dF rfl,lJ.PM Wx λh2 p2 l2 c2 L2 f2=>⟨_,_,_,rfl,?_⟩⟩;have H2:=H1.on f2;have fJ:=f2.get dx id;obtain⟨xs,D,rfl,ox,ax,hxd,hD,hpx⟩:=L2;obtain⟨Z,hz,zm,zd,go⟩:=H2.use 3;refine⟨_,af H2.dF rfl,_,af fJ rfl,lJ.GR hz (by have:=G.b;omega) λh3 Z3 B3 s3=>⟨_,rfl,?_⟩⟩;obtain⟨X3,H3,Gk,_,_⟩:=go h3 Z3 { σ with B:=lJ.xq σ.B num owner } B3 s3 (λi hi=>Ve _ hi);have z1:=f1.1;have z2:=f2.1;have zl: ∀y,Z.M y->y<h.size:=λy hy=>H.lt y (.inl (zm y hy))
 have ln:xs.length=σ.B.items.length:=by rw[<-ax,aN]
 have kT:lJ.KD h3 h.size num:=s3.fr.get fJ (λhm=>by have:=zl _ hm;omega);have o3:=ox.frame s3.fr (λy hy hm=>by have:=zl y hm;have:=hpx y hy;omega);have le:=ok.le;refine CN o3.qa rfl (by omega) kT λh4 f4=> ?_
 have st:=bN.no (f1.tt f2) (Gk.on f4);have H4:=H3.on f4;have o4:=o3.frame f4 (λ_ _=>id);rw[ax];refine⟨_,rfl,aK.of λJ hJ=> ?_⟩;cases EG:lJ.II σ.B.items num with
 |none=>
  have e:lJ.yx σ.B num owner=4:=by unfold lJ.yx;rw[EG]
  have es:lJ.xq σ.B num owner=σ.B:=ai (by rw[e];decide);unfold NJ at hk;rw[e,es,<-G.q] at hk;rw[e] at hJ⊢;rw[dM];subst hJ;refine aK.of λJ1 pB=> ?_
  rw[dM];subst pB;rw[es] at H4;exact hk h4 X3 H4 st
 |some i=>
  obtain⟨x,hx,IM⟩:=lJ.KG EG;have ev:lJ.CM σ.B.items num=(i:Int):=by unfold lJ.CM;rw[EG]
  rw[ev] at hJ⊢;have e:lJ.yx σ.B num owner=if x.owner=owner then 0 else 13:=by unfold lJ.yx;rw[EG];dsimp only;rw[hx]
  by_cases ho:x.owner=owner
  ·rw[ag ho] at e;have es:lJ.xq σ.B num owner= { σ.B with items:=lJ.CO σ.B.items num,EF:=σ.B.EF+1 } :=ag e;unfold NJ at hk;rw[e] at hk;rw[e] at hJ⊢;rw[jy,ay (by omega)];subst hJ;refine aK.of λJ1 pB=> ?_
   rw[ag rfl];have hi:=(aG.1 hx).1;have hv:xs[i]? =some xs[i]:=au (by omega);have hva:xs[i].abs=x:=by
    rw[<-ax,aO,hv] at hx;exact bz hx
   obtain⟨pb,po,rfl⟩:=o4.addr (by omega);have hh:=o4.lu mA hv;have c2: ∀g,fF (((AA pb po):Addr).add (i*4)) (jJ xs[i]) 0 g->ak g ((((AA pb po):Addr).add (Int.toNat (i:Int)*4)).add 2)=some xs[i].v.val:=λg hg=>by
    rw[aL];exact hg.2.2.1
   refine⟨_,af H4.dF rfl,⟨by omega,by omega⟩,aB.2 ⟨_,_,_,c2 _ hh,?_⟩⟩;have vl:xs[i].v.b=x.d:=by rw[<-hva];rfl
   rw[vl];refine H4.aoa (x:=x) (l:=lJ.CO σ.B.items num) (by show σ.Q.Perm _;rw[G.q,<-IM];exact KF ok.inc hx) (show D0 σ.Q from G.ok) (adM ok (bt hx)) rfl ho.symm λh5 X5 H5 Wd=>⟨_,rfl,?_,?_⟩
   ·have o5:=o4.frame Wd.fr (λy hy hm=>by
     rcases Gk.rh y hm with a|a
     ·have:=H.lt y (.inl a);have:=hpx y hy;omega
     ·have:=ox.gn hy;omega)
    rw[<-vl];exact c2 _ (o5.lu mA hv)
   ·subst pB;refine hk h5 X5 ?_ (st.trans Wd);rw[es] at H5⊢;exact H5
  ·rw[ai ho] at e;have es:lJ.xq σ.B num owner=σ.B:=ai (by rw[e];decide);unfold NJ at hk;rw[e,es,<-G.q] at hk;rw[e] at hJ⊢;rw[dM];subst hJ;refine aK.of λJ1 pB=> ?_
   rw[dM];subst pB;rw[es] at H4;exact hk h4 X3 H4 st
end gK
end
section
variable {h:aj} {R:iI}
theorem fS.walk {oD:bV} {mG qK:Nat} (hv:if oD.isNone then R (.Z) h else aV h (.cells #[] T.aa) λb aR=>aX Tryz.prog (Builtin.append_ #[T.cF,T.cF] T.cF #[.slice (some (AA b 0)) 0 0,.slice oD mG qK]) aR λv aZ=> ∃Ez EA EB,v=.slice Ez EA EB/\R (.slice Ez EA EB) aZ):Cl F.fS #[.slice oD mG qK] h R:=aS (lq (sq (lq (cq ll lf)) ll)) Tryz.func295 hv
theorem ee.wrg.walk {oD:bV} {mG qK:Nat} (hv:Cl F.gz #[.slice oD mG qK,.func (.func F.jF) #[] #[]] h λv aR=> ∃t7,v=.I t7/\R (.bool (decide (t7≥0))) aR):Cl F.ee #[.slice oD mG qK,.func (.func F.jF) #[] #[]] h R:=aS (lq ll) Tryz.func258 hv
theorem gz.wrg.walk {oD:bV} {mG qK:Nat} (hv: ∃(I:Int->aj->Prop) (mu:Int->aj->Nat),I 0 h/\∀(t8:Int) (aR:aj),I t8 aR->if(decide (t8<(mG:Int))) then Bd t8 mG/\aP oD λa=>aa.dh aR (a.add (toNat t8*4)) λt15=>Cl F.jF #[t15.agg] aR λv aZ=> ∃t16,v=.bool t16/\if t16 then R (.I t8) aZ else(I (wrap .i64 (t8+1)) aZ/\mu (wrap .i64 (t8+1)) aZ<mu t8 aR) else R (.I (-1)) aR):Cl F.gz #[.slice oD mG qK,.func (.func F.jF) #[] #[]] h R:=aS (lq (sq (lq (bq (.loop [(8,.one (.int .i64))] (lq (sq (cq lf lf) (sq (bq (lq (lq (cq ll lf)))) lf)))))) ll)) Tryz.func294 hv
theorem gT.within.walk {oD:bV} {mG qK:Nat} (hv:Cl F.iu #[.slice oD mG qK,.func (.func F.ko) #[] #[]] h λv aR=> ∃t7,v=.I t7/\R (.bool (decide (t7≥0))) aR):Cl F.gT #[.slice oD mG qK,.func (.func F.ko) #[] #[]] h R:=aS (lq ll) Tryz.func250 hv
theorem iu.within.walk {oD:bV} {mG qK:Nat} (hv: ∃(I:Int->aj->Prop) (mu:Int->aj->Nat),I 0 h/\∀(t8:Int) (aR:aj),I t8 aR->if(decide (t8<(mG:Int))) then Bd t8 mG/\aP oD λa=>JM aR (a.add (toNat t8*1)) λt15=>Cl F.ko #[.U t15] aR λv aZ=> ∃t16,v=.bool t16/\if t16 then R (.I t8) aZ else(I (wrap .i64 (t8+1)) aZ/\mu (wrap .i64 (t8+1)) aZ<mu t8 aR) else R (.I (-1)) aR):Cl F.iu #[.slice oD mG qK,.func (.func F.ko) #[] #[]] h R:=aS (lq (sq (lq (bq (.loop [(8,.one (.int .i64))] (lq (sq (cq lf lf) (sq (bq (lq (lq (cq ll lf)))) lf)))))) ll)) Tryz.func292 hv
end
section
namespace Bn
open Cb
open qJ (Ev dk uH)
variable {V:List UInt8→Bool} {h h0 h' g0 g:aj} {R:iI} {D:Nat→Prop}
theorem aeD (ys:List CV): ∀v∈ys.flatMap mK,jg v=true:=λv hv=>by
 obtain⟨a,_,ha⟩:=List.mem_flatMap.1 hv;exact zX a v ha
theorem abb {ys:List CV} {p:bV} {n m:Nat} (hr:Row h p (ys.flatMap mK)) (hn:n=ys.length) (hl:ys.length<=1000000)
  (hk: ∀p' c' h',iS h' p' ys.length c' 4 (ys.flatMap mK)->Fr No h h'->(∀x,aQ p' x->h.size<=x)->R (.slice p' ys.length c') h'):Cl F.fS #[.slice p n m] h R:=by
 subst hn;refine fS.walk ?_;cases p with
 |none=>
  have:ys= []:=by
   rcases hr with hr|⟨a,e,_⟩
   ·cases ys with
    |nil=>rfl
    |cons b bs=>cases hr
   ·cases e
  subst this;exact hk none 0 h (.nil rfl rfl rfl rfl) (Fr.refl _ _) (λx ⟨a,e,_⟩=>by cases e)
 |some a=>
  simp only[Option.isNone_some,aA,aU];exact GA tI uI hr (gW mK 4 jS ys) (aeD ys) (by omega) (by omega) λp' c' h' o f g=>⟨_,_,_,rfl,hk p' c' h' o f g⟩
structure Lc (g0 g:aj) (bb:Nat) (k n:Int) (v:BV) (ts:List Tr) (ys:List CV) (q:bV) (cl:Nat):Prop where
 dF:aa.at g bb k n v.p v.b.length v.c q ys.length cl
 own:iS g q ys.length cl 4 (ys.flatMap mK)
 ge: ∀y,aQ q y->g0.size<=y/\y≠bb
 tr:dH g (λy=>(g0.size<=y/\y≠bb)/\¬aQ q y) ts ys
 fr:Fr (λy=>y=bb) g0 g
theorem Lc.on {bb:Nat} {k n:Int} {v:BV} {ts:List Tr} {ys:List CV} {q:bV} {cl:Nat} (L:Lc g0 g bb k n v ts ys q cl) (f:Fr No g h'):Lc g0 h' bb k n v ts ys q cl:=
 ⟨f.get L.dF id,L.own.frame f (λ_ _=>id),L.ge,L.tr.on f,L.fr.on f⟩
theorem aeE {bb:Nat} {t:Tr} {z:CV} (tz:Ef g (λy=>g0.size<=y/\y≠bb) t z) (hb:aa.jx g bb z.s) (f:Fr (λy=>y=bb) g0 g): ∃ys,ys.length=z.ll/\Lc g0 g bb z.k z.n z.v t.l ys z.q z.cl:=by
 obtain⟨h1,ys,h2,h3,h4,h5⟩:=tz;refine⟨ys,h2.symm,?_,h3,h4,h5,f⟩;rw[<-h2];exact hb
theorem aeF {bb k':Nat} {k:Int} {v:BV} {ts:List Tr} {ys:List CV} {q:bV} {cl:Nat} (L:Lc g0 g bb k (k':Int) v ts ys q cl) (ok:v.ok g (λy=>g0.size<=y/\y≠bb)):Ef g (λy=>g0.size<=y/\y≠bb) (.mk k k' v.b ts) ⟨k,k',v,q,ys.length,cl⟩:=
 ⟨⟨rfl,rfl,rfl,ok⟩,ys,rfl,L.own,L.ge,L.tr⟩
theorem ark {bb:Nat} {k n:Int} {v:BV} {ts:List Tr} {ys:List CV} {q:bV} {cl:Nat} {t:Tr} {z:CV} {Φ:aj->Prop} (L:Lc g0 g bb k n v ts ys q cl) (ll:ys.length<=1000000) (tz:kU g (λy=>(g0.size<=y/\y≠bb)/\¬aQ q y) t z)
  (hk: ∀g' QR q' DO,Lc g0 g' bb k n v (ts++ [t]) QR q' DO->QR.length=ys.length+1->g.size<=g'.size->(∀x,x≠bb->¬aQ q x->x<g.size->g'[x]? =g[x]?)->Φ g'):
  aV g (.cells z.s.arr T.aa) λeZ cX=>aX Tryz.prog (Builtin.append_ #[T.cF,T.cF] T.cF #[.slice q ys.length cl,.slice (some (AA eZ 0)) 1 1]) cX λgS dB=>
   ∃qt pf rN,gS=.slice qt pf rN/\aH dB (AA bb 3) (.slice qt pf rN) λff=>Φ ff:=by
 refine aa.dI λb2 h7 FH fJ f7=> ?_
 have z7:=f7.1;have zg:=L.fr.1;have zb2:=aI fJ;have zbb:=aI L.dF;have nq: ∀y,aQ q y->y<g.size:=λy hy=>L.own.gn hy
 refine fR tI uI (L.own.frame f7 (λ_ _=>id)) (ds:=mK z) (.inr ⟨_,rfl,aa.Lr (x:=z.s) fJ⟩) rfl (zX z) (by omega) (by omega) λq' DO yj o11 _ f11 g11=>⟨_,_,_,rfl,?_⟩
 have b11:=f11.get (f7.get L.dF id) (λhy=>(L.ge _ hy).2 rfl);refine bM b11 (by show 3<4;omega) λmF d1 d2 d3=> ?_
 have f12:Fr (λy=>y=bb) yj mF:=Fr.of_eq d2 (λc hc=>d3 c hc);have nq': ∀y,aQ q' y->g0.size<=y/\y≠bb:=λy hy=>by
  rcases g11 y hy with a|a
  ·exact L.ge y a
  ·omega
 have ef:ys.flatMap mK++mK z=(ys++ [z]).flatMap mK:=by rw[dJ];simp
 refine hk mF (ys++ [z]) q' DO ⟨?_,?_,nq',?_,?_⟩ (by simp) ?_ ?_
 ·rw[aF];exact d1
 ·rw[aF,<-ef];exact o11.frame f12 (λy hy e=>by have:=nq' y hy;omega)
 ·have t1:=((L.tr.snoc tz).lt.on f7).frame f11 (λy hy AW=>hy.1.2 AW);have m1:=dH.mono (D':=λy=>(g0.size<=y/\y≠bb)/\¬aQ q' y) (λy hy=>⟨hy.1.1,λAW=>by
   rcases g11 y AW with a|a
   ·exact hy.1.2 a
   ·have:=hy.2;omega⟩) t1
  exact dH.frame f12 (λy hy e=>by omega) m1
 ·exact((L.fr.on f7).trans f11 (S'':=λy=>y=bb) (λ_ _=>id) (λx hx hy=>by have:=L.ge x hy;omega)).trans f12 (λ_ _=>id) (λ_ _=>id)
 ·have:=f11.1;omega
 ·intro x hx hq hl;rw[d3 x hx,f11.2 x (by omega) hq,f7.2 x hl id]
theorem aeG {bb:Nat} {k n:Int} {v:BV} {ts:List Tr} {ys:List CV} {q:bV} {cl:Nat} {t:Tr} {z:CV} {Φ:aj->Prop} {kl:List (bV)} (L:Lc g0 g bb k n v ts ys q cl) (ll:ys.length<=1000000) (tz:kU g (λy=>(g0.size<=y/\y≠bb)/\¬aQ q y) t z)
  (hk: ∀g' QR q' DO,Lc g0 g' bb k n v (ts++ [t]) QR q' DO->QR.length=ys.length+1->g.size<=g'.size->(∀x,x≠bb->¬aQ q x->x<g.size->g'[x]? =g[x]?)->Φ g'):
  aV g (.cells z.s.arr T.aa) λeZ cX=>Kp g cX kl/\aX Tryz.prog (Builtin.append_ #[T.cF,T.cF] T.cF #[.slice q ys.length cl,.slice (some (AA eZ 0)) 1 1]) cX λgS dB=>
   ∃qt pf rN,gS=.slice qt pf rN/\aH dB (AA bb 3) (.slice qt pf rN) λff=>Φ ff:=by
 intro b h7 eb eh;refine⟨?_,ark L ll tz hk b h7 eb eh⟩;subst eh;exact(Fr.push _ _).kp
theorem aeH {ts:List Tr} {ys:List CV} {q:bV} {l c:Nat} (U:xQ V h0) (u:Fr No h0 h) (L:xE h D q l c ys) (TS:dH h D ts ys) (hr:dZ ts<=1000000)
  (hk: ∀h',Fr No h h'->R (.bool (!ts.all (lB V))) h'):Cl F.ee #[.slice q l c,.func (.func F.jF) #[] #[]] h R:=by
 have ln:=TS.len;have el:=L.len;have l9:=kN ts;refine ee.wrg.walk (gz.wrg.walk ?_);refine⟨λt g=> ∃i:Nat,t=(i:Int)/\i<=ts.length/\Fr No h g/\(ts.take i).all (lB V)=true,λt _=>ts.length - t.toNat,⟨0,rfl,cp _,Fr.refl _ _,by rw[fN];rfl⟩,?_⟩;rintro _ g ⟨i,rfl,hi,fg,ha⟩;by_cases nR:i<ts.length
 ·rw[jy];obtain⟨a,y,ea,hh,ty,hy⟩:=elem (L.frame fg (λ_ _=>id)) (TS.on fg) nR;have ra:=sa nR;have eq:ts.take (i+1)=ts.take i++ [at_ ts i]:=by
   rw[bZ];unfold at_;rw[ba,au nR];rfl
  have tm:at_ ts i∈ts:=by
   unfold at_;rw[ba,au nR];exact fx nR
  refine⟨⟨by omega,by omega⟩,cH.2 ⟨a,ea,aa.yT (x:=y.s) (by rw[aL];exact hh) (jF.walk (x:=y.s) (aa.dI λb h1 eb hb f1=>aa.jk hb (ic U (u.tt (fg.tt f1)) (ty.on f1) (by omega) λh2 f2=>⟨_,rfl,_,rfl,?_⟩)))⟩⟩;have F2:=fg.tt (f1.tt f2);cases q:lB V (at_ ts i) with
  |false=>
   rw[jy];refine⟨_,rfl,?_⟩;have:=hk h2 F2;rw[show ts.all (lB V)=false by rw[List.all_eq_false];exact⟨_,tm,by rw[q];decide⟩] at this;rw[ay (by omega)];exact this
  |true=>
   rw[dM,bL (n:=(i:Int)+1) (by omega) (by omega)];exact⟨⟨i+1,by omega,by omega,F2,by rw[eq,List.all_append,ha];simp[q]⟩,by show ts.length - Int.toNat ((i:Int)+1)<ts.length - Int.toNat (i:Int);omega⟩
 ·rw[ai (λe=>nR (by have:=of_decide_eq_true e;omega))];rw[bT (by omega)] at ha;have:=hk g fg;rw[ha] at this;exact⟨_,rfl,this⟩
end Bn
end
end Go.Proofs.YtlenamcfacpheaaGreatDoor
namespace Go.Den
section
variable {P : Program}
theorem aeI {t elem:TypeId} {bytes:Nat} {z z0:Value} {h:aj} {K:iI} (T:Ap P t elem 1 bytes z) (Wx:z.cells= #[z0]) (n:Nat) (hb:n*bytes<=70368744177664) (hn:n<=9223372036854775807)
  (hk: ∀h' p',iS h' p' n n 1 (List.replicate n z0)->Fr No h h'->(∀c,aQ p' c->h.size<=c)->K (.slice p' n n) h'):
  aX P (Instr.makeSlice t (.I (n:Int)) (.I (n:Int))) h K:=by
 obtain⟨i,hi,JB,rfl,hz⟩:=T.i;unfold Instr.makeSlice;refine bY (s:=underlying t) (bE T.u) ?_;refine bY (s:=asInt (.I (n:Int))) (a:=(n:Int)) rfl ?_;refine bY (s:=asInt (.I (n:Int))) (a:=(n:Int)) rfl ?_;refine bY (s:=typeInfo elem) (lL hi) ?_;simp only[];rw[bL (n:=(n:Int)) (by omega) (by omega)];have hm:(i.bytes:Int)*(n:Int)=((n*i.bytes:Nat):Int):=by rw[je];simp
 have hl:(decide ((n:Int)<0)||decide ((i.bytes:Int)*(n:Int)>2 ^ 48))=false:=by
  rw[hm];have h1: ¬(n:Int)<0:=by omega
  have h2: ¬((n*i.bytes:Nat):Int)>2 ^ 48:=by omega
  rw[decide_eq_false h1,decide_eq_false h2];rfl
 have hc:(((decide ((n:Int)<0)||decide ((i.bytes:Int)*(n:Int)>2 ^ 48))||decide ((n:Int)<0))||decide ((n:Int)>(n:Int)))=false:=by
  rw[hl];simp
 rw[ai (by rw[hc];simp)];have Rh: ∀(m:Nat) (K':Unit->aj->Prop),K' () h->aX P (askRoom m) h K':=λm K' V4=>by
  unfold askRoom;split
  ·exact V4
  ·exact V4
 rw[fa];refine Rh _ _ ?_;refine bY (s:=sizeOf elem) (lQ hi) ?_;rw[aL,JB,cO];have fin: ∀zs:Array Value,(n=0\/zs= #[z0])->aX P (newRow elem ((Array.range n).map (zs[· %zs.size]!))>>=λa=>pure (.slice (some a) n n)) h K:=by
  intro zs hzs;show K (.slice (some (AA h.size 0)) n n) (h.push (.cells ((Array.range n).map (zs[· %zs.size]!)) elem));refine hk _ _ (.row h.size 0 _ elem rfl cA (bh _) (by simp) (by simp) ?_) (Fr.push _ _) ?_
  ·intro j v hj;have QO:j<n:=by have:=(aG.1 hj).1;simpa using this
   have hv:v=z0:=by
    rw[List.getElem?_replicate,ag QO] at hj;exact(bz hj).symm
   subst hv;rcases hzs with hz|rfl
   ·omega
   ·rw[cf];simp[QO,Nat.mod_one]
  ·rintro c ⟨a,e,rfl⟩;cases e;exact bh _
 by_cases h0:n=0
 ·rw[ag h0];exact fin #[] (.inl h0)
 ·rw[ai h0];refine bY (s:=zeroValue elem) (oM hi hz) ?_;refine bY (s:=(pure z.cells:Sem (Array Value))) (a:=z.cells) rfl ?_;rw[Wx];exact fin #[z0] (.inr rfl)
end
end Go.Den
namespace Go.Proofs.YtlenamcfacpheaaGreatDoor
open Go.Den
open IntKind (wrap)
open Int (toNat)
section
namespace Bn
open Cb
open qJ (Ev dk uH)
variable {V:List UInt8→Bool} {h h0 h':aj} {R:iI} {D:Nat→Prop} {ts:List Tr} {ys:List CV} {q:bV} {l c:Nat}
theorem Oh {i:Nat} (L:xE h D q l c ys) (TS:dH h D ts ys) (hr:dZ ts<=1000000) (hi:i<100) (hk: ∀h',Fr No h h'->R (.I (typeAt ts i)) h'):Cl F.oq #[.slice q l c,.I (i:Int)] h R:=by
 have ln:=TS.len;have el:=L.len;have l9:=kN ts;refine oq.walk (aK.of λJ hJ=> ?_);have no: ∀g,Fr No h g->¬(i<ts.length/\(at_ ts i).n<=2/\yW (at_ ts i) (num (at_ ts i).n)=true)->J true g:=λg fg hn=>by
  subst hJ;dsimp only;rw[ag rfl];have:=hk g fg;unfold typeAt at this;rw[ai hn] at this;exact this
 rw[dM];by_cases nR:i<ts.length
 case neg=>rw[jy];exact no h (Fr.refl _ _) (λe=>nR e.1)
 rw[dM];obtain⟨a,y,ea,hh,ty,_⟩:=elem L TS nR;have ra:=sa nR;obtain⟨_,yn,_⟩:=kU.kn ty;have hh':fF (a.add (Int.toNat (i:Int)*4)) y.s.l 0 h:=by rw[aL];exact hh
 have c1:ak h ((a.add (Int.toNat (i:Int)*4)).add 1)=some (.U ((at_ ts i).n:Int)):=by rw[<-yn];exact hh'.2.1
 refine⟨⟨by omega,by omega⟩,cH.2 ⟨a,ea,_,c1,?_⟩⟩;by_cases hn:(at_ ts i).n<=2
 case neg=>rw[jy];exact no h (Fr.refl _ _) (λe=>hn e.2.1)
 rw[dM];refine⟨⟨by omega,by omega⟩,cH.2 ⟨a,ea,aa.yT (x:=y.s) hh' ⟨⟨by omega,by omega⟩,cH.2 ⟨a,ea,_,c1,jw λh2 f2=>aa.ex (nv (at_ ts i).n).s ⟨rfl,f2.kp,pW (x:=y) (y:=nv (at_ ts i).n) (ty.on f2) xL (by omega) λh3 f3=>⟨_,rfl,f3.kp,?_⟩⟩⟩⟩⟩⟩;have F3:=f2.tt f3;cases e:yW (at_ ts i) (num (at_ ts i).n) with
 |false=>exact no h3 F3 (λq=>by rw[e] at q;cases q.2.2)
 |true=>
  subst hJ;dsimp only;rw[dM];refine⟨⟨by omega,by omega⟩,cH.2 ⟨a,ea,_,F3.cell c1 id,?_⟩⟩;have:=hk h3 F3;unfold typeAt at this;rw[ag ⟨nR,hn,e⟩] at this;rw[bL (by omega) (by omega)];exact this
theorem Oi (ts:List Tr) (i:Nat): -1<=typeAt ts i/\typeAt ts i<=2:=by unfold typeAt;split<;>omega
theorem ahr (n:Nat):List.replicate n (Value.int .u8 0)=bc (List.replicate n 0):=by unfold bc;rw[List.map_replicate];rfl
theorem by8 (n k:Nat) (m:Nat) (hm:m=k):IntKind.wrap .u8 (Int.fdiv (n:Int) (2 ^ m))=((UInt8.ofNat (n/2 ^ k)).toNat:Int):=by subst hm;rw[ad5,ad4]
theorem Tn {sum:Nat} (U:xQ V h0) (u:Fr No h0 h) (L:xE h D q l c ys) (TS:dH h D ts ys) (hr:dZ ts<=900000) (s1:1<=sum) (s2:sum<=2)
  (k1: ∀b,sumOf V ts sum=.ok b->∀h' p c,Row h' p (bc b)->b.length=2*sum->(∀y,aQ p y->h.size<=y)->Fr No h h'->R (.tuple #[.slice p b.length c,.I 0]) h')
  (k2:sumOf V ts sum=.error 3->∀h',Fr No h h'->R (.tuple #[.Z,.I 3]) h'):Cl F.pA #[.slice q l c,.I (sum:Int)] h R:=by
 have ln:=TS.len;have el:=L.len;have l9:=kN ts;refine pA.walk (abb L.row L.len (by omega) λp1 c1 h1 o1 f1 g1=>⟨_,_,_,rfl,mO.walk ⟨_,rfl,?_⟩⟩);rw[bL (n:=2*(sum:Int)) (by omega) (by omega),show 2*(sum:Int)=((2*sum:Nat):Int) by omega];refine aeI vg.tU rfl (2*sum) (by omega) (by omega) λh3 p3 o3 f3 g3=>⟨_,_,_,rfl,?_⟩
 rw[ahr] at o3;have lr:(List.replicate (2*sum) (0:UInt8)).length=2*sum:=List.length_replicate;refine zE o3.qa lr.symm (by omega) λh4 v ev ov f4=>aa.ex (CV.s ⟨2,0,v,none,0,0⟩) ⟨rfl,aa.dI λb h5 eb hb f5=> ?_⟩
 have F5:=f3.tt (f4.tt f5);have z1:=f1.1;have z3:=f3.1;have z4:=f4.1;have z5:=f5.1;have n1: ∀y,aQ p1 y->y<h1.size:=λy hy=>o1.gn hy
 have vl:v.b.length=2*sum:=by rw[ev,lr]
 refine fR tI uI (o1.frame F5 (λ_ _=>id)) (ds:=mK ⟨2,0,v,none,0,0⟩) (.inr ⟨_,rfl,aa.Lr (x:=CV.s ⟨2,0,v,none,0,0⟩) hb⟩) rfl (zX _) (by omega) (by omega) λp6 c6 h6 o6 _ f6 g6=>⟨_,_,_,rfl,?_⟩
 have ef:ys.flatMap mK++mK ⟨2,0,v,none,0,0⟩=(ys++ [(⟨2,0,v,none,0,0⟩:CV)]).flatMap mK:=by rw[dJ];simp
 rw[ef] at o6;have T6:Mu h6 (ts++ [BH (List.replicate (2*sum) 0)]) (ys++ [⟨2,0,v,none,0,0⟩]):=by
  have a:=(TS.lt.on (f1.tt F5)).frame f6 (λy hy AW=>by have:=g1 y AW;omega);have b:kU h6 (λy=>h3.size<=y) (.mk 2 0 v.b []) ⟨2,0,v,none,0,0⟩:=NU ((ov.frame f5 (λ_ _=>id)).frame f6 (λy hy AW=>by have:=n1 y AW;omega));rw[ev] at b;exact a.u.snoc b.u
 have lA:(ys++ [(⟨2,0,v,none,0,0⟩:CV)]).length=ys.length+1:=by simp
 have rA:dZ (ts++ [BH (List.replicate (2*sum) 0)])<=900100:=by rw[mQ];simp only[dZ,room,lr];omega
 refine rV (D:=λ_=>True) ⟨lA.symm,o6.qa,λ_ _ _=>trivial,o6.le⟩ T6 (by omega) λh7 z tz f7=>aa.ex z.s ⟨rfl,?_⟩
 have F6:Fr No h h6:=(f1.tt F5).fresh f6 (λy hy=>g1 y hy);have F7:=F6.tt f7;have z6:=F6.1;have z7:=f7.1;have hS:sumOf V ts sum=sumOf V ts sum:=rfl;conv at hS=>rhs;unfold sumOf
 refine Hd (x:=z) U (u.tt F7) tz.u (by simp only[room,bD];omega) (λhR h8 p8 c8 o8 n8 f8=>⟨_,_,_,_,rfl,?_⟩) (λhR h8 f8=>⟨_,_,_,_,rfl,?_⟩)
 ·rw[dM];rw[ag hR] at hS;have F8:=F7.tt f8;have le8:(enc (DF (ts++ [BH (List.replicate (2*sum) 0)]))).length<=900200:=by
   have:=rX (DF (ts++ [BH (List.replicate (2*sum) 0)]));simp only[room,bD] at this;omega
  generalize enc (DF (ts++ [BH (List.replicate (2*sum) 0)]))=B at hS o8 le8⊢;have z8:=F8.1;by_cases e1:sum=1
  ·rw[ag (by rw[e1];rfl)];rw[ag e1] at hS;refine aed o8.qa rfl (by omega) ⟨_,rfl,cY ?_⟩;rw[by8 (Ke B) 8 (min (Int.toNat 8) (IntKind.bits .u16)) rfl,ad4];have r:Row (h8.push (.cells (bc (O9 B)).toArray T.uint8)) (some (AA h8.size 0)) (bc (O9 B)):=rW;exact k1 _ hS _ _ _ r (by rw[e1];rfl) (λy ⟨a,ea,ey⟩=>by cases ea;rw[<-ey];exact z8) (F8.tt (Fr.push _ _))
  ·rw[ai (λe=>e1 (by have:=eq_of_beq e;omega))];rw[ai e1] at hS;refine ahn o8.qa rfl (by omega) ⟨_,rfl,cY ?_⟩;rw[by8 (HP B) 24 (min (Int.toNat 24) (IntKind.bits .u32)) rfl,by8 (HP B) 16 (min (Int.toNat 16) (IntKind.bits .u32)) rfl,by8 (HP B) 8 (min (Int.toNat 8) (IntKind.bits .u32)) rfl,ad4];have r:Row (h8.push (.cells (bc (Wa B)).toArray T.uint8)) (some (AA h8.size 0)) (bc (Wa B)):=rW;exact k1 _ hS _ _ _ r (by rw[show sum=2 by omega];rfl) (λy ⟨a,ea,ey⟩=>by cases ea;rw[<-ey];exact z8) (F8.tt (Fr.push _ _))
 ·rw[jy];rw[ai (by rw[hR];decide)] at hS;exact k2 hS h8 (F7.tt f8)
theorem Zn {i:Nat} (U:xQ V h0) (u:Fr No h0 h) (L:xE h D q l c ys) (TS:dH h D ts ys) (hr:dZ ts<=800000) (hi:i<100)
  (k1: ∀t,x8 V ts i=.ok t->∀h' z,Ef h' (λy=>h.size<=y) t z->Fr No h h'->R (.tuple #[z.agg,.I 0]) h')
  (k2: ∀e,x8 V ts i=.error e->∀h',Fr No h h'->R (.tuple #[zv.agg,.I e]) h'):Cl F.qG #[.slice q l c,.I (i:Int)] h R:=by
 have ln:=TS.len;have el:=L.len;have l9:=kN ts;refine qG.walk (aa.dI λb h1 eb hb f1=>aK.of λJ hJ=> ?_);have zb:=aI hb;have no: ∀g e,Fr No h1 g->x8 V ts i=.error e->aa.dW g (AA b 0) .z λg'=>aa.dh g' (AA b 0) λr=>R (.tuple #[r.agg,.I e]) g':=λg e fg he=>
  Qo (fg.get hb id) λg' f=>k2 e he g' ((f1.tt fg).fresh f (λy e=>by omega))
 rw[dM];have hS:x8 V ts i=x8 V ts i:=rfl;conv at hS=>rhs;unfold x8
 by_cases nR:i<ts.length
 case neg=>
  rw[ay (by omega)];rw[ai nR] at hS;subst hJ;dsimp only;rw[ag rfl];exact no h1 1 (Fr.refl _ _) hS
 rw[ag nR] at hS;rw[decide_eq_false (by omega)];subst hJ;dsimp only;rw[ai (show¬false=true by decide)];refine Oh (L.frame f1 (λ_ _=>id)) (TS.on f1) (by omega) hi λh4 f4=>⟨_,rfl,aK.of λJ1 pB=>aeH U (u.tt (f1.tt f4)) (L.frame (f1.tt f4) (λ_ _=>id)) (TS.on (f1.tt f4)) (by omega) λh5 f5=>⟨_,rfl,?_⟩⟩
 have ty2:=Oi ts i;have F5:=f1.tt (f4.tt f5);have no5: ¬(ts.all (lB V)=true/\0<=typeAt ts i)->J1 true h5:=λhn=>by
  subst pB;dsimp only;rw[ag rfl];exact no h5 3 (f4.tt f5) (by rw[hS,ai hn])
 cases ha:ts.all (lB V) with
 |false=>rw[jy];exact no5 (λe=>by rw[ha] at e;cases e.1)
 |true=>
 rw[dM];by_cases ht:0<=typeAt ts i
 case neg=>rw[ay (by omega)];exact no5 (λe=>ht e.2)
 rw[decide_eq_false (by omega)];clear no5;rw[ag ⟨ha,ht⟩] at hS;subst pB;dsimp only;rw[ai (show¬false=true by decide)];refine rV (L.frame F5 (λ_ _=>id)) (TS.on F5) (by omega) λh7 z tz f7=>aa.ex z.s ⟨rfl,aa.j9 (x:=z.s) λb1 h9 uh dx f9=>aK.of λJ2 zY=> ?_⟩
 have z1:=f1.1;have z4:=f4.1;have z5':=f5.1;have z5:=F5.1;have z7:=f7.1;have z9:=f9.1;have PU:=aI dx;have F9:=F5.tt (f7.tt f9);have done: ∀g (w:CV) t,Ef g (λy=>h5.size<=y/\y≠b1) t w->room t<=900000->aa.jx g b1 w.s->Fr (λy=>h5.size<=y) h9 g->(x8 V ts i=if lB V t=true then .ok t else .error 3)->J2 g:=by
  intro g w t tw rt hw fg he;subst zY;try dsimp only
  have Fg:Fr No h g:=F9.fresh fg (λy e=>by omega);have hbg: ∀ {g2},Fr No g g2->aa.jx g2 b .z:=λf=>f.get (fg.get ((f4.tt (f5.tt (f7.tt f9))).get hb id) (by omega)) id
  refine aa.jk hw (ic U (u.tt Fg) tw.u (by omega) λyj f11=>⟨_,rfl,?_⟩);cases hq:lB V t with
  |false=>
   rw[jy];rw[hq] at he;exact Qo (hbg f11) λg' f=>k2 3 he g' ((Fg.tt f11).fresh f (λy e=>by omega))
  |true=>
   rw[dM];rw[hq,ag rfl] at he;refine aa.jk (f11.get hw id) (fin (hbg f11) (tw.frame f11 (λ_ _=>id)) (λy hy e=>by have:=f1.1;omega) λGQ t13 f13=>k1 t he GQ w (t13.mono λy hy=>by omega) ((Fg.tt f11).fresh f13 (λy e=>by omega)))
 have tz9:Ef h9 (λy=>h5.size<=y/\y≠b1) (DF ts) z:=by
  obtain⟨⟨a1,a2,a3,a4⟩,zs,a5,a6,a7,a8⟩:=tz;refine⟨⟨a1,a2,a3,((Sx a4).mono λy hy=>by omega).frame f9 (λ_ _=>id)⟩,zs,a5,a6.frame f9 (λ_ _=>id),λy hy=>⟨a7 y hy,by have:=a6.gn hy;omega⟩,(dH.mono (λy hy=>by have h1:=hy.1.1;have h2:=hy.2;exact⟨⟨h1,by omega⟩,hy.1.2⟩) a8.lt).on f9⟩
 by_cases hp:0<typeAt ts i
 case neg=>
  rw[dM];rw[ai hp] at hS;exact done h9 z (DF ts) tz9 (by simp only[room,bD];omega) dx (Fr.refl _ _) hS
 rw[ag (ay hp)];rw[ag hp] at hS;obtain⟨sum,Uv⟩:=mH ht;rw[Uv] at hS⊢;rw[aL] at hS;refine Tn U (u.tt F9) (L.frame F9 (λ_ _=>id)) (TS.on F9) (by omega) (by omega) (by omega) (λbs hs Dw p14 c14 row lb nb f14=>⟨_,_,_,_,rfl,?_⟩) (λhs Dw f14=>⟨_,_,_,_,rfl,?_⟩)
 ·rw[dM];rw[hs] at hS;refine⟨_,_,_,af (f14.get dx id) rfl,zE row rfl (by omega) λvZ v ev ov f16=>aa.ex (CV.s ⟨2,0,v,none,0,0⟩) ⟨rfl,f16.kp,?_⟩⟩;have F16:=f14.tt f16;have g0:Fr (λy=>y=b1) h5 h9:=(f7.tt f9).mono λ_ _=>False.elim
  obtain⟨zs,ez,Lz⟩:=aeE (g0:=h5) tz9 dx g0;have ezl:z.s.xP=zs.length:=ez.symm;have zl:zs.length=ts.length:=by have:=Lz.tr.len;exact this.symm
  have q9: ∀y,aQ z.q y->y<h9.size:=λy hy=>Lz.own.gn hy
  have z14:=f14.1;have z16:=f16.1;have L16:=Lz.on F16;rw[ezl];obtain⟨zk,zn,zv_,_⟩:=tz9.1;refine aeG L16 (by omega) (kU.mono (λy hy=>⟨by omega,λhq=>by have:=q9 y hq;omega⟩) (NU ov)) λg' QR q' DO L' hl JB ho=> ?_
  have Vy:z.v.ok g' (λy=>h5.size<=y/\y≠b1):=by
   have e0:z.v.b= []:=zv_;exact⟨by rw[e0];exact Row.nil,λe=>absurd e0 e,tz9.1.2.2.2.cap⟩
  have tw:=aeF (k':=z.n) L' Vy;have ek:z.k=4:=zk;have en:z.n=0:=zn;have e0:z.v.b= []:=zv_;rw[ek,en,e0,ev] at tw;have lr:=mQ (a:=ts) (b:= [BH bs]);simp only[dZ,room,bD] at lr;refine done g' ⟨z.k,z.n,z.v,q',QR.length,DO⟩ (DF (ts++ [BH bs])) (by rw[ek,en];exact tw) (by simp only[room,bD];omega) L'.dF ?_ hS;refine⟨by omega,λy hy hn=> ?_⟩;rw[L'.fr.2 y (by omega) (by omega),(f7.tt f9).2 y (by omega) id]
 ·rw[jy];rw[hs] at hS;exact Qo (f14.get ((f4.tt (f5.tt (f7.tt f9))).get hb id) id) λg' f=>k2 3 hS g' ((F9.tt f14).fresh f (λy e=>by have:=f1.1;omega))
theorem vX {i : Nat} {t : Tr} {x : CV} (U : xQ V h0) (u : Fr No h0 h) (tx : SW h t x) (hr : room t ≤ 800000) (hi : i < 100)
    (k1 : ∀ us, Be V t i = .ok us → dZ us ≤ dZ t.l → ∀ h' p zs c, xE h' (λy => h.size ≤ y) p zs.length c zs → dH h' (λy => h.size ≤ y) us zs → Fr No h h' → R (.tuple #[.slice p zs.length c, .int .i64 0]) h')
    (k2 : ∀ e, Be V t i = .error e → e ≠ 0 → ∀ h', Fr No h h' → R (.tuple #[.slice none 0 0, .int .i64 e]) h') : Cl F.qH #[x.agg, .int .i64 (i : Int)] h R := by
  obtain ⟨xk, xn, xb, xl, xv, ys, L, TS⟩ := kU.kn tx
  have rl := yU (t := t)
  have ln := TS.len
  have el := L.len
  have l9 := kN t.l
  have e4 : x.s.f0 = t.k := xk
  have arl : x.s.xP = t.l.length := xl
  refine qH.walk (x := x.s) (aa.dI λb h1 eb hb f1 => aK.of λJ hJ => aa.jk hb (ic U (u.tt f1) (tx.on f1) (by omega) λh3 f3 => ⟨_, rfl, ?_⟩))
  have F3 := f1.tt f3
  have kT := f3.get hb id
  have hO : Be V t i = Be V t i := rfl
  conv at hO => rhs; unfold Be
  have bad : ¬ (lB V t = true ∧ t.k = 4 ∧ 0 ≤ typeAt t.l i) → ∀ g, Fr No h g → R (.tuple #[.slice none 0 0, .int .i64 3]) g := λhn g fg => k2 3 (by rw [hO, if_neg hn]) (by decide) g fg
  have als : ¬ (lB V t = true ∧ t.k = 4 ∧ 0 ≤ typeAt t.l i) → J true h3 := λhn => by
    subst hJ
    dsimp only
    rw [if_pos rfl]
    exact bad hn h3 F3
  cases hR : lB V t with
  | false => exact als (λe => by rw [hR] at e; cases e.1)
  | true =>
  rw [if_neg (show ¬ (!true) = true by decide)]
  refine ⟨_, af kT rfl, ?_⟩
  rw [e4]
  by_cases k4 : t.k = 4
  case neg => rw [show (t.k != 4) = true by simpa using k4]; exact als (λe => k4 e.2.1)
  rw [show (t.k != 4) = false by simpa using k4]
  clear als
  subst hJ
  dsimp only
  rw [if_neg (show ¬ false = true by decide)]
  refine ⟨_, _, _, af kT rfl, Oh (L.frame F3 (λ_ _ => id)) (TS.on F3) (by omega) hi λh4 f4 => ⟨_, rfl, ?_⟩⟩
  have F4 := F3.tt f4
  have mb := f4.get kT id
  by_cases ht : 0 ≤ typeAt t.l i
  case neg => rw [if_pos (decide_eq_true (by omega))]; exact bad (λe => ht e.2.2) h4 F4
  rw [if_neg (by simp only [decide_eq_true_eq]; omega)]
  rw [if_pos ⟨hR, k4, ht⟩] at hO
  clear bad
  have Zo : ∀ {g} (us : List Tr) (zs : List CV) {n c : Nat} {p : Option Addr}, xE g (λ_ => True) p n c zs → Mu g us zs → dZ us ≤ dZ t.l → Fr No h g → Be V t i = .ok us → Cl F.fO #[.slice p n c] g λou cQ => aa.EX λt84 => ou = t84.agg ∧ R (.tuple #[.slice t84.BO t84.xP t84.Ay, .int .i64 0]) cQ := by
    intro g us zs n c p Lz Tz rz fg hu
    refine rV Lz Tz (by omega) λvk z tz f10 => aa.ex z.s ⟨rfl, ?_⟩
    obtain ⟨_, ws, a5, a6, a7, a8⟩ := tz
    have zg := fg.1
    have := k1 us hu rz vk z.q ws z.cl ⟨rfl, a6.qa, λ_ y hy => by have := a7 y hy; omega, a6.le⟩ (dH.mono (λy hy => by have := hy.1; omega) a8) (fg.tt f10)
    rw [← a5] at this
    exact this
  by_cases h0 : typeAt t.l i = 0
  · rw [if_pos (by rw [h0]; rfl)]
    rw [if_pos h0] at hO
    exact ⟨_, _, _, af mb rfl, Zo t.l ys (L.frame F4 (λ_ _ => id)) (TS.on F4) (Nat.le_refl _) F4 hO⟩
  rw [if_neg (by simpa using h0)]
  rw [if_neg h0] at hO
  have MK : i < t.l.length := by
    rcases Nat.lt_or_ge i t.l.length with hq | hq
    · exact hq
    · have : typeAt t.l i = -1 := by unfold typeAt; rw [if_neg (λe => by omega)]
      omega
  have ty2 := Oi t.l i
  obtain ⟨sum, Uv⟩ := Int.eq_ofNat_of_zero_le ht
  rw [Uv] at hO ⊢
  rw [Int.toNat_natCast] at hO
  have ai1 : 1 ≤ sum ∧ sum ≤ 2 := by omega
  obtain ⟨n, hn⟩ : ∃ n, t.l.length = n + 1 := ⟨t.l.length - 1, by omega⟩
  rw [show t.l.length - 1 = n by omega] at hO
  have ew : IntKind.wrap .i64 (((x.s.xP : Nat) : Int) - 1) = (n : Int) := by rw [arl, hn, bL (by omega) (by omega)]; omega
  refine ⟨_, _, _, af mb rfl, ?_⟩
  rw [ew]
  obtain ⟨a, y, ea, hh, ty, _⟩ := elem (L.frame F4 (λ_ _ => id)) (TS.on F4) (i := n) (by omega)
  have rn := sa (ts := t.l) (i := n) (by omega)
  obtain ⟨yk, yn, yb, yl, yv, _⟩ := kU.kn ty
  generalize HJ : at_ t.l n = la at ty rn yk yn yb yl hO
  have rla := yU (t := la)
  refine ⟨_, _, _, af mb rfl, ⟨by omega, by omega⟩, cH.2 ⟨a, ea, aa.yT (x := y.s) (by rw [Int.toNat_natCast]; exact hh) (aa.j9 (x := y.s) λb1 h6 uh dx f6 => aK.of λJ1 pB => ?_)⟩⟩
  have F6 := F4.tt f6
  have lb : y.s.tT = la.b.length := by show y.v.b.length = _; rw [yb]
  have bad : ∀ g, Fr No h6 g → ¬ (i < n ∧ yW la (BH la.b) = true ∧ la.b.length = 2 * sum) → J1 true g := λg fg hn => by
    subst pB
    try dsimp only
    rw [if_pos rfl]
    exact k2 3 (by rw [hO, if_neg hn]) (by decide) g (F6.tt fg)
  by_cases c1 : i < n
  case neg => rw [if_pos (decide_eq_true (by omega))]; exact bad h6 (Fr.refl _ _) (λe => c1 e.1)
  rw [if_neg (by simp only [decide_eq_true_eq]; omega)]
  have ao0 : ∀ {g}, Fr No h6 g → Row g y.v.p (bc la.b) := λfg => by rw [← yb]; exact ((yv.frame f6 (λ_ _ => id)).frame fg (λ_ _ => id)).row
  refine aa.jk dx ⟨_, _, _, af dx rfl, zE (ao0 (Fr.refl _ _)) lb (by omega) λyj v ev ov f11 => aa.ex (CV.s ⟨2, 0, v, none, 0, 0⟩) ⟨rfl, f11.kp, ?_⟩⟩
  refine pW (x := y) (y := ⟨2, 0, v, none, 0, 0⟩) (s := BH la.b) (ty.on (f6.tt f11)) (ev ▸ NU ov) (by omega) λmF f12 => ⟨_, rfl, ?_⟩
  have PG := f11.tt f12
  cases c2 : yW la (BH la.b) with
  | false => rw [if_pos (by decide)]; exact bad mF PG (λe => by rw [c2] at e; cases e.2.1)
  | true =>
  rw [if_neg (show ¬ (!true) = true by decide)]
  refine ⟨_, _, _, af (PG.get dx id) rfl, mO.walk ⟨_, rfl, (Fr.refl _ _).kp, ?_⟩⟩
  rw [lb, bL (n := 2 * (sum : Int)) (by omega) (by omega)]
  by_cases c3 : la.b.length = 2 * sum
  case neg => rw [show (((la.b.length : Nat) : Int) != 2 * (sum : Int)) = true by simp only [bne_iff_ne, ne_eq]; omega]; exact bad mF PG (λe => c3 e.2.2)
  rw [show (((la.b.length : Nat) : Int) != 2 * (sum : Int)) = false by simp only [bne_eq_false_iff_eq]; omega]
  clear bad
  rw [if_pos ⟨c1, c2, c3⟩] at hO
  subst pB
  try dsimp only
  rw [if_neg (show ¬ false = true by decide)]
  have G12 := F6.tt PG
  have cut : ∀ {g}, Fr No h g → xE g (λ_ => True) (da x.s.BO x.s.Ay 0 4) ((Int.toNat (n : Int)) - 0) (x.s.Ay - 0) (ys.take n) := fun {g} fg => by
    have hr := (L.frame fg (λ_ _ => id)).row.sub (cap := x.cl) (l := 0) (u := n) (sz := 4) (Nat.zero_le _) (by have := L.cap; omega)
    rw [wu mK 4 jS, Nat.zero_mul, List.drop_zero] at hr
    have hc : x.ll ≤ x.cl := L.cap
    exact ⟨by rw [List.length_take]; omega, hr, λ_ _ _ => trivial, by show n - 0 ≤ x.cl - 0; omega⟩
  have cc : n ≤ x.s.Ay := by have hc : x.ll ≤ x.cl := L.cap; show n ≤ x.cl; omega
  have rt : dZ (t.l.take n) ≤ dZ t.l := yS _ _
  refine ⟨_, _, _, af ((f6.tt PG).get mb id) rfl, ⟨by omega, by omega⟩, Tn U (u.tt G12) (cut G12) ((TS.on G12).take n) (by omega) ai1.1 ai1.2 (λbs hs Dw p14 c14 row lbs nb f14 => ⟨_, _, _, _, rfl, ?_⟩) (λhs Dw f14 => ⟨_, _, _, _, rfl, ?_⟩)⟩
  · rw [if_neg (by decide)]
    rw [hs] at hO
    dsimp only at hO
    refine ⟨_, _, _, af ((PG.tt f14).get dx id) rfl, AY row (ao0 (PG.tt f14)) rfl lb ⟨_, rfl, ?_⟩⟩
    have G14 := G12.tt f14
    by_cases ce : bs = la.b
    · rw [decide_eq_true ce, if_neg (show ¬ (!true) = true by decide)]
      rw [if_pos ce] at hO
      exact ⟨_, _, _, af (((f6.tt PG).tt f14).get mb id) rfl, ⟨by omega, by omega⟩, Zo (t.l.take n) (ys.take n) (cut G14) ((TS.on G14).take n) rt G14 hO⟩
    · rw [decide_eq_false ce, if_pos (show (!false) = true by decide)]
      rw [if_neg ce] at hO
      exact k2 10 hO (by decide) Dw G14
  · rw [if_pos (by decide)]
    rw [hs] at hO
    exact k2 3 hO (by decide) Dw (G12.tt f14)
end Bn
end
section
namespace Bn
open Cb
open qJ (Ev dk uH)
variable {V:List UInt8→Bool} {h h0 h':aj} {R:iI}
abbrev Prim.s (p:Prim):aC.S:=⟨p.fl,p.sum,p.dest.vE,p.dest.node,p.dest.ma,p.dest.host,p.dest.sN,p.rep.vE,p.rep.node,p.rep.ma,p.rep.host,p.rep.sN,p.id.e.vE,p.id.e.node,p.id.e.ma,p.id.e.host,p.id.e.sN,p.id.tm,p.id.sq,p.gJ⟩
def Prim.wf (p:Prim):Prop:=0<=p.dest.ma/\0<=p.rep.ma/\0<=p.id.e.ma
theorem ao1 {b:Nat} {y:aC.S} (x:Prim) {K:aC.S->aj->Prop} (hb:aC.jx h b y) (hk: ∀h',Fr (λy=>y=b) h h'->K x.s h'):
  aC.dW h (AA b 0) x.s λg=>aC.dh g (AA b 0) λr=>K r g:=
 aC.mB (x:=x.s) hb λg d1 f _=>aC.jk d1 (hk g f)
theorem abc (p:Prim) (hk: ∀h',Fr No h h'->R (.bool (qR p)) h'):Cl F.rB #[p.s.agg] h R:=by
 refine rB.walk (aC.dI λb h1 eb hb f1=>⟨_,af hb rfl,?_⟩);have no: ∀g,Fr No h g->qR p=false->R (.bool false) g:=λg fg e=>by have:=hk g fg;rw[e] at this;exact this
 change if flB (p.fl:Int) 409638=true then _ else _
 by_cases c1:flB (p.fl:Int) 409638=true
 case neg=>rw[ai c1];exact no h1 f1 (by unfold qR;simp[c1])
 rw[ag c1];refine⟨_,af hb rfl,?_⟩;by_cases c2:0<=p.sum
 case neg=>rw[ai (by simp only[bf];exact c2)];exact no h1 f1 (by unfold qR;simp[c2])
 rw[ag (ay c2)];refine⟨_,af hb rfl,?_⟩;by_cases c3:p.sum<=2
 case neg=>rw[ai (by simp only[bf];exact c3)];exact no h1 f1 (by unfold qR;simp[c3])
 rw[ag (ay c3)];refine oB p.dest hb rfl rfl rfl rfl rfl (qJ.ic p.dest λh2 f2=>⟨_,rfl,?_⟩);cases c4:dk p.dest with
 |false=>exact no h2 (f1.tt f2) (by unfold qR;simp[c4])
 |true=>
 rw[ag rfl];have fJ:=f2.get hb id;refine oB p.rep fJ rfl rfl rfl rfl rfl (qJ.ic p.rep λh3 f3=>⟨_,rfl,?_⟩);have F3:=f1.tt (f2.tt f3);cases c5:dk p.rep with
 |false=>exact no h3 F3 (by unfold qR;simp[c5])
 |true=>
 rw[ag rfl];have kT:=f3.get fJ id;refine Lx p.id kT rfl rfl rfl rfl rfl rfl rfl (DC p.id λh4 f4=>⟨_,rfl,?_⟩);cases c6:lD p.id with
 |false=>exact no h4 (F3.tt f4) (by unfold qR;simp[c6])
 |true=>
 rw[ag rfl];refine⟨_,af (f4.get kT id) rfl,?_⟩;have:=hk h4 (F3.tt f4);unfold qR at this;rw[c1,ay c2,ay c3,c4,c5,c6] at this;rw[show decide ((p.s.f19:Int)<=1099511627776)=decide (p.gJ<=1099511627776) from vD p.gJ 1099511627776];exact this
theorem Oj {p:Prim} (h:qR p=true):0<=p.sum/\p.sum<=2/\dk p.dest=true/\dk p.rep=true/\lD p.id=true/\p.gJ<=1099511627776:=by
 unfold qR at h;simp only[aW,bf] at h;exact⟨h.1.1.1.1.1.2,h.1.1.1.1.2,h.1.1.1.2,h.1.1.2,h.1.2,h.2⟩
theorem LB {p:Prim} (h:qR p=true):dZ (Rz p)<=1000:=by
 obtain⟨_,_,a,b,c,_⟩:=Oj h;have:=wC _ a;have:=wC _ b;have:=wC _ (Ly c).1;simp only[Rz,dZ,room,bD];omega
theorem LC {ts:List Tr} {i:Nat} {t:Tr} (h:x8 V ts i=.ok t):room t<=dZ ts+30:=by
 unfold x8 at h;split at h
 ·split at h
  ·split at h
   ·split at h
    ·cases h
    ·rename_i b hb;split at h
     ·cases h;have:b.length<=4:=by
       unfold sumOf at hb;split at hb
       ·cases hb;split<;>simp[O9,Wa]
       ·cases hb
      simp only[room,mQ,dZ,bD];omega
     ·cases h
   ·split at h
    ·cases h;simp only[room,bD];omega
    ·cases h
  ·cases h
 ·cases h
theorem LF {p:Prim} {t:Tr} (h:x9 V p=.ok t):room t<=1100:=by
 unfold x9 at h;split at h
 ·rename_i hr;have:=LC h;have:=LB hr;omega
 ·cases h
theorem aeJ (p:Prim) (w:p.wf) (U:xQ V h0) (u:Fr No h0 h) (k1: ∀t,x9 V p=.ok t->∀h' z,Ef h' (λy=>h.size<=y) t z->Fr No h h'->R (.tuple #[z.agg,.I 0]) h')
  (k2: ∀e,x9 V p=.error e->∀h',Fr No h h'->R (.tuple #[zv.agg,.I e]) h'):Cl F.nt #[p.s.agg] h R:=by
 refine nt.walk (aC.dI λb h1 eb hb f1=>aa.dI λb1 h2 uh dx f2=>aC.jk (x:=p.s) (f2.get hb id) (abc p λh3 f3=>⟨_,rfl,?_⟩));have kT:=(f2.tt f3).get hb id;have qx:=f3.get dx id;have F3:=f1.tt (f2.tt f3);have z1:=f1.1;have PU:=aI dx;have z3:=f3.1;unfold x9 at k1 k2;cases hr:qR p with
 |false=>exact Qo qx λh4 f4=>k2 3 (by rw[hr,dM]) h4 (F3.fresh f4 (λy e=>by omega))
 |true=>
 rw[dM];rw[hr,ag rfl] at k1 k2;obtain⟨s0,s2,eD,eR,eI,_⟩:=Oj hr;have hE:=(Ly eI).1;refine oB p.dest kT rfl rfl rfl rfl rfl (Hf p.dest w.1 (λ_ h5 zd td f5=>aa.ex zd.s ⟨_,rfl,aa.j9 (x:=zd.s) λb2 h7 FH fJ f7=> ?_⟩) (λe=>by rw[eD] at e;cases e));have F7:=f5.tt f7;refine oB p.rep (F7.get kT id) rfl rfl rfl rfl rfl (Hf p.rep w.2.1 (λ_ h8 zr tr f8=>aa.ex zr.s ⟨_,rfl,aa.j9 (x:=zr.s) λb3 vk LQ Lw f10=> ?_⟩) (λe=>by rw[eR] at e;cases e));have Nj:=F7.tt (f8.tt f10);refine Lx p.id (Nj.get kT id) rfl rfl rfl rfl rfl rfl rfl (N4 p.id w.2.2 (λ_ yj zi ti f11=>aa.ex zi.s ⟨_,rfl,aa.j9 (x:=zi.s) λb4 GQ VA mb f13=> ?_⟩) (λe=>by rw[eI] at e;cases e));have F13:=Nj.tt (f11.tt f13);have aeK:=F13.get kT id;have aeg:=(f8.tt (f10.tt (f11.tt f13))).get fJ id;have ao2:=(f11.tt f13).get Lw id;obtain⟨ik,inn,ib,il,iv,ys,L,TS⟩:=kU.kn (ti.u.on f13);have lI:(idT p.id).l.length=2:=rfl;have li:zi.s.xP=2:=il;obtain⟨a0,y0,ea0,hh0,Yu,_⟩:=elem L TS (i:=0) (by omega);obtain⟨a1,y1,Yw,V1,VE,_⟩:=elem L TS (i:=1) (by omega);refine⟨_,af aeK rfl,_,af aeK rfl,aa.jk aeg ⟨_,_,_,af mb rfl,⟨by omega,by omega⟩,cH.2 ⟨a0,ea0,aa.yT (x:=y0.s) hh0 (aa.jk ao2 ⟨_,_,_,af mb rfl,⟨by omega,by omega⟩,cH.2 ⟨a1,Yw,aa.yT (x:=y1.s) V1 ⟨_,af aeK rfl,?_⟩⟩⟩)⟩⟩⟩;obtain⟨sum,hs⟩:=mH s0;have es:p.sum.toNat=sum:=by omega
 refine jw (n:=7) λDw f14=>aa.ex (nv 7).s ⟨rfl,f14.kp,jw (n:=p.fl) λGZ f15=>aa.ex (nv p.fl).s ⟨rfl,f15.kp,?_⟩⟩
 rw[show p.s.f1=(sum:Int) from hs,wrap_u64 (n:=(sum:Int)) (by omega) (by omega)];refine jw (n:=sum) λvZ f16=>aa.ex (nv sum).s ⟨rfl,f16.kp,jw (n:=p.gJ) λQr f17=>aa.ex (nv p.gJ).s ⟨rfl,f17.kp,Aa (ys:= [nv 7,nv p.fl,nv sum,zd,y0,zr,y1,nv p.gJ]) rfl λb5 Gm eb5 L5 f18=>⟨f18.kp,?_⟩⟩⟩
 have G:=f14.tt (f15.tt (f16.tt (f17.tt f18)));have T5:Mu Gm (Rz p) [nv 7,nv p.fl,nv sum,zd,y0,zr,y1,nv p.gJ]:=by
  unfold Rz;rw[es];exact .cons xL (.cons xL (.cons xL (.cons (td.u.on (f7.tt (f8.tt (f10.tt (f11.tt (f13.tt G)))))) (.cons (Yu.on G) (.cons (tr.u.on (f10.tt (f11.tt (f13.tt G)))) (.cons (VE.on G) (.cons xL .nil)))))))
 have Mv:=F13.tt G;have rp:=LB hr;refine Zn (i:=2) U (u.tt (F3.tt Mv)) (L5 (λ_=>True) trivial) T5 (by omega) (by omega) (λt ht h19 z tz f19=>aa.ex z.s ⟨_,rfl,?_⟩) (λe he h19 f19=>aa.ex zv.s ⟨_,rfl,?_⟩)
 ·have z18:=Mv.1;exact fin ((Mv.tt f19).get qx id) tz (λy hy e=>by omega) λQp t20 f20=>k1 t ht Qp z (t20.mono λy hy=>by omega) ((F3.tt (Mv.tt f19)).fresh f20 (λy e=>by omega))
 ·exact Qo ((Mv.tt f19).get qx id) λQp f20=>k2 e he Qp ((F3.tt (Mv.tt f19)).fresh f20 (λy e=>by omega))
theorem Ol {ts:List Tr} {i:Nat} {e:Int} (h:x8 V ts i=.error e):e≠0:=by
 unfold x8 at h;split at h
 ·split at h
  ·split at h
   ·split at h
    ·rename_i hb;cases h;unfold sumOf at hb;split at hb
     ·cases hb
     ·cases hb;decide
    ·split at h
     ·cases h
     ·cases h;decide
   ·split at h
    ·cases h
    ·cases h;decide
  ·cases h;decide
 ·cases h;decide
theorem abd {p:Prim} {e:Int} (h:x9 V p=.error e):e≠0:=by
 unfold x9 at h;split at h
 ·exact Ol h
 ·cases h;decide
theorem aeL (p:Prim) (w:p.wf) (U:xQ V h0) (u:Fr No h0 h) (hk: ∀h' z q,(∀t,x9 V p=.ok t->q=0/\SW h' t z)->(∀e,x9 V p=.error e->q≠0)->Fr No h h'->R (.tuple #[z.s.agg,.I q]) h'):Cl F.nt #[p.s.agg] h R:=
 aeJ p w U u (λt ht h' z tz f=>hk h' z 0 (λt' e=>by rw[ht] at e;cases e;exact⟨rfl,tz.u⟩) (λe he=>by rw[ht] at he;cases he) f) (λe he h' f=>hk h' zv e (λt ht=>by rw[he] at ht;cases ht) (λ_ _=>abd he) f)
theorem aeM {t:Tr} {x:CV} (U:xQ V h0) (u:Fr No h0 h) (mx:Gj.Mx h) (tx:SW h t x) (hr:room t<=400000)
  (k1: ∀p,HR V t=.ok p->p.wf->∀h',Fr No h h'->R (.tuple #[p.s.agg,.I 0]) h') (k2: ∀e,HR V t=.error e->e≠0->∀h',Fr No h h'->R (.tuple #[Prim.zero.s.agg,.I e]) h'):Cl F.te #[x.agg] h R:=by
 have rl:=yU (t:=t);refine te.walk (x:=x.s) (aa.dI λb h1 eb hb f1=>aC.dI λb1 h2 uh dx f2=>aa.jk (f2.get hb id) ?_);have F2:=f1.tt f2;have fJ:=f2.get hb id;have zb:=aI hb;have PU:=aI dx;have z1:=f1.1;have z2:=f2.1;have no: ∀g e,Fr No h2 g->HR V t=.error e->e≠0->aC.dW g (AA b1 0) .z λg'=>aC.dh g' (AA b1 0) λr=>R (.tuple #[r.agg,.I e]) g':=λg e fg he hn=>
  ao1 .zero (fg.get dx id) λg' f=>k2 e he hn g' ((F2.tt fg).fresh f (λy e=>by omega))
 have hP:HR V t=HR V t:=rfl;conv at hP=>rhs;unfold HR
 refine vX (i:=2) U (u.tt F2) (tx.on F2) (by omega) (by omega) (λus hu ru h3 p zs c L TS f3=>⟨_,_,_,_,rfl,?_⟩) (λe he hn h3 f3=>⟨_,_,_,_,rfl,?_⟩)
 case refine_2=>
  rw[ag (by simpa using hn)];exact no h3 e f3 (by rw[hP,he]) hn
 rw[dM];rw[hu] at hP;dsimp only at hP;have ln:=TS.len;have l9:=kN us;by_cases l8:us.length=8
 case neg=>
  rw[ag (by simp only[fL,iq];omega)];exact no h3 3 f3 (by rw[hP,ai l8]) (by decide)
 rw[ai (by simp only[fL,iq];omega)];rw[ag l8] at hP;have z3:=f3.1;have it: ∀i,i<8->∃(a:Addr) (y:CV),p=some a/\fF (a.add (i*4)) y.s.l 0 h3/\SW h3 (at_ us i) y/\(∀ {g},Fr No h3 g->ak g ((a.add (i*4)).add 1)=some (.U ((at_ us i).n:Int))):=λi hi=>by
  obtain⟨a,y,ea,hh,ty,_⟩:=elem L TS (i:=i) (by omega);obtain⟨_,yn,_⟩:=kU.kn ty;exact⟨a,y,ea,hh,ty.u,λfg=>fg.cell (by have:=hh.2.1;rw[<-yn];exact this) id⟩
 have rat: ∀i,i<8->room (at_ us i)<=dZ us:=λi hi=>sa (by omega)
 obtain⟨a3,y3,ea3,hh3,ty3,_⟩:=it 3 (by omega);have r3:=rat 3 (by omega);have r5:=rat 5 (by omega);have r4:=rat 4 (by omega);have r6:=rat 6 (by omega);have u2:=u.tt F2;have m2:=mx.on F2;refine⟨⟨by omega,by omega⟩,cH.2 ⟨a3,ea3,aa.yT (x:=y3.s) hh3 (Qu U (u2.tt f3) (m2.on f3) ty3 (by omega) λd qd ⟨hd0,hd1,wd⟩ h6 f6=>az.ex d.s ⟨_,rfl,az.j9 (x:=d.s) λb2 h8 FH aeg f8=> ?_⟩)⟩⟩;obtain⟨a5,y5,ea5,hh5,ty5,_⟩:=it 5 (by omega);have F8:=f6.tt f8;refine⟨⟨by omega,by omega⟩,cH.2 ⟨a5,ea5,aa.yT (x:=y5.s) (uQ F8 id hh5) (Qu U (u2.tt (f3.tt F8)) (m2.on (f3.tt F8)) (ty5.on F8) (by omega) λr qr ⟨hr0,pL,wr⟩ h9 f9=>az.ex r.s ⟨_,rfl,az.j9 (x:=r.s) λb3 yj LQ Lw f11=>aK.of λJ hJ=> ?_⟩)⟩⟩;obtain⟨a4,y4,ea4,hh4,ty4,_⟩:=it 4 (by omega);obtain⟨a6,y6,ea6,hh6,ty6,_⟩:=it 6 (by omega);have Qt:=F8.tt (f9.tt f11);have ao3:=(f9.tt f11).get aeg id;have u11:=u2.tt (f3.tt Qt);have m11:=m2.on (f3.tt Qt);have rest: ∀g s (x3:oZ) (q:Int),ah.jx g s x3.s->Fr No yj g->IQ V (DF [at_ us 4,at_ us 6]) x3 q->J (some (AA s 0)) q g:=by
  intro g s x3 q hs fg ⟨hq0,HA,wq⟩;have Fg:=Qt.tt fg;obtain⟨cE,w1,ew1,_,_,cw1⟩:=it 1 (by omega);obtain⟨eZ,w2,ew2,_,_,cw2⟩:=it 2 (by omega);obtain⟨b_7,w7,ew7,_,_,cw7⟩:=it 7 (by omega);subst hJ;dsimp only;refine⟨⟨by omega,by omega⟩,cH.2 ⟨cE,ew1,_,cw1 Fg,⟨by omega,by omega⟩,cH.2 ⟨eZ,ew2,_,cw2 Fg,az.jk (fg.get ao3 id) (az.jk (fg.get Lw id) (aB.2 (ah.jk hs ⟨⟨by omega,by omega⟩,cH.2 ⟨b_7,ew7,_,cw7 Fg,?_⟩⟩)))⟩⟩⟩;have n2:(at_ us 2).n<=2:=by
   have:0<=typeAt us 2:=by
    unfold Be at hu;split at hu
    ·rename_i h1;have key: ∀k,2<k->typeAt (t.l.take k) 2=typeAt t.l 2:=λk hk=>by
      unfold typeAt at_;rw[ba,ba,dt,ag hk,bR];exact ite_congr (propext (by constructor<;>(rintro⟨a,b⟩;exact⟨by omega,b⟩))) (λ_=>rfl) (λ_=>rfl)
     split at hu
     ·cases hu;exact h1.2.2
     ·split at hu
      ·rename_i h2;split at hu
       ·cases hu
       ·split at hu
        ·cases hu;rw[key _ h2.1];exact h1.2.2
        ·cases hu
      ·cases hu
    ·cases hu
   unfold typeAt at this;split at this
   ·rename_i h1;exact h1.2.1
   ·omega
  refine aC.dI λb4 GQ VA mb f13=>⟨f13.kp,?_⟩
  rw[bL (n:=(((at_ us 2).n:Nat):Int)) (by omega) (by omega)];refine aC.mB (x:=(GF us d r x3).s) mb λDw d14 f14 _=>aC.jk d14 ?_
  have zg:=Fg.1;have G14:Fr No h2 Dw:=(f3.tt (Fg.tt f13)).fresh f14 (λy e=>by omega);refine aeL (GF us d r x3) ⟨wd,wr,wq⟩ U (u2.tt G14) λGZ z qz Wx hz1 f15=>aa.ex z.s ⟨_,rfl,aa.j9 (x:=z.s) λb5 Qr eb5 DK f17=>aK.of λJ1 pB=> ?_⟩
  have G17:=f15.tt f17;have H17:=G14.tt G17;have bad: ∀g,Fr No Qr g->HR V t=.error 3->J1 true g:=λg fg he=>by
   subst pB;try dsimp only
   rw[ag rfl];exact no g 3 (H17.tt fg) he (by decide)
  by_cases c1:qd=0
  case neg=>rw[ag (by simpa using c1)];exact bad Qr (Fr.refl _ _) (by rw[hP,hd1 c1])
  rw[ai (by simpa using c1)];by_cases c2:qr=0
  case neg=>rw[ag (by simpa using c2)];exact bad Qr (Fr.refl _ _) (by rw[hP,pL c2];cases zy V (at_ us 3)<;>rfl)
  rw[ai (by simpa using c2)];by_cases c3:q=0
  case neg=>rw[ag (by simpa using c3)];exact bad Qr (Fr.refl _ _) (by rw[hP,HA c3];cases zy V (at_ us 3)<;>cases zy V (at_ us 5)<;>rfl)
  rw[ai (by simpa using c3)];rw[hd0 c1,hr0 c2,hq0 c3] at hP;dsimp only at hP;cases hW:x9 V (GF us d r x3) with
  |error e=>
   rw[hW] at hP;rw[ag (by simpa using hz1 e hW)];exact bad Qr (Fr.refl _ _) hP
  |ok again=>
   rw[hW] at hP;dsimp only at hP;obtain⟨rfl,tz⟩:=Wx again hW;rw[dM];have ra:=LF hW;refine aa.jk DK (aa.jk (x:=x.s) (H17.get fJ id) (pW (x:=z) (y:=x) (tz.on f17) (tx.on (F2.tt H17)) (by omega) λh21 f21=>⟨_,rfl,?_⟩));cases hs:yW again t with
   |false=>exact bad h21 f21 (by rw[hP,ai (by rw[hs];decide)])
   |true=>
    rw[hs,ag rfl] at hP;subst pB;try dsimp only
    rw[dM];exact aC.jk ((G17.tt f21).get d14 id) (ao1 (GF us d r x3) ((H17.tt f21).get dx id) λg' f=>k1 _ hP ⟨wd,wr,wq⟩ g' ((F2.tt (H17.tt f21)).fresh f (λy e=>by omega)))
 have rI:dZ [at_ us 4,at_ us 6]<=2*dZ us:=by simp only[dZ];omega
 have rI2:room (DF [at_ us 4,at_ us 6])<=900000:=by simp only[room,bD];omega
 refine⟨⟨by omega,by omega⟩,cH.2 ⟨a4,ea4,aa.yT (x:=y4.s) (uQ Qt id hh4) ⟨⟨by omega,by omega⟩,cH.2 ⟨a6,ea6,aa.yT (x:=y6.s) (uQ Qt id hh6) ?_⟩⟩⟩⟩;have T2:Mu yj [at_ us 4,at_ us 6] [y4,y6]:=two (ty4.on Qt) (ty6.on Qt);refine⟨Aa (ys:= [y4,y6]) rfl λb6 h22 eb6 L6 f22=>⟨?_,?_,trivial⟩,ah.dI λb10 h34 arX ajS f34=>⟨f34.kp,Aa (ys:= [y4,y6]) rfl λb11 h35 arY L11 f35=> ?_⟩,trivial⟩
 ·refine rV (L6 (λ_=>True) trivial) (T2.on f22) (by omega) λh23 z tz f23=>aa.ex z.s ⟨rfl,?_,?_,trivial⟩
  ·exact Qv U (u11.tt (f22.tt f23)) (m11.on (f22.tt f23)) tz.u rI2 λx3 q hq h24 f24=>ah.ex x3.s ⟨_,rfl,ah.j9 (x:=x3.s) λb7 h26 eb7 hb7 f26=>rest h26 b7 x3 q hb7 (f22.tt (f23.tt (f24.tt f26))) hq⟩
  ·refine ah.dI λb8 h27 eb8 hb8 f27=>Qv U (u11.tt (f22.tt (f23.tt f27))) (m11.on (f22.tt (f23.tt f27))) (tz.u.on f27) rI2 λx3 q hq h28 f28=>ah.ex x3.s ⟨_,rfl,ah.mB (x:=x3.s) (f28.get hb8 id) λh29 d29 f29 _=>rest h29 b8 x3 q d29 ?_ hq⟩
   exact(f22.tt (f23.tt (f27.tt f28))).fresh f29 (λy e=>by have:=f22.1;have:=f23.1;omega)
 ·refine ah.dI λb9 h30 eb9 hb9 f30=>rV ((L6 (λ_=>True) trivial).frame f30 (λ_ _=>id)) (T2.on (f22.tt f30)) (by omega) λh31 z tz f31=>aa.ex z.s ⟨rfl,Qv U (u11.tt (f22.tt (f30.tt f31))) (m11.on (f22.tt (f30.tt f31))) tz.u rI2 λx3 q hq h32 f32=>ah.ex x3.s ⟨_,rfl,ah.mB (x:=x3.s) ((f31.tt f32).get hb9 id) λh33 d33 f33 _=>rest h33 b9 x3 q d33 ?_ hq⟩⟩
  exact(f22.tt (f30.tt (f31.tt f32))).fresh f33 (λy e=>by have:=f22.1;omega)
 ·refine rV (L11 (λ_=>True) trivial) (T2.on (f34.tt f35)) (by omega) λh36 z tz f36=>aa.ex z.s ⟨rfl,Qv U (u11.tt (f34.tt (f35.tt f36))) (m11.on (f34.tt (f35.tt f36))) tz.u rI2 λx3 q hq h37 f37=>ah.ex x3.s ⟨_,rfl,ah.mB (x:=x3.s) ((f35.tt (f36.tt f37)).get ajS id) λh38 d38 f38 _=>rest h38 b10 x3 q d38 ?_ hq⟩⟩
  exact(f34.tt (f35.tt (f36.tt f37))).fresh f38 (λy e=>by omega)
end Bn
end
section
variable {h:aj} {R:iI}
theorem sc.walk {hH:bV} {fT hN:Nat} (hv:aV h (.cells aa.S.z.arr T.aa) λb aR=>Cl F.uw #[.slice hH fT hN,.I 0] aR λv aZ=>aa.EX λIP=> ∃IS aaM,v=.tuple #[IP.agg,.I IS,.I aaM]/\aV aZ (.cells aa.S.z.arr T.aa) λcE bK=>aa.dW bK (AA cE 0) IP λcC=>aa.dh cC (AA cE 0) λt13=>if(aaM==0) then Cl F.rD #[.slice hH fT hN] cC λeK cK=> ∃t18,eK=.bool t18/\Kp cC cK [(some (AA cE 0))]/\aa.dW cK (AA b 0) t13 λcR=>aa.dh cR (AA b 0) λr0=>R (.tuple #[r0.agg,.bool t18]) cR else aa.dW cC (AA b 0) t13 λcX=>aa.dh cX (AA b 0) λia=>R (.tuple #[ia.agg,.bool false]) cX):Cl F.sc #[.slice hH fT hN] h R:=aS (lq (lq (sq (pK 9) lf))) Tryz.func293 hv
theorem qp.walk {hH:bV} {fT hN:Nat} (hv:aV h (.cells az.S.z.arr T.az) λb aR=>Cl F.sc #[.slice hH fT hN] aR λv aZ=>aa.EX λzt=> ∃zu,v=.tuple #[zt.agg,.bool zu]/\aV aZ (.cells aa.S.z.arr T.aa) λcE bK=>aa.dW bK (AA cE 0) zt λcC=>aa.dh cC (AA cE 0) λt14=>Cl F.tj #[t14.agg] cC λeK cK=>az.EX λBv=> ∃uf,eK=.tuple #[Bv.agg,.I uf]/\aV cK (.cells az.S.z.arr T.az) λeZ cR=>az.dW cR (AA eZ 0) Bv λcX=>az.dh cX (AA eZ 0) λt18=>if zu then az.dW cX (AA b 0) t18 λdB=>az.dh dB (AA b 0) λr0=>R (.tuple #[r0.agg,.bool (uf==0)]) dB else az.dW cX (AA b 0) t18 λff=>az.dh ff (AA b 0) λia=>R (.tuple #[ia.agg,.bool false]) ff):Cl F.qp #[.slice hH fT hN] h R:=aS (lq (lq (lq ll))) Tryz.func252 hv
theorem zc.walk {hH:bV} {fT hN:Nat} (hv:Cl F.sc #[.slice hH fT hN] h λv aR=>aa.EX λMn=> ∃GS,v=.tuple #[Mn.agg,.bool GS]/\aV aR (.cells aa.S.z.arr T.aa) λb aZ=>aa.dW aZ (AA b 0) Mn λbK=> ∃t12,ak bK (AA b 1)=some (.U t12)/\if GS then aa.dh bK (AA b 0) λt15=>Hu bK b 1 λt17=>Cl F.fI #[.U t17] bK λeK cC=>aa.EX λt18=>eK=t18.agg/\Kp bK cC [(some (AA b 0)),(some (AA b 1))]/\Cl F.iB #[t15.agg,t18.agg] cC λgS cK=> ∃t19,gS=.bool t19/\Kp cC cK [(some (AA b 1))]/\if t19 then∃t23,ak cK (AA b 1)=some (.U t23)/\R (.tuple #[.U t12,.bool (decide (t23<=1099511627776))]) cK else R (.tuple #[.U t12,.bool false]) cK else R (.tuple #[.U t12,.bool false]) bK):Cl F.zc #[.slice hH fT hN] h R:=aS (lq (lq (sq (pK 17) lf))) Tryz.func253 hv
theorem wY.walk {hH:bV} {fT hN:Nat} (hv:Cl F.sc #[.slice hH fT hN] h λv aR=>aa.EX λpR=> ∃tD,v=.tuple #[pR.agg,.bool tD]/\aV aR (.cells aa.S.z.arr T.aa) λb aZ=>aa.dW aZ (AA b 0) pR λbK=>aK (λ(t26:Bool) (cC:aj)=>if t26 then R (.tuple #[.U 0,.U 0,.bool false]) cC else Hl cC b 3 λBl zD Fl=>Bd 0 zD/\aP Bl λa=>JM cC ((a.add (toNat 0*4)).add 1) λt31=>Hl cC b 3 λrG pP rH=>Bd 1 pP/\aP rG λkz=>JM cC ((kz.add (toNat 1*4)).add 1) λt36=>aa.dh cC (AA b 0) λt39=>aV cC (.cells #[.U t31,.U t36] T.uint64) λcE cK=>Kp cC cK [(some (AA b 0))]/\Cl F.pz #[.slice (some (AA cE 0)) 2 2] cK λeK cR=>aa.EX λt43=>eK=t43.agg/\Kp cK cR [(some (AA b 0))]/\Cl F.iB #[t39.agg,t43.agg] cR λgS cX=> ∃t44,gS=.bool t44/\if t44 then if(decide (t31≥1)) then if(decide (t31<=255)) then R (.tuple #[.U t31,.U t36,.bool (decide (t36<=t31))]) cX else R (.tuple #[.U t31,.U t36,.bool false]) cX else R (.tuple #[.U t31,.U t36,.bool false]) cX else R (.tuple #[.U t31,.U t36,.bool false]) cX) (λJ=>if(!tD) then J true bK else∃t18,ak bK (AA b 0)=some (.I t18)/\if(t18 !=4) then J true bK else∃zC xg DW,ak bK (AA b 3)=some (.slice zC xg DW)/\J ((xg:Int) !=2) bK)):Cl F.wY #[.slice hH fT hN] h R:=aS (lq (lq (sq (sq (.join [(26,.one (.bool))] lf) (cq ll lf)) (sq (pK 12) (sq (pK 24) lf))))) Tryz.func254 hv
theorem pz.walk {Dc:bV} {xR Io:Nat} (hv:aV h (.cells aa.S.z.arr T.aa) λb aR=>Cl F.fO #[.Z] aR λv aZ=>aa.EX λt6=>v=t6.agg/\aV aZ (.cells aa.S.z.arr T.aa) λcE bK=>aa.dW bK (AA cE 0) t6 λcC=> ∃(I:Int->aj->Prop) (mu:Int->aj->Nat),I 0 cC/\∀(t9:Int) (cK:aj),I t9 cK->if(decide (t9<(xR:Int))) then Bd t9 xR/\aP Dc λa=>JM cK (a.add (toNat t9*1)) λt12=>Hl cK cE 3 λBi vf Bj=>Cl F.fI #[.U t12] cK λeK cR=>aa.EX λt16=>eK=t16.agg/\Kp cK cR [(some (AA cE 3))]/\aV cR (.cells t16.arr T.aa) λeZ cX=>Kp cR cX [(some (AA cE 3))]/\aX Tryz.prog (Builtin.append_ #[T.cF,T.cF] T.cF #[.slice Bi vf Bj,.slice (some (AA eZ 0)) 1 1]) cX λgS dB=> ∃qt pf rN,gS=.slice qt pf rN/\aH dB (AA cE 3) (.slice qt pf rN) λff=>(I (wrap .i64 (t9+1)) ff/\mu (wrap .i64 (t9+1)) ff<mu t9 cK) else aa.dh cK (AA cE 0) λt21=>aa.dW cK (AA b 0) t21 λcQ=>aa.dh cQ (AA b 0) λr0=>R (r0.agg) cQ):Cl F.pz #[.slice Dc xR Io] h R:=aS (lq (lq (sq (lq (bq (.loop [(9,.one (.int .i64))] (lq (sq (cq lf lf) (sq (bq (lq (pK 8))) lf)))))) ll))) Tryz.func209 hv
theorem th.walk {kind:Int} {hH:bV} {fT hN:Nat} (hv:aK (λ(ok:Bool) (aR:aj)=>if ok then R (.bool (decide ((fT:Int)<=200))) aR else R (.bool false) aR) (λJ=>aK (λ(ad9:Bool) (aZ:aj)=>J ad9 aZ) (λjo=>if(kind==6) then Cl F.qp #[.slice hH fT hN] h λv bK=>az.EX λpR=> ∃tD,v=.tuple #[pR.agg,.bool tD]/\jo tD bK else aK (λ(VC:Bool) (cC:aj)=>jo VC cC) (λBp=>if(kind==7) then Cl F.zc #[.slice hH fT hN] h λeK cK=> ∃vL vj,eK=.tuple #[.U vL,.bool vj]/\Bp vj cK else aK (λ(Lt:Bool) (cR:aj)=>Bp Lt cR) (λGH=>if(kind==10) then Cl F.wY #[.slice hH fT hN] h λgS cX=> ∃KO Lo Om,gS=.tuple #[.U KO,.U Lo,.bool Om]/\GH Om cX else GH true h))))):Cl F.th #[.U kind,.slice hH fT hN] h R:=aS (lq (lq (sq (lq (.join [(5,.one (.bool))] (bq (lq (.join [(5,.one (.bool))] (cq lf (lq (.join [(5,.one (.bool))] (cq lf (lq (.join [(5,.one (.bool))] (cq lf lf)))))))))))) ll))) Tryz.func201 hv
theorem tf.walk {Dc:bV} {xR Io:Nat} (hv:Cl F.gT #[.slice Dc xR Io,.func (.func F.ko) #[] #[]] h λv aR=> ∃t4,v=.bool t4/\R (.bool (!t4)) aR):Cl F.tf #[.slice Dc xR Io] h R:=aS (lq ll) Tryz.func200 hv
theorem ko.walk {n:Int} (hv:if(decide (n<1)) then R (.bool true) h else R (.bool (decide (n>255))) h):Cl F.ko #[.U n] h R:=aS (lq ll) Tryz.func251 hv
theorem sF.walk {b:aE.S} (hv:aV h (.cells b.arr T.aE) λcE aR=>Hu aR cE 0 λt4=>Hu aR cE 1 λt6=>aV aR (.cells #[.U t4,.U t6] T.uint64) λeZ aZ=>Cl F.tf #[.slice (some (AA eZ 0)) 2 2] aZ λv bK=> ∃t8,v=.bool t8/\if t8 then∃t11,ak bK (AA cE 2)=some (.U t11)/\if((wrap .u64 ((BitVec.ofInt (IntKind.bits .u64) t11 &&& ~~~ BitVec.ofInt (IntKind.bits .u64) 23).toNat:Int))==0) then∃t17,ak bK (AA cE 3)=some (.I t17)/\if(decide (t17≥0)) then∃t22,ak bK (AA cE 3)=some (.I t22)/\if(decide (t22<=2)) then Hu bK cE 0 λt27=>Hl bK cE 4 λBm ye CA=>Cl F.th #[.U t27,.slice Bm ye CA] bK λeK cC=> ∃t30,eK=.bool t30/\R (.bool t30) cC else R (.bool false) bK else R (.bool false) bK else R (.bool false) bK else R (.bool false) bK):Cl F.sF #[b.agg] h R:=aS (lq ll) Tryz.func175 hv
theorem sH.walk {b : aE.S} (hv :
 aV h (.cells b.arr T.aE) λcE aR =>
 aV aR (.cells aa.S.z.arr T.aa) λeZ aZ =>
 aE.dh aZ ⟨cE, 0, none⟩ λt5 =>
 Cl F.sF #[t5.agg] aZ λv bK =>
 ∃ t6, v = .bool t6 ∧
 if (!t6) = true then
 aa.dW bK ⟨eZ, 0, none⟩ aa.S.z λcC =>
 aa.dh cC ⟨eZ, 0, none⟩ λr0 =>
 R (.tuple #[r0.agg, .int .i64 3]) cC
 else
 ∃ t10, ak bK ⟨cE, 0, none⟩ = some (.int .u64 t10) ∧
 ∃ t12, ak bK ⟨cE, 1, none⟩ = some (.int .u64 t12) ∧
 ∃ t14, ak bK ⟨cE, 2, none⟩ = some (.int .u64 t14) ∧
 ∃ t16, ak bK ⟨cE, 3, none⟩ = some (.int .i64 t16) ∧
 aV bK (.cells #[.int .u64 t10, .int .u64 t12, .int .u64 t14, .int .u64 (IntKind.wrap .u64 t16)] T.uint64) λjR cK =>
 Cl F.pz #[.slice (some ⟨jR, 0, none⟩) 4 4] cK λeK cR =>
 aa.EX λt19 =>
 eK = t19.agg ∧
 ∃ zC xg DW, ak cR ⟨cE, 4, none⟩ = some (.slice zC xg DW) ∧
 Cl F.qm #[.slice zC xg DW] cR λgS cX =>
 aa.EX λt24 =>
 gS = t24.agg ∧
 aV cX (.cells t24.arr T.aa) λpI dB =>
 aX Tryz.prog (Builtin.append_ #[T.cF, T.cF] T.cF #[.slice t19.BO t19.xP t19.Ay, .slice (some ⟨pI, 0, none⟩) 1 1]) dB λkV ff =>
 ∃ ya rF yc, kV = .slice ya rF yc ∧
 Cl F.qG #[.slice ya rF yc, .int .i64 3] ff λou cQ =>
 aa.EX λBw =>
 ∃ zQ, ou = .tuple #[Bw.agg, .int .i64 zQ] ∧
 aa.dW cQ ⟨eZ, 0, none⟩ Bw λcW =>
 aa.dh cW ⟨eZ, 0, none⟩ λia =>
 R (.tuple #[ia.agg, .int .i64 zQ]) cW) : Cl F.sH #[b.agg] h R :=
 aS (.seq .leaf (.seq (.seq .leaf (.cond (.seq .leaf .leaf) .leaf)) (.seq .leaf (.seq .leaf .leaf)))) Tryz.func179 hv
theorem wX.walk {x:aa.S} (hv:aV h (.cells x.arr T.aa) λb aR=>aV aR (.cells aE.S.z.arr T.aE) λcE aZ=>aa.dh aZ (AA b 0) λt10=>Cl F.qH #[t10.agg,.I 3] aZ λv bK=> ∃A4 yD ahs tD,v=.tuple #[.slice A4 yD ahs,.I tD]/\if(tD !=0) then aE.dW bK (AA cE 0) aE.S.z λcC=>aE.dh cC (AA cE 0) λr0=>R (.tuple #[r0.agg,.I tD]) cC else aK (λ(t19:Bool) (cK:aj)=>if t19 then aE.dW cK (AA cE 0) aE.S.z λcR=>aE.dh cR (AA cE 0) λia=>R (.tuple #[ia.agg,.I 3]) cR else aK (λ(eZ:bV) (cX:aj)=>aP eZ λa=>aE.dh cX a λt55=>Cl F.sH #[t55.agg] cX λeK dB=>aa.EX λIp=> ∃Iq,eK=.tuple #[Ip.agg,.I Iq]/\aV dB (.cells aa.S.z.arr T.aa) λjR ff=>aa.dW ff (AA jR 0) Ip λcQ=>aK (λ(t66:Bool) (cW:aj)=>if t66 then aE.dW cW (AA cE 0) aE.S.z λdE=>aE.dh dE (AA cE 0) λoT=>R (.tuple #[oT.agg,.I 3]) dE else aP eZ λkz=>aE.dh cW kz λt68=>aE.dW cW (AA cE 0) t68 λdG=>aE.dh dG (AA cE 0) λpH=>R (.tuple #[pH.agg,.I 0]) dG) (λBp=>if(Iq !=0) then Bp true cQ else aa.dh cQ (AA jR 0) λt62=>aa.dh cQ (AA b 0) λt63=>Cl F.iB #[t62.agg,t63.agg] cQ λgS fD=> ∃t64,gS=.bool t64/\Bp (!t64) fD)) (λjo=>Bd 0 yD/\aP A4 λpF=>JM cK ((pF.add (toNat 0*4)).add 1) λt34=>Bd 1 yD/\aP A4 λrZ=>JM cK ((rZ.add (toNat 1*4)).add 1) λt38=>Bd 2 yD/\aP A4 λvT=>JM cK ((vT.add (toNat 2*4)).add 1) λt42=>Bd 3 yD/\aP A4 λBK=>JM cK ((BK.add (toNat 3*4)).add 1) λt46=>Bd 4 yD/\aP A4 λKo=>L4 cK ((Ko.add (toNat 4*4)).add 2) λNV Lp NW=>(Cl F.cv #[.slice NV Lp NW] cK λkV gE=> ∃yh yi Bq,kV=.slice yh yi Bq/\Kp cK gE [(some ((BK.add (toNat 3*4)).add 1)),(some ((vT.add (toNat 2*4)).add 1)),(some ((rZ.add (toNat 1*4)).add 1)),(some ((pF.add (toNat 0*4)).add 1))]/\aV gE (.cells aE.S.z.arr T.aE) λpI gX=>Kp gE gX [(some ((BK.add (toNat 3*4)).add 1)),(some ((vT.add (toNat 2*4)).add 1)),(some ((rZ.add (toNat 1*4)).add 1)),(some ((pF.add (toNat 0*4)).add 1))]/\aE.dW gX (AA pI 0) ⟨t34,t38,t42,(wrap .i64 t46),yh,yi,Bq⟩ λgR=>jo (some (AA pI 0)) gR)/\(aV cK (.cells aE.S.z.arr T.aE) λBA fi=>Kp cK fi [(some ((Ko.add (toNat 4*4)).add 2)),(some ((BK.add (toNat 3*4)).add 1)),(some ((vT.add (toNat 2*4)).add 1)),(some ((rZ.add (toNat 1*4)).add 1)),(some ((pF.add (toNat 0*4)).add 1))]/\Cl F.cv #[.slice NV Lp NW] fi λou jn=> ∃Zp Zq Zr,ou=.slice Zp Zq Zr/\Kp fi jn [(some ((BK.add (toNat 3*4)).add 1)),(some ((vT.add (toNat 2*4)).add 1)),(some ((rZ.add (toNat 1*4)).add 1)),(some ((pF.add (toNat 0*4)).add 1))]/\aE.dW jn (AA BA 0) ⟨t34,t38,t42,(wrap .i64 t46),Zp,Zq,Zr⟩ λju=>jo (some (AA BA 0)) ju)/\True)) (λJ=>if((yD:Int) !=5) then J true bK else Bd 4 yD/\aP A4 λRJ=> ∃t27,ak bK (RJ.add (toNat 4*4))=some (.I t27)/\J (t27 !=2) bK)):Cl F.wX #[x.agg] h R:=aS (lq (lq (sq (bq (lq (cq ll (sq (.join [(19,.one (.bool))] lf) (cq ll lf))))) (sq (.join [(6,.one (.ptr))] (.qX (jh 21 0 (.alts (.fork 21 (jh 3 22 .done) (.fork 23 (.op 21 (.op 22 (.op 24 .done))) .mE)))))) (sq (lq (sq (.join [(66,.one (.bool))] lf) (cq ll lf))) ll))))) Tryz.func195 hv
end
section
namespace Bn
open Cb
open qJ (Ev dk uH)
variable {V:List UInt8→Bool} {h h0 h':aj} {R:iI} {D:Nat→Prop}
theorem EM (bs:List UInt8):room (gm V bs)<=10*bs.length+9:=by
 unfold gm;split
 ·rename_i h;have:=(JS h).1;omega
 ·simp[V5,room,dZ]
theorem LG {p:bV} {l c:Nat} {bs:List UInt8} (U:xQ V h0) (u:Fr No h0 h) (row:Row h p (bc bs)) (hl:l=bs.length) (cap:bs.length<=c) (hlen:bs.length<=80000)
  (hk: ∀h' z,SW h' (gm V bs) z->Fr No h h'->R (.tuple #[z.s.agg,.bool (qS V bs)]) h'):Cl F.sc #[.slice p l c] h R:=by
 refine sc.walk (aa.dI λb h1 eb hb f1=>Ln (U.mono (u.tt f1)) (row.frame f1 (λ_ _=>id)) hl cap (by omega) (λh2 t x nx hr tx f2=>aa.ex x.s ⟨_,_,rfl,aa.j9 (x:=x.s) λb1 h4 uh dx f4=>aa.jk dx ?_⟩) (λh2 e he f2=>aa.ex zv.s ⟨_,_,rfl,aa.j9 (x:=zv.s) λb1 h4 uh dx f4=>aa.jk dx ?_⟩))
 ·have F4:=f1.tt (f2.tt f4);have ei:gm V bs=t:=by unfold gm;rw[hr]
  rw[ei] at hk;rw[jy];refine SO (U.mono (u.tt F4)) (row.frame F4 (λ_ _=>id)) hl cap (by omega) λh5 f5=>⟨_,rfl,f5.kp,aa.mB (x:=x.s) ((f2.tt (f4.tt f5)).get hb id) λh6 d6 f6 _=>aa.jk d6 (hk h6 x ?_ ((F4.tt f5).fresh f6 (λy e=>by omega)))⟩
  have zb:=aI hb;exact((tx.on f4).on f5).frame f6 (λy hy e=>by omega)|>.u
 ·have F4:=f1.tt (f2.tt f4);have ei:gm V bs=V5:=by unfold gm;rw[he]
  have es:qS V bs=false:=by unfold qS;rw[he]
  rw[ei,es] at hk;rw[ai (λq=>Dn he (eq_of_beq q))];exact aa.mB (x:=zv.s) ((f2.tt f4).get hb id) λh6 d6 f6 _=>aa.jk d6 (hk h6 zv (xL (n:=0)) (F4.fresh f6 (λy e=>by omega)))
theorem To {p:bV} {l c:Nat} {bs:List UInt8} (U:xQ V h0) (u:Fr No h0 h) (mx:Gj.Mx h) (row:Row h p (bc bs)) (hl:l=bs.length) (cap:bs.length<=c) (hlen:bs.length<=80000)
  (hk: ∀h' (e:Ev),Fr No h h'->R (.tuple #[e.s.agg,.bool (qS V bs && (zy V (gm V bs)).isSome)]) h'):Cl F.qp #[.slice p l c] h R:=by
 have ri:=EM (V:=V) bs;refine qp.walk (az.dI λb h1 eb hb f1=>LG U (u.tt f1) (row.frame f1 (λ_ _=>id)) hl cap hlen λh2 z tz f2=>aa.ex z.s ⟨_,rfl,aa.j9 (x:=z.s) λb1 h4 uh dx f4=>aa.jk dx (Qu U (u.tt (f1.tt (f2.tt f4))) (mx.on (f1.tt (f2.tt f4))) (tz.on f4) (by omega) λe q ⟨q0,q1,_⟩ h5 f5=>az.ex e.s ⟨_,rfl,az.j9 (x:=e.s) λb2 h7 FH fJ f7=>az.jk fJ ?_⟩)⟩);have F:=f2.tt (f4.tt (f5.tt f7));cases hs:qS V bs with
 |false=>
  rw[hs] at hk;rw[dM];exact VD (x:=e) (F.get hb id) λh8 f8=>hk h8 e ((f1.tt F).fresh f8 (λy e=>by omega))
 |true=>
  rw[hs] at hk;rw[ag rfl];refine VD (x:=e) (F.get hb id) λh8 f8=> ?_
  have:=hk h8 e ((f1.tt F).fresh f8 (λy e=>by omega));have eq:(true && (zy V (gm V bs)).isSome)=(q==0):=by
   by_cases c0:q=0
   ·rw[q0 c0,c0];rfl
   ·rw[q1 c0,beq_eq_false_iff_ne.2 c0];rfl
  rw[eq] at this;exact this
theorem alu {p:bV} {l c:Nat} {bs:List UInt8} (U:xQ V h0) (u:Fr No h0 h) (row:Row h p (bc bs)) (hl:l=bs.length) (cap:bs.length<=c) (hlen:bs.length<=80000)
  (hk: ∀h',Fr No h h'->R (.tuple #[.U ((gm V bs).n:Int),.bool (ajJ V bs)]) h'):Cl F.zc #[.slice p l c] h R:=by
 have ri:=EM (V:=V) bs;refine zc.walk (LG U u row hl cap hlen λh2 z tz f2=>aa.ex z.s ⟨_,rfl,aa.j9 (x:=z.s) λb1 h4 uh dx f4=> ?_⟩);unfold ajJ at hk;obtain⟨_,zn,_⟩:=kU.kn tz;rw[<-zn] at hk;refine⟨_,af dx rfl,?_⟩;cases hs:qS V bs with
 |false=>
  rw[hs] at hk;rw[dM];exact hk h4 (f2.tt f4)
 |true=>
  rw[hs] at hk;rw[ag rfl];refine aa.jk dx ⟨_,af dx rfl,jw λh5 f5=>aa.ex (nv z.n).s ⟨rfl,f5.kp,pW (x:=z) (y:=nv z.n) (s:=num z.n) ((tz.on f4).on f5) (xL (h:=h5) (n:=z.n)) (by omega) λh6 f6=>⟨_,rfl,f6.kp,?_⟩⟩⟩;have F6:=f2.tt (f4.tt (f5.tt f6));cases he:yW (gm V bs) (num z.n) with
  |false=>
   rw[he] at hk;rw[dM];exact hk h6 F6
  |true=>
   rw[he] at hk;rw[ag rfl];refine⟨_,af ((f5.tt f6).get dx id) rfl,?_⟩;rw[show decide ((z.n:Int)<=1099511627776)=decide (z.n<=1099511627776) from vD z.n 1099511627776];exact hk h6 F6
abbrev nu (l:List Nat):List Value:=l.map λ(n:Nat)=> .int .u64 (n:Int)
theorem Tp {p:bV} {n c:Nat} {l:List Nat} (row:Row h p (nu l)) (hn:n=l.length) (hl:l.length<=100000)
  (hk: ∀h' z,Ef h' (λy=>h.size<=y) (RA l) z->Fr No h h'->R z.s.agg h'):Cl F.pz #[.slice p n c] h R:=by
 subst hn;refine pz.walk (aa.dI λb h1 eb hb f1=>rV (ts:= []) (ys:= []) (D:=λ_=>True) ⟨rfl,.inl rfl,λe=>absurd rfl e,bh _⟩ .nil (by simp[dZ]) λh2 z tz f2=>aa.ex z.s ⟨rfl,aa.j9 (x:=z.s) λb1 h4 uh dx f4=> ?_⟩);have zb:=aI hb;have z1:=f1.1;have z2:=f2.1;have z4:=f4.1;have PU:=aI dx;have F4:=f1.tt (f2.tt f4);have tz4:Ef h4 (λy=>h1.size<=y/\y≠b1) (DF []) z:=by
  obtain⟨⟨a1,a2,a3,a4⟩,zs,a5,a6,a7,a8⟩:=tz;refine⟨⟨a1,a2,a3,((Sx a4).mono λy hy=>by omega).frame f4 (λ_ _=>id)⟩,zs,a5,a6.frame f4 (λ_ _=>id),λy hy=>⟨a7 y hy,by have:=a6.gn hy;omega⟩,(dH.mono (λy hy=>by have h1:=hy.1.1;have h2:=hy.2;exact⟨⟨h1,by omega⟩,hy.1.2⟩) a8.lt).on f4⟩
 obtain⟨zs,ez,Lz⟩:=aeE (g0:=h1) tz4 dx ((f2.tt f4).mono λ_ _=>False.elim);have e4:z.k=4:=tz.1.1;have en:z.n=0:=tz.1.2.1;have e0:z.v.b= []:=tz.1.2.2.1;refine⟨λt g=> ∃(i:Nat) (ys:List CV) (q:bV) (cl:Nat),t=(i:Int)/\i<=l.length/\ys.length=i/\Lc h1 g b1 z.k z.n z.v ((l.take i).map num) ys q cl,λt _=>l.length - t.toNat,⟨0,zs,z.q,z.cl,rfl,cp _,?_,by rw[fN];exact Lz⟩,?_⟩
 ·have:=Lz.tr.len;exact this.symm
 rintro _ g ⟨i,ys,q,cl,rfl,hi,hy,L⟩;by_cases nR:i<l.length
 case neg=>
  rw[ai (λe=>nR (by have:=of_decide_eq_true e;omega))];rw[bT (by omega)] at L;have Vy:z.v.ok g (λy=>h1.size<=y/\y≠b1):=⟨by rw[e0];exact Row.nil,λe=>absurd e0 e,tz.1.2.2.2.cap⟩;have tw:=aeF (k':=z.n) L Vy;rw[e4,en,e0] at tw;refine aa.jk (x:=CV.s ⟨z.k,z.n,z.v,q,ys.length,cl⟩) L.dF (fin (z:=⟨z.k,z.n,z.v,q,ys.length,cl⟩) (t:=RA l) (D:=λy=>h1.size<=y/\y≠b1) (L.fr.get hb (by omega)) (by rw[e4,en];exact tw) (λy hy e=>by omega) λg' tg fg=>hk g' _ (tg.mono λy hy=>by omega) ((f1.fresh L.fr (λy e=>by omega)).fresh fg (λy e=>by omega)))
 rw[jy];have FG:Fr No h g:=f1.fresh L.fr (λy e=>by omega);obtain⟨a,rfl⟩:=row.some (by intro e;have:=bp List.length e;rw[aN,bD] at this;omega);have hc:ak g (a.add (i*1))=some (.U ((l[i]:Nat):Int)):=by
  have:=(row.frame FG (λ_ _=>id)).cell (j:=i) (v:=.U ((l[i]:Nat):Int)) (by rw[aO,au nR];rfl);rw[cO];exact this
 refine⟨⟨by omega,by omega⟩,cH.2 ⟨a,rfl,_,hc,_,_,_,af L.dF rfl,jw λh6 f6=>aa.ex (nv l[i]).s ⟨rfl,f6.kp,?_⟩⟩⟩;refine aeG (L.on f6) (by omega) (akP (n:=l[i])).toA λg' QR q' DO L' hl' _ _=> ?_
 rw[bL (n:=(i:Int)+1) (by omega) (by omega)];refine⟨⟨i+1,QR,q',DO,by omega,by omega,by omega,?_⟩,by show l.length - Int.toNat ((i:Int)+1)<l.length - Int.toNat (i:Int);omega⟩;rw[bZ,au nR,bm];exact L'
theorem VM {l:List Nat} {n:Nat} {K:Nat->aj->Prop} {c:Array Value} (hc:c=(nu l).toArray) (hk: ∀b h',Row h' (some (AA b 0)) (nu l)->Fr No h h'->K b h'):aV h (.cells c T.uint64) K:=by
 refine cY (hk _ _ (by rw[hc];exact rW) (Fr.push _ _))
theorem aht {p:bV} {l c:Nat} {bs:List UInt8} (U:xQ V h0) (u:Fr No h0 h) (row:Row h p (bc bs)) (hl:l=bs.length) (cap:bs.length<=c) (hlen:bs.length<=80000)
  (hk: ∀h' (a b:Nat),Fr No h h'->R (.tuple #[.U (a:Int),.U (b:Int),.bool (acf V bs)]) h'):Cl F.wY #[.slice p l c] h R:=by
 have ri:=EM (V:=V) bs;have rl:=yU (t:=gm V bs);refine wY.walk (LG U u row hl cap hlen λh2 z tz f2=>aa.ex z.s ⟨_,rfl,aa.j9 (x:=z.s) λb1 h4 uh dx f4=>aK.of λJ hJ=> ?_⟩);have F4:=f2.tt f4;unfold acf at hk;have no: ¬(qS V bs=true/\(gm V bs).k=4/\(gm V bs).l.length=2)->J true h4:=λhn=>by
  subst hJ;dsimp only;rw[ag rfl];have:=hk h4 0 0 F4;rw[show(qS V bs && decide ((gm V bs).k=4/\(gm V bs).l.length=2) && yW (gm V bs) (RA [yL (gm V bs),Kg (gm V bs)]) && decide (1<=yL (gm V bs)/\yL (gm V bs)<=255/\Kg (gm V bs)<=yL (gm V bs)))=false by
   by_cases a:qS V bs=true
   ·rw[decide_eq_false (λe=>hn ⟨a,e⟩)];simp
   ·simp[a]] at this
  exact this
 obtain⟨zk,zn,zb,zl,zv',ys,L,TS⟩:=kU.kn (tz.on f4);cases hs:qS V bs with
 |false=>rw[jy];exact no (λe=>by rw[hs] at e;cases e.1)
 |true=>
 rw[dM];refine⟨_,af dx rfl,?_⟩;rw[show z.s.f0=(gm V bs).k from zk];by_cases k4:(gm V bs).k=4
 case neg=>rw[ag (by simpa using k4)];exact no (λe=>k4 e.2.1)
 rw[ai (by simpa using k4)];refine⟨_,_,_,af dx rfl,?_⟩;have sl:z.s.xP=(gm V bs).l.length:=zl;rw[sl];by_cases l2:(gm V bs).l.length=2
 case neg=>rw[show((((gm V bs).l.length:Nat):Int) !=2)=true by simp only[fL,iq];omega];exact no (λe=>l2 e.2.2)
 rw[show((((gm V bs).l.length:Nat):Int) !=2)=false by simp only[bne_eq_false_iff_eq];omega];clear no;rw[hs,ay ⟨k4,l2⟩] at hk;subst hJ;dsimp only;rw[dM];obtain⟨a0,y0,ea0,hh0,Yu,_⟩:=elem L TS (i:=0) (by omega);obtain⟨a1,y1,Yw,V1,VE,_⟩:=elem L TS (i:=1) (by omega);have n0:=(kU.kn Yu).2.1;have n1:=(kU.kn VE).2.1;have hc0:ak h4 ((a0.add (0*4)).add 1)=some (.U ((yL (gm V bs):Nat):Int)):=by have:=hh0.2.1;unfold yL;rw[<-n0];exact this
 have hc1:ak h4 ((a1.add (1*4)).add 1)=some (.U ((Kg (gm V bs):Nat):Int)):=by have:=V1.2.1;unfold Kg;rw[<-n1];exact this
 refine⟨_,_,_,af dx rfl,⟨by omega,by omega⟩,cH.2 ⟨a0,ea0,_,hc0,_,_,_,af dx rfl,⟨by omega,by omega⟩,cH.2 ⟨a1,Yw,_,hc1,aa.jk dx ?_⟩⟩⟩;refine VM (l:= [yL (gm V bs),Kg (gm V bs)]) (n:=2) rfl λb2 h5 r5 f5=>⟨f5.kp,Tp r5 rfl (by show 2<=_;omega) λh6 w tw f6=>aa.ex w.s ⟨rfl,f6.kp,pW (x:=z) (y:=w) ((tz.on f4).on (f5.tt f6)) tw.u (by omega) λh7 f7=>⟨_,rfl,?_⟩⟩⟩
 have F7:=F4.tt (f5.tt (f6.tt f7));have fin:=hk h7 (yL (gm V bs)) (Kg (gm V bs)) F7;cases he:yW (gm V bs) (RA [yL (gm V bs),Kg (gm V bs)]) with
 |false=>rw[he] at fin;rw[dM];exact fin
 |true=>
 rw[he] at fin;rw[ag rfl];change if(decide (((yL (gm V bs):Nat):Int)≥1))=true then(if(decide (((yL (gm V bs):Nat):Int)<=255))=true then _ else _) else _
 by_cases c1:1<=yL (gm V bs)
 case neg=>rw[decide_eq_false (λe=>c1 e.1)] at fin;rw[dM];exact fin
 rw[jy];by_cases c2:yL (gm V bs)<=255
 case neg=>rw[decide_eq_false (λe=>c2 e.2.1)] at fin;rw[dM];exact fin
 rw[jy];have:decide (1<=yL (gm V bs)/\yL (gm V bs)<=255/\Kg (gm V bs)<=yL (gm V bs))=decide (((Kg (gm V bs):Nat):Int)<=((yL (gm V bs):Nat):Int)):=by
  rw[vD];exact decide_eq_decide.2 ⟨λe=>e.2.2,λe=>⟨c1,c2,e⟩⟩
 rw[this] at fin;exact fin
theorem abe {ty:Nat} {p:bV} {l c:Nat} {bs:List UInt8} (U:xQ V h0) (u:Fr No h0 h) (mx:Gj.Mx h) (row:Row h p (bc bs)) (hl:l=bs.length) (cap:bs.length<=c) (hlen:bs.length<=80000)
  (hk: ∀h',Fr No h h'->R (.bool (Kh V ty bs)) h'):Cl F.th #[.U (ty:Int),.slice p l c] h R:=by
 subst hl;refine th.walk (aK.of λJ hJ=>aK.of λJ1 pB=> ?_);unfold Kh at hk;have fin: ∀q g,Fr No h g->(Kh V ty bs=(q && decide (bs.length<=200)))->J q g:=λq g fg e=>by
  subst hJ;have:=hk g fg;unfold Kh at e;rw[e] at this;rw[show decide ((bs.length:Int)<=200)=decide (bs.length<=200) from vD bs.length 200];cases q with
  |false=>exact this
  |true=>exact this
 by_cases c6:ty=6
 ·subst c6;rw[jy];refine To U u mx row rfl cap hlen λh1 e f1=>az.ex e.s ⟨_,rfl,?_⟩
  subst pB;exact fin _ h1 f1 rfl
 rw[ai (by simp only[dA];omega)];refine aK.of λJ2 zY=> ?_
 by_cases c7:ty=7
 ·subst c7;rw[jy];refine alu U u row rfl cap hlen λh1 f1=>⟨_,_,rfl,?_⟩
  subst zY pB;exact fin _ h1 f1 rfl
 rw[ai (by simp only[dA];omega)];refine aK.of λJ3 SN=> ?_
 by_cases Wt:ty=10
 ·subst Wt;rw[jy];refine aht U u row rfl cap hlen λh1 a b f1=>⟨_,_,_,rfl,?_⟩
  subst SN zY pB;exact fin _ h1 f1 rfl
 rw[ai (by simp only[dA];omega)];subst SN zY pB;exact fin true h (Fr.refl _ _) (by unfold Kh;rw[ai c6,ai c7,ai Wt])
theorem Hj {p:bV} {n c:Nat} {l:List Nat} (row:Row h p (nu l)) (hn:n=l.length) (hl:l.length<=100000)
  (hk:R (.bool (l.all vF)) h):Cl F.tf #[.slice p n c] h R:=by
 subst hn;refine tf.walk (gT.within.walk (iu.within.walk ?_));refine⟨λt g=> ∃i:Nat,t=(i:Int)/\i<=l.length/\g=h/\(l.take i).all vF=true,λt _=>l.length - t.toNat,⟨0,rfl,cp _,rfl,by rw[fN];rfl⟩,?_⟩;rintro _ g ⟨i,rfl,hi,rfl,ha⟩;by_cases nR:i<l.length
 ·rw[jy];obtain⟨a,rfl⟩:=row.some (by intro e;have:=bp List.length e;rw[aN,bD] at this;omega);have hc:ak g (a.add (i*1))=some (.U ((l[i]:Nat):Int)):=by
   have:=row.cell (j:=i) (v:=.U ((l[i]:Nat):Int)) (by rw[aO,au nR];rfl);rw[cO];exact this
  have key: ∀q,q=(!vF l[i])->(if q=true then∃t7,Value.I (i:Int)=.I t7/\∃t4,Value.bool (decide (t7≥0))=.bool t4/\R (.bool (!t4)) g else((∃k:Nat,IntKind.wrap .i64 ((i:Int)+1)=(k:Int)/\k<=l.length/\g=g/\(l.take k).all vF=true)/\l.length - (IntKind.wrap .i64 ((i:Int)+1)).toNat<l.length - (i:Int).toNat)):=by
   rintro q rfl;cases e:vF l[i] with
   |false=>
    rw[jy];refine⟨_,rfl,_,rfl,?_⟩;rw[ay (by omega)];have:l.all vF=false:=List.all_eq_false.2 ⟨l[i],fx nR,by rw[e];decide⟩;rw[this] at hk;exact hk
   |true=>
    rw[dM,bL (n:=(i:Int)+1) (by omega) (by omega)];refine⟨⟨i+1,by omega,by omega,rfl,?_⟩,by omega⟩;rw[bZ,au nR,List.all_append,ha];simp[e]
  refine⟨⟨by omega,by omega⟩,cH.2 ⟨a,rfl,_,hc,ko.walk ?_⟩⟩;have eq:vF l[i]=(decide (1<=l[i]) && decide (l[i]<=255)):=by unfold vF;by_cases a:1<=l[i]<;>by_cases b:l[i]<=255<;>simp[a,b]
  by_cases c1:l[i]<1
  ·rw[jy];refine⟨_,rfl,key true ?_⟩;rw[eq,decide_eq_false (show¬1<=l[i] by omega)];rfl
  ·rw[dM];refine⟨_,rfl,key _ ?_⟩;rw[eq,ay (show 1<=l[i] by omega)];by_cases c2:l[i]<=255
   ·rw[ay c2,decide_eq_false (show¬((l[i]:Nat):Int)>255 by omega)];rfl
   ·rw[decide_eq_false c2,ay (show((l[i]:Nat):Int)>255 by omega)];rfl
 ·rw[ai (λe=>nR (by have:=of_decide_eq_true e;omega))];rw[bT (by omega)] at ha;rw[ha] at hk;exact⟨_,rfl,_,rfl,hk⟩
abbrev xV.s (b:xV) (p:bV) (c:Nat):aE.S:=⟨b.ty,b.nr,b.fl,b.sum,p,b.data.length,c⟩
theorem On (b:xV) {p:bV} {c:Nat} (U:xQ V h0) (u:Fr No h0 h) (mx:Gj.Mx h) (row:Row h p (bc b.data)) (cap:b.data.length<=c) (hlen:b.data.length<=80000)
  (hk: ∀h',Fr No h h'->R (.bool (sf V b)) h'):Cl F.sF #[(b.s p c).agg] h R:=by
 refine sF.walk (aE.dI λbb h1 eb hb f1=>⟨_,af hb rfl,_,af hb rfl,VM (l:= [b.ty,b.nr]) (n:=2) rfl λb2 h2 r2 f2=>Hj r2 rfl (by show 2<=_;omega) ⟨_,rfl,?_⟩⟩);have F2:=f1.tt f2;have fJ:=f2.get hb id;have no: ∀g,Fr No h g->sf V b=false->R (.bool false) g:=λg fg e=>by have:=hk g fg;rw[e] at this;exact this
 have e1: [b.ty,b.nr].all vF=(vF b.ty && vF b.nr):=by simp
 rw[e1];cases c0:(vF b.ty && vF b.nr) with
 |false=>rw[dM];exact no h2 F2 (by unfold sf;rw[c0];rfl)
 |true=>
 rw[ag rfl];refine⟨_,af fJ rfl,?_⟩;change if flB (b.fl:Int) 23=true then _ else _
 by_cases c1:flB (b.fl:Int) 23=true
 case neg=>rw[ai c1];exact no h2 F2 (by unfold sf;simp[c1])
 rw[ag c1];refine⟨_,af fJ rfl,?_⟩;by_cases c2:0<=b.sum
 case neg=>rw[ai (by simp only[bf];exact c2)];exact no h2 F2 (by unfold sf;simp[c2])
 rw[ag (ay c2)];refine⟨_,af fJ rfl,?_⟩;by_cases c3:b.sum<=2
 case neg=>rw[ai (by simp only[bf];exact c3)];exact no h2 F2 (by unfold sf;simp[c3])
 rw[ag (ay c3)];refine⟨_,af fJ rfl,_,_,_,af fJ rfl,abe U (u.tt F2) (mx.on F2) (row.frame F2 (λ_ _=>id)) rfl cap hlen λh3 f3=>⟨_,rfl,?_⟩⟩;have:=hk h3 (F2.tt f3);unfold sf at this;rw[c0,c1,ay c2,ay c3] at this;exact this
theorem VN {t:Tr} {i:Nat} {us:List Tr} (hu:Be V t i=.ok us):0<=typeAt us i:=by
 unfold Be at hu;split at hu
 ·rename_i h1;have key: ∀k,i<k->typeAt (t.l.take k) i=typeAt t.l i:=λk hk=>by
   unfold typeAt at_;rw[ba,ba,dt,ag hk,bR];exact ite_congr (propext (by constructor<;>(rintro⟨a,b⟩;exact⟨by omega,b⟩))) (λ_=>rfl) (λ_=>rfl)
  split at hu
  ·cases hu;exact h1.2.2
  ·split at hu
   ·rename_i h2;split at hu
    ·cases hu
    ·split at hu
     ·cases hu;rw[key _ h2.1];exact h1.2.2
     ·cases hu
   ·cases hu
 ·cases hu
theorem abf {t:Tr} {i:Nat} {us:List Tr} (hu:Be V t i=.ok us):(at_ us i).n<=2:=by
 have:=VN hu;unfold typeAt at this;split at this
 ·rename_i h1;exact h1.2.1
 ·omega
theorem Hk {b:xV} (h:sf V b=true):0<=b.sum/\b.sum<=2/\b.data.length<=200/\1<=b.ty/\b.ty<=255/\1<=b.nr/\b.nr<=255:=by
 unfold sf at h;simp only[aW,bf] at h;obtain⟨⟨⟨⟨⟨a,a'⟩,_⟩,b1⟩,c⟩,d⟩:=h;unfold vF at a a';unfold Kh at d;simp only[aW,bf] at a a' d;exact⟨b1,c,d.2,a.1,a.2,a'.1,a'.2⟩
theorem Oo {b:xV} (h:sf V b=true):dZ (aat b)<=300:=by
 obtain⟨_,_,d,_⟩:=Hk h;simp only[aat,dZ,room,bD];omega
theorem Oq {b:xV} {t:Tr} (h:DJ V b=.ok t):room t<=400:=by
 unfold DJ at h;split at h
 ·rename_i hr;have:=LC h;have:=Oo hr;omega
 ·cases h
theorem Tq {b:xV} {e:Int} (h:DJ V b=.error e):e≠0:=by
 unfold DJ at h;split at h
 ·exact Ol h
 ·cases h;decide
theorem Zs (b : xV) {p : Option Addr} {c : Nat} (U : xQ V h0) (u : Fr No h0 h) (mx : Gj.Mx h) (row : Row h p (bc b.data)) (cap : b.data.length ≤ c) (hlen : b.data.length ≤ 80000)
    (hk : ∀ h' z q, (∀ t, DJ V b = .ok t → q = 0 ∧ Ef h' (λy => h.size ≤ y) t z) → (∀ e, DJ V b = .error e → q = e) → Fr No h h' → R (.tuple #[z.s.agg, .int .i64 q]) h') : Cl F.sH #[(b.s p c).agg] h R := by
  refine sH.walk (aE.dI λbb h1 eb hb f1 => aa.dI λb1 h2 uh dx f2 => aE.jk (f2.get hb id) (On b U (u.tt (f1.tt f2)) (mx.on (f1.tt f2)) (row.frame (f1.tt f2) (λ_ _ => id)) cap hlen λh3 f3 => ⟨_, rfl, ?_⟩))
  have kT := (f2.tt f3).get hb id
  have qx := f3.get dx id
  have F3 := f1.tt (f2.tt f3)
  have z3 := F3.1
  have z1 := f1.1
  have z23 := f3.1
  have PU := aI qx
  cases hr : sf V b with
  | false => exact Qo qx λh4 f4 => hk h4 zv 3 (λt e => by unfold DJ at e; rw [hr, if_neg (by decide)] at e; cases e) (λt e => by unfold DJ at e; rw [hr, if_neg (by decide)] at e; cases e; rfl) (F3.fresh f4 (λy e => by omega))
  | true =>
  rw [if_neg (by decide)]
  obtain ⟨s0, s2, d2, _⟩ := Hk hr
  have rm := Oo hr
  have eW : DJ V b = x8 V (aat b) 3 := by unfold DJ; rw [hr, if_pos rfl]
  obtain ⟨sum, hs⟩ := Int.eq_ofNat_of_zero_le s0
  have es : b.sum.toNat = sum := by omega
  refine ⟨_, af kT rfl, _, af kT rfl, _, af kT rfl, _, af kT rfl, ?_⟩
  rw [show (b.s p c).f3 = ((sum : Nat) : Int) from hs, wrap_u64 (n := (sum : Int)) (by omega) (by omega)]
  refine VM (l := [b.ty, b.nr, b.fl, sum]) (n := 4) rfl λb3 h5 r5 f5 => Tp r5 rfl (by show 4 ≤ _; omega) λh6 z tz f6 => aa.ex z.s ⟨rfl, _, _, _, af ((f5.tt f6).get kT id) rfl, zE (row.frame (F3.tt (f5.tt f6)) (λ_ _ => id)) rfl (by omega) λh7 v ev ov f7 => aa.ex (CV.s ⟨2, 0, v, none, 0, 0⟩) ⟨rfl, aa.dI (x := CV.s ⟨2, 0, v, none, 0, 0⟩) λb4 h8 VA mb f8 => ?_⟩⟩
  have F8 := f5.tt (f6.tt (f7.tt f8))
  obtain ⟨_, zs, a5, a6, a7, a8⟩ := tz
  have zl : zs.length = 4 := by have := a8.len; exact this.symm
  have sl : z.s.xP = zs.length := a5
  rw [sl]
  have z6 := f6.1
  have z7 := f7.1
  have z8 := f8.1
  have qs : ∀ y, aQ z.q y → y < h6.size := λy hy => a6.gn hy
  refine fR tI uI (a6.frame (f7.tt f8) (λ_ _ => id)) (ds := mK ⟨2, 0, v, none, 0, 0⟩) (.inr ⟨_, rfl, aa.Lr (x := CV.s ⟨2, 0, v, none, 0, 0⟩) mb⟩) rfl (zX _) (by omega) (by omega) λq' DO h9 o9 _ f9 g9 => ⟨_, _, _, rfl, ?_⟩
  have ef : zs.flatMap mK ++ mK ⟨2, 0, v, none, 0, 0⟩ = (zs ++ [(⟨2, 0, v, none, 0, 0⟩ : CV)]).flatMap mK := by rw [List.flatMap_append, List.flatMap_singleton]
  rw [ef] at o9
  have F9 : Fr No h3 h9 := F8.fresh f9 (λy hy => by have := a7 y hy; have := f5.1; omega)
  have L9 : xE h9 (λ_ => True) q' (zs.length + 1) DO (zs ++ [⟨2, 0, v, none, 0, 0⟩]) := ⟨by simp, o9.qa, λ_ _ _ => trivial, o9.le⟩
  have T9 : Mu h9 (aat b) (zs ++ [⟨2, 0, v, none, 0, 0⟩]) := by
    have t1 := dH.frame f9 (λy hy AW => hy.2 AW) (dH.on (dH.on a8 f7) f8)
    have t2 : kU h7 (λy => h6.size ≤ y) (BH v.b) ⟨2, 0, v, none, 0, 0⟩ := NU ov
    have t3 := (t2.on f8).frame f9 (λy hy AW => by have := qs y AW; omega)
    have := dH.snoc t1.u t3.u
    rw [ev] at this
    unfold aat
    rw [es]
    exact this
  refine Zn (i := 3) U (u.tt (F3.tt F9)) L9 T9 (by omega) (by omega) (λt ht h19 z tz f19 => aa.ex z.s ⟨_, rfl, ?_⟩) (λe he h19 f19 => aa.ex zv.s ⟨_, rfl, ?_⟩)
  · have z9 := F9.1
    exact fin ((F9.tt f19).get qx id) tz (λy hy e => by omega) λQp t20 f20 => hk Qp z 0 (λt' e => by rw [eW, ht] at e; cases e; exact ⟨rfl, t20.mono λy hy => by omega⟩) (λe' e => by rw [eW, ht] at e; cases e) ((F3.tt (F9.tt f19)).fresh f20 (λy e => by omega))
  · exact Qo ((F9.tt f19).get qx id) λQp f20 => hk Qp zv e (λt' e' => by rw [eW, he] at e'; cases e') (λe' e2 => by rw [eW, he] at e2; cases e2; rfl) ((F3.tt (F9.tt f19)).fresh f20 (λy e => by omega))
theorem ai2 {b:Nat} {y x:aE.S} {K:aE.S->aj->Prop} (hb:aE.jx h b y) (hk: ∀h',Fr (λy=>y=b) h h'->K x h'):
  aE.dW h (AA b 0) x λg=>aE.dh g (AA b 0) λr=>K r g:=
 aE.mB (x:=x) hb λg d1 f _=>aE.jk d1 (hk g f)
theorem ahu {t:Tr} {x:CV} (U:xQ V h0) (u:Fr No h0 h) (mx:Gj.Mx h) (tx:SW h t x) (hr:room t<=50000)
  (k1: ∀b,Ki V t=.ok b->∀h' p c,BV.ok h' (λy=>h.size<=y) ⟨p,c,b.data⟩->Fr No h h'->R (.tuple #[(b.s p c).agg,.I 0]) h') (k2: ∀e,Ki V t=.error e->e≠0->∀h',Fr No h h'->R (.tuple #[aE.S.z.agg,.I e]) h'):Cl F.wX #[x.agg] h R:=by
 have rl:=yU (t:=t);refine wX.walk (x:=x.s) (aa.dI λb h1 eb hb f1=>aE.dI λb1 h2 uh dx f2=>aa.jk (f2.get hb id) ?_);have F2:=f1.tt f2;have fJ:=f2.get hb id;have zb:=aI hb;have PU:=aI dx;have z1:=f1.1;have z2:=f2.1;have no: ∀g e,Fr No h2 g->Ki V t=.error e->e≠0->aE.dW g (AA b1 0) .z λg'=>aE.dh g' (AA b1 0) λr=>R (.tuple #[r.agg,.I e]) g':=λg e fg he hn=>
  ai2 (fg.get dx id) λg' f=>k2 e he hn g' ((F2.tt fg).fresh f (λy e=>by omega))
 have hP:Ki V t=Ki V t:=rfl;conv at hP=>rhs;unfold Ki
 refine vX (i:=3) U (u.tt F2) (tx.on F2) (by omega) (by omega) (λus hu ru h3 p zs c L TS f3=>⟨_,_,_,_,rfl,?_⟩) (λe he hn h3 f3=>⟨_,_,_,_,rfl,?_⟩)
 case refine_2=>
  rw[ag (by simpa using hn)];exact no h3 e f3 (by rw[hP,he]) hn
 rw[dM];rw[hu] at hP;dsimp only at hP;have n2:=abf hu;have ln:=TS.len;have l9:=kN us;refine aK.of λJ hJ=> ?_
 have bad: ¬(us.length=5/\(at_ us 4).k=2)->J true h3:=λhn=>by
  subst hJ;dsimp only;rw[ag rfl];exact no h3 3 f3 (by rw[hP,ai hn]) (by decide)
 by_cases l5:us.length=5
 case neg=>rw[ag (by simp only[fL,iq];omega)];exact bad (λe=>l5 e.1)
 rw[ai (by simp only[fL,iq];omega)];have z3:=f3.1;have it: ∀i,i<5->∃(a:Addr) (y:CV),p=some a/\fF (a.add (i*4)) y.s.l 0 h3/\SW h3 (at_ us i) y/\ak h3 ((a.add (i*4)).add 1)=some (.U ((at_ us i).n:Int)):=λi hi=>by
  obtain⟨a,y,ea,hh,ty,_⟩:=elem L TS (i:=i) (by omega);obtain⟨_,yn,_⟩:=kU.kn ty;exact⟨a,y,ea,hh,ty.u,by have:=hh.2.1;rw[<-yn];exact this⟩
 obtain⟨a0,y0,ea0,hh0,Yu,c0⟩:=it 0 (by omega);obtain⟨a1,y1,Yw,V1,VE,c1⟩:=it 1 (by omega);obtain⟨a2,y2,ea2,hh2,ty2,c2⟩:=it 2 (by omega);obtain⟨a3,y3,ea3,hh3,ty3,c3⟩:=it 3 (by omega);obtain⟨a4,y4,ea4,hh4,ty4,c4⟩:=it 4 (by omega);obtain⟨yk,yn,yb,yl,yv,_⟩:=kU.kn ty4;have r4:=sa (ts:=us) (i:=4) (by omega);have rl4:=yU (t:=at_ us 4);refine⟨⟨by omega,by omega⟩,cH.2 ⟨a4,ea4,_,hh4.1,?_⟩⟩;by_cases k2':(at_ us 4).k=2
 case neg=>rw[show(y4.s.f0 !=2)=true by have:y4.s.f0=(at_ us 4).k:=yk;rw[this];simpa using k2'];exact bad (λe=>k2' e.2)
 rw[show(y4.s.f0 !=2)=false by have:y4.s.f0=(at_ us 4).k:=yk;rw[this];simpa using k2'];clear bad;rw[ag ⟨l5,k2'⟩] at hP;subst hJ;try dsimp only
 rw[dM];have u3:=u.tt (F2.tt f3);have m3:=mx.on (F2.tt f3);have e3:(Cw us).data=y4.v.b:=yb.symm;refine aK.of λJ1 pB=> ?_
 have rest: ∀g b4 q cl,aE.jx g b4 ((Cw us).s q cl)->h2.size<=b4->BV.ok g (λy=>h3.size<=y/\y≠b4) ⟨q,cl,(Cw us).data⟩->Fr No h3 g->J1 (some (AA b4 0)) g:=by
  intro g b4 q cl hs z4 ov fg;subst pB;refine aB.2 (aE.jk hs (Zs (Cw us) U (u3.tt fg) (m3.on fg) ov.row ov.cap (by rw[e3,yb];omega) λh8 w qw w0 w1 f8=>aa.ex w.s ⟨_,rfl,aa.j9 (x:=w.s) λb5 vk eb5 DK f10=>aK.of λJ2 zY=> ?_⟩));have Nj:=f8.tt f10;have G10:=f3.tt (fg.tt Nj);have bad: ∀g',Fr No vk g'->Ki V t=.error 3->J2 true g':=λg' fg' he=>by
   subst zY;try dsimp only
   rw[ag rfl];exact no g' 3 (G10.tt fg') he (by decide)
  cases hW:DJ V (Cw us) with
  |error e=>
   rw[hW] at hP;rw[ag (by rw[w1 e hW];simpa using Tq hW)];exact bad vk (Fr.refl _ _) hP
  |ok again=>
   rw[hW] at hP;dsimp only at hP;obtain⟨rfl,tw⟩:=w0 again hW;have rw':=Oq hW;rw[dM];refine aa.jk DK (aa.jk (x:=x.s) (G10.get fJ id) (pW (x:=w) (y:=x) (tw.u.on f10) (tx.on (F2.tt G10)) (by omega) λDw f14=>⟨_,rfl,?_⟩));cases he:yW again t with
   |false=>exact bad Dw f14 (by rw[hP,ai (by rw[he];decide)])
   |true=>
    rw[he,ag rfl] at hP;subst zY;try dsimp only
    rw[dM];refine aB.2 (aE.jk ((Nj.tt f14).get hs id) (ai2 ((G10.tt f14).get dx id) λg' f=>k1 _ hP g' q cl ?_ ((F2.tt (G10.tt f14)).fresh f (λy e=>by omega))));have:=(ov.mono (D':=λy=>h3.size<=y) λy hy=>hy.1).frame (Nj.tt f14) (λ_ _=>id);exact(this.frame f (λy hy e=>by omega)).mono λy hy=>by omega
 refine⟨⟨by omega,by omega⟩,cH.2 ⟨a0,ea0,_,c0,⟨by omega,by omega⟩,cH.2 ⟨a1,Yw,_,c1,⟨by omega,by omega⟩,cH.2 ⟨a2,ea2,_,c2,⟨by omega,by omega⟩,cH.2 ⟨a3,ea3,_,c3,⟨by omega,by omega⟩,cH.2 ⟨a4,ea4,_,_,_,hh4.2.2.1,?_⟩⟩⟩⟩⟩⟩;rw[bL (n:=(((at_ us 3).n:Nat):Int)) (by omega) (by omega)];have l4:y4.v.b.length<=50000:=by rw[yb];omega
 have eS: ∀p' c',(⟨(at_ us 0).n,(at_ us 1).n,(at_ us 2).n,(at_ us 3).n,p',y4.v.b.length,c'⟩:aE.S)=(Cw us).s p' c':=λp' c'=>by
  show _=(⟨_,_,_,_,p',(Cw us).data.length,c'⟩:aE.S);rw[e3];rfl
 refine⟨?_,?_,trivial⟩
 ·refine vg.mz yv.row rfl (by omega) λp' c' GZ Mq f15 g15=>⟨_,_,_,rfl,f15.kp,aE.dI λb4 vZ VA mb f16=>⟨f16.kp,?_⟩⟩
  rw[eS];have z15:=f15.1;have z4:=aI mb;refine aE.mB (x:=(Cw us).s p' c') mb λQr d17 f17 _=>rest Qr b4 p' c' d17 (by omega) ?_ ((f15.tt f16).fresh f17 (λy e=>by omega))
  have o17:=(Mq.frame f16 (λ_ _=>id)).frame f17 (λy hy e=>by have:=Mq.gn hy;omega);rw[e3];exact BV.wM o17 (λy hy=>⟨g15 y hy,by have:=Mq.gn hy;omega⟩)
 ·refine aE.dI λb4 Gm VA mb f18=>⟨f18.kp,vg.mz (yv.row.frame f18 (λ_ _=>id)) rfl (by omega) λp' c' h19 o19 f19 g19=>⟨_,_,_,rfl,f19.kp,?_⟩⟩
  rw[eS];have z18:=f18.1;have z4:=aI mb;refine aE.mB (x:=(Cw us).s p' c') (f19.get mb id) λQp d20 f20 _=>rest Qp b4 p' c' d20 (by omega) ?_ ((f18.tt f19).fresh f20 (λy e=>by omega))
  have o20:=o19.frame f20 (λy hy e=>by have:=g19 y hy;omega);rw[e3];exact BV.wM o20 (λy hy=>by have:=g19 y hy;omega)
end Bn
end
section
variable {h:aj} {R:iI}
theorem tc.walk {kind:Int} (hv:if(kind==1) then R (.bool true) h else if(kind==6) then R (.bool true) h else if(kind==7) then R (.bool true) h else R (.bool (kind==10)) h):Cl F.tc #[.U kind] h R:=aS (lq ll) Tryz.func176 hv
theorem wV.walk {Dc:bV} {xR Io:Nat} (hv: ∃(I:Bool->aj->Prop) (mu:Bool->aj->Nat),(aK (λ(t33:Bool) (aR:aj)=>if t33 then R (.bool false) aR else I true aR) (λJ=>if(decide ((wrap .i64 ((xR:Int) - 1))<0)) then J true h else if(decide ((wrap .i64 ((xR:Int) - 1))≥8)) then J true h else Bd (wrap .i64 ((xR:Int) - 1)) xR/\aP Dc λa=> ∃t23,ak h (a.add (toNat (wrap .i64 ((xR:Int) - 1))*5))=some (.U t23)/\if(t23 !=1) then J true h else Bd (wrap .i64 ((xR:Int) - 1)) xR/\aP Dc λkz=> ∃t31,ak h ((kz.add (toNat (wrap .i64 ((xR:Int) - 1))*5)).add 1)=some (.U t31)/\J (t31 !=1) h))/\∀(ok:Bool) (aZ:aj),I ok aZ->aK (λ(ad9:Bool) (bK:aj)=>R (.bool ad9) bK) (λjo=> ∃(Kq:Bool->Int->aj->Prop) (CD:Bool->Int->aj->Nat),Kq ok 0 aZ/\∀(VC:Bool) (t36:Int) (cC:aj),Kq VC t36 cC->if(decide (t36<(xR:Int))) then Bd t36 xR/\aP Dc λpF=>aE.dh cC (pF.add (toNat t36*5)) λt40=>aV cC (.cells aE.S.z.arr T.aE) λb cK=>aE.dW cK (AA b 0) t40 λcR=>aE.dh cR (AA b 0) λt41=>Cl F.sF #[t41.agg] cR λv cX=>Vb v λt42=>((0:Int)<=t36/\t36<=(Io:Int))/\∃(I_2:Bool->Int->aj->Prop) (ao4:Bool->Int->aj->Nat),I_2 t42 0 cX/\∀(Lt:Bool) (t47:Int) (dB:aj),I_2 Lt t47 dB->if(decide (t47<(((toNat t36) - 0:Nat):Int))) then aK (λ(ahm:Bool) (ff:aj)=>(I_2 ahm (wrap .i64 (t47+1)) ff/\ao4 ahm (wrap .i64 (t47+1)) ff<ao4 Lt t47 dB)) (λBp=>((0:Int)<=t47/\t47<(((toNat t36) - 0:Nat):Int))/\aP (da Dc Io 0 5) λrZ=>aE.dh dB (rZ.add (toNat t47*5)) λt50=>aV dB (.cells aE.S.z.arr T.aE) λcE cQ=>aE.dW cQ (AA cE 0) t50 λcW=>aK (λ(arn:Bool) (dE:aj)=>Bp arn dE) (λGH=>if Lt then Hu cW cE 1 λt54=> ∃t56,ak cW (AA b 1)=some (.U t56)/\if(t54 !=t56) then Hu cW cE 0 λt61=> ∃t63,ak cW (AA b 0)=some (.U t63)/\if(t61 !=t63) then GH true cW else Hu cW b 0 λt67=>Cl F.tc #[.U t67] cW λeK dG=> ∃t68,eK=.bool t68/\GH (!t68) dG else GH false cW else GH false cW)) else if(!Lt) then jo Lt dB else(Kq Lt (wrap .i64 (t36+1)) dB/\CD Lt (wrap .i64 (t36+1)) dB<CD VC t36 cC) else jo VC cC)):Cl F.wV #[.slice Dc xR Io] h R:=aS (lq (.scope 0 [(4,.one (.bool))] (lq (sq (sq (.join [(33,.one (.bool))] lf) (cq ll lf)) (lq ll))) (lq (sq (lq (.join [(4,.one (.bool))] (bq (.loop [(4,.one (.bool)),(36,.one (.int .i64))] (lq (sq (cq lf lf) (sq (bq (lq (lq (sq (lq (bq (.loop [(4,.one (.bool)),(47,.one (.int .i64))] (lq (sq (cq lf lf) (sq (.join [(4,.one (.bool))] (bq (lq (.join [(4,.one (.bool))] lf)))) lf)))))) (lq (cq lf lf)))))) lf))))))) ll)))) Tryz.func124 hv
theorem sZ.walk {b:aw.S} (hv:aV h (.cells b.arr T.aw) λcE aR=>aC.dh aR (AA cE 0) λt16=>Cl F.nt #[t16.agg] aR λv aZ=>aa.EX λyy=> ∃xr,v=.tuple #[yy.agg,.I xr]/\aV aZ (.cells aa.S.z.arr T.aa) λeZ bK=>aa.dW bK (AA eZ 0) yy λcC=>if(xr !=0) then R (.tuple #[.Z,.bool false]) cC else aa.dh cC (AA eZ 0) λt23=>Cl F.mw #[t23.agg] cC λeK cK=> ∃Zt Zu Zv Kz,eK=.tuple #[.slice Zt Zu Zv,.I Kz]/\Hl cK cE 20 λBl zD Fl=> ∃(I:bV->Nat->Nat->Int->aj->Prop) (mu:bV->Nat->Nat->Int->aj->Nat),I Zt Zu Zv 0 cK/\∀(kJ:bV) (kK kL:Nat) (t30:Int) (cR:aj),I kJ kK kL t30 cR->if(decide (t30<(zD:Int))) then Bd t30 zD/\aP Bl λa=>aE.dh cR (a.add (toNat t30*5)) λt33=>aV cR (.cells aE.S.z.arr T.aE) λjR cX=>aE.dW cX (AA jR 0) t33 λdB=>aE.dh dB (AA jR 0) λt35=>Cl F.sH #[t35.agg] dB λgS ff=>aa.EX λTa=> ∃Ir,gS=.tuple #[Ta.agg,.I Ir]/\aV ff (.cells aa.S.z.arr T.aa) λpI cQ=>aa.dW cQ (AA pI 0) Ta λcW=>if(Ir !=0) then R (.tuple #[.Z,.bool false]) cW else aa.dh cW (AA pI 0) λt42=>Cl F.mw #[t42.agg] cW λkV dE=> ∃Zw Zx Zy CG,kV=.tuple #[.slice Zw Zx Zy,.I CG]/\aX Tryz.prog (Builtin.append_ #[T.du,T.du] T.du #[.slice kJ kK kL,.slice Zw Zx Zy]) dE λou dG=> ∃D9 Ea FI,ou=.slice D9 Ea FI/\(I D9 Ea FI (wrap .i64 (t30+1)) dG/\mu D9 Ea FI (wrap .i64 (t30+1)) dG<mu kJ kK kL t30 cR) else R (.tuple #[.slice kJ kK kL,.bool true]) cR):Cl F.sZ #[b.agg] h R:=aS (lq (lq (sq (lq (cq ll lf)) (lq (sq (lq (bq (.loop [(6,.one (.slice)),(30,.one (.int .i64))] (lq (sq (cq lf lf) (sq (bq (lq (lq (sq (lq (cq ll lf)) ll)))) lf)))))) ll))))) Tryz.func125 hv
theorem qF.walk {b:aw.S} (hv:aV h (.cells b.arr T.aw) λcE aR=>aw.dh aR (AA cE 0) λt6=>Cl F.qE #[t6.agg] aR λv aZ=> ∃alv alw alx Ky,v=.tuple #[.slice alv alw alx,.I Ky]/\R (.bool (Ky==0)) aZ):Cl F.qF #[b.agg] h R:=aS (lq (lq ll)) Tryz.func196 hv
theorem qE.walk {b:aw.S} (hv:aV h (.cells b.arr T.aw) λcE aR=>Hl aR cE 20 λEz EA EB=>Cl F.wV #[.slice Ez EA EB] aR λv aZ=> ∃t8,v=.bool t8/\if(!t8) then R (.tuple #[.Z,.I 3]) aZ else aw.dh aZ (AA cE 0) λt11=>Cl F.sZ #[t11.agg] aZ λeK bK=> ∃Zz Qx ZA xj,eK=.tuple #[.slice Zz Qx ZA,.bool xj]/\aK (λ(t21:Bool) (cC:aj)=>if t21 then R (.tuple #[.Z,.I 3]) cC else aV cC (.cells #[.int .u8 159] T.uint8) λeZ cK=>aX Tryz.prog (Builtin.append_ #[T.du,T.du] T.du #[.slice (some (AA eZ 0)) 1 1,.slice Zz Qx ZA]) cK λgS cR=>Vl gS λiQ iy iz=>aV cR (.cells #[.int .u8 255] T.uint8) λjR cX=>aX Tryz.prog (Builtin.append_ #[T.du,T.du] T.du #[.slice iQ iy iz,.slice (some (AA jR 0)) 1 1]) cX λkV dB=> ∃ya rF yc,kV=.slice ya rF yc/\R (.tuple #[.slice ya rF yc,.I 0]) dB) (λJ=>if(!xj) then J true bK else J (decide ((Qx:Int)>598)) bK)):Cl F.qE #[b.agg] h R:=aS (lq (sq (lq (cq ll lf)) (lq (sq (sq (.join [(21,.one (.bool))] lf) (cq ll lf)) ll)))) Tryz.func58 hv
theorem qj.walk {Bh:bV} {xe Dr:Nat} (hv:aV h (.cells aw.S.z.arr T.aw) λb aR=>if(decide ((xe:Int)>1200)) then aw.dW aR (AA b 0) aw.S.z λaZ=>aw.dh aZ (AA b 0) λr0=>R (.tuple #[r0.agg,.I 2]) aZ else Cl F.uw #[.slice Bh xe Dr,.I 0] aR λv bK=>aa.EX λvL=> ∃vj aeN,v=.tuple #[vL.agg,.I vj,.I aeN]/\aV bK (.cells aa.S.z.arr T.aa) λcE cC=>aa.dW cC (AA cE 0) vL λcK=>if(aeN !=0) then aw.dW cK (AA b 0) aw.S.z λcR=>aw.dh cR (AA b 0) λia=>R (.tuple #[ia.agg,.I aeN]) cR else aK (λ(t27:Bool) (cX:aj)=>if t27 then aw.dW cX (AA b 0) aw.S.z λdB=>aw.dh dB (AA b 0) λoT=>R (.tuple #[oT.agg,.I 3]) dB else aV cX (.cells aw.S.z.arr T.aw) λeZ ff=>Hl ff cE 3 λyh yi Bq=>Bd 0 yi/\aP yh λa=>aa.dh ff (a.add (toNat 0*4)) λt54=>Cl F.te #[t54.agg] ff λeK cQ=>aC.EX λud=> ∃tG,eK=.tuple #[ud.agg,.I tG]/\aC.dW cQ (AA eZ 0) ud λcW=>if(tG !=0) then aw.dW cW (AA b 0) aw.S.z λdE=>aw.dh dE (AA b 0) λpH=>R (.tuple #[pH.agg,.I tG]) dE else Hl cW cE 3 λao5 aeO ao6=>((0:Int)<=1/\1<=(aeO:Int))/\∃(I:Int->aj->Prop) (mu:Int->aj->Nat),I 0 cW/\∀(t67:Int) (dG:aj),I t67 dG->if(decide (t67<((aeO - (toNat 1):Nat):Int))) then((0:Int)<=t67/\t67<((aeO - (toNat 1):Nat):Int))/\aP (da ao5 ao6 (toNat 1) 4) λkz=>aa.dh dG (kz.add (toNat t67*4)) λt70=>aV dG (.cells aa.S.z.arr T.aa) λjR fD=>aa.dW fD (AA jR 0) t70 λgE=>aa.dh gE (AA jR 0) λt72=>Cl F.wX #[t72.agg] gE λgS gX=>aE.EX λai3=> ∃aeP,gS=.tuple #[ai3.agg,.I aeP]/\aV gX (.cells aE.S.z.arr T.aE) λpI gR=>aE.dW gR (AA pI 0) ai3 λfi=>if(aeP !=0) then aw.dW fi (AA b 0) aw.S.z λjn=>aw.dh jn (AA b 0) λyR=>R (.tuple #[yR.agg,.I aeP]) jn else Hl fi eZ 20 λYn ad7 NZ=>aE.dh fi (AA pI 0) λt82=>aV fi (.cells t82.arr T.aE) λBA ju=>aX Tryz.prog (Builtin.append_ #[T.lP,T.lP] T.lP #[.slice Yn ad7 NZ,.slice (some (AA BA 0)) 1 1]) ju λkV sL=> ∃ai4 ai5 ai6,kV=.slice ai4 ai5 ai6/\aH sL (AA eZ 20) (.slice ai4 ai5 ai6) λrM=>(I (wrap .i64 (t67+1)) rM/\mu (wrap .i64 (t67+1)) rM<mu t67 dG) else aw.dh dG (AA eZ 0) λt87=>Cl F.qF #[t87.agg] dG λou qL=> ∃t88,ou=.bool t88/\if(!t88) then aw.dW qL (AA b 0) aw.S.z λvi=>aw.dh vi (AA b 0) λKT=>R (.tuple #[KT.agg,.I 3]) vi else aw.dh qL (AA eZ 0) λt91=>aw.dW qL (AA b 0) t91 λzZ=>aw.dh zZ (AA b 0) λUR=>R (.tuple #[UR.agg,.I 0]) zZ) (λJ=>if(vj !=(xe:Int)) then J true cK else∃t34,ak cK (AA cE 0)=some (.I t34)/\if(t34 !=4) then J true cK else∃ot kI oH,ak cK (AA cE 3)=some (.slice ot kI oH)/\if(decide ((kI:Int)<2)) then J true cK else∃acN WD acO,ak cK (AA cE 3)=some (.slice acN WD acO)/\J (decide ((WD:Int)>9)) cK)):Cl F.qj #[.slice Bh xe Dr] h R:=aS (lq (sq (lq (cq ll lf)) (lq (sq (bq (lq (cq ll (sq (.join [(27,.one (.bool))] lf) (cq ll lf))))) (lq (sq (lq (lq (cq ll lf))) (sq (lq (bq (.loop [(67,.one (.int .i64))] (lq (sq (cq lf lf) (sq (bq (lq (lq (sq (lq (cq ll lf)) lf)))) lf)))))) (sq (lq (cq ll lf)) ll)))))))) Tryz.func158 hv
theorem nW.walk {b : aw.S} (hv :
 aV h (.cells b.arr T.aw) λcE aR =>
 ∃ Pb Mf Pc, ak aR ⟨cE, 20, none⟩ = some (.slice Pb Mf Pc) ∧
 if (((Mf : Nat) : Int) == 0) = true then
 R (.slice none 0 0) aR
 else
 ∃ yM vR AB, ak aR ⟨cE, 20, none⟩ = some (.slice yM vR AB) ∧
 ∃ yw rQ CS, ak aR ⟨cE, 20, none⟩ = some (.slice yw rQ CS) ∧
 ((0 : Int) ≤ IntKind.wrap .i64 (((rQ : Nat) : Int) - 1) ∧ IntKind.wrap .i64 (((rQ : Nat) : Int) - 1) < ((vR : Nat) : Int)) ∧
 aP yM λa =>
 ∃ tH sK ue, ak aR ((a.add (Int.toNat (IntKind.wrap .i64 (((rQ : Nat) : Int) - 1)) * 5)).add 4) = some (.slice tH sK ue) ∧
 Cl F.cv #[.slice tH sK ue] aR λv aZ =>
 ∃ Km Kn MX, v = .slice Km Kn MX ∧
 R (.slice Km Kn MX) aZ) : Cl F.nW #[b.agg] h R :=
 aS (.seq .leaf (.seq (.seq .leaf (.cond (.seq .leaf .leaf) .leaf)) (.seq .leaf .leaf))) Tryz.func159 hv
theorem tB.walk {r:bX.S} (hv:aV h (.cells r.arr T.bX) λb aR=> ∃t4,ak aR (AA b 0)=some (.bool t4)/\if t4 then∃t15,ak aR (AA b 3)=some (.U t15)/\if(decide (t15<=255)) then∃t20,ak aR (AA b 4)=some (.U t20)/\if(decide (t20<=1099511627776)) then ah.dh aR (AA b 5) λt25=>Cl F.km #[t25.agg] aR λv aZ=> ∃t26,v=.bool t26/\R (.bool t26) aZ else R (.bool false) aR else R (.bool false) aR else∃t7,ak aR (AA b 1)=some (.bool t7)/\if t7 then∃uf,ak aR (AA b 3)=some (.U uf)/\if(decide (uf<=255)) then∃uk,ak aR (AA b 4)=some (.U uk)/\if(decide (uk<=1099511627776)) then ah.dh aR (AA b 5) λLo=>Cl F.km #[Lo.agg] aR λeK bK=> ∃HU,eK=.bool HU/\R (.bool HU) bK else R (.bool false) aR else R (.bool false) aR else∃t11,ak aR (AA b 2)=some (.bool t11)/\if t11 then∃Sy,ak aR (AA b 3)=some (.U Sy)/\if(decide (Sy<=255)) then∃W8,ak aR (AA b 4)=some (.U W8)/\if(decide (W8<=1099511627776)) then ah.dh aR (AA b 5) λOm=>Cl F.km #[Om.agg] aR λgS cC=> ∃ai7,gS=.bool ai7/\R (.bool ai7) cC else R (.bool false) aR else R (.bool false) aR else R (.bool false) aR):Cl F.tB #[r.agg] h R:=aS (lq ll) Tryz.func290 hv
theorem uy.walk {Dc:bV} {xR Io:Nat} (hv:aV h (.cells aa.S.z.arr T.aa) λb aR=>Cl F.fO #[.Z] aR λv aZ=>aa.EX λt7=>v=t7.agg/\aV aZ (.cells aa.S.z.arr T.aa) λcE bK=>aa.dW bK (AA cE 0) t7 λcC=> ∃(I:Int->aj->Prop) (mu:Int->aj->Nat),I 0 cC/\∀(t10:Int) (cK:aj),I t10 cK->if(decide (t10<(xR:Int))) then Bd t10 xR/\aP Dc λa=>Hb' cK (a.add (toNat t10*1)) λt13=>aK (λ(n:Int) (cR:aj)=>Hl cR cE 3 λKm Kn MX=>Cl F.fI #[.U n] cR λeK cX=>aa.EX λt18=>eK=t18.agg/\Kp cR cX [(some (AA cE 3))]/\aV cX (.cells t18.arr T.aa) λeZ dB=>Kp cX dB [(some (AA cE 3))]/\aX Tryz.prog (Builtin.append_ #[T.cF,T.cF] T.cF #[.slice Km Kn MX,.slice (some (AA eZ 0)) 1 1]) dB λgS ff=> ∃uo tQ vP,gS=.slice uo tQ vP/\aH ff (AA cE 3) (.slice uo tQ vP) λcQ=>(I (wrap .i64 (t10+1)) cQ/\mu (wrap .i64 (t10+1)) cQ<mu t10 cK)) (λJ=>if t13 then J 1 cK else J 0 cK) else aa.dh cK (AA cE 0) λt23=>aa.dW cK (AA b 0) t23 λcW=>aa.dh cW (AA b 0) λr0=>R (r0.agg) cW):Cl F.uy #[.slice Dc xR Io] h R:=aS (lq (lq (sq (lq (bq (.loop [(10,.one (.int .i64))] (lq (sq (cq lf lf) (sq (bq (lq (lq (sq (lq (.join [(6,.one (.int .u64))] (cq lf lf))) (pK 8))))) lf)))))) ll))) Tryz.func291 hv
theorem tn.walk {r:bX.S} (hv:aV h (.cells r.arr T.bX) λb aR=>ah.dh aR (AA b 5) λt8=>Cl F.oF #[t8.agg] aR λv aZ=>aa.EX λIP=> ∃IS,v=.tuple #[IP.agg,.I IS]/\aV aZ (.cells aa.S.z.arr T.aa) λcE bK=>aa.dW bK (AA cE 0) IP λcC=>aK (λ(t18:Bool) (cK:aj)=>if t18 then R (.tuple #[.Z,.I 3]) cK else Hb cK b 0 λt21=>Hb cK b 1 λt23=>Hb cK b 2 λt25=>Hu cK b 3 λt29=>Hu cK b 4 λt32=>aa.dh cK (AA cE 0) λt34=>(Cl F.fI #[.U 1] cK λeK cR=>aa.EX λt19=>eK=t19.agg/\Kp cK cR [(some (AA cE 0)),(some (AA b 4)),(some (AA b 3)),(some (AA b 2)),(some (AA b 1)),(some (AA b 0))]/\aV cR (.cells #[.bool t21,.bool t23,.bool t25] T.bool) λeZ cX=>Kp cR cX [(some (AA cE 0)),(some (AA b 4)),(some (AA b 3))]/\Cl F.uy #[.slice (some (AA eZ 0)) 3 3] cX λgS dB=>aa.EX λt27=>gS=t27.agg/\Kp cX dB [(some (AA cE 0)),(some (AA b 4)),(some (AA b 3))]/\Cl F.fI #[.U t29] dB λkV ff=>aa.EX λt30=>kV=t30.agg/\Kp dB ff [(some (AA cE 0)),(some (AA b 4))]/\Cl F.fI #[.U t32] ff λou cQ=>aa.EX λt33=>ou=t33.agg/\Kp ff cQ [(some (AA cE 0))]/\aV cQ (.cells (t27.l++t30.l++t33.l++t34.l).toArray T.aa) λjR cW=>Cl F.fO #[.slice (some (AA jR 0)) 4 4] cW λxw dE=>aa.EX λt36=>xw=t36.agg/\aV dE (.cells (t19.l++t36.l).toArray T.aa) λpI dG=>Cl F.fO #[.slice (some (AA pI 0)) 2 2] dG λAU fD=>aa.EX λt38=>AU=t38.agg/\Cl F.mw #[t38.agg] fD λDN gE=> ∃Gc Gd Ge FB,DN=.tuple #[.slice Gc Gd Ge,.I FB]/\R (.tuple #[.slice Gc Gd Ge,.I FB]) gE)/\(aV cK (.cells #[.bool t21,.bool t23,.bool t25] T.bool) λBA gX=>Kp cK gX [(some (AA cE 0)),(some (AA b 4)),(some (AA b 3))]/\Cl F.fI #[.U 1] gX λEK gR=>aa.EX λvJ=>EK=vJ.agg/\Kp gX gR [(some (AA cE 0)),(some (AA b 4)),(some (AA b 3))]/\Cl F.uy #[.slice (some (AA BA 0)) 3 3] gR λSQ fi=>aa.EX λzQ=>SQ=zQ.agg/\Kp gR fi [(some (AA cE 0)),(some (AA b 4)),(some (AA b 3))]/\Cl F.fI #[.U t29] fi λDd jn=>aa.EX λHZ=>Dd=HZ.agg/\Kp fi jn [(some (AA cE 0)),(some (AA b 4))]/\Cl F.fI #[.U t32] jn λEL ju=>aa.EX λFM=>EL=FM.agg/\Kp jn ju [(some (AA cE 0))]/\aV ju (.cells (zQ.l++HZ.l++FM.l++t34.l).toArray T.aa) λSP sL=>Cl F.fO #[.slice (some (AA SP 0)) 4 4] sL λQj rM=>aa.EX λIr=>Qj=Ir.agg/\aV rM (.cells (vJ.l++Ir.l).toArray T.aa) λb_7 qL=>Cl F.fO #[.slice (some (AA b_7 0)) 2 2] qL λVG vi=>aa.EX λxm=>VG=xm.agg/\Cl F.mw #[xm.agg] vi λVH zZ=> ∃Ou Ov Ow ZB,VH=.tuple #[.slice Ou Ov Ow,.I ZB]/\R (.tuple #[.slice Ou Ov Ow,.I ZB]) zZ)/\True) (λJ=>if(IS !=0) then J true cC else bX.dh cC (AA b 0) λt15=>Cl F.tB #[t15.agg] cC λVI BM=> ∃t16,VI=.bool t16/\J (!t16) BM)):Cl F.tn #[r.agg] h R:=aS (lq (lq (sq (sq (.join [(18,.one (.bool))] lf) (cq ll lf)) (sq (.qX (jh 6 1 (.op 9 (.op 10 (.op 12 (.op 13 (.op 15 (.alts (.fork 0 (.op 7 (.op 8 (.op 11 (.op 14 (jh 9 16 .done))))) (.fork 7 (.op 0 (.op 8 (.op 11 (.op 14 (jh 9 16 .done))))) .mE)))))))))) lf)))) Tryz.func249 hv
theorem ny.walk {r:bX.S} {dest:az.S} {id:ah.S} {gJ:Int} (hv:aV h (.cells r.arr T.bX) λb aR=>aV aR (.cells dest.arr T.az) λcE aZ=>aV aZ (.cells id.arr T.ah) λeZ bK=>aV bK (.cells aw.S.z.arr T.aw) λjR cC=>bX.dh cC (AA b 0) λt14=>Cl F.tn #[t14.agg] cC λv cK=> ∃ZC ZD ZE uf,v=.tuple #[.slice ZC ZD ZE,.I uf]/\if(uf !=0) then aw.dW cK (AA jR 0) aw.S.z λcR=>aw.dh cR (AA jR 0) λr0=>R (.tuple #[r0.agg,.I uf]) cR else az.dh cK (AA cE 0) λt22=>ah.dh cK (AA eZ 0) λt23=>aV cK (.cells #[.U 1,.U 1,.U 0,.I 0,.slice ZC ZD ZE] T.aE) λpI cX=>aV cX (.cells aw.S.z.arr T.aw) λBA dB=>aw.dW dB (AA BA 0) ⟨2,0,t22.f0,t22.f1,t22.f2,t22.f3,t22.f4,false,0,0,ka,ka,t23.f0,t23.f1,t23.f2,t23.f3,t23.f4,t23.f5,t23.f6,gJ,(some (AA pI 0)),1,1⟩ λff=>aw.dh ff (AA BA 0) λt30=>Cl F.qF #[t30.agg] ff λeK cQ=> ∃t31,eK=.bool t31/\if(!t31) then aw.dW cQ (AA jR 0) aw.S.z λcW=>aw.dh cW (AA jR 0) λia=>R (.tuple #[ia.agg,.I 3]) cW else aw.dh cQ (AA BA 0) λt34=>aw.dW cQ (AA jR 0) t34 λdE=>aw.dh dE (AA jR 0) λoT=>R (.tuple #[oT.agg,.I 0]) dE):Cl F.ny #[r.agg,dest.agg,id.agg,.U gJ] h R:=aS (lq (lq (sq (lq (cq ll lf)) (lq (sq (lq (cq ll lf)) ll))))) Tryz.func197 hv
end
section
namespace Bn
open Cb
open qJ (Ev dk uH)
variable {V:List UInt8→Bool} {h h0 h' g:aj} {R:iI} {D D':Nat→Prop}
structure BB where
 b:xV
 p:bV
 c:Nat
abbrev BB.s (x:BB):aE.S:=x.b.s x.p x.c
abbrev LH (x:BB):List Value:=x.s.l
theorem LI (x:BB):(LH x).length=5:=rfl
theorem aeQ (x:BB): ∀v∈LH x,jg v=true:=λv hv=>by
 simp only[LH,aE.S.l,bQ,List.not_mem_nil,or_false] at hv;rcases hv with rfl|rfl|rfl|rfl|rfl<;>rfl
structure qU (h:aj) (D:Nat->Prop) (bs:List xV) (q:bV) (l cl:Nat) (xs:List BB):Prop where
 eq:xs.map BB.b=bs
 len:l=bs.length
 row:Row h q (xs.flatMap LH)
 own:xs≠ []->∀y,aQ q y->D y
 cap:l<=cl
 ok: ∀x∈xs,BV.ok h D ⟨x.p,x.c,x.b.data⟩
theorem qU.xl {bs:List xV} {q:bV} {l cl:Nat} {xs:List BB} (B:qU h D bs q l cl xs):xs.length=bs.length:=by rw[<-B.eq,aN]
theorem qU.frame {Q:Nat->Prop} {bs:List xV} {q:bV} {l cl:Nat} {xs:List BB} (B:qU h D bs q l cl xs) (f:Fr Q h h') (hq: ∀y,D y->¬Q y):qU h' D bs q l cl xs:=by
 refine⟨B.eq,B.len,?_,B.own,B.cap,λx hx=>(B.ok x hx).frame f hq⟩;by_cases e:xs= []
 ·subst e;exact Row.nil
 ·exact B.row.frame f (λa ha=>hq _ (B.own e _ ⟨a,ha,rfl⟩))
theorem qU.on {bs:List xV} {q:bV} {l cl:Nat} {xs:List BB} (B:qU h D bs q l cl xs) (f:Fr No h h'):qU h' D bs q l cl xs:=B.frame f (λ_ _=>id)
theorem qU.mono {bs:List xV} {q:bV} {l cl:Nat} {xs:List BB} (B:qU h D bs q l cl xs) (hd: ∀y,D y->D' y):qU h D' bs q l cl xs:=
 ⟨B.eq,B.len,B.row,λe y hy=>hd y (B.own e y hy),B.cap,λx hx=>(B.ok x hx).mono hd⟩
theorem qU.get {bs:List xV} {q:bV} {l cl:Nat} {xs:List BB} (B:qU h D bs q l cl xs) {i:Nat} (hi:i<bs.length): ∃(a:Addr) (x:BB),q=some a/\fF (a.add (i*5)) x.s.l 0 h/\x.b=bs[i]/\BV.ok h D ⟨x.p,x.c,x.b.data⟩/\xs[i]? =some x:=by
 have xl:=B.xl;have hy:xs[i]? =some (xs[i]'(by omega)):=au _;obtain⟨a,rfl⟩:=B.row.some (by intro e;have:=bp List.length e;rw[gW LH 5 LI,bD] at this;omega);refine⟨a,_,rfl,B.row.lu LI hy,?_,B.ok _ (bt hy),hy⟩;have:=B.eq;subst this;rw[List.getElem_map]
theorem qU.take {bs:List xV} {q:bV} {l cl:Nat} {xs:List BB} (B:qU h D bs q l cl xs) {n:Nat} (hn:n<=bs.length):qU h D (bs.take n) (da q cl 0 5) (n - 0) (cl - 0) (xs.take n):=by
 have hc:=B.cap;have hl:=B.len;have hr:=B.row.sub (cap:=cl) (l:=0) (u:=n) (sz:=5) (cp _) (by omega);rw[wu LH 5 LI,Nat.zero_mul,jU] at hr;refine⟨by rw[List.map_take,B.eq],by rw[bR];omega,hr,λe y hy=>B.own (λe'=>e (by rw[e',List.take_nil])) y ?_,by omega,λx hx=>B.ok x (List.mem_of_mem_take hx)⟩;obtain⟨a,ea,eb⟩:=hy;unfold da at ea;cases q with
 |none=>split at ea<;>cases ea
 |some a'=>
  split at ea
  ·cases ea;exact⟨_,rfl,eb⟩
  ·cases ea;exact⟨_,rfl,eb⟩
theorem aeR {k:Nat} (hk:R (.bool (alone k)) h):Cl F.tc #[.U (k:Int)] h R:=by
 refine tc.walk ?_;unfold alone at hk;by_cases c1:k=1
 ·rw[ay (.inl c1)] at hk;rw[ag (by simp only[dA];omega)];exact hk
 rw[ai (by simp only[dA];omega)];by_cases c6:k=6
 ·rw[ay (.inr (.inl c6))] at hk;rw[ag (by simp only[dA];omega)];exact hk
 rw[ai (by simp only[dA];omega)];by_cases c7:k=7
 ·rw[ay (.inr (.inr (.inl c7)))] at hk;rw[ag (by simp only[dA];omega)];exact hk
 rw[ai (by simp only[dA];omega)];have:((k:Int)==10)=decide (k=1\/k=6\/k=7\/k=10):=by
  by_cases Wt:k=10
  ·rw[ay (.inr (.inr (.inr Wt)))];simp only[dA];omega
  ·rw[decide_eq_false (by omega)];simp only[beq_eq_false_iff_ne,iq];omega
 rw[this];exact hk
theorem aly {bs:List xV} {q:bV} {l cl:Nat} {xs:List BB} (U:xQ V h0) (u:Fr No h0 h) (mx:Gj.Mx h) (B:qU h D bs q l cl xs) (hl:bs.length<=1000000) (hd: ∀b∈bs,b.data.length<=80000)
  (hk: ∀h',Fr No h h'->R (.bool (Me V bs)) h'):Cl F.wV #[.slice q l cl] h R:=by
 have el:=B.len;subst el;refine wV.walk ?_;have hF:Me V bs=Me V bs:=rfl;conv at hF=>rhs;unfold Me
 refine⟨λok g=>ok=true/\g=h/\bs.length<=8/\Me V bs=Uu V [] bs,λ_ _=>0,aK.of λJ hJ=> ?_,?_⟩
 ·have no:Me V bs=false->J true h:=λe=>by
   subst hJ;dsimp only;rw[ag rfl];have:=hk h (Fr.refl _ _);rw[e] at this;exact this
  by_cases c0:bs.length=0
  ·rw[ag (by rw[c0];decide)];have:bs= []:=List.length_eq_zero_iff.1 c0;exact no (by rw[hF,this];rfl)
  obtain⟨n,hn⟩: ∃n,bs.length=n+1:=⟨bs.length - 1,by omega⟩;have ew:IntKind.wrap .i64 ((bs.length:Int) - 1)=(n:Int):=by rw[hn,bL (by omega) (by omega)];omega
  have HJ:bs.getLast? =some bs[n]:=by rw[List.getLast?_eq_getElem?,show bs.length - 1=n by omega,au (by omega)]
  rw[HJ] at hF;dsimp only at hF;rw[ew,dM];by_cases c8:bs.length<=8
  case neg=>rw[ag (by simp only[bf];omega)];exact no (by rw[hF,decide_eq_false c8];rfl)
  rw[dM];rw[ay c8,fv] at hF;obtain⟨a,x,rfl,hh,ex,_⟩:=B.get (i:=n) (by omega);have h0c:ak h (a.add (n*5))=some (.U ((bs[n].ty:Nat):Int)):=by rw[<-ex];exact hh.1
  have h1c:ak h ((a.add (n*5)).add 1)=some (.U ((bs[n].nr:Nat):Int)):=by rw[<-ex];exact hh.2.1
  refine⟨⟨by omega,by omega⟩,aB.2 ⟨_,by rw[aL];exact h0c,?_⟩⟩;by_cases c1:bs[n].ty=1
  case neg=>rw[ag (by simp only[fL,iq];omega)];exact no (by rw[hF,decide_eq_false (λe=>c1 e.1)];rfl)
  rw[ai (by simp only[fL,iq];omega)];refine⟨⟨by omega,by omega⟩,aB.2 ⟨_,by rw[aL];exact h1c,?_⟩⟩;by_cases c2:bs[n].nr=1
  case neg=>rw[show(((bs[n].nr:Nat):Int) !=1)=true by simp only[fL,iq];omega];exact no (by rw[hF,decide_eq_false (λe=>c2 e.2)];rfl)
  rw[show(((bs[n].nr:Nat):Int) !=1)=false by simp only[bne_eq_false_iff_eq];omega];subst hJ;dsimp only;rw[dM];exact⟨rfl,rfl,c8,by rw[hF,ay ⟨c1,c2⟩];rfl⟩
 rintro _ h ⟨rfl,rfl,l8,hf⟩;clear hF;refine aK.of λJ1 pB=> ?_
 refine⟨λok t g=> ∃i:Nat,t=(i:Int)/\i<=bs.length/\ok=true/\Fr No h g/\Uu V [] bs=Uu V (bs.take i) (bs.drop i),λ_ t _=>bs.length - t.toNat,⟨0,rfl,cp _,rfl,Fr.refl _ _,rfl⟩,?_⟩;rintro _ _ g ⟨i,rfl,hi,rfl,fg,he⟩;by_cases nR:i<bs.length
 case neg=>
  rw[ai (λe=>nR (by have:=of_decide_eq_true e;omega))];subst pB;have:=hk g fg;rw[hf,he,fM (by omega)] at this;exact this
 rw[jy];have Bg:=B.on fg;obtain⟨a,x,rfl,hh,ex,okx,_⟩:=Bg.get nR;rw[db nR] at he;have lx:x.b.data.length<=80000:=by rw[ex];exact hd _ (fx nR)
 refine⟨⟨by omega,by omega⟩,aB.2 (aE.yT (x:=x.s) (by rw[aL];exact hh) (aE.j9 (x:=x.s) λb h6 eb hb f6=>aE.jk hb (On x.b U (u.tt (fg.tt f6)) (mx.on (fg.tt f6)) (okx.frame f6 (λ_ _=>id)).row okx.cap lx λh7 f7=>⟨_,rfl,⟨by omega,by have:=B.cap;omega⟩,?_⟩)))⟩;have F7:=f6.tt f7;have hb7:=f7.get hb id;have z7:=fg.tt F7;rw[ex];have eP: ∀r,Uu V (bs.take i) (bs[i]::r)=(sf V bs[i] && (bs.take i).all (apart bs[i]) && Uu V (bs.take i++ [bs[i]]) r):=λr=>rfl
 rw[eP] at he;refine⟨λok t g'=> ∃k:Nat,t=(k:Int)/\k<=i/\ok=(sf V bs[i] && (bs.take k).all (apart bs[i]))/\Fr No h7 g',λ_ t _=>i - t.toNat,⟨0,rfl,cp _,by simp,Fr.refl _ _⟩,?_⟩;rintro ok _ g' ⟨k,rfl,Q5,hok,fg'⟩;have ei:((Int.toNat (i:Int)) - 0:Nat)=i:=by omega
 rw[ei];have FG:=fg.tt (F7.tt fg');by_cases V4:k<i
 case neg=>
  rw[ai (λe=>V4 (by have:=of_decide_eq_true e;omega))];have:k=i:=by omega
  subst this;rw[<-hok] at he;cases ok with
  |false=>
   rw[jy];subst pB;have:=hk g' FG;rw[hf,he] at this;exact this
  |true=>
   rw[dM,bL (n:=(k:Int)+1) (by omega) (by omega)];refine⟨⟨k+1,by omega,by omega,rfl,FG,?_⟩,by show bs.length - Int.toNat ((k:Int)+1)<bs.length - Int.toNat (k:Int);omega⟩;rw[he,fv,bZ,au nR];rfl
 rw[jy];refine aK.of λJ2 zY=> ?_
 have B2:=(B.on FG).take (n:=i) (by omega);have lt:(bs.take i).length=i:=by rw[bR];omega
 obtain⟨a',y,ea',hh',ey,oky,_⟩:=B2.get (i:=k) (by omega);rw[List.getElem_take] at ey;have lk:k<bs.length:=by omega
 have ek:bs.take (k+1)=bs.take k++ [bs[k]]:=by rw[bZ,au lk];rfl
 refine⟨⟨by omega,by omega⟩,cH.2 ⟨a',ea',aE.yT (x:=y.s) (by rw[aL];exact hh') (aE.j9 (x:=y.s) λb1 yj uh dx f11=>aK.of λJ3 SN=> ?_)⟩⟩;have alz:=(fg'.tt f11).get hb7 id;have go: ∀r g2,Fr No yj g2->r=(ok && apart bs[i] bs[k])->J3 r g2:=by
  intro r g2 f2 er;subst SN zY;dsimp only;rw[bL (n:=(k:Int)+1) (by omega) (by omega)];refine⟨⟨k+1,by omega,by omega,?_,fg'.tt (f11.tt f2)⟩,by show i - Int.toNat ((k:Int)+1)<i - Int.toNat (k:Int);omega⟩;rw[er,hok,ek,List.all_append,<-Bool.and_assoc];simp
 cases hq:ok with
 |false=>rw[dM];exact go false yj (Fr.refl _ _) (by rw[hq];rfl)
 |true=>
 rw[ag rfl];refine⟨_,af dx rfl,_,af alz rfl,?_⟩;rw[hq] at go;have n1:(((y.s.f1:Int) !=x.s.f1)=decide (bs[k].nr≠bs[i].nr)):=by
  show((y.b.nr:Int) !=(x.b.nr:Int))=_;rw[ey,ex];by_cases e:bs[k].nr=bs[i].nr
  ·rw[decide_eq_false (λq=>q e),e];simp
  ·rw[ay e];simp only[fL,iq];omega
 have n2:(((y.s.f0:Int) !=x.s.f0)=decide (bs[k].ty≠bs[i].ty)):=by
  show((y.b.ty:Int) !=(x.b.ty:Int))=_;rw[ey,ex];by_cases e:bs[k].ty=bs[i].ty
  ·rw[decide_eq_false (λq=>q e),e];simp
  ·rw[ay e];simp only[fL,iq];omega
 rw[n1];by_cases c1:bs[k].nr≠bs[i].nr
 case neg=>rw[ai (by simpa using c1)];exact go false yj (Fr.refl _ _) (by unfold apart;rw[decide_eq_false c1];rfl)
 rw[ag (ay c1)];refine⟨_,af dx rfl,_,af alz rfl,?_⟩;rw[n2];by_cases c2:bs[k].ty≠bs[i].ty
 ·rw[ag (ay c2)];exact go true yj (Fr.refl _ _) (by unfold apart;rw[ay c1,ay c2];rfl)
 rw[ai (by simpa using c2)];refine⟨_,af alz rfl,?_⟩;rw[show x.s.f0=((bs[i].ty:Nat):Int) by rw[<-ex]];exact aeR ⟨_,rfl,go _ yj (Fr.refl _ _) (by unfold apart;rw[ay c1,decide_eq_false c2];rfl)⟩
end Bn
end
end Go.Proofs.YtlenamcfacpheaaGreatDoor
