/-
  TU is proved here: parts of Jr proof, one behind Jr other (texts of this work, merged by a program; ZU Jr theorem ZV not use is left out). No condition.
-/
import Derived.Test.YtlenamcfacpheaaGreatDoorMAsese
set_option maxRecDepth 100000
set_option maxHeartbeats 4000000
namespace Go.Proofs.YtlenamcfacpheaaGreatDoor
open Go.Den
open IntKind (wrap)
open Int (toNat)
section
namespace Bn
open Cb
open qI (Ev dj uG)
variable {V:List UInt8→Bool} {h h0 h':aj} {R:iI}
abbrev oY.s (x:oY):ah.S:=⟨x.e.vD,x.e.node,x.e.l6,x.e.host,x.e.sM,x.tm,x.sq⟩
theorem oz {b off:Nat} {c:Array Value} {ty:TypeId} (x:Ev) {K:az.S->Prop} (hb:h[b]? =some (.cells c ty (0,0))) (h0:c[off]? =some (.bool x.vD)) (h1:c[off+1]? =some (.U x.node)) (h2:c[off+2]? =some (.U x.l6)) (h3:c[off+3]? =some (.string x.host)) (h4:c[off+4]? =some (.string x.sM)) (hk:K x.s):az.df h (AA b off) K:=
 ⟨_,af hb h0,_,af hb h1,_,af hb h2,_,af hb h3,_,af hb h4,hk⟩
theorem Lw {b off:Nat} {c:Array Value} {ty:TypeId} (x:oY) {K:ah.S->Prop} (hb:h[b]? =some (.cells c ty (0,0))) (h0:c[off]? =some (.bool x.e.vD)) (h1:c[off+1]? =some (.U x.e.node)) (h2:c[off+2]? =some (.U x.e.l6)) (h3:c[off+3]? =some (.string x.e.host)) (h4:c[off+4]? =some (.string x.e.sM)) (h5:c[off+5]? =some (.U (x.tm:Int))) (h6:c[off+6]? =some (.U (x.sq:Int))) (hk:K x.s):ah.df h (AA b off) K:=
 ⟨_,af hb h0,_,af hb h1,_,af hb h2,_,af hb h3,_,af hb h4,_,af hb h5,_,af hb h6,hk⟩
theorem Qr {b:Nat} {y:ah.S} (x:oY) {K:ah.S->aj->Prop} (hb:ah.jx h b y) (hk: ∀h',Fr (λy=>y=b) h h'->K x.s h'):
  ah.dV h (AA b 0) x.s λg=>ah.df g (AA b 0) λr=>K r g:=
 ah.mA (x:=x.s) hb λg d1 f _=>ah.jk d1 (hk g f)
theorem vC (n m:Nat):decide ((n:Int)<=(m:Int))=decide (n<=m):=by by_cases e:n<=m<;>simp[e]<;>omega
theorem DB (x:oY) (hk: ∀h',Fr No h h'->R (.bool (lC x)) h'):Cl F.kk #[x.s.agg] h R:=by
 refine kk.walk (ah.dH λb h1 eb hb f1=>oz x.e hb rfl rfl rfl rfl rfl (qI.ic x.e λh2 f2=>⟨_,rfl,?_⟩));have fI:=f2.get hb id;have hk:=hk h2 (f1.tt f2);unfold lC at hk;cases hr:dj x.e with
 |false=>rw[hr] at hk;exact hk
 |true=>
  rw[hr] at hk;rw[ag rfl];refine⟨_,af fI rfl,?_⟩;have e1:decide ((x.s.f5:Int)<=1099511627776)=decide (x.tm<=1099511627776):=vC x.tm 1099511627776;have e2:decide ((x.s.f6:Int)<=1099511627776)=decide (x.sq<=1099511627776):=vC x.sq 1099511627776;rw[e1];cases ht:decide (x.tm<=1099511627776) with
  |false=>rw[ht] at hk;exact hk
  |true=>
   rw[ht] at hk;rw[ag rfl];refine⟨_,af fI rfl,?_⟩;rw[e2];exact hk
theorem N4 (x:oY) (w1:0<=x.e.l6) (k1:lC x=true->∀h' z,Ee h' (λy=>h.size<=y) (idT x) z->Fr No h h'->R (.tuple #[z.agg,.I 0]) h')
  (k2:lC x=false->∀h',Fr No h h'->R (.tuple #[zv.agg,.I 3]) h'):Cl F.oE #[x.s.agg] h R:=by
 refine oE.walk (ah.dH λb h1 eb hb f1=>aa.dH λb1 h2 uf dw f2=>ah.jk (x:=x.s) (f2.get hb id) (DB x λh3 f3=>⟨_,rfl,?_⟩));have kR:=(f2.tt f3).get hb id;have qu:=f3.get dw id;have F3:=f1.tt (f2.tt f3);have z1:=f1.1;have PT:=aI dw;have z3:=f3.1;cases hr:lC x with
 |false=>exact Qn qu λh4 f4=>k2 hr h4 (F3.fresh f4 (λy e=>by omega))
 |true=>
  have hE:dj x.e=true:=by unfold lC at hr;simp only[aW] at hr;exact hr.1.1
  rw[dL];refine oz x.e kR rfl rfl rfl rfl rfl (He x.e w1 (λ_ h5 z tz f5=>aa.ex z.s ⟨_,rfl,aa.j8 (x:=z.s) λb2 h7 FE fI f7=>aa.jk fI ⟨_,af ((f5.tt f7).get kR id) rfl,_,af ((f5.tt f7).get kR id) rfl,?_⟩⟩) (λe=>by rw[hE] at e;cases e));refine jw λh8 f8=>aa.ex (nv x.tm).s ⟨rfl,f8.kp,jw λh9 f9=>aa.ex (nv x.sq).s ⟨rfl,f9.kp,zZ (ys:= [nv x.tm,nv x.sq]) rfl λb3 vj LP L f10=>⟨f10.kp,rU (L (λ_=>True) trivial) (two xK xK) (by simp[room,dY]) λyi y ty f11=>aa.ex y.s ⟨rfl,f11.kp,?_⟩⟩⟩⟩
  have Qs:=f7.tt (f8.tt (f9.tt (f10.tt f11)));have er:=wB x.e hE;refine AY (ys:= [z,y]) (two (tz.u.on Qs) ty.u) (by simp only[room,dY,bC];omega) rfl rfl λGP w tw f13=>aa.ex w.s ⟨rfl,?_⟩
  have z5:=f5.1;have z11:=Qs.1;exact fin ((f5.tt (Qs.tt f13)).get qu id) tw (λy hy e=>by omega) λDv t14 f14=>k1 hr Dv w (t14.mono λy hy=>by omega) ((F3.tt (f5.tt (Qs.tt f13))).fresh f14 (λy e=>by omega))
theorem Lx {x:oY} (h:lC x=true):dj x.e=true/\x.tm<=1099511627776/\x.sq<=1099511627776:=by
 unfold lC at h;simp only[aW,bf] at h;exact⟨h.1.1,h.1.2,h.2⟩
theorem SZ {t : Tr} {e : Ev} (h : zx V t = some e) : 0 ≤ e.l6 ∧ dj e = true := by
  unfold zx at h
  split at h
  · split at h
    · cases h; decide
    · split at h
      · split at h
        · rename_i hp
          cases h
          unfold Ff at hp
          simp only [Bool.and_eq_true] at hp
          exact ⟨by show (0 : Int) ≤ 0; omega, hp.2⟩
        · cases h
      · split at h
        · split at h
          · rename_i hp; cases h; exact ⟨by show (0 : Int) ≤ ((_ : Nat) : Int); omega, hp.2.2.2⟩
          · cases h
        · cases h
  · cases h
theorem Ta (x:oY) (h:lC x=true):room (idT x)<=300:=by
 have:=wB x.e (Lx h).1;simp only[idT,room,dY,bC];omega
def EQ (V:List UInt8->Bool) (t:Tr) (e:Ev) (q:Int):Prop:=(q=0->zx V t=some e)/\(q≠0->zx V t=none)/\0<=e.l6
theorem Qt {t:Tr} {x:CV} (U:xP V h0) (u:Fr No h0 h) (mx:Gi.Mx h) (tx:SX h t x) (hr:room t<=900000)
  (hk: ∀e q,EQ V t e q->∀h',Fr No h h'->R (.tuple #[e.s.agg,.I q]) h'):Cl F.th #[x.agg] h R:=
 aed U u mx tx hr (λe he h' f=>hk e 0 ⟨λ_=>he,λq=>absurd rfl q,(SZ he).1⟩ h' f) (λhe h' f=>hk .zero 3 ⟨λq=>absurd q (by decide),λ_=>he,by decide⟩ h' f)
theorem Yy (x:oY) (w1:0<=x.e.l6) (hk: ∀h' z q,(q=0->SX h' (idT x) z)->(q=0↔lC x=true)->Fr No h h'->R (.tuple #[z.s.agg,.I q]) h'):Cl F.oE #[x.s.agg] h R:=
 N4 x w1 (λhr h' z tz f=>hk h' z 0 (λ_=>tz.u) ⟨λ_=>hr,λ_=>rfl⟩ f) (λhr h' f=>hk h' zv 3 (λe=>absurd e (by decide)) ⟨λe=>absurd e (by decide),λe=>by rw[hr] at e;cases e⟩ f)
theorem aee {t:Tr} {x:CV} (U:xP V h0) (u:Fr No h0 h) (mx:Gi.Mx h) (tx:SX h t x) (hr:room t<=900000)
  (k1: ∀e,uz V t=some e->∀h',Fr No h h'->R (.tuple #[e.s.agg,.I 0]) h') (k2:uz V t=none->∀h',Fr No h h'->R (.tuple #[oY.zero.s.agg,.I 3]) h'):Cl F.oN #[x.agg] h R:=by
 obtain⟨xk,xn,xb,xl,xv,ys,L,TS⟩:=kT.kn tx;have rl:=yT (t:=t);refine oN.walk (x:=x.s) (aa.dH λb h1 eb hb f1=>ah.dH λb1 h2 uf dw f2=>aK.of λJ hJ=> ?_);have F2:=f1.tt f2;have fI:=f2.get hb id;have zb:=aI hb;have PT:=aI dw;have z1:=f1.1;have z2:=f2.1;have bad:uz V t=none->J true h2:=λhn=>by
  subst hJ;dsimp only;rw[ag rfl];exact Qr .zero dw λg f=>k2 hn g (F2.fresh f (λy e=>by omega))
 have e4:x.s.f0=t.k:=xk;have el:x.s.xO=t.l.length:=xl;refine⟨_,af fI rfl,?_⟩;rw[e4];by_cases k4:t.k=4
 case neg=>rw[ag (by simpa using k4)];exact bad (by unfold uz;rw[ai (λe=>k4 e.1)])
 rw[ai (by simpa using k4)];refine⟨_,_,_,af fI rfl,?_⟩;rw[el];by_cases l2:t.l.length=2
 case neg=>rw[ag (by simp only[fK,iq];omega)];exact bad (by unfold uz;rw[ai (λe=>l2 e.2.1)])
 rw[ai (by simp only[fK,iq];omega)];obtain⟨a0,y0,ea0,hh0,Yt,_⟩:=elem (L.frame F2 (λ_ _=>id)) (TS.on F2) (i:=0) (by omega);obtain⟨a1,y1,Yu,V0,VD,_⟩:=elem (L.frame F2 (λ_ _=>id)) (TS.on F2) (i:=1) (by omega);obtain⟨y1k,y1n,y1b,y1l,y1v,ys1,L1,TS1⟩:=kT.kn VD;have c0:ak h2 (a1.add (Int.toNat 1*4))=some (.I y1.k):=by have:=V0.1;rwa[jz] at this
 have c3:ak h2 ((a1.add (Int.toNat 1*4)).add 3)=some (.slice y1.q y1.ll y1.cl):=V0.2.2.2.1;have r0:=rZ (ts:=t.l) (i:=0) (by omega);have r1:=rZ (ts:=t.l) (i:=1) (by omega);refine⟨_,_,_,af fI rfl,⟨by omega,by omega⟩,cG.2 ⟨a1,Yu,_,c0,?_⟩⟩;rw[y1k];by_cases k5:(at_ t.l 1).k=4
 case neg=>rw[ag (by simpa using k5)];exact bad (by unfold uz;rw[ai (λe=>k5 e.2.2.1)])
 rw[ai (by simpa using k5)];refine⟨_,_,_,af fI rfl,⟨by omega,by omega⟩,cG.2 ⟨a1,Yu,_,_,_,c3,?_⟩⟩;rw[y1l];by_cases l3:(at_ t.l 1).l.length=2
 case neg=>rw[show(((((at_ t.l 1).l.length:Nat):Int)) !=2)=true by simp only[fK,iq];omega];exact bad (by unfold uz;rw[ai (λe=>l3 e.2.2.2)])
 rw[show(((((at_ t.l 1).l.length:Nat):Int)) !=2)=false by simp only[bne_eq_false_iff_eq];omega];clear bad;subst hJ;dsimp only;rw[ai (show¬false=true by decide)];unfold uz at k1 k2;rw[ag ⟨k4,l2,k5,l3⟩] at k1 k2;generalize ht0:at_ t.l 0=t0 at Yt r0 k1 k2;generalize ht1:at_ t.l 1=t1 at VD r1 k1 k2 y1k y1n y1b y1l TS1 k5 l3;refine⟨_,_,_,af fI rfl,⟨by omega,by omega⟩,cG.2 ⟨a0,ea0,aa.yS (x:=y0.s) hh0 (Qt U (u.tt F2) (mx.on F2) Yt (by omega) λe q ⟨Hz,Gw,we⟩ g fg=>az.ex e.s ⟨_,rfl,?_⟩)⟩⟩;obtain⟨p0,w0,ep0,hw0,tw0,_⟩:=elem L1 TS1 (i:=0) (by omega);obtain⟨p1,w1,ep1,hw1,tw1,_⟩:=elem L1 TS1 (i:=1) (by omega);obtain⟨_,w0n,_⟩:=kT.kn tw0;obtain⟨_,w1n,_⟩:=kT.kn tw1;have hw0:ak h2 ((p0.add (Int.toNat 0*4)).add 1)=some (.U (w0.n:Int)):=hw0.2.1;have hw1:ak h2 ((p1.add (Int.toNat 1*4)).add 1)=some (.U (w1.n:Int)):=hw1.2.1;rw[w0n] at hw0;rw[w1n] at hw1;obtain⟨n0,hn0⟩: ∃n0,(at_ t1.l 0).n=n0:=⟨_,rfl⟩;obtain⟨n1,hn1⟩: ∃n1,(at_ t1.l 1).n=n1:=⟨_,rfl⟩;rw[hn0] at hw0 k1 k2;rw[hn1] at hw1 k1 k2;refine az.j8 (x:=e.s) λb2 h7 FE aef f7=>az.jk aef ?_
 have G7:=fg.tt f7;refine⟨_,_,_,af (G7.get fI id) rfl,⟨by omega,by omega⟩,cG.2 ⟨a1,Yu,_,_,_,G7.cell c3 id,⟨by omega,by omega⟩,cG.2 ⟨p0,ep0,_,G7.cell hw0 id,_,_,_,af (G7.get fI id) rfl,⟨by omega,by omega⟩,cG.2 ⟨a1,Yu,_,_,_,G7.cell c3 id,⟨by omega,by omega⟩,cG.2 ⟨p1,ep1,_,G7.cell hw1 id,?_⟩⟩⟩⟩⟩;refine ah.dH λb3 h8 LP kR f8=>⟨f8.kp,ah.mA (x:=(⟨e,n0,n1⟩:oY).s) kR λh9 d9 f9 _=>ah.jk d9 ?_⟩
 have z7:=f7.1;have z8:=f8.1;have zg:=fg.1;have zb3:=aI kR;have z9:=f9.1;have G9:Fr (λy=>y=b3) h2 h9:=Fr.no (G7.tt f8) f9;have G9':Fr No h h9:=(F2.tt (G7.tt f8)).fresh f9 (λy e=>by omega);refine Yy ⟨e,n0,n1⟩ we λg2 w q2 hw hq fg2=>aa.ex w.s ⟨_,rfl,?_⟩
 refine aa.j8 (x:=w.s) λb4 mE Vz ma f12=>aK.of λJ hJ=> ?_
 have G12:=fg2.tt f12;have rR: ∀ {g},Fr No mE g->ah.jx g b1 .z:=λfq=>fq.get (G12.get (G9.get dw (by omega)) id) id
 have no: ∀g3,Fr No mE g3->(∀h',Fr No h h'->R (.tuple #[oY.zero.s.agg,.I 3]) h')->J true g3:=λg3 f3 hk=>by
  subst hJ;try dsimp only
  rw[ag rfl];exact Qr .zero (rR f3) λg f=>hk g ((G9'.tt (G12.tt f3)).fresh f (λy e=>by omega))
 have yes: ∀g3,Fr No mE g3->(∀h',Fr No h h'->R (.tuple #[(⟨e,n0,n1⟩:oY).s.agg,.I 0]) h')->J false g3:=λg3 f3 hk=>by
  subst hJ;try dsimp only
  rw[dL];exact ah.jk ((G12.tt f3).get d9 id) (Qr ⟨e,n0,n1⟩ (rR f3) λg f=>hk g ((G9'.tt (G12.tt f3)).fresh f (λy e=>by omega)))
 by_cases q0:q=0
 case neg=>rw[ag (by simpa using q0)];exact no mE (Fr.refl _ _) (k2 (by rw[Gw q0]))
 rw[ai (by simpa using q0)];rw[Hz q0] at k1 k2;dsimp only at k1 k2;by_cases q1:q2=0
 case neg=>rw[ag (by simpa using q1)];exact no mE (Fr.refl _ _) (k2 (by rw[ai (λe=>q1 (hq.2 e.1))]))
 rw[ai (by simpa using q1)];have hI:=hq.1 q1;have rI:=Ta _ hI;refine aa.jk ma (aa.jk (x:=x.s) (G12.get (G9.get fI (by omega)) id) (pV (x:=w) (y:=x) ((hw q1).on f12) (tx.on (G9'.tt G12)) (by omega) λvY f16=>⟨_,rfl,?_⟩));cases hs:yV (idT ⟨e,n0,n1⟩) t with
 |true=>exact yes vY f16 (k1 _ (by rw[ag ⟨hI,hs⟩]))
 |false=>exact no vY f16 (k2 (by rw[ai (λe=>by rw[hs] at e;cases e.2)]))
theorem VE {t:Tr} {x:oY} (h:uz V t=some x):0<=x.e.l6:=by
 unfold uz at h;split at h
 ·split at h
  ·cases h
  ·rename_i e he;split at h
   ·cases h;exact(SZ he).1
   ·cases h
 ·cases h
def IQ (V:List UInt8->Bool) (t:Tr) (x:oY) (q:Int):Prop:=(q=0->uz V t=some x)/\(q≠0->uz V t=none)/\0<=x.e.l6
theorem Qu {t:Tr} {x:CV} (U:xP V h0) (u:Fr No h0 h) (mx:Gi.Mx h) (tx:SX h t x) (hr:room t<=900000)
  (hk: ∀e q,IQ V t e q->∀h',Fr No h h'->R (.tuple #[e.s.agg,.I q]) h'):Cl F.oN #[x.agg] h R:=
 aee U u mx tx hr (λe he h' f=>hk e 0 ⟨λ_=>he,λq=>absurd rfl q,VE he⟩ h' f) (λhe h' f=>hk .zero 3 ⟨λq=>absurd q (by decide),λ_=>he,by decide⟩ h' f)
end Bn
end
end Go.Proofs.YtlenamcfacpheaaGreatDoor
namespace Go.Den
theorem Ga {b off:Nat} : ∀(vs:List Value) (i:Nat) (h:aj) (K:aj->Prop),gY (AA b 0) vs (off+i) h K->gY (AA b off) vs i h K
 | [],_,_,_,hh=>hh
 |v::vs,i,h,K,hh=>by
  unfold gY at hh⊢;cases hv:jg v with
  |false=>rw[hv] at hh;exact hh
  |true=>
   rw[hv] at hh;dsimp only at hh⊢;rw[kB,bZ] at hh;rw[kB];obtain⟨h1,h2,h3⟩:=hh;exact⟨h1,h2,λh' e=>Ga vs (i+1) h' K (h3 h' e)⟩
theorem wC {h:aj} {b off:Nat} {c:Array Value} {t:TypeId} {vs ws:List Value} {K:aj->Prop} (hb:h[b]? =some (.cells c t (0,0))) (hl:off+vs.length<=c.size) (hv:vs.all jg=true)
  (he:c.toList.take off++vs++c.toList.drop (off+vs.length)=ws)
  (hk: ∀h',h'[b]? =some (.cells ws.toArray t (0,0))->h'.size=h.size->(∀x,x≠b->h'[x]? =h[x]?)->K h'):gY (AA b off) vs 0 h K:=by
 refine Ga vs 0 h K (Ch vs (off+0) h c K hb (by omega) hv λh' c' b' z q r s o=>hk h' ?_ s o);have:c'=ws.toArray:=by
  subst he;apply Array.ext'
  apply im
  intro j;have hlen:c.toList.length=c.size:=fT;rw[ee];show c'[j]? =(c.toList.take off++vs++c.toList.drop (off+vs.length))[j]?;by_cases h1:j<off
  ·rw[dU,dx (by rw[bQ];omega),dq,ag h1,ee];exact q j (by omega)
  ·by_cases h2:j<off+vs.length
   ·have l1:(c.toList.take off).length=off:=by rw[bQ];omega
    rw[dU,dk (by omega),l1,dx (by omega)];have hj:j - off<vs.length:=by omega
    have:=r (j - off) vs[j - off] (au hj);rw[show off+0+(j - off)=j by omega] at this;rw[this,au hj]
   ·have l1:(c.toList.take off++vs).length=off+vs.length:=by rw[aF,bQ];omega
    rw[dk (by omega),l1,iL,ee,show off+vs.length+(j - (off+vs.length))=j by omega];exact q j (by omega)
 rw[<-this];exact b'
end Go.Den
namespace Go.Proofs.YtlenamcfacpheaaGreatDoor
open Go.Den
open IntKind (wrap)
open Int (toNat)
section
variable {h:aj} {R:iI}
theorem sD.walk {now:Int} {gI:Int} (hv:R (.U (if 1099511627776<wrap .u64 (now+gI) then 1099511627776 else wrap .u64 (now+gI))) h):Cl F.sD #[.U now,.U gI] h R:=aS (lq ll) Tryz.func157 hv
theorem kh.walk {s:Nat} {source:az.S} (hv:aV h (.cells source.arr T.az) λb aR=>aV aR (.cells ah.S.z.arr T.ah) λcD aZ=>aV aZ (.cells ah.S.z.arr T.ah) λeY bJ=>Hp bJ s 5 λt15=>Cl F.gP #[.pointer t15] bJ λv cB=>ah.EX λt16=>v=t16.agg/\aV cB (.cells ah.S.z.arr T.ah) λjQ cJ=>ah.dV cJ (AA jQ 0) t16 λcQ=>az.df cQ (AA jQ 0) λt19=>Cl F.wv #[t19.agg] cQ λeJ cW=> ∃rT uj,eJ=.tuple #[.pointer rT,.I uj]/\if(uj !=0) then ah.dV cW (AA cD 0) ah.S.z λdA=>ah.dV dA (AA eY 0) ah.S.z λfc=>ah.df fc (AA cD 0) λr0=>ah.df fc (AA eY 0) λr1=>R (.tuple #[r0.agg,r1.agg,.I uj]) fc else aK (λ(t35:Bool) (cP:aj)=>aK (λ(cV:aj)=>Hu cV s 6 λt44=>Cl F.oa #[.pointer rT,.U t44] cV λgR dD=>ah.EX λDW=> ∃Fq,gR=.tuple #[DW.agg,.I Fq]/\aV dD (.cells ah.S.z.arr T.ah) λpH dF=>ah.dV dF (AA pH 0) DW λfC=>ah.df fC (AA pH 0) λt48=>aV fC (.cells ah.S.z.arr T.ah) λBz gD=>ah.dV gD (AA Bz 0) t48 λgX=>az.df gX (AA b 0) λt49=>az.dV gX (AA Bz 0) t49 λgQ=>ah.df gQ (AA Bz 0) λt51=>ah.df gQ (AA pH 0) λt52=>ah.dV gQ (AA cD 0) t51 λfh=>Kp gQ fh [(some (AA pH 0))]/\ah.dV fh (AA eY 0) t52 λjn=>ah.df jn (AA cD 0) λia=>ah.df jn (AA eY 0) λadQ=>R (.tuple #[ia.agg,adQ.agg,.I Fq]) jn) (λjo=>if t35 then ah.df cP (AA jQ 0) λt37=>Cl F.lW #[.pointer rT,t37.agg] cP λkU ju=> ∃t38,kU=.I t38/\jo ju else jo cP)) (λJ=> ∃t29,ak cW (AA jQ 5)=some (.U t29)/\if(decide (t29>0)) then J true cW else∃t33,ak cW (AA jQ 6)=some (.U t33)/\J (decide (t33>0)) cW)):Cl F.kh #[.P s 0,source.agg] h R:=aS (lq (lq (lq (sq (lq (cq ll lf)) (sq (sq (.join [(35,.one (.bool))] lf) (.join [] (cq lf lf))) (lq (lq (lq (sq (pK 6) lf))))))))) Tryz.func150 hv
theorem px.walk {a:bN.S} {b:aw.S} {own:ah.S} (hv:aV h (.cells a.arr T.bN) λcD aR=>aV aR (.cells b.arr T.aw) λeY aZ=>aV aZ (.cells own.arr T.ah) λjQ bJ=>aw.df bJ (AA eY 0) λt13=>Cl F.qD #[t13.agg] bJ λv cB=> ∃Yz Qv YA rQ,v=.tuple #[.slice Yz Qv YA,.I rQ]/\if(rQ !=0) then R (.tuple #[.I 0,.I 0,.I rQ]) cB else Hp cB cD 19 λt22=>Hi cB cD 20 λt24=>Hp cB cD 19 λt27=>aP t27 λku=>JL cB (ku.add 6) λt30=>Hu cB eY 19 λt33=>Cl F.sD #[.U t30,.U t33] cB λeJ cJ=> ∃t34,eJ=.U t34/\Kp cB cJ [(some (AA cD 19)),(some (AA cD 20)),(some (AA cD 19))]/\Cl F.oW #[.pointer t22,.I t24,.slice Yz Qv YA,.U t34] cJ λgR cQ=> ∃Bm vG,gR=.tuple #[.I Bm,.I vG]/\Kp cJ cQ [(some (AA cD 19))]/\aK (λ(cW:aj)=>R (.tuple #[.I Bm,.I (Qv:Int),.I vG]) cW) (λJ=>if(vG==0) then Hp cQ cD 19 λt41=>aP t41 λpE=>LN cQ (pE.add 5) λt44=>ah.df cQ (AA jQ 0) λt45=>Cl F.lW #[.pointer t44,t45.agg] cQ λkU dA=> ∃t46,kU=.I t46/\Kp cQ dA [(some (AA cD 19))]/\J dA else J cQ)):Cl F.px #[a.agg,b.agg,own.agg] h R:=aS (lq (lq (sq (lq (cq ll lf)) (sq (pK 20) (sq (lq (.join [] (cq (pK 7) lf))) ll))))) Tryz.func151 hv
theorem ml.walk {a:bN.S} (hv:aV h (.cells a.arr T.bN) λb aR=>aK (λ(r:bU) (is:Bool) (aZ:aj)=>if(!is) then R (.I 4) aZ else aP r λku=>Re aZ (ku.add 6) λt22=> ∃t24,ak aZ (AA b 20)=some (.I t24)/\if(t22 !=t24) then R (.I 13) aZ else R (.I 0) aZ) (λJ=>Hp aR b 19 λt7=>aP t7 λpE=>LN aR (pE.add 1) λt10=>az.df aR (AA b 2) λt13=>(Cl F.mM #[.pointer t10,t13.agg] aR λv bJ=> ∃YB YC YD YE YF YG YH rQ,v=.tuple #[.agg #[.bool YB,.U YC,.U YD,.string YE,.string YF,.I YG,.I YH],.bool rQ]/\Kp aR bJ [(some (AA b 19))]/\aV bJ (.cells #[.bool false,.U 0,.U 0,.string j9,.string j9,.I 0,.I 0] T.bH) λcD cB=>Kp bJ cB [(some (AA b 19))]/\bH.ST cB (AA cD 0) YB YC YD YE YF YG YH λcJ=>J (some (AA cD 0)) rQ cJ)/\(aV aR (.cells #[.bool false,.U 0,.U 0,.string j9,.string j9,.I 0,.I 0] T.bH) λeY cQ=>Kp aR cQ [(some (AA b 2)),(some (pE.add 1)),(some (AA b 19))]/\Cl F.mM #[.pointer t10,t13.agg] cQ λeJ cW=> ∃N8 N9 Oa Ob Oc Od Oe YI,eJ=.tuple #[.agg #[.bool N8,.U N9,.U Oa,.string Ob,.string Oc,.I Od,.I Oe],.bool YI]/\Kp cQ cW [(some (AA b 19))]/\bH.ST cW (AA eY 0) N8 N9 Oa Ob Oc Od Oe λdA=>J (some (AA eY 0)) YI dA)/\True)):Cl F.ml #[a.agg] h R:=aS (lq (sq (.join [(3,.one (.ptr)),(4,.one (.bool))] (.qW (jh 8 0 (.alts (.fork 8 (jh 6 9 .done) (.fork 12 (jh 4 8 (.op 13 (.op 14 .done))) .mD)))))) (sq (bq (lq (cq ll (lq (cq ll lf))))) ll))) Tryz.func104 hv
theorem qe.walk {a:bN.S} {out:Nat} (hv:aV h (.cells a.arr T.bN) λb aR=>bN.df aR (AA b 0) λt10=>Cl F.ml #[t10.agg] aR λv aZ=> ∃t11,v=.I t11/\if(t11 !=0) then R (.I t11) aZ else Hp aZ b 19 λt17=>az.df aZ (AA b 2) λt20=>Cl F.kh #[.pointer t17,t20.agg] aZ λeJ bJ=>ah.EX λuh=>ah.EX λui=> ∃FK,eJ=.tuple #[uh.agg,ui.agg,.I FK]/\aV bJ (.cells ah.S.z.arr T.ah) λcD cB=>aV cB (.cells ah.S.z.arr T.ah) λeY cJ=>ah.dV cJ (AA cD 0) uh λcQ=>ah.dV cQ (AA eY 0) ui λcW=>if(FK !=0) then R (.I FK) cW else az.df cW (AA b 7) λt30=>ah.df cW (AA cD 0) λt31=>Hu cW b 16 λt34=>aV cW (.cells aC.S.z.arr T.aC) λjQ dA=>aC.dV dA (AA jQ 0) ⟨0,0,t30.f0,t30.f1,t30.f2,t30.f3,t30.f4,false,0,0,j9,j9,t31.f0,t31.f1,t31.f2,t31.f3,t31.f4,t31.f5,t31.f6,t34⟩ λfc=>Hb fc b 18 λt38=>aK (λ(cP:aj)=>bN.df cP (AA b 0) λt47=>aC.df cP (AA jQ 0) λt48=>Hl cP b 15 λNV Lo NW=>aV cP (.cells #[.U 1,.U 1,.U 0,.I 0,.slice NV Lo NW] T.aE) λpH cV=>ah.df cV (AA eY 0) λt55=>Cl F.px #[t47.agg,.agg #[.U t48.f0,.I t48.f1,.bool t48.f2,.U t48.f3,.U t48.f4,.string t48.f5,.string t48.f6,.bool t48.f7,.U t48.f8,.U t48.f9,.string t48.f10,.string t48.f11,.bool t48.f12,.U t48.f13,.U t48.f14,.string t48.f15,.string t48.f16,.U t48.f17,.U t48.f18,.U t48.f19,.slice (some (AA pH 0)) 1 1],t55.agg] cV λgR dD=> ∃Io Ip aiY,gR=.tuple #[.I Io,.I Ip,.I aiY]/\aH dD (AA out 2) (.I Io) λdF=>aH dF (AA out 3) (.I Ip) λfC=>R (.I aiY) fC) (λJ=>if t38 then az.df fc (AA b 2) λt41=>aH fc (AA jQ 0) (.U 131072) λgD=>Kp fc gD [(some (AA b 2))]/\az.dV gD (AA jQ 7) t41 λgX=>J gX else J fc)):Cl F.qe #[a.agg,.P out 0] h R:=aS (lq (sq (lq (lq (cq ll lf))) (lq (sq (lq (cq ll lf)) (lq (sq (lq (.join [] (cq (pK 7) lf))) (lq ll))))))) Tryz.func101 hv
theorem qh.walk {a:bN.S} {out:Nat} (hv:aV h (.cells a.arr T.bN) λb aR=>bN.df aR (AA b 0) λt10=>Cl F.ml #[t10.agg] aR λv aZ=> ∃t11,v=.I t11/\if(t11 !=0) then R (.I t11) aZ else aK (λ(c:bU) (e:Int) (bJ:aj)=>if(e !=0) then R (.I e) bJ else aP c λku=>L3 bJ (ku.add 6) λNP NQ NR=>Cl F.qi #[.slice NP NQ NR] bJ λeJ cB=>aw.EX λDW=> ∃Fq,eJ=.tuple #[DW.agg,.I Fq]/\aV cB (.cells aw.S.z.arr T.aw) λcD cJ=>aw.dV cJ (AA cD 0) DW λcQ=>aP c λpE=>Re cQ pE λt52=>aw.df cQ (AA cD 0) λt53=>aP c λrY=>L3 cQ (rY.add 6) λN0 N1 SW=>Cl F.nV #[t53.agg] cQ λgR cW=> ∃Ib CS KL,gR=.slice Ib CS KL/\Kp cQ cW [(some (rY.add 6)),(some pE)]/\aH cW (AA out 2) (.I t52) λdA=>Kp cW dA [(some (rY.add 6))]/\aH dA (AA out 3) (.I (CS:Int)) λfc=>Kp dA fc [(some (rY.add 6))]/\aH fc (AA out 5) (.slice N0 N1 SW) λcP=>R (.I 0) cP) (λJ=>Hp aZ b 19 λt17=>aP t17 λvS=>LN aZ (vS.add 2) λt20=>az.df aZ (AA b 2) λt23=>Hi aZ b 20 λt25=>Hp aZ b 19 λt27=>aP t27 λBJ=>JL aZ (BJ.add 6) λt30=>Hi aZ b 14 λt33=>(Cl F.sD #[.U t30,.U (wrap .u64 t33)] aZ λkU cV=> ∃t35,kU=.U t35/\Kp aZ cV [(some (AA b 14)),(some (AA b 19)),(some (AA b 20)),(some (AA b 2)),(some (vS.add 2)),(some (AA b 19))]/\(Cl F.iG #[.pointer t20,t23.agg,.I t25,.U t35] cV λot dD=>aJ.EX λTc=> ∃Iq,ot=.tuple #[Tc.agg,.I Iq]/\Kp cV dD [(some (AA b 14)),(some (AA b 19)),(some (AA b 19))]/\aV dD (.cells aJ.S.z.arr T.aJ) λeY dF=>Kp dD dF [(some (AA b 14)),(some (AA b 19)),(some (AA b 19))]/\aJ.dV dF (AA eY 0) Tc λfC=>J (some (AA eY 0)) Iq fC)/\(aV cV (.cells aJ.S.z.arr T.aJ) λjQ gD=>Kp cV gD [(some (AA b 14)),(some (AA b 19)),(some (AA b 20)),(some (AA b 2)),(some (vS.add 2)),(some (AA b 19))]/\Cl F.iG #[.pointer t20,t23.agg,.I t25,.U t35] gD λxu gX=>aJ.EX λYJ=> ∃YK,xu=.tuple #[YJ.agg,.I YK]/\Kp gD gX [(some (AA b 14)),(some (AA b 19)),(some (AA b 19))]/\aJ.dV gX (AA jQ 0) YJ λgQ=>J (some (AA jQ 0)) YK gQ)/\True)/\(aV aZ (.cells aJ.S.z.arr T.aJ) λpH fh=>Kp aZ fh [(some (AA b 14)),(some (BJ.add 6)),(some (AA b 19)),(some (AA b 20)),(some (AA b 2)),(some (vS.add 2)),(some (AA b 19))]/\Cl F.sD #[.U t30,.U (wrap .u64 t33)] fh λAT jn=> ∃vG,AT=.U vG/\Kp fh jn [(some (AA b 14)),(some (AA b 19)),(some (AA b 20)),(some (AA b 2)),(some (vS.add 2)),(some (AA b 19))]/\Cl F.iG #[.pointer t20,t23.agg,.I t25,.U vG] jn λDM ju=>aJ.EX λYL=> ∃YM,DM=.tuple #[YL.agg,.I YM]/\Kp jn ju [(some (AA b 14)),(some (AA b 19)),(some (AA b 19))]/\aJ.dV ju (AA pH 0) YL λsK=>J (some (AA pH 0)) YM sK)/\True)):Cl F.qh #[a.agg,.P out 0] h R:=aS (lq (sq (lq (lq (cq ll lf))) (sq (.join [(6,.one (.ptr)),(7,.one (.int .i64))] (.qW (jh 19 0 (.alts (.fork 19 (.alts (.fork 20 (jh 6 21 .done) (.fork 24 (jh 4 20 (.op 25 (.op 26 .done))) .mD))) (.fork 24 (jh 5 19 (.op 25 (.op 26 .done))) .mD)))))) (sq (lq (cq ll lf)) (lq (sq (.qW (jh 6 0 (.op 8 (.op 9 (.op 6 (.op 7 (jh 9 10 .done))))))) ll)))))) Tryz.func105 hv
theorem qj.walk {a:bN.S} {hH:bU} {fS hN:Nat} (hv:aV h (.cells a.arr T.bN) λb aR=>Cl F.qi #[.slice hH fS hN] aR λv aZ=>aw.EX λyx=> ∃xq,v=.tuple #[yx.agg,.I xq]/\aV aZ (.cells aw.S.z.arr T.aw) λcD bJ=>aw.dV bJ (AA cD 0) yx λcB=>aC.df cB (AA cD 0) λt21=>aV cB (.cells aC.S.z.arr T.aC) λeY cJ=>aC.dV cJ (AA eY 0) t21 λcQ=>aK (λ(t31:Bool) (cW:aj)=>if t31 then R (.I 0) cW else aK (λ(id:bU) (own:bU) (e:Int) (dA:aj)=>if(e !=0) then R (.I 0) dA else aK (λ(e_1:Int) (r:bU) (fc:aj)=>if(e_1 !=0) then R (.I 0) fc else bN.df fc (AA b 0) λt68=>aP r λku=>aw.df fc ku λt69=>aP own λpE=>ah.df fc pE λt70=>Cl F.px #[t68.agg,t69.agg,t70.agg] fc λeJ cP=> ∃adj adk Xr,eJ=.tuple #[.I adj,.I adk,.I Xr]/\if(Xr !=0) then R (.I 0) cP else R (.I 1) cP) (λBo=>Hp dA b 19 λt50=>aP t50 λrY=>JL dA (rY.add 6) λt53=>ah.df dA (AA eY 12) λt55=>az.df dA (AA eY 7) λt58=>aP id λvS=>ah.df dA vS λt59=>Hu dA eY 19 λt61=>(Cl F.nt #[.agg #[.bool false,.bool true,.bool false,.U 0,.U t53,.bool t55.f0,.U t55.f1,.U t55.f2,.string t55.f3,.string t55.f4,.U t55.f5,.U t55.f6],t58.agg,t59.agg,.U t61] dA λgR cV=>aw.EX λBq=> ∃Br,gR=.tuple #[Bq.agg,.I Br]/\Kp dA cV [(some (AA eY 12)),(some (rY.add 6)),(some (AA b 19))]/\aV cV (.cells aw.S.z.arr T.aw) λjQ dD=>Kp cV dD [(some (AA eY 12)),(some (rY.add 6)),(some (AA b 19))]/\aw.dV dD (AA jQ 0) Bq λdF=>Bo Br (some (AA jQ 0)) dF)/\(aV dA (.cells aw.S.z.arr T.aw) λpH fC=>Kp dA fC [(some (AA eY 19)),id,(some (AA eY 7)),(some (AA eY 12)),(some (rY.add 6)),(some (AA b 19))]/\Cl F.nt #[.agg #[.bool false,.bool true,.bool false,.U 0,.U t53,.bool t55.f0,.U t55.f1,.U t55.f2,.string t55.f3,.string t55.f4,.U t55.f5,.U t55.f6],t58.agg,t59.agg,.U t61] fC λkU gD=>aw.EX λYN=> ∃YO,kU=.tuple #[YN.agg,.I YO]/\Kp fC gD [(some (AA eY 12)),(some (rY.add 6)),(some (AA b 19))]/\aw.dV gD (AA pH 0) YN λgX=>Bo YO (some (AA pH 0)) gX)/\True)) (λjo=>Hp cW b 19 λt34=>Hp cW b 19 λt36=>aP t36 λBJ=>LN cW (BJ.add 5) λt39=>(Cl F.gP #[.pointer t39] cW λot gQ=>ah.EX λt40=>ot=t40.agg/\Kp cW gQ [(some (AA b 19)),(some (AA b 19))]/\(Cl F.kh #[.pointer t34,.agg #[.bool t40.f0,.U t40.f1,.U t40.f2,.string t40.f3,.string t40.f4]] gQ λxu fh=>ah.EX λzE=>ah.EX λvH=> ∃aeg,xu=.tuple #[zE.agg,vH.agg,.I aeg]/\Kp gQ fh [(some (AA b 19))]/\(aV fh (.cells ah.S.z.arr T.ah) λBz jn=>Kp fh jn [(some (AA b 19))]/\aV jn (.cells ah.S.z.arr T.ah) λSQ ju=>Kp jn ju [(some (AA b 19))]/\ah.dV ju (AA Bz 0) zE λsK=>ah.dV sK (AA SQ 0) vH λrL=>jo (some (AA Bz 0)) (some (AA SQ 0)) aeg rL)/\(aV fh (.cells ah.S.z.arr T.ah) λb_7 qK=>Kp fh qK [(some (AA b 19))]/\aV qK (.cells ah.S.z.arr T.ah) λb_8 vh=>Kp qK vh [(some (AA b 19))]/\ah.dV vh (AA b_8 0) zE λzY=>ah.dV zY (AA b_7 0) vH λBL=>jo (some (AA b_8 0)) (some (AA b_7 0)) aeg BL)/\True)/\(aV gQ (.cells ah.S.z.arr T.ah) λb_9 BM=>Kp gQ BM [(some (AA b 19)),(some (AA b 19))]/\(Cl F.kh #[.pointer t34,.agg #[.bool t40.f0,.U t40.f1,.U t40.f2,.string t40.f3,.string t40.f4]] BM λAT F0=>ah.EX λYP=>ah.EX λYQ=> ∃YR,AT=.tuple #[YP.agg,YQ.agg,.I YR]/\Kp BM F0 [(some (AA b 19))]/\aV F0 (.cells ah.S.z.arr T.ah) λad7 IU=>Kp F0 IU [(some (AA b 19))]/\ah.dV IU (AA b_9 0) YP λHd=>ah.dV Hd (AA ad7 0) YQ λsk=>jo (some (AA b_9 0)) (some (AA ad7 0)) YR sk)/\(aV BM (.cells ah.S.z.arr T.ah) λahj IW=>Kp BM IW [(some (AA b 19)),(some (AA b 19))]/\Cl F.kh #[.pointer t34,.agg #[.bool t40.f0,.U t40.f1,.U t40.f2,.string t40.f3,.string t40.f4]] IW λDM SU=>ah.EX λYS=>ah.EX λYT=> ∃YU,DM=.tuple #[YS.agg,YT.agg,.I YU]/\Kp IW SU [(some (AA b 19))]/\ah.dV SU (AA b_9 0) YS λLr=>ah.dV Lr (AA ahj 0) YT λQh=>jo (some (AA b_9 0)) (some (AA ahj 0)) YU Qh)/\True)/\(aV gQ (.cells ah.S.z.arr T.ah) λaho IX=>Kp gQ IX [(some (AA b 19)),(some (AA b 19))]/\(Cl F.kh #[.pointer t34,.agg #[.bool t40.f0,.U t40.f1,.U t40.f2,.string t40.f3,.string t40.f4]] IX λEJ Mt=>ah.EX λYV=>ah.EX λYW=> ∃YX,EJ=.tuple #[YV.agg,YW.agg,.I YX]/\Kp IX Mt [(some (AA b 19))]/\aV Mt (.cells ah.S.z.arr T.ah) λaoH tX=>Kp Mt tX [(some (AA b 19))]/\ah.dV tX (AA aoH 0) YV λxL=>ah.dV xL (AA aho 0) YW λaeh=>jo (some (AA aoH 0)) (some (AA aho 0)) YX aeh)/\(aV IX (.cells ah.S.z.arr T.ah) λaoI ak2=>Kp IX ak2 [(some (AA b 19)),(some (AA b 19))]/\Cl F.kh #[.pointer t34,.agg #[.bool t40.f0,.U t40.f1,.U t40.f2,.string t40.f3,.string t40.f4]] ak2 λSR aoJ=>ah.EX λYY=>ah.EX λYZ=> ∃Y0,SR=.tuple #[YY.agg,YZ.agg,.I Y0]/\Kp ak2 aoJ [(some (AA b 19))]/\ah.dV aoJ (AA aoI 0) YY λaqZ=>ah.dV aqZ (AA aho 0) YZ λaq0=>jo (some (AA aoI 0)) (some (AA aho 0)) Y0 aq0)/\True)/\True)/\(aV cW (.cells ah.S.z.arr T.ah) λaa7 aei=>Kp cW aei [(some (BJ.add 5)),(some (AA b 19)),(some (AA b 19))]/\(Cl F.gP #[.pointer t39] aei λDc aej=>ah.EX λyB=>Dc=yB.agg/\Kp aei aej [(some (AA b 19)),(some (AA b 19))]/\(Cl F.kh #[.pointer t34,.agg #[.bool yB.f0,.U yB.f1,.U yB.f2,.string yB.f3,.string yB.f4]] aej λEK ak3=>ah.EX λY1=>ah.EX λY2=> ∃Y3,EK=.tuple #[Y1.agg,Y2.agg,.I Y3]/\Kp aej ak3 [(some (AA b 19))]/\aV ak3 (.cells ah.S.z.arr T.ah) λaoK aoL=>Kp ak3 aoL [(some (AA b 19))]/\ah.dV aoL (AA aa7 0) Y1 λaq1=>ah.dV aq1 (AA aoK 0) Y2 λaq2=>jo (some (AA aa7 0)) (some (AA aoK 0)) Y3 aq2)/\(aV aej (.cells ah.S.z.arr T.ah) λaoM ak4=>Kp aej ak4 [(some (AA b 19)),(some (AA b 19))]/\Cl F.kh #[.pointer t34,.agg #[.bool yB.f0,.U yB.f1,.U yB.f2,.string yB.f3,.string yB.f4]] ak4 λQi aoN=>ah.EX λY4=>ah.EX λY5=> ∃Y6,Qi=.tuple #[Y4.agg,Y5.agg,.I Y6]/\Kp ak4 aoN [(some (AA b 19))]/\ah.dV aoN (AA aa7 0) Y4 λaq3=>ah.dV aq3 (AA aoM 0) Y5 λaq4=>jo (some (AA aa7 0)) (some (AA aoM 0)) Y6 aq4)/\True)/\(aV aei (.cells ah.S.z.arr T.ah) λaoO ak5=>Kp aei ak5 [(some (BJ.add 5)),(some (AA b 19)),(some (AA b 19))]/\Cl F.gP #[.pointer t39] ak5 λVF ak6=>ah.EX λOf=>VF=Of.agg/\Kp ak5 ak6 [(some (AA b 19)),(some (AA b 19))]/\Cl F.kh #[.pointer t34,.agg #[.bool Of.f0,.U Of.f1,.U Of.f2,.string Of.f3,.string Of.f4]] ak6 λVG aoP=>ah.EX λY7=>ah.EX λY8=> ∃Y9,VG=.tuple #[Y7.agg,Y8.agg,.I Y9]/\Kp ak6 aoP [(some (AA b 19))]/\ah.dV aoP (AA aa7 0) Y7 λaq5=>ah.dV aq5 (AA aoO 0) Y8 λaq6=>jo (some (AA aa7 0)) (some (AA aoO 0)) Y9 aq6)/\True)/\(aV cW (.cells ah.S.z.arr T.ah) λaa8 aek=>Kp cW aek [(some (BJ.add 5)),(some (AA b 19)),(some (AA b 19))]/\(Cl F.gP #[.pointer t39] aek λVH ael=>ah.EX λDd=>VH=Dd.agg/\Kp aek ael [(some (AA b 19)),(some (AA b 19))]/\(Cl F.kh #[.pointer t34,.agg #[.bool Dd.f0,.U Dd.f1,.U Dd.f2,.string Dd.f3,.string Dd.f4]] ael λaem ak7=>ah.EX λZa=>ah.EX λZb=> ∃Zc,aem=.tuple #[Za.agg,Zb.agg,.I Zc]/\Kp ael ak7 [(some (AA b 19))]/\aV ak7 (.cells ah.S.z.arr T.ah) λaoQ aoR=>Kp ak7 aoR [(some (AA b 19))]/\ah.dV aoR (AA aoQ 0) Za λaq7=>ah.dV aq7 (AA aa8 0) Zb λaq8=>jo (some (AA aoQ 0)) (some (AA aa8 0)) Zc aq8)/\(aV ael (.cells ah.S.z.arr T.ah) λaoS ak8=>Kp ael ak8 [(some (AA b 19)),(some (AA b 19))]/\Cl F.kh #[.pointer t34,.agg #[.bool Dd.f0,.U Dd.f1,.U Dd.f2,.string Dd.f3,.string Dd.f4]] ak8 λaen aoT=>ah.EX λZd=>ah.EX λZe=> ∃Zf,aen=.tuple #[Zd.agg,Ze.agg,.I Zf]/\Kp ak8 aoT [(some (AA b 19))]/\ah.dV aoT (AA aoS 0) Zd λaq9=>ah.dV aq9 (AA aa8 0) Ze λara=>jo (some (AA aoS 0)) (some (AA aa8 0)) Zf ara)/\True)/\(aV aek (.cells ah.S.z.arr T.ah) λaoU ak9=>Kp aek ak9 [(some (BJ.add 5)),(some (AA b 19)),(some (AA b 19))]/\Cl F.gP #[.pointer t39] ak9 λala alb=>ah.EX λOg=>ala=Og.agg/\Kp ak9 alb [(some (AA b 19)),(some (AA b 19))]/\Cl F.kh #[.pointer t34,.agg #[.bool Og.f0,.U Og.f1,.U Og.f2,.string Og.f3,.string Og.f4]] alb λalc aoV=>ah.EX λTd=>ah.EX λTe=> ∃Tf,alc=.tuple #[Td.agg,Te.agg,.I Tf]/\Kp alb aoV [(some (AA b 19))]/\ah.dV aoV (AA aoU 0) Td λarb=>ah.dV arb (AA aa8 0) Te λarc=>jo (some (AA aoU 0)) (some (AA aa8 0)) Tf arc)/\True)/\True)) (λJ=> ∃t23,ak cQ (AA eY 0)=some (.U t23)/\if((wrap .u64 ((BitVec.ofInt (IntKind.bits .u64) t23 &&& BitVec.ofInt (IntKind.bits .u64) 131072).toNat:Int))==0) then J true cQ else∃t28,ak cQ (AA eY 0)=some (.U t28)/\J ((wrap .u64 ((BitVec.ofInt (IntKind.bits .u64) t28 &&& BitVec.ofInt (IntKind.bits .u64) 2).toNat:Int)) !=0) cQ)):Cl F.qj #[a.agg,.slice hH fS hN] h R:=aS (lq (lq (lq (sq (sq (.join [(31,.one (.bool))] lf) (cq ll lf)) (sq (.join [(8,.one (.ptr)),(9,.one (.ptr)),(10,.one (.int .i64))] (.qW (jh 7 0 (.alts (.fork 7 (.op 8 (.alts (.fork 9 (jh 4 10 (.alts (.fork 14 (jh 4 15 .done) (.fork 15 (.op 14 (jh 3 16 .done)) .mD)))) (.fork 14 (.alts (.fork 9 (jh 4 10 (jh 4 15 .done)) (.fork 15 (jh 5 9 (jh 3 16 .done)) .mD))) (.fork 15 (.alts (.fork 9 (jh 5 10 (jh 3 16 .done)) (.fork 14 (jh 5 9 (jh 3 16 .done)) .mD))) .mD))))) (.fork 14 (.alts (.fork 7 (.op 8 (.alts (.fork 9 (jh 4 10 (jh 4 15 .done)) (.fork 15 (jh 5 9 (jh 3 16 .done)) .mD)))) (.fork 15 (jh 7 7 (jh 3 16 .done)) .mD))) (.fork 15 (.alts (.fork 7 (.op 8 (.alts (.fork 9 (jh 5 10 (jh 3 16 .done)) (.fork 14 (jh 5 9 (jh 3 16 .done)) .mD)))) (.fork 14 (jh 7 7 (jh 3 16 .done)) .mD))) .mD))))))) (sq (lq (cq ll lf)) (sq (.join [(10,.one (.int .i64)),(11,.one (.ptr))] (.qW (jh 13 0 (.alts (.fork 13 (jh 6 14 .done) (.fork 17 (jh 4 13 (.op 18 (.op 19 .done))) .mD)))))) (sq (lq (cq ll lf)) (sq (lq (lq (cq ll lf))) ll))))))))) Tryz.func164 hv
theorem dM.ack.walk {oB:bU} {mF qJ:Nat} {RV:Nat} (hv: ∃(I:Int->aj->Prop) (mu:Int->aj->Nat),I 0 h/\∀(t8:Int) (aR:aj),I t8 aR->if(decide (t8<(mF:Int))) then Bd t8 mF/\aP oB λa=>aJ.df aR (a.add (toNat t8*10)) λt15=>Cl F.jO #[t15.agg,.P RV 0] aR λv aZ=> ∃t16,v=.bool t16/\if t16 then R (.I t8) aZ else(I (wrap .i64 (t8+1)) aZ/\mu (wrap .i64 (t8+1)) aZ<mu t8 aR) else R (.I (-1)) aR):Cl F.dM #[.slice oB mF qJ,.func (.func F.jO) #[] #[.P RV 0]] h R:=aS (lq (sq (lq (bq (.loop [(8,.one (.int .i64))] (lq (sq (cq lf lf) (sq (bq (lq (lq (cq ll lf)))) lf)))))) ll)) Tryz.func162 hv
theorem rk.walk {a:bN.S} {out:Nat} (hv:aV h (.cells a.arr T.bN) λb aR=>Hp aR b 19 λt9=>aP t9 λku=>LN aR (ku.add 2) λt12=>Cl F.lU #[.pointer t12] aR λv aZ=>Vl v λHR Cy Kj=>Hp aZ b 19 λt15=>aP t15 λpE=>LN aZ (pE.add 2) λt18=>Hi aZ b 13 λt21=>Hi aZ b 20 λt23=>Cl F.nW #[.pointer t18,.I t21,.I t23] aZ λeJ bJ=> ∃t24,eJ=.I t24/\Kp aZ bJ [(some (AA b 19))]/\Cl F.dM #[.slice HR Cy Kj,.func (.func F.jO) #[] #[.P b 0]] bJ λgR cB=>Vi gR λt27=>aK (λ(t33:Bool) (cJ:aj)=>aK (λ(cQ:aj)=>R (.I t24) cQ) (λjo=>if t33 then bN.df cJ (AA b 0) λt35=>Bd t27 Cy/\aP HR λrY=>L3 cJ ((rY.add (toNat t27*10)).add 6) λKt MY Fv=>Cl F.qj #[t35.agg,.slice Kt MY Fv] cJ λkU cW=> ∃t41,kU=.I t41/\aH cW (AA out 3) (.I t41) λdA=>jo dA else jo cJ)) (λJ=>if(t24==0) then J (decide (t27≥0)) cB else J false cB)):Cl F.rk #[a.agg,.P out 0] h R:=aS (lq (lq (sq (pK 12) (lq (sq (sq (.join [(33,.one (.bool))] lf) (.join [] (cq (pK 11) lf))) ll))))) Tryz.func106 hv
theorem jO.walk {c:aJ.S} {c0:Nat} (hv:aV h (.cells c.arr T.aJ) λb aR=>Hi aR b 0 λt5=> ∃t8,ak aR (AA c0 13)=some (.I t8)/\R (.bool (t5==t8)) aR):Cl F.jO #[c.agg,.P c0 0] h R:=aS (lq ll) Tryz.func163 hv
theorem oV.walk {a:bN.S} {out:Nat} (hv:aV h (.cells a.arr T.bN) λb aR=>Hp aR b 19 λt7=>aP t7 λku=>LN aR ku λt10=>Hi aR b 20 λt12=>Hb aR b 18 λt15=>Cl F.kj #[.pointer t10,.I t12,.bool t15] aR λv aZ=> ∃t16,v=.I t16/\Kp aR aZ [(some (AA b 19))]/\aK (λ(e:Int) (bJ:aj)=>R (.I e) bJ) (λJ=>if(t16==0) then Hp aZ b 19 λt23=>aP t23 λpE=>LN aZ pE λt26=>Hi aZ b 20 λt28=>Cl F.lg #[.pointer t26,.I t28] aZ λeJ cB=> ∃Zg Zh Zi Nx Xp,eJ=.tuple #[.slice Zg Zh Zi,.I Nx,.I Xp]/\Kp aZ cB [(some (AA b 19))]/\aH cB (AA out 5) (.slice Zg Zh Zi) λcJ=>aH cJ (AA out 3) (.I Nx) λcQ=>J Xp cQ else J t16 aZ)):Cl F.oV #[a.agg,.P out 0] h R:=aS (lq (sq (pK 12) (sq (lq (.join [(5,.one (.int .i64))] (cq (pK 21) lf))) ll))) Tryz.func108 hv
theorem sW.walk {a:bN.S} {out:Nat} (hv:aV h (.cells a.arr T.bN) λb aR=> ∃t8,ak aR (AA b 1)=some (.I t8)/\if(t8==1) then Hp aR b 19 λt12=>aP t12 λku=>LN aR (ku.add 1) λt15=>az.df aR (AA b 2) λt18=>Hi aR b 12 λt21=>Hi aR b 20 λt23=>Cl F.qc #[.pointer t15,.agg #[.bool t18.f0,.U t18.f1,.U t18.f2,.string t18.f3,.string t18.f4,.I t21,.I t23]] aR λv aZ=> ∃t25,v=.I t25/\Kp aR aZ [(some (AA b 20)),(some (AA b 12)),(some (AA b 2)),(some (AA b 19))]/\R (.I t25) aZ else if(t8==2) then Hp aR b 19 λt29=>aP t29 λpE=>LN aR (pE.add 1) λt32=>az.df aR (AA b 2) λt35=>Hi aR b 20 λt37=>Cl F.mU #[.pointer t32,t35.agg,.I t37] aR λeJ bJ=> ∃t38,eJ=.I t38/\Kp aR bJ [(some (AA b 19))]/\aK (λ(cB:aj)=>R (.I t38) cB) (λJ=>if(t38==0) then Hp bJ b 19 λt43=>aP t43 λrY=>LN bJ (rY.add 2) λt46=>az.df bJ (AA b 2) λt49=>Cl F.mV #[.pointer t46,t49.agg] bJ λgR cJ=> ∃C9 By Da,gR=.slice C9 By Da/\Kp bJ cJ [(some (AA b 19))]/\aH cJ (AA out 3) (.I (By:Int)) λcQ=>J cQ else J bJ) else if(t8==3) then Hp aR b 19 λt58=>aP t58 λvS=>LN aR (vS.add 1) λt61=>az.df aR (AA b 2) λt64=>Hi aR b 20 λt66=>Hi aR b 12 λt69=>Cl F.mW #[.pointer t61,t64.agg,.I t66,.I t69] aR λkU cW=> ∃t70,kU=.I t70/\Kp aR cW [(some (AA b 19))]/\R (.I t70) cW else if(t8==4) then bN.df aR (AA b 0) λt73=>Cl F.qe #[t73.agg,.P out 0] aR λot dA=> ∃t75,ot=.I t75/\R (.I t75) dA else if(t8==5) then Hp aR b 19 λt79=>Hi aR b 13 λt82=>Hi aR b 20 λt84=>Cl F.mi #[.pointer t79,.I t82,.I t84] aR λxu fc=> ∃t85,xu=.I t85/\R (.I t85) fc else if(t8==6) then Hp aR b 19 λt90=>aP t90 λBJ=>LN aR (BJ.add 2) λt93=>az.df aR (AA b 2) λt96=>Cl F.mj #[.pointer t93,t96.agg] aR λAT cP=> ∃t97,AT=.I t97/\Kp aR cP [(some (AA b 19))]/\aH cP (AA out 2) (.I t97) λcV=>bN.df cV (AA b 0) λt100=>Cl F.ml #[t100.agg] cV λDM dD=> ∃t101,DM=.I t101/\R (.I t101) dD else if(t8==7) then bN.df aR (AA b 0) λt104=>Cl F.qh #[t104.agg,.P out 0] aR λEJ dF=> ∃t106,EJ=.I t106/\R (.I t106) dF else if(t8==8) then bN.df aR (AA b 0) λt109=>Cl F.rk #[t109.agg,.P out 0] aR λSR fC=> ∃t111,SR=.I t111/\R (.I t111) fC else if(t8==9) then Hp aR b 19 λt115=>aP t115 λKn=>LN aR (Kn.add 2) λt118=>Hi aR b 13 λt121=>Hi aR b 20 λt123=>Cl F.kf #[.pointer t118,.I t121,.I t123] aR λDc gD=> ∃t124,Dc=.I t124/\Kp aR gD [(some (AA b 19))]/\R (.I t124) gD else if(t8==10) then bN.df aR (AA b 0) λt127=>Cl F.oV #[t127.agg,.P out 0] aR λEK gX=> ∃t129,EK=.I t129/\R (.I t129) gX else R (.I 3) aR):Cl F.sW #[a.agg,.P out 0] h R:=aS (lq (sq (lq (bq (lq (cq (sq (pK 16) lf) (lq (cq (sq (pK 12) (sq (lq (.join [] (cq (pK 14) lf))) ll)) (lq (cq (sq (pK 15) lf) (lq (cq ll (lq (cq ll (lq (cq (sq (pK 13) ll) (lq (cq ll (lq (cq ll (lq (cq (sq (pK 12) lf) (lq (cq ll lf)))))))))))))))))))))) ll)) Tryz.func44 hv
theorem mI.walk {s:Nat} {kL:Int} {r:aD.S} (hv:aV h (.cells r.arr T.aD) λb aR=>aV aR (.cells aq.S.z.arr T.aq) λcD aZ=>aK (λ(t15:Bool) (bJ:aj)=>if t15 then Hu bJ b 0 λt61=>Cl F.kN #[.U t61,.I 6] bJ λv cB=>aq.EX λt62=>v=t62.agg/\aq.dV cB (AA cD 0) t62 λcJ=>aq.df cJ (AA cD 0) λr0=>R (r0.agg) cJ else aK (λ(t63:Bool) (cQ:aj)=>if t63 then Hu cQ b 0 λt73=>Cl F.kN #[.U t73,.I 3] cQ λeJ cW=>aq.EX λt74=>eJ=t74.agg/\aq.dV cW (AA cD 0) t74 λdA=>aq.df dA (AA cD 0) λia=>R (ia.agg) dA else Hp cQ s 0 λt79=>Cl F.mQ #[.pointer t79,.I kL] cQ λgR fc=> ∃t81,gR=.bool t81/\if(!t81) then Hu fc b 0 λt84=>Cl F.kN #[.U t84,.I 16] fc λkU cP=>aq.EX λt85=>kU=t85.agg/\aq.dV cP (AA cD 0) t85 λcV=>aq.df cV (AA cD 0) λoS=>R (oS.agg) cV else Hp fc s 0 λt90=>Hu fc b 0 λt93=>Cl F.kY #[.pointer t90,.I kL,.U t93] fc λot dD=> ∃Zj Zk Zl aiZ,ot=.tuple #[.slice Zj Zk Zl,.bool aiZ]/\if aiZ then Cl F.wS #[.slice Zj Zk Zl] dD λxu dF=>aq.EX λaeo=> ∃ald,xu=.tuple #[aeo.agg,.I ald]/\aV dF (.cells aq.S.z.arr T.aq) λeY fC=>aq.dV fC (AA eY 0) aeo λgD=>aq.df gD (AA eY 0) λt103=>aq.dV gD (AA cD 0) t103 λgX=>aq.df gX (AA cD 0) λpG=>R (pG.agg) gX else Hu dD b 0 λt105=>aV dD (.cells aq.S.z.arr T.aq) λjQ gQ=>aq.dV gQ (AA jQ 0) ⟨t105,0,0,0,0,none,0,0⟩ λfh=>aD.df fh (AA b 0) λt107=>Cl F.sW #[.agg #[.U t107.f0,.I t107.f1,.bool t107.f2,.U t107.f3,.U t107.f4,.string t107.f5,.string t107.f6,.bool t107.f7,.U t107.f8,.U t107.f9,.string t107.f10,.string t107.f11,.I t107.f12,.I t107.f13,.I t107.f14,.slice t107.OY t107.Mc t107.OZ,.U t107.f16,.U t107.f17,.bool t107.f18,.P s 0,.I kL],.P jQ 0] fh λAT jn=>Vi AT λt111=>aK (λ(ju:aj)=>aq.df ju (AA jQ 0) λt119=>Cl F.uT #[t119.agg] ju λDM sK=> ∃Tg Th Ti ale,DM=.tuple #[.slice Tg Th Ti,.I ale]/\Hp sK s 0 λt126=>Hu sK b 0 λt129=>Cl F.iT #[.pointer t126,.I kL,.U t129,.slice Tg Th Ti] sK λEJ rL=>Vi EJ λt131=>aq.df rL (AA jQ 0) λt132=>aq.dV rL (AA cD 0) t132 λqK=>aq.df qK (AA cD 0) λyQ=>R (yQ.agg) qK) (λBo=>if(t111 !=0) then Hu jn b 0 λt115=>Cl F.kN #[.U t115,.I t111] jn λSR vh=>aq.EX λt117=>SR=t117.agg/\aq.dV vh (AA jQ 0) t117 λzY=>Bo zY else Bo jn)) (λjo=>aD.df bJ (AA b 0) λt64=>Cl F.pj #[t64.agg] bJ λDc BL=> ∃t65,Dc=.bool t65/\if(!t65) then jo true BL else∃t69,ak BL (AA b 1)=some (.I t69)/\jo (decide (t69≥11)) BL)) (λJ=> ∃t22,ak aZ (AA s 0)=some (.pointer t22)/\if t22.isNone then J true aZ else∃t29,ak aZ (AA s 1)=some (.pointer t29)/\if t29.isNone then J true aZ else∃t36,ak aZ (AA s 2)=some (.pointer t36)/\if t36.isNone then J true aZ else∃t43,ak aZ (AA s 3)=some (.pointer t43)/\if t43.isNone then J true aZ else∃t50,ak aZ (AA s 4)=some (.pointer t50)/\if t50.isNone then J true aZ else∃t57,ak aZ (AA s 5)=some (.pointer t57)/\J t57.isNone aZ)):Cl F.mI #[.P s 0,.I kL,r.agg] h R:=aS (lq (sq (bq (sq (.join [(15,.one (.bool))] lf) (cq ll (sq (.join [(63,.one (.bool))] lf) (cq ll (lq (cq ll lf))))))) (sq (sq (pK 13) (lq (cq (lq ll) lf))) (lq (sq (lq (lq (.join [] (cq lf lf)))) (lq (sq (pK 9) ll))))))) Tryz.func13 hv
theorem mI.nil.walk {kL:Int} {r:aD.S} (hv:aV h (.cells r.arr T.aD) λb aR=>aV aR (.cells aq.S.z.arr T.aq) λcD aZ=>aK (λ(t15:Bool) (bJ:aj)=>if t15 then Hu bJ b 0 λt61=>Cl F.kN #[.U t61,.I 6] bJ λv cB=>aq.EX λt62=>v=t62.agg/\aq.dV cB (AA cD 0) t62 λcJ=>aq.df cJ (AA cD 0) λr0=>R (r0.agg) cJ else aK (λ(t63:Bool) (cQ:aj)=>if t63 then Hu cQ b 0 λt73=>Cl F.kN #[.U t73,.I 3] cQ λeJ cW=>aq.EX λt74=>eJ=t74.agg/\aq.dV cW (AA cD 0) t74 λdA=>aq.df dA (AA cD 0) λia=>R (ia.agg) dA else False) (λjo=>aD.df bJ (AA b 0) λt64=>Cl F.pj #[t64.agg] bJ λgR fc=> ∃t65,gR=.bool t65/\if(!t65) then jo true fc else∃t69,ak fc (AA b 1)=some (.I t69)/\jo (decide (t69≥11)) fc)) (λJ=>J true aZ)):Cl F.mI #[.pointer none,.I kL,r.agg] h R:=aS (lq (sq (bq (sq (.join [(15,.one (.bool))] lf) (cq ll (sq (.join [(63,.one (.bool))] lf) (cq ll (lq (cq ll lf))))))) (sq (sq (pK 13) (lq (cq (lq ll) lf))) (lq (sq (lq (lq (.join [] (cq lf lf)))) (lq (sq (pK 9) ll))))))) Tryz.func13 hv
theorem ur.walk (hv:aV h (.cells az.S.z.arr T.az) λb aR=>az.dV aR (AA b 0) ⟨true,7,0,j9,j9⟩ λaZ=>az.df aZ (AA b 0) λr0=>R (r0.agg) aZ):Cl F.ur #[] h R:=aS (lq ll) Tryz.func9 hv
theorem jA.walk (hv:aV h (.cells az.S.z.arr T.az) λb aR=>az.dV aR (AA b 0) ⟨true,7,1,j9,j9⟩ λaZ=>az.df aZ (AA b 0) λr0=>R (r0.agg) aZ):Cl F.jA #[] h R:=aS (lq ll) Tryz.func14 hv
theorem sy.walk {s:Nat} (hv: ∃t9,ak h (AA s 0)=some (.pointer t9)/\if(!t9.isNone) then∃t16,ak h (AA s 1)=some (.pointer t16)/\if(!t16.isNone) then∃t23,ak h (AA s 2)=some (.pointer t23)/\if(!t23.isNone) then∃t30,ak h (AA s 3)=some (.pointer t30)/\if(!t30.isNone) then∃t37,ak h (AA s 4)=some (.pointer t37)/\if(!t37.isNone) then∃t44,ak h (AA s 5)=some (.pointer t44)/\R (.bool (!t44.isNone)) h else R (.bool false) h else R (.bool false) h else R (.bool false) h else R (.bool false) h else R (.bool false) h):Cl F.sy #[.P s 0] h R:=aS (lq ll) Tryz.func10 hv
theorem qb.walk (hv:Cl F.ur #[] h λv aR=>az.EX λt10=>v=t10.agg/\Cl F.wu #[t10.agg] aR λeJ aZ=> ∃pQ tC,eJ=.tuple #[.pointer pQ,.I tC]/\aK (λ(t33:Bool) (bJ:aj)=>if t33 then R (.bool false) bJ else aP pQ λa=>LN bJ a λt37=>Cl F.gH #[.pointer t37,.U 5] bJ λgR cB=> ∃HW xj,gR=.tuple #[.I HW,.I xj]/\aP pQ λku=>LN cB ku λt42=>Cl F.gH #[.pointer t42,.U 6] cB λkU cJ=> ∃Xy CE,kU=.tuple #[.I Xy,.I CE]/\Cl F.jA #[] cJ λot cQ=>az.EX λt45=>ot=t45.agg/\Cl F.mI #[.pointer pQ,.I 1,.agg #[.U 1,.I 1,.bool t45.f0,.U t45.f1,.U t45.f2,.string t45.f3,.string t45.f4,.bool false,.U 0,.U 0,.string j9,.string j9,.I 0,.I 0,.I 0,.Z,.U 0,.U 0,.bool false]] cQ λxu cW=>aq.EX λt47=>xu=t47.agg/\aV cW (.cells aq.S.z.arr T.aq) λb dA=>aq.dV dA (AA b 0) t47 λfc=>Cl F.jA #[] fc λAT cP=>az.EX λt49=>AT=t49.agg/\Cl F.mI #[.pointer pQ,.I 2,.agg #[.U 1,.I 1,.bool t49.f0,.U t49.f1,.U t49.f2,.string t49.f3,.string t49.f4,.bool false,.U 0,.U 0,.string j9,.string j9,.I 0,.I 0,.I 0,.Z,.U 0,.U 0,.bool false]] cP λDM cV=>aq.EX λt51=>DM=t51.agg/\aV cV (.cells aq.S.z.arr T.aq) λcD dD=>aq.dV dD (AA cD 0) t51 λdF=>Cl F.jA #[] dF λEJ fC=>az.EX λt53=>EJ=t53.agg/\Cl F.jA #[] fC λSR gD=>az.EX λt54=>SR=t54.agg/\aV gD (.cells #[.int .u8 120] T.uint8) λeY gX=>aX Tryz.prog (convert T.dt T.dt (.slice (some (AA eY 0)) 1 1)) gX λDc gQ=>Vl Dc λaep aeq aer=>Cl F.mI #[.pointer pQ,.I 1,.agg #[.U 2,.I 4,.bool t53.f0,.U t53.f1,.U t53.f2,.string t53.f3,.string t53.f4,.bool t54.f0,.U t54.f1,.U t54.f2,.string t54.f3,.string t54.f4,.I 0,.I 0,.I 0,.slice aep aeq aer,.U 9,.U 0,.bool false]] gQ λEK fh=>aq.EX λt58=>EK=t58.agg/\aV fh (.cells aq.S.z.arr T.aq) λjQ jn=>aq.dV jn (AA jQ 0) t58 λju=>Cl F.jA #[] ju λQi sK=>az.EX λt60=>Qi=t60.agg/\Cl F.mI #[.pointer pQ,.I 1,.agg #[.U 2,.I 6,.bool t60.f0,.U t60.f1,.U t60.f2,.string t60.f3,.string t60.f4,.bool false,.U 0,.U 0,.string j9,.string j9,.I 0,.I 0,.I 0,.Z,.U 0,.U 0,.bool false]] sK λVF rL=>aq.EX λt62=>VF=t62.agg/\aV rL (.cells aq.S.z.arr T.aq) λpH qK=>aq.dV qK (AA pH 0) t62 λvh=>Cl F.jA #[] vh λVG zY=>az.EX λt64=>VG=t64.agg/\Cl F.mI #[.pointer pQ,.I 3,.agg #[.U 2,.I 6,.bool t64.f0,.U t64.f1,.U t64.f2,.string t64.f3,.string t64.f4,.bool false,.U 0,.U 0,.string j9,.string j9,.I 0,.I 0,.I 0,.Z,.U 0,.U 0,.bool false]] zY λVH BL=>aq.EX λt66=>VH=t66.agg/\aV BL (.cells aq.S.z.arr T.aq) λBz BM=>aq.dV BM (AA Bz 0) t66 λF0=>Cl F.mI #[.pointer none,.I 1,.agg #[.U 2,.I 0,.bool false,.U 0,.U 0,.string j9,.string j9,.bool false,.U 0,.U 0,.string j9,.string j9,.I 0,.I 0,.I 0,.Z,.U 0,.U 0,.bool false]] F0 λaem IU=>aq.EX λt68=>aem=t68.agg/\aV IU (.cells aq.S.z.arr T.aq) λSQ Hd=>aq.dV Hd (AA SQ 0) t68 λsk=> ∃t70,ak sk (AA b 1)=some (.I t70)/\if(t70==0) then∃t74,ak sk (AA b 0)=some (.U t74)/\if(t74==1) then∃t79,ak sk (AA cD 1)=some (.I t79)/\if(t79==11) then∃t84,ak sk (AA jQ 1)=some (.I t84)/\if(t84==0) then∃t89,ak sk (AA jQ 2)=some (.I t89)/\if(t89==1) then∃t94,ak sk (AA pH 2)=some (.I t94)/\if(t94==1) then Hi sk pH 3 λt99=> ∃t101,ak sk (AA jQ 3)=some (.I t101)/\if(t99==t101) then∃t106,ak sk (AA Bz 1)=some (.I t106)/\if(t106==16) then∃t111,ak sk (AA SQ 1)=some (.I t111)/\if(t111==6) then aP pQ λpE=>LN sk (pE.add 3) λt118=>Cl F.mf #[.pointer t118] sk λaen IW=> ∃alf aes alg,aen=.slice alf aes alg/\R (.bool ((aes:Int)==1)) IW else R (.bool false) sk else R (.bool false) sk else R (.bool false) sk else R (.bool false) sk else R (.bool false) sk else R (.bool false) sk else R (.bool false) sk else R (.bool false) sk else R (.bool false) sk) (λJ=>if(tC !=0) then J true aZ else if pQ.isNone then J true aZ else aP pQ λrY=> ∃t24,ak aZ rY=some (.pointer t24)/\if t24.isNone then J true aZ else aP pQ λvS=> ∃t31,ak aZ (vS.add 3)=some (.pointer t31)/\J t31.isNone aZ)):Cl F.qb #[] h R:=aS (lq (lq (sq (sq (.join [(33,.one (.bool))] lf) (cq ll lf)) (lq (lq (lq (lq (lq (lq (lq (lq ll))))))))))) Tryz.func11 hv
theorem rX.walk {kq:Int} {later:Int} {hH:bU} {fS hN:Nat} (hv:Cl F.ur #[] h λv aR=>az.EX λt19=>v=t19.agg/\Cl F.wu #[t19.agg] aR λeJ aZ=> ∃rT uj,eJ=.tuple #[.pointer rT,.I uj]/\aK (λ(t39:Bool) (bJ:aj)=>if t39 then if(uj==0) then Cl F.sy #[.pointer rT] bJ λgR cB=> ∃t44,gR=.bool t44/\if t44 then Cl F.qb #[] cB λkU cJ=> ∃t47,kU=.bool t47/\R (.bool t47) cJ else R (.bool false) cB else R (.bool false) bJ else aP rT λa=>LN bJ a λt52=>Cl F.gH #[.pointer t52,.U 5] bJ λot cQ=> ∃SB Lb,ot=.tuple #[.I SB,.I Lb]/\aP rT λku=>LN cQ ku λt57=>Cl F.gH #[.pointer t57,.U 6] cQ λxu cW=> ∃NS NT,xu=.tuple #[.I NS,.I NT]/\Cl F.jA #[] cW λAT dA=>az.EX λt60=>AT=t60.agg/\Cl F.mI #[.pointer rT,.I 1,.agg #[.U 1,.I 1,.bool t60.f0,.U t60.f1,.U t60.f2,.string t60.f3,.string t60.f4,.bool false,.U 0,.U 0,.string j9,.string j9,.I 0,.I 0,.I 0,.Z,.U 0,.U 0,.bool false]] dA λDM fc=>aq.EX λt62=>DM=t62.agg/\aV fc (.cells aq.S.z.arr T.aq) λb cP=>aq.dV cP (AA b 0) t62 λcV=>aP rT λpE=>LN cV (pE.add 2) λt66=>Cl F.jA #[] cV λEJ dD=>az.EX λt67=>EJ=t67.agg/\Kp cV dD [(some (pE.add 2))]/\Cl F.nR #[.pointer t66,t67.agg,.slice hH fS hN,.U 5000] dD λSR dF=> ∃Wl Wm,SR=.tuple #[.I Wl,.I Wm]/\Cl F.jA #[] dF λDc fC=>az.EX λt74=>Dc=t74.agg/\Cl F.mI #[.pointer rT,.I 1,.agg #[.U 2,.I 7,.bool t74.f0,.U t74.f1,.U t74.f2,.string t74.f3,.string t74.f4,.bool false,.U 0,.U 0,.string j9,.string j9,.I 0,.I 0,.I (wrap .i64 (1+(wrap .i64 kq))),.Z,.U 0,.U 0,.bool false]] fC λEK gD=>aq.EX λt77=>EK=t77.agg/\aV gD (.cells aq.S.z.arr T.aq) λcD gX=>aq.dV gX (AA cD 0) t77 λgQ=>Cl F.mI #[.pointer rT,.I 2,.agg #[.U 3,.I 8,.bool false,.U 0,.U 0,.string j9,.string j9,.bool false,.U 0,.U 0,.string j9,.string j9,.I 0,.I 1,.I 0,.Z,.U 0,.U 0,.bool false]] gQ λQi fh=>aq.EX λt80=>Qi=t80.agg/\aV fh (.cells aq.S.z.arr T.aq) λeY jn=>aq.dV jn (AA eY 0) t80 λju=>Cl F.mI #[.pointer rT,.I 2,.agg #[.U 4,.I 9,.bool false,.U 0,.U 0,.string j9,.string j9,.bool false,.U 0,.U 0,.string j9,.string j9,.I 0,.I 1,.I 0,.Z,.U 0,.U 0,.bool false]] ju λVF sK=>aq.EX λt83=>VF=t83.agg/\aV sK (.cells aq.S.z.arr T.aq) λjQ rL=>aq.dV rL (AA jQ 0) t83 λqK=>Cl F.jA #[] qK λVG vh=>az.EX λt85=>VG=t85.agg/\Cl F.mI #[.pointer rT,.I 2,.agg #[.U 5,.I 7,.bool t85.f0,.U t85.f1,.U t85.f2,.string t85.f3,.string t85.f4,.bool false,.U 0,.U 0,.string j9,.string j9,.I 0,.I 0,.I 1,.Z,.U 0,.U 0,.bool false]] vh λVH zY=>aq.EX λt87=>VH=t87.agg/\aV zY (.cells aq.S.z.arr T.aq) λpH BL=>aq.dV BL (AA pH 0) t87 λBM=>Cl F.lS #[.pointer rT,.U (wrap .u64 later)] BM λaem F0=>Vi aem λt91=>Cl F.mI #[.pointer rT,.I 1,.agg #[.U 6,.I 8,.bool false,.U 0,.U 0,.string j9,.string j9,.bool false,.U 0,.U 0,.string j9,.string j9,.I 0,.I 1,.I 0,.Z,.U 0,.U 0,.bool false]] F0 λaen IU=>aq.EX λt94=>aen=t94.agg/\aV IU (.cells aq.S.z.arr T.aq) λBz Hd=>aq.dV Hd (AA Bz 0) t94 λsk=>Cl F.mI #[.pointer rT,.I 1,.agg #[.U 7,.I 8,.bool false,.U 0,.U 0,.string j9,.string j9,.bool false,.U 0,.U 0,.string j9,.string j9,.I 0,.I 1,.I 0,.Z,.U 0,.U 0,.bool false]] sk λala IW=>aq.EX λt97=>ala=t97.agg/\aV IW (.cells aq.S.z.arr T.aq) λSQ SU=>aq.dV SU (AA SQ 0) t97 λLr=>aP rT λrY=>LN Lr (rY.add 2) λt101=>Cl F.kX #[.pointer t101] Lr λalc Qh=> ∃aet aeu aev aew aex aey,alc=.agg #[.I aet,.I aeu,.I aev,.I aew,.I aex,.I aey]/\aV Qh (.cells #[.I 0,.I 0,.I 0,.I 0,.I 0,.I 0] T.gE) λb_7 IX=>gE.ST IX (AA b_7 0) aet aeu aev aew aex aey λMt=>if(decide ((wrap .i64 later)≥(wrap .i64 (1+(wrap .i64 kq))))) then Cl F.qb #[] Mt λard tX=> ∃t107,ard=.bool t107/\if t107 then∃t110,ak tX (AA b 1)=some (.I t110)/\if(t110==0) then∃t115,ak tX (AA cD 2)=some (.I t115)/\if(t115==1) then∃t120,ak tX (AA eY 1)=some (.I t120)/\if(t120==14) then∃t125,ak tX (AA jQ 1)=some (.I t125)/\if(t125==14) then∃t130,ak tX (AA pH 1)=some (.I t130)/\if(t130==13) then∃t135,ak tX (AA Bz 1)=some (.I t135)/\if(t135==14) then∃t140,ak tX (AA SQ 1)=some (.I t140)/\if(t140==14) then gE.LD tX (AA b_7 0) λalh ali alj alk alm aln=> ∃(eq:Bool),Ho Tryz.prog T.gE (.agg #[.I alh,.I ali,.I alj,.I alk,.I alm,.I aln]) (.agg #[.I 1,.I 1,.I 0,.I 0,.I 0,.I 0]) eq/\R (.bool eq) tX else R (.bool false) tX else R (.bool false) tX else R (.bool false) tX else R (.bool false) tX else R (.bool false) tX else R (.bool false) tX else R (.bool false) tX else R (.bool false) tX else Cl F.qb #[] Mt λare xL=> ∃t148,are=.bool t148/\if t148 then∃t151,ak xL (AA b 1)=some (.I t151)/\if(t151==0) then∃t156,ak xL (AA cD 2)=some (.I t156)/\if(t156==1) then Hl xL cD 5 λalo alp alq=> ∃(t162:ByteArray),DP Tryz.prog T.dt T.string (.slice alo alp alq) xL t162/\∃(t164:ByteArray),DP Tryz.prog T.dt T.string (.slice hH fS hN) xL t164/\if(t162.toList==t164.toList) then∃t169,ak xL (AA eY 1)=some (.I t169)/\if(t169==14) then∃t174,ak xL (AA jQ 1)=some (.I t174)/\if(t174==14) then∃t179,ak xL (AA pH 1)=some (.I t179)/\if(t179==13) then∃t184,ak xL (AA Bz 1)=some (.I t184)/\if(t184==0) then∃t189,ak xL (AA SQ 1)=some (.I t189)/\if(t189==4) then gE.LD xL (AA b_7 0) λalr als alu alv alw alx=> ∃(eq_1:Bool),Ho Tryz.prog T.gE (.agg #[.I alr,.I als,.I alu,.I alv,.I alw,.I alx]) (.agg #[.I 1,.I 0,.I 0,.I 1,.I 0,.I 0]) eq_1/\R (.bool eq_1) xL else R (.bool false) xL else R (.bool false) xL else R (.bool false) xL else R (.bool false) xL else R (.bool false) xL else R (.bool false) xL else R (.bool false) xL else R (.bool false) xL else R (.bool false) xL) (λJ=>if(uj !=0) then J true aZ else Cl F.sy #[.pointer rT] aZ λarf aeh=> ∃t27,arf=.bool t27/\if(!t27) then J true aeh else if(decide ((fS:Int)<1)) then J true aeh else J (decide ((fS:Int)>300)) aeh)):Cl F.rX #[.int .u8 kq,.int .u8 later,.slice hH fS hN] h R:=aS (lq (lq (sq (sq (.join [(39,.one (.bool))] lf) (cq ll lf)) (lq (lq (lq (sq (.qW (jh 4 0 (.op 5 (.op 4 (.op 6 .done))))) (lq (lq (lq (lq (lq (lq (lq (lq (lq (sq (lq (cq ll lf)) ll))))))))))))))))) Tryz.func3 hv
end
section
namespace Ask
open qI (Ev dj)
open gJ (SS Good Pt GW Mk)
open Bn (oY lC oz Lw Qr)
variable {h h':aj} {R:iI} {s k m:Nat} {X:Ft} {I:GW} {σ:SS} {e:Ev} {tm sq:Nat}
theorem Tj (now gI:Nat) (h1:now<=1099511627776) (h2:gI<=1099511627776) (hk:R (.U (uC now gI:Int)) h):Cl F.sD #[.U (now:Int),.U (gI:Int)] h R:=by
 refine sD.walk ?_;rw[wrap_u64 (by omega) (by omega)];have:(if(1099511627776:Int)<(now:Int)+(gI:Int) then 1099511627776 else(now:Int)+(gI:Int))=(uC now gI:Int):=by unfold uC;split<;>omega
 rw[this];exact hk
theorem aez (M:Mk h m e tm sq) (now:Nat) (hn:now<=1099511627776) (hs:sq<=1099511627776)
  (k1:tm<now->∀h',Mk h' m e now 0->Fr (λy=>y=m) h h'->R (.tuple #[(⟨e,now,0⟩:oY).s.agg,.I 0]) h')
  (k2: ¬tm<now->sq<1099511627776->∀h',Mk h' m e tm (sq+1)->Fr (λy=>y=m) h h'->R (.tuple #[(⟨e,tm,sq+1⟩:oY).s.agg,.I 0]) h')
  (k3: ¬tm<now->1099511627776<=sq->∀h',Fr No h h'->R (.tuple #[oY.zero.s.agg,.I 5]) h'):Cl F.oa #[pt m,.U (now:Int)] h R:=by
 refine oa.walk (ah.dH λb h1 eb hb f1=>aK.of λJ hJ=>aK.of λJ1 pA=> ?_);have M1:=f1.get M id;have zm:=aI M;have nb:b≠m:=by omega
 refine⟨_,af M1 rfl,?_⟩;subst pA;dsimp only;refine aK.of λJ2 zX=> ?_
 rw[dL];refine aK.of λJ3 SO=> ?_
 rw[dL];refine⟨_,af M1 rfl,aK.of λJ4 Yw=> ?_⟩;have fin: ∀g (t q:Nat),Mk g m e t q->Fr (λy=>y=m) h1 g->(∀h',Mk h' m e t q->Fr (λy=>y=m) h h'->R (.tuple #[(⟨e,t,q⟩:oY).s.agg,.I 0]) h')->J4 g:=by
  intro g t q Mg fg hk;subst Yw;subst SO;subst zX;subst hJ;refine Lw ⟨e,t,q⟩ Mg rfl rfl rfl rfl rfl rfl rfl (Qr ⟨e,t,q⟩ (fg.get hb nb) λh4 f4=>hk h4 (f4.get Mg (λe=>nb e.symm)) ?_);exact(Fr.no f1 fg).trans f4 (λ_ _=>id) (λc hc e=>by omega)
 by_cases c1:tm<now
 ·rw[jy];refine bL M1 (by simp) λh2 a1 a2 a3=>bL a1 (by simp) λh3 b1 b2 b3=> ?_
  exact fin h3 now 0 b1 ((Fr.of_eq (S:=λy=>y=m) a2 a3).tt (Fr.of_eq b2 b3)) (k1 c1)
 rw[dL];refine⟨_,af M1 rfl,?_⟩;by_cases c2:1099511627776<=sq
 ·rw[ag (by simp only[bf];omega)];exact Qr .zero hb λh4 f4=>k3 c1 c2 h4 (f1.fresh f4 (λy e=>by omega))
 rw[dL];refine⟨_,af M1 rfl,?_⟩;rw[wrap_u64 (by omega) (by omega)];refine bL M1 (by simp) λh2 a1 a2 a3=> ?_
 have M2:Mk h2 m e tm (sq+1):=by unfold Mk;rw[Int.natCast_add];exact a1
 exact fin h2 tm (sq+1) M2 (Fr.of_eq a2 a3) (k2 c1 (by omega))
theorem Fy (a b:oY) (hl:a.tm<b.tm\/a.tm=b.tm/\a.sq<b.sq) (hk: ∀h',Fr No h h'->R (.bool true) h'):Cl F.uY #[a.s.agg,b.s.agg] h R:=by
 refine uY.walk (ah.dH λb1 h1 uf dw f1=>ah.dH λb2 h2 FE fI f2=>⟨_,af (f2.get dw id) rfl,_,af fI rfl,?_⟩);have rR:=f2.get dw id;have hk:=hk h2 (f1.tt f2);by_cases c1:a.tm=b.tm
 ·rw[ai (by show¬(((a.tm:Int)) !=(b.tm:Int))=true;rw[c1];simp)];refine⟨_,af rR rfl,_,af fI rfl,?_⟩;have c2:a.sq<b.sq:=by omega
  rw[ag (by show(((a.sq:Int)) !=(b.sq:Int))=true;simp;omega)];refine⟨_,af rR rfl,_,af fI rfl,?_⟩;rw[ay (by show(a.sq:Int)<(b.sq:Int);omega)];exact hk
 ·rw[ag (by show(((a.tm:Int)) !=(b.tm:Int))=true;simp;omega)];refine⟨_,af rR rfl,_,af fI rfl,?_⟩;rw[ay (by show(a.tm:Int)<(b.tm:Int);omega)];exact hk
theorem arh (M:Mk h m e tm sq) (x:oY) (he:x.e=e) {K:aj->Prop} (hk: ∀h',Mk h' m e x.tm x.sq->Fr (λy=>y=m) h h'->K h'):ah.dV h (AA m 0) x.s K:=by
 subst he;exact(show gY (AA m 0) x.s.l 0 h K from wC (off:=0) (ws:= [.bool x.e.vD,.U x.e.node,.U x.e.l6,.string x.e.host,.string x.e.sM,.U (x.tm:Int),.U (x.sq:Int),.bool true]) M (by show 0+7<=8;omega) rfl rfl λh1 d1 d2 d3=>hk h1 d1 (Fr.of_eq d2 λc hc=>d3 c hc))
theorem Tk (M:Mk h m e tm sq) (x:oY) (he:x.e=e) (hr:lC x=true) (hl:tm<x.tm\/tm=x.tm/\sq<x.sq) (hk: ∀h',Mk h' m e x.tm x.sq->Fr (λy=>y=m) h h'->R (.I 0) h'):Cl F.lW #[pt m,x.s.agg] h R:=by
 refine lW.walk (ah.dH λb h1 eb hb f1=>aK.of λJ hJ=> ?_);have M1:=f1.get M id;have zm:=aI M;refine⟨_,af M1 rfl,?_⟩;subst hJ;dsimp only;rw[dL];refine aK.of λJ1 pA=>ah.jk (x:=x.s) hb (Bn.DB x λh2 f2=>⟨_,rfl,?_⟩)
 have M2:=f2.get M1 id;have fI:=f2.get hb id;rw[hr,dL];refine oz x.e fI rfl rfl rfl rfl rfl (oz e M2 rfl rfl rfl rfl rfl ⟨_,qI.ID (x:=x.e) (y:=e) rfl rfl,?_⟩);subst pA;dsimp only;rw[ay he,dL];refine Lw ⟨e,tm,sq⟩ M2 rfl rfl rfl rfl rfl rfl rfl (ah.jk (x:=x.s) fI (Fy ⟨e,tm,sq⟩ x hl λh3 f3=>⟨_,rfl,?_⟩));rw[dL];exact ah.jk (x:=x.s) (f3.get fI id) (arh (f3.get M2 id) x he λh4 M4 f4=>hk h4 M4 (Fr.no (f1.tt (f2.tt f3)) f4))
theorem Pt.mk' (H:Pt h s X I σ):Mk h I.k σ.e σ.tm σ.sq:=by obtain⟨Y,hp,_⟩:=H;exact(hp 5).1
theorem aoW {b:Nat} {y:oY} (x:Ev) {K:aj->Prop} (hb:ah.jx h b y.s) (hk: ∀h',ah.jx h' b (⟨x,y.tm,y.sq⟩:oY).s->Fr (λy=>y=b) h h'->K h'):az.dV h (AA b 0) x.s K:=
 (show gY (AA b 0) x.s.l 0 h K from wC (off:=0) (ws:=(⟨x,y.tm,y.sq⟩:oY).s.l) hb (by show 0+5<=7;omega) rfl rfl λh1 d1 d2 d3=>hk h1 d1 (Fr.of_eq d2 λc hc=>d3 c hc))
theorem Fz (H:Pt h s X I σ) (G:gJ.Good σ k) (src:Ev) (k1: ∀n,zV σ=some n->∀h',Fr No h h'->R (.tuple #[(⟨src,n.1,n.2⟩:oY).s.agg,(⟨σ.e,n.1,n.2⟩:oY).s.agg,.I 0]) h')
  (k2:zV σ=none->∀h',Fr No h h'->R (.tuple #[(⟨src,0,0⟩:oY).s.agg,oY.zero.s.agg,.I 5]) h'):Cl F.kh #[pt s,src.s.agg] h R:=by
 refine kh.walk (az.dH λb h1 eb hb f1=>ah.dH λb1 h2 uf dw f2=>ah.dH λb2 h3 FE fI f3=> ?_);have F3:=f1.tt (f2.tt f3);have H3:=H.on F3;have z1:=f1.1;have z2:=f2.1;have z3:=f3.1;refine⟨_,af H3.dE rfl,gJ.XC (Pt.mk' H3) λh4 f4=>ah.ex (⟨σ.e,σ.tm,σ.sq⟩:oY).s ⟨rfl,ah.j8 (x:=(⟨σ.e,σ.tm,σ.sq⟩:oY).s) λb3 h6 LP kR f6=> ?_⟩⟩;have z4:=f4.1;refine oz σ.e kR rfl rfl rfl rfl rfl (gJ.Il σ.e (λhm h7 m M7 g7 f7=>⟨_,_,rfl,?_⟩) (λhm=>absurd ⟨G.e.1,G.e.2.1⟩ hm));rw[dL];have F37:=f4.tt (f6.tt f7);have aly:=f7.get kR id;have z6:=f6.1;have z7:=f7.1;have tail: ∀(g:aj) (x:oY) (q:Int),Fr No h3 g->(∀g',Fr No h g'->R (.tuple #[(⟨src,x.tm,x.sq⟩:oY).s.agg,x.s.agg,.I q]) g')->
   aV g (.cells ah.S.z.arr T.ah) λpH dF=>
   ah.dV dF (AA pH 0) x.s λfC=>
   ah.df fC (AA pH 0) λt48=>
   aV fC (.cells ah.S.z.arr T.ah) λBz gD=>
   ah.dV gD (AA Bz 0) t48 λgX=>
   az.df gX (AA b 0) λt49=>
   az.dV gX (AA Bz 0) t49 λgQ=>
   ah.df gQ (AA Bz 0) λt51=>
   ah.df gQ (AA pH 0) λt52=>
   ah.dV gQ (AA b1 0) t51 λfh=>
   Kp gQ fh [(some (AA pH 0))]/\
   ah.dV fh (AA b2 0) t52 λjn=>
   ah.df jn (AA b1 0) λia=>
   ah.df jn (AA b2 0) λadQ=>
   R (.tuple #[ia.agg,adQ.agg,.I q]) jn:=by
  intro g x q fg hk;refine ah.j8 (x:=x.s) λb4 Dv Vz ma f14=>ah.jk ma (ah.j8 (x:=x.s) λb5 vY eb5 DJ f16=> ?_)
  have F16:=fg.tt (f14.tt f16);have zg:=fg.1;have z14:=f14.1;have ne1:b1≠b4:=by have:=aI dw;omega
  have ne2:b1≠b5:=by have:=aI dw;omega
  have ne3:b2≠b1:=by have:=aI dw;omega
  refine oz src (F16.get ((f2.tt f3).get hb id) id) rfl rfl rfl rfl rfl (aoW src DJ λQq ari f17=>ah.jk (x:=(⟨src,x.tm,x.sq⟩:oY).s) ari (ah.jk (x:=x.s) (f17.get (f16.get ma id) (by have:=aI ma;omega)) ?_));have F17:Fr No h3 Qq:=F16.fresh f17 (λy e=>by omega);refine ah.mA (x:=(⟨src,x.tm,x.sq⟩:oY).s) (F17.get (f3.get dw id) id) λGl d18 f18 _=>⟨Bn.kpb f18 (by simp;omega),ah.mA (x:=x.s) (f18.get (F17.get fI id) ne3) λh19 d19 f19 _=>ah.jk (x:=(⟨src,x.tm,x.sq⟩:oY).s) (f19.get d18 ne3.symm) (ah.jk (x:=x.s) d19 (hk h19 ?_))⟩
  exact((F3.tt F17).fresh f18 (λy e=>by omega)).fresh f19 (λy e=>by omega)
 refine aK.of λJ hJ=> ?_
 have key: ∀v,(v=true↔0<σ.tm\/0<σ.sq)->J v h7:=by
  intro v hv;subst hJ;dsimp only;refine aK.of λJ1 pA=> ?_
  have fin: ∀g,Mk g m σ.e σ.tm σ.sq->Fr (λy=>y=m) h7 g->J1 g:=by
   intro g Mg fg;subst pA;have Fg:Fr No h3 g:=F37.fresh fg (λy e=>by omega);have Hg:=H3.on Fg;unfold zV at k1 k2;refine⟨_,af Hg.dE rfl,aez Mg σ.now G.n G.t.2 (λc1 mE M12 f12=> ?_) (λc1 c2 mE M12 f12=> ?_) (λc1 c2 mE f12=> ?_)⟩
   ·exact ah.ex (⟨σ.e,σ.now,0⟩:oY).s ⟨_,rfl,tail mE ⟨σ.e,σ.now,0⟩ 0 (Fg.fresh f12 (λy e=>by omega)) (k1 (σ.now,0) (ag c1))⟩
   ·exact ah.ex (⟨σ.e,σ.tm,σ.sq+1⟩:oY).s ⟨_,rfl,tail mE ⟨σ.e,σ.tm,σ.sq+1⟩ 0 (Fg.fresh f12 (λy e=>by omega)) (k1 (σ.tm,σ.sq+1) ((ai c1).trans (dL)))⟩
   ·exact ah.ex oY.zero.s ⟨_,rfl,tail mE .zero 5 (Fg.tt f12) (k2 ((ai c1).trans (ag c2)))⟩
  cases v with
  |true=>
   rw[ag rfl];have hr:lC ⟨σ.e,σ.tm,σ.sq⟩=true:=by unfold lC;rw[G.e.1,ay G.t.1,ay G.t.2];rfl
   exact ah.jk (x:=(⟨σ.e,σ.tm,σ.sq⟩:oY).s) aly (Tk M7 ⟨σ.e,σ.tm,σ.sq⟩ rfl hr (by have:=hv.1 rfl;show 0<σ.tm\/0=σ.tm/\0<σ.sq;omega) λQo M20 f20=>⟨_,rfl,fin Qo M20 f20⟩)
  |false=>
   rw[dL];have c: ¬(0<σ.tm\/0<σ.sq):=λc=>by have:=hv.2 c;cases this
   have e1:σ.tm=0:=by omega
   have e2:σ.sq=0:=by omega
   exact fin h7 (by rw[e1,e2];exact M7) (Fr.refl _ _)
 refine⟨_,af aly rfl,?_⟩;by_cases c:0<σ.tm
 ·rw[ag (ay (by show(σ.tm:Int)>0;omega))];exact key true ⟨λ_=> .inl c,λ_=>rfl⟩
 ·rw[ai (by simp only[bf];show¬(σ.tm:Int)>0;omega)];refine⟨_,af aly rfl,key _ ⟨λe=> .inr (by have e:(σ.sq:Int)>0:=of_decide_eq_true e;omega),λe=>ay (by show(σ.sq:Int)>0;omega)⟩⟩
end Ask
end
section
variable {h:aj} {R:iI}
theorem sX.walk {a:aD.S} {b:aD.S} (hv:aV h (.cells a.arr T.aD) λcD aR=>aV aR (.cells b.arr T.aD) λeY aZ=>Hu aZ cD 0 λt6=> ∃t8,ak aZ (AA eY 0)=some (.U t8)/\if(t6==t8) then Hi aZ cD 1 λt12=> ∃t14,ak aZ (AA eY 1)=some (.I t14)/\if(t12==t14) then az.df aZ (AA cD 2) λt19=>az.df aZ (AA eY 2) λt21=> ∃(eq:Bool),Ho Tryz.prog T.az (t19.agg) (t21.agg) eq/\if eq then az.df aZ (AA cD 7) λt26=>az.df aZ (AA eY 7) λt28=> ∃(eq_1:Bool),Ho Tryz.prog T.az (t26.agg) (t28.agg) eq_1/\if eq_1 then Hi aZ cD 12 λt33=> ∃t35,ak aZ (AA eY 12)=some (.I t35)/\if(t33==t35) then Hi aZ cD 13 λt40=> ∃t42,ak aZ (AA eY 13)=some (.I t42)/\if(t40==t42) then Hi aZ cD 14 λt47=> ∃t49,ak aZ (AA eY 14)=some (.I t49)/\if(t47==t49) then Hl aZ cD 15 λIb CS KL=>Hl aZ eY 15 λaep aeq aer=>Cl F.ke #[.slice Ib CS KL,.slice aep aeq aer] aZ λv bJ=> ∃t57,v=.bool t57/\if t57 then Hu bJ cD 16 λt61=> ∃t63,ak bJ (AA eY 16)=some (.U t63)/\if(t61==t63) then Hu bJ cD 17 λt68=> ∃t70,ak bJ (AA eY 17)=some (.U t70)/\if(t68==t70) then Hb bJ cD 18 λt75=> ∃t77,ak bJ (AA eY 18)=some (.bool t77)/\R (.bool (t75==t77)) bJ else R (.bool false) bJ else R (.bool false) bJ else R (.bool false) bJ else R (.bool false) aZ else R (.bool false) aZ else R (.bool false) aZ else R (.bool false) aZ else R (.bool false) aZ else R (.bool false) aZ else R (.bool false) aZ):Cl F.sX #[a.agg,b.agg] h R:=aS (lq ll) Tryz.func80 hv
theorem uV.walk {x:aD.S} (hv:aV h (.cells x.arr T.aD) λb aR=>aV aR (.cells aD.S.z.arr T.aD) λcD aZ=>Hu aZ b 0 λt5=>Hi aZ b 1 λt7=>aV aZ (.cells aD.S.z.arr T.aD) λeY bJ=>aD.dV bJ (AA eY 0) ⟨t5,t7,false,0,0,j9,j9,false,0,0,j9,j9,0,0,0,none,0,0,0,0,false⟩ λcB=>Hi cB b 1 λt10=>aK (λ(cJ:aj)=>aD.df cJ (AA eY 0) λt68=>aD.dV cJ (AA cD 0) t68 λcQ=>aD.df cQ (AA cD 0) λr0=>R (r0.agg) cQ) (λJ=>aK (λ(t11:Bool) (cW:aj)=>aK (λ(dA:aj)=>J dA) (λBo=>if t11 then az.df cW (AA b 2) λt15=>Hi cW b 12 λt17=>az.dV cW (AA eY 2) t15 λfc=>Kp cW fc [(some (AA b 12))]/\aH fc (AA eY 12) (.I t17) λcP=>Bo cP else aK (λ(t20:Bool) (cV:aj)=>aK (λ(dD:aj)=>Bo dD) (λJ_4=>if t20 then az.df cV (AA b 2) λt24=>az.dV cV (AA eY 2) t24 λdF=>J_4 dF else aK (λ(fC:aj)=>J_4 fC) (λJ_5=>if(t10==4) then az.df cV (AA b 2) λt29=>az.df cV (AA b 7) λt31=>Hl cV b 15 λrF pO rG=>Hu cV b 16 λt35=>Hb cV b 18 λt37=>az.dV cV (AA eY 2) t29 λgD=>Kp cV gD [(some (AA b 18)),(some (AA b 16)),(some (AA b 15)),(some (AA b 7))]/\az.dV gD (AA eY 7) t31 λgX=>Kp gD gX [(some (AA b 18)),(some (AA b 16)),(some (AA b 15))]/\aH gX (AA eY 15) (.slice rF pO rG) λgQ=>Kp gX gQ [(some (AA b 18)),(some (AA b 16))]/\aH gQ (AA eY 16) (.U t35) λfh=>Kp gQ fh [(some (AA b 18))]/\aH fh (AA eY 18) (.bool t37) λjn=>J_5 jn else aK (λ(t43:Bool) (ju:aj)=>aK (λ(sK:aj)=>J_5 sK) (λJ_7=>if t43 then∃t48,ak ju (AA b 13)=some (.I t48)/\aH ju (AA eY 13) (.I t48) λrL=>J_7 rL else aK (λ(qK:aj)=>J_7 qK) (λJ_8=>if(t10==7) then az.df ju (AA b 2) λt53=>Hi ju b 14 λt55=>az.dV ju (AA eY 2) t53 λvh=>Kp ju vh [(some (AA b 14))]/\aH vh (AA eY 14) (.I t55) λzY=>J_8 zY else aK (λ(BL:aj)=>J_8 BL) (λJ_9=>if(t10==10) then∃t61,ak ju (AA b 18)=some (.bool t61)/\aH ju (AA eY 18) (.bool t61) λBM=>J_9 BM else aK (λ(F0:aj)=>J_9 F0) (λTl=>if(t10==12) then∃t66,ak ju (AA b 17)=some (.U t66)/\aH ju (AA eY 17) (.U t66) λIU=>Tl IU else Tl ju))))) (λJ_6=>if(t10==5) then J_6 (t10==5) cV else aK (λ(CE:Bool) (Hd:aj)=>J_6 CE Hd) (λMw=>if(t10==8) then Mw (t10==8) cV else Mw (t10==9) cV))))) (λGG=>if(t10==2) then GG (t10==2) cW else GG (t10==6) cW))) (λjo=>if(t10==1) then jo (t10==1) cB else jo (t10==3) cB))):Cl F.uV #[x.agg] h R:=aS (lq (lq (sq (lq (.join [] (bq (sq (lq (.join [(11,.one (.bool))] (cq lf lf))) (.join [] (cq (pK 8) (sq (lq (.join [(20,.one (.bool))] (cq lf lf))) (.join [] (cq lf (lq (.join [] (cq (pK 20) (sq (lq (.join [(43,.one (.bool))] (cq lf (lq (.join [(43,.one (.bool))] (cq lf lf)))))) (.join [] (cq lf (lq (.join [] (cq (pK 8) (lq (.join [] (cq lf (lq (.join [] (cq lf lf)))))))))))))))))))))))) ll))) Tryz.func81 hv
theorem jD.walk {x:az.S} (hv:aV h (.cells x.arr T.az) λb aR=>az.df aR (AA b 0) λt3=>Cl F.kC #[t3.agg] aR λv aZ=> ∃t4,v=.bool t4/\if t4 then az.df aZ (AA b 0) λt6=> ∃(eq:Bool),Ho Tryz.prog T.az (t6.agg) (az.S.z.agg) eq/\R (.bool (!eq)) aZ else R (.bool false) aZ):Cl F.jD #[x.agg] h R:=aS (lq ll) Tryz.func139 hv
theorem rj.walk {x:aD.S} (hv:aV h (.cells x.arr T.aD) λb aR=>Hi aR b 1 λt4=>aK (λ(t5:Bool) (aZ:aj)=>if t5 then az.df aZ (AA b 2) λt9=>Cl F.jD #[t9.agg] aZ λv bJ=> ∃t10,v=.bool t10/\if t10 then∃t13,ak bJ (AA b 12)=some (.I t13)/\if(decide (t13≥0)) then∃t18,ak bJ (AA b 12)=some (.I t18)/\R (.bool (decide (t18<=2))) bJ else R (.bool false) bJ else R (.bool false) bJ else aK (λ(t21:Bool) (cB:aj)=>if t21 then az.df cB (AA b 2) λt25=>Cl F.jD #[t25.agg] cB λeJ cJ=> ∃t26,eJ=.bool t26/\R (.bool t26) cJ else if(t4==4) then az.df cB (AA b 2) λt30=>Cl F.jD #[t30.agg] cB λgR cQ=> ∃t31,gR=.bool t31/\if t31 then az.df cQ (AA b 7) λt34=>Cl F.jD #[t34.agg] cQ λkU cW=> ∃t35,kU=.bool t35/\if t35 then∃oq kH oF,ak cW (AA b 15)=some (.slice oq kH oF)/\if(decide ((kH:Int)<=200)) then∃t45,ak cW (AA b 16)=some (.U t45)/\if(decide (t45≥1)) then∃t50,ak cW (AA b 16)=some (.U t50)/\R (.bool (decide (t50<=1099511627776))) cW else R (.bool false) cW else R (.bool false) cW else R (.bool false) cW else R (.bool false) cQ else aK (λ(t53:Bool) (dA:aj)=>if t53 then∃t58,ak dA (AA b 13)=some (.I t58)/\if(decide (t58≥1)) then∃t62,ak dA (AA b 13)=some (.I t62)/\R (.bool (decide (t62<=1099511627776))) dA else R (.bool false) dA else if(t4==7) then az.df dA (AA b 2) λt68=>Cl F.jD #[t68.agg] dA λot fc=> ∃t69,ot=.bool t69/\if t69 then∃t72,ak fc (AA b 14)=some (.I t72)/\if(decide (t72≥1)) then∃t77,ak fc (AA b 14)=some (.I t77)/\R (.bool (decide (t77<=1000))) fc else R (.bool false) fc else R (.bool false) fc else if(t4==12) then∃t83,ak dA (AA b 17)=some (.U t83)/\if(decide (t83≥1)) then∃t87,ak dA (AA b 17)=some (.U t87)/\R (.bool (decide (t87<=2147483648))) dA else R (.bool false) dA else∃t91,ak dA (AA b 1)=some (.I t91)/\if(t91==10) then R (.bool true) dA else∃t95,ak dA (AA b 1)=some (.I t95)/\R (.bool (t95==11)) dA) (λBo=>if(t4==5) then Bo (t4==5) cB else aK (λ(Lb:Bool) (cP:aj)=>Bo Lb cP) (λGG=>if(t4==8) then GG (t4==8) cB else GG (t4==9) cB))) (λjo=>if(t4==2) then jo (t4==2) aZ else jo (t4==6) aZ)) (λJ=>if(t4==1) then J (t4==1) aR else J (t4==3) aR)):Cl F.rj #[x.agg] h R:=aS (lq (sq (lq (bq (sq (lq (.join [(5,.one (.bool))] (cq lf lf))) (cq ll (sq (lq (.join [(21,.one (.bool))] (cq lf lf))) (cq ll (lq (cq ll (sq (lq (.join [(53,.one (.bool))] (cq lf (lq (.join [(53,.one (.bool))] (cq lf lf)))))) (cq ll (lq (cq ll (lq (cq ll lf)))))))))))))) ll)) Tryz.func79 hv
theorem pj.walk {x:aD.S} (hv:aV h (.cells x.arr T.aD) λb aR=> ∃t4,ak aR (AA b 0)=some (.U t4)/\if(decide (t4≥1)) then∃t8,ak aR (AA b 0)=some (.U t8)/\if(decide (t8<=1099511627776)) then aD.df aR (AA b 0) λt12=>Cl F.rj #[t12.agg] aR λv aZ=> ∃t13,v=.bool t13/\Kp aR aZ [(some (AA b 0)),(some (AA b 0))]/\if t13 then aD.df aZ (AA b 0) λt16=>aD.df aZ (AA b 0) λt17=>Cl F.uV #[t17.agg] aZ λeJ bJ=>aD.EX λt18=>eJ=t18.agg/\Kp aZ bJ [(some (AA b 0)),(some (AA b 0)),(some (AA b 0))]/\Cl F.sX #[t16.agg,t18.agg] bJ λgR cB=> ∃t19,gR=.bool t19/\Kp bJ cB [(some (AA b 0)),(some (AA b 0))]/\R (.bool t19) cB else R (.bool false) aZ else R (.bool false) aR else R (.bool false) aR):Cl F.pj #[x.agg] h R:=aS (lq (sq (pK 19) lf)) Tryz.func29 hv
end
section
namespace Ask
open qI (Ev dj uG)
open Bn (oz)
variable {h h' g:aj} {R:iI} {p q:bU} {c d:Nat}
abbrev Rq.s (x:Rq) (p:bU) (c:Nat):aD.S:=⟨x.id,x.kind,x.ep.vD,x.ep.node,x.ep.l6,x.ep.host,x.ep.sM,x.dest.vD,x.dest.node,x.dest.l6,x.dest.host,x.dest.sM,x.uE,x.num,x.kq,p,x.Be.length,c,x.gI,x.token,x.on⟩
theorem Hf {P:Prop} {b:Bool} (h1:b=true->P) (h2:b=false->P):P:=by cases b;exact h2 rfl;exact h1 rfl
theorem aeA (x y:Rq) (rx:Row h p (bc x.Be)) (ry:Row h q (bc y.Be)) (hk: ∀h',Fr No h h'->R (.bool (decide (x=y))) h'):Cl F.sX #[(x.s p c).agg,(y.s q d).agg] h R:=by
 refine sX.walk (aD.dH λb h1 eb hb f1=>aD.dH λb1 h2 uf dw f2=> ?_);have fI:=f2.get hb id;have F2:=f1.tt f2;have no: ∀g,Fr No h g->x≠y->R (.bool false) g:=λg fg e=>by have:=hk g fg;rw[decide_eq_false e] at this;exact this
 have ib: ∀(a b:Int) (m n:Nat),a=m->b=n->m≠n->¬(a==b)=true:=λa b m n e1 e2 e=>by rw[e1,e2];simp only[dz];omega
 refine⟨_,af fI rfl,_,af dw rfl,?_⟩;by_cases c1:x.id=y.id
 case neg=>rw[ai (ib _ _ _ _ rfl rfl c1)];exact no h2 F2 (λe=>c1 (by rw[e]))
 rw[ag (by show((x.id:Int)==(y.id:Int))=true;rw[c1];simp)];refine⟨_,af fI rfl,_,af dw rfl,?_⟩;by_cases c2:x.kind=y.kind
 case neg=>rw[ai (by show¬(x.kind==y.kind)=true;simpa using c2)];exact no h2 F2 (λe=>c2 (by rw[e]))
 rw[ag (by show(x.kind==y.kind)=true;simpa using c2)];refine oz x.ep fI rfl rfl rfl rfl rfl (oz y.ep dw rfl rfl rfl rfl rfl ⟨_,qI.ID (x:=x.ep) (y:=y.ep) rfl rfl,?_⟩);by_cases c3:x.ep=y.ep
 case neg=>rw[ai (by simpa using c3)];exact no h2 F2 (λe=>c3 (by rw[e]))
 rw[ag (by simpa using c3)];refine oz x.dest fI rfl rfl rfl rfl rfl (oz y.dest dw rfl rfl rfl rfl rfl ⟨_,qI.ID (x:=x.dest) (y:=y.dest) rfl rfl,?_⟩);by_cases c4:x.dest=y.dest
 case neg=>rw[ai (by simpa using c4)];exact no h2 F2 (λe=>c4 (by rw[e]))
 rw[ag (by simpa using c4)];refine⟨_,af fI rfl,_,af dw rfl,?_⟩;by_cases c5:x.uE=y.uE
 case neg=>rw[ai (by show¬(x.uE==y.uE)=true;simpa using c5)];exact no h2 F2 (λe=>c5 (by rw[e]))
 rw[ag (by show(x.uE==y.uE)=true;simpa using c5)];refine⟨_,af fI rfl,_,af dw rfl,?_⟩;by_cases c6:x.num=y.num
 case neg=>rw[ai (by show¬(x.num==y.num)=true;simpa using c6)];exact no h2 F2 (λe=>c6 (by rw[e]))
 rw[ag (by show(x.num==y.num)=true;simpa using c6)];refine⟨_,af fI rfl,_,af dw rfl,?_⟩;by_cases c7:x.kq=y.kq
 case neg=>rw[ai (by show¬(x.kq==y.kq)=true;simpa using c7)];exact no h2 F2 (λe=>c7 (by rw[e]))
 rw[ag (by show(x.kq==y.kq)=true;simpa using c7)];refine⟨_,_,_,af fI rfl,_,_,_,af dw rfl,Cb.AX (rx.frame F2 (λ_ _=>id)) (ry.frame F2 (λ_ _=>id)) rfl rfl ⟨_,rfl,?_⟩⟩;by_cases c8:x.Be=y.Be
 case neg=>rw[ai (by simpa using c8)];exact no h2 F2 (λe=>c8 (by rw[e]))
 rw[ag (by simpa using c8)];refine⟨_,af fI rfl,_,af dw rfl,?_⟩;by_cases c9:x.gI=y.gI
 case neg=>rw[ai (ib _ _ _ _ rfl rfl c9)];exact no h2 F2 (λe=>c9 (by rw[e]))
 rw[ag (by show((x.gI:Int)==(y.gI:Int))=true;rw[c9];simp)];refine⟨_,af fI rfl,_,af dw rfl,?_⟩;by_cases Ws:x.token=y.token
 case neg=>rw[ai (ib _ _ _ _ rfl rfl Ws)];exact no h2 F2 (λe=>Ws (by rw[e]))
 rw[ag (by show((x.token:Int)==(y.token:Int))=true;rw[Ws];simp)];refine⟨_,af fI rfl,_,af dw rfl,?_⟩;have:=hk h2 F2;have e:decide (x=y)=(x.on==y.on):=by
  by_cases c11:x.on=y.on
  ·have:x=y:=by cases x;cases y;simp only at c1 c2 c3 c4 c5 c6 c7 c8 c9 Ws c11;simp[c1,c2,c3,c4,c5,c6,c7,c8,c9,Ws,c11]
   rw[ay this,c11];simp
  ·rw[decide_eq_false (λe=>c11 (by rw[e]))];simpa using c11
 rw[e] at this;exact this
theorem Aa (e:Ev) (hk: ∀h',Fr No h h'->R (.bool (tZ e)) h'):Cl F.jD #[e.s.agg] h R:=by
 refine jD.walk (az.dH λb h1 eb hb f1=>az.jk (x:=e.s) hb (qI.ic e λh2 f2=>⟨_,rfl,?_⟩));unfold tZ at hk;cases c1:dj e with
 |false=>rw[c1] at hk;rw[dL];exact hk h2 (f1.tt f2)
 |true=>rw[c1] at hk;rw[ag rfl];exact az.jk (x:=e.s) (f2.get hb id) ⟨_,qI.ID (x:=e) (y:=.zero) rfl rfl,hk h2 (f1.tt f2)⟩
theorem ahp {b:Nat} {y:aD.S} {x:az.S} {K:aj->Prop} (hb:aD.jx h b y) (hk: ∀h',aD.jx h' b { y with f2:=x.f0,f3:=x.f1,f4:=x.f2,f5:=x.f3,f6:=x.f4 } ->Fr (λy=>y=b) h h'->K h'):az.dV h (AA b 2) x K:=
 (show gY (AA b 2) x.l 0 h K from wC (off:=2) (ws:=aD.S.l { y with f2:=x.f0,f3:=x.f1,f4:=x.f2,f5:=x.f3,f6:=x.f4 }) hb (by show 2+5<=19;omega) rfl rfl λh1 d1 d2 d3=>hk h1 d1 (Fr.of_eq d2 λc hc=>d3 c hc))
theorem alz {b:Nat} {y:aD.S} {x:az.S} {K:aj->Prop} (hb:aD.jx h b y) (hk: ∀h',aD.jx h' b { y with f7:=x.f0,f8:=x.f1,f9:=x.f2,f10:=x.f3,f11:=x.f4 } ->Fr (λy=>y=b) h h'->K h'):az.dV h (AA b 7) x K:=
 (show gY (AA b 7) x.l 0 h K from wC (off:=7) (ws:=aD.S.l { y with f7:=x.f0,f8:=x.f1,f9:=x.f2,f10:=x.f3,f11:=x.f4 }) hb (by show 7+5<=19;omega) rfl rfl λh1 d1 d2 d3=>hk h1 d1 (Fr.of_eq d2 λc hc=>d3 c hc))
theorem De {b i:Nat} {y z:aD.S} {v:Value} {K:aj->Prop} (hb:aD.jx h b y) (hi:i<19) (hz:y.arr.setIfInBounds i v=z.arr) (hk: ∀h',aD.jx h' b z->Fr (λy=>y=b) h h'->K h'):aH h (AA b i) v K:=
 bL hb hi λh1 d1 d2 d3=>hk h1 (by unfold aD.jx;rw[<-hz];exact d1) (Fr.of_eq d2 λc hc=>d3 c hc)
theorem kpo {b b2:Nat} {l:List (bU)} (f:Fr (λy=>y=b2) h h') (ne:b≠b2) (hl: ∀p∈l,p.map (·.block)=some b):Kp h h' l:=f.kps λp hp x e hb=>ne (by have:=hl p hp;rw[e] at this;exact(bz this).symm.trans hb)
theorem bq {n k:Int} :((n==k)=true↔n=k):=dz
theorem Vy (x:Rq) (rx:Row h p (bc x.Be)) (hk: ∀h' p' c',Row h' p' (bc (BI x).Be)->Fr No h h'->R ((BI x).s p' c').agg h'):Cl F.uV #[(x.s p c).agg] h R:=by
 refine uV.walk (aD.dH λb h1 eb hb f1=>aD.dH λb1 h2 uf dw f2=>⟨_,af (f2.get hb id) rfl,_,af (f2.get hb id) rfl,aD.j8 (x:=(oZ x).s none 0) λb2 h4 FE fI f4=> ?_⟩);have ma:=(f2.tt f4).get hb id;have F4:=f1.tt (f2.tt f4);have zb:=aI hb;have PT:=aI dw;have z1:=f1.1;have z2:=f2.1;have ne:b≠b2:=by omega
 have ne1:b1≠b2:=by omega
 refine⟨_,af ma rfl,aK.of λJ hJ=>aK.of λJ1 pA=> ?_⟩;have fin: ∀g p' c',aD.jx g b2 ((BI x).s p' c')->Row h p' (bc (BI x).Be)->Fr (λy=>y=b2) h4 g->J g:=by
  intro g p' c' hg hr fg;have Fg:Fr No h2 g:=f4.fresh fg (λy e=>by omega);have G:=(f1.tt f2).tt Fg;subst hJ;refine aD.jk hg (aD.mA (x:=(BI x).s p' c') (Fg.get dw id) λh6 d6 f6 _=>aD.jk d6 ?_);have G6:=G.fresh f6 (λy e=>by omega);exact hk h6 p' c' (hr.frame G6 (λ_ _=>id)) G6
 have Ly:Row h none (bc []):=Row.nil;have key: ∀v,(v=true↔x.kind=1\/x.kind=3)->J1 v h4:=by
  intro v hv;subst pA;dsimp only;refine aK.of λJ2 zX=> ?_
  by_cases k1:x.kind=1\/x.kind=3
  ·have eo:BI x= { oZ x with ep:=x.ep,uE:=x.uE } :=ag k1;rw[eo] at fin;rw[ag (hv.2 k1)];exact oz x.ep ma rfl rfl rfl rfl rfl ⟨_,af ma rfl,ahp fI λg1 e1 f5=>⟨kpo f5 ne (by simp),De (z:=({ oZ x with ep:=x.ep,uE:=x.uE } :Rq).s none 0) e1 (by decide) rfl λg2 e2 f6=>by subst zX;exact fin g2 none 0 e2 Ly (f5.tt f6)⟩⟩
  rw[ai (λe=>k1 (hv.1 e))];refine aK.of λJ3 SO=> ?_
  have Tm: ∀v,(v=true↔x.kind=2\/x.kind=6)->J3 v h4:=by
   intro v hv;subst SO;dsimp only;refine aK.of λJ4 Yw=> ?_
   by_cases k2:x.kind=2\/x.kind=6
   ·have eo:BI x= { oZ x with ep:=x.ep } :=(ai k1).trans (ag k2);rw[eo] at fin;rw[ag (hv.2 k2)];exact oz x.ep ma rfl rfl rfl rfl rfl (ahp fI λg1 e1 f5=>by subst Yw;subst zX;exact fin g1 none 0 e1 Ly f5)
   rw[ai (λe=>k2 (hv.1 e))];refine aK.of λJ5 hJ5=> ?_
   by_cases k4:x.kind=4
   ·have eo:BI x= { oZ x with ep:=x.ep,dest:=x.dest,Be:=x.Be,gI:=x.gI,on:=x.on } :=(ai k1).trans ((ai k2).trans (ag k4));rw[eo] at fin;rw[ag (bq.2 k4)];refine oz x.ep ma rfl rfl rfl rfl rfl (oz x.dest ma rfl rfl rfl rfl rfl ⟨_,_,_,af ma rfl,_,af ma rfl,_,af ma rfl,ahp fI λg1 e1 f5=>⟨kpo f5 ne (by simp),alz e1 λg2 e2 f6=>⟨kpo f6 ne (by simp),?_⟩⟩⟩);refine De (z:=({ oZ x with ep:=x.ep,dest:=x.dest,Be:=x.Be } :Rq).s p c) e2 (by decide) rfl λg3 e3 f7=>⟨kpo f7 ne (by simp),?_⟩
    refine De (z:=({ oZ x with ep:=x.ep,dest:=x.dest,Be:=x.Be,gI:=x.gI } :Rq).s p c) e3 (by decide) rfl λg4 e4 f8=>⟨kpo f8 ne (by simp),?_⟩
    refine De (z:=({ oZ x with ep:=x.ep,dest:=x.dest,Be:=x.Be,gI:=x.gI,on:=x.on } :Rq).s p c) e4 (by decide) rfl λg5 e5 f9=> ?_
    subst hJ5;subst Yw;subst zX;exact fin g5 p c e5 rx (f5.tt (f6.tt (f7.tt (f8.tt f9))))
   rw[ai (λe=>k4 (bq.1 e))];refine aK.of λJ6 hJ6=> ?_
   have VI: ∀v,(v=true↔x.kind=5\/x.kind=8\/x.kind=9)->J6 v h4:=by
    intro v hv;subst hJ6;dsimp only;refine aK.of λJ7 hJ7=> ?_
    by_cases k5:x.kind=5\/x.kind=8\/x.kind=9
    ·have eo:BI x= { oZ x with num:=x.num } :=(ai k1).trans ((ai k2).trans ((ai k4).trans (ag k5)));rw[eo] at fin;rw[ag (hv.2 k5)];exact⟨_,af ma rfl,De (z:=({ oZ x with num:=x.num } :Rq).s none 0) fI (by decide) rfl λg1 e1 f5=>by subst hJ7;subst hJ5;subst Yw;subst zX;exact fin g1 none 0 e1 Ly f5⟩
    rw[ai (λe=>k5 (hv.1 e))];refine aK.of λJ8 Yx=> ?_
    by_cases k7:x.kind=7
    ·have eo:BI x= { oZ x with ep:=x.ep,kq:=x.kq } :=(ai k1).trans ((ai k2).trans ((ai k4).trans ((ai k5).trans (ag k7))));rw[eo] at fin;rw[ag (bq.2 k7)];exact oz x.ep ma rfl rfl rfl rfl rfl ⟨_,af ma rfl,ahp fI λg1 e1 f5=>⟨kpo f5 ne (by simp),De (z:=({ oZ x with ep:=x.ep,kq:=x.kq } :Rq).s none 0) e1 (by decide) rfl λg2 e2 f6=>by subst Yx;subst hJ7;subst hJ5;subst Yw;subst zX;exact fin g2 none 0 e2 Ly (f5.tt f6)⟩⟩
    rw[ai (λe=>k7 (bq.1 e))];refine aK.of λJ9 hJ9=> ?_
    by_cases Na:x.kind=10
    ·have eo:BI x= { oZ x with on:=x.on } :=(ai k1).trans ((ai k2).trans ((ai k4).trans ((ai k5).trans ((ai k7).trans (ag Na)))));rw[eo] at fin;rw[ag (bq.2 Na)];exact⟨_,af ma rfl,De (z:=({ oZ x with on:=x.on } :Rq).s none 0) fI (by decide) rfl λg1 e1 f5=>by subst hJ9;subst Yx;subst hJ7;subst hJ5;subst Yw;subst zX;exact fin g1 none 0 e1 Ly f5⟩
    rw[ai (λe=>Na (bq.1 e))];refine aK.of λJ10 aoX=> ?_
    by_cases k12:x.kind=12
    ·have eo:BI x= { oZ x with token:=x.token } :=(ai k1).trans ((ai k2).trans ((ai k4).trans ((ai k5).trans ((ai k7).trans ((ai Na).trans (ag k12))))));rw[eo] at fin;rw[ag (bq.2 k12)];exact⟨_,af ma rfl,De (z:=({ oZ x with token:=x.token } :Rq).s none 0) fI (by decide) rfl λg1 e1 f5=>by subst aoX;subst hJ9;subst Yx;subst hJ7;subst hJ5;subst Yw;subst zX;exact fin g1 none 0 e1 Ly f5⟩
    rw[ai (λe=>k12 (bq.1 e))];have eo:BI x=oZ x:=(ai k1).trans ((ai k2).trans ((ai k4).trans ((ai k5).trans ((ai k7).trans ((ai Na).trans (ai k12))))));rw[eo] at fin;subst aoX;subst hJ9;subst Yx;subst hJ7;subst hJ5;subst Yw;subst zX;exact fin h4 none 0 fI Ly (Fr.refl _ _)
   by_cases k5:x.kind=5
   ·rw[ag (bq.2 k5)];exact VI _ ⟨λ_=> .inl k5,λ_=>bq.2 k5⟩
   rw[ai (λe=>k5 (bq.1 e))];refine aK.of λJ11 alA=> ?_
   subst alA;dsimp only;by_cases k8:x.kind=8
   ·rw[ag (bq.2 k8)];exact VI _ ⟨λ_=> .inr (.inl k8),λ_=>bq.2 k8⟩
   rw[ai (λe=>k8 (bq.1 e))];exact VI _ ⟨λe=> .inr (.inr (bq.1 e)),λe=>bq.2 ((e.resolve_left k5).resolve_left k8)⟩
  by_cases k2:x.kind=2
  ·rw[ag (bq.2 k2)];exact Tm _ ⟨λ_=> .inl k2,λ_=>bq.2 k2⟩
  rw[ai (λe=>k2 (bq.1 e))];exact Tm _ ⟨λe=> .inr (bq.1 e),λe=>bq.2 (e.resolve_left k2)⟩
 by_cases k1:x.kind=1
 ·rw[ag (bq.2 k1)];exact key _ ⟨λ_=> .inl k1,λ_=>bq.2 k1⟩
 rw[ai (λe=>k1 (bq.1 e))];exact key _ ⟨λe=> .inr (bq.1 e),λe=>bq.2 (e.resolve_left k1)⟩
theorem VJ (n k:Nat):decide ((n:Int)≥(k:Int))=decide (n≥k):=by by_cases e:n≥k<;>simp[e]<;>omega
theorem aeB (x:Rq) (hk: ∀h',Fr No h h'->R (.bool (tB x)) h'):Cl F.rj #[(x.s p c).agg] h R:=by
 refine rj.walk (aD.dH λb h1 eb hb f1=>⟨_,af hb rfl,aK.of λJ1 pA=> ?_⟩);have key: ∀v,(v=true↔x.kind=1\/x.kind=3)->J1 v h1:=by
  intro v hv;subst pA;dsimp only;by_cases k1:x.kind=1\/x.kind=3
  ·have eo:tB x=(tZ x.ep && decide (x.uE≥0) && decide (x.uE<=2)):=ag k1;rw[eo] at hk;rw[ag (hv.2 k1)];refine oz x.ep hb rfl rfl rfl rfl rfl (Aa x.ep λh3 f3=>⟨_,rfl,?_⟩);have kR:=f3.get hb id;have hk:=hk h3 (f1.tt f3);refine Hf (λc1=> ?_) (λc1=> ?_) (b:=tZ x.ep)
   ·rw[c1] at hk⊢;rw[ag rfl];refine⟨_,af kR rfl,?_⟩;refine Hf (λc2=> ?_) (λc2=> ?_) (b:=decide (x.uE≥0))
    ·rw[ag c2];rw[c2] at hk;exact⟨_,af kR rfl,hk⟩
    ·rw[ai (by rw[c2];decide)];rw[c2] at hk;exact hk
   ·rw[c1] at hk⊢;rw[dL];exact hk
  rw[ai (λe=>k1 (hv.1 e))];refine aK.of λJ2 zX=> ?_
  have Tm: ∀v,(v=true↔x.kind=2\/x.kind=6)->J2 v h1:=by
   intro v hv;subst zX;dsimp only;by_cases k2:x.kind=2\/x.kind=6
   ·have eo:tB x=tZ x.ep:=(ai k1).trans (ag k2);rw[eo] at hk;rw[ag (hv.2 k2)];exact oz x.ep hb rfl rfl rfl rfl rfl (Aa x.ep λh3 f3=>⟨_,rfl,hk h3 (f1.tt f3)⟩)
   rw[ai (λe=>k2 (hv.1 e))];by_cases k4:x.kind=4
   ·have eo:tB x=(tZ x.ep && tZ x.dest && decide (x.Be.length<=200) && decide (x.gI≥1) && decide (x.gI<=1099511627776)):=(ai k1).trans ((ai k2).trans (ag k4));rw[eo] at hk;rw[ag (bq.2 k4)];refine oz x.ep hb rfl rfl rfl rfl rfl (Aa x.ep λh3 f3=>⟨_,rfl,?_⟩);have kR:=f3.get hb id;refine Hf (λc1=> ?_) (λc1=> ?_) (b:=tZ x.ep)
    ·rw[c1] at hk⊢;rw[ag rfl];refine oz x.dest kR rfl rfl rfl rfl rfl (Aa x.dest λh4 f4=>⟨_,rfl,?_⟩);have ma:=f4.get kR id;have hk:=hk h4 (f1.tt (f3.tt f4));refine Hf (λc2=> ?_) (λc2=> ?_) (b:=tZ x.dest)
     ·rw[c2] at hk⊢;rw[ag rfl];refine⟨_,_,_,af ma rfl,?_⟩;have e3:decide (((x.s p c).Mc:Int)<=200)=decide (x.Be.length<=200):=Bn.vC x.Be.length 200;rw[e3];refine Hf (λc3=> ?_) (λc3=> ?_) (b:=decide (x.Be.length<=200))
      ·rw[c3] at hk⊢;rw[ag rfl];refine⟨_,af ma rfl,?_⟩;have e4:decide (((x.s p c).f16:Int)≥1)=decide (x.gI≥1):=VJ x.gI 1;rw[e4];refine Hf (λc4=> ?_) (λc4=> ?_) (b:=decide (x.gI≥1))
       ·rw[c4] at hk⊢;rw[ag rfl];refine⟨_,af ma rfl,?_⟩;have e5:decide (((x.s p c).f16:Int)<=1099511627776)=decide (x.gI<=1099511627776):=Bn.vC x.gI 1099511627776;rw[e5];exact hk
       ·rw[c4] at hk⊢;rw[dL];exact hk
      ·rw[c3] at hk⊢;rw[dL];exact hk
     ·rw[c2] at hk⊢;rw[dL];exact hk
    ·rw[c1] at hk⊢;rw[dL];exact hk h3 (f1.tt f3)
   rw[ai (λe=>k4 (bq.1 e))];refine aK.of λJ3 SO=> ?_
   have Mi:=hk;have hk:=hk h1 f1;have VI: ∀v,(v=true↔x.kind=5\/x.kind=8\/x.kind=9)->J3 v h1:=by
    intro v hv;subst SO;dsimp only;by_cases k5:x.kind=5\/x.kind=8\/x.kind=9
    ·have eo:tB x=(decide (x.num≥1) && decide (x.num<=1099511627776)):=(ai k1).trans ((ai k2).trans ((ai k4).trans (ag k5)));rw[eo] at hk;rw[ag (hv.2 k5)];refine⟨_,af hb rfl,?_⟩;refine Hf (λc2=> ?_) (λc2=> ?_) (b:=decide (x.num≥1))
     ·rw[ag c2];rw[c2] at hk;exact⟨_,af hb rfl,hk⟩
     ·rw[ai (by rw[c2];decide)];rw[c2] at hk;exact hk
    rw[ai (λe=>k5 (hv.1 e))];by_cases k7:x.kind=7
    ·have eo:tB x=(tZ x.ep && decide (x.kq≥1) && decide (x.kq<=1000)):=(ai k1).trans ((ai k2).trans ((ai k4).trans ((ai k5).trans (ag k7))));rw[eo] at Mi;rw[ag (bq.2 k7)];refine oz x.ep hb rfl rfl rfl rfl rfl (Aa x.ep λh3 f3=>⟨_,rfl,?_⟩);have kR:=f3.get hb id;have hk:=Mi h3 (f1.tt f3);refine Hf (λc1=> ?_) (λc1=> ?_) (b:=tZ x.ep)
     ·rw[c1] at hk⊢;rw[ag rfl];refine⟨_,af kR rfl,?_⟩;refine Hf (λc2=> ?_) (λc2=> ?_) (b:=decide (x.kq≥1))
      ·rw[ag c2];rw[c2] at hk;exact⟨_,af kR rfl,hk⟩
      ·rw[ai (by rw[c2];decide)];rw[c2] at hk;exact hk
     ·rw[c1] at hk⊢;rw[dL];exact hk
    rw[ai (λe=>k7 (bq.1 e))];by_cases k12:x.kind=12
    ·have eo:tB x=(decide (x.token≥1) && decide (x.token<=2147483648)):=(ai k1).trans ((ai k2).trans ((ai k4).trans ((ai k5).trans ((ai k7).trans (ag k12)))));rw[eo] at hk;rw[ag (bq.2 k12)];refine⟨_,af hb rfl,?_⟩;have e4:decide (((x.s p c).f17:Int)≥1)=decide (x.token≥1):=VJ x.token 1;rw[e4];refine Hf (λc4=> ?_) (λc4=> ?_) (b:=decide (x.token≥1))
     ·rw[c4] at hk⊢;rw[ag rfl];refine⟨_,af hb rfl,?_⟩;have e5:decide (((x.s p c).f17:Int)<=2147483648)=decide (x.token<=2147483648):=Bn.vC x.token 2147483648;rw[e5];exact hk
     ·rw[c4] at hk⊢;rw[dL];exact hk
    rw[ai (λe=>k12 (bq.1 e))];have eo:tB x=decide (x.kind=10\/x.kind=11):=(ai k1).trans ((ai k2).trans ((ai k4).trans ((ai k5).trans ((ai k7).trans (ai k12)))));rw[eo] at hk;refine⟨_,af hb rfl,?_⟩;by_cases Na:x.kind=10
    ·rw[ag (bq.2 Na)];rw[ay (.inl Na)] at hk;exact hk
    ·rw[ai (λe=>Na (bq.1 e))];refine⟨_,af hb rfl,?_⟩;have e5:decide (x.kind=10\/x.kind=11)=(x.kind==11):=by by_cases k11:x.kind=11<;>simp[Na,k11]
     rw[e5] at hk;exact hk
   by_cases k5:x.kind=5
   ·rw[ag (bq.2 k5)];exact VI _ ⟨λ_=> .inl k5,λ_=>bq.2 k5⟩
   rw[ai (λe=>k5 (bq.1 e))];refine aK.of λJ11 alA=> ?_
   subst alA;dsimp only;by_cases k8:x.kind=8
   ·rw[ag (bq.2 k8)];exact VI _ ⟨λ_=> .inr (.inl k8),λ_=>bq.2 k8⟩
   rw[ai (λe=>k8 (bq.1 e))];exact VI _ ⟨λe=> .inr (.inr (bq.1 e)),λe=>bq.2 ((e.resolve_left k5).resolve_left k8)⟩
  by_cases k2:x.kind=2
  ·rw[ag (bq.2 k2)];exact Tm _ ⟨λ_=> .inl k2,λ_=>bq.2 k2⟩
  rw[ai (λe=>k2 (bq.1 e))];exact Tm _ ⟨λe=> .inr (bq.1 e),λe=>bq.2 (e.resolve_left k2)⟩
 by_cases k1:x.kind=1
 ·rw[ag (bq.2 k1)];exact key _ ⟨λ_=> .inl k1,λ_=>bq.2 k1⟩
 rw[ai (λe=>k1 (bq.1 e))];exact key _ ⟨λe=> .inr (bq.1 e),λe=>bq.2 (e.resolve_left k1)⟩
theorem ic (x:Rq) (rx:Row h p (bc x.Be)) (hk: ∀h',Fr No h h'->R (.bool (pC x)) h'):Cl F.pj #[(x.s p c).agg] h R:=by
 refine pj.walk (aD.dH λb h1 eb hb f1=>⟨_,af hb rfl,?_⟩);unfold pC at hk;have e4:decide (((x.s p c).f0:Int)≥1)=decide (x.id≥1):=VJ x.id 1;have e5:decide (((x.s p c).f0:Int)<=1099511627776)=decide (x.id<=1099511627776):=Bn.vC x.id 1099511627776;rw[e4];refine Hf (λc1=> ?_) (λc1=> ?_) (b:=decide (x.id≥1))
 case refine_2=>rw[c1] at hk⊢;rw[dL];exact hk h1 f1
 rw[c1] at hk⊢;rw[ag rfl];refine⟨_,af hb rfl,?_⟩;rw[e5];refine Hf (λc2=> ?_) (λc2=> ?_) (b:=decide (x.id<=1099511627776))
 case refine_2=>rw[c2] at hk⊢;rw[dL];exact hk h1 f1
 rw[c2] at hk⊢;rw[ag rfl];refine aD.jk (x:=x.s p c) hb (aeB x λh2 f2=>⟨_,rfl,f2.kp,?_⟩);refine Hf (λc3=> ?_) (λc3=> ?_) (b:=tB x)
 case refine_2=>rw[c3] at hk⊢;rw[dL];exact hk h2 (f1.tt f2)
 rw[c3] at hk⊢;rw[ag rfl];have fI:=f2.get hb _root_.id;have F2:=f1.tt f2;refine aD.jk (x:=x.s p c) fI (aD.jk (x:=x.s p c) fI (Vy x (rx.frame F2 (λ_ _=>_root_.id)) λh3 p' c' r3 f3=>aD.ex ((BI x).s p' c') ⟨rfl,f3.kp,?_⟩));refine aeA x (BI x) (rx.frame (F2.tt f3) (λ_ _=>_root_.id)) r3 λh4 f4=>⟨_,rfl,f4.kp,?_⟩
 exact hk h4 (F2.tt (f3.tt f4))
end Ask
end
end Go.Proofs.YtlenamcfacpheaaGreatDoor
namespace Go.Den
section
variable {h:aj}
def idxOf {α:Type} (P:α->Bool) (xs:List α):Int:=match xs.findIdx? P with|some k=>(k:Int)|none=> -1
theorem Tn {α:Type} (P:α->Bool) {xs:List α} {n:Nat} {R:iI} (B:Int->aj->(Bool->aj->Prop)->Prop) (hn:n=xs.length) (hl:xs.length<=1000000000)
  (hb: ∀(k:Nat) g x K,xs[k]? =some x->Fr No h g->(∀g',Fr No h g'->K (P x) g')->B (k:Int) g K)
  (hk: ∀g,Fr No h g->R (.I (idxOf P xs)) g):
  ∃(I:Int->aj->Prop) (mu:Int->aj->Nat),I 0 h/\∀(t:Int) (g:aj),I t g->if(decide (t<(n:Int)))=true then B t g (λq g2=>if q=true then R (.I t) g2 else(I (IntKind.wrap .i64 (t+1)) g2/\mu (IntKind.wrap .i64 (t+1)) g2<mu t g)) else R (.I (-1)) g:=by
 subst hn;refine⟨λi g=>Fr No h g/\∃k:Nat,i=(k:Int)/\k<=xs.length/\∀j (hj:j<xs.length),j<k->¬P xs[j]=true,λi _=>xs.length - i.toNat,⟨Fr.refl _ _,0,rfl,by omega,λj _ hj=>by omega⟩,?_⟩;rintro _ g ⟨f,k,rfl,hkn,kz⟩;by_cases jc:k<xs.length
 ·rw[jy];refine hb k g xs[k] _ (au jc) f λg' f'=> ?_
  by_cases e:P xs[k]=true
  ·rw[ag e];have:idxOf P xs=(k:Int):=by
    unfold idxOf;rw[show xs.findIdx? P=some k from cO.2 ⟨jc,e,λj hj=>kz j (by omega) hj⟩]
   rw[this] at hk;exact hk g' f'
  ·rw[ai e,bK (by omega) (by omega)];refine⟨⟨f',k+1,by omega,by omega,λj hj hjk=> ?_⟩,by show xs.length - Int.toNat ((k:Int)+1)<xs.length - Int.toNat (k:Int);omega⟩;by_cases q:j=k
   ·subst q;exact e
   ·exact kz j hj (by omega)
 ·rw[ai (λq=>jc (by have:=of_decide_eq_true q;omega))];have:idxOf P xs= -1:=by
   unfold idxOf;rw[show xs.findIdx? P=none from dK.2 λx hx=> ?_];obtain⟨j,hj,rfl⟩:=List.getElem_of_mem hx;exact Bool.not_eq_true _▸kz j hj (by omega)
  rw[this] at hk;exact hk g f
end
end Go.Den
namespace Go.Proofs.YtlenamcfacpheaaGreatDoor
open Go.Den
open IntKind (wrap)
open Int (toNat)
section
namespace gJ
open lH (It IV jJ mz)
open qI (Ev dj uG)
variable {h h':aj} {R:iI} {s k:Nat} {X:Ft} {I:GW} {σ:SS} {p:bU}
theorem Pt.aoY {n o:Int} {x:It} (H:Pt h s X I σ) (ok:DZ σ.Q) (hf:yz σ.Q x.owner x.d.length=true) (hn:n=(x.d.length:Int)) (ho:o=x.owner)
  (hk: ∀h' X',Pt h' s X' I { σ with Q:=σ.Q++ [x] } ->bM X h X' h'->R (.I 0) h'):Cl F.lX #[pt I.p,.I o,.I n] h R:=by
 subst ho;subst hn;obtain⟨Z,⟨m,P,on⟩,zm,zd,go⟩:=H.use 4;refine vM.afL P ok _ _ (λ_ h' P' f'=> ?_) (λe=>by unfold yz at hf;rw[hf] at e;cases e);rw[WB,show Hn σ.Q+(x.d.length:Int)=Hn (x::σ.Q) by rw[qt];omega] at P';obtain⟨X',H',st,_,_⟩:=go h' Z { σ with Q:=σ.Q++ [x] } ⟨m,Pu.perm P' (fx _ _).symm,on⟩ (bM.E0 (f'.mono λy _ hy=>(on y).1.2 hy)) (λi hi=>Ve _ hi);exact hk h' X' H' st
theorem GI {owner n:Int} {bs:List UInt8} {l c:Nat} (cF:Nat) (hn:n=(cF:Int)) (H:Pt h s X I σ) (G:Good σ k) (hk8:k<=30000) (hr:Row h p (bc bs)) (hl:l=bs.length) (hb:bs.length<=1000000)
  (hk: ∀h' X',Pt h' s X' I (zU σ owner bs cF)->bM X h X' h'->R (.tuple #[.I (Vm σ owner bs cF),.I (IT σ owner bs cF)]) h'):
  Cl F.oW #[pt s,.I owner,.slice p l c,.U n] h R:=by
 subst hn;subst hl;refine oW.walk (ji H.dE ⟨_,rfl,?_⟩);rw[dL];obtain⟨Z,hz⟩:=H.box;refine aK.of λJ hJ=>⟨_,af H.dE rfl,lH.PL hz λh2 p2 l2 c2 L2 f2=>⟨_,_,_,rfl,?_⟩⟩
 have ln:=L2.len;have H2:=H.on f2;have no:σ.B.items.length≥16\/yz σ.Q owner bs.length=false->∀g,Fr No h g->R (.tuple #[.I 0,.I 15]) g:=λc g f=>by
  have e1:IT σ owner bs cF=15:=ag c;have e2:Vm σ owner bs cF=0:=ag c;have e3:zU σ owner bs cF=σ:=ai (by rw[e1];decide);rw[e1,e2,e3] at hk;exact hk g X (H.on f) (bM.nI f)
 by_cases vY:σ.B.items.length≥16
 ·rw[jy];subst hJ;dsimp only;rw[ag rfl];exact no (.inl vY) h2 f2
 rw[ai (λe=>vY (by have:=of_decide_eq_true e;omega))];obtain⟨Z4,⟨m4,P4,on4⟩,_⟩:=H2.use 4;refine⟨_,af H2.dE rfl,vM.afM P4 G.ok owner _ ⟨_,rfl,?_⟩⟩;subst hJ;dsimp only;cases hf:yz σ.Q owner bs.length with
 |false=>
  rw[ag (show(!yz σ.Q owner bs.length)=true by rw[hf];rfl)];exact no (.inr hf) h2 f2
 |true=>
  rw[ai (show¬(!yz σ.Q owner bs.length)=true by rw[hf];decide)];have Gv: ¬(σ.B.items.length≥16\/yz σ.Q owner bs.length=false):=λc=>c.elim vY (λe=>by rw[hf] at e;cases e)
  have eE:IT σ owner bs cF=lH.ou σ.B owner bs cF:=ai Gv;have eN:Vm σ owner bs cF=lH.Ml σ.B owner bs cF:=ai Gv;obtain⟨Z,hz,zm,zd,go⟩:=H2.use 3;refine⟨_,af H2.dE rfl,lH.KQ cF rfl hz (hr.frame f2 (λ_ _=>id)) rfl hb (by have:=G.b;omega) λh3 Z3 B3 s3=>⟨_,_,rfl,?_⟩⟩;obtain⟨X3,H3,Gj,_,_⟩:=go h3 Z3 { σ with B:=lH.R6 σ.B owner bs cF } B3 s3 (λi hi=>Vd _ hi);have st:=bM.no f2 Gj;refine aK.of λJ2 zX=> ?_
  rw[eE,eN] at hk;unfold zU at hk;rw[eE] at hk;by_cases he:lH.ou σ.B owner bs cF=0
  ·rw[ag he] at hk;rw[ag (by rw[he];rfl)];refine⟨_,af H3.dE rfl,H3.aoY (x:=⟨σ.B.next,owner,bs,cF⟩) G.ok hf rfl rfl λh4 X4 H4 Vg=>⟨_,rfl,?_⟩⟩;subst zX;refine hk h4 X4 ?_ (st.trans Vg);have e:lH.R6 σ.B owner bs cF= { σ.B with items:=σ.B.items++ [⟨σ.B.next,owner,bs,cF⟩],next:=σ.B.next+1 } :=ag he;rw[e] at H4⊢;have H4:Pt h4 s X4 I { σ with B:= { σ.B with items:=σ.B.items++ [⟨σ.B.next,owner,bs,cF⟩],next:=σ.B.next+1 },Q:=σ.Q++ [⟨σ.B.next,owner,bs,cF⟩] } :=H4;rw[G.q] at H4;exact H4
  ·rw[ai he] at hk;rw[ai (by simpa using he)];subst zX;refine hk h3 X3 ?_ st;have e:lH.R6 σ.B owner bs cF=σ.B:=ai he;rw[e] at H3;exact H3
theorem VK {b:Nat} {num:Int} (x:IV) (hid:lH.KC h b num) (hk: ∀h',Fr No h h'->R (.bool (decide ((x.num:Int)=num))) h'):Cl F.gw #[x.agg,.P b 0] h R:=by
 refine gw.walk (aM.box λb1 h1 eb hb f1=>⟨_,af hb rfl,_,af (f1.get hid id) rfl,?_⟩);rw[show((x.num:Int)==num)=decide ((x.num:Int)=num) by by_cases q:(x.num:Int)=num<;>simp[q]];exact hk h1 f1
theorem aa9 (xs:List IV) (num:Int):idxOf (λx:IV=>decide ((x.num:Int)=num)) xs=lH.CL (xs.map IV.abs) num:=by
 unfold idxOf lH.CL lH.IG;rw[List.findIdx?_map];rfl
theorem CM {xs:List IV} {n m b:Nat} {num:Int} (hr:Row h p (xs.flatMap jJ)) (hn:n=xs.length) (hl:xs.length<=1000000000) (hid:lH.KC h b num) (hk: ∀h',Fr No h h'->R (.I (lH.CL (xs.map IV.abs) num)) h'):
  Cl F.cv #[.slice p n m,.func (.func F.gw) #[] #[.P b 0]] h R:=by
 refine cv.cancel.walk (Tn (λx:IV=>decide ((x.num:Int)=num)) (λt g K=>((0:Int)<=t/\t<(n:Int))/\aP p λa=>aM.LD g (a.add (Int.toNat t*4)) λt0 t1 t2 t3 t4 t5=>
  Cl F.gw #[.agg #[.I t0,.I t1,.slice t2 t3 t4,.U t5],.P b 0] g λv g2=> ∃q,v=.bool q/\K q g2) hn hl (λk g x K hx f hK=> ?_) (λg f=>by rw[aa9];exact hk g f))
 have lt:=(aG.1 hx).1;have pJ:=hr.frame f (λ_ _=>id);obtain⟨a,rfl⟩:=pJ.some (λe=>by have:=bp List.length e;rw[gW jJ 4 mz,bC] at this;omega);exact⟨⟨by omega,by omega⟩,aB.2 (aM.TM (by rw[aL];exact pJ.lj mz hx) (VK x (f.get hid id) λh2 f2=>⟨_,rfl,hK h2 (f.tt f2)⟩))⟩
theorem KE {l:List It} {i:Nat} {x:It} (hp:(l.map It.num).Pairwise (· < ·)) (hx:l[i]? =some x):l.Perm (x::lH.CN l (x.num:Int)):=by
 rw[<-lH.CO hp hx];unfold lH.Mj;obtain⟨h1,h2⟩:=aG.1 hx;have e:l=l.take i++x::l.drop (i+1):=by rw[<-h2,<-da h1,List.take_append_drop]
 exact(List.Perm.of_eq e).trans List.perm_middle
theorem GQ {num owner:Int} (H:Pt h s X I σ) (G:Good σ k) (hk8:k<=30000)
  (hk: ∀h' X',Pt h' s X' I (NJ σ num owner)->bM X h X' h'->R (.I (lH.yw σ.B num owner)) h'):Cl F.mi #[pt s,.I num,.I owner] h R:=by
 refine mi.walk (cX ?_);have f1:Fr No h (h.push (.cells #[.I num] T.int)):=Fr.push _ _;have dw:lH.KC (h.push (.cells #[.I num] T.int)) h.size num:=cz;generalize h.push (.cells #[.I num] T.int)=h1 at f1 dw⊢;have H1:=H.on f1;obtain⟨Z0,Ww⟩:=H1.box;obtain⟨L,ok⟩:=H.okB;refine ji H1.dE ⟨_,rfl,?_⟩;rw[dL];refine⟨_,af H1.dE rfl,lH.PL Ww λh2 p2 l2 c2 L2 f2=>⟨_,_,_,rfl,?_⟩⟩;have H2:=H1.on f2;have fI:=f2.get dw id;obtain⟨xs,D,rfl,ox,ax,hxd,hD,hpx⟩:=L2;obtain⟨Z,hz,zm,zd,go⟩:=H2.use 3;refine⟨_,af H2.dE rfl,_,af fI rfl,lH.GQ hz (by have:=G.b;omega) λh3 Z3 B3 s3=>⟨_,rfl,?_⟩⟩;obtain⟨X3,H3,Gj,_,_⟩:=go h3 Z3 { σ with B:=lH.xp σ.B num owner } B3 s3 (λi hi=>Vd _ hi);have z1:=f1.1;have z2:=f2.1;have zl: ∀y,Z.M y->y<h.size:=λy hy=>H.lt y (.inl (zm y hy))
 have ln:xs.length=σ.B.items.length:=by rw[<-ax,aN]
 have kR:lH.KC h3 h.size num:=s3.fr.get fI (λhm=>by have:=zl _ hm;omega);have o3:=ox.frame s3.fr (λy hy hm=>by have:=zl y hm;have:=hpx y hy;omega);have le:=ok.le;refine CM o3.pZ rfl (by omega) kR λh4 f4=> ?_
 have st:=bM.no (f1.tt f2) (Gj.on f4);have H4:=H3.on f4;have o4:=o3.frame f4 (λ_ _=>id);rw[ax];refine⟨_,rfl,aK.of λJ hJ=> ?_⟩;cases EF:lH.IG σ.B.items num with
 |none=>
  have e:lH.yw σ.B num owner=4:=by unfold lH.yw;rw[EF]
  have es:lH.xp σ.B num owner=σ.B:=ai (by rw[e];decide);unfold NJ at hk;rw[e,es,<-G.q] at hk;rw[e] at hJ⊢;rw[dL];subst hJ;refine aK.of λJ1 pA=> ?_
  rw[dL];subst pA;rw[es] at H4;exact hk h4 X3 H4 st
 |some i=>
  obtain⟨x,hx,IK⟩:=lH.KF EF;have ev:lH.CL σ.B.items num=(i:Int):=by unfold lH.CL;rw[EF]
  rw[ev] at hJ⊢;have e:lH.yw σ.B num owner=if x.owner=owner then 0 else 13:=by unfold lH.yw;rw[EF];dsimp only;rw[hx]
  by_cases ho:x.owner=owner
  ·rw[ag ho] at e;have es:lH.xp σ.B num owner= { σ.B with items:=lH.CN σ.B.items num,EE:=σ.B.EE+1 } :=ag e;unfold NJ at hk;rw[e] at hk;rw[e] at hJ⊢;rw[jy,ay (by omega)];subst hJ;refine aK.of λJ1 pA=> ?_
   rw[ag rfl];have hi:=(aG.1 hx).1;have hv:xs[i]? =some xs[i]:=au (by omega);have hva:xs[i].abs=x:=by
    rw[<-ax,aO,hv] at hx;exact bz hx
   obtain⟨pb,po,rfl⟩:=o4.addr (by omega);have hh:=o4.lj mz hv;have c2: ∀g,fE (((AA pb po):Addr).add (i*4)) (jJ xs[i]) 0 g->ak g ((((AA pb po):Addr).add (Int.toNat (i:Int)*4)).add 2)=some xs[i].v.val:=λg hg=>by
    rw[aL];exact hg.2.2.1
   refine⟨_,af H4.dE rfl,⟨by omega,by omega⟩,aB.2 ⟨_,_,_,c2 _ hh,?_⟩⟩;have vl:xs[i].v.b=x.d:=by rw[<-hva];rfl
   rw[vl];refine H4.an9 (x:=x) (l:=lH.CN σ.B.items num) (by show σ.Q.Perm _;rw[G.q,<-IK];exact KE ok.inc hx) (show DZ σ.Q from G.ok) (adL ok (bt hx)) rfl ho.symm λh5 X5 H5 Wc=>⟨_,rfl,?_,?_⟩
   ·have o5:=o4.frame Wc.fr (λy hy hm=>by
     rcases Gj.re y hm with a|a
     ·have:=H.lt y (.inl a);have:=hpx y hy;omega
     ·have:=ox.gm hy;omega)
    rw[<-vl];exact c2 _ (o5.lj mz hv)
   ·subst pA;refine hk h5 X5 ?_ (st.trans Wc);rw[es] at H5⊢;exact H5
  ·rw[ai ho] at e;have es:lH.xp σ.B num owner=σ.B:=ai (by rw[e];decide);unfold NJ at hk;rw[e,es,<-G.q] at hk;rw[e] at hJ⊢;rw[dL];subst hJ;refine aK.of λJ1 pA=> ?_
   rw[dL];subst pA;rw[es] at H4;exact hk h4 X3 H4 st
end gJ
end
section
variable {h:aj} {R:iI}
theorem fR.walk {oB:bU} {mF qJ:Nat} (hv:if oB.isNone then R (.Z) h else aV h (.cells #[] T.aa) λb aR=>aX Tryz.prog (Builtin.append_ #[T.cE,T.cE] T.cE #[.slice (some (AA b 0)) 0 0,.slice oB mF qJ]) aR λv aZ=> ∃Ey Ez EA,v=.slice Ey Ez EA/\R (.slice Ey Ez EA) aZ):Cl F.fR #[.slice oB mF qJ] h R:=aS (lq (sq (lq (cq ll lf)) ll)) Tryz.func295 hv
theorem dZ.wrg.walk {oB:bU} {mF qJ:Nat} (hv:Cl F.gx #[.slice oB mF qJ,.func (.func F.jF) #[] #[]] h λv aR=> ∃t7,v=.I t7/\R (.bool (decide (t7≥0))) aR):Cl F.dZ #[.slice oB mF qJ,.func (.func F.jF) #[] #[]] h R:=aS (lq ll) Tryz.func258 hv
theorem gx.wrg.walk {oB:bU} {mF qJ:Nat} (hv: ∃(I:Int->aj->Prop) (mu:Int->aj->Nat),I 0 h/\∀(t8:Int) (aR:aj),I t8 aR->if(decide (t8<(mF:Int))) then Bd t8 mF/\aP oB λa=>aa.df aR (a.add (toNat t8*4)) λt15=>Cl F.jF #[t15.agg] aR λv aZ=> ∃t16,v=.bool t16/\if t16 then R (.I t8) aZ else(I (wrap .i64 (t8+1)) aZ/\mu (wrap .i64 (t8+1)) aZ<mu t8 aR) else R (.I (-1)) aR):Cl F.gx #[.slice oB mF qJ,.func (.func F.jF) #[] #[]] h R:=aS (lq (sq (lq (bq (.loop [(8,.one (.int .i64))] (lq (sq (cq lf lf) (sq (bq (lq (lq (cq ll lf)))) lf)))))) ll)) Tryz.func294 hv
theorem gS.within.walk {oB:bU} {mF qJ:Nat} (hv:Cl F.iu #[.slice oB mF qJ,.func (.func F.km) #[] #[]] h λv aR=> ∃t7,v=.I t7/\R (.bool (decide (t7≥0))) aR):Cl F.gS #[.slice oB mF qJ,.func (.func F.km) #[] #[]] h R:=aS (lq ll) Tryz.func250 hv
theorem iu.within.walk {oB:bU} {mF qJ:Nat} (hv: ∃(I:Int->aj->Prop) (mu:Int->aj->Nat),I 0 h/\∀(t8:Int) (aR:aj),I t8 aR->if(decide (t8<(mF:Int))) then Bd t8 mF/\aP oB λa=>JL aR (a.add (toNat t8*1)) λt15=>Cl F.km #[.U t15] aR λv aZ=> ∃t16,v=.bool t16/\if t16 then R (.I t8) aZ else(I (wrap .i64 (t8+1)) aZ/\mu (wrap .i64 (t8+1)) aZ<mu t8 aR) else R (.I (-1)) aR):Cl F.iu #[.slice oB mF qJ,.func (.func F.km) #[] #[]] h R:=aS (lq (sq (lq (bq (.loop [(8,.one (.int .i64))] (lq (sq (cq lf lf) (sq (bq (lq (lq (cq ll lf)))) lf)))))) ll)) Tryz.func292 hv
end
section
namespace Bn
open Cb
open qI (Ev dj uG)
variable {V:List UInt8→Bool} {h h0 h' g0 g:aj} {R:iI} {D:Nat→Prop}
theorem aeC (ys:List CV): ∀v∈ys.flatMap mJ,jg v=true:=λv hv=>by
 obtain⟨a,_,ha⟩:=List.mem_flatMap.1 hv;exact zW a v ha
theorem aba {ys:List CV} {p:bU} {n m:Nat} (hr:Row h p (ys.flatMap mJ)) (hn:n=ys.length) (hl:ys.length<=1000000)
  (hk: ∀p' c' h',iR h' p' ys.length c' 4 (ys.flatMap mJ)->Fr No h h'->(∀x,aQ p' x->h.size<=x)->R (.slice p' ys.length c') h'):Cl F.fR #[.slice p n m] h R:=by
 subst hn;refine fR.walk ?_;cases p with
 |none=>
  have:ys= []:=by
   rcases hr with hr|⟨a,e,_⟩
   ·cases ys with
    |nil=>rfl
    |cons b bs=>cases hr
   ·cases e
  subst this;exact hk none 0 h (.nil rfl rfl rfl rfl) (Fr.refl _ _) (λx ⟨a,e,_⟩=>by cases e)
 |some a=>
  simp only[Option.isNone_some,aA,aU];exact Gz tI uI hr (gW mJ 4 jR ys) (aeC ys) (by omega) (by omega) λp' c' h' o f g=>⟨_,_,_,rfl,hk p' c' h' o f g⟩
structure Lc (g0 g:aj) (bb:Nat) (k n:Int) (v:BV) (ts:List Tr) (ys:List CV) (q:bU) (cl:Nat):Prop where
 dE:aa.at g bb k n v.p v.b.length v.c q ys.length cl
 own:iR g q ys.length cl 4 (ys.flatMap mJ)
 ge: ∀y,aQ q y->g0.size<=y/\y≠bb
 tr:dG g (λy=>(g0.size<=y/\y≠bb)/\¬aQ q y) ts ys
 fr:Fr (λy=>y=bb) g0 g
theorem Lc.on {bb:Nat} {k n:Int} {v:BV} {ts:List Tr} {ys:List CV} {q:bU} {cl:Nat} (L:Lc g0 g bb k n v ts ys q cl) (f:Fr No g h'):Lc g0 h' bb k n v ts ys q cl:=
 ⟨f.get L.dE id,L.own.frame f (λ_ _=>id),L.ge,L.tr.on f,L.fr.on f⟩
theorem aeD {bb:Nat} {t:Tr} {z:CV} (tz:Ee g (λy=>g0.size<=y/\y≠bb) t z) (hb:aa.jx g bb z.s) (f:Fr (λy=>y=bb) g0 g): ∃ys,ys.length=z.ll/\Lc g0 g bb z.k z.n z.v t.l ys z.q z.cl:=by
 obtain⟨h1,ys,h2,h3,h4,h5⟩:=tz;refine⟨ys,h2.symm,?_,h3,h4,h5,f⟩;rw[<-h2];exact hb
theorem aeE {bb k':Nat} {k:Int} {v:BV} {ts:List Tr} {ys:List CV} {q:bU} {cl:Nat} (L:Lc g0 g bb k (k':Int) v ts ys q cl) (ok:v.ok g (λy=>g0.size<=y/\y≠bb)):Ee g (λy=>g0.size<=y/\y≠bb) (.mk k k' v.b ts) ⟨k,k',v,q,ys.length,cl⟩:=
 ⟨⟨rfl,rfl,rfl,ok⟩,ys,rfl,L.own,L.ge,L.tr⟩
theorem arj {bb:Nat} {k n:Int} {v:BV} {ts:List Tr} {ys:List CV} {q:bU} {cl:Nat} {t:Tr} {z:CV} {Φ:aj->Prop} (L:Lc g0 g bb k n v ts ys q cl) (ll:ys.length<=1000000) (tz:kT g (λy=>(g0.size<=y/\y≠bb)/\¬aQ q y) t z)
  (hk: ∀g' QQ q' DN,Lc g0 g' bb k n v (ts++ [t]) QQ q' DN->QQ.length=ys.length+1->g.size<=g'.size->(∀x,x≠bb->¬aQ q x->x<g.size->g'[x]? =g[x]?)->Φ g'):
  aV g (.cells z.s.arr T.aa) λeY cW=>aX Tryz.prog (Builtin.append_ #[T.cE,T.cE] T.cE #[.slice q ys.length cl,.slice (some (AA eY 0)) 1 1]) cW λgR dA=>
   ∃qq pd rM,gR=.slice qq pd rM/\aH dA (AA bb 3) (.slice qq pd rM) λfc=>Φ fc:=by
 refine aa.dH λb2 h7 FE fI f7=> ?_
 have z7:=f7.1;have zg:=L.fr.1;have zb2:=aI fI;have zbb:=aI L.dE;have nq: ∀y,aQ q y->y<g.size:=λy hy=>L.own.gm hy
 refine fQ tI uI (L.own.frame f7 (λ_ _=>id)) (ds:=mJ z) (.inr ⟨_,rfl,aa.Lq (x:=z.s) fI⟩) rfl (zW z) (by omega) (by omega) λq' DN yi o11 _ f11 g11=>⟨_,_,_,rfl,?_⟩
 have b11:=f11.get (f7.get L.dE id) (λhy=>(L.ge _ hy).2 rfl);refine bL b11 (by show 3<4;omega) λmE d1 d2 d3=> ?_
 have f12:Fr (λy=>y=bb) yi mE:=Fr.of_eq d2 (λc hc=>d3 c hc);have nq': ∀y,aQ q' y->g0.size<=y/\y≠bb:=λy hy=>by
  rcases g11 y hy with a|a
  ·exact L.ge y a
  ·omega
 have ef:ys.flatMap mJ++mJ z=(ys++ [z]).flatMap mJ:=by rw[dI];simp
 refine hk mE (ys++ [z]) q' DN ⟨?_,?_,nq',?_,?_⟩ (by simp) ?_ ?_
 ·rw[aF];exact d1
 ·rw[aF,<-ef];exact o11.frame f12 (λy hy e=>by have:=nq' y hy;omega)
 ·have t1:=((L.tr.snoc tz).lt.on f7).frame f11 (λy hy AU=>hy.1.2 AU);have m1:=dG.mono (D':=λy=>(g0.size<=y/\y≠bb)/\¬aQ q' y) (λy hy=>⟨hy.1.1,λAU=>by
   rcases g11 y AU with a|a
   ·exact hy.1.2 a
   ·have:=hy.2;omega⟩) t1
  exact dG.frame f12 (λy hy e=>by omega) m1
 ·exact((L.fr.on f7).trans f11 (S'':=λy=>y=bb) (λ_ _=>id) (λx hx hy=>by have:=L.ge x hy;omega)).trans f12 (λ_ _=>id) (λ_ _=>id)
 ·have:=f11.1;omega
 ·intro x hx hq hl;rw[d3 x hx,f11.2 x (by omega) hq,f7.2 x hl id]
theorem aeF {bb:Nat} {k n:Int} {v:BV} {ts:List Tr} {ys:List CV} {q:bU} {cl:Nat} {t:Tr} {z:CV} {Φ:aj->Prop} {kl:List (bU)} (L:Lc g0 g bb k n v ts ys q cl) (ll:ys.length<=1000000) (tz:kT g (λy=>(g0.size<=y/\y≠bb)/\¬aQ q y) t z)
  (hk: ∀g' QQ q' DN,Lc g0 g' bb k n v (ts++ [t]) QQ q' DN->QQ.length=ys.length+1->g.size<=g'.size->(∀x,x≠bb->¬aQ q x->x<g.size->g'[x]? =g[x]?)->Φ g'):
  aV g (.cells z.s.arr T.aa) λeY cW=>Kp g cW kl/\aX Tryz.prog (Builtin.append_ #[T.cE,T.cE] T.cE #[.slice q ys.length cl,.slice (some (AA eY 0)) 1 1]) cW λgR dA=>
   ∃qq pd rM,gR=.slice qq pd rM/\aH dA (AA bb 3) (.slice qq pd rM) λfc=>Φ fc:=by
 intro b h7 eb eh;refine⟨?_,arj L ll tz hk b h7 eb eh⟩;subst eh;exact(Fr.push _ _).kp
theorem aeG {ts:List Tr} {ys:List CV} {q:bU} {l c:Nat} (U:xP V h0) (u:Fr No h0 h) (L:xD h D q l c ys) (TS:dG h D ts ys) (hr:dY ts<=1000000)
  (hk: ∀h',Fr No h h'->R (.bool (!ts.all (lu V))) h'):Cl F.dZ #[.slice q l c,.func (.func F.jF) #[] #[]] h R:=by
 have ln:=TS.len;have el:=L.len;have l9:=kM ts;refine dZ.wrg.walk (gx.wrg.walk ?_);refine⟨λt g=> ∃i:Nat,t=(i:Int)/\i<=ts.length/\Fr No h g/\(ts.take i).all (lu V)=true,λt _=>ts.length - t.toNat,⟨0,rfl,cj _,Fr.refl _ _,by rw[fM];rfl⟩,?_⟩;rintro _ g ⟨i,rfl,hi,fg,ha⟩;by_cases nQ:i<ts.length
 ·rw[jy];obtain⟨a,y,ea,hh,ty,hy⟩:=elem (L.frame fg (λ_ _=>id)) (TS.on fg) nQ;have ra:=rZ nQ;have eq:ts.take (i+1)=ts.take i++ [at_ ts i]:=by
   rw[bY];unfold at_;rw[ba,au nQ];rfl
  have tm:at_ ts i∈ts:=by
   unfold at_;rw[ba,au nQ];exact fw nQ
  refine⟨⟨by omega,by omega⟩,cG.2 ⟨a,ea,aa.yS (x:=y.s) (by rw[aL];exact hh) (jF.walk (x:=y.s) (aa.dH λb h1 eb hb f1=>aa.jk hb (ic U (u.tt (fg.tt f1)) (ty.on f1) (by omega) λh2 f2=>⟨_,rfl,_,rfl,?_⟩)))⟩⟩;have F2:=fg.tt (f1.tt f2);cases q:lu V (at_ ts i) with
  |false=>
   rw[jy];refine⟨_,rfl,?_⟩;have:=hk h2 F2;rw[show ts.all (lu V)=false by rw[List.all_eq_false];exact⟨_,tm,by rw[q];decide⟩] at this;rw[ay (by omega)];exact this
  |true=>
   rw[dL,bK (n:=(i:Int)+1) (by omega) (by omega)];exact⟨⟨i+1,by omega,by omega,F2,by rw[eq,List.all_append,ha];simp[q]⟩,by show ts.length - Int.toNat ((i:Int)+1)<ts.length - Int.toNat (i:Int);omega⟩
 ·rw[ai (λe=>nQ (by have:=of_decide_eq_true e;omega))];rw[bR (by omega)] at ha;have:=hk g fg;rw[ha] at this;exact⟨_,rfl,this⟩
end Bn
end
end Go.Proofs.YtlenamcfacpheaaGreatDoor
namespace Go.Den
section
variable {P : Program}
theorem aeH {t elem:TypeId} {bytes:Nat} {z z0:Value} {h:aj} {K:iI} (T:Ao P t elem 1 bytes z) (Ww:z.cells= #[z0]) (n:Nat) (hb:n*bytes<=70368744177664) (hn:n<=9223372036854775807)
  (hk: ∀h' p',iR h' p' n n 1 (List.replicate n z0)->Fr No h h'->(∀c,aQ p' c->h.size<=c)->K (.slice p' n n) h'):
  aX P (Instr.makeSlice t (.I (n:Int)) (.I (n:Int))) h K:=by
 obtain⟨i,hi,JA,rfl,hz⟩:=T.i;unfold Instr.makeSlice;refine bX (s:=underlying t) (bD T.u) ?_;refine bX (s:=asInt (.I (n:Int))) (a:=(n:Int)) rfl ?_;refine bX (s:=asInt (.I (n:Int))) (a:=(n:Int)) rfl ?_;refine bX (s:=typeInfo elem) (lK hi) ?_;simp only[];rw[bK (n:=(n:Int)) (by omega) (by omega)];have hm:(i.bytes:Int)*(n:Int)=((n*i.bytes:Nat):Int):=by rw[je];simp
 have hl:(decide ((n:Int)<0)||decide ((i.bytes:Int)*(n:Int)>2 ^ 48))=false:=by
  rw[hm];have h1: ¬(n:Int)<0:=by omega
  have h2: ¬((n*i.bytes:Nat):Int)>2 ^ 48:=by omega
  rw[decide_eq_false h1,decide_eq_false h2];rfl
 have hc:(((decide ((n:Int)<0)||decide ((i.bytes:Int)*(n:Int)>2 ^ 48))||decide ((n:Int)<0))||decide ((n:Int)>(n:Int)))=false:=by
  rw[hl];simp
 rw[ai (by rw[hc];simp)];have Rf: ∀(m:Nat) (K':Unit->aj->Prop),K' () h->aX P (askRoom m) h K':=λm K' V2=>by
  unfold askRoom;split
  ·exact V2
  ·exact V2
 rw[eZ];refine Rf _ _ ?_;refine bX (s:=sizeOf elem) (lP hi) ?_;rw[aL,JA,cN];have fin: ∀zs:Array Value,(n=0\/zs= #[z0])->aX P (newRow elem ((Array.range n).map (zs[· %zs.size]!))>>=λa=>pure (.slice (some a) n n)) h K:=by
  intro zs hzs;show K (.slice (some (AA h.size 0)) n n) (h.push (.cells ((Array.range n).map (zs[· %zs.size]!)) elem));refine hk _ _ (.row h.size 0 _ elem rfl cz (bh _) (by simp) (by simp) ?_) (Fr.push _ _) ?_
  ·intro j v hj;have QN:j<n:=by have:=(aG.1 hj).1;simpa using this
   have hv:v=z0:=by
    rw[List.getElem?_replicate,ag QN] at hj;exact(bz hj).symm
   subst hv;rcases hzs with hz|rfl
   ·omega
   ·rw[bZ];simp[QN,Nat.mod_one]
  ·rintro c ⟨a,e,rfl⟩;cases e;exact bh _
 by_cases h0:n=0
 ·rw[ag h0];exact fin #[] (.inl h0)
 ·rw[ai h0];refine bX (s:=zeroValue elem) (oL hi hz) ?_;refine bX (s:=(pure z.cells:Sem (Array Value))) (a:=z.cells) rfl ?_;rw[Ww];exact fin #[z0] (.inr rfl)
end
end Go.Den
namespace Go.Proofs.YtlenamcfacpheaaGreatDoor
open Go.Den
open IntKind (wrap)
open Int (toNat)
section
namespace Bn
open Cb
open qI (Ev dj uG)
variable {V:List UInt8→Bool} {h h0 h':aj} {R:iI} {D:Nat→Prop} {ts:List Tr} {ys:List CV} {q:bU} {l c:Nat}
theorem Oh {i:Nat} (L:xD h D q l c ys) (TS:dG h D ts ys) (hr:dY ts<=1000000) (hi:i<100) (hk: ∀h',Fr No h h'->R (.I (typeAt ts i)) h'):Cl F.om #[.slice q l c,.I (i:Int)] h R:=by
 have ln:=TS.len;have el:=L.len;have l9:=kM ts;refine om.walk (aK.of λJ hJ=> ?_);have no: ∀g,Fr No h g->¬(i<ts.length/\(at_ ts i).n<=2/\yV (at_ ts i) (num (at_ ts i).n)=true)->J true g:=λg fg hn=>by
  subst hJ;dsimp only;rw[ag rfl];have:=hk g fg;unfold typeAt at this;rw[ai hn] at this;exact this
 rw[dL];by_cases nQ:i<ts.length
 case neg=>rw[jy];exact no h (Fr.refl _ _) (λe=>nQ e.1)
 rw[dL];obtain⟨a,y,ea,hh,ty,_⟩:=elem L TS nQ;have ra:=rZ nQ;obtain⟨_,yn,_⟩:=kT.kn ty;have hh':fE (a.add (Int.toNat (i:Int)*4)) y.s.l 0 h:=by rw[aL];exact hh
 have c1:ak h ((a.add (Int.toNat (i:Int)*4)).add 1)=some (.U ((at_ ts i).n:Int)):=by rw[<-yn];exact hh'.2.1
 refine⟨⟨by omega,by omega⟩,cG.2 ⟨a,ea,_,c1,?_⟩⟩;by_cases hn:(at_ ts i).n<=2
 case neg=>rw[jy];exact no h (Fr.refl _ _) (λe=>hn e.2.1)
 rw[dL];refine⟨⟨by omega,by omega⟩,cG.2 ⟨a,ea,aa.yS (x:=y.s) hh' ⟨⟨by omega,by omega⟩,cG.2 ⟨a,ea,_,c1,jw λh2 f2=>aa.ex (nv (at_ ts i).n).s ⟨rfl,f2.kp,pV (x:=y) (y:=nv (at_ ts i).n) (ty.on f2) xK (by omega) λh3 f3=>⟨_,rfl,f3.kp,?_⟩⟩⟩⟩⟩⟩;have F3:=f2.tt f3;cases e:yV (at_ ts i) (num (at_ ts i).n) with
 |false=>exact no h3 F3 (λq=>by rw[e] at q;cases q.2.2)
 |true=>
  subst hJ;dsimp only;rw[dL];refine⟨⟨by omega,by omega⟩,cG.2 ⟨a,ea,_,F3.cell c1 id,?_⟩⟩;have:=hk h3 F3;unfold typeAt at this;rw[ag ⟨nQ,hn,e⟩] at this;rw[bK (by omega) (by omega)];exact this
theorem Oi (ts:List Tr) (i:Nat): -1<=typeAt ts i/\typeAt ts i<=2:=by unfold typeAt;split<;>omega
theorem ahq (n:Nat):List.replicate n (Value.int .u8 0)=bc (List.replicate n 0):=by unfold bc;rw[List.map_replicate];rfl
theorem by8 (n k:Nat) (m:Nat) (hm:m=k):IntKind.wrap .u8 (Int.fdiv (n:Int) (2 ^ m))=((UInt8.ofNat (n/2 ^ k)).toNat:Int):=by subst hm;rw[ad4,ad3]
theorem To {sum:Nat} (U:xP V h0) (u:Fr No h0 h) (L:xD h D q l c ys) (TS:dG h D ts ys) (hr:dY ts<=900000) (s1:1<=sum) (s2:sum<=2)
  (k1: ∀b,sumOf V ts sum=.ok b->∀h' p c,Row h' p (bc b)->b.length=2*sum->(∀y,aQ p y->h.size<=y)->Fr No h h'->R (.tuple #[.slice p b.length c,.I 0]) h')
  (k2:sumOf V ts sum=.error 3->∀h',Fr No h h'->R (.tuple #[.Z,.I 3]) h'):Cl F.pz #[.slice q l c,.I (sum:Int)] h R:=by
 have ln:=TS.len;have el:=L.len;have l9:=kM ts;refine pz.walk (aba L.row L.len (by omega) λp1 c1 h1 o1 f1 g1=>⟨_,_,_,rfl,mN.walk ⟨_,rfl,?_⟩⟩);rw[bK (n:=2*(sum:Int)) (by omega) (by omega),show 2*(sum:Int)=((2*sum:Nat):Int) by omega];refine aeH vf.tU rfl (2*sum) (by omega) (by omega) λh3 p3 o3 f3 g3=>⟨_,_,_,rfl,?_⟩
 rw[ahq] at o3;have lr:(List.replicate (2*sum) (0:UInt8)).length=2*sum:=List.length_replicate;refine zD o3.pZ lr.symm (by omega) λh4 v ev ov f4=>aa.ex (CV.s ⟨2,0,v,none,0,0⟩) ⟨rfl,aa.dH λb h5 eb hb f5=> ?_⟩
 have F5:=f3.tt (f4.tt f5);have z1:=f1.1;have z3:=f3.1;have z4:=f4.1;have z5:=f5.1;have n1: ∀y,aQ p1 y->y<h1.size:=λy hy=>o1.gm hy
 have vl:v.b.length=2*sum:=by rw[ev,lr]
 refine fQ tI uI (o1.frame F5 (λ_ _=>id)) (ds:=mJ ⟨2,0,v,none,0,0⟩) (.inr ⟨_,rfl,aa.Lq (x:=CV.s ⟨2,0,v,none,0,0⟩) hb⟩) rfl (zW _) (by omega) (by omega) λp6 c6 h6 o6 _ f6 g6=>⟨_,_,_,rfl,?_⟩
 have ef:ys.flatMap mJ++mJ ⟨2,0,v,none,0,0⟩=(ys++ [(⟨2,0,v,none,0,0⟩:CV)]).flatMap mJ:=by rw[dI];simp
 rw[ef] at o6;have T6:Mu h6 (ts++ [BG (List.replicate (2*sum) 0)]) (ys++ [⟨2,0,v,none,0,0⟩]):=by
  have a:=(TS.lt.on (f1.tt F5)).frame f6 (λy hy AU=>by have:=g1 y AU;omega);have b:kT h6 (λy=>h3.size<=y) (.mk 2 0 v.b []) ⟨2,0,v,none,0,0⟩:=NU ((ov.frame f5 (λ_ _=>id)).frame f6 (λy hy AU=>by have:=n1 y AU;omega));rw[ev] at b;exact a.u.snoc b.u
 have lA:(ys++ [(⟨2,0,v,none,0,0⟩:CV)]).length=ys.length+1:=by simp
 have rA:dY (ts++ [BG (List.replicate (2*sum) 0)])<=900100:=by rw[mP];simp only[dY,room,lr];omega
 refine rU (D:=λ_=>True) ⟨lA.symm,o6.pZ,λ_ _ _=>trivial,o6.le⟩ T6 (by omega) λh7 z tz f7=>aa.ex z.s ⟨rfl,?_⟩
 have F6:Fr No h h6:=(f1.tt F5).fresh f6 (λy hy=>g1 y hy);have F7:=F6.tt f7;have z6:=F6.1;have z7:=f7.1;have hS:sumOf V ts sum=sumOf V ts sum:=rfl;conv at hS=>rhs;unfold sumOf
 refine Hc (x:=z) U (u.tt F7) tz.u (by simp only[room,bC];omega) (λhR h8 p8 c8 o8 n8 f8=>⟨_,_,_,_,rfl,?_⟩) (λhR h8 f8=>⟨_,_,_,_,rfl,?_⟩)
 ·rw[dL];rw[ag hR] at hS;have F8:=F7.tt f8;have le8:(enc (DE (ts++ [BG (List.replicate (2*sum) 0)]))).length<=900200:=by
   have:=rW (DE (ts++ [BG (List.replicate (2*sum) 0)]));simp only[room,bC] at this;omega
  generalize enc (DE (ts++ [BG (List.replicate (2*sum) 0)]))=B at hS o8 le8⊢;have z8:=F8.1;by_cases e1:sum=1
  ·rw[ag (by rw[e1];rfl)];rw[ag e1] at hS;refine aec o8.pZ rfl (by omega) ⟨_,rfl,cX ?_⟩;rw[by8 (Kd B) 8 (min (Int.toNat 8) (IntKind.bits .u16)) rfl,ad3];have r:Row (h8.push (.cells (bc (O8 B)).toArray T.uint8)) (some (AA h8.size 0)) (bc (O8 B)):=rV;exact k1 _ hS _ _ _ r (by rw[e1];rfl) (λy ⟨a,ea,ey⟩=>by cases ea;rw[<-ey];exact z8) (F8.tt (Fr.push _ _))
  ·rw[ai (λe=>e1 (by have:=eq_of_beq e;omega))];rw[ai e1] at hS;refine ahm o8.pZ rfl (by omega) ⟨_,rfl,cX ?_⟩;rw[by8 (HO B) 24 (min (Int.toNat 24) (IntKind.bits .u32)) rfl,by8 (HO B) 16 (min (Int.toNat 16) (IntKind.bits .u32)) rfl,by8 (HO B) 8 (min (Int.toNat 8) (IntKind.bits .u32)) rfl,ad3];have r:Row (h8.push (.cells (bc (V9 B)).toArray T.uint8)) (some (AA h8.size 0)) (bc (V9 B)):=rV;exact k1 _ hS _ _ _ r (by rw[show sum=2 by omega];rfl) (λy ⟨a,ea,ey⟩=>by cases ea;rw[<-ey];exact z8) (F8.tt (Fr.push _ _))
 ·rw[jy];rw[ai (by rw[hR];decide)] at hS;exact k2 hS h8 (F7.tt f8)
theorem Zm {i:Nat} (U:xP V h0) (u:Fr No h0 h) (L:xD h D q l c ys) (TS:dG h D ts ys) (hr:dY ts<=800000) (hi:i<100)
  (k1: ∀t,x7 V ts i=.ok t->∀h' z,Ee h' (λy=>h.size<=y) t z->Fr No h h'->R (.tuple #[z.agg,.I 0]) h')
  (k2: ∀e,x7 V ts i=.error e->∀h',Fr No h h'->R (.tuple #[zv.agg,.I e]) h'):Cl F.qF #[.slice q l c,.I (i:Int)] h R:=by
 have ln:=TS.len;have el:=L.len;have l9:=kM ts;refine qF.walk (aa.dH λb h1 eb hb f1=>aK.of λJ hJ=> ?_);have zb:=aI hb;have no: ∀g e,Fr No h1 g->x7 V ts i=.error e->aa.dV g (AA b 0) .z λg'=>aa.df g' (AA b 0) λr=>R (.tuple #[r.agg,.I e]) g':=λg e fg he=>
  Qn (fg.get hb id) λg' f=>k2 e he g' ((f1.tt fg).fresh f (λy e=>by omega))
 rw[dL];have hS:x7 V ts i=x7 V ts i:=rfl;conv at hS=>rhs;unfold x7
 by_cases nQ:i<ts.length
 case neg=>
  rw[ay (by omega)];rw[ai nQ] at hS;subst hJ;dsimp only;rw[ag rfl];exact no h1 1 (Fr.refl _ _) hS
 rw[ag nQ] at hS;rw[decide_eq_false (by omega)];subst hJ;dsimp only;rw[ai (show¬false=true by decide)];refine Oh (L.frame f1 (λ_ _=>id)) (TS.on f1) (by omega) hi λh4 f4=>⟨_,rfl,aK.of λJ1 pA=>aeG U (u.tt (f1.tt f4)) (L.frame (f1.tt f4) (λ_ _=>id)) (TS.on (f1.tt f4)) (by omega) λh5 f5=>⟨_,rfl,?_⟩⟩
 have ty2:=Oi ts i;have F5:=f1.tt (f4.tt f5);have no5: ¬(ts.all (lu V)=true/\0<=typeAt ts i)->J1 true h5:=λhn=>by
  subst pA;dsimp only;rw[ag rfl];exact no h5 3 (f4.tt f5) (by rw[hS,ai hn])
 cases ha:ts.all (lu V) with
 |false=>rw[jy];exact no5 (λe=>by rw[ha] at e;cases e.1)
 |true=>
 rw[dL];by_cases ht:0<=typeAt ts i
 case neg=>rw[ay (by omega)];exact no5 (λe=>ht e.2)
 rw[decide_eq_false (by omega)];clear no5;rw[ag ⟨ha,ht⟩] at hS;subst pA;dsimp only;rw[ai (show¬false=true by decide)];refine rU (L.frame F5 (λ_ _=>id)) (TS.on F5) (by omega) λh7 z tz f7=>aa.ex z.s ⟨rfl,aa.j8 (x:=z.s) λb1 h9 uf dw f9=>aK.of λJ2 zX=> ?_⟩
 have z1:=f1.1;have z4:=f4.1;have z5':=f5.1;have z5:=F5.1;have z7:=f7.1;have z9:=f9.1;have PT:=aI dw;have F9:=F5.tt (f7.tt f9);have done: ∀g (w:CV) t,Ee g (λy=>h5.size<=y/\y≠b1) t w->room t<=900000->aa.jx g b1 w.s->Fr (λy=>h5.size<=y) h9 g->(x7 V ts i=if lu V t=true then .ok t else .error 3)->J2 g:=by
  intro g w t tw rt hw fg he;subst zX;try dsimp only
  have Fg:Fr No h g:=F9.fresh fg (λy e=>by omega);have hbg: ∀ {g2},Fr No g g2->aa.jx g2 b .z:=λf=>f.get (fg.get ((f4.tt (f5.tt (f7.tt f9))).get hb id) (by omega)) id
  refine aa.jk hw (ic U (u.tt Fg) tw.u (by omega) λyi f11=>⟨_,rfl,?_⟩);cases hq:lu V t with
  |false=>
   rw[jy];rw[hq] at he;exact Qn (hbg f11) λg' f=>k2 3 he g' ((Fg.tt f11).fresh f (λy e=>by omega))
  |true=>
   rw[dL];rw[hq,ag rfl] at he;refine aa.jk (f11.get hw id) (fin (hbg f11) (tw.frame f11 (λ_ _=>id)) (λy hy e=>by have:=f1.1;omega) λGP t13 f13=>k1 t he GP w (t13.mono λy hy=>by omega) ((Fg.tt f11).fresh f13 (λy e=>by omega)))
 have tz9:Ee h9 (λy=>h5.size<=y/\y≠b1) (DE ts) z:=by
  obtain⟨⟨a1,a2,a3,a4⟩,zs,a5,a6,a7,a8⟩:=tz;refine⟨⟨a1,a2,a3,((Sy a4).mono λy hy=>by omega).frame f9 (λ_ _=>id)⟩,zs,a5,a6.frame f9 (λ_ _=>id),λy hy=>⟨a7 y hy,by have:=a6.gm hy;omega⟩,(dG.mono (λy hy=>by have h1:=hy.1.1;have h2:=hy.2;exact⟨⟨h1,by omega⟩,hy.1.2⟩) a8.lt).on f9⟩
 by_cases hp:0<typeAt ts i
 case neg=>
  rw[dL];rw[ai hp] at hS;exact done h9 z (DE ts) tz9 (by simp only[room,bC];omega) dw (Fr.refl _ _) hS
 rw[ag (ay hp)];rw[ag hp] at hS;obtain⟨sum,Uu⟩:=mG ht;rw[Uu] at hS⊢;rw[aL] at hS;refine To U (u.tt F9) (L.frame F9 (λ_ _=>id)) (TS.on F9) (by omega) (by omega) (by omega) (λbs hs Dv p14 c14 row lb nb f14=>⟨_,_,_,_,rfl,?_⟩) (λhs Dv f14=>⟨_,_,_,_,rfl,?_⟩)
 ·rw[dL];rw[hs] at hS;refine⟨_,_,_,af (f14.get dw id) rfl,zD row rfl (by omega) λvY v ev ov f16=>aa.ex (CV.s ⟨2,0,v,none,0,0⟩) ⟨rfl,f16.kp,?_⟩⟩;have F16:=f14.tt f16;have g0:Fr (λy=>y=b1) h5 h9:=(f7.tt f9).mono λ_ _=>False.elim
  obtain⟨zs,ez,Lz⟩:=aeD (g0:=h5) tz9 dw g0;have ezl:z.s.xO=zs.length:=ez.symm;have zl:zs.length=ts.length:=by have:=Lz.tr.len;exact this.symm
  have q9: ∀y,aQ z.q y->y<h9.size:=λy hy=>Lz.own.gm hy
  have z14:=f14.1;have z16:=f16.1;have L16:=Lz.on F16;rw[ezl];obtain⟨zk,zn,zv_,_⟩:=tz9.1;refine aeF L16 (by omega) (kT.mono (λy hy=>⟨by omega,λhq=>by have:=q9 y hq;omega⟩) (NU ov)) λg' QQ q' DN L' hl JA ho=> ?_
  have Vx:z.v.ok g' (λy=>h5.size<=y/\y≠b1):=by
   have e0:z.v.b= []:=zv_;exact⟨by rw[e0];exact Row.nil,λe=>absurd e0 e,tz9.1.2.2.2.cap⟩
  have tw:=aeE (k':=z.n) L' Vx;have ek:z.k=4:=zk;have en:z.n=0:=zn;have e0:z.v.b= []:=zv_;rw[ek,en,e0,ev] at tw;have lr:=mP (a:=ts) (b:= [BG bs]);simp only[dY,room,bC] at lr;refine done g' ⟨z.k,z.n,z.v,q',QQ.length,DN⟩ (DE (ts++ [BG bs])) (by rw[ek,en];exact tw) (by simp only[room,bC];omega) L'.dE ?_ hS;refine⟨by omega,λy hy hn=> ?_⟩;rw[L'.fr.2 y (by omega) (by omega),(f7.tt f9).2 y (by omega) id]
 ·rw[jy];rw[hs] at hS;exact Qn (f14.get ((f4.tt (f5.tt (f7.tt f9))).get hb id) id) λg' f=>k2 3 hS g' ((F9.tt f14).fresh f (λy e=>by have:=f1.1;omega))
theorem vW {i : Nat} {t : Tr} {x : CV} (U : xP V h0) (u : Fr No h0 h) (tx : SX h t x) (hr : room t ≤ 800000) (hi : i < 100)
    (k1 : ∀ us, Bb V t i = .ok us → dY us ≤ dY t.l → ∀ h' p zs c, xD h' (λy => h.size ≤ y) p zs.length c zs → dG h' (λy => h.size ≤ y) us zs → Fr No h h' → R (.tuple #[.slice p zs.length c, .int .i64 0]) h')
    (k2 : ∀ e, Bb V t i = .error e → e ≠ 0 → ∀ h', Fr No h h' → R (.tuple #[.slice none 0 0, .int .i64 e]) h') : Cl F.qG #[x.agg, .int .i64 (i : Int)] h R := by
  obtain ⟨xk, xn, xb, xl, xv, ys, L, TS⟩ := kT.kn tx
  have rl := yT (t := t)
  have ln := TS.len
  have el := L.len
  have l9 := kM t.l
  have e4 : x.s.f0 = t.k := xk
  have ark : x.s.xO = t.l.length := xl
  refine qG.walk (x := x.s) (aa.dH λb h1 eb hb f1 => aK.of λJ hJ => aa.jk hb (ic U (u.tt f1) (tx.on f1) (by omega) λh3 f3 => ⟨_, rfl, ?_⟩))
  have F3 := f1.tt f3
  have kR := f3.get hb id
  have hO : Bb V t i = Bb V t i := rfl
  conv at hO => rhs; unfold Bb
  have bad : ¬ (lu V t = true ∧ t.k = 4 ∧ 0 ≤ typeAt t.l i) → ∀ g, Fr No h g → R (.tuple #[.slice none 0 0, .int .i64 3]) g := λhn g fg => k2 3 (by rw [hO, if_neg hn]) (by decide) g fg
  have alB : ¬ (lu V t = true ∧ t.k = 4 ∧ 0 ≤ typeAt t.l i) → J true h3 := λhn => by
    subst hJ
    dsimp only
    rw [if_pos rfl]
    exact bad hn h3 F3
  cases hR : lu V t with
  | false => exact alB (λe => by rw [hR] at e; cases e.1)
  | true =>
  rw [if_neg (show ¬ (!true) = true by decide)]
  refine ⟨_, af kR rfl, ?_⟩
  rw [e4]
  by_cases k4 : t.k = 4
  case neg => rw [show (t.k != 4) = true by simpa using k4]; exact alB (λe => k4 e.2.1)
  rw [show (t.k != 4) = false by simpa using k4]
  clear alB
  subst hJ
  dsimp only
  rw [if_neg (show ¬ false = true by decide)]
  refine ⟨_, _, _, af kR rfl, Oh (L.frame F3 (λ_ _ => id)) (TS.on F3) (by omega) hi λh4 f4 => ⟨_, rfl, ?_⟩⟩
  have F4 := F3.tt f4
  have ma := f4.get kR id
  by_cases ht : 0 ≤ typeAt t.l i
  case neg => rw [if_pos (decide_eq_true (by omega))]; exact bad (λe => ht e.2.2) h4 F4
  rw [if_neg (by simp only [decide_eq_true_eq]; omega)]
  rw [if_pos ⟨hR, k4, ht⟩] at hO
  clear bad
  have Zn : ∀ {g} (us : List Tr) (zs : List CV) {n c : Nat} {p : Option Addr}, xD g (λ_ => True) p n c zs → Mu g us zs → dY us ≤ dY t.l → Fr No h g → Bb V t i = .ok us → Cl F.fN #[.slice p n c] g λot cP => aa.EX λt84 => ot = t84.agg ∧ R (.tuple #[.slice t84.BN t84.xO t84.Ax, .int .i64 0]) cP := by
    intro g us zs n c p Lz Tz rz fg hu
    refine rU Lz Tz (by omega) λvj z tz f10 => aa.ex z.s ⟨rfl, ?_⟩
    obtain ⟨_, ws, a5, a6, a7, a8⟩ := tz
    have zg := fg.1
    have := k1 us hu rz vj z.q ws z.cl ⟨rfl, a6.pZ, λ_ y hy => by have := a7 y hy; omega, a6.le⟩ (dG.mono (λy hy => by have := hy.1; omega) a8) (fg.tt f10)
    rw [← a5] at this
    exact this
  by_cases h0 : typeAt t.l i = 0
  · rw [if_pos (by rw [h0]; rfl)]
    rw [if_pos h0] at hO
    exact ⟨_, _, _, af ma rfl, Zn t.l ys (L.frame F4 (λ_ _ => id)) (TS.on F4) (Nat.le_refl _) F4 hO⟩
  rw [if_neg (by simpa using h0)]
  rw [if_neg h0] at hO
  have MK : i < t.l.length := by
    rcases Nat.lt_or_ge i t.l.length with hq | hq
    · exact hq
    · have : typeAt t.l i = -1 := by unfold typeAt; rw [if_neg (λe => by omega)]
      omega
  have ty2 := Oi t.l i
  obtain ⟨sum, Uu⟩ := Int.eq_ofNat_of_zero_le ht
  rw [Uu] at hO ⊢
  rw [Int.toNat_natCast] at hO
  have ai0 : 1 ≤ sum ∧ sum ≤ 2 := by omega
  obtain ⟨n, hn⟩ : ∃ n, t.l.length = n + 1 := ⟨t.l.length - 1, by omega⟩
  rw [show t.l.length - 1 = n by omega] at hO
  have ew : IntKind.wrap .i64 (((x.s.xO : Nat) : Int) - 1) = (n : Int) := by rw [ark, hn, bK (by omega) (by omega)]; omega
  refine ⟨_, _, _, af ma rfl, ?_⟩
  rw [ew]
  obtain ⟨a, y, ea, hh, ty, _⟩ := elem (L.frame F4 (λ_ _ => id)) (TS.on F4) (i := n) (by omega)
  have rn := rZ (ts := t.l) (i := n) (by omega)
  obtain ⟨yk, yn, yb, yl, yv, _⟩ := kT.kn ty
  generalize HI : at_ t.l n = la at ty rn yk yn yb yl hO
  have rla := yT (t := la)
  refine ⟨_, _, _, af ma rfl, ⟨by omega, by omega⟩, cG.2 ⟨a, ea, aa.yS (x := y.s) (by rw [Int.toNat_natCast]; exact hh) (aa.j8 (x := y.s) λb1 h6 uf dw f6 => aK.of λJ1 pA => ?_)⟩⟩
  have F6 := F4.tt f6
  have lb : y.s.tS = la.b.length := by show y.v.b.length = _; rw [yb]
  have bad : ∀ g, Fr No h6 g → ¬ (i < n ∧ yV la (BG la.b) = true ∧ la.b.length = 2 * sum) → J1 true g := λg fg hn => by
    subst pA
    try dsimp only
    rw [if_pos rfl]
    exact k2 3 (by rw [hO, if_neg hn]) (by decide) g (F6.tt fg)
  by_cases c1 : i < n
  case neg => rw [if_pos (decide_eq_true (by omega))]; exact bad h6 (Fr.refl _ _) (λe => c1 e.1)
  rw [if_neg (by simp only [decide_eq_true_eq]; omega)]
  have aoZ : ∀ {g}, Fr No h6 g → Row g y.v.p (bc la.b) := λfg => by rw [← yb]; exact ((yv.frame f6 (λ_ _ => id)).frame fg (λ_ _ => id)).row
  refine aa.jk dw ⟨_, _, _, af dw rfl, zD (aoZ (Fr.refl _ _)) lb (by omega) λyi v ev ov f11 => aa.ex (CV.s ⟨2, 0, v, none, 0, 0⟩) ⟨rfl, f11.kp, ?_⟩⟩
  refine pV (x := y) (y := ⟨2, 0, v, none, 0, 0⟩) (s := BG la.b) (ty.on (f6.tt f11)) (ev ▸ NU ov) (by omega) λmE f12 => ⟨_, rfl, ?_⟩
  have PF := f11.tt f12
  cases c2 : yV la (BG la.b) with
  | false => rw [if_pos (by decide)]; exact bad mE PF (λe => by rw [c2] at e; cases e.2.1)
  | true =>
  rw [if_neg (show ¬ (!true) = true by decide)]
  refine ⟨_, _, _, af (PF.get dw id) rfl, mN.walk ⟨_, rfl, (Fr.refl _ _).kp, ?_⟩⟩
  rw [lb, bK (n := 2 * (sum : Int)) (by omega) (by omega)]
  by_cases c3 : la.b.length = 2 * sum
  case neg => rw [show (((la.b.length : Nat) : Int) != 2 * (sum : Int)) = true by simp only [bne_iff_ne, ne_eq]; omega]; exact bad mE PF (λe => c3 e.2.2)
  rw [show (((la.b.length : Nat) : Int) != 2 * (sum : Int)) = false by simp only [bne_eq_false_iff_eq]; omega]
  clear bad
  rw [if_pos ⟨c1, c2, c3⟩] at hO
  subst pA
  try dsimp only
  rw [if_neg (show ¬ false = true by decide)]
  have G12 := F6.tt PF
  have cut : ∀ {g}, Fr No h g → xD g (λ_ => True) (cZ x.s.BN x.s.Ax 0 4) ((Int.toNat (n : Int)) - 0) (x.s.Ax - 0) (ys.take n) := fun {g} fg => by
    have hr := (L.frame fg (λ_ _ => id)).row.sub (cap := x.cl) (l := 0) (u := n) (sz := 4) (Nat.zero_le _) (by have := L.cap; omega)
    rw [wo mJ 4 jR, Nat.zero_mul, List.drop_zero] at hr
    have hc : x.ll ≤ x.cl := L.cap
    exact ⟨by rw [List.length_take]; omega, hr, λ_ _ _ => trivial, by show n - 0 ≤ x.cl - 0; omega⟩
  have cc : n ≤ x.s.Ax := by have hc : x.ll ≤ x.cl := L.cap; show n ≤ x.cl; omega
  have rt : dY (t.l.take n) ≤ dY t.l := yR _ _
  refine ⟨_, _, _, af ((f6.tt PF).get ma id) rfl, ⟨by omega, by omega⟩, To U (u.tt G12) (cut G12) ((TS.on G12).take n) (by omega) ai0.1 ai0.2 (λbs hs Dv p14 c14 row lbs nb f14 => ⟨_, _, _, _, rfl, ?_⟩) (λhs Dv f14 => ⟨_, _, _, _, rfl, ?_⟩)⟩
  · rw [if_neg (by decide)]
    rw [hs] at hO
    dsimp only at hO
    refine ⟨_, _, _, af ((PF.tt f14).get dw id) rfl, AX row (aoZ (PF.tt f14)) rfl lb ⟨_, rfl, ?_⟩⟩
    have G14 := G12.tt f14
    by_cases ce : bs = la.b
    · rw [decide_eq_true ce, if_neg (show ¬ (!true) = true by decide)]
      rw [if_pos ce] at hO
      exact ⟨_, _, _, af (((f6.tt PF).tt f14).get ma id) rfl, ⟨by omega, by omega⟩, Zn (t.l.take n) (ys.take n) (cut G14) ((TS.on G14).take n) rt G14 hO⟩
    · rw [decide_eq_false ce, if_pos (show (!false) = true by decide)]
      rw [if_neg ce] at hO
      exact k2 10 hO (by decide) Dv G14
  · rw [if_pos (by decide)]
    rw [hs] at hO
    exact k2 3 hO (by decide) Dv (G12.tt f14)
end Bn
end
section
namespace Bn
open Cb
open qI (Ev dj uG)
variable {V:List UInt8→Bool} {h h0 h':aj} {R:iI}
abbrev Prim.s (p:Prim):aC.S:=⟨p.fl,p.sum,p.dest.vD,p.dest.node,p.dest.l6,p.dest.host,p.dest.sM,p.rep.vD,p.rep.node,p.rep.l6,p.rep.host,p.rep.sM,p.id.e.vD,p.id.e.node,p.id.e.l6,p.id.e.host,p.id.e.sM,p.id.tm,p.id.sq,p.gI⟩
def Prim.wf (p:Prim):Prop:=0<=p.dest.l6/\0<=p.rep.l6/\0<=p.id.e.l6
theorem ao0 {b:Nat} {y:aC.S} (x:Prim) {K:aC.S->aj->Prop} (hb:aC.jx h b y) (hk: ∀h',Fr (λy=>y=b) h h'->K x.s h'):
  aC.dV h (AA b 0) x.s λg=>aC.df g (AA b 0) λr=>K r g:=
 aC.mA (x:=x.s) hb λg d1 f _=>aC.jk d1 (hk g f)
theorem abb (p:Prim) (hk: ∀h',Fr No h h'->R (.bool (qQ p)) h'):Cl F.rq #[p.s.agg] h R:=by
 refine rq.walk (aC.dH λb h1 eb hb f1=>⟨_,af hb rfl,?_⟩);have no: ∀g,Fr No h g->qQ p=false->R (.bool false) g:=λg fg e=>by have:=hk g fg;rw[e] at this;exact this
 change if flB (p.fl:Int) 409638=true then _ else _
 by_cases c1:flB (p.fl:Int) 409638=true
 case neg=>rw[ai c1];exact no h1 f1 (by unfold qQ;simp[c1])
 rw[ag c1];refine⟨_,af hb rfl,?_⟩;by_cases c2:0<=p.sum
 case neg=>rw[ai (by simp only[bf];exact c2)];exact no h1 f1 (by unfold qQ;simp[c2])
 rw[ag (ay c2)];refine⟨_,af hb rfl,?_⟩;by_cases c3:p.sum<=2
 case neg=>rw[ai (by simp only[bf];exact c3)];exact no h1 f1 (by unfold qQ;simp[c3])
 rw[ag (ay c3)];refine oz p.dest hb rfl rfl rfl rfl rfl (qI.ic p.dest λh2 f2=>⟨_,rfl,?_⟩);cases c4:dj p.dest with
 |false=>exact no h2 (f1.tt f2) (by unfold qQ;simp[c4])
 |true=>
 rw[ag rfl];have fI:=f2.get hb id;refine oz p.rep fI rfl rfl rfl rfl rfl (qI.ic p.rep λh3 f3=>⟨_,rfl,?_⟩);have F3:=f1.tt (f2.tt f3);cases c5:dj p.rep with
 |false=>exact no h3 F3 (by unfold qQ;simp[c5])
 |true=>
 rw[ag rfl];have kR:=f3.get fI id;refine Lw p.id kR rfl rfl rfl rfl rfl rfl rfl (DB p.id λh4 f4=>⟨_,rfl,?_⟩);cases c6:lC p.id with
 |false=>exact no h4 (F3.tt f4) (by unfold qQ;simp[c6])
 |true=>
 rw[ag rfl];refine⟨_,af (f4.get kR id) rfl,?_⟩;have:=hk h4 (F3.tt f4);unfold qQ at this;rw[c1,ay c2,ay c3,c4,c5,c6] at this;rw[show decide ((p.s.f19:Int)<=1099511627776)=decide (p.gI<=1099511627776) from vC p.gI 1099511627776];exact this
theorem Oj {p:Prim} (h:qQ p=true):0<=p.sum/\p.sum<=2/\dj p.dest=true/\dj p.rep=true/\lC p.id=true/\p.gI<=1099511627776:=by
 unfold qQ at h;simp only[aW,bf] at h;exact⟨h.1.1.1.1.1.2,h.1.1.1.1.2,h.1.1.1.2,h.1.1.2,h.1.2,h.2⟩
theorem LA {p:Prim} (h:qQ p=true):dY (RA p)<=1000:=by
 obtain⟨_,_,a,b,c,_⟩:=Oj h;have:=wB _ a;have:=wB _ b;have:=wB _ (Lx c).1;simp only[RA,dY,room,bC];omega
theorem LB {ts:List Tr} {i:Nat} {t:Tr} (h:x7 V ts i=.ok t):room t<=dY ts+30:=by
 unfold x7 at h;split at h
 ·split at h
  ·split at h
   ·split at h
    ·cases h
    ·rename_i b hb;split at h
     ·cases h;have:b.length<=4:=by
       unfold sumOf at hb;split at hb
       ·cases hb;split<;>simp[O8,V9]
       ·cases hb
      simp only[room,mP,dY,bC];omega
     ·cases h
   ·split at h
    ·cases h;simp only[room,bC];omega
    ·cases h
  ·cases h
 ·cases h
theorem LC {p:Prim} {t:Tr} (h:x8 V p=.ok t):room t<=1100:=by
 unfold x8 at h;split at h
 ·rename_i hr;have:=LB h;have:=LA hr;omega
 ·cases h
theorem aeI (p:Prim) (w:p.wf) (U:xP V h0) (u:Fr No h0 h) (k1: ∀t,x8 V p=.ok t->∀h' z,Ee h' (λy=>h.size<=y) t z->Fr No h h'->R (.tuple #[z.agg,.I 0]) h')
  (k2: ∀e,x8 V p=.error e->∀h',Fr No h h'->R (.tuple #[zv.agg,.I e]) h'):Cl F.nm #[p.s.agg] h R:=by
 refine nm.walk (aC.dH λb h1 eb hb f1=>aa.dH λb1 h2 uf dw f2=>aC.jk (x:=p.s) (f2.get hb id) (abb p λh3 f3=>⟨_,rfl,?_⟩));have kR:=(f2.tt f3).get hb id;have qu:=f3.get dw id;have F3:=f1.tt (f2.tt f3);have z1:=f1.1;have PT:=aI dw;have z3:=f3.1;unfold x8 at k1 k2;cases hr:qQ p with
 |false=>exact Qn qu λh4 f4=>k2 3 (by rw[hr,dL]) h4 (F3.fresh f4 (λy e=>by omega))
 |true=>
 rw[dL];rw[hr,ag rfl] at k1 k2;obtain⟨s0,s2,eD,eR,eI,_⟩:=Oj hr;have hE:=(Lx eI).1;refine oz p.dest kR rfl rfl rfl rfl rfl (He p.dest w.1 (λ_ h5 zd td f5=>aa.ex zd.s ⟨_,rfl,aa.j8 (x:=zd.s) λb2 h7 FE fI f7=> ?_⟩) (λe=>by rw[eD] at e;cases e));have F7:=f5.tt f7;refine oz p.rep (F7.get kR id) rfl rfl rfl rfl rfl (He p.rep w.2.1 (λ_ h8 zr tr f8=>aa.ex zr.s ⟨_,rfl,aa.j8 (x:=zr.s) λb3 vj LP Lv f10=> ?_⟩) (λe=>by rw[eR] at e;cases e));have Nj:=F7.tt (f8.tt f10);refine Lw p.id (Nj.get kR id) rfl rfl rfl rfl rfl rfl rfl (N4 p.id w.2.2 (λ_ yi zi ti f11=>aa.ex zi.s ⟨_,rfl,aa.j8 (x:=zi.s) λb4 GP Vz ma f13=> ?_⟩) (λe=>by rw[eI] at e;cases e));have F13:=Nj.tt (f11.tt f13);have aeJ:=F13.get kR id;have aef:=(f8.tt (f10.tt (f11.tt f13))).get fI id;have ao1:=(f11.tt f13).get Lv id;obtain⟨ik,inn,ib,il,iv,ys,L,TS⟩:=kT.kn (ti.u.on f13);have lI:(idT p.id).l.length=2:=rfl;have li:zi.s.xO=2:=il;obtain⟨a0,y0,ea0,hh0,Yt,_⟩:=elem L TS (i:=0) (by omega);obtain⟨a1,y1,Yu,V0,VD,_⟩:=elem L TS (i:=1) (by omega);refine⟨_,af aeJ rfl,_,af aeJ rfl,aa.jk aef ⟨_,_,_,af ma rfl,⟨by omega,by omega⟩,cG.2 ⟨a0,ea0,aa.yS (x:=y0.s) hh0 (aa.jk ao1 ⟨_,_,_,af ma rfl,⟨by omega,by omega⟩,cG.2 ⟨a1,Yu,aa.yS (x:=y1.s) V0 ⟨_,af aeJ rfl,?_⟩⟩⟩)⟩⟩⟩;obtain⟨sum,hs⟩:=mG s0;have es:p.sum.toNat=sum:=by omega
 refine jw (n:=7) λDv f14=>aa.ex (nv 7).s ⟨rfl,f14.kp,jw (n:=p.fl) λGY f15=>aa.ex (nv p.fl).s ⟨rfl,f15.kp,?_⟩⟩
 rw[show p.s.f1=(sum:Int) from hs,wrap_u64 (n:=(sum:Int)) (by omega) (by omega)];refine jw (n:=sum) λvY f16=>aa.ex (nv sum).s ⟨rfl,f16.kp,jw (n:=p.gI) λQq f17=>aa.ex (nv p.gI).s ⟨rfl,f17.kp,zZ (ys:= [nv 7,nv p.fl,nv sum,zd,y0,zr,y1,nv p.gI]) rfl λb5 Gl eb5 L5 f18=>⟨f18.kp,?_⟩⟩⟩
 have G:=f14.tt (f15.tt (f16.tt (f17.tt f18)));have T5:Mu Gl (RA p) [nv 7,nv p.fl,nv sum,zd,y0,zr,y1,nv p.gI]:=by
  unfold RA;rw[es];exact .cons xK (.cons xK (.cons xK (.cons (td.u.on (f7.tt (f8.tt (f10.tt (f11.tt (f13.tt G)))))) (.cons (Yt.on G) (.cons (tr.u.on (f10.tt (f11.tt (f13.tt G)))) (.cons (VD.on G) (.cons xK .nil)))))))
 have Mv:=F13.tt G;have rp:=LA hr;refine Zm (i:=2) U (u.tt (F3.tt Mv)) (L5 (λ_=>True) trivial) T5 (by omega) (by omega) (λt ht h19 z tz f19=>aa.ex z.s ⟨_,rfl,?_⟩) (λe he h19 f19=>aa.ex zv.s ⟨_,rfl,?_⟩)
 ·have z18:=Mv.1;exact fin ((Mv.tt f19).get qu id) tz (λy hy e=>by omega) λQo t20 f20=>k1 t ht Qo z (t20.mono λy hy=>by omega) ((F3.tt (Mv.tt f19)).fresh f20 (λy e=>by omega))
 ·exact Qn ((Mv.tt f19).get qu id) λQo f20=>k2 e he Qo ((F3.tt (Mv.tt f19)).fresh f20 (λy e=>by omega))
theorem Ol {ts:List Tr} {i:Nat} {e:Int} (h:x7 V ts i=.error e):e≠0:=by
 unfold x7 at h;split at h
 ·split at h
  ·split at h
   ·split at h
    ·rename_i hb;cases h;unfold sumOf at hb;split at hb
     ·cases hb
     ·cases hb;decide
    ·split at h
     ·cases h
     ·cases h;decide
   ·split at h
    ·cases h
    ·cases h;decide
  ·cases h;decide
 ·cases h;decide
theorem abc {p:Prim} {e:Int} (h:x8 V p=.error e):e≠0:=by
 unfold x8 at h;split at h
 ·exact Ol h
 ·cases h;decide
theorem aeK (p:Prim) (w:p.wf) (U:xP V h0) (u:Fr No h0 h) (hk: ∀h' z q,(∀t,x8 V p=.ok t->q=0/\SX h' t z)->(∀e,x8 V p=.error e->q≠0)->Fr No h h'->R (.tuple #[z.s.agg,.I q]) h'):Cl F.nm #[p.s.agg] h R:=
 aeI p w U u (λt ht h' z tz f=>hk h' z 0 (λt' e=>by rw[ht] at e;cases e;exact⟨rfl,tz.u⟩) (λe he=>by rw[ht] at he;cases he) f) (λe he h' f=>hk h' zv e (λt ht=>by rw[he] at ht;cases ht) (λ_ _=>abc he) f)
theorem aeL {t:Tr} {x:CV} (U:xP V h0) (u:Fr No h0 h) (mx:Gi.Mx h) (tx:SX h t x) (hr:room t<=400000)
  (k1: ∀p,HQ V t=.ok p->p.wf->∀h',Fr No h h'->R (.tuple #[p.s.agg,.I 0]) h') (k2: ∀e,HQ V t=.error e->e≠0->∀h',Fr No h h'->R (.tuple #[Prim.zero.s.agg,.I e]) h'):Cl F.tc #[x.agg] h R:=by
 have rl:=yT (t:=t);refine tc.walk (x:=x.s) (aa.dH λb h1 eb hb f1=>aC.dH λb1 h2 uf dw f2=>aa.jk (f2.get hb id) ?_);have F2:=f1.tt f2;have fI:=f2.get hb id;have zb:=aI hb;have PT:=aI dw;have z1:=f1.1;have z2:=f2.1;have no: ∀g e,Fr No h2 g->HQ V t=.error e->e≠0->aC.dV g (AA b1 0) .z λg'=>aC.df g' (AA b1 0) λr=>R (.tuple #[r.agg,.I e]) g':=λg e fg he hn=>
  ao0 .zero (fg.get dw id) λg' f=>k2 e he hn g' ((F2.tt fg).fresh f (λy e=>by omega))
 have hP:HQ V t=HQ V t:=rfl;conv at hP=>rhs;unfold HQ
 refine vW (i:=2) U (u.tt F2) (tx.on F2) (by omega) (by omega) (λus hu ru h3 p zs c L TS f3=>⟨_,_,_,_,rfl,?_⟩) (λe he hn h3 f3=>⟨_,_,_,_,rfl,?_⟩)
 case refine_2=>
  rw[ag (by simpa using hn)];exact no h3 e f3 (by rw[hP,he]) hn
 rw[dL];rw[hu] at hP;dsimp only at hP;have ln:=TS.len;have l9:=kM us;by_cases l8:us.length=8
 case neg=>
  rw[ag (by simp only[fK,iq];omega)];exact no h3 3 f3 (by rw[hP,ai l8]) (by decide)
 rw[ai (by simp only[fK,iq];omega)];rw[ag l8] at hP;have z3:=f3.1;have it: ∀i,i<8->∃(a:Addr) (y:CV),p=some a/\fE (a.add (i*4)) y.s.l 0 h3/\SX h3 (at_ us i) y/\(∀ {g},Fr No h3 g->ak g ((a.add (i*4)).add 1)=some (.U ((at_ us i).n:Int))):=λi hi=>by
  obtain⟨a,y,ea,hh,ty,_⟩:=elem L TS (i:=i) (by omega);obtain⟨_,yn,_⟩:=kT.kn ty;exact⟨a,y,ea,hh,ty.u,λfg=>fg.cell (by have:=hh.2.1;rw[<-yn];exact this) id⟩
 have rat: ∀i,i<8->room (at_ us i)<=dY us:=λi hi=>rZ (by omega)
 obtain⟨a3,y3,ea3,hh3,ty3,_⟩:=it 3 (by omega);have r3:=rat 3 (by omega);have r5:=rat 5 (by omega);have r4:=rat 4 (by omega);have r6:=rat 6 (by omega);have u2:=u.tt F2;have m2:=mx.on F2;refine⟨⟨by omega,by omega⟩,cG.2 ⟨a3,ea3,aa.yS (x:=y3.s) hh3 (Qt U (u2.tt f3) (m2.on f3) ty3 (by omega) λd qd ⟨hd0,hd1,wd⟩ h6 f6=>az.ex d.s ⟨_,rfl,az.j8 (x:=d.s) λb2 h8 FE aef f8=> ?_⟩)⟩⟩;obtain⟨a5,y5,ea5,hh5,ty5,_⟩:=it 5 (by omega);have F8:=f6.tt f8;refine⟨⟨by omega,by omega⟩,cG.2 ⟨a5,ea5,aa.yS (x:=y5.s) (uO F8 id hh5) (Qt U (u2.tt (f3.tt F8)) (m2.on (f3.tt F8)) (ty5.on F8) (by omega) λr qr ⟨hr0,pJ,wr⟩ h9 f9=>az.ex r.s ⟨_,rfl,az.j8 (x:=r.s) λb3 yi LP Lv f11=>aK.of λJ hJ=> ?_⟩)⟩⟩;obtain⟨a4,y4,ea4,hh4,ty4,_⟩:=it 4 (by omega);obtain⟨a6,y6,ea6,hh6,ty6,_⟩:=it 6 (by omega);have Qs:=F8.tt (f9.tt f11);have ao2:=(f9.tt f11).get aef id;have u11:=u2.tt (f3.tt Qs);have m11:=m2.on (f3.tt Qs);have rest: ∀g s (x3:oY) (q:Int),ah.jx g s x3.s->Fr No yi g->IQ V (DE [at_ us 4,at_ us 6]) x3 q->J (some (AA s 0)) q g:=by
  intro g s x3 q hs fg ⟨hq0,Hz,wq⟩;have Fg:=Qs.tt fg;obtain⟨cD,w1,ew1,_,_,cw1⟩:=it 1 (by omega);obtain⟨eY,w2,ew2,_,_,cw2⟩:=it 2 (by omega);obtain⟨b_7,w7,ew7,_,_,cw7⟩:=it 7 (by omega);subst hJ;dsimp only;refine⟨⟨by omega,by omega⟩,cG.2 ⟨cD,ew1,_,cw1 Fg,⟨by omega,by omega⟩,cG.2 ⟨eY,ew2,_,cw2 Fg,az.jk (fg.get ao2 id) (az.jk (fg.get Lv id) (aB.2 (ah.jk hs ⟨⟨by omega,by omega⟩,cG.2 ⟨b_7,ew7,_,cw7 Fg,?_⟩⟩)))⟩⟩⟩;have n2:(at_ us 2).n<=2:=by
   have:0<=typeAt us 2:=by
    unfold Bb at hu;split at hu
    ·rename_i h1;have key: ∀k,2<k->typeAt (t.l.take k) 2=typeAt t.l 2:=λk hk=>by
      unfold typeAt at_;rw[ba,ba,dq,ag hk,bQ];exact ite_congr (propext (by constructor<;>(rintro⟨a,b⟩;exact⟨by omega,b⟩))) (λ_=>rfl) (λ_=>rfl)
     split at hu
     ·cases hu;exact h1.2.2
     ·split at hu
      ·rename_i h2;split at hu
       ·cases hu
       ·split at hu
        ·cases hu;rw[key _ h2.1];exact h1.2.2
        ·cases hu
      ·cases hu
    ·cases hu
   unfold typeAt at this;split at this
   ·rename_i h1;exact h1.2.1
   ·omega
  refine aC.dH λb4 GP Vz ma f13=>⟨f13.kp,?_⟩
  rw[bK (n:=(((at_ us 2).n:Nat):Int)) (by omega) (by omega)];refine aC.mA (x:=(GD us d r x3).s) ma λDv d14 f14 _=>aC.jk d14 ?_
  have zg:=Fg.1;have G14:Fr No h2 Dv:=(f3.tt (Fg.tt f13)).fresh f14 (λy e=>by omega);refine aeK (GD us d r x3) ⟨wd,wr,wq⟩ U (u2.tt G14) λGY z qz Ww hz1 f15=>aa.ex z.s ⟨_,rfl,aa.j8 (x:=z.s) λb5 Qq eb5 DJ f17=>aK.of λJ1 pA=> ?_⟩
  have G17:=f15.tt f17;have H17:=G14.tt G17;have bad: ∀g,Fr No Qq g->HQ V t=.error 3->J1 true g:=λg fg he=>by
   subst pA;try dsimp only
   rw[ag rfl];exact no g 3 (H17.tt fg) he (by decide)
  by_cases c1:qd=0
  case neg=>rw[ag (by simpa using c1)];exact bad Qq (Fr.refl _ _) (by rw[hP,hd1 c1])
  rw[ai (by simpa using c1)];by_cases c2:qr=0
  case neg=>rw[ag (by simpa using c2)];exact bad Qq (Fr.refl _ _) (by rw[hP,pJ c2];cases zx V (at_ us 3)<;>rfl)
  rw[ai (by simpa using c2)];by_cases c3:q=0
  case neg=>rw[ag (by simpa using c3)];exact bad Qq (Fr.refl _ _) (by rw[hP,Hz c3];cases zx V (at_ us 3)<;>cases zx V (at_ us 5)<;>rfl)
  rw[ai (by simpa using c3)];rw[hd0 c1,hr0 c2,hq0 c3] at hP;dsimp only at hP;cases hW:x8 V (GD us d r x3) with
  |error e=>
   rw[hW] at hP;rw[ag (by simpa using hz1 e hW)];exact bad Qq (Fr.refl _ _) hP
  |ok again=>
   rw[hW] at hP;dsimp only at hP;obtain⟨rfl,tz⟩:=Ww again hW;rw[dL];have ra:=LC hW;refine aa.jk DJ (aa.jk (x:=x.s) (H17.get fI id) (pV (x:=z) (y:=x) (tz.on f17) (tx.on (F2.tt H17)) (by omega) λh21 f21=>⟨_,rfl,?_⟩));cases hs:yV again t with
   |false=>exact bad h21 f21 (by rw[hP,ai (by rw[hs];decide)])
   |true=>
    rw[hs,ag rfl] at hP;subst pA;try dsimp only
    rw[dL];exact aC.jk ((G17.tt f21).get d14 id) (ao0 (GD us d r x3) ((H17.tt f21).get dw id) λg' f=>k1 _ hP ⟨wd,wr,wq⟩ g' ((F2.tt (H17.tt f21)).fresh f (λy e=>by omega)))
 have rI:dY [at_ us 4,at_ us 6]<=2*dY us:=by simp only[dY];omega
 have rI2:room (DE [at_ us 4,at_ us 6])<=900000:=by simp only[room,bC];omega
 refine⟨⟨by omega,by omega⟩,cG.2 ⟨a4,ea4,aa.yS (x:=y4.s) (uO Qs id hh4) ⟨⟨by omega,by omega⟩,cG.2 ⟨a6,ea6,aa.yS (x:=y6.s) (uO Qs id hh6) ?_⟩⟩⟩⟩;have T2:Mu yi [at_ us 4,at_ us 6] [y4,y6]:=two (ty4.on Qs) (ty6.on Qs);refine⟨zZ (ys:= [y4,y6]) rfl λb6 h22 eb6 L6 f22=>⟨?_,?_,trivial⟩,ah.dH λb10 h34 arW aj0 f34=>⟨f34.kp,zZ (ys:= [y4,y6]) rfl λb11 h35 arX L11 f35=> ?_⟩,trivial⟩
 ·refine rU (L6 (λ_=>True) trivial) (T2.on f22) (by omega) λh23 z tz f23=>aa.ex z.s ⟨rfl,?_,?_,trivial⟩
  ·exact Qu U (u11.tt (f22.tt f23)) (m11.on (f22.tt f23)) tz.u rI2 λx3 q hq h24 f24=>ah.ex x3.s ⟨_,rfl,ah.j8 (x:=x3.s) λb7 h26 eb7 hb7 f26=>rest h26 b7 x3 q hb7 (f22.tt (f23.tt (f24.tt f26))) hq⟩
  ·refine ah.dH λb8 h27 eb8 hb8 f27=>Qu U (u11.tt (f22.tt (f23.tt f27))) (m11.on (f22.tt (f23.tt f27))) (tz.u.on f27) rI2 λx3 q hq h28 f28=>ah.ex x3.s ⟨_,rfl,ah.mA (x:=x3.s) (f28.get hb8 id) λh29 d29 f29 _=>rest h29 b8 x3 q d29 ?_ hq⟩
   exact(f22.tt (f23.tt (f27.tt f28))).fresh f29 (λy e=>by have:=f22.1;have:=f23.1;omega)
 ·refine ah.dH λb9 h30 eb9 hb9 f30=>rU ((L6 (λ_=>True) trivial).frame f30 (λ_ _=>id)) (T2.on (f22.tt f30)) (by omega) λh31 z tz f31=>aa.ex z.s ⟨rfl,Qu U (u11.tt (f22.tt (f30.tt f31))) (m11.on (f22.tt (f30.tt f31))) tz.u rI2 λx3 q hq h32 f32=>ah.ex x3.s ⟨_,rfl,ah.mA (x:=x3.s) ((f31.tt f32).get hb9 id) λh33 d33 f33 _=>rest h33 b9 x3 q d33 ?_ hq⟩⟩
  exact(f22.tt (f30.tt (f31.tt f32))).fresh f33 (λy e=>by have:=f22.1;omega)
 ·refine rU (L11 (λ_=>True) trivial) (T2.on (f34.tt f35)) (by omega) λh36 z tz f36=>aa.ex z.s ⟨rfl,Qu U (u11.tt (f34.tt (f35.tt f36))) (m11.on (f34.tt (f35.tt f36))) tz.u rI2 λx3 q hq h37 f37=>ah.ex x3.s ⟨_,rfl,ah.mA (x:=x3.s) ((f35.tt (f36.tt f37)).get aj0 id) λh38 d38 f38 _=>rest h38 b10 x3 q d38 ?_ hq⟩⟩
  exact(f34.tt (f35.tt (f36.tt f37))).fresh f38 (λy e=>by omega)
end Bn
end
section
variable {h:aj} {R:iI}
theorem sa.walk {hH:bU} {fS hN:Nat} (hv:aV h (.cells aa.S.z.arr T.aa) λb aR=>Cl F.uv #[.slice hH fS hN,.I 0] aR λv aZ=>aa.EX λIN=> ∃IP aaL,v=.tuple #[IN.agg,.I IP,.I aaL]/\aV aZ (.cells aa.S.z.arr T.aa) λcD bJ=>aa.dV bJ (AA cD 0) IN λcB=>aa.df cB (AA cD 0) λt13=>if(aaL==0) then Cl F.rC #[.slice hH fS hN] cB λeJ cJ=> ∃t18,eJ=.bool t18/\Kp cB cJ [(some (AA cD 0))]/\aa.dV cJ (AA b 0) t13 λcQ=>aa.df cQ (AA b 0) λr0=>R (.tuple #[r0.agg,.bool t18]) cQ else aa.dV cB (AA b 0) t13 λcW=>aa.df cW (AA b 0) λia=>R (.tuple #[ia.agg,.bool false]) cW):Cl F.sa #[.slice hH fS hN] h R:=aS (lq (lq (sq (pK 9) lf))) Tryz.func293 hv
theorem qo.walk {hH:bU} {fS hN:Nat} (hv:aV h (.cells az.S.z.arr T.az) λb aR=>Cl F.sa #[.slice hH fS hN] aR λv aZ=>aa.EX λzq=> ∃zt,v=.tuple #[zq.agg,.bool zt]/\aV aZ (.cells aa.S.z.arr T.aa) λcD bJ=>aa.dV bJ (AA cD 0) zq λcB=>aa.df cB (AA cD 0) λt14=>Cl F.th #[t14.agg] cB λeJ cJ=>az.EX λBu=> ∃ue,eJ=.tuple #[Bu.agg,.I ue]/\aV cJ (.cells az.S.z.arr T.az) λeY cQ=>az.dV cQ (AA eY 0) Bu λcW=>az.df cW (AA eY 0) λt18=>if zt then az.dV cW (AA b 0) t18 λdA=>az.df dA (AA b 0) λr0=>R (.tuple #[r0.agg,.bool (ue==0)]) dA else az.dV cW (AA b 0) t18 λfc=>az.df fc (AA b 0) λia=>R (.tuple #[ia.agg,.bool false]) fc):Cl F.qo #[.slice hH fS hN] h R:=aS (lq (lq (lq ll))) Tryz.func252 hv
theorem za.walk {hH:bU} {fS hN:Nat} (hv:Cl F.sa #[.slice hH fS hN] h λv aR=>aa.EX λMn=> ∃GR,v=.tuple #[Mn.agg,.bool GR]/\aV aR (.cells aa.S.z.arr T.aa) λb aZ=>aa.dV aZ (AA b 0) Mn λbJ=> ∃t12,ak bJ (AA b 1)=some (.U t12)/\if GR then aa.df bJ (AA b 0) λt15=>Hu bJ b 1 λt17=>Cl F.fH #[.U t17] bJ λeJ cB=>aa.EX λt18=>eJ=t18.agg/\Kp bJ cB [(some (AA b 0)),(some (AA b 1))]/\Cl F.iB #[t15.agg,t18.agg] cB λgR cJ=> ∃t19,gR=.bool t19/\Kp cB cJ [(some (AA b 1))]/\if t19 then∃t23,ak cJ (AA b 1)=some (.U t23)/\R (.tuple #[.U t12,.bool (decide (t23<=1099511627776))]) cJ else R (.tuple #[.U t12,.bool false]) cJ else R (.tuple #[.U t12,.bool false]) bJ):Cl F.za #[.slice hH fS hN] h R:=aS (lq (lq (sq (pK 17) lf))) Tryz.func253 hv
theorem wX.walk {hH:bU} {fS hN:Nat} (hv:Cl F.sa #[.slice hH fS hN] h λv aR=>aa.EX λpQ=> ∃tC,v=.tuple #[pQ.agg,.bool tC]/\aV aR (.cells aa.S.z.arr T.aa) λb aZ=>aa.dV aZ (AA b 0) pQ λbJ=>aK (λ(t26:Bool) (cB:aj)=>if t26 then R (.tuple #[.U 0,.U 0,.bool false]) cB else Hl cB b 3 λBj zC Fk=>Bd 0 zC/\aP Bj λa=>JL cB ((a.add (toNat 0*4)).add 1) λt31=>Hl cB b 3 λrF pO rG=>Bd 1 pO/\aP rF λku=>JL cB ((ku.add (toNat 1*4)).add 1) λt36=>aa.df cB (AA b 0) λt39=>aV cB (.cells #[.U t31,.U t36] T.uint64) λcD cJ=>Kp cB cJ [(some (AA b 0))]/\Cl F.py #[.slice (some (AA cD 0)) 2 2] cJ λeJ cQ=>aa.EX λt43=>eJ=t43.agg/\Kp cJ cQ [(some (AA b 0))]/\Cl F.iB #[t39.agg,t43.agg] cQ λgR cW=> ∃t44,gR=.bool t44/\if t44 then if(decide (t31≥1)) then if(decide (t31<=255)) then R (.tuple #[.U t31,.U t36,.bool (decide (t36<=t31))]) cW else R (.tuple #[.U t31,.U t36,.bool false]) cW else R (.tuple #[.U t31,.U t36,.bool false]) cW else R (.tuple #[.U t31,.U t36,.bool false]) cW) (λJ=>if(!tC) then J true bJ else∃t18,ak bJ (AA b 0)=some (.I t18)/\if(t18 !=4) then J true bJ else∃zB xe DV,ak bJ (AA b 3)=some (.slice zB xe DV)/\J ((xe:Int) !=2) bJ)):Cl F.wX #[.slice hH fS hN] h R:=aS (lq (lq (sq (sq (.join [(26,.one (.bool))] lf) (cq ll lf)) (sq (pK 12) (sq (pK 24) lf))))) Tryz.func254 hv
theorem py.walk {Db:bU} {xQ Im:Nat} (hv:aV h (.cells aa.S.z.arr T.aa) λb aR=>Cl F.fN #[.Z] aR λv aZ=>aa.EX λt6=>v=t6.agg/\aV aZ (.cells aa.S.z.arr T.aa) λcD bJ=>aa.dV bJ (AA cD 0) t6 λcB=> ∃(I:Int->aj->Prop) (mu:Int->aj->Nat),I 0 cB/\∀(t9:Int) (cJ:aj),I t9 cJ->if(decide (t9<(xQ:Int))) then Bd t9 xQ/\aP Db λa=>JL cJ (a.add (toNat t9*1)) λt12=>Hl cJ cD 3 λBh ve Bi=>Cl F.fH #[.U t12] cJ λeJ cQ=>aa.EX λt16=>eJ=t16.agg/\Kp cJ cQ [(some (AA cD 3))]/\aV cQ (.cells t16.arr T.aa) λeY cW=>Kp cQ cW [(some (AA cD 3))]/\aX Tryz.prog (Builtin.append_ #[T.cE,T.cE] T.cE #[.slice Bh ve Bi,.slice (some (AA eY 0)) 1 1]) cW λgR dA=> ∃qq pd rM,gR=.slice qq pd rM/\aH dA (AA cD 3) (.slice qq pd rM) λfc=>(I (wrap .i64 (t9+1)) fc/\mu (wrap .i64 (t9+1)) fc<mu t9 cJ) else aa.df cJ (AA cD 0) λt21=>aa.dV cJ (AA b 0) t21 λcP=>aa.df cP (AA b 0) λr0=>R (r0.agg) cP):Cl F.py #[.slice Db xQ Im] h R:=aS (lq (lq (sq (lq (bq (.loop [(9,.one (.int .i64))] (lq (sq (cq lf lf) (sq (bq (lq (pK 8))) lf)))))) ll))) Tryz.func209 hv
theorem tf.walk {kind:Int} {hH:bU} {fS hN:Nat} (hv:aK (λ(ok:Bool) (aR:aj)=>if ok then R (.bool (decide ((fS:Int)<=200))) aR else R (.bool false) aR) (λJ=>aK (λ(ad8:Bool) (aZ:aj)=>J ad8 aZ) (λjo=>if(kind==6) then Cl F.qo #[.slice hH fS hN] h λv bJ=>az.EX λpQ=> ∃tC,v=.tuple #[pQ.agg,.bool tC]/\jo tC bJ else aK (λ(VB:Bool) (cB:aj)=>jo VB cB) (λBo=>if(kind==7) then Cl F.za #[.slice hH fS hN] h λeJ cJ=> ∃vK vi,eJ=.tuple #[.U vK,.bool vi]/\Bo vi cJ else aK (λ(Ls:Bool) (cQ:aj)=>Bo Ls cQ) (λGG=>if(kind==10) then Cl F.wX #[.slice hH fS hN] h λgR cW=> ∃KN Ln Om,gR=.tuple #[.U KN,.U Ln,.bool Om]/\GG Om cW else GG true h))))):Cl F.tf #[.U kind,.slice hH fS hN] h R:=aS (lq (lq (sq (lq (.join [(5,.one (.bool))] (bq (lq (.join [(5,.one (.bool))] (cq lf (lq (.join [(5,.one (.bool))] (cq lf (lq (.join [(5,.one (.bool))] (cq lf lf)))))))))))) ll))) Tryz.func201 hv
theorem te.walk {Db:bU} {xQ Im:Nat} (hv:Cl F.gS #[.slice Db xQ Im,.func (.func F.km) #[] #[]] h λv aR=> ∃t4,v=.bool t4/\R (.bool (!t4)) aR):Cl F.te #[.slice Db xQ Im] h R:=aS (lq ll) Tryz.func200 hv
theorem km.walk {n:Int} (hv:if(decide (n<1)) then R (.bool true) h else R (.bool (decide (n>255))) h):Cl F.km #[.U n] h R:=aS (lq ll) Tryz.func251 hv
theorem sE.walk {b:aE.S} (hv:aV h (.cells b.arr T.aE) λcD aR=>Hu aR cD 0 λt4=>Hu aR cD 1 λt6=>aV aR (.cells #[.U t4,.U t6] T.uint64) λeY aZ=>Cl F.te #[.slice (some (AA eY 0)) 2 2] aZ λv bJ=> ∃t8,v=.bool t8/\if t8 then∃t11,ak bJ (AA cD 2)=some (.U t11)/\if((wrap .u64 ((BitVec.ofInt (IntKind.bits .u64) t11 &&& ~~~ BitVec.ofInt (IntKind.bits .u64) 23).toNat:Int))==0) then∃t17,ak bJ (AA cD 3)=some (.I t17)/\if(decide (t17≥0)) then∃t22,ak bJ (AA cD 3)=some (.I t22)/\if(decide (t22<=2)) then Hu bJ cD 0 λt27=>Hl bJ cD 4 λBl yd Cz=>Cl F.tf #[.U t27,.slice Bl yd Cz] bJ λeJ cB=> ∃t30,eJ=.bool t30/\R (.bool t30) cB else R (.bool false) bJ else R (.bool false) bJ else R (.bool false) bJ else R (.bool false) bJ):Cl F.sE #[b.agg] h R:=aS (lq ll) Tryz.func175 hv
theorem sF.walk {b : aE.S} (hv :
 aV h (.cells b.arr T.aE) λcD aR =>
 aV aR (.cells aa.S.z.arr T.aa) λeY aZ =>
 aE.df aZ ⟨cD, 0, none⟩ λt5 =>
 Cl F.sE #[t5.agg] aZ λv bJ =>
 ∃ t6, v = .bool t6 ∧
 if (!t6) = true then
 aa.dV bJ ⟨eY, 0, none⟩ aa.S.z λcB =>
 aa.df cB ⟨eY, 0, none⟩ λr0 =>
 R (.tuple #[r0.agg, .int .i64 3]) cB
 else
 ∃ t10, ak bJ ⟨cD, 0, none⟩ = some (.int .u64 t10) ∧
 ∃ t12, ak bJ ⟨cD, 1, none⟩ = some (.int .u64 t12) ∧
 ∃ t14, ak bJ ⟨cD, 2, none⟩ = some (.int .u64 t14) ∧
 ∃ t16, ak bJ ⟨cD, 3, none⟩ = some (.int .i64 t16) ∧
 aV bJ (.cells #[.int .u64 t10, .int .u64 t12, .int .u64 t14, .int .u64 (IntKind.wrap .u64 t16)] T.uint64) λjQ cJ =>
 Cl F.py #[.slice (some ⟨jQ, 0, none⟩) 4 4] cJ λeJ cQ =>
 aa.EX λt19 =>
 eJ = t19.agg ∧
 ∃ zB xe DV, ak cQ ⟨cD, 4, none⟩ = some (.slice zB xe DV) ∧
 Cl F.qk #[.slice zB xe DV] cQ λgR cW =>
 aa.EX λt24 =>
 gR = t24.agg ∧
 aV cW (.cells t24.arr T.aa) λpH dA =>
 aX Tryz.prog (Builtin.append_ #[T.cE, T.cE] T.cE #[.slice t19.BN t19.xO t19.Ax, .slice (some ⟨pH, 0, none⟩) 1 1]) dA λkU fc =>
 ∃ x9 rE ya, kU = .slice x9 rE ya ∧
 Cl F.qF #[.slice x9 rE ya, .int .i64 3] fc λot cP =>
 aa.EX λBv =>
 ∃ zP, ot = .tuple #[Bv.agg, .int .i64 zP] ∧
 aa.dV cP ⟨eY, 0, none⟩ Bv λcV =>
 aa.df cV ⟨eY, 0, none⟩ λia =>
 R (.tuple #[ia.agg, .int .i64 zP]) cV) : Cl F.sF #[b.agg] h R :=
 aS (.seq .leaf (.seq (.seq .leaf (.cond (.seq .leaf .leaf) .leaf)) (.seq .leaf (.seq .leaf .leaf)))) Tryz.func179 hv
theorem wW.walk {x:aa.S} (hv:aV h (.cells x.arr T.aa) λb aR=>aV aR (.cells aE.S.z.arr T.aE) λcD aZ=>aa.df aZ (AA b 0) λt10=>Cl F.qG #[t10.agg,.I 3] aZ λv bJ=> ∃AZ yC ahr tC,v=.tuple #[.slice AZ yC ahr,.I tC]/\if(tC !=0) then aE.dV bJ (AA cD 0) aE.S.z λcB=>aE.df cB (AA cD 0) λr0=>R (.tuple #[r0.agg,.I tC]) cB else aK (λ(t19:Bool) (cJ:aj)=>if t19 then aE.dV cJ (AA cD 0) aE.S.z λcQ=>aE.df cQ (AA cD 0) λia=>R (.tuple #[ia.agg,.I 3]) cQ else aK (λ(eY:bU) (cW:aj)=>aP eY λa=>aE.df cW a λt55=>Cl F.sF #[t55.agg] cW λeJ dA=>aa.EX λIo=> ∃Ip,eJ=.tuple #[Io.agg,.I Ip]/\aV dA (.cells aa.S.z.arr T.aa) λjQ fc=>aa.dV fc (AA jQ 0) Io λcP=>aK (λ(t66:Bool) (cV:aj)=>if t66 then aE.dV cV (AA cD 0) aE.S.z λdD=>aE.df dD (AA cD 0) λoS=>R (.tuple #[oS.agg,.I 3]) dD else aP eY λku=>aE.df cV ku λt68=>aE.dV cV (AA cD 0) t68 λdF=>aE.df dF (AA cD 0) λpG=>R (.tuple #[pG.agg,.I 0]) dF) (λBo=>if(Ip !=0) then Bo true cP else aa.df cP (AA jQ 0) λt62=>aa.df cP (AA b 0) λt63=>Cl F.iB #[t62.agg,t63.agg] cP λgR fC=> ∃t64,gR=.bool t64/\Bo (!t64) fC)) (λjo=>Bd 0 yC/\aP AZ λpE=>JL cJ ((pE.add (toNat 0*4)).add 1) λt34=>Bd 1 yC/\aP AZ λrY=>JL cJ ((rY.add (toNat 1*4)).add 1) λt38=>Bd 2 yC/\aP AZ λvS=>JL cJ ((vS.add (toNat 2*4)).add 1) λt42=>Bd 3 yC/\aP AZ λBJ=>JL cJ ((BJ.add (toNat 3*4)).add 1) λt46=>Bd 4 yC/\aP AZ λKn=>L3 cJ ((Kn.add (toNat 4*4)).add 2) λNV Lo NW=>(Cl F.cu #[.slice NV Lo NW] cJ λkU gD=> ∃yg yh Bp,kU=.slice yg yh Bp/\Kp cJ gD [(some ((BJ.add (toNat 3*4)).add 1)),(some ((vS.add (toNat 2*4)).add 1)),(some ((rY.add (toNat 1*4)).add 1)),(some ((pE.add (toNat 0*4)).add 1))]/\aV gD (.cells aE.S.z.arr T.aE) λpH gX=>Kp gD gX [(some ((BJ.add (toNat 3*4)).add 1)),(some ((vS.add (toNat 2*4)).add 1)),(some ((rY.add (toNat 1*4)).add 1)),(some ((pE.add (toNat 0*4)).add 1))]/\aE.dV gX (AA pH 0) ⟨t34,t38,t42,(wrap .i64 t46),yg,yh,Bp⟩ λgQ=>jo (some (AA pH 0)) gQ)/\(aV cJ (.cells aE.S.z.arr T.aE) λBz fh=>Kp cJ fh [(some ((Kn.add (toNat 4*4)).add 2)),(some ((BJ.add (toNat 3*4)).add 1)),(some ((vS.add (toNat 2*4)).add 1)),(some ((rY.add (toNat 1*4)).add 1)),(some ((pE.add (toNat 0*4)).add 1))]/\Cl F.cu #[.slice NV Lo NW] fh λot jn=> ∃Zo Zp Zq,ot=.slice Zo Zp Zq/\Kp fh jn [(some ((BJ.add (toNat 3*4)).add 1)),(some ((vS.add (toNat 2*4)).add 1)),(some ((rY.add (toNat 1*4)).add 1)),(some ((pE.add (toNat 0*4)).add 1))]/\aE.dV jn (AA Bz 0) ⟨t34,t38,t42,(wrap .i64 t46),Zo,Zp,Zq⟩ λju=>jo (some (AA Bz 0)) ju)/\True)) (λJ=>if((yC:Int) !=5) then J true bJ else Bd 4 yC/\aP AZ λRL=> ∃t27,ak bJ (RL.add (toNat 4*4))=some (.I t27)/\J (t27 !=2) bJ)):Cl F.wW #[x.agg] h R:=aS (lq (lq (sq (bq (lq (cq ll (sq (.join [(19,.one (.bool))] lf) (cq ll lf))))) (sq (.join [(6,.one (.ptr))] (.qW (jh 21 0 (.alts (.fork 21 (jh 3 22 .done) (.fork 23 (.op 21 (.op 22 (.op 24 .done))) .mD)))))) (sq (lq (sq (.join [(66,.one (.bool))] lf) (cq ll lf))) ll))))) Tryz.func195 hv
end
section
namespace Bn
open Cb
open qI (Ev dj uG)
variable {V:List UInt8→Bool} {h h0 h':aj} {R:iI} {D:Nat→Prop}
theorem EL (bs:List UInt8):room (gl V bs)<=10*bs.length+9:=by
 unfold gl;split
 ·rename_i h;have:=(JR h).1;omega
 ·simp[V4,room,dY]
theorem LF {p:bU} {l c:Nat} {bs:List UInt8} (U:xP V h0) (u:Fr No h0 h) (row:Row h p (bc bs)) (hl:l=bs.length) (cap:bs.length<=c) (hlen:bs.length<=80000)
  (hk: ∀h' z,SX h' (gl V bs) z->Fr No h h'->R (.tuple #[z.s.agg,.bool (qR V bs)]) h'):Cl F.sa #[.slice p l c] h R:=by
 refine sa.walk (aa.dH λb h1 eb hb f1=>Lm (U.mono (u.tt f1)) (row.frame f1 (λ_ _=>id)) hl cap (by omega) (λh2 t x nx hr tx f2=>aa.ex x.s ⟨_,_,rfl,aa.j8 (x:=x.s) λb1 h4 uf dw f4=>aa.jk dw ?_⟩) (λh2 e he f2=>aa.ex zv.s ⟨_,_,rfl,aa.j8 (x:=zv.s) λb1 h4 uf dw f4=>aa.jk dw ?_⟩))
 ·have F4:=f1.tt (f2.tt f4);have ei:gl V bs=t:=by unfold gl;rw[hr]
  rw[ei] at hk;rw[jy];refine SP (U.mono (u.tt F4)) (row.frame F4 (λ_ _=>id)) hl cap (by omega) λh5 f5=>⟨_,rfl,f5.kp,aa.mA (x:=x.s) ((f2.tt (f4.tt f5)).get hb id) λh6 d6 f6 _=>aa.jk d6 (hk h6 x ?_ ((F4.tt f5).fresh f6 (λy e=>by omega)))⟩
  have zb:=aI hb;exact((tx.on f4).on f5).frame f6 (λy hy e=>by omega)|>.u
 ·have F4:=f1.tt (f2.tt f4);have ei:gl V bs=V4:=by unfold gl;rw[he]
  have es:qR V bs=false:=by unfold qR;rw[he]
  rw[ei,es] at hk;rw[ai (λq=>Dm he (eq_of_beq q))];exact aa.mA (x:=zv.s) ((f2.tt f4).get hb id) λh6 d6 f6 _=>aa.jk d6 (hk h6 zv (xK (n:=0)) (F4.fresh f6 (λy e=>by omega)))
theorem Tp {p:bU} {l c:Nat} {bs:List UInt8} (U:xP V h0) (u:Fr No h0 h) (mx:Gi.Mx h) (row:Row h p (bc bs)) (hl:l=bs.length) (cap:bs.length<=c) (hlen:bs.length<=80000)
  (hk: ∀h' (e:Ev),Fr No h h'->R (.tuple #[e.s.agg,.bool (qR V bs && (zx V (gl V bs)).isSome)]) h'):Cl F.qo #[.slice p l c] h R:=by
 have ri:=EL (V:=V) bs;refine qo.walk (az.dH λb h1 eb hb f1=>LF U (u.tt f1) (row.frame f1 (λ_ _=>id)) hl cap hlen λh2 z tz f2=>aa.ex z.s ⟨_,rfl,aa.j8 (x:=z.s) λb1 h4 uf dw f4=>aa.jk dw (Qt U (u.tt (f1.tt (f2.tt f4))) (mx.on (f1.tt (f2.tt f4))) (tz.on f4) (by omega) λe q ⟨q0,q1,_⟩ h5 f5=>az.ex e.s ⟨_,rfl,az.j8 (x:=e.s) λb2 h7 FE fI f7=>az.jk fI ?_⟩)⟩);have F:=f2.tt (f4.tt (f5.tt f7));cases hs:qR V bs with
 |false=>
  rw[hs] at hk;rw[dL];exact VC (x:=e) (F.get hb id) λh8 f8=>hk h8 e ((f1.tt F).fresh f8 (λy e=>by omega))
 |true=>
  rw[hs] at hk;rw[ag rfl];refine VC (x:=e) (F.get hb id) λh8 f8=> ?_
  have:=hk h8 e ((f1.tt F).fresh f8 (λy e=>by omega));have eq:(true && (zx V (gl V bs)).isSome)=(q==0):=by
   by_cases c0:q=0
   ·rw[q0 c0,c0];rfl
   ·rw[q1 c0,beq_eq_false_iff_ne.2 c0];rfl
  rw[eq] at this;exact this
theorem alC {p:bU} {l c:Nat} {bs:List UInt8} (U:xP V h0) (u:Fr No h0 h) (row:Row h p (bc bs)) (hl:l=bs.length) (cap:bs.length<=c) (hlen:bs.length<=80000)
  (hk: ∀h',Fr No h h'->R (.tuple #[.U ((gl V bs).n:Int),.bool (ajR V bs)]) h'):Cl F.za #[.slice p l c] h R:=by
 have ri:=EL (V:=V) bs;refine za.walk (LF U u row hl cap hlen λh2 z tz f2=>aa.ex z.s ⟨_,rfl,aa.j8 (x:=z.s) λb1 h4 uf dw f4=> ?_⟩);unfold ajR at hk;obtain⟨_,zn,_⟩:=kT.kn tz;rw[<-zn] at hk;refine⟨_,af dw rfl,?_⟩;cases hs:qR V bs with
 |false=>
  rw[hs] at hk;rw[dL];exact hk h4 (f2.tt f4)
 |true=>
  rw[hs] at hk;rw[ag rfl];refine aa.jk dw ⟨_,af dw rfl,jw λh5 f5=>aa.ex (nv z.n).s ⟨rfl,f5.kp,pV (x:=z) (y:=nv z.n) (s:=num z.n) ((tz.on f4).on f5) (xK (h:=h5) (n:=z.n)) (by omega) λh6 f6=>⟨_,rfl,f6.kp,?_⟩⟩⟩;have F6:=f2.tt (f4.tt (f5.tt f6));cases he:yV (gl V bs) (num z.n) with
  |false=>
   rw[he] at hk;rw[dL];exact hk h6 F6
  |true=>
   rw[he] at hk;rw[ag rfl];refine⟨_,af ((f5.tt f6).get dw id) rfl,?_⟩;rw[show decide ((z.n:Int)<=1099511627776)=decide (z.n<=1099511627776) from vC z.n 1099511627776];exact hk h6 F6
abbrev nu (l:List Nat):List Value:=l.map λ(n:Nat)=> .int .u64 (n:Int)
theorem Tq {p:bU} {n c:Nat} {l:List Nat} (row:Row h p (nu l)) (hn:n=l.length) (hl:l.length<=100000)
  (hk: ∀h' z,Ee h' (λy=>h.size<=y) (RB l) z->Fr No h h'->R z.s.agg h'):Cl F.py #[.slice p n c] h R:=by
 subst hn;refine py.walk (aa.dH λb h1 eb hb f1=>rU (ts:= []) (ys:= []) (D:=λ_=>True) ⟨rfl,.inl rfl,λe=>absurd rfl e,bh _⟩ .nil (by simp[dY]) λh2 z tz f2=>aa.ex z.s ⟨rfl,aa.j8 (x:=z.s) λb1 h4 uf dw f4=> ?_⟩);have zb:=aI hb;have z1:=f1.1;have z2:=f2.1;have z4:=f4.1;have PT:=aI dw;have F4:=f1.tt (f2.tt f4);have tz4:Ee h4 (λy=>h1.size<=y/\y≠b1) (DE []) z:=by
  obtain⟨⟨a1,a2,a3,a4⟩,zs,a5,a6,a7,a8⟩:=tz;refine⟨⟨a1,a2,a3,((Sy a4).mono λy hy=>by omega).frame f4 (λ_ _=>id)⟩,zs,a5,a6.frame f4 (λ_ _=>id),λy hy=>⟨a7 y hy,by have:=a6.gm hy;omega⟩,(dG.mono (λy hy=>by have h1:=hy.1.1;have h2:=hy.2;exact⟨⟨h1,by omega⟩,hy.1.2⟩) a8.lt).on f4⟩
 obtain⟨zs,ez,Lz⟩:=aeD (g0:=h1) tz4 dw ((f2.tt f4).mono λ_ _=>False.elim);have e4:z.k=4:=tz.1.1;have en:z.n=0:=tz.1.2.1;have e0:z.v.b= []:=tz.1.2.2.1;refine⟨λt g=> ∃(i:Nat) (ys:List CV) (q:bU) (cl:Nat),t=(i:Int)/\i<=l.length/\ys.length=i/\Lc h1 g b1 z.k z.n z.v ((l.take i).map num) ys q cl,λt _=>l.length - t.toNat,⟨0,zs,z.q,z.cl,rfl,cj _,?_,by rw[fM];exact Lz⟩,?_⟩
 ·have:=Lz.tr.len;exact this.symm
 rintro _ g ⟨i,ys,q,cl,rfl,hi,hy,L⟩;by_cases nQ:i<l.length
 case neg=>
  rw[ai (λe=>nQ (by have:=of_decide_eq_true e;omega))];rw[bR (by omega)] at L;have Vx:z.v.ok g (λy=>h1.size<=y/\y≠b1):=⟨by rw[e0];exact Row.nil,λe=>absurd e0 e,tz.1.2.2.2.cap⟩;have tw:=aeE (k':=z.n) L Vx;rw[e4,en,e0] at tw;refine aa.jk (x:=CV.s ⟨z.k,z.n,z.v,q,ys.length,cl⟩) L.dE (fin (z:=⟨z.k,z.n,z.v,q,ys.length,cl⟩) (t:=RB l) (D:=λy=>h1.size<=y/\y≠b1) (L.fr.get hb (by omega)) (by rw[e4,en];exact tw) (λy hy e=>by omega) λg' tg fg=>hk g' _ (tg.mono λy hy=>by omega) ((f1.fresh L.fr (λy e=>by omega)).fresh fg (λy e=>by omega)))
 rw[jy];have FG:Fr No h g:=f1.fresh L.fr (λy e=>by omega);obtain⟨a,rfl⟩:=row.some (by intro e;have:=bp List.length e;rw[aN,bC] at this;omega);have hc:ak g (a.add (i*1))=some (.U ((l[i]:Nat):Int)):=by
  have:=(row.frame FG (λ_ _=>id)).cell (j:=i) (v:=.U ((l[i]:Nat):Int)) (by rw[aO,au nQ];rfl);rw[cN];exact this
 refine⟨⟨by omega,by omega⟩,cG.2 ⟨a,rfl,_,hc,_,_,_,af L.dE rfl,jw λh6 f6=>aa.ex (nv l[i]).s ⟨rfl,f6.kp,?_⟩⟩⟩;refine aeF (L.on f6) (by omega) (akX (n:=l[i])).toA λg' QQ q' DN L' hl' _ _=> ?_
 rw[bK (n:=(i:Int)+1) (by omega) (by omega)];refine⟨⟨i+1,QQ,q',DN,by omega,by omega,by omega,?_⟩,by show l.length - Int.toNat ((i:Int)+1)<l.length - Int.toNat (i:Int);omega⟩;rw[bY,au nQ,bm];exact L'
theorem VL {l:List Nat} {n:Nat} {K:Nat->aj->Prop} {c:Array Value} (hc:c=(nu l).toArray) (hk: ∀b h',Row h' (some (AA b 0)) (nu l)->Fr No h h'->K b h'):aV h (.cells c T.uint64) K:=by
 refine cX (hk _ _ (by rw[hc];exact rV) (Fr.push _ _))
theorem ahs {p:bU} {l c:Nat} {bs:List UInt8} (U:xP V h0) (u:Fr No h0 h) (row:Row h p (bc bs)) (hl:l=bs.length) (cap:bs.length<=c) (hlen:bs.length<=80000)
  (hk: ∀h' (a b:Nat),Fr No h h'->R (.tuple #[.U (a:Int),.U (b:Int),.bool (ace V bs)]) h'):Cl F.wX #[.slice p l c] h R:=by
 have ri:=EL (V:=V) bs;have rl:=yT (t:=gl V bs);refine wX.walk (LF U u row hl cap hlen λh2 z tz f2=>aa.ex z.s ⟨_,rfl,aa.j8 (x:=z.s) λb1 h4 uf dw f4=>aK.of λJ hJ=> ?_⟩);have F4:=f2.tt f4;unfold ace at hk;have no: ¬(qR V bs=true/\(gl V bs).k=4/\(gl V bs).l.length=2)->J true h4:=λhn=>by
  subst hJ;dsimp only;rw[ag rfl];have:=hk h4 0 0 F4;rw[show(qR V bs && decide ((gl V bs).k=4/\(gl V bs).l.length=2) && yV (gl V bs) (RB [yK (gl V bs),Kf (gl V bs)]) && decide (1<=yK (gl V bs)/\yK (gl V bs)<=255/\Kf (gl V bs)<=yK (gl V bs)))=false by
   by_cases a:qR V bs=true
   ·rw[decide_eq_false (λe=>hn ⟨a,e⟩)];simp
   ·simp[a]] at this
  exact this
 obtain⟨zk,zn,zb,zl,zv',ys,L,TS⟩:=kT.kn (tz.on f4);cases hs:qR V bs with
 |false=>rw[jy];exact no (λe=>by rw[hs] at e;cases e.1)
 |true=>
 rw[dL];refine⟨_,af dw rfl,?_⟩;rw[show z.s.f0=(gl V bs).k from zk];by_cases k4:(gl V bs).k=4
 case neg=>rw[ag (by simpa using k4)];exact no (λe=>k4 e.2.1)
 rw[ai (by simpa using k4)];refine⟨_,_,_,af dw rfl,?_⟩;have sl:z.s.xO=(gl V bs).l.length:=zl;rw[sl];by_cases l2:(gl V bs).l.length=2
 case neg=>rw[show((((gl V bs).l.length:Nat):Int) !=2)=true by simp only[fK,iq];omega];exact no (λe=>l2 e.2.2)
 rw[show((((gl V bs).l.length:Nat):Int) !=2)=false by simp only[bne_eq_false_iff_eq];omega];clear no;rw[hs,ay ⟨k4,l2⟩] at hk;subst hJ;dsimp only;rw[dL];obtain⟨a0,y0,ea0,hh0,Yt,_⟩:=elem L TS (i:=0) (by omega);obtain⟨a1,y1,Yu,V0,VD,_⟩:=elem L TS (i:=1) (by omega);have n0:=(kT.kn Yt).2.1;have n1:=(kT.kn VD).2.1;have hc0:ak h4 ((a0.add (0*4)).add 1)=some (.U ((yK (gl V bs):Nat):Int)):=by have:=hh0.2.1;unfold yK;rw[<-n0];exact this
 have hc1:ak h4 ((a1.add (1*4)).add 1)=some (.U ((Kf (gl V bs):Nat):Int)):=by have:=V0.2.1;unfold Kf;rw[<-n1];exact this
 refine⟨_,_,_,af dw rfl,⟨by omega,by omega⟩,cG.2 ⟨a0,ea0,_,hc0,_,_,_,af dw rfl,⟨by omega,by omega⟩,cG.2 ⟨a1,Yu,_,hc1,aa.jk dw ?_⟩⟩⟩;refine VL (l:= [yK (gl V bs),Kf (gl V bs)]) (n:=2) rfl λb2 h5 r5 f5=>⟨f5.kp,Tq r5 rfl (by show 2<=_;omega) λh6 w tw f6=>aa.ex w.s ⟨rfl,f6.kp,pV (x:=z) (y:=w) ((tz.on f4).on (f5.tt f6)) tw.u (by omega) λh7 f7=>⟨_,rfl,?_⟩⟩⟩
 have F7:=F4.tt (f5.tt (f6.tt f7));have fin:=hk h7 (yK (gl V bs)) (Kf (gl V bs)) F7;cases he:yV (gl V bs) (RB [yK (gl V bs),Kf (gl V bs)]) with
 |false=>rw[he] at fin;rw[dL];exact fin
 |true=>
 rw[he] at fin;rw[ag rfl];change if(decide (((yK (gl V bs):Nat):Int)≥1))=true then(if(decide (((yK (gl V bs):Nat):Int)<=255))=true then _ else _) else _
 by_cases c1:1<=yK (gl V bs)
 case neg=>rw[decide_eq_false (λe=>c1 e.1)] at fin;rw[dL];exact fin
 rw[jy];by_cases c2:yK (gl V bs)<=255
 case neg=>rw[decide_eq_false (λe=>c2 e.2.1)] at fin;rw[dL];exact fin
 rw[jy];have:decide (1<=yK (gl V bs)/\yK (gl V bs)<=255/\Kf (gl V bs)<=yK (gl V bs))=decide (((Kf (gl V bs):Nat):Int)<=((yK (gl V bs):Nat):Int)):=by
  rw[vC];exact decide_eq_decide.2 ⟨λe=>e.2.2,λe=>⟨c1,c2,e⟩⟩
 rw[this] at fin;exact fin
theorem abd {ty:Nat} {p:bU} {l c:Nat} {bs:List UInt8} (U:xP V h0) (u:Fr No h0 h) (mx:Gi.Mx h) (row:Row h p (bc bs)) (hl:l=bs.length) (cap:bs.length<=c) (hlen:bs.length<=80000)
  (hk: ∀h',Fr No h h'->R (.bool (Kg V ty bs)) h'):Cl F.tf #[.U (ty:Int),.slice p l c] h R:=by
 subst hl;refine tf.walk (aK.of λJ hJ=>aK.of λJ1 pA=> ?_);unfold Kg at hk;have fin: ∀q g,Fr No h g->(Kg V ty bs=(q && decide (bs.length<=200)))->J q g:=λq g fg e=>by
  subst hJ;have:=hk g fg;unfold Kg at e;rw[e] at this;rw[show decide ((bs.length:Int)<=200)=decide (bs.length<=200) from vC bs.length 200];cases q with
  |false=>exact this
  |true=>exact this
 by_cases c6:ty=6
 ·subst c6;rw[jy];refine Tp U u mx row rfl cap hlen λh1 e f1=>az.ex e.s ⟨_,rfl,?_⟩
  subst pA;exact fin _ h1 f1 rfl
 rw[ai (by simp only[dz];omega)];refine aK.of λJ2 zX=> ?_
 by_cases c7:ty=7
 ·subst c7;rw[jy];refine alC U u row rfl cap hlen λh1 f1=>⟨_,_,rfl,?_⟩
  subst zX pA;exact fin _ h1 f1 rfl
 rw[ai (by simp only[dz];omega)];refine aK.of λJ3 SO=> ?_
 by_cases Ws:ty=10
 ·subst Ws;rw[jy];refine ahs U u row rfl cap hlen λh1 a b f1=>⟨_,_,_,rfl,?_⟩
  subst SO zX pA;exact fin _ h1 f1 rfl
 rw[ai (by simp only[dz];omega)];subst SO zX pA;exact fin true h (Fr.refl _ _) (by unfold Kg;rw[ai c6,ai c7,ai Ws])
theorem Hh {p:bU} {n c:Nat} {l:List Nat} (row:Row h p (nu l)) (hn:n=l.length) (hl:l.length<=100000)
  (hk:R (.bool (l.all vE)) h):Cl F.te #[.slice p n c] h R:=by
 subst hn;refine te.walk (gS.within.walk (iu.within.walk ?_));refine⟨λt g=> ∃i:Nat,t=(i:Int)/\i<=l.length/\g=h/\(l.take i).all vE=true,λt _=>l.length - t.toNat,⟨0,rfl,cj _,rfl,by rw[fM];rfl⟩,?_⟩;rintro _ g ⟨i,rfl,hi,rfl,ha⟩;by_cases nQ:i<l.length
 ·rw[jy];obtain⟨a,rfl⟩:=row.some (by intro e;have:=bp List.length e;rw[aN,bC] at this;omega);have hc:ak g (a.add (i*1))=some (.U ((l[i]:Nat):Int)):=by
   have:=row.cell (j:=i) (v:=.U ((l[i]:Nat):Int)) (by rw[aO,au nQ];rfl);rw[cN];exact this
  have key: ∀q,q=(!vE l[i])->(if q=true then∃t7,Value.I (i:Int)=.I t7/\∃t4,Value.bool (decide (t7≥0))=.bool t4/\R (.bool (!t4)) g else((∃k:Nat,IntKind.wrap .i64 ((i:Int)+1)=(k:Int)/\k<=l.length/\g=g/\(l.take k).all vE=true)/\l.length - (IntKind.wrap .i64 ((i:Int)+1)).toNat<l.length - (i:Int).toNat)):=by
   rintro q rfl;cases e:vE l[i] with
   |false=>
    rw[jy];refine⟨_,rfl,_,rfl,?_⟩;rw[ay (by omega)];have:l.all vE=false:=List.all_eq_false.2 ⟨l[i],fw nQ,by rw[e];decide⟩;rw[this] at hk;exact hk
   |true=>
    rw[dL,bK (n:=(i:Int)+1) (by omega) (by omega)];refine⟨⟨i+1,by omega,by omega,rfl,?_⟩,by omega⟩;rw[bY,au nQ,List.all_append,ha];simp[e]
  refine⟨⟨by omega,by omega⟩,cG.2 ⟨a,rfl,_,hc,km.walk ?_⟩⟩;have eq:vE l[i]=(decide (1<=l[i]) && decide (l[i]<=255)):=by unfold vE;by_cases a:1<=l[i]<;>by_cases b:l[i]<=255<;>simp[a,b]
  by_cases c1:l[i]<1
  ·rw[jy];refine⟨_,rfl,key true ?_⟩;rw[eq,decide_eq_false (show¬1<=l[i] by omega)];rfl
  ·rw[dL];refine⟨_,rfl,key _ ?_⟩;rw[eq,ay (show 1<=l[i] by omega)];by_cases c2:l[i]<=255
   ·rw[ay c2,decide_eq_false (show¬((l[i]:Nat):Int)>255 by omega)];rfl
   ·rw[decide_eq_false c2,ay (show((l[i]:Nat):Int)>255 by omega)];rfl
 ·rw[ai (λe=>nQ (by have:=of_decide_eq_true e;omega))];rw[bR (by omega)] at ha;rw[ha] at hk;exact⟨_,rfl,_,rfl,hk⟩
abbrev xU.s (b:xU) (p:bU) (c:Nat):aE.S:=⟨b.ty,b.nr,b.fl,b.sum,p,b.data.length,c⟩
theorem On (b:xU) {p:bU} {c:Nat} (U:xP V h0) (u:Fr No h0 h) (mx:Gi.Mx h) (row:Row h p (bc b.data)) (cap:b.data.length<=c) (hlen:b.data.length<=80000)
  (hk: ∀h',Fr No h h'->R (.bool (sd V b)) h'):Cl F.sE #[(b.s p c).agg] h R:=by
 refine sE.walk (aE.dH λbb h1 eb hb f1=>⟨_,af hb rfl,_,af hb rfl,VL (l:= [b.ty,b.nr]) (n:=2) rfl λb2 h2 r2 f2=>Hh r2 rfl (by show 2<=_;omega) ⟨_,rfl,?_⟩⟩);have F2:=f1.tt f2;have fI:=f2.get hb id;have no: ∀g,Fr No h g->sd V b=false->R (.bool false) g:=λg fg e=>by have:=hk g fg;rw[e] at this;exact this
 have e1: [b.ty,b.nr].all vE=(vE b.ty && vE b.nr):=by simp
 rw[e1];cases c0:(vE b.ty && vE b.nr) with
 |false=>rw[dL];exact no h2 F2 (by unfold sd;rw[c0];rfl)
 |true=>
 rw[ag rfl];refine⟨_,af fI rfl,?_⟩;change if flB (b.fl:Int) 23=true then _ else _
 by_cases c1:flB (b.fl:Int) 23=true
 case neg=>rw[ai c1];exact no h2 F2 (by unfold sd;simp[c1])
 rw[ag c1];refine⟨_,af fI rfl,?_⟩;by_cases c2:0<=b.sum
 case neg=>rw[ai (by simp only[bf];exact c2)];exact no h2 F2 (by unfold sd;simp[c2])
 rw[ag (ay c2)];refine⟨_,af fI rfl,?_⟩;by_cases c3:b.sum<=2
 case neg=>rw[ai (by simp only[bf];exact c3)];exact no h2 F2 (by unfold sd;simp[c3])
 rw[ag (ay c3)];refine⟨_,af fI rfl,_,_,_,af fI rfl,abd U (u.tt F2) (mx.on F2) (row.frame F2 (λ_ _=>id)) rfl cap hlen λh3 f3=>⟨_,rfl,?_⟩⟩;have:=hk h3 (F2.tt f3);unfold sd at this;rw[c0,c1,ay c2,ay c3] at this;exact this
theorem VM {t:Tr} {i:Nat} {us:List Tr} (hu:Bb V t i=.ok us):0<=typeAt us i:=by
 unfold Bb at hu;split at hu
 ·rename_i h1;have key: ∀k,i<k->typeAt (t.l.take k) i=typeAt t.l i:=λk hk=>by
   unfold typeAt at_;rw[ba,ba,dq,ag hk,bQ];exact ite_congr (propext (by constructor<;>(rintro⟨a,b⟩;exact⟨by omega,b⟩))) (λ_=>rfl) (λ_=>rfl)
  split at hu
  ·cases hu;exact h1.2.2
  ·split at hu
   ·rename_i h2;split at hu
    ·cases hu
    ·split at hu
     ·cases hu;rw[key _ h2.1];exact h1.2.2
     ·cases hu
   ·cases hu
 ·cases hu
theorem abe {t:Tr} {i:Nat} {us:List Tr} (hu:Bb V t i=.ok us):(at_ us i).n<=2:=by
 have:=VM hu;unfold typeAt at this;split at this
 ·rename_i h1;exact h1.2.1
 ·omega
theorem Hj {b:xU} (h:sd V b=true):0<=b.sum/\b.sum<=2/\b.data.length<=200/\1<=b.ty/\b.ty<=255/\1<=b.nr/\b.nr<=255:=by
 unfold sd at h;simp only[aW,bf] at h;obtain⟨⟨⟨⟨⟨a,a'⟩,_⟩,b1⟩,c⟩,d⟩:=h;unfold vE at a a';unfold Kg at d;simp only[aW,bf] at a a' d;exact⟨b1,c,d.2,a.1,a.2,a'.1,a'.2⟩
theorem Oo {b:xU} (h:sd V b=true):dY (aas b)<=300:=by
 obtain⟨_,_,d,_⟩:=Hj h;simp only[aas,dY,room,bC];omega
theorem Oq {b:xU} {t:Tr} (h:DI V b=.ok t):room t<=400:=by
 unfold DI at h;split at h
 ·rename_i hr;have:=LB h;have:=Oo hr;omega
 ·cases h
theorem Ts {b:xU} {e:Int} (h:DI V b=.error e):e≠0:=by
 unfold DI at h;split at h
 ·exact Ol h
 ·cases h;decide
theorem Zr (b : xU) {p : Option Addr} {c : Nat} (U : xP V h0) (u : Fr No h0 h) (mx : Gi.Mx h) (row : Row h p (bc b.data)) (cap : b.data.length ≤ c) (hlen : b.data.length ≤ 80000)
    (hk : ∀ h' z q, (∀ t, DI V b = .ok t → q = 0 ∧ Ee h' (λy => h.size ≤ y) t z) → (∀ e, DI V b = .error e → q = e) → Fr No h h' → R (.tuple #[z.s.agg, .int .i64 q]) h') : Cl F.sF #[(b.s p c).agg] h R := by
  refine sF.walk (aE.dH λbb h1 eb hb f1 => aa.dH λb1 h2 uf dw f2 => aE.jk (f2.get hb id) (On b U (u.tt (f1.tt f2)) (mx.on (f1.tt f2)) (row.frame (f1.tt f2) (λ_ _ => id)) cap hlen λh3 f3 => ⟨_, rfl, ?_⟩))
  have kR := (f2.tt f3).get hb id
  have qu := f3.get dw id
  have F3 := f1.tt (f2.tt f3)
  have z3 := F3.1
  have z1 := f1.1
  have z23 := f3.1
  have PT := aI qu
  cases hr : sd V b with
  | false => exact Qn qu λh4 f4 => hk h4 zv 3 (λt e => by unfold DI at e; rw [hr, if_neg (by decide)] at e; cases e) (λt e => by unfold DI at e; rw [hr, if_neg (by decide)] at e; cases e; rfl) (F3.fresh f4 (λy e => by omega))
  | true =>
  rw [if_neg (by decide)]
  obtain ⟨s0, s2, d2, _⟩ := Hj hr
  have rm := Oo hr
  have eW : DI V b = x7 V (aas b) 3 := by unfold DI; rw [hr, if_pos rfl]
  obtain ⟨sum, hs⟩ := Int.eq_ofNat_of_zero_le s0
  have es : b.sum.toNat = sum := by omega
  refine ⟨_, af kR rfl, _, af kR rfl, _, af kR rfl, _, af kR rfl, ?_⟩
  rw [show (b.s p c).f3 = ((sum : Nat) : Int) from hs, wrap_u64 (n := (sum : Int)) (by omega) (by omega)]
  refine VL (l := [b.ty, b.nr, b.fl, sum]) (n := 4) rfl λb3 h5 r5 f5 => Tq r5 rfl (by show 4 ≤ _; omega) λh6 z tz f6 => aa.ex z.s ⟨rfl, _, _, _, af ((f5.tt f6).get kR id) rfl, zD (row.frame (F3.tt (f5.tt f6)) (λ_ _ => id)) rfl (by omega) λh7 v ev ov f7 => aa.ex (CV.s ⟨2, 0, v, none, 0, 0⟩) ⟨rfl, aa.dH (x := CV.s ⟨2, 0, v, none, 0, 0⟩) λb4 h8 Vz ma f8 => ?_⟩⟩
  have F8 := f5.tt (f6.tt (f7.tt f8))
  obtain ⟨_, zs, a5, a6, a7, a8⟩ := tz
  have zl : zs.length = 4 := by have := a8.len; exact this.symm
  have sl : z.s.xO = zs.length := a5
  rw [sl]
  have z6 := f6.1
  have z7 := f7.1
  have z8 := f8.1
  have qs : ∀ y, aQ z.q y → y < h6.size := λy hy => a6.gm hy
  refine fQ tI uI (a6.frame (f7.tt f8) (λ_ _ => id)) (ds := mJ ⟨2, 0, v, none, 0, 0⟩) (.inr ⟨_, rfl, aa.Lq (x := CV.s ⟨2, 0, v, none, 0, 0⟩) ma⟩) rfl (zW _) (by omega) (by omega) λq' DN h9 o9 _ f9 g9 => ⟨_, _, _, rfl, ?_⟩
  have ef : zs.flatMap mJ ++ mJ ⟨2, 0, v, none, 0, 0⟩ = (zs ++ [(⟨2, 0, v, none, 0, 0⟩ : CV)]).flatMap mJ := by rw [List.flatMap_append, List.flatMap_singleton]
  rw [ef] at o9
  have F9 : Fr No h3 h9 := F8.fresh f9 (λy hy => by have := a7 y hy; have := f5.1; omega)
  have L9 : xD h9 (λ_ => True) q' (zs.length + 1) DN (zs ++ [⟨2, 0, v, none, 0, 0⟩]) := ⟨by simp, o9.pZ, λ_ _ _ => trivial, o9.le⟩
  have T9 : Mu h9 (aas b) (zs ++ [⟨2, 0, v, none, 0, 0⟩]) := by
    have t1 := dG.frame f9 (λy hy AU => hy.2 AU) (dG.on (dG.on a8 f7) f8)
    have t2 : kT h7 (λy => h6.size ≤ y) (BG v.b) ⟨2, 0, v, none, 0, 0⟩ := NU ov
    have t3 := (t2.on f8).frame f9 (λy hy AU => by have := qs y AU; omega)
    have := dG.snoc t1.u t3.u
    rw [ev] at this
    unfold aas
    rw [es]
    exact this
  refine Zm (i := 3) U (u.tt (F3.tt F9)) L9 T9 (by omega) (by omega) (λt ht h19 z tz f19 => aa.ex z.s ⟨_, rfl, ?_⟩) (λe he h19 f19 => aa.ex zv.s ⟨_, rfl, ?_⟩)
  · have z9 := F9.1
    exact fin ((F9.tt f19).get qu id) tz (λy hy e => by omega) λQo t20 f20 => hk Qo z 0 (λt' e => by rw [eW, ht] at e; cases e; exact ⟨rfl, t20.mono λy hy => by omega⟩) (λe' e => by rw [eW, ht] at e; cases e) ((F3.tt (F9.tt f19)).fresh f20 (λy e => by omega))
  · exact Qn ((F9.tt f19).get qu id) λQo f20 => hk Qo zv e (λt' e' => by rw [eW, he] at e'; cases e') (λe' e2 => by rw [eW, he] at e2; cases e2; rfl) ((F3.tt (F9.tt f19)).fresh f20 (λy e => by omega))
theorem ai1 {b:Nat} {y x:aE.S} {K:aE.S->aj->Prop} (hb:aE.jx h b y) (hk: ∀h',Fr (λy=>y=b) h h'->K x h'):
  aE.dV h (AA b 0) x λg=>aE.df g (AA b 0) λr=>K r g:=
 aE.mA (x:=x) hb λg d1 f _=>aE.jk d1 (hk g f)
theorem aht {t:Tr} {x:CV} (U:xP V h0) (u:Fr No h0 h) (mx:Gi.Mx h) (tx:SX h t x) (hr:room t<=50000)
  (k1: ∀b,Kh V t=.ok b->∀h' p c,BV.ok h' (λy=>h.size<=y) ⟨p,c,b.data⟩->Fr No h h'->R (.tuple #[(b.s p c).agg,.I 0]) h') (k2: ∀e,Kh V t=.error e->e≠0->∀h',Fr No h h'->R (.tuple #[aE.S.z.agg,.I e]) h'):Cl F.wW #[x.agg] h R:=by
 have rl:=yT (t:=t);refine wW.walk (x:=x.s) (aa.dH λb h1 eb hb f1=>aE.dH λb1 h2 uf dw f2=>aa.jk (f2.get hb id) ?_);have F2:=f1.tt f2;have fI:=f2.get hb id;have zb:=aI hb;have PT:=aI dw;have z1:=f1.1;have z2:=f2.1;have no: ∀g e,Fr No h2 g->Kh V t=.error e->e≠0->aE.dV g (AA b1 0) .z λg'=>aE.df g' (AA b1 0) λr=>R (.tuple #[r.agg,.I e]) g':=λg e fg he hn=>
  ai1 (fg.get dw id) λg' f=>k2 e he hn g' ((F2.tt fg).fresh f (λy e=>by omega))
 have hP:Kh V t=Kh V t:=rfl;conv at hP=>rhs;unfold Kh
 refine vW (i:=3) U (u.tt F2) (tx.on F2) (by omega) (by omega) (λus hu ru h3 p zs c L TS f3=>⟨_,_,_,_,rfl,?_⟩) (λe he hn h3 f3=>⟨_,_,_,_,rfl,?_⟩)
 case refine_2=>
  rw[ag (by simpa using hn)];exact no h3 e f3 (by rw[hP,he]) hn
 rw[dL];rw[hu] at hP;dsimp only at hP;have n2:=abe hu;have ln:=TS.len;have l9:=kM us;refine aK.of λJ hJ=> ?_
 have bad: ¬(us.length=5/\(at_ us 4).k=2)->J true h3:=λhn=>by
  subst hJ;dsimp only;rw[ag rfl];exact no h3 3 f3 (by rw[hP,ai hn]) (by decide)
 by_cases l5:us.length=5
 case neg=>rw[ag (by simp only[fK,iq];omega)];exact bad (λe=>l5 e.1)
 rw[ai (by simp only[fK,iq];omega)];have z3:=f3.1;have it: ∀i,i<5->∃(a:Addr) (y:CV),p=some a/\fE (a.add (i*4)) y.s.l 0 h3/\SX h3 (at_ us i) y/\ak h3 ((a.add (i*4)).add 1)=some (.U ((at_ us i).n:Int)):=λi hi=>by
  obtain⟨a,y,ea,hh,ty,_⟩:=elem L TS (i:=i) (by omega);obtain⟨_,yn,_⟩:=kT.kn ty;exact⟨a,y,ea,hh,ty.u,by have:=hh.2.1;rw[<-yn];exact this⟩
 obtain⟨a0,y0,ea0,hh0,Yt,c0⟩:=it 0 (by omega);obtain⟨a1,y1,Yu,V0,VD,c1⟩:=it 1 (by omega);obtain⟨a2,y2,ea2,hh2,ty2,c2⟩:=it 2 (by omega);obtain⟨a3,y3,ea3,hh3,ty3,c3⟩:=it 3 (by omega);obtain⟨a4,y4,ea4,hh4,ty4,c4⟩:=it 4 (by omega);obtain⟨yk,yn,yb,yl,yv,_⟩:=kT.kn ty4;have r4:=rZ (ts:=us) (i:=4) (by omega);have rl4:=yT (t:=at_ us 4);refine⟨⟨by omega,by omega⟩,cG.2 ⟨a4,ea4,_,hh4.1,?_⟩⟩;by_cases k2':(at_ us 4).k=2
 case neg=>rw[show(y4.s.f0 !=2)=true by have:y4.s.f0=(at_ us 4).k:=yk;rw[this];simpa using k2'];exact bad (λe=>k2' e.2)
 rw[show(y4.s.f0 !=2)=false by have:y4.s.f0=(at_ us 4).k:=yk;rw[this];simpa using k2'];clear bad;rw[ag ⟨l5,k2'⟩] at hP;subst hJ;try dsimp only
 rw[dL];have u3:=u.tt (F2.tt f3);have m3:=mx.on (F2.tt f3);have e3:(Cv us).data=y4.v.b:=yb.symm;refine aK.of λJ1 pA=> ?_
 have rest: ∀g b4 q cl,aE.jx g b4 ((Cv us).s q cl)->h2.size<=b4->BV.ok g (λy=>h3.size<=y/\y≠b4) ⟨q,cl,(Cv us).data⟩->Fr No h3 g->J1 (some (AA b4 0)) g:=by
  intro g b4 q cl hs z4 ov fg;subst pA;refine aB.2 (aE.jk hs (Zr (Cv us) U (u3.tt fg) (m3.on fg) ov.row ov.cap (by rw[e3,yb];omega) λh8 w qw w0 w1 f8=>aa.ex w.s ⟨_,rfl,aa.j8 (x:=w.s) λb5 vj eb5 DJ f10=>aK.of λJ2 zX=> ?_⟩));have Nj:=f8.tt f10;have G10:=f3.tt (fg.tt Nj);have bad: ∀g',Fr No vj g'->Kh V t=.error 3->J2 true g':=λg' fg' he=>by
   subst zX;try dsimp only
   rw[ag rfl];exact no g' 3 (G10.tt fg') he (by decide)
  cases hW:DI V (Cv us) with
  |error e=>
   rw[hW] at hP;rw[ag (by rw[w1 e hW];simpa using Ts hW)];exact bad vj (Fr.refl _ _) hP
  |ok again=>
   rw[hW] at hP;dsimp only at hP;obtain⟨rfl,tw⟩:=w0 again hW;have rw':=Oq hW;rw[dL];refine aa.jk DJ (aa.jk (x:=x.s) (G10.get fI id) (pV (x:=w) (y:=x) (tw.u.on f10) (tx.on (F2.tt G10)) (by omega) λDv f14=>⟨_,rfl,?_⟩));cases he:yV again t with
   |false=>exact bad Dv f14 (by rw[hP,ai (by rw[he];decide)])
   |true=>
    rw[he,ag rfl] at hP;subst zX;try dsimp only
    rw[dL];refine aB.2 (aE.jk ((Nj.tt f14).get hs id) (ai1 ((G10.tt f14).get dw id) λg' f=>k1 _ hP g' q cl ?_ ((F2.tt (G10.tt f14)).fresh f (λy e=>by omega))));have:=(ov.mono (D':=λy=>h3.size<=y) λy hy=>hy.1).frame (Nj.tt f14) (λ_ _=>id);exact(this.frame f (λy hy e=>by omega)).mono λy hy=>by omega
 refine⟨⟨by omega,by omega⟩,cG.2 ⟨a0,ea0,_,c0,⟨by omega,by omega⟩,cG.2 ⟨a1,Yu,_,c1,⟨by omega,by omega⟩,cG.2 ⟨a2,ea2,_,c2,⟨by omega,by omega⟩,cG.2 ⟨a3,ea3,_,c3,⟨by omega,by omega⟩,cG.2 ⟨a4,ea4,_,_,_,hh4.2.2.1,?_⟩⟩⟩⟩⟩⟩;rw[bK (n:=(((at_ us 3).n:Nat):Int)) (by omega) (by omega)];have l4:y4.v.b.length<=50000:=by rw[yb];omega
 have eS: ∀p' c',(⟨(at_ us 0).n,(at_ us 1).n,(at_ us 2).n,(at_ us 3).n,p',y4.v.b.length,c'⟩:aE.S)=(Cv us).s p' c':=λp' c'=>by
  show _=(⟨_,_,_,_,p',(Cv us).data.length,c'⟩:aE.S);rw[e3];rfl
 refine⟨?_,?_,trivial⟩
 ·refine vf.my yv.row rfl (by omega) λp' c' GY Mq f15 g15=>⟨_,_,_,rfl,f15.kp,aE.dH λb4 vY Vz ma f16=>⟨f16.kp,?_⟩⟩
  rw[eS];have z15:=f15.1;have z4:=aI ma;refine aE.mA (x:=(Cv us).s p' c') ma λQq d17 f17 _=>rest Qq b4 p' c' d17 (by omega) ?_ ((f15.tt f16).fresh f17 (λy e=>by omega))
  have o17:=(Mq.frame f16 (λ_ _=>id)).frame f17 (λy hy e=>by have:=Mq.gm hy;omega);rw[e3];exact BV.wL o17 (λy hy=>⟨g15 y hy,by have:=Mq.gm hy;omega⟩)
 ·refine aE.dH λb4 Gl Vz ma f18=>⟨f18.kp,vf.my (yv.row.frame f18 (λ_ _=>id)) rfl (by omega) λp' c' h19 o19 f19 g19=>⟨_,_,_,rfl,f19.kp,?_⟩⟩
  rw[eS];have z18:=f18.1;have z4:=aI ma;refine aE.mA (x:=(Cv us).s p' c') (f19.get ma id) λQo d20 f20 _=>rest Qo b4 p' c' d20 (by omega) ?_ ((f18.tt f19).fresh f20 (λy e=>by omega))
  have o20:=o19.frame f20 (λy hy e=>by have:=g19 y hy;omega);rw[e3];exact BV.wL o20 (λy hy=>by have:=g19 y hy;omega)
end Bn
end
section
variable {h:aj} {R:iI}
theorem tb.walk {kind:Int} (hv:if(kind==1) then R (.bool true) h else if(kind==6) then R (.bool true) h else if(kind==7) then R (.bool true) h else R (.bool (kind==10)) h):Cl F.tb #[.U kind] h R:=aS (lq ll) Tryz.func176 hv
theorem wU.walk {Db:bU} {xQ Im:Nat} (hv: ∃(I:Bool->aj->Prop) (mu:Bool->aj->Nat),(aK (λ(t33:Bool) (aR:aj)=>if t33 then R (.bool false) aR else I true aR) (λJ=>if(decide ((wrap .i64 ((xQ:Int) - 1))<0)) then J true h else if(decide ((wrap .i64 ((xQ:Int) - 1))≥8)) then J true h else Bd (wrap .i64 ((xQ:Int) - 1)) xQ/\aP Db λa=> ∃t23,ak h (a.add (toNat (wrap .i64 ((xQ:Int) - 1))*5))=some (.U t23)/\if(t23 !=1) then J true h else Bd (wrap .i64 ((xQ:Int) - 1)) xQ/\aP Db λku=> ∃t31,ak h ((ku.add (toNat (wrap .i64 ((xQ:Int) - 1))*5)).add 1)=some (.U t31)/\J (t31 !=1) h))/\∀(ok:Bool) (aZ:aj),I ok aZ->aK (λ(ad8:Bool) (bJ:aj)=>R (.bool ad8) bJ) (λjo=> ∃(Ko:Bool->Int->aj->Prop) (CC:Bool->Int->aj->Nat),Ko ok 0 aZ/\∀(VB:Bool) (t36:Int) (cB:aj),Ko VB t36 cB->if(decide (t36<(xQ:Int))) then Bd t36 xQ/\aP Db λpE=>aE.df cB (pE.add (toNat t36*5)) λt40=>aV cB (.cells aE.S.z.arr T.aE) λb cJ=>aE.dV cJ (AA b 0) t40 λcQ=>aE.df cQ (AA b 0) λt41=>Cl F.sE #[t41.agg] cQ λv cW=>Vb v λt42=>((0:Int)<=t36/\t36<=(Im:Int))/\∃(I_2:Bool->Int->aj->Prop) (ao3:Bool->Int->aj->Nat),I_2 t42 0 cW/\∀(Ls:Bool) (t47:Int) (dA:aj),I_2 Ls t47 dA->if(decide (t47<(((toNat t36) - 0:Nat):Int))) then aK (λ(ahl:Bool) (fc:aj)=>(I_2 ahl (wrap .i64 (t47+1)) fc/\ao3 ahl (wrap .i64 (t47+1)) fc<ao3 Ls t47 dA)) (λBo=>((0:Int)<=t47/\t47<(((toNat t36) - 0:Nat):Int))/\aP (cZ Db Im 0 5) λrY=>aE.df dA (rY.add (toNat t47*5)) λt50=>aV dA (.cells aE.S.z.arr T.aE) λcD cP=>aE.dV cP (AA cD 0) t50 λcV=>aK (λ(arl:Bool) (dD:aj)=>Bo arl dD) (λGG=>if Ls then Hu cV cD 1 λt54=> ∃t56,ak cV (AA b 1)=some (.U t56)/\if(t54 !=t56) then Hu cV cD 0 λt61=> ∃t63,ak cV (AA b 0)=some (.U t63)/\if(t61 !=t63) then GG true cV else Hu cV b 0 λt67=>Cl F.tb #[.U t67] cV λeJ dF=> ∃t68,eJ=.bool t68/\GG (!t68) dF else GG false cV else GG false cV)) else if(!Ls) then jo Ls dA else(Ko Ls (wrap .i64 (t36+1)) dA/\CC Ls (wrap .i64 (t36+1)) dA<CC VB t36 cB) else jo VB cB)):Cl F.wU #[.slice Db xQ Im] h R:=aS (lq (.scope 0 [(4,.one (.bool))] (lq (sq (sq (.join [(33,.one (.bool))] lf) (cq ll lf)) (lq ll))) (lq (sq (lq (.join [(4,.one (.bool))] (bq (.loop [(4,.one (.bool)),(36,.one (.int .i64))] (lq (sq (cq lf lf) (sq (bq (lq (lq (sq (lq (bq (.loop [(4,.one (.bool)),(47,.one (.int .i64))] (lq (sq (cq lf lf) (sq (.join [(4,.one (.bool))] (bq (lq (.join [(4,.one (.bool))] lf)))) lf)))))) (lq (cq lf lf)))))) lf))))))) ll)))) Tryz.func124 hv
theorem sY.walk {b:aw.S} (hv:aV h (.cells b.arr T.aw) λcD aR=>aC.df aR (AA cD 0) λt16=>Cl F.nm #[t16.agg] aR λv aZ=>aa.EX λyx=> ∃xq,v=.tuple #[yx.agg,.I xq]/\aV aZ (.cells aa.S.z.arr T.aa) λeY bJ=>aa.dV bJ (AA eY 0) yx λcB=>if(xq !=0) then R (.tuple #[.Z,.bool false]) cB else aa.df cB (AA eY 0) λt23=>Cl F.mr #[t23.agg] cB λeJ cJ=> ∃Zs Zt Zu Ky,eJ=.tuple #[.slice Zs Zt Zu,.I Ky]/\Hl cJ cD 20 λBj zC Fk=> ∃(I:bU->Nat->Nat->Int->aj->Prop) (mu:bU->Nat->Nat->Int->aj->Nat),I Zs Zt Zu 0 cJ/\∀(kI:bU) (kJ kK:Nat) (t30:Int) (cQ:aj),I kI kJ kK t30 cQ->if(decide (t30<(zC:Int))) then Bd t30 zC/\aP Bj λa=>aE.df cQ (a.add (toNat t30*5)) λt33=>aV cQ (.cells aE.S.z.arr T.aE) λjQ cW=>aE.dV cW (AA jQ 0) t33 λdA=>aE.df dA (AA jQ 0) λt35=>Cl F.sF #[t35.agg] dA λgR fc=>aa.EX λTc=> ∃Iq,gR=.tuple #[Tc.agg,.I Iq]/\aV fc (.cells aa.S.z.arr T.aa) λpH cP=>aa.dV cP (AA pH 0) Tc λcV=>if(Iq !=0) then R (.tuple #[.Z,.bool false]) cV else aa.df cV (AA pH 0) λt42=>Cl F.mr #[t42.agg] cV λkU dD=> ∃Zv Zw Zx CE,kU=.tuple #[.slice Zv Zw Zx,.I CE]/\aX Tryz.prog (Builtin.append_ #[T.dt,T.dt] T.dt #[.slice kI kJ kK,.slice Zv Zw Zx]) dD λot dF=> ∃D0 D9 FH,ot=.slice D0 D9 FH/\(I D0 D9 FH (wrap .i64 (t30+1)) dF/\mu D0 D9 FH (wrap .i64 (t30+1)) dF<mu kI kJ kK t30 cQ) else R (.tuple #[.slice kI kJ kK,.bool true]) cQ):Cl F.sY #[b.agg] h R:=aS (lq (lq (sq (lq (cq ll lf)) (lq (sq (lq (bq (.loop [(6,.one (.slice)),(30,.one (.int .i64))] (lq (sq (cq lf lf) (sq (bq (lq (lq (sq (lq (cq ll lf)) ll)))) lf)))))) ll))))) Tryz.func125 hv
theorem qE.walk {b:aw.S} (hv:aV h (.cells b.arr T.aw) λcD aR=>aw.df aR (AA cD 0) λt6=>Cl F.qD #[t6.agg] aR λv aZ=> ∃alD alE alF Kx,v=.tuple #[.slice alD alE alF,.I Kx]/\R (.bool (Kx==0)) aZ):Cl F.qE #[b.agg] h R:=aS (lq (lq ll)) Tryz.func196 hv
theorem qD.walk {b:aw.S} (hv:aV h (.cells b.arr T.aw) λcD aR=>Hl aR cD 20 λEy Ez EA=>Cl F.wU #[.slice Ey Ez EA] aR λv aZ=> ∃t8,v=.bool t8/\if(!t8) then R (.tuple #[.Z,.I 3]) aZ else aw.df aZ (AA cD 0) λt11=>Cl F.sY #[t11.agg] aZ λeJ bJ=> ∃Zy Qw Zz xi,eJ=.tuple #[.slice Zy Qw Zz,.bool xi]/\aK (λ(t21:Bool) (cB:aj)=>if t21 then R (.tuple #[.Z,.I 3]) cB else aV cB (.cells #[.int .u8 159] T.uint8) λeY cJ=>aX Tryz.prog (Builtin.append_ #[T.dt,T.dt] T.dt #[.slice (some (AA eY 0)) 1 1,.slice Zy Qw Zz]) cJ λgR cQ=>Vl gR λiP iy iz=>aV cQ (.cells #[.int .u8 255] T.uint8) λjQ cW=>aX Tryz.prog (Builtin.append_ #[T.dt,T.dt] T.dt #[.slice iP iy iz,.slice (some (AA jQ 0)) 1 1]) cW λkU dA=> ∃x9 rE ya,kU=.slice x9 rE ya/\R (.tuple #[.slice x9 rE ya,.I 0]) dA) (λJ=>if(!xi) then J true bJ else J (decide ((Qw:Int)>598)) bJ)):Cl F.qD #[b.agg] h R:=aS (lq (sq (lq (cq ll lf)) (lq (sq (sq (.join [(21,.one (.bool))] lf) (cq ll lf)) ll)))) Tryz.func58 hv
theorem qi.walk {Bf:bU} {xd Dq:Nat} (hv:aV h (.cells aw.S.z.arr T.aw) λb aR=>if(decide ((xd:Int)>1200)) then aw.dV aR (AA b 0) aw.S.z λaZ=>aw.df aZ (AA b 0) λr0=>R (.tuple #[r0.agg,.I 2]) aZ else Cl F.uv #[.slice Bf xd Dq,.I 0] aR λv bJ=>aa.EX λvK=> ∃vi aeM,v=.tuple #[vK.agg,.I vi,.I aeM]/\aV bJ (.cells aa.S.z.arr T.aa) λcD cB=>aa.dV cB (AA cD 0) vK λcJ=>if(aeM !=0) then aw.dV cJ (AA b 0) aw.S.z λcQ=>aw.df cQ (AA b 0) λia=>R (.tuple #[ia.agg,.I aeM]) cQ else aK (λ(t27:Bool) (cW:aj)=>if t27 then aw.dV cW (AA b 0) aw.S.z λdA=>aw.df dA (AA b 0) λoS=>R (.tuple #[oS.agg,.I 3]) dA else aV cW (.cells aw.S.z.arr T.aw) λeY fc=>Hl fc cD 3 λyg yh Bp=>Bd 0 yh/\aP yg λa=>aa.df fc (a.add (toNat 0*4)) λt54=>Cl F.tc #[t54.agg] fc λeJ cP=>aC.EX λuc=> ∃tF,eJ=.tuple #[uc.agg,.I tF]/\aC.dV cP (AA eY 0) uc λcV=>if(tF !=0) then aw.dV cV (AA b 0) aw.S.z λdD=>aw.df dD (AA b 0) λpG=>R (.tuple #[pG.agg,.I tF]) dD else Hl cV cD 3 λao4 aeN ao5=>((0:Int)<=1/\1<=(aeN:Int))/\∃(I:Int->aj->Prop) (mu:Int->aj->Nat),I 0 cV/\∀(t67:Int) (dF:aj),I t67 dF->if(decide (t67<((aeN - (toNat 1):Nat):Int))) then((0:Int)<=t67/\t67<((aeN - (toNat 1):Nat):Int))/\aP (cZ ao4 ao5 (toNat 1) 4) λku=>aa.df dF (ku.add (toNat t67*4)) λt70=>aV dF (.cells aa.S.z.arr T.aa) λjQ fC=>aa.dV fC (AA jQ 0) t70 λgD=>aa.df gD (AA jQ 0) λt72=>Cl F.wW #[t72.agg] gD λgR gX=>aE.EX λai2=> ∃aeO,gR=.tuple #[ai2.agg,.I aeO]/\aV gX (.cells aE.S.z.arr T.aE) λpH gQ=>aE.dV gQ (AA pH 0) ai2 λfh=>if(aeO !=0) then aw.dV fh (AA b 0) aw.S.z λjn=>aw.df jn (AA b 0) λyQ=>R (.tuple #[yQ.agg,.I aeO]) jn else Hl fh eY 20 λYm ad6 NZ=>aE.df fh (AA pH 0) λt82=>aV fh (.cells t82.arr T.aE) λBz ju=>aX Tryz.prog (Builtin.append_ #[T.lO,T.lO] T.lO #[.slice Ym ad6 NZ,.slice (some (AA Bz 0)) 1 1]) ju λkU sK=> ∃ai3 ai4 ai5,kU=.slice ai3 ai4 ai5/\aH sK (AA eY 20) (.slice ai3 ai4 ai5) λrL=>(I (wrap .i64 (t67+1)) rL/\mu (wrap .i64 (t67+1)) rL<mu t67 dF) else aw.df dF (AA eY 0) λt87=>Cl F.qE #[t87.agg] dF λot qK=> ∃t88,ot=.bool t88/\if(!t88) then aw.dV qK (AA b 0) aw.S.z λvh=>aw.df vh (AA b 0) λKS=>R (.tuple #[KS.agg,.I 3]) vh else aw.df qK (AA eY 0) λt91=>aw.dV qK (AA b 0) t91 λzY=>aw.df zY (AA b 0) λUQ=>R (.tuple #[UQ.agg,.I 0]) zY) (λJ=>if(vi !=(xd:Int)) then J true cJ else∃t34,ak cJ (AA cD 0)=some (.I t34)/\if(t34 !=4) then J true cJ else∃oq kH oF,ak cJ (AA cD 3)=some (.slice oq kH oF)/\if(decide ((kH:Int)<2)) then J true cJ else∃acM WC acN,ak cJ (AA cD 3)=some (.slice acM WC acN)/\J (decide ((WC:Int)>9)) cJ)):Cl F.qi #[.slice Bf xd Dq] h R:=aS (lq (sq (lq (cq ll lf)) (lq (sq (bq (lq (cq ll (sq (.join [(27,.one (.bool))] lf) (cq ll lf))))) (lq (sq (lq (lq (cq ll lf))) (sq (lq (bq (.loop [(67,.one (.int .i64))] (lq (sq (cq lf lf) (sq (bq (lq (lq (sq (lq (cq ll lf)) lf)))) lf)))))) (sq (lq (cq ll lf)) ll)))))))) Tryz.func158 hv
theorem nV.walk {b : aw.S} (hv :
 aV h (.cells b.arr T.aw) λcD aR =>
 ∃ Pa Mf Pb, ak aR ⟨cD, 20, none⟩ = some (.slice Pa Mf Pb) ∧
 if (((Mf : Nat) : Int) == 0) = true then
 R (.slice none 0 0) aR
 else
 ∃ yL vQ Az, ak aR ⟨cD, 20, none⟩ = some (.slice yL vQ Az) ∧
 ∃ yu rP CR, ak aR ⟨cD, 20, none⟩ = some (.slice yu rP CR) ∧
 ((0 : Int) ≤ IntKind.wrap .i64 (((rP : Nat) : Int) - 1) ∧ IntKind.wrap .i64 (((rP : Nat) : Int) - 1) < ((vQ : Nat) : Int)) ∧
 aP yL λa =>
 ∃ tG sJ ud, ak aR ((a.add (Int.toNat (IntKind.wrap .i64 (((rP : Nat) : Int) - 1)) * 5)).add 4) = some (.slice tG sJ ud) ∧
 Cl F.cu #[.slice tG sJ ud] aR λv aZ =>
 ∃ Kl Km MX, v = .slice Kl Km MX ∧
 R (.slice Kl Km MX) aZ) : Cl F.nV #[b.agg] h R :=
 aS (.seq .leaf (.seq (.seq .leaf (.cond (.seq .leaf .leaf) .leaf)) (.seq .leaf .leaf))) Tryz.func159 hv
theorem tp.walk {r:bW.S} (hv:aV h (.cells r.arr T.bW) λb aR=> ∃t4,ak aR (AA b 0)=some (.bool t4)/\if t4 then∃t15,ak aR (AA b 3)=some (.U t15)/\if(decide (t15<=255)) then∃t20,ak aR (AA b 4)=some (.U t20)/\if(decide (t20<=1099511627776)) then ah.df aR (AA b 5) λt25=>Cl F.kk #[t25.agg] aR λv aZ=> ∃t26,v=.bool t26/\R (.bool t26) aZ else R (.bool false) aR else R (.bool false) aR else∃t7,ak aR (AA b 1)=some (.bool t7)/\if t7 then∃ue,ak aR (AA b 3)=some (.U ue)/\if(decide (ue<=255)) then∃uj,ak aR (AA b 4)=some (.U uj)/\if(decide (uj<=1099511627776)) then ah.df aR (AA b 5) λLn=>Cl F.kk #[Ln.agg] aR λeJ bJ=> ∃HT,eJ=.bool HT/\R (.bool HT) bJ else R (.bool false) aR else R (.bool false) aR else∃t11,ak aR (AA b 2)=some (.bool t11)/\if t11 then∃Sz,ak aR (AA b 3)=some (.U Sz)/\if(decide (Sz<=255)) then∃W7,ak aR (AA b 4)=some (.U W7)/\if(decide (W7<=1099511627776)) then ah.df aR (AA b 5) λOm=>Cl F.kk #[Om.agg] aR λgR cB=> ∃ai6,gR=.bool ai6/\R (.bool ai6) cB else R (.bool false) aR else R (.bool false) aR else R (.bool false) aR):Cl F.tp #[r.agg] h R:=aS (lq ll) Tryz.func290 hv
theorem ux.walk {Db:bU} {xQ Im:Nat} (hv:aV h (.cells aa.S.z.arr T.aa) λb aR=>Cl F.fN #[.Z] aR λv aZ=>aa.EX λt7=>v=t7.agg/\aV aZ (.cells aa.S.z.arr T.aa) λcD bJ=>aa.dV bJ (AA cD 0) t7 λcB=> ∃(I:Int->aj->Prop) (mu:Int->aj->Nat),I 0 cB/\∀(t10:Int) (cJ:aj),I t10 cJ->if(decide (t10<(xQ:Int))) then Bd t10 xQ/\aP Db λa=>Hb' cJ (a.add (toNat t10*1)) λt13=>aK (λ(n:Int) (cQ:aj)=>Hl cQ cD 3 λKl Km MX=>Cl F.fH #[.U n] cQ λeJ cW=>aa.EX λt18=>eJ=t18.agg/\Kp cQ cW [(some (AA cD 3))]/\aV cW (.cells t18.arr T.aa) λeY dA=>Kp cW dA [(some (AA cD 3))]/\aX Tryz.prog (Builtin.append_ #[T.cE,T.cE] T.cE #[.slice Kl Km MX,.slice (some (AA eY 0)) 1 1]) dA λgR fc=> ∃um tO vO,gR=.slice um tO vO/\aH fc (AA cD 3) (.slice um tO vO) λcP=>(I (wrap .i64 (t10+1)) cP/\mu (wrap .i64 (t10+1)) cP<mu t10 cJ)) (λJ=>if t13 then J 1 cJ else J 0 cJ) else aa.df cJ (AA cD 0) λt23=>aa.dV cJ (AA b 0) t23 λcV=>aa.df cV (AA b 0) λr0=>R (r0.agg) cV):Cl F.ux #[.slice Db xQ Im] h R:=aS (lq (lq (sq (lq (bq (.loop [(10,.one (.int .i64))] (lq (sq (cq lf lf) (sq (bq (lq (lq (sq (lq (.join [(6,.one (.int .u64))] (cq lf lf))) (pK 8))))) lf)))))) ll))) Tryz.func291 hv
theorem tj.walk {r:bW.S} (hv:aV h (.cells r.arr T.bW) λb aR=>ah.df aR (AA b 5) λt8=>Cl F.oE #[t8.agg] aR λv aZ=>aa.EX λIN=> ∃IP,v=.tuple #[IN.agg,.I IP]/\aV aZ (.cells aa.S.z.arr T.aa) λcD bJ=>aa.dV bJ (AA cD 0) IN λcB=>aK (λ(t18:Bool) (cJ:aj)=>if t18 then R (.tuple #[.Z,.I 3]) cJ else Hb cJ b 0 λt21=>Hb cJ b 1 λt23=>Hb cJ b 2 λt25=>Hu cJ b 3 λt29=>Hu cJ b 4 λt32=>aa.df cJ (AA cD 0) λt34=>(Cl F.fH #[.U 1] cJ λeJ cQ=>aa.EX λt19=>eJ=t19.agg/\Kp cJ cQ [(some (AA cD 0)),(some (AA b 4)),(some (AA b 3)),(some (AA b 2)),(some (AA b 1)),(some (AA b 0))]/\aV cQ (.cells #[.bool t21,.bool t23,.bool t25] T.bool) λeY cW=>Kp cQ cW [(some (AA cD 0)),(some (AA b 4)),(some (AA b 3))]/\Cl F.ux #[.slice (some (AA eY 0)) 3 3] cW λgR dA=>aa.EX λt27=>gR=t27.agg/\Kp cW dA [(some (AA cD 0)),(some (AA b 4)),(some (AA b 3))]/\Cl F.fH #[.U t29] dA λkU fc=>aa.EX λt30=>kU=t30.agg/\Kp dA fc [(some (AA cD 0)),(some (AA b 4))]/\Cl F.fH #[.U t32] fc λot cP=>aa.EX λt33=>ot=t33.agg/\Kp fc cP [(some (AA cD 0))]/\aV cP (.cells (t27.l++t30.l++t33.l++t34.l).toArray T.aa) λjQ cV=>Cl F.fN #[.slice (some (AA jQ 0)) 4 4] cV λxu dD=>aa.EX λt36=>xu=t36.agg/\aV dD (.cells (t19.l++t36.l).toArray T.aa) λpH dF=>Cl F.fN #[.slice (some (AA pH 0)) 2 2] dF λAT fC=>aa.EX λt38=>AT=t38.agg/\Cl F.mr #[t38.agg] fC λDM gD=> ∃Gb Gc Gd FA,DM=.tuple #[.slice Gb Gc Gd,.I FA]/\R (.tuple #[.slice Gb Gc Gd,.I FA]) gD)/\(aV cJ (.cells #[.bool t21,.bool t23,.bool t25] T.bool) λBz gX=>Kp cJ gX [(some (AA cD 0)),(some (AA b 4)),(some (AA b 3))]/\Cl F.fH #[.U 1] gX λEJ gQ=>aa.EX λvI=>EJ=vI.agg/\Kp gX gQ [(some (AA cD 0)),(some (AA b 4)),(some (AA b 3))]/\Cl F.ux #[.slice (some (AA Bz 0)) 3 3] gQ λSR fh=>aa.EX λzP=>SR=zP.agg/\Kp gQ fh [(some (AA cD 0)),(some (AA b 4)),(some (AA b 3))]/\Cl F.fH #[.U t29] fh λDc jn=>aa.EX λHY=>Dc=HY.agg/\Kp fh jn [(some (AA cD 0)),(some (AA b 4))]/\Cl F.fH #[.U t32] jn λEK ju=>aa.EX λFL=>EK=FL.agg/\Kp jn ju [(some (AA cD 0))]/\aV ju (.cells (zP.l++HY.l++FL.l++t34.l).toArray T.aa) λSQ sK=>Cl F.fN #[.slice (some (AA SQ 0)) 4 4] sK λQi rL=>aa.EX λIq=>Qi=Iq.agg/\aV rL (.cells (vI.l++Iq.l).toArray T.aa) λb_7 qK=>Cl F.fN #[.slice (some (AA b_7 0)) 2 2] qK λVF vh=>aa.EX λxj=>VF=xj.agg/\Cl F.mr #[xj.agg] vh λVG zY=> ∃Ou Ov Ow ZA,VG=.tuple #[.slice Ou Ov Ow,.I ZA]/\R (.tuple #[.slice Ou Ov Ow,.I ZA]) zY)/\True) (λJ=>if(IP !=0) then J true cB else bW.df cB (AA b 0) λt15=>Cl F.tp #[t15.agg] cB λVH BL=> ∃t16,VH=.bool t16/\J (!t16) BL)):Cl F.tj #[r.agg] h R:=aS (lq (lq (sq (sq (.join [(18,.one (.bool))] lf) (cq ll lf)) (sq (.qW (jh 6 1 (.op 9 (.op 10 (.op 12 (.op 13 (.op 15 (.alts (.fork 0 (.op 7 (.op 8 (.op 11 (.op 14 (jh 9 16 .done))))) (.fork 7 (.op 0 (.op 8 (.op 11 (.op 14 (jh 9 16 .done))))) .mD)))))))))) lf)))) Tryz.func249 hv
theorem nt.walk {r:bW.S} {dest:az.S} {id:ah.S} {gI:Int} (hv:aV h (.cells r.arr T.bW) λb aR=>aV aR (.cells dest.arr T.az) λcD aZ=>aV aZ (.cells id.arr T.ah) λeY bJ=>aV bJ (.cells aw.S.z.arr T.aw) λjQ cB=>bW.df cB (AA b 0) λt14=>Cl F.tj #[t14.agg] cB λv cJ=> ∃ZB ZC ZD ue,v=.tuple #[.slice ZB ZC ZD,.I ue]/\if(ue !=0) then aw.dV cJ (AA jQ 0) aw.S.z λcQ=>aw.df cQ (AA jQ 0) λr0=>R (.tuple #[r0.agg,.I ue]) cQ else az.df cJ (AA cD 0) λt22=>ah.df cJ (AA eY 0) λt23=>aV cJ (.cells #[.U 1,.U 1,.U 0,.I 0,.slice ZB ZC ZD] T.aE) λpH cW=>aV cW (.cells aw.S.z.arr T.aw) λBz dA=>aw.dV dA (AA Bz 0) ⟨2,0,t22.f0,t22.f1,t22.f2,t22.f3,t22.f4,false,0,0,j9,j9,t23.f0,t23.f1,t23.f2,t23.f3,t23.f4,t23.f5,t23.f6,gI,(some (AA pH 0)),1,1⟩ λfc=>aw.df fc (AA Bz 0) λt30=>Cl F.qE #[t30.agg] fc λeJ cP=> ∃t31,eJ=.bool t31/\if(!t31) then aw.dV cP (AA jQ 0) aw.S.z λcV=>aw.df cV (AA jQ 0) λia=>R (.tuple #[ia.agg,.I 3]) cV else aw.df cP (AA Bz 0) λt34=>aw.dV cP (AA jQ 0) t34 λdD=>aw.df dD (AA jQ 0) λoS=>R (.tuple #[oS.agg,.I 0]) dD):Cl F.nt #[r.agg,dest.agg,id.agg,.U gI] h R:=aS (lq (lq (sq (lq (cq ll lf)) (lq (sq (lq (cq ll lf)) ll))))) Tryz.func197 hv
end
section
namespace Bn
open Cb
open qI (Ev dj uG)
variable {V:List UInt8→Bool} {h h0 h' g:aj} {R:iI} {D D':Nat→Prop}
structure BB where
 b:xU
 p:bU
 c:Nat
abbrev BB.s (x:BB):aE.S:=x.b.s x.p x.c
abbrev LG (x:BB):List Value:=x.s.l
theorem LH (x:BB):(LG x).length=5:=rfl
theorem aeP (x:BB): ∀v∈LG x,jg v=true:=λv hv=>by
 simp only[LG,aE.S.l,bP,List.not_mem_nil,or_false] at hv;rcases hv with rfl|rfl|rfl|rfl|rfl<;>rfl
structure qT (h:aj) (D:Nat->Prop) (bs:List xU) (q:bU) (l cl:Nat) (xs:List BB):Prop where
 eq:xs.map BB.b=bs
 len:l=bs.length
 row:Row h q (xs.flatMap LG)
 own:xs≠ []->∀y,aQ q y->D y
 cap:l<=cl
 ok: ∀x∈xs,BV.ok h D ⟨x.p,x.c,x.b.data⟩
theorem qT.xl {bs:List xU} {q:bU} {l cl:Nat} {xs:List BB} (B:qT h D bs q l cl xs):xs.length=bs.length:=by rw[<-B.eq,aN]
theorem qT.frame {Q:Nat->Prop} {bs:List xU} {q:bU} {l cl:Nat} {xs:List BB} (B:qT h D bs q l cl xs) (f:Fr Q h h') (hq: ∀y,D y->¬Q y):qT h' D bs q l cl xs:=by
 refine⟨B.eq,B.len,?_,B.own,B.cap,λx hx=>(B.ok x hx).frame f hq⟩;by_cases e:xs= []
 ·subst e;exact Row.nil
 ·exact B.row.frame f (λa ha=>hq _ (B.own e _ ⟨a,ha,rfl⟩))
theorem qT.on {bs:List xU} {q:bU} {l cl:Nat} {xs:List BB} (B:qT h D bs q l cl xs) (f:Fr No h h'):qT h' D bs q l cl xs:=B.frame f (λ_ _=>id)
theorem qT.mono {bs:List xU} {q:bU} {l cl:Nat} {xs:List BB} (B:qT h D bs q l cl xs) (hd: ∀y,D y->D' y):qT h D' bs q l cl xs:=
 ⟨B.eq,B.len,B.row,λe y hy=>hd y (B.own e y hy),B.cap,λx hx=>(B.ok x hx).mono hd⟩
theorem qT.get {bs:List xU} {q:bU} {l cl:Nat} {xs:List BB} (B:qT h D bs q l cl xs) {i:Nat} (hi:i<bs.length): ∃(a:Addr) (x:BB),q=some a/\fE (a.add (i*5)) x.s.l 0 h/\x.b=bs[i]/\BV.ok h D ⟨x.p,x.c,x.b.data⟩/\xs[i]? =some x:=by
 have xl:=B.xl;have hy:xs[i]? =some (xs[i]'(by omega)):=au _;obtain⟨a,rfl⟩:=B.row.some (by intro e;have:=bp List.length e;rw[gW LG 5 LH,bC] at this;omega);refine⟨a,_,rfl,B.row.lj LH hy,?_,B.ok _ (bt hy),hy⟩;have:=B.eq;subst this;rw[List.getElem_map]
theorem qT.take {bs:List xU} {q:bU} {l cl:Nat} {xs:List BB} (B:qT h D bs q l cl xs) {n:Nat} (hn:n<=bs.length):qT h D (bs.take n) (cZ q cl 0 5) (n - 0) (cl - 0) (xs.take n):=by
 have hc:=B.cap;have hl:=B.len;have hr:=B.row.sub (cap:=cl) (l:=0) (u:=n) (sz:=5) (cj _) (by omega);rw[wo LG 5 LH,Nat.zero_mul,jT] at hr;refine⟨by rw[List.map_take,B.eq],by rw[bQ];omega,hr,λe y hy=>B.own (λe'=>e (by rw[e',List.take_nil])) y ?_,by omega,λx hx=>B.ok x (List.mem_of_mem_take hx)⟩;obtain⟨a,ea,eb⟩:=hy;unfold cZ at ea;cases q with
 |none=>split at ea<;>cases ea
 |some a'=>
  split at ea
  ·cases ea;exact⟨_,rfl,eb⟩
  ·cases ea;exact⟨_,rfl,eb⟩
theorem aeQ {k:Nat} (hk:R (.bool (alone k)) h):Cl F.tb #[.U (k:Int)] h R:=by
 refine tb.walk ?_;unfold alone at hk;by_cases c1:k=1
 ·rw[ay (.inl c1)] at hk;rw[ag (by simp only[dz];omega)];exact hk
 rw[ai (by simp only[dz];omega)];by_cases c6:k=6
 ·rw[ay (.inr (.inl c6))] at hk;rw[ag (by simp only[dz];omega)];exact hk
 rw[ai (by simp only[dz];omega)];by_cases c7:k=7
 ·rw[ay (.inr (.inr (.inl c7)))] at hk;rw[ag (by simp only[dz];omega)];exact hk
 rw[ai (by simp only[dz];omega)];have:((k:Int)==10)=decide (k=1\/k=6\/k=7\/k=10):=by
  by_cases Ws:k=10
  ·rw[ay (.inr (.inr (.inr Ws)))];simp only[dz];omega
  ·rw[decide_eq_false (by omega)];simp only[beq_eq_false_iff_ne,iq];omega
 rw[this];exact hk
theorem alG {bs:List xU} {q:bU} {l cl:Nat} {xs:List BB} (U:xP V h0) (u:Fr No h0 h) (mx:Gi.Mx h) (B:qT h D bs q l cl xs) (hl:bs.length<=1000000) (hd: ∀b∈bs,b.data.length<=80000)
  (hk: ∀h',Fr No h h'->R (.bool (Me V bs)) h'):Cl F.wU #[.slice q l cl] h R:=by
 have el:=B.len;subst el;refine wU.walk ?_;have hF:Me V bs=Me V bs:=rfl;conv at hF=>rhs;unfold Me
 refine⟨λok g=>ok=true/\g=h/\bs.length<=8/\Me V bs=Ut V [] bs,λ_ _=>0,aK.of λJ hJ=> ?_,?_⟩
 ·have no:Me V bs=false->J true h:=λe=>by
   subst hJ;dsimp only;rw[ag rfl];have:=hk h (Fr.refl _ _);rw[e] at this;exact this
  by_cases c0:bs.length=0
  ·rw[ag (by rw[c0];decide)];have:bs= []:=List.length_eq_zero_iff.1 c0;exact no (by rw[hF,this];rfl)
  obtain⟨n,hn⟩: ∃n,bs.length=n+1:=⟨bs.length - 1,by omega⟩;have ew:IntKind.wrap .i64 ((bs.length:Int) - 1)=(n:Int):=by rw[hn,bK (by omega) (by omega)];omega
  have HI:bs.getLast? =some bs[n]:=by rw[List.getLast?_eq_getElem?,show bs.length - 1=n by omega,au (by omega)]
  rw[HI] at hF;dsimp only at hF;rw[ew,dL];by_cases c8:bs.length<=8
  case neg=>rw[ag (by simp only[bf];omega)];exact no (by rw[hF,decide_eq_false c8];rfl)
  rw[dL];rw[ay c8,fu] at hF;obtain⟨a,x,rfl,hh,ex,_⟩:=B.get (i:=n) (by omega);have h0c:ak h (a.add (n*5))=some (.U ((bs[n].ty:Nat):Int)):=by rw[<-ex];exact hh.1
  have h1c:ak h ((a.add (n*5)).add 1)=some (.U ((bs[n].nr:Nat):Int)):=by rw[<-ex];exact hh.2.1
  refine⟨⟨by omega,by omega⟩,aB.2 ⟨_,by rw[aL];exact h0c,?_⟩⟩;by_cases c1:bs[n].ty=1
  case neg=>rw[ag (by simp only[fK,iq];omega)];exact no (by rw[hF,decide_eq_false (λe=>c1 e.1)];rfl)
  rw[ai (by simp only[fK,iq];omega)];refine⟨⟨by omega,by omega⟩,aB.2 ⟨_,by rw[aL];exact h1c,?_⟩⟩;by_cases c2:bs[n].nr=1
  case neg=>rw[show(((bs[n].nr:Nat):Int) !=1)=true by simp only[fK,iq];omega];exact no (by rw[hF,decide_eq_false (λe=>c2 e.2)];rfl)
  rw[show(((bs[n].nr:Nat):Int) !=1)=false by simp only[bne_eq_false_iff_eq];omega];subst hJ;dsimp only;rw[dL];exact⟨rfl,rfl,c8,by rw[hF,ay ⟨c1,c2⟩];rfl⟩
 rintro _ h ⟨rfl,rfl,l8,hf⟩;clear hF;refine aK.of λJ1 pA=> ?_
 refine⟨λok t g=> ∃i:Nat,t=(i:Int)/\i<=bs.length/\ok=true/\Fr No h g/\Ut V [] bs=Ut V (bs.take i) (bs.drop i),λ_ t _=>bs.length - t.toNat,⟨0,rfl,cj _,rfl,Fr.refl _ _,rfl⟩,?_⟩;rintro _ _ g ⟨i,rfl,hi,rfl,fg,he⟩;by_cases nQ:i<bs.length
 case neg=>
  rw[ai (λe=>nQ (by have:=of_decide_eq_true e;omega))];subst pA;have:=hk g fg;rw[hf,he,fL (by omega)] at this;exact this
 rw[jy];have Bg:=B.on fg;obtain⟨a,x,rfl,hh,ex,okx,_⟩:=Bg.get nQ;rw[da nQ] at he;have lx:x.b.data.length<=80000:=by rw[ex];exact hd _ (fw nQ)
 refine⟨⟨by omega,by omega⟩,aB.2 (aE.yS (x:=x.s) (by rw[aL];exact hh) (aE.j8 (x:=x.s) λb h6 eb hb f6=>aE.jk hb (On x.b U (u.tt (fg.tt f6)) (mx.on (fg.tt f6)) (okx.frame f6 (λ_ _=>id)).row okx.cap lx λh7 f7=>⟨_,rfl,⟨by omega,by have:=B.cap;omega⟩,?_⟩)))⟩;have F7:=f6.tt f7;have hb7:=f7.get hb id;have z7:=fg.tt F7;rw[ex];have eP: ∀r,Ut V (bs.take i) (bs[i]::r)=(sd V bs[i] && (bs.take i).all (apart bs[i]) && Ut V (bs.take i++ [bs[i]]) r):=λr=>rfl
 rw[eP] at he;refine⟨λok t g'=> ∃k:Nat,t=(k:Int)/\k<=i/\ok=(sd V bs[i] && (bs.take k).all (apart bs[i]))/\Fr No h7 g',λ_ t _=>i - t.toNat,⟨0,rfl,cj _,by simp,Fr.refl _ _⟩,?_⟩;rintro ok _ g' ⟨k,rfl,Q4,hok,fg'⟩;have ei:((Int.toNat (i:Int)) - 0:Nat)=i:=by omega
 rw[ei];have FG:=fg.tt (F7.tt fg');by_cases V2:k<i
 case neg=>
  rw[ai (λe=>V2 (by have:=of_decide_eq_true e;omega))];have:k=i:=by omega
  subst this;rw[<-hok] at he;cases ok with
  |false=>
   rw[jy];subst pA;have:=hk g' FG;rw[hf,he] at this;exact this
  |true=>
   rw[dL,bK (n:=(k:Int)+1) (by omega) (by omega)];refine⟨⟨k+1,by omega,by omega,rfl,FG,?_⟩,by show bs.length - Int.toNat ((k:Int)+1)<bs.length - Int.toNat (k:Int);omega⟩;rw[he,fu,bY,au nQ];rfl
 rw[jy];refine aK.of λJ2 zX=> ?_
 have B2:=(B.on FG).take (n:=i) (by omega);have lt:(bs.take i).length=i:=by rw[bQ];omega
 obtain⟨a',y,ea',hh',ey,oky,_⟩:=B2.get (i:=k) (by omega);rw[List.getElem_take] at ey;have lk:k<bs.length:=by omega
 have ek:bs.take (k+1)=bs.take k++ [bs[k]]:=by rw[bY,au lk];rfl
 refine⟨⟨by omega,by omega⟩,cG.2 ⟨a',ea',aE.yS (x:=y.s) (by rw[aL];exact hh') (aE.j8 (x:=y.s) λb1 yi uf dw f11=>aK.of λJ3 SO=> ?_)⟩⟩;have alH:=(fg'.tt f11).get hb7 id;have go: ∀r g2,Fr No yi g2->r=(ok && apart bs[i] bs[k])->J3 r g2:=by
  intro r g2 f2 er;subst SO zX;dsimp only;rw[bK (n:=(k:Int)+1) (by omega) (by omega)];refine⟨⟨k+1,by omega,by omega,?_,fg'.tt (f11.tt f2)⟩,by show i - Int.toNat ((k:Int)+1)<i - Int.toNat (k:Int);omega⟩;rw[er,hok,ek,List.all_append,<-Bool.and_assoc];simp
 cases hq:ok with
 |false=>rw[dL];exact go false yi (Fr.refl _ _) (by rw[hq];rfl)
 |true=>
 rw[ag rfl];refine⟨_,af dw rfl,_,af alH rfl,?_⟩;rw[hq] at go;have n1:(((y.s.f1:Int) !=x.s.f1)=decide (bs[k].nr≠bs[i].nr)):=by
  show((y.b.nr:Int) !=(x.b.nr:Int))=_;rw[ey,ex];by_cases e:bs[k].nr=bs[i].nr
  ·rw[decide_eq_false (λq=>q e),e];simp
  ·rw[ay e];simp only[fK,iq];omega
 have n2:(((y.s.f0:Int) !=x.s.f0)=decide (bs[k].ty≠bs[i].ty)):=by
  show((y.b.ty:Int) !=(x.b.ty:Int))=_;rw[ey,ex];by_cases e:bs[k].ty=bs[i].ty
  ·rw[decide_eq_false (λq=>q e),e];simp
  ·rw[ay e];simp only[fK,iq];omega
 rw[n1];by_cases c1:bs[k].nr≠bs[i].nr
 case neg=>rw[ai (by simpa using c1)];exact go false yi (Fr.refl _ _) (by unfold apart;rw[decide_eq_false c1];rfl)
 rw[ag (ay c1)];refine⟨_,af dw rfl,_,af alH rfl,?_⟩;rw[n2];by_cases c2:bs[k].ty≠bs[i].ty
 ·rw[ag (ay c2)];exact go true yi (Fr.refl _ _) (by unfold apart;rw[ay c1,ay c2];rfl)
 rw[ai (by simpa using c2)];refine⟨_,af alH rfl,?_⟩;rw[show x.s.f0=((bs[i].ty:Nat):Int) by rw[<-ex]];exact aeQ ⟨_,rfl,go _ yi (Fr.refl _ _) (by unfold apart;rw[ay c1,decide_eq_false c2];rfl)⟩
end Bn
end
end Go.Proofs.YtlenamcfacpheaaGreatDoor
