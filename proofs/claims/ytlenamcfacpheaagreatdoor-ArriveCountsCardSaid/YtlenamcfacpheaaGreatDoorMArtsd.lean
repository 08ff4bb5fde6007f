/-
  FD is proved here: parts of x4 proof, one behind x4 other (texts of this work, merged by a program; IX x4 theorem IY not use is left out). No condition.
-/
import Derived.Test.YtlenamcfacpheaaGreatDoorMArtsc
set_option maxRecDepth 100000
set_option maxHeartbeats 4000000
namespace Go.Proofs.YtlenamcfacpheaaGreatDoor
open Go.Den
open IntKind (wrap)
open Int (toNat)
section
namespace Bn
open Cb
open iW (Ev cV kz)
variable {V:cD→Bool} {h h0 h':ai} {R:fp} {D:Nat→Prop} {ts:List Tr} {ys:List CV} {q:cy} {l c:Nat}
theorem HY{i:Nat}(U:ke V h0)(u:Fr No h0 h)(L:kX h D q l c ys)(T:df h D ts ys)(hr:dk ts<=800000)(hi:i<100)(k1: ∀t,mH V ts i=.ok t->∀h' z,rU h' (λy=>h.size<=y) t z->Fr No h h'->R (.tuple #[z.agg,.I 0]) h')(Q: ∀e,mH V ts i=.error e->gL h R (.tuple #[zv.agg,.I e])):Cl 206 #[.slice q l c,.I (i:Int)] h R:=by
 have ln:=T.len;have el:=L.len;have l9:=gG ts;refine CD.walk (aa.cM λb s eb A f1=>aG.of λr' Z=> ?_);have zb:=aD A;have no: ∀g e,Fr No s g->mH V ts i=.error e->aa.cX g (AA b 0) .z λG=>aa.cv G (AA b 0) λr=>R (.tuple #[r.agg,.I e]) G:=λg e m k=>
  CJ (m.get A id) λG f=>Q e k G ((f1.tt m).fresh f (λy e=>ag))
 rw[dc];have H:mH V ts i=mH V ts i:=rfl;conv at H=>rhs;unfold mH
 by_cases c':i<ts.length
 case neg=>
  rw[av ag];rw[ae c']at H;subst Z;dsimp only;rw[af rfl];exact no s 1 (Fr.refl _ _) H
 rw[af c']at H;rw[az ag];subst Z;dsimp only;rw[ae (show¬false=true by decide)];refine Bu (L.frame f1 cb) (T.on f1) ag hi λh4 f4=>⟨_,rfl,aG.of λJ1 a'=>Mo U (u.tt (f1.tt f4)) (L.frame (f1.tt f4) cb) (T.on (f1.tt f4)) ag λj f5=>⟨_,rfl,?_⟩⟩
 have y':=Bv ts i;have p:=f1.tt (f4.tt f5);have S: ¬(ts.all (gO V)=true/\0<=typeAt ts i)->J1 true j:=λhn=>by
  subst a';dsimp only;rw[af rfl];exact no j 3 (f4.tt f5) (by rw[H,ae hn])
 cases ha:ts.all (gO V)with
 |false=>rw[fK];exact S (λe=>by rw[ha]at e;cases e.1)
 |true=>
 rw[dc];by_cases P:0<=typeAt ts i
 case neg=>rw[av ag];exact S (λe=>P e.2)
 rw[az ag];clear S;rw[af ⟨ha,P⟩]at H;subst a';dsimp only;rw[ae (show¬false=true by decide)];refine jC (L.frame p cb) (T.on p) ag λh7 z tz f7=>aa.ex z.s ⟨rfl,aa.ft (x:=z.s) λb1 n t' B f9=>aG.of λJ2 m'=> ?_⟩
 have z1:=f1.1;have z4:=f4.1;have B':=f5.1;have z5:=p.1;have z7:=f7.1;have z9:=f9.1;have C':=aD B;have F:=p.tt (f7.tt f9);have done: ∀g (w:CV) t,rU g (λy=>j.size<=y/\y≠b1) t w->room t<=900000->aa.fi g b1 w.s->Fr (λy=>j.size<=y) n g->(mH V ts i=if gO V t=true then .ok t else .error 3)->J2 g:=by
  intro g w t o rt hw m k;subst m';try dsimp only
  have J:Fr No h g:=F.fresh m (λy e=>ag);have b': ∀{Y},Fr No g Y->aa.fi Y b .z:=λf=>f.get (m.get ((f4.tt (f5.tt (f7.tt f9))).get A id) ag) id
  refine aa.ff hw (e8 U (u.tt J) o.u ag λu' f11=>⟨_,rfl,?_⟩);cases C:gO V t with
  |false=>
   rw[fK];rw[C]at k;exact CJ (b' f11) λG f=>Q 3 k G ((J.tt f11).fresh f (λy e=>ag))
  |true=>
   rw[dc];rw[C,af rfl]at k;refine aa.ff (f11.get hw id) (fin (b' f11) (o.frame f11 cb) (λy d e=>bY f1.1) λj' t13 f13=>k1 t k j' w (t13.mono λy d=>ag) ((J.tt f11).fresh f13 (λy e=>ag)))
 have I:rU n (λy=>j.size<=y/\y≠b1) (qZ ts) z:=by
  obtain⟨⟨a1,a2,a3,a4⟩,zs,a5,a6,a7,a8⟩:=tz;refine⟨⟨a1,a2,a3,((D9 a4).mono λy d=>ag).frame f9 cb⟩,zs,a5,a6.frame f9 cb,λy d=>⟨a7 y d,bY (a6.dY d)⟩,(df.mono (λy d=>by have s:=d.1.1;have h2:=d.2;exact⟨⟨s,ag⟩,d.1.2⟩) a8.lt).on f9⟩
 by_cases N:0<typeAt ts i
 case neg=>
  rw[dc];rw[ae N]at H;exact done n z (qZ ts) I (by simp only[room,bz];omega) B (Fr.refl _ _) H
 rw[af (av N)];rw[af N]at H;obtain⟨sum,n'⟩:=dP P;rw[n']at H⊢;rw[aI]at H;refine Ey U (u.tt F) (L.frame F cb) (T.on F) ag ag ag (λbs O l' x' s' row lb nb f14=>⟨_,_,_,_,rfl,?_⟩) (λO l' f14=>⟨_,_,_,_,rfl,?_⟩)
 .rw[dc];rw[O]at H;refine⟨_,_,_,ar (f14.get B id),ny row rfl ag λv' v ev ov f16=>aa.ex (CV.s ⟨2,0,v,none,0,0⟩) ⟨rfl,f16.kp,?_⟩⟩;have e':=f14.tt f16;have g0:Fr (λy=>y=b1) j n:=(f7.tt f9).mono λ_ _=>False.elim
  obtain⟨zs,ez,M⟩:=Mj (g0:=j) I B g0;have i':z.s.oS=zs.length:=ez.symm;have zl:zs.length=ts.length:=by have:=M.tr.len;exact this.symm
  have q9: ∀y,aR z.q y->y<n.size:=λy d=>M.own.dY d
  have z':=f14.1;have A':=f16.1;have f':=M.on e';rw[i'];obtain⟨zk,zn,d',_⟩:=I.1;refine Mn f' ag (gl.mono (λy d=>⟨ag,λC=>bY (q9 y C)⟩) (Br ov)) λG p' q' g' K hl w' ho=> ?_
  have o':z.v.ok G (λy=>j.size<=y/\y≠b1):=by
   have E:z.v.b= []:=d';exact⟨by rw[E];exact Row.nil,λe=>absurd E e,I.1.2.2.2.cap⟩
  have o:=Ml (k':=z.n) K o';have W:z.k=4:=zk;have X:z.n=0:=zn;have E:z.v.b= []:=d';rw[W,X,E,ev]at o;have lr:=hT (a:=ts) (b:= [pg bs]);simp only[dk,room,bz]at lr;refine done G ⟨z.k,z.n,z.v,q',p'.length,g'⟩ (qZ (ts++ [pg bs])) (by rw[W,X];exact o) (by simp only[room,bz];omega) K.cT ?_ H;refine⟨ag,λy d hn=> ?_⟩;rw[K.fr.2 y ag ag,(f7.tt f9).2 y ag id]
 .rw[fK];rw[O]at H;exact CJ (f14.get ((f4.tt (f5.tt (f7.tt f9))).get A id) id) λG f=>Q 3 H G ((F.tt f14).fresh f (λy e=>bY f1.1))
theorem xU {i : Nat} {t : Tr} {x : CV} (U : ke V h0) (u : Fr No h0 h) (tx : CI h t x) (hr : room t ≤ 800000) (hi : i < 100)
    (k1 : ∀ us, mI V t i = .ok us → dk us ≤ dk t.l → ∀ h' p zs c, kX h' (λy => h.size ≤ y) p zs.length c zs → df h' (λy => h.size ≤ y) us zs → Fr No h h' → R (.tuple #[.slice p zs.length c, .int .i64 0]) h')
    (k2 : ∀ e, mI V t i = .error e → e ≠ 0 → ∀ h', Fr No h h' → R (.tuple #[.slice none 0 0, .int .i64 e]) h') : Cl 244 #[x.agg, .int .i64 (i : Int)] h R := by
  obtain ⟨xk, xn, xb, xl, xv, ys, L, TS⟩ := gl.kn tx
  have rl := jX (t := t)
  have ln := TS.len
  have el := L.len
  have l9 := gG t.l
  have e4 : x.s.f0 = t.k := xk
  have Th : x.s.oS = t.l.length := xl
  refine CE.walk (x := x.s) (aa.cM λb h1 eb hb f1 => aG.of λJ hJ => aa.ff hb (e8 U (u.tt f1) (tx.on f1) (by omega) λh3 f3 => ⟨_, rfl, ?_⟩))
  have F3 := f1.tt f3
  have OF := f3.get hb id
  have hO : mI V t i = mI V t i := rfl
  conv at hO => rhs; unfold mI
  have bad : ¬ (gO V t = true ∧ t.k = 4 ∧ 0 ≤ typeAt t.l i) → ∀ g, Fr No h g → R (.tuple #[.slice none 0 0, .int .i64 3]) g := λhn g fg => k2 3 (by rw [hO, if_neg hn]) (by decide) g fg
  have Qv : ¬ (gO V t = true ∧ t.k = 4 ∧ 0 ≤ typeAt t.l i) → J true h3 := λhn => by
    subst hJ
    dsimp only
    rw [if_pos rfl]
    exact bad hn h3 F3
  cases hR : gO V t with
  | false => exact Qv (λe => by rw [hR] at e; cases e.1)
  | true =>
  rw [if_neg (show ¬ (!true) = true by decide)]
  refine ⟨_, cH OF rfl, ?_⟩
  rw [e4]
  by_cases k4 : t.k = 4
  case neg => rw [show (t.k != 4) = true by simpa using k4]; exact Qv (λe => k4 e.2.1)
  rw [show (t.k != 4) = false by simpa using k4]
  clear Qv
  subst hJ
  dsimp only
  rw [if_neg (show ¬ false = true by decide)]
  refine ⟨_, _, _, cH OF rfl, Bu (L.frame F3 (λ_ _ => id)) (TS.on F3) (by omega) hi λh4 f4 => ⟨_, rfl, ?_⟩⟩
  have F4 := F3.tt f4
  have HT := f4.get OF id
  by_cases ht : 0 ≤ typeAt t.l i
  case neg => rw [if_pos (decide_eq_true (by omega))]; exact bad (λe => ht e.2.2) h4 F4
  rw [if_neg (by simp only [decide_eq_true_eq]; omega)]
  rw [if_pos ⟨hR, k4, ht⟩] at hO
  clear bad
  have HZ : ∀ {g} (us : List Tr) (zs : List CV) {n c : Nat} {p : Option Addr}, kX g (λ_ => True) p n c zs → Az g us zs → dk us ≤ dk t.l → Fr No h g → mI V t i = .ok us → Cl 247 #[.slice p n c] g λLR Ti => aa.EX λt84 => LR = t84.agg ∧ R (.tuple #[.slice t84.vq t84.oS t84.sW, .int .i64 0]) Ti := by
    intro g us zs n c p Lz Tz rz fg hu
    refine jC Lz Tz (by omega) λUw z tz f10 => aa.ex z.s ⟨rfl, ?_⟩
    obtain ⟨_, ws, a5, a6, a7, a8⟩ := tz
    have zg := fg.1
    have := k1 us hu rz Uw z.q ws z.cl ⟨rfl, a6.iw, λ_ y hy => by have := a7 y hy; omega, a6.le⟩ (df.mono (λy hy => by have := hy.1; omega) a8) (fg.tt f10)
    rw [← a5] at this
    exact this
  by_cases h0 : typeAt t.l i = 0
  · rw [if_pos (by rw [h0]; rfl)]
    rw [if_pos h0] at hO
    exact ⟨_, _, _, cH HT rfl, HZ t.l ys (L.frame F4 (λ_ _ => id)) (TS.on F4) (Nat.le_refl _) F4 hO⟩
  rw [if_neg (by simpa using h0)]
  rw [if_neg h0] at hO
  have V1 : i < t.l.length := by
    rcases Nat.lt_or_ge i t.l.length with hq | hq
    · exact hq
    · have : typeAt t.l i = -1 := by unfold typeAt; rw [if_neg (λe => by omega)]
      omega
  have V2 := Bv t.l i
  obtain ⟨sum, Tj⟩ := Int.eq_ofNat_of_zero_le ht
  rw [Tj] at hO ⊢
  rw [Int.toNat_natCast] at hO
  have PK : 1 ≤ sum ∧ sum ≤ 2 := by omega
  obtain ⟨n, hn⟩ : ∃ n, t.l.length = n + 1 := ⟨t.l.length - 1, by omega⟩
  rw [show t.l.length - 1 = n by omega] at hO
  have ew : IntKind.wrap .i64 (((x.s.oS : Nat) : Int) - 1) = (n : Int) := by rw [Th, hn, bD (by omega) (by omega)]; omega
  refine ⟨_, _, _, cH HT rfl, ?_⟩
  rw [ew]
  obtain ⟨a, y, ea, hh, ty, _⟩ := elem (L.frame F4 (λ_ _ => id)) (TS.on F4) (i := n) (by omega)
  have rn := ir (ts := t.l) (i := n) (by omega)
  obtain ⟨yk, yn, yb, yl, yv, _⟩ := gl.kn ty
  generalize PL : at_ t.l n = la at ty rn yk yn yb yl hO
  have V3 := jX (t := la)
  refine ⟨_, _, _, cH HT rfl, ⟨by omega, by omega⟩, bK.2 ⟨a, ea, aa.ko (x := y.s) (by rw [Int.toNat_natCast]; exact hh) (aa.ft (x := y.s) λb1 h6 SD Jv f6 => aG.of λJ1 Ux => ?_)⟩⟩
  have F6 := F4.tt f6
  have lb : y.s.nj = la.b.length := by show y.v.b.length = _; rw [yb]
  have bad : ∀ g, Fr No h6 g → ¬ (i < n ∧ mW la (pg la.b) = true ∧ la.b.length = 2 * sum) → J1 true g := λg fg hn => by
    subst Ux
    try dsimp only
    rw [if_pos rfl]
    exact k2 3 (by rw [hO, if_neg hn]) (by decide) g (F6.tt fg)
  by_cases c1 : i < n
  case neg => rw [if_pos (decide_eq_true (by omega))]; exact bad h6 (Fr.refl _ _) (λe => c1 e.1)
  rw [if_neg (by simp only [decide_eq_true_eq]; omega)]
  have RA : ∀ {g}, Fr No h6 g → Row g y.v.p (bc la.b) := λfg => by rw [← yb]; exact ((yv.frame f6 (λ_ _ => id)).frame fg (λ_ _ => id)).row
  refine aa.ff Jv ⟨_, _, _, cH Jv rfl, ny (RA (Fr.refl _ _)) lb (by omega) λV4 v ev ov f11 => aa.ex (CV.s ⟨2, 0, v, none, 0, 0⟩) ⟨rfl, f11.kp, ?_⟩⟩
  refine iX (x := y) (y := ⟨2, 0, v, none, 0, 0⟩) (s := pg la.b) (ty.on (f6.tt f11)) (ev ▸ Br ov) (by omega) λUy f12 => ⟨_, rfl, ?_⟩
  have PM := f11.tt f12
  cases c2 : mW la (pg la.b) with
  | false => rw [if_pos (by decide)]; exact bad Uy PM (λe => by rw [c2] at e; cases e.2.1)
  | true =>
  rw [if_neg (show ¬ (!true) = true by decide)]
  refine ⟨_, _, _, cH (PM.get Jv id) rfl, oV.walk ⟨_, rfl, (Fr.refl _ _).kp, ?_⟩⟩
  rw [lb, bD (n := 2 * (sum : Int)) (by omega) (by omega)]
  by_cases c3 : la.b.length = 2 * sum
  case neg => rw [show (((la.b.length : Nat) : Int) != 2 * (sum : Int)) = true by simp only [bne_iff_ne, ne_eq]; omega]; exact bad Uy PM (λe => c3 e.2.2)
  rw [show (((la.b.length : Nat) : Int) != 2 * (sum : Int)) = false by simp only [bne_eq_false_iff_eq]; omega]
  clear bad
  rw [if_pos ⟨c1, c2, c3⟩] at hO
  subst Ux
  try dsimp only
  rw [if_neg (show ¬ false = true by decide)]
  have RB := F6.tt PM
  have cut : ∀ {g}, Fr No h g → kX g (λ_ => True) (cO x.s.vq x.s.sW 0 4) ((Int.toNat (n : Int)) - 0) (x.s.sW - 0) (ys.take n) := fun {g} fg => by
    have hr := (L.frame fg (λ_ _ => id)).row.sub (cap := x.cl) (l := 0) (u := n) (sz := 4) (Nat.zero_le _) (by have := L.cap; omega)
    rw [lO hN 4 gu, Nat.zero_mul, List.drop_zero] at hr
    have hc : x.ll ≤ x.cl := L.cap
    exact ⟨by rw [List.length_take]; omega, hr, λ_ _ _ => trivial, by show n - 0 ≤ x.cl - 0; omega⟩
  have cc : n ≤ x.s.sW := by have hc : x.ll ≤ x.cl := L.cap; show n ≤ x.cl; omega
  have rt : dk (t.l.take n) ≤ dk t.l := mS _ _
  refine ⟨_, _, _, cH ((f6.tt PM).get HT id) rfl, ⟨by omega, by omega⟩, Ey U (u.tt RB) (cut RB) ((TS.on RB).take n) (by omega) PK.1 PK.2 (λbs hs Tk V5 V6 row V7 nb f14 => ⟨_, _, _, _, rfl, ?_⟩) (λhs Tk f14 => ⟨_, _, _, _, rfl, ?_⟩)⟩
  · rw [if_neg (by decide)]
    rw [hs] at hO
    dsimp only at hO
    refine ⟨_, _, _, cH ((PM.tt f14).get Jv id) rfl, jH row (RA (PM.tt f14)) rfl lb ⟨_, rfl, ?_⟩⟩
    have SF := RB.tt f14
    by_cases ce : bs = la.b
    · rw [decide_eq_true ce, if_neg (show ¬ (!true) = true by decide)]
      rw [if_pos ce] at hO
      exact ⟨_, _, _, cH (((f6.tt PM).tt f14).get HT id) rfl, ⟨by omega, by omega⟩, HZ (t.l.take n) (ys.take n) (cut SF) ((TS.on SF).take n) rt SF hO⟩
    · rw [decide_eq_false ce, if_pos (show (!false) = true by decide)]
      rw [if_neg ce] at hO
      exact k2 10 hO (by decide) Tk SF
  · rw [if_pos (by decide)]
    rw [hs] at hO
    exact k2 3 hO (by decide) Tk (RB.tt f14)

end Bn
end
section
namespace Bn
open Cb
open iW (Ev cV kz)
variable {V:cD→Bool} {h H h':ai} {R:fp}
variable {ts:List Tr} {i:Nat} {t:Tr} {e:Int}
abbrev Prim.s(p:Prim):aC.S:=⟨p.fl,p.sum,p.dest.ky,p.dest.node,p.dest.gk,p.dest.host,p.dest.jB,p.rep.ky,p.rep.node,p.rep.gk,p.rep.host,p.rep.jB,p.id.e.ky,p.id.e.node,p.id.e.gk,p.id.e.host,p.id.e.jB,p.id.tm,p.id.sq,p.dN⟩
def Prim.wf(p:Prim):Prop:=0<=p.dest.gk/\0<=p.rep.gk/\0<=p.id.e.gk
variable {p:Prim}
theorem RC{b:Nat}{y:aC.S}(x:Prim){K:aC.S->ai->Prop}(a:aC.fi h b y)(hk: ∀h',Fr (λy=>y=b) h h'->K x.s h'):
  aC.cX h (AA b 0) x.s λg=>aC.cv g (AA b 0) λr=>K r g:=
 aC.gy (x:=x.s) a λg d1 f _=>aC.ff d1 (hk g f)
theorem JJ(p:Prim)(hk: gL h R (.bool (iG p))):Cl 202 #[p.s.agg] h R:=by
 refine Aw.walk (aC.cM λb d E a f1=>⟨_,ar a,?_⟩);have no: ∀g,Fr No h g->iG p=false->R (.bool false) g:=λg n e=>by have:=hk g n;rw[e]at this;exact this
 change if Q2 (p.fl:Int) 409638=true then _ else _
 by_cases c1:Q2 (p.fl:Int) 409638=true
 case neg=>rw[ae c1];exact no d f1 (by unfold iG;simp[c1])
 rw[af c1];refine⟨_,ar a,?_⟩;by_cases c2:0<=p.sum
 case neg=>rw[ae (by simp only[aV];exact c2)];exact no d f1 (by unfold iG;simp[c2])
 rw[af (av c2)];refine⟨_,ar a,?_⟩;by_cases c:p.sum<=2
 case neg=>rw[ae (by simp only[aV];exact c)];exact no d f1 (by unfold iG;simp[c])
 rw[af (av c)];refine hU p.dest a rfl rfl rfl rfl rfl (iW.e8 p.dest λo f2=>⟨_,rfl,?_⟩);cases C:cV p.dest with
 |false=>exact no o (f1.tt f2) (by unfold iG;simp[C])
 |true=>
 rw[af rfl];have l:=f2.get a id;refine hU p.rep l rfl rfl rfl rfl rfl (iW.e8 p.rep λq f3=>⟨_,rfl,?_⟩);have F:=f1.tt (f2.tt f3);cases f:cV p.rep with
 |false=>exact no q F (by unfold iG;simp[f])
 |true=>
 rw[af rfl];have m:=f3.get l id;refine yY p.id m rfl rfl rfl rfl rfl rfl rfl (qQ p.id λk f4=>⟨_,rfl,?_⟩);cases j:gE p.id with
 |false=>exact no k (F.tt f4) (by unfold iG;simp[j])
 |true=>
 rw[af rfl];refine⟨_,ar (f4.get m id),?_⟩;have:=hk k (F.tt f4);unfold iG at this;rw[c1,av c2,av c,C,f,j]at this;rw[show decide ((p.s.f19:Int)<=1099511627776)=decide (p.dN<=1099511627776)from jY p.dN 1099511627776];exact this
theorem Bw(h:iG p=true):0<=p.sum/\p.sum<=2/\cV p.dest=true/\cV p.rep=true/\gE p.id=true/\p.dN<=1099511627776:=by
 unfold iG at h;simp only[aT,aV]at h;exact⟨h.1.1.1.1.1.2,h.1.1.1.1.2,h.1.1.1.2,h.1.1.2,h.1.2,h.2⟩
theorem y8(h:iG p=true):dk (D5 p)<=1000:=by
 obtain⟨_,_,a,b,c,_⟩:=Bw h;have:=lR _ a;have:=lR _ b;have:=lR _ (yZ c).1;simp only[D5,dk,room,bz];omega
theorem y9(h:mH V ts i=.ok t):room t<=dk ts+30:=by
 unfold mH at h;split at h
 .split at h
  .split at h
   .split at h
    .cases h
    .rename_i b a;split at h
     .cases h;have:b.length<=4:=by
       unfold sumOf at a;split at a
       .cases a;split<;>simp[Cz,HR]
       .cases a
      simp only[room,hT,dk,bz];omega
     .cases h
   .split at h
    .cases h;simp only[room,bz];omega
    .cases h
  .cases h
 .cases h
theorem za(h:mJ V p=.ok t):room t<=1100:=by
 unfold mJ at h;split at h
 .rename_i a;have:=y9 h;have:=y8 a;omega
 .cases h
theorem Mp(p:Prim)(w:p.wf)(U:ke V H)(u:Fr No H h)(K: ∀t,mJ V p=.ok t->∀h' z,rU h' (λy=>h.size<=y) t z->Fr No h h'->R (.tuple #[z.agg,.I 0]) h')(k: ∀e,mJ V p=.error e->gL h R (.tuple #[zv.agg,.I e])):Cl 177 #[p.s.agg] h R:=by
 refine Ax.walk (aC.cM λb h1 eb s f1=>aa.cM λb1 h2 e' v f2=>aC.ff (x:=p.s) (f2.get s id) (JJ p λh3 f3=>⟨_,rfl,?_⟩));have a:=(f2.tt f3).get s id;have j:=f3.get v id;have f:=f1.tt (f2.tt f3);have z1:=f1.1;have t':=aD v;have z3:=f3.1;unfold mJ at K k;cases c:iG p with
 |false=>exact CJ j λP f4=>k 3 (by rw[c,dc]) P (f.fresh f4 (λy e=>ag))
 |true=>
 rw[dc];rw[c,af rfl]at K k;obtain⟨s0,s2,D,I,E,_⟩:=Bw c;have hE:=(yZ E).1;refine hU p.dest a rfl rfl rfl rfl rfl (vC p.dest w.1 (λ_ h5 Z td f5=>aa.ex Z.s ⟨_,rfl,aa.ft (x:=Z.s) λb2 h7 f' Q f7=> ?_⟩) (λe=>by rw[D]at e;cases e));have r:=f5.tt f7;refine hU p.rep (r.get a id) rfl rfl rfl rfl rfl (vC p.rep w.2.1 (λ_ h8 d tr f8=>aa.ex d.s ⟨_,rfl,aa.ft (x:=d.s) λb3 k' g' W f10=> ?_⟩) (λe=>by rw[I]at e;cases e));have o:=r.tt (f8.tt f10);refine yY p.id (o.get a id) rfl rfl rfl rfl rfl rfl rfl (Bt p.id w.2.2 (λ_ l' m ti f11=>aa.ex m.s ⟨_,rfl,aa.ft (x:=m.s) λb4 m' i' A f13=> ?_⟩) (λe=>by rw[E]at e;cases e));have q:=o.tt (f11.tt f13);have l:=q.get a id;have S:=(f8.tt (f10.tt (f11.tt f13))).get Q id;have X:=(f11.tt f13).get W id;obtain⟨ik,r',ib,il,iv,ys,L,T⟩:=gl.kn (ti.u.on f13);have lI:(LP p.id).l.length=2:=rfl;have li:m.s.oS=2:=il;obtain⟨a0,y0,J,a',c',_⟩:=elem L T (i:=0) ag;obtain⟨a1,Y,M,b',d',_⟩:=elem L T (i:=1) ag;refine⟨_,ar l,_,ar l,aa.ff S ⟨_,_,_,ar A,ag,bK.2 ⟨a0,J,aa.ko (x:=y0.s) a' (aa.ff X ⟨_,_,_,ar A,ag,bK.2 ⟨a1,M,aa.ko (x:=Y.s) b' ⟨_,ar l,?_⟩⟩⟩)⟩⟩⟩;obtain⟨sum,hs⟩:=dP s0;have es:p.sum.toNat=sum:=ag
 refine fX (n:=7) λn' f14=>aa.ex (nv 7).s ⟨rfl,f14.kp,fX (n:=p.fl) λo' f15=>aa.ex (nv p.fl).s ⟨rfl,f15.kp,?_⟩⟩
 rw[show p.s.f1=(sum:Int)from hs,wrap_u64 (n:=(sum:Int)) ag ag];refine fX (n:=sum) λp' f16=>aa.ex (nv sum).s ⟨rfl,f16.kp,fX (n:=p.dN) λq' f17=>aa.ex (nv p.dN).s ⟨rfl,f17.kp,nA (ys:= [nv 7,nv p.fl,nv sum,Z,y0,d,Y,nv p.dN]) rfl λb5 N j' B f18=>⟨f18.kp,?_⟩⟩⟩
 have G:=f14.tt (f15.tt (f16.tt (f17.tt f18)));have C:Az N (D5 p) [nv 7,nv p.fl,nv sum,Z,y0,d,Y,nv p.dN]:=by
  unfold D5;rw[es];exact .cons mb (.cons mb (.cons mb (.cons (td.u.on (f7.tt (f8.tt (f10.tt (f11.tt (f13.tt G)))))) (.cons (c'.on G) (.cons (tr.u.on (f10.tt (f11.tt (f13.tt G)))) (.cons (d'.on G) (.cons mb .nil)))))))
 have F:=q.tt G;have rp:=y8 c;refine HY (i:=2) U (u.tt (f.tt F)) (B (λ_=>True) trivial) C ag ag (λt ht O z tz f19=>aa.ex z.s ⟨_,rfl,?_⟩) (λe he O f19=>aa.ex zv.s ⟨_,rfl,?_⟩)
 .have s':=F.1;exact fin ((F.tt f19).get j id) tz (λy hy e=>ag) λg t20 f20=>K t ht g z (t20.mono λy hy=>ag) ((f.tt (F.tt f19)).fresh f20 (λy e=>ag))
 .exact CJ ((F.tt f19).get j id) λg f20=>k e he g ((f.tt (F.tt f19)).fresh f20 (λy e=>ag))
theorem By(h:mH V ts i=.error e):e≠0:=by
 unfold mH at h;split at h
 .split at h
  .split at h
   .split at h
    .rename_i a;cases h;unfold sumOf at a;split at a
     .cases a
     .cases a;decide
    .split at h
     .cases h
     .cases h;decide
   .split at h
    .cases h
    .cases h;decide
  .cases h;decide
 .cases h;decide
theorem JK(h:mJ V p=.error e):e≠0:=by
 unfold mJ at h;split at h
 .exact By h
 .cases h;decide
theorem Mq(p:Prim)(w:p.wf)(U:ke V H)(u:Fr No H h)(hk: ∀h' z q,(∀t,mJ V p=.ok t->q=0/\CI h' t z)->(∀e,mJ V p=.error e->q≠0)->Fr No h h'->R (.tuple #[z.s.agg,.I q]) h'):Cl 177 #[p.s.agg] h R:=
 Mp p w U u (λt b h' z T f=>hk h' z 0 (λc e=>by rw[b]at e;cases e;exact⟨rfl,T.u⟩) (λe a=>by rw[b]at a;cases a) f) (λe a h' f=>hk h' zv e (λt b=>by rw[a]at b;cases b) (λ_ _=>JK a) f)
theorem Mr{x:CV}(U:ke V H)(u:Fr No H h)(mx:oT.Mx h)(tx:CI h t x)(hr:room t<=400000)(k1: ∀p,oU V t=.ok p->p.wf->gL h R (.tuple #[p.s.agg,.I 0]))(k2: ∀e,oU V t=.error e->e≠0->gL h R (.tuple #[Prim.zero.s.agg,.I e])):Cl 194 #[x.agg] h R:=by
 have rl:=jX (t:=t);refine CG.walk (x:=x.s) (aa.cM λb E eb hb f1=>aC.cM λb1 N SD a' f2=>aa.ff (f2.get hb id) ?_);have v:=f1.tt f2;have E':=f2.get hb id;have zb:=aD hb;have SB:=aD a';have z1:=f1.1;have z2:=f2.1;have no: ∀g e,Fr No N g->oU V t=.error e->e≠0->aC.cX g (AA b1 0) .z λG=>aC.cv G (AA b1 0) λr=>R (.tuple #[r.agg,.I e]) G:=λg e F K O=>
  RC .zero (F.get a' id) λG f=>k2 e K O G ((v.tt F).fresh f (λy e=>ag))
 have l:oU V t=oU V t:=rfl;conv at l=>rhs;unfold oU
 refine xU (i:=2) U (u.tt v) (tx.on v) ag ag (λj m ru A p zs c L TS f3=>⟨_,_,_,_,rfl,?_⟩) (λe K O A f3=>⟨_,_,_,_,rfl,?_⟩)
 case refine_2=>
  rw[af (cA O)];exact no A e f3 (by rw[l,K]) O
 rw[dc];rw[m]at l;dsimp only at l;have ln:=TS.len;have l9:=gG j;by_cases l8:j.length=8
 case neg=>
  rw[af (by simp only[cU,en];omega)];exact no A 3 f3 (by rw[l,ae l8]) di
 rw[ae (by simp only[cU,en];omega)];rw[af l8]at l;have z3:=f3.1;have it: ∀i,i<8->∃(a:Addr)(y:CV),p=some a/\dI (a.add (i*4)) y.s.l 0 A/\CI A (at_ j i) y/\(∀{g},Fr No A g->bg g ((a.add (i*4)).add 1)=some (.U ((at_ j i).n:Int))):=λi hi=>by
  obtain⟨a,y,ea,hh,ty,_⟩:=elem L TS (i:=i) ag;obtain⟨_,yn,_⟩:=gl.kn ty;exact⟨a,y,ea,hh,ty.u,λF=>F.cell (by have:=hh.2.1;rw[<-yn];exact this) id⟩
 have W: ∀i,i<8->room (at_ j i)<=dk j:=λi hi=>ir ag
 obtain⟨a3,y3,q',P',Z',_⟩:=it 3 ag;have r3:=W 3 ag;have r5:=W 5 ag;have r4:=W 4 ag;have r6:=W 6 ag;have u2:=u.tt v;have m2:=mx.on v;refine⟨ag,bK.2 ⟨a3,q',aa.ko (x:=y3.s) P' (CM U (u2.tt f3) (m2.on f3) Z' ag λd qd ⟨N',O',wd⟩ h6 f6=>ay.ex d.s ⟨_,rfl,ay.ft (x:=d.s) λb2 h8 UU F' f8=> ?_⟩)⟩⟩;obtain⟨a5,y5,s',R',Vj,_⟩:=it 5 ag;have B:=f6.tt f8;refine⟨ag,bK.2 ⟨a5,s',aa.ko (x:=y5.s) (kC B id R') (CM U (u2.tt (f3.tt B)) (m2.on (f3.tt B)) (Vj.on B) ag λr qr ⟨V',W',wr⟩ h9 f9=>ay.ex r.s ⟨_,rfl,ay.ft (x:=r.s) λb3 e' V8 H' f11=>aG.of λg' hJ=> ?_⟩)⟩⟩;obtain⟨a4,Z,r',Q',Vk,_⟩:=it 4 ag;obtain⟨a6,y6,t',S',Vm,_⟩:=it 6 ag;have o:=B.tt (f9.tt f11);have G':=(f9.tt f11).get F' id;have Y:=u2.tt (f3.tt o);have Q:=m2.on (f3.tt o);have rest: ∀g s (X:iA) (q:Int),ah.fi g s X.s->Fr No e' g->IQ V (qZ [at_ j 4,at_ j 6]) X q->g' (Sa s 0) q g:=by
  intro g s X q P F ⟨T',U',wq⟩;have C:=o.tt F;obtain⟨k',w1,u',_,_,n'⟩:=it 1 ag;obtain⟨l',w2,v',_,_,o'⟩:=it 2 ag;obtain⟨m',w7,w',_,_,p'⟩:=it 7 ag;subst hJ;dsimp only;refine⟨ag,bK.2 ⟨k',u',_,n' C,ag,bK.2 ⟨l',v',_,o' C,ay.ff (F.get G' id) (ay.ff (F.get H' id) (aw.2 (ah.ff P ⟨ag,bK.2 ⟨m',w',_,p' C,?_⟩⟩)))⟩⟩⟩;have n2:(at_ j 2).n<=2:=by
   have:0<=typeAt j 2:=by
    unfold mI at m;split at m
    .rename_i E;have key: ∀k,2<k->typeAt (t.l.take k) 2=typeAt t.l 2:=λk hk=>by
      unfold typeAt at_;rw[aY,aY,cP,af hk,bB];exact ite_congr (propext (by constructor<;>(rintro⟨a,b⟩;exact⟨ag,b⟩))) (λ_=>rfl) (λ_=>rfl)
     split at m
     .cases m;exact E.2.2
     .split at m
      .rename_i N;split at m
       .cases m
       .split at m
        .cases m;rw[key _ N.1];exact E.2.2
        .cases m
      .cases m
    .cases m
   unfold typeAt at this;split at this
   .rename_i E;exact E.2.1
   .omega
  refine aC.cM λb4 V9 Vn I' f13=>⟨f13.kp,?_⟩
  rw[bD (n:=(((at_ j 2).n:Nat):Int)) ag ag];refine aC.gy (x:=(vt j d r X).s) I' λx' d14 f14 _=>aC.ff d14 ?_
  have zg:=C.1;have b':Fr No N x':=(f3.tt (C.tt f13)).fresh f14 (λy e=>ag);refine Mq (vt j d r X) ⟨wd,wr,wq⟩ U (u2.tt b') λWa z qz X' Y' f15=>aa.ex z.s ⟨_,rfl,aa.ft (x:=z.s) λb5 I Wb J' f17=>aG.of λJ1 f'=> ?_⟩
  have c':=f15.tt f17;have D:=b'.tt c';have bad: ∀g,Fr No I g->oU V t=.error 3->J1 true g:=λg F K=>by
   subst f';try dsimp only
   rw[af rfl];exact no g 3 (D.tt F) K di
  by_cases c1:qd=0
  case neg=>rw[af (cA c1)];exact bad I (Fr.refl _ _) (by rw[l,O' c1])
  rw[ae (cA c1)];by_cases c2:qr=0
  case neg=>rw[af (cA c2)];exact bad I (Fr.refl _ _) (by rw[l,W' c2];cases nm V (at_ j 3)<;>rfl)
  rw[ae (cA c2)];by_cases M:q=0
  case neg=>rw[af (cA M)];exact bad I (Fr.refl _ _) (by rw[l,U' M];cases nm V (at_ j 3)<;>cases nm V (at_ j 5)<;>rfl)
  rw[ae (cA M)];rw[N' c1,V' c2,T' M]at l;dsimp only at l;cases J:mJ V (vt j d r X)with
  |error e=>
   rw[J]at l;rw[af (cA (Y' e J))];exact bad I (Fr.refl _ _) l
  |ok d'=>
   rw[J]at l;dsimp only at l;obtain⟨rfl,T⟩:=X' d' J;rw[dc];have ra:=za J;refine aa.ff J' (aa.ff (x:=x.s) (D.get E' id) (iX (x:=z) (y:=x) (T.on f17) (tx.on (v.tt D)) ag λy' f21=>⟨_,rfl,?_⟩));cases P:mW d' t with
   |false=>exact bad y' f21 (by rw[l,ae (by rw[P];decide)])
   |true=>
    rw[P,af rfl]at l;subst f';try dsimp only
    rw[dc];exact aC.ff ((c'.tt f21).get d14 id) (RC (vt j d r X) ((D.tt f21).get a' id) λG f=>k1 _ l ⟨wd,wr,wq⟩ G ((v.tt (D.tt f21)).fresh f (λy e=>ag)))
 have rI:dk [at_ j 4,at_ j 6]<=2*dk j:=by simp only[dk];omega
 have S:room (qZ [at_ j 4,at_ j 6])<=900000:=by simp only[room,bz];omega
 refine⟨ag,bK.2 ⟨a4,r',aa.ko (x:=Z.s) (kC o id Q') ⟨ag,bK.2 ⟨a6,t',aa.ko (x:=y6.s) (kC o id S') ?_⟩⟩⟩⟩;have T2:Az e' [at_ j 4,at_ j 6] [Z,y6]:=two (Vk.on o) (Vm.on o);refine⟨nA (ys:= [Z,y6]) rfl λb6 Wc Wd L6 f22=>⟨?_,?_,trivial⟩,ah.cM λj' We Vo D' f34=>⟨f34.kp,nA (ys:= [Z,y6]) rfl λWf Wg Vq i' f35=> ?_⟩,trivial⟩
 .refine jC (L6 (λ_=>True) trivial) (T2.on f22) ag λWh z T f23=>aa.ex z.s ⟨rfl,?_,?_,trivial⟩
  .exact CN U (Y.tt (f22.tt f23)) (Q.on (f22.tt f23)) T.u S λX q w Wi f24=>ah.ex X.s ⟨_,rfl,ah.ft (x:=X.s) λb7 z' Wj K' f26=>rest z' b7 X q K' (f22.tt (f23.tt (f24.tt f26))) w⟩
  .refine ah.cM λb8 Wk Wl L' f27=>CN U (Y.tt (f22.tt (f23.tt f27))) (Q.on (f22.tt (f23.tt f27))) (T.u.on f27) S λX q w Wm f28=>ah.ex X.s ⟨_,rfl,ah.gy (x:=X.s) (f28.get L' id) λA' d29 f29 _=>rest A' b8 X q d29 ?_ w⟩
   exact(f22.tt (f23.tt (f27.tt f28))).fresh f29 (λy e=>hY f22.1 f23.1)
 .refine ah.cM λb9 Wn Wo M' f30=>jC ((L6 (λ_=>True) trivial).frame f30 cb) (T2.on (f22.tt f30)) ag λWp z T f31=>aa.ex z.s ⟨rfl,CN U (Y.tt (f22.tt (f30.tt f31))) (Q.on (f22.tt (f30.tt f31))) T.u S λX q w Wq f32=>ah.ex X.s ⟨_,rfl,ah.gy (x:=X.s) ((f31.tt f32).get M' id) λB' d33 f33 _=>rest B' b9 X q d33 ?_ w⟩⟩
  exact(f22.tt (f30.tt (f31.tt f32))).fresh f33 (λy e=>bY f22.1)
 .refine jC (i' (λ_=>True) trivial) (T2.on (f34.tt f35)) ag λWs z T f36=>aa.ex z.s ⟨rfl,CN U (Y.tt (f34.tt (f35.tt f36))) (Q.on (f34.tt (f35.tt f36))) T.u S λX q w Wt f37=>ah.ex X.s ⟨_,rfl,ah.gy (x:=X.s) ((f35.tt (f36.tt f37)).get D' id) λC' d38 f38 _=>rest C' j' X q d38 ?_ w⟩⟩
  exact(f34.tt (f35.tt (f36.tt f37))).fresh f38 (λy e=>ag)

end Bn
end
section
variable {h:ai} {R:fp}
variable {c L:cy} {d D l e:Nat} {b:ax.S}
theorem Gx.walk(m:aQ h (.cells aa.S.z.arr 262) λb i=>Cl 193 #[.slice c d D,.I 0] i λv j=>aa.EX λt=> ∃o T,v=.tuple #[t.agg,.I o,.I T]/\aQ j (.cells aa.S.z.arr 262) λB k=>aa.cX k (AA B 0) t λH=>aa.cv H (AA B 0) λt13=>if(T==0)then Cl 314 #[.slice c d D] H λV a=> ∃t18,V=.bool t18/\Kp H a [(Sa B 0)]/\aa.cX a (AA b 0) t13 λf=>aa.cv f (AA b 0) λr=>R (.tuple #[r.agg,.bool t18]) f else aa.cX H (AA b 0) t13 λg=>aa.cv g (AA b 0) λn=>R (.tuple #[n.agg,.bool false]) g):Cl 293 #[.slice c d D] h R:=aO (lq (lq (sq (pK 9) lf))) Tryz.func293 m
theorem zc.walk(r:aQ h (.cells ay.S.z.arr 29) λb m=>Cl 293 #[.slice c d D] m λv n=>aa.EX λt=> ∃T,v=.tuple #[t.agg,.bool T]/\aQ n (.cells aa.S.z.arr 262) λB o=>aa.cX o (AA B 0) t λf=>aa.cv f (AA B 0) λt14=>Cl 245 #[t14.agg] f λV p=>ay.EX λj=> ∃k,V=.tuple #[j.agg,.I k]/\aQ p (.cells ay.S.z.arr 29) λa q=>ay.cX q (AA a 0) j λH=>ay.cv H (AA a 0) λt18=>if T then ay.cX H (AA b 0) t18 λg=>ay.cv g (AA b 0) λs=>R (.tuple #[s.agg,.bool (k==0)]) g else ay.cX H (AA b 0) t18 λi=>ay.cv i (AA b 0) λu=>R (.tuple #[u.agg,.bool false]) i):Cl 252 #[.slice c d D] h R:=aO (lq (lq (lq ll))) Tryz.func252 r
theorem JL.walk(j:Cl 293 #[.slice c d D] h λv g=>aa.EX λt=> ∃T,v=.tuple #[t.agg,.bool T]/\aQ g (.cells aa.S.z.arr 262) λb i=>aa.cX i (AA b 0) t λH=> ∃t12,Cc H b 1 (.U t12)/\if T then aa.cv H (AA b 0) λt15=>Hu H b 1 λt17=>Cl 205 #[.U t17] H λV f=>aa.EX λt18=>V=t18.agg/\Kp H f [(Sa b 0),(Sa b 1)]/\Cl 248 #[t15.agg,t18.agg] f λk a=> ∃t19,k=.bool t19/\Kp f a [(Sa b 1)]/\if t19 then∃t23,Cc a b 1 (.U t23)/\R (.tuple #[.U t12,.bool (decide (t23<=1099511627776))]) a else R (.tuple #[.U t12,.bool false]) a else R (.tuple #[.U t12,.bool false]) H):Cl 253 #[.slice c d D] h R:=aO (lq (lq (sq (pK 17) lf))) Tryz.func253 j
theorem Gy.walk(o:Cl 293 #[.slice c d D] h λv m=>aa.EX λt=> ∃T,v=.tuple #[t.agg,.bool T]/\aQ m (.cells aa.S.z.arr 262) λb n=>aa.cX n (AA b 0) t λf=>aG (λ(t26:Bool) (H:ai)=>if t26 then R (.tuple #[.U 0,.U 0,.bool false]) H else Hl H b 3 λs r y=>Bd 0 r/\aL s λa=>fW H ((a.add (toNat 0*4)).add 1) λt31=>Hl H b 3 λw u z=>Bd 1 u/\aL w λA=>fW H ((A.add (toNat 1*4)).add 1) λt36=>aa.cv H (AA b 0) λt39=>aQ H (.cells #[.U t31,.U t36] 27) λB i=>Kp H i [(Sa b 0)]/\Cl 209 #[.slice (Sa B 0) 2 2] i λV j=>aa.EX λt43=>V=t43.agg/\Kp i j [(Sa b 0)]/\Cl 248 #[t39.agg,t43.agg] j λx g=> ∃t44,x=.bool t44/\if t44 then if(decide (t31≥1))then if(decide (t31<=255))then R (.tuple #[.U t31,.U t36,.bool (decide (t36<=t31))]) g else R (.tuple #[.U t31,.U t36,.bool false]) g else R (.tuple #[.U t31,.U t36,.bool false]) g else R (.tuple #[.U t31,.U t36,.bool false]) g) (λJ=>if(!T)then J true f else∃t18,Cc f b 0 (.I t18)/\if(t18 !=4)then J true f else∃q k p,Cc f b 3 (.slice q k p)/\J (((k:Nat):Int) !=2) f)):Cl 254 #[.slice c d D] h R:=aO (lq (lq (sq (sq (.join [(26,.one (.bool))] lf) (cq ll lf)) (sq (pK 12) (sq (pK 24) lf))))) Tryz.func254 o
theorem AE.walk(u:aQ h (.cells aa.S.z.arr 262) λb o=>Cl 247 #[.Z] o λv p=>aa.EX λt6=>v=t6.agg/\aQ p (.cells aa.S.z.arr 262) λB q=>aa.cX q (AA B 0) t6 λr=> ∃(I:Int->ai->Prop)(m:Int->ai->Nat),I 0 r/\∀(t9:Int)(H:ai),I t9 H->if(decide (t9<(l:Int)))then Bd t9 l/\aL L λa=>fW H (a.add (toNat t9*1)) λt12=>Hl H B 3 λz y x=>Cl 205 #[.U t12] H λV f=>aa.EX λt16=>V=t16.agg/\Kp H f [(Sa B 3)]/\aQ f (.cells t16.arr 262) λn i=>Kp f i [(Sa B 3)]/\aW Tryz.prog (Builtin.append_ #[260,260] 260 #[.slice z y x,.slice (Sa n 0) 1 1]) i λA s=> ∃k T t,A=.slice k T t/\aS s (AA B 3) (.slice k T t) λj=>(I (wrap .i64 (t9+1)) j/\m (wrap .i64 (t9+1)) j<m t9 H)else aa.cv H (AA B 0) λt21=>aa.cX H (AA b 0) t21 λg=>aa.cv g (AA b 0) λw=>R (w.agg) g):Cl 209 #[.slice L l e] h R:=aO (lq (lq (sq (lq (bq (.loop [(9,.one (.int .i64))] (lq (sq (cq lf lf) (sq (bq (lq (pK 8))) lf)))))) ll))) Tryz.func209 u
theorem CQ.walk{kind:Int} (q:aG (λ(ok:Bool) (H:ai)=>if ok then R (.bool (decide ((d:Int)<=200))) H else R (.bool false) H) (λJ=>aG (λ(O:Bool) (i:ai)=>J O i) (λj=>if(kind==6)then Cl 252 #[.slice c d D] h λv k=>ay.EX λu=> ∃t,v=.tuple #[u.agg,.bool t]/\j t k else aG (λ(r:Bool) (m:ai)=>j r m) (λa=>if(kind==7)then Cl 253 #[.slice c d D] h λV n=> ∃w T,V=.tuple #[.U w,.bool T]/\a T n else aG (λ(s:Bool) (o:ai)=>a s o) (λf=>if(kind==10)then Cl 254 #[.slice c d D] h λz p=> ∃x y g,z=.tuple #[.U x,.U y,.bool g]/\f g p else f true h))))):Cl 201 #[.U kind,.slice c d D] h R:=aO (lq (lq (sq (lq (.join [(5,.one (.bool))] (bq (lq (.join [(5,.one (.bool))] (cq lf (lq (.join [(5,.one (.bool))] (cq lf (lq (.join [(5,.one (.bool))] (cq lf lf)))))))))))) ll))) Tryz.func201 q
theorem CR.walk(a:Cl 250 #[.slice L l e,.func (.func 251) #[] #[]] h λv H=> ∃t4,v=.bool t4/\R (.bool (!t4)) H):Cl 200 #[.slice L l e] h R:=aO (lq ll) Tryz.func200 a
theorem ze.walk{n:Int}(H:if(decide (n<1))then R (.bool true) h else R (.bool (decide (n>255))) h):Cl 251 #[.U n] h R:=aO (lq ll) Tryz.func251 H
theorem Ez.walk(j:aQ h (.cells b.arr 201) λB a=>Hu a B 0 λt4=>Hu a B 1 λt6=>aQ a (.cells #[.U t4,.U t6] 27) λf g=>Cl 200 #[.slice (Sa f 0) 2 2] g λv H=> ∃t8,v=.bool t8/\if t8 then∃t11,Cc H B 2 (.U t11)/\if((wrap .u64 ((mr t11 &&& ~~~ mr 23).toNat:Int))==0)then∃t17,Cc H B 3 (.I t17)/\if(decide (t17≥0))then∃t22,Cc H B 3 (.I t22)/\if(decide (t22<=2))then Hu H B 0 λt27=>Hl H B 4 λk T t=>Cl 201 #[.U t27,.slice k T t] H λV i=> ∃t30,V=.bool t30/\R (.bool t30) i else R (.bool false) H else R (.bool false) H else R (.bool false) H else R (.bool false) H):Cl 175 #[b.agg] h R:=aO (lq ll) Tryz.func175 j
theorem EA.walk(C:aQ h (.cells b.arr 201) λB u=>aQ u (.cells aa.S.z.arr 262) λa g=>ax.cv g (AA B 0) λt5=>Cl 175 #[t5.agg] g λv H=> ∃t6,v=.bool t6/\if(!t6)then aa.cX H (AA a 0) aa.S.z λi=>aa.cv i (AA a 0) λE=>R (.tuple #[E.agg,.I 3]) i else∃t10,Cc H B 0 (.U t10)/\∃t12,Cc H B 1 (.U t12)/\∃t14,Cc H B 2 (.U t14)/\∃t16,Cc H B 3 (.I t16)/\aQ H (.cells #[.U t10,.U t12,.U t14,.U (wrap .u64 t16)] 27) λr x=>Cl 209 #[.slice (Sa r 0) 4 4] x λV j=>aa.EX λt19=>V=t19.agg/\∃k T t,Cc j B 4 (.slice k T t)/\Cl 210 #[.slice k T t] j λG y=>aa.EX λt24=>G=t24.agg/\aQ y (.cells t24.arr 262) λs z=>aW Tryz.prog (Builtin.append_ #[260,260] 260 #[.slice t19.vq t19.oS t19.sW,.slice (Sa s 0) 1 1]) z λI A=> ∃o n m,I=.slice o n m/\Cl 206 #[.slice o n m,.I 3] A λJ w=>aa.EX λp=> ∃q,J=.tuple #[p.agg,.I q]/\aa.cX w (AA a 0) p λf=>aa.cv f (AA a 0) λF=>R (.tuple #[F.agg,.I q]) f):Cl 179 #[b.agg] h R:=aO (lq (sq (lq (cq ll lf)) (lq ll))) Tryz.func179 C
theorem Gz.walk{x:aa.S} (hv:aQ h (.cells x.arr 262) λb d'=>aQ d' (.cells ax.S.z.arr 201) λB I=>aa.cv I (AA b 0) λt10=>Cl 244 #[t10.agg,.I 3] I λv k=> ∃T t m' p,v=.tuple #[.slice T t m',.I p]/\if(p !=0)then ax.cX k (AA B 0) ax.S.z λK=>ax.cv K (AA B 0) λr0=>R (.tuple #[r0.agg,.I p]) K else aG (λ(t19:Bool) (H:ai)=>if t19 then ax.cX H (AA B 0) ax.S.z λM=>ax.cv M (AA B 0) λj'=>R (.tuple #[j'.agg,.I 3]) M else aG (λ(u:cy) (N:ai)=>aL u λa=>ax.cv N a λt55=>Cl 179 #[t55.agg] N λn' h'=>aa.EX λZ=> ∃a',n'=.tuple #[Z.agg,.I a']/\aQ h' (.cells aa.S.z.arr 262) λw i'=>aa.cX i' (AA w 0) Z λj=>aG (λ(t66:Bool) (m:ai)=>if t66 then ax.cX m (AA B 0) ax.S.z λC=>ax.cv C (AA B 0) λk'=>R (.tuple #[k'.agg,.I 3]) C else aL u λb'=>ax.cv m b' λt68=>ax.cX m (AA B 0) t68 λE=>ax.cv E (AA B 0) λl'=>R (.tuple #[l'.agg,.I 0]) E) (λr=>if(a' !=0)then r true j else aa.cv j (AA w 0) λt62=>aa.cv j (AA b 0) λt63=>Cl 248 #[t62.agg,t63.agg] j λo' e'=> ∃t64,o'=.bool t64/\r (!t64) e')) (λq=>Bd 0 t/\aL T λA=>fW H ((A.add (toNat 0*4)).add 1) λt34=>Bd 1 t/\aL T λf=>fW H ((f.add (toNat 1*4)).add 1) λt38=>Bd 2 t/\aL T λg=>fW H ((g.add (toNat 2*4)).add 1) λt42=>Bd 3 t/\aL T λi=>fW H ((i.add (toNat 3*4)).add 1) λt46=>Bd 4 t/\aL T λs=>oP H ((s.add (toNat 4*4)).add 2) λQ P O=>(Cl 50 #[.slice Q P O] H λp' n=> ∃X V S,p'=.slice X V S/\Kp H n [(some ((i.add (toNat 3*4)).add 1)),(some ((g.add (toNat 2*4)).add 1)),(some ((f.add (toNat 1*4)).add 1)),(some ((A.add (toNat 0*4)).add 1))]/\aQ n (.cells ax.S.z.arr 201) λy F=>Kp n F [(some ((i.add (toNat 3*4)).add 1)),(some ((g.add (toNat 2*4)).add 1)),(some ((f.add (toNat 1*4)).add 1)),(some ((A.add (toNat 0*4)).add 1))]/\ax.cX F (AA y 0) ⟨t34,t38,t42,(wrap .i64 t46),X,V,S⟩ λf'=>q (Sa y 0) f')/\(aQ H (.cells ax.S.z.arr 201) λz o=>Kp H o [(some ((s.add (toNat 4*4)).add 2)),(some ((i.add (toNat 3*4)).add 1)),(some ((g.add (toNat 2*4)).add 1)),(some ((f.add (toNat 1*4)).add 1)),(some ((A.add (toNat 0*4)).add 1))]/\Cl 50 #[.slice Q P O] o λq' G=> ∃Y W U,q'=.slice Y W U/\Kp o G [(some ((i.add (toNat 3*4)).add 1)),(some ((g.add (toNat 2*4)).add 1)),(some ((f.add (toNat 1*4)).add 1)),(some ((A.add (toNat 0*4)).add 1))]/\ax.cX G (AA z 0) ⟨t34,t38,t42,(wrap .i64 t46),Y,W,U⟩ λg'=>q (Sa z 0) g')/\True)) (λJ=>if(((t:Nat):Int) !=5)then J true k else Bd 4 t/\aL T λc'=> ∃t27,bg k (c'.add (toNat 4*4))=some (.I t27)/\J (t27 !=2) k)):Cl 195 #[x.agg] h R:=aO (lq (lq (sq (bq (lq (cq ll (sq (.join [(19,.one (.bool))] lf) (cq ll lf))))) (sq (.join [(6,.one (.ptr))] (.jz (fC 21 0 (.alts (.fork 21 (fC 3 22 .done) (.fork 23 (.op 21 (.op 22 (.op 24 .done))) .gX)))))) (sq (lq (sq (.join [(66,.one (.bool))] lf) (cq ll lf))) ll))))) Tryz.func195 hv

end
section
namespace Bn
open Cb
open iW (Ev cV kz)
variable {V:cD→Bool} {h h0 h':ai} {R:fp} {D:Nat→Prop}
variable {p:cy} {l c n i:Nat} {bs:cD} {t:Tr} {m:List Tr}
theorem sC(bs:cD):room (dU V bs)<=10*bs.length+9:=by
 unfold dU;split
 .rename_i h;have:=(pW h).1;omega
 .simp[Bo,room,dk]
theorem zh(U:ke V h0)(u:Fr No h0 h)(row:Row h p (bc bs))(g:l=bs.length)(cap:bs.length<=c)(A:bs.length<=80000)(hk: ∀h' z,CI h' (dU V bs) z->Fr No h h'->R (.tuple #[z.s.agg,.bool (jw V bs)]) h'):Cl 293 #[.slice p l c] h R:=by
 refine Gx.walk (aa.cM λb v s a f1=>tZ (U.mono (u.tt f1)) (row.frame f1 cb) g cap ag (λk t x N r T f2=>aa.ex x.s ⟨_,_,rfl,aa.ft (x:=x.s) λb1 o j d f4=>aa.ff d ?_⟩) (λk e f f2=>aa.ex zv.s ⟨_,_,rfl,aa.ft (x:=zv.s) λb1 o j d f4=>aa.ff d ?_⟩))
 .have F:=f1.tt (f2.tt f4);have E:dU V bs=t:=by unfold dU;rw[r]
  rw[E]at hk;rw[fK];refine Ej (U.mono (u.tt F)) (row.frame F cb) g cap ag λw f5=>⟨_,rfl,f5.kp,aa.gy (x:=x.s) ((f2.tt (f4.tt f5)).get a id) λH d6 f6 _=>aa.ff d6 (hk H x ?_ ((F.tt f5).fresh f6 (λy e=>ag)))⟩
  have Z:=aD a;exact((T.on f4).on f5).frame f6 (λy B e=>ag)|>.u
 .have F:=f1.tt (f2.tt f4);have E:dU V bs=Bo:=by unfold dU;rw[f]
  have es:jw V bs=false:=by unfold jw;rw[f]
  rw[E,es]at hk;rw[ae (λq=>km f (eq_of_beq q))];exact aa.gy (x:=zv.s) ((f2.tt f4).get a id) λH d6 f6 _=>aa.ff d6 (hk H zv (mb (n:=0)) (F.fresh f6 (λy e=>ag)))
theorem EB(U:ke V h0)(u:Fr No h0 h)(mx:oT.Mx h)(row:Row h p (bc bs))(j:l=bs.length)(cap:bs.length<=c)(k:bs.length<=80000)(hk: ∀h' (e:Ev),Fr No h h'->R (.tuple #[e.s.agg,.bool (jw V bs && (nm V (dU V bs)).isSome)]) h'):Cl 252 #[.slice p l c] h R:=by
 have G:=sC (V:=V) bs;refine zc.walk (ay.cM λb s E a f1=>zh U (u.tt f1) (row.frame f1 cb) j cap k λv z T f2=>aa.ex z.s ⟨_,rfl,aa.ft (x:=z.s) λb1 w o f f4=>aa.ff f (CM U (u.tt (f1.tt (f2.tt f4))) (mx.on (f1.tt (f2.tt f4))) (T.on f4) ag λe q ⟨Q,q1,_⟩ A f5=>ay.ex e.s ⟨_,rfl,ay.ft (x:=e.s) λB C r g f7=>ay.ff g ?_⟩)⟩);have F:=f2.tt (f4.tt (f5.tt f7));cases d:jw V bs with
 |false=>
  rw[d]at hk;rw[dc];exact Gw (x:=e) (F.get a id) λH f8=>hk H e ((f1.tt F).fresh f8 (λy e=>ag))
 |true=>
  rw[d]at hk;rw[af rfl];refine Gw (x:=e) (F.get a id) λH f8=> ?_
  have:=hk H e ((f1.tt F).fresh f8 (λy e=>ag));have eq:(true && (nm V (dU V bs)).isSome)=(q==0):=by
   by_cases c0:q=0
   .rw[Q c0,c0];rfl
   .rw[q1 c0,db.2 c0];rfl
  rw[eq]at this;exact this
theorem CS(U:ke V h0)(u:Fr No h0 h)(row:Row h p (bc bs))(j:l=bs.length)(cap:bs.length<=c)(k:bs.length<=80000)(hk: gL h R (.tuple #[.U ((dU V bs).n:Int),.bool (On V bs)])):Cl 253 #[.slice p l c] h R:=by
 have r:=sC (V:=V) bs;refine JL.walk (zh U u row j cap k λo z T f2=>aa.ex z.s ⟨_,rfl,aa.ft (x:=z.s) λb1 f E H f4=> ?_⟩);unfold On at hk;obtain⟨_,Z,_⟩:=gl.kn T;rw[<-Z]at hk;refine⟨_,ar H,?_⟩;cases e:jw V bs with
 |false=>
  rw[e]at hk;rw[dc];exact hk f (f2.tt f4)
 |true=>
  rw[e]at hk;rw[af rfl];refine aa.ff H ⟨_,ar H,fX λg f5=>aa.ex (nv z.n).s ⟨rfl,f5.kp,iX (x:=z) (y:=nv z.n) (s:=num z.n) ((T.on f4).on f5) (mb (h:=g) (n:=z.n)) ag λa f6=>⟨_,rfl,f6.kp,?_⟩⟩⟩;have F:=f2.tt (f4.tt (f5.tt f6));cases d:mW (dU V bs) (num z.n)with
  |false=>
   rw[d]at hk;rw[dc];exact hk a F
  |true=>
   rw[d]at hk;rw[af rfl];refine⟨_,ar ((f5.tt f6).get H id),?_⟩;rw[show decide ((z.n:Int)<=1099511627776)=decide (z.n<=1099511627776)from jY z.n 1099511627776];exact hk a F
abbrev nu(l:List Nat):List Value:=l.map λ(n:Nat)=> .int .u64 (n:Int)
theorem EC{l:List Nat}(row:Row h p (nu l))(O:n=l.length)(hl:l.length<=100000)(hk: ∀h' z,rU h' (λy=>h.size<=y) (D6 l) z->Fr No h h'->R z.s.agg h'):Cl 209 #[.slice p n c] h R:=by
 subst O;refine AE.walk (aa.cM λb d W s f1=>jC (ts:= []) (ys:= []) (D:=λ_=>True) ⟨rfl,.inl rfl,λe=>absurd rfl e,bk _⟩ .nil (by simp[dk]) λK z T f2=>aa.ex z.s ⟨rfl,aa.ft (x:=z.s) λb1 M X u f4=> ?_⟩);have zb:=aD s;have z1:=f1.1;have z2:=f2.1;have z4:=f4.1;have b':=aD u;have U:=f1.tt (f2.tt f4);have S:rU M (λy=>d.size<=y/\y≠b1) (qZ []) z:=by
  obtain⟨⟨a1,a2,a3,a4⟩,zs,a5,a6,B,C⟩:=T;refine⟨⟨a1,a2,a3,((D9 a4).mono λy H=>ag).frame f4 cb⟩,zs,a5,a6.frame f4 cb,λy H=>⟨B y H,bY (a6.dY H)⟩,(df.mono (λy H=>by have d:=H.1.1;have K:=H.2;exact⟨⟨d,ag⟩,H.1.2⟩) C.lt).on f4⟩
 obtain⟨zs,Z,k⟩:=Mj (g0:=d) S u ((f2.tt f4).mono λ_ _=>False.elim);have o:z.k=4:=T.1.1;have r:z.n=0:=T.1.2.1;have E:z.v.b= []:=T.1.2.2.1;refine⟨λt g=> ∃(i:Nat)(ys:List CV)(q:cy)(cl:Nat),t=(i:Int)/\i<=l.length/\ys.length=i/\Lc d g b1 z.k z.n z.v ((l.take i).map num) ys q cl,λt _=>l.length - t.toNat,⟨0,zs,z.q,z.cl,rfl,bG _,?_,by rw[dV];exact k⟩,?_⟩
 .have:=k.tr.len;exact this.symm
 rintro _ g ⟨i,ys,q,cl,rfl,hi,H,L⟩;by_cases f:i<l.length
 case neg=>
  rw[ae (λe=>f (bY (aU e)))];rw[bJ ag]at L;have P:z.v.ok g (λy=>d.size<=y/\y≠b1):=⟨by rw[E];exact Row.nil,λe=>absurd E e,T.1.2.2.2.cap⟩;have w:=Ml (k':=z.n) L P;rw[o,r,E]at w;refine aa.ff (x:=CV.s ⟨z.k,z.n,z.v,q,ys.length,cl⟩) L.cT (fin (z:=⟨z.k,z.n,z.v,q,ys.length,cl⟩) (t:=D6 l) (D:=λy=>d.size<=y/\y≠b1) (L.fr.get s ag) (by rw[o,r];exact w) (λy H e=>ag) λG Q J=>hk G _ (Q.mono λy H=>ag) ((f1.fresh L.fr (λy e=>ag)).fresh J (λy e=>ag)))
 rw[fK];have F:Fr No h g:=f1.fresh L.fr (λy e=>ag);obtain⟨a,rfl⟩:=row.some (by intro e;have:=bU List.length e;rw[aF,bz]at this;omega);have N:bg g (a.add (i*1))=some (.U ((l[i]:Nat):Int)):=by
  have:=(row.frame F cb).cell (j:=i) (v:=.U ((l[i]:Nat):Int)) (by rw[aK,aj f];rfl);rw[ct];exact this
 refine⟨ag,bK.2 ⟨a,rfl,_,N,_,_,_,ar L.cT,fX λh6 f6=>aa.ex (nv l[i]).s ⟨rfl,f6.kp,?_⟩⟩⟩;refine Mn (L.on f6) ag (Qn (n:=l[i])).Q3 λG Y q' I A a' _ _=> ?_
 rw[bD (n:=(i:Int)+1) ag ag];refine⟨⟨i+1,Y,q',I,ag,ag,ag,?_⟩,by show l.length - Int.toNat ((i:Int)+1)<l.length - Int.toNat (i:Int);omega⟩;rw[bQ,aj f,aZ];exact A
theorem GA{l:List Nat}{n:Nat}{K:Nat->ai->Prop}{c:Array Value}(H:c=(nu l).toArray)(hk: ∀b h',Row h' (Sa b 0) (nu l)->Fr No h h'->K b h'):aQ h (.cells c 27) K:=by
 refine cF (hk _ _ (by rw[H];exact jl) (Fr.push _ _))
theorem OG(U:ke V h0)(u:Fr No h0 h)(row:Row h p (bc bs))(G:l=bs.length)(cap:bs.length<=c)(I:bs.length<=80000)(hk: ∀h' (a b:Nat),Fr No h h'->R (.tuple #[.U (a:Int),.U (b:Int),.bool (LQ V bs)]) h'):Cl 254 #[.slice p l c] h R:=by
 have ri:=sC (V:=V) bs;have rl:=jX (t:=dU V bs);refine Gy.walk (zh U u row G cap I λh2 z o f2=>aa.ex z.s ⟨_,rfl,aa.ft (x:=z.s) λb1 d Y H f4=>aG.of λJ f=> ?_⟩);have F:=f2.tt f4;unfold LQ at hk;have no: ¬(jw V bs=true/\(dU V bs).k=4/\(dU V bs).l.length=2)->J true d:=λK=>by
  subst f;dsimp only;rw[af rfl];have:=hk d 0 0 F;rw[show(jw V bs && decide ((dU V bs).k=4/\(dU V bs).l.length=2) && mW (dU V bs) (D6 [mQ (dU V bs),yN (dU V bs)]) && decide (1<=mQ (dU V bs)/\mQ (dU V bs)<=255/\yN (dU V bs)<=mQ (dU V bs)))=false by
   by_cases a:jw V bs=true
   .rw[az (λe=>K ⟨a,e⟩)];simp
   .simp[a]]at this
  exact this
 obtain⟨Z,zn,zb,W,a',ys,L,T⟩:=gl.kn (o.on f4);cases j:jw V bs with
 |false=>rw[fK];exact no (λe=>by rw[j]at e;cases e.1)
 |true=>
 rw[dc];refine⟨_,ar H,?_⟩;rw[show z.s.f0=(dU V bs).k from Z];by_cases k:(dU V bs).k=4
 case neg=>rw[af (cA k)];exact no (λe=>k e.2.1)
 rw[ae (cA k)];refine⟨_,_,_,ar H,?_⟩;have S:z.s.oS=(dU V bs).l.length:=W;rw[S];by_cases l2:(dU V bs).l.length=2
 case neg=>rw[show((((dU V bs).l.length:Nat):Int) !=2)=true by simp only[cU,en];omega];exact no (λe=>l2 e.2.2)
 rw[show((((dU V bs).l.length:Nat):Int) !=2)=false by simp only[fO];omega];clear no;rw[j,av ⟨k,l2⟩]at hk;subst f;dsimp only;rw[dc];obtain⟨a0,y0,E,B,P,_⟩:=elem L T (i:=0) ag;obtain⟨a1,y1,r,C,Q,_⟩:=elem L T (i:=1) ag;have N:=(gl.kn P).2.1;have n1:=(gl.kn Q).2.1;have v:bg d ((a0.add (0*4)).add 1)=some (.U ((mQ (dU V bs):Nat):Int)):=by have:=B.2.1;unfold mQ;rw[<-N];exact this
 have A:bg d ((a1.add (1*4)).add 1)=some (.U ((yN (dU V bs):Nat):Int)):=by have:=C.2.1;unfold yN;rw[<-n1];exact this
 refine⟨_,_,_,ar H,ag,bK.2 ⟨a0,E,_,v,_,_,_,ar H,ag,bK.2 ⟨a1,r,_,A,aa.ff H ?_⟩⟩⟩;refine GA (l:= [mQ (dU V bs),yN (dU V bs)]) (n:=2) rfl λX h5 M f5=>⟨f5.kp,EC M rfl (by show 2<=_;omega) λh6 w O f6=>aa.ex w.s ⟨rfl,f6.kp,iX (x:=z) (y:=w) ((o.on f4).on (f5.tt f6)) O.u ag λs f7=>⟨_,rfl,?_⟩⟩⟩
 have q:=F.tt (f5.tt (f6.tt f7));have fin:=hk s (mQ (dU V bs)) (yN (dU V bs)) q;cases g:mW (dU V bs) (D6 [mQ (dU V bs),yN (dU V bs)])with
 |false=>rw[g]at fin;rw[dc];exact fin
 |true=>
 rw[g]at fin;rw[af rfl];change if(decide (((mQ (dU V bs):Nat):Int)≥1))=true then(if(decide (((mQ (dU V bs):Nat):Int)<=255))=true then _ else _)else _
 by_cases c1:1<=mQ (dU V bs)
 case neg=>rw[az (λe=>c1 e.1)]at fin;rw[dc];exact fin
 rw[fK];by_cases c2:mQ (dU V bs)<=255
 case neg=>rw[az (λe=>c2 e.2.1)]at fin;rw[dc];exact fin
 rw[fK];have:decide (1<=mQ (dU V bs)/\mQ (dU V bs)<=255/\yN (dU V bs)<=mQ (dU V bs))=decide (((yN (dU V bs):Nat):Int)<=((mQ (dU V bs):Nat):Int)):=by
  rw[jY];exact decide_eq_decide.2 ⟨λe=>e.2.2,λe=>⟨c1,c2,e⟩⟩
 rw[this]at fin;exact fin
theorem JM{ty:Nat}(U:ke V h0)(u:Fr No h0 h)(mx:oT.Mx h)(row:Row h p (bc bs))(v:l=bs.length)(cap:bs.length<=c)(j:bs.length<=80000)(hk: gL h R (.bool (yO V ty bs))):Cl 201 #[.U (ty:Int),.slice p l c] h R:=by
 subst v;refine CQ.walk (aG.of λJ s=>aG.of λw d=> ?_);unfold yO at hk;have fin: ∀q g,Fr No h g->(yO V ty bs=(q && decide (bs.length<=200)))->J q g:=λq g F e=>by
  subst s;have:=hk g F;unfold yO at e;rw[e]at this;rw[show decide ((bs.length:Int)<=200)=decide (bs.length<=200)from jY bs.length 200];cases q with
  |false=>exact this
  |true=>exact this
 by_cases k:ty=6
 .subst k;rw[fK];refine EB U u mx row rfl cap j λH e f1=>ay.ex e.s ⟨_,rfl,?_⟩
  subst d;exact fin _ H f1 rfl
 rw[ae (by simp only[cR];omega)];refine aG.of λx f=> ?_
 by_cases o:ty=7
 .subst o;rw[fK];refine CS U u row rfl cap j λH f1=>⟨_,_,rfl,?_⟩
  subst f d;exact fin _ H f1 rfl
 rw[ae (by simp only[cR];omega)];refine aG.of λy r=> ?_
 by_cases C:ty=10
 .subst C;rw[fK];refine OG U u row rfl cap j λH a b f1=>⟨_,_,_,rfl,?_⟩
  subst r f d;exact fin _ H f1 rfl
 rw[ae (by simp only[cR];omega)];subst r f d;exact fin true h (Fr.refl _ _) (by unfold yO;rw[ae k,ae o,ae C])
theorem vD{p:cy}{n c:Nat}{l:List Nat}(row:Row h p (nu l))(o:n=l.length)(s:l.length<=100000)(hk:R (.bool (l.all lj)) h):Cl 200 #[.slice p n c] h R:=by
 subst o;refine CR.walk (jD.within.walk (jZ.within.walk ?_));refine⟨λt g=> ∃i:Nat,t=(i:Int)/\i<=l.length/\g=h/\(l.take i).all lj=true,λt _=>l.length - t.toNat,⟨0,rfl,bG _,rfl,by rw[dV];rfl⟩,?_⟩;rintro _ g ⟨i,rfl,r,rfl,d⟩;by_cases H:i<l.length
 .rw[fK];obtain⟨a,rfl⟩:=row.some (by intro e;have:=bU List.length e;rw[aF,bz]at this;omega);have f:bg g (a.add (i*1))=some (.U ((l[i]:Nat):Int)):=by
   have:=row.cell (j:=i) (v:=.U ((l[i]:Nat):Int)) (by rw[aK,aj H];rfl);rw[ct];exact this
  have key: ∀q,q=(!lj l[i])->(if q=true then∃t7,Value.I (i:Int)=.I t7/\∃t4,Value.bool (decide (t7≥0))=.bool t4/\R (.bool (!t4)) g else((∃k:Nat,IntKind.wrap .i64 ((i:Int)+1)=(k:Int)/\k<=l.length/\g=g/\(l.take k).all lj=true)/\l.length - (IntKind.wrap .i64 ((i:Int)+1)).toNat<l.length - (i:Int).toNat)):=by
   rintro q rfl;cases e:lj l[i]with
   |false=>
    rw[fK];refine⟨_,rfl,_,rfl,?_⟩;rw[av ag];have:l.all lj=false:=List.all_eq_false.2 ⟨l[i],dA H,by rw[e];decide⟩;rw[this]at hk;exact hk
   |true=>
    rw[dc,bD (n:=(i:Int)+1) ag ag];refine⟨⟨i+1,ag,ag,rfl,?_⟩,ag⟩;rw[bQ,aj H,List.all_append,d];simp[e]
  refine⟨ag,bK.2 ⟨a,rfl,_,f,ze.walk ?_⟩⟩;have eq:lj l[i]=(decide (1<=l[i]) && decide (l[i]<=255)):=by unfold lj;by_cases a:1<=l[i]<;>by_cases b:l[i]<=255<;>simp[a,b]
  by_cases c1:l[i]<1
  .rw[fK];refine⟨_,rfl,key true ?_⟩;rw[eq,az (show¬1<=l[i] by omega)];rfl
  .rw[dc];refine⟨_,rfl,key _ ?_⟩;rw[eq,av (show 1<=l[i] by omega)];by_cases c2:l[i]<=255
   .rw[av c2,az (show¬((l[i]:Nat):Int)>255 by omega)];rfl
   .rw[az c2,av (show((l[i]:Nat):Int)>255 by omega)];rfl
 .rw[ae (λe=>H (bY (aU e)))];rw[bJ ag]at d;rw[d]at hk;exact⟨_,rfl,_,rfl,hk⟩
abbrev lh.s(b:lh)(p:cy)(c:Nat):ax.S:=⟨b.ty,b.nr,b.fl,b.sum,p,b.data.length,c⟩
variable {b:lh}
theorem vE(b:lh)(U:ke V h0)(u:Fr No h0 h)(mx:oT.Mx h)(row:Row h p (bc b.data))(cap:b.data.length<=c)(k:b.data.length<=80000)(hk: gL h R (.bool (iR V b))):Cl 175 #[(b.s p c).agg] h R:=by
 refine Ez.walk (ax.cM λbb o E d f1=>⟨_,ar d,_,ar d,GA (l:= [b.ty,b.nr]) (n:=2) rfl λB a r2 f2=>vD r2 rfl (by show 2<=_;omega) ⟨_,rfl,?_⟩⟩);have F:=f1.tt f2;have H:=f2.get d id;have no: ∀g,Fr No h g->iR V b=false->R (.bool false) g:=λg f e=>by have:=hk g f;rw[e]at this;exact this
 have e1: [b.ty,b.nr].all lj=(lj b.ty && lj b.nr):=bP
 rw[e1];cases c0:(lj b.ty && lj b.nr)with
 |false=>rw[dc];exact no a F (by unfold iR;rw[c0];rfl)
 |true=>
 rw[af rfl];refine⟨_,ar H,?_⟩;change if Q2 (b.fl:Int) 23=true then _ else _
 by_cases c1:Q2 (b.fl:Int) 23=true
 case neg=>rw[ae c1];exact no a F (by unfold iR;simp[c1])
 rw[af c1];refine⟨_,ar H,?_⟩;by_cases c2:0<=b.sum
 case neg=>rw[ae (by simp only[aV];exact c2)];exact no a F (by unfold iR;simp[c2])
 rw[af (av c2)];refine⟨_,ar H,?_⟩;by_cases C:b.sum<=2
 case neg=>rw[ae (by simp only[aV];exact C)];exact no a F (by unfold iR;simp[C])
 rw[af (av C)];refine⟨_,ar H,_,_,_,ar H,JM U (u.tt F) (mx.on F) (row.frame F cb) rfl cap k λj f3=>⟨_,rfl,?_⟩⟩;have:=hk j (F.tt f3);unfold iR at this;rw[c0,c1,av c2,av C]at this;exact this
theorem GC(H:mI V t i=.ok m):0<=typeAt m i:=by
 unfold mI at H;split at H
 .rename_i d;have key: ∀k,i<k->typeAt (t.l.take k) i=typeAt t.l i:=λk hk=>by
   unfold typeAt at_;rw[aY,aY,cP,af hk,bB];exact ite_congr (propext (by constructor<;>(rintro⟨a,b⟩;exact⟨ag,b⟩))) (λ_=>rfl) (λ_=>rfl)
  split at H
  .cases H;exact d.2.2
  .split at H
   .rename_i e;split at H
    .cases H
    .split at H
     .cases H;rw[key _ e.1];exact d.2.2
     .cases H
   .cases H
 .cases H
theorem JN(a:mI V t i=.ok m):(at_ m i).n<=2:=by
 have:=GC a;unfold typeAt at this;split at this
 .rename_i H;exact H.2.1
 .omega
theorem vF(h:iR V b=true):0<=b.sum/\b.sum<=2/\b.data.length<=200/\1<=b.ty/\b.ty<=255/\1<=b.nr/\b.nr<=255:=by
 unfold iR at h;simp only[aT,aV]at h;obtain⟨⟨⟨⟨⟨a,A⟩,_⟩,b1⟩,c⟩,d⟩:=h;unfold lj at a A;unfold yO at d;simp only[aT,aV]at a A d;exact⟨b1,c,d.2,a.1,a.2,A.1,A.2⟩
theorem Bz(h:iR V b=true):dk (Jp b)<=300:=by
 obtain⟨_,_,d,_⟩:=vF h;simp only[Jp,dk,room,bz];omega
theorem BA(h:rj V b=.ok t):room t<=400:=by
 unfold rj at h;split at h
 .rename_i H;have:=y9 h;have:=Bz H;omega
 .cases h
theorem ED{e:Int}(h:rj V b=.error e):e≠0:=by
 unfold rj at h;split at h
 .exact By h
 .cases h;decide
theorem H2 (b : lh) {p : Option Addr} {c : Nat} (U : ke V h0) (u : Fr No h0 h) (mx : oT.Mx h) (row : Row h p (bc b.data)) (cap : b.data.length ≤ c) (hlen : b.data.length ≤ 80000)
    (hk : ∀ h' z q, (∀ t, rj V b = .ok t → q = 0 ∧ rU h' (λy => h.size ≤ y) t z) → (∀ e, rj V b = .error e → q = e) → Fr No h h' → R (.tuple #[z.s.agg, .int .i64 q]) h') : Cl 179 #[(b.s p c).agg] h R := by
  refine EA.walk (ax.cM λbb h1 eb hb f1 => aa.cM λb1 h2 SD Jv f2 => ax.ff (f2.get hb id) (vE b U (u.tt (f1.tt f2)) (mx.on (f1.tt f2)) (row.frame (f1.tt f2) (λ_ _ => id)) cap hlen λh3 f3 => ⟨_, rfl, ?_⟩))
  have OF := (f2.tt f3).get hb id
  have OH := f3.get Jv id
  have F3 := f1.tt (f2.tt f3)
  have z3 := F3.1
  have z1 := f1.1
  have z23 := f3.1
  have SB := aD OH
  cases hr : iR V b with
  | false => exact CJ OH λh4 f4 => hk h4 zv 3 (λt e => by unfold rj at e; rw [hr, if_neg (by decide)] at e; cases e) (λt e => by unfold rj at e; rw [hr, if_neg (by decide)] at e; cases e; rfl) (F3.fresh f4 (λy e => by omega))
  | true =>
  rw [if_neg (by decide)]
  obtain ⟨s0, s2, d2, _⟩ := vF hr
  have rm := Bz hr
  have eW : rj V b = mH V (Jp b) 3 := by unfold rj; rw [hr, if_pos rfl]
  obtain ⟨sum, hs⟩ := Int.eq_ofNat_of_zero_le s0
  have es : b.sum.toNat = sum := by omega
  refine ⟨_, cH OF rfl, _, cH OF rfl, _, cH OF rfl, _, cH OF rfl, ?_⟩
  rw [show (b.s p c).f3 = ((sum : Nat) : Int) from hs, wrap_u64 (n := (sum : Int)) (by omega) (by omega)]
  refine GA (l := [b.ty, b.nr, b.fl, sum]) (n := 4) rfl λb3 h5 r5 f5 => EC r5 rfl (by show 4 ≤ _; omega) λh6 z tz f6 => aa.ex z.s ⟨rfl, _, _, _, cH ((f5.tt f6).get OF id) rfl, ny (row.frame (F3.tt (f5.tt f6)) (λ_ _ => id)) rfl (by omega) λh7 v ev ov f7 => aa.ex (CV.s ⟨2, 0, v, none, 0, 0⟩) ⟨rfl, aa.cM (x := CV.s ⟨2, 0, v, none, 0, 0⟩) λb4 h8 Vn HT f8 => ?_⟩⟩
  have F8 := f5.tt (f6.tt (f7.tt f8))
  obtain ⟨_, zs, a5, a6, a7, a8⟩ := tz
  have zl : zs.length = 4 := by have := a8.len; exact this.symm
  have sl : z.s.oS = zs.length := a5
  rw [sl]
  have z6 := f6.1
  have z7 := f7.1
  have z8 := f8.1
  have qs : ∀ y, aR z.q y → y < h6.size := λy hy => a6.dY hy
  refine dT tI uI (a6.frame (f7.tt f8) (λ_ _ => id)) (ds := hN ⟨2, 0, v, none, 0, 0⟩) (.inr ⟨_, rfl, aa.yT (x := CV.s ⟨2, 0, v, none, 0, 0⟩) HT⟩) rfl (nt _) (by omega) (by omega) λq' S2 h9 o9 _ f9 g9 => ⟨_, _, _, rfl, ?_⟩
  have ef : zs.flatMap hN ++ hN ⟨2, 0, v, none, 0, 0⟩ = (zs ++ [(⟨2, 0, v, none, 0, 0⟩ : CV)]).flatMap hN := by rw [List.flatMap_append, List.flatMap_singleton]
  rw [ef] at o9
  have F9 : Fr No h3 h9 := F8.fresh f9 (λy hy => by have := a7 y hy; have := f5.1; omega)
  have L9 : kX h9 (λ_ => True) q' (zs.length + 1) S2 (zs ++ [⟨2, 0, v, none, 0, 0⟩]) := ⟨by simp, o9.iw, λ_ _ _ => trivial, o9.le⟩
  have T9 : Az h9 (Jp b) (zs ++ [⟨2, 0, v, none, 0, 0⟩]) := by
    have t1 := df.frame f9 (λy hy Tl => hy.2 Tl) (df.on (df.on a8 f7) f8)
    have t2 : gl h7 (λy => h6.size ≤ y) (pg v.b) ⟨2, 0, v, none, 0, 0⟩ := Br ov
    have t3 := (t2.on f8).frame f9 (λy hy Tl => by have := qs y Tl; omega)
    have := df.snoc t1.u t3.u
    rw [ev] at this
    unfold Jp
    rw [es]
    exact this
  refine HY (i := 3) U (u.tt (F3.tt F9)) L9 T9 (by omega) (by omega) (λt ht Vr z tz f19 => aa.ex z.s ⟨_, rfl, ?_⟩) (λe he Vr f19 => aa.ex zv.s ⟨_, rfl, ?_⟩)
  · have z9 := F9.1
    exact fin ((F9.tt f19).get OH id) tz (λy hy e => by omega) λTm t20 f20 => hk Tm z 0 (λt' e => by rw [eW, ht] at e; cases e; exact ⟨rfl, t20.mono λy hy => by omega⟩) (λe' e => by rw [eW, ht] at e; cases e) ((F3.tt (F9.tt f19)).fresh f20 (λy e => by omega))
  · exact CJ ((F9.tt f19).get OH id) λTm f20 => hk Tm zv e (λt' e' => by rw [eW, he] at e'; cases e') (λe' e2 => by rw [eW, he] at e2; cases e2; rfl) ((F3.tt (F9.tt f19)).fresh f20 (λy e => by omega))
theorem PN{b:Nat}{y x:ax.S}{K:ax.S->ai->Prop}(H:ax.fi h b y)(hk: ∀h',Fr (λy=>y=b) h h'->K x h'):
  ax.cX h (AA b 0) x λg=>ax.cv g (AA b 0) λr=>K r g:=
 ax.gy (x:=x) H λg d1 f _=>ax.ff d1 (hk g f)
theorem OI{x:CV}(U:ke V h0)(u:Fr No h0 h)(mx:oT.Mx h)(tx:CI h t x)(hr:room t<=50000)(k1: ∀b,vu V t=.ok b->∀h' p c,BV.ok h' (λy=>h.size<=y) ⟨p,c,b.data⟩->Fr No h h'->R (.tuple #[(b.s p c).agg,.I 0]) h')(k2: ∀e,vu V t=.error e->e≠0->gL h R (.tuple #[ax.S.z.agg,.I e])):Cl 195 #[x.agg] h R:=by
 have rl:=jX (t:=t);refine Gz.walk (x:=x.s) (aa.cM λb h1 eb I f1=>ax.cM λb1 h2 w' J f2=>aa.ff (f2.get I id) ?_);have F:=f1.tt f2;have q':=f2.get I id;have zb:=aD I;have P':=aD J;have z1:=f1.1;have z2:=f2.1;have no: ∀g e,Fr No h2 g->vu V t=.error e->e≠0->ax.cX g (AA b1 0) .z λG=>ax.cv G (AA b1 0) λr=>R (.tuple #[r.agg,.I e]) G:=λg e o k v=>
  PN (o.get J id) λG f=>k2 e k v G ((F.tt o).fresh f (λy e=>ag))
 have H:vu V t=vu V t:=rfl;conv at H=>rhs;unfold vu
 refine xU (i:=3) U (u.tt F) (tx.on F) ag ag (λm hu ru j p zs c L T f3=>⟨_,_,_,_,rfl,?_⟩) (λe k v j f3=>⟨_,_,_,_,rfl,?_⟩)
 case refine_2=>
  rw[af (cA v)];exact no j e f3 (by rw[H,k]) v
 rw[dc];rw[hu]at H;dsimp only at H;have n2:=JN hu;have ln:=T.len;have l9:=gG m;refine aG.of λd' hJ=> ?_
 have bad: ¬(m.length=5/\(at_ m 4).k=2)->d' true j:=λv=>by
  subst hJ;dsimp only;rw[af rfl];exact no j 3 f3 (by rw[H,ae v]) di
 by_cases l5:m.length=5
 case neg=>rw[af (by simp only[cU,en];omega)];exact bad (λe=>l5 e.1)
 rw[ae (by simp only[cU,en];omega)];have z3:=f3.1;have it: ∀i,i<5->∃(a:Addr)(y:CV),p=some a/\dI (a.add (i*4)) y.s.l 0 j/\CI j (at_ m i) y/\bg j ((a.add (i*4)).add 1)=some (.U ((at_ m i).n:Int)):=λi hi=>by
  obtain⟨a,y,ea,hh,ty,_⟩:=elem L T (i:=i) ag;obtain⟨_,yn,_⟩:=gl.kn ty;exact⟨a,y,ea,hh,ty.u,by have:=hh.2.1;rw[<-yn];exact this⟩
 obtain⟨a0,y0,e',C',J',c0⟩:=it 0 ag;obtain⟨a1,y1,f',E',K',c1⟩:=it 1 ag;obtain⟨a2,y2,g',F',L',c2⟩:=it 2 ag;obtain⟨a3,y3,i',G',M',c3⟩:=it 3 ag;obtain⟨a4,Y,W,b',v',c4⟩:=it 4 ag;obtain⟨yk,yn,N,yl,yv,_⟩:=gl.kn v';have r4:=ir (ts:=m) (i:=4) ag;have H':=jX (t:=at_ m 4);refine⟨ag,bK.2 ⟨a4,W,_,b'.1,?_⟩⟩;by_cases K:(at_ m 4).k=2
 case neg=>rw[show(Y.s.f0 !=2)=true by have:Y.s.f0=(at_ m 4).k:=yk;rw[this];simpa using K];exact bad (λe=>K e.2)
 rw[show(Y.s.f0 !=2)=false by have:Y.s.f0=(at_ m 4).k:=yk;rw[this];simpa using K];clear bad;rw[af ⟨l5,K⟩]at H;subst hJ;try dsimp only
 rw[dc];have u3:=u.tt (F.tt f3);have m3:=mx.on (F.tt f3);have E:(pY m).data=Y.v.b:=N.symm;refine aG.of λJ1 p'=> ?_
 have rest: ∀g B q cl,ax.fi g B ((pY m).s q cl)->h2.size<=B->BV.ok g (λy=>j.size<=y/\y≠B) ⟨q,cl,(pY m).data⟩->Fr No j g->J1 (Sa B 0) g:=by
  intro g B q cl hs z4 M o;subst p';refine aw.2 (ax.ff hs (H2 (pY m) U (u3.tt o) (m3.on o) M.row M.cap (by rw[E,N];omega) λh8 w qw w0 w1 f8=>aa.ex w.s ⟨_,rfl,aa.ft (x:=w.s) λb5 Z x' r' f10=>aG.of λJ2 a'=> ?_⟩));have C:=f8.tt f10;have z:=f3.tt (o.tt C);have bad: ∀G,Fr No Z G->vu V t=.error 3->J2 true G:=λG k' k=>by
   subst a';try dsimp only
   rw[af rfl];exact no G 3 (z.tt k') k di
  cases s:rj V (pY m)with
  |error e=>
   rw[s]at H;rw[af (by rw[w1 e s];simpa using ED s)];exact bad Z (Fr.refl _ _) H
  |ok Q=>
   rw[s]at H;dsimp only at H;obtain⟨rfl,tw⟩:=w0 Q s;have I':=BA s;rw[dc];refine aa.ff r' (aa.ff (x:=x.s) (z.get q' id) (iX (x:=w) (y:=x) (tw.u.on f10) (tx.on (F.tt z)) ag λm' f14=>⟨_,rfl,?_⟩));cases k:mW Q t with
   |false=>exact bad m' f14 (by rw[H,ae (by rw[k];decide)])
   |true=>
    rw[k,af rfl]at H;subst a';try dsimp only
    rw[dc];refine aw.2 (ax.ff ((C.tt f14).get hs id) (PN ((z.tt f14).get J id) λG f=>k1 _ H G q cl ?_ ((F.tt (z.tt f14)).fresh f (λy e=>ag))));have:=(M.mono (D':=λy=>j.size<=y) λy d=>d.1).frame (C.tt f14) cb;exact(this.frame f (λy d e=>ag)).mono λy d=>ag
 refine⟨ag,bK.2 ⟨a0,e',_,c0,ag,bK.2 ⟨a1,f',_,c1,ag,bK.2 ⟨a2,g',_,c2,ag,bK.2 ⟨a3,i',_,c3,ag,bK.2 ⟨a4,W,_,_,_,b'.2.2.1,?_⟩⟩⟩⟩⟩⟩;rw[bD (n:=(((at_ m 3).n:Nat):Int)) ag ag];have l4:Y.v.b.length<=50000:=by rw[N];omega
 have S: ∀P c',(⟨(at_ m 0).n,(at_ m 1).n,(at_ m 2).n,(at_ m 3).n,P,Y.v.b.length,c'⟩:ax.S)=(pY m).s P c':=λP c'=>by
  show _=(⟨_,_,_,_,P,(pY m).data.length,c'⟩:ax.S);rw[E];rfl
 refine⟨?_,?_,trivial⟩
 .refine kK.gF yv.row rfl ag λP c' y' O f15 l'=>⟨_,_,_,rfl,f15.kp,ax.cM λB z' j' A f16=>⟨f16.kp,?_⟩⟩
  rw[S];have N':=f15.1;have z4:=aD A;refine ax.gy (x:=(pY m).s P c') A λn' d17 f17 _=>rest n' B P c' d17 ag ?_ ((f15.tt f16).fresh f17 (λy e=>ag))
  have s':=(O.frame f16 cb).frame f17 (λy d e=>bY (O.dY d));rw[E];exact BV.kU s' (λy d=>⟨l' y d,bY (O.dY d)⟩)
 .refine ax.cM λB A' j' A f18=>⟨f18.kp,kK.gF (yv.row.frame f18 cb) rfl ag λP c' B' t' f19 X=>⟨_,_,_,rfl,f19.kp,?_⟩⟩
  rw[S];have O':=f18.1;have z4:=aD A;refine ax.gy (x:=(pY m).s P c') (f19.get A id) λo' d20 f20 _=>rest o' B P c' d20 ag ?_ ((f18.tt f19).fresh f20 (λy e=>ag))
  have u':=t'.frame f20 (λy d e=>bY (X y d));rw[E];exact BV.kU u' (λy d=>bY (X y d))

end Bn
end
section
variable {h:ai} {R:fp}
variable {L:cy} {l c:Nat} {b:aq.S} {r:aJ.S}
theorem CT.walk{kind:Int}(H:if(kind==1)then R (.bool true) h else if(kind==6)then R (.bool true) h else if(kind==7)then R (.bool true) h else R (.bool (kind==10)) h):Cl 176 #[.U kind] h R:=aO (lq ll) Tryz.func176 H
theorem GD.walk (F: ∃(I:Bool->ai->Prop)(N:Bool->ai->Nat),(aG (λ(t33:Bool) (k:ai)=>if t33 then R (.bool false) k else I true k) (λJ=>if(decide ((wrap .i64 ((l:Int) - 1))<0))then J true h else if(decide ((wrap .i64 ((l:Int) - 1))≥8))then J true h else Bd (wrap .i64 ((l:Int) - 1)) l/\aL L λa=> ∃t23,bg h (a.add (toNat (wrap .i64 ((l:Int) - 1))*5))=some (.U t23)/\if(t23 !=1)then J true h else Bd (wrap .i64 ((l:Int) - 1)) l/\aL L λA=> ∃t31,bg h ((A.add (toNat (wrap .i64 ((l:Int) - 1))*5)).add 1)=some (.U t31)/\J (t31 !=1) h))/\∀(ok:Bool)(m:ai),I ok m->aG (λ(G:Bool) (C:ai)=>R (.bool G) C) (λg=> ∃(i:Bool->Int->ai->Prop)(M:Bool->Int->ai->Nat),i ok 0 m/\∀(O:Bool)(t36:Int)(e:ai),i O t36 e->if(decide (t36<(l:Int)))then Bd t36 l/\aL L λu=>ax.cv e (u.add (toNat t36*5)) λt40=>aQ e (.cells ax.S.z.arr 201) λb D=>ax.cX D (AA b 0) t40 λn=>ax.cv n (AA b 0) λt41=>Cl 175 #[t41.agg] n λv E=>Vb v λt42=>((0:Int)<=t36/\t36<=(c:Int))/\∃(f:Bool->Int->ai->Prop)(q:Bool->Int->ai->Nat),f t42 0 E/\∀(o:Bool)(t47:Int)(d:ai),f o t47 d->if(decide (t47<(((toNat t36) - 0:Nat):Int)))then aG (λ(s:Bool) (p:ai)=>(f s (wrap .i64 (t47+1)) p/\q s (wrap .i64 (t47+1)) p<q o t47 d)) (λt=>((0:Int)<=t47/\t47<(((toNat t36) - 0:Nat):Int))/\aL (cO L c 0 5) λw=>ax.cv d (w.add (toNat t47*5)) λt50=>aQ d (.cells ax.S.z.arr 201) λB x=>ax.cX x (AA B 0) t50 λH=>aG (λ(K:Bool) (y:ai)=>t K y) (λj=>if o then Hu H B 1 λt54=> ∃t56,Cc H b 1 (.U t56)/\if(t54 !=t56)then Hu H B 0 λt61=> ∃t63,Cc H b 0 (.U t63)/\if(t61 !=t63)then j true H else Hu H b 0 λt67=>Cl 176 #[.U t67] H λV z=> ∃t68,V=.bool t68/\j (!t68) z else j false H else j false H))else if(!o)then g o d else(i o (wrap .i64 (t36+1)) d/\M o (wrap .i64 (t36+1)) d<M O t36 e)else g O e)):Cl 124 #[.slice L l c] h R:=aO (lq (.scope 0 [(4,.one (.bool))] (lq (sq (sq (.join [(33,.one (.bool))] lf) (cq ll lf)) (lq ll))) (lq (sq (lq (.join [(4,.one (.bool))] (bq (.loop [(4,.one (.bool)),(36,.one (.int .i64))] (lq (sq (cq lf lf) (sq (bq (lq (lq (sq (lq (bq (.loop [(4,.one (.bool)),(47,.one (.int .i64))] (lq (sq (cq lf lf) (sq (.join [(4,.one (.bool))] (bq (lq (.join [(4,.one (.bool))] lf)))) lf)))))) (lq (cq lf lf)))))) lf))))))) ll)))) Tryz.func124 F
theorem CU.walk(S:aQ h (.cells b.arr 129) λB m=>aC.cv m (AA B 0) λt16=>Cl 177 #[t16.agg] m λv K=>aa.EX λs=> ∃u,v=.tuple #[s.agg,.I u]/\aQ K (.cells aa.S.z.arr 262) λi N=>aa.cX N (AA i 0) s λf=>if(u !=0)then R (.tuple #[.Z,.bool false]) f else aa.cv f (AA i 0) λt23=>Cl 178 #[t23.agg] f λX p=> ∃y x w U,X=.tuple #[.slice y x w,.I U]/\Hl p B 20 λV z b'=> ∃(I:cy->Nat->Nat->Int->ai->Prop)(M:cy->Nat->Nat->Int->ai->Nat),I y x w 0 p/\∀(d:cy)(O o:Nat)(t30:Int)(H:ai),I d O o t30 H->if(decide (t30<(z:Int)))then Bd t30 z/\aL V λa=>ax.cv H (a.add (toNat t30*5)) λt33=>aQ H (.cells ax.S.z.arr 201) λj P=>ax.cX P (AA j 0) t33 λq=>ax.cv q (AA j 0) λt35=>Cl 179 #[t35.agg] q λY Q=>aa.EX λA=> ∃C,Y=.tuple #[A.agg,.I C]/\aQ Q (.cells aa.S.z.arr 262) λk G=>aa.cX G (AA k 0) A λe=>if(C !=0)then R (.tuple #[.Z,.bool false]) e else aa.cv e (AA k 0) λt42=>Cl 178 #[t42.agg] e λZ J=> ∃F E D W,Z=.tuple #[.slice F E D,.I W]/\aW Tryz.prog (Builtin.append_ #[22,22] 22 #[.slice d O o,.slice F E D]) J λa' n=> ∃g T t,a'=.slice g T t/\(I g T t (wrap .i64 (t30+1)) n/\M g T t (wrap .i64 (t30+1)) n<M d O o t30 H)else R (.tuple #[.slice d O o,.bool true]) H):Cl 125 #[b.agg] h R:=aO (lq (lq (sq (lq (cq ll lf)) (lq (sq (lq (bq (.loop [(6,.one (.slice)),(30,.one (.int .i64))] (lq (sq (cq lf lf) (sq (bq (lq (lq (sq (lq (cq ll lf)) ll)))) lf)))))) ll))))) Tryz.func125 S
theorem CW.walk(d:aQ h (.cells b.arr 129) λB H=>aq.cv H (AA B 0) λt6=>Cl 58 #[t6.agg] H λv a=> ∃f e T t,v=.tuple #[.slice f e T,.I t]/\R (.bool (t==0)) a):Cl 196 #[b.agg] h R:=aO (lq (lq ll)) Tryz.func196 d
theorem CX.walk (u:aQ h (.cells b.arr 129) λB a=>Hl a B 20 λC A z=>Cl 124 #[.slice C A z] a λv H=> ∃t8,v=.bool t8/\if(!t8)then R (.tuple #[.Z,.I 3]) H else aq.cv H (AA B 0) λt11=>Cl 125 #[t11.agg] H λV d=> ∃f t T g,V=.tuple #[.slice f t T,.bool g]/\aG (λ(t21:Bool) (e:ai)=>if t21 then R (.tuple #[.Z,.I 3]) e else aQ e (.cells #[.int .u8 159] 5) λm o=>aW Tryz.prog (Builtin.append_ #[22,22] 22 #[.slice (Sa m 0) 1 1,.slice f t T]) o λD p=>Vl D λy x w=>aQ p (.cells #[.int .u8 255] 5) λn q=>aW Tryz.prog (Builtin.append_ #[22,22] 22 #[.slice y x w,.slice (Sa n 0) 1 1]) q λE s=> ∃k j i,E=.slice k j i/\R (.tuple #[.slice k j i,.I 0]) s) (λJ=>if(!g)then J true d else J (decide (((t:Nat):Int)>598)) d)):Cl 58 #[b.agg] h R:=aO (lq (sq (lq (cq ll lf)) (lq (sq (sq (.join [(21,.one (.bool))] lf) (cq ll lf)) ll)))) Tryz.func58 u
theorem EE.walk{s:cy}{f q:Nat} (hv:aQ h (.cells aq.S.z.arr 129) λb u=>if(decide ((f:Int)>1200))then aq.cX u (AA b 0) aq.S.z λz=>aq.cv z (AA b 0) λr0=>R (.tuple #[r0.agg,.I 2]) z else Cl 193 #[.slice s f q,.I 0] u λv f'=>aa.EX λK=> ∃N t,v=.tuple #[K.agg,.I N,.I t]/\aQ f' (.cells aa.S.z.arr 262) λB g'=>aa.cX g' (AA B 0) K λH=>if(t !=0)then aq.cX H (AA b 0) aq.S.z λE=>aq.cv E (AA b 0) λh'=>R (.tuple #[h'.agg,.I t]) E else aG (λ(t27:Bool) (F:ai)=>if t27 then aq.cX F (AA b 0) aq.S.z λG=>aq.cv G (AA b 0) λi'=>R (.tuple #[i'.agg,.I 3]) G else aQ F (.cells aq.S.z.arr 129) λe k=>Hl k B 3 λs' r' C'=>Bd 0 r'/\aL s' λa=>aa.cv k (a.add (toNat 0*4)) λt54=>Cl 194 #[t54.agg] k λy' Z=>aC.EX λQ=> ∃T,y'=.tuple #[Q.agg,.I T]/\aC.cX Z (AA e 0) Q λi=>if(T !=0)then aq.cX i (AA b 0) aq.S.z λw=>aq.cv w (AA b 0) λj'=>R (.tuple #[j'.agg,.I T]) w else Hl i B 3 λu' m t'=>((0:Int)<=1/\1<=(m:Int))/\∃(I:Int->ai->Prop)(M:Int->ai->Nat),I 0 i/\∀(t67:Int)(d:ai),I t67 d->if(decide (t67<((m - (toNat 1):Nat):Int)))then((0:Int)<=t67/\t67<((m - (toNat 1):Nat):Int))/\aL (cO u' t' (toNat 1) 4) λX=>aa.cv d (X.add (toNat t67*4)) λt70=>aQ d (.cells aa.S.z.arr 262) λo a'=>aa.cX a' (AA o 0) t70 λx=>aa.cv x (AA o 0) λt72=>Cl 195 #[t72.agg] x λz' b'=>ax.EX λS=> ∃n,z'=.tuple #[S.agg,.I n]/\aQ b' (.cells ax.S.z.arr 201) λp c'=>ax.cX c' (AA p 0) S λg=>if(n !=0)then aq.cX g (AA b 0) aq.S.z λy=>aq.cv y (AA b 0) λk'=>R (.tuple #[k'.agg,.I n]) y else Hl g e 20 λx' w' v'=>ax.cv g (AA p 0) λt82=>aQ g (.cells t82.arr 201) λY d'=>aW Tryz.prog (Builtin.append_ #[127,127] 127 #[.slice x' w' v',.slice (Sa Y 0) 1 1]) d' λA' e'=> ∃W V U,A'=.slice W V U/\aS e' (AA e 20) (.slice W V U) λA=>(I (wrap .i64 (t67+1)) A/\M (wrap .i64 (t67+1)) A<M t67 d)else aq.cv d (AA e 0) λt87=>Cl 196 #[t87.agg] d λB' j=> ∃t88,B'=.bool t88/\if(!t88)then aq.cX j (AA b 0) aq.S.z λC=>aq.cv C (AA b 0) λl'=>R (.tuple #[l'.agg,.I 3]) C else aq.cv j (AA e 0) λt91=>aq.cX j (AA b 0) t91 λD=>aq.cv D (AA b 0) λm'=>R (.tuple #[m'.agg,.I 0]) D) (λJ=>if(N !=(f:Int))then J true H else∃t34,Cc H B 0 (.I t34)/\if(t34 !=4)then J true H else∃o' O n',Cc H B 3 (.slice o' O n')/\if(decide (((O:Nat):Int)<2))then J true H else∃q' P p',Cc H B 3 (.slice q' P p')/\J (decide (((P:Nat):Int)>9)) H)):Cl 158 #[.slice s f q] h R:=aO (lq (sq (lq (cq ll lf)) (lq (sq (bq (lq (cq ll (sq (.join [(27,.one (.bool))] lf) (cq ll lf))))) (lq (sq (lq (lq (cq ll lf))) (sq (lq (bq (.loop [(67,.one (.int .i64))] (lq (sq (cq lf lf) (sq (bq (lq (lq (sq (lq (cq ll lf)) lf)))) lf)))))) (sq (lq (cq ll lf)) ll)))))))) Tryz.func158 hv
theorem zj.walk (o:aQ h (.cells b.arr 129) λB H=> ∃u j s,Cc H B 20 (.slice u j s)/\if(((j:Nat):Int)==0)then R (.Z) H else∃m k w,Cc H B 20 (.slice m k w)/\∃q t p,Cc H B 20 (.slice q t p)/\((0:Int)<=wrap .i64 (((t:Nat):Int) - 1)/\wrap .i64 (((t:Nat):Int) - 1)<((k:Nat):Int))/\aL m λa=> ∃e d T,bg H ((a.add (toNat (wrap .i64 (((t:Nat):Int) - 1))*5)).add 4)=some (.slice e d T)/\Cl 50 #[.slice e d T] H λv n=> ∃i g f,v=.slice i g f/\R (.slice i g f) n):Cl 159 #[b.agg] h R:=aO (lq (sq (lq (cq ll lf)) ll)) Tryz.func159 o
theorem CY.walk(k:aQ h (.cells r.arr 287) λb H=> ∃t4,Cc H b 0 (.bool t4)/\if t4 then∃t15,Cc H b 3 (.U t15)/\if(decide (t15<=255))then∃t20,Cc H b 4 (.U t20)/\if(decide (t20<=1099511627776))then ah.cv H (AA b 5) λt25=>Cl 237 #[t25.agg] H λv g=> ∃t26,v=.bool t26/\R (.bool t26) g else R (.bool false) H else R (.bool false) H else∃t7,Cc H b 1 (.bool t7)/\if t7 then∃t,Cc H b 3 (.U t)/\if(decide (t<=255))then∃a,Cc H b 4 (.U a)/\if(decide (a<=1099511627776))then ah.cv H (AA b 5) λm=>Cl 237 #[m.agg] H λV i=> ∃e,V=.bool e/\R (.bool e) i else R (.bool false) H else R (.bool false) H else∃t11,Cc H b 2 (.bool t11)/\if t11 then∃T,Cc H b 3 (.U T)/\if(decide (T<=255))then∃d,Cc H b 4 (.U d)/\if(decide (d<=1099511627776))then ah.cv H (AA b 5) λn=>Cl 237 #[n.agg] H λo j=> ∃f,o=.bool f/\R (.bool f) j else R (.bool false) H else R (.bool false) H else R (.bool false) H):Cl 290 #[r.agg] h R:=aO (lq ll) Tryz.func290 k
theorem GF.walk(w:aQ h (.cells aa.S.z.arr 262) λb o=>Cl 247 #[.Z] o λv p=>aa.EX λt7=>v=t7.agg/\aQ p (.cells aa.S.z.arr 262) λB q=>aa.cX q (AA B 0) t7 λs=> ∃(I:Int->ai->Prop)(m:Int->ai->Nat),I 0 s/\∀(t10:Int)(H:ai),I t10 H->if(decide (t10<(l:Int)))then Bd t10 l/\aL L λa=>tj H (a.add (toNat t10*1)) λt13=>aG (λ(n:Int) (d:ai)=>Hl d B 3 λA z y=>Cl 205 #[.U n] d λV e=>aa.EX λt18=>V=t18.agg/\Kp d e [(Sa B 3)]/\aQ e (.cells t18.arr 262) λk i=>Kp e i [(Sa B 3)]/\aW Tryz.prog (Builtin.append_ #[260,260] 260 #[.slice A z y,.slice (Sa k 0) 1 1]) i λC u=> ∃j T t,C=.slice j T t/\aS u (AA B 3) (.slice j T t) λf=>(I (wrap .i64 (t10+1)) f/\m (wrap .i64 (t10+1)) f<m t10 H)) (λJ=>if t13 then J 1 H else J 0 H)else aa.cv H (AA B 0) λt23=>aa.cX H (AA b 0) t23 λg=>aa.cv g (AA b 0) λx=>R (x.agg) g):Cl 291 #[.slice L l c] h R:=aO (lq (lq (sq (lq (bq (.loop [(10,.one (.int .i64))] (lq (sq (cq lf lf) (sq (bq (lq (lq (sq (lq (.join [(6,.one (.int .u64))] (cq lf lf))) (pK 8))))) lf)))))) ll))) Tryz.func291 w
theorem CZ.walk(hv:aQ h (.cells r.arr 287) λb n=>ah.cv n (AA b 5) λt8=>Cl 204 #[t8.agg] n λv Y=>aa.EX λG=> ∃I,v=.tuple #[G.agg,.I I]/\aQ Y (.cells aa.S.z.arr 262) λB f'=>aa.cX f' (AA B 0) G λg=>aG (λ(t18:Bool) (H:ai)=>if t18 then R (.tuple #[.Z,.I 3]) H else Hb H b 0 λt21=>Hb H b 1 λt23=>Hb H b 2 λt25=>Hu H b 3 λt29=>Hu H b 4 λt32=>aa.cv H (AA B 0) λt34=>(Cl 205 #[.U 1] H λg' i=>aa.EX λt19=>g'=t19.agg/\Kp H i [(Sa B 0),(Sa b 4),(Sa b 3),(Sa b 2),(Sa b 1),(Sa b 0)]/\aQ i (.cells #[.bool t21,.bool t23,.bool t25] 4) λK j=>Kp i j [(Sa B 0),(Sa b 4),(Sa b 3)]/\Cl 291 #[.slice (Sa K 0) 3 3] j λn' k=>aa.EX λt27=>n'=t27.agg/\Kp j k [(Sa B 0),(Sa b 4),(Sa b 3)]/\Cl 205 #[.U t29] k λo' m=>aa.EX λt30=>o'=t30.agg/\Kp k m [(Sa B 0),(Sa b 4)]/\Cl 205 #[.U t32] m λp' o=>aa.EX λt33=>p'=t33.agg/\Kp m o [(Sa B 0)]/\aQ o (.cells (t27.l++t30.l++t33.l++t34.l).toArray 262) λM S=>Cl 247 #[.slice (Sa M 0) 4 4] S λq' U=>aa.EX λt36=>q'=t36.agg/\aQ U (.cells (t19.l++t36.l).toArray 262) λN V=>Cl 247 #[.slice (Sa N 0) 2 2] V λr' W=>aa.EX λt38=>r'=t38.agg/\Cl 178 #[t38.agg] W λs' X=> ∃C z x E,s'=.tuple #[.slice C z x,.I E]/\R (.tuple #[.slice C z x,.I E]) X)/\(aQ H (.cells #[.bool t21,.bool t23,.bool t25] 4) λO a=>Kp H a [(Sa B 0),(Sa b 4),(Sa b 3)]/\Cl 205 #[.U 1] a λt' d=>aa.EX λt=>t'=t.agg/\Kp a d [(Sa B 0),(Sa b 4),(Sa b 3)]/\Cl 291 #[.slice (Sa O 0) 3 3] d λu' e=>aa.EX λT=>u'=T.agg/\Kp d e [(Sa B 0),(Sa b 4),(Sa b 3)]/\Cl 205 #[.U t29] e λh' f=>aa.EX λq=>h'=q.agg/\Kp e f [(Sa B 0),(Sa b 4)]/\Cl 205 #[.U t32] f λi' p=>aa.EX λs=>i'=s.agg/\Kp f p [(Sa B 0)]/\aQ p (.cells (T.l++q.l++s.l++t34.l).toArray 262) λP Z=>Cl 247 #[.slice (Sa P 0) 4 4] Z λj' a'=>aa.EX λu=>j'=u.agg/\aQ a' (.cells (t.l++u.l).toArray 262) λQ b'=>Cl 247 #[.slice (Sa Q 0) 2 2] b' λk' c'=>aa.EX λw=>k'=w.agg/\Cl 178 #[w.agg] c' λl' d'=> ∃D A y F,l'=.tuple #[.slice D A y,.I F]/\R (.tuple #[.slice D A y,.I F]) d')/\True) (λJ=>if(I !=0)then J true g else aJ.cv g (AA b 0) λt15=>Cl 290 #[t15.agg] g λm' e'=> ∃t16,m'=.bool t16/\J (!t16) e')):Cl 249 #[r.agg] h R:=aO (lq (lq (sq (sq (.join [(18,.one (.bool))] lf) (cq ll lf)) (sq (.jz (fC 6 1 (.op 9 (.op 10 (.op 12 (.op 13 (.op 15 (.alts (.fork 0 (.op 7 (.op 8 (.op 11 (.op 14 (fC 9 16 .done))))) (.fork 7 (.op 0 (.op 8 (.op 11 (.op 14 (fC 9 16 .done))))) .gX)))))))))) lf)))) Tryz.func249 hv
theorem AF.walk{dest:ay.S}{id:ah.S}{dN:Int}(y:aQ h (.cells r.arr 287) λb q=>aQ q (.cells dest.arr 29) λn s=>aQ s (.cells id.arr 124) λo u=>aQ u (.cells aq.S.z.arr 129) λB g=>aJ.cv g (AA b 0) λt14=>Cl 249 #[t14.agg] g λv H=> ∃m k T t,v=.tuple #[.slice m k T,.I t]/\if(t !=0)then aq.cX H (AA B 0) aq.S.z λi=>aq.cv i (AA B 0) λz=>R (.tuple #[z.agg,.I t]) i else ay.cv H (AA n 0) λt22=>ah.cv H (AA o 0) λt23=>aQ H (.cells #[.U 1,.U 1,.U 0,.I 0,.slice m k T] 201) λp w=>aQ w (.cells aq.S.z.arr 129) λa x=>aq.cX x (AA a 0) ⟨2,0,t22.f0,t22.f1,t22.f2,t22.f3,t22.f4,false,0,0,fU,fU,t23.f0,t23.f1,t23.f2,t23.f3,t23.f4,t23.f5,t23.f6,dN,(Sa p 0),1,1⟩ λj=>aq.cv j (AA a 0) λt30=>Cl 196 #[t30.agg] j λV d=> ∃t31,V=.bool t31/\if(!t31)then aq.cX d (AA B 0) aq.S.z λe=>aq.cv e (AA B 0) λA=>R (.tuple #[A.agg,.I 3]) e else aq.cv d (AA a 0) λt34=>aq.cX d (AA B 0) t34 λf=>aq.cv f (AA B 0) λC=>R (.tuple #[C.agg,.I 0]) f):Cl 197 #[r.agg,dest.agg,id.agg,.U dN] h R:=aO (lq (lq (sq (lq (cq ll lf)) (lq (sq (lq (cq ll lf)) ll))))) Tryz.func197 y

end
section
namespace Bn
open Cb
open iW (Ev cV kz)
variable {V:cD→Bool} {h H h' g:ai} {R:fp} {D D':Nat→Prop}
variable {bs:List lh} {q:cy} {l cl:Nat}
structure BB where
 b:lh
 p:cy
 c:Nat
abbrev BB.s(x:BB):ax.S:=x.b.s x.p x.c
variable {xs:List BB}
abbrev xe(x:BB):List Value:=x.s.l
theorem ud(x:BB):(xe x).length=5:=rfl
theorem Ms(x:BB): ∀v∈xe x,fR v=true:=λv a=>by
 simp only[xe,ax.S.l,bH,List.not_mem_nil,or_false]at a;rcases a with rfl|rfl|rfl|rfl|rfl<;>rfl
structure ic (h:ai) (D:Nat->Prop) (bs:List lh) (q:cy) (l cl:Nat) (xs:List BB):Prop where
 eq:xs.map BB.b=bs
 len:l=bs.length
 row:Row h q (xs.flatMap xe)
 own:xs≠ []->∀y,aR q y->D y
 cap:l<=cl
 ok: ∀x∈xs,BV.ok h D ⟨x.p,x.c,x.b.data⟩
theorem ic.xl(B:ic h D bs q l cl xs):xs.length=bs.length:=by rw[<-B.eq,aF]
theorem ic.frame{Q:Nat->Prop}(B:ic h D bs q l cl xs)(f:Fr Q h h')(c: ∀y,D y->¬Q y):ic h' D bs q l cl xs:=by
 refine⟨B.eq,B.len,?_,B.own,B.cap,λx i=>(B.ok x i).frame f c⟩;by_cases e:xs= []
 .subst e;exact Row.nil
 .exact B.row.frame f (λa d=>c _ (B.own e _ ⟨a,d,rfl⟩))
theorem ic.on(B:ic h D bs q l cl xs)(f:Fr No h h'):ic h' D bs q l cl xs:=B.frame f cb
theorem ic.mono(B:ic h D bs q l cl xs)(hd: ∀y,D y->D' y):ic h D' bs q l cl xs:=
 ⟨B.eq,B.len,B.row,λe y c=>hd y (B.own e y c),B.cap,λx a=>(B.ok x a).mono hd⟩
theorem ic.get(B:ic h D bs q l cl xs){i:Nat}(d:i<bs.length): ∃(a:Addr)(x:BB),q=some a/\dI (a.add (i*5)) x.s.l 0 h/\x.b=bs[i]/\BV.ok h D ⟨x.p,x.c,x.b.data⟩/\xs[i]? =some x:=by
 have xl:=B.xl;have c:xs[i]? =some (xs[i]' ag):=aj _;obtain⟨a,rfl⟩:=B.row.some (by intro e;have:=bU List.length e;rw[eU xe 5 ud,bz]at this;omega);refine⟨a,_,rfl,B.row.gJ ud c,?_,B.ok _ (bn c),c⟩;have:=B.eq;subst this;rw[List.getElem_map]
theorem ic.take(B:ic h D bs q l cl xs){n:Nat}(o:n<=bs.length):ic h D (bs.take n) (cO q cl 0 5) (n - 0) (cl - 0) (xs.take n):=by
 have k:=B.cap;have m:=B.len;have d:=B.row.sub (cap:=cl) (l:=0) (u:=n) (sz:=5) (bG _) ag;rw[lO xe 5 ud,Nat.zero_mul,gv]at d;refine⟨by rw[List.map_take,B.eq],by rw[bB];omega,d,λe y j=>B.own (λf=>e (by rw[f,List.take_nil])) y ?_,ag,λx i=>B.ok x (List.mem_of_mem_take i)⟩;obtain⟨a,E,c⟩:=j;unfold cO at E;cases q with
 |none=>split at E<;>cases E
 |some A=>
  split at E
  .cases E;exact⟨_,rfl,c⟩
  .cases E;exact⟨_,rfl,c⟩
theorem Mt{k:Nat}(hk:R (.bool (alone k)) h):Cl 176 #[.U (k:Int)] h R:=by
 refine CT.walk ?_;unfold alone at hk;by_cases c1:k=1
 .rw[av (.inl c1)]at hk;rw[af (by simp only[cR];omega)];exact hk
 rw[ae (by simp only[cR];omega)];by_cases C:k=6
 .rw[av (.inr (.inl C))]at hk;rw[af (by simp only[cR];omega)];exact hk
 rw[ae (by simp only[cR];omega)];by_cases a:k=7
 .rw[av (.inr (.inr (.inl a)))]at hk;rw[af (by simp only[cR];omega)];exact hk
 rw[ae (by simp only[cR];omega)];have:((k:Int)==10)=decide (k=1\/k=6\/k=7\/k=10):=by
  by_cases c:k=10
  .rw[av (.inr (.inr (.inr c)))];simp only[cR];omega
  .rw[az ag];simp only[db,en];omega
 rw[this];exact hk
theorem Qw(U:ke V H)(u:Fr No H h)(mx:oT.Mx h)(B:ic h D bs q l cl xs)(hl:bs.length<=1000000)(hd: ∀b∈bs,b.data.length<=80000)(hk: gL h R (.bool (As V bs))):Cl 124 #[.slice q l cl] h R:=by
 have el:=B.len;subst el;refine GD.walk ?_;have c:As V bs=As V bs:=rfl;conv at c=>rhs;unfold As
 refine⟨λok g=>ok=true/\g=h/\bs.length<=8/\As V bs=Ge V [] bs,λ_ _=>0,aG.of λJ z=> ?_,?_⟩
 .have no:As V bs=false->J true h:=λe=>by
   subst z;dsimp only;rw[af rfl];have:=hk h (Fr.refl _ _);rw[e]at this;exact this
  by_cases c0:bs.length=0
  .rw[af (by rw[c0];decide)];have:bs= []:=List.length_eq_zero_iff.1 c0;exact no (by rw[c,this];rfl)
  obtain⟨n,hn⟩: ∃n,bs.length=n+1:=⟨bs.length - 1,ag⟩;have ew:IntKind.wrap .i64 (((bs.length:Nat):Int) - 1)=(n:Int):=by rw[hn,bD ag ag];omega
  have i':bs.getLast? =some bs[n]:=by rw[List.getLast?_eq_getElem?,show bs.length - 1=n by omega,aj ag]
  rw[i']at c;dsimp only at c;rw[ew,dc];by_cases C:bs.length<=8
  case neg=>rw[af (by simp only[aV];omega)];exact no (by rw[c,az C];rfl)
  rw[dc];rw[av C,dL]at c;obtain⟨a,x,rfl,o,ex,_⟩:=B.get (i:=n) ag;have a':bg h (a.add (n*5))=some (.U ((bs[n].ty:Nat):Int)):=by rw[<-ex];exact o.1
  have b':bg h ((a.add (n*5)).add 1)=some (.U ((bs[n].nr:Nat):Int)):=by rw[<-ex];exact o.2.1
  refine⟨ag,aw.2 ⟨_,by rw[aI];exact a',?_⟩⟩;by_cases c1:bs[n].ty=1
  case neg=>rw[af (by simp only[cU,en];omega)];exact no (by rw[c,az (λe=>c1 e.1)];rfl)
  rw[ae (by simp only[cU,en];omega)];refine⟨ag,aw.2 ⟨_,by rw[aI];exact b',?_⟩⟩;by_cases c2:bs[n].nr=1
  case neg=>rw[show(((bs[n].nr:Nat):Int) !=1)=true by simp only[cU,en];omega];exact no (by rw[c,az (λe=>c2 e.2)];rfl)
  rw[show(((bs[n].nr:Nat):Int) !=1)=false by simp only[fO];omega];subst z;dsimp only;rw[dc];exact⟨rfl,rfl,C,by rw[c,av ⟨c1,c2⟩];rfl⟩
 rintro _ h ⟨rfl,rfl,l8,L⟩;clear c;refine aG.of λJ1 A=> ?_
 refine⟨λok t g=> ∃i:Nat,t=(i:Int)/\i<=bs.length/\ok=true/\Fr No h g/\Ge V [] bs=Ge V (bs.take i) (bs.drop i),λ_ t _=>bs.length - t.toNat,⟨0,rfl,bG _,rfl,Fr.refl _ _,rfl⟩,?_⟩;rintro _ _ g ⟨i,rfl,hi,rfl,f,d⟩;by_cases m:i<bs.length
 case neg=>
  rw[ae (λe=>m (bY (aU e)))];subst A;have:=hk g f;rw[L,d,dC ag]at this;exact this
 rw[fK];have Q:=B.on f;obtain⟨a,x,rfl,o,ex,O,_⟩:=Q.get m;rw[cI m]at d;have lx:x.b.data.length<=80000:=by rw[ex];exact hd _ (dA m)
 refine⟨ag,aw.2 (ax.ko (x:=x.s) (by rw[aI];exact o) (ax.ft (x:=x.s) λb h6 eb I f6=>ax.ff I (vE x.b U (u.tt (f.tt f6)) (mx.on (f.tt f6)) (O.frame f6 cb).row O.cap lx λh7 f7=>⟨_,rfl,⟨ag,bY B.cap⟩,?_⟩)))⟩;have w:=f6.tt f7;have e':=f7.get I id;have z7:=f.tt w;rw[ex];have W: ∀r,Ge V (bs.take i) (bs[i]::r)=(iR V bs[i] && (bs.take i).all (apart bs[i]) && Ge V (bs.take i++ [bs[i]]) r):=λr=>rfl
 rw[W]at d;refine⟨λok t G=> ∃k:Nat,t=(k:Int)/\k<=i/\ok=(iR V bs[i] && (bs.take k).all (apart bs[i]))/\Fr No h7 G,λ_ t _=>i - t.toNat,⟨0,rfl,bG _,bP,Fr.refl _ _⟩,?_⟩;rintro ok _ G ⟨k,rfl,k',M,p⟩;have Y:((Int.toNat (i:Int)) - 0:Nat)=i:=ag
 rw[Y];have F:=f.tt (w.tt p);by_cases g':k<i
 case neg=>
  rw[ae (λe=>g' (bY (aU e)))];have:k=i:=ag
  subst this;rw[<-M]at d;cases ok with
  |false=>
   rw[fK];subst A;have:=hk G F;rw[L,d]at this;exact this
  |true=>
   rw[dc,bD (n:=(k:Int)+1) ag ag];refine⟨⟨k+1,ag,ag,rfl,F,?_⟩,by show bs.length - Int.toNat ((k:Int)+1)<bs.length - Int.toNat (k:Int);omega⟩;rw[d,dL,bQ,aj m];rfl
 rw[fK];refine aG.of λJ2 c'=> ?_
 have P:=(B.on F).take (n:=i) ag;have lt:(bs.take i).length=i:=by rw[bB];omega
 obtain⟨T,y,X,f',E,l',_⟩:=P.get (i:=k) ag;rw[List.getElem_take]at E;have lk:k<bs.length:=ag
 have Z:bs.take (k+1)=bs.take k++ [bs[k]]:=by rw[bQ,aj lk];rfl
 refine⟨ag,bK.2 ⟨T,X,ax.ko (x:=y.s) (by rw[aI];exact f') (ax.ft (x:=y.s) λb1 j j' K f11=>aG.of λS d'=> ?_)⟩⟩;have v:=(p.tt f11).get e' id;have go: ∀r s,Fr No j s->r=(ok && apart bs[i] bs[k])->S r s:=by
  intro r s f2 er;subst d' c';dsimp only;rw[bD (n:=(k:Int)+1) ag ag];refine⟨⟨k+1,ag,ag,?_,p.tt (f11.tt f2)⟩,by show i - Int.toNat ((k:Int)+1)<i - Int.toNat (k:Int);omega⟩;rw[er,M,Z,List.all_append,<-Bool.and_assoc];simp
 cases N:ok with
 |false=>rw[dc];exact go false j (Fr.refl _ _) (by rw[N];rfl)
 |true=>
 rw[af rfl];refine⟨_,ar K,_,ar v,?_⟩;rw[N]at go;have n1:(((y.s.f1:Int) !=x.s.f1)=decide (bs[k].nr≠bs[i].nr)):=by
  show((y.b.nr:Int) !=(x.b.nr:Int))=_;rw[E,ex];by_cases e:bs[k].nr=bs[i].nr
  .rw[az (λq=>q e),e];simp
  .rw[av e];simp only[cU,en];omega
 have n2:(((y.s.f0:Int) !=x.s.f0)=decide (bs[k].ty≠bs[i].ty)):=by
  show((y.b.ty:Int) !=(x.b.ty:Int))=_;rw[E,ex];by_cases e:bs[k].ty=bs[i].ty
  .rw[az (λq=>q e),e];simp
  .rw[av e];simp only[cU,en];omega
 rw[n1];by_cases c1:bs[k].nr≠bs[i].nr
 case neg=>rw[ae (cA c1)];exact go false j (Fr.refl _ _) (by unfold apart;rw[az c1];rfl)
 rw[af (av c1)];refine⟨_,ar K,_,ar v,?_⟩;rw[n2];by_cases c2:bs[k].ty≠bs[i].ty
 .rw[af (av c2)];exact go true j (Fr.refl _ _) (by unfold apart;rw[av c1,av c2];rfl)
 rw[ae (cA c2)];refine⟨_,ar v,?_⟩;rw[show x.s.f0=((bs[i].ty:Nat):Int) by rw[<-ex]];exact Mt ⟨_,rfl,go _ j (Fr.refl _ _) (by unfold apart;rw[av c1,az c2];rfl)⟩
theorem EF(t:Tr):(yP V t).length<=room t:=by
 unfold yP;split
 .exact jV t
 .exact bG _
theorem Ia{t:Tr}{x:CV}(U:ke V H)(u:Fr No H h)(T:gl h D t x)(d:room t<=1000000)(hk: ∀h' p c (q:Int),fJ h' p (yP V t).length c 1 (bc (yP V t))->(∀y,aR p y->h.size<=y)->Fr No h h'->R (.tuple #[.slice p (yP V t).length c,.I q]) h'):Cl 178 #[x.agg] h R:=by
 unfold yP at hk;refine vz U u T d (λe h' p c o n f=> ?_) (λe h' f=> ?_)
 .rw[af e]at hk;exact hk h' p c 0 o n f
 .rw[e,dc]at hk;exact hk h' none 0 3 (.nil rfl rfl rfl rfl) (λy ⟨a,e,_⟩=>by cases e) f
abbrev kJ.s(b:kJ)(q:cy)(cl:Nat):aq.S:=⟨b.p.fl,b.p.sum,b.p.dest.ky,b.p.dest.node,b.p.dest.gk,b.p.dest.host,b.p.dest.jB,b.p.rep.ky,b.p.rep.node,b.p.rep.gk,b.p.rep.host,b.p.rep.jB,b.p.id.e.ky,b.p.id.e.node,b.p.id.e.gk,b.p.id.e.host,b.p.id.e.jB,b.p.id.tm,b.p.id.sq,b.p.dN,q,b.bl.length,cl⟩
variable {b:kJ}
theorem SG{b:Nat}{x:kJ}{K:aC.S->Prop}(a:aq.fi h b (x.s q cl))(hk:K x.p.s):aC.cv h (AA b 0) K:=
 ⟨_,ar a,_,ar a,_,ar a,_,ar a,_,ar a,_,ar a,_,ar a,_,ar a,_,ar a,_,ar a,_,ar a,_,ar a,_,ar a,_,ar a,_,ar a,_,ar a,_,ar a,_,ar a,_,ar a,_,ar a,hk⟩
theorem Mu(b':b.p.wf)(U:ke V H)(u:Fr No H h)(mx:oT.Mx h)(B:ic h D b.bl q b.bl.length cl xs)(hl:b.bl.length<=8)(hd: ∀E∈b.bl,E.data.length<=80000)(Z: ∀out,pZ V b=some out->out.length<=5000->∀h' p c,fJ h' p out.length c 1 (bc out)->(∀y,aR p y->h.size<=y)->Fr No h h'->R (.tuple #[.slice p out.length c,.bool true]) h')(K:pZ V b=none->gL h R (.tuple #[.Z,.bool false])):Cl 125 #[(b.s q cl).agg] h R:=by
 refine CU.walk (aq.cM λb1 h1 e' v f1=>SG v (Mq b.p b' U (u.tt f1) λh2 z qz z0 z1 f2=>aa.ex z.s ⟨_,rfl,aa.ft (x:=z.s) λb2 M f' Q f4=> ?_⟩));have F:=f1.tt (f2.tt f4);have k:pZ V b=pZ V b:=rfl;conv at k=>rhs;unfold pZ
 cases m:mJ V b.p with
 |error e=>rw[af (cA (z1 e m))];exact K (by rw[k,m]) M F
 |ok t=>
 obtain⟨rfl,tz⟩:=z0 t m;rw[m]at k;dsimp only at k;rw[dc];have rt:=za m;have le:=EF (V:=V) t;refine aa.ff Q (Ia U (u.tt F) (tz.on f4) ag λh5 p5 c5 q5 o5 n5 f5=>⟨_,_,_,_,rfl,_,_,_,ar ((f2.tt (f4.tt f5)).get v id),?_⟩);have C:=F.tt f5;have z4:=F.1;refine⟨λp l c t g=> ∃(i:Nat)(out:cD),t=(i:Int)/\i<=b.bl.length/\l=out.length/\fJ g p out.length c 1 (bc out)/\(∀y,aR p y->h.size<=y)/\Fr No h g/\pZ V b=D7 V (b.bl.drop i) out/\out.length<=1100+400*i,λ_ _ _ t _=>b.bl.length - t.toNat,⟨0,yP V t,rfl,bG _,rfl,o5,λy r=>bY (n5 y r),C,k,ag⟩,?_⟩;rintro p _ c _ g ⟨i,out,rfl,hi,rfl,A,N,f,d,l'⟩;have lb:(b.s q cl).Gb=b.bl.length:=rfl;by_cases o:i<b.bl.length
 case neg=>
  rw[ae (λe=>o (bY (aU e)))];rw[dC ag]at d;exact Z out d ag g p c A N f
 rw[fK];obtain⟨a,x,rfl,X,ex,w,_⟩:=(B.on f).get o;have lx:x.b.data.length<=80000:=by rw[ex];exact hd _ (dA o)
 refine⟨ag,aw.2 (ax.ko (x:=x.s) (by rw[aI];exact X) (ax.ft (x:=x.s) λb3 h8 g' S f8=>ax.ff S (H2 x.b U (u.tt (f.tt f8)) (mx.on (f.tt f8)) (w.frame f8 cb).row w.cap lx λh9 y qy y0 Y f9=>aa.ex y.s ⟨_,rfl,aa.ft (x:=y.s) λb4 J i' W f11=> ?_⟩)))⟩;have s:=f.tt (f8.tt (f9.tt f11));rw[ex]at y0 Y;rw[cI o]at d;have P: ∀L,D7 V (b.bl[i]::L) out=(match rj V b.bl[i]with| .error _=>none| .ok t=>D7 V L (out++yP V t)):=λL=>rfl
 rw[P]at d;cases j:rj V b.bl[i]with
 |error e=>rw[af (by rw[Y e j];simpa using ED j)];exact K (by rw[d,j]) J s
 |ok T=>
 obtain⟨rfl,ty⟩:=y0 T j;rw[j]at d;dsimp only at d;rw[dc];have r':=BA j;have m':=EF (V:=V) T;refine aa.ff W (Ia U (u.tt s) (ty.u.on f11) ag λj' o' d' q' a' n' f12=>⟨_,_,_,_,rfl,?_⟩);have G:=f8.tt (f9.tt (f11.tt f12));refine dT kK.tU kK.uU (A.frame G cb) a'.iw (by rw[jT,ct]) (pR _) ag ag λp' c' k' O _ f13 I=>⟨_,_,_,rfl,?_⟩
 rw[bD (n:=(i:Int)+1) ag ag];rw[<-jM,<-aA]at O;have zG:=(f.tt G).1;refine⟨⟨i+1,out++yP V T,ag,ag,by rw[aA],O,λy r=> ?_,(f.tt G).fresh f13 N,d,by rw[aA];omega⟩,by show b.bl.length - Int.toNat ((i:Int)+1)<b.bl.length - Int.toNat (i:Int);omega⟩;rcases I y r with a|a
 .exact N y a
 .omega
theorem xV(w:b.p.wf)(U:ke V H)(u:Fr No H h)(mx:oT.Mx h)(B:ic h D b.bl q b.bl.length cl xs)(L:b.bl.length<=1000000)(hd: ∀x∈b.bl,x.data.length<=80000)(Q: ∀out,iS V b=some out->out.length<=600->∀h' p c,fJ h' p out.length c 1 (bc out)->(∀y,aR p y->h.size<=y)->Fr No h h'->R (.tuple #[.slice p out.length c,.I 0]) h')(K:iS V b=none->gL h R (.tuple #[.Z,.I 3])):Cl 58 #[(b.s q cl).agg] h R:=by
 have f:iS V b=iS V b:=rfl;conv at f=>rhs;unfold iS
 refine CX.walk (aq.cM λb1 h1 a' s f1=>⟨_,_,_,ar s,Qw U (u.tt f1) (mx.on f1) (B.on f1) L hd λA f2=>⟨_,rfl,?_⟩⟩);have F:=f1.tt f2;cases i:As V b.bl with
 |false=>rw[fK];exact K (by rw[f,i];rfl) A F
 |true=>
 rw[i,af rfl]at f;rw[dc];have S:b.bl.length<=8:=by
  unfold As at i;split at i
  .cases i
  .simp only[aT,aV]at i;exact i.1.1
 refine aq.ff (f2.get s id) (Mu w U (u.tt F) (mx.on F) (B.on F) S hd (λout P lo d p c X nw f3=>⟨_,_,_,_,rfl,aG.of λJ m=> ?_⟩) (λM d f3=>⟨_,_,_,_,rfl,aG.of λJ m=> ?_⟩))
 case refine_2=>
  rw[fK];subst m;dsimp only;rw[af rfl];exact K (by rw[f,M]) d (F.tt f3)
 rw[P]at f;dsimp only at f;rw[dc];subst m;dsimp only;by_cases c1:out.length<=598
 case neg=>rw[af (by simp only[aV];omega)];exact K (by rw[f,ae c1]) d (F.tt f3)
 rw[dc];rw[af c1]at f;have r:=F.tt f3;have z3:=r.1;refine cF ?_;have f5:Fr No d (d.push (.cells #[.int .u8 159] 5)):=Fr.push _ _;have T:fJ (d.push (.cells #[.int .u8 159] 5)) (Sa d.size 0) 1 1 1 (bc [159]):=by
  exact .row d.size 0 #[.int .u8 159] 5 rfl bV (bk _) bP rfl (λj v n=>by
   match j,n with
   |0,n=>exact n)
 refine dT kK.tU kK.uU T ((X.frame f5 cb).iw) (by rw[jT,ct]) (pR _) ag ag λY c6 k W _ f6 G=>⟨_,_,_,rfl,cF ?_⟩
 have f7:Fr No k (k.push (.cells #[.int .u8 255] 5)):=Fr.push _ _;have z5:=f5.1;have z6:=f6.1;have z7:=f7.1;refine dT kK.tU kK.uU (W.frame f7 cb) (q:=some (AA k.size 0)) (ds:=bc [255]) jl rfl (pR _) ag ag λZ C I O _ f8 z=>⟨_,_,_,rfl,?_⟩
 rw[<-jM,<-jM]at O;have el:1+out.length+1=(159::(out++ [255])).length:=by simp;omega
 rw[el]at O⊢;have N: ∀y,aR Y y->d.size<=y:=λy o=>by
  rcases G y o with⟨a,e,E⟩|a
  .cases e;rw[<-E];exact bk _
  .omega
 have t:Fr No d k:=f5.fresh f6 (λy ⟨a,e,E⟩=>by cases e;rw[<-E];exact bk _);refine Q _ f (by simp;omega) I Z C O (λy o=> ?_) (r.tt ((t.tt f7).fresh f8 N));rcases z y o with a|a
 .have:=N y a;omega
 .omega
theorem qR(w:b.p.wf)(U:ke V H)(u:Fr No H h)(mx:oT.Mx h)(B:ic h D b.bl q b.bl.length cl xs)(f:b.bl.length<=1000000)(hd: ∀d∈b.bl,d.data.length<=80000)(hk: gL h R (.bool (iS V b).isSome)):Cl 196 #[(b.s q cl).agg] h R:=by
 refine CW.walk (aq.cM λb1 k E e f1=>aq.ff e (xV w U (u.tt f1) (mx.on f1) (B.on f1) f hd (λout j L a p c o n f2=>⟨_,_,_,_,rfl,?_⟩) (λi a f2=>⟨_,_,_,_,rfl,?_⟩)))
 .have:=hk a (f1.tt f2);rw[j]at this;exact this
 .have:=hk a (f1.tt f2);rw[i]at this;exact this
theorem zp {b : kJ} {q : Option Addr} {cl : Nat} {xs : List BB} (B : ic h D b.bl q b.bl.length cl xs) (hl : b.bl.length ≤ 1000000) (hd : ∀ b' ∈ b.bl, b'.data.length ≤ 80000)
    (hk : ∀ h' p c, fJ h' p (qb b).length c 1 (bc (qb b)) → (∀ y, aR p y → h.size ≤ y) → Fr No h h' → R (.slice p (qb b).length c) h') : Cl 159 #[(b.s q cl).agg] h R := by
  have lb : (b.s q cl).Gb = b.bl.length := rfl
  refine zj.walk (aq.cM λb1 h1 SD Jv f1 => ⟨_, _, _, cH Jv rfl, ?_⟩)
  by_cases c0 : b.bl.length = 0
  · rw [if_pos (by simp only [beq_iff_eq]; omega)]
    have e0 : b.bl = [] := List.length_eq_zero_iff.1 c0
    have : qb b = [] := by unfold qb; rw [e0]; rfl
    rw [this] at hk
    exact hk h1 none 0 (.nil rfl rfl rfl rfl) (λy ⟨a, e, _⟩ => by cases e) f1
  rw [if_neg (by simp only [beq_iff_eq]; omega)]
  obtain ⟨n, hn⟩ : ∃ n, b.bl.length = n + 1 := ⟨b.bl.length - 1, by omega⟩
  have ew : IntKind.wrap .i64 (((b.bl.length : Nat) : Int) - 1) = (n : Int) := by rw [hn, bD (by omega) (by omega)]; omega
  have PL : b.bl.getLast? = some b.bl[n] := by rw [List.getLast?_eq_getElem?, show b.bl.length - 1 = n by omega, List.getElem?_eq_getElem (by omega)]
  have ep : qb b = b.bl[n].data := by unfold qb; rw [PL]
  refine ⟨_, _, _, cH Jv rfl, _, _, _, cH Jv rfl, ?_⟩
  rw [lb, ew]
  obtain ⟨a, x, rfl, hh, ex, Vs, _⟩ := (B.on f1).get (i := n) (by omega)
  refine ⟨⟨by omega, by omega⟩, aw.2 ⟨_, _, _, by rw [Int.toNat_natCast]; exact hh.2.2.2.2.1, kK.gF Vs.row rfl (by have := hd _ (List.getElem_mem (show n < b.bl.length by omega)); rw [← ex] at this; show x.b.data.length ≤ _; omega) λp c h2 o f2 n2 => ⟨_, _, _, rfl, ?_⟩⟩⟩
  rw [ep, ← ex] at hk
  exact hk h2 p c o (λy hy => by have := n2 y hy; have := f1.1; omega) (f1.tt f2)

end Bn
end
section
namespace Bn
open Cb
open iW (Ev cV kz)
variable {V:cD→Bool} {h H h' g g0:ai} {R:fp} {D':Nat→Prop}
variable {b cl bb l:Nat} {q:cy} {p:Prim} {bs:List lh} {xs:List BB}
theorem tK:oy Tryz.prog 127 201 5 56 (.agg #[.U 0,.U 0,.U 0,.I 0,.Z]):=⟨dj,dj,rfl⟩
theorem uK:Tryz.prog.underlying 127=some (.slice 201):=dj
theorem Mv{x:kJ}{K:ai->Prop}(d:aq.fi h b (x.s q cl))(hk: ∀h',aq.fi h' b (kJ.s ⟨p,x.bl⟩ q cl)->Fr (λy=>y=b) h h'->K h'):aC.cX h (AA b 0) p.s K:=
 (show dD (AA b 0) p.s.l 0 h K from kk (off:=0) (ws:=(kJ.s ⟨p,x.bl⟩ q cl).l) d (by show 0+20<=21;omega) rfl rfl λa d1 d2 d3=>hk a d1 (Fr.of_eq d2 λc e=>d3 c e))
theorem zq{y x:aq.S}{K:aq.S->ai->Prop}(a:aq.fi h b y)(hk: ∀h',Fr (λy=>y=b) h h'->K x h'):
  aq.cX h (AA b 0) x λg=>aq.cv g (AA b 0) λr=>K r g:=
 aq.gy (x:=x) a λg d1 f _=>aq.ff d1 (hk g f)
structure Bc (g0 g:ai) (bb:Nat) (p:Prim) (bs:List lh) (xs:List BB) (q:cy) (cl:Nat):Prop where
 cT:aq.fi g bb (kJ.s ⟨p,bs⟩ q cl)
 own:fJ g q xs.length cl 5 (xs.flatMap xe)
 ge: ∀y,aR q y->g0.size<=y/\y≠bb
 eq:xs.map BB.b=bs
 ok: ∀x∈xs,BV.ok g (λy=>(g0.size<=y/\y≠bb)/\¬aR q y) ⟨x.p,x.c,x.b.data⟩
 fr:Fr (λy=>y=bb) g0 g
theorem Bc.on(L:Bc g0 g bb p bs xs q cl)(f:Fr No g h'):Bc g0 h' bb p bs xs q cl:=
 ⟨f.get L.cT id,L.own.frame f cb,L.ge,L.eq,λx a=>(L.ok x a).frame f cb,L.fr.on f⟩
theorem Bc.len(L:Bc g0 g bb p bs xs q cl):xs.length=bs.length:=by rw[<-L.eq,aF]
theorem Bc.to(L:Bc g0 g bb p bs xs q cl):ic g (λy=>g0.size<=y/\y≠bb) bs q bs.length cl xs:=
 ⟨L.eq,rfl,L.own.iw,λ_=>L.ge,hY L.own.le L.len,λx a=>(L.ok x a).mono λy c=>c.1⟩
theorem Tn{x:BB}{Φ:ai->Prop}(L:Bc g0 g bb p bs xs q cl)(A:l=xs.length)(ll:xs.length<=1000000)(F:BV.ok g (λy=>(g0.size<=y/\y≠bb)/\¬aR q y) ⟨x.p,x.c,x.b.data⟩)(hk: ∀G X q' C,Bc g0 G bb p (bs++ [x.b]) X q' C->g.size<=G.size->Φ G):
  aQ g (.cells x.s.arr 201) λo s=>aW Tryz.prog (Builtin.append_ #[127,127] 127 #[.slice q l cl,.slice (Sa o 0) 1 1]) s λI u=>
   ∃m T t,I=.slice m T t/\aS u (AA bb 20) (.slice m T t) λv=>Φ v:=by
 subst A;refine ax.cM λJ M K k f7=> ?_
 have Z:=f7.1;have U:=L.fr.1;have Q:=aD k;have S:=aD L.cT;have P: ∀y,aR q y->y<g.size:=λy d=>L.own.dY d
 refine dT tK uK (L.own.frame f7 cb) (ds:=xe x) (.inr ⟨_,rfl,ax.yT (x:=x.s) k⟩) rfl (Ms x) ag ag λq' C r O _ f11 j=>⟨_,_,_,rfl,?_⟩
 have B:=f11.get (f7.get L.cT id) (λd=>(L.ge _ d).2 rfl);refine bw B (by show 20<21;omega) λf d1 d2 d3=> ?_
 have f12:Fr (λy=>y=bb) r f:=Fr.of_eq d2 (λc z=>d3 c z);have n: ∀y,aR q' y->g0.size<=y/\y≠bb:=λy d=>by
  rcases j y d with a|a
  .exact L.ge y a
  .omega
 have E:xs.flatMap xe++xe x=(xs++ [x]).flatMap xe:=by rw[da,List.flatMap_singleton]
 have el:(bs++ [x.b]).length=xs.length+1:=by rw[aA,L.len];rfl
 refine hk f (xs++ [x]) q' C ⟨?_,?_,n,?_,?_,?_⟩ ?_
 .unfold aq.fi kJ.s;rw[el];exact d1
 .rw[aA,<-E];exact O.frame f12 (λy d e=>bY (n y d))
 .rw[aZ,L.eq];rfl
 .intro y d;have key: ∀w:BB,BV.ok g (λy=>(g0.size<=y/\y≠bb)/\¬aR q y) ⟨w.p,w.c,w.b.data⟩->BV.ok f (λy=>(g0.size<=y/\y≠bb)/\¬aR q' y) ⟨w.p,w.c,w.b.data⟩:=λw D=>by
   have o1:=((D9 D).frame f7 cb).frame f11 (λy d i=>d.1.2 i);have o2:=o1.mono (D':=λy=>(g0.size<=y/\y≠bb)/\¬aR q' y) (λy d=>⟨d.1.1,λi=>by
    rcases j y i with a|a
    .exact d.1.2 a
    .have:=d.2;omega⟩)
   exact o2.frame f12 (λy d e=>ag)
  rcases bM.1 d with a|a
  .exact key y (L.ok y a)
  .rw[bN.1 a];exact key x F
 .exact((L.fr.on f7).trans f11 (S'':=λy=>y=bb) cb (λx N d=>bY (L.ge x d))).trans f12 cb cb
 .have:=f11.1;omega
theorem Mw{t:Tr}{b:lh}(h:vu V t=.ok b):b.data.length<=200:=by
 unfold vu at h;split at h
 .cases h
 .split at h
  .split at h
   .rename_i a;split at h
    .cases h;unfold rj at a;split at a
     .rename_i c;exact(vF c).2.2.1
     .cases a
    .cases h
   .cases h
  .cases h
theorem My{b:kJ}(h:(iS V b).isSome=true):b.bl.length<=8/\b.bl≠ []:=by
 unfold iS at h;split at h
 .rename_i a;unfold As at a;split at a
  .cases a
  .rename_i c;simp only[aT,aV]at a;exact⟨a.1.1,λe=>by rw[e]at c;cases c⟩
 .cases h
def kJ.zs:aq.S:=.z
theorem xW{bs:cD}{p:cy}{c:Nat}(U:ke V H)(u:Fr No H h)(mx:oT.Mx h)(row:Row h p (bc bs))(hl:l=bs.length)(cap:bs.length<=c)(k1: ∀b,jG V bs=.ok b->b.p.wf->(∀m∈b.bl,m.data.length<=200)->b.bl.length<=8->∀h' q cl xs,ic h' (λy=>h.size<=y) b.bl q b.bl.length cl xs->Fr No h h'->R (.tuple #[(b.s q cl).agg,.I 0]) h')(k2: ∀e,jG V bs=.error e->e≠0->gL h R (.tuple #[aq.S.z.agg,.I e])):Cl 158 #[.slice p l c] h R:=by
 subst hl;have j:jG V bs=jG V bs:=rfl;conv at j=>rhs;unfold jG
 refine EE.walk (aq.cM λb J eb M f1=> ?_);have zb:=aD M;have z1:=f1.1;have no: ∀g e,Fr No J g->jG V bs=.error e->e≠0->aq.cX g (AA b 0) .z λG=>aq.cv G (AA b 0) λr=>R (.tuple #[r.agg,.I e]) G:=λg e fg d k=>
  zq (fg.get M id) λG f=>k2 e d k G ((f1.tt fg).fresh f (λy e=>ag))
 by_cases c0:bs.length<=1200
 case neg=>rw[af (by simp only[aV];omega)];exact no J 2 (Fr.refl _ _) (by rw[j,ae c0]) di
 rw[dc];rw[af c0]at j;refine tZ (U.mono (u.tt f1)) (row.frame f1 cb) rfl cap ag (λh3 t x nx w tx f3=>aa.ex x.s ⟨_,_,rfl,aa.ft (x:=x.s) λb1 o k' v f5=> ?_⟩) (λh3 e d f3=>aa.ex zv.s ⟨_,_,rfl,aa.ft (x:=zv.s) λb1 o k' v f5=> ?_⟩)
 case refine_2=>
  rw[af (cA (km d))];exact no o e (f3.tt f5) (by rw[j,d]) (km d)
 rw[w]at j;dsimp only at j;obtain⟨rt,C'⟩:=pW w;rw[dc];have s:=f1.tt (f3.tt f5);obtain⟨xk,xn,xb,xl,xv,ys,L,E⟩:=gl.kn (tx.u.on f5);have rl:=jX (t:=t);have ln:=E.len;refine aG.of λf' hJ=> ?_
 have bad: ¬(nx=bs.length/\t.k=4/\2<=t.l.length/\t.l.length<=9)->f' true o:=λk=>by
  subst hJ;dsimp only;rw[af rfl];exact no o 3 (f3.tt f5) (by rw[j,ae k]) di
 have sl:x.s.oS=t.l.length:=xl;by_cases c1:nx=bs.length
 case neg=>rw[af (by simp only[cU,en];omega)];exact bad (λe=>c1 e.1)
 rw[ae (by simp only[cU,en];omega)];refine⟨_,ar v,?_⟩;rw[show x.s.f0=t.k from xk];by_cases c2:t.k=4
 case neg=>rw[af (cA c2)];exact bad (λe=>c2 e.2.1)
 rw[ae (cA c2)];refine⟨_,_,_,ar v,?_⟩;by_cases Y:2<=t.l.length
 case neg=>rw[af (by simp only[aV];omega)];exact bad (λe=>Y e.2.2.1)
 rw[dc];refine⟨_,_,_,ar v,?_⟩;by_cases Z:t.l.length<=9
 case neg=>rw[show decide ((x.s.oS:Int)>9)=true by simp only[aV];omega];exact bad (λe=>Z e.2.2.2)
 rw[show decide ((x.s.oS:Int)>9)=false by simp only[eN];omega];clear bad;rw[af ⟨c1,c2,Y,Z⟩]at j;subst hJ;try dsimp only
 rw[dc];have z5:=s.1;have F':=(f3.tt f5).1;refine aq.cM λb2 h9 y' O f9=> ?_
 have z9:=f9.1;have G':=aD O;obtain⟨a0,y0,i',u',w',_⟩:=elem (L.frame f9 cb) (E.on f9) (i:=0) ag;have r0:=ir (ts:=t.l) (i:=0) ag;have X:=s.tt f9;refine⟨_,_,_,ar (f9.get v id),ag,bK.2 ⟨a0,i',aa.ko (x:=y0.s) u' ?_⟩⟩;refine Mr U (u.tt X) (mx.on X) w' ag (λpr hp wp o' f10=>aC.ex pr.s ⟨_,rfl,Mv (x:=⟨Prim.zero, []⟩) (p:=pr) (q:=none) (cl:=0) (f10.get O id) λK d11 f11=> ?_⟩) (λe d k o' f10=>aC.ex Prim.zero.s ⟨_,rfl,Mv (x:=⟨Prim.zero, []⟩) (p:=Prim.zero) (q:=none) (cl:=0) (f10.get O id) λK d11 f11=> ?_⟩)
 case refine_2=>
  rw[af (cA k)];exact no K e ((f3.tt (f5.tt (f9.tt f10))).fresh f11 (λy e=>ag)) (by rw[j,d]) k
 rw[dc];rw[hp]at j;dsimp only at j;have e':Fr No o K:=(f9.tt f10).fresh f11 (λy e=>ag);refine⟨_,_,_,ar (e'.get v id),ag,?_⟩;have e1:Int.toNat 1=1:=rfl;rw[e1,sl];refine⟨λT g=> ∃(i:Nat)(out:List lh)(xs:List BB)(q:cy)(cl:Nat),T=(i:Int)/\i+1<=t.l.length/\out.length=i/\Bc o g b2 pr out xs q cl/\(∀m∈out,m.data.length<=200)/\jG V bs=(match wQ V (t.l.drop (i+1)) out with| .error e=> .error e| .ok l=>if(iS V ⟨pr,l⟩).isSome=true then .ok ⟨pr,l⟩else .error 3),λT _=>t.l.length - 1 - T.toNat,⟨0, [], [],none,0,rfl,ag,rfl,⟨d11,.nil rfl rfl rfl rfl,(λy ⟨a,e,_⟩=>by cases e),rfl,(λx Q=>by cases Q),(f9.tt f10).mono (λ_ _=>False.elim)|>.tt f11⟩,(λx Q=>by cases Q),j⟩,?_⟩;rintro _ g ⟨i,out,xs,q,cl,rfl,hi,ho,B,hd,d⟩;have F:Fr No o g:=(Fr.refl _ _).fresh B.fr (λy e=>ag);have z:Fr No J g:=f3.tt (f5.tt F);by_cases C:i+1<t.l.length
 case neg=>
  rw[ae (λe=>C (bY (aU e)))];rw[dC ag]at d;have d:jG V bs=if(iS V ⟨pr,out⟩).isSome=true then .ok ⟨pr,out⟩else .error 3:=d
  refine aq.ff B.cT (qR (b:=⟨pr,out⟩) wp U (u.tt (s.tt F)) (mx.on (s.tt F)) B.to (by show out.length<=_;omega) (λm N=>bY (hd m N)) λr' f23=>⟨_,rfl,?_⟩);cases P:(iS V ⟨pr,out⟩).isSome with
  |false=>
   rw[fK];exact no r' 3 (z.tt f23) (by rw[d,P];rfl) di
  |true=>
   rw[P,af rfl]at d;rw[dc];refine aq.ff (f23.get B.cT id) (zq ((z.tt f23).get M id) λG f=>k1 ⟨pr,out⟩ d wp hd (My P).1 G q cl xs ?_ ((f1.tt (z.tt f23)).fresh f (λy e=>ag)));exact((B.to.on f23).frame f (λy D e=>ag)).mono λy D=>ag
 rw[fK];have t':t.l.drop (i+1)=at_ t.l (i+1)::t.l.drop (i+1+1):=by
  rw[cI C];unfold at_;rw[aY,aj C];rfl
 rw[t']at d;have hB: ∀T l',wQ V (T::l') out=(match vu V T with| .error e=> .error e| .ok b=>wQ V l' (out++ [b])):=λ_ _=>rfl
 rw[hB]at d;have Lg:=L.frame F cb;have cc:x.ll<=x.cl:=L.cap;have L2:kX g (λ_=>True) (cO x.s.vq x.s.sW 1 4) (t.l.length - 1) (x.s.sW - 1) (ys.drop 1):=by
  have w:=Lg.row.sub (cap:=x.cl) (l:=1) (u:=t.l.length) (sz:=4) ag ag;rw[lO hN 4 gu,lP hN 4 gu,bJ ag]at w;exact⟨by rw[bF];omega,w,λ_ _ _=>trivial,by show _<=x.cl - 1;omega⟩
 have T2:Az g (t.l.drop 1) (ys.drop 1):=(E.on F).drop 1;obtain⟨a1,y1,j',v',d',_⟩:=elem L2 T2 (i:=i) (by rw[bF];omega);have ei:at_ (t.l.drop 1) i=at_ t.l (i+1):=by unfold at_;rw[aY,aY,eO,Nat.add_comm]
 rw[ei]at d';have r1:=ir (ts:=t.l) (i:=i+1) C;refine⟨ag,bK.2 ⟨a1,j',aa.ko (x:=y1.s) (by rw[aI];exact v') (aa.ft (x:=y1.s) λb3 A' z' s' f15=>aa.ff s' ?_)⟩⟩;have zg:=F.1;refine OI U (u.tt (s.tt (F.tt f15))) (mx.on (s.tt (F.tt f15))) (d'.on f15) ag (λA c' p' S I ov f16=>ax.ex (A.s S I) ⟨_,rfl,ax.ft (x:=A.s S I) λb4 a' m' b' f18=> ?_⟩) (λe hE k p' f16=>ax.ex .z ⟨_,rfl,ax.ft (x:=.z) λb4 a' m' b' f18=> ?_⟩)
 case refine_2=>
  rw[af (cA k)];exact no a' e (z.tt (f15.tt (f16.tt f18))) (by rw[d,hE]) k
 rw[dc];rw[c']at d;dsimp only at d;have n':=f15.tt (f16.tt f18);have W:=B.on n';have E':=f15.1;have nq: ∀y,aR q y->y<g.size:=λy D=>B.own.dY D
 have H':=aD B.cT;refine⟨_,_,_,ar W.cT,ax.ff b' (Tn (x:=⟨A,S,I⟩) W (by show out.length=_;exact B.len.symm) (bY B.len) ((ov.frame f18 cb).mono λy D=>⟨ag,λhq=>bY (nq y hq)⟩) λG x' q' g' B' I'=> ?_)⟩;rw[bD (n:=(i:Int)+1) ag ag];refine⟨⟨i+1,out++ [A],x',q',g',ag,ag,by rw[aA,ho];rfl,B',λm N=> ?_,d⟩,by show t.l.length - 1 - Int.toNat ((i:Int)+1)<t.l.length - 1 - Int.toNat (i:Int);omega⟩;rcases bM.1 N with a|a
 .exact hd m a
 .rw[bN.1 a];exact Mw c'

end Bn
end
section
variable {h:ai} {R:fp}
variable {x:aP.S}
theorem GG.walk{a:aP.S}{b:aP.S}(g:aQ h (.cells a.arr 56) λB e=>aQ e (.cells b.arr 56) λc H=>Hu H B 0 λt6=> ∃t8,Cc H c 0 (.U t8)/\if(t6==t8)then Hi H B 1 λt12=> ∃t14,Cc H c 1 (.I t14)/\if(t12==t14)then Hu H B 2 λt19=> ∃t21,Cc H c 2 (.U t21)/\if(t19==t21)then Hi H B 3 λt26=> ∃t28,Cc H c 3 (.I t28)/\if(t26==t28)then aE.cv H (AA B 4) λt33=>aE.cv H (AA c 4) λt35=>Cl 80 #[t33.agg,t35.agg] H λv d=> ∃t36,v=.bool t36/\if t36 then Hl d B 23 λi T t=>Hl d c 23 λl k j=>Cl 82 #[.slice i T t,.slice l k j] d λV f=> ∃t43,V=.bool t43/\R (.bool t43) f else R (.bool false) d else R (.bool false) H else R (.bool false) H else R (.bool false) H else R (.bool false) H):Cl 83 #[a.agg,b.agg] h R:=aO (lq ll) Tryz.func83 g
theorem JO.walk (A:aQ h (.cells x.arr 56) λb o=>aQ o (.cells aP.S.z.arr 56) λi a=>Hu a b 0 λt5=>Hi a b 1 λt7=>aQ a (.cells aP.S.z.arr 56) λB w=>aP.cX w (AA B 0) ⟨t5,t7,0,0,0,0,false,0,0,fU,fU,false,0,0,fU,fU,0,0,0,none,0,0,0,0,false,none,0,0⟩ λc=>Hi c b 1 λt10=>aG (λ(l:ai)=>aP.cv l (AA B 0) λt35=>aP.cX l (AA i 0) t35 λm=>aP.cv m (AA i 0) λC=>R (C.agg) m) (λJ=>aG (λ(t11:Bool) (H:ai)=>aG (λ(y:ai)=>J y) (λd=>if t11 then∃t15,Cc H b 2 (.U t15)/\aS H (AA B 2) (.U t15) λz=>d z else aG (λ(p:ai)=>d p) (λe=>if(t10==3)then∃t20,Cc H b 3 (.I t20)/\aS H (AA B 3) (.I t20) λq=>e q else aG (λ(r:ai)=>e r) (λf=>if(t10==4)then Hi H b 3 λt25=>aE.cv H (AA b 4) λt27=>aS H (AA B 3) (.I t25) λk=>Kp H k [(Sa b 4)]/\aE.cX k (AA B 4) t27 λs=>f s else aG (λ(u:ai)=>f u) (λg=>if(t10==5)then∃n T t,Cc H b 23 (.slice n T t)/\aS H (AA B 23) (.slice n T t) λv=>g v else g H))))) (λj=>if(t10==1)then j (t10==1) c else j (t10==2) c))):Cl 84 #[x.agg] h R:=aO (lq (lq (sq (lq (.join [] (bq (sq (lq (.join [(11,.one (.bool))] (cq lf lf))) (.join [] (cq lf (lq (.join [] (cq lf (lq (.join [] (cq (pK 8) (lq (.join [] (cq lf lf))))))))))))))) ll))) Tryz.func84 A
theorem xf.walk{n:Int}(H:if(decide (n≥1))then R (.bool (decide (n<=1099511627776))) h else R (.bool false) h):Cl 140 #[.I n] h R:=aO (lq ll) Tryz.func140 H
theorem EG.walk(g:aQ h (.cells x.arr 56) λb c=>Hi c b 1 λt4=>aG (λ(t5:Bool) (H:ai)=>if t5 then∃t9,Cc H b 2 (.U t9)/\if(decide (t9≥1))then∃t13,Cc H b 2 (.U t13)/\R (.bool (decide (t13<=2147483648))) H else R (.bool false) H else if(t4==3)then Hi H b 3 λt19=>Cl 140 #[.I t19] H λv e=> ∃t20,v=.bool t20/\R (.bool t20) e else if(t4==4)then Hi H b 3 λt24=>Cl 140 #[.I t24] H λV d=> ∃t25,V=.bool t25/\if t25 then aE.cv d (AA b 4) λt28=>Cl 29 #[t28.agg] d λj a=> ∃t29,j=.bool t29/\if t29 then∃t34,Cc a b 5 (.I t34)/\if(t34 !=11)then∃t40,Cc a b 5 (.I t40)/\R (.bool (t40 !=12)) a else R (.bool false) a else R (.bool false) a else R (.bool false) d else if(t4==5)then Hl H b 23 λi T t=>Cl 141 #[.slice i T t] H λk f=> ∃t47,k=.bool t47/\R (.bool t47) f else∃t49,Cc H b 1 (.I t49)/\if(t49==6)then R (.bool true) H else∃t53,Cc H b 1 (.I t53)/\if(t53==7)then R (.bool true) H else∃t58,Cc H b 1 (.I t58)/\R (.bool (t58==8)) H) (λJ=>if(t4==1)then J (t4==1) c else J (t4==2) c)):Cl 85 #[x.agg] h R:=aO (lq (sq (lq (bq (sq (lq (.join [(5,.one (.bool))] (cq lf lf))) (cq ll (lq (cq ll (lq (cq ll (lq (cq ll lf)))))))))) ll)) Tryz.func85 g
theorem EH.walk(e:aQ h (.cells x.arr 56) λb H=> ∃t4,Cc H b 0 (.U t4)/\if(decide (t4<=1099511627776))then aP.cv H (AA b 0) λt7=>aP.cv H (AA b 0) λt8=>Cl 84 #[t8.agg] H λv c=>aP.EX λt9=>v=t9.agg/\Kp H c [(Sa b 0),(Sa b 0)]/\Cl 83 #[t7.agg,t9.agg] c λV a=> ∃t10,V=.bool t10/\Kp c a [(Sa b 0)]/\if t10 then aP.cv a (AA b 0) λt13=>Cl 85 #[t13.agg] a λf d=> ∃t14,f=.bool t14/\Kp a d [(Sa b 0)]/\R (.bool t14) d else R (.bool false) a else R (.bool false) H):Cl 32 #[x.agg] h R:=aO (lq (sq (pK 14) lf)) Tryz.func32 e
theorem xg.walk{c:cy}{a B:Nat}(m:Cl 158 #[.slice c a B] h λv j=>aq.EX λg=> ∃i,v=.tuple #[g.agg,.I i]/\aQ j (.cells aq.S.z.arr 129) λb k=>aq.cX k (AA b 0) g λH=>if(i !=0)then R (.bool false) H else aq.cv H (AA b 0) λt14=>Cl 58 #[t14.agg] H λV d=> ∃e T t f,V=.tuple #[.slice e T t,.I f]/\if(f==0)then Cl 82 #[.slice c a B,.slice e T t] d λn l=> ∃t23,n=.bool t23/\R (.bool t23) l else R (.bool false) d):Cl 141 #[.slice c a B] h R:=aO (lq (lq (sq (lq (cq ll lf)) (lq ll)))) Tryz.func141 m

end
section
namespace EI
open Go.Proofs.YtlenamcfacpheaaGreatDoor.Ask (Rq jW qc Mf bq nB)
open Bn (jG iS qa kJ)
variable {V:cD→Bool} {h h' H g:ai} {R:fp} {p q P q':cy} {c d c' D:Nat}
variable {b:Nat} {K:ai->Prop}
theorem JP{bs:cD}{l:Nat}(U:Cb.ke V H)(u:Fr No H h)(mx:oT.Mx h)(row:Row h p (bc bs))(k:l=bs.length)(cap:bs.length<=c)(hk: gL h R (.bool (qa V bs))):Cl 141 #[.slice p l c] h R:=by
 subst k;unfold qa at hk;refine xg.walk (Bn.xW U u mx row rfl cap (λb n w hd k m q cl xs B f1=>aq.ex (b.s q cl) ⟨_,rfl,aq.ft (x:=b.s q cl) λb1 i E j f3=> ?_⟩) (λe o r m f1=>aq.ex .z ⟨_,rfl,aq.ft (x:=.z) λb1 i E j f3=> ?_⟩))
 case refine_2=>
  rw[o]at hk;rw[af (cA r)];exact hk i (f1.tt f3)
 rw[n]at hk;dsimp only at hk;rw[dc];have F:=f1.tt f3;refine aq.ff (x:=b.s q cl) j (Bn.xV w U (u.tt F) (mx.on F) (B.on f3) ag (λy s=>bY (hd y s)) (λout f L a t C O N f4=>⟨_,_,_,_,rfl,?_⟩) (λf a f4=>⟨_,_,_,_,rfl,?_⟩))
 .rw[fK];refine Cb.jH (row.frame (F.tt f4) cb) O.iw rfl rfl ⟨_,rfl,?_⟩;have e:decide (bs=out)=decide (iS V b=some bs):=by
   rw[f];by_cases e:bs=out
   .rw[av e,av (by rw[e])]
   .rw[az e,az (λq=>e (aX q).symm)]
  rw[e];exact hk a (F.tt f4)
 .rw[dc];have:=hk a (F.tt f4);rw[az (by rw[f];intro e;cases e)]at this;exact this
structure rq where
 now:Nat
 kind:Int
 token:Nat
 ses:Int
 jb:Rq
 data:cD
deriving DecidableEq
def Rq.none:Rq:=⟨0,0,.zero,.zero,0,0,0, [],0,0,false⟩
abbrev rq.s(x:rq)(p:cy)(c:Nat)(q:cy)(d:Nat):aP.S:=⟨x.now,x.kind,x.token,x.ses,x.jb.id,x.jb.kind,x.jb.ep.ky,x.jb.ep.node,x.jb.ep.gk,x.jb.ep.host,x.jb.ep.jB,x.jb.dest.ky,x.jb.dest.node,x.jb.dest.gk,x.jb.dest.host,x.jb.dest.jB,x.jb.j9,x.jb.num,x.jb.iz,p,x.jb.kO.length,c,x.jb.dN,x.jb.token,x.jb.on,q,x.data.length,d⟩
variable {x:rq}
def lA(x:rq):rq:=⟨x.now,x.kind,0,0,Rq.none, []⟩
def rB(x:rq):rq:=
 if x.kind=1\/x.kind=2 then { lA x with token:=x.token }
 else if x.kind=3 then { lA x with ses:=x.ses }
 else if x.kind=4 then { lA x with ses:=x.ses,jb:=x.jb }
 else if x.kind=5 then { lA x with data:=x.data }
 else lA x
def isS(n:Int):Bool:=decide (n≥1) && decide (n<=1099511627776)
def sD(V:cD->Bool)(x:rq):Bool:=
 if x.kind=1\/x.kind=2 then decide (x.token≥1) && decide (x.token<=2147483648)
 else if x.kind=3 then isS x.ses
 else if x.kind=4 then isS x.ses && jW x.jb && (x.jb.kind !=11) && (x.jb.kind !=12)
 else if x.kind=5 then qa V x.data
 else decide (x.kind=6\/x.kind=7\/x.kind=8)
def ue(V:cD->Bool)(x:rq):Bool:=decide (x.now<=1099511627776) && decide (x=rB x) && sD V x
theorem JQ{K:aE.S->Prop}(a:aP.fi h b (x.s p c q d))(hk:K (x.jb.s p c)):aE.cv h (AA b 4) K:=
 ⟨_,ar a,_,ar a,_,ar a,_,ar a,_,ar a,_,ar a,_,ar a,_,ar a,_,ar a,_,ar a,_,ar a,_,ar a,_,ar a,_,ar a,_,ar a,_,_,_,ar a,_,ar a,_,ar a,_,ar a,hk⟩
theorem To{r:Rq}(e:aP.fi h b (x.s p c q d))(hk: ∀h',aP.fi h' b (({ x with jb:=r } :rq).s P c' q d)->Fr (λy=>y=b) h h'->K h'):aE.cX h (AA b 4) (r.s P c') K:=
 (show dD (AA b 4) (r.s P c').l 0 h K from kk (off:=4) (ws:=(({ x with jb:=r } :rq).s P c' q d).l) e (by show 4+19<=24;omega) rfl rfl λa d1 d2 d3=>hk a d1 (Fr.of_eq d2 λc f=>d3 c f))
theorem C0{i:Nat}{y z:aP.S}{v:Value}(e:aP.fi h b y)(j:i<24)(k:y.arr.setIfInBounds i v=z.arr)(hk: ∀h',aP.fi h' b z->Fr (λy=>y=b) h h'->K h'):aS h (AA b i) v K:=
 bw e j λa d1 d2 d3=>hk a (by unfold aP.fi;rw[<-k];exact d1) (Fr.of_eq d2 λc f=>d3 c f)
theorem Mz(x y:rq)(z:Row h p (bc x.jb.kO))(A:Row h P (bc y.jb.kO))(t:Row h q (bc x.data))(u:Row h q' (bc y.data))(hk: gL h R (.bool (decide (x=y)))):Cl 83 #[(x.s p c q d).agg,(y.s P c' q' D).agg] h R:=by
 refine GG.walk (aP.cM λb G E w f1=>aP.cM λb1 r B f f2=> ?_);have i:=f2.get w id;have F:=f1.tt f2;have no: ∀g,Fr No h g->x≠y->R (.bool false) g:=λg v e=>by have:=hk g v;rw[az e]at this;exact this
 have I: ∀(a b:Int)(m n:Nat),a=m->b=n->m≠n->¬(a==b)=true:=λa b m n e1 e2 e=>by rw[e1,e2];simp only[cR];omega
 refine⟨_,ar i,_,ar f,?_⟩;by_cases c1:x.now=y.now
 case neg=>rw[ae (I _ _ _ _ rfl rfl c1)];exact no r F (λe=>c1 (by rw[e]))
 rw[af (by show((x.now:Int)==(y.now:Int))=true;rw[c1];simp)];refine⟨_,ar i,_,ar f,?_⟩;by_cases c2:x.kind=y.kind
 case neg=>rw[ae (by show¬(x.kind==y.kind)=true;simpa using c2)];exact no r F (λe=>c2 (by rw[e]))
 rw[af (by show(x.kind==y.kind)=true;simpa using c2)];refine⟨_,ar i,_,ar f,?_⟩;by_cases C:x.token=y.token
 case neg=>rw[ae (I _ _ _ _ rfl rfl C)];exact no r F (λe=>C (by rw[e]))
 rw[af (by show((x.token:Int)==(y.token:Int))=true;rw[C];simp)];refine⟨_,ar i,_,ar f,?_⟩;by_cases j:x.ses=y.ses
 case neg=>rw[ae (by show¬(x.ses==y.ses)=true;simpa using j)];exact no r F (λe=>j (by rw[e]))
 rw[af (by show(x.ses==y.ses)=true;simpa using j)];refine JQ i (JQ f (Ask.Ex x.jb y.jb (z.frame F cb) (A.frame F cb) λs f3=>⟨_,rfl,?_⟩));have o:=F.tt f3;by_cases k:x.jb=y.jb
 case neg=>rw[ae (cA k)];exact no s o (λe=>k (by rw[e]))
 rw[af (cA k)];refine⟨_,_,_,ar (f3.get i id),_,_,_,ar (f3.get f id),Cb.jH (t.frame o cb) (u.frame o cb) rfl rfl ⟨_,rfl,?_⟩⟩;have e:decide (x=y)=decide (x.data=y.data):=by
  by_cases l:x.data=y.data
  .have:x=y:=by cases x;cases y;simp only at c1 c2 C j k l;simp[c1,c2,C,j,k,l]
   rw[av this,av l]
  .rw[az (λe=>l (by rw[e])),az l]
 rw[<-e];exact hk s o
theorem OJ(x:rq)(Z:Row h p (bc x.jb.kO))(N:Row h q (bc x.data))(hk: ∀h' P c' q' D,Row h' P (bc (rB x).jb.kO)->Row h' q' (bc (rB x).data)->Fr No h h'->R ((rB x).s P c' q' D).agg h'):Cl 84 #[(x.s p c q d).agg] h R:=by
 refine JO.walk (aP.cM λb h1 eb s f1=>aP.cM λb1 S a' I f2=>⟨_,ar (f2.get s id),_,ar (f2.get s id),aP.ft (x:=(lA x).s none 0 none 0) λB w b' l f4=> ?_⟩);have f:=(f2.tt f4).get s id;have zb:=aD s;have d':=aD I;have z1:=f1.1;have z2:=f2.1;have ne:b≠B:=ag
 refine⟨_,ar f,aG.of λJ U=>aG.of λM W=> ?_⟩;have fin: ∀g P c' q' D,aP.fi g B ((rB x).s P c' q' D)->Row h P (bc (rB x).jb.kO)->Row h q' (bc (rB x).data)->Fr (λy=>y=B) w g->J g:=by
  intro g P c' q' D X Y hd O;have F:Fr No S g:=f4.fresh O (λy e=>ag);have G:=(f1.tt f2).tt F;subst U;refine aP.ff X (aP.gy (x:=(rB x).s P c' q' D) (F.get I id) λT d6 f6 _=>aP.ff d6 ?_);have u:=G.fresh f6 (λy e=>ag);exact hk T P c' q' D (Y.frame u cb) (hd.frame u cb) u
 have n:Row h none (bc []):=Row.nil;have key: ∀v,(v=true↔x.kind=1\/x.kind=2)->M v w:=by
  intro v L;subst W;dsimp only;refine aG.of λJ2 j=> ?_
  by_cases k:x.kind=1\/x.kind=2
  .have E:rB x= { lA x with token:=x.token } :=af k;rw[E]at fin;rw[af (L.2 k)];exact⟨_,ar f,C0 (z:=({ lA x with token:=x.token } :rq).s none 0 none 0) l di rfl λa e1 f5=>by subst j;exact fin a none 0 none 0 e1 n n f5⟩
  rw[ae (λe=>k (L.1 e))];refine aG.of λJ3 o=> ?_
  by_cases i:x.kind=3
  .have E:rB x= { lA x with ses:=x.ses } :=(ae k).trans (af i);rw[E]at fin;rw[af (bq.2 i)];exact⟨_,ar f,C0 (z:=({ lA x with ses:=x.ses } :rq).s none 0 none 0) l di rfl λa e1 f5=>by subst o;subst j;exact fin a none 0 none 0 e1 n n f5⟩
  rw[ae (λe=>i (bq.1 e))];refine aG.of λJ4 A=> ?_
  by_cases m:x.kind=4
  .have E:rB x= { lA x with ses:=x.ses,jb:=x.jb } :=(ae k).trans ((ae i).trans (af m));rw[E]at fin;rw[af (bq.2 m)];refine⟨_,ar f,JQ f (C0 (z:=({ lA x with ses:=x.ses } :rq).s none 0 none 0) l di rfl λa e1 f5=>⟨Mf f5 ne bP,To (x:= { lA x with ses:=x.ses }) (r:=x.jb) e1 λQ e2 f6=> ?_⟩)⟩;subst A;subst o;subst j;exact fin Q p c none 0 e2 Z n (f5.tt f6)
  rw[ae (λe=>m (bq.1 e))];refine aG.of λJ5 C=> ?_
  by_cases t:x.kind=5
  .have E:rB x= { lA x with data:=x.data } :=(ae k).trans ((ae i).trans ((ae m).trans (af t)));rw[E]at fin;rw[af (bq.2 t)];exact⟨_,_,_,ar f,C0 (z:=({ lA x with data:=x.data } :rq).s none 0 q d) l di rfl λa e1 f5=>by subst C;subst A;subst o;subst j;exact fin a none 0 q d e1 n N f5⟩
  rw[ae (λe=>t (bq.1 e))];have E:rB x=lA x:=(ae k).trans ((ae i).trans ((ae m).trans (ae t)));rw[E]at fin;subst C;subst A;subst o;subst j;exact fin w none 0 none 0 l n n (Fr.refl _ _)
 by_cases k:x.kind=1
 .rw[af (bq.2 k)];exact key _ ⟨λ_=> .inl k,λ_=>bq.2 k⟩
 rw[ae (λe=>k (bq.1 e))];exact key _ ⟨λe=> .inr (bq.1 e),λe=>bq.2 (e.resolve_left k)⟩
theorem MA(n:Int)(hk:R (.bool (isS n)) h):Cl 140 #[.I n] h R:=by
 refine xf.walk ?_;unfold isS at hk;by_cases c:n≥1
 .rw[af (av c)];rw[av c]at hk;exact hk
 .rw[ae (cA c)];rw[az c]at hk;exact hk
theorem JR(x:rq)(U:Cb.ke V H)(u:Fr No H h)(mx:oT.Mx h)(F:Row h p (bc x.jb.kO))(y:Row h q (bc x.data))(cap:x.data.length<=d)(hk: gL h R (.bool (sD V x))):Cl 85 #[(x.s p c q d).agg] h R:=by
 refine EG.walk (aP.cM λb i G a f1=>⟨_,ar a,aG.of λJ A=> ?_⟩);have key: ∀v,(v=true↔x.kind=1\/x.kind=2)->J v i:=by
  intro v w;subst A;dsimp only;by_cases k:x.kind=1\/x.kind=2
  .have E:sD V x=(decide (x.token≥1) && decide (x.token<=2147483648)):=af k;rw[E]at hk;rw[af (w.2 k)];have hk:=hk i f1;refine⟨_,ar a,?_⟩;have z:decide (((x.s p c q d).f2:Int)≥1)=decide (x.token≥1):=Ask.CP x.token 1;rw[z];refine nB (λo=> ?_) (λo=> ?_) (b:=decide (x.token≥1))
   .rw[o]at hk⊢;rw[af rfl];refine⟨_,ar a,?_⟩;have r:decide (((x.s p c q d).f2:Int)<=2147483648)=decide (x.token<=2147483648):=Bn.jY x.token 2147483648;rw[r];exact hk
   .rw[o]at hk⊢;rw[dc];exact hk
  rw[ae (λe=>k (w.1 e))];by_cases f:x.kind=3
  .have E:sD V x=isS x.ses:=(ae k).trans (af f);rw[E]at hk;rw[af (bq.2 f)];exact⟨_,ar a,MA x.ses ⟨_,rfl,hk i f1⟩⟩
  rw[ae (λe=>f (bq.1 e))];by_cases j:x.kind=4
  .have E:sD V x=(isS x.ses && jW x.jb && (x.jb.kind !=11) && (x.jb.kind !=12)):=(ae k).trans ((ae f).trans (af j));rw[E]at hk;rw[af (bq.2 j)];refine⟨_,ar a,MA x.ses ⟨_,rfl,?_⟩⟩;refine nB (λc1=> ?_) (λc1=> ?_) (b:=isS x.ses)
   case refine_2=>rw[c1]at hk⊢;rw[dc];exact hk i f1
   rw[c1]at hk⊢;rw[af rfl];refine JQ a (Ask.e8 x.jb (F.frame f1 cb) λs f2=>⟨_,rfl,?_⟩);have t:=f2.get a id;have hk:=hk s (f1.tt f2);refine nB (λc2=> ?_) (λc2=> ?_) (b:=jW x.jb)
   case refine_2=>rw[c2]at hk⊢;rw[dc];exact hk
   rw[c2]at hk⊢;rw[af rfl];refine⟨_,ar t,?_⟩;refine nB (λC=> ?_) (λC=> ?_) (b:=x.jb.kind !=11)
   .rw[C]at hk;rw[af C];exact⟨_,ar t,hk⟩
   .rw[C]at hk;rw[ae (by show¬(x.jb.kind !=11)=true;rw[C];decide)];exact hk
  rw[ae (λe=>j (bq.1 e))];by_cases l:x.kind=5
  .have E:sD V x=qa V x.data:=(ae k).trans ((ae f).trans ((ae j).trans (af l)));rw[E]at hk;rw[af (bq.2 l)];exact⟨_,_,_,ar a,JP U (u.tt f1) (mx.on f1) (y.frame f1 cb) rfl cap λs f2=>⟨_,rfl,hk s (f1.tt f2)⟩⟩
  rw[ae (λe=>l (bq.1 e))];have E:sD V x=decide (x.kind=6\/x.kind=7\/x.kind=8):=(ae k).trans ((ae f).trans ((ae j).trans (ae l)));rw[E]at hk;have hk:=hk i f1;refine⟨_,ar a,?_⟩;by_cases m:x.kind=6
  .rw[af (bq.2 m)];rw[av (.inl m)]at hk;exact hk
  rw[ae (λe=>m (bq.1 e))];refine⟨_,ar a,?_⟩;by_cases n:x.kind=7
  .rw[af (bq.2 n)];rw[av (.inr (.inl n))]at hk;exact hk
  rw[ae (λe=>n (bq.1 e))];refine⟨_,ar a,?_⟩;have r:decide (x.kind=6\/x.kind=7\/x.kind=8)=(x.kind==8):=by by_cases B:x.kind=8<;>simp[m,n,B]
  rw[r]at hk;exact hk
 by_cases k:x.kind=1
 .rw[af (bq.2 k)];exact key _ ⟨λ_=> .inl k,λ_=>bq.2 k⟩
 rw[ae (λe=>k (bq.1 e))];exact key _ ⟨λe=> .inr (bq.1 e),λe=>bq.2 (e.resolve_left k)⟩
theorem JS(x:rq)(U:Cb.ke V H)(u:Fr No H h)(mx:oT.Mx h)(r:Row h p (bc x.jb.kO))(e:Row h q (bc x.data))(cap:x.data.length<=d)(hk: gL h R (.bool (ue V x))):Cl 32 #[(x.s p c q d).agg] h R:=by
 refine EH.walk (aP.cM λb j n a f1=>⟨_,ar a,?_⟩);unfold ue at hk;have E:decide (((x.s p c q d).f0:Int)<=1099511627776)=decide (x.now<=1099511627776):=Bn.jY x.now 1099511627776;rw[E];refine nB (λc1=> ?_) (λc1=> ?_) (b:=decide (x.now<=1099511627776))
 case refine_2=>rw[c1]at hk⊢;rw[dc];exact hk j f1
 rw[c1]at hk⊢;rw[af rfl];have i:=r.frame f1 cb;have f:=e.frame f1 cb;refine aP.ff (x:=x.s p c q d) a (aP.ff (x:=x.s p c q d) a (OJ x i f λo m c2 q2 d2 r2 s2 f2=>aP.ex ((rB x).s m c2 q2 d2) ⟨rfl,f2.kp,?_⟩));refine Mz x (rB x) (i.frame f2 cb) r2 (f.frame f2 cb) s2 λk f3=>⟨_,rfl,f3.kp,?_⟩
 have F:=f1.tt (f2.tt f3);refine nB (λc2=> ?_) (λc2=> ?_) (b:=decide (x=rB x))
 case refine_2=>rw[c2]at hk⊢;rw[dc];exact hk k F
 rw[c2]at hk⊢;rw[af rfl];exact aP.ff (x:=x.s p c q d) ((f2.tt f3).get a id) (JR x U (u.tt F) (mx.on F) (r.frame F cb) (e.frame F cb) cap λl f4=>⟨_,rfl,f4.kp,hk l (F.tt f4)⟩)

end EI
end
section
open Go.fT
namespace kK
variable {h j:ai} {w r:Nat} {S:Nat→Prop} {bs:cD} {e:Int} {R:fp}
variable {p:cy} {c n:Nat} {K:ai->Prop}
def Wr(h:ai)(w:Nat)(S:Nat->Prop)(bs:cD):Prop:=
 ∃p c,h[w]? =some (.cells #[.bool true,.slice p bs.length c] 209 (0,0))/\fJ h p bs.length c 1 (bc bs)/\¬aR p w/\∀x,S x↔x=w\/aR p x
theorem Wr.lt(H:Wr h w S bs): ∀x,S x->x<h.size:=by
 obtain⟨p,c,a,o,_,b⟩:=H;intro x hx;rcases(b x).1 hx with rfl|hx
 .exact aD a
 .exact o.dY hx
theorem iT(hk: ∀h' w S,Wr h' w S []->Fr No h h'->(∀x,S x->h.size<=x)->R (.P w 0) h'):Cl 65 #[] h R:=by
 refine Gj.walk (cF ?_);refine hk _ _ (λx=>x=h.size) ⟨none,0,bV,.nil rfl rfl rfl rfl,(λ⟨a,e,_⟩=>by cases e),λx=> ?_⟩ (Fr.push _ _) (λx H=>ag);constructor
 .exact .inl
 .rintro(H|⟨a,e,_⟩)
  .exact H
  .cases e
theorem Wr.store{P:cy}{c':Nat}{H:ai}{cs:cD}(d:h[w]? =some (.cells #[.bool true,.slice p bs.length c] 209 (0,0)))(i: ¬aR p w)(a: ∀x,S x↔x=w\/aR p x)(o:fJ H P (bs.length+n) c' 1 (bc bs++bc cs))(f:Fr (aR p) h H)(g: ∀x,aR P x->aR p x\/h.size<=x)(m:n=cs.length)(hk: ∀h' s,Wr h' w s (bs++cs)->Step S h s h'->K h'):aS H (AA w 1) (.slice P (bs.length+n) c') K:=by
 subst m;have l:=f.get d i;have v:=aD d;have k: ¬aR P w:=λhx=>(g w hx).elim i (λb=>ag)
 refine bw l bP λh' q t u=> ?_
 have f2:Fr (λx=>x=w) H h':=Fr.of_eq t u;refine hk h' (λx=>x=w\/aR P x) ⟨P,c',?_,?_,k,λx=>eE⟩ ⟨?_,?_⟩
 .rw[q,aA];rfl
 .rw[aA,jM];exact o.frame f2 (λx hx e=>k (e▸hx))
 .exact f.trans f2 (λx _ hx=>(a x).2 (.inr hx)) (λx _ hx=>(a x).2 (.inl hx))
 .rintro x (hx|hx)
  .exact .inl ((a x).2 (.inl hx))
  .exact(g x hx).imp (λb=>(a x).2 (.inr b)) id
theorem Wr.push{x:Int}{b:UInt8}(H:Wr h w S bs)(A:bs.length<=1099511627786)(y:x=(b.toNat:Int))(hk: ∀h' s,Wr h' w s (bs++ [b])->Step S h s h'->K h'):
  ∃(p:cy)(l c:Nat),bg h (AA w 1)=some (.slice p l c)/\
  aQ h (.cells #[.int .u8 x] 5) λb i=>
  aW Tryz.prog (Builtin.append_ #[22,22] 22 #[.slice p l c,.slice (Sa b 0) 1 1]) i λv k=>
  ∃(q:cy)(m d:Nat),v=.slice q m d/\aS k (AA w 1) (.slice q m d) K:=by
 obtain⟨p,c,a,o,u,t⟩:=H;refine⟨p,bs.length,c,ar a,?_⟩;refine jd tU uU o rfl (λv f=>by simp at f;subst f;rfl) ag ag ?_;intro P c' z o1 f1 g;subst y;exact⟨_,_,_,rfl,Wr.store (cs:= [b]) a u t o1 f1 g rfl hk⟩
def Tp(j:ai)(w:Nat)(s:Nat->Prop)(bs:cD)(N:Nat)(n:Int)(h:ai):Prop:=
 ∃(m:Nat)(S:Nat->Prop)(d:cD),n=(m:Int)/\m<18446744073709551616/\Wr h w S (bs++d)/\d++hZ m=hZ N/\Step s j S h
theorem fX{n:Int}(k:Nat)(H:Wr h w S bs)(A:bs.length<=1099511627776)(e:n=(k:Int))(v:k<18446744073709551616)(hk: ∀h' i,Wr h' w i (bs++hZ k)->Step S h i h'->R (.P w 0) h'):Cl 72 #[.P w 0,.U n] h R:=by
 subst e;refine tR.walk ?_;obtain⟨p,c,o,_⟩:=id H;refine aG.of λJ u=>⟨true,ar o,?_⟩
 subst u;simp only[cN,au,aM];clear o;refine⟨Tp h w S bs k,λn _=>n.toNat,⟨k,S, [],rfl,v,cA H,rfl,Step.refl _ _⟩,?_⟩;rintro _ y ⟨m,x,d,rfl,t,f,hd,st⟩;have z:d.length<=10:=by
  have:=bU List.length hd;rw[aA]at this;have:=(gx k).2;omega
 by_cases q:(m:Int)>127
 .simp only[q,bC,bj];refine f.push (by rw[aA];omega) (Re m) λl s g a=> ?_
  rw[SN];refine⟨⟨m/128,s,d++ [UInt8.ofNat (m%128+128)],rfl,ag,by rwa[dQ]at g,?_,st.trans a⟩,?_⟩
  .rw[<-hd,wK t,fK];simp
  .show Int.toNat ((m/128:Nat):Int)<Int.toNat (m:Int);omega
 .simp only[q,bp,au,aM];refine f.push (by rw[aA];omega) (b:=UInt8.ofNat m) (by rw[kG,fV]) λl s g a=> ?_
  refine hk l s ?_ (st.trans a);rwa[<-hd,wK t,dc,<-dQ]
theorem Tq(n:Int)(H:n<=9223372036854775807):IntKind.wrap .u64 (if 0>n then 0 else n)=((kH n:Nat):Int):=by
 unfold kH;split
 .rw[wrap_u64 ag ag];omega
 .rw[wrap_u64 ag ag];omega
theorem GH{n:Int}(H:Wr h w S bs)(b:bs.length<=1099511627776)(d:n<=9223372036854775807)(hk: ∀h' s,Wr h' w s (bs++hZ (kH n))->Step S h s h'->R (.P w 0) h'):Cl 66 #[.P w 0,.I n] h R:=
 tS.walk (fX (kH n) H b (Tq n d) (by unfold kH;omega) λh' s a st=>⟨_,rfl,hk h' s a st⟩)
theorem MB{t:cD}(H:Wr h w S bs)(y:bs.length<=1099511627776)(B:Row h p (bc t))(z:n=t.length)(M:t.length<=1099511627776)(A: ∀x,aR p x->t≠ []->¬S x)(hk: ∀h' s,Wr h' w s (bs++tF t)->Step S h s h'->R (.P w 0) h'):Cl 71 #[.P w 0,.slice p n c] h R:=by
 subst z;refine sw.walk (fX t.length H y (wrap_u64 ag ag) ag λI G k st1=>⟨_,rfl,?_⟩);obtain⟨q,d,b,o,D,C⟩:=k;refine aG.of λJ f=>⟨true,ar b,?_⟩
 subst f;refine aG.of λJ f=> ?_
 simp only[bj];subst f;refine⟨q,_,d,ar b,?_⟩;have L:=(gx t.length).2;rw[aA];rw[aA]at o;refine dT tU uU o (by
  by_cases i:t= []
  .rw[i];exact .inl rfl
  .exact B.frame st1.fr (λa e E=>A _ ⟨a,e,rfl⟩ i E)) (by rw[jT,ct]) (pR t) ag ag ?_
 intro P c' h' o1 _ f2 g;refine⟨_,_,_,rfl,?_⟩;rw[aA]at b;have:=Wr.store (n:=t.length) (cs:=t) (K:=λv=>R (Value.pointer (some { block:=w,off:=0 })) v) (bs:=bs++hZ t.length) (by rw[aA];exact b) D C (by rw[aA];exact o1) f2 g rfl λu m l F=> ?_
 .rw[aA]at this;exact this
 .exact hk u m (by unfold tF;rwa[dQ]at l) (st1.trans F)
theorem ny(H:Wr h w S bs)(b:bs.length<=70368744177664)(hk: ∀P c' h',fJ h' P bs.length c' 1 (bc bs)->Fr No h h'->(∀x,aR P x->h.size<=x)->R (.slice P bs.length c') h'):Cl 67 #[.P w 0] h R:=by
 obtain⟨p,c,a,o,f,d⟩:=H;exact rk.walk ⟨p,_,c,ar a,gF o.iw rfl b λP c' h' o1 f1 g=>⟨_,_,_,rfl,hk P c' h' o1 f1 g⟩⟩
def Rd(h:ai)(r:Nat)(S:Nat->Prop)(e:Int)(bs:cD):Prop:=
 ∃p c,h[r]? =some (.cells #[.int .i64 e,.bool true,.slice p bs.length c] 221 (0,0))/\fJ h p bs.length c 1 (bc bs)/\¬aR p r/\S r/\(∀x,aR p x->S x)/\∀x,S x->x<h.size
theorem Rd.lt(H:Rd h r S e bs): ∀x,S x->x<h.size:=by
 obtain⟨p,c,_,_,_,_,_,a⟩:=H;exact a
theorem Rd.self(H:Rd h r S e bs):S r:=by
 obtain⟨p,c,_,_,_,a,_,_⟩:=H;exact a
theorem Rd.frame{Q:Nat->Prop}{h':ai}(H:Rd h r S e bs)(a:Fr Q h h')(g: ∀x,S x->¬Q x):Rd h' r S e bs:=by
 obtain⟨p,c,k,o,l,d,f,i⟩:=H;exact⟨p,c,a.get k (g r d),o.frame a (λx b=>g x (f x b)),l,d,f,λx b=>cC (i x b) a.1⟩
theorem uf(f:Row h p (bc bs))(d:n=bs.length)(b:bs.length<=70368744177664)(hk: ∀h' r S,Rd h' r S 0 bs->Fr No h h'->(∀x,S x->h.size<=x)->R (.P r 0) h'):Cl 91 #[.slice p n c] h R:=by
 refine Ec.walk (gF f d b λP c' a o1 f1 g=>⟨_,_,_,rfl,cF ?_⟩);refine hk _ _ (λx=>h.size<=x/\x<=a.size) ⟨P,c',bV,o1.frame (Fr.push (S:=λ_=>False) _ _) cb,?_,⟨f1.1,bk _⟩,?_,?_⟩ (Fr.on f1 (Fr.push _ _)) (λx H=>H.1)
 .intro H;have:=o1.dY H;omega
 .intro x H;have:=o1.dY H;exact⟨g x H,ag⟩
 .intro x H;rw[dJ];omega
theorem lG{E:Int}(H:Rd h r S e bs)(hk: ∀h',Rd h' r S (Lt e E) bs->Fr (λx=>x=r) h h'->R (.tuple #[]) h'):Cl 144 #[.P r 0,.I E] h R:=by
 obtain⟨p,c,b,o,d,g,i,l⟩:=id H;refine tT.walk ⟨e,ar b,?_⟩;unfold Lt at hk;by_cases j:e=0
 .subst j;simp only[fc,bj];refine bw b bP λh' m k q=> ?_
  have f:Fr (λx=>x=r) h h':=Fr.of_eq k q;exact hk h' ⟨p,c,m,o.frame f (λx a e=>d (e▸a)),d,g,i,λx a=>by rw[k];exact l x a⟩ f
 .simp only[cR,j,aM];simp only[j,aM]at hk;exact hk h H (Fr.refl _ _)
theorem C1(H:Rd h r S e bs)(hk:R (.bool (e==0)) h):Cl 143 #[.P r 0] h R:=by
 obtain⟨p,c,a,o,g,b,d,f⟩:=H;exact sy.walk ⟨true,ar a,e,ar a,hk⟩
def RE(j:ai)(r:Nat)(S:Nat->Prop)(bs:cD)(n i:Int)(h:ai):Prop:=
 ∃(k a:Nat)(rest:cD),i=(k:Int)/\n=(a:Int)/\k<=10/\a<2 ^ (7*k)/\a<18446744073709551616/\Rd h r S 0 rest/\Fr (λx=>x=r) j h/\KX k a rest=KX 0 0 bs
theorem xX(H:Rd h r S e bs)(hk: ∀h',Rd h' r S (eX e bs).2.1 (eX e bs).2.2->Fr (λx=>x=r) h h'->R (.U ((eX e bs).1:Int)) h'):
  Cl 92 #[.P r 0] h R:=by
 refine tV.walk (aG.of λc' B=> ?_);by_cases D:e=0
 .subst D;unfold eX at hk;rw[af rfl]at hk;refine⟨RE h r S bs,λ_ i _=>11 - i.toNat,⟨0,0,bs,rfl,rfl,ag,bP,ag,H,Fr.refl _ _,rfl⟩,?_⟩;rintro _ _ q ⟨k,a,rest,rfl,rfl,e',ha,d',y,f2,d⟩;refine C1 y ⟨_,rfl,?_⟩;simp only[fc,bj];obtain⟨p,c,g,o,E,h1,N,J⟩:=id y;refine⟨p,_,c,ar g,?_⟩;cases rest with
  |nil=>
   simp only[bz,Int.natCast_zero,fc,bj];refine lG y λh4 Q f4=>⟨rfl,?_⟩
   subst B;rw[KX]at d;rw[<-d]at hk;exact hk h4 Q (f2.tt f4)
  |cons b rest=>
   have M:((((b::rest).length:Nat):Int)==0)=false:=by simp only[bf,db,en];omega
   simp only[M,au,aM];refine⟨p,_,c,ar g,⟨ag,by simp only[bf];omega⟩,?_⟩;obtain⟨V,W,rfl⟩:=o.some (by rw[jT];simp);refine aw.2 ⟨(b.toNat:Int),o.cell rfl,some (AA V W),_,c,ar g,⟨ag,by simp only[bf];omega⟩,?_⟩;have o2:=o.sub (l:=1) (u:=(b::rest).length) bP (bk _);have I:((bc (b::rest)).take ((b::rest).length*1)).drop (1*1)=bc rest:=by
    simp only[ct];rw[bJ (by rw[jT];exact bk _)];rfl
   rw[I]at o2;have el:(b::rest).length - Int.toNat 1=rest.length:=bP
   rw[el];have G:(b::rest).length - 1=rest.length:=bP
   rw[G]at o2;refine bw g bP λs O F P=> ?_
   have f5:Fr (λx=>x=r) q s:=Fr.of_eq F P;have z:Rd s r S 0 rest:=⟨_,_,O,o2.frame f5 (λx f e=>E (e▸lL f)),λf=>E (lL f),h1,λx f=>N x (lL f),λx f=>by rw[F];exact J x f⟩;have f25:=f2.tt f5;clear o2 O F P f5 I el G M o g N J E;have w1:IntKind.wrap .i64 ((k:Int)*7)=((7*k:Nat):Int):=by rw[bD ag ag];omega
   have w2:IntKind.wrap .i64 (7*(k:Int))=((7*k:Nat):Int):=by rw[bD ag ag];omega
   have w3:IntKind.wrap .i64 ((k:Int)+1)=((k+1:Nat):Int):=by rw[bD ag ag];omega
   have g:=b.toNat_lt;rw[KX]at d;refine aG.of λU a'=> ?_
   have fin:U (decide (k=10\/(k=9/\b.toNat>1)\/(b.toNat=0/\k>0))) s:=by
    subst a';by_cases t:k=10\/(k=9/\b.toNat>1)\/(b.toNat=0/\k>0)
    .simp only[t,bC,bj];rw[af t]at d;refine lG z λh7 T f7=>⟨rfl,?_⟩
     subst B;rw[<-d]at hk;exact hk h7 T (f25.tt f7)
    .simp only[t,bp,au,aM];rw[ae t]at d;rw[w2,w3,dc,Qf,Qg];have hd:b.toNat%128*2 ^ (7*k)<18446744073709551616:=by
      by_cases L:k=9
      .subst L;have:b.toNat%128<=1:=ag
       have:=cQ (2 ^ (7*9)) this;omega
      .have h8:k<=8:=ag
       have p1:(2:Nat) ^ (7*k)<=2 ^ 56:=fH ag ag;have p2:b.toNat%128<=127:=ag
       have:=Nat.mul_le_mul p2 p1;omega
     have key:IntKind.wrap .u64 ((b.toNat%128:Nat):Int)=((b.toNat%128:Nat):Int):=oz ag;have b':7*k<=64:=ag
     rw[key,Qh ha hd b'];by_cases v:b.toNat<128
     .simp only[v,bC,bj];rw[af v]at d;rw[<-d]at hk;exact hk s z f25
     .simp only[v,bp,au,aM];rw[ae v]at d;have L:k<=8:=ag
      have p3:(2:Nat) ^ (7*(k+1))=128*2 ^ (7*k):=by rw[Nat.mul_add,Nat.pow_add,Nat.mul_comm]
      have p4:b.toNat%128+1<=128:=ag
      have p5:=cQ (2 ^ (7*k)) p4;rw[eM]at p5;have p6:(2:Nat) ^ (7*(k+1))<=2 ^ 63:=fH ag ag;refine⟨⟨k+1,_,rest,rfl,rfl,ag,ag,ag,z,f25,d⟩,?_⟩;show 11 - Int.toNat ((k+1:Nat):Int)<11 - Int.toNat (k:Int);omega
   rw[w1];by_cases c1:k=10
   .subst c1;simpa using fin
   .have X:((k:Int)==10)=false:=by simp only[db,en];omega
    simp only[X,au,aM];by_cases c2:k=9
    .subst c2;by_cases A:b.toNat>1
     .have m:(b.toNat:Int)>1:=ag
      have C: ¬b.toNat=0:=ag
      simpa[A,m,C]using fin
     .have m: ¬(b.toNat:Int)>1:=ag
      by_cases C:b.toNat=0
      .simpa[A,m,C]using fin
      .simpa[A,m,C]using fin
    .have Y:(((7*k:Nat):Int)==63)=false:=by simp only[db,en];omega
     simp only[Y,au,aM];by_cases C:b.toNat=0
     .have c5:decide ((k:Int)>0)=decide (k>0):=bP
      simp only[C,Int.natCast_zero,fc,bj,c5];simpa[c1,c2,C]using fin
     .have Z:((b.toNat:Int)==0)=false:=by simp only[db,en];omega
      simp only[Z,au,aM];simpa[c1,c2,C]using fin
 .refine⟨λ_ _ q=>q=h,λ_ _ _=>0,rfl,?_⟩;rintro _ _ q rfl;refine C1 H ⟨_,rfl,?_⟩;have:(e==0)=false:=by simpa using D
  simp only[this,au,aM];subst B;unfold eX at hk;rw[ae D]at hk;exact hk _ H (Fr.refl _ _)
theorem OK(T:Nat){t:Int}(i:t=(T:Int))(H:Rd h r S e bs)(hk: ∀h',Rd h' r S (je T e bs).2.1 (je T e bs).2.2->Fr (λx=>x=r) h h'->R (.U ((je T e bs).1:Int)) h'):
  Cl 145 #[.P r 0,.U t] h R:=by
 subst i;refine qg.walk (xX H λf a f1=>⟨_,rfl,?_⟩);unfold je at hk;by_cases b:(eX e bs).1>T
 .have:((eX e bs).1:Int)>(T:Int):=ag
  simp only[this,bC,bj];rw[af b]at hk;exact lG a λg d f2=>⟨rfl,hk g d (f1.tt f2)⟩
 .have: ¬((eX e bs).1:Int)>(T:Int):=ag
  simp only[this,bp,au,aM];rw[ae b]at hk;exact hk f a f1
theorem C2(H:Rd h r S e bs)(hk: ∀h',Rd h' r S (kx e bs).2.1 (kx e bs).2.2->Fr (λx=>x=r) h h'->R (.I ((kx e bs).1:Int)) h'):
  Cl 93 #[.P r 0] h R:=
 tW.walk (OK 1099511627776 rfl H λb a f1=>⟨_,rfl,by
  have:=DU 1099511627776 e bs;rw[bD ag ag];exact hk b a f1⟩)
theorem MC(H:Rd h r S e bs)(M:bs.length<=70368744177664)(hk: ∀h' p c,Rd h' r S (kI e bs).2.1 (kI e bs).2.2->fJ h' p (kI e bs).1.length c 1 (bc (kI e bs).1)->(∀x,aR p x->h.size<=x)->Fr (λx=>x=r) h h'->R (.slice p (kI e bs).1.length c) h'):
  Cl 94 #[.P r 0] h R:=by
 refine sA.walk (xX H λz d f1=>⟨_,rfl,C1 d ⟨_,rfl,?_⟩⟩);unfold kI at hk;have T:=FW e bs;have Q:(eX e bs).2.2.length<=bs.length:=by
  unfold eX;split
  .exact Cr bs 0 0
  .exact bk _
 generalize eX e bs=N at*;obtain⟨n,E,rest⟩:=N;dsimp only at*;by_cases j:E=0
 .subst j;simp only[fc,cN,au,aM];obtain⟨p,c,f,o,U,V,W,X⟩:=id d;refine⟨p,_,c,ar f,?_⟩;rw[af rfl]at hk;rw[wrap_u64 (n:=(rest.length:Int)) ag ag];by_cases m:n>rest.length
  .have:(n:Int)>(rest.length:Int):=ag
   simp only[this,bC,bj];rw[af m]at hk;exact lG d λA t f2=>⟨rfl,hk A none 0 t (.nil rfl rfl rfl rfl) (λx ⟨a,e,_⟩=>by cases e) (f1.tt f2)⟩
  .have: ¬(n:Int)>(rest.length:Int):=ag
   simp only[this,bp,au,aM];rw[ae m]at hk;have L:=o.le;refine⟨p,_,c,ar f,ag,?_⟩;have O:=o.sub (l:=0) (u:=n) ag ag;simp only[ct,gv,N8]at O;have y:(rest.take n).length=n:=by rw[bB];omega
   refine gF O.iw (by rw[y];omega) ag λJ c' B I f4 G=>⟨_,_,_,rfl,?_⟩
   have v:=d.frame f4 cb;obtain⟨P,c2,k,o2,q,C,D,F⟩:=v;refine⟨P,_,c2,ar k,ag,?_⟩;refine bw k bP λi q1 q2 q3=> ?_
   have f5:Fr (λx=>x=r) B i:=Fr.of_eq q2 q3;have s:=o2.sub (l:=n) (u:=rest.length) ag (bk _);rw[ct,ct,<-jT rest,fb,jT,N9]at s;have g:(rest.drop n).length=rest.length - n:=bP
   refine hk i J c' ⟨cO P c2 n 1,c2 - n,?_,?_,λb=>q (lL b),C,λx b=>D x (lL b),λx b=>by rw[q2];exact F x b⟩ (I.frame f5 (λx b e=> ?_)) (λx b=> ?_) (f1.tt ((f4.mono λ_ _=>False.elim).tt f5))
   .rw[g];simpa using q1
   .rw[g];exact s.frame f5 (λx b e=>q (e▸lL b))
   .have:=G x b;have:=aD f;omega
   .have:=G x b;have:=f1.1;omega
 .have:(E==0)=false:=by simpa using j
  simp only[this,dK,bj];rw[ae j]at hk;exact hk z none 0 d (.nil rfl rfl rfl rfl) (λx ⟨a,e,_⟩=>by cases e) f1
theorem OL(H:Rd h r S e bs)(hk:R (.I (xO e bs)) h):Cl 95 #[.P r 0] h R:=by
 obtain⟨p,c,a,o,f,k,g,i⟩:=H;refine tX.walk (aG.of λJ d=>⟨true,ar a,?_⟩);subst d;simp only[cN,au,aM];refine⟨e,ar a,?_⟩;unfold xO at hk;by_cases j:e=0
 .subst j;simp only[bne_self_eq_false,au,aM];refine⟨p,_,c,ar a,?_⟩;rw[af rfl]at hk;cases bs with
  |nil=>exact hk
  |cons b bs=>
   have:(((b::bs).length:Nat):Int)>0:=by simp only[bf];omega
   simp only[this,bC,bj];rwa[ae bP]at hk
 .have:(e !=0)=true:=by simpa using j
  simp only[this,bj];rw[ae j]at hk;exact⟨e,ar a,hk⟩

end kK
end
section
open Go.fT
namespace kK
abbrev nE(n:BV):List Value:= [n.val]
theorem tN:oy Tryz.prog 64 22 1 24 (.Z):=⟨dj,dj,rfl⟩
theorem uN:Tryz.prog.underlying 64=some (.slice 22):=dj
theorem nF(n:BV):(nE n).length=1:=rfl
theorem MD(xs:List BV): ∀v∈xs.flatMap nE,fR v=true:=by
 intro v H;obtain⟨a,_,h⟩:=List.mem_flatMap.1 H;simp at h;subst h;rfl

end kK
end
section
variable {h:ai} {R:fp}
variable {a:Nat} {X c i key:Int}
theorem JT.walk(e:aQ h (.map #[] 0) λb H=>aQ H (.cells #[.Z,.map (some b)] 191) λB d=>R (.P B 0) d):Cl 87 #[] h R:=aO (lq ll) Tryz.func87 e
theorem vG.walk(H: ∃t9,Cc h a 1 (.map t9)/\R (.bool (!t9.isNone)) h):Cl 114 #[.P a 0] h R:=aO (lq ll) Tryz.func114 H
theorem xh.walk(H: ∃b t T,Cc h a 0 (.slice b t T)/\R (.I ((t:Nat):Int)) h):Cl 56 #[.P a 0] h R:=aO (lq (sq (lq (cq ll lf)) ll)) Tryz.func56 H
theorem EJ.walk{y:Int}{Y:Int}(e:aQ h (.cells #[.I X,.U c] 193) λb d=>aQ d (.cells #[.I y,.U Y] 193) λB H=>Hu H b 1 λt6=> ∃t8,Cc H B 1 (.U t8)/\if(decide (t6<t8))then R (.bool true) H else Hu H b 1 λt12=> ∃t14,Cc H B 1 (.U t14)/\if(t12==t14)then Hi H b 0 λt18=> ∃t20,Cc H B 0 (.I t20)/\R (.bool (decide (t18<t20))) H else R (.bool false) H):Cl 170 #[.agg #[.I X,.U c],.agg #[.I y,.U Y]] h R:=aO (lq ll) Tryz.func170 e
theorem xi.walk(g:aQ h (.cells #[.I X,.U c] 193) λb H=>Hl H a 0 λk j l=>Hi H b 0 λt=>Hu H b 1 λT=>Bd i j/\aL k λA=>aS H (A.add (toNat i*2)) (.I t) λe=>aS e ((A.add (toNat i*2)).add 1) (.U T) λd=> ∃t16,Cc d a 1 (.map t16)/\Hi d b 0 λt18=>aW Tryz.prog (Instr.mapUpdate 167 (.map t16) (.I t18) (.I i)) d λ_ f=>R (.tuple #[]) f):Cl 116 #[.P a 0,.I i,.agg #[.I X,.U c]] h R:=aO (lq (sq (pN 8) (pN 8))) Tryz.func116 g
theorem zt.walk (hv: ∃(I:Int->ai->Prop)(Q:Int->ai->Nat),(I i h)/\∀(d:Int)(H:ai),I d H->aG (λ(t28:Bool) (e:ai)=>if t28 then aG (λ(x:cy) (y:cy) (E:ai)=>aL x λL=>jk E L λk'=>fW E (L.add 1) λl'=>Cl 116 #[.P a 0,.I (wrap .i64 (Int.tdiv (wrap .i64 (d - 1)) 2)),.agg #[.I k',.U l']] E λv F=>v=.tuple #[]/\aL y λM=>jk F M λm'=>fW F (M.add 1) λn'=>Cl 116 #[.P a 0,.I d,.agg #[.I m',.U n']] F λo' P=>o'=.tuple #[]/\(I (wrap .i64 (Int.tdiv (wrap .i64 (d - 1)) 2)) P/\Q (wrap .i64 (Int.tdiv (wrap .i64 (d - 1)) 2)) P<Q d H)) (λK=>Hl e a 0 λs r u=>Bd d r/\aL s λj=>jk e (j.add (toNat d*2)) λk=>fW e ((j.add (toNat d*2)).add 1) λl=>Hl e a 0 λg f m=>Bd (wrap .i64 (Int.tdiv (wrap .i64 (d - 1)) 2)) f/\aL g λA=> ∃t,bg e (A.add (toNat (wrap .i64 (Int.tdiv (wrap .i64 (d - 1)) 2))*2))=some (.I t)/\∃T,bg e ((A.add (toNat (wrap .i64 (Int.tdiv (wrap .i64 (d - 1)) 2))*2)).add 1)=some (.U T)/\(aQ e (.cells #[.I 0,.U 0] 193) λb p=>dI (A.add (toNat (wrap .i64 (Int.tdiv (wrap .i64 (d - 1)) 2))*2)) [.I t,.U T] 0 p/\Cc p a 0 (.slice g f m)/\dI (j.add (toNat d*2)) [.I k,.U l] 0 p/\Cc p a 0 (.slice s r u)/\aQ p (.cells #[.I 0,.U 0] 193) λB q=>dI (A.add (toNat (wrap .i64 (Int.tdiv (wrap .i64 (d - 1)) 2))*2)) [.I t,.U T] 0 q/\Cc q a 0 (.slice g f m)/\dI (j.add (toNat d*2)) [.I k,.U l] 0 q/\Cc q a 0 (.slice s r u)/\aS q (AA b 0) (.I k) λf'=>aS f' (AA b 1) (.U l) λG=>dI (A.add (toNat (wrap .i64 (Int.tdiv (wrap .i64 (d - 1)) 2))*2)) [.I t,.U T] 0 G/\Cc G a 0 (.slice g f m)/\aS G (AA B 0) (.I t) λa'=>aS a' (AA B 1) (.U T) λb'=>K (Sa b 0) (Sa B 0) b')/\(aQ e (.cells #[.I 0,.U 0] 193) λw n=>dI (A.add (toNat (wrap .i64 (Int.tdiv (wrap .i64 (d - 1)) 2))*2)) [.I t,.U T] 0 n/\Cc n a 0 (.slice g f m)/\dI (j.add (toNat d*2)) [.I k,.U l] 0 n/\Cc n a 0 (.slice s r u)/\aQ n (.cells #[.I 0,.U 0] 193) λz o=>dI (A.add (toNat (wrap .i64 (Int.tdiv (wrap .i64 (d - 1)) 2))*2)) [.I t,.U T] 0 o/\Cc o a 0 (.slice g f m)/\dI (j.add (toNat d*2)) [.I k,.U l] 0 o/\Cc o a 0 (.slice s r u)/\aS o (AA z 0) (.I k) λc'=>aS c' (AA z 1) (.U l) λC=>dI (A.add (toNat (wrap .i64 (Int.tdiv (wrap .i64 (d - 1)) 2))*2)) [.I t,.U T] 0 C/\Cc C a 0 (.slice g f m)/\aS C (AA w 0) (.I t) λd'=>aS d' (AA w 1) (.U T) λe'=>K (Sa z 0) (Sa w 0) e')/\True)else R (.tuple #[]) e) (λJ=>if(decide (d>0))then Hl H a 0 λU S g'=>Bd d S/\aL U λN=>jk H (N.add (toNat d*2)) λh'=>fW H ((N.add (toNat d*2)).add 1) λi'=>Hl H a 0 λW V j'=>Bd (wrap .i64 (Int.tdiv (wrap .i64 (d - 1)) 2)) V/\aL W λO=> ∃Y,bg H (O.add (toNat (wrap .i64 (Int.tdiv (wrap .i64 (d - 1)) 2))*2))=some (.I Y)/\∃Z,bg H ((O.add (toNat (wrap .i64 (Int.tdiv (wrap .i64 (d - 1)) 2))*2)).add 1)=some (.U Z)/\Cl 170 #[.agg #[.I h',.U i'],.agg #[.I Y,.U Z]] H λp' D=>Vb p' λt27=>Cc D a 0 (.slice W V j')/\Cc D a 0 (.slice U S g')/\J t27 D else J false H)):Cl 117 #[.P a 0,.I i] h R:=aO (.scope 0 [(1,.one (.int .i64))] ll (lq (lq (sq (.join [(28,.one (.bool))] (pN 19)) (cq (sq (.join [(5,.one (.ptr)),(6,.one (.ptr))] (.iC (fC 14 0 (.alts (.fork 14 (fC 3 15 .done) (.fork 15 (.op 14 (.op 16 (.op 17 .done))) .gX)))))) (lq (lq ll))) lf))))) Tryz.func117 hv
theorem vH.walk (hv: ∃(I:Int->ai->Prop)(mu:Int->ai->Nat),(I i h)/\∀(d:Int)(F:ai),I d F->∃(z:Int->Int->ai->Prop)(i':Int->Int->ai->Nat),z d 0 F/\∀(B:Int)(t17:Int)(H:ai),z B t17 H->if(decide (t17<2))then aG (λ(d':Int) (f':ai)=>(z d' (wrap .i64 (t17+1)) f'/\i' d' (wrap .i64 (t17+1)) f'<i' B t17 H)) (λJ=>Bd t17 2/\(t17=((0:Nat):Int)->aG (λ(t43:Bool) (g':ai)=>aG (λ(z':Int) (H':ai)=>J z' H') (λQ=>if t43 then Q (wrap .i64 ((wrap .i64 (2*d))+1)) g' else Q B g')) (λP=> ∃l' N j',Cc H a 0 (.slice l' N j')/\if(decide ((wrap .i64 ((wrap .i64 (2*d))+1))<((N:Nat):Int)))then Hl H a 0 λp' n' J'=>Bd (wrap .i64 ((wrap .i64 (2*d))+1)) n'/\aL p' λW=> ∃r',bg H (W.add (toNat (wrap .i64 ((wrap .i64 (2*d))+1))*2))=some (.I r')/\∃t',bg H ((W.add (toNat (wrap .i64 ((wrap .i64 (2*d))+1))*2)).add 1)=some (.U t')/\Hl H a 0 λx' v' L'=>Bd B v'/\aL x' λY=>jk H (Y.add (toNat B*2)) λN'=>fW H ((Y.add (toNat B*2)).add 1) λP'=>Cl 170 #[.agg #[.I r',.U t'],.agg #[.I N',.U P']] H λv s=>Vb v λt42=>Cc s a 0 (.slice x' v' L')/\Cc s a 0 (.slice p' n' J')/\Cc s a 0 (.slice l' N j')/\P t42 s else P false H))/\(t17=((1:Nat):Int)->aG (λ(S':Bool) (h':ai)=>aG (λ(A':Int) (I':ai)=>J A' I') (λU=>if S' then U (wrap .i64 ((wrap .i64 (2*d))+2)) h' else U B h')) (λS=> ∃m' O k',Cc H a 0 (.slice m' O k')/\if(decide ((wrap .i64 ((wrap .i64 (2*d))+2))<((O:Nat):Int)))then Hl H a 0 λq' o' K'=>Bd (wrap .i64 ((wrap .i64 (2*d))+2)) o'/\aL q' λZ=> ∃s',bg H (Z.add (toNat (wrap .i64 ((wrap .i64 (2*d))+2))*2))=some (.I s')/\∃u',bg H ((Z.add (toNat (wrap .i64 ((wrap .i64 (2*d))+2))*2)).add 1)=some (.U u')/\Hl H a 0 λy' w' M'=>Bd B w'/\aL y' λa'=>jk H (a'.add (toNat B*2)) λO'=>fW H ((a'.add (toNat B*2)).add 1) λQ'=>Cl 170 #[.agg #[.I s',.U u'],.agg #[.I O',.U Q']] H λX' u=>Vb X' λR'=>Cc u a 0 (.slice y' w' M')/\Cc u a 0 (.slice q' o' K')/\Cc u a 0 (.slice m' O k')/\S R' u else S false H))/\True)else if(B !=d)then aG (λ(x:cy) (y:cy) (G:ai)=>aL x λb'=>jk G b' λT'=>fW G (b'.add 1) λU'=>Cl 116 #[.P a 0,.I B,.agg #[.I T',.U U']] G λY' K=>Y'=.tuple #[]/\aL y λc'=>jk K c' λV'=>fW K (c'.add 1) λW'=>Cl 116 #[.P a 0,.I d,.agg #[.I V',.U W']] K λZ' e'=>Z'=.tuple #[]/\(I B e'/\mu B e'<mu d F)) (λV=>Hl H a 0 λr q w=>Bd d q/\aL r λg=>jk H (g.add (toNat d*2)) λj=>fW H ((g.add (toNat d*2)).add 1) λk=>Hl H a 0 λf e l=>Bd B e/\aL f λA=>jk H (A.add (toNat B*2)) λt=>fW H ((A.add (toNat B*2)).add 1) λT=>(aQ H (.cells #[.I 0,.U 0] 193) λb m=>dI (A.add (toNat B*2)) [.I t,.U T] 0 m/\Cc m a 0 (.slice f e l)/\dI (g.add (toNat d*2)) [.I j,.U k] 0 m/\Cc m a 0 (.slice r q w)/\aQ m (.cells #[.I 0,.U 0] 193) λC n=>dI (A.add (toNat B*2)) [.I t,.U T] 0 n/\Cc n a 0 (.slice f e l)/\dI (g.add (toNat d*2)) [.I j,.U k] 0 n/\Cc n a 0 (.slice r q w)/\aS n (AA b 0) (.I j) λB'=>aS B' (AA b 1) (.U k) λL=>dI (A.add (toNat B*2)) [.I t,.U T] 0 L/\Cc L a 0 (.slice f e l)/\aS L (AA C 0) (.I t) λC'=>aS C' (AA C 1) (.U T) λD'=>V (Sa b 0) (Sa C 0) D')/\(aQ H (.cells #[.I 0,.U 0] 193) λD o=>dI (A.add (toNat B*2)) [.I t,.U T] 0 o/\Cc o a 0 (.slice f e l)/\dI (g.add (toNat d*2)) [.I j,.U k] 0 o/\Cc o a 0 (.slice r q w)/\aQ o (.cells #[.I 0,.U 0] 193) λE p=>dI (A.add (toNat B*2)) [.I t,.U T] 0 p/\Cc p a 0 (.slice f e l)/\dI (g.add (toNat d*2)) [.I j,.U k] 0 p/\Cc p a 0 (.slice r q w)/\aS p (AA E 0) (.I j) λE'=>aS E' (AA E 1) (.U k) λM=>dI (A.add (toNat B*2)) [.I t,.U T] 0 M/\Cc M a 0 (.slice f e l)/\aS M (AA D 0) (.I t) λF'=>aS F' (AA D 1) (.U T) λG'=>V (Sa E 0) (Sa D 0) G')/\True)else R (.tuple #[]) H):Cl 169 #[.P a 0,.I i] h R:=aO (.scope 0 [(1,.one (.int .i64))] ll (lq (lq (sq (lq (bq (.loop [(4,.one (.int .i64)),(17,.one (.int .i64))] (lq (sq (cq lf lf) (sq (.join [(4,.one (.int .i64))] (bq (lq (sq (.join [(43,.one (.bool))] (pN 24)) (.join [(4,.one (.int .i64))] (cq lf lf)))))) lf)))))) (lq (cq (sq (.join [(7,.one (.ptr)),(8,.one (.ptr))] (.iC (fC 14 0 (.alts (.fork 14 (fC 3 15 .done) (.fork 15 (.op 14 (.op 16 (.op 17 .done))) .gX)))))) (lq (lq ll))) lf)))))) Tryz.func169 hv
theorem xj.walk{V:Int}(o:Cl 114 #[.P a 0] h λv H=> ∃t10,v=.bool t10/\if(!t10)then R (.I 6) H else aG (λ(t12:Bool) (d:ai)=>if t12 then R (.I 1) d else Cl 115 #[.P a 0,.I key] d λs e=>Vi s λt25=>Hl e a 0 λr q p=>aQ e (.cells #[.I 0,.U 0] 193) λb k=>aW Tryz.prog (Builtin.append_ #[189,189] 189 #[.slice r q p,.slice (Sa b 0) 1 1]) k λu l=> ∃g T t,u=.slice g T t/\aS l (AA a 0) (.slice g T t) λf=>Hl f a 0 λz j y=>Cl 116 #[.P a 0,.I (wrap .i64 ((j:Int) - 1)),.agg #[.I key,.U V]] f λw m=>w=.tuple #[]/\Cl 117 #[.P a 0,.I (wrap .i64 ((j:Int) - 1))] m λx n=>x=.tuple #[]/\R (.I 0) n) (λJ=>if(decide (key<1))then J true H else if(decide (key>1099511627776))then J true H else J (decide (V>1099511627776)) H)):Cl 51 #[.P a 0,.I key,.U V] h R:=aO (lq (sq (bq (lq (cq ll (sq (.join [(12,.one (.bool))] lf) (cq ll lf))))) (lq (lq (lq (lq (lq ll))))))) Tryz.func51 o
theorem vI.walk (s:Cl 114 #[.P a 0] h λv H=> ∃t10,v=.bool t10/\if(!t10)then R (.I 6) H else∃t16,Cc H a 1 (.map t16)/\∃T l,hI Tryz.prog 167 (.map t16) (.I key) true H (.tuple #[.I T,.bool l])/\if(!l)then R (.I 4) H else Hl H a 0 λF t E=>Hl H a 0 λw u G=>Bd (wrap .i64 ((t:Int) - 1)) u/\aL w λA=> ∃m,bg H (A.add (toNat (wrap .i64 ((t:Int) - 1))*2))=some (.I m)/\∃n,bg H ((A.add (toNat (wrap .i64 ((t:Int) - 1))*2)).add 1)=some (.U n)/\aQ H (.cells #[.I 0,.U 0] 193) λb o=>aS o (AA b 0) (.I m) λp=>aS p (AA b 1) (.U n) λj=>Hl j a 0 λx I g=>((0:Int)<=wrap .i64 ((t:Int) - 1)/\wrap .i64 ((t:Int) - 1)<=(g:Int))/\aS j (AA a 0) (.slice (cO x g 0 2) ((toNat (wrap .i64 ((t:Int) - 1))) - 0) (g - 0)) λk=> ∃t48,Cc k a 1 (.map t48)/\aW Tryz.prog (Builtin.delete_ #[167,3] 0 #[.map t48,.I key]) k λV d=>V=.tuple #[]/\aG (λ(q:ai)=>R (.I 0) q) (λJ=>if(decide (T<(wrap .i64 ((t:Int) - 1))))then Hi d b 0 λy=>Hu d b 1 λz=>Cl 116 #[.P a 0,.I T,.agg #[.I y,.U z]] d λB r=>B=.tuple #[]/\Cl 117 #[.P a 0,.I T] r λC e=>C=.tuple #[]/\∃t64,Cc e a 1 (.map t64)/\Hi e b 0 λt66=> ∃t67,hI Tryz.prog 167 (.map t64) (.I t66) false e (.I t67)/\Cl 169 #[.P a 0,.I t67] e λD f=>D=.tuple #[]/\Cc f b 0 (.I t66)/\Cc f a 1 (.map t64)/\J f else J d)):Cl 115 #[.P a 0,.I key] h R:=aO (lq (sq (lq (cq ll lf)) (lq (sq (lq (cq ll lf)) (lq (lq (lq (lq (sq (lq (.join [] (cq (lq (lq (pN 9))) lf))) ll))))))))) Tryz.func115 s
theorem vJ.walk(d:Cl 56 #[.P a 0] h λv H=> ∃t6,v=.I t6/\if(t6==0)then R (.tuple #[.I 0,.U 0,.bool false]) H else Hl H a 0 λT t g=>Bd 0 t/\aL T λA=>jk H (A.add (toNat 0*2)) λt14=>Hl H a 0 λf e j=>Bd 0 e/\aL f λb=> ∃t21,bg H ((b.add (toNat 0*2)).add 1)=some (.U t21)/\R (.tuple #[.I t14,.U t21,.bool true]) H):Cl 171 #[.P a 0] h R:=aO (lq (sq (lq (cq ll lf)) (sq (pN 17) lf))) Tryz.func171 d
theorem vK.walk{now:Int}(x:Cl 171 #[.P a 0] h λv r=> ∃j k l,v=.tuple #[.I j,.U k,.bool l]/\∃(I:cy->Nat->Nat->Int->Int->Bool->ai->Prop)(m:cy->Nat->Nat->Int->Int->Bool->ai->Nat),I none 0 0 j k l r/\∀(d:cy)(O o:Nat)(key:Int)(V:Int)(is:Bool)(H:ai),I d O o key V is H->aG (λ(t20:Bool) (f:ai)=>if t20 then aQ f (.cells #[.I key] 3) λb s=>aW Tryz.prog (Builtin.append_ #[105,105] 105 #[.slice d O o,.slice (Sa b 0) 1 1]) s λy u=>Vl y λq p n=>Cl 115 #[.P a 0,.I key] u λz w=>Vi z λt33=>Cl 171 #[.P a 0] w λA g=> ∃t T e,A=.tuple #[.I t,.U T,.bool e]/\(I q p n t T e g/\m q p n t T e g<m d O o key V is H)else R (.slice d O o) f) (λJ=>if is then J (decide (V<=now)) H else J false H)):Cl 118 #[.P a 0,.U now] h R:=aO (lq (lq (sq (lq (bq (.loop [(5,.one (.slice)),(6,.one (.int .i64)),(7,.one (.int .u64)),(8,.one (.bool))] (sq (sq (.join [(20,.one (.bool))] lf) (cq lf lf)) (sq (bq ll) lf))))) ll))) Tryz.func118 x

end
section
open Go.jU
namespace bW
theorem tm:pO Tryz.prog 167 (.I 0):=.of 3 3 .i64 dj dj dj
def enc(es:List E):List Value:=es.flatMap λe=> [.int .i64 e.1,.int .u64 e.2]
theorem nG(e:E)(es:List E):enc (e::es)=.I e.1:: .U e.2::enc es:=rfl
theorem jV: ∀es:List E,(enc es).length=es.length*2
 | []=>rfl
 |e::es=>by rw[nG];simp only[bf,jV es];omega
theorem GI(es fs:List E):enc (es++fs)=enc es++enc fs:=by simp[enc]
theorem PO: ∀{es:List E}{i:Nat},i<es.length->(enc es)[i*2]? =some (.I (at_ es i).1)
 | [],_,h=>by simp at h
 |e::es,0,_=>rfl
 |e::es,i+1,h=>by
  rw[nG,show(i+1)*2=i*2+1+1 by omega,dv,dv,PO (cA h)];rfl
theorem PQ: ∀{es:List E}{i:Nat},i<es.length->(enc es)[i*2+1]? =some (.U (at_ es i).2)
 | [],_,h=>by simp at h
 |e::es,0,_=>rfl
 |e::es,i+1,h=>by
  rw[nG,show(i+1)*2+1=i*2+1+1+1 by omega,dv,dv,PQ (cA h)];rfl
theorem Ib: ∀(es:List E)(i:Nat)(x:E),((enc es).set (i*2) (.I x.1)).set (i*2+1) (.U x.2)=enc (es.set i x)
 | [],_,_=>by simp[enc]
 |e::es,0,x=>rfl
 |e::es,i+1,x=>by
  rw[nG,show(i+1)*2=i*2+1+1 by omega,List.set_cons_succ,List.set_cons_succ,List.set_cons_succ,List.set_cons_succ,Ib es i x];rfl
theorem EK: ∀(es:List E)(n:Nat),(enc es).take (n*2)=enc (es.take n)
 | [],n=>by simp[enc]
 |e::es,0=>by simp[enc]
 |e::es,n+1=>by
  rw[nG,show(n+1)*2=n*2+1+1 by omega,fN,fN,EK es n];rfl
theorem Ic: ∀(es:List E),∀v∈enc es,fR v=true
 | [],_,h=>by cases h
 |e::es,v,h=>by
  rw[nG]at h;rcases bH.1 h with rfl|h
  .rfl
  .rcases bH.1 h with rfl|h
   .rfl
   .exact Ic es v h
structure Mem (h:ai) (a:Nat) (p:cy) (cap m:Nat) (es:List E) (g:Int->Option Value):Prop where
 cT:h[a]? =some (.cells #[.slice p es.length cap,.map (some m)] 191 (0,0))
 own:fJ h p es.length cap 2 (enc es)
 map:mv h m g
 ne: ¬aR p a
def zu(a:Nat)(p:cy)(m:Nat)(c:Nat):Prop:=c=a\/c=m\/aR p c
def inner(p:cy)(m:Nat)(c:Nat):Prop:=c=m\/aR p c
variable {h : ai} {a m cap : Nat} {p : Option Addr} {es : List E} {g : Int → Option Value} {R : Value → ai → Prop}
theorem Mem.am(M:Mem h a p cap m es g):a≠m:=by
 rintro rfl;obtain⟨x,c,H⟩:=M.map.map;rw[M.cT]at H;cases H
theorem Mem.pm(M:Mem h a p cap m es g): ¬aR p m:=λb=>by
 obtain⟨x,c,H⟩:=M.map.map;obtain⟨y,t,d⟩:=M.own.cells b;rw[d]at H;cases H
theorem Mem.lt(M:Mem h a p cap m es g){c:Nat}(hc:zu a p m c):c<h.size:=by
 rcases hc with rfl|rfl|hc
 .exact aD M.cT
 .exact M.map.lt
 .exact M.own.dY hc
theorem Mem.frame{S:Nat->Prop}{h':ai}(M:Mem h a p cap m es g)(H:Fr S h h')(b: ∀c,zu a p m c->¬S c):Mem h' a p cap m es g:=
 ⟨H.get M.cT (b a (.inl rfl)),M.own.frame H λc d=>b c (.inr (.inr d)),M.map.frame H (b m (.inr (.inl rfl))),M.ne⟩
theorem Mem.calm{h':ai}(M:Mem h a p cap m es g)(H:Fr No h h'):Mem h' a p cap m es g:=M.frame H λ_ _=>id
theorem Mem.hd(M:Mem h a p cap m es g):bg h (AA a 0)=some (.slice p es.length cap):=ar M.cT
theorem Mem.mp(M:Mem h a p cap m es g):bg h (AA a 1)=some (.map (some m)):=ar M.cT
theorem Mem.some(M:Mem h a p cap m es g)(c:0<es.length): ∃A,p=some A:=by
 obtain⟨b,off,H⟩:=M.own.some (by rw[jV];omega);exact⟨_,H⟩
theorem Mem.c0{A:Addr}(M:Mem h a (.some A) cap m es g){i:Nat}(H:i<es.length):bg h (A.add (i*2))=.some (.I (at_ es i).1):=M.own.cell (PO H)
theorem Mem.c1{A:Addr}(M:Mem h a (.some A) cap m es g){i:Nat}(H:i<es.length):bg h ((A.add (i*2)).add 1)=.some (.U (at_ es i).2):=by
 rw[add_add];exact M.own.cell (PQ H)
theorem uh{c X y0 y:Int}(hk: gL h R (.bool (decide (lt (c,X) (y0,y))))):
  Cl 170 #[.agg #[.I c,.U X],.agg #[.I y0,.U y]] h R:=by
 refine EJ.walk ?_;rintro b d rfl rfl b1 i rfl rfl;have f:Fr No h ((h.push (.cells #[.I c,.U X] 193)).push (.cells #[.I y0,.U y] 193)):=Fr.tt (Fr.push _ _) (Fr.push _ _);have j:=yr (x:=.cells #[.I y0,.U y] 193) (bV (h:=h) (x:=.cells #[.I c,.U X] 193));have k:=bV (h:=h.push (.cells #[.I c,.U X] 193)) (x:=.cells #[.I y0,.U y] 193);have H:=hk _ f;refine⟨X,ar j,y,ar k,?_⟩;by_cases d:X<y
 .have e:decide (lt (c,X) (y0,y))=true:=by simp[lt,d]
  rw[e]at H;simpa only[d,bC,bj]using H
 .simp only[d,bp,au,aM];refine⟨X,ar j,y,ar k,?_⟩;by_cases i:X=y
  .subst i;simp only[fc,bj];refine⟨c,ar j,y0,ar k,?_⟩;have e:decide (lt (c,X) (y0,X))=decide (c<y0):=by simp[lt]
   rw[e]at H;exact H
  .have e:decide (lt (c,X) (y0,y))=false:=by simp[lt,d,i]
   rw[e]at H;simpa only[db.2 i,au,aM]using H
theorem vL(M:Mem h a p cap m es g){i:Nat}(C:i<es.length){X d:Int}(hk: ∀h',Mem h' a p cap m (es.set i (X,d)) (λk=>if k=X then some (.I i)else g k)->Fr (inner p m) h h'->R (.tuple #[]) h'):
  Cl 116 #[.P a 0,.I i,.agg #[.I X,.U d]] h R:=by
 obtain⟨A,rfl⟩:=M.some ag;refine xi.walk ?_;rintro b l s rfl;have f1:Fr No h (h.push (.cells #[.I X,.U d] 193)):=Fr.push _ _;have f:=M.calm f1;have j:=bV (h:=h) (x:=.cells #[.I X,.U d] 193);rw[<-s]at j;generalize h.push (.cells #[.I X,.U d] 193)=l at f1 f j;have t: ∀c,zu a (some A) m c->b≠c:=λc H e=>by have:=M.lt H;omega
 refine⟨_,_,_,f.hd,X,ar j,d,ar j,ag,aw.2 ?_⟩;rw[aI,add_add];have D:=jV es;refine f.own.store ag λB o2 s2 v=>o2.store (by rw[dy];omega) λq o z w=> ?_
 rw[Ib es i (X,d)]at o;have f2:Fr (aR (some A)) l q:=Fr.tt (Fr.of_eq s2 v) (Fr.of_eq z w);have u:=f2.get j (λH=>t b (.inr (.inr H)) rfl);have n:=f2.get f.cT M.ne;refine⟨_,ar n,X,ar u,?_⟩;refine lX tm (f.map.frame f2 M.pm) λr y s4 K=>hk r ⟨?_,?_,y,M.ne⟩ ?_
 .rw[K a M.am,n,dy]
 .rw[dy];exact o.frame (Fr.of_eq (S:=λc=>c=m) s4 K) (λc H e=>M.pm (e▸H))
 .exact Fr.no f1 ((f2.mono λc _ H=> .inr H).trans (Fr.of_eq (S:=λc=>c=m) s4 K) cb (λ_ _ H=> .inl H))
theorem PR{h:ai}{t:TypeId}{z Z X I y0 Y:Value}{G i s u:ai->Prop}{J:cy->cy->ai->Prop}(r: ∀h',Fr No h h'->G h'/\i h'/\s h'/\u h')(hJ: ∀b B h',h'[b]? =some (.cells #[X,I] t (0,0))->h'[B]? =some (.cells #[y0,Y] t (0,0))->h.size<=b->h.size<=B->Fr No h h'->J (Sa b 0) (Sa B 0) h'):
  (aQ h (.cells #[z,Z] t) λb H=>G H/\i H/\s H/\u H/\aQ H (.cells #[z,Z] t) λj d=>G d/\i d/\s d/\u d/\
   aS d (AA b 0) X λE=>aS E (AA b 1) I λe=>G e/\i e/\aS e (AA j 0) y0 λC=>aS C (AA j 1) Y λD=>J (Sa b 0) (Sa j 0) D)/\
  (aQ h (.cells #[z,Z] t) λb H=>G H/\i H/\s H/\u H/\aQ H (.cells #[z,Z] t) λj d=>G d/\i d/\s d/\u d/\
   aS d (AA j 0) X λE=>aS E (AA j 1) I λe=>G e/\i e/\aS e (AA b 0) y0 λC=>aS C (AA b 1) Y λD=>J (Sa j 0) (Sa b 0) D)/\True:=by
 have key: ∀(b B:Nat)(A:ai),b≠B->h.size<=b->h.size<=B->Fr No h A->A[b]? =some (.cells #[z,Z] t (0,0))->A[B]? =some (.cells #[z,Z] t (0,0))->
   aS A (AA b 0) X λE=>aS E (AA b 1) I λe=>G e/\i e/\aS e (AA B 0) y0 λC=>aS C (AA B 1) Y λD=>J (Sa b 0) (Sa B 0) D:=by
  intro b B A F K L f7 T U;have fr: ∀{v w:ai}{x:Nat},Fr No h v->h.size<=x->w.size=v.size->(∀y,y≠x->w[y]? =v[y]?)->Fr No h w:=λf hx hs ho=>
   ⟨bY f.1,λc hc hn=>by rw[ho c ag];exact f.2 c hc hn⟩
  refine bw T bP λh8 V s8 O=>bw V bP λh9 W s9 P=> ?_
  have f9:=fr (fr f7 K s8 O) K s9 P;have a':h9[B]? =some (.cells #[z,Z] t (0,0)):=by rw[P _ F.symm,O _ F.symm];exact U
  refine⟨(r _ f9).1,(r _ f9).2.1,bw a' bP λe' Q c' M=>bw Q bP λb' S d' N=> ?_⟩;refine hJ b B b' ?_ S K L (fr (fr f9 L c' M) L d' N);rw[N _ F,M _ F];exact W
 have f1: ∀o,Fr No h (h.push o):=λo=>Fr.push _ _
 refine⟨?_,?_,trivial⟩
 .rintro b v rfl rfl;obtain⟨k,l,n,q⟩:=r _ (f1 _);refine⟨k,l,n,q,?_⟩;rintro B w rfl rfl;have f2:=Fr.tt (f1 (.cells #[z,Z] t)) (Fr.push (h.push (.cells #[z,Z] t)) (.cells #[z,Z] t));obtain⟨k,l,n,q⟩:=r _ f2;exact⟨k,l,n,q,key _ _ _ bP bP bP f2 (yr bV) bV⟩
 .rintro b v rfl rfl;obtain⟨k,l,n,q⟩:=r _ (f1 _);refine⟨k,l,n,q,?_⟩;rintro B w rfl rfl;have f2:=Fr.tt (f1 (.cells #[z,Z] t)) (Fr.push (h.push (.cells #[z,Z] t)) (.cells #[z,Z] t));obtain⟨k,l,n,q⟩:=r _ f2;exact⟨k,l,n,q,key _ _ _ bP bP bP f2 bV (yr bV)⟩
end bW
end
section
open Go.jU
namespace bW
variable {h:ai} {a m cap:Nat} {p:cy} {es:List E} {g:Int→Option Value} {R:fp}
variable {q i b:Nat}
theorem Qx(H:q<1000000):IntKind.wrap .i64 (Int.tdiv (IntKind.wrap .i64 ((q:Int) - 1)) 2)=(((q - 1)/2:Nat):Int):=by
 rw[bD (n:=(q:Int) - 1) ag ag];cases q with
 |zero=>decide
 |succ n=>
  rw[show((n+1:Nat):Int) - 1=(n:Int) by omega,show n+1 - 1=n from rfl];have:Int.tdiv (n:Int) 2=((n/2:Nat):Int):=by
   rw[Int.tdiv_eq_ediv_of_nonneg ag];omega
  rw[this];exact bD ag ag
theorem OM(H:q<1000000):IntKind.wrap .i64 (IntKind.wrap .i64 (2*(q:Int))+1)=((2*q+1:Nat):Int):=by
 rw[bD (n:=2*(q:Int)) ag ag,bD ag ag];omega
theorem ON(H:q<1000000):IntKind.wrap .i64 (IntKind.wrap .i64 (2*(q:Int))+2)=((2*q+2:Nat):Int):=by
 rw[bD (n:=2*(q:Int)) ag ag,bD ag ag];omega
theorem Ie{K:ai->Prop}(M:Mem h a p cap m es g)(u:hP es g){j B:Nat}(f:i<es.length)(k:j<es.length)(y:i≠j)(d:h[b]? =some (.cells #[.I (at_ es i).1,.U (at_ es i).2] 193 (0,0)))(x:h[B]? =some (.cells #[.I (at_ es j).1,.U (at_ es j).2] 193 (0,0)))(N: ¬inner p m B)(hk: ∀h' G,Mem h' a p cap m (oR es i j) G->hP (oR es i j) G->Fr (inner p m) h h'->K h'):
  aL (some ((AA b 0):Addr)) λA=>
   ∃(t:Int),bg h A=some (.I t)/\∃(T:Int),bg h (A.add 1)=some (.U T)/\
   Cl 116 #[.P a 0,.I (j:Int),.agg #[.I t,.U T]] h λv H=>
   v=.tuple #[]/\
   aL (some ((AA B 0):Addr)) λc=>
   ∃(l:Int),bg H c=some (.I l)/\∃(n:Int),bg H (c.add 1)=some (.U n)/\
   Cl 116 #[.P a 0,.I (i:Int),.agg #[.I l,.U n]] H λV w=>
   V=.tuple #[]/\K w:=by
 refine aw.2 ⟨_,ar d,_,by rw[gz];exact ar d,?_⟩;refine vL M k λz o f4=>⟨rfl,aw.2 ?_⟩
 have e:=f4.get x N;refine⟨_,ar e,_,by rw[gz];exact ar e,?_⟩;refine vL o (by rw[dy];exact f) λs r f5=>⟨rfl,hk s _ r (u.swap f k y) (Fr.tt f4 f5)⟩
def Vt(H:ai)(a:Nat)(p:cy)(cap m:Nat)(e:List E)(i0:Nat)(i:Int)(h:ai):Prop:=
 ∃es g q,i=((q:Nat):Int)/\q<e.length/\es.length=e.length/\Mem h a p cap m es g/\hP es g/\es.Perm e/\sk (at_ es) e.length q/\
  ((q=i0/\es=e)\/yB (at_ es) e.length q)/\at_ es q=at_ e i0/\Fr (inner p m) H h
theorem EL(M:Mem h a p cap m es g)(K:hP es g)(T:i<es.length)(hn:es.length<1000000)(ex:sk (at_ es) es.length i)(hk: ∀h' E G q,Mem h' a p cap m E G->hP E G->E.Perm es->E.length=es.length->q<es.length->at_ E q=at_ es i->sr (at_ E) es.length q->(yB (at_ es) es.length i->pU (at_ E) es.length)->Fr (inner p m) h h'->R (.tuple #[]) h'):
  Cl 117 #[.P a 0,.I (i:Int)] h R:=by
 refine zt.walk ⟨Vt h a p cap m es i,λi _=>i.toNat,⟨es,g,i,rfl,T,rfl,M,K,.refl _,ex,.inl ⟨rfl,rfl⟩,rfl,Fr.refl _ _⟩,?_⟩;rintro i1 r ⟨e,B,q,rfl,v,u,c,P,x,o,kd,t,fr⟩;rw[Qx ag];refine aG.of λJ s=> ?_
 have j:q<e.length:=ag
 have H:(q - 1)/2<e.length:=ag
 have S: ∀l,Fr No r l->(q=0\/le (at_ e ((q - 1)/2)) (at_ e q))->J false l:=by
  intro l f U;subst s;simp only[au,aM];have hd:=Ob o U;refine hk l e B q (c.calm f) P x u v t hd (λV=> ?_) (Fr.on fr f);rcases kd with⟨e1,e2⟩|kd
  .subst e1 e2;exact oD hd V
  .exact oD hd kd
 by_cases D:q=0
 .subst D;exact S r (Fr.refl _ _) (.inl rfl)
 .have Q:(q:Int)>0:=ag
  simp only[Q,bC,bj,aI];obtain⟨X,rfl⟩:=c.some ag;refine⟨_,_,_,c.hd,ag,aw.2 ⟨_,c.c0 j,_,c.c1 j,_,_,_,c.hd,ag,aw.2 ⟨_,c.c0 H,_,c.c1 H,uh λl f=>⟨_,rfl,(c.calm f).hd,(c.calm f).hd,?_⟩⟩⟩⟩;by_cases n:lt (at_ e q) (at_ e ((q - 1)/2))
  .rw[show decide (lt ((at_ e q).1,(at_ e q).2) ((at_ e ((q - 1)/2)).1,(at_ e ((q - 1)/2)).2))=true from av n];subst s;simp only[bj,aI];have d:=c.calm f;refine aG.of λW I=> ?_
   refine⟨_,_,_,d.hd,ag,aw.2 ⟨_,d.c0 j,_,d.c1 j,_,_,_,d.hd,ag,aw.2 ⟨_,d.c0 H,_,d.c1 H,?_⟩⟩⟩;refine PR (λh' F=> ?_) (λb Y h' L N sb a' F=> ?_)
   .have k:=d.calm F;exact⟨⟨k.c0 H,k.c1 H,trivial⟩,k.hd,⟨k.c0 j,k.c1 j,trivial⟩,k.hd⟩
   .subst I;have y:=d.calm F;refine Ie y P j H ag L N (λO=> ?_) λZ C z A f5=>⟨⟨oR e q ((q - 1)/2),C,(q - 1)/2,rfl,ag,by rw[vm];exact u,z,A,(ss j H).trans x,?_⟩,?_⟩
    .have:=d.lt (.inr O);omega
    .have w:=Oc o ag v rfl n;rw[Bl j H];refine⟨w.1,.inr w.2,?_,Fr.tt fr (Fr.no f (Fr.no F f5))⟩;rw[<-t];unfold nh;rw[dc,af rfl]
    .show Int.toNat (((q - 1)/2:Nat):Int)<Int.toNat (q:Int);rw[aI,aI];omega
  .rw[show decide (lt ((at_ e q).1,(at_ e q).2) ((at_ e ((q - 1)/2)).1,(at_ e ((q - 1)/2)).2))=false from az n];exact S l f (.inr n)
theorem ME{J:Int->ai->Prop}(M:Mem h a p cap m es g){c:Nat}(y:b<es.length)(N:es.length<=c->J b h)(O:c<es.length->lt (at_ es c) (at_ es b)->∀h',Fr No h h'->J c h')(P:c<es.length->¬lt (at_ es c) (at_ es b)->∀h',Fr No h h'->J b h'):
  aG (λ(t43:Bool) (x:ai)=>
   aG (λ(K:Int) (L:ai)=>
    J K L)
   (λr=>
    if t43=true then
     r (c:Int) x
    else
     r (b:Int) x))
  (λo=>
   ∃(B:cy)(t z:Nat),bg h (AA a 0)=some (.slice B t z)/\
   if(decide ((c:Int)<(t:Int)))=true then
    ∃(k:cy)(T C:Nat),bg h (AA a 0)=some (.slice k T C)/\
    ((0:Int)<=(c:Int)/\(c:Int)<(T:Int))/\
    aL k λA=>
    ∃(D:Int),bg h (A.add (Int.toNat (c:Int)*2))=some (.I D)/\∃(E:Int),bg h ((A.add (Int.toNat (c:Int)*2)).add 1)=some (.U E)/\
    ∃(n:cy)(l F:Nat),bg h (AA a 0)=some (.slice n l F)/\
    ((0:Int)<=(b:Int)/\(b:Int)<(l:Int))/\
    aL n λs=>
    ∃(G:Int),bg h (s.add (Int.toNat (b:Int)*2))=some (.I G)/\∃(I:Int),bg h ((s.add (Int.toNat (b:Int)*2)).add 1)=some (.U I)/\
    Cl 170 #[.agg #[.I D,.U E],.agg #[.I G,.U I]] h λv H=>
    ∃(t42:Bool),v=.bool t42/\
    bg H (AA a 0)=some (.slice n l F)/\
    bg H (AA a 0)=some (.slice k T C)/\
    bg H (AA a 0)=some (.slice B t z)/\
    o t42 H
   else
    o false h):=by
 refine aG.of λQ w=>⟨_,_,_,M.hd,?_⟩
 by_cases d:c<es.length
 .have j:(c:Int)<(es.length:Int):=ag
  simp only[j,bC,bj,aI];obtain⟨S,rfl⟩:=M.some ag;refine⟨_,_,_,M.hd,ag,aw.2 ⟨_,M.c0 d,_,M.c1 d,_,_,_,M.hd,ag,aw.2 ⟨_,M.c0 y,_,M.c1 y,uh λu f=>⟨_,rfl,(M.calm f).hd,(M.calm f).hd,(M.calm f).hd,?_⟩⟩⟩⟩;subst w;by_cases e:lt (at_ es c) (at_ es b)
  .rw[show decide (lt ((at_ es c).1,(at_ es c).2) ((at_ es b).1,(at_ es b).2))=true from av e];simp only[bj,aG];exact O d e u f
  .rw[show decide (lt ((at_ es c).1,(at_ es c).2) ((at_ es b).1,(at_ es b).2))=false from az e];simp only[au,aM,aG];exact P d e u f
 .have j: ¬(c:Int)<(es.length:Int):=ag
  subst w;simp only[j,bp,au,aM,aG];exact N ag
def Vv(H:ai)(a:Nat)(p:cy)(cap m:Nat)(e:List E)(i:Int)(h:ai):Prop:=
 ∃es g q,i=((q:Nat):Int)/\q<e.length/\es.length=e.length/\Mem h a p cap m es g/\hP es g/\es.Perm e/\sr (at_ es) e.length q/\Fr (inner p m) H h
def Ts(H:ai)(es:List E)(q:Nat)(B t:Int)(h:ai):Prop:=
 ∃b k:Nat,B=b/\t=k/\k<=2/\b<es.length/\Fr No H h/\(b≠q->(b - 1)/2=q/\0<b/\lt (at_ es b) (at_ es q))/\∀c,0<c->c<es.length->c<=2*q+k->(c - 1)/2=q->le (at_ es b) (at_ es c)
theorem C4(M:Mem h a p cap m es g)(Z:hP es g)(hi:i<es.length)(hn:es.length<1000000)(ex:sr (at_ es) es.length i)(hk: ∀h' E G,Mem h' a p cap m E G->hP E G->E.Perm es->E.length=es.length->pU (at_ E) es.length->Fr (inner p m) h h'->R (.tuple #[]) h'):
  Cl 169 #[.P a 0,.I (i:Int)] h R:=by
 refine vH.walk ⟨Vv h a p cap m es,λi _=>es.length - i.toNat,⟨es,g,i,rfl,hi,rfl,M,Z,.refl _,ex,Fr.refl _ _⟩,?_⟩;rintro i1 D ⟨w,W,q,rfl,hq,L,O,P,N,B,fr⟩;have o:q<w.length:=ag
 rw[OM ag,ON ag];refine⟨Ts D w q,λ_ t _=>2 - t.toNat,⟨q,0,rfl,rfl,ag,o,Fr.refl _ _,λz=>absurd rfl z,λc D I y h4=>ag⟩,?_⟩;rintro d' t I ⟨b,k,rfl,rfl,g',H,f2,r,v⟩;have d:=O.calm f2;by_cases i':k<2
 .have a':(k:Int)<2:=ag
  simp only[a',bC,bj];rw[bD (n:=(k:Int)+1) ag ag];refine aG.of λc' K=>⟨ag,λe'=> ?_,λf'=> ?_,trivial⟩
  .obtain rfl:k=0:=ag
   refine ME d H (λl=> ?_) (λl f y f3=> ?_) (λl f y f3=> ?_)<;>subst K<;>refine⟨?_,bP⟩
   .exact⟨b,1,rfl,rfl,ag,H,f2,r,λc c1 c2 u C=>ag⟩
   .refine⟨2*q+1,1,rfl,rfl,ag,l,Fr.tt f2 f3,λ_=>⟨ag,ag,?_⟩,λc c1 c2 u C=> ?_⟩
    .by_cases e:b=q
     .rw[<-e];exact e▸f
     .exact lt_trans f (r e).2.2
    .have:c=2*q+1:=ag
     subst this;exact le_refl _
   .refine⟨b,1,rfl,rfl,ag,H,Fr.tt f2 f3,r,λc c1 c2 u C=> ?_⟩;have:c=2*q+1:=ag
    subst this;exact f
  .obtain rfl:k=1:=ag
   refine ME d H (λl=> ?_) (λl f y f3=> ?_) (λl f y f3=> ?_)<;>subst K<;>refine⟨?_,bP⟩
   .exact⟨b,2,rfl,rfl,ag,H,f2,r,λc c1 c2 u C=>v c c1 c2 ag C⟩
   .refine⟨2*q+2,2,rfl,rfl,ag,l,Fr.tt f2 f3,λ_=>⟨ag,ag,?_⟩,λc c1 c2 u C=> ?_⟩
    .by_cases e:b=q
     .rw[<-e];exact e▸f
     .exact lt_trans f (r e).2.2
    .by_cases e:c=2*q+2
     .subst e;exact le_refl _
     .exact le_trans (le_of_lt f) (v c c1 c2 ag C)
   .refine⟨b,2,rfl,rfl,ag,H,Fr.tt f2 f3,r,λc c1 c2 u C=> ?_⟩;by_cases e:c=2*q+2
    .subst e;exact f
    .exact v c c1 c2 ag C
 .obtain rfl:k=2:=ag
  simp only[show¬((2:Nat):Int)<2 by omega,bp,au,aM];by_cases e:b=q
  .subst e;simp only[bne_self_eq_false,au,aM];refine hk I w W d P N L (oD B λj J j2 A=>v j J ag ag A) (Fr.on fr f2)
  .obtain⟨b1,U,V⟩:=r e;have z:((b:Int) !=(q:Int))=true:=by simp;omega
   simp only[z,bj,aI];obtain⟨ad,rfl⟩:=d.some ag;refine aG.of λJ1 Y=> ?_
   refine⟨_,_,_,d.hd,ag,aw.2 ⟨_,d.c0 o,_,d.c1 o,_,_,_,d.hd,ag,aw.2 ⟨_,d.c0 H,_,d.c1 H,?_⟩⟩⟩;refine PR (λh' F=> ?_) (λx x' h' hx b' sx j' F=> ?_)
   .have s:=d.calm F;exact⟨⟨s.c0 H,s.c1 H,trivial⟩,s.hd,⟨s.c0 o,s.c1 o,trivial⟩,s.hd⟩
   .subst Y;have Q:=d.calm F;refine Ie Q P o H (λx=>e x.symm) hx b' (λl=> ?_) λh5 X S T f5=>⟨⟨oR w q b,X,b,rfl,ag,by rw[vm];exact L,S,T,(ss o H).trans N,?_,Fr.tt fr (Fr.no f2 (Fr.no F f5))⟩,?_⟩
    .have:=d.lt (.inr l);omega
    .rw[Bl o H];exact Jg B b1 U ag V λj J j2 A=>v j J ag ag A
    .show es.length - Int.toNat (b:Int)<es.length - Int.toNat (q:Int);rw[aI,aI];omega

end bW
end
section
open Go.jU
namespace bW
variable {h:ai} {a m cap:Nat} {p:cy} {es:List E} {g:Int→Option Value} {R:fp} {S:Nat→Prop} {L:List E}
theorem tE:oy Tryz.prog 189 193 2 16 (.agg #[.I 0,.U 0]):=⟨dj,dj,rfl⟩
theorem tI:oy Tryz.prog 105 3 1 8 (.I 0):=⟨dj,dj,rfl⟩
def Good(L:List E):Prop:= ∀e∈L,1<=e.1/\e.1<=1099511627776/\0<=e.2/\e.2<=1099511627776
def Al(h:ai)(a:Nat)(S:Nat->Prop)(L:List E):Prop:=
 ∃p cap m es g,Mem h a p cap m es g/\hP es g/\pU (at_ es) es.length/\es.Perm L/\iQ L/\Good L/\∀c,S c↔zu a p m c
theorem Al.lt(A:Al h a S L){c:Nat}(b:S c):c<h.size:=by
 obtain⟨p,cap,m,es,g,M,_,_,_,_,_,H⟩:=A;exact M.lt ((H c).1 b)
theorem Al.frame{Q:Nat->Prop}{h':ai}(A:Al h a S L)(e:Fr Q h h')(f: ∀c,S c->¬Q c):Al h' a S L:=by
 obtain⟨p,cap,m,es,g,M,P,H,pm,so,G,b⟩:=A;exact⟨p,cap,m,es,g,M.frame e λc d=>f c ((b c).2 d),P,H,pm,so,G,b⟩
theorem Al.sorted(A:Al h a S L):iQ L:=by
 obtain⟨p,cap,m,es,g,M,P,H,pm,so,G,b⟩:=A;exact so
theorem Al.nodup(A:Al h a S L):(keys L).Nodup:=by
 obtain⟨p,cap,m,es,g,M,P,H,pm,so,G,b⟩:=A;exact(keys_perm pm).nodup_iff.1 P.1
theorem fI(M:Mem h a p cap m es g)(hk:R (.bool true) h):Cl 114 #[.P a 0] h R:=
 vG.walk ⟨some m,M.mp,hk⟩
theorem iT(hk: ∀a S h',Al h' a S []->(∀c,S c->h.size<=c)->Fr No h h'->R (.P a 0) h'):Cl 87 #[] h R:=by
 refine JT.walk ?_;rintro b i rfl rfl b1 k rfl rfl;have f:Fr No (h.push (.map #[] 0)) ((h.push (.map #[] 0)).push (.cells #[.Z,.map (some h.size)] 191)):=Fr.push _ _;refine hk _ (zu (h.push (.map #[] 0)).size none h.size) _ ⟨none,0,h.size, [],λ_=>none,⟨bV,.nil rfl rfl rfl rfl,(mv.push h).frame f id,?_⟩,⟨.nil,?_,λ_ _=>rfl⟩,?_,.refl _,.nil,?_,λ_=>eE⟩ ?_ (Fr.tt (Fr.push _ _) f)
 .rintro⟨_,e,_⟩;cases e
 .intro j H;simp at H
 .intro j _ H;simp at H
 .intro e d;cases d
 .rintro c (rfl|rfl|⟨_,e,_⟩)
  .simp
  .exact bk _
  .cases e
theorem MF(A:Al h a S L)(hk:R (.I (L.length:Int)) h):Cl 56 #[.P a 0] h R:=by
 obtain⟨p,cap,m,es,g,M,P,H,pm,so,G,b⟩:=A;refine xh.walk ⟨_,_,_,M.hd,?_⟩;rw[pm.length_eq];exact hk
def hd(L:List E):E:=L.headD (0,0)
theorem ui(A:Al h a S L)(hk:R (.tuple #[.I (hd L).1,.U (hd L).2,.bool (!L.isEmpty)]) h):Cl 171 #[.P a 0] h R:=by
 refine vJ.walk (MF A ⟨_,rfl,?_⟩);obtain⟨p,cap,m,es,g,M,P,H,pm,so,G,k⟩:=A;cases L with
 |nil=>exact hk
 |cons e r=>
  have c:=pm.length_eq;simp only[bf]at c;have d:(((e::r).length:Int)==0)=false:=by simp only[bf,db];omega
  simp only[d,au,aM];obtain⟨j,rfl⟩:=M.some ag;obtain⟨l,f⟩:=Lv pm so H ag;have b:at_ es 0=e:=(List.cons.inj f).1.symm;have c0:=M.c0 (i:=0) ag;have c1:=M.c1 (i:=0) ag;rw[b]at c0 c1;refine⟨_,_,_,M.hd,ag,aw.2 ⟨_,c0,_,_,_,M.hd,ag,aw.2 ⟨_,c1,hk⟩⟩⟩
theorem Qy{t:TypeId}{z Z x X:Value}{K:Nat->ai->Prop}(hk: ∀b h',h'[b]? =some (.cells #[x,X] t (0,0))->h.size<=b->Fr No h h'->K b h'):
  aQ h (.cells #[z,Z] t) λb d=>aS d (AA b 0) x λe=>aS e (AA b 1) X λH=>K b H:=by
 rintro b d rfl rfl;refine bw bV bP λe C s k=>bw C bP λH f s4 j=>hk _ H f (bk _) ⟨?_,λc i _=> ?_⟩
 .rw[s4,s];simp
 .rw[j c ag,k c ag];exact(Fr.push (S:=λ_=>False) h _).2 c i id
theorem oH(A:Al h a S L)(hn:L.length<1000000)(key:Int)(O:key∈keys L->∀h',Al h' a S (fv L key)->Fr S h h'->R (.I 0) h')(k2:key∉keys L->R (.I 4) h):Cl 115 #[.P a 0,.I key] h R:=by
 obtain⟨p,cap,m,es,g,M,P,H,pm,so,gd,hS⟩:=A;have r':=pm.length_eq;refine vI.walk (fI M ⟨true,rfl,?_⟩);simp only[cN,au,aM];have w:=Cj tm M.map key;by_cases v:key∈keys es
 .have O:=O ((keys_perm pm).mem_iff.1 v);clear k2;obtain⟨j,K,rfl⟩:=mem_keys v;obtain⟨n,k⟩: ∃n,es.length=n+1:=⟨es.length - 1,ag⟩;rw[P.2.1 j K]at w;refine⟨some m,M.mp,(j:Int),true,w,?_⟩;simp only[cN,au,aM];obtain⟨b0,off,rfl⟩:=M.own.some (by rw[jV];omega);refine⟨_,_,_,M.hd,_,_,_,M.hd,?_⟩;rw[show IntKind.wrap .i64 ((es.length:Int) - 1)=(n:Int) by rw[bD ag ag];omega];simp only[aI];refine⟨ag,aw.2 ⟨_,M.c0 (i:=n) ag,_,M.c1 (i:=n) ag,Qy λb h4 hb sb f4=> ?_⟩⟩;have r:=M.calm f4;have q':=M.own.le;have b':cO (some ((AA b0 off):Addr)) cap 0 2=some (AA b0 off):=by
   unfold cO;split
   .rfl
   .simp[gz]
  refine⟨_,_,_,r.hd,ag,bw r.cT bP λF c5 s5 k5=> ?_⟩;have f5:Fr (λc=>c=a) h4 F:=Fr.of_eq s5 k5;have tl:(es.take n).length=n:=by rw[bB];omega
  have s:Mem F a (Sa b0 off) cap m (es.take n) g:=by
   refine⟨?_,?_,r.map.frame f5 (λe=>M.am e.symm),M.ne⟩
   .rw[c5,b',tl];rfl
   .have o:=(r.own.frame f5 (λc d e=>M.ne (e▸d))).sub (l:=0) (u:=n) ag ag;rw[b',EK,Nat.zero_mul,gv]at o;rw[tl];exact o
  refine⟨some m,s.mp,wF tm s.map λt m6 s6 k6=>⟨rfl,?_⟩⟩;have f6:Fr (λc=>c=m) F t:=Fr.of_eq s6 k6;have B:Mem t a (Sa b0 off) cap m (es.take n) (λx=>if x=(at_ es j).1 then none else g x):=
   ⟨f6.get s.cT M.am,s.own.frame f6 (λc d e=>M.pm (e▸d)),m6,M.ne⟩
  have Y:Fr (zu a (Sa b0 off) m) h t:=Fr.no f4 (f5.trans f6 (λ_ _ e=> .inl e) (λ_ _ e=> .inr (.inl e)));have J: ∀c,zu a (Sa b0 off) m c->b≠c:=λc d e=>by have:=M.lt d;omega
  have I:=f6.get (f5.get hb (J a (.inl rfl))) (J m (.inr (.inl rfl)));refine aG.of λd' hJ=> ?_
  have done: ∀h' E G,Mem h' a (Sa b0 off) cap m E G->hP E G->pU (at_ E) E.length->E.Perm (cut es n j)->Fr (zu a (Sa b0 off) m) h h'->d' h':=by
   intro h' E G M' P' z n' f';subst hJ;exact O h' ⟨_,_,_,E,G,M',P',z,n'.trans (Lw k K P.1 pm),so.drop _,λe he=>gd e (ba.1 he).1,hS⟩ (f'.mono λc _ d=>(hS c).2 d)
  have y:=Jh P k K;have cl:=Cu (j:=j) k;by_cases f:j<n
  .have N:(j:Int)<(n:Int):=ag
   simp only[f,bj]at y;simp only[N,bC,bj];have D:(es.take n).set j ((at_ es n).1,(at_ es n).2)=cut es n j:=by unfold cut;rw[af f]
   refine⟨_,ar I,_,ar I,vL B ag λh8 V f8=>⟨rfl,?_⟩⟩;rw[D]at V;have ex:=Lx k f H;refine EL V y ag ag (by rw[cl];exact ex) λh9 j' g9 q C W p' l9 q9 g' X _ f9=>⟨rfl,some m,C.mp,?_⟩
   have Q: ¬inner (Sa b0 off) m b:=λd=>J b (.inr d) rfl
   have a':=f9.get (f8.get I Q) Q;have c':=A6 tm C.map (at_ es n).1;have e9:at_ j' q=at_ es n:=by rw[g',oE k f,af rfl]
   have Z:=W.2.1 q ag;rw[e9]at Z;rw[Z]at c';refine⟨_,ar a',(q:Int),c',?_⟩;rw[<-l9]at X;refine C4 C W ag ag X λl' i' k' U e' o' m' T f10=>⟨rfl,ar (f10.get a' Q),U.mp,?_⟩
   rw[<-m']at T;exact done l' i' k' U e' T (o'.trans p') (Y.trans (Fr.tt f8 (Fr.tt f9 f10)) cb (λ_ _ d=> .inr d))
  .have N: ¬(j:Int)<(n:Int):=ag
   simp only[f,aM]at y;simp only[N,bp,au,aM];have D:es.take n=cut es n j:=by unfold cut;rw[ae f]
   rw[D]at B;have z:=Ly k f H;exact done t _ _ B y (by rw[cl];exact z) (.refl _) Y
 .rw[P.2.2 key v]at w;exact⟨some m,M.mp,0,false,w,k2 λhx=>v ((keys_perm pm).mem_iff.2 hx)⟩
def may(key t:Int):Bool:=decide (1<=key) && decide (key<=1099511627776) && decide (t<=1099511627776)
theorem lH{key t:Int}:may key t=true↔1<=key/\key<=1099511627776/\t<=1099511627776:=by simp[may,and_assoc]
def zx(L:List E)(key t:Int):List E:=tG (fv L key) (key,t)
theorem nH(L:List E)(key:Int):(fv L key).length<=L.length:=cr _ _
theorem GJ(A:Al h a S L)(hn:L.length<999999)(key t:Int)(ht:0<=t)(K:may key t=true->∀h' u,Al h' a u (zx L key t)->(∀c,u c->S c\/h.size<=c)->Fr S h h'->R (.I 0) h')(N:may key t=false->R (.I 1) h):Cl 51 #[.P a 0,.I key,.U t] h R:=by
 have A0:=A;obtain⟨p,cap,m,es,g,M, -, -, -, -, -, -⟩:=A;refine xj.walk (fI M ⟨true,rfl,?_⟩);clear M;simp only[cN,au,aM];refine aG.of λJ D=> ?_
 have no:may key t=false->J true h:=λn=>by subst D;exact N n
 by_cases d:key<1
 .simp only[d,bC,bj];exact no (by simp[may,show¬1<=key by omega])
 simp only[d,bp,au,aM];by_cases w:key>1099511627776
 .simp only[w,bC,bj];exact no (by simp[may,show¬key<=1099511627776 by omega])
 simp only[w,bp,au,aM];by_cases y:t>1099511627776
 .simp only[y,bC];exact no (by simp[may,show¬t<=1099511627776 by omega])
 simp only[y,bp];clear no N;have K:=K (lH.2 ⟨ag,ag,ag⟩);subst D;simp only[au,aM];have rest: ∀d e,Al d a S (fv L key)->Fr S h d->(∃(t25:Int),Value.I e=.I t25/\
    ∃(W:cy)(V U:Nat),bg d (AA a 0)=some (.slice W V U)/\
    aQ d (.cells #[.I 0,.U 0] 193) λb c'=>
    aW Tryz.prog (Builtin.append_ #[189,189] 189 #[.slice W V U,.slice (Sa b 0) 1 1]) c' λm' d'=>
    ∃(Z:cy)(Y X:Nat),m'=.slice Z Y X/\
    aS d' (AA a 0) (.slice Z Y X) λI=>
    ∃(l':cy)(T k':Nat),bg I (AA a 0)=some (.slice l' T k')/\
    Cl 116 #[.P a 0,.I (IntKind.wrap .i64 ((T:Int) - 1)),.agg #[.I key,.U t]] I λn' e'=>
    n'=.tuple #[]/\
    Cl 117 #[.P a 0,.I (IntKind.wrap .i64 ((T:Int) - 1))] e' λo' f'=>
    o'=.tuple #[]/\
    R (.I 0) f'):=by
  intro d e A1 f1;refine⟨e,rfl,?_⟩;have kn:=FY L key;have dl:=nH L key;obtain⟨p,cap,m,es,g,M,P,H,pm,so,gd,f⟩:=A1;have p':=pm.length_eq;refine⟨_,_,_,M.hd,?_⟩;rintro b h4 rfl rfl;have F:Fr No d (d.push (.cells #[.I 0,.U 0] 193)):=Fr.push _ _;have row:Row (d.push (.cells #[.I 0,.U 0] 193)) (Sa d.size 0) (enc [(0,0)]):=.inr ⟨_,rfl,gT bV λj v hj=>by rw[bL];simpa[enc]using hj⟩;have r':d.size<=(d.push (.cells #[.I 0,.U 0] 193)).size:=F.1;have k:=M.calm F;refine dT tE (eT:=193) dj k.own row rfl (Ic _) ag ag λi C z Q _ f5 G=>⟨_,_,_,rfl,?_⟩
  rw[<-GI]at Q;have b5:=f5.get k.cT M.ne;have O: ¬aR i a:=λhc=>by
   rcases G a hc with hx|hx
   .exact M.ne hx
   .have:=aD k.cT;omega
  have q': ¬aR i m:=λhc=>by
   rcases G m hc with hx|hx
   .exact M.pm hx
   .have:=k.map.lt;omega
  refine bw b5 bP λo c6 s6 k6=> ?_
  have f6:Fr (λc=>c=a) z o:=Fr.of_eq s6 k6;have r:Mem o a i C m (es++ [(0,0)]) g:=by
   refine⟨?_,?_,(k.map.frame f5 M.pm).frame f6 (λe=>M.am e.symm),O⟩
   .rw[c6,aA];rfl
   .rw[aA];exact Q.frame f6 (λc hc e=>O (e▸hc))
  refine⟨_,_,_,r.hd,?_⟩;have ew:IntKind.wrap .i64 ((((es++ [((0,0):E)]).length:Nat):Int) - 1)=(es.length:Int):=by
   rw[aA,dp,bD ag ag];omega
  rw[ew];refine vL r (by rw[aA,dp];omega) λh7 s f7=>⟨rfl,?_⟩
  have a':(es++ [((0,0):E)]).set es.length (key,t)=es++ [(key,t)]:=by
   rw[List.set_append_right _ _ (bk _)];simp
  rw[a']at s;have i':key∉keys es:=λhx=>kn ((keys_perm pm).mem_iff.1 hx)
  have P7:=Ji (x:=(key,t)) P i';obtain⟨ex,kd⟩:=LA (x:=(key,t)) H;have l7:(es++ [(key,t)]).length=es.length+1:=bP
  rw[<-l7]at ex kd;refine EL s P7 ag ag ex λB b' g8 q M8 P8 j' l8 _ _ _ l f8=>⟨rfl,?_⟩
  have l:=l kd;rw[<-l8]at l;have gf: ∀c,zu a i m c->S c\/h.size<=c:=by
   rintro c (rfl|rfl|hc)
   .exact .inl ((f _).2 (.inl rfl))
   .exact .inl ((f _).2 (.inr (.inl rfl)))
   .rcases G c hc with hx|hx
    .exact .inl ((f _).2 (.inr (.inr hx)))
    .have:=f1.1;exact .inr ag
  refine K B (zu a i m) ⟨i,C,m,b',g8,M8,P8,l,?_,so.insert _ kn,?_,λ_=>eE⟩ gf ?_
  .exact j'.trans ((dM _ _).trans ((pm.cons _).trans (lF _ _).symm))
  .intro e he;rcases bH.1 ((lF _ _).mem_iff.1 he)with rfl|hx
   .exact⟨by simp only;omega,by simp only;omega,ht,by simp only;omega⟩
   .exact gd e hx
  .have g': ∀c,c<d.size->zu a i m c->S c:=λc hc hx=>by
    rcases hx with rfl|rfl|hx
    .exact(f _).2 (.inl rfl)
    .exact(f _).2 (.inr (.inl rfl))
    .rcases G c hx with hy|hy
     .exact(f _).2 (.inr (.inr hy))
     .omega
   have g1:Fr S d z:=Fr.no F (f5.mono λc _ hc=>(f c).2 (.inr (.inr hc)));have g2:Fr S d o:=g1.trans f6 cb (λc _ e=>(f c).2 (.inl e));have g3:Fr S d B:=g2.trans (Fr.tt f7 f8) cb (λc hc hx=>g' c hc (.inr hx));exact Fr.tt f1 g3
 refine oH A0 ag key (λn d A1 f1=>rest d 0 A1 f1) (λn=> ?_);refine rest h 4 ?_ (Fr.refl _ _);rw[jF n];exact A0
def iY(now:Int)(e:E):Bool:=decide (e.2<=now)
def due(L:List E)(now:Int):List E:=L.takeWhile (iY now)
def rest(L:List E)(now:Int):List E:=L.dropWhile (iY now)
def kc(L:List E):List Value:=(keys L).map (.int .i64 ·)
theorem JU{D T:List E}{now:Int}(hd: ∀e∈D,iY now e=true)(c: ∀e r,T=e::r->iY now e=false):due (D++T) now=D/\rest (D++T) now=T:=by
 unfold due rest;induction D with
 |nil=>
  cases T with
  |nil=>exact⟨rfl,rfl⟩
  |cons e r=>simp[List.takeWhile,List.dropWhile,c e r rfl]
 |cons d D i=>
  have H:=hd d dh;obtain⟨i1,i2⟩:=i λe b=>hd e (bZ _ b)
  simp only[eR,List.takeWhile_cons,List.dropWhile_cons,H,bj];exact⟨by rw[i1],i2⟩
def RG(H:ai)(a:Nat)(S:Nat->Prop)(L:List E)(now:Int)(out:cy)(l c:Nat)(key t:Int)(is:Bool)(h:ai):Prop:=
 ∃D T,L=D++T/\(∀e∈D,iY now e=true)/\Al h a S T/\key=(hd T).1/\t=(hd T).2/\is= !T.isEmpty/\l=D.length/\fJ h out l c 1 (kc D)/\(∀x,aR out x->H.size<=x)/\Fr S H h
theorem C6(A:Al h a S L)(X:L.length<999999)(now:Int)(hk: ∀h' P C,Al h' a S (rest L now)->fJ h' P (due L now).length C 1 (kc (due L now))->(∀c,aR P c->h.size<=c)->Fr S h h'->R (.slice P (due L now).length C) h'):
  Cl 118 #[.P a 0,.U now] h R:=by
 refine vK.walk (ui A ⟨_,_,_,rfl,?_⟩);refine⟨RG h a S L now,λ_ l _ _ _ _ _=>L.length - l,⟨[],L,rfl,(λ_ I=>by cases I),A,rfl,rfl,rfl,rfl,.nil rfl rfl rfl rfl,(λc ⟨_,e,_⟩=>by cases e),Fr.refl _ _⟩,?_⟩;rintro out l c key t is H ⟨D,U,E,s,n,rfl,rfl,rfl,rfl,o2,o,f2⟩;refine aG.of λJ u=> ?_
 have stop:(∀e r,U=e::r->iY now e=false)->J false H:=λN=>by
  subst u;simp only[au,aM];obtain⟨e1,e2⟩:=JU s N;rw[<-E]at e1 e2;rw[<-e1];rw[<-e1]at o2;exact hk H out c (by rw[e2];exact n) o2 o f2
 cases U with
 |nil=>exact stop (λe r x=>by cases x)
 |cons e U=>
  simp only[List.isEmpty_cons,dK,bj];by_cases i:e.2<=now
  .rw[show decide ((hd (e::U)).2<=now)=true from av i];subst u;simp only[bj];rintro b T rfl rfl;have W:L.length=D.length+(U.length+1):=by rw[E];simp
   have f:Fr No H (H.push (.cells #[.I (hd (e::U)).1] 3)):=Fr.push _ _;have row:Row (H.push (.cells #[.I (hd (e::U)).1] 3)) (Sa H.size 0) (kc [e]):=.inr ⟨_,rfl,gT bV λj v K=>by rw[bL];simpa[kc,keys,hd]using K⟩;have sz:H.size<=(H.push (.cells #[.I (hd (e::U)).1] 3)).size:=f.1;refine dT tI (eT:=3) dj (o2.frame f λ_ _=>id) row rfl (λv y=>by simp[kc,keys]at y;subst y;rfl) ag ag λP C F O _ f5 G=>⟨_,_,_,rfl,?_⟩
   have B:kc D++kc [e]=kc (D++ [e]):=by simp[kc,keys]
   rw[B]at O;have w: ∀{c},S c->c<h.size:=λd=>A.lt d
   have q:=(n.frame f λ_ _=>id).frame f5 (λc d hx=>hY (o c hx) (w d));have z: ∀c,aR P c->h.size<=c:=λc d=>by
    rcases G c d with hx|hx
    .exact o c hx
    .have:=f2.1;omega
   have f25:Fr S h F:=f2.trans (Fr.no f f5) cb (λc d hx=>bY (o c hx));refine oH q (by simp;omega) _ (λ_ V k f6=>⟨_,rfl,?_⟩) (λM=>absurd (by exact dh) M);rw[show fv (e::U) (hd (e::U)).1=U from F0 q.nodup]at k;refine ui k ⟨_,_,_,rfl,⟨D++ [e],U,by rw[E];simp,?_,k,rfl,rfl,rfl,bP,?_,z,Fr.tt f25 f6⟩,?_⟩
   .intro x hx;rcases bM.1 hx with hx|hx
    .exact s x hx
    .simp at hx;subst hx;exact av i
   .exact O.frame f6 λc d hx=>by have:=z c d;have:=w hx;omega
   .show L.length - (D.length+1)<L.length - D.length;omega
  .rw[show decide ((hd (e::U)).2<=now)=false from az i];exact stop λQ r x=>by cases x;exact az i

end bW
end
section
variable {h:ai} {R:fp}
variable {b d c S s:Nat} {x X f num owner:Int} {e g:cy}
theorem GK.walk(i:Cl 87 #[] h λv H=>Vp v λt1=>aQ H (.cells #[.Z,.I 1,.I 0,.I 0,.I 0,.pointer t1] 145) λb a=>R (.P b 0) a):Cl 38 #[] h R:=aO (lq ll) Tryz.func38 i
theorem xm.walk(H: ∃t9,Cc h b 5 (.pointer t9)/\R (.bool (!t9.isNone)) h):Cl 70 #[.P b 0] h R:=aO (lq ll) Tryz.func70 H
theorem AG.walk(m:aQ h (.cells #[.I x,.I X,.slice e d c,.U f] 119) λb k=>aQ k (.cells #[.I 0,.I 0,.Z,.U 0] 119) λB H=>Hl H b 2 λz y w=>Cl 50 #[.slice z y w] H λv l=> ∃j T t,v=.slice j T t/\aS l (AA b 2) (.slice j T t) λa=>aH.LD a (AA b 0) λA C F E D G=>aH.ST a (AA B 0) A C F E D G λi=>aH.LD i (AA B 0) λr n q p o u=>R (.agg #[.I r,.I n,.slice q p o,.U u]) i):Cl 88 #[.agg #[.I x,.I X,.slice e d c,.U f]] h R:=aO (lq (lq ll)) Tryz.func88 m
theorem C7.walk(a:aQ h (.cells #[.I x,.I X,.slice e d c,.U f] 119) λb H=> ∃t4,Cc H b 1 (.I t4)/\if(decide (t4≥1))then∃t8,Cc H b 1 (.I t8)/\if(decide (t8<=1099511627776))then∃j t i,Cc H b 2 (.slice j t i)/\if(decide (((t:Nat):Int)≥1))then∃l T k,Cc H b 2 (.slice l T k)/\if(decide (((T:Nat):Int)<=600))then∃t25,Cc H b 3 (.U t25)/\R (.bool (decide (t25<=1099511627776))) H else R (.bool false) H else R (.bool false) H else R (.bool false) H else R (.bool false) H):Cl 280 #[.agg #[.I x,.I X,.slice e d c,.U f]] h R:=aO (lq ll) Tryz.func280 a
theorem xo.walk(i:aQ h (.cells #[.I num] 3) λB H=>Hl H b 0 λj T t=>Cl 153 #[.slice j T t,.func (.func 173) #[] #[.P B 0]] H λv a=> ∃t10,v=.I t10/\R (.I t10) a):Cl 122 #[.P b 0,.I num] h R:=aO (lq ll) Tryz.func122 i
theorem uj.walk{c0:Nat}(a:aQ h (.cells #[.I x,.I X,.slice e d c,.U f] 119) λb H=>Hi H b 0 λt5=> ∃t6,Cc H c0 0 (.I t6)/\R (.bool (t5==t6)) H):Cl 173 #[.agg #[.I x,.I X,.slice e d c,.U f],.P c0 0] h R:=aO (lq ll) Tryz.func173 a
theorem zy.walk{i:Int} (A:aQ h (.cells #[.I 0,.I 0,.Z,.U 0] 119) λq H=>Hl H b 0 λd' c' f'=>Bd i c'/\aL d' λa=>aH.LD H (a.add (toNat i*4)) λJ K N M L O=>aQ H (.cells #[.I 0,.I 0,.Z,.U 0] 119) λB z=>aH.ST z (AA B 0) J K N M L O λk=>Hp k b 5 λt16=>Hi k B 0 λt18=>Cl 115 #[.pointer t16,.I t18] k λv l=>Vi v λt19=>Hl l b 0 λo w t=>((0:Int)<=i/\i<=(t:Int))/\Hl l b 0 λp j T=>((0:Int)<=wrap .i64 (i+1)/\wrap .i64 (i+1)<=(j:Int))/\aQ l (.cells #[.slice (cO o t 0 4) ((toNat i) - 0) (t - 0),.slice (cO p T (toNat (wrap .i64 (i+1))) 4) (j - (toNat (wrap .i64 (i+1)))) (T - (toNat (wrap .i64 (i+1))))] 86) λy m=>Cc m b 0 (.slice p j T)/\Cc m b 0 (.slice o w t)/\Cl 172 #[.slice (Sa y 0) 2 2] m λe' n=>Vl e' λU Q P=>Cc n b 0 (.slice p j T)/\Cc n b 0 (.slice o w t)/\aS n (AA b 0) (.slice U Q P) λr=>aH.LD r (AA B 0) λV W a' Z Y b'=>aH.ST r (AA q 0) V W a' Z Y b' λu=>aH.LD u (AA q 0) λC D G F E I=>R (.agg #[.I C,.I D,.slice G F E,.U I]) u):Cl 121 #[.P b 0,.I i] h R:=aO (lq (lq (sq (pN 7) (sq (pN 19) ll)))) Tryz.func121 A
theorem zA.walk(F:Cl 70 #[.P b 0] h λv j=>Vb v λt7=>aG (λ(L:cy) (K G:Nat) (A:ai)=>R (.slice L K G) A) (λJ=>if t7 then Hl j b 0 λN n h'=> ∃(I:cy->Nat->Nat->Int->ai->Prop)(M:cy->Nat->Nat->Int->ai->Nat),I none 0 0 0 j/\∀(i:cy)(O o:Nat)(t13:Int)(H:ai),I i O o t13 H->if(decide (t13<(n:Int)))then Bd t13 n/\aL N λa=>aH.LD H (a.add (toNat t13*4)) λP Q W V U Y=>aQ H (.cells #[.I 0,.I 0,.Z,.U 0] 119) λB C=>aH.ST C (AA B 0) P Q W V U Y λl=>aH.LD l (AA B 0) λZ a' d' c' b' e'=>Cl 88 #[.agg #[.I Z,.I a',.slice d' c' b',.U e']] l λf' D=> ∃p q w u r y,f'=.agg #[.I p,.I q,.slice w u r,.U y]/\aQ D (.cells #[.I p,.I q,.slice w u r,.U y] 119) λz E=>aW Tryz.prog (Builtin.append_ #[86,86] 86 #[.slice i O o,.slice (Sa z 0) 1 1]) E λg' m=> ∃k T t,g'=.slice k T t/\(I k T t (wrap .i64 (t13+1)) m/\M k T t (wrap .i64 (t13+1)) m<M i O o t13 H)else J i O o H else J none 0 0 j)):Cl 39 #[.P b 0] h R:=aO (lq (lq (sq (lq (.join [(3,.one (.slice))] (cq (lq (bq (.loop [(3,.one (.slice)),(13,.one (.int .i64))] (lq (sq (cq lf lf) (sq (bq ll) lf)))))) lf))) ll))) Tryz.func39 F
theorem zB.walk{k:cy}{j D:Nat}{V:Int}(L:Cl 70 #[.P b 0] h λv a=> ∃t12,v=.bool t12/\if(!t12)then R (.tuple #[.I 0,.I 6]) a else Hi a b 1 λt17=>Cl 88 #[.agg #[.I t17,.I owner,.slice k j D,.U V]] a λf' I=> ∃t T r q p u,f'=.agg #[.I t,.I T,.slice r q p,.U u]/\aQ I (.cells #[.I 0,.I 0,.Z,.U 0] 119) λB J=>aH.ST J (AA B 0) t T r q p u λm=>aH.LD m (AA B 0) λM N Q P O U=>Cl 280 #[.agg #[.I M,.I N,.slice Q P O,.U U]] m λg' H=> ∃t25,g'=.bool t25/\if(!t25)then R (.tuple #[.I 0,.I 1]) H else∃Y w W,Cc H b 0 (.slice Y w W)/\if(decide (((w:Nat):Int)≥16))then R (.tuple #[.I 0,.I 15]) H else Hl H b 0 λA z y=>aH.LD H (AA B 0) λZ a' d' c' b' e'=>aQ H (.cells #[.I Z,.I a',.slice d' c' b',.U e'] 119) λG n=>Cc n b 0 (.slice A z y)/\aW Tryz.prog (Builtin.append_ #[86,86] 86 #[.slice A z y,.slice (Sa G 0) 1 1]) n λh' K=> ∃F E C,h'=.slice F E C/\aS K (AA b 0) (.slice F E C) λo=> ∃t47,Cc o b 1 (.I t47)/\aS o (AA b 1) (.I (wrap .i64 (t47+1))) λi=>Hp i b 5 λt54=>Hi i B 0 λt56=>Cl 51 #[.pointer t54,.I t56,.U V] i λi' l=>Vi i' λt58=> ∃t60,Cc l B 0 (.I t60)/\R (.tuple #[.I t60,.I 0]) l):Cl 240 #[.P b 0,.I owner,.slice k j D,.U V] h R:=aO (lq (sq (lq (cq ll lf)) (lq (sq (bq (lq (cq ll (lq (cq ll lf))))) (sq (pN 11) (lq (sq (pN 8) ll))))))) Tryz.func240 L
theorem uk.walk(l:Cl 70 #[.P b 0] h λv i=> ∃t9,v=.bool t9/\if(!t9)then R (.I 6) i else Cl 122 #[.P b 0,.I num] i λV H=> ∃t13,V=.I t13/\if(decide (t13<0))then R (.I 4) H else Hl H b 0 λT t w=>Bd t13 t/\aL T λa=> ∃t25,bg H ((a.add (toNat t13*4)).add 1)=some (.I t25)/\if(t25 !=owner)then R (.I 13) H else Cl 121 #[.P b 0,.I t13] H λu j=> ∃m n q p o r,u=.agg #[.I m,.I n,.slice q p o,.U r]/\∃t34,Cc j b 3 (.I t34)/\aS j (AA b 3) (.I (wrap .i64 (t34+1))) λk=>R (.I 0) k):Cl 152 #[.P b 0,.I num,.I owner] h R:=aO (lq (sq (lq (cq ll lf)) (lq (sq (bq (lq (cq ll (lq (cq ll lf))))) (lq (lq ll)))))) Tryz.func152 l
theorem xp.walk(u:aQ h (.cells #[.I 0,.I 0,.Z,.U 0] 119) λB p=>Cl 70 #[.P b 0] p λv H=> ∃t6,v=.bool t6/\if(!t6)then aH.ST H (AA B 0) 0 0 none 0 0 0 λa=>aH.LD a (AA B 0) λw A L I E O=>R (.tuple #[.agg #[.I w,.I A,.slice L I E,.U O],.I 6]) a else∃V t U,Cc H b 0 (.slice V t U)/\if(((t:Nat):Int)==0)then aH.ST H (AA B 0) 0 0 none 0 0 0 λi=>aH.LD i (AA B 0) λy C M J F P=>R (.tuple #[.agg #[.I y,.I C,.slice M J F,.U P],.I 4]) i else∃t20,Cc H b 2 (.I t20)/\aS H (AA b 2) (.I (wrap .i64 (t20+1))) λq=>Cl 121 #[.P b 0,.I 0] q λW r=> ∃T k n m l o,W=.agg #[.I T,.I k,.slice n m l,.U o]/\aH.ST r (AA B 0) T k n m l o λj=>aH.LD j (AA B 0) λz D N K G Q=>R (.tuple #[.agg #[.I z,.I D,.slice N K G,.U Q],.I 0]) j):Cl 181 #[.P b 0] h R:=aO (lq (sq (bq (lq (cq ll (lq (cq ll lf))))) (lq ll))) Tryz.func181 u
theorem xq.walk{now:Int}(G:Cl 70 #[.P b 0] h λv j=>Vb v λt9=>aG (λ(M:cy) (L K:Nat) (A:ai)=>R (.slice M L K) A) (λJ=>if t9 then Hp j b 5 λt13=>Cl 118 #[.pointer t13,.U now] j λV C=>Vl V λN t W=> ∃(I:cy->Nat->Nat->Int->ai->Prop)(m:cy->Nat->Nat->Int->ai->Nat),I none 0 0 0 C/\∀(i:cy)(O o:Nat)(t17:Int)(H:ai),I i O o t17 H->if(decide (t17<(t:Int)))then Bd t17 t/\aL N λa=>jk H (a.add (toNat t17*1)) λt20=>Cl 122 #[.P b 0,.I t20] H λP D=>Vi P λt25=>Cl 121 #[.P b 0,.I t25] D λQ E=> ∃T n r q p u,Q=.agg #[.I T,.I n,.slice r q p,.U u]/\aQ E (.cells #[.I T,.I n,.slice r q p,.U u] 119) λB F=>aW Tryz.prog (Builtin.append_ #[86,86] 86 #[.slice i O o,.slice (Sa B 0) 1 1]) F λU k=>Vl U λz y w=> ∃t32,Cc k b 4 (.I t32)/\aS k (AA b 4) (.I (wrap .i64 (t32+1))) λl=>(I z y w (wrap .i64 (t17+1)) l/\m z y w (wrap .i64 (t17+1)) l<m i O o t17 H)else J i O o H else J none 0 0 j)):Cl 54 #[.P b 0,.U now] h R:=aO (lq (lq (sq (lq (.join [(5,.one (.slice))] (cq (lq (bq (.loop [(5,.one (.slice)),(17,.one (.int .i64))] (lq (sq (cq lf lf) (sq (bq (lq ll)) lf)))))) lf))) ll))) Tryz.func54 G
theorem fh.find.walk{F:Nat}(j: ∃(I:Int->ai->Prop)(m:Int->ai->Nat),I 0 h/\∀(t8:Int)(H:ai),I t8 H->if(decide (t8<(S:Int)))then Bd t8 S/\aL g λa=>aH.LD H (a.add (toNat t8*4)) λt T n l k o=>Cl 173 #[.agg #[.I t,.I T,.slice n l k,.U o],.P F 0] H λv i=> ∃t16,v=.bool t16/\if t16 then R (.I t8) i else(I (wrap .i64 (t8+1)) i/\m (wrap .i64 (t8+1)) i<m t8 H)else R (.I (-1)) H):Cl 153 #[.slice g S s,.func (.func 173) #[] #[.P F 0]] h R:=aO (lq (sq (lq (bq (.loop [(8,.one (.int .i64))] (lq (sq (cq lf lf) (sq (bq (lq (lq (cq ll lf)))) lf)))))) ll)) Tryz.func153 j
theorem jc.walk{m:cy}{j D:Nat} (C: ∃(I:Int->Int->ai->Prop)(M:Int->Int->ai->Nat),I 0 0 h/\∀(size:Int)(t11:Int)(H:ai),I size t11 H->if(decide (t11<(j:Int)))then aG (λ(u:Int) (p:ai)=>(I u (wrap .i64 (t11+1)) p/\M u (wrap .i64 (t11+1)) p<M size t11 H)) (λJ=>Bd t11 j/\aL m λa=>oP H (a.add (toNat t11*1)) λQ w P=>aG (λ(z:ai)=>J (wrap .i64 (size+(w:Int))) z) (λy=>if(decide ((wrap .i64 (size+(w:Int)))<0))then False else y H))else Cl 199 #[.Z,.I size] H λv B=>Vl v λG F E=> ∃(l:cy->Nat->Nat->Int->ai->Prop)(r:cy->Nat->Nat->Int->ai->Nat),l G F E 0 B/\∀(k:cy)(N n:Nat)(t27:Int)(i:ai),l k N n t27 i->if(decide (t27<(j:Int)))then Bd t27 j/\aL m λA=>oP i (A.add (toNat t27*1)) λO L K=>aW Tryz.prog (Builtin.append_ #[86,86] 86 #[.slice k N n,.slice O L K]) i λV q=> ∃o T t,V=.slice o T t/\(l o T t (wrap .i64 (t27+1)) q/\r o T t (wrap .i64 (t27+1)) q<r k N n t27 i)else R (.slice k N n) i):Cl 172 #[.slice m j D] h R:=aO (lq (lq (sq (lq (bq (.loop [(3,.one (.int .i64)),(11,.one (.int .i64))] (lq (sq (cq lf lf) (sq (.join [(3,.one (.int .i64))] (bq (lq (lq (lq (.join [] (cq lf lf))))))) lf)))))) (lq (sq (lq (bq (.loop [(6,.one (.slice)),(27,.one (.int .i64))] (lq (sq (cq lf lf) (sq (bq ll) lf)))))) ll))))) Tryz.func172 C
theorem jm.walk{n:Int} (k:aG (λ(H:ai)=>aG (λ(o:cy) (m l:Nat) (a:ai)=>R (.slice o m l) a) (λj=>if(decide ((wrap .i64 (n - (wrap .i64 ((s:Int) - (S:Int)))))>0))then((0:Int)<=(s:Int)/\(s:Int)<=(s:Int))/\aW Tryz.prog (Builtin.append_ #[86,3] 86 #[.slice (cO g s 0 4) ((toNat (s:Int)) - 0) (s - 0),.I (wrap .i64 (n - (wrap .i64 ((s:Int) - (S:Int)))))]) H λv i=>Vl v λT p t=>((0:Int)<=(S:Int)/\(S:Int)<=(t:Int))/\j (cO T t 0 4) ((toNat (S:Int)) - 0) (t - 0) i else j g S s H)) (λJ=>if(decide (n<0))then False else J h)):Cl 199 #[.slice g S s,.I n] h R:=aO (lq (sq (lq (.join [] (cq lf lf))) (sq (lq (lq (.join [(0,.one (.slice))] (cq lf lf)))) ll))) Tryz.func199 k

end
end Go.Proofs.YtlenamcfacpheaaGreatDoor
