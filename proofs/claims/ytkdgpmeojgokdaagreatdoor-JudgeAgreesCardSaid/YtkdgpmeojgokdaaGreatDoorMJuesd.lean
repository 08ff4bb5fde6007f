/-
  Fo is proved here: parts of xQ proof, one behind xQ other (texts of this work, merged by a program; HT xQ theorem HU not use is left out). No condition.
-/
import Derived.Test.YtkdgpmeojgokdaaGreatDoorMJuesc
set_option maxRecDepth 100000
set_option maxHeartbeats 4000000
namespace Go.Proofs.YtkdgpmeojgokdaaGreatDoor
open Go.Den
open IntKind (wrap)
open Int (toNat)
section
namespace Bn
open Cb
open jH (Ev du lB)
variable {V:cG→Bool} {h a H:ai} {R:fM} {D:Nat→Prop} {t:List Tr} {y:List CV} {q:ct} {l c:Nat}
theorem Ki{i:Nat}(U:ky V a)(d':Fr No a h)(L:mA h D q l c y)(v:dC h D t y)(hr:dM t<=800000)(hi:i<100)(k1: ∀T,ot V t i=.ok T->∀H z,tT H (λb=>h.size<=b) T z->Fr No h H->R (.T #[z.agg,.I 0]) H)(k2: ∀e,ot V t i=.error e->hM h R (.T #[zv.agg,.I e])):Cl 206 #[.L q l c,.I (i:Int)] h R:=by
 have ln:=v.len;have el:=L.len;have l9:=ie t;refine Ec.walk (aa.cW λa' K eb M F=>aG.of λy' hJ=> ?_);have zb:=aD M;have no: ∀g e,Fr No K g->ot V t i=.error e->aa.dt g (AA a' 0) .z λG=>aa.cC G (AA a' 0) λt'=>R (.T #[t'.agg,.I e]) G:=λg e A s=>
  Ei (A.get M id) λG f=>k2 e s G ((F.tt A).fresh f (λb e=>ag))
 rw[dy];have d:ot V t i=ot V t i:=rfl;conv at d=>rhs;unfold ot
 by_cases g':i<t.length
 case neg=>
  rw[av ag];rw[ae g']at d;subst hJ;dsimp only;rw[af rfl];exact no K 1 (Fr.refl _ _) d
 rw[af g']at d;rw[aB ag];subst hJ;dsimp only;rw[ae (show¬false=true by decide)];refine Da (L.frame F bX) (v.on F) ag hi λh4 m=>⟨_,rfl,aG.of λJ1 e'=>AH U (d'.tt (F.tt m)) (L.frame (F.tt m) bX) (v.on (F.tt m)) ag λn x=>⟨_,rfl,?_⟩⟩
 have G':=Db t i;have I:=F.tt (m.tt x);have c': ¬(t.all (iq V)=true/\0<=typeAt t i)->J1 true n:=λhn=>by
  subst e';dsimp only;rw[af rfl];exact no n 3 (m.tt x) (by rw[d,ae hn])
 cases ha:t.all (iq V)with
 |false=>rw[ga];exact c' (λe=>by rw[ha]at e;cases e.1)
 |true=>
 rw[dy];by_cases ht:0<=typeAt t i
 case neg=>rw[av ag];exact c' (λe=>ht e.2)
 rw[aB ag];clear c';rw[af ⟨ha,ht⟩]at d;subst e';dsimp only;rw[ae (show¬false=true by decide)];refine km (L.frame I bX) (v.on I) ag λh7 z tz r=>aa.ex z.s ⟨rfl,aa.fJ (x:=z.s) λB C A' O k=>aG.of λJ2 p'=> ?_⟩
 have z1:=F.1;have z4:=m.1;have J':=x.1;have z5:=I.1;have z7:=r.1;have z9:=k.1;have K':=aD O;have u:=I.tt (r.tt k);have done: ∀g (w:CV) T,tT g (λb=>n.size<=b/\b≠B) T w->room T<=900000->aa.fE g B w.s->Fr (λb=>n.size<=b) C g->(ot V t i=if iq V T=true then .ok T else .error 3)->J2 g:=by
  intro g w T E rt hw A s;subst p';try dsimp only
  have S:Fr No h g:=u.fresh A (λb e=>ag);have f': ∀{g2},Fr No g g2->aa.fE g2 a' .z:=λf=>f.get (A.get ((m.tt (x.tt (r.tt k))).get M id) ag) id
  refine aa.fy hw (fK U (d'.tt S) E.u ag λB' o=>⟨_,rfl,?_⟩);cases P:iq V T with
  |false=>
   rw[ga];rw[P]at s;exact Ei (f' o) λG f=>k2 3 s G ((S.tt o).fresh f (λb e=>ag))
  |true=>
   rw[dy];rw[P,af rfl]at s;refine aa.fy (o.get hw id) (fin (f' o) (E.frame o bX) (λb j e=>bW F.1) λn' v' m'=>k1 T s n' w (v'.mono λb j=>ag) ((S.tt o).fresh m' (λb e=>ag)))
 have Q:tT C (λb=>n.size<=b/\b≠B) (sR t) z:=by
  obtain⟨⟨a1,a2,a3,a4⟩,Z,a5,a6,a7,a8⟩:=tz;refine⟨⟨a1,a2,a3,((Gm a4).mono λb j=>ag).frame k bX⟩,Z,a5,a6.frame k bX,λb j=>⟨a7 b j,bW (a6.dL j)⟩,(dC.mono (λb j=>by have K:=j.1.1;have h2:=j.2;exact⟨⟨K,ag⟩,j.1.2⟩) a8.lt).on k⟩
 by_cases hp:0<typeAt t i
 case neg=>
  rw[dy];rw[ae hp]at d;exact done C z (sR t) Q (by simp only[room,bE];omega) O (Fr.refl _ _) d
 rw[af (av hp)];rw[af hp]at d;obtain⟨F',r'⟩:=eI ht;rw[r']at d⊢;rw[aH]at d;refine GK U (d'.tt u) (L.frame u bX) (v.on u) ag ag ag (λbs hs o' E' z' u' lb nb p=>⟨_,_,_,_,rfl,?_⟩) (λhs o' p=>⟨_,_,_,_,rfl,?_⟩)
 .rw[dy];rw[hs]at d;refine⟨_,_,_,au (p.get O id),oY u' rfl ag λC' w' ev ov b'=>aa.ex (CV.s ⟨2,0,w',none,0,0⟩) ⟨rfl,b'.kp,?_⟩⟩;have i':=p.tt b';have g0:Fr (λb=>b=B) n C:=(r.tt k).mono λ_ _=>False.elim
  obtain⟨Z,ez,Lz⟩:=Oz (g0:=n) Q O g0;have l':z.s.Fl=Z.length:=ez.symm;have zl:Z.length=t.length:=by have:=Lz.tr.len;exact this.symm
  have q9: ∀b,aO z.q b->b<C.size:=λb j=>Lz.own.dL j
  have H':=p.1;have I':=b'.1;have j':=Lz.on i';rw[l'];obtain⟨zk,zn,h',_⟩:=Q.1;refine OB j' ag (gP.mono (λb j=>⟨ag,λP=>bW (q9 b P)⟩) (C6 ov)) λG x' q' k' X hl D' ho=> ?_
  have s':z.v.ok G (λb=>n.size<=b/\b≠B):=by
   have J:z.v.b= []:=h';exact⟨by rw[J];exact Row.nil,λe=>absurd J e,Q.1.2.2.2.cap⟩
  have E:=OA (k':=z.n) X s';have ek:z.k=4:=zk;have en:z.n=0:=zn;have J:z.v.b= []:=h';rw[ek,en,J,ev]at E;have lr:=iU (a:=t) (b:= [qJ bs]);simp only[dM,room]at lr;refine done G ⟨z.k,z.n,z.v,q',x'.length,k'⟩ (sR (t++ [qJ bs])) (by rw[ek,en];exact E) (by simp only[room,bE];omega) X.dh ?_ d;refine⟨ag,λb j hn=> ?_⟩;rw[X.fr.2 b ag ag,(r.tt k).2 b ag id]
 .rw[ga];rw[hs]at d;exact Ei (p.get ((m.tt (x.tt (r.tt k))).get M id) id) λG f=>k2 3 d G ((u.tt p).fresh f (λb e=>bW F.1))
theorem zt{i : Nat}{T : Tr}{x : CV}(U : ky V a)(g' : Fr No a h)(tx : Eh h T x)(Z : room T ≤ 800000)(hi : i < 100)(k1 : ∀ u, qo V T i = .ok u → dM u ≤ dM T.l → ∀ H p z c, mA H (λf => h.size ≤ f) p z.length c z → dC H (λf => h.size ≤ f) u z → Fr No h H → R (.tuple #[.slice p z.length c, .int .i64 0]) H)(K : ∀ e, qo V T i = .error e → e ≠ 0 → ∀ H, Fr No h H → R (.tuple #[.slice none 0 0, .int .i64 e]) H): Cl 159 #[x.agg, .int .i64 (i : Int)] h R := by
  obtain ⟨xk, xn, xb, xl, xv, y, L, o⟩ := gP.kn tx
  have rl := kZ (t := T)
  have ln := o.len
  have el := L.len
  have l9 := ie T.l
  have e4 : x.s.f0 = T.k := xk
  have l' : x.s.Fl = T.l.length := xl
  refine Ed.walk (x := x.s) (aa.cW λt' h1 eb hb O => aG.of λj' hJ => aa.fy hb (fK U (g'.tt O) (tx.on O) (by omega) λh3 f3 => ⟨_, rfl, ?_⟩))
  have A := O.tt f3
  have X := f3.get hb id
  have b : qo V T i = qo V T i := rfl
  conv at b => rhs; unfold qo
  have bad : ¬ (iq V T = true ∧ T.k = 4 ∧ 0 ≤ typeAt T.l i) → ∀ g, Fr No h g → R (.tuple #[.slice none 0 0, .int .i64 3]) g := λm g F => K 3 (by rw [b, if_neg m]) (by decide) g F
  have M : ¬ (iq V T = true ∧ T.k = 4 ∧ 0 ≤ typeAt T.l i) → j' true h3 := λm => by
    subst hJ
    dsimp only
    rw [if_pos rfl]
    exact bad m h3 A
  cases hR : iq V T with
  | false => exact M (λe => by rw [hR] at e; cases e.1)
  | true =>
  rw [if_neg (show ¬ (!true) = true by decide)]
  refine ⟨_, cB X rfl, ?_⟩
  rw [e4]
  by_cases I : T.k = 4
  case neg => rw [show (T.k != 4) = true by simpa using I]; exact M (λe => I e.2.1)
  rw [show (T.k != 4) = false by simpa using I]
  clear M
  subst hJ
  dsimp only
  rw [if_neg (show ¬ false = true by decide)]
  refine ⟨_, _, _, cB X rfl, Da (L.frame A (λ_ _ => id)) (o.on A) (by omega) hi λh4 f4 => ⟨_, rfl, ?_⟩⟩
  have k := A.tt f4
  have w := f4.get X id
  by_cases ht : 0 ≤ typeAt T.l i
  case neg => rw [if_pos (decide_eq_true (by omega))]; exact bad (λe => ht e.2.2) h4 k
  rw [if_neg (by simp only [decide_eq_true_eq]; omega)]
  rw [if_pos ⟨hR, I, ht⟩] at b
  clear bad
  have f' : ∀{g}(u : List Tr)(z : List CV){n c : Nat}{p : Option Addr}, mA g (λ_ => True) p n c z → Cg g u z → dM u ≤ dM T.l → Fr No h g → qo V T i = .ok u → Cl 162 #[.slice p n c] g λs' p' => aa.EX λJ => s' = J.agg ∧ R (.tuple #[.slice J.Sp J.Fl J.P6, .int .i64 0]) p' := by
    intro g u z n c p Lz Tz rz F hu
    refine km Lz Tz (by omega) λo' a' tz m' => aa.ex a'.s ⟨rfl, ?_⟩
    obtain ⟨_, ws, a5, a6, a7, a8⟩ := tz
    have zg := F.1
    have := k1 u hu rz o' a'.q ws a'.cl ⟨rfl, a6.iF, λ_ f hy => by have := a7 f hy; omega, a6.le⟩ (dC.mono (λf hy => by have := hy.1; omega) a8) (F.tt m')
    rw [← a5] at this
    exact this
  by_cases a : typeAt T.l i = 0
  · rw [if_pos (by rw [a]; rfl)]
    rw [if_pos a] at b
    exact ⟨_, _, _, cB w rfl, f' T.l y (L.frame k (λ_ _ => id)) (o.on k) (Nat.le_refl _) k b⟩
  rw [if_neg (by simpa using a)]
  rw [if_neg a] at b
  have x' : i < T.l.length := by
    rcases Nat.lt_or_ge i T.l.length with hq | hq
    · exact hq
    · have : typeAt T.l i = -1 := by unfold typeAt; rw [if_neg (λe => by omega)]
      omega
  have C' := Db T.l i
  obtain ⟨s, q'⟩ := Int.eq_ofNat_of_zero_le ht
  rw [q'] at b ⊢
  rw [Int.toNat_natCast] at b
  have e' : 1 ≤ s ∧ s ≤ 2 := by omega
  obtain ⟨n, m⟩ : ∃ n, T.l.length = n + 1 := ⟨T.l.length - 1, by omega⟩
  rw [show T.l.length - 1 = n by omega] at b
  have ew : IntKind.wrap .i64 (((x.s.Fl : Nat) : Int) - 1) = (n : Int) := by rw [l', m, bJ (by omega) (by omega)]; omega
  refine ⟨_, _, _, cB w rfl, ?_⟩
  rw [ew]
  obtain ⟨k', f, ea, hh, ty, _⟩ := elem (L.frame k (λ_ _ => id)) (o.on k) (i := n) (by omega)
  have rn := jd (ts := T.l) (i := n) (by omega)
  obtain ⟨yk, yn, yb, yl, yv, _⟩ := gP.kn ty
  generalize y' : at_ T.l n = d at ty rn yk yn yb yl b
  have B' := kZ (t := d)
  refine ⟨_, _, _, cB w rfl, ⟨by omega, by omega⟩, bR.2 ⟨k', ea, aa.jR (x := f.s) (by rw [Int.toNat_natCast]; exact hh) (aa.fJ (x := f.s) λb1 S v' E v => aG.of λJ1 d' => ?_)⟩⟩
  have F6 := k.tt v
  have lb : f.s.UH = d.b.length := by show f.v.b.length = _; rw [yb]
  have bad : ∀ g, Fr No S g → ¬ (i < n ∧ oM d (qJ d.b) = true ∧ d.b.length = 2 * s) → J1 true g := λg F m => by
    subst d'
    try dsimp only
    rw [if_pos rfl]
    exact K 3 (by rw [b, if_neg m]) (by decide) g (F6.tt F)
  by_cases c1 : i < n
  case neg => rw [if_pos (decide_eq_true (by omega))]; exact bad S (Fr.refl _ _) (λe => c1 e.1)
  rw [if_neg (by simp only [decide_eq_true_eq]; omega)]
  have i' : ∀{g}, Fr No S g → Row g f.v.p (bc d.b) := λF => by rw [← yb]; exact ((yv.frame v (λ_ _ => id)).frame F (λ_ _ => id)).row
  refine aa.fy E ⟨_, _, _, cB E rfl, oY (i' (Fr.refl _ _)) lb (by omega) λw' h' ev ov P => aa.ex (CV.s ⟨2, 0, h', none, 0, 0⟩) ⟨rfl, P.kp, ?_⟩⟩
  refine jw (x := f) (y := ⟨2, 0, h', none, 0, 0⟩) (s := qJ d.b) (ty.on (v.tt P)) (ev ▸ C6 ov) (by omega) λc' n' => ⟨_, rfl, ?_⟩
  have j := P.tt n'
  cases c2 : oM d (qJ d.b) with
  | false => rw [if_pos (by decide)]; exact bad c' j (λe => by rw [c2] at e; cases e.2.1)
  | true =>
  rw [if_neg (show ¬ (!true) = true by decide)]
  refine ⟨_, _, _, cB (j.get E id) rfl, qp.walk ⟨_, rfl, (Fr.refl _ _).kp, ?_⟩⟩
  rw [lb, bJ (n := 2 * (s : Int)) (by omega) (by omega)]
  by_cases c3 : d.b.length = 2 * s
  case neg => rw [show (((d.b.length : Nat) : Int) != 2 * (s : Int)) = true by simp only [bne_iff_ne, ne_eq]; omega]; exact bad c' j (λe => c3 e.2.2)
  rw [show (((d.b.length : Nat) : Int) != 2 * (s : Int)) = false by simp only [bne_eq_false_iff_eq]; omega]
  clear bad
  rw [if_pos ⟨c1, c2, c3⟩] at b
  subst d'
  try dsimp only
  rw [if_neg (show ¬ false = true by decide)]
  have G := F6.tt j
  have b' : ∀{g}, Fr No h g → mA g (λ_ => True) (cY x.s.Sp x.s.P6 0 4) ((Int.toNat (n : Int)) - 0) (x.s.P6 - 0) (y.take n) := fun {g} F => by
    have Z := (L.frame F (λ_ _ => id)).row.sub (cap := x.cl) (l := 0) (u := n) (sz := 4) (Nat.zero_le _) (by have := L.cap; omega)
    rw [mW iR 4 gU, Nat.zero_mul, List.drop_zero] at Z
    have hc : x.ll ≤ x.cl := L.cap
    exact ⟨by rw [List.length_take]; omega, Z, λ_ _ _ => trivial, by show n - 0 ≤ x.cl - 0; omega⟩
  have cc : n ≤ x.s.P6 := by have hc : x.ll ≤ x.cl := L.cap; show n ≤ x.cl; omega
  have rt : dM (T.l.take n) ≤ dM T.l := oG _ _
  refine ⟨_, _, _, cB ((v.tt j).get w id) rfl, ⟨by omega, by omega⟩, GK U (g'.tt G) (b' G) ((o.on G).take n) (by omega) e'.1 e'.2 (λbs hs Q A' u' r' z' nb r => ⟨_, _, _, _, rfl, ?_⟩) (λhs Q r => ⟨_, _, _, _, rfl, ?_⟩)⟩
  · rw [if_neg (by decide)]
    rw [hs] at b
    dsimp only at b
    refine ⟨_, _, _, cB ((j.tt r).get E id) rfl, kz r' (i' (j.tt r)) rfl lb ⟨_, rfl, ?_⟩⟩
    have B := G.tt r
    by_cases C : bs = d.b
    · rw [decide_eq_true C, if_neg (show ¬ (!true) = true by decide)]
      rw [if_pos C] at b
      exact ⟨_, _, _, cB (((v.tt j).tt r).get w id) rfl, ⟨by omega, by omega⟩, f' (T.l.take n) (y.take n) (b' B) ((o.on B).take n) rt B b⟩
    · rw [decide_eq_false C, if_pos (show (!false) = true by decide)]
      rw [if_neg C] at b
      exact K 10 b (by decide) Q B
  · rw [if_pos (by decide)]
    rw [hs] at b
    exact K 3 b (by decide) Q (G.tt r)

end Bn
end
section
namespace Bn
open Cb
open jH (Ev du lB)
variable {V:cG→Bool} {h a H:ai} {R:fM}
variable {T:List Tr} {i:Nat} {t:Tr} {e:Int}
abbrev Prim.s(p:Prim):aE.S:=⟨p.fl,p.sum,p.dest.lD,p.dest.node,p.dest.gL,p.dest.host,p.dest.jZ,p.rep.lD,p.rep.node,p.rep.gL,p.rep.host,p.rep.jZ,p.id.e.lD,p.id.e.node,p.id.e.gL,p.id.e.host,p.id.e.jZ,p.id.tm,p.id.sq,p.fT⟩
def Prim.wf(p:Prim):Prop:=0<=p.dest.gL/\0<=p.rep.gL/\0<=p.id.e.gL
variable {p:Prim}
theorem TT{b:Nat}{y:aE.S}(x:Prim){K:aE.S->ai->Prop}(c:aE.fE h b y)(j: ∀H,Fr (λy=>y=b) h H->K x.s H):
  aE.dt h (AA b 0) x.s λg=>aE.cC g (AA b 0) λr=>K r g:=
 aE.gY (x:=x.s) c λg d f _=>aE.fy d (j g f)
theorem LN(p:Prim)(x: hM h R (.B (jv p))):Cl 204 #[p.s.agg] h R:=by
 refine Ca.walk (aE.cW λb m E c f=>⟨_,au c,?_⟩);have n: ∀g,Fr No h g->jv p=false->R (.B false) g:=λg y e=>by have:=x g y;rw[e]at this;exact this
 change if Tn (p.fl:Int) 409638=true then _ else _
 by_cases C:Tn (p.fl:Int) 409638=true
 case neg=>rw[ae C];exact n m f (by unfold jv;simp[C])
 rw[af C];refine⟨_,au c,?_⟩;by_cases d:0<=p.sum
 case neg=>rw[ae (by simp only[aW];exact d)];exact n m f (by unfold jv;simp[d])
 rw[af (av d)];refine⟨_,au c,?_⟩;by_cases j:p.sum<=2
 case neg=>rw[ae (by simp only[aW];exact j)];exact n m f (by unfold jv;simp[j])
 rw[af (av j)];refine iV p.dest c rfl rfl rfl rfl rfl (jH.fK p.dest λz k=>⟨_,rfl,?_⟩);cases o:du p.dest with
 |false=>exact n z (f.tt k) (by unfold jv;simp[o])
 |true=>
 rw[af rfl];have v:=k.get c id;refine iV p.rep v rfl rfl rfl rfl rfl (jH.fK p.rep λA s=>⟨_,rfl,?_⟩);have F:=f.tt (k.tt s);cases q:du p.rep with
 |false=>exact n A F (by unfold jv;simp[q])
 |true=>
 rw[af rfl];have w:=s.get v id;refine AD p.id w rfl rfl rfl rfl rfl rfl rfl (sH p.id λu l=>⟨_,rfl,?_⟩);cases r:hY p.id with
 |false=>exact n u (F.tt l) (by unfold jv;simp[r])
 |true=>
 rw[af rfl];refine⟨_,au (l.get w id),?_⟩;have:=x u (F.tt l);unfold jv at this;rw[C,av d,av j,o,q,r]at this;rw[show decide ((p.s.f19:Int)<=1099511627776)=decide (p.fT<=1099511627776)from k7 p.fT 1099511627776];exact this
theorem Dc(h:jv p=true):0<=p.sum/\p.sum<=2/\du p.dest=true/\du p.rep=true/\hY p.id=true/\p.fT<=1099511627776:=by
 unfold jv at h;simp only[aV,aW]at h;exact⟨h.1.1.1.1.1.2,h.1.1.1.1.2,h.1.1.1.2,h.1.1.2,h.1.2,h.2⟩
theorem AI(h:jv p=true):dM (Gh p)<=1000:=by
 obtain⟨_,_,A,b,c,_⟩:=Dc h;have:=na _ A;have:=na _ b;have:=na _ (AE c).1;simp only[Gh,dM,room,bE];omega
theorem AJ(h:ot V T i=.ok t):room t<=dM T+30:=by
 unfold ot at h;split at h
 .split at h
  .split at h
   .split at h
    .cases h
    .rename_i b c;split at h
     .cases h;have:b.length<=4:=by
       unfold sumOf at c;split at c
       .cases c;split<;>simp[D8,Kd]
       .cases c
      simp only[room,iU,dM,bE];omega
     .cases h
   .split at h
    .cases h;simp only[room,bE];omega
    .cases h
  .cases h
 .cases h
theorem AK(h:ou V p=.ok t):room t<=1100:=by
 unfold ou at h;split at h
 .rename_i b;have:=AJ h;have:=AI b;omega
 .cases h
theorem OC(p:Prim)(w:p.wf)(U:ky V a)(p':Fr No a h)(x: ∀t,ou V p=.ok t->∀H z,tT H (λy=>h.size<=y) t z->Fr No h H->R (.T #[z.agg,.I 0]) H)(K: ∀e,ou V p=.error e->hM h R (.T #[zv.agg,.I e])):Cl 163 #[p.s.agg] h R:=by
 refine Cd.walk (aE.cW λq' h1 eb hb M=>aa.cW λb1 h2 r' a' n=>aE.fy (x:=p.s) (n.get hb id) (LN p λh3 j=>⟨_,rfl,?_⟩));have k:=(n.tt j).get hb id;have u:=j.get a' id;have d:=M.tt (n.tt j);have z1:=M.1;have F':=aD a';have z3:=j.1;unfold ou at x K;cases l:jv p with
 |false=>exact Ei u λh4 f4=>K 3 (by rw[l,dy]) h4 (d.fresh f4 (λy e=>ag))
 |true=>
 rw[dy];rw[l,af rfl]at x K;obtain⟨s0,s2,eD,eR,J,_⟩:=Dc l;have hE:=(AE J).1;refine iV p.dest k rfl rfl rfl rfl rfl (xa p.dest w.1 (λ_ h5 Z td f5=>aa.ex Z.s ⟨_,rfl,aa.fJ (x:=Z.s) λb2 h7 s' g' f7=> ?_⟩) (λe=>by rw[eD]at e;cases e));have E:=f5.tt f7;refine iV p.rep (E.get k id) rfl rfl rfl rfl rfl (xa p.rep w.2.1 (λ_ h8 m tr q=>aa.ex m.s ⟨_,rfl,aa.fJ (x:=m.s) λb3 w' t' i' g=> ?_⟩) (λe=>by rw[eR]at e;cases e));have C:=E.tt (q.tt g);refine AD p.id (C.get k id) rfl rfl rfl rfl rfl rfl rfl (C8 p.id w.2.2 (λ_ x' B ti b=>aa.ex B.s ⟨_,rfl,aa.fJ (x:=B.s) λb4 y' u' b' f=> ?_⟩) (λe=>by rw[J]at e;cases e));have D:=C.tt (b.tt f);have v:=D.get k id;have h':=(q.tt (g.tt (b.tt f))).get g' id;have j':=(b.tt f).get i' id;obtain⟨ik,D',ib,il,iv,ys,L,I⟩:=gP.kn (ti.u.on f);have lI:(Oa p.id).l.length=2:=rfl;have li:B.s.Fl=2:=il;obtain⟨a0,y0,c',k',n',_⟩:=elem L I (i:=0) ag;obtain⟨a1,A,d',l',o',_⟩:=elem L I (i:=1) ag;refine⟨_,au v,_,au v,aa.fy h' ⟨_,_,_,au b',ag,bR.2 ⟨a0,c',aa.jR (x:=y0.s) k' (aa.fy j' ⟨_,_,_,au b',ag,bR.2 ⟨a1,d',aa.jR (x:=A.s) l' ⟨_,au v,?_⟩⟩⟩)⟩⟩⟩;obtain⟨s,hs⟩:=eI s0;have es:p.sum.toNat=s:=ag
 refine gB (n:=7) λz' O=>aa.ex (nv 7).s ⟨rfl,O.kp,gB (n:=p.fl) λA' P=>aa.ex (nv p.fl).s ⟨rfl,P.kp,?_⟩⟩
 rw[show p.s.f1=(s:Int)from hs,wrap_u64 (n:=(s:Int)) ag ag];refine gB (n:=s) λB' Q=>aa.ex (nv s).s ⟨rfl,Q.kp,gB (n:=p.fT) λC' S=>aa.ex (nv p.fT).s ⟨rfl,S.kp,o0 (ys:= [nv 7,nv p.fl,nv s,Z,y0,m,A,nv p.fT]) rfl λb5 e' v' L5 X=>⟨X.kp,?_⟩⟩⟩
 have G:=O.tt (P.tt (Q.tt (S.tt X)));have T5:Cg e' (Gh p) [nv 7,nv p.fl,nv s,Z,y0,m,A,nv p.fT]:=by
  unfold Gh;rw[es];exact .cons nB (.cons nB (.cons nB (.cons (td.u.on (f7.tt (q.tt (g.tt (b.tt (f.tt G)))))) (.cons (n'.on G) (.cons (tr.u.on (g.tt (b.tt (f.tt G)))) (.cons (o'.on G) (.cons nB .nil)))))))
 have F:=D.tt G;have rp:=AI l;refine Ki (i:=2) U (p'.tt (d.tt F)) (L5 (λ_=>True) trivial) T5 ag ag (λt ht f' z tz c=>aa.ex z.s ⟨_,rfl,?_⟩) (λe he f' c=>aa.ex zv.s ⟨_,rfl,?_⟩)
 .have E':=F.1;exact fin ((F.tt c).get u id) tz (λy hy e=>ag) λr m' o=>x t ht r z (m'.mono λy hy=>ag) ((d.tt (F.tt c)).fresh o (λy e=>ag))
 .exact Ei ((F.tt c).get u id) λr o=>K e he r ((d.tt (F.tt c)).fresh o (λy e=>ag))
theorem Dd(h:ot V T i=.error e):e≠0:=by
 unfold ot at h;split at h
 .split at h
  .split at h
   .split at h
    .rename_i b;cases h;unfold sumOf at b;split at b
     .cases b
     .cases b;decide
    .split at h
     .cases h
     .cases h;decide
   .split at h
    .cases h
    .cases h;decide
  .cases h;decide
 .cases h;decide
theorem LO(h:ou V p=.error e):e≠0:=by
 unfold ou at h;split at h
 .exact Dd h
 .cases h;decide
theorem OD(p:Prim)(w:p.wf)(U:ky V a)(u:Fr No a h)(d: ∀H z q,(∀t,ou V p=.ok t->q=0/\Eh H t z)->(∀e,ou V p=.error e->q≠0)->Fr No h H->R (.T #[z.s.agg,.I q]) H):Cl 163 #[p.s.agg] h R:=
 OC p w U u (λt c H z g f=>d H z 0 (λj e=>by rw[c]at e;cases e;exact⟨rfl,g.u⟩) (λe b=>by rw[c]at b;cases b) f) (λe b H f=>d H zv e (λt c=>by rw[b]at c;cases c) (λ_ _=>LO b) f)
theorem OE{x:CV}(U:ky V a)(z':Fr No a h)(mx:nV.Mx h)(tx:Eh h t x)(hr:room t<=400000)(k1: ∀p,tR V t=.ok p->p.wf->hM h R (.T #[p.s.agg,.I 0]))(k2: ∀e,tR V t=.error e->e≠0->hM h R (.T #[Prim.zero.s.agg,.I e])):Cl 115 #[x.agg] h R:=by
 have rl:=kZ (t:=t);refine Ee.walk (x:=x.s) (aa.cW λp' K eb hb f1=>aE.cW λb1 h2 f0 k' f2=>aa.fy (f2.get hb id) ?_);have n:=f1.tt f2;have c3:=f2.get hb id;have zb:=aD hb;have i4:=aD k';have z1:=f1.1;have z2:=f2.1;have no: ∀g e,Fr No h2 g->tR V t=.error e->e≠0->aE.dt g (AA b1 0) .z λG=>aE.cC G (AA b1 0) λr=>R (.T #[r.agg,.I e]) G:=λg e j P hn=>
  TT .zero (j.get k' id) λG j'=>k2 e P hn G ((n.tt j).fresh j' (λy e=>ag))
 have b:tR V t=tR V t:=rfl;conv at b=>rhs;unfold tR
 refine zt (i:=2) U (z'.tt n) (tx.on n) ag ag (λu c ru v p zs e9 L TS F=>⟨_,_,_,_,rfl,?_⟩) (λe P hn v F=>⟨_,_,_,_,rfl,?_⟩)
 case refine_2=>
  rw[af (cQ hn)];exact no v e F (by rw[b,P]) hn
 rw[dy];rw[c]at b;dsimp only at b;have ln:=TS.len;have l9:=ie u;by_cases l8:u.length=8
 case neg=>
  rw[af (by simp only[dw,fj];omega)];exact no v 3 F (by rw[b,ae l8]) dT
 rw[ae (by simp only[dw,fj];omega)];rw[af l8]at b;have z3:=F.1;have I: ∀i,i<8->∃(A:Addr)(y:CV),p=some A/\dO (A.add (i*4)) y.s.l 0 v/\Eh v (at_ u i) y/\(∀{g},Fr No v g->aT g ((A.add (i*4)).add 1)=some (.U ((at_ u i).n:Int))):=λi hi=>by
  obtain⟨A,y,ea,hh,ty,_⟩:=elem L TS (i:=i) ag;obtain⟨_,yn,_⟩:=gP.kn ty;exact⟨A,y,ea,hh,ty.u,λj=>j.cell (by have:=hh.2.1;rw[<-yn];exact this) id⟩
 have g': ∀i,i<8->room (at_ u i)<=dM u:=λi hi=>jd ag
 obtain⟨a3,y3,M',d4,e4,_⟩:=I 3 ag;have r3:=g' 3 ag;have r5:=g' 5 ag;have r4:=g' 4 ag;have r6:=g' 6 ag;have u2:=z'.tt n;have m2:=mx.on n;refine⟨ag,bR.2 ⟨a3,M',aa.jR (x:=y3.s) d4 (El U (u2.tt F) (m2.on F) e4 ag λd qd ⟨d2,d3,wd⟩ h6 f6=>ax.ex d.s ⟨_,rfl,ax.fJ (x:=d.s) λb2 h8 f5 c4 f8=> ?_⟩)⟩⟩;obtain⟨a5,y5,P',d6,e6,_⟩:=I 5 ag;have w:=f6.tt f8;refine⟨ag,bR.2 ⟨a5,P',aa.jR (x:=y5.s) (l6 w id d6) (El U (u2.tt (F.tt w)) (m2.on (F.tt w)) (e6.on w) ag λr qr ⟨e0,e1,wr⟩ h9 f9=>ax.ex r.s ⟨_,rfl,ax.fJ (x:=r.s) λb3 x' f7 c6 r'=>aG.of λA' hJ=> ?_⟩)⟩⟩;obtain⟨a4,y4,O',d5,e5,_⟩:=I 4 ag;obtain⟨a6,y6,Q',d7,e7,_⟩:=I 6 ag;have m:=w.tt (f9.tt r');have c5:=(f9.tt r').get c4 id;have i':=u2.tt (F.tt m);have e':=m2.on (F.tt m);have h': ∀g l' (X:jl) (q:Int),ah.fE g l' X.s->Fr No x' g->IQ V (sR [at_ u 4,at_ u 6]) X q->A' (Sa l' 0) q g:=by
  intro g l' X q hs j ⟨d8,d9,wq⟩;have B:=m.tt j;obtain⟨D',w1,R',_,_,G'⟩:=I 1 ag;obtain⟨E',w2,S',_,_,H'⟩:=I 2 ag;obtain⟨F',w7,T',_,_,I'⟩:=I 7 ag;subst hJ;dsimp only;refine⟨ag,bR.2 ⟨D',R',_,G' B,ag,bR.2 ⟨E',S',_,H' B,ax.fy (j.get c5 id) (ax.fy (j.get c6 id) (aw.2 (ah.fy hs ⟨ag,bR.2 ⟨F',T',_,I' B,?_⟩⟩)))⟩⟩⟩;have n2:(at_ u 2).n<=2:=by
   have:0<=typeAt u 2:=by
    unfold qo at c;split at c
    .rename_i K;have key: ∀k,2<k->typeAt (t.l.take k) 2=typeAt t.l 2:=λk hk=>by
      unfold typeAt at_;rw[bh,bh,da,af hk,bA];exact ite_congr (propext (by constructor<;>(rintro⟨A,p'⟩;exact⟨ag,p'⟩))) (λ_=>rfl) (λ_=>rfl)
     split at c
     .cases c;exact K.2.2
     .split at c
      .rename_i h2;split at c
       .cases c
       .split at c
        .cases c;rw[key _ h2.1];exact K.2.2
        .cases c
      .cases c
    .cases c
   unfold typeAt at this;split at this
   .rename_i K;exact K.2.1
   .omega
  refine aE.cW λb4 g6 g0 c7 s'=>⟨s'.kp,?_⟩
  rw[bJ (n:=(((at_ u 2).n:Nat):Int)) ag ag];refine aE.gY (x:=(wW u d r X).s) c7 λa7 q' U' _=>aE.fy q' ?_
  have zg:=B.1;have m':Fr No h2 a7:=(F.tt (B.tt s')).fresh U' (λy e=>ag);refine OD (wW u d r X) ⟨wd,wr,wq⟩ U (u2.tt m') λg7 z qz e2 e3 V'=>aa.ex z.s ⟨_,rfl,aa.fJ (x:=z.s) λb5 M g1 c8 t'=>aG.of λJ1 y'=> ?_⟩
  have n':=V'.tt t';have C:=m'.tt n';have bad: ∀g,Fr No M g->tR V t=.error 3->J1 true g:=λg j P=>by
   subst y';try dsimp only
   rw[af rfl];exact no g 3 (C.tt j) P dT
  by_cases Q:qd=0
  case neg=>rw[af (cQ Q)];exact bad M (Fr.refl _ _) (by rw[b,d3 Q])
  rw[ae (cQ Q)];by_cases S:qr=0
  case neg=>rw[af (cQ S)];exact bad M (Fr.refl _ _) (by rw[b,e1 S];cases oV V (at_ u 3)<;>rfl)
  rw[ae (cQ S)];by_cases Z:q=0
  case neg=>rw[af (cQ Z)];exact bad M (Fr.refl _ _) (by rw[b,d9 Z];cases oV V (at_ u 3)<;>cases oV V (at_ u 5)<;>rfl)
  rw[ae (cQ Z)];rw[d2 Q,e0 S,d8 Z]at b;dsimp only at b;cases O:ou V (wW u d r X)with
  |error e=>
   rw[O]at b;rw[af (cQ (e3 e O))];exact bad M (Fr.refl _ _) b
  |ok o'=>
   rw[O]at b;dsimp only at b;obtain⟨rfl,l⟩:=e2 o' O;rw[dy];have ra:=AK O;refine aa.fy c8 (aa.fy (x:=x.s) (C.get c3 id) (jw (x:=z) (y:=x) (l.on t') (tx.on (n.tt C)) ag λa8 a'=>⟨_,rfl,?_⟩));cases hs:oM o' t with
   |false=>exact bad a8 a' (by rw[b,ae (by rw[hs];decide)])
   |true=>
    rw[hs,af rfl]at b;subst y';try dsimp only
    rw[dy];exact aE.fy ((n'.tt a').get q' id) (TT (wW u d r X) ((C.tt a').get k' id) λG j'=>k1 _ b ⟨wd,wr,wq⟩ G ((n.tt (C.tt a')).fresh j' (λy e=>ag)))
 have rI:dM [at_ u 4,at_ u 6]<=2*dM u:=by simp only[dM];omega
 have f':room (sR [at_ u 4,at_ u 6])<=900000:=by simp only[room,bE];omega
 refine⟨ag,bR.2 ⟨a4,O',aa.jR (x:=y4.s) (l6 m id d5) ⟨ag,bR.2 ⟨a6,Q',aa.jR (x:=y6.s) (l6 m id d7) ?_⟩⟩⟩⟩;have T2:Cg x' [at_ u 4,at_ u 6] [y4,y6]:=two (e5.on m) (e7.on m);refine⟨o0 (ys:= [y4,y6]) rfl λb6 g8 g2 L6 f=>⟨?_,?_,trivial⟩,ah.cW λC' i0 f3 c2 E=>⟨E.kp,o0 (ys:= [y4,y6]) rfl λe8 i1 f4 B' J=> ?_⟩,trivial⟩
 .refine km (L6 (λ_=>True) trivial) (T2.on f) ag λg9 z l o=>aa.ex z.s ⟨rfl,?_,?_,trivial⟩
  .exact Em U (i'.tt (f.tt o)) (e'.on (f.tt o)) l.u f' λX q s h0 X'=>ah.ex X.s ⟨_,rfl,ah.fJ (x:=X.s) λb7 a9 g3 c9 Z'=>h' a9 b7 X q c9 (f.tt (o.tt (X'.tt Z'))) s⟩
  .refine ah.cW λb8 h1 g4 d0 b'=>Em U (i'.tt (f.tt (o.tt b'))) (e'.on (f.tt (o.tt b'))) (l.u.on b') f' λX q s h3 u'=>ah.ex X.s ⟨_,rfl,ah.gY (x:=X.s) (u'.get d0 id) λb0 J' a0 _=>h' b0 b8 X q J' ?_ s⟩
   exact(f.tt (o.tt (b'.tt u'))).fresh a0 (λy e=>iL f.1 o.1)
 .refine ah.cW λb9 h4 g5 d1 D=>km ((L6 (λ_=>True) trivial).frame D bX) (T2.on (f.tt D)) ag λh5 z l c'=>aa.ex z.s ⟨rfl,Em U (i'.tt (f.tt (D.tt c'))) (e'.on (f.tt (D.tt c'))) l.u f' λX q s h7 v'=>ah.ex X.s ⟨_,rfl,ah.gY (x:=X.s) ((c'.tt v').get d1 id) λc0 K' a1 _=>h' c0 b9 X q K' ?_ s⟩⟩
  exact(f.tt (D.tt (c'.tt v'))).fresh a1 (λy e=>bW f.1)
 .refine km (B' (λ_=>True) trivial) (T2.on (E.tt J)) ag λi2 z l d'=>aa.ex z.s ⟨rfl,Em U (i'.tt (E.tt (J.tt d'))) (e'.on (E.tt (J.tt d'))) l.u f' λX q s i3 w'=>ah.ex X.s ⟨_,rfl,ah.gY (x:=X.s) ((J.tt (d'.tt w')).get c2 id) λc1 L' a2 _=>h' c1 C' X q L' ?_ s⟩⟩
  exact(E.tt (J.tt (d'.tt w'))).fresh a2 (λy e=>ag)

end Bn
end
section
variable {h:ai} {R:fM}
variable {a L:ct} {d D l c:Nat} {b:az.S}
theorem IT.walk(o:aa.NW h λb k=>Cl 114 #[.L a d D,.I 0] k λv m=>aa.EX λi=> ∃q j,v=.T #[i.agg,.I q,.I j]/\aa.NW m λB n=>aa.dt n (AA B 0) i λH=>aa.cC H (AA B 0) λt=>if(j==0)then Cl 279 #[.L a d D] H λV e=> ∃T,V=.B T/\Kp H e [(Sa B 0)]/\aa.dt e (AA b 0) t λf=>aa.cC f (AA b 0) λr=>R (.T #[r.agg,.B T]) f else aa.dt H (AA b 0) t λg=>aa.cC g (AA b 0) λp=>R (.T #[p.agg,.B false]) g):Cl 258 #[.L a d D] h R:=aR [(5,λ_=>pK 9)] Tryz.func258 o
theorem AL.walk(s:ax.NW h λb n=>Cl 258 #[.L a d D] n λv o=>aa.EX λt=> ∃T,v=.T #[t.agg,.B T]/\aa.NW o λB p=>aa.dt p (AA B 0) t λf=>aa.cC f (AA B 0) λx=>Cl 160 #[x.agg] f λV q=>ax.EX λj=> ∃k,V=.T #[j.agg,.I k]/\ax.NW q λe r=>ax.dt r (AA e 0) j λH=>ax.cC H (AA e 0) λm=>if T then ax.dt H (AA b 0) m λg=>ax.cC g (AA b 0) λu=>R (.T #[u.agg,.B (k==0)]) g else ax.dt H (AA b 0) m λi=>ax.cC i (AA b 0) λw=>R (.T #[w.agg,.B false]) i):Cl 244 #[.L a d D] h R:=aR [] Tryz.func244 s
theorem LP.walk(o:Cl 258 #[.L a d D] h λv m=>aa.EX λj=> ∃k,v=.T #[j.agg,.B k]/\aa.NW m λb n=>aa.dt n (AA b 0) j λH=> ∃t,Cc H b 1 (.U t)/\if k then aa.cC H (AA b 0) λp=>Hu H b 1 λq=>Cl 199 #[.U q] H λV f=>aa.EX λT=>V=T.agg/\Kp H f [(Sa b 0),(Sa b 1)]/\Cl 164 #[p.agg,T.agg] f λr e=> ∃g,r=.B g/\Kp f e [(Sa b 1)]/\if g then∃i,Cc e b 1 (.U i)/\R (.T #[.U t,.B (decide (i<=1099511627776))]) e else R (.T #[.U t,.B false]) e else R (.T #[.U t,.B false]) H):Cl 241 #[.L a d D] h R:=aR [(5,λ_=>pK 17)] Tryz.func241 o
theorem IU.walk(u:Cl 258 #[.L a d D] h λv r=>aa.EX λj=> ∃k,v=.T #[j.agg,.B k]/\aa.NW r λb s=>aa.dt s (AA b 0) j λe=>aG (λ(y:Bool) (H:ai)=>if y then R (.T #[.U 0,.U 0,.B false]) H else Hl H b 3 λC z _=>Bd 0 z/\aN C λA=>gz H ((A.add (toNat 0*4)).add 1) λt=>Hl H b 3 λF E _=>Bd 1 E/\aN F λq=>gz H ((q.add (toNat 1*4)).add 1) λT=>aa.cC H (AA b 0) λG=>bg H (.C #[.U t,.U T] 27) λB g=>Kp H g [(Sa b 0)]/\Cl 208 #[.L (Sa B 0) 2 2] g λV i=>aa.EX λo=>V=o.agg/\Kp g i [(Sa b 0)]/\Cl 164 #[G.agg,o.agg] i λI f=> ∃p,I=.B p/\if p then if(decide (t≥1))then if(decide (t<=255))then R (.T #[.U t,.U T,.B (decide (T<=t))]) f else R (.T #[.U t,.U T,.B false]) f else R (.T #[.U t,.U T,.B false]) f else R (.T #[.U t,.U T,.B false]) f) (λJ=>if(!k)then J true e else∃m,Cc e b 0 (.I m)/\if(m !=4)then J true e else∃x n w,Cc e b 3 (.L x n w)/\J (((n:Nat):Int) !=2) e)):Cl 245 #[.L a d D] h R:=aR [(6,.join [(26,.one (.bool))]),(13,λ_=>pK 12),(15,λ_=>pK 24)] Tryz.func245 u
theorem Cj.walk(x:aa.NW h λb q=>Cl 162 #[.Z] q λv r=>aa.EX λo=>v=o.agg/\aa.NW r λB s=>aa.dt s (AA B 0) o λu=> ∃(I:Int->ai->Prop)(m:Int->ai->Nat),I 0 u/\∀(t:Int)(H:ai),I t H->if(decide (t<(l:Int)))then Bd t l/\aN L λA=>gz H (A.add (toNat t*1)) λz=>Hl H B 3 λF E C=>Cl 199 #[.U z] H λV e=>aa.EX λT=>V=T.agg/\Kp H e [(Sa B 3)]/\bg e (.C T.arr 198) λp g=>Kp e g [(Sa B 3)]/\ba Tryz.prog (Builtin.append_ #[196,196] 196 #[.L F E C,.L (Sa p 0) 1 1]) g λJ w=> ∃n k j,J=.L n k j/\aJ w (AA B 3) (.L n k j) λi=>(I (wrap .i64 (t+1)) i/\m (wrap .i64 (t+1)) i<m t H)else aa.cC H (AA B 0) λG=>aa.dt H (AA b 0) G λf=>aa.cC f (AA b 0) λy=>R (y.agg) f):Cl 208 #[.L L l c] h R:=aR [(8,.loop [(9,.one (.int .i64))]),(19,λ_=>pK 8)] Tryz.func208 x
theorem Er.walk{k:Int} (r:aG (λ(O:Bool) (H:ai)=>if O then R (.B (decide ((d:Int)<=200))) H else R (.B false) H) (λJ=>aG (λ(s:Bool) (i:ai)=>J s i) (λj=>if(k==6)then Cl 244 #[.L a d D] h λv m=>ax.EX λx=> ∃t,v=.T #[x.agg,.B t]/\j t m else aG (λ(u:Bool) (n:ai)=>j u n) (λe=>if(k==7)then Cl 241 #[.L a d D] h λV o=> ∃y T,V=.T #[.U y,.B T]/\e T o else aG (λ(w:Bool) (p:ai)=>e w p) (λf=>if(k==10)then Cl 245 #[.L a d D] h λB q=> ∃z A g,B=.T #[.U z,.U A,.B g]/\f g q else f true h))))):Cl 214 #[.U k,.L a d D] h R:=aR [(7,.join [(5,.one (.bool))]),(10,.join [(5,.one (.bool))]),(14,.join [(5,.one (.bool))]),(18,.join [(5,.one (.bool))])] Tryz.func214 r
theorem Es.walk(e:Cl 242 #[.L L l c,.func (.func 243) #[] #[]] h λv H=> ∃t,v=.B t/\R (.B (!t)) H):Cl 213 #[.L L l c] h R:=aR [] Tryz.func213 e
theorem AM.walk{n:Int}(H:if(decide (n<1))then R (.B true) h else R (.B (decide (n>255))) h):Cl 243 #[.U n] h R:=aR [] Tryz.func243 H
theorem GL.walk(n:bg h (.C b.arr 204) λB e=>Hu e B 0 λs=>Hu e B 1 λu=>bg e (.C #[.U s,.U u] 27) λj k=>Cl 213 #[.L (Sa j 0) 2 2] k λv H=> ∃i,v=.B i/\if i then∃t,Cc H B 2 (.U t)/\if((wrap .u64 ((nR t &&& ~~~ nR 23).toNat:Int))==0)then∃T,Cc H B 3 (.I T)/\if(decide (T≥0))then∃f,Cc H B 3 (.I f)/\if(decide (f<=2))then Hu H B 0 λo=>Hl H B 4 λr q p=>Cl 214 #[.U o,.L r q p] H λV m=> ∃g,V=.B g/\R (.B g) m else R (.B false) H else R (.B false) H else R (.B false) H else R (.B false) H):Cl 173 #[b.agg] h R:=aR [] Tryz.func173 n
theorem GM.walk(M:bg h (.C b.arr 204) λB E=>aa.NW E λe g=>az.cC g (AA B 0) λQ=>Cl 173 #[Q.agg] g λv H=> ∃z,v=.B z/\if(!z)then aa.dt H (AA e 0) aa.S.z λi=>aa.cC i (AA e 0) λO=>R (.T #[O.agg,.I 3]) i else∃T,Cc H B 0 (.U T)/\∃k,Cc H B 1 (.U k)/\∃m,Cc H B 2 (.U m)/\∃n,Cc H B 3 (.I n)/\bg H (.C #[.U T,.U k,.U m,.U (wrap .u64 n)] 27) λA G=>Cl 208 #[.L (Sa A 0) 4 4] G λV j=>aa.EX λt=>V=t.agg/\∃q p o,Cc j B 4 (.L q p o)/\Cl 196 #[.L q p o] j λS I=>aa.EX λr=>S=r.agg/\bg I (.C r.arr 198) λC J=>ba Tryz.prog (Builtin.append_ #[196,196] 196 #[.L t.Sp t.Fl t.P6,.L (Sa C 0) 1 1]) J λU K=> ∃w u s,U=.L w u s/\Cl 206 #[.L w u s,.I 3] K λX F=>aa.EX λx=> ∃y,X=.T #[x.agg,.I y]/\aa.dt F (AA e 0) x λf=>aa.cC f (AA e 0) λP=>R (.T #[P.agg,.I y]) f):Cl 165 #[b.agg] h R:=aR [] Tryz.func165 M
theorem IW.walk{x:aa.S} (hv:bg h (.C x.arr 198) λb l'=>az.NW l' λB F=>aa.cC F (AA b 0) λu'=>Cl 159 #[u'.agg,.I 3] F λC' j=> ∃T t v' o,C'=.T #[.L T t v',.I o]/\if(o !=0)then az.dt j (AA B 0) az.S.z λG=>az.cC G (AA B 0) λr0=>R (.T #[r0.agg,.I o]) G else aG (λ(w':Bool) (H:ai)=>if w' then az.dt H (AA B 0) az.S.z λI=>az.cC I (AA B 0) λr'=>R (.T #[r'.agg,.I 3]) I else aG (λ(s:ct) (K:ai)=>aN s λi'=>az.cC K i' λx'=>Cl 165 #[x'.agg] K λD' p'=>aa.EX λf'=> ∃g',D'=.T #[f'.agg,.I g']/\aa.NW p' λu q'=>aa.dt q' (AA u 0) f' λi=>aG (λ(A':Bool) (k:ai)=>if A' then az.dt k (AA B 0) az.S.z λy=>az.cC y (AA B 0) λs'=>R (.T #[s'.agg,.I 3]) y else aN s λj'=>az.cC k j' λB'=>az.dt k (AA B 0) B' λz=>az.cC z (AA B 0) λt'=>R (.T #[t'.agg,.I 0]) z) (λq=>if(g' !=0)then q true i else aa.cC i (AA u 0) λy'=>aa.cC i (AA b 0) λz'=>Cl 164 #[y'.agg,z'.agg] i λE' m'=> ∃h',E'=.B h'/\q (!h') m')) (λp=>Bd 0 t/\aN T λA=>gz H ((A.add (toNat 0*4)).add 1) λO=>Bd 1 t/\aN T λe=>gz H ((e.add (toNat 1*4)).add 1) λP=>Bd 2 t/\aN T λf=>gz H ((f.add (toNat 2*4)).add 1) λQ=>Bd 3 t/\aN T λg=>gz H ((g.add (toNat 3*4)).add 1) λS=>Bd 4 t/\aN T λr=>oL H ((r.add (toNat 4*4)).add 2) λX V U=>(Cl 54 #[.L X V U] H λF' m=> ∃d' b' Z,F'=.L d' b' Z/\Kp H m [(some ((g.add (toNat 3*4)).add 1)),(some ((f.add (toNat 2*4)).add 1)),(some ((e.add (toNat 1*4)).add 1)),(some ((A.add (toNat 0*4)).add 1))]/\az.NW m λv C=>Kp m C [(some ((g.add (toNat 3*4)).add 1)),(some ((f.add (toNat 2*4)).add 1)),(some ((e.add (toNat 1*4)).add 1)),(some ((A.add (toNat 0*4)).add 1))]/\az.dt C (AA v 0) ⟨O,P,Q,(wrap .i64 S),d',b',Z⟩ λn'=>p (Sa v 0) n')/\(az.NW H λw n=>Kp H n [(some ((r.add (toNat 4*4)).add 2)),(some ((g.add (toNat 3*4)).add 1)),(some ((f.add (toNat 2*4)).add 1)),(some ((e.add (toNat 1*4)).add 1)),(some ((A.add (toNat 0*4)).add 1))]/\Cl 54 #[.L X V U] n λG' E=> ∃e' c' a',G'=.L e' c' a'/\Kp n E [(some ((g.add (toNat 3*4)).add 1)),(some ((f.add (toNat 2*4)).add 1)),(some ((e.add (toNat 1*4)).add 1)),(some ((A.add (toNat 0*4)).add 1))]/\az.dt E (AA w 0) ⟨O,P,Q,(wrap .i64 S),e',c',a'⟩ λo'=>p (Sa w 0) o')/\True)) (λJ=>if(((t:Nat):Int) !=5)then J true j else Bd 4 t/\aN T λk'=> ∃M,aT j (k'.add (toNat 4*4))=some (.I M)/\J (M !=2) j)):Cl 116 #[x.agg] h R:=aR [(13,.join [(19,.one (.bool))]),(20,.join [(6,.one (.ptr))]),(20,λ_=> .jm (fS 21 0 (.alts (.fork 21 (fS 3 22 .done) (.fork 23 (.op 21 (.op 22 (.op 24 .done))) .ic))))),(25,.join [(66,.one (.bool))])] Tryz.func116 hv

end
section
namespace Bn
open Cb
open jH (Ev du lB)
variable {V:cG→Bool} {h a H:ai} {R:fM} {D:Nat→Prop}
variable {p:ct} {l c n i:Nat} {B:cG} {t:Tr} {u:List Tr}
theorem ux(B:cG):room (eU V B)<=10*B.length+9:=by
 unfold eU;split
 .rename_i h;have:=(rJ h).1;omega
 .simp[C1,room,dM]
theorem AN(U:ky V a)(G:Fr No a h)(C:Row h p (bc B))(A:l=B.length)(cap:B.length<=c)(X:B.length<=80000)(m: ∀H z,Eh H (eU V B) z->Fr No h H->R (.T #[z.s.agg,.B (kf V B)]) H):Cl 258 #[.L p l c] h R:=by
 refine IT.walk (aa.cW λb Q P s g=>vJ (U.mono (G.tt g)) (C.frame g bX) A cap ag (λL t x nx O T d=>aa.ex x.s ⟨_,_,rfl,aa.fJ (x:=x.s) λI M J v f=>aa.fy v ?_⟩) (λL e w d=>aa.ex zv.s ⟨_,_,rfl,aa.fJ (x:=zv.s) λI M J v f=>aa.fy v ?_⟩))
 .have F:=g.tt (d.tt f);have E:eU V B=t:=by unfold eU;rw[O]
  rw[E]at m;rw[ga];refine Gw (U.mono (G.tt F)) (C.frame F bX) A cap ag λS j=>⟨_,rfl,j.kp,aa.gY (x:=x.s) ((d.tt (f.tt j)).get s id) λr o k _=>aa.fy o (m r x ?_ ((F.tt j).fresh k (λy e=>ag)))⟩
  have zb:=aD s;exact((T.on f).on j).frame k (λy Z e=>ag)|>.u
 .have F:=g.tt (d.tt f);have E:eU V B=C1:=by unfold eU;rw[w]
  have K:kf V B=false:=by unfold kf;rw[w]
  rw[E,K]at m;rw[ae (λq=>mY w (eq_of_beq q))];exact aa.gY (x:=zv.s) ((d.tt f).get s id) λr o k _=>aa.fy o (m r zv (nB (n:=0)) (F.fresh k (λy e=>ag)))
theorem GN(U:ky V a)(s:Fr No a h)(M:nV.Mx h)(K:Row h p (bc B))(G:l=B.length)(cap:B.length<=c)(I:B.length<=80000)(g: ∀H (e:Ev),Fr No h H->R (.T #[e.s.agg,.B (kf V B && (oV V (eU V B)).isSome)]) H):Cl 244 #[.L p l c] h R:=by
 have ri:=ux (V:=V) B;refine AL.walk (ax.cW λb Z P o f=>AN U (s.tt f) (K.frame f bX) G cap I λh2 z T j=>aa.ex z.s ⟨_,rfl,aa.fJ (x:=z.s) λL h4 S x d=>aa.fy x (El U (s.tt (f.tt (j.tt d))) (M.on (f.tt (j.tt d))) (T.on d) ag λe q ⟨Q,J,_⟩ h5 v=>ax.ex e.s ⟨_,rfl,ax.fJ (x:=e.s) λO h7 X A w=>ax.fy A ?_⟩)⟩);have F:=j.tt (d.tt (v.tt w));cases r:kf V B with
 |false=>
  rw[r]at g;rw[dy];exact IS (x:=e) (F.get o id) λm k=>g m e ((f.tt F).fresh k (λy e=>ag))
 |true=>
  rw[r]at g;rw[af rfl];refine IS (x:=e) (F.get o id) λm k=> ?_
  have:=g m e ((f.tt F).fresh k (λy e=>ag));have E:(true && (oV V (eU V B)).isSome)=(q==0):=by
   by_cases C:q=0
   .rw[Q C,C];rfl
   .rw[J C,dz.2 C];rfl
  rw[E]at this;exact this
theorem Et(U:ky V a)(y:Fr No a h)(x:Row h p (bc B))(v:l=B.length)(cap:B.length<=c)(w:B.length<=80000)(d: hM h R (.T #[.U ((eU V B).n:Int),.B (Qt V B)])):Cl 241 #[.L p l c] h R:=by
 have G:=ux (V:=V) B;refine LP.walk (AN U y x v cap w λC z T k=>aa.ex z.s ⟨_,rfl,aa.fJ (x:=z.s) λA r E e F=> ?_⟩);unfold Qt at d;obtain⟨_,Z,_⟩:=gP.kn T;rw[<-Z]at d;refine⟨_,au e,?_⟩;cases q:kf V B with
 |false=>
  rw[q]at d;rw[dy];exact d r (k.tt F)
 |true=>
  rw[q]at d;rw[af rfl];refine aa.fy e ⟨_,au e,gB λs f=>aa.ex (nv z.n).s ⟨rfl,f.kp,jw (x:=z) (y:=nv z.n) (s:=num z.n) ((T.on F).on f) (nB (h:=s) (n:=z.n)) ag λm g=>⟨_,rfl,g.kp,?_⟩⟩⟩;have j:=k.tt (F.tt (f.tt g));cases o:oM (eU V B) (num z.n)with
  |false=>
   rw[o]at d;rw[dy];exact d m j
  |true=>
   rw[o]at d;rw[af rfl];refine⟨_,au ((f.tt g).get e id),?_⟩;rw[show decide ((z.n:Int)<=1099511627776)=decide (z.n<=1099511627776)from k7 z.n 1099511627776];exact d m j
abbrev nu(l:List Nat):List Value:=l.map λ(n:Nat)=> .int .u64 (n:Int)
theorem GO{l:List Nat}(M:Row h p (nu l))(hn:n=l.length)(hl:l.length<=100000)(hk: ∀H z,tT H (λy=>h.size<=y) (Gi l) z->Fr No h H->R z.s.agg H):Cl 208 #[.L p n c] h R:=by
 subst hn;refine Cj.walk (aa.cW λb f eb J m=>km (ts:= []) (ys:= []) (D:=λ_=>True) ⟨rfl,.inl rfl,λe=>absurd rfl e,bu _⟩ .nil (by simp[dM]) λh2 z T o=>aa.ex z.s ⟨rfl,aa.fJ (x:=z.s) λk h4 e' K F=> ?_⟩);have zb:=aD J;have z1:=m.1;have z2:=o.1;have z4:=F.1;have g':=aD K;have F4:=m.tt (o.tt F);have c':tT h4 (λy=>f.size<=y/\y≠k) (sR []) z:=by
  obtain⟨⟨S,U,X,a4⟩,Z,a5,v,a7,a8⟩:=T;refine⟨⟨S,U,X,((Gm a4).mono λy d=>ag).frame F bX⟩,Z,a5,v.frame F bX,λy d=>⟨a7 y d,bW (v.dL d)⟩,(dC.mono (λy d=>by have f:=d.1.1;have h2:=d.2;exact⟨⟨f,ag⟩,d.1.2⟩) a8.lt).on F⟩
 obtain⟨Z,ez,s⟩:=Oz (g0:=f) c' K ((o.tt F).mono λ_ _=>False.elim);have w:z.k=4:=T.1.1;have x:z.n=0:=T.1.2.1;have E:z.v.b= []:=T.1.2.2.1;refine⟨λt g=> ∃(i:Nat)(j:List CV)(q:ct)(C:Nat),t=(i:Int)/\i<=l.length/\j.length=i/\Lc f g k z.k z.n z.v ((l.take i).map num) j q C,λt _=>l.length - t.toNat,⟨0,Z,z.q,z.cl,rfl,bT _,?_,by rw[eV];exact s⟩,?_⟩
 .have:=s.tr.len;exact this.symm
 rintro _ g ⟨i,j,q,C,rfl,hi,d,L⟩;by_cases r:i<l.length
 case neg=>
  rw[ae (λe=>r (bW (aU e)))];rw[bF ag]at L;have b':z.v.ok g (λy=>f.size<=y/\y≠k):=⟨by rw[E];exact Row.nil,λe=>absurd E e,T.1.2.2.2.cap⟩;have O:=OA (k':=z.n) L b';rw[w,x,E]at O;refine aa.fy (x:=CV.s ⟨z.k,z.n,z.v,q,j.length,C⟩) L.dh (fin (z:=⟨z.k,z.n,z.v,q,j.length,C⟩) (t:=Gi l) (D:=λy=>f.size<=y/\y≠k) (L.fr.get J ag) (by rw[w,x];exact O) (λy d e=>ag) λI tg fg=>hk I _ (tg.mono λy d=>ag) ((m.fresh L.fr (λy e=>ag)).fresh fg (λy e=>ag)))
 rw[ga];have P:Fr No h g:=m.fresh L.fr (λy e=>ag);obtain⟨A,rfl⟩:=M.some (by intro e;have:=cf List.length e;rw[aC,bE]at this;omega);have hc:aT g (A.add (i*1))=some (.U ((l[i]:Nat):Int)):=by
  have:=(M.frame P bX).cell (j:=i) (v:=.U ((l[i]:Nat):Int)) (by rw[aL,aj r];rfl);rw[cE];exact this
 refine⟨ag,bR.2 ⟨A,rfl,_,hc,_,_,_,au L.dh,gB λh6 G=>aa.ex (nv l[i]).s ⟨rfl,G.kp,?_⟩⟩⟩;refine OB (L.on G) ag (Ss (n:=l[i])).To λI d' q' a' Q f' _ _=> ?_
 rw[bJ (n:=(i:Int)+1) ag ag];refine⟨⟨i+1,d',q',a',ag,ag,ag,?_⟩,by show l.length - Int.toNat ((i:Int)+1)<l.length - Int.toNat (i:Int);omega⟩;rw[bN,aj r,aY];exact Q
theorem IX{l:List Nat}{n:Nat}{K:Nat->ai->Prop}{c:Array Value}(d:c=(nu l).toArray)(e: ∀b H,Row H (Sa b 0) (nu l)->Fr No h H->K b H):bg h (.C c 27) K:=by
 refine cS (e _ _ (by rw[d];exact ju) (Fr.push _ _))
theorem QF(U:ky V a)(g':Fr No a h)(d':Row h p (bc B))(hl:l=B.length)(cap:B.length<=c)(c':B.length<=80000)(g: ∀H (A b:Nat),Fr No h H->R (.T #[.U (A:Int),.U (b:Int),.B (Ob V B)]) H):Cl 245 #[.L p l c] h R:=by
 have ri:=ux (V:=V) B;have rl:=kZ (t:=eU V B);refine IU.walk (AN U g' d' hl cap c' λh2 z I P=>aa.ex z.s ⟨_,rfl,aa.fJ (x:=z.s) λb1 f h' d F=>aG.of λJ x=> ?_⟩);have q:=P.tt F;unfold Ob at g;have j: ¬(kf V B=true/\(eU V B).k=4/\(eU V B).l.length=2)->J true f:=λhn=>by
  subst x;dsimp only;rw[af rfl];have:=g f 0 0 q;rw[show(kf V B && decide ((eU V B).k=4/\(eU V B).l.length=2) && oM (eU V B) (Gi [oE (eU V B),Ao (eU V B)]) && decide (1<=oE (eU V B)/\oE (eU V B)<=255/\Ao (eU V B)<=oE (eU V B)))=false by
   by_cases A:kf V B=true
   .rw[aB (λe=>hn ⟨A,e⟩)];simp
   .simp[A]]at this
  exact this
 obtain⟨zk,zn,zb,zl,i',ys,L,T⟩:=gP.kn (I.on F);cases E:kf V B with
 |false=>rw[ga];exact j (λe=>by rw[E]at e;cases e.1)
 |true=>
 rw[dy];refine⟨_,au d,?_⟩;rw[show z.s.f0=(eU V B).k from zk];by_cases k:(eU V B).k=4
 case neg=>rw[af (cQ k)];exact j (λe=>k e.2.1)
 rw[ae (cQ k)];refine⟨_,_,_,au d,?_⟩;have sl:z.s.Fl=(eU V B).l.length:=zl;rw[sl];by_cases G:(eU V B).l.length=2
 case neg=>rw[show((((eU V B).l.length:Nat):Int) !=2)=true by simp only[dw,fj];omega];exact j (λe=>G e.2.2)
 rw[show((((eU V B).l.length:Nat):Int) !=2)=false by simp only[gv];omega];clear j;rw[E,av ⟨k,G⟩]at g;subst x;dsimp only;rw[dy];obtain⟨r,y0,M,a',e',_⟩:=elem L T (i:=0) ag;obtain⟨s,y1,O,b',f',_⟩:=elem L T (i:=1) ag;have n0:=(gP.kn e').2.1;have n1:=(gP.kn f').2.1;have X:aT f ((r.add (0*4)).add 1)=some (.U ((oE (eU V B):Nat):Int)):=by have:=a'.2.1;unfold oE;rw[<-n0];exact this
 have Z:aT f ((s.add (1*4)).add 1)=some (.U ((Ao (eU V B):Nat):Int)):=by have:=b'.2.1;unfold Ao;rw[<-n1];exact this
 refine⟨_,_,_,au d,ag,bR.2 ⟨r,M,_,X,_,_,_,au d,ag,bR.2 ⟨s,O,_,Z,aa.fy d ?_⟩⟩⟩;refine IX (l:= [oE (eU V B),Ao (eU V B)]) (n:=2) rfl λb2 h5 r5 m=>⟨m.kp,GO r5 rfl (by show 2<=_;omega) λh6 w tw o=>aa.ex w.s ⟨rfl,o.kp,jw (x:=z) (y:=w) ((I.on F).on (m.tt o)) tw.u ag λS Q=>⟨_,rfl,?_⟩⟩⟩
 have K:=q.tt (m.tt (o.tt Q));have fin:=g S (oE (eU V B)) (Ao (eU V B)) K;cases y:oM (eU V B) (Gi [oE (eU V B),Ao (eU V B)])with
 |false=>rw[y]at fin;rw[dy];exact fin
 |true=>
 rw[y]at fin;rw[af rfl];change if(decide (((oE (eU V B):Nat):Int)≥1))=true then(if(decide (((oE (eU V B):Nat):Int)<=255))=true then _ else _)else _
 by_cases C:1<=oE (eU V B)
 case neg=>rw[aB (λe=>C e.1)]at fin;rw[dy];exact fin
 rw[ga];by_cases v:oE (eU V B)<=255
 case neg=>rw[aB (λe=>v e.2.1)]at fin;rw[dy];exact fin
 rw[ga];have:decide (1<=oE (eU V B)/\oE (eU V B)<=255/\Ao (eU V B)<=oE (eU V B))=decide (((Ao (eU V B):Nat):Int)<=((oE (eU V B):Nat):Int)):=by
  rw[k7];exact decide_eq_decide.2 ⟨λe=>e.2.2,λe=>⟨C,v,e⟩⟩
 rw[this]at fin;exact fin
theorem LQ{T:Nat}(U:ky V a)(o:Fr No a h)(M:nV.Mx h)(r:Row h p (bc B))(z:l=B.length)(cap:B.length<=c)(m:B.length<=80000)(x: hM h R (.B (Ap V T B))):Cl 214 #[.U (T:Int),.L p l c] h R:=by
 subst z;refine Er.walk (aG.of λJ y=>aG.of λA j=> ?_);unfold Ap at x;have fin: ∀q g,Fr No h g->(Ap V T B=(q && decide (B.length<=200)))->J q g:=λq g F e=>by
  subst y;have:=x g F;unfold Ap at e;rw[e]at this;rw[show decide ((B.length:Int)<=200)=decide (B.length<=200)from k7 B.length 200];cases q with
  |false=>exact this
  |true=>exact this
 by_cases s:T=6
 .subst s;rw[ga];refine GN U o M r rfl cap m λd e f=>ax.ex e.s ⟨_,rfl,?_⟩
  subst j;exact fin _ d f rfl
 rw[ae (by simp only[dc];omega)];refine aG.of λE k=> ?_
 by_cases v:T=7
 .subst v;rw[ga];refine Et U o r rfl cap m λd f=>⟨_,_,rfl,?_⟩
  subst k j;exact fin _ d f rfl
 rw[ae (by simp only[dc];omega)];refine aG.of λG w=> ?_
 by_cases C:T=10
 .subst C;rw[ga];refine QF U o r rfl cap m λd I b f=>⟨_,_,_,rfl,?_⟩
  subst w k j;exact fin _ d f rfl
 rw[ae (by simp only[dc];omega)];subst w k j;exact fin true h (Fr.refl _ _) (by unfold Ap;rw[ae s,ae v,ae C])
theorem xc{p:ct}{n c:Nat}{l:List Nat}(r:Row h p (nu l))(s:n=l.length)(x:l.length<=100000)(f:R (.B (l.all mH)) h):Cl 213 #[.L p n c] h R:=by
 subst s;refine Es.walk (kq.within.walk (lg.within.walk ?_));refine⟨λt g=> ∃i:Nat,t=(i:Int)/\i<=l.length/\g=h/\(l.take i).all mH=true,λt _=>l.length - t.toNat,⟨0,rfl,bT _,rfl,by rw[eV];rfl⟩,?_⟩;rintro _ g ⟨i,rfl,w,rfl,j⟩;by_cases d:i<l.length
 .rw[ga];obtain⟨A,rfl⟩:=r.some (by intro e;have:=cf List.length e;rw[aC,bE]at this;omega);have o:aT g (A.add (i*1))=some (.U ((l[i]:Nat):Int)):=by
   have:=r.cell (j:=i) (v:=.U ((l[i]:Nat):Int)) (by rw[aL,aj d];rfl);rw[cE];exact this
  have key: ∀q,q=(!mH l[i])->(if q=true then∃m,Value.I (i:Int)=.I m/\∃T,Value.bool (decide (m≥0))=.B T/\R (.B (!T)) g else((∃k:Nat,IntKind.wrap .i64 ((i:Int)+1)=(k:Int)/\k<=l.length/\g=g/\(l.take k).all mH=true)/\l.length - (IntKind.wrap .i64 ((i:Int)+1)).toNat<l.length - (i:Int).toNat)):=by
   rintro q rfl;cases e:mH l[i]with
   |false=>
    rw[ga];refine⟨_,rfl,_,rfl,?_⟩;rw[av ag];have:l.all mH=false:=List.all_eq_false.2 ⟨l[i],dI d,by rw[e];decide⟩;rw[this]at f;exact f
   |true=>
    rw[dy,bJ (n:=(i:Int)+1) ag ag];refine⟨⟨i+1,ag,ag,rfl,?_⟩,ag⟩;rw[bN,aj d,List.all_append,j];simp[e]
  refine⟨ag,bR.2 ⟨A,rfl,_,o,AM.walk ?_⟩⟩;have E:mH l[i]=(decide (1<=l[i]) && decide (l[i]<=255)):=by unfold mH;by_cases A:1<=l[i]<;>by_cases b:l[i]<=255<;>simp[A,b]
  by_cases v:l[i]<1
  .rw[ga];refine⟨_,rfl,key true ?_⟩;rw[E,aB (show¬1<=l[i] by omega)];rfl
  .rw[dy];refine⟨_,rfl,key _ ?_⟩;rw[E,av (show 1<=l[i] by omega)];by_cases C:l[i]<=255
   .rw[av C,aB (show¬((l[i]:Nat):Int)>255 by omega)];rfl
   .rw[aB C,av (show((l[i]:Nat):Int)>255 by omega)];rfl
 .rw[ae (λe=>d (bW (aU e)))];rw[bF ag]at j;rw[j]at f;exact⟨_,rfl,_,rfl,f⟩
abbrev nA.s(b:nA)(p:ct)(c:Nat):az.S:=⟨b.ty,b.nr,b.fl,b.sum,p,b.data.length,c⟩
variable {b:nA}
theorem xd(b:nA)(U:ky V a)(I:Fr No a h)(M:nV.Mx h)(G:Row h p (bc b.data))(cap:b.data.length<=c)(z:b.data.length<=80000)(s: hM h R (.B (jJ V b))):Cl 173 #[(b.s p c).agg] h R:=by
 refine GL.walk (az.cW λK O L o v=>⟨_,au o,_,au o,IX (l:= [b.ty,b.nr]) (n:=2) rfl λJ k A r=>xc A rfl (by show 2<=_;omega) ⟨_,rfl,?_⟩⟩);have F:=v.tt r;have d:=r.get o id;have m: ∀g,Fr No h g->jJ V b=false->R (.B false) g:=λg x e=>by have:=s g x;rw[e]at this;exact this
 have E: [b.ty,b.nr].all mH=(mH b.ty && mH b.nr):=bU
 rw[E];cases q:(mH b.ty && mH b.nr)with
 |false=>rw[dy];exact m k F (by unfold jJ;rw[q];rfl)
 |true=>
 rw[af rfl];refine⟨_,au d,?_⟩;change if Tn (b.fl:Int) 23=true then _ else _
 by_cases C:Tn (b.fl:Int) 23=true
 case neg=>rw[ae C];exact m k F (by unfold jJ;simp[C])
 rw[af C];refine⟨_,au d,?_⟩;by_cases f:0<=b.sum
 case neg=>rw[ae (by simp only[aW];exact f)];exact m k F (by unfold jJ;simp[f])
 rw[af (av f)];refine⟨_,au d,?_⟩;by_cases j:b.sum<=2
 case neg=>rw[ae (by simp only[aW];exact j)];exact m k F (by unfold jJ;simp[j])
 rw[af (av j)];refine⟨_,au d,_,_,_,au d,LQ U (I.tt F) (M.on F) (G.frame F bX) rfl cap z λy w=>⟨_,rfl,?_⟩⟩;have:=s y (F.tt w);unfold jJ at this;rw[q,C,av f,av j]at this;exact this
theorem IY(d:qo V t i=.ok u):0<=typeAt u i:=by
 unfold qo at d;split at d
 .rename_i e;have key: ∀k,i<k->typeAt (t.l.take k) i=typeAt t.l i:=λk g=>by
   unfold typeAt at_;rw[bh,bh,da,af g,bA];exact ite_congr (propext (by constructor<;>(rintro⟨A,b⟩;exact⟨ag,b⟩))) (λ_=>rfl) (λ_=>rfl)
  split at d
  .cases d;exact e.2.2
  .split at d
   .rename_i f;split at d
    .cases d
    .split at d
     .cases d;rw[key _ f.1];exact e.2.2
     .cases d
   .cases d
 .cases d
theorem LR(e:qo V t i=.ok u):(at_ u i).n<=2:=by
 have:=IY e;unfold typeAt at this;split at this
 .rename_i d;exact d.2.1
 .omega
theorem xe(h:jJ V b=true):0<=b.sum/\b.sum<=2/\b.data.length<=200/\1<=b.ty/\b.ty<=255/\1<=b.nr/\b.nr<=255:=by
 unfold jJ at h;simp only[aV,aW]at h;obtain⟨⟨⟨⟨⟨A,e⟩,_⟩,f⟩,c⟩,d⟩:=h;unfold mH at A e;unfold Ap at d;simp only[aV,aW]at A e d;exact⟨f,c,d.2,A.1,A.2,e.1,e.2⟩
theorem De(h:jJ V b=true):dM (Lr b)<=300:=by
 obtain⟨_,_,d,_⟩:=xe h;simp only[Lr,dM,room,bE];omega
theorem Df(h:sU V b=.ok t):room t<=400:=by
 unfold sU at h;split at h
 .rename_i d;have:=AJ h;have:=De d;omega
 .cases h
theorem GP{e:Int}(h:sU V b=.error e):e≠0:=by
 unfold sU at h;split at h
 .exact Dd h
 .cases h;decide
theorem Kj(b : nA){p : Option Addr}{c : Nat}(U : ky V a)(b' : Fr No a h)(mx : nV.Mx h)(a' : Row h p (bc b.data))(cap : b.data.length ≤ c)(g' : b.data.length ≤ 80000)(M : ∀ H z q, (∀ t, sU V b = .ok t → q = 0 ∧ tT H (λy => h.size ≤ y) t z) → (∀ e, sU V b = .error e → q = e) → Fr No h H → R (.tuple #[z.s.agg, .int .i64 q]) H): Cl 165 #[(b.s p c).agg] h R := by
  refine GM.walk (az.cW λbb h1 eb hb j => aa.cW λb1 h2 i' e' g => az.fy (g.get hb id) (xd b U (b'.tt (j.tt g)) (mx.on (j.tt g)) (a'.frame (j.tt g) (λ_ _ => id)) cap g' λh3 w => ⟨_, rfl, ?_⟩))
  have o := (g.tt w).get hb id
  have G := w.get e' id
  have F := j.tt (g.tt w)
  have z3 := F.1
  have z1 := j.1
  have k' := w.1
  have l' := aD G
  cases r : jJ V b with
  | false => exact Ei G λh4 f4 => M h4 zv 3 (λt e => by unfold sU at e; rw [r, if_neg (by decide)] at e; cases e) (λt e => by unfold sU at e; rw [r, if_neg (by decide)] at e; cases e; rfl) (F.fresh f4 (λy e => by omega))
  | true =>
  rw [if_neg (by decide)]
  obtain ⟨s0, s2, d2, _⟩ := xe r
  have rm := De r
  have s : sU V b = ot V (Lr b) 3 := by unfold sU; rw [r, if_pos rfl]
  obtain ⟨S, hs⟩ := Int.eq_ofNat_of_zero_le s0
  have es : b.sum.toNat = S := by omega
  refine ⟨_, cB o rfl, _, cB o rfl, _, cB o rfl, _, cB o rfl, ?_⟩
  rw [show (b.s p c).f3 = ((S : Nat) : Int) from hs, wrap_u64 (n := (S : Int)) (by omega) (by omega)]
  refine IX (l := [b.ty, b.nr, b.fl, S]) (n := 4) rfl λb3 h5 r5 x => GO r5 rfl (by show 4 ≤ _; omega) λh6 z T A => aa.ex z.s ⟨rfl, _, _, _, cB ((x.tt A).get o id) rfl, oY (a'.frame (F.tt (x.tt A)) (λ_ _ => id)) rfl (by omega) λh7 v ev ov C => aa.ex (CV.s ⟨2, 0, v, none, 0, 0⟩) ⟨rfl, aa.cW (x := CV.s ⟨2, 0, v, none, 0, 0⟩) λb4 h8 j' f' m => ?_⟩⟩
  have F8 := x.tt (A.tt (C.tt m))
  obtain ⟨_, Z, a5, Q, a7, X⟩ := T
  have zl : Z.length = 4 := by have := X.len; exact this.symm
  have sl : z.s.Fl = Z.length := a5
  rw [sl]
  have z6 := A.1
  have z7 := C.1
  have z8 := m.1
  have qs : ∀ y, aO z.q y → y < h6.size := λy d => Q.dL d
  refine dS tI uI (Q.frame (C.tt m) (λ_ _ => id)) (ds := iR ⟨2, 0, v, none, 0, 0⟩) (.inr ⟨_, rfl, aa.Aw (x := CV.s ⟨2, 0, v, none, 0, 0⟩) f'⟩) rfl (oX _) (by omega) (by omega) λq' c' L P _ J g9 => ⟨_, _, _, rfl, ?_⟩
  have ef : Z.flatMap iR ++ iR ⟨2, 0, v, none, 0, 0⟩ = (Z ++ [(⟨2, 0, v, none, 0, 0⟩ : CV)]).flatMap iR := by rw [List.flatMap_append, List.flatMap_singleton]
  rw [ef] at P
  have f : Fr No h3 L := F8.fresh J (λy d => by have := a7 y d; have := x.1; omega)
  have L9 : mA L (λ_ => True) q' (Z.length + 1) c' (Z ++ [⟨2, 0, v, none, 0, 0⟩]) := ⟨by simp, P.iF, λ_ _ _ => trivial, P.le⟩
  have T9 : Cg L (Lr b) (Z ++ [⟨2, 0, v, none, 0, 0⟩]) := by
    have t1 := dC.frame J (λy d O => d.2 O) (dC.on (dC.on X C) m)
    have t2 : gP h7 (λy => h6.size ≤ y) (qJ v.b) ⟨2, 0, v, none, 0, 0⟩ := C6 ov
    have t3 := (t2.on m).frame J (λy d O => by have := qs y O; omega)
    have := dC.snoc t1.u t3.u
    rw [ev] at this
    unfold Lr
    rw [es]
    exact this
  refine Ki (i := 3) U (b'.tt (F.tt f)) L9 T9 (by omega) (by omega) (λt ht d' z T k => aa.ex z.s ⟨_, rfl, ?_⟩) (λe he d' k => aa.ex zv.s ⟨_, rfl, ?_⟩)
  · have z9 := f.1
    exact fin ((f.tt k).get G id) T (λy d e => by omega) λK h' I => M K z 0 (λt' e => by rw [s, ht] at e; cases e; exact ⟨rfl, h'.mono λy d => by omega⟩) (λE e => by rw [s, ht] at e; cases e) ((F.tt (f.tt k)).fresh I (λy e => by omega))
  · exact Ei ((f.tt k).get G id) λK I => M K zv e (λt' E => by rw [s, he] at E; cases E) (λE e2 => by rw [s, he] at e2; cases e2; rfl) ((F.tt (f.tt k)).fresh I (λy e => by omega))
theorem RM{b:Nat}{y x:az.S}{K:az.S->ai->Prop}(e:az.fE h b y)(j: ∀H,Fr (λy=>y=b) h H->K x H):
  az.dt h (AA b 0) x λg=>az.cC g (AA b 0) λr=>K r g:=
 az.gY (x:=x) e λg d f _=>az.fy d (j g f)
theorem QG{x:CV}(U:ky V a)(p':Fr No a h)(mx:nV.Mx h)(tx:Eh h t x)(hr:room t<=50000)(k1: ∀b,Aq V t=.ok b->∀H p c,BV.ok H (λy=>h.size<=y) ⟨p,c,b.data⟩->Fr No h H->R (.T #[(b.s p c).agg,.I 0]) H)(k2: ∀e,Aq V t=.error e->e≠0->hM h R (.T #[az.S.z.agg,.I e])):Cl 116 #[x.agg] h R:=by
 have rl:=kZ (t:=t);refine IW.walk (x:=x.s) (aa.cW λb h1 eb hb f1=>az.cW λb1 h2 L' c' S=>aa.fy (S.get hb id) ?_);have F:=f1.tt S;have E':=S.get hb id;have zb:=aD hb;have b2:=aD c';have z1:=f1.1;have z2:=S.1;have no: ∀g e,Fr No h2 g->Aq V t=.error e->e≠0->az.dt g (AA b1 0) .z λG=>az.cC G (AA b1 0) λJ'=>R (.T #[J'.agg,.I e]) G:=λg e v o z=>
  RM (v.get c' id) λG f=>k2 e o z G ((F.tt v).fresh f (λy e=>ag))
 have d:Aq V t=Aq V t:=rfl;conv at d=>rhs;unfold Aq
 refine zt (i:=3) U (p'.tt F) (tx.on F) ag ag (λu hu ru k p zs c L TS r=>⟨_,_,_,_,rfl,?_⟩) (λe o z k r=>⟨_,_,_,_,rfl,?_⟩)
 case refine_2=>
  rw[af (cQ z)];exact no k e r (by rw[d,o]) z
 rw[dy];rw[hu]at d;dsimp only at d;have n2:=LR hu;have ln:=TS.len;have l9:=ie u;refine aG.of λq' hJ=> ?_
 have bad: ¬(u.length=5/\(at_ u 4).k=2)->q' true k:=λz=>by
  subst hJ;dsimp only;rw[af rfl];exact no k 3 r (by rw[d,ae z]) dT
 by_cases l5:u.length=5
 case neg=>rw[af (by simp only[dw,fj];omega)];exact bad (λe=>l5 e.1)
 rw[ae (by simp only[dw,fj];omega)];have z3:=r.1;have K: ∀i,i<5->∃(E:Addr)(y:CV),p=some E/\dO (E.add (i*4)) y.s.l 0 k/\Eh k (at_ u i) y/\aT k ((E.add (i*4)).add 1)=some (.U ((at_ u i).n:Int)):=λi hi=>by
  obtain⟨E,y,ea,hh,ty,_⟩:=elem L TS (i:=i) ag;obtain⟨_,yn,_⟩:=gP.kn ty;exact⟨E,y,ea,hh,ty.u,by have:=hh.2.1;rw[<-yn];exact this⟩
 obtain⟨a0,y0,t',S',a5,c0⟩:=K 0 ag;obtain⟨a1,y1,u',T',a6,c1⟩:=K 1 ag;obtain⟨a2,y2,v',U',a7,c2⟩:=K 2 ag;obtain⟨a3,y3,w',V',a8,c3⟩:=K 3 ag;obtain⟨a4,s,g',n',K',c4⟩:=K 4 ag;obtain⟨yk,yn,yb,yl,yv,_⟩:=gP.kn K';have r4:=jd (ts:=u) (i:=4) ag;have X':=kZ (t:=at_ u 4);refine⟨ag,bR.2 ⟨a4,g',_,n'.1,?_⟩⟩;by_cases T:(at_ u 4).k=2
 case neg=>rw[show(s.s.f0 !=2)=true by have:s.s.f0=(at_ u 4).k:=yk;rw[this];simpa using T];exact bad (λe=>T e.2)
 rw[show(s.s.f0 !=2)=false by have:s.s.f0=(at_ u 4).k:=yk;rw[this];simpa using T];clear bad;rw[af ⟨l5,T⟩]at d;subst hJ;try dsimp only
 rw[dy];have u3:=p'.tt (F.tt r);have m3:=mx.on (F.tt r);have O:(rL u).data=s.v.b:=yb.symm;refine aG.of λJ1 D'=> ?_
 have o': ∀g m q M,az.fE g m ((rL u).s q M)->h2.size<=m->BV.ok g (λy=>k.size<=y/\y≠m) ⟨q,M,(rL u).data⟩->Fr No k g->J1 (Sa m 0) g:=by
  intro g m q M hs z4 ov v;subst D';refine aw.2 (az.fy hs (Kj (rL u) U (u3.tt v) (m3.on v) ov.row ov.cap (by rw[O,yb];omega) λh8 e' qw w0 w1 f8=>aa.ex e'.s ⟨_,rfl,aa.fJ (x:=e'.s) λb5 l' M' F' h'=>aG.of λJ2 m'=> ?_⟩));have X:=f8.tt h';have A:=r.tt (v.tt X);have bad: ∀G,Fr No l' G->Aq V t=.error 3->J2 true G:=λG y' o=>by
   subst m';try dsimp only
   rw[af rfl];exact no G 3 (A.tt y') o dT
  cases w:sU V (rL u)with
  |error e=>
   rw[w]at d;rw[af (by rw[w1 e w];simpa using GP w)];exact bad l' (Fr.refl _ _) d
  |ok f'=>
   rw[w]at d;dsimp only at d;obtain⟨rfl,tw⟩:=w0 f' w;have Z':=Df w;rw[dy];refine aa.fy F' (aa.fy (x:=x.s) (A.get E' id) (jw (x:=e') (y:=x) (tw.u.on h') (tx.on (F.tt A)) ag λA' I=>⟨_,rfl,?_⟩));cases o:oM f' t with
   |false=>exact bad A' I (by rw[d,ae (by rw[o];decide)])
   |true=>
    rw[o,af rfl]at d;subst m';try dsimp only
    rw[dy];refine aw.2 (az.fy ((X.tt I).get hs id) (RM ((A.tt I).get c' id) λG f=>k1 _ d G q M ?_ ((F.tt (A.tt I)).fresh f (λy e=>ag))));have:=(ov.mono (D':=λy=>k.size<=y) λy j=>j.1).frame (X.tt I) bX;exact(this.frame f (λy j e=>ag)).mono λy j=>ag
 refine⟨ag,bR.2 ⟨a0,t',_,c0,ag,bR.2 ⟨a1,u',_,c1,ag,bR.2 ⟨a2,v',_,c2,ag,bR.2 ⟨a3,w',_,c3,ag,bR.2 ⟨a4,g',_,_,_,n'.2.2.1,?_⟩⟩⟩⟩⟩⟩;rw[bJ (n:=(((at_ u 3).n:Nat):Int)) ag ag];have l4:s.v.b.length<=50000:=by rw[yb];omega
 have eS: ∀P C,(⟨(at_ u 0).n,(at_ u 1).n,(at_ u 2).n,(at_ u 3).n,P,s.v.b.length,C⟩:az.S)=(rL u).s P C:=λP C=>by
  show _=(⟨_,_,_,_,P,(rL u).data.length,C⟩:az.S);rw[O];rfl
 refine⟨?_,?_,trivial⟩
 .refine mg.gE yv.row rfl ag λP C O' d' Z z'=>⟨_,_,_,rfl,Z.kp,az.cW λm P' x' J a'=>⟨a'.kp,?_⟩⟩
  rw[eS];have a9:=Z.1;have z4:=aD J;refine az.gY (x:=(rL u).s P C) J λB' r' i' _=>o' B' m P C r' ag ?_ ((Z.tt a').fresh i' (λy e=>ag))
  have G':=(d'.frame a' bX).frame i' (λy j e=>bW (d'.dL j));rw[O];exact BV.kU G' (λy j=>⟨z' y j,bW (d'.dL j)⟩)
 .refine az.cW λm Q' x' J Q=>⟨Q.kp,mg.gE (yv.row.frame Q bX) rfl ag λP C R' H' b' k'=>⟨_,_,_,rfl,b'.kp,?_⟩⟩
  rw[eS];have b0:=Q.1;have z4:=aD J;refine az.gY (x:=(rL u).s P C) (b'.get J id) λC' s' j' _=>o' C' m P C s' ag ?_ ((Q.tt b').fresh j' (λy e=>ag))
  have I':=H'.frame j' (λy j e=>bW (k' y j));rw[O];exact BV.kU I' (λy j=>bW (k' y j))

end Bn
end
section
variable {h:ai} {R:fM}
variable {L:ct} {l a:Nat} {b:ak.S} {r:aK.S}
theorem Eu.walk{k:Int}(H:if(k==1)then R (.B true) h else if(k==6)then R (.B true) h else if(k==7)then R (.B true) h else R (.B (k==10)) h):Cl 174 #[.U k] h R:=aR [] Tryz.func174 H
theorem IZ.walk (U: ∃(I:Bool->ai->Prop)(_:Bool->ai->Nat),(aG (λ(Z:Bool) (g:ai)=>if Z then R (.B false) g else I true g) (λJ=>if(decide ((wrap .i64 ((l:Int) - 1))<0))then J true h else if(decide ((wrap .i64 ((l:Int) - 1))≥8))then J true h else Bd (wrap .i64 ((l:Int) - 1)) l/\aN L λA=> ∃u,aT h (A.add (toNat (wrap .i64 ((l:Int) - 1))*5))=some (.U u)/\if(u !=1)then J true h else Bd (wrap .i64 ((l:Int) - 1)) l/\aN L λC=> ∃v,aT h ((C.add (toNat (wrap .i64 ((l:Int) - 1))*5)).add 1)=some (.U v)/\J (v !=1) h))/\∀(q:Bool)(k:ai),I q k->aG (λ(V:Bool) (P:ai)=>R (.B V) P) (λf=> ∃(i:Bool->Int->ai->Prop)(M:Bool->Int->ai->Nat),i q 0 k/\∀(O:Bool)(t:Int)(d:ai),i O t d->if(decide (t<(l:Int)))then Bd t l/\aN L λD=>az.cC d (D.add (toNat t*5)) λa'=>az.NW d λb Q=>az.dt Q (AA b 0) a' λm=>az.cC m (AA b 0) λb'=>Cl 173 #[b'.agg] m λh' S=>Vb h' λc'=>((0:Int)<=t/\t<=(a:Int))/\∃(e:Bool->Int->ai->Prop)(p:Bool->Int->ai->Nat),e c' 0 S/\∀(o:Bool)(T:Int)(c:ai),e o T c->if(decide (T<(((toNat t) - 0:Nat):Int)))then aG (λ(s:Bool) (n:ai)=>(e s (wrap .i64 (T+1)) n/\p s (wrap .i64 (T+1)) n<p o T c)) (λz=>((0:Int)<=T/\T<(((toNat t) - 0:Nat):Int))/\aN (cY L a 0 5) λE=>az.cC c (E.add (toNat T*5)) λd'=>az.NW c λB F=>az.dt F (AA B 0) d' λH=>aG (λ(X:Bool) (G:ai)=>z X G) (λj=>if o then Hu H B 1 λe'=> ∃w,Cc H b 1 (.U w)/\if(e' !=w)then Hu H B 0 λf'=> ∃x,Cc H b 0 (.U x)/\if(f' !=x)then j true H else Hu H b 0 λg'=>Cl 174 #[.U g'] H λi' K=> ∃y,i'=.B y/\j (!y) K else j false H else j false H))else if(!o)then f o c else(i o (wrap .i64 (t+1)) c/\M o (wrap .i64 (t+1)) c<M O t d)else f O d)):Cl 124 #[.L L l a] h R:=aR [(2,λ_=> .scope 0 [(4,.one (.bool))] (.seq .leaf (.seq (.seq (.join [(33,.one (.bool))] .leaf) (.cond (.seq .leaf .leaf) .leaf)) (.seq .leaf (.seq .leaf .leaf)))) (.seq .leaf (.seq (.seq .leaf (.join [(4,.one (.bool))] (.block (.loop [(4,.one (.bool)),(36,.one (.int .i64))] (.seq .leaf (.seq (.cond .leaf .leaf) (.seq (.block (.seq .leaf (.seq .leaf (.seq (.seq .leaf (.block (.loop [(4,.one (.bool)),(47,.one (.int .i64))] (.seq .leaf (.seq (.cond .leaf .leaf) (.seq (.join [(4,.one (.bool))] (.block (.seq .leaf (.join [(4,.one (.bool))] .leaf)))) .leaf)))))) (.seq .leaf (.cond .leaf .leaf)))))) .leaf))))))) (.seq .leaf .leaf))))] Tryz.func124 U
theorem Ew.walk(U:bg h (.C b.arr 158) λB m=>aE.cC m (AA B 0) λV=>Cl 163 #[V.agg] m λf' K=>aa.EX λs=> ∃u,f'=.T #[s.agg,.I u]/\aa.NW K λi P=>aa.dt P (AA i 0) s λe=>if(u !=0)then R (.T #[.Z,.B false]) e else aa.cC e (AA i 0) λX=>Cl 175 #[X.agg] e λg' p=> ∃x w v Z,g'=.T #[.L x w v,.I Z]/\Hl p B 20 λa' y _=> ∃(I:ct->Nat->Nat->Int->ai->Prop)(M:ct->Nat->Nat->Int->ai->Nat),I x w v 0 p/\∀(c:ct)(O o:Nat)(t:Int)(H:ai),I c O o t H->if(decide (t<(y:Int)))then Bd t y/\aN a' λF=>az.cC H (F.add (toNat t*5)) λb'=>az.NW H λj Q=>az.dt Q (AA j 0) b' λq=>az.cC q (AA j 0) λc'=>Cl 165 #[c'.agg] q λh' S=>aa.EX λz=> ∃A,h'=.T #[z.agg,.I A]/\aa.NW S λk G=>aa.dt G (AA k 0) z λd=>if(A !=0)then R (.T #[.Z,.B false]) d else aa.cC d (AA k 0) λd'=>Cl 175 #[d'.agg] d λi' J=> ∃E D C e',i'=.T #[.L E D C,.I e']/\ba Tryz.prog (Builtin.append_ #[33,33] 33 #[.L c O o,.L E D C]) J λj' n=> ∃g f T,j'=.L g f T/\(I g f T (wrap .i64 (t+1)) n/\M g f T (wrap .i64 (t+1)) n<M c O o t H)else R (.T #[.L c O o,.B true]) H):Cl 125 #[b.agg] h R:=aR [(18,.loop [(6,.one (.slice)),(30,.one (.int .i64))])] Tryz.func125 U
theorem Ex.walk(d:bg h (.C b.arr 158) λB H=>ak.cC H (AA B 0) λT=>Cl 79 #[T.agg] H λv c=> ∃g f e t,v=.T #[.L g f e,.I t]/\R (.B (t==0)) c):Cl 117 #[b.agg] h R:=aR [] Tryz.func117 d
theorem Ey.walk (w:bg h (.C b.arr 158) λB c=>Hl c B 20 λF E D=>Cl 124 #[.L F E D] c λv H=> ∃m,v=.B m/\if(!m)then R (.T #[.Z,.I 3]) H else ak.cC H (AA B 0) λx=>Cl 125 #[x.agg] H λV d=> ∃f t T g,V=.T #[.L f t T,.B g]/\aG (λ(y:Bool) (e:ai)=>if y then R (.T #[.Z,.I 3]) e else bg e (.C #[.int .u8 159] 5) λn p=>ba Tryz.prog (Builtin.append_ #[33,33] 33 #[.L (Sa n 0) 1 1,.L f t T]) p λG q=>Vl G λC A z=>bg q (.C #[.int .u8 255] 5) λo s=>ba Tryz.prog (Builtin.append_ #[33,33] 33 #[.L C A z,.L (Sa o 0) 1 1]) s λI u=> ∃k j i,I=.L k j i/\R (.T #[.L k j i,.I 0]) u) (λJ=>if(!g)then J true d else J (decide (((t:Nat):Int)>598)) d)):Cl 79 #[b.agg] h R:=aR [(14,.join [(21,.one (.bool))])] Tryz.func79 w
theorem GQ.walk{s:ct}{e q:Nat} (hv:ak.NW h λb u=>if(decide ((e:Int)>1200))then ak.dt u (AA b 0) ak.S.z λy=>ak.cC y (AA b 0) λr0=>R (.T #[r0.agg,.I 2]) y else Cl 114 #[.L s e q,.I 0] u λK' k'=>aa.EX λG=> ∃K T,K'=.T #[G.agg,.I K,.I T]/\aa.NW k' λB l'=>aa.dt l' (AA B 0) G λH=>if(T !=0)then ak.dt H (AA b 0) ak.S.z λD=>ak.cC D (AA b 0) λm'=>R (.T #[m'.agg,.I T]) D else aG (λ(s':Bool) (E:ai)=>if s' then ak.dt E (AA b 0) ak.S.z λF=>ak.cC F (AA b 0) λn'=>R (.T #[n'.agg,.I 3]) F else ak.NW E λd j=>Hl j B 3 λy' x' _=>Bd 0 x'/\aN y' λb'=>aa.cC j (b'.add (toNat 0*4)) λz'=>Cl 115 #[z'.agg] j λL' e'=>aE.EX λS=> ∃k,L'=.T #[S.agg,.I k]/\aE.dt e' (AA d 0) S λg=>if(k !=0)then ak.dt g (AA b 0) ak.S.z λv=>ak.cC v (AA b 0) λo'=>R (.T #[o'.agg,.I k]) v else Hl g B 3 λB' m A'=>((0:Int)<=1/\1<=(m:Int))/\∃(I:Int->ai->Prop)(M:Int->ai->Nat),I 0 g/\∀(t:Int)(c:ai),I t c->if(decide (t<((m - (toNat 1):Nat):Int)))then((0:Int)<=t/\t<((m - (toNat 1):Nat):Int))/\aN (cY B' A' (toNat 1) 4) λc'=>aa.cC c (c'.add (toNat t*4)) λC'=>aa.NW c λo f'=>aa.dt f' (AA o 0) C' λw=>aa.cC w (AA o 0) λD'=>Cl 116 #[D'.agg] w λM' g'=>az.EX λU=> ∃n,M'=.T #[U.agg,.I n]/\az.NW g' λp h'=>az.dt h' (AA p 0) U λf=>if(n !=0)then ak.dt f (AA b 0) ak.S.z λx=>ak.cC x (AA b 0) λp'=>R (.T #[p'.agg,.I n]) x else Hl f d 20 λG' F' E'=>az.cC f (AA p 0) λH'=>bg f (.C H'.arr 204) λd' i'=>ba Tryz.prog (Builtin.append_ #[156,156] 156 #[.L G' F' E',.L (Sa d' 0) 1 1]) i' λO' j'=> ∃Z X V,O'=.L Z X V/\aJ j' (AA d 20) (.L Z X V) λz=>(I (wrap .i64 (t+1)) z/\M (wrap .i64 (t+1)) z<M t c)else ak.cC c (AA d 0) λI'=>Cl 117 #[I'.agg] c λP' i=> ∃a',P'=.B a'/\if(!a')then ak.dt i (AA b 0) ak.S.z λA=>ak.cC A (AA b 0) λq'=>R (.T #[q'.agg,.I 3]) A else ak.cC i (AA d 0) λJ'=>ak.dt i (AA b 0) J' λC=>ak.cC C (AA b 0) λr'=>R (.T #[r'.agg,.I 0]) C) (λJ=>if(K !=(e:Int))then J true H else∃O,Cc H B 0 (.I O)/\if(O !=4)then J true H else∃u' P t',Cc H B 3 (.L u' P t')/\if(decide (((P:Nat):Int)<2))then J true H else∃w' Q v',Cc H B 3 (.L w' Q v')/\J (decide (((Q:Nat):Int)>9)) H)):Cl 74 #[.L s e q] h R:=aR [(21,.join [(27,.one (.bool))]),(43,.loop [(67,.one (.int .i64))])] Tryz.func74 hv
theorem AO.walk (n:bg h (.C b.arr 158) λB H=> ∃s i q,Cc H B 20 (.L s i q)/\if(((i:Nat):Int)==0)then R (.Z) H else∃k j u,Cc H B 20 (.L k j u)/\∃p t o,Cc H B 20 (.L p t o)/\((0:Int)<=wrap .i64 (((t:Nat):Int) - 1)/\wrap .i64 (((t:Nat):Int) - 1)<((j:Nat):Int))/\aN k λA=> ∃d c T,aT H ((A.add (toNat (wrap .i64 (((t:Nat):Int) - 1))*5)).add 4)=some (.L d c T)/\Cl 54 #[.L d c T] H λv m=> ∃g f e,v=.L g f e/\R (.L g f e) m):Cl 148 #[b.agg] h R:=aR [] Tryz.func148 n
theorem Ez.walk(s:bg h (.C r.arr 211) λb H=> ∃m,Cc H b 0 (.B m)/\if m then∃T,Cc H b 3 (.U T)/\if(decide (T<=255))then∃e,Cc H b 4 (.U e)/\if(decide (e<=1099511627776))then ah.cC H (AA b 5) λu=>Cl 218 #[u.agg] H λv o=> ∃i,v=.B i/\R (.B i) o else R (.B false) H else R (.B false) H else∃n,Cc H b 1 (.B n)/\if n then∃c,Cc H b 3 (.U c)/\if(decide (c<=255))then∃f,Cc H b 4 (.U f)/\if(decide (f<=1099511627776))then ah.cC H (AA b 5) λw=>Cl 218 #[w.agg] H λV p=> ∃j,V=.B j/\R (.B j) p else R (.B false) H else R (.B false) H else∃t,Cc H b 2 (.B t)/\if t then∃d,Cc H b 3 (.U d)/\if(decide (d<=255))then∃g,Cc H b 4 (.U g)/\if(decide (g<=1099511627776))then ah.cC H (AA b 5) λx=>Cl 218 #[x.agg] H λy q=> ∃k,y=.B k/\R (.B k) q else R (.B false) H else R (.B false) H else R (.B false) H):Cl 236 #[r.agg] h R:=aR [] Tryz.func236 s
theorem I0.walk(y:aa.NW h λb q=>Cl 162 #[.Z] q λv s=>aa.EX λo=>v=o.agg/\aa.NW s λB u=>aa.dt u (AA B 0) o λw=> ∃(I:Int->ai->Prop)(m:Int->ai->Nat),I 0 w/\∀(t:Int)(H:ai),I t H->if(decide (t<(l:Int)))then Bd t l/\aN L λA=>ui H (A.add (toNat t*1)) λC=>aG (λ(n:Int) (c:ai)=>Hl c B 3 λF E D=>Cl 199 #[.U n] c λV d=>aa.EX λT=>V=T.agg/\Kp c d [(Sa B 3)]/\bg d (.C T.arr 198) λp g=>Kp d g [(Sa B 3)]/\ba Tryz.prog (Builtin.append_ #[196,196] 196 #[.L F E D,.L (Sa p 0) 1 1]) g λK x=> ∃k j i,K=.L k j i/\aJ x (AA B 3) (.L k j i) λe=>(I (wrap .i64 (t+1)) e/\m (wrap .i64 (t+1)) e<m t H)) (λJ=>if C then J 1 H else J 0 H)else aa.cC H (AA B 0) λG=>aa.dt H (AA b 0) G λf=>aa.cC f (AA b 0) λz=>R (z.agg) f):Cl 237 #[.L L l a] h R:=aR [(8,.loop [(10,.one (.int .i64))]),(24,.join [(6,.one (.int .u64))]),(27,λ_=>pK 8)] Tryz.func237 y
theorem EA.walk(hv:bg h (.C r.arr 211) λb n=>ah.cC n (AA b 5) λt8=>Cl 202 #[t8.agg] n λx' n'=>aa.EX λa'=> ∃b',x'=.T #[a'.agg,.I b']/\aa.NW n' λB u'=>aa.dt u' (AA B 0) a' λg=>aG (λ(w':Bool) (H:ai)=>if w' then R (.T #[.Z,.I 3]) H else Hb H b 0 λs=>Hb H b 1 λu=>Hb H b 2 λv=>Hu H b 3 λy=>Hu H b 4 λC=>aa.cC H (AA B 0) λF=>(Cl 199 #[.U 1] H λy' i=>aa.EX λT=>y'=T.agg/\Kp H i [(Sa B 0),(Sa b 4),(Sa b 3),(Sa b 2),(Sa b 1),(Sa b 0)]/\bg i (.C #[.B s,.B u,.B v] 4) λc' j=>Kp i j [(Sa B 0),(Sa b 4),(Sa b 3)]/\Cl 237 #[.L (Sa c' 0) 3 3] j λF' k=>aa.EX λw=>F'=w.agg/\Kp j k [(Sa B 0),(Sa b 4),(Sa b 3)]/\Cl 199 #[.U y] k λG' m=>aa.EX λz=>G'=z.agg/\Kp k m [(Sa B 0),(Sa b 4)]/\Cl 199 #[.U C] m λH' o=>aa.EX λD=>H'=D.agg/\Kp m o [(Sa B 0)]/\bg o (.C (w.l++z.l++D.l++F.l).toArray 198) λd' i'=>Cl 162 #[.L (Sa d' 0) 4 4] i' λI' j'=>aa.EX λG=>I'=G.agg/\bg j' (.C (T.l++G.l).toArray 198) λe' k'=>Cl 162 #[.L (Sa e' 0) 2 2] k' λJ' l'=>aa.EX λK=>J'=K.agg/\Cl 175 #[K.agg] l' λK' m'=> ∃U Q O X,K'=.T #[.L U Q O,.I X]/\R (.T #[.L U Q O,.I X]) m')/\(bg H (.C #[.B s,.B u,.B v] 4) λf' c=>Kp H c [(Sa B 0),(Sa b 4),(Sa b 3)]/\Cl 199 #[.U 1] c λL' d=>aa.EX λq=>L'=q.agg/\Kp c d [(Sa B 0),(Sa b 4),(Sa b 3)]/\Cl 237 #[.L (Sa f' 0) 3 3] d λM' e=>aa.EX λx=>M'=x.agg/\Kp d e [(Sa B 0),(Sa b 4),(Sa b 3)]/\Cl 199 #[.U y] e λz' f=>aa.EX λA=>z'=A.agg/\Kp e f [(Sa B 0),(Sa b 4)]/\Cl 199 #[.U C] f λA' p=>aa.EX λE=>A'=E.agg/\Kp f p [(Sa B 0)]/\bg p (.C (x.l++A.l++E.l++F.l).toArray 198) λg' o'=>Cl 162 #[.L (Sa g' 0) 4 4] o' λB' p'=>aa.EX λI=>B'=I.agg/\bg p' (.C (q.l++I.l).toArray 198) λh' q'=>Cl 162 #[.L (Sa h' 0) 2 2] q' λC' r'=>aa.EX λM=>C'=M.agg/\Cl 175 #[M.agg] r' λD' s'=> ∃V S P Z,D'=.T #[.L V S P,.I Z]/\R (.T #[.L V S P,.I Z]) s')/\True) (λJ=>if(b' !=0)then J true g else aK.cC g (AA b 0) λv'=>Cl 236 #[v'.agg] g λE' t'=> ∃t,E'=.B t/\J (!t) t')):Cl 209 #[r.agg] h R:=aR [(6,.join [(18,.one (.bool))]),(13,λ_=> .jm (fS 6 1 (.op 9 (.op 10 (.op 12 (.op 13 (.op 15 (.alts (.fork 0 (.op 7 (.op 8 (.op 11 (.op 14 (fS 9 16 .done))))) (.fork 7 (.op 0 (.op 8 (.op 11 (.op 14 (fS 9 16 .done))))) .ic))))))))))] Tryz.func209 hv
theorem Ck.walk{D:ax.S}{id:ah.S}{m:Int}(E:bg h (.C r.arr 211) λb x=>bg x (.C D.arr 29) λs y=>bg y (.C id.arr 82) λu z=>ak.NW z λB i=>aK.cC i (AA b 0) λJ=>Cl 209 #[J.agg] i λv H=> ∃p o n e,v=.T #[.L p o n,.I e]/\if(e !=0)then ak.dt H (AA B 0) ak.S.z λj=>ak.cC j (AA B 0) λF=>R (.T #[F.agg,.I e]) j else ax.cC H (AA s 0) λT=>ah.cC H (AA u 0) λt=>bg H (.C #[.U 1,.U 1,.U 0,.I 0,.L p o n] 204) λw A=>ak.NW A λc C=>ak.dt C (AA c 0) ⟨2,0,T.f0,T.f1,T.f2,T.f3,T.f4,false,0,0,iB,iB,t.f0,t.f1,t.f2,t.f3,t.f4,t.f5,t.f6,m,(Sa w 0),1,1⟩ λk=>ak.cC k (AA c 0) λK=>Cl 117 #[K.agg] k λV d=> ∃q,V=.B q/\if(!q)then ak.dt d (AA B 0) ak.S.z λf=>ak.cC f (AA B 0) λG=>R (.T #[G.agg,.I 3]) f else ak.cC d (AA c 0) λM=>ak.dt d (AA B 0) M λg=>ak.cC g (AA B 0) λI=>R (.T #[I.agg,.I 0]) g):Cl 188 #[r.agg,D.agg,id.agg,.U m] h R:=aR [] Tryz.func188 E

end
section
namespace Bn
open Cb
open jH (Ev du lB)
variable {V:cG→Bool} {h d H g:ai} {R:fM} {D D':Nat→Prop}
variable {a:List nA} {q:ct} {l C:Nat}
structure BB where
 b:nA
 p:ct
 c:Nat
abbrev BB.s(x:BB):az.S:=x.b.s x.p x.c
variable {X:List BB}
abbrev yC(x:BB):List Value:=x.s.l
theorem vM(x:BB):(yC x).length=5:=rfl
theorem OF(x:BB): ∀v∈yC x,fV v=true:=λv c=>by
 simp only[yC,az.S.l,bf,cN,fv]at c;rcases c with rfl|rfl|rfl|rfl|rfl<;>rfl
structure iY (h:ai) (D:Nat->Prop) (a:List nA) (q:ct) (l C:Nat) (X:List BB):Prop where
 eq:X.map BB.b=a
 len:l=a.length
 row:Row h q (X.flatMap yC)
 own:X≠ []->∀y,aO q y->D y
 cap:l<=C
 ok: ∀x∈X,BV.ok h D ⟨x.p,x.c,x.b.data⟩
theorem iY.xl(B:iY h D a q l C X):X.length=a.length:=by rw[<-B.eq,aC]
theorem iY.frame{Q:Nat->Prop}(B:iY h D a q l C X)(f:Fr Q h H)(c: ∀y,D y->¬Q y):iY H D a q l C X:=by
 refine⟨B.eq,B.len,?_,B.own,B.cap,λx j=>(B.ok x j).frame f c⟩;by_cases e:X= []
 .subst e;exact Row.nil
 .exact B.row.frame f (λA i=>c _ (B.own e _ ⟨A,i,rfl⟩))
theorem iY.on(B:iY h D a q l C X)(f:Fr No h H):iY H D a q l C X:=B.frame f bX
theorem iY.mono(B:iY h D a q l C X)(c: ∀y,D y->D' y):iY h D' a q l C X:=
 ⟨B.eq,B.len,B.row,λe y i=>c y (B.own e y i),B.cap,λx f=>(B.ok x f).mono c⟩
theorem iY.get(B:iY h D a q l C X){i:Nat}(f:i<a.length): ∃(A:Addr)(x:BB),q=some A/\dO (A.add (i*5)) x.s.l 0 h/\x.b=a[i]/\BV.ok h D ⟨x.p,x.c,x.b.data⟩/\X[i]? =some x:=by
 have xl:=B.xl;have c:X[i]? =some (X[i]' ag):=aj _;obtain⟨A,rfl⟩:=B.row.some (by intro e;have:=cf List.length e;rw[dY yC 5 vM,bE]at this;omega);refine⟨A,_,rfl,B.row.gx vM c,?_,B.ok _ (aX c),c⟩;have:=B.eq;subst this;rw[List.getElem_map]
theorem iY.take(B:iY h D a q l C X){n:Nat}(r:n<=a.length):iY h D (a.take n) (cY q C 0 5) (n - 0) (C - 0) (X.take n):=by
 have o:=B.cap;have p:=B.len;have f:=B.row.sub (cap:=C) (l:=0) (u:=n) (sz:=5) (bT _) ag;rw[mW yC 5 vM,Nat.zero_mul,gV]at f;refine⟨by rw[List.map_take,B.eq],by rw[bA];omega,f,λe y k=>B.own (λi=>e (by rw[i,List.take_nil])) y ?_,ag,λx j=>B.ok x (List.mem_of_mem_take j)⟩;obtain⟨A,E,c⟩:=k;unfold cY at E;cases q with
 |none=>split at E<;>cases E
 |some m=>
  split at E
  .cases E;exact⟨_,rfl,c⟩
  .cases E;exact⟨_,rfl,c⟩
theorem OG{k:Nat}(c:R (.B (alone k)) h):Cl 174 #[.U (k:Int)] h R:=by
 refine Eu.walk ?_;unfold alone at c;by_cases e:k=1
 .rw[av (.inl e)]at c;rw[af (by simp only[dc];omega)];exact c
 rw[ae (by simp only[dc];omega)];by_cases i:k=6
 .rw[av (.inr (.inl i))]at c;rw[af (by simp only[dc];omega)];exact c
 rw[ae (by simp only[dc];omega)];by_cases j:k=7
 .rw[av (.inr (.inr (.inl j)))]at c;rw[af (by simp only[dc];omega)];exact c
 rw[ae (by simp only[dc];omega)];have:((k:Int)==10)=decide (k=1\/k=6\/k=7\/k=10):=by
  by_cases f:k=10
  .rw[av (.inr (.inr (.inr f)))];simp only[dc];omega
  .rw[aB ag];simp only[dz,fj];omega
 rw[this];exact c
theorem Sz(U:ky V d)(p':Fr No d h)(mx:nV.Mx h)(B:iY h D a q l C X)(hl:a.length<=1000000)(hd: ∀b∈a,b.data.length<=80000)(O: hM h R (.B (B5 V a))):Cl 124 #[.L q l C] h R:=by
 have el:=B.len;subst el;refine IZ.walk ?_;have c:B5 V a=B5 V a:=rfl;conv at c=>rhs;unfold B5
 refine⟨λo g=>o=true/\g=h/\a.length<=8/\B5 V a=Ix V [] a,λ_ _=>0,aG.of λf' Z=> ?_,?_⟩
 .have w:B5 V a=false->f' true h:=λe=>by
   subst Z;dsimp only;rw[af rfl];have:=O h (Fr.refl _ _);rw[e]at this;exact this
  by_cases Q:a.length=0
  .rw[af (by rw[Q];decide)];have:a= []:=List.length_eq_zero_iff.1 Q;exact w (by rw[c,this];rfl)
  obtain⟨n,hn⟩: ∃n,a.length=n+1:=⟨a.length - 1,ag⟩;have ew:IntKind.wrap .i64 (((a.length:Nat):Int) - 1)=(n:Int):=by rw[hn,bJ ag ag];omega
  have o':a.getLast? =some a[n]:=by rw[List.getLast?_eq_getElem?,show a.length - 1=n by omega,aj ag]
  rw[o']at c;dsimp only at c;rw[ew,dy];by_cases G:a.length<=8
  case neg=>rw[af (by simp only[aW];omega)];exact w (by rw[c,aB G];rfl)
  rw[dy];rw[av G,eu]at c;obtain⟨A,x,rfl,v,E,_⟩:=B.get (i:=n) ag;have h':aT h (A.add (n*5))=some (.U ((a[n].ty:Nat):Int)):=by rw[<-E];exact v.1
  have i':aT h ((A.add (n*5)).add 1)=some (.U ((a[n].nr:Nat):Int)):=by rw[<-E];exact v.2.1
  refine⟨ag,aw.2 ⟨_,by rw[aH];exact h',?_⟩⟩;by_cases f:a[n].ty=1
  case neg=>rw[af (by simp only[dw,fj];omega)];exact w (by rw[c,aB (λe=>f e.1)];rfl)
  rw[ae (by simp only[dw,fj];omega)];refine⟨ag,aw.2 ⟨_,by rw[aH];exact i',?_⟩⟩;by_cases j:a[n].nr=1
  case neg=>rw[show(((a[n].nr:Nat):Int) !=1)=true by simp only[dw,fj];omega];exact w (by rw[c,aB (λe=>j e.2)];rfl)
  rw[show(((a[n].nr:Nat):Int) !=1)=false by simp only[gv];omega];subst Z;dsimp only;rw[dy];exact⟨rfl,rfl,G,by rw[c,av ⟨f,j⟩];rfl⟩
 rintro _ h ⟨rfl,rfl,l8,hf⟩;clear c;refine aG.of λJ1 b'=> ?_
 refine⟨λo t g=> ∃i:Nat,t=(i:Int)/\i<=a.length/\o=true/\Fr No h g/\Ix V [] a=Ix V (a.take i) (a.drop i),λ_ t _=>a.length - t.toNat,⟨0,rfl,bT _,rfl,Fr.refl _ _,rfl⟩,?_⟩;rintro _ _ g ⟨i,rfl,hi,rfl,F,m⟩;by_cases s:i<a.length
 case neg=>
  rw[ae (λe=>s (bW (aU e)))];subst b';have:=O g F;rw[hf,m,dH ag]at this;exact this
 rw[ga];have Bg:=B.on F;obtain⟨A,x,rfl,v,E,e',_⟩:=Bg.get s;rw[cP s]at m;have lx:x.b.data.length<=80000:=by rw[E];exact hd _ (dI s)
 refine⟨ag,aw.2 (az.jR (x:=x.s) (by rw[aH];exact v) (az.fJ (x:=x.s) λb h6 eb hb u=>az.fy hb (xd x.b U (p'.tt (F.tt u)) (mx.on (F.tt u)) (e'.frame u bX).row e'.cap lx λh7 T=>⟨_,rfl,⟨ag,bW B.cap⟩,?_⟩)))⟩;have P:=u.tt T;have l':=T.get hb id;have z7:=F.tt P;rw[E];have eP: ∀r,Ix V (a.take i) (a[i]::r)=(jJ V a[i] && (a.take i).all (apart a[i]) && Ix V (a.take i++ [a[i]]) r):=λr=>rfl
 rw[eP]at m;refine⟨λo t K=> ∃k:Nat,t=(k:Int)/\k<=i/\o=(jJ V a[i] && (a.take k).all (apart a[i]))/\Fr No h7 K,λ_ t _=>i - t.toNat,⟨0,rfl,bT _,bU,Fr.refl _ _⟩,?_⟩;rintro o _ K ⟨k,rfl,r',d',J⟩;have ei:((Int.toNat (i:Int)) - 0:Nat)=i:=ag
 rw[ei];have z:=F.tt (P.tt J);by_cases n':k<i
 case neg=>
  rw[ae (λe=>n' (bW (aU e)))];have:k=i:=ag
  subst this;rw[<-d']at m;cases o with
  |false=>
   rw[ga];subst b';have:=O K z;rw[hf,m]at this;exact this
  |true=>
   rw[dy,bJ (n:=(k:Int)+1) ag ag];refine⟨⟨k+1,ag,ag,rfl,z,?_⟩,by show a.length - Int.toNat ((k:Int)+1)<a.length - Int.toNat (k:Int);omega⟩;rw[m,eu,bN,aj s];rfl
 rw[ga];refine aG.of λJ2 j'=> ?_
 have B2:=(B.on z).take (n:=i) ag;have lt:(a.take i).length=i:=by rw[bA];omega
 obtain⟨a',y,g',m',I,s',_⟩:=B2.get (i:=k) ag;rw[List.getElem_take]at I;have lk:k<a.length:=ag
 have ek:a.take (k+1)=a.take k++ [a[k]]:=by rw[bN,aj lk];rfl
 refine⟨ag,bR.2 ⟨a',g',az.jR (x:=y.s) (by rw[aH];exact m') (az.fJ (x:=y.s) λb1 p q' c' S=>aG.of λJ3 k'=> ?_)⟩⟩;have M:=(J.tt S).get l' id;have go: ∀r L,Fr No p L->r=(o && apart a[i] a[k])->J3 r L:=by
  intro r L f2 er;subst k' j';dsimp only;rw[bJ (n:=(k:Int)+1) ag ag];refine⟨⟨k+1,ag,ag,?_,J.tt (S.tt f2)⟩,by show i - Int.toNat ((k:Int)+1)<i - Int.toNat (k:Int);omega⟩;rw[er,d',ek,List.all_append,<-Bool.and_assoc];simp
 cases hq:o with
 |false=>rw[dy];exact go false p (Fr.refl _ _) (by rw[hq];rfl)
 |true=>
 rw[af rfl];refine⟨_,au c',_,au M,?_⟩;rw[hq]at go;have n1:(((y.s.f1:Int) !=x.s.f1)=decide (a[k].nr≠a[i].nr)):=by
  show((y.b.nr:Int) !=(x.b.nr:Int))=_;rw[I,E];by_cases e:a[k].nr=a[i].nr
  .rw[aB (λq=>q e),e];simp
  .rw[av e];simp only[dw,fj];omega
 have n2:(((y.s.f0:Int) !=x.s.f0)=decide (a[k].ty≠a[i].ty)):=by
  show((y.b.ty:Int) !=(x.b.ty:Int))=_;rw[I,E];by_cases e:a[k].ty=a[i].ty
  .rw[aB (λq=>q e),e];simp
  .rw[av e];simp only[dw,fj];omega
 rw[n1];by_cases f:a[k].nr≠a[i].nr
 case neg=>rw[ae (cQ f)];exact go false p (Fr.refl _ _) (by unfold apart;rw[aB f];rfl)
 rw[af (av f)];refine⟨_,au c',_,au M,?_⟩;rw[n2];by_cases j:a[k].ty≠a[i].ty
 .rw[af (av j)];exact go true p (Fr.refl _ _) (by unfold apart;rw[av f,av j];rfl)
 rw[ae (cQ j)];refine⟨_,au M,?_⟩;rw[show x.s.f0=((a[i].ty:Nat):Int) by rw[<-E]];exact OG ⟨_,rfl,go _ p (Fr.refl _ _) (by unfold apart;rw[av f,aB j];rfl)⟩
theorem GR(t:Tr):(Ar V t).length<=room t:=by
 unfold Ar;split
 .exact kW t
 .exact bT _
theorem Kk{t:Tr}{x:CV}(U:ky V d)(u:Fr No d h)(T:gP h D t x)(j:room t<=1000000)(i: ∀H p c (q:Int),Own H p (Ar V t).length c 1 (bc (Ar V t))->(∀y,aO p y->h.size<=y)->Fr No h H->R (.T #[.slice p (Ar V t).length c,.I q]) H):Cl 175 #[x.agg] h R:=by
 unfold Ar at i;refine w5 U u T j (λe H p c o n f=> ?_) (λe H f=> ?_)
 .rw[af e]at i;exact i H p c 0 o n f
 .rw[e,dy]at i;exact i H none 0 3 (.nil rfl rfl rfl rfl) (λy ⟨A,e,_⟩=>by cases e) f
abbrev ml.s(b:ml)(q:ct)(C:Nat):ak.S:=⟨b.p.fl,b.p.sum,b.p.dest.lD,b.p.dest.node,b.p.dest.gL,b.p.dest.host,b.p.dest.jZ,b.p.rep.lD,b.p.rep.node,b.p.rep.gL,b.p.rep.host,b.p.rep.jZ,b.p.id.e.lD,b.p.id.e.node,b.p.id.e.gL,b.p.id.e.host,b.p.id.e.jZ,b.p.id.tm,b.p.id.sq,b.p.fT,q,b.bl.length,C⟩
variable {b:ml}
theorem UJ{b:Nat}{x:ml}{K:aE.S->Prop}(c:ak.fE h b (x.s q C))(e:K x.p.s):aE.cC h (AA b 0) K:=
 ⟨_,au c,_,au c,_,au c,_,au c,_,au c,_,au c,_,au c,_,au c,_,au c,_,au c,_,au c,_,au c,_,au c,_,au c,_,au c,_,au c,_,au c,_,au c,_,au c,_,au c,e⟩
theorem OH(m':b.p.wf)(U:ky V d)(u:Fr No d h)(mx:nV.Mx h)(B:iY h D b.bl q b.bl.length C X)(hl:b.bl.length<=8)(hd: ∀b'∈b.bl,b'.data.length<=80000)(k1: ∀o,rM V b=some o->o.length<=5000->∀H p c,Own H p o.length c 1 (bc o)->(∀y,aO p y->h.size<=y)->Fr No h H->R (.T #[.L p o.length c,.B true]) H)(S:rM V b=none->hM h R (.T #[.Z,.B false])):Cl 125 #[(b.s q C).agg] h R:=by
 refine Ew.walk (ak.cW λb1 h1 o' Q K=>UJ Q (OD b.p m' U (u.tt K) λh2 d' qz z0 z1 M=>aa.ex d'.s ⟨_,rfl,aa.fJ (x:=d'.s) λb2 h4 q' i' w=> ?_⟩));have r:=K.tt (M.tt w);have m:rM V b=rM V b:=rfl;conv at m=>rhs;unfold rM
 cases n:ou V b.p with
 |error e=>rw[af (cQ (z1 e n))];exact S (by rw[m,n]) h4 r
 |ok t=>
 obtain⟨rfl,tz⟩:=z0 t n;rw[n]at m;dsimp only at m;rw[dy];have rt:=AK n;have le:=GR (V:=V) t;refine aa.fy i' (Kk U (u.tt r) (tz.on w) ag λh5 p5 c5 q5 o5 n5 O=>⟨_,_,_,_,rfl,_,_,_,au ((M.tt (w.tt O)).get Q id),?_⟩);have F5:=r.tt O;have z4:=r.1;refine⟨λp l c t g=> ∃(i:Nat)(o:cG),t=(i:Int)/\i<=b.bl.length/\l=o.length/\Own g p o.length c 1 (bc o)/\(∀y,aO p y->h.size<=y)/\Fr No h g/\rM V b=Gj V (b.bl.drop i) o/\o.length<=1100+400*i,λ_ _ _ t _=>b.bl.length - t.toNat,⟨0,Ar V t,rfl,bT _,rfl,o5,λy z=>bW (n5 y z),F5,m,ag⟩,?_⟩;rintro p _ c _ g ⟨i,o,rfl,hi,rfl,ow,E,F,f,v'⟩;have lb:(b.s q C).Iu=b.bl.length:=rfl;by_cases s:i<b.bl.length
 case neg=>
  rw[ae (λe=>s (bW (aU e)))];rw[dH ag]at f;exact k1 o f ag g p c ow E F
 rw[ga];obtain⟨A,x,rfl,hh,J,a',_⟩:=(B.on F).get s;have lx:x.b.data.length<=80000:=by rw[J];exact hd _ (dI s)
 refine⟨ag,aw.2 (az.jR (x:=x.s) (by rw[aH];exact hh) (az.fJ (x:=x.s) λb3 h8 r' j' k=>az.fy j' (Kj x.b U (u.tt (F.tt k)) (mx.on (F.tt k)) (a'.frame k bX).row a'.cap lx λh9 y qy y0 y1 P=>aa.ex y.s ⟨_,rfl,aa.fJ (x:=y.s) λb4 h' s' k' v=> ?_⟩)))⟩;have I:=F.tt (k.tt (P.tt v));rw[J]at y0 y1;rw[cP s]at f;have hB: ∀L,Gj V (b.bl[i]::L) o=(match sU V b.bl[i]with| .error _=>none| .ok t=>Gj V L (o++Ar V t)):=λL=>rfl
 rw[hB]at f;cases j:sU V b.bl[i]with
 |error e=>rw[af (by rw[y1 e j];simpa using GP j)];exact S (by rw[f,j]) h' I
 |ok T=>
 obtain⟨rfl,ty⟩:=y0 T j;rw[j]at f;dsimp only at f;rw[dy];have A':=Df j;have w':=GR (V:=V) T;refine aa.fy k' (Kk U (u.tt I) (ty.u.on v) ag λt' y' n' z' l' x' e'=>⟨_,_,_,_,rfl,?_⟩);have G:=k.tt (P.tt (v.tt e'));refine dS mg.tU mg.uU (ow.frame G bX) l'.iF (by rw[kT,cE]) (rC _) ag ag λp' c' u' Z _ f' g'=>⟨_,_,_,rfl,?_⟩
 rw[bJ (n:=(i:Int)+1) ag ag];rw[<-kH,<-aA]at Z;have zG:=(F.tt G).1;refine⟨⟨i+1,o++Ar V T,ag,ag,by rw[aA],Z,λy z=> ?_,(F.tt G).fresh f' E,f,by rw[aA];omega⟩,by show b.bl.length - Int.toNat ((i:Int)+1)<b.bl.length - Int.toNat (i:Int);omega⟩;rcases g' y z with A|A
 .exact E y A
 .omega
theorem EB(b':b.p.wf)(U:ky V d)(u:Fr No d h)(P:nV.Mx h)(B:iY h D b.bl q b.bl.length C X)(hl:b.bl.length<=1000000)(M: ∀T∈b.bl,T.data.length<=80000)(k1: ∀o,jO V b=some o->o.length<=600->∀H p c,Own H p o.length c 1 (bc o)->(∀y,aO p y->h.size<=y)->Fr No h H->R (.T #[.L p o.length c,.I 0]) H)(K:jO V b=none->hM h R (.T #[.Z,.I 3])):Cl 79 #[(b.s q C).agg] h R:=by
 have i:jO V b=jO V b:=rfl;conv at i=>rhs;unfold jO
 refine Ey.walk (ak.cW λb1 h1 c' L k=>⟨_,_,_,au L,Sz U (u.tt k) (P.on k) (B.on k) hl M λh2 G=>⟨_,rfl,?_⟩⟩);have F:=k.tt G;cases j:B5 V b.bl with
 |false=>rw[ga];exact K (by rw[i,j];rfl) h2 F
 |true=>
 rw[j,af rfl]at i;rw[dy];have l8:b.bl.length<=8:=by
  unfold B5 at j;split at j
  .cases j
  .simp only[aV,aW]at j;exact j.1.1
 refine ak.fy (G.get L id) (OH b' U (u.tt F) (P.on F) (B.on F) l8 M (λo ho lo f p c ow nw m=>⟨_,_,_,_,rfl,aG.of λJ t=> ?_⟩) (λhn f m=>⟨_,_,_,_,rfl,aG.of λJ t=> ?_⟩))
 case refine_2=>
  rw[ga];subst t;dsimp only;rw[af rfl];exact K (by rw[i,hn]) f (F.tt m)
 rw[ho]at i;dsimp only at i;rw[dy];subst t;dsimp only;by_cases z:o.length<=598
 case neg=>rw[af (by simp only[aW];omega)];exact K (by rw[i,ae z]) f (F.tt m)
 rw[dy];rw[af z]at i;have x:=F.tt m;have z3:=x.1;refine cS ?_;have r:Fr No f (f.push (.C #[.int .u8 159] 5)):=Fr.push _ _;have o5:Own (f.push (.C #[.int .u8 159] 5)) (Sa f.size 0) 1 1 1 (bc [159]):=by
  exact .row f.size 0 #[.int .u8 159] 5 rfl bZ (bu _) bU rfl (λa' d' v=>by
   match a',v with
   |0,v=>exact v)
 refine dS mg.tU mg.uU o5 ((ow.frame r bX).iF) (by rw[kT,cE]) (rC _) ag ag λp6 c6 n o6 _ I g6=>⟨_,_,_,rfl,cS ?_⟩
 have s:Fr No n (n.push (.C #[.int .u8 255] 5)):=Fr.push _ _;have z5:=r.1;have z6:=I.1;have z7:=s.1;refine dS mg.tU mg.uU (o6.frame s bX) (q:=some (AA n.size 0)) (ds:=bc [255]) ju rfl (rC _) ag ag λp8 Z h8 O _ f8 g8=>⟨_,_,_,rfl,?_⟩
 rw[<-kH,<-kH]at O;have el:1+o.length+1=(159::(o++ [255])).length:=by simp;omega
 rw[el]at O⊢;have Q: ∀y,aO p6 y->f.size<=y:=λy w=>by
  rcases g6 y w with⟨A,e,E⟩|A
  .cases e;rw[<-E];exact bu _
  .omega
 have S:Fr No f n:=r.fresh I (λy ⟨A,e,E⟩=>by cases e;rw[<-E];exact bu _);refine k1 _ i (by simp;omega) h8 p8 Z O (λy w=> ?_) (x.tt ((S.tt s).fresh f8 Q));rcases g8 y w with A|A
 .have:=Q y A;omega
 .omega
theorem sI(w:b.p.wf)(U:ky V d)(u:Fr No d h)(M:nV.Mx h)(B:iY h D b.bl q b.bl.length C X)(n:b.bl.length<=1000000)(m: ∀j∈b.bl,j.data.length<=80000)(i: hM h R (.B (jO V b).isSome)):Cl 117 #[(b.s q C).agg] h R:=by
 refine Ex.walk (ak.cW λs t E k f=>ak.fy k (EB w U (u.tt f) (M.on f) (B.on f) n m (λO r L e p c x v F=>⟨_,_,_,_,rfl,?_⟩) (λo e F=>⟨_,_,_,_,rfl,?_⟩)))
 .have:=i e (f.tt F);rw[r]at this;exact this
 .have:=i e (f.tt F);rw[o]at this;exact this
theorem AP{b : ml}{q : Option Addr}{C : Nat}{X : List BB}(B : iY h D b.bl q b.bl.length C X)(Q : b.bl.length ≤ 1000000)(w : ∀ k ∈ b.bl, k.data.length ≤ 80000)(i : ∀ H p c, Own H p (rO b).length c 1 (bc (rO b)) → (∀ y, aO p y → h.size ≤ y) → Fr No h H → R (.slice p (rO b).length c) H): Cl 148 #[(b.s q C).agg] h R := by
  have L : (b.s q C).Iu = b.bl.length := rfl
  refine AO.walk (ak.cW λM u P j f => ⟨_, _, _, cB j rfl, ?_⟩)
  by_cases m : b.bl.length = 0
  · rw [if_pos (by simp only [beq_iff_eq]; omega)]
    have r : b.bl = [] := List.length_eq_zero_iff.1 m
    have : rO b = [] := by unfold rO; rw [r]; rfl
    rw [this] at i
    exact i u none 0 (.nil rfl rfl rfl rfl) (λy ⟨A, e, _⟩ => by cases e) f
  rw [if_neg (by simp only [beq_iff_eq]; omega)]
  obtain ⟨n, I⟩ : ∃ n, b.bl.length = n + 1 := ⟨b.bl.length - 1, by omega⟩
  have t : IntKind.wrap .i64 (((b.bl.length : Nat) : Int) - 1) = (n : Int) := by rw [I, bJ (by omega) (by omega)]; omega
  have G : b.bl.getLast? = some b.bl[n] := by rw [List.getLast?_eq_getElem?, show b.bl.length - 1 = n by omega, List.getElem?_eq_getElem (by omega)]
  have s : rO b = b.bl[n].data := by unfold rO; rw [G]
  refine ⟨_, _, _, cB j rfl, _, _, _, cB j rfl, ?_⟩
  rw [L, t]
  obtain ⟨A, x, rfl, z, E, O, _⟩ := (B.on f).get (i := n) (by omega)
  refine ⟨⟨by omega, by omega⟩, aw.2 ⟨_, _, _, by rw [Int.toNat_natCast]; exact z.2.2.2.2.1, mg.gE O.row rfl (by have := w _ (List.getElem_mem (show n < b.bl.length by omega)); rw [← E] at this; show x.b.data.length ≤ _; omega) λp c v o F K => ⟨_, _, _, rfl, ?_⟩⟩⟩
  rw [s, ← E] at i
  exact i v p c o (λy J => by have := K y J; have := f.1; omega) (f.tt F)

end Bn
end
section
namespace Bn
open Cb
open jH (Ev du lB)
variable {V:cG→Bool} {h d H g G:ai} {R:fM} {D:Nat→Prop}
variable {b cl c l:Nat} {q:ct} {p:Prim} {a:List nA} {X:List BB}
theorem tK:oC Tryz.prog 156 204 5 56 (.agg #[.U 0,.U 0,.U 0,.I 0,.Z]):=⟨dA,dA,rfl⟩
theorem uK:Tryz.prog.underlying 156=some (.slice 204):=dA
theorem OI{x:ml}{K:ai->Prop}(k:ak.fE h b (x.s q cl))(n: ∀H,ak.fE H b (ml.s ⟨p,x.bl⟩ q cl)->Fr (λy=>y=b) h H->K H):aE.dt h (AA b 0) p.s K:=
 (show dR (AA b 0) p.s.l 0 h K from lM (off:=0) (ws:=(ml.s ⟨p,x.bl⟩ q cl).l) k (by show 0+20<=21;omega) rfl rfl λj e f i=>n j e (Fr.of_eq f λC m=>i C m))
theorem AQ{y x:ak.S}{K:ak.S->ai->Prop}(i:ak.fE h b y)(j: ∀H,Fr (λy=>y=b) h H->K x H):
  ak.dt h (AA b 0) x λg=>ak.cC g (AA b 0) λr=>K r g:=
 ak.gY (x:=x) i λg e f _=>ak.fy e (j g f)
structure Bc (G g:ai) (c:Nat) (p:Prim) (a:List nA) (X:List BB) (q:ct) (cl:Nat):Prop where
 dh:ak.fE g c (ml.s ⟨p,a⟩ q cl)
 own:Own g q X.length cl 5 (X.flatMap yC)
 ge: ∀y,aO q y->G.size<=y/\y≠c
 eq:X.map BB.b=a
 ok: ∀x∈X,BV.ok g (λy=>(G.size<=y/\y≠c)/\¬aO q y) ⟨x.p,x.c,x.b.data⟩
 fr:Fr (λy=>y=c) G g
theorem Bc.on(L:Bc G g c p a X q cl)(f:Fr No g H):Bc G H c p a X q cl:=
 ⟨f.get L.dh id,L.own.frame f bX,L.ge,L.eq,λx e=>(L.ok x e).frame f bX,L.fr.on f⟩
theorem Bc.len(L:Bc G g c p a X q cl):X.length=a.length:=by rw[<-L.eq,aC]
theorem Bc.to(L:Bc G g c p a X q cl):iY g (λy=>G.size<=y/\y≠c) a q a.length cl X:=
 ⟨L.eq,rfl,L.own.iF,λ_=>L.ge,iL L.own.le L.len,λx e=>(L.ok x e).mono λy f=>f.1⟩
theorem Vf{x:BB}{v:ai->Prop}(L:Bc G g c p a X q cl)(hl:l=X.length)(ll:X.length<=1000000)(ox:BV.ok g (λy=>(G.size<=y/\y≠c)/\¬aO q y) ⟨x.p,x.c,x.b.data⟩)(hk: ∀k c' Q C,Bc G k c p (a++ [x.b]) c' Q C->g.size<=k.size->v k):
  bg g (.C x.s.arr 204) λz S=>ba Tryz.prog (Builtin.append_ #[156,156] 156 #[.L q l cl,.L (Sa z 0) 1 1]) S λb' U=>
   ∃u T t,b'=.L u T t/\aJ U (AA c 20) (.L u T t) λZ=>v Z:=by
 subst hl;refine az.cW λb2 h7 d' r F=> ?_
 have z7:=F.1;have zg:=L.fr.1;have e':=aD r;have f':=aD L.dh;have nq: ∀y,aO q y->y<g.size:=λy f=>L.own.dL f
 refine dS tK uK (L.own.frame F bX) (ds:=yC x) (.inr ⟨_,rfl,az.Aw (x:=x.s) r⟩) rfl (OF x) ag ag λQ C P a' _ i o=>⟨_,_,_,rfl,?_⟩
 have B:=i.get (F.get L.dh id) (λf=>(L.ge _ f).2 rfl);refine bk B (by show 20<21;omega) λm I J K=> ?_
 have j:Fr (λy=>y=c) P m:=Fr.of_eq J (λE hc=>K E hc);have s: ∀y,aO Q y->G.size<=y/\y≠c:=λy f=>by
  rcases o y f with A|A
  .exact L.ge y A
  .omega
 have M:X.flatMap yC++yC x=(X++ [x]).flatMap yC:=by rw[cR,List.flatMap_singleton]
 have O:(a++ [x.b]).length=X.length+1:=by rw[aA,L.len];rfl
 refine hk m (X++ [x]) Q C ⟨?_,?_,s,?_,?_,?_⟩ ?_
 .unfold ak.fE ml.s;rw[O];exact I
 .rw[aA,<-M];exact a'.frame j (λy f e=>bW (s y f))
 .rw[aY,L.eq];rfl
 .intro y f;have key: ∀w:BB,BV.ok g (λy=>(G.size<=y/\y≠c)/\¬aO q y) ⟨w.p,w.c,w.b.data⟩->BV.ok m (λy=>(G.size<=y/\y≠c)/\¬aO Q y) ⟨w.p,w.c,w.b.data⟩:=λw ow=>by
   have o1:=((Gm ow).frame F bX).frame i (λy f n=>f.1.2 n);have o2:=o1.mono (D':=λy=>(G.size<=y/\y≠c)/\¬aO Q y) (λy f=>⟨f.1.1,λn=>by
    rcases o y n with A|A
    .exact f.1.2 A
    .have:=f.2;omega⟩)
   exact o2.frame j (λy f e=>ag)
  rcases bH.1 f with A|A
  .exact key y (L.ok y A)
  .rw[bO.1 A];exact key x ox
 .exact((L.fr.on F).trans i (S'':=λy=>y=c) bX (λx hx f=>bW (L.ge x f))).trans j bX bX
 .have:=i.1;omega
theorem OJ{t:Tr}{b:nA}(h:Aq V t=.ok b):b.data.length<=200:=by
 unfold Aq at h;split at h
 .cases h
 .split at h
  .split at h
   .rename_i e;split at h
    .cases h;unfold sU at e;split at e
     .rename_i f;exact(xe f).2.2.1
     .cases e
    .cases h
   .cases h
  .cases h
theorem OK{b:ml}(h:(jO V b).isSome=true):b.bl.length<=8/\b.bl≠ []:=by
 unfold jO at h;split at h
 .rename_i f;unfold B5 at f;split at f
  .cases f
  .rename_i i;simp only[aV,aW]at f;exact⟨f.1.1,λe=>by rw[e]at i;cases i⟩
 .cases h
def ml.zs:ak.S:=.z
theorem zu{a:cG}{p:ct}{k':Nat}(U:ky V d)(c':Fr No d h)(mx:nV.Mx h)(J':Row h p (bc a))(hl:l=a.length)(cap:a.length<=k')(k1: ∀b,kX V a=.ok b->b.p.wf->(∀s∈b.bl,s.data.length<=200)->b.bl.length<=8->∀H q cl X,iY H (λy=>h.size<=y) b.bl q b.bl.length cl X->Fr No h H->R (.T #[(b.s q cl).agg,.I 0]) H)(k2: ∀e,kX V a=.error e->e≠0->hM h R (.T #[ak.S.z.agg,.I e])):Cl 74 #[.L p l k'] h R:=by
 subst hl;have k:kX V a=kX V a:=rfl;conv at k=>rhs;unfold kX
 refine GQ.walk (ak.cW λb h1 eb hb A=> ?_);have zb:=aD hb;have z1:=A.1;have J: ∀g e,Fr No h1 g->kX V a=.error e->e≠0->ak.dt g (AA b 0) .z λv=>ak.cC v (AA b 0) λI'=>R (.T #[I'.agg,.I e]) v:=λg e fg j m=>
  AQ (fg.get hb id) λv f=>k2 e j m v ((A.tt fg).fresh f (λy e=>ag))
 by_cases c0:a.length<=1200
 case neg=>rw[af (by simp only[aW];omega)];exact J h1 2 (Fr.refl _ _) (by rw[k,ae c0]) dT
 rw[dy];rw[af c0]at k;refine vJ (U.mono (c'.tt A)) (J'.frame A bX) rfl cap ag (λh3 t x nx M tx u=>aa.ex x.s ⟨_,_,rfl,aa.fJ (x:=x.s) λb1 w x' I n=> ?_⟩) (λh3 e j u=>aa.ex zv.s ⟨_,_,rfl,aa.fJ (x:=zv.s) λb1 w x' I n=> ?_⟩)
 case refine_2=>
  rw[af (cQ (mY j))];exact J w e (u.tt n) (by rw[k,j]) (mY j)
 rw[M]at k;dsimp only at k;obtain⟨rt,Q'⟩:=rJ M;rw[dy];have z:=A.tt (u.tt n);obtain⟨xk,xn,xb,xl,xv,ys,L,TS⟩:=gP.kn (tx.u.on n);have rl:=kZ (t:=t);have ln:=TS.len;refine aG.of λt' hJ=> ?_
 have bad: ¬(nx=a.length/\t.k=4/\2<=t.l.length/\t.l.length<=9)->t' true w:=λm=>by
  subst hJ;dsimp only;rw[af rfl];exact J w 3 (u.tt n) (by rw[k,ae m]) dT
 have sl:x.s.Fl=t.l.length:=xl;by_cases c1:nx=a.length
 case neg=>rw[af (by simp only[dw,fj];omega)];exact bad (λe=>c1 e.1)
 rw[ae (by simp only[dw,fj];omega)];refine⟨_,au I,?_⟩;rw[show x.s.f0=t.k from xk];by_cases S:t.k=4
 case neg=>rw[af (cQ S)];exact bad (λe=>S e.2.1)
 rw[ae (cQ S)];refine⟨_,_,_,au I,?_⟩;by_cases c3:2<=t.l.length
 case neg=>rw[af (by simp only[aW];omega)];exact bad (λe=>c3 e.2.2.1)
 rw[dy];refine⟨_,_,_,au I,?_⟩;by_cases c4:t.l.length<=9
 case neg=>rw[show decide ((x.s.Fl:Int)>9)=true by simp only[aW];omega];exact bad (λe=>c4 e.2.2.2)
 rw[show decide ((x.s.Fl:Int)>9)=false by simp only[fk];omega];clear bad;rw[af ⟨c1,S,c3,c4⟩]at k;subst hJ;try dsimp only
 rw[dy];have z5:=z.1;have S':=(u.tt n).1;refine ak.cW λb2 h9 M' h' r=> ?_
 have z9:=r.1;have T':=aD h';obtain⟨a0,y0,v',G',K',_⟩:=elem (L.frame r bX) (TS.on r) (i:=0) ag;have r0:=jd (ts:=t.l) (i:=0) ag;have F9:=z.tt r;refine⟨_,_,_,au (r.get I id),ag,bR.2 ⟨a0,v',aa.jR (x:=y0.s) G' ?_⟩⟩;refine OE U (c'.tt F9) (mx.on F9) K' ag (λpr hp wp A' C=>aE.ex pr.s ⟨_,rfl,OI (x:=⟨Prim.zero, []⟩) (p:=pr) (q:=none) (cl:=0) (C.get h' id) λf' m' Z=> ?_⟩) (λe j m A' C=>aE.ex Prim.zero.s ⟨_,rfl,OI (x:=⟨Prim.zero, []⟩) (p:=Prim.zero) (q:=none) (cl:=0) (C.get h' id) λf' m' Z=> ?_⟩)
 case refine_2=>
  rw[af (cQ m)];exact J f' e ((u.tt (n.tt (r.tt C))).fresh Z (λy e=>ag)) (by rw[k,j]) m
 rw[dy];rw[hp]at k;dsimp only at k;have s':Fr No w f':=(r.tt C).fresh Z (λy e=>ag);refine⟨_,_,_,au (s'.get I id),ag,?_⟩;have e1:Int.toNat 1=1:=rfl;rw[e1,sl];refine⟨λT g=> ∃(i:Nat)(o:List nA)(X:List BB)(q:ct)(cl:Nat),T=(i:Int)/\i+1<=t.l.length/\o.length=i/\Bc w g b2 pr o X q cl/\(∀s∈o,s.data.length<=200)/\kX V a=(match Gk V (t.l.drop (i+1)) o with| .error e=> .error e| .ok l=>if(jO V ⟨pr,l⟩).isSome=true then .ok ⟨pr,l⟩else .error 3),λT _=>t.l.length - 1 - T.toNat,⟨0, [], [],none,0,rfl,ag,rfl,⟨m',.nil rfl rfl rfl rfl,(λy ⟨P,e,_⟩=>by cases e),rfl,(λx hx=>by cases hx),(r.tt C).mono (λ_ _=>False.elim)|>.tt Z⟩,(λx hx=>by cases hx),k⟩,?_⟩;rintro _ g ⟨i,o,X,q,cl,rfl,hi,ho,B,hd,j⟩;have F:Fr No w g:=(Fr.refl _ _).fresh B.fr (λy e=>ag);have O:Fr No h1 g:=u.tt (n.tt F);by_cases b':i+1<t.l.length
 case neg=>
  rw[ae (λe=>b' (bW (aU e)))];rw[dH ag]at j;have j:kX V a=if(jO V ⟨pr,o⟩).isSome=true then .ok ⟨pr,o⟩else .error 3:=j
  refine ak.fy B.dh (sI (b:=⟨pr,o⟩) wp U (c'.tt (z.tt F)) (mx.on (z.tt F)) B.to (by show o.length<=_;omega) (λs g'=>bW (hd s g')) λD' K=>⟨_,rfl,?_⟩);cases hw:(jO V ⟨pr,o⟩).isSome with
  |false=>
   rw[ga];exact J D' 3 (O.tt K) (by rw[j,hw];rfl) dT
  |true=>
   rw[hw,af rfl]at j;rw[dy];refine ak.fy (K.get B.dh id) (AQ ((O.tt K).get hb id) λv f=>k1 ⟨pr,o⟩ j wp hd (OK hw).1 v q cl X ?_ ((A.tt (O.tt K)).fresh f (λy e=>ag)));exact((B.to.on K).frame f (λy hy e=>ag)).mono λy hy=>ag
 rw[ga];have F':t.l.drop (i+1)=at_ t.l (i+1)::t.l.drop (i+1+1):=by
  rw[cP b'];unfold at_;rw[bh,aj b'];rfl
 rw[F']at j;have hB: ∀T l',Gk V (T::l') o=(match Aq V T with| .error e=> .error e| .ok b=>Gk V l' (o++ [b])):=λ_ _=>rfl
 rw[hB]at j;have Lg:=L.frame F bX;have cc:x.ll<=x.cl:=L.cap;have L2:mA g (λ_=>True) (cY x.s.Sp x.s.P6 1 4) (t.l.length - 1) (x.s.P6 - 1) (ys.drop 1):=by
  have M:=Lg.row.sub (cap:=x.cl) (l:=1) (u:=t.l.length) (sz:=4) ag ag;rw[mW iR 4 gU,mX iR 4 gU,bF ag]at M;exact⟨by rw[bM];omega,M,λ_ _ _=>trivial,by show _<=x.cl - 1;omega⟩
 have T2:Cg g (t.l.drop 1) (ys.drop 1):=(TS.on F).drop 1;obtain⟨a1,y1,w',H',r',_⟩:=elem L2 T2 (i:=i) (by rw[bM];omega);have ei:at_ (t.l.drop 1) i=at_ t.l (i+1):=by unfold at_;rw[bh,bh,fp,Nat.add_comm]
 rw[ei]at r';have r1:=jd (ts:=t.l) (i:=i+1) b';refine⟨ag,bR.2 ⟨a1,w',aa.jR (x:=y1.s) (by rw[aH];exact H') (aa.fJ (x:=y1.s) λb3 P' O' E' E=>aa.fy E' ?_)⟩⟩;have zg:=F.1;refine QG U (c'.tt (z.tt (F.tt E))) (mx.on (z.tt (F.tt E))) (r'.on E) ag (λQ p' C' i' d' ov e'=>az.ex (Q.s i' d') ⟨_,rfl,az.fJ (x:=Q.s i' d') λb4 n' y' o' a'=> ?_⟩) (λe hE m C' e'=>az.ex .z ⟨_,rfl,az.fJ (x:=.z) λb4 n' y' o' a'=> ?_⟩)
 case refine_2=>
  rw[af (cQ m)];exact J n' e (O.tt (E.tt (e'.tt a'))) (by rw[j,hE]) m
 rw[dy];rw[p']at j;dsimp only at j;have z':=E.tt (e'.tt a');have j':=B.on z';have R':=E.1;have nq: ∀y,aO q y->y<g.size:=λy hy=>B.own.dL hy
 have U':=aD B.dh;refine⟨_,_,_,au j'.dh,az.fy o' (Vf (x:=⟨Q,i',d'⟩) j' (by show o.length=_;exact B.len.symm) (bW B.len) ((ov.frame a' bX).mono λy hy=>⟨ag,λhq=>bW (nq y hq)⟩) λv L' q' u' B' V'=> ?_)⟩;rw[bJ (n:=(i:Int)+1) ag ag];refine⟨⟨i+1,o++ [Q],L',q',u',ag,ag,by rw[aA,ho];rfl,B',λs g'=> ?_,j⟩,by show t.l.length - 1 - Int.toNat ((i:Int)+1)<t.l.length - 1 - Int.toNat (i:Int);omega⟩;rcases bH.1 g' with P|P
 .exact hd s P
 .rw[bO.1 P];exact OJ p'

end Bn
end
section
variable {h:ai} {R:fM}
variable {x:aM.S}
theorem I1.walk{a:aM.S}{b:aM.S}(l:bg h (.C a.arr 37) λB j=>bg j (.C b.arr 37) λc H=>Hu H B 0 λA=> ∃i,Cc H c 0 (.U i)/\if(A==i)then Hi H B 1 λm=> ∃t,Cc H c 1 (.I t)/\if(m==t)then Hu H B 2 λn=> ∃T,Cc H c 2 (.U T)/\if(n==T)then Hi H B 3 λo=> ∃e,Cc H c 3 (.I e)/\if(o==e)then aF.cC H (AA B 4) λp=>aF.cC H (AA c 4) λq=>Cl 34 #[p.agg,q.agg] H λv d=> ∃f,v=.B f/\if f then Hl d B 23 λu s r=>Hl d c 23 λz y w=>Cl 35 #[.L u s r,.L z y w] d λV k=> ∃g,V=.B g/\R (.B g) k else R (.B false) d else R (.B false) H else R (.B false) H else R (.B false) H else R (.B false) H):Cl 21 #[a.agg,b.agg] h R:=aR [] Tryz.func21 l
theorem LS.walk (E:bg h (.C x.arr 37) λb r=>aM.NW r λi a=>Hu a b 0 λM=>Hi a b 1 λO=>aM.NW a λB A=>aM.dt A (AA B 0) ⟨M,O,0,0,0,0,false,0,0,iB,iB,false,0,0,iB,iB,0,0,0,none,0,0,0,0,false,none,0,0⟩ λc=>Hi c b 1 λt=>aG (λ(l:ai)=>aM.cC l (AA B 0) λL=>aM.dt l (AA i 0) L λm=>aM.cC m (AA i 0) λF=>R (F.agg) m) (λJ=>aG (λ(G:Bool) (H:ai)=>aG (λ(C:ai)=>J C) (λd=>if G then∃T,Cc H b 2 (.U T)/\aJ H (AA B 2) (.U T) λD=>d D else aG (λ(s:ai)=>d s) (λe=>if(t==3)then∃n,Cc H b 3 (.I n)/\aJ H (AA B 3) (.I n) λu=>e u else aG (λ(v:ai)=>e v) (λf=>if(t==4)then Hi H b 3 λI=>aF.cC H (AA b 4) λK=>aJ H (AA B 3) (.I I) λk=>Kp H k [(Sa b 4)]/\aF.dt k (AA B 4) K λw=>f w else aG (λ(y:ai)=>f y) (λg=>if(t==5)then∃q p o,Cc H b 23 (.L q p o)/\aJ H (AA B 23) (.L q p o) λz=>g z else g H))))) (λj=>if(t==1)then j (t==1) c else j (t==2) c))):Cl 36 #[x.agg] h R:=aR [(7,.join []),(11,.join [(11,.one (.bool))]),(14,.join []),(18,.join []),(22,.join []),(23,λ_=>pK 8),(26,.join [])] Tryz.func36 E
theorem yD.walk{n:Int}(H:if(decide (n≥1))then R (.B (decide (n<=1099511627776))) h else R (.B false) h):Cl 55 #[.I n] h R:=aR [] Tryz.func55 H
theorem GS.walk(r:bg h (.C x.arr 37) λb c=>Hi c b 1 λt=>aG (λ(B:Bool) (H:ai)=>if B then∃o,Cc H b 2 (.U o)/\if(decide (o≥1))then∃T,Cc H b 2 (.U T)/\R (.B (decide (T<=2147483648))) H else R (.B false) H else if(t==3)then Hi H b 3 λs=>Cl 55 #[.I s] H λv p=> ∃e,v=.B e/\R (.B e) p else if(t==4)then Hi H b 3 λu=>Cl 55 #[.I u] H λV d=> ∃f,V=.B f/\if f then aF.cC d (AA b 4) λw=>Cl 56 #[w.agg] d λC a=> ∃g,C=.B g/\if g then∃i,Cc a b 5 (.I i)/\if(i !=11)then∃j,Cc a b 5 (.I j)/\R (.B (j !=12)) a else R (.B false) a else R (.B false) a else R (.B false) d else if(t==5)then Hl H b 23 λA z y=>Cl 57 #[.L A z y] H λD q=> ∃k,D=.B k/\R (.B k) q else∃l,Cc H b 1 (.I l)/\if(l==6)then R (.B true) H else∃m,Cc H b 1 (.I m)/\if(m==7)then R (.B true) H else∃n,Cc H b 1 (.I n)/\R (.B (n==8)) H) (λJ=>if(t==1)then J (t==1) c else J (t==2) c)):Cl 37 #[x.agg] h R:=aR [(9,.join [(5,.one (.bool))])] Tryz.func37 r
theorem GU.walk(g:bg h (.C x.arr 37) λb H=> ∃e,Cc H b 0 (.U e)/\if(decide (e<=1099511627776))then aM.cC H (AA b 0) λj=>aM.cC H (AA b 0) λk=>Cl 36 #[k.agg] H λv c=>aM.EX λf=>v=f.agg/\Kp H c [(Sa b 0),(Sa b 0)]/\Cl 21 #[j.agg,f.agg] c λV a=> ∃t,V=.B t/\Kp c a [(Sa b 0)]/\if t then aM.cC a (AA b 0) λi=>Cl 37 #[i.agg] a λl d=> ∃T,l=.B T/\Kp a d [(Sa b 0)]/\R (.B T) d else R (.B false) a else R (.B false) H):Cl 23 #[x.agg] h R:=aR [(3,λ_=>pK 14)] Tryz.func23 g
theorem yE.walk{c:ct}{a B:Nat}(n:Cl 74 #[.L c a B] h λv k=>ak.EX λi=> ∃j,v=.T #[i.agg,.I j]/\ak.NW k λb l=>ak.dt l (AA b 0) i λH=>if(j !=0)then R (.B false) H else ak.cC H (AA b 0) λo=>Cl 79 #[o.agg] H λV d=> ∃e T t f,V=.T #[.L e T t,.I f]/\if(f==0)then Cl 35 #[.L c a B,.L e T t] d λp m=> ∃g,p=.B g/\R (.B g) m else R (.B false) d):Cl 57 #[.L c a B] h R:=aR [] Tryz.func57 n

end
section
namespace pf
open Go.Proofs.YtkdgpmeojgokdaaGreatDoor.Ask (Rq kY rP Ox bq pc)
open Bn (kX jO rN ml)
variable {V:cG→Bool} {h H a g:ai} {R:fM} {p q p' q':ct} {c d c' d':Nat}
variable {b:Nat} {K:ai->Prop}
theorem LU{f:cG}{l:Nat}(U:Cb.ky V a)(u:Fr No a h)(M:nV.Mx h)(v:Row h p (bc f))(t:l=f.length)(cap:f.length<=c)(i: hM h R (.B (rN V f))):Cl 57 #[.L p l c] h R:=by
 subst t;unfold rN at i;refine yE.walk (Bn.zu U u M v rfl cap (λb D w G t A q C Z B m=>ak.ex (b.s q C) ⟨_,rfl,ak.fJ (x:=b.s q C) λz r E s j=> ?_⟩) (λe I J A m=>ak.ex .z ⟨_,rfl,ak.fJ (x:=.z) λz r E s j=> ?_⟩))
 case refine_2=>
  rw[I]at i;rw[af (cQ J)];exact i r (m.tt j)
 rw[D]at i;dsimp only at i;rw[dy];have F:=m.tt j;refine ak.fy (x:=b.s q C) s (Bn.EB w U (u.tt F) (M.on F) (B.on j) ag (λy L=>bW (G y L)) (λO o S n X Q P T k=>⟨_,_,_,_,rfl,?_⟩) (λo n k=>⟨_,_,_,_,rfl,?_⟩))
 .rw[ga];refine Cb.kz (v.frame (F.tt k) bX) P.iF rfl rfl ⟨_,rfl,?_⟩;have e:decide (f=O)=decide (jO V b=some f):=by
   rw[o];by_cases e:f=O
   .rw[av e,av (by rw[e])]
   .rw[aB e,aB (λq=>e (aZ q).symm)]
  rw[e];exact i n (F.tt k)
 .rw[dy];have:=i n (F.tt k);rw[aB (by rw[o];intro e;cases e)]at this;exact this
structure qK where
 now:Nat
 kind:Int
 token:Nat
 ses:Int
 iO:Rq
 data:cG
deriving DecidableEq
def Rq.none:Rq:=⟨0,0,.zero,.zero,0,0,0, [],0,0,false⟩
abbrev qK.s(x:qK)(p:ct)(c:Nat)(q:ct)(d:Nat):aM.S:=⟨x.now,x.kind,x.token,x.ses,x.iO.id,x.iO.kind,x.iO.ep.lD,x.iO.ep.node,x.iO.ep.gL,x.iO.ep.host,x.iO.ep.jZ,x.iO.dest.lD,x.iO.dest.node,x.iO.dest.gL,x.iO.dest.host,x.iO.dest.jZ,x.iO.lU,x.iO.num,x.iO.ja,p,x.iO.mf.length,c,x.iO.fT,x.iO.token,x.iO.on,q,x.data.length,d⟩
variable {x:qK}
def mJ(x:qK):qK:=⟨x.now,x.kind,0,0,Rq.none, []⟩
def sW(x:qK):qK:=
 if x.kind=1\/x.kind=2 then { mJ x with token:=x.token }
 else if x.kind=3 then { mJ x with ses:=x.ses }
 else if x.kind=4 then { mJ x with ses:=x.ses,iO:=x.iO }
 else if x.kind=5 then { mJ x with data:=x.data }
 else mJ x
def isS(n:Int):Bool:=decide (n≥1) && decide (n<=1099511627776)
def uy(V:cG->Bool)(x:qK):Bool:=
 if x.kind=1\/x.kind=2 then decide (x.token≥1) && decide (x.token<=2147483648)
 else if x.kind=3 then isS x.ses
 else if x.kind=4 then isS x.ses && kY x.iO && (x.iO.kind !=11) && (x.iO.kind !=12)
 else if x.kind=5 then rN V x.data
 else decide (x.kind=6\/x.kind=7\/x.kind=8)
def zx(V:cG->Bool)(x:qK):Bool:=decide (x.now<=1099511627776) && decide (x=sW x) && uy V x
theorem LW{K:aF.S->Prop}(e:aM.fE h b (x.s p c q d))(f:K (x.iO.s p c)):aF.cC h (AA b 4) K:=
 ⟨_,au e,_,au e,_,au e,_,au e,_,au e,_,au e,_,au e,_,au e,_,au e,_,au e,_,au e,_,au e,_,au e,_,au e,_,au e,_,_,_,au e,_,au e,_,au e,_,au e,f⟩
theorem Vg{r:Rq}(j:aM.fE h b (x.s p c q d))(l: ∀H,aM.fE H b (({ x with iO:=r } :qK).s p' c' q d)->Fr (λy=>y=b) h H->K H):aF.dt h (AA b 4) (r.s p' c') K:=
 (show dR (AA b 4) (r.s p' c').l 0 h K from lM (off:=4) (ws:=(({ x with iO:=r } :qK).s p' c' q d).l) j (by show 4+19<=24;omega) rfl rfl λi D e f=>l i D (Fr.of_eq e λc k=>f c k))
theorem EC{i:Nat}{y z:aM.S}{v:Value}(k:aM.fE h b y)(m:i<24)(o:y.arr.setIfInBounds i v=z.arr)(n: ∀H,aM.fE H b z->Fr (λy=>y=b) h H->K H):aJ h (AA b i) v K:=
 bk k m λj D e f=>n j (by unfold aM.fE;rw[<-o];exact D) (Fr.of_eq e λc l=>f c l)
theorem GV(x y:qK)(P:Row h p (bc x.iO.mf))(Q:Row h p' (bc y.iO.mf))(D:Row h q (bc x.data))(E:Row h q' (bc y.data))(B: hM h R (.B (decide (x=y)))):Cl 21 #[(x.s p c q d).agg,(y.s p' c' q' d').agg] h R:=by
 refine I1.walk (aM.cW λb X T O L=>aM.cW λS u U f w=> ?_);have i:=w.get O id;have F:=L.tt w;have s: ∀g,Fr No h g->x≠y->R (.B false) g:=λg M e=>by have:=B g M;rw[aB e]at this;exact this
 have I: ∀(A b:Int)(m n:Nat),A=m->b=n->m≠n->¬(A==b)=true:=λA b m n G J e=>by rw[G,J];simp only[dc];omega
 refine⟨_,au i,_,au f,?_⟩;by_cases C:x.now=y.now
 case neg=>rw[ae (I _ _ _ _ rfl rfl C)];exact s u F (λe=>C (by rw[e]))
 rw[af (by show((x.now:Int)==(y.now:Int))=true;rw[C];simp)];refine⟨_,au i,_,au f,?_⟩;by_cases j:x.kind=y.kind
 case neg=>rw[ae (by show¬(x.kind==y.kind)=true;simpa using j)];exact s u F (λe=>j (by rw[e]))
 rw[af (by show(x.kind==y.kind)=true;simpa using j)];refine⟨_,au i,_,au f,?_⟩;by_cases k:x.token=y.token
 case neg=>rw[ae (I _ _ _ _ rfl rfl k)];exact s u F (λe=>k (by rw[e]))
 rw[af (by show((x.token:Int)==(y.token:Int))=true;rw[k];simp)];refine⟨_,au i,_,au f,?_⟩;by_cases l:x.ses=y.ses
 case neg=>rw[ae (by show¬(x.ses==y.ses)=true;simpa using l)];exact s u F (λe=>l (by rw[e]))
 rw[af (by show(x.ses==y.ses)=true;simpa using l)];refine LW i (LW f (Ask.GJ x.iO y.iO (P.frame F bX) (Q.frame F bX) λz v=>⟨_,rfl,?_⟩));have t:=F.tt v;by_cases o:x.iO=y.iO
 case neg=>rw[ae (cQ o)];exact s z t (λe=>o (by rw[e]))
 rw[af (cQ o)];refine⟨_,_,_,au (v.get i id),_,_,_,au (v.get f id),Cb.kz (D.frame t bX) (E.frame t bX) rfl rfl ⟨_,rfl,?_⟩⟩;have e:decide (x=y)=decide (x.data=y.data):=by
  by_cases r:x.data=y.data
  .have:x=y:=by cases x;cases y;simp only at C j k l o r;simp[C,j,k,l,o,r]
   rw[av this,av r]
  .rw[aB (λe=>r (by rw[e])),aB r]
 rw[<-e];exact B z t
theorem QH(x:qK)(rx:Row h p (bc x.iO.mf))(X:Row h q (bc x.data))(hk: ∀H p' c' q' d',Row H p' (bc (sW x).iO.mf)->Row H q' (bc (sW x).data)->Fr No h H->R ((sW x).s p' c' q' d').agg H):Cl 36 #[(x.s p c q d).agg] h R:=by
 refine LS.walk (aM.cW λb h1 eb u L=>aM.cW λb1 h2 b' P F=>⟨_,au (F.get u id),_,au (F.get u id),aM.fJ (x:=(mJ x).s none 0 none 0) λB C e' r M=> ?_⟩);have l:=(F.tt M).get u id;have zb:=aD u;have f':=aD P;have z1:=L.1;have z2:=F.1;have ne:b≠B:=ag
 refine⟨_,au l,aG.of λJ hJ=>aG.of λT a'=> ?_⟩;have fin: ∀g p' c' q' d',aM.fE g B ((sW x).s p' c' q' d')->Row h p' (bc (sW x).iO.mf)->Row h q' (bc (sW x).data)->Fr (λy=>y=B) C g->J g:=by
  intro g p' c' q' d' hg hr hd fg;have I:Fr No h2 g:=M.fresh fg (λy e=>ag);have G:=(L.tt F).tt I;subst hJ;refine aM.fy hg (aM.gY (x:=(sW x).s p' c' q' d') (I.get P id) λh6 U A _=>aM.fy U ?_);have z:=G.fresh A (λy e=>ag);exact hk h6 p' c' q' d' (hr.frame z bX) (hd.frame z bX) z
 have n:Row h none (bc []):=Row.nil;have S: ∀v,(v=true↔x.kind=1\/x.kind=2)->T v C:=by
  intro v Q;subst a';dsimp only;refine aG.of λJ2 o=> ?_
  by_cases k:x.kind=1\/x.kind=2
  .have E:sW x= { mJ x with token:=x.token } :=af k;rw[E]at fin;rw[af (Q.2 k)];exact⟨_,au l,EC (z:=({ mJ x with token:=x.token } :qK).s none 0 none 0) r dT rfl λj i f=>by subst o;exact fin j none 0 none 0 i n n f⟩
  rw[ae (λe=>k (Q.1 e))];refine aG.of λJ3 t=> ?_
  by_cases m:x.kind=3
  .have E:sW x= { mJ x with ses:=x.ses } :=(ae k).trans (af m);rw[E]at fin;rw[af (bq.2 m)];exact⟨_,au l,EC (z:=({ mJ x with ses:=x.ses } :qK).s none 0 none 0) r dT rfl λj i f=>by subst t;subst o;exact fin j none 0 none 0 i n n f⟩
  rw[ae (λe=>m (bq.1 e))];refine aG.of λJ4 D=> ?_
  by_cases s:x.kind=4
  .have E:sW x= { mJ x with ses:=x.ses,iO:=x.iO } :=(ae k).trans ((ae m).trans (af s));rw[E]at fin;rw[af (bq.2 s)];refine⟨_,au l,LW l (EC (z:=({ mJ x with ses:=x.ses } :qK).s none 0 none 0) r dT rfl λj i f=>⟨Ox f ne bU,Vg (x:= { mJ x with ses:=x.ses }) (r:=x.iO) i λg2 Z A=> ?_⟩)⟩;subst D;subst t;subst o;exact fin g2 p c none 0 Z rx n (f.tt A)
  rw[ae (λe=>s (bq.1 e))];refine aG.of λJ5 O=> ?_
  by_cases w:x.kind=5
  .have E:sW x= { mJ x with data:=x.data } :=(ae k).trans ((ae m).trans ((ae s).trans (af w)));rw[E]at fin;rw[af (bq.2 w)];exact⟨_,_,_,au l,EC (z:=({ mJ x with data:=x.data } :qK).s none 0 q d) r dT rfl λj i f=>by subst O;subst D;subst t;subst o;exact fin j none 0 q d i n X f⟩
  rw[ae (λe=>w (bq.1 e))];have E:sW x=mJ x:=(ae k).trans ((ae m).trans ((ae s).trans (ae w)));rw[E]at fin;subst O;subst D;subst t;subst o;exact fin C none 0 none 0 r n n (Fr.refl _ _)
 by_cases k:x.kind=1
 .rw[af (bq.2 k)];exact S _ ⟨λ_=> .inl k,λ_=>bq.2 k⟩
 rw[ae (λe=>k (bq.1 e))];exact S _ ⟨λe=> .inr (bq.1 e),λe=>bq.2 (e.resolve_left k)⟩
theorem OL(n:Int)(e:R (.B (isS n)) h):Cl 55 #[.I n] h R:=by
 refine yD.walk ?_;unfold isS at e;by_cases c:n≥1
 .rw[af (av c)];rw[av c]at e;exact e
 .rw[ae (cQ c)];rw[aB c]at e;exact e
theorem LX(x:qK)(U:Cb.ky V a)(u:Fr No a h)(P:nV.Mx h)(Q:Row h p (bc x.iO.mf))(I:Row h q (bc x.data))(cap:x.data.length<=d)(f: hM h R (.B (uy V x))):Cl 37 #[(x.s p c q d).agg] h R:=by
 refine GS.walk (aM.cW λb l S i F=>⟨_,au i,aG.of λJ M=> ?_⟩);have G: ∀v,(v=true↔x.kind=1\/x.kind=2)->J v l:=by
  intro v D;subst M;dsimp only;by_cases k:x.kind=1\/x.kind=2
  .have E:uy V x=(decide (x.token≥1) && decide (x.token<=2147483648)):=af k;rw[E]at f;rw[af (D.2 k)];have f:=f l F;refine⟨_,au i,?_⟩;have L:decide (((x.s p c q d).f2:Int)≥1)=decide (x.token≥1):=Ask.Ep x.token 1;rw[L];refine pc (λy=> ?_) (λy=> ?_) (b:=decide (x.token≥1))
   .rw[y]at f⊢;rw[af rfl];refine⟨_,au i,?_⟩;have z:decide (((x.s p c q d).f2:Int)<=2147483648)=decide (x.token<=2147483648):=Bn.k7 x.token 2147483648;rw[z];exact f
   .rw[y]at f⊢;rw[dy];exact f
  rw[ae (λe=>k (D.1 e))];by_cases j:x.kind=3
  .have E:uy V x=isS x.ses:=(ae k).trans (af j);rw[E]at f;rw[af (bq.2 j)];exact⟨_,au i,OL x.ses ⟨_,rfl,f l F⟩⟩
  rw[ae (λe=>j (bq.1 e))];by_cases m:x.kind=4
  .have E:uy V x=(isS x.ses && kY x.iO && (x.iO.kind !=11) && (x.iO.kind !=12)):=(ae k).trans ((ae j).trans (af m));rw[E]at f;rw[af (bq.2 m)];refine⟨_,au i,OL x.ses ⟨_,rfl,?_⟩⟩;refine pc (λt=> ?_) (λt=> ?_) (b:=isS x.ses)
   case refine_2=>rw[t]at f⊢;rw[dy];exact f l F
   rw[t]at f⊢;rw[af rfl];refine LW i (Ask.fK x.iO (Q.frame F bX) λA n=>⟨_,rfl,?_⟩);have B:=n.get i id;have f:=f A (F.tt n);refine pc (λw=> ?_) (λw=> ?_) (b:=kY x.iO)
   case refine_2=>rw[w]at f⊢;rw[dy];exact f
   rw[w]at f⊢;rw[af rfl];refine⟨_,au B,?_⟩;refine pc (λC=> ?_) (λC=> ?_) (b:=x.iO.kind !=11)
   .rw[C]at f;rw[af C];exact⟨_,au B,f⟩
   .rw[C]at f;rw[ae (by show¬(x.iO.kind !=11)=true;rw[C];decide)];exact f
  rw[ae (λe=>m (bq.1 e))];by_cases o:x.kind=5
  .have E:uy V x=rN V x.data:=(ae k).trans ((ae j).trans ((ae m).trans (af o)));rw[E]at f;rw[af (bq.2 o)];exact⟨_,_,_,au i,LU U (u.tt F) (P.on F) (I.frame F bX) rfl cap λA n=>⟨_,rfl,f A (F.tt n)⟩⟩
  rw[ae (λe=>o (bq.1 e))];have E:uy V x=decide (x.kind=6\/x.kind=7\/x.kind=8):=(ae k).trans ((ae j).trans ((ae m).trans (ae o)));rw[E]at f;have f:=f l F;refine⟨_,au i,?_⟩;by_cases r:x.kind=6
  .rw[af (bq.2 r)];rw[av (.inl r)]at f;exact f
  rw[ae (λe=>r (bq.1 e))];refine⟨_,au i,?_⟩;by_cases s:x.kind=7
  .rw[af (bq.2 s)];rw[av (.inr (.inl s))]at f;exact f
  rw[ae (λe=>s (bq.1 e))];refine⟨_,au i,?_⟩;have z:decide (x.kind=6\/x.kind=7\/x.kind=8)=(x.kind==8):=by by_cases O:x.kind=8<;>simp[r,s,O]
  rw[z]at f;exact f
 by_cases k:x.kind=1
 .rw[af (bq.2 k)];exact G _ ⟨λ_=> .inl k,λ_=>bq.2 k⟩
 rw[ae (λe=>k (bq.1 e))];exact G _ ⟨λe=> .inr (bq.1 e),λe=>bq.2 (e.resolve_left k)⟩
theorem LY(x:qK)(U:Cb.ky V a)(u:Fr No a h)(M:nV.Mx h)(r:Row h p (bc x.iO.mf))(D:Row h q (bc x.data))(cap:x.data.length<=d)(e: hM h R (.B (zx V x))):Cl 23 #[(x.s p c q d).agg] h R:=by
 refine GU.walk (aM.cW λb t z j i=>⟨_,au j,?_⟩);unfold zx at e;have E:decide (((x.s p c q d).f0:Int)<=1099511627776)=decide (x.now<=1099511627776):=Bn.k7 x.now 1099511627776;rw[E];refine pc (λk=> ?_) (λk=> ?_) (b:=decide (x.now<=1099511627776))
 case refine_2=>rw[k]at e⊢;rw[dy];exact e t i
 rw[k]at e⊢;rw[af rfl];have o:=r.frame i bX;have m:=D.frame i bX;refine aM.fy (x:=x.s p c q d) j (aM.fy (x:=x.s p c q d) j (QH x o m λA P C q2 s y s2 f=>aM.ex ((sW x).s P C q2 s) ⟨rfl,f.kp,?_⟩));refine GV x (sW x) (o.frame f bX) y (m.frame f bX) s2 λv l=>⟨_,rfl,l.kp,?_⟩
 have F:=i.tt (f.tt l);refine pc (λC=> ?_) (λC=> ?_) (b:=decide (x=sW x))
 case refine_2=>rw[C]at e⊢;rw[dy];exact e v F
 rw[C]at e⊢;rw[af rfl];exact aM.fy (x:=x.s p c q d) ((f.tt l).get j id) (LX x U (u.tt F) (M.on F) (r.frame F bX) (D.frame F bX) cap λw n=>⟨_,rfl,n.kp,e w (F.tt n)⟩)

end pf
end
section
open Go.fW
namespace mg
variable {h H:ai} {w r:Nat} {S:Nat→Prop} {bs:cG} {e:Int} {R:fM}
variable {p:ct} {c n:Nat} {K:ai->Prop}
def Wr(h:ai)(w:Nat)(S:Nat->Prop)(bs:cG):Prop:=
 ∃p c,h[w]? =some (.cells #[.bool true,.slice p bs.length c] 255 (0,0))/\Own h p bs.length c 1 (bc bs)/\¬aO p w/\∀x,S x↔x=w\/aO p x
theorem Wr.lt(a:Wr h w S bs): ∀x,S x->x<h.size:=by
 obtain⟨p,c,b,o,_,d⟩:=a;intro x hx;rcases(d x).1 hx with rfl|hx
 .exact aD b
 .exact o.dL hx
theorem jj(f: ∀b w S,Wr b w S []->Fr No h b->(∀x,S x->h.size<=x)->R (.P w 0) b):Cl 106 #[] h R:=by
 refine IB.walk (cS ?_);refine f _ _ (λx=>x=h.size) ⟨none,0,bZ,.nil rfl rfl rfl rfl,(λ⟨a,e,_⟩=>by cases e),λx=> ?_⟩ (Fr.push _ _) (λx d=>ag);constructor
 .exact .inl
 .rintro(d|⟨a,e,_⟩)
  .exact d
  .cases e
theorem Wr.store{P:ct}{C:Nat}{b:ai}{cs:cG}(j:h[w]? =some (.C #[.B true,.L p bs.length c] 255 (0,0)))(k: ¬aO p w)(d: ∀x,S x↔x=w\/aO p x)(o:Own b P (bs.length+n) C 1 (bc bs++bc cs))(f:Fr (aO p) h b)(g: ∀x,aO P x->aO p x\/h.size<=x)(t:n=cs.length)(q: ∀a s,Wr a w s (bs++cs)->Step S h s a->K a):aJ b (AA w 1) (.L P (bs.length+n) C) K:=by
 subst t;have m:=f.get j k;have z:=aD j;have l: ¬aO P w:=λhx=>(g w hx).elim k (λi=>ag)
 refine bk m bU λa u v y=> ?_
 have F:Fr (λx=>x=w) b a:=Fr.of_eq v y;refine q a (λx=>x=w\/aO P x) ⟨P,C,?_,?_,l,λx=>ff⟩ ⟨?_,?_⟩
 .rw[u,aA];rfl
 .rw[aA,kH];exact o.frame F (λx hx e=>l (e▸hx))
 .exact f.trans F (λx _ hx=>(d x).2 (.inr hx)) (λx _ hx=>(d x).2 (.inl hx))
 .rintro x (hx|hx)
  .exact .inl ((d x).2 (.inl hx))
  .exact(g x hx).imp (λi=>(d x).2 (.inr i)) id
theorem Wr.push{x:Int}{b:UInt8}(i:Wr h w S bs)(B:bs.length<=1099511627786)(z:x=(b.toNat:Int))(t: ∀a s,Wr a w s (bs++ [b])->Step S h s a->K a):
  ∃(p:ct)(l c:Nat),aT h (AA w 1)=some (.L p l c)/\
  bg h (.C #[.int .u8 x] 5) λb j=>
  ba Tryz.prog (Builtin.append_ #[33,33] 33 #[.L p l c,.L (Sa b 0) 1 1]) j λv k=>
  ∃(q:ct)(m d:Nat),v=.L q m d/\aJ k (AA w 1) (.L q m d) K:=by
 obtain⟨p,c,f,o,y,u⟩:=i;refine⟨p,bs.length,c,au f,?_⟩;refine jn tU uU o rfl (λv g=>by simp at g;subst g;rfl) ag ag ?_;intro P C A O F G;subst z;exact⟨_,_,_,rfl,Wr.store (cs:= [b]) f y u O F G rfl t⟩
def Vh(H:ai)(w:Nat)(s:Nat->Prop)(bs:cG)(a:Nat)(n:Int)(h:ai):Prop:=
 ∃(m:Nat)(S:Nat->Prop)(d:cG),n=(m:Int)/\m<18446744073709551616/\Wr h w S (bs++d)/\d++iW m=iW a/\Step s H S h
theorem gB{n:Int}(k:Nat)(g:Wr h w S bs)(D:bs.length<=1099511627776)(e:n=(k:Int))(z:k<18446744073709551616)(y: ∀a l,Wr a w l (bs++iW k)->Step S h l a->R (.P w 0) a):Cl 107 #[.P w 0,.U n] h R:=by
 subst e;refine vC.walk ?_;obtain⟨p,c,q,_⟩:=id g;refine aG.of λJ x=>⟨true,au q,?_⟩
 subst x;simp only[cX,ar,aP];clear q;refine⟨Vh h w S bs k,λn _=>n.toNat,⟨k,S, [],rfl,z,cQ g,rfl,Step.refl _ _⟩,?_⟩;rintro _ B ⟨m,A,d,rfl,u,i,b,v⟩;have C:d.length<=10:=by
  have:=cf List.length b;rw[aA]at this;have:=(gX k).2;omega
 by_cases t:(m:Int)>127
 .simp only[t,bG,bm];refine i.push (by rw[aA];omega) (TH m) λo s j f=> ?_
  rw[U0];refine⟨⟨m/128,s,d++ [UInt8.ofNat (m%128+128)],rfl,ag,by rwa[eJ]at j,?_,v.trans f⟩,?_⟩
  .rw[<-b,x6 u,ga];simp
  .show Int.toNat ((m/128:Nat):Int)<Int.toNat (m:Int);omega
 .simp only[t,bt,ar,aP];refine i.push (by rw[aA];omega) (b:=UInt8.ofNat m) (by rw[mb,gy]) λo s j f=> ?_
  refine y o s ?_ (v.trans f);rwa[<-b,x6 u,dy,<-eJ]
theorem Vj(n:Int)(a:n<=9223372036854775807):IntKind.wrap .u64 (if 0>n then 0 else n)=((mc n:Nat):Int):=by
 unfold mc;split
 .rw[wrap_u64 ag ag];omega
 .rw[wrap_u64 ag ag];omega
theorem I2{n:Int}(b:Wr h w S bs)(g:bs.length<=1099511627776)(i:n<=9223372036854775807)(f: ∀a s,Wr a w s (bs++iW (mc n))->Step S h s a->R (.P w 0) a):Cl 108 #[.P w 0,.I n] h R:=
 vD.walk (gB (mc n) b g (Vj n i) (by unfold mc;omega) λa s d j=>⟨_,rfl,f a s d j⟩)
theorem OM{t:cG}(l:Wr h w S bs)(B:bs.length<=1099511627776)(E:Row h p (bc t))(C:n=t.length)(V:t.length<=1099511627776)(D: ∀x,aO p x->t≠ []->¬S x)(A: ∀b s,Wr b w s (bs++vt t)->Step S h s b->R (.P w 0) b):Cl 109 #[.P w 0,.L p n c] h R:=by
 subst C;refine ur.walk (gB t.length l B (wrap_u64 ag ag) ag λT P m k=>⟨_,rfl,?_⟩);obtain⟨q,d,f,o,I,G⟩:=m;refine aG.of λJ i=>⟨true,au f,?_⟩
 subst i;refine aG.of λJ i=> ?_
 simp only[bm];subst i;refine⟨q,_,d,au f,?_⟩;have U:=(gX t.length).2;rw[aA];rw[aA]at o;refine dS tU uU o (by
  by_cases j:t= []
  .rw[j];exact .inl rfl
  .exact E.frame k.fr (λa e L=>D _ ⟨a,e,rfl⟩ j L)) (by rw[kT,cE]) (rC t) ag ag ?_
 intro X Q b O _ F g;refine⟨_,_,_,rfl,?_⟩;rw[aA]at f;have:=Wr.store (n:=t.length) (cs:=t) (K:=λz=>R (Value.pointer (some { block:=w,off:=0 })) z) (bs:=bs++iW t.length) (by rw[aA];exact f) I G (by rw[aA];exact O) F g rfl λy v u M=> ?_
 .rw[aA]at this;exact this
 .exact A y v (by unfold vt;rwa[eJ]at u) (k.trans M)
theorem oY(b:Wr h w S bs)(j:bs.length<=70368744177664)(i: ∀P C a,Own a P bs.length C 1 (bc bs)->Fr No h a->(∀x,aO P x->h.size<=x)->R (.L P bs.length C) a):Cl 110 #[.P w 0] h R:=by
 obtain⟨p,c,d,o,l,k⟩:=b;exact sV.walk ⟨p,_,c,au d,gE o.iF rfl j λP C a O f g=>⟨_,_,_,rfl,i P C a O f g⟩⟩
def Rd(h:ai)(r:Nat)(S:Nat->Prop)(e:Int)(bs:cG):Prop:=
 ∃p c,h[r]? =some (.cells #[.int .i64 e,.bool true,.slice p bs.length c] 228 (0,0))/\Own h p bs.length c 1 (bc bs)/\¬aO p r/\S r/\(∀x,aO p x->S x)/\∀x,S x->x<h.size
theorem Rd.lt(a:Rd h r S e bs): ∀x,S x->x<h.size:=by
 obtain⟨p,c,_,_,_,_,_,b⟩:=a;exact b
theorem Rd.self(a:Rd h r S e bs):S r:=by
 obtain⟨p,c,_,_,_,b,_,_⟩:=a;exact b
theorem Rd.frame{Q:Nat->Prop}{d:ai}(j:Rd h r S e bs)(a:Fr Q h d)(i: ∀x,S x->¬Q x):Rd d r S e bs:=by
 obtain⟨p,c,l,o,m,f,g,k⟩:=j;exact⟨p,c,a.get l (i r f),o.frame a (λx b=>i x (g x b)),m,f,g,λx b=>cK (k x b) a.1⟩
theorem vN(l:Row h p (bc bs))(k:n=bs.length)(j:bs.length<=70368744177664)(i: ∀b r S,Rd b r S 0 bs->Fr No h b->(∀x,S x->h.size<=x)->R (.P r 0) b):Cl 88 #[.L p n c] h R:=by
 refine Gq.walk (gE l k j λP C d o f g=>⟨_,_,_,rfl,cS ?_⟩);refine i _ _ (λx=>h.size<=x/\x<=d.size) ⟨P,C,bZ,o.frame (Fr.push (S:=λ_=>False) _ _) bX,?_,⟨f.1,bu _⟩,?_,?_⟩ (Fr.on f (Fr.push _ _)) (λx a=>a.1)
 .intro a;have:=o.dL a;omega
 .intro x a;have:=o.dL a;exact⟨g x a,ag⟩
 .intro x a;rw[cZ];omega
theorem lV{E:Int}(g:Rd h r S e bs)(b: ∀a,Rd a r S (NI e E) bs->Fr (λx=>x=r) h a->R (.T #[]) a):Cl 133 #[.P r 0,.I E] h R:=by
 obtain⟨p,c,i,o,j,l,m,q⟩:=id g;refine vE.walk ⟨e,au i,?_⟩;unfold NI at b;by_cases H:e=0
 .subst H;simp only[fP,bm];refine bk i bU λa s k t=> ?_
  have f:Fr (λx=>x=r) h a:=Fr.of_eq k t;exact b a ⟨p,c,s,o.frame f (λx d e=>j (e▸d)),j,l,m,λx d=>by rw[k];exact q x d⟩ f
 .simp only[dc,H,aP];simp only[H,aP]at b;exact b h g (Fr.refl _ _)
theorem ED(b:Rd h r S e bs)(d:R (.B (e==0)) h):Cl 132 #[.P r 0] h R:=by
 obtain⟨p,c,a,o,j,f,g,i⟩:=b;exact uu.walk ⟨true,au a,e,au a,d⟩
def TU(H:ai)(r:Nat)(S:Nat->Prop)(bs:cG)(n i:Int)(h:ai):Prop:=
 ∃(k a:Nat)(b:cG),i=(k:Int)/\n=(a:Int)/\k<=10/\a<2 ^ (7*k)/\a<18446744073709551616/\Rd h r S 0 b/\Fr (λx=>x=r) H h/\Nc k a b=Nc 0 0 bs
theorem zy(t:Rd h r S e bs)(d: ∀E,Rd E r S (fD e bs).2.1 (fD e bs).2.2->Fr (λx=>x=r) h E->R (.U ((fD e bs).1:Int)) E):
  Cl 89 #[.P r 0] h R:=by
 refine vF.walk (aG.of λi' G=> ?_);by_cases I:e=0
 .subst I;unfold fD at d;rw[af rfl]at d;refine⟨TU h r S bs,λ_ f' _=>11 - f'.toNat,⟨0,0,bs,rfl,rfl,ag,bU,ag,t,Fr.refl _ _,rfl⟩,?_⟩;rintro _ _ l ⟨k,j',a,rfl,rfl,l',ha,k',u,T,f⟩;refine ED u ⟨_,rfl,?_⟩;simp only[fP,bm];obtain⟨p,c,i,o,J,h1,Z,U⟩:=id u;refine⟨p,_,c,au i,?_⟩;cases a with
  |nil=>
   simp only[bE,Int.natCast_zero,fP,bm];refine lV u λh4 H4 f4=>⟨rfl,?_⟩
   subst G;rw[Nc]at f;rw[<-f]at d;exact d h4 H4 (T.tt f4)
  |cons b a=>
   have X:((((b::a).length:Nat):Int)==0)=false:=by simp only[bn,dz,fj];omega
   simp only[X,ar,aP];refine⟨p,_,c,au i,⟨ag,by simp only[bn];omega⟩,?_⟩;obtain⟨ab,a',rfl⟩:=o.some (by rw[kT];simp);refine aw.2 ⟨(b.toNat:Int),o.cell rfl,some (AA ab a'),_,c,au i,⟨ag,by simp only[bn];omega⟩,?_⟩;have O:=o.sub (l:=1) (u:=(b::a).length) bU (bu _);have Q:((bc (b::a)).take ((b::a).length*1)).drop (1*1)=bc a:=by
    simp only[cE];rw[bF (by rw[kT];exact bu _)];rfl
   rw[Q]at O;have M:(b::a).length - Int.toNat 1=a.length:=bU
   rw[M];have P:(b::a).length - 1=a.length:=bU
   rw[P]at O;refine bk i bU λm k1 L k3=> ?_
   have D:Fr (λx=>x=r) l m:=Fr.of_eq L k3;have v:Rd m r S 0 a:=⟨_,_,k1,O.frame D (λx g e=>J (e▸mV g)),λg=>J (mV g),h1,λx g=>Z x (mV g),λx g=>by rw[L];exact U x g⟩;have B:=T.tt D;clear O k1 L k3 D Q M P X o i Z U J;have w1:IntKind.wrap .i64 ((k:Int)*7)=((7*k:Nat):Int):=by rw[bJ ag ag];omega
   have w2:IntKind.wrap .i64 (7*(k:Int))=((7*k:Nat):Int):=by rw[bJ ag ag];omega
   have w3:IntKind.wrap .i64 ((k:Int)+1)=((k+1:Nat):Int):=by rw[bJ ag ag];omega
   have i:=b.toNat_lt;rw[Nc]at f;refine aG.of λJ1 e'=> ?_
   have F:J1 (decide (k=10\/(k=9/\b.toNat>1)\/(b.toNat=0/\k>0))) m:=by
    subst e';by_cases q:k=10\/(k=9/\b.toNat>1)\/(b.toNat=0/\k>0)
    .simp only[q,bG,bm];rw[af q]at f;refine lV v λh7 H7 f7=>⟨rfl,?_⟩
     subst G;rw[<-f]at d;exact d h7 H7 (B.tt f7)
    .simp only[q,bt,ar,aP];rw[ae q]at f;rw[w2,w3,dy,Sj,Sk];have hd:b.toNat%128*2 ^ (7*k)<18446744073709551616:=by
      by_cases V:k=9
      .subst V;have:b.toNat%128<=1:=ag
       have:=cV (2 ^ (7*9)) this;omega
      .have h8:k<=8:=ag
       have p1:(2:Nat) ^ (7*k)<=2 ^ 56:=gn ag ag;have p2:b.toNat%128<=127:=ag
       have:=Nat.mul_le_mul p2 p1;omega
     have h':IntKind.wrap .u64 ((b.toNat%128:Nat):Int)=((b.toNat%128:Nat):Int):=pQ ag;have g':7*k<=64:=ag
     rw[h',Sm ha hd g'];by_cases s:b.toNat<128
     .simp only[s,bG,bm];rw[af s]at f;rw[<-f]at d;exact d m v B
     .simp only[s,bt,ar,aP];rw[ae s]at f;have V:k<=8:=ag
      have p3:(2:Nat) ^ (7*(k+1))=128*2 ^ (7*k):=by rw[Nat.mul_add,Nat.pow_add,Nat.mul_comm]
      have p4:b.toNat%128+1<=128:=ag
      have p5:=cV (2 ^ (7*k)) p4;rw[eO]at p5;have p6:(2:Nat) ^ (7*(k+1))<=2 ^ 63:=gn ag ag;refine⟨⟨k+1,_,a,rfl,rfl,ag,ag,ag,v,B,f⟩,?_⟩;show 11 - Int.toNat ((k+1:Nat):Int)<11 - Int.toNat (k:Int);omega
   rw[w1];by_cases y:k=10
   .subst y;simpa using F
   .have b':((k:Int)==10)=false:=by simp only[dz,fj];omega
    simp only[b',ar,aP];by_cases z:k=9
    .subst z;by_cases A:b.toNat>1
     .have j:(b.toNat:Int)>1:=ag
      have C: ¬b.toNat=0:=ag
      simpa[A,j,C]using F
     .have j: ¬(b.toNat:Int)>1:=ag
      by_cases C:b.toNat=0
      .simpa[A,j,C]using F
      .simpa[A,j,C]using F
    .have c':(((7*k:Nat):Int)==63)=false:=by simp only[dz,fj];omega
     simp only[c',ar,aP];by_cases C:b.toNat=0
     .have c5:decide ((k:Int)>0)=decide (k>0):=bU
      simp only[C,Int.natCast_zero,fP,bm,c5];simpa[y,z,C]using F
     .have d':((b.toNat:Int)==0)=false:=by simp only[dz,fj];omega
      simp only[d',ar,aP];simpa[y,z,C]using F
 .refine⟨λ_ _ l=>l=h,λ_ _ _=>0,rfl,?_⟩;rintro _ _ l rfl;refine ED t ⟨_,rfl,?_⟩;have:(e==0)=false:=by simpa using I
  simp only[this,ar,aP];subst G;unfold fD at d;rw[ae I]at d;exact d _ t (Fr.refl _ _)
theorem QI(T:Nat){t:Int}(m:t=(T:Int))(i:Rd h r S e bs)(a: ∀b,Rd b r S (jQ T e bs).2.1 (jQ T e bs).2.2->Fr (λx=>x=r) h b->R (.U ((jQ T e bs).1:Int)) b):
  Cl 134 #[.P r 0,.U t] h R:=by
 subst m;refine rR.walk (zy i λk d f=>⟨_,rfl,?_⟩);unfold jQ at a;by_cases g:(fD e bs).1>T
 .have:((fD e bs).1:Int)>(T:Int):=ag
  simp only[this,bG,bm];rw[af g]at a;exact lV d λl j F=>⟨rfl,a l j (f.tt F)⟩
 .have: ¬((fD e bs).1:Int)>(T:Int):=ag
  simp only[this,bt,ar,aP];rw[ae g]at a;exact a k d f
theorem EE(b:Rd h r S e bs)(i: ∀a,Rd a r S (lS e bs).2.1 (lS e bs).2.2->Fr (λx=>x=r) h a->R (.I ((lS e bs).1:Int)) a):
  Cl 90 #[.P r 0] h R:=
 vG.walk (QI 1099511627776 rfl b λg d f=>⟨_,rfl,by
  have:=FN 1099511627776 e bs;rw[bJ ag ag];exact i g d f⟩)
theorem ON(y:Rd h r S e bs)(hl:bs.length<=70368744177664)(f: ∀i p c,Rd i r S (me e bs).2.1 (me e bs).2.2->Own i p (me e bs).1.length c 1 (bc (me e bs).1)->(∀x,aO p x->h.size<=x)->Fr (λx=>x=r) h i->R (.slice p (me e bs).1.length c) i):
  Cl 91 #[.P r 0] h R:=by
 refine uv.walk (zy y λL g F=>⟨_,rfl,ED g ⟨_,rfl,?_⟩⟩);unfold me at f;have b':=Il e bs;have a':(fD e bs).2.2.length<=bs.length:=by
  unfold fD;split
  .exact DX bs 0 0
  .exact bu _
 generalize fD e bs=B at*;obtain⟨n,E,d⟩:=B;dsimp only at*;by_cases H:E=0
 .subst H;simp only[fP,cX,ar,aP];obtain⟨p,c,k,o,hr,k1,k2,k3⟩:=id g;refine⟨p,_,c,au k,?_⟩;rw[af rfl]at f;rw[wrap_u64 (n:=(d.length:Int)) ag ag];by_cases t:n>d.length
  .have:(n:Int)>(d.length:Int):=ag
   simp only[this,bG,bm];rw[af t]at f;exact lV g λM z J=>⟨rfl,f M none 0 z (.nil rfl rfl rfl rfl) (λx ⟨a,e,_⟩=>by cases e) (F.tt J)⟩
  .have: ¬(n:Int)>(d.length:Int):=ag
   simp only[this,bt,ar,aP];rw[ae t]at f;have hc:=o.le;refine⟨p,_,c,au k,ag,?_⟩;have O:=o.sub (l:=0) (u:=n) ag ag;simp only[cE,gV,Qg]at O;have I:(d.take n).length=n:=by rw[bA];omega
   refine gE O.iF (by rw[I];omega) ag λp' D T o4 m G=>⟨_,_,_,rfl,?_⟩
   have A:=g.frame m bX;obtain⟨P,C,s,Z,u,U,V,X⟩:=A;refine⟨P,_,C,au s,ag,?_⟩;refine bk s bU λq q1 Q q3=> ?_
   have j:Fr (λx=>x=r) T q:=Fr.of_eq Q q3;have v:=Z.sub (l:=n) (u:=d.length) ag (bu _);rw[cE,cE,<-kT d,fO,kT,Qh]at v;have l:(d.drop n).length=d.length - n:=bU
   refine f q p' D ⟨cY P C n 1,C - n,?_,?_,λb=>u (mV b),U,λx b=>V x (mV b),λx b=>by rw[Q];exact X x b⟩ (o4.frame j (λx b e=> ?_)) (λx b=> ?_) (F.tt ((m.mono λ_ _=>False.elim).tt j))
   .rw[l];simpa using q1
   .rw[l];exact v.frame j (λx b e=>u (e▸mV b))
   .have:=G x b;have:=aD k;omega
   .have:=G x b;have:=F.1;omega
 .have:(E==0)=false:=by simpa using H
  simp only[this,ee,bm];rw[ae H]at f;exact f L none 0 g (.nil rfl rfl rfl rfl) (λx ⟨a,e,_⟩=>by cases e) F
theorem QJ(f:Rd h r S e bs)(a:R (.I (zj e bs)) h):Cl 92 #[.P r 0] h R:=by
 obtain⟨p,c,d,o,i,k,j,l⟩:=f;refine vH.walk (aG.of λJ g=>⟨true,au d,?_⟩);subst g;simp only[cX,ar,aP];refine⟨e,au d,?_⟩;unfold zj at a;by_cases H:e=0
 .subst H;simp only[bne_self_eq_false,ar,aP];refine⟨p,_,c,au d,?_⟩;rw[af rfl]at a;cases bs with
  |nil=>exact a
  |cons b bs=>
   have:(((b::bs).length:Nat):Int)>0:=by simp only[bn];omega
   simp only[this,bG,bm];rwa[ae bU]at a
 .have:(e !=0)=true:=by simpa using H
  simp only[this,bm];rw[ae H]at a;exact⟨e,au d,a⟩

end mg
end
section
open Go.fW
namespace mg
abbrev mB(n:BV):List Value:= [n.val]
theorem tN:oC Tryz.prog 103 33 1 24 (.Z):=⟨dA,dA,rfl⟩
theorem uN:Tryz.prog.underlying 103=some (.slice 33):=dA
theorem nC(n:BV):(mB n).length=1:=rfl
theorem OO(x:List BV): ∀v∈x.flatMap mB,fV v=true:=by
 intro v H;obtain⟨a,_,h⟩:=List.mem_flatMap.1 H;simp at h;subst h;rfl

end mg
end
section
variable {h:ai} {R:fM}
variable {a:Nat} {x X i k:Int}
theorem LZ.walk(d:bg h (.map #[] 0) λb H=>bg H (.C #[.Z,.map (some b)] 131) λB c=>R (.P B 0) c):Cl 30 #[] h R:=aR [] Tryz.func30 d
theorem xf.walk(H: ∃t,Cc h a 1 (.map t)/\R (.B (!t.isNone)) h):Cl 127 #[.P a 0] h R:=aR [] Tryz.func127 H
theorem yF.walk(H: ∃b t T,Cc h a 0 (.L b t T)/\R (.I ((t:Nat):Int)) h):Cl 126 #[.P a 0] h R:=aR [] Tryz.func126 H
theorem GW.walk{y:Int}{d:Int}(f:bg h (.C #[.I x,.U X] 220) λb e=>bg e (.C #[.I y,.U d] 220) λB H=>Hu H b 1 λl=> ∃c,Cc H B 1 (.U c)/\if(decide (l<c))then R (.B true) H else Hu H b 1 λg=> ∃t,Cc H B 1 (.U t)/\if(g==t)then Hi H b 0 λj=> ∃T,Cc H B 0 (.I T)/\R (.B (decide (j<T))) H else R (.B false) H):Cl 176 #[.agg #[.I x,.U X],.agg #[.I y,.U d]] h R:=aR [] Tryz.func176 f
theorem yG.walk(f:bg h (.C #[.I x,.U X] 220) λb H=>Hl H a 0 λm l _=>Hi H b 0 λT=>Hu H b 1 λg=>Bd i l/\aN m λA=>aJ H (A.add (toNat i*2)) (.I T) λd=>aJ d ((A.add (toNat i*2)).add 1) (.U g) λc=> ∃t,Cc c a 1 (.map t)/\Hi c b 0 λj=>ba Tryz.prog (Instr.mapUpdate 85 (.map t) (.I j) (.I i)) c λ_ e=>R (.T #[]) e):Cl 128 #[.P a 0,.I i,.agg #[.I x,.U X]] h R:=aR [(3,λ_=>pN 8),(4,λ_=>pN 8)] Tryz.func128 f
theorem AR.walk (hv: ∃(I:Int->ai->Prop)(P:Int->ai->Nat),(I i h)/\∀(c:Int)(H:ai),I c H->aG (λ(m':Bool) (d:ai)=>if m' then aG (λ(u':ct) (v':ct) (C:ai)=>aN u' λG=>kL C G λn'=>gz C (G.add 1) λo'=>Cl 128 #[.P a 0,.I (wrap .i64 (Int.tdiv (wrap .i64 (c - 1)) 2)),.agg #[.I n',.U o']] C λr' D=>r'=.T #[]/\aN v' λK=>kL D K λp'=>gz D (K.add 1) λq'=>Cl 128 #[.P a 0,.I c,.agg #[.I p',.U q']] D λs' O=>s'=.T #[]/\(I (wrap .i64 (Int.tdiv (wrap .i64 (c - 1)) 2)) O/\P (wrap .i64 (Int.tdiv (wrap .i64 (c - 1)) 2)) O<P c H)) (λF=>Hl d a 0 λs r u=>Bd c r/\aN s λg=>kL d (g.add (toNat c*2)) λj=>gz d ((g.add (toNat c*2)).add 1) λl=>Hl d a 0 λf e m=>Bd (wrap .i64 (Int.tdiv (wrap .i64 (c - 1)) 2)) e/\aN f λA=> ∃t,aT d (A.add (toNat (wrap .i64 (Int.tdiv (wrap .i64 (c - 1)) 2))*2))=some (.I t)/\∃T,aT d ((A.add (toNat (wrap .i64 (Int.tdiv (wrap .i64 (c - 1)) 2))*2)).add 1)=some (.U T)/\(bg d (.C #[.I 0,.U 0] 220) λb p=>dO (A.add (toNat (wrap .i64 (Int.tdiv (wrap .i64 (c - 1)) 2))*2)) [.I t,.U T] 0 p/\Cc p a 0 (.L f e m)/\dO (g.add (toNat c*2)) [.I j,.U l] 0 p/\Cc p a 0 (.L s r u)/\bg p (.C #[.I 0,.U 0] 220) λB q=>dO (A.add (toNat (wrap .i64 (Int.tdiv (wrap .i64 (c - 1)) 2))*2)) [.I t,.U T] 0 q/\Cc q a 0 (.L f e m)/\dO (g.add (toNat c*2)) [.I j,.U l] 0 q/\Cc q a 0 (.L s r u)/\aJ q (AA b 0) (.I j) λg'=>aJ g' (AA b 1) (.U l) λE=>dO (A.add (toNat (wrap .i64 (Int.tdiv (wrap .i64 (c - 1)) 2))*2)) [.I t,.U T] 0 E/\Cc E a 0 (.L f e m)/\aJ E (AA B 0) (.I t) λb'=>aJ b' (AA B 1) (.U T) λc'=>F (Sa b 0) (Sa B 0) c')/\(bg d (.C #[.I 0,.U 0] 220) λv n=>dO (A.add (toNat (wrap .i64 (Int.tdiv (wrap .i64 (c - 1)) 2))*2)) [.I t,.U T] 0 n/\Cc n a 0 (.L f e m)/\dO (g.add (toNat c*2)) [.I j,.U l] 0 n/\Cc n a 0 (.L s r u)/\bg n (.C #[.I 0,.U 0] 220) λw o=>dO (A.add (toNat (wrap .i64 (Int.tdiv (wrap .i64 (c - 1)) 2))*2)) [.I t,.U T] 0 o/\Cc o a 0 (.L f e m)/\dO (g.add (toNat c*2)) [.I j,.U l] 0 o/\Cc o a 0 (.L s r u)/\aJ o (AA w 0) (.I j) λd'=>aJ d' (AA w 1) (.U l) λy=>dO (A.add (toNat (wrap .i64 (Int.tdiv (wrap .i64 (c - 1)) 2))*2)) [.I t,.U T] 0 y/\Cc y a 0 (.L f e m)/\aJ y (AA v 0) (.I t) λe'=>aJ e' (AA v 1) (.U T) λf'=>F (Sa w 0) (Sa v 0) f')/\True)else R (.T #[]) d) (λJ=>if(decide (c>0))then Hl H a 0 λS Q h'=>Bd c Q/\aN S λL=>kL H (L.add (toNat c*2)) λi'=>gz H ((L.add (toNat c*2)).add 1) λj'=>Hl H a 0 λV U k'=>Bd (wrap .i64 (Int.tdiv (wrap .i64 (c - 1)) 2)) U/\aN V λM=> ∃Z,aT H (M.add (toNat (wrap .i64 (Int.tdiv (wrap .i64 (c - 1)) 2))*2))=some (.I Z)/\∃a',aT H ((M.add (toNat (wrap .i64 (Int.tdiv (wrap .i64 (c - 1)) 2))*2)).add 1)=some (.U a')/\Cl 176 #[.agg #[.I i',.U j'],.agg #[.I Z,.U a']] H λt' z=>Vb t' λl'=>Cc z a 0 (.L V U k')/\Cc z a 0 (.L S Q h')/\J l' z else J false H)):Cl 129 #[.P a 0,.I i] h R:=aR [(0,λ_=> .scope 0 [(1,.one (.int .i64))] (.seq .leaf .leaf) (.seq .leaf (.seq .leaf (.seq (.join [(28,.one (.bool))] (pN 19)) (.cond (.seq (.join [(5,.one (.ptr)),(6,.one (.ptr))] (.qV (fS 14 0 (.alts (.fork 14 (fS 3 15 .done) (.fork 15 (.op 14 (.op 16 (.op 17 .done))) .ic)))))) (.seq .leaf (.seq .leaf (.seq .leaf .leaf)))) .leaf)))))] Tryz.func129 hv
theorem xg.walk (hv: ∃(I:Int->ai->Prop)(mu:Int->ai->Nat),(I i h)/\∀(c:Int)(E:ai),I c E->∃(y:Int->Int->ai->Prop)(k':Int->Int->ai->Nat),y c 0 E/\∀(B:Int)(t:Int)(H:ai),y B t H->if(decide (t<2))then aG (λ(f':Int) (h':ai)=>(y f' (wrap .i64 (t+1)) h'/\k' f' (wrap .i64 (t+1)) h'<k' B t H)) (λJ=>Bd t 2/\(t=((0:Nat):Int)->aG (λ(X':Bool) (i':ai)=>aG (λ(B':Int) (J':ai)=>J B' J') (λQ=>if X' then Q (wrap .i64 ((wrap .i64 (2*c))+1)) i' else Q B i')) (λP=> ∃n' M l',Cc H a 0 (.L n' M l')/\if(decide ((wrap .i64 ((wrap .i64 (2*c))+1))<((M:Nat):Int)))then Hl H a 0 λr' p' L'=>Bd (wrap .i64 ((wrap .i64 (2*c))+1)) p'/\aN r' λZ=> ∃t',aT H (Z.add (toNat (wrap .i64 ((wrap .i64 (2*c))+1))*2))=some (.I t')/\∃v',aT H ((Z.add (toNat (wrap .i64 ((wrap .i64 (2*c))+1))*2)).add 1)=some (.U v')/\Hl H a 0 λz' x' O'=>Bd B x'/\aN z' λa'=>kL H (a'.add (toNat B*2)) λQ'=>gz H ((a'.add (toNat B*2)).add 1) λS'=>Cl 176 #[.agg #[.I t',.U v'],.agg #[.I Q',.U S']] H λa4 u=>Vb a4 λU'=>Cc u a 0 (.L z' x' O')/\Cc u a 0 (.L r' p' L')/\Cc u a 0 (.L n' M l')/\P U' u else P false H))/\(t=((1:Nat):Int)->aG (λ(Z':Bool) (j':ai)=>aG (λ(C':Int) (K':ai)=>J C' K') (λU=>if Z' then U (wrap .i64 ((wrap .i64 (2*c))+2)) j' else U B j')) (λS=> ∃o' O m',Cc H a 0 (.L o' O m')/\if(decide ((wrap .i64 ((wrap .i64 (2*c))+2))<((O:Nat):Int)))then Hl H a 0 λs' q' M'=>Bd (wrap .i64 ((wrap .i64 (2*c))+2)) q'/\aN s' λb'=> ∃u',aT H (b'.add (toNat (wrap .i64 ((wrap .i64 (2*c))+2))*2))=some (.I u')/\∃w',aT H ((b'.add (toNat (wrap .i64 ((wrap .i64 (2*c))+2))*2)).add 1)=some (.U w')/\Hl H a 0 λA' y' P'=>Bd B y'/\aN A' λc'=>kL H (c'.add (toNat B*2)) λR'=>gz H ((c'.add (toNat B*2)).add 1) λT'=>Cl 176 #[.agg #[.I u',.U w'],.agg #[.I R',.U T']] H λa5 v=>Vb a5 λV'=>Cc v a 0 (.L A' y' P')/\Cc v a 0 (.L s' q' M')/\Cc v a 0 (.L o' O m')/\S V' v else S false H))/\True)else if(B !=c)then aG (λ(a8:ct) (a9:ct) (F:ai)=>aN a8 λd'=>kL F d' λa0=>gz F (d'.add 1) λa1=>Cl 128 #[.P a 0,.I B,.agg #[.I a0,.U a1]] F λa6 G=>a6=.T #[]/\aN a9 λe'=>kL G e' λa2=>gz G (e'.add 1) λa3=>Cl 128 #[.P a 0,.I c,.agg #[.I a2,.U a3]] G λa7 g'=>a7=.T #[]/\(I B g'/\mu B g'<mu c E)) (λV=>Hl H a 0 λs r w=>Bd c r/\aN s λg=>kL H (g.add (toNat c*2)) λj=>gz H ((g.add (toNat c*2)).add 1) λl=>Hl H a 0 λf e m=>Bd B e/\aN f λA=>kL H (A.add (toNat B*2)) λT=>gz H ((A.add (toNat B*2)).add 1) λd=>(bg H (.C #[.I 0,.U 0] 220) λb n=>dO (A.add (toNat B*2)) [.I T,.U d] 0 n/\Cc n a 0 (.L f e m)/\dO (g.add (toNat c*2)) [.I j,.U l] 0 n/\Cc n a 0 (.L s r w)/\bg n (.C #[.I 0,.U 0] 220) λz o=>dO (A.add (toNat B*2)) [.I T,.U d] 0 o/\Cc o a 0 (.L f e m)/\dO (g.add (toNat c*2)) [.I j,.U l] 0 o/\Cc o a 0 (.L s r w)/\aJ o (AA b 0) (.I j) λD'=>aJ D' (AA b 1) (.U l) λK=>dO (A.add (toNat B*2)) [.I T,.U d] 0 K/\Cc K a 0 (.L f e m)/\aJ K (AA z 0) (.I T) λE'=>aJ E' (AA z 1) (.U d) λF'=>V (Sa b 0) (Sa z 0) F')/\(bg H (.C #[.I 0,.U 0] 220) λC p=>dO (A.add (toNat B*2)) [.I T,.U d] 0 p/\Cc p a 0 (.L f e m)/\dO (g.add (toNat c*2)) [.I j,.U l] 0 p/\Cc p a 0 (.L s r w)/\bg p (.C #[.I 0,.U 0] 220) λD q=>dO (A.add (toNat B*2)) [.I T,.U d] 0 q/\Cc q a 0 (.L f e m)/\dO (g.add (toNat c*2)) [.I j,.U l] 0 q/\Cc q a 0 (.L s r w)/\aJ q (AA D 0) (.I j) λG'=>aJ G' (AA D 1) (.U l) λL=>dO (A.add (toNat B*2)) [.I T,.U d] 0 L/\Cc L a 0 (.L f e m)/\aJ L (AA C 0) (.I T) λH'=>aJ H' (AA C 1) (.U d) λI'=>V (Sa D 0) (Sa C 0) I')/\True)else R (.T #[]) H):Cl 130 #[.P a 0,.I i] h R:=aR [(0,λ_=> .scope 0 [(1,.one (.int .i64))] (.seq .leaf .leaf) (.seq .leaf (.seq .leaf (.seq (.seq .leaf (.block (.loop [(4,.one (.int .i64)),(17,.one (.int .i64))] (.seq .leaf (.seq (.cond .leaf .leaf) (.seq (.join [(4,.one (.int .i64))] (.block (.seq .leaf (.seq (.join [(43,.one (.bool))] (pN 24)) (.join [(4,.one (.int .i64))] (.cond .leaf .leaf)))))) .leaf)))))) (.seq .leaf (.cond (.seq (.join [(7,.one (.ptr)),(8,.one (.ptr))] (.qV (fS 14 0 (.alts (.fork 14 (fS 3 15 .done) (.fork 15 (.op 14 (.op 16 (.op 17 .done))) .ic)))))) (.seq .leaf (.seq .leaf (.seq .leaf .leaf)))) .leaf))))))] Tryz.func130 hv
theorem yH.walk{V:Int}(p:Cl 127 #[.P a 0] h λv H=> ∃t,v=.B t/\if(!t)then R (.I 6) H else aG (λ(q:Bool) (c:ai)=>if q then R (.I 1) c else Cl 81 #[.P a 0,.I k] c λw d=>Vi w λ_=>Hl d a 0 λu s r=>bg d (.C #[.I 0,.U 0] 220) λb l=>ba Tryz.prog (Builtin.append_ #[129,129] 129 #[.L u s r,.L (Sa b 0) 1 1]) l λy m=> ∃g f T,y=.L g f T/\aJ m (AA a 0) (.L g f T) λe=>Hl e a 0 λ_ j _=>Cl 128 #[.P a 0,.I (wrap .i64 ((j:Int) - 1)),.agg #[.I k,.U V]] e λz n=>z=.T #[]/\Cl 129 #[.P a 0,.I (wrap .i64 ((j:Int) - 1))] n λA o=>A=.T #[]/\R (.I 0) o) (λJ=>if(decide (k<1))then J true H else if(decide (k>1099511627776))then J true H else J (decide (V>1099511627776)) H)):Cl 172 #[.P a 0,.I k,.U V] h R:=aR [(11,.join [(12,.one (.bool))])] Tryz.func172 p
theorem xh.walk (C:Cl 127 #[.P a 0] h λv H=> ∃m,v=.B m/\if(!m)then R (.I 6) H else∃n,Cc H a 1 (.map n)/\∃T o,iM Tryz.prog 85 (.map n) (.I k) true H (.T #[.I T,.B o])/\if(!o)then R (.I 4) H else Hl H a 0 λ_ t _=>Hl H a 0 λE D _=>Bd (wrap .i64 ((t:Int) - 1)) D/\aN E λA=> ∃p,aT H (A.add (toNat (wrap .i64 ((t:Int) - 1))*2))=some (.I p)/\∃q,aT H ((A.add (toNat (wrap .i64 ((t:Int) - 1))*2)).add 1)=some (.U q)/\bg H (.C #[.I 0,.U 0] 220) λb w=>aJ w (AA b 0) (.I p) λy=>aJ y (AA b 1) (.U q) λj=>Hl j a 0 λF _ f=>((0:Int)<=wrap .i64 ((t:Int) - 1)/\wrap .i64 ((t:Int) - 1)<=(f:Int))/\aJ j (AA a 0) (.slice (cY F f 0 2) ((toNat (wrap .i64 ((t:Int) - 1))) - 0) (f - 0)) λl=> ∃r,Cc l a 1 (.map r)/\ba Tryz.prog (Builtin.delete_ #[85,3] 0 #[.map r,.I k]) l λV c=>V=.T #[]/\aG (λ(z:ai)=>R (.I 0) z) (λJ=>if(decide (T<(wrap .i64 ((t:Int) - 1))))then Hi c b 0 λG=>Hu c b 1 λI=>Cl 128 #[.P a 0,.I T,.agg #[.I G,.U I]] c λK B=>K=.T #[]/\Cl 129 #[.P a 0,.I T] B λL d=>L=.T #[]/\∃g,Cc d a 1 (.map g)/\Hi d b 0 λs=> ∃u,iM Tryz.prog 85 (.map g) (.I s) false d (.I u)/\Cl 130 #[.P a 0,.I u] d λM e=>M=.T #[]/\Cc e b 0 (.I s)/\Cc e a 1 (.map g)/\J e else J c)):Cl 81 #[.P a 0,.I k] h R:=aR [(31,.join []),(36,λ_=>pN 9)] Tryz.func81 C
theorem xi.walk(c:Cl 126 #[.P a 0] h λv H=> ∃T,v=.I T/\if(T==0)then R (.T #[.I 0,.U 0,.B false]) H else Hl H a 0 λe d _=>Bd 0 d/\aN e λA=>kL H (A.add (toNat 0*2)) λf=>Hl H a 0 λj g _=>Bd 0 g/\aN j λb=> ∃t,aT H ((b.add (toNat 0*2)).add 1)=some (.U t)/\R (.T #[.I f,.U t,.B true]) H):Cl 80 #[.P a 0] h R:=aR [(11,λ_=>pN 17)] Tryz.func80 c
theorem xj.walk{n:Int}(A:Cl 80 #[.P a 0] h λv u=> ∃j l p,v=.T #[.I j,.U l,.B p]/\∃(I:ct->Nat->Nat->Int->Int->Bool->ai->Prop)(m:ct->Nat->Nat->Int->Int->Bool->ai->Nat),I none 0 0 j l p u/\∀(c:ct)(O o:Nat)(k:Int)(V:Int)(d:Bool)(H:ai),I c O o k V d H->aG (λ(B:Bool) (f:ai)=>if B then bg f (.C #[.I k] 3) λb w=>ba Tryz.prog (Builtin.append_ #[113,113] 113 #[.L c O o,.L (Sa b 0) 1 1]) w λC y=>Vl C λs r q=>Cl 81 #[.P a 0,.I k] y λD z=>Vi D λ_=>Cl 80 #[.P a 0] z λE g=> ∃t T e,E=.T #[.I t,.U T,.B e]/\(I s r q t T e g/\m s r q t T e g<m c O o k V d H)else R (.L c O o) f) (λJ=>if d then J (decide (V<=n)) H else J false H)):Cl 59 #[.P a 0,.U n] h R:=aR [(8,.loop [(5,.one (.slice)),(6,.one (.int .i64)),(7,.one (.int .u64)),(8,.one (.bool))]),(11,.join [(20,.one (.bool))])] Tryz.func59 A

end
section
open Go.kV
namespace cg
theorem tm:rk Tryz.prog 85 (.I 0):=.of 3 3 .i64 dA dA dA
def enc(b:List E):List Value:=b.flatMap λe=> [.int .i64 e.1,.int .u64 e.2]
theorem pg(e:E)(b:List E):enc (e::b)=.I e.1:: .U e.2::enc b:=rfl
theorem kW: ∀b:List E,(enc b).length=b.length*2
 | []=>rfl
 |e::b=>by rw[pg];simp only[bn,kW b];omega
theorem I3(b fs:List E):enc (b++fs)=enc b++enc fs:=by simp[enc]
theorem RN: ∀{b:List E}{i:Nat},i<b.length->(enc b)[i*2]? =some (.I (at_ b i).1)
 | [],_,h=>by simp at h
 |e::b,0,_=>rfl
 |e::b,i+1,h=>by
  rw[pg,show(i+1)*2=i*2+1+1 by omega,dF,dF,RN (cQ h)];rfl
theorem RO: ∀{b:List E}{i:Nat},i<b.length->(enc b)[i*2+1]? =some (.U (at_ b i).2)
 | [],_,h=>by simp at h
 |e::b,0,_=>rfl
 |e::b,i+1,h=>by
  rw[pg,show(i+1)*2+1=i*2+1+1+1 by omega,dF,dF,RO (cQ h)];rfl
theorem Kl: ∀(b:List E)(i:Nat)(x:E),((enc b).set (i*2) (.I x.1)).set (i*2+1) (.U x.2)=enc (b.set i x)
 | [],_,_=>by simp[enc]
 |e::b,0,x=>rfl
 |e::b,i+1,x=>by
  rw[pg,show(i+1)*2=i*2+1+1 by omega,List.set_cons_succ,List.set_cons_succ,List.set_cons_succ,List.set_cons_succ,Kl b i x];rfl
theorem GX: ∀(b:List E)(n:Nat),(enc b).take (n*2)=enc (b.take n)
 | [],n=>by simp[enc]
 |e::b,0=>by simp[enc]
 |e::b,n+1=>by
  rw[pg,show(n+1)*2=n*2+1+1 by omega,gu,gu,GX b n];rfl
theorem Km: ∀(b:List E),∀v∈enc b,fV v=true
 | [],_,h=>by cases h
 |e::b,v,h=>by
  rw[pg]at h;rcases bf.1 h with rfl|h
  .rfl
  .rcases bf.1 h with rfl|h
   .rfl
   .exact Km b v h
structure Mem (h:ai) (a:Nat) (p:ct) (cap m:Nat) (b:List E) (g:Int->Option Value):Prop where
 dh:h[a]? =some (.cells #[.slice p b.length cap,.map (some m)] 131 (0,0))
 own:Own h p b.length cap 2 (enc b)
 map:nU h m g
 ne: ¬aO p a
def AS(a:Nat)(p:ct)(m:Nat)(c:Nat):Prop:=c=a\/c=m\/aO p c
def inner(p:ct)(m:Nat)(c:Nat):Prop:=c=m\/aO p c
variable {h : ai} {a m cap : Nat} {p : Option Addr} {b : List E} {g : Int → Option Value} {R : Value → ai → Prop}
theorem Mem.am(M:Mem h a p cap m b g):a≠m:=by
 rintro rfl;obtain⟨x,c,H⟩:=M.map.map;rw[M.dh]at H;cases H
theorem Mem.pm(M:Mem h a p cap m b g): ¬aO p m:=λd=>by
 obtain⟨x,c,H⟩:=M.map.map;obtain⟨y,t,e⟩:=M.own.cells d;rw[e]at H;cases H
theorem Mem.lt(M:Mem h a p cap m b g){c:Nat}(hc:AS a p m c):c<h.size:=by
 rcases hc with rfl|rfl|hc
 .exact aD M.dh
 .exact M.map.lt
 .exact M.own.dL hc
theorem Mem.frame{S:Nat->Prop}{e:ai}(M:Mem h a p cap m b g)(H:Fr S h e)(d: ∀c,AS a p m c->¬S c):Mem e a p cap m b g:=
 ⟨H.get M.dh (d a (.inl rfl)),M.own.frame H λc f=>d c (.inr (.inr f)),M.map.frame H (d m (.inr (.inl rfl))),M.ne⟩
theorem Mem.calm{H:ai}(M:Mem h a p cap m b g)(c:Fr No h H):Mem H a p cap m b g:=M.frame c λ_ _=>id
theorem Mem.hd(M:Mem h a p cap m b g):aT h (AA a 0)=some (.L p b.length cap):=au M.dh
theorem Mem.mp(M:Mem h a p cap m b g):aT h (AA a 1)=some (.map (some m)):=au M.dh
theorem Mem.some(M:Mem h a p cap m b g)(c:0<b.length): ∃A,p=some A:=by
 obtain⟨B,o,H⟩:=M.own.some (by rw[kW];omega);exact⟨_,H⟩
theorem Mem.c0{A:Addr}(M:Mem h a (.some A) cap m b g){i:Nat}(H:i<b.length):aT h (A.add (i*2))=.some (.I (at_ b i).1):=M.own.cell (RN H)
theorem Mem.c1{A:Addr}(M:Mem h a (.some A) cap m b g){i:Nat}(H:i<b.length):aT h ((A.add (i*2)).add 1)=.some (.U (at_ b i).2):=by
 rw[add_add];exact M.own.cell (RO H)
theorem vO{X x y0 y:Int}(k: hM h R (.B (decide (lt (X,x) (y0,y))))):
  Cl 176 #[.agg #[.I X,.U x],.agg #[.I y0,.U y]] h R:=by
 refine GW.walk ?_;rintro B c rfl rfl l d rfl rfl;have f:Fr No h ((h.push (.C #[.I X,.U x] 220)).push (.C #[.I y0,.U y] 220)):=Fr.tt (Fr.push _ _) (Fr.push _ _);have i:=zU (x:=.C #[.I y0,.U y] 220) (bZ (h:=h) (x:=.C #[.I X,.U x] 220));have j:=bZ (h:=h.push (.C #[.I X,.U x] 220)) (x:=.C #[.I y0,.U y] 220);have H:=k _ f;refine⟨x,au i,y,au j,?_⟩;by_cases c:x<y
 .have e:decide (lt (X,x) (y0,y))=true:=by simp[lt,c]
  rw[e]at H;simpa only[c,bG,bm]using H
 .simp only[c,bt,ar,aP];refine⟨x,au i,y,au j,?_⟩;by_cases d:x=y
  .subst d;simp only[fP,bm];refine⟨X,au i,y0,au j,?_⟩;have e:decide (lt (X,x) (y0,x))=decide (X<y0):=by simp[lt]
   rw[e]at H;exact H
  .have e:decide (lt (X,x) (y0,y))=false:=by simp[lt,c,d]
   rw[e]at H;simpa only[dz.2 d,ar,aP]using H
theorem xm(M:Mem h a p cap m b g){i:Nat}(I:i<b.length){x X:Int}(v: ∀l,Mem l a p cap m (b.set i (x,X)) (λk=>if k=x then some (.I i)else g k)->Fr (inner p m) h l->R (.T #[]) l):
  Cl 128 #[.P a 0,.I i,.agg #[.I x,.U X]] h R:=by
 obtain⟨A,rfl⟩:=M.some ag;refine yG.walk ?_;rintro B n t rfl;have j:Fr No h (h.push (.C #[.I x,.U X] 220)):=Fr.push _ _;have d:=M.calm j;have f:=bZ (h:=h) (x:=.C #[.I x,.U X] 220);rw[<-t]at f;generalize h.push (.C #[.I x,.U X] 220)=n at j d f;have u: ∀c,AS a (some A) m c->B≠c:=λc H e=>by have:=M.lt H;omega
 refine⟨_,_,_,d.hd,x,au f,X,au f,ag,aw.2 ?_⟩;rw[aH,add_add];have J:=kW b;refine d.own.store ag λG D S y=>D.store (by rw[dB];omega) λq O E z=> ?_
 rw[Kl b i (x,X)]at O;have F:Fr (aO (some A)) n q:=Fr.tt (Fr.of_eq S y) (Fr.of_eq E z);have w:=F.get f (λH=>u B (.inr (.inr H)) rfl);have o:=F.get d.dh M.ne;refine⟨_,au o,x,au w,?_⟩;refine nk tm (d.map.frame F M.pm) λr C s K=>v r ⟨?_,?_,C,M.ne⟩ ?_
 .rw[K a M.am,o,dB]
 .rw[dB];exact O.frame (Fr.of_eq (S:=λc=>c=m) s K) (λc H e=>M.pm (e▸H))
 .exact Fr.no j ((F.mono λc _ H=> .inr H).trans (Fr.of_eq (S:=λc=>c=m) s K) bX (λ_ _ H=> .inl H))
theorem RP{h:ai}{t:TypeId}{z Z X M y0 O:Value}{G k u v:ai->Prop}{J:ct->ct->ai->Prop}(s: ∀j,Fr No h j->G j/\k j/\u j/\v j)(hJ: ∀B d j,j[B]? =some (.C #[X,M] t (0,0))->j[d]? =some (.C #[y0,O] t (0,0))->h.size<=B->h.size<=d->Fr No h j->J (Sa B 0) (Sa d 0) j):
  (bg h (.C #[z,Z] t) λB H=>G H/\k H/\u H/\v H/\bg H (.C #[z,Z] t) λl e=>G e/\k e/\u e/\v e/\
   aJ e (AA B 0) X λE=>aJ E (AA B 1) M λi=>G i/\k i/\aJ i (AA l 0) y0 λC=>aJ C (AA l 1) O λD=>J (Sa B 0) (Sa l 0) D)/\
  (bg h (.C #[z,Z] t) λB H=>G H/\k H/\u H/\v H/\bg H (.C #[z,Z] t) λl e=>G e/\k e/\u e/\v e/\
   aJ e (AA l 0) X λE=>aJ E (AA l 1) M λi=>G i/\k i/\aJ i (AA B 0) y0 λC=>aJ C (AA B 1) O λD=>J (Sa l 0) (Sa B 0) D)/\True:=by
 have a': ∀(B d:Nat)(A:ai),B≠d->h.size<=B->h.size<=d->Fr No h A->A[B]? =some (.C #[z,Z] t (0,0))->A[d]? =some (.C #[z,Z] t (0,0))->
   aJ A (AA B 0) X λE=>aJ E (AA B 1) M λi=>G i/\k i/\aJ i (AA d 0) y0 λC=>aJ C (AA d 1) O λD=>J (Sa B 0) (Sa d 0) D:=by
  intro B d A L Q S f7 c7 f';have K: ∀{w x:ai}{c':Nat},Fr No h w->h.size<=c'->x.size=w.size->(∀y,y≠c'->x[y]? =w[y]?)->Fr No h x:=λf hx hs ho=>
   ⟨bW f.1,λc hc hn=>by rw[ho c ag];exact f.2 c hc hn⟩
  refine bk c7 bU λh8 c8 s8 V=>bk c8 bU λh9 c9 s9 k9=> ?_
  have P:=K (K f7 Q s8 V) Q s9 k9;have g':h9[d]? =some (.C #[z,Z] t (0,0)):=by rw[k9 _ L.symm,V _ L.symm];exact f'
  refine⟨(s _ P).1,(s _ P).2.1,bk g' bU λk' d' i' T=>bk d' bU λh' e' j' U=> ?_⟩;refine hJ B d h' ?_ e' Q S (K (K P S i' T) S j' U);rw[U _ L,T _ L];exact c9
 have I: ∀b',Fr No h (h.push b'):=λb'=>Fr.push _ _
 refine⟨?_,?_,trivial⟩
 .rintro B w rfl rfl;obtain⟨n,o,q,r⟩:=s _ (I _);refine⟨n,o,q,r,?_⟩;rintro d x rfl rfl;have F:=Fr.tt (I (.C #[z,Z] t)) (Fr.push (h.push (.C #[z,Z] t)) (.C #[z,Z] t));obtain⟨n,o,q,r⟩:=s _ F;exact⟨n,o,q,r,a' _ _ _ bU bU bU F (zU bZ) bZ⟩
 .rintro B w rfl rfl;obtain⟨n,o,q,r⟩:=s _ (I _);refine⟨n,o,q,r,?_⟩;rintro d x rfl rfl;have F:=Fr.tt (I (.C #[z,Z] t)) (Fr.push (h.push (.C #[z,Z] t)) (.C #[z,Z] t));obtain⟨n,o,q,r⟩:=s _ F;exact⟨n,o,q,r,a' _ _ _ bU bU bU F bZ (zU bZ)⟩
end cg
end
section
open Go.kV
namespace cg
variable {h:ai} {a m cap:Nat} {p:ct} {c:List E} {g:Int→Option Value} {R:fM}
variable {q i b:Nat}
theorem SA(H:q<1000000):IntKind.wrap .i64 (Int.tdiv (IntKind.wrap .i64 ((q:Int) - 1)) 2)=(((q - 1)/2:Nat):Int):=by
 rw[bJ (n:=(q:Int) - 1) ag ag];cases q with
 |zero=>decide
 |succ n=>
  rw[show((n+1:Nat):Int) - 1=(n:Int) by omega,show n+1 - 1=n from rfl];have:Int.tdiv (n:Int) 2=((n/2:Nat):Int):=by
   rw[Int.tdiv_eq_ediv_of_nonneg ag];omega
  rw[this];exact bJ ag ag
theorem QK(H:q<1000000):IntKind.wrap .i64 (IntKind.wrap .i64 (2*(q:Int))+1)=((2*q+1:Nat):Int):=by
 rw[bJ (n:=2*(q:Int)) ag ag,bJ ag ag];omega
theorem QL(H:q<1000000):IntKind.wrap .i64 (IntKind.wrap .i64 (2*(q:Int))+2)=((2*q+2:Nat):Int):=by
 rw[bJ (n:=2*(q:Int)) ag ag,bJ ag ag];omega
theorem Kn{K:ai->Prop}(M:Mem h a p cap m c g)(y:iT c g){j B:Nat}(n:i<c.length)(o:j<c.length)(E:i≠j)(k:h[b]? =some (.C #[.I (at_ c i).1,.U (at_ c i).2] 220 (0,0)))(C:h[B]? =some (.C #[.I (at_ c j).1,.U (at_ c j).2] 220 (0,0)))(I: ¬inner p m B)(D: ∀H G,Mem H a p cap m (qm c i j) G->iT (qm c i j) G->Fr (inner p m) h H->K H):
  aN (some ((AA b 0):Addr)) λA=>
   ∃(t:Int),aT h A=some (.I t)/\∃(T:Int),aT h (A.add 1)=some (.U T)/\
   Cl 128 #[.P a 0,.I (j:Int),.agg #[.I t,.U T]] h λv d=>
   v=.T #[]/\
   aN (some ((AA B 0):Addr)) λe=>
   ∃(r:Int),aT d e=some (.I r)/\∃(s:Int),aT d (e.add 1)=some (.U s)/\
   Cl 128 #[.P a 0,.I (i:Int),.agg #[.I r,.U s]] d λV z=>
   V=.T #[]/\K z:=by
 refine aw.2 ⟨_,au k,_,by rw[hH];exact au k,?_⟩;refine xm M o λJ u f=>⟨rfl,aw.2 ?_⟩
 have l:=f.get C I;refine⟨_,au l,_,by rw[hH];exact au l,?_⟩;refine xm u (by rw[dB];exact n) λx w F=>⟨rfl,D x _ w (y.swap n o E) (Fr.tt f F)⟩
def Wv(H:ai)(a:Nat)(p:ct)(cap m:Nat)(e:List E)(I:Nat)(i:Int)(h:ai):Prop:=
 ∃c g q,i=((q:Nat):Int)/\q<e.length/\c.length=e.length/\Mem h a p cap m c g/\iT c g/\c.Perm e/\uk (at_ c) e.length q/\
  ((q=I/\c=e)\/Ac (at_ c) e.length q)/\at_ c q=at_ e I/\Fr (inner p m) H h
theorem AT(M:Mem h a p cap m c g)(X:iT c g)(hi:i<c.length)(hn:c.length<1000000)(L:uk (at_ c) c.length i)(hk: ∀o E G q,Mem o a p cap m E G->iT E G->E.Perm c->E.length=c.length->q<c.length->at_ E q=at_ c i->um (at_ E) c.length q->(Ac (at_ c) c.length i->rF (at_ E) c.length)->Fr (inner p m) h o->R (.T #[]) o):
  Cl 129 #[.P a 0,.I (i:Int)] h R:=by
 refine AR.walk ⟨Wv h a p cap m c i,λi _=>i.toNat,⟨c,g,i,rfl,hi,rfl,M,X,.refl _,L,.inl ⟨rfl,rfl⟩,rfl,Fr.refl _ _⟩,?_⟩;rintro i1 u ⟨e,Q,q,rfl,y,x,d,P,A,s,kd,w,t⟩;rw[SA ag];refine aG.of λJ v=> ?_
 have k:q<e.length:=ag
 have H:(q - 1)/2<e.length:=ag
 have S: ∀n,Fr No u n->(q=0\/le (at_ e ((q - 1)/2)) (at_ e q))->J false n:=by
  intro n f d';subst v;simp only[ar,aP];have hd:=Qi s d';refine hk n e Q q (d.calm f) P A x y w hd (λk0=> ?_) (Fr.on t f);rcases kd with⟨I,K⟩|kd
  .subst I K;exact pU hd k0
  .exact pU hd kd
 by_cases U:q=0
 .subst U;exact S u (Fr.refl _ _) (.inl rfl)
 .have c':(q:Int)>0:=ag
  simp only[c',bG,bm,aH];obtain⟨ad,rfl⟩:=d.some ag;refine⟨_,_,_,d.hd,ag,aw.2 ⟨_,d.c0 k,_,d.c1 k,_,_,_,d.hd,ag,aw.2 ⟨_,d.c0 H,_,d.c1 H,vO λn f=>⟨_,rfl,(d.calm f).hd,(d.calm f).hd,?_⟩⟩⟩⟩;by_cases r:lt (at_ e q) (at_ e ((q - 1)/2))
  .rw[show decide (lt ((at_ e q).1,(at_ e q).2) ((at_ e ((q - 1)/2)).1,(at_ e ((q - 1)/2)).2))=true from av r];subst v;simp only[bm,aH];have j:=d.calm f;refine aG.of λJ1 V=> ?_
   refine⟨_,_,_,j.hd,ag,aw.2 ⟨_,j.c0 k,_,j.c1 k,_,_,_,j.hd,ag,aw.2 ⟨_,j.c0 H,_,j.c1 H,?_⟩⟩⟩;refine RP (λo F=> ?_) (λb b' o Z a' sb e' F=> ?_)
   .have l:=j.calm F;exact⟨⟨l.c0 H,l.c1 H,trivial⟩,l.hd,⟨l.c0 k,l.c1 k,trivial⟩,l.hd⟩
   .subst V;have B:=j.calm F;refine Kn B P k H ag Z a' (λhc=> ?_) λh5 T C D O=>⟨⟨qm e q ((q - 1)/2),T,(q - 1)/2,rfl,ag,by rw[wS];exact x,C,D,(uo k H).trans A,?_⟩,?_⟩
    .have:=j.lt (.inr hc);omega
    .have z:=Qj s ag y rfl r;rw[CY k H];refine⟨z.1,.inr z.2,?_,Fr.tt t (Fr.no f (Fr.no F O))⟩;rw[<-w];unfold oS;rw[dy,af rfl]
    .show Int.toNat (((q - 1)/2:Nat):Int)<Int.toNat (q:Int);rw[aH,aH];omega
  .rw[show decide (lt ((at_ e q).1,(at_ e q).2) ((at_ e ((q - 1)/2)).1,(at_ e ((q - 1)/2)).2))=false from aB r];exact S n f (.inr r)
theorem OQ{J:Int->ai->Prop}(M:Mem h a p cap m c g){C:Nat}(z:b<c.length)(S:c.length<=C->J b h)(U:C<c.length->lt (at_ c C) (at_ c b)->∀H,Fr No h H->J C H)(V:C<c.length->¬lt (at_ c C) (at_ c b)->∀H,Fr No h H->J b H):
  aG (λ(X:Bool) (y:ai)=>
   aG (λ(P:Int) (Q:ai)=>
    J P Q)
   (λs=>
    if X=true then
     s (C:Int) y
    else
     s (b:Int) y))
  (λr=>
   ∃(D:ct)(t B:Nat),aT h (AA a 0)=some (.L D t B)/\
   if(decide ((C:Int)<(t:Int)))=true then
    ∃(l:ct)(T E:Nat),aT h (AA a 0)=some (.L l T E)/\
    ((0:Int)<=(C:Int)/\(C:Int)<(T:Int))/\
    aN l λA=>
    ∃(F:Int),aT h (A.add (Int.toNat (C:Int)*2))=some (.I F)/\∃(G:Int),aT h ((A.add (Int.toNat (C:Int)*2)).add 1)=some (.U G)/\
    ∃(o:ct)(n I:Nat),aT h (AA a 0)=some (.L o n I)/\
    ((0:Int)<=(b:Int)/\(b:Int)<(n:Int))/\
    aN o λu=>
    ∃(K:Int),aT h (u.add (Int.toNat (b:Int)*2))=some (.I K)/\∃(L:Int),aT h ((u.add (Int.toNat (b:Int)*2)).add 1)=some (.U L)/\
    Cl 176 #[.agg #[.I F,.U G],.agg #[.I K,.U L]] h λv d=>
    ∃(O:Bool),v=.B O/\
    aT d (AA a 0)=some (.L o n I)/\
    aT d (AA a 0)=some (.L l T E)/\
    aT d (AA a 0)=some (.L D t B)/\
    r O d
   else
    r false h):=by
 refine aG.of λZ x=>⟨_,_,_,M.hd,?_⟩
 by_cases e:C<c.length
 .have k:(C:Int)<(c.length:Int):=ag
  simp only[k,bG,bm,aH];obtain⟨ad,rfl⟩:=M.some ag;refine⟨_,_,_,M.hd,ag,aw.2 ⟨_,M.c0 e,_,M.c1 e,_,_,_,M.hd,ag,aw.2 ⟨_,M.c0 z,_,M.c1 z,vO λw f=>⟨_,rfl,(M.calm f).hd,(M.calm f).hd,(M.calm f).hd,?_⟩⟩⟩⟩;subst x;by_cases j:lt (at_ c C) (at_ c b)
  .rw[show decide (lt ((at_ c C).1,(at_ c C).2) ((at_ c b).1,(at_ c b).2))=true from av j];simp only[bm,aG];exact U e j w f
  .rw[show decide (lt ((at_ c C).1,(at_ c C).2) ((at_ c b).1,(at_ c b).2))=false from aB j];simp only[ar,aP,aG];exact V e j w f
 .have k: ¬(C:Int)<(c.length:Int):=ag
  subst x;simp only[k,bt,ar,aP,aG];exact S ag
def Ww(H:ai)(a:Nat)(p:ct)(cap m:Nat)(e:List E)(i:Int)(h:ai):Prop:=
 ∃c g q,i=((q:Nat):Int)/\q<e.length/\c.length=e.length/\Mem h a p cap m c g/\iT c g/\c.Perm e/\um (at_ c) e.length q/\Fr (inner p m) H h
def Vk(H:ai)(c:List E)(q:Nat)(B t:Int)(h:ai):Prop:=
 ∃b k:Nat,B=b/\t=k/\k<=2/\b<c.length/\Fr No H h/\(b≠q->(b - 1)/2=q/\0<b/\lt (at_ c b) (at_ c q))/\∀C,0<C->C<c.length->C<=2*q+k->(C - 1)/2=q->le (at_ c b) (at_ c C)
theorem vP(M:Mem h a p cap m c g)(hP:iT c g)(hi:i<c.length)(hn:c.length<1000000)(ex:um (at_ c) c.length i)(hk: ∀z E Q,Mem z a p cap m E Q->iT E Q->E.Perm c->E.length=c.length->rF (at_ E) c.length->Fr (inner p m) h z->R (.T #[]) z):
  Cl 130 #[.P a 0,.I (i:Int)] h R:=by
 refine xg.walk ⟨Ww h a p cap m c,λi _=>c.length - i.toNat,⟨c,g,i,rfl,hi,rfl,M,hP,.refl _,ex,Fr.refl _ _⟩,?_⟩;rintro i1 S ⟨B,g1,q,rfl,hq,V,Z,P,X,L,O⟩;have s:q<B.length:=ag
 rw[QK ag,QL ag];refine⟨Vk S B q,λ_ t _=>2 - t.toNat,⟨q,0,rfl,rfl,ag,s,Fr.refl _ _,λI=>absurd rfl I,λC S T G h4=>ag⟩,?_⟩;rintro e' t T ⟨b,k,rfl,rfl,h',H,F,v,A⟩;have d:=Z.calm F;by_cases i':k<2
 .have b':(k:Int)<2:=ag
  simp only[b',bG,bm];rw[bJ (n:=(k:Int)+1) ag ag];refine aG.of λd' U=>⟨ag,λf'=> ?_,λg'=> ?_,trivial⟩
  .obtain rfl:k=0:=ag
   refine OQ d H (λl=> ?_) (λl f G u=> ?_) (λl f G u=> ?_)<;>subst U<;>refine⟨?_,bU⟩
   .exact⟨b,1,rfl,rfl,ag,H,F,v,λC n o y r=>ag⟩
   .refine⟨2*q+1,1,rfl,rfl,ag,l,Fr.tt F u,λ_=>⟨ag,ag,?_⟩,λC n o y r=> ?_⟩
    .by_cases e:b=q
     .rw[<-e];exact e▸f
     .exact lt_trans f (v e).2.2
    .have:C=2*q+1:=ag
     subst this;exact le_refl _
   .refine⟨b,1,rfl,rfl,ag,H,Fr.tt F u,v,λC n o y r=> ?_⟩;have:C=2*q+1:=ag
    subst this;exact f
  .obtain rfl:k=1:=ag
   refine OQ d H (λl=> ?_) (λl f G u=> ?_) (λl f G u=> ?_)<;>subst U<;>refine⟨?_,bU⟩
   .exact⟨b,2,rfl,rfl,ag,H,F,v,λC n o y r=>A C n o ag r⟩
   .refine⟨2*q+2,2,rfl,rfl,ag,l,Fr.tt F u,λ_=>⟨ag,ag,?_⟩,λC n o y r=> ?_⟩
    .by_cases e:b=q
     .rw[<-e];exact e▸f
     .exact lt_trans f (v e).2.2
    .by_cases e:C=2*q+2
     .subst e;exact le_refl _
     .exact le_trans (le_of_lt f) (A C n o ag r)
   .refine⟨b,2,rfl,rfl,ag,H,Fr.tt F u,v,λC n o y r=> ?_⟩;by_cases e:C=2*q+2
    .subst e;exact f
    .exact A C n o ag r
 .obtain rfl:k=2:=ag
  simp only[show¬((2:Nat):Int)<2 by omega,bt,ar,aP];by_cases e:b=q
  .subst e;simp only[bne_self_eq_false,ar,aP];refine hk T B g1 d P X V (pU L λj J j2 K=>A j J ag ag K) (Fr.on O F)
  .obtain⟨b1,b2,b3⟩:=v e;have I:((b:Int) !=(q:Int))=true:=by simp;omega
   simp only[I,bm,aH];obtain⟨ad,rfl⟩:=d.some ag;refine aG.of λJ1 a'=> ?_
   refine⟨_,_,_,d.hd,ag,aw.2 ⟨_,d.c0 s,_,d.c1 s,_,_,_,d.hd,ag,aw.2 ⟨_,d.c0 H,_,d.c1 H,?_⟩⟩⟩;refine RP (λz D=> ?_) (λx x' z hx c' sx j' D=> ?_)
   .have w:=d.calm D;exact⟨⟨w.c0 H,w.c1 H,trivial⟩,w.hd,⟨w.c0 s,w.c1 s,trivial⟩,w.hd⟩
   .subst a';have M3:=d.calm D;refine Kn M3 P s H (λx=>e x.symm) hx c' (λl=> ?_) λh5 g5 M5 P5 f5=>⟨⟨qm B q b,g5,b,rfl,ag,by rw[wS];exact V,M5,P5,(uo s H).trans X,?_,Fr.tt O (Fr.no F (Fr.no D f5))⟩,?_⟩
    .have:=d.lt (.inr l);omega
    .rw[CY s H];exact Ld L b1 b2 ag b3 λj J j2 K=>A j J ag ag K
    .show c.length - Int.toNat (b:Int)<c.length - Int.toNat (q:Int);rw[aH,aH];omega

end cg
end
section
open Go.kV
namespace cg
variable {h:ai} {a m cap:Nat} {p:ct} {b:List E} {g:Int→Option Value} {R:fM} {S:Nat→Prop} {L:List E}
theorem tE:oC Tryz.prog 129 220 2 16 (.agg #[.I 0,.U 0]):=⟨dA,dA,rfl⟩
theorem tI:oC Tryz.prog 113 3 1 8 (.I 0):=⟨dA,dA,rfl⟩
def Good(L:List E):Prop:= ∀e∈L,1<=e.1/\e.1<=1099511627776/\0<=e.2/\e.2<=1099511627776
def Al(h:ai)(a:Nat)(S:Nat->Prop)(L:List E):Prop:=
 ∃p cap m b g,Mem h a p cap m b g/\iT b g/\rF (at_ b) b.length/\b.Perm L/\jI L/\Good L/\∀c,S c↔AS a p m c
theorem Al.lt(A:Al h a S L){c:Nat}(d:S c):c<h.size:=by
 obtain⟨p,cap,m,b,g,M,_,_,_,_,_,H⟩:=A;exact M.lt ((H c).1 d)
theorem Al.frame{Q:Nat->Prop}{d:ai}(A:Al h a S L)(i:Fr Q h d)(j: ∀c,S c->¬Q c):Al d a S L:=by
 obtain⟨p,cap,m,b,g,M,P,H,k,s,G,e⟩:=A;exact⟨p,cap,m,b,g,M.frame i λc f=>j c ((e c).2 f),P,H,k,s,G,e⟩
theorem Al.sorted(A:Al h a S L):jI L:=by
 obtain⟨p,cap,m,b,g,M,P,H,d,s,G,c⟩:=A;exact s
theorem Al.nodup(A:Al h a S L):(keys L).Nodup:=by
 obtain⟨p,cap,m,b,g,M,P,H,c,s,G,d⟩:=A;exact(keys_perm c).nodup_iff.1 P.1
theorem gr(M:Mem h a p cap m b g)(H:R (.B true) h):Cl 127 #[.P a 0] h R:=
 xf.walk ⟨some m,M.mp,H⟩
theorem jj(k: ∀a S H,Al H a S []->(∀c,S c->h.size<=c)->Fr No h H->R (.P a 0) H):Cl 30 #[] h R:=by
 refine LZ.walk ?_;rintro B n rfl rfl l o rfl rfl;have f:Fr No (h.push (.map #[] 0)) ((h.push (.map #[] 0)).push (.C #[.Z,.map (some h.size)] 131)):=Fr.push _ _;refine k _ (AS (h.push (.map #[] 0)).size none h.size) _ ⟨none,0,h.size, [],λ_=>none,⟨bZ,.nil rfl rfl rfl rfl,(nU.push h).frame f id,?_⟩,⟨.nil,?_,λ_ _=>rfl⟩,?_,.refl _,.nil,?_,λ_=>ff⟩ ?_ (Fr.tt (Fr.push _ _) f)
 .rintro⟨_,e,_⟩;cases e
 .intro j d;simp at d
 .intro j _ d;simp at d
 .intro e i;cases i
 .rintro c (rfl|rfl|⟨_,e,_⟩)
  .simp
  .exact bu _
  .cases e
theorem SB(A:Al h a S L)(c:R (.I (L.length:Int)) h):Cl 126 #[.P a 0] h R:=by
 obtain⟨p,cap,m,b,g,M,P,H,d,s,G,e⟩:=A;refine yF.walk ⟨_,_,_,M.hd,?_⟩;rw[d.length_eq];exact c
def hd(L:List E):E:=L.headD (0,0)
theorem vQ(A:Al h a S L)(d:R (.T #[.I (hd L).1,.U (hd L).2,.B (!L.isEmpty)]) h):Cl 80 #[.P a 0] h R:=by
 refine xi.walk (SB A ⟨_,rfl,?_⟩);obtain⟨p,cap,m,b,g,M,P,H,f,s,G,o⟩:=A;cases L with
 |nil=>exact d
 |cons e r=>
  have j:=f.length_eq;simp only[bn]at j;have k:(((e::r).length:Int)==0)=false:=by simp only[bn,dz];omega
  simp only[k,ar,aP];obtain⟨n,rfl⟩:=M.some ag;obtain⟨q,l⟩:=NK f s H ag;have i:at_ b 0=e:=(List.cons.inj l).1.symm;have c:=M.c0 (i:=0) ag;have C:=M.c1 (i:=0) ag;rw[i]at c C;refine⟨_,_,_,M.hd,ag,aw.2 ⟨_,c,_,_,_,M.hd,ag,aw.2 ⟨_,C,d⟩⟩⟩
theorem SD{t:TypeId}{z Z x X:Value}{K:Nat->ai->Prop}(k: ∀B H,H[B]? =some (.C #[x,X] t (0,0))->h.size<=B->Fr No h H->K B H):
  bg h (.C #[z,Z] t) λB e=>aJ e (AA B 0) x λf=>aJ f (AA B 1) X λd=>K B d:=by
 rintro B e rfl rfl;refine bk bZ bU λf C s l=>bk C bU λd i o n=>k _ d i (bu _) ⟨?_,λc j _=> ?_⟩
 .rw[o,s];simp
 .rw[n c ag,l c ag];exact(Fr.push (S:=λ_=>False) h _).2 c j id
theorem pZ(k':Al h a S L)(hn:L.length<1000000)(k:Int)(U:k∈keys L->∀f,Al f a S (fZ L k)->Fr S h f->R (.I 0) f)(k2:k∉keys L->R (.I 4) h):Cl 81 #[.P a 0,.I k] h R:=by
 obtain⟨p,cap,m,b,g,M,P,H,y,so,gd,hS⟩:=k';have x':=y.length_eq;refine xh.walk (gr M ⟨true,rfl,?_⟩);simp only[cX,ar,aP];have w:=DS tm M.map k;by_cases v:k∈keys b
 .have U:=U ((keys_perm y).mem_iff.1 v);clear k2;obtain⟨j,Q,rfl⟩:=mem_keys v;obtain⟨n,l⟩: ∃n,b.length=n+1:=⟨b.length - 1,ag⟩;rw[P.2.1 j Q]at w;refine⟨some m,M.mp,(j:Int),true,w,?_⟩;simp only[cX,ar,aP];obtain⟨B,o,rfl⟩:=M.own.some (by rw[kW];omega);refine⟨_,_,_,M.hd,_,_,_,M.hd,?_⟩;rw[show IntKind.wrap .i64 ((b.length:Int) - 1)=(n:Int) by rw[bJ ag ag];omega];simp only[aH];refine⟨ag,aw.2 ⟨_,M.c0 (i:=n) ag,_,M.c1 (i:=n) ag,SD λD h4 hb sb f4=> ?_⟩⟩;have r:=M.calm f4;have w':=M.own.le;have g':cY (some ((AA B o):Addr)) cap 0 2=some (AA B o):=by
   unfold cY;split
   .rfl
   .simp[hH]
  refine⟨_,_,_,r.hd,ag,bk r.dh bU λJ c5 s5 k5=> ?_⟩;have F:Fr (λc=>c=a) h4 J:=Fr.of_eq s5 k5;have tl:(b.take n).length=n:=by rw[bA];omega
  have s:Mem J a (Sa B o) cap m (b.take n) g:=by
   refine⟨?_,?_,r.map.frame F (λe=>M.am e.symm),M.ne⟩
   .rw[c5,g',tl];rfl
   .have i':=(r.own.frame F (λc d e=>M.ne (e▸d))).sub (l:=0) (u:=n) ag ag;rw[g',GX,Nat.zero_mul,gV]at i';rw[tl];exact i'
  refine⟨some m,s.mp,xY tm s.map λu m6 s6 k6=>⟨rfl,?_⟩⟩;have t:Fr (λc=>c=m) J u:=Fr.of_eq s6 k6;have A:Mem u a (Sa B o) cap m (b.take n) (λj'=>if j'=(at_ b j).1 then none else g j'):=
   ⟨t.get s.dh M.am,s.own.frame t (λc d e=>M.pm (e▸d)),m6,M.ne⟩
  have c':Fr (AS a (Sa B o) m) h u:=Fr.no f4 (F.trans t (λ_ _ e=> .inl e) (λ_ _ e=> .inr (.inl e)));have O: ∀c,AS a (Sa B o) m c->D≠c:=λc d e=>by have:=M.lt d;omega
  have K:=t.get (F.get hb (O a (.inl rfl))) (O m (.inr (.inl rfl)));refine aG.of λl' hJ=> ?_
  have done: ∀f E G,Mem f a (Sa B o) cap m E G->iT E G->rF (at_ E) E.length->E.Perm (cut b n j)->Fr (AS a (Sa B o) m) h f->l' f:=by
   intro f E G M' P' z t' f';subst hJ;exact U f ⟨_,_,_,E,G,M',P',z,t'.trans (NL l Q P.1 y),so.drop _,λe he=>gd e (bj.1 he).1,hS⟩ (f'.mono λc _ d=>(hS c).2 d)
  have x:=Le P l Q;have cl:=DZ (j:=j) l;by_cases i:j<n
  .have T:(j:Int)<(n:Int):=ag
   simp only[i,bm]at x;simp only[T,bG,bm];have I:(b.take n).set j ((at_ b n).1,(at_ b n).2)=cut b n j:=by unfold cut;rw[af i]
   refine⟨_,au K,_,au K,xm A ag λh8 M8 f8=>⟨rfl,?_⟩⟩;rw[I]at M8;have ex:=NM l i H;refine AT M8 x ag ag (by rw[cl];exact ex) λh9 p' g9 q C P9 v' l9 q9 n' a' _ f9=>⟨rfl,some m,C.mp,?_⟩
   have V: ¬inner (Sa B o) m D:=λd=>O D (.inr d) rfl
   have e':=f9.get (f8.get K V) V;have h':=CM tm C.map (at_ b n).1;have e9:at_ p' q=at_ b n:=by rw[n',pV l i,af rfl]
   have d':=P9.2.1 q ag;rw[e9]at d';rw[d']at h';refine⟨_,au e',(q:Int),h',?_⟩;rw[<-l9]at a';refine vP C P9 ag ag a' λr' o' q' Z m' u' s' X b'=>⟨rfl,au (b'.get e' V),Z.mp,?_⟩
   rw[<-s']at X;exact done r' o' q' Z m' X (u'.trans v') (c'.trans (Fr.tt f8 (Fr.tt f9 b')) bX (λ_ _ d=> .inr d))
  .have T: ¬(j:Int)<(n:Int):=ag
   simp only[i,aP]at x;simp only[T,bt,ar,aP];have I:b.take n=cut b n j:=by unfold cut;rw[ae i]
   rw[I]at A;have z:=NN l i H;exact done u _ _ A x (by rw[cl];exact z) (.refl _) c'
 .rw[P.2.2 k v]at w;exact⟨some m,M.mp,0,false,w,k2 λhx=>v ((keys_perm y).mem_iff.2 hx)⟩
def may(k t:Int):Bool:=decide (1<=k) && decide (k<=1099511627776) && decide (t<=1099511627776)
theorem mP{k t:Int}:may k t=true↔1<=k/\k<=1099511627776/\t<=1099511627776:=by simp[may,and_assoc]
def AU(L:List E)(k t:Int):List E:=vu (fZ L k) (k,t)
theorem ph(L:List E)(k:Int):(fZ L k).length<=L.length:=cM _ _
theorem I4(A:Al h a S L)(hn:L.length<999999)(k t:Int)(ht:0<=t)(K:may k t=true->∀u B,Al u a B (AU L k t)->(∀c,B c->S c\/h.size<=c)->Fr S h u->R (.I 0) u)(Z:may k t=false->R (.I 1) h):Cl 172 #[.P a 0,.I k,.U t] h R:=by
 have x:=A;obtain⟨p,cap,m,b,g,M, -, -, -, -, -, -⟩:=A;refine yH.walk (gr M ⟨true,rfl,?_⟩);clear M;simp only[cX,ar,aP];refine aG.of λi' V=> ?_
 have n:may k t=false->i' true h:=λl=>by subst V;exact Z l
 by_cases H:k<1
 .simp only[H,bG,bm];exact n (by simp[may,show¬1<=k by omega])
 simp only[H,bt,ar,aP];by_cases J:k>1099511627776
 .simp only[J,bG,bm];exact n (by simp[may,show¬k<=1099511627776 by omega])
 simp only[J,bt,ar,aP];by_cases O:t>1099511627776
 .simp only[O,bG];exact n (by simp[may,show¬t<=1099511627776 by omega])
 simp only[O,bt];clear n Z;have K:=K (mP.2 ⟨ag,ag,ag⟩);subst V;simp only[ar,aP];have rest: ∀H e,Al H a S (fZ L k)->Fr S h H->(∃(t':Int),Value.I e=.I t'/\
    ∃(d':ct)(c' b':Nat),aT H (AA a 0)=some (.L d' c' b')/\
    bg H (.C #[.I 0,.U 0] 220) λC l'=>
    ba Tryz.prog (Builtin.append_ #[129,129] 129 #[.L d' c' b',.L (Sa C 0) 1 1]) l' λw' m'=>
    ∃(g':ct)(f' e':Nat),w'=.L g' f' e'/\
    aJ m' (AA a 0) (.L g' f' e') λX=>
    ∃(v':ct)(T u':Nat),aT X (AA a 0)=some (.L v' T u')/\
    Cl 128 #[.P a 0,.I (IntKind.wrap .i64 ((T:Int) - 1)),.agg #[.I k,.U t]] X λx' n'=>
    x'=.T #[]/\
    Cl 129 #[.P a 0,.I (IntKind.wrap .i64 ((T:Int) - 1))] n' λy' o'=>
    y'=.T #[]/\
    R (.I 0) o'):=by
  intro H e o F;refine⟨e,rfl,?_⟩;have kn:=Io L k;have dl:=ph L k;obtain⟨p,cap,m,b,g,M,P,h',w,so,gd,d⟩:=o;have z':=w.length_eq;refine⟨_,_,_,M.hd,?_⟩;rintro C h4 rfl rfl;have s:Fr No H (H.push (.C #[.I 0,.U 0] 220)):=Fr.push _ _;have s':Row (H.push (.C #[.I 0,.U 0] 220)) (Sa H.size 0) (enc [(0,0)]):=.inr ⟨_,rfl,gH bZ λA' E' hj=>by rw[bP];simpa[enc]using hj⟩;have D':H.size<=(H.push (.C #[.I 0,.U 0] 220)).size:=s.1;have i:=M.calm s;refine dS tE (eT:=220) dA i.own s' rfl (Km _) ag ag λf D Q o5 _ q G=>⟨_,_,_,rfl,?_⟩
  rw[<-I3]at o5;have b5:=q.get i.dh M.ne;have a': ¬aO f a:=λhc=>by
   rcases G a hc with hx|hx
   .exact M.ne hx
   .have:=aD i.dh;omega
  have B': ¬aO f m:=λhc=>by
   rcases G m hc with hx|hx
   .exact M.pm hx
   .have:=i.map.lt;omega
  refine bk b5 bU λv c6 s6 k6=> ?_
  have r:Fr (λc=>c=a) Q v:=Fr.of_eq s6 k6;have y:Mem v a f D m (b++ [(0,0)]) g:=by
   refine⟨?_,?_,(i.map.frame q M.pm).frame r (λe=>M.am e.symm),a'⟩
   .rw[c6,aA];rfl
   .rw[aA];exact o5.frame r (λc hc e=>a' (e▸hc))
  refine⟨_,_,_,y.hd,?_⟩;have ew:IntKind.wrap .i64 ((((b++ [((0,0):E)]).length:Nat):Int) - 1)=(b.length:Int):=by
   rw[aA,dN,bJ ag ag];omega
  rw[ew];refine xm y (by rw[aA,dN];omega) λh7 z f7=>⟨rfl,?_⟩
  have j':(b++ [((0,0):E)]).set b.length (k,t)=b++ [(k,t)]:=by
   rw[List.set_append_right _ _ (bu _)];simp
  rw[j']at z;have q':k∉keys b:=λhx=>kn ((keys_perm w).mem_iff.1 hx)
  have P7:=Lf (x:=(k,t)) P q';obtain⟨I,kd⟩:=NO (x:=(k,t)) h';have l7:(b++ [(k,t)]).length=b.length+1:=bU
  rw[<-l7]at I kd;refine AT z P7 ag ag I λU k' g8 C' M8 P8 r' l8 _ _ _ j f8=>⟨rfl,?_⟩
  have j:=j kd;rw[<-l8]at j;have gf: ∀c,AS a f m c->S c\/h.size<=c:=by
   rintro c (rfl|rfl|hc)
   .exact .inl ((d _).2 (.inl rfl))
   .exact .inl ((d _).2 (.inr (.inl rfl)))
   .rcases G c hc with hx|hx
    .exact .inl ((d _).2 (.inr (.inr hx)))
    .have:=F.1;exact .inr ag
  refine K U (AS a f m) ⟨f,D,m,k',g8,M8,P8,j,?_,so.insert _ kn,?_,λ_=>ff⟩ gf ?_
  .exact r'.trans ((eH _ _).trans ((w.cons _).trans (mO _ _).symm))
  .intro e he;rcases bf.1 ((mO _ _).mem_iff.1 he)with rfl|hx
   .exact⟨by simp only;omega,by simp only;omega,ht,by simp only;omega⟩
   .exact gd e hx
  .have p': ∀c,c<H.size->AS a f m c->S c:=λc hc hx=>by
    rcases hx with rfl|rfl|hx
    .exact(d _).2 (.inl rfl)
    .exact(d _).2 (.inr (.inl rfl))
    .rcases G c hx with hy|hy
     .exact(d _).2 (.inr (.inr hy))
     .omega
   have g1:Fr S H Q:=Fr.no s (q.mono λc _ hc=>(d c).2 (.inr (.inr hc)));have g2:Fr S H v:=g1.trans r bX (λc _ e=>(d c).2 (.inl e));have g3:Fr S H U:=g2.trans (Fr.tt f7 f8) bX (λc hc hx=>p' c hc (.inr hx));exact Fr.tt F g3
 refine pZ x ag k (λl H o F=>rest H 0 o F) (λl=> ?_);refine rest h 4 ?_ (Fr.refl _ _);rw[kx l];exact x
def jM(n:Int)(e:E):Bool:=decide (e.2<=n)
def due(L:List E)(n:Int):List E:=L.takeWhile (jM n)
def rest(L:List E)(n:Int):List E:=L.dropWhile (jM n)
def kc(L:List E):List Value:=(keys L).map (.int .i64 ·)
theorem L3{D T:List E}{n:Int}(hd: ∀e∈D,jM n e=true)(f: ∀e r,T=e::r->jM n e=false):due (D++T) n=D/\rest (D++T) n=T:=by
 unfold due rest;induction D with
 |nil=>
  cases T with
  |nil=>exact⟨rfl,rfl⟩
  |cons e r=>simp[f e r rfl]
 |cons d D j=>
  have H:=hd d dk;obtain⟨i,I⟩:=j λe c=>hd e (cv _ c)
  simp only[dj,List.takeWhile_cons,List.dropWhile_cons,H,bm];exact⟨by rw[i],I⟩
def TV(H:ai)(a:Nat)(S:Nat->Prop)(L:List E)(n:Int)(o:ct)(l c:Nat)(k t:Int)(i:Bool)(h:ai):Prop:=
 ∃D T,L=D++T/\(∀e∈D,jM n e=true)/\Al h a S T/\k=(hd T).1/\t=(hd T).2/\i= !T.isEmpty/\l=D.length/\Own h o l c 1 (kc D)/\(∀x,aO o x->H.size<=x)/\Fr S H h
theorem EF(A:Al h a S L)(hn:L.length<999999)(n:Int)(hk: ∀i P C,Al i a S (rest L n)->Own i P (due L n).length C 1 (kc (due L n))->(∀c,aO P c->h.size<=c)->Fr S h i->R (.slice P (due L n).length C) i):
  Cl 59 #[.P a 0,.U n] h R:=by
 refine xj.walk (vQ A ⟨_,_,_,rfl,?_⟩);refine⟨TV h a S L n,λ_ l _ _ _ _ _=>L.length - l,⟨[],L,rfl,(λ_ X=>by cases X),A,rfl,rfl,rfl,rfl,.nil rfl rfl rfl rfl,(λc ⟨_,e,_⟩=>by cases e),Fr.refl _ _⟩,?_⟩;rintro b' l c i' j' is H ⟨D,U,q,y,s,rfl,rfl,rfl,rfl,O,o,F⟩;refine aG.of λJ z=> ?_
 have stop:(∀e r,U=e::r->jM n e=false)->J false H:=λht=>by
  subst z;simp only[ar,aP];obtain⟨E,u⟩:=L3 y ht;rw[<-q]at E u;rw[<-E];rw[<-E]at O;exact hk H b' c (by rw[u];exact s) O o F
 cases U with
 |nil=>exact stop (λe r x=>by cases x)
 |cons e U=>
  simp only[List.isEmpty_cons,ee,bm];by_cases j:e.2<=n
  .rw[show decide ((hd (e::U)).2<=n)=true from av j];subst z;simp only[bm];rintro f' h4 rfl rfl;have g':L.length=D.length+(U.length+1):=by rw[q];simp
   have f:Fr No H (H.push (.C #[.I (hd (e::U)).1] 3)):=Fr.push _ _;have c':Row (H.push (.C #[.I (hd (e::U)).1] 3)) (Sa H.size 0) (kc [e]):=.inr ⟨_,rfl,gH bZ λh' d' Z=>by rw[bP];simpa[kc,keys,hd]using Z⟩;have sz:H.size<=(H.push (.C #[.I (hd (e::U)).1] 3)).size:=f.1;refine dS tI (eT:=3) dA (O.frame f λ_ _=>id) c' rfl (λd' G=>by simp[kc,keys]at G;subst G;rfl) ag ag λP C V I _ v T=>⟨_,_,_,rfl,?_⟩
   have M:kc D++kc [e]=kc (D++ [e]):=by simp[kc,keys]
   rw[M]at I;have B: ∀{c},S c->c<h.size:=λd=>A.lt d
   have t:=(s.frame f λ_ _=>id).frame v (λc d hx=>iL (o c hx) (B d));have K: ∀c,aO P c->h.size<=c:=λc d=>by
    rcases T c d with hx|hx
    .exact o c hx
    .have:=F.1;omega
   have Q:Fr S h V:=F.trans (Fr.no f v) bX (λc d hx=>bW (o c hx));refine pZ t (by simp;omega) _ (λ_ h6 k w=>⟨_,rfl,?_⟩) (λa'=>absurd (by exact dk) a');rw[show fZ (e::U) (hd (e::U)).1=U from Iq t.nodup]at k;refine vQ k ⟨_,_,_,rfl,⟨D++ [e],U,by rw[q];simp,?_,k,rfl,rfl,rfl,bU,?_,K,Fr.tt Q w⟩,?_⟩
   .intro x hx;rcases bH.1 hx with hx|hx
    .exact y x hx
    .simp at hx;subst hx;exact av j
   .exact I.frame w λc d hx=>by have:=K c d;have:=B hx;omega
   .show L.length - (D.length+1)<L.length - D.length;omega
  .rw[show decide ((hd (e::U)).2<=n)=false from aB j];exact stop λe' r x=>by cases x;exact aB j

end cg
end
section
variable {h:ai} {R:fM}
variable {b c a S s:Nat} {x X e num o:Int} {d f:ct}
theorem I5.walk(i:Cl 30 #[] h λv H=>Vp v λt=>bg H (.C #[.Z,.I 1,.I 0,.I 0,.I 0,.pointer t] 101) λb g=>R (.P b 0) g):Cl 16 #[] h R:=aR [] Tryz.func16 i
theorem yI.walk(H: ∃t,Cc h b 5 (.pointer t)/\R (.B (!t.isNone)) h):Cl 62 #[.P b 0] h R:=aR [] Tryz.func62 H
theorem Cn.walk(m:bg h (.C #[.I x,.I X,.L d c a,.U e] 117) λb k=>bg k (.C #[.I 0,.I 0,.Z,.U 0] 117) λB H=>Hl H b 2 λA z y=>Cl 54 #[.L A z y] H λv l=> ∃j T t,v=.L j T t/\aJ l (AA b 2) (.L j T t) λg=>aI.LD g (AA b 0) λC D G F E I=>aI.ST g (AA B 0) C D G F E I λi=>aI.LD i (AA B 0) λr n u q p w=>R (.agg #[.I r,.I n,.L u q p,.U w]) i):Cl 186 #[.agg #[.I x,.I X,.L d c a,.U e]] h R:=aR [] Tryz.func186 m
theorem EG.walk(k:bg h (.C #[.I x,.I X,.L d c a,.U e] 117) λb H=> ∃i,Cc H b 1 (.I i)/\if(decide (i≥1))then∃j,Cc H b 1 (.I j)/\if(decide (j<=1099511627776))then∃m t l,Cc H b 2 (.L m t l)/\if(decide (((t:Nat):Int)≥1))then∃p T n,Cc H b 2 (.L p T n)/\if(decide (((T:Nat):Int)<=600))then∃g,Cc H b 3 (.U g)/\R (.B (decide (g<=1099511627776))) H else R (.B false) H else R (.B false) H else R (.B false) H else R (.B false) H):Cl 250 #[.agg #[.I x,.I X,.L d c a,.U e]] h R:=aR [] Tryz.func250 k
theorem yJ.walk(i:bg h (.C #[.I num] 3) λB H=>Hl H b 0 λk j T=>Cl 83 #[.L k j T,.func (.func 84) #[] #[.P B 0]] H λv g=> ∃t,v=.I t/\R (.I t) g):Cl 64 #[.P b 0,.I num] h R:=aR [] Tryz.func64 i
theorem vR.walk{C:Nat}(g:bg h (.C #[.I x,.I X,.L d c a,.U e] 117) λb H=>Hi H b 0 λT=> ∃t,Cc H C 0 (.I t)/\R (.B (T==t)) H):Cl 84 #[.agg #[.I x,.I X,.L d c a,.U e],.P C 0] h R:=aR [] Tryz.func84 g
theorem AW.walk{i:Int} (z:bg h (.C #[.I 0,.I 0,.Z,.U 0] 117) λq H=>Hl H b 0 λi' h' _=>Bd i h'/\aN i' λA=>aI.LD H (A.add (toNat i*4)) λJ K O M L P=>bg H (.C #[.I 0,.I 0,.Z,.U 0] 117) λB y=>aI.ST y (AA B 0) J K O M L P λj=>Hp j b 5 λQ=>Hi j B 0 λU=>Cl 81 #[.pointer Q,.I U] j λj' k=>Vi j' λ_=>Hl k b 0 λn v t=>((0:Int)<=i/\i<=(t:Int))/\Hl k b 0 λp g T=>((0:Int)<=wrap .i64 (i+1)/\wrap .i64 (i+1)<=(g:Int))/\bg k (.C #[.L (cY n t 0 4) ((toNat i) - 0) (t - 0),.slice (cY p T (toNat (wrap .i64 (i+1))) 4) (g - (toNat (wrap .i64 (i+1)))) (T - (toNat (wrap .i64 (i+1))))] 99) λw l=>Cc l b 0 (.L p g T)/\Cc l b 0 (.L n v t)/\Cl 82 #[.L (Sa w 0) 2 2] l λk' m=>Vl k' λa' Z V=>Cc m b 0 (.L p g T)/\Cc m b 0 (.L n v t)/\aJ m (AA b 0) (.L a' Z V) λr=>aI.LD r (AA B 0) λb' c' f' e' d' g'=>aI.ST r (AA q 0) b' c' f' e' d' g' λu=>aI.LD u (AA q 0) λC D G F E I=>R (.agg #[.I C,.I D,.L G F E,.U I]) u):Cl 63 #[.P b 0,.I i] h R:=aR [(5,λ_=>pN 7),(7,λ_=>pN 19)] Tryz.func63 z
theorem AX.walk(G:Cl 62 #[.P b 0] h λj' j=>Vb j' λt7=>aG (λ(P:ct) (L K:Nat) (C:ai)=>R (.L P L K) C) (λJ=>if t7 then Hl j b 0 λQ p _=> ∃(I:ct->Nat->Nat->Int->ai->Prop)(M:ct->Nat->Nat->Int->ai->Nat),I none 0 0 0 j/\∀(i:ct)(g O:Nat)(t:Int)(H:ai),I i g O t H->if(decide (t<(p:Int)))then Bd t p/\aN Q λA=>aI.LD H (A.add (toNat t*4)) λU V b' a' Z c'=>bg H (.C #[.I 0,.I 0,.Z,.U 0] 117) λB D=>aI.ST D (AA B 0) U V b' a' Z c' λm=>aI.LD m (AA B 0) λd' e' h' g' f' i'=>Cl 186 #[.agg #[.I d',.I e',.L h' g' f',.U i']] m λk' E=> ∃q r w v u y,k'=.agg #[.I q,.I r,.L w v u,.U y]/\bg E (.C #[.I q,.I r,.L w v u,.U y] 117) λz F=>ba Tryz.prog (Builtin.append_ #[99,99] 99 #[.L i g O,.L (Sa z 0) 1 1]) F λl' n=> ∃l k T,l'=.L l k T/\(I l k T (wrap .i64 (t+1)) n/\M l k T (wrap .i64 (t+1)) n<M i g O t H)else J i g O H else J none 0 0 j)):Cl 143 #[.P b 0] h R:=aR [(7,.join [(3,.one (.slice))]),(11,.loop [(3,.one (.slice)),(13,.one (.int .i64))])] Tryz.func143 G
theorem AY.walk{k:ct}{j D:Nat}{v:Int}(U:Cl 62 #[.P b 0] h λp' g=> ∃t,p'=.B t/\if(!t)then R (.T #[.I 0,.I 6]) g else Hi g b 1 λV=>Cl 186 #[.agg #[.I V,.I o,.L k j D,.U v]] g λq' O=> ∃T q w u r y,q'=.agg #[.I T,.I q,.L w u r,.U y]/\bg O (.C #[.I 0,.I 0,.Z,.U 0] 117) λB P=>aI.ST P (AA B 0) T q w u r y λm=>aI.LD m (AA B 0) λZ a' d' c' b' e'=>Cl 250 #[.agg #[.I Z,.I a',.L d' c' b',.U e']] m λr' H=> ∃z,r'=.B z/\if(!z)then R (.T #[.I 0,.I 1]) H else∃g' A f',Cc H b 0 (.L g' A f')/\if(decide (((A:Nat):Int)≥16))then R (.T #[.I 0,.I 15]) H else Hl H b 0 λF E C=>aI.LD H (AA B 0) λh' i' l' k' j' m'=>bg H (.C #[.I h',.I i',.L l' k' j',.U m'] 117) λM n=>Cc n b 0 (.L F E C)/\ba Tryz.prog (Builtin.append_ #[99,99] 99 #[.L F E C,.L (Sa M 0) 1 1]) n λs' Q=> ∃J I G,s'=.L J I G/\aJ Q (AA b 0) (.L J I G) λp=> ∃K,Cc p b 1 (.I K)/\aJ p (AA b 1) (.I (wrap .i64 (K+1))) λi=>Hp i b 5 λn'=>Hi i B 0 λo'=>Cl 172 #[.pointer n',.I o',.U v] i λt' l=>Vi t' λ_=> ∃L,Cc l B 0 (.I L)/\R (.T #[.I L,.I 0]) l):Cl 221 #[.P b 0,.I o,.L k j D,.U v] h R:=aR [(28,λ_=>pN 11),(32,λ_=>pN 8)] Tryz.func221 U
theorem vS.walk(m:Cl 62 #[.P b 0] h λv g=> ∃k,v=.B k/\if(!k)then R (.I 6) g else Cl 64 #[.P b 0,.I num] g λV H=> ∃t,V=.I t/\if(decide (t<0))then R (.I 4) H else Hl H b 0 λp n _=>Bd t n/\aN p λA=> ∃T,aT H ((A.add (toNat t*4)).add 1)=some (.I T)/\if(T !=o)then R (.I 13) H else Cl 63 #[.P b 0,.I t] H λB i=> ∃q r y w u z,B=.agg #[.I q,.I r,.L y w u,.U z]/\∃j,Cc i b 3 (.I j)/\aJ i (AA b 3) (.I (wrap .i64 (j+1))) λl=>R (.I 0) l):Cl 144 #[.P b 0,.I num,.I o] h R:=aR [] Tryz.func144 m
theorem yK.walk(y:bg h (.C #[.I 0,.I 0,.Z,.U 0] 117) λB u=>Cl 62 #[.P b 0] u λc' H=> ∃r,c'=.B r/\if(!r)then aI.ST H (AA B 0) 0 0 none 0 0 0 λg=>aI.LD g (AA B 0) λz D O K G U=>R (.T #[.agg #[.I z,.I D,.L O K G,.U U],.I 6]) g else∃b' t a',Cc H b 0 (.L b' t a')/\if(((t:Nat):Int)==0)then aI.ST H (AA B 0) 0 0 none 0 0 0 λi=>aI.LD i (AA B 0) λA E P L I V=>R (.T #[.agg #[.I A,.I E,.L P L I,.U V],.I 4]) i else∃T,Cc H b 2 (.I T)/\aJ H (AA b 2) (.I (wrap .i64 (T+1))) λv=>Cl 63 #[.P b 0,.I 0] v λd' w=> ∃k l p n m q,d'=.agg #[.I k,.I l,.L p n m,.U q]/\aI.ST w (AA B 0) k l p n m q λj=>aI.LD j (AA B 0) λC F Q M J Z=>R (.T #[.agg #[.I C,.I F,.L Q M J,.U Z],.I 0]) j):Cl 76 #[.P b 0] h R:=aR [] Tryz.func76 y
theorem yL.walk{n:Int}(M:Cl 62 #[.P b 0] h λc' j=>Vb c' λt9=>aG (λ(U:ct) (Q P:Nat) (E:ai)=>R (.L U Q P) E) (λJ=>if t9 then Hp j b 5 λV=>Cl 59 #[.pointer V,.U n] j λd' F=>Vl d' λZ T _=> ∃(I:ct->Nat->Nat->Int->ai->Prop)(m:ct->Nat->Nat->Int->ai->Nat),I none 0 0 0 F/\∀(i:ct)(g O:Nat)(t:Int)(H:ai),I i g O t H->if(decide (t<(T:Int)))then Bd t T/\aN Z λC=>kL H (C.add (toNat t*1)) λa'=>Cl 64 #[.P b 0,.I a'] H λe' G=>Vi e' λb'=>Cl 63 #[.P b 0,.I b'] G λf' K=> ∃p q v u r w,f'=.agg #[.I p,.I q,.L v u r,.U w]/\bg K (.C #[.I p,.I q,.L v u r,.U w] 117) λD L=>ba Tryz.prog (Builtin.append_ #[99,99] 99 #[.L i g O,.L (Sa D 0) 1 1]) L λg' k=>Vl g' λA z y=> ∃B,Cc k b 4 (.I B)/\aJ k (AA b 4) (.I (wrap .i64 (B+1))) λl=>(I A z y (wrap .i64 (t+1)) l/\m A z y (wrap .i64 (t+1)) l<m i g O t H)else J i g O H else J none 0 0 j)):Cl 40 #[.P b 0,.U n] h R:=aR [(7,.join [(5,.one (.slice))]),(11,.loop [(5,.one (.slice)),(17,.one (.int .i64))])] Tryz.func40 M
theorem fQ.find.walk{F:Nat}(i: ∃(I:Int->ai->Prop)(m:Int->ai->Nat),I 0 h/\∀(t:Int)(H:ai),I t H->if(decide (t<(S:Int)))then Bd t S/\aN f λA=>aI.LD H (A.add (toNat t*4)) λj k p n l q=>Cl 84 #[.agg #[.I j,.I k,.L p n l,.U q],.P F 0] H λv g=> ∃T,v=.B T/\if T then R (.I t) g else(I (wrap .i64 (t+1)) g/\m (wrap .i64 (t+1)) g<m t H)else R (.I (-1)) H):Cl 83 #[.L f S s,.func (.func 84) #[] #[.P F 0]] h R:=aR [(6,.loop [(8,.one (.int .i64))])] Tryz.func83 i
theorem jP.walk{p:ct}{j L:Nat} (K: ∃(I:Int->Int->ai->Prop)(M:Int->Int->ai->Nat),I 0 0 h/\∀(i:Int)(t:Int)(H:ai),I i t H->if(decide (t<(j:Int)))then aG (λ(A:Int) (w:ai)=>(I A (wrap .i64 (t+1)) w/\M A (wrap .i64 (t+1)) w<M i t H)) (λJ=>Bd t j/\aN p λD=>oL H (D.add (toNat t*1)) λ_ B _=>aG (λ(F:ai)=>J (wrap .i64 (i+(B:Int))) F) (λC=>if(decide ((wrap .i64 (i+(B:Int)))<0))then False else C H))else Cl 131 #[.Z,.I i] H λv G=>Vl v λQ P O=> ∃(m:ct->Nat->Nat->Int->ai->Prop)(z:ct->Nat->Nat->Int->ai->Nat),m Q P O 0 G/\∀(l:ct)(k n:Nat)(T:Int)(g:ai),m l k n T g->if(decide (T<(j:Int)))then Bd T j/\aN p λE=>oL g (E.add (toNat T*1)) λZ V U=>ba Tryz.prog (Builtin.append_ #[99,99] 99 #[.L l k n,.L Z V U]) g λa' y=> ∃u r q,a'=.L u r q/\(m u r q (wrap .i64 (T+1)) y/\z u r q (wrap .i64 (T+1)) y<z l k n T g)else R (.L l k n) g):Cl 82 #[.L p j L] h R:=aR [(8,.loop [(3,.one (.int .i64)),(11,.one (.int .i64))]),(16,.join [(3,.one (.int .i64))]),(23,.join []),(33,.loop [(6,.one (.slice)),(27,.one (.int .i64))])] Tryz.func82 K
theorem jW.walk{n:Int} (k:aG (λ(H:ai)=>aG (λ(p:ct) (m l:Nat) (g:ai)=>R (.L p m l) g) (λj=>if(decide ((wrap .i64 (n - (wrap .i64 ((s:Int) - (S:Int)))))>0))then((0:Int)<=(s:Int)/\(s:Int)<=(s:Int))/\ba Tryz.prog (Builtin.append_ #[99,3] 99 #[.L (cY f s 0 4) ((toNat (s:Int)) - 0) (s - 0),.I (wrap .i64 (n - (wrap .i64 ((s:Int) - (S:Int)))))]) H λv i=>Vl v λT _ t=>((0:Int)<=(S:Int)/\(S:Int)<=(t:Int))/\j (cY T t 0 4) ((toNat (S:Int)) - 0) (t - 0) i else j f S s H)) (λJ=>if(decide (n<0))then False else J h)):Cl 131 #[.L f S s,.I n] h R:=aR [(5,.join []),(13,.join [(0,.one (.slice))])] Tryz.func131 k

end
end Go.Proofs.YtkdgpmeojgokdaaGreatDoor
