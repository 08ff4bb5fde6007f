/-
  Fu is proved here: parts of xQ proof, one behind xQ other (texts of this work, merged by a program; HU xQ theorem HV not use is left out). No condition.
-/
import Derived.Test.YtkdgpmeojgokdaaGreatDoorMJustc
set_option maxRecDepth 100000
set_option maxHeartbeats 4000000
namespace Go.Proofs.YtkdgpmeojgokdaaGreatDoor
open Go.Den
open IntKind (wrap)
open Int (toNat)
section
namespace Bn
open Cb
open jG (Ev dt lC)
variable {V:cG→Bool} {h a H:ai} {R:fO} {D:Nat→Prop} {t:List Tr} {y:List CV} {q:ct} {l c:Nat}
theorem Kl{i:Nat}(U:kr V a)(d':Fr No a h)(L:mC h D q l c y)(v:dB h D t y)(hr:dJ t<=800000)(hi:i<100)(k1: ∀T,oq V t i=.ok T->∀H z,tW H (λb=>h.size<=b) T z->Fr No h H->R (.T #[z.agg,.I 0]) H)(k2: ∀e,oq V t i=.error e->hH h R (.T #[zv.agg,.I e])):Cl 206 #[.L q l c,.I (i:Int)] h R:=by
 have ln:=v.len;have el:=L.len;have l9:=ia t;refine D9.walk (aa.cW λa' K eb M F=>aG.of λy' hJ=> ?_);have zb:=aA M;have no: ∀g e,Fr No K g->oq V t i=.error e->aa.du g (AA a' 0) .z λG=>aa.cC G (AA a' 0) λt'=>R (.T #[t'.agg,.I e]) G:=λg e A s=>
  Ee (A.get M id) λG f=>k2 e s G ((F.tt A).fresh f (λb e=>ag))
 rw[dy];have d:oq V t i=oq V t i:=rfl;conv at d=>rhs;unfold oq
 by_cases g':i<t.length
 case neg=>
  rw[av ag];rw[ae g']at d;subst hJ;dsimp only;rw[af rfl];exact no K 1 (Fr.refl _ _) d
 rw[af g']at d;rw[aC ag];subst hJ;dsimp only;rw[ae (show¬false=true by decide)];refine C4 (L.frame F bX) (v.on F) ag hi λh4 m=>⟨_,rfl,aG.of λJ1 e'=>AI U (d'.tt (F.tt m)) (L.frame (F.tt m) bX) (v.on (F.tt m)) ag λn x=>⟨_,rfl,?_⟩⟩
 have G':=C6 t i;have I:=F.tt (m.tt x);have c': ¬(t.all (im V)=true/\0<=typeAt t i)->J1 true n:=λhn=>by
  subst e';dsimp only;rw[af rfl];exact no n 3 (m.tt x) (by rw[d,ae hn])
 cases ha:t.all (im V)with
 |false=>rw[gi];exact c' (λe=>by rw[ha]at e;cases e.1)
 |true=>
 rw[dy];by_cases ht:0<=typeAt t i
 case neg=>rw[av ag];exact c' (λe=>ht e.2)
 rw[aC ag];clear c';rw[af ⟨ha,ht⟩]at d;subst e';dsimp only;rw[ae (show¬false=true by decide)];refine km (L.frame I bX) (v.on I) ag λh7 z tz r=>aa.ex z.s ⟨rfl,aa.fK (x:=z.s) λB C A' O k=>aG.of λJ2 p'=> ?_⟩
 have z1:=F.1;have z4:=m.1;have J':=x.1;have z5:=I.1;have z7:=r.1;have z9:=k.1;have K':=aA O;have u:=I.tt (r.tt k);have done: ∀g (w:CV) T,tW g (λb=>n.size<=b/\b≠B) T w->room T<=900000->aa.fD g B w.s->Fr (λb=>n.size<=b) C g->(oq V t i=if im V T=true then .ok T else .error 3)->J2 g:=by
  intro g w T E rt hw A s;subst p';try dsimp only
  have S:Fr No h g:=u.fresh A (λb e=>ag);have f': ∀{g2},Fr No g g2->aa.fD g2 a' .z:=λf=>f.get (A.get ((m.tt (x.tt (r.tt k))).get M id) ag) id
  refine aa.fz hw (fM U (d'.tt S) E.u ag λB' o=>⟨_,rfl,?_⟩);cases P:im V T with
  |false=>
   rw[gi];rw[P]at s;exact Ee (f' o) λG f=>k2 3 s G ((S.tt o).fresh f (λb e=>ag))
  |true=>
   rw[dy];rw[P,af rfl]at s;refine aa.fz (o.get hw id) (fin (f' o) (E.frame o bX) (λb j e=>bW F.1) λn' v' m'=>k1 T s n' w (v'.mono λb j=>ag) ((S.tt o).fresh m' (λb e=>ag)))
 have Q:tW C (λb=>n.size<=b/\b≠B) (sS t) z:=by
  obtain⟨⟨a1,a2,a3,a4⟩,Z,a5,a6,a7,a8⟩:=tz;refine⟨⟨a1,a2,a3,((Gn a4).mono λb j=>ag).frame k bX⟩,Z,a5,a6.frame k bX,λb j=>⟨a7 b j,bW (a6.dI j)⟩,(dB.mono (λb j=>by have K:=j.1.1;have h2:=j.2;exact⟨⟨K,ag⟩,j.1.2⟩) a8.lt).on k⟩
 by_cases hp:0<typeAt t i
 case neg=>
  rw[dy];rw[ae hp]at d;exact done C z (sS t) Q (by simp only[room,bG];omega) O (Fr.refl _ _) d
 rw[af (av hp)];rw[af hp]at d;obtain⟨F',r'⟩:=eI ht;rw[r']at d⊢;rw[aH]at d;refine GL U (d'.tt u) (L.frame u bX) (v.on u) ag ag ag (λbs hs o' E' z' u' lb nb p=>⟨_,_,_,_,rfl,?_⟩) (λhs o' p=>⟨_,_,_,_,rfl,?_⟩)
 .rw[dy];rw[hs]at d;refine⟨_,_,_,au (p.get O id),oY u' rfl ag λC' w' ev ov b'=>aa.ex (CV.s ⟨2,0,w',none,0,0⟩) ⟨rfl,b'.kp,?_⟩⟩;have i':=p.tt b';have g0:Fr (λb=>b=B) n C:=(r.tt k).mono λ_ _=>False.elim
  obtain⟨Z,ez,Lz⟩:=OC (g0:=n) Q O g0;have l':z.s.Fq=Z.length:=ez.symm;have zl:Z.length=t.length:=by have:=Lz.tr.len;exact this.symm
  have q9: ∀b,aP z.q b->b<C.size:=λb j=>Lz.own.dI j
  have H':=p.1;have I':=b'.1;have j':=Lz.on i';rw[l'];obtain⟨zk,zn,h',_⟩:=Q.1;refine OE j' ag (gP.mono (λb j=>⟨ag,λP=>bW (q9 b P)⟩) (CZ ov)) λG x' q' k' X hl D' ho=> ?_
  have s':z.v.ok G (λb=>n.size<=b/\b≠B):=by
   have J:z.v.b= []:=h';exact⟨by rw[J];exact Row.nil,λe=>absurd J e,Q.1.2.2.2.cap⟩
  have E:=OD (k':=z.n) X s';have ek:z.k=4:=zk;have en:z.n=0:=zn;have J:z.v.b= []:=h';rw[ek,en,J,ev]at E;have lr:=iS (a:=t) (b:= [qH bs]);simp only[dJ,room]at lr;refine done G ⟨z.k,z.n,z.v,q',x'.length,k'⟩ (sS (t++ [qH bs])) (by rw[ek,en];exact E) (by simp only[room,bG];omega) X.di ?_ d;refine⟨ag,λb j hn=> ?_⟩;rw[X.fr.2 b ag ag,(r.tt k).2 b ag id]
 .rw[gi];rw[hs]at d;exact Ee (p.get ((m.tt (x.tt (r.tt k))).get M id) id) λG f=>k2 3 d G ((u.tt p).fresh f (λb e=>bW F.1))
theorem zu{i : Nat}{T : Tr}{x : CV}(U : kr V a)(g' : Fr No a h)(tx : Ed h T x)(Z : room T ≤ 800000)(hi : i < 100)(k1 : ∀ u, qk V T i = .ok u → dJ u ≤ dJ T.l → ∀ H p z c, mC H (λf => h.size ≤ f) p z.length c z → dB H (λf => h.size ≤ f) u z → Fr No h H → R (.tuple #[.slice p z.length c, .int .i64 0]) H)(K : ∀ e, qk V T i = .error e → e ≠ 0 → ∀ H, Fr No h H → R (.tuple #[.slice none 0 0, .int .i64 e]) H): Cl 159 #[x.agg, .int .i64 (i : Int)] h R := by
  obtain ⟨xk, xn, xb, xl, xv, y, L, o⟩ := gP.kn tx
  have rl := kY (t := T)
  have ln := o.len
  have el := L.len
  have l9 := ia T.l
  have e4 : x.s.f0 = T.k := xk
  have l' : x.s.Fq = T.l.length := xl
  refine Ea.walk (x := x.s) (aa.cW λt' h1 eb hb O => aG.of λj' hJ => aa.fz hb (fM U (g'.tt O) (tx.on O) (by omega) λh3 f3 => ⟨_, rfl, ?_⟩))
  have A := O.tt f3
  have X := f3.get hb id
  have b : qk V T i = qk V T i := rfl
  conv at b => rhs; unfold qk
  have bad : ¬ (im V T = true ∧ T.k = 4 ∧ 0 ≤ typeAt T.l i) → ∀ g, Fr No h g → R (.tuple #[.slice none 0 0, .int .i64 3]) g := λm g F => K 3 (by rw [b, if_neg m]) (by decide) g F
  have M : ¬ (im V T = true ∧ T.k = 4 ∧ 0 ≤ typeAt T.l i) → j' true h3 := λm => by
    subst hJ
    dsimp only
    rw [if_pos rfl]
    exact bad m h3 A
  cases hR : im V T with
  | false => exact M (λe => by rw [hR] at e; cases e.1)
  | true =>
  rw [if_neg (show ¬ (!true) = true by decide)]
  refine ⟨_, cB X rfl, ?_⟩
  rw [e4]
  by_cases I : T.k = 4
  case neg => rw [show (T.k != 4) = true by simpa using I]; exact M (λe => I e.2.1)
  rw [show (T.k != 4) = false by simpa using I]
  clear M
  subst hJ
  dsimp only
  rw [if_neg (show ¬ false = true by decide)]
  refine ⟨_, _, _, cB X rfl, C4 (L.frame A (λ_ _ => id)) (o.on A) (by omega) hi λh4 f4 => ⟨_, rfl, ?_⟩⟩
  have k := A.tt f4
  have w := f4.get X id
  by_cases ht : 0 ≤ typeAt T.l i
  case neg => rw [if_pos (decide_eq_true (by omega))]; exact bad (λe => ht e.2.2) h4 k
  rw [if_neg (by simp only [decide_eq_true_eq]; omega)]
  rw [if_pos ⟨hR, I, ht⟩] at b
  clear bad
  have f' : ∀{g}(u : List Tr)(z : List CV){n c : Nat}{p : Option Addr}, mC g (λ_ => True) p n c z → B7 g u z → dJ u ≤ dJ T.l → Fr No h g → qk V T i = .ok u → Cl 162 #[.slice p n c] g λs' p' => aa.EX λJ => s' = J.agg ∧ R (.tuple #[.slice J.Sv J.Fq J.Qf, .int .i64 0]) p' := by
    intro g u z n c p Lz Tz rz F hu
    refine km Lz Tz (by omega) λo' a' tz m' => aa.ex a'.s ⟨rfl, ?_⟩
    obtain ⟨_, ws, a5, a6, a7, a8⟩ := tz
    have zg := F.1
    have := k1 u hu rz o' a'.q ws a'.cl ⟨rfl, a6.iz, λ_ f hy => by have := a7 f hy; omega, a6.le⟩ (dB.mono (λf hy => by have := hy.1; omega) a8) (F.tt m')
    rw [← a5] at this
    exact this
  by_cases a : typeAt T.l i = 0
  · rw [if_pos (by rw [a]; rfl)]
    rw [if_pos a] at b
    exact ⟨_, _, _, cB w rfl, f' T.l y (L.frame k (λ_ _ => id)) (o.on k) (Nat.le_refl _) k b⟩
  rw [if_neg (by simpa using a)]
  rw [if_neg a] at b
  have x' : i < T.l.length := by
    rcases Nat.lt_or_ge i T.l.length with hq | hq
    · exact hq
    · have : typeAt T.l i = -1 := by unfold typeAt; rw [if_neg (λe => by omega)]
      omega
  have C' := C6 T.l i
  obtain ⟨s, q'⟩ := Int.eq_ofNat_of_zero_le ht
  rw [q'] at b ⊢
  rw [Int.toNat_natCast] at b
  have e' : 1 ≤ s ∧ s ≤ 2 := by omega
  obtain ⟨n, m⟩ : ∃ n, T.l.length = n + 1 := ⟨T.l.length - 1, by omega⟩
  rw [show T.l.length - 1 = n by omega] at b
  have ew : IntKind.wrap .i64 (((x.s.Fq : Nat) : Int) - 1) = (n : Int) := by rw [l', m, bJ (by omega) (by omega)]; omega
  refine ⟨_, _, _, cB w rfl, ?_⟩
  rw [ew]
  obtain ⟨k', f, ea, hh, ty, _⟩ := elem (L.frame k (λ_ _ => id)) (o.on k) (i := n) (by omega)
  have rn := jc (ts := T.l) (i := n) (by omega)
  obtain ⟨yk, yn, yb, yl, yv, _⟩ := gP.kn ty
  generalize y' : at_ T.l n = d at ty rn yk yn yb yl b
  have B' := kY (t := d)
  refine ⟨_, _, _, cB w rfl, ⟨by omega, by omega⟩, bT.2 ⟨k', ea, aa.jQ (x := f.s) (by rw [Int.toNat_natCast]; exact hh) (aa.fK (x := f.s) λb1 S v' E v => aG.of λJ1 d' => ?_)⟩⟩
  have F6 := k.tt v
  have lb : f.s.UM = d.b.length := by show f.v.b.length = _; rw [yb]
  have bad : ∀ g, Fr No S g → ¬ (i < n ∧ oM d (qH d.b) = true ∧ d.b.length = 2 * s) → J1 true g := λg F m => by
    subst d'
    try dsimp only
    rw [if_pos rfl]
    exact K 3 (by rw [b, if_neg m]) (by decide) g (F6.tt F)
  by_cases c1 : i < n
  case neg => rw [if_pos (decide_eq_true (by omega))]; exact bad S (Fr.refl _ _) (λe => c1 e.1)
  rw [if_neg (by simp only [decide_eq_true_eq]; omega)]
  have i' : ∀{g}, Fr No S g → Row g f.v.p (bc d.b) := λF => by rw [← yb]; exact ((yv.frame v (λ_ _ => id)).frame F (λ_ _ => id)).row
  refine aa.fz E ⟨_, _, _, cB E rfl, oY (i' (Fr.refl _ _)) lb (by omega) λw' h' ev ov P => aa.ex (CV.s ⟨2, 0, h', none, 0, 0⟩) ⟨rfl, P.kp, ?_⟩⟩
  refine jw (x := f) (y := ⟨2, 0, h', none, 0, 0⟩) (s := qH d.b) (ty.on (v.tt P)) (ev ▸ CZ ov) (by omega) λc' n' => ⟨_, rfl, ?_⟩
  have j := P.tt n'
  cases c2 : oM d (qH d.b) with
  | false => rw [if_pos (by decide)]; exact bad c' j (λe => by rw [c2] at e; cases e.2.1)
  | true =>
  rw [if_neg (show ¬ (!true) = true by decide)]
  refine ⟨_, _, _, cB (j.get E id) rfl, qm.walk ⟨_, rfl, (Fr.refl _ _).kp, ?_⟩⟩
  rw [lb, bJ (n := 2 * (s : Int)) (by omega) (by omega)]
  by_cases c3 : d.b.length = 2 * s
  case neg => rw [show (((d.b.length : Nat) : Int) != 2 * (s : Int)) = true by simp only [bne_iff_ne, ne_eq]; omega]; exact bad c' j (λe => c3 e.2.2)
  rw [show (((d.b.length : Nat) : Int) != 2 * (s : Int)) = false by simp only [bne_eq_false_iff_eq]; omega]
  clear bad
  rw [if_pos ⟨c1, c2, c3⟩] at b
  subst d'
  try dsimp only
  rw [if_neg (show ¬ false = true by decide)]
  have G := F6.tt j
  have b' : ∀{g}, Fr No h g → mC g (λ_ => True) (cQ x.s.Sv x.s.Qf 0 4) ((Int.toNat (n : Int)) - 0) (x.s.Qf - 0) (y.take n) := fun {g} F => by
    have Z := (L.frame F (λ_ _ => id)).row.sub (cap := x.cl) (l := 0) (u := n) (sz := 4) (Nat.zero_le _) (by have := L.cap; omega)
    rw [kH iP 4 gU, Nat.zero_mul, List.drop_zero] at Z
    have hc : x.ll ≤ x.cl := L.cap
    exact ⟨by rw [List.length_take]; omega, Z, λ_ _ _ => trivial, by show n - 0 ≤ x.cl - 0; omega⟩
  have cc : n ≤ x.s.Qf := by have hc : x.ll ≤ x.cl := L.cap; show n ≤ x.cl; omega
  have rt : dJ (T.l.take n) ≤ dJ T.l := oG _ _
  refine ⟨_, _, _, cB ((v.tt j).get w id) rfl, ⟨by omega, by omega⟩, GL U (g'.tt G) (b' G) ((o.on G).take n) (by omega) e'.1 e'.2 (λbs hs Q A' u' r' z' nb r => ⟨_, _, _, _, rfl, ?_⟩) (λhs Q r => ⟨_, _, _, _, rfl, ?_⟩)⟩
  · rw [if_neg (by decide)]
    rw [hs] at b
    dsimp only at b
    refine ⟨_, _, _, cB ((j.tt r).get E id) rfl, kx r' (i' (j.tt r)) rfl lb ⟨_, rfl, ?_⟩⟩
    have B := G.tt r
    by_cases C : bs = d.b
    · rw [decide_eq_true C, if_neg (show ¬ (!true) = true by decide)]
      rw [if_pos C] at b
      exact ⟨_, _, _, cB (((v.tt j).tt r).get w id) rfl, ⟨by omega, by omega⟩, f' (T.l.take n) (y.take n) (b' B) ((o.on B).take n) rt B b⟩
    · rw [decide_eq_false C, if_pos (show (!false) = true by decide)]
      rw [if_neg C] at b
      exact K 10 b (by decide) Q B
  · rw [if_pos (by decide)]
    rw [hs] at b
    exact K 3 b (by decide) Q (G.tt r)

end Bn
end
section
namespace Bn
open Cb
open jG (Ev dt lC)
variable {V:cG→Bool} {h a H:ai} {R:fO}
variable {T:List Tr} {i:Nat} {t:Tr} {e:Int}
abbrev Prim.s(p:Prim):aE.S:=⟨p.fl,p.sum,p.dest.lE,p.dest.node,p.dest.gL,p.dest.host,p.dest.jZ,p.rep.lE,p.rep.node,p.rep.gL,p.rep.host,p.rep.jZ,p.id.e.lE,p.id.e.node,p.id.e.gL,p.id.e.host,p.id.e.jZ,p.id.tm,p.id.sq,p.fT⟩
def Prim.wf(p:Prim):Prop:=0<=p.dest.gL/\0<=p.rep.gL/\0<=p.id.e.gL
variable {p:Prim}
theorem TZ{b:Nat}{y:aE.S}(x:Prim){K:aE.S->ai->Prop}(c:aE.fD h b y)(j: ∀H,Fr (λy=>y=b) h H->K x.s H):
  aE.du h (AA b 0) x.s λg=>aE.cC g (AA b 0) λr=>K r g:=
 aE.gX (x:=x.s) c λg d f _=>aE.fz d (j g f)
theorem LQ(p:Prim)(x: hH h R (.B (jv p))):Cl 204 #[p.s.agg] h R:=by
 refine B1.walk (aE.cW λb m E c f=>⟨_,au c,?_⟩);have n: ∀g,Fr No h g->jv p=false->R (.B false) g:=λg y e=>by have:=x g y;rw[e]at this;exact this
 change if Tu (p.fl:Int) 409638=true then _ else _
 by_cases C:Tu (p.fl:Int) 409638=true
 case neg=>rw[ae C];exact n m f (by unfold jv;simp[C])
 rw[af C];refine⟨_,au c,?_⟩;by_cases d:0<=p.sum
 case neg=>rw[ae (by simp only[aY];exact d)];exact n m f (by unfold jv;simp[d])
 rw[af (av d)];refine⟨_,au c,?_⟩;by_cases j:p.sum<=2
 case neg=>rw[ae (by simp only[aY];exact j)];exact n m f (by unfold jv;simp[j])
 rw[af (av j)];refine iT p.dest c rfl rfl rfl rfl rfl (jG.fM p.dest λz k=>⟨_,rfl,?_⟩);cases o:dt p.dest with
 |false=>exact n z (f.tt k) (by unfold jv;simp[o])
 |true=>
 rw[af rfl];have v:=k.get c id;refine iT p.rep v rfl rfl rfl rfl rfl (jG.fM p.rep λA s=>⟨_,rfl,?_⟩);have F:=f.tt (k.tt s);cases q:dt p.rep with
 |false=>exact n A F (by unfold jv;simp[q])
 |true=>
 rw[af rfl];have w:=s.get v id;refine AE p.id w rfl rfl rfl rfl rfl rfl rfl (sI p.id λu l=>⟨_,rfl,?_⟩);cases r:hU p.id with
 |false=>exact n u (F.tt l) (by unfold jv;simp[r])
 |true=>
 rw[af rfl];refine⟨_,au (l.get w id),?_⟩;have:=x u (F.tt l);unfold jv at this;rw[C,av d,av j,o,q,r]at this;rw[show decide ((p.s.f19:Int)<=1099511627776)=decide (p.fT<=1099511627776)from kZ p.fT 1099511627776];exact this
theorem C7(h:jv p=true):0<=p.sum/\p.sum<=2/\dt p.dest=true/\dt p.rep=true/\hU p.id=true/\p.fT<=1099511627776:=by
 unfold jv at h;simp only[aW,aY]at h;exact⟨h.1.1.1.1.1.2,h.1.1.1.1.2,h.1.1.1.2,h.1.1.2,h.1.2,h.2⟩
theorem AJ(h:jv p=true):dJ (Gi p)<=1000:=by
 obtain⟨_,_,A,b,c,_⟩:=C7 h;have:=mZ _ A;have:=mZ _ b;have:=mZ _ (AF c).1;simp only[Gi,dJ,room,bG];omega
theorem AK(h:oq V T i=.ok t):room t<=dJ T+30:=by
 unfold oq at h;split at h
 .split at h
  .split at h
   .split at h
    .cases h
    .rename_i b c;split at h
     .cases h;have:b.length<=4:=by
       unfold sumOf at c;split at c
       .cases c;split<;>simp[D5,Kg]
       .cases c
      simp only[room,iS,dJ,bG];omega
     .cases h
   .split at h
    .cases h;simp only[room,bG];omega
    .cases h
  .cases h
 .cases h
theorem AL(h:ot V p=.ok t):room t<=1100:=by
 unfold ot at h;split at h
 .rename_i b;have:=AK h;have:=AJ b;omega
 .cases h
theorem OF(p:Prim)(w:p.wf)(U:kr V a)(p':Fr No a h)(x: ∀t,ot V p=.ok t->∀H z,tW H (λy=>h.size<=y) t z->Fr No h H->R (.T #[z.agg,.I 0]) H)(K: ∀e,ot V p=.error e->hH h R (.T #[zv.agg,.I e])):Cl 163 #[p.s.agg] h R:=by
 refine B4.walk (aE.cW λq' h1 eb hb M=>aa.cW λb1 h2 r' a' n=>aE.fz (x:=p.s) (n.get hb id) (LQ p λh3 j=>⟨_,rfl,?_⟩));have k:=(n.tt j).get hb id;have u:=j.get a' id;have d:=M.tt (n.tt j);have z1:=M.1;have F':=aA a';have z3:=j.1;unfold ot at x K;cases l:jv p with
 |false=>exact Ee u λh4 f4=>K 3 (by rw[l,dy]) h4 (d.fresh f4 (λy e=>ag))
 |true=>
 rw[dy];rw[l,af rfl]at x K;obtain⟨s0,s2,eD,eR,J,_⟩:=C7 l;have hE:=(AF J).1;refine iT p.dest k rfl rfl rfl rfl rfl (xa p.dest w.1 (λ_ h5 Z td f5=>aa.ex Z.s ⟨_,rfl,aa.fK (x:=Z.s) λb2 h7 s' g' f7=> ?_⟩) (λe=>by rw[eD]at e;cases e));have E:=f5.tt f7;refine iT p.rep (E.get k id) rfl rfl rfl rfl rfl (xa p.rep w.2.1 (λ_ h8 m tr q=>aa.ex m.s ⟨_,rfl,aa.fK (x:=m.s) λb3 w' t' i' g=> ?_⟩) (λe=>by rw[eR]at e;cases e));have C:=E.tt (q.tt g);refine AE p.id (C.get k id) rfl rfl rfl rfl rfl rfl rfl (C2 p.id w.2.2 (λ_ x' B ti b=>aa.ex B.s ⟨_,rfl,aa.fK (x:=B.s) λb4 y' u' b' f=> ?_⟩) (λe=>by rw[J]at e;cases e));have D:=C.tt (b.tt f);have v:=D.get k id;have h':=(q.tt (g.tt (b.tt f))).get g' id;have j':=(b.tt f).get i' id;obtain⟨ik,D',ib,il,iv,ys,L,I⟩:=gP.kn (ti.u.on f);have lI:(Od p.id).l.length=2:=rfl;have li:B.s.Fq=2:=il;obtain⟨a0,y0,c',k',n',_⟩:=elem L I (i:=0) ag;obtain⟨a1,A,d',l',o',_⟩:=elem L I (i:=1) ag;refine⟨_,au v,_,au v,aa.fz h' ⟨_,_,_,au b',ag,bT.2 ⟨a0,c',aa.jQ (x:=y0.s) k' (aa.fz j' ⟨_,_,_,au b',ag,bT.2 ⟨a1,d',aa.jQ (x:=A.s) l' ⟨_,au v,?_⟩⟩⟩)⟩⟩⟩;obtain⟨s,hs⟩:=eI s0;have es:p.sum.toNat=s:=ag
 refine gC (n:=7) λz' O=>aa.ex (nv 7).s ⟨rfl,O.kp,gC (n:=p.fl) λA' P=>aa.ex (nv p.fl).s ⟨rfl,P.kp,?_⟩⟩
 rw[show p.s.f1=(s:Int)from hs,wrap_u64 (n:=(s:Int)) ag ag];refine gC (n:=s) λB' Q=>aa.ex (nv s).s ⟨rfl,Q.kp,gC (n:=p.fT) λC' S=>aa.ex (nv p.fT).s ⟨rfl,S.kp,pc (ys:= [nv 7,nv p.fl,nv s,Z,y0,m,A,nv p.fT]) rfl λb5 e' v' L5 X=>⟨X.kp,?_⟩⟩⟩
 have G:=O.tt (P.tt (Q.tt (S.tt X)));have T5:B7 e' (Gi p) [nv 7,nv p.fl,nv s,Z,y0,m,A,nv p.fT]:=by
  unfold Gi;rw[es];exact .cons nA (.cons nA (.cons nA (.cons (td.u.on (f7.tt (q.tt (g.tt (b.tt (f.tt G)))))) (.cons (n'.on G) (.cons (tr.u.on (g.tt (b.tt (f.tt G)))) (.cons (o'.on G) (.cons nA .nil)))))))
 have F:=D.tt G;have rp:=AJ l;refine Kl (i:=2) U (p'.tt (d.tt F)) (L5 (λ_=>True) trivial) T5 ag ag (λt ht f' z tz c=>aa.ex z.s ⟨_,rfl,?_⟩) (λe he f' c=>aa.ex zv.s ⟨_,rfl,?_⟩)
 .have E':=F.1;exact fin ((F.tt c).get u id) tz (λy hy e=>ag) λr m' o=>x t ht r z (m'.mono λy hy=>ag) ((d.tt (F.tt c)).fresh o (λy e=>ag))
 .exact Ee ((F.tt c).get u id) λr o=>K e he r ((d.tt (F.tt c)).fresh o (λy e=>ag))
theorem C8(h:oq V T i=.error e):e≠0:=by
 unfold oq at h;split at h
 .split at h
  .split at h
   .split at h
    .rename_i b;cases h;unfold sumOf at b;split at b
     .cases b
     .cases b;decide
    .split at h
     .cases h
     .cases h;decide
   .split at h
    .cases h
    .cases h;decide
  .cases h;decide
 .cases h;decide
theorem LR(h:ot V p=.error e):e≠0:=by
 unfold ot at h;split at h
 .exact C8 h
 .cases h;decide
theorem OG(p:Prim)(w:p.wf)(U:kr V a)(u:Fr No a h)(d: ∀H z q,(∀t,ot V p=.ok t->q=0/\Ed H t z)->(∀e,ot V p=.error e->q≠0)->Fr No h H->R (.T #[z.s.agg,.I q]) H):Cl 163 #[p.s.agg] h R:=
 OF p w U u (λt c H z g f=>d H z 0 (λj e=>by rw[c]at e;cases e;exact⟨rfl,g.u⟩) (λe b=>by rw[c]at b;cases b) f) (λe b H f=>d H zv e (λt c=>by rw[b]at c;cases c) (λ_ _=>LR b) f)
theorem OH{x:CV}(U:kr V a)(z':Fr No a h)(mx:nR.Mx h)(tx:Ed h t x)(hr:room t<=400000)(k1: ∀p,tV V t=.ok p->p.wf->hH h R (.T #[p.s.agg,.I 0]))(k2: ∀e,tV V t=.error e->e≠0->hH h R (.T #[Prim.zero.s.agg,.I e])):Cl 115 #[x.agg] h R:=by
 have rl:=kY (t:=t);refine Eb.walk (x:=x.s) (aa.cW λp' K eb hb f1=>aE.cW λb1 h2 f0 k' f2=>aa.fz (f2.get hb id) ?_);have n:=f1.tt f2;have c3:=f2.get hb id;have zb:=aA hb;have i4:=aA k';have z1:=f1.1;have z2:=f2.1;have no: ∀g e,Fr No h2 g->tV V t=.error e->e≠0->aE.du g (AA b1 0) .z λG=>aE.cC G (AA b1 0) λr=>R (.T #[r.agg,.I e]) G:=λg e j P hn=>
  TZ .zero (j.get k' id) λG j'=>k2 e P hn G ((n.tt j).fresh j' (λy e=>ag))
 have b:tV V t=tV V t:=rfl;conv at b=>rhs;unfold tV
 refine zu (i:=2) U (z'.tt n) (tx.on n) ag ag (λu c ru v p zs e9 L TS F=>⟨_,_,_,_,rfl,?_⟩) (λe P hn v F=>⟨_,_,_,_,rfl,?_⟩)
 case refine_2=>
  rw[af (cR hn)];exact no v e F (by rw[b,P]) hn
 rw[dy];rw[c]at b;dsimp only at b;have ln:=TS.len;have l9:=ia u;by_cases l8:u.length=8
 case neg=>
  rw[af (by simp only[dw,fj];omega)];exact no v 3 F (by rw[b,ae l8]) dS
 rw[ae (by simp only[dw,fj];omega)];rw[af l8]at b;have z3:=F.1;have I: ∀i,i<8->∃(A:Addr)(y:CV),p=some A/\dN (A.add (i*4)) y.s.l 0 v/\Ed v (at_ u i) y/\(∀{g},Fr No v g->aU g ((A.add (i*4)).add 1)=some (.U ((at_ u i).n:Int))):=λi hi=>by
  obtain⟨A,y,ea,hh,ty,_⟩:=elem L TS (i:=i) ag;obtain⟨_,yn,_⟩:=gP.kn ty;exact⟨A,y,ea,hh,ty.u,λj=>j.cell (by have:=hh.2.1;rw[<-yn];exact this) id⟩
 have g': ∀i,i<8->room (at_ u i)<=dJ u:=λi hi=>jc ag
 obtain⟨a3,y3,M',d4,e4,_⟩:=I 3 ag;have r3:=g' 3 ag;have r5:=g' 5 ag;have r4:=g' 4 ag;have r6:=g' 6 ag;have u2:=z'.tt n;have m2:=mx.on n;refine⟨ag,bT.2 ⟨a3,M',aa.jQ (x:=y3.s) d4 (Ei U (u2.tt F) (m2.on F) e4 ag λd qd ⟨d2,d3,wd⟩ h6 f6=>aw.ex d.s ⟨_,rfl,aw.fK (x:=d.s) λb2 h8 f5 c4 f8=> ?_⟩)⟩⟩;obtain⟨a5,y5,P',d6,e6,_⟩:=I 5 ag;have w:=f6.tt f8;refine⟨ag,bT.2 ⟨a5,P',aa.jQ (x:=y5.s) (mb w id d6) (Ei U (u2.tt (F.tt w)) (m2.on (F.tt w)) (e6.on w) ag λr qr ⟨e0,e1,wr⟩ h9 f9=>aw.ex r.s ⟨_,rfl,aw.fK (x:=r.s) λb3 x' f7 c6 r'=>aG.of λA' hJ=> ?_⟩)⟩⟩;obtain⟨a4,y4,O',d5,e5,_⟩:=I 4 ag;obtain⟨a6,y6,Q',d7,e7,_⟩:=I 6 ag;have m:=w.tt (f9.tt r');have c5:=(f9.tt r').get c4 id;have i':=u2.tt (F.tt m);have e':=m2.on (F.tt m);have h': ∀g l' (X:jm) (q:Int),ah.fD g l' X.s->Fr No x' g->IQ V (sS [at_ u 4,at_ u 6]) X q->A' (Sa l' 0) q g:=by
  intro g l' X q hs j ⟨d8,d9,wq⟩;have B:=m.tt j;obtain⟨D',w1,R',_,_,G'⟩:=I 1 ag;obtain⟨E',w2,S',_,_,H'⟩:=I 2 ag;obtain⟨F',w7,T',_,_,I'⟩:=I 7 ag;subst hJ;dsimp only;refine⟨ag,bT.2 ⟨D',R',_,G' B,ag,bT.2 ⟨E',S',_,H' B,aw.fz (j.get c5 id) (aw.fz (j.get c6 id) (ax.2 (ah.fz hs ⟨ag,bT.2 ⟨F',T',_,I' B,?_⟩⟩)))⟩⟩⟩;have n2:(at_ u 2).n<=2:=by
   have:0<=typeAt u 2:=by
    unfold qk at c;split at c
    .rename_i K;have key: ∀k,2<k->typeAt (t.l.take k) 2=typeAt t.l 2:=λk hk=>by
      unfold typeAt at_;rw[bh,bh,cZ,af hk,bA];exact ite_congr (propext (by constructor<;>(rintro⟨A,p'⟩;exact⟨ag,p'⟩))) (λ_=>rfl) (λ_=>rfl)
     split at c
     .cases c;exact K.2.2
     .split at c
      .rename_i h2;split at c
       .cases c
       .split at c
        .cases c;rw[key _ h2.1];exact K.2.2
        .cases c
      .cases c
    .cases c
   unfold typeAt at this;split at this
   .rename_i K;exact K.2.1
   .omega
  refine aE.cW λb4 g6 g0 c7 s'=>⟨s'.kp,?_⟩
  rw[bJ (n:=(((at_ u 2).n:Nat):Int)) ag ag];refine aE.gX (x:=(wW u d r X).s) c7 λa7 q' U' _=>aE.fz q' ?_
  have zg:=B.1;have m':Fr No h2 a7:=(F.tt (B.tt s')).fresh U' (λy e=>ag);refine OG (wW u d r X) ⟨wd,wr,wq⟩ U (u2.tt m') λg7 z qz e2 e3 V'=>aa.ex z.s ⟨_,rfl,aa.fK (x:=z.s) λb5 M g1 c8 t'=>aG.of λJ1 y'=> ?_⟩
  have n':=V'.tt t';have C:=m'.tt n';have bad: ∀g,Fr No M g->tV V t=.error 3->J1 true g:=λg j P=>by
   subst y';try dsimp only
   rw[af rfl];exact no g 3 (C.tt j) P dS
  by_cases Q:qd=0
  case neg=>rw[af (cR Q)];exact bad M (Fr.refl _ _) (by rw[b,d3 Q])
  rw[ae (cR Q)];by_cases S:qr=0
  case neg=>rw[af (cR S)];exact bad M (Fr.refl _ _) (by rw[b,e1 S];cases oV V (at_ u 3)<;>rfl)
  rw[ae (cR S)];by_cases Z:q=0
  case neg=>rw[af (cR Z)];exact bad M (Fr.refl _ _) (by rw[b,d9 Z];cases oV V (at_ u 3)<;>cases oV V (at_ u 5)<;>rfl)
  rw[ae (cR Z)];rw[d2 Q,e0 S,d8 Z]at b;dsimp only at b;cases O:ot V (wW u d r X)with
  |error e=>
   rw[O]at b;rw[af (cR (e3 e O))];exact bad M (Fr.refl _ _) b
  |ok o'=>
   rw[O]at b;dsimp only at b;obtain⟨rfl,l⟩:=e2 o' O;rw[dy];have ra:=AL O;refine aa.fz c8 (aa.fz (x:=x.s) (C.get c3 id) (jw (x:=z) (y:=x) (l.on t') (tx.on (n.tt C)) ag λa8 a'=>⟨_,rfl,?_⟩));cases hs:oM o' t with
   |false=>exact bad a8 a' (by rw[b,ae (by rw[hs];decide)])
   |true=>
    rw[hs,af rfl]at b;subst y';try dsimp only
    rw[dy];exact aE.fz ((n'.tt a').get q' id) (TZ (wW u d r X) ((C.tt a').get k' id) λG j'=>k1 _ b ⟨wd,wr,wq⟩ G ((n.tt (C.tt a')).fresh j' (λy e=>ag)))
 have rI:dJ [at_ u 4,at_ u 6]<=2*dJ u:=by simp only[dJ];omega
 have f':room (sS [at_ u 4,at_ u 6])<=900000:=by simp only[room,bG];omega
 refine⟨ag,bT.2 ⟨a4,O',aa.jQ (x:=y4.s) (mb m id d5) ⟨ag,bT.2 ⟨a6,Q',aa.jQ (x:=y6.s) (mb m id d7) ?_⟩⟩⟩⟩;have T2:B7 x' [at_ u 4,at_ u 6] [y4,y6]:=two (e5.on m) (e7.on m);refine⟨pc (ys:= [y4,y6]) rfl λb6 g8 g2 L6 f=>⟨?_,?_,trivial⟩,ah.cW λC' i0 f3 c2 E=>⟨E.kp,pc (ys:= [y4,y6]) rfl λe8 i1 f4 B' J=> ?_⟩,trivial⟩
 .refine km (L6 (λ_=>True) trivial) (T2.on f) ag λg9 z l o=>aa.ex z.s ⟨rfl,?_,?_,trivial⟩
  .exact Ej U (i'.tt (f.tt o)) (e'.on (f.tt o)) l.u f' λX q s h0 X'=>ah.ex X.s ⟨_,rfl,ah.fK (x:=X.s) λb7 a9 g3 c9 Z'=>h' a9 b7 X q c9 (f.tt (o.tt (X'.tt Z'))) s⟩
  .refine ah.cW λb8 h1 g4 d0 b'=>Ej U (i'.tt (f.tt (o.tt b'))) (e'.on (f.tt (o.tt b'))) (l.u.on b') f' λX q s h3 u'=>ah.ex X.s ⟨_,rfl,ah.gX (x:=X.s) (u'.get d0 id) λb0 J' a0 _=>h' b0 b8 X q J' ?_ s⟩
   exact(f.tt (o.tt (b'.tt u'))).fresh a0 (λy e=>iJ f.1 o.1)
 .refine ah.cW λb9 h4 g5 d1 D=>km ((L6 (λ_=>True) trivial).frame D bX) (T2.on (f.tt D)) ag λh5 z l c'=>aa.ex z.s ⟨rfl,Ej U (i'.tt (f.tt (D.tt c'))) (e'.on (f.tt (D.tt c'))) l.u f' λX q s h7 v'=>ah.ex X.s ⟨_,rfl,ah.gX (x:=X.s) ((c'.tt v').get d1 id) λc0 K' a1 _=>h' c0 b9 X q K' ?_ s⟩⟩
  exact(f.tt (D.tt (c'.tt v'))).fresh a1 (λy e=>bW f.1)
 .refine km (B' (λ_=>True) trivial) (T2.on (E.tt J)) ag λi2 z l d'=>aa.ex z.s ⟨rfl,Ej U (i'.tt (E.tt (J.tt d'))) (e'.on (E.tt (J.tt d'))) l.u f' λX q s i3 w'=>ah.ex X.s ⟨_,rfl,ah.gX (x:=X.s) ((J.tt (d'.tt w')).get c2 id) λc1 L' a2 _=>h' c1 C' X q L' ?_ s⟩⟩
  exact(E.tt (J.tt (d'.tt w'))).fresh a2 (λy e=>ag)

end Bn
end
section
variable {h:ai} {R:fO}
variable {a L:ct} {d D l c:Nat} {b:ay.S}
theorem IU.walk(o:aa.NW h λb k=>Cl 114 #[.L a d D,.I 0] k λv m=>aa.EX λi=> ∃q j,v=.T #[i.agg,.I q,.I j]/\aa.NW m λB n=>aa.du n (AA B 0) i λH=>aa.cC H (AA B 0) λt=>if(j==0)then Cl 279 #[.L a d D] H λV e=> ∃T,V=.B T/\Kp H e [(Sa B 0)]/\aa.du e (AA b 0) t λf=>aa.cC f (AA b 0) λr=>R (.T #[r.agg,.B T]) f else aa.du H (AA b 0) t λg=>aa.cC g (AA b 0) λp=>R (.T #[p.agg,.B false]) g):Cl 258 #[.L a d D] h R:=aS [(5,λ_=>pK 9)] Tryz.func258 o
theorem AM.walk(s:aw.NW h λb n=>Cl 258 #[.L a d D] n λv o=>aa.EX λt=> ∃T,v=.T #[t.agg,.B T]/\aa.NW o λB p=>aa.du p (AA B 0) t λf=>aa.cC f (AA B 0) λx=>Cl 160 #[x.agg] f λV q=>aw.EX λj=> ∃k,V=.T #[j.agg,.I k]/\aw.NW q λe r=>aw.du r (AA e 0) j λH=>aw.cC H (AA e 0) λm=>if T then aw.du H (AA b 0) m λg=>aw.cC g (AA b 0) λu=>R (.T #[u.agg,.B (k==0)]) g else aw.du H (AA b 0) m λi=>aw.cC i (AA b 0) λw=>R (.T #[w.agg,.B false]) i):Cl 244 #[.L a d D] h R:=aS [] Tryz.func244 s
theorem LS.walk(o:Cl 258 #[.L a d D] h λv m=>aa.EX λj=> ∃k,v=.T #[j.agg,.B k]/\aa.NW m λb n=>aa.du n (AA b 0) j λH=> ∃t,Cc H b 1 (.U t)/\if k then aa.cC H (AA b 0) λp=>Hu H b 1 λq=>Cl 199 #[.U q] H λV f=>aa.EX λT=>V=T.agg/\Kp H f [(Sa b 0),(Sa b 1)]/\Cl 164 #[p.agg,T.agg] f λr e=> ∃g,r=.B g/\Kp f e [(Sa b 1)]/\if g then∃i,Cc e b 1 (.U i)/\R (.T #[.U t,.B (decide (i<=1099511627776))]) e else R (.T #[.U t,.B false]) e else R (.T #[.U t,.B false]) H):Cl 241 #[.L a d D] h R:=aS [(5,λ_=>pK 17)] Tryz.func241 o
theorem IW.walk(u:Cl 258 #[.L a d D] h λv r=>aa.EX λj=> ∃k,v=.T #[j.agg,.B k]/\aa.NW r λb s=>aa.du s (AA b 0) j λe=>aG (λ(y:Bool) (H:ai)=>if y then R (.T #[.U 0,.U 0,.B false]) H else Hl H b 3 λC z _=>Bd 0 z/\aN C λA=>gA H ((A.add (toNat 0*4)).add 1) λt=>Hl H b 3 λF E _=>Bd 1 E/\aN F λq=>gA H ((q.add (toNat 1*4)).add 1) λT=>aa.cC H (AA b 0) λG=>bf H (.C #[.U t,.U T] 27) λB g=>Kp H g [(Sa b 0)]/\Cl 208 #[.L (Sa B 0) 2 2] g λV i=>aa.EX λo=>V=o.agg/\Kp g i [(Sa b 0)]/\Cl 164 #[G.agg,o.agg] i λI f=> ∃p,I=.B p/\if p then if(decide (t≥1))then if(decide (t<=255))then R (.T #[.U t,.U T,.B (decide (T<=t))]) f else R (.T #[.U t,.U T,.B false]) f else R (.T #[.U t,.U T,.B false]) f else R (.T #[.U t,.U T,.B false]) f) (λJ=>if(!k)then J true e else∃m,Cc e b 0 (.I m)/\if(m !=4)then J true e else∃x n w,Cc e b 3 (.L x n w)/\J (((n:Nat):Int) !=2) e)):Cl 245 #[.L a d D] h R:=aS [(6,.join [(26,.one (.bool))]),(13,λ_=>pK 12),(15,λ_=>pK 24)] Tryz.func245 u
theorem Cd.walk(x:aa.NW h λb q=>Cl 162 #[.Z] q λv r=>aa.EX λo=>v=o.agg/\aa.NW r λB s=>aa.du s (AA B 0) o λu=> ∃(I:Int->ai->Prop)(m:Int->ai->Nat),I 0 u/\∀(t:Int)(H:ai),I t H->if(decide (t<(l:Int)))then Bd t l/\aN L λA=>gA H (A.add (toNat t*1)) λz=>Hl H B 3 λF E C=>Cl 199 #[.U z] H λV e=>aa.EX λT=>V=T.agg/\Kp H e [(Sa B 3)]/\bf e (.C T.arr 198) λp g=>Kp e g [(Sa B 3)]/\aT Tryz.prog (Builtin.append_ #[196,196] 196 #[.L F E C,.L (Sa p 0) 1 1]) g λJ w=> ∃n k j,J=.L n k j/\aJ w (AA B 3) (.L n k j) λi=>(I (wrap .i64 (t+1)) i/\m (wrap .i64 (t+1)) i<m t H)else aa.cC H (AA B 0) λG=>aa.du H (AA b 0) G λf=>aa.cC f (AA b 0) λy=>R (y.agg) f):Cl 208 #[.L L l c] h R:=aS [(8,.loop [(9,.one (.int .i64))]),(19,λ_=>pK 8)] Tryz.func208 x
theorem Em.walk{k:Int} (r:aG (λ(O:Bool) (H:ai)=>if O then R (.B (decide ((d:Int)<=200))) H else R (.B false) H) (λJ=>aG (λ(s:Bool) (i:ai)=>J s i) (λj=>if(k==6)then Cl 244 #[.L a d D] h λv m=>aw.EX λx=> ∃t,v=.T #[x.agg,.B t]/\j t m else aG (λ(u:Bool) (n:ai)=>j u n) (λe=>if(k==7)then Cl 241 #[.L a d D] h λV o=> ∃y T,V=.T #[.U y,.B T]/\e T o else aG (λ(w:Bool) (p:ai)=>e w p) (λf=>if(k==10)then Cl 245 #[.L a d D] h λB q=> ∃z A g,B=.T #[.U z,.U A,.B g]/\f g q else f true h))))):Cl 214 #[.U k,.L a d D] h R:=aS [(7,.join [(5,.one (.bool))]),(10,.join [(5,.one (.bool))]),(14,.join [(5,.one (.bool))]),(18,.join [(5,.one (.bool))])] Tryz.func214 r
theorem Eo.walk(e:Cl 242 #[.L L l c,.func (.func 243) #[] #[]] h λv H=> ∃t,v=.B t/\R (.B (!t)) H):Cl 213 #[.L L l c] h R:=aS [] Tryz.func213 e
theorem AN.walk{n:Int}(H:if(decide (n<1))then R (.B true) h else R (.B (decide (n>255))) h):Cl 243 #[.U n] h R:=aS [] Tryz.func243 H
theorem GM.walk(n:bf h (.C b.arr 204) λB e=>Hu e B 0 λs=>Hu e B 1 λu=>bf e (.C #[.U s,.U u] 27) λj k=>Cl 213 #[.L (Sa j 0) 2 2] k λv H=> ∃i,v=.B i/\if i then∃t,Cc H B 2 (.U t)/\if((wrap .u64 ((nQ t &&& ~~~ nQ 23).toNat:Int))==0)then∃T,Cc H B 3 (.I T)/\if(decide (T≥0))then∃f,Cc H B 3 (.I f)/\if(decide (f<=2))then Hu H B 0 λo=>Hl H B 4 λr q p=>Cl 214 #[.U o,.L r q p] H λV m=> ∃g,V=.B g/\R (.B g) m else R (.B false) H else R (.B false) H else R (.B false) H else R (.B false) H):Cl 173 #[b.agg] h R:=aS [] Tryz.func173 n
theorem GN.walk(M:bf h (.C b.arr 204) λB E=>aa.NW E λe g=>ay.cC g (AA B 0) λQ=>Cl 173 #[Q.agg] g λv H=> ∃z,v=.B z/\if(!z)then aa.du H (AA e 0) aa.S.z λi=>aa.cC i (AA e 0) λO=>R (.T #[O.agg,.I 3]) i else∃T,Cc H B 0 (.U T)/\∃k,Cc H B 1 (.U k)/\∃m,Cc H B 2 (.U m)/\∃n,Cc H B 3 (.I n)/\bf H (.C #[.U T,.U k,.U m,.U (wrap .u64 n)] 27) λA G=>Cl 208 #[.L (Sa A 0) 4 4] G λV j=>aa.EX λt=>V=t.agg/\∃q p o,Cc j B 4 (.L q p o)/\Cl 196 #[.L q p o] j λS I=>aa.EX λr=>S=r.agg/\bf I (.C r.arr 198) λC J=>aT Tryz.prog (Builtin.append_ #[196,196] 196 #[.L t.Sv t.Fq t.Qf,.L (Sa C 0) 1 1]) J λU K=> ∃w u s,U=.L w u s/\Cl 206 #[.L w u s,.I 3] K λX F=>aa.EX λx=> ∃y,X=.T #[x.agg,.I y]/\aa.du F (AA e 0) x λf=>aa.cC f (AA e 0) λP=>R (.T #[P.agg,.I y]) f):Cl 165 #[b.agg] h R:=aS [] Tryz.func165 M
theorem IX.walk{x:aa.S} (hv:bf h (.C x.arr 198) λb l'=>ay.NW l' λB F=>aa.cC F (AA b 0) λu'=>Cl 159 #[u'.agg,.I 3] F λC' j=> ∃T t v' o,C'=.T #[.L T t v',.I o]/\if(o !=0)then ay.du j (AA B 0) ay.S.z λG=>ay.cC G (AA B 0) λr0=>R (.T #[r0.agg,.I o]) G else aG (λ(w':Bool) (H:ai)=>if w' then ay.du H (AA B 0) ay.S.z λI=>ay.cC I (AA B 0) λr'=>R (.T #[r'.agg,.I 3]) I else aG (λ(s:ct) (K:ai)=>aN s λi'=>ay.cC K i' λx'=>Cl 165 #[x'.agg] K λD' p'=>aa.EX λf'=> ∃g',D'=.T #[f'.agg,.I g']/\aa.NW p' λu q'=>aa.du q' (AA u 0) f' λi=>aG (λ(A':Bool) (k:ai)=>if A' then ay.du k (AA B 0) ay.S.z λy=>ay.cC y (AA B 0) λs'=>R (.T #[s'.agg,.I 3]) y else aN s λj'=>ay.cC k j' λB'=>ay.du k (AA B 0) B' λz=>ay.cC z (AA B 0) λt'=>R (.T #[t'.agg,.I 0]) z) (λq=>if(g' !=0)then q true i else aa.cC i (AA u 0) λy'=>aa.cC i (AA b 0) λz'=>Cl 164 #[y'.agg,z'.agg] i λE' m'=> ∃h',E'=.B h'/\q (!h') m')) (λp=>Bd 0 t/\aN T λA=>gA H ((A.add (toNat 0*4)).add 1) λO=>Bd 1 t/\aN T λe=>gA H ((e.add (toNat 1*4)).add 1) λP=>Bd 2 t/\aN T λf=>gA H ((f.add (toNat 2*4)).add 1) λQ=>Bd 3 t/\aN T λg=>gA H ((g.add (toNat 3*4)).add 1) λS=>Bd 4 t/\aN T λr=>oL H ((r.add (toNat 4*4)).add 2) λX V U=>(Cl 54 #[.L X V U] H λF' m=> ∃d' b' Z,F'=.L d' b' Z/\Kp H m [(some ((g.add (toNat 3*4)).add 1)),(some ((f.add (toNat 2*4)).add 1)),(some ((e.add (toNat 1*4)).add 1)),(some ((A.add (toNat 0*4)).add 1))]/\ay.NW m λv C=>Kp m C [(some ((g.add (toNat 3*4)).add 1)),(some ((f.add (toNat 2*4)).add 1)),(some ((e.add (toNat 1*4)).add 1)),(some ((A.add (toNat 0*4)).add 1))]/\ay.du C (AA v 0) ⟨O,P,Q,(wrap .i64 S),d',b',Z⟩ λn'=>p (Sa v 0) n')/\(ay.NW H λw n=>Kp H n [(some ((r.add (toNat 4*4)).add 2)),(some ((g.add (toNat 3*4)).add 1)),(some ((f.add (toNat 2*4)).add 1)),(some ((e.add (toNat 1*4)).add 1)),(some ((A.add (toNat 0*4)).add 1))]/\Cl 54 #[.L X V U] n λG' E=> ∃e' c' a',G'=.L e' c' a'/\Kp n E [(some ((g.add (toNat 3*4)).add 1)),(some ((f.add (toNat 2*4)).add 1)),(some ((e.add (toNat 1*4)).add 1)),(some ((A.add (toNat 0*4)).add 1))]/\ay.du E (AA w 0) ⟨O,P,Q,(wrap .i64 S),e',c',a'⟩ λo'=>p (Sa w 0) o')/\True)) (λJ=>if(((t:Nat):Int) !=5)then J true j else Bd 4 t/\aN T λk'=> ∃M,aU j (k'.add (toNat 4*4))=some (.I M)/\J (M !=2) j)):Cl 116 #[x.agg] h R:=aS [(13,.join [(19,.one (.bool))]),(20,.join [(6,.one (.ptr))]),(20,λ_=> .iZ (fC 21 0 (.alts (.fork 21 (fC 3 22 .done) (.fork 23 (.op 21 (.op 22 (.op 24 .done))) .gw))))),(25,.join [(66,.one (.bool))])] Tryz.func116 hv

end
section
namespace Bn
open Cb
open jG (Ev dt lC)
variable {V:cG→Bool} {h a H:ai} {R:fO} {D:Nat→Prop}
variable {p:ct} {l c n i:Nat} {B:cG} {t:Tr} {u:List Tr}
theorem uz(B:cG):room (eU V B)<=10*B.length+9:=by
 unfold eU;split
 .rename_i h;have:=(rH h).1;omega
 .simp[CW,room,dJ]
theorem AO(U:kr V a)(G:Fr No a h)(C:Row h p (bc B))(A:l=B.length)(cap:B.length<=c)(X:B.length<=80000)(m: ∀H z,Ed H (eU V B) z->Fr No h H->R (.T #[z.s.agg,.B (kf V B)]) H):Cl 258 #[.L p l c] h R:=by
 refine IU.walk (aa.cW λb Q P s g=>vK (U.mono (G.tt g)) (C.frame g bX) A cap ag (λL t x nx O T d=>aa.ex x.s ⟨_,_,rfl,aa.fK (x:=x.s) λI M J v f=>aa.fz v ?_⟩) (λL e w d=>aa.ex zv.s ⟨_,_,rfl,aa.fK (x:=zv.s) λI M J v f=>aa.fz v ?_⟩))
 .have F:=g.tt (d.tt f);have E:eU V B=t:=by unfold eU;rw[O]
  rw[E]at m;rw[gi];refine Gx (U.mono (G.tt F)) (C.frame F bX) A cap ag λS j=>⟨_,rfl,j.kp,aa.gX (x:=x.s) ((d.tt (f.tt j)).get s id) λr o k _=>aa.fz o (m r x ?_ ((F.tt j).fresh k (λy e=>ag)))⟩
  have zb:=aA s;exact((T.on f).on j).frame k (λy Z e=>ag)|>.u
 .have F:=g.tt (d.tt f);have E:eU V B=CW:=by unfold eU;rw[w]
  have K:kf V B=false:=by unfold kf;rw[w]
  rw[E,K]at m;rw[ae (λq=>mX w (eq_of_beq q))];exact aa.gX (x:=zv.s) ((d.tt f).get s id) λr o k _=>aa.fz o (m r zv (nA (n:=0)) (F.fresh k (λy e=>ag)))
theorem GO(U:kr V a)(s:Fr No a h)(M:nR.Mx h)(K:Row h p (bc B))(G:l=B.length)(cap:B.length<=c)(I:B.length<=80000)(g: ∀H (e:Ev),Fr No h H->R (.T #[e.s.agg,.B (kf V B && (oV V (eU V B)).isSome)]) H):Cl 244 #[.L p l c] h R:=by
 have ri:=uz (V:=V) B;refine AM.walk (aw.cW λb Z P o f=>AO U (s.tt f) (K.frame f bX) G cap I λh2 z T j=>aa.ex z.s ⟨_,rfl,aa.fK (x:=z.s) λL h4 S x d=>aa.fz x (Ei U (s.tt (f.tt (j.tt d))) (M.on (f.tt (j.tt d))) (T.on d) ag λe q ⟨Q,J,_⟩ h5 v=>aw.ex e.s ⟨_,rfl,aw.fK (x:=e.s) λO h7 X A w=>aw.fz A ?_⟩)⟩);have F:=j.tt (d.tt (v.tt w));cases r:kf V B with
 |false=>
  rw[r]at g;rw[dy];exact IT (x:=e) (F.get o id) λm k=>g m e ((f.tt F).fresh k (λy e=>ag))
 |true=>
  rw[r]at g;rw[af rfl];refine IT (x:=e) (F.get o id) λm k=> ?_
  have:=g m e ((f.tt F).fresh k (λy e=>ag));have E:(true && (oV V (eU V B)).isSome)=(q==0):=by
   by_cases C:q=0
   .rw[Q C,C];rfl
   .rw[J C,dz.2 C];rfl
  rw[E]at this;exact this
theorem Ep(U:kr V a)(y:Fr No a h)(x:Row h p (bc B))(v:l=B.length)(cap:B.length<=c)(w:B.length<=80000)(d: hH h R (.T #[.U ((eU V B).n:Int),.B (Qz V B)])):Cl 241 #[.L p l c] h R:=by
 have G:=uz (V:=V) B;refine LS.walk (AO U y x v cap w λC z T k=>aa.ex z.s ⟨_,rfl,aa.fK (x:=z.s) λA r E e F=> ?_⟩);unfold Qz at d;obtain⟨_,Z,_⟩:=gP.kn T;rw[<-Z]at d;refine⟨_,au e,?_⟩;cases q:kf V B with
 |false=>
  rw[q]at d;rw[dy];exact d r (k.tt F)
 |true=>
  rw[q]at d;rw[af rfl];refine aa.fz e ⟨_,au e,gC λs f=>aa.ex (nv z.n).s ⟨rfl,f.kp,jw (x:=z) (y:=nv z.n) (s:=num z.n) ((T.on F).on f) (nA (h:=s) (n:=z.n)) ag λm g=>⟨_,rfl,g.kp,?_⟩⟩⟩;have j:=k.tt (F.tt (f.tt g));cases o:oM (eU V B) (num z.n)with
  |false=>
   rw[o]at d;rw[dy];exact d m j
  |true=>
   rw[o]at d;rw[af rfl];refine⟨_,au ((f.tt g).get e id),?_⟩;rw[show decide ((z.n:Int)<=1099511627776)=decide (z.n<=1099511627776)from kZ z.n 1099511627776];exact d m j
abbrev nu(l:List Nat):List Value:=l.map λ(n:Nat)=> .int .u64 (n:Int)
theorem GP{l:List Nat}(M:Row h p (nu l))(hn:n=l.length)(hl:l.length<=100000)(hk: ∀H z,tW H (λy=>h.size<=y) (Gj l) z->Fr No h H->R z.s.agg H):Cl 208 #[.L p n c] h R:=by
 subst hn;refine Cd.walk (aa.cW λb f eb J m=>km (ts:= []) (ys:= []) (D:=λ_=>True) ⟨rfl,.inl rfl,λe=>absurd rfl e,bp _⟩ .nil (by simp[dJ]) λh2 z T o=>aa.ex z.s ⟨rfl,aa.fK (x:=z.s) λk h4 e' K F=> ?_⟩);have zb:=aA J;have z1:=m.1;have z2:=o.1;have z4:=F.1;have g':=aA K;have F4:=m.tt (o.tt F);have c':tW h4 (λy=>f.size<=y/\y≠k) (sS []) z:=by
  obtain⟨⟨S,U,X,a4⟩,Z,a5,v,a7,a8⟩:=T;refine⟨⟨S,U,X,((Gn a4).mono λy d=>ag).frame F bX⟩,Z,a5,v.frame F bX,λy d=>⟨a7 y d,bW (v.dI d)⟩,(dB.mono (λy d=>by have f:=d.1.1;have h2:=d.2;exact⟨⟨f,ag⟩,d.1.2⟩) a8.lt).on F⟩
 obtain⟨Z,ez,s⟩:=OC (g0:=f) c' K ((o.tt F).mono λ_ _=>False.elim);have w:z.k=4:=T.1.1;have x:z.n=0:=T.1.2.1;have E:z.v.b= []:=T.1.2.2.1;refine⟨λt g=> ∃(i:Nat)(j:List CV)(q:ct)(C:Nat),t=(i:Int)/\i<=l.length/\j.length=i/\Lc f g k z.k z.n z.v ((l.take i).map num) j q C,λt _=>l.length - t.toNat,⟨0,Z,z.q,z.cl,rfl,bQ _,?_,by rw[eV];exact s⟩,?_⟩
 .have:=s.tr.len;exact this.symm
 rintro _ g ⟨i,j,q,C,rfl,hi,d,L⟩;by_cases r:i<l.length
 case neg=>
  rw[ae (λe=>r (bW (aV e)))];rw[bE ag]at L;have b':z.v.ok g (λy=>f.size<=y/\y≠k):=⟨by rw[E];exact Row.nil,λe=>absurd E e,T.1.2.2.2.cap⟩;have O:=OD (k':=z.n) L b';rw[w,x,E]at O;refine aa.fz (x:=CV.s ⟨z.k,z.n,z.v,q,j.length,C⟩) L.di (fin (z:=⟨z.k,z.n,z.v,q,j.length,C⟩) (t:=Gj l) (D:=λy=>f.size<=y/\y≠k) (L.fr.get J ag) (by rw[w,x];exact O) (λy d e=>ag) λI tg fg=>hk I _ (tg.mono λy d=>ag) ((m.fresh L.fr (λy e=>ag)).fresh fg (λy e=>ag)))
 rw[gi];have P:Fr No h g:=m.fresh L.fr (λy e=>ag);obtain⟨A,rfl⟩:=M.some (by intro e;have:=cf List.length e;rw[aD,bG]at this;omega);have hc:aU g (A.add (i*1))=some (.U ((l[i]:Nat):Int)):=by
  have:=(M.frame P bX).cell (j:=i) (v:=.U ((l[i]:Nat):Int)) (by rw[aL,aj r];rfl);rw[cE];exact this
 refine⟨ag,bT.2 ⟨A,rfl,_,hc,_,_,_,au L.di,gC λh6 G=>aa.ex (nv l[i]).s ⟨rfl,G.kp,?_⟩⟩⟩;refine OE (L.on G) ag (Sy (n:=l[i])).Tv λI d' q' a' Q f' _ _=> ?_
 rw[bJ (n:=(i:Int)+1) ag ag];refine⟨⟨i+1,d',q',a',ag,ag,ag,?_⟩,by show l.length - Int.toNat ((i:Int)+1)<l.length - Int.toNat (i:Int);omega⟩;rw[bO,aj r,ba];exact Q
theorem IY{l:List Nat}{n:Nat}{K:Nat->ai->Prop}{c:Array Value}(d:c=(nu l).toArray)(e: ∀b H,Row H (Sa b 0) (nu l)->Fr No h H->K b H):bf h (.C c 27) K:=by
 refine cT (e _ _ (by rw[d];exact ju) (Fr.push _ _))
theorem QL(U:kr V a)(g':Fr No a h)(d':Row h p (bc B))(hl:l=B.length)(cap:B.length<=c)(c':B.length<=80000)(g: ∀H (A b:Nat),Fr No h H->R (.T #[.U (A:Int),.U (b:Int),.B (Oe V B)]) H):Cl 245 #[.L p l c] h R:=by
 have ri:=uz (V:=V) B;have rl:=kY (t:=eU V B);refine IW.walk (AO U g' d' hl cap c' λh2 z I P=>aa.ex z.s ⟨_,rfl,aa.fK (x:=z.s) λb1 f h' d F=>aG.of λJ x=> ?_⟩);have q:=P.tt F;unfold Oe at g;have j: ¬(kf V B=true/\(eU V B).k=4/\(eU V B).l.length=2)->J true f:=λhn=>by
  subst x;dsimp only;rw[af rfl];have:=g f 0 0 q;rw[show(kf V B && decide ((eU V B).k=4/\(eU V B).l.length=2) && oM (eU V B) (Gj [oE (eU V B),Ap (eU V B)]) && decide (1<=oE (eU V B)/\oE (eU V B)<=255/\Ap (eU V B)<=oE (eU V B)))=false by
   by_cases A:kf V B=true
   .rw[aC (λe=>hn ⟨A,e⟩)];simp
   .simp[A]]at this
  exact this
 obtain⟨zk,zn,zb,zl,i',ys,L,T⟩:=gP.kn (I.on F);cases E:kf V B with
 |false=>rw[gi];exact j (λe=>by rw[E]at e;cases e.1)
 |true=>
 rw[dy];refine⟨_,au d,?_⟩;rw[show z.s.f0=(eU V B).k from zk];by_cases k:(eU V B).k=4
 case neg=>rw[af (cR k)];exact j (λe=>k e.2.1)
 rw[ae (cR k)];refine⟨_,_,_,au d,?_⟩;have sl:z.s.Fq=(eU V B).l.length:=zl;rw[sl];by_cases G:(eU V B).l.length=2
 case neg=>rw[show((((eU V B).l.length:Nat):Int) !=2)=true by simp only[dw,fj];omega];exact j (λe=>G e.2.2)
 rw[show((((eU V B).l.length:Nat):Int) !=2)=false by simp only[gu];omega];clear j;rw[E,av ⟨k,G⟩]at g;subst x;dsimp only;rw[dy];obtain⟨r,y0,M,a',e',_⟩:=elem L T (i:=0) ag;obtain⟨s,y1,O,b',f',_⟩:=elem L T (i:=1) ag;have n0:=(gP.kn e').2.1;have n1:=(gP.kn f').2.1;have X:aU f ((r.add (0*4)).add 1)=some (.U ((oE (eU V B):Nat):Int)):=by have:=a'.2.1;unfold oE;rw[<-n0];exact this
 have Z:aU f ((s.add (1*4)).add 1)=some (.U ((Ap (eU V B):Nat):Int)):=by have:=b'.2.1;unfold Ap;rw[<-n1];exact this
 refine⟨_,_,_,au d,ag,bT.2 ⟨r,M,_,X,_,_,_,au d,ag,bT.2 ⟨s,O,_,Z,aa.fz d ?_⟩⟩⟩;refine IY (l:= [oE (eU V B),Ap (eU V B)]) (n:=2) rfl λb2 h5 r5 m=>⟨m.kp,GP r5 rfl (by show 2<=_;omega) λh6 w tw o=>aa.ex w.s ⟨rfl,o.kp,jw (x:=z) (y:=w) ((I.on F).on (m.tt o)) tw.u ag λS Q=>⟨_,rfl,?_⟩⟩⟩
 have K:=q.tt (m.tt (o.tt Q));have fin:=g S (oE (eU V B)) (Ap (eU V B)) K;cases y:oM (eU V B) (Gj [oE (eU V B),Ap (eU V B)])with
 |false=>rw[y]at fin;rw[dy];exact fin
 |true=>
 rw[y]at fin;rw[af rfl];change if(decide (((oE (eU V B):Nat):Int)≥1))=true then(if(decide (((oE (eU V B):Nat):Int)<=255))=true then _ else _)else _
 by_cases C:1<=oE (eU V B)
 case neg=>rw[aC (λe=>C e.1)]at fin;rw[dy];exact fin
 rw[gi];by_cases v:oE (eU V B)<=255
 case neg=>rw[aC (λe=>v e.2.1)]at fin;rw[dy];exact fin
 rw[gi];have:decide (1<=oE (eU V B)/\oE (eU V B)<=255/\Ap (eU V B)<=oE (eU V B))=decide (((Ap (eU V B):Nat):Int)<=((oE (eU V B):Nat):Int)):=by
  rw[kZ];exact decide_eq_decide.2 ⟨λe=>e.2.2,λe=>⟨C,v,e⟩⟩
 rw[this]at fin;exact fin
theorem LU{T:Nat}(U:kr V a)(o:Fr No a h)(M:nR.Mx h)(r:Row h p (bc B))(z:l=B.length)(cap:B.length<=c)(m:B.length<=80000)(x: hH h R (.B (Aq V T B))):Cl 214 #[.U (T:Int),.L p l c] h R:=by
 subst z;refine Em.walk (aG.of λJ y=>aG.of λA j=> ?_);unfold Aq at x;have fin: ∀q g,Fr No h g->(Aq V T B=(q && decide (B.length<=200)))->J q g:=λq g F e=>by
  subst y;have:=x g F;unfold Aq at e;rw[e]at this;rw[show decide ((B.length:Int)<=200)=decide (B.length<=200)from kZ B.length 200];cases q with
  |false=>exact this
  |true=>exact this
 by_cases s:T=6
 .subst s;rw[gi];refine GO U o M r rfl cap m λd e f=>aw.ex e.s ⟨_,rfl,?_⟩
  subst j;exact fin _ d f rfl
 rw[ae (by simp only[df];omega)];refine aG.of λE k=> ?_
 by_cases v:T=7
 .subst v;rw[gi];refine Ep U o r rfl cap m λd f=>⟨_,_,rfl,?_⟩
  subst k j;exact fin _ d f rfl
 rw[ae (by simp only[df];omega)];refine aG.of λG w=> ?_
 by_cases C:T=10
 .subst C;rw[gi];refine QL U o r rfl cap m λd I b f=>⟨_,_,_,rfl,?_⟩
  subst w k j;exact fin _ d f rfl
 rw[ae (by simp only[df];omega)];subst w k j;exact fin true h (Fr.refl _ _) (by unfold Aq;rw[ae s,ae v,ae C])
theorem xc{p:ct}{n c:Nat}{l:List Nat}(r:Row h p (nu l))(s:n=l.length)(x:l.length<=100000)(f:R (.B (l.all mK)) h):Cl 213 #[.L p n c] h R:=by
 subst s;refine Eo.walk (kq.within.walk (lg.within.walk ?_));refine⟨λt g=> ∃i:Nat,t=(i:Int)/\i<=l.length/\g=h/\(l.take i).all mK=true,λt _=>l.length - t.toNat,⟨0,rfl,bQ _,rfl,by rw[eV];rfl⟩,?_⟩;rintro _ g ⟨i,rfl,w,rfl,j⟩;by_cases d:i<l.length
 .rw[gi];obtain⟨A,rfl⟩:=r.some (by intro e;have:=cf List.length e;rw[aD,bG]at this;omega);have o:aU g (A.add (i*1))=some (.U ((l[i]:Nat):Int)):=by
   have:=r.cell (j:=i) (v:=.U ((l[i]:Nat):Int)) (by rw[aL,aj d];rfl);rw[cE];exact this
  have key: ∀q,q=(!mK l[i])->(if q=true then∃m,Value.I (i:Int)=.I m/\∃T,Value.bool (decide (m≥0))=.B T/\R (.B (!T)) g else((∃k:Nat,IntKind.wrap .i64 ((i:Int)+1)=(k:Int)/\k<=l.length/\g=g/\(l.take k).all mK=true)/\l.length - (IntKind.wrap .i64 ((i:Int)+1)).toNat<l.length - (i:Int).toNat)):=by
   rintro q rfl;cases e:mK l[i]with
   |false=>
    rw[gi];refine⟨_,rfl,_,rfl,?_⟩;rw[av ag];have:l.all mK=false:=List.all_eq_false.2 ⟨l[i],dF d,by rw[e];decide⟩;rw[this]at f;exact f
   |true=>
    rw[dy,bJ (n:=(i:Int)+1) ag ag];refine⟨⟨i+1,ag,ag,rfl,?_⟩,ag⟩;rw[bO,aj d,List.all_append,j];simp[e]
  refine⟨ag,bT.2 ⟨A,rfl,_,o,AN.walk ?_⟩⟩;have E:mK l[i]=(decide (1<=l[i]) && decide (l[i]<=255)):=by unfold mK;by_cases A:1<=l[i]<;>by_cases b:l[i]<=255<;>simp[A,b]
  by_cases v:l[i]<1
  .rw[gi];refine⟨_,rfl,key true ?_⟩;rw[E,aC (show¬1<=l[i] by omega)];rfl
  .rw[dy];refine⟨_,rfl,key _ ?_⟩;rw[E,av (show 1<=l[i] by omega)];by_cases C:l[i]<=255
   .rw[av C,aC (show¬((l[i]:Nat):Int)>255 by omega)];rfl
   .rw[aC C,av (show((l[i]:Nat):Int)>255 by omega)];rfl
 .rw[ae (λe=>d (bW (aV e)))];rw[bE ag]at j;rw[j]at f;exact⟨_,rfl,_,rfl,f⟩
abbrev nz.s(b:nz)(p:ct)(c:Nat):ay.S:=⟨b.ty,b.nr,b.fl,b.sum,p,b.data.length,c⟩
variable {b:nz}
theorem xd(b:nz)(U:kr V a)(I:Fr No a h)(M:nR.Mx h)(G:Row h p (bc b.data))(cap:b.data.length<=c)(z:b.data.length<=80000)(s: hH h R (.B (jI V b))):Cl 173 #[(b.s p c).agg] h R:=by
 refine GM.walk (ay.cW λK O L o v=>⟨_,au o,_,au o,IY (l:= [b.ty,b.nr]) (n:=2) rfl λJ k A r=>xc A rfl (by show 2<=_;omega) ⟨_,rfl,?_⟩⟩);have F:=v.tt r;have d:=r.get o id;have m: ∀g,Fr No h g->jI V b=false->R (.B false) g:=λg x e=>by have:=s g x;rw[e]at this;exact this
 have E: [b.ty,b.nr].all mK=(mK b.ty && mK b.nr):=bU
 rw[E];cases q:(mK b.ty && mK b.nr)with
 |false=>rw[dy];exact m k F (by unfold jI;rw[q];rfl)
 |true=>
 rw[af rfl];refine⟨_,au d,?_⟩;change if Tu (b.fl:Int) 23=true then _ else _
 by_cases C:Tu (b.fl:Int) 23=true
 case neg=>rw[ae C];exact m k F (by unfold jI;simp[C])
 rw[af C];refine⟨_,au d,?_⟩;by_cases f:0<=b.sum
 case neg=>rw[ae (by simp only[aY];exact f)];exact m k F (by unfold jI;simp[f])
 rw[af (av f)];refine⟨_,au d,?_⟩;by_cases j:b.sum<=2
 case neg=>rw[ae (by simp only[aY];exact j)];exact m k F (by unfold jI;simp[j])
 rw[af (av j)];refine⟨_,au d,_,_,_,au d,LU U (I.tt F) (M.on F) (G.frame F bX) rfl cap z λy w=>⟨_,rfl,?_⟩⟩;have:=s y (F.tt w);unfold jI at this;rw[q,C,av f,av j]at this;exact this
theorem IZ(d:qk V t i=.ok u):0<=typeAt u i:=by
 unfold qk at d;split at d
 .rename_i e;have key: ∀k,i<k->typeAt (t.l.take k) i=typeAt t.l i:=λk g=>by
   unfold typeAt at_;rw[bh,bh,cZ,af g,bA];exact ite_congr (propext (by constructor<;>(rintro⟨A,b⟩;exact⟨ag,b⟩))) (λ_=>rfl) (λ_=>rfl)
  split at d
  .cases d;exact e.2.2
  .split at d
   .rename_i f;split at d
    .cases d
    .split at d
     .cases d;rw[key _ f.1];exact e.2.2
     .cases d
   .cases d
 .cases d
theorem LW(e:qk V t i=.ok u):(at_ u i).n<=2:=by
 have:=IZ e;unfold typeAt at this;split at this
 .rename_i d;exact d.2.1
 .omega
theorem xe(h:jI V b=true):0<=b.sum/\b.sum<=2/\b.data.length<=200/\1<=b.ty/\b.ty<=255/\1<=b.nr/\b.nr<=255:=by
 unfold jI at h;simp only[aW,aY]at h;obtain⟨⟨⟨⟨⟨A,e⟩,_⟩,f⟩,c⟩,d⟩:=h;unfold mK at A e;unfold Aq at d;simp only[aW,aY]at A e d;exact⟨f,c,d.2,A.1,A.2,e.1,e.2⟩
theorem Da(h:jI V b=true):dJ (Lu b)<=300:=by
 obtain⟨_,_,d,_⟩:=xe h;simp only[Lu,dJ,room,bG];omega
theorem Db(h:sV V b=.ok t):room t<=400:=by
 unfold sV at h;split at h
 .rename_i d;have:=AK h;have:=Da d;omega
 .cases h
theorem GQ{e:Int}(h:sV V b=.error e):e≠0:=by
 unfold sV at h;split at h
 .exact C8 h
 .cases h;decide
theorem Km(b : nz){p : Option Addr}{c : Nat}(U : kr V a)(b' : Fr No a h)(mx : nR.Mx h)(a' : Row h p (bc b.data))(cap : b.data.length ≤ c)(g' : b.data.length ≤ 80000)(M : ∀ H z q, (∀ t, sV V b = .ok t → q = 0 ∧ tW H (λy => h.size ≤ y) t z) → (∀ e, sV V b = .error e → q = e) → Fr No h H → R (.tuple #[z.s.agg, .int .i64 q]) H): Cl 165 #[(b.s p c).agg] h R := by
  refine GN.walk (ay.cW λbb h1 eb hb j => aa.cW λb1 h2 i' e' g => ay.fz (g.get hb id) (xd b U (b'.tt (j.tt g)) (mx.on (j.tt g)) (a'.frame (j.tt g) (λ_ _ => id)) cap g' λh3 w => ⟨_, rfl, ?_⟩))
  have o := (g.tt w).get hb id
  have G := w.get e' id
  have F := j.tt (g.tt w)
  have z3 := F.1
  have z1 := j.1
  have k' := w.1
  have l' := aA G
  cases r : jI V b with
  | false => exact Ee G λh4 f4 => M h4 zv 3 (λt e => by unfold sV at e; rw [r, if_neg (by decide)] at e; cases e) (λt e => by unfold sV at e; rw [r, if_neg (by decide)] at e; cases e; rfl) (F.fresh f4 (λy e => by omega))
  | true =>
  rw [if_neg (by decide)]
  obtain ⟨s0, s2, d2, _⟩ := xe r
  have rm := Da r
  have s : sV V b = oq V (Lu b) 3 := by unfold sV; rw [r, if_pos rfl]
  obtain ⟨S, hs⟩ := Int.eq_ofNat_of_zero_le s0
  have es : b.sum.toNat = S := by omega
  refine ⟨_, cB o rfl, _, cB o rfl, _, cB o rfl, _, cB o rfl, ?_⟩
  rw [show (b.s p c).f3 = ((S : Nat) : Int) from hs, wrap_u64 (n := (S : Int)) (by omega) (by omega)]
  refine IY (l := [b.ty, b.nr, b.fl, S]) (n := 4) rfl λb3 h5 r5 x => GP r5 rfl (by show 4 ≤ _; omega) λh6 z T A => aa.ex z.s ⟨rfl, _, _, _, cB ((x.tt A).get o id) rfl, oY (a'.frame (F.tt (x.tt A)) (λ_ _ => id)) rfl (by omega) λh7 v ev ov C => aa.ex (CV.s ⟨2, 0, v, none, 0, 0⟩) ⟨rfl, aa.cW (x := CV.s ⟨2, 0, v, none, 0, 0⟩) λb4 h8 j' f' m => ?_⟩⟩
  have F8 := x.tt (A.tt (C.tt m))
  obtain ⟨_, Z, a5, Q, a7, X⟩ := T
  have zl : Z.length = 4 := by have := X.len; exact this.symm
  have sl : z.s.Fq = Z.length := a5
  rw [sl]
  have z6 := A.1
  have z7 := C.1
  have z8 := m.1
  have qs : ∀ y, aP z.q y → y < h6.size := λy d => Q.dI d
  refine dR tI uI (Q.frame (C.tt m) (λ_ _ => id)) (ds := iP ⟨2, 0, v, none, 0, 0⟩) (.inr ⟨_, rfl, aa.Ax (x := CV.s ⟨2, 0, v, none, 0, 0⟩) f'⟩) rfl (oX _) (by omega) (by omega) λq' c' L P _ J g9 => ⟨_, _, _, rfl, ?_⟩
  have ef : Z.flatMap iP ++ iP ⟨2, 0, v, none, 0, 0⟩ = (Z ++ [(⟨2, 0, v, none, 0, 0⟩ : CV)]).flatMap iP := by rw [List.flatMap_append, List.flatMap_singleton]
  rw [ef] at P
  have f : Fr No h3 L := F8.fresh J (λy d => by have := a7 y d; have := x.1; omega)
  have L9 : mC L (λ_ => True) q' (Z.length + 1) c' (Z ++ [⟨2, 0, v, none, 0, 0⟩]) := ⟨by simp, P.iz, λ_ _ _ => trivial, P.le⟩
  have T9 : B7 L (Lu b) (Z ++ [⟨2, 0, v, none, 0, 0⟩]) := by
    have t1 := dB.frame J (λy d O => d.2 O) (dB.on (dB.on X C) m)
    have t2 : gP h7 (λy => h6.size ≤ y) (qH v.b) ⟨2, 0, v, none, 0, 0⟩ := CZ ov
    have t3 := (t2.on m).frame J (λy d O => by have := qs y O; omega)
    have := dB.snoc t1.u t3.u
    rw [ev] at this
    unfold Lu
    rw [es]
    exact this
  refine Kl (i := 3) U (b'.tt (F.tt f)) L9 T9 (by omega) (by omega) (λt ht d' z T k => aa.ex z.s ⟨_, rfl, ?_⟩) (λe he d' k => aa.ex zv.s ⟨_, rfl, ?_⟩)
  · have z9 := f.1
    exact fin ((f.tt k).get G id) T (λy d e => by omega) λK h' I => M K z 0 (λt' e => by rw [s, ht] at e; cases e; exact ⟨rfl, h'.mono λy d => by omega⟩) (λE e => by rw [s, ht] at e; cases e) ((F.tt (f.tt k)).fresh I (λy e => by omega))
  · exact Ee ((f.tt k).get G id) λK I => M K zv e (λt' E => by rw [s, he] at E; cases E) (λE e2 => by rw [s, he] at e2; cases e2; rfl) ((F.tt (f.tt k)).fresh I (λy e => by omega))
theorem RQ{b:Nat}{y x:ay.S}{K:ay.S->ai->Prop}(e:ay.fD h b y)(j: ∀H,Fr (λy=>y=b) h H->K x H):
  ay.du h (AA b 0) x λg=>ay.cC g (AA b 0) λr=>K r g:=
 ay.gX (x:=x) e λg d f _=>ay.fz d (j g f)
theorem QM{x:CV}(U:kr V a)(p':Fr No a h)(mx:nR.Mx h)(tx:Ed h t x)(hr:room t<=50000)(k1: ∀b,Ar V t=.ok b->∀H p c,BV.ok H (λy=>h.size<=y) ⟨p,c,b.data⟩->Fr No h H->R (.T #[(b.s p c).agg,.I 0]) H)(k2: ∀e,Ar V t=.error e->e≠0->hH h R (.T #[ay.S.z.agg,.I e])):Cl 116 #[x.agg] h R:=by
 have rl:=kY (t:=t);refine IX.walk (x:=x.s) (aa.cW λb h1 eb hb f1=>ay.cW λb1 h2 L' c' S=>aa.fz (S.get hb id) ?_);have F:=f1.tt S;have E':=S.get hb id;have zb:=aA hb;have b2:=aA c';have z1:=f1.1;have z2:=S.1;have no: ∀g e,Fr No h2 g->Ar V t=.error e->e≠0->ay.du g (AA b1 0) .z λG=>ay.cC G (AA b1 0) λJ'=>R (.T #[J'.agg,.I e]) G:=λg e v o z=>
  RQ (v.get c' id) λG f=>k2 e o z G ((F.tt v).fresh f (λy e=>ag))
 have d:Ar V t=Ar V t:=rfl;conv at d=>rhs;unfold Ar
 refine zu (i:=3) U (p'.tt F) (tx.on F) ag ag (λu hu ru k p zs c L TS r=>⟨_,_,_,_,rfl,?_⟩) (λe o z k r=>⟨_,_,_,_,rfl,?_⟩)
 case refine_2=>
  rw[af (cR z)];exact no k e r (by rw[d,o]) z
 rw[dy];rw[hu]at d;dsimp only at d;have n2:=LW hu;have ln:=TS.len;have l9:=ia u;refine aG.of λq' hJ=> ?_
 have bad: ¬(u.length=5/\(at_ u 4).k=2)->q' true k:=λz=>by
  subst hJ;dsimp only;rw[af rfl];exact no k 3 r (by rw[d,ae z]) dS
 by_cases l5:u.length=5
 case neg=>rw[af (by simp only[dw,fj];omega)];exact bad (λe=>l5 e.1)
 rw[ae (by simp only[dw,fj];omega)];have z3:=r.1;have K: ∀i,i<5->∃(E:Addr)(y:CV),p=some E/\dN (E.add (i*4)) y.s.l 0 k/\Ed k (at_ u i) y/\aU k ((E.add (i*4)).add 1)=some (.U ((at_ u i).n:Int)):=λi hi=>by
  obtain⟨E,y,ea,hh,ty,_⟩:=elem L TS (i:=i) ag;obtain⟨_,yn,_⟩:=gP.kn ty;exact⟨E,y,ea,hh,ty.u,by have:=hh.2.1;rw[<-yn];exact this⟩
 obtain⟨a0,y0,t',S',a5,c0⟩:=K 0 ag;obtain⟨a1,y1,u',T',a6,c1⟩:=K 1 ag;obtain⟨a2,y2,v',U',a7,c2⟩:=K 2 ag;obtain⟨a3,y3,w',V',a8,c3⟩:=K 3 ag;obtain⟨a4,s,g',n',K',c4⟩:=K 4 ag;obtain⟨yk,yn,yb,yl,yv,_⟩:=gP.kn K';have r4:=jc (ts:=u) (i:=4) ag;have X':=kY (t:=at_ u 4);refine⟨ag,bT.2 ⟨a4,g',_,n'.1,?_⟩⟩;by_cases T:(at_ u 4).k=2
 case neg=>rw[show(s.s.f0 !=2)=true by have:s.s.f0=(at_ u 4).k:=yk;rw[this];simpa using T];exact bad (λe=>T e.2)
 rw[show(s.s.f0 !=2)=false by have:s.s.f0=(at_ u 4).k:=yk;rw[this];simpa using T];clear bad;rw[af ⟨l5,T⟩]at d;subst hJ;try dsimp only
 rw[dy];have u3:=p'.tt (F.tt r);have m3:=mx.on (F.tt r);have O:(rK u).data=s.v.b:=yb.symm;refine aG.of λJ1 D'=> ?_
 have o': ∀g m q M,ay.fD g m ((rK u).s q M)->h2.size<=m->BV.ok g (λy=>k.size<=y/\y≠m) ⟨q,M,(rK u).data⟩->Fr No k g->J1 (Sa m 0) g:=by
  intro g m q M hs z4 ov v;subst D';refine ax.2 (ay.fz hs (Km (rK u) U (u3.tt v) (m3.on v) ov.row ov.cap (by rw[O,yb];omega) λh8 e' qw w0 w1 f8=>aa.ex e'.s ⟨_,rfl,aa.fK (x:=e'.s) λb5 l' M' F' h'=>aG.of λJ2 m'=> ?_⟩));have X:=f8.tt h';have A:=r.tt (v.tt X);have bad: ∀G,Fr No l' G->Ar V t=.error 3->J2 true G:=λG y' o=>by
   subst m';try dsimp only
   rw[af rfl];exact no G 3 (A.tt y') o dS
  cases w:sV V (rK u)with
  |error e=>
   rw[w]at d;rw[af (by rw[w1 e w];simpa using GQ w)];exact bad l' (Fr.refl _ _) d
  |ok f'=>
   rw[w]at d;dsimp only at d;obtain⟨rfl,tw⟩:=w0 f' w;have Z':=Db w;rw[dy];refine aa.fz F' (aa.fz (x:=x.s) (A.get E' id) (jw (x:=e') (y:=x) (tw.u.on h') (tx.on (F.tt A)) ag λA' I=>⟨_,rfl,?_⟩));cases o:oM f' t with
   |false=>exact bad A' I (by rw[d,ae (by rw[o];decide)])
   |true=>
    rw[o,af rfl]at d;subst m';try dsimp only
    rw[dy];refine ax.2 (ay.fz ((X.tt I).get hs id) (RQ ((A.tt I).get c' id) λG f=>k1 _ d G q M ?_ ((F.tt (A.tt I)).fresh f (λy e=>ag))));have:=(ov.mono (D':=λy=>k.size<=y) λy j=>j.1).frame (X.tt I) bX;exact(this.frame f (λy j e=>ag)).mono λy j=>ag
 refine⟨ag,bT.2 ⟨a0,t',_,c0,ag,bT.2 ⟨a1,u',_,c1,ag,bT.2 ⟨a2,v',_,c2,ag,bT.2 ⟨a3,w',_,c3,ag,bT.2 ⟨a4,g',_,_,_,n'.2.2.1,?_⟩⟩⟩⟩⟩⟩;rw[bJ (n:=(((at_ u 3).n:Nat):Int)) ag ag];have l4:s.v.b.length<=50000:=by rw[yb];omega
 have eS: ∀P C,(⟨(at_ u 0).n,(at_ u 1).n,(at_ u 2).n,(at_ u 3).n,P,s.v.b.length,C⟩:ay.S)=(rK u).s P C:=λP C=>by
  show _=(⟨_,_,_,_,P,(rK u).data.length,C⟩:ay.S);rw[O];rfl
 refine⟨?_,?_,trivial⟩
 .refine mi.gE yv.row rfl ag λP C O' d' Z z'=>⟨_,_,_,rfl,Z.kp,ay.cW λm P' x' J a'=>⟨a'.kp,?_⟩⟩
  rw[eS];have a9:=Z.1;have z4:=aA J;refine ay.gX (x:=(rK u).s P C) J λB' r' i' _=>o' B' m P C r' ag ?_ ((Z.tt a').fresh i' (λy e=>ag))
  have G':=(d'.frame a' bX).frame i' (λy j e=>bW (d'.dI j));rw[O];exact BV.kT G' (λy j=>⟨z' y j,bW (d'.dI j)⟩)
 .refine ay.cW λm Q' x' J Q=>⟨Q.kp,mi.gE (yv.row.frame Q bX) rfl ag λP C R' H' b' k'=>⟨_,_,_,rfl,b'.kp,?_⟩⟩
  rw[eS];have b0:=Q.1;have z4:=aA J;refine ay.gX (x:=(rK u).s P C) (b'.get J id) λC' s' j' _=>o' C' m P C s' ag ?_ ((Q.tt b').fresh j' (λy e=>ag))
  have I':=H'.frame j' (λy j e=>bW (k' y j));rw[O];exact BV.kT I' (λy j=>bW (k' y j))

end Bn
end
section
variable {h:ai} {R:fO}
variable {L:ct} {l a:Nat} {b:ak.S} {r:aK.S}
theorem Er.walk{k:Int}(H:if(k==1)then R (.B true) h else if(k==6)then R (.B true) h else if(k==7)then R (.B true) h else R (.B (k==10)) h):Cl 174 #[.U k] h R:=aS [] Tryz.func174 H
theorem I0.walk (U: ∃(I:Bool->ai->Prop)(_:Bool->ai->Nat),(aG (λ(Z:Bool) (g:ai)=>if Z then R (.B false) g else I true g) (λJ=>if(decide ((wrap .i64 ((l:Int) - 1))<0))then J true h else if(decide ((wrap .i64 ((l:Int) - 1))≥8))then J true h else Bd (wrap .i64 ((l:Int) - 1)) l/\aN L λA=> ∃u,aU h (A.add (toNat (wrap .i64 ((l:Int) - 1))*5))=some (.U u)/\if(u !=1)then J true h else Bd (wrap .i64 ((l:Int) - 1)) l/\aN L λC=> ∃v,aU h ((C.add (toNat (wrap .i64 ((l:Int) - 1))*5)).add 1)=some (.U v)/\J (v !=1) h))/\∀(q:Bool)(k:ai),I q k->aG (λ(V:Bool) (P:ai)=>R (.B V) P) (λf=> ∃(i:Bool->Int->ai->Prop)(M:Bool->Int->ai->Nat),i q 0 k/\∀(O:Bool)(t:Int)(d:ai),i O t d->if(decide (t<(l:Int)))then Bd t l/\aN L λD=>ay.cC d (D.add (toNat t*5)) λa'=>ay.NW d λb Q=>ay.du Q (AA b 0) a' λm=>ay.cC m (AA b 0) λb'=>Cl 173 #[b'.agg] m λh' S=>Vb h' λc'=>((0:Int)<=t/\t<=(a:Int))/\∃(e:Bool->Int->ai->Prop)(p:Bool->Int->ai->Nat),e c' 0 S/\∀(o:Bool)(T:Int)(c:ai),e o T c->if(decide (T<(((toNat t) - 0:Nat):Int)))then aG (λ(s:Bool) (n:ai)=>(e s (wrap .i64 (T+1)) n/\p s (wrap .i64 (T+1)) n<p o T c)) (λz=>((0:Int)<=T/\T<(((toNat t) - 0:Nat):Int))/\aN (cQ L a 0 5) λE=>ay.cC c (E.add (toNat T*5)) λd'=>ay.NW c λB F=>ay.du F (AA B 0) d' λH=>aG (λ(X:Bool) (G:ai)=>z X G) (λj=>if o then Hu H B 1 λe'=> ∃w,Cc H b 1 (.U w)/\if(e' !=w)then Hu H B 0 λf'=> ∃x,Cc H b 0 (.U x)/\if(f' !=x)then j true H else Hu H b 0 λg'=>Cl 174 #[.U g'] H λi' K=> ∃y,i'=.B y/\j (!y) K else j false H else j false H))else if(!o)then f o c else(i o (wrap .i64 (t+1)) c/\M o (wrap .i64 (t+1)) c<M O t d)else f O d)):Cl 124 #[.L L l a] h R:=aS [(2,λ_=> .scope 0 [(4,.one (.bool))] (.seq .leaf (.seq (.seq (.join [(33,.one (.bool))] .leaf) (.cond (.seq .leaf .leaf) .leaf)) (.seq .leaf (.seq .leaf .leaf)))) (.seq .leaf (.seq (.seq .leaf (.join [(4,.one (.bool))] (.block (.loop [(4,.one (.bool)),(36,.one (.int .i64))] (.seq .leaf (.seq (.cond .leaf .leaf) (.seq (.block (.seq .leaf (.seq .leaf (.seq (.seq .leaf (.block (.loop [(4,.one (.bool)),(47,.one (.int .i64))] (.seq .leaf (.seq (.cond .leaf .leaf) (.seq (.join [(4,.one (.bool))] (.block (.seq .leaf (.join [(4,.one (.bool))] .leaf)))) .leaf)))))) (.seq .leaf (.cond .leaf .leaf)))))) .leaf))))))) (.seq .leaf .leaf))))] Tryz.func124 U
theorem Es.walk(U:bf h (.C b.arr 158) λB m=>aE.cC m (AA B 0) λV=>Cl 163 #[V.agg] m λf' K=>aa.EX λs=> ∃u,f'=.T #[s.agg,.I u]/\aa.NW K λi P=>aa.du P (AA i 0) s λe=>if(u !=0)then R (.T #[.Z,.B false]) e else aa.cC e (AA i 0) λX=>Cl 175 #[X.agg] e λg' p=> ∃x w v Z,g'=.T #[.L x w v,.I Z]/\Hl p B 20 λa' y _=> ∃(I:ct->Nat->Nat->Int->ai->Prop)(M:ct->Nat->Nat->Int->ai->Nat),I x w v 0 p/\∀(c:ct)(O o:Nat)(t:Int)(H:ai),I c O o t H->if(decide (t<(y:Int)))then Bd t y/\aN a' λF=>ay.cC H (F.add (toNat t*5)) λb'=>ay.NW H λj Q=>ay.du Q (AA j 0) b' λq=>ay.cC q (AA j 0) λc'=>Cl 165 #[c'.agg] q λh' S=>aa.EX λz=> ∃A,h'=.T #[z.agg,.I A]/\aa.NW S λk G=>aa.du G (AA k 0) z λd=>if(A !=0)then R (.T #[.Z,.B false]) d else aa.cC d (AA k 0) λd'=>Cl 175 #[d'.agg] d λi' J=> ∃E D C e',i'=.T #[.L E D C,.I e']/\aT Tryz.prog (Builtin.append_ #[33,33] 33 #[.L c O o,.L E D C]) J λj' n=> ∃g f T,j'=.L g f T/\(I g f T (wrap .i64 (t+1)) n/\M g f T (wrap .i64 (t+1)) n<M c O o t H)else R (.T #[.L c O o,.B true]) H):Cl 125 #[b.agg] h R:=aS [(18,.loop [(6,.one (.slice)),(30,.one (.int .i64))])] Tryz.func125 U
theorem Et.walk(d:bf h (.C b.arr 158) λB H=>ak.cC H (AA B 0) λT=>Cl 79 #[T.agg] H λv c=> ∃g f e t,v=.T #[.L g f e,.I t]/\R (.B (t==0)) c):Cl 117 #[b.agg] h R:=aS [] Tryz.func117 d
theorem Eu.walk (w:bf h (.C b.arr 158) λB c=>Hl c B 20 λF E D=>Cl 124 #[.L F E D] c λv H=> ∃m,v=.B m/\if(!m)then R (.T #[.Z,.I 3]) H else ak.cC H (AA B 0) λx=>Cl 125 #[x.agg] H λV d=> ∃f t T g,V=.T #[.L f t T,.B g]/\aG (λ(y:Bool) (e:ai)=>if y then R (.T #[.Z,.I 3]) e else bf e (.C #[.int .u8 159] 5) λn p=>aT Tryz.prog (Builtin.append_ #[33,33] 33 #[.L (Sa n 0) 1 1,.L f t T]) p λG q=>Vl G λC A z=>bf q (.C #[.int .u8 255] 5) λo s=>aT Tryz.prog (Builtin.append_ #[33,33] 33 #[.L C A z,.L (Sa o 0) 1 1]) s λI u=> ∃k j i,I=.L k j i/\R (.T #[.L k j i,.I 0]) u) (λJ=>if(!g)then J true d else J (decide (((t:Nat):Int)>598)) d)):Cl 79 #[b.agg] h R:=aS [(14,.join [(21,.one (.bool))])] Tryz.func79 w
theorem GR.walk{s:ct}{e q:Nat} (hv:ak.NW h λb u=>if(decide ((e:Int)>1200))then ak.du u (AA b 0) ak.S.z λy=>ak.cC y (AA b 0) λr0=>R (.T #[r0.agg,.I 2]) y else Cl 114 #[.L s e q,.I 0] u λK' k'=>aa.EX λG=> ∃K T,K'=.T #[G.agg,.I K,.I T]/\aa.NW k' λB l'=>aa.du l' (AA B 0) G λH=>if(T !=0)then ak.du H (AA b 0) ak.S.z λD=>ak.cC D (AA b 0) λm'=>R (.T #[m'.agg,.I T]) D else aG (λ(s':Bool) (E:ai)=>if s' then ak.du E (AA b 0) ak.S.z λF=>ak.cC F (AA b 0) λn'=>R (.T #[n'.agg,.I 3]) F else ak.NW E λd j=>Hl j B 3 λy' x' _=>Bd 0 x'/\aN y' λb'=>aa.cC j (b'.add (toNat 0*4)) λz'=>Cl 115 #[z'.agg] j λL' e'=>aE.EX λS=> ∃k,L'=.T #[S.agg,.I k]/\aE.du e' (AA d 0) S λg=>if(k !=0)then ak.du g (AA b 0) ak.S.z λv=>ak.cC v (AA b 0) λo'=>R (.T #[o'.agg,.I k]) v else Hl g B 3 λB' m A'=>((0:Int)<=1/\1<=(m:Int))/\∃(I:Int->ai->Prop)(M:Int->ai->Nat),I 0 g/\∀(t:Int)(c:ai),I t c->if(decide (t<((m - (toNat 1):Nat):Int)))then((0:Int)<=t/\t<((m - (toNat 1):Nat):Int))/\aN (cQ B' A' (toNat 1) 4) λc'=>aa.cC c (c'.add (toNat t*4)) λC'=>aa.NW c λo f'=>aa.du f' (AA o 0) C' λw=>aa.cC w (AA o 0) λD'=>Cl 116 #[D'.agg] w λM' g'=>ay.EX λU=> ∃n,M'=.T #[U.agg,.I n]/\ay.NW g' λp h'=>ay.du h' (AA p 0) U λf=>if(n !=0)then ak.du f (AA b 0) ak.S.z λx=>ak.cC x (AA b 0) λp'=>R (.T #[p'.agg,.I n]) x else Hl f d 20 λG' F' E'=>ay.cC f (AA p 0) λH'=>bf f (.C H'.arr 204) λd' i'=>aT Tryz.prog (Builtin.append_ #[156,156] 156 #[.L G' F' E',.L (Sa d' 0) 1 1]) i' λO' j'=> ∃Z X V,O'=.L Z X V/\aJ j' (AA d 20) (.L Z X V) λz=>(I (wrap .i64 (t+1)) z/\M (wrap .i64 (t+1)) z<M t c)else ak.cC c (AA d 0) λI'=>Cl 117 #[I'.agg] c λP' i=> ∃a',P'=.B a'/\if(!a')then ak.du i (AA b 0) ak.S.z λA=>ak.cC A (AA b 0) λq'=>R (.T #[q'.agg,.I 3]) A else ak.cC i (AA d 0) λJ'=>ak.du i (AA b 0) J' λC=>ak.cC C (AA b 0) λr'=>R (.T #[r'.agg,.I 0]) C) (λJ=>if(K !=(e:Int))then J true H else∃O,Cc H B 0 (.I O)/\if(O !=4)then J true H else∃u' P t',Cc H B 3 (.L u' P t')/\if(decide (((P:Nat):Int)<2))then J true H else∃w' Q v',Cc H B 3 (.L w' Q v')/\J (decide (((Q:Nat):Int)>9)) H)):Cl 74 #[.L s e q] h R:=aS [(21,.join [(27,.one (.bool))]),(43,.loop [(67,.one (.int .i64))])] Tryz.func74 hv
theorem AP.walk (n:bf h (.C b.arr 158) λB H=> ∃s i q,Cc H B 20 (.L s i q)/\if(((i:Nat):Int)==0)then R (.Z) H else∃k j u,Cc H B 20 (.L k j u)/\∃p t o,Cc H B 20 (.L p t o)/\((0:Int)<=wrap .i64 (((t:Nat):Int) - 1)/\wrap .i64 (((t:Nat):Int) - 1)<((j:Nat):Int))/\aN k λA=> ∃d c T,aU H ((A.add (toNat (wrap .i64 (((t:Nat):Int) - 1))*5)).add 4)=some (.L d c T)/\Cl 54 #[.L d c T] H λv m=> ∃g f e,v=.L g f e/\R (.L g f e) m):Cl 148 #[b.agg] h R:=aS [] Tryz.func148 n
theorem Ew.walk(s:bf h (.C r.arr 211) λb H=> ∃m,Cc H b 0 (.B m)/\if m then∃T,Cc H b 3 (.U T)/\if(decide (T<=255))then∃e,Cc H b 4 (.U e)/\if(decide (e<=1099511627776))then ah.cC H (AA b 5) λu=>Cl 218 #[u.agg] H λv o=> ∃i,v=.B i/\R (.B i) o else R (.B false) H else R (.B false) H else∃n,Cc H b 1 (.B n)/\if n then∃c,Cc H b 3 (.U c)/\if(decide (c<=255))then∃f,Cc H b 4 (.U f)/\if(decide (f<=1099511627776))then ah.cC H (AA b 5) λw=>Cl 218 #[w.agg] H λV p=> ∃j,V=.B j/\R (.B j) p else R (.B false) H else R (.B false) H else∃t,Cc H b 2 (.B t)/\if t then∃d,Cc H b 3 (.U d)/\if(decide (d<=255))then∃g,Cc H b 4 (.U g)/\if(decide (g<=1099511627776))then ah.cC H (AA b 5) λx=>Cl 218 #[x.agg] H λy q=> ∃k,y=.B k/\R (.B k) q else R (.B false) H else R (.B false) H else R (.B false) H):Cl 236 #[r.agg] h R:=aS [] Tryz.func236 s
theorem I1.walk(y:aa.NW h λb q=>Cl 162 #[.Z] q λv s=>aa.EX λo=>v=o.agg/\aa.NW s λB u=>aa.du u (AA B 0) o λw=> ∃(I:Int->ai->Prop)(m:Int->ai->Nat),I 0 w/\∀(t:Int)(H:ai),I t H->if(decide (t<(l:Int)))then Bd t l/\aN L λA=>uk H (A.add (toNat t*1)) λC=>aG (λ(n:Int) (c:ai)=>Hl c B 3 λF E D=>Cl 199 #[.U n] c λV d=>aa.EX λT=>V=T.agg/\Kp c d [(Sa B 3)]/\bf d (.C T.arr 198) λp g=>Kp d g [(Sa B 3)]/\aT Tryz.prog (Builtin.append_ #[196,196] 196 #[.L F E D,.L (Sa p 0) 1 1]) g λK x=> ∃k j i,K=.L k j i/\aJ x (AA B 3) (.L k j i) λe=>(I (wrap .i64 (t+1)) e/\m (wrap .i64 (t+1)) e<m t H)) (λJ=>if C then J 1 H else J 0 H)else aa.cC H (AA B 0) λG=>aa.du H (AA b 0) G λf=>aa.cC f (AA b 0) λz=>R (z.agg) f):Cl 237 #[.L L l a] h R:=aS [(8,.loop [(10,.one (.int .i64))]),(24,.join [(6,.one (.int .u64))]),(27,λ_=>pK 8)] Tryz.func237 y
theorem Ex.walk(hv:bf h (.C r.arr 211) λb n=>ah.cC n (AA b 5) λt8=>Cl 202 #[t8.agg] n λx' n'=>aa.EX λa'=> ∃b',x'=.T #[a'.agg,.I b']/\aa.NW n' λB u'=>aa.du u' (AA B 0) a' λg=>aG (λ(w':Bool) (H:ai)=>if w' then R (.T #[.Z,.I 3]) H else Hb H b 0 λs=>Hb H b 1 λu=>Hb H b 2 λv=>Hu H b 3 λy=>Hu H b 4 λC=>aa.cC H (AA B 0) λF=>(Cl 199 #[.U 1] H λy' i=>aa.EX λT=>y'=T.agg/\Kp H i [(Sa B 0),(Sa b 4),(Sa b 3),(Sa b 2),(Sa b 1),(Sa b 0)]/\bf i (.C #[.B s,.B u,.B v] 4) λc' j=>Kp i j [(Sa B 0),(Sa b 4),(Sa b 3)]/\Cl 237 #[.L (Sa c' 0) 3 3] j λF' k=>aa.EX λw=>F'=w.agg/\Kp j k [(Sa B 0),(Sa b 4),(Sa b 3)]/\Cl 199 #[.U y] k λG' m=>aa.EX λz=>G'=z.agg/\Kp k m [(Sa B 0),(Sa b 4)]/\Cl 199 #[.U C] m λH' o=>aa.EX λD=>H'=D.agg/\Kp m o [(Sa B 0)]/\bf o (.C (w.l++z.l++D.l++F.l).toArray 198) λd' i'=>Cl 162 #[.L (Sa d' 0) 4 4] i' λI' j'=>aa.EX λG=>I'=G.agg/\bf j' (.C (T.l++G.l).toArray 198) λe' k'=>Cl 162 #[.L (Sa e' 0) 2 2] k' λJ' l'=>aa.EX λK=>J'=K.agg/\Cl 175 #[K.agg] l' λK' m'=> ∃U Q O X,K'=.T #[.L U Q O,.I X]/\R (.T #[.L U Q O,.I X]) m')/\(bf H (.C #[.B s,.B u,.B v] 4) λf' c=>Kp H c [(Sa B 0),(Sa b 4),(Sa b 3)]/\Cl 199 #[.U 1] c λL' d=>aa.EX λq=>L'=q.agg/\Kp c d [(Sa B 0),(Sa b 4),(Sa b 3)]/\Cl 237 #[.L (Sa f' 0) 3 3] d λM' e=>aa.EX λx=>M'=x.agg/\Kp d e [(Sa B 0),(Sa b 4),(Sa b 3)]/\Cl 199 #[.U y] e λz' f=>aa.EX λA=>z'=A.agg/\Kp e f [(Sa B 0),(Sa b 4)]/\Cl 199 #[.U C] f λA' p=>aa.EX λE=>A'=E.agg/\Kp f p [(Sa B 0)]/\bf p (.C (x.l++A.l++E.l++F.l).toArray 198) λg' o'=>Cl 162 #[.L (Sa g' 0) 4 4] o' λB' p'=>aa.EX λI=>B'=I.agg/\bf p' (.C (q.l++I.l).toArray 198) λh' q'=>Cl 162 #[.L (Sa h' 0) 2 2] q' λC' r'=>aa.EX λM=>C'=M.agg/\Cl 175 #[M.agg] r' λD' s'=> ∃V S P Z,D'=.T #[.L V S P,.I Z]/\R (.T #[.L V S P,.I Z]) s')/\True) (λJ=>if(b' !=0)then J true g else aK.cC g (AA b 0) λv'=>Cl 236 #[v'.agg] g λE' t'=> ∃t,E'=.B t/\J (!t) t')):Cl 209 #[r.agg] h R:=aS [(6,.join [(18,.one (.bool))]),(13,λ_=> .iZ (fC 6 1 (.op 9 (.op 10 (.op 12 (.op 13 (.op 15 (.alts (.fork 0 (.op 7 (.op 8 (.op 11 (.op 14 (fC 9 16 .done))))) (.fork 7 (.op 0 (.op 8 (.op 11 (.op 14 (fC 9 16 .done))))) .gw))))))))))] Tryz.func209 hv
theorem Cf.walk{D:aw.S}{id:ah.S}{m:Int}(E:bf h (.C r.arr 211) λb x=>bf x (.C D.arr 29) λs y=>bf y (.C id.arr 82) λu z=>ak.NW z λB i=>aK.cC i (AA b 0) λJ=>Cl 209 #[J.agg] i λv H=> ∃p o n e,v=.T #[.L p o n,.I e]/\if(e !=0)then ak.du H (AA B 0) ak.S.z λj=>ak.cC j (AA B 0) λF=>R (.T #[F.agg,.I e]) j else aw.cC H (AA s 0) λT=>ah.cC H (AA u 0) λt=>bf H (.C #[.U 1,.U 1,.U 0,.I 0,.L p o n] 204) λw A=>ak.NW A λc C=>ak.du C (AA c 0) ⟨2,0,T.f0,T.f1,T.f2,T.f3,T.f4,false,0,0,ij,ij,t.f0,t.f1,t.f2,t.f3,t.f4,t.f5,t.f6,m,(Sa w 0),1,1⟩ λk=>ak.cC k (AA c 0) λK=>Cl 117 #[K.agg] k λV d=> ∃q,V=.B q/\if(!q)then ak.du d (AA B 0) ak.S.z λf=>ak.cC f (AA B 0) λG=>R (.T #[G.agg,.I 3]) f else ak.cC d (AA c 0) λM=>ak.du d (AA B 0) M λg=>ak.cC g (AA B 0) λI=>R (.T #[I.agg,.I 0]) g):Cl 188 #[r.agg,D.agg,id.agg,.U m] h R:=aS [] Tryz.func188 E

end
section
namespace Bn
open Cb
open jG (Ev dt lC)
variable {V:cG→Bool} {h d H g:ai} {R:fO} {D D':Nat→Prop}
variable {a:List nz} {q:ct} {l C:Nat}
structure BB where
 b:nz
 p:ct
 c:Nat
abbrev BB.s(x:BB):ay.S:=x.b.s x.p x.c
variable {X:List BB}
abbrev yB(x:BB):List Value:=x.s.l
theorem vN(x:BB):(yB x).length=5:=rfl
theorem OI(x:BB): ∀v∈yB x,fZ v=true:=λv c=>by
 simp only[yB,ay.S.l,bg,cN,fx]at c;rcases c with rfl|rfl|rfl|rfl|rfl<;>rfl
structure iX (h:ai) (D:Nat->Prop) (a:List nz) (q:ct) (l C:Nat) (X:List BB):Prop where
 eq:X.map BB.b=a
 len:l=a.length
 row:Row h q (X.flatMap yB)
 own:X≠ []->∀y,aP q y->D y
 cap:l<=C
 ok: ∀x∈X,BV.ok h D ⟨x.p,x.c,x.b.data⟩
theorem iX.xl(B:iX h D a q l C X):X.length=a.length:=by rw[<-B.eq,aD]
theorem iX.frame{Q:Nat->Prop}(B:iX h D a q l C X)(f:Fr Q h H)(c: ∀y,D y->¬Q y):iX H D a q l C X:=by
 refine⟨B.eq,B.len,?_,B.own,B.cap,λx j=>(B.ok x j).frame f c⟩;by_cases e:X= []
 .subst e;exact Row.nil
 .exact B.row.frame f (λA i=>c _ (B.own e _ ⟨A,i,rfl⟩))
theorem iX.on(B:iX h D a q l C X)(f:Fr No h H):iX H D a q l C X:=B.frame f bX
theorem iX.mono(B:iX h D a q l C X)(c: ∀y,D y->D' y):iX h D' a q l C X:=
 ⟨B.eq,B.len,B.row,λe y i=>c y (B.own e y i),B.cap,λx f=>(B.ok x f).mono c⟩
theorem iX.get(B:iX h D a q l C X){i:Nat}(f:i<a.length): ∃(A:Addr)(x:BB),q=some A/\dN (A.add (i*5)) x.s.l 0 h/\x.b=a[i]/\BV.ok h D ⟨x.p,x.c,x.b.data⟩/\X[i]? =some x:=by
 have xl:=B.xl;have c:X[i]? =some (X[i]' ag):=aj _;obtain⟨A,rfl⟩:=B.row.some (by intro e;have:=cf List.length e;rw[eL yB 5 vN,bG]at this;omega);refine⟨A,_,rfl,B.row.gB vN c,?_,B.ok _ (aZ c),c⟩;have:=B.eq;subst this;rw[List.getElem_map]
theorem iX.take(B:iX h D a q l C X){n:Nat}(r:n<=a.length):iX h D (a.take n) (cQ q C 0 5) (n - 0) (C - 0) (X.take n):=by
 have o:=B.cap;have p:=B.len;have f:=B.row.sub (cap:=C) (l:=0) (u:=n) (sz:=5) (bQ _) ag;rw[kH yB 5 vN,Nat.zero_mul,gx]at f;refine⟨by rw[List.map_take,B.eq],by rw[bA];omega,f,λe y k=>B.own (λi=>e (by rw[i,List.take_nil])) y ?_,ag,λx j=>B.ok x (List.mem_of_mem_take j)⟩;obtain⟨A,E,c⟩:=k;unfold cQ at E;cases q with
 |none=>split at E<;>cases E
 |some m=>
  split at E
  .cases E;exact⟨_,rfl,c⟩
  .cases E;exact⟨_,rfl,c⟩
theorem OJ{k:Nat}(c:R (.B (alone k)) h):Cl 174 #[.U (k:Int)] h R:=by
 refine Er.walk ?_;unfold alone at c;by_cases e:k=1
 .rw[av (.inl e)]at c;rw[af (by simp only[df];omega)];exact c
 rw[ae (by simp only[df];omega)];by_cases i:k=6
 .rw[av (.inr (.inl i))]at c;rw[af (by simp only[df];omega)];exact c
 rw[ae (by simp only[df];omega)];by_cases j:k=7
 .rw[av (.inr (.inr (.inl j)))]at c;rw[af (by simp only[df];omega)];exact c
 rw[ae (by simp only[df];omega)];have:((k:Int)==10)=decide (k=1\/k=6\/k=7\/k=10):=by
  by_cases f:k=10
  .rw[av (.inr (.inr (.inr f)))];simp only[df];omega
  .rw[aC ag];simp only[dz,fj];omega
 rw[this];exact c
theorem SF(U:kr V d)(p':Fr No d h)(mx:nR.Mx h)(B:iX h D a q l C X)(hl:a.length<=1000000)(hd: ∀b∈a,b.data.length<=80000)(O: hH h R (.B (BY V a))):Cl 124 #[.L q l C] h R:=by
 have el:=B.len;subst el;refine I0.walk ?_;have c:BY V a=BY V a:=rfl;conv at c=>rhs;unfold BY
 refine⟨λo g=>o=true/\g=h/\a.length<=8/\BY V a=Iy V [] a,λ_ _=>0,aG.of λf' Z=> ?_,?_⟩
 .have w:BY V a=false->f' true h:=λe=>by
   subst Z;dsimp only;rw[af rfl];have:=O h (Fr.refl _ _);rw[e]at this;exact this
  by_cases Q:a.length=0
  .rw[af (by rw[Q];decide)];have:a= []:=List.length_eq_zero_iff.1 Q;exact w (by rw[c,this];rfl)
  obtain⟨n,hn⟩: ∃n,a.length=n+1:=⟨a.length - 1,ag⟩;have ew:IntKind.wrap .i64 (((a.length:Nat):Int) - 1)=(n:Int):=by rw[hn,bJ ag ag];omega
  have o':a.getLast? =some a[n]:=by rw[List.getLast?_eq_getElem?,show a.length - 1=n by omega,aj ag]
  rw[o']at c;dsimp only at c;rw[ew,dy];by_cases G:a.length<=8
  case neg=>rw[af (by simp only[aY];omega)];exact w (by rw[c,aC G];rfl)
  rw[dy];rw[av G,eu]at c;obtain⟨A,x,rfl,v,E,_⟩:=B.get (i:=n) ag;have h':aU h (A.add (n*5))=some (.U ((a[n].ty:Nat):Int)):=by rw[<-E];exact v.1
  have i':aU h ((A.add (n*5)).add 1)=some (.U ((a[n].nr:Nat):Int)):=by rw[<-E];exact v.2.1
  refine⟨ag,ax.2 ⟨_,by rw[aH];exact h',?_⟩⟩;by_cases f:a[n].ty=1
  case neg=>rw[af (by simp only[dw,fj];omega)];exact w (by rw[c,aC (λe=>f e.1)];rfl)
  rw[ae (by simp only[dw,fj];omega)];refine⟨ag,ax.2 ⟨_,by rw[aH];exact i',?_⟩⟩;by_cases j:a[n].nr=1
  case neg=>rw[show(((a[n].nr:Nat):Int) !=1)=true by simp only[dw,fj];omega];exact w (by rw[c,aC (λe=>j e.2)];rfl)
  rw[show(((a[n].nr:Nat):Int) !=1)=false by simp only[gu];omega];subst Z;dsimp only;rw[dy];exact⟨rfl,rfl,G,by rw[c,av ⟨f,j⟩];rfl⟩
 rintro _ h ⟨rfl,rfl,l8,hf⟩;clear c;refine aG.of λJ1 b'=> ?_
 refine⟨λo t g=> ∃i:Nat,t=(i:Int)/\i<=a.length/\o=true/\Fr No h g/\Iy V [] a=Iy V (a.take i) (a.drop i),λ_ t _=>a.length - t.toNat,⟨0,rfl,bQ _,rfl,Fr.refl _ _,rfl⟩,?_⟩;rintro _ _ g ⟨i,rfl,hi,rfl,F,m⟩;by_cases s:i<a.length
 case neg=>
  rw[ae (λe=>s (bW (aV e)))];subst b';have:=O g F;rw[hf,m,dE ag]at this;exact this
 rw[gi];have Bg:=B.on F;obtain⟨A,x,rfl,v,E,e',_⟩:=Bg.get s;rw[cP s]at m;have lx:x.b.data.length<=80000:=by rw[E];exact hd _ (dF s)
 refine⟨ag,ax.2 (ay.jQ (x:=x.s) (by rw[aH];exact v) (ay.fK (x:=x.s) λb h6 eb hb u=>ay.fz hb (xd x.b U (p'.tt (F.tt u)) (mx.on (F.tt u)) (e'.frame u bX).row e'.cap lx λh7 T=>⟨_,rfl,⟨ag,bW B.cap⟩,?_⟩)))⟩;have P:=u.tt T;have l':=T.get hb id;have z7:=F.tt P;rw[E];have eP: ∀r,Iy V (a.take i) (a[i]::r)=(jI V a[i] && (a.take i).all (apart a[i]) && Iy V (a.take i++ [a[i]]) r):=λr=>rfl
 rw[eP]at m;refine⟨λo t K=> ∃k:Nat,t=(k:Int)/\k<=i/\o=(jI V a[i] && (a.take k).all (apart a[i]))/\Fr No h7 K,λ_ t _=>i - t.toNat,⟨0,rfl,bQ _,bU,Fr.refl _ _⟩,?_⟩;rintro o _ K ⟨k,rfl,r',d',J⟩;have ei:((Int.toNat (i:Int)) - 0:Nat)=i:=ag
 rw[ei];have z:=F.tt (P.tt J);by_cases n':k<i
 case neg=>
  rw[ae (λe=>n' (bW (aV e)))];have:k=i:=ag
  subst this;rw[<-d']at m;cases o with
  |false=>
   rw[gi];subst b';have:=O K z;rw[hf,m]at this;exact this
  |true=>
   rw[dy,bJ (n:=(k:Int)+1) ag ag];refine⟨⟨k+1,ag,ag,rfl,z,?_⟩,by show a.length - Int.toNat ((k:Int)+1)<a.length - Int.toNat (k:Int);omega⟩;rw[m,eu,bO,aj s];rfl
 rw[gi];refine aG.of λJ2 j'=> ?_
 have B2:=(B.on z).take (n:=i) ag;have lt:(a.take i).length=i:=by rw[bA];omega
 obtain⟨a',y,g',m',I,s',_⟩:=B2.get (i:=k) ag;rw[List.getElem_take]at I;have lk:k<a.length:=ag
 have ek:a.take (k+1)=a.take k++ [a[k]]:=by rw[bO,aj lk];rfl
 refine⟨ag,bT.2 ⟨a',g',ay.jQ (x:=y.s) (by rw[aH];exact m') (ay.fK (x:=y.s) λb1 p q' c' S=>aG.of λJ3 k'=> ?_)⟩⟩;have M:=(J.tt S).get l' id;have go: ∀r L,Fr No p L->r=(o && apart a[i] a[k])->J3 r L:=by
  intro r L f2 er;subst k' j';dsimp only;rw[bJ (n:=(k:Int)+1) ag ag];refine⟨⟨k+1,ag,ag,?_,J.tt (S.tt f2)⟩,by show i - Int.toNat ((k:Int)+1)<i - Int.toNat (k:Int);omega⟩;rw[er,d',ek,List.all_append,<-Bool.and_assoc];simp
 cases hq:o with
 |false=>rw[dy];exact go false p (Fr.refl _ _) (by rw[hq];rfl)
 |true=>
 rw[af rfl];refine⟨_,au c',_,au M,?_⟩;rw[hq]at go;have n1:(((y.s.f1:Int) !=x.s.f1)=decide (a[k].nr≠a[i].nr)):=by
  show((y.b.nr:Int) !=(x.b.nr:Int))=_;rw[I,E];by_cases e:a[k].nr=a[i].nr
  .rw[aC (λq=>q e),e];simp
  .rw[av e];simp only[dw,fj];omega
 have n2:(((y.s.f0:Int) !=x.s.f0)=decide (a[k].ty≠a[i].ty)):=by
  show((y.b.ty:Int) !=(x.b.ty:Int))=_;rw[I,E];by_cases e:a[k].ty=a[i].ty
  .rw[aC (λq=>q e),e];simp
  .rw[av e];simp only[dw,fj];omega
 rw[n1];by_cases f:a[k].nr≠a[i].nr
 case neg=>rw[ae (cR f)];exact go false p (Fr.refl _ _) (by unfold apart;rw[aC f];rfl)
 rw[af (av f)];refine⟨_,au c',_,au M,?_⟩;rw[n2];by_cases j:a[k].ty≠a[i].ty
 .rw[af (av j)];exact go true p (Fr.refl _ _) (by unfold apart;rw[av f,av j];rfl)
 rw[ae (cR j)];refine⟨_,au M,?_⟩;rw[show x.s.f0=((a[i].ty:Nat):Int) by rw[<-E]];exact OJ ⟨_,rfl,go _ p (Fr.refl _ _) (by unfold apart;rw[av f,aC j];rfl)⟩
theorem GS(t:Tr):(As V t).length<=room t:=by
 unfold As;split
 .exact kV t
 .exact bQ _
theorem Kn{t:Tr}{x:CV}(U:kr V d)(u:Fr No d h)(T:gP h D t x)(j:room t<=1000000)(i: ∀H p c (q:Int),Own H p (As V t).length c 1 (bc (As V t))->(∀y,aP p y->h.size<=y)->Fr No h H->R (.T #[.slice p (As V t).length c,.I q]) H):Cl 175 #[x.agg] h R:=by
 unfold As at i;refine w5 U u T j (λe H p c o n f=> ?_) (λe H f=> ?_)
 .rw[af e]at i;exact i H p c 0 o n f
 .rw[e,dy]at i;exact i H none 0 3 (.nil rfl rfl rfl rfl) (λy ⟨A,e,_⟩=>by cases e) f
abbrev mq.s(b:mq)(q:ct)(C:Nat):ak.S:=⟨b.p.fl,b.p.sum,b.p.dest.lE,b.p.dest.node,b.p.dest.gL,b.p.dest.host,b.p.dest.jZ,b.p.rep.lE,b.p.rep.node,b.p.rep.gL,b.p.rep.host,b.p.rep.jZ,b.p.id.e.lE,b.p.id.e.node,b.p.id.e.gL,b.p.id.e.host,b.p.id.e.jZ,b.p.id.tm,b.p.id.sq,b.p.fT,q,b.bl.length,C⟩
variable {b:mq}
theorem UO{b:Nat}{x:mq}{K:aE.S->Prop}(c:ak.fD h b (x.s q C))(e:K x.p.s):aE.cC h (AA b 0) K:=
 ⟨_,au c,_,au c,_,au c,_,au c,_,au c,_,au c,_,au c,_,au c,_,au c,_,au c,_,au c,_,au c,_,au c,_,au c,_,au c,_,au c,_,au c,_,au c,_,au c,_,au c,e⟩
theorem OK(m':b.p.wf)(U:kr V d)(u:Fr No d h)(mx:nR.Mx h)(B:iX h D b.bl q b.bl.length C X)(hl:b.bl.length<=8)(hd: ∀b'∈b.bl,b'.data.length<=80000)(k1: ∀o,rL V b=some o->o.length<=5000->∀H p c,Own H p o.length c 1 (bc o)->(∀y,aP p y->h.size<=y)->Fr No h H->R (.T #[.L p o.length c,.B true]) H)(S:rL V b=none->hH h R (.T #[.Z,.B false])):Cl 125 #[(b.s q C).agg] h R:=by
 refine Es.walk (ak.cW λb1 h1 o' Q K=>UO Q (OG b.p m' U (u.tt K) λh2 d' qz z0 z1 M=>aa.ex d'.s ⟨_,rfl,aa.fK (x:=d'.s) λb2 h4 q' i' w=> ?_⟩));have r:=K.tt (M.tt w);have m:rL V b=rL V b:=rfl;conv at m=>rhs;unfold rL
 cases n:ot V b.p with
 |error e=>rw[af (cR (z1 e n))];exact S (by rw[m,n]) h4 r
 |ok t=>
 obtain⟨rfl,tz⟩:=z0 t n;rw[n]at m;dsimp only at m;rw[dy];have rt:=AL n;have le:=GS (V:=V) t;refine aa.fz i' (Kn U (u.tt r) (tz.on w) ag λh5 p5 c5 q5 o5 n5 O=>⟨_,_,_,_,rfl,_,_,_,au ((M.tt (w.tt O)).get Q id),?_⟩);have F5:=r.tt O;have z4:=r.1;refine⟨λp l c t g=> ∃(i:Nat)(o:cG),t=(i:Int)/\i<=b.bl.length/\l=o.length/\Own g p o.length c 1 (bc o)/\(∀y,aP p y->h.size<=y)/\Fr No h g/\rL V b=Gk V (b.bl.drop i) o/\o.length<=1100+400*i,λ_ _ _ t _=>b.bl.length - t.toNat,⟨0,As V t,rfl,bQ _,rfl,o5,λy z=>bW (n5 y z),F5,m,ag⟩,?_⟩;rintro p _ c _ g ⟨i,o,rfl,hi,rfl,ow,E,F,f,v'⟩;have lb:(b.s q C).Iv=b.bl.length:=rfl;by_cases s:i<b.bl.length
 case neg=>
  rw[ae (λe=>s (bW (aV e)))];rw[dE ag]at f;exact k1 o f ag g p c ow E F
 rw[gi];obtain⟨A,x,rfl,hh,J,a',_⟩:=(B.on F).get s;have lx:x.b.data.length<=80000:=by rw[J];exact hd _ (dF s)
 refine⟨ag,ax.2 (ay.jQ (x:=x.s) (by rw[aH];exact hh) (ay.fK (x:=x.s) λb3 h8 r' j' k=>ay.fz j' (Km x.b U (u.tt (F.tt k)) (mx.on (F.tt k)) (a'.frame k bX).row a'.cap lx λh9 y qy y0 y1 P=>aa.ex y.s ⟨_,rfl,aa.fK (x:=y.s) λb4 h' s' k' v=> ?_⟩)))⟩;have I:=F.tt (k.tt (P.tt v));rw[J]at y0 y1;rw[cP s]at f;have hB: ∀L,Gk V (b.bl[i]::L) o=(match sV V b.bl[i]with| .error _=>none| .ok t=>Gk V L (o++As V t)):=λL=>rfl
 rw[hB]at f;cases j:sV V b.bl[i]with
 |error e=>rw[af (by rw[y1 e j];simpa using GQ j)];exact S (by rw[f,j]) h' I
 |ok T=>
 obtain⟨rfl,ty⟩:=y0 T j;rw[j]at f;dsimp only at f;rw[dy];have A':=Db j;have w':=GS (V:=V) T;refine aa.fz k' (Kn U (u.tt I) (ty.u.on v) ag λt' y' n' z' l' x' e'=>⟨_,_,_,_,rfl,?_⟩);have G:=k.tt (P.tt (v.tt e'));refine dR mi.tU mi.uU (ow.frame G bX) l'.iz (by rw[kR,cE]) (rB _) ag ag λp' c' u' Z _ f' g'=>⟨_,_,_,rfl,?_⟩
 rw[bJ (n:=(i:Int)+1) ag ag];rw[<-kF,<-aB]at Z;have zG:=(F.tt G).1;refine⟨⟨i+1,o++As V T,ag,ag,by rw[aB],Z,λy z=> ?_,(F.tt G).fresh f' E,f,by rw[aB];omega⟩,by show b.bl.length - Int.toNat ((i:Int)+1)<b.bl.length - Int.toNat (i:Int);omega⟩;rcases g' y z with A|A
 .exact E y A
 .omega
theorem Ey(b':b.p.wf)(U:kr V d)(u:Fr No d h)(P:nR.Mx h)(B:iX h D b.bl q b.bl.length C X)(hl:b.bl.length<=1000000)(M: ∀T∈b.bl,T.data.length<=80000)(k1: ∀o,jN V b=some o->o.length<=600->∀H p c,Own H p o.length c 1 (bc o)->(∀y,aP p y->h.size<=y)->Fr No h H->R (.T #[.L p o.length c,.I 0]) H)(K:jN V b=none->hH h R (.T #[.Z,.I 3])):Cl 79 #[(b.s q C).agg] h R:=by
 have i:jN V b=jN V b:=rfl;conv at i=>rhs;unfold jN
 refine Eu.walk (ak.cW λb1 h1 c' L k=>⟨_,_,_,au L,SF U (u.tt k) (P.on k) (B.on k) hl M λh2 G=>⟨_,rfl,?_⟩⟩);have F:=k.tt G;cases j:BY V b.bl with
 |false=>rw[gi];exact K (by rw[i,j];rfl) h2 F
 |true=>
 rw[j,af rfl]at i;rw[dy];have l8:b.bl.length<=8:=by
  unfold BY at j;split at j
  .cases j
  .simp only[aW,aY]at j;exact j.1.1
 refine ak.fz (G.get L id) (OK b' U (u.tt F) (P.on F) (B.on F) l8 M (λo ho lo f p c ow nw m=>⟨_,_,_,_,rfl,aG.of λJ t=> ?_⟩) (λhn f m=>⟨_,_,_,_,rfl,aG.of λJ t=> ?_⟩))
 case refine_2=>
  rw[gi];subst t;dsimp only;rw[af rfl];exact K (by rw[i,hn]) f (F.tt m)
 rw[ho]at i;dsimp only at i;rw[dy];subst t;dsimp only;by_cases z:o.length<=598
 case neg=>rw[af (by simp only[aY];omega)];exact K (by rw[i,ae z]) f (F.tt m)
 rw[dy];rw[af z]at i;have x:=F.tt m;have z3:=x.1;refine cT ?_;have r:Fr No f (f.push (.C #[.int .u8 159] 5)):=Fr.push _ _;have o5:Own (f.push (.C #[.int .u8 159] 5)) (Sa f.size 0) 1 1 1 (bc [159]):=by
  exact .row f.size 0 #[.int .u8 159] 5 rfl bZ (bp _) bU rfl (λa' d' v=>by
   match a',v with
   |0,v=>exact v)
 refine dR mi.tU mi.uU o5 ((ow.frame r bX).iz) (by rw[kR,cE]) (rB _) ag ag λp6 c6 n o6 _ I g6=>⟨_,_,_,rfl,cT ?_⟩
 have s:Fr No n (n.push (.C #[.int .u8 255] 5)):=Fr.push _ _;have z5:=r.1;have z6:=I.1;have z7:=s.1;refine dR mi.tU mi.uU (o6.frame s bX) (q:=some (AA n.size 0)) (ds:=bc [255]) ju rfl (rB _) ag ag λp8 Z h8 O _ f8 g8=>⟨_,_,_,rfl,?_⟩
 rw[<-kF,<-kF]at O;have el:1+o.length+1=(159::(o++ [255])).length:=by simp;omega
 rw[el]at O⊢;have Q: ∀y,aP p6 y->f.size<=y:=λy w=>by
  rcases g6 y w with⟨A,e,E⟩|A
  .cases e;rw[<-E];exact bp _
  .omega
 have S:Fr No f n:=r.fresh I (λy ⟨A,e,E⟩=>by cases e;rw[<-E];exact bp _);refine k1 _ i (by simp;omega) h8 p8 Z O (λy w=> ?_) (x.tt ((S.tt s).fresh f8 Q));rcases g8 y w with A|A
 .have:=Q y A;omega
 .omega
theorem sJ(w:b.p.wf)(U:kr V d)(u:Fr No d h)(M:nR.Mx h)(B:iX h D b.bl q b.bl.length C X)(n:b.bl.length<=1000000)(m: ∀j∈b.bl,j.data.length<=80000)(i: hH h R (.B (jN V b).isSome)):Cl 117 #[(b.s q C).agg] h R:=by
 refine Et.walk (ak.cW λs t E k f=>ak.fz k (Ey w U (u.tt f) (M.on f) (B.on f) n m (λO r L e p c x v F=>⟨_,_,_,_,rfl,?_⟩) (λo e F=>⟨_,_,_,_,rfl,?_⟩)))
 .have:=i e (f.tt F);rw[r]at this;exact this
 .have:=i e (f.tt F);rw[o]at this;exact this
theorem AQ{b : mq}{q : Option Addr}{C : Nat}{X : List BB}(B : iX h D b.bl q b.bl.length C X)(Q : b.bl.length ≤ 1000000)(w : ∀ k ∈ b.bl, k.data.length ≤ 80000)(i : ∀ H p c, Own H p (rN b).length c 1 (bc (rN b)) → (∀ y, aP p y → h.size ≤ y) → Fr No h H → R (.slice p (rN b).length c) H): Cl 148 #[(b.s q C).agg] h R := by
  have L : (b.s q C).Iv = b.bl.length := rfl
  refine AP.walk (ak.cW λM u P j f => ⟨_, _, _, cB j rfl, ?_⟩)
  by_cases m : b.bl.length = 0
  · rw [if_pos (by simp only [beq_iff_eq]; omega)]
    have r : b.bl = [] := List.length_eq_zero_iff.1 m
    have : rN b = [] := by unfold rN; rw [r]; rfl
    rw [this] at i
    exact i u none 0 (.nil rfl rfl rfl rfl) (λy ⟨A, e, _⟩ => by cases e) f
  rw [if_neg (by simp only [beq_iff_eq]; omega)]
  obtain ⟨n, I⟩ : ∃ n, b.bl.length = n + 1 := ⟨b.bl.length - 1, by omega⟩
  have t : IntKind.wrap .i64 (((b.bl.length : Nat) : Int) - 1) = (n : Int) := by rw [I, bJ (by omega) (by omega)]; omega
  have G : b.bl.getLast? = some b.bl[n] := by rw [List.getLast?_eq_getElem?, show b.bl.length - 1 = n by omega, List.getElem?_eq_getElem (by omega)]
  have s : rN b = b.bl[n].data := by unfold rN; rw [G]
  refine ⟨_, _, _, cB j rfl, _, _, _, cB j rfl, ?_⟩
  rw [L, t]
  obtain ⟨A, x, rfl, z, E, O, _⟩ := (B.on f).get (i := n) (by omega)
  refine ⟨⟨by omega, by omega⟩, ax.2 ⟨_, _, _, by rw [Int.toNat_natCast]; exact z.2.2.2.2.1, mi.gE O.row rfl (by have := w _ (List.getElem_mem (show n < b.bl.length by omega)); rw [← E] at this; show x.b.data.length ≤ _; omega) λp c v o F K => ⟨_, _, _, rfl, ?_⟩⟩⟩
  rw [s, ← E] at i
  exact i v p c o (λy J => by have := K y J; have := f.1; omega) (f.tt F)

end Bn
end
section
namespace Bn
open Cb
open jG (Ev dt lC)
variable {V:cG→Bool} {h d H g G:ai} {R:fO} {D:Nat→Prop}
variable {b cl c l:Nat} {q:ct} {p:Prim} {a:List nz} {X:List BB}
theorem tK:oC Tryz.prog 156 204 5 56 (.agg #[.U 0,.U 0,.U 0,.I 0,.Z]):=⟨dA,dA,rfl⟩
theorem uK:Tryz.prog.underlying 156=some (.slice 204):=dA
theorem OL{x:mq}{K:ai->Prop}(k:ak.fD h b (x.s q cl))(n: ∀H,ak.fD H b (mq.s ⟨p,x.bl⟩ q cl)->Fr (λy=>y=b) h H->K H):aE.du h (AA b 0) p.s K:=
 (show dV (AA b 0) p.s.l 0 h K from lP (off:=0) (ws:=(mq.s ⟨p,x.bl⟩ q cl).l) k (by show 0+20<=21;omega) rfl rfl λj e f i=>n j e (Fr.of_eq f λC m=>i C m))
theorem AR{y x:ak.S}{K:ak.S->ai->Prop}(i:ak.fD h b y)(j: ∀H,Fr (λy=>y=b) h H->K x H):
  ak.du h (AA b 0) x λg=>ak.cC g (AA b 0) λr=>K r g:=
 ak.gX (x:=x) i λg e f _=>ak.fz e (j g f)
structure Bc (G g:ai) (c:Nat) (p:Prim) (a:List nz) (X:List BB) (q:ct) (cl:Nat):Prop where
 di:ak.fD g c (mq.s ⟨p,a⟩ q cl)
 own:Own g q X.length cl 5 (X.flatMap yB)
 ge: ∀y,aP q y->G.size<=y/\y≠c
 eq:X.map BB.b=a
 ok: ∀x∈X,BV.ok g (λy=>(G.size<=y/\y≠c)/\¬aP q y) ⟨x.p,x.c,x.b.data⟩
 fr:Fr (λy=>y=c) G g
theorem Bc.on(L:Bc G g c p a X q cl)(f:Fr No g H):Bc G H c p a X q cl:=
 ⟨f.get L.di id,L.own.frame f bX,L.ge,L.eq,λx e=>(L.ok x e).frame f bX,L.fr.on f⟩
theorem Bc.len(L:Bc G g c p a X q cl):X.length=a.length:=by rw[<-L.eq,aD]
theorem Bc.to(L:Bc G g c p a X q cl):iX g (λy=>G.size<=y/\y≠c) a q a.length cl X:=
 ⟨L.eq,rfl,L.own.iz,λ_=>L.ge,iJ L.own.le L.len,λx e=>(L.ok x e).mono λy f=>f.1⟩
theorem Vk{x:BB}{v:ai->Prop}(L:Bc G g c p a X q cl)(hl:l=X.length)(ll:X.length<=1000000)(ox:BV.ok g (λy=>(G.size<=y/\y≠c)/\¬aP q y) ⟨x.p,x.c,x.b.data⟩)(hk: ∀k c' Q C,Bc G k c p (a++ [x.b]) c' Q C->g.size<=k.size->v k):
  bf g (.C x.s.arr 204) λz S=>aT Tryz.prog (Builtin.append_ #[156,156] 156 #[.L q l cl,.L (Sa z 0) 1 1]) S λb' U=>
   ∃u T t,b'=.L u T t/\aJ U (AA c 20) (.L u T t) λZ=>v Z:=by
 subst hl;refine ay.cW λb2 h7 d' r F=> ?_
 have z7:=F.1;have zg:=L.fr.1;have e':=aA r;have f':=aA L.di;have nq: ∀y,aP q y->y<g.size:=λy f=>L.own.dI f
 refine dR tK uK (L.own.frame F bX) (ds:=yB x) (.inr ⟨_,rfl,ay.Ax (x:=x.s) r⟩) rfl (OI x) ag ag λQ C P a' _ i o=>⟨_,_,_,rfl,?_⟩
 have B:=i.get (F.get L.di id) (λf=>(L.ge _ f).2 rfl);refine bk B (by show 20<21;omega) λm I J K=> ?_
 have j:Fr (λy=>y=c) P m:=Fr.of_eq J (λE hc=>K E hc);have s: ∀y,aP Q y->G.size<=y/\y≠c:=λy f=>by
  rcases o y f with A|A
  .exact L.ge y A
  .omega
 have M:X.flatMap yB++yB x=(X++ [x]).flatMap yB:=by rw[cS,List.flatMap_singleton]
 have O:(a++ [x.b]).length=X.length+1:=by rw[aB,L.len];rfl
 refine hk m (X++ [x]) Q C ⟨?_,?_,s,?_,?_,?_⟩ ?_
 .unfold ak.fD mq.s;rw[O];exact I
 .rw[aB,<-M];exact a'.frame j (λy f e=>bW (s y f))
 .rw[ba,L.eq];rfl
 .intro y f;have key: ∀w:BB,BV.ok g (λy=>(G.size<=y/\y≠c)/\¬aP q y) ⟨w.p,w.c,w.b.data⟩->BV.ok m (λy=>(G.size<=y/\y≠c)/\¬aP Q y) ⟨w.p,w.c,w.b.data⟩:=λw ow=>by
   have o1:=((Gn ow).frame F bX).frame i (λy f n=>f.1.2 n);have o2:=o1.mono (D':=λy=>(G.size<=y/\y≠c)/\¬aP Q y) (λy f=>⟨f.1.1,λn=>by
    rcases o y n with A|A
    .exact f.1.2 A
    .have:=f.2;omega⟩)
   exact o2.frame j (λy f e=>ag)
  rcases bH.1 f with A|A
  .exact key y (L.ok y A)
  .rw[bP.1 A];exact key x ox
 .exact((L.fr.on F).trans i (S'':=λy=>y=c) bX (λx hx f=>bW (L.ge x f))).trans j bX bX
 .have:=i.1;omega
theorem OM{t:Tr}{b:nz}(h:Ar V t=.ok b):b.data.length<=200:=by
 unfold Ar at h;split at h
 .cases h
 .split at h
  .split at h
   .rename_i e;split at h
    .cases h;unfold sV at e;split at e
     .rename_i f;exact(xe f).2.2.1
     .cases e
    .cases h
   .cases h
  .cases h
theorem ON{b:mq}(h:(jN V b).isSome=true):b.bl.length<=8/\b.bl≠ []:=by
 unfold jN at h;split at h
 .rename_i f;unfold BY at f;split at f
  .cases f
  .rename_i i;simp only[aW,aY]at f;exact⟨f.1.1,λe=>by rw[e]at i;cases i⟩
 .cases h
def mq.zs:ak.S:=.z
theorem zx{a:cG}{p:ct}{k':Nat}(U:kr V d)(c':Fr No d h)(mx:nR.Mx h)(J':Row h p (bc a))(hl:l=a.length)(cap:a.length<=k')(k1: ∀b,kW V a=.ok b->b.p.wf->(∀s∈b.bl,s.data.length<=200)->b.bl.length<=8->∀H q cl X,iX H (λy=>h.size<=y) b.bl q b.bl.length cl X->Fr No h H->R (.T #[(b.s q cl).agg,.I 0]) H)(k2: ∀e,kW V a=.error e->e≠0->hH h R (.T #[ak.S.z.agg,.I e])):Cl 74 #[.L p l k'] h R:=by
 subst hl;have k:kW V a=kW V a:=rfl;conv at k=>rhs;unfold kW
 refine GR.walk (ak.cW λb h1 eb hb A=> ?_);have zb:=aA hb;have z1:=A.1;have J: ∀g e,Fr No h1 g->kW V a=.error e->e≠0->ak.du g (AA b 0) .z λv=>ak.cC v (AA b 0) λI'=>R (.T #[I'.agg,.I e]) v:=λg e fg j m=>
  AR (fg.get hb id) λv f=>k2 e j m v ((A.tt fg).fresh f (λy e=>ag))
 by_cases c0:a.length<=1200
 case neg=>rw[af (by simp only[aY];omega)];exact J h1 2 (Fr.refl _ _) (by rw[k,ae c0]) dS
 rw[dy];rw[af c0]at k;refine vK (U.mono (c'.tt A)) (J'.frame A bX) rfl cap ag (λh3 t x nx M tx u=>aa.ex x.s ⟨_,_,rfl,aa.fK (x:=x.s) λb1 w x' I n=> ?_⟩) (λh3 e j u=>aa.ex zv.s ⟨_,_,rfl,aa.fK (x:=zv.s) λb1 w x' I n=> ?_⟩)
 case refine_2=>
  rw[af (cR (mX j))];exact J w e (u.tt n) (by rw[k,j]) (mX j)
 rw[M]at k;dsimp only at k;obtain⟨rt,Q'⟩:=rH M;rw[dy];have z:=A.tt (u.tt n);obtain⟨xk,xn,xb,xl,xv,ys,L,TS⟩:=gP.kn (tx.u.on n);have rl:=kY (t:=t);have ln:=TS.len;refine aG.of λt' hJ=> ?_
 have bad: ¬(nx=a.length/\t.k=4/\2<=t.l.length/\t.l.length<=9)->t' true w:=λm=>by
  subst hJ;dsimp only;rw[af rfl];exact J w 3 (u.tt n) (by rw[k,ae m]) dS
 have sl:x.s.Fq=t.l.length:=xl;by_cases c1:nx=a.length
 case neg=>rw[af (by simp only[dw,fj];omega)];exact bad (λe=>c1 e.1)
 rw[ae (by simp only[dw,fj];omega)];refine⟨_,au I,?_⟩;rw[show x.s.f0=t.k from xk];by_cases S:t.k=4
 case neg=>rw[af (cR S)];exact bad (λe=>S e.2.1)
 rw[ae (cR S)];refine⟨_,_,_,au I,?_⟩;by_cases c3:2<=t.l.length
 case neg=>rw[af (by simp only[aY];omega)];exact bad (λe=>c3 e.2.2.1)
 rw[dy];refine⟨_,_,_,au I,?_⟩;by_cases c4:t.l.length<=9
 case neg=>rw[show decide ((x.s.Fq:Int)>9)=true by simp only[aY];omega];exact bad (λe=>c4 e.2.2.2)
 rw[show decide ((x.s.Fq:Int)>9)=false by simp only[fk];omega];clear bad;rw[af ⟨c1,S,c3,c4⟩]at k;subst hJ;try dsimp only
 rw[dy];have z5:=z.1;have S':=(u.tt n).1;refine ak.cW λb2 h9 M' h' r=> ?_
 have z9:=r.1;have T':=aA h';obtain⟨a0,y0,v',G',K',_⟩:=elem (L.frame r bX) (TS.on r) (i:=0) ag;have r0:=jc (ts:=t.l) (i:=0) ag;have F9:=z.tt r;refine⟨_,_,_,au (r.get I id),ag,bT.2 ⟨a0,v',aa.jQ (x:=y0.s) G' ?_⟩⟩;refine OH U (c'.tt F9) (mx.on F9) K' ag (λpr hp wp A' C=>aE.ex pr.s ⟨_,rfl,OL (x:=⟨Prim.zero, []⟩) (p:=pr) (q:=none) (cl:=0) (C.get h' id) λf' m' Z=> ?_⟩) (λe j m A' C=>aE.ex Prim.zero.s ⟨_,rfl,OL (x:=⟨Prim.zero, []⟩) (p:=Prim.zero) (q:=none) (cl:=0) (C.get h' id) λf' m' Z=> ?_⟩)
 case refine_2=>
  rw[af (cR m)];exact J f' e ((u.tt (n.tt (r.tt C))).fresh Z (λy e=>ag)) (by rw[k,j]) m
 rw[dy];rw[hp]at k;dsimp only at k;have s':Fr No w f':=(r.tt C).fresh Z (λy e=>ag);refine⟨_,_,_,au (s'.get I id),ag,?_⟩;have e1:Int.toNat 1=1:=rfl;rw[e1,sl];refine⟨λT g=> ∃(i:Nat)(o:List nz)(X:List BB)(q:ct)(cl:Nat),T=(i:Int)/\i+1<=t.l.length/\o.length=i/\Bc w g b2 pr o X q cl/\(∀s∈o,s.data.length<=200)/\kW V a=(match Gl V (t.l.drop (i+1)) o with| .error e=> .error e| .ok l=>if(jN V ⟨pr,l⟩).isSome=true then .ok ⟨pr,l⟩else .error 3),λT _=>t.l.length - 1 - T.toNat,⟨0, [], [],none,0,rfl,ag,rfl,⟨m',.nil rfl rfl rfl rfl,(λy ⟨P,e,_⟩=>by cases e),rfl,(λx hx=>by cases hx),(r.tt C).mono (λ_ _=>False.elim)|>.tt Z⟩,(λx hx=>by cases hx),k⟩,?_⟩;rintro _ g ⟨i,o,X,q,cl,rfl,hi,ho,B,hd,j⟩;have F:Fr No w g:=(Fr.refl _ _).fresh B.fr (λy e=>ag);have O:Fr No h1 g:=u.tt (n.tt F);by_cases b':i+1<t.l.length
 case neg=>
  rw[ae (λe=>b' (bW (aV e)))];rw[dE ag]at j;have j:kW V a=if(jN V ⟨pr,o⟩).isSome=true then .ok ⟨pr,o⟩else .error 3:=j
  refine ak.fz B.di (sJ (b:=⟨pr,o⟩) wp U (c'.tt (z.tt F)) (mx.on (z.tt F)) B.to (by show o.length<=_;omega) (λs g'=>bW (hd s g')) λD' K=>⟨_,rfl,?_⟩);cases hw:(jN V ⟨pr,o⟩).isSome with
  |false=>
   rw[gi];exact J D' 3 (O.tt K) (by rw[j,hw];rfl) dS
  |true=>
   rw[hw,af rfl]at j;rw[dy];refine ak.fz (K.get B.di id) (AR ((O.tt K).get hb id) λv f=>k1 ⟨pr,o⟩ j wp hd (ON hw).1 v q cl X ?_ ((A.tt (O.tt K)).fresh f (λy e=>ag)));exact((B.to.on K).frame f (λy hy e=>ag)).mono λy hy=>ag
 rw[gi];have F':t.l.drop (i+1)=at_ t.l (i+1)::t.l.drop (i+1+1):=by
  rw[cP b'];unfold at_;rw[bh,aj b'];rfl
 rw[F']at j;have hB: ∀T l',Gl V (T::l') o=(match Ar V T with| .error e=> .error e| .ok b=>Gl V l' (o++ [b])):=λ_ _=>rfl
 rw[hB]at j;have Lg:=L.frame F bX;have cc:x.ll<=x.cl:=L.cap;have L2:mC g (λ_=>True) (cQ x.s.Sv x.s.Qf 1 4) (t.l.length - 1) (x.s.Qf - 1) (ys.drop 1):=by
  have M:=Lg.row.sub (cap:=x.cl) (l:=1) (u:=t.l.length) (sz:=4) ag ag;rw[kH iP 4 gU,lO iP 4 gU,bE ag]at M;exact⟨by rw[bN];omega,M,λ_ _ _=>trivial,by show _<=x.cl - 1;omega⟩
 have T2:B7 g (t.l.drop 1) (ys.drop 1):=(TS.on F).drop 1;obtain⟨a1,y1,w',H',r',_⟩:=elem L2 T2 (i:=i) (by rw[bN];omega);have ei:at_ (t.l.drop 1) i=at_ t.l (i+1):=by unfold at_;rw[bh,bh,fp,Nat.add_comm]
 rw[ei]at r';have r1:=jc (ts:=t.l) (i:=i+1) b';refine⟨ag,bT.2 ⟨a1,w',aa.jQ (x:=y1.s) (by rw[aH];exact H') (aa.fK (x:=y1.s) λb3 P' O' E' E=>aa.fz E' ?_)⟩⟩;have zg:=F.1;refine QM U (c'.tt (z.tt (F.tt E))) (mx.on (z.tt (F.tt E))) (r'.on E) ag (λQ p' C' i' d' ov e'=>ay.ex (Q.s i' d') ⟨_,rfl,ay.fK (x:=Q.s i' d') λb4 n' y' o' a'=> ?_⟩) (λe hE m C' e'=>ay.ex .z ⟨_,rfl,ay.fK (x:=.z) λb4 n' y' o' a'=> ?_⟩)
 case refine_2=>
  rw[af (cR m)];exact J n' e (O.tt (E.tt (e'.tt a'))) (by rw[j,hE]) m
 rw[dy];rw[p']at j;dsimp only at j;have z':=E.tt (e'.tt a');have j':=B.on z';have R':=E.1;have nq: ∀y,aP q y->y<g.size:=λy hy=>B.own.dI hy
 have U':=aA B.di;refine⟨_,_,_,au j'.di,ay.fz o' (Vk (x:=⟨Q,i',d'⟩) j' (by show o.length=_;exact B.len.symm) (bW B.len) ((ov.frame a' bX).mono λy hy=>⟨ag,λhq=>bW (nq y hq)⟩) λv L' q' u' B' V'=> ?_)⟩;rw[bJ (n:=(i:Int)+1) ag ag];refine⟨⟨i+1,o++ [Q],L',q',u',ag,ag,by rw[aB,ho];rfl,B',λs g'=> ?_,j⟩,by show t.l.length - 1 - Int.toNat ((i:Int)+1)<t.l.length - 1 - Int.toNat (i:Int);omega⟩;rcases bH.1 g' with P|P
 .exact hd s P
 .rw[bP.1 P];exact OM p'

end Bn
end
section
variable {h:ai} {R:fO}
variable {x:aM.S}
theorem I2.walk{a:aM.S}{b:aM.S}(l:bf h (.C a.arr 37) λB j=>bf j (.C b.arr 37) λc H=>Hu H B 0 λA=> ∃i,Cc H c 0 (.U i)/\if(A==i)then Hi H B 1 λm=> ∃t,Cc H c 1 (.I t)/\if(m==t)then Hu H B 2 λn=> ∃T,Cc H c 2 (.U T)/\if(n==T)then Hi H B 3 λo=> ∃e,Cc H c 3 (.I e)/\if(o==e)then aF.cC H (AA B 4) λp=>aF.cC H (AA c 4) λq=>Cl 34 #[p.agg,q.agg] H λv d=> ∃f,v=.B f/\if f then Hl d B 23 λu s r=>Hl d c 23 λz y w=>Cl 35 #[.L u s r,.L z y w] d λV k=> ∃g,V=.B g/\R (.B g) k else R (.B false) d else R (.B false) H else R (.B false) H else R (.B false) H else R (.B false) H):Cl 21 #[a.agg,b.agg] h R:=aS [] Tryz.func21 l
theorem LX.walk (E:bf h (.C x.arr 37) λb r=>aM.NW r λi a=>Hu a b 0 λM=>Hi a b 1 λO=>aM.NW a λB A=>aM.du A (AA B 0) ⟨M,O,0,0,0,0,false,0,0,ij,ij,false,0,0,ij,ij,0,0,0,none,0,0,0,0,false,none,0,0⟩ λc=>Hi c b 1 λt=>aG (λ(l:ai)=>aM.cC l (AA B 0) λL=>aM.du l (AA i 0) L λm=>aM.cC m (AA i 0) λF=>R (F.agg) m) (λJ=>aG (λ(G:Bool) (H:ai)=>aG (λ(C:ai)=>J C) (λd=>if G then∃T,Cc H b 2 (.U T)/\aJ H (AA B 2) (.U T) λD=>d D else aG (λ(s:ai)=>d s) (λe=>if(t==3)then∃n,Cc H b 3 (.I n)/\aJ H (AA B 3) (.I n) λu=>e u else aG (λ(v:ai)=>e v) (λf=>if(t==4)then Hi H b 3 λI=>aF.cC H (AA b 4) λK=>aJ H (AA B 3) (.I I) λk=>Kp H k [(Sa b 4)]/\aF.du k (AA B 4) K λw=>f w else aG (λ(y:ai)=>f y) (λg=>if(t==5)then∃q p o,Cc H b 23 (.L q p o)/\aJ H (AA B 23) (.L q p o) λz=>g z else g H))))) (λj=>if(t==1)then j (t==1) c else j (t==2) c))):Cl 36 #[x.agg] h R:=aS [(7,.join []),(11,.join [(11,.one (.bool))]),(14,.join []),(18,.join []),(22,.join []),(23,λ_=>pK 8),(26,.join [])] Tryz.func36 E
theorem yC.walk{n:Int}(H:if(decide (n≥1))then R (.B (decide (n<=1099511627776))) h else R (.B false) h):Cl 55 #[.I n] h R:=aS [] Tryz.func55 H
theorem GU.walk(r:bf h (.C x.arr 37) λb c=>Hi c b 1 λt=>aG (λ(B:Bool) (H:ai)=>if B then∃o,Cc H b 2 (.U o)/\if(decide (o≥1))then∃T,Cc H b 2 (.U T)/\R (.B (decide (T<=2147483648))) H else R (.B false) H else if(t==3)then Hi H b 3 λs=>Cl 55 #[.I s] H λv p=> ∃e,v=.B e/\R (.B e) p else if(t==4)then Hi H b 3 λu=>Cl 55 #[.I u] H λV d=> ∃f,V=.B f/\if f then aF.cC d (AA b 4) λw=>Cl 56 #[w.agg] d λC a=> ∃g,C=.B g/\if g then∃i,Cc a b 5 (.I i)/\if(i !=11)then∃j,Cc a b 5 (.I j)/\R (.B (j !=12)) a else R (.B false) a else R (.B false) a else R (.B false) d else if(t==5)then Hl H b 23 λA z y=>Cl 57 #[.L A z y] H λD q=> ∃k,D=.B k/\R (.B k) q else∃l,Cc H b 1 (.I l)/\if(l==6)then R (.B true) H else∃m,Cc H b 1 (.I m)/\if(m==7)then R (.B true) H else∃n,Cc H b 1 (.I n)/\R (.B (n==8)) H) (λJ=>if(t==1)then J (t==1) c else J (t==2) c)):Cl 37 #[x.agg] h R:=aS [(9,.join [(5,.one (.bool))])] Tryz.func37 r
theorem GV.walk(g:bf h (.C x.arr 37) λb H=> ∃e,Cc H b 0 (.U e)/\if(decide (e<=1099511627776))then aM.cC H (AA b 0) λj=>aM.cC H (AA b 0) λk=>Cl 36 #[k.agg] H λv c=>aM.EX λf=>v=f.agg/\Kp H c [(Sa b 0),(Sa b 0)]/\Cl 21 #[j.agg,f.agg] c λV a=> ∃t,V=.B t/\Kp c a [(Sa b 0)]/\if t then aM.cC a (AA b 0) λi=>Cl 37 #[i.agg] a λl d=> ∃T,l=.B T/\Kp a d [(Sa b 0)]/\R (.B T) d else R (.B false) a else R (.B false) H):Cl 23 #[x.agg] h R:=aS [(3,λ_=>pK 14)] Tryz.func23 g
theorem yD.walk{c:ct}{a B:Nat}(n:Cl 74 #[.L c a B] h λv k=>ak.EX λi=> ∃j,v=.T #[i.agg,.I j]/\ak.NW k λb l=>ak.du l (AA b 0) i λH=>if(j !=0)then R (.B false) H else ak.cC H (AA b 0) λo=>Cl 79 #[o.agg] H λV d=> ∃e T t f,V=.T #[.L e T t,.I f]/\if(f==0)then Cl 35 #[.L c a B,.L e T t] d λp m=> ∃g,p=.B g/\R (.B g) m else R (.B false) d):Cl 57 #[.L c a B] h R:=aS [] Tryz.func57 n

end
section
namespace pg
open Go.Proofs.YtkdgpmeojgokdaaGreatDoor.Ask (Rq kX rO OA bq pd)
open Bn (kW jN rM mq)
variable {V:cG→Bool} {h H a g:ai} {R:fO} {p q p' q':ct} {c d c' d':Nat}
variable {b:Nat} {K:ai->Prop}
theorem LY{f:cG}{l:Nat}(U:Cb.kr V a)(u:Fr No a h)(M:nR.Mx h)(v:Row h p (bc f))(t:l=f.length)(cap:f.length<=c)(i: hH h R (.B (rM V f))):Cl 57 #[.L p l c] h R:=by
 subst t;unfold rM at i;refine yD.walk (Bn.zx U u M v rfl cap (λb D w G t A q C Z B m=>ak.ex (b.s q C) ⟨_,rfl,ak.fK (x:=b.s q C) λz r E s j=> ?_⟩) (λe I J A m=>ak.ex .z ⟨_,rfl,ak.fK (x:=.z) λz r E s j=> ?_⟩))
 case refine_2=>
  rw[I]at i;rw[af (cR J)];exact i r (m.tt j)
 rw[D]at i;dsimp only at i;rw[dy];have F:=m.tt j;refine ak.fz (x:=b.s q C) s (Bn.Ey w U (u.tt F) (M.on F) (B.on j) ag (λy L=>bW (G y L)) (λO o S n X Q P T k=>⟨_,_,_,_,rfl,?_⟩) (λo n k=>⟨_,_,_,_,rfl,?_⟩))
 .rw[gi];refine Cb.kx (v.frame (F.tt k) bX) P.iz rfl rfl ⟨_,rfl,?_⟩;have e:decide (f=O)=decide (jN V b=some f):=by
   rw[o];by_cases e:f=O
   .rw[av e,av (by rw[e])]
   .rw[aC e,aC (λq=>e (aX q).symm)]
  rw[e];exact i n (F.tt k)
 .rw[dy];have:=i n (F.tt k);rw[aC (by rw[o];intro e;cases e)]at this;exact this
structure qI where
 now:Nat
 kind:Int
 token:Nat
 ses:Int
 iM:Rq
 data:cG
deriving DecidableEq
def Rq.none:Rq:=⟨0,0,.zero,.zero,0,0,0, [],0,0,false⟩
abbrev qI.s(x:qI)(p:ct)(c:Nat)(q:ct)(d:Nat):aM.S:=⟨x.now,x.kind,x.token,x.ses,x.iM.id,x.iM.kind,x.iM.ep.lE,x.iM.ep.node,x.iM.ep.gL,x.iM.ep.host,x.iM.ep.jZ,x.iM.dest.lE,x.iM.dest.node,x.iM.dest.gL,x.iM.dest.host,x.iM.dest.jZ,x.iM.lV,x.iM.num,x.iM.ja,p,x.iM.mh.length,c,x.iM.fT,x.iM.token,x.iM.on,q,x.data.length,d⟩
variable {x:qI}
def mM(x:qI):qI:=⟨x.now,x.kind,0,0,Rq.none, []⟩
def sX(x:qI):qI:=
 if x.kind=1\/x.kind=2 then { mM x with token:=x.token }
 else if x.kind=3 then { mM x with ses:=x.ses }
 else if x.kind=4 then { mM x with ses:=x.ses,iM:=x.iM }
 else if x.kind=5 then { mM x with data:=x.data }
 else mM x
def isS(n:Int):Bool:=decide (n≥1) && decide (n<=1099511627776)
def uB(V:cG->Bool)(x:qI):Bool:=
 if x.kind=1\/x.kind=2 then decide (x.token≥1) && decide (x.token<=2147483648)
 else if x.kind=3 then isS x.ses
 else if x.kind=4 then isS x.ses && kX x.iM && (x.iM.kind !=11) && (x.iM.kind !=12)
 else if x.kind=5 then rM V x.data
 else decide (x.kind=6\/x.kind=7\/x.kind=8)
def zy(V:cG->Bool)(x:qI):Bool:=decide (x.now<=1099511627776) && decide (x=sX x) && uB V x
theorem LZ{K:aF.S->Prop}(e:aM.fD h b (x.s p c q d))(f:K (x.iM.s p c)):aF.cC h (AA b 4) K:=
 ⟨_,au e,_,au e,_,au e,_,au e,_,au e,_,au e,_,au e,_,au e,_,au e,_,au e,_,au e,_,au e,_,au e,_,au e,_,au e,_,_,_,au e,_,au e,_,au e,_,au e,f⟩
theorem Vm{r:Rq}(j:aM.fD h b (x.s p c q d))(l: ∀H,aM.fD H b (({ x with iM:=r } :qI).s p' c' q d)->Fr (λy=>y=b) h H->K H):aF.du h (AA b 4) (r.s p' c') K:=
 (show dV (AA b 4) (r.s p' c').l 0 h K from lP (off:=4) (ws:=(({ x with iM:=r } :qI).s p' c' q d).l) j (by show 4+19<=24;omega) rfl rfl λi D e f=>l i D (Fr.of_eq e λc k=>f c k))
theorem Ez{i:Nat}{y z:aM.S}{v:Value}(k:aM.fD h b y)(m:i<24)(o:y.arr.setIfInBounds i v=z.arr)(n: ∀H,aM.fD H b z->Fr (λy=>y=b) h H->K H):aJ h (AA b i) v K:=
 bk k m λj D e f=>n j (by unfold aM.fD;rw[<-o];exact D) (Fr.of_eq e λc l=>f c l)
theorem GW(x y:qI)(P:Row h p (bc x.iM.mh))(Q:Row h p' (bc y.iM.mh))(D:Row h q (bc x.data))(E:Row h q' (bc y.data))(B: hH h R (.B (decide (x=y)))):Cl 21 #[(x.s p c q d).agg,(y.s p' c' q' d').agg] h R:=by
 refine I2.walk (aM.cW λb X T O L=>aM.cW λS u U f w=> ?_);have i:=w.get O id;have F:=L.tt w;have s: ∀g,Fr No h g->x≠y->R (.B false) g:=λg M e=>by have:=B g M;rw[aC e]at this;exact this
 have I: ∀(A b:Int)(m n:Nat),A=m->b=n->m≠n->¬(A==b)=true:=λA b m n G J e=>by rw[G,J];simp only[df];omega
 refine⟨_,au i,_,au f,?_⟩;by_cases C:x.now=y.now
 case neg=>rw[ae (I _ _ _ _ rfl rfl C)];exact s u F (λe=>C (by rw[e]))
 rw[af (by show((x.now:Int)==(y.now:Int))=true;rw[C];simp)];refine⟨_,au i,_,au f,?_⟩;by_cases j:x.kind=y.kind
 case neg=>rw[ae (by show¬(x.kind==y.kind)=true;simpa using j)];exact s u F (λe=>j (by rw[e]))
 rw[af (by show(x.kind==y.kind)=true;simpa using j)];refine⟨_,au i,_,au f,?_⟩;by_cases k:x.token=y.token
 case neg=>rw[ae (I _ _ _ _ rfl rfl k)];exact s u F (λe=>k (by rw[e]))
 rw[af (by show((x.token:Int)==(y.token:Int))=true;rw[k];simp)];refine⟨_,au i,_,au f,?_⟩;by_cases l:x.ses=y.ses
 case neg=>rw[ae (by show¬(x.ses==y.ses)=true;simpa using l)];exact s u F (λe=>l (by rw[e]))
 rw[af (by show(x.ses==y.ses)=true;simpa using l)];refine LZ i (LZ f (Ask.GK x.iM y.iM (P.frame F bX) (Q.frame F bX) λz v=>⟨_,rfl,?_⟩));have t:=F.tt v;by_cases o:x.iM=y.iM
 case neg=>rw[ae (cR o)];exact s z t (λe=>o (by rw[e]))
 rw[af (cR o)];refine⟨_,_,_,au (v.get i id),_,_,_,au (v.get f id),Cb.kx (D.frame t bX) (E.frame t bX) rfl rfl ⟨_,rfl,?_⟩⟩;have e:decide (x=y)=decide (x.data=y.data):=by
  by_cases r:x.data=y.data
  .have:x=y:=by cases x;cases y;simp only at C j k l o r;simp[C,j,k,l,o,r]
   rw[av this,av r]
  .rw[aC (λe=>r (by rw[e])),aC r]
 rw[<-e];exact B z t
theorem QN(x:qI)(rx:Row h p (bc x.iM.mh))(X:Row h q (bc x.data))(hk: ∀H p' c' q' d',Row H p' (bc (sX x).iM.mh)->Row H q' (bc (sX x).data)->Fr No h H->R ((sX x).s p' c' q' d').agg H):Cl 36 #[(x.s p c q d).agg] h R:=by
 refine LX.walk (aM.cW λb h1 eb u L=>aM.cW λb1 h2 b' P F=>⟨_,au (F.get u id),_,au (F.get u id),aM.fK (x:=(mM x).s none 0 none 0) λB C e' r M=> ?_⟩);have l:=(F.tt M).get u id;have zb:=aA u;have f':=aA P;have z1:=L.1;have z2:=F.1;have ne:b≠B:=ag
 refine⟨_,au l,aG.of λJ hJ=>aG.of λT a'=> ?_⟩;have fin: ∀g p' c' q' d',aM.fD g B ((sX x).s p' c' q' d')->Row h p' (bc (sX x).iM.mh)->Row h q' (bc (sX x).data)->Fr (λy=>y=B) C g->J g:=by
  intro g p' c' q' d' hg hr hd fg;have I:Fr No h2 g:=M.fresh fg (λy e=>ag);have G:=(L.tt F).tt I;subst hJ;refine aM.fz hg (aM.gX (x:=(sX x).s p' c' q' d') (I.get P id) λh6 U A _=>aM.fz U ?_);have z:=G.fresh A (λy e=>ag);exact hk h6 p' c' q' d' (hr.frame z bX) (hd.frame z bX) z
 have n:Row h none (bc []):=Row.nil;have S: ∀v,(v=true↔x.kind=1\/x.kind=2)->T v C:=by
  intro v Q;subst a';dsimp only;refine aG.of λJ2 o=> ?_
  by_cases k:x.kind=1\/x.kind=2
  .have E:sX x= { mM x with token:=x.token } :=af k;rw[E]at fin;rw[af (Q.2 k)];exact⟨_,au l,Ez (z:=({ mM x with token:=x.token } :qI).s none 0 none 0) r dS rfl λj i f=>by subst o;exact fin j none 0 none 0 i n n f⟩
  rw[ae (λe=>k (Q.1 e))];refine aG.of λJ3 t=> ?_
  by_cases m:x.kind=3
  .have E:sX x= { mM x with ses:=x.ses } :=(ae k).trans (af m);rw[E]at fin;rw[af (bq.2 m)];exact⟨_,au l,Ez (z:=({ mM x with ses:=x.ses } :qI).s none 0 none 0) r dS rfl λj i f=>by subst t;subst o;exact fin j none 0 none 0 i n n f⟩
  rw[ae (λe=>m (bq.1 e))];refine aG.of λJ4 D=> ?_
  by_cases s:x.kind=4
  .have E:sX x= { mM x with ses:=x.ses,iM:=x.iM } :=(ae k).trans ((ae m).trans (af s));rw[E]at fin;rw[af (bq.2 s)];refine⟨_,au l,LZ l (Ez (z:=({ mM x with ses:=x.ses } :qI).s none 0 none 0) r dS rfl λj i f=>⟨OA f ne bU,Vm (x:= { mM x with ses:=x.ses }) (r:=x.iM) i λg2 Z A=> ?_⟩)⟩;subst D;subst t;subst o;exact fin g2 p c none 0 Z rx n (f.tt A)
  rw[ae (λe=>s (bq.1 e))];refine aG.of λJ5 O=> ?_
  by_cases w:x.kind=5
  .have E:sX x= { mM x with data:=x.data } :=(ae k).trans ((ae m).trans ((ae s).trans (af w)));rw[E]at fin;rw[af (bq.2 w)];exact⟨_,_,_,au l,Ez (z:=({ mM x with data:=x.data } :qI).s none 0 q d) r dS rfl λj i f=>by subst O;subst D;subst t;subst o;exact fin j none 0 q d i n X f⟩
  rw[ae (λe=>w (bq.1 e))];have E:sX x=mM x:=(ae k).trans ((ae m).trans ((ae s).trans (ae w)));rw[E]at fin;subst O;subst D;subst t;subst o;exact fin C none 0 none 0 r n n (Fr.refl _ _)
 by_cases k:x.kind=1
 .rw[af (bq.2 k)];exact S _ ⟨λ_=> .inl k,λ_=>bq.2 k⟩
 rw[ae (λe=>k (bq.1 e))];exact S _ ⟨λe=> .inr (bq.1 e),λe=>bq.2 (e.resolve_left k)⟩
theorem OO(n:Int)(e:R (.B (isS n)) h):Cl 55 #[.I n] h R:=by
 refine yC.walk ?_;unfold isS at e;by_cases c:n≥1
 .rw[af (av c)];rw[av c]at e;exact e
 .rw[ae (cR c)];rw[aC c]at e;exact e
theorem L3(x:qI)(U:Cb.kr V a)(u:Fr No a h)(P:nR.Mx h)(Q:Row h p (bc x.iM.mh))(I:Row h q (bc x.data))(cap:x.data.length<=d)(f: hH h R (.B (uB V x))):Cl 37 #[(x.s p c q d).agg] h R:=by
 refine GU.walk (aM.cW λb l S i F=>⟨_,au i,aG.of λJ M=> ?_⟩);have G: ∀v,(v=true↔x.kind=1\/x.kind=2)->J v l:=by
  intro v D;subst M;dsimp only;by_cases k:x.kind=1\/x.kind=2
  .have E:uB V x=(decide (x.token≥1) && decide (x.token<=2147483648)):=af k;rw[E]at f;rw[af (D.2 k)];have f:=f l F;refine⟨_,au i,?_⟩;have L:decide (((x.s p c q d).f2:Int)≥1)=decide (x.token≥1):=Ask.El x.token 1;rw[L];refine pd (λy=> ?_) (λy=> ?_) (b:=decide (x.token≥1))
   .rw[y]at f⊢;rw[af rfl];refine⟨_,au i,?_⟩;have z:decide (((x.s p c q d).f2:Int)<=2147483648)=decide (x.token<=2147483648):=Bn.kZ x.token 2147483648;rw[z];exact f
   .rw[y]at f⊢;rw[dy];exact f
  rw[ae (λe=>k (D.1 e))];by_cases j:x.kind=3
  .have E:uB V x=isS x.ses:=(ae k).trans (af j);rw[E]at f;rw[af (bq.2 j)];exact⟨_,au i,OO x.ses ⟨_,rfl,f l F⟩⟩
  rw[ae (λe=>j (bq.1 e))];by_cases m:x.kind=4
  .have E:uB V x=(isS x.ses && kX x.iM && (x.iM.kind !=11) && (x.iM.kind !=12)):=(ae k).trans ((ae j).trans (af m));rw[E]at f;rw[af (bq.2 m)];refine⟨_,au i,OO x.ses ⟨_,rfl,?_⟩⟩;refine pd (λt=> ?_) (λt=> ?_) (b:=isS x.ses)
   case refine_2=>rw[t]at f⊢;rw[dy];exact f l F
   rw[t]at f⊢;rw[af rfl];refine LZ i (Ask.fM x.iM (Q.frame F bX) λA n=>⟨_,rfl,?_⟩);have B:=n.get i id;have f:=f A (F.tt n);refine pd (λw=> ?_) (λw=> ?_) (b:=kX x.iM)
   case refine_2=>rw[w]at f⊢;rw[dy];exact f
   rw[w]at f⊢;rw[af rfl];refine⟨_,au B,?_⟩;refine pd (λC=> ?_) (λC=> ?_) (b:=x.iM.kind !=11)
   .rw[C]at f;rw[af C];exact⟨_,au B,f⟩
   .rw[C]at f;rw[ae (by show¬(x.iM.kind !=11)=true;rw[C];decide)];exact f
  rw[ae (λe=>m (bq.1 e))];by_cases o:x.kind=5
  .have E:uB V x=rM V x.data:=(ae k).trans ((ae j).trans ((ae m).trans (af o)));rw[E]at f;rw[af (bq.2 o)];exact⟨_,_,_,au i,LY U (u.tt F) (P.on F) (I.frame F bX) rfl cap λA n=>⟨_,rfl,f A (F.tt n)⟩⟩
  rw[ae (λe=>o (bq.1 e))];have E:uB V x=decide (x.kind=6\/x.kind=7\/x.kind=8):=(ae k).trans ((ae j).trans ((ae m).trans (ae o)));rw[E]at f;have f:=f l F;refine⟨_,au i,?_⟩;by_cases r:x.kind=6
  .rw[af (bq.2 r)];rw[av (.inl r)]at f;exact f
  rw[ae (λe=>r (bq.1 e))];refine⟨_,au i,?_⟩;by_cases s:x.kind=7
  .rw[af (bq.2 s)];rw[av (.inr (.inl s))]at f;exact f
  rw[ae (λe=>s (bq.1 e))];refine⟨_,au i,?_⟩;have z:decide (x.kind=6\/x.kind=7\/x.kind=8)=(x.kind==8):=by by_cases O:x.kind=8<;>simp[r,s,O]
  rw[z]at f;exact f
 by_cases k:x.kind=1
 .rw[af (bq.2 k)];exact G _ ⟨λ_=> .inl k,λ_=>bq.2 k⟩
 rw[ae (λe=>k (bq.1 e))];exact G _ ⟨λe=> .inr (bq.1 e),λe=>bq.2 (e.resolve_left k)⟩
theorem L4(x:qI)(U:Cb.kr V a)(u:Fr No a h)(M:nR.Mx h)(r:Row h p (bc x.iM.mh))(D:Row h q (bc x.data))(cap:x.data.length<=d)(e: hH h R (.B (zy V x))):Cl 23 #[(x.s p c q d).agg] h R:=by
 refine GV.walk (aM.cW λb t z j i=>⟨_,au j,?_⟩);unfold zy at e;have E:decide (((x.s p c q d).f0:Int)<=1099511627776)=decide (x.now<=1099511627776):=Bn.kZ x.now 1099511627776;rw[E];refine pd (λk=> ?_) (λk=> ?_) (b:=decide (x.now<=1099511627776))
 case refine_2=>rw[k]at e⊢;rw[dy];exact e t i
 rw[k]at e⊢;rw[af rfl];have o:=r.frame i bX;have m:=D.frame i bX;refine aM.fz (x:=x.s p c q d) j (aM.fz (x:=x.s p c q d) j (QN x o m λA P C q2 s y s2 f=>aM.ex ((sX x).s P C q2 s) ⟨rfl,f.kp,?_⟩));refine GW x (sX x) (o.frame f bX) y (m.frame f bX) s2 λv l=>⟨_,rfl,l.kp,?_⟩
 have F:=i.tt (f.tt l);refine pd (λC=> ?_) (λC=> ?_) (b:=decide (x=sX x))
 case refine_2=>rw[C]at e⊢;rw[dy];exact e v F
 rw[C]at e⊢;rw[af rfl];exact aM.fz (x:=x.s p c q d) ((f.tt l).get j id) (L3 x U (u.tt F) (M.on F) (r.frame F bX) (D.frame F bX) cap λw n=>⟨_,rfl,n.kp,e w (F.tt n)⟩)

end pg
end
section
open Go.fV
namespace mi
variable {h H:ai} {w r:Nat} {S:Nat→Prop} {bs:cG} {e:Int} {R:fO}
variable {p:ct} {c n:Nat} {K:ai->Prop}
def Wr(h:ai)(w:Nat)(S:Nat->Prop)(bs:cG):Prop:=
 ∃p c,h[w]? =some (.cells #[.bool true,.slice p bs.length c] 255 (0,0))/\Own h p bs.length c 1 (bc bs)/\¬aP p w/\∀x,S x↔x=w\/aP p x
theorem Wr.lt(a:Wr h w S bs): ∀x,S x->x<h.size:=by
 obtain⟨p,c,b,o,_,d⟩:=a;intro x hx;rcases(d x).1 hx with rfl|hx
 .exact aA b
 .exact o.dI hx
theorem jj(f: ∀b w S,Wr b w S []->Fr No h b->(∀x,S x->h.size<=x)->R (.P w 0) b):Cl 106 #[] h R:=by
 refine IC.walk (cT ?_);refine f _ _ (λx=>x=h.size) ⟨none,0,bZ,.nil rfl rfl rfl rfl,(λ⟨a,e,_⟩=>by cases e),λx=> ?_⟩ (Fr.push _ _) (λx d=>ag);constructor
 .exact .inl
 .rintro(d|⟨a,e,_⟩)
  .exact d
  .cases e
theorem Wr.store{P:ct}{C:Nat}{b:ai}{cs:cG}(j:h[w]? =some (.C #[.B true,.L p bs.length c] 255 (0,0)))(k: ¬aP p w)(d: ∀x,S x↔x=w\/aP p x)(o:Own b P (bs.length+n) C 1 (bc bs++bc cs))(f:Fr (aP p) h b)(g: ∀x,aP P x->aP p x\/h.size<=x)(t:n=cs.length)(q: ∀a s,Wr a w s (bs++cs)->Step S h s a->K a):aJ b (AA w 1) (.L P (bs.length+n) C) K:=by
 subst t;have m:=f.get j k;have z:=aA j;have l: ¬aP P w:=λhx=>(g w hx).elim k (λi=>ag)
 refine bk m bU λa u v y=> ?_
 have F:Fr (λx=>x=w) b a:=Fr.of_eq v y;refine q a (λx=>x=w\/aP P x) ⟨P,C,?_,?_,l,λx=>ff⟩ ⟨?_,?_⟩
 .rw[u,aB];rfl
 .rw[aB,kF];exact o.frame F (λx hx e=>l (e▸hx))
 .exact f.trans F (λx _ hx=>(d x).2 (.inr hx)) (λx _ hx=>(d x).2 (.inl hx))
 .rintro x (hx|hx)
  .exact .inl ((d x).2 (.inl hx))
  .exact(g x hx).imp (λi=>(d x).2 (.inr i)) id
theorem Wr.push{x:Int}{b:UInt8}(i:Wr h w S bs)(B:bs.length<=1099511627786)(z:x=(b.toNat:Int))(t: ∀a s,Wr a w s (bs++ [b])->Step S h s a->K a):
  ∃(p:ct)(l c:Nat),aU h (AA w 1)=some (.L p l c)/\
  bf h (.C #[.int .u8 x] 5) λb j=>
  aT Tryz.prog (Builtin.append_ #[33,33] 33 #[.L p l c,.L (Sa b 0) 1 1]) j λv k=>
  ∃(q:ct)(m d:Nat),v=.L q m d/\aJ k (AA w 1) (.L q m d) K:=by
 obtain⟨p,c,f,o,y,u⟩:=i;refine⟨p,bs.length,c,au f,?_⟩;refine jn tU uU o rfl (λv g=>by simp at g;subst g;rfl) ag ag ?_;intro P C A O F G;subst z;exact⟨_,_,_,rfl,Wr.store (cs:= [b]) f y u O F G rfl t⟩
def Vn(H:ai)(w:Nat)(s:Nat->Prop)(bs:cG)(a:Nat)(n:Int)(h:ai):Prop:=
 ∃(m:Nat)(S:Nat->Prop)(d:cG),n=(m:Int)/\m<18446744073709551616/\Wr h w S (bs++d)/\d++iV m=iV a/\Step s H S h
theorem gC{n:Int}(k:Nat)(g:Wr h w S bs)(D:bs.length<=1099511627776)(e:n=(k:Int))(z:k<18446744073709551616)(y: ∀a l,Wr a w l (bs++iV k)->Step S h l a->R (.P w 0) a):Cl 107 #[.P w 0,.U n] h R:=by
 subst e;refine vD.walk ?_;obtain⟨p,c,q,_⟩:=id g;refine aG.of λJ x=>⟨true,au q,?_⟩
 subst x;simp only[cX,ar,aQ];clear q;refine⟨Vn h w S bs k,λn _=>n.toNat,⟨k,S, [],rfl,z,cR g,rfl,Step.refl _ _⟩,?_⟩;rintro _ B ⟨m,A,d,rfl,u,i,b,v⟩;have C:d.length<=10:=by
  have:=cf List.length b;rw[aB]at this;have:=(gW k).2;omega
 by_cases t:(m:Int)>127
 .simp only[t,bF,bm];refine i.push (by rw[aB];omega) (TN m) λo s j f=> ?_
  rw[U5];refine⟨⟨m/128,s,d++ [UInt8.ofNat (m%128+128)],rfl,ag,by rwa[eJ]at j,?_,v.trans f⟩,?_⟩
  .rw[<-b,x6 u,gi];simp
  .show Int.toNat ((m/128:Nat):Int)<Int.toNat (m:Int);omega
 .simp only[t,bu,ar,aQ];refine i.push (by rw[aB];omega) (b:=UInt8.ofNat m) (by rw[me,gy]) λo s j f=> ?_
  refine y o s ?_ (v.trans f);rwa[<-b,x6 u,dy,<-eJ]
theorem Vo(n:Int)(a:n<=9223372036854775807):IntKind.wrap .u64 (if 0>n then 0 else n)=((mf n:Nat):Int):=by
 unfold mf;split
 .rw[wrap_u64 ag ag];omega
 .rw[wrap_u64 ag ag];omega
theorem I3{n:Int}(b:Wr h w S bs)(g:bs.length<=1099511627776)(i:n<=9223372036854775807)(f: ∀a s,Wr a w s (bs++iV (mf n))->Step S h s a->R (.P w 0) a):Cl 108 #[.P w 0,.I n] h R:=
 vE.walk (gC (mf n) b g (Vo n i) (by unfold mf;omega) λa s d j=>⟨_,rfl,f a s d j⟩)
theorem OQ{t:cG}(l:Wr h w S bs)(B:bs.length<=1099511627776)(E:Row h p (bc t))(C:n=t.length)(V:t.length<=1099511627776)(D: ∀x,aP p x->t≠ []->¬S x)(A: ∀b s,Wr b w s (bs++vu t)->Step S h s b->R (.P w 0) b):Cl 109 #[.P w 0,.L p n c] h R:=by
 subst C;refine uv.walk (gC t.length l B (wrap_u64 ag ag) ag λT P m k=>⟨_,rfl,?_⟩);obtain⟨q,d,f,o,I,G⟩:=m;refine aG.of λJ i=>⟨true,au f,?_⟩
 subst i;refine aG.of λJ i=> ?_
 simp only[bm];subst i;refine⟨q,_,d,au f,?_⟩;have U:=(gW t.length).2;rw[aB];rw[aB]at o;refine dR tU uU o (by
  by_cases j:t= []
  .rw[j];exact .inl rfl
  .exact E.frame k.fr (λa e L=>D _ ⟨a,e,rfl⟩ j L)) (by rw[kR,cE]) (rB t) ag ag ?_
 intro X Q b O _ F g;refine⟨_,_,_,rfl,?_⟩;rw[aB]at f;have:=Wr.store (n:=t.length) (cs:=t) (K:=λz=>R (Value.pointer (some { block:=w,off:=0 })) z) (bs:=bs++iV t.length) (by rw[aB];exact f) I G (by rw[aB];exact O) F g rfl λy v u M=> ?_
 .rw[aB]at this;exact this
 .exact A y v (by unfold vu;rwa[eJ]at u) (k.trans M)
theorem oY(b:Wr h w S bs)(j:bs.length<=70368744177664)(i: ∀P C a,Own a P bs.length C 1 (bc bs)->Fr No h a->(∀x,aP P x->h.size<=x)->R (.L P bs.length C) a):Cl 110 #[.P w 0] h R:=by
 obtain⟨p,c,d,o,l,k⟩:=b;exact sW.walk ⟨p,_,c,au d,gE o.iz rfl j λP C a O f g=>⟨_,_,_,rfl,i P C a O f g⟩⟩
def Rd(h:ai)(r:Nat)(S:Nat->Prop)(e:Int)(bs:cG):Prop:=
 ∃p c,h[r]? =some (.cells #[.int .i64 e,.bool true,.slice p bs.length c] 228 (0,0))/\Own h p bs.length c 1 (bc bs)/\¬aP p r/\S r/\(∀x,aP p x->S x)/\∀x,S x->x<h.size
theorem Rd.lt(a:Rd h r S e bs): ∀x,S x->x<h.size:=by
 obtain⟨p,c,_,_,_,_,_,b⟩:=a;exact b
theorem Rd.self(a:Rd h r S e bs):S r:=by
 obtain⟨p,c,_,_,_,b,_,_⟩:=a;exact b
theorem Rd.frame{Q:Nat->Prop}{d:ai}(j:Rd h r S e bs)(a:Fr Q h d)(i: ∀x,S x->¬Q x):Rd d r S e bs:=by
 obtain⟨p,c,l,o,m,f,g,k⟩:=j;exact⟨p,c,a.get l (i r f),o.frame a (λx b=>i x (g x b)),m,f,g,λx b=>cK (k x b) a.1⟩
theorem vO(l:Row h p (bc bs))(k:n=bs.length)(j:bs.length<=70368744177664)(i: ∀b r S,Rd b r S 0 bs->Fr No h b->(∀x,S x->h.size<=x)->R (.P r 0) b):Cl 88 #[.L p n c] h R:=by
 refine Gr.walk (gE l k j λP C d o f g=>⟨_,_,_,rfl,cT ?_⟩);refine i _ _ (λx=>h.size<=x/\x<=d.size) ⟨P,C,bZ,o.frame (Fr.push (S:=λ_=>False) _ _) bX,?_,⟨f.1,bp _⟩,?_,?_⟩ (Fr.on f (Fr.push _ _)) (λx a=>a.1)
 .intro a;have:=o.dI a;omega
 .intro x a;have:=o.dI a;exact⟨g x a,ag⟩
 .intro x a;rw[cY];omega
theorem lW{E:Int}(g:Rd h r S e bs)(b: ∀a,Rd a r S (NK e E) bs->Fr (λx=>x=r) h a->R (.T #[]) a):Cl 133 #[.P r 0,.I E] h R:=by
 obtain⟨p,c,i,o,j,l,m,q⟩:=id g;refine vF.walk ⟨e,au i,?_⟩;unfold NK at b;by_cases H:e=0
 .subst H;simp only[fQ,bm];refine bk i bU λa s k t=> ?_
  have f:Fr (λx=>x=r) h a:=Fr.of_eq k t;exact b a ⟨p,c,s,o.frame f (λx d e=>j (e▸d)),j,l,m,λx d=>by rw[k];exact q x d⟩ f
 .simp only[df,H,aQ];simp only[H,aQ]at b;exact b h g (Fr.refl _ _)
theorem EA(b:Rd h r S e bs)(d:R (.B (e==0)) h):Cl 132 #[.P r 0] h R:=by
 obtain⟨p,c,a,o,j,f,g,i⟩:=b;exact uw.walk ⟨true,au a,e,au a,d⟩
def T0(H:ai)(r:Nat)(S:Nat->Prop)(bs:cG)(n i:Int)(h:ai):Prop:=
 ∃(k a:Nat)(b:cG),i=(k:Int)/\n=(a:Int)/\k<=10/\a<2 ^ (7*k)/\a<18446744073709551616/\Rd h r S 0 b/\Fr (λx=>x=r) H h/\Nc k a b=Nc 0 0 bs
theorem zA(t:Rd h r S e bs)(d: ∀E,Rd E r S (fG e bs).2.1 (fG e bs).2.2->Fr (λx=>x=r) h E->R (.U ((fG e bs).1:Int)) E):
  Cl 89 #[.P r 0] h R:=by
 refine vG.walk (aG.of λi' G=> ?_);by_cases I:e=0
 .subst I;unfold fG at d;rw[af rfl]at d;refine⟨T0 h r S bs,λ_ f' _=>11 - f'.toNat,⟨0,0,bs,rfl,rfl,ag,bU,ag,t,Fr.refl _ _,rfl⟩,?_⟩;rintro _ _ l ⟨k,j',a,rfl,rfl,l',ha,k',u,T,f⟩;refine EA u ⟨_,rfl,?_⟩;simp only[fQ,bm];obtain⟨p,c,i,o,J,h1,Z,U⟩:=id u;refine⟨p,_,c,au i,?_⟩;cases a with
  |nil=>
   simp only[bG,Int.natCast_zero,fQ,bm];refine lW u λh4 H4 f4=>⟨rfl,?_⟩
   subst G;rw[Nc]at f;rw[<-f]at d;exact d h4 H4 (T.tt f4)
  |cons b a=>
   have X:((((b::a).length:Nat):Int)==0)=false:=by simp only[bn,dz,fj];omega
   simp only[X,ar,aQ];refine⟨p,_,c,au i,⟨ag,by simp only[bn];omega⟩,?_⟩;obtain⟨ab,a',rfl⟩:=o.some (by rw[kR];simp);refine ax.2 ⟨(b.toNat:Int),o.cell rfl,some (AA ab a'),_,c,au i,⟨ag,by simp only[bn];omega⟩,?_⟩;have O:=o.sub (l:=1) (u:=(b::a).length) bU (bp _);have Q:((bc (b::a)).take ((b::a).length*1)).drop (1*1)=bc a:=by
    simp only[cE];rw[bE (by rw[kR];exact bp _)];rfl
   rw[Q]at O;have M:(b::a).length - Int.toNat 1=a.length:=bU
   rw[M];have P:(b::a).length - 1=a.length:=bU
   rw[P]at O;refine bk i bU λm k1 L k3=> ?_
   have D:Fr (λx=>x=r) l m:=Fr.of_eq L k3;have v:Rd m r S 0 a:=⟨_,_,k1,O.frame D (λx g e=>J (e▸mW g)),λg=>J (mW g),h1,λx g=>Z x (mW g),λx g=>by rw[L];exact U x g⟩;have B:=T.tt D;clear O k1 L k3 D Q M P X o i Z U J;have w1:IntKind.wrap .i64 ((k:Int)*7)=((7*k:Nat):Int):=by rw[bJ ag ag];omega
   have w2:IntKind.wrap .i64 (7*(k:Int))=((7*k:Nat):Int):=by rw[bJ ag ag];omega
   have w3:IntKind.wrap .i64 ((k:Int)+1)=((k+1:Nat):Int):=by rw[bJ ag ag];omega
   have i:=b.toNat_lt;rw[Nc]at f;refine aG.of λJ1 e'=> ?_
   have F:J1 (decide (k=10\/(k=9/\b.toNat>1)\/(b.toNat=0/\k>0))) m:=by
    subst e';by_cases q:k=10\/(k=9/\b.toNat>1)\/(b.toNat=0/\k>0)
    .simp only[q,bF,bm];rw[af q]at f;refine lW v λh7 H7 f7=>⟨rfl,?_⟩
     subst G;rw[<-f]at d;exact d h7 H7 (B.tt f7)
    .simp only[q,bu,ar,aQ];rw[ae q]at f;rw[w2,w3,dy,Sq,Sr];have hd:b.toNat%128*2 ^ (7*k)<18446744073709551616:=by
      by_cases V:k=9
      .subst V;have:b.toNat%128<=1:=ag
       have:=dc (2 ^ (7*9)) this;omega
      .have h8:k<=8:=ag
       have p1:(2:Nat) ^ (7*k)<=2 ^ 56:=gn ag ag;have p2:b.toNat%128<=127:=ag
       have:=Nat.mul_le_mul p2 p1;omega
     have h':IntKind.wrap .u64 ((b.toNat%128:Nat):Int)=((b.toNat%128:Nat):Int):=pQ ag;have g':7*k<=64:=ag
     rw[h',Ss ha hd g'];by_cases s:b.toNat<128
     .simp only[s,bF,bm];rw[af s]at f;rw[<-f]at d;exact d m v B
     .simp only[s,bu,ar,aQ];rw[ae s]at f;have V:k<=8:=ag
      have p3:(2:Nat) ^ (7*(k+1))=128*2 ^ (7*k):=by rw[Nat.mul_add,Nat.pow_add,Nat.mul_comm]
      have p4:b.toNat%128+1<=128:=ag
      have p5:=dc (2 ^ (7*k)) p4;rw[fi]at p5;have p6:(2:Nat) ^ (7*(k+1))<=2 ^ 63:=gn ag ag;refine⟨⟨k+1,_,a,rfl,rfl,ag,ag,ag,v,B,f⟩,?_⟩;show 11 - Int.toNat ((k+1:Nat):Int)<11 - Int.toNat (k:Int);omega
   rw[w1];by_cases y:k=10
   .subst y;simpa using F
   .have b':((k:Int)==10)=false:=by simp only[dz,fj];omega
    simp only[b',ar,aQ];by_cases z:k=9
    .subst z;by_cases A:b.toNat>1
     .have j:(b.toNat:Int)>1:=ag
      have C: ¬b.toNat=0:=ag
      simpa[A,j,C]using F
     .have j: ¬(b.toNat:Int)>1:=ag
      by_cases C:b.toNat=0
      .simpa[A,j,C]using F
      .simpa[A,j,C]using F
    .have c':(((7*k:Nat):Int)==63)=false:=by simp only[dz,fj];omega
     simp only[c',ar,aQ];by_cases C:b.toNat=0
     .have c5:decide ((k:Int)>0)=decide (k>0):=bU
      simp only[C,Int.natCast_zero,fQ,bm,c5];simpa[y,z,C]using F
     .have d':((b.toNat:Int)==0)=false:=by simp only[dz,fj];omega
      simp only[d',ar,aQ];simpa[y,z,C]using F
 .refine⟨λ_ _ l=>l=h,λ_ _ _=>0,rfl,?_⟩;rintro _ _ l rfl;refine EA t ⟨_,rfl,?_⟩;have:(e==0)=false:=by simpa using I
  simp only[this,ar,aQ];subst G;unfold fG at d;rw[ae I]at d;exact d _ t (Fr.refl _ _)
theorem QO(T:Nat){t:Int}(m:t=(T:Int))(i:Rd h r S e bs)(a: ∀b,Rd b r S (jP T e bs).2.1 (jP T e bs).2.2->Fr (λx=>x=r) h b->R (.U ((jP T e bs).1:Int)) b):
  Cl 134 #[.P r 0,.U t] h R:=by
 subst m;refine rQ.walk (zA i λk d f=>⟨_,rfl,?_⟩);unfold jP at a;by_cases g:(fG e bs).1>T
 .have:((fG e bs).1:Int)>(T:Int):=ag
  simp only[this,bF,bm];rw[af g]at a;exact lW d λl j F=>⟨rfl,a l j (f.tt F)⟩
 .have: ¬((fG e bs).1:Int)>(T:Int):=ag
  simp only[this,bu,ar,aQ];rw[ae g]at a;exact a k d f
theorem EB(b:Rd h r S e bs)(i: ∀a,Rd a r S (lU e bs).2.1 (lU e bs).2.2->Fr (λx=>x=r) h a->R (.I ((lU e bs).1:Int)) a):
  Cl 90 #[.P r 0] h R:=
 vH.walk (QO 1099511627776 rfl b λg d f=>⟨_,rfl,by
  have:=FP 1099511627776 e bs;rw[bJ ag ag];exact i g d f⟩)
theorem OR(y:Rd h r S e bs)(hl:bs.length<=70368744177664)(f: ∀i p c,Rd i r S (mg e bs).2.1 (mg e bs).2.2->Own i p (mg e bs).1.length c 1 (bc (mg e bs).1)->(∀x,aP p x->h.size<=x)->Fr (λx=>x=r) h i->R (.slice p (mg e bs).1.length c) i):
  Cl 91 #[.P r 0] h R:=by
 refine ux.walk (zA y λL g F=>⟨_,rfl,EA g ⟨_,rfl,?_⟩⟩);unfold mg at f;have b':=Im e bs;have a':(fG e bs).2.2.length<=bs.length:=by
  unfold fG;split
  .exact DT bs 0 0
  .exact bp _
 generalize fG e bs=B at*;obtain⟨n,E,d⟩:=B;dsimp only at*;by_cases H:E=0
 .subst H;simp only[fQ,cX,ar,aQ];obtain⟨p,c,k,o,hr,k1,k2,k3⟩:=id g;refine⟨p,_,c,au k,?_⟩;rw[af rfl]at f;rw[wrap_u64 (n:=(d.length:Int)) ag ag];by_cases t:n>d.length
  .have:(n:Int)>(d.length:Int):=ag
   simp only[this,bF,bm];rw[af t]at f;exact lW g λM z J=>⟨rfl,f M none 0 z (.nil rfl rfl rfl rfl) (λx ⟨a,e,_⟩=>by cases e) (F.tt J)⟩
  .have: ¬(n:Int)>(d.length:Int):=ag
   simp only[this,bu,ar,aQ];rw[ae t]at f;have hc:=o.le;refine⟨p,_,c,au k,ag,?_⟩;have O:=o.sub (l:=0) (u:=n) ag ag;simp only[cE,gx,Qm]at O;have I:(d.take n).length=n:=by rw[bA];omega
   refine gE O.iz (by rw[I];omega) ag λp' D T o4 m G=>⟨_,_,_,rfl,?_⟩
   have A:=g.frame m bX;obtain⟨P,C,s,Z,u,U,V,X⟩:=A;refine⟨P,_,C,au s,ag,?_⟩;refine bk s bU λq q1 Q q3=> ?_
   have j:Fr (λx=>x=r) T q:=Fr.of_eq Q q3;have v:=Z.sub (l:=n) (u:=d.length) ag (bp _);rw[cE,cE,<-kR d,fv,kR,Qn]at v;have l:(d.drop n).length=d.length - n:=bU
   refine f q p' D ⟨cQ P C n 1,C - n,?_,?_,λb=>u (mW b),U,λx b=>V x (mW b),λx b=>by rw[Q];exact X x b⟩ (o4.frame j (λx b e=> ?_)) (λx b=> ?_) (F.tt ((m.mono λ_ _=>False.elim).tt j))
   .rw[l];simpa using q1
   .rw[l];exact v.frame j (λx b e=>u (e▸mW b))
   .have:=G x b;have:=aA k;omega
   .have:=G x b;have:=F.1;omega
 .have:(E==0)=false:=by simpa using H
  simp only[this,dZ,bm];rw[ae H]at f;exact f L none 0 g (.nil rfl rfl rfl rfl) (λx ⟨a,e,_⟩=>by cases e) F
theorem QP(f:Rd h r S e bs)(a:R (.I (zp e bs)) h):Cl 92 #[.P r 0] h R:=by
 obtain⟨p,c,d,o,i,k,j,l⟩:=f;refine vI.walk (aG.of λJ g=>⟨true,au d,?_⟩);subst g;simp only[cX,ar,aQ];refine⟨e,au d,?_⟩;unfold zp at a;by_cases H:e=0
 .subst H;simp only[bne_self_eq_false,ar,aQ];refine⟨p,_,c,au d,?_⟩;rw[af rfl]at a;cases bs with
  |nil=>exact a
  |cons b bs=>
   have:(((b::bs).length:Nat):Int)>0:=by simp only[bn];omega
   simp only[this,bF,bm];rwa[ae bU]at a
 .have:(e !=0)=true:=by simpa using H
  simp only[this,bm];rw[ae H]at a;exact⟨e,au d,a⟩

end mi
end
section
open Go.fV
namespace mi
abbrev mD(n:BV):List Value:= [n.val]
theorem tN:oC Tryz.prog 103 33 1 24 (.Z):=⟨dA,dA,rfl⟩
theorem uN:Tryz.prog.underlying 103=some (.slice 33):=dA
theorem nB(n:BV):(mD n).length=1:=rfl
theorem OS(x:List BV): ∀v∈x.flatMap mD,fZ v=true:=by
 intro v H;obtain⟨a,_,h⟩:=List.mem_flatMap.1 H;simp at h;subst h;rfl

end mi
end
section
variable {h:ai} {R:fO}
variable {a:Nat} {x X i k:Int}
theorem L8.walk(d:bf h (.map #[] 0) λb H=>bf H (.C #[.Z,.map (some b)] 131) λB c=>R (.P B 0) c):Cl 30 #[] h R:=aS [] Tryz.func30 d
theorem xf.walk(H: ∃t,Cc h a 1 (.map t)/\R (.B (!t.isNone)) h):Cl 127 #[.P a 0] h R:=aS [] Tryz.func127 H
theorem yE.walk(H: ∃b t T,Cc h a 0 (.L b t T)/\R (.I ((t:Nat):Int)) h):Cl 126 #[.P a 0] h R:=aS [] Tryz.func126 H
theorem GX.walk{y:Int}{d:Int}(f:bf h (.C #[.I x,.U X] 220) λb e=>bf e (.C #[.I y,.U d] 220) λB H=>Hu H b 1 λl=> ∃c,Cc H B 1 (.U c)/\if(decide (l<c))then R (.B true) H else Hu H b 1 λg=> ∃t,Cc H B 1 (.U t)/\if(g==t)then Hi H b 0 λj=> ∃T,Cc H B 0 (.I T)/\R (.B (decide (j<T))) H else R (.B false) H):Cl 176 #[.agg #[.I x,.U X],.agg #[.I y,.U d]] h R:=aS [] Tryz.func176 f
theorem yF.walk(f:bf h (.C #[.I x,.U X] 220) λb H=>Hl H a 0 λm l _=>Hi H b 0 λT=>Hu H b 1 λg=>Bd i l/\aN m λA=>aJ H (A.add (toNat i*2)) (.I T) λd=>aJ d ((A.add (toNat i*2)).add 1) (.U g) λc=> ∃t,Cc c a 1 (.map t)/\Hi c b 0 λj=>aT Tryz.prog (Instr.mapUpdate 85 (.map t) (.I j) (.I i)) c λ_ e=>R (.T #[]) e):Cl 128 #[.P a 0,.I i,.agg #[.I x,.U X]] h R:=aS [(3,λ_=>pN 8),(4,λ_=>pN 8)] Tryz.func128 f
theorem AS.walk (hv: ∃(I:Int->ai->Prop)(P:Int->ai->Nat),(I i h)/\∀(c:Int)(H:ai),I c H->aG (λ(m':Bool) (d:ai)=>if m' then aG (λ(u':ct) (v':ct) (C:ai)=>aN u' λG=>kK C G λn'=>gA C (G.add 1) λo'=>Cl 128 #[.P a 0,.I (wrap .i64 (Int.tdiv (wrap .i64 (c - 1)) 2)),.agg #[.I n',.U o']] C λr' D=>r'=.T #[]/\aN v' λK=>kK D K λp'=>gA D (K.add 1) λq'=>Cl 128 #[.P a 0,.I c,.agg #[.I p',.U q']] D λs' O=>s'=.T #[]/\(I (wrap .i64 (Int.tdiv (wrap .i64 (c - 1)) 2)) O/\P (wrap .i64 (Int.tdiv (wrap .i64 (c - 1)) 2)) O<P c H)) (λF=>Hl d a 0 λs r u=>Bd c r/\aN s λg=>kK d (g.add (toNat c*2)) λj=>gA d ((g.add (toNat c*2)).add 1) λl=>Hl d a 0 λf e m=>Bd (wrap .i64 (Int.tdiv (wrap .i64 (c - 1)) 2)) e/\aN f λA=> ∃t,aU d (A.add (toNat (wrap .i64 (Int.tdiv (wrap .i64 (c - 1)) 2))*2))=some (.I t)/\∃T,aU d ((A.add (toNat (wrap .i64 (Int.tdiv (wrap .i64 (c - 1)) 2))*2)).add 1)=some (.U T)/\(bf d (.C #[.I 0,.U 0] 220) λb p=>dN (A.add (toNat (wrap .i64 (Int.tdiv (wrap .i64 (c - 1)) 2))*2)) [.I t,.U T] 0 p/\Cc p a 0 (.L f e m)/\dN (g.add (toNat c*2)) [.I j,.U l] 0 p/\Cc p a 0 (.L s r u)/\bf p (.C #[.I 0,.U 0] 220) λB q=>dN (A.add (toNat (wrap .i64 (Int.tdiv (wrap .i64 (c - 1)) 2))*2)) [.I t,.U T] 0 q/\Cc q a 0 (.L f e m)/\dN (g.add (toNat c*2)) [.I j,.U l] 0 q/\Cc q a 0 (.L s r u)/\aJ q (AA b 0) (.I j) λg'=>aJ g' (AA b 1) (.U l) λE=>dN (A.add (toNat (wrap .i64 (Int.tdiv (wrap .i64 (c - 1)) 2))*2)) [.I t,.U T] 0 E/\Cc E a 0 (.L f e m)/\aJ E (AA B 0) (.I t) λb'=>aJ b' (AA B 1) (.U T) λc'=>F (Sa b 0) (Sa B 0) c')/\(bf d (.C #[.I 0,.U 0] 220) λv n=>dN (A.add (toNat (wrap .i64 (Int.tdiv (wrap .i64 (c - 1)) 2))*2)) [.I t,.U T] 0 n/\Cc n a 0 (.L f e m)/\dN (g.add (toNat c*2)) [.I j,.U l] 0 n/\Cc n a 0 (.L s r u)/\bf n (.C #[.I 0,.U 0] 220) λw o=>dN (A.add (toNat (wrap .i64 (Int.tdiv (wrap .i64 (c - 1)) 2))*2)) [.I t,.U T] 0 o/\Cc o a 0 (.L f e m)/\dN (g.add (toNat c*2)) [.I j,.U l] 0 o/\Cc o a 0 (.L s r u)/\aJ o (AA w 0) (.I j) λd'=>aJ d' (AA w 1) (.U l) λy=>dN (A.add (toNat (wrap .i64 (Int.tdiv (wrap .i64 (c - 1)) 2))*2)) [.I t,.U T] 0 y/\Cc y a 0 (.L f e m)/\aJ y (AA v 0) (.I t) λe'=>aJ e' (AA v 1) (.U T) λf'=>F (Sa w 0) (Sa v 0) f')/\True)else R (.T #[]) d) (λJ=>if(decide (c>0))then Hl H a 0 λS Q h'=>Bd c Q/\aN S λL=>kK H (L.add (toNat c*2)) λi'=>gA H ((L.add (toNat c*2)).add 1) λj'=>Hl H a 0 λV U k'=>Bd (wrap .i64 (Int.tdiv (wrap .i64 (c - 1)) 2)) U/\aN V λM=> ∃Z,aU H (M.add (toNat (wrap .i64 (Int.tdiv (wrap .i64 (c - 1)) 2))*2))=some (.I Z)/\∃a',aU H ((M.add (toNat (wrap .i64 (Int.tdiv (wrap .i64 (c - 1)) 2))*2)).add 1)=some (.U a')/\Cl 176 #[.agg #[.I i',.U j'],.agg #[.I Z,.U a']] H λt' z=>Vb t' λl'=>Cc z a 0 (.L V U k')/\Cc z a 0 (.L S Q h')/\J l' z else J false H)):Cl 129 #[.P a 0,.I i] h R:=aS [(0,λ_=> .scope 0 [(1,.one (.int .i64))] (.seq .leaf .leaf) (.seq .leaf (.seq .leaf (.seq (.join [(28,.one (.bool))] (pN 19)) (.cond (.seq (.join [(5,.one (.ptr)),(6,.one (.ptr))] (.qT (fC 14 0 (.alts (.fork 14 (fC 3 15 .done) (.fork 15 (.op 14 (.op 16 (.op 17 .done))) .gw)))))) (.seq .leaf (.seq .leaf (.seq .leaf .leaf)))) .leaf)))))] Tryz.func129 hv
theorem xg.walk (hv: ∃(I:Int->ai->Prop)(mu:Int->ai->Nat),(I i h)/\∀(c:Int)(E:ai),I c E->∃(y:Int->Int->ai->Prop)(k':Int->Int->ai->Nat),y c 0 E/\∀(B:Int)(t:Int)(H:ai),y B t H->if(decide (t<2))then aG (λ(f':Int) (h':ai)=>(y f' (wrap .i64 (t+1)) h'/\k' f' (wrap .i64 (t+1)) h'<k' B t H)) (λJ=>Bd t 2/\(t=((0:Nat):Int)->aG (λ(X':Bool) (i':ai)=>aG (λ(B':Int) (J':ai)=>J B' J') (λQ=>if X' then Q (wrap .i64 ((wrap .i64 (2*c))+1)) i' else Q B i')) (λP=> ∃n' M l',Cc H a 0 (.L n' M l')/\if(decide ((wrap .i64 ((wrap .i64 (2*c))+1))<((M:Nat):Int)))then Hl H a 0 λr' p' L'=>Bd (wrap .i64 ((wrap .i64 (2*c))+1)) p'/\aN r' λZ=> ∃t',aU H (Z.add (toNat (wrap .i64 ((wrap .i64 (2*c))+1))*2))=some (.I t')/\∃v',aU H ((Z.add (toNat (wrap .i64 ((wrap .i64 (2*c))+1))*2)).add 1)=some (.U v')/\Hl H a 0 λz' x' O'=>Bd B x'/\aN z' λa'=>kK H (a'.add (toNat B*2)) λQ'=>gA H ((a'.add (toNat B*2)).add 1) λS'=>Cl 176 #[.agg #[.I t',.U v'],.agg #[.I Q',.U S']] H λa4 u=>Vb a4 λU'=>Cc u a 0 (.L z' x' O')/\Cc u a 0 (.L r' p' L')/\Cc u a 0 (.L n' M l')/\P U' u else P false H))/\(t=((1:Nat):Int)->aG (λ(Z':Bool) (j':ai)=>aG (λ(C':Int) (K':ai)=>J C' K') (λU=>if Z' then U (wrap .i64 ((wrap .i64 (2*c))+2)) j' else U B j')) (λS=> ∃o' O m',Cc H a 0 (.L o' O m')/\if(decide ((wrap .i64 ((wrap .i64 (2*c))+2))<((O:Nat):Int)))then Hl H a 0 λs' q' M'=>Bd (wrap .i64 ((wrap .i64 (2*c))+2)) q'/\aN s' λb'=> ∃u',aU H (b'.add (toNat (wrap .i64 ((wrap .i64 (2*c))+2))*2))=some (.I u')/\∃w',aU H ((b'.add (toNat (wrap .i64 ((wrap .i64 (2*c))+2))*2)).add 1)=some (.U w')/\Hl H a 0 λA' y' P'=>Bd B y'/\aN A' λc'=>kK H (c'.add (toNat B*2)) λR'=>gA H ((c'.add (toNat B*2)).add 1) λT'=>Cl 176 #[.agg #[.I u',.U w'],.agg #[.I R',.U T']] H λa5 v=>Vb a5 λV'=>Cc v a 0 (.L A' y' P')/\Cc v a 0 (.L s' q' M')/\Cc v a 0 (.L o' O m')/\S V' v else S false H))/\True)else if(B !=c)then aG (λ(a8:ct) (a9:ct) (F:ai)=>aN a8 λd'=>kK F d' λa0=>gA F (d'.add 1) λa1=>Cl 128 #[.P a 0,.I B,.agg #[.I a0,.U a1]] F λa6 G=>a6=.T #[]/\aN a9 λe'=>kK G e' λa2=>gA G (e'.add 1) λa3=>Cl 128 #[.P a 0,.I c,.agg #[.I a2,.U a3]] G λa7 g'=>a7=.T #[]/\(I B g'/\mu B g'<mu c E)) (λV=>Hl H a 0 λs r w=>Bd c r/\aN s λg=>kK H (g.add (toNat c*2)) λj=>gA H ((g.add (toNat c*2)).add 1) λl=>Hl H a 0 λf e m=>Bd B e/\aN f λA=>kK H (A.add (toNat B*2)) λT=>gA H ((A.add (toNat B*2)).add 1) λd=>(bf H (.C #[.I 0,.U 0] 220) λb n=>dN (A.add (toNat B*2)) [.I T,.U d] 0 n/\Cc n a 0 (.L f e m)/\dN (g.add (toNat c*2)) [.I j,.U l] 0 n/\Cc n a 0 (.L s r w)/\bf n (.C #[.I 0,.U 0] 220) λz o=>dN (A.add (toNat B*2)) [.I T,.U d] 0 o/\Cc o a 0 (.L f e m)/\dN (g.add (toNat c*2)) [.I j,.U l] 0 o/\Cc o a 0 (.L s r w)/\aJ o (AA b 0) (.I j) λD'=>aJ D' (AA b 1) (.U l) λK=>dN (A.add (toNat B*2)) [.I T,.U d] 0 K/\Cc K a 0 (.L f e m)/\aJ K (AA z 0) (.I T) λE'=>aJ E' (AA z 1) (.U d) λF'=>V (Sa b 0) (Sa z 0) F')/\(bf H (.C #[.I 0,.U 0] 220) λC p=>dN (A.add (toNat B*2)) [.I T,.U d] 0 p/\Cc p a 0 (.L f e m)/\dN (g.add (toNat c*2)) [.I j,.U l] 0 p/\Cc p a 0 (.L s r w)/\bf p (.C #[.I 0,.U 0] 220) λD q=>dN (A.add (toNat B*2)) [.I T,.U d] 0 q/\Cc q a 0 (.L f e m)/\dN (g.add (toNat c*2)) [.I j,.U l] 0 q/\Cc q a 0 (.L s r w)/\aJ q (AA D 0) (.I j) λG'=>aJ G' (AA D 1) (.U l) λL=>dN (A.add (toNat B*2)) [.I T,.U d] 0 L/\Cc L a 0 (.L f e m)/\aJ L (AA C 0) (.I T) λH'=>aJ H' (AA C 1) (.U d) λI'=>V (Sa D 0) (Sa C 0) I')/\True)else R (.T #[]) H):Cl 130 #[.P a 0,.I i] h R:=aS [(0,λ_=> .scope 0 [(1,.one (.int .i64))] (.seq .leaf .leaf) (.seq .leaf (.seq .leaf (.seq (.seq .leaf (.block (.loop [(4,.one (.int .i64)),(17,.one (.int .i64))] (.seq .leaf (.seq (.cond .leaf .leaf) (.seq (.join [(4,.one (.int .i64))] (.block (.seq .leaf (.seq (.join [(43,.one (.bool))] (pN 24)) (.join [(4,.one (.int .i64))] (.cond .leaf .leaf)))))) .leaf)))))) (.seq .leaf (.cond (.seq (.join [(7,.one (.ptr)),(8,.one (.ptr))] (.qT (fC 14 0 (.alts (.fork 14 (fC 3 15 .done) (.fork 15 (.op 14 (.op 16 (.op 17 .done))) .gw)))))) (.seq .leaf (.seq .leaf (.seq .leaf .leaf)))) .leaf))))))] Tryz.func130 hv
theorem yG.walk{V:Int}(p:Cl 127 #[.P a 0] h λv H=> ∃t,v=.B t/\if(!t)then R (.I 6) H else aG (λ(q:Bool) (c:ai)=>if q then R (.I 1) c else Cl 81 #[.P a 0,.I k] c λw d=>Vi w λ_=>Hl d a 0 λu s r=>bf d (.C #[.I 0,.U 0] 220) λb l=>aT Tryz.prog (Builtin.append_ #[129,129] 129 #[.L u s r,.L (Sa b 0) 1 1]) l λy m=> ∃g f T,y=.L g f T/\aJ m (AA a 0) (.L g f T) λe=>Hl e a 0 λ_ j _=>Cl 128 #[.P a 0,.I (wrap .i64 ((j:Int) - 1)),.agg #[.I k,.U V]] e λz n=>z=.T #[]/\Cl 129 #[.P a 0,.I (wrap .i64 ((j:Int) - 1))] n λA o=>A=.T #[]/\R (.I 0) o) (λJ=>if(decide (k<1))then J true H else if(decide (k>1099511627776))then J true H else J (decide (V>1099511627776)) H)):Cl 172 #[.P a 0,.I k,.U V] h R:=aS [(11,.join [(12,.one (.bool))])] Tryz.func172 p
theorem xh.walk (C:Cl 127 #[.P a 0] h λv H=> ∃m,v=.B m/\if(!m)then R (.I 6) H else∃n,Cc H a 1 (.map n)/\∃T o,iK Tryz.prog 85 (.map n) (.I k) true H (.T #[.I T,.B o])/\if(!o)then R (.I 4) H else Hl H a 0 λ_ t _=>Hl H a 0 λE D _=>Bd (wrap .i64 ((t:Int) - 1)) D/\aN E λA=> ∃p,aU H (A.add (toNat (wrap .i64 ((t:Int) - 1))*2))=some (.I p)/\∃q,aU H ((A.add (toNat (wrap .i64 ((t:Int) - 1))*2)).add 1)=some (.U q)/\bf H (.C #[.I 0,.U 0] 220) λb w=>aJ w (AA b 0) (.I p) λy=>aJ y (AA b 1) (.U q) λj=>Hl j a 0 λF _ f=>((0:Int)<=wrap .i64 ((t:Int) - 1)/\wrap .i64 ((t:Int) - 1)<=(f:Int))/\aJ j (AA a 0) (.slice (cQ F f 0 2) ((toNat (wrap .i64 ((t:Int) - 1))) - 0) (f - 0)) λl=> ∃r,Cc l a 1 (.map r)/\aT Tryz.prog (Builtin.delete_ #[85,3] 0 #[.map r,.I k]) l λV c=>V=.T #[]/\aG (λ(z:ai)=>R (.I 0) z) (λJ=>if(decide (T<(wrap .i64 ((t:Int) - 1))))then Hi c b 0 λG=>Hu c b 1 λI=>Cl 128 #[.P a 0,.I T,.agg #[.I G,.U I]] c λK B=>K=.T #[]/\Cl 129 #[.P a 0,.I T] B λL d=>L=.T #[]/\∃g,Cc d a 1 (.map g)/\Hi d b 0 λs=> ∃u,iK Tryz.prog 85 (.map g) (.I s) false d (.I u)/\Cl 130 #[.P a 0,.I u] d λM e=>M=.T #[]/\Cc e b 0 (.I s)/\Cc e a 1 (.map g)/\J e else J c)):Cl 81 #[.P a 0,.I k] h R:=aS [(31,.join []),(36,λ_=>pN 9)] Tryz.func81 C
theorem xi.walk(c:Cl 126 #[.P a 0] h λv H=> ∃T,v=.I T/\if(T==0)then R (.T #[.I 0,.U 0,.B false]) H else Hl H a 0 λe d _=>Bd 0 d/\aN e λA=>kK H (A.add (toNat 0*2)) λf=>Hl H a 0 λj g _=>Bd 0 g/\aN j λb=> ∃t,aU H ((b.add (toNat 0*2)).add 1)=some (.U t)/\R (.T #[.I f,.U t,.B true]) H):Cl 80 #[.P a 0] h R:=aS [(11,λ_=>pN 17)] Tryz.func80 c
theorem xj.walk{n:Int}(A:Cl 80 #[.P a 0] h λv u=> ∃j l p,v=.T #[.I j,.U l,.B p]/\∃(I:ct->Nat->Nat->Int->Int->Bool->ai->Prop)(m:ct->Nat->Nat->Int->Int->Bool->ai->Nat),I none 0 0 j l p u/\∀(c:ct)(O o:Nat)(k:Int)(V:Int)(d:Bool)(H:ai),I c O o k V d H->aG (λ(B:Bool) (f:ai)=>if B then bf f (.C #[.I k] 3) λb w=>aT Tryz.prog (Builtin.append_ #[113,113] 113 #[.L c O o,.L (Sa b 0) 1 1]) w λC y=>Vl C λs r q=>Cl 81 #[.P a 0,.I k] y λD z=>Vi D λ_=>Cl 80 #[.P a 0] z λE g=> ∃t T e,E=.T #[.I t,.U T,.B e]/\(I s r q t T e g/\m s r q t T e g<m c O o k V d H)else R (.L c O o) f) (λJ=>if d then J (decide (V<=n)) H else J false H)):Cl 59 #[.P a 0,.U n] h R:=aS [(8,.loop [(5,.one (.slice)),(6,.one (.int .i64)),(7,.one (.int .u64)),(8,.one (.bool))]),(11,.join [(20,.one (.bool))])] Tryz.func59 A

end
section
open Go.kU
namespace cg
theorem tm:rj Tryz.prog 85 (.I 0):=.of 3 3 .i64 dA dA dA
def enc(b:List E):List Value:=b.flatMap λe=> [.int .i64 e.1,.int .u64 e.2]
theorem ph(e:E)(b:List E):enc (e::b)=.I e.1:: .U e.2::enc b:=rfl
theorem kV: ∀b:List E,(enc b).length=b.length*2
 | []=>rfl
 |e::b=>by rw[ph];simp only[bn,kV b];omega
theorem I4(b fs:List E):enc (b++fs)=enc b++enc fs:=by simp[enc]
theorem RR: ∀{b:List E}{i:Nat},i<b.length->(enc b)[i*2]? =some (.I (at_ b i).1)
 | [],_,h=>by simp at h
 |e::b,0,_=>rfl
 |e::b,i+1,h=>by
  rw[ph,show(i+1)*2=i*2+1+1 by omega,dP,dP,RR (cR h)];rfl
theorem RT: ∀{b:List E}{i:Nat},i<b.length->(enc b)[i*2+1]? =some (.U (at_ b i).2)
 | [],_,h=>by simp at h
 |e::b,0,_=>rfl
 |e::b,i+1,h=>by
  rw[ph,show(i+1)*2+1=i*2+1+1+1 by omega,dP,dP,RT (cR h)];rfl
theorem Ko: ∀(b:List E)(i:Nat)(x:E),((enc b).set (i*2) (.I x.1)).set (i*2+1) (.U x.2)=enc (b.set i x)
 | [],_,_=>by simp[enc]
 |e::b,0,x=>rfl
 |e::b,i+1,x=>by
  rw[ph,show(i+1)*2=i*2+1+1 by omega,List.set_cons_succ,List.set_cons_succ,List.set_cons_succ,List.set_cons_succ,Ko b i x];rfl
theorem GY: ∀(b:List E)(n:Nat),(enc b).take (n*2)=enc (b.take n)
 | [],n=>by simp[enc]
 |e::b,0=>by simp[enc]
 |e::b,n+1=>by
  rw[ph,show(n+1)*2=n*2+1+1 by omega,gr,gr,GY b n];rfl
theorem Kq: ∀(b:List E),∀v∈enc b,fZ v=true
 | [],_,h=>by cases h
 |e::b,v,h=>by
  rw[ph]at h;rcases bg.1 h with rfl|h
  .rfl
  .rcases bg.1 h with rfl|h
   .rfl
   .exact Kq b v h
structure Mem (h:ai) (a:Nat) (p:ct) (cap m:Nat) (b:List E) (g:Int->Option Value):Prop where
 di:h[a]? =some (.cells #[.slice p b.length cap,.map (some m)] 131 (0,0))
 own:Own h p b.length cap 2 (enc b)
 map:nU h m g
 ne: ¬aP p a
def AT(a:Nat)(p:ct)(m:Nat)(c:Nat):Prop:=c=a\/c=m\/aP p c
def inner(p:ct)(m:Nat)(c:Nat):Prop:=c=m\/aP p c
variable {h : ai} {a m cap : Nat} {p : Option Addr} {b : List E} {g : Int → Option Value} {R : Value → ai → Prop}
theorem Mem.am(M:Mem h a p cap m b g):a≠m:=by
 rintro rfl;obtain⟨x,c,H⟩:=M.map.map;rw[M.di]at H;cases H
theorem Mem.pm(M:Mem h a p cap m b g): ¬aP p m:=λd=>by
 obtain⟨x,c,H⟩:=M.map.map;obtain⟨y,t,e⟩:=M.own.cells d;rw[e]at H;cases H
theorem Mem.lt(M:Mem h a p cap m b g){c:Nat}(hc:AT a p m c):c<h.size:=by
 rcases hc with rfl|rfl|hc
 .exact aA M.di
 .exact M.map.lt
 .exact M.own.dI hc
theorem Mem.frame{S:Nat->Prop}{e:ai}(M:Mem h a p cap m b g)(H:Fr S h e)(d: ∀c,AT a p m c->¬S c):Mem e a p cap m b g:=
 ⟨H.get M.di (d a (.inl rfl)),M.own.frame H λc f=>d c (.inr (.inr f)),M.map.frame H (d m (.inr (.inl rfl))),M.ne⟩
theorem Mem.calm{H:ai}(M:Mem h a p cap m b g)(c:Fr No h H):Mem H a p cap m b g:=M.frame c λ_ _=>id
theorem Mem.hd(M:Mem h a p cap m b g):aU h (AA a 0)=some (.L p b.length cap):=au M.di
theorem Mem.mp(M:Mem h a p cap m b g):aU h (AA a 1)=some (.map (some m)):=au M.di
theorem Mem.some(M:Mem h a p cap m b g)(c:0<b.length): ∃A,p=some A:=by
 obtain⟨B,o,H⟩:=M.own.some (by rw[kV];omega);exact⟨_,H⟩
theorem Mem.c0{A:Addr}(M:Mem h a (.some A) cap m b g){i:Nat}(H:i<b.length):aU h (A.add (i*2))=.some (.I (at_ b i).1):=M.own.cell (RR H)
theorem Mem.c1{A:Addr}(M:Mem h a (.some A) cap m b g){i:Nat}(H:i<b.length):aU h ((A.add (i*2)).add 1)=.some (.U (at_ b i).2):=by
 rw[add_add];exact M.own.cell (RT H)
theorem vP{X x y0 y:Int}(k: hH h R (.B (decide (lt (X,x) (y0,y))))):
  Cl 176 #[.agg #[.I X,.U x],.agg #[.I y0,.U y]] h R:=by
 refine GX.walk ?_;rintro B c rfl rfl l d rfl rfl;have f:Fr No h ((h.push (.C #[.I X,.U x] 220)).push (.C #[.I y0,.U y] 220)):=Fr.tt (Fr.push _ _) (Fr.push _ _);have i:=zV (x:=.C #[.I y0,.U y] 220) (bZ (h:=h) (x:=.C #[.I X,.U x] 220));have j:=bZ (h:=h.push (.C #[.I X,.U x] 220)) (x:=.C #[.I y0,.U y] 220);have H:=k _ f;refine⟨x,au i,y,au j,?_⟩;by_cases c:x<y
 .have e:decide (lt (X,x) (y0,y))=true:=by simp[lt,c]
  rw[e]at H;simpa only[c,bF,bm]using H
 .simp only[c,bu,ar,aQ];refine⟨x,au i,y,au j,?_⟩;by_cases d:x=y
  .subst d;simp only[fQ,bm];refine⟨X,au i,y0,au j,?_⟩;have e:decide (lt (X,x) (y0,x))=decide (X<y0):=by simp[lt]
   rw[e]at H;exact H
  .have e:decide (lt (X,x) (y0,y))=false:=by simp[lt,c,d]
   rw[e]at H;simpa only[dz.2 d,ar,aQ]using H
theorem xm(M:Mem h a p cap m b g){i:Nat}(I:i<b.length){x X:Int}(v: ∀l,Mem l a p cap m (b.set i (x,X)) (λk=>if k=x then some (.I i)else g k)->Fr (inner p m) h l->R (.T #[]) l):
  Cl 128 #[.P a 0,.I i,.agg #[.I x,.U X]] h R:=by
 obtain⟨A,rfl⟩:=M.some ag;refine yF.walk ?_;rintro B n t rfl;have j:Fr No h (h.push (.C #[.I x,.U X] 220)):=Fr.push _ _;have d:=M.calm j;have f:=bZ (h:=h) (x:=.C #[.I x,.U X] 220);rw[<-t]at f;generalize h.push (.C #[.I x,.U X] 220)=n at j d f;have u: ∀c,AT a (some A) m c->B≠c:=λc H e=>by have:=M.lt H;omega
 refine⟨_,_,_,d.hd,x,au f,X,au f,ag,ax.2 ?_⟩;rw[aH,add_add];have J:=kV b;refine d.own.store ag λG D S y=>D.store (by rw[dQ];omega) λq O E z=> ?_
 rw[Ko b i (x,X)]at O;have F:Fr (aP (some A)) n q:=Fr.tt (Fr.of_eq S y) (Fr.of_eq E z);have w:=F.get f (λH=>u B (.inr (.inr H)) rfl);have o:=F.get d.di M.ne;refine⟨_,au o,x,au w,?_⟩;refine nj tm (d.map.frame F M.pm) λr C s K=>v r ⟨?_,?_,C,M.ne⟩ ?_
 .rw[K a M.am,o,dQ]
 .rw[dQ];exact O.frame (Fr.of_eq (S:=λc=>c=m) s K) (λc H e=>M.pm (e▸H))
 .exact Fr.no j ((F.mono λc _ H=> .inr H).trans (Fr.of_eq (S:=λc=>c=m) s K) bX (λ_ _ H=> .inl H))
theorem RU{h:ai}{t:TypeId}{z Z X M y0 O:Value}{G k u v:ai->Prop}{J:ct->ct->ai->Prop}(s: ∀j,Fr No h j->G j/\k j/\u j/\v j)(hJ: ∀B d j,j[B]? =some (.C #[X,M] t (0,0))->j[d]? =some (.C #[y0,O] t (0,0))->h.size<=B->h.size<=d->Fr No h j->J (Sa B 0) (Sa d 0) j):
  (bf h (.C #[z,Z] t) λB H=>G H/\k H/\u H/\v H/\bf H (.C #[z,Z] t) λl e=>G e/\k e/\u e/\v e/\
   aJ e (AA B 0) X λE=>aJ E (AA B 1) M λi=>G i/\k i/\aJ i (AA l 0) y0 λC=>aJ C (AA l 1) O λD=>J (Sa B 0) (Sa l 0) D)/\
  (bf h (.C #[z,Z] t) λB H=>G H/\k H/\u H/\v H/\bf H (.C #[z,Z] t) λl e=>G e/\k e/\u e/\v e/\
   aJ e (AA l 0) X λE=>aJ E (AA l 1) M λi=>G i/\k i/\aJ i (AA B 0) y0 λC=>aJ C (AA B 1) O λD=>J (Sa l 0) (Sa B 0) D)/\True:=by
 have a': ∀(B d:Nat)(A:ai),B≠d->h.size<=B->h.size<=d->Fr No h A->A[B]? =some (.C #[z,Z] t (0,0))->A[d]? =some (.C #[z,Z] t (0,0))->
   aJ A (AA B 0) X λE=>aJ E (AA B 1) M λi=>G i/\k i/\aJ i (AA d 0) y0 λC=>aJ C (AA d 1) O λD=>J (Sa B 0) (Sa d 0) D:=by
  intro B d A L Q S f7 c7 f';have K: ∀{w x:ai}{c':Nat},Fr No h w->h.size<=c'->x.size=w.size->(∀y,y≠c'->x[y]? =w[y]?)->Fr No h x:=λf hx hs ho=>
   ⟨bW f.1,λc hc hn=>by rw[ho c ag];exact f.2 c hc hn⟩
  refine bk c7 bU λh8 c8 s8 V=>bk c8 bU λh9 c9 s9 k9=> ?_
  have P:=K (K f7 Q s8 V) Q s9 k9;have g':h9[d]? =some (.C #[z,Z] t (0,0)):=by rw[k9 _ L.symm,V _ L.symm];exact f'
  refine⟨(s _ P).1,(s _ P).2.1,bk g' bU λk' d' i' T=>bk d' bU λh' e' j' U=> ?_⟩;refine hJ B d h' ?_ e' Q S (K (K P S i' T) S j' U);rw[U _ L,T _ L];exact c9
 have I: ∀b',Fr No h (h.push b'):=λb'=>Fr.push _ _
 refine⟨?_,?_,trivial⟩
 .rintro B w rfl rfl;obtain⟨n,o,q,r⟩:=s _ (I _);refine⟨n,o,q,r,?_⟩;rintro d x rfl rfl;have F:=Fr.tt (I (.C #[z,Z] t)) (Fr.push (h.push (.C #[z,Z] t)) (.C #[z,Z] t));obtain⟨n,o,q,r⟩:=s _ F;exact⟨n,o,q,r,a' _ _ _ bU bU bU F (zV bZ) bZ⟩
 .rintro B w rfl rfl;obtain⟨n,o,q,r⟩:=s _ (I _);refine⟨n,o,q,r,?_⟩;rintro d x rfl rfl;have F:=Fr.tt (I (.C #[z,Z] t)) (Fr.push (h.push (.C #[z,Z] t)) (.C #[z,Z] t));obtain⟨n,o,q,r⟩:=s _ F;exact⟨n,o,q,r,a' _ _ _ bU bU bU F bZ (zV bZ)⟩
end cg
end
section
open Go.kU
namespace cg
variable {h:ai} {a m cap:Nat} {p:ct} {c:List E} {g:Int→Option Value} {R:fO}
variable {q i b:Nat}
theorem SG(H:q<1000000):IntKind.wrap .i64 (Int.tdiv (IntKind.wrap .i64 ((q:Int) - 1)) 2)=(((q - 1)/2:Nat):Int):=by
 rw[bJ (n:=(q:Int) - 1) ag ag];cases q with
 |zero=>decide
 |succ n=>
  rw[show((n+1:Nat):Int) - 1=(n:Int) by omega,show n+1 - 1=n from rfl];have:Int.tdiv (n:Int) 2=((n/2:Nat):Int):=by
   rw[Int.tdiv_eq_ediv_of_nonneg ag];omega
  rw[this];exact bJ ag ag
theorem QQ(H:q<1000000):IntKind.wrap .i64 (IntKind.wrap .i64 (2*(q:Int))+1)=((2*q+1:Nat):Int):=by
 rw[bJ (n:=2*(q:Int)) ag ag,bJ ag ag];omega
theorem QR(H:q<1000000):IntKind.wrap .i64 (IntKind.wrap .i64 (2*(q:Int))+2)=((2*q+2:Nat):Int):=by
 rw[bJ (n:=2*(q:Int)) ag ag,bJ ag ag];omega
theorem Kr{K:ai->Prop}(M:Mem h a p cap m c g)(y:iR c g){j B:Nat}(n:i<c.length)(o:j<c.length)(E:i≠j)(k:h[b]? =some (.C #[.I (at_ c i).1,.U (at_ c i).2] 220 (0,0)))(C:h[B]? =some (.C #[.I (at_ c j).1,.U (at_ c j).2] 220 (0,0)))(I: ¬inner p m B)(D: ∀H G,Mem H a p cap m (qj c i j) G->iR (qj c i j) G->Fr (inner p m) h H->K H):
  aN (some ((AA b 0):Addr)) λA=>
   ∃(t:Int),aU h A=some (.I t)/\∃(T:Int),aU h (A.add 1)=some (.U T)/\
   Cl 128 #[.P a 0,.I (j:Int),.agg #[.I t,.U T]] h λv d=>
   v=.T #[]/\
   aN (some ((AA B 0):Addr)) λe=>
   ∃(r:Int),aU d e=some (.I r)/\∃(s:Int),aU d (e.add 1)=some (.U s)/\
   Cl 128 #[.P a 0,.I (i:Int),.agg #[.I r,.U s]] d λV z=>
   V=.T #[]/\K z:=by
 refine ax.2 ⟨_,au k,_,by rw[gZ];exact au k,?_⟩;refine xm M o λJ u f=>⟨rfl,ax.2 ?_⟩
 have l:=f.get C I;refine⟨_,au l,_,by rw[gZ];exact au l,?_⟩;refine xm u (by rw[dQ];exact n) λx w F=>⟨rfl,D x _ w (y.swap n o E) (Fr.tt f F)⟩
def WB(H:ai)(a:Nat)(p:ct)(cap m:Nat)(e:List E)(I:Nat)(i:Int)(h:ai):Prop:=
 ∃c g q,i=((q:Nat):Int)/\q<e.length/\c.length=e.length/\Mem h a p cap m c g/\iR c g/\c.Perm e/\uo (at_ c) e.length q/\
  ((q=I/\c=e)\/Ad (at_ c) e.length q)/\at_ c q=at_ e I/\Fr (inner p m) H h
theorem AU(M:Mem h a p cap m c g)(X:iR c g)(hi:i<c.length)(hn:c.length<1000000)(L:uo (at_ c) c.length i)(hk: ∀o E G q,Mem o a p cap m E G->iR E G->E.Perm c->E.length=c.length->q<c.length->at_ E q=at_ c i->uq (at_ E) c.length q->(Ad (at_ c) c.length i->rE (at_ E) c.length)->Fr (inner p m) h o->R (.T #[]) o):
  Cl 129 #[.P a 0,.I (i:Int)] h R:=by
 refine AS.walk ⟨WB h a p cap m c i,λi _=>i.toNat,⟨c,g,i,rfl,hi,rfl,M,X,.refl _,L,.inl ⟨rfl,rfl⟩,rfl,Fr.refl _ _⟩,?_⟩;rintro i1 u ⟨e,Q,q,rfl,y,x,d,P,A,s,kd,w,t⟩;rw[SG ag];refine aG.of λJ v=> ?_
 have k:q<e.length:=ag
 have H:(q - 1)/2<e.length:=ag
 have S: ∀n,Fr No u n->(q=0\/le (at_ e ((q - 1)/2)) (at_ e q))->J false n:=by
  intro n f d';subst v;simp only[ar,aQ];have hd:=Qo s d';refine hk n e Q q (d.calm f) P A x y w hd (λk0=> ?_) (Fr.on t f);rcases kd with⟨I,K⟩|kd
  .subst I K;exact pU hd k0
  .exact pU hd kd
 by_cases U:q=0
 .subst U;exact S u (Fr.refl _ _) (.inl rfl)
 .have c':(q:Int)>0:=ag
  simp only[c',bF,bm,aH];obtain⟨ad,rfl⟩:=d.some ag;refine⟨_,_,_,d.hd,ag,ax.2 ⟨_,d.c0 k,_,d.c1 k,_,_,_,d.hd,ag,ax.2 ⟨_,d.c0 H,_,d.c1 H,vP λn f=>⟨_,rfl,(d.calm f).hd,(d.calm f).hd,?_⟩⟩⟩⟩;by_cases r:lt (at_ e q) (at_ e ((q - 1)/2))
  .rw[show decide (lt ((at_ e q).1,(at_ e q).2) ((at_ e ((q - 1)/2)).1,(at_ e ((q - 1)/2)).2))=true from av r];subst v;simp only[bm,aH];have j:=d.calm f;refine aG.of λJ1 V=> ?_
   refine⟨_,_,_,j.hd,ag,ax.2 ⟨_,j.c0 k,_,j.c1 k,_,_,_,j.hd,ag,ax.2 ⟨_,j.c0 H,_,j.c1 H,?_⟩⟩⟩;refine RU (λo F=> ?_) (λb b' o Z a' sb e' F=> ?_)
   .have l:=j.calm F;exact⟨⟨l.c0 H,l.c1 H,trivial⟩,l.hd,⟨l.c0 k,l.c1 k,trivial⟩,l.hd⟩
   .subst V;have B:=j.calm F;refine Kr B P k H ag Z a' (λhc=> ?_) λh5 T C D O=>⟨⟨qj e q ((q - 1)/2),T,(q - 1)/2,rfl,ag,by rw[wS];exact x,C,D,(ur k H).trans A,?_⟩,?_⟩
    .have:=j.lt (.inr hc);omega
    .have z:=Qp s ag y rfl r;rw[CT k H];refine⟨z.1,.inr z.2,?_,Fr.tt t (Fr.no f (Fr.no F O))⟩;rw[<-w];unfold oS;rw[dy,af rfl]
    .show Int.toNat (((q - 1)/2:Nat):Int)<Int.toNat (q:Int);rw[aH,aH];omega
  .rw[show decide (lt ((at_ e q).1,(at_ e q).2) ((at_ e ((q - 1)/2)).1,(at_ e ((q - 1)/2)).2))=false from aC r];exact S n f (.inr r)
theorem OT{J:Int->ai->Prop}(M:Mem h a p cap m c g){C:Nat}(z:b<c.length)(S:c.length<=C->J b h)(U:C<c.length->lt (at_ c C) (at_ c b)->∀H,Fr No h H->J C H)(V:C<c.length->¬lt (at_ c C) (at_ c b)->∀H,Fr No h H->J b H):
  aG (λ(X:Bool) (y:ai)=>
   aG (λ(P:Int) (Q:ai)=>
    J P Q)
   (λs=>
    if X=true then
     s (C:Int) y
    else
     s (b:Int) y))
  (λr=>
   ∃(D:ct)(t B:Nat),aU h (AA a 0)=some (.L D t B)/\
   if(decide ((C:Int)<(t:Int)))=true then
    ∃(l:ct)(T E:Nat),aU h (AA a 0)=some (.L l T E)/\
    ((0:Int)<=(C:Int)/\(C:Int)<(T:Int))/\
    aN l λA=>
    ∃(F:Int),aU h (A.add (Int.toNat (C:Int)*2))=some (.I F)/\∃(G:Int),aU h ((A.add (Int.toNat (C:Int)*2)).add 1)=some (.U G)/\
    ∃(o:ct)(n I:Nat),aU h (AA a 0)=some (.L o n I)/\
    ((0:Int)<=(b:Int)/\(b:Int)<(n:Int))/\
    aN o λu=>
    ∃(K:Int),aU h (u.add (Int.toNat (b:Int)*2))=some (.I K)/\∃(L:Int),aU h ((u.add (Int.toNat (b:Int)*2)).add 1)=some (.U L)/\
    Cl 176 #[.agg #[.I F,.U G],.agg #[.I K,.U L]] h λv d=>
    ∃(O:Bool),v=.B O/\
    aU d (AA a 0)=some (.L o n I)/\
    aU d (AA a 0)=some (.L l T E)/\
    aU d (AA a 0)=some (.L D t B)/\
    r O d
   else
    r false h):=by
 refine aG.of λZ x=>⟨_,_,_,M.hd,?_⟩
 by_cases e:C<c.length
 .have k:(C:Int)<(c.length:Int):=ag
  simp only[k,bF,bm,aH];obtain⟨ad,rfl⟩:=M.some ag;refine⟨_,_,_,M.hd,ag,ax.2 ⟨_,M.c0 e,_,M.c1 e,_,_,_,M.hd,ag,ax.2 ⟨_,M.c0 z,_,M.c1 z,vP λw f=>⟨_,rfl,(M.calm f).hd,(M.calm f).hd,(M.calm f).hd,?_⟩⟩⟩⟩;subst x;by_cases j:lt (at_ c C) (at_ c b)
  .rw[show decide (lt ((at_ c C).1,(at_ c C).2) ((at_ c b).1,(at_ c b).2))=true from av j];simp only[bm,aG];exact U e j w f
  .rw[show decide (lt ((at_ c C).1,(at_ c C).2) ((at_ c b).1,(at_ c b).2))=false from aC j];simp only[ar,aQ,aG];exact V e j w f
 .have k: ¬(C:Int)<(c.length:Int):=ag
  subst x;simp only[k,bu,ar,aQ,aG];exact S ag
def WC(H:ai)(a:Nat)(p:ct)(cap m:Nat)(e:List E)(i:Int)(h:ai):Prop:=
 ∃c g q,i=((q:Nat):Int)/\q<e.length/\c.length=e.length/\Mem h a p cap m c g/\iR c g/\c.Perm e/\uq (at_ c) e.length q/\Fr (inner p m) H h
def Vq(H:ai)(c:List E)(q:Nat)(B t:Int)(h:ai):Prop:=
 ∃b k:Nat,B=b/\t=k/\k<=2/\b<c.length/\Fr No H h/\(b≠q->(b - 1)/2=q/\0<b/\lt (at_ c b) (at_ c q))/\∀C,0<C->C<c.length->C<=2*q+k->(C - 1)/2=q->le (at_ c b) (at_ c C)
theorem vQ(M:Mem h a p cap m c g)(hP:iR c g)(hi:i<c.length)(hn:c.length<1000000)(ex:uq (at_ c) c.length i)(hk: ∀z E Q,Mem z a p cap m E Q->iR E Q->E.Perm c->E.length=c.length->rE (at_ E) c.length->Fr (inner p m) h z->R (.T #[]) z):
  Cl 130 #[.P a 0,.I (i:Int)] h R:=by
 refine xg.walk ⟨WC h a p cap m c,λi _=>c.length - i.toNat,⟨c,g,i,rfl,hi,rfl,M,hP,.refl _,ex,Fr.refl _ _⟩,?_⟩;rintro i1 S ⟨B,g1,q,rfl,hq,V,Z,P,X,L,O⟩;have s:q<B.length:=ag
 rw[QQ ag,QR ag];refine⟨Vq S B q,λ_ t _=>2 - t.toNat,⟨q,0,rfl,rfl,ag,s,Fr.refl _ _,λI=>absurd rfl I,λC S T G h4=>ag⟩,?_⟩;rintro e' t T ⟨b,k,rfl,rfl,h',H,F,v,A⟩;have d:=Z.calm F;by_cases i':k<2
 .have b':(k:Int)<2:=ag
  simp only[b',bF,bm];rw[bJ (n:=(k:Int)+1) ag ag];refine aG.of λd' U=>⟨ag,λf'=> ?_,λg'=> ?_,trivial⟩
  .obtain rfl:k=0:=ag
   refine OT d H (λl=> ?_) (λl f G u=> ?_) (λl f G u=> ?_)<;>subst U<;>refine⟨?_,bU⟩
   .exact⟨b,1,rfl,rfl,ag,H,F,v,λC n o y r=>ag⟩
   .refine⟨2*q+1,1,rfl,rfl,ag,l,Fr.tt F u,λ_=>⟨ag,ag,?_⟩,λC n o y r=> ?_⟩
    .by_cases e:b=q
     .rw[<-e];exact e▸f
     .exact lt_trans f (v e).2.2
    .have:C=2*q+1:=ag
     subst this;exact le_refl _
   .refine⟨b,1,rfl,rfl,ag,H,Fr.tt F u,v,λC n o y r=> ?_⟩;have:C=2*q+1:=ag
    subst this;exact f
  .obtain rfl:k=1:=ag
   refine OT d H (λl=> ?_) (λl f G u=> ?_) (λl f G u=> ?_)<;>subst U<;>refine⟨?_,bU⟩
   .exact⟨b,2,rfl,rfl,ag,H,F,v,λC n o y r=>A C n o ag r⟩
   .refine⟨2*q+2,2,rfl,rfl,ag,l,Fr.tt F u,λ_=>⟨ag,ag,?_⟩,λC n o y r=> ?_⟩
    .by_cases e:b=q
     .rw[<-e];exact e▸f
     .exact lt_trans f (v e).2.2
    .by_cases e:C=2*q+2
     .subst e;exact le_refl _
     .exact le_trans (le_of_lt f) (A C n o ag r)
   .refine⟨b,2,rfl,rfl,ag,H,Fr.tt F u,v,λC n o y r=> ?_⟩;by_cases e:C=2*q+2
    .subst e;exact f
    .exact A C n o ag r
 .obtain rfl:k=2:=ag
  simp only[show¬((2:Nat):Int)<2 by omega,bu,ar,aQ];by_cases e:b=q
  .subst e;simp only[bne_self_eq_false,ar,aQ];refine hk T B g1 d P X V (pU L λj J j2 K=>A j J ag ag K) (Fr.on O F)
  .obtain⟨b1,b2,b3⟩:=v e;have I:((b:Int) !=(q:Int))=true:=by simp;omega
   simp only[I,bm,aH];obtain⟨ad,rfl⟩:=d.some ag;refine aG.of λJ1 a'=> ?_
   refine⟨_,_,_,d.hd,ag,ax.2 ⟨_,d.c0 s,_,d.c1 s,_,_,_,d.hd,ag,ax.2 ⟨_,d.c0 H,_,d.c1 H,?_⟩⟩⟩;refine RU (λz D=> ?_) (λx x' z hx c' sx j' D=> ?_)
   .have w:=d.calm D;exact⟨⟨w.c0 H,w.c1 H,trivial⟩,w.hd,⟨w.c0 s,w.c1 s,trivial⟩,w.hd⟩
   .subst a';have M3:=d.calm D;refine Kr M3 P s H (λx=>e x.symm) hx c' (λl=> ?_) λh5 g5 M5 P5 f5=>⟨⟨qj B q b,g5,b,rfl,ag,by rw[wS];exact V,M5,P5,(ur s H).trans X,?_,Fr.tt O (Fr.no F (Fr.no D f5))⟩,?_⟩
    .have:=d.lt (.inr l);omega
    .rw[CT s H];exact Lh L b1 b2 ag b3 λj J j2 K=>A j J ag ag K
    .show c.length - Int.toNat (b:Int)<c.length - Int.toNat (q:Int);rw[aH,aH];omega

end cg
end
section
open Go.kU
namespace cg
variable {h:ai} {a m cap:Nat} {p:ct} {b:List E} {g:Int→Option Value} {R:fO} {S:Nat→Prop} {L:List E}
theorem tE:oC Tryz.prog 129 220 2 16 (.agg #[.I 0,.U 0]):=⟨dA,dA,rfl⟩
theorem tI:oC Tryz.prog 113 3 1 8 (.I 0):=⟨dA,dA,rfl⟩
def Good(L:List E):Prop:= ∀e∈L,1<=e.1/\e.1<=1099511627776/\0<=e.2/\e.2<=1099511627776
def Al(h:ai)(a:Nat)(S:Nat->Prop)(L:List E):Prop:=
 ∃p cap m b g,Mem h a p cap m b g/\iR b g/\rE (at_ b) b.length/\b.Perm L/\jH L/\Good L/\∀c,S c↔AT a p m c
theorem Al.lt(A:Al h a S L){c:Nat}(d:S c):c<h.size:=by
 obtain⟨p,cap,m,b,g,M,_,_,_,_,_,H⟩:=A;exact M.lt ((H c).1 d)
theorem Al.frame{Q:Nat->Prop}{d:ai}(A:Al h a S L)(i:Fr Q h d)(j: ∀c,S c->¬Q c):Al d a S L:=by
 obtain⟨p,cap,m,b,g,M,P,H,k,s,G,e⟩:=A;exact⟨p,cap,m,b,g,M.frame i λc f=>j c ((e c).2 f),P,H,k,s,G,e⟩
theorem Al.sorted(A:Al h a S L):jH L:=by
 obtain⟨p,cap,m,b,g,M,P,H,d,s,G,c⟩:=A;exact s
theorem Al.nodup(A:Al h a S L):(keys L).Nodup:=by
 obtain⟨p,cap,m,b,g,M,P,H,c,s,G,d⟩:=A;exact(keys_perm c).nodup_iff.1 P.1
theorem gp(M:Mem h a p cap m b g)(H:R (.B true) h):Cl 127 #[.P a 0] h R:=
 xf.walk ⟨some m,M.mp,H⟩
theorem jj(k: ∀a S H,Al H a S []->(∀c,S c->h.size<=c)->Fr No h H->R (.P a 0) H):Cl 30 #[] h R:=by
 refine L8.walk ?_;rintro B n rfl rfl l o rfl rfl;have f:Fr No (h.push (.map #[] 0)) ((h.push (.map #[] 0)).push (.C #[.Z,.map (some h.size)] 131)):=Fr.push _ _;refine k _ (AT (h.push (.map #[] 0)).size none h.size) _ ⟨none,0,h.size, [],λ_=>none,⟨bZ,.nil rfl rfl rfl rfl,(nU.push h).frame f id,?_⟩,⟨.nil,?_,λ_ _=>rfl⟩,?_,.refl _,.nil,?_,λ_=>ff⟩ ?_ (Fr.tt (Fr.push _ _) f)
 .rintro⟨_,e,_⟩;cases e
 .intro j d;simp at d
 .intro j _ d;simp at d
 .intro e i;cases i
 .rintro c (rfl|rfl|⟨_,e,_⟩)
  .simp
  .exact bp _
  .cases e
theorem SH(A:Al h a S L)(c:R (.I (L.length:Int)) h):Cl 126 #[.P a 0] h R:=by
 obtain⟨p,cap,m,b,g,M,P,H,d,s,G,e⟩:=A;refine yE.walk ⟨_,_,_,M.hd,?_⟩;rw[d.length_eq];exact c
def hd(L:List E):E:=L.headD (0,0)
theorem vR(A:Al h a S L)(d:R (.T #[.I (hd L).1,.U (hd L).2,.B (!L.isEmpty)]) h):Cl 80 #[.P a 0] h R:=by
 refine xi.walk (SH A ⟨_,rfl,?_⟩);obtain⟨p,cap,m,b,g,M,P,H,f,s,G,o⟩:=A;cases L with
 |nil=>exact d
 |cons e r=>
  have j:=f.length_eq;simp only[bn]at j;have k:(((e::r).length:Int)==0)=false:=by simp only[bn,dz];omega
  simp only[k,ar,aQ];obtain⟨n,rfl⟩:=M.some ag;obtain⟨q,l⟩:=NM f s H ag;have i:at_ b 0=e:=(List.cons.inj l).1.symm;have c:=M.c0 (i:=0) ag;have C:=M.c1 (i:=0) ag;rw[i]at c C;refine⟨_,_,_,M.hd,ag,ax.2 ⟨_,c,_,_,_,M.hd,ag,ax.2 ⟨_,C,d⟩⟩⟩
theorem SI{t:TypeId}{z Z x X:Value}{K:Nat->ai->Prop}(k: ∀B H,H[B]? =some (.C #[x,X] t (0,0))->h.size<=B->Fr No h H->K B H):
  bf h (.C #[z,Z] t) λB e=>aJ e (AA B 0) x λf=>aJ f (AA B 1) X λd=>K B d:=by
 rintro B e rfl rfl;refine bk bZ bU λf C s l=>bk C bU λd i o n=>k _ d i (bp _) ⟨?_,λc j _=> ?_⟩
 .rw[o,s];simp
 .rw[n c ag,l c ag];exact(Fr.push (S:=λ_=>False) h _).2 c j id
theorem pY(k':Al h a S L)(hn:L.length<1000000)(k:Int)(U:k∈keys L->∀f,Al f a S (fY L k)->Fr S h f->R (.I 0) f)(k2:k∉keys L->R (.I 4) h):Cl 81 #[.P a 0,.I k] h R:=by
 obtain⟨p,cap,m,b,g,M,P,H,y,so,gd,hS⟩:=k';have x':=y.length_eq;refine xh.walk (gp M ⟨true,rfl,?_⟩);simp only[cX,ar,aQ];have w:=DO tm M.map k;by_cases v:k∈keys b
 .have U:=U ((keys_perm y).mem_iff.1 v);clear k2;obtain⟨j,Q,rfl⟩:=mem_keys v;obtain⟨n,l⟩: ∃n,b.length=n+1:=⟨b.length - 1,ag⟩;rw[P.2.1 j Q]at w;refine⟨some m,M.mp,(j:Int),true,w,?_⟩;simp only[cX,ar,aQ];obtain⟨B,o,rfl⟩:=M.own.some (by rw[kV];omega);refine⟨_,_,_,M.hd,_,_,_,M.hd,?_⟩;rw[show IntKind.wrap .i64 ((b.length:Int) - 1)=(n:Int) by rw[bJ ag ag];omega];simp only[aH];refine⟨ag,ax.2 ⟨_,M.c0 (i:=n) ag,_,M.c1 (i:=n) ag,SI λD h4 hb sb f4=> ?_⟩⟩;have r:=M.calm f4;have w':=M.own.le;have g':cQ (some ((AA B o):Addr)) cap 0 2=some (AA B o):=by
   unfold cQ;split
   .rfl
   .simp[gZ]
  refine⟨_,_,_,r.hd,ag,bk r.di bU λJ c5 s5 k5=> ?_⟩;have F:Fr (λc=>c=a) h4 J:=Fr.of_eq s5 k5;have tl:(b.take n).length=n:=by rw[bA];omega
  have s:Mem J a (Sa B o) cap m (b.take n) g:=by
   refine⟨?_,?_,r.map.frame F (λe=>M.am e.symm),M.ne⟩
   .rw[c5,g',tl];rfl
   .have i':=(r.own.frame F (λc d e=>M.ne (e▸d))).sub (l:=0) (u:=n) ag ag;rw[g',GY,Nat.zero_mul,gx]at i';rw[tl];exact i'
  refine⟨some m,s.mp,xY tm s.map λu m6 s6 k6=>⟨rfl,?_⟩⟩;have t:Fr (λc=>c=m) J u:=Fr.of_eq s6 k6;have A:Mem u a (Sa B o) cap m (b.take n) (λj'=>if j'=(at_ b j).1 then none else g j'):=
   ⟨t.get s.di M.am,s.own.frame t (λc d e=>M.pm (e▸d)),m6,M.ne⟩
  have c':Fr (AT a (Sa B o) m) h u:=Fr.no f4 (F.trans t (λ_ _ e=> .inl e) (λ_ _ e=> .inr (.inl e)));have O: ∀c,AT a (Sa B o) m c->D≠c:=λc d e=>by have:=M.lt d;omega
  have K:=t.get (F.get hb (O a (.inl rfl))) (O m (.inr (.inl rfl)));refine aG.of λl' hJ=> ?_
  have done: ∀f E G,Mem f a (Sa B o) cap m E G->iR E G->rE (at_ E) E.length->E.Perm (cut b n j)->Fr (AT a (Sa B o) m) h f->l' f:=by
   intro f E G M' P' z t' f';subst hJ;exact U f ⟨_,_,_,E,G,M',P',z,t'.trans (NN l Q P.1 y),so.drop _,λe he=>gd e (bj.1 he).1,hS⟩ (f'.mono λc _ d=>(hS c).2 d)
  have x:=Li P l Q;have cl:=DV (j:=j) l;by_cases i:j<n
  .have T:(j:Int)<(n:Int):=ag
   simp only[i,bm]at x;simp only[T,bF,bm];have I:(b.take n).set j ((at_ b n).1,(at_ b n).2)=cut b n j:=by unfold cut;rw[af i]
   refine⟨_,au K,_,au K,xm A ag λh8 M8 f8=>⟨rfl,?_⟩⟩;rw[I]at M8;have ex:=NO l i H;refine AU M8 x ag ag (by rw[cl];exact ex) λh9 p' g9 q C P9 v' l9 q9 n' a' _ f9=>⟨rfl,some m,C.mp,?_⟩
   have V: ¬inner (Sa B o) m D:=λd=>O D (.inr d) rfl
   have e':=f9.get (f8.get K V) V;have h':=CI tm C.map (at_ b n).1;have e9:at_ p' q=at_ b n:=by rw[n',pV l i,af rfl]
   have d':=P9.2.1 q ag;rw[e9]at d';rw[d']at h';refine⟨_,au e',(q:Int),h',?_⟩;rw[<-l9]at a';refine vQ C P9 ag ag a' λr' o' q' Z m' u' s' X b'=>⟨rfl,au (b'.get e' V),Z.mp,?_⟩
   rw[<-s']at X;exact done r' o' q' Z m' X (u'.trans v') (c'.trans (Fr.tt f8 (Fr.tt f9 b')) bX (λ_ _ d=> .inr d))
  .have T: ¬(j:Int)<(n:Int):=ag
   simp only[i,aQ]at x;simp only[T,bu,ar,aQ];have I:b.take n=cut b n j:=by unfold cut;rw[ae i]
   rw[I]at A;have z:=NP l i H;exact done u _ _ A x (by rw[cl];exact z) (.refl _) c'
 .rw[P.2.2 k v]at w;exact⟨some m,M.mp,0,false,w,k2 λhx=>v ((keys_perm y).mem_iff.2 hx)⟩
def may(k t:Int):Bool:=decide (1<=k) && decide (k<=1099511627776) && decide (t<=1099511627776)
theorem mS{k t:Int}:may k t=true↔1<=k/\k<=1099511627776/\t<=1099511627776:=by simp[may,and_assoc]
def AW(L:List E)(k t:Int):List E:=vw (fY L k) (k,t)
theorem pj(L:List E)(k:Int):(fY L k).length<=L.length:=cM _ _
theorem I5(A:Al h a S L)(hn:L.length<999999)(k t:Int)(ht:0<=t)(K:may k t=true->∀u B,Al u a B (AW L k t)->(∀c,B c->S c\/h.size<=c)->Fr S h u->R (.I 0) u)(Z:may k t=false->R (.I 1) h):Cl 172 #[.P a 0,.I k,.U t] h R:=by
 have x:=A;obtain⟨p,cap,m,b,g,M, -, -, -, -, -, -⟩:=A;refine yG.walk (gp M ⟨true,rfl,?_⟩);clear M;simp only[cX,ar,aQ];refine aG.of λi' V=> ?_
 have n:may k t=false->i' true h:=λl=>by subst V;exact Z l
 by_cases H:k<1
 .simp only[H,bF,bm];exact n (by simp[may,show¬1<=k by omega])
 simp only[H,bu,ar,aQ];by_cases J:k>1099511627776
 .simp only[J,bF,bm];exact n (by simp[may,show¬k<=1099511627776 by omega])
 simp only[J,bu,ar,aQ];by_cases O:t>1099511627776
 .simp only[O,bF];exact n (by simp[may,show¬t<=1099511627776 by omega])
 simp only[O,bu];clear n Z;have K:=K (mS.2 ⟨ag,ag,ag⟩);subst V;simp only[ar,aQ];have rest: ∀H e,Al H a S (fY L k)->Fr S h H->(∃(t':Int),Value.I e=.I t'/\
    ∃(d':ct)(c' b':Nat),aU H (AA a 0)=some (.L d' c' b')/\
    bf H (.C #[.I 0,.U 0] 220) λC l'=>
    aT Tryz.prog (Builtin.append_ #[129,129] 129 #[.L d' c' b',.L (Sa C 0) 1 1]) l' λw' m'=>
    ∃(g':ct)(f' e':Nat),w'=.L g' f' e'/\
    aJ m' (AA a 0) (.L g' f' e') λX=>
    ∃(v':ct)(T u':Nat),aU X (AA a 0)=some (.L v' T u')/\
    Cl 128 #[.P a 0,.I (IntKind.wrap .i64 ((T:Int) - 1)),.agg #[.I k,.U t]] X λx' n'=>
    x'=.T #[]/\
    Cl 129 #[.P a 0,.I (IntKind.wrap .i64 ((T:Int) - 1))] n' λy' o'=>
    y'=.T #[]/\
    R (.I 0) o'):=by
  intro H e o F;refine⟨e,rfl,?_⟩;have kn:=Ip L k;have dl:=pj L k;obtain⟨p,cap,m,b,g,M,P,h',w,so,gd,d⟩:=o;have z':=w.length_eq;refine⟨_,_,_,M.hd,?_⟩;rintro C h4 rfl rfl;have s:Fr No H (H.push (.C #[.I 0,.U 0] 220)):=Fr.push _ _;have s':Row (H.push (.C #[.I 0,.U 0] 220)) (Sa H.size 0) (enc [(0,0)]):=.inr ⟨_,rfl,gH bZ λA' E' hj=>by rw[bK];simpa[enc]using hj⟩;have D':H.size<=(H.push (.C #[.I 0,.U 0] 220)).size:=s.1;have i:=M.calm s;refine dR tE (eT:=220) dA i.own s' rfl (Kq _) ag ag λf D Q o5 _ q G=>⟨_,_,_,rfl,?_⟩
  rw[<-I4]at o5;have b5:=q.get i.di M.ne;have a': ¬aP f a:=λhc=>by
   rcases G a hc with hx|hx
   .exact M.ne hx
   .have:=aA i.di;omega
  have B': ¬aP f m:=λhc=>by
   rcases G m hc with hx|hx
   .exact M.pm hx
   .have:=i.map.lt;omega
  refine bk b5 bU λv c6 s6 k6=> ?_
  have r:Fr (λc=>c=a) Q v:=Fr.of_eq s6 k6;have y:Mem v a f D m (b++ [(0,0)]) g:=by
   refine⟨?_,?_,(i.map.frame q M.pm).frame r (λe=>M.am e.symm),a'⟩
   .rw[c6,aB];rfl
   .rw[aB];exact o5.frame r (λc hc e=>a' (e▸hc))
  refine⟨_,_,_,y.hd,?_⟩;have ew:IntKind.wrap .i64 ((((b++ [((0,0):E)]).length:Nat):Int) - 1)=(b.length:Int):=by
   rw[aB,dL,bJ ag ag];omega
  rw[ew];refine xm y (by rw[aB,dL];omega) λh7 z f7=>⟨rfl,?_⟩
  have j':(b++ [((0,0):E)]).set b.length (k,t)=b++ [(k,t)]:=by
   rw[List.set_append_right _ _ (bp _)];simp
  rw[j']at z;have q':k∉keys b:=λhx=>kn ((keys_perm w).mem_iff.1 hx)
  have P7:=Lj (x:=(k,t)) P q';obtain⟨I,kd⟩:=NQ (x:=(k,t)) h';have l7:(b++ [(k,t)]).length=b.length+1:=bU
  rw[<-l7]at I kd;refine AU z P7 ag ag I λU k' g8 C' M8 P8 r' l8 _ _ _ j f8=>⟨rfl,?_⟩
  have j:=j kd;rw[<-l8]at j;have gf: ∀c,AT a f m c->S c\/h.size<=c:=by
   rintro c (rfl|rfl|hc)
   .exact .inl ((d _).2 (.inl rfl))
   .exact .inl ((d _).2 (.inr (.inl rfl)))
   .rcases G c hc with hx|hx
    .exact .inl ((d _).2 (.inr (.inr hx)))
    .have:=F.1;exact .inr ag
  refine K U (AT a f m) ⟨f,D,m,k',g8,M8,P8,j,?_,so.insert _ kn,?_,λ_=>ff⟩ gf ?_
  .exact r'.trans ((eH _ _).trans ((w.cons _).trans (mR _ _).symm))
  .intro e he;rcases bg.1 ((mR _ _).mem_iff.1 he)with rfl|hx
   .exact⟨by simp only;omega,by simp only;omega,ht,by simp only;omega⟩
   .exact gd e hx
  .have p': ∀c,c<H.size->AT a f m c->S c:=λc hc hx=>by
    rcases hx with rfl|rfl|hx
    .exact(d _).2 (.inl rfl)
    .exact(d _).2 (.inr (.inl rfl))
    .rcases G c hx with hy|hy
     .exact(d _).2 (.inr (.inr hy))
     .omega
   have g1:Fr S H Q:=Fr.no s (q.mono λc _ hc=>(d c).2 (.inr (.inr hc)));have g2:Fr S H v:=g1.trans r bX (λc _ e=>(d c).2 (.inl e));have g3:Fr S H U:=g2.trans (Fr.tt f7 f8) bX (λc hc hx=>p' c hc (.inr hx));exact Fr.tt F g3
 refine pY x ag k (λl H o F=>rest H 0 o F) (λl=> ?_);refine rest h 4 ?_ (Fr.refl _ _);rw[ku l];exact x
def jL(n:Int)(e:E):Bool:=decide (e.2<=n)
def due(L:List E)(n:Int):List E:=L.takeWhile (jL n)
def rest(L:List E)(n:Int):List E:=L.dropWhile (jL n)
def kc(L:List E):List Value:=(keys L).map (.int .i64 ·)
theorem Ma{D T:List E}{n:Int}(hd: ∀e∈D,jL n e=true)(f: ∀e r,T=e::r->jL n e=false):due (D++T) n=D/\rest (D++T) n=T:=by
 unfold due rest;induction D with
 |nil=>
  cases T with
  |nil=>exact⟨rfl,rfl⟩
  |cons e r=>simp[f e r rfl]
 |cons d D j=>
  have H:=hd d dp;obtain⟨i,I⟩:=j λe c=>hd e (cv _ c)
  simp only[dk,List.takeWhile_cons,List.dropWhile_cons,H,bm];exact⟨by rw[i],I⟩
def T1(H:ai)(a:Nat)(S:Nat->Prop)(L:List E)(n:Int)(o:ct)(l c:Nat)(k t:Int)(i:Bool)(h:ai):Prop:=
 ∃D T,L=D++T/\(∀e∈D,jL n e=true)/\Al h a S T/\k=(hd T).1/\t=(hd T).2/\i= !T.isEmpty/\l=D.length/\Own h o l c 1 (kc D)/\(∀x,aP o x->H.size<=x)/\Fr S H h
theorem EC(A:Al h a S L)(hn:L.length<999999)(n:Int)(hk: ∀i P C,Al i a S (rest L n)->Own i P (due L n).length C 1 (kc (due L n))->(∀c,aP P c->h.size<=c)->Fr S h i->R (.slice P (due L n).length C) i):
  Cl 59 #[.P a 0,.U n] h R:=by
 refine xj.walk (vR A ⟨_,_,_,rfl,?_⟩);refine⟨T1 h a S L n,λ_ l _ _ _ _ _=>L.length - l,⟨[],L,rfl,(λ_ X=>by cases X),A,rfl,rfl,rfl,rfl,.nil rfl rfl rfl rfl,(λc ⟨_,e,_⟩=>by cases e),Fr.refl _ _⟩,?_⟩;rintro b' l c i' j' is H ⟨D,U,q,y,s,rfl,rfl,rfl,rfl,O,o,F⟩;refine aG.of λJ z=> ?_
 have stop:(∀e r,U=e::r->jL n e=false)->J false H:=λht=>by
  subst z;simp only[ar,aQ];obtain⟨E,u⟩:=Ma y ht;rw[<-q]at E u;rw[<-E];rw[<-E]at O;exact hk H b' c (by rw[u];exact s) O o F
 cases U with
 |nil=>exact stop (λe r x=>by cases x)
 |cons e U=>
  simp only[List.isEmpty_cons,dZ,bm];by_cases j:e.2<=n
  .rw[show decide ((hd (e::U)).2<=n)=true from av j];subst z;simp only[bm];rintro f' h4 rfl rfl;have g':L.length=D.length+(U.length+1):=by rw[q];simp
   have f:Fr No H (H.push (.C #[.I (hd (e::U)).1] 3)):=Fr.push _ _;have c':Row (H.push (.C #[.I (hd (e::U)).1] 3)) (Sa H.size 0) (kc [e]):=.inr ⟨_,rfl,gH bZ λh' d' Z=>by rw[bK];simpa[kc,keys,hd]using Z⟩;have sz:H.size<=(H.push (.C #[.I (hd (e::U)).1] 3)).size:=f.1;refine dR tI (eT:=3) dA (O.frame f λ_ _=>id) c' rfl (λd' G=>by simp[kc,keys]at G;subst G;rfl) ag ag λP C V I _ v T=>⟨_,_,_,rfl,?_⟩
   have M:kc D++kc [e]=kc (D++ [e]):=by simp[kc,keys]
   rw[M]at I;have B: ∀{c},S c->c<h.size:=λd=>A.lt d
   have t:=(s.frame f λ_ _=>id).frame v (λc d hx=>iJ (o c hx) (B d));have K: ∀c,aP P c->h.size<=c:=λc d=>by
    rcases T c d with hx|hx
    .exact o c hx
    .have:=F.1;omega
   have Q:Fr S h V:=F.trans (Fr.no f v) bX (λc d hx=>bW (o c hx));refine pY t (by simp;omega) _ (λ_ h6 k w=>⟨_,rfl,?_⟩) (λa'=>absurd (by exact dp) a');rw[show fY (e::U) (hd (e::U)).1=U from Ir t.nodup]at k;refine vR k ⟨_,_,_,rfl,⟨D++ [e],U,by rw[q];simp,?_,k,rfl,rfl,rfl,bU,?_,K,Fr.tt Q w⟩,?_⟩
   .intro x hx;rcases bH.1 hx with hx|hx
    .exact y x hx
    .simp at hx;subst hx;exact av j
   .exact I.frame w λc d hx=>by have:=K c d;have:=B hx;omega
   .show L.length - (D.length+1)<L.length - D.length;omega
  .rw[show decide ((hd (e::U)).2<=n)=false from aC j];exact stop λe' r x=>by cases x;exact aC j

end cg
end
section
variable {h:ai} {R:fO}
variable {b c a S s:Nat} {x X e num o:Int} {d f:ct}
theorem I6.walk(i:Cl 30 #[] h λv H=>Vp v λt=>bf H (.C #[.Z,.I 1,.I 0,.I 0,.I 0,.pointer t] 101) λb g=>R (.P b 0) g):Cl 16 #[] h R:=aS [] Tryz.func16 i
theorem yH.walk(H: ∃t,Cc h b 5 (.pointer t)/\R (.B (!t.isNone)) h):Cl 62 #[.P b 0] h R:=aS [] Tryz.func62 H
theorem Cg.walk(m:bf h (.C #[.I x,.I X,.L d c a,.U e] 117) λb k=>bf k (.C #[.I 0,.I 0,.Z,.U 0] 117) λB H=>Hl H b 2 λA z y=>Cl 54 #[.L A z y] H λv l=> ∃j T t,v=.L j T t/\aJ l (AA b 2) (.L j T t) λg=>aI.LD g (AA b 0) λC D G F E I=>aI.ST g (AA B 0) C D G F E I λi=>aI.LD i (AA B 0) λr n u q p w=>R (.agg #[.I r,.I n,.L u q p,.U w]) i):Cl 186 #[.agg #[.I x,.I X,.L d c a,.U e]] h R:=aS [] Tryz.func186 m
theorem ED.walk(k:bf h (.C #[.I x,.I X,.L d c a,.U e] 117) λb H=> ∃i,Cc H b 1 (.I i)/\if(decide (i≥1))then∃j,Cc H b 1 (.I j)/\if(decide (j<=1099511627776))then∃m t l,Cc H b 2 (.L m t l)/\if(decide (((t:Nat):Int)≥1))then∃p T n,Cc H b 2 (.L p T n)/\if(decide (((T:Nat):Int)<=600))then∃g,Cc H b 3 (.U g)/\R (.B (decide (g<=1099511627776))) H else R (.B false) H else R (.B false) H else R (.B false) H else R (.B false) H):Cl 250 #[.agg #[.I x,.I X,.L d c a,.U e]] h R:=aS [] Tryz.func250 k
theorem yI.walk(i:bf h (.C #[.I num] 3) λB H=>Hl H b 0 λk j T=>Cl 83 #[.L k j T,.func (.func 84) #[] #[.P B 0]] H λv g=> ∃t,v=.I t/\R (.I t) g):Cl 64 #[.P b 0,.I num] h R:=aS [] Tryz.func64 i
theorem vS.walk{C:Nat}(g:bf h (.C #[.I x,.I X,.L d c a,.U e] 117) λb H=>Hi H b 0 λT=> ∃t,Cc H C 0 (.I t)/\R (.B (T==t)) H):Cl 84 #[.agg #[.I x,.I X,.L d c a,.U e],.P C 0] h R:=aS [] Tryz.func84 g
theorem AX.walk{i:Int} (z:bf h (.C #[.I 0,.I 0,.Z,.U 0] 117) λq H=>Hl H b 0 λi' h' _=>Bd i h'/\aN i' λA=>aI.LD H (A.add (toNat i*4)) λJ K O M L P=>bf H (.C #[.I 0,.I 0,.Z,.U 0] 117) λB y=>aI.ST y (AA B 0) J K O M L P λj=>Hp j b 5 λQ=>Hi j B 0 λU=>Cl 81 #[.pointer Q,.I U] j λj' k=>Vi j' λ_=>Hl k b 0 λn v t=>((0:Int)<=i/\i<=(t:Int))/\Hl k b 0 λp g T=>((0:Int)<=wrap .i64 (i+1)/\wrap .i64 (i+1)<=(g:Int))/\bf k (.C #[.L (cQ n t 0 4) ((toNat i) - 0) (t - 0),.slice (cQ p T (toNat (wrap .i64 (i+1))) 4) (g - (toNat (wrap .i64 (i+1)))) (T - (toNat (wrap .i64 (i+1))))] 99) λw l=>Cc l b 0 (.L p g T)/\Cc l b 0 (.L n v t)/\Cl 82 #[.L (Sa w 0) 2 2] l λk' m=>Vl k' λa' Z V=>Cc m b 0 (.L p g T)/\Cc m b 0 (.L n v t)/\aJ m (AA b 0) (.L a' Z V) λr=>aI.LD r (AA B 0) λb' c' f' e' d' g'=>aI.ST r (AA q 0) b' c' f' e' d' g' λu=>aI.LD u (AA q 0) λC D G F E I=>R (.agg #[.I C,.I D,.L G F E,.U I]) u):Cl 63 #[.P b 0,.I i] h R:=aS [(5,λ_=>pN 7),(7,λ_=>pN 19)] Tryz.func63 z
theorem AY.walk(G:Cl 62 #[.P b 0] h λj' j=>Vb j' λt7=>aG (λ(P:ct) (L K:Nat) (C:ai)=>R (.L P L K) C) (λJ=>if t7 then Hl j b 0 λQ p _=> ∃(I:ct->Nat->Nat->Int->ai->Prop)(M:ct->Nat->Nat->Int->ai->Nat),I none 0 0 0 j/\∀(i:ct)(g O:Nat)(t:Int)(H:ai),I i g O t H->if(decide (t<(p:Int)))then Bd t p/\aN Q λA=>aI.LD H (A.add (toNat t*4)) λU V b' a' Z c'=>bf H (.C #[.I 0,.I 0,.Z,.U 0] 117) λB D=>aI.ST D (AA B 0) U V b' a' Z c' λm=>aI.LD m (AA B 0) λd' e' h' g' f' i'=>Cl 186 #[.agg #[.I d',.I e',.L h' g' f',.U i']] m λk' E=> ∃q r w v u y,k'=.agg #[.I q,.I r,.L w v u,.U y]/\bf E (.C #[.I q,.I r,.L w v u,.U y] 117) λz F=>aT Tryz.prog (Builtin.append_ #[99,99] 99 #[.L i g O,.L (Sa z 0) 1 1]) F λl' n=> ∃l k T,l'=.L l k T/\(I l k T (wrap .i64 (t+1)) n/\M l k T (wrap .i64 (t+1)) n<M i g O t H)else J i g O H else J none 0 0 j)):Cl 143 #[.P b 0] h R:=aS [(7,.join [(3,.one (.slice))]),(11,.loop [(3,.one (.slice)),(13,.one (.int .i64))])] Tryz.func143 G
theorem AZ.walk{k:ct}{j D:Nat}{v:Int}(U:Cl 62 #[.P b 0] h λp' g=> ∃t,p'=.B t/\if(!t)then R (.T #[.I 0,.I 6]) g else Hi g b 1 λV=>Cl 186 #[.agg #[.I V,.I o,.L k j D,.U v]] g λq' O=> ∃T q w u r y,q'=.agg #[.I T,.I q,.L w u r,.U y]/\bf O (.C #[.I 0,.I 0,.Z,.U 0] 117) λB P=>aI.ST P (AA B 0) T q w u r y λm=>aI.LD m (AA B 0) λZ a' d' c' b' e'=>Cl 250 #[.agg #[.I Z,.I a',.L d' c' b',.U e']] m λr' H=> ∃z,r'=.B z/\if(!z)then R (.T #[.I 0,.I 1]) H else∃g' A f',Cc H b 0 (.L g' A f')/\if(decide (((A:Nat):Int)≥16))then R (.T #[.I 0,.I 15]) H else Hl H b 0 λF E C=>aI.LD H (AA B 0) λh' i' l' k' j' m'=>bf H (.C #[.I h',.I i',.L l' k' j',.U m'] 117) λM n=>Cc n b 0 (.L F E C)/\aT Tryz.prog (Builtin.append_ #[99,99] 99 #[.L F E C,.L (Sa M 0) 1 1]) n λs' Q=> ∃J I G,s'=.L J I G/\aJ Q (AA b 0) (.L J I G) λp=> ∃K,Cc p b 1 (.I K)/\aJ p (AA b 1) (.I (wrap .i64 (K+1))) λi=>Hp i b 5 λn'=>Hi i B 0 λo'=>Cl 172 #[.pointer n',.I o',.U v] i λt' l=>Vi t' λ_=> ∃L,Cc l B 0 (.I L)/\R (.T #[.I L,.I 0]) l):Cl 221 #[.P b 0,.I o,.L k j D,.U v] h R:=aS [(28,λ_=>pN 11),(32,λ_=>pN 8)] Tryz.func221 U
theorem vT.walk(m:Cl 62 #[.P b 0] h λv g=> ∃k,v=.B k/\if(!k)then R (.I 6) g else Cl 64 #[.P b 0,.I num] g λV H=> ∃t,V=.I t/\if(decide (t<0))then R (.I 4) H else Hl H b 0 λp n _=>Bd t n/\aN p λA=> ∃T,aU H ((A.add (toNat t*4)).add 1)=some (.I T)/\if(T !=o)then R (.I 13) H else Cl 63 #[.P b 0,.I t] H λB i=> ∃q r y w u z,B=.agg #[.I q,.I r,.L y w u,.U z]/\∃j,Cc i b 3 (.I j)/\aJ i (AA b 3) (.I (wrap .i64 (j+1))) λl=>R (.I 0) l):Cl 144 #[.P b 0,.I num,.I o] h R:=aS [] Tryz.func144 m
theorem yJ.walk(y:bf h (.C #[.I 0,.I 0,.Z,.U 0] 117) λB u=>Cl 62 #[.P b 0] u λc' H=> ∃r,c'=.B r/\if(!r)then aI.ST H (AA B 0) 0 0 none 0 0 0 λg=>aI.LD g (AA B 0) λz D O K G U=>R (.T #[.agg #[.I z,.I D,.L O K G,.U U],.I 6]) g else∃b' t a',Cc H b 0 (.L b' t a')/\if(((t:Nat):Int)==0)then aI.ST H (AA B 0) 0 0 none 0 0 0 λi=>aI.LD i (AA B 0) λA E P L I V=>R (.T #[.agg #[.I A,.I E,.L P L I,.U V],.I 4]) i else∃T,Cc H b 2 (.I T)/\aJ H (AA b 2) (.I (wrap .i64 (T+1))) λv=>Cl 63 #[.P b 0,.I 0] v λd' w=> ∃k l p n m q,d'=.agg #[.I k,.I l,.L p n m,.U q]/\aI.ST w (AA B 0) k l p n m q λj=>aI.LD j (AA B 0) λC F Q M J Z=>R (.T #[.agg #[.I C,.I F,.L Q M J,.U Z],.I 0]) j):Cl 76 #[.P b 0] h R:=aS [] Tryz.func76 y
theorem yK.walk{n:Int}(M:Cl 62 #[.P b 0] h λc' j=>Vb c' λt9=>aG (λ(U:ct) (Q P:Nat) (E:ai)=>R (.L U Q P) E) (λJ=>if t9 then Hp j b 5 λV=>Cl 59 #[.pointer V,.U n] j λd' F=>Vl d' λZ T _=> ∃(I:ct->Nat->Nat->Int->ai->Prop)(m:ct->Nat->Nat->Int->ai->Nat),I none 0 0 0 F/\∀(i:ct)(g O:Nat)(t:Int)(H:ai),I i g O t H->if(decide (t<(T:Int)))then Bd t T/\aN Z λC=>kK H (C.add (toNat t*1)) λa'=>Cl 64 #[.P b 0,.I a'] H λe' G=>Vi e' λb'=>Cl 63 #[.P b 0,.I b'] G λf' K=> ∃p q v u r w,f'=.agg #[.I p,.I q,.L v u r,.U w]/\bf K (.C #[.I p,.I q,.L v u r,.U w] 117) λD L=>aT Tryz.prog (Builtin.append_ #[99,99] 99 #[.L i g O,.L (Sa D 0) 1 1]) L λg' k=>Vl g' λA z y=> ∃B,Cc k b 4 (.I B)/\aJ k (AA b 4) (.I (wrap .i64 (B+1))) λl=>(I A z y (wrap .i64 (t+1)) l/\m A z y (wrap .i64 (t+1)) l<m i g O t H)else J i g O H else J none 0 0 j)):Cl 40 #[.P b 0,.U n] h R:=aS [(7,.join [(5,.one (.slice))]),(11,.loop [(5,.one (.slice)),(17,.one (.int .i64))])] Tryz.func40 M
theorem fR.find.walk{F:Nat}(i: ∃(I:Int->ai->Prop)(m:Int->ai->Nat),I 0 h/\∀(t:Int)(H:ai),I t H->if(decide (t<(S:Int)))then Bd t S/\aN f λA=>aI.LD H (A.add (toNat t*4)) λj k p n l q=>Cl 84 #[.agg #[.I j,.I k,.L p n l,.U q],.P F 0] H λv g=> ∃T,v=.B T/\if T then R (.I t) g else(I (wrap .i64 (t+1)) g/\m (wrap .i64 (t+1)) g<m t H)else R (.I (-1)) H):Cl 83 #[.L f S s,.func (.func 84) #[] #[.P F 0]] h R:=aS [(6,.loop [(8,.one (.int .i64))])] Tryz.func83 i
theorem jO.walk{p:ct}{j L:Nat} (K: ∃(I:Int->Int->ai->Prop)(M:Int->Int->ai->Nat),I 0 0 h/\∀(i:Int)(t:Int)(H:ai),I i t H->if(decide (t<(j:Int)))then aG (λ(A:Int) (w:ai)=>(I A (wrap .i64 (t+1)) w/\M A (wrap .i64 (t+1)) w<M i t H)) (λJ=>Bd t j/\aN p λD=>oL H (D.add (toNat t*1)) λ_ B _=>aG (λ(F:ai)=>J (wrap .i64 (i+(B:Int))) F) (λC=>if(decide ((wrap .i64 (i+(B:Int)))<0))then False else C H))else Cl 131 #[.Z,.I i] H λv G=>Vl v λQ P O=> ∃(m:ct->Nat->Nat->Int->ai->Prop)(z:ct->Nat->Nat->Int->ai->Nat),m Q P O 0 G/\∀(l:ct)(k n:Nat)(T:Int)(g:ai),m l k n T g->if(decide (T<(j:Int)))then Bd T j/\aN p λE=>oL g (E.add (toNat T*1)) λZ V U=>aT Tryz.prog (Builtin.append_ #[99,99] 99 #[.L l k n,.L Z V U]) g λa' y=> ∃u r q,a'=.L u r q/\(m u r q (wrap .i64 (T+1)) y/\z u r q (wrap .i64 (T+1)) y<z l k n T g)else R (.L l k n) g):Cl 82 #[.L p j L] h R:=aS [(8,.loop [(3,.one (.int .i64)),(11,.one (.int .i64))]),(16,.join [(3,.one (.int .i64))]),(23,.join []),(33,.loop [(6,.one (.slice)),(27,.one (.int .i64))])] Tryz.func82 K
theorem jV.walk{n:Int} (k:aG (λ(H:ai)=>aG (λ(p:ct) (m l:Nat) (g:ai)=>R (.L p m l) g) (λj=>if(decide ((wrap .i64 (n - (wrap .i64 ((s:Int) - (S:Int)))))>0))then((0:Int)<=(s:Int)/\(s:Int)<=(s:Int))/\aT Tryz.prog (Builtin.append_ #[99,3] 99 #[.L (cQ f s 0 4) ((toNat (s:Int)) - 0) (s - 0),.I (wrap .i64 (n - (wrap .i64 ((s:Int) - (S:Int)))))]) H λv i=>Vl v λT _ t=>((0:Int)<=(S:Int)/\(S:Int)<=(t:Int))/\j (cQ T t 0 4) ((toNat (S:Int)) - 0) (t - 0) i else j f S s H)) (λJ=>if(decide (n<0))then False else J h)):Cl 131 #[.L f S s,.I n] h R:=aS [(5,.join []),(13,.join [(0,.one (.slice))])] Tryz.func131 k

end
end Go.Proofs.YtkdgpmeojgokdaaGreatDoor
