/-
  Dz is proved here: parts of wz proof, one behind wz other (texts of this work, merged by a program; FI wz theorem FJ not use is left out). No condition.
-/
import Derived.Handed
import Derived.Shelf.Vars
import Derived.Lib.LaidU8
import Derived.Lib.LaidTab
import Derived.Test.YtlenamcfacpheaaGreatDoorMAsnsf
set_option maxRecDepth 100000
set_option maxHeartbeats 4000000
namespace Go.Proofs.YtlenamcfacpheaaGreatDoor
open Go.Den
open IntKind (wrap)
open Int (toNat)
section
namespace Bn
open Cb
open iT (Ev cN kj)
variable {V:cH→Bool} {h h0 h':aj} {R:fj}
variable {t:Tr} {i:Nat} {j:List Tr} {b:rE}
theorem Hr(H:oZ V t i=.ok j):0<=typeAt j i:=by
 unfold oZ at H;split at H
 .rename_i c;have key: ∀k,i<k->typeAt (t.l.take k) i=typeAt t.l i:=λk hk=>by
   unfold typeAt at_;rw[aZ,aZ,cS,ag hk,bE];exact ite_congr (propext (by constructor<;>(rintro⟨a,b⟩;exact⟨af,b⟩))) (λ_=>rfl) (λ_=>rfl)
  split at H
  .cases H;exact c.2.2
  .split at H
   .rename_i d;split at H
    .cases H
    .split at H
     .cases H;rw[key _ d.1];exact c.2.2
     .cases H
   .cases H
 .cases H
theorem KI(a:oZ V t i=.ok j):(at_ j i).n<=2:=by
 have:=Hr a;unfold typeAt at this;split at this
 .rename_i H;exact H.2.1
 .omega
theorem wy(h:jM V b=true):0<=b.sum/\b.sum<=2/\b.data.length<=200/\1<=b.ty/\b.ty<=255/\1<=b.nr/\b.nr<=255:=by
 unfold jM at h;simp only[aR,aY]at h;obtain⟨⟨⟨⟨⟨a,A⟩,_⟩,b1⟩,c⟩,d⟩:=h;unfold lg at a A;unfold yO at d;simp only[aR,aY]at a A d;exact⟨b1,c,d.2,a.1,a.2,A.1,A.2⟩
theorem B0(h:jM V b=true):dw (JA b)<=300:=by
 obtain⟨_,_,d,_⟩:=wy h;simp only[JA,dw,room,bm];omega
theorem B1(h:rF V b=.ok t):room t<=400:=by
 unfold rF at h;split at h
 .rename_i H;have:=Ab h;have:=B0 H;omega
 .cases h
theorem Fm{e:Int}(h:rF V b=.error e):e≠0:=by
 unfold rF at h;split at h
 .exact BY h
 .cases h;decide
theorem I2 (b : rE) {p : Option Addr} {c : Nat} (U : mE V h0) (u : Fr No h0 h) (mx : mD.Mx h) (row : Row h p (bc b.data)) (cap : b.data.length ≤ c) (hlen : b.data.length ≤ 80000)
    (hk : ∀ h' z q, (∀ t, rF V b = .ok t → q = 0 ∧ rZ h' (λy => h.size ≤ y) t z) → (∀ e, rF V b = .error e → q = e) → Fr No h h' → R (.tuple #[z.s.agg, .int .i64 q]) h') : Cl 179 #[(b.s p c).agg] h R := by
  refine Fj.walk (aH.db λbb h1 eb hb f1 => aa.db λb1 h2 Su Kn f2 => aH.fR (f2.get hb id) (BZ b U (u.tt (f1.tt f2)) (mx.on (f1.tt f2)) (row.frame (f1.tt f2) (λ_ _ => id)) cap hlen λh3 f3 => ⟨_, rfl, ?_⟩))
  have O2 := (f2.tt f3).get hb id
  have O4 := f3.get Kn id
  have F3 := f1.tt (f2.tt f3)
  have z3 := F3.1
  have z1 := f1.1
  have z23 := f3.1
  have St := aC O4
  cases hr : jM V b with
  | false => exact C4 O4 λh4 f4 => hk h4 zv 3 (λt e => by unfold rF at e; rw [hr, if_neg (by decide)] at e; cases e) (λt e => by unfold rF at e; rw [hr, if_neg (by decide)] at e; cases e; rfl) (F3.fresh f4 (λy e => by omega))
  | true =>
  rw [if_neg (by decide)]
  obtain ⟨s0, s2, d2, _⟩ := wy hr
  have rm := B0 hr
  have eW : rF V b = mR V (JA b) 3 := by unfold rF; rw [hr, if_pos rfl]
  obtain ⟨sum, hs⟩ := Int.eq_ofNat_of_zero_le s0
  have es : b.sum.toNat = sum := by omega
  refine ⟨_, cE O2 rfl, _, cE O2 rfl, _, cE O2 rfl, _, cE O2 rfl, ?_⟩
  rw [show (b.s p c).f3 = ((sum : Nat) : Int) from hs, wrap_u64 (n := (sum : Int)) (by omega) (by omega)]
  refine Hq (l := [b.ty, b.nr, b.fl, sum]) (n := 4) rfl λb3 h5 r5 f5 => Fl r5 rfl (by show 4 ≤ _; omega) λh6 z tz f6 => aa.ex z.s ⟨rfl, _, _, _, cE ((f5.tt f6).get O2 id) rfl, jh (row.frame (F3.tt (f5.tt f6)) (λ_ _ => id)) rfl (by omega) λh7 v ev ov f7 => aa.ex (CV.s ⟨2, 0, v, none, 0, 0⟩) ⟨rfl, aa.db (x := CV.s ⟨2, 0, v, none, 0, 0⟩) λb4 h8 Vr Ii f8 => ?_⟩⟩
  have F8 := f5.tt (f6.tt (f7.tt f8))
  obtain ⟨_, zs, a5, a6, a7, a8⟩ := tz
  have zl : zs.length = 4 := by have := a8.len; exact this.symm
  have sl : z.s.pq = zs.length := a5
  rw [sl]
  have z6 := f6.1
  have z7 := f7.1
  have z8 := f8.1
  have qs : ∀ y, aL z.q y → y < h6.size := λy hy => a6.dV hy
  refine dY tI uI (a6.frame (f7.tt f8) (λ_ _ => id)) (ds := hT ⟨2, 0, v, none, 0, 0⟩) (.inr ⟨_, rfl, aa.zO (x := CV.s ⟨2, 0, v, none, 0, 0⟩) Ii⟩) rfl (oe _) (by omega) (by omega) λq' Tf h9 o9 _ f9 g9 => ⟨_, _, _, rfl, ?_⟩
  have ef : zs.flatMap hT ++ hT ⟨2, 0, v, none, 0, 0⟩ = (zs ++ [(⟨2, 0, v, none, 0, 0⟩ : CV)]).flatMap hT := by rw [List.flatMap_append, List.flatMap_singleton]
  rw [ef] at o9
  have F9 : Fr No h3 h9 := F8.fresh f9 (λy hy => by have := a7 y hy; have := f5.1; omega)
  have L9 : mz h9 (λ_ => True) q' (zs.length + 1) Tf (zs ++ [⟨2, 0, v, none, 0, 0⟩]) := ⟨by simp, o9.jb, λ_ _ _ => trivial, o9.le⟩
  have T9 : AS h9 (JA b) (zs ++ [⟨2, 0, v, none, 0, 0⟩]) := by
    have t1 := dc.frame f9 (λy hy TZ => hy.2 TZ) (dc.on (dc.on a8 f7) f8)
    have t2 : gE h7 (λy => h6.size ≤ y) (pn v.b) ⟨2, 0, v, none, 0, 0⟩ := BQ ov
    have t3 := (t2.on f8).frame f9 (λy hy TZ => by have := qs y TZ; omega)
    have := dc.snoc t1.u t3.u
    rw [ev] at this
    unfold JA
    rw [es]
    exact this
  refine I0 (i := 3) U (u.tt (F3.tt F9)) L9 T9 (by omega) (by omega) (λt ht Vv z tz f19 => aa.ex z.s ⟨_, rfl, ?_⟩) (λe he Vv f19 => aa.ex zv.s ⟨_, rfl, ?_⟩)
  · have z9 := F9.1
    exact fin ((F9.tt f19).get O4 id) tz (λy hy e => by omega) λT0 t20 f20 => hk T0 z 0 (λt' e => by rw [eW, ht] at e; cases e; exact ⟨rfl, t20.mono λy hy => by omega⟩) (λe' e => by rw [eW, ht] at e; cases e) ((F3.tt (F9.tt f19)).fresh f20 (λy e => by omega))
  · exact C4 ((F9.tt f19).get O4 id) λT0 f20 => hk T0 zv e (λt' e' => by rw [eW, he] at e'; cases e') (λe' e2 => by rw [eW, he] at e2; cases e2; rfl) ((F3.tt (F9.tt f19)).fresh f20 (λy e => by omega))
theorem PM{b:Nat}{y x:aH.S}{K:aH.S->aj->Prop}(H:aH.fV h b y)(hk: ∀h',Fr (λy=>y=b) h h'->K x h'):
  aH.dv h (AA b 0) x λg=>aH.cO g (AA b 0) λr=>K r g:=
 aH.hM (x:=x) H λg d1 f _=>aH.fR d1 (hk g f)
theorem O5{x:CV}(U:mE V h0)(u:Fr No h0 h)(mx:mD.Mx h)(tx:EY h t x)(hr:room t<=50000)(k1: ∀b,yP V t=.ok b->∀h' p c,BV.ok h' (λy=>h.size<=y) ⟨p,c,b.data⟩->Fr No h h'->R (.tuple #[(b.s p c).agg,.I 0]) h')(k2: ∀e,yP V t=.error e->e≠0->gU h R (.tuple #[aH.S.z.agg,.I e])):Cl 195 #[x.agg] h R:=by
 have rl:=nz (t:=t);refine Ho.walk (x:=x.s) (aa.db λb h1 eb D f1=>aH.db λb1 h2 v' I f2=>aa.fR (f2.get D id) ?_);have F:=f1.tt f2;have p':=f2.get D id;have zb:=aC D;have O':=aC I;have z1:=f1.1;have z2:=f2.1;have no: ∀g e,Fr No h2 g->yP V t=.error e->e≠0->aH.dv g (AA b1 0) .z λG=>aH.cO G (AA b1 0) λr=>R (.tuple #[r.agg,.I e]) G:=λg e m l s=>
  PM (m.get I id) λG f=>k2 e l s G ((F.tt m).fresh f (λy e=>af))
 have H:yP V t=yP V t:=rfl;conv at H=>rhs;unfold yP
 refine mU (i:=3) U (u.tt F) (tx.on F) af af (λj hu ru k p zs c L T f3=>⟨_,_,_,_,rfl,?_⟩) (λe l s k f3=>⟨_,_,_,_,rfl,?_⟩)
 case refine_2=>
  rw[ag (cy s)];exact no k e f3 (by rw[H,l]) s
 rw[dj];rw[hu]at H;dsimp only at H;have n2:=KI hu;have ln:=T.len;have l9:=gB j;refine aG.of λc' hJ=> ?_
 have bad: ¬(j.length=5/\(at_ j 4).k=2)->c' true k:=λs=>by
  subst hJ;dsimp only;rw[ag rfl];exact no k 3 f3 (by rw[H,ae s]) dH
 by_cases l5:j.length=5
 case neg=>rw[ag (by simp only[dX,ft];omega)];exact bad (λe=>l5 e.1)
 rw[ae (by simp only[dX,ft];omega)];have z3:=f3.1;have it: ∀i,i<5->∃(a:Addr)(y:CV),p=some a/\dI (a.add (i*4)) y.s.l 0 k/\EY k (at_ j i) y/\aX k ((a.add (i*4)).add 1)=some (.U ((at_ j i).n:Int)):=λi hi=>by
  obtain⟨a,y,ea,hh,ty,_⟩:=elem L T (i:=i) af;obtain⟨_,yn,_⟩:=gE.kn ty;exact⟨a,y,ea,hh,ty.u,by have:=hh.2.1;rw[<-yn];exact this⟩
 obtain⟨a0,y0,d',B',I',c0⟩:=it 0 af;obtain⟨a1,y1,e',C',J',c1⟩:=it 1 af;obtain⟨a2,y2,f',E',K',c2⟩:=it 2 af;obtain⟨a3,y3,g',F',L',c3⟩:=it 3 af;obtain⟨N,Y,W,b',u',c4⟩:=it 4 af;obtain⟨yk,yn,M,yl,yv,_⟩:=gE.kn u';have r4:=jK (ts:=j) (i:=4) af;have G':=nz (t:=at_ j 4);refine⟨af,cb.2 ⟨N,W,_,b'.1,?_⟩⟩;by_cases K:(at_ j 4).k=2
 case neg=>rw[show(Y.s.f0 !=2)=true by have:Y.s.f0=(at_ j 4).k:=yk;rw[this];simpa using K];exact bad (λe=>K e.2)
 rw[show(Y.s.f0 !=2)=false by have:Y.s.f0=(at_ j 4).k:=yk;rw[this];simpa using K];clear bad;rw[ag ⟨l5,K⟩]at H;subst hJ;try dsimp only
 rw[dj];have u3:=u.tt (F.tt f3);have m3:=mx.on (F.tt f3);have E:(qg j).data=Y.v.b:=M.symm;refine aG.of λJ1 o'=> ?_
 have rest: ∀g B q cl,aH.fV g B ((qg j).s q cl)->h2.size<=B->BV.ok g (λy=>k.size<=y/\y≠B) ⟨q,cl,(qg j).data⟩->Fr No k g->J1 (Sa B 0) g:=by
  intro g B q cl hs z4 J m;subst o';refine ay.2 (aH.fR hs (I2 (qg j) U (u3.tt m) (m3.on m) J.row J.cap (by rw[E,M];omega) λh8 w qw w0 w1 f8=>aa.ex w.s ⟨_,rfl,aa.gh (x:=w.s) λb5 Z w' q' f10=>aG.of λJ2 a'=> ?_⟩));have A:=f8.tt f10;have v:=f3.tt (m.tt A);have bad: ∀G,Fr No Z G->yP V t=.error 3->J2 true G:=λG j' l=>by
   subst a';try dsimp only
   rw[ag rfl];exact no G 3 (v.tt j') l dH
  cases o:rF V (qg j)with
  |error e=>
   rw[o]at H;rw[ag (by rw[w1 e o];simpa using Fm o)];exact bad Z (Fr.refl _ _) H
  |ok Q=>
   rw[o]at H;dsimp only at H;obtain⟨rfl,tw⟩:=w0 Q o;have H':=B1 o;rw[dj];refine aa.fR q' (aa.fR (x:=x.s) (v.get p' id) (iu (x:=w) (y:=x) (tw.u.on f10) (tx.on (F.tt v)) af λl' f14=>⟨_,rfl,?_⟩));cases l:nC Q t with
   |false=>exact bad l' f14 (by rw[H,ae (by rw[l];decide)])
   |true=>
    rw[l,ag rfl]at H;subst a';try dsimp only
    rw[dj];refine ay.2 (aH.fR ((A.tt f14).get hs id) (PM ((v.tt f14).get I id) λG f=>k1 _ H G q cl ?_ ((F.tt (v.tt f14)).fresh f (λy e=>af))));have:=(J.mono (D':=λy=>k.size<=y) λy d=>d.1).frame (A.tt f14) cu;exact(this.frame f (λy d e=>af)).mono λy d=>af
 refine⟨af,cb.2 ⟨a0,d',_,c0,af,cb.2 ⟨a1,e',_,c1,af,cb.2 ⟨a2,f',_,c2,af,cb.2 ⟨a3,g',_,c3,af,cb.2 ⟨N,W,_,_,_,b'.2.2.1,?_⟩⟩⟩⟩⟩⟩;rw[bA (n:=(((at_ j 3).n:Nat):Int)) af af];have l4:Y.v.b.length<=50000:=by rw[M];omega
 have S: ∀P C,(⟨(at_ j 0).n,(at_ j 1).n,(at_ j 2).n,(at_ j 3).n,P,Y.v.b.length,C⟩:aH.S)=(qg j).s P C:=λP C=>by
  show _=(⟨_,_,_,_,P,(qg j).data.length,C⟩:aH.S);rw[E];rfl
 refine⟨?_,?_,trivial⟩
 .refine iD.hC yv.row rfl af λP C x' O f15 k'=>⟨_,_,_,rfl,f15.kp,aH.db λB y' i' z f16=>⟨f16.kp,?_⟩⟩
  rw[S];have M':=f15.1;have z4:=aC z;refine aH.hM (x:=(qg j).s P C) z λm' d17 f17 _=>rest m' B P C d17 af ?_ ((f15.tt f16).fresh f17 (λy e=>af))
  have r':=(O.frame f16 cu).frame f17 (λy d e=>bX (O.dV d));rw[E];exact BV.j9 r' (λy d=>⟨k' y d,bX (O.dV d)⟩)
 .refine aH.db λB z' i' z f18=>⟨f18.kp,iD.hC (yv.row.frame f18 cu) rfl af λP C A' s' f19 X=>⟨_,_,_,rfl,f19.kp,?_⟩⟩
  rw[S];have N':=f18.1;have z4:=aC z;refine aH.hM (x:=(qg j).s P C) (f19.get z id) λn' d20 f20 _=>rest n' B P C d20 af ?_ ((f18.tt f19).fresh f20 (λy e=>af))
  have t':=s'.frame f20 (λy d e=>bX (X y d));rw[E];exact BV.j9 t' (λy d=>bX (X y d))

end Bn
end
section
variable {h:aj} {R:fj}
variable {L:cg} {l c:Nat} {b:ax.S} {r:cf.S}
theorem De.walk{kind:Int}(H:if(kind==1)then R (.bool true) h else if(kind==6)then R (.bool true) h else if(kind==7)then R (.bool true) h else R (.bool (kind==10)) h):Cl 176 #[.U kind] h R:=aN (lq ll) Tryz.func176 H
theorem Ht.walk (F: ∃(I:Bool->aj->Prop)(N:Bool->aj->Nat),(aG (λ(t33:Bool) (k:aj)=>if t33 then R (.bool false) k else I true k) (λJ=>if(decide ((wrap .i64 ((l:Int) - 1))<0))then J true h else if(decide ((wrap .i64 ((l:Int) - 1))≥8))then J true h else Bd (wrap .i64 ((l:Int) - 1)) l/\aM L λa=> ∃t23,aX h (a.add (toNat (wrap .i64 ((l:Int) - 1))*5))=some (.U t23)/\if(t23 !=1)then J true h else Bd (wrap .i64 ((l:Int) - 1)) l/\aM L λA=> ∃t31,aX h ((A.add (toNat (wrap .i64 ((l:Int) - 1))*5)).add 1)=some (.U t31)/\J (t31 !=1) h))/\∀(ok:Bool)(m:aj),I ok m->aG (λ(G:Bool) (C:aj)=>R (.bool G) C) (λg=> ∃(i:Bool->Int->aj->Prop)(M:Bool->Int->aj->Nat),i ok 0 m/\∀(O:Bool)(t36:Int)(e:aj),i O t36 e->if(decide (t36<(l:Int)))then Bd t36 l/\aM L λu=>aH.cO e (u.add (toNat t36*5)) λt40=>aQ e (.cells aH.S.z.arr 201) λb D=>aH.dv D (AA b 0) t40 λn=>aH.cO n (AA b 0) λt41=>Cl 175 #[t41.agg] n λv E=>Vb v λt42=>((0:Int)<=t36/\t36<=(c:Int))/\∃(f:Bool->Int->aj->Prop)(q:Bool->Int->aj->Nat),f t42 0 E/\∀(o:Bool)(t47:Int)(d:aj),f o t47 d->if(decide (t47<(((toNat t36) - 0:Nat):Int)))then aG (λ(s:Bool) (p:aj)=>(f s (wrap .i64 (t47+1)) p/\q s (wrap .i64 (t47+1)) p<q o t47 d)) (λt=>((0:Int)<=t47/\t47<(((toNat t36) - 0:Nat):Int))/\aM (cK L c 0 5) λw=>aH.cO d (w.add (toNat t47*5)) λt50=>aQ d (.cells aH.S.z.arr 201) λB x=>aH.dv x (AA B 0) t50 λH=>aG (λ(K:Bool) (y:aj)=>t K y) (λj=>if o then Hu H B 1 λt54=> ∃t56,Cc H b 1 (.U t56)/\if(t54 !=t56)then Hu H B 0 λt61=> ∃t63,Cc H b 0 (.U t63)/\if(t61 !=t63)then j true H else Hu H b 0 λt67=>Cl 176 #[.U t67] H λV z=> ∃t68,V=.bool t68/\j (!t68) z else j false H else j false H))else if(!o)then g o d else(i o (wrap .i64 (t36+1)) d/\M o (wrap .i64 (t36+1)) d<M O t36 e)else g O e)):Cl 124 #[.slice L l c] h R:=aN (lq (.scope 0 [(4,.one (.bool))] (lq (sq (sq (.join [(33,.one (.bool))] lf) (cq ll lf)) (lq ll))) (lq (sq (lq (.join [(4,.one (.bool))] (bq (.loop [(4,.one (.bool)),(36,.one (.int .i64))] (lq (sq (cq lf lf) (sq (bq (lq (lq (sq (lq (bq (.loop [(4,.one (.bool)),(47,.one (.int .i64))] (lq (sq (cq lf lf) (sq (.join [(4,.one (.bool))] (bq (lq (.join [(4,.one (.bool))] lf)))) lf)))))) (lq (cq lf lf)))))) lf))))))) ll)))) Tryz.func124 F
theorem Df.walk(S:aQ h (.cells b.arr 129) λB m=>aB.cO m (AA B 0) λt16=>Cl 177 #[t16.agg] m λv K=>aa.EX λs=> ∃u,v=.tuple #[s.agg,.I u]/\aQ K (.cells aa.S.z.arr 262) λi N=>aa.dv N (AA i 0) s λf=>if(u !=0)then R (.tuple #[.Z,.bool false]) f else aa.cO f (AA i 0) λt23=>Cl 178 #[t23.agg] f λX p=> ∃y x w U,X=.tuple #[.slice y x w,.I U]/\Hl p B 20 λV z b'=> ∃(I:cg->Nat->Nat->Int->aj->Prop)(M:cg->Nat->Nat->Int->aj->Nat),I y x w 0 p/\∀(d:cg)(O o:Nat)(t30:Int)(H:aj),I d O o t30 H->if(decide (t30<(z:Int)))then Bd t30 z/\aM V λa=>aH.cO H (a.add (toNat t30*5)) λt33=>aQ H (.cells aH.S.z.arr 201) λj P=>aH.dv P (AA j 0) t33 λq=>aH.cO q (AA j 0) λt35=>Cl 179 #[t35.agg] q λY Q=>aa.EX λA=> ∃C,Y=.tuple #[A.agg,.I C]/\aQ Q (.cells aa.S.z.arr 262) λk G=>aa.dv G (AA k 0) A λe=>if(C !=0)then R (.tuple #[.Z,.bool false]) e else aa.cO e (AA k 0) λt42=>Cl 178 #[t42.agg] e λZ J=> ∃F E D W,Z=.tuple #[.slice F E D,.I W]/\aU Tryz.prog (Builtin.append_ #[22,22] 22 #[.slice d O o,.slice F E D]) J λa' n=> ∃g T t,a'=.slice g T t/\(I g T t (wrap .i64 (t30+1)) n/\M g T t (wrap .i64 (t30+1)) n<M d O o t30 H)else R (.tuple #[.slice d O o,.bool true]) H):Cl 125 #[b.agg] h R:=aN (lq (lq (sq (lq (cq ll lf)) (lq (sq (lq (bq (.loop [(6,.one (.slice)),(30,.one (.int .i64))] (lq (sq (cq lf lf) (sq (bq (lq (lq (sq (lq (cq ll lf)) ll)))) lf)))))) ll))))) Tryz.func125 S
theorem Dg.walk(d:aQ h (.cells b.arr 129) λB H=>ax.cO H (AA B 0) λt6=>Cl 58 #[t6.agg] H λv a=> ∃f e T t,v=.tuple #[.slice f e T,.I t]/\R (.bool (t==0)) a):Cl 196 #[b.agg] h R:=aN (lq (lq ll)) Tryz.func196 d
theorem Dh.walk (u:aQ h (.cells b.arr 129) λB a=>Hl a B 20 λC A z=>Cl 124 #[.slice C A z] a λv H=> ∃t8,v=.bool t8/\if(!t8)then R (.tuple #[.Z,.I 3]) H else ax.cO H (AA B 0) λt11=>Cl 125 #[t11.agg] H λV d=> ∃f t T g,V=.tuple #[.slice f t T,.bool g]/\aG (λ(t21:Bool) (e:aj)=>if t21 then R (.tuple #[.Z,.I 3]) e else aQ e (.cells #[.int .u8 159] 5) λm o=>aU Tryz.prog (Builtin.append_ #[22,22] 22 #[.slice (Sa m 0) 1 1,.slice f t T]) o λD p=>Vl D λy x w=>aQ p (.cells #[.int .u8 255] 5) λn q=>aU Tryz.prog (Builtin.append_ #[22,22] 22 #[.slice y x w,.slice (Sa n 0) 1 1]) q λE s=> ∃k j i,E=.slice k j i/\R (.tuple #[.slice k j i,.I 0]) s) (λJ=>if(!g)then J true d else J (decide (((t:Nat):Int)>598)) d)):Cl 58 #[b.agg] h R:=aN (lq (sq (lq (cq ll lf)) (lq (sq (sq (.join [(21,.one (.bool))] lf) (cq ll lf)) ll)))) Tryz.func58 u
theorem Fo.walk{s:cg}{f q:Nat} (hv:aQ h (.cells ax.S.z.arr 129) λb u=>if(decide ((f:Int)>1200))then ax.dv u (AA b 0) ax.S.z λz=>ax.cO z (AA b 0) λr0=>R (.tuple #[r0.agg,.I 2]) z else Cl 193 #[.slice s f q,.I 0] u λv f'=>aa.EX λK=> ∃N t,v=.tuple #[K.agg,.I N,.I t]/\aQ f' (.cells aa.S.z.arr 262) λB g'=>aa.dv g' (AA B 0) K λH=>if(t !=0)then ax.dv H (AA b 0) ax.S.z λE=>ax.cO E (AA b 0) λh'=>R (.tuple #[h'.agg,.I t]) E else aG (λ(t27:Bool) (F:aj)=>if t27 then ax.dv F (AA b 0) ax.S.z λG=>ax.cO G (AA b 0) λi'=>R (.tuple #[i'.agg,.I 3]) G else aQ F (.cells ax.S.z.arr 129) λe k=>Hl k B 3 λs' r' C'=>Bd 0 r'/\aM s' λa=>aa.cO k (a.add (toNat 0*4)) λt54=>Cl 194 #[t54.agg] k λy' Z=>aB.EX λQ=> ∃T,y'=.tuple #[Q.agg,.I T]/\aB.dv Z (AA e 0) Q λi=>if(T !=0)then ax.dv i (AA b 0) ax.S.z λw=>ax.cO w (AA b 0) λj'=>R (.tuple #[j'.agg,.I T]) w else Hl i B 3 λu' m t'=>((0:Int)<=1/\1<=(m:Int))/\∃(I:Int->aj->Prop)(M:Int->aj->Nat),I 0 i/\∀(t67:Int)(d:aj),I t67 d->if(decide (t67<((m - (toNat 1):Nat):Int)))then((0:Int)<=t67/\t67<((m - (toNat 1):Nat):Int))/\aM (cK u' t' (toNat 1) 4) λX=>aa.cO d (X.add (toNat t67*4)) λt70=>aQ d (.cells aa.S.z.arr 262) λo a'=>aa.dv a' (AA o 0) t70 λx=>aa.cO x (AA o 0) λt72=>Cl 195 #[t72.agg] x λz' b'=>aH.EX λS=> ∃n,z'=.tuple #[S.agg,.I n]/\aQ b' (.cells aH.S.z.arr 201) λp c'=>aH.dv c' (AA p 0) S λg=>if(n !=0)then ax.dv g (AA b 0) ax.S.z λy=>ax.cO y (AA b 0) λk'=>R (.tuple #[k'.agg,.I n]) y else Hl g e 20 λx' w' v'=>aH.cO g (AA p 0) λt82=>aQ g (.cells t82.arr 201) λY d'=>aU Tryz.prog (Builtin.append_ #[127,127] 127 #[.slice x' w' v',.slice (Sa Y 0) 1 1]) d' λA' e'=> ∃W V U,A'=.slice W V U/\aO e' (AA e 20) (.slice W V U) λA=>(I (wrap .i64 (t67+1)) A/\M (wrap .i64 (t67+1)) A<M t67 d)else ax.cO d (AA e 0) λt87=>Cl 196 #[t87.agg] d λB' j=> ∃t88,B'=.bool t88/\if(!t88)then ax.dv j (AA b 0) ax.S.z λC=>ax.cO C (AA b 0) λl'=>R (.tuple #[l'.agg,.I 3]) C else ax.cO j (AA e 0) λt91=>ax.dv j (AA b 0) t91 λD=>ax.cO D (AA b 0) λm'=>R (.tuple #[m'.agg,.I 0]) D) (λJ=>if(N !=(f:Int))then J true H else∃t34,Cc H B 0 (.I t34)/\if(t34 !=4)then J true H else∃o' O n',Cc H B 3 (.slice o' O n')/\if(decide (((O:Nat):Int)<2))then J true H else∃q' P p',Cc H B 3 (.slice q' P p')/\J (decide (((P:Nat):Int)>9)) H)):Cl 158 #[.slice s f q] h R:=aN (lq (sq (lq (cq ll lf)) (lq (sq (bq (lq (cq ll (sq (.join [(27,.one (.bool))] lf) (cq ll lf))))) (lq (sq (lq (lq (cq ll lf))) (sq (lq (bq (.loop [(67,.one (.int .i64))] (lq (sq (cq lf lf) (sq (bq (lq (lq (sq (lq (cq ll lf)) lf)))) lf)))))) (sq (lq (cq ll lf)) ll)))))))) Tryz.func158 hv
theorem Ag.walk (o:aQ h (.cells b.arr 129) λB H=> ∃u j s,Cc H B 20 (.slice u j s)/\if(((j:Nat):Int)==0)then R (.Z) H else∃m k w,Cc H B 20 (.slice m k w)/\∃q t p,Cc H B 20 (.slice q t p)/\((0:Int)<=wrap .i64 (((t:Nat):Int) - 1)/\wrap .i64 (((t:Nat):Int) - 1)<((k:Nat):Int))/\aM m λa=> ∃e d T,aX H ((a.add (toNat (wrap .i64 (((t:Nat):Int) - 1))*5)).add 4)=some (.slice e d T)/\Cl 50 #[.slice e d T] H λv n=> ∃i g f,v=.slice i g f/\R (.slice i g f) n):Cl 159 #[b.agg] h R:=aN (lq (sq (lq (cq ll lf)) ll)) Tryz.func159 o
theorem Di.walk(k:aQ h (.cells r.arr 287) λb H=> ∃t4,Cc H b 0 (.bool t4)/\if t4 then∃t15,Cc H b 3 (.U t15)/\if(decide (t15<=255))then∃t20,Cc H b 4 (.U t20)/\if(decide (t20<=1099511627776))then ah.cO H (AA b 5) λt25=>Cl 237 #[t25.agg] H λv g=> ∃t26,v=.bool t26/\R (.bool t26) g else R (.bool false) H else R (.bool false) H else∃t7,Cc H b 1 (.bool t7)/\if t7 then∃t,Cc H b 3 (.U t)/\if(decide (t<=255))then∃a,Cc H b 4 (.U a)/\if(decide (a<=1099511627776))then ah.cO H (AA b 5) λm=>Cl 237 #[m.agg] H λV i=> ∃e,V=.bool e/\R (.bool e) i else R (.bool false) H else R (.bool false) H else∃t11,Cc H b 2 (.bool t11)/\if t11 then∃T,Cc H b 3 (.U T)/\if(decide (T<=255))then∃d,Cc H b 4 (.U d)/\if(decide (d<=1099511627776))then ah.cO H (AA b 5) λn=>Cl 237 #[n.agg] H λo j=> ∃f,o=.bool f/\R (.bool f) j else R (.bool false) H else R (.bool false) H else R (.bool false) H):Cl 290 #[r.agg] h R:=aN (lq ll) Tryz.func290 k
theorem Hv.walk(w:aQ h (.cells aa.S.z.arr 262) λb o=>Cl 247 #[.Z] o λv p=>aa.EX λt7=>v=t7.agg/\aQ p (.cells aa.S.z.arr 262) λB q=>aa.dv q (AA B 0) t7 λs=> ∃(I:Int->aj->Prop)(m:Int->aj->Nat),I 0 s/\∀(t10:Int)(H:aj),I t10 H->if(decide (t10<(l:Int)))then Bd t10 l/\aM L λa=>ym H (a.add (toNat t10*1)) λt13=>aG (λ(n:Int) (d:aj)=>Hl d B 3 λA z y=>Cl 205 #[.U n] d λV e=>aa.EX λt18=>V=t18.agg/\Kp d e [(Sa B 3)]/\aQ e (.cells t18.arr 262) λk i=>Kp e i [(Sa B 3)]/\aU Tryz.prog (Builtin.append_ #[260,260] 260 #[.slice A z y,.slice (Sa k 0) 1 1]) i λC u=> ∃j T t,C=.slice j T t/\aO u (AA B 3) (.slice j T t) λf=>(I (wrap .i64 (t10+1)) f/\m (wrap .i64 (t10+1)) f<m t10 H)) (λJ=>if t13 then J 1 H else J 0 H)else aa.cO H (AA B 0) λt23=>aa.dv H (AA b 0) t23 λg=>aa.cO g (AA b 0) λx=>R (x.agg) g):Cl 291 #[.slice L l c] h R:=aN (lq (lq (sq (lq (bq (.loop [(10,.one (.int .i64))] (lq (sq (cq lf lf) (sq (bq (lq (lq (sq (lq (.join [(6,.one (.int .u64))] (cq lf lf))) (pK 8))))) lf)))))) ll))) Tryz.func291 w
theorem Dj.walk(hv:aQ h (.cells r.arr 287) λb n=>ah.cO n (AA b 5) λt8=>Cl 204 #[t8.agg] n λv Y=>aa.EX λG=> ∃I,v=.tuple #[G.agg,.I I]/\aQ Y (.cells aa.S.z.arr 262) λB f'=>aa.dv f' (AA B 0) G λg=>aG (λ(t18:Bool) (H:aj)=>if t18 then R (.tuple #[.Z,.I 3]) H else Hb H b 0 λt21=>Hb H b 1 λt23=>Hb H b 2 λt25=>Hu H b 3 λt29=>Hu H b 4 λt32=>aa.cO H (AA B 0) λt34=>(Cl 205 #[.U 1] H λg' i=>aa.EX λt19=>g'=t19.agg/\Kp H i [(Sa B 0),(Sa b 4),(Sa b 3),(Sa b 2),(Sa b 1),(Sa b 0)]/\aQ i (.cells #[.bool t21,.bool t23,.bool t25] 4) λK j=>Kp i j [(Sa B 0),(Sa b 4),(Sa b 3)]/\Cl 291 #[.slice (Sa K 0) 3 3] j λn' k=>aa.EX λt27=>n'=t27.agg/\Kp j k [(Sa B 0),(Sa b 4),(Sa b 3)]/\Cl 205 #[.U t29] k λo' m=>aa.EX λt30=>o'=t30.agg/\Kp k m [(Sa B 0),(Sa b 4)]/\Cl 205 #[.U t32] m λp' o=>aa.EX λt33=>p'=t33.agg/\Kp m o [(Sa B 0)]/\aQ o (.cells (t27.l++t30.l++t33.l++t34.l).toArray 262) λM S=>Cl 247 #[.slice (Sa M 0) 4 4] S λq' U=>aa.EX λt36=>q'=t36.agg/\aQ U (.cells (t19.l++t36.l).toArray 262) λN V=>Cl 247 #[.slice (Sa N 0) 2 2] V λr' W=>aa.EX λt38=>r'=t38.agg/\Cl 178 #[t38.agg] W λs' X=> ∃C z x E,s'=.tuple #[.slice C z x,.I E]/\R (.tuple #[.slice C z x,.I E]) X)/\(aQ H (.cells #[.bool t21,.bool t23,.bool t25] 4) λO a=>Kp H a [(Sa B 0),(Sa b 4),(Sa b 3)]/\Cl 205 #[.U 1] a λt' d=>aa.EX λt=>t'=t.agg/\Kp a d [(Sa B 0),(Sa b 4),(Sa b 3)]/\Cl 291 #[.slice (Sa O 0) 3 3] d λu' e=>aa.EX λT=>u'=T.agg/\Kp d e [(Sa B 0),(Sa b 4),(Sa b 3)]/\Cl 205 #[.U t29] e λh' f=>aa.EX λq=>h'=q.agg/\Kp e f [(Sa B 0),(Sa b 4)]/\Cl 205 #[.U t32] f λi' p=>aa.EX λs=>i'=s.agg/\Kp f p [(Sa B 0)]/\aQ p (.cells (T.l++q.l++s.l++t34.l).toArray 262) λP Z=>Cl 247 #[.slice (Sa P 0) 4 4] Z λj' a'=>aa.EX λu=>j'=u.agg/\aQ a' (.cells (t.l++u.l).toArray 262) λQ b'=>Cl 247 #[.slice (Sa Q 0) 2 2] b' λk' c'=>aa.EX λw=>k'=w.agg/\Cl 178 #[w.agg] c' λl' d'=> ∃D A y F,l'=.tuple #[.slice D A y,.I F]/\R (.tuple #[.slice D A y,.I F]) d')/\True) (λJ=>if(I !=0)then J true g else cf.cO g (AA b 0) λt15=>Cl 290 #[t15.agg] g λm' e'=> ∃t16,m'=.bool t16/\J (!t16) e')):Cl 249 #[r.agg] h R:=aN (lq (lq (sq (sq (.join [(18,.one (.bool))] lf) (cq ll lf)) (sq (.jP (fJ 6 1 (.op 9 (.op 10 (.op 12 (.op 13 (.op 15 (.alts (.fork 0 (.op 7 (.op 8 (.op 11 (.op 14 (fJ 9 16 .done))))) (.fork 7 (.op 0 (.op 8 (.op 11 (.op 14 (fJ 9 16 .done))))) .gG)))))))))) lf)))) Tryz.func249 hv
theorem AZ.walk{dest:aw.S}{id:ah.S}{eV:Int}(y:aQ h (.cells r.arr 287) λb q=>aQ q (.cells dest.arr 29) λn s=>aQ s (.cells id.arr 124) λo u=>aQ u (.cells ax.S.z.arr 129) λB g=>cf.cO g (AA b 0) λt14=>Cl 249 #[t14.agg] g λv H=> ∃m k T t,v=.tuple #[.slice m k T,.I t]/\if(t !=0)then ax.dv H (AA B 0) ax.S.z λi=>ax.cO i (AA B 0) λz=>R (.tuple #[z.agg,.I t]) i else aw.cO H (AA n 0) λt22=>ah.cO H (AA o 0) λt23=>aQ H (.cells #[.U 1,.U 1,.U 0,.I 0,.slice m k T] 201) λp w=>aQ w (.cells ax.S.z.arr 129) λa x=>ax.dv x (AA a 0) ⟨2,0,t22.f0,t22.f1,t22.f2,t22.f3,t22.f4,false,0,0,gV,gV,t23.f0,t23.f1,t23.f2,t23.f3,t23.f4,t23.f5,t23.f6,eV,(Sa p 0),1,1⟩ λj=>ax.cO j (AA a 0) λt30=>Cl 196 #[t30.agg] j λV d=> ∃t31,V=.bool t31/\if(!t31)then ax.dv d (AA B 0) ax.S.z λe=>ax.cO e (AA B 0) λA=>R (.tuple #[A.agg,.I 3]) e else ax.cO d (AA a 0) λt34=>ax.dv d (AA B 0) t34 λf=>ax.cO f (AA B 0) λC=>R (.tuple #[C.agg,.I 0]) f):Cl 197 #[r.agg,dest.agg,id.agg,.U eV] h R:=aN (lq (lq (sq (lq (cq ll lf)) (lq (sq (lq (cq ll lf)) ll))))) Tryz.func197 y

end
section
namespace Bn
open Cb
open iT (Ev cN kj)
variable {V:cH→Bool} {h H h' g:aj} {R:fj} {D D':Nat→Prop}
variable {bs:List rE} {q:cg} {l cl:Nat}
structure BB where
 b:rE
 p:cg
 c:Nat
abbrev BB.s(x:BB):aH.S:=x.b.s x.p x.c
variable {xs:List BB}
abbrev Ah(x:BB):List Value:=x.s.l
theorem Ai(x:BB):(Ah x).length=5:=rfl
theorem Nl(x:BB): ∀v∈Ah x,fI v=true:=λv a=>by
 simp only[Ah,aH.S.l,bJ,List.not_mem_nil,or_false]at a;rcases a with rfl|rfl|rfl|rfl|rfl<;>rfl
structure jz (h:aj) (D:Nat->Prop) (bs:List rE) (q:cg) (l cl:Nat) (xs:List BB):Prop where
 eq:xs.map BB.b=bs
 len:l=bs.length
 row:Row h q (xs.flatMap Ah)
 own:xs≠ []->∀y,aL q y->D y
 cap:l<=cl
 ok: ∀x∈xs,BV.ok h D ⟨x.p,x.c,x.b.data⟩
theorem jz.xl(B:jz h D bs q l cl xs):xs.length=bs.length:=by rw[<-B.eq,aF]
theorem jz.frame{Q:Nat->Prop}(B:jz h D bs q l cl xs)(f:Fr Q h h')(c: ∀y,D y->¬Q y):jz h' D bs q l cl xs:=by
 refine⟨B.eq,B.len,?_,B.own,B.cap,λx i=>(B.ok x i).frame f c⟩;by_cases e:xs= []
 .subst e;exact Row.nil
 .exact B.row.frame f (λa d=>c _ (B.own e _ ⟨a,d,rfl⟩))
theorem jz.on(B:jz h D bs q l cl xs)(f:Fr No h h'):jz h' D bs q l cl xs:=B.frame f cu
theorem jz.mono(B:jz h D bs q l cl xs)(hd: ∀y,D y->D' y):jz h D' bs q l cl xs:=
 ⟨B.eq,B.len,B.row,λe y c=>hd y (B.own e y c),B.cap,λx a=>(B.ok x a).mono hd⟩
theorem jz.get(B:jz h D bs q l cl xs){i:Nat}(d:i<bs.length): ∃(a:Addr)(x:BB),q=some a/\dI (a.add (i*5)) x.s.l 0 h/\x.b=bs[i]/\BV.ok h D ⟨x.p,x.c,x.b.data⟩/\xs[i]? =some x:=by
 have xl:=B.xl;have c:xs[i]? =some (xs[i]' af):=ai _;obtain⟨a,rfl⟩:=B.row.some (by intro e;have:=bT List.length e;rw[eS Ah 5 Ai,bm]at this;omega);refine⟨a,_,rfl,B.row.fL Ai c,?_,B.ok _ (aT c),c⟩;have:=B.eq;subst this;rw[List.getElem_map]
theorem jz.take(B:jz h D bs q l cl xs){n:Nat}(o:n<=bs.length):jz h D (bs.take n) (cK q cl 0 5) (n - 0) (cl - 0) (xs.take n):=by
 have k:=B.cap;have m:=B.len;have d:=B.row.sub (cap:=cl) (l:=0) (u:=n) (sz:=5) (bL _) af;rw[lQ Ah 5 Ai,Nat.zero_mul,gv]at d;refine⟨by rw[List.map_take,B.eq],by rw[bE];omega,d,λe y j=>B.own (λf=>e (by rw[f,List.take_nil])) y ?_,af,λx i=>B.ok x (List.mem_of_mem_take i)⟩;obtain⟨a,E,c⟩:=j;unfold cK at E;cases q with
 |none=>split at E<;>cases E
 |some A=>
  split at E
  .cases E;exact⟨_,rfl,c⟩
  .cases E;exact⟨_,rfl,c⟩
theorem Nn{k:Nat}(hk:R (.bool (alone k)) h):Cl 176 #[.U (k:Int)] h R:=by
 refine De.walk ?_;unfold alone at hk;by_cases c1:k=1
 .rw[au (.inl c1)]at hk;rw[ag (by simp only[da];omega)];exact hk
 rw[ae (by simp only[da];omega)];by_cases C:k=6
 .rw[au (.inr (.inl C))]at hk;rw[ag (by simp only[da];omega)];exact hk
 rw[ae (by simp only[da];omega)];by_cases a:k=7
 .rw[au (.inr (.inr (.inl a)))]at hk;rw[ag (by simp only[da];omega)];exact hk
 rw[ae (by simp only[da];omega)];have:((k:Int)==10)=decide (k=1\/k=6\/k=7\/k=10):=by
  by_cases c:k=10
  .rw[au (.inr (.inr (.inr c)))];simp only[da];omega
  .rw[az af];simp only[dC,ft];omega
 rw[this];exact hk
theorem QI(U:mE V H)(u:Fr No H h)(mx:mD.Mx h)(B:jz h D bs q l cl xs)(hl:bs.length<=1000000)(hd: ∀b∈bs,b.data.length<=80000)(hk: gU h R (.bool (AD V bs))):Cl 124 #[.slice q l cl] h R:=by
 have el:=B.len;subst el;refine Ht.walk ?_;have c:AD V bs=AD V bs:=rfl;conv at c=>rhs;unfold AD
 refine⟨λok g=>ok=true/\g=h/\bs.length<=8/\AD V bs=Gd V [] bs,λ_ _=>0,aG.of λJ A=> ?_,?_⟩
 .have no:AD V bs=false->J true h:=λe=>by
   subst A;dsimp only;rw[ag rfl];have:=hk h (Fr.refl _ _);rw[e]at this;exact this
  by_cases c0:bs.length=0
  .rw[ag (by rw[c0];decide)];have:bs= []:=gm.1 c0;exact no (by rw[c,this];rfl)
  obtain⟨n,hn⟩: ∃n,bs.length=n+1:=⟨bs.length - 1,af⟩;have ew:IntKind.wrap .i64 (((bs.length:Nat):Int) - 1)=(n:Int):=by rw[hn,bA af af];omega
  have i':bs.getLast? =some bs[n]:=by rw[List.getLast?_eq_getElem?,show bs.length - 1=n by omega,ai af]
  rw[i']at c;dsimp only at c;rw[ew,dj];by_cases p:bs.length<=8
  case neg=>rw[ag (by simp only[aY];omega)];exact no (by rw[c,az p];rfl)
  rw[dj];rw[au p,dP]at c;obtain⟨a,x,rfl,o,ex,_⟩:=B.get (i:=n) af;have a':aX h (a.add (n*5))=some (.U ((bs[n].ty:Nat):Int)):=by rw[<-ex];exact o.1
  have b':aX h ((a.add (n*5)).add 1)=some (.U ((bs[n].nr:Nat):Int)):=by rw[<-ex];exact o.2.1
  refine⟨af,ay.2 ⟨_,by rw[aD];exact a',?_⟩⟩;by_cases c1:bs[n].ty=1
  case neg=>rw[ag (by simp only[dX,ft];omega)];exact no (by rw[c,az (λe=>c1 e.1)];rfl)
  rw[ae (by simp only[dX,ft];omega)];refine⟨af,ay.2 ⟨_,by rw[aD];exact b',?_⟩⟩;by_cases C:bs[n].nr=1
  case neg=>rw[show(((bs[n].nr:Nat):Int) !=1)=true by simp only[dX,ft];omega];exact no (by rw[c,az (λe=>C e.2)];rfl)
  rw[show(((bs[n].nr:Nat):Int) !=1)=false by simp only[gp];omega];subst A;dsimp only;rw[dj];exact⟨rfl,rfl,p,by rw[c,au ⟨c1,C⟩];rfl⟩
 rintro _ h ⟨rfl,rfl,l8,M⟩;clear c;refine aG.of λJ1 I=> ?_
 refine⟨λok t g=> ∃i:Nat,t=(i:Int)/\i<=bs.length/\ok=true/\Fr No h g/\Gd V [] bs=Gd V (bs.take i) (bs.drop i),λ_ t _=>bs.length - t.toNat,⟨0,rfl,bL _,rfl,Fr.refl _ _,rfl⟩,?_⟩;rintro _ _ g ⟨i,rfl,hi,rfl,f,d⟩;by_cases m:i<bs.length
 case neg=>
  rw[ae (λe=>m (bX (aP e)))];subst I;have:=hk g f;rw[M,d,dZ af]at this;exact this
 rw[fY];have S:=B.on f;obtain⟨a,x,rfl,o,ex,P,_⟩:=S.get m;rw[cR m]at d;have lx:x.b.data.length<=80000:=by rw[ex];exact hd _ (dQ m)
 refine⟨af,ay.2 (aH.mA (x:=x.s) (by rw[aD];exact o) (aH.gh (x:=x.s) λb h6 eb K f6=>aH.fR K (BZ x.b U (u.tt (f.tt f6)) (mx.on (f.tt f6)) (P.frame f6 cu).row P.cap lx λh7 f7=>⟨_,rfl,⟨af,bX B.cap⟩,?_⟩)))⟩;have z:=f6.tt f7;have e':=f7.get K id;have z7:=f.tt z;rw[ex];have X: ∀r,Gd V (bs.take i) (bs[i]::r)=(jM V bs[i] && (bs.take i).all (apart bs[i]) && Gd V (bs.take i++ [bs[i]]) r):=λr=>rfl
 rw[X]at d;refine⟨λok t G=> ∃k:Nat,t=(k:Int)/\k<=i/\ok=(jM V bs[i] && (bs.take k).all (apart bs[i]))/\Fr No h7 G,λ_ t _=>i - t.toNat,⟨0,rfl,bL _,bO,Fr.refl _ _⟩,?_⟩;rintro ok _ G ⟨k,rfl,k',N,s⟩;have Z:((Int.toNat (i:Int)) - 0:Nat)=i:=af
 rw[Z];have F:=f.tt (z.tt s);by_cases g':k<i
 case neg=>
  rw[ae (λe=>g' (bX (aP e)))];have:k=i:=af
  subst this;rw[<-N]at d;cases ok with
  |false=>
   rw[fY];subst I;have:=hk G F;rw[M,d]at this;exact this
  |true=>
   rw[dj,bA (n:=(k:Int)+1) af af];refine⟨⟨k+1,af,af,rfl,F,?_⟩,by show bs.length - Int.toNat ((k:Int)+1)<bs.length - Int.toNat (k:Int);omega⟩;rw[d,dP,bD,ai m];rfl
 rw[fY];refine aG.of λJ2 c'=> ?_
 have Q:=(B.on F).take (n:=i) af;have lt:(bs.take i).length=i:=by rw[bE];omega
 obtain⟨W,y,Y,f',E,l',_⟩:=Q.get (i:=k) af;rw[List.getElem_take]at E;have lk:k<bs.length:=af
 have ek:bs.take (k+1)=bs.take k++ [bs[k]]:=by rw[bD,ai lk];rfl
 refine⟨af,cb.2 ⟨W,Y,aH.mA (x:=y.s) (by rw[aD];exact f') (aH.gh (x:=y.s) λb1 j j' L f11=>aG.of λT d'=> ?_)⟩⟩;have w:=(s.tt f11).get e' id;have go: ∀r v,Fr No j v->r=(ok && apart bs[i] bs[k])->T r v:=by
  intro r v f2 er;subst d' c';dsimp only;rw[bA (n:=(k:Int)+1) af af];refine⟨⟨k+1,af,af,?_,s.tt (f11.tt f2)⟩,by show i - Int.toNat ((k:Int)+1)<i - Int.toNat (k:Int);omega⟩;rw[er,N,ek,List.all_append,<-Bool.and_assoc];simp
 cases O:ok with
 |false=>rw[dj];exact go false j (Fr.refl _ _) (by rw[O];rfl)
 |true=>
 rw[ag rfl];refine⟨_,ak L,_,ak w,?_⟩;rw[O]at go;have n1:(((y.s.f1:Int) !=x.s.f1)=decide (bs[k].nr≠bs[i].nr)):=by
  show((y.b.nr:Int) !=(x.b.nr:Int))=_;rw[E,ex];by_cases e:bs[k].nr=bs[i].nr
  .rw[az (λq=>q e),e];simp
  .rw[au e];simp only[dX,ft];omega
 have n2:(((y.s.f0:Int) !=x.s.f0)=decide (bs[k].ty≠bs[i].ty)):=by
  show((y.b.ty:Int) !=(x.b.ty:Int))=_;rw[E,ex];by_cases e:bs[k].ty=bs[i].ty
  .rw[az (λq=>q e),e];simp
  .rw[au e];simp only[dX,ft];omega
 rw[n1];by_cases c1:bs[k].nr≠bs[i].nr
 case neg=>rw[ae (cy c1)];exact go false j (Fr.refl _ _) (by unfold apart;rw[az c1];rfl)
 rw[ag (au c1)];refine⟨_,ak L,_,ak w,?_⟩;rw[n2];by_cases C:bs[k].ty≠bs[i].ty
 .rw[ag (au C)];exact go true j (Fr.refl _ _) (by unfold apart;rw[au c1,au C];rfl)
 rw[ae (cy C)];refine⟨_,ak w,?_⟩;rw[show x.s.f0=((bs[i].ty:Nat):Int) by rw[<-ex]];exact Nn ⟨_,rfl,go _ j (Fr.refl _ _) (by unfold apart;rw[au c1,az C];rfl)⟩
theorem Fq(t:Tr):(yQ V t).length<=room t:=by
 unfold yQ;split
 .exact jH t
 .exact bL _
theorem I3{t:Tr}{x:CV}(U:mE V H)(u:Fr No H h)(T:gE h D t x)(d:room t<=1000000)(hk: ∀h' p c (q:Int),fi h' p (yQ V t).length c 1 (bc (yQ V t))->(∀y,aL p y->h.size<=y)->Fr No h h'->R (.tuple #[.slice p (yQ V t).length c,.I q]) h'):Cl 178 #[x.agg] h R:=by
 unfold yQ at hk;refine wk U u T d (λe h' p c o n f=> ?_) (λe h' f=> ?_)
 .rw[ag e]at hk;exact hk h' p c 0 o n f
 .rw[e,dj]at hk;exact hk h' none 0 3 (.nil rfl rfl rfl rfl) (λy ⟨a,e,_⟩=>by cases e) f
abbrev pC.s(b:pC)(q:cg)(cl:Nat):ax.S:=⟨b.p.fl,b.p.sum,b.p.dest.jI,b.p.dest.node,b.p.dest.fX,b.p.dest.host,b.p.dest.jd,b.p.rep.jI,b.p.rep.node,b.p.rep.fX,b.p.rep.host,b.p.rep.jd,b.p.id.e.jI,b.p.id.e.node,b.p.id.e.fX,b.p.id.e.host,b.p.id.e.jd,b.p.id.tm,b.p.id.sq,b.p.eV,q,b.bl.length,cl⟩
variable {b:pC}
theorem Uv{b:Nat}{x:pC}{K:aB.S->Prop}(a:ax.fV h b (x.s q cl))(hk:K x.p.s):aB.cO h (AA b 0) K:=
 ⟨_,ak a,_,ak a,_,ak a,_,ak a,_,ak a,_,ak a,_,ak a,_,ak a,_,ak a,_,ak a,_,ak a,_,ak a,_,ak a,_,ak a,_,ak a,_,ak a,_,ak a,_,ak a,_,ak a,_,ak a,hk⟩
theorem Np(b':b.p.wf)(U:mE V H)(u:Fr No H h)(mx:mD.Mx h)(B:jz h D b.bl q b.bl.length cl xs)(hl:b.bl.length<=8)(hd: ∀E∈b.bl,E.data.length<=80000)(Z: ∀out,qh V b=some out->out.length<=5000->∀h' p c,fi h' p out.length c 1 (bc out)->(∀y,aL p y->h.size<=y)->Fr No h h'->R (.tuple #[.slice p out.length c,.bool true]) h')(K:qh V b=none->gU h R (.tuple #[.Z,.bool false])):Cl 125 #[(b.s q cl).agg] h R:=by
 refine Df.walk (ax.db λb1 h1 e' v f1=>Uv v (Nj b.p b' U (u.tt f1) λh2 z qz z0 z1 f2=>aa.ex z.s ⟨_,rfl,aa.gh (x:=z.s) λb2 M f' Q f4=> ?_⟩));have F:=f1.tt (f2.tt f4);have k:qh V b=qh V b:=rfl;conv at k=>rhs;unfold qh
 cases m:mS V b.p with
 |error e=>rw[ag (cy (z1 e m))];exact K (by rw[k,m]) M F
 |ok t=>
 obtain⟨rfl,tz⟩:=z0 t m;rw[m]at k;dsimp only at k;rw[dj];have rt:=Ac m;have le:=Fq (V:=V) t;refine aa.fR Q (I3 U (u.tt F) (tz.on f4) af λh5 p5 c5 q5 o5 n5 f5=>⟨_,_,_,_,rfl,_,_,_,ak ((f2.tt (f4.tt f5)).get v id),?_⟩);have C:=F.tt f5;have z4:=F.1;refine⟨λp l c t g=> ∃(i:Nat)(out:cH),t=(i:Int)/\i<=b.bl.length/\l=out.length/\fi g p out.length c 1 (bc out)/\(∀y,aL p y->h.size<=y)/\Fr No h g/\qh V b=Eb V (b.bl.drop i) out/\out.length<=1100+400*i,λ_ _ _ t _=>b.bl.length - t.toNat,⟨0,yQ V t,rfl,bL _,rfl,o5,λy r=>bX (n5 y r),C,k,af⟩,?_⟩;rintro p _ c _ g ⟨i,out,rfl,hi,rfl,A,N,f,d,l'⟩;have lb:(b.s q cl).LJ=b.bl.length:=rfl;by_cases o:i<b.bl.length
 case neg=>
  rw[ae (λe=>o (bX (aP e)))];rw[dZ af]at d;exact Z out d af g p c A N f
 rw[fY];obtain⟨a,x,rfl,X,ex,w,_⟩:=(B.on f).get o;have lx:x.b.data.length<=80000:=by rw[ex];exact hd _ (dQ o)
 refine⟨af,ay.2 (aH.mA (x:=x.s) (by rw[aD];exact X) (aH.gh (x:=x.s) λb3 h8 g' S f8=>aH.fR S (I2 x.b U (u.tt (f.tt f8)) (mx.on (f.tt f8)) (w.frame f8 cu).row w.cap lx λh9 y qy y0 Y f9=>aa.ex y.s ⟨_,rfl,aa.gh (x:=y.s) λb4 J i' W f11=> ?_⟩)))⟩;have s:=f.tt (f8.tt (f9.tt f11));rw[ex]at y0 Y;rw[cR o]at d;have P: ∀L,Eb V (b.bl[i]::L) out=(match rF V b.bl[i]with| .error _=>none| .ok t=>Eb V L (out++yQ V t)):=λL=>rfl
 rw[P]at d;cases j:rF V b.bl[i]with
 |error e=>rw[ag (by rw[Y e j];simpa using Fm j)];exact K (by rw[d,j]) J s
 |ok T=>
 obtain⟨rfl,ty⟩:=y0 T j;rw[j]at d;dsimp only at d;rw[dj];have r':=B1 j;have m':=Fq (V:=V) T;refine aa.fR W (I3 U (u.tt s) (ty.u.on f11) af λj' o' d' q' a' n' f12=>⟨_,_,_,_,rfl,?_⟩);have G:=f8.tt (f9.tt (f11.tt f12));refine dY iD.tU iD.uU (A.frame G cu) a'.jb (by rw[iV,cv]) (pW _) af af λp' c' k' O _ f13 I=>⟨_,_,_,rfl,?_⟩
 rw[bA (n:=(i:Int)+1) af af];rw[<-jR,<-av]at O;have zG:=(f.tt G).1;refine⟨⟨i+1,out++yQ V T,af,af,by rw[av],O,λy r=> ?_,(f.tt G).fresh f13 N,d,by rw[av];omega⟩,by show b.bl.length - Int.toNat ((i:Int)+1)<b.bl.length - Int.toNat (i:Int);omega⟩;rcases I y r with a|a
 .exact N y a
 .omega
theorem I4(w:b.p.wf)(U:mE V H)(u:Fr No H h)(mx:mD.Mx h)(B:jz h D b.bl q b.bl.length cl xs)(L:b.bl.length<=1000000)(hd: ∀x∈b.bl,x.data.length<=80000)(Q: ∀out,kJ V b=some out->out.length<=600->∀h' p c,fi h' p out.length c 1 (bc out)->(∀y,aL p y->h.size<=y)->Fr No h h'->R (.tuple #[.slice p out.length c,.I 0]) h')(K:kJ V b=none->gU h R (.tuple #[.Z,.I 3])):Cl 58 #[(b.s q cl).agg] h R:=by
 have f:kJ V b=kJ V b:=rfl;conv at f=>rhs;unfold kJ
 refine Dh.walk (ax.db λb1 h1 a' s f1=>⟨_,_,_,ak s,QI U (u.tt f1) (mx.on f1) (B.on f1) L hd λA f2=>⟨_,rfl,?_⟩⟩);have F:=f1.tt f2;cases i:AD V b.bl with
 |false=>rw[fY];exact K (by rw[f,i];rfl) A F
 |true=>
 rw[i,ag rfl]at f;rw[dj];have S:b.bl.length<=8:=by
  unfold AD at i;split at i
  .cases i
  .simp only[aR,aY]at i;exact i.1.1
 refine ax.fR (f2.get s id) (Np w U (u.tt F) (mx.on F) (B.on F) S hd (λout P lo d p c X nw f3=>⟨_,_,_,_,rfl,aG.of λJ m=> ?_⟩) (λM d f3=>⟨_,_,_,_,rfl,aG.of λJ m=> ?_⟩))
 case refine_2=>
  rw[fY];subst m;dsimp only;rw[ag rfl];exact K (by rw[f,M]) d (F.tt f3)
 rw[P]at f;dsimp only at f;rw[dj];subst m;dsimp only;by_cases c1:out.length<=598
 case neg=>rw[ag (by simp only[aY];omega)];exact K (by rw[f,ae c1]) d (F.tt f3)
 rw[dj];rw[ag c1]at f;have r:=F.tt f3;have z3:=r.1;refine cG ?_;have f5:Fr No d (d.push (.cells #[.int .u8 159] 5)):=Fr.push _ _;have T:fi (d.push (.cells #[.int .u8 159] 5)) (Sa d.size 0) 1 1 1 (bc [159]):=by
  exact .row d.size 0 #[.int .u8 159] 5 rfl bR (bk _) bO rfl (λj v n=>by
   match j,n with
   |0,n=>exact n)
 refine dY iD.tU iD.uU T ((X.frame f5 cu).jb) (by rw[iV,cv]) (pW _) af af λY c6 k W _ f6 G=>⟨_,_,_,rfl,cG ?_⟩
 have f7:Fr No k (k.push (.cells #[.int .u8 255] 5)):=Fr.push _ _;have z5:=f5.1;have z6:=f6.1;have z7:=f7.1;refine dY iD.tU iD.uU (W.frame f7 cu) (q:=some (AA k.size 0)) (ds:=bc [255]) jl rfl (pW _) af af λZ C I O _ f8 z=>⟨_,_,_,rfl,?_⟩
 rw[<-jR,<-jR]at O;have el:1+out.length+1=(159::(out++ [255])).length:=by simp;omega
 rw[el]at O⊢;have N: ∀y,aL Y y->d.size<=y:=λy o=>by
  rcases G y o with⟨a,e,E⟩|a
  .cases e;rw[<-E];exact bk _
  .omega
 have t:Fr No d k:=f5.fresh f6 (λy ⟨a,e,E⟩=>by cases e;rw[<-E];exact bk _);refine Q _ f (by simp;omega) I Z C O (λy o=> ?_) (r.tt ((t.tt f7).fresh f8 N));rcases z y o with a|a
 .have:=N y a;omega
 .omega
theorem B2(w:b.p.wf)(U:mE V H)(u:Fr No H h)(mx:mD.Mx h)(B:jz h D b.bl q b.bl.length cl xs)(f:b.bl.length<=1000000)(hd: ∀d∈b.bl,d.data.length<=80000)(hk: gU h R (.bool (kJ V b).isSome)):Cl 196 #[(b.s q cl).agg] h R:=by
 refine Dg.walk (ax.db λb1 k E e f1=>ax.fR e (I4 w U (u.tt f1) (mx.on f1) (B.on f1) f hd (λout j L a p c o n f2=>⟨_,_,_,_,rfl,?_⟩) (λi a f2=>⟨_,_,_,_,rfl,?_⟩)))
 .have:=hk a (f1.tt f2);rw[j]at this;exact this
 .have:=hk a (f1.tt f2);rw[i]at this;exact this
theorem Hw {b : pC} {q : Option Addr} {cl : Nat} {xs : List BB} (B : jz h D b.bl q b.bl.length cl xs) (hl : b.bl.length ≤ 1000000) (hd : ∀ b' ∈ b.bl, b'.data.length ≤ 80000)
    (hk : ∀ h' p c, fi h' p (xh b).length c 1 (bc (xh b)) → (∀ y, aL p y → h.size ≤ y) → Fr No h h' → R (.slice p (xh b).length c) h') : Cl 159 #[(b.s q cl).agg] h R := by
  have lb : (b.s q cl).LJ = b.bl.length := rfl
  refine Ag.walk (ax.db λb1 h1 Su Kn f1 => ⟨_, _, _, cE Kn rfl, ?_⟩)
  by_cases c0 : b.bl.length = 0
  · rw [if_pos (by simp only [beq_iff_eq]; omega)]
    have e0 : b.bl = [] := List.length_eq_zero_iff.1 c0
    have : xh b = [] := by unfold xh; rw [e0]; rfl
    rw [this] at hk
    exact hk h1 none 0 (.nil rfl rfl rfl rfl) (λy ⟨a, e, _⟩ => by cases e) f1
  rw [if_neg (by simp only [beq_iff_eq]; omega)]
  obtain ⟨n, hn⟩ : ∃ n, b.bl.length = n + 1 := ⟨b.bl.length - 1, by omega⟩
  have ew : IntKind.wrap .i64 (((b.bl.length : Nat) : Int) - 1) = (n : Int) := by rw [hn, bA (by omega) (by omega)]; omega
  have PK : b.bl.getLast? = some b.bl[n] := by rw [List.getLast?_eq_getElem?, show b.bl.length - 1 = n by omega, List.getElem?_eq_getElem (by omega)]
  have ep : xh b = b.bl[n].data := by unfold xh; rw [PK]
  refine ⟨_, _, _, cE Kn rfl, _, _, _, cE Kn rfl, ?_⟩
  rw [lb, ew]
  obtain ⟨a, x, rfl, hh, ex, Vw, _⟩ := (B.on f1).get (i := n) (by omega)
  refine ⟨⟨by omega, by omega⟩, ay.2 ⟨_, _, _, by rw [Int.toNat_natCast]; exact hh.2.2.2.2.1, iD.hC Vw.row rfl (by have := hd _ (List.getElem_mem (show n < b.bl.length by omega)); rw [← ex] at this; show x.b.data.length ≤ _; omega) λp c h2 o f2 n2 => ⟨_, _, _, rfl, ?_⟩⟩⟩
  rw [ep, ← ex] at hk
  exact hk h2 p c o (λy hy => by have := n2 y hy; have := f1.1; omega) (f1.tt f2)

end Bn
end
section
namespace Ask
open iT (Ev cN)
open eU (SS Good Pt sP Mk)
open Bn (iN gL iB zT C7 pC Prim rE jz BB kJ)
variable {V:cH→Bool} {h h' m g:aj} {R:fj} {s k bo id c:Nat} {X j:Ft} {I:sP} {σ:SS} {p:cg} {ses:Int} {x:Rq} {D:Nat→Prop} {o:Ot}
variable {b:Nat} {K:aj->Prop} {n:Nat×Nat} {d:cH} {P:Prim}
abbrev Rq.as(x:Rq)(p:cg)(c s:Nat)(ses:Int):bY.S:=⟨x.id,x.kind,x.ep.jI,x.ep.node,x.ep.fX,x.ep.host,x.ep.jd,x.dest.jI,x.dest.node,x.dest.fX,x.dest.host,x.dest.jd,x.jA,x.num,x.iA,p,x.nj.length,c,x.eV,x.token,x.on,some ⟨s,0,none⟩,ses⟩
structure En (V:cH->Bool) (m h:aj) (s:Nat) (X:Ft) (I:sP) (σ:SS) (k:Nat):Prop where
 H:Pt h s X I σ
 G:eU.Good σ k
 hk:k<=30000
 u:Ln m X h
 U:Cb.mE V m
 mx:mD.Mx m
theorem En.on(E:En V m h s X I σ k)(f:Fr No h h'):En V m h' s X I σ k:=⟨E.H.on f,E.G,E.hk,E.u.on f,E.U,E.mx⟩
theorem En.T1(E:En V m h s X I σ k):mD.Mx h:=E.mx.on E.u.fr
theorem En.step{a:SS}{k':Nat}(E:En V m h s X I σ k)(H:Pt h' s j I a)(st:bG X h j h')(G:eU.Good a k')(hk:k'<=30000):En V m h' s j I a k':=⟨H,G,hk,E.u.step st,E.U,E.mx⟩
theorem En.nM(E:En V m h s X I σ k)(a:h.size<=b): ¬X.M b:=λH=>by have:=E.H.lt b (.inl H);omega
theorem KJ{S:Nat->Prop}{l:List (cg)}(f:Fr S h h')(N: ¬S b)(a: ∀p∈l,p.map (·.block)=some b):Kp h h' l:=f.SB λp i x e H=>N (by have:=a p i;rw[e]at this;exact(bj this)▸H)
structure iM (X:Ft) (h:aj) (bo id:Nat) (o:Ot) (j:Ft) (h':aj):Prop where
 fr:Fr (λy=>X.M y\/y=bo) h h'
 jr: ∀c,j.M c->X.M c\/h.size<=c
 kR: ∀c,j.D c->X.D c\/h.size<=c
 vk: ∀c,X.D c->j.D c
 at': ∃y,ar.fV h' bo y/\(o.e=0->∃p c,y=⟨id,0,o.num,o.vE,0,p,o.d.length,c⟩/\Row h' p (bc o.d)/\(o.d≠ []->∀z,aL p z->(h.size<=z\/X.D z)/\¬j.M z))
abbrev y0(id:Nat):ar.S:=⟨id,0,0,0,0,none,0,0⟩
theorem iM.of{H:aj}(st:bG X h j H)(f:Fr (λy=>y=bo) H h')(at': ∃y,ar.fV h' bo y/\(o.e=0->∃p c,y=⟨id,0,o.num,o.vE,0,p,o.d.length,c⟩/\Row h' p (bc o.d)/\(o.d≠ []->∀z,aL p z->(h.size<=z\/X.D z)/\¬j.M z))):iM X h bo id o j h':=
 ⟨st.fr.trans f (λ_ _ a=> .inl a) (λ_ _ e=> .inr e),st.jr,st.kR,st.vk,at'⟩
theorem iM.bad{e:Int}(H:ar.fV h bo (y0 id))(N: ¬X.M bo)(st:bG X h j h'){σ:SS}:iM X h bo id (bad σ e) j h':=
 iM.of st (Fr.refl _ _) ⟨_,st.fr.get H N,λ_=>⟨none,0,rfl,Row.nil,λe=>absurd rfl e⟩⟩
theorem nA{i:Nat}{y z:ar.S}{v:Value}(a:ar.fV h b y)(f:i<6)(l:y.arr.setIfInBounds i v=z.arr)(hk: ∀h',ar.fV h' b z->Fr (λy=>y=b) h h'->K h'):aO h (AA b i) v K:=
 bH a f λH d1 d2 d3=>hk H (by unfold ar.fV;rw[<-l];exact d1) (Fr.of_eq d2 λc e=>d3 c e)
theorem Pt.mi{t q:Nat}(H:Pt h s X I σ)(M:Mk h' I.k σ.e t q)(f:Fr (λy=>y=I.k) h h'): ∃j,Pt h' s j I { σ with tm:=t,sq:=q } /\bG X h j h':=by
 obtain⟨Z,⟨_,on⟩,r,z,go⟩:=H.use 5;obtain⟨j,a,st,_,_⟩:=go h' Z { σ with tm:=t,sq:=q } ⟨M,on⟩ (bG.tL (f.mono λy _ l=>(on y).1.2 l)) (λi e=>eU.Qf σ.e t q e);exact⟨j,a,st⟩
theorem Nq(h:oa σ=some n):σ.tm<n.1\/σ.tm=n.1/\σ.sq<n.2:=by
 unfold oa at h;split at h
 .cases h;left;assumption
 split at h
 .cases h
 .cases h;right;exact⟨rfl,Nat.lt_succ_self _⟩
theorem Hx{b:pC}(h:kJ V b=some d):Bn.ju b.p=true:=by
 unfold kJ at h;split at h
 .split at h
  .cases h
  .rename_i H;unfold Bn.qh at H;split at H
   .cases H
   .rename_i a;unfold Bn.mS at a;split at a
    .assumption
    .cases a
 .cases h
theorem KK{b:pC}(h:kJ V b=some d):b.p.eV<=1099511627776:=by
 have:=Hx h;unfold Bn.ju at this;simp only[aR,aY]at this;exact this.2
theorem I5{b:pC}{q:cg}{cl:Nat}{xs:List BB}(E:En V m h s X I σ k)(b':b.p.wf)(B:jz h D b.bl q b.bl.length cl xs)(hl:b.bl.length<=1000000)(hd: ∀L∈b.bl,L.data.length<=80000)(z:oa σ=some n)(hk: ∀h' j,Pt h' s j I (kg V σ ses b n).σ->bG X h j h'->R (.tuple #[.I (kg V σ ses b n).num,.I (kg V σ ses b n).vE,.I (kg V σ ses b n).e]) h'):
  Cl 151 #[(x.as p c s ses).agg,(b.s q cl).agg,(⟨σ.e,n.1,n.2⟩:iN).s.agg] h R:=by
 refine AT.walk (bY.db (x:=x.as p c s ses) λb1 h1 d' T f1=>ax.db (x:=b.s q cl) λb2 h2 e' w f2=>ah.db (x:=(⟨σ.e,n.1,n.2⟩:iN).s) λN h3 f' Y f3=> ?_);have F:=f1.tt (f2.tt f3);have l:=E.on F;have z1:=f1.1;have z2:=f2.1;have z3:=f3.1;unfold kg at hk;refine ax.fR (x:=b.s q cl) (f3.get w _root_.id) (Bn.I4 b' E.U l.u.fr l.T1 (B.on F) hl hd (λout r lo u p4 c4 o4 g4 f4=>⟨_,_,_,_,rfl,?_⟩) (λr u f4=>⟨_,_,_,_,rfl,?_⟩))
 case refine_2=>
  rw[fY];rw[r]at hk;exact hk u X (l.H.on f4) (bG.im (F.tt f4))
 rw[dj];rw[r]at hk;dsimp only at hk;have t:=l.on f4;have i:=(f2.tt (f3.tt f4)).get T _root_.id;have W:=(f3.tt f4).get w _root_.id;have y:=f4.get Y _root_.id;have z4:=f4.1;have g':=aC i;have i':=aC y;have n1: ¬X.M b1:=E.nM af;have n3: ¬X.M N:=E.nM af;refine⟨_,ak i,_,ak i,_,ak i,ay.2 ⟨_,ak t.H.cQ,_,ak W,Fc σ.now b.p.eV E.G.n (KK r) ⟨_,rfl,(Fr.refl (λ_=>False) _).kp,eU.vC (kY σ.now b.p.eV) rfl t.H E.G E.hk o4.jb rfl af λO G f S=>⟨_,_,rfl,KJ S.fr n1 bO,aG.of λc' v=> ?_⟩⟩⟩⟩;have st:=bG.no (F.tt f4) S;unfold zJ at hk;by_cases H:eU.xH σ ses out (kY σ.now b.p.eV)=0
 .rw[ag H]at hk;rw[ag (by rw[H];rfl)];have U:=S.fr.get i n1;have Z:=S.fr.get y n3;have a:(eU.nt σ ses out (kY σ.now b.p.eV)).e=σ.e/\(eU.nt σ ses out (kY σ.now b.p.eV)).tm=σ.tm/\(eU.nt σ ses out (kY σ.now b.p.eV)).sq=σ.sq:=by unfold eU.nt;rw[ag H];exact⟨rfl,rfl,rfl⟩
  have M:=Pt.mk' f;rw[a.1,a.2.1,a.2.2]at M;have hr:gL ⟨σ.e,n.1,n.2⟩=true:=by have:=zK E.G z;unfold gL;rw[E.G.e.1,au this.1,au this.2];rfl
  refine⟨_,ak U,ay.2 ⟨_,ak f.cQ,ah.fR (x:=(⟨σ.e,n.1,n.2⟩:iN).s) Z (Fe M ⟨σ.e,n.1,n.2⟩ rfl hr (Nq z) λQ C f8=>⟨_,rfl,?_,?_⟩)⟩⟩
  .have zk:=aC M;have:b1≠I.k:=λe=>by have:=aC (Pt.mk' E.H);omega
   exact KJ f8 this bO
  .subst v;obtain⟨J,A,a'⟩:=Pt.mi f (by rw[a.1];exact C) f8;exact H.symm▸hk Q J A (st.trans a')
 .rw[ae H]at hk;rw[ae (cy H)];subst v;have a:eU.nt σ ses out (kY σ.now b.p.eV)=σ:=by unfold eU.nt;rw[ae H]
  rw[a]at f;exact hk O G f st
theorem Dk(H:Pt h s X I σ)(hk: gU h R (.I (gg.jg σ.G x.ep ses))):Cl 104 #[(x.as p c s ses).agg] h R:=by
 refine zV.walk (bY.db (x:=x.as p c s ses) λb G O u f1=>aG.of λJ N=> ?_);have w:=H.on f1;have fin: ∀(g:aj)(q:Nat),gg.Rg.at g q ((gg.ja σ.G x.ep).getD .zero)->Fr No G g->J (Sa q 0) (gg.ja σ.G x.ep).isSome g:=by
  intro g q C f;subst N;dsimp only;unfold gg.jg at hk;cases z:gg.ja σ.G x.ep with
  |none=>rw[z]at hk;rw[ag (by rfl)];exact hk g (f1.tt f)
  |some r=>
   rw[z]at hk C;rw[ae bO];refine ay.2 ⟨_,ak C,_,ak (f.get u _root_.id),?_⟩;dsimp only at hk;by_cases a:r.own=ses
   .rw[ag a]at hk;rw[ae (by show¬(r.own !=ses)=true;simpa using a)];exact hk g (f1.tt f)
   .rw[ae a]at hk;rw[ag (by show(r.own !=ses)=true;simpa using a)];exact hk g (f1.tt f)
 obtain⟨Z,E,_⟩:=w.use 1;refine⟨_,ak u,ay.2 ⟨_,ak w.cQ,iB x.ep u rfl rfl rfl rfl rfl ⟨?_,?_,trivial⟩⟩⟩
 .exact gg.iJ E x.ep λL f3=>⟨_,_,_,_,_,_,_,_,rfl,f3.kp,bp.box λB M F v f4=>⟨f4.kp,bp.set v λt A i l=>fin t B A ((f3.tt f4).fresh (Fr.of_eq (S:=λy=>y=B) i l) (λy e=>bX f3.1))⟩⟩
 .refine bp.box λB M F v f4=>⟨f4.kp,gg.iJ (gg.Tb.on E f4) x.ep λL f3=>⟨_,_,_,_,_,_,_,_,rfl,f3.kp,bp.set (f3.get v _root_.id) λt A i l=>fin t B A ((f4.tt f3).fresh (Fr.of_eq (S:=λy=>y=B) i l) (λy e=>af))⟩⟩
theorem T4{b:rE}{B:Nat}(H:aH.fV h B (b.s p c))(r:Row h p (bc b.data))(cap:b.data.length<=c):jz h (λ_=>True) [b] (Sa B 0) 1 1 [⟨b,p,c⟩]:=
 ⟨rfl,rfl,.inr ⟨_,rfl,aH.zO (x:=b.s p c) H⟩,λ_ _ _=>trivial,bk _,λy a=>by rw[bK.1 a];exact⟨r,λ_ _ _=>trivial,cap⟩⟩
theorem QJ(n:Nat)(a:aB.fV h b P.s)(hk: ∀h',aB.fV h' b ({ P with fl:=n } :Prim).s->Fr (λy=>y=b) h h'->K h'):aO h (AA b 0) (.U (n:Int)) K:=
 bH a (by show 0<20;omega) λH d1 d2 d3=>hk H d1 (Fr.of_eq d2 λc e=>d3 c e)
theorem T5(e:Ev)(a:aB.fV h b P.s)(hk: ∀h',aB.fV h' b ({ P with rep:=e } :Prim).s->Fr (λy=>y=b) h h'->K h'):aw.dv h (AA b 7) e.s K:=
 (show dU (AA b 7) e.s.l 0 h K from lR (off:=7) (ws:=({ P with rep:=e } :Prim).s.l) a (by show 7+5<=20;omega) rfl rfl λH d1 d2 d3=>hk H d1 (Fr.of_eq d2 λc f=>d3 c f))
theorem O6(E:En V m h s X I σ k)(rx:Row h p (bc x.nj))(cap:x.nj.length<=c)(lp:x.nj.length<=1000)(w1:0<=x.ep.fX)(w2:0<=x.dest.fX)(q:ar.fV h bo (y0 id))(W: ¬(X.M bo\/X.D bo))(hk: ∀h' j,Pt h' s j I (qF V σ ses x).σ->iM X h bo id (qF V σ ses x) j h'->R (.I (qF V σ ses x).e) h'):
  Cl 101 #[(x.as p c s ses).agg,.P bo 0] h R:=by
 refine zW.walk (bY.db (x:=x.as p c s ses) λb h1 eb Q f1=>bY.fR (x:=x.as p c s ses) Q (Dk (E.H.on f1) λh2 f2=>⟨_,rfl,?_⟩));have F:=f1.tt f2;have E2:=E.on F;have J:=f2.get Q _root_.id;have nM: ¬X.M bo:=λe=>W (.inl e)
 unfold qF at hk;by_cases t:gg.jg σ.G x.ep ses=0
 case neg=>
  rw[ae t]at hk;rw[ag (cy t)];exact hk h2 X E2.H (iM.bad q nM (bG.im F))
 rw[ag t]at hk;rw[ae (cy t)];refine⟨_,ak J,iB x.ep J rfl rfl rfl rfl rfl (uk E2.H E.G x.ep (λn r G f3=>ah.ex _ (ah.ex _ ⟨_,rfl,?_⟩)) (λr G f3=>ah.ex _ (ah.ex _ ⟨_,rfl,?_⟩)))⟩
 case refine_2=>
  rw[r]at hk;refine ah.db λb1 h4 j' H f4=>ah.db λA h5 k' L f5=>ah.hM (x:=(⟨x.ep,0,0⟩:iN).s) (f5.get H _root_.id) λh6 d6 f6 _=>ah.hM (x:=iN.zero.s) (f6.get L (bX (aC H))) λf d7 f7 _=> ?_
  rw[fY];have z4:=f4.1;have l:Fr No G f:=((f4.tt f5).fresh f6 (λy e=>af)).fresh f7 (λy e=>af);exact hk f X (E2.H.on (f3.tt l)) (iM.bad q nM (bG.im (F.tt (f3.tt l))))
 rw[r]at hk;dsimp only at hk;refine ah.db λb1 h4 j' H f4=>ah.db λA h5 k' L f5=>ah.hM (x:=(⟨x.ep,n.1,n.2⟩:iN).s) (f5.get H _root_.id) λh6 d6 f6 _=>ah.hM (x:=(⟨σ.e,n.1,n.2⟩:iN).s) (f6.get L (bX (aC H))) λf d7 f7 _=> ?_
 rw[dj];have z1:=f1.1;have z2:=f2.1;have z3:=f3.1;have z4:=f4.1;have z5:=f5.1;have q':b1≠A:=by have:=aC H;omega
 have N:Fr No G f:=((f4.tt f5).fresh f6 (λy e=>af)).fresh f7 (λy e=>af);have M:=f3.tt N;have l:=F.tt M;have i:=M.get J _root_.id;have d67:=f7.get d6 q';have z':=N.1;refine iB x.dest i rfl rfl rfl rfl rfl (ah.fR (x:=(⟨x.ep,n.1,n.2⟩:iN).s) d67 ⟨_,ak i,aB.gh (x:=(⟨0,0,x.dest,.zero,⟨x.ep,n.1,n.2⟩,x.eV⟩:Prim).s) λB O t' U f9=>⟨_,ak (f9.get i _root_.id),aG.of λd' hJ=> ?_⟩⟩);have S:=f9.get i _root_.id;have d79:=f9.get d7 _root_.id;have z9:=f9.1;have Y:b≠B:=by have:=aC i;omega
 have r':A≠B:=by have:=aC d7;omega
 have fin: ∀g,aB.fV g B (kL x n).p.s->Fr (λy=>y=B) O g->d' g:=by
  intro g hp C;subst hJ;have a':Fr No f g:=f9.fresh C (λy e=>af);have T:=C.get S Y;refine bY.fR (x:=x.as p c s ses) T (aB.fR (x:=(kL x n).p.s) hp ⟨_,_,_,ak T,aH.db (x:=(⟨1,1,0,0,x.nj⟩:rE).s p c) λb4 v' u' p' f11=>ah.fR (x:=(⟨σ.e,n.1,n.2⟩:iN).s) (f11.get (C.get d79 r') _root_.id) ?_⟩);have v:=l.tt (a'.tt f11);have Z:=E.on v;refine I5 (b:=kL x n) (x:=x) (p:=p) (c:=c) Z ⟨w2,?_,w1⟩ (T4 (b:=⟨1,1,0,0,x.nj⟩) p' (rx.frame v (λ_ _=>_root_.id)) cap) (by show 1<=_;omega) (λb' n'=>by rw[bK.1 n'];show x.nj.length<=_;omega) r λw' w c' s'=>⟨_,_,_,rfl,?_⟩
  .show 0<=(if x.on=true then x.ep else Ev.zero).fX;split
   .exact w1
   .exact dL 0
  .have st:=bG.no v s';have o':=st.fr.get q nM;refine nA (z:=⟨id,0,(kg V σ ses (kL x n) n).num,0,0,none,0,0⟩) o' dH rfl λx' e' f13=>nA (z:=⟨id,0,(kg V σ ses (kL x n) n).num,(kg V σ ses (kL x n) n).vE,0,none,0,0⟩) e' dH rfl λl' f' f14=> ?_
   have no: ¬(w.M bo\/w.D bo):=λhm=>by
    have zo:=aC q;rcases hm with a|a
    .rcases st.jr bo a with a|a
     .exact nM a
     .omega
    .rcases st.kR bo a with a|a
     .exact W (.inr a)
     .omega
   refine hk l' w (c'.frame (f13.tt f14) (λy hy e=>no (e▸hy))) (iM.of st (f13.tt f14) ⟨_,f',λhe=>⟨none,0,?_,?_,?_⟩⟩)
   .have:(kg V σ ses (kL x n) n).d= []:=by
     unfold kg;split
     .rfl
     .unfold zJ;split<;>rfl
    rw[this];rfl
   .have:(kg V σ ses (kL x n) n).d= []:=by
     unfold kg;split
     .rfl
     .unfold zJ;split<;>rfl
    rw[this];exact Row.nil
   .intro _ z hz;obtain⟨a,e,_⟩:=hz;cases e
 cases u:x.on with
 |false=>
  rw[ae (by show¬x.on=true;rw[u];decide)];refine fin O ?_ (Fr.refl _ _);have:(kL x n).p=⟨0,0,x.dest,.zero,⟨x.ep,n.1,n.2⟩,x.eV⟩:=by unfold kL;rw[u];rfl
  rw[this];exact U
 |true=>
  rw[ag (show x.on=true from u)];refine iB x.ep S rfl rfl rfl rfl rfl (QJ 131072 U λy' g' f15=>⟨O0 f15 Y bO,T5 x.ep g' λm' i' f16=>fin m' ?_ (f15.tt f16)⟩);have:(kL x n).p=⟨131072,0,x.dest,x.ep,⟨x.ep,n.1,n.2⟩,x.eV⟩:=by unfold kL;rw[u];rfl
  rw[this];exact i'

end Ask
end
section
namespace Bn
open Cb
open iT (Ev cN kj)
variable {V:cH→Bool} {h H h' g g0:aj} {R:fj} {D':Nat→Prop}
variable {b cl bb l:Nat} {q:cg} {p:Prim} {bs:List rE} {xs:List BB}
theorem tK:nJ Tryz.prog 127 201 5 56 (.agg #[.U 0,.U 0,.U 0,.I 0,.Z]):=⟨cU,cU,rfl⟩
theorem uK:Tryz.prog.underlying 127=some (.slice 201):=cU
theorem Nr{x:pC}{K:aj->Prop}(d:ax.fV h b (x.s q cl))(hk: ∀h',ax.fV h' b (pC.s ⟨p,x.bl⟩ q cl)->Fr (λy=>y=b) h h'->K h'):aB.dv h (AA b 0) p.s K:=
 (show dU (AA b 0) p.s.l 0 h K from lR (off:=0) (ws:=(pC.s ⟨p,x.bl⟩ q cl).l) d (by show 0+20<=21;omega) rfl rfl λa d1 d2 d3=>hk a d1 (Fr.of_eq d2 λc e=>d3 c e))
theorem Aj{y x:ax.S}{K:ax.S->aj->Prop}(a:ax.fV h b y)(hk: ∀h',Fr (λy=>y=b) h h'->K x h'):
  ax.dv h (AA b 0) x λg=>ax.cO g (AA b 0) λr=>K r g:=
 ax.hM (x:=x) a λg d1 f _=>ax.fR d1 (hk g f)
structure Bc (g0 g:aj) (bb:Nat) (p:Prim) (bs:List rE) (xs:List BB) (q:cg) (cl:Nat):Prop where
 cQ:ax.fV g bb (pC.s ⟨p,bs⟩ q cl)
 own:fi g q xs.length cl 5 (xs.flatMap Ah)
 ge: ∀y,aL q y->g0.size<=y/\y≠bb
 eq:xs.map BB.b=bs
 ok: ∀x∈xs,BV.ok g (λy=>(g0.size<=y/\y≠bb)/\¬aL q y) ⟨x.p,x.c,x.b.data⟩
 fr:Fr (λy=>y=bb) g0 g
theorem Bc.on(L:Bc g0 g bb p bs xs q cl)(f:Fr No g h'):Bc g0 h' bb p bs xs q cl:=
 ⟨f.get L.cQ id,L.own.frame f cu,L.ge,L.eq,λx a=>(L.ok x a).frame f cu,L.fr.on f⟩
theorem Bc.len(L:Bc g0 g bb p bs xs q cl):xs.length=bs.length:=by rw[<-L.eq,aF]
theorem Bc.to(L:Bc g0 g bb p bs xs q cl):jz g (λy=>g0.size<=y/\y≠bb) bs q bs.length cl xs:=
 ⟨L.eq,rfl,L.own.jb,λ_=>L.ge,gF L.own.le L.len,λx a=>(L.ok x a).mono λy c=>c.1⟩
theorem T6{x:BB}{Φ:aj->Prop}(L:Bc g0 g bb p bs xs q cl)(A:l=xs.length)(ll:xs.length<=1000000)(F:BV.ok g (λy=>(g0.size<=y/\y≠bb)/\¬aL q y) ⟨x.p,x.c,x.b.data⟩)(hk: ∀G X Q C,Bc g0 G bb p (bs++ [x.b]) X Q C->g.size<=G.size->Φ G):
  aQ g (.cells x.s.arr 201) λo s=>aU Tryz.prog (Builtin.append_ #[127,127] 127 #[.slice q l cl,.slice (Sa o 0) 1 1]) s λI u=>
   ∃m T t,I=.slice m T t/\aO u (AA bb 20) (.slice m T t) λv=>Φ v:=by
 subst A;refine aH.db λJ M K k f7=> ?_
 have Z:=f7.1;have W:=L.fr.1;have S:=aC k;have U:=aC L.cQ;have P: ∀y,aL q y->y<g.size:=λy d=>L.own.dV d
 refine dY tK uK (L.own.frame f7 cu) (ds:=Ah x) (.inr ⟨_,rfl,aH.zO (x:=x.s) k⟩) rfl (Nl x) af af λQ C r O _ f11 j=>⟨_,_,_,rfl,?_⟩
 have B:=f11.get (f7.get L.cQ id) (λd=>(L.ge _ d).2 rfl);refine bH B (by show 20<21;omega) λf d1 d2 d3=> ?_
 have f12:Fr (λy=>y=bb) r f:=Fr.of_eq d2 (λc z=>d3 c z);have n: ∀y,aL Q y->g0.size<=y/\y≠bb:=λy d=>by
  rcases j y d with a|a
  .exact L.ge y a
  .omega
 have E:xs.flatMap Ah++Ah x=(xs++ [x]).flatMap Ah:=by rw[cW,List.flatMap_singleton]
 have el:(bs++ [x.b]).length=xs.length+1:=by rw[av,L.len];rfl
 refine hk f (xs++ [x]) Q C ⟨?_,?_,n,?_,?_,?_⟩ ?_
 .unfold ax.fV pC.s;rw[el];exact d1
 .rw[av,<-E];exact O.frame f12 (λy d e=>bX (n y d))
 .rw[aW,L.eq];rfl
 .intro y d;have key: ∀w:BB,BV.ok g (λy=>(g0.size<=y/\y≠bb)/\¬aL q y) ⟨w.p,w.c,w.b.data⟩->BV.ok f (λy=>(g0.size<=y/\y≠bb)/\¬aL Q y) ⟨w.p,w.c,w.b.data⟩:=λw D=>by
   have o1:=((EI D).frame f7 cu).frame f11 (λy d i=>d.1.2 i);have o2:=o1.mono (D':=λy=>(g0.size<=y/\y≠bb)/\¬aL Q y) (λy d=>⟨d.1.1,λi=>by
    rcases j y i with a|a
    .exact d.1.2 a
    .have:=d.2;omega⟩)
   exact o2.frame f12 (λy d e=>af)
  rcases bN.1 d with a|a
  .exact key y (L.ok y a)
  .rw[bK.1 a];exact key x F
 .exact((L.fr.on f7).trans f11 (S'':=λy=>y=bb) cu (λx N d=>bX (L.ge x d))).trans f12 cu cu
 .have:=f11.1;omega
theorem Ns{t:Tr}{b:rE}(h:yP V t=.ok b):b.data.length<=200:=by
 unfold yP at h;split at h
 .cases h
 .split at h
  .split at h
   .rename_i a;split at h
    .cases h;unfold rF at a;split at a
     .rename_i c;exact(wy c).2.2.1
     .cases a
    .cases h
   .cases h
  .cases h
theorem Nt{b:pC}(h:(kJ V b).isSome=true):b.bl.length<=8/\b.bl≠ []:=by
 unfold kJ at h;split at h
 .rename_i a;unfold AD at a;split at a
  .cases a
  .rename_i c;simp only[aR,aY]at a;exact⟨a.1.1,λe=>by rw[e]at c;cases c⟩
 .cases h
def pC.zs:ax.S:=.z
theorem I6{bs:cH}{p:cg}{c:Nat}(U:mE V H)(u:Fr No H h)(mx:mD.Mx h)(row:Row h p (bc bs))(hl:l=bs.length)(cap:bs.length<=c)(k1: ∀b,sH V bs=.ok b->b.p.wf->(∀m∈b.bl,m.data.length<=200)->b.bl.length<=8->∀h' q cl xs,jz h' (λy=>h.size<=y) b.bl q b.bl.length cl xs->Fr No h h'->R (.tuple #[(b.s q cl).agg,.I 0]) h')(k2: ∀e,sH V bs=.error e->e≠0->gU h R (.tuple #[ax.S.z.agg,.I e])):Cl 158 #[.slice p l c] h R:=by
 subst hl;have j:sH V bs=sH V bs:=rfl;conv at j=>rhs;unfold sH
 refine Fo.walk (ax.db λb K eb N f1=> ?_);have zb:=aC N;have z1:=f1.1;have no: ∀g e,Fr No K g->sH V bs=.error e->e≠0->ax.dv g (AA b 0) .z λG=>ax.cO G (AA b 0) λr=>R (.tuple #[r.agg,.I e]) G:=λg e fg d k=>
  Aj (fg.get N id) λG f=>k2 e d k G ((f1.tt fg).fresh f (λy e=>af))
 by_cases c0:bs.length<=1200
 case neg=>rw[ag (by simp only[aY];omega)];exact no K 2 (Fr.refl _ _) (by rw[j,ae c0]) dH
 rw[dj];rw[ag c0]at j;refine zM (U.mono (u.tt f1)) (row.frame f1 cu) rfl cap af (λh3 t x nx w tx f3=>aa.ex x.s ⟨_,_,rfl,aa.gh (x:=x.s) λb1 o k' v f5=> ?_⟩) (λh3 e d f3=>aa.ex zv.s ⟨_,_,rfl,aa.gh (x:=zv.s) λb1 o k' v f5=> ?_⟩)
 case refine_2=>
  rw[ag (cy (qW d))];exact no o e (f3.tt f5) (by rw[j,d]) (qW d)
 rw[w]at j;dsimp only at j;obtain⟨rt,C'⟩:=yE w;rw[dj];have s:=f1.tt (f3.tt f5);obtain⟨xk,xn,xb,xl,xv,ys,L,I⟩:=gE.kn (tx.u.on f5);have rl:=nz (t:=t);have ln:=I.len;refine aG.of λf' hJ=> ?_
 have bad: ¬(nx=bs.length/\t.k=4/\2<=t.l.length/\t.l.length<=9)->f' true o:=λk=>by
  subst hJ;dsimp only;rw[ag rfl];exact no o 3 (f3.tt f5) (by rw[j,ae k]) dH
 have sl:x.s.pq=t.l.length:=xl;by_cases c1:nx=bs.length
 case neg=>rw[ag (by simp only[dX,ft];omega)];exact bad (λe=>c1 e.1)
 rw[ae (by simp only[dX,ft];omega)];refine⟨_,ak v,?_⟩;rw[show x.s.f0=t.k from xk];by_cases C:t.k=4
 case neg=>rw[ag (cy C)];exact bad (λe=>C e.2.1)
 rw[ae (cy C)];refine⟨_,_,_,ak v,?_⟩;by_cases Z:2<=t.l.length
 case neg=>rw[ag (by simp only[aY];omega)];exact bad (λe=>Z e.2.2.1)
 rw[dj];refine⟨_,_,_,ak v,?_⟩;by_cases c4:t.l.length<=9
 case neg=>rw[show decide ((x.s.pq:Int)>9)=true by simp only[aY];omega];exact bad (λe=>c4 e.2.2.2)
 rw[show decide ((x.s.pq:Int)>9)=false by simp only[eL];omega];clear bad;rw[ag ⟨c1,C,Z,c4⟩]at j;subst hJ;try dsimp only
 rw[dj];have z5:=s.1;have F':=(f3.tt f5).1;refine ax.db λb2 h9 y' P f9=> ?_
 have z9:=f9.1;have G':=aC P;obtain⟨a0,y0,i',u',w',_⟩:=elem (L.frame f9 cu) (I.on f9) (i:=0) af;have r0:=jK (ts:=t.l) (i:=0) af;have Y:=s.tt f9;refine⟨_,_,_,ak (f9.get v id),af,cb.2 ⟨a0,i',aa.mA (x:=y0.s) u' ?_⟩⟩;refine Nk U (u.tt Y) (mx.on Y) w' af (λpr hp wp o' f10=>aB.ex pr.s ⟨_,rfl,Nr (x:=⟨Prim.zero, []⟩) (p:=pr) (q:=none) (cl:=0) (f10.get P id) λM d11 f11=> ?_⟩) (λe d k o' f10=>aB.ex Prim.zero.s ⟨_,rfl,Nr (x:=⟨Prim.zero, []⟩) (p:=Prim.zero) (q:=none) (cl:=0) (f10.get P id) λM d11 f11=> ?_⟩)
 case refine_2=>
  rw[ag (cy k)];exact no M e ((f3.tt (f5.tt (f9.tt f10))).fresh f11 (λy e=>af)) (by rw[j,d]) k
 rw[dj];rw[hp]at j;dsimp only at j;have e':Fr No o M:=(f9.tt f10).fresh f11 (λy e=>af);refine⟨_,_,_,ak (e'.get v id),af,?_⟩;have e1:Int.toNat 1=1:=rfl;rw[e1,sl];refine⟨λT g=> ∃(i:Nat)(out:List rE)(xs:List BB)(q:cg)(cl:Nat),T=(i:Int)/\i+1<=t.l.length/\out.length=i/\Bc o g b2 pr out xs q cl/\(∀m∈out,m.data.length<=200)/\sH V bs=(match Ec V (t.l.drop (i+1)) out with| .error e=> .error e| .ok l=>if(kJ V ⟨pr,l⟩).isSome=true then .ok ⟨pr,l⟩else .error 3),λT _=>t.l.length - 1 - T.toNat,⟨0, [], [],none,0,rfl,af,rfl,⟨d11,.nil rfl rfl rfl rfl,(λy ⟨a,e,_⟩=>by cases e),rfl,(λx S=>by cases S),(f9.tt f10).mono (λ_ _=>False.elim)|>.tt f11⟩,(λx S=>by cases S),j⟩,?_⟩;rintro _ g ⟨i,out,xs,q,cl,rfl,hi,ho,B,hd,d⟩;have F:Fr No o g:=(Fr.refl _ _).fresh B.fr (λy e=>af);have z:Fr No K g:=f3.tt (f5.tt F);by_cases D:i+1<t.l.length
 case neg=>
  rw[ae (λe=>D (bX (aP e)))];rw[dZ af]at d;have d:sH V bs=if(kJ V ⟨pr,out⟩).isSome=true then .ok ⟨pr,out⟩else .error 3:=d
  refine ax.fR B.cQ (B2 (b:=⟨pr,out⟩) wp U (u.tt (s.tt F)) (mx.on (s.tt F)) B.to (by show out.length<=_;omega) (λm O=>bX (hd m O)) λr' f23=>⟨_,rfl,?_⟩);cases Q:(kJ V ⟨pr,out⟩).isSome with
  |false=>
   rw[fY];exact no r' 3 (z.tt f23) (by rw[d,Q];rfl) dH
  |true=>
   rw[Q,ag rfl]at d;rw[dj];refine ax.fR (f23.get B.cQ id) (Aj ((z.tt f23).get N id) λG f=>k1 ⟨pr,out⟩ d wp hd (Nt Q).1 G q cl xs ?_ ((f1.tt (z.tt f23)).fresh f (λy e=>af)));exact((B.to.on f23).frame f (λy E e=>af)).mono λy E=>af
 rw[fY];have t':t.l.drop (i+1)=at_ t.l (i+1)::t.l.drop (i+1+1):=by
  rw[cR D];unfold at_;rw[aZ,ai D];rfl
 rw[t']at d;have hB: ∀T l',Ec V (T::l') out=(match yP V T with| .error e=> .error e| .ok b=>Ec V l' (out++ [b])):=λ_ _=>rfl
 rw[hB]at d;have Lg:=L.frame F cu;have cc:x.ll<=x.cl:=L.cap;have L2:mz g (λ_=>True) (cK x.s.vt x.s.tf 1 4) (t.l.length - 1) (x.s.tf - 1) (ys.drop 1):=by
  have w:=Lg.row.sub (cap:=x.cl) (l:=1) (u:=t.l.length) (sz:=4) af af;rw[lQ hT 4 gu,nL hT 4 gu,bB af]at w;exact⟨by rw[bQ];omega,w,λ_ _ _=>trivial,by show _<=x.cl - 1;omega⟩
 have T2:AS g (t.l.drop 1) (ys.drop 1):=(I.on F).drop 1;obtain⟨a1,y1,j',v',d',_⟩:=elem L2 T2 (i:=i) (by rw[bQ];omega);have ei:at_ (t.l.drop 1) i=at_ t.l (i+1):=by unfold at_;rw[aZ,aZ,ff,Nat.add_comm]
 rw[ei]at d';have r1:=jK (ts:=t.l) (i:=i+1) D;refine⟨af,cb.2 ⟨a1,j',aa.mA (x:=y1.s) (by rw[aD];exact v') (aa.gh (x:=y1.s) λb3 A' z' s' f15=>aa.fR s' ?_)⟩⟩;have zg:=F.1;refine O5 U (u.tt (s.tt (F.tt f15))) (mx.on (s.tt (F.tt f15))) (d'.on f15) af (λA c' p' W J ov f16=>aH.ex (A.s W J) ⟨_,rfl,aH.gh (x:=A.s W J) λb4 a' m' b' f18=> ?_⟩) (λe hE k p' f16=>aH.ex .z ⟨_,rfl,aH.gh (x:=.z) λb4 a' m' b' f18=> ?_⟩)
 case refine_2=>
  rw[ag (cy k)];exact no a' e (z.tt (f15.tt (f16.tt f18))) (by rw[d,hE]) k
 rw[dj];rw[c']at d;dsimp only at d;have n':=f15.tt (f16.tt f18);have X:=B.on n';have E':=f15.1;have nq: ∀y,aL q y->y<g.size:=λy E=>B.own.dV E
 have H':=aC B.cQ;refine⟨_,_,_,ak X.cQ,aH.fR b' (T6 (x:=⟨A,W,J⟩) X (by show out.length=_;exact B.len.symm) (bX B.len) ((ov.frame f18 cu).mono λy E=>⟨af,λhq=>bX (nq y hq)⟩) λG x' q' g' B' I'=> ?_)⟩;rw[bA (n:=(i:Int)+1) af af];refine⟨⟨i+1,out++ [A],x',q',g',af,af,by rw[av,ho];rfl,B',λm O=> ?_,d⟩,by show t.l.length - 1 - Int.toNat ((i:Int)+1)<t.l.length - 1 - Int.toNat (i:Int);omega⟩;rcases bN.1 O with a|a
 .exact hd m a
 .rw[bK.1 a];exact Ns c'

end Bn
end
section
namespace Ask
open iT (Ev cN)
open eU (SS Good Pt sP Mk)
open Bn (iN gL iB zT C7 pC Prim rE jz BB kJ sH xh)
variable {V:cH→Bool} {h h' j g:aj} {R:fj} {s k bo id c:Nat} {X d:Ft} {I:sP} {σ:SS} {p:cg} {ses:Int} {x:Rq} {D:Nat→Prop}
theorem bG.box{b:Nat}(st:bG X h d h')(f:Fr (λy=>y=b) h' g)(H:h.size<=b):bG X h d g:=⟨st.fr.trans f (λ_ _ a=>a) (λc i e=>af),st.jr,st.kR,st.vk⟩
def Nu(σ:SS)(X:Ft)(I:sP)(s:Nat)(ses:Int)(dl:Nat)(x:Ev)(g:aj)(S:aK.S)(e:Int)(h':aj):Prop:=
 ∃d a,Pt h' s d I a/\bG X g d h'/\((¬fU.sR ses dl/\e=1/\a=σ)\/(fU.sR ses dl/\fU.kX σ.C.L x=none/\e=4/\a=σ)\/
  (fU.sR ses dl/\∃z,fU.kX σ.C.L x=some z/\e=0/\a= { σ with C:=fU.qC σ.C z ses dl } /\∃p c,S.f0=(z.num:Int)/\S.Dt=p/\S.Du=z.d.length/\S.Dv=c/\Row h' p (bc z.d)/\z.d.length<=c/\∀y,aL p y->g.size<=y/\¬d.M y))
theorem Am(H:Pt g s X I σ)(G:eU.Good σ k)(hk:k<=30000)(x:Ev)(dl:Nat){K:aK.S->Int->aj->Prop}(f: ∀S e h',Nu σ X I s ses dl x g S e h'->K S e h'):
  Cl 156 #[pt I.c,x.s.agg,.I ses,.U (dl:Int)] g λv h'=>aK.EX λS=> ∃e,v=.tuple #[S.agg,.I e]/\K S e h':=by
 obtain⟨Z,m,J,F,go⟩:=H.use 2;have B:=G.small H.ord af;refine fU.JU m B G.c.ok.bd x ses dl rfl (λa b f1=> ?_) (λa w b f1=> ?_) (λa z m b r P c1 n s1 r1 t n1=> ?_)
 .exact aK.ex .z ⟨_,rfl,f _ _ _ ⟨X,σ,H.on f1,bG.im f1,.inl ⟨a,rfl,rfl⟩⟩⟩
 .exact aK.ex .z ⟨_,rfl,f _ _ _ ⟨X,σ,H.on f1,bG.im f1,.inr (.inl ⟨a,w,rfl,rfl⟩)⟩⟩
 .obtain⟨q,o,st1,E,N⟩:=go b r { σ with C:=fU.qC σ.C z ses dl } n s1 (λi u=>eU.vU _ u);exact aK.ex ⟨(z.num:Int),z.e.jI,z.e.node,z.e.fX,z.e.host,z.e.jd,P,z.d.length,c1,(z.bV:Int),ses,(dl:Int)⟩ ⟨_,rfl,f _ _ _ ⟨q,_,o,st1,.inr (.inr ⟨a,z,m,rfl,rfl,P,c1,rfl,rfl,rfl,rfl,r1,t,λy l=>⟨(n1 y l).1,λA=>(n1 y l).2 (N y (n1 y l).1 (.inl A))⟩⟩)⟩⟩
theorem O7(E:En V j h s X I σ k)(ht:0<=x.iA/\x.iA<=1000000)(o:ar.fV h bo (y0 id))(nb: ¬(X.M bo\/X.D bo))(hk: ∀h' d,Pt h' s d I (w5 V σ ses x).σ->iM X h bo id (w5 V σ ses x) d h'->R (.I (w5 V σ ses x).e) h'):
  Cl 105 #[(x.as p c s ses).agg,.P bo 0] h R:=by
 refine zX.walk (bY.db (x:=x.as p c s ses) λb h1 eb j' f1=>bY.fR (x:=x.as p c s ses) j' (Dk (E.H.on f1) λZ f2=>⟨_,rfl,?_⟩));have O:=f1.tt f2;have E2:=E.on O;have r:=f2.get j' _root_.id;have nM: ¬X.M bo:=λe=>nb (.inl e)
 have zo:=aC o;have z1:=f1.1;have z2:=f2.1;unfold w5 at hk;by_cases N:gg.jg σ.G x.ep ses=0
 case neg=>
  rw[ae N]at hk;rw[ag (cy N)];exact hk Z X E2.H (iM.bad o nM (bG.im O))
 rw[ag N]at hk;rw[ae (cy N)];refine aG.of λo' hJ=> ?_
 have fin: ∀(g h' G:aj)(S:aK.S)(e:Int)(l:Nat),Nu σ X I s ses (PF σ x) x.ep g S e h'->Fr No Z g->h.size<=l->(l<g.size\/h'.size<=l)->aK.fV G l S->Fr (λy=>y=l) h' G->o' (Sa l 0) e G:=by
  intro g h' G S e l L fg z' K' hS f;subst hJ;dsimp only;obtain⟨d,P',H',d',c⟩:=L;have zg:=fg.1;have qc:=bG.no (O.tt fg) d';have st:=bG.box qc f z';have C': ∀y,d.M y\/d.D y->y≠l:=λy H e=>by
   have:=H'.lt y H;rcases H with a|a
   .rcases d'.jr y a with a|a
    .have:=E.H.lt y (.inl a);omega
    .omega
   .rcases d'.kR y a with a|a
    .have:=E.H.lt y (.inr a);omega
    .omega
  have P:=H'.frame f (λy H e=>C' y H e);rcases c with⟨w,rfl,rfl⟩|⟨w,hn,rfl,rfl⟩|⟨w,z,hz,rfl,rfl,p1,c1,e0,e1,e2,e3,r1,cap,n1⟩
  .rw[ae w]at hk;rw[fY];exact hk G d P (iM.bad o nM st)
  .rw[ag w,hn]at hk;rw[fY];exact hk G d P (iM.bad o nM st)
  rw[ag w,hz]at hk;dsimp only at hk;rw[dj];have rg:Row G p1 (bc z.d):=by
   by_cases hd:z.d= []
   .rw[hd];exact Row.nil
   .refine r1.frame f (λa J A=> ?_);have h3:=n1 a.block ⟨a,J,rfl⟩;have h4:=iI r1 (by simpa[bc]using hd) ⟨a,J,rfl⟩;have A:a.block=l:=A;omega
  have ug:=(E.u.step st).fr;have ac: ∀{g2:aj}{i:Nat}{v:Value},Fr No G g2->S.arr[i]? =some v->aX g2 (AA l i)=some v:=λf2 hv=>cE (f2.get hS _root_.id) hv
  have J':=aC hS;have A':=st.fr.get o nM;have bne:bo≠l:=af
  have rest: ∀(M:aj)(m:pC)(q:cg)(cl:Nat)(xs:List BB)(D:Nat->Prop),jz M D m.bl q m.bl.length cl xs->m.bl.length<=1000000->(∀y∈m.bl,y.data.length<=80000)->(xh m).length=Kc V z.d->Fr No G M->
   aQ M (.cells ax.S.z.arr 129) λg' u'=>
   ax.dv u' (AA g' 0) (m.s q cl) λn=>
   aM (some ((AA l 0):Addr)) λf'=>
   ∃t52,aX n f'=some (.I t52)/\
   ax.cO n (AA g' 0) λt53=>
   aM (some ((AA l 0):Addr)) λC=>
   ∃n' m' l',aX n (C.add 6)=some (.slice n' m' l')/\
   Cl 159 #[t53.agg] n λG' a'=>
   ∃F' k' E',G'=.slice F' k' E'/\
   Kp n a' [(some (C.add 6)),(some f')]/\
   aO a' (AA bo 2) (.I t52) λb'=>
   Kp a' b' [(some (C.add 6))]/\
   aO b' (AA bo 3) (.I ((k':Nat):Int)) λi'=>
   Kp b' i' [(some (C.add 6))]/\
   aO i' (AA bo 5) (.slice n' m' l') λt'=>
   R (.I 0) t':=by
   intro M m q cl xs D B hl hd hp f5;refine ax.gh (x:=m.s q cl) λb6 g6 M' y' f6=>ay.2 ⟨_,ac (i:=0) (f5.tt f6) rfl,ax.fR (x:=m.s q cl) y' (ay.2 ⟨_,_,_,ac (i:=6) (f5.tt f6) rfl,Bn.Hw (B.on f6) hl hd λg7 p7 c7 o7 n7 f7=>⟨_,_,_,rfl,f7.kp,?_⟩⟩)⟩
   have F:=f5.tt (f6.tt f7);rw[hp,e0,e1,e2,e3];refine nA (z:=⟨id,0,(z.num:Int),0,0,none,0,0⟩) (F.get A' _root_.id) dH rfl λg8 d8 f8=>⟨O0 f8 bne.symm (by simp;rfl),nA (z:=⟨id,0,(z.num:Int),(Kc V z.d:Int),0,none,0,0⟩) d8 dH rfl λg9 d9 f9=>⟨O0 f9 bne.symm (by simp;rfl),nA (z:=⟨id,0,(z.num:Int),(Kc V z.d:Int),0,p1,z.d.length,c1⟩) d9 dH rfl λq' d10 f10=> ?_⟩⟩
   have T:=f8.tt (f9.tt f10);have D': ∀y,d.M y\/d.D y->y≠bo:=λy H e=>by
    rcases H with a|a
    .rcases qc.jr y a with a|a
     .exact nM (e▸a)
     .omega
    .rcases qc.kR y a with a|a
     .exact nb (.inr (e▸a))
     .omega
   refine hk q' d ((P.on F).frame T (λy H e=>D' y H e)) (iM.of (st.on F) T ⟨_,d10,λ_=>⟨p1,c1,rfl,?_,λ_ y H=>⟨.inl (bX ((n1 y H).1)),(n1 y H).2⟩⟩⟩);exact(rg.frame F (λ_ _=>_root_.id)).frame T (λa J A=>by have h3:=(n1 a.block ⟨a,J,rfl⟩).1;have A:a.block=bo:=A;omega)
  refine ay.2 ⟨_,_,_,ac (i:=6) (Fr.refl _ _) rfl,?_⟩;rw[e1,e2,e3];refine Bn.I6 E.U ug (E.mx.on ug) rg rfl cap (λm v' w' B' O' h5 q cl xs B f5=>ax.ex (m.s q cl) ⟨_,rfl,?_⟩) (λe he hn h5 f5=>ax.ex .z ⟨_,rfl,?_⟩)
  .exact rest h5 m q cl xs _ B af (λy H=>bX (B' y H)) (by unfold Kc;rw[v']) f5
  .exact rest h5 ⟨.zero, []⟩ none 0 [] (λ_=>True) ⟨rfl,rfl,Row.nil,λe=>absurd rfl e,bk _,λy H=>by cases H⟩ (by show 0<=_;omega) (λy H=>by cases H) (by unfold Kc;rw[he];rfl) f5
 have c': ¬X.M b:=E.nM af;have eT:IntKind.wrap .u64 x.iA=(x.iA.toNat:Int):=by rw[wrap_u64 af af];omega
 have un: ∀{g:aj}{K:Int->aj->Prop},K (PF σ x:Int) g->Cl 157 #[.U (σ.now:Int),.U (IntKind.wrap .u64 x.iA)] g λv G=> ∃t,v=.U t/\K t G:=λhK=>by
  rw[eT];exact Fc σ.now x.iA.toNat E.G.n af ⟨_,rfl,hK⟩
 refine⟨_,ak r,ay.2 ⟨_,ak E2.H.cQ,iB x.ep r rfl rfl rfl rfl rfl ⟨_,ak r,_,ak r,ay.2 ⟨_,ak E2.H.cQ,_,ak r,⟨?_,?_,trivial⟩⟩⟩⟩⟩
 .refine un ⟨(Fr.refl (λ_=>False) _).kp,?_,?_,trivial⟩
  .exact Am E2.H E.G E.hk x.ep (PF σ x) λS e r' L=>⟨(by obtain⟨_,_,_,st,_⟩:=_root_.id L;exact KJ st.fr c' bO),aK.db λb2 N' L' x' f13=>⟨f13.kp,aK.hM (x:=S) x' λs' d14 f14 _=>fin Z r' s' S e b2 L (Fr.refl _ _) (by obtain⟨_,_,_,st,_⟩:=_root_.id L;have:=st.fr.1;omega) (.inr af) d14 (Fr.no f13 f14)⟩⟩
  .refine aK.db λQ U p' u f15=>⟨f15.kp,Am (E2.H.on f15) E.G E.hk x.ep (PF σ x) λS e W L=> ?_⟩
   have I':=f15.1;have e':=aC u;exact⟨(by obtain⟨_,_,_,st,_⟩:=_root_.id L;exact KJ st.fr c' bO),aK.hM (x:=S) (by obtain⟨_,_,_,st,_⟩:=_root_.id L;exact st.fr.get u (E.nM af)) λY d17 f17 _=>fin U W Y S e Q L f15 af (.inl e') d17 f17⟩
 .refine aK.db λQ U p' u f15=>⟨f15.kp,un ⟨(Fr.refl (λ_=>False) _).kp,Am (E2.H.on f15) E.G E.hk x.ep (PF σ x) λS e W L=> ?_⟩⟩
  have I':=f15.1;have e':=aC u;exact⟨(by obtain⟨_,_,_,st,_⟩:=_root_.id L;exact KJ st.fr c' bO),aK.hM (x:=S) (by obtain⟨_,_,_,st,_⟩:=_root_.id L;exact st.fr.get u (E.nM af)) λY d17 f17 _=>fin U W Y S e Q L f15 af (.inl e') d17 f17⟩
theorem ze(E:En V j h s X I σ k)(o:ar.fV h bo (y0 id))(L: ¬(X.M bo\/X.D bo))(hk: ∀h' d,Pt h' s d I (qG σ ses x.on).σ->iM X h bo id (qG σ ses x.on) d h'->R (.I (qG σ ses x.on).e) h'):
  Cl 108 #[(x.as p c s ses).agg,.P bo 0] h R:=by
 refine xL.walk (bY.db (x:=x.as p c s ses) λb h1 eb f f1=> ?_);have E1:=E.on f1;have nM: ¬X.M bo:=λe=>L (.inl e)
 have zo:=aC o;have N: ¬X.M b:=E.nM af;obtain⟨Z,t,zm,zd,go⟩:=E1.H.use 0;unfold qG at hk;refine⟨_,ak f,ay.2 ⟨_,ak E1.H.cQ,_,ak f,_,ak f,fx.ze t E.G.a λB W T s2=> ?_⟩⟩;obtain⟨v,m,S,f',g'⟩:=go B W { σ with A:=fx.jx σ.A ses x.on } T s2 (λi q=>eU.zB _ q);refine⟨_,rfl,KJ S.fr N bO,aG.of λe' J=> ?_⟩;have qc:=bG.no f1 S;by_cases H:fx.vL σ.A ses=0
 case neg=>
  rw[ae H]at hk;rw[ae (cy H)];subst J;have eA:fx.jx σ.A ses x.on=σ.A:=by
   unfold fx.vL at H;unfold fx.jx;cases hs:fx.kW σ.A ses with
   |none=>rfl
   |some z=>rw[hs]at H;exact absurd rfl H
  rw[eA]at m;exact hk B v m (iM.bad o nM qc)
 rw[ag H]at hk;rw[ag (by rw[H];rfl)];have K:=S.fr.get f N;have d': ¬v.M b:=λr=>by
  rcases S.jr b r with a|a
  .exact N a
  .have:=aC f;omega
 obtain⟨Z3,c',k',j',a'⟩:=m.use 0;refine⟨_,ak K,ay.2 ⟨_,ak m.cQ,_,ak K,fx.ui c' (E.G.a.watch ses x.on) λh4 Y P C U s4 O=> ?_⟩⟩;obtain⟨n,u,Q,w,i'⟩:=a' h4 Y { σ with A:=fx.BD (fx.jx σ.A ses x.on) ses } U s4 (λi q=>eU.zB (σ:= { σ with A:=fx.jx σ.A ses x.on }) _ q);have st:=qc.trans Q;refine⟨_,_,_,_,_,rfl,KJ Q.fr d' bO,?_⟩;have b':=st.fr.get o nM;refine nA (z:=⟨id,0,0,0,0,P,(fx.BC (fx.jx σ.A ses x.on) ses).length,C⟩) b' dH rfl λh5 d5 f5=>nA (z:=⟨id,0,0,fx.Ih (fx.jx σ.A ses x.on) ses,0,P,(fx.BC (fx.jx σ.A ses x.on) ses).length,C⟩) d5 dH rfl λh6 d6 f6=> ?_
 subst J;have F:=f5.tt f6;have M: ∀y,n.M y\/n.D y->y≠bo:=λy l e=>by
  rcases l with a|a
  .rcases st.jr y a with a|a
   .exact nM (e▸a)
   .omega
  .rcases st.kR y a with a|a
   .exact L (.inr (e▸a))
   .omega
 refine hk h6 n (u.frame F (λy l e=>M y l e)) (iM.of st F ⟨_,d6,λ_=>⟨P,C,rfl,?_,λhd z t=> ?_⟩⟩)
 .have:=BV.ok.frame O F (λy l e=>M y (.inr (w y l)) e);exact this.row
 .have G:=w z (O.own hd z t);exact⟨(st.kR z G).symm,λr=>u.vr z r G⟩

end Ask
end
section
namespace Bn
open Cb
open iT (Ev cN kj)
variable {V:cH→Bool} {h H h' g:aj} {R:fj} {D:Nat→Prop}
abbrev Aq.s(r:Aq):cf.S:=⟨r.rc,r.dl,r.de,r.reason,r.at',r.of.e.jI,r.of.e.node,r.of.e.fX,r.of.e.host,r.of.e.jd,r.of.tm,r.of.sq⟩
theorem KL(r:Aq)(hk: gU h R (.bool (ic r))):Cl 290 #[r.s.agg] h R:=by
 refine Di.walk (cf.db λb a E d f1=>⟨_,ak d,?_⟩);have rest:(r.rc||r.dl||r.de)=true->∃t15,aX a (AA b 3)=some (.U t15)/\if(decide (t15<=255))=true then∃t20,aX a (AA b 4)=some (.U t20)/\if(decide (t20<=1099511627776))=true then ah.cO a (AA b 5) λt25=>Cl 237 #[t25.agg] a λv f=> ∃t26,v=.bool t26/\R (.bool t26) f else R (.bool false) a else R (.bool false) a:=λi=>by
  refine⟨_,ak d,?_⟩;rw[show decide ((r.s.f3:Int)<=255)=decide (r.reason<=255)from k7 r.reason 255];unfold ic at hk;rw[i]at hk;by_cases c1:r.reason<=255
  case neg=>rw[ae (cy c1)];rw[az c1]at hk;exact hk a f1
  rw[ag (au c1)];rw[au c1]at hk;refine⟨_,ak d,?_⟩;rw[show decide ((r.s.f4:Int)<=1099511627776)=decide (r.at'<=1099511627776)from k7 r.at' 1099511627776];by_cases c:r.at'<=1099511627776
  case neg=>rw[ae (cy c)];rw[az c]at hk;exact hk a f1
  rw[ag (au c)];rw[au c]at hk;exact zT r.of d rfl rfl rfl rfl rfl rfl rfl (rj r.of λe f2=>⟨_,rfl,hk e (f1.tt f2)⟩)
 cases c1:r.rc with
 |true=>rw[ag (show r.s.f0=true from c1)];exact rest (by rw[c1];rfl)
 |false=>
 rw[ae (show¬r.s.f0=true by rw[show r.s.f0=r.rc from rfl,c1];decide)];refine⟨_,ak d,?_⟩;cases c:r.dl with
 |true=>rw[ag (show r.s.f1=true from c)];exact rest (by rw[c1,c];rfl)
 |false=>
 rw[ae (show¬r.s.f1=true by rw[show r.s.f1=r.dl from rfl,c];decide)];refine⟨_,ak d,?_⟩;cases C:r.de with
 |true=>rw[ag (show r.s.f2=true from C)];exact rest (by rw[c1,c,C];rfl)
 |false=>
 rw[ae (show¬r.s.f2=true by rw[show r.s.f2=r.de from rfl,C];decide)];have:=hk a f1;unfold ic at this;rw[c1,c,C]at this;exact this
abbrev bo(l:List Bool):List Value:=l.map λb=> .bool b
theorem Nv{p:cg}{n c:Nat}{l:List Bool}(row:Row h p (bo l))(hn:n=l.length)(hl:l.length<=100000)(hk: ∀h' z,rZ h' (λy=>h.size<=y) (Ed l) z->Fr No h h'->R z.s.agg h'):Cl 291 #[.slice p n c] h R:=by
 subst hn;refine Hv.walk (aa.db λb f eb w f1=>jF (ts:= []) (ys:= []) (D:=λ_=>True) ⟨rfl,.inl rfl,λe=>absurd rfl e,bk _⟩ .nil (by simp[dw]) λX z T f2=>aa.ex z.s ⟨rfl,aa.gh (x:=z.s) λb1 Y d' B f4=> ?_⟩);have zb:=aC w;have z1:=f1.1;have z2:=f2.1;have z4:=f4.1;have f':=aC B;have F4:=f1.tt (f2.tt f4);have b':rZ Y (λy=>f.size<=y/\y≠b1) (rC []) z:=by
  obtain⟨⟨I,K,M,N⟩,zs,O,A,P,Q⟩:=T;refine⟨⟨I,K,M,((EI N).mono λy d=>af).frame f4 cu⟩,zs,O,A.frame f4 cu,λy d=>⟨P y d,bX (A.dV d)⟩,(dc.mono (λy d=>by have f:=d.1.1;have X:=d.2;exact⟨⟨f,af⟩,d.1.2⟩) Q.lt).on f4⟩
 obtain⟨zs,ez,r⟩:=Nd (g0:=f) b' B ((f2.tt f4).mono λ_ _=>False.elim);have s:z.k=4:=T.1.1;have u:z.n=0:=T.1.2.1;have E:z.v.b= []:=T.1.2.2.1;refine⟨λt g=> ∃(i:Nat)(ys:List CV)(q:cg)(cl:Nat),t=(i:Int)/\i<=l.length/\ys.length=i/\Lc f g b1 z.k z.n z.v ((l.take i).map λb=>num (if b=true then 1 else 0)) ys q cl,λt _=>l.length - t.toNat,⟨0,zs,z.q,z.cl,rfl,bL _,?_,by rw[eh];exact r⟩,?_⟩
 .have:=r.tr.len;exact this.symm
 rintro _ g ⟨i,ys,q,cl,rfl,hi,d,L⟩;by_cases m:i<l.length
 case neg=>
  rw[ae (λe=>m (bX (aP e)))];rw[bB af]at L;have a':z.v.ok g (λy=>f.size<=y/\y≠b1):=⟨by rw[E];exact Row.nil,λe=>absurd E e,T.1.2.2.2.cap⟩;have C:=Nf (k':=z.n) L a';rw[s,u,E]at C;refine aa.fR (x:=CV.s ⟨z.k,z.n,z.v,q,ys.length,cl⟩) L.cQ (fin (z:=⟨z.k,z.n,z.v,q,ys.length,cl⟩) (t:=Ed l) (D:=λy=>f.size<=y/\y≠b1) (L.fr.get w af) (by rw[s,u];exact C) (λy d e=>af) λG tg W=>hk G _ (tg.mono λy d=>af) ((f1.fresh L.fr (λy e=>af)).fresh W (λy e=>af)))
 rw[fY];have F:Fr No h g:=f1.fresh L.fr (λy e=>af);obtain⟨a,rfl⟩:=row.some (by intro e;have:=bT List.length e;rw[aF,bm]at this;omega);have hc:aX g (a.add (i*1))=some (.bool l[i]):=by
  have:=(row.frame F cu).cell (j:=i) (v:=.bool l[i]) (by rw[aI,ai m];rfl);rw[cv];exact this
 refine⟨af,cb.2 ⟨a,rfl,_,hc,aG.of λJ Z=> ?_⟩⟩;have go: ∀k:Nat,k=(if l[i]=true then 1 else 0)->J (k:Int) g:=by
  intro k U;subst Z;dsimp only;refine⟨_,_,_,ak L.cQ,fN λh6 f6=>aa.ex (nv k).s ⟨rfl,f6.kp,?_⟩⟩;refine Ng (L.on f6) af (Qr (n:=k)).Q3 λG c' q' S o e' _ _=> ?_
  rw[bA (n:=(i:Int)+1) af af];refine⟨⟨i+1,c',q',S,af,af,af,?_⟩,by show l.length - Int.toNat ((i:Int)+1)<l.length - Int.toNat (i:Int);omega⟩;rw[bD,ai m,aW];rw[U]at o;exact o
 cases c:l[i]with
 |true=>rw[ag rfl];exact go 1 (by rw[c];rfl)
 |false=>rw[dj];exact go 0 (by rw[c];rfl)
theorem KM{r:Aq}(a:ic r=true):room (CI r)<=1000:=by
 unfold ic at a;simp only[aR,aY]at a;have:=E6 r.of a.2;simp only[CI,Ed,room,dw,bm,bW,List.map_nil];omega
theorem O8(r:Aq)(w:0<=r.of.e.fX)(U:mE V H)(u:Fr No H h)(k1: ∀bs,JB V r=some bs->bs.length<=1000->∀h' p c,fi h' p bs.length c 1 (bc bs)->(∀y,aL p y->h.size<=y)->Fr No h h'->R (.tuple #[.slice p bs.length c,.I 0]) h')(M:JB V r=none->gU h R (.tuple #[.Z,.I 3])):Cl 249 #[r.s.agg] h R:=by
 refine Dj.walk (cf.db λb h1 eb I f1=>zT r.of I rfl rfl rfl rfl rfl rfl rfl (IB r.of w λh2 z qz z0 z1 f2=>aa.ex z.s ⟨_,rfl,aa.gh (x:=z.s) λb1 h4 p' i' f4=>aG.of λJ A=> ?_⟩));have L:=(f2.tt f4).get I id;have q:=f1.tt (f2.tt f4);have bad: ∀g,Fr No h g->¬(ic r=true)->J true g:=λg f hn=>by
  subst A;dsimp only;rw[ag rfl];exact M (by unfold JB;rw[ae (λe=>hn e.1)]) g f
 by_cases d:qz=0
 case neg=>
  rw[ag (cy d)];exact bad h4 q (λe=>d (z1.2 (by unfold ic at e;simp only[aR]at e;exact e.2)))
 rw[ae (cy d)];have tz:=z0 d;refine cf.fR L (KL r λv f5=>⟨_,rfl,?_⟩);have s:=q.tt f5;cases l:ic r with
 |false=>exact bad v s (by rw[l];decide)
 |true=>
 clear bad;subst A;dsimp only;rw[dj];have a:=f5.get L id;have rm:=KM l;refine⟨_,ak a,_,ak a,_,ak a,_,ak a,_,ak a,aa.fR (f5.get i' id) ?_⟩;have rest: ∀g y,EY g (Ed [r.rc,r.dl,r.de]) y->Fr No v g->∀{kl N kl2:List (cg)},Cl 205 #[.U (r.reason:Int)] g λk' k=>aa.EX λt30=>k'=t30.agg/\Kp g k kl/\Cl 205 #[.U (r.at':Int)] k λl' C=>aa.EX λt33=>l'=t33.agg/\Kp k C N/\
   aQ C (.cells (y.s.l++t30.l++t33.l++z.s.l).toArray 262) λY c'=>Cl 247 #[.slice (Sa Y 0) 4 4] c' λm' d'=>aa.EX λt36=>m'=t36.agg/\
   aQ d' (.cells ((nv 1).s.l++t36.l).toArray 262) λZ e'=>Cl 247 #[.slice (Sa Z 0) 2 2] e' λn' f'=>aa.EX λt38=>n'=t38.agg/\Cl 178 #[t38.agg] f' λo' g'=>
   ∃P O T Q,o'=.tuple #[.slice P O T,.I Q]/\R (.tuple #[.slice P O T,.I Q]) g':=by
  intro g y ty f kl N kl2;refine fN λh9 f9=>aa.ex (nv r.reason).s ⟨rfl,f9.kp,fN λa' f10=>aa.ex (nv r.at').s ⟨rfl,f10.kp,?_⟩⟩
  have G:=f.tt (f9.tt f10);have W:AS a' [Ed [r.rc,r.dl,r.de],num r.reason,num r.at',LQ r.of] [y,nv r.reason,nv r.at',z]:=.cons (ty.on (f9.tt f10)) (.cons mB (.cons mB (.cons (tz.on (f4.tt (f5.tt G))) .nil)));have e2:room (CI r)=27+dw [Ed [r.rc,r.dl,r.de],num r.reason,num r.at',LQ r.of]:=by simp only[CI,room,dw,bm];omega
  refine oU W af rfl rfl λb' w tw f12=>aa.ex w.s ⟨rfl,?_⟩
  have S:AS b' [num 1,rC [Ed [r.rc,r.dl,r.de],num r.reason,num r.at',LQ r.of]] [nv 1,w]:=two mB tw.u;refine oU S (by simp only[dw,room,bm]at e2⊢;omega) rfl rfl λq' w2 j' f14=>aa.ex w2.s ⟨rfl,?_⟩
  have F:=s.tt (G.tt (f12.tt f14));refine wk U (u.tt F) j'.Q3 (t:=CI r) af (λe i p c o n f15=>⟨_,_,_,_,rfl,?_⟩) (λe i f15=>⟨_,_,_,_,rfl,?_⟩)
  .have:=F.1;exact k1 (enc (CI r)) (by unfold JB;rw[ag ⟨l,e⟩]) (bX (jH (CI r))) i p c o (λy hy=>bX (n y hy)) (F.tt f15)
  .exact M (by unfold JB;rw[ae (λE=>by rw[e]at E;cases E.2)]) i (F.tt f15)
 have B: ∀{g}{K:Nat->aj->Prop},(∀b h',Row h' (Sa b 0) (bo [r.rc,r.dl,r.de])->Fr No g h'->K b h')->aQ g (.cells #[.bool r.s.f0,.bool r.s.f1,.bool r.s.f2] 4) K:=λhk=>cG (hk _ _ jl (Fr.push _ _))
 refine⟨?_,?_,trivial⟩
 .refine fN (n:=1) λh6 f6=>aa.ex (nv 1).s ⟨rfl,f6.kp,B λX h7 m f7=>⟨f7.kp,Nv m rfl (by show 3<=_;omega) λj y ty f8=>aa.ex y.s ⟨rfl,f8.kp,rest j y ty.u (f6.tt (f7.tt f8)) (kl2:= [])⟩⟩⟩
 .refine B λX h7 m f7=>⟨f7.kp,fN (n:=1) λh6 f6=>aa.ex (nv 1).s ⟨rfl,f6.kp,Nv (m.frame f6 cu) rfl (by show 3<=_;omega) λj y ty f8=>aa.ex y.s ⟨rfl,f8.kp,rest j y ty.u (f7.tt (f6.tt f8)) (kl2:= [])⟩⟩⟩
theorem KN(r:Aq)(dest:Ev)(id:iN)(eV:Nat)(a':0<=r.of.e.fX)(w1:0<=dest.fX)(w2:0<=id.e.fX)(U:mE V H)(u:Fr No H h)(mx:mD.Mx h)(Z: ∀b,kT V r dest id eV=some b->b.bl.length=1->b.p.wf->(∀m∈b.bl,m.data.length<=1000)->∀h' q cl xs,jz h' (λy=>h.size<=y) b.bl q b.bl.length cl xs->Fr No h h'->R (.tuple #[(b.s q cl).agg,.I 0]) h')(M:kT V r dest id eV=none->gU h R (.tuple #[ax.S.z.agg,.I 3])):Cl 197 #[r.s.agg,dest.s.agg,id.s.agg,.U (eV:Int)] h R:=by
 refine AZ.walk (cf.db λb h1 eb T f1=>aw.db λb1 h2 b' W f2=>ah.db λb2 h3 c' X f3=>ax.db λb3 C d' t f4=>cf.fR ((f2.tt (f3.tt f4)).get T _root_.id) ?_);have F:=f1.tt (f2.tt (f3.tt f4));have z4:=F.1;have z1:=f1.1;have z3:=(f1.tt (f2.tt f3)).1;have i':=aC t;refine O8 r a' U (u.tt F) (λbs v lb E p c o n f5=>⟨_,_,_,_,rfl,?_⟩) (λv E f5=>⟨_,_,_,_,rfl,?_⟩)
 case refine_2=>
  rw[fY];exact Aj (f5.get t _root_.id) λg f=>M (by unfold kT;rw[v]) g ((F.tt f5).fresh f (λy e=>af))
 rw[dj];have l:=F.tt f5;have z5:=f5.1;refine aw.fR (x:=dest.s) ((f3.tt (f4.tt f5)).get W _root_.id) (ah.fR (x:=id.s) ((f4.tt f5).get X _root_.id) (aH.db (x:=rE.s ⟨1,1,0,0,bs⟩ p c) λd h7 e' J f7=>ax.db λA Q f' K f8=> ?_));have k:kT V r dest id eV=if(kJ V ⟨⟨2,0,dest,.zero,id,eV⟩, [⟨1,1,0,0,bs⟩]⟩).isSome=true then some ⟨⟨2,0,dest,.zero,id,eV⟩, [⟨1,1,0,0,bs⟩]⟩else none:=by unfold kT;rw[v]
 generalize s:(⟨⟨2,0,dest,.zero,id,eV⟩, [⟨1,1,0,0,bs⟩]⟩:pC)=B at k;have e1:B.bl= [⟨1,1,0,0,bs⟩]:=by rw[<-s]
 have ep:B.p.wf:=by rw[<-s];exact⟨w1,dL 0,w2⟩
 have j':=aC J;have k':=aC K;have z7:=f7.1;have z8:=f8.1;have N:jz Q (λy=>C.size<=y/\y≠A) B.bl (Sa d 0) B.bl.length 1 [⟨⟨1,1,0,0,bs⟩,p,c⟩]:=by
  rw[e1];refine⟨rfl,rfl,.inr ⟨_,rfl,aH.zO (x:=rE.s ⟨1,1,0,0,bs⟩ p c) (f8.get J _root_.id)⟩,λ_ y ⟨a,e,O⟩=>by cases e;rw[<-O];exact⟨by show C.size<=d;omega,by show d≠A;omega⟩,bk _,λx Y=> ?_⟩;rw[bK.1 Y];exact BV.j9 ((o.frame f7 (λ_ _=>_root_.id)).frame f8 (λ_ _=>_root_.id)) (λy i=>⟨n y i,bX (o.dV i)⟩)
 have P:(B.s (Sa d 0) 1)=(⟨2,0,dest.s.f0,dest.s.f1,dest.s.f2,dest.s.f3,dest.s.f4,false,0,0,⟨#[]⟩,⟨#[]⟩,id.s.f0,id.s.f1,id.s.f2,id.s.f3,id.s.f4,id.s.f5,id.s.f6,eV,(Sa d 0),1,1⟩:ax.S):=by rw[<-s];rfl
 rw[<-P];refine ax.hM (x:=B.s (Sa d 0) 1) K λS d9 f9 _=>ax.fR d9 ?_
 have G:Fr No E S:=(f7.tt f8).fresh f9 (λy e=>af);have w:=N.frame f9 (λy i e=>i.2 e);refine B2 ep U (u.tt (l.tt G)) (mx.on (l.tt G)) w (by rw[e1];simp) (λm j=>by rw[e1]at j;rw[bK.1 j];show bs.length<=_;omega) λg' f10=>⟨_,rfl,?_⟩
 have I:=(f5.tt (G.tt f10)).get t _root_.id;have z:=l.tt (G.tt f10);cases L:(kJ V B).isSome with
 |false=>
  rw[fY];exact Aj I λg f=>M (by rw[k,L];rfl) g (z.fresh f (λy e=>af))
 |true=>
  rw[dj];rw[L,ag rfl]at k;refine ax.fR (f10.get d9 _root_.id) (Aj I λg f=>Z B k (by rw[e1];rfl) ep (λm j=>by rw[e1]at j;rw[bK.1 j];exact lb) g _ 1 [⟨⟨1,1,0,0,bs⟩,p,c⟩] ?_ (z.fresh f (λy e=>af)));exact((w.on f10).frame f (λy i e=>af)).mono λy i=>af

end Bn
end
section
namespace Ask
open iT (Ev cN)
open eU (SS Good Pt sP Mk)
open Bn (iN gL iB zT C7 pC Prim rE Aq jz BB kJ sH xh kT)
variable {V:cH→Bool} {h h' j g:aj} {R:fj} {s k c:Nat} {X i:Ft} {I:sP} {σ:SS} {p:cg} {ses:Int} {x:Rq} {D:Nat→Prop}
variable {K:ax.S->Int->aj->Prop} {d:cH} {q:cg} {C:Nat}
def NX(σ:SS)(a b:iN)(e:Int):Prop:=(e=0/\∃n,oa σ=some n/\a=⟨σ.e,n.1,n.2⟩/\b=⟨σ.e,n.1,n.2⟩)\/(e=5/\oa σ=none)
theorem Fs(H:Pt g s X I σ){K:ah.S->aj->Prop}(a: ∀G,Fr No g G->K (⟨σ.e,σ.tm,σ.sq⟩:iN).s G):Cl 74 #[pt I.k] g λv G=>ah.EX λt=>v=t.agg/\K t G:=
 eU.Iw (Pt.mk' H) λG f=>ah.ex (⟨σ.e,σ.tm,σ.sq⟩:iN).s ⟨rfl,a G f⟩
theorem qL(H:Pt g s X I σ)(G:eU.Good σ k){K:ah.S->ah.S->Int->aj->Prop}(l: ∀a m o e,NX σ m o e->Fr No g a->K m.s o.s e a):
  Cl 150 #[pt s,σ.e.s.agg] g λv a=>ah.EX λt1=>ah.EX λt2=> ∃e,v=.tuple #[t1.agg,t2.agg,.I e]/\K t1 t2 e a:=
 uk H G σ.e (λn b a f=>ah.ex (⟨σ.e,n.1,n.2⟩:iN).s (ah.ex (⟨σ.e,n.1,n.2⟩:iN).s ⟨_,rfl,l a _ _ 0 (.inl ⟨rfl,n,b,rfl,rfl⟩) f⟩)) (λb a f=>ah.ex (⟨σ.e,0,0⟩:iN).s (ah.ex iN.zero.s ⟨_,rfl,l a _ _ 5 (.inr ⟨rfl,b⟩) f⟩))
theorem Se(E:En V j g s X I σ k)(P:Prim)(n:Nat×Nat)(w:P.wf)(H: ∀G (b:pC) q cl xs e,((e=0/\kT V ⟨false,true,false,0,σ.now,P.id⟩ P.rep ⟨σ.e,n.1,n.2⟩ P.eV=some b/\b.p.wf/\b.bl.length=1/\(∀y∈b.bl,y.data.length<=80000)/\jz G (λy=>g.size<=y) b.bl q b.bl.length cl xs)\/(e=3/\kT V ⟨false,true,false,0,σ.now,P.id⟩ P.rep ⟨σ.e,n.1,n.2⟩ P.eV=none))->Fr No g G->K (b.s q cl) e G):
  Cl 197 #[(⟨false,true,false,0,σ.now,P.id⟩:Aq).s.agg,P.rep.s.agg,(⟨σ.e,n.1,n.2⟩:iN).s.agg,.U (P.eV:Int)] g λv G=>ax.EX λt=> ∃e,v=.tuple #[t.agg,.I e]/\K t e G:=
 Bn.KN ⟨false,true,false,0,σ.now,P.id⟩ P.rep ⟨σ.e,n.1,n.2⟩ P.eV w.2.2 w.2.1 E.G.e.2.2 E.U E.u.fr E.T1
  (λb a l W hd G q cl xs B f=>ax.ex (b.s q cl) ⟨_,rfl,H G b q cl xs 0 (.inl ⟨rfl,a,W,l,(λy o=>bX (hd y o)),B⟩) f⟩)
  (λm G f=>ax.ex (pC.s ⟨.zero, []⟩ none 0) ⟨_,rfl,H G ⟨.zero, []⟩ none 0 [] 3 (.inr ⟨rfl,m⟩) f⟩)
theorem Sf(E:En V j g s X I σ k)(row:Row g q (bc d))(cap:d.length<=C)(a: ∀G (b:pC) Q cl e,b.p.wf->(w8 b.p=false->ko V σ ses d=(σ,0))->(w8 b.p=true->sH V d=.ok b)->Fr No g G->K (b.s Q cl) e G):
  Cl 158 #[.slice q d.length C] g λv G=>ax.EX λt=> ∃e,v=.tuple #[t.agg,.I e]/\K t e G:=
 Bn.I6 E.U E.u.fr E.T1 row rfl cap
  (λb l w hd n G Q cl xs B f=>ax.ex (b.s Q cl) ⟨_,rfl,a G b Q cl 0 w (λH=>by unfold ko;rw[l];dsimp only;rw[ae (by rw[H];decide)]) (λ_=>l) f⟩)
  (λe m o G f=>ax.ex (pC.s ⟨.zero, []⟩ none 0) ⟨_,rfl,a G ⟨.zero, []⟩ none 0 e ⟨dL 0,dL 0,dL 0⟩ (λ_=>by unfold ko;rw[m]) (λH=>absurd H (by rw[show w8 Prim.zero=false by kernel_rfl];decide)) f⟩)
theorem O9{l:Nat}(E:En V j h s X I σ k)(row:Row h q (bc d))(hl:l=d.length)(cap:d.length<=C)(hk: ∀h' i,Pt h' s i I (ko V σ ses d).1->bG X h i h'->R (.I (ko V σ ses d).2) h'):
  Cl 164 #[(x.as p c s ses).agg,.slice q l C] h R:=by
 subst hl;refine zY.walk (bY.db (x:=x.as p c s ses) λb h1 eb n' f1=> ?_);refine Sf (ses:=ses) (E.on f1) (row.frame f1 cu) cap λh2 H q' cl e0 i' r' s' f2=>ax.gh (x:=H.s q' cl) λb3 h4 t' o' f4=>Bn.Uv o' (aB.gh (x:=H.p.s) λb4 Y u' b' f6=>aG.of λj' hJ=> ?_)
 have F6:=f1.tt (f2.tt (f4.tt f6));have F:=E.on F6;have a':=(f2.tt (f4.tt f6)).get n' id;have dn: ∀g,Fr No h g->ko V σ ses d=(σ,0)->R (.I 0) g:=λg P e=>by rw[e]at hk;exact hk g X (E.H.on P) (bG.im P)
 have key: ∀v,v= !w8 H.p->j' v Y:=by
  intro v hv;subst hv;subst hJ;dsimp only;cases ht:w8 H.p with
  |false=>rw[fY];exact dn Y F6 (r' ht)
  |true=>
  rw[dj];have d':=s' ht;refine aG.of λJ1 l'=> ?_
  have k': ∀(g:aj)(L M:Nat)(o r:iN)(e:Int),NX σ o r e->ah.fV g L o.s->ah.fV g M r.s->Fr No Y g->J1 (Sa L 0) (Sa M 0) e g:=by
   intro g L M o r e N hi hw P;subst l';dsimp only;rcases N with⟨rfl,n,hn,rfl,rfl⟩|⟨rfl,hn⟩
   case inr=>
    rw[fY];exact dn g (F6.tt P) (by unfold ko;rw[d'];dsimp only;rw[ag ht,hn])
   rw[dj];have Eg:=F.on P;have f':=P.get a' id;have c':=P.get b' id;refine aG.of λJ2 m'=> ?_
   have e': ∀(W:aj)(m:pC)(q:cg)(cl:Nat)(xs:List BB)(D:Nat->Prop)(S:Nat)(e:Int),((e=0/\kT V ⟨false,true,false,0,σ.now,H.p.id⟩ H.p.rep ⟨σ.e,n.1,n.2⟩ H.p.eV=some m/\m.p.wf/\m.bl.length=1/\(∀y∈m.bl,y.data.length<=80000)/\jz W D m.bl q m.bl.length cl xs)\/(e=3/\kT V ⟨false,true,false,0,σ.now,H.p.id⟩ H.p.rep ⟨σ.e,n.1,n.2⟩ H.p.eV=none))->
     ax.fV W S (m.s q cl)->Fr No g W->J2 e (Sa S 0) W:=by
    intro W m q cl xs D S e sp Z f5;subst m';dsimp only;rcases sp with⟨rfl,hs,wb,hl,hd,B⟩|⟨rfl,hs⟩
    case inr=>
     rw[fY];exact dn W (F6.tt (P.tt f5)) (by unfold ko;rw[d'];dsimp only;rw[ag ht,hn];dsimp only;rw[hs])
    rw[dj];refine bY.fR (x:=x.as p c s ses) (f5.get f' id) (ay.2 (ax.fR (x:=m.s q cl) Z (ay.2 (ah.fR (x:=(⟨σ.e,n.1,n.2⟩:iN).s) (f5.get hw id) (I5 (b:=m) (x:=x) (p:=p) (c:=c) (ses:=ses) (Eg.on f5) wb B af hd hn λh9 X9 H9 p'=>⟨_,_,_,rfl,?_⟩)))));have eQ:ko V σ ses d=((kg V σ ses m n).σ,if(kg V σ ses m n).e=0 then 1 else 0):=by unfold ko;rw[d'];dsimp only;rw[ag ht,hn];dsimp only;rw[hs]
    rw[eQ]at hk;have hk:=hk h9 X9 H9 (bG.no (F6.tt (P.tt f5)) p');by_cases c0:(kg V σ ses m n).e=0
    .rw[ae (cy c0)];rw[ag c0]at hk;exact hk
    .rw[ag (cy c0)];rw[ae c0]at hk;exact hk
   refine⟨_,ak f',ay.2 ⟨_,ak Eg.H.cQ,zT H.p.id c' rfl rfl rfl rfl rfl rfl rfl (iB H.p.rep c' rfl rfl rfl rfl rfl (ay.2 (ah.fR (x:=(⟨σ.e,n.1,n.2⟩:iN).s) hi ⟨_,ak c',?_,?_,trivial⟩)))⟩⟩
   .refine Se Eg H.p n i' λG m q cl xs e sp u2=>⟨u2.kp,ax.db λS Q er Z U=>⟨U.kp,ax.hM (x:=m.s q cl) Z λA d4 u _=> ?_⟩⟩
    have U4:Fr No G A:=U.fresh u (λy e=>af);refine e' A m q cl xs (λy=>g.size<=y) S e ?_ d4 (u2.tt U4);rcases sp with⟨a1,a2,a3,a4,a5,a6⟩|a
    .exact .inl ⟨a1,a2,a3,a4,a5,a6.on U4⟩
    .exact .inr a
   .refine ax.db λS Q er Z U=>⟨U.kp,Se (Eg.on U) H.p n i' λG m q cl xs e sp u2=>⟨u2.kp,ax.hM (x:=m.s q cl) (u2.get Z id) λA d4 u _=> ?_⟩⟩
    have zr:=aC Z;have U4:Fr No g A:=(U.tt u2).fresh u (λy e=>af);refine e' A m q cl xs (λy=>Q.size<=y) S e ?_ d4 U4;rcases sp with⟨a1,a2,a3,a4,a5,a6⟩|a
    .exact .inl ⟨a1,a2,a3,a4,a5,a6.frame u (λy hy e=>af)⟩
    .exact .inr a
  have J: ∀(g:aj)(L M:Nat)(y1 y2:ah.S)(o r:iN)(e:Int),NX σ o r e->ah.fV g L y1->ah.fV g M y2->L≠M->Y.size<=L->Y.size<=M->Fr No Y g->
    ah.dv g (AA L 0) o.s λT=>ah.dv T (AA M 0) r.s λG=>J1 (Sa L 0) (Sa M 0) e G:=by
   intro g L M y1 y2 o r e N hi hw ne zi zw P;exact ah.hM (x:=o.s) hi λT d1 u1 _=>ah.hM (x:=r.s) (u1.get hw ne.symm) λG d2 u2 _=>k' G L M o r e N (u2.get d1 ne) d2 ((P.fresh u1 (λy e=>af)).fresh u2 (λy e=>af))
  have lt: ∀{g:aj}{b:Nat}{y:ah.S},ah.fV g b y->b<g.size:=λh=>aC h
  have le: ∀{g g':aj},Fr No g g'->g.size<=g'.size:=λf=>f.1
  refine⟨_,ak a',_,ak a',ay.2 ⟨_,ak F.H.cQ,?_,?_,?_,trivial⟩⟩
  .refine Fs F.H λT u1=>⟨u1.kp,?_,?_,?_,trivial⟩
   .refine qL (F.H.on u1) E.G λG o r e N u2=>⟨u2.kp,?_,?_,trivial⟩
    .exact ah.db λm Q e5 t U=>⟨U.kp,ah.db λw A O z u=>⟨u.kp,J A m w _ _ o r e N (u.get t id) z (bX (lt t)) (gF (le u1) (le u2)) (r7 (le u1) (le u2) (le U)) (u1.tt (u2.tt (U.tt u)))⟩⟩
    .exact ah.db λm Q e5 t U=>⟨U.kp,ah.db λw A O z u=>⟨u.kp,J A w m _ _ o r e N z (u.get t id) (bX (lt t)) (r7 (le u1) (le u2) (le U)) (gF (le u1) (le u2)) (u1.tt (u2.tt (U.tt u)))⟩⟩
   .refine ah.db λm Q e5 t U=>⟨U.kp,?_,?_,trivial⟩
    .exact qL (F.H.on (u1.tt U)) E.G λG o r e N u2=>⟨u2.kp,ah.db λw A O z u=>⟨u.kp,J A m w _ _ o r e N ((u2.tt u).get t id) z (gF (lt t) (le u2)) (bX (le u1)) (r7 (le u1) (le u2) (le U)) (u1.tt (U.tt (u2.tt u)))⟩⟩
    .exact ah.db λw A O z u=>⟨u.kp,qL (F.H.on (u1.tt (U.tt u))) E.G λG o r e N u2=>⟨u2.kp,J G m w _ _ o r e N ((u.tt u2).get t id) (u2.get z id) (bX (lt t)) (bX (le u1)) (gF (le u1) (le U)) (u1.tt (U.tt (u.tt u2)))⟩⟩
   .refine ah.db λm Q e5 t U=>⟨U.kp,?_,?_,trivial⟩
    .exact qL (F.H.on (u1.tt U)) E.G λG o r e N u2=>⟨u2.kp,ah.db λw A O z u=>⟨u.kp,J A w m _ _ o r e N z ((u2.tt u).get t id) (gF (lt t) (le u2)) (r7 (le u1) (le u2) (le U)) (bX (le u1)) (u1.tt (U.tt (u2.tt u)))⟩⟩
    .exact ah.db λw A O z u=>⟨u.kp,qL (F.H.on (u1.tt (U.tt u))) E.G λG o r e N u2=>⟨u2.kp,J G w m _ _ o r e N (u2.get z id) ((u.tt u2).get t id) (bX (lt t)) (gF (le u1) (le U)) (bX (le u1)) (u1.tt (U.tt (u.tt u2)))⟩⟩
  .refine ah.db λm Q e5 t U=>⟨U.kp,?_,?_,trivial⟩
   .refine Fs (F.H.on U) λT u1=>⟨u1.kp,?_,?_,trivial⟩
    .exact qL (F.H.on (U.tt u1)) E.G λG o r e N u2=>⟨u2.kp,ah.db λw A O z u=>⟨u.kp,J A m w _ _ o r e N ((u1.tt (u2.tt u)).get t id) z (r7 (lt t) (le u1) (le u2)) af (r7 (le u1) (le u2) (le U)) (U.tt (u1.tt (u2.tt u)))⟩⟩
    .exact ah.db λw A O z u=>⟨u.kp,qL (F.H.on (U.tt (u1.tt u))) E.G λG o r e N u2=>⟨u2.kp,J G m w _ _ o r e N ((u1.tt (u.tt u2)).get t id) (u2.get z id) (gF (lt t) (le u1)) af (gF (le u1) (le U)) (U.tt (u1.tt (u.tt u2)))⟩⟩
   .exact ah.db λw A O z u=>⟨u.kp,Fs (F.H.on (U.tt u)) λT u1=>⟨u1.kp,qL (F.H.on (U.tt (u.tt u1))) E.G λG o r e N u2=>⟨u2.kp,J G m w _ _ o r e N ((u.tt (u1.tt u2)).get t id) ((u1.tt u2).get z id) (bX (lt t)) af (bX (le U)) (U.tt (u.tt (u1.tt u2)))⟩⟩⟩
  .refine ah.db λm Q e5 t U=>⟨U.kp,?_,?_,trivial⟩
   .refine Fs (F.H.on U) λT u1=>⟨u1.kp,?_,?_,trivial⟩
    .exact qL (F.H.on (U.tt u1)) E.G λG o r e N u2=>⟨u2.kp,ah.db λw A O z u=>⟨u.kp,J A w m _ _ o r e N z ((u1.tt (u2.tt u)).get t id) (r7 (lt t) (le u1) (le u2)) (r7 (le u1) (le u2) (le U)) af (U.tt (u1.tt (u2.tt u)))⟩⟩
    .exact ah.db λw A O z u=>⟨u.kp,qL (F.H.on (U.tt (u1.tt u))) E.G λG o r e N u2=>⟨u2.kp,J G w m _ _ o r e N (u2.get z id) ((u1.tt (u.tt u2)).get t id) (gF (lt t) (le u1)) (gF (le u1) (le U)) af (U.tt (u1.tt (u.tt u2)))⟩⟩
   .exact ah.db λw A O z u=>⟨u.kp,Fs (F.H.on (U.tt u)) λT u1=>⟨u1.kp,qL (F.H.on (U.tt (u.tt u1))) E.G λG o r e N u2=>⟨u2.kp,J G w m _ _ o r e N ((u1.tt u2).get z id) ((u.tt (u1.tt u2)).get t id) (bX (lt t)) (bX (le U)) af (U.tt (u.tt (u1.tt u2)))⟩⟩⟩
 refine⟨_,ak b',?_⟩;split
 .rename_i c0;exact key true (by have:ME (H.p.fl:Int) 131072=true:=c0;unfold w8;rw[this];rfl)
 .rename_i c0;refine⟨_,ak b',key _ ?_⟩;have:ME (H.p.fl:Int) 131072=false:=by
   cases hh:ME (H.p.fl:Int) 131072 with
   |true=>exact absurd hh c0
   |false=>rfl
  unfold w8;rw[this];rfl

end Ask
end
section
namespace Ask
open iT (Ev cN)
open eU (SS Good Pt sP Mk)
open fU (CV CU gJ)
variable {V:cH→Bool} {h h' H g:aj} {R:fj} {s k bo r c:Nat} {X l:Ft} {I:sP} {σ:SS} {p:cg} {ses:Int} {x:Rq} {D:Nat→Prop} {o:Ot}
variable {ys:List CV}
theorem qm{b n m:Nat}{q:cg}(o:fi h q ys.length m 10 (ys.flatMap CU))(B:n=ys.length)(C:ys.length<=1000000)(w:bY.fV h b (x.as p c s ses)) (hk: ∀h',Fr No h h'->R (.I (idxOf (λy:CV=>decide ((y.num:Int)=x.num)) ys)) h'):
  Cl 162 #[.slice q n m,.func (.func 163) #[] #[.P b 0]] h R:=by
 refine iL.PE.walk (D0 (λy:CV=>decide ((y.num:Int)=x.num)) (λt g K=>((0:Int)<=t/\t<(n:Int))/\aM q λa=>aK.cO g (a.add (Int.toNat t*10)) λt15=>
  Cl 163 #[t15.agg,.P b 0] g λv G=> ∃t,v=.bool t/\K t G) B af (λj g0 y K i f u=> ?_) hk)
 have lt:=(aA.1 i).1;have o1:=o.frame f cu;obtain⟨P,F,rfl⟩:=o1.addr af;have A:=o1.fL gJ i;refine⟨af,ay.2 (aK.mA (x:=⟨(y.num:Int),y.e.jI,y.e.node,y.e.fX,y.e.host,y.e.jd,y.v.p,y.v.b.length,y.v.c,(y.bV:Int),y.ses,(y.dl:Int)⟩) (by rw[aD];exact A) (xK.walk (aK.db λb1 d E z f1=>⟨_,ak z,_,ak ((f.tt f1).get w id),_,rfl,?_⟩)))⟩;have e:((y.num:Int)==x.num)=decide ((y.num:Int)=x.num):=by by_cases q:(y.num:Int)=x.num<;>simp[q]
 show K ((y.num:Int)==x.num) d;rw[e];exact u d (f.tt f1)
theorem Nw{num:Int}{z:fU.Cp}(h:fU.xD (ys.map CV.abs) num=some z): ∃(i:Nat)(y:CV),idxOf (λy:CV=>decide ((y.num:Int)=num)) ys=(i:Int)/\ys[i]? =some y/\y.abs=z:=by
 unfold fU.xD at h;rw[List.find?_map]at h;obtain⟨y,a,rfl⟩:=Option.map_eq_some_iff.1 h;have a:ys.find? (λy:CV=>decide ((y.num:Int)=num))=some y:=a;obtain⟨d,i,b,rfl,e⟩:=List.find?_eq_some_iff_getElem.1 a;refine⟨i,ys[i],?_,ai b,rfl⟩;have:ys.findIdx? (λy:CV=>decide ((y.num:Int)=num))=some i:=cB.2 ⟨b,d,λj f=>cy (e j f)⟩;unfold idxOf;rw[this]
theorem Gz(E:En V H h s X I σ k)(c':k+1<=30000)(F:ar.fV h bo (y0 r))(T: ¬(X.M bo\/X.D bo))(hk: ∀h' l,Pt h' s l I (EF V σ ses x.num).σ->iM X h bo r (EF V σ ses x.num) l h'->R (.I (EF V σ ses x.num).e) h'):
  Cl 106 #[(x.as p c s ses).agg,.P bo 0] h R:=by
 refine AU.walk (bY.db (x:=x.as p c s ses) λb h1 eb O f1=> ?_);have E1:=E.on f1;have nM: ¬X.M bo:=λe=>T (.inl e)
 have zo:=aC F;have U: ¬X.M b:=E.nM af;obtain⟨Z,n,zm,zd,go⟩:=E1.H.use 2;have sm:=E.G.small E.H.ord (bX E.hk);have z1:=f1.1;refine⟨_,ak O,ay.2 ⟨_,ak E1.H.cQ,fU.Is n sm (λz n=>(E.G.c.ok.bd z n).2.2) λh2 q2 K ys o2 J r2 n2 f2=>⟨_,_,_,rfl,?_⟩⟩⟩;have E2:=E1.on f2;have q:=f2.get O id;obtain⟨Z,n,zm,zd,go⟩:=E2.H.use 2;have N:=E.G.c;refine⟨_,ak q,ay.2 ⟨_,ak E2.H.cQ,_,ak q,_,ak q,fU.Gz n sm (gF N.L E.hk) x.num ses λh3 Z3 C3 s3=> ?_⟩⟩;obtain⟨G,H3,S,g',i'⟩:=go h3 Z3 { σ with C:=fU.pA σ.C x.num ses } C3 s3 (λi Q=>eU.vU _ Q);refine⟨_,rfl,KJ S.fr U bO,?_⟩;have new: ∀y,h1.size<=y->¬X.M y:=λy j=>E.nM af
 have W:=o2.frame S.fr (λy j=>new y (n2 y j));have P:=S.fr.get q U;have F2:=f1.tt f2;have ll:ys.length<=30000:=by
  have e1:=bT List.length J;rw[aF]at e1;have e2:=N.L;have L:=E.hk;omega
 refine qm W rfl af P λM f4=>⟨_,rfl,?_⟩
 have st:=(bG.no F2 S).on f4;have u:=H3.on f4;refine aG.of λf' A=> ?_
 unfold EF at hk;by_cases f:fU.km σ.C.L x.num ses=0
 case neg=>
  rw[ae f]at hk;rw[ae (cy f)];subst A;dsimp only;refine aG.of λJ1 B=> ?_
  rw[dj];subst B;have eC:fU.pA σ.C x.num ses=σ.C:=by unfold fU.pA;rw[ae f]
  rw[eC]at u;exact hk M G u (iM.bad F nM st)
 rw[ag f]at hk;rw[ag (by rw[f];rfl)];cases m:fU.xD σ.C.L x.num with
 |none=>unfold fU.km at f;rw[m]at f;cases f
 |some z=>
  rw[m]at hk;dsimp only at hk;rw[<-J]at m;obtain⟨i,y,e1,e2,L⟩:=Nw m;rw[e1]at A⊢;subst A;dsimp only;refine aG.of λJ1 B=> ?_
  rw[fY];have Q:=(aA.1 e2).1;have Y:=W.frame f4 cu;obtain⟨pb,po,rfl⟩:=Y.addr af;have hh:=Y.fL gJ e2;have a':=f4.get P id;have ry:=((r2 y (aT e2)).frame S.fr (λy j=>new y j)).frame f4 cu;have w:z.d=y.v.b:=by rw[<-L];rfl
  have G4:eU.Good { σ with C:=fU.pA σ.C x.num ses } (k+1):=Good.RZ E.G E.H.ord E.hk ⟨2,x.num,ses,.zero,none,0, [],0⟩ (dL 0);have K: ∀g,dI (((AA pb po):Addr).add (i*10)) (CU y) 0 g->aX g ((((AA pb po):Addr).add (Int.toNat (i:Int)*10)).add 6)=some y.v.val:=λg m=>by
   rw[aD];exact m.2.2.2.2.2.2.1
  have E4:En V H M s G I { σ with C:=fU.pA σ.C x.num ses } (k+1):=E.step u st G4 c';refine bY.fR (x:=x.as p c s ses) a' ⟨af,ay.2 ⟨_,_,_,K _ hh,O9 (ses:=ses) (x:=x) (p:=p) (c:=c) (d:=z.d) E4 (by rw[w];exact ry.row) (by rw[w]) (by rw[w];exact ry.cap) λh5 v H5 e'=>⟨_,rfl,?_⟩⟩⟩;have t:=st.trans e';have b':=t.fr.get F nM;refine nA (z:=⟨r,0,0,(ko V { σ with C:=fU.pA σ.C x.num ses } ses z.d).2,0,none,0,0⟩) b' dH rfl λh6 d6 f6=> ?_
  subst B;dsimp only;rw[f];have d': ∀y,v.M y\/v.D y->y≠bo:=λy j e=>by
   rcases j with a|a
   .rcases t.jr y a with a|a
    .exact nM (e▸a)
    .omega
   .rcases t.kR y a with a|a
    .exact T (.inr (e▸a))
    .omega
  exact hk h6 v (H5.frame f6 (λy j e=>d' y j e)) (iM.of t f6 ⟨_,d6,λ_=>⟨none,0,rfl,Row.nil,λe=>absurd rfl e⟩⟩)

end Ask
end
section
variable {h:aj} {R:fj}
variable {x X c d f:Int} {j S:cg} {i g s k:Nat}
theorem Hz.walk{a:Int}{A:Int}{e:Int}{l:Int}{m:Int}{p:cg}{o n:Nat}{q:Int}{B:Int}{r:Int}{t:Int}{u:Int}{z:cg}{y w:Nat}(E:aQ h (.cells #[.U a,.I A,.I e,.I l,.U m,.slice p o n] 44) λb C=>aQ C (.cells #[.U q,.I B,.I r,.I t,.U u,.slice z y w] 44) λB H=>Hu H b 0 λt6=> ∃t8,Cc H B 0 (.U t8)/\if(t6==t8)then Hi H b 1 λt12=> ∃t14,Cc H B 1 (.I t14)/\if(t12==t14)then Hi H b 2 λt19=> ∃t21,Cc H B 2 (.I t21)/\if(t19==t21)then Hi H b 3 λt26=> ∃t28,Cc H B 3 (.I t28)/\if(t26==t28)then Hu H b 4 λt33=> ∃t35,Cc H B 4 (.U t35)/\if(t33==t35)then Hl H b 5 λG F T=>Hl H B 5 λK J I=>Cl 82 #[.slice G F T,.slice K J I] H λv D=> ∃t43,v=.bool t43/\R (.bool t43) D else R (.bool false) H else R (.bool false) H else R (.bool false) H else R (.bool false) H else R (.bool false) H):Cl 30 #[.agg #[.U a,.I A,.I e,.I l,.U m,.slice p o n],.agg #[.U q,.I B,.I r,.I t,.U u,.slice z y w]] h R:=aN (lq ll) Tryz.func30 E
theorem HA.walk{id:Int}{e:Int}(l:aQ h (.cells #[.U 0,.I 0,.I 0,.I 0,.U 0,.Z] 44) λb a=>ar.ST a (AA b 0) id e 0 0 0 none 0 0 λH=>ar.LD H (AA b 0) λr m n o p u t q=>R (.agg #[.U r,.I m,.I n,.I o,.U p,.slice u t q]) H):Cl 41 #[.U id,.I e] h R:=aN (lq ll) Tryz.func41 l
theorem Dm.walk{a:cg}{L l:Nat}(b:Cl 187 #[.slice a L l,.func (.func 188) #[] #[]] h λv H=> ∃t4,v=.bool t4/\R (.bool (!t4)) H):Cl 146 #[.slice a L l] h R:=aN (lq ll) Tryz.func146 b
theorem An.walk{n:Int}(H:if(decide (n<0))then R (.bool true) h else R (.bool (decide (n>1099511627776))) h):Cl 188 #[.I n] h R:=aN (lq ll) Tryz.func188 H
theorem Fu.walk (K:aQ h (.cells #[.U x,.I X,.I c,.I d,.U f,.slice j i g] 44) λb H=>aG (λ(t3:Bool) (a:aj)=>if t3 then R (.bool false) a else∃t39,Cc a b 1 (.I t39)/\if(t39 !=0)then ar.LD a (AA b 0) λT m n o p u r q=>Hu a b 0 λt43=>Hi a b 1 λt45=>Cl 41 #[.U t43,.I t45] a λv l=> ∃w y z A B E D C,v=.agg #[.U w,.I y,.I z,.I A,.U B,.slice E D C]/\dI (AA b 0) [.U T,.I m,.I n,.I o,.U p,.slice u r q] 0 l/\Cl 30 #[.agg #[.U T,.I m,.I n,.I o,.U p,.slice u r q],.agg #[.U w,.I y,.I z,.I A,.U B,.slice E D C]] l λV G=> ∃t47,V=.bool t47/\R (.bool t47) G else R (.bool true) a) (λJ=> ∃t5,Cc H b 0 (.U t5)/\if(decide (t5>1099511627776))then J true H else∃t9,Cc H b 1 (.I t9)/\if(decide (t9<0))then J true H else∃t14,Cc H b 1 (.I t14)/\if(decide (t14>99))then J true H else Hi H b 2 λt19=>Hi H b 3 λt21=>aQ H (.cells #[.I t19,.I t21] 3) λF I=>Cl 146 #[.slice (Sa F 0) 2 2] I λN e=> ∃t23,N=.bool t23/\if(!t23)then J true e else∃t28,Cc e b 4 (.U t28)/\if(decide (t28>2147483648))then J true e else∃M t L,Cc e b 5 (.slice M t L)/\J (decide (((t:Nat):Int)>600)) e)):Cl 96 #[.agg #[.U x,.I X,.I c,.I d,.U f,.slice j i g]] h R:=aN (lq (sq (bq (sq (.join [(3,.one (.bool))] lf) (cq ll (lq (cq (sq (pN 8) lf) lf))))) ll)) Tryz.func96 K
theorem Fv.walk(A:aQ h (.cells #[.U x,.I X,.I c,.I d,.U f,.slice j i g] 44) λb p=>ar.LD p (AA b 0) λB C D E F J I G=>Cl 96 #[.agg #[.U B,.I C,.I D,.I E,.U F,.slice J I G]] p λv H=> ∃t5,v=.bool t5/\if(!t5)then R (.tuple #[.Z,.I 3]) H else Hu H b 0 λt9=>Hi H b 1 λt12=>Hi H b 2 λt15=>Hi H b 3 λt18=>Hu H b 4 λt21=>Hl H b 5 λe T t=>Cl 65 #[] H λV a=>Vp V λt7=>Cc a b 5 (.slice e T t)/\Cc a b 4 (.U t21)/\Cc a b 3 (.I t18)/\Cc a b 2 (.I t15)/\Cc a b 1 (.I t12)/\Cc a b 0 (.U t9)/\Cl 72 #[.pointer t7,.U t9] a λK l=>Vp K λt10=>Cc l b 5 (.slice e T t)/\Cc l b 4 (.U t21)/\Cc l b 3 (.I t18)/\Cc l b 2 (.I t15)/\Cc l b 1 (.I t12)/\Cl 66 #[.pointer t10,.I t12] l λL m=>Vp L λt13=>Cc m b 5 (.slice e T t)/\Cc m b 4 (.U t21)/\Cc m b 3 (.I t18)/\Cc m b 2 (.I t15)/\Cl 66 #[.pointer t13,.I t15] m λM n=>Vp M λt16=>Cc n b 5 (.slice e T t)/\Cc n b 4 (.U t21)/\Cc n b 3 (.I t18)/\Cl 66 #[.pointer t16,.I t18] n λN o=>Vp N λt19=>Cc o b 5 (.slice e T t)/\Cc o b 4 (.U t21)/\Cl 72 #[.pointer t19,.U t21] o λO q=>Vp O λt22=>Cc q b 5 (.slice e T t)/\Cl 71 #[.pointer t22,.slice e T t] q λP z=>Vp P λt25=>Cl 67 #[.pointer t25] z λQ y=> ∃w u r,Q=.slice w u r/\R (.tuple #[.slice w u r,.I 0]) y):Cl 45 #[.agg #[.U x,.I X,.I c,.I d,.U f,.slice j i g]] h R:=aN (lq (sq (lq (cq ll lf)) (sq (.gY (.op 1 (.op 2 (.op 4 (.op 5 (.op 7 (.op 8 (.op 10 (.op 11 (.op 13 (.op 14 (.op 16 (.op 17 (.op 0 (.op 3 (.op 6 (.op 9 (.op 12 (.op 15 (.op 18 (.op 19 (.op 20 (.op 21 .done))))))))))))))))))))))) lf))) Tryz.func45 A
theorem HB.walk{m:cg}{l e:Nat}(E:aQ h (.cells #[.U 0,.I 0,.I 0,.I 0,.U 0,.Z] 44) λb p=>Cl 91 #[.slice m l e] p λv t=>Vp v λt7=>Cl 92 #[.pointer t7] t λt' u=>Vu t' λt9=>Cl 93 #[.pointer t7] u λu' w=>Vi u' λt11=>Cl 93 #[.pointer t7] w λv' y=>Vi v' λt13=>Cl 93 #[.pointer t7] y λw' z=>Vi w' λt15=>Cl 92 #[.pointer t7] z λx' A=>Vu x' λt17=>Cl 94 #[.pointer t7] A λy' C=>Vl y' λc' b' a'=>aQ C (.cells #[.U 0,.I 0,.I 0,.I 0,.U 0,.Z] 44) λB D=>ar.ST D (AA B 0) t9 t11 t13 t15 t17 c' b' a' λq=>aG (λ(t28:Bool) (H:aj)=>if t28 then ar.ST H (AA b 0) 0 0 0 0 0 none 0 0 λn=>ar.LD n (AA b 0) λF I L N P Y V T=>R (.tuple #[.agg #[.U F,.I I,.I L,.I N,.U P,.slice Y V T],.I 3]) n else ar.LD H (AA B 0) λl' m' n' o' p' s' r' q'=>ar.ST H (AA b 0) l' m' n' o' p' s' r' q' λo=>ar.LD o (AA b 0) λG K M O Q Z W U=>R (.tuple #[.agg #[.U G,.I K,.I M,.I O,.U Q,.slice Z W U],.I 0]) o) (λJ=>Cl 95 #[.pointer t7] q λz' a=> ∃t22,z'=.I t22/\if(t22 !=0)then J true a else ar.LD a (AA B 0) λd' e' f' g' h' k' j' i'=>Cl 96 #[.agg #[.U d',.I e',.I f',.I g',.U h',.slice k' j' i']] a λA' r=> ∃t26,A'=.bool t26/\J (!t26) r)):Cl 43 #[.slice m l e] h R:=aN (lq (lq (lq (sq (sq (.join [(28,.one (.bool))] lf) (cq ll lf)) ll)))) Tryz.func43 E
theorem kM.within.walk(a:Cl 168 #[.slice S s k,.func (.func 188) #[] #[]] h λv H=> ∃t7,v=.I t7/\R (.bool (decide (t7≥0))) H):Cl 187 #[.slice S s k,.func (.func 188) #[] #[]] h R:=aN (lq ll) Tryz.func187 a
theorem hH.within.walk(e: ∃(I:Int->aj->Prop)(m:Int->aj->Nat),I 0 h/\∀(t8:Int)(H:aj),I t8 H->if(decide (t8<(s:Int)))then((0:Int)<=t8/\t8<(s:Int))/\aM S λa=> ∃t15,aX H (a.add (toNat t8*1))=some (.I t15)/\Cl 188 #[.I t15] H λv b=> ∃t16,v=.bool t16/\if t16 then R (.I t8) b else(I (wrap .i64 (t8+1)) b/\m (wrap .i64 (t8+1)) b<m t8 H)else R (.I (-1)) H):Cl 168 #[.slice S s k,.func (.func 188) #[] #[]] h R:=aN (lq (sq (lq (bq (.loop [(8,.one (.int .i64))] (lq (sq (cq lf lf) (sq (bq (lq (lq (cq ll lf)))) lf)))))) ll)) Tryz.func168 e

end
section
open Go.fM
namespace Aq
open iD
variable {h h0:aj} {R:fj} {p q:cg} {c d:Nat}
variable {n:Nat}
abbrev val(x:RD)(p:cg)(c:Nat):Value:=.agg #[.int .u64 (x.id:Int),.int .i64 x.err,.int .i64 x.num,.int .i64 x.count,.int .u64 (x.token:Int),.slice p x.b.length c]
abbrev At(h:aj)(b:Nat)(x:RD)(p:cg)(c:Nat):Prop:=ar.at h b (x.id:Int) x.err x.num x.count (x.token:Int) p x.b.length c
theorem A2{a b:cH}{m:Nat}(r:Row h p (bc a))(g:Row h q (bc b))(f:n=a.length)(H:m=b.length)(hk:R (.bool (decide (a=b))) h):Cl 82 #[.slice p n c,.slice q m d] h R:=by
 refine xa.walk ⟨_,conv r f,_,conv g H,?_⟩;rw[nK,nK];have:(a==b)=decide (a=b):=by
  by_cases e:a=b<;>simp[e]
 rw[this];exact hk
theorem iu(x y:RD)(r:Row h p (bc x.b))(j:Row h q (bc y.b))(hk: gU h R (.bool (decide (x.same y)))):Cl 30 #[val x p c,val y q d] h R:=by
 refine Hz.walk (ar.box λb k _ i f1=>ar.box λB g _ H f2=> ?_);have a:=f2.get i id;have f12:=f1.tt f2;have hk:=hk g f12;unfold RD.same at hk;refine⟨_,ak a,_,ak H,?_⟩;by_cases E:x.id=y.id
 .rw[ag (by rw[E];simp)];refine⟨_,ak a,_,ak H,?_⟩;by_cases e1:x.err=y.err
  .rw[ag (by rw[e1];simp)];refine⟨_,ak a,_,ak H,?_⟩;by_cases e2:x.num=y.num
   .rw[ag (by rw[e2];simp)];refine⟨_,ak a,_,ak H,?_⟩;by_cases e:x.count=y.count
    .rw[ag (by rw[e];simp)];refine⟨_,ak a,_,ak H,?_⟩;by_cases f:x.token=y.token
     .rw[ag (by rw[f];simp)];refine⟨_,_,_,ak a,_,_,_,ak H,A2 (r.frame f12 cu) (j.frame f12 cu) rfl rfl ⟨_,rfl,?_⟩⟩;simpa[E,e1,e2,e,f]using hk
     .rw[ae (by simp;omega)];simpa[f]using hk
    .rw[ae (cy e)];simpa[e]using hk
   .rw[ae (cy e2)];simpa[e2]using hk
  .rw[ae (cy e1)];simpa[e1]using hk
 .rw[ae (by simp;omega)];simpa[E]using hk
def I7(id:Nat)(e:Int):RD:=⟨id,e,0,0,0, []⟩
theorem lH{i:Int}(id:Nat)(f:i=(id:Int))(e:Int)(hk: gU h R (val (I7 id e) none 0)):Cl 41 #[.U i,.I e] h R:=by
 subst f;refine HA.walk (ar.new λb H _ a f1=>ar.ld a ?_);exact hk H f1
def NQ(n:Int):Bool:=decide (0<=n/\n<=1099511627776)
theorem QK(n:Int)(hk:R (.bool (!NQ n)) h):Cl 188 #[.I n] h R:=by
 refine An.walk ?_;unfold NQ at hk;by_cases H:n<0
 .simpa[H,show¬0<=n by omega]using hk
 .by_cases a:n>1099511627776
  .simpa[H,a,show¬n<=1099511627776 by omega]using hk
  .simpa[H,a,show 0<=n by omega,show n<=1099511627776 by omega]using hk
theorem wx {ns : List Int} {n m : Nat} (hr : Row h p (ns.map (.int .i64 ·))) (hn : n = ns.length) (hl : ns.length ≤ 1000000) (hk : R (.bool (ns.all NQ)) h) : Cl 146 #[.slice p n m] h R := by
  subst hn
  refine Dm.walk (kM.within.walk (hH.within.walk ?_))
  refine ⟨λi h' => h' = h ∧ ∃ k : Nat, i = (k : Int) ∧ k ≤ ns.length ∧ ∀ j, j < k → NQ (ns.getD j 0) = true, λi _ => ns.length - i.toNat, ⟨rfl, 0, rfl, by omega, λj hj => by omega⟩, ?_⟩
  rintro _ h1 ⟨rfl, k, rfl, U9, Sg⟩
  by_cases Q2 : k < ns.length
  · have : (k : Int) < (ns.length : Int) := by omega
    simp only [this, decide_true, if_true, Int.toNat_natCast]
    obtain ⟨a, rfl, ck⟩ := FV hr Q2
    refine ⟨⟨by omega, trivial⟩, ay.2 ⟨_, ck, QK _ ⟨_, rfl, ?_⟩⟩⟩
    cases hb : NQ (ns.getD k 0) with
    | false =>
      simp only [Bool.not_false, if_true]
      refine ⟨_, rfl, ⟨_, rfl, ?_⟩⟩
      have : ns.all NQ = false := by
        rw [List.all_eq_false]
        exact ⟨_, Ll Q2, by rw [hb]; simp⟩
      rw [this] at hk
      have h0 : (k : Int) ≥ 0 := by omega
      simpa [h0] using hk
    | true =>
      simp only [Bool.not_true, Bool.false_eq_true, if_false]
      rw [bA (by omega) (by omega)]
      refine ⟨⟨trivial, k + 1, by omega, by omega, λj hj => ?_⟩, ?_⟩
      · by_cases q : j = k
        · subst q; exact hb
        · exact Sg j (by omega)
      · show ns.length - Int.toNat ((k : Int) + 1) < ns.length - Int.toNat (k : Int); omega
  · have : ¬ (k : Int) < (ns.length : Int) := by omega
    simp only [this, decide_false, Bool.false_eq_true, if_false]
    refine ⟨_, rfl, ⟨_, rfl, ?_⟩⟩
    have : ns.all NQ = true := by
      rw [List.all_eq_true]
      intro n hn
      obtain ⟨j, hj⟩ := List.getElem?_of_mem hn
      have Wv := (List.getElem?_eq_some_iff.1 hj).1
      have := Sg j (by omega)
      rwa [List.getD_eq_getElem?_getD, hj] at this
    rw [this] at hk
    simpa using hk
theorem fc(x:RD)(w:Row h p (bc x.b))(hk: gU h R (.bool (decide x.mc))):Cl 96 #[val x p c] h R:=by
 refine Fu.walk (ar.box λb l _ f f1=>aG.of λJ m=> ?_);have j: ∀a,Fr No h a->¬x.mc->J true a:=by
  intro a f2 s;subst m;simp only[bf];have:=hk a f2;rwa[az s]at this
 have t: ∀a,At a b x p c->Fr No h a->x.id<=1099511627776->(0<=x.err/\x.err<=99)->(0<=x.num/\x.num<=1099511627776)->(0<=x.count/\x.count<=1099511627776)->x.token<=2147483648->x.b.length<=600->J false a:=by
  intro a g f2 q1 q2 q3 q4 Q q6;subst m;simp only[aq,aJ];refine⟨_,ak g,?_⟩;by_cases i:x.err=0
  .rw[ae (by simp[i])];have:=hk a f2;rwa[au (show x.mc from⟨q1,q2,q3,q4,Q,q6,λh=>absurd i h⟩)]at this
  .rw[ag (cy i)];refine ar.ld g ⟨_,ak g,_,ak g,lH x.id rfl x.err λy f3=>⟨_,_,_,_,_,_,_,_,rfl,(ar.held (f3.get g id)),?_⟩⟩;have f23:=f2.tt f3;refine iu x (I7 x.id x.err) (w.frame f23 cu) (.inl rfl) λr f4=>⟨_,rfl,?_⟩
   have e:decide (x.same (I7 x.id x.err))=decide x.mc:=by
    unfold RD.same RD.mc I7;simp[q1,q2,q3,q4,Q,q6,i]
   rw[e];exact hk r (f23.tt f4)
 clear m;refine⟨_,ak f,?_⟩;by_cases q1:x.id<=1099511627776
 .rw[ae (by simp;omega)];refine⟨_,ak f,?_⟩;by_cases q2:0<=x.err
  .rw[ae (by simp;omega)];refine⟨_,ak f,?_⟩;by_cases q3:x.err<=99
   .rw[ae (by simp;omega)];refine⟨_,ak f,_,ak f,cG ?_⟩;refine wx (ns:= [x.num,x.count]) jl rfl bO ⟨_,rfl,?_⟩;have f5:=f1.tt (Fr.push l (.cells #[.I x.num,.I x.count] 3));have o:At _ b x p c:=(Fr.push (S:=λ_=>False) l (.cells #[.I x.num,.I x.count] 3)).get f id;generalize l.push (.cells #[.I x.num,.I x.count] 3)=z at*;cases k: [x.num,x.count].all NQ with
    |false=>
     simp only[ee,bf];refine j _ f5 λH=> ?_
     obtain⟨_,_,u,v,_⟩:=H;simp[NQ,u,v]at k
    |true=>
     simp only[cV,aq,aJ];simp[NQ]at k;refine⟨_,ak o,?_⟩;by_cases Q:x.token<=2147483648
     .rw[ae (by simp;omega)];refine⟨_,_,_,ak o,?_⟩;by_cases q6:x.b.length<=600
      .have:decide ((x.b.length:Int)>600)=false:=by simp;omega
       rw[this];exact t _ o f5 q1 ⟨q2,q3⟩ k.1 k.2 Q q6
      .have:decide ((x.b.length:Int)>600)=true:=by simp;omega
       rw[this];exact j _ f5 λH=>q6 H.2.2.2.2.2.1
     .rw[ag (by simp;omega)];exact j _ f5 λH=>Q H.2.2.2.2.1
   .rw[ag (by simp;omega)];exact j _ f1 λH=>q3 H.2.1.2
  .rw[ag (by simp;omega)];exact j _ f1 λH=>q2 H.2.1.1
 .rw[ag (by simp;omega)];exact j _ f1 λH=>q1 H.1
theorem Nx(x:RD)(r:Row h p (bc x.b))(k1:x.mc->∀h' q d,fi h' q x.enc.length d 1 (bc x.enc)->Fr No h h'->(∀y,aL q y->h.size<=y)->R (.tuple #[.slice q x.enc.length d,.I 0]) h')(k2: ¬x.mc->gU h R (.tuple #[.Z,.I 3])):Cl 45 #[val x p c] h R:=by
 refine Fv.walk (ar.box λb h1 eb o f1=>ar.ld o ?_);refine fc x (r.frame f1 cu) λk f2=>⟨_,rfl,?_⟩
 by_cases g:x.mc
 .rw[au g];simp only[cV,aq,aJ];obtain⟨q1,⟨q2,c'⟩,⟨q3,d'⟩,⟨q4,e'⟩,q5,q6,_⟩:=id g;have H:=f2.get o id;have F:=f1.tt f2;refine⟨_,ak H,_,ak H,_,ak H,_,ak H,_,ak H,_,_,_,ak H,?_⟩;refine gC λY f' P I f3 W=>⟨_,rfl,?_⟩
  have B:=f3.get H id;have U:Up k P Y:=⟨f3,W⟩;have N: ∀{S:Nat->Prop}{h':aj},Up k S h'->¬S b:=λu hx=>by have:=u.ge b hx;have:=aC H;omega
  refine⟨ak B,ak B,ak B,ak B,ak B,ak B,?_⟩;refine fN x.id I bO rfl af λh4 S4 J s=>⟨_,rfl,?_⟩
  have a:=s.fr.get B (N U);have A:=U.step s;have l1:=(cj x.id).2;refine⟨ak a,ak a,ak a,ak a,ak a,?_⟩;refine ie J (by simp only[cD];omega) af λh5 S5 K t=>⟨_,rfl,?_⟩
  have f:=t.fr.get a (N A);have C:=A.step t;have l2:=(cj (fO x.err)).2;refine⟨ak f,ak f,ak f,ak f,?_⟩;refine ie K (by simp only[cD,av];omega) af λh6 S6 L v=>⟨_,rfl,?_⟩
  have i:=v.fr.get f (N C);have D:=C.step v;have l3:=(cj (fO x.num)).2;refine⟨ak i,ak i,ak i,?_⟩;refine ie L (by simp only[cD,av];omega) af λh7 S7 M w=>⟨_,rfl,?_⟩
  have j:=w.fr.get i (N D);have E:=D.step w;have l4:=(cj (fO x.count)).2;refine⟨ak j,ak j,?_⟩;refine fN x.token M (by simp only[cD,av];omega) rfl af λh8 S8 O z=>⟨_,rfl,?_⟩
  have Q:=z.fr.get j (N E);have u8:=E.step z;have l5:=(cj x.token).2;have T:=F.tt u8.fr;refine⟨ak Q,?_⟩;refine uh O (by simp only[cD,av];omega) (r.frame T cu) rfl af (λy l a' Z=> ?_) λh9 S9 m s9=>⟨_,rfl,?_⟩
  .have:=iI r (λe=>a' (List.map_eq_nil_iff.1 e)) l;have:=u8.ge y Z;have:=F.1;omega
  have G:=u8.step s9;have he: []++dt x.id++dt (fO x.err)++dt (fO x.num)++dt (fO x.count)++dt x.token++ga x.b=x.enc:=rfl;rw[he]at m;refine jh m (bX (jH q6)) λq d X b' f10 V=>⟨_,_,_,rfl,?_⟩
  exact k1 g X q d b' (F.tt (G.fr.tt f10)) (λy l=>gF (V y l) ((F.tt G.fr).1))
 .rw[az g];simp only[ee,bf];exact k2 g k (f1.tt f2)
theorem ui{bs:cH}(rb:Row h p (bc bs))(hn:n=bs.length)(hl:bs.length<=70368744177664)(k1: ∀x,CB bs=some x->∀h' q d,fi h' q x.b.length d 1 (bc x.b)->Fr No h h'->(∀y,aL q y->h.size<=y)->R (.tuple #[val x q d,.I 0]) h')(k2:CB bs=none->gU h R (.tuple #[val RD.zero none 0,.I 3])):Cl 43 #[.slice p n c] h R:=by
 refine HB.walk (ar.box (f5l:=0) λb W eb hb f1=> ?_);refine iD.ui (rb.frame f1 cu) hn hl λh2 r T f f2 g2=>⟨_,rfl,?_⟩
 have u2:Up W T h2:=⟨f2,g2⟩;refine xT f λh3 k f3=>⟨_,rfl,?_⟩
 have u3:=u2.Bi f3 (λy e=>e▸f.self);have la:=pZ 0 bs;generalize hA:eN 0 bs=A at k la⊢;obtain⟨a,P,t⟩:=A;dsimp only at k la⊢;refine CK k λh4 l f4=>⟨_,rfl,?_⟩
 have u4:=u3.Bi f4 (λy e=>e▸f.self);have lb:(kA P t).2.2.length<=t.length:=oM _ P t;generalize Y:kA P t=B at l lb⊢;obtain⟨u,Q,v⟩:=B;dsimp only at l lb⊢;refine CK l λh5 m f5=>⟨_,rfl,?_⟩
 have u5:=u4.Bi f5 (λy e=>e▸f.self);have lc:(kA Q v).2.2.length<=v.length:=oM _ Q v;generalize Z:kA Q v=C at m lc⊢;obtain⟨w,U,z⟩:=C;dsimp only at m lc⊢;refine CK m λh6 o f6=>⟨_,rfl,?_⟩
 have u6:=u5.Bi f6 (λy e=>e▸f.self);have ld:(kA U z).2.2.length<=z.length:=oM _ U z;generalize hD:kA U z=D at o ld⊢;obtain⟨E,de,dr⟩:=D;dsimp only at o ld⊢;refine xT o λh7 s f7=>⟨_,rfl,?_⟩
 have u7:=u6.Bi f7 (λy e=>e▸f.self);have lf:=pZ de dr;generalize hF:eN de dr=F at s lf⊢;obtain⟨I,fe,fr⟩:=F;dsimp only at s lf⊢;refine LS s af λh8 q d M O g8 f8=>⟨_,_,_,rfl,?_⟩
 have u8:=u7.Bi f8 (λy e=>e▸f.self);generalize hG:jC fe fr=G at M O⊢;obtain⟨J,ge,j⟩:=G;dsimp only at M O⊢;have hX:Rh 1099511627776 hU bs=⟨⟨a,u,w,E,I,J⟩,ge,j⟩:=by
  unfold kA at Y Z hD;unfold Rh;simp only[hA,Y,Z,hD,hF,hG]
 have g':CB bs=wS ⟨⟨a,u,w,E,I,J⟩,ge,j⟩:=by unfold CB;rw[hX]
 clear hX hA Y Z hD hF hG la lb lc ld lf k l m o s f3 f4 f5 f6 f7 f8;generalize g:(⟨a,u,w,E,I,J⟩:RD)=x at*;have e0:a=x.id:=by rw[<-g]
 have e1:(u:Int)=x.err:=by rw[<-g]
 have e2:(w:Int)=x.num:=by rw[<-g]
 have e3:(E:Int)=x.count:=by rw[<-g]
 have e4:I=x.token:=by rw[<-g]
 have V:J=x.b:=by rw[<-g]
 rw[e0,e1,e2,e3,e4,V];rw[V]at O;clear g e0 e1 e2 e3 e4 V;refine ar.new λb1 X s' f' f15=> ?_
 have a':At X b RD.zero none 0:=f15.get (u8.fr.get hb id) id;have N:Fr No h X:=f1.tt (u8.fr.tt f15);have i':=O.frame f15 cu;have gq: ∀y,aL q y->W.size<=y:=λy i=>by have:=g8 y i;have:=u7.fr.1;omega
 have bne:b≠b1:=λe=>by have:=aC (u8.fr.get hb id);omega
 have t':b<W.size:=aC hb;refine aG.of λc' hJ=> ?_
 have jt:wS ⟨x,ge,j⟩=none->∀H,At H b RD.zero none 0->Fr No h H->c' true H:=by
  intro hn H b' f16;subst hJ;simp only[bf];refine ar.set b' λj' l' q' o'=>ar.ld l' ?_
  exact k2 (g'.trans hn) j' (f16.step (Fr.of_eq (S:=λy=>y=b) q' o') (λy i e=>af))
 have jf:wS ⟨x,ge,j⟩=some x->∀H,At H b RD.zero none 0->At H b1 x q d->fi H q x.b.length d 1 (bc x.b)->Fr No h H->c' false H:=by
  intro hs H b' k' n' f16;subst hJ;simp only[aq,aJ];refine ar.ld k' (ar.set b' λd' m' r' p'=>ar.ld m' ?_);have f28:Fr (λy=>y=b) H d':=Fr.of_eq r' p';refine k1 x (g'.trans hs) d' q d (n'.frame f28 (λy i e=> ?_)) (f16.step f28 (λy i e=>af)) (λy i=> ?_)
  .have:=gq y i;omega
  .have:=gq y i;have:=f1.1;omega
 clear hJ;refine Oe (M.frame f15 cu) ⟨_,rfl,?_⟩;by_cases K:tM ge j=0
 .rw[ae (cy K)];refine ar.ld f' (fc x i'.jb λe' f30=>⟨_,rfl,?_⟩);by_cases L:x.mc
  .rw[au L];exact jf (by unfold wS;rw[ag ⟨K,L⟩]) e' (f30.get a' id) (f30.get f' id) (i'.frame f30 cu) (N.tt f30)
  .rw[az L];exact jt (by unfold wS;rw[ae (λhh=>L hh.2)]) e' (f30.get a' id) (N.tt f30)
 .rw[ag (cy K)];exact jt (by unfold wS;rw[ae (λhh=>K hh.1)]) X a' N

end Aq
end
section
namespace Ask
open iT (Ev cN)
open eU (SS Good Pt sP Mk)
open Bn (iB)
variable {V:cH→Bool} {h h' u H g:aj} {R:fj} {s k bo t c:Nat} {X l:Ft} {I:sP} {σ:SS} {p:cg} {ses:Int} {x:Rq} {D:Nat→Prop} {o:Ot}
theorem iM.no(f:Fr No h H)(O:iM X H bo t o l h'):iM X h bo t o l h':=by
 have z:=f.1;refine⟨Fr.no f O.fr,λc b=>(O.jr c b).imp _root_.id (λa=>af),λc b=>(O.kR c b).imp _root_.id (λa=>af),O.vk,?_⟩;obtain⟨y,m,j⟩:=O.at';refine⟨y,m,λi=> ?_⟩;obtain⟨p,c,e,r,n⟩:=j i;exact⟨p,c,e,r,λhd z d=>⟨(n hd z d).1.imp (λa=>af) _root_.id,(n hd z d).2⟩⟩
theorem iM.num{st1:bG X h l H}(n c:Int)(f:Fr (λy=>y=bo) H h')(a:ar.fV h' bo ⟨t,0,n,c,0,none,0,0⟩){σ:SS}{e:Int}:iM X h bo t ⟨σ,e,n,c, []⟩ l h':=
 iM.of st1 f ⟨_,a,λ_=>⟨none,0,rfl,Row.nil,λe=>absurd rfl e⟩⟩
theorem QL(st:bG X h l H)(n: ¬(X.M bo\/X.D bo))(z:bo<h.size): ∀y,l.M y\/l.D y->y≠bo:=λy b e=>by
 subst e;rcases b with a|a
 .rcases st.jr _ a with a|a
  .exact n (.inl a)
  .omega
 .rcases st.kR _ a with a|a
  .exact n (.inr a)
  .omega
theorem Fw(a:kx x=true):kU x=true:=by unfold kx at a;simp only[aR]at a;exact a.1.2
theorem Si(E:En V u h s X I σ k)(c':k+1<=30000)(hr:kx x=true)(w1:0<=x.ep.fX)(w2:0<=x.dest.fX)(rx:Row h p (bc x.nj))(cap:x.nj.length<=c)(n:ar.fV h bo (y0 t))(N: ¬(X.M bo\/X.D bo))(hk: ∀h' l,Pt h' s l I (th V σ ses x).σ->iM X h bo t (th V σ ses x) l h'->R (.I (th V σ ses x).e) h'):
  Cl 44 #[(x.as p c s ses).agg,.P bo 0] h R:=by
 refine Da.walk (bY.db (x:=x.as p c s ses) λb H eb d f1=>⟨_,ak d,?_⟩);have E1:=E.on f1;have nM: ¬X.M bo:=λe=>N (.inl e)
 have zo:=aC n;have z1:=f1.1;have A: ¬X.M b:=E.nM af;have M:=f1.get n id;have sm:=E.G.small E.H.ord (bX E.hk);have cL:=E.G.c.L;have ek:=E.hk;have pr:=Fw hr;unfold th at hk;unfold kU at pr;by_cases Q:x.kind=1
 .rw[ag Q]at hk;rw[ag (bq.2 Q)];obtain⟨Z,q,L,J,go⟩:=E1.H.use 1;refine⟨_,ak d,ay.2 ⟨_,ak E1.H.cQ,iB x.ep d rfl rfl rfl rfl rfl ⟨_,ak d,_,ak d,gg.zh q ⟨x.ep,x.jA,ses⟩ E.G.g.len λf T F=> ?_⟩⟩⟩;obtain⟨m,j,S,_,_⟩:=go f Z { σ with G:=gg.xB σ.G ⟨x.ep,x.jA,ses⟩ } T F (λi r=>eU.GC _ r);exact⟨_,rfl,KJ S.fr A bO,hk f m j (iM.bad n nM (bG.no f1 S))⟩
 rw[ae Q]at hk;rw[ae (λe=>Q (bq.1 e))];by_cases W:x.kind=2
 .rw[ag W]at hk;rw[ag (bq.2 W)];obtain⟨Z,q,L,J,go⟩:=E1.H.use 1;refine⟨_,ak d,ay.2 ⟨_,ak E1.H.cQ,iB x.ep d rfl rfl rfl rfl rfl ⟨_,ak d,gg.nV q x.ep ses λh3 T3 s3=> ?_⟩⟩⟩;obtain⟨X3,v,a',_,_⟩:=go h3 Z { σ with G:=gg.zu σ.G x.ep ses } T3 s3 (λi r=>eU.GC _ r);have qc:=bG.no f1 a';refine⟨_,rfl,KJ a'.fr A bO,aG.of λe' hJ=> ?_⟩;by_cases w:gg.jg σ.G x.ep ses=0
  case neg=>
   rw[ae w]at hk;rw[ae (cy w)];subst hJ;have eG:gg.zu σ.G x.ep ses=σ.G:=by unfold gg.zu;rw[ae w]
   rw[eG]at v;exact hk h3 X3 v (iM.bad n nM qc)
  rw[ag w]at hk;rw[ag (by rw[w];rfl)];have P:=a'.fr.get d A;obtain⟨Z,q,L,J,go⟩:=v.use 2;have d': ¬X3.M b:=λhm=>by
   rcases a'.jr b hm with a|a
   .exact A a
   .have:=aC d;omega
  refine⟨_,ak P,ay.2 ⟨_,ak v.cQ,iB x.ep P rfl rfl rfl rfl rfl (fU.oR q sm (by show σ.C.gone<=_;omega) x.ep λh5 Z5 p5 c5 C5 s5 N5 n5=> ?_)⟩⟩;obtain⟨X5,H5,b',_,_⟩:=go h5 Z5 { σ with G:=gg.zu σ.G x.ep ses,C:=fU.uM σ.C x.ep } C5 s5 (λi r=>eU.vU (σ:= { σ with G:=gg.zu σ.G x.ep ses }) _ r);have st:=qc.trans b';refine⟨_,_,_,rfl,KJ b'.fr d' bO,nA (z:=⟨t,0,0,((fU.kN σ.C.L x.ep).length:Int),0,none,0,0⟩) (st.fr.get n nM) dH rfl λh6 d6 f6=> ?_⟩;subst hJ;rw[w];exact hk h6 X5 (H5.frame f6 (λy hy e=>QL st N zo y hy e)) (iM.num (st1:=st) 0 _ f6 d6)
 rw[ae W]at hk;rw[ae (λe=>W (bq.1 e))];by_cases Y:x.kind=3
 .rw[ag Y]at hk;rw[ag (bq.2 Y)];obtain⟨Z,q,L,J,go⟩:=E1.H.use 1;refine⟨_,ak d,ay.2 ⟨_,ak E1.H.cQ,iB x.ep d rfl rfl rfl rfl rfl ⟨_,ak d,_,ak d,gg.JN q x.ep ses x.jA λf T F=> ?_⟩⟩⟩;obtain⟨m,j,S,_,_⟩:=go f Z { σ with G:=gg.Eu σ.G x.ep ses x.jA } T F (λi r=>eU.GC _ r);exact⟨_,rfl,KJ S.fr A bO,hk f m j (iM.bad n nM (bG.no f1 S))⟩
 rw[ae Y]at hk;rw[ae (λe=>Y (bq.1 e))];by_cases K:x.kind=4
 .rw[ag K]at hk;rw[ag (bq.2 K)];rw[dj,dj,ag K]at pr;simp only[aR,aY]at pr;exact bY.fR (x:=x.as p c s ses) d (O6 E1 (rx.frame f1 cu) cap af w1 w2 M N λf m j O=>⟨_,rfl,hk f m j (iM.no f1 O)⟩)
 rw[ae K]at hk;rw[ae (λe=>K (bq.1 e))];by_cases k5:x.kind=5
 .rw[ag k5]at hk;rw[ag (bq.2 k5)];exact⟨_,ak d,_,ak d,_,ak d,eU.vM E1.H E.G E.hk λf m j S=>⟨_,rfl,hk f m j (iM.bad n nM (bG.no f1 S))⟩⟩
 rw[ae k5]at hk;rw[ae (λe=>k5 (bq.1 e))];by_cases k6:x.kind=6
 .rw[ag k6]at hk;rw[ag (bq.2 k6)];obtain⟨Z,q,L,J,go⟩:=E1.H.use 2;refine⟨_,ak d,ay.2 ⟨_,ak E1.H.cQ,iB x.ep d rfl rfl rfl rfl rfl (fU.MB q sm x.ep λf f2=>⟨_,rfl,f2.kp,?_⟩)⟩⟩;have F2:=f1.tt f2;refine nA (z:=⟨t,0,(fU.GK σ.C.L x.ep:Int),0,0,none,0,0⟩) (F2.get n id) dH rfl λh3 d3 f3=> ?_
  have P:=f3.get (f2.get d id) (λe=>bX (aC n));have v:=(E.H.on F2).frame f3 (λy hy e=>N (e▸hy));refine bY.fR (x:=x.as p c s ses) P (Dk v λh4 f4=>⟨_,rfl,?_⟩);exact hk h4 X (v.on f4) (iM.num (st1:=bG.im F2) _ 0 (f3.on f4) (f4.get d3 id))
 rw[ae k6]at hk;rw[ae (λe=>k6 (bq.1 e))];by_cases B:x.kind=7
 .rw[ag B]at hk;rw[ag (bq.2 B)];rw[dj,dj,ae K,dj,ag B]at pr;simp only[aR,aY]at pr;exact bY.fR (x:=x.as p c s ses) d (O7 E1 af M N λf m j O=>⟨_,rfl,hk f m j (iM.no f1 O)⟩)
 rw[ae B]at hk;rw[ae (λe=>B (bq.1 e))];by_cases k8:x.kind=8
 .rw[ag k8]at hk;rw[ag (bq.2 k8)];exact bY.fR (x:=x.as p c s ses) d (Gz E1 c' M N λf m j O=>⟨_,rfl,hk f m j (iM.no f1 O)⟩)
 rw[ae k8]at hk;rw[ae (λe=>k8 (bq.1 e))];by_cases k9:x.kind=9
 .rw[ag k9]at hk;rw[ag (bq.2 k9)];obtain⟨Z,q,L,J,go⟩:=E1.H.use 2;refine⟨_,ak d,ay.2 ⟨_,ak E1.H.cQ,_,ak d,_,ak d,fU.GA q sm x.num ses λf Z2 T F=> ?_⟩⟩;obtain⟨m,j,S,_,_⟩:=go f Z2 { σ with C:=fU.zA σ.C x.num ses } T F (λi r=>eU.vU _ r);exact⟨_,rfl,KJ S.fr A bO,hk f m j (iM.bad n nM (bG.no f1 S))⟩
 rw[ae k9]at hk;rw[ae (λe=>k9 (bq.1 e))];by_cases U:x.kind=10
 .rw[ag U]at hk;rw[ag (bq.2 U)];exact bY.fR (x:=x.as p c s ses) d (ze E1 M N λf m j O=>⟨_,rfl,hk f m j (iM.no f1 O)⟩)
 rw[ae U]at hk;rw[ae (λe=>U (bq.1 e))];exact hk H X E1.H (iM.bad n nM (bG.im f1))
theorem Pa{A:List fx.fx}(ok:fx.pz A){m:Int}{j:Nat}{b:cH}(h:fx.rW A m j=some b):b.length<=1000:=by
 unfold fx.rW at h;split at h
 .cases h
 .rename_i z f;obtain⟨i,_,e⟩:=fx.vK f;unfold fx.Em at h;obtain⟨a,d,rfl⟩:=Option.map_eq_some_iff.1 h;exact((ok.at_ i z e).kd a (List.mem_of_find?_eq_some d)).2
abbrev rS(y:Go.fM.RD)(p:cg)(c:Nat):ar.S:=⟨(y.id:Int),y.err,y.num,y.count,(y.token:Int),p,y.b.length,c⟩
theorem Fx{b:Nat}{y z:ar.S}{K:ar.S->aj->Prop}(a:ar.fV h b y)(hk: ∀h',Fr (λy=>y=b) h h'->K z h'):
  ar.dv h (AA b 0) z λg=>ar.cO g (AA b 0) λr=>K r g:=
 ar.hM (x:=z) a λg d1 f _=>ar.fR d1 (hk g f)
theorem PN(E:En V u h s X I σ k)(B':k+1<=30000)(w1:0<=x.ep.fX)(w2:0<=x.dest.fX)(rx:Row h p (bc x.nj))(cap:x.nj.length<=c)(hk: ∀h' l q d,Pt h' s l I (oS V σ ses x).1->bG X h l h'->Row h' q (bc (oS V σ ses x).2.b)->((oS V σ ses x).2.b≠ []->∀y,aL q y->¬l.M y)->R (Aq.val (oS V σ ses x).2 q d) h'):
  Cl 13 #[pt s,.I ses,(x.s p c).agg] h R:=by
 refine He.walk (aE.db (x:=x.s p c) λb H eb hb f1=>ar.db (x:=.z) λb1 h2 M' L f2=>aG.of λq' hJ=> ?_);have Q:=f1.tt f2;have E2:=E.on Q;have b':=f2.get hb _root_.id;have z1:=f1.1;have z2:=f2.1;have B:=E2.H.cQ;have fl: ∀(g:aj)(e:Int),Fr No h2 g->oS V σ ses x=(σ,qH x.id e)->Cl 41 #[.U (x.id:Int),.I e] g λv w'=>ar.EX λt62=>v=t62.agg/\ar.dv w' (AA b1 0) t62 λn'=>ar.cO n' (AA b1 0) λr0=>R (r0.agg) n':=by
  intro g e r hq;rw[hq]at hk;refine Aq.lH x.id rfl e λh' F=>ar.ex (rS (qH x.id e) none 0) ⟨rfl,Fx ((r.tt F).get L _root_.id) λt' s'=> ?_⟩
  have S:=(Q.tt (r.tt F)).fresh s' (λy e=>af);exact hk t' X none 0 (E.H.on S) (bG.im S) Row.nil (λe=>absurd rfl e)
 have r': ∀(e:Int),¬(kx x=true/\x.kind<11)->oS V σ ses x=(σ,qH x.id 3):=λe hn=>by unfold oS;rw[ae hn]
 have key:q' false h2:=by
  subst hJ;dsimp only;rw[dj];refine aG.of λJ1 i'=>aE.fR (x:=x.s p c) b' (fc x (rx.frame Q (λ_ _=>_root_.id)) λh3 f3=>⟨_,rfl,?_⟩)
  have Y:=f3.get b' _root_.id;have P':J1 true h3->True:=λ_=>trivial
  have bad: ¬(kx x=true/\x.kind<11)->J1 true h3:=by
   intro hn;subst i';try dsimp only
   rw[ag rfl];exact⟨_,ak Y,fl h3 3 f3 (r' 0 hn)⟩
  cases hr:kx x with
  |false=>rw[fY];exact bad (λe=>by rw[hr]at e;cases e.1)
  |true=>
  rw[dj];refine⟨_,ak Y,?_⟩;by_cases e':x.kind<11
  case neg=>
   have:decide ((x.s p c).f1≥11)=true:=au (by show x.kind≥11;omega);rw[this];exact bad (λe=>e' e.2)
  have:decide ((x.s p c).f1≥11)=false:=az (by show¬x.kind≥11;omega);rw[this];subst i';dsimp only;rw[dj];have E3:=E2.on f3;obtain⟨Z,n,_⟩:=E3.H.use 0;unfold oS at hk fl;rw[ag ⟨hr,e'⟩]at hk;simp only[ag (show kx x=true/\x.kind<11 from⟨hr,e'⟩)]at fl;refine⟨_,ak E3.H.cQ,fx.Ie n E.G.a ⟨_,rfl,?_⟩⟩;cases hu:fx.KV σ.A ses with
  |false=>
   rw[fY];exact⟨_,ak Y,fl h3 16 f3 (by rw[hu];rfl)⟩
  |true=>
  rw[hu,ag rfl]at hk;rw[dj];refine⟨_,ak E3.H.cQ,_,ak Y,fx.OR x.id rfl n E.G.a (λkb c' h4 p4 c4 o4 f4 n4=>⟨_,_,_,_,rfl,?_⟩) (λc' h4 f4=>⟨_,_,_,_,rfl,?_⟩)⟩
  .rw[c']at hk;rw[ag rfl];dsimp only at hk;have F4:=Q.tt (f3.tt f4);have z3:=f3.1;have z4:=f4.1;have fin: ∀(g:aj)(y:Go.fM.RD)(q:cg)(d:Nat),(Go.fM.CB kb).getD Go.fM.RD.zero=y->Row g q (bc y.b)->(∀z,aL q z->h4.size<=z)->Fr No h4 g->
     aQ g (.cells ar.S.z.arr 44) λg' v'=>
     ar.dv v' (AA g' 0) (rS y q d) λj'=>
     ar.cO j' (AA g' 0) λt103=>
     ar.dv j' (AA b1 0) t103 λk'=>
     ar.cO k' (AA b1 0) λG'=>
     R (G'.agg) k':=by
    intro g y q d j row N r;refine ar.gh (x:=rS y q d) λb2 g2 N' b' f5=>ar.fR (x:=rS y q d) b' (Fx ((f3.tt (f4.tt (r.tt f5))).get L _root_.id) λg3 f6=> ?_)
    have S:=(F4.tt (r.tt f5)).fresh f6 (λy e=>af);have rr:=((row.frame f5 (λ_ _=>_root_.id)).frame f6 (λa T C=>by have:=N a.block ⟨a,T,rfl⟩;have C:a.block=b1:=C;have:=aC L;omega));rw[j]at hk;exact hk g3 X q d (E.H.on S) (bG.im S) rr (λ_ z n m=>gF (N z n) (E.H.lt z (.inl m)))
   refine Aq.ui o4.jb rfl (bX (Pa E.G.a c')) (λy j K q d o5 f5 n5=>ar.ex (rS y q d) ⟨_,rfl,?_⟩) (λj K f5=>ar.ex (rS .zero none 0) ⟨_,rfl,?_⟩)
   .exact fin K y q d (by rw[j];rfl) o5.jb n5 f5
   .exact fin K .zero none 0 (by rw[j];rfl) Row.nil (λz n=>by obtain⟨a,e,_⟩:=n;cases e) f5
  .rw[c']at hk;rw[dj];dsimp only at hk;have F4:=Q.tt (f3.tt f4);have z3:=f3.1;have z4:=f4.1;have a':=f4.get Y _root_.id;refine⟨_,ak a',ar.gh (x:=y0 x.id) λw K O' o' f5=>aE.fR (x:=x.s p c) (f5.get a' _root_.id) ?_⟩;have F5:=F4.tt f5;have E5:=E.on F5;have z5:=f5.1;have M: ∀y,h.size<=y->¬(X.M y\/X.D y):=λy j m=>by have:=E.H.lt y m;omega
   refine Si (p:=p) (c:=c) (ses:=ses) E5 B' hr w1 w2 (rx.frame F5 (λ_ _=>_root_.id)) cap o' (M w af) λU J H6 O=>⟨_,rfl,aG.of λJ2 u'=> ?_⟩
   have sG:=Good.th (V:=V) (ses:=ses) (q:=x) E.G E.H.ord E.hk w1;generalize th V σ ses x=o at hk H6 O sG;have p':aE.fV U b (x.s p c):=O.fr.get (f5.get a' _root_.id) (λm=>by
    rcases m with a|a
    .exact M b af (.inl a)
    .have:=aC a';omega)
   have y':ar.fV U b1 .z:=O.fr.get ((f3.tt (f4.tt f5)).get L _root_.id) (λm=>by
    rcases m with a|a
    .exact M b1 af (.inl a)
    .have:=aC L;omega)
   have zo:=aC o';have st:bG X h J U:=⟨(Fr.no F5 O.fr).trans (Fr.refl (λ_=>False) _) (λc hc m=>by
    rcases m with a|a
    .exact a
    .omega) (λ_ _=>False.elim),λc hc=>(O.jr c hc).imp _root_.id (λa=>af),λc hc=>(O.kR c hc).imp _root_.id (λa=>af),O.vk⟩
   have R':=aC a';have Q':=aC L;have d': ∀y,h.size<=y->y<K.size->¬(J.M y\/J.D y):=λy j hl m=>by
    rcases m with a|a
    .rcases O.jr y a with a|a
     .exact M y j (.inl a)
     .omega
    .rcases O.kR y a with a|a
     .exact M y j (.inr a)
     .omega
   have fin: ∀(g:aj)(q:cg)(d:Nat),ar.fV g w (rS (kZ x.id o) q d)->Fr (λy=>y=w) U g->Row g q (bc (kZ x.id o).b)->((kZ x.id o).b≠ []->∀z,aL q z->(K.size<=z\/X.D z)/\¬J.M z)->J2 g:=by
    intro g q d hg r row N;subst u';have Hg:=H6.frame r (λy j e=>d' w af zo (e▸j));have zg:=r.1;have z6:=O.fr.1;have E':b≠w:=af
    have F':b1≠w:=af
    obtain⟨Z,n,zm,zd,go⟩:=Hg.use 0;have wr: ∀(G:aj)(P:cg)(cw:Nat),Row G P (bc (NP (kZ x.id o)))->(∀y,aL P y->g.size<=y)->Fr No g G->∀(e:Int),
      ∃t126,aX G (AA s 0)=some (.pointer t126)/\
      ∃t129,aX G (AA b 0)=some (.U t129)/\
      Cl 46 #[.pointer t126,.I ses,.U t129,.slice P (NP (kZ x.id o)).length cw] G λL' l'=>
      ∃t131,L'=.I t131/\
      ar.cO l' (AA w 0) λt132=>
      ar.dv l' (AA b1 0) t132 λm'=>
      ar.cO m' (AA b1 0) λH'=>
      R (H'.agg) m':=by
     intro G P cw I' nw F _;have f':=Hg.on F;obtain⟨Z,n,zm,zd,go⟩:=f'.use 0;have x':=F.get (r.get p' E') _root_.id;refine⟨_,ak f'.cQ,_,ak x',fx.OQ x.id rfl n sG.a I' rfl (λ_ y j m=>gF (nw y j) (Hg.lt y (.inl (zm y m)))) λh7 Z7 T7 s7=>⟨_,rfl,?_⟩⟩;obtain⟨X7,H7,Mp,_,_⟩:=go h7 Z7 { o.σ with A:=fx.mT o.σ.A ses x.id (NP (kZ x.id o)) } T7 s7 (λi hi=>eU.zB _ hi);have n3: ¬J.M w:=λa=>d' w af zo (.inl a)
     have n1: ¬J.M b1:=λa=>d' b1 af af (.inl a)
     have A':=Mp.fr.get (F.get hg _root_.id) n3;have z':=Mp.fr.get (F.get (r.get y' F') _root_.id) n1;refine ar.fR (x:=rS (kZ x.id o) q d) A' (Fx z' λh8 f8=> ?_);have z7:=Mp.fr.1;have zf:=F.1;have qc:bG X h J G:=(bG.box st r af).on F;have J':=qc.trans Mp;have K':=bG.box J' f8 af;have D': ∀y,X7.M y\/X7.D y->y≠b1:=λy j e=>by
      rcases j with a|a
      .rcases Mp.jr y a with a|a
       .exact n1 (e▸a)
       .omega
      .rcases Mp.kR y a with a|a
       .exact d' b1 af af (.inr (e▸a))
       .omega
     refine hk h8 X7 q d (H7.frame f8 (λy j e=>D' y j e)) K' ?_ (λhd z n m=> ?_)
     .by_cases hd:(kZ x.id o).b= []
      .rw[hd];exact Row.nil
      .refine(((row.frame F (λ_ _=>_root_.id)).frame Mp.fr (λa T C=>(N hd a.block ⟨a,T,rfl⟩).2 C)).frame f8 (λa T C=> ?_));have C:a.block=b1:=C;rcases(N hd a.block ⟨a,T,rfl⟩).1 with a1|a1
       .omega
       .exact M b1 af (.inr (C▸a1))
     .rcases Mp.jr z m with a|a
      .exact(N hd z n).2 a
      .have:=iI row (by simpa[bc]using hd) n;omega
    refine ar.fR (x:=rS (kZ x.id o) q d) hg (Aq.Nx (kZ x.id o) row (λW G P cw ow F nw=>⟨_,_,_,_,rfl,?_⟩) (λW G F=>⟨_,_,_,_,rfl,?_⟩))
    .have:=wr G P cw (by rw[show NP (kZ x.id o)=(kZ x.id o).enc from ag W];exact ow.jb) nw F 0;rw[show NP (kZ x.id o)=(kZ x.id o).enc from ag W]at this;exact this
    .have:=wr G none 0 (by rw[show NP (kZ x.id o)= []from ae W];exact Row.nil) (λy j=>by obtain⟨a,e,_⟩:=j;cases e) F 0;rw[show NP (kZ x.id o)= []from ae W]at this;exact this
   obtain⟨y,j,C'⟩:=O.at';by_cases he:o.e=0
   .rw[ae (cy he)];obtain⟨q,d,rfl,row,N⟩:=C' he;have eo:kZ x.id o=⟨x.id,0,o.num,o.vE,0,o.d⟩:=ag he;rw[eo]at fin;exact fin U q d j (Fr.refl _ _) row N
   .rw[ag (cy he)];have eo:kZ x.id o=⟨x.id,o.e,0,0,0, []⟩:=ae he;rw[eo]at fin;refine⟨_,ak p',Aq.lH x.id rfl o.e λg f=>ar.ex (rS ⟨x.id,o.e,0,0,0, []⟩ none 0) ⟨rfl,ar.hM (x:=rS ⟨x.id,o.e,0,0,0, []⟩ none 0) (f.get j _root_.id) λg2 d2 f2 _=>fin g2 none 0 d2 (Fr.no f f2) Row.nil (λe=>absurd rfl e)⟩⟩
 refine⟨_,ak B,?_⟩;rw[ae bO];refine⟨_,ak B,?_⟩;rw[ae bO];refine⟨_,ak B,?_⟩;rw[ae bO];refine⟨_,ak B,?_⟩;rw[ae bO];refine⟨_,ak B,?_⟩;rw[ae bO];exact⟨_,ak B,key⟩
theorem Ny(hk: gU h R (Aq.val (qH x.id 6) none 0)):Cl 13 #[.pointer none,.I ses,(x.s p c).agg] h R:=by
 refine He.nil.walk (aE.db (x:=x.s p c) λb H E i f1=>ar.db (x:=.z) λb1 n m j f2=>aG.of λJ d=> ?_);subst d;try dsimp only
 rw[ag rfl];have z:=f1.1;refine⟨_,ak (f2.get i _root_.id),Aq.lH x.id rfl 6 λh' f=>ar.ex (rS (qH x.id 6) none 0) ⟨rfl,Fx (f.get j _root_.id) λa F=> ?_⟩⟩;exact hk a ((f1.tt (f2.tt f)).fresh F (λy e=>af))

end Ask
end
section
namespace Ask
open iT (Ev cN)
open eU (SS Good)
open Go.fM (RD)
variable {V:cH→Bool} {σ:SS} {ses:Int} {q:Rq}
abbrev HC:Ev:=⟨true,7,0,⟨#[]⟩,⟨#[]⟩⟩
abbrev Fy:Ev:=⟨true,7,1,⟨#[]⟩,⟨#[]⟩⟩
theorem Dn(H:kx q=true)(hk:q.kind<11)(a:fx.KV σ.A ses=true)(h:fx.rW σ.A ses q.id=none):
  oS V σ ses q=({ (th V σ ses q).σ with A:=fx.mT (th V σ ses q).σ.A ses q.id (NP (kZ q.id (th V σ ses q))) },kZ q.id (th V σ ses q)):=by
 unfold oS;rw[ag ⟨H,hk⟩,ag a,h]
def two:List fx.fx:= [⟨1,5,true,false, [], []⟩,⟨2,6,true,false, [], []⟩]
theorem QM:fx.lA (fx.lA [] 5) 6=two:=cU
def s1:SS:= { eU.CX HC with A:=two }
def q1:Rq:=⟨1,1,Fy,.zero,0,0,0, [],0,0,false⟩
theorem Vx:th V s1 1 q1=bad { s1 with G:= [⟨Fy,0,1⟩] } 0:=by
 unfold th;rw[ag (show q1.kind=1 from rfl)];have h:gg.iK s1.G ⟨q1.ep,q1.jA,1⟩=0:=cU
 have H:gg.xB s1.G ⟨q1.ep,q1.jA,1⟩= [⟨Fy,0,1⟩]:=by unfold gg.xB;rw[ag h];rfl
 rw[h,H]
def q2(n:Nat)(id:Nat):Rq:=⟨id,7,Fy,.zero,0,0,(n:Int), [],0,0,false⟩
def q3(id:Nat)(kind:Int):Rq:=⟨id,kind,.zero,.zero,0,1,0, [],0,0,false⟩
def q4:Rq:=⟨2,4,Fy,Fy,0,0,0, [120],9,0,false⟩
def q6:Rq:=⟨2,6,Fy,.zero,0,0,0, [],0,0,false⟩
def sA:SS:= { s1 with G:= [⟨Fy,0,1⟩],A:= [⟨1,5,true,false, [(1, [1,0,0,0,0,0])], []⟩,⟨2,6,true,false, [], []⟩] }
theorem v1:oS V s1 1 q1=(sA,⟨1,0,0,0,0, []⟩):=by
 rw[Dn cU dH cU cU,Vx];kernel_rfl
def sB:SS:= { sA with A:= [⟨1,5,true,false, [(1, [1,0,0,0,0,0])], []⟩,⟨2,6,true,false, [(1, [1,11,0,0,0,0])], []⟩] }
theorem v2:oS V sA 2 q1=(sB,⟨1,11,0,0,0, []⟩):=by
 rw[Dn cU dH cU cU];kernel_rfl
theorem v3: ∃d,Bn.kJ V (kL q4 (0,1))=some d/\1<=d.length/\d.length<=600:=by
 have h:(match Bn.kJ V (kL q4 (0,1))with|none=>false|some d=>decide (1<=d.length/\d.length<=600))=true:=cU
 cases H:Bn.kJ V (kL q4 (0,1))with
 |none=>rw[H]at h;cases h
 |some d=>rw[H]at h;exact⟨d,rfl,(aP h).1,(aP h).2⟩
theorem Nz{b:cH}(H:kx q=true)(hk:q.kind<11)(a:fx.KV σ.A ses=true)(h:fx.rW σ.A ses q.id=some b):oS V σ ses q=(σ,(Go.fM.CB b).getD RD.zero):=by
 unfold oS;rw[ag ⟨H,hk⟩,ag a,h]
theorem NA(h:kx q=true)(hk:q.kind<11)(H:fx.KV σ.A ses=false):oS V σ ses q=(σ,qH q.id 16):=by
 unfold oS;rw[ag ⟨h,hk⟩,H];rfl
theorem T8(hk:q.kind=4):th V σ ses q=qF V σ ses q:=by
 unfold th;rw[dj,dj,dj,ag hk]
theorem Sj{d:cH}(l1:1<=d.length)(l2:d.length<=600):eU.xH sB 1 d 9=0:=by
 have h:eU.mZ sB.Q 1 d.length=true:=by
  refine lu.Ej.2 ?_;have e1:eU.own sB.Q 1=0:=cU
  have e2:eU.wA sB.Q=0:=cU
  rw[e1,e2];omega
 have H: ¬(sB.B.items.length≥16\/eU.mZ sB.Q 1 d.length=false):=by
  rw[h];rintro(a|a)
  .have:sB.B.items.length=0:=cU
   omega
  .cases a
 unfold eU.xH;rw[ae H];unfold gD.iK;rw[ag (gD.yX.2 ⟨dH,dH,l1,l2,dH⟩),ae (by rw[show sB.B.items.length=0 by kernel_rfl];omega)]
theorem v4: ∃c y,oS V sB 1 q4=(c,y)/\y.err=0/\y.num=1/\oS V c 1 q6=(c,y)/\oS V c 3 q6=(c,qH 2 16)/\c.B.items.length=1:=by
 obtain⟨d,hd,l1,l2⟩:=v3 (V:=V);have E:=Sj l1 l2;have j:eU.GN sB 1 d 9=1:=by
  unfold eU.GN eU.xH at*;split at E
  .cases E
  .rename_i u;rw[ae u];unfold gD.AG;rw[ag E];kernel_rfl
 have k:(eU.nt sB 1 d 9).B= { sB.B with items:=sB.B.items++ [⟨sB.B.next,1,d,9⟩],next:=sB.B.next+1 } :=by
  have h:=(eU.BP E).2;unfold eU.nt;rw[ag E];exact ag h
 have i:(eU.nt sB 1 d 9).A=sB.A:=by unfold eU.nt;rw[ag E]
 have n:th V sB 1 q4=⟨{ eU.nt sB 1 d 9 with tm:=0,sq:=1 },0,1,d.length, []⟩:=by
  have p:th V sB 1 q4=qF V sB 1 q4:=T8 rfl;have r:gg.jg sB.G q4.ep 1=0:=cU
  have s:oa sB=some (0,1):=cU
  have t:kY sB.now (kL q4 (0,1)).p.eV=9:=cU
  rw[p];unfold qF;rw[ag r,s];dsimp only;unfold kg;rw[hd];dsimp only;rw[t];unfold zJ;rw[ag E,j]
 have b:=Dn (V:=V) (σ:=sB) (ses:=1) (q:=q4) cU dH cU cU;rw[n]at b;have e1:kZ q4.id ⟨{ eU.nt sB 1 d 9 with tm:=0,sq:=1 },0,1,d.length, []⟩=⟨2,0,1,d.length,0, []⟩:=rfl;rw[e1]at b;dsimp only at b;rw[i]at b;have H:(⟨2,0,1,(d.length:Int),0, []⟩:RD).mc:=⟨by show 2<=1099511627776;omega,⟨by show(0:Int)<=0;omega,by show(0:Int)<=99;omega⟩,⟨by show(0:Int)<=1;omega,by show(1:Int)<=1099511627776;omega⟩,⟨by show(0:Int)<=(d.length:Int);omega,by show(d.length:Int)<=_;omega⟩,by show 0<=2147483648;omega,bL _,λe=>absurd rfl e⟩;have o:NP ⟨2,0,1,(d.length:Int),0, []⟩=(⟨2,0,1,(d.length:Int),0, []⟩:RD).enc:=ag H;rw[o]at b;have v:(⟨2,0,1,(d.length:Int),0, []⟩:RD).enc.length<=1000:=cM (Go.fM.jH (bL _)) dH;have l:fx.rW (fx.mT sB.A 1 q4.id (⟨2,0,1,(d.length:Int),0, []⟩:RD).enc) 1 2=some (⟨2,0,1,(d.length:Int),0, []⟩:RD).enc:=by
  generalize (⟨2,0,1,(d.length:Int),0, []⟩:RD).enc=w at v;have g:fx.kW sB.A 1=some ⟨1,5,true,false, [(1, [1,0,0,0,0,0])], []⟩:=cU
  have e2:fx.mT sB.A 1 q4.id w=fx.mj sB.A 1 ⟨1,5,true,false,fx.iE [(1, [1,0,0,0,0,0])] 2 w, []⟩:=by
   unfold fx.mT;rw[g];dsimp only;rw[ae (λh=>h.elim (λa=>absurd a dH) (λa=>af))];rfl
  rw[e2];unfold fx.rW;rw[EG g,ag rfl];show fx.Em (fx.iE [(1, [1,0,0,0,0,0])] 2 w) 2=some w;kernel_rfl
 have f: ∀m,fx.KV (fx.mT sB.A 1 q4.id (⟨2,0,1,(d.length:Int),0, []⟩:RD).enc) m=fx.KV sB.A m:=λm=>OK
 refine⟨_,_,b,rfl,rfl,?_,?_,?_⟩
 .rw[Nz cU dH ((f 1).trans cU) l,Go.fM.Ly H];rfl
 .exact NA cU dH ((f 3).trans cU)
 .show(eU.nt sB 1 d 9).B.items.length=1;rw[k];kernel_rfl

end Ask
end
section
namespace Ask
open iT (Ev cN kj)
open eU (SS Good Pt sP Mk Bk)
open Go.fM (RD)
variable {V:cH→Bool} {h h' j m g:aj} {R:fj} {s k c:Nat} {X l:Ft} {I:sP} {σ:SS} {p:cg} {ses:Int} {x:Rq} {L:List (Nat × ar.S)}
theorem I8(hk: gU h R (kj HC)):Cl 9 #[] h R:=Hf.walk (aw.gh (x:=HC.s) λ_ m _ H f1=>aw.fR (x:=HC.s) H (hk m f1))
theorem rk(hk: gU h R (kj Fy)):Cl 14 #[] h R:=Hh.walk (aw.gh (x:=Fy.s) λ_ m _ H f1=>aw.fR (x:=Fy.s) H (hk m f1))
theorem I9:eU.GR HC:=⟨cU,λe=>by cases bT Ev.jI e⟩
theorem NB{n r:Nat}(B:Bk h s I n r)(hk:R (.bool true) h):Cl 10 #[pt s] h R:=by
 refine Fa.walk ?_;repeat (first|exact hk|refine⟨_,ak B,?_⟩|rw[ag rfl])
def Bx(h:aj)(X:Ft)(L:List (Nat×ar.S)):Prop:= ∀e∈L,ar.fV h e.1 e.2/\¬X.M e.1
theorem Bx.step(B:Bx h X L)(st:bG X h l h'):Bx h' l L:=λe H=>⟨st.fr.get (B e H).1 (B e H).2,λb=>by
 rcases st.jr _ b with a|a
 .exact(B e H).2 a
 .have:=aC (B e H).1;omega⟩
theorem Bx.on(B:Bx h X L)(f:Fr No h h'):Bx h' X L:=λe H=>⟨f.get (B e H).1 id,(B e H).2⟩
def Rw(h:aj)(X:Ft)(p:cg)(d:cH):Prop:=Row h p (bc d)/\(d≠ []->∀z,aL p z->¬X.M z)
theorem Rw.on{d:cH}(B:Rw h X p d)(f:Fr No h h'):Rw h' X p d:=⟨B.1.frame f cu,B.2⟩
theorem Fz{K:Nat->aj->Prop}(E:En V j h s X I σ k)(w:k+2<=30000)(w1:0<=x.ep.fX)(w2:0<=x.dest.fX)(z:Row h p (bc x.nj))(cap:x.nj.length<=c)(B:Bx h X L)(r: ∀h' l b q d,En V j h' s l I (oS V σ ses x).1 (k+2)->Bx h' l ((b,rS (oS V σ ses x).2 q d)::L)->Rw h' l q (oS V σ ses x).2.b->bG X h l h'->K b h'):
  Cl 13 #[pt s,.I ses,(x.s p c).agg] h λv g=>ar.EX λt=>v=t.agg/\aQ g (.cells ar.S.z.arr 44) λb f=>ar.dv f (AA b 0) t λi=>K b i:=by
 refine PN E af w1 w2 z cap λn a q d H S row nM=>ar.ex (rS (oS V σ ses x).2 q d) ⟨rfl,ar.gh (x:=rS (oS V σ ses x).2 q d) λb o A u f3=> ?_⟩
 have G:=Good.oS (V:=V) (ses:=ses) (q:=x) E.G E.H.ord E.hk w1;have st:=S.on f3;refine r o a b q d (E.step (H.on f3) st G w) (λe he=> ?_) ((show Rw n a q _ from⟨row,nM⟩).on f3) st;rcases bJ.1 he with rfl|he
 .exact⟨u,λy=>bX (H.lt b (.inl y))⟩
 .exact(B.step st) e he
theorem Bx.nth{b:Nat}{y:ar.S}(B:Bx h X L)(i:Nat)(H:L[i]? =some (b,y)):ar.fV h b y:=(B _ (aT H)).1
theorem En.NC(U:Cb.mE V j)(mx:mD.Mx j)(f:Fr No j m)(H:Pt h s X I (eU.CX HC))(u:Ln m X h):En V j h s X I (eU.CX HC) 0:=
 ⟨H,eU.Good.new I9.1 I9.2 dH,af,⟨f.tt u.fr,λc a=>cM f.1 (u.ge c a)⟩,U,mx⟩
theorem mU(E:En V j h s X I σ k)(n:k+1<=30000)(token:Nat)(hk: ∀h' l a b,En V j h' s l I { σ with A:=fx.lA σ.A token } (k+1)->bG X h l h'->R (.tuple #[.I a,.I b]) h'):
  Cl 12 #[pt I.t,.U (token:Int)] h R:=by
 obtain⟨Z,o,t,r,go⟩:=E.H.use 0;refine fx.mU token rfl o E.G.a λH z T q=> ?_
 obtain⟨e,d,S,_,_⟩:=go H z { σ with A:=fx.lA σ.A token } T q (λi f=>eU.zB _ f);exact hk H e _ _ (E.step d S (eU.Good.lA E.G token) n) S
theorem FA(U:Cb.mE V j)(mx:mD.Mx j)(u:Fr No j h)(hk: gU h R (.bool true)):Cl 11 #[] h R:=by
 refine Fb.walk (I8 λm f1=>aw.ex HC.s ⟨rfl,eU.gC HC (λ_ h2 s X I H u2=>⟨_,_,rfl,aG.of λJ Q=> ?_⟩) (λn=>absurd I9 n)⟩);have E2:=En.NC (U.mono u) (mx.on u) f1 H u2;rw[dj,ae bO];refine ay.2 ⟨_,ak H.cQ,?_⟩;rw[ae bO];refine ay.2 ⟨_,ak H.cQ,?_⟩;subst Q;dsimp only;rw[ae bO];refine ay.2 ⟨_,ak H.cQ,mU E2 af 5 λh3 X3 _ _ w u'=>⟨_,_,rfl,ay.2 ⟨_,ak w.H.cQ,mU w af 6 λP G _ _ z v'=>⟨_,_,rfl,?_⟩⟩⟩⟩;have M:({ ({ eU.CX HC with A:=fx.lA (eU.CX HC).A 5 } :SS)with A:=fx.lA ({ eU.CX HC with A:=fx.lA (eU.CX HC).A 5 } :SS).A 6 } :SS)=s1:=by unfold s1;rw[<-QM];rfl
 rw[M]at z;have D:Bx P G []:=λe T=>by cases T
 refine rk λh5 f5=>aw.ex Fy.s ⟨rfl,Fz (x:=q1) (p:=none) (c:=0) (z.on f5) af dH dH Row.nil (bk _) (D.on f5) λh6 X6 b6 _ _ t f _ _=> ?_⟩
 rw[v1]at t f;dsimp only at t f;refine rk λh7 f7=>aw.ex Fy.s ⟨rfl,Fz (x:=q1) (p:=none) (c:=0) (t.on f7) af dH dH Row.nil (bk _) (f.on f7) λh8 X8 b8 _ _ v i _ _=> ?_⟩
 rw[v2]at v i;dsimp only at v i;obtain⟨w',y,e1,N,C,e2,K,el⟩:=v4 (V:=V);refine rk λh9 f9=>aw.ex Fy.s ⟨rfl,rk λk' f10=>aw.ex Fy.s ⟨rfl,iD.P9 (bs:= [120]) rfl λl' row f11=>Fz (x:=q4) (v.on (f9.tt (f10.tt f11))) af dH dH row (bk _) (i.on (f9.tt (f10.tt f11))) λm' a' d' _ _ E b _ _=> ?_⟩⟩
 rw[e1]at E b;dsimp only at E b;refine rk λn' f13=>aw.ex Fy.s ⟨rfl,Fz (x:=q6) (p:=none) (c:=0) (E.on f13) af dH dH Row.nil (bk _) (b.on f13) λo' b' e' _ _ o a _ _=> ?_⟩
 rw[e2]at o a;dsimp only at o a;refine rk λp' f15=>aw.ex Fy.s ⟨rfl,Fz (x:=q6) (p:=none) (c:=0) (o.on f15) af dH dH Row.nil (bk _) (a.on f15) λq' c' f' _ _ q d _ _=> ?_⟩
 rw[K]at q d;dsimp only at q d;refine Ny (x:=⟨2,0,.zero,.zero,0,0,0, [],0,0,false⟩) (p:=none) (c:=0) λr' f17=>ar.ex (rS (qH 2 6) none 0) ⟨rfl,ar.gh (x:=rS (qH 2 6) none 0) λg' s' j' S f18=> ?_⟩
 have B:=d.on (f17.tt f18);have r:=q.on (f17.tt f18);refine⟨_,ak (B.nth 4 rfl),?_⟩;rw[ag (by rfl)];refine⟨_,ak (B.nth 4 rfl),?_⟩;rw[ag (by rfl)];refine⟨_,ak (B.nth 3 rfl),?_⟩;rw[ag (by rfl)];refine⟨_,ak (B.nth 2 rfl),?_⟩;rw[ag (by show(y.err==0)=true;rw[N];rfl)];refine⟨_,ak (B.nth 2 rfl),?_⟩;rw[ag (by show(y.num==1)=true;rw[C];rfl)];refine⟨_,ak (B.nth 1 rfl),?_⟩;rw[ag (by show(y.num==1)=true;rw[C];rfl)];refine⟨_,ak (B.nth 1 rfl),_,ak (B.nth 2 rfl),?_⟩;rw[ag (by show(y.count==y.count)=true;simp)];refine⟨_,ak (B.nth 0 rfl),?_⟩;rw[ag (by rfl)];refine⟨_,ak S,?_⟩;rw[ag (by rfl)];obtain⟨Z,W⟩:=r.H.box;refine ay.2 ⟨_,ak r.H.cQ,gD.vY W λO t' Y i' F f19=>⟨_,_,_,rfl,?_⟩⟩;have ll:Y=1:=by rw[F.len];exact el
 rw[ll];exact hk O (r.u.fr.tt f19)

end Ask
end
section
variable {h:aj} {R:fj}
structure cI.S where
 f0:Int
 f1:Int
 f2:Int
 f3:Int
 f4:Bool
 f5:Int
 f6:Int
 f7:ByteArray
 f8:ByteArray
 f9:Bool
 f10:Int
 f11:Int
 f12:ByteArray
 f13:ByteArray
 f14:Int
 f15:Int
 f16:Int
 Pb:cg
 Pc:Nat
 Pd:Nat
 f18:Int
 f19:Int
 f20:Bool
 f21:Int
 f22:Bool
 f23:Int
 f24:Int
 f25:ByteArray
 f26:ByteArray
 Pe:cg
 Pf:Nat
 Pg:Nat
abbrev cI.S.l(x:cI.S):List Value:= [.int .i64 x.f0,.int .i64 x.f1,.int .u64 x.f2,.int .i64 x.f3,.bool x.f4,.int .u64 x.f5,.int .u64 x.f6,.string x.f7,.string x.f8,.bool x.f9,.int .u64 x.f10,.int .u64 x.f11,.string x.f12,.string x.f13,.int .i64 x.f14,.int .i64 x.f15,.int .i64 x.f16,.slice x.Pb x.Pc x.Pd,.int .u64 x.f18,.int .u64 x.f19,.bool x.f20,.int .u64 x.f21,.bool x.f22,.int .u64 x.f23,.int .u64 x.f24,.string x.f25,.string x.f26,.slice x.Pe x.Pf x.Pg]
abbrev cI.S.arr(x:cI.S):Array Value:= #[.int .i64 x.f0,.int .i64 x.f1,.int .u64 x.f2,.int .i64 x.f3,.bool x.f4,.int .u64 x.f5,.int .u64 x.f6,.string x.f7,.string x.f8,.bool x.f9,.int .u64 x.f10,.int .u64 x.f11,.string x.f12,.string x.f13,.int .i64 x.f14,.int .i64 x.f15,.int .i64 x.f16,.slice x.Pb x.Pc x.Pd,.int .u64 x.f18,.int .u64 x.f19,.bool x.f20,.int .u64 x.f21,.bool x.f22,.int .u64 x.f23,.int .u64 x.f24,.string x.f25,.string x.f26,.slice x.Pe x.Pf x.Pg]
abbrev cI.S.agg(x:cI.S):Value:=.agg #[.int .i64 x.f0,.int .i64 x.f1,.int .u64 x.f2,.int .i64 x.f3,.bool x.f4,.int .u64 x.f5,.int .u64 x.f6,.string x.f7,.string x.f8,.bool x.f9,.int .u64 x.f10,.int .u64 x.f11,.string x.f12,.string x.f13,.int .i64 x.f14,.int .i64 x.f15,.int .i64 x.f16,.slice x.Pb x.Pc x.Pd,.int .u64 x.f18,.int .u64 x.f19,.bool x.f20,.int .u64 x.f21,.bool x.f22,.int .u64 x.f23,.int .u64 x.f24,.string x.f25,.string x.f26,.slice x.Pe x.Pf x.Pg]
abbrev cI.S.z:cI.S:=⟨0,0,0,0,false,0,0,(⟨#[]⟩:ByteArray),(⟨#[]⟩:ByteArray),false,0,0,(⟨#[]⟩:ByteArray),(⟨#[]⟩:ByteArray),0,0,0,none,0,0,0,0,false,0,false,0,0,(⟨#[]⟩:ByteArray),(⟨#[]⟩:ByteArray),none,0,0⟩
abbrev cI.EX(K:cI.S->Prop):Prop:= ∃(t0:Int),∃(t1:Int),∃(t2:Int),∃(t3:Int),∃(t4:Bool),∃(t5:Int),∃(t6:Int),∃(t7:ByteArray),∃(t8:ByteArray),∃(t9:Bool),∃(t10:Int),∃(t11:Int),∃(t12:ByteArray),∃(t13:ByteArray),∃(t14:Int),∃(t15:Int),∃(t16:Int),∃(a:cg)(T t:Nat),∃(t18:Int),∃(t19:Int),∃(t20:Bool),∃(t21:Int),∃(t22:Bool),∃(t23:Int),∃(t24:Int),∃(t25:ByteArray),∃(t26:ByteArray),∃(d:cg)(c b:Nat),K ⟨t0,t1,t2,t3,t4,t5,t6,t7,t8,t9,t10,t11,t12,t13,t14,t15,t16,a,T,t,t18,t19,t20,t21,t22,t23,t24,t25,t26,d,c,b⟩
abbrev cI.cO(h:aj)(a:Addr)(K:cI.S->Prop):Prop:= ∃(t0:Int),aX h a=some (.int .i64 t0)/\∃(t1:Int),aX h (a.add 1)=some (.int .i64 t1)/\∃(t2:Int),aX h (a.add 2)=some (.int .u64 t2)/\∃(t3:Int),aX h (a.add 3)=some (.int .i64 t3)/\∃(t4:Bool),aX h (a.add 4)=some (.bool t4)/\∃(t5:Int),aX h (a.add 5)=some (.int .u64 t5)/\∃(t6:Int),aX h (a.add 6)=some (.int .u64 t6)/\∃(t7:ByteArray),aX h (a.add 7)=some (.string t7)/\∃(t8:ByteArray),aX h (a.add 8)=some (.string t8)/\∃(t9:Bool),aX h (a.add 9)=some (.bool t9)/\∃(t10:Int),aX h (a.add 10)=some (.int .u64 t10)/\∃(t11:Int),aX h (a.add 11)=some (.int .u64 t11)/\∃(t12:ByteArray),aX h (a.add 12)=some (.string t12)/\∃(t13:ByteArray),aX h (a.add 13)=some (.string t13)/\∃(t14:Int),aX h (a.add 14)=some (.int .i64 t14)/\∃(t15:Int),aX h (a.add 15)=some (.int .i64 t15)/\∃(t16:Int),aX h (a.add 16)=some (.int .i64 t16)/\∃(b:cg)(T t:Nat),aX h (a.add 17)=some (.slice b T t)/\∃(t18:Int),aX h (a.add 18)=some (.int .u64 t18)/\∃(t19:Int),aX h (a.add 19)=some (.int .u64 t19)/\∃(t20:Bool),aX h (a.add 20)=some (.bool t20)/\∃(t21:Int),aX h (a.add 21)=some (.int .u64 t21)/\∃(t22:Bool),aX h (a.add 22)=some (.bool t22)/\∃(t23:Int),aX h (a.add 23)=some (.int .u64 t23)/\∃(t24:Int),aX h (a.add 24)=some (.int .u64 t24)/\∃(t25:ByteArray),aX h (a.add 25)=some (.string t25)/\∃(t26:ByteArray),aX h (a.add 26)=some (.string t26)/\∃(e:cg)(d c:Nat),aX h (a.add 27)=some (.slice e d c)/\K ⟨t0,t1,t2,t3,t4,t5,t6,t7,t8,t9,t10,t11,t12,t13,t14,t15,t16,b,T,t,t18,t19,t20,t21,t22,t23,t24,t25,t26,e,d,c⟩
abbrev cI.dv(h:aj)(a:Addr)(x:cI.S)(K:aj->Prop):Prop:=aO h a (.int .i64 x.f0) λH=>aO H (a.add 1) (.int .i64 x.f1) λm=>aO m (a.add 2) (.int .u64 x.f2) λy=>aO y (a.add 3) (.int .i64 x.f3) λz=>aO z (a.add 4) (.bool x.f4) λA=>aO A (a.add 5) (.int .u64 x.f5) λB=>aO B (a.add 6) (.int .u64 x.f6) λC=>aO C (a.add 7) (.string x.f7) λD=>aO D (a.add 8) (.string x.f8) λE=>aO E (a.add 9) (.bool x.f9) λb=>aO b (a.add 10) (.int .u64 x.f10) λc=>aO c (a.add 11) (.int .u64 x.f11) λd=>aO d (a.add 12) (.string x.f12) λe=>aO e (a.add 13) (.string x.f13) λf=>aO f (a.add 14) (.int .i64 x.f14) λg=>aO g (a.add 15) (.int .i64 x.f15) λi=>aO i (a.add 16) (.int .i64 x.f16) λj=>aO j (a.add 17) (.slice x.Pb x.Pc x.Pd) λk=>aO k (a.add 18) (.int .u64 x.f18) λl=>aO l (a.add 19) (.int .u64 x.f19) λn=>aO n (a.add 20) (.bool x.f20) λp=>aO p (a.add 21) (.int .u64 x.f21) λq=>aO q (a.add 22) (.bool x.f22) λr=>aO r (a.add 23) (.int .u64 x.f23) λs=>aO s (a.add 24) (.int .u64 x.f24) λt=>aO t (a.add 25) (.string x.f25) λu=>aO u (a.add 26) (.string x.f26) λv=>aO v (a.add 27) (.slice x.Pe x.Pf x.Pg) λw=>K w
abbrev cI.fV(h:aj)(b:Nat)(x:cI.S):Prop:=h[b]? =some (.cells x.arr 62 (0,0))
theorem cI.ex{K:cI.S->Prop}(x:cI.S)(hk:K x):cI.EX K:=⟨_,_,_,_,_,_,_,_,_,_,_,_,_,_,_,_,_,_,_,_,_,_,_,_,_,_,_,_,_,_,_,_,hk⟩
theorem cI.fR{b:Nat}{x:cI.S}{K:cI.S->Prop}(H:cI.fV h b x)(hk:K x):cI.cO h (AA b 0) K:=
 ⟨_,ak H,_,ak H,_,ak H,_,ak H,_,ak H,_,ak H,_,ak H,_,ak H,_,ak H,_,ak H,_,ak H,_,ak H,_,ak H,_,ak H,_,ak H,_,ak H,_,ak H,_,_,_,ak H,_,ak H,_,ak H,_,ak H,_,ak H,_,ak H,_,ak H,_,ak H,_,ak H,_,ak H,_,_,_,ak H,hk⟩
theorem cI.mA{a:Addr}{x:cI.S}{K:cI.S->Prop}(H:dI a x.l 0 h)(hk:K x):cI.cO h a K:=by
 obtain⟨q,q1,q2,q3,q4,v,q6,w,y,z,Q,b,c,d,e,f,g,i,j,k,l,m,n,p,r,s,t,u,_⟩:=H;rw[fo]at q;exact⟨_,q,_,q1,_,q2,_,q3,_,q4,_,v,_,q6,_,w,_,y,_,z,_,Q,_,b,_,c,_,d,_,e,_,f,_,g,_,_,_,i,_,j,_,k,_,l,_,m,_,n,_,p,_,r,_,s,_,t,_,_,_,u,hk⟩
theorem cI.gh{x:cI.S}{K:Nat->aj->Prop}(hk: ∀b h',b=h.size->cI.fV h' b x->Fr No h h'->K b h'):aQ h (.cells cI.S.z.arr 62) λb H=>cI.dv H (AA b 0) x (K b):=
 gy (vs:=x.l) rfl rfl hk
theorem cI.db{x:cI.S}{K:Nat->aj->Prop}(hk: ∀b h',b=h.size->cI.fV h' b x->Fr No h h'->K b h'):aQ h (.cells x.arr 62) λb H=>K b H:=
 cG (hk _ _ rfl bR (Fr.push _ _))
variable {K:cI.S->Prop} {x o:cI.S}
theorem HD.walk{s:Nat} (z:aQ h (.cells o.arr 62) λb i=>aQ i (.cells ar.S.z.arr 44) λB H=>Hi H b 0 λt6=>aG (λ(r:aj)=>ar.dv r (AA B 0) ar.S.z λe=>ar.cO e (AA B 0) λA=>R (A.agg) e) (λJ=>aG (λ(t:aj)=>J t) (λg=>if(t6==0)then Hi H b 1 λt11=>aE.cO H (AA b 2) λt13=>Cl 13 #[.P s 0,.I t11,t13.agg] H λv u=>ar.EX λt14=>v=t14.agg/\ar.dv u (AA B 0) t14 λf=>ar.cO f (AA B 0) λC=>R (C.agg) f else aG (λ(w:aj)=>g w) (λj=>if(t6==1)then Hu H b 21 λt19=>Cl 16 #[.P s 0,.U t19] H λV y=> ∃t20,V=.I t20/\j y else aG (λ(k:aj)=>j k) (λa=>if(t6==2)then Hp H s 0 λt26=>Hu H b 21 λt28=>Cl 12 #[.pointer t26,.U t28] H λM l=> ∃T D,M=.tuple #[.I T,.I D]/\a l else aG (λ(m:aj)=>a m) (λc=>if(t6==3)then Hp H s 0 λt35=>Hi H b 1 λt37=>Cl 73 #[.pointer t35,.I t37] H λN n=> ∃t38,N=.I t38/\c n else aG (λ(p:aj)=>c p) (λd=>if(t6==4)then Hp H s 2 λt44=>aw.cO H (AA b 22) λt46=>Hl H b 27 λG F E=>Hu H b 21 λt50=>Cl 15 #[.pointer t44,t46.agg,.slice G F E,.U t50] H λO q=> ∃I L,O=.tuple #[.I I,.I L]/\d q else d H))))))):Cl 25 #[.P s 0,o.agg] h R:=aN (lq (sq (lq (.join [] (bq (lq (.join [] (cq ll (lq (.join [] (cq lf (lq (.join [] (cq (pK 7) (lq (.join [] (cq (pK 7) (lq (.join [] (cq (pK 11) lf)))))))))))))))))) ll)) Tryz.func25 z
theorem FB.walk (c:aQ h (.cells o.arr 62) λb a=>aE.cO a (AA b 2) λt4=>Cl 57 #[t4.agg] a λv H=> ∃t5,v=.bool t5/\if t5 then R (.bool true) H else∃d t T,Cc H b 27 (.slice d t T)/\if(decide (((t:Nat):Int)>700))then R (.bool true) H else Hs H b 25 λt15=> ∃t19,Cc H b 26 (.string t19)/\R (.bool (decide ((wrap .i64 ((t15.size:Int)+((t19.size:Nat):Int)))>300))) H):Cl 21 #[o.agg] h R:=aN (lq ll) Tryz.func21 c
theorem A4.walk{N:cg}{O G':Nat} (hv:Cl 9 #[] h λv r'=>aw.EX λt15=>v=t15.agg/\Cl 8 #[t15.agg] r' λU' D=> ∃t Q,U'=.tuple #[.pointer t,.I Q]/\aG (λ(t25:Bool) (F:aj)=>if t25 then R (.bool false) F else∃(I:Int->Int->aj->Prop)(M:Int->Int->aj->Nat),I 0 0 F/\∀(dx:Int)(i:Int)(g:aj),I dx i g->aG (λ(t33:Bool) (n:aj)=>if t33 then aG (λ(s:Int) (G:aj)=>(I s (wrap .i64 (i+1)) G/\M s (wrap .i64 (i+1)) G<M dx i g)) (λq=>Bd i O/\aM N λa=>cI.cO n (a.add (toNat i*28)) λt39=>aQ n (.cells cI.S.z.arr 62) λb F'=>cI.dv F' (AA b 0) t39 λL=>cI.cO L (AA b 0) λt40=>Cl 21 #[t40.agg] L λOw d=> ∃t41,Ow=.bool t41/\if t41 then Cl 11 #[] d λOA s'=> ∃t42,OA=.bool t42/\R (.bool t42) s' else aM t λl'=>vj d (l'.add 1) λt46=>aM t λr=>vj d (r.add 2) λt51=>aM t λA=>vj d (A.add 3) λt56=>Cl 22 #[.pointer t46] d λJO k=> ∃V U S,JO=.slice V U S/\Kp d k [(some (A.add 3)),(some (r.add 2))]/\Cl 23 #[.pointer t51] k λOS w=> ∃Y X W,OS=.slice Y X W/\Kp k w [(some (A.add 3))]/\Cl 24 #[.pointer t56] w λQt y=>Vl Qt λN' M' L'=>aM t λm'=>vj y (m'.add 2) λt61=>Cl 17 #[.pointer t61] y λQu t'=> ∃Z a' b' c' d' e',Qu=.agg #[.I Z,.I a',.I b',.I c',.I d',.I e']/\aQ t' (.cells #[.I 0,.I 0,.I 0,.I 0,.I 0,.I 0] 50) λe u'=>gj.ST u' (AA e 0) Z a' b' c' d' e' λz=>cI.cO z (AA b 0) λt64=>Cl 25 #[.pointer t,t64.agg] z λQv v'=>ar.EX λt65=>Qv=t65.agg/\aQ v' (.cells ar.S.z.arr 44) λu w'=>ar.dv w' (AA u 0) t65 λC=>aM t λn'=>vj C (n'.add 2) λt69=>Cl 17 #[.pointer t69] C λQw x'=> ∃f' g' h' i' j' k',Qw=.agg #[.I f',.I g',.I h',.I i',.I j',.I k']/\aQ x' (.cells #[.I 0,.I 0,.I 0,.I 0,.I 0,.I 0] 50) λB y'=>gj.ST y' (AA B 0) f' g' h' i' j' k' λc=> ∃t72,Cc c b 0 (.I t72)/\if(t72 !=0)then q dx c else Bd 3 6/\jV c (((AA B 0):Addr).add (toNat 3*1)) λt76=>Bd 3 6/\jV c (((AA e 0):Addr).add (toNat 3*1)) λt79=>aG (λ(t113:Bool) (H:aj)=>if t113 then R (.bool false) H else aG (λ(t138:Bool) (E:aj)=>if t138 then R (.bool false) E else q (wrap .i64 ((wrap .i64 (dx+t76)) - t79)) E) (λj=> ∃t116,Cc H b 3 (.I t116)/\if(t116 !=8)then Bd 3 6/\jV H (((AA B 0):Addr).add (toNat 3*1)) λt120=>Bd 3 6/\∃t122,aX H (((AA e 0):Addr).add (toNat 3*1))=some (.I t122)/\if(t120 !=t122)then j true H else Bd 3 6/\jV H (((AA B 0):Addr).add (toNat 3*1)) λt127=>Bd 3 6/\∃t129,aX H (((AA e 0):Addr).add (toNat 3*1))=some (.I t129)/\if(decide ((wrap .i64 (t127 - t129))>1))then j true H else Bd 0 6/\∃t136,aX H (((AA B 0):Addr).add (toNat 0*1))=some (.I t136)/\j (decide ((wrap .i64 ((wrap .i64 (dx+t76)) - t79))>t136)) H else Bd 3 6/\jV H (((AA B 0):Addr).add (toNat 3*1)) λK'=>Bd 3 6/\∃T,aX H (((AA e 0):Addr).add (toNat 3*1))=some (.I T)/\if(decide ((wrap .i64 (K' - T))>1))then j true H else Bd 0 6/\∃P,aX H (((AA B 0):Addr).add (toNat 0*1))=some (.I P)/\j (decide ((wrap .i64 ((wrap .i64 (dx+t76)) - t79))>P)) H)) (λf=> ∃t82,Cc c u 1 (.I t82)/\if(t82 !=0)then aM t λo'=>vj c (o'.add 1) λt89=>Cl 22 #[.pointer t89] c λV' z'=>Vl V' λQ' P' O'=>Cl 26 #[.slice V U S,.slice Q' P' O'] z' λW' l=> ∃t91,W'=.bool t91/\if(!t91)then f true l else aM t λp'=>vj l (p'.add 2) λt98=>Cl 23 #[.pointer t98] l λX' A'=>Vl X' λT' S' R'=>Cl 26 #[.slice Y X W,.slice T' S' R'] A' λY' m=> ∃t100,Y'=.bool t100/\if(!t100)then f true m else aM t λq'=>vj m (q'.add 3) λt108=>Cl 24 #[.pointer t108] m λZ' B'=>Vl Z' λJ' I' H'=>Cl 26 #[.slice N' M' L',.slice J' I' H'] B' λQC C'=> ∃t110,QC=.bool t110/\f (!t110) C' else f false c))else Cl 11 #[] n λQD D'=> ∃t139,QD=.bool t139/\R (.bool t139) D') (λp=>if(decide (i<(O:Int)))then p (decide (i<50)) g else p false g)) (λJ=>if(Q !=0)then J true D else Cl 10 #[.pointer t] D λQE E'=> ∃t23,QE=.bool t23/\J (!t23) E')):Cl 5 #[.slice N O G'] h R:=aN (lq (lq (sq (sq (.join [(25,.one (.bool))] lf) (cq ll lf)) (lq (sq (lq (bq (.loop [(5,.one (.int .i64)),(6,.one (.int .i64))] (sq (sq (.join [(33,.one (.bool))] lf) (cq lf lf)) (sq (.join [(5,.one (.int .i64))] (bq (lq (sq (lq (cq ll lf)) (sq (.jP (fJ 4 0 (fJ 4 5 (fJ 4 10 (.op 4 (.op 9 (fJ 4 14 .done))))))) (lq (lq (lq (sq (lq (cq lf lf)) (lq (sq (sq (.join [(113,.one (.bool))] lf) (cq ll lf)) (sq (.join [(138,.one (.bool))] lf) (cq ll lf))))))))))))) lf))))) ll))))) Tryz.func5 hv
theorem FC.walk{x:aE.S} (a:aQ h (.cells x.arr 47) λb H=> ∃c t T,Cc H b 15 (.slice c t T)/\if(decide (((t:Nat):Int)>400))then R (.bool true) H else Hs H b 5 λt10=>Hs H b 6 λt14=>Hs H b 10 λt19=> ∃t24,Cc H b 11 (.string t24)/\R (.bool (decide ((wrap .i64 ((wrap .i64 ((wrap .i64 ((t10.size:Int)+(t14.size:Int)))+(t19.size:Int)))+((t24.size:Nat):Int)))>300))) H):Cl 57 #[x.agg] h R:=aN (lq ll) Tryz.func57 a

end
section
namespace Ask
open iT (Ev kj)
open eU (SS Good Pt sP Mk Bk)
open iD
open Go.fM (RD)
abbrev Op.s(o:Op)(p:cg)(c:Nat)(q:cg)(d:Nat):cI.S:=⟨o.kind,o.ses,o.q.id,o.q.kind,o.q.ep.jI,o.q.ep.node,o.q.ep.fX,o.q.ep.host,o.q.ep.jd,o.q.dest.jI,o.q.dest.node,o.q.dest.fX,o.q.dest.host,o.q.dest.jd,o.q.jA,o.q.num,o.q.iA,p,o.q.nj.length,c,o.q.eV,o.q.token,o.q.on,o.at_,o.x.jI,o.x.node,o.x.fX,o.x.host,o.x.jd,q,o.b.length,d⟩
variable {V : List UInt8 → Bool} {h h' u H g : aj} {R : Value → aj → Prop} {s k c d : Nat} {X n : Ft} {I : sP} {σ w : SS} {p q : Option Addr} {o : Op}
theorem Sk{b:Nat}{K:aE.S->Prop}(a:cI.fV h b (o.s p c q d))(hk:K (o.q.s p c)):aE.cO h (AA b 2) K:=
 ⟨_,ak a,_,ak a,_,ak a,_,ak a,_,ak a,_,ak a,_,ak a,_,ak a,_,ak a,_,ak a,_,ak a,_,ak a,_,ak a,_,ak a,_,ak a,_,_,_,ak a,_,ak a,_,ak a,_,ak a,hk⟩
theorem QN(x:Rq)(hk: ∀h' b,Fr No h h'->R (.bool b) h'):Cl 57 #[(x.s p c).agg] h R:=by
 refine FC.walk (aE.db (x:=x.s p c) λB e E a f2=>⟨_,_,_,ak a,?_⟩);split
 .exact hk e _ f2
 .exact⟨_,ak a,_,ak a,_,ak a,_,ak a,hk e _ f2⟩
theorem ND(o:Op)(hk: ∀h' b,Fr No h h'->R (.bool b) h'):Cl 21 #[(o.s p c q d).agg] h R:=by
 refine FB.walk (cI.db (x:=o.s p c q d) λb H E f f1=>Sk f (QN o.q λa v f2=>⟨v,rfl,?_⟩));have F:=f1.tt f2;have e:=f2.get f id;split
 .exact hk a _ F
 .refine⟨_,_,_,ak e,?_⟩;split
  .exact hk a _ F
  .exact⟨_,ak e,_,ak e,hk a _ F⟩
theorem QO{b1:Nat}{y:ar.S}{bs:cH}(m:ar.fV h b1 y)(r:Row h p (bc bs))(hd:bs≠ []): ∀a,p=some a->¬a.block=b1:=by
 rintro a rfl e;cases bs with
 |nil=>exact hd rfl
 |cons x l=>
  obtain⟨C,t,f,H,_,b⟩:=ss (Row.cell r (j:=0) rfl);have H:h[a.block]? =_:=H;rw[e,m]at H;cases H;generalize (a.add 0).off=i at b;rcases i with _|_|_|_|_|_|i<;>first|cases b|simp at b
theorem Ph(E:En V u h s X I σ k)(r:k+3<=30000)(o:Op)(rx:Rw h X p o.q.nj)(cx:o.q.nj.length<=c)(bx:Rw h X q o.b)(w1:0<=o.q.ep.fX)(w2:0<=o.q.dest.fX)(w3:0<=o.x.fX)(hk: ∀h' n Q D,En V u h' s n I (jU V σ o).1 (k+3)->bG X h n h'->Rw h' n Q (jU V σ o).2.b->R (rS (jU V σ o).2 Q D).agg h'):
  Cl 25 #[pt s,(o.s p c q d).agg] h R:=by
 refine HD.walk (cI.db (x:=o.s p c q d) λb H eb hb f1=>ar.db (x:=.z) λb1 O n' a' f2=>⟨_,ak (f2.get hb id),aG.of λc' hJ=>aG.of λJ1 m'=> ?_⟩);have N:=f1.tt f2;have E2:=E.on N;have f:=f2.get hb id;have z1:=f1.1;have z2:=f2.1;have zb:=aC hb;have o':=aC a';have b': ¬X.M b1:=E.nM af;have out: ∀g n (y:RD) Q D,En V u g s n I (jU V σ o).1 (k+3)->bG X O n g->(jU V σ o).2=y->Rw g n Q y.b->ar.dv g (AA b1 0) (rS y Q D) λh4=>ar.cO h4 (AA b1 0) λr0=>R r0.agg h4:=by
  intro g n y Q D M st Y ry;subst Y;have nx: ∀y,n.M y\/n.D y->¬y=b1:=λy hy e=>by
   subst e;rcases hy with a|a
   .exact(st.jr _ a).elim b' (λa=>af)
   .exact(st.kR _ a).elim (λa=>bX (E.H.lt y (.inr a))) (λa=>af)
  refine Fx (st.fr.get a' b') λg' f'=> ?_
  have U:=bG.no N st;have l':bG X h n g':=⟨U.fr.trans f' cu (λy hy e=>af),U.jr,U.kR,U.vk⟩;refine hk g' n Q D (E.step (M.H.frame f' nx) l' M.G r) l' ?_;by_cases hd:(jU V σ o).2.b= []
  .rw[hd];exact⟨Row.nil,λe=>absurd rfl e⟩
  .exact⟨ry.1.frame f' (QO (st.fr.get a' b') ry.1 hd),ry.2⟩
 have fin: ∀g n,En V u g s n I (jU V σ o).1 (k+3)->bG X O n g->(jU V σ o).2=RD.zero->c' g:=by
  intro g n M st Y;subst hJ;exact out g n RD.zero none 0 M st Y ⟨Row.nil,λe=>absurd rfl e⟩
 have T: ∀{τ:SS}{k:Nat},eU.Good τ (k+1)->eU.Good τ (k+3):=λG=>eU.Good.more (eU.Good.more G)
 by_cases K:o.kind=0
 .have e:jU V σ o=oS V σ o.ses o.q:=ag K;rw[e]at out;rw[ag (Ask.bq.2 K)];refine⟨_,ak f,Sk f (PN E2 af w1 w2 ((rx.on N).1) cx λj l q3 d3 m S row nM=>ar.ex (rS (oS V σ o.ses o.q).2 q3 d3) ⟨rfl,?_⟩)⟩;exact out j l _ q3 d3 (E2.step m S (eU.Good.more (Good.oS (V:=V) (ses:=o.ses) (q:=o.q) E.G E.H.ord E.hk w1)) r) S rfl ⟨row,nM⟩
 rw[ae (λe=>K (Ask.bq.1 e))];refine aG.of λJ2 e'=> ?_
 have e2:J2=c':=by rw[e',m']
 clear e';subst e2;by_cases t:o.kind=1
 .have e:jU V σ o=(eU.w4 σ o.at_,RD.zero):=(ae K).trans (ag t);rw[e]at fin;rw[ag (Ask.bq.2 t)];obtain⟨L,ok⟩:=E.H.okB;exact⟨_,ak f,eU.uw o.at_ rfl E2.H E.G af λj l m S=>⟨_,rfl,fin j l (E2.step m S (T (eU.Good.pass E.G E.H.ord L ok af o.at_)) r) S rfl⟩⟩
 rw[ae (λe=>t (Ask.bq.1 e))];refine aG.of λJ3 i'=> ?_
 have e3:J3=J2:=i';clear i';subst e3;by_cases v:o.kind=2
 .have e:jU V σ o=({ σ with A:=fx.lA σ.A o.at_ },RD.zero):=(ae K).trans ((ae t).trans (ag v));rw[e]at fin;rw[ag (Ask.bq.2 v)];exact⟨_,ak E2.H.cQ,_,ak f,mU E2 af o.at_ λj l _ _ B S=>⟨_,_,rfl,fin j l ⟨B.H,T B.G,r,B.u,B.U,B.mx⟩ S rfl⟩⟩
 rw[ae (λe=>v (Ask.bq.1 e))];refine aG.of λJ4 j'=> ?_
 have e4:J4=J3:=j';clear j';subst e4;by_cases J:o.kind=3
 .have e:jU V σ o=({ σ with A:=fx.zc σ.A o.ses },RD.zero):=(ae K).trans ((ae t).trans ((ae v).trans (ag J)));rw[e]at fin;rw[ag (Ask.bq.2 J)];obtain⟨Z,F,zm,zd,go⟩:=E2.H.use 0;refine⟨_,ak E2.H.cQ,_,ak f,fx.CL F E.G.a λj W T3 s3=> ?_⟩;obtain⟨l,m,S,_,_⟩:=go j W { σ with A:=fx.zc σ.A o.ses } T3 s3 (λi hi=>eU.zB _ hi);exact⟨_,rfl,fin j l (E2.step m S (T (eU.Good.more (Good.mj E.G (E.G.a.down _)))) r) S rfl⟩
 rw[ae (λe=>J (Ask.bq.1 e))];refine aG.of λJ5 k'=> ?_
 have e5:J5=J4:=k';clear k';subst e5;by_cases P:o.kind=4
 .have e:jU V σ o=({ σ with C:=fU.jw σ.C o.x o.b o.at_ },RD.zero):=(ae K).trans ((ae t).trans ((ae v).trans ((ae J).trans (ag P))));rw[e]at fin;rw[ag (Ask.bq.2 P)];obtain⟨Z,F,zm,zd,go⟩:=E2.H.use 2;have sm:=E2.G.small E2.H.ord af;have d':=bx.on N;refine⟨_,ak E2.H.cQ,show aw.cO O (AA b 22) _ from⟨_,ak f,_,ak f,_,ak f,_,ak f,_,ak f,?_⟩⟩;refine⟨_,_,_,ak f,_,ak f,fU.zh F sm (λz F=>(E.G.c.ok.bd z F).2.1) (bX E.G.c.ok.vE) o.x (d:=o.b) o.at_ rfl d'.1 rfl (λhd a ha hm=>d'.2 hd a.block ⟨a,ha,rfl⟩ (zm _ hm)) λj W C3 s3=> ?_⟩;obtain⟨l,m,S,_,_⟩:=go j W { σ with C:=fU.jw σ.C o.x o.b o.at_ } C3 s3 (λi hi=>eU.vU _ hi);exact⟨_,_,rfl,fin j l (E2.step m S (T (eU.Good.Ta E.G E.H.ord af _ w3 _ _)) r) S rfl⟩
 have e:jU V σ o=(σ,RD.zero):=(ae K).trans ((ae t).trans ((ae v).trans ((ae J).trans (ae P))));rw[e]at fin;rw[ae (λe=>P (Ask.bq.1 e))];exact fin O X ⟨E2.H,eU.Good.more (eU.Good.more (eU.Good.more E.G)),r,E2.u,E2.U,E2.mx⟩ (bG.refl _ _) rfl
theorem BL.mi{l:Nat}{bs:List (cH)}{S:Nat->Prop}(B:BL u h p l c bs)(f:Fr S h h')(i: ∀y,u.size<=y->¬S y):BL u h' p l c bs:=by
 obtain⟨xs,D,H,j,m,r,b,e⟩:=B;exact⟨xs,D,H,j.frame f (λy a=>i y (e y a)),m,λx t=>(r x t).frame f (λy a=>i y (b y a).1),λy a=>⟨(b y a).1,ct (b y a).2.1 f.1,(b y a).2.2⟩,e⟩
theorem NF{g0 G:aj}{l m e:Nat}{bs cs:List (cH)}(B:BL g0 h p l c bs)(C:BL G h q m e cs)(a:cs=bs)(f:bs.length<=1000000)(hk:R (.bool true) h):Cl 26 #[.slice p l c,.slice q m e] h R:=by
 subst a;have b:=B.len;obtain⟨xs,r1,e1⟩:=B.Iq;obtain⟨ys,r2,e2⟩:=C.Iq;refine iD.iu r1 r2 af ?_;rw[e1,e2,au rfl];exact hk
end Ask
end
section
namespace Ask
open iT (Ev kj)
open eU (SS Good Pt sP Mk Bk)
open iD
open Go.fM (RD)
variable {V:cH→Bool} {h h' H g:aj} {R:fj} {s k c d:Nat} {X t:Ft} {I:sP} {σ:SS} {p q:cg} {o:Op}
variable {v:Value}
structure OV where
 o:Op
 p:cg
 c:Nat
 q:cg
 d:Nat
abbrev OV.cs(f:OV):cI.S:=f.o.s f.p f.c f.q f.d
abbrev GL(f:OV):List Value:=f.cs.l
theorem NG(f:OV):(GL f).length=28:=rfl
structure OV.ok (h:aj) (f:OV):Prop where
 r1:Row h f.p (bc f.o.q.nj)
 c1:f.o.q.nj.length<=f.c
 r2:Row h f.q (bc f.o.b)
 w1:0<=f.o.q.ep.fX
 w2:0<=f.o.q.dest.fX
 w3:0<=f.o.x.fX
theorem Sm:tJ Tryz.prog 8 62=some [3,3,27,3,4,27,27,9,9,4,27,27,9,9,3,3,3,22,27,27,4,27,4,27,27,9,9,22]:=cU
theorem NH{n:Nat}(b:qR Tryz.prog h n 22 [v]): ∃p c bs,v=.slice p (bs:cH).length c/\Row h p (bc bs)/\bs.length<=c:=by
 obtain⟨p,c,bs,rfl,i⟩:=qR.bytes cU iD.u8 iD.uU b;refine⟨p,c,bs,rfl,i,?_⟩;cases n with
 |zero=>exact b.elim
 |succ n=>
  unfold qR at b;rw[iD.uU]at b;rcases b with f|⟨a,l,C,f,H,_⟩
  .injection f with e _
   injection e with e1 e2 E
   omega
  .injection f with e _
   injection e with e1 e2 E
   omega
theorem KO{m:Nat}(a:qR Tryz.prog h m 9 [v]): ∃s,v=.string s:=by
 cases m with
 |zero=>exact a.elim
 |succ m=>
  unfold qR at a;rw[show Tryz.prog.underlying 9=some .string by kernel_rfl]at a;obtain⟨s,e,_⟩:=a;exact⟨s,cy e⟩
theorem QP(n:Nat)(cs:List Value)(a:cs.length=28)(j:qR Tryz.prog h n 62 cs): ∃f:OV,cs=GL f/\f.ok h:=by
 have L:=yq 8 n _ _ cs Sm (by rw[a];rfl) j
 match cs,a with
 | [v0,v1,v2,v3,v4,v5,v6,v7,v8,v9,i',j',k',l',m',n',o',p',q',r',s',t',u',v',w',x',y',z'],_=>
  obtain⟨l,rfl,_⟩:=L.int 0 rfl rfl (k:=.i64) cU;obtain⟨m,rfl,_⟩:=L.int 1 rfl rfl (k:=.i64) cU;obtain⟨e,rfl,w2⟩:=L.int 2 rfl rfl (k:=.u64) cU;obtain⟨M,rfl,_⟩:=L.int 3 rfl rfl (k:=.i64) cU;obtain⟨N,rfl⟩:=L.bool 4 rfl rfl cU;obtain⟨O,rfl,_⟩:=L.int 5 rfl rfl (k:=.u64) cU;obtain⟨P,rfl,w6⟩:=L.int 6 rfl rfl (k:=.u64) cU;obtain⟨_,m7⟩:=L.get 7 rfl rfl;obtain⟨Q,rfl⟩:=KO m7;obtain⟨_,m8⟩:=L.get 8 rfl rfl;obtain⟨S,rfl⟩:=KO m8;obtain⟨T,rfl⟩:=L.bool 9 rfl rfl cU;obtain⟨r,rfl,_⟩:=L.int 10 rfl rfl (k:=.u64) cU;obtain⟨u,rfl,c'⟩:=L.int 11 rfl rfl (k:=.u64) cU;obtain⟨_,U⟩:=L.get 12 rfl rfl;obtain⟨w,rfl⟩:=KO U;obtain⟨_,W⟩:=L.get 13 rfl rfl;obtain⟨x,rfl⟩:=KO W;obtain⟨y,rfl,_⟩:=L.int 14 rfl rfl (k:=.i64) cU;obtain⟨z,rfl,_⟩:=L.int 15 rfl rfl (k:=.i64) cU;obtain⟨A,rfl,_⟩:=L.int 16 rfl rfl (k:=.i64) cU;obtain⟨_,Y⟩:=L.get 17 rfl rfl;obtain⟨p,c,b1,rfl,r1,c1⟩:=NH Y;obtain⟨K,rfl,d'⟩:=L.int 18 rfl rfl (k:=.u64) cU;obtain⟨b,rfl,e'⟩:=L.int 19 rfl rfl (k:=.u64) cU;obtain⟨C,rfl⟩:=L.bool 20 rfl rfl cU;obtain⟨i,rfl,f'⟩:=L.int 21 rfl rfl (k:=.u64) cU;obtain⟨D,rfl⟩:=L.bool 22 rfl rfl cU;obtain⟨E,rfl,_⟩:=L.int 23 rfl rfl (k:=.u64) cU;obtain⟨F,rfl,g'⟩:=L.int 24 rfl rfl (k:=.u64) cU;obtain⟨_,Z⟩:=L.get 25 rfl rfl;obtain⟨G,rfl⟩:=KO Z;obtain⟨_,a'⟩:=L.get 26 rfl rfl;obtain⟨J,rfl⟩:=KO a';obtain⟨_,b'⟩:=L.get 27 rfl rfl;obtain⟨q,d,B,rfl,r2,c2⟩:=NH b';obtain⟨e,rfl⟩:=eK (wf_u64 w2).1;obtain⟨K,rfl⟩:=eK (wf_u64 d').1;obtain⟨b,rfl⟩:=eK (wf_u64 e').1;obtain⟨i,rfl⟩:=eK (wf_u64 f').1;exact⟨⟨⟨l,m,⟨e,M,⟨N,O,P,Q,S⟩,⟨T,r,u,w,x⟩,y,z,A,b1,K,b,C⟩,i,⟨D,E,F,G,J⟩,B⟩,p,c,q,d⟩,rfl,⟨r1,c1,r2,(wf_u64 w6).1,(wf_u64 c').1,(wf_u64 g').1⟩⟩
theorem NI{l:Nat}(m:pU Tryz.prog h 60 (.slice p l c)): ∃fs:List OV,fs.length=l/\Row h p (fs.flatMap GL)/\∀f∈fs,f.ok h:=by
 obtain⟨xs,H,_,_,a,b⟩:=pU.slice (e:=62) GL 28 (λf=>f.ok h) cU (λ_=>rfl) (λn cs i j=>QP n cs i j) cU m;exact⟨xs,H,a,b⟩
theorem _root_.Go.Proofs.YtlenamcfacpheaaGreatDoor.askOwns_ok(lp:cg)(ll lc:Nat)(hv:pU Tryz.prog h 60 (.slice lp ll lc))(tb:mD.nE h)(ut: ∃V,Cb.mE V h)(mx:mD.Mx h):Lk Tryz.prog 5 #[.slice lp ll lc] h:=by
 obtain⟨fs,rfl,row,D'⟩:=NI hv;obtain⟨V,U⟩:=ut;clear hv;unfold Lk;generalize hR:(λ(v:Value) h'=>v=.bool true/\Fr No h h')=R;have hk: ∀h',Fr No h h'->R (.bool true) h':=λh' W=>by rw[<-hR];exact⟨rfl,W⟩
 clear hR;refine A4.walk (I8 λH f1=>aw.ex HC.s ⟨rfl,eU.gC HC (λ_ h2 s X I H2 u2=>⟨_,_,rfl,aG.of λF' hJ=> ?_⟩) (λn=>absurd I9 n)⟩);have E2:=En.NC U mx f1 H2 u2;rw[dj];refine NB H2.cQ ⟨_,rfl,?_⟩;subst hJ;dsimp only;rw[dj];refine⟨λa i g=> ∃(j:Nat)(t:Ft)(σ:SS),i=(j:Int)/\j<=fs.length/\j<=50/\En V h g s t I σ (3*j)/\0<=a/\a<=(σ.C.dx:Int),λ_ i _=>51 - i.toNat,⟨0,X,_,rfl,bL _,bL _,E2,dL _,dL _⟩,?_⟩;rintro a _ g ⟨j,X1,σ,rfl,hj,P',E,z',ha⟩;refine aG.of λJ1 k'=> ?_
 have out:J1 false g:=by
  subst k';dsimp only;rw[dj];exact FA U mx E.u.fr λh3 f3=>⟨_,rfl,hk h3 (E.u.fr.tt f3)⟩
 by_cases hl:j<fs.length
 case neg=>rw[dj];exact out
 rw[fY];by_cases h5:j<50
 case neg=>rw[az af];exact out
 rw[au af];clear out;subst k';dsimp only;rw[ag rfl];obtain⟨f,W⟩: ∃f,fs[j]? =some f:=⟨_,ai hl⟩;have F:=D' f (aT W);obtain⟨a0,rfl⟩: ∃a,lp=some a:=row.some (λe=>by
  have:=bT List.length e;rw[eS GL 28 (λ_=>rfl)]at this;simp at this;omega)
 have rg: ∀g',Fr No h g'->dI (a0.add (j*28)) (GL f) 0 g':=λg' fg=>(row.frame fg cu).fL NG W
 refine aG.of λJ2 w'=>⟨af,ay.2 (cI.mA (x:=f.cs) (rg g E.u.fr) (cI.gh (x:=f.cs) λb g1 eb hb f1=>cI.fR (x:=f.cs) hb (ND f.o λg2 v f2=>⟨_,rfl,?_⟩)))⟩
 have F2:=f1.tt f2;have E2:=E.on F2;have B':=f2.get hb id;cases v with
 |true=>
  rw[ag rfl];exact FA U mx E2.u.fr λh4 f4=>⟨_,rfl,hk h4 (E2.u.fr.tt f4)⟩
 |false=>
 rw[dj];have vE:=E.G.c.ok.vE;have gl:=E.G.c.L;have m: ∀{g:aj}{X:Ft}{σ:SS}{n:Nat},En V h g s X I σ n->(∃Z,gg.Tb g I.r Z σ.G)/\(∃Z,fU.Ct g I.c Z σ.C)/\∃Z,gD.As g I.o Z σ.B:=λE=>by
  obtain⟨G',m,_⟩:=id E.H;exact⟨⟨_,m 1⟩,⟨_,m 2⟩,⟨_,m 3⟩⟩
 have r': ∀{g:aj}{X:Ft}{σ:SS}{n:Nat}{K:fj},En V h g s X I σ n->(∀h' P w C,BL g h' P w C (σ.G.map gg.zI)->Fr No g h'->K (.slice P w C) h')->Cl 22 #[pt I.r] g K:=λE O=>
  gg.uR (m E).1.choose_spec (bX E.G.g.len) E.G.g.all (tb.on E.u.fr) O
 have q': ∀{g:aj}{X:Ft}{σ:SS}{n:Nat}{K:fj},En V h g s X I σ n->(∀h' P w C,BL g h' P w C (fU.Ir σ.C)->Fr No g h'->K (.slice P w C) h')->Cl 23 #[pt I.c] g K:=λE O=>
  fU.uR (m E).2.1.choose_spec (E.G.small E.H.ord (cM E.hk dH)) (gF E.G.c.L E.hk) E.G.c.all (tb.on E.u.fr) O
 have p': ∀{g:aj}{X:Ft}{σ:SS}{n:Nat}{K:fj},En V h g s X I σ n->(∀h' P w C,BL g h' P w C (gD.Iv σ.B)->Fr No g h'->K (.slice P w C) h')->Cl 24 #[pt I.o] g K:=λE O=>
  gD.uR (m E).2.2.choose_spec (gF E.G.b E.hk) O
 refine ay.2 ⟨_,ak E2.H.cQ,ay.2 ⟨_,ak E2.H.cQ,ay.2 ⟨_,ak E2.H.cQ,r' E2 λg3 p3 l3 c3 A f3=>⟨_,_,_,rfl,f3.kp,q' (E2.on f3) λg4 p4 l4 c4 D f4=>⟨_,_,_,rfl,f4.kp,p' ((E2.on f3).on f4) λg5 p5 l5 c5 B5 f5=>⟨_,_,_,rfl,?_⟩⟩⟩⟩⟩⟩;have J:=((E2.on f3).on f4).on f5;have A:=(A.on f4).on f5;have D:=D.on f5;have F5:=(F2.tt f3).tt (f4.tt f5);have m':=((f3.tt f4).tt f5).get B' id;refine ay.2 ⟨_,ak J.H.cQ,fU.BG (m J).2.1.choose_spec (J.G.small J.H.ord af) λg6 f6=>⟨_,_,_,_,_,_,rfl,gj.new λb1 g7 K' A' f7=>cI.fR (x:=f.cs) ((f6.tt f7).get m' id) ?_⟩⟩;have E7:=J.on (f6.tt f7);have o': ∀{pp:cg}{dd:cH},Row h pp (bc dd)->Rw g7 X1 pp dd:=λr=>⟨r.frame E7.u.fr cu,λhd z hz hm=>by
  have:=iI r (by simpa[bc]using hd) hz;have:=E7.u.ge z (.inl hm);omega⟩
 refine Ph E7 af f.o (o' F.r1) F.c1 (o' F.r2) F.w1 F.w2 F.w3 λg8 X8 q8 d8 E8 d' _=>ar.ex (rS (jU V σ f.o).2 q8 d8) ⟨rfl,ar.gh (x:=rS (jU V σ f.o).2 q8 d8) λb2 g9 L' C' f9=> ?_⟩
 have M:=E8.on f9;refine ay.2 ⟨_,ak M.H.cQ,fU.BG (m M).2.1.choose_spec (M.G.small M.H.ord af) λN' f10=>⟨_,_,_,_,_,_,rfl,gj.new λb3 N M' T f11=> ?_⟩⟩;have u:=M.on (f10.tt f11);have z1:=f1.1;have z2:=F2.1;have z5:=F5.1;have z6:=f6.1;have z7:=f7.1;have nb: ¬X1.M b:=E.nM af;have E': ¬X1.M b1:=E.nM af;have l':=(f10.tt f11).get (f9.get (d'.fr.get ((f6.tt f7).get m' id) nb) id) id;have n':=(f10.tt f11).get (f9.get (d'.fr.get A' E') id) id;have Q:=(f10.tt f11).get C' id;have mJ: ∀{p:cg}{l c:Nat}{bs:List (cH)},BL g2 g5 p l c bs->BL g2 N p l c bs:=λB=>
  ((BL.mi (B.on (f6.tt f7)) d'.fr (λy Q hm=>E2.nM Q hm)).on f9).on (f10.tt f11)
 have A:=mJ A;have D:=mJ (BL.mono D f3.1);have B5:=mJ (BL.mono B5 (f3.tt f4).1);have f':=u.G.c.ok.vE;have i':=u.G.c.L;have w1: ∀n:Int, -9223372036854775808<=n->n<=9223372036854775807->IntKind.wrap .i64 n=n:=λn a b=>bA a b
 have a': ∀(S:Int) G,Fr No N G->0<=S->S<=((jU V σ f.o).1.C.dx:Int)->J2 S G:=by
  intro S G f12 H h2;subst w';dsimp only;rw[w1 _ af af];exact⟨⟨j+1,X8,_,rfl,af,af,u.on f12,H,h2⟩,by show 51 - ((j:Int)+1).toNat<51 - (j:Int).toNat;omega⟩
 refine⟨_,ak l',?_⟩;by_cases Y:f.o.kind=0
 case neg=>
  rw[ag (cy Y)];exact a' a N (Fr.refl _ _) z' (by rw[MJ Y];exact ha)
 rw[ae (cy Y)];have ep:jU V σ f.o=oS V σ f.o.ses f.o.q:=ag Y;rw[ep]at a' u Q f' i';have PE:=OO (V:=V) (σ:=σ) (ses:=f.o.ses) (q:=f.o.q);have err:=OM (V:=V) (σ:=σ) (ses:=f.o.ses) (q:=f.o.q);rw[ep]at T;generalize oS V σ f.o.ses f.o.q=τ at a' u Q f' i' PE err T;refine⟨dH,_,ak T,dH,_,ak n',aG.of λJ3 x'=> ?_⟩;have fin: ∀G,Fr No N G->J3 false G:=by
  intro G f12;subst x';dsimp only;rw[dj];refine aG.of λJ4 y'=>⟨_,ak (f12.get l' id),?_⟩
  have key: ∀v,v=false->J4 v G:=by
   rintro _ rfl;subst y';dsimp only;rw[dj,w1 (a+_) af af,w1 _ af af];exact a' _ G f12 (by rcases PE with e|⟨_,e⟩<;>omega) af
  have c':=f12.get T id;have j':=f12.get n' id;have tl: ∃t127,aX G (((AA b3 0):Addr).add (Int.toNat 3*1))=some (.I t127)/\((0:Int)<=3/\3<((6:Nat):Int))/\∃t129,aX G (((AA b1 0):Addr).add (Int.toNat 3*1))=some (.I t129)/\
    if(decide ((IntKind.wrap .i64 (t127 - t129))>1))=true then J4 true G else((0:Int)<=0/\0<((6:Nat):Int))/\∃t136,aX G (((AA b3 0):Addr).add (Int.toNat 0*1))=some (.I t136)/\J4 (decide ((IntKind.wrap .i64 ((IntKind.wrap .i64 (a+(τ.1.C.dx:Int))) - (σ.C.dx:Int)))>t136)) G:=by
   refine⟨_,ak c',dH,_,ak j',?_⟩;rw[w1 _ af af,ae (by simp only[aY];rcases PE with e|⟨_,e⟩<;>omega)];refine⟨dH,_,ak c',key _ (az ?_)⟩;rw[w1 (a+_) af af,w1 _ af af];omega
  by_cases k8:f.o.q.kind=8
  .rw[ae (cy k8)];exact⟨dH,tl⟩
  .rw[ag (cy k8)];refine⟨dH,_,ak c',dH,_,ak j',?_⟩;have e:τ.1.C.dx=σ.C.dx:=PE.resolve_right (λe=>k8 e.1);rw[ae (by rw[e];simp)];exact⟨dH,tl⟩
 refine⟨_,ak Q,?_⟩;by_cases ce:τ.2.err=0
 .rw[ae (cy ce)];exact fin N (Fr.refl _ _)
 rw[ag (cy ce)];obtain⟨eG,eC,eB⟩:=err ce;have lG:(σ.G.map gg.zI).length<=1000000:=by rw[aF];have:=E.G.g.len;omega
 have lC:(fU.Ir σ.C).length<=1000000:=by unfold fU.Ir;simp only[aV,aF];omega
 have lB:(gD.Iv σ.B).length<=1000000:=by
  obtain⟨L,ok⟩:=E.H.okB;have:=ok.le;unfold gD.Iv;simp only[aV,aF];omega
 refine ay.2 ⟨_,ak u.H.cQ,r' u λG T' Q' H' s' f12=>⟨_,_,_,rfl,NF (A.on f12) s' (by rw[eG]) lG ⟨_,rfl,?_⟩⟩⟩;rw[dj];have b':=u.on f12;refine ay.2 ⟨_,ak b'.H.cQ,q' b' λO' U' R' I' t' f13=>⟨_,_,_,rfl,NF ((D.on f12).on f13) t' (by rw[eC]) lC ⟨_,rfl,?_⟩⟩⟩;rw[dj];have e':=b'.on f13;refine ay.2 ⟨_,ak e'.H.cQ,p' e' λv' V' S' J' u' f14=>⟨_,_,_,rfl,NF (((B5.on f12).on f13).on f14) u' (by rw[eB]) lB ⟨_,rfl,?_⟩⟩⟩;exact fin v' ((f12.tt f13).tt f14)

end Ask
end
theorem A5{H:Type}{enc:TypeId×Value->H}{C:Checked}{o:Os}{f:FuncId}{F:Func}{s:ChangeSpec}{d:List PathCond}{apart fresh k A:Bool}{a:Assume}{X:World->Array Value->Prop}(m: ∀(w w':World)(args:Array Value),w.heap=w'.heap->X w args->X w' args)(own:ownKnob C.prog.godebug=none)(u:o.Started)(N:C.prog.inits.idxOf? f=none)(n:C.prog.funcs[f]? =some F)(x: ∃(w:World)(T:Tape)(i:Input),w.os=o/\(w.forCall T i).Shaped C.prog/\i.vars= []/\Input.okWide C.prog (w.forCall T i) .any w.heap.size f i/\
   ((s.pre enc C.prog F d apart (w.forCall T i).memory i.args/\X (w.forCall T i).memory i.args)/\sizedMet enc C.prog F (OpenSpec.ofChange s) apart (w.forCall T i).memory i.args)/\a.holds C.prog (lone (Frame.enter C.prog f i.args .normal) [] (w.forCall T i)))(l: ∀(W:World)(B:Nat)(args:Array Value)(ds G:List (DataW H))(b:List MemPlace),W.ShapedOpen C.prog->(∀(j:Nat) t v,F.params[j]? =some t->args[j]? =some v->Value.okWide C.prog W .any B t v)->
   DataW.Whole enc C.prog F.params.toList s.vars apart W args.toList ds G b->X W args->Calls C.prog f args W λe c=> ∃v,e=.returned v/\s.post enc C.prog F apart fresh k A W args v c):
  ReturnsInHanded a C o f .any (λw args=>(s.pre enc C.prog F d apart w args/\X w args)/\sizedMet enc C.prog F (OpenSpec.ofChange s) apart w args) (s.post enc C.prog F apart fresh k A):=
 returnsInHanded_of_calls own u N x λw T i _ S _ ok pre _=>by
  obtain⟨_,_,_,g,p,_,_,_,_,val⟩:=ok;cases bj (p.symm.trans n);obtain⟨⟨⟨ds,G,b,q,_⟩,r⟩,_⟩:=pre;refine(l (w.forCall T i) w.heap.size i.args ds G b S val (DataW.Whole.of_heap (w':=w.forCall T i) (by rfl) q) (m _ _ _ (by rfl) r)).mono λe c h=> ?_
  obtain⟨v,rfl,h⟩:=h;exact ChangeSpec.post_blind h
theorem mD.Mx.KP{W:World}(h:W.ShapedOpen Tryz.prog):mD.Mx W.heap:=by
 obtain⟨m,H⟩:=cell_of_shapedOpen_int (g:=5) (t:=3) (zero:= #[.I 0]) (k:=.i64) h (aP cU) cU rfl cU cU cU;rw[jX]at H;exact⟨m,H⟩

section
namespace mD
theorem nE.uW{W:World}{l:List (String×DataW Unit)}{s:String}(j:Tryz.prog.globalNamed s=some 0)(h:laidMet Tryz.prog l W)(i:(s,Lib.tabData .u64 Lib.pow10Tab)∈l):nE W.heap:=by
 obtain⟨g,t,cs,F,p,a,k,d,hd⟩:=Lib.laidMet.reads h i;have a:Tryz.prog.globalNamed s=some g:=a;unfold World.var? at d;rw[a]at d;have H:(match W.heap[g]? with|some (.cells cs _ _)=>some cs|_=>none)=some cs:=d;cases b:W.heap[g]? with
 |none=>rw[b]at H;cases H
 |some o=>
  rw[b]at H;cases o with
  |cells c ty f=>
   obtain rfl:c=cs:=bj H;have eg:g=0:=bj (a.symm.trans j);subst eg;refine⟨ty,f,?_⟩;have m:t=374:=by
    have e:(Tryz.prog.globals[(0:Nat)]?).map (·.type)=some 374:=cU
    exact bj (k.symm.trans e)
   subst m;have:=Lib.cells_of_tab (n:=20) (e:=27) cU cU cU cU hd;rw[b,<-this]
  |_=>cases H

end mD
end
section
variable {h:aj} {R:fj}
theorem nB.walk{S:cg}{s i:Nat} (H:Bd 0 s/\aM S λa=>HR h (a.add (toNat 0*1)) λt27=>Bd 1 s/\aM S λA=>HR h (A.add (toNat 1*1)) λt31=>Bd 2 s/\aM S λb=>HR h (b.add (toNat 2*1)) λt37=>Bd 3 s/\aM S λc=>HR h (c.add (toNat 3*1)) λt43=>Bd 4 s/\aM S λd=>HR h (d.add (toNat 4*1)) λt49=>Bd 5 s/\aM S λe=>HR h (e.add (toNat 5*1)) λt55=>Bd 6 s/\aM S λf=>HR h (f.add (toNat 6*1)) λt61=>Bd 7 s/\aM S λg=> ∃t67,aX h (g.add (toNat 7*1))=some (.int .u8 t67)/\R (.U (wrap .u64 ((mM (wrap .u64 ((mM (wrap .u64 ((mM (wrap .u64 ((mM (wrap .u64 ((mM (wrap .u64 ((mM (wrap .u64 ((mM (wrap .u64 t27)|||mM (wrap .u64 ((wrap .u64 t31)*2 ^ min (toNat 8) (IntKind.bits .u64)))).toNat:Int))|||mM (wrap .u64 ((wrap .u64 t37)*2 ^ min (toNat 16) (IntKind.bits .u64)))).toNat:Int))|||mM (wrap .u64 ((wrap .u64 t43)*2 ^ min (toNat 24) (IntKind.bits .u64)))).toNat:Int))|||mM (wrap .u64 ((wrap .u64 t49)*2 ^ min (toNat 32) (IntKind.bits .u64)))).toNat:Int))|||mM (wrap .u64 ((wrap .u64 t55)*2 ^ min (toNat 40) (IntKind.bits .u64)))).toNat:Int))|||mM (wrap .u64 ((wrap .u64 t61)*2 ^ min (toNat 48) (IntKind.bits .u64)))).toNat:Int))|||mM (wrap .u64 ((wrap .u64 t67)*2 ^ min (toNat 56) (IntKind.bits .u64)))).toNat:Int))) h):Cl 324 #[.slice S s i] h R:=aN (lq (sq (cq (sq (pN 23) lf) lf) (sq (pN 47) lf))) Tryz.func324 H
theorem sY.walk{L:cg}{g F:Nat} (hv:((0:Int)<=(g:Int)/\(g:Int)<=(F:Int))/\((0:Int)<=(g:Int)/\(g:Int)<=(g:Int))/\∃(I:cg->Nat->Nat->aj->Prop)(M:cg->Nat->Nat->aj->Nat),I (cK L (toNat (g:Int)) 0 1) (toNat (g:Int)) (toNat (g:Int)) h/\∀(c:cg)(p P:Nat)(f:aj),I c p P f->if(decide ((p:Int)>0))then aG (λ(N:cg) (K G:Nat) (z:aj)=>(I N K G z/\M N K G z<M c p P f)) (λJ=>Bd 0 p/\aM c λa=> ∃t18,aX f (a.add (toNat 0*1))=some (.int .u8 t18)/\if(decide (t18<128))then((0:Int)<=1/\1<=(p:Int))/\aG (λ(t31:Bool) (o:aj)=>aG (λ(D':cg) (y' t':Nat) (q':aj)=>J D' y' t' q') (λs=>if t31 then((0:Int)<=8/\8<=((p - (toNat 1):Nat):Int))/\aG (λ(t46:Bool) (D:aj)=>aG (λ(E':cg) (z' u':Nat) (r':aj)=>s E' z' u' r') (λu=>if t46 then((0:Int)<=16/\16<=(((p - (toNat 1)) - (toNat 8):Nat):Int))/\∃(m:cg->Nat->Nat->aj->Prop)(E:cg->Nat->Nat->aj->Nat),m (cK (cK (cK c P (toNat 1) 1) (P - (toNat 1)) (toNat 8) 1) ((P - (toNat 1)) - (toNat 8)) (toNat 16) 1) (((p - (toNat 1)) - (toNat 8)) - (toNat 16)) (((P - (toNat 1)) - (toNat 8)) - (toNat 16)) D/\∀(i:cg)(e d:Nat)(l:aj),m i e d l->aG (λ(t69:Bool) (q:aj)=>if t69 then((0:Int)<=32/\32<=(e:Int))/\(m (cK i d (toNat 32) 1) (e - (toNat 32)) (d - (toNat 32)) q/\E (cK i d (toNat 32) 1) (e - (toNat 32)) (d - (toNat 32)) q<E i e d l)else u i e d q) (λw=>if(decide ((e:Int)>32))then((0:Int)<=8/\8<=(e:Int))/\((0:Int)<=16/\16<=(e:Int))/\((0:Int)<=24/\24<=(e:Int))/\Cl 324 #[.slice i e d] l λv s'=>Vu v λt54=>Cl 324 #[.slice (cK i d (toNat 8) 1) (e - (toNat 8)) (d - (toNat 8))] s' λI' f'=>Vu I' λt57=>Cl 324 #[.slice (cK i d (toNat 16) 1) (e - (toNat 16)) (d - (toNat 16))] f' λJ' g'=>Vu J' λt61=>Cl 324 #[.slice (cK i d (toNat 24) 1) (e - (toNat 24)) (d - (toNat 24))] g' λK' h'=> ∃t64,K'=.U t64/\w ((wrap .u64 ((mM (wrap .u64 ((mM (wrap .u64 ((mM t54|||mM t57).toNat:Int))|||mM (wrap .u64 ((mM t61|||mM t64).toNat:Int))).toNat:Int)) &&& mM 9259542123273814144).toNat:Int))==0) h' else w false l)else u (cK (cK c P (toNat 1) 1) (P - (toNat 1)) (toNat 8) 1) ((p - (toNat 1)) - (toNat 8)) ((P - (toNat 1)) - (toNat 8)) D)) (λt=>if(decide ((((p - (toNat 1)) - (toNat 8):Nat):Int)>16))then((0:Int)<=8/\8<=(((p - (toNat 1)) - (toNat 8):Nat):Int))/\Cl 324 #[.slice (cK (cK c P (toNat 1) 1) (P - (toNat 1)) (toNat 8) 1) ((p - (toNat 1)) - (toNat 8)) ((P - (toNat 1)) - (toNat 8))] o λL' i'=>Vu L' λt39=>Cl 324 #[.slice (cK (cK (cK c P (toNat 1) 1) (P - (toNat 1)) (toNat 8) 1) ((P - (toNat 1)) - (toNat 8)) (toNat 8) 1) (((p - (toNat 1)) - (toNat 8)) - (toNat 8)) (((P - (toNat 1)) - (toNat 8)) - (toNat 8))] i' λM' j'=> ∃t42,M'=.U t42/\t ((wrap .u64 ((mM (wrap .u64 ((mM t39|||mM t42).toNat:Int)) &&& mM 9259542123273814144).toNat:Int))==0) j' else t false o)else s (cK c P (toNat 1) 1) (p - (toNat 1)) (P - (toNat 1)) o)) (λr=>if(decide (((p - (toNat 1):Nat):Int)>8))then Cl 324 #[.slice (cK c P (toNat 1) 1) (p - (toNat 1)) (P - (toNat 1))] f λN' k'=> ∃t28,N'=.U t28/\r ((wrap .u64 ((mM t28 &&& mM 9259542123273814144).toNat:Int))==0) k' else r false f)else Bd t18 256/\HR f (((AA 3 0):Addr).add (toNat t18*1)) λt74=>Bd (Int.fdiv t74 (2 ^ min (toNat 4) (IntKind.bits .u8))) 16/\∃T,aX f (((AA 4 0):Addr).add (toNat (Int.fdiv t74 (2 ^ min (toNat 4) (IntKind.bits .u8)))*2))=some (.int .u8 T)/\∃O,aX f ((((AA 4 0):Addr).add (toNat (Int.fdiv t74 (2 ^ min (toNat 4) (IntKind.bits .u8)))*2)).add 1)=some (.int .u8 O)/\aQ f (.cells #[.int .u8 0,.int .u8 0] 421) λb l'=>aO l' (AA b 0) (.int .u8 T) λm'=>aO m' (AA b 1) (.int .u8 O) λH=>aG (λ(F':cg) (A' v':Nat) (n':aj)=>J F' A' v' n') (λQ=>aG (λ(G':cg) (B' w':Nat) (o':aj)=>Q G' B' w' o') (λx=>if((wrap .i64 (wrap .u8 ((pB t74 &&& pB 7).toNat:Int)))==2)then aG (λ(t103:Bool) (A:aj)=>if t103 then R (.bool false) A else((0:Int)<=2/\2<=(p:Int))/\x (cK c P (toNat 2) 1) (p - (toNat 2)) (P - (toNat 2)) A) (λn=>if(decide ((p:Int)<2))then n true H else Bd 1 p/\aM c λS=>HR H (S.add (toNat 1*1)) λt91=> ∃t93,Cc H b 0 (.int .u8 t93)/\if(decide (t91<t93))then n true H else Hy H b 1 λt98=>Bd 1 p/\aM c λX=> ∃t101,aX H (X.add (toNat 1*1))=some (.int .u8 t101)/\n (decide (t98<t101)) H)else aG (λ(H':cg) (C' x':Nat) (p':aj)=>x H' C' x' p') (λy=>if((wrap .i64 (wrap .u8 ((pB t74 &&& pB 7).toNat:Int)))==3)then aG (λ(t138:Bool) (B:aj)=>if t138 then R (.bool false) B else((0:Int)<=3/\3<=(p:Int))/\y (cK c P (toNat 3) 1) (p - (toNat 3)) (P - (toNat 3)) B) (λk=>if(decide ((p:Int)<3))then k true H else Bd 1 p/\aM c λY=>HR H (Y.add (toNat 1*1)) λt114=> ∃t116,Cc H b 0 (.int .u8 t116)/\if(decide (t114<t116))then k true H else Hy H b 1 λt121=>Bd 1 p/\aM c λZ=> ∃t124,aX H (Z.add (toNat 1*1))=some (.int .u8 t124)/\if(decide (t121<t124))then k true H else Bd 2 p/\aM c λa'=> ∃t130,aX H (a'.add (toNat 2*1))=some (.int .u8 t130)/\if(decide (t130<128))then k true H else Bd 2 p/\aM c λb'=> ∃t136,aX H (b'.add (toNat 2*1))=some (.int .u8 t136)/\k (decide (191<t136)) H)else if((wrap .i64 (wrap .u8 ((pB t74 &&& pB 7).toNat:Int)))==4)then aG (λ(t185:Bool) (C:aj)=>if t185 then R (.bool false) C else((0:Int)<=4/\4<=(p:Int))/\y (cK c P (toNat 4) 1) (p - (toNat 4)) (P - (toNat 4)) C) (λj=>if(decide ((p:Int)<4))then j true H else Bd 1 p/\aM c λc'=>HR H (c'.add (toNat 1*1)) λt149=> ∃t151,Cc H b 0 (.int .u8 t151)/\if(decide (t149<t151))then j true H else Hy H b 1 λt156=>Bd 1 p/\aM c λd'=> ∃t159,aX H (d'.add (toNat 1*1))=some (.int .u8 t159)/\if(decide (t156<t159))then j true H else Bd 2 p/\aM c λe'=> ∃t165,aX H (e'.add (toNat 2*1))=some (.int .u8 t165)/\if(decide (t165<128))then j true H else Bd 2 p/\aM c λU=> ∃t171,aX H (U.add (toNat 2*1))=some (.int .u8 t171)/\if(decide (191<t171))then j true H else Bd 3 p/\aM c λV=> ∃t177,aX H (V.add (toNat 3*1))=some (.int .u8 t177)/\if(decide (t177<128))then j true H else Bd 3 p/\aM c λW=> ∃t183,aX H (W.add (toNat 3*1))=some (.int .u8 t183)/\j (decide (191<t183)) H)else R (.bool false) H))))else R (.bool true) f):Cl 316 #[.slice L g F] h R:=aN (lq (lq (sq (bq (.loop [(0,.one (.slice))] (sq (lq (cq lf lf)) (.join [(0,.one (.slice))] (bq (lq (sq (lq (cq (lq (sq (sq (.join [(31,.one (.bool))] lf) (.join [(0,.one (.slice))] (cq (lq (sq (.join [(46,.one (.bool))] (.gY (.op 0 (.op 1 (.op 2 (.op 3 (.op 4 (.op 6 (.op 7 (.op 5 (.op 8 (.op 9 (.op 10 (.op 11 (.op 12 .done))))))))))))))) (.join [(0,.one (.slice))] (cq (lq (bq (.loop [(0,.one (.slice))] (sq (sq (.join [(69,.one (.bool))] (.gY (.op 0 (.op 1 (.op 2 (.op 3 (.op 4 (.op 6 (.op 7 (.op 10 (.op 11 (.op 13 (.op 14 (.op 5 (.op 8 (.op 9 (.op 12 (.op 15 (.op 16 (.op 17 (.op 18 (.op 19 (.op 20 .done))))))))))))))))))))))) (cq lf lf)) (bq lf))))) lf)))) lf))) lf)) lf)) (lq (lq (lq (lq (.join [(0,.one (.slice))] (bq (lq (.join [(0,.one (.slice))] (cq (sq (sq (.join [(103,.one (.bool))] (pN 19)) (cq ll lf)) lf) (lq (.join [(0,.one (.slice))] (cq (sq (sq (.join [(138,.one (.bool))] (pN 31)) (cq ll lf)) lf) (lq (cq (sq (sq (.join [(185,.one (.bool))] (pN 43)) (cq ll lf)) lf) ll))))))))))))))))))))) ll))) Tryz.func316 hv

end
end Go.Proofs.YtlenamcfacpheaaGreatDoor
