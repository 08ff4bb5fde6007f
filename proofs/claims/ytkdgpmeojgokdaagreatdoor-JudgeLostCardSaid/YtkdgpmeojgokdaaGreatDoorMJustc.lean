/-
  Fu is proved here: parts of xQ proof, one behind xQ other (texts of this work, merged by a program; HU xQ theorem HV not use is left out). No condition.
-/
import Derived.Test.YtkdgpmeojgokdaaGreatDoorMJustb
set_option maxRecDepth 100000
set_option maxHeartbeats 4000000
namespace Go.Proofs.YtkdgpmeojgokdaaGreatDoor
open Go.Den
open IntKind (wrap)
open Int (toNat)
section
namespace Cb
variable {V:cG→Bool} {h a H:ai} {R E:fO} {p:ct} {r l c:Nat} {b:cG} {pos left:Nat}
variable {f C d:Nat} {K:Option Value->ai->Prop}
def vJ(g:ai)(r:Nat):Nat:=match aU g ⟨r,1,none⟩with
 |some (.int _ z)=>z.toNat
 |_=>0
theorem wE.vJ(e:wE h r p c b pos left):vJ h r=pos:=by
 unfold Cb.vJ;rw[show aU h (AA r 1)=some (.I (pos:Int))from au e.di];exact aH _
theorem CZ{D:Nat->Prop}{v:BV}{m:Int}(g:v.ok h D):gP h D (.mk m 0 v.b []) ⟨m,0,v,none,0,0⟩:=by
 unfold gP;exact⟨⟨rfl,rfl,rfl,g⟩, [],⟨rfl,Row.nil,λe=>absurd rfl e,bp _⟩,by unfold dB;trivial⟩
theorem LA{m n:Nat}{o:Bool}(U:kr V a)(D':Fr No a h)(hr:a.size<=r)(Z:wE h r p c b pos left)(hn:n<18446744073709551616)(k1: ∀H (x:CV) (e':cG) (next:Nat),DX V b pos m n o=.ok (e',next)->gP H (λy=>h.size<=y) (.mk m 0 e' []) x->wE H r p c b next left->Fr (λy=>y=r) h H->R x.agg H)(T: ∀H e,DX V b pos m n o=.error e->Fr (λy=>y=r) h H->E (QA e) H):iO Tryz.prog 193 #[.P r 0,.agg #[.I (m:Int),.U (n:Int),.B o]] h R E:=by
 refine uu.walk (bD.box λe' h1 eb hb f1=>aa.box λb1 h2 b4 x' O=>⟨_,au (O.get hb id),aa.new λB s b5 j' P=>⟨_,au ((O.tt P).get hb id),?_⟩⟩);have zr:=aA Z.di;have zb:=aA hb;have c6:=aA x';have c7:=aA j';have z1:=f1.1;have z2:=O.1;have z4:=P.1;have z:=f1.tt (O.tt P);have H4:=Z.on z;have z':=(O.tt P).get hb id;have y':=P.get x' id;have b8:=Z.len;have L: ∀y,aP p y->b≠ []->y<h.size:=λy i e=>jh Z.row (by cases P':b with|nil=>exact absurd P' e|cons=>simp[bc]) i
 have u': ∀g (v:BV) (next:Nat),aa.at g B m 0 v.p v.b.length v.c none 0 0->aa.at g b1 0 0 none 0 0 none 0 0->v.ok g (λy=>s.size<=y)->DX V b pos m n o=.ok (v.b,next)->wE g r p c b next left->Fr (λy=>y=r\/y=B) s g->
   aa.LD g (AA B 0) λt0 t1 a8 a7 a6 b2 b0 a9=>aa.ST g (AA b1 0) t0 t1 a8 a7 a6 b2 b0 a9 λS=>aa.LD S (AA b1 0) λr0 r1 a0 Z' X' a5 a4 a3=>R (.agg #[.I r0,.U r1,.L a0 Z' X',.L a5 a4 a3]) S:=by
  intro g v next q2 q1 qv ql qr qf;refine aa.ld q2 (aa.set q1 λS M D A=>aa.ld M ?_);have f7:Fr (λy=>y=b1) g S:=Fr.of_eq D (λc w=>A c w);refine k1 S ⟨m,0,v,none,0,0⟩ v.b next ql (CZ ((qv.frame f7 (λy i e=>ag)).mono (λy i=>ag))) (qr.frame f7 ag (λy i e J=>bW (L y i e))) ?_;exact((Fr.no z qf).trans f7 (S'':=λy=>y=r) (λx hx e=>ag) (λx hx e=>ag))
 cases o with
 |false=>
  rw[gi];refine bD.ld z' (Gs U (D'.tt z) H4 hn (λh5 v pv U' lv le H5 Q=>⟨_,_,_,rfl,?_⟩) (λh5 e pe Q=>T h5 e (by simp only[DX,pe]) ((z.tt Q).mono λ_ _=>False.elim)));have M':=Q.get j' ag;refine bk M' (by show 2<4;omega) λh6 M D A=> ?_
  have f6:Fr (λy=>y=B) h5 h6:=Fr.of_eq D (λc w=>A c w);refine u' h6 v (pos+n) M (f6.get (Q.get y' ag) ag) (U'.frame f6 (λy i e=>ag)) (by simp only[DX,pv]) (H5.frame f6 ag (λy i e J=>bW (L y i e))) (Q.trans f6 (λ_ _=> .inl) (λ_ _=> .inr))
 |true=>
  rw[dy];refine⟨λg=> ∃(k next:Nat)(v:BV),(b.length+1<=k+next/\FX V b m k next v.b=DX V b pos m n true)/\aa.at g B m 0 v.p v.b.length v.c none 0 0/\Own g v.p v.b.length v.c 1 (bc v.b)/\(∀y,aP v.p y->s.size<=y)/\wE g r p c b next left/\Fr (λy=>y=r\/y=B) s g/\v.b.length<=next,λg=>b.length+1 - vJ g r,
   ⟨b.length+1,pos,⟨none,0, []⟩,⟨ag,rfl⟩,j',.nil rfl rfl rfl rfl,(λy ⟨d',e,_⟩=>by cases e),H4,Fr.refl _ _,bQ _⟩,?_⟩
  rintro g ⟨k,next,v,⟨b7,j⟩,g2,ov,nv,Hg,I,hv⟩;have c0:=Hg.pos;have L':=I.get y' ag;have O':=I.get z' ag;obtain⟨k,rfl⟩: ∃k',k=k'+1:=⟨k - 1,ag⟩;refine Kh Hg (λh9 J b9 H9 f9=>⟨_,rfl,?_⟩) (λJ=>⟨_,rfl,?_⟩);all_goals unfold FX at j;simp only[J,bm,ar,aQ]at j
  .rw[dy];exact u' h9 v (next+1) (f9.get g2 ag) (f9.get L' ag) (BV.kT (ov.frame f9 (λy i e=>bW (nv y i))) nv) j.symm H9 (I.trans f9 bX (λ_ _=> .inl))
  .rw[gi];refine Au Hg (λv' m' n' B' o' hh F' t=>⟨_,_,_,rfl,bD.new λb3 q b6 l' G=>aG.of λH' hJ=>⟨_,au l',_,au (G.get (t.get O' ag) id),?_⟩⟩) (λv' e hh t=>T v' e (by rw[<-j,hh]) ?_)
   .obtain⟨c2,c1,R',_⟩:=wU hh;rw[hh]at j;dsimp only at j;have G':=F'.on G;have t':Fr (λy=>y=r\/y=B) s q:=(I.trans t bX (λ_ _=> .inl)).on G;have zg:=I.1;have c3:=t.1;have g':aa.at q B m 0 v.p v.b.length v.c none 0 0:=G.get (t.get g2 ag) id;have S':=(ov.frame t (λy i e=>bW (nv y i))).frame G bX;have X:Fr (λy=>y=r) h q:=(Fr.no z t').mono (λx hx e=>ag);have I':Fr No a q:=D'.fresh X (λy e=>ag);have done: ∀g3,Fr No q g3->(m'=m/\o'=false)->H' g3:=by
     intro g3 F Q';rw[af Q']at j;subst hJ;refine⟨_,_,_,au (F.get g' id),bD.ld (F.get l' id) (Gs U (I'.tt F) (G'.on F) R' (λh' E' pw V' lw le s' u=>⟨_,_,_,rfl,au (u.get (F.get g' id) ag),?_⟩) (λh' e pe u=>T h' e (by rw[<-j,pe]) (X.on (F.tt u))))⟩;have T':=(S'.frame F bX).frame u (λy i e=>bW (nv y i));have lv:v.b.length<=1000000:=ag
     refine dR mi.tU mi.uU T' V'.row (by rw[kR,cE]) (rB E'.b) ag ag ?_;intro p' c' w' C' _ a' K';rw[<-kF]at C';have c4:=G.1;have z3:=F.1;have c5:=u.1;refine⟨_,_,_,rfl,bk (a'.get (u.get (F.get g' id) ag) (λi=>bW (nv _ i))) (by show 2<4;omega) λi' M D A=>⟨rfl,?_,?_⟩⟩
     .have f':Fr (λy=>y=B) w' i':=Fr.of_eq D (λc w=>A c w);have A': ∀y,aP p' y->s.size<=y:=λy i=>by
       rcases K' y i with d'|d'
       .exact nv y d'
       .omega
      have b':=s'.frame a' (λi=>bW (nv _ i)) (λy i e q'=>iJ (nv _ q') (L y i e));rw[pw]at j;refine⟨k,B'+n',⟨p',c',v.b++E'.b⟩,⟨ag,j⟩,by rw[aB];exact M,by rw[aB];exact C'.frame f' (λy i e=>bW (A' y i)),A',b'.frame f' ag (λy i e J=>bW (L y i e)),?_,by rw[aB];omega⟩;have a1:Fr (λy=>y=r\/y=B) s h':=(t'.on F).trans u bX (λ_ _=> .inl);have a2:Fr (λy=>y=r\/y=B) s w':=a1.trans a' bX (λx hx i=>bW (nv x i));exact a2.trans f' bX (λ_ _=> .inr)
     .have J':vJ i' r=B'+n':=by
       have b':=s'.frame a' (λi=>bW (nv _ i)) (λy i e q'=>iJ (nv _ q') (L y i e));exact(b'.frame (Fr.of_eq (S:=λy=>y=B) D (λc w=>A c w)) ag (λy i e J=>bW (L y i e))).vJ
      show b.length+1 - vJ i' r<b.length+1 - vJ g r;rw[J',Hg.vJ];omega
    split
    .rename_i r';have em:m'=m:=by have:=eq_of_beq r';omega
     refine⟨_,au l',iq (λho=>⟨rfl,rfl,done q (Fr.refl _ _) ⟨em,by cases o' with|true=>cases ho|false=>rfl⟩⟩) (λho=>T q 3 (by rw[<-j,ae (λe=>by rw[e.2]at ho;cases ho)]) X)⟩
    .rename_i r';exact iq (λe=>absurd e dS) (λ_=>T q 3 (by rw[<-j,ae (λe=>r' (by rw[e.1];simp))]) X)
   .exact((Fr.no z I).on t).mono (λx hx e=>ag)
theorem tI:oC Tryz.prog 196 198 4 64 (.agg #[.I 0,.U 0,.Z,.Z]):=⟨dA,dA,rfl⟩
theorem uI:Tryz.prog.underlying 196=some (.slice 198):=dA
theorem oX(x:CV): ∀v∈iP x,fZ v=true:=by
 intro v e;simp only[bg,cN,fx]at e;rcases e with rfl|rfl|rfl|rfl<;>rfl
theorem ia: ∀(t:List Tr),9*t.length<=dJ t
 | []=>bQ _
 | .mk k n B l::t=>by
  have:=ia t;simp only[dJ,room,bn];omega
def ID(V:cG->Bool)(a:ai)(r:Nat)(p:ct)(c:Nat)(b:cG)(L:Nat):Prop:= ∀(h:ai)(pos left:Nat)(R E:fO),Fr No a h->wE h r p c b pos left->
 (∀H (t:Tr) (x:CV) (next g:Nat),hO V b L pos left=.ok (t,next,g)->gP H (λy=>h.size<=y) t x->wE H r p c b next g->Fr (λy=>y=r) h H->R x.agg H)->
 (∀H e,hO V b L pos left=.error e->Fr (λy=>y=r) h H->E (QA e) H)->iO Tryz.prog 158 #[.pointer (some ⟨r,0,none⟩),.int .i64 (7 - (L:Int))] h R E
structure Sx (h4 g:ai) (r b2:Nat) (p:ct) (c:Nat) (b:cG) (pos next left:Nat) (ts:List Tr) (ys:List CV) (q:ct) (cl:Nat):Prop where
 di:aa.at g b2 4 0 none 0 0 q ys.length cl
 own:Own g q ys.length cl 4 (ys.flatMap iP)
 ge: ∀y,aP q y->h4.size<=y
 tr:dB g (λy=>h4.size<=y/\¬aP q y) ts ys
 room:dJ ts<=10*(next - pos)
 le:pos<=next
 rd:wE g r p c b next left
 fr:Fr (λy=>y=r\/y=b2) h4 g
theorem Of{j g:ai}{B next n:Nat}{S:List Tr}{u:List CV}{q:ct}{cl:Nat}{deep:Int}{Φ:ai->Prop}(IH:ID V a r p c b n)(u4:Fr No a j)(C':a.size<=r)(r4:r<j.size)(b4:B<j.size)(rb:r≠B)(b0:a.size<=B)(hd:deep=6 - (n:Int))(B':n<=6)(d': ∀y,aP p y->b≠ []->y<j.size/\y≠B)(L:Sx j g r B p c b pos next left S u q cl)(hk: ∀U P b' t x' Q M,hO V b n next left=.ok (t,P,b')->Sx j U r B p c b pos P b' (S++ [t]) x' Q M->next<P->Φ U)(kE: ∀H e,hO V b n next left=.error e->Fr (λy=>y=r\/y=B) j H->E (QA e) H):
  ∃(I:ct)(G D:Nat),aU g (AA B 3)=some (.L I G D)/\
  Ce 158 #[.P r 0,.I (IntKind.wrap .i64 (deep+1))] g (λv' Z=>
  ∃(e' f':Int)(i':ct)(h' g':Nat)(l':ct)(k' j':Nat),v'=.agg #[.I e',.U f',.L i' h' g',.L l' k' j']/\
  aU Z (AA B 3)=some (.L I G D)/\
  bf Z (.C #[.I e',.U f',.L i' h' g',.L l' k' j'] 198) λp' a'=>
  aU a' (AA B 3)=some (.L I G D)/\
  aT Tryz.prog (Builtin.append_ #[196,196] 196 #[.L I G D,.L (Sa p' 0) 1 1]) a' λw' r'=>
  ∃(o':ct)(n' m':Nat),w'=.L o' n' m'/\
  aJ r' (AA B 3) (.L o' n' m') λq'=>Φ q') E:=by
 have zg:=L.fr.1;have A':=L.rd.len;have hp:=L.rd.pos;have z':=L.le;have ll:u.length<=2000000:=by
  have h1:=ia S;have h2:=L.room;have h3:=L.tr.len;omega
 refine⟨_,_,_,au L.di,?_⟩;rw[bJ (n:=deep+1) ag ag];rw[show deep+1=7 - (n:Int) by omega];refine IH g next left _ E (u4.fresh L.fr (λy e=>ag)) L.rd (λw t x u' t' z tx H7 m=> ?_) (λw e z m=>kE w e z (L.fr.trans m bX (λ_ _=> .inl)));obtain⟨rx,lx,_,_⟩:=FY n _ _ _ _ _ L.rd.pos z;have z7:=m.1;have J:=m.get L.di ag;refine⟨_,_,_,_,_,_,_,_,rfl,au J,aa.box λb3 h8 y' s' F=>⟨au (F.get J id),?_⟩⟩;have z8:=F.1;have o8:=(L.own.frame m (λy i e=>bW (L.ge y i))).frame F bX;have q7: ∀y,aP q y->y<g.size:=λy i=>L.own.dI i
 refine dR tI uI o8 (ds:=iP x) (.inr ⟨_,rfl,aa.held s'⟩) rfl (oX x) ag ag λQ M h9 o9 _ o O=>⟨_,_,_,rfl,?_⟩
 have z9:=o.1;have s: ∀y,aP q y->j.size<=y:=L.ge;have b9:=o.get (F.get J id) (λi=>bW (s _ i));refine bk b9 (by show 3<4;omega) λX d1 d2 d3=> ?_
 have v:Fr (λy=>y=B) h9 X:=Fr.of_eq d2 (λc hc=>d3 c hc);have c': ∀y,aP Q y->j.size<=y:=λy i=>by
  rcases O y i with A|A
  .exact s y A
  .omega
 have ef:u.flatMap iP++iP x=(u++ [x]).flatMap iP:=by rw[cS];simp
 have H9:=(H7.on F).frame o (λi=>bW (s _ i)) (λy i e k=>iJ (s _ k) ((d' y i e).1));refine hk X u' t' t (u++ [x]) Q M z ⟨?_,?_,c',?_,?_,ag,H9.frame v ag (λy i e he=>(d' y i e).2 he),?_⟩ lx
 .rw[aB];exact d1
 .rw[aB,<-ef];exact o9.frame v (λy i e=>bW (c' y i))
 .have t1:=((L.tr.lt.frame m (λy i e=>ag)).frame F bX).frame o (λy i k=>i.1.2 k);have T:=tx.lt.mono (D':=λy=>g.size<=y/\y<w.size) (λ_=>id);have T:=(T.on F).mono (D':=λy=>g.size<=y/\y<w.size) (λ_=>id);have T:=gP.frame o (λy i k=>bW (q7 y k)) T;have m1:=dB.mono (D':=λy=>j.size<=y/\¬aP Q y) (λy i=>⟨i.1.1,λk=>by
   rcases O y k with A|A
   .exact i.1.2 A
   .have:=i.2;omega⟩) t1
  have m2:=gP.mono (D':=λy=>j.size<=y/\¬aP Q y) (λy i=>⟨ag,λk=>by
   rcases O y k with A|A
   .have:=q7 y A;omega
   .omega⟩) T
  exact dB.frame v (λy i e=>ag) (m1.snoc m2)
 .rw[iS];have:=L.room;simp only[dJ];omega
 .have a1:=(L.fr.trans m (S'':=λy=>y=r\/y=B) bX (λ_ _=> .inl)).on F;have a2:=a1.trans o (S'':=λy=>y=r\/y=B) bX (λx hx i=>bW (s x i));exact a2.trans v bX (λ_ _=> .inr)
theorem QB{s m n : Nat}{o : Bool}{deep : Int}(IH : ID V a r p c b s)(j' : Fr No a h)(hr : a.size ≤ r)(F : wE h r p c b pos left)(hd : deep = 6 - (s : Int))(o' : s ≤ 6)(hn : n < 18446744073709551616)(k1 : ∀ H (T : List Tr) (x : CV) (next j : Nat), om b (hO V b s) pos left n o = .ok (T, next, j) → gP H (λy => h.size ≤ y) (.mk 4 0 [] T) x → wE H r p c b next j → Fr (λy => y = r) h H → R x.agg H)(kE : ∀ H e, om b (hO V b s) pos left n o = .error e → Fr (λy => y = r) h H → E (QA e) H): iO Tryz.prog 192 #[.pointer (some ⟨r, 0, none⟩), .agg #[.int .i64 (m : Int), .int .u64 (n : Int), .bool o], .int .i64 deep] h R E := by
  refine wZ.walk (bD.box λI' h1 eb hb f1 => aa.box λZ h2 J' e' P => aa.new λB A K' f' J => ⟨_, cB ((P.tt J).get hb id) rfl, ?_⟩)
  have zr := aA F.di
  have zb := aA hb
  have Q' := aA e'
  have G' := aA f'
  have z0 := j'.1
  have z1 := f1.1
  have z2 := P.1
  have z4 := J.1
  have O := f1.tt (P.tt J)
  have G := F.on O
  have a' := (P.tt J).get hb id
  have m' := J.get e' id
  have M' := F.len
  have P' := F.pos
  have y' : ∀ y, aP p y → b ≠ [] → y < A.size ∧ y ≠ B := λy z e => by
    have := jh F.row (by cases b' : b with | nil => exact absurd b' e | cons => simp [bc]) z
    omega
  have i' : ∀ g e, om b (hO V b s) pos left n o = .error e → Fr (λy => y = r ∨ y = B) A g → E (QA e) g := λg e D fg => kE g e D ((Fr.no O fg).mono (λx D q => by omega))
  have d' : ∀ g next j T v q w, Sx A g r B p c b pos next j T v q w → om b (hO V b s) pos left n o = .ok (T, next, j) →
      aa.LD g ⟨B, 0, none⟩ λt0 t1 B' A' z' E' D' C' => aa.ST g ⟨Z, 0, none⟩ t0 t1 B' A' z' E' D' C' λM => aa.LD M ⟨Z, 0, none⟩ λr0 r1 u' t' s' x' w' v' => R (.agg #[.int .i64 r0, .int .u64 r1, .slice u' t' s', .slice x' w' v']) M := by
    intro g next j T v q w L D
    refine aa.ld L.di (aa.set (L.fr.get m' (by omega)) λM d1 d2 d3 => aa.ld d1 ?_)
    have S : Fr (λy => y = Z) g M := Fr.of_eq d2 (λc hc => d3 c hc)
    have o7 := L.own.frame S (λy z e => by have := L.ge y z; omega)
    have t7 := dB.frame S (λy z e => by omega) L.tr
    refine k1 M T ⟨4, 0, ⟨none, 0, []⟩, q, v.length, w⟩ next j D ?_ (L.rd.frame S (by omega) (λy z e he => by
      have := jh F.row (by cases b' : b with | nil => exact absurd b' e | cons => simp [bc]) z; omega)) ?_
    · unfold gP
      exact ⟨⟨rfl, rfl, rfl, ⟨Row.nil, λe => absurd rfl e, Nat.le_refl _⟩⟩, v, ⟨rfl, o7.iz, λ_ y z => by have := L.ge y z; omega, o7.le⟩, dB.mono (λy z => by omega) t7⟩
    · exact ((Fr.no O L.fr).trans S (S'' := λy => y = r) (λx D e => by omega) (λx D e => by omega))
  have L0 : Sx A A r B p c b pos pos left [] [] none 0 := ⟨f', .nil rfl rfl rfl rfl, (λy ⟨H', e, _⟩ => by cases e), by unfold dB; trivial, by simp [dJ], Nat.le_refl _, G, Fr.refl _ _⟩
  have step := fun {g next j T v q w} {Φ : ai → Prop} (L : Sx A g r B p c b pos next j T v q w) hk (hE : ∀ e, hO V b s next j = .error e → om b (hO V b s) pos left n o = .error e) => Of (V := V) (Φ := Φ) (E := E) (deep := deep) IH (j'.tt O) hr (by omega) G' (by omega) (by omega) hd o' y' L hk (λg e D fg => i' g e (hE e D) fg)
  cases o with
  | true =>
    rw [if_pos rfl]
    refine ⟨λg => ∃ k next j T v q w, (b.length + 1 ≤ k + next ∧ x8 b (hO V b s) k next j T = om b (hO V b s) pos left n true) ∧ Sx A g r B p c b pos next j T v q w, λg => b.length + 1 - vJ g r, ⟨_, _, _, _, _, _, _, ⟨by omega, rfl⟩, L0⟩, ?_⟩
    rintro g ⟨k, next, j, T, v, q, w, ⟨L', u⟩, L⟩
    have O' := L.rd.pos
    obtain ⟨k, rfl⟩ : ∃ k', k = k' + 1 := ⟨k - 1, by omega⟩
    refine Kh L.rd (λh6 he h' H6 Q => ⟨_, rfl, ?_⟩) (λhe => ⟨_, rfl, ?_⟩)
    all_goals unfold x8 at u; simp only [he, if_true, Bool.false_eq_true, if_false] at u
    · rw [if_neg (by decide)]
      have t6 := dB.frame Q (λy z e => by omega) L.tr
      refine d' h6 (next + 1) j T v q w ⟨Q.get L.di (by omega), L.own.frame Q (λy z e => by have := L.ge y z; omega), L.ge, t6, by have := L.room; have := L.le; omega, by have := L.le; omega, H6, L.fr.trans Q (λ_ _ => id) (λ_ _ => .inl)⟩ u.symm
    · rw [if_pos (by decide)]
      refine step L (λg' r' p' t F' q' l' U I h' => ⟨rfl, ⟨k, _, _, _, _, _, _, ⟨by omega, by rw [U] at u; exact u⟩, I⟩, ?_⟩) (λe U => by rw [← u, U])
      show b.length + 1 - vJ g' r < b.length + 1 - vJ g r
      rw [I.rd.vJ, L.rd.vJ]
      have := I.rd.pos
      omega
  | false =>
    rw [if_neg (by decide)]
    refine ⟨_, cB a' rfl, _, _, _, cB G.di rfl, _, cB G.di rfl, ?_⟩
    rw [bJ (n := ((b.length : Nat) : Int) - (pos : Int)) (by omega) (by omega), wrap_u64 (by omega) (by omega)]
    refine iq (λX => ?_) (λX => i' A 8 (by have := of_decide_eq_false X; unfold om; dsimp only; rw [if_neg (by omega)]) (Fr.refl _ _))
    have X : pos + n ≤ b.length := by have := of_decide_eq_true X; omega
    refine ⟨rfl, cB G.di rfl, cB G.di rfl, cB a' rfl, _, cB a' rfl, ?_⟩
    have e0 : om b (hO V b s) pos left n false = vz (hO V b s) n pos left [] := by unfold om; dsimp only; rw [if_pos (by omega)]
    refine ⟨λt g => ∃ i next j T v q w, t = ((i : Nat) : Int) ∧ i ≤ n ∧ vz (hO V b s) (n - i) next j T = om b (hO V b s) pos left n false ∧ Sx A g r B p c b pos next j T v q w, λt _ => n - t.toNat, ⟨0, _, _, _, _, _, _, rfl, Nat.zero_le _, e0.symm, L0⟩, ?_⟩
    rintro _ g ⟨i, next, j, T, v, q, w, rfl, U, u, L⟩
    by_cases n' : i < n
    · rw [if_pos (decide_eq_true (by omega))]
      rw [show n - i = (n - (i + 1)) + 1 by omega] at u
      unfold vz at u
      refine step L (λg' r' p' t F' q' l' c' I h' => ⟨rfl, ?_, ?_⟩) (λe c' => by rw [← u, c'])
      · rw [wrap_u64 (n := (i : Int) + 1) (by omega) (by omega)]
        exact ⟨i + 1, _, _, _, _, _, _, by omega, by omega, by rw [c'] at u; exact u, I⟩
      · rw [wrap_u64 (n := (i : Int) + 1) (by omega) (by omega)]
        show n - Int.toNat ((i : Int) + 1) < n - Int.toNat (i : Int)
        omega
    · rw [if_neg (λe => n' (by have := of_decide_eq_true e; omega))]
      rw [show n - i = 0 by omega] at u
      exact d' g next j T v q w L u.symm
theorem Og(U:kr V a)(hr:a.size<=r): ∀L,L<=6->ID V a r p c b L:=by
 intro L;induction L with
 |zero=>
  intro _ h pos left R E i' v k1 s;refine oW.walk (aa.box λD h1 eb hb F=>Au (v.on F) (λG m h' next q' o J n=>⟨_,_,_,rfl,bD.new λb1 k l' j A=>aG.of λb' hJ=> ?_⟩) (λG e o n=>s G e (by unfold hO;rw[o]) ((F.tt n).mono λ_ _=>False.elim)));have z1:=F.1;have zr:=aA v.di;have u:Fr (λy=>y=r) h k:=(Fr.no F n).on A;have done:(m=0\/m=2\/m=3\/m=4)->b' k:=by
   intro hm;subst hJ;exact iq (λf'=>absurd f' dS) (λ_=>s k 9 (by unfold hO;rw[o];dsimp only;rw[af hm]) u)
  refine⟨_,au j,?_⟩;split
  .rename_i q;exact iq (λ_=>⟨rfl,rfl,done (.inl (bW (eq_of_beq q)))⟩) (λe=>absurd e dS)
  rename_i Q;refine⟨_,au j,?_⟩;split
  .rename_i q;exact iq (λ_=>⟨rfl,rfl,done (.inr (.inl (bW (eq_of_beq q))))⟩) (λe=>absurd e dS)
  rename_i q2;refine⟨_,au j,?_⟩;split
  .rename_i q;exact iq (λ_=>⟨rfl,rfl,done (.inr (.inr (.inl (bW (eq_of_beq q)))))⟩) (λe=>absurd e dS)
  rename_i q3;refine⟨_,au j,?_⟩;refine iq (λq=>⟨rfl,rfl,done (.inr (.inr (.inr (bW (eq_of_beq q)))))⟩) (λq=>s k 3 (by unfold hO;rw[o];dsimp only;rw[ae];rintro(rfl|rfl|rfl|rfl)<;>first|exact Q rfl|exact q2 rfl|exact q3 rfl|exact absurd q dS) u)
 |succ L IH=>
  intro z' h pos left R E i' v k1 s;have IH:=IH ag;have zr:=aA v.di;refine oW.walk (aa.box λD h1 eb hb F=>Au (v.on F) (λG m h' next q' o J n=>⟨_,_,_,rfl,bD.new λb1 k l' j A=>aG.of λb' hJ=> ?_⟩) (λG e o n=>s G e (by unfold hO;rw[o]) ((F.tt n).mono λ_ _=>False.elim)));obtain⟨y',_,hn,_⟩:=wU o;have i:hO V b (L+1) pos left=hO V b (L+1) pos left:=rfl;conv at i=>rhs;unfold hO;rw[o]
  dsimp only at i;have zb:=aA hb;have A':=aA j;have z1:=F.1;have z2:=n.1;have z4:=A.1;have hp:=v.pos;have o':=J.pos;have x':=J.left;have u:Fr (λy=>y=r) h k:=(Fr.no F n).on A;have U4:Fr No a k:=i'.fresh u (λy e=>ag);have M:=J.on A;have m':=A.get (n.get hb ag) id;have p': ∀y,aP p y->b≠ []->y<h.size:=λy w e=>jh v.row (by cases n':b with|nil=>exact absurd n' e|cons=>simp[bc]) w
  have g': ∀g (a':Tr) (x:CV) t B,aa.at g D 0 0 none 0 0 none 0 0->gP g (λy=>h1.size<=y) a' x->hO V b (L+1) pos left=.ok (a',t,B)->wE g r p c b t B->Fr (λy=>y=r) h g->
    aa.ST g (AA D 0) x.k (x.n:Int) x.v.p x.v.b.length x.v.c x.q x.ll x.cl λI=>aa.LD I (AA D 0) λr0 r1 t' s' r' w' v' u'=>R (.agg #[.I r0,.U r1,.L t' s' r',.L w' v' u']) I:=by
   intro g a' x t B gb T rx Hg fg;refine aa.set gb λI O d2 d3=>aa.ld O ?_
   have f9:Fr (λy=>y=D) g I:=Fr.of_eq d2 (λc hc=>d3 c hc);exact k1 I a' x t B rx (gP.mono (λy w=>ag) (gP.frame f9 (λy w e=>ag) T)) (Hg.frame f9 ag (λy w e he=>bW (p' y w e))) (fg.trans f9 bX (λx hx e=>ag))
  have done:(m=0\/m=2\/m=3\/m=4)->b' k:=by
   intro hm;rw[af hm]at i;subst hJ;refine iq (λ_=>⟨rfl,_,au M.di,iq (λhl=>⟨rfl,_,au M.di,bk M.di (by show 2<3;omega) λh8 O d2 d3=> ?_⟩) (λhl=>s k 2 (by rw[i,af (bW (gh hl))]) u)⟩) (λf'=>absurd (gh f') ag);have hl:=aV hl;rw[dy]at i;rw[bJ (n:=(left:Int) - 1) ag ag,show(left:Int) - 1=((left - 1:Nat):Int) by omega]at O;obtain⟨H8,X⟩:=M.set (pos':=next) (left':=left - 1) o' ag O d2 d3;have Z:=X.get j ag;have e':=X.get m' ag;have z:Fr (λy=>y=r) h h8:=u.tt X;have U8:Fr No a h8:=i'.fresh z (λy e=>ag);have z8:=X.1;refine⟨_,au Z,?_⟩;split
   .rename_i q;rw[af (bW (eq_of_beq q))]at i;refine⟨_,au Z,?_⟩;refine g' h8 (.mk 0 h' [] []) ⟨0,h',⟨none,0, []⟩,none,0,0⟩ next (left - 1) e' ?_ i H8 z;unfold gP;exact⟨⟨rfl,rfl,rfl,⟨Row.nil,λe=>absurd rfl e,bp _⟩⟩, [],⟨rfl,Row.nil,λe=>absurd rfl e,bp _⟩,by unfold dB;trivial⟩
   .rename_i Q;rw[ae (λe=>Q (by rw[e];rfl))]at i;split
    .rename_i q;have m4:m=4:=by have:=eq_of_beq q;omega
     rw[af m4]at i;refine bD.ld Z (QB IH U8 hr H8 ag ag hn (λc' ts x t B hL T j' P=>⟨_,_,_,_,_,_,_,_,rfl,?_⟩) (λc' e hL P=>s c' e (by rw[i,hL]) (z.tt P)));exact g' c' (.mk 4 0 [] ts) x t B (P.get e' ag) (gP.mono (λy w=>ag) T) (by rw[i,hL]) j' (z.tt P)
    .rename_i q;rw[ae (λe=>q (by rw[e];rfl))]at i;refine bD.ld Z (LA U U8 hr H8 hn (λd' x sb t hS T k' S=>⟨_,_,_,_,_,_,_,_,rfl,?_⟩) (λd' e hS S=>s d' e (by rw[i,hS]) (z.tt S)));exact g' d' (.mk m 0 sb []) x t (left - 1) (S.get e' ag) (gP.mono (λy w=>ag) T) (by rw[i,hS]) k' (z.tt S)
  refine⟨_,au j,?_⟩;split
  .rename_i q;exact iq (λ_=>⟨rfl,rfl,done (.inl (bW (eq_of_beq q)))⟩) (λe=>absurd e dS)
  rename_i Q;refine⟨_,au j,?_⟩;split
  .rename_i q;exact iq (λ_=>⟨rfl,rfl,done (.inr (.inl (bW (eq_of_beq q))))⟩) (λe=>absurd e dS)
  rename_i q2;refine⟨_,au j,?_⟩;split
  .rename_i q;exact iq (λ_=>⟨rfl,rfl,done (.inr (.inr (.inl (bW (eq_of_beq q)))))⟩) (λe=>absurd e dS)
  rename_i q3;refine⟨_,au j,?_⟩;refine iq (λq=>⟨rfl,rfl,done (.inr (.inr (.inr (bW (eq_of_beq q)))))⟩) (λq=>s k 3 (by rw[i,ae];rintro(rfl|rfl|rfl|rfl)<;>first|exact Q rfl|exact q2 rfl|exact q3 rfl|exact absurd q dS) u)
theorem LB(e: ∀H,Fr No h H->K none H):qX Tryz.prog 157 #[.P f 0,.P C 0,.P d 0] none h K:=by
 refine rP.ret.walk (cT (x4 dS (e _ (Fr.push _ _))))
theorem LC{e M G:Int}{Q U:ct}{P O T S:Nat}{Z L:Int}(a:aa.at h f M G Q P O U T S)(t:h[C]? =some (.C #[.I Z] 3 (0,0)))(u:h[d]? =some (.C #[.I L] 24 (0,0)))(a':f≠C)(b':f≠d)(c':C≠d)(X: ∀H,aa.at H f 0 0 none 0 0 none 0 0->H[C]? =some (.C #[.I 0] 3 (0,0))->H[d]? =some (.C #[.I e] 24 (0,0))->Fr (λy=>y=f\/y=C\/y=d) h H->K none H):
  qX Tryz.prog 157 #[.P f 0,.P C 0,.P d 0] (some (QA e)) h K:=by
 refine rP.Wy.walk (cT (x4 dS ?_));have i:Fr No h (h.push (.C (#[Value.I 0].setIfInBounds 0 (.I e)) 258 (0,0))):=Fr.push _ _;have m:(h.push (.C (#[Value.I 0].setIfInBounds 0 (.I e)) 258 (0,0)))[h.size]? =some (.C #[.I e] 258 (0,0)):=bZ;have z0:=aA a;have z1:=aA t;have z2:=aA u;generalize h.push (.C (#[Value.I 0].setIfInBounds 0 (.I e)) 258 (0,0))=g at i m⊢;refine⟨_,au m,aa.set (i.get a id) λG D I J=> ?_⟩;have F:Fr (λy=>y=f) g G:=Fr.of_eq I (λc j=>J c j);refine⟨au (F.get m ag),bk (F.get (i.get t id) ag) (by show 0<1;omega) λo A v w=> ?_⟩;have k:Fr (λy=>y=C) G o:=Fr.of_eq v (λc j=>w c j);refine⟨au (k.get (F.get m ag) ag),bk (k.get (F.get (i.get u id) ag) ag) (by show 0<1;omega) λs B x z=> ?_⟩;have n:Fr (λy=>y=d) o s:=Fr.of_eq x (λc j=>z c j);exact X s (n.get (k.get D ag) ag) (n.get A ag) B (((Fr.no i F).trans k (S'':=λy=>y=f\/y=C) (λ_ _=> .inl) (λ_ _=> .inr)).trans n (λd' _ q=>q.imp id .inl) (λ_ _ q=> .inr (.inr q)))
theorem vK(U:kr V h)(h':Row h p (bc b))(hl:l=b.length)(cap:b.length<=c)(l':b.length<=1000000)(k1: ∀H (t:Tr) (x:CV) (next:Nat),mJ V b=.ok (t,next)->gP H (λy=>h.size<=y) t x->Fr No h H->R (.T #[x.agg,.I (next:Int),.I 0]) H)(k2: ∀H e,mJ V b=.error e->Fr No h H->R (.T #[CV.agg ⟨0,0,⟨none,0, []⟩,none,0,0⟩,.I 0,.I e]) H):
  Cl 114 #[.L p l c,.I 0] h R:=by
 subst hl;refine iO.Wv (Lw.walk (aa.box λX j eb hb f1=>cT (cT ?_)));have zb:=aA hb;have z1:=f1.1;have M:Fr No j (j.push (.C #[.I 0] 3)):=Fr.push _ _;have A:(j.push (.C #[.I 0] 3))[j.size]? =some (.C #[.I 0] 3 (0,0)):=bZ;generalize j.push (.C #[.I 0] 3)=k at M A⊢;have v:Fr No k (k.push (.C #[.I 0] 24)):=Fr.push _ _;have u:(k.push (.C #[.I 0] 24))[k.size]? =some (.C #[.I 0] 24 (0,0)):=bZ;have z2:=aA A;generalize k.push (.C #[.I 0] 24)=m at v u⊢;have z3:=aA u;obtain⟨I,a'⟩: ∃I,I=j.size:=⟨_,rfl⟩;obtain⟨J,b'⟩: ∃J,J=k.size:=⟨_,rfl⟩;rw[<-a']at A;rw[<-b']at u;rw[<-a',<-b'];refine aG.of λn' hJ=> ?_
 rw[dy,aC ag];refine⟨rfl,?_⟩;subst hJ;dsimp only;rw[dy];refine cT ?_;have o:Fr No m (m.push (.C #[.L p b.length c,.I 0,.I 256] 262)):=Fr.push _ _;have D:(m.push (.C #[.L p b.length c,.I 0,.I 256] 262))[m.size]? =some (.C #[.L p b.length c,.I 0,.I 256] 262 (0,0)):=bZ;generalize m.push (.C #[.L p b.length c,.I 0,.I 256] 262)=h4 at o D⊢;obtain⟨L,c'⟩: ∃L,L=m.size:=⟨_,rfl⟩;rw[<-c']at D;rw[<-c'];have F3:=M.tt v;have P:=F3.tt o;have s:=f1.tt P;have p':=M.1;have q':=v.1;have g': ∀y,aP p y->b≠ []->y<h.size:=λy g e=>jh h' (by cases k':b with|nil=>exact absurd k' e|cons=>simp[bc]) g
 have H4:wE h4 L p c b 0 256:=⟨D,h'.frame s bX,cap,bQ _,λe g=>bW (g' _ g e),l',ag⟩;have f':=P.get hb id;have S:=(v.tt o).get A id;have T:=o.get u id;refine Og U ag 6 (bp _) h4 0 256 _ _ s H4 (λh9 t x next o' O tx H9 F=> ?_) (λh9 e O F=> ?_)
 .refine⟨_,_,_,_,_,_,_,_,rfl,aa.set (F.get f' ag) λB Z d2 d3=>aa.ld Z ?_⟩;have G:Fr (λy=>y=X) h9 B:=Fr.of_eq d2 (λc i=>d3 c i);have Q:=H9.frame G ag (λy g e he=>bW (g' y g e));refine⟨_,au Q.di,aa.set Z λd' e1 e2 e3=> ?_⟩;have q:Fr (λy=>y=X) B d':=Fr.of_eq e2 (λc i=>e3 c i);refine⟨au (q.get Q.di ag),bk (q.get (G.get (F.get S ag) ag) ag) (by show 0<1;omega) λe' C d c3=> ?_⟩;have w:Fr (λy=>y=I) d' e':=Fr.of_eq d (λc i=>c3 c i);refine bk (w.get (q.get (G.get (F.get T ag) ag) ag) ag) (by show 0<1;omega) λi' m1 m2 m3=> ?_
  have z:Fr (λy=>y=J) e' i':=Fr.of_eq m2 (λc i=>m3 c i);refine LB λj' n=>aa.ld (n.get (z.get (w.get e1 ag) ag) id) ⟨_,au (n.get (z.get C ag) id),_,au (n.get m1 id),?_⟩
  have z4:=o.1;have m':=gP.frame n bX (gP.frame z (λy g e=>ag) (gP.frame w (λy g e=>ag) (gP.frame q (λy g e=>ag) (gP.frame G (λy g e=>ag) tx))));refine k1 j' t x next (by unfold mJ;rw[O]) (gP.mono (λy g=>ag) m') ?_;exact((((((s.fresh F (λy e=>ag)).fresh G (λy e=>ag)).fresh q (λy e=>ag)).fresh w (λy e=>ag)).fresh z (λy e=>ag)).tt n)
 .refine LC (F.get f' ag) (F.get S ag) (F.get T ag) ag ag ag λB q1 q2 q3 G=>aa.ld q1 ⟨_,au q2,_,au q3,?_⟩
  exact k2 B e (by unfold mJ;rw[O]) ((s.fresh F (λy e=>ag)).fresh G (λy e=>ag))

end Cb
end
section
variable {h:ai} {R:fO}
variable {i c f:ct} {g B b a e d:Nat} {x X:Int}
theorem Oh.walk{n:Int}(l:bf h (.C #[.I 0,.U 0,.Z,.Z] 198) λj k=>aa.ST k (AA j 0) 0 n none 0 0 none 0 0 λH=>aa.LD H (AA j 0) λr m q p o u t s=>R (.agg #[.I r,.U m,.L q p o,.L u t s]) H):Cl 199 #[.U n] h R:=aS [] Tryz.func199 l
theorem IE.walk(m:bf h (.C #[.I 0,.U 0,.Z,.Z] 198) λj k=>Cl 54 #[.L i g B] k λv l=>Vl v λy w T=>aa.ST l (AA j 0) 2 0 y w T none 0 0 λH=>aa.LD H (AA j 0) λr n q p o u t s=>R (.agg #[.I r,.U n,.L q p o,.L u t s]) H):Cl 196 #[.L i g B] h R:=aS [] Tryz.func196 m
theorem LF.walk{s:ByteArray}(m:bf h (.C #[.I 0,.U 0,.Z,.Z] 198) λj k=>aT Tryz.prog (convert 9 33 (.S s)) k λv l=>Vl v λz y T=>aa.ST l (AA j 0) 3 0 z y T none 0 0 λH=>aa.LD H (AA j 0) λr n q p o w u t=>R (.agg #[.I r,.U n,.L q p o,.L w u t]) H):Cl 232 #[.S s] h R:=aS [] Tryz.func232 m
theorem Gt.walk(hv:bf h (.C #[.I x,.U X,.L c b a,.L f e d] 198) λj Z=>bf Z (.C #[.I 0,.U 0,.Z,.Z] 198) λo u=>Hl u j 2 λO' M' L'=>Cl 54 #[.L O' M' L'] u λP' b'=> ∃S Q P,P'=.L S Q P/\aJ b' (AA j 2) (.L S Q P) λv=> ∃y T m',Cc v j 3 (.L y T m')/\aJ v (AA j 3) (.Z) λc'=> ∃(I:Int->ai->Prop)(M:Int->ai->Nat),I 0 c'/\∀(t:Int)(H:ai),I t H->if(decide (t<((T:Nat):Int)))then Bd t T/\aN y λU=>aa.LD H (U.add (toNat t*4)) λn' o' r' q' p' u' t' s'=>bf H (.C #[.I 0,.U 0,.Z,.Z] 198) λp d'=>aa.ST d' (AA p 0) n' o' r' q' p' u' t' s' λk=>Hl k j 3 λn m l=>aa.LD k (AA p 0) λv' w' z' y' x' C' B' A'=>Cl 203 #[.agg #[.I v',.U w',.L z' y' x',.L C' B' A']] k λQ' w=> ∃z A E D C J G F,Q'=.agg #[.I z,.U A,.L E D C,.L J G F]/\Cc w j 3 (.L n m l)/\bf w (.C #[.I z,.U A,.L E D C,.L J G F] 198) λV q=>Cc q j 3 (.L n m l)/\aT Tryz.prog (Builtin.append_ #[196,196] 196 #[.L n m l,.L (Sa V 0) 1 1]) q λR' a'=> ∃O L K,R'=.L O L K/\aJ a' (AA j 3) (.L O L K) λr=>(I (wrap .i64 (t+1)) r/\M (wrap .i64 (t+1)) r<M t H)else aa.LD H (AA j 0) λD' E' H' G' F' K' J' I'=>aa.ST H (AA o 0) D' E' H' G' F' K' J' I' λs=>aa.LD s (AA o 0) λe' f' i' h' g' l' k' j'=>R (.agg #[.I e',.U f',.L i' h' g',.L l' k' j']) s):Cl 203 #[.agg #[.I x,.U X,.L c b a,.L f e d]] h R:=aS [(12,.loop [(15,.one (.int .i64))]),(23,λ_=>pN 8)] Tryz.func203 hv
theorem LG.walk{L:ct}{l a':Nat}(Z:bf h (.C #[.I 0,.U 0,.Z,.Z] 198) λo P=>bf P (.C #[.I 0,.U 0,.Z,.Z] 198) λj Q=>aa.ST Q (AA j 0) 4 0 none 0 0 none 0 0 λS=> ∃(I:Int->ai->Prop)(M:Int->ai->Nat),I 0 S/\∀(t:Int)(H:ai),I t H->if(decide (t<(l:Int)))then Bd t l/\aN L λK=>aa.LD H (K.add (toNat t*4)) λj' k' n' m' l' q' p' o'=>bf H (.C #[.I 0,.U 0,.Z,.Z] 198) λp U=>aa.ST U (AA p 0) j' k' n' m' l' q' p' o' λk=>Hl k j 3 λn m T=>aa.LD k (AA p 0) λr' s' v' u' t' y' x' w'=>Cl 203 #[.agg #[.I r',.U s',.L v' u' t',.L y' x' w']] k λH' s=> ∃v w A z y E D C,H'=.agg #[.I v,.U w,.L A z y,.L E D C]/\Cc s j 3 (.L n m T)/\bf s (.C #[.I v,.U w,.L A z y,.L E D C] 198) λO u=>Cc u j 3 (.L n m T)/\aT Tryz.prog (Builtin.append_ #[196,196] 196 #[.L n m T,.L (Sa O 0) 1 1]) u λI' V=> ∃J G F,I'=.L J G F/\aJ V (AA j 3) (.L J G F) λq=>(I (wrap .i64 (t+1)) q/\M (wrap .i64 (t+1)) q<M t H)else aa.LD H (AA j 0) λz' A' D' C' B' G' F' E'=>aa.ST H (AA o 0) z' A' D' C' B' G' F' E' λr=>aa.LD r (AA o 0) λb' c' f' e' d' i' h' g'=>R (.agg #[.I b',.U c',.L f' e' d',.L i' h' g']) r):Cl 162 #[.L L l a'] h R:=aS [(8,.loop [(9,.one (.int .i64))]),(19,λ_=>pN 8)] Tryz.func162 Z
theorem ye.walk{k:ct}{j A:Nat}(H: ∃(t:ByteArray),xR Tryz.prog 33 9 (.L k j A) h t/\∃(T:ByteArray),xR Tryz.prog 33 9 (.L i g B) h T/\R (.B (t.toList==T.toList)) h):Cl 35 #[.L k j A,.L i g B] h R:=aS [] Tryz.func35 H
theorem LH.walk{A:Int}{m:Int}{p:ct}{o n:Nat}{s:ct}{r q:Nat}{t:Int}{j:Int}{w:ct}{v u:Nat}{C:ct}{z y:Nat}(J:bf h (.C #[.I A,.U m,.L p o n,.L s r q] 198) λk G=>bf G (.C #[.I t,.U j,.L w v u,.L C z y] 198) λj H=>Hi H k 0 λt6=> ∃F,Cc H j 0 (.I F)/\if(t6==F)then Hu H k 1 λK=> ∃T,Cc H j 1 (.U T)/\if(K==T)then Hl H k 2 λO M L=>Hl H j 2 λS Q P=>Cl 35 #[.L O M L,.L S Q P] H λd' l=> ∃D,d'=.B D/\if D then Hl l k 3 λZ V U=>Hl l j 3 λc' b' a'=>Cl 207 #[.L Z V U,.L c' b' a',.func (.func 164) #[] #[]] l λe' I=> ∃E,e'=.B E/\R (.B E) I else R (.B false) l else R (.B false) H else R (.B false) H):Cl 164 #[.agg #[.I A,.U m,.L p o n,.L s r q],.agg #[.I t,.U j,.L w v u,.L C z y]] h R:=aS [] Tryz.func164 J
theorem gM.same.walk{o:ct}{s w:Nat}{p:ct}{S y:Nat}(v:if((s:Int) !=(S:Int))then R (.B false) h else∃(I:Int->ai->Prop)(M:Int->ai->Nat),I 0 h/\∀(t:Int)(H:ai),I t H->if(decide (t<(s:Int)))then Bd t s/\aN o λA=>aa.LD H (A.add (toNat t*4)) λz C F E D K J G=>bf H (.C #[.I 0,.U 0,.Z,.Z] 198) λl r=>aa.ST r (AA l 0) z C F E D K J G λn=>Bd t S/\aN p λq=>aa.LD n (q.add (toNat t*4)) λL O U Q P a' Z V=>bf n (.C #[.I 0,.U 0,.Z,.Z] 198) λm u=>aa.ST u (AA m 0) L O U Q P a' Z V λj=>aa.LD j (AA l 0) λb' c' f' e' d' i' h' g'=>aa.LD j (AA m 0) λj' k' n' m' l' q' p' o'=>Cl 164 #[.agg #[.I b',.U c',.L f' e' d',.L i' h' g'],.agg #[.I j',.U k',.L n' m' l',.L q' p' o']] j λr' k=> ∃T,r'=.B T/\if(!T)then R (.B false) k else(I (wrap .i64 (t+1)) k/\M (wrap .i64 (t+1)) k<M t H)else R (.B true) H):Cl 207 #[.L o s w,.L p S y,.func (.func 164) #[] #[]] h R:=aS [(14,.loop [(17,.one (.int .i64))])] Tryz.func207 v
theorem Oi.walk(u:bf h (.C #[.I x,.U X,.L c b a,.L f e d] 198) λj H=> ∃t,Cc H j 0 (.I t)/\if(t==0)then∃L r K,Cc H j 2 (.L L r K)/\if(((r:Nat):Int)==0)then∃y T w,Cc H j 3 (.L y T w)/\R (.B (((T:Nat):Int)==0)) H else R (.B false) H else if(t==2)then∃k,Cc H j 1 (.U k)/\if(k==0)then∃A l z,Cc H j 3 (.L A l z)/\R (.B (((l:Nat):Int)==0)) H else R (.B false) H else if(t==3)then∃m,Cc H j 1 (.U m)/\if(m==0)then∃D n C,Cc H j 3 (.L D n C)/\if(((n:Nat):Int)==0)then Hl H j 2 λG F E=>Cl 252 #[.L G F E] H λv s=> ∃o,v=.B o/\R (.B o) s else R (.B false) H else R (.B false) H else if(t==4)then∃p,Cc H j 1 (.U p)/\if(p==0)then∃J q I,Cc H j 2 (.L J q I)/\R (.B (((q:Nat):Int)==0)) H else R (.B false) H else R (.B false) H):Cl 253 #[.agg #[.I x,.U X,.L c b a,.L f e d]] h R:=aS [] Tryz.func253 u
theorem LI.walk{D:Int}{left:Int}(v:bf h (.C #[.I x,.U X,.L c b a,.L f e d] 198) λn j=>aG (λ(L:Bool) (k:ai)=>if L then R (.I (-1)) k else Hl k n 3 λO r _=> ∃(I:Int->Int->ai->Prop)(M:Int->Int->ai->Nat),I (wrap .i64 (left - 1)) 0 k/\∀(l:Int)(t:Int)(H:ai),I l t H->if(decide (t<(r:Int)))then Bd t r/\aN O λA=>aa.LD H (A.add (toNat t*4)) λP Q V U S b' a' Z=>bf H (.C #[.I 0,.U 0,.Z,.Z] 198) λo s=>aa.ST s (AA o 0) P Q V U S b' a' Z λp=>aa.LD p (AA o 0) λc' d' g' f' e' j' i' h'=>Cl 226 #[.agg #[.I c',.U d',.L g' f' e',.L j' i' h'],.I (wrap .i64 (D+1)),.I l] p λk' m=> ∃T,k'=.I T/\if(decide (T<0))then R (.I (-1)) m else(I T (wrap .i64 (t+1)) m/\M T (wrap .i64 (t+1)) m<M l t H)else R (.I l) H) (λJ=>if(decide (D>6))then J true j else if(decide (left<1))then J true j else aa.LD j (AA n 0) λw y E C z K G F=>Cl 253 #[.agg #[.I w,.U y,.L E C z,.L K G F]] j λl' u=> ∃q,l'=.B q/\J (!q) u)):Cl 226 #[.agg #[.I x,.U X,.L c b a,.L f e d],.I D,.I left] h R:=aS [(4,.join [(19,.one (.bool))]),(16,.loop [(2,.one (.int .i64)),(25,.one (.int .i64))])] Tryz.func226 v
theorem IF.walk(l:bf h (.C #[.I x,.U X,.L c b a,.L f e d] 198) λj H=>aa.LD H (AA j 0) λT m p o n s r q=>Cl 226 #[.agg #[.I T,.U m,.L p o n,.L s r q],.I 1,.I 256] H λv k=> ∃t,v=.I t/\R (.B (decide (t≥0))) k):Cl 194 #[.agg #[.I x,.U X,.L c b a,.L f e d]] h R:=aS [] Tryz.func194 l
theorem Oj.walk{F:ct}{E D:Nat} (hv:bf h (.C #[.I x,.U X,.L c b a,.L f e d] 198) λj l=>Hu l j 1 λi'=>Hi l j 0 λT=>aG (λ(f':Int) (v:ai)=>Hi v j 0 λo'=>Cl 246 #[.agg #[.I o',.U f',.B false]] v λO' w=> ∃Q P L p',O'=.T #[.L Q P L,.I p']/\Hl w j 2 λV U S=>aT Tryz.prog (Builtin.append_ #[33,33] 33 #[.L F E D,.L Q P L]) w λP' y=>Vl P' λs' r' q'=>Cc y j 2 (.L V U S)/\aT Tryz.prog (Builtin.append_ #[33,33] 33 #[.L s' r' q',.L V U S]) y λQ' z=>Vl Q' λv' u' t'=>Hl z j 3 λw' Z _=> ∃(I:ct->Nat->Nat->Int->ai->Prop)(M:ct->Nat->Nat->Int->ai->Nat),I v' u' t' 0 z/\∀(m:ct)(O o:Nat)(t:Int)(k:ai),I m O o t k->if(decide (t<(Z:Int)))then Bd t Z/\aN w' λb'=>aa.LD k (b'.add (toNat t*4)) λx' y' B' A' z' E' D' C'=>bf k (.C #[.I 0,.U 0,.Z,.Z] 198) λu e'=>aa.ST e' (AA u 0) x' y' B' A' z' E' D' C' λA=>aa.LD A (AA u 0) λF' G' J' I' H' M' L' K'=>Cl 215 #[.L m O o,.agg #[.I F',.U G',.L J' I' H',.L M' L' K']] A λR' C=> ∃q p n,R'=.L q p n/\(I q p n (wrap .i64 (t+1)) C/\M q p n (wrap .i64 (t+1)) C<M m O o t k)else R (.L m O o) k) (λa'=>aG (λ(j':Bool) (H:ai)=>aG (λ(g':Int) (c':ai)=>a' g' c') (λr=>if j' then∃l' G k',Cc H j 2 (.L l' G k')/\r (wrap .u64 ((G:Nat):Int)) H else aG (λ(h':Int) (d':ai)=>r h' d') (λs=>if(T==4)then∃n' K m',Cc H j 3 (.L n' K m')/\s (wrap .u64 ((K:Nat):Int)) H else s i' H))) (λJ=>if(T==2)then J (T==2) l else J (T==3) l))):Cl 215 #[.L F E D,.agg #[.I x,.U X,.L c b a,.L f e d]] h R:=aS [(7,.join [(5,.one (.int .u64))]),(11,.join [(14,.one (.bool))]),(14,.join [(5,.one (.int .u64))]),(18,.join [(5,.one (.int .u64))]),(24,λ_=> .qT (.op 0 (.op 1 (.op 3 (.op 4 (.op 2 (.op 5 (.op 6 .done)))))))),(29,.loop [(0,.one (.slice)),(44,.one (.int .i64))])] Tryz.func215 hv
theorem IG.walk(o:bf h (.C #[.I x,.U X,.L c b a,.L f e d] 198) λj k=>aa.LD k (AA j 0) λp q u s r z y w=>Cl 194 #[.agg #[.I p,.U q,.L u s r,.L z y w]] k λv H=> ∃t,v=.B t/\if(!t)then R (.T #[.Z,.I 3]) H else aa.LD H (AA j 0) λA C F E D J I G=>Cl 215 #[.Z,.agg #[.I A,.U C,.L F E D,.L J I G]] H λV n=> ∃m l T,V=.L m l T/\R (.T #[.L m l T,.I 0]) n):Cl 175 #[.agg #[.I x,.U X,.L c b a,.L f e d]] h R:=aS [] Tryz.func175 o

end
section
namespace Cb
variable {h H:ai} {R:fO} {p:ct} {l c:Nat} {b:cG}
variable {D:Nat->Prop} {t:Tr} {x:CV} {g0:ai} {bb C:Nat} {k n:Int} {v:BV} {ts:List Tr} {ys:List CV} {q:ct}
def tW(h:ai)(D:Nat->Prop)(t:Tr)(x:CV):Prop:=(x.k=t.k/\x.n=t.n/\x.v.b=t.b/\x.v.ok h D)/\∃ys:List CV,x.ll=ys.length/\Own h x.q ys.length x.cl 4 (ys.flatMap iP)/\(∀y,aP x.q y->D y)/\dB h (λy=>D y/\¬aP x.q y) t.l ys
theorem tW.Tv(e:tW h D t x):gP h D t x:=by
 obtain⟨f,ys,a,d,g,i⟩:=e;cases t with
 |mk k n B l=>
  unfold gP;exact⟨f,ys,⟨a,d.iz,λ_=>g,by rw[a];exact d.le⟩,dB.mono (λ_ j=>j.1) i⟩
structure RP (g0 g:ai) (bb:Nat) (k n:Int) (v:BV) (ts:List Tr) (ys:List CV) (q:ct) (C:Nat):Prop where
 di:aa.at g bb k n v.p v.b.length v.c q ys.length C
 own:Own g q ys.length C 4 (ys.flatMap iP)
 ge: ∀y,aP q y->g0.size<=y
 tr:dB g (λy=>g0.size<=y/\¬aP q y) ts ys
 fr:Fr (λy=>y=bb) g0 g
theorem Gu{g:ai}{y:CV}{Φ:ai->Prop}(L:RP g0 g bb k n v ts ys q C)(F':bb<g0.size)(ll:ys.length<=100000000)(IH: ∀(G:ai)(R:fO),Fr No g G->(∀H z,tW H (λc=>G.size<=c) t z->Fr No G H->R z.agg H)->Cl 203 #[y.agg] G R)(hk: ∀J h' Q u,RP g0 J bb k n v (ts++ [t]) h' Q u->h'.length=ys.length+1->Φ J):
  bf g (.C #[.I 0,.U 0,.Z,.Z] 198) λI o'=>
  aa.ST o' (AA I 0) y.k (y.n:Int) y.v.p y.v.b.length y.v.c y.q y.ll y.cl λB=>
  ∃(s:ct)(r T:Nat),aU B (AA bb 3)=some (.L s r T)/\
  aa.LD B (AA I 0) λt' u' x' w' v' A' z' y'=>
  Cl 203 #[.agg #[.I t',.U u',.L x' w' v',.L A' z' y']] B λB' O=>
  ∃(U V:Int)(a':ct)(Z X:Nat)(d':ct)(c' b':Nat),B'=.agg #[.I U,.U V,.L a' Z X,.L d' c' b']/\
  aU O (AA bb 3)=some (.L s r T)/\
  bf O (.C #[.I U,.U V,.L a' Z X,.L d' c' b'] 198) λj' M=>
  aU M (AA bb 3)=some (.L s r T)/\
  aT Tryz.prog (Builtin.append_ #[196,196] 196 #[.L s r T,.L (Sa j' 0) 1 1]) M λC' m'=>
  ∃(g':ct)(f' e':Nat),C'=.L g' f' e'/\
  aJ m' (AA bb 3) (.L g' f' e') λn'=>Φ n':=by
 have zg:=L.fr.1;refine aa.new λb2 h8 D' p' F=>⟨_,_,_,au (F.get L.di id),aa.ld p' (IH h8 _ F λh9 z tz o=>⟨_,_,_,_,_,_,_,_,rfl,au ((F.tt o).get L.di id),aa.box λb3 k' E' q' m=>⟨au (((F.tt o).tt m).get L.di id),?_⟩⟩)⟩
 have j:=(F.tt o).tt m;have z8:=F.1;have z9:=o.1;have G':=m.1;have r':=L.own.frame j bX;have S: ∀y,aP q y->y<g.size:=λy d=>L.own.dI d
 refine dR tI uI r' (ds:=iP z) (.inr ⟨_,rfl,aa.held q'⟩) rfl (oX z) ag ag λQ u l' s' _ i A=>⟨_,_,_,rfl,?_⟩
 have H':=i.1;have i':=i.get (j.get L.di id) (λd=>bW (L.ge _ d));refine bk i' (by show 3<4;omega) λK d1 d2 d3=> ?_
 have w:Fr (λy=>y=bb) l' K:=Fr.of_eq d2 (λc hc=>d3 c hc);have P: ∀y,aP Q y->g0.size<=y:=λy d=>by
  rcases A y d with a|a
  .exact L.ge y a
  .omega
 have ef:ys.flatMap iP++iP z=(ys++ [z]).flatMap iP:=by rw[cS];simp
 refine hk K (ys++ [z]) Q u ⟨?_,?_,P,?_,?_⟩ bU
 .rw[aB];exact d1
 .rw[aB,<-ef];exact s'.frame w (λy d e=>bW (P y d))
 .have t1:=(dB.on L.tr.lt j).frame i (λy d f=>d.1.2 f);have E:=gP.mono (D':=λy=>g.size<=y/\y<k'.size) (λy d=>ag) (tz.Tv.lt.on m);have E:=gP.frame i (λy d f=>bW (S y f)) E;have m1:=dB.mono (D':=λy=>g0.size<=y/\¬aP Q y) (λy d=>⟨d.1.1,λf=>by
   rcases A y f with a|a
   .exact d.1.2 a
   .have:=d.2;omega⟩) t1
  have m2:=gP.mono (D':=λy=>g0.size<=y/\¬aP Q y) (λy d=>⟨ag,λf=>by
   rcases A y f with a|a
   .have:=S y a;omega
   .omega⟩) E
  exact dB.frame w (λy d e=>ag) (m1.snoc m2)
 .exact((L.fr.on j).trans i (S'':=λy=>y=bb) bX (λx hx d=>bW (L.ge x d))).trans w bX bX
theorem gC{n:Nat}(e: hH h R (CV.agg ⟨0,n,⟨none,0, []⟩,none,0,0⟩)):Cl 199 #[.U (n:Int)] h R:=
 Oh.walk (aa.new λ_ a _ d f=>aa.ld d (e a f))
theorem Sy{n:Nat}:tW h D (num n) ⟨0,n,⟨none,0, []⟩,none,0,0⟩:=
 ⟨⟨rfl,rfl,rfl,⟨Row.nil,λe=>absurd rfl e,bp _⟩⟩, [],rfl,.nil rfl rfl rfl rfl,(λy ⟨a,e,_⟩=>by cases e),by show dB h _ [] [];unfold dB;trivial⟩
theorem oY(E:Row h p (bc b))(A:l=b.length)(J:b.length<=1000000)(z: ∀H (v:BV),v.b=b->v.ok H (λy=>h.size<=y)->Fr No h H->R (CV.agg ⟨2,0,v,none,0,0⟩) H):Cl 196 #[.L p l c] h R:=by
 refine IE.walk (aa.box λB I G j f=>mi.gE (E.frame f bX) A ag λP m u O F g=>⟨_,_,_,rfl,aa.set (F.get j id) λi o r s=>aa.ld o ?_⟩);have Z:=f.1;have d:Fr (λy=>y=B) u i:=Fr.of_eq r (λc w=>s c w);refine z i ⟨P,m,b⟩ rfl (BV.kT (O.frame d (λy a e=>iJ (g y a) (aA j))) (λy a=>bW (g y a))) ((f.tt F).fresh d (λy e=>ag))
theorem mY{l:List Tr}(h:t∈l):room t<=dJ l:=by
 induction l with
 |nil=>cases h
 |cons u l i=>
  simp only[dJ];rcases bg.1 h with rfl|h
  .omega
  .have:=i h;omega
theorem RP.zero(d:aa.at g0 bb k n v.p v.b.length v.c none 0 0):RP g0 g0 bb k n v [] [] none 0:=
 ⟨d,.nil rfl rfl rfl rfl,(λy ⟨a,e,_⟩=>by cases e),by unfold dB;trivial,Fr.refl _ _⟩
theorem Av: ∀(w:Nat)(t:Tr),deep t<=w->room t<=100000000->∀(h:ai)(D:Nat->Prop)(x:CV)(R:fO),gP h D t x->(∀H a',tW H (λy=>h.size<=y) t a'->Fr No h H->R a'.agg H)->Cl 203 #[x.agg] h R
 |0,.mk k n b' l,J,_,_,_,_,_,_,_=>by simp only[deep]at J;omega
 |w+1,.mk k n b' l,J,h',h,D,x,R,Z,hk=>by
  simp only[deep]at J;simp only[room]at h';unfold gP at Z;obtain⟨⟨rfl,rfl,rfl,i'⟩,ys,u,T⟩:=Z;have lt:=T.len;have l9:=ia l;have e0:=u.len;refine Gt.walk (aa.box λbb h1 m' I E=>aa.box λb1 h2 l' Q d=>⟨_,_,_,au (d.get I id),mi.gE ((i'.row.frame E bX).frame d bX) rfl ag λP A h3 o3 o G=>⟨_,_,_,rfl,bk (o.get (d.get I id) id) (by show 2<4;omega) λO B d2 d3=>⟨_,_,_,au B,bk B (by show 3<4;omega) λr e1 e2 e3=> ?_⟩⟩⟩);have p':=aA I;have o':=aA Q;have z1:=E.1;have z2:=d.1;have z3:=o.1;have f:Fr (λy=>y=bb) h3 O:=Fr.of_eq d2 (λc j=>d3 c j);have F:Fr (λy=>y=bb) O r:=Fr.of_eq e2 (λc j=>e3 c j);have F3:=E.tt (d.tt o);have F5:Fr No h r:=(F3.fresh f (λy e=>ag)).fresh F (λy e=>ag);have e':=F.get (f.get (o.get Q id) ag) ag;have o5:=(o3.frame f (λy a e=>bW (G y a))).frame F (λy a e=>bW (G y a));have C0:=RP.zero (g0:=r) (bb:=bb) (k:=x.k) (n:=(x.n:Int)) (v:=⟨P,A,x.v.b⟩) e1;refine⟨λt g=> ∃(i:Nat)(z:List CV)(q:ct)(C:Nat),t=(i:Int)/\i<=ys.length/\RP r g bb x.k (x.n:Int) ⟨P,A,x.v.b⟩ (l.take i) z q C/\z.length=i,λt _=>ys.length - t.toNat,⟨0, [],none,0,rfl,bQ _,by rw[eV];exact C0,rfl⟩,?_⟩;rintro _ g ⟨i,z,q,C,rfl,hi,L,lz⟩;have s:Fr No h g:=F5.fresh L.fr (λy e=>ag);by_cases S:i<ys.length
  .rw[gi];have a:ys[i]? =some ys[i]:=aj S;generalize ys[i]=y at a;obtain⟨t,U,ty⟩:=T.get a;have X:=aZ U;have B:=sE X;have r1:=mY X;obtain⟨k',K⟩:=u.row.some (by intro e;have:=cf List.length e;rw[eL iP 4 gU,bG]at this;omega);rw[K];have V:=u.row.frame s bX;rw[K]at V;refine⟨ag,ax.2 (aa.DZ (by rw[aH];exact V.gB gU a) (Gu (t:=t) L ag ag (λg1 R1 d' f'=>Av w t ag ag g1 D y R1 (ty.on (s.tt d')) f') λg' j' q' c' L' n'=> ?_))⟩;rw[bJ (n:=(i:Int)+1) ag ag];refine⟨⟨i+1,j',q',c',ag,ag,?_,ag⟩,by show ys.length - Int.toNat ((i:Int)+1)<ys.length - Int.toNat (i:Int);omega⟩;rw[bO,U];exact L'
  .rw[ae (λe=>S (bW (aV e)))];rw[bE (show l.length<=i by omega)]at L;refine aa.ld L.di (aa.set (L.fr.get e' ag) λM k1 k2 k3=>aa.ld k1 ?_);have m:Fr (λy=>y=b1) g M:=Fr.of_eq k2 (λc j=>k3 c j);have og:=o5.frame L.fr (λy a e=>bW (G y a));refine hk M ⟨x.k,x.n,⟨P,A,x.v.b⟩,q,z.length,C⟩ ⟨⟨rfl,rfl,rfl,BV.kT (og.frame m (λy a e=>bW (G y a))) (λy a=>bW (G y a))⟩,z,rfl,L.own.frame m (λy a e=>sQ (L.ge y a) f.1 F.1),(λy a=>sQ (L.ge y a) f.1 F.1),?_⟩ (s.fresh m (λy e=>ag));exact dB.mono (λy a=>⟨sQ a.1 f.1 F.1,a.2⟩) (dB.frame m (λy a e=>sQ a.1 f.1 F.1) L.tr)
theorem sF(T:gP h D t x)(d:room t<=100000000)(a: ∀H z,tW H (λy=>h.size<=y) t z->Fr No h H->R z.agg H):Cl 203 #[x.agg] h R:=
 Av (deep t) t (bp _) d h D x R T a
theorem km(d:mC h D q l C ys)(T:dB h D ts ys)(hr:dJ ts<=100000000)(Q: ∀H z,tW H (λy=>h.size<=y) (sS ts) z->Fr No h H->R z.agg H):Cl 162 #[.L q l C] h R:=by
 have lt:=T.len;have l9:=ia ts;have e0:=d.len;refine LG.walk (aa.box λI h1 d' s m=>aa.new λbb r e' u j=> ?_);have i':=aA u;have h':=aA s;have z1:=m.1;have z2:=j.1;have E:=m.tt j;have O:=j.get s id;have B:=RP.zero (g0:=r) (bb:=bb) (k:=4) (n:=0) (v:=⟨none,0, []⟩) u;refine⟨λt g=> ∃(i:Nat)(Z:List CV)(q:ct)(C:Nat),t=(i:Int)/\i<=ys.length/\RP r g bb 4 0 ⟨none,0, []⟩ (ts.take i) Z q C/\Z.length=i,λt _=>ys.length - t.toNat,⟨0, [],none,0,rfl,bQ _,by rw[eV];exact B,rfl⟩,?_⟩;rintro _ g ⟨i,Z,q2,K,rfl,hi,L,lz⟩;have F:Fr No h g:=E.fresh L.fr (λy e=>ag);by_cases w:i<ys.length
 .rw[gi];have a:ys[i]? =some ys[i]:=aj w;generalize ys[i]=y at a;obtain⟨t,A,ty⟩:=T.get a;have r1:=mY (aZ A);obtain⟨c',rfl⟩:=d.row.some (by intro e;have:=cf List.length e;rw[eL iP 4 gU,bG]at this;omega);have a':=d.row.frame F bX;refine⟨ag,ax.2 (aa.DZ (by rw[aH];exact a'.gB gU a) (Gu (t:=t) L ag ag (λg1 R1 M S=>sF (ty.on (F.tt M)) ag S) λg' b' q' J G f'=> ?_))⟩;rw[bJ (n:=(i:Int)+1) ag ag];refine⟨⟨i+1,b',q',J,ag,ag,?_,ag⟩,by show ys.length - Int.toNat ((i:Int)+1)<ys.length - Int.toNat (i:Int);omega⟩;rw[bO,A];exact G
 .rw[ae (λe=>w (bW (aV e)))];rw[bE (show ts.length<=i by omega)]at L;refine aa.ld L.di (aa.set (L.fr.get O ag) λo U V X=>aa.ld U ?_);have f:Fr (λy=>y=I) g o:=Fr.of_eq V (λc P=>X c P);refine Q o ⟨4,0,⟨none,0, []⟩,q2,Z.length,K⟩ ⟨⟨rfl,rfl,rfl,⟨Row.nil,λe=>absurd rfl e,bp _⟩⟩,Z,rfl,L.own.frame f (λy a e=>bW (L.ge y a)),(λy a=>bW (L.ge y a)),?_⟩ (F.fresh f (λy e=>ag));exact dB.mono (λy a=>⟨bW a.1,a.2⟩) (dB.frame f (λy a e=>bW a.1) L.tr)

end Cb
end
section
namespace Cb
variable {V:cG→Bool} {h H a:ai} {R:fO} {D:Nat→Prop}
variable {t:Tr} {x:CV}
theorem II{c:Type}(b:List c):(((b.length:Int))==0)=b.isEmpty:=by
 cases b with
 |nil=>rfl
 |cons A b=>simp only[bn,List.isEmpty_cons,dz,fj];omega
theorem IJ(U:kr V H)(u:Fr No H h)(T:gP h D t x)(w:room t<=1000000)(c: hH h R (.B (NT V t.k t.n t.b t.l))):Cl 253 #[x.agg] h R:=by
 cases t with
 |mk k n b l=>
  simp only[room]at w;unfold gP at T;obtain⟨⟨rfl,rfl,rfl,O⟩,z,L,s⟩:=T;have ll:x.ll=l.length:=by rw[L.len,s.len]
  have c: ∀a o,o=NT V x.k x.n x.v.b l->Fr No h a->R (.B o) a:=λa o e f=>by rw[e];exact c a f
  unfold NT at c;have r:((x.n:Int)==0)=decide (x.n=0):=by by_cases e:x.n=0<;>simp[e]
  refine Oi.walk (aa.box λB d y i F=>⟨_,au i,?_⟩);by_cases K:x.k=0
  .rw[af (cR K)];simp only[K,bm]at c;refine⟨_,_,_,au i,?_⟩;rw[II];by_cases e:x.v.b.isEmpty=true
   .rw[af e];refine⟨_,_,_,au i,c d _ ?_ F⟩;rw[ll,II,e];rfl
   .rw[ae e];refine c d _ ?_ F;rw[show x.v.b.isEmpty=false by cases q:x.v.b.isEmpty with|false=>rfl|true=>exact absurd q e];rfl
  rw[ae (cR K)];simp only[K,aQ]at c;by_cases j:x.k=2
  .rw[af (cR j)];simp only[j,bm]at c;refine⟨_,au i,?_⟩;rw[r];by_cases e:x.n=0
   .rw[af (av e)];refine⟨_,_,_,au i,c d _ ?_ F⟩;rw[ll,II,av e];rfl
   .rw[ae (by rw[aC e];decide)];refine c d _ ?_ F;rw[aC e];rfl
  rw[ae (cR j)];simp only[j,aQ]at c;by_cases m:x.k=3
  .rw[af (cR m)];simp only[m,bm]at c;refine⟨_,au i,?_⟩;rw[r];by_cases e:x.n=0
   .rw[af (av e)];refine⟨_,_,_,au i,?_⟩;rw[ll,II];by_cases E:l.isEmpty=true
    .rw[af E];exact⟨_,_,_,au i,U d _ _ x.v.b _ (u.tt F) (O.row.frame F bX) ag O.cap λg v=>⟨_,rfl,c g _ (by rw[av e,E];rfl) (F.tt v)⟩⟩
    .rw[ae E];refine c d _ ?_ F;rw[show l.isEmpty=false by cases q:l.isEmpty with|false=>rfl|true=>exact absurd q E,Bool.and_false];rfl
   .rw[ae (by rw[aC e];decide)];refine c d _ ?_ F;rw[aC e];rfl
  rw[ae (cR m)];simp only[m,aQ]at c;by_cases p:x.k=4
  .rw[af (cR p)];simp only[p,bm]at c;refine⟨_,au i,?_⟩;rw[r];by_cases e:x.n=0
   .rw[af (av e)];refine⟨_,_,_,au i,c d _ ?_ F⟩;rw[II,av e];rfl
   .rw[ae (by rw[aC e];decide)];refine c d _ ?_ F;rw[aC e];rfl
  rw[ae (cR p)];simp only[p,aQ]at c;exact c d _ rfl F
theorem Gv(U:kr V H): ∀(n:Nat)(t:Tr),deep t<=n->room t<=1000000->∀(h:ai)(D:Nat->Prop)(x:CV)(d left:Int)(R:fO),Fr No H h->gP h D t x->0<=d->d<=7->left<=1000->
  (hH h R (.I (oj V t d left)))->Cl 226 #[x.agg,.I d,.I left] h R
 |0,.mk k e' b l,r,_,_,_,_,_,_,_,_,_,_,_,_,_=>by simp only[deep]at r;omega
 |n+1,.mk k e' b l,r,I,h,D,x,d,left,R,u,T,d0,d7,hl,j=>by
  have h':=T;simp only[deep]at r;have c':=I;simp only[room]at I;unfold gP at T;obtain⟨⟨rfl,rfl,rfl,n'⟩,y,L,w⟩:=T;have lt:=w.len;have l9:=ia l;have e0:=L.len;refine LI.walk (aa.box λbb z l' B F=>aG.of λJ A=> ?_);have bad: ∀g,Fr No h g->oj V (.mk x.k x.n x.v.b l) d left= -1->J true g:=λg f c=>by
   subst A;dsimp only;rw[af rfl];have:=j g f;rw[c]at this;exact this
  by_cases C:d>6
  .rw[af (av C)];exact bad z F (by unfold oj;rw[af (.inl C)])
  rw[ae (λe=>C (aV e))];by_cases m:left<1
  .rw[af (av m)];exact bad z F (by unfold oj;rw[af (.inr m)])
  rw[ae (λe=>m (aV e))];have P: ¬(d>6\/left<1):=λe=>e.elim C m
  unfold oj at j bad;rw[ae P]at j bad;refine aa.ld B (IJ U (u.tt F) (h'.on F) c' λX o=>⟨_,rfl,?_⟩);simp only[Tr.k,Tr.n,Tr.b,Tr.l];generalize NT V x.k x.n x.v.b l=f' at j bad⊢;cases f' with
  |false=>exact bad X (F.tt o) (by rw[dy])
  |true=>
   rw[af rfl]at j;subst A;rw[dy];have b':=o.get B id;refine⟨_,_,_,au b',?_⟩;rw[bJ (n:=left - 1) ag ag];refine⟨λlf t g=> ∃i:Nat,t=(i:Int)/\i<=y.length/\Fr No h g/\lf<=1000/\0<=lf/\nm V (l.drop i) (d+1) lf=nm V l (d+1) (left - 1),λ_ t _=>y.length - t.toNat,⟨0,rfl,bQ _,F.tt o,ag,ag,rfl⟩,?_⟩;rintro lf _ g ⟨i,rfl,hi,f,d',m',c⟩;by_cases G:i<y.length
   .rw[gi];have s:y[i]? =some y[i]:=aj G;generalize y[i]=i' at s;obtain⟨t,K,ty⟩:=w.get s;have O:=aZ K;have dm:=sE O;have rm:=mY O;have Q:l.drop i=t::l.drop (i+1):=by
     obtain⟨q1,q2⟩:=az.1 K;rw[cP q1,q2]
    rw[Q]at c;obtain⟨j',E⟩:=L.row.some (by intro e;have:=cf List.length e;rw[eL iP 4 gU,bG]at this;omega);rw[E];have M:=L.row.frame f bX;rw[E]at M;refine⟨ag,ax.2 (aa.DZ (by rw[aH];exact M.gB gU s) (aa.new λb1 Z k' a' p=>aa.ld a' ?_))⟩;rw[bJ (n:=d+1) ag ag];refine Gv U n t ag ag Z D i' (d+1) lf _ (u.tt (f.tt p)) (ty.on (f.tt p)) ag ag d' λh6 S=>⟨_,rfl,?_⟩
    have v:=f.tt (p.tt S);have ql:=FU (V:=V) (t:=t) (d:=d+1) (left:=lf);conv at c=>lhs;unfold nm
    generalize oj V t (d+1) lf=g' at c ql⊢;by_cases q:g'<0
    .rw[af (av q)];rw[af q]at c;have:=j h6 v;rw[<-c]at this;exact this
    .rw[ae (λe=>q (aV e)),bJ (n:=(i:Int)+1) ag ag];rw[ae q]at c;exact⟨⟨i+1,ag,ag,v,ag,ag,c⟩,by show y.length - Int.toNat ((i:Int)+1)<y.length - Int.toNat (i:Int);omega⟩
   .rw[ae (λe=>G (bW (aV e)))];rw[dE (show l.length<=i by omega)]at c;have:=j g f;rw[<-c]at this;unfold nm at this;exact this
theorem fM(U:kr V H)(u:Fr No H h)(T:gP h D t x)(g:room t<=1000000)(e: hH h R (.B (im V t))):Cl 194 #[x.agg] h R:=
 IF.walk (aa.box λB b E d f=>aa.ld d (Gv U (deep t) t (bp _) g b D x 1 256 _ (u.tt f) (T.on f) dS dS dS λc F=>⟨_,rfl,e c (f.tt F)⟩))

end Cb
end
section
namespace Cb
variable {h:ai} {R:fO} {D d:Nat→Prop}
theorem kx{p q:ct}{n m c f:Nat}{a b:cG}(r:Row h p (bc a))(j:Row h q (bc b))(i:n=a.length)(g:m=b.length)(H:R (.B (decide (a=b))) h):Cl 35 #[.L p n c,.L q m f] h R:=by
 refine ye.walk ⟨_,mi.conv r i,_,mi.conv j g,?_⟩;rw[vp,vp];have:(a==b)=decide (a=b):=by by_cases e:a=b<;>simp[e]
 rw[this];exact H
theorem Gw: ∀(u:Nat)(t s:Tr),deep t<=u->room t<=100000000->∀(h:ai)(D d:Nat->Prop)(x y:CV)(R:fO),gP h D t x->gP h d s y->(hH h R (.B (oM t s)))->Cl 164 #[x.agg,y.agg] h R
 |0,.mk k j' d' l,_,v,_,_,_,_,_,_,_,_,_,_=>by simp only[deep]at v;omega
 |u+1,.mk k j' d' l,.mk k' n' b' L,v,i',h,D,d,x,y,R,tx,ty,w=>by
  simp only[deep]at v;simp only[room]at i';unfold gP at tx ty;obtain⟨⟨rfl,rfl,rfl,l'⟩,X,p,T⟩:=tx;obtain⟨⟨rfl,rfl,rfl,m'⟩,o,r,G⟩:=ty;have lx:=T.len;have ly:=G.len;have l9:=ia l;have ex:=p.len;have ey:=r.len;refine LH.walk (aa.box λb1 h1 r' f' f1=>aa.box λb2 j s' n K=> ?_);have F:=f1.tt K;have m:=K.get f' id;have B: ∀g,Fr No h g->oM (.mk x.k x.n x.v.b l) (.mk y.k y.n y.v.b L)=false->R (.B false) g:=λg f e=>by have:=w g f;rw[e]at this;exact this
  refine⟨_,au m,_,au n,?_⟩;by_cases c:x.k=y.k
  case neg=>
   rw[ae (cR c)];exact B j F (by unfold oM;rw[aC c];rfl)
  rw[af (cR c)];refine⟨_,au m,_,au n,?_⟩;by_cases C:x.n=y.n
  case neg=>
   rw[ae (λe=>C (bW (eq_of_beq e)))];exact B j F (by unfold oM;rw[aC C,Bool.and_false];rfl)
  rw[af (by rw[C];simp)];refine⟨_,_,_,au m,_,_,_,au n,kx (l'.row.frame F bX) (m'.row.frame F bX) rfl rfl ⟨_,rfl,?_⟩⟩;by_cases b:x.v.b=y.v.b
  case neg=>
   rw[ae (cR b)];exact B j F (by unfold oM;rw[aC b,Bool.and_false];rfl)
  rw[af (cR b)];have e0:oM (.mk x.k x.n x.v.b l) (.mk y.k y.n y.v.b L)=sU l L:=by unfold oM;rw[av c,av C,av b];simp
  rw[e0]at w;refine⟨_,_,_,au m,_,_,_,au n,?_⟩;rw[ex,ey];have done: ∀g,Fr No h g->∀q,q=sU l L->∃c':Bool,Value.bool q=.B c'/\R (.B c') g:=λg f q e=>⟨q,rfl,by rw[e];exact w g f⟩
  refine gM.same.walk ?_;by_cases cl:X.length=o.length
  case neg=>
   rw[af (by simp only[dw,fj];omega)];refine done j F false ?_;cases hq:sU l L with
   |false=>rfl
   |true=>exact absurd (cf List.length ((Ag l L).1 hq)) ag
  rw[ae (by simp only[dw,fj];omega)];refine⟨λt g=> ∃i:Nat,t=(i:Int)/\i<=X.length/\Fr No h g/\sU l L=sU (l.drop i) (L.drop i),λt _=>X.length - t.toNat,⟨0,rfl,bQ _,F,rfl⟩,?_⟩;rintro _ g ⟨i,rfl,hi,f,H⟩;by_cases S:i<X.length
  .rw[gi];have z:X[i]? =some X[i]:=aj S;have A:o[i]? =some (o[i]' ag):=aj _;generalize X[i]=o' at z;generalize o[i]' ag=p' at A;obtain⟨t,U,tu⟩:=T.get z;obtain⟨s,hs,tv⟩:=G.get A;have tm:=aZ U;have dm:=sE tm;have rm:=mY tm;have ed:l.drop i=t::l.drop (i+1):=by
    obtain⟨Q,E⟩:=az.1 U;rw[cP Q,E]
   have e':L.drop i=s::L.drop (i+1):=by
    obtain⟨Q,E⟩:=az.1 hs;rw[cP Q,E]
   rw[ed,e']at H;have H:sU l L=(oM t s && sU (l.drop (i+1)) (L.drop (i+1))):=by rw[H];simp only[sU]
   obtain⟨q',I⟩:=p.row.some (by intro e;have:=cf List.length e;rw[eL iP 4 gU,bG]at this;omega);obtain⟨a',J⟩:=r.row.some (by intro e;have:=cf List.length e;rw[eL iP 4 gU,bG]at this;omega);rw[I,J];have V:=p.row;have Z:=r.row;rw[I]at V;rw[J]at Z;refine⟨ag,ax.2 (aa.DZ (by rw[aH];exact(V.frame f bX).gB gU z) (aa.new λb3 h3 t' g' M=>⟨ag,ax.2 (aa.DZ (by rw[aH];exact(Z.frame (f.tt M) bX).gB gU A) (aa.new λb4 h5 u' h' O=>aa.ld (O.get g' id) (aa.ld h' ?_)))⟩))⟩;have a:=f.tt (M.tt O);refine Gw u t s ag ag h5 D d o' p' _ (tu.on a) (tv.on a) λh6 P=>⟨_,rfl,?_⟩
   cases q:oM t s with
   |false=>
    rw[gi];exact done h6 (a.tt P) false (by rw[H,q];rfl)
   |true=>
    rw[dy,bJ (n:=(i:Int)+1) ag ag];exact⟨⟨i+1,ag,ag,a.tt P,by rw[H,q];rfl⟩,by show X.length - Int.toNat ((i:Int)+1)<X.length - Int.toNat (i:Int);omega⟩
  .rw[ae (λe=>S (bW (aV e)))];rw[dE (show l.length<=i by omega),dE (show L.length<=i by omega)]at H;exact done g f true (by rw[H];simp only[sU])
theorem jw{t s:Tr}{x y:CV}(T:gP h D t x)(b:gP h d s y)(a:room t<=100000000)(H: hH h R (.B (oM t s))):Cl 164 #[x.agg,y.agg] h R:=
 Gw (deep t) t s (bp _) a h D d x y R T b H

end Cb
end
section
namespace Cb
variable {h H:ai} {R:fO}
variable {m:Int} {n:Nat}
theorem Ol(n:Nat):IntKind.wrap .u8 (n:Int)=((UInt8.ofNat n).toNat:Int):=by
 have e:IntKind.wrap .u8 (n:Int)=(n:Int)%256:=by simp[IntKind.wrap,IntKind.bits,IntKind.signed]
 rw[e,gy];omega
theorem LJ{n:Int}(a: hH h R (.B (decide (0<=m/\m<=7)))):Cl 260 #[.agg #[.I m,.U n,.B false]] h R:=by
 refine Iz.walk (bD.box λb g E d f=>⟨_,au d,?_⟩);rw[dy];have a:=a g f;refine⟨_,au d,?_⟩;by_cases c:m≥0
 .rw[af (av c)];refine⟨_,au d,?_⟩;rw[show decide (0<=m/\m<=7)=decide (m<=7) by simp[show 0<=m from c]]at a;exact a
 .rw[ae (λe=>c (aV e))];rw[aC (λe=>c e.1)]at a;exact a
theorem C1(a:R (.I (FV n:Int)) h):Cl 262 #[.U (n:Int)] h R:=by
 obtain⟨z,b⟩: ∃z:Int,z=(n:Int):=⟨_,rfl⟩;rw[<-b];refine Gp.walk ?_;unfold FV at a
 repeat' split
 all_goals simp only[aY]at*
 .rw[gi]at a;exact a
 .rw[dy,gi]at a;exact a
 .rw[dy,dy,gi]at a;exact a
 .rw[dy,dy,dy,gi]at a;exact a
 .rw[dy,dy,dy,dy]at a;exact a
theorem QC(a:R (.int .u8 (yy n:Int)) h):Cl 261 #[.U (n:Int)] h R:=by
 refine Lx.walk (C1 ⟨_,rfl,?_⟩);unfold yy at a;unfold FV;by_cases c:n<24
 .rw[af c]at a⊢;rw[dy,dy,dy,dy];rw[Ol,gy,Nat.mod_eq_of_lt ag];exact a
 rw[ae c]at a⊢;by_cases C:n<256
 .rw[af C]at a⊢;rw[gi];exact a
 rw[ae C]at a⊢;by_cases b:n<65536
 .rw[af b]at a⊢;rw[dy,gi];exact a
 rw[ae b]at a⊢;by_cases d:n<4294967296
 .rw[af d]at a⊢;rw[dy,dy,gi];exact a
 rw[ae d]at a⊢;rw[dy,dy,dy,gi];exact a
theorem QD(n:Nat):yy n<32:=by unfold yy;repeat (first|omega|split)
theorem Sz: ∀(m:Fin 8)(z:Fin 32),IntKind.wrap .u8 ((BitVec.ofInt (IntKind.bits .u8) (IntKind.wrap .u8 ((IntKind.wrap .u8 (m.val:Int))*2 ^ min (Int.toNat 5) (IntKind.bits .u8)))|||BitVec.ofInt (IntKind.bits .u8) (z.val:Int)).toNat:Int)=((32*m.val+z.val:Nat):Int):=dS
theorem Om(n k:Nat):Int.fdiv (n:Int) (2 ^ k)=((n/2 ^ k:Nat):Int):=by
 rw[Int.fdiv_eq_ediv_of_nonneg _ (by exact_mod_cast bQ (2 ^ k))]
 exact_mod_cast rfl
theorem LK(f: ∀H (p:ct) (C:Nat) (e:Int),Row H p (bc (NU m n))->(NU m n).length<=C->Fr No h H->R (.T #[.slice p (NU m n).length C,.I e]) H):Cl 246 #[.agg #[.I m,.U (n:Int),.B false]] h R:=by
 refine IA.walk (bD.box λb Z X s r=>bD.ld s (LJ λc F=>⟨_,rfl,?_⟩));by_cases l:0<=m/\m<=7
 case neg=>
  rw[aC l,gi];have E:NU m n= []:=by unfold NU;rw[ae l]
  rw[E]at f;exact f c none 0 3 Row.nil bU (r.tt F)
 rw[av l,dy];obtain⟨m,rfl⟩:=eI l.1;have d:=F.get s id;refine⟨_,au d,?_⟩;rw[dy];refine⟨_,au d,_,au d,QC ⟨_,rfl,au d,cT ?_⟩⟩;have D:=r.tt F;have I:=QD n;rw[Sz ⟨m,ag⟩ ⟨yy n,I⟩];rw[show(32*(⟨m,ag⟩:Fin 8).val+(⟨yy n,I⟩:Fin 32).val)=32*m+yy n from rfl];have L:((32*m+yy n:Nat):Int)=((UInt8.ofNat (32*m+yy n)).toNat:Int):=by rw[gy,Nat.mod_eq_of_lt ag]
 rw[L];have E:NU (m:Int) n=UInt8.ofNat (32*m+yy n)::RL (FV n) n:=by unfold NU;rw[af l,aH]
 rw[E]at f;generalize UInt8.ofNat (32*m+yy n)=w at f⊢;have o:Fr No c (c.push (.C #[.int .u8 (w.toNat:Int)] 5)):=Fr.push _ _;have B:Own (c.push (.C #[.int .u8 (w.toNat:Int)] 5)) (Sa c.size 0) 1 1 1 (bc [w]):=.row c.size 0 #[.int .u8 (w.toNat:Int)] 5 rfl bZ ag bU rfl (λj v x=>by
  cases j with
  |zero=>simpa[bc]using x
  |succ j=>simp[bc]at x)
 generalize c.push (.C #[.int .u8 (w.toNat:Int)] 5)=h5 at o B⊢;have z1:=r.1;have z2:=F.1;have zb:=aA s;refine⟨au (o.get d id),_,au (o.get d id),C1 ⟨_,rfl,?_⟩⟩;have S:=Kd n;generalize FV n=k at f S⊢;refine⟨λp T C t g=> ∃(i:Nat),t=(i:Int)/\i<=k/\T=1+i/\Own g p (1+i) C 1 (bc (w::(RL k n).take i))/\(∀y,aP p y->c.size<=y)/\Fr No c g,λ_ _ _ t _=>k - t.toNat,⟨0,rfl,bQ _,rfl,by rw[eV];exact B,(λy ⟨a,e,G⟩=>by cases e;rw[<-G];exact bp _),o⟩,?_⟩;rintro p _ C _ g ⟨i,rfl,hi,rfl,O,A,q⟩;by_cases u:i<k
 .rw[gi];refine⟨_,au (q.get d id),?_⟩;rw[bJ (n:=(k:Int) - 1) ag ag,bJ (n:=(k:Int) - 1 - (i:Int)) ag ag,bJ (n:=8*((k:Int) - 1 - (i:Int))) ag ag,dy];have J:min (Int.toNat (8*((k:Int) - 1 - (i:Int)))) (IntKind.bits .u64)=8*(k - 1 - i):=by
   rw[show IntKind.bits .u64=64 from rfl];omega
  rw[J,Om,Ol];refine jn mi.tU mi.uU O rfl (λv z=>by simp at z;rw[z];rfl) ag ag λp2 V h9 U M P=>⟨_,_,_,rfl,?_⟩
  rw[bJ (n:=(i:Int)+1) ag ag];refine⟨⟨i+1,ag,ag,ag,?_,λy Q=> ?_,q.fresh M A⟩,by show k - Int.toNat ((i:Int)+1)<k - Int.toNat (i:Int);omega⟩
  .have K:(RL k n).take (i+1)=(RL k n).take i++ [UInt8.ofNat (n/2 ^ (8*(k - 1 - i)))]:=by
    rw[bO];unfold RL;rw[aL,List.getElem?_range u];rfl
   rw[K,<-dk,kF];exact U
  .rcases P y Q with a|a
   .exact A y a
   .have:=q.1;omega
 .rw[ae (λe=>u (bW (aV e)))];obtain rfl:i=k:=ag
  rw[bE (by rw[zq];omega)]at O;have:=f g p C 0 O.iz (by rw[bn,zq,Nat.add_comm];exact O.le) (D.tt q);rw[bn,zq,Nat.add_comm]at this;exact this
theorem IK{l:List Tr}{i:Nat}{t:Tr}(a:l[i]? =some t):dJ (l.take (i+1))=dJ (l.take i)+room t:=by
 rw[bO,a,iS];show _+dJ [t]=_;simp[dJ]
theorem oG(l:List Tr)(i:Nat):dJ (l.take i)<=dJ l:=by
 conv=>rhs;rw[<-List.take_append_drop i l]
 rw[iS];omega
theorem Ki: ∀(I:Nat)(t:Tr),deep t<=I->∀(h:ai)(D:Nat->Prop)(x:CV)(p:ct)(l c:Nat)(a:cG)(R:fO),l=a.length->a.length+room t<=20000000->Own h p a.length c 1 (bc a)->gP h D t x->(∀y,aP p y->¬D y)->
  (∀H P C,Own H P (a++enc t).length C 1 (bc (a++enc t))->Fr (λy=>aP p y) h H->(∀y,aP P y->aP p y\/h.size<=y)->R (.slice P (a++enc t).length C) H)->Cl 215 #[.L p l c,x.agg] h R
 |0,.mk k n f' l,O,_,_,_,_,_,_,_,_,_,_,_,_,_,_=>by simp only[deep]at O;omega
 |I+1,.mk k n f' l,O,h,D,x,p,_,c,a,R,rfl,ha,ow,T,u,Q=>by
  simp only[deep]at O;simp only[room]at ha;unfold enc at Q;have T:=T.lt;unfold gP at T;obtain⟨⟨rfl,rfl,rfl,b'⟩,f,L,TS⟩:=T;have lt:=TS.len;have l9:=ia l;have e0:=L.len;refine Oj.walk (aa.box λbb h1 s' d f1=>⟨_,au d,_,au d,aG.of λe' hJ=> ?_⟩);have t':=aA d;have z1:=f1.1;have X: ∀y,aP p y->y<h.size:=λy b=>ow.dI b
  have done:e' (x7 x.k x.n x.v.b l:Int) h1:=by
   subst hJ;refine⟨_,au d,LK λh3 q3 c3 e3 c' g' F=>⟨_,_,_,_,rfl,_,_,_,au (F.get d id),?_⟩⟩;have n':=Ke x.k (x7 x.k x.n x.v.b l);generalize NU x.k (x7 x.k x.n x.v.b l)=B at c' g' n' Q⊢;have z3:=F.1;have G:=f1.tt F;refine dR mi.tU mi.uU (ow.frame G bX) c' (by rw[kR,cE]) (rB B) ag ag λp4 c4 h4 o4 _ o g4=>⟨_,_,_,rfl,au (o.get (F.get d id) (λb=>bW (X _ b))),?_⟩
   have z4:=o.1;have V: ∀y,aP p4 y->aP p y\/h3.size<=y:=g4;have p':Row h4 x.v.p (bc x.v.b):=by
    by_cases e:x.v.b= []
    .rw[e];exact Row.nil
    .exact((b'.row.frame G bX).frame o (λad J b=>u _ b (b'.own e _ ⟨ad,J,rfl⟩).1))
   refine dR mi.tU mi.uU o4 p' (by rw[kR,cE]) (rB x.v.b) ag ag λp5 c5 h5 Z _ K g5=> ?_
   have o': ¬aP p4 bb:=λb=>by
    rcases V _ b with q|q
    .have:=X _ q;omega
    .omega
   have j':=K.get (o.get (F.get d id) (λb=>bW (X _ b))) o';refine⟨_,_,_,rfl,_,_,_,au j',?_⟩;have z5:=K.1;rw[<-kF,<-kF,eJ]at Z;have Fp:Fr (λy=>aP p y) h h5:=(Fr.no G o).trans K bX (λy b q=>by
    rcases V y q with q|q
    .exact q
    .omega)
   have n5: ∀y,aP p5 y->aP p y\/h.size<=y:=λy b=>by
    rcases g5 y b with q|q
    .rcases V y q with q|q
     .exact .inl q
     .exact .inr ag
    .exact .inr ag
   have el:a.length+B.length+x.v.b.length=(a++(B++x.v.b)).length:=by simp only[aB];omega
   rw[el]at Z⊢;refine⟨λP l' C t g=> ∃(i:Nat)(w:cG),t=(i:Int)/\i<=f.length/\l'=(a++w).length/\Own g P (a++w).length C 1 (bc (a++w))/\w=B++x.v.b++yz (l.take i)/\Fr (λy=>aP p y) h g/\∀y,aP P y->aP p y\/h.size<=y,λ_ _ _ t _=>f.length - t.toNat,
    ⟨0,B++x.v.b,rfl,bQ _,rfl,Z,by rw[eV];simp[yz],Fp,n5⟩,?_⟩
   rintro P _ C _ g ⟨i,w,rfl,hi,rfl,og,E,r,A⟩;have rl:=oG l i;have lw:w.length<=9+x.v.b.length+dJ (l.take i):=by
    rw[E,aB,aB];have:=Ah (l.take i);omega
   by_cases v:i<f.length
   .rw[gi];have b:f[i]? =some f[i]:=aj v;generalize f[i]=y at b;obtain⟨t,S,ty⟩:=TS.get b;have tm:=aZ S;have dm:=sE tm;have rm:=mY tm;have rt:=IK S;have k':f≠ []:=by intro e;rw[e]at v;simp at v
    obtain⟨ad,J⟩:=L.row.some (by intro e;have:=cf List.length e;rw[eL iP 4 gU,bG]at this;omega);have d':=L.row.frame r (λa2 e2 m'=>u _ m' (L.own k' _ ⟨a2,e2,rfl⟩).1);rw[J]at d'⊢;refine⟨ag,ax.2 (aa.DZ (by rw[aH];exact d'.gB gU b) (aa.new λb1 h8 r' i' s=>aa.ld i' ?_))⟩;have q':gP h8 (λy=>D y/\y<h.size) t y:=(gP.frame r (λz j U=>u z U j.1) ty).on s;have zg:=r.1;have z8:=s.1;refine Ki I t ag h8 (λy=>D y/\y<h.size) y P _ C (a++w) _ rfl (by rw[aB];have:=oG l (i+1);omega) (og.frame s bX) q' (λz j U=>by
     rcases A z j with q|q
     .exact u z q U.1
     .omega) λh9 p9 c9 o9 f9 n9=>⟨_,_,_,rfl,?_⟩
    rw[bJ (n:=(i:Int)+1) ag ag];rw[eJ]at o9⊢;refine⟨⟨i+1,w++enc t,ag,ag,rfl,o9,by rw[bO,S];show _=_++yz (l.take i++ [t]);rw[Ll,E,eJ _ (yz (l.take i))],(r.on s).trans f9 bX (λz j q=> ?_),λz j=> ?_⟩,by show f.length - Int.toNat ((i:Int)+1)<f.length - Int.toNat (i:Int);omega⟩
    .rcases A z q with q|q
     .exact q
     .omega
    .rcases n9 z j with q|q
     .exact A z q
     .exact .inr ag
   .rw[ae (λe=>v (bW (aV e)))];rw[bE (show l.length<=i by omega)]at E;subst E;exact Q g P C og r A
  have ub:IntKind.wrap .u64 (x.v.b.length:Int)=(x.v.b.length:Int):=wrap_u64 ag ag;have ul:IntKind.wrap .u64 (x.ll:Int)=(l.length:Int):=by rw[e0,<-lt];exact wrap_u64 ag ag
  unfold x7 at done;refine aG.of λJ1 h'=> ?_
  have j1: ∀q,q=decide (x.k=2\/x.k=3)->J1 q h1:=by
   intro q hq;subst h';refine aG.of λJ2 M=> ?_
   split
   .rename_i q1;rw[af (aV (hq.symm.trans q1))]at done;exact⟨_,_,_,au d,by subst M;rw[ub];exact done⟩
   .rename_i q1;rw[ae (λe=>q1 (hq.trans (av e)))]at done;refine aG.of λJ3 a'=> ?_
    split
    .rename_i q2;rw[af (cR q2)]at done;exact⟨_,_,_,au d,by subst a';subst M;rw[ul];exact done⟩
    .rename_i q2;rw[ae (cR q2)]at done;subst a';subst M;exact done
  split
  .rename_i q;exact j1 _ (by simp only[df]at q;rw[q];decide)
  .rename_i q;refine j1 _ ?_;by_cases e:x.k=3
   .rw[e];decide
   .simp only[df]at q;simp[q,e]

end Cb
end
section
namespace Cb
variable {V:cG→Bool} {h a H:ai} {R:fO} {D:Nat→Prop}
variable {t:Tr} {x:CV}
theorem Kj(T:gP h D t x)(g:room t<=1000000)(b: ∀H p c,Own H p (enc t).length c 1 (bc (enc t))->(∀y,aP p y->h.size<=y)->Fr No h H->R (.slice p (enc t).length c) H):Cl 215 #[.Z,x.agg] h R:=
 Ki (deep t) t (bp _) h D x none 0 0 [] R rfl (by simp only[bG];omega) (.nil rfl rfl rfl rfl) T (λy ⟨A,e,_⟩=>by cases e) λH P C o f n=>b H P C o (λy d=>(n y d).resolve_left (λ⟨A,e,_⟩=>by cases e)) (f.mono λy _ ⟨A,e,_⟩=>by cases e)
theorem w5(U:kr V a)(u:Fr No a h)(T:gP h D t x)(e:room t<=1000000)(K:im V t=true->∀H p c,Own H p (enc t).length c 1 (bc (enc t))->(∀y,aP p y->h.size<=y)->Fr No h H->R (.T #[.slice p (enc t).length c,.I 0]) H)(l:im V t=false->hH h R (.T #[.Z,.I 3])):Cl 175 #[x.agg] h R:=by
 refine IG.walk (aa.box λB m E b f=>aa.ld b (fM U (u.tt f) (T.on f) e λi F=>⟨_,rfl,?_⟩));have z:=f.1;have Z:=F.1;cases d:im V t with
 |false=>
  rw[gi];exact l d i (f.tt F)
 |true=>
  rw[dy];exact aa.ld (F.get b id) (Kj ((T.on f).on F) e λj p c o n g=>⟨_,_,_,rfl,K d j p c o (λy k=>bW (n y k)) ((f.tt F).tt g)⟩)
theorem kr.mono{b:ai}(U:kr V a)(f:Fr No a b):kr V b:=λg p c B R F=>U g p c B R (f.tt F)
def kf(V:cG->Bool)(b:cG):Bool:=match mJ V b with| .ok (t,n)=>decide (n=b.length) && decide (enc t=b)| .error _=>false
theorem Gx{p:ct}{l c:Nat}{b:cG}(U:kr V h)(r:Row h p (bc b))(v:l=b.length)(cap:b.length<=c)(w:b.length<=90000)(f: hH h R (.B (kf V b))):Cl 279 #[.L p l c] h R:=by
 subst v;unfold kf at f;refine BZ.walk (vK U r rfl cap ag (λs t x next o T i=>⟨_,_,_,_,_,_,_,_,_,_,rfl,aa.new λB j E m g=> ?_⟩) (λs e n i=>⟨_,_,_,_,_,_,_,_,_,_,rfl,aa.new λB j E m g=> ?_⟩))
 .have F:=i.tt g;rw[o]at f;obtain⟨A,z⟩:=rH o;rw[gi];by_cases C:next=b.length
  .rw[af (by rw[C];simp)];refine aa.ld m (Kj (T.on g) ag λu q d O y k=>⟨_,_,_,rfl,kx O.iz (r.frame (F.tt k) bX) rfl rfl ⟨_,rfl,?_⟩⟩);have:=f u (F.tt k);simp only[C,bF,eu]at this;exact this
  .rw[ae (λe=>C (bW (eq_of_beq e)))];have:=f j F;simp only[C,bu,fI]at this;exact this
 .have F:=i.tt g;have:=f j F;rw[n]at this;rw[ae (λq=>mX n (eq_of_beq q))];exact this

end Cb
end
section
namespace jG
variable {h H:ai} {R:fO}
variable {s:ByteArray} {pos:Nat} {more:UInt8}
theorem byte_at(a:pos<s.size):s.data.toList[pos]? =some (s.data.toList.getD pos 0):=by
 have:pos<s.data.toList.length:=a;rw[bh,aj this];rfl
theorem TW{b:UInt8}(d:more.toNat<128)(h:pl more b=true):b<128:=by
 show b.toNat<128;by_cases c:b.toNat<128
 .exact c
 .have a:=Oa (more:=(more.toNat:Int)) (c:=(b.toNat:Int)) ag ag;rw[Ob,h]at a;cases a
theorem On(e:more.toNat<128)(d:pos<s.size)(h:np (more.toNat:Int) ((Utf8.decode s pos).1:Int)=false):
  pl more (s.data.toList.getD pos 0)=true/\(Utf8.decode s pos).2=1:=by
 obtain⟨b,c⟩:=decode_at s pos d;by_cases a:s.data.toList.getD pos 0<128
 .rw[b a]at h⊢;rw[Ob]at h;exact⟨cR h,rfl⟩
 .have:=Oa (more:=(more.toNat:Int)) (c:=((Utf8.decode s pos).1:Int)) ag (bW (c a));rw[this]at h;cases h
theorem QE(e:more.toNat<128)(a:pos<s.size)(h:np (more.toNat:Int) ((Utf8.decode s pos).1:Int)=true):ny more s=false:=by
 cases d:ny more s with
 |false=>rfl
 |true=>
  have b:=List.all_eq_true.1 d _ (aZ (byte_at a));obtain⟨c,_⟩:=decode_at s pos a;rw[c (TW e b),Ob,b]at h;cases h
theorem Aw{i:Nat}{ty:TypeId}{d f:ai}(r:more.toNat<128)(x:f[i]? =some (.stringIter s 0))(z:d.size<=i)(t:Fr No d f)(q: ∀H,Fr No d H->R (.B (ny more s)) H):
  ∃(I:ai->Prop)(M:ai->Nat),I f/\∀g,I g->aT Tryz.prog (Instr.next (.P i 0) true ty) g λv G=>
   (v=.T #[.B false]/\R (.B true) G)\/∃(a b:Value),v=.T #[.B true,a,b]/\∃(c:Int),b=.int .i32 c/\if np (more.toNat:Int) c=true then R (.B false) G else(I G/\M G<M g):=by
 refine⟨λg=> ∃pos,g[i]? =some (.stringIter s pos)/\Fr No d g/\pos<=s.size/\(s.data.toList.take pos).all (pl more)=true,λg=>(match g[i]? with|some (.stringIter _ p)=>s.size - p|_=>0),⟨0,x,t,bQ _,bU⟩,?_⟩;rintro g ⟨pos,o,F,A,l⟩;refine Lf o (λw=> .inl ⟨rfl,?_⟩) (λj G m B y=> .inr ⟨_,_,rfl,_,rfl,?_⟩)
 .have:ny more s=true:=by
   unfold ny;rw[bE (by show s.data.toList.length<=pos;exact w)]at l;exact l
  rw[<-this];exact q g F
 .have n:Fr No d G:=F.fresh (S:=λc=>c=i) ⟨ag,λc _ k=>y c k⟩ (λc e=>ag);cases k:np (more.toNat:Int) ((Utf8.decode s pos).1:Int)with
  |true=>
   rw[af rfl,<-QE r j k];exact q G n
  |false=>
   rw[ae bU];obtain⟨f,u⟩:=On r j k;rw[u]at m;refine⟨⟨pos+1,m,n,j,?_⟩,?_⟩
   .rw[bO,byte_at j,List.all_append,l];show(true && (pl more (s.data.toList.getD pos 0) && true))=true;rw[f];rfl
   .simp only[o,m];omega
theorem IM(q: hH h R (.B (ny 45 s))):Cl 52 #[.S s,.int .i32 45] h R:=by
 refine wV.host.walk (Ac dA λr t u p F=>⟨_,rfl,?_⟩);obtain⟨I,M,m,n⟩:=Aw (more:=45) (ty:=0) dS p ag F q;refine⟨I,M,m,λg o=>kB _ _ (λv G d=> ?_) (n g o)⟩;rcases d with d|⟨a,b,e,c,E,d⟩
 .exact .inl d
 .refine .inr ⟨a,b,e,c,E,aG.of λJ f=> ?_⟩;have key:J (np 45 c) G:=by subst f;exact d
  clear f d;unfold np at key;revert key;generalize decide (c<97)=B;generalize decide (c>122)=i;generalize decide (c<48)=j;generalize decide (c>57)=k;generalize (c !=45)=l;intro key;cases B<;>cases i<;>cases j<;>cases k<;>cases l<;>exact key
theorem Gy(t: hH h R (.B (ny 47 s))):Cl 52 #[.S s,.int .i32 47] h R:=by
 refine wV.TU.walk (Ac dA λr u w q F=>⟨_,rfl,?_⟩);obtain⟨I,M,n,o⟩:=Aw (more:=47) (ty:=0) dS q ag F t;refine⟨I,M,n,λg p=>kB _ _ (λv G d=> ?_) (o g p)⟩;rcases d with d|⟨a,b,e,c,E,d⟩
 .exact .inl d
 .refine .inr ⟨a,b,e,c,E,aG.of λJ f=> ?_⟩;have key:J (np 47 c) G:=by subst f;exact d
  clear f d;unfold np at key;revert key;generalize decide (c<97)=B;generalize decide (c>122)=i;generalize decide (c<48)=j;generalize decide (c>57)=k;generalize (c !=45)=l;generalize (c !=47)=m;intro key;cases B<;>cases i<;>cases j<;>cases k<;>cases l<;>cases m<;>exact key
abbrev Ev.at(h:ai)(b:Nat)(x:Ev):Prop:=aw.at h b x.lE x.node x.gL x.host x.jZ
theorem fM(x:Ev)(k: hH h R (.B (dt x))):Cl 29 #[.agg #[.B x.lE,.U x.node,.U x.gL,.S x.host,.S x.jZ]] h R:=by
 refine Ls.walk (aw.box λb o v c F=>aw.ld c ⟨_,yA (y:=.zero) (x:=x) rfl rfl,?_⟩);have K:=k o F;unfold dt at K;by_cases f:x=.zero
 .rw[af (av f)];rw[af f]at K;exact K
 .rw[ae (cR f)];rw[ae f]at K;refine⟨_,au c,?_⟩;by_cases e:x.lE=true
  .rw[af e];rw[af e]at K;refine aw.ld c ⟨_,au c,_,au c,_,yA (y:=⟨true,x.node,x.gL,⟨#[]⟩,⟨#[]⟩⟩) (x:=x) rfl rfl,?_⟩;by_cases d:x=⟨true,x.node,x.gL,⟨#[]⟩,⟨#[]⟩⟩
   .have E:x.host=⟨#[]⟩:=cf Ev.host d;have i:x.jZ=⟨#[]⟩:=cf Ev.jZ d;rw[af (av d)];refine⟨_,au c,?_⟩;by_cases q:x.node≥1
    .rw[af (av q)];refine⟨_,au c,?_⟩;by_cases Q:x.node<=4294967295
     .rw[af (av Q)];refine⟨_,au c,?_⟩;have l:1<=x.node:=q;simp only[E,i,l,Q,true_and]at K;exact K
     .rw[ae (cR Q)];simp only[Q,false_and,and_false,bu]at K;exact K
    .rw[ae (cR q)];have l: ¬1<=x.node:=q;simp only[l,false_and,and_false,bu]at K;exact K
   .rw[ae (cR d)];have: ¬(x.host=⟨#[]⟩/\x.jZ=⟨#[]⟩/\1<=x.node/\x.node<=4294967295/\x.gL<=4294967295):=λ⟨a,b,_⟩=>d (Ev.ext' e rfl rfl a b)
    rw[aC this]at K;exact K
  .have u:x.lE=false:=by simpa using e
   rw[ae e];rw[ae e]at K;refine aw.ld c ⟨_,au c,_,au c,_,yA (y:=⟨false,0,0,x.host,x.jZ⟩) (x:=x) rfl rfl,?_⟩;by_cases d:x=⟨false,0,0,x.host,x.jZ⟩
   .have E:x.node=0:=cf Ev.node d;have i:x.gL=0:=cf Ev.gL d;rw[af (av d)];refine⟨_,au c,?_⟩;simp only[E,i,true_and]at K;by_cases q:1<=x.host.size
    .rw[gi];refine⟨_,au c,?_⟩;by_cases Q:x.host.size<=16
     .rw[gi];refine⟨_,au c,?_⟩;by_cases m:x.jZ.size<=24
      .rw[gi];simp only[q,Q,m,and_self,bF,eu]at K;refine⟨_,au c,IM λp j=>⟨_,rfl,?_⟩⟩;have t:=j.get c id;by_cases g:ny 45 x.host=true
       .rw[af g];refine⟨_,au t,Gy λr n=>⟨_,rfl,?_⟩⟩;have:=k r (F.tt (j.tt n));unfold dt at this;rw[ae f,ae e,g]at this;simp only[E,i,q,Q,m,and_self,bF,eu]at this;exact this
       .rw[ae g];have:=k p (F.tt j);unfold dt at this;have g:ny 45 x.host=false:=by simpa using g
        rw[ae f,ae e,g]at this;simp only[fI,Bool.and_false]at this;exact this
      .rw[ae (by simp;omega)];simp only[m,and_false,bu,fI]at K;exact K
     .rw[ae (by simp;omega)];simp only[Q,false_and,and_false,bu,fI]at K;exact K
    .rw[ae (by simp;omega)];simp only[q,false_and,bu,fI]at K;exact K
   .rw[ae (cR d)];have: ¬(x.node=0/\x.gL=0/\1<=x.host.size/\x.host.size<=16/\x.jZ.size<=24):=λ⟨a,b,_⟩=>d (Ev.ext' u a b rfl rfl)
    rw[aC this,fI]at K;exact K

end jG
end
section
variable {h:ai} {R:fO}
variable {K:Nat->ai->Prop} {b l c B e m:Nat} {a:Addr} {S v s P:Int} {L d:ct}
abbrev aa.fD(h:ai)(b:Nat)(x:aa.S):Prop:=h[b]? =some (.cells x.arr 198 (0,0))
theorem aa.ex{K:aa.S->Prop}(x:aa.S)(H:K x):aa.EX K:=⟨_,_,_,_,_,_,_,_,H⟩
theorem aa.fz{x:aa.S}{K:aa.S->Prop}(H:aa.fD h b x)(f:K x):aa.cC h (AA b 0) K:=
 ⟨_,au H,_,au H,_,_,_,au H,_,_,_,au H,f⟩
theorem aa.jQ{x:aa.S}{K:aa.S->Prop}(H:dN a x.l 0 h)(f:K x):aa.cC h a K:=by
 obtain⟨q,Q,g,i,_⟩:=H;rw[fy]at q;exact⟨_,q,_,Q,_,_,_,g,_,_,_,i,f⟩
theorem aa.Ax{x:aa.S}(H:aa.fD h b x):dN (AA b 0) x.l 0 h:=
 gH H (λj V f=>by rw[bK];simpa using f)
theorem aa.fK{x:aa.S}(g: ∀b H,b=h.size->aa.fD H b x->Fr No h H->K b H):bf h (.C aa.S.z.arr 198) λb f=>aa.du f (AA b 0) x (K b):=
 gz (vs:=x.l) rfl rfl g
theorem aa.cW{x:aa.S}(g: ∀b H,b=h.size->aa.fD H b x->Fr No h H->K b H):bf h (.C x.arr 198) λb f=>K b f:=
 cT (g _ _ rfl bZ (Fr.push _ _))
theorem aa.gX{y x:aa.S}{K:ai->Prop}(A:aa.fD h b y)(k: ∀H,aa.fD H b x->Fr (λy=>y=b) h H->H.size=h.size->K H):aa.du h (AA b 0) x K:=
 (show dV (AA b 0) x.l 0 h K from ft A rfl rfl λi f D g=>k i f (Fr.of_eq D λC j=>g C j) D)
variable {x:aa.S}
abbrev aw.fD(h:ai)(b:Nat)(x:aw.S):Prop:=h[b]? =some (.cells x.arr 29 (0,0))
theorem aw.ex{K:aw.S->Prop}(x:aw.S)(H:K x):aw.EX K:=⟨_,_,_,_,_,H⟩
theorem aw.fz{x:aw.S}{K:aw.S->Prop}(H:aw.fD h b x)(f:K x):aw.cC h (AA b 0) K:=
 ⟨_,au H,_,au H,_,au H,_,au H,_,au H,f⟩
theorem aw.fK{x:aw.S}(g: ∀b H,b=h.size->aw.fD H b x->Fr No h H->K b H):bf h (.C aw.S.z.arr 29) λb f=>aw.du f (AA b 0) x (K b):=
 gz (vs:=x.l) rfl rfl g
theorem aw.cW{x:aw.S}(g: ∀b H,b=h.size->aw.fD H b x->Fr No h H->K b H):bf h (.C x.arr 29) λb f=>K b f:=
 cT (g _ _ rfl bZ (Fr.push _ _))
theorem aw.gX{y x:aw.S}{K:ai->Prop}(A:aw.fD h b y)(k: ∀H,aw.fD H b x->Fr (λy=>y=b) h H->H.size=h.size->K H):aw.du h (AA b 0) x K:=
 (show dV (AA b 0) x.l 0 h K from ft A rfl rfl λi f D g=>k i f (Fr.of_eq D λC j=>g C j) D)
abbrev ah.fD(h:ai)(b:Nat)(x:ah.S):Prop:=h[b]? =some (.cells x.arr 82 (0,0))
theorem ah.ex{K:ah.S->Prop}(x:ah.S)(H:K x):ah.EX K:=⟨_,_,_,_,_,_,_,H⟩
theorem ah.fz{x:ah.S}{K:ah.S->Prop}(H:ah.fD h b x)(f:K x):ah.cC h (AA b 0) K:=
 ⟨_,au H,_,au H,_,au H,_,au H,_,au H,_,au H,_,au H,f⟩
theorem ah.fK{x:ah.S}(g: ∀b H,b=h.size->ah.fD H b x->Fr No h H->K b H):bf h (.C ah.S.z.arr 82) λb f=>ah.du f (AA b 0) x (K b):=
 gz (vs:=x.l) rfl rfl g
theorem ah.cW{x:ah.S}(g: ∀b H,b=h.size->ah.fD H b x->Fr No h H->K b H):bf h (.C x.arr 82) λb f=>K b f:=
 cT (g _ _ rfl bZ (Fr.push _ _))
theorem ah.gX{y x:ah.S}{K:ai->Prop}(A:ah.fD h b y)(k: ∀H,ah.fD H b x->Fr (λy=>y=b) h H->H.size=h.size->K H):ah.du h (AA b 0) x K:=
 (show dV (AA b 0) x.l 0 h K from ft A rfl rfl λi f D g=>k i f (Fr.of_eq D λC j=>g C j) D)
abbrev aE.fD(h:ai)(b:Nat)(x:aE.S):Prop:=h[b]? =some (.cells x.arr 155 (0,0))
theorem aE.ex{K:aE.S->Prop}(x:aE.S)(H:K x):aE.EX K:=⟨_,_,_,_,_,_,_,_,_,_,_,_,_,_,_,_,_,_,_,_,H⟩
theorem aE.fz{x:aE.S}{K:aE.S->Prop}(H:aE.fD h b x)(f:K x):aE.cC h (AA b 0) K:=
 ⟨_,au H,_,au H,_,au H,_,au H,_,au H,_,au H,_,au H,_,au H,_,au H,_,au H,_,au H,_,au H,_,au H,_,au H,_,au H,_,au H,_,au H,_,au H,_,au H,_,au H,f⟩
theorem aE.fK{x:aE.S}(g: ∀b H,b=h.size->aE.fD H b x->Fr No h H->K b H):bf h (.C aE.S.z.arr 155) λb f=>aE.du f (AA b 0) x (K b):=
 gz (vs:=x.l) rfl rfl g
theorem aE.cW{x:aE.S}(g: ∀b H,b=h.size->aE.fD H b x->Fr No h H->K b H):bf h (.C x.arr 155) λb f=>K b f:=
 cT (g _ _ rfl bZ (Fr.push _ _))
theorem aE.gX{y x:aE.S}{K:ai->Prop}(A:aE.fD h b y)(k: ∀H,aE.fD H b x->Fr (λy=>y=b) h H->H.size=h.size->K H):aE.du h (AA b 0) x K:=
 (show dV (AA b 0) x.l 0 h K from ft A rfl rfl λi f D g=>k i f (Fr.of_eq D λC j=>g C j) D)
variable {p:aE.S}
abbrev ay.fD(h:ai)(b:Nat)(x:ay.S):Prop:=h[b]? =some (.cells x.arr 204 (0,0))
theorem ay.ex{K:ay.S->Prop}(x:ay.S)(H:K x):ay.EX K:=⟨_,_,_,_,_,_,_,H⟩
theorem ay.fz{x:ay.S}{K:ay.S->Prop}(H:ay.fD h b x)(f:K x):ay.cC h (AA b 0) K:=
 ⟨_,au H,_,au H,_,au H,_,au H,_,_,_,au H,f⟩
theorem ay.jQ{x:ay.S}{K:ay.S->Prop}(H:dN a x.l 0 h)(f:K x):ay.cC h a K:=by
 obtain⟨q,Q,g,i,j,_⟩:=H;rw[fy]at q;exact⟨_,q,_,Q,_,g,_,i,_,_,_,j,f⟩
theorem ay.Ax{x:ay.S}(H:ay.fD h b x):dN (AA b 0) x.l 0 h:=
 gH H (λj V f=>by rw[bK];simpa using f)
theorem ay.fK{x:ay.S}(g: ∀b H,b=h.size->ay.fD H b x->Fr No h H->K b H):bf h (.C ay.S.z.arr 204) λb f=>ay.du f (AA b 0) x (K b):=
 gz (vs:=x.l) rfl rfl g
theorem ay.cW{x:ay.S}(g: ∀b H,b=h.size->ay.fD H b x->Fr No h H->K b H):bf h (.C x.arr 204) λb f=>K b f:=
 cT (g _ _ rfl bZ (Fr.push _ _))
theorem ay.gX{y x:ay.S}{K:ai->Prop}(A:ay.fD h b y)(k: ∀H,ay.fD H b x->Fr (λy=>y=b) h H->H.size=h.size->K H):ay.du h (AA b 0) x K:=
 (show dV (AA b 0) x.l 0 h K from ft A rfl rfl λi f D g=>k i f (Fr.of_eq D λC j=>g C j) D)
abbrev ak.fD(h:ai)(b:Nat)(x:ak.S):Prop:=h[b]? =some (.cells x.arr 158 (0,0))
theorem ak.ex{K:ak.S->Prop}(x:ak.S)(H:K x):ak.EX K:=⟨_,_,_,_,_,_,_,_,_,_,_,_,_,_,_,_,_,_,_,_,_,_,_,H⟩
theorem ak.fz{x:ak.S}{K:ak.S->Prop}(H:ak.fD h b x)(f:K x):ak.cC h (AA b 0) K:=
 ⟨_,au H,_,au H,_,au H,_,au H,_,au H,_,au H,_,au H,_,au H,_,au H,_,au H,_,au H,_,au H,_,au H,_,au H,_,au H,_,au H,_,au H,_,au H,_,au H,_,au H,_,_,_,au H,f⟩
theorem ak.fK{x:ak.S}(g: ∀b H,b=h.size->ak.fD H b x->Fr No h H->K b H):bf h (.C ak.S.z.arr 158) λb f=>ak.du f (AA b 0) x (K b):=
 gz (vs:=x.l) rfl rfl g
theorem ak.cW{x:ak.S}(g: ∀b H,b=h.size->ak.fD H b x->Fr No h H->K b H):bf h (.C x.arr 158) λb f=>K b f:=
 cT (g _ _ rfl bZ (Fr.push _ _))
theorem ak.gX{y x:ak.S}{K:ai->Prop}(A:ak.fD h b y)(k: ∀H,ak.fD H b x->Fr (λy=>y=b) h H->H.size=h.size->K H):ak.du h (AA b 0) x K:=
 (show dV (AA b 0) x.l 0 h K from ft A rfl rfl λi f D g=>k i f (Fr.of_eq D λC j=>g C j) D)
abbrev aK.fD(h:ai)(b:Nat)(x:aK.S):Prop:=h[b]? =some (.cells x.arr 211 (0,0))
theorem aK.ex{K:aK.S->Prop}(x:aK.S)(H:K x):aK.EX K:=⟨_,_,_,_,_,_,_,_,_,_,_,_,H⟩
theorem aK.fz{x:aK.S}{K:aK.S->Prop}(H:aK.fD h b x)(f:K x):aK.cC h (AA b 0) K:=
 ⟨_,au H,_,au H,_,au H,_,au H,_,au H,_,au H,_,au H,_,au H,_,au H,_,au H,_,au H,_,au H,f⟩
theorem aK.fK{x:aK.S}(g: ∀b H,b=h.size->aK.fD H b x->Fr No h H->K b H):bf h (.C aK.S.z.arr 211) λb f=>aK.du f (AA b 0) x (K b):=
 gz (vs:=x.l) rfl rfl g
theorem aK.cW{x:aK.S}(g: ∀b H,b=h.size->aK.fD H b x->Fr No h H->K b H):bf h (.C x.arr 211) λb f=>K b f:=
 cT (g _ _ rfl bZ (Fr.push _ _))
theorem aK.gX{y x:aK.S}{K:ai->Prop}(A:aK.fD h b y)(k: ∀H,aK.fD H b x->Fr (λy=>y=b) h H->H.size=h.size->K H):aK.du h (AA b 0) x K:=
 (show dV (AA b 0) x.l 0 h K from ft A rfl rfl λi f D g=>k i f (Fr.of_eq D λC j=>g C j) D)
abbrev aF.fD(h:ai)(b:Nat)(x:aF.S):Prop:=h[b]? =some (.cells x.arr 35 (0,0))
theorem aF.ex{K:aF.S->Prop}(x:aF.S)(H:K x):aF.EX K:=⟨_,_,_,_,_,_,_,_,_,_,_,_,_,_,_,_,_,_,_,_,_,H⟩
theorem aF.fz{x:aF.S}{K:aF.S->Prop}(H:aF.fD h b x)(f:K x):aF.cC h (AA b 0) K:=
 ⟨_,au H,_,au H,_,au H,_,au H,_,au H,_,au H,_,au H,_,au H,_,au H,_,au H,_,au H,_,au H,_,au H,_,au H,_,au H,_,_,_,au H,_,au H,_,au H,_,au H,f⟩
theorem aF.fK{x:aF.S}(g: ∀b H,b=h.size->aF.fD H b x->Fr No h H->K b H):bf h (.C aF.S.z.arr 35) λb f=>aF.du f (AA b 0) x (K b):=
 gz (vs:=x.l) rfl rfl g
theorem aF.cW{x:aF.S}(g: ∀b H,b=h.size->aF.fD H b x->Fr No h H->K b H):bf h (.C x.arr 35) λb f=>K b f:=
 cT (g _ _ rfl bZ (Fr.push _ _))
theorem aF.gX{y x:aF.S}{K:ai->Prop}(A:aF.fD h b y)(k: ∀H,aF.fD H b x->Fr (λy=>y=b) h H->H.size=h.size->K H):aF.du h (AA b 0) x K:=
 (show dV (AA b 0) x.l 0 h K from ft A rfl rfl λi f D g=>k i f (Fr.of_eq D λC j=>g C j) D)
abbrev aq.fD(h:ai)(b:Nat)(x:aq.S):Prop:=h[b]? =some (.cells x.arr 40 (0,0))
theorem aq.ex{K:aq.S->Prop}(x:aq.S)(H:K x):aq.EX K:=⟨_,_,_,_,_,_,_,_,H⟩
theorem aq.fz{x:aq.S}{K:aq.S->Prop}(H:aq.fD h b x)(f:K x):aq.cC h (AA b 0) K:=
 ⟨_,au H,_,au H,_,au H,_,au H,_,au H,_,_,_,au H,f⟩
theorem aq.jQ{x:aq.S}{K:aq.S->Prop}(H:dN a x.l 0 h)(f:K x):aq.cC h a K:=by
 obtain⟨q,Q,g,i,j,k,_⟩:=H;rw[fy]at q;exact⟨_,q,_,Q,_,g,_,i,_,j,_,_,_,k,f⟩
theorem aq.fK{x:aq.S}(g: ∀b H,b=h.size->aq.fD H b x->Fr No h H->K b H):bf h (.C aq.S.z.arr 40) λb f=>aq.du f (AA b 0) x (K b):=
 gz (vs:=x.l) rfl rfl g
theorem aq.cW{x:aq.S}(g: ∀b H,b=h.size->aq.fD H b x->Fr No h H->K b H):bf h (.C x.arr 40) λb f=>K b f:=
 cT (g _ _ rfl bZ (Fr.push _ _))
theorem aq.gX{y x:aq.S}{K:ai->Prop}(A:aq.fD h b y)(k: ∀H,aq.fD H b x->Fr (λy=>y=b) h H->H.size=h.size->K H):aq.du h (AA b 0) x K:=
 (show dV (AA b 0) x.l 0 h K from ft A rfl rfl λi f D g=>k i f (Fr.of_eq D λC j=>g C j) D)
abbrev aM.fD(h:ai)(b:Nat)(x:aM.S):Prop:=h[b]? =some (.cells x.arr 37 (0,0))
theorem aM.ex{K:aM.S->Prop}(x:aM.S)(H:K x):aM.EX K:=⟨_,_,_,_,_,_,_,_,_,_,_,_,_,_,_,_,_,_,_,_,_,_,_,_,_,_,_,_,H⟩
theorem aM.fz{x:aM.S}{K:aM.S->Prop}(H:aM.fD h b x)(f:K x):aM.cC h (AA b 0) K:=
 ⟨_,au H,_,au H,_,au H,_,au H,_,au H,_,au H,_,au H,_,au H,_,au H,_,au H,_,au H,_,au H,_,au H,_,au H,_,au H,_,au H,_,au H,_,au H,_,au H,_,_,_,au H,_,au H,_,au H,_,au H,_,_,_,au H,f⟩
theorem aM.jQ{x:aM.S}{K:aM.S->Prop}(H:dN a x.l 0 h)(f:K x):aM.cC h a K:=by
 obtain⟨q,Q,y,E,F,G,I,J,M,O,g,i,j,k,n,o,r,t,u,w,z,A,C,D,_⟩:=H;rw[fy]at q;exact⟨_,q,_,Q,_,y,_,E,_,F,_,G,_,I,_,J,_,M,_,O,_,g,_,i,_,j,_,k,_,n,_,o,_,r,_,t,_,u,_,_,_,w,_,z,_,A,_,C,_,_,_,D,f⟩
theorem aM.fK{x:aM.S}(g: ∀b H,b=h.size->aM.fD H b x->Fr No h H->K b H):bf h (.C aM.S.z.arr 37) λb f=>aM.du f (AA b 0) x (K b):=
 gz (vs:=x.l) rfl rfl g
theorem aM.cW{x:aM.S}(g: ∀b H,b=h.size->aM.fD H b x->Fr No h H->K b H):bf h (.C x.arr 37) λb f=>K b f:=
 cT (g _ _ rfl bZ (Fr.push _ _))
theorem aM.gX{y x:aM.S}{K:ai->Prop}(A:aM.fD h b y)(k: ∀H,aM.fD H b x->Fr (λy=>y=b) h H->H.size=h.size->K H):aM.du h (AA b 0) x K:=
 (show dV (AA b 0) x.l 0 h K from ft A rfl rfl λi f D g=>k i f (Fr.of_eq D λC j=>g C j) D)
abbrev aR.fD(h:ai)(b:Nat)(x:aR.S):Prop:=h[b]? =some (.cells x.arr 168 (0,0))
theorem aR.ex{K:aR.S->Prop}(x:aR.S)(H:K x):aR.EX K:=⟨_,_,_,_,_,_,_,_,_,_,_,_,H⟩
theorem aR.jQ{x:aR.S}{K:aR.S->Prop}(H:dN a x.l 0 h)(f:K x):aR.cC h a K:=by
 obtain⟨q,Q,g,i,j,k,n,o,r,t,_⟩:=H;rw[fy]at q;exact⟨_,q,_,Q,_,g,_,i,_,j,_,k,_,_,_,n,_,o,_,r,_,t,f⟩
theorem aR.cW{x:aR.S}(g: ∀b H,b=h.size->aR.fD H b x->Fr No h H->K b H):bf h (.C x.arr 168) λb f=>K b f:=
 cT (g _ _ rfl bZ (Fr.push _ _))
theorem aR.gX{y x:aR.S}{K:ai->Prop}(A:aR.fD h b y)(k: ∀H,aR.fD H b x->Fr (λy=>y=b) h H->H.size=h.size->K H):aR.du h (AA b 0) x K:=
 (show dV (AA b 0) x.l 0 h K from ft A rfl rfl λi f D g=>k i f (Fr.of_eq D λC j=>g C j) D)
abbrev aI.fD(h:ai)(b:Nat)(x:aI.S):Prop:=h[b]? =some (.cells x.arr 117 (0,0))
theorem aI.ex{K:aI.S->Prop}(x:aI.S)(H:K x):aI.EX K:=⟨_,_,_,_,_,_,H⟩
theorem aI.fK{x:aI.S}(g: ∀b H,b=h.size->aI.fD H b x->Fr No h H->K b H):bf h (.C aI.S.z.arr 117) λb f=>aI.du f (AA b 0) x (K b):=
 gz (vs:=x.l) rfl rfl g
abbrev ck.fD(h:ai)(b:Nat)(x:ck.S):Prop:=h[b]? =some (.cells x.arr 149 (0,0))
theorem ck.ex{K:ck.S->Prop}(x:ck.S)(H:K x):ck.EX K:=⟨_,_,_,_,_,_,_,_,_,_,_,_,_,_,_,_,_,_,_,_,_,_,_,H⟩
theorem ck.fz{x:ck.S}{K:ck.S->Prop}(H:ck.fD h b x)(f:K x):ck.cC h (AA b 0) K:=
 ⟨_,au H,_,au H,_,au H,_,au H,_,au H,_,au H,_,au H,_,au H,_,au H,_,au H,_,au H,_,au H,_,au H,_,au H,_,au H,_,_,_,au H,_,au H,_,au H,_,au H,_,au H,_,au H,f⟩
theorem ck.cW{x:ck.S}(g: ∀b H,b=h.size->ck.fD H b x->Fr No h H->K b H):bf h (.C x.arr 149) λb f=>K b f:=
 cT (g _ _ rfl bZ (Fr.push _ _))
abbrev cA.fD(h:ai)(b:Nat)(x:cA.S):Prop:=h[b]? =some (.cells x.arr 162 (0,0))
theorem cA.ex{K:cA.S->Prop}(x:cA.S)(H:K x):cA.EX K:=⟨_,_,_,_,_,_,_,_,_,_,_,_,_,_,_,_,_,_,_,_,_,_,_,_,_,_,_,H⟩
theorem cA.fz{x:cA.S}{K:cA.S->Prop}(H:cA.fD h b x)(f:K x):cA.cC h (AA b 0) K:=
 ⟨_,au H,_,au H,_,au H,_,au H,_,au H,_,au H,_,au H,_,au H,_,au H,_,au H,_,au H,_,au H,_,au H,_,au H,_,au H,_,au H,_,au H,_,au H,_,au H,_,au H,_,_,_,au H,_,au H,_,_,_,au H,f⟩
theorem cA.cW{x:cA.S}(g: ∀b H,b=h.size->cA.fD H b x->Fr No h H->K b H):bf h (.C x.arr 162) λb f=>K b f:=
 cT (g _ _ rfl bZ (Fr.push _ _))
theorem qm.walk(H:R (.I (wrap .i64 (2*S))) h):Cl 197 #[.I S] h R:=aS [] Tryz.func197 H
theorem Ay.walk (o:aG (λ(u:Bool) (H:ai)=>if u then R (.I (-1)) H else Bd v l/\aN L λa=> ∃k,aU H ((a.add (toNat v*4)).add 1)=some (.U k)/\R (.I (wrap .i64 k)) H) (λJ=>if(decide (v<0))then J true h else if(decide (v≥(l:Int)))then J true h else Bd v l/\aN L λA=> ∃t,aU h ((A.add (toNat v*4)).add 1)=some (.U t)/\if(decide (t>2))then J true h else Bd v l/\aN L λg=>aa.cC h (g.add (toNat v*4)) λq=>Bd v l/\aN L λn=>gA h ((n.add (toNat v*4)).add 1) λr=>Cl 199 #[.U r] h λV f=>aa.EX λT=>V=T.agg/\Kp h f [(some (g.add (toNat v*4))),(some ((A.add (toNat v*4)).add 1))]/\Cl 164 #[q.agg,T.agg] f λw i=> ∃j,w=.B j/\Kp f i [(some ((A.add (toNat v*4)).add 1))]/\J (!j) i)):Cl 195 #[.L L l c,.I v] h R:=aS [(4,.join [(34,.one (.bool))]),(4,λ_=>pK 30)] Tryz.func195 o
theorem B0.walk (J:Cl 227 #[.L L l c] h λc' u=>Vl c' λQ O M=>Cl 197 #[.I S] u λd' A=>Vi d' λj=>aT Tryz.prog (Instr.makeSlice 33 (.I j) (.I j)) A λe' C=>Vl e' λX V U=>Cl 196 #[.L X V U] C λf' D=>aa.EX λk=>f'=k.agg/\bf D (.C k.arr 198) λb E=>aT Tryz.prog (Builtin.append_ #[196,196] 196 #[.L Q O M,.L (Sa b 0) 1 1]) E λg' F=>Vl g' λb' a' Z=>Cl 162 #[.L b' a' Z] F λh' G=>aa.EX λn=>h'=n.agg/\Cl 175 #[n.agg] G λi' H=> ∃g f T o,i'=.T #[.L g f T,.I o]/\if(o !=0)then R (.T #[.Z,.I 3]) H else if(S==1)then Cl 228 #[.L g f T] H λj' I=> ∃i,j'=.int .u16 i/\bf I (.C #[.int .u8 (wrap .u8 (Int.fdiv i (2 ^ min (toNat 8) (IntKind.bits .u16)))),.int .u8 (wrap .u8 i)] 5) λq w=>R (.T #[.L (Sa q 0) 2 2,.I 0]) w else Cl 229 #[.L g f T] H λk' y=> ∃t,k'=.int .u32 t/\bf y (.C #[.int .u8 (wrap .u8 (Int.fdiv t (2 ^ min (toNat 24) (IntKind.bits .u32)))),.int .u8 (wrap .u8 (Int.fdiv t (2 ^ min (toNat 16) (IntKind.bits .u32)))),.int .u8 (wrap .u8 (Int.fdiv t (2 ^ min (toNat 8) (IntKind.bits .u32)))),.int .u8 (wrap .u8 t)] 5) λr z=>R (.T #[.L (Sa r 0) 4 4,.I 0]) z):Cl 198 #[.L L l c,.I S] h R:=aS [] Tryz.func198 J
theorem D9.walk (hv:aa.NW h λb n=>aG (λ(k':Bool) (y:ai)=>if k' then aa.du y (AA b 0) aa.S.z λA=>aa.cC A (AA b 0) λr0=>R (.T #[r0.agg,.I 1]) A else Cl 195 #[.L L l c,.I v] y λr' d'=>Vi r' λt=>aG (λ(l':Bool) (C:ai)=>if l' then aa.du C (AA b 0) aa.S.z λD=>aa.cC D (AA b 0) λg'=>R (.T #[g'.agg,.I 3]) D else Cl 162 #[.L L l c] C λs' e'=>aa.EX λG=>s'=G.agg/\aa.NW e' λf f'=>aa.du f' (AA f 0) G λE=>aG (λ(o:ai)=>aa.cC o (AA f 0) λp'=>Cl 194 #[p'.agg] o λt' g=> ∃Z,t'=.B Z/\if(!Z)then aa.du g (AA b 0) aa.S.z λq=>aa.cC q (AA b 0) λh'=>R (.T #[h'.agg,.I 3]) q else aa.cC g (AA f 0) λq'=>aa.du g (AA b 0) q' λr=>aa.cC r (AA b 0) λi'=>R (.T #[i'.agg,.I 0]) r) (λk=>if(decide (t>0))then Cl 198 #[.L L l c,.I t] E λu' H=> ∃O M I T,u'=.T #[.L O M I,.I T]/\if(T !=0)then aa.du H (AA b 0) aa.S.z λu=>aa.cC u (AA b 0) λj'=>R (.T #[j'.agg,.I T]) u else Hl H f 3 λo' n' m'=>Cl 196 #[.L O M I] H λv' i=>aa.EX λQ=>v'=Q.agg/\Kp H i [(Sa f 3)]/\bf i (.C Q.arr 198) λa' w=>Kp i w [(Sa f 3)]/\aT Tryz.prog (Builtin.append_ #[196,196] 196 #[.L o' n' m',.L (Sa a' 0) 1 1]) w λw' b'=> ∃X V U,w'=.L X V U/\aJ b' (AA f 3) (.L X V U) λc'=>k c' else k E)) (λj=>Cl 235 #[.L L l c,.func (.func 234) #[] #[]] d' λx' z=> ∃F,x'=.B F/\if F then j true z else j (decide (t<0)) z)) (λJ=>if(decide (v<0))then J true n else J (decide (v≥(l:Int))) n)):Cl 206 #[.L L l c,.I v] h R:=aS [(4,.join [(18,.one (.bool))]),(16,.join [(29,.one (.bool))]),(27,.join []),(38,λ_=>pK 8)] Tryz.func206 hv
theorem Az.walk(g:bf h (.C x.arr 198) λb H=>aa.cC H (AA b 0) λT=>Cl 194 #[T.agg] H λV f=> ∃t,V=.B t/\R (.B (!t)) f):Cl 234 #[x.agg] h R:=aS [] Tryz.func234 g
theorem Ea.walk (hv:bf h (.C x.arr 198) λb C=>aG (λ(u':Bool) (u:ai)=>if u' then R (.T #[.Z,.I 3]) u else∃O M I,Cc u b 3 (.L O M I)/\Cl 195 #[.L O M I,.I v] u λF' H=> ∃T,F'=.I T/\if(decide (T<0))then R (.T #[.Z,.I 3]) H else if(T==0)then∃V U Q,Cc H b 3 (.L V U Q)/\Cl 162 #[.L V U Q] H λG' r'=>aa.EX λj=>G'=j.agg/\R (.T #[.L j.Sv j.Fq j.Qf,.I 0]) r' else∃w' t v',Cc H b 3 (.L w' t v')/\∃Z X x',Cc H b 3 (.L Z X x')/\((0:Int)<=wrap .i64 (((t:Nat):Int) - 1)/\wrap .i64 (((t:Nat):Int) - 1)<((X:Nat):Int))/\aN Z λa=>aa.cC H (a.add (toNat (wrap .i64 (((t:Nat):Int) - 1))*4)) λy'=>aa.NW H λf s'=>aa.du s' (AA f 0) y' λg=>aG (λ(C':Bool) (w:ai)=>if C' then R (.T #[.Z,.I 3]) w else∃h' D' k,Cc w b 3 (.L h' D' k)/\((0:Int)<=wrap .i64 (((t:Nat):Int) - 1)/\wrap .i64 (((t:Nat):Int) - 1)<=((k:Nat):Int))/\Cl 198 #[.slice (cQ h' k 0 4) ((toNat (wrap .i64 (((t:Nat):Int) - 1))) - 0) (k - 0),.I T] w λH' y=> ∃k' j' i' A,H'=.T #[.L k' j' i',.I A]/\if(A !=0)then R (.T #[.Z,.I A]) y else∃n' m' l',Cc y f 2 (.L n' m' l')/\Cl 35 #[.L k' j' i',.L n' m' l'] y λI' z=> ∃o',I'=.B o'/\if(!o')then R (.T #[.Z,.I 10]) z else∃p' E' n,Cc z b 3 (.L p' E' n)/\((0:Int)<=wrap .i64 (((t:Nat):Int) - 1)/\wrap .i64 (((t:Nat):Int) - 1)<=((n:Nat):Int))/\Cl 162 #[.slice (cQ p' n 0 4) ((toNat (wrap .i64 (((t:Nat):Int) - 1))) - 0) (n - 0)] z λJ' q'=>aa.EX λo=>J'=o.agg/\R (.T #[.L o.Sv o.Fq o.Qf,.I 0]) q') (λq=>if(decide ((wrap .i64 (((t:Nat):Int) - 1))<=v))then q true g else aa.cC g (AA f 0) λz'=> ∃c' b' a',Cc g f 2 (.L c' b' a')/\Cl 196 #[.L c' b' a'] g λK' D=>aa.EX λd'=>K'=d'.agg/\Kp g D [(Sa f 0)]/\Cl 164 #[z'.agg,d'.agg] D λL' i=> ∃e',L'=.B e'/\if(!e')then q true i else∃B' f' A',Cc i f 2 (.L B' f' A')/\Cl 197 #[.I T] i λM' E=> ∃g',M'=.I g'/\Kp i E [(Sa f 2)]/\q (((f':Nat):Int) !=g') E)) (λJ=>aa.cC C (AA b 0) λt'=>Cl 194 #[t'.agg] C λO' r=> ∃F,O'=.B F/\if(!F)then J true r else∃G,Cc r b 0 (.I G)/\J (G !=4) r)):Cl 159 #[x.agg,.I v] h R:=aS [(4,.join [(18,.one (.bool))]),(33,.join [(60,.one (.bool))]),(33,λ_=>pK 19)] Tryz.func159 hv
theorem B1.walk(r:bf h (.C p.arr 155) λb H=> ∃o,Cc H b 0 (.U o)/\if((wrap .u64 ((nQ o &&& ~~~ nQ 409638).toNat:Int))==0)then∃q,Cc H b 1 (.I q)/\if(decide (q≥0))then∃t,Cc H b 1 (.I t)/\if(decide (t<=2))then aw.cC H (AA b 2) λu=>Cl 29 #[u.agg] H λV f=> ∃T,V=.B T/\if T then aw.cC f (AA b 7) λw=>Cl 29 #[w.agg] f λz g=> ∃j,z=.B j/\if j then ah.cC g (AA b 12) λy=>Cl 218 #[y.agg] g λA i=> ∃k,A=.B k/\if k then∃n,Cc i b 19 (.U n)/\R (.B (decide (n<=1099511627776))) i else R (.B false) i else R (.B false) g else R (.B false) f else R (.B false) H else R (.B false) H else R (.B false) H):Cl 204 #[p.agg] h R:=aS [] Tryz.func204 r
theorem B4.walk(hv:bf h (.C p.arr 155) λb V=>aa.NW V λj w=>aE.cC w (AA b 0) λg'=>Cl 204 #[g'.agg] w λy' r=> ∃T,y'=.B T/\if(!T)then aa.du r (AA j 0) aa.S.z λz=>aa.cC z (AA j 0) λr0=>R (.T #[r0.agg,.I 3]) z else aw.cC r (AA b 2) λh'=>Cl 205 #[h'.agg] r λz' b'=>aa.EX λD=> ∃i',z'=.T #[D.agg,.I i']/\aa.NW b' λg c'=>aa.du c' (AA g 0) D λC=>aw.cC C (AA b 7) λj'=>Cl 205 #[j'.agg] C λA' d'=>aa.EX λE=> ∃k',A'=.T #[E.agg,.I k']/\aa.NW d' λi e'=>aa.du e' (AA i 0) E λt=>ah.cC t (AA b 12) λl'=>Cl 202 #[l'.agg] t λB' X=>aa.EX λF=> ∃m',B'=.T #[F.agg,.I m']/\aa.NW X λf Z=>aa.du Z (AA f 0) F λH=>Hu H b 0 λn'=>Hi H b 1 λo'=>aa.cC H (AA g 0) λp'=>Hl H f 3 λr' q' _=>Bd 0 q'/\aN r' λa=>aa.cC H (a.add (toNat 0*4)) λs'=>aa.cC H (AA i 0) λt'=>Hl H f 3 λv' u' _=>Bd 1 u'/\aN v' λA=>aa.cC H (A.add (toNat 1*4)) λw'=>Hu H b 19 λx'=>Cl 199 #[.U 7] H λC' k=>aa.EX λG=>C'=G.agg/\Kp H k [(Sa b 19),(some (A.add (toNat 1*4))),(Sa f 3),(Sa i 0),(some (a.add (toNat 0*4))),(Sa f 3),(Sa g 0),(Sa b 1),(Sa b 0)]/\Cl 199 #[.U n'] k λD' n=>aa.EX λI=>D'=I.agg/\Kp k n [(Sa b 19),(some (A.add (toNat 1*4))),(Sa f 3),(Sa i 0),(some (a.add (toNat 0*4))),(Sa f 3),(Sa g 0),(Sa b 1)]/\Cl 199 #[.U (wrap .u64 o')] n λE' o=>aa.EX λJ=>E'=J.agg/\Kp n o [(Sa b 19),(some (A.add (toNat 1*4))),(Sa f 3),(Sa i 0),(some (a.add (toNat 0*4))),(Sa f 3),(Sa g 0),(Sa b 1)]/\Cl 199 #[.U x'] o λF' q=>aa.EX λM=>F'=M.agg/\Kp o q [(some (A.add (toNat 1*4))),(Sa f 3),(Sa i 0),(some (a.add (toNat 0*4))),(Sa f 3),(Sa g 0),(Sa b 1)]/\bf q (.C (G.l++I.l++J.l++p'.l++s'.l++t'.l++w'.l++M.l).toArray 198) λU u=>Kp q u [(Sa f 3),(Sa f 3),(Sa b 1)]/\Cl 206 #[.L (Sa U 0) 8 8,.I 2] u λG' a'=>aa.EX λO=> ∃Q,G'=.T #[O.agg,.I Q]/\aa.du a' (AA j 0) O λy=>aa.cC y (AA j 0) λf'=>R (.T #[f'.agg,.I Q]) y):Cl 163 #[p.agg] h R:=aS [(17,λ_=> .iZ (.op 1 (.op 2 (fC 3 4 (fC 12 8 (.op 0 (.op 3 (.op 7 (fC 3 20 .done)))))))))] Tryz.func163 hv
theorem Eb.walk (hv:bf h (.C x.arr 198) λb G'=>aE.NW G' λf b'=>aa.cC b' (AA b 0) λa8=>Cl 159 #[a8.agg,.I 2] b' λc0 q=> ∃T t a9 z,c0=.T #[.L T t a9,.I z]/\if(z !=0)then aE.du q (AA f 0) aE.S.z λg'=>aE.cC g' (AA f 0) λr0=>R (.T #[r0.agg,.I z]) g' else if(((t:Nat):Int) !=8)then aE.du q (AA f 0) aE.S.z λh'=>aE.cC h' (AA f 0) λa5=>R (.T #[a5.agg,.I 3]) h' else Bd 3 t/\aN T λa=>aa.cC q (a.add (toNat 3*4)) λb0=>Cl 160 #[b0.agg] q λc1 a2=>aw.EX λj'=> ∃k',c1=.T #[j'.agg,.I k']/\aw.NW a2 λr a3=>aw.du a3 (AA r 0) j' λi'=>Bd 5 t/\aN T λC'=>aa.cC i' (C'.add (toNat 5*4)) λb1=>Cl 160 #[b1.agg] i' λc4 a4=>aw.EX λl'=> ∃m',c4=.T #[l'.agg,.I m']/\aw.NW a4 λu H'=>aw.du H' (AA u 0) l' λk=>aG (λ(id:ct) (F':Int) (H:ai)=>Bd 1 t/\aN T λC=>gA H ((C.add (toNat 1*4)).add 1) λb2=>Bd 2 t/\aN T λD=>gA H ((D.add (toNat 2*4)).add 1) λb3=>aw.cC H (AA r 0) λn=>aw.cC H (AA u 0) λo=>aN id λD'=>ah.cC H D' λi=>Bd 7 t/\aN T λE=>gA H ((E.add (toNat 7*4)).add 1) λb4=>aE.NW H λw X=>Kp H X [(some ((E.add (toNat 7*4)).add 1)),id,(Sa u 0),(Sa r 0),(some ((D.add (toNat 2*4)).add 1)),(some ((C.add (toNat 1*4)).add 1))]/\aE.du X (AA w 0) ⟨b2,(wrap .i64 b3),n.f0,n.f1,n.f2,n.f3,n.f4,o.f0,o.f1,o.f2,o.f3,o.f4,i.f0,i.f1,i.f2,i.f3,i.f4,i.f5,i.f6,b4⟩ λZ=>aE.cC Z (AA w 0) λb5=>Cl 163 #[b5.agg] Z λc5 I'=>aa.EX λz'=> ∃A',c5=.T #[z'.agg,.I A']/\aa.NW I' λM J'=>aa.du J' (AA M 0) z' λg=>aG (λ(b8:Bool) (y:ai)=>if b8 then aE.du y (AA f 0) aE.S.z λa'=>aE.cC a' (AA f 0) λa6=>R (.T #[a6.agg,.I 3]) a' else aE.cC y (AA w 0) λb9=>aE.du y (AA f 0) b9 λc'=>aE.cC c' (AA f 0) λa7=>R (.T #[a7.agg,.I 0]) c') (λj=>if(k' !=0)then j true g else if(m' !=0)then j true g else if(F' !=0)then j true g else if(A' !=0)then j true g else aa.cC g (AA M 0) λb6=>aa.cC g (AA b 0) λb7=>Cl 164 #[b6.agg,b7.agg] g λc6 K'=> ∃B',c6=.B B'/\j (!B') K')) (λJ=>Bd 4 t/\aN T λF=>aa.cC k (F.add (toNat 4*4)) λn'=>Bd 6 t/\aN T λG=>aa.cC k (G.add (toNat 6*4)) λo'=>(bf k (.C (n'.l++o'.l).toArray 198) λO d'=>(Cl 162 #[.L (Sa O 0) 2 2] d' λc7 e'=>aa.EX λA=>c7=A.agg/\(Cl 161 #[A.agg] e' λc8 L'=>ah.EX λr'=> ∃v',c8=.T #[r'.agg,.I v']/\ah.NW L' λQ M'=>ah.du M' (AA Q 0) r' λO'=>J (Sa Q 0) v' O')/\(ah.NW e' λU P'=>Cl 161 #[A.agg] P' λc9 Q'=>ah.EX λs'=> ∃w',c9=.T #[s'.agg,.I w']/\ah.du Q' (AA U 0) s' λR'=>J (Sa U 0) w' R')/\True)/\(ah.NW d' λV S'=>Cl 162 #[.L (Sa O 0) 2 2] S' λd0 T'=>aa.EX λp'=>d0=p'.agg/\Cl 161 #[p'.agg] T' λd1 U'=>ah.EX λt'=> ∃x',d1=.T #[t'.agg,.I x']/\ah.du U' (AA V 0) t' λV'=>J (Sa V 0) x' V')/\True)/\(ah.NW k λI f'=>Kp k f' [(some (G.add (toNat 6*4))),(some (F.add (toNat 4*4)))]/\bf f' (.C (n'.l++o'.l).toArray 198) λE' X'=>Cl 162 #[.L (Sa E' 0) 2 2] X' λc2 Z'=>aa.EX λq'=>c2=q'.agg/\Cl 161 #[q'.agg] Z' λc3 a0=>ah.EX λu'=> ∃y',c3=.T #[u'.agg,.I y']/\ah.du a0 (AA I 0) u' λa1=>J (Sa I 0) y' a1)/\True)):Cl 115 #[x.agg] h R:=aS [(24,.join [(9,.one (.ptr)),(10,.one (.int .i64))]),(24,λ_=> .iZ (fC 6 0 (.alts (.fork 6 (.alts (.fork 7 (.alts (.fork 8 (fC 6 9 .done) (.fork 12 (fC 4 8 (.op 13 (.op 14 .done))) .gw))) (.fork 12 (fC 5 7 (.op 13 (.op 14 .done))) .gw))) (.fork 12 (fC 6 6 (.op 13 (.op 14 .done))) .gw))))),(26,λ_=>pK 19),(31,.join [(96,.one (.bool))])] Tryz.func115 hv
theorem IN.walk (H:if((wrap .u32 ((BitVec.ofInt (IntKind.bits .u32) s &&& BitVec.ofInt (IntKind.bits .u32) 1).toNat:Int))==1)then R (.int .u32 (wrap .u32 ((BitVec.ofInt (IntKind.bits .u32) (Int.fdiv s (2 ^ min (toNat 1) (IntKind.bits .u32))) ^^^ BitVec.ofInt (IntKind.bits .u32) P).toNat:Int))) h else R (.int .u32 (Int.fdiv s (2 ^ min (toNat 1) (IntKind.bits .u32)))) h):Cl 286 #[.int .u32 s,.int .u32 P] h R:=aS [] Tryz.func286 H
theorem Gz.walk{C:Int}(i: ∃(I:Int->Int->ai->Prop)(M:Int->Int->ai->Nat),I (wrap .u32 ((BitVec.ofInt (IntKind.bits .u32) s ^^^ BitVec.ofInt (IntKind.bits .u32) (wrap .u32 C)).toNat:Int)) 0 h/\∀(f:Int)(t:Int)(H:ai),I f t H->if(decide (t<8))then Cl 286 #[.int .u32 f,.int .u32 P] H λV g=> ∃T,V=.int .u32 T/\(I T (wrap .i64 (t+1)) g/\M T (wrap .i64 (t+1)) g<M f t H)else R (.int .u32 f) H):Cl 276 #[.int .u32 s,.int .u8 C,.int .u32 P] h R:=aS [(8,.loop [(0,.one (.int .u32)),(11,.one (.int .i64))])] Tryz.func276 i
theorem Oo.walk(i: ∃(I:Int->Int->ai->Prop)(M:Int->Int->ai->Nat),I s 0 h/\∀(f:Int)(t:Int)(H:ai),I f t H->if(decide (t<(B:Int)))then Bd t B/\aN d λa=>Ka H (a.add (toNat t*1)) λj=>Cl 276 #[.int .u32 f,.int .u8 j,.int .u32 P] H λV g=> ∃T,V=.int .u32 T/\(I T (wrap .i64 (t+1)) g/\M T (wrap .i64 (t+1)) g<M f t H)else R (.int .u32 f) H):Cl 254 #[.int .u32 s,.L d B e,.int .u32 P] h R:=aS [(6,.loop [(0,.one (.int .u32)),(11,.one (.int .i64))])] Tryz.func254 i
theorem IP.walk (f:Cl 254 #[.int .u32 65535,.L d B e,.int .u32 33800] h λV H=> ∃t,V=.int .u32 t/\R (.int .u16 (wrap .u16 ((BitVec.ofInt (IntKind.bits .u16) (IntKind.max .u16) ^^^ BitVec.ofInt (IntKind.bits .u16) (wrap .u16 t)).toNat:Int))) H):Cl 228 #[.L d B e] h R:=aS [] Tryz.func228 f
theorem LL.walk (f:Cl 254 #[.int .u32 4294967295,.L d B e,.int .u32 2197175160] h λV H=> ∃t,V=.int .u32 t/\R (.int .u32 (wrap .u32 ((BitVec.ofInt (IntKind.bits .u32) (IntKind.max .u32) ^^^ BitVec.ofInt (IntKind.bits .u32) t).toNat:Int))) H):Cl 229 #[.L d B e] h R:=aS [] Tryz.func229 f
theorem GA.walk{x:ah.S}(i:bf h (.C x.arr 82) λb f=>aw.cC f (AA b 0) λj=>Cl 29 #[j.agg] f λV H=> ∃T,V=.B T/\if T then∃g,Cc H b 5 (.U g)/\if(decide (g<=1099511627776))then∃t,Cc H b 6 (.U t)/\R (.B (decide (t<=1099511627776))) H else R (.B false) H else R (.B false) H):Cl 218 #[x.agg] h R:=aS [] Tryz.func218 i
theorem GC.walk{a:ah.S}{b:ah.S}(q:bf h (.C a.arr 82) λf n=>bf n (.C b.arr 82) λg H=>Hu H f 5 λA=> ∃k,Cc H g 5 (.U k)/\if(A !=k)then Hu H f 5 λr=> ∃t,Cc H g 5 (.U t)/\R (.B (decide (r<t))) H else Hu H f 6 λu=> ∃T,Cc H g 6 (.U T)/\if(u !=T)then Hu H f 6 λw=> ∃i,Cc H g 6 (.U i)/\R (.B (decide (w<i))) H else aw.cC H (AA f 0) λy=>aw.cC H (AA g 0) λz=>Cl 249 #[y.agg,z.agg] H λV o=> ∃j,V=.B j/\R (.B j) o):Cl 219 #[a.agg,b.agg] h R:=aS [] Tryz.func219 q
theorem GD.walk{x:ah.S}(O:bf h (.C x.arr 82) λb F=>aa.NW F λg r=>ah.cC r (AA b 0) λt6=>Cl 218 #[t6.agg] r λb' j=> ∃C,b'=.B C/\if(!C)then aa.du j (AA g 0) aa.S.z λt=>aa.cC t (AA g 0) λQ=>R (.T #[Q.agg,.I 3]) t else aw.cC j (AA b 0) λV=>Cl 205 #[V.agg] j λc' J=>aa.EX λT=> ∃u,c'=.T #[T.agg,.I u]/\aa.NW J λf M=>aa.du M (AA f 0) T λH=>aa.cC H (AA f 0) λX=>Hu H b 5 λZ=>Hu H b 6 λa'=>Cl 199 #[.U Z] H λd' k=>aa.EX λw=>d'=w.agg/\Kp H k [(Sa b 6),(Sa f 0)]/\Cl 199 #[.U a'] k λe' n=>aa.EX λy=>e'=y.agg/\Kp k n [(Sa f 0)]/\bf n (.C (w.l++y.l).toArray 198) λD i=>Kp n i [(Sa f 0)]/\Cl 162 #[.L (Sa D 0) 2 2] i λf' o=>aa.EX λz=>f'=z.agg/\Kp i o [(Sa f 0)]/\bf o (.C (X.l++z.l).toArray 198) λE G=>Cl 162 #[.L (Sa E 0) 2 2] G λg' I=>aa.EX λA=>g'=A.agg/\aa.du I (AA g 0) A λq=>aa.cC q (AA g 0) λU=>R (.T #[U.agg,.I u]) q):Cl 202 #[x.agg] h R:=aS [(13,λ_=> .iZ (fC 3 0 (.op 4 (.op 5 (.op 11 (.op 3 (fC 5 6 (.op 12 (.op 13 .done)))))))))] Tryz.func202 O
theorem IS.walk (hv:bf h (.C x.arr 198) λb b'=>ah.NW b' λg H=>aG (λ(r':Bool) (j:ai)=>if r' then ah.du j (AA g 0) ah.S.z λD=>ah.cC D (AA g 0) λr0=>R (.T #[r0.agg,.I 3]) D else Hl j b 3 λt' s' _=>Bd 0 s'/\aN t' λa=>aa.cC j (a.add (toNat 0*4)) λu'=>Cl 160 #[u'.agg] j λK' f'=>aw.EX λO=> ∃Q,K'=.T #[O.agg,.I Q]/\aw.NW f' λn g'=>aw.du g' (AA n 0) O λf=>aw.cC f (AA n 0) λt=>Hl f b 3 λw' v' _=>Bd 1 v'/\aN w' λA=>oL f ((A.add (toNat 1*4)).add 3) λy' x' _=>Bd 0 x'/\aN y' λr=>gA f ((r.add (toNat 0*4)).add 1) λz'=>Hl f b 3 λB' A' _=>Bd 1 A'/\aN B' λu=>oL f ((u.add (toNat 1*4)).add 3) λD' C' _=>Bd 1 C'/\aN D' λw=>gA f ((w.add (toNat 1*4)).add 1) λE'=>ah.NW f λo E=>Kp f E [(some ((w.add (toNat 1*4)).add 1)),(some ((u.add (toNat 1*4)).add 3)),(Sa b 3),(some ((r.add (toNat 0*4)).add 1)),(some ((A.add (toNat 1*4)).add 3)),(Sa b 3),(Sa n 0)]/\ah.du E (AA o 0) ⟨t.f0,t.f1,t.f2,t.f3,t.f4,z',E'⟩ λF=>ah.cC F (AA o 0) λF'=>Cl 202 #[F'.agg] F λL' c'=>aa.EX λU=> ∃V,L'=.T #[U.agg,.I V]/\aa.NW c' λy d'=>aa.du d' (AA y 0) U λi=>aG (λ(I':Bool) (q:ai)=>if I' then ah.du q (AA g 0) ah.S.z λz=>ah.cC z (AA g 0) λh'=>R (.T #[h'.agg,.I 3]) z else ah.cC q (AA o 0) λJ'=>ah.du q (AA g 0) J' λC=>ah.cC C (AA g 0) λi'=>R (.T #[i'.agg,.I 0]) C) (λk=>if(Q !=0)then k true i else if(V !=0)then k true i else aa.cC i (AA y 0) λG'=>aa.cC i (AA b 0) λH'=>Cl 164 #[G'.agg,H'.agg] i λM' e'=> ∃X,M'=.B X/\k (!X) e')) (λJ=> ∃T,Cc H b 0 (.I T)/\if(T !=4)then J true H else∃k' G j',Cc H b 3 (.L k' G j')/\if(((G:Nat):Int) !=2)then J true H else Hl H b 3 λm' l' _=>Bd 1 l'/\aN m' λZ=> ∃I,aU H (Z.add (toNat 1*4))=some (.I I)/\if(I !=4)then J true H else Hl H b 3 λo' n' _=>Bd 1 n'/\aN o' λa'=> ∃q' M p',aU H ((a'.add (toNat 1*4)).add 3)=some (.L q' M p')/\J (((M:Nat):Int) !=2) H)):Cl 161 #[x.agg] h R:=aS [(4,.join [(34,.one (.bool))]),(13,λ_=>pK 20),(18,.join [(78,.one (.bool))])] Tryz.func161 hv
theorem w6.walk{n:Int} (G:ah.NW h λb f=>aG (λ(i:ai)=>ah.cC i (AA m 0) λX=>ah.du i (AA b 0) X λk=>ah.cC k (AA b 0) λI=>R (.T #[I.agg,.I 0]) k) (λJ=>aG (λ(U:Bool) (H:ai)=>aG (λ(D:ai)=>J D) (λw=>if U then ah.du H (AA b 0) ah.S.z λo=>ah.cC o (AA b 0) λM=>R (.T #[M.agg,.I 6]) o else aG (λ(E:ai)=>w E) (λy=>if(decide (n>1099511627776))then ah.du H (AA b 0) ah.S.z λq=>ah.cC q (AA b 0) λO=>R (.T #[O.agg,.I 1]) q else Hu H m 5 λV=>aG (λ(F:ai)=>y F) (λj=>if(decide (n>V))then aJ H (AA m 5) (.U n) λz=>aJ z (AA m 6) (.U 0) λA=>j A else∃r,Cc H m 6 (.U r)/\if(decide (r≥1099511627776))then ah.du H (AA b 0) ah.S.z λg=>ah.cC g (AA b 0) λQ=>R (.T #[Q.agg,.I 5]) g else∃t,Cc H m 6 (.U t)/\aJ H (AA m 6) (.U (wrap .u64 (t+1))) λC=>j C)))) (λu=> ∃T,Cc f m 7 (.B T)/\u (!T) f))):Cl 184 #[.P m 0,.U n] h R:=aS [(3,.join []),(5,.join [(15,.one (.bool))]),(6,.join []),(12,.join []),(18,.join [])] Tryz.func184 G
theorem w9.walk{x:ah.S}(q:bf h (.C x.arr 82) λb k=>aG (λ(D:Bool) (g:ai)=>if D then R (.I 6) g else aG (λ(r:Bool) (H:ai)=>if r then R (.I 1) H else ah.cC H (AA m 0) λz=>ah.cC H (AA b 0) λA=>Cl 219 #[z.agg,A.agg] H λV i=> ∃n,V=.B n/\if(!n)then R (.I 7) i else ah.cC i (AA b 0) λC=>ah.du i (AA m 0) C λo=>R (.I 0) o) (λj=>ah.cC g (AA b 0) λu=>Cl 218 #[u.agg] g λF f=> ∃T,F=.B T/\if(!T)then j true f else aw.cC f (AA b 0) λw=>aw.cC f (AA m 0) λy=> ∃(E:Bool),BP Tryz.prog 29 (w.agg) (y.agg) E/\j (!E) f)) (λJ=> ∃t,Cc k m 7 (.B t)/\J (!t) k)):Cl 183 #[.P m 0,x.agg] h R:=aS [(5,.join [(5,.one (.bool))]),(11,.join [(15,.one (.bool))]),(11,λ_=>pK 14),(17,λ_=>pK 8)] Tryz.func183 q
theorem LM.walk{x:aw.S}(hv:bf h (.C x.arr 29) λb X=>aa.NW X λf n=>aw.cC n (AA b 0) λt5=>Cl 29 #[t5.agg] n λt' H=> ∃M,t'=.B M/\if(!M)then aa.du H (AA f 0) aa.S.z λq=>aa.cC q (AA f 0) λr0=>R (.T #[r0.agg,.I 3]) q else aw.cC H (AA b 0) λp'=> ∃(E:Bool),BP Tryz.prog 29 (p'.agg) (aw.S.z.agg) E/\if E then Cl 199 #[.U 1] H λu' i'=>aa.EX λt=>u'=t.agg/\Cl 199 #[.U 0] i' λy' j'=>aa.EX λT=>y'=T.agg/\bf j' (.C (t.l++T.l).toArray 198) λO k'=>Cl 162 #[.L (Sa O 0) 2 2] k' λz' l'=>aa.EX λu=>z'=u.agg/\aa.du l' (AA f 0) u λr=>aa.cC r (AA f 0) λm'=>R (.T #[m'.agg,.I 0]) r else∃w,Cc H b 0 (.B w)/\if w then Hu H b 1 λq'=>Hu H b 2 λr'=>Cl 199 #[.U 2] H λA' g=>aa.EX λy=>A'=y.agg/\Kp H g [(Sa b 2),(Sa b 1)]/\Cl 199 #[.U q'] g λB' i=>aa.EX λz=>B'=z.agg/\Kp g i [(Sa b 2)]/\Cl 199 #[.U r'] i λC' Z=>aa.EX λA=>C'=A.agg/\bf Z (.C (z.l++A.l).toArray 198) λQ a'=>Cl 162 #[.L (Sa Q 0) 2 2] a' λD' b'=>aa.EX λC=>D'=C.agg/\bf b' (.C (y.l++C.l).toArray 198) λU c'=>Cl 162 #[.L (Sa U 0) 2 2] c' λE' d'=>aa.EX λD=>E'=D.agg/\aa.du d' (AA f 0) D λj=>aa.cC j (AA f 0) λn'=>R (.T #[n'.agg,.I 0]) j else aw.cC H (AA b 0) λs'=>Cl 199 #[.U 1] H λF' k=>aa.EX λF=>F'=F.agg/\Kp H k [(Sa b 0)]/\Cl 233 #[s'.agg] k λv' e'=> ∃G,v'=.S G/\Cl 232 #[.S G] e' λw' f'=>aa.EX λI=>w'=I.agg/\bf f' (.C (F.l++I.l).toArray 198) λV g'=>Cl 162 #[.L (Sa V 0) 2 2] g' λx' h'=>aa.EX λJ=>x'=J.agg/\aa.du h' (AA f 0) J λo=>aa.cC o (AA f 0) λo'=>R (.T #[o'.agg,.I 0]) o):Cl 205 #[x.agg] h R:=aS [(20,λ_=> .iZ (.op 1 (.op 2 (.op 4 (.op 5 (.op 0 (.op 3 (fC 7 6 .done)))))))),(24,λ_=> .iZ (.op 1 (.op 0 (fC 6 2 .done))))] Tryz.func205 hv
theorem B5.walk{s:ByteArray}(D:aw.NW h λb y=>Cl 230 #[.S s,.S (⟨#[47,47]⟩:ByteArray)] y λV z=> ∃o q,V=.T #[.S o,.B q]/\Cl 231 #[.S o,.S (⟨#[47]⟩:ByteArray)] z λM A=> ∃T r u,M=.T #[.S T,.S r,.B u]/\aw.NW A λf C=>aw.du C (AA f 0) ⟨false,0,0,T,r⟩ λH=>aw.cC H (AA f 0) λt=>if q then if u then if(!(T.toList==ij.toList))then aw.cC H (AA f 0) λJ=>Cl 29 #[J.agg] H λO i=> ∃w,O=.B w/\Kp H i [(Sa f 0)]/\aw.du i (AA b 0) t λj=>aw.cC j (AA b 0) λE=>R (.T #[E.agg,.B w]) j else aw.du H (AA b 0) t λk=>aw.cC k (AA b 0) λF=>R (.T #[F.agg,.B false]) k else aw.du H (AA b 0) t λn=>aw.cC n (AA b 0) λG=>R (.T #[G.agg,.B false]) n else aw.du H (AA b 0) t λg=>aw.cC g (AA b 0) λI=>R (.T #[I.agg,.B false]) g):Cl 200 #[.S s] h R:=aS [(9,λ_=>pK 15)] Tryz.func200 D
theorem GF.walk{n:Int}(U:bf h (.C x.arr 198) λb g=>aG (λ(Z:Bool) (k:ai)=>if Z then R (.T #[.Z,.B false]) k else Hl k b 3 λa' C _=> ∃(I:ct->Nat->Nat->Int->ai->Prop)(M:ct->Nat->Nat->Int->ai->Nat),I none 0 0 0 k/\∀(j:ct)(O o:Nat)(t:Int)(H:ai),I j O o t H->if(decide (t<(C:Int)))then Bd t C/\aN a' λa=>aa.cC H (a.add (toNat t*4)) λb'=>aa.NW H λf G=>aa.du G (AA f 0) b' λi=>aa.cC i (AA f 0) λc'=>Hu i f 1 λd'=>Cl 199 #[.U d'] i λf' w=>aa.EX λD=>f'=D.agg/\Kp i w [(Sa f 0)]/\Cl 164 #[c'.agg,D.agg] w λg' q=> ∃E,g'=.B E/\if(!E)then R (.T #[.Z,.B false]) q else Hu q f 1 λe'=>bf q (.C #[.U e'] 27) λF Q=>aT Tryz.prog (Builtin.append_ #[311,311] 311 #[.L j O o,.L (Sa F 0) 1 1]) Q λh' y=> ∃u r T,h'=.L u r T/\(I u r T (wrap .i64 (t+1)) y/\M u r T (wrap .i64 (t+1)) y<M j O o t H)else R (.T #[.L j O o,.B true]) H) (λJ=> ∃z,Cc g b 0 (.I z)/\if(z !=4)then J true g else∃X A V,Cc g b 3 (.L X A V)/\J (((A:Nat):Int) !=n) g)):Cl 201 #[x.agg,.I n] h R:=aS [(4,.join [(18,.one (.bool))]),(16,.loop [(6,.one (.slice)),(22,.one (.int .i64))]),(29,λ_=>pK 6)] Tryz.func201 U
theorem Oq.walk (hv:bf h (.C x.arr 198) λb R'=>aw.NW R' λf f'=>aG (λ(b4:Bool) (H:ai)=>if b4 then aw.du H (AA f 0) aw.S.z λm'=>aw.cC m' (AA f 0) λr0=>R (.T #[r0.agg,.I 3]) m' else aG (λ(i:ct) (r:ct) (a4:ai)=>aw.NW a4 λn E=>aG (λ(ok:Bool) (F:ai)=>if(!ok)then aw.du F (AA f 0) aw.S.z λn'=>aw.cC n' (AA f 0) λa9=>R (.T #[a9.agg,.I 3]) n' else aw.cC F (AA n 0) λd4=>aw.du F (AA f 0) d4 λo'=>aw.cC o' (AA f 0) λb0=>R (.T #[b0.agg,.I 0]) o') (λG'=>aG (λ(b9:Bool) (o:ai)=>aG (λ(a5:Bool) (S':ai)=>G' a5 S') (λH'=>if b9 then aw.du o (AA f 0) aw.S.z λd'=>aw.cC d' (AA f 0) λb1=>R (.T #[b1.agg,.I 0]) d' else aG (λ(c2:Bool) (g:ai)=>aG (λ(a6:Bool) (T':ai)=>H' a6 T') (λU=>if c2 then aN r λa=>oL g (a.add 2) λc6 c5 c4=> ∃(B':ByteArray),xR Tryz.prog 33 9 (.L c6 c5 c4) g B'/\Cl 200 #[.S B'] g λd5 U'=>aw.EX λC'=> ∃D',d5=.T #[C'.agg,.B D']/\aw.du U' (AA n 0) C' λV'=>U D' V' else aN i λI'=>aa.cC g I' λc7=>Cl 199 #[.U 2] g λd6 e'=>aa.EX λE'=>d6=E'.agg/\Kp g e' [i]/\Cl 164 #[c7.agg,E'.agg] e' λd9 u=>Vb d9 λc8=>aG (λ(a7:Bool) (X':ai)=>U a7 X') (λV=>if c8 then aN r λJ'=>aa.cC u J' λc9=>Cl 201 #[c9.agg,.I 2] u λe0 q=> ∃G T d0 I,e0=.T #[.L G T d0,.B I]/\aG (λ(a8:Bool) (Z':ai)=>V a8 Z') (λX=>if I then Bd 0 T/\aN G λK'=>gA q (K'.add (toNat 0*1)) λd1=>Bd 1 T/\aN G λL'=>gA q (L'.add (toNat 1*1)) λd2=>aw.du q (AA n 0) ⟨true,d1,d2,ij,ij⟩ λg'=>aw.cC g' (AA n 0) λd3=>Cl 29 #[d3.agg] g' λe1 a0=> ∃F',e1=.B F'/\X F' a0 else X I q)else V false u))) (λQ=>aN i λM'=>aa.cC o M' λc3=>Cl 199 #[.U 1] o λe2 h'=>aa.EX λy'=>e2=y'.agg/\Kp o h' [i]/\Cl 164 #[c3.agg,y'.agg] h' λe3 w=> ∃z',e3=.B z'/\if z' then aN r λO'=> ∃A',aU w O'=some (.I A')/\Q (A'==3) w else Q false w))) (λO=>aN i λP'=>aa.cC E P' λc0=>Cl 199 #[.U 1] E λe4 i'=>aa.EX λu'=>e4=u'.agg/\Kp E i' [i]/\Cl 164 #[c0.agg,u'.agg] i' λe5 t=> ∃v',e5=.B v'/\if v' then aN r λQ'=>aa.cC t Q' λc1=>Cl 199 #[.U 0] t λe6 j'=>aa.EX λw'=>e6=w'.agg/\Kp t j' [r]/\Cl 164 #[c1.agg,w'.agg] j' λd7 a1=> ∃x',d7=.B x'/\O x' a1 else O false t))) (λM=>Hl H b 3 λb6 b5 _=>Bd 0 b5/\aN b6 λj=>aa.cC H (j.add (toNat 0*4)) λs'=>Hl H b 3 λb8 b7 _=>Bd 1 b7/\aN b8 λA=>aa.cC H (A.add (toNat 1*4)) λt'=>(aa.NW H λZ y=>Kp H y [(some (A.add (toNat 1*4))),(Sa b 3),(some (j.add (toNat 0*4))),(Sa b 3)]/\aa.NW y λa' z=>Kp y z [(some (A.add (toNat 1*4))),(Sa b 3),(some (j.add (toNat 0*4))),(Sa b 3)]/\aa.du z (AA Z 0) s' λk'=>Kp z k' [(some (A.add (toNat 1*4))),(Sa b 3)]/\aa.du k' (AA a' 0) t' λa2=>M (Sa Z 0) (Sa a' 0) a2)/\(aa.NW H λb' C=>Kp H C [(some (A.add (toNat 1*4))),(Sa b 3),(some (j.add (toNat 0*4))),(Sa b 3)]/\aa.NW C λc' D=>Kp C D [(some (A.add (toNat 1*4))),(Sa b 3),(some (j.add (toNat 0*4))),(Sa b 3)]/\aa.du D (AA c' 0) s' λl'=>Kp D l' [(some (A.add (toNat 1*4))),(Sa b 3)]/\aa.du l' (AA b' 0) t' λa3=>M (Sa c' 0) (Sa b' 0) a3)/\True)) (λJ=>aa.cC f' (AA b 0) λt9=>Cl 194 #[t9.agg] f' λd8 k=> ∃p',d8=.B p'/\if(!p')then J true k else∃q',Cc k b 0 (.I q')/\if(q' !=4)then J true k else∃b3 r' b2,Cc k b 3 (.L b3 r' b2)/\J (((r':Nat):Int) !=2) k)):Cl 160 #[x.agg] h R:=aS [(4,.join [(22,.one (.bool))]),(11,.join [(4,.one (.ptr)),(5,.one (.ptr))]),(11,λ_=> .iZ (fC 8 0 (.alts (.fork 8 (fC 3 9 .done) (.fork 9 (.op 8 (.op 10 (.op 11 .done))) .gw))))),(17,.join [(7,.one (.bool))]),(19,.join [(32,.one (.bool))]),(19,λ_=>pK 9),(20,.join [(7,.one (.bool))]),(25,.join [(42,.one (.bool))]),(25,λ_=>pK 9),(26,.join [(7,.one (.bool))]),(29,λ_=>pK 4),(30,.join [(7,.one (.bool))]),(37,.join [(7,.one (.bool))]),(39,λ_=>pK 8)] Tryz.func160 hv

end
section
namespace Bn
open Cb
open jG (Ev dt lC)
variable {h:ai} {R:fO}
variable {n s q c l:Nat} {p:ct} {B:cG}
theorem SA(H:n<4294967296):IntKind.wrap .u32 (n:Int)=(n:Int):=by
 have e:IntKind.wrap .u32 (n:Int)=(n:Int)%4294967296:=by simp[IntKind.wrap,IntKind.bits,IntKind.signed]
 rw[e];omega
theorem Ve(H:n<4294967296):(BitVec.ofInt (IntKind.bits .u32) (n:Int)).toNat=n:=by
 rw[BitVec.ofInt_natCast,BitVec.toNat_ofNat];exact Nat.mod_eq_of_lt H
theorem Ou{a b:Nat}(H:a<4294967296)(d:b<4294967296):IntKind.wrap .u32 ((BitVec.ofInt (IntKind.bits .u32) (a:Int) ^^^ BitVec.ofInt (IntKind.bits .u32) (b:Int)).toNat:Int)=((a ^^^ b:Nat):Int):=by
 rw[BitVec.toNat_xor,Ve H,Ve d];exact SA (Nat.xor_lt_two_pow (n:=32) H d)
theorem TX(H:s<4294967296):IntKind.wrap .u32 ((BitVec.ofInt (IntKind.bits .u32) (s:Int) &&& BitVec.ofInt (IntKind.bits .u32) 1).toNat:Int)=((s%2:Nat):Int):=by
 rw[BitVec.toNat_and,Ve H,show(BitVec.ofInt (IntKind.bits .u32) 1).toNat=1 from rfl,Nat.and_one_is_mod];exact SA ag
theorem SB(s:Nat):Int.fdiv (s:Int) (2 ^ min (Int.toNat 1) (IntKind.bits .u32))=((s/2:Nat):Int):=Om s 1
theorem LN(a:s<4294967296)(H:q<4294967296):pW s q<4294967296:=by
 unfold pW;split
 .exact Nat.xor_lt_two_pow (n:=32) (show s/2<2 ^ 32 by omega) H
 .omega
theorem Ov(b:s<4294967296)(a:q<4294967296)(H:R (.int .u32 (pW s q:Int)) h):Cl 286 #[.int .u32 (s:Int),.int .u32 (q:Int)] h R:=by
 refine IN.walk ?_;unfold pW at H;rw[TX b,SB,Ou ag a];by_cases c:s%2=1
 .rw[af (by rw[c];rfl)];rw[af c]at H;exact H
 .rw[ae (λe=>c (bW (eq_of_beq e)))];rw[ae c]at H;exact H
theorem AB(q:Nat): ∀(k s:Nat),rJ q (k+1) s=pW (rJ q k s) q
 |0,_=>rfl
 |k+1,s=>by
  show rJ q (k+1) (pW s q)=pW (rJ q k (pW s q)) q;exact AB q k _
theorem AD(a:q<4294967296): ∀(k s:Nat),s<4294967296->rJ q k s<4294967296
 |0,_,H=>H
 |k+1,s,H=>AD a k _ (LN H a)
theorem LO(a:s<4294967296)(j:c<256)(H:q<4294967296)(b:R (.int .u32 (RO s c q:Int)) h):Cl 276 #[.int .u32 (s:Int),.int .u8 (c:Int),.int .u32 (q:Int)] h R:=by
 have f:=Nat.xor_lt_two_pow (n:=32) (x:=s) (y:=c) a ag;refine Gz.walk ⟨λz t g=>g=h/\∃i:Nat,t=(i:Int)/\i<=8/\z=(rJ q i (s ^^^ c):Int),λ_ t _=>8 - t.toNat,⟨rfl,0,rfl,ag,?_⟩,?_⟩
 .rw[SA (n:=c) ag,Ou a ag];rfl
 rintro _ _ _ ⟨rfl,i,rfl,k,rfl⟩;have d:=AD H i (s ^^^ c) f;by_cases C:i<8
 .rw[gi];refine Ov d H ⟨_,rfl,?_⟩;rw[bJ ag ag,<-AB];exact⟨⟨rfl,i+1,ag,ag,rfl⟩,by show 8 - Int.toNat ((i:Int)+1)<8 - Int.toNat (i:Int);omega⟩
 .rw[ae (λe=>C (bW (aV e)))];obtain rfl:i=8:=ag
  exact b
theorem Ec(a:q<4294967296): ∀(b:cG)(s:Nat),s<4294967296->runN s b q<4294967296
 | [],_,H=>H
 |c::b,s,H=>Ec a b _ (AD a 8 _ (Nat.xor_lt_two_pow (n:=32) H (bW c.toNat_lt)))
theorem Ow(j:s<4294967296)(H:q<4294967296)(r:Row h p (bc B))(f:l=B.length)(m:B.length<=100000000)(d:R (.int .u32 (runN s B q:Int)) h):Cl 254 #[.int .u32 (s:Int),.L p l c,.int .u32 (q:Int)] h R:=by
 subst f;refine Oo.walk ⟨λz t g=>g=h/\∃i:Nat,t=(i:Int)/\i<=B.length/\z=(runN s (B.take i) q:Int),λ_ t _=>B.length - t.toNat,⟨rfl,0,rfl,ag,by rw[eV];rfl⟩,?_⟩;rintro _ _ _ ⟨rfl,i,rfl,k,rfl⟩;by_cases C:i<B.length
 .rw[gi];obtain⟨a,rfl,b⟩:=Cb.byte_at r C;refine⟨ag,ax.2 ⟨_,by rw[aH];exact b,LO (Ec H _ _ j) (B[i]).toNat_lt H ⟨_,rfl,?_⟩⟩⟩;rw[bJ ag ag];refine⟨⟨rfl,i+1,ag,ag,?_⟩,by show B.length - Int.toNat ((i:Int)+1)<B.length - Int.toNat (i:Int);omega⟩;rw[bO,aj C];unfold runN;rw[List.foldl_append];rfl
 .rw[ae (λe=>C (bW (aV e)))];rw[bE ag];exact d
theorem Ox(r:Row h p (bc B))(d:l=B.length)(f:B.length<=100000000)(H:R (.int .u16 (An B:Int)) h):Cl 228 #[.L p l c] h R:=by
 refine IP.walk (Ow (s:=65535) (q:=33800) dS dS r d f ⟨_,rfl,?_⟩);unfold An at H;generalize runN 65535 B 33800=z at H⊢;have e:IntKind.wrap .u16 (z:Int)=((z%65536:Nat):Int):=by
  have e:IntKind.wrap .u16 (z:Int)=(z:Int)%65536:=by simp[IntKind.wrap,IntKind.bits,IntKind.signed]
  rw[e];omega
 rw[e];have a:z%65536<65536:=ag
 generalize z%65536=y at H a⊢;have E:(BitVec.ofInt (IntKind.bits .u16) (IntKind.max .u16) ^^^ BitVec.ofInt (IntKind.bits .u16) (y:Int)).toNat=65535 ^^^ y:=by
  rw[BitVec.toNat_xor,BitVec.ofInt_natCast,BitVec.toNat_ofNat,show(BitVec.ofInt (IntKind.bits .u16) (IntKind.max .u16)).toNat=65535 from rfl,show(2:Nat) ^ IntKind.bits .u16=65536 from rfl,Nat.mod_eq_of_lt a]
 rw[E];have b:IntKind.wrap .u16 ((65535 ^^^ y:Nat):Int)=((65535 ^^^ y:Nat):Int):=by
  have g:=Nat.xor_lt_two_pow (n:=16) (x:=65535) (y:=y) dS ag;have e:IntKind.wrap .u16 ((65535 ^^^ y:Nat):Int)=((65535 ^^^ y:Nat):Int)%65536:=by simp[IntKind.wrap,IntKind.bits,IntKind.signed]
  rw[e];omega
 rw[b];exact H
theorem QF(r:Row h p (bc B))(a:l=B.length)(b:B.length<=100000000)(H:R (.int .u32 (ya B:Int)) h):Cl 229 #[.L p l c] h R:=by
 refine LL.walk (Ow (s:=4294967295) (q:=2197175160) dS dS r a b ⟨_,rfl,?_⟩);have:=Ou (a:=4294967295) (b:=runN 4294967295 B 2197175160) dS (Ec dS _ _ dS);rw[show(IntKind.max .u32)=((4294967295:Nat):Int)from rfl,this];exact H

end Bn
end
end Go.Proofs.YtkdgpmeojgokdaaGreatDoor
namespace Go.Den
theorem QG{P:Program}{S d e:TypeId}{h:ai}{s:ByteArray}{K:fO}(t:P.underlying S=some .string)(l:P.underlying d=some (.slice e))(m:P.underlying e=some (.int .u8))(o: ∀p c H,Row H p (bc s.data.toList)->s.size<=c->Fr No h H->(∀y,aP p y->h.size<=y)->K (.L p s.size c) H):aT P (convert S d (.S s)) h K:=by
 unfold convert;refine bY (s:=underlying S) (bM t) ?_;refine bY (s:=underlying d) (bM l) ?_;show aT P (underlying e>>=_) h K;refine bY (s:=underlying e) (bM m) ?_;show aT P (Conv.stringToBytes e s) h K;unfold Conv.stringToBytes;rw[dW];unfold choose;simp only[aT,Question.forced,ar,aQ,Question.cut];intro T;generalize x:s.size+T%(2 ^ 63 - s.size)=cap;have q:s.size<=cap:=ag
 generalize k:(s.data.map λb=>Value.int .u8 (b.toNat:Int))++Array.replicate (cap - s.size) (Value.int .u8 0)=C;have r: ∀j v,(bc s.data.toList)[j]? =some v->C[0+j]? =some v:=λj v f=>by
  have g:=(az.1 f).1;rw[kR,eZ]at g;rw[<-k,bK,dC (cR g),Array.getElem?_map,<-f];unfold bc;rw[aL,dv]
 show aT P (newRow e C>>=_) h K;rw[dW];show aT P (markStringish (AA h.size 0)>>=λ_=>pure (.L (Sa h.size 0) s.size cap)) (h.push (.C C e)) K;rw[dW];unfold markStringish shape;have u:wF (h.push (.C C e)) h.size=some (e,C.size):=by simp[wF]
 show aT P (match wF (h.push (.C C e)) h.size with|some (_,n)=>freeze { block:=h.size,off:=n } 1|_=>pure ()) (h.push (.C C e)) _;rw[u];show K (.L (Sa h.size 0) s.size cap) (uY (h.push (.C C e)) { block:=h.size,off:=C.size } 1);unfold uY;rw[dy];refine o _ _ _ (.inr ⟨_,rfl,gH (c:=C) (t:=e) (f:=if(0:Nat)==0 then(C.size,C.size+1)else(min 0 C.size,max 0 (C.size+1))) ?_ r⟩) q ⟨bU,λc w _=> ?_⟩ (λy ⟨A,E,i⟩=>by cases E;exact Nat.le_of_eq i)
 .rw[fN,af rfl,bZ];rfl
 .rw[fN,ae (by simp;omega),dY,dy]
end Go.Den
namespace Go.Proofs.YtkdgpmeojgokdaaGreatDoor
open Go.Den
namespace mi
variable {h H a : ai} {R : Value → ai → Prop}
theorem WA{s:ByteArray}{K:fO}(b: ∀p c H,Row H p (bc s.data.toList)->s.size<=c->Fr No h H->(∀y,aP p y->h.size<=y)->K (.L p s.size c) H):aT Tryz.prog (convert 9 33 (.S s)) h K:=QG uS uU u8 b
end mi
end Go.Proofs.YtkdgpmeojgokdaaGreatDoor
namespace Go.Proofs.YtkdgpmeojgokdaaGreatDoor
open Go.Den
open IntKind (wrap)
open Int (toNat)
section
variable {h:ai} {R:fO}
theorem Oy.walk{x:Bool}{X:Int}{a:Int}{c:ByteArray}{d:ByteArray} (e:bf h (.C #[.B x,.U X,.U a,.S c,.S d] 29) λb H=>Hs H b 3 λt=>(((⟨#[47,47]⟩:ByteArray).size+t.size:Nat):Int)<=IntKind.max .i64/\((((⟨#[47,47]⟩:ByteArray)++t).size+(⟨#[47]⟩:ByteArray).size:Nat):Int)<=IntKind.max .i64/\Hs H b 4 λT=>(((((⟨#[47,47]⟩:ByteArray)++t)++(⟨#[47]⟩:ByteArray)).size+T.size:Nat):Int)<=IntKind.max .i64/\R (.S ((((⟨#[47,47]⟩:ByteArray)++t)++(⟨#[47]⟩:ByteArray))++T)) H):Cl 233 #[.agg #[.B x,.U X,.U a,.S c,.S d]] h R:=aS [] Tryz.func233 e

end
section
namespace jG
variable {h:ai} {R:fO}
theorem sH(a b:cG):str a++str b=str (a++b):=by
 unfold str;apply ByteArray.ext
 rw[ByteArray.data_append];simp
theorem rR(a:cG):(str a).size=a.length:=by unfold str;rfl
theorem vL(s:ByteArray):s=str s.data.toList:=(ND s).symm
theorem oZ(s:ByteArray):s.data.toList.length=s.size:=by rw[eZ];rfl
theorem Vf:IntKind.max .i64=9223372036854775807:=rfl
theorem QH(x:Ev)(g:x.host.size<=1000)(i:x.jZ.size<=1000)(c: hH h R (.S (str ([47,47]++x.host.data.toList++ [47]++x.jZ.data.toList)))):Cl 233 #[lC x] h R:=by
 refine Oy.walk (aw.box λb a d H f=>⟨_,au H,?_⟩);have e:(⟨#[47,47]⟩:ByteArray)=str [47,47]:=rfl;have E:(⟨#[47]⟩:ByteArray)=str [47]:=rfl;have l:=oZ x.host;have L:=oZ x.jZ;have K:=c a f;rw[e,E,Vf];refine⟨?_,?_,_,au H,?_,?_⟩
 .rw[rR];simp;omega
 .rw[vL x.host,sH,rR,rR];simp;omega
 .rw[vL x.host,sH,sH,rR];simp;omega
 .rw[vL x.host,vL x.jZ,sH,sH,sH];exact K

end jG
end
section
namespace Cb
variable {h a H:ai} {R:fO} {D D':Nat→Prop}
abbrev CV.s(x:CV):aa.S:=⟨x.k,x.n,x.v.p,x.v.b.length,x.v.c,x.q,x.ll,x.cl⟩
abbrev nv(n:Nat):CV:=⟨0,n,⟨none,0, []⟩,none,0,0⟩
theorem tW.frame{Q:Nat->Prop}{t:Tr}{x:CV}(j:tW h D t x)(f:Fr Q h H)(e: ∀y,D y->¬Q y):tW H D t x:=by
 obtain⟨⟨A,b,c,d⟩,n,k,l,i,m⟩:=j;exact⟨⟨A,b,c,d.frame f e⟩,n,k,l.frame f (λy g=>e y (i y g)),i,dB.frame f (λy g=>e y g.1) m⟩
theorem tW.mono{t:Tr}{x:CV}(g:tW h D t x)(f: ∀y,D y->D' y):tW h D' t x:=by
 obtain⟨⟨A,b,c,d⟩,m,i,j,k,l⟩:=g;exact⟨⟨A,b,c,d.mono f⟩,m,i,j,λy e=>f y (k y e),dB.mono (λy e=>⟨f y e.1,e.2⟩) l⟩
abbrev Ed(h:ai)(t:Tr)(x:CV):Prop:=gP h (λ_=>True) t x
abbrev B7(h:ai)(t:List Tr)(x:List CV):Prop:=dB h (λ_=>True) t x
theorem gP.u{t:Tr}{x:CV}(b:gP h D t x):Ed h t x:=b.mono λ_ _=>trivial
theorem dB.u{t:List Tr}{x:List CV}(b:dB h D t x):B7 h t x:=b.mono λ_ _=>trivial
theorem tW.u{t:Tr}{x:CV}(b:tW h D t x):Ed h t x:=b.Tv.u
theorem dB.nil:dB h D [] []:=by unfold dB;trivial
theorem dB.cons{t:Tr}{y:CV}{T:List Tr}{c:List CV}(A:gP h D t y)(b:dB h D T c):dB h D (t::T) (y::c):=by unfold dB;exact⟨A,b⟩
theorem nA{n:Nat}:Ed h (num n) (nv n):=Sy.Tv
theorem two{t u:Tr}{x y:CV}(A:gP h D t x)(b:gP h D u y):dB h D [t,u] [x,y]:=.cons A (.cons b .nil)
theorem pc{ys:List CV}{K:Nat->ai->Prop}{c:Array Value}(f:c=(ys.flatMap iP).toArray)(g: ∀b H,b=h.size->(∀D,D b->mC H D (Sa b 0) ys.length ys.length ys)->Fr No h H->K b H):bf h (.C c 198) K:=by
 refine cT (g _ _ rfl (λD d=>⟨rfl,by rw[f];exact ju,λ_ y ⟨A,e,E⟩=>by cases e;rw[<-E];exact d,bp _⟩) (Fr.push _ _))
theorem pX{ts:List Tr}{ys:List CV}{c:Array Value}{l:Nat}(T:B7 h ts ys)(k:dJ ts<=100000000)(e:c=(ys.flatMap iP).toArray)(j:l=ys.length)(i: ∀H z,tW H (λy=>h.size<=y) (sS ts) z->Fr No h H->R z.agg H):
  bf h (.C c 198) λb g=>Cl 162 #[.L (Sa b 0) l l] g R:=by
 subst j;refine pc e λb m E L f=>km (L (λ_=>True) trivial) (T.on f) k λd z t F=>i d z (t.mono λy n=>bW f.1) (f.tt F)
theorem QI{s:ByteArray}(r: ∀H (v:BV),v.b=s.data.toList->v.ok H (λy=>h.size<=y)->Fr No h H->R (CV.agg ⟨3,0,v,none,0,0⟩) H):Cl 232 #[.S s] h R:=by
 refine LF.walk (aa.box λb z w i f=>mi.WA λp c o u j F n=>⟨_,_,_,rfl,aa.set (F.get i id) λd k l m=>aa.ld k ?_⟩);have g:Fr (λy=>y=b) o d:=Fr.of_eq l (λc j=>m c j);have Z:=f.1;have B:=aA i;have e:s.size=s.data.toList.length:=(jG.oZ s).symm;have O:BV.ok d (λy=>h.size<=y) ⟨p,c,s.data.toList⟩:=by
  refine⟨?_,λ_ y t=>bW (n y t),by show s.data.toList.length<=c;omega⟩;by_cases q:s.data.toList= []
  .show Row d p (bc s.data.toList);rw[q];exact Row.nil
  .exact u.frame g (λA E x=>bW (n A.block ⟨A,E,rfl⟩))
 have:=r d ⟨p,c,s.data.toList⟩ rfl O ((f.tt F).fresh g (λy e=>ag));unfold CV.agg iP BV.val at this;rw[e];exact this
end Cb
namespace Bn
open Cb
open jG (Ev dt lC)
variable {V : List UInt8 → Bool} {h a H : ai} {R : Value → ai → Prop} {D : Nat → Prop}
abbrev _root_.Go.Proofs.YtkdgpmeojgokdaaGreatDoor.jG.Ev.s(x:Ev):aw.S:=⟨x.lE,x.node,x.gL,x.host,x.jZ⟩
theorem fin{b:Nat}{y:aa.S}{z:CV}{t:Tr}{K:aa.S->ai->Prop}(e:aa.fD h b y)(T:tW h D t z)(c: ∀y,D y->y≠b)(i: ∀H,tW H D t z->Fr (λy=>y=b) h H->K z.s H):
  aa.du h (AA b 0) z.s λg=>aa.cC g (AA b 0) λr=>K r g:=
 aa.gX (x:=z.s) e λg d f _=>aa.fz d (i g (T.frame f c) f)
theorem Ee{b:Nat}{y:aa.S}{K:aa.S->ai->Prop}(c:aa.fD h b y)(e: ∀H,Fr (λy=>y=b) h H->K .z H):
  aa.du h (AA b 0) .z λg=>aa.cC g (AA b 0) λr=>K r g:=
 aa.gX c λg d f _=>aa.fz d (e g f)
theorem mZ(x:Ev)(b:dt x=true):room (BX x)<=200:=by
 unfold BX;split
 .simp[room,dJ]
 .rename_i z;split
  .simp[room,dJ]
  .rename_i c;unfold dt at b;rw[ae z,ae c]at b;simp only[aW,aY]at b;have:=jG.oZ x.host;have:=jG.oZ x.jZ;simp only[room,dJ,Gh,aB,bn,bG];omega
abbrev zv:CV:=⟨0,0,⟨none,0, []⟩,none,0,0⟩
theorem xa(x:Ev)(w1:0<=x.gL)(X:dt x=true->∀H z,tW H (λy=>h.size<=y) (BX x) z->Fr No h H->R (.T #[z.agg,.I 0]) H)(Z:dt x=false->hH h R (.T #[zv.agg,.I 3])):Cl 205 #[lC x] h R:=by
 refine LM.walk (x:=x.s) (aw.cW λa' h1 eb J p=>aa.cW λB h2 b' K m=>aw.fz (m.get J id) (jG.fM x λI f=>⟨_,rfl,?_⟩));have d:=(m.tt f).get J id;have L:=f.get K id;have o:=p.tt (m.tt f);have z1:=p.1;have j':=aA K;have z3:=f.1;have done: ∀g z,dt x=true->tW g (λy=>I.size<=y) (BX x) z->Fr No I g->aa.du g (AA B 0) z.s λc=>aa.cC c (AA B 0) λr0=>R (.T #[r0.agg,.I 0]) c:=λg z b tz G=>
  fin (G.get L id) tz (λy j e=>ag) λc t4 n=>X b c z (t4.mono λy j=>ag) ((o.tt G).fresh n (λy e=>ag))
 cases b:dt x with
 |false=>exact Ee L λc n=>Z b c (o.fresh n (λy e=>ag))
 |true=>
  have done:=λg z=>done g z b
  rw[dy];refine aw.fz d ⟨_,jG.yA (y:=.zero) (x:=x) rfl rfl,?_⟩;have E:room (BX x)<=200:=mZ x b;unfold BX at done E;unfold dt at b;by_cases z:x=.zero
  .rw[af (av z)];simp only[af z]at done;exact gC (n:=1) λh5 A=>aa.ex (nv 1).s ⟨rfl,gC (n:=0) λh6 C=>aa.ex (nv 0).s ⟨rfl,pX (two nA nA) (by simp[room,dJ]) rfl rfl λU y T P=>aa.ex y.s ⟨rfl,done U y (T.mono λy j=>iJ A.1 C.1) (A.tt (C.tt P))⟩⟩⟩
  rw[ae (cR z)];rw[ae z]at b;simp only[ae z]at done E;refine⟨_,au d,?_⟩;by_cases i:x.lE=true
  .rw[af i]at b⊢;simp only[af i]at done;have b:=aV b;have n1:x.node=(x.node.toNat:Int):=ag
   have n2:x.gL=(x.gL.toNat:Int):=ag
   refine⟨_,au d,_,au d,gC (n:=2) λc' F=>aa.ex (nv 2).s ⟨rfl,F.kp,?_⟩⟩;dsimp only;rw[n1];refine gC λd' k=>aa.ex (nv x.node.toNat).s ⟨rfl,k.kp,?_⟩
   rw[n2];refine gC λe' q=>aa.ex (nv x.gL.toNat).s ⟨rfl,pX (two nA nA) (by simp[room,dJ]) rfl rfl λf' y T r=>aa.ex y.s ⟨rfl,pX (ys:= [nv 2,y]) (two nA T.u) (by simp[room,dJ]) rfl rfl λQ u t M=>aa.ex u.s ⟨rfl,?_⟩⟩⟩
   exact done Q u (t.mono λy j=>by have:=F.1;have:=k.1;have:=q.1;have:=r.1;omega) (F.tt (k.tt (q.tt (r.tt M))))
  .rw[ae i]at b⊢;simp only[ae i]at done E;simp only[aW,aY]at b;refine aw.fz d (gC (n:=1) λg' l=>aa.ex (nv 1).s ⟨rfl,l.kp,jG.QH x ag ag λh' s=>⟨_,rfl,QI λi' v ev ov w=>aa.ex (CV.s ⟨3,0,v,none,0,0⟩) ⟨rfl,?_⟩⟩⟩);have ev:v.b=Gh x:=by rw[ev];unfold str;simp[Gh]
   refine pX (ts:= [num 1,.mk 3 0 (Gh x) []]) (ys:= [nv 1,⟨3,0,v,none,0,0⟩]) (two nA (ev▸CZ ov).u) (by simp only[room,bG]at E⊢;omega) rfl rfl λS u t O=>aa.ex u.s ⟨rfl,?_⟩
   exact done S u (t.mono λy j=>sQ l.1 s.1 w.1) (l.tt (s.tt (w.tt O)))
end Bn
end
section
namespace Bn
open Cb
open jG (Ev dt lC)
variable {V:cG→Bool} {h a H:ai} {R:fO} {D:Nat→Prop}
variable {b i o:Nat} {x:CV} {c:Array Value} {ts:List Tr} {t:Tr} {T:TypeId}
theorem Vg{l:List (ct)}(f:Fr (λy=>y=b) h H)(g: ∀p∈l,p.map (·.block)≠some b):Kp h H l:=f.Ts λp j x e d=>g p j (by rw[e];exact cf some d)
theorem IT{y:aw.S}{x:Ev}{K:aw.S->ai->Prop}(e:aw.fD h b y)(j: ∀H,Fr (λy=>y=b) h H->K x.s H):
  aw.du h (AA b 0) x.s λg=>aw.cC g (AA b 0) λr=>K r g:=
 aw.gX (x:=x.s) e λg d f _=>aw.fz d (j g f)
theorem SD(l:cG):(!((⟨l.toArray⟩:ByteArray).toList==ij.toList))= !l.isEmpty:=by
 rw[toList_data,toList_data];cases l<;>simp
theorem Ef{s:ByteArray}(M:nR.Mx h)(O:s.size<1000000)(C: hH h R (.T #[lC (yc s.data.toList),.B (vB s.data.toList)])):Cl 200 #[.S s] h R:=by
 refine B5.walk (aw.cW λb L J v F=>nR.Lt ⟨_,_,rfl,nR.Am (M.on F) ?_ ⟨_,_,_,rfl,aw.fK λI j K d m=>aw.fz d ?_⟩⟩)
 .show(Lib.trimPrefix s.data.toList _).length<_;have:=jG.oZ s;unfold Lib.trimPrefix;split
  .rw[bN];omega
  .omega
 have E:(⟨(Lib.trimPrefix s.data.toList (⟨#[47,47]⟩:ByteArray).data.toList).toArray⟩:ByteArray).data.toList=Lib.trimPrefix s.data.toList [47,47]:=bU
 rw[E]at d⊢;rw[show(⟨#[47]⟩:ByteArray).data.toList= [47]from rfl]at d⊢;rw[show(⟨#[47,47]⟩:ByteArray).data.toList= [47,47]from rfl];have z:(⟨false,0,0,⟨(Lib.cut (Lib.trimPrefix s.data.toList [47,47]) [47]).1.toArray⟩,⟨(Lib.cut (Lib.trimPrefix s.data.toList [47,47]) [47]).2.1.toArray⟩⟩:aw.S)=(yc s.data.toList).s:=rfl;rw[z]at d⊢;have Z:=F.1;have w:=F.tt m;have P:=aA v;have B:=m.get v id;have done: ∀g q,Fr No j g->q=vB s.data.toList->aw.du g (AA b 0) (yc s.data.toList).s λG=>aw.cC G (AA b 0) λr=>R (.T #[r.agg,.B q]) G:=λg q p e=>
  IT (p.get B id) λG f=>by rw[e];exact C G ((w.tt p).fresh f (λy e=>ag))
 rw[SD];cases k:Lib.hasPrefix s.data.toList [47,47]with
 |false=>exact done j _ (Fr.refl _ _) (by unfold vB;rw[k];rfl)
 |true=>
  rw[af rfl];cases l:(Lib.cut (Lib.trimPrefix s.data.toList [47,47]) [47]).2.2 with
  |false=>exact done j _ (Fr.refl _ _) (by unfold vB;rw[k,l];rfl)
  |true=>
   rw[af rfl];cases u:(Lib.cut (Lib.trimPrefix s.data.toList [47,47]) [47]).1.isEmpty with
   |true=>exact done j _ (Fr.refl _ _) (by unfold vB;rw[k,l,u];rfl)
   |false=>
    rw[af (show(!false)=true from rfl)];exact aw.fz d (jG.fM (yc s.data.toList) λA n=>⟨_,rfl,n.kp,done A _ n (by unfold vB;rw[k,l,u];rfl)⟩)
theorem t64:oC Tryz.prog 311 27 1 8 (.U 0):=⟨dA,dA,rfl⟩
theorem u64:Tryz.prog.underlying 311=some (.slice 27):=dA
abbrev nc(l:List Tr):List Value:=l.map λt=> .int .u64 (t.n:Int)
theorem elem{D:Nat->Prop}{q:ct}{l c:Nat}{d:List CV}(L:mC h D q l c d)(g:dB h D ts d)(k:i<ts.length): ∃(A:Addr)(y:CV),q=some A/\dN (A.add (i*4)) y.s.l 0 h/\gP h D (at_ ts i) y/\d[i]? =some y:=by
 have m:=g.len;have f:d[i]? =some (d[i]' ag):=aj _;obtain⟨t,j,T⟩:=g.get f;obtain⟨A,rfl⟩:=L.row.some (by intro e;have:=cf List.length e;rw[eL iP 4 gU,bG]at this;omega);refine⟨A,_,rfl,L.row.gB gU f,?_,f⟩;unfold at_;rw[bh,j];exact T
theorem jc(d:i<ts.length):room (at_ ts i)<=dJ ts:=by
 unfold at_;rw[bh,aj d];exact mY (dF d)
theorem GG(E:Ed h t x)(hr:room t<=1000000)(C:t.k=4->t.l.length=2->Ao t.l=true->∀H p c,Row H p (nc t.l)->Fr No h H->R (.T #[.L p 2 c,.B true]) H)(K: ¬(t.k=4/\t.l.length=2/\Ao t.l=true)->hH h R (.T #[.Z,.B false])):Cl 201 #[x.agg,.I 2] h R:=by
 have f':=E;cases t with
 |mk k d' b l=>
  simp only[room]at hr;have C:k=4->l.length=2->Ao l=true->∀H p c,Row H p (nc l)->Fr No h H->R (.T #[.L p 2 c,.B true]) H:=C;have K: ¬(k=4/\l.length=2/\Ao l=true)->∀H,Fr No h H->R (.T #[.Z,.B false]) H:=K;unfold gP at E;obtain⟨⟨rfl,rfl,rfl,e'⟩,ys,L,G⟩:=E;have ln:=G.len;have e0:=L.len;refine GF.walk (x:=x.s) (aa.cW λbb j eb z u=>aG.of λJ M=>⟨_,au z,?_⟩);have S: ¬(x.k=4/\l.length=2)->J true j:=λd=>by
   subst M;exact K (λe=>d ⟨e.1,e.2.1⟩) j u
  by_cases n:x.k=4
  case neg=>rw[af (cR n)];exact S (λe=>n e.1)
  rw[ae (cR n)];refine⟨_,_,_,au z,?_⟩;by_cases Q:l.length=2
  case neg=>rw[show((x.ll:Int) !=2)=true by simp only[dw,fj];omega];exact S (λe=>Q e.2)
  rw[show((x.ll:Int) !=2)=false by simp only[gu];omega];subst M;rw[dy];have sl:x.s.Fq=2:=by show x.ll=2;omega
  refine⟨_,_,_,au z,?_⟩;refine⟨λp len c t g=> ∃i:Nat,t=(i:Int)/\i<=2/\i=len/\Own g p i c 1 (nc (l.take i))/\(∀y,aP p y->j.size<=y)/\Fr No j g/\Ao (l.take i)=true,λ_ _ _ t _=>2 - t.toNat,⟨0,rfl,ag,rfl,by rw[eV];exact .nil rfl rfl rfl rfl,(λy ⟨A,e,_⟩=>by cases e),Fr.refl _ _,by rw[eV];rfl⟩,?_⟩;rintro p _ c _ g ⟨i,rfl,hi,rfl,O,U,F,d⟩;by_cases a':i<2
  .rw[gi];have s:=u.tt F;obtain⟨A,y,ea,hh,T,m⟩:=elem (L.frame s bX) (G.on s) (i:=i) ag;refine⟨⟨ag,by show _<(x.ll:Int);omega⟩,bT.2 ⟨A,ea,(aa.jQ (x:=y.s) (by rw[aH];exact hh) (aa.fK (x:=y.s) λb1 h5 c' B v=>aa.fz B ⟨_,au B,gC λh6 f=>aa.ex (nv y.n).s ⟨rfl,f.kp,?_⟩⟩))⟩⟩;have ra:=jc (ts:=l) (i:=i) ag;have I:l.take (i+1)=l.take i++ [at_ l i]:=by
    rw[bO];unfold at_;rw[bh,aj ag];rfl
   have Z:y.n=(at_ l i).n:=by
    revert T;generalize at_ l i=b';intro T;cases b';unfold gP at T;exact T.1.2.1
   refine jw (t:=at_ l i) (s:=num y.n) (x:=y) (y:=nv y.n) (T.on (v.tt f)) nA ag λh7 w=>⟨_,rfl,?_⟩
   rw[Z];cases q:oM (at_ l i) (num (at_ l i).n)with
   |false=>
    rw[gi];refine K (λe=> ?_) h7 (s.tt (v.tt (f.tt w)));have:=List.all_eq_true.1 e.2.2 (at_ l i) (by unfold at_;rw[bh,aj ag];exact dF _);rw[q]at this;cases this
   |true=>
    rw[dy];have r:=v.tt (f.tt w);refine⟨_,au ((f.tt w).get B id),jn t64 u64 (O.frame r bX) rfl (λg' P=>by simp at P;rw[P];rfl) ag ag λp2 c2 h9 X f9 g9=>⟨_,_,_,rfl,?_⟩⟩;rw[bJ (n:=(i:Int)+1) ag ag];refine⟨⟨i+1,ag,ag,ag,?_,λy m=> ?_,(F.tt r).fresh f9 (λy m=>U y m),?_⟩,by show 2 - Int.toNat ((i:Int)+1)<2 - Int.toNat (i:Int);omega⟩
    .rw[I,nc,ba];rw[show y.s.f1=((at_ l i).n:Int) by show(y.n:Int)=_;rw[Z]]at X;exact X
    .rcases g9 y m with A|A
     .exact U y A
     .have:=F.1;have:=r.1;omega
    .rw[I];unfold Ao at d⊢;rw[List.all_append,d];simp[q]
  .rw[ae (λe=>a' (bW (aV e)))];obtain rfl:i=2:=ag
   rw[bE ag]at d O;exact C n Q d g p c O.iz (u.tt F)
theorem gP.kn(d:gP h D t x):x.k=t.k/\x.n=t.n/\x.v.b=t.b/\x.ll=t.l.length/\x.v.ok h D/\∃y,mC h D x.q x.ll x.cl y/\dB h D t.l y:=by
 cases t with
 |mk k n b l=>
  unfold gP at d;obtain⟨⟨A,f,g,j⟩,y,L,e⟩:=d;exact⟨A,f,g,by rw[L.len,<-e.len];rfl,j,y,L,e⟩
theorem kY :dJ t.l+t.b.length+9=room t:=by cases t;simp only[room,Tr.l,Tr.b];omega
theorem TY{p:Addr}{n:Nat}(h:p.block≠b):(some (p.add n)).map Addr.block≠some b:=by
 simp only[dq,jU];exact λe=>h (aX e)
theorem Oz(U:kr V a)(c3:Fr No a h)(mx:nR.Mx h)(tx:Ed h t x)(hr:room t<=900000)(K: ∀e,oV V t=some e->hH h R (.T #[lC e,.I 0]))(k:oV V t=none->hH h R (.T #[lC .zero,.I 3])):Cl 160 #[x.agg] h R:=by
 obtain⟨xk,xn,xb,xl,xv,ys,L,TS⟩:=gP.kn tx;have rl:=kY (t:=t);refine Oq.walk (x:=x.s) (aa.cW λb h1 eb hb X=>aw.cW λb1 h2 d0 G' A=>aG.of λO' hJ=>aa.fz (A.get hb id) (fM U (c3.tt (X.tt A)) ((tx.on X).on A) ag λh3 Z=>⟨_,rfl,?_⟩));have z:=X.tt (A.tt Z);have a':=(A.tt Z).get hb id;have H':=Z.get G' id;have zb:=aA hb;have f0:=aA G';have z1:=X.1;have z2:=A.1;have z3:=Z.1;have bad:oV V t=none->O' true h3:=λhn=>by
  subst hJ;dsimp only;rw[af rfl];exact IT (x:=.zero) H' λg f=>k hn g (z.fresh f (λy e=>ag))
 cases hR:im V t with
 |false=>exact bad (by unfold oV;rw[ae (λe=>by rw[hR]at e;cases e.1)])
 |true=>
 rw[ae (show¬(!true)=true by decide)];refine⟨_,au a',?_⟩;have e4:x.s.f0=t.k:=xk;rw[e4];by_cases k4:t.k=4
 case neg=>rw[af (cR k4)];exact bad (by unfold oV;rw[ae (λe=>k4 e.2.1)])
 rw[ae (cR k4)];refine⟨_,_,_,au a',?_⟩;have el:x.s.Fq=t.l.length:=xl;rw[el];by_cases l2:t.l.length=2
 case neg=>rw[show((t.l.length:Int) !=2)=true by simp only[dw,fj];omega];exact bad (by unfold oV;rw[ae (λe=>l2 e.2.2)])
 rw[show((t.l.length:Int) !=2)=false by simp only[gu];omega];clear bad;subst hJ;dsimp only;rw[ae (show¬false=true by decide)];unfold oV at K k;rw[af ⟨hR,k4,l2⟩]at K k;obtain⟨a0,y0,Q',I',c',_⟩:=elem (L.frame z bX) (TS.on z) (i:=0) ag;obtain⟨a1,r,R',J',d',_⟩:=elem (L.frame z bX) (TS.on z) (i:=1) ag;have r0:=jc (ts:=t.l) (i:=0) ag;have r1:=jc (ts:=t.l) (i:=1) ag;generalize at_ t.l 0=O at c' r0 K k;generalize at_ t.l 1=d at d' r1 K k;refine aG.of λJ1 a8=>⟨_,_,_,au a',ag,bT.2 ⟨a0,Q',aa.jQ (x:=y0.s) I' ⟨_,_,_,au a',ag,bT.2 ⟨a1,R',aa.jQ (x:=r.s) J' ?_⟩⟩⟩⟩
 have K': ∀g v' t',aa.fD g v' y0.s->aa.fD g t' r.s->Fr No h3 g->J1 (Sa v' 0) (Sa t' 0) g:=by
  intro g v' t' hs b7 p;subst a8;have Fg:=z.tt p;have zg:=p.1;refine aw.cW λC v d1 p' l=>aG.of λS F'=>aG.of λJ3 a9=> ?_
  have s':=l.get hs id;have M:=l.get b7 id;have r':=(p.tt l).get H' id;have f1:=aA p';have Q:=Fg.tt l;have z6:=l.1;have C': ∀G e,aw.fD G C e.s->Fr (λy=>y=C) v G->(hH h R (.T #[lC e,.I 0]))->S true G:=λG e he f hk=>by
   subst F';rw[dy];exact aw.fz he (IT (f.get r' ag) λm F=>hk m ((Q.fresh f (λy e=>ag)).fresh F (λy e=>ag)))
  have b': ∀G,Fr (λy=>y=C) v G->(hH h R (.T #[lC .zero,.I 3]))->S false G:=λG f hk=>by
   subst F';rw[gi];exact IT (x:=.zero) (f.get r' ag) λm F=>hk m ((Q.fresh f (λy e=>ag)).fresh F (λy e=>ag))
  have L': ∀{G},Fr No v G->Fr (λy=>y=C) v G:=λf=>f.mono λ_ _=>False.elim
  obtain⟨c6,e8,c4,e7,c7,e9,L1,c8⟩:=gP.kn d';have e6:=kY (t:=d);have j3: ∀q G,Fr No v G->q=decide (oM O (num 1)=true/\oM d (num 0)=true)->J3 q G:=by
   intro q G f J;subst a9;refine aG.of λJ4 b0=> ?_
   cases q with
   |true=>
    rw[af rfl];have c:=aV J.symm;exact IT (x:=.zero) (f.get r' id) λm F=>K _ (by rw[af c]) m ((Q.tt f).fresh F (λy e=>ag))
   |false=>
    rw[dy];have c:=gh J.symm;rw[ae c]at K k;have b9:=f.get s' id;have e1:=f.get M id;refine aG.of λJ5 b2=>ax.2 (aa.fz b9 (gC (n:=1) λd5 j'=>aa.ex (nv 1).s ⟨rfl,j'.kp,jw (x:=y0) (y:=nv 1) (c'.on (p.tt (l.tt (f.tt j')))) nA ag λd6 Z'=>⟨_,rfl,?_⟩⟩))
    have j5: ∀q m,Fr No v m->q=decide (oM O (num 1)=true/\d.k=3)->J5 q m:=by
     intro q m F J;have c2:=F.get s' id;have b8:=F.get M id;have G7:=p.tt (l.tt F);subst b2;refine aG.of λJ6 b5=> ?_
     have j6: ∀q g,S q g->J6 q g:=λq g hh=>by subst b5;subst b0;exact hh
     cases q with
     |true=>
      rw[af rfl];have c5:=aV J.symm;rw[af c5]at K k;have ev:r.v.b=d.b:=c4;refine ax.2 ⟨_,_,_,au b8,str d.b,mi.conv (by rw[<-ev];exact(c7.frame G7 bX).row) (by show r.v.b.length=_;rw[ev]),Ef (mx.on (Q.tt F)) (by rw[jG.rR];omega) λd2 A'=> ?_⟩;have ed:(str d.b).data.toList=d.b:=by unfold str;simp
      rw[ed];refine aw.ex (yc d.b).s ⟨_,rfl,aw.gX (x:=(yc d.b).s) ((F.tt A').get p' id) λD' P' U' _=>j6 _ _ ?_⟩;have w':=Fr.no (F.tt A') U';cases j:vB d.b with
      |true=>exact C' D' _ P' w' (K _ (by rw[af j]))
      |false=>exact b' D' w' (k (by rw[ae (by rw[j];decide)]))
     |false=>
      rw[dy];have c5:=gh J.symm;rw[ae c5]at K k;refine ax.2 (aa.fz c2 (gC (n:=2) λd3 h'=>aa.ex (nv 2).s ⟨rfl,h'.kp,jw (x:=y0) (y:=nv 2) (c'.on (G7.tt h')) nA ag λa4 V'=>⟨_,rfl,aG.of λJ7 b6=> ?_⟩⟩));have j7: ∀q g,S q g->J7 q g:=λq g hh=>by subst b6;exact j6 _ _ hh
      have B:=F.tt (h'.tt V');cases e2:oM O (num 2)with
      |false=>
       rw[dy];exact j7 _ _ (b' a4 (L' B) (k (by rw[ae (by rw[e2];decide)])))
      |true=>
       rw[af rfl];rw[af e2]at K k;refine ax.2 (aa.fz (B.get M id) (GG (d'.on (p.tt (l.tt B))) ag (λq4 q2 qn E' M' c u' i'=>⟨_,_,_,_,rfl,aG.of λJ8 o'=> ?_⟩) (λqn E' i'=>⟨_,_,_,_,rfl,aG.of λJ8 o'=> ?_⟩)))
       .rw[af rfl];have n0:(nc d.l)[0]? =some (.U ((at_ d.l 0).n:Int)):=by unfold nc at_;rw[aL,bh,aj ag];rfl
        have n1:(nc d.l)[1]? =some (.U ((at_ d.l 1).n:Int)):=by unfold nc at_;rw[aL,bh,aj ag];rfl
        obtain⟨c9,rfl⟩:=u'.some (by intro e;rw[e]at n0;cases n0);have c0:=u'.cell n0;have c1:=u'.cell n1;have x':=B.tt i';refine⟨ag,ax.2 ⟨_,by rw[show Int.toNat 0*1=0 from rfl];exact c0,ag,ax.2 ⟨_,by rw[show Int.toNat 1*1=1 from rfl];exact c1,aw.gX (x:=(Oc d).s) (x'.get p' id) λd4 z' X' _=>aw.fz z' (jG.fM (Oc d) λm' B'=>⟨_,rfl,?_⟩)⟩⟩⟩;have y':Fr (λy=>y=C) v m':=(Fr.no x' X').on B';subst o';refine j7 _ _ ?_;cases j:dt (Oc d)with
        |true=>exact C' m' _ (B'.get z' id) y' (K _ (by rw[af ⟨q4,q2,qn,j⟩]))
        |false=>exact b' m' y' (k (by rw[ae (λe=>by rw[j]at e;cases e.2.2.2)]))
       .rw[dy];subst o';exact j7 _ _ (b' E' (L' (B.tt i')) (k (by rw[ae (λe=>qn ⟨e.1,e.2.1,e.2.2.1⟩)])))
    have e':=f.tt (j'.tt Z');cases E:oM O (num 1)with
    |false=>
     rw[dy];exact j5 _ _ e' (by rw[E];simp)
    |true=>
     rw[af rfl];refine ax.2 ⟨_,au (e'.get M id),j5 _ _ e' ?_⟩;rw[show r.s.f0=d.k from c6,E];by_cases q:d.k=3<;>simp[q]
  refine ax.2 (aa.fz s' (gC (n:=1) λd7 k'=>aa.ex (nv 1).s ⟨rfl,k'.kp,jw (x:=y0) (y:=nv 1) (c'.on (p.tt (l.tt k'))) nA ag λd8 a2=>⟨_,rfl,?_⟩⟩));have P:=k'.tt a2;cases E:oM O (num 1)with
  |false=>
   rw[dy];exact j3 _ _ P (by rw[E];simp)
  |true=>
   rw[af rfl];refine ax.2 (aa.fz (P.get M id) (gC (n:=0) λd9 l'=>aa.ex (nv 0).s ⟨rfl,l'.kp,jw (x:=r) (y:=nv 0) (d'.on (p.tt (l.tt (P.tt l')))) nA ag λe0 a3=>⟨_,rfl,?_⟩⟩));exact j3 _ _ (P.tt (l'.tt a3)) (by rw[E];simp)
 have e3:a0.block<h3.size:=by
  have:=I'.1;have:=nZ this;rwa[jU,jU]at this
 have e5:a1.block<h3.size:=by
  have:=J'.1;have:=nZ this;rwa[jU,jU]at this
 refine⟨aa.cW λb3 a5 S' w n=>⟨n.kp,aa.cW λb4 a6 T' q' s=>⟨s.kp,aa.gX (x:=y0.s) (s.get w id) λa7 f' u _=>⟨Vg u ?_,aa.gX (x:=r.s) (u.get q' (bW (aA w))) λn' g' I _=> ?_⟩⟩⟩,
  aa.cW λb3 a5 S' w n=>⟨n.kp,aa.cW λb4 a6 T' q' s=>⟨s.kp,aa.gX (x:=y0.s) q' λa7 f' u _=>⟨Vg u ?_,aa.gX (x:=r.s) (u.get (s.get w id) (bW (aA w))) λn' g' I _=> ?_⟩⟩⟩,trivial⟩
 .intro M' j;simp only[bg,cN,fx]at j;rcases j with rfl|rfl
  .exact TY ag
  .simp only[dq];intro e;have:=aX e;omega
 .have:=aA w;have:=n.1;exact K' n' b3 b4 (I.get f' ag) g' (((n.tt s).fresh u (λy e=>ag)).fresh I (λy e=>ag))
 .intro M' j;simp only[bg,cN,fx]at j;have:=n.1;rcases j with rfl|rfl
  .exact TY ag
  .simp only[dq];intro e;have:=aX e;omega
 .have:=aA w;have:=n.1;exact K' n' b4 b3 (I.get f' ag) g' (((n.tt s).fresh u (λy e=>ag)).fresh I (λy e=>ag))
abbrev jm.s(x:jm):ah.S:=⟨x.e.lE,x.e.node,x.e.gL,x.e.host,x.e.jZ,x.tm,x.sq⟩
theorem iT(x:Ev){K:aw.S->Prop}(d:h[b]? =some (.C c T (0,0)))(a:c[o]? =some (.B x.lE))(e:c[o+1]? =some (.U x.node))(f:c[o+2]? =some (.U x.gL))(g:c[o+3]? =some (.S x.host))(j:c[o+4]? =some (.S x.jZ))(k:K x.s):aw.cC h (AA b o) K:=
 ⟨_,cB d a,_,cB d e,_,cB d f,_,cB d g,_,cB d j,k⟩
theorem AE(x:jm){K:ah.S->Prop}(d:h[b]? =some (.C c T (0,0)))(a:c[o]? =some (.B x.e.lE))(e:c[o+1]? =some (.U x.e.node))(f:c[o+2]? =some (.U x.e.gL))(g:c[o+3]? =some (.S x.e.host))(j:c[o+4]? =some (.S x.e.jZ))(k:c[o+5]? =some (.U (x.tm:Int)))(l:c[o+6]? =some (.U (x.sq:Int)))(m:K x.s):ah.cC h (AA b o) K:=
 ⟨_,cB d a,_,cB d e,_,cB d f,_,cB d g,_,cB d j,_,cB d k,_,cB d l,m⟩
theorem Eh{y:ah.S}(x:jm){K:ah.S->ai->Prop}(e:ah.fD h b y)(j: ∀H,Fr (λy=>y=b) h H->K x.s H):
  ah.du h (AA b 0) x.s λg=>ah.cC g (AA b 0) λr=>K r g:=
 ah.gX (x:=x.s) e λg d f _=>ah.fz d (j g f)
theorem kZ(n m:Nat):decide ((n:Int)<=(m:Int))=decide (n<=m):=by by_cases e:n<=m<;>simp[e]<;>omega
theorem sI(x:jm)(d: hH h R (.B (hU x))):Cl 218 #[x.s.agg] h R:=by
 refine GA.walk (ah.cW λb p n e F=>iT x.e e rfl rfl rfl rfl rfl (jG.fM x.e λm f=>⟨_,rfl,?_⟩));have g:=f.get e id;have d:=d m (F.tt f);unfold hU at d;cases j:dt x.e with
 |false=>rw[j]at d;exact d
 |true=>
  rw[j]at d;rw[af rfl];refine⟨_,au g,?_⟩;have E:decide ((x.s.f5:Int)<=1099511627776)=decide (x.tm<=1099511627776):=kZ x.tm 1099511627776;have l:decide ((x.s.f6:Int)<=1099511627776)=decide (x.sq<=1099511627776):=kZ x.sq 1099511627776;rw[E];cases k:decide (x.tm<=1099511627776)with
  |false=>rw[k]at d;exact d
  |true=>
   rw[k]at d;rw[af rfl];refine⟨_,au g,?_⟩;rw[l];exact d
theorem C2(x:jm)(X:0<=x.e.gL)(O:hU x=true->∀H z,tW H (λy=>h.size<=y) (Od x) z->Fr No h H->R (.T #[z.agg,.I 0]) H)(P:hU x=false->hH h R (.T #[zv.agg,.I 3])):Cl 202 #[x.s.agg] h R:=by
 refine GD.walk (ah.cW λb h1 eb A n=>aa.cW λZ h2 a' B j=>ah.fz (x:=x.s) (j.get A id) (sI x λh3 g=>⟨_,rfl,?_⟩));have l:=(j.tt g).get A id;have C:=g.get B id;have m:=n.tt (j.tt g);have z1:=n.1;have h':=aA B;have z3:=g.1;cases d:hU x with
 |false=>exact Ee C λJ G=>P d J (m.fresh G (λy e=>ag))
 |true=>
  have v:dt x.e=true:=by unfold hU at d;simp only[aW]at d;exact d.1.1
  rw[dy];refine iT x.e l rfl rfl rfl rfl rfl (xa x.e X (λ_ h5 z U f=>aa.ex z.s ⟨_,rfl,aa.fK (x:=z.s) λb2 h7 b' K k=>aa.fz K ⟨_,au ((f.tt k).get l id),_,au ((f.tt k).get l id),?_⟩⟩) (λe=>by rw[v]at e;cases e));refine gC λh8 s=>aa.ex (nv x.tm).s ⟨rfl,s.kp,gC λh9 u=>aa.ex (nv x.sq).s ⟨rfl,u.kp,pc (ys:= [nv x.tm,nv x.sq]) rfl λb3 d' c' L p=>⟨p.kp,km (L (λ_=>True) trivial) (two nA nA) (by simp[room,dJ]) λe' y T q=>aa.ex y.s ⟨rfl,q.kp,?_⟩⟩⟩⟩
  have F:=k.tt (s.tt (u.tt (p.tt q)));have er:=mZ x.e v;refine pX (ys:= [z,y]) (two (U.u.on F) T.u) (by simp only[room,dJ,bG];omega) rfl rfl λf' w S r=>aa.ex w.s ⟨rfl,?_⟩
  have z5:=f.1;have g':=F.1;exact fin ((f.tt (F.tt r)).get C id) S (λy M e=>ag) λI Q E=>O d I w (Q.mono λy M=>ag) ((m.tt (f.tt (F.tt r))).fresh E (λy e=>ag))
theorem AF{x:jm}(h:hU x=true):dt x.e=true/\x.tm<=1099511627776/\x.sq<=1099511627776:=by
 unfold hU at h;simp only[aW,aY]at h;exact⟨h.1.1,h.1.2,h.2⟩
theorem vM{e:Ev}(h:oV V t=some e):0<=e.gL/\dt e=true:=by
 unfold oV at h;split at h
 .split at h
  .cases h;decide
  .split at h
   .split at h
    .rename_i d;cases h;unfold vB at d;simp only[aW]at d;exact⟨by show(0:Int)<=0;omega,d.2⟩
    .cases h
   .split at h
    .split at h
     .rename_i d;cases h;exact⟨by show(0:Int)<=((_:Nat):Int);omega,d.2.2.2⟩
     .cases h
    .cases h
 .cases h
theorem GH(x:jm)(h:hU x=true):room (Od x)<=300:=by
 have:=mZ x.e (AF h).1;simp only[Od,room,dJ,bG];omega
def EQ(V:cG->Bool)(t:Tr)(e:Ev)(q:Int):Prop:=(q=0->oV V t=some e)/\(q≠0->oV V t=none)/\0<=e.gL
theorem Ei(U:kr V a)(u:Fr No a h)(m:nR.Mx h)(k:Ed h t x)(j:room t<=900000)(g: ∀e q,EQ V t e q->hH h R (.T #[e.s.agg,.I q])):Cl 160 #[x.agg] h R:=
 Oz U u m k j (λe d H f=>g e 0 ⟨λ_=>d,λq=>absurd rfl q,(vM d).1⟩ H f) (λd H f=>g .zero 3 ⟨λq=>absurd q dS,λ_=>d,dS⟩ H f)
theorem Kk(x:jm)(w:0<=x.e.gL)(g: ∀H z q,(q=0->Ed H (Od x) z)->(q=0↔hU x=true)->Fr No h H->R (.T #[z.s.agg,.I q]) H):Cl 202 #[x.s.agg] h R:=
 C2 x w (λd H z j f=>g H z 0 (λ_=>j.u) ⟨λ_=>d,λ_=>rfl⟩ f) (λd H f=>g H zv 3 (λe=>absurd e dS) ⟨λe=>absurd e dS,λe=>by rw[d]at e;cases e⟩ f)
theorem GI(U:kr V a)(z':Fr No a h)(mx:nR.Mx h)(tx:Ed h t x)(hr:room t<=900000)(K: ∀e,ke V t=some e->hH h R (.T #[e.s.agg,.I 0]))(k:ke V t=none->hH h R (.T #[jm.zero.s.agg,.I 3])):Cl 161 #[x.agg] h R:=by
 obtain⟨xk,xn,xb,xl,xv,ys,L,TS⟩:=gP.kn tx;have rl:=kY (t:=t);refine IS.walk (x:=x.s) (aa.cW λb h1 eb hb f1=>ah.cW λb1 q F' Z S=>aG.of λJ s=> ?_);have F:=f1.tt S;have d:=S.get hb id;have zb:=aA hb;have O':=aA Z;have z1:=f1.1;have z2:=S.1;have bad:ke V t=none->J true q:=λhn=>by
  subst s;dsimp only;rw[af rfl];exact Eh .zero Z λg f=>k hn g (F.fresh f (λy e=>ag))
 have e4:x.s.f0=t.k:=xk;have el:x.s.Fq=t.l.length:=xl;refine⟨_,au d,?_⟩;rw[e4];by_cases B:t.k=4
 case neg=>rw[af (cR B)];exact bad (by unfold ke;rw[ae (λe=>B e.1)])
 rw[ae (cR B)];refine⟨_,_,_,au d,?_⟩;rw[el];by_cases l2:t.l.length=2
 case neg=>rw[af (by simp only[dw,fj];omega)];exact bad (by unfold ke;rw[ae (λe=>l2 e.2.1)])
 rw[ae (by simp only[dw,fj];omega)];obtain⟨a0,y0,l',r',h',_⟩:=elem (L.frame F bX) (TS.on F) (i:=0) ag;obtain⟨A,I,E,g',i',_⟩:=elem (L.frame F bX) (TS.on F) (i:=1) ag;obtain⟨j',D',C',k',L',M',L1,O⟩:=gP.kn i';have c0:aU q (A.add (Int.toNat 1*4))=some (.I I.k):=by have:=g'.1;rwa[fy]at this
 have P:aU q ((A.add (Int.toNat 1*4)).add 3)=some (.L I.q I.ll I.cl):=g'.2.2.2.1;have r0:=jc (ts:=t.l) (i:=0) ag;have r1:=jc (ts:=t.l) (i:=1) ag;refine⟨_,_,_,au d,ag,bT.2 ⟨A,E,_,c0,?_⟩⟩;rw[j'];by_cases w:(at_ t.l 1).k=4
 case neg=>rw[af (cR w)];exact bad (by unfold ke;rw[ae (λe=>w e.2.2.1)])
 rw[ae (cR w)];refine⟨_,_,_,au d,ag,bT.2 ⟨A,E,_,_,_,P,?_⟩⟩;rw[k'];by_cases l3:(at_ t.l 1).l.length=2
 case neg=>rw[show(((((at_ t.l 1).l.length:Nat):Int)) !=2)=true by simp only[dw,fj];omega];exact bad (by unfold ke;rw[ae (λe=>l3 e.2.2.2)])
 rw[show(((((at_ t.l 1).l.length:Nat):Int)) !=2)=false by simp only[gu];omega];clear bad;subst s;dsimp only;rw[ae (show¬false=true by decide)];unfold ke at K k;rw[af ⟨B,l2,w,l3⟩]at K k;generalize J':at_ t.l 0=t0 at h' r0 K k;generalize K':at_ t.l 1=t1 at i' r1 K k j' D' C' k' O w l3;refine⟨_,_,_,au d,ag,bT.2 ⟨a0,l',aa.jQ (x:=y0.s) r' (Ei U (z'.tt F) (mx.on F) h' ag λe w' ⟨u',v',we⟩ g fg=>aw.ex e.s ⟨_,rfl,?_⟩)⟩⟩;obtain⟨p0,w0,m',u,x',_⟩:=elem L1 O (i:=0) ag;obtain⟨p1,w1,n',v,y',_⟩:=elem L1 O (i:=1) ag;obtain⟨_,A',_⟩:=gP.kn x';obtain⟨_,B',_⟩:=gP.kn y';have u:aU q ((p0.add (Int.toNat 0*4)).add 1)=some (.U (w0.n:Int)):=u.2.1;have v:aU q ((p1.add (Int.toNat 1*4)).add 1)=some (.U (w1.n:Int)):=v.2.1;rw[A']at u;rw[B']at v;obtain⟨n,s'⟩: ∃n,(at_ t1.l 0).n=n:=⟨_,rfl⟩;obtain⟨l,t'⟩: ∃l,(at_ t1.l 1).n=l:=⟨_,rfl⟩;rw[s']at u K k;rw[t']at v K k;refine aw.fK (x:=e.s) λb2 h7 G' p' f7=>aw.fz p' ?_
 have G:=fg.tt f7;refine⟨_,_,_,au (G.get d id),ag,bT.2 ⟨A,E,_,_,_,G.cell P id,ag,bT.2 ⟨p0,m',_,G.cell u id,_,_,_,au (G.get d id),ag,bT.2 ⟨A,E,_,_,_,G.cell P id,ag,bT.2 ⟨p1,n',_,G.cell v id,?_⟩⟩⟩⟩⟩;refine ah.cW λb3 h8 H' f' z=>⟨z.kp,ah.gX (x:=(⟨e,n,l⟩:jm).s) f' λh9 d9 X _=>ah.fz d9 ?_⟩
 have z7:=f7.1;have z8:=z.1;have zg:=fg.1;have P':=aA f';have z9:=X.1;have G9:Fr (λy=>y=b3) q h9:=Fr.no (G.tt z) X;have M:Fr No h h9:=(F.tt (G.tt z)).fresh X (λy e=>ag);refine Kk ⟨e,n,l⟩ we λg2 a' q2 hw hq o'=>aa.ex a'.s ⟨_,rfl,?_⟩
 refine aa.fK (x:=a'.s) λb4 r I' q' b'=>aG.of λJ s=> ?_
 have m:=o'.tt b';have e': ∀{g},Fr No r g->ah.fD g b1 .z:=λfq=>fq.get (m.get (G9.get Z ag) id) id
 have no: ∀j,Fr No r j->(hH h R (.T #[jm.zero.s.agg,.I 3]))->J true j:=λj p hk=>by
  subst s;try dsimp only
  rw[af rfl];exact Eh .zero (e' p) λg f=>hk g ((M.tt (m.tt p)).fresh f (λy e=>ag))
 have E': ∀j,Fr No r j->(hH h R (.T #[(⟨e,n,l⟩:jm).s.agg,.I 0]))->J false j:=λj p hk=>by
  subst s;try dsimp only
  rw[dy];exact ah.fz ((m.tt p).get d9 id) (Eh ⟨e,n,l⟩ (e' p) λg f=>hk g ((M.tt (m.tt p)).fresh f (λy e=>ag)))
 by_cases C:w'=0
 case neg=>rw[af (cR C)];exact no r (Fr.refl _ _) (k (by rw[v' C]))
 rw[ae (cR C)];rw[u' C]at K k;dsimp only at K k;by_cases Q:q2=0
 case neg=>rw[af (cR Q)];exact no r (Fr.refl _ _) (k (by rw[ae (λe=>Q (hq.2 e.1))]))
 rw[ae (cR Q)];have hI:=hq.1 Q;have rI:=GH _ hI;refine aa.fz q' (aa.fz (x:=x.s) (m.get (G9.get d ag) id) (jw (x:=a') (y:=x) ((hw Q).on b') (tx.on (M.tt m)) ag λd' c'=>⟨_,rfl,?_⟩));cases hs:oM (Od ⟨e,n,l⟩) t with
 |true=>exact E' d' c' (K _ (by rw[af ⟨hI,hs⟩]))
 |false=>exact no d' c' (k (by rw[ae (λe=>by rw[hs]at e;cases e.2)]))
theorem uy{x:jm}(h:ke V t=some x):0<=x.e.gL:=by
 unfold ke at h;split at h
 .split at h
  .cases h
  .rename_i e d;split at h
   .cases h;exact(vM d).1
   .cases h
 .cases h
def IQ(V:cG->Bool)(t:Tr)(x:jm)(q:Int):Prop:=(q=0->ke V t=some x)/\(q≠0->ke V t=none)/\0<=x.e.gL
theorem Ej(U:kr V a)(u:Fr No a h)(m:nR.Mx h)(k:Ed h t x)(j:room t<=900000)(g: ∀e q,IQ V t e q->hH h R (.T #[e.s.agg,.I q])):Cl 161 #[x.agg] h R:=
 GI U u m k j (λe d H f=>g e 0 ⟨λ_=>d,λq=>absurd rfl q,uy d⟩ H f) (λd H f=>g .zero 3 ⟨λq=>absurd q dS,λ_=>d,dS⟩ H f)

end Bn
end
section
variable {h:ai} {R:fO}
variable {x:aF.S}
theorem Ek.walk{a:aF.S}{b:aF.S}(o:bf h (.C a.arr 35) λB n=>bf n (.C b.arr 35) λc H=>Hu H B 0 λI=> ∃m,Cc H c 0 (.U m)/\if(I==m)then Hi H B 1 λp=> ∃t,Cc H c 1 (.I t)/\if(p==t)then aw.cC H (AA B 2) λq=>aw.cC H (AA c 2) λr=> ∃(e:Bool),BP Tryz.prog 29 (q.agg) (r.agg) e/\if e then aw.cC H (AA B 7) λs=>aw.cC H (AA c 7) λu=> ∃(eq_1:Bool),BP Tryz.prog 29 (s.agg) (u.agg) eq_1/\if eq_1 then Hi H B 12 λw=> ∃T,Cc H c 12 (.I T)/\if(w==T)then Hi H B 13 λy=> ∃f,Cc H c 13 (.I f)/\if(y==f)then Hi H B 14 λz=> ∃g,Cc H c 14 (.I g)/\if(z==g)then Hl H B 15 λD C A=>Hl H c 15 λG F E=>Cl 35 #[.L D C A,.L G F E] H λv d=> ∃i,v=.B i/\if i then Hu d B 16 λJ=> ∃j,Cc d c 16 (.U j)/\if(J==j)then Hu d B 17 λK=> ∃k,Cc d c 17 (.U k)/\if(K==k)then Hb d B 18 λL=> ∃l,Cc d c 18 (.B l)/\R (.B (L==l)) d else R (.B false) d else R (.B false) d else R (.B false) d else R (.B false) H else R (.B false) H else R (.B false) H else R (.B false) H else R (.B false) H else R (.B false) H else R (.B false) H):Cl 34 #[a.agg,b.agg] h R:=aS [] Tryz.func34 o
theorem GJ.walk (hv:bf h (.C x.arr 35) λb F=>aF.NW F λv g=>Hu g b 0 λt5=>Hi g b 1 λt7=>aF.NW g λB a'=>aF.du a' (AA B 0) ⟨t5,t7,false,0,0,ij,ij,false,0,0,ij,ij,0,0,0,none,0,0,0,0,false⟩ λi=>Hi i b 1 λt=>aG (λ(z:ai)=>aF.cC z (AA B 0) λt'=>aF.du z (AA v 0) t' λA=>aF.cC A (AA v 0) λr0=>R (r0.agg) A) (λJ=>aG (λ(d':Bool) (c:ai)=>aG (λ(c':ai)=>J c') (λm=>if d' then aw.cC c (AA b 2) λe'=>Hi c b 12 λf'=>aw.du c (AA B 2) e' λC=>Kp c C [(Sa b 12)]/\aJ C (AA B 12) (.I f') λG=>m G else aG (λ(g':Bool) (H:ai)=>aG (λ(I:ai)=>m I) (λo=>if g' then aw.cC H (AA b 2) λh'=>aw.du H (AA B 2) h' λK=>o K else aG (λ(L:ai)=>o L) (λp=>if(t==4)then aw.cC H (AA b 2) λi'=>aw.cC H (AA b 7) λj'=>Hl H b 15 λm' l' k'=>Hu H b 16 λn'=>Hb H b 18 λo'=>aw.du H (AA B 2) i' λd=>Kp H d [(Sa b 18),(Sa b 16),(Sa b 15),(Sa b 7)]/\aw.du d (AA B 7) j' λe=>Kp d e [(Sa b 18),(Sa b 16),(Sa b 15)]/\aJ e (AA B 15) (.L m' l' k') λf=>Kp e f [(Sa b 18),(Sa b 16)]/\aJ f (AA B 16) (.U n') λw=>Kp f w [(Sa b 18)]/\aJ w (AA B 18) (.B o') λM=>p M else aG (λ(p':Bool) (a:ai)=>aG (λ(O:ai)=>p O) (λr=>if p' then∃T,Cc a b 13 (.I T)/\aJ a (AA B 13) (.I T) λP=>r P else aG (λ(Q:ai)=>r Q) (λs=>if(t==7)then aw.cC a (AA b 2) λr'=>Hi a b 14 λs'=>aw.du a (AA B 2) r' λy=>Kp a y [(Sa b 14)]/\aJ y (AA B 14) (.I s') λS=>s S else aG (λ(U:ai)=>s U) (λu=>if(t==10)then∃D,Cc a b 18 (.B D)/\aJ a (AA B 18) (.B D) λV=>u V else aG (λ(X:ai)=>u X) (λk=>if(t==12)then∃E,Cc a b 17 (.U E)/\aJ a (AA B 17) (.U E) λZ=>k Z else k a))))) (λq=>if(t==5)then q (t==5) H else aG (λ(q':Bool) (b':ai)=>q q' b') (λl=>if(t==8)then l (t==8) H else l (t==9) H))))) (λn=>if(t==2)then n (t==2) c else n (t==6) c))) (λj=>if(t==1)then j (t==1) i else j (t==3) i))):Cl 78 #[x.agg] h R:=aS [(7,.join []),(11,.join [(11,.one (.bool))]),(14,.join []),(15,λ_=>pK 8),(19,.join [(20,.one (.bool))]),(22,.join []),(26,.join []),(27,λ_=>pK 20),(31,.join [(43,.one (.bool))]),(35,.join [(43,.one (.bool))]),(38,.join []),(42,.join []),(43,λ_=>pK 8),(46,.join []),(50,.join [])] Tryz.func78 hv
theorem AG.walk{x:aw.S}(c:bf h (.C x.arr 29) λb a=>aw.cC a (AA b 0) λT=>Cl 29 #[T.agg] a λv H=> ∃t,v=.B t/\if t then aw.cC H (AA b 0) λd=> ∃(e:Bool),BP Tryz.prog 29 (d.agg) (aw.S.z.agg) e/\R (.B (!e)) H else R (.B false) H):Cl 123 #[x.agg] h R:=aS [] Tryz.func123 c
theorem B9.walk (I:bf h (.C x.arr 35) λb g=>Hi g b 1 λt=>aG (λ(S:Bool) (f:ai)=>if S then aw.cC f (AA b 2) λZ=>Cl 123 #[Z.agg] f λa' d=> ∃T,a'=.B T/\if T then∃m,Cc d b 12 (.I m)/\if(decide (m≥0))then∃n,Cc d b 12 (.I n)/\R (.B (decide (n<=2))) d else R (.B false) d else R (.B false) d else aG (λ(K:Bool) (a:ai)=>if K then aw.cC a (AA b 2) λL=>Cl 123 #[L.agg] a λb' G=> ∃o,b'=.B o/\R (.B o) G else if(t==4)then aw.cC a (AA b 2) λM=>Cl 123 #[M.agg] a λc' i=> ∃p,c'=.B p/\if p then aw.cC i (AA b 7) λO=>Cl 123 #[O.agg] i λd' c=> ∃q,d'=.B q/\if q then∃Q r P,Cc c b 15 (.L Q r P)/\if(decide (((r:Nat):Int)<=200))then∃s,Cc c b 16 (.U s)/\if(decide (s≥1))then∃u,Cc c b 16 (.U u)/\R (.B (decide (u<=1099511627776))) c else R (.B false) c else R (.B false) c else R (.B false) c else R (.B false) i else aG (λ(U:Bool) (H:ai)=>if U then∃v,Cc H b 13 (.I v)/\if(decide (v≥1))then∃w,Cc H b 13 (.I w)/\R (.B (decide (w<=1099511627776))) H else R (.B false) H else if(t==7)then aw.cC H (AA b 2) λX=>Cl 123 #[X.agg] H λe' e=> ∃y,e'=.B y/\if y then∃z,Cc e b 14 (.I z)/\if(decide (z≥1))then∃A,Cc e b 14 (.I A)/\R (.B (decide (A<=1000))) e else R (.B false) e else R (.B false) e else if(t==12)then∃B,Cc H b 17 (.U B)/\if(decide (B≥1))then∃C,Cc H b 17 (.U C)/\R (.B (decide (C<=2147483648))) H else R (.B false) H else∃D,Cc H b 1 (.I D)/\if(D==10)then R (.B true) H else∃E,Cc H b 1 (.I E)/\R (.B (E==11)) H) (λk=>if(t==5)then k (t==5) a else aG (λ(V:Bool) (F:ai)=>k V F) (λl=>if(t==8)then l (t==8) a else l (t==9) a))) (λj=>if(t==2)then j (t==2) f else j (t==6) f)) (λJ=>if(t==1)then J (t==1) g else J (t==3) g)):Cl 77 #[x.agg] h R:=aS [(9,.join [(5,.one (.bool))]),(19,.join [(21,.one (.bool))]),(35,.join [(53,.one (.bool))]),(39,.join [(53,.one (.bool))])] Tryz.func77 I
theorem Ca.walk(i:bf h (.C x.arr 35) λb H=> ∃f,Cc H b 0 (.U f)/\if(decide (f≥1))then∃g,Cc H b 0 (.U g)/\if(decide (g<=1099511627776))then aF.cC H (AA b 0) λj=>Cl 77 #[j.agg] H λv a=> ∃t,v=.B t/\Kp H a [(Sa b 0),(Sa b 0)]/\if t then aF.cC a (AA b 0) λk=>aF.cC a (AA b 0) λl=>Cl 78 #[l.agg] a λV c=>aF.EX λT=>V=T.agg/\Kp a c [(Sa b 0),(Sa b 0),(Sa b 0)]/\Cl 34 #[k.agg,T.agg] c λm d=> ∃e,m=.B e/\Kp c d [(Sa b 0),(Sa b 0)]/\R (.B e) d else R (.B false) a else R (.B false) H else R (.B false) H):Cl 56 #[x.agg] h R:=aS [(3,λ_=>pK 19)] Tryz.func56 i

end
section
namespace Ask
open jG (Ev dt lC)
open Bn (iT)
variable {h H g:ai} {R:fO} {p q:ct} {c d:Nat}
variable {b:Nat} {y:aF.S} {x:aw.S} {K:ai->Prop}
abbrev Rq.s(x:Rq)(p:ct)(c:Nat):aF.S:=⟨x.id,x.kind,x.ep.lE,x.ep.node,x.ep.gL,x.ep.host,x.ep.jZ,x.dest.lE,x.dest.node,x.dest.gL,x.dest.host,x.dest.jZ,x.lV,x.num,x.ja,p,x.mh.length,c,x.fT,x.token,x.on⟩
theorem pd{P:Prop}{b:Bool}(a:b=true->P)(e:b=false->P):P:=by cases b;exact e rfl;exact a rfl
theorem GK(x y:Rq)(O:Row h p (bc x.mh))(P:Row h q (bc y.mh))(D: hH h R (.B (decide (x=y)))):Cl 34 #[(x.s p c).agg,(y.s q d).agg] h R:=by
 refine Ek.walk (aF.cW λb U S M J=>aF.cW λQ f T i B=> ?_);have j:=B.get M id;have F:=J.tt B;have k: ∀g,Fr No h g->x≠y->R (.B false) g:=λg L e=>by have:=D g L;rw[aC e]at this;exact this
 have I: ∀(a b:Int)(m n:Nat),a=m->b=n->m≠n->¬(a==b)=true:=λa b m n E G e=>by rw[E,G];simp only[df];omega
 refine⟨_,au j,_,au i,?_⟩;by_cases C:x.id=y.id
 case neg=>rw[ae (I _ _ _ _ rfl rfl C)];exact k f F (λe=>C (by rw[e]))
 rw[af (by show((x.id:Int)==(y.id:Int))=true;rw[C];simp)];refine⟨_,au j,_,au i,?_⟩;by_cases r:x.kind=y.kind
 case neg=>rw[ae (by show¬(x.kind==y.kind)=true;simpa using r)];exact k f F (λe=>r (by rw[e]))
 rw[af (by show(x.kind==y.kind)=true;simpa using r)];refine iT x.ep j rfl rfl rfl rfl rfl (iT y.ep i rfl rfl rfl rfl rfl ⟨_,jG.yA (x:=x.ep) (y:=y.ep) rfl rfl,?_⟩);by_cases s:x.ep=y.ep
 case neg=>rw[ae (cR s)];exact k f F (λe=>s (by rw[e]))
 rw[af (cR s)];refine iT x.dest j rfl rfl rfl rfl rfl (iT y.dest i rfl rfl rfl rfl rfl ⟨_,jG.yA (x:=x.dest) (y:=y.dest) rfl rfl,?_⟩);by_cases t:x.dest=y.dest
 case neg=>rw[ae (cR t)];exact k f F (λe=>t (by rw[e]))
 rw[af (cR t)];refine⟨_,au j,_,au i,?_⟩;by_cases u:x.lV=y.lV
 case neg=>rw[ae (by show¬(x.lV==y.lV)=true;simpa using u)];exact k f F (λe=>u (by rw[e]))
 rw[af (by show(x.lV==y.lV)=true;simpa using u)];refine⟨_,au j,_,au i,?_⟩;by_cases v:x.num=y.num
 case neg=>rw[ae (by show¬(x.num==y.num)=true;simpa using v)];exact k f F (λe=>v (by rw[e]))
 rw[af (by show(x.num==y.num)=true;simpa using v)];refine⟨_,au j,_,au i,?_⟩;by_cases w:x.ja=y.ja
 case neg=>rw[ae (by show¬(x.ja==y.ja)=true;simpa using w)];exact k f F (λe=>w (by rw[e]))
 rw[af (by show(x.ja==y.ja)=true;simpa using w)];refine⟨_,_,_,au j,_,_,_,au i,Cb.kx (O.frame F bX) (P.frame F bX) rfl rfl ⟨_,rfl,?_⟩⟩;by_cases z:x.mh=y.mh
 case neg=>rw[ae (cR z)];exact k f F (λe=>z (by rw[e]))
 rw[af (cR z)];refine⟨_,au j,_,au i,?_⟩;by_cases A:x.fT=y.fT
 case neg=>rw[ae (I _ _ _ _ rfl rfl A)];exact k f F (λe=>A (by rw[e]))
 rw[af (by show((x.fT:Int)==(y.fT:Int))=true;rw[A];simp)];refine⟨_,au j,_,au i,?_⟩;by_cases l:x.token=y.token
 case neg=>rw[ae (I _ _ _ _ rfl rfl l)];exact k f F (λe=>l (by rw[e]))
 rw[af (by show((x.token:Int)==(y.token:Int))=true;rw[l];simp)];refine⟨_,au j,_,au i,?_⟩;have:=D f F;have e:decide (x=y)=(x.on==y.on):=by
  by_cases o:x.on=y.on
  .have:x=y:=by cases x;cases y;simp only at C r s t u v w z A l o;simp[C,r,s,t,u,v,w,z,A,l,o]
   rw[av this,o];simp
  .rw[aC (λe=>o (by rw[e]))];simpa using o
 rw[e]at this;exact this
theorem pf(e:Ev)(a: hH h R (.B (mL e))):Cl 123 #[e.s.agg] h R:=by
 refine AG.walk (aw.cW λb k E j F=>aw.fz (x:=e.s) j (jG.fM e λi f=>⟨_,rfl,?_⟩));unfold mL at a;cases C:dt e with
 |false=>rw[C]at a;rw[dy];exact a i (F.tt f)
 |true=>rw[C]at a;rw[af rfl];exact aw.fz (x:=e.s) (f.get j id) ⟨_,jG.yA (x:=e) (y:=.zero) rfl rfl,a i (F.tt f)⟩
theorem QJ(i:aF.fD h b y)(k: ∀H,aF.fD H b { y with f2:=x.f0,f3:=x.f1,f4:=x.f2,f5:=x.f3,f6:=x.f4 } ->Fr (λy=>y=b) h H->K H):aw.du h (AA b 2) x K:=
 (show dV (AA b 2) x.l 0 h K from lP (off:=2) (ws:=aF.S.l { y with f2:=x.f0,f3:=x.f1,f4:=x.f2,f5:=x.f3,f6:=x.f4 }) i (by show 2+5<=19;omega) rfl rfl λf D a e=>k f D (Fr.of_eq a λc j=>e c j))
theorem SE(i:aF.fD h b y)(k: ∀H,aF.fD H b { y with f7:=x.f0,f8:=x.f1,f9:=x.f2,f10:=x.f3,f11:=x.f4 } ->Fr (λy=>y=b) h H->K H):aw.du h (AA b 7) x K:=
 (show dV (AA b 7) x.l 0 h K from lP (off:=7) (ws:=aF.S.l { y with f7:=x.f0,f8:=x.f1,f9:=x.f2,f10:=x.f3,f11:=x.f4 }) i (by show 7+5<=19;omega) rfl rfl λf D a e=>k f D (Fr.of_eq a λc j=>e c j))
theorem rT{i:Nat}{z:aF.S}{v:Value}(j:aF.fD h b y)(l:i<19)(n:y.arr.setIfInBounds i v=z.arr)(m: ∀H,aF.fD H b z->Fr (λy=>y=b) h H->K H):aJ h (AA b i) v K:=
 bk j l λf D a e=>m f (by unfold aF.fD;rw[<-n];exact D) (Fr.of_eq a λc k=>e c k)
theorem OA{B:Nat}{l:List (ct)}(f:Fr (λy=>y=B) h H)(n:b≠B)(i: ∀p∈l,p.map (·.block)=some b):Kp h H l:=f.Ts λp j x e a=>n (by have:=i p j;rw[e]at this;exact(aX this).symm.trans a)
theorem bq{n k:Int}:((n==k)=true↔n=k):=df
theorem IJ(x:Rq)(rx:Row h p (bc x.mh))(hk: ∀H P C,Row H P (bc (rO x).mh)->Fr No h H->R ((rO x).s P C).agg H):Cl 78 #[(x.s p c).agg] h R:=by
 refine GJ.walk (aF.cW λb h1 eb S U=>aF.cW λb1 h2 l' b' u=>⟨_,au (u.get S id),_,au (u.get S id),aF.fK (x:=(jz x).s none 0) λM D m' n V=> ?_⟩);have i:=(u.tt V).get S id;have F4:=U.tt (u.tt V);have zb:=aA S;have o':=aA b';have z1:=U.1;have z2:=u.1;have A:b≠M:=ag
 have n':b1≠M:=ag
 refine⟨_,au i,aG.of λe' hJ=>aG.of λJ1 f'=> ?_⟩;have fin: ∀g P C,aF.fD g M ((rO x).s P C)->Row h P (bc (rO x).mh)->Fr (λy=>y=M) D g->e' g:=by
  intro g P C hg hr fg;have Fg:Fr No h2 g:=V.fresh fg (λy e=>ag);have d':=(U.tt u).tt Fg;subst hJ;refine aF.fz hg (aF.gX (x:=(rO x).s P C) (Fg.get b' id) λh6 d6 F _=>aF.fz d6 ?_);have G6:=d'.fresh F (λy e=>ag);exact hk h6 P C (hr.frame G6 bX) G6
 have t:Row h none (bc []):=Row.nil;have key: ∀v,(v=true↔x.kind=1\/x.kind=3)->J1 v D:=by
  intro v o;subst f';dsimp only;refine aG.of λJ2 m=> ?_
  by_cases k:x.kind=1\/x.kind=3
  .have E:rO x= { jz x with ep:=x.ep,lV:=x.lV } :=af k;rw[E]at fin;rw[af (o.2 k)];exact iT x.ep i rfl rfl rfl rfl rfl ⟨_,au i,QJ n λG j f=>⟨OA f A bU,rT (z:=({ jz x with ep:=x.ep,lV:=x.lV } :Rq).s none 0) j dS rfl λO B F=>by subst m;exact fin O none 0 B t (f.tt F)⟩⟩
  rw[ae (λe=>k (o.1 e))];refine aG.of λJ3 h'=> ?_
  have c': ∀v,(v=true↔x.kind=2\/x.kind=6)->J3 v D:=by
   intro v o;subst h';dsimp only;refine aG.of λJ4 s=> ?_
   by_cases a:x.kind=2\/x.kind=6
   .have E:rO x= { jz x with ep:=x.ep } :=(ae k).trans (af a);rw[E]at fin;rw[af (o.2 a)];exact iT x.ep i rfl rfl rfl rfl rfl (QJ n λG j f=>by subst s;subst m;exact fin G none 0 j t f)
   rw[ae (λe=>a (o.1 e))];refine aG.of λJ5 w=> ?_
   by_cases r:x.kind=4
   .have E:rO x= { jz x with ep:=x.ep,dest:=x.dest,mh:=x.mh,fT:=x.fT,on:=x.on } :=(ae k).trans ((ae a).trans (af r));rw[E]at fin;rw[af (bq.2 r)];refine iT x.ep i rfl rfl rfl rfl rfl (iT x.dest i rfl rfl rfl rfl rfl ⟨_,_,_,au i,_,au i,_,au i,QJ n λG j f=>⟨OA f A bU,SE j λO B F=>⟨OA F A bU,?_⟩⟩⟩);refine rT (z:=({ jz x with ep:=x.ep,dest:=x.dest,mh:=x.mh } :Rq).s p c) B dS rfl λg3 e3 f7=>⟨OA f7 A bU,?_⟩
    refine rT (z:=({ jz x with ep:=x.ep,dest:=x.dest,mh:=x.mh,fT:=x.fT } :Rq).s p c) e3 dS rfl λg4 e4 f8=>⟨OA f8 A bU,?_⟩
    refine rT (z:=({ jz x with ep:=x.ep,dest:=x.dest,mh:=x.mh,fT:=x.fT,on:=x.on } :Rq).s p c) e4 dS rfl λg5 e5 f9=> ?_
    subst w;subst s;subst m;exact fin g5 p c e5 rx (f.tt (F.tt (f7.tt (f8.tt f9))))
   rw[ae (λe=>r (bq.1 e))];refine aG.of λJ6 i'=> ?_
   have Z: ∀v,(v=true↔x.kind=5\/x.kind=8\/x.kind=9)->J6 v D:=by
    intro v o;subst i';dsimp only;refine aG.of λJ7 I=> ?_
    by_cases l:x.kind=5\/x.kind=8\/x.kind=9
    .have E:rO x= { jz x with num:=x.num } :=(ae k).trans ((ae a).trans ((ae r).trans (af l)));rw[E]at fin;rw[af (o.2 l)];exact⟨_,au i,rT (z:=({ jz x with num:=x.num } :Rq).s none 0) n dS rfl λG j f=>by subst I;subst w;subst s;subst m;exact fin G none 0 j t f⟩
    rw[ae (λe=>l (o.1 e))];refine aG.of λJ8 Q=> ?_
    by_cases z:x.kind=7
    .have E:rO x= { jz x with ep:=x.ep,ja:=x.ja } :=(ae k).trans ((ae a).trans ((ae r).trans ((ae l).trans (af z))));rw[E]at fin;rw[af (bq.2 z)];exact iT x.ep i rfl rfl rfl rfl rfl ⟨_,au i,QJ n λG j f=>⟨OA f A bU,rT (z:=({ jz x with ep:=x.ep,ja:=x.ja } :Rq).s none 0) j dS rfl λO B F=>by subst Q;subst I;subst w;subst s;subst m;exact fin O none 0 B t (f.tt F)⟩⟩
    rw[ae (λe=>z (bq.1 e))];refine aG.of λJ9 X=> ?_
    by_cases J:x.kind=10
    .have E:rO x= { jz x with on:=x.on } :=(ae k).trans ((ae a).trans ((ae r).trans ((ae l).trans ((ae z).trans (af J)))));rw[E]at fin;rw[af (bq.2 J)];exact⟨_,au i,rT (z:=({ jz x with on:=x.on } :Rq).s none 0) n dS rfl λG j f=>by subst X;subst Q;subst I;subst w;subst s;subst m;exact fin G none 0 j t f⟩
    rw[ae (λe=>J (bq.1 e))];refine aG.of λj' a'=> ?_
    by_cases T:x.kind=12
    .have E:rO x= { jz x with token:=x.token } :=(ae k).trans ((ae a).trans ((ae r).trans ((ae l).trans ((ae z).trans ((ae J).trans (af T))))));rw[E]at fin;rw[af (bq.2 T)];exact⟨_,au i,rT (z:=({ jz x with token:=x.token } :Rq).s none 0) n dS rfl λG j f=>by subst a';subst X;subst Q;subst I;subst w;subst s;subst m;exact fin G none 0 j t f⟩
    rw[ae (λe=>T (bq.1 e))];have E:rO x=jz x:=(ae k).trans ((ae a).trans ((ae r).trans ((ae l).trans ((ae z).trans ((ae J).trans (ae T))))));rw[E]at fin;subst a';subst X;subst Q;subst I;subst w;subst s;subst m;exact fin D none 0 n t (Fr.refl _ _)
   by_cases l:x.kind=5
   .rw[af (bq.2 l)];exact Z _ ⟨λ_=> .inl l,λ_=>bq.2 l⟩
   rw[ae (λe=>l (bq.1 e))];refine aG.of λk' g'=> ?_
   subst g';dsimp only;by_cases L:x.kind=8
   .rw[af (bq.2 L)];exact Z _ ⟨λ_=> .inr (.inl L),λ_=>bq.2 L⟩
   rw[ae (λe=>L (bq.1 e))];exact Z _ ⟨λe=> .inr (.inr (bq.1 e)),λe=>bq.2 ((e.resolve_left l).resolve_left L)⟩
  by_cases a:x.kind=2
  .rw[af (bq.2 a)];exact c' _ ⟨λ_=> .inl a,λ_=>bq.2 a⟩
  rw[ae (λe=>a (bq.1 e))];exact c' _ ⟨λe=> .inr (bq.1 e),λe=>bq.2 (e.resolve_left a)⟩
 by_cases k:x.kind=1
 .rw[af (bq.2 k)];exact key _ ⟨λ_=> .inl k,λ_=>bq.2 k⟩
 rw[ae (λe=>k (bq.1 e))];exact key _ ⟨λe=> .inr (bq.1 e),λe=>bq.2 (e.resolve_left k)⟩
theorem El(n k:Nat):decide ((n:Int)≥(k:Int))=decide (n≥k):=by by_cases e:n≥k<;>simp[e]<;>omega
theorem OB(x:Rq)(a: hH h R (.B (mB x))):Cl 77 #[(x.s p c).agg] h R:=by
 refine B9.walk (aF.cW λb A eb f t=>⟨_,au f,aG.of λQ X=> ?_⟩);have key: ∀v,(v=true↔x.kind=1\/x.kind=3)->Q v A:=by
  intro v n;subst X;dsimp only;by_cases k:x.kind=1\/x.kind=3
  .have E:mB x=(mL x.ep && decide (x.lV≥0) && decide (x.lV<=2)):=af k;rw[E]at a;rw[af (n.2 k)];refine iT x.ep f rfl rfl rfl rfl rfl (pf x.ep λr F=>⟨_,rfl,?_⟩);have m:=F.get f id;have a:=a r (t.tt F);refine pd (λl=> ?_) (λl=> ?_) (b:=mL x.ep)
   .rw[l]at a⊢;rw[af rfl];refine⟨_,au m,?_⟩;refine pd (λC=> ?_) (λC=> ?_) (b:=decide (x.lV≥0))
    .rw[af C];rw[C]at a;exact⟨_,au m,a⟩
    .rw[ae (by rw[C];decide)];rw[C]at a;exact a
   .rw[l]at a⊢;rw[dy];exact a
  rw[ae (λe=>k (n.1 e))];refine aG.of λS a'=> ?_
  have P: ∀v,(v=true↔x.kind=2\/x.kind=6)->S v A:=by
   intro v n;subst a';dsimp only;by_cases i:x.kind=2\/x.kind=6
   .have E:mB x=mL x.ep:=(ae k).trans (af i);rw[E]at a;rw[af (n.2 i)];exact iT x.ep f rfl rfl rfl rfl rfl (pf x.ep λr F=>⟨_,rfl,a r (t.tt F)⟩)
   rw[ae (λe=>i (n.1 e))];by_cases s:x.kind=4
   .have E:mB x=(mL x.ep && mL x.dest && decide (x.mh.length<=200) && decide (x.fT≥1) && decide (x.fT<=1099511627776)):=(ae k).trans ((ae i).trans (af s));rw[E]at a;rw[af (bq.2 s)];refine iT x.ep f rfl rfl rfl rfl rfl (pf x.ep λr F=>⟨_,rfl,?_⟩);have m:=F.get f id;refine pd (λl=> ?_) (λl=> ?_) (b:=mL x.ep)
    .rw[l]at a⊢;rw[af rfl];refine iT x.dest m rfl rfl rfl rfl rfl (pf x.dest λV M=>⟨_,rfl,?_⟩);have J:=M.get m id;have a:=a V (t.tt (F.tt M));refine pd (λC=> ?_) (λC=> ?_) (b:=mL x.dest)
     .rw[C]at a⊢;rw[af rfl];refine⟨_,_,_,au J,?_⟩;have U:decide (((x.s p c).N1:Int)<=200)=decide (x.mh.length<=200):=Bn.kZ x.mh.length 200;rw[U];refine pd (λG=> ?_) (λG=> ?_) (b:=decide (x.mh.length<=200))
      .rw[G]at a⊢;rw[af rfl];refine⟨_,au J,?_⟩;have I:decide (((x.s p c).f16:Int)≥1)=decide (x.fT≥1):=El x.fT 1;rw[I];refine pd (λo=> ?_) (λo=> ?_) (b:=decide (x.fT≥1))
       .rw[o]at a⊢;rw[af rfl];refine⟨_,au J,?_⟩;have u:decide (((x.s p c).f16:Int)<=1099511627776)=decide (x.fT<=1099511627776):=Bn.kZ x.fT 1099511627776;rw[u];exact a
       .rw[o]at a⊢;rw[dy];exact a
      .rw[G]at a⊢;rw[dy];exact a
     .rw[C]at a⊢;rw[dy];exact a
    .rw[l]at a⊢;rw[dy];exact a r (t.tt F)
   rw[ae (λe=>s (bq.1 e))];refine aG.of λT b'=> ?_
   have O:=a;have a:=a A t;have L: ∀v,(v=true↔x.kind=5\/x.kind=8\/x.kind=9)->T v A:=by
    intro v n;subst b';dsimp only;by_cases j:x.kind=5\/x.kind=8\/x.kind=9
    .have E:mB x=(decide (x.num≥1) && decide (x.num<=1099511627776)):=(ae k).trans ((ae i).trans ((ae s).trans (af j)));rw[E]at a;rw[af (n.2 j)];refine⟨_,au f,?_⟩;refine pd (λC=> ?_) (λC=> ?_) (b:=decide (x.num≥1))
     .rw[af C];rw[C]at a;exact⟨_,au f,a⟩
     .rw[ae (by rw[C];decide)];rw[C]at a;exact a
    rw[ae (λe=>j (n.1 e))];by_cases w:x.kind=7
    .have E:mB x=(mL x.ep && decide (x.ja≥1) && decide (x.ja<=1000)):=(ae k).trans ((ae i).trans ((ae s).trans ((ae j).trans (af w))));rw[E]at O;rw[af (bq.2 w)];refine iT x.ep f rfl rfl rfl rfl rfl (pf x.ep λr F=>⟨_,rfl,?_⟩);have m:=F.get f id;have a:=O r (t.tt F);refine pd (λl=> ?_) (λl=> ?_) (b:=mL x.ep)
     .rw[l]at a⊢;rw[af rfl];refine⟨_,au m,?_⟩;refine pd (λC=> ?_) (λC=> ?_) (b:=decide (x.ja≥1))
      .rw[af C];rw[C]at a;exact⟨_,au m,a⟩
      .rw[ae (by rw[C];decide)];rw[C]at a;exact a
     .rw[l]at a⊢;rw[dy];exact a
    rw[ae (λe=>w (bq.1 e))];by_cases D:x.kind=12
    .have E:mB x=(decide (x.token≥1) && decide (x.token<=2147483648)):=(ae k).trans ((ae i).trans ((ae s).trans ((ae j).trans ((ae w).trans (af D)))));rw[E]at a;rw[af (bq.2 D)];refine⟨_,au f,?_⟩;have I:decide (((x.s p c).f17:Int)≥1)=decide (x.token≥1):=El x.token 1;rw[I];refine pd (λo=> ?_) (λo=> ?_) (b:=decide (x.token≥1))
     .rw[o]at a⊢;rw[af rfl];refine⟨_,au f,?_⟩;have u:decide (((x.s p c).f17:Int)<=2147483648)=decide (x.token<=2147483648):=Bn.kZ x.token 2147483648;rw[u];exact a
     .rw[o]at a⊢;rw[dy];exact a
    rw[ae (λe=>D (bq.1 e))];have E:mB x=decide (x.kind=10\/x.kind=11):=(ae k).trans ((ae i).trans ((ae s).trans ((ae j).trans ((ae w).trans (ae D)))));rw[E]at a;refine⟨_,au f,?_⟩;by_cases B:x.kind=10
    .rw[af (bq.2 B)];rw[av (.inl B)]at a;exact a
    .rw[ae (λe=>B (bq.1 e))];refine⟨_,au f,?_⟩;have u:decide (x.kind=10\/x.kind=11)=(x.kind==11):=by by_cases c':x.kind=11<;>simp[B,c']
     rw[u]at a;exact a
   by_cases j:x.kind=5
   .rw[af (bq.2 j)];exact L _ ⟨λ_=> .inl j,λ_=>bq.2 j⟩
   rw[ae (λe=>j (bq.1 e))];refine aG.of λd' Z=> ?_
   subst Z;dsimp only;by_cases z:x.kind=8
   .rw[af (bq.2 z)];exact L _ ⟨λ_=> .inr (.inl z),λ_=>bq.2 z⟩
   rw[ae (λe=>z (bq.1 e))];exact L _ ⟨λe=> .inr (.inr (bq.1 e)),λe=>bq.2 ((e.resolve_left j).resolve_left z)⟩
  by_cases i:x.kind=2
  .rw[af (bq.2 i)];exact P _ ⟨λ_=> .inl i,λ_=>bq.2 i⟩
  rw[ae (λe=>i (bq.1 e))];exact P _ ⟨λe=> .inr (bq.1 e),λe=>bq.2 (e.resolve_left i)⟩
 by_cases k:x.kind=1
 .rw[af (bq.2 k)];exact key _ ⟨λ_=> .inl k,λ_=>bq.2 k⟩
 rw[ae (λe=>k (bq.1 e))];exact key _ ⟨λe=> .inr (bq.1 e),λe=>bq.2 (e.resolve_left k)⟩
theorem fM(x:Rq)(r:Row h p (bc x.mh))(a: hH h R (.B (kX x))):Cl 56 #[(x.s p c).agg] h R:=by
 refine Ca.walk (aF.cW λb n z e f=>⟨_,au e,?_⟩);unfold kX at a;have E:decide (((x.s p c).f0:Int)≥1)=decide (x.id≥1):=El x.id 1;have t:decide (((x.s p c).f0:Int)<=1099511627776)=decide (x.id<=1099511627776):=Bn.kZ x.id 1099511627776;rw[E];refine pd (λC=> ?_) (λC=> ?_) (b:=decide (x.id≥1))
 case refine_2=>rw[C]at a⊢;rw[dy];exact a n f
 rw[C]at a⊢;rw[af rfl];refine⟨_,au e,?_⟩;rw[t];refine pd (λj=> ?_) (λj=> ?_) (b:=decide (x.id<=1099511627776))
 case refine_2=>rw[j]at a⊢;rw[dy];exact a n f
 rw[j]at a⊢;rw[af rfl];refine aF.fz (x:=x.s p c) e (OB x λu F=>⟨_,rfl,F.kp,?_⟩);refine pd (λk=> ?_) (λk=> ?_) (b:=mB x)
 case refine_2=>rw[k]at a⊢;rw[dy];exact a u (f.tt F)
 rw[k]at a⊢;rw[af rfl];have o:=F.get e _root_.id;have i:=f.tt F;refine aF.fz (x:=x.s p c) o (aF.fz (x:=x.s p c) o (IJ x (r.frame i (λ_ _=>_root_.id)) λA P s w l=>aF.ex ((rO x).s P s) ⟨rfl,l.kp,?_⟩));refine GK x (rO x) (r.frame (i.tt l) (λ_ _=>_root_.id)) w λv m=>⟨_,rfl,m.kp,?_⟩
 exact a v (i.tt (l.tt m))

end Ask
end
section
variable {h:ai} {R:fO}
variable {S:ct} {s a:Nat}
theorem ky.walk(e:if S.isNone then R (.Z) h else bf h (.C #[] 198) λb H=>aT Tryz.prog (Builtin.append_ #[196,196] 196 #[.L (Sa b 0) 0 0,.L S s a]) H λv d=> ∃c T t,v=.L c T t/\R (.L c T t) d):Cl 227 #[.L S s a] h R:=aS [] Tryz.func227 e
theorem jA.Vh.walk(b:Cl 257 #[.L S s a,.func (.func 234) #[] #[]] h λv H=> ∃t,v=.I t/\R (.B (decide (t≥0))) H):Cl 235 #[.L S s a,.func (.func 234) #[] #[]] h R:=aS [] Tryz.func235 b
theorem jR.Vh.walk(c: ∃(I:Int->ai->Prop)(m:Int->ai->Nat),I 0 h/\∀(t:Int)(H:ai),I t H->if(decide (t<(s:Int)))then Bd t s/\aN S λA=>aa.cC H (A.add (toNat t*4)) λd=>Cl 234 #[d.agg] H λv b=> ∃T,v=.B T/\if T then R (.I t) b else(I (wrap .i64 (t+1)) b/\m (wrap .i64 (t+1)) b<m t H)else R (.I (-1)) H):Cl 257 #[.L S s a,.func (.func 234) #[] #[]] h R:=aS [(6,.loop [(8,.one (.int .i64))])] Tryz.func257 c
theorem kq.within.walk(b:Cl 259 #[.L S s a,.func (.func 243) #[] #[]] h λv H=> ∃t,v=.I t/\R (.B (decide (t≥0))) H):Cl 242 #[.L S s a,.func (.func 243) #[] #[]] h R:=aS [] Tryz.func242 b
theorem lg.within.walk(c: ∃(I:Int->ai->Prop)(m:Int->ai->Nat),I 0 h/\∀(t:Int)(H:ai),I t H->if(decide (t<(s:Int)))then Bd t s/\aN S λA=>gA H (A.add (toNat t*1)) λd=>Cl 243 #[.U d] H λv b=> ∃T,v=.B T/\if T then R (.I t) b else(I (wrap .i64 (t+1)) b/\m (wrap .i64 (t+1)) b<m t H)else R (.I (-1)) H):Cl 259 #[.L S s a,.func (.func 243) #[] #[]] h R:=aS [(6,.loop [(8,.one (.int .i64))])] Tryz.func259 c

end
section
namespace Bn
open Cb
open jG (Ev dt lC)
variable {V:cG→Bool} {h d H g0 g:ai} {R:fO} {D:Nat→Prop}
variable {a:List CV} {n k:Int} {b c:Nat} {v:BV} {T:List Tr} {q:ct} {t:Tr} {z:CV}
theorem AH(a:List CV): ∀v∈a.flatMap iP,fZ v=true:=λv f=>by
 obtain⟨A,_,e⟩:=List.mem_flatMap.1 f;exact oX A v e
theorem LP{p:ct}{n m:Nat}(i:Row h p (a.flatMap iP))(l:n=a.length)(s:a.length<=1000000)(j: ∀P C H,Own H P a.length C 4 (a.flatMap iP)->Fr No h H->(∀x,aP P x->h.size<=x)->R (.L P a.length C) H):Cl 227 #[.L p n m] h R:=by
 subst l;refine ky.walk ?_;cases p with
 |none=>
  have:a= []:=by
   rcases i with i|⟨A,e,_⟩
   .cases a with
    |nil=>rfl
    |cons B r=>cases i
   .cases e
  subst this;exact j none 0 h (.nil rfl rfl rfl rfl) (Fr.refl _ _) (λx ⟨A,e,_⟩=>by cases e)
 |some A=>
  simp only[hM,ar,aQ];exact wQ tI uI i (eL iP 4 gU a) (AH a) ag ag λP C H o f g=>⟨_,_,_,rfl,j P C H o f g⟩
structure Lc (g0 g:ai) (b:Nat) (k n:Int) (v:BV) (T:List Tr) (a:List CV) (q:ct) (c:Nat):Prop where
 di:aa.at g b k n v.p v.b.length v.c q a.length c
 own:Own g q a.length c 4 (a.flatMap iP)
 ge: ∀y,aP q y->g0.size<=y/\y≠b
 tr:dB g (λy=>(g0.size<=y/\y≠b)/\¬aP q y) T a
 fr:Fr (λy=>y=b) g0 g
theorem Lc.on(L:Lc g0 g b k n v T a q c)(f:Fr No g H):Lc g0 H b k n v T a q c:=
 ⟨f.get L.di id,L.own.frame f bX,L.ge,L.tr.on f,L.fr.on f⟩
theorem OC(o:tW g (λy=>g0.size<=y/\y≠b) t z)(m:aa.fD g b z.s)(f:Fr (λy=>y=b) g0 g): ∃a,a.length=z.ll/\Lc g0 g b z.k z.n z.v t.l a z.q z.cl:=by
 obtain⟨p,a,e,i,j,l⟩:=o;refine⟨a,e.symm,?_,i,j,l,f⟩;rw[<-e];exact m
theorem OD{k':Nat}(L:Lc g0 g b k (k':Int) v T a q c)(o:v.ok g (λy=>g0.size<=y/\y≠b)):tW g (λy=>g0.size<=y/\y≠b) (.mk k k' v.b T) ⟨k,k',v,q,a.length,c⟩:=
 ⟨⟨rfl,rfl,rfl,o⟩,a,rfl,L.own,L.ge,L.tr⟩
theorem Vj{J:ai->Prop}(L:Lc g0 g b k n v T a q c)(ll:a.length<=1000000)(tz:gP g (λy=>(g0.size<=y/\y≠b)/\¬aP q y) t z)(hk: ∀G I Q C,Lc g0 G b k n v (T++ [t]) I Q C->I.length=a.length+1->g.size<=G.size->(∀x,x≠b->¬aP q x->x<g.size->G[x]? =g[x]?)->J G):
  bf g (.C z.s.arr 198) λM Z=>aT Tryz.prog (Builtin.append_ #[196,196] 196 #[.L q a.length c,.L (Sa M 0) 1 1]) Z λd' a'=>
   ∃E B w,d'=.L E B w/\aJ a' (AA b 3) (.L E B w) λb'=>J b':=by
 refine aa.cW λb2 h7 e' r F=> ?_
 have z7:=F.1;have zg:=L.fr.1;have f':=aA r;have g':=aA L.di;have nq: ∀y,aP q y->y<g.size:=λy f=>L.own.dI f
 refine dR tI uI (L.own.frame F bX) (ds:=iP z) (.inr ⟨_,rfl,aa.Ax (x:=z.s) r⟩) rfl (oX z) ag ag λQ C X c' _ i o=>⟨_,_,_,rfl,?_⟩
 have K:=i.get (F.get L.di id) (λf=>(L.ge _ f).2 rfl);refine bk K (by show 3<4;omega) λp P S m=> ?_
 have j:Fr (λy=>y=b) X p:=Fr.of_eq S (λO hc=>m O hc);have u: ∀y,aP Q y->g0.size<=y/\y≠b:=λy f=>by
  rcases o y f with A|A
  .exact L.ge y A
  .omega
 have U:a.flatMap iP++iP z=(a++ [z]).flatMap iP:=by rw[cS];simp
 refine hk p (a++ [z]) Q C ⟨?_,?_,u,?_,?_⟩ bU ?_ ?_
 .rw[aB];exact P
 .rw[aB,<-U];exact c'.frame j (λy f e=>bW (u y f))
 .have t1:=((L.tr.snoc tz).lt.on F).frame i (λy f l=>f.1.2 l);have m1:=dB.mono (D':=λy=>(g0.size<=y/\y≠b)/\¬aP Q y) (λy f=>⟨f.1.1,λl=>by
   rcases o y l with A|A
   .exact f.1.2 A
   .have:=f.2;omega⟩) t1
  exact dB.frame j (λy f e=>ag) m1
 .exact((L.fr.on F).trans i (S'':=λy=>y=b) bX (λx s f=>bW (L.ge x f))).trans j bX bX
 .have:=i.1;omega
 .intro x s hq hl;rw[m x s,i.2 x ag hq,F.2 x hl id]
theorem OE{o:ai->Prop}{K:List (ct)}(L:Lc g0 g b k n v T a q c)(ll:a.length<=1000000)(A:gP g (λy=>(g0.size<=y/\y≠b)/\¬aP q y) t z)(w: ∀G m Q C,Lc g0 G b k n v (T++ [t]) m Q C->m.length=a.length+1->g.size<=G.size->(∀x,x≠b->¬aP q x->x<g.size->G[x]? =g[x]?)->o G):
  bf g (.C z.s.arr 198) λp f=>Kp g f K/\aT Tryz.prog (Builtin.append_ #[196,196] 196 #[.L q a.length c,.L (Sa p 0) 1 1]) f λF s=>
   ∃l j i,F=.L l j i/\aJ s (AA b 3) (.L l j i) λu=>o u:=by
 intro B r E e;refine⟨?_,Vj L ll A w B r E e⟩;subst e;exact(Fr.push _ _).kp
theorem AI{l C:Nat}(U:kr V d)(u:Fr No d h)(L:mC h D q l C a)(p:dB h D T a)(S:dJ T<=1000000)(r: hH h R (.B (!T.all (im V)))):Cl 235 #[.L q l C,.func (.func 234) #[] #[]] h R:=by
 have ln:=p.len;have O:=L.len;have Z:=ia T;refine jA.Vh.walk (jR.Vh.walk ?_);refine⟨λt g=> ∃i:Nat,t=(i:Int)/\i<=T.length/\Fr No h g/\(T.take i).all (im V)=true,λt _=>T.length - t.toNat,⟨0,rfl,bQ _,Fr.refl _ _,by rw[eV];rfl⟩,?_⟩;rintro _ g ⟨i,rfl,Q,F,m⟩;by_cases f:i<T.length
 .rw[gi];obtain⟨A,y,E,G,J,X⟩:=elem (L.frame F bX) (p.on F) f;have ra:=jc f;have s:T.take (i+1)=T.take i++ [at_ T i]:=by
   rw[bO];unfold at_;rw[bh,aj f];rfl
  have I:at_ T i∈T:=by
   unfold at_;rw[bh,aj f];exact dF f
  refine⟨ag,bT.2 ⟨A,E,aa.jQ (x:=y.s) (by rw[aH];exact G) (Az.walk (x:=y.s) (aa.cW λK P M B j=>aa.fz B (fM U (u.tt (F.tt j)) (J.on j) ag λx w=>⟨_,rfl,_,rfl,?_⟩)))⟩⟩;have o:=F.tt (j.tt w);cases q:im V (at_ T i)with
  |false=>
   rw[gi];refine⟨_,rfl,?_⟩;have:=r x o;rw[show T.all (im V)=false by rw[List.all_eq_false];exact⟨_,I,by rw[q];decide⟩]at this;rw[av ag];exact this
  |true=>
   rw[dy,bJ (n:=(i:Int)+1) ag ag];exact⟨⟨i+1,ag,ag,o,by rw[s,List.all_append,m];simp[q]⟩,by show T.length - Int.toNat ((i:Int)+1)<T.length - Int.toNat (i:Int);omega⟩
 .rw[ae (λe=>f (bW (aV e)))];rw[bE ag]at m;have:=r g F;rw[m]at this;exact⟨_,rfl,this⟩

end Bn
end
section
namespace Bn
open Cb
open jG (Ev dt lC)
variable {V:cG→Bool} {h a H:ai} {R:fO} {D:Nat→Prop} {t:List Tr} {y:List CV} {q:ct} {l c:Nat}
theorem C4{i:Nat}(L:mC h D q l c y)(T:dB h D t y)(G:dJ t<=1000000)(B:i<100)(r: hH h R (.I (typeAt t i))):Cl 195 #[.L q l c,.I (i:Int)] h R:=by
 have K:=T.len;have x:=L.len;have I:=ia t;refine Ay.walk (aG.of λJ o=> ?_);have n: ∀g,Fr No h g->¬(i<t.length/\(at_ t i).n<=2/\oM (at_ t i) (num (at_ t i).n)=true)->J true g:=λg u d=>by
  subst o;dsimp only;rw[af rfl];have:=r g u;unfold typeAt at this;rw[ae d]at this;exact this
 rw[dy];by_cases b:i<t.length
 case neg=>rw[gi];exact n h (Fr.refl _ _) (λe=>b e.1)
 rw[dy];obtain⟨A,j,E,v,s,_⟩:=elem L T b;have M:=jc b;obtain⟨_,w,_⟩:=gP.kn s;have p:dN (A.add (Int.toNat (i:Int)*4)) j.s.l 0 h:=by rw[aH];exact v
 have C:aU h ((A.add (Int.toNat (i:Int)*4)).add 1)=some (.U ((at_ t i).n:Int)):=by rw[<-w];exact p.2.1
 refine⟨ag,bT.2 ⟨A,E,_,C,?_⟩⟩;by_cases d:(at_ t i).n<=2
 case neg=>rw[gi];exact n h (Fr.refl _ _) (λe=>d e.2.1)
 rw[dy];refine⟨ag,bT.2 ⟨A,E,aa.jQ (x:=j.s) p ⟨ag,bT.2 ⟨A,E,_,C,gC λz f=>aa.ex (nv (at_ t i).n).s ⟨rfl,f.kp,jw (x:=j) (y:=nv (at_ t i).n) (s.on f) nA ag λm k=>⟨_,rfl,k.kp,?_⟩⟩⟩⟩⟩⟩;have F:=f.tt k;cases e:oM (at_ t i) (num (at_ t i).n)with
 |false=>exact n m F (λq=>by rw[e]at q;cases q.2.2)
 |true=>
  subst o;dsimp only;rw[dy];refine⟨ag,bT.2 ⟨A,E,_,F.cell C id,?_⟩⟩;have:=r m F;unfold typeAt at this;rw[af ⟨b,d,e⟩]at this;rw[bJ ag ag];exact this
theorem C6(t:List Tr)(i:Nat): -1<=typeAt t i/\typeAt t i<=2:=by unfold typeAt;split<;>omega
theorem QK(n:Nat):List.replicate n (Value.int .u8 0)=bc (List.replicate n 0):=by unfold bc;rw[List.map_replicate];rfl
theorem UN(n k:Nat)(m:Nat)(b:m=k):IntKind.wrap .u8 (Int.fdiv (n:Int) (2 ^ m))=((UInt8.ofNat (n/2 ^ k)).toNat:Int):=by subst b;rw[Om,Ol]
theorem GL{s:Nat}(U:kr V a)(c':Fr No a h)(L:mC h D q l c y)(T:dB h D t y)(hr:dJ t<=900000)(s1:1<=s)(s2:s<=2)(X: ∀b,sumOf V t s=.ok b->∀H p c,Row H p (bc b)->b.length=2*s->(∀d,aP p d->h.size<=d)->Fr No h H->R (.T #[.L p b.length c,.I 0]) H)(k2:sumOf V t s=.error 3->hH h R (.T #[.Z,.I 3])):Cl 198 #[.L q l c,.I (s:Int)] h R:=by
 have ln:=T.len;have el:=L.len;have l9:=ia t;refine B0.walk (LP L.row L.len ag λp1 c1 h1 Z o S=>⟨_,_,_,rfl,qm.walk ⟨_,rfl,?_⟩⟩);rw[bJ (n:=2*(s:Int)) ag ag,show 2*(s:Int)=((2*s:Nat):Int) by omega];refine NI mi.tU rfl (2*s) ag ag λh3 p3 o3 M g3=>⟨_,_,_,rfl,?_⟩
 rw[QK]at o3;have I:(List.replicate (2*s) (0:UInt8)).length=2*s:=List.length_replicate;refine oY o3.iz I.symm ag λh4 v ev ov P=>aa.ex (CV.s ⟨2,0,v,none,0,0⟩) ⟨rfl,aa.cW λb h5 eb hb u=> ?_⟩
 have F:=M.tt (P.tt u);have z1:=o.1;have z3:=M.1;have z4:=P.1;have z5:=u.1;have n1: ∀d,aP p1 d->d<h1.size:=λd i=>Z.dI i
 have vl:v.b.length=2*s:=by rw[ev,I]
 refine dR tI uI (Z.frame F bX) (ds:=iP ⟨2,0,v,none,0,0⟩) (.inr ⟨_,rfl,aa.Ax (x:=CV.s ⟨2,0,v,none,0,0⟩) hb⟩) rfl (oX _) ag ag λp6 c6 z O _ w g6=>⟨_,_,_,rfl,?_⟩
 have ef:y.flatMap iP++iP ⟨2,0,v,none,0,0⟩=(y++ [(⟨2,0,v,none,0,0⟩:CV)]).flatMap iP:=by rw[cS];simp
 rw[ef]at O;have T6:B7 z (t++ [qH (List.replicate (2*s) 0)]) (y++ [⟨2,0,v,none,0,0⟩]):=by
  have A:=(T.lt.on (o.tt F)).frame w (λd i G=>bW (S d G));have b:gP z (λd=>h3.size<=d) (.mk 2 0 v.b []) ⟨2,0,v,none,0,0⟩:=CZ ((ov.frame u bX).frame w (λd i G=>bW (n1 d G)));rw[ev]at b;exact A.u.snoc b.u
 have lA:(y++ [(⟨2,0,v,none,0,0⟩:CV)]).length=y.length+1:=bU
 have rA:dJ (t++ [qH (List.replicate (2*s) 0)])<=900100:=by rw[iS];simp only[dJ,room,I];omega
 refine km (D:=λ_=>True) ⟨lA.symm,O.iz,λ_ _ _=>trivial,O.le⟩ T6 ag λh7 a' tz Q=>aa.ex a'.s ⟨rfl,?_⟩
 have K:Fr No h z:=(o.tt F).fresh w (λd i=>S d i);have j:=K.tt Q;have z6:=K.1;have z7:=Q.1;have f:sumOf V t s=sumOf V t s:=rfl;conv at f=>rhs;unfold sumOf
 refine w5 (x:=a') U (c'.tt j) tz.u (by simp only[room,bG];omega) (λC g p8 c8 J n8 x=>⟨_,_,_,_,rfl,?_⟩) (λC g x=>⟨_,_,_,_,rfl,?_⟩)
 .rw[dy];rw[af C]at f;have k:=j.tt x;have b':(enc (sS (t++ [qH (List.replicate (2*s) 0)]))).length<=900200:=by
   have:=kV (sS (t++ [qH (List.replicate (2*s) 0)]));simp only[room,bG]at this;omega
  generalize enc (sS (t++ [qH (List.replicate (2*s) 0)]))=B at f J b'⊢;have z8:=k.1;by_cases E:s=1
  .rw[af (by rw[E];rfl)];rw[af E]at f;refine Ox J.iz rfl ag ⟨_,rfl,cT ?_⟩;rw[UN (An B) 8 (min (Int.toNat 8) (IntKind.bits .u16)) rfl,Ol];have r:Row (g.push (.C (bc (D5 B)).toArray 5)) (Sa g.size 0) (bc (D5 B)):=ju;exact X _ f _ _ _ r (by rw[E];rfl) (λd ⟨A,m,n⟩=>by cases m;rw[<-n];exact z8) (k.tt (Fr.push _ _))
  .rw[ae (λe=>E (bW (eq_of_beq e)))];rw[ae E]at f;refine QF J.iz rfl ag ⟨_,rfl,cT ?_⟩;rw[UN (ya B) 24 (min (Int.toNat 24) (IntKind.bits .u32)) rfl,UN (ya B) 16 (min (Int.toNat 16) (IntKind.bits .u32)) rfl,UN (ya B) 8 (min (Int.toNat 8) (IntKind.bits .u32)) rfl,Ol];have r:Row (g.push (.C (bc (Kg B)).toArray 5)) (Sa g.size 0) (bc (Kg B)):=ju;exact X _ f _ _ _ r (by rw[show s=2 by omega];rfl) (λd ⟨A,m,n⟩=>by cases m;rw[<-n];exact z8) (k.tt (Fr.push _ _))
 .rw[gi];rw[ae (by rw[C];decide)]at f;exact k2 f g (j.tt x)

end Bn
end
end Go.Proofs.YtkdgpmeojgokdaaGreatDoor
