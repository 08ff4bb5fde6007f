/-
  FD is proved here: parts of x4 proof, one behind x4 other (texts of this work, merged by a program; IX x4 theorem IY not use is left out). No condition.
-/
import Derived.Test.YtlenamcfacpheaaGreatDoorMArtsb
set_option maxRecDepth 100000
set_option maxHeartbeats 4000000
namespace Go.Proofs.YtlenamcfacpheaaGreatDoor
open Go.Den
open IntKind (wrap)
open Int (toNat)
section
namespace Cb
variable {V:cD→Bool} {h h0 h':ai} {R E:fp} {p:cy} {r l c:Nat} {bs:cD} {pos left:Nat}
variable {c0 c1 c2:Nat} {K:Option Value->ai->Prop}
def tY(g:ai)(r:Nat):Nat:=match bg g ⟨r,1,none⟩with
 |some (.int _ z)=>z.toNat
 |_=>0
theorem uW.tY(H:uW h r p c bs pos left):tY h r=pos:=by
 unfold Cb.tY;rw[show bg h (AA r 1)=some (.I (pos:Int))from ar H.cT];exact aI _
theorem Br{D:Nat->Prop}{v:BV}{m:Int}(H:v.ok h D):gl h D (.mk m 0 v.b []) ⟨m,0,v,none,0,0⟩:=by
 unfold gl;exact⟨⟨rfl,rfl,rfl,H⟩, [],⟨rfl,Row.nil,λe=>absurd rfl e,bk _⟩,by unfold df;trivial⟩
theorem Ju{m n:Nat}{o:Bool}(U:ke V h0)(u:Fr No h0 h)(hr:h0.size<=r)(H:uW h r p c bs pos left)(hn:n<18446744073709551616)(k1: ∀h' (x:CV) (b:cD) (next:Nat),Cw V bs pos m n o=.ok (b,next)->gl h' (λy=>h.size<=y) (.mk m 0 b []) x->uW h' r p c bs next left->Fr (λy=>y=r) h h'->R x.agg h')(C: ∀h' e,Cw V bs pos m n o=.error e->Fr (λy=>y=r) h h'->E (Oq e) h'):hM Tryz.prog 284 #[.P r 0,.agg #[.I (m:Int),.U (n:Int),.bool o]] h R E:=by
 refine su.walk (bu.box λb h1 eb I f1=>aa.box λb1 h2 U' f' f2=>⟨_,ar (f2.get I id),aa.new λB j V' X f4=>⟨_,ar ((f2.tt f4).get I id),?_⟩⟩);have zr:=aD H.cT;have zb:=aD I;have SB:=aD f';have Rl:=aD X;have z1:=f1.1;have z2:=f2.1;have z4:=f4.1;have F:=f1.tt (f2.tt f4);have H4:=H.on F;have i':=(f2.tt f4).get I id;have g':=f4.get f' id;have Y':=H.len;have z: ∀y,aR p y->bs≠ []->y<h.size:=λy d e=>jr H.row (by cases B':bs with|nil=>exact absurd B' e|cons=>simp[bc]) d
 have fin: ∀g (v:BV) (next:Nat),aa.at g B m 0 v.p v.b.length v.c none 0 0->aa.at g b1 0 0 none 0 0 none 0 0->v.ok g (λy=>j.size<=y)->Cw V bs pos m n o=.ok (v.b,next)->uW g r p c bs next left->Fr (λy=>y=r\/y=B) j g->
   aa.LD g (AA B 0) λt0 t1 Q' P' O' T' S' R'=>aa.ST g (AA b1 0) t0 t1 Q' P' O' T' S' R' λA=>aa.LD A (AA b1 0) λr0 r1 K' J' I' N' M' L'=>R (.agg #[.I r0,.U r1,.slice K' J' I',.slice N' M' L']) A:=by
  intro g v next q2 q1 qv ql qr qf;refine aa.ld q2 (aa.set q1 λA d1 d2 d3=>aa.ld d1 ?_);have f7:Fr (λy=>y=b1) g A:=Fr.of_eq d2 (λc s=>d3 c s);refine k1 A ⟨m,0,v,none,0,0⟩ v.b next ql (Br ((qv.frame f7 (λy d e=>ag)).mono (λy d=>ag))) (qr.frame f7 ag (λy d e w=>bY (z y d e))) ?_;exact((Fr.no F qf).trans f7 (S'':=λy=>y=r) (λx M e=>ag) (λx M e=>ag))
 cases o with
 |false=>
  rw[fK];refine bu.ld i' (Ed U (u.tt F) H4 hn (λW v pv G' lv le H5 f5=>⟨_,_,_,rfl,?_⟩) (λW e pe f5=>C W e (by simp only[Cw,pe]) ((F.tt f5).mono λ_ _=>False.elim)));have z':=f5.get X ag;refine bw z' (by show 2<4;omega) λh6 d1 d2 d3=> ?_
  have f6:Fr (λy=>y=B) W h6:=Fr.of_eq d2 (λc s=>d3 c s);refine fin h6 v (pos+n) d1 (f6.get (f5.get g' ag) ag) (G'.frame f6 (λy d e=>ag)) (by simp only[Cw,pv]) (H5.frame f6 ag (λy d e w=>bY (z y d e))) (f5.trans f6 (λ_ _=> .inl) (λ_ _=> .inr))
 |true=>
  rw[dc];refine⟨λg=> ∃(k next:Nat)(v:BV),(bs.length+1<=k+next/\D0 V bs m k next v.b=Cw V bs pos m n true)/\aa.at g B m 0 v.p v.b.length v.c none 0 0/\fJ g v.p v.b.length v.c 1 (bc v.b)/\(∀y,aR v.p y->j.size<=y)/\uW g r p c bs next left/\Fr (λy=>y=r\/y=B) j g/\v.b.length<=next,λg=>bs.length+1 - tY g r,
   ⟨bs.length+1,pos,⟨none,0, []⟩,⟨ag,rfl⟩,X,.nil rfl rfl rfl rfl,(λy ⟨a,e,_⟩=>by cases e),H4,Fr.refl _ _,bG _⟩,?_⟩
  rintro g ⟨k,next,v,⟨X',f⟩,g2,ov,nv,G,t,hv⟩;have UR:=G.pos;have y':=t.get g' ag;have A':=t.get i' ag;obtain⟨k,rfl⟩: ∃k',k=k'+1:=⟨k - 1,ag⟩;refine HS G (λh9 w Z' H9 f9=>⟨_,rfl,?_⟩) (λw=>⟨_,rfl,?_⟩);all_goals unfold D0 at f;simp only[w,bj,au,aM]at f
  .rw[dc];exact fin h9 v (next+1) (f9.get g2 ag) (f9.get y' ag) (BV.kU (ov.frame f9 (λy d e=>bY (nv y d))) nv) f.symm H9 (t.trans f9 cb (λ_ _=> .inl))
  .rw[fK];refine yQ G (λd' m' n' l' o' J s' f10=>⟨_,_,_,rfl,bu.new λb3 i W' Y f12=>aG.of λu' hJ=>⟨_,ar Y,_,ar (f12.get (f10.get A' ag) id),?_⟩⟩) (λd' e J f10=>C d' e (by rw[<-f,J]) ?_)
   .obtain⟨VR,VS,D',_⟩:=vp J;rw[J]at f;dsimp only at f;have t':=s'.on f12;have b':Fr (λy=>y=r\/y=B) j i:=(t.trans f10 cb (λ_ _=> .inl)).on f12;have zg:=t.1;have VT:=f10.1;have O:aa.at i B m 0 v.p v.b.length v.c none 0 0:=f12.get (f10.get g2 ag) id;have E':=(ov.frame f10 (λy d e=>bY (nv y d))).frame f12 cb;have D:Fr (λy=>y=r) h i:=(Fr.no F b').mono (λx M e=>ag);have v':Fr No h0 i:=u.fresh D (λy e=>ag);have done: ∀P,Fr No i P->(m'=m/\o'=false)->u' P:=by
     intro P f3 C';rw[af C']at f;subst hJ;refine⟨_,_,_,ar (f3.get O id),bu.ld (f3.get Y id) (Ed U (v'.tt f3) (t'.on f3) D' (λQ r' pw H' lw le a' f14=>⟨_,_,_,rfl,ar (f14.get (f3.get O id) ag),?_⟩) (λQ e pe f14=>C Q e (by rw[<-f,pe]) (D.on (f3.tt f14))))⟩;have F':=(E'.frame f3 cb).frame f14 (λy d e=>bY (nv y d));have lv:v.b.length<=1000000:=ag
     refine dT kK.tU kK.uU F' H'.row (by rw[jT,ct]) (pR r'.b) ag ag ?_;intro p' c' e' q' _ f15 x';rw[<-jM]at q';have z12:=f12.1;have z3:=f3.1;have VU:=f14.1;refine⟨_,_,_,rfl,bw (f15.get (f14.get (f3.get O id) ag) (λd=>bY (nv _ d))) (by show 2<4;omega) λT d1 d2 d3=>⟨rfl,?_,?_⟩⟩
     .have f16:Fr (λy=>y=B) e' T:=Fr.of_eq d2 (λc s=>d3 c s);have j': ∀y,aR p' y->j.size<=y:=λy d=>by
       rcases x' y d with a|a
       .exact nv y a
       .omega
      have N:=a'.frame f15 (λd=>bY (nv _ d)) (λy d e Z=>hY (nv _ Z) (z y d e));rw[pw]at f;refine⟨k,l'+n',⟨p',c',v.b++r'.b⟩,⟨ag,f⟩,by rw[aA];exact d1,by rw[aA];exact q'.frame f16 (λy d e=>bY (j' y d)),j',N.frame f16 ag (λy d e w=>bY (z y d e)),?_,by rw[aA];omega⟩;have a1:Fr (λy=>y=r\/y=B) j Q:=(b'.on f3).trans f14 cb (λ_ _=> .inl);have a2:Fr (λy=>y=r\/y=B) j e':=a1.trans f15 cb (λx M d=>bY (nv x d));exact a2.trans f16 cb (λ_ _=> .inr)
     .have w':tY T r=l'+n':=by
       have N:=a'.frame f15 (λd=>bY (nv _ d)) (λy d e Z=>hY (nv _ Z) (z y d e));exact(N.frame (Fr.of_eq (S:=λy=>y=B) d2 (λc s=>d3 c s)) ag (λy d e w=>bY (z y d e))).tY
      show bs.length+1 - tY T r<bs.length+1 - tY g r;rw[w',G.tY];omega
    split
    .rename_i q;have em:m'=m:=by have:=eq_of_beq q;omega
     refine⟨_,ar Y,gP (λL=>⟨rfl,rfl,done i (Fr.refl _ _) ⟨em,by cases o' with|true=>cases L|false=>rfl⟩⟩) (λL=>C i 3 (by rw[<-f,ae (λe=>by rw[e.2]at L;cases L)]) D)⟩
    .rename_i q;exact gP (λe=>absurd e di) (λ_=>C i 3 (by rw[<-f,ae (λe=>q (by rw[e.1];simp))]) D)
   .exact((Fr.no F t).on f10).mono (λx M e=>ag)
theorem tI:oy Tryz.prog 260 262 4 64 (.agg #[.I 0,.U 0,.Z,.Z]):=⟨dj,dj,rfl⟩
theorem uI:Tryz.prog.underlying 260=some (.slice 262):=dj
theorem nt(x:CV): ∀v∈hN x,fR v=true:=by
 intro v H;simp only[bH,List.not_mem_nil,or_false]at H;rcases H with rfl|rfl|rfl|rfl<;>rfl
theorem gG: ∀(ts:List Tr),9*ts.length<=dk ts
 | []=>bG _
 | .mk k n b l::ts=>by
  have:=gG ts;simp only[dk,room,bf];omega
def Gk(V:cD->Bool)(h0:ai)(r:Nat)(p:cy)(c:Nat)(bs:cD)(L:Nat):Prop:= ∀(h:ai)(pos left:Nat)(R E:fp),Fr No h0 h->uW h r p c bs pos left->
 (∀h' (t:Tr) (x:CV) (next left':Nat),gC V bs L pos left=.ok (t,next,left')->gl h' (λy=>h.size<=y) t x->uW h' r p c bs next left'->Fr (λy=>y=r) h h'->R x.agg h')->
 (∀h' e,gC V bs L pos left=.error e->Fr (λy=>y=r) h h'->E (Oq e) h')->hM Tryz.prog 243 #[.pointer (some ⟨r,0,none⟩),.int .i64 (7 - (L:Int))] h R E
structure Qm (h4 g:ai) (r b2:Nat) (p:cy) (c:Nat) (bs:cD) (pos next left:Nat) (ts:List Tr) (ys:List CV) (q:cy) (cl:Nat):Prop where
 cT:aa.at g b2 4 0 none 0 0 q ys.length cl
 own:fJ g q ys.length cl 4 (ys.flatMap hN)
 ge: ∀y,aR q y->h4.size<=y
 tr:df g (λy=>h4.size<=y/\¬aR q y) ts ys
 room:dk ts<=10*(next - pos)
 le:pos<=next
 rd:uW g r p c bs next left
 fr:Fr (λy=>y=r\/y=b2) h4 g
theorem LS{d g:ai}{b next i:Nat}{ts:List Tr}{ys:List CV}{q:cy}{cl:Nat}{deep:Int}{Φ:ai->Prop}(IH:Gk V h0 r p c bs i)(u4:Fr No h0 d)(o':h0.size<=r)(r4:r<d.size)(b4:b<d.size)(rb:r≠b)(b0:h0.size<=b)(hd:deep=6 - (i:Int))(n':i<=6)(rows: ∀y,aR p y->bs≠ []->y<d.size/\y≠b)(L:Qm d g r b p c bs pos next left ts ys q cl)(hk: ∀u s left' t j' q' C,gC V bs i next left=.ok (t,s,left')->Qm d u r b p c bs pos s left' (ts++ [t]) j' q' C->next<s->Φ u)(kE: ∀h' e,gC V bs i next left=.error e->Fr (λy=>y=r\/y=b) d h'->E (Oq e) h'):
  ∃(o:cy)(m T:Nat),bg g (AA b 3)=some (.slice o m T)/\
  Ce 243 #[.P r 0,.I (IntKind.wrap .i64 (deep+1))] g (λg' w=>
  ∃(D F:Int)(M:cy)(J I:Nat)(S:cy)(P O:Nat),g'=.agg #[.I D,.U F,.slice M J I,.slice S P O]/\
  bg w (AA b 3)=some (.slice o m T)/\
  aQ w (.cells #[.I D,.U F,.slice M J I,.slice S P O] 262) λa' z=>
  bg z (AA b 3)=some (.slice o m T)/\
  aW Tryz.prog (Builtin.append_ #[260,260] 260 #[.slice o m T,.slice (Sa a' 0) 1 1]) z λi' c'=>
  ∃(X:cy)(W U:Nat),i'=.slice X W U/\
  aS c' (AA b 3) (.slice X W U) λb'=>Φ b') E:=by
 have zg:=L.fr.1;have m':=L.rd.len;have hp:=L.rd.pos;have l':=L.le;have ll:ys.length<=2000000:=by
  have h1:=gG ts;have h2:=L.room;have h3:=L.tr.len;omega
 refine⟨_,_,_,ar L.cT,?_⟩;rw[bD (n:=deep+1) ag ag];rw[show deep+1=7 - (i:Int) by omega];refine IH g next left _ E (u4.fresh L.fr (λy e=>ag)) L.rd (λj t x f' e' k tx Y f7=> ?_) (λj e k f7=>kE j e k (L.fr.trans f7 cb (λ_ _=> .inl)));obtain⟨rx,lx,_,_⟩:=D1 i _ _ _ _ _ L.rd.pos k;have z7:=f7.1;have B:=f7.get L.cT ag;refine⟨_,_,_,_,_,_,_,_,rfl,ar B,aa.box λb3 h8 k' d' f8=>⟨ar (f8.get B id),?_⟩⟩;have z8:=f8.1;have o8:=(L.own.frame f7 (λy H e=>bY (L.ge y H))).frame f8 cb;have Q: ∀y,aR q y->y<g.size:=λy H=>L.own.dY H
 refine dT tI uI o8 (ds:=hN x) (.inr ⟨_,rfl,aa.held d'⟩) rfl (nt x) ag ag λq' C h9 o9 _ f9 G=>⟨_,_,_,rfl,?_⟩
 have z9:=f9.1;have N: ∀y,aR q y->d.size<=y:=L.ge;have b9:=f9.get (f8.get B id) (λH=>bY (N _ H));refine bw b9 (by show 3<4;omega) λv d1 d2 d3=> ?_
 have f10:Fr (λy=>y=b) h9 v:=Fr.of_eq d2 (λc hc=>d3 c hc);have A: ∀y,aR q' y->d.size<=y:=λy H=>by
  rcases G y H with a|a
  .exact N y a
  .omega
 have ef:ys.flatMap hN++hN x=(ys++ [x]).flatMap hN:=by rw[da];simp
 have Z:=(Y.on f8).frame f9 (λH=>bY (N _ H)) (λy H e f=>hY (N _ f) ((rows y H e).1));refine hk v f' e' t (ys++ [x]) q' C k ⟨?_,?_,A,?_,?_,ag,Z.frame f10 ag (λy H e he=>(rows y H e).2 he),?_⟩ lx
 .rw[aA];exact d1
 .rw[aA,<-ef];exact o9.frame f10 (λy H e=>bY (A y H))
 .have t1:=((L.tr.lt.frame f7 (λy H e=>ag)).frame f8 cb).frame f9 (λy H f=>H.1.2 f);have t2:=tx.lt.mono (D':=λy=>g.size<=y/\y<j.size) (λ_=>id);have t2:=(t2.on f8).mono (D':=λy=>g.size<=y/\y<j.size) (λ_=>id);have t2:=gl.frame f9 (λy H f=>bY (Q y f)) t2;have m1:=df.mono (D':=λy=>d.size<=y/\¬aR q' y) (λy H=>⟨H.1.1,λf=>by
   rcases G y f with a|a
   .exact H.1.2 a
   .have:=H.2;omega⟩) t1
  have m2:=gl.mono (D':=λy=>d.size<=y/\¬aR q' y) (λy H=>⟨ag,λf=>by
   rcases G y f with a|a
   .have:=Q y a;omega
   .omega⟩) t2
  exact df.frame f10 (λy H e=>ag) (m1.snoc m2)
 .rw[hT];have:=L.room;simp only[dk];omega
 .have a1:=(L.fr.trans f7 (S'':=λy=>y=r\/y=b) cb (λ_ _=> .inl)).on f8;have a2:=a1.trans f9 (S'':=λy=>y=r\/y=b) cb (λx hx H=>bY (N x H));exact a2.trans f10 cb (λ_ _=> .inr)
theorem Ou {lv m n : Nat} {o : Bool} {deep : Int} (IH : Gk V h0 r p c bs lv) (u : Fr No h0 h) (hr : h0.size ≤ r) (H : uW h r p c bs pos left) (hd : deep = 6 - (lv : Int)) (US : lv ≤ 6) (hn : n < 18446744073709551616)
    (k1 : ∀ h' (ts : List Tr) (x : CV) (next left' : Nat), mG bs (gC V bs lv) pos left n o = .ok (ts, next, left') → gl h' (λy => h.size ≤ y) (.mk 4 0 [] ts) x → uW h' r p c bs next left' → Fr (λy => y = r) h h' → R x.agg h')
    (kE : ∀ h' e, mG bs (gC V bs lv) pos left n o = .error e → Fr (λy => y = r) h h' → E (Oq e) h') : hM Tryz.prog 283 #[.pointer (some ⟨r, 0, none⟩), .agg #[.int .i64 (m : Int), .int .u64 (n : Int), .bool o], .int .i64 deep] h R E := by
  refine vy.walk (bu.box λb h1 eb hb f1 => aa.box λb1 h2 SD Jv f2 => aa.new λb2 h4 UU Us f4 => ⟨_, cH ((f2.tt f4).get hb id) rfl, ?_⟩)
  have zr := aD H.cT
  have zb := aD hb
  have SB := aD Jv
  have Rl := aD Us
  have z0 := u.1
  have z1 := f1.1
  have z2 := f2.1
  have z4 := f4.1
  have F4 := f1.tt (f2.tt f4)
  have H4 := H.on F4
  have HT := (f2.tt f4).get hb id
  have S0 := f4.get Jv id
  have hlen := H.len
  have UW := H.pos
  have rows : ∀ y, aR p y → bs ≠ [] → y < h4.size ∧ y ≠ b2 := λy hy e => by
    have := jr H.row (by cases S1 : bs with | nil => exact absurd S1 e | cons => simp [bc]) hy
    omega
  have Ut : ∀ g e, mG bs (gC V bs lv) pos left n o = .error e → Fr (λy => y = r ∨ y = b2) h4 g → E (Oq e) g := λg e hx fg => kE g e hx ((Fr.no F4 fg).mono (λx hx q => by omega))
  have fin : ∀ g next left' ts ys q cl, Qm h4 g r b2 p c bs pos next left' ts ys q cl → mG bs (gC V bs lv) pos left n o = .ok (ts, next, left') →
      aa.LD g ⟨b2, 0, none⟩ λt0 t1 UX UY UZ U0 U1 U2 => aa.ST g ⟨b1, 0, none⟩ t0 t1 UX UY UZ U0 U1 U2 λh7 => aa.LD h7 ⟨b1, 0, none⟩ λr0 r1 U3 U5 U6 U7 U9 Va => R (.agg #[.int .i64 r0, .int .u64 r1, .slice U3 U5 U6, .slice U7 U9 Va]) h7 := by
    intro g next left' ts ys q cl L hx
    refine aa.ld L.cT (aa.set (L.fr.get S0 (by omega)) λh7 d1 d2 d3 => aa.ld d1 ?_)
    have f7 : Fr (λy => y = b1) g h7 := Fr.of_eq d2 (λc hc => d3 c hc)
    have o7 := L.own.frame f7 (λy hy e => by have := L.ge y hy; omega)
    have t7 := df.frame f7 (λy hy e => by omega) L.tr
    refine k1 h7 ts ⟨4, 0, ⟨none, 0, []⟩, q, ys.length, cl⟩ next left' hx ?_ (L.rd.frame f7 (by omega) (λy hy e he => by
      have := jr H.row (by cases S1 : bs with | nil => exact absurd S1 e | cons => simp [bc]) hy; omega)) ?_
    · unfold gl
      exact ⟨⟨rfl, rfl, rfl, ⟨Row.nil, λe => absurd rfl e, Nat.le_refl _⟩⟩, ys, ⟨rfl, o7.iw, λ_ y hy => by have := L.ge y hy; omega, o7.le⟩, df.mono (λy hy => by omega) t7⟩
    · exact ((Fr.no F4 L.fr).trans f7 (S'' := λy => y = r) (λx hx e => by omega) (λx hx e => by omega))
  have L0 : Qm h4 h4 r b2 p c bs pos pos left [] [] none 0 := ⟨Us, .nil rfl rfl rfl rfl, (λy ⟨a, e, _⟩ => by cases e), by unfold df; trivial, by simp [dk], Nat.le_refl _, H4, Fr.refl _ _⟩
  have step := fun {g next left' ts ys q cl} {Φ : ai → Prop} (L : Qm h4 g r b2 p c bs pos next left' ts ys q cl) hk (hE : ∀ e, gC V bs lv next left' = .error e → mG bs (gC V bs lv) pos left n o = .error e) => LS (V := V) (Φ := Φ) (E := E) (deep := deep) IH (u.tt F4) hr (by omega) Rl (by omega) (by omega) hd US rows L hk (λg e hx fg => Ut g e (hE e hx) fg)
  cases o with
  | true =>
    rw [if_pos rfl]
    refine ⟨λg => ∃ k next left' ts ys q cl, (bs.length + 1 ≤ k + next ∧ wM bs (gC V bs lv) k next left' ts = mG bs (gC V bs lv) pos left n true) ∧ Qm h4 g r b2 p c bs pos next left' ts ys q cl, λg => bs.length + 1 - tY g r, ⟨_, _, _, _, _, _, _, ⟨by omega, rfl⟩, L0⟩, ?_⟩
    rintro g ⟨k, next, left', ts, ys, q, cl, ⟨Vc, HU⟩, L⟩
    have UR := L.rd.pos
    obtain ⟨k, rfl⟩ : ∃ k', k = k' + 1 := ⟨k - 1, by omega⟩
    refine HS L.rd (λh6 he Rm H6 f6 => ⟨_, rfl, ?_⟩) (λhe => ⟨_, rfl, ?_⟩)
    all_goals unfold wM at HU; simp only [he, if_true, Bool.false_eq_true, if_false] at HU
    · rw [if_neg (by decide)]
      have t6 := df.frame f6 (λy hy e => by omega) L.tr
      refine fin h6 (next + 1) left' ts ys q cl ⟨f6.get L.cT (by omega), L.own.frame f6 (λy hy e => by have := L.ge y hy; omega), L.ge, t6, by have := L.room; have := L.le; omega, by have := L.le; omega, H6, L.fr.trans f6 (λ_ _ => id) (λ_ _ => .inl)⟩ HU.symm
    · rw [if_pos (by decide)]
      refine step L (λg' next' Rn t Vd q' S2 hi L' Rm => ⟨rfl, ⟨k, _, _, _, _, _, _, ⟨by omega, by rw [hi] at HU; exact HU⟩, L'⟩, ?_⟩) (λe hi => by rw [← HU, hi])
      show bs.length + 1 - tY g' r < bs.length + 1 - tY g r
      rw [L'.rd.tY, L.rd.tY]
      have := L'.rd.pos
      omega
  | false =>
    rw [if_neg (by decide)]
    refine ⟨_, cH HT rfl, _, _, _, cH H4.cT rfl, _, cH H4.cT rfl, ?_⟩
    rw [bD (n := ((bs.length : Nat) : Int) - (pos : Int)) (by omega) (by omega), wrap_u64 (by omega) (by omega)]
    refine gP (λhq => ?_) (λhq => Ut h4 8 (by have := of_decide_eq_false hq; unfold mG; dsimp only; rw [if_neg (by omega)]) (Fr.refl _ _))
    have hq : pos + n ≤ bs.length := by have := of_decide_eq_true hq; omega
    refine ⟨rfl, cH H4.cT rfl, cH H4.cT rfl, cH HT rfl, _, cH HT rfl, ?_⟩
    have e0 : mG bs (gC V bs lv) pos left n false = tL (gC V bs lv) n pos left [] := by unfold mG; dsimp only; rw [if_pos (by omega)]
    refine ⟨λt g => ∃ i next left' ts ys q cl, t = ((i : Nat) : Int) ∧ i ≤ n ∧ tL (gC V bs lv) (n - i) next left' ts = mG bs (gC V bs lv) pos left n false ∧ Qm h4 g r b2 p c bs pos next left' ts ys q cl, λt _ => n - t.toNat, ⟨0, _, _, _, _, _, _, rfl, Nat.zero_le _, e0.symm, L0⟩, ?_⟩
    rintro _ g ⟨i, next, left', ts, ys, q, cl, rfl, hi, HU, L⟩
    by_cases Ve : i < n
    · rw [if_pos (decide_eq_true (by omega))]
      rw [show n - i = (n - (i + 1)) + 1 by omega] at HU
      unfold tL at HU
      refine step L (λg' next' Rn t Vd q' S2 Ta L' Rm => ⟨rfl, ?_, ?_⟩) (λe Ta => by rw [← HU, Ta])
      · rw [wrap_u64 (n := (i : Int) + 1) (by omega) (by omega)]
        exact ⟨i + 1, _, _, _, _, _, _, by omega, by omega, by rw [Ta] at HU; exact HU, L'⟩
      · rw [wrap_u64 (n := (i : Int) + 1) (by omega) (by omega)]
        show n - Int.toNat ((i : Int) + 1) < n - Int.toNat (i : Int)
        omega
    · rw [if_neg (λe => Ve (by have := of_decide_eq_true e; omega))]
      rw [show n - i = 0 by omega] at HU
      exact fin g next left' ts ys q cl L HU.symm
theorem LU(U:ke V h0)(hr:h0.size<=r): ∀L,L<=6->Gk V h0 r p c bs L:=by
 intro L;induction L with
 |zero=>
  intro _ h pos left R E u H k1 k;refine nn.walk (aa.box λb h1 eb Y f1=>yQ (H.on f1) (λw m n next o i A f2=>⟨_,_,_,rfl,bu.new λb1 f e' d f4=>aG.of λJ S=> ?_⟩) (λw e i f2=>k w e (by unfold gC;rw[i]) ((f1.tt f2).mono λ_ _=>False.elim)));have z1:=f1.1;have zr:=aD H.cT;have F:Fr (λy=>y=r) h f:=(Fr.no f1 f2).on f4;have done:(m=0\/m=2\/m=3\/m=4)->J f:=by
   intro hm;subst S;exact gP (λa'=>absurd a' di) (λ_=>k f 9 (by unfold gC;rw[i];dsimp only;rw[af hm]) F)
  refine⟨_,ar d,?_⟩;split
  .rename_i q;exact gP (λ_=>⟨rfl,rfl,done (.inl (bY (eq_of_beq q)))⟩) (λe=>absurd e di)
  rename_i Q;refine⟨_,ar d,?_⟩;split
  .rename_i q;exact gP (λ_=>⟨rfl,rfl,done (.inr (.inl (bY (eq_of_beq q))))⟩) (λe=>absurd e di)
  rename_i q2;refine⟨_,ar d,?_⟩;split
  .rename_i q;exact gP (λ_=>⟨rfl,rfl,done (.inr (.inr (.inl (bY (eq_of_beq q)))))⟩) (λe=>absurd e di)
  rename_i q3;refine⟨_,ar d,?_⟩;refine gP (λq=>⟨rfl,rfl,done (.inr (.inr (.inr (bY (eq_of_beq q)))))⟩) (λq=>k f 3 (by unfold gC;rw[i];dsimp only;rw[ae];rintro(rfl|rfl|rfl|rfl)<;>first|exact Q rfl|exact q2 rfl|exact q3 rfl|exact absurd q di) F)
 |succ L I=>
  intro s' h pos left R E u H k1 k;have I:=I ag;have zr:=aD H.cT;refine nn.walk (aa.box λb h1 eb Y f1=>yQ (H.on f1) (λw m n next o i A f2=>⟨_,_,_,rfl,bu.new λb1 f e' d f4=>aG.of λJ S=> ?_⟩) (λw e i f2=>k w e (by unfold gC;rw[i]) ((f1.tt f2).mono λ_ _=>False.elim)));obtain⟨r',_,hn,_⟩:=vp i;have a:gC V bs (L+1) pos left=gC V bs (L+1) pos left:=rfl;conv at a=>rhs;unfold gC;rw[i]
  dsimp only at a;have zb:=aD Y;have t':=aD d;have z1:=f1.1;have z2:=f2.1;have z4:=f4.1;have hp:=H.pos;have i':=A.pos;have q':=A.left;have F:Fr (λy=>y=r) h f:=(Fr.no f1 f2).on f4;have U4:Fr No h0 f:=u.fresh F (λy e=>ag);have B:=A.on f4;have f':=f4.get (f2.get Y ag) id;have j': ∀y,aR p y->bs≠ []->y<h.size:=λy j e=>jr H.row (by cases g':bs with|nil=>exact absurd g' e|cons=>simp[bc]) j
  have b': ∀g (t:Tr) (x:CV) N v,aa.at g b 0 0 none 0 0 none 0 0->gl g (λy=>h1.size<=y) t x->gC V bs (L+1) pos left=.ok (t,N,v)->uW g r p c bs N v->Fr (λy=>y=r) h g->
    aa.ST g (AA b 0) x.k (x.n:Int) x.v.p x.v.b.length x.v.c x.q x.ll x.cl λz=>aa.LD z (AA b 0) λr0 r1 m' l' k' p' o' n'=>R (.agg #[.I r0,.U r1,.slice m' l' k',.slice p' o' n']) z:=by
   intro g t x N v gb T rx Hg fg;refine aa.set gb λz d1 d2 d3=>aa.ld d1 ?_
   have f9:Fr (λy=>y=b) g z:=Fr.of_eq d2 (λc hc=>d3 c hc);exact k1 z t x N v rx (gl.mono (λy j=>ag) (gl.frame f9 (λy j e=>ag) T)) (Hg.frame f9 ag (λy j e he=>bY (j' y j e))) (fg.trans f9 cb (λx hx e=>ag))
  have done:(m=0\/m=2\/m=3\/m=4)->J f:=by
   intro hm;rw[af hm]at a;subst S;refine gP (λ_=>⟨rfl,_,ar B.cT,gP (λD=>⟨rfl,_,ar B.cT,bw B.cT (by show 2<3;omega) λP d1 d2 d3=> ?_⟩) (λD=>k f 2 (by rw[a,af (bY (fz D))]) F)⟩) (λa'=>absurd (fz a') ag);have D:=aU D;rw[dc]at a;rw[bD (n:=(left:Int) - 1) ag ag,show(left:Int) - 1=((left - 1:Nat):Int) by omega]at d1;obtain⟨G,f8⟩:=B.set (pos':=next) (left':=left - 1) i' ag d1 d2 d3;have C:=f8.get d ag;have Z:=f8.get f' ag;have s:Fr (λy=>y=r) h P:=F.tt f8;have U8:Fr No h0 P:=u.fresh s (λy e=>ag);have z8:=f8.1;refine⟨_,ar C,?_⟩;split
   .rename_i q;rw[af (bY (eq_of_beq q))]at a;refine⟨_,ar C,?_⟩;refine b' P (.mk 0 n [] []) ⟨0,n,⟨none,0, []⟩,none,0,0⟩ next (left - 1) Z ?_ a G s;unfold gl;exact⟨⟨rfl,rfl,rfl,⟨Row.nil,λe=>absurd rfl e,bk _⟩⟩, [],⟨rfl,Row.nil,λe=>absurd rfl e,bk _⟩,by unfold df;trivial⟩
   .rename_i Q;rw[ae (λe=>Q (by rw[e];rfl))]at a;split
    .rename_i q;have m4:m=4:=by have:=eq_of_beq q;omega
     rw[af m4]at a;refine bu.ld C (Ou I U8 hr G ag ag hn (λM ts x N v W T c' f10=>⟨_,_,_,_,_,_,_,_,rfl,?_⟩) (λM e W f10=>k M e (by rw[a,W]) (s.tt f10)));exact b' M (.mk 4 0 [] ts) x N v (f10.get Z ag) (gl.mono (λy j=>ag) T) (by rw[a,W]) c' (s.tt f10)
    .rename_i q;rw[ae (λe=>q (by rw[e];rfl))]at a;refine bu.ld C (Ju U U8 hr G hn (λO x sb N X T d' f12=>⟨_,_,_,_,_,_,_,_,rfl,?_⟩) (λO e X f12=>k O e (by rw[a,X]) (s.tt f12)));exact b' O (.mk m 0 sb []) x N (left - 1) (f12.get Z ag) (gl.mono (λy j=>ag) T) (by rw[a,X]) d' (s.tt f12)
  refine⟨_,ar d,?_⟩;split
  .rename_i q;exact gP (λ_=>⟨rfl,rfl,done (.inl (bY (eq_of_beq q)))⟩) (λe=>absurd e di)
  rename_i Q;refine⟨_,ar d,?_⟩;split
  .rename_i q;exact gP (λ_=>⟨rfl,rfl,done (.inr (.inl (bY (eq_of_beq q))))⟩) (λe=>absurd e di)
  rename_i q2;refine⟨_,ar d,?_⟩;split
  .rename_i q;exact gP (λ_=>⟨rfl,rfl,done (.inr (.inr (.inl (bY (eq_of_beq q)))))⟩) (λe=>absurd e di)
  rename_i q3;refine⟨_,ar d,?_⟩;refine gP (λq=>⟨rfl,rfl,done (.inr (.inr (.inr (bY (eq_of_beq q)))))⟩) (λq=>k f 3 (by rw[a,ae];rintro(rfl|rfl|rfl|rfl)<;>first|exact Q rfl|exact q2 rfl|exact q3 rfl|exact absurd q di) F)
theorem Jw(hk: ∀h',Fr No h h'->K none h'):pH Tryz.prog 242 #[.P c0 0,.P c1 0,.P c2 0] none h K:=by
 refine qe.ret.walk (cF (wI di (hk _ (Fr.push _ _))))
theorem Jx{e g0 G:Int}{s v:cy}{o n u t:Nat}{N m:Int}(h0:aa.at h c0 g0 G s o n v u t)(i:h[c1]? =some (.cells #[.I N] 3 (0,0)))(j:h[c2]? =some (.cells #[.I m] 24 (0,0)))(w:c0≠c1)(z:c0≠c2)(A:c1≠c2)(hk: ∀h',aa.at h' c0 0 0 none 0 0 none 0 0->h'[c1]? =some (.cells #[.I 0] 3 (0,0))->h'[c2]? =some (.cells #[.I e] 24 (0,0))->Fr (λy=>y=c0\/y=c1\/y=c2) h h'->K none h'):
  pH Tryz.prog 242 #[.P c0 0,.P c1 0,.P c2 0] (some (Oq e)) h K:=by
 refine qe.mq.walk (cF (wI di ?_));have f:Fr No h (h.push (.cells (#[Value.I 0].setIfInBounds 0 (.I e)) 331 (0,0))):=Fr.push _ _;have a:(h.push (.cells (#[Value.I 0].setIfInBounds 0 (.I e)) 331 (0,0)))[h.size]? =some (.cells #[.I e] 331 (0,0)):=bV;have Z:=aD h0;have C:=aD i;have D:=aD j;generalize h.push (.cells (#[Value.I 0].setIfInBounds 0 (.I e)) 331 (0,0))=g at f a⊢;refine⟨_,ar a,aa.set (f.get h0 id) λG d1 d2 d3=> ?_⟩;have f1:Fr (λy=>y=c0) g G:=Fr.of_eq d2 (λc H=>d3 c H);refine⟨ar (f1.get a ag),bw (f1.get (f.get i id) ag) (by show 0<1;omega) λb a1 a2 a3=> ?_⟩;have f2:Fr (λy=>y=c1) G b:=Fr.of_eq a2 (λc H=>a3 c H);refine⟨ar (f2.get (f1.get a ag) ag),bw (f2.get (f1.get (f.get j id) ag) ag) (by show 0<1;omega) λd b1 B k=> ?_⟩;have f3:Fr (λy=>y=c2) b d:=Fr.of_eq B (λc H=>k c H);exact hk d (f3.get (f2.get d1 ag) ag) (f3.get a1 ag) b1 (((Fr.no f f1).trans f2 (S'':=λy=>y=c0\/y=c1) (λ_ _=> .inl) (λ_ _=> .inr)).trans f3 (λx _ q=>q.imp id .inl) (λ_ _ q=> .inr (.inr q)))
theorem tZ(U:ke V h)(row:Row h p (bc bs))(hl:l=bs.length)(cap:bs.length<=c)(a':bs.length<=1000000)(k1: ∀h' (t:Tr) (x:CV) (next:Nat),lg V bs=.ok (t,next)->gl h' (λy=>h.size<=y) t x->Fr No h h'->R (.tuple #[x.agg,.I (next:Int),.I 0]) h')(k2: ∀h' e,lg V bs=.error e->Fr No h h'->R (.tuple #[CV.agg ⟨0,0,⟨none,0, []⟩,none,0,0⟩,.I 0,.I e]) h'):
  Cl 193 #[.slice p l c,.I 0] h R:=by
 subst hl;refine hM.UL (Jr.walk (aa.box λb d eb L f1=>cF (cF ?_)));have zb:=aD L;have z1:=f1.1;have f2:Fr No d (d.push (.cells #[.I 0] 3)):=Fr.push _ _;have a2:(d.push (.cells #[.I 0] 3))[d.size]? =some (.cells #[.I 0] 3 (0,0)):=bV;generalize d.push (.cells #[.I 0] 3)=f at f2 a2⊢;have f3:Fr No f (f.push (.cells #[.I 0] 24)):=Fr.push _ _;have a3:(f.push (.cells #[.I 0] 24))[f.size]? =some (.cells #[.I 0] 24 (0,0)):=bV;have z2:=aD a2;generalize f.push (.cells #[.I 0] 24)=i at f3 a3⊢;have z3:=aD a3;obtain⟨b1,v⟩: ∃b1,b1=d.size:=⟨_,rfl⟩;obtain⟨B,w⟩: ∃B,B=f.size:=⟨_,rfl⟩;rw[<-v]at a2;rw[<-w]at a3;rw[<-v,<-w];refine aG.of λb' Y=> ?_
 rw[dc,az ag];refine⟨rfl,?_⟩;subst Y;dsimp only;rw[dc];refine cF ?_;have f4:Fr No i (i.push (.cells #[.slice p bs.length c,.I 0,.I 256] 335)):=Fr.push _ _;have a4:(i.push (.cells #[.slice p bs.length c,.I 0,.I 256] 335))[i.size]? =some (.cells #[.slice p bs.length c,.I 0,.I 256] 335 (0,0)):=bV;generalize i.push (.cells #[.slice p bs.length c,.I 0,.I 256] 335)=I at f4 a4⊢;obtain⟨n,z⟩: ∃n,n=i.size:=⟨_,rfl⟩;rw[<-z]at a4;rw[<-z];have O:=f2.tt f3;have q:=O.tt f4;have F:=f1.tt q;have c':=f2.1;have d':=f3.1;have N: ∀y,aR p y->bs≠ []->y<h.size:=λy H e=>jr row (by cases Z:bs with|nil=>exact absurd Z e|cons=>simp[bc]) H
 have P:uW I n p c bs 0 256:=⟨a4,row.frame F cb,cap,bG _,λe H=>bY (N _ H e),a',ag⟩;have M:=q.get L id;have A:=(f3.tt f4).get a2 id;have u:=f4.get a3 id;refine LU U ag 6 (bk _) I 0 256 _ _ F P (λJ t x next left' o tx Q f9=> ?_) (λJ e o f9=> ?_)
 .refine⟨_,_,_,_,_,_,_,_,rfl,aa.set (f9.get M ag) λm d1 d2 d3=>aa.ld d1 ?_⟩;have g:Fr (λy=>y=b) J m:=Fr.of_eq d2 (λc a=>d3 c a);have s:=Q.frame g ag (λy H e he=>bY (N y H e));refine⟨_,ar s.cT,aa.set d1 λC e1 e2 T=> ?_⟩;have G:Fr (λy=>y=b) m C:=Fr.of_eq e2 (λc a=>T c a);refine⟨ar (G.get s.cT ag),bw (G.get (g.get (f9.get A ag) ag) ag) (by show 0<1;omega) λD c1 c2 S=> ?_⟩;have j:Fr (λy=>y=b1) C D:=Fr.of_eq c2 (λc a=>S c a);refine bw (j.get (G.get (g.get (f9.get u ag) ag) ag) ag) (by show 0<1;omega) λW m1 m2 m3=> ?_
  have k:Fr (λy=>y=B) D W:=Fr.of_eq m2 (λc a=>m3 c a);refine Jw λX f14=>aa.ld (f14.get (k.get (j.get e1 ag) ag) id) ⟨_,ar (f14.get (k.get c1 ag) id),_,ar (f14.get m1 id),?_⟩
  have z4:=f4.1;have t13:=gl.frame f14 cb (gl.frame k (λy H e=>ag) (gl.frame j (λy H e=>ag) (gl.frame G (λy H e=>ag) (gl.frame g (λy H e=>ag) tx))));refine k1 X t x next (by unfold lg;rw[o]) (gl.mono (λy H=>ag) t13) ?_;exact((((((F.fresh f9 (λy e=>ag)).fresh g (λy e=>ag)).fresh G (λy e=>ag)).fresh j (λy e=>ag)).fresh k (λy e=>ag)).tt f14)
 .refine Jx (f9.get M ag) (f9.get A ag) (f9.get u ag) ag ag ag λm q1 q2 q3 g=>aa.ld q1 ⟨_,ar q2,_,ar q3,?_⟩
  exact k2 m e (by unfold lg;rw[o]) ((F.fresh f9 (λy e=>ag)).fresh g (λy e=>ag))

end Cb
end
section
variable {h:ai} {R:fp}
variable {k e i:cy} {j B d c g f:Nat} {x X:Int}
theorem LV.walk{n:Int}(l:aQ h (.cells #[.I 0,.U 0,.Z,.Z] 262) λb a=>aa.ST a (AA b 0) 0 n none 0 0 none 0 0 λH=>aa.LD H (AA b 0) λr m q p o u t s=>R (.agg #[.I r,.U m,.slice q p o,.slice u t s]) H):Cl 205 #[.U n] h R:=aO (lq ll) Tryz.func205 l
theorem Gl.walk(m:aQ h (.cells #[.I 0,.U 0,.Z,.Z] 262) λb a=>Cl 50 #[.slice k j B] a λv l=>Vl v λy w T=>aa.ST l (AA b 0) 2 0 y w T none 0 0 λH=>aa.LD H (AA b 0) λr n q p o u t s=>R (.agg #[.I r,.U n,.slice q p o,.slice u t s]) H):Cl 210 #[.slice k j B] h R:=aO (lq ll) Tryz.func210 m
theorem Jy.walk{s:ByteArray}(m:aQ h (.cells #[.I 0,.U 0,.Z,.Z] 262) λb a=>aW Tryz.prog (convert 9 22 (.string s)) a λv l=>Vl v λz y T=>aa.ST l (AA b 0) 3 0 z y T none 0 0 λH=>aa.LD H (AA b 0) λr n q p o w u t=>R (.agg #[.I r,.U n,.slice q p o,.slice w u t]) H):Cl 255 #[.string s] h R:=aO (lq ll) Tryz.func255 m
theorem Ee.walk(hv:aQ h (.cells #[.I x,.U X,.slice e d c,.slice i g f] 262) λb V=>aQ V (.cells #[.I 0,.U 0,.Z,.Z] 262) λo u=>Hl u b 2 λK' J' I'=>Cl 50 #[.slice K' J' I'] u λv Y=> ∃S Q P,v=.slice S Q P/\aS Y (AA b 2) (.slice S Q P) λw=> ∃z t j',Cc w b 3 (.slice z t j')/\aS w (AA b 3) (.Z) λZ=> ∃(I:Int->ai->Prop)(M:Int->ai->Nat),I 0 Z/\∀(t15:Int)(H:ai),I t15 H->if(decide (t15<((t:Nat):Int)))then Bd t15 t/\aL z λa=>aa.LD H (a.add (toNat t15*4)) λk' l' o' n' m' r' q' p'=>aQ H (.cells #[.I 0,.U 0,.Z,.Z] 262) λp a'=>aa.ST a' (AA p 0) k' l' o' n' m' r' q' p' λl=>Hl l b 3 λn m T=>aa.LD l (AA p 0) λs' t' w' v' u' z' y' x'=>Cl 288 #[.agg #[.I s',.U t',.slice w' v' u',.slice z' y' x']] l λL' y=> ∃A C F E D K J G,L'=.agg #[.I A,.U C,.slice F E D,.slice K J G]/\Cc y b 3 (.slice n m T)/\aQ y (.cells #[.I A,.U C,.slice F E D,.slice K J G] 262) λU q=>Cc q b 3 (.slice n m T)/\aW Tryz.prog (Builtin.append_ #[260,260] 260 #[.slice n m T,.slice (Sa U 0) 1 1]) q λM' W=> ∃O N L,M'=.slice O N L/\aS W (AA b 3) (.slice O N L) λr=>(I (wrap .i64 (t15+1)) r/\M (wrap .i64 (t15+1)) r<M t15 H)else aa.LD H (AA b 0) λA' B' E' D' C' H' G' F'=>aa.ST H (AA o 0) A' B' E' D' C' H' G' F' λs=>aa.LD s (AA o 0) λb' c' f' e' d' i' h' g'=>R (.agg #[.I b',.U c',.slice f' e' d',.slice i' h' g']) s):Cl 288 #[.agg #[.I x,.U X,.slice e d c,.slice i g f]] h R:=aO (lq (lq (lq (lq (sq (lq (bq (.loop [(15,.one (.int .i64))] (lq (sq (cq lf lf) (sq (bq (lq (pN 8))) lf)))))) ll))))) Tryz.func288 hv
theorem Jz.walk{u:cy}{L W:Nat}(V:aQ h (.cells #[.I 0,.U 0,.Z,.Z] 262) λb O=>aQ O (.cells #[.I 0,.U 0,.Z,.Z] 262) λl P=>aa.ST P (AA l 0) 4 0 none 0 0 none 0 0 λQ=> ∃(I:Int->ai->Prop)(M:Int->ai->Nat),I 0 Q/\∀(t9:Int)(H:ai),I t9 H->if(decide (t9<(L:Int)))then Bd t9 L/\aL u λa=>aa.LD H (a.add (toNat t9*4)) λg' h' k' j' i' n' m' l'=>aQ H (.cells #[.I 0,.U 0,.Z,.Z] 262) λo S=>aa.ST S (AA o 0) g' h' k' j' i' n' m' l' λm=>Hl m l 3 λn T t=>aa.LD m (AA o 0) λo' p' s' r' q' v' u' t'=>Cl 288 #[.agg #[.I o',.U p',.slice s' r' q',.slice v' u' t']] m λv r=> ∃w y C A z F E D,v=.agg #[.I w,.U y,.slice C A z,.slice F E D]/\Cc r l 3 (.slice n T t)/\aQ r (.cells #[.I w,.U y,.slice C A z,.slice F E D] 262) λN s=>Cc s l 3 (.slice n T t)/\aW Tryz.prog (Builtin.append_ #[260,260] 260 #[.slice n T t,.slice (Sa N 0) 1 1]) s λE' U=> ∃K J G,E'=.slice K J G/\aS U (AA l 3) (.slice K J G) λp=>(I (wrap .i64 (t9+1)) p/\M (wrap .i64 (t9+1)) p<M t9 H)else aa.LD H (AA l 0) λw' x' A' z' y' D' C' B'=>aa.ST H (AA b 0) w' x' A' z' y' D' C' B' λq=>aa.LD q (AA b 0) λY Z c' b' a' f' e' d'=>R (.agg #[.I Y,.U Z,.slice c' b' a',.slice f' e' d']) q):Cl 247 #[.slice u L W] h R:=aO (lq (lq (sq (lq (bq (.loop [(9,.one (.int .i64))] (lq (sq (cq lf lf) (sq (bq (lq (pN 8))) lf)))))) ll))) Tryz.func247 V
theorem wR.walk{b:cy}{A a:Nat}(H: ∃(t6:ByteArray),wu Tryz.prog 22 9 (.slice b A a) h t6/\∃(t8:ByteArray),wu Tryz.prog 22 9 (.slice k j B) h t8/\R (.bool (t6.toList==t8.toList)) h):Cl 82 #[.slice b A a,.slice k j B] h R:=aO (lq ll) Tryz.func82 H
theorem JA.walk{A:Int}{m:Int}{p:cy}{o n:Nat}{s:cy}{r q:Nat}{t:Int}{a:Int}{y:cy}{w u:Nat}{D:cy}{C z:Nat}(G:aQ h (.cells #[.I A,.U m,.slice p o n,.slice s r q] 262) λb E=>aQ E (.cells #[.I t,.U a,.slice y w u,.slice D C z] 262) λa H=>Hi H b 0 λt6=> ∃t8,Cc H a 0 (.I t8)/\if(t6==t8)then Hu H b 1 λt12=> ∃t14,Cc H a 1 (.U t14)/\if(t12==t14)then Hl H b 2 λJ I T=>Hl H a 2 λM L K=>Cl 82 #[.slice J I T,.slice M L K] H λv l=> ∃t22,v=.bool t22/\if t22 then Hl l b 3 λP O N=>Hl l a 3 λU S Q=>Cl 289 #[.slice P O N,.slice U S Q,.func (.func 248) #[] #[]] l λV F=> ∃t29,V=.bool t29/\R (.bool t29) F else R (.bool false) l else R (.bool false) H else R (.bool false) H):Cl 248 #[.agg #[.I A,.U m,.slice p o n,.slice s r q],.agg #[.I t,.U a,.slice y w u,.slice D C z]] h R:=aO (lq ll) Tryz.func248 G
theorem gi.same.walk{p:cy}{s w:Nat}{q:cy}{S y:Nat}(u:if((s:Int) !=(S:Int))then R (.bool false) h else∃(I:Int->ai->Prop)(M:Int->ai->Nat),I 0 h/\∀(t17:Int)(H:ai),I t17 H->if(decide (t17<(s:Int)))then Bd t17 s/\aL p λa=>aa.LD H (a.add (toNat t17*4)) λT z E D C J G F=>aQ H (.cells #[.I 0,.U 0,.Z,.Z] 262) λb r=>aa.ST r (AA b 0) T z E D C J G F λo=>Bd t17 S/\aL q λA=>aa.LD o (A.add (toNat t17*4)) λK L P O N V U Q=>aQ o (.cells #[.I 0,.U 0,.Z,.Z] 262) λn t=>aa.ST t (AA n 0) K L P O N V U Q λl=>aa.LD l (AA b 0) λW Y b' a' Z e' d' c'=>aa.LD l (AA n 0) λf' g' j' i' h' m' l' k'=>Cl 248 #[.agg #[.I W,.U Y,.slice b' a' Z,.slice e' d' c'],.agg #[.I f',.U g',.slice j' i' h',.slice m' l' k']] l λv m=> ∃t29,v=.bool t29/\if(!t29)then R (.bool false) m else(I (wrap .i64 (t17+1)) m/\M (wrap .i64 (t17+1)) m<M t17 H)else R (.bool true) H):Cl 289 #[.slice p s w,.slice q S y,.func (.func 248) #[] #[]] h R:=aO (lq (sq (lq (cq ll lf)) (sq (lq (bq (.loop [(17,.one (.int .i64))] (lq (sq (cq lf lf) (sq (bq (lq (lq (lq (cq ll lf))))) lf)))))) ll))) Tryz.func289 u
theorem LW.walk(o:aQ h (.cells #[.I x,.U X,.slice e d c,.slice i g f] 262) λb H=> ∃t4,Cc H b 0 (.I t4)/\if(t4==0)then∃F m E,Cc H b 2 (.slice F m E)/\if(((m:Nat):Int)==0)then∃q t p,Cc H b 3 (.slice q t p)/\R (.bool (((t:Nat):Int)==0)) H else R (.bool false) H else if(t4==2)then∃t20,Cc H b 1 (.U t20)/\if(t20==0)then∃s T r,Cc H b 3 (.slice s T r)/\R (.bool (((T:Nat):Int)==0)) H else R (.bool false) H else if(t4==3)then∃t31,Cc H b 1 (.U t31)/\if(t31==0)then∃w a u,Cc H b 3 (.slice w a u)/\if(((a:Nat):Int)==0)then Hl H b 2 λA z y=>Cl 316 #[.slice A z y] H λv n=> ∃t42,v=.bool t42/\R (.bool t42) n else R (.bool false) H else R (.bool false) H else if(t4==4)then∃t47,Cc H b 1 (.U t47)/\if(t47==0)then∃D l C,Cc H b 2 (.slice D l C)/\R (.bool (((l:Nat):Int)==0)) H else R (.bool false) H else R (.bool false) H):Cl 298 #[.agg #[.I x,.U X,.slice e d c,.slice i g f]] h R:=aO (lq (sq (lq (bq (lq (cq ll (lq (cq ll (lq (cq ll (lq (cq ll lf)))))))))) ll)) Tryz.func298 o
theorem JB.walk{deep:Int}{left:Int}(s:aQ h (.cells #[.I x,.U X,.slice e d c,.slice i g f] 262) λb l=>aG (λ(t19:Bool) (m:ai)=>if t19 then R (.I (-1)) m else Hl m b 3 λE t e'=> ∃(I:Int->Int->ai->Prop)(M:Int->Int->ai->Nat),I (wrap .i64 (left - 1)) 0 m/\∀(L:Int)(t25:Int)(H:ai),I L t25 H->if(decide (t25<(t:Int)))then Bd t25 t/\aL E λa=>aa.LD H (a.add (toNat t25*4)) λF G O N K S Q P=>aQ H (.cells #[.I 0,.U 0,.Z,.Z] 262) λo q=>aa.ST q (AA o 0) F G O N K S Q P λp=>aa.LD p (AA o 0) λU V Z Y W c' b' a'=>Cl 260 #[.agg #[.I U,.U V,.slice Z Y W,.slice c' b' a'],.I (wrap .i64 (deep+1)),.I L] p λv n=> ∃t33,v=.I t33/\if(decide (t33<0))then R (.I (-1)) n else(I t33 (wrap .i64 (t25+1)) n/\M t33 (wrap .i64 (t25+1)) n<M L t25 H)else R (.I L) H) (λJ=>if(decide (deep>6))then J true l else if(decide (left<1))then J true l else aa.LD l (AA b 0) λT u z y w D C A=>Cl 298 #[.agg #[.I T,.U u,.slice z y w,.slice D C A]] l λd' r=> ∃t17,d'=.bool t17/\J (!t17) r)):Cl 260 #[.agg #[.I x,.U X,.slice e d c,.slice i g f],.I deep,.I left] h R:=aO (lq (sq (sq (.join [(19,.one (.bool))] lf) (cq ll lf)) (lq (sq (lq (bq (.loop [(2,.one (.int .i64)),(25,.one (.int .i64))] (lq (sq (cq lf lf) (sq (bq (lq (lq (lq (cq ll lf))))) lf)))))) ll)))) Tryz.func260 s
theorem Gm.walk(l:aQ h (.cells #[.I x,.U X,.slice e d c,.slice i g f] 262) λb H=>aa.LD H (AA b 0) λt T o n m r q p=>Cl 260 #[.agg #[.I t,.U T,.slice o n m,.slice r q p],.I 1,.I 256] H λv a=> ∃t4,v=.I t4/\R (.bool (decide (t4≥0))) a):Cl 207 #[.agg #[.I x,.U X,.slice e d c,.slice i g f]] h R:=aO (lq ll) Tryz.func207 l
theorem LX.walk{K:cy}{G F:Nat} (hv:aQ h (.cells #[.I x,.U X,.slice e d c,.slice i g f] 262) λb m=>Hu m b 1 λt11=>Hi m b 0 λt13=>aG (λ(n:Int) (y:ai)=>Hi y b 0 λt29=>Cl 261 #[.agg #[.I t29,.U n,.bool false]] y λv z=> ∃S Q P i',v=.tuple #[.slice S Q P,.I i']/\Hl z b 2 λW V U=>aW Tryz.prog (Builtin.append_ #[22,22] 22 #[.slice K G F,.slice S Q P]) z λG' A=>Vl G' λl' k' j'=>Cc A b 2 (.slice W V U)/\aW Tryz.prog (Builtin.append_ #[22,22] 22 #[.slice l' k' j',.slice W V U]) A λH' C=>Vl H' λo' n' m'=>Hl C b 3 λp' Y J'=> ∃(I:cy->Nat->Nat->Int->ai->Prop)(M:cy->Nat->Nat->Int->ai->Nat),I o' n' m' 0 C/\∀(p:cy)(O o:Nat)(t44:Int)(l:ai),I p O o t44 l->if(decide (t44<(Y:Int)))then Bd t44 Y/\aL p' λa=>aa.LD l (a.add (toNat t44*4)) λq' r' u' t' s' x' w' v'=>aQ l (.cells #[.I 0,.U 0,.Z,.Z] 262) λw b'=>aa.ST b' (AA w 0) q' r' u' t' s' x' w' v' λD=>aa.LD D (AA w 0) λy' z' C' B' A' F' E' D'=>Cl 208 #[.slice p O o,.agg #[.I y',.U z',.slice C' B' A',.slice F' E' D']] D λI' E=> ∃q T t,I'=.slice q T t/\(I q T t (wrap .i64 (t44+1)) E/\M q T t (wrap .i64 (t44+1)) E<M p O o t44 l)else R (.slice p O o) l) (λJ=>aG (λ(t14:Bool) (H:ai)=>aG (λ(c':Int) (Z:ai)=>J c' Z) (λs=>if t14 then∃f' L e',Cc H b 2 (.slice f' L e')/\s (wrap .u64 ((L:Nat):Int)) H else aG (λ(d':Int) (a':ai)=>s d' a') (λu=>if(t13==4)then∃h' N g',Cc H b 3 (.slice h' N g')/\u (wrap .u64 ((N:Nat):Int)) H else u t11 H))) (λr=>if(t13==2)then r (t13==2) m else r (t13==3) m))):Cl 208 #[.slice K G F,.agg #[.I x,.U X,.slice e d c,.slice i g f]] h R:=aO (lq (lq (sq (lq (.join [(5,.one (.int .u64))] (bq (sq (lq (.join [(14,.one (.bool))] (cq lf lf))) (.join [(5,.one (.int .u64))] (cq lf (lq (.join [(5,.one (.int .u64))] (cq lf lf))))))))) (lq (sq (.iC (.op 0 (.op 1 (.op 3 (.op 4 (.op 2 (.op 5 (.op 6 .done)))))))) (sq (lq (bq (.loop [(0,.one (.slice)),(44,.one (.int .i64))] (lq (sq (cq lf lf) (sq (bq ll) lf)))))) ll)))))) Tryz.func208 hv
theorem Gn.walk(n:aQ h (.cells #[.I x,.U X,.slice e d c,.slice i g f] 262) λb a=>aa.LD a (AA b 0) λo p s r q y w u=>Cl 207 #[.agg #[.I o,.U p,.slice s r q,.slice y w u]] a λv H=> ∃t5,v=.bool t5/\if(!t5)then R (.tuple #[.Z,.I 3]) H else aa.LD H (AA b 0) λz A E D C I G F=>Cl 208 #[.Z,.agg #[.I z,.U A,.slice E D C,.slice I G F]] H λV m=> ∃l T t,V=.slice l T t/\R (.tuple #[.slice l T t,.I 0]) m):Cl 178 #[.agg #[.I x,.U X,.slice e d c,.slice i g f]] h R:=aO (lq (sq (lq (cq ll lf)) ll)) Tryz.func178 n

end
section
namespace Cb
variable {h h':ai} {R:fp} {p:cy} {l c:Nat} {bs:cD}
variable {D:Nat->Prop} {t:Tr} {x:CV} {g0:ai} {bb cl:Nat} {k n:Int} {v:BV} {ts:List Tr} {ys:List CV} {q:cy}
def rU(h:ai)(D:Nat->Prop)(t:Tr)(x:CV):Prop:=(x.k=t.k/\x.n=t.n/\x.v.b=t.b/\x.v.ok h D)/\∃ys:List CV,x.ll=ys.length/\fJ h x.q ys.length x.cl 4 (ys.flatMap hN)/\(∀y,aR x.q y->D y)/\df h (λy=>D y/\¬aR x.q y) t.l ys
theorem rU.Q3(H:rU h D t x):gl h D t x:=by
 obtain⟨e,ys,a,d,f,g⟩:=H;cases t with
 |mk k n b l=>
  unfold gl;exact⟨e,ys,⟨a,d.iw,λ_=>f,by rw[a];exact d.le⟩,df.mono (λ_ i=>i.1) g⟩
structure PJ (g0 g:ai) (bb:Nat) (k n:Int) (v:BV) (ts:List Tr) (ys:List CV) (q:cy) (cl:Nat):Prop where
 cT:aa.at g bb k n v.p v.b.length v.c q ys.length cl
 own:fJ g q ys.length cl 4 (ys.flatMap hN)
 ge: ∀y,aR q y->g0.size<=y
 tr:df g (λy=>g0.size<=y/\¬aR q y) ts ys
 fr:Fr (λy=>y=bb) g0 g
theorem Ef{g:ai}{y:CV}{Φ:ai->Prop}(L:PJ g0 g bb k n v ts ys q cl)(w':bb<g0.size)(ll:ys.length<=100000000)(U: ∀(G:ai)(R:fp),Fr No g G->(∀h' z,rU h' (λc=>G.size<=c) t z->Fr No G h'->R z.agg h')->Cl 288 #[y.agg] G R)(hk: ∀m Y q' C,PJ g0 m bb k n v (ts++ [t]) Y q' C->Y.length=ys.length+1->Φ m):
  aQ g (.cells #[.I 0,.U 0,.Z,.Z] 262) λB d'=>
  aa.ST d' (AA B 0) y.k (y.n:Int) y.v.p y.v.b.length y.v.c y.q y.ll y.cl λj=>
  ∃(f:cy)(d T:Nat),bg j (AA bb 3)=some (.slice f d T)/\
  aa.LD j (AA B 0) λj' k' n' m' l' r' p' o'=>
  Cl 288 #[.agg #[.I j',.U k',.slice n' m' l',.slice r' p' o']] j λs' s=>
  ∃(u w:Int)(I:cy)(E A:Nat)(M:cy)(K J:Nat),s'=.agg #[.I u,.U w,.slice I E A,.slice M K J]/\
  bg s (AA bb 3)=some (.slice f d T)/\
  aQ s (.cells #[.I u,.U w,.slice I E A,.slice M K J] 262) λW r=>
  bg r (AA bb 3)=some (.slice f d T)/\
  aW Tryz.prog (Builtin.append_ #[260,260] 260 #[.slice f d T,.slice (Sa W 0) 1 1]) r λt' b'=>
  ∃(S:cy)(P O:Nat),t'=.slice S P O/\
  aS b' (AA bb 3) (.slice S P O) λc'=>Φ c':=by
 have zg:=L.fr.1;refine aa.new λb2 h8 u' e' f8=>⟨_,_,_,ar (f8.get L.cT id),aa.ld e' (U h8 _ f8 λh9 z tz f9=>⟨_,_,_,_,_,_,_,_,rfl,ar ((f8.tt f9).get L.cT id),aa.box λb3 Z v' f' f10=>⟨ar (((f8.tt f9).tt f10).get L.cT id),?_⟩⟩)⟩
 have F:=(f8.tt f9).tt f10;have z8:=f8.1;have z9:=f9.1;have x':=f10.1;have g':=L.own.frame F cb;have Q: ∀y,aR q y->y<g.size:=λy H=>L.own.dY H
 refine dT tI uI g' (ds:=hN z) (.inr ⟨_,rfl,aa.held f'⟩) rfl (nt z) ag ag λq' C a' i' _ f11 i=>⟨_,_,_,rfl,?_⟩
 have y':=f11.1;have V:=f11.get (F.get L.cT id) (λH=>bY (L.ge _ H));refine bw V (by show 3<4;omega) λo d1 d2 d3=> ?_
 have f12:Fr (λy=>y=bb) a' o:=Fr.of_eq d2 (λc hc=>d3 c hc);have N: ∀y,aR q' y->g0.size<=y:=λy H=>by
  rcases i y H with a|a
  .exact L.ge y a
  .omega
 have X:ys.flatMap hN++hN z=(ys++ [z]).flatMap hN:=by rw[da];simp
 refine hk o (ys++ [z]) q' C ⟨?_,?_,N,?_,?_⟩ bP
 .rw[aA];exact d1
 .rw[aA,<-X];exact i'.frame f12 (λy H e=>bY (N y H))
 .have t1:=(df.on L.tr.lt F).frame f11 (λy H b=>H.1.2 b);have t2:=gl.mono (D':=λy=>g.size<=y/\y<Z.size) (λy H=>ag) (tz.Q3.lt.on f10);have t2:=gl.frame f11 (λy H b=>bY (Q y b)) t2;have m1:=df.mono (D':=λy=>g0.size<=y/\¬aR q' y) (λy H=>⟨H.1.1,λb=>by
   rcases i y b with a|a
   .exact H.1.2 a
   .have:=H.2;omega⟩) t1
  have m2:=gl.mono (D':=λy=>g0.size<=y/\¬aR q' y) (λy H=>⟨ag,λb=>by
   rcases i y b with a|a
   .have:=Q y a;omega
   .omega⟩) t2
  exact df.frame f12 (λy H e=>ag) (m1.snoc m2)
 .exact((L.fr.on F).trans f11 (S'':=λy=>y=bb) cb (λx hx H=>bY (L.ge x H))).trans f12 cb cb
theorem fX{n:Nat}(hk: gL h R (CV.agg ⟨0,n,⟨none,0, []⟩,none,0,0⟩)):Cl 205 #[.U (n:Int)] h R:=
 LV.walk (aa.new λb H e a f2=>aa.ld a (hk H f2))
theorem Qn{n:Nat}:rU h D (num n) ⟨0,n,⟨none,0, []⟩,none,0,0⟩:=
 ⟨⟨rfl,rfl,rfl,⟨Row.nil,λe=>absurd rfl e,bk _⟩⟩, [],rfl,.nil rfl rfl rfl rfl,(λy ⟨a,e,_⟩=>by cases e),by show df h _ [] [];unfold df;trivial⟩
theorem ny(row:Row h p (bc bs))(j:l=bs.length)(o:bs.length<=1000000)(hk: ∀h' (v:BV),v.b=bs->v.ok h' (λy=>h.size<=y)->Fr No h h'->R (CV.agg ⟨2,0,v,none,0,0⟩) h'):Cl 210 #[.slice p l c] h R:=by
 refine Gl.walk (aa.box λb m E d f1=>kK.gF (row.frame f1 cb) j ag λP c' f o2 f2 g=>⟨_,_,_,rfl,aa.set (f2.get d id) λa d1 d2 d3=>aa.ld d1 ?_⟩);have z:=f1.1;have f3:Fr (λy=>y=b) f a:=Fr.of_eq d2 (λc i=>d3 c i);refine hk a ⟨P,c',bs⟩ rfl (BV.kU (o2.frame f3 (λy H e=>hY (g y H) (aD d))) (λy H=>bY (g y H))) ((f1.tt f2).fresh f3 (λy e=>ag))
theorem lQ{l:List Tr}(h:t∈l):room t<=dk l:=by
 induction l with
 |nil=>cases h
 |cons u l i=>
  simp only[dk];rcases bH.1 h with rfl|h
  .omega
  .have:=i h;omega
theorem PJ.zero(H:aa.at g0 bb k n v.p v.b.length v.c none 0 0):PJ g0 g0 bb k n v [] [] none 0:=
 ⟨H,.nil rfl rfl rfl rfl,(λy ⟨a,e,_⟩=>by cases e),by unfold df;trivial,Fr.refl _ _⟩
theorem yR: ∀(N:Nat)(t:Tr),deep t<=N->room t<=100000000->∀(h:ai)(D:Nat->Prop)(x:CV)(R:fp),gl h D t x->(∀h' z,rU h' (λy=>h.size<=y) t z->Fr No h h'->R z.agg h')->Cl 288 #[x.agg] h R
 |0,.mk k n b l,hd,_,_,_,_,_,_,_=>by simp only[deep]at hd;omega
 |N+1,.mk k n b l,hd,Y,h,D,x,R,B,hk=>by
  simp only[deep]at hd;simp only[room]at Y;unfold gl at B;obtain⟨⟨rfl,rfl,rfl,a'⟩,ys,j,T⟩:=B;have lt:=T.len;have l9:=gG l;have e0:=j.len;refine Ee.walk (aa.box λbb h1 e' m f1=>aa.box λb1 h2 d' s f2=>⟨_,_,_,ar (f2.get m id),kK.gF ((a'.row.frame f1 cb).frame f2 cb) rfl ag λP c' V o3 f3 G=>⟨_,_,_,rfl,bw (f3.get (f2.get m id) id) (by show 2<4;omega) λr d1 d2 d3=>⟨_,_,_,ar d1,bw d1 (by show 3<4;omega) λf e1 e2 Q=> ?_⟩⟩⟩);have j':=aD m;have i':=aD s;have z1:=f1.1;have z2:=f2.1;have z3:=f3.1;have f4:Fr (λy=>y=bb) V r:=Fr.of_eq d2 (λc d=>d3 c d);have f5:Fr (λy=>y=bb) r f:=Fr.of_eq e2 (λc d=>Q c d);have I:=f1.tt (f2.tt f3);have J:Fr No h f:=(I.fresh f4 (λy e=>ag)).fresh f5 (λy e=>ag);have W:=f5.get (f4.get (f3.get s id) ag) ag;have o5:=(o3.frame f4 (λy H e=>bY (G y H))).frame f5 (λy H e=>bY (G y H));have C:=PJ.zero (g0:=f) (bb:=bb) (k:=x.k) (n:=(x.n:Int)) (v:=⟨P,c',x.v.b⟩) e1;refine⟨λt g=> ∃(i:Nat)(zs:List CV)(q:cy)(cl:Nat),t=(i:Int)/\i<=ys.length/\PJ f g bb x.k (x.n:Int) ⟨P,c',x.v.b⟩ (l.take i) zs q cl/\zs.length=i,λt _=>ys.length - t.toNat,⟨0, [],none,0,rfl,bG _,by rw[dV];exact C,rfl⟩,?_⟩;rintro _ g ⟨i,zs,q,cl,rfl,hi,L,lz⟩;have F:Fr No h g:=J.fresh L.fr (λy e=>ag);by_cases u:i<ys.length
  .rw[fK];have H:ys[i]? =some ys[i]:=aj u;generalize ys[i]=y at H;obtain⟨t,w,ty⟩:=T.get H;have tm:=bn w;have d1:=qN tm;have r1:=lQ tm;obtain⟨a,E⟩:=j.row.some (by intro e;have:=bU List.length e;rw[eU hN 4 gu,bz]at this;omega);rw[E];have A:=j.row.frame F cb;rw[E]at A;refine⟨ag,aw.2 (aa.FA (by rw[aI];exact A.gJ gu H) (Ef (t:=t) L ag ag (λU M S X=>yR N t ag ag U D y M (ty.on (F.tt S)) X) λg' b' q' O K f'=> ?_))⟩;rw[bD (n:=(i:Int)+1) ag ag];refine⟨⟨i+1,b',q',O,ag,ag,?_,ag⟩,by show ys.length - Int.toNat ((i:Int)+1)<ys.length - Int.toNat (i:Int);omega⟩;rw[bQ,w];exact K
  .rw[ae (λe=>u (bY (aU e)))];rw[bJ (show l.length<=i by omega)]at L;refine aa.ld L.cT (aa.set (L.fr.get W ag) λo Z k2 k3=>aa.ld Z ?_);have f13:Fr (λy=>y=b1) g o:=Fr.of_eq k2 (λc d=>k3 c d);have og:=o5.frame L.fr (λy H e=>bY (G y H));refine hk o ⟨x.k,x.n,⟨P,c',x.v.b⟩,q,zs.length,cl⟩ ⟨⟨rfl,rfl,rfl,BV.kU (og.frame f13 (λy H e=>bY (G y H))) (λy H=>bY (G y H))⟩,zs,rfl,L.own.frame f13 (λy H e=>qW (L.ge y H) f4.1 f5.1),(λy H=>qW (L.ge y H) f4.1 f5.1),?_⟩ (F.fresh f13 (λy e=>ag));exact df.mono (λy H=>⟨qW H.1 f4.1 f5.1,H.2⟩) (df.frame f13 (λy H e=>qW H.1 f4.1 f5.1) L.tr)
theorem qO(T:gl h D t x)(H:room t<=100000000)(hk: ∀h' z,rU h' (λy=>h.size<=y) t z->Fr No h h'->R z.agg h'):Cl 288 #[x.agg] h R:=
 yR (deep t) t (bk _) H h D x R T hk
theorem jC(b:kX h D q l cl ys)(T:df h D ts ys)(Y:dk ts<=100000000)(hk: ∀h' z,rU h' (λy=>h.size<=y) (qZ ts) z->Fr No h h'->R z.agg h'):Cl 247 #[.slice q l cl] h R:=by
 have lt:=T.len;have l9:=gG ts;have P:=b.len;refine Jz.walk (aa.box λb1 W Q j f1=>aa.new λbb f S m f2=> ?_);have c':=aD m;have b':=aD j;have z1:=f1.1;have z2:=f2.1;have s:=f1.tt f2;have E:=f2.get j id;have C:=PJ.zero (g0:=f) (bb:=bb) (k:=4) (n:=0) (v:=⟨none,0, []⟩) m;refine⟨λt g=> ∃(i:Nat)(zs:List CV)(q:cy)(cl:Nat),t=(i:Int)/\i<=ys.length/\PJ f g bb 4 0 ⟨none,0, []⟩ (ts.take i) zs q cl/\zs.length=i,λt _=>ys.length - t.toNat,⟨0, [],none,0,rfl,bG _,by rw[dV];exact C,rfl⟩,?_⟩;rintro _ g ⟨i,zs,q2,A,rfl,X,L,lz⟩;have F:Fr No h g:=s.fresh L.fr (λy e=>ag);by_cases o:i<ys.length
 .rw[fK];have H:ys[i]? =some ys[i]:=aj o;generalize ys[i]=y at H;obtain⟨t,r,ty⟩:=T.get H;have r1:=lQ (bn r);obtain⟨a,rfl⟩:=b.row.some (by intro e;have:=bU List.length e;rw[eU hN 4 gu,bz]at this;omega);have N:=b.row.frame F cb;refine⟨ag,aw.2 (aa.FA (by rw[aI];exact N.gJ gu H) (Ef (t:=t) L ag ag (λV O B I=>qO (ty.on (F.tt B)) ag I) λU Z q' w u a'=> ?_))⟩;rw[bD (n:=(i:Int)+1) ag ag];refine⟨⟨i+1,Z,q',w,ag,ag,?_,ag⟩,by show ys.length - Int.toNat ((i:Int)+1)<ys.length - Int.toNat (i:Int);omega⟩;rw[bQ,r];exact u
 .rw[ae (λe=>o (bY (aU e)))];rw[bJ (show ts.length<=i by omega)]at L;refine aa.ld L.cT (aa.set (L.fr.get E ag) λd K J M=>aa.ld K ?_);have f13:Fr (λy=>y=b1) g d:=Fr.of_eq J (λc G=>M c G);refine hk d ⟨4,0,⟨none,0, []⟩,q2,zs.length,A⟩ ⟨⟨rfl,rfl,rfl,⟨Row.nil,λe=>absurd rfl e,bk _⟩⟩,zs,rfl,L.own.frame f13 (λy H e=>bY (L.ge y H)),(λy H=>bY (L.ge y H)),?_⟩ (F.fresh f13 (λy e=>ag));exact df.mono (λy H=>⟨bY H.1,H.2⟩) (df.frame f13 (λy H e=>bY H.1) L.tr)

end Cb
end
section
namespace Cb
variable {V:cD→Bool} {h H h':ai} {R:fp} {D:Nat→Prop}
variable {t:Tr} {x:CV}
theorem Gp{α:Type}(b:List α):(((b.length:Int))==0)=b.isEmpty:=by
 cases b with
 |nil=>rfl
 |cons a b=>simp only[bf,List.isEmpty_cons,db,en];omega
theorem Gq(U:ke V H)(u:Fr No H h)(T:gl h D t x)(q:room t<=1000000)(hk: gL h R (.bool (LC V t.k t.n t.b t.l))):Cl 298 #[x.agg] h R:=by
 cases t with
 |mk k n b l=>
  simp only[room]at q;unfold gl at T;obtain⟨⟨rfl,rfl,rfl,O⟩,ys,L,p⟩:=T;have ll:x.ll=l.length:=by rw[L.len,p.len]
  have hk: ∀h' o,o=LC V x.k x.n x.v.b l->Fr No h h'->R (.bool o) h':=λh' o e f=>by rw[e];exact hk h' f
  unfold LC at hk;have N:((x.n:Int)==0)=decide (x.n=0):=by by_cases e:x.n=0<;>simp[e]
  refine LW.walk (aa.box λbb a E c f1=>⟨_,ar c,?_⟩);by_cases K:x.k=0
  .rw[af (cA K)];simp only[K,bj]at hk;refine⟨_,_,_,ar c,?_⟩;rw[Gp];by_cases e:x.v.b.isEmpty=true
   .rw[af e];refine⟨_,_,_,ar c,hk a _ ?_ f1⟩;rw[ll,Gp,e];rfl
   .rw[ae e];refine hk a _ ?_ f1;rw[show x.v.b.isEmpty=false by cases m:x.v.b.isEmpty with|false=>rfl|true=>exact absurd m e];rfl
  rw[ae (cA K)];simp only[K,aM]at hk;by_cases d:x.k=2
  .rw[af (cA d)];simp only[d,bj]at hk;refine⟨_,ar c,?_⟩;rw[N];by_cases e:x.n=0
   .rw[af (av e)];refine⟨_,_,_,ar c,hk a _ ?_ f1⟩;rw[ll,Gp,av e];rfl
   .rw[ae (by rw[az e];decide)];refine hk a _ ?_ f1;rw[az e];rfl
  rw[ae (cA d)];simp only[d,aM]at hk;by_cases i:x.k=3
  .rw[af (cA i)];simp only[i,bj]at hk;refine⟨_,ar c,?_⟩;rw[N];by_cases e:x.n=0
   .rw[af (av e)];refine⟨_,_,_,ar c,?_⟩;rw[ll,Gp];by_cases e2:l.isEmpty=true
    .rw[af e2];exact⟨_,_,_,ar c,U a _ _ x.v.b _ (u.tt f1) (O.row.frame f1 cb) ag O.cap λg F=>⟨_,rfl,hk g _ (by rw[av e,e2];rfl) (f1.tt F)⟩⟩
    .rw[ae e2];refine hk a _ ?_ f1;rw[show l.isEmpty=false by cases m:l.isEmpty with|false=>rfl|true=>exact absurd m e2,Bool.and_false];rfl
   .rw[ae (by rw[az e];decide)];refine hk a _ ?_ f1;rw[az e];rfl
  rw[ae (cA i)];simp only[i,aM]at hk;by_cases j:x.k=4
  .rw[af (cA j)];simp only[j,bj]at hk;refine⟨_,ar c,?_⟩;rw[N];by_cases e:x.n=0
   .rw[af (av e)];refine⟨_,_,_,ar c,hk a _ ?_ f1⟩;rw[Gp,av e];rfl
   .rw[ae (by rw[az e];decide)];refine hk a _ ?_ f1;rw[az e];rfl
  rw[ae (cA j)];simp only[j,aM]at hk;exact hk a _ rfl f1
theorem Eh(U:ke V H): ∀(N:Nat)(t:Tr),deep t<=N->room t<=1000000->∀(h:ai)(D:Nat->Prop)(x:CV)(d left:Int)(R:fp),Fr No H h->gl h D t x->0<=d->d<=7->left<=1000->
  (gL h R (.I (mF V t d left)))->Cl 260 #[x.agg,.I d,.I left] h R
 |0,.mk k n b l,hd,_,_,_,_,_,_,_,_,_,_,_,_,_=>by simp only[deep]at hd;omega
 |N+1,.mk k n b l,hd,w,h,D,x,d,left,R,u,T,d0,d7,hl,hk=>by
  have X:=T;simp only[deep]at hd;have P:=w;simp only[room]at w;unfold gl at T;obtain⟨⟨rfl,rfl,rfl,d'⟩,ys,L,m⟩:=T;have lt:=m.len;have l9:=gG l;have Z:=L.len;refine JB.walk (aa.box λbb p b' s f1=>aG.of λJ r=> ?_);have bad: ∀g,Fr No h g->mF V (.mk x.k x.n x.v.b l) d left= -1->J true g:=λg f c=>by
   subst r;dsimp only;rw[af rfl];have:=hk g f;rw[c]at this;exact this
  by_cases c1:d>6
  .rw[af (av c1)];exact bad p f1 (by unfold mF;rw[af (.inl c1)])
  rw[ae (λe=>c1 (aU e))];by_cases c2:left<1
  .rw[af (av c2)];exact bad p f1 (by unfold mF;rw[af (.inr c2)])
  rw[ae (λe=>c2 (aU e))];have C: ¬(d>6\/left<1):=λe=>e.elim c1 c2
  unfold mF at hk bad;rw[ae C]at hk bad;refine aa.ld s (Gq U (u.tt f1) (X.on f1) P λG f2=>⟨_,rfl,?_⟩);simp only[Tr.k,Tr.n,Tr.b,Tr.l];generalize LC V x.k x.n x.v.b l=o at hk bad⊢;cases o with
  |false=>exact bad G (f1.tt f2) (by rw[dc])
  |true=>
   rw[af rfl]at hk;subst r;rw[dc];have O:=f2.get s id;refine⟨_,_,_,ar O,?_⟩;rw[bD (n:=left - 1) ag ag];refine⟨λlf t g=> ∃i:Nat,t=(i:Int)/\i<=ys.length/\Fr No h g/\lf<=1000/\0<=lf/\lZ V (l.drop i) (d+1) lf=lZ V l (d+1) (left - 1),λ_ t _=>ys.length - t.toNat,⟨0,rfl,bG _,f1.tt f2,ag,ag,rfl⟩,?_⟩;rintro lf _ g ⟨i,rfl,hi,f,S,c',c⟩;by_cases v:i<ys.length
   .rw[fK];have j:ys[i]? =some ys[i]:=aj v;generalize ys[i]=y at j;obtain⟨t,z,ty⟩:=m.get j;have tm:=bn z;have Y:=qN tm;have rm:=lQ tm;have B:l.drop i=t::l.drop (i+1):=by
     obtain⟨q1,q2⟩:=aB.1 z;rw[cI q1,q2]
    rw[B]at c;obtain⟨a,E⟩:=L.row.some (by intro e;have:=bU List.length e;rw[eU hN 4 gu,bz]at this;omega);rw[E];have A:=L.row.frame f cb;rw[E]at A;refine⟨ag,aw.2 (aa.FA (by rw[aI];exact A.gJ gu j) (aa.new λb1 I a' M f5=>aa.ld M ?_))⟩;rw[bD (n:=d+1) ag ag];refine Eh U N t ag ag I D y (d+1) lf _ (u.tt (f.tt f5)) (ty.on (f.tt f5)) ag ag S λK f6=>⟨_,rfl,?_⟩
    have F:=f.tt (f5.tt f6);have W:=DX (V:=V) (t:=t) (d:=d+1) (left:=lf);conv at c=>lhs;unfold lZ
    generalize mF V t (d+1) lf=q at c W⊢;by_cases Q:q<0
    .rw[af (av Q)];rw[af Q]at c;have:=hk K F;rw[<-c]at this;exact this
    .rw[ae (λe=>Q (aU e)),bD (n:=(i:Int)+1) ag ag];rw[ae Q]at c;exact⟨⟨i+1,ag,ag,F,ag,ag,c⟩,by show ys.length - Int.toNat ((i:Int)+1)<ys.length - Int.toNat (i:Int);omega⟩
   .rw[ae (λe=>v (bY (aU e)))];rw[dC (show l.length<=i by omega)]at c;have:=hk g f;rw[<-c]at this;unfold lZ at this;exact this
theorem e8(U:ke V H)(u:Fr No H h)(T:gl h D t x)(d:room t<=1000000)(hk: gL h R (.bool (gO V t))):Cl 207 #[x.agg] h R:=
 Gm.walk (aa.box λbb a e c f1=>aa.ld c (Eh U (deep t) t (bk _) d a D x 1 256 _ (u.tt f1) (T.on f1) di di di λb f2=>⟨_,rfl,hk b (f1.tt f2)⟩))

end Cb
end
section
namespace Cb
variable {h:ai} {R:fp} {D D':Nat→Prop}
theorem jH{p q:cy}{n m c d:Nat}{a b:cD}(r:Row h p (bc a))(g:Row h q (bc b))(f:n=a.length)(H:m=b.length)(hk:R (.bool (decide (a=b))) h):Cl 82 #[.slice p n c,.slice q m d] h R:=by
 refine wR.walk ⟨_,kK.conv r f,_,kK.conv g H,?_⟩;rw[tp,tp];have:(a==b)=decide (a=b):=by by_cases e:a=b<;>simp[e]
 rw[this];exact hk
theorem Ei: ∀(N:Nat)(t s:Tr),deep t<=N->room t<=100000000->∀(h:ai)(D D':Nat->Prop)(x y:CV)(R:fp),gl h D t x->gl h D' s y->(gL h R (.bool (mW t s)))->Cl 248 #[x.agg,y.agg] h R
 |0,.mk k n b l,_,hd,_,_,_,_,_,_,_,_,_,_=>by simp only[deep]at hd;omega
 |N+1,.mk k n b l,.mk k' n' b' L,hd,Z,h,D,D',x,y,R,K,ty,hk=>by
  simp only[deep]at hd;simp only[room]at Z;unfold gl at K ty;obtain⟨⟨rfl,rfl,rfl,c'⟩,xs,o,T⟩:=K;obtain⟨⟨rfl,rfl,rfl,d'⟩,ys,p,z⟩:=ty;have lx:=T.len;have ly:=z.len;have l9:=gG l;have ex:=o.len;have Q:=p.len;refine JA.walk (aa.box λb1 h1 e' V f1=>aa.box λb2 d f' m f2=> ?_);have F:=f1.tt f2;have j:=f2.get V id;have no: ∀g,Fr No h g->mW (.mk x.k x.n x.v.b l) (.mk y.k y.n y.v.b L)=false->R (.bool false) g:=λg f e=>by have:=hk g f;rw[e]at this;exact this
  refine⟨_,ar j,_,ar m,?_⟩;by_cases c1:x.k=y.k
  case neg=>
   rw[ae (cA c1)];exact no d F (by unfold mW;rw[az c1];rfl)
  rw[af (cA c1)];refine⟨_,ar j,_,ar m,?_⟩;by_cases c2:x.n=y.n
  case neg=>
   rw[ae (λe=>c2 (bY (eq_of_beq e)))];exact no d F (by unfold mW;rw[az c2,Bool.and_false];rfl)
  rw[af (by rw[c2];simp)];refine⟨_,_,_,ar j,_,_,_,ar m,jH (c'.row.frame F cb) (d'.row.frame F cb) rfl rfl ⟨_,rfl,?_⟩⟩;by_cases C:x.v.b=y.v.b
  case neg=>
   rw[ae (cA C)];exact no d F (by unfold mW;rw[az C,Bool.and_false];rfl)
  rw[af (cA C)];have M:mW (.mk x.k x.n x.v.b l) (.mk y.k y.n y.v.b L)=re l L:=by unfold mW;rw[av c1,av c2,av C];simp
  rw[M]at hk;refine⟨_,_,_,ar j,_,_,_,ar m,?_⟩;rw[ex,Q];have done: ∀g,Fr No h g->∀q,q=re l L->∃t29:Bool,Value.bool q=.bool t29/\R (.bool t29) g:=λg f q e=>⟨q,rfl,by rw[e];exact hk g f⟩
  refine gi.same.walk ?_;by_cases cl:xs.length=ys.length
  case neg=>
   rw[af (by simp only[cU,en];omega)];refine done d F false ?_;cases Y:re l L with
   |false=>rfl
   |true=>exact absurd (bU List.length ((yF l L).1 Y)) ag
  rw[ae (by simp only[cU,en];omega)];refine⟨λt g=> ∃i:Nat,t=(i:Int)/\i<=xs.length/\Fr No h g/\re l L=re (l.drop i) (L.drop i),λt _=>xs.length - t.toNat,⟨0,rfl,bG _,F,rfl⟩,?_⟩;rintro _ g ⟨i,rfl,hi,f,H⟩;by_cases B:i<xs.length
  .rw[fK];have r:xs[i]? =some xs[i]:=aj B;have w:ys[i]? =some (ys[i]' ag):=aj _;generalize xs[i]=u at r;generalize ys[i]' ag=v at w;obtain⟨t,G,tu⟩:=T.get r;obtain⟨s,hs,tv⟩:=z.get w;have tm:=bn G;have dm:=qN tm;have rm:=lQ tm;have O:l.drop i=t::l.drop (i+1):=by
    obtain⟨q1,q2⟩:=aB.1 G;rw[cI q1,q2]
   have P:L.drop i=s::L.drop (i+1):=by
    obtain⟨q1,q2⟩:=aB.1 hs;rw[cI q1,q2]
   rw[O,P]at H;have H:re l L=(mW t s && re (l.drop (i+1)) (L.drop (i+1))):=by rw[H];simp only[re]
   obtain⟨a,E⟩:=o.row.some (by intro e;have:=bU List.length e;rw[eU hN 4 gu,bz]at this;omega);obtain⟨a',A⟩:=p.row.some (by intro e;have:=bU List.length e;rw[eU hN 4 gu,bz]at this;omega);rw[E,A];have I:=o.row;have J:=p.row;rw[E]at I;rw[A]at J;refine⟨ag,aw.2 (aa.FA (by rw[aI];exact(I.frame f cb).gJ gu r) (aa.new λb3 h3 g' W f3=>⟨ag,aw.2 (aa.FA (by rw[aI];exact(J.frame (f.tt f3) cb).gJ gu w) (aa.new λb4 S h' X f4=>aa.ld (f4.get W id) (aa.ld X ?_)))⟩))⟩;have c:=f.tt (f3.tt f4);refine Ei N t s ag ag S D D' u v _ (tu.on c) (tv.on c) λU f6=>⟨_,rfl,?_⟩
   cases q:mW t s with
   |false=>
    rw[fK];exact done U (c.tt f6) false (by rw[H,q];rfl)
   |true=>
    rw[dc,bD (n:=(i:Int)+1) ag ag];exact⟨⟨i+1,ag,ag,c.tt f6,by rw[H,q];rfl⟩,by show xs.length - Int.toNat ((i:Int)+1)<xs.length - Int.toNat (i:Int);omega⟩
  .rw[ae (λe=>B (bY (aU e)))];rw[dC (show l.length<=i by omega),dC (show L.length<=i by omega)]at H;exact done g f true (by rw[H];simp only[re])
theorem iX{t s:Tr}{x y:CV}(T:gl h D t x)(ty:gl h D' s y)(H:room t<=100000000)(hk: gL h R (.bool (mW t s))):Cl 248 #[x.agg,y.agg] h R:=
 Ei (deep t) t s (bk _) H h D D' x y R T ty hk

end Cb
end
section
namespace Cb
variable {h h':ai} {R:fp}
variable {m:Int} {n:Nat}
theorem LY(n:Nat):IntKind.wrap .u8 (n:Int)=((UInt8.ofNat n).toNat:Int):=by
 have e:IntKind.wrap .u8 (n:Int)=(n:Int)%256:=by simp[IntKind.wrap,IntKind.bits,IntKind.signed]
 rw[e,fV];omega
theorem JC{n:Int}(hk: gL h R (.bool (decide (0<=m/\m<=7)))):Cl 299 #[.agg #[.I m,.U n,.bool false]] h R:=by
 refine Gg.walk (bu.box λb a E H f1=>⟨_,ar H,?_⟩);rw[dc];have hk:=hk a f1;refine⟨_,ar H,?_⟩;by_cases c1:m≥0
 .rw[af (av c1)];refine⟨_,ar H,?_⟩;rw[show decide (0<=m/\m<=7)=decide (m<=7) by simp[show 0<=m from c1]]at hk;exact hk
 .rw[ae (λe=>c1 (aU e))];rw[az (λe=>c1 e.1)]at hk;exact hk
theorem Bs(hk:R (.I (DY n:Int)) h):Cl 301 #[.U (n:Int)] h R:=by
 obtain⟨z,H⟩: ∃z:Int,z=(n:Int):=⟨_,rfl⟩;rw[<-H];refine Ea.walk ?_;unfold DY at hk
 repeat' split
 all_goals simp only[aV]at*
 .rw[fK]at hk;exact hk
 .rw[dc,fK]at hk;exact hk
 .rw[dc,dc,fK]at hk;exact hk
 .rw[dc,dc,dc,fK]at hk;exact hk
 .rw[dc,dc,dc,dc]at hk;exact hk
theorem Ov(hk:R (.int .u8 (xa n:Int)) h):Cl 300 #[.U (n:Int)] h R:=by
 refine Js.walk (Bs ⟨_,rfl,?_⟩);unfold xa at hk;unfold DY;by_cases c1:n<24
 .rw[af c1]at hk⊢;rw[dc,dc,dc,dc];rw[LY,fV,Nat.mod_eq_of_lt ag];exact hk
 rw[ae c1]at hk⊢;by_cases c2:n<256
 .rw[af c2]at hk⊢;rw[fK];exact hk
 rw[ae c2]at hk⊢;by_cases c:n<65536
 .rw[af c]at hk⊢;rw[dc,fK];exact hk
 rw[ae c]at hk⊢;by_cases C:n<4294967296
 .rw[af C]at hk⊢;rw[dc,dc,fK];exact hk
 rw[ae C]at hk⊢;rw[dc,dc,dc,fK];exact hk
theorem Ow(n:Nat):xa n<32:=by unfold xa;repeat (first|omega|split)
theorem Qo: ∀(m:Fin 8)(z:Fin 32),IntKind.wrap .u8 ((BitVec.ofInt (IntKind.bits .u8) (IntKind.wrap .u8 ((IntKind.wrap .u8 (m.val:Int))*2 ^ min (Int.toNat 5) (IntKind.bits .u8)))|||BitVec.ofInt (IntKind.bits .u8) (z.val:Int)).toNat:Int)=((32*m.val+z.val:Nat):Int):=di
theorem LZ(n k:Nat):Int.fdiv (n:Int) (2 ^ k)=((n/2 ^ k:Nat):Int):=by
 rw[Int.fdiv_eq_ediv_of_nonneg _ (by exact_mod_cast bG (2 ^ k))]
 exact_mod_cast rfl
theorem JD(hk: ∀h' (p:cy) (c':Nat) (e:Int),Row h' p (bc (LF m n))->(LF m n).length<=c'->Fr No h h'->R (.tuple #[.slice p (LF m n).length c',.I e]) h'):Cl 261 #[.agg #[.I m,.U (n:Int),.bool false]] h R:=by
 refine Gh.walk (bu.box λb D C d f1=>bu.ld d (JC λH f2=>⟨_,rfl,?_⟩));by_cases cm:0<=m/\m<=7
 case neg=>
  rw[az cm,fK];have E:LF m n= []:=by unfold LF;rw[ae cm]
  rw[E]at hk;exact hk H none 0 3 Row.nil bP (f1.tt f2)
 rw[av cm,dc];obtain⟨m,rfl⟩:=dP cm.1;have c:=f2.get d id;refine⟨_,ar c,?_⟩;rw[dc];refine⟨_,ar c,_,ar c,Ov ⟨_,rfl,ar c,cF ?_⟩⟩;have F:=f1.tt f2;have i32:=Ow n;rw[Qo ⟨m,ag⟩ ⟨xa n,i32⟩];rw[show(32*(⟨m,ag⟩:Fin 8).val+(⟨xa n,i32⟩:Fin 32).val)=32*m+xa n from rfl];have z:((32*m+xa n:Nat):Int)=((UInt8.ofNat (32*m+xa n)).toNat:Int):=by rw[fV,Nat.mod_eq_of_lt ag]
 rw[z];have E:LF (m:Int) n=UInt8.ofNat (32*m+xa n)::PF (DY n) n:=by unfold LF;rw[af cm,aI]
 rw[E]at hk;generalize UInt8.ofNat (32*m+xa n)=w at hk⊢;have f3:Fr No H (H.push (.cells #[.int .u8 (w.toNat:Int)] 5)):=Fr.push _ _;have O:fJ (H.push (.cells #[.int .u8 (w.toNat:Int)] 5)) (Sa H.size 0) 1 1 1 (bc [w]):=.row H.size 0 #[.int .u8 (w.toNat:Int)] 5 rfl bV ag bP rfl (λj v q=>by
  cases j with
  |zero=>simpa[bc]using q
  |succ j=>simp[bc]at q)
 generalize H.push (.cells #[.int .u8 (w.toNat:Int)] 5)=I at f3 O⊢;have Z:=f1.1;have Q:=f2.1;have S:=aD d;refine⟨ar (f3.get c id),_,ar (f3.get c id),Bs ⟨_,rfl,?_⟩⟩;have K:=HO n;generalize DY n=k at hk K⊢;refine⟨λp L c' t g=> ∃(i:Nat),t=(i:Int)/\i<=k/\L=1+i/\fJ g p (1+i) c' 1 (bc (w::(PF k n).take i))/\(∀y,aR p y->H.size<=y)/\Fr No H g,λ_ _ _ t _=>k - t.toNat,⟨0,rfl,bG _,rfl,by rw[dV];exact O,(λy ⟨a,e,s⟩=>by cases e;rw[<-s];exact bk _),f3⟩,?_⟩;rintro p _ c' _ g ⟨i,rfl,M,rfl,o,N,f⟩;by_cases l:i<k
 .rw[fK];refine⟨_,ar (f.get c id),?_⟩;rw[bD (n:=(k:Int) - 1) ag ag,bD (n:=(k:Int) - 1 - (i:Int)) ag ag,bD (n:=8*((k:Int) - 1 - (i:Int))) ag ag,dc];have u:min (Int.toNat (8*((k:Int) - 1 - (i:Int)))) (IntKind.bits .u64)=8*(k - 1 - i):=by
   rw[show IntKind.bits .u64=64 from rfl];omega
  rw[u,LZ,LY];refine jd kK.tU kK.uU o rfl (λv r=>by simp at r;rw[r];rfl) ag ag λP c2 J B f9 G=>⟨_,_,_,rfl,?_⟩
  rw[bD (n:=(i:Int)+1) ag ag];refine⟨⟨i+1,ag,ag,ag,?_,λy A=> ?_,f.fresh f9 N⟩,by show k - Int.toNat ((i:Int)+1)<k - Int.toNat (i:Int);omega⟩
  .have x:(PF k n).take (i+1)=(PF k n).take i++ [UInt8.ofNat (n/2 ^ (8*(k - 1 - i)))]:=by
    rw[bQ];unfold PF;rw[aK,List.getElem?_range l];rfl
   rw[x,<-eR,jM];exact B
  .rcases G y A with a|a
   .exact N y a
   .have:=f.1;omega
 .rw[ae (λe=>l (bY (aU e)))];obtain rfl:i=k:=ag
  rw[bJ (by rw[xP];omega)]at o;have:=hk g p c' 0 o.iw (by rw[bf,xP,Nat.add_comm];exact o.le) (F.tt f);rw[bf,xP,Nat.add_comm]at this;exact this
theorem Gr{l:List Tr}{i:Nat}{t:Tr}(H:l[i]? =some t):dk (l.take (i+1))=dk (l.take i)+room t:=by
 rw[bQ,H,hT];show _+dk [t]=_;simp[dk]
theorem mS(l:List Tr)(i:Nat):dk (l.take i)<=dk l:=by
 conv=>rhs;rw[<-List.take_append_drop i l]
 rw[hT];omega
theorem HV: ∀(N:Nat)(t:Tr),deep t<=N->∀(h:ai)(D:Nat->Prop)(x:CV)(p:cy)(l c:Nat)(a:cD)(R:fp),l=a.length->a.length+room t<=20000000->fJ h p a.length c 1 (bc a)->gl h D t x->(∀y,aR p y->¬D y)->
  (∀h' P c',fJ h' P (a++enc t).length c' 1 (bc (a++enc t))->Fr (λy=>aR p y) h h'->(∀y,aR P y->aR p y\/h.size<=y)->R (.slice P (a++enc t).length c') h')->Cl 208 #[.slice p l c,x.agg] h R
 |0,.mk k n b l,hd,_,_,_,_,_,_,_,_,_,_,_,_,_,_=>by simp only[deep]at hd;omega
 |N+1,.mk k n b l,hd,h,D,x,p,_,c,a,R,rfl,ha,X,T,j,hk=>by
  simp only[deep]at hd;simp only[room]at ha;unfold enc at hk;have T:=T.lt;unfold gl at T;obtain⟨⟨rfl,rfl,rfl,W⟩,ys,L,G⟩:=T;have lt:=G.len;have l9:=gG l;have e0:=L.len;refine LX.walk (aa.box λbb J q' d f1=>⟨_,ar d,_,ar d,aG.of λb' hJ=> ?_⟩);have r':=aD d;have z1:=f1.1;have np: ∀y,aR p y->y<h.size:=λy H=>X.dY H
  have done:b' (wL x.k x.n x.v.b l:Int) J:=by
   subst hJ;refine⟨_,ar d,JD λh3 q3 c3 e3 Z d' f3=>⟨_,_,_,_,rfl,_,_,_,ar (f3.get d id),?_⟩⟩;have k':=HP x.k (wL x.k x.n x.v.b l);generalize LF x.k (wL x.k x.n x.v.b l)=B at Z d' k' hk⊢;have z3:=f3.1;have r:=f1.tt f3;refine dT kK.tU kK.uU (X.frame r cb) Z (by rw[jT,ct]) (pR B) ag ag λY c4 h4 o4 _ f4 g4=>⟨_,_,_,rfl,ar (f4.get (f3.get d id) (λH=>bY (np _ H))),?_⟩
   have z4:=f4.1;have C: ∀y,aR Y y->aR p y\/h3.size<=y:=g4;have n':Row h4 x.v.p (bc x.v.b):=by
    by_cases e:x.v.b= []
    .rw[e];exact Row.nil
    .exact((W.row.frame r cb).frame f4 (λI s H=>j _ H (W.own e _ ⟨I,s,rfl⟩).1))
   refine dT kK.tU kK.uU o4 n' (by rw[jT,ct]) (pR x.v.b) ag ag λp5 c5 h5 O _ f5 g5=> ?_
   have m': ¬aR Y bb:=λH=>by
    rcases C _ H with q|q
    .have:=np _ q;omega
    .omega
   have g':=f5.get (f4.get (f3.get d id) (λH=>bY (np _ H))) m';refine⟨_,_,_,rfl,_,_,_,ar g',?_⟩;have z5:=f5.1;rw[<-jM,<-jM,dQ]at O;have Fp:Fr (λy=>aR p y) h h5:=(Fr.no r f4).trans f5 cb (λy H q=>by
    rcases C y q with q|q
    .exact q
    .omega)
   have n5: ∀y,aR p5 y->aR p y\/h.size<=y:=λy H=>by
    rcases g5 y H with q|q
    .rcases C y q with q|q
     .exact .inl q
     .exact .inr ag
    .exact .inr ag
   have el:a.length+B.length+x.v.b.length=(a++(B++x.v.b)).length:=by simp only[aA];omega
   rw[el]at O⊢;refine⟨λP l' c' t g=> ∃(i:Nat)(w:cD),t=(i:Int)/\i<=ys.length/\l'=(a++w).length/\fJ g P (a++w).length c' 1 (bc (a++w))/\w=B++x.v.b++xc (l.take i)/\Fr (λy=>aR p y) h g/\∀y,aR P y->aR p y\/h.size<=y,λ_ _ _ t _=>ys.length - t.toNat,
    ⟨0,B++x.v.b,rfl,bG _,rfl,O,by rw[dV];simp[xc],Fp,n5⟩,?_⟩
   rintro P _ c' _ g ⟨i,w,rfl,hi,rfl,V,E,F,ng⟩;have rl:=mS l i;have lw:w.length<=9+x.v.b.length+dk (l.take i):=by
    rw[E,aA,aA];have:=yG (l.take i);omega
   by_cases o:i<ys.length
   .rw[fK];have H:ys[i]? =some ys[i]:=aj o;generalize ys[i]=y at H;obtain⟨t,v,ty⟩:=G.get H;have tm:=bn v;have dm:=qN tm;have rm:=lQ tm;have rt:=Gr v;have i':ys≠ []:=by intro e;rw[e]at o;simp at o
    obtain⟨I,s⟩:=L.row.some (by intro e;have:=bU List.length e;rw[eU hN 4 gu,bz]at this;omega);have a':=L.row.frame F (λa2 e2 j'=>j _ j' (L.own i' _ ⟨a2,e2,rfl⟩).1);rw[s]at a'⊢;refine⟨ag,aw.2 (aa.FA (by rw[aI];exact a'.gJ gu H) (aa.new λb1 K p' f' f8=>aa.ld f' ?_))⟩;have o':gl K (λy=>D y/\y<h.size) t y:=(gl.frame F (λz f A=>j z A f.1) ty).on f8;have zg:=F.1;have z8:=f8.1;refine HV N t ag K (λy=>D y/\y<h.size) y P _ c' (a++w) _ rfl (by rw[aA];have:=mS l (i+1);omega) (V.frame f8 cb) o' (λz f A=>by
     rcases ng z f with q|q
     .exact j z q A.1
     .omega) λh9 p9 c9 U f9 n9=>⟨_,_,_,rfl,?_⟩
    rw[bD (n:=(i:Int)+1) ag ag];rw[dQ]at U⊢;refine⟨⟨i+1,w++enc t,ag,ag,rfl,U,by rw[bQ,v];show _=_++xc (l.take i++ [t]);rw[Jk,E,dQ _ (xc (l.take i))],(F.on f8).trans f9 cb (λz f q=> ?_),λz f=> ?_⟩,by show ys.length - Int.toNat ((i:Int)+1)<ys.length - Int.toNat (i:Int);omega⟩
    .rcases ng z q with q|q
     .exact q
     .omega
    .rcases n9 z f with q|q
     .exact ng z q
     .exact .inr ag
   .rw[ae (λe=>o (bY (aU e)))];rw[bJ (show l.length<=i by omega)]at E;subst E;exact hk g P c' V F ng
  have ub:IntKind.wrap .u64 (x.v.b.length:Int)=(x.v.b.length:Int):=wrap_u64 ag ag;have ul:IntKind.wrap .u64 (x.ll:Int)=(l.length:Int):=by rw[e0,<-lt];exact wrap_u64 ag ag
  unfold wL at done;refine aG.of λJ1 e'=> ?_
  have S: ∀q,q=decide (x.k=2\/x.k=3)->J1 q J:=by
   intro q Q;subst e';refine aG.of λJ2 u=> ?_
   split
   .rename_i q1;rw[af (aU (Q.symm.trans q1))]at done;exact⟨_,_,_,ar d,by subst u;rw[ub];exact done⟩
   .rename_i q1;rw[ae (λe=>q1 (Q.trans (av e)))]at done;refine aG.of λJ3 M=> ?_
    split
    .rename_i q2;rw[af (cA q2)]at done;exact⟨_,_,_,ar d,by subst M;subst u;rw[ul];exact done⟩
    .rename_i q2;rw[ae (cA q2)]at done;subst M;subst u;exact done
  split
  .rename_i q;exact S _ (by simp only[cR]at q;rw[q];decide)
  .rename_i q;refine S _ ?_;by_cases e:x.k=3
   .rw[e];decide
   .simp only[cR]at q;simp[q,e]

end Cb
end
section
namespace Cb
variable {V:cD→Bool} {h H h':ai} {R:fp} {D:Nat→Prop}
variable {t:Tr} {x:CV}
theorem HW(T:gl h D t x)(d:room t<=1000000)(hk: ∀h' p c,fJ h' p (enc t).length c 1 (bc (enc t))->(∀y,aR p y->h.size<=y)->Fr No h h'->R (.slice p (enc t).length c) h'):Cl 208 #[.Z,x.agg] h R:=
 HV (deep t) t (bk _) h D x none 0 0 [] R rfl (by simp only[bz];omega) (.nil rfl rfl rfl rfl) T (λy ⟨a,e,_⟩=>by cases e) λh' P c' o f n=>hk h' P c' o (λy b=>(n y b).resolve_left (λ⟨a,e,_⟩=>by cases e)) (f.mono λy _ ⟨a,e,_⟩=>by cases e)
theorem vz(U:ke V H)(u:Fr No H h)(T:gl h D t x)(d:room t<=1000000)(k:gO V t=true->∀h' p c,fJ h' p (enc t).length c 1 (bc (enc t))->(∀y,aR p y->h.size<=y)->Fr No h h'->R (.tuple #[.slice p (enc t).length c,.I 0]) h')(K:gO V t=false->gL h R (.tuple #[.Z,.I 3])):Cl 178 #[x.agg] h R:=by
 refine Gn.walk (aa.box λbb i E a f1=>aa.ld a (e8 U (u.tt f1) (T.on f1) d λe f2=>⟨_,rfl,?_⟩));have z:=f1.1;have Z:=f2.1;cases b:gO V t with
 |false=>
  rw[fK];exact K b e (f1.tt f2)
 |true=>
  rw[dc];exact aa.ld (f2.get a id) (HW ((T.on f1).on f2) d λf p c o n f3=>⟨_,_,_,rfl,k b f p c o (λy g=>bY (n y g)) ((f1.tt f2).tt f3)⟩)
theorem ke.mono{a:ai}(U:ke V H)(f:Fr No H a):ke V a:=λg p c bs R F=>U g p c bs R (f.tt F)
def jw(V:cD->Bool)(bs:cD):Bool:=match lg V bs with| .ok (t,n)=>decide (n=bs.length) && decide (enc t=bs)| .error _=>false
theorem Ej{p:cy}{l c:Nat}{bs:cD}(U:ke V h)(row:Row h p (bc bs))(k:l=bs.length)(cap:bs.length<=c)(m:bs.length<=90000)(hk: gL h R (.bool (jw V bs))):Cl 314 #[.slice p l c] h R:=by
 subst k;unfold jw at hk;refine Au.walk (tZ U row rfl cap ag (λi t x next g T f1=>⟨_,_,_,_,_,_,_,_,_,_,rfl,aa.new λbb a E b f3=> ?_⟩) (λi e f f1=>⟨_,_,_,_,_,_,_,_,_,_,rfl,aa.new λbb a E b f3=> ?_⟩))
 .have F:=f1.tt f3;rw[g]at hk;obtain⟨rt,N⟩:=pW g;rw[fK];by_cases c1:next=bs.length
  .rw[af (by rw[c1];simp)];refine aa.ld b (HW (T.on f3) ag λj q d o n f4=>⟨_,_,_,rfl,jH o.iw (row.frame (F.tt f4) cb) rfl rfl ⟨_,rfl,?_⟩⟩);have:=hk j (F.tt f4);simp only[c1,bC,dL]at this;exact this
  .rw[ae (λe=>c1 (bY (eq_of_beq e)))];have:=hk a F;simp only[c1,bp,eY]at this;exact this
 .have F:=f1.tt f3;have:=hk a F;rw[f]at this;rw[ae (λq=>km f (eq_of_beq q))];exact this

end Cb
end
section
namespace iW
variable {h h':ai} {R:fp}
variable {s:ByteArray} {pos:Nat} {more:UInt8}
theorem byte_at(H:pos<s.size):s.data.toList[pos]? =some (s.data.toList.getD pos 0):=by
 have:pos<s.data.toList.length:=H;rw[aY,aj this];rfl
theorem Ro{b:UInt8}(d:more.toNat<128)(h:pl more b=true):b<128:=by
 show b.toNat<128;by_cases a:b.toNat<128
 .exact a
 .have H:=LM (more:=(more.toNat:Int)) (c:=(b.toNat:Int)) ag ag;rw[LN,h]at H;cases H
theorem L3(e:more.toNat<128)(d:pos<s.size)(h:np (more.toNat:Int) ((Utf8.decode s pos).1:Int)=false):
  pl more (s.data.toList.getD pos 0)=true/\(Utf8.decode s pos).2=1:=by
 obtain⟨a,b⟩:=decode_at s pos d;by_cases H:s.data.toList.getD pos 0<128
 .rw[a H]at h⊢;rw[LN]at h;exact⟨cA h,rfl⟩
 .have:=LM (more:=(more.toNat:Int)) (c:=((Utf8.decode s pos).1:Int)) ag (bY (b H));rw[this]at h;cases h
theorem Ox(d:more.toNat<128)(H:pos<s.size)(h:np (more.toNat:Int) ((Utf8.decode s pos).1:Int)=true):ma more s=false:=by
 cases c:ma more s with
 |false=>rfl
 |true=>
  have a:=List.all_eq_true.1 c _ (bn (byte_at H));obtain⟨b,_⟩:=decode_at s pos H;rw[b (Ro d a),LN,a]at h;cases h
theorem yS{it:Nat}{ty:TypeId}{H d:ai}(n:more.toNat<128)(r:d[it]? =some (.stringIter s 0))(u:H.size<=it)(f1:Fr No H d)(hk: ∀h',Fr No H h'->R (.bool (ma more s)) h'):
  ∃(I:ai->Prop)(M:ai->Nat),I d/\∀g,I g->aW Tryz.prog (Instr.next (.P it 0) true ty) g λv G=>
   (v=.tuple #[.bool false]/\R (.bool true) G)\/∃(a b:Value),v=.tuple #[.bool true,a,b]/\∃(c:Int),b=.int .i32 c/\if np (more.toNat:Int) c=true then R (.bool false) G else(I G/\M G<M g):=by
 refine⟨λg=> ∃pos,g[it]? =some (.stringIter s pos)/\Fr No H g/\pos<=s.size/\(s.data.toList.take pos).all (pl more)=true,λg=>(match g[it]? with|some (.stringIter _ p)=>s.size - p|_=>0),⟨0,r,f1,bG _,bP⟩,?_⟩;rintro g ⟨pos,m,F,w,j⟩;refine Jf m (λq=> .inl ⟨rfl,?_⟩) (λf G k x t=> .inr ⟨_,_,rfl,_,rfl,?_⟩)
 .have:ma more s=true:=by
   unfold ma;rw[bJ (by show s.data.toList.length<=pos;exact q)]at j;exact j
  rw[<-this];exact hk g F
 .have l:Fr No H G:=F.fresh (S:=λc=>c=it) ⟨ag,λc _ i=>t c i⟩ (λc e=>ag);cases i:np (more.toNat:Int) ((Utf8.decode s pos).1:Int)with
  |true=>
   rw[af rfl,<-Ox n f i];exact hk G l
  |false=>
   rw[ae bP];obtain⟨d,o⟩:=L3 n f i;rw[o]at k;refine⟨⟨pos+1,k,l,f,?_⟩,?_⟩
   .rw[bQ,byte_at f,List.all_append,j];show(true && (pl more (s.data.toList.getD pos 0) && true))=true;rw[d];rfl
   .simp only[m,k];omega
theorem Gs(hk: gL h R (.bool (ma 45 s))):Cl 142 #[.string s,.int .i32 45] h R:=by
 refine vr.host.walk (yA dj λr o p n f1=>⟨_,rfl,?_⟩);obtain⟨I,M,k,l⟩:=yS (more:=45) (ty:=0) di n ag f1 hk;refine⟨I,M,k,λg m=>jL _ _ (λv G H=> ?_) (l g m)⟩;rcases H with H|⟨a,b,e,c,e2,H⟩
 .exact .inl H
 .refine .inr ⟨a,b,e,c,e2,aG.of λJ d=> ?_⟩;have key:J (np 45 c) G:=by subst d;exact H
  clear d H;unfold np at key;revert key;generalize decide (c<97)=b1;generalize decide (c>122)=B;generalize decide (c<48)=f;generalize decide (c>57)=i;generalize (c !=45)=j;intro key;cases b1<;>cases B<;>cases f<;>cases i<;>cases j<;>exact key
theorem Ek(hk: gL h R (.bool (ma 47 s))):Cl 142 #[.string s,.int .i32 47] h R:=by
 refine vr.Rj.walk (yA dj λr p q o f1=>⟨_,rfl,?_⟩);obtain⟨I,M,l,m⟩:=yS (more:=47) (ty:=0) di o ag f1 hk;refine⟨I,M,l,λg n=>jL _ _ (λv G H=> ?_) (m g n)⟩;rcases H with H|⟨a,b,e,c,e2,H⟩
 .exact .inl H
 .refine .inr ⟨a,b,e,c,e2,aG.of λJ d=> ?_⟩;have key:J (np 47 c) G:=by subst d;exact H
  clear d H;unfold np at key;revert key;generalize decide (c<97)=b1;generalize decide (c>122)=B;generalize decide (c<48)=f;generalize decide (c>57)=i;generalize (c !=45)=j;generalize (c !=47)=k;intro key;cases b1<;>cases B<;>cases f<;>cases i<;>cases j<;>cases k<;>exact key
abbrev Ev.at(h:ai)(b:Nat)(x:Ev):Prop:=ay.at h b x.ky x.node x.gk x.host x.jB
theorem e8(x:Ev)(hk: gL h R (.bool (cV x))):Cl 86 #[.agg #[.bool x.ky,.U x.node,.U x.gk,.string x.host,.string x.jB]] h R:=by
 refine Jn.walk (ay.box λb f E H f1=>ay.ld H ⟨_,xd (y:=.zero) (x:=x) rfl rfl,?_⟩);have K:=hk f f1;unfold cV at K;by_cases e:x=.zero
 .rw[af (av e)];rw[af e]at K;exact K
 .rw[ae (cA e)];rw[ae e]at K;refine⟨_,ar H,?_⟩;by_cases d:x.ky=true
  .rw[af d];rw[af d]at K;refine ay.ld H ⟨_,ar H,_,ar H,_,xd (y:=⟨true,x.node,x.gk,⟨#[]⟩,⟨#[]⟩⟩) (x:=x) rfl rfl,?_⟩;by_cases c:x=⟨true,x.node,x.gk,⟨#[]⟩,⟨#[]⟩⟩
   .have e1:x.host=⟨#[]⟩:=bU Ev.host c;have e2:x.jB=⟨#[]⟩:=bU Ev.jB c;rw[af (av c)];refine⟨_,ar H,?_⟩;by_cases q1:x.node≥1
    .rw[af (av q1)];refine⟨_,ar H,?_⟩;by_cases q2:x.node<=4294967295
     .rw[af (av q2)];refine⟨_,ar H,?_⟩;have q:1<=x.node:=q1;simp only[e1,e2,q,q2,true_and]at K;exact K
     .rw[ae (cA q2)];simp only[q2,false_and,and_false,bp]at K;exact K
    .rw[ae (cA q1)];have q: ¬1<=x.node:=q1;simp only[q,false_and,and_false,bp]at K;exact K
   .rw[ae (cA c)];have: ¬(x.host=⟨#[]⟩/\x.jB=⟨#[]⟩/\1<=x.node/\x.node<=4294967295/\x.gk<=4294967295):=λ⟨a,b,_⟩=>c (Ev.ext' d rfl rfl a b)
    rw[az this]at K;exact K
  .have k:x.ky=false:=by simpa using d
   rw[ae d];rw[ae d]at K;refine ay.ld H ⟨_,ar H,_,ar H,_,xd (y:=⟨false,0,0,x.host,x.jB⟩) (x:=x) rfl rfl,?_⟩;by_cases c:x=⟨false,0,0,x.host,x.jB⟩
   .have e1:x.node=0:=bU Ev.node c;have e2:x.gk=0:=bU Ev.gk c;rw[af (av c)];refine⟨_,ar H,?_⟩;simp only[e1,e2,true_and]at K;by_cases q1:1<=x.host.size
    .rw[fK];refine⟨_,ar H,?_⟩;by_cases q2:x.host.size<=16
     .rw[fK];refine⟨_,ar H,?_⟩;by_cases q3:x.jB.size<=24
      .rw[fK];simp only[q1,q2,q3,and_self,bC,dL]at K;refine⟨_,ar H,Gs λg f2=>⟨_,rfl,?_⟩⟩;have j:=f2.get H id;by_cases q4:ma 45 x.host=true
       .rw[af q4];refine⟨_,ar j,Ek λi f3=>⟨_,rfl,?_⟩⟩;have:=hk i (f1.tt (f2.tt f3));unfold cV at this;rw[ae e,ae d,q4]at this;simp only[e1,e2,q1,q2,q3,and_self,bC,dL]at this;exact this
       .rw[ae q4];have:=hk g (f1.tt f2);unfold cV at this;have q4:ma 45 x.host=false:=by simpa using q4
        rw[ae e,ae d,q4]at this;simp only[eY,Bool.and_false]at this;exact this
      .rw[ae (by simp;omega)];simp only[q3,and_false,bp,eY]at K;exact K
     .rw[ae (by simp;omega)];simp only[q2,false_and,and_false,bp,eY]at K;exact K
    .rw[ae (by simp;omega)];simp only[q1,false_and,and_false,bp,eY]at K;exact K
   .rw[ae (cA c)];have: ¬(x.node=0/\x.gk=0/\1<=x.host.size/\x.host.size<=16/\x.jB.size<=24):=λ⟨a,b,_⟩=>c (Ev.ext' k a b rfl rfl)
    rw[az this,eY]at K;exact K

end iW
end
section
variable {h:ai} {R:fp}
variable {K:Nat->ai->Prop} {b l d B f m:Nat} {a:Addr} {sum V s P:Int} {L e:cy}
abbrev aa.fi(h:ai)(b:Nat)(x:aa.S):Prop:=h[b]? =some (.cells x.arr 262 (0,0))
theorem aa.ex{K:aa.S->Prop}(x:aa.S)(hk:K x):aa.EX K:=⟨_,_,_,_,_,_,_,_,hk⟩
theorem aa.ff{x:aa.S}{K:aa.S->Prop}(H:aa.fi h b x)(hk:K x):aa.cv h (AA b 0) K:=
 ⟨_,ar H,_,ar H,_,_,_,ar H,_,_,_,ar H,hk⟩
theorem aa.ko{x:aa.S}{K:aa.S->Prop}(H:dI a x.l 0 h)(hk:K x):aa.cv h a K:=by
 obtain⟨q,q1,q2,q3,_⟩:=H;rw[fP]at q;exact⟨_,q,_,q1,_,_,_,q2,_,_,_,q3,hk⟩
theorem aa.yT{x:aa.S}(H:aa.fi h b x):dI (AA b 0) x.l 0 h:=
 gT H (λj v c=>by rw[bL];simpa using c)
theorem aa.ft{x:aa.S}(hk: ∀b h',b=h.size->aa.fi h' b x->Fr No h h'->K b h'):aQ h (.cells aa.S.z.arr 262) λb H=>aa.cX H (AA b 0) x (K b):=
 fZ (vs:=x.l) rfl rfl hk
theorem aa.cM{x:aa.S}(hk: ∀b h',b=h.size->aa.fi h' b x->Fr No h h'->K b h'):aQ h (.cells x.arr 262) λb H=>K b H:=
 cF (hk _ _ rfl bV (Fr.push _ _))
theorem aa.gy{y x:aa.S}{K:ai->Prop}(a0:aa.fi h b y)(hk: ∀h',aa.fi h' b x->Fr (λy=>y=b) h h'->h'.size=h.size->K h'):aa.cX h (AA b 0) x K:=
 (show dD (AA b 0) x.l 0 h K from eI a0 rfl rfl λH d1 d2 d3=>hk H d1 (Fr.of_eq d2 λc g=>d3 c g) d2)
variable {x:aa.S}
abbrev ay.fi(h:ai)(b:Nat)(x:ay.S):Prop:=h[b]? =some (.cells x.arr 29 (0,0))
theorem ay.ex{K:ay.S->Prop}(x:ay.S)(hk:K x):ay.EX K:=⟨_,_,_,_,_,hk⟩
theorem ay.ff{x:ay.S}{K:ay.S->Prop}(H:ay.fi h b x)(hk:K x):ay.cv h (AA b 0) K:=
 ⟨_,ar H,_,ar H,_,ar H,_,ar H,_,ar H,hk⟩
theorem ay.ft{x:ay.S}(hk: ∀b h',b=h.size->ay.fi h' b x->Fr No h h'->K b h'):aQ h (.cells ay.S.z.arr 29) λb H=>ay.cX H (AA b 0) x (K b):=
 fZ (vs:=x.l) rfl rfl hk
theorem ay.cM{x:ay.S}(hk: ∀b h',b=h.size->ay.fi h' b x->Fr No h h'->K b h'):aQ h (.cells x.arr 29) λb H=>K b H:=
 cF (hk _ _ rfl bV (Fr.push _ _))
theorem ay.gy{y x:ay.S}{K:ai->Prop}(a0:ay.fi h b y)(hk: ∀h',ay.fi h' b x->Fr (λy=>y=b) h h'->h'.size=h.size->K h'):ay.cX h (AA b 0) x K:=
 (show dD (AA b 0) x.l 0 h K from eI a0 rfl rfl λH d1 d2 d3=>hk H d1 (Fr.of_eq d2 λc g=>d3 c g) d2)
abbrev ah.fi(h:ai)(b:Nat)(x:ah.S):Prop:=h[b]? =some (.cells x.arr 124 (0,0))
theorem ah.ex{K:ah.S->Prop}(x:ah.S)(hk:K x):ah.EX K:=⟨_,_,_,_,_,_,_,hk⟩
theorem ah.ff{x:ah.S}{K:ah.S->Prop}(H:ah.fi h b x)(hk:K x):ah.cv h (AA b 0) K:=
 ⟨_,ar H,_,ar H,_,ar H,_,ar H,_,ar H,_,ar H,_,ar H,hk⟩
theorem ah.ft{x:ah.S}(hk: ∀b h',b=h.size->ah.fi h' b x->Fr No h h'->K b h'):aQ h (.cells ah.S.z.arr 124) λb H=>ah.cX H (AA b 0) x (K b):=
 fZ (vs:=x.l) rfl rfl hk
theorem ah.cM{x:ah.S}(hk: ∀b h',b=h.size->ah.fi h' b x->Fr No h h'->K b h'):aQ h (.cells x.arr 124) λb H=>K b H:=
 cF (hk _ _ rfl bV (Fr.push _ _))
theorem ah.gy{y x:ah.S}{K:ai->Prop}(a0:ah.fi h b y)(hk: ∀h',ah.fi h' b x->Fr (λy=>y=b) h h'->h'.size=h.size->K h'):ah.cX h (AA b 0) x K:=
 (show dD (AA b 0) x.l 0 h K from eI a0 rfl rfl λH d1 d2 d3=>hk H d1 (Fr.of_eq d2 λc g=>d3 c g) d2)
abbrev aC.fi(h:ai)(b:Nat)(x:aC.S):Prop:=h[b]? =some (.cells x.arr 126 (0,0))
theorem aC.ex{K:aC.S->Prop}(x:aC.S)(hk:K x):aC.EX K:=⟨_,_,_,_,_,_,_,_,_,_,_,_,_,_,_,_,_,_,_,_,hk⟩
theorem aC.ff{x:aC.S}{K:aC.S->Prop}(H:aC.fi h b x)(hk:K x):aC.cv h (AA b 0) K:=
 ⟨_,ar H,_,ar H,_,ar H,_,ar H,_,ar H,_,ar H,_,ar H,_,ar H,_,ar H,_,ar H,_,ar H,_,ar H,_,ar H,_,ar H,_,ar H,_,ar H,_,ar H,_,ar H,_,ar H,_,ar H,hk⟩
theorem aC.ft{x:aC.S}(hk: ∀b h',b=h.size->aC.fi h' b x->Fr No h h'->K b h'):aQ h (.cells aC.S.z.arr 126) λb H=>aC.cX H (AA b 0) x (K b):=
 fZ (vs:=x.l) rfl rfl hk
theorem aC.cM{x:aC.S}(hk: ∀b h',b=h.size->aC.fi h' b x->Fr No h h'->K b h'):aQ h (.cells x.arr 126) λb H=>K b H:=
 cF (hk _ _ rfl bV (Fr.push _ _))
theorem aC.gy{y x:aC.S}{K:ai->Prop}(a0:aC.fi h b y)(hk: ∀h',aC.fi h' b x->Fr (λy=>y=b) h h'->h'.size=h.size->K h'):aC.cX h (AA b 0) x K:=
 (show dD (AA b 0) x.l 0 h K from eI a0 rfl rfl λH d1 d2 d3=>hk H d1 (Fr.of_eq d2 λc g=>d3 c g) d2)
variable {p:aC.S}
abbrev ax.fi(h:ai)(b:Nat)(x:ax.S):Prop:=h[b]? =some (.cells x.arr 201 (0,0))
theorem ax.ex{K:ax.S->Prop}(x:ax.S)(hk:K x):ax.EX K:=⟨_,_,_,_,_,_,_,hk⟩
theorem ax.ff{x:ax.S}{K:ax.S->Prop}(H:ax.fi h b x)(hk:K x):ax.cv h (AA b 0) K:=
 ⟨_,ar H,_,ar H,_,ar H,_,ar H,_,_,_,ar H,hk⟩
theorem ax.ko{x:ax.S}{K:ax.S->Prop}(H:dI a x.l 0 h)(hk:K x):ax.cv h a K:=by
 obtain⟨q,q1,q2,q3,q4,_⟩:=H;rw[fP]at q;exact⟨_,q,_,q1,_,q2,_,q3,_,_,_,q4,hk⟩
theorem ax.yT{x:ax.S}(H:ax.fi h b x):dI (AA b 0) x.l 0 h:=
 gT H (λj v c=>by rw[bL];simpa using c)
theorem ax.ft{x:ax.S}(hk: ∀b h',b=h.size->ax.fi h' b x->Fr No h h'->K b h'):aQ h (.cells ax.S.z.arr 201) λb H=>ax.cX H (AA b 0) x (K b):=
 fZ (vs:=x.l) rfl rfl hk
theorem ax.cM{x:ax.S}(hk: ∀b h',b=h.size->ax.fi h' b x->Fr No h h'->K b h'):aQ h (.cells x.arr 201) λb H=>K b H:=
 cF (hk _ _ rfl bV (Fr.push _ _))
theorem ax.gy{y x:ax.S}{K:ai->Prop}(a0:ax.fi h b y)(hk: ∀h',ax.fi h' b x->Fr (λy=>y=b) h h'->h'.size=h.size->K h'):ax.cX h (AA b 0) x K:=
 (show dD (AA b 0) x.l 0 h K from eI a0 rfl rfl λH d1 d2 d3=>hk H d1 (Fr.of_eq d2 λc g=>d3 c g) d2)
abbrev aq.fi(h:ai)(b:Nat)(x:aq.S):Prop:=h[b]? =some (.cells x.arr 129 (0,0))
theorem aq.ex{K:aq.S->Prop}(x:aq.S)(hk:K x):aq.EX K:=⟨_,_,_,_,_,_,_,_,_,_,_,_,_,_,_,_,_,_,_,_,_,_,_,hk⟩
theorem aq.ff{x:aq.S}{K:aq.S->Prop}(H:aq.fi h b x)(hk:K x):aq.cv h (AA b 0) K:=
 ⟨_,ar H,_,ar H,_,ar H,_,ar H,_,ar H,_,ar H,_,ar H,_,ar H,_,ar H,_,ar H,_,ar H,_,ar H,_,ar H,_,ar H,_,ar H,_,ar H,_,ar H,_,ar H,_,ar H,_,ar H,_,_,_,ar H,hk⟩
theorem aq.ft{x:aq.S}(hk: ∀b h',b=h.size->aq.fi h' b x->Fr No h h'->K b h'):aQ h (.cells aq.S.z.arr 129) λb H=>aq.cX H (AA b 0) x (K b):=
 fZ (vs:=x.l) rfl rfl hk
theorem aq.cM{x:aq.S}(hk: ∀b h',b=h.size->aq.fi h' b x->Fr No h h'->K b h'):aQ h (.cells x.arr 129) λb H=>K b H:=
 cF (hk _ _ rfl bV (Fr.push _ _))
theorem aq.gy{y x:aq.S}{K:ai->Prop}(a0:aq.fi h b y)(hk: ∀h',aq.fi h' b x->Fr (λy=>y=b) h h'->h'.size=h.size->K h'):aq.cX h (AA b 0) x K:=
 (show dD (AA b 0) x.l 0 h K from eI a0 rfl rfl λH d1 d2 d3=>hk H d1 (Fr.of_eq d2 λc g=>d3 c g) d2)
abbrev aJ.fi(h:ai)(b:Nat)(x:aJ.S):Prop:=h[b]? =some (.cells x.arr 287 (0,0))
theorem aJ.ex{K:aJ.S->Prop}(x:aJ.S)(hk:K x):aJ.EX K:=⟨_,_,_,_,_,_,_,_,_,_,_,_,hk⟩
theorem aJ.ff{x:aJ.S}{K:aJ.S->Prop}(H:aJ.fi h b x)(hk:K x):aJ.cv h (AA b 0) K:=
 ⟨_,ar H,_,ar H,_,ar H,_,ar H,_,ar H,_,ar H,_,ar H,_,ar H,_,ar H,_,ar H,_,ar H,_,ar H,hk⟩
theorem aJ.ft{x:aJ.S}(hk: ∀b h',b=h.size->aJ.fi h' b x->Fr No h h'->K b h'):aQ h (.cells aJ.S.z.arr 287) λb H=>aJ.cX H (AA b 0) x (K b):=
 fZ (vs:=x.l) rfl rfl hk
theorem aJ.cM{x:aJ.S}(hk: ∀b h',b=h.size->aJ.fi h' b x->Fr No h h'->K b h'):aQ h (.cells x.arr 287) λb H=>K b H:=
 cF (hk _ _ rfl bV (Fr.push _ _))
theorem aJ.gy{y x:aJ.S}{K:ai->Prop}(a0:aJ.fi h b y)(hk: ∀h',aJ.fi h' b x->Fr (λy=>y=b) h h'->h'.size=h.size->K h'):aJ.cX h (AA b 0) x K:=
 (show dD (AA b 0) x.l 0 h K from eI a0 rfl rfl λH d1 d2 d3=>hk H d1 (Fr.of_eq d2 λc g=>d3 c g) d2)
abbrev aE.fi(h:ai)(b:Nat)(x:aE.S):Prop:=h[b]? =some (.cells x.arr 47 (0,0))
theorem aE.ex{K:aE.S->Prop}(x:aE.S)(hk:K x):aE.EX K:=⟨_,_,_,_,_,_,_,_,_,_,_,_,_,_,_,_,_,_,_,_,_,hk⟩
theorem aE.ff{x:aE.S}{K:aE.S->Prop}(H:aE.fi h b x)(hk:K x):aE.cv h (AA b 0) K:=
 ⟨_,ar H,_,ar H,_,ar H,_,ar H,_,ar H,_,ar H,_,ar H,_,ar H,_,ar H,_,ar H,_,ar H,_,ar H,_,ar H,_,ar H,_,ar H,_,_,_,ar H,_,ar H,_,ar H,_,ar H,hk⟩
theorem aE.ft{x:aE.S}(hk: ∀b h',b=h.size->aE.fi h' b x->Fr No h h'->K b h'):aQ h (.cells aE.S.z.arr 47) λb H=>aE.cX H (AA b 0) x (K b):=
 fZ (vs:=x.l) rfl rfl hk
theorem aE.cM{x:aE.S}(hk: ∀b h',b=h.size->aE.fi h' b x->Fr No h h'->K b h'):aQ h (.cells x.arr 47) λb H=>K b H:=
 cF (hk _ _ rfl bV (Fr.push _ _))
theorem aE.gy{y x:aE.S}{K:ai->Prop}(a0:aE.fi h b y)(hk: ∀h',aE.fi h' b x->Fr (λy=>y=b) h h'->h'.size=h.size->K h'):aE.cX h (AA b 0) x K:=
 (show dD (AA b 0) x.l 0 h K from eI a0 rfl rfl λH d1 d2 d3=>hk H d1 (Fr.of_eq d2 λc g=>d3 c g) d2)
abbrev ak.fi(h:ai)(b:Nat)(x:ak.S):Prop:=h[b]? =some (.cells x.arr 44 (0,0))
theorem ak.ex{K:ak.S->Prop}(x:ak.S)(hk:K x):ak.EX K:=⟨_,_,_,_,_,_,_,_,hk⟩
theorem ak.ff{x:ak.S}{K:ak.S->Prop}(H:ak.fi h b x)(hk:K x):ak.cv h (AA b 0) K:=
 ⟨_,ar H,_,ar H,_,ar H,_,ar H,_,ar H,_,_,_,ar H,hk⟩
theorem ak.ft{x:ak.S}(hk: ∀b h',b=h.size->ak.fi h' b x->Fr No h h'->K b h'):aQ h (.cells ak.S.z.arr 44) λb H=>ak.cX H (AA b 0) x (K b):=
 fZ (vs:=x.l) rfl rfl hk
theorem ak.cM{x:ak.S}(hk: ∀b h',b=h.size->ak.fi h' b x->Fr No h h'->K b h'):aQ h (.cells x.arr 44) λb H=>K b H:=
 cF (hk _ _ rfl bV (Fr.push _ _))
theorem ak.gy{y x:ak.S}{K:ai->Prop}(a0:ak.fi h b y)(hk: ∀h',ak.fi h' b x->Fr (λy=>y=b) h h'->h'.size=h.size->K h'):ak.cX h (AA b 0) x K:=
 (show dD (AA b 0) x.l 0 h K from eI a0 rfl rfl λH d1 d2 d3=>hk H d1 (Fr.of_eq d2 λc g=>d3 c g) d2)
abbrev aP.fi(h:ai)(b:Nat)(x:aP.S):Prop:=h[b]? =some (.cells x.arr 56 (0,0))
theorem aP.ex{K:aP.S->Prop}(x:aP.S)(hk:K x):aP.EX K:=⟨_,_,_,_,_,_,_,_,_,_,_,_,_,_,_,_,_,_,_,_,_,_,_,_,_,_,_,_,hk⟩
theorem aP.ff{x:aP.S}{K:aP.S->Prop}(H:aP.fi h b x)(hk:K x):aP.cv h (AA b 0) K:=
 ⟨_,ar H,_,ar H,_,ar H,_,ar H,_,ar H,_,ar H,_,ar H,_,ar H,_,ar H,_,ar H,_,ar H,_,ar H,_,ar H,_,ar H,_,ar H,_,ar H,_,ar H,_,ar H,_,ar H,_,_,_,ar H,_,ar H,_,ar H,_,ar H,_,_,_,ar H,hk⟩
theorem aP.ko{x:aP.S}{K:aP.S->Prop}(H:dI a x.l 0 h)(hk:K x):aP.cv h a K:=by
 obtain⟨q,q1,q2,q3,q4,z,q6,A,C,D,Q,c,g,i,j,k,n,o,r,t,u,v,w,y,_⟩:=H;rw[fP]at q;exact⟨_,q,_,q1,_,q2,_,q3,_,q4,_,z,_,q6,_,A,_,C,_,D,_,Q,_,c,_,g,_,i,_,j,_,k,_,n,_,o,_,r,_,_,_,t,_,u,_,v,_,w,_,_,_,y,hk⟩
theorem aP.ft{x:aP.S}(hk: ∀b h',b=h.size->aP.fi h' b x->Fr No h h'->K b h'):aQ h (.cells aP.S.z.arr 56) λb H=>aP.cX H (AA b 0) x (K b):=
 fZ (vs:=x.l) rfl rfl hk
theorem aP.cM{x:aP.S}(hk: ∀b h',b=h.size->aP.fi h' b x->Fr No h h'->K b h'):aQ h (.cells x.arr 56) λb H=>K b H:=
 cF (hk _ _ rfl bV (Fr.push _ _))
theorem aP.gy{y x:aP.S}{K:ai->Prop}(a0:aP.fi h b y)(hk: ∀h',aP.fi h' b x->Fr (λy=>y=b) h h'->h'.size=h.size->K h'):aP.cX h (AA b 0) x K:=
 (show dD (AA b 0) x.l 0 h K from eI a0 rfl rfl λH d1 d2 d3=>hk H d1 (Fr.of_eq d2 λc g=>d3 c g) d2)
abbrev aN.fi(h:ai)(b:Nat)(x:aN.S):Prop:=h[b]? =some (.cells x.arr 114 (0,0))
theorem aN.ex{K:aN.S->Prop}(x:aN.S)(hk:K x):aN.EX K:=⟨_,_,_,_,_,_,_,_,_,_,_,_,hk⟩
theorem aN.ko{x:aN.S}{K:aN.S->Prop}(H:dI a x.l 0 h)(hk:K x):aN.cv h a K:=by
 obtain⟨q,q1,q2,q3,q4,Q,q6,c,g,i,_⟩:=H;rw[fP]at q;exact⟨_,q,_,q1,_,q2,_,q3,_,q4,_,Q,_,_,_,q6,_,c,_,g,_,i,hk⟩
theorem aN.cM{x:aN.S}(hk: ∀b h',b=h.size->aN.fi h' b x->Fr No h h'->K b h'):aQ h (.cells x.arr 114) λb H=>K b H:=
 cF (hk _ _ rfl bV (Fr.push _ _))
theorem aN.gy{y x:aN.S}{K:ai->Prop}(a0:aN.fi h b y)(hk: ∀h',aN.fi h' b x->Fr (λy=>y=b) h h'->h'.size=h.size->K h'):aN.cX h (AA b 0) x K:=
 (show dD (AA b 0) x.l 0 h K from eI a0 rfl rfl λH d1 d2 d3=>hk H d1 (Fr.of_eq d2 λc g=>d3 c g) d2)
abbrev aH.fi(h:ai)(b:Nat)(x:aH.S):Prop:=h[b]? =some (.cells x.arr 119 (0,0))
theorem aH.ex{K:aH.S->Prop}(x:aH.S)(hk:K x):aH.EX K:=⟨_,_,_,_,_,_,hk⟩
theorem aH.ft{x:aH.S}(hk: ∀b h',b=h.size->aH.fi h' b x->Fr No h h'->K b h'):aQ h (.cells aH.S.z.arr 119) λb H=>aH.cX H (AA b 0) x (K b):=
 fZ (vs:=x.l) rfl rfl hk
abbrev cg.fi(h:ai)(b:Nat)(x:cg.S):Prop:=h[b]? =some (.cells x.arr 98 (0,0))
theorem cg.ex{K:cg.S->Prop}(x:cg.S)(hk:K x):cg.EX K:=⟨_,_,_,_,_,_,_,_,_,_,_,_,_,_,_,_,_,_,_,_,_,_,_,hk⟩
theorem cg.ff{x:cg.S}{K:cg.S->Prop}(H:cg.fi h b x)(hk:K x):cg.cv h (AA b 0) K:=
 ⟨_,ar H,_,ar H,_,ar H,_,ar H,_,ar H,_,ar H,_,ar H,_,ar H,_,ar H,_,ar H,_,ar H,_,ar H,_,ar H,_,ar H,_,ar H,_,_,_,ar H,_,ar H,_,ar H,_,ar H,_,ar H,_,ar H,hk⟩
theorem cg.cM{x:cg.S}(hk: ∀b h',b=h.size->cg.fi h' b x->Fr No h h'->K b h'):aQ h (.cells x.arr 98) λb H=>K b H:=
 cF (hk _ _ rfl bV (Fr.push _ _))
abbrev cu.fi(h:ai)(b:Nat)(x:cu.S):Prop:=h[b]? =some (.cells x.arr 268 (0,0))
theorem cu.ex{K:cu.S->Prop}(x:cu.S)(hk:K x):cu.EX K:=⟨_,_,_,_,_,_,_,_,_,_,_,_,_,_,_,_,_,_,_,_,_,_,_,_,_,_,_,hk⟩
theorem cu.ff{x:cu.S}{K:cu.S->Prop}(H:cu.fi h b x)(hk:K x):cu.cv h (AA b 0) K:=
 ⟨_,ar H,_,ar H,_,ar H,_,ar H,_,ar H,_,ar H,_,ar H,_,ar H,_,ar H,_,ar H,_,ar H,_,ar H,_,ar H,_,ar H,_,ar H,_,ar H,_,ar H,_,ar H,_,ar H,_,ar H,_,_,_,ar H,_,ar H,_,_,_,ar H,hk⟩
theorem cu.cM{x:cu.S}(hk: ∀b h',b=h.size->cu.fi h' b x->Fr No h h'->K b h'):aQ h (.cells x.arr 268) λb H=>K b H:=
 cF (hk _ _ rfl bV (Fr.push _ _))
theorem oV.walk(H:R (.I (wrap .i64 (2*sum))) h):Cl 285 #[.I sum] h R:=aO (lq ll) Tryz.func285 H
theorem yU.walk (k:aG (λ(t34:Bool) (H:ai)=>if t34 then R (.I (-1)) H else Bd V l/\aL L λa=> ∃t39,bg H ((a.add (toNat V*4)).add 1)=some (.U t39)/\R (.I (wrap .i64 t39)) H) (λJ=>if(decide (V<0))then J true h else if(decide (V≥(l:Int)))then J true h else Bd V l/\aL L λA=> ∃t18,bg h ((A.add (toNat V*4)).add 1)=some (.U t18)/\if(decide (t18>2))then J true h else Bd V l/\aL L λg=>aa.cv h (g.add (toNat V*4)) λt25=>Bd V l/\aL L λj=>fW h ((j.add (toNat V*4)).add 1) λt30=>Cl 205 #[.U t30] h λv c=>aa.EX λt31=>v=t31.agg/\Kp h c [(some (g.add (toNat V*4))),(some ((A.add (toNat V*4)).add 1))]/\Cl 248 #[t25.agg,t31.agg] c λn i=> ∃t32,n=.bool t32/\Kp c i [(some ((A.add (toNat V*4)).add 1))]/\J (!t32) i)):Cl 257 #[.slice L l d,.I V] h R:=aO (lq (sq (sq (.join [(34,.one (.bool))] (pK 30)) (cq ll lf)) ll)) Tryz.func257 k
theorem Av.walk (D:Cl 295 #[.slice L l d] h λv k=>Vl v λG F E=>Cl 285 #[.I sum] k λS r=>Vi S λt14=>aW Tryz.prog (Instr.makeSlice 22 (.I t14) (.I t14)) r λU u=>Vl U λM J I=>Cl 210 #[.slice M J I] u λW w=>aa.EX λt16=>W=t16.agg/\aQ w (.cells t16.arr 262) λb y=>aW Tryz.prog (Builtin.append_ #[260,260] 260 #[.slice G F E,.slice (Sa b 0) 1 1]) y λX z=>Vl X λQ O N=>Cl 247 #[.slice Q O N] z λY A=>aa.EX λt19=>Y=t19.agg/\Cl 178 #[t19.agg] A λZ H=> ∃c T t g,Z=.tuple #[.slice c T t,.I g]/\if(g !=0)then R (.tuple #[.Z,.I 3]) H else if(sum==1)then Cl 296 #[.slice c T t] H λa' C=> ∃t28,a'=.int .u16 t28/\aQ C (.cells #[.int .u8 (wrap .u8 (Int.fdiv t28 (2 ^ min (toNat 8) (IntKind.bits .u16)))),.int .u8 (wrap .u8 t28)] 5) λi n=>R (.tuple #[.slice (Sa i 0) 2 2,.I 0]) n else Cl 297 #[.slice c T t] H λb' o=> ∃t36,b'=.int .u32 t36/\aQ o (.cells #[.int .u8 (wrap .u8 (Int.fdiv t36 (2 ^ min (toNat 24) (IntKind.bits .u32)))),.int .u8 (wrap .u8 (Int.fdiv t36 (2 ^ min (toNat 16) (IntKind.bits .u32)))),.int .u8 (wrap .u8 (Int.fdiv t36 (2 ^ min (toNat 8) (IntKind.bits .u32)))),.int .u8 (wrap .u8 t36)] 5) λj q=>R (.tuple #[.slice (Sa j 0) 4 4,.I 0]) q):Cl 259 #[.slice L l d,.I sum] h R:=aO (lq (lq (sq (lq (cq ll lf)) (sq (lq (cq (lq ll) lf)) (lq ll))))) Tryz.func259 D
theorem CD.walk (Y:aQ h (.cells aa.S.z.arr 262) λb n=>aG (λ(t18:Bool) (y:ai)=>if t18 then aa.cX y (AA b 0) aa.S.z λA=>aa.cv A (AA b 0) λZ=>R (.tuple #[Z.agg,.I 1]) A else Cl 257 #[.slice L l d,.I V] y λv U=>Vi v λt22=>aG (λ(t29:Bool) (C:ai)=>if t29 then aa.cX C (AA b 0) aa.S.z λD=>aa.cv D (AA b 0) λa'=>R (.tuple #[a'.agg,.I 3]) D else Cl 247 #[.slice L l d] C λh' W=>aa.EX λt32=>h'=t32.agg/\aQ W (.cells aa.S.z.arr 262) λc X=>aa.cX X (AA c 0) t32 λE=>aG (λ(o:ai)=>aa.cv o (AA c 0) λt52=>Cl 207 #[t52.agg] o λi' g=> ∃t53,i'=.bool t53/\if(!t53)then aa.cX g (AA b 0) aa.S.z λq=>aa.cv q (AA b 0) λb'=>R (.tuple #[b'.agg,.I 3]) q else aa.cv g (AA c 0) λt56=>aa.cX g (AA b 0) t56 λr=>aa.cv r (AA b 0) λc'=>R (.tuple #[c'.agg,.I 0]) r) (λk=>if(decide (t22>0))then Cl 259 #[.slice L l d,.I t22] E λj' H=> ∃G F T t,j'=.tuple #[.slice G F T,.I t]/\if(t !=0)then aa.cX H (AA b 0) aa.S.z λu=>aa.cv u (AA b 0) λd'=>R (.tuple #[d'.agg,.I t]) u else Hl H c 3 λg' f' e'=>Cl 210 #[.slice G F T] H λk' i=>aa.EX λt48=>k'=t48.agg/\Kp H i [(Sa c 3)]/\aQ i (.cells t48.arr 262) λO w=>Kp i w [(Sa c 3)]/\aW Tryz.prog (Builtin.append_ #[260,260] 260 #[.slice g' f' e',.slice (Sa O 0) 1 1]) w λl' Q=> ∃N M I,l'=.slice N M I/\aS Q (AA c 3) (.slice N M I) λS=>k S else k E)) (λj=>Cl 258 #[.slice L l d,.func (.func 256) #[] #[]] U λm' z=> ∃t25,m'=.bool t25/\if t25 then j true z else j (decide (t22<0)) z)) (λJ=>if(decide (V<0))then J true n else J (decide (V≥(l:Int))) n)):Cl 206 #[.slice L l d,.I V] h R:=aO (lq (sq (sq (.join [(18,.one (.bool))] lf) (cq ll lf)) (lq (lq (sq (sq (.join [(29,.one (.bool))] lf) (cq ll lf)) (lq (sq (lq (.join [] (cq (lq (sq (lq (cq ll lf)) (pK 8))) lf))) (sq (lq (cq ll lf)) ll)))))))) Tryz.func206 Y
theorem yV.walk(g:aQ h (.cells x.arr 262) λb H=>aa.cv H (AA b 0) λt3=>Cl 207 #[t3.agg] H λv c=> ∃t4,v=.bool t4/\R (.bool (!t4)) c):Cl 256 #[x.agg] h R:=aO (lq ll) Tryz.func256 g
theorem CE.walk (hv:aQ h (.cells x.arr 262) λb y=>aG (λ(t18:Bool) (o:ai)=>if t18 then R (.tuple #[.Z,.I 3]) o else∃E D C,Cc o b 3 (.slice E D C)/\Cl 257 #[.slice E D C,.I V] o λv H=> ∃t22,v=.I t22/\if(decide (t22<0))then R (.tuple #[.Z,.I 3]) H else if(t22==0)then∃I G F,Cc H b 3 (.slice I G F)/\Cl 247 #[.slice I G F] H λo' f'=>aa.EX λt31=>o'=t31.agg/\R (.tuple #[.slice t31.vq t31.oS t31.sW,.I 0]) f' else∃i' t h',Cc H b 3 (.slice i' t h')/\∃N M j',Cc H b 3 (.slice N M j')/\((0:Int)<=wrap .i64 (((t:Nat):Int) - 1)/\wrap .i64 (((t:Nat):Int) - 1)<((M:Nat):Int))/\aL N λa=>aa.cv H (a.add (toNat (wrap .i64 (((t:Nat):Int) - 1))*4)) λt41=>aQ H (.cells aa.S.z.arr 262) λc g'=>aa.cX g' (AA c 0) t41 λg=>aG (λ(t60:Bool) (q:ai)=>if t60 then R (.tuple #[.Z,.I 3]) q else∃W m' T,Cc q b 3 (.slice W m' T)/\((0:Int)<=wrap .i64 (((t:Nat):Int) - 1)/\wrap .i64 (((t:Nat):Int) - 1)<=((T:Nat):Int))/\Cl 259 #[.slice (cO W T 0 4) ((toNat (wrap .i64 (((t:Nat):Int) - 1))) - 0) (T - 0),.I t22] q λp' r=> ∃Z Y X w,p'=.tuple #[.slice Z Y X,.I w]/\if(w !=0)then R (.tuple #[.Z,.I w]) r else∃c' b' a',Cc r c 2 (.slice c' b' a')/\Cl 82 #[.slice Z Y X,.slice c' b' a'] r λq' u=> ∃t78,q'=.bool t78/\if(!t78)then R (.tuple #[.Z,.I 10]) u else∃d' n' j,Cc u b 3 (.slice d' n' j)/\((0:Int)<=wrap .i64 (((t:Nat):Int) - 1)/\wrap .i64 (((t:Nat):Int) - 1)<=((j:Nat):Int))/\Cl 247 #[.slice (cO d' j 0 4) ((toNat (wrap .i64 (((t:Nat):Int) - 1))) - 0) (j - 0)] u λr' e'=>aa.EX λt84=>r'=t84.agg/\R (.tuple #[.slice t84.vq t84.oS t84.sW,.I 0]) e') (λk=>if(decide ((wrap .i64 (((t:Nat):Int) - 1))<=V))then k true g else aa.cv g (AA c 0) λt46=> ∃S Q O,Cc g c 2 (.slice S Q O)/\Cl 210 #[.slice S Q O] g λs' z=>aa.EX λt49=>s'=t49.agg/\Kp g z [(Sa c 0)]/\Cl 248 #[t46.agg,t49.agg] z λt' i=> ∃t50,t'=.bool t50/\if(!t50)then k true i else∃l' U k',Cc i c 2 (.slice l' U k')/\Cl 285 #[.I t22] i λu' A=> ∃t58,u'=.I t58/\Kp i A [(Sa c 2)]/\k (((U:Nat):Int) !=t58) A)) (λJ=>aa.cv y (AA b 0) λt11=>Cl 207 #[t11.agg] y λv' n=> ∃t12,v'=.bool t12/\if(!t12)then J true n else∃t16,Cc n b 0 (.I t16)/\J (t16 !=4) n)):Cl 244 #[x.agg,.I V] h R:=aO (lq (sq (sq (.join [(18,.one (.bool))] lf) (cq ll lf)) (lq (sq (bq (lq (cq ll (lq (cq ll lf))))) (lq (lq (sq (sq (.join [(60,.one (.bool))] (pK 19)) (cq ll lf)) (lq (sq (bq (lq (cq ll (lq (cq ll lf))))) ll))))))))) Tryz.func244 hv
theorem Aw.walk(j:aQ h (.cells p.arr 126) λb H=> ∃t4,Cc H b 0 (.U t4)/\if((wrap .u64 ((mr t4 &&& ~~~ mr 409638).toNat:Int))==0)then∃t9,Cc H b 1 (.I t9)/\if(decide (t9≥0))then∃t14,Cc H b 1 (.I t14)/\if(decide (t14<=2))then ay.cv H (AA b 2) λt19=>Cl 86 #[t19.agg] H λv c=> ∃t20,v=.bool t20/\if t20 then ay.cv c (AA b 7) λt24=>Cl 86 #[t24.agg] c λk g=> ∃t25,k=.bool t25/\if t25 then ah.cv g (AA b 12) λt29=>Cl 237 #[t29.agg] g λn i=> ∃t30,n=.bool t30/\if t30 then∃t34,Cc i b 19 (.U t34)/\R (.bool (decide (t34<=1099511627776))) i else R (.bool false) i else R (.bool false) g else R (.bool false) c else R (.bool false) H else R (.bool false) H else R (.bool false) H):Cl 202 #[p.agg] h R:=aO (lq ll) Tryz.func202 j
theorem Ax.walk(X:aQ h (.cells p.arr 126) λb J=>aQ J (.cells aa.S.z.arr 262) λj w=>aC.cv w (AA b 0) λt11=>Cl 202 #[t11.agg] w λv r=> ∃t12,v=.bool t12/\if(!t12)then aa.cX r (AA j 0) aa.S.z λz=>aa.cv z (AA j 0) λY=>R (.tuple #[Y.agg,.I 3]) z else ay.cv r (AA b 2) λt17=>Cl 203 #[t17.agg] r λh' Q=>aa.EX λT=> ∃a',h'=.tuple #[T.agg,.I a']/\aQ Q (.cells aa.S.z.arr 262) λg S=>aa.cX S (AA g 0) T λC=>ay.cv C (AA b 7) λt23=>Cl 203 #[t23.agg] C λi' U=>aa.EX λD=> ∃b',i'=.tuple #[D.agg,.I b']/\aQ U (.cells aa.S.z.arr 262) λi W=>aa.cX W (AA i 0) D λt=>ah.cv t (AA b 12) λt29=>Cl 204 #[t29.agg] t λj' M=>aa.EX λE=> ∃c',j'=.tuple #[E.agg,.I c']/\aQ M (.cells aa.S.z.arr 262) λc N=>aa.cX N (AA c 0) E λH=>Hu H b 0 λt35=>Hi H b 1 λt38=>aa.cv H (AA g 0) λt41=>Hl H c 3 λe' d' p'=>Bd 0 d'/\aL e' λa=>aa.cv H (a.add (toNat 0*4)) λt45=>aa.cv H (AA i 0) λt46=>Hl H c 3 λg' f' q'=>Bd 1 f'/\aL g' λA=>aa.cv H (A.add (toNat 1*4)) λt50=>Hu H b 19 λt52=>Cl 205 #[.U 7] H λk' k=>aa.EX λt33=>k'=t33.agg/\Kp H k [(Sa b 19),(some (A.add (toNat 1*4))),(Sa c 3),(Sa i 0),(some (a.add (toNat 0*4))),(Sa c 3),(Sa g 0),(Sa b 1),(Sa b 0)]/\Cl 205 #[.U t35] k λl' n=>aa.EX λt36=>l'=t36.agg/\Kp k n [(Sa b 19),(some (A.add (toNat 1*4))),(Sa c 3),(Sa i 0),(some (a.add (toNat 0*4))),(Sa c 3),(Sa g 0),(Sa b 1)]/\Cl 205 #[.U (wrap .u64 t38)] n λm' o=>aa.EX λt40=>m'=t40.agg/\Kp n o [(Sa b 19),(some (A.add (toNat 1*4))),(Sa c 3),(Sa i 0),(some (a.add (toNat 0*4))),(Sa c 3),(Sa g 0),(Sa b 1)]/\Cl 205 #[.U t52] o λn' q=>aa.EX λt53=>n'=t53.agg/\Kp o q [(some (A.add (toNat 1*4))),(Sa c 3),(Sa i 0),(some (a.add (toNat 0*4))),(Sa c 3),(Sa g 0),(Sa b 1)]/\aQ q (.cells (t33.l++t36.l++t40.l++t41.l++t45.l++t46.l++t50.l++t53.l).toArray 262) λI u=>Kp q u [(Sa c 3),(Sa c 3),(Sa b 1)]/\Cl 206 #[.slice (Sa I 0) 8 8,.I 2] u λo' O=>aa.EX λF=> ∃G,o'=.tuple #[F.agg,.I G]/\aa.cX O (AA j 0) F λy=>aa.cv y (AA j 0) λZ=>R (.tuple #[Z.agg,.I G]) y):Cl 177 #[p.agg] h R:=aO (lq (sq (lq (cq ll lf)) (lq (lq (lq (sq (.jz (.op 1 (.op 2 (fC 3 4 (fC 12 8 (.op 0 (.op 3 (.op 7 (fC 3 20 .done))))))))) ll)))))) Tryz.func177 X
theorem CG.walk (hv:aQ h (.cells x.arr 262) λb w'=>aQ w' (.cells aC.S.z.arr 126) λc U=>aa.cv U (AA b 0) λt15=>Cl 244 #[t15.agg,.I 2] U λv n=> ∃T t V' w,v=.tuple #[.slice T t V',.I w]/\if(w !=0)then aC.cX n (AA c 0) aC.S.z λa'=>aC.cv a' (AA c 0) λr0=>R (.tuple #[r0.agg,.I w]) a' else if(((t:Nat):Int) !=8)then aC.cX n (AA c 0) aC.S.z λb'=>aC.cv b' (AA c 0) λS'=>R (.tuple #[S'.agg,.I 3]) b' else Bd 3 t/\aL T λa=>aa.cv n (a.add (toNat 3*4)) λt32=>Cl 245 #[t32.agg] n λW' P'=>ay.EX λd'=> ∃e',W'=.tuple #[d'.agg,.I e']/\aQ P' (.cells ay.S.z.arr 29) λo Q'=>ay.cX Q' (AA o 0) d' λc'=>Bd 5 t/\aL T λt'=>aa.cv c' (t'.add (toNat 5*4)) λt39=>Cl 245 #[t39.agg] c' λZ' R'=>ay.EX λf'=> ∃g',Z'=.tuple #[f'.agg,.I g']/\aQ R' (.cells ay.S.z.arr 29) λq x'=>ay.cX x' (AA q 0) f' λk=>aG (λ(id:cy) (g:Int) (H:ai)=>Bd 1 t/\aL T λA=>fW H ((A.add (toNat 1*4)).add 1) λt58=>Bd 2 t/\aL T λy=>fW H ((y.add (toNat 2*4)).add 1) λt62=>ay.cv H (AA o 0) λt64=>ay.cv H (AA q 0) λt65=>aL id λu'=>ah.cv H u' λt66=>Bd 7 t/\aL T λz=>fW H ((z.add (toNat 7*4)).add 1) λt70=>aQ H (.cells aC.S.z.arr 126) λr O=>Kp H O [(some ((z.add (toNat 7*4)).add 1)),id,(Sa q 0),(Sa o 0),(some ((y.add (toNat 2*4)).add 1)),(some ((A.add (toNat 1*4)).add 1))]/\aC.cX O (AA r 0) ⟨t58,(wrap .i64 t62),t64.f0,t64.f1,t64.f2,t64.f3,t64.f4,t65.f0,t65.f1,t65.f2,t65.f3,t65.f4,t66.f0,t66.f1,t66.f2,t66.f3,t66.f4,t66.f5,t66.f6,t70⟩ λQ=>aC.cv Q (AA r 0) λt73=>Cl 177 #[t73.agg] Q λOo y'=>aa.EX λr'=> ∃s',Oo=.tuple #[r'.agg,.I s']/\aQ y' (.cells aa.S.z.arr 262) λF z'=>aa.cX z' (AA F 0) r' λi=>aG (λ(t96:Bool) (u:ai)=>if t96 then aC.cX u (AA c 0) aC.S.z λS=>aC.cv S (AA c 0) λT'=>R (.tuple #[T'.agg,.I 3]) S else aC.cv u (AA r 0) λt98=>aC.cX u (AA c 0) t98 λW=>aC.cv W (AA c 0) λU'=>R (.tuple #[U'.agg,.I 0]) W) (λj=>if(e' !=0)then j true i else if(g' !=0)then j true i else if(g !=0)then j true i else if(s' !=0)then j true i else aa.cv i (AA F 0) λt92=>aa.cv i (AA b 0) λt93=>Cl 248 #[t92.agg,t93.agg] i λLR A'=> ∃t94,LR=.bool t94/\j (!t94) A')) (λJ=>Bd 4 t/\aL T λC=>aa.cv k (C.add (toNat 4*4)) λt46=>Bd 6 t/\aL T λD=>aa.cv k (D.add (toNat 6*4)) λt49=>(aQ k (.cells (t46.l++t49.l).toArray 262) λG X=>(Cl 247 #[.slice (Sa G 0) 2 2] X λQj Y=>aa.EX λt51=>Qj=t51.agg/\(Cl 246 #[t51.agg] Y λRp B'=>ah.EX λj'=> ∃n',Rp=.tuple #[j'.agg,.I n']/\aQ B' (.cells ah.S.z.arr 124) λI C'=>ah.cX C' (AA I 0) j' λD'=>J (Sa I 0) n' D')/\(aQ Y (.cells ah.S.z.arr 124) λM E'=>Cl 246 #[t51.agg] E' λRr F'=>ah.EX λk'=> ∃o',Rr=.tuple #[k'.agg,.I o']/\ah.cX F' (AA M 0) k' λG'=>J (Sa M 0) o' G')/\True)/\(aQ X (.cells ah.S.z.arr 124) λN H'=>Cl 247 #[.slice (Sa G 0) 2 2] H' λRs I'=>aa.EX λh'=>Rs=h'.agg/\Cl 246 #[h'.agg] I' λRt J'=>ah.EX λl'=> ∃p',Rt=.tuple #[l'.agg,.I p']/\ah.cX J' (AA N 0) l' λK'=>J (Sa N 0) p' K')/\True)/\(aQ k (.cells ah.S.z.arr 124) λE Z=>Kp k Z [(some (D.add (toNat 6*4))),(some (C.add (toNat 4*4)))]/\aQ Z (.cells (t46.l++t49.l).toArray 262) λv' L'=>Cl 247 #[.slice (Sa v' 0) 2 2] L' λX' M'=>aa.EX λi'=>X'=i'.agg/\Cl 246 #[i'.agg] M' λY' N'=>ah.EX λm'=> ∃q',Y'=.tuple #[m'.agg,.I q']/\ah.cX N' (AA E 0) m' λO'=>J (Sa E 0) q' O')/\True)):Cl 194 #[x.agg] h R:=aO (lq (lq (sq (bq (lq (cq ll (lq (cq ll lf))))) (lq (lq (sq (.join [(9,.one (.ptr)),(10,.one (.int .i64))] (.jz (fC 6 0 (.alts (.fork 6 (.alts (.fork 7 (.alts (.fork 8 (fC 6 9 .done) (.fork 12 (fC 4 8 (.op 13 (.op 14 .done))) .gX))) (.fork 12 (fC 5 7 (.op 13 (.op 14 .done))) .gX))) (.fork 12 (fC 6 6 (.op 13 (.op 14 .done))) .gX)))))) (sq (pK 19) (lq (sq (sq (.join [(96,.one (.bool))] lf) (cq ll lf)) ll))))))))) Tryz.func194 hv
theorem Gt.walk (H:if((wrap .u32 ((BitVec.ofInt (IntKind.bits .u32) s &&& BitVec.ofInt (IntKind.bits .u32) 1).toNat:Int))==1)then R (.int .u32 (wrap .u32 ((BitVec.ofInt (IntKind.bits .u32) (Int.fdiv s (2 ^ min (toNat 1) (IntKind.bits .u32))) ^^^ BitVec.ofInt (IntKind.bits .u32) P).toNat:Int))) h else R (.int .u32 (Int.fdiv s (2 ^ min (toNat 1) (IntKind.bits .u32)))) h):Cl 327 #[.int .u32 s,.int .u32 P] h R:=aO (lq (sq (lq (cq ll lf)) ll)) Tryz.func327 H
theorem El.walk{c:Int}(i: ∃(I:Int->Int->ai->Prop)(M:Int->Int->ai->Nat),I (wrap .u32 ((BitVec.ofInt (IntKind.bits .u32) s ^^^ BitVec.ofInt (IntKind.bits .u32) (wrap .u32 c)).toNat:Int)) 0 h/\∀(S:Int)(t11:Int)(H:ai),I S t11 H->if(decide (t11<8))then Cl 327 #[.int .u32 S,.int .u32 P] H λv g=> ∃t15,v=.int .u32 t15/\(I t15 (wrap .i64 (t11+1)) g/\M t15 (wrap .i64 (t11+1)) g<M S t11 H)else R (.int .u32 S) H):Cl 323 #[.int .u32 s,.int .u8 c,.int .u32 P] h R:=aO (lq (lq (sq (lq (bq (.loop [(0,.one (.int .u32)),(11,.one (.int .i64))] (lq (sq (cq lf lf) (sq (bq lf) lf)))))) ll))) Tryz.func323 i
theorem L4.walk(g: ∃(I:Int->Int->ai->Prop)(M:Int->Int->ai->Nat),I s 0 h/\∀(S:Int)(t11:Int)(H:ai),I S t11 H->if(decide (t11<(B:Int)))then Bd t11 B/\aL e λa=>HL H (a.add (toNat t11*1)) λt14=>Cl 323 #[.int .u32 S,.int .u8 t14,.int .u32 P] H λv c=> ∃t18,v=.int .u32 t18/\(I t18 (wrap .i64 (t11+1)) c/\M t18 (wrap .i64 (t11+1)) c<M S t11 H)else R (.int .u32 S) H):Cl 315 #[.int .u32 s,.slice e B f,.int .u32 P] h R:=aO (lq (sq (lq (bq (.loop [(0,.one (.int .u32)),(11,.one (.int .i64))] (lq (sq (cq lf lf) (sq (bq ll) lf)))))) ll)) Tryz.func315 g
theorem Gu.walk (c:Cl 315 #[.int .u32 65535,.slice e B f,.int .u32 33800] h λv H=> ∃t4,v=.int .u32 t4/\R (.int .u16 (wrap .u16 ((BitVec.ofInt (IntKind.bits .u16) (IntKind.max .u16) ^^^ BitVec.ofInt (IntKind.bits .u16) (wrap .u16 t4)).toNat:Int))) H):Cl 296 #[.slice e B f] h R:=aO (lq ll) Tryz.func296 c
theorem JE.walk (c:Cl 315 #[.int .u32 4294967295,.slice e B f,.int .u32 2197175160] h λv H=> ∃t4,v=.int .u32 t4/\R (.int .u32 (wrap .u32 ((BitVec.ofInt (IntKind.bits .u32) (IntKind.max .u32) ^^^ BitVec.ofInt (IntKind.bits .u32) t4).toNat:Int))) H):Cl 297 #[.slice e B f] h R:=aO (lq ll) Tryz.func297 c
theorem Em.walk{x:ah.S}(g:aQ h (.cells x.arr 124) λb c=>ay.cv c (AA b 0) λt4=>Cl 86 #[t4.agg] c λv H=> ∃t5,v=.bool t5/\if t5 then∃t8,Cc H b 5 (.U t8)/\if(decide (t8<=1099511627776))then∃t13,Cc H b 6 (.U t13)/\R (.bool (decide (t13<=1099511627776))) H else R (.bool false) H else R (.bool false) H):Cl 237 #[x.agg] h R:=aO (lq ll) Tryz.func237 g
theorem Eo.walk{a:ah.S}{b:ah.S}(k:aQ h (.cells a.arr 124) λc i=>aQ i (.cells b.arr 124) λg H=>Hu H c 5 λt7=> ∃t9,Cc H g 5 (.U t9)/\if(t7 !=t9)then Hu H c 5 λt12=> ∃t14,Cc H g 5 (.U t14)/\R (.bool (decide (t12<t14))) H else Hu H c 6 λt18=> ∃t20,Cc H g 6 (.U t20)/\if(t18 !=t20)then Hu H c 6 λt23=> ∃t25,Cc H g 6 (.U t25)/\R (.bool (decide (t23<t25))) H else ay.cv H (AA c 0) λt28=>ay.cv H (AA g 0) λt30=>Cl 133 #[t28.agg,t30.agg] H λv j=> ∃t31,v=.bool t31/\R (.bool t31) j):Cl 238 #[a.agg,b.agg] h R:=aO (lq (sq (bq (lq (cq ll (lq (cq ll lf))))) ll)) Tryz.func238 k
theorem Ep.walk{x:ah.S}(F:aQ h (.cells x.arr 124) λb z=>aQ z (.cells aa.S.z.arr 262) λg r=>ah.cv r (AA b 0) λt6=>Cl 237 #[t6.agg] r λv j=> ∃t7,v=.bool t7/\if(!t7)then aa.cX j (AA g 0) aa.S.z λt=>aa.cv t (AA g 0) λG=>R (.tuple #[G.agg,.I 3]) t else ay.cv j (AA b 0) λt12=>Cl 203 #[t12.agg] j λJ D=>aa.EX λT=> ∃u,J=.tuple #[T.agg,.I u]/\aQ D (.cells aa.S.z.arr 262) λc E=>aa.cX E (AA c 0) T λH=>aa.cv H (AA c 0) λt16=>Hu H b 5 λt18=>Hu H b 6 λt21=>Cl 205 #[.U t18] H λM k=>aa.EX λt19=>M=t19.agg/\Kp H k [(Sa b 6),(Sa c 0)]/\Cl 205 #[.U t21] k λN n=>aa.EX λt22=>N=t22.agg/\Kp k n [(Sa c 0)]/\aQ n (.cells (t19.l++t22.l).toArray 262) λw i=>Kp n i [(Sa c 0)]/\Cl 247 #[.slice (Sa w 0) 2 2] i λO o=>aa.EX λt24=>O=t24.agg/\Kp i o [(Sa c 0)]/\aQ o (.cells (t16.l++t24.l).toArray 262) λy A=>Cl 247 #[.slice (Sa y 0) 2 2] A λQ C=>aa.EX λt26=>Q=t26.agg/\aa.cX C (AA g 0) t26 λq=>aa.cv q (AA g 0) λI=>R (.tuple #[I.agg,.I u]) q):Cl 204 #[x.agg] h R:=aO (lq (sq (lq (cq ll lf)) (lq (sq (.jz (fC 3 0 (.op 4 (.op 5 (.op 11 (.op 3 (fC 5 6 (.op 12 (.op 13 .done))))))))) lf)))) Tryz.func204 F
theorem Gv.walk (hv:aQ h (.cells x.arr 262) λb S=>aQ S (.cells ah.S.z.arr 124) λg H=>aG (λ(t34:Bool) (j:ai)=>if t34 then ah.cX j (AA g 0) ah.S.z λC=>ah.cv C (AA g 0) λr0=>R (.tuple #[r0.agg,.I 3]) C else Hl j b 3 λl' k' y'=>Bd 0 k'/\aL l' λa=>aa.cv j (a.add (toNat 0*4)) λt40=>Cl 245 #[t40.agg] j λv Y=>ay.EX λG=> ∃I,v=.tuple #[G.agg,.I I]/\aQ Y (.cells ay.S.z.arr 29) λn Z=>ay.cX Z (AA n 0) G λc=>ay.cv c (AA n 0) λt44=>Hl c b 3 λn' m' z'=>Bd 1 m'/\aL n' λA=>oP c ((A.add (toNat 1*4)).add 3) λp' o' A'=>Bd 0 o'/\aL p' λr=>fW c ((r.add (toNat 0*4)).add 1) λt52=>Hl c b 3 λr' q' B'=>Bd 1 q'/\aL r' λt=>oP c ((t.add (toNat 1*4)).add 3) λt' s' C'=>Bd 1 s'/\aL t' λu=>fW c ((u.add (toNat 1*4)).add 1) λt60=>aQ c (.cells ah.S.z.arr 124) λo D=>Kp c D [(some ((u.add (toNat 1*4)).add 1)),(some ((t.add (toNat 1*4)).add 3)),(Sa b 3),(some ((r.add (toNat 0*4)).add 1)),(some ((A.add (toNat 1*4)).add 3)),(Sa b 3),(Sa n 0)]/\ah.cX D (AA o 0) ⟨t44.f0,t44.f1,t44.f2,t44.f3,t44.f4,t52,t60⟩ λE=>ah.cv E (AA o 0) λt63=>Cl 204 #[t63.agg] E λu' U=>aa.EX λM=> ∃N,u'=.tuple #[M.agg,.I N]/\aQ U (.cells aa.S.z.arr 262) λw W=>aa.cX W (AA w 0) M λi=>aG (λ(t78:Bool) (q:ai)=>if t78 then ah.cX q (AA g 0) ah.S.z λy=>ah.cv y (AA g 0) λa'=>R (.tuple #[a'.agg,.I 3]) y else ah.cv q (AA o 0) λt80=>ah.cX q (AA g 0) t80 λz=>ah.cv z (AA g 0) λb'=>R (.tuple #[b'.agg,.I 0]) z) (λk=>if(I !=0)then k true i else if(N !=0)then k true i else aa.cv i (AA w 0) λt74=>aa.cv i (AA b 0) λt75=>Cl 248 #[t74.agg,t75.agg] i λv' X=> ∃t76,v'=.bool t76/\k (!t76) X)) (λJ=> ∃t10,Cc H b 0 (.I t10)/\if(t10 !=4)then J true H else∃d' T c',Cc H b 3 (.slice d' T c')/\if(((T:Nat):Int) !=2)then J true H else Hl H b 3 λf' e' w'=>Bd 1 e'/\aL f' λO=> ∃t23,bg H (O.add (toNat 1*4))=some (.I t23)/\if(t23 !=4)then J true H else Hl H b 3 λh' g' x'=>Bd 1 g'/\aL h' λQ=> ∃j' F i',bg H ((Q.add (toNat 1*4)).add 3)=some (.slice j' F i')/\J (((F:Nat):Int) !=2) H)):Cl 246 #[x.agg] h R:=aO (lq (sq (sq (.join [(34,.one (.bool))] lf) (cq ll lf)) (lq (sq (pK 20) (sq (lq (sq (.join [(78,.one (.bool))] lf) (cq ll lf))) ll))))) Tryz.func246 hv
theorem vA.walk{now:Int} (C:aQ h (.cells ah.S.z.arr 124) λb c=>aG (λ(i:ai)=>ah.cv i (AA m 0) λt58=>ah.cX i (AA b 0) t58 λk=>ah.cv k (AA b 0) λD=>R (.tuple #[D.agg,.I 0]) k) (λJ=>aG (λ(t15:Bool) (H:ai)=>aG (λ(y:ai)=>J y) (λr=>if t15 then ah.cX H (AA b 0) ah.S.z λn=>ah.cv n (AA b 0) λE=>R (.tuple #[E.agg,.I 6]) n else aG (λ(z:ai)=>r z) (λt=>if(decide (now>1099511627776))then ah.cX H (AA b 0) ah.S.z λo=>ah.cv o (AA b 0) λF=>R (.tuple #[F.agg,.I 1]) o else Hu H m 5 λt36=>aG (λ(A:ai)=>t A) (λj=>if(decide (now>t36))then aS H (AA m 5) (.U now) λu=>aS u (AA m 6) (.U 0) λv=>j v else∃t52,Cc H m 6 (.U t52)/\if(decide (t52≥1099511627776))then ah.cX H (AA b 0) ah.S.z λg=>ah.cv g (AA b 0) λG=>R (.tuple #[G.agg,.I 5]) g else∃t10,Cc H m 6 (.U t10)/\aS H (AA m 6) (.U (wrap .u64 (t10+1))) λw=>j w)))) (λq=> ∃t22,Cc c m 7 (.bool t22)/\q (!t22) c))):Cl 190 #[.P m 0,.U now] h R:=aO (lq (sq (.join [] (bq (sq (.join [(15,.one (.bool))] lf) (.join [] (cq ll (lq (.join [] (cq ll (lq (.join [] (cq lf (lq (cq ll lf))))))))))))) ll)) Tryz.func190 C
theorem vB.walk{x:ah.S}(o:aQ h (.cells x.arr 124) λb k=>aG (λ(t5:Bool) (g:ai)=>if t5 then R (.I 6) g else aG (λ(t15:Bool) (H:ai)=>if t15 then R (.I 1) H else ah.cv H (AA m 0) λt33=>ah.cv H (AA b 0) λt34=>Cl 238 #[t33.agg,t34.agg] H λv i=> ∃t35,v=.bool t35/\if(!t35)then R (.I 7) i else ah.cv i (AA b 0) λt38=>ah.cX i (AA m 0) t38 λn=>R (.I 0) n) (λj=>ah.cv g (AA b 0) λt16=>Cl 237 #[t16.agg] g λq c=> ∃t17,q=.bool t17/\if(!t17)then j true c else ay.cv c (AA b 0) λt21=>ay.cv c (AA m 0) λt26=> ∃(eq:Bool),Aj Tryz.prog 29 (t21.agg) (t26.agg) eq/\j (!eq) c)) (λJ=> ∃t12,Cc k m 7 (.bool t12)/\J (!t12) k)):Cl 189 #[.P m 0,x.agg] h R:=aO (lq (sq (bq (sq (.join [(5,.one (.bool))] lf) (cq ll (sq (.join [(15,.one (.bool))] (pK 14)) (cq ll (sq (pK 8) (cq ll lf))))))) (lq ll))) Tryz.func189 o
theorem JF.walk{x:ay.S}(T:aQ h (.cells x.arr 29) λb z=>aQ z (.cells aa.S.z.arr 262) λc n=>ay.cv n (AA b 0) λt5=>Cl 86 #[t5.agg] n λv H=> ∃t6,v=.bool t6/\if(!t6)then aa.cX H (AA c 0) aa.S.z λq=>aa.cv q (AA c 0) λU=>R (.tuple #[U.agg,.I 3]) q else ay.cv H (AA b 0) λt10=> ∃(eq:Bool),Aj Tryz.prog 29 (t10.agg) (ay.S.z.agg) eq/\if eq then Cl 205 #[.U 1] H λZ N=>aa.EX λt13=>Z=t13.agg/\Cl 205 #[.U 0] N λd' O=>aa.EX λt14=>d'=t14.agg/\aQ O (.cells (t13.l++t14.l).toArray 262) λt Q=>Cl 247 #[.slice (Sa t 0) 2 2] Q λe' S=>aa.EX λt16=>e'=t16.agg/\aa.cX S (AA c 0) t16 λr=>aa.cv r (AA c 0) λW=>R (.tuple #[W.agg,.I 0]) r else∃t19,Cc H b 0 (.bool t19)/\if t19 then Hu H b 1 λt22=>Hu H b 2 λt25=>Cl 205 #[.U 2] H λf' g=>aa.EX λt20=>f'=t20.agg/\Kp H g [(Sa b 2),(Sa b 1)]/\Cl 205 #[.U t22] g λg' i=>aa.EX λt23=>g'=t23.agg/\Kp g i [(Sa b 2)]/\Cl 205 #[.U t25] i λh' A=>aa.EX λt26=>h'=t26.agg/\aQ A (.cells (t23.l++t26.l).toArray 262) λu C=>Cl 247 #[.slice (Sa u 0) 2 2] C λi' D=>aa.EX λt28=>i'=t28.agg/\aQ D (.cells (t20.l++t28.l).toArray 262) λw E=>Cl 247 #[.slice (Sa w 0) 2 2] E λj' F=>aa.EX λt30=>j'=t30.agg/\aa.cX F (AA c 0) t30 λj=>aa.cv j (AA c 0) λX=>R (.tuple #[X.agg,.I 0]) j else ay.cv H (AA b 0) λt32=>Cl 205 #[.U 1] H λk' k=>aa.EX λt31=>k'=t31.agg/\Kp H k [(Sa b 0)]/\Cl 136 #[t32.agg] k λa' G=> ∃t33,a'=.string t33/\Cl 255 #[.string t33] G λb' I=>aa.EX λt34=>b'=t34.agg/\aQ I (.cells (t31.l++t34.l).toArray 262) λy J=>Cl 247 #[.slice (Sa y 0) 2 2] J λc' M=>aa.EX λt36=>c'=t36.agg/\aa.cX M (AA c 0) t36 λo=>aa.cv o (AA c 0) λY=>R (.tuple #[Y.agg,.I 0]) o):Cl 203 #[x.agg] h R:=aO (lq (sq (bq (lq (cq ll (lq (cq ll (lq (cq (sq (.jz (.op 1 (.op 2 (.op 4 (.op 5 (.op 0 (.op 3 (fC 7 6 .done)))))))) lf) lf))))))) (sq (.jz (.op 1 (.op 0 (fC 6 2 .done)))) lf))) Tryz.func203 T
theorem Ay.walk{s:ByteArray}(A:aQ h (.cells ay.S.z.arr 29) λb u=>Cl 312 #[.string s,.string (⟨#[47,47]⟩:ByteArray)] u λv w=> ∃T o,v=.tuple #[.string T,.bool o]/\Cl 313 #[.string T,.string (⟨#[47]⟩:ByteArray)] w λG y=> ∃t q r,G=.tuple #[.string t,.string q,.bool r]/\aQ y (.cells ay.S.z.arr 29) λc z=>ay.cX z (AA c 0) ⟨false,0,0,t,q⟩ λH=>ay.cv H (AA c 0) λt24=>if o then if r then if(!(t.toList==fU.toList))then ay.cv H (AA c 0) λt34=>Cl 86 #[t34.agg] H λI i=> ∃t35,I=.bool t35/\Kp H i [(Sa c 0)]/\ay.cX i (AA b 0) t24 λj=>ay.cv j (AA b 0) λC=>R (.tuple #[C.agg,.bool t35]) j else ay.cX H (AA b 0) t24 λk=>ay.cv k (AA b 0) λD=>R (.tuple #[D.agg,.bool false]) k else ay.cX H (AA b 0) t24 λn=>ay.cv n (AA b 0) λE=>R (.tuple #[E.agg,.bool false]) n else ay.cX H (AA b 0) t24 λg=>ay.cv g (AA b 0) λF=>R (.tuple #[F.agg,.bool false]) g):Cl 286 #[.string s] h R:=aO (lq (lq (lq (lq (sq (pK 15) lf))))) Tryz.func286 A
theorem Er.walk{n:Int}(E:aQ h (.cells x.arr 262) λb g=>aG (λ(t18:Bool) (k:ai)=>if t18 then R (.tuple #[.Z,.bool false]) k else Hl k b 3 λN z U=> ∃(I:cy->Nat->Nat->Int->ai->Prop)(M:cy->Nat->Nat->Int->ai->Nat),I none 0 0 0 k/\∀(j:cy)(O o:Nat)(t22:Int)(H:ai),I j O o t22 H->if(decide (t22<(z:Int)))then Bd t22 z/\aL N λa=>aa.cv H (a.add (toNat t22*4)) λt25=>aQ H (.cells aa.S.z.arr 262) λc C=>aa.cX C (AA c 0) t25 λi=>aa.cv i (AA c 0) λt26=>Hu i c 1 λt28=>Cl 205 #[.U t28] i λv u=>aa.EX λt29=>v=t29.agg/\Kp i u [(Sa c 0)]/\Cl 248 #[t26.agg,t29.agg] u λQ q=> ∃t30,Q=.bool t30/\if(!t30)then R (.tuple #[.Z,.bool false]) q else Hu q c 1 λt34=>aQ q (.cells #[.U t34] 27) λA D=>aW Tryz.prog (Builtin.append_ #[345,345] 345 #[.slice j O o,.slice (Sa A 0) 1 1]) D λS w=> ∃r T t,S=.slice r T t/\(I r T t (wrap .i64 (t22+1)) w/\M r T t (wrap .i64 (t22+1)) w<M j O o t22 H)else R (.tuple #[.slice j O o,.bool true]) H) (λJ=> ∃t10,Cc g b 0 (.I t10)/\if(t10 !=4)then J true g else∃G y F,Cc g b 3 (.slice G y F)/\J (((y:Nat):Int) !=n) g)):Cl 287 #[x.agg,.I n] h R:=aO (lq (sq (sq (.join [(18,.one (.bool))] lf) (cq ll lf)) (lq (sq (lq (bq (.loop [(6,.one (.slice)),(22,.one (.int .i64))] (lq (sq (cq lf lf) (sq (bq (lq (sq (sq (pK 6) (cq ll lf)) lf))) lf)))))) ll)))) Tryz.func287 E
theorem L5.walk (hv:aQ h (.cells x.arr 262) λb y'=>aQ y' (.cells ay.S.z.arr 29) λc b'=>aG (λ(t22:Bool) (H:ai)=>if t22 then ay.cX H (AA c 0) ay.S.z λi'=>ay.cv i' (AA c 0) λr0=>R (.tuple #[r0.agg,.I 3]) i' else aG (λ(S:cy) (rest:cy) (J':ai)=>aQ J' (.cells ay.S.z.arr 29) λk C=>aG (λ(ok:Bool) (D:ai)=>if(!ok)then ay.cX D (AA c 0) ay.S.z λj'=>ay.cv j' (AA c 0) λO'=>R (.tuple #[O'.agg,.I 3]) j' else ay.cv D (AA k 0) λt80=>ay.cX D (AA c 0) t80 λk'=>ay.cv k' (AA c 0) λP'=>R (.tuple #[P'.agg,.I 0]) k') (λo'=>aG (λ(t32:Bool) (n:ai)=>aG (λ(K':Bool) (z':ai)=>o' K' z') (λp'=>if t32 then ay.cX n (AA c 0) ay.S.z λZ=>ay.cv Z (AA c 0) λQ'=>R (.tuple #[Q'.agg,.I 0]) Z else aG (λ(t42:Bool) (g:ai)=>aG (λ(L':Bool) (A':ai)=>p' L' A') (λN=>if t42 then aL rest λa=>oP g (a.add 2) λZ' Y' X'=> ∃(t54:ByteArray),wu Tryz.prog 22 9 (.slice Z' Y' X') g t54/\Cl 286 #[.string t54] g λv B'=>ay.EX λm'=> ∃n',v=.tuple #[m'.agg,.bool n']/\ay.cX B' (AA k 0) m' λC'=>N n' C' else aL S λq'=>aa.cv g q' λt59=>Cl 205 #[.U 2] g λRu a'=>aa.EX λt60=>Ru=t60.agg/\Kp g a' [S]/\Cl 248 #[t59.agg,t60.agg] a' λRv r=>Vb Rv λt61=>aG (λ(M':Bool) (D':ai)=>N M' D') (λO=>if t61 then aL rest λr'=>aa.cv r r' λt63=>Cl 287 #[t63.agg,.I 2] r λOo o=> ∃E T Oy F,Oo=.tuple #[.slice E T Oy,.bool F]/\aG (λ(N':Bool) (E':ai)=>O N' E') (λQ=>if F then Bd 0 T/\aL E λs'=>fW o (s'.add (toNat 0*1)) λt70=>Bd 1 T/\aL E λt'=>fW o (t'.add (toNat 1*1)) λt73=>ay.cX o (AA k 0) ⟨true,t70,t73,fU,fU⟩ λc'=>ay.cv c' (AA k 0) λt75=>Cl 86 #[t75.agg] c' λLR F'=> ∃t76,LR=.bool t76/\Q t76 F' else Q F o)else O false r))) (λM=>aL S λu'=>aa.cv n u' λt43=>Cl 205 #[.U 1] n λQj d'=>aa.EX λt44=>Qj=t44.agg/\Kp n d' [S]/\Cl 248 #[t43.agg,t44.agg] d' λRp t=> ∃t45,Rp=.bool t45/\if t45 then aL rest λv'=> ∃t48,bg t v'=some (.I t48)/\M (t48==3) t else M false t))) (λI=>aL S λw'=>aa.cv C w' λt33=>Cl 205 #[.U 1] C λRr e'=>aa.EX λt34=>Rr=t34.agg/\Kp C e' [S]/\Cl 248 #[t33.agg,t34.agg] e' λRs q=> ∃t35,Rs=.bool t35/\if t35 then aL rest λx'=>aa.cv q x' λt37=>Cl 205 #[.U 0] q λRt f'=>aa.EX λt38=>Rt=t38.agg/\Kp q f' [rest]/\Cl 248 #[t37.agg,t38.agg] f' λQp G'=> ∃t39,Qp=.bool t39/\I t39 G' else I false q))) (λG=>Hl H b 3 λU' T' Uu=>Bd 0 T'/\aL U' λi=>aa.cv H (i.add (toNat 0*4)) λt27=>Hl H b 3 λW' V' Uv=>Bd 1 V'/\aL W' λA=>aa.cv H (A.add (toNat 1*4)) λt31=>(aQ H (.cells aa.S.z.arr 262) λU u=>Kp H u [(some (A.add (toNat 1*4))),(Sa b 3),(some (i.add (toNat 0*4))),(Sa b 3)]/\aQ u (.cells aa.S.z.arr 262) λW w=>Kp u w [(some (A.add (toNat 1*4))),(Sa b 3),(some (i.add (toNat 0*4))),(Sa b 3)]/\aa.cX w (AA U 0) t27 λg'=>Kp w g' [(some (A.add (toNat 1*4))),(Sa b 3)]/\aa.cX g' (AA W 0) t31 λH'=>G (Sa U 0) (Sa W 0) H')/\(aQ H (.cells aa.S.z.arr 262) λX y=>Kp H y [(some (A.add (toNat 1*4))),(Sa b 3),(some (i.add (toNat 0*4))),(Sa b 3)]/\aQ y (.cells aa.S.z.arr 262) λY z=>Kp y z [(some (A.add (toNat 1*4))),(Sa b 3),(some (i.add (toNat 0*4))),(Sa b 3)]/\aa.cX z (AA Y 0) t27 λh'=>Kp z h' [(some (A.add (toNat 1*4))),(Sa b 3)]/\aa.cX h' (AA X 0) t31 λI'=>G (Sa Y 0) (Sa X 0) I')/\True)) (λJ=>aa.cv b' (AA b 0) λt9=>Cl 207 #[t9.agg] b' λQq j=> ∃t10,Qq=.bool t10/\if(!t10)then J true j else∃t14,Cc j b 0 (.I t14)/\if(t14 !=4)then J true j else∃S' l' R',Cc j b 3 (.slice S' l' R')/\J (((l':Nat):Int) !=2) j)):Cl 245 #[x.agg] h R:=aO (lq (sq (sq (.join [(22,.one (.bool))] lf) (cq ll lf)) (sq (.join [(4,.one (.ptr)),(5,.one (.ptr))] (.jz (fC 8 0 (.alts (.fork 8 (fC 3 9 .done) (.fork 9 (.op 8 (.op 10 (.op 11 .done))) .gX)))))) (lq (lq (sq (.join [(7,.one (.bool))] (bq (sq (.join [(32,.one (.bool))] (pK 9)) (.join [(7,.one (.bool))] (cq ll (sq (.join [(42,.one (.bool))] (pK 9)) (.join [(7,.one (.bool))] (cq lf (sq (pK 4) (.join [(7,.one (.bool))] (cq (lq (lq (lq (.join [(7,.one (.bool))] (cq (sq (pK 8) lf) lf))))) lf))))))))))) (sq (lq (cq ll lf)) ll))))))) Tryz.func245 hv

end
section
namespace Bn
open Cb
open iW (Ev cV kz)
variable {h:ai} {R:fp}
variable {n s q c l:Nat} {p:cy} {bs:cD}
theorem Qr(H:n<4294967296):IntKind.wrap .u32 (n:Int)=(n:Int):=by
 have e:IntKind.wrap .u32 (n:Int)=(n:Int)%4294967296:=by simp[IntKind.wrap,IntKind.bits,IntKind.signed]
 rw[e];omega
theorem Tc(H:n<4294967296):(BitVec.ofInt (IntKind.bits .u32) (n:Int)).toNat=n:=by
 rw[BitVec.ofInt_natCast,BitVec.toNat_ofNat];exact Nat.mod_eq_of_lt H
theorem L8{a b:Nat}(H:a<4294967296)(d:b<4294967296):IntKind.wrap .u32 ((BitVec.ofInt (IntKind.bits .u32) (a:Int) ^^^ BitVec.ofInt (IntKind.bits .u32) (b:Int)).toNat:Int)=((a ^^^ b:Nat):Int):=by
 rw[BitVec.toNat_xor,Tc H,Tc d];exact Qr (Nat.xor_lt_two_pow (n:=32) H d)
theorem Rx(H:s<4294967296):IntKind.wrap .u32 ((BitVec.ofInt (IntKind.bits .u32) (s:Int) &&& BitVec.ofInt (IntKind.bits .u32) 1).toNat:Int)=((s%2:Nat):Int):=by
 rw[BitVec.toNat_and,Tc H,show(BitVec.ofInt (IntKind.bits .u32) 1).toNat=1 from rfl,Nat.and_one_is_mod];exact Qr ag
theorem Qs(s:Nat):Int.fdiv (s:Int) (2 ^ min (Int.toNat 1) (IntKind.bits .u32))=((s/2:Nat):Int):=LZ s 1
theorem JG(a:s<4294967296)(H:q<4294967296):oF s q<4294967296:=by
 unfold oF;split
 .exact Nat.xor_lt_two_pow (n:=32) (show s/2<2 ^ 32 by omega) H
 .omega
theorem Ma(a:s<4294967296)(H:q<4294967296)(hk:R (.int .u32 (oF s q:Int)) h):Cl 327 #[.int .u32 (s:Int),.int .u32 (q:Int)] h R:=by
 refine Gt.walk ?_;unfold oF at hk;rw[Rx a,Qs,L8 ag H];by_cases c:s%2=1
 .rw[af (by rw[c];rfl)];rw[af c]at hk;exact hk
 .rw[ae (λe=>c (bY (eq_of_beq e)))];rw[ae c]at hk;exact hk
theorem yW(q:Nat): ∀(k s:Nat),pX q (k+1) s=oF (pX q k s) q
 |0,_=>rfl
 |k+1,s=>by
  show pX q (k+1) (oF s q)=oF (pX q k (oF s q)) q;exact yW q k _
theorem yX(a:q<4294967296): ∀(k s:Nat),s<4294967296->pX q k s<4294967296
 |0,_,H=>H
 |k+1,s,H=>yX a k _ (JG H a)
theorem JH(a:s<4294967296)(f:c<256)(H:q<4294967296)(hk:R (.int .u32 (PI s c q:Int)) h):Cl 323 #[.int .u32 (s:Int),.int .u8 (c:Int),.int .u32 (q:Int)] h R:=by
 have d:=Nat.xor_lt_two_pow (n:=32) (x:=s) (y:=c) a ag;refine El.walk ⟨λz t g=>g=h/\∃i:Nat,t=(i:Int)/\i<=8/\z=(pX q i (s ^^^ c):Int),λ_ t _=>8 - t.toNat,⟨rfl,0,rfl,ag,?_⟩,?_⟩
 .rw[Qr (n:=c) ag,L8 a ag];rfl
 rintro _ _ _ ⟨rfl,i,rfl,j,rfl⟩;have b:=yX H i (s ^^^ c) d;by_cases c1:i<8
 .rw[fK];refine Ma b H ⟨_,rfl,?_⟩;rw[bD ag ag,<-yW];exact⟨⟨rfl,i+1,ag,ag,rfl⟩,by show 8 - Int.toNat ((i:Int)+1)<8 - Int.toNat (i:Int);omega⟩
 .rw[ae (λe=>c1 (bY (aU e)))];obtain rfl:i=8:=ag
  exact hk
theorem CH(a:q<4294967296): ∀(b:cD)(s:Nat),s<4294967296->runN s b q<4294967296
 | [],_,H=>H
 |c::b,s,H=>CH a b _ (yX a 8 _ (Nat.xor_lt_two_pow (n:=32) H (bY c.toNat_lt)))
theorem Mb(d:s<4294967296)(H:q<4294967296)(row:Row h p (bc bs))(b:l=bs.length)(j:bs.length<=100000000)(hk:R (.int .u32 (runN s bs q:Int)) h):Cl 315 #[.int .u32 (s:Int),.slice p l c,.int .u32 (q:Int)] h R:=by
 subst b;refine L4.walk ⟨λz t g=>g=h/\∃i:Nat,t=(i:Int)/\i<=bs.length/\z=(runN s (bs.take i) q:Int),λ_ t _=>bs.length - t.toNat,⟨rfl,0,rfl,ag,by rw[dV];rfl⟩,?_⟩;rintro _ _ _ ⟨rfl,i,rfl,f,rfl⟩;by_cases c1:i<bs.length
 .rw[fK];obtain⟨a,rfl,C⟩:=Cb.byte_at row c1;refine⟨ag,aw.2 ⟨_,by rw[aI];exact C,JH (CH H _ _ d) (bs[i]).toNat_lt H ⟨_,rfl,?_⟩⟩⟩;rw[bD ag ag];refine⟨⟨rfl,i+1,ag,ag,?_⟩,by show bs.length - Int.toNat ((i:Int)+1)<bs.length - Int.toNat (i:Int);omega⟩;rw[bQ,aj c1];unfold runN;rw[List.foldl_append];rfl
 .rw[ae (λe=>c1 (bY (aU e)))];rw[bJ ag];exact hk
theorem Mc(row:Row h p (bc bs))(a:l=bs.length)(b:bs.length<=100000000)(hk:R (.int .u16 (yL bs:Int)) h):Cl 296 #[.slice p l c] h R:=by
 refine Gu.walk (Mb (s:=65535) (q:=33800) di di row a b ⟨_,rfl,?_⟩);unfold yL at hk;generalize runN 65535 bs 33800=z at hk⊢;have e:IntKind.wrap .u16 (z:Int)=((z%65536:Nat):Int):=by
  have e:IntKind.wrap .u16 (z:Int)=(z:Int)%65536:=by simp[IntKind.wrap,IntKind.bits,IntKind.signed]
  rw[e];omega
 rw[e];have H:z%65536<65536:=ag
 generalize z%65536=y at hk H⊢;have e2:(BitVec.ofInt (IntKind.bits .u16) (IntKind.max .u16) ^^^ BitVec.ofInt (IntKind.bits .u16) (y:Int)).toNat=65535 ^^^ y:=by
  rw[BitVec.toNat_xor,BitVec.ofInt_natCast,BitVec.toNat_ofNat,show(BitVec.ofInt (IntKind.bits .u16) (IntKind.max .u16)).toNat=65535 from rfl,show(2:Nat) ^ IntKind.bits .u16=65536 from rfl,Nat.mod_eq_of_lt H]
 rw[e2];have E:IntKind.wrap .u16 ((65535 ^^^ y:Nat):Int)=((65535 ^^^ y:Nat):Int):=by
  have d:=Nat.xor_lt_two_pow (n:=16) (x:=65535) (y:=y) di ag;have e:IntKind.wrap .u16 ((65535 ^^^ y:Nat):Int)=((65535 ^^^ y:Nat):Int)%65536:=by simp[IntKind.wrap,IntKind.bits,IntKind.signed]
  rw[e];omega
 rw[E];exact hk
theorem Oz(row:Row h p (bc bs))(H:l=bs.length)(d:bs.length<=100000000)(hk:R (.int .u32 (wO bs:Int)) h):Cl 297 #[.slice p l c] h R:=by
 refine JE.walk (Mb (s:=4294967295) (q:=2197175160) di di row H d ⟨_,rfl,?_⟩);have:=L8 (a:=4294967295) (b:=runN 4294967295 bs 2197175160) di (CH di _ _ di);rw[show(IntKind.max .u32)=((4294967295:Nat):Int)from rfl,this];exact hk

end Bn
end
end Go.Proofs.YtlenamcfacpheaaGreatDoor
namespace Go.Den
theorem OA{P:Program}{S d e:TypeId}{h:ai}{s:ByteArray}{K:fp}(r:P.underlying S=some .string)(hd:P.underlying d=some (.slice e))(m:P.underlying e=some (.int .u8))(hk: ∀p c h',Row h' p (bc s.data.toList)->s.size<=c->Fr No h h'->(∀y,aR p y->h.size<=y)->K (.slice p s.size c) h'):aW P (convert S d (.string s)) h K:=by
 unfold convert;refine bT (s:=underlying S) (bA r) ?_;refine bT (s:=underlying d) (bA hd) ?_;show aW P (underlying e>>=_) h K;refine bT (s:=underlying e) (bA m) ?_;show aW P (Conv.stringToBytes e s) h K;unfold Conv.stringToBytes;rw[dB];unfold choose;simp only[aW,Question.forced,au,aM,Question.cut];intro T;generalize x:s.size+T%(2 ^ 63 - s.size)=cap;have o:s.size<=cap:=ag
 generalize l:(s.data.map λb=>Value.int .u8 (b.toNat:Int))++Array.replicate (cap - s.size) (Value.int .u8 0)=cs;have q: ∀j v,(bc s.data.toList)[j]? =some v->cs[0+j]? =some v:=λj v g=>by
  have i:=(aB.1 g).1;rw[jT,ee]at i;rw[<-l,bL,dz (cA i),Array.getElem?_map,<-g];unfold bc;rw[aK,dq]
 show aW P (newRow e cs>>=_) h K;rw[dB];show aW P (markStringish (AA h.size 0)>>=λ_=>pure (.slice (Sa h.size 0) s.size cap)) (h.push (.cells cs e)) K;rw[dB];unfold markStringish shape;have u:nZ (h.push (.cells cs e)) h.size=some (e,cs.size):=by simp[nZ]
 show aW P (match nZ (h.push (.cells cs e)) h.size with|some (_,n)=>freeze { block:=h.size,off:=n } 1|_=>pure ()) (h.push (.cells cs e)) _;rw[u];show K (.slice (Sa h.size 0) s.size cap) (ob (h.push (.cells cs e)) { block:=h.size,off:=cs.size } 1);unfold ob;rw[dc];refine hk _ _ _ (.inr ⟨_,rfl,gT (c:=cs) (t:=e) (f:=if(0:Nat)==0 then(cs.size,cs.size+1)else(min 0 cs.size,max 0 (cs.size+1))) ?_ q⟩) o ⟨bP,λc w _=> ?_⟩ (λy ⟨a,E,k⟩=>by cases E;exact Nat.le_of_eq k)
 .rw[dO,af rfl,bV];rfl
 .rw[dO,ae (by simp;omega),fu,dc]
end Go.Den
namespace Go.Proofs.YtlenamcfacpheaaGreatDoor
open Go.Den
namespace kK
variable {h h' H : ai} {R : Value → ai → Prop}
theorem Vf{s:ByteArray}{K:fp}(hk: ∀p c h',Row h' p (bc s.data.toList)->s.size<=c->Fr No h h'->(∀y,aR p y->h.size<=y)->K (.slice p s.size c) h'):aW Tryz.prog (convert 9 22 (.string s)) h K:=OA uS uU u8 hk
end kK
end Go.Proofs.YtlenamcfacpheaaGreatDoor
namespace Go.Proofs.YtlenamcfacpheaaGreatDoor
open Go.Den
open IntKind (wrap)
open Int (toNat)
section
variable {h:ai} {R:fp}
theorem Md.walk{x:Bool}{X:Int}{a:Int}{c:ByteArray}{d:ByteArray} (e:aQ h (.cells #[.bool x,.U X,.U a,.string c,.string d] 29) λb H=>Hs H b 3 λt4=>(((⟨#[47,47]⟩:ByteArray).size+t4.size:Nat):Int)<=IntKind.max .i64/\((((⟨#[47,47]⟩:ByteArray)++t4).size+(⟨#[47]⟩:ByteArray).size:Nat):Int)<=IntKind.max .i64/\Hs H b 4 λt8=>(((((⟨#[47,47]⟩:ByteArray)++t4)++(⟨#[47]⟩:ByteArray)).size+t8.size:Nat):Int)<=IntKind.max .i64/\R (.string ((((⟨#[47,47]⟩:ByteArray)++t4)++(⟨#[47]⟩:ByteArray))++t8)) H):Cl 136 #[.agg #[.bool x,.U X,.U a,.string c,.string d]] h R:=aO (lq ll) Tryz.func136 e

end
section
namespace iW
variable {h:ai} {R:fp}
theorem qP(a b:cD):str a++str b=str (a++b):=by
 unfold str;apply ByteArray.ext
 rw[ByteArray.data_append];simp
theorem qh(a:cD):(str a).size=a.length:=by unfold str;rfl
theorem ua(s:ByteArray):s=str s.data.toList:=(Ln s).symm
theorem nz(s:ByteArray):s.data.toList.length=s.size:=by rw[ee];rfl
theorem Td:IntKind.max .i64=9223372036854775807:=rfl
theorem OB(x:Ev)(c:x.host.size<=1000)(d:x.jB.size<=1000)(hk: gL h R (.string (str ([47,47]++x.host.data.toList++ [47]++x.jB.data.toList)))):Cl 136 #[kz x] h R:=by
 refine Md.walk (ay.box λb a e H f3=>⟨_,ar H,?_⟩);have e1:(⟨#[47,47]⟩:ByteArray)=str [47,47]:=rfl;have e2:(⟨#[47]⟩:ByteArray)=str [47]:=rfl;have l1:=nz x.host;have l2:=nz x.jB;have K:=hk a f3;rw[e1,e2,Td];refine⟨?_,?_,_,ar H,?_,?_⟩
 .rw[qh];simp;omega
 .rw[ua x.host,qP,qh,qh];simp;omega
 .rw[ua x.host,qP,qP,qh];simp;omega
 .rw[ua x.host,ua x.jB,qP,qP,qP];exact K

end iW
end
section
namespace Cb
variable {h i h':ai} {R:fp} {D D':Nat→Prop}
abbrev CV.s(x:CV):aa.S:=⟨x.k,x.n,x.v.p,x.v.b.length,x.v.c,x.q,x.ll,x.cl⟩
abbrev nv(n:Nat):CV:=⟨0,n,⟨none,0, []⟩,none,0,0⟩
theorem rU.frame{Q:Nat->Prop}{t:Tr}{x:CV}(H:rU h D t x)(f:Fr Q h h')(e: ∀y,D y->¬Q y):rU h' D t x:=by
 obtain⟨⟨a,b,c,d⟩,ys,k,l,j,m⟩:=H;exact⟨⟨a,b,c,d.frame f e⟩,ys,k,l.frame f (λy g=>e y (j y g)),j,df.frame f (λy g=>e y g.1) m⟩
theorem rU.mono{t:Tr}{x:CV}(H:rU h D t x)(hd: ∀y,D y->D' y):rU h D' t x:=by
 obtain⟨⟨a,b,c,d⟩,ys,f,g,j,k⟩:=H;exact⟨⟨a,b,c,d.mono hd⟩,ys,f,g,λy e=>hd y (j y e),df.mono (λy e=>⟨hd y e.1,e.2⟩) k⟩
abbrev CI(h:ai)(t:Tr)(x:CV):Prop:=gl h (λ_=>True) t x
abbrev Az(h:ai)(ts:List Tr)(xs:List CV):Prop:=df h (λ_=>True) ts xs
theorem gl.u{t:Tr}{x:CV}(H:gl h D t x):CI h t x:=H.mono λ_ _=>trivial
theorem df.u{t:List Tr}{x:List CV}(H:df h D t x):Az h t x:=H.mono λ_ _=>trivial
theorem rU.u{t:Tr}{x:CV}(H:rU h D t x):CI h t x:=H.Q3.u
theorem df.nil:df h D [] []:=by unfold df;trivial
theorem df.cons{t:Tr}{y:CV}{ts:List Tr}{ys:List CV}(a:gl h D t y)(b:df h D ts ys):df h D (t::ts) (y::ys):=by unfold df;exact⟨a,b⟩
theorem mb{n:Nat}:CI h (num n) (nv n):=Qn.Q3
theorem two{t u:Tr}{x y:CV}(a:gl h D t x)(b:gl h D u y):df h D [t,u] [x,y]:=.cons a (.cons b .nil)
theorem nA{ys:List CV}{K:Nat->ai->Prop}{c:Array Value}(d:c=(ys.flatMap hN).toArray)(hk: ∀b h',b=h.size->(∀D,D b->kX h' D (Sa b 0) ys.length ys.length ys)->Fr No h h'->K b h'):aQ h (.cells c 262) K:=by
 refine cF (hk _ _ rfl (λD H=>⟨rfl,by rw[d];exact jl,λ_ y ⟨a,e,E⟩=>by cases e;rw[<-E];exact H,bk _⟩) (Fr.push _ _))
theorem oG{ts:List Tr}{ys:List CV}{c:Array Value}{l:Nat}(T:Az h ts ys)(e:dk ts<=100000000)(a:c=(ys.flatMap hN).toArray)(d:l=ys.length)(hk: ∀h' z,rU h' (λy=>h.size<=y) (qZ ts) z->Fr No h h'->R z.agg h'):
  aQ h (.cells c 262) λb g=>Cl 247 #[.slice (Sa b 0) l l] g R:=by
 subst d;refine nA a λb f E L f1=>jC (L (λ_=>True) trivial) (T.on f1) e λH z t f2=>hk H z (t.mono λy j=>bY f1.1) (f1.tt f2)
theorem OC{s:ByteArray}(hk: ∀h' (v:BV),v.b=s.data.toList->v.ok h' (λy=>h.size<=y)->Fr No h h'->R (CV.agg ⟨3,0,v,none,0,0⟩) h'):Cl 255 #[.string s] h R:=by
 refine Jy.walk (aa.box λb m k d f1=>kK.Vf λp c g row f f2 n=>⟨_,_,_,rfl,aa.set (f2.get d id) λH d1 d2 d3=>aa.ld d1 ?_⟩);have f3:Fr (λy=>y=b) g H:=Fr.of_eq d2 (λc f=>d3 c f);have z:=f1.1;have Z:=aD d;have e:s.size=s.data.toList.length:=(iW.nz s).symm;have ok:BV.ok H (λy=>h.size<=y) ⟨p,c,s.data.toList⟩:=by
  refine⟨?_,λ_ y j=>bY (n y j),by show s.data.toList.length<=c;omega⟩;by_cases q:s.data.toList= []
  .show Row H p (bc s.data.toList);rw[q];exact Row.nil
  .exact row.frame f3 (λa E l=>bY (n a.block ⟨a,E,rfl⟩))
 have:=hk H ⟨p,c,s.data.toList⟩ rfl ok ((f1.tt f2).fresh f3 (λy e=>ag));unfold CV.agg hN BV.val at this;rw[e];exact this
end Cb
namespace Bn
open Cb
open iW (Ev cV kz)
variable {V : List UInt8 → Bool} {h i h' : ai} {R : Value → ai → Prop} {D : Nat → Prop}
abbrev _root_.Go.Proofs.YtlenamcfacpheaaGreatDoor.iW.Ev.s(x:Ev):ay.S:=⟨x.ky,x.node,x.gk,x.host,x.jB⟩
theorem fin{b:Nat}{y:aa.S}{z:CV}{t:Tr}{K:aa.S->ai->Prop}(a:aa.fi h b y)(T:rU h D t z)(H: ∀y,D y->y≠b)(hk: ∀h',rU h' D t z->Fr (λy=>y=b) h h'->K z.s h'):
  aa.cX h (AA b 0) z.s λg=>aa.cv g (AA b 0) λr=>K r g:=
 aa.gy (x:=z.s) a λg d1 f _=>aa.ff d1 (hk g (T.frame f H) f)
theorem CJ{b:Nat}{y:aa.S}{K:aa.S->ai->Prop}(H:aa.fi h b y)(hk: ∀h',Fr (λy=>y=b) h h'->K .z h'):
  aa.cX h (AA b 0) .z λg=>aa.cv g (AA b 0) λr=>K r g:=
 aa.gy H λg d1 f _=>aa.ff d1 (hk g f)
theorem lR(x:Ev)(H:cV x=true):room (Ar x)<=200:=by
 unfold Ar;split
 .simp[room,dk]
 .rename_i z;split
  .simp[room,dk]
  .rename_i a;unfold cV at H;rw[ae z,ae a]at H;simp only[aT,aV]at H;have:=iW.nz x.host;have:=iW.nz x.jB;simp only[room,dk,D4,aA,bf,bz];omega
abbrev zv:CV:=⟨0,0,⟨none,0, []⟩,none,0,0⟩
theorem vC(x:Ev)(w1:0<=x.gk)(K:cV x=true->∀h' z,rU h' (λy=>h.size<=y) (Ar x) z->Fr No h h'->R (.tuple #[z.agg,.I 0]) h')(s:cV x=false->gL h R (.tuple #[zv.agg,.I 3])):Cl 203 #[kz x] h R:=by
 refine JF.walk (x:=x.s) (ay.cM λb C A l f1=>aa.cM λb1 P B m f2=>ay.ff (f2.get l id) (iW.e8 x λk f3=>⟨_,rfl,?_⟩));have c:=(f2.tt f3).get l id;have o:=f3.get m id;have F:=f1.tt (f2.tt f3);have Z:=f1.1;have X:=aD m;have W:=f3.1;have done: ∀g z,cV x=true->rU g (λy=>k.size<=y) (Ar x) z->Fr No k g->aa.cX g (AA b1 0) z.s λa=>aa.cv a (AA b1 0) λw=>R (.tuple #[w.agg,.I 0]) a:=λg z H T j=>
  fin (j.get o id) T (λy f e=>ag) λa t4 f4=>K H a z (t4.mono λy f=>ag) ((F.tt j).fresh f4 (λy e=>ag))
 cases H:cV x with
 |false=>exact CJ o λa f4=>s H a (F.fresh f4 (λy e=>ag))
 |true=>
  have done:=λg z=>done g z H
  rw[dc];refine ay.ff c ⟨_,iW.xd (y:=.zero) (x:=x) rfl rfl,?_⟩;have E:room (Ar x)<=200:=lR x H;unfold Ar at done E;unfold cV at H;by_cases z:x=.zero
  .rw[af (av z)];simp only[af z]at done;exact fX (n:=1) λS f5=>aa.ex (nv 1).s ⟨rfl,fX (n:=0) λU f6=>aa.ex (nv 0).s ⟨rfl,oG (two mb mb) (by simp[room,dk]) rfl rfl λr y ty f7=>aa.ex y.s ⟨rfl,done r y (ty.mono λy f=>hY f5.1 f6.1) (f5.tt (f6.tt f7))⟩⟩⟩
  rw[ae (cA z)];rw[ae z]at H;simp only[ae z]at done E;refine⟨_,ar c,?_⟩;by_cases d:x.ky=true
  .rw[af d]at H⊢;simp only[af d]at done;have H:=aU H;have n1:x.node=(x.node.toNat:Int):=ag
   have n2:x.gk=(x.gk.toNat:Int):=ag
   refine⟨_,ar c,_,ar c,fX (n:=2) λG f10=>aa.ex (nv 2).s ⟨rfl,f10.kp,?_⟩⟩;dsimp only;rw[n1];refine fX λI f11=>aa.ex (nv x.node.toNat).s ⟨rfl,f11.kp,?_⟩
   rw[n2];refine fX λJ f12=>aa.ex (nv x.gk.toNat).s ⟨rfl,oG (two mb mb) (by simp[room,dk]) rfl rfl λL y ty f14=>aa.ex y.s ⟨rfl,oG (ys:= [nv 2,y]) (two mb ty.u) (by simp[room,dk]) rfl rfl λp u t f16=>aa.ex u.s ⟨rfl,?_⟩⟩⟩
   exact done p u (t.mono λy f=>by have:=f10.1;have:=f11.1;have:=f12.1;have:=f14.1;omega) (f10.tt (f11.tt (f12.tt (f14.tt f16))))
  .rw[ae d]at H⊢;simp only[ae d]at done E;simp only[aT,aV]at H;refine ay.ff c (fX (n:=1) λM f18=>aa.ex (nv 1).s ⟨rfl,f18.kp,iW.OB x ag ag λN f19=>⟨_,rfl,OC λQ v ev O f20=>aa.ex (CV.s ⟨3,0,v,none,0,0⟩) ⟨rfl,?_⟩⟩⟩);have ev:v.b=D4 x:=by rw[ev];unfold str;simp[D4]
   refine oG (ts:= [num 1,.mk 3 0 (D4 x) []]) (ys:= [nv 1,⟨3,0,v,none,0,0⟩]) (two mb (ev▸Br O).u) (by simp only[room,bz]at E⊢;omega) rfl rfl λq u t f22=>aa.ex u.s ⟨rfl,?_⟩
   exact done q u (t.mono λy f=>qW f18.1 f19.1 f20.1) (f18.tt (f19.tt (f20.tt f22)))
end Bn
end
section
namespace Bn
open Cb
open iW (Ev cV kz)
variable {V:cD→Bool} {h d h':ai} {R:fp} {D:Nat→Prop}
variable {b i off:Nat} {x:CV} {c:Array Value} {ts:List Tr} {t:Tr} {ty:TypeId}
theorem Te{l:List (cy)}(f:Fr (λy=>y=b) h h')(a: ∀p∈l,p.map (·.block)≠some b):Kp h h' l:=f.SM λp g x e H=>a p g (by rw[e];exact bU some H)
theorem Gw{y:ay.S}{x:Ev}{K:ay.S->ai->Prop}(H:ay.fi h b y)(hk: ∀h',Fr (λy=>y=b) h h'->K x.s h'):
  ay.cX h (AA b 0) x.s λg=>ay.cv g (AA b 0) λr=>K r g:=
 ay.gy (x:=x.s) H λg d1 f _=>ay.ff d1 (hk g f)
theorem Qt(l:cD):(!((⟨l.toArray⟩:ByteArray).toList==fU.toList))= !l.isEmpty:=by
 rw[toList_data,toList_data];cases l<;>simp
theorem CK{s:ByteArray}(mx:oT.Mx h)(z:s.size<1000000)(hk: gL h R (.tuple #[kz (wP s.data.toList),.bool (tO s.data.toList)])):Cl 286 #[.string s] h R:=by
 refine Ay.walk (ay.cM λb w u m f1=>oT.Jo ⟨_,_,rfl,oT.yK (mx.on f1) ?_ ⟨_,_,_,rfl,ay.ft λb1 a v H f5=>ay.ff H ?_⟩⟩)
 .show(Lib.trimPrefix s.data.toList _).length<_;have:=iW.nz s;unfold Lib.trimPrefix;split
  .rw[bF];omega
  .omega
 have E:(⟨(Lib.trimPrefix s.data.toList (⟨#[47,47]⟩:ByteArray).data.toList).toArray⟩:ByteArray).data.toList=Lib.trimPrefix s.data.toList [47,47]:=bP
 rw[E]at H⊢;rw[show(⟨#[47]⟩:ByteArray).data.toList= [47]from rfl]at H⊢;rw[show(⟨#[47,47]⟩:ByteArray).data.toList= [47,47]from rfl];have ex:(⟨false,0,0,⟨(Lib.cut (Lib.trimPrefix s.data.toList [47,47]) [47]).1.toArray⟩,⟨(Lib.cut (Lib.trimPrefix s.data.toList [47,47]) [47]).2.1.toArray⟩⟩:ay.S)=(wP s.data.toList).s:=rfl;rw[ex]at H⊢;have Z:=f1.1;have n:=f1.tt f5;have A:=aD m;have p:=f5.get m id;have done: ∀g q,Fr No a g->q=tO s.data.toList->ay.cX g (AA b 0) (wP s.data.toList).s λG=>ay.cv G (AA b 0) λr=>R (.tuple #[r.agg,.bool q]) G:=λg q F e=>
  Gw (F.get p id) λG f=>by rw[e];exact hk G ((n.tt F).fresh f (λy e=>ag))
 rw[Qt];cases j:Lib.hasPrefix s.data.toList [47,47]with
 |false=>exact done a _ (Fr.refl _ _) (by unfold tO;rw[j];rfl)
 |true=>
  rw[af rfl];cases k:(Lib.cut (Lib.trimPrefix s.data.toList [47,47]) [47]).2.2 with
  |false=>exact done a _ (Fr.refl _ _) (by unfold tO;rw[j,k];rfl)
  |true=>
   rw[af rfl];cases l:(Lib.cut (Lib.trimPrefix s.data.toList [47,47]) [47]).1.isEmpty with
   |true=>exact done a _ (Fr.refl _ _) (by unfold tO;rw[j,k,l];rfl)
   |false=>
    rw[af (show(!false)=true from rfl)];exact ay.ff H (iW.e8 (wP s.data.toList) λo f6=>⟨_,rfl,f6.kp,done o _ f6 (by unfold tO;rw[j,k,l];rfl)⟩)
theorem t64:oy Tryz.prog 345 27 1 8 (.U 0):=⟨dj,dj,rfl⟩
theorem u64:Tryz.prog.underlying 345=some (.slice 27):=dj
abbrev nc(l:List Tr):List Value:=l.map λt=> .int .u64 (t.n:Int)
theorem elem{D:Nat->Prop}{q:cy}{l c:Nat}{ys:List CV}(L:kX h D q l c ys)(T:df h D ts ys)(g:i<ts.length): ∃(a:Addr)(y:CV),q=some a/\dI (a.add (i*4)) y.s.l 0 h/\gl h D (at_ ts i) y/\ys[i]? =some y:=by
 have j:=T.len;have H:ys[i]? =some (ys[i]' ag):=aj _;obtain⟨t,f,ty⟩:=T.get H;obtain⟨a,rfl⟩:=L.row.some (by intro e;have:=bU List.length e;rw[eU hN 4 gu,bz]at this;omega);refine⟨a,_,rfl,L.row.gJ gu H,?_,H⟩;unfold at_;rw[aY,f];exact ty
theorem ir(H:i<ts.length):room (at_ ts i)<=dk ts:=by
 unfold at_;rw[aY,aj H];exact lQ (dA H)
theorem Es(T:CI h t x)(S:room t<=1000000)(z:t.k=4->t.l.length=2->yM t.l=true->∀h' p c,Row h' p (nc t.l)->Fr No h h'->R (.tuple #[.slice p 2 c,.bool true]) h')(K: ¬(t.k=4/\t.l.length=2/\yM t.l=true)->gL h R (.tuple #[.Z,.bool false])):Cl 287 #[x.agg,.I 2] h R:=by
 have b':=T;cases t with
 |mk k n b l=>
  simp only[room]at S;have z:k=4->l.length=2->yM l=true->∀h' p c,Row h' p (nc l)->Fr No h h'->R (.tuple #[.slice p 2 c,.bool true]) h':=z;have K: ¬(k=4/\l.length=2/\yM l=true)->∀h',Fr No h h'->R (.tuple #[.Z,.bool false]) h':=K;unfold gl at T;obtain⟨⟨rfl,rfl,rfl,a'⟩,ys,L,A⟩:=T;have ln:=A.len;have U:=L.len;refine Er.walk (x:=x.s) (aa.cM λbb j W u f1=>aG.of λJ B=>⟨_,ar u,?_⟩);have no: ¬(x.k=4/\l.length=2)->J true j:=λH=>by
   subst B;exact K (λe=>H ⟨e.1,e.2.1⟩) j f1
  by_cases o:x.k=4
  case neg=>rw[af (cA o)];exact no (λe=>o e.1)
  rw[ae (cA o)];refine⟨_,_,_,ar u,?_⟩;by_cases l2:l.length=2
  case neg=>rw[show((x.ll:Int) !=2)=true by simp only[cU,en];omega];exact no (λe=>l2 e.2)
  rw[show((x.ll:Int) !=2)=false by simp only[fO];omega];subst B;rw[dc];have sl:x.s.oS=2:=by show x.ll=2;omega
  refine⟨_,_,_,ar u,?_⟩;refine⟨λp len c t g=> ∃i:Nat,t=(i:Int)/\i<=2/\i=len/\fJ g p i c 1 (nc (l.take i))/\(∀y,aR p y->j.size<=y)/\Fr No j g/\yM (l.take i)=true,λ_ _ _ t _=>2 - t.toNat,⟨0,rfl,ag,rfl,by rw[dV];exact .nil rfl rfl rfl rfl,(λy ⟨a,e,_⟩=>by cases e),Fr.refl _ _,by rw[dV];rfl⟩,?_⟩;rintro p _ c _ g ⟨i,rfl,hi,rfl,O,N,f,H⟩;by_cases Q:i<2
  .rw[fK];have r:=f1.tt f;obtain⟨a,y,G,P,ty,m⟩:=elem (L.frame r cb) (A.on r) (i:=i) ag;refine⟨⟨ag,by show _<(x.ll:Int);omega⟩,bK.2 ⟨a,G,(aa.ko (x:=y.s) (by rw[aI];exact P) (aa.ft (x:=y.s) λb1 Z X w f5=>aa.ff w ⟨_,ar w,fX λh6 f6=>aa.ex (nv y.n).s ⟨rfl,f6.kp,?_⟩⟩))⟩⟩;have ra:=ir (ts:=l) (i:=i) ag;have eq:l.take (i+1)=l.take i++ [at_ l i]:=by
    rw[bQ];unfold at_;rw[aY,aj ag];rfl
   have Y:y.n=(at_ l i).n:=by
    revert ty;generalize at_ l i=s;intro ty;cases s;unfold gl at ty;exact ty.1.2.1
   refine iX (t:=at_ l i) (s:=num y.n) (x:=y) (y:=nv y.n) (ty.on (f5.tt f6)) mb ag λM f7=>⟨_,rfl,?_⟩
   rw[Y];cases q:mW (at_ l i) (num (at_ l i).n)with
   |false=>
    rw[fK];refine K (λe=> ?_) M (r.tt (f5.tt (f6.tt f7)));have:=List.all_eq_true.1 e.2.2 (at_ l i) (by unfold at_;rw[aY,aj ag];exact dA _);rw[q]at this;cases this
   |true=>
    rw[dc];have F:=f5.tt (f6.tt f7);refine⟨_,ar ((f6.tt f7).get w id),jd t64 u64 (O.frame F cb) rfl (λv C=>by simp at C;rw[C];rfl) ag ag λp2 c2 h9 E f9 I=>⟨_,_,_,rfl,?_⟩⟩;rw[bD (n:=(i:Int)+1) ag ag];refine⟨⟨i+1,ag,ag,ag,?_,λy m=> ?_,(f.tt F).fresh f9 (λy m=>N y m),?_⟩,by show 2 - Int.toNat ((i:Int)+1)<2 - Int.toNat (i:Int);omega⟩
    .rw[eq,nc,aZ];rw[show y.s.f1=((at_ l i).n:Int) by show(y.n:Int)=_;rw[Y]]at E;exact E
    .rcases I y m with a|a
     .exact N y a
     .have:=f.1;have:=F.1;omega
    .rw[eq];unfold yM at H⊢;rw[List.all_append,H];simp[q]
  .rw[ae (λe=>Q (bY (aU e)))];obtain rfl:i=2:=ag
   rw[bJ ag]at H O;exact z o l2 H g p c O.iw (f1.tt f)
theorem gl.kn(H:gl h D t x):x.k=t.k/\x.n=t.n/\x.v.b=t.b/\x.ll=t.l.length/\x.v.ok h D/\∃ys,kX h D x.q x.ll x.cl ys/\df h D t.l ys:=by
 cases t with
 |mk k n b l=>
  unfold gl at H;obtain⟨⟨a1,a2,a3,a4⟩,ys,L,T⟩:=H;exact⟨a1,a2,a3,by rw[L.len,<-T.len];rfl,a4,ys,L,T⟩
theorem jX :dk t.l+t.b.length+9=room t:=by cases t;simp only[room,Tr.l,Tr.b];omega
theorem Ry{p:Addr}{n:Nat}(h:p.block≠b):(some (p.add n)).map Addr.block≠some b:=by
 simp only[cZ,lM];exact λe=>h (aX e)
theorem Me(U:ke V d)(u:Fr No d h)(mx:oT.Mx h)(tx:CI h t x)(hr:room t<=900000)(K: ∀e,nm V t=some e->gL h R (.tuple #[kz e,.I 0]))(k:nm V t=none->gL h R (.tuple #[kz .zero,.I 3])):Cl 245 #[x.agg] h R:=by
 obtain⟨xk,xn,xb,xl,xv,ys,L,TS⟩:=gl.kn tx;have rl:=jX (t:=t);refine L5.walk (x:=x.s) (aa.cM λb h1 eb hb f1=>ay.cM λb1 h2 P' m' f2=>aG.of λs' hJ=>aa.ff (f2.get hb id) (e8 U (u.tt (f1.tt f2)) ((tx.on f1).on f2) ag λE f3=>⟨_,rfl,?_⟩));have o:=f1.tt (f2.tt f3);have I:=(f2.tt f3).get hb id;have n':=f3.get m' id;have zb:=aD hb;have SB:=aD m';have z1:=f1.1;have z2:=f2.1;have z3:=f3.1;have bad:nm V t=none->s' true E:=λhn=>by
  subst hJ;dsimp only;rw[af rfl];exact Gw (x:=.zero) n' λg f=>k hn g (o.fresh f (λy e=>ag))
 cases hR:gO V t with
 |false=>exact bad (by unfold nm;rw[ae (λe=>by rw[hR]at e;cases e.1)])
 |true=>
 rw[ae (show¬(!true)=true by decide)];refine⟨_,ar I,?_⟩;have e4:x.s.f0=t.k:=xk;rw[e4];by_cases M:t.k=4
 case neg=>rw[af (cA M)];exact bad (by unfold nm;rw[ae (λe=>M e.2.1)])
 rw[ae (cA M)];refine⟨_,_,_,ar I,?_⟩;have el:x.s.oS=t.l.length:=xl;rw[el];by_cases l2:t.l.length=2
 case neg=>rw[show((t.l.length:Int) !=2)=true by simp only[cU,en];omega];exact bad (by unfold nm;rw[ae (λe=>l2 e.2.2)])
 rw[show((t.l.length:Int) !=2)=false by simp only[fO];omega];clear bad;subst hJ;dsimp only;rw[ae (show¬false=true by decide)];unfold nm at K k;rw[af ⟨hR,M,l2⟩]at K k;obtain⟨a0,y0,t',o',T,_⟩:=elem (L.frame o cb) (TS.on o) (i:=0) ag;obtain⟨a1,Y,u',p',O,_⟩:=elem (L.frame o cb) (TS.on o) (i:=1) ag;have r0:=ir (ts:=t.l) (i:=0) ag;have r1:=ir (ts:=t.l) (i:=1) ag;generalize at_ t.l 0=t0 at T r0 K k;generalize at_ t.l 1=t1 at O r1 K k;refine aG.of λJ1 B'=>⟨_,_,_,ar I,ag,bK.2 ⟨a0,t',aa.ko (x:=y0.s) o' ⟨_,_,_,ar I,ag,bK.2 ⟨a1,u',aa.ko (x:=Y.s) p' ?_⟩⟩⟩⟩
 have q': ∀g s r,aa.fi g s y0.s->aa.fi g r Y.s->Fr No E g->J1 (Sa s 0) (Sa r 0) g:=by
  intro g s r hs H' F;subst B';have Fg:=o.tt F;have zg:=F.1;refine ay.cM λB l Q' b' f6=>aG.of λJ l'=>aG.of λJ3 C'=> ?_
  have e':=f6.get hs id;have z:=f6.get H' id;have d':=(F.tt f6).get n' id;have Rl:=aD b';have C:=Fg.tt f6;have z6:=f6.1;have Rz: ∀G e,ay.fi G B e.s->Fr (λy=>y=B) l G->(gL h R (.tuple #[kz e,.I 0]))->J true G:=λG e he f hk=>by
   subst l';rw[dc];exact ay.ff he (Gw (f.get d' ag) λj f7=>hk j ((C.fresh f (λy e=>ag)).fresh f7 (λy e=>ag)))
  have N: ∀G,Fr (λy=>y=B) l G->(gL h R (.tuple #[kz .zero,.I 3]))->J false G:=λG f hk=>by
   subst l';rw[fK];exact Gw (x:=.zero) (f.get d' ag) λj f7=>hk j ((C.fresh f (λy e=>ag)).fresh f7 (λy e=>ag))
  have r': ∀{G},Fr No l G->Fr (λy=>y=B) l G:=λf=>f.mono λ_ _=>False.elim
  obtain⟨M',VV,L',VW,N',Vg,L1,O'⟩:=gl.kn O;have Vh:=jX (t:=t1);have j3: ∀q G,Fr No l G->q=decide (mW t0 (num 1)=true/\mW t1 (num 0)=true)->J3 q G:=by
   intro q G f w;subst C';refine aG.of λJ4 D'=> ?_
   cases q with
   |true=>
    rw[af rfl];have c:=aU w.symm;exact Gw (x:=.zero) (f.get d' id) λj f7=>K _ (by rw[af c]) j ((C.tt f).fresh f7 (λy e=>ag))
   |false=>
    rw[dc];have c:=fz w.symm;rw[ae c]at K k;have J':=f.get e' id;have VX:=f.get z id;refine aG.of λJ5 E'=>aw.2 (aa.ff J' (fX (n:=1) λU' f24=>aa.ex (nv 1).s ⟨rfl,f24.kp,iX (x:=y0) (y:=nv 1) (T.on (F.tt (f6.tt (f.tt f24)))) mb ag λV' f25=>⟨_,rfl,?_⟩⟩))
    have j5: ∀q j,Fr No l j->q=decide (mW t0 (num 1)=true/\t1.k=3)->J5 q j:=by
     intro q j f7 w;have K':=f7.get e' id;have I':=f7.get z id;have G7:=F.tt (f6.tt f7);subst E';refine aG.of λJ6 F'=> ?_
     have j6: ∀q g,J q g->J6 q g:=λq g hh=>by subst F';subst D';exact hh
     cases q with
     |true=>
      rw[af rfl];have W:=aU w.symm;rw[af W]at K k;have ev:Y.v.b=t1.b:=L';refine aw.2 ⟨_,_,_,ar I',str t1.b,kK.conv (by rw[<-ev];exact(N'.frame G7 cb).row) (by show Y.v.b.length=_;rw[ev]),CK (mx.on (C.tt f7)) (by rw[iW.qh];omega) λR' f15=> ?_⟩;have ed:(str t1.b).data.toList=t1.b:=by unfold str;simp
      rw[ed];refine ay.ex (wP t1.b).s ⟨_,rfl,ay.gy (x:=(wP t1.b).s) ((f7.tt f15).get b' id) λj' d16 f16 _=>j6 _ _ ?_⟩;have f':=Fr.no (f7.tt f15) f16;cases H:tO t1.b with
      |true=>exact Rz j' _ d16 f' (K _ (by rw[af H]))
      |false=>exact N j' f' (k (by rw[ae (by rw[H];decide)]))
     |false=>
      rw[dc];have W:=fz w.symm;rw[ae W]at K k;refine aw.2 (aa.ff K' (fX (n:=2) λS' f17=>aa.ex (nv 2).s ⟨rfl,f17.kp,iX (x:=y0) (y:=nv 2) (T.on (G7.tt f17)) mb ag λx' f18=>⟨_,rfl,aG.of λJ7 G'=> ?_⟩⟩));have j7: ∀q g,J q g->J7 q g:=λq g hh=>by subst G';exact j6 _ _ hh
      have v:=f7.tt (f17.tt f18);cases e2:mW t0 (num 2)with
      |false=>
       rw[dc];exact j7 _ _ (N x' (r' v) (k (by rw[ae (by rw[e2];decide)])))
      |true=>
       rw[af rfl];rw[af e2]at K k;refine aw.2 (aa.ff (v.get z id) (Es (O.on (F.tt (f6.tt v))) ag (λq4 q2 qn k' p c row f20=>⟨_,_,_,_,rfl,aG.of λJ8 a'=> ?_⟩) (λqn k' f20=>⟨_,_,_,_,rfl,aG.of λJ8 a'=> ?_⟩)))
       .rw[af rfl];have n0:(nc t1.l)[0]? =some (.U ((at_ t1.l 0).n:Int)):=by unfold nc at_;rw[aK,aY,aj ag];rfl
        have n1:(nc t1.l)[1]? =some (.U ((at_ t1.l 1).n:Int)):=by unfold nc at_;rw[aK,aY,aj ag];rfl
        obtain⟨a,rfl⟩:=row.some (by intro e;rw[e]at n0;cases n0);have c0:=row.cell n0;have c1:=row.cell n1;have g':=v.tt f20;refine⟨ag,aw.2 ⟨_,by rw[show Int.toNat 0*1=0 from rfl];exact c0,ag,aw.2 ⟨_,by rw[show Int.toNat 1*1=1 from rfl];exact c1,ay.gy (x:=(LO t1).s) (g'.get b' id) λT' d22 f22 _=>ay.ff d22 (iW.e8 (LO t1) λX f23=>⟨_,rfl,?_⟩)⟩⟩⟩;have i':Fr (λy=>y=B) l X:=(Fr.no g' f22).on f23;subst a';refine j7 _ _ ?_;cases H:cV (LO t1)with
        |true=>exact Rz X _ (f23.get d22 id) i' (K _ (by rw[af ⟨q4,q2,qn,H⟩]))
        |false=>exact N X i' (k (by rw[ae (λe=>by rw[H]at e;cases e.2.2.2)]))
       .rw[dc];subst a';exact j7 _ _ (N k' (r' (v.tt f20)) (k (by rw[ae (λe=>qn ⟨e.1,e.2.1,e.2.2.1⟩)])))
    have P:=f.tt (f24.tt f25);cases e1:mW t0 (num 1)with
    |false=>
     rw[dc];exact j5 _ _ P (by rw[e1];simp)
    |true=>
     rw[af rfl];refine aw.2 ⟨_,ar (P.get z id),j5 _ _ P ?_⟩;rw[show Y.s.f0=t1.k from M',e1];by_cases q:t1.k=3<;>simp[q]
  refine aw.2 (aa.ff e' (fX (n:=1) λW' f26=>aa.ex (nv 1).s ⟨rfl,f26.kp,iX (x:=y0) (y:=nv 1) (T.on (F.tt (f6.tt f26))) mb ag λX' f27=>⟨_,rfl,?_⟩⟩));have A:=f26.tt f27;cases e1:mW t0 (num 1)with
  |false=>
   rw[dc];exact j3 _ _ A (by rw[e1];simp)
  |true=>
   rw[af rfl];refine aw.2 (aa.ff (A.get z id) (fX (n:=0) λY' f28=>aa.ex (nv 0).s ⟨rfl,f28.kp,iX (x:=Y) (y:=nv 0) (O.on (F.tt (f6.tt (A.tt f28)))) mb ag λZ' f29=>⟨_,rfl,?_⟩⟩));exact j3 _ _ (A.tt (f28.tt f29)) (by rw[e1];simp)
 have VY:a0.block<E.size:=by
  have:=o'.1;have:=pE this;rwa[lM,lM]at this
 have VZ:a1.block<E.size:=by
  have:=p'.1;have:=pE this;rwa[lM,lM]at this
 refine⟨aa.cM λQ y' v' m f30=>⟨f30.kp,aa.cM λS z' w' c' f31=>⟨f31.kp,aa.gy (x:=y0.s) (f31.get m id) λA' d32 f32 _=>⟨Te f32 ?_,aa.gy (x:=Y.s) (f32.get c' (bY (aD m))) λZ d33 f33 _=> ?_⟩⟩⟩,
  aa.cM λQ y' v' m f30=>⟨f30.kp,aa.cM λS z' w' c' f31=>⟨f31.kp,aa.gy (x:=y0.s) c' λA' d32 f32 _=>⟨Te f32 ?_,aa.gy (x:=Y.s) (f32.get (f31.get m id) (bY (aD m))) λZ d33 f33 _=> ?_⟩⟩⟩,trivial⟩
 .intro p H;simp only[bH,List.not_mem_nil,or_false]at H;rcases H with rfl|rfl
  .exact Ry ag
  .simp only[cZ];intro e;have:=aX e;omega
 .have:=aD m;have:=f30.1;exact q' Z Q S (f33.get d32 ag) d33 (((f30.tt f31).fresh f32 (λy e=>ag)).fresh f33 (λy e=>ag))
 .intro p H;simp only[bH,List.not_mem_nil,or_false]at H;have:=f30.1;rcases H with rfl|rfl
  .exact Ry ag
  .simp only[cZ];intro e;have:=aX e;omega
 .have:=aD m;have:=f30.1;exact q' Z S Q (f33.get d32 ag) d33 (((f30.tt f31).fresh f32 (λy e=>ag)).fresh f33 (λy e=>ag))
abbrev iA.s(x:iA):ah.S:=⟨x.e.ky,x.e.node,x.e.gk,x.e.host,x.e.jB,x.tm,x.sq⟩
theorem hU(x:Ev){K:ay.S->Prop}(H:h[b]? =some (.cells c ty (0,0)))(d:c[off]? =some (.bool x.ky))(a:c[off+1]? =some (.U x.node))(e:c[off+2]? =some (.U x.gk))(f:c[off+3]? =some (.string x.host))(g:c[off+4]? =some (.string x.jB))(hk:K x.s):ay.cv h (AA b off) K:=
 ⟨_,cH H d,_,cH H a,_,cH H e,_,cH H f,_,cH H g,hk⟩
theorem yY(x:iA){K:ah.S->Prop}(H:h[b]? =some (.cells c ty (0,0)))(d:c[off]? =some (.bool x.e.ky))(a:c[off+1]? =some (.U x.e.node))(e:c[off+2]? =some (.U x.e.gk))(f:c[off+3]? =some (.string x.e.host))(g:c[off+4]? =some (.string x.e.jB))(j:c[off+5]? =some (.U (x.tm:Int)))(k:c[off+6]? =some (.U (x.sq:Int)))(hk:K x.s):ah.cv h (AA b off) K:=
 ⟨_,cH H d,_,cH H a,_,cH H e,_,cH H f,_,cH H g,_,cH H j,_,cH H k,hk⟩
theorem CL{y:ah.S}(x:iA){K:ah.S->ai->Prop}(H:ah.fi h b y)(hk: ∀h',Fr (λy=>y=b) h h'->K x.s h'):
  ah.cX h (AA b 0) x.s λg=>ah.cv g (AA b 0) λr=>K r g:=
 ah.gy (x:=x.s) H λg d1 f _=>ah.ff d1 (hk g f)
theorem jY(n m:Nat):decide ((n:Int)<=(m:Int))=decide (n<=m):=by by_cases e:n<=m<;>simp[e]<;>omega
theorem qQ(x:iA)(hk: gL h R (.bool (gE x))):Cl 237 #[x.s.agg] h R:=by
 refine Em.walk (ah.cM λb j E H f1=>hU x.e H rfl rfl rfl rfl rfl (iW.e8 x.e λg f2=>⟨_,rfl,?_⟩));have a:=f2.get H id;have hk:=hk g (f1.tt f2);unfold gE at hk;cases e:cV x.e with
 |false=>rw[e]at hk;exact hk
 |true=>
  rw[e]at hk;rw[af rfl];refine⟨_,ar a,?_⟩;have e1:decide ((x.s.f5:Int)<=1099511627776)=decide (x.tm<=1099511627776):=jY x.tm 1099511627776;have e2:decide ((x.s.f6:Int)<=1099511627776)=decide (x.sq<=1099511627776):=jY x.sq 1099511627776;rw[e1];cases f:decide (x.tm<=1099511627776)with
  |false=>rw[f]at hk;exact hk
  |true=>
   rw[f]at hk;rw[af rfl];refine⟨_,ar a,?_⟩;rw[e2];exact hk
theorem Bt(x:iA)(w1:0<=x.e.gk)(K:gE x=true->∀h' z,rU h' (λy=>h.size<=y) (LP x) z->Fr No h h'->R (.tuple #[z.agg,.I 0]) h')(q:gE x=false->gL h R (.tuple #[zv.agg,.I 3])):Cl 204 #[x.s.agg] h R:=by
 refine Ep.walk (ah.cM λb G E j f1=>aa.cM λb1 N u k f2=>ah.ff (x:=x.s) (f2.get j id) (qQ x λO f3=>⟨_,rfl,?_⟩));have a:=(f2.tt f3).get j id;have l:=f3.get k id;have f:=f1.tt (f2.tt f3);have Z:=f1.1;have a':=aD k;have X:=f3.1;cases H:gE x with
 |false=>exact CJ l λn f4=>q H n (f.fresh f4 (λy e=>ag))
 |true=>
  have g:cV x.e=true:=by unfold gE at H;simp only[aT]at H;exact H.1.1
  rw[dc];refine hU x.e a rfl rfl rfl rfl rfl (vC x.e w1 (λ_ P z r f5=>aa.ex z.s ⟨_,rfl,aa.ft (x:=z.s) λB Q v o f7=>aa.ff o ⟨_,ar ((f5.tt f7).get a id),_,ar ((f5.tt f7).get a id),?_⟩⟩) (λe=>by rw[g]at e;cases e));refine fX λS f8=>aa.ex (nv x.tm).s ⟨rfl,f8.kp,fX λU f9=>aa.ex (nv x.sq).s ⟨rfl,f9.kp,nA (ys:= [nv x.tm,nv x.sq]) rfl λs I A L f10=>⟨f10.kp,jC (L (λ_=>True) trivial) (two mb mb) (by simp[room,dk]) λJ y ty f11=>aa.ex y.s ⟨rfl,f11.kp,?_⟩⟩⟩⟩
  have F:=f7.tt (f8.tt (f9.tt (f10.tt f11)));have C:=lR x.e g;refine oG (ys:= [z,y]) (two (r.u.on F) ty.u) (by simp only[room,dk,bz];omega) rfl rfl λM w T f13=>aa.ex w.s ⟨rfl,?_⟩
  have Y:=f5.1;have W:=F.1;exact fin ((f5.tt (F.tt f13)).get l id) T (λy p e=>ag) λm t14 f14=>K H m w (t14.mono λy p=>ag) ((f.tt (f5.tt (F.tt f13))).fresh f14 (λy e=>ag))
theorem yZ{x:iA}(h:gE x=true):cV x.e=true/\x.tm<=1099511627776/\x.sq<=1099511627776:=by
 unfold gE at h;simp only[aT,aV]at h;exact⟨h.1.1,h.1.2,h.2⟩
theorem uc{e:Ev}(h:nm V t=some e):0<=e.gk/\cV e=true:=by
 unfold nm at h;split at h
 .split at h
  .cases h;decide
  .split at h
   .split at h
    .rename_i H;cases h;unfold tO at H;simp only[aT]at H;exact⟨by show(0:Int)<=0;omega,H.2⟩
    .cases h
   .split at h
    .split at h
     .rename_i H;cases h;exact⟨by show(0:Int)<=((_:Nat):Int);omega,H.2.2.2⟩
     .cases h
    .cases h
 .cases h
theorem Et(x:iA)(h:gE x=true):room (LP x)<=300:=by
 have:=lR x.e (yZ h).1;simp only[LP,room,dk,bz];omega
def EQ(V:cD->Bool)(t:Tr)(e:Ev)(q:Int):Prop:=(q=0->nm V t=some e)/\(q≠0->nm V t=none)/\0<=e.gk
theorem CM(U:ke V d)(u:Fr No d h)(mx:oT.Mx h)(T:CI h t x)(a:room t<=900000)(hk: ∀e q,EQ V t e q->gL h R (.tuple #[e.s.agg,.I q])):Cl 245 #[x.agg] h R:=
 Me U u mx T a (λe H h' f=>hk e 0 ⟨λ_=>H,λq=>absurd rfl q,(uc H).1⟩ h' f) (λH h' f=>hk .zero 3 ⟨λq=>absurd q di,λ_=>H,di⟩ h' f)
theorem HX(x:iA)(w1:0<=x.e.gk)(hk: ∀h' z q,(q=0->CI h' (LP x) z)->(q=0↔gE x=true)->Fr No h h'->R (.tuple #[z.s.agg,.I q]) h'):Cl 204 #[x.s.agg] h R:=
 Bt x w1 (λH h' z T f=>hk h' z 0 (λ_=>T.u) ⟨λ_=>H,λ_=>rfl⟩ f) (λH h' f=>hk h' zv 3 (λe=>absurd e di) ⟨λe=>absurd e di,λe=>by rw[H]at e;cases e⟩ f)
theorem Eu(U:ke V d)(u:Fr No d h)(mx:oT.Mx h)(tx:CI h t x)(hr:room t<=900000)(K: ∀e,jv V t=some e->gL h R (.tuple #[e.s.agg,.I 0]))(k:jv V t=none->gL h R (.tuple #[iA.zero.s.agg,.I 3])):Cl 246 #[x.agg] h R:=by
 obtain⟨xk,xn,xb,xl,xv,ys,L,M⟩:=gl.kn tx;have rl:=jX (t:=t);refine Gv.walk (x:=x.s) (aa.cM λb h1 eb W f1=>ah.cM λb1 l y' A f2=>aG.of λJ o=> ?_);have F:=f1.tt f2;have H:=f2.get W id;have zb:=aD W;have G':=aD A;have z1:=f1.1;have z2:=f2.1;have bad:jv V t=none->J true l:=λhn=>by
  subst o;dsimp only;rw[af rfl];exact CL .zero A λg f=>k hn g (F.fresh f (λy e=>ag))
 have e4:x.s.f0=t.k:=xk;have el:x.s.oS=t.l.length:=xl;refine⟨_,ar H,?_⟩;rw[e4];by_cases v:t.k=4
 case neg=>rw[af (cA v)];exact bad (by unfold jv;rw[ae (λe=>v e.1)])
 rw[ae (cA v)];refine⟨_,_,_,ar H,?_⟩;rw[el];by_cases l2:t.l.length=2
 case neg=>rw[af (by simp only[cU,en];omega)];exact bad (by unfold jv;rw[ae (λe=>l2 e.2.1)])
 rw[ae (by simp only[cU,en];omega)];obtain⟨a0,y0,f',m',b',_⟩:=elem (L.frame F cb) (M.on F) (i:=0) ag;obtain⟨a1,Y,E,a',c',_⟩:=elem (L.frame F cb) (M.on F) (i:=1) ag;obtain⟨d',w',v',e',E',F',I,T⟩:=gl.kn c';have c0:bg l (a1.add (Int.toNat 1*4))=some (.I Y.k):=by have:=a'.1;rwa[fP]at this
 have C:bg l ((a1.add (Int.toNat 1*4)).add 3)=some (.slice Y.q Y.ll Y.cl):=a'.2.2.2.1;have r0:=ir (ts:=t.l) (i:=0) ag;have r1:=ir (ts:=t.l) (i:=1) ag;refine⟨_,_,_,ar H,ag,bK.2 ⟨a1,E,_,c0,?_⟩⟩;rw[d'];by_cases s:(at_ t.l 1).k=4
 case neg=>rw[af (cA s)];exact bad (by unfold jv;rw[ae (λe=>s e.2.2.1)])
 rw[ae (cA s)];refine⟨_,_,_,ar H,ag,bK.2 ⟨a1,E,_,_,_,C,?_⟩⟩;rw[e'];by_cases l3:(at_ t.l 1).l.length=2
 case neg=>rw[show(((((at_ t.l 1).l.length:Nat):Int)) !=2)=true by simp only[cU,en];omega];exact bad (by unfold jv;rw[ae (λe=>l3 e.2.2.2)])
 rw[show(((((at_ t.l 1).l.length:Nat):Int)) !=2)=false by simp only[fO];omega];clear bad;subst o;dsimp only;rw[ae (show¬false=true by decide)];unfold jv at K k;rw[af ⟨v,l2,s,l3⟩]at K k;generalize C':at_ t.l 0=t0 at b' r0 K k;generalize D':at_ t.l 1=t1 at c' r1 K k d' w' v' e' T s l3;refine⟨_,_,_,ar H,ag,bK.2 ⟨a0,f',aa.ko (x:=y0.s) m' (CM U (u.tt F) (mx.on F) b' ag λe q ⟨p',q',we⟩ g N=>ay.ex e.s ⟨_,rfl,?_⟩)⟩⟩;obtain⟨p0,w0,g',p,r',_⟩:=elem I T (i:=0) ag;obtain⟨p1,w1,i',r,s',_⟩:=elem I T (i:=1) ag;obtain⟨_,t',_⟩:=gl.kn r';obtain⟨_,u',_⟩:=gl.kn s';have p:bg l ((p0.add (Int.toNat 0*4)).add 1)=some (.U (w0.n:Int)):=p.2.1;have r:bg l ((p1.add (Int.toNat 1*4)).add 1)=some (.U (w1.n:Int)):=r.2.1;rw[t']at p;rw[u']at r;obtain⟨n,n'⟩: ∃n,(at_ t1.l 0).n=n:=⟨_,rfl⟩;obtain⟨n1,o'⟩: ∃n1,(at_ t1.l 1).n=n1:=⟨_,rfl⟩;rw[n']at p K k;rw[o']at r K k;refine ay.ft (x:=e.s) λb2 h7 z' k' f7=>ay.ff k' ?_
 have G:=N.tt f7;refine⟨_,_,_,ar (G.get H id),ag,bK.2 ⟨a1,E,_,_,_,G.cell C id,ag,bK.2 ⟨p0,g',_,G.cell p id,_,_,_,ar (G.get H id),ag,bK.2 ⟨a1,E,_,_,_,G.cell C id,ag,bK.2 ⟨p1,i',_,G.cell r id,?_⟩⟩⟩⟩⟩;refine ah.cM λb3 h8 A' Z f8=>⟨f8.kp,ah.gy (x:=(⟨e,n,n1⟩:iA).s) Z λP d9 f9 _=>ah.ff d9 ?_⟩
 have z7:=f7.1;have z8:=f8.1;have zg:=N.1;have H':=aD Z;have z9:=f9.1;have B:Fr (λy=>y=b3) l P:=Fr.no (G.tt f8) f9;have z:Fr No h P:=(F.tt (G.tt f8)).fresh f9 (λy e=>ag);refine HX ⟨e,n,n1⟩ we λg2 w q2 hw hq j'=>aa.ex w.s ⟨_,rfl,?_⟩
 refine aa.ft (x:=w.s) λb4 m B' l' f12=>aG.of λJ o=> ?_
 have j:=j'.tt f12;have X: ∀{g},Fr No m g->ah.fi g b1 .z:=λfq=>fq.get (j.get (B.get A ag) id) id
 have no: ∀a,Fr No m a->(gL h R (.tuple #[iA.zero.s.agg,.I 3]))->J true a:=λa f3 hk=>by
  subst o;try dsimp only
  rw[af rfl];exact CL .zero (X f3) λg f=>hk g ((z.tt (j.tt f3)).fresh f (λy e=>ag))
 have x': ∀a,Fr No m a->(gL h R (.tuple #[(⟨e,n,n1⟩:iA).s.agg,.I 0]))->J false a:=λa f3 hk=>by
  subst o;try dsimp only
  rw[dc];exact ah.ff ((j.tt f3).get d9 id) (CL ⟨e,n,n1⟩ (X f3) λg f=>hk g ((z.tt (j.tt f3)).fresh f (λy e=>ag)))
 by_cases Q:q=0
 case neg=>rw[af (cA Q)];exact no m (Fr.refl _ _) (k (by rw[q' Q]))
 rw[ae (cA Q)];rw[p' Q]at K k;dsimp only at K k;by_cases q1:q2=0
 case neg=>rw[af (cA q1)];exact no m (Fr.refl _ _) (k (by rw[ae (λe=>q1 (hq.2 e.1))]))
 rw[ae (cA q1)];have S:=hq.1 q1;have rI:=Et _ S;refine aa.ff l' (aa.ff (x:=x.s) (j.get (B.get H ag) id) (iX (x:=w) (y:=x) ((hw q1).on f12) (tx.on (z.tt j)) ag λO f16=>⟨_,rfl,?_⟩));cases hs:mW (LP ⟨e,n,n1⟩) t with
 |true=>exact x' O f16 (K _ (by rw[af ⟨S,hs⟩]))
 |false=>exact no O f16 (k (by rw[ae (λe=>by rw[hs]at e;cases e.2)]))
theorem sB{x:iA}(h:jv V t=some x):0<=x.e.gk:=by
 unfold jv at h;split at h
 .split at h
  .cases h
  .rename_i e H;split at h
   .cases h;exact(uc H).1
   .cases h
 .cases h
def IQ(V:cD->Bool)(t:Tr)(x:iA)(q:Int):Prop:=(q=0->jv V t=some x)/\(q≠0->jv V t=none)/\0<=x.e.gk
theorem CN(U:ke V d)(u:Fr No d h)(mx:oT.Mx h)(T:CI h t x)(a:room t<=900000)(hk: ∀e q,IQ V t e q->gL h R (.tuple #[e.s.agg,.I q])):Cl 246 #[x.agg] h R:=
 Eu U u mx T a (λe H h' f=>hk e 0 ⟨λ_=>H,λq=>absurd rfl q,sB H⟩ h' f) (λH h' f=>hk .zero 3 ⟨λq=>absurd q di,λ_=>H,di⟩ h' f)

end Bn
end
section
variable {h:ai} {R:fp}
variable {x:aE.S}
theorem CO.walk{a:aE.S}{b:aE.S}(f:aQ h (.cells a.arr 47) λB e=>aQ e (.cells b.arr 47) λc H=>Hu H B 0 λt6=> ∃t8,Cc H c 0 (.U t8)/\if(t6==t8)then Hi H B 1 λt12=> ∃t14,Cc H c 1 (.I t14)/\if(t12==t14)then ay.cv H (AA B 2) λt19=>ay.cv H (AA c 2) λt21=> ∃(eq:Bool),Aj Tryz.prog 29 (t19.agg) (t21.agg) eq/\if eq then ay.cv H (AA B 7) λt26=>ay.cv H (AA c 7) λt28=> ∃(eq_1:Bool),Aj Tryz.prog 29 (t26.agg) (t28.agg) eq_1/\if eq_1 then Hi H B 12 λt33=> ∃t35,Cc H c 12 (.I t35)/\if(t33==t35)then Hi H B 13 λt40=> ∃t42,Cc H c 13 (.I t42)/\if(t40==t42)then Hi H B 14 λt47=> ∃t49,Cc H c 14 (.I t49)/\if(t47==t49)then Hl H B 15 λg T t=>Hl H c 15 λk j i=>Cl 82 #[.slice g T t,.slice k j i] H λv d=> ∃t57,v=.bool t57/\if t57 then Hu d B 16 λt61=> ∃t63,Cc d c 16 (.U t63)/\if(t61==t63)then Hu d B 17 λt68=> ∃t70,Cc d c 17 (.U t70)/\if(t68==t70)then Hb d B 18 λt75=> ∃t77,Cc d c 18 (.bool t77)/\R (.bool (t75==t77)) d else R (.bool false) d else R (.bool false) d else R (.bool false) d else R (.bool false) H else R (.bool false) H else R (.bool false) H else R (.bool false) H else R (.bool false) H else R (.bool false) H else R (.bool false) H):Cl 80 #[a.agg,b.agg] h R:=aO (lq ll) Tryz.func80 f
theorem Ew.walk (W:aQ h (.cells x.arr 47) λb C=>aQ C (.cells aE.S.z.arr 47) λu g=>Hu g b 0 λt5=>Hi g b 1 λt7=>aQ g (.cells aE.S.z.arr 47) λB T=>aE.cX T (AA B 0) ⟨t5,t7,false,0,0,fU,fU,false,0,0,fU,fU,0,0,0,none,0,0,0,0,false⟩ λi=>Hi i b 1 λt10=>aG (λ(y:ai)=>aE.cv y (AA B 0) λt68=>aE.cX y (AA u 0) t68 λz=>aE.cv z (AA u 0) λX=>R (X.agg) z) (λJ=>aG (λ(t11:Bool) (c:ai)=>aG (λ(V:ai)=>J V) (λm=>if t11 then ay.cv c (AA b 2) λt15=>Hi c b 12 λt17=>ay.cX c (AA B 2) t15 λA=>Kp c A [(Sa b 12)]/\aS A (AA B 12) (.I t17) λD=>m D else aG (λ(t20:Bool) (H:ai)=>aG (λ(E:ai)=>m E) (λo=>if t20 then ay.cv H (AA b 2) λt24=>ay.cX H (AA B 2) t24 λF=>o F else aG (λ(G:ai)=>o G) (λp=>if(t10==4)then ay.cv H (AA b 2) λt29=>ay.cv H (AA b 7) λt31=>Hl H b 15 λa' Z Y=>Hu H b 16 λt35=>Hb H b 18 λt37=>ay.cX H (AA B 2) t29 λd=>Kp H d [(Sa b 18),(Sa b 16),(Sa b 15),(Sa b 7)]/\ay.cX d (AA B 7) t31 λe=>Kp d e [(Sa b 18),(Sa b 16),(Sa b 15)]/\aS e (AA B 15) (.slice a' Z Y) λf=>Kp e f [(Sa b 18),(Sa b 16)]/\aS f (AA B 16) (.U t35) λv=>Kp f v [(Sa b 18)]/\aS v (AA B 18) (.bool t37) λI=>p I else aG (λ(t43:Bool) (a:ai)=>aG (λ(K:ai)=>p K) (λr=>if t43 then∃t48,Cc a b 13 (.I t48)/\aS a (AA B 13) (.I t48) λL=>r L else aG (λ(M:ai)=>r M) (λs=>if(t10==7)then ay.cv a (AA b 2) λt53=>Hi a b 14 λt55=>ay.cX a (AA B 2) t53 λw=>Kp a w [(Sa b 14)]/\aS w (AA B 14) (.I t55) λN=>s N else aG (λ(O:ai)=>s O) (λt=>if(t10==10)then∃t61,Cc a b 18 (.bool t61)/\aS a (AA B 18) (.bool t61) λP=>t P else aG (λ(Q:ai)=>t Q) (λk=>if(t10==12)then∃t66,Cc a b 17 (.U t66)/\aS a (AA B 17) (.U t66) λS=>k S else k a))))) (λq=>if(t10==5)then q (t10==5) H else aG (λ(b':Bool) (U:ai)=>q b' U) (λl=>if(t10==8)then l (t10==8) H else l (t10==9) H))))) (λn=>if(t10==2)then n (t10==2) c else n (t10==6) c))) (λj=>if(t10==1)then j (t10==1) i else j (t10==3) i))):Cl 81 #[x.agg] h R:=aO (lq (lq (sq (lq (.join [] (bq (sq (lq (.join [(11,.one (.bool))] (cq lf lf))) (.join [] (cq (pK 8) (sq (lq (.join [(20,.one (.bool))] (cq lf lf))) (.join [] (cq lf (lq (.join [] (cq (pK 20) (sq (lq (.join [(43,.one (.bool))] (cq lf (lq (.join [(43,.one (.bool))] (cq lf lf)))))) (.join [] (cq lf (lq (.join [] (cq (pK 8) (lq (.join [] (cq lf (lq (.join [] (cq lf lf)))))))))))))))))))))))) ll))) Tryz.func81 W
theorem y7.walk{x:ay.S}(c:aQ h (.cells x.arr 29) λb a=>ay.cv a (AA b 0) λt3=>Cl 86 #[t3.agg] a λv H=> ∃t4,v=.bool t4/\if t4 then ay.cv H (AA b 0) λt6=> ∃(eq:Bool),Aj Tryz.prog 29 (t6.agg) (ay.S.z.agg) eq/\R (.bool (!eq)) H else R (.bool false) H):Cl 139 #[x.agg] h R:=aO (lq ll) Tryz.func139 c
theorem AB.walk (o:aQ h (.cells x.arr 47) λb g=>Hi g b 1 λt4=>aG (λ(t5:Bool) (f:ai)=>if t5 then ay.cv f (AA b 2) λt9=>Cl 139 #[t9.agg] f λv d=> ∃t10,v=.bool t10/\if t10 then∃t13,Cc d b 12 (.I t13)/\if(decide (t13≥0))then∃t18,Cc d b 12 (.I t18)/\R (.bool (decide (t18<=2))) d else R (.bool false) d else R (.bool false) d else aG (λ(t21:Bool) (a:ai)=>if t21 then ay.cv a (AA b 2) λt25=>Cl 139 #[t25.agg] a λV n=> ∃t26,V=.bool t26/\R (.bool t26) n else if(t4==4)then ay.cv a (AA b 2) λt30=>Cl 139 #[t30.agg] a λr i=> ∃t31,r=.bool t31/\if t31 then ay.cv i (AA b 7) λt34=>Cl 139 #[t34.agg] i λs c=> ∃t35,s=.bool t35/\if t35 then∃p t T,Cc c b 15 (.slice p t T)/\if(decide (((t:Nat):Int)<=200))then∃t45,Cc c b 16 (.U t45)/\if(decide (t45≥1))then∃t50,Cc c b 16 (.U t50)/\R (.bool (decide (t50<=1099511627776))) c else R (.bool false) c else R (.bool false) c else R (.bool false) c else R (.bool false) i else aG (λ(t53:Bool) (H:ai)=>if t53 then∃t58,Cc H b 13 (.I t58)/\if(decide (t58≥1))then∃t62,Cc H b 13 (.I t62)/\R (.bool (decide (t62<=1099511627776))) H else R (.bool false) H else if(t4==7)then ay.cv H (AA b 2) λt68=>Cl 139 #[t68.agg] H λu e=> ∃t69,u=.bool t69/\if t69 then∃t72,Cc e b 14 (.I t72)/\if(decide (t72≥1))then∃t77,Cc e b 14 (.I t77)/\R (.bool (decide (t77<=1000))) e else R (.bool false) e else R (.bool false) e else if(t4==12)then∃t83,Cc H b 17 (.U t83)/\if(decide (t83≥1))then∃t87,Cc H b 17 (.U t87)/\R (.bool (decide (t87<=2147483648))) H else R (.bool false) H else∃t91,Cc H b 1 (.I t91)/\if(t91==10)then R (.bool true) H else∃t95,Cc H b 1 (.I t95)/\R (.bool (t95==11)) H) (λk=>if(t4==5)then k (t4==5) a else aG (λ(q:Bool) (m:ai)=>k q m) (λl=>if(t4==8)then l (t4==8) a else l (t4==9) a))) (λj=>if(t4==2)then j (t4==2) f else j (t4==6) f)) (λJ=>if(t4==1)then J (t4==1) g else J (t4==3) g)):Cl 79 #[x.agg] h R:=aO (lq (sq (lq (bq (sq (lq (.join [(5,.one (.bool))] (cq lf lf))) (cq ll (sq (lq (.join [(21,.one (.bool))] (cq lf lf))) (cq ll (lq (cq ll (sq (lq (.join [(53,.one (.bool))] (cq lf (lq (.join [(53,.one (.bool))] (cq lf lf)))))) (cq ll (lq (cq ll (lq (cq ll lf)))))))))))))) ll)) Tryz.func79 o
theorem AD.walk(e:aQ h (.cells x.arr 47) λb H=> ∃t4,Cc H b 0 (.U t4)/\if(decide (t4≥1))then∃t8,Cc H b 0 (.U t8)/\if(decide (t8<=1099511627776))then aE.cv H (AA b 0) λt12=>Cl 79 #[t12.agg] H λv a=> ∃t13,v=.bool t13/\Kp H a [(Sa b 0),(Sa b 0)]/\if t13 then aE.cv a (AA b 0) λt16=>aE.cv a (AA b 0) λt17=>Cl 81 #[t17.agg] a λV c=>aE.EX λt18=>V=t18.agg/\Kp a c [(Sa b 0),(Sa b 0),(Sa b 0)]/\Cl 80 #[t16.agg,t18.agg] c λf d=> ∃t19,f=.bool t19/\Kp c d [(Sa b 0),(Sa b 0)]/\R (.bool t19) d else R (.bool false) a else R (.bool false) H else R (.bool false) H):Cl 29 #[x.agg] h R:=aO (lq (sq (pK 19) lf)) Tryz.func29 e

end
section
namespace Ask
open iW (Ev cV kz)
open Bn (hU)
variable {h h' g:ai} {R:fp} {p q:cy} {c d:Nat}
variable {b:Nat} {y:aE.S} {x:ay.S} {K:ai->Prop}
abbrev Rq.s(x:Rq)(p:cy)(c:Nat):aE.S:=⟨x.id,x.kind,x.ep.ky,x.ep.node,x.ep.gk,x.ep.host,x.ep.jB,x.dest.ky,x.dest.node,x.dest.gk,x.dest.host,x.dest.jB,x.j9,x.num,x.iz,p,x.kO.length,c,x.dN,x.token,x.on⟩
theorem nB{P:Prop}{b:Bool}(H:b=true->P)(a:b=false->P):P:=by cases b;exact a rfl;exact H rfl
theorem Ex(x y:Rq)(z:Row h p (bc x.kO))(A:Row h q (bc y.kO))(hk: gL h R (.bool (decide (x=y)))):Cl 80 #[(x.s p c).agg,(y.s q d).agg] h R:=by
 refine CO.walk (aE.cM λb D E w f1=>aE.cM λb1 H B f f2=> ?_);have i:=f2.get w id;have F:=f1.tt f2;have no: ∀g,Fr No h g->x≠y->R (.bool false) g:=λg v e=>by have:=hk g v;rw[az e]at this;exact this
 have I: ∀(a b:Int)(m n:Nat),a=m->b=n->m≠n->¬(a==b)=true:=λa b m n e1 e2 e=>by rw[e1,e2];simp only[cR];omega
 refine⟨_,ar i,_,ar f,?_⟩;by_cases c1:x.id=y.id
 case neg=>rw[ae (I _ _ _ _ rfl rfl c1)];exact no H F (λe=>c1 (by rw[e]))
 rw[af (by show((x.id:Int)==(y.id:Int))=true;rw[c1];simp)];refine⟨_,ar i,_,ar f,?_⟩;by_cases c2:x.kind=y.kind
 case neg=>rw[ae (by show¬(x.kind==y.kind)=true;simpa using c2)];exact no H F (λe=>c2 (by rw[e]))
 rw[af (by show(x.kind==y.kind)=true;simpa using c2)];refine hU x.ep i rfl rfl rfl rfl rfl (hU y.ep f rfl rfl rfl rfl rfl ⟨_,iW.xd (x:=x.ep) (y:=y.ep) rfl rfl,?_⟩);by_cases k:x.ep=y.ep
 case neg=>rw[ae (cA k)];exact no H F (λe=>k (by rw[e]))
 rw[af (cA k)];refine hU x.dest i rfl rfl rfl rfl rfl (hU y.dest f rfl rfl rfl rfl rfl ⟨_,iW.xd (x:=x.dest) (y:=y.dest) rfl rfl,?_⟩);by_cases l:x.dest=y.dest
 case neg=>rw[ae (cA l)];exact no H F (λe=>l (by rw[e]))
 rw[af (cA l)];refine⟨_,ar i,_,ar f,?_⟩;by_cases o:x.j9=y.j9
 case neg=>rw[ae (by show¬(x.j9==y.j9)=true;simpa using o)];exact no H F (λe=>o (by rw[e]))
 rw[af (by show(x.j9==y.j9)=true;simpa using o)];refine⟨_,ar i,_,ar f,?_⟩;by_cases r:x.num=y.num
 case neg=>rw[ae (by show¬(x.num==y.num)=true;simpa using r)];exact no H F (λe=>r (by rw[e]))
 rw[af (by show(x.num==y.num)=true;simpa using r)];refine⟨_,ar i,_,ar f,?_⟩;by_cases s:x.iz=y.iz
 case neg=>rw[ae (by show¬(x.iz==y.iz)=true;simpa using s)];exact no H F (λe=>s (by rw[e]))
 rw[af (by show(x.iz==y.iz)=true;simpa using s)];refine⟨_,_,_,ar i,_,_,_,ar f,Cb.jH (z.frame F cb) (A.frame F cb) rfl rfl ⟨_,rfl,?_⟩⟩;by_cases t:x.kO=y.kO
 case neg=>rw[ae (cA t)];exact no H F (λe=>t (by rw[e]))
 rw[af (cA t)];refine⟨_,ar i,_,ar f,?_⟩;by_cases u:x.dN=y.dN
 case neg=>rw[ae (I _ _ _ _ rfl rfl u)];exact no H F (λe=>u (by rw[e]))
 rw[af (by show((x.dN:Int)==(y.dN:Int))=true;rw[u];simp)];refine⟨_,ar i,_,ar f,?_⟩;by_cases C:x.token=y.token
 case neg=>rw[ae (I _ _ _ _ rfl rfl C)];exact no H F (λe=>C (by rw[e]))
 rw[af (by show((x.token:Int)==(y.token:Int))=true;rw[C];simp)];refine⟨_,ar i,_,ar f,?_⟩;have:=hk H F;have e:decide (x=y)=(x.on==y.on):=by
  by_cases j:x.on=y.on
  .have:x=y:=by cases x;cases y;simp only at c1 c2 k l o r s t u C j;simp[c1,c2,k,l,o,r,s,t,u,C,j]
   rw[av this,j];simp
  .rw[az (λe=>j (by rw[e]))];simpa using j
 rw[e]at this;exact this
theorem nC(e:Ev)(hk: gL h R (.bool (lu e))):Cl 139 #[e.s.agg] h R:=by
 refine y7.walk (ay.cM λb f E a f1=>ay.ff (x:=e.s) a (iW.e8 e λH f2=>⟨_,rfl,?_⟩));unfold lu at hk;cases c1:cV e with
 |false=>rw[c1]at hk;rw[dc];exact hk H (f1.tt f2)
 |true=>rw[c1]at hk;rw[af rfl];exact ay.ff (x:=e.s) (f2.get a id) ⟨_,iW.xd (x:=e) (y:=.zero) rfl rfl,hk H (f1.tt f2)⟩
theorem OD(a:aE.fi h b y)(hk: ∀h',aE.fi h' b { y with f2:=x.f0,f3:=x.f1,f4:=x.f2,f5:=x.f3,f6:=x.f4 } ->Fr (λy=>y=b) h h'->K h'):ay.cX h (AA b 2) x K:=
 (show dD (AA b 2) x.l 0 h K from kk (off:=2) (ws:=aE.S.l { y with f2:=x.f0,f3:=x.f1,f4:=x.f2,f5:=x.f3,f6:=x.f4 }) a (by show 2+5<=19;omega) rfl rfl λH d1 d2 d3=>hk H d1 (Fr.of_eq d2 λc e=>d3 c e))
theorem Qu(a:aE.fi h b y)(hk: ∀h',aE.fi h' b { y with f7:=x.f0,f8:=x.f1,f9:=x.f2,f10:=x.f3,f11:=x.f4 } ->Fr (λy=>y=b) h h'->K h'):ay.cX h (AA b 7) x K:=
 (show dD (AA b 7) x.l 0 h K from kk (off:=7) (ws:=aE.S.l { y with f7:=x.f0,f8:=x.f1,f9:=x.f2,f10:=x.f3,f11:=x.f4 }) a (by show 7+5<=19;omega) rfl rfl λH d1 d2 d3=>hk H d1 (Fr.of_eq d2 λc e=>d3 c e))
theorem qi{i:Nat}{z:aE.S}{v:Value}(a:aE.fi h b y)(f:i<19)(j:y.arr.setIfInBounds i v=z.arr)(hk: ∀h',aE.fi h' b z->Fr (λy=>y=b) h h'->K h'):aS h (AA b i) v K:=
 bw a f λH d1 d2 d3=>hk H (by unfold aE.fi;rw[<-j];exact d1) (Fr.of_eq d2 λc e=>d3 c e)
theorem Mf{B:Nat}{l:List (cy)}(f:Fr (λy=>y=B) h h')(ne:b≠B)(a: ∀p∈l,p.map (·.block)=some b):Kp h h' l:=f.SM λp i x e H=>ne (by have:=a p i;rw[e]at this;exact(aX this).symm.trans H)
theorem bq{n k:Int}:((n==k)=true↔n=k):=cR
theorem Gq(x:Rq)(rx:Row h p (bc x.kO))(hk: ∀h' P c',Row h' P (bc (qc x).kO)->Fr No h h'->R ((qc x).s P c').agg h'):Cl 81 #[(x.s p c).agg] h R:=by
 refine Ew.walk (aE.cM λb h1 eb F f1=>aE.cM λb1 h2 i' T f2=>⟨_,ar (f2.get F id),_,ar (f2.get F id),aE.ft (x:=(iK x).s none 0) λB t j' l f4=> ?_⟩);have H:=(f2.tt f4).get F id;have F4:=f1.tt (f2.tt f4);have zb:=aD F;have l':=aD T;have z1:=f1.1;have z2:=f2.1;have ne:b≠B:=ag
 have k':b1≠B:=ag
 refine⟨_,ar H,aG.of λJ hJ=>aG.of λV a'=> ?_⟩;have fin: ∀g P c',aE.fi g B ((qc x).s P c')->Row h P (bc (qc x).kO)->Fr (λy=>y=B) t g->J g:=by
  intro g P c' hg hr fg;have O:Fr No h2 g:=f4.fresh fg (λy e=>ag);have G:=(f1.tt f2).tt O;subst hJ;refine aE.ff hg (aE.gy (x:=(qc x).s P c') (O.get T id) λh6 d6 f6 _=>aE.ff d6 ?_);have Q:=G.fresh f6 (λy e=>ag);exact hk h6 P c' (hr.frame Q cb) Q
 have N:Row h none (bc []):=Row.nil;have key: ∀v,(v=true↔x.kind=1\/x.kind=3)->V v t:=by
  intro v m;subst a';dsimp only;refine aG.of λJ2 j=> ?_
  by_cases k:x.kind=1\/x.kind=3
  .have E:qc x= { iK x with ep:=x.ep,j9:=x.j9 } :=af k;rw[E]at fin;rw[af (m.2 k)];exact hU x.ep H rfl rfl rfl rfl rfl ⟨_,ar H,OD l λi e1 f5=>⟨Mf f5 ne bP,qi (z:=({ iK x with ep:=x.ep,j9:=x.j9 } :Rq).s none 0) e1 di rfl λC e2 f6=>by subst j;exact fin C none 0 e2 N (f5.tt f6)⟩⟩
  rw[ae (λe=>k (m.1 e))];refine aG.of λW d'=> ?_
  have U: ∀v,(v=true↔x.kind=2\/x.kind=6)->W v t:=by
   intro v m;subst d';dsimp only;refine aG.of λJ4 o=> ?_
   by_cases a:x.kind=2\/x.kind=6
   .have E:qc x= { iK x with ep:=x.ep } :=(ae k).trans (af a);rw[E]at fin;rw[af (m.2 a)];exact hU x.ep H rfl rfl rfl rfl rfl (OD l λi e1 f5=>by subst o;subst j;exact fin i none 0 e1 N f5)
   rw[ae (λe=>a (m.1 e))];refine aG.of λJ5 r=> ?_
   by_cases n:x.kind=4
   .have E:qc x= { iK x with ep:=x.ep,dest:=x.dest,kO:=x.kO,dN:=x.dN,on:=x.on } :=(ae k).trans ((ae a).trans (af n));rw[E]at fin;rw[af (bq.2 n)];refine hU x.ep H rfl rfl rfl rfl rfl (hU x.dest H rfl rfl rfl rfl rfl ⟨_,_,_,ar H,_,ar H,_,ar H,OD l λi e1 f5=>⟨Mf f5 ne bP,Qu e1 λC e2 f6=>⟨Mf f6 ne bP,?_⟩⟩⟩);refine qi (z:=({ iK x with ep:=x.ep,dest:=x.dest,kO:=x.kO } :Rq).s p c) e2 di rfl λg3 Y f7=>⟨Mf f7 ne bP,?_⟩
    refine qi (z:=({ iK x with ep:=x.ep,dest:=x.dest,kO:=x.kO,dN:=x.dN } :Rq).s p c) Y di rfl λg4 Z f8=>⟨Mf f8 ne bP,?_⟩
    refine qi (z:=({ iK x with ep:=x.ep,dest:=x.dest,kO:=x.kO,dN:=x.dN,on:=x.on } :Rq).s p c) Z di rfl λg5 e5 f9=> ?_
    subst r;subst o;subst j;exact fin g5 p c e5 rx (f5.tt (f6.tt (f7.tt (f8.tt f9))))
   rw[ae (λe=>n (bq.1 e))];refine aG.of λX e'=> ?_
   have M: ∀v,(v=true↔x.kind=5\/x.kind=8\/x.kind=9)->X v t:=by
    intro v m;subst e';dsimp only;refine aG.of λJ7 u=> ?_
    by_cases f:x.kind=5\/x.kind=8\/x.kind=9
    .have E:qc x= { iK x with num:=x.num } :=(ae k).trans ((ae a).trans ((ae n).trans (af f)));rw[E]at fin;rw[af (m.2 f)];exact⟨_,ar H,qi (z:=({ iK x with num:=x.num } :Rq).s none 0) l di rfl λi e1 f5=>by subst u;subst r;subst o;subst j;exact fin i none 0 e1 N f5⟩
    rw[ae (λe=>f (m.1 e))];refine aG.of λJ8 D=> ?_
    by_cases s:x.kind=7
    .have E:qc x= { iK x with ep:=x.ep,iz:=x.iz } :=(ae k).trans ((ae a).trans ((ae n).trans ((ae f).trans (af s))));rw[E]at fin;rw[af (bq.2 s)];exact hU x.ep H rfl rfl rfl rfl rfl ⟨_,ar H,OD l λi e1 f5=>⟨Mf f5 ne bP,qi (z:=({ iK x with ep:=x.ep,iz:=x.iz } :Rq).s none 0) e1 di rfl λC e2 f6=>by subst D;subst u;subst r;subst o;subst j;exact fin C none 0 e2 N (f5.tt f6)⟩⟩
    rw[ae (λe=>s (bq.1 e))];refine aG.of λJ9 L=> ?_
    by_cases w:x.kind=10
    .have E:qc x= { iK x with on:=x.on } :=(ae k).trans ((ae a).trans ((ae n).trans ((ae f).trans ((ae s).trans (af w)))));rw[E]at fin;rw[af (bq.2 w)];exact⟨_,ar H,qi (z:=({ iK x with on:=x.on } :Rq).s none 0) l di rfl λi e1 f5=>by subst L;subst D;subst u;subst r;subst o;subst j;exact fin i none 0 e1 N f5⟩
    rw[ae (λe=>w (bq.1 e))];refine aG.of λf' S=> ?_
    by_cases I:x.kind=12
    .have E:qc x= { iK x with token:=x.token } :=(ae k).trans ((ae a).trans ((ae n).trans ((ae f).trans ((ae s).trans ((ae w).trans (af I))))));rw[E]at fin;rw[af (bq.2 I)];exact⟨_,ar H,qi (z:=({ iK x with token:=x.token } :Rq).s none 0) l di rfl λi e1 f5=>by subst S;subst L;subst D;subst u;subst r;subst o;subst j;exact fin i none 0 e1 N f5⟩
    rw[ae (λe=>I (bq.1 e))];have E:qc x=iK x:=(ae k).trans ((ae a).trans ((ae n).trans ((ae f).trans ((ae s).trans ((ae w).trans (ae I))))));rw[E]at fin;subst S;subst L;subst D;subst u;subst r;subst o;subst j;exact fin t none 0 l N (Fr.refl _ _)
   by_cases f:x.kind=5
   .rw[af (bq.2 f)];exact M _ ⟨λ_=> .inl f,λ_=>bq.2 f⟩
   rw[ae (λe=>f (bq.1 e))];refine aG.of λg' b'=> ?_
   subst b';dsimp only;by_cases A:x.kind=8
   .rw[af (bq.2 A)];exact M _ ⟨λ_=> .inr (.inl A),λ_=>bq.2 A⟩
   rw[ae (λe=>A (bq.1 e))];exact M _ ⟨λe=> .inr (.inr (bq.1 e)),λe=>bq.2 ((e.resolve_left f).resolve_left A)⟩
  by_cases a:x.kind=2
  .rw[af (bq.2 a)];exact U _ ⟨λ_=> .inl a,λ_=>bq.2 a⟩
  rw[ae (λe=>a (bq.1 e))];exact U _ ⟨λe=> .inr (bq.1 e),λe=>bq.2 (e.resolve_left a)⟩
 by_cases k:x.kind=1
 .rw[af (bq.2 k)];exact key _ ⟨λ_=> .inl k,λ_=>bq.2 k⟩
 rw[ae (λe=>k (bq.1 e))];exact key _ ⟨λe=> .inr (bq.1 e),λe=>bq.2 (e.resolve_left k)⟩
theorem CP(n k:Nat):decide ((n:Int)≥(k:Int))=decide (n≥k):=by by_cases e:n≥k<;>simp[e]<;>omega
theorem Mh(x:Rq)(hk: gL h R (.bool (kW x))):Cl 79 #[(x.s p c).agg] h R:=by
 refine AB.walk (aE.cM λb s U H f1=>⟨_,ar H,aG.of λJ N=> ?_⟩);have key: ∀v,(v=true↔x.kind=1\/x.kind=3)->J v s:=by
  intro v j;subst N;dsimp only;by_cases k:x.kind=1\/x.kind=3
  .have E:kW x=(lu x.ep && decide (x.j9≥0) && decide (x.j9<=2)):=af k;rw[E]at hk;rw[af (j.2 k)];refine hU x.ep H rfl rfl rfl rfl rfl (nC x.ep λl f3=>⟨_,rfl,?_⟩);have i:=f3.get H id;have hk:=hk l (f1.tt f3);refine nB (λc1=> ?_) (λc1=> ?_) (b:=lu x.ep)
   .rw[c1]at hk⊢;rw[af rfl];refine⟨_,ar i,?_⟩;refine nB (λc2=> ?_) (λc2=> ?_) (b:=decide (x.j9≥0))
    .rw[af c2];rw[c2]at hk;exact⟨_,ar i,hk⟩
    .rw[ae (by rw[c2];decide)];rw[c2]at hk;exact hk
   .rw[c1]at hk⊢;rw[dc];exact hk
  rw[ae (λe=>k (j.1 e))];refine aG.of λG P=> ?_
  have F: ∀v,(v=true↔x.kind=2\/x.kind=6)->G v s:=by
   intro v j;subst P;dsimp only;by_cases a:x.kind=2\/x.kind=6
   .have E:kW x=lu x.ep:=(ae k).trans (af a);rw[E]at hk;rw[af (j.2 a)];exact hU x.ep H rfl rfl rfl rfl rfl (nC x.ep λl f3=>⟨_,rfl,hk l (f1.tt f3)⟩)
   rw[ae (λe=>a (j.1 e))];by_cases m:x.kind=4
   .have E:kW x=(lu x.ep && lu x.dest && decide (x.kO.length<=200) && decide (x.dN≥1) && decide (x.dN<=1099511627776)):=(ae k).trans ((ae a).trans (af m));rw[E]at hk;rw[af (bq.2 m)];refine hU x.ep H rfl rfl rfl rfl rfl (nC x.ep λl f3=>⟨_,rfl,?_⟩);have i:=f3.get H id;refine nB (λc1=> ?_) (λc1=> ?_) (b:=lu x.ep)
    .rw[c1]at hk⊢;rw[af rfl];refine hU x.dest i rfl rfl rfl rfl rfl (nC x.dest λM f4=>⟨_,rfl,?_⟩);have A:=f4.get i id;have hk:=hk M (f1.tt (f3.tt f4));refine nB (λc2=> ?_) (λc2=> ?_) (b:=lu x.dest)
     .rw[c2]at hk⊢;rw[af rfl];refine⟨_,_,_,ar A,?_⟩;have L:decide (((x.s p c).LK:Int)<=200)=decide (x.kO.length<=200):=Bn.jY x.kO.length 200;rw[L];refine nB (λw=> ?_) (λw=> ?_) (b:=decide (x.kO.length<=200))
      .rw[w]at hk⊢;rw[af rfl];refine⟨_,ar A,?_⟩;have z:decide (((x.s p c).f16:Int)≥1)=decide (x.dN≥1):=CP x.dN 1;rw[z];refine nB (λC=> ?_) (λC=> ?_) (b:=decide (x.dN≥1))
       .rw[C]at hk⊢;rw[af rfl];refine⟨_,ar A,?_⟩;have n:decide (((x.s p c).f16:Int)<=1099511627776)=decide (x.dN<=1099511627776):=Bn.jY x.dN 1099511627776;rw[n];exact hk
       .rw[C]at hk⊢;rw[dc];exact hk
      .rw[w]at hk⊢;rw[dc];exact hk
     .rw[c2]at hk⊢;rw[dc];exact hk
    .rw[c1]at hk⊢;rw[dc];exact hk l (f1.tt f3)
   rw[ae (λe=>m (bq.1 e))];refine aG.of λI Q=> ?_
   have D:=hk;have hk:=hk s f1;have B: ∀v,(v=true↔x.kind=5\/x.kind=8\/x.kind=9)->I v s:=by
    intro v j;subst Q;dsimp only;by_cases f:x.kind=5\/x.kind=8\/x.kind=9
    .have E:kW x=(decide (x.num≥1) && decide (x.num<=1099511627776)):=(ae k).trans ((ae a).trans ((ae m).trans (af f)));rw[E]at hk;rw[af (j.2 f)];refine⟨_,ar H,?_⟩;refine nB (λc2=> ?_) (λc2=> ?_) (b:=decide (x.num≥1))
     .rw[af c2];rw[c2]at hk;exact⟨_,ar H,hk⟩
     .rw[ae (by rw[c2];decide)];rw[c2]at hk;exact hk
    rw[ae (λe=>f (j.1 e))];by_cases o:x.kind=7
    .have E:kW x=(lu x.ep && decide (x.iz≥1) && decide (x.iz<=1000)):=(ae k).trans ((ae a).trans ((ae m).trans ((ae f).trans (af o))));rw[E]at D;rw[af (bq.2 o)];refine hU x.ep H rfl rfl rfl rfl rfl (nC x.ep λl f3=>⟨_,rfl,?_⟩);have i:=f3.get H id;have hk:=D l (f1.tt f3);refine nB (λc1=> ?_) (λc1=> ?_) (b:=lu x.ep)
     .rw[c1]at hk⊢;rw[af rfl];refine⟨_,ar i,?_⟩;refine nB (λc2=> ?_) (λc2=> ?_) (b:=decide (x.iz≥1))
      .rw[af c2];rw[c2]at hk;exact⟨_,ar i,hk⟩
      .rw[ae (by rw[c2];decide)];rw[c2]at hk;exact hk
     .rw[c1]at hk⊢;rw[dc];exact hk
    rw[ae (λe=>o (bq.1 e))];by_cases u:x.kind=12
    .have E:kW x=(decide (x.token≥1) && decide (x.token<=2147483648)):=(ae k).trans ((ae a).trans ((ae m).trans ((ae f).trans ((ae o).trans (af u)))));rw[E]at hk;rw[af (bq.2 u)];refine⟨_,ar H,?_⟩;have z:decide (((x.s p c).f17:Int)≥1)=decide (x.token≥1):=CP x.token 1;rw[z];refine nB (λC=> ?_) (λC=> ?_) (b:=decide (x.token≥1))
     .rw[C]at hk⊢;rw[af rfl];refine⟨_,ar H,?_⟩;have n:decide (((x.s p c).f17:Int)<=2147483648)=decide (x.token<=2147483648):=Bn.jY x.token 2147483648;rw[n];exact hk
     .rw[C]at hk⊢;rw[dc];exact hk
    rw[ae (λe=>u (bq.1 e))];have E:kW x=decide (x.kind=10\/x.kind=11):=(ae k).trans ((ae a).trans ((ae m).trans ((ae f).trans ((ae o).trans (ae u)))));rw[E]at hk;refine⟨_,ar H,?_⟩;by_cases t:x.kind=10
    .rw[af (bq.2 t)];rw[av (.inl t)]at hk;exact hk
    .rw[ae (λe=>t (bq.1 e))];refine⟨_,ar H,?_⟩;have n:decide (x.kind=10\/x.kind=11)=(x.kind==11):=by by_cases S:x.kind=11<;>simp[t,S]
     rw[n]at hk;exact hk
   by_cases f:x.kind=5
   .rw[af (bq.2 f)];exact B _ ⟨λ_=> .inl f,λ_=>bq.2 f⟩
   rw[ae (λe=>f (bq.1 e))];refine aG.of λT O=> ?_
   subst O;dsimp only;by_cases r:x.kind=8
   .rw[af (bq.2 r)];exact B _ ⟨λ_=> .inr (.inl r),λ_=>bq.2 r⟩
   rw[ae (λe=>r (bq.1 e))];exact B _ ⟨λe=> .inr (.inr (bq.1 e)),λe=>bq.2 ((e.resolve_left f).resolve_left r)⟩
  by_cases a:x.kind=2
  .rw[af (bq.2 a)];exact F _ ⟨λ_=> .inl a,λ_=>bq.2 a⟩
  rw[ae (λe=>a (bq.1 e))];exact F _ ⟨λe=> .inr (bq.1 e),λe=>bq.2 (e.resolve_left a)⟩
 by_cases k:x.kind=1
 .rw[af (bq.2 k)];exact key _ ⟨λ_=> .inl k,λ_=>bq.2 k⟩
 rw[ae (λe=>k (bq.1 e))];exact key _ ⟨λe=> .inr (bq.1 e),λe=>bq.2 (e.resolve_left k)⟩
theorem e8(x:Rq)(r:Row h p (bc x.kO))(hk: gL h R (.bool (jW x))):Cl 29 #[(x.s p c).agg] h R:=by
 refine AD.walk (aE.cM λb a l H f1=>⟨_,ar H,?_⟩);unfold jW at hk;have E:decide (((x.s p c).f0:Int)≥1)=decide (x.id≥1):=CP x.id 1;have f:decide (((x.s p c).f0:Int)<=1099511627776)=decide (x.id<=1099511627776):=Bn.jY x.id 1099511627776;rw[E];refine nB (λc1=> ?_) (λc1=> ?_) (b:=decide (x.id≥1))
 case refine_2=>rw[c1]at hk⊢;rw[dc];exact hk a f1
 rw[c1]at hk⊢;rw[af rfl];refine⟨_,ar H,?_⟩;rw[f];refine nB (λc2=> ?_) (λc2=> ?_) (b:=decide (x.id<=1099511627776))
 case refine_2=>rw[c2]at hk⊢;rw[dc];exact hk a f1
 rw[c2]at hk⊢;rw[af rfl];refine aE.ff (x:=x.s p c) H (Mh x λi f2=>⟨_,rfl,f2.kp,?_⟩);refine nB (λC=> ?_) (λC=> ?_) (b:=kW x)
 case refine_2=>rw[C]at hk⊢;rw[dc];exact hk i (f1.tt f2)
 rw[C]at hk⊢;rw[af rfl];have e:=f2.get H _root_.id;have F:=f1.tt f2;refine aE.ff (x:=x.s p c) e (aE.ff (x:=x.s p c) e (Gq x (r.frame F (λ_ _=>_root_.id)) λm P c' k f3=>aE.ex ((qc x).s P c') ⟨rfl,f3.kp,?_⟩));refine Ex x (qc x) (r.frame (F.tt f3) (λ_ _=>_root_.id)) k λj f4=>⟨_,rfl,f4.kp,?_⟩
 exact hk j (F.tt (f3.tt f4))

end Ask
end
section
variable {h:ai} {R:fp}
variable {S:cy} {s c:Nat}
theorem jI.walk(e:if S.isNone then R (.Z) h else aQ h (.cells #[] 262) λb H=>aW Tryz.prog (Builtin.append_ #[260,260] 260 #[.slice (Sa b 0) 0 0,.slice S s c]) H λv d=> ∃a T t,v=.slice a T t/\R (.slice a T t) d):Cl 295 #[.slice S s c] h R:=aO (lq (sq (lq (cq ll lf)) ll)) Tryz.func295 e
theorem iL.Tf.walk(a:Cl 294 #[.slice S s c,.func (.func 256) #[] #[]] h λv H=> ∃t7,v=.I t7/\R (.bool (decide (t7≥0))) H):Cl 258 #[.slice S s c,.func (.func 256) #[] #[]] h R:=aO (lq ll) Tryz.func258 a
theorem jg.Tf.walk(d: ∃(I:Int->ai->Prop)(m:Int->ai->Nat),I 0 h/\∀(t8:Int)(H:ai),I t8 H->if(decide (t8<(s:Int)))then Bd t8 s/\aL S λa=>aa.cv H (a.add (toNat t8*4)) λt15=>Cl 256 #[t15.agg] H λv b=> ∃t16,v=.bool t16/\if t16 then R (.I t8) b else(I (wrap .i64 (t8+1)) b/\m (wrap .i64 (t8+1)) b<m t8 H)else R (.I (-1)) H):Cl 294 #[.slice S s c,.func (.func 256) #[] #[]] h R:=aO (lq (sq (lq (bq (.loop [(8,.one (.int .i64))] (lq (sq (cq lf lf) (sq (bq (lq (lq (cq ll lf)))) lf)))))) ll)) Tryz.func294 d
theorem jD.within.walk(a:Cl 292 #[.slice S s c,.func (.func 251) #[] #[]] h λv H=> ∃t7,v=.I t7/\R (.bool (decide (t7≥0))) H):Cl 250 #[.slice S s c,.func (.func 251) #[] #[]] h R:=aO (lq ll) Tryz.func250 a
theorem jZ.within.walk(d: ∃(I:Int->ai->Prop)(m:Int->ai->Nat),I 0 h/\∀(t8:Int)(H:ai),I t8 H->if(decide (t8<(s:Int)))then Bd t8 s/\aL S λa=>fW H (a.add (toNat t8*1)) λt15=>Cl 251 #[.U t15] H λv b=> ∃t16,v=.bool t16/\if t16 then R (.I t8) b else(I (wrap .i64 (t8+1)) b/\m (wrap .i64 (t8+1)) b<m t8 H)else R (.I (-1)) H):Cl 292 #[.slice S s c,.func (.func 251) #[] #[]] h R:=aO (lq (sq (lq (bq (.loop [(8,.one (.int .i64))] (lq (sq (cq lf lf) (sq (bq (lq (lq (cq ll lf)))) lf)))))) ll)) Tryz.func292 d

end
section
namespace Bn
open Cb
open iW (Ev cV kz)
variable {V:cD→Bool} {h H h' g0 g:ai} {R:fp} {D:Nat→Prop}
variable {ys:List CV} {n k:Int} {bb cl:Nat} {v:BV} {ts:List Tr} {q:cy} {t:Tr} {z:CV}
theorem Mi(ys:List CV): ∀v∈ys.flatMap hN,fR v=true:=λv c=>by
 obtain⟨a,_,b⟩:=List.mem_flatMap.1 c;exact nt a v b
theorem JI{p:cy}{n m:Nat}(c:Row h p (ys.flatMap hN))(d:n=ys.length)(i:ys.length<=1000000)(hk: ∀P c' h',fJ h' P ys.length c' 4 (ys.flatMap hN)->Fr No h h'->(∀x,aR P x->h.size<=x)->R (.slice P ys.length c') h'):Cl 295 #[.slice p n m] h R:=by
 subst d;refine jI.walk ?_;cases p with
 |none=>
  have:ys= []:=by
   rcases c with c|⟨a,e,_⟩
   .cases ys with
    |nil=>rfl
    |cons b bs=>cases c
   .cases e
  subst this;exact hk none 0 h (.nil rfl rfl rfl rfl) (Fr.refl _ _) (λx ⟨a,e,_⟩=>by cases e)
 |some a=>
  simp only[gA,au,aM];exact vi tI uI c (eU hN 4 gu ys) (Mi ys) ag ag λP c' h' o f g=>⟨_,_,_,rfl,hk P c' h' o f g⟩
structure Lc (g0 g:ai) (bb:Nat) (k n:Int) (v:BV) (ts:List Tr) (ys:List CV) (q:cy) (cl:Nat):Prop where
 cT:aa.at g bb k n v.p v.b.length v.c q ys.length cl
 own:fJ g q ys.length cl 4 (ys.flatMap hN)
 ge: ∀y,aR q y->g0.size<=y/\y≠bb
 tr:df g (λy=>(g0.size<=y/\y≠bb)/\¬aR q y) ts ys
 fr:Fr (λy=>y=bb) g0 g
theorem Lc.on(L:Lc g0 g bb k n v ts ys q cl)(f:Fr No g h'):Lc g0 h' bb k n v ts ys q cl:=
 ⟨f.get L.cT id,L.own.frame f cb,L.ge,L.tr.on f,L.fr.on f⟩
theorem Mj(T:rU g (λy=>g0.size<=y/\y≠bb) t z)(e:aa.fi g bb z.s)(f:Fr (λy=>y=bb) g0 g): ∃ys,ys.length=z.ll/\Lc g0 g bb z.k z.n z.v t.l ys z.q z.cl:=by
 obtain⟨i,ys,a,b,c,d⟩:=T;refine⟨ys,a.symm,?_,b,c,d,f⟩;rw[<-a];exact e
theorem Ml{k':Nat}(L:Lc g0 g bb k (k':Int) v ts ys q cl)(ok:v.ok g (λy=>g0.size<=y/\y≠bb)):rU g (λy=>g0.size<=y/\y≠bb) (.mk k k' v.b ts) ⟨k,k',v,q,ys.length,cl⟩:=
 ⟨⟨rfl,rfl,rfl,ok⟩,ys,rfl,L.own,L.ge,L.tr⟩
theorem Tg{Φ:ai->Prop}(L:Lc g0 g bb k n v ts ys q cl)(ll:ys.length<=1000000)(J:gl g (λy=>(g0.size<=y/\y≠bb)/\¬aR q y) t z)(hk: ∀G Y q' C,Lc g0 G bb k n v (ts++ [t]) Y q' C->Y.length=ys.length+1->g.size<=G.size->(∀x,x≠bb->¬aR q x->x<g.size->G[x]? =g[x]?)->Φ G):
  aQ g (.cells z.s.arr 262) λp s=>aW Tryz.prog (Builtin.append_ #[260,260] 260 #[.slice q ys.length cl,.slice (Sa p 0) 1 1]) s λK u=>
   ∃o m T,K=.slice o m T/\aS u (AA bb 3) (.slice o m T) λw=>Φ w:=by
 refine aa.cM λP S Q j f7=> ?_
 have Z:=f7.1;have zg:=L.fr.1;have W:=aD j;have X:=aD L.cT;have U: ∀y,aR q y->y<g.size:=λy b=>L.own.dY b
 refine dT tI uI (L.own.frame f7 cb) (ds:=hN z) (.inr ⟨_,rfl,aa.yT (x:=z.s) j⟩) rfl (nt z) ag ag λq' C r O _ f11 f=>⟨_,_,_,rfl,?_⟩
 have B:=f11.get (f7.get L.cT id) (λb=>(L.ge _ b).2 rfl);refine bw B (by show 3<4;omega) λi d1 d2 d3=> ?_
 have f12:Fr (λy=>y=bb) r i:=Fr.of_eq d2 (λc A=>d3 c A);have N: ∀y,aR q' y->g0.size<=y/\y≠bb:=λy b=>by
  rcases f y b with a|a
  .exact L.ge y a
  .omega
 have E:ys.flatMap hN++hN z=(ys++ [z]).flatMap hN:=by rw[da];simp
 refine hk i (ys++ [z]) q' C ⟨?_,?_,N,?_,?_⟩ bP ?_ ?_
 .rw[aA];exact d1
 .rw[aA,<-E];exact O.frame f12 (λy b e=>bY (N y b))
 .have t1:=((L.tr.snoc J).lt.on f7).frame f11 (λy b d=>b.1.2 d);have M:=df.mono (D':=λy=>(g0.size<=y/\y≠bb)/\¬aR q' y) (λy b=>⟨b.1.1,λd=>by
   rcases f y d with a|a
   .exact b.1.2 a
   .have:=b.2;omega⟩) t1
  exact df.frame f12 (λy b e=>ag) M
 .exact((L.fr.on f7).trans f11 (S'':=λy=>y=bb) cb (λx l b=>bY (L.ge x b))).trans f12 cb cb
 .have:=f11.1;omega
 .intro x l I F;rw[d3 x l,f11.2 x ag I,f7.2 x F id]
theorem Mn{Φ:ai->Prop}{kl:List (cy)}(L:Lc g0 g bb k n v ts ys q cl)(ll:ys.length<=1000000)(l:gl g (λy=>(g0.size<=y/\y≠bb)/\¬aR q y) t z)(hk: ∀G Y q' C,Lc g0 G bb k n v (ts++ [t]) Y q' C->Y.length=ys.length+1->g.size<=G.size->(∀x,x≠bb->¬aR q x->x<g.size->G[x]? =g[x]?)->Φ G):
  aQ g (.cells z.s.arr 262) λB a=>Kp g a kl/\aW Tryz.prog (Builtin.append_ #[260,260] 260 #[.slice q ys.length cl,.slice (Sa B 0) 1 1]) a λm i=>
   ∃d c T,m=.slice d c T/\aS i (AA bb 3) (.slice d c T) λj=>Φ j:=by
 intro b f E e;refine⟨?_,Tg L ll l hk b f E e⟩;subst e;exact(Fr.push _ _).kp
theorem Mo{l c:Nat}(U:ke V H)(u:Fr No H h)(L:kX h D q l c ys)(T:df h D ts ys)(A:dk ts<=1000000)(hk: gL h R (.bool (!ts.all (gO V)))):Cl 258 #[.slice q l c,.func (.func 256) #[] #[]] h R:=by
 have G:=T.len;have el:=L.len;have C:=gG ts;refine iL.Tf.walk (jg.Tf.walk ?_);refine⟨λt g=> ∃i:Nat,t=(i:Int)/\i<=ts.length/\Fr No h g/\(ts.take i).all (gO V)=true,λt _=>ts.length - t.toNat,⟨0,rfl,bG _,Fr.refl _ _,by rw[dV];rfl⟩,?_⟩;rintro _ g ⟨i,rfl,w,f,j⟩;by_cases d:i<ts.length
 .rw[fK];obtain⟨a,y,E,p,ty,B⟩:=elem (L.frame f cb) (T.on f) d;have I:=ir d;have eq:ts.take (i+1)=ts.take i++ [at_ ts i]:=by
   rw[bQ];unfold at_;rw[aY,aj d];rfl
  have tm:at_ ts i∈ts:=by
   unfold at_;rw[aY,aj d];exact dA d
  refine⟨ag,bK.2 ⟨a,E,aa.ko (x:=y.s) (by rw[aI];exact p) (yV.walk (x:=y.s) (aa.cM λb s r o f1=>aa.ff o (e8 U (u.tt (f.tt f1)) (ty.on f1) ag λm f2=>⟨_,rfl,_,rfl,?_⟩)))⟩⟩;have F:=f.tt (f1.tt f2);cases q:gO V (at_ ts i)with
  |false=>
   rw[fK];refine⟨_,rfl,?_⟩;have:=hk m F;rw[show ts.all (gO V)=false by rw[List.all_eq_false];exact⟨_,tm,by rw[q];decide⟩]at this;rw[av ag];exact this
  |true=>
   rw[dc,bD (n:=(i:Int)+1) ag ag];exact⟨⟨i+1,ag,ag,F,by rw[eq,List.all_append,j];simp[q]⟩,by show ts.length - Int.toNat ((i:Int)+1)<ts.length - Int.toNat (i:Int);omega⟩
 .rw[ae (λe=>d (bY (aU e)))];rw[bJ ag]at j;have:=hk g f;rw[j]at this;exact⟨_,rfl,this⟩

end Bn
end
section
namespace Bn
open Cb
open iW (Ev cV kz)
variable {V:cD→Bool} {h H h':ai} {R:fp} {D:Nat→Prop} {ts:List Tr} {ys:List CV} {q:cy} {l c:Nat}
theorem Bu{i:Nat}(L:kX h D q l c ys)(T:df h D ts ys)(r:dk ts<=1000000)(p:i<100)(hk: gL h R (.I (typeAt ts i))):Cl 257 #[.slice q l c,.I (i:Int)] h R:=by
 have t:=T.len;have el:=L.len;have s:=gG ts;refine yU.walk (aG.of λJ j=> ?_);have no: ∀g,Fr No h g->¬(i<ts.length/\(at_ ts i).n<=2/\mW (at_ ts i) (num (at_ ts i).n)=true)->J true g:=λg m d=>by
  subst j;dsimp only;rw[af rfl];have:=hk g m;unfold typeAt at this;rw[ae d]at this;exact this
 rw[dc];by_cases b:i<ts.length
 case neg=>rw[fK];exact no h (Fr.refl _ _) (λe=>b e.1)
 rw[dc];obtain⟨a,y,E,n,ty,_⟩:=elem L T b;have u:=ir b;obtain⟨_,Y,_⟩:=gl.kn ty;have k:dI (a.add (Int.toNat (i:Int)*4)) y.s.l 0 h:=by rw[aI];exact n
 have c1:bg h ((a.add (Int.toNat (i:Int)*4)).add 1)=some (.U ((at_ ts i).n:Int)):=by rw[<-Y];exact k.2.1
 refine⟨ag,bK.2 ⟨a,E,_,c1,?_⟩⟩;by_cases d:(at_ ts i).n<=2
 case neg=>rw[fK];exact no h (Fr.refl _ _) (λe=>d e.2.1)
 rw[dc];refine⟨ag,bK.2 ⟨a,E,aa.ko (x:=y.s) k ⟨ag,bK.2 ⟨a,E,_,c1,fX λo f2=>aa.ex (nv (at_ ts i).n).s ⟨rfl,f2.kp,iX (x:=y) (y:=nv (at_ ts i).n) (ty.on f2) mb ag λf f3=>⟨_,rfl,f3.kp,?_⟩⟩⟩⟩⟩⟩;have F:=f2.tt f3;cases e:mW (at_ ts i) (num (at_ ts i).n)with
 |false=>exact no f F (λq=>by rw[e]at q;cases q.2.2)
 |true=>
  subst j;dsimp only;rw[dc];refine⟨ag,bK.2 ⟨a,E,_,F.cell c1 id,?_⟩⟩;have:=hk f F;unfold typeAt at this;rw[af ⟨b,d,e⟩]at this;rw[bD ag ag];exact this
theorem Bv(ts:List Tr)(i:Nat): -1<=typeAt ts i/\typeAt ts i<=2:=by unfold typeAt;split<;>omega
theorem OE(n:Nat):List.replicate n (Value.int .u8 0)=bc (List.replicate n 0):=by unfold bc;rw[List.map_replicate];rfl
theorem SE(n k:Nat)(m:Nat)(a:m=k):IntKind.wrap .u8 (Int.fdiv (n:Int) (2 ^ m))=((UInt8.ofNat (n/2 ^ k)).toNat:Int):=by subst a;rw[LZ,LY]
theorem Ey{sum:Nat}(U:ke V H)(u:Fr No H h)(L:kX h D q l c ys)(T:df h D ts ys)(hr:dk ts<=900000)(s1:1<=sum)(s2:sum<=2)(K: ∀b,sumOf V ts sum=.ok b->∀h' p c,Row h' p (bc b)->b.length=2*sum->(∀y,aR p y->h.size<=y)->Fr No h h'->R (.tuple #[.slice p b.length c,.I 0]) h')(Q:sumOf V ts sum=.error 3->gL h R (.tuple #[.Z,.I 3])):Cl 259 #[.slice q l c,.I (sum:Int)] h R:=by
 have ln:=T.len;have el:=L.len;have l9:=gG ts;refine Av.walk (JI L.row L.len ag λY c1 M o1 f1 G=>⟨_,_,_,rfl,oV.walk ⟨_,rfl,?_⟩⟩);rw[bD (n:=2*(sum:Int)) ag ag,show 2*(sum:Int)=((2*sum:Nat):Int) by omega];refine Lr kK.tU rfl (2*sum) ag ag λN p3 C f3 g3=>⟨_,_,_,rfl,?_⟩
 rw[OE]at C;have t:(List.replicate (2*sum) (0:UInt8)).length=2*sum:=List.length_replicate;refine ny C.iw t.symm ag λh4 v ev X f4=>aa.ex (CV.s ⟨2,0,v,none,0,0⟩) ⟨rfl,aa.cM λb h5 eb P f5=> ?_⟩
 have F:=f3.tt (f4.tt f5);have z1:=f1.1;have z3:=f3.1;have z4:=f4.1;have z5:=f5.1;have n1: ∀y,aR Y y->y<M.size:=λy g=>o1.dY g
 have vl:v.b.length=2*sum:=by rw[ev,t]
 refine dT tI uI (o1.frame F cb) (ds:=hN ⟨2,0,v,none,0,0⟩) (.inr ⟨_,rfl,aa.yT (x:=CV.s ⟨2,0,v,none,0,0⟩) P⟩) rfl (nt _) ag ag λp6 c6 m O _ f6 g6=>⟨_,_,_,rfl,?_⟩
 have J:ys.flatMap hN++hN ⟨2,0,v,none,0,0⟩=(ys++ [(⟨2,0,v,none,0,0⟩:CV)]).flatMap hN:=by rw[da];simp
 rw[J]at O;have I:Az m (ts++ [pg (List.replicate (2*sum) 0)]) (ys++ [⟨2,0,v,none,0,0⟩]):=by
  have a:=(T.lt.on (f1.tt F)).frame f6 (λy g s=>bY (G y s));have b:gl m (λy=>N.size<=y) (.mk 2 0 v.b []) ⟨2,0,v,none,0,0⟩:=Br ((X.frame f5 cb).frame f6 (λy g s=>bY (n1 y s)));rw[ev]at b;exact a.u.snoc b.u
 have S:(ys++ [(⟨2,0,v,none,0,0⟩:CV)]).length=ys.length+1:=bP
 have rA:dk (ts++ [pg (List.replicate (2*sum) 0)])<=900100:=by rw[hT];simp only[dk,room,t];omega
 refine jC (D:=λ_=>True) ⟨S.symm,O.iw,λ_ _ _=>trivial,O.le⟩ I ag λh7 z tz f7=>aa.ex z.s ⟨rfl,?_⟩
 have A:Fr No h m:=(f1.tt F).fresh f6 (λy g=>G y g);have i:=A.tt f7;have z6:=A.1;have z7:=f7.1;have d:sumOf V ts sum=sumOf V ts sum:=rfl;conv at d=>rhs;unfold sumOf
 refine vz (x:=z) U (u.tt i) tz.u (by simp only[room,bz];omega) (λo f p8 c8 w n8 f8=>⟨_,_,_,_,rfl,?_⟩) (λo f f8=>⟨_,_,_,_,rfl,?_⟩)
 .rw[dc];rw[af o]at d;have j:=i.tt f8;have W:(enc (qZ (ts++ [pg (List.replicate (2*sum) 0)]))).length<=900200:=by
   have:=jV (qZ (ts++ [pg (List.replicate (2*sum) 0)]));simp only[room,bz]at this;omega
  generalize enc (qZ (ts++ [pg (List.replicate (2*sum) 0)]))=B at d w W⊢;have Z:=j.1;by_cases e1:sum=1
  .rw[af (by rw[e1];rfl)];rw[af e1]at d;refine Mc w.iw rfl ag ⟨_,rfl,cF ?_⟩;rw[SE (yL B) 8 (min (Int.toNat 8) (IntKind.bits .u16)) rfl,LY];have r:Row (f.push (.cells (bc (Cz B)).toArray 5)) (Sa f.size 0) (bc (Cz B)):=jl;exact K _ d _ _ _ r (by rw[e1];rfl) (λy ⟨a,E,k⟩=>by cases E;rw[<-k];exact Z) (j.tt (Fr.push _ _))
  .rw[ae (λe=>e1 (bY (eq_of_beq e)))];rw[ae e1]at d;refine Oz w.iw rfl ag ⟨_,rfl,cF ?_⟩;rw[SE (wO B) 24 (min (Int.toNat 24) (IntKind.bits .u32)) rfl,SE (wO B) 16 (min (Int.toNat 16) (IntKind.bits .u32)) rfl,SE (wO B) 8 (min (Int.toNat 8) (IntKind.bits .u32)) rfl,LY];have r:Row (f.push (.cells (bc (HR B)).toArray 5)) (Sa f.size 0) (bc (HR B)):=jl;exact K _ d _ _ _ r (by rw[show sum=2 by omega];rfl) (λy ⟨a,E,k⟩=>by cases E;rw[<-k];exact Z) (j.tt (Fr.push _ _))
 .rw[fK];rw[ae (by rw[o];decide)]at d;exact Q d f (i.tt f8)

end Bn
end
end Go.Proofs.YtlenamcfacpheaaGreatDoor
