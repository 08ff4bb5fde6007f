/-
  FU is proved here: parts of x7 proof, one behind x7 other (texts of this work, merged by a program; IA x7 theorem IB not use is left out). No condition.
-/
import Derived.Test.YtimiaphmdidfhaaGreatDoorMArwnb
set_option maxRecDepth 100000
set_option maxHeartbeats 4000000
namespace Go.Proofs.YtimiaphmdidfhaaGreatDoor
open Go.Den
open IntKind (wrap)
open Int (toNat)
section
variable {h:aj} {R:fD}
variable {w b B r:Nat} {n:Int} {a:ck}
theorem oQ.walk{s:ck}{c S:Nat}(g:if s.isNone then R (.Z) h else bh h (.C #[] 5) λe H=>aW Tryz.prog (Builtin.append_ #[26,26] 26 #[.L (Sa e 0) 0 0,.L s c S]) H λv f=> ∃d T t,v=.L d T t/\R (.L d T t) f):Cl 27 #[.L s c S] h R:=aP (lq (sq (lq (cq ll lf)) ll)) Tryz.func27 g
theorem I7.walk(d:bh h (.C #[.B true,.Z] 152) λc H=>R (.P c 0) H):Cl 35 #[] h R:=aP (lq ll) Tryz.func35 d
theorem vH.walk (y:aH (λ(z:Bool) (d:aj)=>if z then R (.P w 0) d else∃(I:Int->aj->Prop)(m:Int->aj->Nat),I n d/\∀(c:Int)(H:aj),I c H->if(decide (c>127))then Hl H w 1 λD C A=>bh H (.C #[.int .u8 (wrap .u8 ((qV (wrap .u8 c)|||qV 128).toNat:Int))] 5) λl p=>aW Tryz.prog (Builtin.append_ #[26,26] 26 #[.L D C A,.L (Sa l 0) 1 1]) p λv q=> ∃g f T,v=.L g f T/\aT q (AA w 1) (.L g f T) λe=>(I (Int.fdiv c (2 ^ min (toNat 7) (IntKind.bits .u64))) e/\m (Int.fdiv c (2 ^ min (toNat 7) (IntKind.bits .u64))) e<m c H)else Hl H w 1 λG F E=>bh H (.C #[.int .u8 (wrap .u8 c)] 5) λo s=>aW Tryz.prog (Builtin.append_ #[26,26] 26 #[.L G F E,.L (Sa o 0) 1 1]) s λV u=> ∃k j i,V=.L k j i/\aT u (AA w 1) (.L k j i) λx=>R (.P w 0) x) (λJ=> ∃t,Cc h w 0 (.B t)/\J (!t) h)):Cl 37 #[.P w 0,.U n] h R:=aP (lq (sq (sq (.join [(13,.one (.bool))] lf) (cq ll lf)) (sq (bq (.loop [(1,.one (.int .u64))] (sq (lq (cq lf lf)) (bq ll)))) (lq ll)))) Tryz.func37 y
theorem vI.walk(c:Cl 37 #[.P w 0,.U (wrap .u64 (if 0>n then 0 else n))] h λv H=> ∃t,v=.pointer t/\R (.pointer t) H):Cl 38 #[.P w 0,.I n] h R:=aP (lq ll) Tryz.func38 c
theorem uD.walk{i:Bool}(d:if i then Cl 37 #[.P w 0,.U 1] h λv H=> ∃t,v=.pointer t/\R (.pointer t) H else Cl 37 #[.P w 0,.U 0] h λV c=> ∃T,V=.pointer T/\R (.pointer T) c):Cl 60 #[.P w 0,.B i] h R:=aP (lq (sq (lq (cq ll lf)) ll)) Tryz.func60 d
theorem uE.walk(k:Cl 37 #[.P w 0,.U (wrap .u64 (b:Int))] h λv c=>Vp v λ_=>aH (λ(l:Bool) (H:aj)=>aH (λ(f:aj)=>R (.P w 0) f) (λj=>if l then Hl H w 1 λp o m=>aW Tryz.prog (Builtin.append_ #[26,26] 26 #[.L p o m,.L a b B]) H λV g=> ∃e d T,V=.L e d T/\aT g (AA w 1) (.L e d T) λi=>j i else j H)) (λJ=> ∃t,Cc c w 0 (.B t)/\J t c)):Cl 36 #[.P w 0,.L a b B] h R:=aP (lq (lq (sq (sq (.join [(17,.one (.bool))] lf) (.join [] (cq lf lf))) ll))) Tryz.func36 k
theorem te.walk(d:Hl h w 1 λg f e=>Cl 27 #[.L g f e] h λv H=> ∃c T t,v=.L c T t/\R (.L c T t) H):Cl 39 #[.P w 0] h R:=aP (lq (sq (lq (cq ll lf)) ll)) Tryz.func39 d
theorem vJ.walk{f:Nat}{e:Int}(c: ∃t,Cc h f 0 (.I t)/\if(t==0)then aT h (AA f 0) (.I e) λH=>R (.T #[]) H else R (.T #[]) h):Cl 183 #[.P f 0,.I e] h R:=aP (lq (cq lf lf)) Tryz.func183 c
theorem GQ.walk(e:Cl 27 #[.L a b B] h λv H=>Vl v λf T t=>bh H (.C #[.I 0,.B true,.L f T t] 279) λc d=>R (.P c 0) d):Cl 123 #[.L a b B] h R:=aP (lq ll) Tryz.func123 e
theorem uH.walk(H: ∃T,Cc h r 1 (.B T)/\if T then∃t,Cc h r 0 (.I t)/\R (.B (t==0)) h else R (.B false) h):Cl 182 #[.P r 0] h R:=aP (lq ll) Tryz.func182 H
theorem vK.walk (q:aH (λ(l:aj)=>R (.U 0) l) (λJ=> ∃(I:Int->Int->aj->Prop)(m:Int->Int->aj->Nat),I 0 0 h/\∀(n:Int)(i:Int)(e:aj),I n i e->Cl 182 #[.P r 0] e λv H=> ∃k,v=.B k/\if k then∃u T s,Cc H r 2 (.L u T s)/\if(((T:Nat):Int)==0)then Cl 183 #[.P r 0,.I 8] H λV o=>V=.T #[]/\J o else Hl H r 2 λy x _=>Bd 0 x/\aM y λA=>Kz H (A.add (toNat 0*1)) λt=>Hl H r 2 λz g f=>((0:Int)<=1/\1<=(g:Int))/\aT H (AA r 2) (.L (cT z f (toNat 1) 1) (g - (toNat 1)) (f - (toNat 1))) λc=>aH (λ(C:Bool) (d:aj)=>if C then Cl 183 #[.P r 0,.I 3] d λD p=>D=.T #[]/\J p else if wrap .i64 (7*i)<0 then False else if((wrap .u8 ((qV t &&& qV 128).toNat:Int))==0)then R (.U (wrap .u64 ((od n|||od (wrap .u64 ((wrap .u64 (wrap .u8 ((qV t &&& qV 127).toNat:Int)))*2 ^ min (toNat (wrap .i64 (7*i))) (IntKind.bits .u64)))).toNat:Int))) d else(I (wrap .u64 ((od n|||od (wrap .u64 ((wrap .u64 (wrap .u8 ((qV t &&& qV 127).toNat:Int)))*2 ^ min (toNat (wrap .i64 (7*i))) (IntKind.bits .u64)))).toNat:Int)) (wrap .i64 (i+1)) d/\m (wrap .u64 ((od n|||od (wrap .u64 ((wrap .u64 (wrap .u8 ((qV t &&& qV 127).toNat:Int)))*2 ^ min (toNat (wrap .i64 (7*i))) (IntKind.bits .u64)))).toNat:Int)) (wrap .i64 (i+1)) d<m n i e)) (λj=>if(i==10)then j true c else if((wrap .i64 (i*7))==63)then if(decide (t>1))then j true c else if(t==0)then j (decide (i>0)) c else j false c else if(t==0)then j (decide (i>0)) c else j false c)else J H)):Cl 124 #[.P r 0] h R:=aP (lq (lq (sq (lq (.join [] (bq (.loop [(3,.one (.int .u64)),(4,.one (.int .i64))] (sq (lq (cq lf lf)) (sq (bq (sq (lq (cq ll lf)) (lq (lq (sq (sq (.join [(52,.one (.bool))] lf) (cq ll lf)) (lq (lq (cq ll lf)))))))) lf)))))) ll))) Tryz.func124 q
theorem rX.walk{T:Int}(d:Cl 124 #[.P r 0] h λv H=> ∃t,v=.U t/\if(decide (t>T))then Cl 183 #[.P r 0,.I 3] H λV c=>V=.T #[]/\R (.U 0) c else R (.U t) H):Cl 184 #[.P r 0,.U T] h R:=aP (lq (lq (sq (lq (cq (lq ll) lf)) ll))) Tryz.func184 d
theorem vL.walk(c:Cl 184 #[.P r 0,.U 1099511627776] h λv H=> ∃t,v=.U t/\R (.I (wrap .i64 t)) H):Cl 125 #[.P r 0] h R:=aP (lq ll) Tryz.func125 c
theorem uJ.walk (l:Cl 124 #[.P r 0] h λv i=>Vu v λt=>Cl 182 #[.P r 0] i λV H=> ∃g,V=.B g/\if(!g)then R (.Z) H else∃o d m,Cc H r 2 (.L o d m)/\if(decide (t>(wrap .u64 ((d:Nat):Int))))then Cl 183 #[.P r 0,.I 8] H λy j=>y=.T #[]/\R (.Z) j else Hl H r 2 λp _ T=>((0:Int)<=t/\t<=(T:Int))/\Cl 27 #[.L (cT p T 0 1) ((toNat t) - 0) (T - 0)] H λz c=>Vl z λu s q=>Hl c r 2 λx f e=>((0:Int)<=t/\t<=(f:Int))/\aT c (AA r 2) (.L (cT x e (toNat t) 1) (f - (toNat t)) (e - (toNat t))) λk=>R (.L u s q) k):Cl 126 #[.P r 0] h R:=aP (lq (lq (sq (lq (cq ll lf)) (sq (lq (cq (lq ll) lf)) (lq (lq ll)))))) Tryz.func126 l
theorem vM.walk (e:aH (λ(i:Bool) (H:aj)=>if i then R (.I 6) H else∃T,Cc H r 0 (.I T)/\if(T !=0)then∃c,Cc H r 0 (.I c)/\R (.I c) H else∃g d f,Cc H r 2 (.L g d f)/\if(decide (((d:Nat):Int)>0))then R (.I 2) H else R (.I 0) H) (λJ=> ∃t,Cc h r 1 (.B t)/\J (!t) h)):Cl 127 #[.P r 0] h R:=aP (lq (sq (bq (sq (.join [(3,.one (.bool))] lf) (cq ll (lq (cq ll (lq (cq ll lf))))))) ll)) Tryz.func127 e

end
section
namespace iE
variable {h:aj} {bs:cM} {R:fD}
variable {p:ck} {n c:Nat}
theorem tU:oN Tryz.prog 26 5 1 1 (.int .u8 0):=⟨dz,dz,rfl⟩
theorem uU:Tryz.prog.underlying 26=some (.slice 5):=dz
theorem u8:Tryz.prog.underlying 5=some (.int .u8):=dz
theorem uS:Tryz.prog.underlying 9=some .string:=dz
theorem conv(a:Row h p (bc bs))(H:n=bs.length):re Tryz.prog 26 9 (.L p n c) h (str bs):=Gl uU u8 uS a H
theorem gP(d:Row h p (bc bs))(l:n=bs.length)(r:bs.length<=70368744177664)(i: ∀P C H,fz H P bs.length C 1 (bc bs)->Fr No h H->(∀x,aN P x->h.size<=x)->R (.L P bs.length C) H):
  Cl 27 #[.L p n c] h R:=by
 subst l;refine oQ.walk ?_;cases p with
 |none=>
  have:bs= []:=by
   rcases d with d|⟨a,e,_⟩
   .cases bs with
    |nil=>rfl
    |cons b bs=>cases d
   .cases e
  subst this;exact i none 0 h (.nil rfl rfl rfl rfl) (Fr.refl _ _) (λx ⟨a,e,_⟩=>by cases e)
 |some a=>
  simp only[ia,aq,aL];refine cK ?_;have f:Fr No h (h.push (.C #[] 5)):=Fr.push _ _;refine dH (cs:= []) tU uU (.row h.size 0 #[] 5 rfl bZ (bm _) bV rfl (λj v k=>by cases k)) (d.frame f bX) (by rw[jP,cp]) (rJ bs) ae ae ?_;intro P C H o _ F g;rw[bM,cH]at o;refine⟨_,_,_,rfl,?_⟩;rw[bM];have G: ∀x,aN P x->h.size<=x:=λx m=>by
   rcases g x m with⟨a,e,rfl⟩|h2
   .cases e;exact bm _
   .simp at h2;omega
  exact i P C H o (f.step F (λc q ⟨a,e,E⟩=>by cases e;simp at E;omega)) G
theorem SN{C:Array Value}{K:ck->Nat->Nat->aj->Prop}(a:C=(bc bs).toArray)(k: ∀H,Row H (Sa h.size 0) (bc bs)->Fr No h H->K (Sa h.size 0) n n H):
  bh h (.C C 5) λb e=>aW Tryz.prog (convert 26 26 (.L (Sa b 0) n n)) e λv f=> ∃(p:ck)(l c:Nat),v=.L p l c/\K p l c f:=by
 subst a;refine cK (QI uU u8 (a:=(AA h.size 0)) bZ λd F g s o=>⟨_,_,_,rfl,?_⟩);refine k d (.inr ⟨_,rfl,hT g (λj v i=>by rw[bM];simpa using i)⟩) ⟨by rw[s];simp,λc a _=>by rw[o c (by simp;omega),fZ,dB]⟩

end iE
end
section
namespace Cb
variable {V:cM→Bool} {h a H:aj} {R E:fD} {p:ck} {r l c:Nat} {b:cM} {pos left:Nat}
variable {f C d:Nat} {K:Option Value->aj->Prop}
def lO(V:cM->Bool)(a:aj):Prop:= ∀(g:aj)(p:ck)(c:Nat)(b:cM)(R:fD),Fr No a g->Row g p (bc b)->b.length<=1000000->b.length<=c->(∀G,Fr No g G->R (.bool (V b)) G)->Cl 291 #[.slice p b.length c] g R
theorem GR{m n : Nat}{b' : Bool}(U : lO V a)(d' : Fr No a h)(s : wL h r p c b pos left)(hn : n < 18446744073709551616)(k1 : ∀ H (v : BV), nI V b pos m n = .ok v.b → v.ok H (λy => h.size ≤ y) → v.b.length = n → pos + n ≤ b.length → wL H r p c b (pos + n) left → Fr (λy => y = r) h H → R v.val H)(Q : ∀ H e, nI V b pos m n = .error e → Fr No h H → E (QV e) H): iQ Tryz.prog 300 #[.pointer (some ⟨r, 0, none⟩), .agg #[.int .i64 (m : Int), .int .u64 (n : Int), .bool b']] h R E := by
  refine vG.walk (bJ.box λe' P eb o j => ?_)
  have i := s.on j
  have zr := aC s.cW
  have zb := aC o
  have hp := s.pos
  have g' := s.len
  have f' := s.cap
  refine ⟨_, cB o rfl, _, _, _, cB i.cW rfl, _, cB i.cW rfl, ?_⟩
  rw [bC (n := ((b.length : Nat) : Int) - (pos : Int)) (by omega) (by omega), wrap_u64 (by omega) (by omega)]
  refine iD (λt => ?_) (λt => Q P 8 (by have := of_decide_eq_false t; unfold nI; rw [if_neg (by omega)]) j)
  have t : pos + n ≤ b.length := by have := of_decide_eq_true t; omega
  have G : (b.take (pos + n)).drop pos = (b.drop pos).take n := by rw [List.take_drop]
  have u : IntKind.wrap .i64 ((pos : Int) + (IntKind.wrap .i64 (n : Int))) = ((pos + n : Nat) : Int) := by rw [bC (n := (n : Int)) (by omega) (by omega), bC (by omega) (by omega)]; omega
  refine ⟨rfl, cB i.cW rfl, cB i.cW rfl, cB o rfl, _, _, _, cB i.cW rfl, _, cB i.cW rfl, _, cB i.cW rfl, _, cB o rfl, ⟨by rw [u]; omega, by rw [u]; omega⟩, ⟨by omega, by rw [u]; omega⟩, ?_⟩
  rw [u]
  have c' : Row P (cT p c (Int.toNat (pos : Int)) 1) (bc ((b.take (pos + n)).drop pos)) := by
    have := i.row.sub (cap := c) (l := pos) (u := pos + n) (sz := 1) (by omega) (by omega)
    rw [Nat.mul_one, Nat.mul_one] at this
    rw [Int.toNat_natCast]
    unfold bc at this ⊢
    rw [List.map_drop, List.map_take]
    exact this
  have L : ((b.take (pos + n)).drop pos).length = n := by rw [List.length_drop, List.length_take]; omega
  refine iE.gP c' (by rw [L]; omega) (by rw [L]; omega) λS B z O F M => ⟨_, _, _, rfl, cB (F.get o id) rfl, cB (i.on F).cW rfl, cB (i.on F).cW rfl, cB (i.on F).cW rfl, aH.of λJ hJ => ⟨_, cB (F.get o id) rfl, ?_⟩⟩
  have done : ∀ g, Fr No z g → (m ≠ 3 ∨ V ((b.drop pos).take n) = true) → J g := by
    intro g k w
    subst hJ
    have x := (i.on F).on k
    have a' := (F.tt k).get o id
    refine ⟨_, cB x.cW rfl, _, cB a' rfl, bD x.cW (by show 1 < 3; omega) λh5 D X Z => ?_⟩
    rw [u] at D
    obtain ⟨T, I⟩ := x.set (pos' := pos + n) t s.left D X Z
    have ov := (O.frame k (λ_ _ => id)).frame I (λy A e => by have := M y A; have := j.1; omega)
    refine k1 h5 ⟨S, B, (b.take (pos + n)).drop pos⟩ (by unfold nI; rw [if_pos (by omega), if_pos w]; exact congrArg _ G.symm) (BV.jy ov (λy A => by have := M y A; have := j.1; omega)) L t T (Fr.no (j.tt (F.tt k)) I)
  split
  · rename_i q
    exact iD (λ_ => ⟨rfl, rfl, done z (Fr.refl _ _) (.inl λe => by rw [e] at q; exact absurd q (by decide))⟩) (λe => absurd e (by decide))
  · rename_i q
    have m3 : m = 3 := by
      have : ¬ ((m : Int) ≠ 3) := λe => q (by simpa using e)
      omega
    refine U z S B _ _ (d'.tt (j.tt F)) O.iy (by rw [L]; omega) O.le λg k => ⟨_, rfl, ?_⟩
    rw [G]
    exact iD (λw => ⟨rfl, rfl, done g k (.inr w)⟩) (λw => Q g 3 (by unfold nI; rw [if_pos (by omega), if_neg (λe => e.elim (λe => e m3) (λe => by rw [w] at e; cases e))]) (j.tt (F.tt k)))
def vN(g:aj)(r:Nat):Nat:=match aY g ⟨r,1,none⟩with
 |some (.int _ z)=>z.toNat
 |_=>0
theorem wL.vN(e:wL h r p c b pos left):vN h r=pos:=by
 unfold Cb.vN;rw[show aY h (AA r 1)=some (.I (pos:Int))from ak e.cW];exact aF _
theorem DD{D:Nat->Prop}{v:BV}{m:Int}(g:v.ok h D):gX h D (.mk m 0 v.b []) ⟨m,0,v,none,0,0⟩:=by
 unfold gX;exact⟨⟨rfl,rfl,rfl,g⟩, [],⟨rfl,Row.nil,λe=>absurd rfl e,bm _⟩,by unfold dD;trivial⟩
theorem LW{m n:Nat}{o:Bool}(U:lO V a)(D':Fr No a h)(hr:a.size<=r)(Z:wL h r p c b pos left)(hn:n<18446744073709551616)(k1: ∀H (x:CV) (e':cM) (next:Nat),ED V b pos m n o=.ok (e',next)->gX H (λy=>h.size<=y) (.mk m 0 e' []) x->wL H r p c b next left->Fr (λy=>y=r) h H->R x.agg H)(T: ∀H e,ED V b pos m n o=.error e->Fr (λy=>y=r) h H->E (QV e) H):iQ Tryz.prog 270 #[.P r 0,.agg #[.I (m:Int),.U (n:Int),.B o]] h R E:=by
 refine uC.walk (bJ.box λe' h1 eb hb f1=>aa.box λb1 h2 b4 x' O=>⟨_,ak (O.get hb id),aa.new λB s b5 j' P=>⟨_,ak ((O.tt P).get hb id),?_⟩⟩);have zr:=aC Z.cW;have zb:=aC hb;have c6:=aC x';have c7:=aC j';have z1:=f1.1;have z2:=O.1;have z4:=P.1;have z:=f1.tt (O.tt P);have H4:=Z.on z;have z':=(O.tt P).get hb id;have y':=P.get x' id;have b8:=Z.len;have L: ∀y,aN p y->b≠ []->y<h.size:=λy i e=>iZ Z.row (by cases P':b with|nil=>exact absurd P' e|cons=>simp[bc]) i
 have u': ∀g (v:BV) (next:Nat),aa.at g B m 0 v.p v.b.length v.c none 0 0->aa.at g b1 0 0 none 0 0 none 0 0->v.ok g (λy=>s.size<=y)->ED V b pos m n o=.ok (v.b,next)->wL g r p c b next left->Fr (λy=>y=r\/y=B) s g->
   aa.LD g (AA B 0) λt0 t1 a8 a7 a6 b2 b0 a9=>aa.ST g (AA b1 0) t0 t1 a8 a7 a6 b2 b0 a9 λS=>aa.LD S (AA b1 0) λr0 r1 a0 Z' X' a5 a4 a3=>R (.agg #[.I r0,.U r1,.L a0 Z' X',.L a5 a4 a3]) S:=by
  intro g v next q2 q1 qv ql qr qf;refine aa.ld q2 (aa.set q1 λS M D A=>aa.ld M ?_);have f7:Fr (λy=>y=b1) g S:=Fr.of_eq D (λc w=>A c w);refine k1 S ⟨m,0,v,none,0,0⟩ v.b next ql (DD ((qv.frame f7 (λy i e=>ae)).mono (λy i=>ae))) (qr.frame f7 ae (λy i e J=>bR (L y i e))) ?_;exact((Fr.no z qf).trans f7 (S'':=λy=>y=r) (λx hx e=>ae) (λx hx e=>ae))
 cases o with
 |false=>
  rw[gk];refine bJ.ld z' (GR U (D'.tt z) H4 hn (λh5 v pv U' lv le H5 Q=>⟨_,_,_,rfl,?_⟩) (λh5 e pe Q=>T h5 e (by simp only[ED,pe]) ((z.tt Q).mono λ_ _=>False.elim)));have M':=Q.get j' ae;refine bD M' (by show 2<4;omega) λh6 M D A=> ?_
  have f6:Fr (λy=>y=B) h5 h6:=Fr.of_eq D (λc w=>A c w);refine u' h6 v (pos+n) M (f6.get (Q.get y' ae) ae) (U'.frame f6 (λy i e=>ae)) (by simp only[ED,pv]) (H5.frame f6 ae (λy i e J=>bR (L y i e))) (Q.trans f6 (λ_ _=> .inl) (λ_ _=> .inr))
 |true=>
  rw[dB];refine⟨λg=> ∃(k next:Nat)(v:BV),(b.length+1<=k+next/\GC V b m k next v.b=ED V b pos m n true)/\aa.at g B m 0 v.p v.b.length v.c none 0 0/\fz g v.p v.b.length v.c 1 (bc v.b)/\(∀y,aN v.p y->s.size<=y)/\wL g r p c b next left/\Fr (λy=>y=r\/y=B) s g/\v.b.length<=next,λg=>b.length+1 - vN g r,
   ⟨b.length+1,pos,⟨none,0, []⟩,⟨ae,rfl⟩,j',.nil rfl rfl rfl rfl,(λy ⟨d',e,_⟩=>by cases e),H4,Fr.refl _ _,bL _⟩,?_⟩
  rintro g ⟨k,next,v,⟨b7,j⟩,g2,ov,nv,Hg,I,hv⟩;have c0:=Hg.pos;have L':=I.get y' ae;have O':=I.get z' ae;obtain⟨k,rfl⟩: ∃k',k=k'+1:=⟨k - 1,ae⟩;refine KH Hg (λh9 J b9 H9 f9=>⟨_,rfl,?_⟩) (λJ=>⟨_,rfl,?_⟩);all_goals unfold GC at j;simp only[J,ba,aq,aL]at j
  .rw[dB];exact u' h9 v (next+1) (f9.get g2 ae) (f9.get L' ae) (BV.jy (ov.frame f9 (λy i e=>bR (nv y i))) nv) j.symm H9 (I.trans f9 bX (λ_ _=> .inl))
  .rw[gk];refine AT Hg (λv' m' n' B' o' hh F' t=>⟨_,_,_,rfl,bJ.new λb3 q b6 l' G=>aH.of λH' hJ=>⟨_,ak l',_,ak (G.get (t.get O' ae) id),?_⟩⟩) (λv' e hh t=>T v' e (by rw[<-j,hh]) ?_)
   .obtain⟨c2,c1,R',_⟩:=wZ hh;rw[hh]at j;dsimp only at j;have G':=F'.on G;have t':Fr (λy=>y=r\/y=B) s q:=(I.trans t bX (λ_ _=> .inl)).on G;have zg:=I.1;have c3:=t.1;have g':aa.at q B m 0 v.p v.b.length v.c none 0 0:=G.get (t.get g2 ae) id;have S':=(ov.frame t (λy i e=>bR (nv y i))).frame G bX;have X:Fr (λy=>y=r) h q:=(Fr.no z t').mono (λx hx e=>ae);have I':Fr No a q:=D'.fresh X (λy e=>ae);have done: ∀g3,Fr No q g3->(m'=m/\o'=false)->H' g3:=by
     intro g3 F Q';rw[ag Q']at j;subst hJ;refine⟨_,_,_,ak (F.get g' id),bJ.ld (F.get l' id) (GR U (I'.tt F) (G'.on F) R' (λh' E' pw V' lw le s' u=>⟨_,_,_,rfl,ak (u.get (F.get g' id) ae),?_⟩) (λh' e pe u=>T h' e (by rw[<-j,pe]) (X.on (F.tt u))))⟩;have T':=(S'.frame F bX).frame u (λy i e=>bR (nv y i));have lv:v.b.length<=1000000:=ae
     refine dH iE.tU iE.uU T' V'.row (by rw[jP,cp]) (rJ E'.b) ae ae ?_;intro p' c' w' C' _ a' K';rw[<-kP]at C';have c4:=G.1;have z3:=F.1;have c5:=u.1;refine⟨_,_,_,rfl,bD (a'.get (u.get (F.get g' id) ae) (λi=>bR (nv _ i))) (by show 2<4;omega) λi' M D A=>⟨rfl,?_,?_⟩⟩
     .have f':Fr (λy=>y=B) w' i':=Fr.of_eq D (λc w=>A c w);have A': ∀y,aN p' y->s.size<=y:=λy i=>by
       rcases K' y i with d'|d'
       .exact nv y d'
       .omega
      have b':=s'.frame a' (λi=>bR (nv _ i)) (λy i e q'=>gG (nv _ q') (L y i e));rw[pw]at j;refine⟨k,B'+n',⟨p',c',v.b++E'.b⟩,⟨ae,j⟩,by rw[au];exact M,by rw[au];exact C'.frame f' (λy i e=>bR (A' y i)),A',b'.frame f' ae (λy i e J=>bR (L y i e)),?_,by rw[au];omega⟩;have a1:Fr (λy=>y=r\/y=B) s h':=(t'.on F).trans u bX (λ_ _=> .inl);have a2:Fr (λy=>y=r\/y=B) s w':=a1.trans a' bX (λx hx i=>bR (nv x i));exact a2.trans f' bX (λ_ _=> .inr)
     .have J':vN i' r=B'+n':=by
       have b':=s'.frame a' (λi=>bR (nv _ i)) (λy i e q'=>gG (nv _ q') (L y i e));exact(b'.frame (Fr.of_eq (S:=λy=>y=B) D (λc w=>A c w)) ae (λy i e J=>bR (L y i e))).vN
      show b.length+1 - vN i' r<b.length+1 - vN g r;rw[J',Hg.vN];omega
    split
    .rename_i r';have em:m'=m:=by have:=eq_of_beq r';omega
     refine⟨_,ak l',iD (λho=>⟨rfl,rfl,done q (Fr.refl _ _) ⟨em,by cases o' with|true=>cases ho|false=>rfl⟩⟩) (λho=>T q 3 (by rw[<-j,af (λe=>by rw[e.2]at ho;cases ho)]) X)⟩
    .rename_i r';exact iD (λe=>absurd e dN) (λ_=>T q 3 (by rw[<-j,af (λe=>r' (by rw[e.1];simp))]) X)
   .exact((Fr.no z I).on t).mono (λx hx e=>ae)
theorem tI:oN Tryz.prog 165 167 4 64 (.agg #[.I 0,.U 0,.Z,.Z]):=⟨dz,dz,rfl⟩
theorem uI:Tryz.prog.underlying 165=some (.slice 167):=dz
theorem ps(x:CV): ∀v∈iR x,gw v=true:=by
 intro v e;simp only[bK,gH,or_false]at e;rcases e with rfl|rfl|rfl|rfl<;>rfl
theorem ir: ∀(t:List Tr),9*t.length<=dK t
 | []=>bL _
 | .mk k n B l::t=>by
  have:=ir t;simp only[dK,room,bf];omega
def I8(V:cM->Bool)(a:aj)(r:Nat)(p:ck)(c:Nat)(b:cM)(L:Nat):Prop:= ∀(h:aj)(pos left:Nat)(R E:fD),Fr No a h->wL h r p c b pos left->
 (∀H (t:Tr) (x:CV) (next g:Nat),ig V b L pos left=.ok (t,next,g)->gX H (λy=>h.size<=y) t x->wL H r p c b next g->Fr (λy=>y=r) h H->R x.agg H)->
 (∀H e,ig V b L pos left=.error e->Fr (λy=>y=r) h H->E (QV e) H)->iQ Tryz.prog 208 #[.pointer (some ⟨r,0,none⟩),.int .i64 (7 - (L:Int))] h R E
structure SO (h4 g:aj) (r b2:Nat) (p:ck) (c:Nat) (b:cM) (pos next left:Nat) (ts:List Tr) (ys:List CV) (q:ck) (cl:Nat):Prop where
 cW:aa.at g b2 4 0 none 0 0 q ys.length cl
 own:fz g q ys.length cl 4 (ys.flatMap iR)
 ge: ∀y,aN q y->h4.size<=y
 tr:dD g (λy=>h4.size<=y/\¬aN q y) ts ys
 room:dK ts<=10*(next - pos)
 le:pos<=next
 rd:wL g r p c b next left
 fr:Fr (λy=>y=r\/y=b2) h4 g
theorem Oz{j g:aj}{B next n:Nat}{S:List Tr}{u:List CV}{q:ck}{cl:Nat}{deep:Int}{Φ:aj->Prop}(IH:I8 V a r p c b n)(u4:Fr No a j)(C':a.size<=r)(r4:r<j.size)(b4:B<j.size)(rb:r≠B)(b0:a.size<=B)(hd:deep=6 - (n:Int))(B':n<=6)(d': ∀y,aN p y->b≠ []->y<j.size/\y≠B)(L:SO j g r B p c b pos next left S u q cl)(hk: ∀U P b' t x' Q M,ig V b n next left=.ok (t,P,b')->SO j U r B p c b pos P b' (S++ [t]) x' Q M->next<P->Φ U)(kE: ∀H e,ig V b n next left=.error e->Fr (λy=>y=r\/y=B) j H->E (QV e) H):
  ∃(I:ck)(G D:Nat),aY g (AA B 3)=some (.L I G D)/\
  Ce 208 #[.P r 0,.I (IntKind.wrap .i64 (deep+1))] g (λv' Z=>
  ∃(e' f':Int)(i':ck)(h' g':Nat)(l':ck)(k' j':Nat),v'=.agg #[.I e',.U f',.L i' h' g',.L l' k' j']/\
  aY Z (AA B 3)=some (.L I G D)/\
  bh Z (.C #[.I e',.U f',.L i' h' g',.L l' k' j'] 167) λp' a'=>
  aY a' (AA B 3)=some (.L I G D)/\
  aW Tryz.prog (Builtin.append_ #[165,165] 165 #[.L I G D,.L (Sa p' 0) 1 1]) a' λw' r'=>
  ∃(o':ck)(n' m':Nat),w'=.L o' n' m'/\
  aT r' (AA B 3) (.L o' n' m') λq'=>Φ q') E:=by
 have zg:=L.fr.1;have A':=L.rd.len;have hp:=L.rd.pos;have z':=L.le;have ll:u.length<=2000000:=by
  have h1:=ir S;have h2:=L.room;have h3:=L.tr.len;omega
 refine⟨_,_,_,ak L.cW,?_⟩;rw[bC (n:=deep+1) ae ae];rw[show deep+1=7 - (n:Int) by omega];refine IH g next left _ E (u4.fresh L.fr (λy e=>ae)) L.rd (λw t x u' t' z tx H7 m=> ?_) (λw e z m=>kE w e z (L.fr.trans m bX (λ_ _=> .inl)));obtain⟨rx,lx,_,_⟩:=GD n _ _ _ _ _ L.rd.pos z;have z7:=m.1;have J:=m.get L.cW ae;refine⟨_,_,_,_,_,_,_,_,rfl,ak J,aa.box λb3 h8 y' s' F=>⟨ak (F.get J id),?_⟩⟩;have z8:=F.1;have o8:=(L.own.frame m (λy i e=>bR (L.ge y i))).frame F bX;have q7: ∀y,aN q y->y<g.size:=λy i=>L.own.dC i
 refine dH tI uI o8 (ds:=iR x) (.inr ⟨_,rfl,aa.held s'⟩) rfl (ps x) ae ae λQ M h9 o9 _ o O=>⟨_,_,_,rfl,?_⟩
 have z9:=o.1;have s: ∀y,aN q y->j.size<=y:=L.ge;have b9:=o.get (F.get J id) (λi=>bR (s _ i));refine bD b9 (by show 3<4;omega) λX d1 d2 d3=> ?_
 have v:Fr (λy=>y=B) h9 X:=Fr.of_eq d2 (λc hc=>d3 c hc);have c': ∀y,aN Q y->j.size<=y:=λy i=>by
  rcases O y i with A|A
  .exact s y A
  .omega
 have ef:u.flatMap iR++iR x=(u++ [x]).flatMap iR:=by rw[cg];simp
 have H9:=(H7.on F).frame o (λi=>bR (s _ i)) (λy i e k=>gG (s _ k) ((d' y i e).1));refine hk X u' t' t (u++ [x]) Q M z ⟨?_,?_,c',?_,?_,ae,H9.frame v ae (λy i e he=>(d' y i e).2 he),?_⟩ lx
 .rw[au];exact d1
 .rw[au,<-ef];exact o9.frame v (λy i e=>bR (c' y i))
 .have t1:=((L.tr.lt.frame m (λy i e=>ae)).frame F bX).frame o (λy i k=>i.1.2 k);have T:=tx.lt.mono (D':=λy=>g.size<=y/\y<w.size) (λ_=>id);have T:=(T.on F).mono (D':=λy=>g.size<=y/\y<w.size) (λ_=>id);have T:=gX.frame o (λy i k=>bR (q7 y k)) T;have m1:=dD.mono (D':=λy=>j.size<=y/\¬aN Q y) (λy i=>⟨i.1.1,λk=>by
   rcases O y k with A|A
   .exact i.1.2 A
   .have:=i.2;omega⟩) t1
  have m2:=gX.mono (D':=λy=>j.size<=y/\¬aN Q y) (λy i=>⟨ae,λk=>by
   rcases O y k with A|A
   .have:=q7 y A;omega
   .omega⟩) T
  exact dD.frame v (λy i e=>ae) (m1.snoc m2)
 .rw[iW];have:=L.room;simp only[dK];omega
 .have a1:=(L.fr.trans m (S'':=λy=>y=r\/y=B) bX (λ_ _=> .inl)).on F;have a2:=a1.trans o (S'':=λy=>y=r\/y=B) bX (λx hx i=>bR (s x i));exact a2.trans v bX (λ_ _=> .inr)
theorem QW{s m n : Nat}{o : Bool}{deep : Int}(IH : I8 V a r p c b s)(j' : Fr No a h)(hr : a.size ≤ r)(F : wL h r p c b pos left)(hd : deep = 6 - (s : Int))(o' : s ≤ 6)(hn : n < 18446744073709551616)(k1 : ∀ H (T : List Tr) (x : CV) (next j : Nat), oy b (ig V b s) pos left n o = .ok (T, next, j) → gX H (λy => h.size ≤ y) (.mk 4 0 [] T) x → wL H r p c b next j → Fr (λy => y = r) h H → R x.agg H)(kE : ∀ H e, oy b (ig V b s) pos left n o = .error e → Fr (λy => y = r) h H → E (QV e) H): iQ Tryz.prog 269 #[.pointer (some ⟨r, 0, none⟩), .agg #[.int .i64 (m : Int), .int .u64 (n : Int), .bool o], .int .i64 deep] h R E := by
  refine xd.walk (bJ.box λI' h1 eb hb f1 => aa.box λZ h2 J' e' P => aa.new λB A K' f' J => ⟨_, cB ((P.tt J).get hb id) rfl, ?_⟩)
  have zr := aC F.cW
  have zb := aC hb
  have Q' := aC e'
  have G' := aC f'
  have z0 := j'.1
  have z1 := f1.1
  have z2 := P.1
  have z4 := J.1
  have O := f1.tt (P.tt J)
  have G := F.on O
  have a' := (P.tt J).get hb id
  have m' := J.get e' id
  have M' := F.len
  have P' := F.pos
  have y' : ∀ y, aN p y → b ≠ [] → y < A.size ∧ y ≠ B := λy z e => by
    have := iZ F.row (by cases b' : b with | nil => exact absurd b' e | cons => simp [bc]) z
    omega
  have i' : ∀ g e, oy b (ig V b s) pos left n o = .error e → Fr (λy => y = r ∨ y = B) A g → E (QV e) g := λg e D fg => kE g e D ((Fr.no O fg).mono (λx D q => by omega))
  have d' : ∀ g next j T v q w, SO A g r B p c b pos next j T v q w → oy b (ig V b s) pos left n o = .ok (T, next, j) →
      aa.LD g ⟨B, 0, none⟩ λt0 t1 B' A' z' E' D' C' => aa.ST g ⟨Z, 0, none⟩ t0 t1 B' A' z' E' D' C' λM => aa.LD M ⟨Z, 0, none⟩ λr0 r1 u' t' s' x' w' v' => R (.agg #[.int .i64 r0, .int .u64 r1, .slice u' t' s', .slice x' w' v']) M := by
    intro g next j T v q w L D
    refine aa.ld L.cW (aa.set (L.fr.get m' (by omega)) λM d1 d2 d3 => aa.ld d1 ?_)
    have S : Fr (λy => y = Z) g M := Fr.of_eq d2 (λc hc => d3 c hc)
    have o7 := L.own.frame S (λy z e => by have := L.ge y z; omega)
    have t7 := dD.frame S (λy z e => by omega) L.tr
    refine k1 M T ⟨4, 0, ⟨none, 0, []⟩, q, v.length, w⟩ next j D ?_ (L.rd.frame S (by omega) (λy z e he => by
      have := iZ F.row (by cases b' : b with | nil => exact absurd b' e | cons => simp [bc]) z; omega)) ?_
    · unfold gX
      exact ⟨⟨rfl, rfl, rfl, ⟨Row.nil, λe => absurd rfl e, Nat.le_refl _⟩⟩, v, ⟨rfl, o7.iy, λ_ y z => by have := L.ge y z; omega, o7.le⟩, dD.mono (λy z => by omega) t7⟩
    · exact ((Fr.no O L.fr).trans S (S'' := λy => y = r) (λx D e => by omega) (λx D e => by omega))
  have L0 : SO A A r B p c b pos pos left [] [] none 0 := ⟨f', .nil rfl rfl rfl rfl, (λy ⟨H', e, _⟩ => by cases e), by unfold dD; trivial, by simp [dK], Nat.le_refl _, G, Fr.refl _ _⟩
  have step := fun {g next j T v q w} {Φ : aj → Prop} (L : SO A g r B p c b pos next j T v q w) hk (hE : ∀ e, ig V b s next j = .error e → oy b (ig V b s) pos left n o = .error e) => Oz (V := V) (Φ := Φ) (E := E) (deep := deep) IH (j'.tt O) hr (by omega) G' (by omega) (by omega) hd o' y' L hk (λg e D fg => i' g e (hE e D) fg)
  cases o with
  | true =>
    rw [if_pos rfl]
    refine ⟨λg => ∃ k next j T v q w, (b.length + 1 ≤ k + next ∧ yw b (ig V b s) k next j T = oy b (ig V b s) pos left n true) ∧ SO A g r B p c b pos next j T v q w, λg => b.length + 1 - vN g r, ⟨_, _, _, _, _, _, _, ⟨by omega, rfl⟩, L0⟩, ?_⟩
    rintro g ⟨k, next, j, T, v, q, w, ⟨L', u⟩, L⟩
    have O' := L.rd.pos
    obtain ⟨k, rfl⟩ : ∃ k', k = k' + 1 := ⟨k - 1, by omega⟩
    refine KH L.rd (λh6 he h' H6 Q => ⟨_, rfl, ?_⟩) (λhe => ⟨_, rfl, ?_⟩)
    all_goals unfold yw at u; simp only [he, if_true, Bool.false_eq_true, if_false] at u
    · rw [if_neg (by decide)]
      have t6 := dD.frame Q (λy z e => by omega) L.tr
      refine d' h6 (next + 1) j T v q w ⟨Q.get L.cW (by omega), L.own.frame Q (λy z e => by have := L.ge y z; omega), L.ge, t6, by have := L.room; have := L.le; omega, by have := L.le; omega, H6, L.fr.trans Q (λ_ _ => id) (λ_ _ => .inl)⟩ u.symm
    · rw [if_pos (by decide)]
      refine step L (λg' r' p' t F' q' l' U I h' => ⟨rfl, ⟨k, _, _, _, _, _, _, ⟨by omega, by rw [U] at u; exact u⟩, I⟩, ?_⟩) (λe U => by rw [← u, U])
      show b.length + 1 - vN g' r < b.length + 1 - vN g r
      rw [I.rd.vN, L.rd.vN]
      have := I.rd.pos
      omega
  | false =>
    rw [if_neg (by decide)]
    refine ⟨_, cB a' rfl, _, _, _, cB G.cW rfl, _, cB G.cW rfl, ?_⟩
    rw [bC (n := ((b.length : Nat) : Int) - (pos : Int)) (by omega) (by omega), wrap_u64 (by omega) (by omega)]
    refine iD (λX => ?_) (λX => i' A 8 (by have := of_decide_eq_false X; unfold oy; dsimp only; rw [if_neg (by omega)]) (Fr.refl _ _))
    have X : pos + n ≤ b.length := by have := of_decide_eq_true X; omega
    refine ⟨rfl, cB G.cW rfl, cB G.cW rfl, cB a' rfl, _, cB a' rfl, ?_⟩
    have e0 : oy b (ig V b s) pos left n false = vC (ig V b s) n pos left [] := by unfold oy; dsimp only; rw [if_pos (by omega)]
    refine ⟨λt g => ∃ i next j T v q w, t = ((i : Nat) : Int) ∧ i ≤ n ∧ vC (ig V b s) (n - i) next j T = oy b (ig V b s) pos left n false ∧ SO A g r B p c b pos next j T v q w, λt _ => n - t.toNat, ⟨0, _, _, _, _, _, _, rfl, Nat.zero_le _, e0.symm, L0⟩, ?_⟩
    rintro _ g ⟨i, next, j, T, v, q, w, rfl, U, u, L⟩
    by_cases n' : i < n
    · rw [if_pos (decide_eq_true (by omega))]
      rw [show n - i = (n - (i + 1)) + 1 by omega] at u
      unfold vC at u
      refine step L (λg' r' p' t F' q' l' c' I h' => ⟨rfl, ?_, ?_⟩) (λe c' => by rw [← u, c'])
      · rw [wrap_u64 (n := (i : Int) + 1) (by omega) (by omega)]
        exact ⟨i + 1, _, _, _, _, _, _, by omega, by omega, by rw [c'] at u; exact u, I⟩
      · rw [wrap_u64 (n := (i : Int) + 1) (by omega) (by omega)]
        show n - Int.toNat ((i : Int) + 1) < n - Int.toNat (i : Int)
        omega
    · rw [if_neg (λe => n' (by have := of_decide_eq_true e; omega))]
      rw [show n - i = 0 by omega] at u
      exact d' g next j T v q w L u.symm
theorem OA(U:lO V a)(hr:a.size<=r): ∀L,L<=6->I8 V a r p c b L:=by
 intro L;induction L with
 |zero=>
  intro _ h pos left R E i' v k1 s;refine pq.walk (aa.box λD h1 eb hb F=>AT (v.on F) (λG m h' next q' o J n=>⟨_,_,_,rfl,bJ.new λb1 k l' j A=>aH.of λb' hJ=> ?_⟩) (λG e o n=>s G e (by unfold ig;rw[o]) ((F.tt n).mono λ_ _=>False.elim)));have z1:=F.1;have zr:=aC v.cW;have u:Fr (λy=>y=r) h k:=(Fr.no F n).on A;have done:(m=0\/m=2\/m=3\/m=4)->b' k:=by
   intro hm;subst hJ;exact iD (λf'=>absurd f' dN) (λ_=>s k 9 (by unfold ig;rw[o];dsimp only;rw[ag hm]) u)
  refine⟨_,ak j,?_⟩;split
  .rename_i q;exact iD (λ_=>⟨rfl,rfl,done (.inl (bR (eq_of_beq q)))⟩) (λe=>absurd e dN)
  rename_i Q;refine⟨_,ak j,?_⟩;split
  .rename_i q;exact iD (λ_=>⟨rfl,rfl,done (.inr (.inl (bR (eq_of_beq q))))⟩) (λe=>absurd e dN)
  rename_i q2;refine⟨_,ak j,?_⟩;split
  .rename_i q;exact iD (λ_=>⟨rfl,rfl,done (.inr (.inr (.inl (bR (eq_of_beq q)))))⟩) (λe=>absurd e dN)
  rename_i q3;refine⟨_,ak j,?_⟩;refine iD (λq=>⟨rfl,rfl,done (.inr (.inr (.inr (bR (eq_of_beq q)))))⟩) (λq=>s k 3 (by unfold ig;rw[o];dsimp only;rw[af];rintro(rfl|rfl|rfl|rfl)<;>first|exact Q rfl|exact q2 rfl|exact q3 rfl|exact absurd q dN) u)
 |succ L IH=>
  intro z' h pos left R E i' v k1 s;have IH:=IH ae;have zr:=aC v.cW;refine pq.walk (aa.box λD h1 eb hb F=>AT (v.on F) (λG m h' next q' o J n=>⟨_,_,_,rfl,bJ.new λb1 k l' j A=>aH.of λb' hJ=> ?_⟩) (λG e o n=>s G e (by unfold ig;rw[o]) ((F.tt n).mono λ_ _=>False.elim)));obtain⟨y',_,hn,_⟩:=wZ o;have i:ig V b (L+1) pos left=ig V b (L+1) pos left:=rfl;conv at i=>rhs;unfold ig;rw[o]
  dsimp only at i;have zb:=aC hb;have A':=aC j;have z1:=F.1;have z2:=n.1;have z4:=A.1;have hp:=v.pos;have o':=J.pos;have x':=J.left;have u:Fr (λy=>y=r) h k:=(Fr.no F n).on A;have U4:Fr No a k:=i'.fresh u (λy e=>ae);have M:=J.on A;have m':=A.get (n.get hb ae) id;have p': ∀y,aN p y->b≠ []->y<h.size:=λy w e=>iZ v.row (by cases n':b with|nil=>exact absurd n' e|cons=>simp[bc]) w
  have g': ∀g (a':Tr) (x:CV) t B,aa.at g D 0 0 none 0 0 none 0 0->gX g (λy=>h1.size<=y) a' x->ig V b (L+1) pos left=.ok (a',t,B)->wL g r p c b t B->Fr (λy=>y=r) h g->
    aa.ST g (AA D 0) x.k (x.n:Int) x.v.p x.v.b.length x.v.c x.q x.ll x.cl λI=>aa.LD I (AA D 0) λr0 r1 t' s' r' w' v' u'=>R (.agg #[.I r0,.U r1,.L t' s' r',.L w' v' u']) I:=by
   intro g a' x t B gb T rx Hg fg;refine aa.set gb λI O d2 d3=>aa.ld O ?_
   have f9:Fr (λy=>y=D) g I:=Fr.of_eq d2 (λc hc=>d3 c hc);exact k1 I a' x t B rx (gX.mono (λy w=>ae) (gX.frame f9 (λy w e=>ae) T)) (Hg.frame f9 ae (λy w e he=>bR (p' y w e))) (fg.trans f9 bX (λx hx e=>ae))
  have done:(m=0\/m=2\/m=3\/m=4)->b' k:=by
   intro hm;rw[ag hm]at i;subst hJ;refine iD (λ_=>⟨rfl,_,ak M.cW,iD (λhl=>⟨rfl,_,ak M.cW,bD M.cW (by show 2<3;omega) λh8 O d2 d3=> ?_⟩) (λhl=>s k 2 (by rw[i,ag (bR (gj hl))]) u)⟩) (λf'=>absurd (gj f') ae);have hl:=aS hl;rw[dB]at i;rw[bC (n:=(left:Int) - 1) ae ae,show(left:Int) - 1=((left - 1:Nat):Int) by omega]at O;obtain⟨H8,X⟩:=M.set (pos':=next) (left':=left - 1) o' ae O d2 d3;have Z:=X.get j ae;have e':=X.get m' ae;have z:Fr (λy=>y=r) h h8:=u.tt X;have U8:Fr No a h8:=i'.fresh z (λy e=>ae);have z8:=X.1;refine⟨_,ak Z,?_⟩;split
   .rename_i q;rw[ag (bR (eq_of_beq q))]at i;refine⟨_,ak Z,?_⟩;refine g' h8 (.mk 0 h' [] []) ⟨0,h',⟨none,0, []⟩,none,0,0⟩ next (left - 1) e' ?_ i H8 z;unfold gX;exact⟨⟨rfl,rfl,rfl,⟨Row.nil,λe=>absurd rfl e,bm _⟩⟩, [],⟨rfl,Row.nil,λe=>absurd rfl e,bm _⟩,by unfold dD;trivial⟩
   .rename_i Q;rw[af (λe=>Q (by rw[e];rfl))]at i;split
    .rename_i q;have m4:m=4:=by have:=eq_of_beq q;omega
     rw[ag m4]at i;refine bJ.ld Z (QW IH U8 hr H8 ae ae hn (λc' ts x t B hL T j' P=>⟨_,_,_,_,_,_,_,_,rfl,?_⟩) (λc' e hL P=>s c' e (by rw[i,hL]) (z.tt P)));exact g' c' (.mk 4 0 [] ts) x t B (P.get e' ae) (gX.mono (λy w=>ae) T) (by rw[i,hL]) j' (z.tt P)
    .rename_i q;rw[af (λe=>q (by rw[e];rfl))]at i;refine bJ.ld Z (LW U U8 hr H8 hn (λd' x sb t hS T k' S=>⟨_,_,_,_,_,_,_,_,rfl,?_⟩) (λd' e hS S=>s d' e (by rw[i,hS]) (z.tt S)));exact g' d' (.mk m 0 sb []) x t (left - 1) (S.get e' ae) (gX.mono (λy w=>ae) T) (by rw[i,hS]) k' (z.tt S)
  refine⟨_,ak j,?_⟩;split
  .rename_i q;exact iD (λ_=>⟨rfl,rfl,done (.inl (bR (eq_of_beq q)))⟩) (λe=>absurd e dN)
  rename_i Q;refine⟨_,ak j,?_⟩;split
  .rename_i q;exact iD (λ_=>⟨rfl,rfl,done (.inr (.inl (bR (eq_of_beq q))))⟩) (λe=>absurd e dN)
  rename_i q2;refine⟨_,ak j,?_⟩;split
  .rename_i q;exact iD (λ_=>⟨rfl,rfl,done (.inr (.inr (.inl (bR (eq_of_beq q)))))⟩) (λe=>absurd e dN)
  rename_i q3;refine⟨_,ak j,?_⟩;refine iD (λq=>⟨rfl,rfl,done (.inr (.inr (.inr (bR (eq_of_beq q)))))⟩) (λq=>s k 3 (by rw[i,af];rintro(rfl|rfl|rfl|rfl)<;>first|exact Q rfl|exact q2 rfl|exact q3 rfl|exact absurd q dN) u)
theorem LX(e: ∀H,Fr No h H->K none H):rB Tryz.prog 207 #[.P f 0,.P C 0,.P d 0] none h K:=by
 refine rW.ret.walk (cK (yo dN (e _ (Fr.push _ _))))
theorem LY{e M G:Int}{Q U:ck}{P O T S:Nat}{Z L:Int}(a:aa.at h f M G Q P O U T S)(t:h[C]? =some (.C #[.I Z] 3 (0,0)))(u:h[d]? =some (.C #[.I L] 32 (0,0)))(a':f≠C)(b':f≠d)(c':C≠d)(X: ∀H,aa.at H f 0 0 none 0 0 none 0 0->H[C]? =some (.C #[.I 0] 3 (0,0))->H[d]? =some (.C #[.I e] 32 (0,0))->Fr (λy=>y=f\/y=C\/y=d) h H->K none H):
  rB Tryz.prog 207 #[.P f 0,.P C 0,.P d 0] (some (QV e)) h K:=by
 refine rW.Wu.walk (cK (yo dN ?_));have i:Fr No h (h.push (.C (#[Value.I 0].setIfInBounds 0 (.I e)) 307 (0,0))):=Fr.push _ _;have m:(h.push (.C (#[Value.I 0].setIfInBounds 0 (.I e)) 307 (0,0)))[h.size]? =some (.C #[.I e] 307 (0,0)):=bZ;have z0:=aC a;have z1:=aC t;have z2:=aC u;generalize h.push (.C (#[Value.I 0].setIfInBounds 0 (.I e)) 307 (0,0))=g at i m⊢;refine⟨_,ak m,aa.set (i.get a id) λG D I J=> ?_⟩;have F:Fr (λy=>y=f) g G:=Fr.of_eq I (λc j=>J c j);refine⟨ak (F.get m ae),bD (F.get (i.get t id) ae) (by show 0<1;omega) λo A v w=> ?_⟩;have k:Fr (λy=>y=C) G o:=Fr.of_eq v (λc j=>w c j);refine⟨ak (k.get (F.get m ae) ae),bD (k.get (F.get (i.get u id) ae) ae) (by show 0<1;omega) λs B x z=> ?_⟩;have n:Fr (λy=>y=d) o s:=Fr.of_eq x (λc j=>z c j);exact X s (n.get (k.get D ae) ae) (n.get A ae) B (((Fr.no i F).trans k (S'':=λy=>y=f\/y=C) (λ_ _=> .inl) (λ_ _=> .inr)).trans n (λd' _ q=>q.imp id .inl) (λ_ _ q=> .inr (.inr q)))
theorem vO(U:lO V h)(h':Row h p (bc b))(hl:l=b.length)(cap:b.length<=c)(l':b.length<=1000000)(k1: ∀H (t:Tr) (x:CV) (next:Nat),mK V b=.ok (t,next)->gX H (λy=>h.size<=y) t x->Fr No h H->R (.T #[x.agg,.I (next:Int),.I 0]) H)(k2: ∀H e,mK V b=.error e->Fr No h H->R (.T #[CV.agg ⟨0,0,⟨none,0, []⟩,none,0,0⟩,.I 0,.I e]) H):
  Cl 144 #[.L p l c,.I 0] h R:=by
 subst hl;refine iQ.Wn (LS.walk (aa.box λX j eb hb f1=>cK (cK ?_)));have zb:=aC hb;have z1:=f1.1;have M:Fr No j (j.push (.C #[.I 0] 3)):=Fr.push _ _;have A:(j.push (.C #[.I 0] 3))[j.size]? =some (.C #[.I 0] 3 (0,0)):=bZ;generalize j.push (.C #[.I 0] 3)=k at M A⊢;have v:Fr No k (k.push (.C #[.I 0] 32)):=Fr.push _ _;have u:(k.push (.C #[.I 0] 32))[k.size]? =some (.C #[.I 0] 32 (0,0)):=bZ;have z2:=aC A;generalize k.push (.C #[.I 0] 32)=m at v u⊢;have z3:=aC u;obtain⟨I,a'⟩: ∃I,I=j.size:=⟨_,rfl⟩;obtain⟨J,b'⟩: ∃J,J=k.size:=⟨_,rfl⟩;rw[<-a']at A;rw[<-b']at u;rw[<-a',<-b'];refine aH.of λn' hJ=> ?_
 rw[dB,aB ae];refine⟨rfl,?_⟩;subst hJ;dsimp only;rw[dB];refine cK ?_;have o:Fr No m (m.push (.C #[.L p b.length c,.I 0,.I 256] 311)):=Fr.push _ _;have D:(m.push (.C #[.L p b.length c,.I 0,.I 256] 311))[m.size]? =some (.C #[.L p b.length c,.I 0,.I 256] 311 (0,0)):=bZ;generalize m.push (.C #[.L p b.length c,.I 0,.I 256] 311)=h4 at o D⊢;obtain⟨L,c'⟩: ∃L,L=m.size:=⟨_,rfl⟩;rw[<-c']at D;rw[<-c'];have F3:=M.tt v;have P:=F3.tt o;have s:=f1.tt P;have p':=M.1;have q':=v.1;have g': ∀y,aN p y->b≠ []->y<h.size:=λy g e=>iZ h' (by cases k':b with|nil=>exact absurd k' e|cons=>simp[bc]) g
 have H4:wL h4 L p c b 0 256:=⟨D,h'.frame s bX,cap,bL _,λe g=>bR (g' _ g e),l',ae⟩;have f':=P.get hb id;have S:=(v.tt o).get A id;have T:=o.get u id;refine OA U ae 6 (bm _) h4 0 256 _ _ s H4 (λh9 t x next o' O tx H9 F=> ?_) (λh9 e O F=> ?_)
 .refine⟨_,_,_,_,_,_,_,_,rfl,aa.set (F.get f' ae) λB Z d2 d3=>aa.ld Z ?_⟩;have G:Fr (λy=>y=X) h9 B:=Fr.of_eq d2 (λc i=>d3 c i);have Q:=H9.frame G ae (λy g e he=>bR (g' y g e));refine⟨_,ak Q.cW,aa.set Z λd' e1 e2 e3=> ?_⟩;have q:Fr (λy=>y=X) B d':=Fr.of_eq e2 (λc i=>e3 c i);refine⟨ak (q.get Q.cW ae),bD (q.get (G.get (F.get S ae) ae) ae) (by show 0<1;omega) λe' C d c3=> ?_⟩;have w:Fr (λy=>y=I) d' e':=Fr.of_eq d (λc i=>c3 c i);refine bD (w.get (q.get (G.get (F.get T ae) ae) ae) ae) (by show 0<1;omega) λi' m1 m2 m3=> ?_
  have z:Fr (λy=>y=J) e' i':=Fr.of_eq m2 (λc i=>m3 c i);refine LX λj' n=>aa.ld (n.get (z.get (w.get e1 ae) ae) id) ⟨_,ak (n.get (z.get C ae) id),_,ak (n.get m1 id),?_⟩
  have z4:=o.1;have m':=gX.frame n bX (gX.frame z (λy g e=>ae) (gX.frame w (λy g e=>ae) (gX.frame q (λy g e=>ae) (gX.frame G (λy g e=>ae) tx))));refine k1 j' t x next (by unfold mK;rw[O]) (gX.mono (λy g=>ae) m') ?_;exact((((((s.fresh F (λy e=>ae)).fresh G (λy e=>ae)).fresh q (λy e=>ae)).fresh w (λy e=>ae)).fresh z (λy e=>ae)).tt n)
 .refine LY (F.get f' ae) (F.get S ae) (F.get T ae) ae ae ae λB q1 q2 q3 G=>aa.ld q1 ⟨_,ak q2,_,ak q3,?_⟩
  exact k2 B e (by unfold mK;rw[O]) ((s.fresh F (λy e=>ae)).fresh G (λy e=>ae))

end Cb
end
section
variable {h:aj} {R:fD}
variable {i c f:ck} {g B b a e d:Nat} {x X:Int}
theorem OB.walk{n:Int}(l:bh h (.C #[.I 0,.U 0,.Z,.Z] 167) λj k=>aa.ST k (AA j 0) 0 n none 0 0 none 0 0 λH=>aa.LD H (AA j 0) λr m q p o u t s=>R (.agg #[.I r,.U m,.L q p o,.L u t s]) H):Cl 109 #[.U n] h R:=aP (lq ll) Tryz.func109 l
theorem I9.walk(m:bh h (.C #[.I 0,.U 0,.Z,.Z] 167) λj k=>Cl 27 #[.L i g B] k λv l=>Vl v λy w T=>aa.ST l (AA j 0) 2 0 y w T none 0 0 λH=>aa.LD H (AA j 0) λr n q p o u t s=>R (.agg #[.I r,.U n,.L q p o,.L u t s]) H):Cl 114 #[.L i g B] h R:=aP (lq ll) Tryz.func114 m
theorem LZ.walk{s:ByteArray}(m:bh h (.C #[.I 0,.U 0,.Z,.Z] 167) λj k=>aW Tryz.prog (convert 9 26 (.S s)) k λv l=>Vl v λz y T=>aa.ST l (AA j 0) 3 0 z y T none 0 0 λH=>aa.LD H (AA j 0) λr n q p o w u t=>R (.agg #[.I r,.U n,.L q p o,.L w u t]) H):Cl 169 #[.S s] h R:=aP (lq ll) Tryz.func169 m
theorem GS.walk(hv:bh h (.C #[.I x,.U X,.L c b a,.L f e d] 167) λj Z=>bh Z (.C #[.I 0,.U 0,.Z,.Z] 167) λo u=>Hl u j 2 λO' M' L'=>Cl 27 #[.L O' M' L'] u λP' b'=> ∃S Q P,P'=.L S Q P/\aT b' (AA j 2) (.L S Q P) λv=> ∃y T m',Cc v j 3 (.L y T m')/\aT v (AA j 3) (.Z) λc'=> ∃(I:Int->aj->Prop)(M:Int->aj->Nat),I 0 c'/\∀(t:Int)(H:aj),I t H->if(decide (t<((T:Nat):Int)))then Bd t T/\aM y λU=>aa.LD H (U.add (toNat t*4)) λn' o' r' q' p' u' t' s'=>bh H (.C #[.I 0,.U 0,.Z,.Z] 167) λp d'=>aa.ST d' (AA p 0) n' o' r' q' p' u' t' s' λk=>Hl k j 3 λn m l=>aa.LD k (AA p 0) λv' w' z' y' x' C' B' A'=>Cl 245 #[.agg #[.I v',.U w',.L z' y' x',.L C' B' A']] k λQ' w=> ∃z A E D C J G F,Q'=.agg #[.I z,.U A,.L E D C,.L J G F]/\Cc w j 3 (.L n m l)/\bh w (.C #[.I z,.U A,.L E D C,.L J G F] 167) λV q=>Cc q j 3 (.L n m l)/\aW Tryz.prog (Builtin.append_ #[165,165] 165 #[.L n m l,.L (Sa V 0) 1 1]) q λR' a'=> ∃O L K,R'=.L O L K/\aT a' (AA j 3) (.L O L K) λr=>(I (wrap .i64 (t+1)) r/\M (wrap .i64 (t+1)) r<M t H)else aa.LD H (AA j 0) λD' E' H' G' F' K' J' I'=>aa.ST H (AA o 0) D' E' H' G' F' K' J' I' λs=>aa.LD s (AA o 0) λe' f' i' h' g' l' k' j'=>R (.agg #[.I e',.U f',.L i' h' g',.L l' k' j']) s):Cl 245 #[.agg #[.I x,.U X,.L c b a,.L f e d]] h R:=aP (lq (lq (lq (lq (sq (lq (bq (.loop [(15,.one (.int .i64))] (lq (sq (cq lf lf) (sq (bq (lq (pN 8))) lf)))))) ll))))) Tryz.func245 hv
theorem L3.walk{L:ck}{l a':Nat}(Z:bh h (.C #[.I 0,.U 0,.Z,.Z] 167) λo P=>bh P (.C #[.I 0,.U 0,.Z,.Z] 167) λj Q=>aa.ST Q (AA j 0) 4 0 none 0 0 none 0 0 λS=> ∃(I:Int->aj->Prop)(M:Int->aj->Nat),I 0 S/\∀(t:Int)(H:aj),I t H->if(decide (t<(l:Int)))then Bd t l/\aM L λK=>aa.LD H (K.add (toNat t*4)) λj' k' n' m' l' q' p' o'=>bh H (.C #[.I 0,.U 0,.Z,.Z] 167) λp U=>aa.ST U (AA p 0) j' k' n' m' l' q' p' o' λk=>Hl k j 3 λn m T=>aa.LD k (AA p 0) λr' s' v' u' t' y' x' w'=>Cl 245 #[.agg #[.I r',.U s',.L v' u' t',.L y' x' w']] k λH' s=> ∃v w A z y E D C,H'=.agg #[.I v,.U w,.L A z y,.L E D C]/\Cc s j 3 (.L n m T)/\bh s (.C #[.I v,.U w,.L A z y,.L E D C] 167) λO u=>Cc u j 3 (.L n m T)/\aW Tryz.prog (Builtin.append_ #[165,165] 165 #[.L n m T,.L (Sa O 0) 1 1]) u λI' V=> ∃J G F,I'=.L J G F/\aT V (AA j 3) (.L J G F) λq=>(I (wrap .i64 (t+1)) q/\M (wrap .i64 (t+1)) q<M t H)else aa.LD H (AA j 0) λz' A' D' C' B' G' F' E'=>aa.ST H (AA o 0) z' A' D' C' B' G' F' E' λr=>aa.LD r (AA o 0) λb' c' f' e' d' i' h' g'=>R (.agg #[.I b',.U c',.L f' e' d',.L i' h' g']) r):Cl 168 #[.L L l a'] h R:=aP (lq (lq (sq (lq (bq (.loop [(9,.one (.int .i64))] (lq (sq (cq lf lf) (sq (bq (lq (pN 8))) lf)))))) ll))) Tryz.func168 Z
theorem yz.walk{k:ck}{j A:Nat}(H: ∃(t:ByteArray),re Tryz.prog 26 9 (.L k j A) h t/\∃(T:ByteArray),re Tryz.prog 26 9 (.L i g B) h T/\R (.B (t.toList==T.toList)) h):Cl 69 #[.L k j A,.L i g B] h R:=aP (lq ll) Tryz.func69 H
theorem L4.walk{A:Int}{m:Int}{p:ck}{o n:Nat}{s:ck}{r q:Nat}{t:Int}{j:Int}{w:ck}{v u:Nat}{C:ck}{z y:Nat}(J:bh h (.C #[.I A,.U m,.L p o n,.L s r q] 167) λk G=>bh G (.C #[.I t,.U j,.L w v u,.L C z y] 167) λj H=>Hi H k 0 λt6=> ∃F,Cc H j 0 (.I F)/\if(t6==F)then Hu H k 1 λK=> ∃T,Cc H j 1 (.U T)/\if(K==T)then Hl H k 2 λO M L=>Hl H j 2 λS Q P=>Cl 69 #[.L O M L,.L S Q P] H λd' l=> ∃D,d'=.B D/\if D then Hl l k 3 λZ V U=>Hl l j 3 λc' b' a'=>Cl 273 #[.L Z V U,.L c' b' a',.func (.func 212) #[] #[]] l λe' I=> ∃E,e'=.B E/\R (.B E) I else R (.B false) l else R (.B false) H else R (.B false) H):Cl 212 #[.agg #[.I A,.U m,.L p o n,.L s r q],.agg #[.I t,.U j,.L w v u,.L C z y]] h R:=aP (lq ll) Tryz.func212 J
theorem gV.same.walk{o:ck}{s w:Nat}{p:ck}{S y:Nat}(v:if((s:Int) !=(S:Int))then R (.B false) h else∃(I:Int->aj->Prop)(M:Int->aj->Nat),I 0 h/\∀(t:Int)(H:aj),I t H->if(decide (t<(s:Int)))then Bd t s/\aM o λA=>aa.LD H (A.add (toNat t*4)) λz C F E D K J G=>bh H (.C #[.I 0,.U 0,.Z,.Z] 167) λl r=>aa.ST r (AA l 0) z C F E D K J G λn=>Bd t S/\aM p λq=>aa.LD n (q.add (toNat t*4)) λL O U Q P a' Z V=>bh n (.C #[.I 0,.U 0,.Z,.Z] 167) λm u=>aa.ST u (AA m 0) L O U Q P a' Z V λj=>aa.LD j (AA l 0) λb' c' f' e' d' i' h' g'=>aa.LD j (AA m 0) λj' k' n' m' l' q' p' o'=>Cl 212 #[.agg #[.I b',.U c',.L f' e' d',.L i' h' g'],.agg #[.I j',.U k',.L n' m' l',.L q' p' o']] j λr' k=> ∃T,r'=.B T/\if(!T)then R (.B false) k else(I (wrap .i64 (t+1)) k/\M (wrap .i64 (t+1)) k<M t H)else R (.B true) H):Cl 273 #[.L o s w,.L p S y,.func (.func 212) #[] #[]] h R:=aP (lq (sq (lq (cq ll lf)) (sq (lq (bq (.loop [(17,.one (.int .i64))] (lq (sq (cq lf lf) (sq (bq (lq (lq (lq (cq ll lf))))) lf)))))) ll))) Tryz.func273 v
theorem OC.walk(u:bh h (.C #[.I x,.U X,.L c b a,.L f e d] 167) λj H=> ∃t,Cc H j 0 (.I t)/\if(t==0)then∃L r K,Cc H j 2 (.L L r K)/\if(((r:Nat):Int)==0)then∃y T w,Cc H j 3 (.L y T w)/\R (.B (((T:Nat):Int)==0)) H else R (.B false) H else if(t==2)then∃k,Cc H j 1 (.U k)/\if(k==0)then∃A l z,Cc H j 3 (.L A l z)/\R (.B (((l:Nat):Int)==0)) H else R (.B false) H else if(t==3)then∃m,Cc H j 1 (.U m)/\if(m==0)then∃D n C,Cc H j 3 (.L D n C)/\if(((n:Nat):Int)==0)then Hl H j 2 λG F E=>Cl 291 #[.L G F E] H λv s=> ∃o,v=.B o/\R (.B o) s else R (.B false) H else R (.B false) H else if(t==4)then∃p,Cc H j 1 (.U p)/\if(p==0)then∃J q I,Cc H j 2 (.L J q I)/\R (.B (((q:Nat):Int)==0)) H else R (.B false) H else R (.B false) H):Cl 251 #[.agg #[.I x,.U X,.L c b a,.L f e d]] h R:=aP (lq (sq (lq (bq (lq (cq ll (lq (cq ll (lq (cq ll (lq (cq ll lf)))))))))) ll)) Tryz.func251 u
theorem L8.walk{D:Int}{left:Int}(v:bh h (.C #[.I x,.U X,.L c b a,.L f e d] 167) λn j=>aH (λ(L:Bool) (k:aj)=>if L then R (.I (-1)) k else Hl k n 3 λO r _=> ∃(I:Int->Int->aj->Prop)(M:Int->Int->aj->Nat),I (wrap .i64 (left - 1)) 0 k/\∀(l:Int)(t:Int)(H:aj),I l t H->if(decide (t<(r:Int)))then Bd t r/\aM O λA=>aa.LD H (A.add (toNat t*4)) λP Q V U S b' a' Z=>bh H (.C #[.I 0,.U 0,.Z,.Z] 167) λo s=>aa.ST s (AA o 0) P Q V U S b' a' Z λp=>aa.LD p (AA o 0) λc' d' g' f' e' j' i' h'=>Cl 174 #[.agg #[.I c',.U d',.L g' f' e',.L j' i' h'],.I (wrap .i64 (D+1)),.I l] p λk' m=> ∃T,k'=.I T/\if(decide (T<0))then R (.I (-1)) m else(I T (wrap .i64 (t+1)) m/\M T (wrap .i64 (t+1)) m<M l t H)else R (.I l) H) (λJ=>if(decide (D>6))then J true j else if(decide (left<1))then J true j else aa.LD j (AA n 0) λw y E C z K G F=>Cl 251 #[.agg #[.I w,.U y,.L E C z,.L K G F]] j λl' u=> ∃q,l'=.B q/\J (!q) u)):Cl 174 #[.agg #[.I x,.U X,.L c b a,.L f e d],.I D,.I left] h R:=aP (lq (sq (sq (.join [(19,.one (.bool))] lf) (cq ll lf)) (lq (sq (lq (bq (.loop [(2,.one (.int .i64)),(25,.one (.int .i64))] (lq (sq (cq lf lf) (sq (bq (lq (lq (lq (cq ll lf))))) lf)))))) ll)))) Tryz.func174 v
theorem Ja.walk(l:bh h (.C #[.I x,.U X,.L c b a,.L f e d] 167) λj H=>aa.LD H (AA j 0) λT m p o n s r q=>Cl 174 #[.agg #[.I T,.U m,.L p o n,.L s r q],.I 1,.I 256] H λv k=> ∃t,v=.I t/\R (.B (decide (t≥0))) k):Cl 111 #[.agg #[.I x,.U X,.L c b a,.L f e d]] h R:=aP (lq ll) Tryz.func111 l
theorem OD.walk{F:ck}{E D:Nat} (hv:bh h (.C #[.I x,.U X,.L c b a,.L f e d] 167) λj l=>Hu l j 1 λi'=>Hi l j 0 λT=>aH (λ(f':Int) (v:aj)=>Hi v j 0 λo'=>Cl 175 #[.agg #[.I o',.U f',.B false]] v λO' w=> ∃Q P L p',O'=.T #[.L Q P L,.I p']/\Hl w j 2 λV U S=>aW Tryz.prog (Builtin.append_ #[26,26] 26 #[.L F E D,.L Q P L]) w λP' y=>Vl P' λs' r' q'=>Cc y j 2 (.L V U S)/\aW Tryz.prog (Builtin.append_ #[26,26] 26 #[.L s' r' q',.L V U S]) y λQ' z=>Vl Q' λv' u' t'=>Hl z j 3 λw' Z _=> ∃(I:ck->Nat->Nat->Int->aj->Prop)(M:ck->Nat->Nat->Int->aj->Nat),I v' u' t' 0 z/\∀(m:ck)(O o:Nat)(t:Int)(k:aj),I m O o t k->if(decide (t<(Z:Int)))then Bd t Z/\aM w' λb'=>aa.LD k (b'.add (toNat t*4)) λx' y' B' A' z' E' D' C'=>bh k (.C #[.I 0,.U 0,.Z,.Z] 167) λu e'=>aa.ST e' (AA u 0) x' y' B' A' z' E' D' C' λA=>aa.LD A (AA u 0) λF' G' J' I' H' M' L' K'=>Cl 112 #[.L m O o,.agg #[.I F',.U G',.L J' I' H',.L M' L' K']] A λR' C=> ∃q p n,R'=.L q p n/\(I q p n (wrap .i64 (t+1)) C/\M q p n (wrap .i64 (t+1)) C<M m O o t k)else R (.L m O o) k) (λa'=>aH (λ(j':Bool) (H:aj)=>aH (λ(g':Int) (c':aj)=>a' g' c') (λr=>if j' then∃l' G k',Cc H j 2 (.L l' G k')/\r (wrap .u64 ((G:Nat):Int)) H else aH (λ(h':Int) (d':aj)=>r h' d') (λs=>if(T==4)then∃n' K m',Cc H j 3 (.L n' K m')/\s (wrap .u64 ((K:Nat):Int)) H else s i' H))) (λJ=>if(T==2)then J (T==2) l else J (T==3) l))):Cl 112 #[.L F E D,.agg #[.I x,.U X,.L c b a,.L f e d]] h R:=aP (lq (lq (sq (lq (.join [(5,.one (.int .u64))] (bq (sq (lq (.join [(14,.one (.bool))] (cq lf lf))) (.join [(5,.one (.int .u64))] (cq lf (lq (.join [(5,.one (.int .u64))] (cq lf lf))))))))) (lq (sq (.lK (.op 0 (.op 1 (.op 3 (.op 4 (.op 2 (.op 5 (.op 6 .done)))))))) (sq (lq (bq (.loop [(0,.one (.slice)),(44,.one (.int .i64))] (lq (sq (cq lf lf) (sq (bq ll) lf)))))) ll)))))) Tryz.func112 hv
theorem Jb.walk(o:bh h (.C #[.I x,.U X,.L c b a,.L f e d] 167) λj k=>aa.LD k (AA j 0) λp q u s r z y w=>Cl 111 #[.agg #[.I p,.U q,.L u s r,.L z y w]] k λv H=> ∃t,v=.B t/\if(!t)then R (.T #[.Z,.I 3]) H else aa.LD H (AA j 0) λA C F E D J I G=>Cl 112 #[.Z,.agg #[.I A,.U C,.L F E D,.L J I G]] H λV n=> ∃m l T,V=.L m l T/\R (.T #[.L m l T,.I 0]) n):Cl 77 #[.agg #[.I x,.U X,.L c b a,.L f e d]] h R:=aP (lq (sq (lq (cq ll lf)) ll)) Tryz.func77 o

end
section
namespace Cb
variable {h H:aj} {R:fD} {p:ck} {l c:Nat} {bs:cM}
variable {D:Nat->Prop} {t:Tr} {x:CV} {g0:aj} {bb C:Nat} {k n:Int} {v:BV} {ts:List Tr} {ys:List CV} {q:ck}
def tY(h:aj)(D:Nat->Prop)(t:Tr)(x:CV):Prop:=(x.k=t.k/\x.n=t.n/\x.v.b=t.b/\x.v.ok h D)/\∃ys:List CV,x.ll=ys.length/\fz h x.q ys.length x.cl 4 (ys.flatMap iR)/\(∀y,aN x.q y->D y)/\dD h (λy=>D y/\¬aN x.q y) t.l ys
theorem tY.TH(e:tY h D t x):gX h D t x:=by
 obtain⟨f,ys,a,d,g,i⟩:=e;cases t with
 |mk k n b l=>
  unfold gX;exact⟨f,ys,⟨a,d.iy,λ_=>g,by rw[a];exact d.le⟩,dD.mono (λ_ j=>j.1) i⟩
structure R5 (g0 g:aj) (bb:Nat) (k n:Int) (v:BV) (ts:List Tr) (ys:List CV) (q:ck) (C:Nat):Prop where
 cW:aa.at g bb k n v.p v.b.length v.c q ys.length C
 own:fz g q ys.length C 4 (ys.flatMap iR)
 ge: ∀y,aN q y->g0.size<=y
 tr:dD g (λy=>g0.size<=y/\¬aN q y) ts ys
 fr:Fr (λy=>y=bb) g0 g
theorem GU{g:aj}{y:CV}{Φ:aj->Prop}(L:R5 g0 g bb k n v ts ys q C)(E':bb<g0.size)(ll:ys.length<=100000000)(IH: ∀(G:aj)(R:fD),Fr No g G->(∀H z,tY H (λc=>G.size<=c) t z->Fr No G H->R z.agg H)->Cl 245 #[y.agg] G R)(hk: ∀I g' Q s,R5 g0 I bb k n v (ts++ [t]) g' Q s->g'.length=ys.length+1->Φ I):
  bh g (.C #[.I 0,.U 0,.Z,.Z] 167) λE n'=>
  aa.ST n' (AA E 0) y.k (y.n:Int) y.v.p y.v.b.length y.v.c y.q y.ll y.cl λA=>
  ∃(r:ck)(o T:Nat),aY A (AA bb 3)=some (.L r o T)/\
  aa.LD A (AA E 0) λs' t' w' v' u' z' y' x'=>
  Cl 245 #[.agg #[.I s',.U t',.L w' v' u',.L z' y' x']] A λA' M=>
  ∃(S U:Int)(Z:ck)(X V:Nat)(c':ck)(b' a':Nat),A'=.agg #[.I S,.U U,.L Z X V,.L c' b' a']/\
  aY M (AA bb 3)=some (.L r o T)/\
  bh M (.C #[.I S,.U U,.L Z X V,.L c' b' a'] 167) λi' K=>
  aY K (AA bb 3)=some (.L r o T)/\
  aW Tryz.prog (Builtin.append_ #[165,165] 165 #[.L r o T,.L (Sa i' 0) 1 1]) K λB' l'=>
  ∃(f':ck)(e' d':Nat),B'=.L f' e' d'/\
  aT l' (AA bb 3) (.L f' e' d') λm'=>Φ m':=by
 have zg:=L.fr.1;refine aa.new λb2 h8 C' o' f=>⟨_,_,_,ak (f.get L.cW id),aa.ld o' (IH h8 _ f λh9 z tz m=>⟨_,_,_,_,_,_,_,_,rfl,ak ((f.tt m).get L.cW id),aa.box λb3 j' D' p' j=>⟨ak (((f.tt m).tt j).get L.cW id),?_⟩⟩)⟩
 have i:=(f.tt m).tt j;have z8:=f.1;have z9:=m.1;have F':=j.1;have q':=L.own.frame i bX;have P: ∀y,aN q y->y<g.size:=λy b=>L.own.dC b
 refine dH tI uI q' (ds:=iR z) (.inr ⟨_,rfl,aa.held p'⟩) rfl (ps z) ae ae λQ s k' r' _ F w=>⟨_,_,_,rfl,?_⟩
 have G':=F.1;have h':=F.get (i.get L.cW id) (λb=>bR (L.ge _ b));refine bD h' (by show 3<4;omega) λJ d1 d2 d3=> ?_
 have u:Fr (λy=>y=bb) k' J:=Fr.of_eq d2 (λc hc=>d3 c hc);have O: ∀y,aN Q y->g0.size<=y:=λy b=>by
  rcases w y b with a|a
  .exact L.ge y a
  .omega
 have ef:ys.flatMap iR++iR z=(ys++ [z]).flatMap iR:=by rw[cg];simp
 refine hk J (ys++ [z]) Q s ⟨?_,?_,O,?_,?_⟩ bV
 .rw[au];exact d1
 .rw[au,<-ef];exact r'.frame u (λy b e=>bR (O y b))
 .have t1:=(dD.on L.tr.lt i).frame F (λy b d=>b.1.2 d);have B:=gX.mono (D':=λy=>g.size<=y/\y<j'.size) (λy b=>ae) (tz.TH.lt.on j);have B:=gX.frame F (λy b d=>bR (P y d)) B;have m1:=dD.mono (D':=λy=>g0.size<=y/\¬aN Q y) (λy b=>⟨b.1.1,λd=>by
   rcases w y d with a|a
   .exact b.1.2 a
   .have:=b.2;omega⟩) t1
  have m2:=gX.mono (D':=λy=>g0.size<=y/\¬aN Q y) (λy b=>⟨ae,λd=>by
   rcases w y d with a|a
   .have:=P y a;omega
   .omega⟩) B
  exact dD.frame u (λy b e=>ae) (m1.snoc m2)
 .exact((L.fr.on i).trans F (S'':=λy=>y=bb) bX (λx hx b=>bR (L.ge x b))).trans u bX bX
theorem fM{n:Nat}(e: iq h R (CV.agg ⟨0,n,⟨none,0, []⟩,none,0,0⟩)):Cl 109 #[.U (n:Int)] h R:=
 OB.walk (aa.new λ_ a _ d f=>aa.ld d (e a f))
theorem SP{n:Nat}:tY h D (num n) ⟨0,n,⟨none,0, []⟩,none,0,0⟩:=
 ⟨⟨rfl,rfl,rfl,⟨Row.nil,λe=>absurd rfl e,bm _⟩⟩, [],rfl,.nil rfl rfl rfl rfl,(λy ⟨a,e,_⟩=>by cases e),by show dD h _ [] [];unfold dD;trivial⟩
theorem iM(B:Row h p (bc bs))(A:l=bs.length)(I:bs.length<=1000000)(z: ∀H (v:BV),v.b=bs->v.ok H (λy=>h.size<=y)->Fr No h H->R (CV.agg ⟨2,0,v,none,0,0⟩) H):Cl 114 #[.L p l c] h R:=by
 refine I9.walk (aa.box λb G E j f=>iE.gP (B.frame f bX) A ae λP m u O F g=>⟨_,_,_,rfl,aa.set (F.get j id) λi o r s=>aa.ld o ?_⟩);have Z:=f.1;have d:Fr (λy=>y=b) u i:=Fr.of_eq r (λc w=>s c w);refine z i ⟨P,m,bs⟩ rfl (BV.jy (O.frame d (λy a e=>gG (g y a) (aC j))) (λy a=>bR (g y a))) ((f.tt F).fresh d (λy e=>ae))
theorem nm{l:List Tr}(h:t∈l):room t<=dK l:=by
 induction l with
 |nil=>cases h
 |cons u l i=>
  simp only[dK];rcases bK.1 h with rfl|h
  .omega
  .have:=i h;omega
theorem R5.zero(b:aa.at g0 bb k n v.p v.b.length v.c none 0 0):R5 g0 g0 bb k n v [] [] none 0:=
 ⟨b,.nil rfl rfl rfl rfl,(λy ⟨a,e,_⟩=>by cases e),by unfold dD;trivial,Fr.refl _ _⟩
theorem AU: ∀(u:Nat)(t:Tr),deep t<=u->room t<=100000000->∀(h:aj)(D:Nat->Prop)(x:CV)(R:fD),gX h D t x->(∀H z,tY H (λy=>h.size<=y) t z->Fr No h H->R z.agg H)->Cl 245 #[x.agg] h R
 |0,.mk k n a' l,I,_,_,_,_,_,_,_=>by simp only[deep]at I;omega
 |u+1,.mk k n a' l,I,f',h,D,x,R,X,hk=>by
  simp only[deep]at I;simp only[room]at f';unfold gX at X;obtain⟨⟨rfl,rfl,rfl,h'⟩,ys,s,T⟩:=X;have lt:=T.len;have l9:=ir l;have e0:=s.len;refine GS.walk (aa.box λbb h1 l' E B=>aa.box λb1 h2 k' O b=>⟨_,_,_,ak (b.get E id),iE.gP ((h'.row.frame B bX).frame b bX) rfl ae λP w h3 o3 m G=>⟨_,_,_,rfl,bD (m.get (b.get E id) id) (by show 2<4;omega) λM A d2 d3=>⟨_,_,_,ak A,bD A (by show 3<4;omega) λo e1 e2 e3=> ?_⟩⟩⟩);have o':=aC E;have n':=aC O;have z1:=B.1;have z2:=b.1;have z3:=m.1;have f:Fr (λy=>y=bb) h3 M:=Fr.of_eq d2 (λc d=>d3 c d);have F:Fr (λy=>y=bb) M o:=Fr.of_eq e2 (λc d=>e3 c d);have F3:=B.tt (b.tt m);have F5:Fr No h o:=(F3.fresh f (λy e=>ae)).fresh F (λy e=>ae);have d':=F.get (f.get (m.get O id) ae) ae;have o5:=(o3.frame f (λy a e=>bR (G y a))).frame F (λy a e=>bR (G y a));have C0:=R5.zero (g0:=o) (bb:=bb) (k:=x.k) (n:=(x.n:Int)) (v:=⟨P,w,x.v.b⟩) e1;refine⟨λt g=> ∃(i:Nat)(Z:List CV)(q:ck)(C:Nat),t=(i:Int)/\i<=ys.length/\R5 o g bb x.k (x.n:Int) ⟨P,w,x.v.b⟩ (l.take i) Z q C/\Z.length=i,λt _=>ys.length - t.toNat,⟨0, [],none,0,rfl,bL _,by rw[eZ];exact C0,rfl⟩,?_⟩;rintro _ g ⟨i,Z,q,C,rfl,hi,L,lz⟩;have r:Fr No h g:=F5.fresh L.fr (λy e=>ae);by_cases Q:i<ys.length
  .rw[gk];have a:ys[i]? =some ys[i]:=ai Q;generalize ys[i]=y at a;obtain⟨t,S,ty⟩:=T.get a;have V:=aK S;have A:=sL V;have r1:=nm V;obtain⟨j',J⟩:=s.row.some (by intro e;have:=bQ List.length e;rw[eO iR 4 hM,bG]at this;omega);rw[J];have U:=s.row.frame r bX;rw[J]at U;refine⟨ae,ax.2 (aa.w5 (by rw[aF];exact U.fP hM a) (GU (t:=t) L ae ae (λg1 R1 c' e'=>AU u t ae ae g1 D y R1 (ty.on (r.tt c')) e') λg' i' q' b' L' m'=> ?_))⟩;rw[bC (n:=(i:Int)+1) ae ae];refine⟨⟨i+1,i',q',b',ae,ae,?_,ae⟩,by show ys.length - Int.toNat ((i:Int)+1)<ys.length - Int.toNat (i:Int);omega⟩;rw[bt,S];exact L'
  .rw[af (λe=>Q (bR (aS e)))];rw[bn (show l.length<=i by omega)]at L;refine aa.ld L.cW (aa.set (L.fr.get d' ae) λK k1 k2 k3=>aa.ld k1 ?_);have j:Fr (λy=>y=b1) g K:=Fr.of_eq k2 (λc d=>k3 c d);have og:=o5.frame L.fr (λy a e=>bR (G y a));refine hk K ⟨x.k,x.n,⟨P,w,x.v.b⟩,q,Z.length,C⟩ ⟨⟨rfl,rfl,rfl,BV.jy (og.frame j (λy a e=>bR (G y a))) (λy a=>bR (G y a))⟩,Z,rfl,L.own.frame j (λy a e=>sU (L.ge y a) f.1 F.1),(λy a=>sU (L.ge y a) f.1 F.1),?_⟩ (r.fresh j (λy e=>ae));exact dD.mono (λy a=>⟨sU a.1 f.1 F.1,a.2⟩) (dD.frame j (λy a e=>sU a.1 f.1 F.1) L.tr)
theorem sM(T:gX h D t x)(b:room t<=100000000)(a: ∀H z,tY H (λy=>h.size<=y) t z->Fr No h H->R z.agg H):Cl 245 #[x.agg] h R:=
 AU (deep t) t (bm _) b h D x R T a
theorem kC(b:mF h D q l C ys)(T:dD h D ts ys)(hr:dK ts<=100000000)(P: ∀H z,tY H (λy=>h.size<=y) (sX ts) z->Fr No h H->R z.agg H):Cl 168 #[.L q l C] h R:=by
 have lt:=T.len;have l9:=ir ts;have e0:=b.len;refine L3.walk (aa.box λG h1 d' r j=>aa.new λbb o e' s d=> ?_);have i':=aC s;have h':=aC r;have z1:=j.1;have z2:=d.1;have B:=j.tt d;have M:=d.get r id;have A:=R5.zero (g0:=o) (bb:=bb) (k:=4) (n:=0) (v:=⟨none,0, []⟩) s;refine⟨λt g=> ∃(i:Nat)(Z:List CV)(q:ck)(C:Nat),t=(i:Int)/\i<=ys.length/\R5 o g bb 4 0 ⟨none,0, []⟩ (ts.take i) Z q C/\Z.length=i,λt _=>ys.length - t.toNat,⟨0, [],none,0,rfl,bL _,by rw[eZ];exact A,rfl⟩,?_⟩;rintro _ g ⟨i,Z,q2,J,rfl,hi,L,lz⟩;have F:Fr No h g:=B.fresh L.fr (λy e=>ae);by_cases u:i<ys.length
 .rw[gk];have a:ys[i]? =some ys[i]:=ai u;generalize ys[i]=y at a;obtain⟨t,w,ty⟩:=T.get a;have r1:=nm (aK w);obtain⟨c',rfl⟩:=b.row.some (by intro e;have:=bQ List.length e;rw[eO iR 4 hM,bG]at this;omega);have a':=b.row.frame F bX;refine⟨ae,ax.2 (aa.w5 (by rw[aF];exact a'.fP hM a) (GU (t:=t) L ae ae (λg1 R1 K Q=>sM (ty.on (F.tt K)) ae Q) λg' b' X I E f'=> ?_))⟩;rw[bC (n:=(i:Int)+1) ae ae];refine⟨⟨i+1,b',X,I,ae,ae,?_,ae⟩,by show ys.length - Int.toNat ((i:Int)+1)<ys.length - Int.toNat (i:Int);omega⟩;rw[bt,w];exact E
 .rw[af (λe=>u (bR (aS e)))];rw[bn (show ts.length<=i by omega)]at L;refine aa.ld L.cW (aa.set (L.fr.get M ae) λm S U V=>aa.ld S ?_);have f:Fr (λy=>y=G) g m:=Fr.of_eq U (λc O=>V c O);refine P m ⟨4,0,⟨none,0, []⟩,q2,Z.length,J⟩ ⟨⟨rfl,rfl,rfl,⟨Row.nil,λe=>absurd rfl e,bm _⟩⟩,Z,rfl,L.own.frame f (λy a e=>bR (L.ge y a)),(λy a=>bR (L.ge y a)),?_⟩ (F.fresh f (λy e=>ae));exact dD.mono (λy a=>⟨bR a.1,a.2⟩) (dD.frame f (λy a e=>bR a.1) L.tr)

end Cb
end
section
namespace Cb
variable {V:cM→Bool} {h H a:aj} {R:fD} {D:Nat→Prop}
variable {t:Tr} {x:CV}
theorem Jc{c:Type}(b:List c):(((b.length:Int))==0)=b.isEmpty:=by
 cases b with
 |nil=>rfl
 |cons A b=>simp only[bf,List.isEmpty_cons,dA,ff];omega
theorem Jd(U:lO V H)(u:Fr No H h)(T:gX h D t x)(w:room t<=1000000)(c: iq h R (.B (Og V t.k t.n t.b t.l))):Cl 251 #[x.agg] h R:=by
 cases t with
 |mk k n b l=>
  simp only[room]at w;unfold gX at T;obtain⟨⟨rfl,rfl,rfl,O⟩,z,L,s⟩:=T;have ll:x.ll=l.length:=by rw[L.len,s.len]
  have c: ∀a o,o=Og V x.k x.n x.v.b l->Fr No h a->R (.B o) a:=λa o e f=>by rw[e];exact c a f
  unfold Og at c;have r:((x.n:Int)==0)=decide (x.n=0):=by by_cases e:x.n=0<;>simp[e]
  refine OC.walk (aa.box λB d y i F=>⟨_,ak i,?_⟩);by_cases K:x.k=0
  .rw[ag (cI K)];simp only[K,ba]at c;refine⟨_,_,_,ak i,?_⟩;rw[Jc];by_cases e:x.v.b.isEmpty=true
   .rw[ag e];refine⟨_,_,_,ak i,c d _ ?_ F⟩;rw[ll,Jc,e];rfl
   .rw[af e];refine c d _ ?_ F;rw[show x.v.b.isEmpty=false by cases q:x.v.b.isEmpty with|false=>rfl|true=>exact absurd q e];rfl
  rw[af (cI K)];simp only[K,aL]at c;by_cases j:x.k=2
  .rw[ag (cI j)];simp only[j,ba]at c;refine⟨_,ak i,?_⟩;rw[r];by_cases e:x.n=0
   .rw[ag (aw e)];refine⟨_,_,_,ak i,c d _ ?_ F⟩;rw[ll,Jc,aw e];rfl
   .rw[af (by rw[aB e];decide)];refine c d _ ?_ F;rw[aB e];rfl
  rw[af (cI j)];simp only[j,aL]at c;by_cases m:x.k=3
  .rw[ag (cI m)];simp only[m,ba]at c;refine⟨_,ak i,?_⟩;rw[r];by_cases e:x.n=0
   .rw[ag (aw e)];refine⟨_,_,_,ak i,?_⟩;rw[ll,Jc];by_cases E:l.isEmpty=true
    .rw[ag E];exact⟨_,_,_,ak i,U d _ _ x.v.b _ (u.tt F) (O.row.frame F bX) ae O.cap λg v=>⟨_,rfl,c g _ (by rw[aw e,E];rfl) (F.tt v)⟩⟩
    .rw[af E];refine c d _ ?_ F;rw[show l.isEmpty=false by cases q:l.isEmpty with|false=>rfl|true=>exact absurd q E,Bool.and_false];rfl
   .rw[af (by rw[aB e];decide)];refine c d _ ?_ F;rw[aB e];rfl
  rw[af (cI m)];simp only[m,aL]at c;by_cases p:x.k=4
  .rw[ag (cI p)];simp only[p,ba]at c;refine⟨_,ak i,?_⟩;rw[r];by_cases e:x.n=0
   .rw[ag (aw e)];refine⟨_,_,_,ak i,c d _ ?_ F⟩;rw[Jc,aw e];rfl
   .rw[af (by rw[aB e];decide)];refine c d _ ?_ F;rw[aB e];rfl
  rw[af (cI p)];simp only[p,aL]at c;exact c d _ rfl F
theorem GV(U:lO V H): ∀(n:Nat)(t:Tr),deep t<=n->room t<=1000000->∀(h:aj)(D:Nat->Prop)(x:CV)(d left:Int)(R:fD),Fr No H h->gX h D t x->0<=d->d<=7->left<=1000->
  (iq h R (.I (ou V t d left)))->Cl 174 #[x.agg,.I d,.I left] h R
 |0,.mk k e' b l,r,_,_,_,_,_,_,_,_,_,_,_,_,_=>by simp only[deep]at r;omega
 |n+1,.mk k e' b l,r,I,h,D,x,d,left,R,u,T,d0,d7,hl,j=>by
  have h':=T;simp only[deep]at r;have c':=I;simp only[room]at I;unfold gX at T;obtain⟨⟨rfl,rfl,rfl,n'⟩,y,L,w⟩:=T;have lt:=w.len;have l9:=ir l;have e0:=L.len;refine L8.walk (aa.box λbb z l' B F=>aH.of λJ A=> ?_);have bad: ∀g,Fr No h g->ou V (.mk x.k x.n x.v.b l) d left= -1->J true g:=λg f c=>by
   subst A;dsimp only;rw[ag rfl];have:=j g f;rw[c]at this;exact this
  by_cases C:d>6
  .rw[ag (aw C)];exact bad z F (by unfold ou;rw[ag (.inl C)])
  rw[af (λe=>C (aS e))];by_cases m:left<1
  .rw[ag (aw m)];exact bad z F (by unfold ou;rw[ag (.inr m)])
  rw[af (λe=>m (aS e))];have P: ¬(d>6\/left<1):=λe=>e.elim C m
  unfold ou at j bad;rw[af P]at j bad;refine aa.ld B (Jd U (u.tt F) (h'.on F) c' λX o=>⟨_,rfl,?_⟩);simp only[Tr.k,Tr.n,Tr.b,Tr.l];generalize Og V x.k x.n x.v.b l=f' at j bad⊢;cases f' with
  |false=>exact bad X (F.tt o) (by rw[dB])
  |true=>
   rw[ag rfl]at j;subst A;rw[dB];have b':=o.get B id;refine⟨_,_,_,ak b',?_⟩;rw[bC (n:=left - 1) ae ae];refine⟨λlf t g=> ∃i:Nat,t=(i:Int)/\i<=y.length/\Fr No h g/\lf<=1000/\0<=lf/\nH V (l.drop i) (d+1) lf=nH V l (d+1) (left - 1),λ_ t _=>y.length - t.toNat,⟨0,rfl,bL _,F.tt o,ae,ae,rfl⟩,?_⟩;rintro lf _ g ⟨i,rfl,hi,f,d',m',c⟩;by_cases G:i<y.length
   .rw[gk];have s:y[i]? =some y[i]:=ai G;generalize y[i]=i' at s;obtain⟨t,K,ty⟩:=w.get s;have O:=aK K;have dm:=sL O;have rm:=nm O;have Q:l.drop i=t::l.drop (i+1):=by
     obtain⟨q1,q2⟩:=aE.1 K;rw[cX q1,q2]
    rw[Q]at c;obtain⟨j',E⟩:=L.row.some (by intro e;have:=bQ List.length e;rw[eO iR 4 hM,bG]at this;omega);rw[E];have M:=L.row.frame f bX;rw[E]at M;refine⟨ae,ax.2 (aa.w5 (by rw[aF];exact M.fP hM s) (aa.new λb1 Z k' a' p=>aa.ld a' ?_))⟩;rw[bC (n:=d+1) ae ae];refine GV U n t ae ae Z D i' (d+1) lf _ (u.tt (f.tt p)) (ty.on (f.tt p)) ae ae d' λh6 S=>⟨_,rfl,?_⟩
    have v:=f.tt (p.tt S);have ql:=Gy (V:=V) (t:=t) (d:=d+1) (left:=lf);conv at c=>lhs;unfold nH
    generalize ou V t (d+1) lf=g' at c ql⊢;by_cases q:g'<0
    .rw[ag (aw q)];rw[ag q]at c;have:=j h6 v;rw[<-c]at this;exact this
    .rw[af (λe=>q (aS e)),bC (n:=(i:Int)+1) ae ae];rw[af q]at c;exact⟨⟨i+1,ae,ae,v,ae,ae,c⟩,by show y.length - Int.toNat ((i:Int)+1)<y.length - Int.toNat (i:Int);omega⟩
   .rw[af (λe=>G (bR (aS e)))];rw[dV (show l.length<=i by omega)]at c;have:=j g f;rw[<-c]at this;unfold nH at this;exact this
theorem fK(U:lO V H)(u:Fr No H h)(T:gX h D t x)(g:room t<=1000000)(e: iq h R (.B (iC V t))):Cl 111 #[x.agg] h R:=
 Ja.walk (aa.box λB b E d f=>aa.ld d (GV U (deep t) t (bm _) g b D x 1 256 _ (u.tt f) (T.on f) dN dN dN λc F=>⟨_,rfl,e c (f.tt F)⟩))

end Cb
end
section
namespace Cb
variable {h:aj} {R:fD} {D d:Nat→Prop}
theorem kJ{p q:ck}{n m c f:Nat}{a b:cM}(r:Row h p (bc a))(j:Row h q (bc b))(i:n=a.length)(g:m=b.length)(H:R (.B (decide (a=b))) h):Cl 69 #[.L p n c,.L q m f] h R:=by
 refine yz.walk ⟨_,iE.conv r i,_,iE.conv j g,?_⟩;rw[pg,pg];have:(a==b)=decide (a=b):=by by_cases e:a=b<;>simp[e]
 rw[this];exact H
theorem GW: ∀(u:Nat)(t s:Tr),deep t<=u->room t<=100000000->∀(h:aj)(D d:Nat->Prop)(x y:CV)(R:fD),gX h D t x->gX h d s y->(iq h R (.B (oV t s)))->Cl 212 #[x.agg,y.agg] h R
 |0,.mk k j' d' l,_,v,_,_,_,_,_,_,_,_,_,_=>by simp only[deep]at v;omega
 |u+1,.mk k j' d' l,.mk k' n' b' L,v,i',h,D,d,x,y,R,tx,ty,w=>by
  simp only[deep]at v;simp only[room]at i';unfold gX at tx ty;obtain⟨⟨rfl,rfl,rfl,l'⟩,X,p,T⟩:=tx;obtain⟨⟨rfl,rfl,rfl,m'⟩,o,r,G⟩:=ty;have lx:=T.len;have ly:=G.len;have l9:=ir l;have ex:=p.len;have ey:=r.len;refine L4.walk (aa.box λb1 h1 r' f' f1=>aa.box λb2 j s' n K=> ?_);have F:=f1.tt K;have m:=K.get f' id;have B: ∀g,Fr No h g->oV (.mk x.k x.n x.v.b l) (.mk y.k y.n y.v.b L)=false->R (.B false) g:=λg f e=>by have:=w g f;rw[e]at this;exact this
  refine⟨_,ak m,_,ak n,?_⟩;by_cases c:x.k=y.k
  case neg=>
   rw[af (cI c)];exact B j F (by unfold oV;rw[aB c];rfl)
  rw[ag (cI c)];refine⟨_,ak m,_,ak n,?_⟩;by_cases C:x.n=y.n
  case neg=>
   rw[af (λe=>C (bR (eq_of_beq e)))];exact B j F (by unfold oV;rw[aB C,Bool.and_false];rfl)
  rw[ag (by rw[C];simp)];refine⟨_,_,_,ak m,_,_,_,ak n,kJ (l'.row.frame F bX) (m'.row.frame F bX) rfl rfl ⟨_,rfl,?_⟩⟩;by_cases b:x.v.b=y.v.b
  case neg=>
   rw[af (cI b)];exact B j F (by unfold oV;rw[aB b,Bool.and_false];rfl)
  rw[ag (cI b)];have e0:oV (.mk x.k x.n x.v.b l) (.mk y.k y.n y.v.b L)=sY l L:=by unfold oV;rw[aw c,aw C,aw b];simp
  rw[e0]at w;refine⟨_,_,_,ak m,_,_,_,ak n,?_⟩;rw[ex,ey];have done: ∀g,Fr No h g->∀q,q=sY l L->∃c':Bool,Value.bool q=.B c'/\R (.B c') g:=λg f q e=>⟨q,rfl,by rw[e];exact w g f⟩
  refine gV.same.walk ?_;by_cases cl:X.length=o.length
  case neg=>
   rw[ag (by simp only[dv,ff];omega)];refine done j F false ?_;cases hq:sY l L with
   |false=>rfl
   |true=>exact absurd (bQ List.length ((AG l L).1 hq)) ae
  rw[af (by simp only[dv,ff];omega)];refine⟨λt g=> ∃i:Nat,t=(i:Int)/\i<=X.length/\Fr No h g/\sY l L=sY (l.drop i) (L.drop i),λt _=>X.length - t.toNat,⟨0,rfl,bL _,F,rfl⟩,?_⟩;rintro _ g ⟨i,rfl,hi,f,H⟩;by_cases S:i<X.length
  .rw[gk];have z:X[i]? =some X[i]:=ai S;have A:o[i]? =some (o[i]' ae):=ai _;generalize X[i]=o' at z;generalize o[i]' ae=p' at A;obtain⟨t,U,tu⟩:=T.get z;obtain⟨s,hs,tv⟩:=G.get A;have tm:=aK U;have dm:=sL tm;have rm:=nm tm;have ed:l.drop i=t::l.drop (i+1):=by
    obtain⟨Q,E⟩:=aE.1 U;rw[cX Q,E]
   have e':L.drop i=s::L.drop (i+1):=by
    obtain⟨Q,E⟩:=aE.1 hs;rw[cX Q,E]
   rw[ed,e']at H;have H:sY l L=(oV t s && sY (l.drop (i+1)) (L.drop (i+1))):=by rw[H];simp only[sY]
   obtain⟨q',I⟩:=p.row.some (by intro e;have:=bQ List.length e;rw[eO iR 4 hM,bG]at this;omega);obtain⟨a',J⟩:=r.row.some (by intro e;have:=bQ List.length e;rw[eO iR 4 hM,bG]at this;omega);rw[I,J];have V:=p.row;have Z:=r.row;rw[I]at V;rw[J]at Z;refine⟨ae,ax.2 (aa.w5 (by rw[aF];exact(V.frame f bX).fP hM z) (aa.new λb3 h3 t' g' M=>⟨ae,ax.2 (aa.w5 (by rw[aF];exact(Z.frame (f.tt M) bX).fP hM A) (aa.new λb4 h5 u' h' O=>aa.ld (O.get g' id) (aa.ld h' ?_)))⟩))⟩;have a:=f.tt (M.tt O);refine GW u t s ae ae h5 D d o' p' _ (tu.on a) (tv.on a) λh6 P=>⟨_,rfl,?_⟩
   cases q:oV t s with
   |false=>
    rw[gk];exact done h6 (a.tt P) false (by rw[H,q];rfl)
   |true=>
    rw[dB,bC (n:=(i:Int)+1) ae ae];exact⟨⟨i+1,ae,ae,a.tt P,by rw[H,q];rfl⟩,by show X.length - Int.toNat ((i:Int)+1)<X.length - Int.toNat (i:Int);omega⟩
  .rw[af (λe=>S (bR (aS e)))];rw[dV (show l.length<=i by omega),dV (show L.length<=i by omega)]at H;exact done g f true (by rw[H];simp only[sY])
theorem ji{t s:Tr}{x y:CV}(T:gX h D t x)(b:gX h d s y)(a:room t<=100000000)(H: iq h R (.B (oV t s))):Cl 212 #[x.agg,y.agg] h R:=
 GW (deep t) t s (bm _) a h D d x y R T b H

end Cb
end
section
namespace Cb
variable {h H:aj} {R:fD}
variable {m:Int} {n:Nat}
theorem OE(n:Nat):IntKind.wrap .u8 (n:Int)=((UInt8.ofNat n).toNat:Int):=by
 have e:IntKind.wrap .u8 (n:Int)=(n:Int)%256:=by simp[IntKind.wrap,IntKind.bits,IntKind.signed]
 rw[e,gJ];omega
theorem Ma{n:Int}(a: iq h R (.B (decide (0<=m/\m<=7)))):Cl 252 #[.agg #[.I m,.U n,.B false]] h R:=by
 refine I4.walk (bJ.box λb g E d f=>⟨_,ak d,?_⟩);rw[dB];have a:=a g f;refine⟨_,ak d,?_⟩;by_cases c:m≥0
 .rw[ag (aw c)];refine⟨_,ak d,?_⟩;rw[show decide (0<=m/\m<=7)=decide (m<=7) by simp[show 0<=m from c]]at a;exact a
 .rw[af (λe=>c (aS e))];rw[aB (λe=>c e.1)]at a;exact a
theorem DE(a:R (.I (Gz n:Int)) h):Cl 254 #[.U (n:Int)] h R:=by
 obtain⟨z,b⟩: ∃z:Int,z=(n:Int):=⟨_,rfl⟩;rw[<-b];refine GO.walk ?_;unfold Gz at a
 repeat' split
 all_goals simp only[aX]at*
 .rw[gk]at a;exact a
 .rw[dB,gk]at a;exact a
 .rw[dB,dB,gk]at a;exact a
 .rw[dB,dB,dB,gk]at a;exact a
 .rw[dB,dB,dB,dB]at a;exact a
theorem QX(a:R (.int .u8 (yN n:Int)) h):Cl 253 #[.U (n:Int)] h R:=by
 refine LU.walk (DE ⟨_,rfl,?_⟩);unfold yN at a;unfold Gz;by_cases c:n<24
 .rw[ag c]at a⊢;rw[dB,dB,dB,dB];rw[OE,gJ,Nat.mod_eq_of_lt ae];exact a
 rw[af c]at a⊢;by_cases C:n<256
 .rw[ag C]at a⊢;rw[gk];exact a
 rw[af C]at a⊢;by_cases b:n<65536
 .rw[ag b]at a⊢;rw[dB,gk];exact a
 rw[af b]at a⊢;by_cases d:n<4294967296
 .rw[ag d]at a⊢;rw[dB,dB,gk];exact a
 rw[af d]at a⊢;rw[dB,dB,dB,gk];exact a
theorem QY(n:Nat):yN n<32:=by unfold yN;repeat (first|omega|split)
theorem SQ: ∀(m:Fin 8)(z:Fin 32),IntKind.wrap .u8 ((BitVec.ofInt (IntKind.bits .u8) (IntKind.wrap .u8 ((IntKind.wrap .u8 (m.val:Int))*2 ^ min (Int.toNat 5) (IntKind.bits .u8)))|||BitVec.ofInt (IntKind.bits .u8) (z.val:Int)).toNat:Int)=((32*m.val+z.val:Nat):Int):=dN
theorem OF(n k:Nat):Int.fdiv (n:Int) (2 ^ k)=((n/2 ^ k:Nat):Int):=by
 rw[Int.fdiv_eq_ediv_of_nonneg _ (by exact_mod_cast bL (2 ^ k))]
 exact_mod_cast rfl
theorem Mb(f: ∀H (p:ck) (C:Nat) (e:Int),Row H p (bc (Oh m n))->(Oh m n).length<=C->Fr No h H->R (.T #[.slice p (Oh m n).length C,.I e]) H):Cl 175 #[.agg #[.I m,.U (n:Int),.B false]] h R:=by
 refine I5.walk (bJ.box λb Z X s r=>bJ.ld s (Ma λc F=>⟨_,rfl,?_⟩));by_cases l:0<=m/\m<=7
 case neg=>
  rw[aB l,gk];have E:Oh m n= []:=by unfold Oh;rw[af l]
  rw[E]at f;exact f c none 0 3 Row.nil bV (r.tt F)
 rw[aw l,dB];obtain⟨m,rfl⟩:=eL l.1;have d:=F.get s id;refine⟨_,ak d,?_⟩;rw[dB];refine⟨_,ak d,_,ak d,QX ⟨_,rfl,ak d,cK ?_⟩⟩;have D:=r.tt F;have I:=QY n;rw[SQ ⟨m,ae⟩ ⟨yN n,I⟩];rw[show(32*(⟨m,ae⟩:Fin 8).val+(⟨yN n,I⟩:Fin 32).val)=32*m+yN n from rfl];have L:((32*m+yN n:Nat):Int)=((UInt8.ofNat (32*m+yN n)).toNat:Int):=by rw[gJ,Nat.mod_eq_of_lt ae]
 rw[L];have E:Oh (m:Int) n=UInt8.ofNat (32*m+yN n)::R0 (Gz n) n:=by unfold Oh;rw[ag l,aF]
 rw[E]at f;generalize UInt8.ofNat (32*m+yN n)=w at f⊢;have o:Fr No c (c.push (.C #[.int .u8 (w.toNat:Int)] 5)):=Fr.push _ _;have B:fz (c.push (.C #[.int .u8 (w.toNat:Int)] 5)) (Sa c.size 0) 1 1 1 (bc [w]):=.row c.size 0 #[.int .u8 (w.toNat:Int)] 5 rfl bZ ae bV rfl (λj v x=>by
  cases j with
  |zero=>simpa[bc]using x
  |succ j=>simp[bc]at x)
 generalize c.push (.C #[.int .u8 (w.toNat:Int)] 5)=h5 at o B⊢;have z1:=r.1;have z2:=F.1;have zb:=aC s;refine⟨ak (o.get d id),_,ak (o.get d id),DE ⟨_,rfl,?_⟩⟩;have S:=KD n;generalize Gz n=k at f S⊢;refine⟨λp T C t g=> ∃(i:Nat),t=(i:Int)/\i<=k/\T=1+i/\fz g p (1+i) C 1 (bc (w::(R0 k n).take i))/\(∀y,aN p y->c.size<=y)/\Fr No c g,λ_ _ _ t _=>k - t.toNat,⟨0,rfl,bL _,rfl,by rw[eZ];exact B,(λy ⟨a,e,G⟩=>by cases e;rw[<-G];exact bm _),o⟩,?_⟩;rintro p _ C _ g ⟨i,rfl,hi,rfl,O,A,q⟩;by_cases u:i<k
 .rw[gk];refine⟨_,ak (q.get d id),?_⟩;rw[bC (n:=(k:Int) - 1) ae ae,bC (n:=(k:Int) - 1 - (i:Int)) ae ae,bC (n:=8*((k:Int) - 1 - (i:Int))) ae ae,dB];have J:min (Int.toNat (8*((k:Int) - 1 - (i:Int)))) (IntKind.bits .u64)=8*(k - 1 - i):=by
   rw[show IntKind.bits .u64=64 from rfl];omega
  rw[J,OF,OE];refine iS iE.tU iE.uU O rfl (λv z=>by simp at z;rw[z];rfl) ae ae λp2 V h9 U M P=>⟨_,_,_,rfl,?_⟩
  rw[bC (n:=(i:Int)+1) ae ae];refine⟨⟨i+1,ae,ae,ae,?_,λy Q=> ?_,q.fresh M A⟩,by show k - Int.toNat ((i:Int)+1)<k - Int.toNat (i:Int);omega⟩
  .have K:(R0 k n).take (i+1)=(R0 k n).take i++ [UInt8.ofNat (n/2 ^ (8*(k - 1 - i)))]:=by
    rw[bt];unfold R0;rw[aD,List.getElem?_range u];rfl
   rw[K,<-eJ,kP];exact U
  .rcases P y Q with a|a
   .exact A y a
   .have:=q.1;omega
 .rw[af (λe=>u (bR (aS e)))];obtain rfl:i=k:=ae
  rw[bn (by rw[zO];omega)]at O;have:=f g p C 0 O.iy (by rw[bf,zO,Nat.add_comm];exact O.le) (D.tt q);rw[bf,zO,Nat.add_comm]at this;exact this
theorem Je{l:List Tr}{i:Nat}{t:Tr}(a:l[i]? =some t):dK (l.take (i+1))=dK (l.take i)+room t:=by
 rw[bt,a,iW];show _+dK [t]=_;simp[dK]
theorem oR(l:List Tr)(i:Nat):dK (l.take i)<=dK l:=by
 conv=>rhs;rw[<-List.take_append_drop i l]
 rw[iW];omega
theorem KI: ∀(I:Nat)(t:Tr),deep t<=I->∀(h:aj)(D:Nat->Prop)(x:CV)(p:ck)(l c:Nat)(a:cM)(R:fD),l=a.length->a.length+room t<=20000000->fz h p a.length c 1 (bc a)->gX h D t x->(∀y,aN p y->¬D y)->
  (∀H P C,fz H P (a++enc t).length C 1 (bc (a++enc t))->Fr (λy=>aN p y) h H->(∀y,aN P y->aN p y\/h.size<=y)->R (.slice P (a++enc t).length C) H)->Cl 112 #[.L p l c,x.agg] h R
 |0,.mk k n f' l,O,_,_,_,_,_,_,_,_,_,_,_,_,_,_=>by simp only[deep]at O;omega
 |I+1,.mk k n f' l,O,h,D,x,p,_,c,a,R,rfl,ha,ow,T,u,Q=>by
  simp only[deep]at O;simp only[room]at ha;unfold enc at Q;have T:=T.lt;unfold gX at T;obtain⟨⟨rfl,rfl,rfl,b'⟩,f,L,TS⟩:=T;have lt:=TS.len;have l9:=ir l;have e0:=L.len;refine OD.walk (aa.box λbb h1 s' d f1=>⟨_,ak d,_,ak d,aH.of λe' hJ=> ?_⟩);have t':=aC d;have z1:=f1.1;have X: ∀y,aN p y->y<h.size:=λy b=>ow.dC b
  have done:e' (yt x.k x.n x.v.b l:Int) h1:=by
   subst hJ;refine⟨_,ak d,Mb λh3 q3 c3 e3 c' g' F=>⟨_,_,_,_,rfl,_,_,_,ak (F.get d id),?_⟩⟩;have n':=KE x.k (yt x.k x.n x.v.b l);generalize Oh x.k (yt x.k x.n x.v.b l)=B at c' g' n' Q⊢;have z3:=F.1;have G:=f1.tt F;refine dH iE.tU iE.uU (ow.frame G bX) c' (by rw[jP,cp]) (rJ B) ae ae λp4 c4 h4 o4 _ o g4=>⟨_,_,_,rfl,ak (o.get (F.get d id) (λb=>bR (X _ b))),?_⟩
   have z4:=o.1;have V: ∀y,aN p4 y->aN p y\/h3.size<=y:=g4;have p':Row h4 x.v.p (bc x.v.b):=by
    by_cases e:x.v.b= []
    .rw[e];exact Row.nil
    .exact((b'.row.frame G bX).frame o (λad J b=>u _ b (b'.own e _ ⟨ad,J,rfl⟩).1))
   refine dH iE.tU iE.uU o4 p' (by rw[jP,cp]) (rJ x.v.b) ae ae λp5 c5 h5 Z _ K g5=> ?_
   have o': ¬aN p4 bb:=λb=>by
    rcases V _ b with q|q
    .have:=X _ q;omega
    .omega
   have j':=K.get (o.get (F.get d id) (λb=>bR (X _ b))) o';refine⟨_,_,_,rfl,_,_,_,ak j',?_⟩;have z5:=K.1;rw[<-kP,<-kP,di]at Z;have Fp:Fr (λy=>aN p y) h h5:=(Fr.no G o).trans K bX (λy b q=>by
    rcases V y q with q|q
    .exact q
    .omega)
   have n5: ∀y,aN p5 y->aN p y\/h.size<=y:=λy b=>by
    rcases g5 y b with q|q
    .rcases V y q with q|q
     .exact .inl q
     .exact .inr ae
    .exact .inr ae
   have el:a.length+B.length+x.v.b.length=(a++(B++x.v.b)).length:=by simp only[au];omega
   rw[el]at Z⊢;refine⟨λP l' C t g=> ∃(i:Nat)(w:cM),t=(i:Int)/\i<=f.length/\l'=(a++w).length/\fz g P (a++w).length C 1 (bc (a++w))/\w=B++x.v.b++yO (l.take i)/\Fr (λy=>aN p y) h g/\∀y,aN P y->aN p y\/h.size<=y,λ_ _ _ t _=>f.length - t.toNat,
    ⟨0,B++x.v.b,rfl,bL _,rfl,Z,by rw[eZ];simp[yO],Fp,n5⟩,?_⟩
   rintro P _ C _ g ⟨i,w,rfl,hi,rfl,og,E,r,A⟩;have rl:=oR l i;have lw:w.length<=9+x.v.b.length+dK (l.take i):=by
    rw[E,au,au];have:=AH (l.take i);omega
   by_cases v:i<f.length
   .rw[gk];have b:f[i]? =some f[i]:=ai v;generalize f[i]=y at b;obtain⟨t,S,ty⟩:=TS.get b;have tm:=aK S;have dm:=sL tm;have rm:=nm tm;have rt:=Je S;have k':f≠ []:=by intro e;rw[e]at v;simp at v
    obtain⟨ad,J⟩:=L.row.some (by intro e;have:=bQ List.length e;rw[eO iR 4 hM,bG]at this;omega);have d':=L.row.frame r (λa2 e2 m'=>u _ m' (L.own k' _ ⟨a2,e2,rfl⟩).1);rw[J]at d'⊢;refine⟨ae,ax.2 (aa.w5 (by rw[aF];exact d'.fP hM b) (aa.new λb1 h8 r' i' s=>aa.ld i' ?_))⟩;have q':gX h8 (λy=>D y/\y<h.size) t y:=(gX.frame r (λz j U=>u z U j.1) ty).on s;have zg:=r.1;have z8:=s.1;refine KI I t ae h8 (λy=>D y/\y<h.size) y P _ C (a++w) _ rfl (by rw[au];have:=oR l (i+1);omega) (og.frame s bX) q' (λz j U=>by
     rcases A z j with q|q
     .exact u z q U.1
     .omega) λh9 p9 c9 o9 f9 n9=>⟨_,_,_,rfl,?_⟩
    rw[bC (n:=(i:Int)+1) ae ae];rw[di]at o9⊢;refine⟨⟨i+1,w++enc t,ae,ae,rfl,o9,by rw[bt,S];show _=_++yO (l.take i++ [t]);rw[LC,E,di _ (yO (l.take i))],(r.on s).trans f9 bX (λz j q=> ?_),λz j=> ?_⟩,by show f.length - Int.toNat ((i:Int)+1)<f.length - Int.toNat (i:Int);omega⟩
    .rcases A z q with q|q
     .exact q
     .omega
    .rcases n9 z j with q|q
     .exact A z q
     .exact .inr ae
   .rw[af (λe=>v (bR (aS e)))];rw[bn (show l.length<=i by omega)]at E;subst E;exact Q g P C og r A
  have ub:IntKind.wrap .u64 (x.v.b.length:Int)=(x.v.b.length:Int):=wrap_u64 ae ae;have ul:IntKind.wrap .u64 (x.ll:Int)=(l.length:Int):=by rw[e0,<-lt];exact wrap_u64 ae ae
  unfold yt at done;refine aH.of λJ1 h'=> ?_
  have j1: ∀q,q=decide (x.k=2\/x.k=3)->J1 q h1:=by
   intro q hq;subst h';refine aH.of λJ2 M=> ?_
   split
   .rename_i q1;rw[ag (aS (hq.symm.trans q1))]at done;exact⟨_,_,_,ak d,by subst M;rw[ub];exact done⟩
   .rename_i q1;rw[af (λe=>q1 (hq.trans (aw e)))]at done;refine aH.of λJ3 a'=> ?_
    split
    .rename_i q2;rw[ag (cI q2)]at done;exact⟨_,_,_,ak d,by subst a';subst M;rw[ul];exact done⟩
    .rename_i q2;rw[af (cI q2)]at done;subst a';subst M;exact done
  split
  .rename_i q;exact j1 _ (by simp only[db]at q;rw[q];decide)
  .rename_i q;refine j1 _ ?_;by_cases e:x.k=3
   .rw[e];decide
   .simp only[db]at q;simp[q,e]

end Cb
end
section
namespace Cb
variable {V:cM→Bool} {h a H:aj} {R:fD} {D:Nat→Prop}
variable {t:Tr} {x:CV}
theorem KJ(T:gX h D t x)(g:room t<=1000000)(b: ∀H p c,fz H p (enc t).length c 1 (bc (enc t))->(∀y,aN p y->h.size<=y)->Fr No h H->R (.slice p (enc t).length c) H):Cl 112 #[.Z,x.agg] h R:=
 KI (deep t) t (bm _) h D x none 0 0 [] R rfl (by simp only[bG];omega) (.nil rfl rfl rfl rfl) T (λy ⟨A,e,_⟩=>by cases e) λH P C o f n=>b H P C o (λy d=>(n y d).resolve_left (λ⟨A,e,_⟩=>by cases e)) (f.mono λy _ ⟨A,e,_⟩=>by cases e)
theorem xe(U:lO V a)(u:Fr No a h)(T:gX h D t x)(e:room t<=1000000)(K:iC V t=true->∀H p c,fz H p (enc t).length c 1 (bc (enc t))->(∀y,aN p y->h.size<=y)->Fr No h H->R (.T #[.slice p (enc t).length c,.I 0]) H)(l:iC V t=false->iq h R (.T #[.Z,.I 3])):Cl 77 #[x.agg] h R:=by
 refine Jb.walk (aa.box λB m E b f=>aa.ld b (fK U (u.tt f) (T.on f) e λi F=>⟨_,rfl,?_⟩));have z:=f.1;have Z:=F.1;cases d:iC V t with
 |false=>
  rw[gk];exact l d i (f.tt F)
 |true=>
  rw[dB];exact aa.ld (F.get b id) (KJ ((T.on f).on F) e λj p c o n g=>⟨_,_,_,rfl,K d j p c o (λy k=>bR (n y k)) ((f.tt F).tt g)⟩)
theorem lO.mono{b:aj}(U:lO V a)(f:Fr No a b):lO V b:=λg p c B R F=>U g p c B R (f.tt F)
def ks(V:cM->Bool)(b:cM):Bool:=match mK V b with| .ok (t,n)=>decide (n=b.length) && decide (enc t=b)| .error _=>false
theorem GX{p:ck}{l c:Nat}{b:cM}(U:lO V h)(r:Row h p (bc b))(v:l=b.length)(cap:b.length<=c)(w:b.length<=90000)(f: iq h R (.B (ks V b))):Cl 289 #[.L p l c] h R:=by
 subst v;unfold ks at f;refine Cx.walk (vO U r rfl cap ae (λs t x next o T i=>⟨_,_,_,_,_,_,_,_,_,_,rfl,aa.new λB j E m g=> ?_⟩) (λs e n i=>⟨_,_,_,_,_,_,_,_,_,_,rfl,aa.new λB j E m g=> ?_⟩))
 .have F:=i.tt g;rw[o]at f;obtain⟨A,z⟩:=rO o;rw[gk];by_cases C:next=b.length
  .rw[ag (by rw[C];simp)];refine aa.ld m (KJ (T.on g) ae λu q d O y k=>⟨_,_,_,rfl,kJ O.iy (r.frame (F.tt k) bX) rfl rfl ⟨_,rfl,?_⟩⟩);have:=f u (F.tt k);simp only[C,bu,eI]at this;exact this
  .rw[af (λe=>C (bR (eq_of_beq e)))];have:=f j F;simp only[C,bg,fI]at this;exact this
 .have F:=i.tt g;have:=f j F;rw[n]at this;rw[af (λq=>nk n (eq_of_beq q))];exact this

end Cb
end
section
namespace jA
variable {h H:aj} {R:fD}
variable {s:ByteArray} {pos:Nat} {more:UInt8}
theorem byte_at(a:pos<s.size):s.data.toList[pos]? =some (s.data.toList.getD pos 0):=by
 have:pos<s.data.toList.length:=a;rw[bk,ai this];rfl
theorem T0{b:UInt8}(d:more.toNat<128)(h:pl more b=true):b<128:=by
 show b.toNat<128;by_cases c:b.toNat<128
 .exact c
 .have a:=Ou (more:=(more.toNat:Int)) (c:=(b.toNat:Int)) ae ae;rw[Ov,h]at a;cases a
theorem OG(e:more.toNat<128)(d:pos<s.size)(h:np (more.toNat:Int) ((Utf8.decode s pos).1:Int)=false):
  pl more (s.data.toList.getD pos 0)=true/\(Utf8.decode s pos).2=1:=by
 obtain⟨b,c⟩:=decode_at s pos d;by_cases a:s.data.toList.getD pos 0<128
 .rw[b a]at h⊢;rw[Ov]at h;exact⟨cI h,rfl⟩
 .have:=Ou (more:=(more.toNat:Int)) (c:=((Utf8.decode s pos).1:Int)) ae (bR (c a));rw[this]at h;cases h
theorem QZ(e:more.toNat<128)(a:pos<s.size)(h:np (more.toNat:Int) ((Utf8.decode s pos).1:Int)=true):nJ more s=false:=by
 cases d:nJ more s with
 |false=>rfl
 |true=>
  have b:=List.all_eq_true.1 d _ (aK (byte_at a));obtain⟨c,_⟩:=decode_at s pos a;rw[c (T0 e b),Ov,b]at h;cases h
theorem AW{i:Nat}{ty:TypeId}{d f:aj}(r:more.toNat<128)(x:f[i]? =some (.stringIter s 0))(z:d.size<=i)(t:Fr No d f)(q: ∀H,Fr No d H->R (.B (nJ more s)) H):
  ∃(I:aj->Prop)(M:aj->Nat),I f/\∀g,I g->aW Tryz.prog (Instr.next (.P i 0) true ty) g λv G=>
   (v=.T #[.B false]/\R (.B true) G)\/∃(a b:Value),v=.T #[.B true,a,b]/\∃(c:Int),b=.int .i32 c/\if np (more.toNat:Int) c=true then R (.B false) G else(I G/\M G<M g):=by
 refine⟨λg=> ∃pos,g[i]? =some (.stringIter s pos)/\Fr No d g/\pos<=s.size/\(s.data.toList.take pos).all (pl more)=true,λg=>(match g[i]? with|some (.stringIter _ p)=>s.size - p|_=>0),⟨0,x,t,bL _,bV⟩,?_⟩;rintro g ⟨pos,o,F,A,l⟩;refine Lw o (λw=> .inl ⟨rfl,?_⟩) (λj G m B y=> .inr ⟨_,_,rfl,_,rfl,?_⟩)
 .have:nJ more s=true:=by
   unfold nJ;rw[bn (by show s.data.toList.length<=pos;exact w)]at l;exact l
  rw[<-this];exact q g F
 .have n:Fr No d G:=F.fresh (S:=λc=>c=i) ⟨ae,λc _ k=>y c k⟩ (λc e=>ae);cases k:np (more.toNat:Int) ((Utf8.decode s pos).1:Int)with
  |true=>
   rw[ag rfl,<-QZ r j k];exact q G n
  |false=>
   rw[af bV];obtain⟨f,u⟩:=OG r j k;rw[u]at m;refine⟨⟨pos+1,m,n,j,?_⟩,?_⟩
   .rw[bt,byte_at j,List.all_append,l];show(true && (pl more (s.data.toList.getD pos 0) && true))=true;rw[f];rfl
   .simp only[o,m];omega
theorem Jf(q: iq h R (.B (nJ 45 s))):Cl 73 #[.S s,.int .i32 45] h R:=by
 refine w6.host.walk (Ay dz λr t u p F=>⟨_,rfl,?_⟩);obtain⟨I,M,m,n⟩:=AW (more:=45) (ty:=0) dN p ae F q;refine⟨I,M,m,λg o=>kN _ _ (λv G d=> ?_) (n g o)⟩;rcases d with d|⟨a,b,e,c,E,d⟩
 .exact .inl d
 .refine .inr ⟨a,b,e,c,E,aH.of λJ f=> ?_⟩;have key:J (np 45 c) G:=by subst f;exact d
  clear f d;unfold np at key;revert key;generalize decide (c<97)=B;generalize decide (c>122)=i;generalize decide (c<48)=j;generalize decide (c>57)=k;generalize (c !=45)=l;intro key;cases B<;>cases i<;>cases j<;>cases k<;>cases l<;>exact key
theorem GY(t: iq h R (.B (nJ 47 s))):Cl 73 #[.S s,.int .i32 47] h R:=by
 refine w6.TY.walk (Ay dz λr u w q F=>⟨_,rfl,?_⟩);obtain⟨I,M,n,o⟩:=AW (more:=47) (ty:=0) dN q ae F t;refine⟨I,M,n,λg p=>kN _ _ (λv G d=> ?_) (o g p)⟩;rcases d with d|⟨a,b,e,c,E,d⟩
 .exact .inl d
 .refine .inr ⟨a,b,e,c,E,aH.of λJ f=> ?_⟩;have key:J (np 47 c) G:=by subst f;exact d
  clear f d;unfold np at key;revert key;generalize decide (c<97)=B;generalize decide (c>122)=i;generalize decide (c<48)=j;generalize decide (c>57)=k;generalize (c !=45)=l;generalize (c !=47)=m;intro key;cases B<;>cases i<;>cases j<;>cases k<;>cases l<;>cases m<;>exact key
abbrev Ev.at(h:aj)(b:Nat)(x:Ev):Prop:=az.at h b x.km x.node x.gy x.host x.jN
theorem fK(x:Ev)(k: iq h R (.B (dc x))):Cl 44 #[.agg #[.B x.km,.U x.node,.U x.gy,.S x.host,.S x.jN]] h R:=by
 refine LN.walk (az.box λb o v c F=>az.ld c ⟨_,vD (y:=.zero) (x:=x) rfl rfl,?_⟩);have K:=k o F;unfold dc at K;by_cases f:x=.zero
 .rw[ag (aw f)];rw[ag f]at K;exact K
 .rw[af (cI f)];rw[af f]at K;refine⟨_,ak c,?_⟩;by_cases e:x.km=true
  .rw[ag e];rw[ag e]at K;refine az.ld c ⟨_,ak c,_,ak c,_,vD (y:=⟨true,x.node,x.gy,⟨#[]⟩,⟨#[]⟩⟩) (x:=x) rfl rfl,?_⟩;by_cases d:x=⟨true,x.node,x.gy,⟨#[]⟩,⟨#[]⟩⟩
   .have E:x.host=⟨#[]⟩:=bQ Ev.host d;have i:x.jN=⟨#[]⟩:=bQ Ev.jN d;rw[ag (aw d)];refine⟨_,ak c,?_⟩;by_cases q:x.node≥1
    .rw[ag (aw q)];refine⟨_,ak c,?_⟩;by_cases Q:x.node<=4294967295
     .rw[ag (aw Q)];refine⟨_,ak c,?_⟩;have l:1<=x.node:=q;simp only[E,i,l,Q,true_and]at K;exact K
     .rw[af (cI Q)];simp only[Q,false_and,and_false,bg]at K;exact K
    .rw[af (cI q)];have l: ¬1<=x.node:=q;simp only[l,false_and,and_false,bg]at K;exact K
   .rw[af (cI d)];have: ¬(x.host=⟨#[]⟩/\x.jN=⟨#[]⟩/\1<=x.node/\x.node<=4294967295/\x.gy<=4294967295):=λ⟨a,b,_⟩=>d (Ev.ext' e rfl rfl a b)
    rw[aB this]at K;exact K
  .have u:x.km=false:=by simpa using e
   rw[af e];rw[af e]at K;refine az.ld c ⟨_,ak c,_,ak c,_,vD (y:=⟨false,0,0,x.host,x.jN⟩) (x:=x) rfl rfl,?_⟩;by_cases d:x=⟨false,0,0,x.host,x.jN⟩
   .have E:x.node=0:=bQ Ev.node d;have i:x.gy=0:=bQ Ev.gy d;rw[ag (aw d)];refine⟨_,ak c,?_⟩;simp only[E,i,true_and]at K;by_cases q:1<=x.host.size
    .rw[gk];refine⟨_,ak c,?_⟩;by_cases Q:x.host.size<=16
     .rw[gk];refine⟨_,ak c,?_⟩;by_cases m:x.jN.size<=24
      .rw[gk];simp only[q,Q,m,and_self,bu,eI]at K;refine⟨_,ak c,Jf λp j=>⟨_,rfl,?_⟩⟩;have t:=j.get c id;by_cases g:nJ 45 x.host=true
       .rw[ag g];refine⟨_,ak t,GY λr n=>⟨_,rfl,?_⟩⟩;have:=k r (F.tt (j.tt n));unfold dc at this;rw[af f,af e,g]at this;simp only[E,i,q,Q,m,and_self,bu,eI]at this;exact this
       .rw[af g];have:=k p (F.tt j);unfold dc at this;have g:nJ 45 x.host=false:=by simpa using g
        rw[af f,af e,g]at this;simp only[fI,Bool.and_false]at this;exact this
      .rw[af (by simp;omega)];simp only[m,and_false,bg,fI]at K;exact K
     .rw[af (by simp;omega)];simp only[Q,false_and,and_false,bg,fI]at K;exact K
    .rw[af (by simp;omega)];simp only[q,false_and,bg,fI]at K;exact K
   .rw[af (cI d)];have: ¬(x.node=0/\x.gy=0/\1<=x.host.size/\x.host.size<=16/\x.jN.size<=24):=λ⟨a,b,_⟩=>d (Ev.ext' u a b rfl rfl)
    rw[aB this,fI]at K;exact K
theorem vP(x:Ev)(g: iq h R (.I (jl x))):Cl 159 #[.agg #[.B x.km,.U x.node,.U x.gy,.S x.host,.S x.jN]] h R:=by
 refine LO.walk (az.box λb e E d f=>az.ld d ⟨_,vD (y:=.zero) (x:=x) rfl rfl,?_⟩);have K:=g e f;unfold jl at K;by_cases a:x=.zero
 .rw[ag (aw a)];rw[ag a]at K;exact K
 .rw[af (cI a)];rw[af a]at K;refine⟨_,ak d,?_⟩;by_cases c:x.km=true
  .rw[ag c];rw[ag c]at K;exact K
  .rw[af c];rw[af c]at K;exact K
theorem GZ{a b:ByteArray}:(a.toList==b.toList)=true↔a=b:=by
 rw[db,toList_data,toList_data];constructor
 .intro e;cases a;cases b;simp only[ByteArray.mk.injEq];exact Array.ext' e
 .rintro rfl;rfl
theorem Q0(x y:Ev)(o: iq h R (.B (lC x y))):Cl 100 #[.agg #[.B x.km,.U x.node,.U x.gy,.S x.host,.S x.jN],.agg #[.B y.km,.U y.node,.U y.gy,.S y.host,.S y.jN]] h R:=by
 refine Oo.walk (az.box λb z E v k=>az.box λc A w j i=> ?_);have n:=i.get v id;refine az.ld n (az.ld j (vP x λB l=>⟨_,rfl,az.held (l.get j id),vP y λt p=>⟨_,rfl,?_⟩⟩));have F:=l.tt p;have d:=F.get n id;have a:=F.get j id;have K:=o t (k.tt (i.tt F));unfold lC at K;by_cases q:jl x=jl y
 .rw[af (cI q)];rw[af (cI q)]at K;refine⟨_,ak d,_,ak a,?_⟩;by_cases Q:x.node=y.node
  .rw[af (cI Q)];rw[af (cI Q)]at K;refine⟨_,ak d,_,ak a,?_⟩;by_cases f:x.gy=y.gy
   .rw[af (cI f)];rw[af (cI f)]at K;refine⟨_,ak d,_,ak a,?_⟩;by_cases g:x.host=y.host
    .rw[af (by simp[GZ.2 g])];rw[af (cI g)]at K;exact⟨_,ak d,_,ak a,K⟩
    .have:(x.host.toList==y.host.toList)=false:=by
      cases e:x.host.toList==y.host.toList
      .rfl
      .exact absurd (GZ.1 e) g
     rw[ag (by simp[this])];rw[ag g]at K;exact⟨_,ak d,_,ak a,K⟩
   .rw[ag (cI f)];rw[ag f]at K;exact⟨_,ak d,_,ak a,K⟩
  .rw[ag (cI Q)];rw[ag Q]at K;exact⟨_,ak d,_,ak a,K⟩
 .rw[ag (cI q)];refine az.ld d (az.ld a (vP x λC m=>⟨_,rfl,az.held (m.get a id),vP y λu r=>⟨_,rfl,?_⟩⟩));have K:=o u (k.tt (i.tt (F.tt (m.tt r))));unfold lC at K;rw[ag q]at K;exact K

end jA
end
section
variable {h:aj} {R:fD}
variable {K:Nat->aj->Prop} {b l c B e m:Nat} {a:Addr} {S v s P:Int} {L d:ck}
abbrev aa.fR(h:aj)(b:Nat)(x:aa.S):Prop:=h[b]? =some (.cells x.arr 167 (0,0))
theorem aa.ex{K:aa.S->Prop}(x:aa.S)(H:K x):aa.EX K:=⟨_,_,_,_,_,_,_,_,H⟩
theorem aa.fN{x:aa.S}{K:aa.S->Prop}(H:aa.fR h b x)(f:K x):aa.cN h (AA b 0) K:=
 ⟨_,ak H,_,ak H,_,_,_,ak H,_,_,_,ak H,f⟩
theorem aa.lX{x:aa.S}{K:aa.S->Prop}(H:dP a x.l 0 h)(f:K x):aa.cN h a K:=by
 obtain⟨q,Q,g,i,_⟩:=H;rw[eX]at q;exact⟨_,q,_,Q,_,_,_,g,_,_,_,i,f⟩
theorem aa.AX{x:aa.S}(H:aa.fR h b x):dP (AA b 0) x.l 0 h:=
 hT H (λj V f=>by rw[bM];simpa using f)
theorem aa.fY{x:aa.S}(g: ∀b H,b=h.size->aa.fR H b x->Fr No h H->K b H):bh h (.C aa.S.z.arr 167) λb f=>aa.dw f (AA b 0) x (K b):=
 gB (vs:=x.l) rfl rfl g
theorem aa.da{x:aa.S}(g: ∀b H,b=h.size->aa.fR H b x->Fr No h H->K b H):bh h (.C x.arr 167) λb f=>K b f:=
 cK (g _ _ rfl bZ (Fr.push _ _))
theorem aa.hU{y x:aa.S}{K:aj->Prop}(A:aa.fR h b y)(k: ∀H,aa.fR H b x->Fr (λy=>y=b) h H->H.size=h.size->K H):aa.dw h (AA b 0) x K:=
 (show dO (AA b 0) x.l 0 h K from fp A rfl rfl λi f D g=>k i f (Fr.of_eq D λC j=>g C j) D)
variable {x:aa.S}
abbrev az.fR(h:aj)(b:Nat)(x:az.S):Prop:=h[b]? =some (.cells x.arr 25 (0,0))
theorem az.ex{K:az.S->Prop}(x:az.S)(H:K x):az.EX K:=⟨_,_,_,_,_,H⟩
theorem az.fN{x:az.S}{K:az.S->Prop}(H:az.fR h b x)(f:K x):az.cN h (AA b 0) K:=
 ⟨_,ak H,_,ak H,_,ak H,_,ak H,_,ak H,f⟩
theorem az.fY{x:az.S}(g: ∀b H,b=h.size->az.fR H b x->Fr No h H->K b H):bh h (.C az.S.z.arr 25) λb f=>az.dw f (AA b 0) x (K b):=
 gB (vs:=x.l) rfl rfl g
theorem az.da{x:az.S}(g: ∀b H,b=h.size->az.fR H b x->Fr No h H->K b H):bh h (.C x.arr 25) λb f=>K b f:=
 cK (g _ _ rfl bZ (Fr.push _ _))
theorem az.hU{y x:az.S}{K:aj->Prop}(A:az.fR h b y)(k: ∀H,az.fR H b x->Fr (λy=>y=b) h H->H.size=h.size->K H):az.dw h (AA b 0) x K:=
 (show dO (AA b 0) x.l 0 h K from fp A rfl rfl λi f D g=>k i f (Fr.of_eq D λC j=>g C j) D)
abbrev ah.fR(h:aj)(b:Nat)(x:ah.S):Prop:=h[b]? =some (.cells x.arr 71 (0,0))
theorem ah.ex{K:ah.S->Prop}(x:ah.S)(H:K x):ah.EX K:=⟨_,_,_,_,_,_,_,H⟩
theorem ah.fN{x:ah.S}{K:ah.S->Prop}(H:ah.fR h b x)(f:K x):ah.cN h (AA b 0) K:=
 ⟨_,ak H,_,ak H,_,ak H,_,ak H,_,ak H,_,ak H,_,ak H,f⟩
theorem ah.fY{x:ah.S}(g: ∀b H,b=h.size->ah.fR H b x->Fr No h H->K b H):bh h (.C ah.S.z.arr 71) λb f=>ah.dw f (AA b 0) x (K b):=
 gB (vs:=x.l) rfl rfl g
theorem ah.da{x:ah.S}(g: ∀b H,b=h.size->ah.fR H b x->Fr No h H->K b H):bh h (.C x.arr 71) λb f=>K b f:=
 cK (g _ _ rfl bZ (Fr.push _ _))
theorem ah.hU{y x:ah.S}{K:aj->Prop}(A:ah.fR h b y)(k: ∀H,ah.fR H b x->Fr (λy=>y=b) h H->H.size=h.size->K H):ah.dw h (AA b 0) x K:=
 (show dO (AA b 0) x.l 0 h K from fp A rfl rfl λi f D g=>k i f (Fr.of_eq D λC j=>g C j) D)
abbrev aG.fR(h:aj)(b:Nat)(x:aG.S):Prop:=h[b]? =some (.cells x.arr 73 (0,0))
theorem aG.ex{K:aG.S->Prop}(x:aG.S)(H:K x):aG.EX K:=⟨_,_,_,_,_,_,_,_,_,_,_,_,_,_,_,_,_,_,_,_,H⟩
theorem aG.fN{x:aG.S}{K:aG.S->Prop}(H:aG.fR h b x)(f:K x):aG.cN h (AA b 0) K:=
 ⟨_,ak H,_,ak H,_,ak H,_,ak H,_,ak H,_,ak H,_,ak H,_,ak H,_,ak H,_,ak H,_,ak H,_,ak H,_,ak H,_,ak H,_,ak H,_,ak H,_,ak H,_,ak H,_,ak H,_,ak H,f⟩
theorem aG.fY{x:aG.S}(g: ∀b H,b=h.size->aG.fR H b x->Fr No h H->K b H):bh h (.C aG.S.z.arr 73) λb f=>aG.dw f (AA b 0) x (K b):=
 gB (vs:=x.l) rfl rfl g
theorem aG.da{x:aG.S}(g: ∀b H,b=h.size->aG.fR H b x->Fr No h H->K b H):bh h (.C x.arr 73) λb f=>K b f:=
 cK (g _ _ rfl bZ (Fr.push _ _))
theorem aG.hU{y x:aG.S}{K:aj->Prop}(A:aG.fR h b y)(k: ∀H,aG.fR H b x->Fr (λy=>y=b) h H->H.size=h.size->K H):aG.dw h (AA b 0) x K:=
 (show dO (AA b 0) x.l 0 h K from fp A rfl rfl λi f D g=>k i f (Fr.of_eq D λC j=>g C j) D)
variable {p:aG.S}
abbrev aA.fR(h:aj)(b:Nat)(x:aA.S):Prop:=h[b]? =some (.cells x.arr 127 (0,0))
theorem aA.ex{K:aA.S->Prop}(x:aA.S)(H:K x):aA.EX K:=⟨_,_,_,_,_,_,_,H⟩
theorem aA.fN{x:aA.S}{K:aA.S->Prop}(H:aA.fR h b x)(f:K x):aA.cN h (AA b 0) K:=
 ⟨_,ak H,_,ak H,_,ak H,_,ak H,_,_,_,ak H,f⟩
theorem aA.lX{x:aA.S}{K:aA.S->Prop}(H:dP a x.l 0 h)(f:K x):aA.cN h a K:=by
 obtain⟨q,Q,g,i,j,_⟩:=H;rw[eX]at q;exact⟨_,q,_,Q,_,g,_,i,_,_,_,j,f⟩
theorem aA.AX{x:aA.S}(H:aA.fR h b x):dP (AA b 0) x.l 0 h:=
 hT H (λj V f=>by rw[bM];simpa using f)
theorem aA.fY{x:aA.S}(g: ∀b H,b=h.size->aA.fR H b x->Fr No h H->K b H):bh h (.C aA.S.z.arr 127) λb f=>aA.dw f (AA b 0) x (K b):=
 gB (vs:=x.l) rfl rfl g
theorem aA.da{x:aA.S}(g: ∀b H,b=h.size->aA.fR H b x->Fr No h H->K b H):bh h (.C x.arr 127) λb f=>K b f:=
 cK (g _ _ rfl bZ (Fr.push _ _))
theorem aA.hU{y x:aA.S}{K:aj->Prop}(A:aA.fR h b y)(k: ∀H,aA.fR H b x->Fr (λy=>y=b) h H->H.size=h.size->K H):aA.dw h (AA b 0) x K:=
 (show dO (AA b 0) x.l 0 h K from fp A rfl rfl λi f D g=>k i f (Fr.of_eq D λC j=>g C j) D)
abbrev av.fR(h:aj)(b:Nat)(x:av.S):Prop:=h[b]? =some (.cells x.arr 76 (0,0))
theorem av.ex{K:av.S->Prop}(x:av.S)(H:K x):av.EX K:=⟨_,_,_,_,_,_,_,_,_,_,_,_,_,_,_,_,_,_,_,_,_,_,_,H⟩
theorem av.fN{x:av.S}{K:av.S->Prop}(H:av.fR h b x)(f:K x):av.cN h (AA b 0) K:=
 ⟨_,ak H,_,ak H,_,ak H,_,ak H,_,ak H,_,ak H,_,ak H,_,ak H,_,ak H,_,ak H,_,ak H,_,ak H,_,ak H,_,ak H,_,ak H,_,ak H,_,ak H,_,ak H,_,ak H,_,ak H,_,_,_,ak H,f⟩
theorem av.fY{x:av.S}(g: ∀b H,b=h.size->av.fR H b x->Fr No h H->K b H):bh h (.C av.S.z.arr 76) λb f=>av.dw f (AA b 0) x (K b):=
 gB (vs:=x.l) rfl rfl g
theorem av.da{x:av.S}(g: ∀b H,b=h.size->av.fR H b x->Fr No h H->K b H):bh h (.C x.arr 76) λb f=>K b f:=
 cK (g _ _ rfl bZ (Fr.push _ _))
theorem av.hU{y x:av.S}{K:aj->Prop}(A:av.fR h b y)(k: ∀H,av.fR H b x->Fr (λy=>y=b) h H->H.size=h.size->K H):av.dw h (AA b 0) x K:=
 (show dO (AA b 0) x.l 0 h K from fp A rfl rfl λi f D g=>k i f (Fr.of_eq D λC j=>g C j) D)
abbrev aO.fR(h:aj)(b:Nat)(x:aO.S):Prop:=h[b]? =some (.cells x.arr 237 (0,0))
theorem aO.ex{K:aO.S->Prop}(x:aO.S)(H:K x):aO.EX K:=⟨_,_,_,_,_,_,_,_,_,_,_,_,H⟩
theorem aO.fN{x:aO.S}{K:aO.S->Prop}(H:aO.fR h b x)(f:K x):aO.cN h (AA b 0) K:=
 ⟨_,ak H,_,ak H,_,ak H,_,ak H,_,ak H,_,ak H,_,ak H,_,ak H,_,ak H,_,ak H,_,ak H,_,ak H,f⟩
theorem aO.fY{x:aO.S}(g: ∀b H,b=h.size->aO.fR H b x->Fr No h H->K b H):bh h (.C aO.S.z.arr 237) λb f=>aO.dw f (AA b 0) x (K b):=
 gB (vs:=x.l) rfl rfl g
theorem aO.da{x:aO.S}(g: ∀b H,b=h.size->aO.fR H b x->Fr No h H->K b H):bh h (.C x.arr 237) λb f=>K b f:=
 cK (g _ _ rfl bZ (Fr.push _ _))
theorem aO.hU{y x:aO.S}{K:aj->Prop}(A:aO.fR h b y)(k: ∀H,aO.fR H b x->Fr (λy=>y=b) h H->H.size=h.size->K H):aO.dw h (AA b 0) x K:=
 (show dO (AA b 0) x.l 0 h K from fp A rfl rfl λi f D g=>k i f (Fr.of_eq D λC j=>g C j) D)
abbrev aI.fR(h:aj)(b:Nat)(x:aI.S):Prop:=h[b]? =some (.cells x.arr 28 (0,0))
theorem aI.ex{K:aI.S->Prop}(x:aI.S)(H:K x):aI.EX K:=⟨_,_,_,_,_,_,_,_,_,_,_,_,_,_,_,_,_,_,_,_,_,H⟩
theorem aI.fN{x:aI.S}{K:aI.S->Prop}(H:aI.fR h b x)(f:K x):aI.cN h (AA b 0) K:=
 ⟨_,ak H,_,ak H,_,ak H,_,ak H,_,ak H,_,ak H,_,ak H,_,ak H,_,ak H,_,ak H,_,ak H,_,ak H,_,ak H,_,ak H,_,ak H,_,_,_,ak H,_,ak H,_,ak H,_,ak H,f⟩
theorem aI.fY{x:aI.S}(g: ∀b H,b=h.size->aI.fR H b x->Fr No h H->K b H):bh h (.C aI.S.z.arr 28) λb f=>aI.dw f (AA b 0) x (K b):=
 gB (vs:=x.l) rfl rfl g
theorem aI.da{x:aI.S}(g: ∀b H,b=h.size->aI.fR H b x->Fr No h H->K b H):bh h (.C x.arr 28) λb f=>K b f:=
 cK (g _ _ rfl bZ (Fr.push _ _))
theorem aI.hU{y x:aI.S}{K:aj->Prop}(A:aI.fR h b y)(k: ∀H,aI.fR H b x->Fr (λy=>y=b) h H->H.size=h.size->K H):aI.dw h (AA b 0) x K:=
 (show dO (AA b 0) x.l 0 h K from fp A rfl rfl λi f D g=>k i f (Fr.of_eq D λC j=>g C j) D)
abbrev ar.fR(h:aj)(b:Nat)(x:ar.S):Prop:=h[b]? =some (.cells x.arr 47 (0,0))
theorem ar.ex{K:ar.S->Prop}(x:ar.S)(H:K x):ar.EX K:=⟨_,_,_,_,_,_,_,_,H⟩
theorem ar.fN{x:ar.S}{K:ar.S->Prop}(H:ar.fR h b x)(f:K x):ar.cN h (AA b 0) K:=
 ⟨_,ak H,_,ak H,_,ak H,_,ak H,_,ak H,_,_,_,ak H,f⟩
theorem ar.fY{x:ar.S}(g: ∀b H,b=h.size->ar.fR H b x->Fr No h H->K b H):bh h (.C ar.S.z.arr 47) λb f=>ar.dw f (AA b 0) x (K b):=
 gB (vs:=x.l) rfl rfl g
theorem ar.da{x:ar.S}(g: ∀b H,b=h.size->ar.fR H b x->Fr No h H->K b H):bh h (.C x.arr 47) λb f=>K b f:=
 cK (g _ _ rfl bZ (Fr.push _ _))
theorem ar.hU{y x:ar.S}{K:aj->Prop}(A:ar.fR h b y)(k: ∀H,ar.fR H b x->Fr (λy=>y=b) h H->H.size=h.size->K H):ar.dw h (AA b 0) x K:=
 (show dO (AA b 0) x.l 0 h K from fp A rfl rfl λi f D g=>k i f (Fr.of_eq D λC j=>g C j) D)
abbrev aR.fR(h:aj)(b:Nat)(x:aR.S):Prop:=h[b]? =some (.cells x.arr 30 (0,0))
theorem aR.ex{K:aR.S->Prop}(x:aR.S)(H:K x):aR.EX K:=⟨_,_,_,_,_,_,_,_,_,_,_,_,_,_,_,_,_,_,_,_,_,_,_,_,_,_,_,_,H⟩
theorem aR.fN{x:aR.S}{K:aR.S->Prop}(H:aR.fR h b x)(f:K x):aR.cN h (AA b 0) K:=
 ⟨_,ak H,_,ak H,_,ak H,_,ak H,_,ak H,_,ak H,_,ak H,_,ak H,_,ak H,_,ak H,_,ak H,_,ak H,_,ak H,_,ak H,_,ak H,_,ak H,_,ak H,_,ak H,_,ak H,_,_,_,ak H,_,ak H,_,ak H,_,ak H,_,_,_,ak H,f⟩
theorem aR.lX{x:aR.S}{K:aR.S->Prop}(H:dP a x.l 0 h)(f:K x):aR.cN h a K:=by
 obtain⟨q,Q,y,E,F,G,I,J,M,O,g,i,j,k,n,o,r,t,u,w,z,A,C,D,_⟩:=H;rw[eX]at q;exact⟨_,q,_,Q,_,y,_,E,_,F,_,G,_,I,_,J,_,M,_,O,_,g,_,i,_,j,_,k,_,n,_,o,_,r,_,t,_,u,_,_,_,w,_,z,_,A,_,C,_,_,_,D,f⟩
theorem aR.fY{x:aR.S}(g: ∀b H,b=h.size->aR.fR H b x->Fr No h H->K b H):bh h (.C aR.S.z.arr 30) λb f=>aR.dw f (AA b 0) x (K b):=
 gB (vs:=x.l) rfl rfl g
theorem aR.da{x:aR.S}(g: ∀b H,b=h.size->aR.fR H b x->Fr No h H->K b H):bh h (.C x.arr 30) λb f=>K b f:=
 cK (g _ _ rfl bZ (Fr.push _ _))
theorem aR.hU{y x:aR.S}{K:aj->Prop}(A:aR.fR h b y)(k: ∀H,aR.fR H b x->Fr (λy=>y=b) h H->H.size=h.size->K H):aR.dw h (AA b 0) x K:=
 (show dO (AA b 0) x.l 0 h K from fp A rfl rfl λi f D g=>k i f (Fr.of_eq D λC j=>g C j) D)
abbrev aQ.fR(h:aj)(b:Nat)(x:aQ.S):Prop:=h[b]? =some (.cells x.arr 194 (0,0))
theorem aQ.ex{K:aQ.S->Prop}(x:aQ.S)(H:K x):aQ.EX K:=⟨_,_,_,_,_,_,_,_,_,_,_,_,H⟩
theorem aQ.lX{x:aQ.S}{K:aQ.S->Prop}(H:dP a x.l 0 h)(f:K x):aQ.cN h a K:=by
 obtain⟨q,Q,g,i,j,k,n,o,r,t,_⟩:=H;rw[eX]at q;exact⟨_,q,_,Q,_,g,_,i,_,j,_,k,_,_,_,n,_,o,_,r,_,t,f⟩
theorem aQ.da{x:aQ.S}(g: ∀b H,b=h.size->aQ.fR H b x->Fr No h H->K b H):bh h (.C x.arr 194) λb f=>K b f:=
 cK (g _ _ rfl bZ (Fr.push _ _))
theorem aQ.hU{y x:aQ.S}{K:aj->Prop}(A:aQ.fR h b y)(k: ∀H,aQ.fR H b x->Fr (λy=>y=b) h H->H.size=h.size->K H):aQ.dw h (AA b 0) x K:=
 (show dO (AA b 0) x.l 0 h K from fp A rfl rfl λi f D g=>k i f (Fr.of_eq D λC j=>g C j) D)
abbrev aJ.fR(h:aj)(b:Nat)(x:aJ.S):Prop:=h[b]? =some (.cells x.arr 132 (0,0))
theorem aJ.ex{K:aJ.S->Prop}(x:aJ.S)(H:K x):aJ.EX K:=⟨_,_,_,_,_,_,H⟩
theorem aJ.fY{x:aJ.S}(g: ∀b H,b=h.size->aJ.fR H b x->Fr No h H->K b H):bh h (.C aJ.S.z.arr 132) λb f=>aJ.dw f (AA b 0) x (K b):=
 gB (vs:=x.l) rfl rfl g
abbrev cz.fR(h:aj)(b:Nat)(x:cz.S):Prop:=h[b]? =some (.cells x.arr 181 (0,0))
theorem cz.ex{K:cz.S->Prop}(x:cz.S)(H:K x):cz.EX K:=⟨_,_,_,_,_,_,_,_,_,_,_,_,_,_,_,_,_,_,_,_,_,_,_,H⟩
theorem cz.fN{x:cz.S}{K:cz.S->Prop}(H:cz.fR h b x)(f:K x):cz.cN h (AA b 0) K:=
 ⟨_,ak H,_,ak H,_,ak H,_,ak H,_,ak H,_,ak H,_,ak H,_,ak H,_,ak H,_,ak H,_,ak H,_,ak H,_,ak H,_,ak H,_,ak H,_,_,_,ak H,_,ak H,_,ak H,_,ak H,_,ak H,_,ak H,f⟩
theorem cz.da{x:cz.S}(g: ∀b H,b=h.size->cz.fR H b x->Fr No h H->K b H):bh h (.C x.arr 181) λb f=>K b f:=
 cK (g _ _ rfl bZ (Fr.push _ _))
abbrev cF.fR(h:aj)(b:Nat)(x:cF.S):Prop:=h[b]? =some (.cells x.arr 188 (0,0))
theorem cF.ex{K:cF.S->Prop}(x:cF.S)(H:K x):cF.EX K:=⟨_,_,_,_,_,_,_,_,_,_,_,_,_,_,_,_,_,_,_,_,_,_,_,_,_,_,_,H⟩
theorem cF.fN{x:cF.S}{K:cF.S->Prop}(H:cF.fR h b x)(f:K x):cF.cN h (AA b 0) K:=
 ⟨_,ak H,_,ak H,_,ak H,_,ak H,_,ak H,_,ak H,_,ak H,_,ak H,_,ak H,_,ak H,_,ak H,_,ak H,_,ak H,_,ak H,_,ak H,_,ak H,_,ak H,_,ak H,_,ak H,_,ak H,_,_,_,ak H,_,ak H,_,_,_,ak H,f⟩
theorem cF.da{x:cF.S}(g: ∀b H,b=h.size->cF.fR H b x->Fr No h H->K b H):bh h (.C x.arr 188) λb f=>K b f:=
 cK (g _ _ rfl bZ (Fr.push _ _))
theorem qG.walk(H:R (.I (wrap .i64 (2*S))) h):Cl 248 #[.I S] h R:=aP (lq ll) Tryz.func248 H
theorem AY.walk (o:aH (λ(u:Bool) (H:aj)=>if u then R (.I (-1)) H else Bd v l/\aM L λa=> ∃k,aY H ((a.add (toNat v*4)).add 1)=some (.U k)/\R (.I (wrap .i64 k)) H) (λJ=>if(decide (v<0))then J true h else if(decide (v≥(l:Int)))then J true h else Bd v l/\aM L λA=> ∃t,aY h ((A.add (toNat v*4)).add 1)=some (.U t)/\if(decide (t>2))then J true h else Bd v l/\aM L λg=>aa.cN h (g.add (toNat v*4)) λq=>Bd v l/\aM L λn=>gK h ((n.add (toNat v*4)).add 1) λr=>Cl 109 #[.U r] h λV f=>aa.EX λT=>V=T.agg/\Kp h f [(some (g.add (toNat v*4))),(some ((A.add (toNat v*4)).add 1))]/\Cl 212 #[q.agg,T.agg] f λw i=> ∃j,w=.B j/\Kp f i [(some ((A.add (toNat v*4)).add 1))]/\J (!j) i)):Cl 171 #[.L L l c,.I v] h R:=aP (lq (sq (sq (.join [(34,.one (.bool))] (pK 30)) (cq ll lf)) ll)) Tryz.func171 o
theorem Cy.walk (J:Cl 247 #[.L L l c] h λc' u=>Vl c' λQ O M=>Cl 248 #[.I S] u λd' A=>Vi d' λj=>aW Tryz.prog (Instr.makeSlice 26 (.I j) (.I j)) A λe' C=>Vl e' λX V U=>Cl 114 #[.L X V U] C λf' D=>aa.EX λk=>f'=k.agg/\bh D (.C k.arr 167) λb E=>aW Tryz.prog (Builtin.append_ #[165,165] 165 #[.L Q O M,.L (Sa b 0) 1 1]) E λg' F=>Vl g' λb' a' Z=>Cl 168 #[.L b' a' Z] F λh' G=>aa.EX λn=>h'=n.agg/\Cl 77 #[n.agg] G λi' H=> ∃g f T o,i'=.T #[.L g f T,.I o]/\if(o !=0)then R (.T #[.Z,.I 3]) H else if(S==1)then Cl 249 #[.L g f T] H λj' I=> ∃i,j'=.int .u16 i/\bh I (.C #[.int .u8 (wrap .u8 (Int.fdiv i (2 ^ min (toNat 8) (IntKind.bits .u16)))),.int .u8 (wrap .u8 i)] 5) λq w=>R (.T #[.L (Sa q 0) 2 2,.I 0]) w else Cl 250 #[.L g f T] H λk' y=> ∃t,k'=.int .u32 t/\bh y (.C #[.int .u8 (wrap .u8 (Int.fdiv t (2 ^ min (toNat 24) (IntKind.bits .u32)))),.int .u8 (wrap .u8 (Int.fdiv t (2 ^ min (toNat 16) (IntKind.bits .u32)))),.int .u8 (wrap .u8 (Int.fdiv t (2 ^ min (toNat 8) (IntKind.bits .u32)))),.int .u8 (wrap .u8 t)] 5) λr z=>R (.T #[.L (Sa r 0) 4 4,.I 0]) z):Cl 173 #[.L L l c,.I S] h R:=aP (lq (lq (sq (lq (cq ll lf)) (sq (lq (cq (lq ll) lf)) (lq ll))))) Tryz.func173 J
theorem EK.walk (hv:aa.NW h λb n=>aH (λ(k':Bool) (y:aj)=>if k' then aa.dw y (AA b 0) aa.S.z λA=>aa.cN A (AA b 0) λr0=>R (.T #[r0.agg,.I 1]) A else Cl 171 #[.L L l c,.I v] y λr' d'=>Vi r' λt=>aH (λ(l':Bool) (C:aj)=>if l' then aa.dw C (AA b 0) aa.S.z λD=>aa.cN D (AA b 0) λg'=>R (.T #[g'.agg,.I 3]) D else Cl 168 #[.L L l c] C λs' e'=>aa.EX λG=>s'=G.agg/\aa.NW e' λf f'=>aa.dw f' (AA f 0) G λE=>aH (λ(o:aj)=>aa.cN o (AA f 0) λp'=>Cl 111 #[p'.agg] o λt' g=> ∃Z,t'=.B Z/\if(!Z)then aa.dw g (AA b 0) aa.S.z λq=>aa.cN q (AA b 0) λh'=>R (.T #[h'.agg,.I 3]) q else aa.cN g (AA f 0) λq'=>aa.dw g (AA b 0) q' λr=>aa.cN r (AA b 0) λi'=>R (.T #[i'.agg,.I 0]) r) (λk=>if(decide (t>0))then Cl 173 #[.L L l c,.I t] E λu' H=> ∃O M I T,u'=.T #[.L O M I,.I T]/\if(T !=0)then aa.dw H (AA b 0) aa.S.z λu=>aa.cN u (AA b 0) λj'=>R (.T #[j'.agg,.I T]) u else Hl H f 3 λo' n' m'=>Cl 114 #[.L O M I] H λv' i=>aa.EX λQ=>v'=Q.agg/\Kp H i [(Sa f 3)]/\bh i (.C Q.arr 167) λa' w=>Kp i w [(Sa f 3)]/\aW Tryz.prog (Builtin.append_ #[165,165] 165 #[.L o' n' m',.L (Sa a' 0) 1 1]) w λw' b'=> ∃X V U,w'=.L X V U/\aT b' (AA f 3) (.L X V U) λc'=>k c' else k E)) (λj=>Cl 172 #[.L L l c,.func (.func 170) #[] #[]] d' λx' z=> ∃F,x'=.B F/\if F then j true z else j (decide (t<0)) z)) (λJ=>if(decide (v<0))then J true n else J (decide (v≥(l:Int))) n)):Cl 110 #[.L L l c,.I v] h R:=aP (lq (sq (sq (.join [(18,.one (.bool))] lf) (cq ll lf)) (lq (lq (sq (sq (.join [(29,.one (.bool))] lf) (cq ll lf)) (lq (sq (lq (.join [] (cq (lq (sq (lq (cq ll lf)) (pK 8))) lf))) (sq (lq (cq ll lf)) ll)))))))) Tryz.func110 hv
theorem AZ.walk(g:bh h (.C x.arr 167) λb H=>aa.cN H (AA b 0) λT=>Cl 111 #[T.agg] H λV f=> ∃t,V=.B t/\R (.B (!t)) f):Cl 170 #[x.agg] h R:=aP (lq ll) Tryz.func170 g
theorem EL.walk (hv:bh h (.C x.arr 167) λb C=>aH (λ(u':Bool) (u:aj)=>if u' then R (.T #[.Z,.I 3]) u else∃O M I,Cc u b 3 (.L O M I)/\Cl 171 #[.L O M I,.I v] u λF' H=> ∃T,F'=.I T/\if(decide (T<0))then R (.T #[.Z,.I 3]) H else if(T==0)then∃V U Q,Cc H b 3 (.L V U Q)/\Cl 168 #[.L V U Q] H λG' r'=>aa.EX λj=>G'=j.agg/\R (.T #[.L j.SK j.FN j.Qy,.I 0]) r' else∃w' t v',Cc H b 3 (.L w' t v')/\∃Z X x',Cc H b 3 (.L Z X x')/\((0:Int)<=wrap .i64 (((t:Nat):Int) - 1)/\wrap .i64 (((t:Nat):Int) - 1)<((X:Nat):Int))/\aM Z λa=>aa.cN H (a.add (toNat (wrap .i64 (((t:Nat):Int) - 1))*4)) λy'=>aa.NW H λf s'=>aa.dw s' (AA f 0) y' λg=>aH (λ(C':Bool) (w:aj)=>if C' then R (.T #[.Z,.I 3]) w else∃h' D' k,Cc w b 3 (.L h' D' k)/\((0:Int)<=wrap .i64 (((t:Nat):Int) - 1)/\wrap .i64 (((t:Nat):Int) - 1)<=((k:Nat):Int))/\Cl 173 #[.slice (cT h' k 0 4) ((toNat (wrap .i64 (((t:Nat):Int) - 1))) - 0) (k - 0),.I T] w λH' y=> ∃k' j' i' A,H'=.T #[.L k' j' i',.I A]/\if(A !=0)then R (.T #[.Z,.I A]) y else∃n' m' l',Cc y f 2 (.L n' m' l')/\Cl 69 #[.L k' j' i',.L n' m' l'] y λI' z=> ∃o',I'=.B o'/\if(!o')then R (.T #[.Z,.I 10]) z else∃p' E' n,Cc z b 3 (.L p' E' n)/\((0:Int)<=wrap .i64 (((t:Nat):Int) - 1)/\wrap .i64 (((t:Nat):Int) - 1)<=((n:Nat):Int))/\Cl 168 #[.slice (cT p' n 0 4) ((toNat (wrap .i64 (((t:Nat):Int) - 1))) - 0) (n - 0)] z λJ' q'=>aa.EX λo=>J'=o.agg/\R (.T #[.L o.SK o.FN o.Qy,.I 0]) q') (λq=>if(decide ((wrap .i64 (((t:Nat):Int) - 1))<=v))then q true g else aa.cN g (AA f 0) λz'=> ∃c' b' a',Cc g f 2 (.L c' b' a')/\Cl 114 #[.L c' b' a'] g λK' D=>aa.EX λd'=>K'=d'.agg/\Kp g D [(Sa f 0)]/\Cl 212 #[z'.agg,d'.agg] D λL' i=> ∃e',L'=.B e'/\if(!e')then q true i else∃B' f' A',Cc i f 2 (.L B' f' A')/\Cl 248 #[.I T] i λM' E=> ∃g',M'=.I g'/\Kp i E [(Sa f 2)]/\q (((f':Nat):Int) !=g') E)) (λJ=>aa.cN C (AA b 0) λt'=>Cl 111 #[t'.agg] C λO' r=> ∃F,O'=.B F/\if(!F)then J true r else∃G,Cc r b 0 (.I G)/\J (G !=4) r)):Cl 209 #[x.agg,.I v] h R:=aP (lq (sq (sq (.join [(18,.one (.bool))] lf) (cq ll lf)) (lq (sq (bq (lq (cq ll (lq (cq ll lf))))) (lq (lq (sq (sq (.join [(60,.one (.bool))] (pK 19)) (cq ll lf)) (lq (sq (bq (lq (cq ll (lq (cq ll lf))))) ll))))))))) Tryz.func209 hv
theorem Cz.walk(r:bh h (.C p.arr 73) λb H=> ∃o,Cc H b 0 (.U o)/\if((wrap .u64 ((od o &&& ~~~ od 409638).toNat:Int))==0)then∃q,Cc H b 1 (.I q)/\if(decide (q≥0))then∃t,Cc H b 1 (.I t)/\if(decide (t<=2))then az.cN H (AA b 2) λu=>Cl 44 #[u.agg] H λV f=> ∃T,V=.B T/\if T then az.cN f (AA b 7) λw=>Cl 44 #[w.agg] f λz g=> ∃j,z=.B j/\if j then ah.cN g (AA b 12) λy=>Cl 167 #[y.agg] g λA i=> ∃k,A=.B k/\if k then∃n,Cc i b 19 (.U n)/\R (.B (decide (n<=1099511627776))) i else R (.B false) i else R (.B false) g else R (.B false) f else R (.B false) H else R (.B false) H else R (.B false) H):Cl 106 #[p.agg] h R:=aP (lq ll) Tryz.func106 r
theorem CA.walk(hv:bh h (.C p.arr 73) λb V=>aa.NW V λj w=>aG.cN w (AA b 0) λg'=>Cl 106 #[g'.agg] w λy' r=> ∃T,y'=.B T/\if(!T)then aa.dw r (AA j 0) aa.S.z λz=>aa.cN z (AA j 0) λr0=>R (.T #[r0.agg,.I 3]) z else az.cN r (AA b 2) λh'=>Cl 107 #[h'.agg] r λz' b'=>aa.EX λD=> ∃i',z'=.T #[D.agg,.I i']/\aa.NW b' λg c'=>aa.dw c' (AA g 0) D λC=>az.cN C (AA b 7) λj'=>Cl 107 #[j'.agg] C λA' d'=>aa.EX λE=> ∃k',A'=.T #[E.agg,.I k']/\aa.NW d' λi e'=>aa.dw e' (AA i 0) E λt=>ah.cN t (AA b 12) λl'=>Cl 108 #[l'.agg] t λB' X=>aa.EX λF=> ∃m',B'=.T #[F.agg,.I m']/\aa.NW X λf Z=>aa.dw Z (AA f 0) F λH=>Hu H b 0 λn'=>Hi H b 1 λo'=>aa.cN H (AA g 0) λp'=>Hl H f 3 λr' q' _=>Bd 0 q'/\aM r' λa=>aa.cN H (a.add (toNat 0*4)) λs'=>aa.cN H (AA i 0) λt'=>Hl H f 3 λv' u' _=>Bd 1 u'/\aM v' λA=>aa.cN H (A.add (toNat 1*4)) λw'=>Hu H b 19 λx'=>Cl 109 #[.U 7] H λC' k=>aa.EX λG=>C'=G.agg/\Kp H k [(Sa b 19),(some (A.add (toNat 1*4))),(Sa f 3),(Sa i 0),(some (a.add (toNat 0*4))),(Sa f 3),(Sa g 0),(Sa b 1),(Sa b 0)]/\Cl 109 #[.U n'] k λD' n=>aa.EX λI=>D'=I.agg/\Kp k n [(Sa b 19),(some (A.add (toNat 1*4))),(Sa f 3),(Sa i 0),(some (a.add (toNat 0*4))),(Sa f 3),(Sa g 0),(Sa b 1)]/\Cl 109 #[.U (wrap .u64 o')] n λE' o=>aa.EX λJ=>E'=J.agg/\Kp n o [(Sa b 19),(some (A.add (toNat 1*4))),(Sa f 3),(Sa i 0),(some (a.add (toNat 0*4))),(Sa f 3),(Sa g 0),(Sa b 1)]/\Cl 109 #[.U x'] o λF' q=>aa.EX λM=>F'=M.agg/\Kp o q [(some (A.add (toNat 1*4))),(Sa f 3),(Sa i 0),(some (a.add (toNat 0*4))),(Sa f 3),(Sa g 0),(Sa b 1)]/\bh q (.C (G.l++I.l++J.l++p'.l++s'.l++t'.l++w'.l++M.l).toArray 167) λU u=>Kp q u [(Sa f 3),(Sa f 3),(Sa b 1)]/\Cl 110 #[.L (Sa U 0) 8 8,.I 2] u λG' a'=>aa.EX λO=> ∃Q,G'=.T #[O.agg,.I Q]/\aa.dw a' (AA j 0) O λy=>aa.cN y (AA j 0) λf'=>R (.T #[f'.agg,.I Q]) y):Cl 76 #[p.agg] h R:=aP (lq (sq (lq (cq ll lf)) (lq (lq (lq (sq (.kz (.op 1 (.op 2 (ga 3 4 (ga 12 8 (.op 0 (.op 3 (.op 7 (ga 3 20 .done))))))))) ll)))))) Tryz.func76 hv
theorem EM.walk (hv:bh h (.C x.arr 167) λb G'=>aG.NW G' λf b'=>aa.cN b' (AA b 0) λa8=>Cl 209 #[a8.agg,.I 2] b' λc0 q=> ∃T t a9 z,c0=.T #[.L T t a9,.I z]/\if(z !=0)then aG.dw q (AA f 0) aG.S.z λg'=>aG.cN g' (AA f 0) λr0=>R (.T #[r0.agg,.I z]) g' else if(((t:Nat):Int) !=8)then aG.dw q (AA f 0) aG.S.z λh'=>aG.cN h' (AA f 0) λa5=>R (.T #[a5.agg,.I 3]) h' else Bd 3 t/\aM T λa=>aa.cN q (a.add (toNat 3*4)) λb0=>Cl 210 #[b0.agg] q λc1 a2=>az.EX λj'=> ∃k',c1=.T #[j'.agg,.I k']/\az.NW a2 λr a3=>az.dw a3 (AA r 0) j' λi'=>Bd 5 t/\aM T λC'=>aa.cN i' (C'.add (toNat 5*4)) λb1=>Cl 210 #[b1.agg] i' λc4 a4=>az.EX λl'=> ∃m',c4=.T #[l'.agg,.I m']/\az.NW a4 λu H'=>az.dw H' (AA u 0) l' λk=>aH (λ(id:ck) (F':Int) (H:aj)=>Bd 1 t/\aM T λC=>gK H ((C.add (toNat 1*4)).add 1) λb2=>Bd 2 t/\aM T λD=>gK H ((D.add (toNat 2*4)).add 1) λb3=>az.cN H (AA r 0) λn=>az.cN H (AA u 0) λo=>aM id λD'=>ah.cN H D' λi=>Bd 7 t/\aM T λE=>gK H ((E.add (toNat 7*4)).add 1) λb4=>aG.NW H λw X=>Kp H X [(some ((E.add (toNat 7*4)).add 1)),id,(Sa u 0),(Sa r 0),(some ((D.add (toNat 2*4)).add 1)),(some ((C.add (toNat 1*4)).add 1))]/\aG.dw X (AA w 0) ⟨b2,(wrap .i64 b3),n.f0,n.f1,n.f2,n.f3,n.f4,o.f0,o.f1,o.f2,o.f3,o.f4,i.f0,i.f1,i.f2,i.f3,i.f4,i.f5,i.f6,b4⟩ λZ=>aG.cN Z (AA w 0) λb5=>Cl 76 #[b5.agg] Z λc5 I'=>aa.EX λz'=> ∃A',c5=.T #[z'.agg,.I A']/\aa.NW I' λM J'=>aa.dw J' (AA M 0) z' λg=>aH (λ(b8:Bool) (y:aj)=>if b8 then aG.dw y (AA f 0) aG.S.z λa'=>aG.cN a' (AA f 0) λa6=>R (.T #[a6.agg,.I 3]) a' else aG.cN y (AA w 0) λb9=>aG.dw y (AA f 0) b9 λc'=>aG.cN c' (AA f 0) λa7=>R (.T #[a7.agg,.I 0]) c') (λj=>if(k' !=0)then j true g else if(m' !=0)then j true g else if(F' !=0)then j true g else if(A' !=0)then j true g else aa.cN g (AA M 0) λb6=>aa.cN g (AA b 0) λb7=>Cl 212 #[b6.agg,b7.agg] g λc6 K'=> ∃B',c6=.B B'/\j (!B') K')) (λJ=>Bd 4 t/\aM T λF=>aa.cN k (F.add (toNat 4*4)) λn'=>Bd 6 t/\aM T λG=>aa.cN k (G.add (toNat 6*4)) λo'=>(bh k (.C (n'.l++o'.l).toArray 167) λO d'=>(Cl 168 #[.L (Sa O 0) 2 2] d' λc7 e'=>aa.EX λA=>c7=A.agg/\(Cl 211 #[A.agg] e' λc8 L'=>ah.EX λr'=> ∃v',c8=.T #[r'.agg,.I v']/\ah.NW L' λQ M'=>ah.dw M' (AA Q 0) r' λO'=>J (Sa Q 0) v' O')/\(ah.NW e' λU P'=>Cl 211 #[A.agg] P' λc9 Q'=>ah.EX λs'=> ∃w',c9=.T #[s'.agg,.I w']/\ah.dw Q' (AA U 0) s' λR'=>J (Sa U 0) w' R')/\True)/\(ah.NW d' λV S'=>Cl 168 #[.L (Sa O 0) 2 2] S' λd0 T'=>aa.EX λp'=>d0=p'.agg/\Cl 211 #[p'.agg] T' λd1 U'=>ah.EX λt'=> ∃x',d1=.T #[t'.agg,.I x']/\ah.dw U' (AA V 0) t' λV'=>J (Sa V 0) x' V')/\True)/\(ah.NW k λI f'=>Kp k f' [(some (G.add (toNat 6*4))),(some (F.add (toNat 4*4)))]/\bh f' (.C (n'.l++o'.l).toArray 167) λE' X'=>Cl 168 #[.L (Sa E' 0) 2 2] X' λc2 Z'=>aa.EX λq'=>c2=q'.agg/\Cl 211 #[q'.agg] Z' λc3 a0=>ah.EX λu'=> ∃y',c3=.T #[u'.agg,.I y']/\ah.dw a0 (AA I 0) u' λa1=>J (Sa I 0) y' a1)/\True)):Cl 145 #[x.agg] h R:=aP (lq (lq (sq (bq (lq (cq ll (lq (cq ll lf))))) (lq (lq (sq (.join [(9,.one (.ptr)),(10,.one (.int .i64))] (.kz (ga 6 0 (.alts (.fork 6 (.alts (.fork 7 (.alts (.fork 8 (ga 6 9 .done) (.fork 12 (ga 4 8 (.op 13 (.op 14 .done))) .gM))) (.fork 12 (ga 5 7 (.op 13 (.op 14 .done))) .gM))) (.fork 12 (ga 6 6 (.op 13 (.op 14 .done))) .gM)))))) (sq (pK 19) (lq (sq (sq (.join [(96,.one (.bool))] lf) (cq ll lf)) ll))))))))) Tryz.func145 hv
theorem Jg.walk (H:if((wrap .u32 ((BitVec.ofInt (IntKind.bits .u32) s &&& BitVec.ofInt (IntKind.bits .u32) 1).toNat:Int))==1)then R (.int .u32 (wrap .u32 ((BitVec.ofInt (IntKind.bits .u32) (Int.fdiv s (2 ^ min (toNat 1) (IntKind.bits .u32))) ^^^ BitVec.ofInt (IntKind.bits .u32) P).toNat:Int))) h else R (.int .u32 (Int.fdiv s (2 ^ min (toNat 1) (IntKind.bits .u32)))) h):Cl 315 #[.int .u32 s,.int .u32 P] h R:=aP (lq (sq (lq (cq ll lf)) ll)) Tryz.func315 H
theorem G0.walk{C:Int}(i: ∃(I:Int->Int->aj->Prop)(M:Int->Int->aj->Nat),I (wrap .u32 ((BitVec.ofInt (IntKind.bits .u32) s ^^^ BitVec.ofInt (IntKind.bits .u32) (wrap .u32 C)).toNat:Int)) 0 h/\∀(f:Int)(t:Int)(H:aj),I f t H->if(decide (t<8))then Cl 315 #[.int .u32 f,.int .u32 P] H λV g=> ∃T,V=.int .u32 T/\(I T (wrap .i64 (t+1)) g/\M T (wrap .i64 (t+1)) g<M f t H)else R (.int .u32 f) H):Cl 310 #[.int .u32 s,.int .u8 C,.int .u32 P] h R:=aP (lq (lq (sq (lq (bq (.loop [(0,.one (.int .u32)),(11,.one (.int .i64))] (lq (sq (cq lf lf) (sq (bq lf) lf)))))) ll))) Tryz.func310 i
theorem OH.walk(i: ∃(I:Int->Int->aj->Prop)(M:Int->Int->aj->Nat),I s 0 h/\∀(f:Int)(t:Int)(H:aj),I f t H->if(decide (t<(B:Int)))then Bd t B/\aM d λa=>Kz H (a.add (toNat t*1)) λj=>Cl 310 #[.int .u32 f,.int .u8 j,.int .u32 P] H λV g=> ∃T,V=.int .u32 T/\(I T (wrap .i64 (t+1)) g/\M T (wrap .i64 (t+1)) g<M f t H)else R (.int .u32 f) H):Cl 290 #[.int .u32 s,.L d B e,.int .u32 P] h R:=aP (lq (sq (lq (bq (.loop [(0,.one (.int .u32)),(11,.one (.int .i64))] (lq (sq (cq lf lf) (sq (bq ll) lf)))))) ll)) Tryz.func290 i
theorem Jh.walk (f:Cl 290 #[.int .u32 65535,.L d B e,.int .u32 33800] h λV H=> ∃t,V=.int .u32 t/\R (.int .u16 (wrap .u16 ((BitVec.ofInt (IntKind.bits .u16) (IntKind.max .u16) ^^^ BitVec.ofInt (IntKind.bits .u16) (wrap .u16 t)).toNat:Int))) H):Cl 249 #[.L d B e] h R:=aP (lq ll) Tryz.func249 f
theorem Mc.walk (f:Cl 290 #[.int .u32 4294967295,.L d B e,.int .u32 2197175160] h λV H=> ∃t,V=.int .u32 t/\R (.int .u32 (wrap .u32 ((BitVec.ofInt (IntKind.bits .u32) (IntKind.max .u32) ^^^ BitVec.ofInt (IntKind.bits .u32) t).toNat:Int))) H):Cl 250 #[.L d B e] h R:=aP (lq ll) Tryz.func250 f
theorem G1.walk{x:ah.S}(i:bh h (.C x.arr 71) λb f=>az.cN f (AA b 0) λj=>Cl 44 #[j.agg] f λV H=> ∃T,V=.B T/\if T then∃g,Cc H b 5 (.U g)/\if(decide (g<=1099511627776))then∃t,Cc H b 6 (.U t)/\R (.B (decide (t<=1099511627776))) H else R (.B false) H else R (.B false) H):Cl 167 #[x.agg] h R:=aP (lq ll) Tryz.func167 i
theorem G2.walk{a:ah.S}{b:ah.S}(q:bh h (.C a.arr 71) λf n=>bh n (.C b.arr 71) λg H=>Hu H f 5 λA=> ∃k,Cc H g 5 (.U k)/\if(A !=k)then Hu H f 5 λr=> ∃t,Cc H g 5 (.U t)/\R (.B (decide (r<t))) H else Hu H f 6 λu=> ∃T,Cc H g 6 (.U T)/\if(u !=T)then Hu H f 6 λw=> ∃i,Cc H g 6 (.U i)/\R (.B (decide (w<i))) H else az.cN H (AA f 0) λy=>az.cN H (AA g 0) λz=>Cl 100 #[y.agg,z.agg] H λV o=> ∃j,V=.B j/\R (.B j) o):Cl 294 #[a.agg,b.agg] h R:=aP (lq (sq (bq (lq (cq ll (lq (cq ll lf))))) ll)) Tryz.func294 q
theorem Ha.walk{x:ah.S}(O:bh h (.C x.arr 71) λb F=>aa.NW F λg r=>ah.cN r (AA b 0) λt6=>Cl 167 #[t6.agg] r λb' j=> ∃C,b'=.B C/\if(!C)then aa.dw j (AA g 0) aa.S.z λt=>aa.cN t (AA g 0) λQ=>R (.T #[Q.agg,.I 3]) t else az.cN j (AA b 0) λV=>Cl 107 #[V.agg] j λc' J=>aa.EX λT=> ∃u,c'=.T #[T.agg,.I u]/\aa.NW J λf M=>aa.dw M (AA f 0) T λH=>aa.cN H (AA f 0) λX=>Hu H b 5 λZ=>Hu H b 6 λa'=>Cl 109 #[.U Z] H λd' k=>aa.EX λw=>d'=w.agg/\Kp H k [(Sa b 6),(Sa f 0)]/\Cl 109 #[.U a'] k λe' n=>aa.EX λy=>e'=y.agg/\Kp k n [(Sa f 0)]/\bh n (.C (w.l++y.l).toArray 167) λD i=>Kp n i [(Sa f 0)]/\Cl 168 #[.L (Sa D 0) 2 2] i λf' o=>aa.EX λz=>f'=z.agg/\Kp i o [(Sa f 0)]/\bh o (.C (X.l++z.l).toArray 167) λE G=>Cl 168 #[.L (Sa E 0) 2 2] G λg' I=>aa.EX λA=>g'=A.agg/\aa.dw I (AA g 0) A λq=>aa.cN q (AA g 0) λU=>R (.T #[U.agg,.I u]) q):Cl 108 #[x.agg] h R:=aP (lq (sq (lq (cq ll lf)) (lq (sq (.kz (ga 3 0 (.op 4 (.op 5 (.op 11 (.op 3 (ga 5 6 (.op 12 (.op 13 .done))))))))) lf)))) Tryz.func108 O
theorem Ji.walk (hv:bh h (.C x.arr 167) λb b'=>ah.NW b' λg H=>aH (λ(r':Bool) (j:aj)=>if r' then ah.dw j (AA g 0) ah.S.z λD=>ah.cN D (AA g 0) λr0=>R (.T #[r0.agg,.I 3]) D else Hl j b 3 λt' s' _=>Bd 0 s'/\aM t' λa=>aa.cN j (a.add (toNat 0*4)) λu'=>Cl 210 #[u'.agg] j λK' f'=>az.EX λO=> ∃Q,K'=.T #[O.agg,.I Q]/\az.NW f' λn g'=>az.dw g' (AA n 0) O λf=>az.cN f (AA n 0) λt=>Hl f b 3 λw' v' _=>Bd 1 v'/\aM w' λA=>mJ f ((A.add (toNat 1*4)).add 3) λy' x' _=>Bd 0 x'/\aM y' λr=>gK f ((r.add (toNat 0*4)).add 1) λz'=>Hl f b 3 λB' A' _=>Bd 1 A'/\aM B' λu=>mJ f ((u.add (toNat 1*4)).add 3) λD' C' _=>Bd 1 C'/\aM D' λw=>gK f ((w.add (toNat 1*4)).add 1) λE'=>ah.NW f λo E=>Kp f E [(some ((w.add (toNat 1*4)).add 1)),(some ((u.add (toNat 1*4)).add 3)),(Sa b 3),(some ((r.add (toNat 0*4)).add 1)),(some ((A.add (toNat 1*4)).add 3)),(Sa b 3),(Sa n 0)]/\ah.dw E (AA o 0) ⟨t.f0,t.f1,t.f2,t.f3,t.f4,z',E'⟩ λF=>ah.cN F (AA o 0) λF'=>Cl 108 #[F'.agg] F λL' c'=>aa.EX λU=> ∃V,L'=.T #[U.agg,.I V]/\aa.NW c' λy d'=>aa.dw d' (AA y 0) U λi=>aH (λ(I':Bool) (q:aj)=>if I' then ah.dw q (AA g 0) ah.S.z λz=>ah.cN z (AA g 0) λh'=>R (.T #[h'.agg,.I 3]) z else ah.cN q (AA o 0) λJ'=>ah.dw q (AA g 0) J' λC=>ah.cN C (AA g 0) λi'=>R (.T #[i'.agg,.I 0]) C) (λk=>if(Q !=0)then k true i else if(V !=0)then k true i else aa.cN i (AA y 0) λG'=>aa.cN i (AA b 0) λH'=>Cl 212 #[G'.agg,H'.agg] i λM' e'=> ∃X,M'=.B X/\k (!X) e')) (λJ=> ∃T,Cc H b 0 (.I T)/\if(T !=4)then J true H else∃k' G j',Cc H b 3 (.L k' G j')/\if(((G:Nat):Int) !=2)then J true H else Hl H b 3 λm' l' _=>Bd 1 l'/\aM m' λZ=> ∃I,aY H (Z.add (toNat 1*4))=some (.I I)/\if(I !=4)then J true H else Hl H b 3 λo' n' _=>Bd 1 n'/\aM o' λa'=> ∃q' M p',aY H ((a'.add (toNat 1*4)).add 3)=some (.L q' M p')/\J (((M:Nat):Int) !=2) H)):Cl 211 #[x.agg] h R:=aP (lq (sq (sq (.join [(34,.one (.bool))] lf) (cq ll lf)) (lq (sq (pK 20) (sq (lq (sq (.join [(78,.one (.bool))] lf) (cq ll lf))) ll))))) Tryz.func211 hv
theorem xf.walk{n:Int} (G:ah.NW h λb f=>aH (λ(i:aj)=>ah.cN i (AA m 0) λX=>ah.dw i (AA b 0) X λk=>ah.cN k (AA b 0) λI=>R (.T #[I.agg,.I 0]) k) (λJ=>aH (λ(U:Bool) (H:aj)=>aH (λ(D:aj)=>J D) (λw=>if U then ah.dw H (AA b 0) ah.S.z λo=>ah.cN o (AA b 0) λM=>R (.T #[M.agg,.I 6]) o else aH (λ(E:aj)=>w E) (λy=>if(decide (n>1099511627776))then ah.dw H (AA b 0) ah.S.z λq=>ah.cN q (AA b 0) λO=>R (.T #[O.agg,.I 1]) q else Hu H m 5 λV=>aH (λ(F:aj)=>y F) (λj=>if(decide (n>V))then aT H (AA m 5) (.U n) λz=>aT z (AA m 6) (.U 0) λA=>j A else∃r,Cc H m 6 (.U r)/\if(decide (r≥1099511627776))then ah.dw H (AA b 0) ah.S.z λg=>ah.cN g (AA b 0) λQ=>R (.T #[Q.agg,.I 5]) g else∃t,Cc H m 6 (.U t)/\aT H (AA m 6) (.U (wrap .u64 (t+1))) λC=>j C)))) (λu=> ∃T,Cc f m 7 (.B T)/\u (!T) f))):Cl 261 #[.P m 0,.U n] h R:=aP (lq (sq (.join [] (bq (sq (.join [(15,.one (.bool))] lf) (.join [] (cq ll (lq (.join [] (cq ll (lq (.join [] (cq lf (lq (cq ll lf))))))))))))) ll)) Tryz.func261 G
theorem xg.walk{x:ah.S}(q:bh h (.C x.arr 71) λb k=>aH (λ(D:Bool) (g:aj)=>if D then R (.I 6) g else aH (λ(r:Bool) (H:aj)=>if r then R (.I 1) H else ah.cN H (AA m 0) λz=>ah.cN H (AA b 0) λA=>Cl 294 #[z.agg,A.agg] H λV i=> ∃n,V=.B n/\if(!n)then R (.I 7) i else ah.cN i (AA b 0) λC=>ah.dw i (AA m 0) C λo=>R (.I 0) o) (λj=>ah.cN g (AA b 0) λu=>Cl 167 #[u.agg] g λF f=> ∃T,F=.B T/\if(!T)then j true f else az.cN f (AA b 0) λw=>az.cN f (AA m 0) λy=> ∃(E:Bool),zJ Tryz.prog 25 (w.agg) (y.agg) E/\j (!E) f)) (λJ=> ∃t,Cc k m 7 (.B t)/\J (!t) k)):Cl 260 #[.P m 0,x.agg] h R:=aP (lq (sq (bq (sq (.join [(5,.one (.bool))] lf) (cq ll (sq (.join [(15,.one (.bool))] (pK 14)) (cq ll (sq (pK 8) (cq ll lf))))))) (lq ll))) Tryz.func260 q
theorem Md.walk{x:az.S}(hv:bh h (.C x.arr 25) λb X=>aa.NW X λf n=>az.cN n (AA b 0) λt5=>Cl 44 #[t5.agg] n λt' H=> ∃M,t'=.B M/\if(!M)then aa.dw H (AA f 0) aa.S.z λq=>aa.cN q (AA f 0) λr0=>R (.T #[r0.agg,.I 3]) q else az.cN H (AA b 0) λp'=> ∃(E:Bool),zJ Tryz.prog 25 (p'.agg) (az.S.z.agg) E/\if E then Cl 109 #[.U 1] H λu' i'=>aa.EX λt=>u'=t.agg/\Cl 109 #[.U 0] i' λy' j'=>aa.EX λT=>y'=T.agg/\bh j' (.C (t.l++T.l).toArray 167) λO k'=>Cl 168 #[.L (Sa O 0) 2 2] k' λz' l'=>aa.EX λu=>z'=u.agg/\aa.dw l' (AA f 0) u λr=>aa.cN r (AA f 0) λm'=>R (.T #[m'.agg,.I 0]) r else∃w,Cc H b 0 (.B w)/\if w then Hu H b 1 λq'=>Hu H b 2 λr'=>Cl 109 #[.U 2] H λA' g=>aa.EX λy=>A'=y.agg/\Kp H g [(Sa b 2),(Sa b 1)]/\Cl 109 #[.U q'] g λB' i=>aa.EX λz=>B'=z.agg/\Kp g i [(Sa b 2)]/\Cl 109 #[.U r'] i λC' Z=>aa.EX λA=>C'=A.agg/\bh Z (.C (z.l++A.l).toArray 167) λQ a'=>Cl 168 #[.L (Sa Q 0) 2 2] a' λD' b'=>aa.EX λC=>D'=C.agg/\bh b' (.C (y.l++C.l).toArray 167) λU c'=>Cl 168 #[.L (Sa U 0) 2 2] c' λE' d'=>aa.EX λD=>E'=D.agg/\aa.dw d' (AA f 0) D λj=>aa.cN j (AA f 0) λn'=>R (.T #[n'.agg,.I 0]) j else az.cN H (AA b 0) λs'=>Cl 109 #[.U 1] H λF' k=>aa.EX λF=>F'=F.agg/\Kp H k [(Sa b 0)]/\Cl 59 #[s'.agg] k λv' e'=> ∃G,v'=.S G/\Cl 169 #[.S G] e' λw' f'=>aa.EX λI=>w'=I.agg/\bh f' (.C (F.l++I.l).toArray 167) λV g'=>Cl 168 #[.L (Sa V 0) 2 2] g' λx' h'=>aa.EX λJ=>x'=J.agg/\aa.dw h' (AA f 0) J λo=>aa.cN o (AA f 0) λo'=>R (.T #[o'.agg,.I 0]) o):Cl 107 #[x.agg] h R:=aP (lq (sq (bq (lq (cq ll (lq (cq ll (lq (cq (sq (.kz (.op 1 (.op 2 (.op 4 (.op 5 (.op 0 (.op 3 (ga 7 6 .done)))))))) lf) lf))))))) (sq (.kz (.op 1 (.op 0 (ga 6 2 .done)))) lf))) Tryz.func107 hv
theorem CB.walk{s:ByteArray}(D:az.NW h λb y=>Cl 301 #[.S s,.S (⟨#[47,47]⟩:ByteArray)] y λV z=> ∃o q,V=.T #[.S o,.B q]/\Cl 302 #[.S o,.S (⟨#[47]⟩:ByteArray)] z λM A=> ∃T r u,M=.T #[.S T,.S r,.B u]/\az.NW A λf C=>az.dw C (AA f 0) ⟨false,0,0,T,r⟩ λH=>az.cN H (AA f 0) λt=>if q then if u then if(!(T.toList==gg.toList))then az.cN H (AA f 0) λJ=>Cl 44 #[J.agg] H λO i=> ∃w,O=.B w/\Kp H i [(Sa f 0)]/\az.dw i (AA b 0) t λj=>az.cN j (AA b 0) λE=>R (.T #[E.agg,.B w]) j else az.dw H (AA b 0) t λk=>az.cN k (AA b 0) λF=>R (.T #[F.agg,.B false]) k else az.dw H (AA b 0) t λn=>az.cN n (AA b 0) λG=>R (.T #[G.agg,.B false]) n else az.dw H (AA b 0) t λg=>az.cN g (AA b 0) λI=>R (.T #[I.agg,.B false]) g):Cl 271 #[.S s] h R:=aP (lq (lq (lq (lq (sq (pK 15) lf))))) Tryz.func271 D
theorem Hc.walk{n:Int}(U:bh h (.C x.arr 167) λb g=>aH (λ(Z:Bool) (k:aj)=>if Z then R (.T #[.Z,.B false]) k else Hl k b 3 λa' C _=> ∃(I:ck->Nat->Nat->Int->aj->Prop)(M:ck->Nat->Nat->Int->aj->Nat),I none 0 0 0 k/\∀(j:ck)(O o:Nat)(t:Int)(H:aj),I j O o t H->if(decide (t<(C:Int)))then Bd t C/\aM a' λa=>aa.cN H (a.add (toNat t*4)) λb'=>aa.NW H λf G=>aa.dw G (AA f 0) b' λi=>aa.cN i (AA f 0) λc'=>Hu i f 1 λd'=>Cl 109 #[.U d'] i λf' w=>aa.EX λD=>f'=D.agg/\Kp i w [(Sa f 0)]/\Cl 212 #[c'.agg,D.agg] w λg' q=> ∃E,g'=.B E/\if(!E)then R (.T #[.Z,.B false]) q else Hu q f 1 λe'=>bh q (.C #[.U e'] 23) λF Q=>aW Tryz.prog (Builtin.append_ #[252,252] 252 #[.L j O o,.L (Sa F 0) 1 1]) Q λh' y=> ∃u r T,h'=.L u r T/\(I u r T (wrap .i64 (t+1)) y/\M u r T (wrap .i64 (t+1)) y<M j O o t H)else R (.T #[.L j O o,.B true]) H) (λJ=> ∃z,Cc g b 0 (.I z)/\if(z !=4)then J true g else∃X A V,Cc g b 3 (.L X A V)/\J (((A:Nat):Int) !=n) g)):Cl 272 #[x.agg,.I n] h R:=aP (lq (sq (sq (.join [(18,.one (.bool))] lf) (cq ll lf)) (lq (sq (lq (bq (.loop [(6,.one (.slice)),(22,.one (.int .i64))] (lq (sq (cq lf lf) (sq (bq (lq (sq (sq (pK 6) (cq ll lf)) lf))) lf)))))) ll)))) Tryz.func272 U
theorem OI.walk (hv:bh h (.C x.arr 167) λb R'=>az.NW R' λf f'=>aH (λ(b4:Bool) (H:aj)=>if b4 then az.dw H (AA f 0) az.S.z λm'=>az.cN m' (AA f 0) λr0=>R (.T #[r0.agg,.I 3]) m' else aH (λ(i:ck) (r:ck) (a4:aj)=>az.NW a4 λn E=>aH (λ(ok:Bool) (F:aj)=>if(!ok)then az.dw F (AA f 0) az.S.z λn'=>az.cN n' (AA f 0) λa9=>R (.T #[a9.agg,.I 3]) n' else az.cN F (AA n 0) λd4=>az.dw F (AA f 0) d4 λo'=>az.cN o' (AA f 0) λb0=>R (.T #[b0.agg,.I 0]) o') (λG'=>aH (λ(b9:Bool) (o:aj)=>aH (λ(a5:Bool) (S':aj)=>G' a5 S') (λH'=>if b9 then az.dw o (AA f 0) az.S.z λd'=>az.cN d' (AA f 0) λb1=>R (.T #[b1.agg,.I 0]) d' else aH (λ(c2:Bool) (g:aj)=>aH (λ(a6:Bool) (T':aj)=>H' a6 T') (λU=>if c2 then aM r λa=>mJ g (a.add 2) λc6 c5 c4=> ∃(B':ByteArray),re Tryz.prog 26 9 (.L c6 c5 c4) g B'/\Cl 271 #[.S B'] g λd5 U'=>az.EX λC'=> ∃D',d5=.T #[C'.agg,.B D']/\az.dw U' (AA n 0) C' λV'=>U D' V' else aM i λI'=>aa.cN g I' λc7=>Cl 109 #[.U 2] g λd6 e'=>aa.EX λE'=>d6=E'.agg/\Kp g e' [i]/\Cl 212 #[c7.agg,E'.agg] e' λd9 u=>Vb d9 λc8=>aH (λ(a7:Bool) (X':aj)=>U a7 X') (λV=>if c8 then aM r λJ'=>aa.cN u J' λc9=>Cl 272 #[c9.agg,.I 2] u λe0 q=> ∃G T d0 I,e0=.T #[.L G T d0,.B I]/\aH (λ(a8:Bool) (Z':aj)=>V a8 Z') (λX=>if I then Bd 0 T/\aM G λK'=>gK q (K'.add (toNat 0*1)) λd1=>Bd 1 T/\aM G λL'=>gK q (L'.add (toNat 1*1)) λd2=>az.dw q (AA n 0) ⟨true,d1,d2,gg,gg⟩ λg'=>az.cN g' (AA n 0) λd3=>Cl 44 #[d3.agg] g' λe1 a0=> ∃F',e1=.B F'/\X F' a0 else X I q)else V false u))) (λQ=>aM i λM'=>aa.cN o M' λc3=>Cl 109 #[.U 1] o λe2 h'=>aa.EX λy'=>e2=y'.agg/\Kp o h' [i]/\Cl 212 #[c3.agg,y'.agg] h' λe3 w=> ∃z',e3=.B z'/\if z' then aM r λO'=> ∃A',aY w O'=some (.I A')/\Q (A'==3) w else Q false w))) (λO=>aM i λP'=>aa.cN E P' λc0=>Cl 109 #[.U 1] E λe4 i'=>aa.EX λu'=>e4=u'.agg/\Kp E i' [i]/\Cl 212 #[c0.agg,u'.agg] i' λe5 t=> ∃v',e5=.B v'/\if v' then aM r λQ'=>aa.cN t Q' λc1=>Cl 109 #[.U 0] t λe6 j'=>aa.EX λw'=>e6=w'.agg/\Kp t j' [r]/\Cl 212 #[c1.agg,w'.agg] j' λd7 a1=> ∃x',d7=.B x'/\O x' a1 else O false t))) (λM=>Hl H b 3 λb6 b5 _=>Bd 0 b5/\aM b6 λj=>aa.cN H (j.add (toNat 0*4)) λs'=>Hl H b 3 λb8 b7 _=>Bd 1 b7/\aM b8 λA=>aa.cN H (A.add (toNat 1*4)) λt'=>(aa.NW H λZ y=>Kp H y [(some (A.add (toNat 1*4))),(Sa b 3),(some (j.add (toNat 0*4))),(Sa b 3)]/\aa.NW y λa' z=>Kp y z [(some (A.add (toNat 1*4))),(Sa b 3),(some (j.add (toNat 0*4))),(Sa b 3)]/\aa.dw z (AA Z 0) s' λk'=>Kp z k' [(some (A.add (toNat 1*4))),(Sa b 3)]/\aa.dw k' (AA a' 0) t' λa2=>M (Sa Z 0) (Sa a' 0) a2)/\(aa.NW H λb' C=>Kp H C [(some (A.add (toNat 1*4))),(Sa b 3),(some (j.add (toNat 0*4))),(Sa b 3)]/\aa.NW C λc' D=>Kp C D [(some (A.add (toNat 1*4))),(Sa b 3),(some (j.add (toNat 0*4))),(Sa b 3)]/\aa.dw D (AA c' 0) s' λl'=>Kp D l' [(some (A.add (toNat 1*4))),(Sa b 3)]/\aa.dw l' (AA b' 0) t' λa3=>M (Sa c' 0) (Sa b' 0) a3)/\True)) (λJ=>aa.cN f' (AA b 0) λt9=>Cl 111 #[t9.agg] f' λd8 k=> ∃p',d8=.B p'/\if(!p')then J true k else∃q',Cc k b 0 (.I q')/\if(q' !=4)then J true k else∃b3 r' b2,Cc k b 3 (.L b3 r' b2)/\J (((r':Nat):Int) !=2) k)):Cl 210 #[x.agg] h R:=aP (lq (sq (sq (.join [(22,.one (.bool))] lf) (cq ll lf)) (sq (.join [(4,.one (.ptr)),(5,.one (.ptr))] (.kz (ga 8 0 (.alts (.fork 8 (ga 3 9 .done) (.fork 9 (.op 8 (.op 10 (.op 11 .done))) .gM)))))) (lq (lq (sq (.join [(7,.one (.bool))] (bq (sq (.join [(32,.one (.bool))] (pK 9)) (.join [(7,.one (.bool))] (cq ll (sq (.join [(42,.one (.bool))] (pK 9)) (.join [(7,.one (.bool))] (cq lf (sq (pK 4) (.join [(7,.one (.bool))] (cq (lq (lq (lq (.join [(7,.one (.bool))] (cq (sq (pK 8) lf) lf))))) lf))))))))))) (sq (lq (cq ll lf)) ll))))))) Tryz.func210 hv

end
section
namespace Bn
open Cb
open jA (Ev dc lL)
variable {h:aj} {R:fD}
variable {n s q c l:Nat} {p:ck} {B:cM}
theorem SU(H:n<4294967296):IntKind.wrap .u32 (n:Int)=(n:Int):=by
 have e:IntKind.wrap .u32 (n:Int)=(n:Int)%4294967296:=by simp[IntKind.wrap,IntKind.bits,IntKind.signed]
 rw[e];omega
theorem Vq(H:n<4294967296):(BitVec.ofInt (IntKind.bits .u32) (n:Int)).toNat=n:=by
 rw[BitVec.ofInt_natCast,BitVec.toNat_ofNat];exact Nat.mod_eq_of_lt H
theorem OJ{a b:Nat}(H:a<4294967296)(d:b<4294967296):IntKind.wrap .u32 ((BitVec.ofInt (IntKind.bits .u32) (a:Int) ^^^ BitVec.ofInt (IntKind.bits .u32) (b:Int)).toNat:Int)=((a ^^^ b:Nat):Int):=by
 rw[BitVec.toNat_xor,Vq H,Vq d];exact SU (Nat.xor_lt_two_pow (n:=32) H d)
theorem T8(H:s<4294967296):IntKind.wrap .u32 ((BitVec.ofInt (IntKind.bits .u32) (s:Int) &&& BitVec.ofInt (IntKind.bits .u32) 1).toNat:Int)=((s%2:Nat):Int):=by
 rw[BitVec.toNat_and,Vq H,show(BitVec.ofInt (IntKind.bits .u32) 1).toNat=1 from rfl,Nat.and_one_is_mod];exact SU ae
theorem SV(s:Nat):Int.fdiv (s:Int) (2 ^ min (Int.toNat 1) (IntKind.bits .u32))=((s/2:Nat):Int):=OF s 1
theorem Me(a:s<4294967296)(H:q<4294967296):qm s q<4294967296:=by
 unfold qm;split
 .exact Nat.xor_lt_two_pow (n:=32) (show s/2<2 ^ 32 by omega) H
 .omega
theorem OK(b:s<4294967296)(a:q<4294967296)(H:R (.int .u32 (qm s q:Int)) h):Cl 315 #[.int .u32 (s:Int),.int .u32 (q:Int)] h R:=by
 refine Jg.walk ?_;unfold qm at H;rw[T8 b,SV,OJ ae a];by_cases c:s%2=1
 .rw[ag (by rw[c];rfl)];rw[ag c]at H;exact H
 .rw[af (λe=>c (bR (eq_of_beq e)))];rw[af c]at H;exact H
theorem A2(q:Nat): ∀(k s:Nat),rP q (k+1) s=qm (rP q k s) q
 |0,_=>rfl
 |k+1,s=>by
  show rP q (k+1) (qm s q)=qm (rP q k (qm s q)) q;exact A2 q k _
theorem A4(a:q<4294967296): ∀(k s:Nat),s<4294967296->rP q k s<4294967296
 |0,_,H=>H
 |k+1,s,H=>A4 a k _ (Me H a)
theorem Mf(a:s<4294967296)(j:c<256)(H:q<4294967296)(b:R (.int .u32 (R4 s c q:Int)) h):Cl 310 #[.int .u32 (s:Int),.int .u8 (c:Int),.int .u32 (q:Int)] h R:=by
 have f:=Nat.xor_lt_two_pow (n:=32) (x:=s) (y:=c) a ae;refine G0.walk ⟨λz t g=>g=h/\∃i:Nat,t=(i:Int)/\i<=8/\z=(rP q i (s ^^^ c):Int),λ_ t _=>8 - t.toNat,⟨rfl,0,rfl,ae,?_⟩,?_⟩
 .rw[SU (n:=c) ae,OJ a ae];rfl
 rintro _ _ _ ⟨rfl,i,rfl,k,rfl⟩;have d:=A4 H i (s ^^^ c) f;by_cases C:i<8
 .rw[gk];refine OK d H ⟨_,rfl,?_⟩;rw[bC ae ae,<-A2];exact⟨⟨rfl,i+1,ae,ae,rfl⟩,by show 8 - Int.toNat ((i:Int)+1)<8 - Int.toNat (i:Int);omega⟩
 .rw[af (λe=>C (bR (aS e)))];obtain rfl:i=8:=ae
  exact b
theorem EN(a:q<4294967296): ∀(b:cM)(s:Nat),s<4294967296->runN s b q<4294967296
 | [],_,H=>H
 |c::b,s,H=>EN a b _ (A4 a 8 _ (Nat.xor_lt_two_pow (n:=32) H (bR c.toNat_lt)))
theorem OL(j:s<4294967296)(H:q<4294967296)(r:Row h p (bc B))(f:l=B.length)(m:B.length<=100000000)(d:R (.int .u32 (runN s B q:Int)) h):Cl 290 #[.int .u32 (s:Int),.L p l c,.int .u32 (q:Int)] h R:=by
 subst f;refine OH.walk ⟨λz t g=>g=h/\∃i:Nat,t=(i:Int)/\i<=B.length/\z=(runN s (B.take i) q:Int),λ_ t _=>B.length - t.toNat,⟨rfl,0,rfl,ae,by rw[eZ];rfl⟩,?_⟩;rintro _ _ _ ⟨rfl,i,rfl,k,rfl⟩;by_cases C:i<B.length
 .rw[gk];obtain⟨a,rfl,b⟩:=Cb.byte_at r C;refine⟨ae,ax.2 ⟨_,by rw[aF];exact b,Mf (EN H _ _ j) (B[i]).toNat_lt H ⟨_,rfl,?_⟩⟩⟩;rw[bC ae ae];refine⟨⟨rfl,i+1,ae,ae,?_⟩,by show B.length - Int.toNat ((i:Int)+1)<B.length - Int.toNat (i:Int);omega⟩;rw[bt,ai C];unfold runN;rw[List.foldl_append];rfl
 .rw[af (λe=>C (bR (aS e)))];rw[bn ae];exact d
theorem OM(r:Row h p (bc B))(d:l=B.length)(f:B.length<=100000000)(H:R (.int .u16 (AN B:Int)) h):Cl 249 #[.L p l c] h R:=by
 refine Jh.walk (OL (s:=65535) (q:=33800) dN dN r d f ⟨_,rfl,?_⟩);unfold AN at H;generalize runN 65535 B 33800=z at H⊢;have e:IntKind.wrap .u16 (z:Int)=((z%65536:Nat):Int):=by
  have e:IntKind.wrap .u16 (z:Int)=(z:Int)%65536:=by simp[IntKind.wrap,IntKind.bits,IntKind.signed]
  rw[e];omega
 rw[e];have a:z%65536<65536:=ae
 generalize z%65536=y at H a⊢;have E:(BitVec.ofInt (IntKind.bits .u16) (IntKind.max .u16) ^^^ BitVec.ofInt (IntKind.bits .u16) (y:Int)).toNat=65535 ^^^ y:=by
  rw[BitVec.toNat_xor,BitVec.ofInt_natCast,BitVec.toNat_ofNat,show(BitVec.ofInt (IntKind.bits .u16) (IntKind.max .u16)).toNat=65535 from rfl,show(2:Nat) ^ IntKind.bits .u16=65536 from rfl,Nat.mod_eq_of_lt a]
 rw[E];have b:IntKind.wrap .u16 ((65535 ^^^ y:Nat):Int)=((65535 ^^^ y:Nat):Int):=by
  have g:=Nat.xor_lt_two_pow (n:=16) (x:=65535) (y:=y) dN ae;have e:IntKind.wrap .u16 ((65535 ^^^ y:Nat):Int)=((65535 ^^^ y:Nat):Int)%65536:=by simp[IntKind.wrap,IntKind.bits,IntKind.signed]
  rw[e];omega
 rw[b];exact H
theorem Q1(r:Row h p (bc B))(a:l=B.length)(b:B.length<=100000000)(H:R (.int .u32 (yx B:Int)) h):Cl 250 #[.L p l c] h R:=by
 refine Mc.walk (OL (s:=4294967295) (q:=2197175160) dN dN r a b ⟨_,rfl,?_⟩);have:=OJ (a:=4294967295) (b:=runN 4294967295 B 2197175160) dN (EN dN _ _ dN);rw[show(IntKind.max .u32)=((4294967295:Nat):Int)from rfl,this];exact H

end Bn
end
end Go.Proofs.YtimiaphmdidfhaaGreatDoor
namespace Go.Den
theorem Q2{P:Program}{S d e:TypeId}{h:aj}{s:ByteArray}{K:fD}(t:P.underlying S=some .string)(l:P.underlying d=some (.slice e))(m:P.underlying e=some (.int .u8))(o: ∀p c H,Row H p (bc s.data.toList)->s.size<=c->Fr No h H->(∀y,aN p y->h.size<=y)->K (.L p s.size c) H):aW P (convert S d (.S s)) h K:=by
 unfold convert;refine cb (s:=underlying S) (bN t) ?_;refine cb (s:=underlying d) (bN l) ?_;show aW P (underlying e>>=_) h K;refine cb (s:=underlying e) (bN m) ?_;show aW P (Conv.stringToBytes e s) h K;unfold Conv.stringToBytes;rw[dU];unfold choose;simp only[aW,Question.forced,aq,aL,Question.cut];intro T;generalize x:s.size+T%(2 ^ 63 - s.size)=cap;have q:s.size<=cap:=ae
 generalize k:(s.data.map λb=>Value.int .u8 (b.toNat:Int))++Array.replicate (cap - s.size) (Value.int .u8 0)=C;have r: ∀j v,(bc s.data.toList)[j]? =some v->C[0+j]? =some v:=λj v f=>by
  have g:=(aE.1 f).1;rw[jP,ee]at g;rw[<-k,bM,dR (cI g),Array.getElem?_map,<-f];unfold bc;rw[aD,dL]
 show aW P (newRow e C>>=_) h K;rw[dU];show aW P (markStringish (AA h.size 0)>>=λ_=>pure (.L (Sa h.size 0) s.size cap)) (h.push (.C C e)) K;rw[dU];unfold markStringish shape;have u:pQ (h.push (.C C e)) h.size=some (e,C.size):=by simp[pQ]
 show aW P (match pQ (h.push (.C C e)) h.size with|some (_,n)=>freeze { block:=h.size,off:=n } 1|_=>pure ()) (h.push (.C C e)) _;rw[u];show K (.L (Sa h.size 0) s.size cap) (pS (h.push (.C C e)) { block:=h.size,off:=C.size } 1);unfold pS;rw[dB];refine o _ _ _ (.inr ⟨_,rfl,hT (c:=C) (t:=e) (f:=if(0:Nat)==0 then(C.size,C.size+1)else(min 0 C.size,max 0 (C.size+1))) ?_ r⟩) q ⟨bV,λc w _=> ?_⟩ (λy ⟨A,E,i⟩=>by cases E;exact Nat.le_of_eq i)
 .rw[dE,ag rfl,bZ];rfl
 .rw[dE,af (by simp;omega),fZ,dB]
end Go.Den
namespace Go.Proofs.YtimiaphmdidfhaaGreatDoor
open Go.Den
namespace iE
variable {h H a : aj} {R : Value → aj → Prop}
theorem R6{s:ByteArray}{K:fD}(b: ∀p c H,Row H p (bc s.data.toList)->s.size<=c->Fr No h H->(∀y,aN p y->h.size<=y)->K (.L p s.size c) H):aW Tryz.prog (convert 9 26 (.S s)) h K:=Q2 uS uU u8 b
end iE
end Go.Proofs.YtimiaphmdidfhaaGreatDoor
namespace Go.Proofs.YtimiaphmdidfhaaGreatDoor
open Go.Den
open IntKind (wrap)
open Int (toNat)
section
variable {h:aj} {R:fD}
variable {x:Bool} {X a:Int} {b c:ByteArray}
theorem ON.walk (n:bh h (.C #[.B x,.U X,.U a,.S b,.S c] 25) λB f=>az.LD f (AA B 0) λw y z A C=>Cl 44 #[.agg #[.B w,.U y,.U z,.S A,.S C]] f λv H=> ∃k,v=.B k/\if(!k)then R (.T #[.S gg,.I 3]) H else az.LD H (AA B 0) λD E F G I=> ∃(e:Bool),zJ Tryz.prog 25 (.agg #[.B D,.U E,.U F,.S G,.S I]) (.agg #[.B false,.U 0,.U 0,.S gg,.S gg]) e/\if e then R (.T #[.S (⟨#[100,116,110,58,110,111,110,101]⟩:ByteArray),.I 0]) H else∃i,Cc H B 0 (.B i)/\if i then Hu H B 1 λo=>Hu H B 2 λj=>Cl 58 #[.U o,.I 10] H λV g=> ∃t,V=.S t/\Cc g B 2 (.U j)/\(((⟨#[105,112,110,58]⟩:ByteArray).size+t.size:Nat):Int)<=IntKind.max .i64/\((((⟨#[105,112,110,58]⟩:ByteArray)++t).size+(⟨#[46]⟩:ByteArray).size:Nat):Int)<=IntKind.max .i64/\Cl 58 #[.U j,.I 10] g λJ l=> ∃T,J=.S T/\(((((⟨#[105,112,110,58]⟩:ByteArray)++t)++(⟨#[46]⟩:ByteArray)).size+T.size:Nat):Int)<=IntKind.max .i64/\R (.T #[.S ((((⟨#[105,112,110,58]⟩:ByteArray)++t)++(⟨#[46]⟩:ByteArray))++T),.I 0]) l else az.LD H (AA B 0) λp q r s u=>Cl 59 #[.agg #[.B p,.U q,.U r,.S s,.S u]] H λK m=> ∃d,K=.S d/\(((⟨#[100,116,110,58]⟩:ByteArray).size+d.size:Nat):Int)<=IntKind.max .i64/\R (.T #[.S ((⟨#[100,116,110,58]⟩:ByteArray)++d),.I 0]) m):Cl 30 #[.agg #[.B x,.U X,.U a,.S b,.S c]] h R:=aP (lq (sq (bq (lq (cq ll (lq (cq ll (lq (cq (sq (.lK (.op 0 (.op 1 (.op 5 (.op 6 (.op 2 (.op 3 (.op 4 (.op 7 (.op 8 (.op 9 (.op 10 .done)))))))))))) lf) lf))))))) ll)) Tryz.func30 n
theorem OO.walk (d:bh h (.C #[.B x,.U X,.U a,.S b,.S c] 25) λB H=>Hs H B 3 λt=>(((⟨#[47,47]⟩:ByteArray).size+t.size:Nat):Int)<=IntKind.max .i64/\((((⟨#[47,47]⟩:ByteArray)++t).size+(⟨#[47]⟩:ByteArray).size:Nat):Int)<=IntKind.max .i64/\Hs H B 4 λT=>(((((⟨#[47,47]⟩:ByteArray)++t)++(⟨#[47]⟩:ByteArray)).size+T.size:Nat):Int)<=IntKind.max .i64/\R (.S ((((⟨#[47,47]⟩:ByteArray)++t)++(⟨#[47]⟩:ByteArray))++T)) H):Cl 59 #[.agg #[.B x,.U X,.U a,.S b,.S c]] h R:=aP (lq ll) Tryz.func59 d

end
section
namespace jA
variable {h:aj} {R:fD}
theorem kh(a b:cM):str a++str b=str (a++b):=by
 unfold str;apply ByteArray.ext
 rw[ByteArray.data_append];simp
theorem iN(a:cM):(str a).size=a.length:=by unfold str;rfl
theorem vQ(s:ByteArray):s=str s.data.toList:=(N1 s).symm
theorem lE(s:ByteArray):s.data.toList.length=s.size:=by rw[ee];rfl
theorem SW:IntKind.max .i64=9223372036854775807:=rfl
theorem KK(x:Ev)(g:x.host.size<=1000)(i:x.jN.size<=1000)(c: iq h R (.S (str ([47,47]++x.host.data.toList++ [47]++x.jN.data.toList)))):Cl 59 #[lL x] h R:=by
 refine OO.walk (az.box λb a d H f=>⟨_,ak H,?_⟩);have e:(⟨#[47,47]⟩:ByteArray)=str [47,47]:=rfl;have E:(⟨#[47]⟩:ByteArray)=str [47]:=rfl;have l:=lE x.host;have L:=lE x.jN;have K:=c a f;rw[e,E,SW];refine⟨?_,?_,_,ak H,?_,?_⟩
 .rw[iN];simp;omega
 .rw[vQ x.host,kh,iN,iN];simp;omega
 .rw[vQ x.host,kh,kh,iN];simp;omega
 .rw[vQ x.host,vQ x.jN,kh,kh,kh];exact K

end jA
end
section
namespace Cb
variable {h a H:aj} {R:fD} {D D':Nat→Prop}
abbrev CV.s(x:CV):aa.S:=⟨x.k,x.n,x.v.p,x.v.b.length,x.v.c,x.q,x.ll,x.cl⟩
abbrev nv(n:Nat):CV:=⟨0,n,⟨none,0, []⟩,none,0,0⟩
theorem tY.frame{Q:Nat->Prop}{t:Tr}{x:CV}(j:tY h D t x)(f:Fr Q h H)(e: ∀y,D y->¬Q y):tY H D t x:=by
 obtain⟨⟨A,b,c,d⟩,n,k,l,i,m⟩:=j;exact⟨⟨A,b,c,d.frame f e⟩,n,k,l.frame f (λy g=>e y (i y g)),i,dD.frame f (λy g=>e y g.1) m⟩
theorem tY.mono{t:Tr}{x:CV}(g:tY h D t x)(f: ∀y,D y->D' y):tY h D' t x:=by
 obtain⟨⟨A,b,c,d⟩,m,i,j,k,l⟩:=g;exact⟨⟨A,b,c,d.mono f⟩,m,i,j,λy e=>f y (k y e),dD.mono (λy e=>⟨f y e.1,e.2⟩) l⟩
abbrev EO(h:aj)(t:Tr)(x:CV):Prop:=gX h (λ_=>True) t x
abbrev CC(h:aj)(t:List Tr)(x:List CV):Prop:=dD h (λ_=>True) t x
theorem gX.u{t:Tr}{x:CV}(b:gX h D t x):EO h t x:=b.mono λ_ _=>trivial
theorem dD.u{t:List Tr}{x:List CV}(b:dD h D t x):CC h t x:=b.mono λ_ _=>trivial
theorem tY.u{t:Tr}{x:CV}(b:tY h D t x):EO h t x:=b.TH.u
theorem dD.nil:dD h D [] []:=by unfold dD;trivial
theorem dD.cons{t:Tr}{y:CV}{T:List Tr}{c:List CV}(A:gX h D t y)(b:dD h D T c):dD h D (t::T) (y::c):=by unfold dD;exact⟨A,b⟩
theorem nK{n:Nat}:EO h (num n) (nv n):=SP.TH
theorem two{t u:Tr}{x y:CV}(A:gX h D t x)(b:gX h D u y):dD h D [t,u] [x,y]:=.cons A (.cons b .nil)
theorem px{ys:List CV}{K:Nat->aj->Prop}{c:Array Value}(f:c=(ys.flatMap iR).toArray)(g: ∀b H,b=h.size->(∀D,D b->mF H D (Sa b 0) ys.length ys.length ys)->Fr No h H->K b H):bh h (.C c 167) K:=by
 refine cK (g _ _ rfl (λD d=>⟨rfl,by rw[f];exact iT,λ_ y ⟨A,e,E⟩=>by cases e;rw[<-E];exact d,bm _⟩) (Fr.push _ _))
theorem qo{ts:List Tr}{ys:List CV}{c:Array Value}{l:Nat}(T:CC h ts ys)(k:dK ts<=100000000)(e:c=(ys.flatMap iR).toArray)(j:l=ys.length)(i: ∀H z,tY H (λy=>h.size<=y) (sX ts) z->Fr No h H->R z.agg H):
  bh h (.C c 167) λb g=>Cl 168 #[.L (Sa b 0) l l] g R:=by
 subst j;refine px e λb m E L f=>kC (L (λ_=>True) trivial) (T.on f) k λd z t F=>i d z (t.mono λy n=>bR f.1) (f.tt F)
theorem oC{s:ByteArray}(r: ∀H (v:BV),v.b=s.data.toList->v.ok H (λy=>h.size<=y)->Fr No h H->R (CV.agg ⟨3,0,v,none,0,0⟩) H):Cl 169 #[.S s] h R:=by
 refine LZ.walk (aa.box λb z w i f=>iE.R6 λp c o u j F n=>⟨_,_,_,rfl,aa.set (F.get i id) λd k l m=>aa.ld k ?_⟩);have g:Fr (λy=>y=b) o d:=Fr.of_eq l (λc j=>m c j);have Z:=f.1;have B:=aC i;have e:s.size=s.data.toList.length:=(jA.lE s).symm;have O:BV.ok d (λy=>h.size<=y) ⟨p,c,s.data.toList⟩:=by
  refine⟨?_,λ_ y t=>bR (n y t),by show s.data.toList.length<=c;omega⟩;by_cases q:s.data.toList= []
  .show Row d p (bc s.data.toList);rw[q];exact Row.nil
  .exact u.frame g (λA E x=>bR (n A.block ⟨A,E,rfl⟩))
 have:=r d ⟨p,c,s.data.toList⟩ rfl O ((f.tt F).fresh g (λy e=>ae));unfold CV.agg iR BV.val at this;rw[e];exact this
end Cb
namespace Bn
open Cb
open jA (Ev dc lL)
variable {V : List UInt8 → Bool} {h a H : aj} {R : Value → aj → Prop} {D : Nat → Prop}
abbrev _root_.Go.Proofs.YtimiaphmdidfhaaGreatDoor.jA.Ev.s(x:Ev):az.S:=⟨x.km,x.node,x.gy,x.host,x.jN⟩
theorem fin{b:Nat}{y:aa.S}{z:CV}{t:Tr}{K:aa.S->aj->Prop}(e:aa.fR h b y)(T:tY h D t z)(c: ∀y,D y->y≠b)(i: ∀H,tY H D t z->Fr (λy=>y=b) h H->K z.s H):
  aa.dw h (AA b 0) z.s λg=>aa.cN g (AA b 0) λr=>K r g:=
 aa.hU (x:=z.s) e λg d f _=>aa.fN d (i g (T.frame f c) f)
theorem EP{b:Nat}{y:aa.S}{K:aa.S->aj->Prop}(c:aa.fR h b y)(e: ∀H,Fr (λy=>y=b) h H->K .z H):
  aa.dw h (AA b 0) .z λg=>aa.cN g (AA b 0) λr=>K r g:=
 aa.hU c λg d f _=>aa.fN d (e g f)
theorem nt(x:Ev)(b:dc x=true):room (Cv x)<=200:=by
 unfold Cv;split
 .simp[room,dK]
 .rename_i z;split
  .simp[room,dK]
  .rename_i c;unfold dc at b;rw[af z,af c]at b;simp only[aU,aX]at b;have:=jA.lE x.host;have:=jA.lE x.jN;simp only[room,dK,GH,au,bf,bG];omega
abbrev zv:CV:=⟨0,0,⟨none,0, []⟩,none,0,0⟩
theorem xh(x:Ev)(w1:0<=x.gy)(Z:dc x=true->∀H z,tY H (λy=>h.size<=y) (Cv x) z->Fr No h H->R (.T #[z.agg,.I 0]) H)(k2:dc x=false->iq h R (.T #[zv.agg,.I 3])):Cl 107 #[lL x] h R:=by
 refine Md.walk (x:=x.s) (az.da λa' h1 eb K q=>aa.da λB h2 b' L n=>az.fN (n.get K id) (jA.fK x λJ f=>⟨_,rfl,?_⟩));have d:=(n.tt f).get K id;have M:=f.get L id;have p:=q.tt (n.tt f);have z1:=q.1;have j':=aC L;have z3:=f.1;have done: ∀g z,dc x=true->tY g (λy=>J.size<=y) (Cv x) z->Fr No J g->aa.dw g (AA B 0) z.s λc=>aa.cN c (AA B 0) λr0=>R (.T #[r0.agg,.I 0]) c:=λg z b tz I=>
  fin (I.get M id) tz (λy j e=>ae) λc t4 o=>Z b c z (t4.mono λy j=>ae) ((p.tt I).fresh o (λy e=>ae))
 cases b:dc x with
 |false=>exact EP M λc o=>k2 b c (p.fresh o (λy e=>ae))
 |true=>
  have done:=λg z=>done g z b
  rw[dB];refine az.fN d ⟨_,jA.vD (y:=.zero) (x:=x) rfl rfl,?_⟩;have E:room (Cv x)<=200:=nt x b;unfold Cv at done E;unfold dc at b;by_cases z:x=.zero
  .rw[ag (aw z)];simp only[ag z]at done;exact fM (n:=1) λh5 C=>aa.ex (nv 1).s ⟨rfl,fM (n:=0) λh6 G=>aa.ex (nv 0).s ⟨rfl,qo (two nK nK) (by simp[room,dK]) rfl rfl λX y T Q=>aa.ex y.s ⟨rfl,done X y (T.mono λy j=>gG C.1 G.1) (C.tt (G.tt Q))⟩⟩⟩
  rw[af (cI z)];rw[af z]at b;simp only[af z]at done E;refine⟨_,ak d,?_⟩;by_cases i:x.km=true
  .rw[ag i]at b⊢;simp only[ag i]at done;have b:=aS b;have n1:x.node=(x.node.toNat:Int):=ae
   have n2:x.gy=(x.gy.toNat:Int):=ae
   refine⟨_,ak d,_,ak d,fM (n:=2) λc' F=>aa.ex (nv 2).s ⟨rfl,F.kp,?_⟩⟩;dsimp only;rw[n1];refine fM λd' l=>aa.ex (nv x.node.toNat).s ⟨rfl,l.kp,?_⟩
   rw[n2];refine fM λe' r=>aa.ex (nv x.gy.toNat).s ⟨rfl,qo (two nK nK) (by simp[room,dK]) rfl rfl λf' y T s=>aa.ex y.s ⟨rfl,qo (ys:= [nv 2,y]) (two nK T.u) (by simp[room,dK]) rfl rfl λS u t O=>aa.ex u.s ⟨rfl,?_⟩⟩⟩
   exact done S u (t.mono λy j=>by have:=F.1;have:=l.1;have:=r.1;have:=s.1;omega) (F.tt (l.tt (r.tt (s.tt O))))
  .rw[af i]at b⊢;simp only[af i]at done E;simp only[aU,aX]at b;refine az.fN d (fM (n:=1) λg' m=>aa.ex (nv 1).s ⟨rfl,m.kp,jA.KK x ae ae λh' w=>⟨_,rfl,oC λi' v k ov A=>aa.ex (CV.s ⟨3,0,v,none,0,0⟩) ⟨rfl,?_⟩⟩⟩);have k:v.b=GH x:=by rw[k];unfold str;simp[GH]
   refine qo (ts:= [num 1,.mk 3 0 (GH x) []]) (ys:= [nv 1,⟨3,0,v,none,0,0⟩]) (two nK (k▸DD ov).u) (by simp only[room,bG]at E⊢;omega) rfl rfl λU u t P=>aa.ex u.s ⟨rfl,?_⟩
   exact done U u (t.mono λy j=>sU m.1 w.1 A.1) (m.tt (w.tt (A.tt P)))
end Bn
end
section
namespace Bn
open Cb
open jA (Ev dc lL)
variable {V:cM→Bool} {h a H:aj} {R:fD} {D:Nat→Prop}
variable {b i o:Nat} {x:CV} {c:Array Value} {ts:List Tr} {t:Tr} {T:TypeId}
theorem Vr{l:List (ck)}(f:Fr (λy=>y=b) h H)(g: ∀p∈l,p.map (·.block)≠some b):Kp h H l:=f.U3 λp j x e d=>g p j (by rw[e];exact bQ some d)
theorem Jj{y:az.S}{x:Ev}{K:az.S->aj->Prop}(e:az.fR h b y)(j: ∀H,Fr (λy=>y=b) h H->K x.s H):
  az.dw h (AA b 0) x.s λg=>az.cN g (AA b 0) λr=>K r g:=
 az.hU (x:=x.s) e λg d f _=>az.fN d (j g f)
theorem SX(l:cM):(!((⟨l.toArray⟩:ByteArray).toList==gg.toList))= !l.isEmpty:=by
 rw[toList_data,toList_data];cases l<;>simp
theorem ER{s:ByteArray}(M:lM.Mx h)(O:s.size<1000000)(C: iq h R (.T #[lL (yy s.data.toList),.B (vF s.data.toList)])):Cl 271 #[.S s] h R:=by
 refine CB.walk (az.da λb L J v F=>lM.LP ⟨_,_,rfl,lM.AM (M.on F) ?_ ⟨_,_,_,rfl,az.fY λI j K d m=>az.fN d ?_⟩⟩)
 .show(Lib.trimPrefix s.data.toList _).length<_;have:=jA.lE s;unfold Lib.trimPrefix;split
  .rw[bT];omega
  .omega
 have E:(⟨(Lib.trimPrefix s.data.toList (⟨#[47,47]⟩:ByteArray).data.toList).toArray⟩:ByteArray).data.toList=Lib.trimPrefix s.data.toList [47,47]:=bV
 rw[E]at d⊢;rw[show(⟨#[47]⟩:ByteArray).data.toList= [47]from rfl]at d⊢;rw[show(⟨#[47,47]⟩:ByteArray).data.toList= [47,47]from rfl];have z:(⟨false,0,0,⟨(Lib.cut (Lib.trimPrefix s.data.toList [47,47]) [47]).1.toArray⟩,⟨(Lib.cut (Lib.trimPrefix s.data.toList [47,47]) [47]).2.1.toArray⟩⟩:az.S)=(yy s.data.toList).s:=rfl;rw[z]at d⊢;have Z:=F.1;have w:=F.tt m;have P:=aC v;have B:=m.get v id;have done: ∀g q,Fr No j g->q=vF s.data.toList->az.dw g (AA b 0) (yy s.data.toList).s λG=>az.cN G (AA b 0) λr=>R (.T #[r.agg,.B q]) G:=λg q p e=>
  Jj (p.get B id) λG f=>by rw[e];exact C G ((w.tt p).fresh f (λy e=>ae))
 rw[SX];cases k:Lib.hasPrefix s.data.toList [47,47]with
 |false=>exact done j _ (Fr.refl _ _) (by unfold vF;rw[k];rfl)
 |true=>
  rw[ag rfl];cases l:(Lib.cut (Lib.trimPrefix s.data.toList [47,47]) [47]).2.2 with
  |false=>exact done j _ (Fr.refl _ _) (by unfold vF;rw[k,l];rfl)
  |true=>
   rw[ag rfl];cases u:(Lib.cut (Lib.trimPrefix s.data.toList [47,47]) [47]).1.isEmpty with
   |true=>exact done j _ (Fr.refl _ _) (by unfold vF;rw[k,l,u];rfl)
   |false=>
    rw[ag (show(!false)=true from rfl)];exact az.fN d (jA.fK (yy s.data.toList) λA n=>⟨_,rfl,n.kp,done A _ n (by unfold vF;rw[k,l,u];rfl)⟩)
theorem t64:oN Tryz.prog 252 23 1 8 (.U 0):=⟨dz,dz,rfl⟩
theorem u64:Tryz.prog.underlying 252=some (.slice 23):=dz
abbrev nc(l:List Tr):List Value:=l.map λt=> .int .u64 (t.n:Int)
theorem elem{D:Nat->Prop}{q:ck}{l c:Nat}{d:List CV}(L:mF h D q l c d)(g:dD h D ts d)(k:i<ts.length): ∃(A:Addr)(y:CV),q=some A/\dP (A.add (i*4)) y.s.l 0 h/\gX h D (at_ ts i) y/\d[i]? =some y:=by
 have m:=g.len;have f:d[i]? =some (d[i]' ae):=ai _;obtain⟨t,j,T⟩:=g.get f;obtain⟨A,rfl⟩:=L.row.some (by intro e;have:=bQ List.length e;rw[eO iR 4 hM,bG]at this;omega);refine⟨A,_,rfl,L.row.fP hM f,?_,f⟩;unfold at_;rw[bk,j];exact T
theorem jj(d:i<ts.length):room (at_ ts i)<=dK ts:=by
 unfold at_;rw[bk,ai d];exact nm (dI d)
theorem Hd(E:EO h t x)(hr:room t<=1000000)(C:t.k=4->t.l.length=2->AO t.l=true->∀H p c,Row H p (nc t.l)->Fr No h H->R (.T #[.L p 2 c,.B true]) H)(K: ¬(t.k=4/\t.l.length=2/\AO t.l=true)->iq h R (.T #[.Z,.B false])):Cl 272 #[x.agg,.I 2] h R:=by
 have f':=E;cases t with
 |mk k d' b l=>
  simp only[room]at hr;have C:k=4->l.length=2->AO l=true->∀H p c,Row H p (nc l)->Fr No h H->R (.T #[.L p 2 c,.B true]) H:=C;have K: ¬(k=4/\l.length=2/\AO l=true)->∀H,Fr No h H->R (.T #[.Z,.B false]) H:=K;unfold gX at E;obtain⟨⟨rfl,rfl,rfl,e'⟩,ys,L,G⟩:=E;have ln:=G.len;have e0:=L.len;refine Hc.walk (x:=x.s) (aa.da λbb j eb z u=>aH.of λJ M=>⟨_,ak z,?_⟩);have S: ¬(x.k=4/\l.length=2)->J true j:=λd=>by
   subst M;exact K (λe=>d ⟨e.1,e.2.1⟩) j u
  by_cases n:x.k=4
  case neg=>rw[ag (cI n)];exact S (λe=>n e.1)
  rw[af (cI n)];refine⟨_,_,_,ak z,?_⟩;by_cases Q:l.length=2
  case neg=>rw[show((x.ll:Int) !=2)=true by simp only[dv,ff];omega];exact S (λe=>Q e.2)
  rw[show((x.ll:Int) !=2)=false by simp only[gA];omega];subst M;rw[dB];have sl:x.s.FN=2:=by show x.ll=2;omega
  refine⟨_,_,_,ak z,?_⟩;refine⟨λp len c t g=> ∃i:Nat,t=(i:Int)/\i<=2/\i=len/\fz g p i c 1 (nc (l.take i))/\(∀y,aN p y->j.size<=y)/\Fr No j g/\AO (l.take i)=true,λ_ _ _ t _=>2 - t.toNat,⟨0,rfl,ae,rfl,by rw[eZ];exact .nil rfl rfl rfl rfl,(λy ⟨A,e,_⟩=>by cases e),Fr.refl _ _,by rw[eZ];rfl⟩,?_⟩;rintro p _ c _ g ⟨i,rfl,hi,rfl,O,U,F,d⟩;by_cases a':i<2
  .rw[gk];have s:=u.tt F;obtain⟨A,y,ea,hh,T,m⟩:=elem (L.frame s bX) (G.on s) (i:=i) ae;refine⟨⟨ae,by show _<(x.ll:Int);omega⟩,bW.2 ⟨A,ea,(aa.lX (x:=y.s) (by rw[aF];exact hh) (aa.fY (x:=y.s) λb1 h5 c' B v=>aa.fN B ⟨_,ak B,fM λh6 f=>aa.ex (nv y.n).s ⟨rfl,f.kp,?_⟩⟩))⟩⟩;have ra:=jj (ts:=l) (i:=i) ae;have I:l.take (i+1)=l.take i++ [at_ l i]:=by
    rw[bt];unfold at_;rw[bk,ai ae];rfl
   have Z:y.n=(at_ l i).n:=by
    revert T;generalize at_ l i=b';intro T;cases b';unfold gX at T;exact T.1.2.1
   refine ji (t:=at_ l i) (s:=num y.n) (x:=y) (y:=nv y.n) (T.on (v.tt f)) nK ae λh7 w=>⟨_,rfl,?_⟩
   rw[Z];cases q:oV (at_ l i) (num (at_ l i).n)with
   |false=>
    rw[gk];refine K (λe=> ?_) h7 (s.tt (v.tt (f.tt w)));have:=List.all_eq_true.1 e.2.2 (at_ l i) (by unfold at_;rw[bk,ai ae];exact dI _);rw[q]at this;cases this
   |true=>
    rw[dB];have r:=v.tt (f.tt w);refine⟨_,ak ((f.tt w).get B id),iS t64 u64 (O.frame r bX) rfl (λg' P=>by simp at P;rw[P];rfl) ae ae λp2 c2 h9 X f9 g9=>⟨_,_,_,rfl,?_⟩⟩;rw[bC (n:=(i:Int)+1) ae ae];refine⟨⟨i+1,ae,ae,ae,?_,λy m=> ?_,(F.tt r).fresh f9 (λy m=>U y m),?_⟩,by show 2 - Int.toNat ((i:Int)+1)<2 - Int.toNat (i:Int);omega⟩
    .rw[I,nc,aV];rw[show y.s.f1=((at_ l i).n:Int) by show(y.n:Int)=_;rw[Z]]at X;exact X
    .rcases g9 y m with A|A
     .exact U y A
     .have:=F.1;have:=r.1;omega
    .rw[I];unfold AO at d⊢;rw[List.all_append,d];simp[q]
  .rw[af (λe=>a' (bR (aS e)))];obtain rfl:i=2:=ae
   rw[bn ae]at d O;exact C n Q d g p c O.iy (u.tt F)
theorem gX.kn(d:gX h D t x):x.k=t.k/\x.n=t.n/\x.v.b=t.b/\x.ll=t.l.length/\x.v.ok h D/\∃y,mF h D x.q x.ll x.cl y/\dD h D t.l y:=by
 cases t with
 |mk k n b l=>
  unfold gX at d;obtain⟨⟨A,f,g,j⟩,y,L,e⟩:=d;exact⟨A,f,g,by rw[L.len,<-e.len];rfl,j,y,L,e⟩
theorem lF :dK t.l+t.b.length+9=room t:=by cases t;simp only[room,Tr.l,Tr.b];omega
theorem Ua{p:Addr}{n:Nat}(h:p.block≠b):(some (p.add n)).map Addr.block≠some b:=by
 simp only[du,nh];exact λe=>h (aZ e)
theorem OQ(U:lO V a)(c3:Fr No a h)(mx:lM.Mx h)(tx:EO h t x)(hr:room t<=900000)(K: ∀e,pn V t=some e->iq h R (.T #[lL e,.I 0]))(k:pn V t=none->iq h R (.T #[lL .zero,.I 3])):Cl 210 #[x.agg] h R:=by
 obtain⟨xk,xn,xb,xl,xv,ys,L,TS⟩:=gX.kn tx;have rl:=lF (t:=t);refine OI.walk (x:=x.s) (aa.da λb h1 eb hb X=>az.da λb1 h2 d0 G' A=>aH.of λO' hJ=>aa.fN (A.get hb id) (fK U (c3.tt (X.tt A)) ((tx.on X).on A) ae λh3 Z=>⟨_,rfl,?_⟩));have z:=X.tt (A.tt Z);have a':=(A.tt Z).get hb id;have H':=Z.get G' id;have zb:=aC hb;have f0:=aC G';have z1:=X.1;have z2:=A.1;have z3:=Z.1;have bad:pn V t=none->O' true h3:=λhn=>by
  subst hJ;dsimp only;rw[ag rfl];exact Jj (x:=.zero) H' λg f=>k hn g (z.fresh f (λy e=>ae))
 cases hR:iC V t with
 |false=>exact bad (by unfold pn;rw[af (λe=>by rw[hR]at e;cases e.1)])
 |true=>
 rw[af (show¬(!true)=true by decide)];refine⟨_,ak a',?_⟩;have e4:x.s.f0=t.k:=xk;rw[e4];by_cases k4:t.k=4
 case neg=>rw[ag (cI k4)];exact bad (by unfold pn;rw[af (λe=>k4 e.2.1)])
 rw[af (cI k4)];refine⟨_,_,_,ak a',?_⟩;have el:x.s.FN=t.l.length:=xl;rw[el];by_cases l2:t.l.length=2
 case neg=>rw[show((t.l.length:Int) !=2)=true by simp only[dv,ff];omega];exact bad (by unfold pn;rw[af (λe=>l2 e.2.2)])
 rw[show((t.l.length:Int) !=2)=false by simp only[gA];omega];clear bad;subst hJ;dsimp only;rw[af (show¬false=true by decide)];unfold pn at K k;rw[ag ⟨hR,k4,l2⟩]at K k;obtain⟨a0,y0,Q',I',c',_⟩:=elem (L.frame z bX) (TS.on z) (i:=0) ae;obtain⟨a1,r,R',J',d',_⟩:=elem (L.frame z bX) (TS.on z) (i:=1) ae;have r0:=jj (ts:=t.l) (i:=0) ae;have r1:=jj (ts:=t.l) (i:=1) ae;generalize at_ t.l 0=O at c' r0 K k;generalize at_ t.l 1=d at d' r1 K k;refine aH.of λJ1 a8=>⟨_,_,_,ak a',ae,bW.2 ⟨a0,Q',aa.lX (x:=y0.s) I' ⟨_,_,_,ak a',ae,bW.2 ⟨a1,R',aa.lX (x:=r.s) J' ?_⟩⟩⟩⟩
 have K': ∀g v' t',aa.fR g v' y0.s->aa.fR g t' r.s->Fr No h3 g->J1 (Sa v' 0) (Sa t' 0) g:=by
  intro g v' t' hs b7 p;subst a8;have Fg:=z.tt p;have zg:=p.1;refine az.da λC v d1 p' l=>aH.of λS F'=>aH.of λJ3 a9=> ?_
  have s':=l.get hs id;have M:=l.get b7 id;have r':=(p.tt l).get H' id;have f1:=aC p';have Q:=Fg.tt l;have z6:=l.1;have C': ∀G e,az.fR G C e.s->Fr (λy=>y=C) v G->(iq h R (.T #[lL e,.I 0]))->S true G:=λG e he f hk=>by
   subst F';rw[dB];exact az.fN he (Jj (f.get r' ae) λm F=>hk m ((Q.fresh f (λy e=>ae)).fresh F (λy e=>ae)))
  have b': ∀G,Fr (λy=>y=C) v G->(iq h R (.T #[lL .zero,.I 3]))->S false G:=λG f hk=>by
   subst F';rw[gk];exact Jj (x:=.zero) (f.get r' ae) λm F=>hk m ((Q.fresh f (λy e=>ae)).fresh F (λy e=>ae))
  have L': ∀{G},Fr No v G->Fr (λy=>y=C) v G:=λf=>f.mono λ_ _=>False.elim
  obtain⟨c6,e8,c4,e7,c7,e9,L1,c8⟩:=gX.kn d';have e6:=lF (t:=d);have j3: ∀q G,Fr No v G->q=decide (oV O (num 1)=true/\oV d (num 0)=true)->J3 q G:=by
   intro q G f J;subst a9;refine aH.of λJ4 b0=> ?_
   cases q with
   |true=>
    rw[ag rfl];have c:=aS J.symm;exact Jj (x:=.zero) (f.get r' id) λm F=>K _ (by rw[ag c]) m ((Q.tt f).fresh F (λy e=>ae))
   |false=>
    rw[dB];have c:=gj J.symm;rw[af c]at K k;have b9:=f.get s' id;have e1:=f.get M id;refine aH.of λJ5 b2=>ax.2 (aa.fN b9 (fM (n:=1) λd5 j'=>aa.ex (nv 1).s ⟨rfl,j'.kp,ji (x:=y0) (y:=nv 1) (c'.on (p.tt (l.tt (f.tt j')))) nK ae λd6 Z'=>⟨_,rfl,?_⟩⟩))
    have j5: ∀q m,Fr No v m->q=decide (oV O (num 1)=true/\d.k=3)->J5 q m:=by
     intro q m F J;have c2:=F.get s' id;have b8:=F.get M id;have G7:=p.tt (l.tt F);subst b2;refine aH.of λJ6 b5=> ?_
     have j6: ∀q g,S q g->J6 q g:=λq g hh=>by subst b5;subst b0;exact hh
     cases q with
     |true=>
      rw[ag rfl];have c5:=aS J.symm;rw[ag c5]at K k;have ev:r.v.b=d.b:=c4;refine ax.2 ⟨_,_,_,ak b8,str d.b,iE.conv (by rw[<-ev];exact(c7.frame G7 bX).row) (by show r.v.b.length=_;rw[ev]),ER (mx.on (Q.tt F)) (by rw[jA.iN];omega) λd2 A'=> ?_⟩;have ed:(str d.b).data.toList=d.b:=by unfold str;simp
      rw[ed];refine az.ex (yy d.b).s ⟨_,rfl,az.hU (x:=(yy d.b).s) ((F.tt A').get p' id) λD' P' U' _=>j6 _ _ ?_⟩;have w':=Fr.no (F.tt A') U';cases j:vF d.b with
      |true=>exact C' D' _ P' w' (K _ (by rw[ag j]))
      |false=>exact b' D' w' (k (by rw[af (by rw[j];decide)]))
     |false=>
      rw[dB];have c5:=gj J.symm;rw[af c5]at K k;refine ax.2 (aa.fN c2 (fM (n:=2) λd3 h'=>aa.ex (nv 2).s ⟨rfl,h'.kp,ji (x:=y0) (y:=nv 2) (c'.on (G7.tt h')) nK ae λa4 V'=>⟨_,rfl,aH.of λJ7 b6=> ?_⟩⟩));have j7: ∀q g,S q g->J7 q g:=λq g hh=>by subst b6;exact j6 _ _ hh
      have B:=F.tt (h'.tt V');cases e2:oV O (num 2)with
      |false=>
       rw[dB];exact j7 _ _ (b' a4 (L' B) (k (by rw[af (by rw[e2];decide)])))
      |true=>
       rw[ag rfl];rw[ag e2]at K k;refine ax.2 (aa.fN (B.get M id) (Hd (d'.on (p.tt (l.tt B))) ae (λq4 q2 qn E' M' c u' i'=>⟨_,_,_,_,rfl,aH.of λJ8 o'=> ?_⟩) (λqn E' i'=>⟨_,_,_,_,rfl,aH.of λJ8 o'=> ?_⟩)))
       .rw[ag rfl];have n0:(nc d.l)[0]? =some (.U ((at_ d.l 0).n:Int)):=by unfold nc at_;rw[aD,bk,ai ae];rfl
        have n1:(nc d.l)[1]? =some (.U ((at_ d.l 1).n:Int)):=by unfold nc at_;rw[aD,bk,ai ae];rfl
        obtain⟨c9,rfl⟩:=u'.some (by intro e;rw[e]at n0;cases n0);have c0:=u'.cell n0;have c1:=u'.cell n1;have x':=B.tt i';refine⟨ae,ax.2 ⟨_,by rw[show Int.toNat 0*1=0 from rfl];exact c0,ae,ax.2 ⟨_,by rw[show Int.toNat 1*1=1 from rfl];exact c1,az.hU (x:=(Ow d).s) (x'.get p' id) λd4 z' X' _=>az.fN z' (jA.fK (Ow d) λm' B'=>⟨_,rfl,?_⟩)⟩⟩⟩;have y':Fr (λy=>y=C) v m':=(Fr.no x' X').on B';subst o';refine j7 _ _ ?_;cases j:dc (Ow d)with
        |true=>exact C' m' _ (B'.get z' id) y' (K _ (by rw[ag ⟨q4,q2,qn,j⟩]))
        |false=>exact b' m' y' (k (by rw[af (λe=>by rw[j]at e;cases e.2.2.2)]))
       .rw[dB];subst o';exact j7 _ _ (b' E' (L' (B.tt i')) (k (by rw[af (λe=>qn ⟨e.1,e.2.1,e.2.2.1⟩)])))
    have e':=f.tt (j'.tt Z');cases E:oV O (num 1)with
    |false=>
     rw[dB];exact j5 _ _ e' (by rw[E];simp)
    |true=>
     rw[ag rfl];refine ax.2 ⟨_,ak (e'.get M id),j5 _ _ e' ?_⟩;rw[show r.s.f0=d.k from c6,E];by_cases q:d.k=3<;>simp[q]
  refine ax.2 (aa.fN s' (fM (n:=1) λd7 k'=>aa.ex (nv 1).s ⟨rfl,k'.kp,ji (x:=y0) (y:=nv 1) (c'.on (p.tt (l.tt k'))) nK ae λd8 a2=>⟨_,rfl,?_⟩⟩));have P:=k'.tt a2;cases E:oV O (num 1)with
  |false=>
   rw[dB];exact j3 _ _ P (by rw[E];simp)
  |true=>
   rw[ag rfl];refine ax.2 (aa.fN (P.get M id) (fM (n:=0) λd9 l'=>aa.ex (nv 0).s ⟨rfl,l'.kp,ji (x:=r) (y:=nv 0) (d'.on (p.tt (l.tt (P.tt l')))) nK ae λe0 a3=>⟨_,rfl,?_⟩⟩));exact j3 _ _ (P.tt (l'.tt a3)) (by rw[E];simp)
 have e3:a0.block<h3.size:=by
  have:=I'.1;have:=rj this;rwa[nh,nh]at this
 have e5:a1.block<h3.size:=by
  have:=J'.1;have:=rj this;rwa[nh,nh]at this
 refine⟨aa.da λb3 a5 S' w n=>⟨n.kp,aa.da λb4 a6 T' q' s=>⟨s.kp,aa.hU (x:=y0.s) (s.get w id) λa7 f' u _=>⟨Vr u ?_,aa.hU (x:=r.s) (u.get q' (bR (aC w))) λn' g' I _=> ?_⟩⟩⟩,
  aa.da λb3 a5 S' w n=>⟨n.kp,aa.da λb4 a6 T' q' s=>⟨s.kp,aa.hU (x:=y0.s) q' λa7 f' u _=>⟨Vr u ?_,aa.hU (x:=r.s) (u.get (s.get w id) (bR (aC w))) λn' g' I _=> ?_⟩⟩⟩,trivial⟩
 .intro M' j;simp only[bK,gH,or_false]at j;rcases j with rfl|rfl
  .exact Ua ae
  .simp only[du];intro e;have:=aZ e;omega
 .have:=aC w;have:=n.1;exact K' n' b3 b4 (I.get f' ae) g' (((n.tt s).fresh u (λy e=>ae)).fresh I (λy e=>ae))
 .intro M' j;simp only[bK,gH,or_false]at j;have:=n.1;rcases j with rfl|rfl
  .exact Ua ae
  .simp only[du];intro e;have:=aZ e;omega
 .have:=aC w;have:=n.1;exact K' n' b4 b3 (I.get f' ae) g' (((n.tt s).fresh u (λy e=>ae)).fresh I (λy e=>ae))
abbrev jq.s(x:jq):ah.S:=⟨x.e.km,x.e.node,x.e.gy,x.e.host,x.e.jN,x.tm,x.sq⟩
theorem iX(x:Ev){K:az.S->Prop}(d:h[b]? =some (.C c T (0,0)))(a:c[o]? =some (.B x.km))(e:c[o+1]? =some (.U x.node))(f:c[o+2]? =some (.U x.gy))(g:c[o+3]? =some (.S x.host))(j:c[o+4]? =some (.S x.jN))(k:K x.s):az.cN h (AA b o) K:=
 ⟨_,cB d a,_,cB d e,_,cB d f,_,cB d g,_,cB d j,k⟩
theorem A5(x:jq){K:ah.S->Prop}(d:h[b]? =some (.C c T (0,0)))(a:c[o]? =some (.B x.e.km))(e:c[o+1]? =some (.U x.e.node))(f:c[o+2]? =some (.U x.e.gy))(g:c[o+3]? =some (.S x.e.host))(j:c[o+4]? =some (.S x.e.jN))(k:c[o+5]? =some (.U (x.tm:Int)))(l:c[o+6]? =some (.U (x.sq:Int)))(m:K x.s):ah.cN h (AA b o) K:=
 ⟨_,cB d a,_,cB d e,_,cB d f,_,cB d g,_,cB d j,_,cB d k,_,cB d l,m⟩
theorem ES{y:ah.S}(x:jq){K:ah.S->aj->Prop}(e:ah.fR h b y)(j: ∀H,Fr (λy=>y=b) h H->K x.s H):
  ah.dw h (AA b 0) x.s λg=>ah.cN g (AA b 0) λr=>K r g:=
 ah.hU (x:=x.s) e λg d f _=>ah.fN d (j g f)
theorem lG(n m:Nat):decide ((n:Int)<=(m:Int))=decide (n<=m):=by by_cases e:n<=m<;>simp[e]<;>omega
theorem sN(x:jq)(d: iq h R (.B (ij x))):Cl 167 #[x.s.agg] h R:=by
 refine G1.walk (ah.da λb p n e F=>iX x.e e rfl rfl rfl rfl rfl (jA.fK x.e λm f=>⟨_,rfl,?_⟩));have g:=f.get e id;have d:=d m (F.tt f);unfold ij at d;cases j:dc x.e with
 |false=>rw[j]at d;exact d
 |true=>
  rw[j]at d;rw[ag rfl];refine⟨_,ak g,?_⟩;have E:decide ((x.s.f5:Int)<=1099511627776)=decide (x.tm<=1099511627776):=lG x.tm 1099511627776;have l:decide ((x.s.f6:Int)<=1099511627776)=decide (x.sq<=1099511627776):=lG x.sq 1099511627776;rw[E];cases k:decide (x.tm<=1099511627776)with
  |false=>rw[k]at d;exact d
  |true=>
   rw[k]at d;rw[ag rfl];refine⟨_,ak g,?_⟩;rw[l];exact d
theorem DF(x:jq)(X:0<=x.e.gy)(O:ij x=true->∀H z,tY H (λy=>h.size<=y) (Ox x) z->Fr No h H->R (.T #[z.agg,.I 0]) H)(P:ij x=false->iq h R (.T #[zv.agg,.I 3])):Cl 108 #[x.s.agg] h R:=by
 refine Ha.walk (ah.da λb h1 eb A n=>aa.da λZ h2 a' B j=>ah.fN (x:=x.s) (j.get A id) (sN x λh3 g=>⟨_,rfl,?_⟩));have l:=(j.tt g).get A id;have C:=g.get B id;have m:=n.tt (j.tt g);have z1:=n.1;have h':=aC B;have z3:=g.1;cases d:ij x with
 |false=>exact EP C λJ G=>P d J (m.fresh G (λy e=>ae))
 |true=>
  have v:dc x.e=true:=by unfold ij at d;simp only[aU]at d;exact d.1.1
  rw[dB];refine iX x.e l rfl rfl rfl rfl rfl (xh x.e X (λ_ h5 z U f=>aa.ex z.s ⟨_,rfl,aa.fY (x:=z.s) λb2 h7 b' K k=>aa.fN K ⟨_,ak ((f.tt k).get l id),_,ak ((f.tt k).get l id),?_⟩⟩) (λe=>by rw[v]at e;cases e));refine fM λh8 s=>aa.ex (nv x.tm).s ⟨rfl,s.kp,fM λh9 u=>aa.ex (nv x.sq).s ⟨rfl,u.kp,px (ys:= [nv x.tm,nv x.sq]) rfl λb3 d' c' L p=>⟨p.kp,kC (L (λ_=>True) trivial) (two nK nK) (by simp[room,dK]) λe' y T q=>aa.ex y.s ⟨rfl,q.kp,?_⟩⟩⟩⟩
  have F:=k.tt (s.tt (u.tt (p.tt q)));have er:=nt x.e v;refine qo (ys:= [z,y]) (two (U.u.on F) T.u) (by simp only[room,dK,bG];omega) rfl rfl λf' w S r=>aa.ex w.s ⟨rfl,?_⟩
  have z5:=f.1;have g':=F.1;exact fin ((f.tt (F.tt r)).get C id) S (λy M e=>ae) λI Q E=>O d I w (Q.mono λy M=>ae) ((m.tt (f.tt (F.tt r))).fresh E (λy e=>ae))
theorem A6{x:jq}(h:ij x=true):dc x.e=true/\x.tm<=1099511627776/\x.sq<=1099511627776:=by
 unfold ij at h;simp only[aU,aX]at h;exact⟨h.1.1,h.1.2,h.2⟩
theorem vR{e:Ev}(h:pn V t=some e):0<=e.gy/\dc e=true:=by
 unfold pn at h;split at h
 .split at h
  .cases h;decide
  .split at h
   .split at h
    .rename_i d;cases h;unfold vF at d;simp only[aU]at d;exact⟨by show(0:Int)<=0;omega,d.2⟩
    .cases h
   .split at h
    .split at h
     .rename_i d;cases h;exact⟨by show(0:Int)<=((_:Nat):Int);omega,d.2.2.2⟩
     .cases h
    .cases h
 .cases h
theorem He(x:jq)(h:ij x=true):room (Ox x)<=300:=by
 have:=nt x.e (A6 h).1;simp only[Ox,room,dK,bG];omega
def EQ(V:cM->Bool)(t:Tr)(e:Ev)(q:Int):Prop:=(q=0->pn V t=some e)/\(q≠0->pn V t=none)/\0<=e.gy
theorem ET(U:lO V a)(u:Fr No a h)(m:lM.Mx h)(k:EO h t x)(j:room t<=900000)(g: ∀e q,EQ V t e q->iq h R (.T #[e.s.agg,.I q])):Cl 210 #[x.agg] h R:=
 OQ U u m k j (λe d H f=>g e 0 ⟨λ_=>d,λq=>absurd rfl q,(vR d).1⟩ H f) (λd H f=>g .zero 3 ⟨λq=>absurd q dN,λ_=>d,dN⟩ H f)
theorem KL(x:jq)(w:0<=x.e.gy)(g: ∀H z q,(q=0->EO H (Ox x) z)->(q=0↔ij x=true)->Fr No h H->R (.T #[z.s.agg,.I q]) H):Cl 108 #[x.s.agg] h R:=
 DF x w (λd H z j f=>g H z 0 (λ_=>j.u) ⟨λ_=>d,λ_=>rfl⟩ f) (λd H f=>g H zv 3 (λe=>absurd e dN) ⟨λe=>absurd e dN,λe=>by rw[d]at e;cases e⟩ f)
theorem Hf(U:lO V a)(z':Fr No a h)(mx:lM.Mx h)(tx:EO h t x)(hr:room t<=900000)(K: ∀e,kq V t=some e->iq h R (.T #[e.s.agg,.I 0]))(k:kq V t=none->iq h R (.T #[jq.zero.s.agg,.I 3])):Cl 211 #[x.agg] h R:=by
 obtain⟨xk,xn,xb,xl,xv,ys,L,TS⟩:=gX.kn tx;have rl:=lF (t:=t);refine Ji.walk (x:=x.s) (aa.da λb h1 eb hb f1=>ah.da λb1 q F' Z S=>aH.of λJ s=> ?_);have F:=f1.tt S;have d:=S.get hb id;have zb:=aC hb;have O':=aC Z;have z1:=f1.1;have z2:=S.1;have bad:kq V t=none->J true q:=λhn=>by
  subst s;dsimp only;rw[ag rfl];exact ES .zero Z λg f=>k hn g (F.fresh f (λy e=>ae))
 have e4:x.s.f0=t.k:=xk;have el:x.s.FN=t.l.length:=xl;refine⟨_,ak d,?_⟩;rw[e4];by_cases B:t.k=4
 case neg=>rw[ag (cI B)];exact bad (by unfold kq;rw[af (λe=>B e.1)])
 rw[af (cI B)];refine⟨_,_,_,ak d,?_⟩;rw[el];by_cases l2:t.l.length=2
 case neg=>rw[ag (by simp only[dv,ff];omega)];exact bad (by unfold kq;rw[af (λe=>l2 e.2.1)])
 rw[af (by simp only[dv,ff];omega)];obtain⟨a0,y0,l',r',h',_⟩:=elem (L.frame F bX) (TS.on F) (i:=0) ae;obtain⟨A,I,E,g',i',_⟩:=elem (L.frame F bX) (TS.on F) (i:=1) ae;obtain⟨j',D',C',k',L',M',L1,O⟩:=gX.kn i';have c0:aY q (A.add (Int.toNat 1*4))=some (.I I.k):=by have:=g'.1;rwa[eX]at this
 have P:aY q ((A.add (Int.toNat 1*4)).add 3)=some (.L I.q I.ll I.cl):=g'.2.2.2.1;have r0:=jj (ts:=t.l) (i:=0) ae;have r1:=jj (ts:=t.l) (i:=1) ae;refine⟨_,_,_,ak d,ae,bW.2 ⟨A,E,_,c0,?_⟩⟩;rw[j'];by_cases w:(at_ t.l 1).k=4
 case neg=>rw[ag (cI w)];exact bad (by unfold kq;rw[af (λe=>w e.2.2.1)])
 rw[af (cI w)];refine⟨_,_,_,ak d,ae,bW.2 ⟨A,E,_,_,_,P,?_⟩⟩;rw[k'];by_cases l3:(at_ t.l 1).l.length=2
 case neg=>rw[show(((((at_ t.l 1).l.length:Nat):Int)) !=2)=true by simp only[dv,ff];omega];exact bad (by unfold kq;rw[af (λe=>l3 e.2.2.2)])
 rw[show(((((at_ t.l 1).l.length:Nat):Int)) !=2)=false by simp only[gA];omega];clear bad;subst s;dsimp only;rw[af (show¬false=true by decide)];unfold kq at K k;rw[ag ⟨B,l2,w,l3⟩]at K k;generalize J':at_ t.l 0=t0 at h' r0 K k;generalize K':at_ t.l 1=t1 at i' r1 K k j' D' C' k' O w l3;refine⟨_,_,_,ak d,ae,bW.2 ⟨a0,l',aa.lX (x:=y0.s) r' (ET U (z'.tt F) (mx.on F) h' ae λe w' ⟨u',v',we⟩ g fg=>az.ex e.s ⟨_,rfl,?_⟩)⟩⟩;obtain⟨p0,w0,m',u,x',_⟩:=elem L1 O (i:=0) ae;obtain⟨p1,w1,n',v,y',_⟩:=elem L1 O (i:=1) ae;obtain⟨_,A',_⟩:=gX.kn x';obtain⟨_,B',_⟩:=gX.kn y';have u:aY q ((p0.add (Int.toNat 0*4)).add 1)=some (.U (w0.n:Int)):=u.2.1;have v:aY q ((p1.add (Int.toNat 1*4)).add 1)=some (.U (w1.n:Int)):=v.2.1;rw[A']at u;rw[B']at v;obtain⟨n,s'⟩: ∃n,(at_ t1.l 0).n=n:=⟨_,rfl⟩;obtain⟨l,t'⟩: ∃l,(at_ t1.l 1).n=l:=⟨_,rfl⟩;rw[s']at u K k;rw[t']at v K k;refine az.fY (x:=e.s) λb2 h7 G' p' f7=>az.fN p' ?_
 have G:=fg.tt f7;refine⟨_,_,_,ak (G.get d id),ae,bW.2 ⟨A,E,_,_,_,G.cell P id,ae,bW.2 ⟨p0,m',_,G.cell u id,_,_,_,ak (G.get d id),ae,bW.2 ⟨A,E,_,_,_,G.cell P id,ae,bW.2 ⟨p1,n',_,G.cell v id,?_⟩⟩⟩⟩⟩;refine ah.da λb3 h8 H' f' z=>⟨z.kp,ah.hU (x:=(⟨e,n,l⟩:jq).s) f' λh9 d9 X _=>ah.fN d9 ?_⟩
 have z7:=f7.1;have z8:=z.1;have zg:=fg.1;have P':=aC f';have z9:=X.1;have G9:Fr (λy=>y=b3) q h9:=Fr.no (G.tt z) X;have M:Fr No h h9:=(F.tt (G.tt z)).fresh X (λy e=>ae);refine KL ⟨e,n,l⟩ we λg2 a' q2 hw hq o'=>aa.ex a'.s ⟨_,rfl,?_⟩
 refine aa.fY (x:=a'.s) λb4 r I' q' b'=>aH.of λJ s=> ?_
 have m:=o'.tt b';have e': ∀{g},Fr No r g->ah.fR g b1 .z:=λfq=>fq.get (m.get (G9.get Z ae) id) id
 have no: ∀j,Fr No r j->(iq h R (.T #[jq.zero.s.agg,.I 3]))->J true j:=λj p hk=>by
  subst s;try dsimp only
  rw[ag rfl];exact ES .zero (e' p) λg f=>hk g ((M.tt (m.tt p)).fresh f (λy e=>ae))
 have E': ∀j,Fr No r j->(iq h R (.T #[(⟨e,n,l⟩:jq).s.agg,.I 0]))->J false j:=λj p hk=>by
  subst s;try dsimp only
  rw[dB];exact ah.fN ((m.tt p).get d9 id) (ES ⟨e,n,l⟩ (e' p) λg f=>hk g ((M.tt (m.tt p)).fresh f (λy e=>ae)))
 by_cases C:w'=0
 case neg=>rw[ag (cI C)];exact no r (Fr.refl _ _) (k (by rw[v' C]))
 rw[af (cI C)];rw[u' C]at K k;dsimp only at K k;by_cases Q:q2=0
 case neg=>rw[ag (cI Q)];exact no r (Fr.refl _ _) (k (by rw[af (λe=>Q (hq.2 e.1))]))
 rw[af (cI Q)];have hI:=hq.1 Q;have rI:=He _ hI;refine aa.fN q' (aa.fN (x:=x.s) (m.get (G9.get d ae) id) (ji (x:=a') (y:=x) ((hw Q).on b') (tx.on (M.tt m)) ae λd' c'=>⟨_,rfl,?_⟩));cases hs:oV (Ox ⟨e,n,l⟩) t with
 |true=>exact E' d' c' (K _ (by rw[ag ⟨hI,hs⟩]))
 |false=>exact no d' c' (k (by rw[af (λe=>by rw[hs]at e;cases e.2)]))
theorem uL{x:jq}(h:kq V t=some x):0<=x.e.gy:=by
 unfold kq at h;split at h
 .split at h
  .cases h
  .rename_i e d;split at h
   .cases h;exact(vR d).1
   .cases h
 .cases h
def IQ(V:cM->Bool)(t:Tr)(x:jq)(q:Int):Prop:=(q=0->kq V t=some x)/\(q≠0->kq V t=none)/\0<=x.e.gy
theorem EU(U:lO V a)(u:Fr No a h)(m:lM.Mx h)(k:EO h t x)(j:room t<=900000)(g: ∀e q,IQ V t e q->iq h R (.T #[e.s.agg,.I q])):Cl 211 #[x.agg] h R:=
 Hf U u m k j (λe d H f=>g e 0 ⟨λ_=>d,λq=>absurd rfl q,uL d⟩ H f) (λd H f=>g .zero 3 ⟨λq=>absurd q dN,λ_=>d,dN⟩ H f)

end Bn
end
section
variable {h:aj} {R:fD}
variable {x:aI.S}
theorem EW.walk{a:aI.S}{b:aI.S}(o:bh h (.C a.arr 28) λB n=>bh n (.C b.arr 28) λc H=>Hu H B 0 λI=> ∃m,Cc H c 0 (.U m)/\if(I==m)then Hi H B 1 λp=> ∃t,Cc H c 1 (.I t)/\if(p==t)then az.cN H (AA B 2) λq=>az.cN H (AA c 2) λr=> ∃(e:Bool),zJ Tryz.prog 25 (q.agg) (r.agg) e/\if e then az.cN H (AA B 7) λs=>az.cN H (AA c 7) λu=> ∃(eq_1:Bool),zJ Tryz.prog 25 (s.agg) (u.agg) eq_1/\if eq_1 then Hi H B 12 λw=> ∃T,Cc H c 12 (.I T)/\if(w==T)then Hi H B 13 λy=> ∃f,Cc H c 13 (.I f)/\if(y==f)then Hi H B 14 λz=> ∃g,Cc H c 14 (.I g)/\if(z==g)then Hl H B 15 λD C A=>Hl H c 15 λG F E=>Cl 69 #[.L D C A,.L G F E] H λv d=> ∃i,v=.B i/\if i then Hu d B 16 λJ=> ∃j,Cc d c 16 (.U j)/\if(J==j)then Hu d B 17 λK=> ∃k,Cc d c 17 (.U k)/\if(K==k)then Hb d B 18 λL=> ∃l,Cc d c 18 (.B l)/\R (.B (L==l)) d else R (.B false) d else R (.B false) d else R (.B false) d else R (.B false) H else R (.B false) H else R (.B false) H else R (.B false) H else R (.B false) H else R (.B false) H else R (.B false) H):Cl 68 #[a.agg,b.agg] h R:=aP (lq ll) Tryz.func68 o
theorem Hh.walk (hv:bh h (.C x.arr 28) λb F=>aI.NW F λv g=>Hu g b 0 λt5=>Hi g b 1 λt7=>aI.NW g λB a'=>aI.dw a' (AA B 0) ⟨t5,t7,false,0,0,gg,gg,false,0,0,gg,gg,0,0,0,none,0,0,0,0,false⟩ λi=>Hi i b 1 λt=>aH (λ(z:aj)=>aI.cN z (AA B 0) λt'=>aI.dw z (AA v 0) t' λA=>aI.cN A (AA v 0) λr0=>R (r0.agg) A) (λJ=>aH (λ(d':Bool) (c:aj)=>aH (λ(c':aj)=>J c') (λm=>if d' then az.cN c (AA b 2) λe'=>Hi c b 12 λf'=>az.dw c (AA B 2) e' λC=>Kp c C [(Sa b 12)]/\aT C (AA B 12) (.I f') λG=>m G else aH (λ(g':Bool) (H:aj)=>aH (λ(I:aj)=>m I) (λo=>if g' then az.cN H (AA b 2) λh'=>az.dw H (AA B 2) h' λK=>o K else aH (λ(L:aj)=>o L) (λp=>if(t==4)then az.cN H (AA b 2) λi'=>az.cN H (AA b 7) λj'=>Hl H b 15 λm' l' k'=>Hu H b 16 λn'=>Hb H b 18 λo'=>az.dw H (AA B 2) i' λd=>Kp H d [(Sa b 18),(Sa b 16),(Sa b 15),(Sa b 7)]/\az.dw d (AA B 7) j' λe=>Kp d e [(Sa b 18),(Sa b 16),(Sa b 15)]/\aT e (AA B 15) (.L m' l' k') λf=>Kp e f [(Sa b 18),(Sa b 16)]/\aT f (AA B 16) (.U n') λw=>Kp f w [(Sa b 18)]/\aT w (AA B 18) (.B o') λM=>p M else aH (λ(p':Bool) (a:aj)=>aH (λ(O:aj)=>p O) (λr=>if p' then∃T,Cc a b 13 (.I T)/\aT a (AA B 13) (.I T) λP=>r P else aH (λ(Q:aj)=>r Q) (λs=>if(t==7)then az.cN a (AA b 2) λr'=>Hi a b 14 λs'=>az.dw a (AA B 2) r' λy=>Kp a y [(Sa b 14)]/\aT y (AA B 14) (.I s') λS=>s S else aH (λ(U:aj)=>s U) (λu=>if(t==10)then∃D,Cc a b 18 (.B D)/\aT a (AA B 18) (.B D) λV=>u V else aH (λ(X:aj)=>u X) (λk=>if(t==12)then∃E,Cc a b 17 (.U E)/\aT a (AA B 17) (.U E) λZ=>k Z else k a))))) (λq=>if(t==5)then q (t==5) H else aH (λ(q':Bool) (b':aj)=>q q' b') (λl=>if(t==8)then l (t==8) H else l (t==9) H))))) (λn=>if(t==2)then n (t==2) c else n (t==6) c))) (λj=>if(t==1)then j (t==1) i else j (t==3) i))):Cl 103 #[x.agg] h R:=aP (lq (lq (sq (lq (.join [] (bq (sq (lq (.join [(11,.one (.bool))] (cq lf lf))) (.join [] (cq (pK 8) (sq (lq (.join [(20,.one (.bool))] (cq lf lf))) (.join [] (cq lf (lq (.join [] (cq (pK 20) (sq (lq (.join [(43,.one (.bool))] (cq lf (lq (.join [(43,.one (.bool))] (cq lf lf)))))) (.join [] (cq lf (lq (.join [] (cq (pK 8) (lq (.join [] (cq lf (lq (.join [] (cq lf lf)))))))))))))))))))))))) ll))) Tryz.func103 hv
theorem A7.walk{x:az.S}(c:bh h (.C x.arr 25) λb a=>az.cN a (AA b 0) λT=>Cl 44 #[T.agg] a λv H=> ∃t,v=.B t/\if t then az.cN H (AA b 0) λd=> ∃(e:Bool),zJ Tryz.prog 25 (d.agg) (az.S.z.agg) e/\R (.B (!e)) H else R (.B false) H):Cl 161 #[x.agg] h R:=aP (lq ll) Tryz.func161 c
theorem CD.walk (I:bh h (.C x.arr 28) λb g=>Hi g b 1 λt=>aH (λ(S:Bool) (f:aj)=>if S then az.cN f (AA b 2) λZ=>Cl 161 #[Z.agg] f λa' d=> ∃T,a'=.B T/\if T then∃m,Cc d b 12 (.I m)/\if(decide (m≥0))then∃n,Cc d b 12 (.I n)/\R (.B (decide (n<=2))) d else R (.B false) d else R (.B false) d else aH (λ(K:Bool) (a:aj)=>if K then az.cN a (AA b 2) λL=>Cl 161 #[L.agg] a λb' G=> ∃o,b'=.B o/\R (.B o) G else if(t==4)then az.cN a (AA b 2) λM=>Cl 161 #[M.agg] a λc' i=> ∃p,c'=.B p/\if p then az.cN i (AA b 7) λO=>Cl 161 #[O.agg] i λd' c=> ∃q,d'=.B q/\if q then∃Q r P,Cc c b 15 (.L Q r P)/\if(decide (((r:Nat):Int)<=200))then∃s,Cc c b 16 (.U s)/\if(decide (s≥1))then∃u,Cc c b 16 (.U u)/\R (.B (decide (u<=1099511627776))) c else R (.B false) c else R (.B false) c else R (.B false) c else R (.B false) i else aH (λ(U:Bool) (H:aj)=>if U then∃v,Cc H b 13 (.I v)/\if(decide (v≥1))then∃w,Cc H b 13 (.I w)/\R (.B (decide (w<=1099511627776))) H else R (.B false) H else if(t==7)then az.cN H (AA b 2) λX=>Cl 161 #[X.agg] H λe' e=> ∃y,e'=.B y/\if y then∃z,Cc e b 14 (.I z)/\if(decide (z≥1))then∃A,Cc e b 14 (.I A)/\R (.B (decide (A<=1000))) e else R (.B false) e else R (.B false) e else if(t==12)then∃B,Cc H b 17 (.U B)/\if(decide (B≥1))then∃C,Cc H b 17 (.U C)/\R (.B (decide (C<=2147483648))) H else R (.B false) H else∃D,Cc H b 1 (.I D)/\if(D==10)then R (.B true) H else∃E,Cc H b 1 (.I E)/\R (.B (E==11)) H) (λk=>if(t==5)then k (t==5) a else aH (λ(V:Bool) (F:aj)=>k V F) (λl=>if(t==8)then l (t==8) a else l (t==9) a))) (λj=>if(t==2)then j (t==2) f else j (t==6) f)) (λJ=>if(t==1)then J (t==1) g else J (t==3) g)):Cl 102 #[x.agg] h R:=aP (lq (sq (lq (bq (sq (lq (.join [(5,.one (.bool))] (cq lf lf))) (cq ll (sq (lq (.join [(21,.one (.bool))] (cq lf lf))) (cq ll (lq (cq ll (sq (lq (.join [(53,.one (.bool))] (cq lf (lq (.join [(53,.one (.bool))] (cq lf lf)))))) (cq ll (lq (cq ll (lq (cq ll lf)))))))))))))) ll)) Tryz.func102 I
theorem CE.walk(i:bh h (.C x.arr 28) λb H=> ∃f,Cc H b 0 (.U f)/\if(decide (f≥1))then∃g,Cc H b 0 (.U g)/\if(decide (g<=1099511627776))then aI.cN H (AA b 0) λj=>Cl 102 #[j.agg] H λv a=> ∃t,v=.B t/\Kp H a [(Sa b 0),(Sa b 0)]/\if t then aI.cN a (AA b 0) λk=>aI.cN a (AA b 0) λl=>Cl 103 #[l.agg] a λV c=>aI.EX λT=>V=T.agg/\Kp a c [(Sa b 0),(Sa b 0),(Sa b 0)]/\Cl 68 #[k.agg,T.agg] c λm d=> ∃e,m=.B e/\Kp c d [(Sa b 0),(Sa b 0)]/\R (.B e) d else R (.B false) a else R (.B false) H else R (.B false) H):Cl 71 #[x.agg] h R:=aP (lq (sq (pK 19) lf)) Tryz.func71 i

end
section
namespace Ask
open jA (Ev dc lL)
open Bn (iX)
variable {h H g:aj} {R:fD} {p q:ck} {c d:Nat}
variable {b:Nat} {y:aI.S} {x:az.S} {K:aj->Prop}
abbrev Rq.s(x:Rq)(p:ck)(c:Nat):aI.S:=⟨x.id,x.kind,x.ep.km,x.ep.node,x.ep.gy,x.ep.host,x.ep.jN,x.dest.km,x.dest.node,x.dest.gy,x.dest.host,x.dest.jN,x.kH,x.num,x.jm,p,x.mz.length,c,x.fW,x.token,x.on⟩
theorem py{P:Prop}{b:Bool}(a:b=true->P)(e:b=false->P):P:=by cases b;exact e rfl;exact a rfl
theorem Hj(x y:Rq)(O:Row h p (bc x.mz))(P:Row h q (bc y.mz))(D: iq h R (.B (decide (x=y)))):Cl 68 #[(x.s p c).agg,(y.s q d).agg] h R:=by
 refine EW.walk (aI.da λb U S M J=>aI.da λQ f T i B=> ?_);have j:=B.get M id;have F:=J.tt B;have k: ∀g,Fr No h g->x≠y->R (.B false) g:=λg L e=>by have:=D g L;rw[aB e]at this;exact this
 have I: ∀(a b:Int)(m n:Nat),a=m->b=n->m≠n->¬(a==b)=true:=λa b m n E G e=>by rw[E,G];simp only[db];omega
 refine⟨_,ak j,_,ak i,?_⟩;by_cases C:x.id=y.id
 case neg=>rw[af (I _ _ _ _ rfl rfl C)];exact k f F (λe=>C (by rw[e]))
 rw[ag (by show((x.id:Int)==(y.id:Int))=true;rw[C];simp)];refine⟨_,ak j,_,ak i,?_⟩;by_cases r:x.kind=y.kind
 case neg=>rw[af (by show¬(x.kind==y.kind)=true;simpa using r)];exact k f F (λe=>r (by rw[e]))
 rw[ag (by show(x.kind==y.kind)=true;simpa using r)];refine iX x.ep j rfl rfl rfl rfl rfl (iX y.ep i rfl rfl rfl rfl rfl ⟨_,jA.vD (x:=x.ep) (y:=y.ep) rfl rfl,?_⟩);by_cases s:x.ep=y.ep
 case neg=>rw[af (cI s)];exact k f F (λe=>s (by rw[e]))
 rw[ag (cI s)];refine iX x.dest j rfl rfl rfl rfl rfl (iX y.dest i rfl rfl rfl rfl rfl ⟨_,jA.vD (x:=x.dest) (y:=y.dest) rfl rfl,?_⟩);by_cases t:x.dest=y.dest
 case neg=>rw[af (cI t)];exact k f F (λe=>t (by rw[e]))
 rw[ag (cI t)];refine⟨_,ak j,_,ak i,?_⟩;by_cases u:x.kH=y.kH
 case neg=>rw[af (by show¬(x.kH==y.kH)=true;simpa using u)];exact k f F (λe=>u (by rw[e]))
 rw[ag (by show(x.kH==y.kH)=true;simpa using u)];refine⟨_,ak j,_,ak i,?_⟩;by_cases v:x.num=y.num
 case neg=>rw[af (by show¬(x.num==y.num)=true;simpa using v)];exact k f F (λe=>v (by rw[e]))
 rw[ag (by show(x.num==y.num)=true;simpa using v)];refine⟨_,ak j,_,ak i,?_⟩;by_cases w:x.jm=y.jm
 case neg=>rw[af (by show¬(x.jm==y.jm)=true;simpa using w)];exact k f F (λe=>w (by rw[e]))
 rw[ag (by show(x.jm==y.jm)=true;simpa using w)];refine⟨_,_,_,ak j,_,_,_,ak i,Cb.kJ (O.frame F bX) (P.frame F bX) rfl rfl ⟨_,rfl,?_⟩⟩;by_cases z:x.mz=y.mz
 case neg=>rw[af (cI z)];exact k f F (λe=>z (by rw[e]))
 rw[ag (cI z)];refine⟨_,ak j,_,ak i,?_⟩;by_cases A:x.fW=y.fW
 case neg=>rw[af (I _ _ _ _ rfl rfl A)];exact k f F (λe=>A (by rw[e]))
 rw[ag (by show((x.fW:Int)==(y.fW:Int))=true;rw[A];simp)];refine⟨_,ak j,_,ak i,?_⟩;by_cases l:x.token=y.token
 case neg=>rw[af (I _ _ _ _ rfl rfl l)];exact k f F (λe=>l (by rw[e]))
 rw[ag (by show((x.token:Int)==(y.token:Int))=true;rw[l];simp)];refine⟨_,ak j,_,ak i,?_⟩;have:=D f F;have e:decide (x=y)=(x.on==y.on):=by
  by_cases o:x.on=y.on
  .have:x=y:=by cases x;cases y;simp only at C r s t u v w z A l o;simp[C,r,s,t,u,v,w,z,A,l,o]
   rw[aw this,o];simp
  .rw[aB (λe=>o (by rw[e]))];simpa using o
 rw[e]at this;exact this
theorem pz(e:Ev)(a: iq h R (.B (mM e))):Cl 161 #[e.s.agg] h R:=by
 refine A7.walk (az.da λb k E j F=>az.fN (x:=e.s) j (jA.fK e λi f=>⟨_,rfl,?_⟩));unfold mM at a;cases C:dc e with
 |false=>rw[C]at a;rw[dB];exact a i (F.tt f)
 |true=>rw[C]at a;rw[ag rfl];exact az.fN (x:=e.s) (f.get j id) ⟨_,jA.vD (x:=e) (y:=.zero) rfl rfl,a i (F.tt f)⟩
theorem Q3(i:aI.fR h b y)(k: ∀H,aI.fR H b { y with f2:=x.f0,f3:=x.f1,f4:=x.f2,f5:=x.f3,f6:=x.f4 } ->Fr (λy=>y=b) h H->K H):az.dw h (AA b 2) x K:=
 (show dO (AA b 2) x.l 0 h K from lV (off:=2) (ws:=aI.S.l { y with f2:=x.f0,f3:=x.f1,f4:=x.f2,f5:=x.f3,f6:=x.f4 }) i (by show 2+5<=19;omega) rfl rfl λf D a e=>k f D (Fr.of_eq a λc j=>e c j))
theorem SY(i:aI.fR h b y)(k: ∀H,aI.fR H b { y with f7:=x.f0,f8:=x.f1,f9:=x.f2,f10:=x.f3,f11:=x.f4 } ->Fr (λy=>y=b) h H->K H):az.dw h (AA b 7) x K:=
 (show dO (AA b 7) x.l 0 h K from lV (off:=7) (ws:=aI.S.l { y with f7:=x.f0,f8:=x.f1,f9:=x.f2,f10:=x.f3,f11:=x.f4 }) i (by show 7+5<=19;omega) rfl rfl λf D a e=>k f D (Fr.of_eq a λc j=>e c j))
theorem rY{i:Nat}{z:aI.S}{v:Value}(j:aI.fR h b y)(l:i<19)(n:y.arr.setIfInBounds i v=z.arr)(m: ∀H,aI.fR H b z->Fr (λy=>y=b) h H->K H):aT h (AA b i) v K:=
 bD j l λf D a e=>m f (by unfold aI.fR;rw[<-n];exact D) (Fr.of_eq a λc k=>e c k)
theorem OR{B:Nat}{l:List (ck)}(f:Fr (λy=>y=B) h H)(n:b≠B)(i: ∀p∈l,p.map (·.block)=some b):Kp h H l:=f.U3 λp j x e a=>n (by have:=i p j;rw[e]at this;exact(aZ this).symm.trans a)
theorem bq{n k:Int}:((n==k)=true↔n=k):=db
theorem Jd(x:Rq)(rx:Row h p (bc x.mz))(hk: ∀H P C,Row H P (bc (rV x).mz)->Fr No h H->R ((rV x).s P C).agg H):Cl 103 #[(x.s p c).agg] h R:=by
 refine Hh.walk (aI.da λb h1 eb S U=>aI.da λb1 h2 l' b' u=>⟨_,ak (u.get S id),_,ak (u.get S id),aI.fY (x:=(jF x).s none 0) λM D m' n V=> ?_⟩);have i:=(u.tt V).get S id;have F4:=U.tt (u.tt V);have zb:=aC S;have o':=aC b';have z1:=U.1;have z2:=u.1;have A:b≠M:=ae
 have n':b1≠M:=ae
 refine⟨_,ak i,aH.of λe' hJ=>aH.of λJ1 f'=> ?_⟩;have fin: ∀g P C,aI.fR g M ((rV x).s P C)->Row h P (bc (rV x).mz)->Fr (λy=>y=M) D g->e' g:=by
  intro g P C hg hr fg;have Fg:Fr No h2 g:=V.fresh fg (λy e=>ae);have d':=(U.tt u).tt Fg;subst hJ;refine aI.fN hg (aI.hU (x:=(rV x).s P C) (Fg.get b' id) λh6 d6 F _=>aI.fN d6 ?_);have G6:=d'.fresh F (λy e=>ae);exact hk h6 P C (hr.frame G6 bX) G6
 have t:Row h none (bc []):=Row.nil;have key: ∀v,(v=true↔x.kind=1\/x.kind=3)->J1 v D:=by
  intro v o;subst f';dsimp only;refine aH.of λJ2 m=> ?_
  by_cases k:x.kind=1\/x.kind=3
  .have E:rV x= { jF x with ep:=x.ep,kH:=x.kH } :=ag k;rw[E]at fin;rw[ag (o.2 k)];exact iX x.ep i rfl rfl rfl rfl rfl ⟨_,ak i,Q3 n λG j f=>⟨OR f A bV,rY (z:=({ jF x with ep:=x.ep,kH:=x.kH } :Rq).s none 0) j dN rfl λO B F=>by subst m;exact fin O none 0 B t (f.tt F)⟩⟩
  rw[af (λe=>k (o.1 e))];refine aH.of λJ3 h'=> ?_
  have c': ∀v,(v=true↔x.kind=2\/x.kind=6)->J3 v D:=by
   intro v o;subst h';dsimp only;refine aH.of λJ4 s=> ?_
   by_cases a:x.kind=2\/x.kind=6
   .have E:rV x= { jF x with ep:=x.ep } :=(af k).trans (ag a);rw[E]at fin;rw[ag (o.2 a)];exact iX x.ep i rfl rfl rfl rfl rfl (Q3 n λG j f=>by subst s;subst m;exact fin G none 0 j t f)
   rw[af (λe=>a (o.1 e))];refine aH.of λJ5 w=> ?_
   by_cases r:x.kind=4
   .have E:rV x= { jF x with ep:=x.ep,dest:=x.dest,mz:=x.mz,fW:=x.fW,on:=x.on } :=(af k).trans ((af a).trans (ag r));rw[E]at fin;rw[ag (bq.2 r)];refine iX x.ep i rfl rfl rfl rfl rfl (iX x.dest i rfl rfl rfl rfl rfl ⟨_,_,_,ak i,_,ak i,_,ak i,Q3 n λG j f=>⟨OR f A bV,SY j λO B F=>⟨OR F A bV,?_⟩⟩⟩);refine rY (z:=({ jF x with ep:=x.ep,dest:=x.dest,mz:=x.mz } :Rq).s p c) B dN rfl λg3 e3 f7=>⟨OR f7 A bV,?_⟩
    refine rY (z:=({ jF x with ep:=x.ep,dest:=x.dest,mz:=x.mz,fW:=x.fW } :Rq).s p c) e3 dN rfl λg4 e4 f8=>⟨OR f8 A bV,?_⟩
    refine rY (z:=({ jF x with ep:=x.ep,dest:=x.dest,mz:=x.mz,fW:=x.fW,on:=x.on } :Rq).s p c) e4 dN rfl λg5 e5 f9=> ?_
    subst w;subst s;subst m;exact fin g5 p c e5 rx (f.tt (F.tt (f7.tt (f8.tt f9))))
   rw[af (λe=>r (bq.1 e))];refine aH.of λJ6 i'=> ?_
   have Z: ∀v,(v=true↔x.kind=5\/x.kind=8\/x.kind=9)->J6 v D:=by
    intro v o;subst i';dsimp only;refine aH.of λJ7 I=> ?_
    by_cases l:x.kind=5\/x.kind=8\/x.kind=9
    .have E:rV x= { jF x with num:=x.num } :=(af k).trans ((af a).trans ((af r).trans (ag l)));rw[E]at fin;rw[ag (o.2 l)];exact⟨_,ak i,rY (z:=({ jF x with num:=x.num } :Rq).s none 0) n dN rfl λG j f=>by subst I;subst w;subst s;subst m;exact fin G none 0 j t f⟩
    rw[af (λe=>l (o.1 e))];refine aH.of λJ8 Q=> ?_
    by_cases z:x.kind=7
    .have E:rV x= { jF x with ep:=x.ep,jm:=x.jm } :=(af k).trans ((af a).trans ((af r).trans ((af l).trans (ag z))));rw[E]at fin;rw[ag (bq.2 z)];exact iX x.ep i rfl rfl rfl rfl rfl ⟨_,ak i,Q3 n λG j f=>⟨OR f A bV,rY (z:=({ jF x with ep:=x.ep,jm:=x.jm } :Rq).s none 0) j dN rfl λO B F=>by subst Q;subst I;subst w;subst s;subst m;exact fin O none 0 B t (f.tt F)⟩⟩
    rw[af (λe=>z (bq.1 e))];refine aH.of λJ9 X=> ?_
    by_cases J:x.kind=10
    .have E:rV x= { jF x with on:=x.on } :=(af k).trans ((af a).trans ((af r).trans ((af l).trans ((af z).trans (ag J)))));rw[E]at fin;rw[ag (bq.2 J)];exact⟨_,ak i,rY (z:=({ jF x with on:=x.on } :Rq).s none 0) n dN rfl λG j f=>by subst X;subst Q;subst I;subst w;subst s;subst m;exact fin G none 0 j t f⟩
    rw[af (λe=>J (bq.1 e))];refine aH.of λj' a'=> ?_
    by_cases T:x.kind=12
    .have E:rV x= { jF x with token:=x.token } :=(af k).trans ((af a).trans ((af r).trans ((af l).trans ((af z).trans ((af J).trans (ag T))))));rw[E]at fin;rw[ag (bq.2 T)];exact⟨_,ak i,rY (z:=({ jF x with token:=x.token } :Rq).s none 0) n dN rfl λG j f=>by subst a';subst X;subst Q;subst I;subst w;subst s;subst m;exact fin G none 0 j t f⟩
    rw[af (λe=>T (bq.1 e))];have E:rV x=jF x:=(af k).trans ((af a).trans ((af r).trans ((af l).trans ((af z).trans ((af J).trans (af T))))));rw[E]at fin;subst a';subst X;subst Q;subst I;subst w;subst s;subst m;exact fin D none 0 n t (Fr.refl _ _)
   by_cases l:x.kind=5
   .rw[ag (bq.2 l)];exact Z _ ⟨λ_=> .inl l,λ_=>bq.2 l⟩
   rw[af (λe=>l (bq.1 e))];refine aH.of λk' g'=> ?_
   subst g';dsimp only;by_cases L:x.kind=8
   .rw[ag (bq.2 L)];exact Z _ ⟨λ_=> .inr (.inl L),λ_=>bq.2 L⟩
   rw[af (λe=>L (bq.1 e))];exact Z _ ⟨λe=> .inr (.inr (bq.1 e)),λe=>bq.2 ((e.resolve_left l).resolve_left L)⟩
  by_cases a:x.kind=2
  .rw[ag (bq.2 a)];exact c' _ ⟨λ_=> .inl a,λ_=>bq.2 a⟩
  rw[af (λe=>a (bq.1 e))];exact c' _ ⟨λe=> .inr (bq.1 e),λe=>bq.2 (e.resolve_left a)⟩
 by_cases k:x.kind=1
 .rw[ag (bq.2 k)];exact key _ ⟨λ_=> .inl k,λ_=>bq.2 k⟩
 rw[af (λe=>k (bq.1 e))];exact key _ ⟨λe=> .inr (bq.1 e),λe=>bq.2 (e.resolve_left k)⟩
theorem EY(n k:Nat):decide ((n:Int)≥(k:Int))=decide (n≥k):=by by_cases e:n≥k<;>simp[e]<;>omega
theorem OS(x:Rq)(a: iq h R (.B (lW x))):Cl 102 #[(x.s p c).agg] h R:=by
 refine CD.walk (aI.da λb A eb f t=>⟨_,ak f,aH.of λQ X=> ?_⟩);have key: ∀v,(v=true↔x.kind=1\/x.kind=3)->Q v A:=by
  intro v n;subst X;dsimp only;by_cases k:x.kind=1\/x.kind=3
  .have E:lW x=(mM x.ep && decide (x.kH≥0) && decide (x.kH<=2)):=ag k;rw[E]at a;rw[ag (n.2 k)];refine iX x.ep f rfl rfl rfl rfl rfl (pz x.ep λr F=>⟨_,rfl,?_⟩);have m:=F.get f id;have a:=a r (t.tt F);refine py (λl=> ?_) (λl=> ?_) (b:=mM x.ep)
   .rw[l]at a⊢;rw[ag rfl];refine⟨_,ak m,?_⟩;refine py (λC=> ?_) (λC=> ?_) (b:=decide (x.kH≥0))
    .rw[ag C];rw[C]at a;exact⟨_,ak m,a⟩
    .rw[af (by rw[C];decide)];rw[C]at a;exact a
   .rw[l]at a⊢;rw[dB];exact a
  rw[af (λe=>k (n.1 e))];refine aH.of λS a'=> ?_
  have P: ∀v,(v=true↔x.kind=2\/x.kind=6)->S v A:=by
   intro v n;subst a';dsimp only;by_cases i:x.kind=2\/x.kind=6
   .have E:lW x=mM x.ep:=(af k).trans (ag i);rw[E]at a;rw[ag (n.2 i)];exact iX x.ep f rfl rfl rfl rfl rfl (pz x.ep λr F=>⟨_,rfl,a r (t.tt F)⟩)
   rw[af (λe=>i (n.1 e))];by_cases s:x.kind=4
   .have E:lW x=(mM x.ep && mM x.dest && decide (x.mz.length<=200) && decide (x.fW≥1) && decide (x.fW<=1099511627776)):=(af k).trans ((af i).trans (ag s));rw[E]at a;rw[ag (bq.2 s)];refine iX x.ep f rfl rfl rfl rfl rfl (pz x.ep λr F=>⟨_,rfl,?_⟩);have m:=F.get f id;refine py (λl=> ?_) (λl=> ?_) (b:=mM x.ep)
    .rw[l]at a⊢;rw[ag rfl];refine iX x.dest m rfl rfl rfl rfl rfl (pz x.dest λV M=>⟨_,rfl,?_⟩);have J:=M.get m id;have a:=a V (t.tt (F.tt M));refine py (λC=> ?_) (λC=> ?_) (b:=mM x.dest)
     .rw[C]at a⊢;rw[ag rfl];refine⟨_,_,_,ak J,?_⟩;have U:decide (((x.s p c).On:Int)<=200)=decide (x.mz.length<=200):=Bn.lG x.mz.length 200;rw[U];refine py (λG=> ?_) (λG=> ?_) (b:=decide (x.mz.length<=200))
      .rw[G]at a⊢;rw[ag rfl];refine⟨_,ak J,?_⟩;have I:decide (((x.s p c).f16:Int)≥1)=decide (x.fW≥1):=EY x.fW 1;rw[I];refine py (λo=> ?_) (λo=> ?_) (b:=decide (x.fW≥1))
       .rw[o]at a⊢;rw[ag rfl];refine⟨_,ak J,?_⟩;have u:decide (((x.s p c).f16:Int)<=1099511627776)=decide (x.fW<=1099511627776):=Bn.lG x.fW 1099511627776;rw[u];exact a
       .rw[o]at a⊢;rw[dB];exact a
      .rw[G]at a⊢;rw[dB];exact a
     .rw[C]at a⊢;rw[dB];exact a
    .rw[l]at a⊢;rw[dB];exact a r (t.tt F)
   rw[af (λe=>s (bq.1 e))];refine aH.of λT b'=> ?_
   have O:=a;have a:=a A t;have L: ∀v,(v=true↔x.kind=5\/x.kind=8\/x.kind=9)->T v A:=by
    intro v n;subst b';dsimp only;by_cases j:x.kind=5\/x.kind=8\/x.kind=9
    .have E:lW x=(decide (x.num≥1) && decide (x.num<=1099511627776)):=(af k).trans ((af i).trans ((af s).trans (ag j)));rw[E]at a;rw[ag (n.2 j)];refine⟨_,ak f,?_⟩;refine py (λC=> ?_) (λC=> ?_) (b:=decide (x.num≥1))
     .rw[ag C];rw[C]at a;exact⟨_,ak f,a⟩
     .rw[af (by rw[C];decide)];rw[C]at a;exact a
    rw[af (λe=>j (n.1 e))];by_cases w:x.kind=7
    .have E:lW x=(mM x.ep && decide (x.jm≥1) && decide (x.jm<=1000)):=(af k).trans ((af i).trans ((af s).trans ((af j).trans (ag w))));rw[E]at O;rw[ag (bq.2 w)];refine iX x.ep f rfl rfl rfl rfl rfl (pz x.ep λr F=>⟨_,rfl,?_⟩);have m:=F.get f id;have a:=O r (t.tt F);refine py (λl=> ?_) (λl=> ?_) (b:=mM x.ep)
     .rw[l]at a⊢;rw[ag rfl];refine⟨_,ak m,?_⟩;refine py (λC=> ?_) (λC=> ?_) (b:=decide (x.jm≥1))
      .rw[ag C];rw[C]at a;exact⟨_,ak m,a⟩
      .rw[af (by rw[C];decide)];rw[C]at a;exact a
     .rw[l]at a⊢;rw[dB];exact a
    rw[af (λe=>w (bq.1 e))];by_cases D:x.kind=12
    .have E:lW x=(decide (x.token≥1) && decide (x.token<=2147483648)):=(af k).trans ((af i).trans ((af s).trans ((af j).trans ((af w).trans (ag D)))));rw[E]at a;rw[ag (bq.2 D)];refine⟨_,ak f,?_⟩;have I:decide (((x.s p c).f17:Int)≥1)=decide (x.token≥1):=EY x.token 1;rw[I];refine py (λo=> ?_) (λo=> ?_) (b:=decide (x.token≥1))
     .rw[o]at a⊢;rw[ag rfl];refine⟨_,ak f,?_⟩;have u:decide (((x.s p c).f17:Int)<=2147483648)=decide (x.token<=2147483648):=Bn.lG x.token 2147483648;rw[u];exact a
     .rw[o]at a⊢;rw[dB];exact a
    rw[af (λe=>D (bq.1 e))];have E:lW x=decide (x.kind=10\/x.kind=11):=(af k).trans ((af i).trans ((af s).trans ((af j).trans ((af w).trans (af D)))));rw[E]at a;refine⟨_,ak f,?_⟩;by_cases B:x.kind=10
    .rw[ag (bq.2 B)];rw[aw (.inl B)]at a;exact a
    .rw[af (λe=>B (bq.1 e))];refine⟨_,ak f,?_⟩;have u:decide (x.kind=10\/x.kind=11)=(x.kind==11):=by by_cases c':x.kind=11<;>simp[B,c']
     rw[u]at a;exact a
   by_cases j:x.kind=5
   .rw[ag (bq.2 j)];exact L _ ⟨λ_=> .inl j,λ_=>bq.2 j⟩
   rw[af (λe=>j (bq.1 e))];refine aH.of λd' Z=> ?_
   subst Z;dsimp only;by_cases z:x.kind=8
   .rw[ag (bq.2 z)];exact L _ ⟨λ_=> .inr (.inl z),λ_=>bq.2 z⟩
   rw[af (λe=>z (bq.1 e))];exact L _ ⟨λe=> .inr (.inr (bq.1 e)),λe=>bq.2 ((e.resolve_left j).resolve_left z)⟩
  by_cases i:x.kind=2
  .rw[ag (bq.2 i)];exact P _ ⟨λ_=> .inl i,λ_=>bq.2 i⟩
  rw[af (λe=>i (bq.1 e))];exact P _ ⟨λe=> .inr (bq.1 e),λe=>bq.2 (e.resolve_left i)⟩
 by_cases k:x.kind=1
 .rw[ag (bq.2 k)];exact key _ ⟨λ_=> .inl k,λ_=>bq.2 k⟩
 rw[af (λe=>k (bq.1 e))];exact key _ ⟨λe=> .inr (bq.1 e),λe=>bq.2 (e.resolve_left k)⟩
theorem fK(x:Rq)(r:Row h p (bc x.mz))(a: iq h R (.B (jS x))):Cl 71 #[(x.s p c).agg] h R:=by
 refine CE.walk (aI.da λb n z e f=>⟨_,ak e,?_⟩);unfold jS at a;have E:decide (((x.s p c).f0:Int)≥1)=decide (x.id≥1):=EY x.id 1;have t:decide (((x.s p c).f0:Int)<=1099511627776)=decide (x.id<=1099511627776):=Bn.lG x.id 1099511627776;rw[E];refine py (λC=> ?_) (λC=> ?_) (b:=decide (x.id≥1))
 case refine_2=>rw[C]at a⊢;rw[dB];exact a n f
 rw[C]at a⊢;rw[ag rfl];refine⟨_,ak e,?_⟩;rw[t];refine py (λj=> ?_) (λj=> ?_) (b:=decide (x.id<=1099511627776))
 case refine_2=>rw[j]at a⊢;rw[dB];exact a n f
 rw[j]at a⊢;rw[ag rfl];refine aI.fN (x:=x.s p c) e (OS x λu F=>⟨_,rfl,F.kp,?_⟩);refine py (λk=> ?_) (λk=> ?_) (b:=lW x)
 case refine_2=>rw[k]at a⊢;rw[dB];exact a u (f.tt F)
 rw[k]at a⊢;rw[ag rfl];have o:=F.get e _root_.id;have i:=f.tt F;refine aI.fN (x:=x.s p c) o (aI.fN (x:=x.s p c) o (Jd x (r.frame i (λ_ _=>_root_.id)) λA P s w l=>aI.ex ((rV x).s P s) ⟨rfl,l.kp,?_⟩));refine Hj x (rV x) (r.frame (i.tt l) (λ_ _=>_root_.id)) w λv m=>⟨_,rfl,m.kp,?_⟩
 exact a v (i.tt (l.tt m))

end Ask
end
end Go.Proofs.YtimiaphmdidfhaaGreatDoor
