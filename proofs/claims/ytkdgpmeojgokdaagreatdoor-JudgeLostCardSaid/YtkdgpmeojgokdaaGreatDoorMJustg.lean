/-
  Fu is proved here: parts of xQ proof, one behind xQ other (texts of this work, merged by a program; HU xQ theorem HV not use is left out). No condition.
-/
import Derived.Handed
import Derived.Shelf.Vars
import Derived.Lib.LaidU8
import Derived.Lib.LaidTab
import Derived.Test.YtkdgpmeojgokdaaGreatDoorMJustf
set_option maxRecDepth 100000
set_option maxHeartbeats 4000000
namespace Go.Proofs.YtkdgpmeojgokdaaGreatDoor
open Go.Den
open IntKind (wrap)
open Int (toNat)
section
namespace Bn
open Cb
open jG (Ev dt lC)
variable {V:cG→Bool} {h h0 h' g:ai} {R:fO} {D:Nat→Prop}
abbrev yd.s(r:yd):aK.S:=⟨r.rc,r.dl,r.de,r.reason,r.at',r.of.e.lE,r.of.e.node,r.of.e.gL,r.of.e.host,r.of.e.jZ,r.of.tm,r.of.sq⟩
theorem MO(r:yd)(H: hH h R (.B (iW r))):Cl 236 #[r.s.agg] h R:=by
 refine Ew.walk (aK.cW λb a E d f=>⟨_,au d,?_⟩);have i:(r.rc||r.dl||r.de)=true->∃t,aU a (AA b 3)=some (.U t)/\if(decide (t<=255))=true then∃T,aU a (AA b 4)=some (.U T)/\if(decide (T<=1099511627776))=true then ah.cC a (AA b 5) λn=>Cl 218 #[n.agg] a λv l=> ∃j,v=.B j/\R (.B j) l else R (.B false) a else R (.B false) a:=λm=>by
  refine⟨_,au d,?_⟩;rw[show decide ((r.s.f3:Int)<=255)=decide (r.reason<=255)from kZ r.reason 255];unfold iW at H;rw[m]at H;by_cases c:r.reason<=255
  case neg=>rw[ae (cR c)];rw[aC c]at H;exact H a f
  rw[af (av c)];rw[av c]at H;refine⟨_,au d,?_⟩;rw[show decide ((r.s.f4:Int)<=1099511627776)=decide (r.at'<=1099511627776)from kZ r.at' 1099511627776];by_cases C:r.at'<=1099511627776
  case neg=>rw[ae (cR C)];rw[aC C]at H;exact H a f
  rw[af (av C)];rw[av C]at H;exact AE r.of d rfl rfl rfl rfl rfl rfl rfl (sI r.of λk F=>⟨_,rfl,H k (f.tt F)⟩)
 cases c:r.rc with
 |true=>rw[af (show r.s.f0=true from c)];exact i (by rw[c];rfl)
 |false=>
 rw[ae (show¬r.s.f0=true by rw[show r.s.f0=r.rc from rfl,c];decide)];refine⟨_,au d,?_⟩;cases C:r.dl with
 |true=>rw[af (show r.s.f1=true from C)];exact i (by rw[c,C];rfl)
 |false=>
 rw[ae (show¬r.s.f1=true by rw[show r.s.f1=r.dl from rfl,C];decide)];refine⟨_,au d,?_⟩;cases e:r.de with
 |true=>rw[af (show r.s.f2=true from e)];exact i (by rw[c,C,e];rfl)
 |false=>
 rw[ae (show¬r.s.f2=true by rw[show r.s.f2=r.de from rfl,e];decide)];have:=H a f;unfold iW at this;rw[c,C,e]at this;exact this
abbrev bo(l:List Bool):List Value:=l.map λb=> .bool b
theorem PA{p:ct}{n c:Nat}{l:List Bool}(K:Row h p (bo l))(hn:n=l.length)(hl:l.length<=100000)(hk: ∀h' z,tW h' (λy=>h.size<=y) (Gm l) z->Fr No h h'->R z.s.agg h'):Cl 237 #[.L p n c] h R:=by
 subst hn;refine I1.walk (aa.cW λb d eb x F=>km (ts:= []) (ys:= []) (D:=λ_=>True) ⟨rfl,.inl rfl,λe=>absurd rfl e,bp _⟩ .nil (by simp[dJ]) λh2 z T m=>aa.ex z.s ⟨rfl,aa.fK (x:=z.s) λB h4 e' I f=> ?_⟩);have zb:=aA x;have z1:=F.1;have z2:=m.1;have z4:=f.1;have g':=aA I;have F4:=F.tt (m.tt f);have c':tW h4 (λy=>d.size<=y/\y≠B) (sS []) z:=by
  obtain⟨⟨P,Q,S,U⟩,Z,X,A,a7,a8⟩:=T;refine⟨⟨P,Q,S,((Gn U).mono λy H=>ag).frame f bX⟩,Z,X,A.frame f bX,λy H=>⟨a7 y H,bW (A.dI H)⟩,(dB.mono (λy H=>by have d:=H.1.1;have h2:=H.2;exact⟨⟨d,ag⟩,H.1.2⟩) a8.lt).on f⟩
 obtain⟨Z,ez,s⟩:=OC (g0:=d) c' I ((m.tt f).mono λ_ _=>False.elim);have u:z.k=4:=T.1.1;have v:z.n=0:=T.1.2.1;have E:z.v.b= []:=T.1.2.2.1;refine⟨λt g=> ∃(i:Nat)(j:List CV)(q:ct)(C:Nat),t=(i:Int)/\i<=l.length/\j.length=i/\Lc d g B z.k z.n z.v ((l.take i).map λb=>num (if b=true then 1 else 0)) j q C,λt _=>l.length - t.toNat,⟨0,Z,z.q,z.cl,rfl,bQ _,?_,by rw[eV];exact s⟩,?_⟩
 .have:=s.tr.len;exact this.symm
 rintro _ g ⟨i,j,q,C,rfl,hi,H,L⟩;by_cases o:i<l.length
 case neg=>
  rw[ae (λe=>o (bW (aV e)))];rw[bE ag]at L;have b':z.v.ok g (λy=>d.size<=y/\y≠B):=⟨by rw[E];exact Row.nil,λe=>absurd E e,T.1.2.2.2.cap⟩;have M:=OD (k':=z.n) L b';rw[u,v,E]at M;refine aa.fz (x:=CV.s ⟨z.k,z.n,z.v,q,j.length,C⟩) L.di (fin (z:=⟨z.k,z.n,z.v,q,j.length,C⟩) (t:=Gm l) (D:=λy=>d.size<=y/\y≠B) (L.fr.get x ag) (by rw[u,v];exact M) (λy H e=>ag) λG tg fg=>hk G _ (tg.mono λy H=>ag) ((F.fresh L.fr (λy e=>ag)).fresh fg (λy e=>ag)))
 rw[gi];have O:Fr No h g:=F.fresh L.fr (λy e=>ag);obtain⟨a,rfl⟩:=K.some (by intro e;have:=cf List.length e;rw[aD,bG]at this;omega);have hc:aU g (a.add (i*1))=some (.B l[i]):=by
  have:=(K.frame O bX).cell (j:=i) (v:=.B l[i]) (by rw[aL,aj o];rfl);rw[cE];exact this
 refine⟨ag,bT.2 ⟨a,rfl,_,hc,aG.of λJ hJ=> ?_⟩⟩;have go: ∀k:Nat,k=(if l[i]=true then 1 else 0)->J (k:Int) g:=by
  intro k ek;subst hJ;dsimp only;refine⟨_,_,_,au L.di,gC λh6 w=>aa.ex (nv k).s ⟨rfl,w.kp,?_⟩⟩;refine OE (L.on w) ag (Sy (n:=k)).Tv λG d' q' a' r f' _ _=> ?_
  rw[bJ (n:=(i:Int)+1) ag ag];refine⟨⟨i+1,d',q',a',ag,ag,ag,?_⟩,by show l.length - Int.toNat ((i:Int)+1)<l.length - Int.toNat (i:Int);omega⟩;rw[bO,aj o,ba];rw[ek]at r;exact r
 cases c:l[i]with
 |true=>rw[af rfl];exact go 1 (by rw[c];rfl)
 |false=>rw[dy];exact go 0 (by rw[c];rfl)
theorem MP{r:yd}(H:iW r=true):room (D6 r)<=1000:=by
 unfold iW at H;simp only[aW,aY]at H;have:=GH r.of H.2;simp only[D6,Gm,room,dJ,bG,cb,List.map_nil];omega
theorem KE (r : yd) (w : 0 ≤ r.of.e.gL) (U : kr V h0) (u : Fr No h0 h)
    (k1 : ∀ bs, D7 V r = some bs → bs.length ≤ 1000 → ∀ h' p c, Own h' p bs.length c 1 (bc bs) → (∀ y, aP p y → h.size ≤ y) → Fr No h h' → R (.tuple #[.slice p bs.length c, .int .i64 0]) h')
    (k2 : D7 V r = none → ∀ h', Fr No h h' → R (.tuple #[.slice none 0 0, .int .i64 3]) h') : Cl 209 #[r.s.agg] h R := by
  refine Ex.walk (aK.cW λb h1 eb hb f1 => AE r.of hb rfl rfl rfl rfl rfl rfl rfl (Kk r.of w λh2 z qz z0 z1 f2 => aa.ex z.s ⟨_, rfl, aa.fK (x := z.s) λb1 h4 Xe UP f4 => aG.of λJ hJ => ?_⟩))
  have Wk := (f2.tt f4).get hb id
  have F4 := f1.tt (f2.tt f4)
  have bad : ∀ g, Fr No h g → ¬ (iW r = true) → J true g := λg fg hn => by
    subst hJ
    dsimp only
    rw [if_pos rfl]
    exact k2 (by unfold D7; rw [if_neg (λe => hn e.1)]) g fg
  by_cases hq : qz = 0
  case neg =>
    rw [if_pos (by simpa using hq)]
    exact bad h4 F4 (λe => hq (z1.2 (by unfold iW at e; simp only [Bool.and_eq_true] at e; exact e.2)))
  rw [if_neg (by simpa using hq)]
  have tz := z0 hq
  refine aK.fz Wk (MO r λh5 f5 => ⟨_, rfl, ?_⟩)
  have F5 := F4.tt f5
  cases hr : iW r with
  | false => exact bad h5 F5 (by rw [hr]; decide)
  | true =>
  clear bad
  subst hJ
  dsimp only
  rw [if_neg (by decide)]
  have Ul := f5.get Wk id
  have rm := MP hr
  refine ⟨_, cB Ul rfl, _, cB Ul rfl, _, cB Ul rfl, _, cB Ul rfl, _, cB Ul rfl, aa.fz (f5.get UP id) ?_⟩
  have rest : ∀ g y, Ed g (Gm [r.rc, r.dl, r.de]) y → Fr No h5 g → ∀ {kl Wl kl2 : List (Option Addr)}, Cl 199 #[.int .u64 (r.reason : Int)] g λWG Tx => aa.EX λt30 => WG = t30.agg ∧ Kp g Tx kl ∧ Cl 199 #[.int .u64 (r.at' : Int)] Tx λWH Q7 => aa.EX λt33 => WH = t33.agg ∧ Kp Tx Q7 Wl ∧
      bf Q7 (.cells (y.s.l ++ t30.l ++ t33.l ++ z.s.l).toArray 198) λWI VC => Cl 162 #[.slice (some ⟨WI, 0, none⟩) 4 4] VC λWJ VD => aa.EX λt36 => WJ = t36.agg ∧
      bf VD (.cells ((nv 1).s.l ++ t36.l).toArray 198) λWK VE => Cl 162 #[.slice (some ⟨WK, 0, none⟩) 2 2] VE λWL VF => aa.EX λt38 => WL = t38.agg ∧ Cl 175 #[t38.agg] VF λWM VG =>
      ∃ KF KG KH R3, WM = .tuple #[.slice KF KG KH, .int .i64 R3] ∧ R (.tuple #[.slice KF KG KH, .int .i64 R3]) VG := by
    intro g y ty fg kl Wl kl2
    refine gC λh9 f9 => aa.ex (nv r.reason).s ⟨rfl, f9.kp, gC λWN f10 => aa.ex (nv r.at').s ⟨rfl, f10.kp, ?_⟩⟩
    have Wm := fg.tt (f9.tt f10)
    have T4 : B7 WN [Gm [r.rc, r.dl, r.de], num r.reason, num r.at', Od r.of] [y, nv r.reason, nv r.at', z] := .cons (ty.on (f9.tt f10)) (.cons nA (.cons nA (.cons (tz.on (f4.tt (f5.tt Wm))) .nil)))
    have e2 : room (D6 r) = 27 + dJ [Gm [r.rc, r.dl, r.de], num r.reason, num r.at', Od r.of] := by simp only [D6, room, dJ, List.length_nil]; omega
    refine pX T4 (by omega) rfl rfl λVH w tw f12 => aa.ex w.s ⟨rfl, ?_⟩
    have T2 : B7 VH [num 1, sS [Gm [r.rc, r.dl, r.de], num r.reason, num r.at', Od r.of]] [nv 1, w] := two nA tw.u
    refine pX T2 (by simp only [dJ, room, List.length_nil] at e2 ⊢; omega) rfl rfl λWn w2 WO f14 => aa.ex w2.s ⟨rfl, ?_⟩
    have UQ := F5.tt (Wm.tt (f12.tt f14))
    refine w5 U (u.tt UQ) WO.Tv (t := D6 r) (by omega) (λe S0 p c o n f15 => ⟨_, _, _, _, rfl, ?_⟩) (λe S0 f15 => ⟨_, _, _, _, rfl, ?_⟩)
    · have := UQ.1
      exact k1 (enc (D6 r)) (by unfold D7; rw [if_pos ⟨hr, e⟩]) (by have := kV (D6 r); omega) S0 p c o (λy hy => by have := n y hy; omega) (UQ.tt f15)
    · exact k2 (by unfold D7; rw [if_neg (λe' => by rw [e] at e'; cases e'.2)]) S0 (UQ.tt f15)
  have Um : ∀ {g} {K : Nat → ai → Prop}, (∀ b h', Row h' (some ⟨b, 0, none⟩) (bo [r.rc, r.dl, r.de]) → Fr No g h' → K b h') → bf g (.cells #[.bool r.s.f0, .bool r.s.f1, .bool r.s.f2] 4) K := λhk => cT (hk _ _ ju (Fr.push _ _))
  refine ⟨?_, ?_, trivial⟩
  · refine gC (n := 1) λh6 f6 => aa.ex (nv 1).s ⟨rfl, f6.kp, Um λb2 h7 r7 f7 => ⟨f7.kp, PA r7 rfl (by show 3 ≤ _; omega) λh8 y ty f8 => aa.ex y.s ⟨rfl, f8.kp, rest h8 y ty.u (f6.tt (f7.tt f8)) (kl2 := [])⟩⟩⟩
  · refine Um λb2 h7 r7 f7 => ⟨f7.kp, gC (n := 1) λh6 f6 => aa.ex (nv 1).s ⟨rfl, f6.kp, PA (r7.frame f6 (λ_ _ => id)) rfl (by show 3 ≤ _; omega) λh8 y ty f8 => aa.ex y.s ⟨rfl, f8.kp, rest h8 y ty.u (f7.tt (f6.tt f8)) (kl2 := [])⟩⟩⟩
theorem MQ(r:yd)(d:Ev)(id:jm)(l:Nat)(i':0<=r.of.e.gL)(w1:0<=d.gL)(w2:0<=id.e.gL)(U:kr V h0)(c':Fr No h0 h)(mx:nR.Mx h)(k1: ∀b,mA V r d id l=some b->b.bl.length=1->b.p.wf->(∀u∈b.bl,u.data.length<=1000)->∀h' b' L xs,iX h' (λy=>h.size<=y) b.bl b' b.bl.length L xs->Fr No h h'->R (.T #[(b.s b' L).agg,.I 0]) h')(k2:mA V r d id l=none->hH h R (.T #[ak.S.z.agg,.I 3])):Cl 188 #[r.s.agg,d.s.agg,id.s.agg,.U (l:Int)] h R:=by
 refine Cf.walk (aK.cW λb h1 eb hb v=>aw.cW λb1 h2 k' d' w=>ah.cW λb2 h3 l' f' n=>ak.cW λb3 Q m' A o=>aK.fz ((w.tt (n.tt o)).get hb _root_.id) ?_);have k:=v.tt (w.tt (n.tt o));have z4:=k.1;have z1:=v.1;have z3:=(v.tt (w.tt n)).1;have r':=aA A;refine KE r i' U (c'.tt k) (λa C lb S p c a' g' F=>⟨_,_,_,_,rfl,?_⟩) (λC S F=>⟨_,_,_,_,rfl,?_⟩)
 case refine_2=>
  rw[gi];exact AR (F.get A _root_.id) λg f=>k2 (by unfold mA;rw[C]) g ((k.tt F).fresh f (λy e=>ag))
 rw[dy];have t:=k.tt F;have z5:=F.1;refine aw.fz (x:=d.s) ((n.tt (o.tt F)).get d' _root_.id) (ah.fz (x:=id.s) ((o.tt F).get f' _root_.id) (ay.cW (x:=nz.s ⟨1,1,0,0,a⟩ p c) λi h7 n' X x=>ak.cW λK h8 o' Z q=> ?_));have s:mA V r d id l=if(jN V ⟨⟨2,0,d,.zero,id,l⟩, [⟨1,1,0,0,a⟩]⟩).isSome=true then some ⟨⟨2,0,d,.zero,id,l⟩, [⟨1,1,0,0,a⟩]⟩else none:=by unfold mA;rw[C]
 generalize z:(⟨⟨2,0,d,.zero,id,l⟩, [⟨1,1,0,0,a⟩]⟩:mq)=B at s;have E:B.bl= [⟨1,1,0,0,a⟩]:=by rw[<-z]
 have O:B.p.wf:=by rw[<-z];exact⟨w1,eh 0,w2⟩
 have s':=aA X;have t':=aA Z;have z7:=x.1;have z8:=q.1;have B8:iX h8 (λy=>Q.size<=y/\y≠K) B.bl (Sa i 0) B.bl.length 1 [⟨⟨1,1,0,0,a⟩,p,c⟩]:=by
  rw[E];refine⟨rfl,rfl,.inr ⟨_,rfl,ay.Ax (x:=nz.s ⟨1,1,0,0,a⟩ p c) (q.get X _root_.id)⟩,λ_ y ⟨j',e,e'⟩=>by cases e;rw[<-e'];exact⟨by show Q.size<=i;omega,by show i≠K;omega⟩,bp _,λq' hx=> ?_⟩;rw[bP.1 hx];exact BV.kT ((a'.frame x (λ_ _=>_root_.id)).frame q (λ_ _=>_root_.id)) (λy H=>⟨g' y H,bW (a'.dI H)⟩)
 have eS:(B.s (Sa i 0) 1)=(⟨2,0,d.s.f0,d.s.f1,d.s.f2,d.s.f3,d.s.f4,false,0,0,⟨#[]⟩,⟨#[]⟩,id.s.f0,id.s.f1,id.s.f2,id.s.f3,id.s.f4,id.s.f5,id.s.f6,l,(Sa i 0),1,1⟩:ak.S):=by rw[<-z];rfl
 rw[<-eS];refine ak.gX (x:=B.s (Sa i 0) 1) Z λh9 M P _=>ak.fz M ?_
 have G:Fr No S h9:=(x.tt q).fresh P (λy e=>ag);have I:=B8.frame P (λy H e=>H.2 e);refine sJ O U (c'.tt (t.tt G)) (mx.on (t.tt G)) I (by rw[E];simp) (λu j=>by rw[E]at j;rw[bP.1 j];show a.length<=_;omega) λp' m=>⟨_,rfl,?_⟩
 have T:=(F.tt (G.tt m)).get A _root_.id;have J:=t.tt (G.tt m);cases hq:(jN V B).isSome with
 |false=>
  rw[gi];exact AR T λg f=>k2 (by rw[s,hq];rfl) g (J.fresh f (λy e=>ag))
 |true=>
  rw[dy];rw[hq,af rfl]at s;refine ak.fz (m.get M _root_.id) (AR T λg f=>k1 B s (by rw[E];rfl) O (λu j=>by rw[E]at j;rw[bP.1 j];exact lb) g _ 1 [⟨⟨1,1,0,0,a⟩,p,c⟩] ?_ (J.fresh f (λy e=>ag)));exact((I.on m).frame f (λy H e=>ag)).mono λy H=>ag

end Bn
end
section
variable {h:ai} {R:fO}
variable {b:ak.S} {k s n:Int}
theorem MR.walk{b:ay.S}(c:bf h (.C b.arr 204) λB H=> ∃T,Cc H B 0 (.U T)/\if(T !=k)then R (.I 4) H else ay.cC H (AA B 0) λd=>Cl 173 #[d.agg] H λv a=> ∃t,v=.B t/\if(!t)then R (.I 3) a else R (.I 0) a):Cl 240 #[b.agg,.U k] h R:=aS [] Tryz.func240 c
theorem Hx.walk{b:ay.S}(d:bf h (.C b.arr 204) λB a=>ay.cC a (AA B 0) λj=>Cl 240 #[j.agg,.U 7] a λv H=> ∃t,v=.I t/\if(t !=0)then R (.T #[.U 0,.I t]) H else Hl H B 4 λg f e=>Cl 241 #[.L g f e] H λV c=> ∃T i,V=.T #[.U T,.B i]/\R (.T #[.U T,.I 0]) c):Cl 212 #[b.agg] h R:=aS [] Tryz.func212 d
theorem Cs.walk{c:ay.S}{C:Nat}(a:bf h (.C c.arr 204) λb H=>Hu H b 0 λT=> ∃t,Cc H C 0 (.U t)/\R (.B (T==t)) H):Cl 238 #[c.agg,.P C 0] h R:=aS [] Tryz.func238 a
theorem jy.find.walk{d:ct}{S g:Nat}{f:Nat}(e: ∃(I:Int->ai->Prop)(m:Int->ai->Nat),I 0 h/\∀(t:Int)(H:ai),I t H->if(decide (t<(S:Int)))then Bd t S/\aN d λa=>ay.cC H (a.add (toNat t*5)) λi=>Cl 238 #[i.agg,.P f 0] H λv c=> ∃T,v=.B T/\if T then R (.I t) c else(I (wrap .i64 (t+1)) c/\m (wrap .i64 (t+1)) c<m t H)else R (.I (-1)) H):Cl 239 #[.L d S g,.func (.func 238) #[] #[.P f 0]] h R:=aS [(6,.loop [(8,.one (.int .i64))])] Tryz.func239 e
theorem Hz.walk(w:bf h (.C b.arr 158) λd p=>bf p (.C #[.U k] 27) λo q=>ay.NW q λB f=>Hl f d 20 λC A z=>Cl 239 #[.L C A z,.func (.func 238) #[] #[.P o 0]] f λv H=> ∃t,v=.I t/\if(decide (t<0))then ay.du H (AA B 0) ay.S.z λg=>ay.cC g (AA B 0) λx=>R (.T #[x.agg,.B false]) g else Hl H d 20 λE D _=>Bd t D/\aN E λa=>ay.cC H (a.add (toNat t*5)) λF=>ay.NW H λc r=>ay.du r (AA c 0) F λi=>Hl i c 4 λJ I G=>Cl 54 #[.L J I G] i λV u=> ∃m l T,V=.L m l T/\aJ u (AA c 4) (.L m l T) λj=>ay.cC j (AA c 0) λK=>ay.du j (AA B 0) K λe=>ay.cC e (AA B 0) λy=>R (.T #[y.agg,.B true]) e):Cl 211 #[b.agg,.U k] h R:=aS [] Tryz.func211 w
theorem Q8.walk(d:bf h (.C b.arr 158) λB a=>ak.cC a (AA B 0) λe=>Cl 117 #[e.agg] a λv H=> ∃t,v=.B t/\if(!t)then R (.I 3) H else aG (λ(T:Bool) (c:ai)=>if T then R (.I 1) c else R (.I 0) c) (λJ=>if(decide (s>n))then J true H else J (decide (n>1099511627776)) H)):Cl 168 #[b.agg,.U s,.U n] h R:=aS [(11,.join [(11,.one (.bool))])] Tryz.func168 d
theorem Q9.walk(i:bf h (.C b.arr 158) λd a=>ak.cC a (AA d 0) λm=>Cl 211 #[m.agg,.U 7] a λv e=>ay.EX λT=> ∃c,v=.T #[T.agg,.B c]/\ay.NW e λB f=>ay.du f (AA B 0) T λH=>if(!c)then R (.U 0) H else ay.cC H (AA B 0) λj=>Cl 212 #[j.agg] H λV g=> ∃t l,V=.T #[.U t,.I l]/\R (.U t) g):Cl 170 #[b.agg] h R:=aS [] Tryz.func170 i
theorem PB.walk{p:aE.S}{o:Int}{c:Int} (g:bf h (.C p.arr 155) λb H=>Hu H b 17 λi=>aG (λ(P:Int) (a:ai)=> ∃e,Cc a b 19 (.U e)/\if(decide (P≥e))then R (.U 0) a else∃f,Cc a b 19 (.U f)/\R (.U (wrap .u64 (f - P))) a) (λJ=>if(decide (i>0))then∃t,Cc H b 17 (.U t)/\if(decide (n<t))then Hu H b 19 λj=> ∃T,Cc H b 17 (.U T)/\R (.U (wrap .u64 (j+(wrap .u64 (T - n))))) H else∃d,Cc H b 17 (.U d)/\J (wrap .u64 (n - d)) H else J (wrap .u64 (o+c)) H)):Cl 169 #[p.agg,.U o,.U c,.U n] h R:=aS [(7,.join [(9,.one (.int .u64))])] Tryz.func169 g
theorem PC.walk(f:bf h (.C b.arr 158) λB a=>ak.cC a (AA B 0) λj=>Cl 168 #[j.agg,.U s,.U n] a λv H=> ∃t,v=.I t/\if(t !=0)then R (.T #[.U 0,.I t]) H else aE.cC H (AA B 0) λg=>ak.cC H (AA B 0) λi=>Cl 170 #[i.agg] H λV c=> ∃T,V=.U T/\Kp H c [(Sa B 0)]/\Cl 169 #[g.agg,.U T,.U (wrap .u64 (n - s)),.U n] c λl e=> ∃d,l=.U d/\R (.T #[.U d,.I 0]) e):Cl 121 #[b.agg,.U s,.U n] h R:=aS [(13,λ_=> .iZ (fC 3 0 (fC 4 4 (.op 3 (fC 3 8 .done)))))] Tryz.func121 f
theorem HA.walk{l:ct}{j i:Nat} (hv:aK.NW h λb e'=>Cl 114 #[.L l j i,.I 0] e' λT' g'=>aa.EX λK=> ∃p' L,T'=.T #[K.agg,.I p',.I L]/\aa.NW g' λB h'=>aa.du h' (AA B 0) K λc=>aG (λ(C':Bool) (e:ai)=>if C' then aK.du e (AA b 0) aK.S.z λG=>aK.cC G (AA b 0) λr0=>R (.T #[r0.agg,.I 3]) G else Hl e B 3 λE' D' _=>Bd 1 D'/\aN E' λa=>oL e ((a.add (toNat 1*4)).add 3) λd T _=>Bd 3 T/\aN d λa'=>aa.cC e (a'.add (toNat 3*4)) λF'=>Cl 161 #[F'.agg] e λU' i'=>ah.EX λQ=> ∃S,U'=.T #[Q.agg,.I S]/\ah.NW i' λf j'=>ah.du j' (AA f 0) Q λH=>if(S !=0)then aK.du H (AA b 0) aK.S.z λy=>aK.cC y (AA b 0) λk'=>R (.T #[k'.agg,.I 3]) y else Bd 0 T/\aN d λA=>oL H ((A.add (toNat 0*4)).add 3) λH' G' _=>Bd 0 G'/\aN H' λp=>gA H ((p.add (toNat 0*4)).add 1) λI'=>Bd 0 T/\aN d λq=>oL H ((q.add (toNat 0*4)).add 3) λK' J' _=>Bd 1 J'/\aN K' λr=>gA H ((r.add (toNat 1*4)).add 1) λL'=>Bd 0 T/\aN d λu=>oL H ((u.add (toNat 0*4)).add 3) λO' M' _=>Bd 2 M'/\aN O' λv=>gA H ((v.add (toNat 2*4)).add 1) λP'=>Bd 1 T/\aN d λw=>gA H ((w.add (toNat 1*4)).add 1) λQ'=>Bd 2 T/\aN d λx=>gA H ((x.add (toNat 2*4)).add 1) λR'=>ah.cC H (AA f 0) λt=>aK.NW H λg z=>Kp H z [(Sa f 0),(some ((x.add (toNat 2*4)).add 1)),(some ((w.add (toNat 1*4)).add 1)),(some ((v.add (toNat 2*4)).add 1)),(some ((u.add (toNat 0*4)).add 3)),(some ((r.add (toNat 1*4)).add 1)),(some ((q.add (toNat 0*4)).add 3)),(some ((p.add (toNat 0*4)).add 1)),(some ((A.add (toNat 0*4)).add 3))]/\aK.du z (AA g 0) ⟨(I'==1),(L'==1),(P'==1),Q',R',t.f0,t.f1,t.f2,t.f3,t.f4,t.f5,t.f6⟩ λC=>aK.cC C (AA g 0) λS'=>Cl 209 #[S'.agg] C λV' D=> ∃X V U Z,V'=.T #[.L X V U,.I Z]/\aG (λ(n':Bool) (m:ai)=>if n' then aK.du m (AA b 0) aK.S.z λE=>aK.cC E (AA b 0) λl'=>R (.T #[l'.agg,.I 3]) E else aK.cC m (AA g 0) λo'=>aK.du m (AA b 0) o' λF=>aK.cC F (AA b 0) λm'=>R (.T #[m'.agg,.I 0]) F) (λo=>if(Z !=0)then o true D else Cl 35 #[.L X V U,.L l j i] D λX' f'=> ∃I,X'=.B I/\o (!I) f')) (λJ=>if(L !=0)then J true c else∃r' M q',Cc c B 3 (.L r' M q')/\if(((M:Nat):Int) !=2)then J true c else Hl c B 3 λt' s' _=>Bd 1 s'/\aN t' λb'=> ∃v' O u',aU c ((b'.add (toNat 1*4)).add 3)=some (.L v' O u')/\if(((O:Nat):Int) !=4)then J true c else Hl c B 3 λx' w' _=>Bd 1 w'/\aN x' λc'=>oL c ((c'.add (toNat 1*4)).add 3) λz' y' _=>Bd 0 y'/\aN z' λd'=> ∃B' P A',aU c ((d'.add (toNat 0*4)).add 3)=some (.L B' P A')/\J (((P:Nat):Int) !=3) c)):Cl 166 #[.L l j i] h R:=aS [(6,.join [(46,.one (.bool))]),(25,λ_=>pK 36),(30,.join [(109,.one (.bool))])] Tryz.func166 hv
theorem MS.walk(o:bf h (.C b.arr 158) λa j=>aK.NW j λB H=> ∃i,Cc H a 0 (.U i)/\if((wrap .u64 ((nQ i &&& nQ 2).toNat:Int))==0)then aK.du H (AA B 0) aK.S.z λd=>aK.cC d (AA B 0) λr=>R (.T #[r.agg,.I 4]) d else ak.cC H (AA a 0) λu=>Cl 117 #[u.agg] H λv c=> ∃t,v=.B t/\if(!t)then aK.du c (AA B 0) aK.S.z λe=>aK.cC e (AA B 0) λp=>R (.T #[p.agg,.I 3]) e else ak.cC c (AA a 0) λw=>Cl 148 #[w.agg] c λV l=>Vl V λz y x=>Cl 166 #[.L z y x] l λA m=>aK.EX λT=> ∃g,A=.T #[T.agg,.I g]/\aK.du m (AA B 0) T λf=>aK.cC f (AA B 0) λq=>R (.T #[q.agg,.I g]) f):Cl 119 #[b.agg] h R:=aS [] Tryz.func119 o

end
section
namespace pg
open Cb (Tr gP Ed mC mJ CW)
open Bn (at_ kW jN mq nz Prim yd jm iX BB yB vN rN D7 ke eU Qz jI elem jc kY)
variable {V:cG→Bool} {h H a g:ai} {R:fO} {p q:ct} {c C:Nat} {x:List BB} {D:Nat→Prop} {b:mq}
variable {k:Nat}
def Ra(V:cG->Bool)(z:nz)(k:Nat):Int:=if z.ty=k then(if jI V z=true then 0 else 3)else 4
def Rb(V:cG->Bool)(z:nz):Nat:=if Ra V z 7=0 then(eU V z.data).n else 0
def Dz(l:List nz)(k:Nat):Option nz:=l.find? λz=>decide (z.ty=k)
def JE(V:cG->Bool)(l:List nz):Nat:=match Dz l 7 with|none=>0|some z=>Rb V z
def JF(V:cG->Bool)(b:mq)(s n:Nat):Int:=if(jN V b).isSome=true then(if s>n\/n>1099511627776 then 1 else 0)else 3
def R4(P:Prim)(o n:Nat):Nat:=if P.id.tm>0 then n - P.id.tm else o
def HB(P:Prim)(o n:Nat):Nat:=if P.id.tm>0/\n<P.id.tm then P.fT+(P.id.tm - n)else P.fT - R4 P o n
theorem Rc(z:nz)(k:Nat)(U:Cb.kr V a)(u:Fr No a h)(M:nR.Mx h)(r:Row h p (bc z.data))(cap:z.data.length<=c)(n:z.data.length<=80000)(d: hH h R (.I (Ra V z k))):Cl 240 #[(z.s p c).agg,.U (k:Int)] h R:=by
 refine MR.walk (ay.cW λb m E j f=>⟨_,au j,?_⟩);unfold Ra at d;by_cases e:z.ty=k
 case neg=>
  rw[ae e]at d;rw[af (by show((z.ty:Int) !=(k:Int))=true;simp only[dw,fj];omega)];exact d m f
 rw[af e]at d;rw[ae (by show¬((z.ty:Int) !=(k:Int))=true;simp only[dw,fj];omega)];refine ay.fz (x:=z.s p c) j (Bn.xd z U (u.tt f) (M.on f) (r.frame f bX) cap n λi F=>⟨_,rfl,?_⟩);cases l:jI V z with
 |false=>rw[l]at d;rw[gi];exact d i (f.tt F)
 |true=>rw[l]at d;rw[dy];exact d i (f.tt F)
theorem PD(z:nz)(U:Cb.kr V a)(u:Fr No a h)(M:nR.Mx h)(r:Row h p (bc z.data))(cap:z.data.length<=c)(l:z.data.length<=80000)(d: ∀H (e:Int),Fr No h H->R (.T #[.U (Rb V z:Int),.I e]) H):Cl 212 #[(z.s p c).agg] h R:=by
 refine Hx.walk (ay.cW λb s E j f=>ay.fz (x:=z.s p c) j (Rc z 7 U (u.tt f) (M.on f) (r.frame f bX) cap l λn F=>⟨_,rfl,?_⟩));unfold Rb at d;by_cases i:Ra V z 7=0
 case neg=>
  rw[ae i]at d;rw[af (cR i)];exact d n _ (f.tt F)
 rw[af i]at d;rw[ae (cR i)];refine⟨_,_,_,au (F.get j id),Bn.Ep U (u.tt (f.tt F)) (r.frame (f.tt F) bX) rfl cap l λo m=>⟨_,_,rfl,d o _ (f.tt (F.tt m))⟩⟩
theorem PE{i n m:Nat}(B:iX h D b.bl q b.bl.length C x)(S:n=b.bl.length)(Q:b.bl.length<=1000000)(u:h[i]? =some (.C #[.U (k:Int)] 27 (0,0)))(I: hH h R (.I (idxOf (λX:BB=>decide (X.b.ty=k)) x))):
  Cl 239 #[.L q n m,.func (.func 238) #[] #[.P i 0]] h R:=by
 have xl:=B.xl;refine jy.find.walk (rF (λX:BB=>decide (X.b.ty=k)) (λt g K=>((0:Int)<=t/\t<(n:Int))/\aN q λA=>ay.cC g (A.add (Int.toNat t*5)) λT=>
  Cl 238 #[T.agg,.P i 0] g λv G=> ∃t,v=.B t/\K t G) ag ag (λj P y K o f s=> ?_) I)
 have U:=(az.1 o).1;have r:=B.on f;obtain⟨A,d,E,z,M,Z,J⟩:=r.get (i:=j) ag;obtain rfl:d=y:=aX (J.symm.trans o);refine⟨ag,bT.2 ⟨A,E,ay.jQ (x:=d.s) (by rw[aH];exact z) (Cs.walk (ay.cW λL l O w F=>⟨_,au w,_,au ((f.tt F).get u id),_,rfl,?_⟩))⟩⟩;have e:((d.b.ty:Int)==(k:Int))=decide (d.b.ty=k):=by by_cases q:d.b.ty=k<;>simp[q]<;>omega
 show K ((d.b.ty:Int)==(k:Int)) l;rw[e];exact s l (f.tt F)
theorem PF{l:List BB}:(Dz (l.map BB.b) k=none/\idxOf (λX:BB=>decide (X.b.ty=k)) l= -1)\/∃(i:Nat)(y:BB),idxOf (λX:BB=>decide (X.b.ty=k)) l=(i:Int)/\l[i]? =some y/\Dz (l.map BB.b) k=some y.b:=by
 unfold Dz idxOf;rw[List.find?_map];cases d:l.findIdx? (λX:BB=>decide (X.b.ty=k))with
 |none=>
  left;refine⟨?_,rfl⟩;rw[dh]at d;have:l.find? ((λz:nz=>decide (z.ty=k)) ∘ BB.b)=none:=List.find?_eq_none.2 λX o=>by have:=d X o;simpa using this
  rw[this];rfl
 |some i=>
  right;obtain⟨e,f,m⟩:=cj.1 d;refine⟨i,l[i],rfl,aj e,?_⟩;have:l.find? ((λz:nz=>decide (z.ty=k)) ∘ BB.b)=some l[i]:=fP.2 ⟨f,i,e,rfl,λj n=>by have:=m j n;simpa using this⟩;rw[this];rfl
theorem PG{b:Nat}{y X:ay.S}{K:ay.S->ai->Prop}(e:ay.fD h b y)(i: ∀H,Fr (λy=>y=b) h H->K X H):
  ay.du h (AA b 0) X λg=>ay.cC g (AA b 0) λr=>K r g:=
 ay.gX (x:=X) e λg d f _=>ay.fz d (i g f)
theorem Re{b:Nat}{z:nz}{q':ct}{c':Nat}{K:ai->Prop}(j:ay.fD h b (z.s p c))(m: ∀H,ay.fD H b (z.s q' c')->Fr (λy=>y=b) h H->K H):aJ h (AA b 4) (.L q' z.data.length c') K:=
 bk j (by show 4<5;omega) λi d e f=>m i d (Fr.of_eq e λc l=>f c l)
theorem ic(k:Nat)(B:iX h D b.bl q b.bl.length C x)(hl:b.bl.length<=1000000)(hd: ∀z∈b.bl,z.data.length<=80000)(k1: ∀z,Dz b.bl k=some z->z∈b.bl->∀H p c,Row H p (bc z.data)->z.data.length<=c->Fr No h H->R (.T #[(z.s p c).agg,.B true]) H)(k2:Dz b.bl k=none->hH h R (.T #[ay.S.z.agg,.B false])):
  Cl 211 #[(b.s q C).agg,.U (k:Int)] h R:=by
 refine Hz.walk (ak.cW (x:=b.s q C) λb1 i d' L J=>cT ?_);have f:Fr No i (i.push (.C #[.U (k:Int)] 27)):=Fr.push _ _;have M:(i.push (.C #[.U (k:Int)] 27))[i.size]? =some (.C #[.U (k:Int)] 27 (0,0)):=bZ;generalize i.push (.C #[.U (k:Int)] 27)=h2 at f M⊢;refine ay.cW (x:=.z) λU h3 e' v m=> ?_
 have G:=J.tt (f.tt m);have z1:=J.1;have z2:=f.1;have g':=aA v;refine⟨_,_,_,au ((f.tt m).get L id),PE (B.on G) rfl hl (m.get M id) λh4 F=>⟨_,rfl,?_⟩⟩;have l:=G.tt F;have I:=B.eq;rcases PF (l:=x) (k:=k)with⟨r,s⟩|⟨c',y,r,s,Q⟩
 .rw[I]at r;rw[s,gi];exact PG (F.get v id) λh5 f5=>k2 r h5 (l.fresh f5 (λy e=>ag))
 rw[I]at Q;rw[r,dy];have xl:=B.xl;have li:=(az.1 s).1;obtain⟨A,d,E,hh,e1,ok,b'⟩:=(B.on l).get (i:=c') ag;obtain rfl:d=y:=aX (b'.symm.trans s);have O:d.b∈b.bl:=by rw[e1];exact dF _
 have sl:(b.s q C).Iv=b.bl.length:=rfl;have ld:=hd _ O;refine⟨_,_,_,au ((f.tt (m.tt F)).get L id),ag,bT.2 ⟨A,E,ay.jQ (x:=d.s) (by rw[aH];exact hh) (ay.fK (x:=d.s) λX h7 f' w n=>⟨_,_,_,au w,mi.gE (ok.row.frame n bX) rfl (by show d.b.data.length<=_;omega) λP t h8 T o S=>⟨_,_,_,rfl,?_⟩⟩)⟩⟩;have z7:=n.1;have z8:=o.1;have z4:=F.1;have h':=aA w;refine Re (z:=d.b) (q':=P) (c':=t) (o.get w id) λh9 Z u=>ay.fz (x:=d.b.s P t) Z (PG (u.get ((F.tt (n.tt o)).get v id) ag) λa' K=> ?_)
 have r9:=(T.iz.frame u (λA E j=>by have:=S A.block ⟨A,E,rfl⟩;have j:A.block=X:=j;omega)).frame K (λA E j=>by have:=S A.block ⟨A,E,rfl⟩;have j:A.block=U:=j;omega);exact k1 d.b Q O a' P t r9 T.le (((l.tt (n.tt o)).fresh u (λy e=>bW l.1)).fresh K (λy e=>ag))
theorem Ep(U:Cb.kr V a)(u:Fr No a h)(M:nR.Mx h)(B:iX h D b.bl q b.bl.length C x)(A:b.bl.length<=1000000)(n: ∀z∈b.bl,z.data.length<=80000)(d: hH h R (.U (JE V b.bl:Int))):
  Cl 170 #[(b.s q C).agg] h R:=by
 unfold JE at d;refine Q9.walk (ak.cW (x:=b.s q C) λK O L y i=>ak.fz (x:=b.s q C) y (ic 7 (B.on i) A n (λz J G v p c r s j=>ay.ex (z.s p c) ⟨_,rfl,ay.fK (x:=z.s p c) λo l E m f=> ?_⟩) (λI v j=>ay.ex .z ⟨_,rfl,ay.fK (x:=.z) λo l E m f=> ?_⟩)))
 .rw[J]at d;rw[dy];have F:=i.tt (j.tt f);exact ay.fz (x:=z.s p c) m (PD z U (u.tt F) (M.on F) (r.frame f bX) s (n z G) λw e t=>⟨_,_,rfl,d w (F.tt t)⟩)
 .rw[I]at d;rw[gi];exact d l (i.tt (j.tt f))
theorem Rf(s n:Nat)(w:b.p.wf)(U:Cb.kr V a)(u:Fr No a h)(M:nR.Mx h)(B:iX h D b.bl q b.bl.length C x)(t:b.bl.length<=1000000)(r: ∀z∈b.bl,z.data.length<=80000)(d: hH h R (.I (JF V b s n))):
  Cl 168 #[(b.s q C).agg,.U (s:Int),.U (n:Int)] h R:=by
 unfold JF at d;refine Q8.walk (ak.cW (x:=b.s q C) λv y E o f=>ak.fz (x:=b.s q C) o (Bn.sJ w U (u.tt f) (M.on f) (B.on f) t r λi F=>⟨_,rfl,?_⟩));cases j:(jN V b).isSome with
 |false=>rw[j]at d;rw[gi];exact d i (f.tt F)
 |true=>
 rw[j,af rfl]at d;rw[dy];have d:=d i (f.tt F);refine aG.of λJ e=> ?_
 by_cases l:s>n
 .rw[gi];subst e;dsimp only;rw[af rfl];rw[af (.inl l)]at d;exact d
 rw[dy];by_cases m:n>1099511627776
 .rw[av ag];subst e;dsimp only;rw[af rfl];rw[af (.inr m)]at d;exact d
 .rw[aC ag];subst e;dsimp only;rw[dy];rw[dy]at d;exact d
theorem PH(P:Prim)(o d:Nat)(j:P.fT<=1099511627776)(s:P.id.tm<=1099511627776)(t:d<=1099511627776)(u:o<=18446744073709551615)(f: hH h R (.U (HB P o d:Int))):
  Cl 169 #[P.s.agg,.U (o:Int),.U 0,.U (d:Int)] h R:=by
 refine PB.walk (aE.cW (x:=P.s) λb j E i F=>⟨_,au i,aG.of λJ r=> ?_⟩);have f:=f j F;unfold HB R4 at f;have fin: ∀n:Nat,(if P.id.tm>0/\d<P.id.tm then P.fT+(P.id.tm - d)else P.fT - (if P.id.tm>0 then d - P.id.tm else o))=P.fT - n->J (n:Int) j:=by
  intro n e;rw[e]at f;subst r;dsimp only;refine⟨_,au i,?_⟩;by_cases c:n≥P.fT
  .rw[af (av (by show(n:Int)≥(P.fT:Int);omega))];rw[show P.fT - n=0 by omega]at f;exact f
  .rw[ae (by simp only[aY];show¬(n:Int)≥(P.fT:Int);omega)];refine⟨_,au i,?_⟩;show R (.U (IntKind.wrap .u64 ((P.fT:Int) - (n:Int)))) j;rw[wrap_u64 ag ag,show(P.fT:Int) - (n:Int)=((P.fT - n:Nat):Int) by omega];exact f
 by_cases l:P.id.tm>0
 .rw[af (av (by show(P.id.tm:Int)>0;omega))];refine⟨_,au i,?_⟩;by_cases m:d<P.id.tm
  .rw[af (av (by show(d:Int)<(P.id.tm:Int);omega))];rw[af ⟨l,m⟩]at f;refine⟨_,au i,_,au i,?_⟩;show R (.U (IntKind.wrap .u64 ((P.fT:Int)+(IntKind.wrap .u64 ((P.id.tm:Int) - (d:Int)))))) j;rw[wrap_u64 (n:=(P.id.tm:Int) - (d:Int)) ag ag,wrap_u64 ag ag,show(P.fT:Int)+((P.id.tm:Int) - (d:Int))=((P.fT+(P.id.tm - d):Nat):Int) by omega];exact f
  .rw[ae (by simp only[aY];show¬(d:Int)<(P.id.tm:Int);omega)];refine⟨_,au i,?_⟩;show J (IntKind.wrap .u64 ((d:Int) - (P.id.tm:Int))) j;rw[wrap_u64 ag ag,show(d:Int) - (P.id.tm:Int)=((d - P.id.tm:Nat):Int) by omega];exact fin _ (by rw[ae (λe=>m e.2),af l])
 .rw[ae (by simp only[aY];show¬(P.id.tm:Int)>0;omega)];rw[Int.add_zero,wrap_u64 ag ag];exact fin _ (by rw[ae (λe=>l e.1),ae l])
def lH(V:cG->Bool)(b:mq)(n:Nat):Nat×Int:=if JF V b n n=0 then(HB b.p (JE V b.bl) n,0)else(0,JF V b n n)
theorem Rh{B:cG}{l pos left:Nat}{t:Cb.Tr}{e lf:Nat}(h:Cb.hO V B l pos left=.ok (t,e,lf)):t.n<=18446744073709551615:=by
 cases l with
 |zero=>
  unfold Cb.hO at h;split at h
  .cases h
  .split at h<;>cases h
 |succ l=>
  unfold Cb.hO at h;split at h
  .cases h
  rename_i m n o f d;have:=(Cb.wU d).2.2.1;split at h
  .dsimp only at h;split at h
   .cases h
   split at h
   .cases h;show n<=_;omega
   split at h
   .split at h
    .cases h
    .cases h;exact bQ _
   .split at h
    .cases h
    .cases h;exact bQ _
  .cases h
theorem Ri(B:cG):(eU V B).n<=18446744073709551615:=by
 unfold eU Cb.mJ;split
 .rename_i t n d;split at d
  .cases d
  .rename_i e;cases d;exact Rh e
 .exact bQ _
theorem Rj(l:List nz):JE V l<=18446744073709551615:=by
 unfold JE Rb;split
 .exact bQ _
 .split
  .exact Ri _
  .exact bQ _
theorem Rk(n:Nat)(G:n<=1099511627776)(w:b.p.wf)(U:Cb.kr V a)(u:Fr No a h)(M:nR.Mx h)(B:iX h D b.bl q b.bl.length C x)(t:b.bl.length<=1000000)(j: ∀z∈b.bl,z.data.length<=80000)(f: hH h R (.T #[.U ((lH V b n).1:Int),.I (lH V b n).2])):
  Cl 121 #[(b.s q C).agg,.U (n:Int),.U (n:Int)] h R:=by
 unfold lH at f;refine PC.walk (ak.cW (x:=b.s q C) λJ L K r i=>ak.fz (x:=b.s q C) r (Rf n n w U (u.tt i) (M.on i) (B.on i) t j λy m=>⟨_,rfl,?_⟩));have F:=i.tt m;by_cases e:JF V b n n=0
 case neg=>
  rw[ae e]at f;rw[af (cR e)];exact f y F
 rw[af e]at f;rw[ae (cR e)];have s:=m.get r id;have l:Bn.jv b.p=true:=by
  unfold JF at e;split at e
  .rename_i I;obtain⟨d,j⟩:=dH.1 I;exact Ask.uO j
  .cases e
 have E:=Rj (V:=V) b.bl;have pr:b.p.fT<=1099511627776/\b.p.id.tm<=1099511627776:=by
  unfold Bn.jv Bn.hU at l;simp only[aW,aY]at l;exact⟨l.2,l.1.2.1.2⟩
 refine Bn.UO s (ak.fz (x:=b.s q C) s (Ep U (u.tt F) (M.on F) (B.on F) t j λO o=>⟨_,rfl,o.kp,?_⟩));rw[Int.sub_self,show IntKind.wrap .u64 0=0 by rfl];exact PH b.p (JE V b.bl) n pr.1 pr.2 G E λA v=>⟨_,rfl,f A (F.tt (o.tt v))⟩

end pg
end
section
namespace pg
open Cb (Tr gP Ed mC mJ mX rH CW)
open Bn (at_ kW jN mq nz Prim yd jm iX BB rN D7 ke elem jc kY)
variable {V:cG→Bool} {h H a g:ai} {R:fO} {p q:ct} {c C:Nat} {x:List BB} {D:Nat→Prop} {b:mq}
def BC(t:Tr):Prop:=t.l.length=2/\(at_ t.l 1).l.length=4/\(at_ (at_ t.l 1).l 0).l.length=3
instance (t : Tr) : Decidable (BC t) := by unfold BC; infer_instance
def KI(t:Tr)(X:jm):yd:=⟨(at_ (at_ (at_ t.l 1).l 0).l 0).n==1,(at_ (at_ (at_ t.l 1).l 0).l 1).n==1,(at_ (at_ (at_ t.l 1).l 0).l 2).n==1,(at_ (at_ t.l 1).l 1).n,(at_ (at_ t.l 1).l 2).n,X⟩
def xN(V:cG->Bool)(B:cG):Bool:=match mJ V B with
 | .error _=>false
 | .ok (t,_)=>if BC t then(match ke V (at_ (at_ t.l 1).l 3)with|none=>false|some X=>decide (D7 V (KI t X)=some B))else false
theorem EY{b:Nat}{y X:aK.S}{K:aK.S->ai->Prop}(e:aK.fD h b y)(i: ∀H,Fr (λy=>y=b) h H->K X H):
  aK.du h (AA b 0) X λg=>aK.cC g (AA b 0) λr=>K r g:=
 aK.gX (x:=X) e λg d f _=>aK.fz d (i g f)
theorem JG{B:cG}{i':Nat}(U:Cb.kr V a)(b':Fr No a h)(mx:nR.Mx h)(j':Row h p (bc B))(hl:i'=B.length)(cap:B.length<=c)(b5:B.length<=1300)(hk: ∀H (r:aK.S) (e:Int),(e=0↔xN V B=true)->Fr No h H->R (.T #[r.agg,.I e]) H):Cl 166 #[.L p i' c] h R:=by
 subst hl;refine HA.walk (aK.cW (x:=.z) λb h1 eb hb f=> ?_);have zb:=aA hb;have z1:=f.1;have u: ∀g,Fr No h1 g->xN V B=false->aK.du g (AA b 0) .z λG=>aK.cC G (AA b 0) λr=>R (.T #[r.agg,.I 3]) G:=λg fg e=>
  EY (fg.get hb id) λG f'=>hk G _ 3 ⟨λq=>absurd q dS,λq=>by rw[e]at q;cases q⟩ ((f.tt fg).fresh f' (λl' e=>ag))
 have d:xN V B=xN V B:=rfl;conv at d=>rhs;unfold xN
 refine Cb.vK (U.mono (b'.tt f)) (j'.frame f bX) rfl cap ag (λh3 t c' nx hr tx Z=>aa.ex c'.s ⟨_,_,rfl,aa.fK (x:=c'.s) λb1 m o' s z=> ?_⟩) (λh3 e he Z=>aa.ex Bn.zv.s ⟨_,_,rfl,aa.fK (x:=Bn.zv.s) λb1 m o' s z=> ?_⟩)
 case refine_2=>
  refine aG.of λd' A=> ?_
  rw[af (cR (mX he))];subst A;dsimp only;rw[af rfl];exact u m (Z.tt z) (by rw[d,he])
 rw[hr]at d;dsimp only at d;obtain⟨rt,b7⟩:=rH hr;have o:=Z.tt z;obtain⟨xk,xn,xb,xl,xv,ys,L,TS⟩:=Bn.gP.kn (tx.u.on z);have rl:=kY (t:=t);have sl:c'.s.Fq=t.l.length:=xl;refine aG.of λd' A=> ?_
 have bad: ¬BC t->d' true m:=λhn=>by
  subst A;dsimp only;rw[af rfl];exact u m o (by rw[d,ae hn])
 rw[dy];refine⟨_,_,_,au s,?_⟩;rw[sl];by_cases l2:t.l.length=2
 case neg=>rw[af (by simp only[dw,fj];omega)];exact bad (λe=>l2 e.1)
 rw[ae (by simp only[dw,fj];omega)];obtain⟨a1,y,S,C',k',_⟩:=elem L TS (i:=1) ag;obtain⟨a7,a8,a6,I,c6,c8,K,v⟩:=Bn.gP.kn k';have j:aU m ((a1.add (Int.toNat 1*4)).add 3)=some (.L y.q y.ll y.cl):=C'.2.2.2.1;have r1:=jc (ts:=t.l) (i:=1) ag;refine⟨_,_,_,au s,ag,bT.2 ⟨a1,S,_,_,_,j,?_⟩⟩;rw[I];by_cases l4:(at_ t.l 1).l.length=4
 case neg=>rw[af (by simp only[dw,fj];omega)];exact bad (λe=>l4 e.2.1)
 rw[ae (by simp only[dw,fj];omega)];obtain⟨T,k⟩: ∃T,at_ t.l 1=T:=⟨_,rfl⟩;rw[k]at k' r1 a7 a8 a6 I v l4;obtain⟨p0,w0,v',J',U',_⟩:=elem K v (i:=0) ag;obtain⟨c3,c4,c2,a4,c5,c7,L0,a9⟩:=Bn.gP.kn U';have c0:aU m ((p0.add (Int.toNat 0*4)).add 3)=some (.L w0.q w0.ll w0.cl):=J'.2.2.2.1;refine⟨_,_,_,au s,ag,bT.2 ⟨a1,S,_,_,_,j,ag,bT.2 ⟨p0,v',_,_,_,c0,?_⟩⟩⟩;rw[a4];by_cases l3:(at_ T.l 0).l.length=3
 case neg=>rw[show(((((at_ T.l 0).l.length:Nat):Int)) !=3)=true by simp only[dw,fj];omega];exact bad (λe=>l3 (by rw[<-k];exact e.2.2))
 rw[show(((((at_ T.l 0).l.length:Nat):Int)) !=3)=false by simp only[gu];omega];have sh:BC t:=⟨l2,by rw[k];exact l4,by rw[k];exact l3⟩;rw[af sh]at d;clear bad;subst A;dsimp only;rw[ae (show¬false=true by decide)];obtain⟨p3,w3,w',K',V',_⟩:=elem K v (i:=3) ag;have r3:=jc (ts:=T.l) (i:=3) ag;have b9:=kY (t:=T);have M':y.ll=T.l.length:=I;refine⟨_,_,_,au s,ag,bT.2 ⟨a1,S,_,_,_,j,ag,bT.2 ⟨p3,w',aa.jQ (x:=w3.s) K' (Bn.GI U (b'.tt (f.tt o)) (mx.on (f.tt o)) V' ag (λid hid h7 f7=>ah.ex id.s ⟨_,rfl,ah.fK (x:=id.s) λb2 i p' h' f9=> ?_⟩) (λhid h7 f7=>ah.ex jm.zero.s ⟨_,rfl,ah.fK (x:=jm.zero.s) λb2 i p' h' f9=> ?_⟩))⟩⟩⟩
 case refine_2=>
  rw[gi];rw[k,hid]at d;exact u i (o.tt (f7.tt f9)) d
 rw[dy];rw[k,hid]at d;dsimp only at d;have J:=f7.tt f9;have F9:=o.tt J;have a5:=Bn.uy hid;have M:=K.frame J (λ_ _=>_root_.id);have Q:=v.on J;obtain⟨w,v0,X,G',R',_⟩:=elem M Q (i:=0) ag;obtain⟨d1,v1,q',H',S',_⟩:=elem M Q (i:=1) ag;obtain⟨d2,v2,r',I',T',_⟩:=elem M Q (i:=2) ag;obtain⟨_,_,_,c1,_,zs,O,P⟩:=Bn.gP.kn R';obtain⟨_,a2,_⟩:=Bn.gP.kn S';obtain⟨_,a3,_⟩:=Bn.gP.kn T';obtain⟨g0,u0,s',D',O',_⟩:=elem O P (i:=0) ag;obtain⟨g1,u1,t',E',P',_⟩:=elem O P (i:=1) ag;obtain⟨g2,u2,u',F',Q',_⟩:=elem O P (i:=2) ag;obtain⟨_,X',_⟩:=Bn.gP.kn O';obtain⟨_,Z',_⟩:=Bn.gP.kn P';obtain⟨_,a0,_⟩:=Bn.gP.kn Q';have j:aU i ((w.add (Int.toNat 0*4)).add 3)=some (.L v0.q v0.ll v0.cl):=G'.2.2.2.1;have n0:aU i ((g0.add (Int.toNat 0*4)).add 1)=some (.U (u0.n:Int)):=D'.2.1;have n1:aU i ((g1.add (Int.toNat 1*4)).add 1)=some (.U (u1.n:Int)):=E'.2.1;have n2:aU i ((g2.add (Int.toNat 2*4)).add 1)=some (.U (u2.n:Int)):=F'.2.1;have m1:aU i ((d1.add (Int.toNat 1*4)).add 1)=some (.U (v1.n:Int)):=H'.2.1;have m2:aU i ((d2.add (Int.toNat 2*4)).add 1)=some (.U (v2.n:Int)):=I'.2.1;rw[X']at n0;rw[Z']at n1;rw[a0]at n2;rw[a2]at m1;rw[a3]at m2;have ib: ∀n:Nat,((n:Int)==1)=(n==1):=λn=>by
  by_cases e:n=1
  .rw[e];rfl
  .rw[dz.2 e,dz.2 ag]
 have M':y.ll=T.l.length:=I;refine⟨ag,bT.2 ⟨w,X,_,_,_,j,ag,bT.2 ⟨g0,s',_,n0,ag,bT.2 ⟨w,X,_,_,_,j,ag,bT.2 ⟨g1,t',_,n1,ag,bT.2 ⟨w,X,_,_,_,j,ag,bT.2 ⟨g2,u',_,n2,ag,bT.2 ⟨d1,q',_,m1,ag,bT.2 ⟨d2,r',_,m2,ah.fz (x:=id.s) h' ?_⟩⟩⟩⟩⟩⟩⟩⟩⟩;refine aK.cW (x:=.z) λb3 z' b4 B' g'=>⟨g'.kp,?_⟩
 rw[ib,ib,ib];subst k;have wr:0<=(KI t id).of.e.gL:=a5;refine show aK.du z' (AA b3 0) (KI t id).s _ from ?_;generalize KI t id=r at d wr;refine aK.gX (x:=r.s) B' λA' e' y' _=>aK.fz (x:=r.s) e' ?_
 have m':=F9.tt g';have z9:=F9.1;have l:Fr No h1 A':=m'.fresh y' (λl' e=>ag);refine Bn.KE r wr U (b'.tt (f.tt l)) (λn' hw lw a' b8 b0 L' b6 F=>⟨_,_,_,_,rfl,aG.of λJ1 E=> ?_⟩) (λhw a' F=>⟨_,_,_,_,rfl,aG.of λJ1 E=> ?_⟩)
 .rw[dy];refine Cb.kx L'.iz (j'.frame (f.tt (l.tt F)) (λ_ _=>_root_.id)) rfl rfl ⟨_,rfl,?_⟩;rw[hw]at d;by_cases e:n'=B
  .rw[av e];subst E;dsimp only;rw[dy];refine aK.fz (x:=r.s) (F.get e' _root_.id) (EY ((l.tt F).get hb _root_.id) λg x'=> ?_);exact hk g _ 0 ⟨λ_=>by rw[d,av (by rw[e])],λ_=>rfl⟩ ((f.tt (l.tt F)).fresh x' (λl' e=>ag))
  .rw[aC e];subst E;dsimp only;rw[gi];exact u a' (l.tt F) (by rw[d,aC (λq=>e (aX q))])
 .rw[gi];subst E;dsimp only;rw[af rfl];exact u a' (l.tt F) (by rw[d,aC (by rw[hw];intro q;cases q)])
def BD(V:cG->Bool)(b:mq):Bool:= !Ask.EP (b.p.fl:Int) 2 && (jN V b).isSome && xN V (rN b)
theorem wc(a':b.p.wf)(U:Cb.kr V a)(u:Fr No a h)(M:nR.Mx h)(B:iX h D b.bl q b.bl.length C x)(K:b.bl.length<=1000000)(A: ∀z∈b.bl,z.data.length<=1000)(J: ∀H (r:aK.S) (e:Int),(e=0↔BD V b=true)->Fr No h H->R (.T #[r.agg,.I e]) H):Cl 119 #[(b.s q C).agg] h R:=by
 refine MS.walk (ak.cW (x:=b.s q C) λb1 h1 c' l o=>aK.cW (x:=.z) λn w d' y j=>⟨_,au (j.get l id),?_⟩);have F:=o.tt j;have z1:=o.1;have E:BD V b=BD V b:=rfl;conv at E=>rhs;unfold BD
 have O: ∀g (e:Int),Fr No w g->BD V b=false->e≠0->aK.du g (AA n 0) .z λG=>aK.cC G (AA n 0) λr=>R (.T #[r.agg,.I e]) G:=λg e v Q hn=>
  EY (v.get y id) λG S=>J G _ e ⟨λq=>absurd q hn,λq=>by rw[Q]at q;cases q⟩ ((F.tt v).fresh S (λb' e=>ag))
 split
 .rename_i d;have d:Ask.EP (b.p.fl:Int) 2=true:=d;exact O w 4 (Fr.refl _ _) (by rw[E,d];rfl) dS
 .rename_i d;have d:Ask.EP (b.p.fl:Int) 2=false:=by
   cases Z:Ask.EP (b.p.fl:Int) 2 with
   |true=>exact absurd Z d
   |false=>rfl
  rw[d]at E;have I: ∀z∈b.bl,z.data.length<=80000:=λz m=>by have:=A z m;omega
  refine ak.fz (x:=b.s q C) (j.get l id) (Bn.sJ a' U (u.tt F) (M.on F) (B.on F) K I λT i=>⟨_,rfl,?_⟩);cases L:(jN V b).isSome with
  |false=>
   rw[gi];exact O T 3 i (by rw[E,L];rfl) dS
  |true=>
  rw[dy];rw[L]at E;refine ak.fz (x:=b.s q C) ((j.tt i).get l id) (Bn.AQ (B.on (F.tt i)) K I λh6 p6 c6 P n6 s=>⟨_,_,_,rfl,?_⟩);have k:=F.tt (i.tt s);have lp:(rN b).length<=1300:=by
   unfold rN;split
   .exact bQ _
   .rename_i z m;have:=A z (List.mem_of_getLast? m);omega
  refine JG U (u.tt k) (M.on k) P.iz rfl P.le lp λh7 r e X t=>aK.ex r ⟨_,rfl,EY ((i.tt (s.tt t)).get y id) λg f=>J g r e ?_ ((k.tt t).fresh f (λb' e=>ag))⟩
  rw[E,X];rfl

end pg
end
section
namespace pg
open dK (SS Good)
open Go.Proofs.YtkdgpmeojgokdaaGreatDoor.Ask (Ot bad Rq ER lG)
open Bn (mq kW jN)
open Go.fV (RD)
variable {V:cG→Bool} {σ:SS} {k:Nat} {b:mq} {data:cG} {x:qI}
def tY(V:cG->Bool)(σ:SS)(b:mq)(data:cG):Ot:=match gO.jb σ.G b.p.dest with
 |none=>bad σ 4
 |some r=>if BD V b=true then⟨{ σ with A:=fu.Be σ.A r.own data },0,0,if fu.Di σ.A r.own data=0 then 1 else 0, []⟩
  else if r.lV=2/\fu.SK σ.A r.own=false then bad σ 19
  else if(lH V b σ.now).2≠0 then bad σ (lH V b σ.now).2
  else if(lH V b σ.now).1=0 then bad σ 18
  else⟨{ σ with C:=gY.kJ σ.C b.p.dest data (min (σ.now+(lH V b σ.now).1) 1099511627776) },gY.jB σ.C b.p.dest data (min (σ.now+(lH V b σ.now).1) 1099511627776),gY.Bi σ.C b.p.dest data (min (σ.now+(lH V b σ.now).1) 1099511627776),0, []⟩
def EZ(o:Ot):Ot:=if o.e≠0 then { o with σ:= { o.σ with rf:=o.σ.rf+1 } } else o
def tH(V:cG->Bool)(σ:SS)(data:cG):Ot:=match kW V data with
 | .error e=>EZ (bad σ e)
 | .ok b=>EZ (tY V σ b data)
structure Hq where
 σ:SS
 e:Int
 y:RD
def iI(V:cG->Bool)(σ:SS)(x:qI):Hq:=
 if x.kind=1 then⟨{ σ with A:=fu.wa σ.A x.token },fu.pn σ.A x.token,⟨0,0,fu.G3 σ.A x.token,0,x.token, []⟩⟩
 else if x.kind=2 then⟨{ σ with A:=fu.Mh σ.A x.token },fu.SM σ.A x.token,⟨0,0,fu.O8 σ.A x.token,0,x.token, []⟩⟩
 else if x.kind=3 then⟨{ σ with A:=fu.Dg σ.A x.ses },fu.O9 σ.A x.ses,RD.zero⟩
 else if x.kind=4 then⟨(ER V σ x.ses x.iM).1,0,(ER V σ x.ses x.iM).2⟩
 else if x.kind=5 then⟨(tH V σ x.data).σ,(tH V σ x.data).e,⟨0,0,(tH V σ x.data).num,(tH V σ x.data).yM,0, []⟩⟩
 else if x.kind=6 then(match σ.B.items with| []=>⟨σ,4,RD.zero⟩|z::_=>⟨dK.Dw σ,0,⟨0,0,z.num,0,0,z.d⟩⟩)
 else if x.kind=8 then⟨{ σ with A:=fu.nG σ.A },0,RD.zero⟩
 else⟨σ,0,RD.zero⟩
def dj(V:cG->Bool)(σ:SS)(x:qI):Hq:=
 if zy V x=true then
  if dK.qp σ x.now=0 then(if(iI V (dK.qq σ x.now) x).e=0 then⟨(iI V (dK.qq σ x.now) x).σ,0,(iI V (dK.qq σ x.now) x).y⟩
   else⟨(iI V (dK.qq σ x.now) x).σ,0,lG 0 (iI V (dK.qq σ x.now) x).e⟩)
  else⟨σ,dK.qp σ x.now,RD.zero⟩
 else⟨σ,3,RD.zero⟩
theorem Good.lR{A:List fu.fu}(G:dK.Good σ k)(a:fu.mT A):dK.Good { σ with A:=A } k:=⟨a,G.g,G.c,G.b,G.v,G.q,G.ok,G.n,G.e,G.t,G.r⟩
theorem Good.Un(G:dK.Good σ k)(O:gY.Ord σ.C)(h:k<=30000)(H:0<=b.p.dest.gL):dK.Good (tY V σ b data).σ (k+1):=by
 have m:=dK.Good.more G;unfold tY;split
 .exact m
 .split
  .exact dK.Good.more (Good.lR G (G.a.note _ _))
  .split
   .exact m
   .split
    .exact m
    .split
     .exact m
     .exact dK.Good.Vy G O h _ H _ _
theorem Good.ref{o:Ot}(G:dK.Good o.σ k):dK.Good (EZ o).σ (k+1):=by
 unfold EZ;split
 .have m:=dK.Good.more G;exact⟨m.a,m.g,m.c,m.b,m.v,m.q,m.ok,m.n,m.e,m.t,by have:=G.r;show o.σ.rf+1<=_;omega⟩
 .exact dK.Good.more G
theorem Good.arr(G:dK.Good σ k)(O:gY.Ord σ.C)(H:k<=30000)(a: ∀b,kW V data=.ok b->0<=b.p.dest.gL):dK.Good (tH V σ data).σ (k+2):=by
 unfold tH;split
 .exact Good.ref (dK.Good.more G)
 .rename_i b h;exact Good.ref (Good.Un G O H (a b h))
theorem Good.S1(G:dK.Good σ k)(O:gY.Ord σ.C)(h:k<=30000)(a: ∀b,kW V x.data=.ok b->0<=b.p.dest.gL)(H:0<=x.iM.ep.gL):dK.Good (iI V σ x).σ (k+2):=by
 unfold iI;split
 .exact dK.Good.more (dK.Good.wa G _)
 split
 .exact dK.Good.more (dK.Good.more (Good.lR G (G.a.res _)))
 split
 .exact dK.Good.more (dK.Good.more (Good.lR G (G.a.down _)))
 split
 .exact Ask.Good.ER G O h H
 split
 .exact Good.arr G O h a
 split
 .split
  .exact dK.Good.more (dK.Good.more G)
  .exact dK.Good.more (dK.Good.take G)
 split
 .exact dK.Good.more (dK.Good.more (Good.lR G G.a.QX))
 .exact dK.Good.more (dK.Good.more G)

end pg
end
section
namespace Ask
open jG (Ev dt)
open dK (SS Good Pt oN Mk)
open Bn (jm hU iT AE Eh mq Prim nz iX BB jN kW rN)
variable {V:cG→Bool} {h h' h0 g:ai} {R:fO} {s k bo id c:Nat} {X X':Ft} {I:oN} {σ:SS} {p:ct} {ses:Int} {x:Rq} {D:Nat→Prop}
theorem bw.box{b:Nat}(S:bw X h X' h')(f:Fr (λy=>y=b) h' g)(H:h.size<=b):bw X h X' g:=⟨S.fr.trans f (λ_ _ a=>a) (λc d e=>ag),S.hN,S.ji,S.mz⟩
def PI(σ:SS)(X:Ft)(I:oN)(s:Nat)(ses:Int)(d:Nat)(x:Ev)(g:ai)(S:aR.S)(e:Int)(h':ai):Prop:=
 ∃X' a,Pt h' s X' I a/\bw X g X' h'/\((¬gY.uG ses d/\e=1/\a=σ)\/(gY.uG ses d/\gY.mF σ.C.L x=none/\e=4/\a=σ)\/
  (gY.uG ses d/\∃z,gY.mF σ.C.L x=some z/\e=0/\a= { σ with C:=gY.sd σ.C z ses d } /\∃p c,S.f0=(z.num:Int)/\S.HT=p/\S.Wd=z.d.length/\S.We=c/\Row h' p (bc z.d)/\z.d.length<=c/\∀y,aP p y->g.size<=y/\¬X'.M y))
theorem BE(H:Pt g s X I σ)(G:dK.Good σ k)(O:k<=30000)(x:Ev)(d:Nat){K:aR.S->Int->ai->Prop}(j: ∀S e h',PI σ X I s ses d x g S e h'->K S e h'):
  Cl 146 #[pt I.c,x.s.agg,.I ses,.U (d:Int)] g λv h'=>aR.EX λS=> ∃e,v=.T #[S.agg,.I e]/\K S e h':=by
 obtain⟨Z,m,T,Q,go⟩:=H.use 2;have J:=G.small H.ord ag;refine gY.Mv m J G.c.ok.bd x ses d rfl (λa b f=> ?_) (λa A b f=> ?_) (λa z m b t P C o s1 F u n=> ?_)
 .exact aR.ex .z ⟨_,rfl,j _ _ _ ⟨X,σ,H.on f,bw.gT f,.inl ⟨a,rfl,rfl⟩⟩⟩
 .exact aR.ex .z ⟨_,rfl,j _ _ _ ⟨X,σ,H.on f,bw.gT f,.inr (.inl ⟨a,A,rfl,rfl⟩)⟩⟩
 .obtain⟨r,q,L,M,E⟩:=go b t { σ with C:=gY.sd σ.C z ses d } o s1 (λi w=>dK.xF _ w);exact aR.ex ⟨(z.num:Int),z.e.lE,z.e.node,z.e.gL,z.e.host,z.e.jZ,P,z.d.length,C,(z.fS:Int),ses,(d:Int)⟩ ⟨_,rfl,j _ _ _ ⟨r,_,q,L,.inr (.inr ⟨a,z,m,rfl,rfl,P,C,rfl,rfl,rfl,rfl,F,u,λy l=>⟨(n y l).1,λB=>(n y l).2 (E y (n y l).1 (.inl B))⟩⟩)⟩⟩
theorem Rl (E : En V h0 h s X I σ k) (ht : 0 ≤ x.ja ∧ x.ja ≤ 1000000) (hb : aq.fD h bo (y0 id)) (nb : ¬ (X.M bo ∨ X.D bo))
    (hk : ∀ h' X', Pt h' s X' I (Dy V σ ses x).σ → gJ X h bo id (Dy V σ ses x) X' h' → R (.int .i64 (Dy V σ ses x).e) h') :
    Cl 102 #[(x.as p c s ses).agg, .pointer (some ⟨bo, 0, none⟩)] h R := by
  refine Bz.walk (ck.cW (x := x.as p c s ses) λb h1 eb UP f1 => ck.fz (x := x.as p c s ses) UP (EW (E.H.on f1) λh2 f2 => ⟨_, rfl, ?_⟩))
  have F2 := f1.tt f2
  have E2 := E.on F2
  have PJ := f2.get UP _root_.id
  have nM : ¬ X.M bo := λe => nb (.inl e)
  have zo := aA hb
  have z1 := f1.1
  have z2 := f2.1
  unfold Dy at hk
  by_cases ho : gO.jS σ.G x.ep ses = 0
  case neg =>
    rw [if_neg ho] at hk
    rw [if_pos (by simpa using ho)]
    exact hk h2 X E2.H (gJ.bad hb nM (bw.gT F2))
  rw [if_pos ho] at hk
  rw [if_neg (by simpa using ho)]
  refine aG.of λJ hJ => ?_
  have fin : ∀ (g h' g' : ai) (S : aR.S) (e : Int) (bx : Nat), PI σ X I s ses (R0 σ x) x.ep g S e h' → Fr No h2 g → h.size ≤ bx → (bx < g.size ∨ h'.size ≤ bx) → aR.fD g' bx S → Fr (λy => y = bx) h' g' → J (some ⟨bx, 0, none⟩) e g' := by
    intro g h' g' S e bx L fg WQ Xf hS f
    subst hJ
    dsimp only
    obtain ⟨X', nT, H', VI, c⟩ := L
    have zg := fg.1
    have D0 := bw.no (F2.tt fg) VI
    have st := bw.box D0 f WQ
    have Nf : ∀ y, X'.M y ∨ X'.D y → y ≠ bx := λy hy e => by
      have := H'.lt y hy
      rcases hy with a | a
      · rcases VI.hN y a with a | a
        · have := E.H.lt y (.inl a); omega
        · omega
      · rcases VI.ji y a with a | a
        · have := E.H.lt y (.inr a); omega
        · omega
    have Hg := H'.frame f (λy hy e => Nf y hy e)
    rcases c with ⟨hm, rfl, rfl⟩ | ⟨hm, hn, rfl, rfl⟩ | ⟨hm, z, hz, rfl, rfl, p1, c1, e0, e1, e2, e3, r1, cap, n1⟩
    · rw [if_neg hm] at hk
      rw [if_pos (by decide)]
      exact hk g' X' Hg (gJ.bad hb nM st)
    · rw [if_pos hm, hn] at hk
      rw [if_pos (by decide)]
      exact hk g' X' Hg (gJ.bad hb nM st)
    rw [if_pos hm, hz] at hk
    dsimp only at hk
    rw [if_neg (by decide)]
    have rg : Row g' p1 (bc z.d) := by
      by_cases hd : z.d = []
      · rw [hd]; exact Row.nil
      · refine r1.frame f (λa ea hx => ?_)
        have h3 := n1 a.block ⟨a, ea, rfl⟩
        have h4 := jh r1 (by simpa [bc] using hd) ⟨a, ea, rfl⟩
        have hx : a.block = bx := hx
        omega
    have ug := (E.u.step st).fr
    have ac : ∀ {g2 : ai} {i : Nat} {v : Value}, Fr No g' g2 → S.arr[i]? = some v → aU g2 ⟨bx, i, none⟩ = some v := λf2 hv => cB (f2.get hS _root_.id) hv
    have Xg := aA hS
    have WR := st.fr.get hb nM
    have bne : bo ≠ bx := by omega
    have rest : ∀ (g5 : ai) (b' : mq) (q : Option Addr) (cl : Nat) (xs : List BB) (D : Nat → Prop), iX g5 D b'.bl q b'.bl.length cl xs → b'.bl.length ≤ 1000000 → (∀ y ∈ b'.bl, y.data.length ≤ 80000) → (rN b').length = MD V z.d → Fr No g' g5 →
      bf g5 (.cells ak.S.z.arr 158) λWo WS =>
      ak.du WS ⟨Wo, 0, none⟩ (b'.s q cl) λUo =>
      aN (some (⟨bx, 0, none⟩ : Addr)) λWp =>
      ∃ t52, aU Uo Wp = some (.int .i64 t52) ∧
      ak.cC Uo ⟨Wo, 0, none⟩ λt53 =>
      aN (some (⟨bx, 0, none⟩ : Addr)) λUR =>
      ∃ R5 R6 R7, aU Uo (UR.add 6) = some (.slice R5 R6 R7) ∧
      Cl 148 #[t53.agg] Uo λWT VJ =>
      ∃ Uq R8 Ur, WT = .slice Uq R8 Ur ∧
      Kp Uo VJ [(some (UR.add 6)), (some Wp)] ∧
      aJ VJ ⟨bo, 2, none⟩ (.int .i64 t52) λVK =>
      Kp VJ VK [(some (UR.add 6))] ∧
      aJ VK ⟨bo, 3, none⟩ (.int .i64 ((R8 : Nat) : Int)) λTx =>
      Kp VK Tx [(some (UR.add 6))] ∧
      aJ Tx ⟨bo, 5, none⟩ (.slice R5 R6 R7) λQ7 =>
      R (.int .i64 0) Q7 := by
      intro g5 b' q cl xs D B hl hd hp f5
      refine ak.fK (x := b'.s q cl) λb6 g6 Xh WU f6 => ax.2 ⟨_, ac (i := 0) (f5.tt f6) rfl, ak.fz (x := b'.s q cl) WU (ax.2 ⟨_, _, _, ac (i := 6) (f5.tt f6) rfl, Bn.AQ (B.on f6) hl hd λg7 p7 c7 o7 n7 f7 => ⟨_, _, _, rfl, f7.kp, ?_⟩⟩)⟩
      have F7 := f5.tt (f6.tt f7)
      rw [hp, e0, e1, e2, e3]
      refine iG (z := ⟨id, 0, (z.num : Int), 0, 0, none, 0, 0⟩) (F7.get WR _root_.id) (by decide) rfl λg8 d8 f8 => ⟨OA f8 bne.symm (by simp; rfl), iG (z := ⟨id, 0, (z.num : Int), (MD V z.d : Int), 0, none, 0, 0⟩) d8 (by decide) rfl λg9 d9 f9 => ⟨OA f9 bne.symm (by simp; rfl), iG (z := ⟨id, 0, (z.num : Int), (MD V z.d : Int), 0, p1, z.d.length, c1⟩) d9 (by decide) rfl λg10 d10 f10 => ?_⟩⟩
      have fo := f8.tt (f9.tt f10)
      have VL : ∀ y, X'.M y ∨ X'.D y → y ≠ bo := λy hy e => by
        rcases hy with a | a
        · rcases D0.hN y a with a | a
          · exact nM (e ▸ a)
          · omega
        · rcases D0.ji y a with a | a
          · exact nb (.inr (e ▸ a))
          · omega
      refine hk g10 X' ((Hg.on F7).frame fo (λy hy e => VL y hy e)) (gJ.of (st.on F7) fo ⟨_, d10, λ_ => ⟨p1, c1, rfl, ?_, λ_ y hy => ⟨.inl (by have := (n1 y hy).1; omega), (n1 y hy).2⟩⟩⟩)
      exact (rg.frame F7 (λ_ _ => _root_.id)).frame fo (λa ea hx => by have h3 := (n1 a.block ⟨a, ea, rfl⟩).1; have hx : a.block = bo := hx; omega)
    refine ax.2 ⟨_, _, _, ac (i := 6) (Fr.refl _ _) rfl, ?_⟩
    rw [e1, e2, e3]
    refine Bn.zx E.U ug (E.mx.on ug) rg rfl cap (λb' WV w' tJ Xi h5 q cl xs B f5 => ak.ex (b'.s q cl) ⟨_, rfl, ?_⟩) (λe he hn h5 f5 => ak.ex .z ⟨_, rfl, ?_⟩)
    · exact rest h5 b' q cl xs _ B (by omega) (λy hy => by have := tJ y hy; omega) (by unfold MD; rw [WV]) f5
    · exact rest h5 ⟨.zero, []⟩ none 0 [] (λ_ => True) ⟨rfl, rfl, Row.nil, λe => absurd rfl e, Nat.le_refl _, λy hy => by cases hy⟩ (by show 0 ≤ _; omega) (λy hy => by cases hy) (by unfold MD; rw [he]; rfl) f5
  have VM : ¬ X.M b := E.nM (by omega)
  have eT : IntKind.wrap .u64 x.ja = ((x.ja.toNat : Nat) : Int) := by rw [wrap_u64 (by omega) (by omega)]; omega
  have un : ∀ {g : ai} {K : Int → ai → Prop}, K (R0 σ x : Int) g → Cl 147 #[.int .u64 (σ.now : Int), .int .u64 (IntKind.wrap .u64 x.ja)] g λv g' => ∃ t, v = .int .u64 t ∧ K t g' := λhK => by
    rw [eT]; exact Hv σ.now x.ja.toNat E.G.n (by omega) ⟨_, rfl, hK⟩
  refine ⟨_, cB PJ rfl, ax.2 ⟨_, cB E2.H.di rfl, iT x.ep PJ rfl rfl rfl rfl rfl ⟨_, cB PJ rfl, _, cB PJ rfl, ax.2 ⟨_, cB E2.H.di rfl, _, cB PJ rfl, ⟨?_, ?_, trivial⟩⟩⟩⟩⟩
  · refine un ⟨(Fr.refl (λ_ => False) _).kp, ?_, ?_, trivial⟩
    · exact BE E2.H E.G E.hk x.ep (R0 σ x) λS e VH L => ⟨(by obtain ⟨_, _, _, st, _⟩ := _root_.id L; exact EU st.fr VM (by simp)), aR.cW λb2 Xj Xk VN f13 => ⟨f13.kp, aR.gX (x := S) VN λWn d14 f14 _ => fin h2 VH Wn S e b2 L (Fr.refl _ _) (by obtain ⟨_, _, _, st, _⟩ := _root_.id L; have := st.fr.1; omega) (.inr (by omega)) d14 (Fr.no f13 f14)⟩⟩
    · refine aR.cW λb3 S0 WW Us f15 => ⟨f15.kp, BE (E2.H.on f15) E.G E.hk x.ep (R0 σ x) λS e VO L => ?_⟩
      have WX := f15.1
      have VP := aA Us
      exact ⟨(by obtain ⟨_, _, _, st, _⟩ := _root_.id L; exact EU st.fr VM (by simp)), aR.gX (x := S) (by obtain ⟨_, _, _, st, _⟩ := _root_.id L; exact st.fr.get Us (E.nM (by omega))) λVQ d17 f17 _ => fin S0 VO VQ S e b3 L f15 (by omega) (.inl VP) d17 f17⟩
  · refine aR.cW λb3 S0 WW Us f15 => ⟨f15.kp, un ⟨(Fr.refl (λ_ => False) _).kp, BE (E2.H.on f15) E.G E.hk x.ep (R0 σ x) λS e VO L => ?_⟩⟩
    have WX := f15.1
    have VP := aA Us
    exact ⟨(by obtain ⟨_, _, _, st, _⟩ := _root_.id L; exact EU st.fr VM (by simp)), aR.gX (x := S) (by obtain ⟨_, _, _, st, _⟩ := _root_.id L; exact st.fr.get Us (E.nM (by omega))) λVQ d17 f17 _ => fin S0 VO VQ S e b3 L f15 (by omega) (.inl VP) d17 f17⟩
theorem Bf(E:En V h0 h s X I σ k)(n:aq.fD h bo (y0 id))(O: ¬(X.M bo\/X.D bo))(f: ∀h' X',Pt h' s X' I (xI σ ses x.on).σ->gJ X h bo id (xI σ ses x.on) X' h'->R (.I (xI σ ses x.on).e) h'):
  Cl 105 #[(x.as p c s ses).agg,.P bo 0] h R:=by
 refine yY.walk (ck.cW (x:=x.as p c s ses) λb h1 eb d G=> ?_);have v:=E.on G;have t: ¬X.M bo:=λe=>O (.inl e)
 have zo:=aA n;have u: ¬X.M b:=E.nM ag;obtain⟨Z,r,zm,zd,go⟩:=v.H.use 0;unfold xI at f;refine⟨_,au d,ax.2 ⟨_,au v.H.di,_,au d,_,au d,fu.Bf r E.G.a λJ Z2 T2 s2=> ?_⟩⟩;obtain⟨A,j,l,i',j'⟩:=go J Z2 { σ with A:=fu.kh σ.A ses x.on } T2 s2 (λe' o=>dK.sc _ o);refine⟨_,rfl,EU l.fr u bU,aG.of λg' L=> ?_⟩;have a':=bw.no G l;by_cases H:fu.xx σ.A ses=0
 case neg=>
  rw[ae H]at f;rw[ae (cR H)];subst L;have eA:fu.kh σ.A ses x.on=σ.A:=by
   unfold fu.xx at H;unfold fu.kh;cases hs:fu.nV σ.A ses with
   |none=>rfl
   |some z=>rw[hs]at H;exact absurd rfl H
  rw[eA]at j;exact f J A j (gJ.bad n t a')
 rw[af H]at f;rw[af (by rw[H];rfl)];have M:=l.fr.get d u;have f': ¬A.M b:=λq=>by
  rcases l.hN b q with a|a
  .exact u a
  .have:=aA d;omega
 obtain⟨Z3,d',m',l',b'⟩:=j.use 0;refine⟨_,au M,ax.2 ⟨_,au j.di,_,au M,fu.vO d' (E.G.a.watch ses x.on) λh4 Z4 P C T4 s4 T=> ?_⟩⟩;obtain⟨m,w,U,B,k'⟩:=b' h4 Z4 { σ with A:=fu.Dm (fu.kh σ.A ses x.on) ses } T4 s4 (λe' o=>dK.sc (σ:= { σ with A:=fu.kh σ.A ses x.on }) _ o);have S:=a'.trans U;refine⟨_,_,_,_,_,rfl,EU U.fr f' bU,?_⟩;have c':=S.fr.get n t;refine iG (z:=⟨id,0,0,0,0,P,(fu.Dk (fu.kh σ.A ses x.on) ses).length,C⟩) c' dS rfl λh5 d5 f5=>iG (z:=⟨id,0,0,fu.Ku (fu.kh σ.A ses x.on) ses,0,P,(fu.Dk (fu.kh σ.A ses x.on) ses).length,C⟩) d5 dS rfl λh6 d6 f6=> ?_
 subst L;have F:=f5.tt f6;have Q: ∀y,m.M y\/m.D y->y≠bo:=λy i e=>by
  rcases i with a|a
  .rcases S.hN y a with a|a
   .exact t (e▸a)
   .omega
  .rcases S.ji y a with a|a
   .exact O (.inr (e▸a))
   .omega
 refine f h6 m (w.frame F (λy i e=>Q y i e)) (gJ.of S F ⟨_,d6,λ_=>⟨P,C,rfl,?_,λhd z r=> ?_⟩⟩)
 .have:=BV.ok.frame T F (λy i e=>Q y (.inr (B y i)) e);exact this.row
 .have K:=B z (T.own hd z r);exact⟨(S.ji z K).symm,λq=>w.vx z q K⟩

end Ask
end
section
namespace Ask
open jG (Ev dt)
open dK (SS Good Pt oN Mk)
open Bn (jm hU iT AE Eh mq Prim nz yd iX BB jN kW rN mA)
variable {V:cG→Bool} {h H f g:ai} {R:fO} {s k c:Nat} {X b:Ft} {I:oN} {a:SS} {p:ct} {ses:Int} {x:Rq} {D:Nat→Prop}
variable {K:ak.S->Int->ai->Prop} {d:cG} {q:ct} {C:Nat}
def NX(a:SS)(i j:jm)(e:Int):Prop:=(e=0/\∃n,qu a=some n/\i=⟨a.e,n.1,n.2⟩/\j=⟨a.e,n.1,n.2⟩)\/(e=5/\qu a=none)
theorem HC(e:Pt g s X I a){K:ah.S->ai->Prop}(i: ∀G,Fr No g G->K (⟨a.e,a.tm,a.sq⟩:jm).s G):Cl 182 #[pt I.k] g λv G=>ah.EX λt=>v=t.agg/\K t G:=
 dK.KC (Pt.mk' e) λG F=>ah.ex (⟨a.e,a.tm,a.sq⟩:jm).s ⟨rfl,i G F⟩
theorem si(r:Pt g s X I a)(G:dK.Good a k){K:ah.S->ah.S->Int->ai->Prop}(l: ∀i m o e,NX a m o e->Fr No g i->K m.s o.s e i):
  Cl 141 #[pt s,a.e.s.agg] g λv i=>ah.EX λt=>ah.EX λT=> ∃e,v=.T #[t.agg,T.agg,.I e]/\K t T e i:=
 vR r G a.e (λn j i F=>ah.ex (⟨a.e,n.1,n.2⟩:jm).s (ah.ex (⟨a.e,n.1,n.2⟩:jm).s ⟨_,rfl,l i _ _ 0 (.inl ⟨rfl,n,j,rfl,rfl⟩) F⟩)) (λj i F=>ah.ex (⟨a.e,0,0⟩:jm).s (ah.ex jm.zero.s ⟨_,rfl,l i _ _ 5 (.inr ⟨rfl,j⟩) F⟩))
theorem Ut(E:En V f g s X I a k)(P:Prim)(n:Nat×Nat)(w:P.wf)(m: ∀G (i:mq) q j l e,((e=0/\mA V ⟨false,true,false,0,a.now,P.id⟩ P.rep ⟨a.e,n.1,n.2⟩ P.fT=some i/\i.p.wf/\i.bl.length=1/\(∀y∈i.bl,y.data.length<=80000)/\iX G (λy=>g.size<=y) i.bl q i.bl.length j l)\/(e=3/\mA V ⟨false,true,false,0,a.now,P.id⟩ P.rep ⟨a.e,n.1,n.2⟩ P.fT=none))->Fr No g G->K (i.s q j) e G):
  Cl 188 #[(⟨false,true,false,0,a.now,P.id⟩:yd).s.agg,P.rep.s.agg,(⟨a.e,n.1,n.2⟩:jm).s.agg,.U (P.fT:Int)] g λv G=>ak.EX λt=> ∃e,v=.T #[t.agg,.I e]/\K t e G:=
 Bn.MQ ⟨false,true,false,0,a.now,P.id⟩ P.rep ⟨a.e,n.1,n.2⟩ P.fT w.2.2 w.2.1 E.G.e.2.2 E.U E.u.fr E.SY
  (λi o u J r G q j l B F=>ak.ex (i.s q j) ⟨_,rfl,m G i q j l 0 (.inl ⟨rfl,o,J,u,(λy A=>bW (r y A)),B⟩) F⟩)
  (λz G F=>ak.ex (mq.s ⟨.zero, []⟩ none 0) ⟨_,rfl,m G ⟨.zero, []⟩ none 0 [] 3 (.inr ⟨rfl,z⟩) F⟩)
theorem Uu(E:En V f g s X I a k)(r:Row g q (bc d))(cap:d.length<=C)(m: ∀G (i:mq) Q j e,i.p.wf->(ym i.p=false->nP V a ses d=(a,0))->(ym i.p=true->kW V d=.ok i)->Fr No g G->K (i.s Q j) e G):
  Cl 74 #[.L q d.length C] g λv G=>ak.EX λt=> ∃e,v=.T #[t.agg,.I e]/\K t e G:=
 Bn.zx E.U E.u.fr E.SY r rfl cap
  (λi n w u y G Q j A B F=>ak.ex (i.s Q j) ⟨_,rfl,m G i Q j 0 w (λl=>by unfold nP;rw[n];dsimp only;rw[ae (by rw[l];decide)]) (λ_=>n) F⟩)
  (λe o z G F=>ak.ex (mq.s ⟨.zero, []⟩ none 0) ⟨_,rfl,m G ⟨.zero, []⟩ none 0 e ⟨eh 0,eh 0,eh 0⟩ (λ_=>by unfold nP;rw[o]) (λl=>absurd l (by rw[show ym Prim.zero=false by kernel_rfl];decide)) F⟩)
theorem Rm{k':Nat}(E:En V f h s X I a k)(u':Row h q (bc d))(hl:k'=d.length)(cap:d.length<=C)(Z: ∀H b,Pt H s b I (nP V a ses d).1->bw X h b H->R (.I (nP V a ses d).2) H):
  Cl 153 #[(x.as p c s ses).agg,.L q k' C] h R:=by
 subst hl;refine BA.walk (ck.cW (x:=x.as p c s ses) λb' h1 eb s' f1=> ?_);refine Uu (ses:=ses) (E.on f1) (u'.frame f1 bX) cap λh2 J q' L e0 l' w' x' f2=>ak.fK (x:=J.s q' L) λb3 h4 y' t' f4=>Bn.UO t' (aE.fK (x:=J.p.s) λb4 h6 z' d' f6=>aG.of λm' hJ=> ?_)
 have F6:=f1.tt (f2.tt (f4.tt f6));have F:=E.on F6;have c':=(f2.tt (f4.tt f6)).get s' id;have dn: ∀g,Fr No h g->nP V a ses d=(a,0)->R (.I 0) g:=λg T e=>by rw[e]at Z;exact Z g X (E.H.on T) (bw.gT T)
 have key: ∀h',h'= !ym J.p->m' h' h6:=by
  intro h' hv;subst hv;subst hJ;dsimp only;cases ht:ym J.p with
  |false=>rw[gi];exact dn h6 F6 (w' ht)
  |true=>
  rw[dy];have f':=x' ht;refine aG.of λJ1 p'=> ?_
  have o': ∀(g:ai)(P Q:Nat)(o r:jm)(e:Int),NX a o r e->ah.fD g P o.s->ah.fD g Q r.s->Fr No h6 g->J1 (Sa P 0) (Sa Q 0) e g:=by
   intro g P Q o r e v hi hw T;subst p';dsimp only;rcases v with⟨rfl,n,hn,rfl,rfl⟩|⟨rfl,hn⟩
   case inr=>
    rw[gi];exact dn g (F6.tt T) (by unfold nP;rw[f'];dsimp only;rw[af ht,hn])
   rw[dy];have Eg:=F.on T;have j':=T.get c' id;have e':=T.get d' id;refine aG.of λJ2 r'=> ?_
   have i': ∀(g5:ai)(m:mq)(q:ct)(L:Nat)(xs:List BB)(D:Nat->Prop)(br:Nat)(e:Int),((e=0/\mA V ⟨false,true,false,0,a.now,J.p.id⟩ J.p.rep ⟨a.e,n.1,n.2⟩ J.p.fT=some m/\m.p.wf/\m.bl.length=1/\(∀y∈m.bl,y.data.length<=80000)/\iX g5 D m.bl q m.bl.length L xs)\/(e=3/\mA V ⟨false,true,false,0,a.now,J.p.id⟩ J.p.rep ⟨a.e,n.1,n.2⟩ J.p.fT=none))->
     ak.fD g5 br (m.s q L)->Fr No g g5->J2 e (Sa br 0) g5:=by
    intro g5 m q L xs D br e sp hr f5;subst r';dsimp only;rcases sp with⟨rfl,hs,wb,hl,hd,B⟩|⟨rfl,hs⟩
    case inr=>
     rw[gi];exact dn g5 (F6.tt (T.tt f5)) (by unfold nP;rw[f'];dsimp only;rw[af ht,hn];dsimp only;rw[hs])
    rw[dy];refine ck.fz (x:=x.as p c s ses) (f5.get j' id) (ax.2 (ak.fz (x:=m.s q L) hr (ax.2 (ah.fz (x:=(⟨a.e,n.1,n.2⟩:jm).s) (f5.get hw id) (KD (b:=m) (x:=x) (p:=p) (c:=c) (ses:=ses) (Eg.on f5) wb B ag hd hn λh9 X9 H9 v'=>⟨_,_,_,rfl,?_⟩)))));have eQ:nP V a ses d=((nO V a ses m n).σ,if(nO V a ses m n).e=0 then 1 else 0):=by unfold nP;rw[f'];dsimp only;rw[af ht,hn];dsimp only;rw[hs]
    rw[eQ]at Z;have Z:=Z h9 X9 H9 (bw.no (F6.tt (T.tt f5)) v');by_cases c0:(nO V a ses m n).e=0
    .rw[ae (cR c0)];rw[af c0]at Z;exact Z
    .rw[af (cR c0)];rw[ae c0]at Z;exact Z
   refine⟨_,au j',ax.2 ⟨_,au Eg.H.di,AE J.p.id e' rfl rfl rfl rfl rfl rfl rfl (iT J.p.rep e' rfl rfl rfl rfl rfl (ax.2 (ah.fz (x:=(⟨a.e,n.1,n.2⟩:jm).s) hi ⟨_,au e',?_,?_,trivial⟩)))⟩⟩
   .refine Ut Eg J.p n l' λG m q L xs e sp u=>⟨u.kp,ak.cW λbr g3 er hr j=>⟨j.kp,ak.gX (x:=m.s q L) hr λA d4 i _=> ?_⟩⟩
    have U4:Fr No G A:=j.fresh i (λy e=>ag);refine i' A m q L xs (λy=>g.size<=y) br e ?_ d4 (u.tt U4);rcases sp with⟨a1,a2,a3,a4,a5,a6⟩|a'
    .exact .inl ⟨a1,a2,a3,a4,a5,a6.on U4⟩
    .exact .inr a'
   .refine ak.cW λbr g3 er hr j=>⟨j.kp,Ut (Eg.on j) J.p n l' λG m q L xs e sp u=>⟨u.kp,ak.gX (x:=m.s q L) (u.get hr id) λA d4 i _=> ?_⟩⟩
    have zr:=aA hr;have U4:Fr No g A:=(j.tt u).fresh i (λy e=>ag);refine i' A m q L xs (λy=>g3.size<=y) br e ?_ d4 U4;rcases sp with⟨a1,a2,a3,a4,a5,a6⟩|a'
    .exact .inl ⟨a1,a2,a3,a4,a5,a6.frame i (λy hy e=>ag)⟩
    .exact .inr a'
  have M: ∀(g:ai)(P Q:Nat)(y1 y2:ah.S)(o r:jm)(e:Int),NX a o r e->ah.fD g P y1->ah.fD g Q y2->P≠Q->h6.size<=P->h6.size<=Q->Fr No h6 g->
    ah.du g (AA P 0) o.s λg1=>ah.du g1 (AA Q 0) r.s λG=>J1 (Sa P 0) (Sa Q 0) e G:=by
   intro g P Q y1 y2 o r e v hi hw ne zi zw T;exact ah.gX (x:=o.s) hi λg1 d1 U _=>ah.gX (x:=r.s) (U.get hw ne.symm) λG d2 u _=>o' G P Q o r e v (u.get d1 ne) d2 ((T.fresh U (λy e=>ag)).fresh u (λy e=>ag))
  have O: ∀{g:ai}{b':Nat}{y:ah.S},ah.fD g b' y->b'<g.size:=λh=>aA h
  have l: ∀{g g':ai},Fr No g g'->g.size<=g'.size:=λn'=>n'.1
  refine⟨_,au c',_,au c',ax.2 ⟨_,au F.H.di,?_,?_,?_,trivial⟩⟩
  .refine HC F.H λg1 U=>⟨U.kp,?_,?_,?_,trivial⟩
   .refine si (F.H.on U) E.G λG o r e v u=>⟨u.kp,?_,?_,trivial⟩
    .exact ah.cW λm g3 e5 t j=>⟨j.kp,ah.cW λw A S z i=>⟨i.kp,M A m w _ _ o r e v (i.get t id) z (bW (O t)) (iJ (l U) (l u)) (sQ (l U) (l u) (l j)) (U.tt (u.tt (j.tt i)))⟩⟩
    .exact ah.cW λm g3 e5 t j=>⟨j.kp,ah.cW λw A S z i=>⟨i.kp,M A w m _ _ o r e v z (i.get t id) (bW (O t)) (sQ (l U) (l u) (l j)) (iJ (l U) (l u)) (U.tt (u.tt (j.tt i)))⟩⟩
   .refine ah.cW λm g3 e5 t j=>⟨j.kp,?_,?_,trivial⟩
    .exact si (F.H.on (U.tt j)) E.G λG o r e v u=>⟨u.kp,ah.cW λw A S z i=>⟨i.kp,M A m w _ _ o r e v ((u.tt i).get t id) z (iJ (O t) (l u)) (bW (l U)) (sQ (l U) (l u) (l j)) (U.tt (j.tt (u.tt i)))⟩⟩
    .exact ah.cW λw A S z i=>⟨i.kp,si (F.H.on (U.tt (j.tt i))) E.G λG o r e v u=>⟨u.kp,M G m w _ _ o r e v ((i.tt u).get t id) (u.get z id) (bW (O t)) (bW (l U)) (iJ (l U) (l j)) (U.tt (j.tt (i.tt u)))⟩⟩
   .refine ah.cW λm g3 e5 t j=>⟨j.kp,?_,?_,trivial⟩
    .exact si (F.H.on (U.tt j)) E.G λG o r e v u=>⟨u.kp,ah.cW λw A S z i=>⟨i.kp,M A w m _ _ o r e v z ((u.tt i).get t id) (iJ (O t) (l u)) (sQ (l U) (l u) (l j)) (bW (l U)) (U.tt (j.tt (u.tt i)))⟩⟩
    .exact ah.cW λw A S z i=>⟨i.kp,si (F.H.on (U.tt (j.tt i))) E.G λG o r e v u=>⟨u.kp,M G w m _ _ o r e v (u.get z id) ((i.tt u).get t id) (bW (O t)) (iJ (l U) (l j)) (bW (l U)) (U.tt (j.tt (i.tt u)))⟩⟩
  .refine ah.cW λm g3 e5 t j=>⟨j.kp,?_,?_,trivial⟩
   .refine HC (F.H.on j) λg1 U=>⟨U.kp,?_,?_,trivial⟩
    .exact si (F.H.on (j.tt U)) E.G λG o r e v u=>⟨u.kp,ah.cW λw A S z i=>⟨i.kp,M A m w _ _ o r e v ((U.tt (u.tt i)).get t id) z (sQ (O t) (l U) (l u)) ag (sQ (l U) (l u) (l j)) (j.tt (U.tt (u.tt i)))⟩⟩
    .exact ah.cW λw A S z i=>⟨i.kp,si (F.H.on (j.tt (U.tt i))) E.G λG o r e v u=>⟨u.kp,M G m w _ _ o r e v ((U.tt (i.tt u)).get t id) (u.get z id) (iJ (O t) (l U)) ag (iJ (l U) (l j)) (j.tt (U.tt (i.tt u)))⟩⟩
   .exact ah.cW λw A S z i=>⟨i.kp,HC (F.H.on (j.tt i)) λg1 U=>⟨U.kp,si (F.H.on (j.tt (i.tt U))) E.G λG o r e v u=>⟨u.kp,M G m w _ _ o r e v ((i.tt (U.tt u)).get t id) ((U.tt u).get z id) (bW (O t)) ag (bW (l j)) (j.tt (i.tt (U.tt u)))⟩⟩⟩
  .refine ah.cW λm g3 e5 t j=>⟨j.kp,?_,?_,trivial⟩
   .refine HC (F.H.on j) λg1 U=>⟨U.kp,?_,?_,trivial⟩
    .exact si (F.H.on (j.tt U)) E.G λG o r e v u=>⟨u.kp,ah.cW λw A S z i=>⟨i.kp,M A w m _ _ o r e v z ((U.tt (u.tt i)).get t id) (sQ (O t) (l U) (l u)) (sQ (l U) (l u) (l j)) ag (j.tt (U.tt (u.tt i)))⟩⟩
    .exact ah.cW λw A S z i=>⟨i.kp,si (F.H.on (j.tt (U.tt i))) E.G λG o r e v u=>⟨u.kp,M G w m _ _ o r e v (u.get z id) ((U.tt (i.tt u)).get t id) (iJ (O t) (l U)) (iJ (l U) (l j)) ag (j.tt (U.tt (i.tt u)))⟩⟩
   .exact ah.cW λw A S z i=>⟨i.kp,HC (F.H.on (j.tt i)) λg1 U=>⟨U.kp,si (F.H.on (j.tt (i.tt U))) E.G λG o r e v u=>⟨u.kp,M G w m _ _ o r e v ((U.tt u).get z id) ((i.tt (U.tt u)).get t id) (bW (O t)) (bW (l j)) ag (j.tt (i.tt (U.tt u)))⟩⟩⟩
 refine⟨_,au d',?_⟩;split
 .rename_i c0;exact key true (by have:EP (J.p.fl:Int) 131072=true:=c0;unfold ym;rw[this];rfl)
 .rename_i c0;refine⟨_,au d',key _ ?_⟩;have:EP (J.p.fl:Int) 131072=false:=by
   cases hh:EP (J.p.fl:Int) 131072 with
   |true=>exact absurd hh c0
   |false=>rfl
  unfold ym;rw[this];rfl

end Ask
end
section
namespace Ask
open jG (Ev dt)
open dK (SS Good Pt oN Mk)
open gY (CV EN hY)
variable {V:cG→Bool} {h H f g:ai} {R:fO} {s k b r c:Nat} {X d:Ft} {I:oN} {a:SS} {p:ct} {S:Int} {x:Rq} {D:Nat→Prop} {o:Ot}
variable {y:List CV}
theorem nC{B n m:Nat}{q:ct}(o:Own h q y.length m 10 (y.flatMap EN))(M:n=y.length)(Z:y.length<=1000000)(C:ck.fD h B (x.as p c s S)) (L: ∀H,Fr No h H->R (.I (idxOf (λi:CV=>decide ((i.num:Int)=x.num)) y)) H):
  Cl 151 #[.L q n m,.func (.func 152) #[] #[.P B 0]] h R:=by
 refine jx.Vw.walk (rF (λi:CV=>decide ((i.num:Int)=x.num)) (λt g K=>((0:Int)<=t/\t<(n:Int))/\aN q λA=>aR.cC g (A.add (Int.toNat t*10)) λT=>
  Cl 152 #[T.agg,.P B 0] g λv G=> ∃t,v=.B t/\K t G) M ag (λj U i K w F z=> ?_) L)
 have lt:=(az.1 w).1;have O:=o.frame F bX;obtain⟨pb,po,rfl⟩:=O.addr ag;have J:=O.gB hY w;refine⟨ag,ax.2 (aR.jQ (x:=⟨(i.num:Int),i.e.lE,i.e.node,i.e.gL,i.e.host,i.e.jZ,i.v.p,i.v.b.length,i.v.c,(i.fS:Int),i.ses,(i.dl:Int)⟩) (by rw[aH];exact J) (yX.walk (aR.cW λP u Q E l=>⟨_,au E,_,au ((F.tt l).get C id),_,rfl,?_⟩)))⟩;have e:((i.num:Int)==x.num)=decide ((i.num:Int)=x.num):=by by_cases q:(i.num:Int)=x.num<;>simp[q]
 show K ((i.num:Int)==x.num) u;rw[e];exact z u (F.tt l)
theorem PK{num:Int}{z:gY.Cp}(h:gY.yT (y.map CV.abs) num=some z): ∃(i:Nat)(e:CV),idxOf (λe:CV=>decide ((e.num:Int)=num)) y=(i:Int)/\y[i]? =some e/\e.abs=z:=by
 unfold gY.yT at h;rw[List.find?_map]at h;obtain⟨e,l,rfl⟩:=Option.map_eq_some_iff.1 h;have l:y.find? (λe:CV=>decide ((e.num:Int)=num))=some e:=l;obtain⟨n,i,m,rfl,q⟩:=fP.1 l;refine⟨i,y[i],?_,aj m,rfl⟩;have:y.findIdx? (λe:CV=>decide ((e.num:Int)=num))=some i:=cj.2 ⟨m,n,λj t=>cR (q j t)⟩;unfold idxOf;rw[this]
theorem Jo(E:En V f h s X I a k)(g':k+1<=30000)(T:aq.fD h b (y0 r))(nb: ¬(X.M b\/X.D b))(n: ∀H d,Pt H s d I (ME V a S x.num).σ->gJ X h b r (ME V a S x.num) d H->R (.I (ME V a S x.num).e) H):
  Cl 103 #[(x.as p c s S).agg,.P b 0] h R:=by
 refine Cr.walk (ck.cW (x:=x.as p c s S) λd' h1 eb a' M=> ?_);have C:=E.on M;have U: ¬X.M b:=λe=>nb (.inl e)
 have zo:=aA T;have c': ¬X.M d':=E.nM ag;obtain⟨Z,t,zm,zd,go⟩:=C.H.use 2;have sm:=E.G.small E.H.ord (bW E.hk);have z1:=M.1;refine⟨_,au a',ax.2 ⟨_,au C.H.di,gY.Kz t sm (λz t=>(E.G.c.ok.bd z t).2.2) λh2 q2 c2 y o2 a2 r2 n2 O=>⟨_,_,_,rfl,?_⟩⟩⟩;have E2:=C.on O;have w:=O.get a' id;obtain⟨Z,t,zm,zd,go⟩:=E2.H.use 2;have hG:=E.G.c;refine⟨_,au w,ax.2 ⟨_,au E2.H.di,_,au w,_,au w,gY.Jo t sm (iJ hG.L E.hk) x.num S λh3 Z3 C3 s3=> ?_⟩⟩;obtain⟨X3,H3,u,k',l'⟩:=go h3 Z3 { a with C:=gY.tG a.C x.num S } C3 s3 (λi hi=>dK.xF _ hi);refine⟨_,rfl,EU u.fr c' bU,?_⟩;have new: ∀j,h1.size<=j->¬X.M j:=λj m=>E.nM ag
 have o3:=o2.frame u.fr (λj m=>new j (n2 j m));have b':=u.fr.get w c';have F2:=M.tt O;have ll:y.length<=30000:=by
  have K:=cf List.length a2;rw[aD]at K;have v:=hG.L;have e3:=E.hk;omega
 refine nC o3 rfl ag b' λh4 F=>⟨_,rfl,?_⟩
 have st:=(bw.no F2 u).on F;have G:=H3.on F;refine aG.of λj' P=> ?_
 unfold ME at n;by_cases l:gY.lF a.C.L x.num S=0
 case neg=>
  rw[ae l]at n;rw[ae (cR l)];subst P;dsimp only;refine aG.of λJ1 Q=> ?_
  rw[dy];subst Q;have eC:gY.tG a.C x.num S=a.C:=by unfold gY.tG;rw[ae l]
  rw[eC]at G;exact n h4 X3 G (gJ.bad T U st)
 rw[af l]at n;rw[af (by rw[l];rfl)];cases q:gY.yT a.C.L x.num with
 |none=>unfold gY.lF at l;rw[q]at l;cases l
 |some z=>
  rw[q]at n;dsimp only at n;rw[<-a2]at q;obtain⟨i,j,K,v,e3⟩:=PK q;rw[K]at P⊢;subst P;dsimp only;refine aG.of λJ1 Q=> ?_
  rw[gi];have hi:=(az.1 v).1;have o4:=o3.frame F bX;obtain⟨pb,po,rfl⟩:=o4.addr ag;have hh:=o4.gB hY v;have e':=F.get b' id;have ry:=((r2 j (aZ v)).frame u.fr (λj m=>new j m)).frame F bX;have L:z.d=j.v.b:=by rw[<-e3];rfl
  have G4:dK.Good { a with C:=gY.tG a.C x.num S } (k+1):=Good.Ui E.G E.H.ord E.hk ⟨2,x.num,S,.zero,none,0, [],0⟩ (eh 0);have c2: ∀g,dN (((AA pb po):Addr).add (i*10)) (EN j) 0 g->aU g ((((AA pb po):Addr).add (Int.toNat (i:Int)*10)).add 6)=some j.v.val:=λg q=>by
   rw[aH];exact q.2.2.2.2.2.2.1
  have E4:En V f h4 s X3 I { a with C:=gY.tG a.C x.num S } (k+1):=E.step G st G4 g';refine ck.fz (x:=x.as p c s S) e' ⟨ag,ax.2 ⟨_,_,_,c2 _ hh,Rm (ses:=S) (x:=x) (p:=p) (c:=c) (d:=z.d) E4 (by rw[L];exact ry.row) (by rw[L]) (by rw[L];exact ry.cap) λh5 J H5 i'=>⟨_,rfl,?_⟩⟩⟩;have B:=st.trans i';have f':=B.fr.get T U;refine iG (z:=⟨r,0,0,(nP V { a with C:=gY.tG a.C x.num S } S z.d).2,0,none,0,0⟩) f' dS rfl λh6 d6 f6=> ?_
  subst Q;dsimp only;rw[l];have h': ∀j,J.M j\/J.D j->j≠b:=λj m e=>by
   rcases m with A|A
   .rcases B.hN j A with A|A
    .exact U (e▸A)
    .omega
   .rcases B.ji j A with A|A
    .exact nb (.inr (e▸A))
    .omega
  exact n h6 J (H5.frame f6 (λj m e=>h' j m e)) (gJ.of B f6 ⟨_,d6,λ_=>⟨none,0,rfl,Row.nil,λe=>absurd rfl e⟩⟩)

end Ask
end
section
variable {h:ai} {R:fO}
variable {x X a b c:Int} {g S:ct} {f d s i:Nat}
theorem JH.walk{A:Int}{j:Int}{k:Int}{l:Int}{m:Int}{p:ct}{o n:Nat}{q:Int}{B:Int}{r:Int}{t:Int}{u:Int}{y:ct}{w v:Nat}(J:bf h (.C #[.U A,.I j,.I k,.I l,.U m,.L p o n] 40) λe G=>bf G (.C #[.U q,.I B,.I r,.I t,.U u,.L y w v] 40) λB H=>Hu H e 0 λt6=> ∃F,Cc H B 0 (.U F)/\if(t6==F)then Hi H e 1 λK=> ∃T,Cc H B 1 (.I T)/\if(K==T)then Hi H e 2 λL=> ∃z,Cc H B 2 (.I z)/\if(L==z)then Hi H e 3 λM=> ∃C,Cc H B 3 (.I C)/\if(M==C)then Hu H e 4 λO=> ∃D,Cc H B 4 (.U D)/\if(O==D)then Hl H e 5 λU Q P=>Hl H B 5 λa' Z V=>Cl 35 #[.L U Q P,.L a' Z V] H λb' I=> ∃E,b'=.B E/\R (.B E) I else R (.B false) H else R (.B false) H else R (.B false) H else R (.B false) H else R (.B false) H):Cl 28 #[.agg #[.U A,.I j,.I k,.I l,.U m,.L p o n],.agg #[.U q,.I B,.I r,.I t,.U u,.L y w v]] h R:=aS [] Tryz.func28 J
theorem JI.walk{id:Int}{e:Int}(k:bf h (.C #[.U 0,.I 0,.I 0,.I 0,.U 0,.Z] 40) λB j=>aq.ST j (AA B 0) id e 0 0 0 none 0 0 λH=>aq.LD H (AA B 0) λr l m n o t q p=>R (.agg #[.U r,.I l,.I m,.I n,.U o,.L t q p]) H):Cl 18 #[.U id,.I e] h R:=aS [] Tryz.func18 k
theorem E0.walk{e:ct}{L l:Nat}(j:Cl 177 #[.L e L l,.func (.func 178) #[] #[]] h λv H=> ∃t,v=.B t/\R (.B (!t)) H):Cl 135 #[.L e L l] h R:=aS [] Tryz.func135 j
theorem BF.walk{n:Int}(H:if(decide (n<0))then R (.B true) h else R (.B (decide (n>1099511627776))) h):Cl 178 #[.I n] h R:=aS [] Tryz.func178 H
theorem HD.walk (U:bf h (.C #[.U x,.I X,.I a,.I b,.U c,.L g f d] 40) λB H=>aG (λ(t3:Bool) (e:ai)=>if t3 then R (.B false) e else∃n,Cc e B 1 (.I n)/\if(n !=0)then aq.LD e (AA B 0) λo p q r u y w v=>Hu e B 0 λc'=>Hi e B 1 λd'=>Cl 18 #[.U c',.I d'] e λe' k=> ∃z A C D E I G F,e'=.agg #[.U z,.I A,.I C,.I D,.U E,.L I G F]/\dN (AA B 0) [.U o,.I p,.I q,.I r,.U u,.L y w v] 0 k/\Cl 28 #[.agg #[.U o,.I p,.I q,.I r,.U u,.L y w v],.agg #[.U z,.I A,.I C,.I D,.U E,.L I G F]] k λf' P=> ∃K,f'=.B K/\R (.B K) P else R (.B true) e) (λJ=> ∃L,Cc H B 0 (.U L)/\if(decide (L>1099511627776))then J true H else∃M,Cc H B 1 (.I M)/\if(decide (M<0))then J true H else∃t,Cc H B 1 (.I t)/\if(decide (t>99))then J true H else Hi H B 2 λV=>Hi H B 3 λZ=>bf H (.C #[.I V,.I Z] 3) λO Q=>Cl 135 #[.L (Sa O 0) 2 2] Q λg' j=> ∃T,g'=.B T/\if(!T)then J true j else∃l,Cc j B 4 (.U l)/\if(decide (l>2147483648))then J true j else∃b' m a',Cc j B 5 (.L b' m a')/\J (decide (((m:Nat):Int)>600)) j)):Cl 93 #[.agg #[.U x,.I X,.I a,.I b,.U c,.L g f d]] h R:=aS [(5,.join [(3,.one (.bool))]),(14,λ_=>pN 8)] Tryz.func93 U
theorem HE.walk(F:bf h (.C #[.U x,.I X,.I a,.I b,.U c,.L g f d] 40) λB u=>aq.LD u (AA B 0) λO P Q U V b' a' Z=>Cl 93 #[.agg #[.U O,.I P,.I Q,.I U,.U V,.L b' a' Z]] u λc' H=> ∃A,c'=.B A/\if(!A)then R (.T #[.Z,.I 3]) H else Hu H B 0 λC=>Hi H B 1 λr=>Hi H B 2 λp=>Hi H B 3 λn=>Hu H B 4 λl=>Hl H B 5 λj T t=>Cl 106 #[] H λd' e=>Vp d' λt7=>Cc e B 5 (.L j T t)/\Cc e B 4 (.U l)/\Cc e B 3 (.I n)/\Cc e B 2 (.I p)/\Cc e B 1 (.I r)/\Cc e B 0 (.U C)/\Cl 107 #[.pointer t7,.U C] e λe' k=>Vp e' λG=>Cc k B 5 (.L j T t)/\Cc k B 4 (.U l)/\Cc k B 3 (.I n)/\Cc k B 2 (.I p)/\Cc k B 1 (.I r)/\Cl 108 #[.pointer G,.I r] k λf' m=>Vp f' λI=>Cc m B 5 (.L j T t)/\Cc m B 4 (.U l)/\Cc m B 3 (.I n)/\Cc m B 2 (.I p)/\Cl 108 #[.pointer I,.I p] m λg' o=>Vp g' λJ=>Cc o B 5 (.L j T t)/\Cc o B 4 (.U l)/\Cc o B 3 (.I n)/\Cl 108 #[.pointer J,.I n] o λh' q=>Vp h' λK=>Cc q B 5 (.L j T t)/\Cc q B 4 (.U l)/\Cl 107 #[.pointer K,.U l] q λi' v=>Vp i' λL=>Cc v B 5 (.L j T t)/\Cl 109 #[.pointer L,.L j T t] v λj' E=>Vp j' λM=>Cl 110 #[.pointer M] E λk' D=> ∃z y w,k'=.L z y w/\R (.T #[.L z y w,.I 0]) D):Cl 72 #[.agg #[.U x,.I X,.I a,.I b,.U c,.L g f d]] h R:=aS [(11,λ_=> .qT (.op 1 (.op 2 (.op 4 (.op 5 (.op 7 (.op 8 (.op 10 (.op 11 (.op 13 (.op 14 (.op 16 (.op 17 (.op 0 (.op 3 (.op 6 (.op 9 (.op 12 (.op 15 (.op 18 (.op 19 (.op 20 (.op 21 .done)))))))))))))))))))))))] Tryz.func72 F
theorem JJ.walk{m:ct}{l k:Nat}(F:bf h (.C #[.U 0,.I 0,.I 0,.I 0,.U 0,.Z] 40) λB q=>Cl 88 #[.L m l k] q λD' v=>Vp D' λt=>Cl 89 #[.pointer t] v λE' w=>Vu E' λt9=>Cl 90 #[.pointer t] w λF' y=>Vi F' λf'=>Cl 90 #[.pointer t] y λG' z=>Vi G' λg'=>Cl 90 #[.pointer t] z λH' A=>Vi H' λh'=>Cl 89 #[.pointer t] A λI' C=>Vu I' λi'=>Cl 91 #[.pointer t] C λJ' D=>Vl J' λl' k' j'=>bf D (.C #[.U 0,.I 0,.I 0,.I 0,.U 0,.Z] 40) λe E=>aq.ST E (AA e 0) t9 f' g' h' i' l' k' j' λr=>aG (λ(u':Bool) (H:ai)=>if u' then aq.ST H (AA B 0) 0 0 0 0 0 none 0 0 λn=>aq.LD n (AA B 0) λG K M P U d' b' Z=>R (.T #[.agg #[.U G,.I K,.I M,.I P,.U U,.L d' b' Z],.I 3]) n else aq.LD H (AA e 0) λv' w' x' y' z' C' B' A'=>aq.ST H (AA B 0) v' w' x' y' z' C' B' A' λo=>aq.LD o (AA B 0) λI L O Q V e' c' a'=>R (.T #[.agg #[.U I,.I L,.I O,.I Q,.U V,.L e' c' a'],.I 0]) o) (λJ=>Cl 92 #[.pointer t] r λK' j=> ∃T,K'=.I T/\if(T !=0)then J true j else aq.LD j (AA e 0) λm' n' o' p' q' t' s' r'=>Cl 93 #[.agg #[.U m',.I n',.I o',.I p',.U q',.L t' s' r']] j λL' u=> ∃p,L'=.B p/\J (!p) u)):Cl 70 #[.L m l k] h R:=aS [(8,.join [(28,.one (.bool))])] Tryz.func70 F
theorem ml.within.walk(e:Cl 216 #[.L S s i,.func (.func 178) #[] #[]] h λv H=> ∃t,v=.I t/\R (.B (decide (t≥0))) H):Cl 177 #[.L S s i,.func (.func 178) #[] #[]] h R:=aS [] Tryz.func177 e
theorem iF.within.walk(k: ∃(I:Int->ai->Prop)(m:Int->ai->Nat),I 0 h/\∀(t:Int)(H:ai),I t H->if(decide (t<(s:Int)))then((0:Int)<=t/\t<(s:Int))/\aN S λA=> ∃T,aU H (A.add (toNat t*1))=some (.I T)/\Cl 178 #[.I T] H λv e=> ∃j,v=.B j/\if j then R (.I t) e else(I (wrap .i64 (t+1)) e/\m (wrap .i64 (t+1)) e<m t H)else R (.I (-1)) H):Cl 216 #[.L S s i,.func (.func 178) #[] #[]] h R:=aS [(6,.loop [(8,.one (.int .i64))])] Tryz.func216 k

end
section
open Go.fV
namespace yd
open mi
variable {h H:ai} {R:fO} {p q:ct} {c d:Nat}
variable {n:Nat}
abbrev val(x:RD)(p:ct)(c:Nat):Value:=.agg #[.int .u64 (x.id:Int),.int .i64 x.err,.int .i64 x.num,.int .i64 x.count,.int .u64 (x.token:Int),.slice p x.b.length c]
abbrev At(h:ai)(b:Nat)(x:RD)(p:ct)(c:Nat):Prop:=aq.at h b (x.id:Int) x.err x.num x.count (x.token:Int) p x.b.length c
theorem Cu{a b:cG}{m:Nat}(r:Row h p (bc a))(j:Row h q (bc b))(i:n=a.length)(g:m=b.length)(f:R (.B (decide (a=b))) h):Cl 35 #[.L p n c,.L q m d] h R:=by
 refine ye.walk ⟨_,conv r i,_,conv j g,?_⟩;rw[vp,vp];have:(a==b)=decide (a=b):=by
  by_cases e:a=b<;>simp[e]
 rw[this];exact f
theorem jw(x y:RD)(s:Row h p (bc x.b))(t:Row h q (bc y.b))(a: hH h R (.B (decide (x.same y)))):Cl 28 #[val x p c,val y q d] h R:=by
 refine JH.walk (aq.box λb u _ r m=>aq.box λB o _ e l=> ?_);have f:=l.get r id;have F:=m.tt l;have a:=a o F;unfold RD.same at a;refine⟨_,au f,_,au e,?_⟩;by_cases j:x.id=y.id
 .rw[af (by rw[j];simp)];refine⟨_,au f,_,au e,?_⟩;by_cases E:x.err=y.err
  .rw[af (by rw[E];simp)];refine⟨_,au f,_,au e,?_⟩;by_cases g:x.num=y.num
   .rw[af (by rw[g];simp)];refine⟨_,au f,_,au e,?_⟩;by_cases i:x.count=y.count
    .rw[af (by rw[i];simp)];refine⟨_,au f,_,au e,?_⟩;by_cases k:x.token=y.token
     .rw[af (by rw[k];simp)];refine⟨_,_,_,au f,_,_,_,au e,Cu (s.frame F bX) (t.frame F bX) rfl rfl ⟨_,rfl,?_⟩⟩;simpa[j,E,g,i,k]using a
     .rw[ae (by simp;omega)];simpa[k]using a
    .rw[ae (cR i)];simpa[i]using a
   .rw[ae (cR g)];simpa[g]using a
  .rw[ae (cR E)];simpa[E]using a
 .rw[ae (by simp;omega)];simpa[j]using a
def KJ(id:Nat)(e:Int):RD:=⟨id,e,0,0,0, []⟩
theorem lW{i:Int}(id:Nat)(j:i=(id:Int))(e:Int)(k: hH h R (val (KJ id e) none 0)):Cl 18 #[.U i,.I e] h R:=by
 subst j;refine JI.walk (aq.new λb a _ g f=>aq.ld g ?_);exact k a f
def Qg(n:Int):Bool:=decide (0<=n/\n<=1099511627776)
theorem S2(n:Int)(a:R (.B (!Qg n)) h):Cl 178 #[.I n] h R:=by
 refine BF.walk ?_;unfold Qg at a;by_cases b:n<0
 .simpa[b,show¬0<=n by omega]using a
 .by_cases e:n>1099511627776
  .simpa[b,e,show¬n<=1099511627776 by omega]using a
  .simpa[b,e,show 0<=n by omega,show n<=1099511627776 by omega]using a
theorem xc{ns : List Int}{n m : Nat}(s : Row h p (ns.map (.int .i64 ·)))(f : n = ns.length)(w : ns.length ≤ 1000000)(e : R (.bool (ns.all Qg)) h): Cl 135 #[.slice p n m] h R := by
  subst f
  refine E0.walk (ml.within.walk (iF.within.walk ?_))
  refine ⟨λi r => r = h ∧ ∃ k : Nat, i = (k : Int) ∧ k ≤ ns.length ∧ ∀ j, j < k → Qg (ns.getD j 0) = true, λi _ => ns.length - i.toNat, ⟨rfl, 0, rfl, by omega, λj b => by omega⟩, ?_⟩
  rintro _ t ⟨rfl, k, rfl, v, g⟩
  by_cases o : k < ns.length
  · have : (k : Int) < (ns.length : Int) := by omega
    simp only [this, decide_true, if_true, Int.toNat_natCast]
    obtain ⟨a, rfl, C⟩ := Ih s o
    refine ⟨⟨by omega, trivial⟩, ax.2 ⟨_, C, S2 _ ⟨_, rfl, ?_⟩⟩⟩
    cases l : Qg (ns.getD k 0) with
    | false =>
      simp only [Bool.not_false, if_true]
      refine ⟨_, rfl, ⟨_, rfl, ?_⟩⟩
      have : ns.all Qg = false := by
        rw [List.all_eq_false]
        exact ⟨_, NC o, by rw [l]; simp⟩
      rw [this] at e
      have H : (k : Int) ≥ 0 := by omega
      simpa [H] using e
    | true =>
      simp only [Bool.not_true, Bool.false_eq_true, if_false]
      rw [bJ (by omega) (by omega)]
      refine ⟨⟨trivial, k + 1, by omega, by omega, λj b => ?_⟩, ?_⟩
      · by_cases q : j = k
        · subst q; exact l
        · exact g j (by omega)
      · show ns.length - Int.toNat ((k : Int) + 1) < ns.length - Int.toNat (k : Int); omega
  · have : ¬ (k : Int) < (ns.length : Int) := by omega
    simp only [this, decide_false, Bool.false_eq_true, if_false]
    refine ⟨_, rfl, ⟨_, rfl, ?_⟩⟩
    have : ns.all Qg = true := by
      rw [List.all_eq_true]
      intro n f
      obtain ⟨j, b⟩ := List.getElem?_of_mem f
      have u := (List.getElem?_eq_some_iff.1 b).1
      have := g j (by omega)
      rwa [List.getD_eq_getElem?_getD, b] at this
    rw [this] at e
    simpa using e
theorem fM(x:RD)(M:Row h p (bc x.b))(z: hH h R (.B (decide x.oT))):Cl 93 #[val x p c] h R:=by
 refine HD.walk (aq.box λb v _ g F=>aG.of λJ w=> ?_);have j: ∀f,Fr No h f->¬x.oT->J true f:=by
  intro f r G;subst w;simp only[bm];have:=z f r;rwa[aC G]at this
 have I: ∀f,At f b x p c->Fr No h f->x.id<=1099511627776->(0<=x.err/\x.err<=99)->(0<=x.num/\x.num<=1099511627776)->(0<=x.count/\x.count<=1099511627776)->x.token<=2147483648->x.b.length<=600->J false f:=by
  intro f i r Q k l C m o;subst w;simp only[ar,aQ];refine⟨_,au i,?_⟩;by_cases t:x.err=0
  .rw[ae (by simp[t])];have:=z f r;rwa[av (show x.oT from⟨Q,k,l,C,m,o,λh=>absurd t h⟩)]at this
  .rw[af (cR t)];refine aq.ld i ⟨_,au i,_,au i,lW x.id rfl x.err λO B=>⟨_,_,_,_,_,_,_,_,rfl,(aq.held (B.get i id)),?_⟩⟩;have A:=r.tt B;refine jw x (KJ x.id x.err) (M.frame A bX) (.inl rfl) λE D=>⟨_,rfl,?_⟩
   have e:decide (x.same (KJ x.id x.err))=decide x.oT:=by
    unfold RD.same RD.oT KJ;simp[Q,k,l,C,m,o,t]
   rw[e];exact z E (A.tt D)
 clear w;refine⟨_,au g,?_⟩;by_cases Q:x.id<=1099511627776
 .rw[ae (by simp;omega)];refine⟨_,au g,?_⟩;by_cases k:0<=x.err
  .rw[ae (by simp;omega)];refine⟨_,au g,?_⟩;by_cases l:x.err<=99
   .rw[ae (by simp;omega)];refine⟨_,au g,_,au g,cT ?_⟩;refine xc (ns:= [x.num,x.count]) ju rfl bU ⟨_,rfl,?_⟩;have s:=F.tt (Fr.push v (.C #[.I x.num,.I x.count] 3));have y:At _ b x p c:=(Fr.push (S:=λ_=>False) v (.C #[.I x.num,.I x.count] 3)).get g id;generalize v.push (.C #[.I x.num,.I x.count] 3)=P at*;cases u: [x.num,x.count].all Qg with
    |false=>
     simp only[dZ,bm];refine j _ s λa=> ?_
     obtain⟨_,_,K,L,_⟩:=a;simp[Qg,K,L]at u
    |true=>
     simp only[cX,ar,aQ];simp[Qg]at u;refine⟨_,au y,?_⟩;by_cases m:x.token<=2147483648
     .rw[ae (by simp;omega)];refine⟨_,_,_,au y,?_⟩;by_cases o:x.b.length<=600
      .have:decide ((x.b.length:Int)>600)=false:=by simp;omega
       rw[this];exact I _ y s Q ⟨k,l⟩ u.1 u.2 m o
      .have:decide ((x.b.length:Int)>600)=true:=by simp;omega
       rw[this];exact j _ s λa=>o a.2.2.2.2.2.1
     .rw[af (by simp;omega)];exact j _ s λa=>m a.2.2.2.2.1
   .rw[af (by simp;omega)];exact j _ F λa=>l a.2.1.2
  .rw[af (by simp;omega)];exact j _ F λa=>k a.2.1.1
 .rw[af (by simp;omega)];exact j _ F λa=>Q a.1
theorem PL(x:RD)(u:Row h p (bc x.b))(k1:x.oT->∀i q d,Own i q x.enc.length d 1 (bc x.enc)->Fr No h i->(∀y,aP q y->h.size<=y)->R (.T #[.L q x.enc.length d,.I 0]) i)(k2: ¬x.oT->hH h R (.T #[.Z,.I 3])):Cl 72 #[val x p c] h R:=by
 refine HE.walk (aq.box λb h1 eb z o=>aq.ld z ?_);refine fM x (u.frame o bX) λs r=>⟨_,rfl,?_⟩
 by_cases j:x.oT
 .rw[av j];simp only[cX,ar,aQ];obtain⟨q1,⟨q2,h'⟩,⟨q3,i'⟩,⟨q4,j'⟩,q5,q6,_⟩:=id j;have a:=r.get z id;have F:=o.tt r;refine⟨_,au a,_,au a,_,au a,_,au a,_,au a,_,_,_,au a,?_⟩;refine jj λh3 k' Z O w g3=>⟨_,rfl,?_⟩
  have B:=w.get a id;have U:Up s Z h3:=⟨w,g3⟩;have k: ∀{S:Nat->Prop}{i:ai},Up s S i->¬S b:=λg' hx=>by have:=g'.ge b hx;have:=aA a;omega
  refine⟨au B,au B,au B,au B,au B,au B,?_⟩;refine gC x.id O bU rfl ag λh4 S4 P A=>⟨_,rfl,?_⟩
  have f:=A.fr.get B (k U);have I:=U.step A;have l1:=(gW x.id).2;refine⟨au f,au f,au f,au f,au f,?_⟩;refine I3 P (by simp only[da];omega) ag λh5 S5 Q C=>⟨_,rfl,?_⟩
  have g:=C.fr.get f (k I);have J:=I.step C;have l2:=(gW (mf x.err)).2;refine⟨au g,au g,au g,au g,?_⟩;refine I3 Q (by simp only[da,aB];omega) ag λh6 S6 T D=>⟨_,rfl,?_⟩
  have l:=D.fr.get g (k J);have K:=J.step D;have l3:=(gW (mf x.num)).2;refine⟨au l,au l,au l,?_⟩;refine I3 T (by simp only[da,aB];omega) ag λh7 S7 V E=>⟨_,rfl,?_⟩
  have m:=E.fr.get l (k K);have L:=K.step E;have l4:=(gW (mf x.count)).2;refine⟨au m,au m,?_⟩;refine gC x.token V (by simp only[da,aB];omega) rfl ag λh8 S8 X G=>⟨_,rfl,?_⟩
  have b8:=G.fr.get m (k L);have u8:=L.step G;have l5:=(gW x.token).2;have a':=F.tt u8.fr;refine⟨au b8,?_⟩;refine OQ X (by simp only[da,aB];omega) (u.frame a' bX) rfl ag (λy t e' hS=> ?_) λh9 S9 v s9=>⟨_,rfl,?_⟩
  .have:=jh u (λe=>e' (List.map_eq_nil_iff.1 e)) t;have:=u8.ge y hS;have:=F.1;omega
  have M:=u8.step s9;have he: []++iV x.id++iV (mf x.err)++iV (mf x.num)++iV (mf x.count)++iV x.token++vu x.b=x.enc:=rfl;rw[he]at v;refine oY v (bW (kV q6)) λq d d' f' b' c'=>⟨_,_,_,rfl,?_⟩
  exact k1 j d' q d f' (F.tt (M.fr.tt b')) (λy t=>iJ (c' y t) ((F.tt M.fr).1))
 .rw[aC j];simp only[dZ,bm];exact k2 j s (o.tt r)
theorem vO{g:cG}(rb:Row h p (bc g))(hn:n=g.length)(hl:g.length<=70368744177664)(k1: ∀x,Lk g=some x->∀h' q d,Own h' q x.b.length d 1 (bc x.b)->Fr No h h'->(∀y,aP q y->h.size<=y)->R (.T #[val x q d,.I 0]) h')(k2:Lk g=none->hH h R (.T #[val RD.zero none 0,.I 3])):Cl 70 #[.L p n c] h R:=by
 refine JJ.walk (aq.box (f5l:=0) λb h1 eb hb Z=> ?_);refine mi.vO (rb.frame Z bX) hn hl λh2 A' T D f2 g2=>⟨_,rfl,?_⟩
 have u2:Up h1 T h2:=⟨f2,g2⟩;refine zA D λh3 m f3=>⟨_,rfl,?_⟩
 have u3:=u2.CK f3 (λy e=>e▸D.self);have la:=rD 0 g;generalize hA:fG 0 g=m' at m la⊢;obtain⟨a,S,A⟩:=m';dsimp only at m la⊢;refine EB m λh4 o f4=>⟨_,rfl,?_⟩
 have u4:=u3.CK f4 (λy e=>e▸D.self);have lb:(lU S A).2.2.length<=A.length:=pT _ S A;generalize hB:lU S A=B at o lb⊢;obtain⟨u,U,v⟩:=B;dsimp only at o lb⊢;refine EB o λh5 r f5=>⟨_,rfl,?_⟩
 have u5:=u4.CK f5 (λy e=>e▸D.self);have lc:(lU U v).2.2.length<=v.length:=pT _ U v;generalize hC:lU U v=C at r lc⊢;obtain⟨w,V,z⟩:=C;dsimp only at r lc⊢;refine EB r λh6 s f6=>⟨_,rfl,?_⟩
 have u6:=u5.CK f6 (λy e=>e▸D.self);have ld:(lU V z).2.2.length<=z.length:=pT _ V z;generalize hD:lU V z=n' at s ld⊢;obtain⟨E,de,dr⟩:=n';dsimp only at s ld⊢;refine zA s λh7 t f7=>⟨_,rfl,?_⟩
 have u7:=u6.CK f7 (λy e=>e▸D.self);have lf:=rD de dr;generalize hF:fG de dr=F at t lf⊢;obtain⟨I,fe,fr⟩:=F;dsimp only at t lf⊢;refine OR t ag λh8 q d P O g8 f8=>⟨_,_,_,rfl,?_⟩
 have u8:=u7.CK f8 (λy e=>e▸D.self);generalize hG:mg fe fr=o' at P O⊢;obtain⟨K,G,l⟩:=o';dsimp only at P O⊢;have hX:U6 1099511627776 jP g=⟨⟨a,u,w,E,I,K⟩,G,l⟩:=by
  unfold lU at hB hC hD;unfold U6;simp only[hA,hB,hC,hD,hF,hG]
 have k':Lk g=Af ⟨⟨a,u,w,E,I,K⟩,G,l⟩:=by unfold Lk;rw[hX]
 clear hX hA hB hC hD hF hG la lb lc ld lf m o r s t f3 f4 f5 f6 f7 f8;generalize i:(⟨a,u,w,E,I,K⟩:RD)=x at*;have e0:a=x.id:=by rw[<-i]
 have e1:(u:Int)=x.err:=by rw[<-i]
 have e2:(w:Int)=x.num:=by rw[<-i]
 have e3:(E:Int)=x.count:=by rw[<-i]
 have e4:I=x.token:=by rw[<-i]
 have X:K=x.b:=by rw[<-i]
 rw[e0,e1,e2,e3,e4,X];rw[X]at O;clear i e0 e1 e2 e3 e4 X;refine aq.new λb1 b' y' j' J=> ?_
 have c':At b' b RD.zero none 0:=J.get (u8.fr.get hb id) id;have Q:Fr No h b':=Z.tt (u8.fr.tt J);have l':=O.frame J bX;have gq: ∀y,aP q y->h1.size<=y:=λy j=>by have:=g8 y j;have:=u7.fr.1;omega
 have bne:b≠b1:=λe=>by have:=aA (u8.fr.get hb id);omega
 have z':b<h1.size:=aA hb;refine aG.of λe' hJ=> ?_
 have jt:Af ⟨x,G,l⟩=none->∀f,At f b RD.zero none 0->Fr No h f->e' true f:=by
  intro hn f d' a';subst hJ;simp only[bm];refine aq.set d' λp' r' w' u'=>aq.ld r' ?_
  exact k2 (k'.trans hn) p' (a'.step (Fr.of_eq (S:=λy=>y=b) w' u') (λy j e=>ag))
 have jf:Af ⟨x,G,l⟩=some x->∀f,At f b RD.zero none 0->At f b1 x q d->Own f q x.b.length d 1 (bc x.b)->Fr No h f->e' false f:=by
  intro hs f d' q' t' a';subst hJ;simp only[ar,aQ];refine aq.ld q' (aq.set d' λg' s' x' v'=>aq.ld s' ?_);have f':Fr (λy=>y=b) f g':=Fr.of_eq x' v';refine k1 x (k'.trans hs) g' q d (t'.frame f' (λy j e=> ?_)) (a'.step f' (λy j e=>ag)) (λy j=> ?_)
  .have:=gq y j;omega
  .have:=gq y j;have:=Z.1;omega
 clear hJ;refine QP (P.frame J bX) ⟨_,rfl,?_⟩;by_cases L:zp G l=0
 .rw[ae (cR L)];refine aq.ld j' (fM x l'.iz λi' k=>⟨_,rfl,?_⟩);by_cases M:x.oT
  .rw[av M];exact jf (by unfold Af;rw[af ⟨L,M⟩]) i' (k.get c' id) (k.get j' id) (l'.frame k bX) (Q.tt k)
  .rw[aC M];exact jt (by unfold Af;rw[ae (λhh=>M hh.2)]) i' (k.get c' id) (Q.tt k)
 .rw[af (cR L)];exact jt (by unfold Af;rw[ae (λhh=>L hh.1)]) b' c' Q

end yd
end
section
namespace Ask
open jG (Ev dt)
open dK (SS Good Pt oN Mk)
open Bn (iT)
variable {V:cG→Bool} {h H f d g:ai} {R:fO} {s k bo r c:Nat} {X b:Ft} {I:oN} {a:SS} {p:ct} {ses:Int} {x:Rq} {D:Nat→Prop} {o:Ot}
theorem gJ.no(F:Fr No h d)(O:gJ X d bo r o b H):gJ X h bo r o b H:=by
 have z:=F.1;refine⟨Fr.no F O.fr,λc i=>(O.hN c i).imp _root_.id (λA=>ag),λc i=>(O.ji c i).imp _root_.id (λA=>ag),O.mz,?_⟩;obtain⟨y,t,q⟩:=O.at';refine⟨y,t,λm=> ?_⟩;obtain⟨p,c,e,u,n⟩:=q m;exact⟨p,c,e,u,λj z l=>⟨(n j z l).1.imp (λA=>ag) _root_.id,(n j z l).2⟩⟩
theorem gJ.num{st1:bw X h b d}(n c:Int)(F:Fr (λy=>y=bo) d H)(i:aq.fD H bo ⟨r,0,n,c,0,none,0,0⟩){a:SS}{e:Int}:gJ X h bo r ⟨a,e,n,c, []⟩ b H:=
 gJ.of st1 F ⟨_,i,λ_=>⟨none,0,rfl,Row.nil,λe=>absurd rfl e⟩⟩
theorem qc(S:bw X h b d)(n: ¬(X.M bo\/X.D bo))(z:bo<h.size): ∀y,b.M y\/b.D y->y≠bo:=λy i e=>by
 subst e;rcases i with A|A
 .rcases S.hN _ A with A|A
  .exact n (.inl A)
  .omega
 .rcases S.ji _ A with A|A
  .exact n (.inr A)
  .omega
theorem HF(e:kX x=true):mB x=true:=by unfold kX at e;simp only[aW]at e;exact e.1.2
theorem Uv(E:En V f h s X I a k)(h':k+1<=30000)(hr:kX x=true)(w1:0<=x.ep.gL)(w2:0<=x.dest.gL)(rx:Row h p (bc x.mh))(cap:x.mh.length<=c)(u:aq.fD h bo (y0 r))(A: ¬(X.M bo\/X.D bo))(j: ∀H b,Pt H s b I (KB V a ses x).σ->gJ X h bo r (KB V a ses x) b H->R (.I (KB V a ses x).e) H):
  Cl 71 #[(x.as p c s ses).agg,.P bo 0] h R:=by
 refine ET.walk (ck.cW (x:=x.as p c s ses) λc' d eb l F=>⟨_,au l,?_⟩);have n:=E.on F;have z: ¬X.M bo:=λe=>A (.inl e)
 have zo:=aA u;have z1:=F.1;have C: ¬X.M c':=E.nM ag;have P:=F.get u id;have sm:=E.G.small E.H.ord (bW E.hk);have cL:=E.G.c.L;have ek:=E.hk;have pr:=HF hr;unfold KB at j;unfold mB at pr;by_cases U:x.kind=1
 .rw[af U]at j;rw[af (bq.2 U)];obtain⟨Z,v,M,L,go⟩:=n.H.use 1;refine⟨_,au l,ax.2 ⟨_,au n.H.di,iT x.ep l rfl rfl rfl rfl rfl ⟨_,au l,_,au l,gO.Bj v ⟨x.ep,x.lV,ses⟩ E.G.g.len λm T J=> ?_⟩⟩⟩;obtain⟨t,q,S,_,_⟩:=go m Z { a with G:=gO.Ck a.G ⟨x.ep,x.lV,ses⟩ } T J (λi w=>dK.Jq _ w);exact⟨_,rfl,EU S.fr C bU,j m t q (gJ.bad u z (bw.no F S))⟩
 rw[ae U]at j;rw[ae (λe=>U (bq.1 e))];by_cases k2:x.kind=2
 .rw[af k2]at j;rw[af (bq.2 k2)];obtain⟨Z,v,M,L,go⟩:=n.H.use 1;refine⟨_,au l,ax.2 ⟨_,au n.H.di,iT x.ep l rfl rfl rfl rfl rfl ⟨_,au l,gO.pq v x.ep ses λh3 T3 s3=> ?_⟩⟩⟩;obtain⟨X3,y,b',_,_⟩:=go h3 Z { a with G:=gO.Bo a.G x.ep ses } T3 s3 (λi w=>dK.Jq _ w);have f':=bw.no F b';refine⟨_,rfl,EU b'.fr C bU,aG.of λj' hJ=> ?_⟩;by_cases B:gO.jS a.G x.ep ses=0
  case neg=>
   rw[ae B]at j;rw[ae (cR B)];subst hJ;have eG:gO.Bo a.G x.ep ses=a.G:=by unfold gO.Bo;rw[ae B]
   rw[eG]at y;exact j h3 X3 y (gJ.bad u z f')
  rw[af B]at j;rw[af (by rw[B];rfl)];have Q:=b'.fr.get l C;obtain⟨Z,v,M,L,go⟩:=y.use 2;have i': ¬X3.M c':=λhm=>by
   rcases b'.hN c' hm with d'|d'
   .exact C d'
   .have:=aA l;omega
  refine⟨_,au Q,ax.2 ⟨_,au y.di,iT x.ep Q rfl rfl rfl rfl rfl (gY.pY v sm (by show a.C.gone<=_;omega) x.ep λh5 Z5 p5 c5 C5 s5 N5 n5=> ?_)⟩⟩;obtain⟨X5,H5,e',_,_⟩:=go h5 Z5 { a with G:=gO.Bo a.G x.ep ses,C:=gY.yi a.C x.ep } C5 s5 (λi w=>dK.xF (σ:= { a with G:=gO.Bo a.G x.ep ses }) _ w);have st:=f'.trans e';refine⟨_,_,_,rfl,EU e'.fr i' bU,iG (z:=⟨r,0,0,((gY.mr a.C.L x.ep).length:Int),0,none,0,0⟩) (st.fr.get u z) dS rfl λh6 d6 f6=> ?_⟩;subst hJ;rw[B];exact j h6 X5 (H5.frame f6 (λg' hy e=>qc st A zo g' hy e)) (gJ.num (st1:=st) 0 _ f6 d6)
 rw[ae k2]at j;rw[ae (λe=>k2 (bq.1 e))];by_cases k3:x.kind=3
 .rw[af k3]at j;rw[af (bq.2 k3)];obtain⟨Z,v,M,L,go⟩:=n.H.use 1;refine⟨_,au l,ax.2 ⟨_,au n.H.di,iT x.ep l rfl rfl rfl rfl rfl ⟨_,au l,_,au l,gO.Mp v x.ep ses x.lV λm T J=> ?_⟩⟩⟩;obtain⟨t,q,S,_,_⟩:=go m Z { a with G:=gO.Hd a.G x.ep ses x.lV } T J (λi w=>dK.Jq _ w);exact⟨_,rfl,EU S.fr C bU,j m t q (gJ.bad u z (bw.no F S))⟩
 rw[ae k3]at j;rw[ae (λe=>k3 (bq.1 e))];by_cases K:x.kind=4
 .rw[af K]at j;rw[af (bq.2 K)];rw[dy,dy,af K]at pr;simp only[aW,aY]at pr;exact ck.fz (x:=x.as p c s ses) l (Q6 n (rx.frame F bX) cap ag w1 w2 P A λm t q O=>⟨_,rfl,j m t q (gJ.no F O)⟩)
 rw[ae K]at j;rw[ae (λe=>K (bq.1 e))];by_cases k5:x.kind=5
 .rw[af k5]at j;rw[af (bq.2 k5)];exact⟨_,au l,_,au l,_,au l,dK.xy n.H E.G E.hk λm t q S=>⟨_,rfl,j m t q (gJ.bad u z (bw.no F S))⟩⟩
 rw[ae k5]at j;rw[ae (λe=>k5 (bq.1 e))];by_cases k6:x.kind=6
 .rw[af k6]at j;rw[af (bq.2 k6)];obtain⟨Z,v,M,L,go⟩:=n.H.use 2;refine⟨_,au l,ax.2 ⟨_,au n.H.di,iT x.ep l rfl rfl rfl rfl rfl (gY.Pq v sm x.ep λm f2=>⟨_,rfl,f2.kp,?_⟩)⟩⟩;have F2:=F.tt f2;refine iG (z:=⟨r,0,(gY.Jv a.C.L x.ep:Int),0,0,none,0,0⟩) (F2.get u id) dS rfl λh3 d3 f3=> ?_
  have Q:=f3.get (f2.get l id) (λe=>bW (aA u));have y:=(E.H.on F2).frame f3 (λg' hy e=>A (e▸hy));refine ck.fz (x:=x.as p c s ses) Q (EW y λh4 f4=>⟨_,rfl,?_⟩);exact j h4 X (y.on f4) (gJ.num (st1:=bw.gT F2) _ 0 (f3.on f4) (f4.get d3 id))
 rw[ae k6]at j;rw[ae (λe=>k6 (bq.1 e))];by_cases G:x.kind=7
 .rw[af G]at j;rw[af (bq.2 G)];rw[dy,dy,ae K,dy,af G]at pr;simp only[aW,aY]at pr;exact ck.fz (x:=x.as p c s ses) l (Rl n ag P A λm t q O=>⟨_,rfl,j m t q (gJ.no F O)⟩)
 rw[ae G]at j;rw[ae (λe=>G (bq.1 e))];by_cases k8:x.kind=8
 .rw[af k8]at j;rw[af (bq.2 k8)];exact ck.fz (x:=x.as p c s ses) l (Jo n h' P A λm t q O=>⟨_,rfl,j m t q (gJ.no F O)⟩)
 rw[ae k8]at j;rw[ae (λe=>k8 (bq.1 e))];by_cases k9:x.kind=9
 .rw[af k9]at j;rw[af (bq.2 k9)];obtain⟨Z,v,M,L,go⟩:=n.H.use 2;refine⟨_,au l,ax.2 ⟨_,au n.H.di,_,au l,_,au l,gY.Jp v sm x.num ses λm Z2 T J=> ?_⟩⟩;obtain⟨t,q,S,_,_⟩:=go m Z2 { a with C:=gY.EJ a.C x.num ses } T J (λi w=>dK.xF _ w);exact⟨_,rfl,EU S.fr C bU,j m t q (gJ.bad u z (bw.no F S))⟩
 rw[ae k9]at j;rw[ae (λe=>k9 (bq.1 e))];by_cases a':x.kind=10
 .rw[af a']at j;rw[af (bq.2 a')];exact ck.fz (x:=x.as p c s ses) l (Bf n P A λm t q O=>⟨_,rfl,j m t q (gJ.no F O)⟩)
 rw[ae a']at j;rw[ae (λe=>a' (bq.1 e))];exact j d X n.H (gJ.bad u z (bw.gT F))
theorem Rn{A:List fu.fu}(O:fu.mT A){m:Int}{j:Nat}{B:cG}(h:fu.Dh A m j=some B):B.length<=1000:=by
 unfold fu.Dh at h;split at h
 .cases h
 .rename_i z q;obtain⟨i,_,n⟩:=fu.Df q;unfold fu.Kt at h;obtain⟨e,l,rfl⟩:=Option.map_eq_some_iff.1 h;exact((O.at_ i z n).kd e (List.mem_of_find?_eq_some l)).2
abbrev rS(y:Go.fV.RD)(p:ct)(c:Nat):aq.S:=⟨(y.id:Int),y.err,y.num,y.count,(y.token:Int),p,y.b.length,c⟩
theorem BG{B:Nat}{y z:aq.S}{K:aq.S->ai->Prop}(i:aq.fD h B y)(j: ∀H,Fr (λy=>y=B) h H->K z H):
  aq.du h (AA B 0) z λg=>aq.cC g (AA B 0) λl=>K l g:=
 aq.gX (x:=z) i λg e F _=>aq.fz e (j g F)
theorem Ta(E:En V f h s X I a k)(H':k+1<=30000)(w1:0<=x.ep.gL)(w2:0<=x.dest.gL)(rx:Row h p (bc x.mh))(cap:x.mh.length<=c)(u: ∀H b q j,Pt H s b I (ER V a ses x).1->bw X h b H->Row H q (bc (ER V a ses x).2.b)->((ER V a ses x).2.b≠ []->∀y,aP q y->(h.size<=y\/b.D y)/\¬b.M y)->R (yd.val (ER V a ses x).2 q j) H):
  Cl 45 #[pt s,.I ses,(x.s p c).agg] h R:=by
 refine SX.walk (aF.cW (x:=x.s p c) λc' d eb hb f1=>aq.cW (x:=.z) λl h2 Z' U f2=>aG.of λw' hJ=> ?_);have F2:=f1.tt f2;have E2:=E.on F2;have d':=f2.get hb _root_.id;have z1:=f1.1;have z2:=f2.1;have B:=E2.H.di;have fl: ∀(g:ai)(e:Int),Fr No h2 g->ER V a ses x=(a,lG x.id e)->Cl 18 #[.U (x.id:Int),.I e] g λV' C'=>aq.EX λv'=>V'=v'.agg/\aq.du C' (AA l 0) v' λp'=>aq.cC p' (AA l 0) λr0=>R (r0.agg) p':=by
  intro g e v hq;rw[hq]at u;refine yd.lW x.id rfl e λH F=>aq.ex (rS (lG x.id e) none 0) ⟨rfl,BG ((v.tt F).get U _root_.id) λz' y'=> ?_⟩
  have FF:=(F2.tt (v.tt F)).fresh y' (λy e=>ag);exact u z' X none 0 (E.H.on FF) (bw.gT FF) Row.nil (λe=>absurd rfl e)
 have x': ∀(e:Int),¬(kX x=true/\x.kind<11)->ER V a ses x=(a,lG x.id 3):=λe hn=>by unfold ER;rw[ae hn]
 have key:w' false h2:=by
  subst hJ;dsimp only;rw[dy];refine aG.of λJ1 k'=>aF.fz (x:=x.s p c) d' (fM x (rx.frame F2 (λ_ _=>_root_.id)) λh3 w=>⟨_,rfl,?_⟩)
  have a':=w.get d' _root_.id;have a4:J1 true h3->True:=λ_=>trivial
  have bad: ¬(kX x=true/\x.kind<11)->J1 true h3:=by
   intro hn;subst k';try dsimp only
   rw[af rfl];exact⟨_,au a',fl h3 3 w (x' 0 hn)⟩
  cases hr:kX x with
  |false=>rw[gi];exact bad (λe=>by rw[hr]at e;cases e.1)
  |true=>
  rw[dy];refine⟨_,au a',?_⟩;by_cases g':x.kind<11
  case neg=>
   have:decide ((x.s p c).f1≥11)=true:=av (by show x.kind≥11;omega);rw[this];exact bad (λe=>g' e.2)
  have:decide ((x.s p c).f1≥11)=false:=aC (by show¬x.kind≥11;omega);rw[this];subst k';dsimp only;rw[dy];have E3:=E2.on w;obtain⟨Z,n,_⟩:=E3.H.use 0;unfold ER at u fl;rw[af ⟨hr,g'⟩]at u;simp only[af (show kX x=true/\x.kind<11 from⟨hr,g'⟩)]at fl;refine⟨_,au E3.H.di,fu.AU n E.G.a ⟨_,rfl,?_⟩⟩;cases hu:fu.SK a.A ses with
  |false=>
   rw[gi];exact⟨_,au a',fl h3 16 w (by rw[hu];rfl)⟩
  |true=>
  rw[hu,af rfl]at u;rw[dy];refine⟨_,au E3.H.di,_,au a',fu.Q5 x.id rfl n E.G.a (λkb e' h4 p4 c4 o4 K n4=>⟨_,_,_,_,rfl,?_⟩) (λe' h4 K=>⟨_,_,_,_,rfl,?_⟩)⟩
  .rw[e']at u;rw[af rfl];dsimp only at u;have F4:=F2.tt (w.tt K);have z3:=w.1;have z4:=K.1;have fin: ∀(g:ai)(y:Go.fV.RD)(q:ct)(j:Nat),(Go.fV.Lk kb).getD Go.fV.RD.zero=y->Row g q (bc y.b)->(∀z,aP q z->h4.size<=z)->Fr No h4 g->
     bf g (.C aq.S.z.arr 40) λi' B'=>
     aq.du B' (AA i' 0) (rS y q j) λl'=>
     aq.cC l' (AA i' 0) λS'=>
     aq.du l' (AA l 0) S' λm'=>
     aq.cC m' (AA l 0) λM'=>
     R (M'.agg) m':=by
    intro g y q j i Q C v;refine aq.fK (x:=rS y q j) λb2 g2 a0 d' t=>aq.fz (x:=rS y q j) d' (BG ((w.tt (K.tt (v.tt t))).get U _root_.id) λg3 f6=> ?_)
    have FF:=(F4.tt (v.tt t)).fresh f6 (λy e=>ag);have rr:=((Q.frame t (λ_ _=>_root_.id)).frame f6 (λA ea L=>by have:=C A.block ⟨A,ea,rfl⟩;have L:A.block=l:=L;have:=aA U;omega));rw[i]at u;exact u g3 X q j (E.H.on FF) (bw.gT FF) rr (λ_ z n=>⟨.inl (iJ (C z n) F4.1),λm=>iJ (C z n) (E.H.lt z (.inl m))⟩)
   refine yd.vO o4.iz rfl (bW (Rn E.G.a e')) (λy i T q j o5 t n5=>aq.ex (rS y q j) ⟨_,rfl,?_⟩) (λi T t=>aq.ex (rS .zero none 0) ⟨_,rfl,?_⟩)
   .exact fin T y q j (by rw[i];rfl) o5.iz n5 t
   .exact fin T .zero none 0 (by rw[i];rfl) Row.nil (λz n=>by obtain⟨A,e,_⟩:=n;cases e) t
  .rw[e']at u;rw[dy];dsimp only at u;have F4:=F2.tt (w.tt K);have z3:=w.1;have z4:=K.1;have b':=K.get a' _root_.id;refine⟨_,au b',aq.fK (x:=y0 x.id) λJ T a2 q' t=>aF.fz (x:=x.s p c) (t.get b' _root_.id) ?_⟩;have F5:=F4.tt t;have E5:=E.on F5;have z5:=t.1;have nX: ∀y,h.size<=y->¬(X.M y\/X.D y):=λy i m=>by have:=E.H.lt y m;omega
   refine Uv (p:=p) (c:=c) (ses:=ses) E5 H' hr w1 w2 (rx.frame F5 (λ_ _=>_root_.id)) cap q' (nX J ag) λh6 M H6 O=>⟨_,rfl,aG.of λJ2 A'=> ?_⟩
   have sG:=Good.KB (V:=V) (ses:=ses) (q:=x) E.G E.H.ord E.hk w1;generalize KB V a ses x=o at u H6 O sG;have r':aF.fD h6 c' (x.s p c):=O.fr.get (t.get b' _root_.id) (λm=>by
    rcases m with A|A
    .exact nX c' ag (.inl A)
    .have:=aA b';omega)
   have E':aq.fD h6 l .z:=O.fr.get ((w.tt (K.tt t)).get U _root_.id) (λm=>by
    rcases m with A|A
    .exact nX l ag (.inl A)
    .have:=aA U;omega)
   have zo:=aA q';have st:bw X h M h6:=⟨(Fr.no F5 O.fr).trans (Fr.refl (λ_=>False) _) (λc hc m=>by
    rcases m with A|A
    .exact A
    .omega) (λ_ _=>False.elim),λc hc=>(O.hN c hc).imp _root_.id (λA=>ag),λc hc=>(O.ji c hc).imp _root_.id (λA=>ag),O.mz⟩
   have a6:=aA b';have a5:=aA U;have f': ∀y,h.size<=y->y<T.size->¬(M.M y\/M.D y):=λy i hl m=>by
    rcases m with A|A
    .rcases O.hN y A with A|A
     .exact nX y i (.inl A)
     .omega
    .rcases O.ji y A with A|A
     .exact nX y i (.inr A)
     .omega
   have fin: ∀(g:ai)(q:ct)(j:Nat),aq.fD g J (rS (pB x.id o) q j)->Fr (λy=>y=J) h6 g->Row g q (bc (pB x.id o).b)->((pB x.id o).b≠ []->∀z,aP q z->(T.size<=z\/X.D z)/\¬M.M z)->J2 g:=by
    intro g q j hg v Q C;subst A';have Hg:=H6.frame v (λy i e=>f' J ag zo (e▸i));have zg:=v.1;have z6:=O.fr.1;have K':c'≠J:=ag
    have L':l≠J:=ag
    obtain⟨Z,n,zm,zd,go⟩:=Hg.use 0;have wr: ∀(G:ai)(pw:ct)(cw:Nat),Row G pw (bc (R2 (pB x.id o)))->(∀y,aP pw y->g.size<=y)->Fr No g G->∀(e:Int),
      ∃t',aU G (AA s 0)=some (.pointer t')/\
      ∃u',aU G (AA c' 0)=some (.U u')/\
      Cl 73 #[.pointer t',.I ses,.U u',.slice pw (R2 (pB x.id o)).length cw] G λX' n'=>
      ∃T',X'=.I T'/\
      aq.cC n' (AA J 0) λU'=>
      aq.du n' (AA l 0) U' λo'=>
      aq.cC o' (AA l 0) λO'=>
      R (O'.agg) o':=by
     intro G pw cw P' nw F _;have h':=Hg.on F;obtain⟨Z,n,zm,zd,go⟩:=h'.use 0;have D':=F.get (v.get r' K') _root_.id;refine⟨_,au h'.di,_,au D',fu.Q4 x.id rfl n sG.a P' rfl (λ_ y i m=>iJ (nw y i) (Hg.lt y (.inl (zm y m)))) λh7 Z7 T7 s7=>⟨_,rfl,?_⟩⟩;obtain⟨X7,H7,S,_,_⟩:=go h7 Z7 { o.σ with A:=fu.Bb o.σ.A ses x.id (R2 (pB x.id o)) } T7 s7 (λa3 hi=>dK.sc _ hi);have n3: ¬M.M J:=λA=>f' J ag zo (.inl A)
     have n1: ¬M.M l:=λA=>f' l ag ag (.inl A)
     have G':=S.fr.get (F.get hg _root_.id) n3;have F':=S.fr.get (F.get (v.get E' L') _root_.id) n1;refine aq.fz (x:=rS (pB x.id o) q j) G' (BG F' λh8 f8=> ?_);have z7:=S.fr.1;have zf:=F.1;have Q':bw X h M G:=(bw.box st v ag).on F;have R':=Q'.trans S;have s':=bw.box R' f8 ag;have J': ∀y,X7.M y\/X7.D y->y≠l:=λy i e=>by
      rcases i with A|A
      .rcases S.hN y A with A|A
       .exact n1 (e▸A)
       .omega
      .rcases S.ji y A with A|A
       .exact f' l ag ag (.inr (e▸A))
       .omega
     refine u h8 X7 q j (H7.frame f8 (λy i e=>J' y i e)) s' ?_ (λP z n=>⟨(C P z n).1.imp (λA=>bW F5.1) (s'.mz z),λm=> ?_⟩)
     .by_cases P:(pB x.id o).b= []
      .rw[P];exact Row.nil
      .refine(((Q.frame F (λ_ _=>_root_.id)).frame S.fr (λA ea L=>(C P A.block ⟨A,ea,rfl⟩).2 L)).frame f8 (λA ea L=> ?_));have L:A.block=l:=L;rcases(C P A.block ⟨A,ea,rfl⟩).1 with a1|a1
       .omega
       .exact nX l ag (.inr (L▸a1))
     .rcases S.hN z m with A|A
      .exact(C P z n).2 A
      .have:=jh Q (by simpa[bc]using P) n;omega
    refine aq.fz (x:=rS (pB x.id o) q j) hg (yd.PL (pB x.id o) Q (λhR G pw cw ow F nw=>⟨_,_,_,_,rfl,?_⟩) (λhR G F=>⟨_,_,_,_,rfl,?_⟩))
    .have:=wr G pw cw (by rw[show R2 (pB x.id o)=(pB x.id o).enc from af hR];exact ow.iz) nw F 0;rw[show R2 (pB x.id o)=(pB x.id o).enc from af hR]at this;exact this
    .have:=wr G none 0 (by rw[show R2 (pB x.id o)= []from ae hR];exact Row.nil) (λy i=>by obtain⟨A,e,_⟩:=i;cases e) F 0;rw[show R2 (pB x.id o)= []from ae hR]at this;exact this
   obtain⟨y,i,I'⟩:=O.at';by_cases he:o.e=0
   .rw[ae (cR he)];obtain⟨q,j,rfl,Q,C⟩:=I' he;have eo:pB x.id o=⟨x.id,0,o.num,o.yM,0,o.d⟩:=af he;rw[eo]at fin;exact fin h6 q j i (Fr.refl _ _) Q C
   .rw[af (cR he)];have eo:pB x.id o=⟨x.id,o.e,0,0,0, []⟩:=ae he;rw[eo]at fin;refine⟨_,au r',yd.lW x.id rfl o.e λg j'=>aq.ex (rS ⟨x.id,o.e,0,0,0, []⟩ none 0) ⟨rfl,aq.gX (x:=rS ⟨x.id,o.e,0,0,0, []⟩ none 0) (j'.get i _root_.id) λg2 d2 f2 _=>fin g2 none 0 d2 (Fr.no j' f2) Row.nil (λe=>absurd rfl e)⟩⟩
 refine⟨_,au B,?_⟩;rw[ae bU];refine⟨_,au B,?_⟩;rw[ae bU];refine⟨_,au B,?_⟩;rw[ae bU];refine⟨_,au B,?_⟩;rw[ae bU];refine⟨_,au B,?_⟩;rw[ae bU];exact⟨_,au B,key⟩

end Ask
end
section
variable {h:ai} {R:fO}
variable {s o:Nat} {c:cA.S} {x:aM.S}
theorem HG.walk(H: ∃e,Cc h s 0 (.pointer e)/\if(!e.isNone)then∃t,Cc h s 1 (.pointer t)/\if(!t.isNone)then∃T,Cc h s 2 (.pointer T)/\if(!T.isNone)then∃a,Cc h s 3 (.pointer a)/\if(!a.isNone)then∃b,Cc h s 4 (.pointer b)/\if(!b.isNone)then∃d,Cc h s 5 (.pointer d)/\R (.B (!d.isNone)) h else R (.B false) h else R (.B false) h else R (.B false) h else R (.B false) h else R (.B false) h):Cl 22 #[.P s 0] h R:=aS [] Tryz.func22 H
theorem uQ.walk{O:Int}(e:bf h (.C c.arr 162) λb H=>Hp H b 21 λi=>aN i λa=>zX H a λj=>Hl H b 22 λg f T=>Cl 167 #[.pointer j,.I O,.L g f T] H λv d=> ∃t,v=.I t/\Kp H d [(Sa b 21)]/\if(t !=0)then R (.I 0) d else R (.I 1) d):Cl 120 #[c.agg,.I O] h R:=aS [(4,λ_=>pK 10)] Tryz.func120 e
theorem uR.walk(hv:bf h (.C c.arr 162) λb e=>aG (λ(r:ct) (is:Bool) (i:ai)=>if(!is)then R (.I 4) i else ak.cC i (AA b 0) λu'=>Cl 119 #[u'.agg] i λO' p'=>aK.EX λZ=> ∃a',O'=.T #[Z.agg,.I a']/\aK.NW p' λl' q'=>aK.du q' (AA l' 0) Z λa=>if(a'==0)then cA.cC a (AA b 0) λv'=>aN r λf'=>kK a (f'.add 6) λw'=>Cl 120 #[v'.agg,.I w'] a λP' r'=> ∃b',P'=.I b'/\aJ r' (AA o 3) (.I b') λs'=>R (.I 0) s' else ak.cC a (AA b 0) λx'=>Hp a b 21 λy'=>aN y' λg'=>gA a (g'.add 6) λz'=>Hp a b 21 λA'=>aN A' λh'=>gA a (h'.add 6) λB'=>Cl 121 #[x'.agg,.U z',.U B'] a λQ' d=> ∃t T,Q'=.T #[.U t,.I T]/\Kp a d [(Sa b 21),(Sa b 21)]/\aG (λ(C':Bool) (H:ai)=>if C' then R (.I 19) H else if(T !=0)then R (.I T) H else if(t==0)then R (.I 18) H else Hp H b 21 λG'=>aN G' λi'=>zX H (i'.add 2) λH'=>aw.cC H (AA b 2) λI'=>Hl H b 22 λL' K' J'=>Hp H b 21 λM'=>aN M' λA=>gA H (A.add 6) λe'=>Cl 122 #[.pointer H',I'.agg,.L L' K' J',.U (if 1099511627776<wrap .u64 (e'+t)then 1099511627776 else wrap .u64 (e'+t))] H λR' n=> ∃v w,R'=.T #[.I v,.I w]/\Kp H n [(some (A.add 6)),(Sa b 21),(Sa b 21)]/\aJ n (AA o 2) (.I v) λm'=>R (.I w) m') (λj=>aN r λk=> ∃c',aU d (k.add 5)=some (.I c')/\if(c'==2)then Hp d b 21 λD'=>aN D' λj'=>zX d j' λE'=>aN r λk'=>kK d (k'.add 6) λF'=>Cl 68 #[.pointer E',.I F'] d λS' p=> ∃d',S'=.B d'/\Kp d p [(Sa b 21),(some (k.add 5))]/\j (!d') p else j false d)) (λJ=>Hp e b 21 λt'=>aN t' λl=>zX e (l.add 1) λy=>aw.cC e (AA b 2) λz=>(Cl 118 #[.pointer y,z.agg] e λT' f=> ∃C E G K M P S V,T'=.T #[.agg #[.B C,.U E,.U G,.S K,.S M,.I P,.I S],.B V]/\Kp e f [(Sa b 21)]/\bf f (.C #[.B false,.U 0,.U 0,.S ij,.S ij,.I 0,.I 0] 184) λB q=>Kp f q [(Sa b 21)]/\bV.ST q (AA B 0) C E G K M P S λn'=>J (Sa B 0) V n')/\(bf e (.C #[.B false,.U 0,.U 0,.S ij,.S ij,.I 0,.I 0] 184) λm g=>Kp e g [(Sa b 2),(some (l.add 1)),(Sa b 21)]/\Cl 118 #[.pointer y,z.agg] g λU' u=> ∃D F I L O Q U X,U'=.T #[.agg #[.B D,.U F,.U I,.S L,.S O,.I Q,.I U],.B X]/\Kp g u [(Sa b 21)]/\bV.ST u (AA m 0) D F I L O Q U λo'=>J (Sa m 0) X o')/\True)):Cl 75 #[c.agg,.P o 0] h R:=aS [(3,.join [(5,.one (.ptr)),(6,.one (.bool))]),(3,λ_=> .iZ (fC 9 0 (.alts (.fork 9 (fC 6 10 .done) (.fork 13 (fC 4 9 (.op 14 (.op 15 .done))) .gw))))),(25,λ_=>pK 18),(29,.join [(57,.one (.bool))]),(29,λ_=>pK 15),(48,λ_=>pK 28)] Tryz.func75 hv
theorem Cv.walk{a:ct}{D d:Nat} (r:Cl 74 #[.L a D d] h λv l=>ak.EX λg=> ∃T,v=.T #[g.agg,.I T]/\ak.NW l λb m=>ak.du m (AA b 0) g λH=>aG (λ(e:Int) (f:ai)=>aG (λ(n:ai)=>R (.I e) n) (λj=>if(e !=0)then∃k,Cc f s 7 (.I k)/\aJ f (AA s 7) (.I (wrap .i64 (k+1))) λp=>j p else j f)) (λJ=>if(T==0)then ak.cC H (AA b 0) λt=>Cl 75 #[.agg #[.U t.f0,.I t.f1,.B t.f2,.U t.f3,.U t.f4,.S t.f5,.S t.f6,.B t.f7,.U t.f8,.U t.f9,.S t.f10,.S t.f11,.B t.f12,.U t.f13,.U t.f14,.S t.f15,.S t.f16,.U t.f17,.U t.f18,.U t.f19,.L t.Qs t.Iv t.Qt,.P s 0,.L a D d],.P o 0] H λV q=> ∃i,V=.I i/\J i q else J T H)):Cl 46 #[.P s 0,.L a D d,.P o 0] h R:=aS [(7,.join [(8,.one (.int .i64))]),(13,.join [])] Tryz.func46 r
theorem Cw.walk (hv:bf h (.C x.arr 37) λb H=>Hi H b 1 λt=>aG (λ(e:Int) (e':ai)=>R (.I e) e') (λJ=>aG (λ(I:Int) (j':ai)=>J I j') (λj=>if(t==1)then Hp H s 0 λp'=>Hu H b 2 λq'=>Cl 42 #[.pointer p',.U q'] H λB' k'=> ∃T q,B'=.T #[.I T,.I q]/\aJ k' (AA o 2) (.I T) λn=> ∃r,Cc n b 2 (.U r)/\aJ n (AA o 4) (.U r) λl'=>j q l' else aG (λ(K:Int) (m':ai)=>j K m') (λd=>if(t==2)then Hp H s 0 λr'=>Hu H b 2 λs'=>Cl 43 #[.pointer r',.U s'] H λC' n'=> ∃u v,C'=.T #[.I u,.I v]/\aJ n' (AA o 2) (.I u) λp=> ∃w,Cc p b 2 (.U w)/\aJ p (AA o 4) (.U w) λQ=>d v Q else aG (λ(L:Int) (S:ai)=>d L S) (λf=>if(t==3)then Hp H s 0 λt'=>Hi H b 3 λu'=>Cl 44 #[.pointer t',.I u'] H λD' U=> ∃y,D'=.I y/\f y U else aG (λ(M:Int) (V:ai)=>f M V) (λg=>if(t==4)then Hi H b 3 λv'=>aF.cC H (AA b 4) λw'=>Cl 45 #[.P s 0,.I v',w'.agg] H λE' X=>aq.EX λz=>E'=z.agg/\aq.du X (AA o 0) z λZ=>g 0 Z else aG (λ(O:Int) (a':ai)=>g O a') (λi=>if(t==5)then Hl H b 23 λz' y' x'=>Cl 46 #[.P s 0,.L z' y' x',.P o 0] H λF' b'=> ∃A,F'=.I A/\i A b' else aG (λ(P:Int) (c':ai)=>i P c') (λk=>if(t==6)then Cl 47 #[.P s 0] H λG' d'=>aI.EX λC=> ∃D,G'=.T #[C.agg,.I D]/\aI.NW d' λB f'=>aI.du f' (AA B 0) C λa=>Hi a B 0 λA'=> ∃G F E,Cc a B 2 (.L G F E)/\aJ a (AA o 2) (.I A') λm=>Kp a m [(Sa B 2)]/\aJ m (AA o 5) (.L G F E) λg'=>k D g' else aG (λ(h':ai)=>k 0 h') (λl=>if(t==8)then Hp H s 0 λo'=>Cl 48 #[.pointer o'] H λH' i'=>H'=.T #[]/\l i' else l H))))))))):Cl 25 #[.P s 0,x.agg,.P o 0] h R:=aS [(7,.join [(7,.one (.int .i64))]),(10,.join [(7,.one (.int .i64))]),(12,λ_=>pK 15),(16,.join [(7,.one (.int .i64))]),(18,λ_=>pK 15),(22,.join [(7,.one (.int .i64))]),(23,λ_=>pK 8),(26,.join [(7,.one (.int .i64))]),(30,.join [(7,.one (.int .i64))]),(34,.join [(7,.one (.int .i64))]),(37,λ_=>pK 14),(40,.join [])] Tryz.func25 hv
theorem Fa.walk(y:bf h (.C x.arr 37) λb r=>aq.NW r λB w=>Cl 22 #[.P s 0] w λv a=> ∃n,v=.B n/\if(!n)then aq.du a (AA B 0) aq.S.z λi=>aq.cC i (AA B 0) λz=>R (.T #[z.agg,.I 6]) i else aM.cC a (AA b 0) λF=>Cl 23 #[F.agg] a λV d=> ∃p,V=.B p/\if(!p)then aq.du d (AA B 0) aq.S.z λj=>aq.cC j (AA B 0) λA=>R (.T #[A.agg,.I 3]) j else Hu d b 0 λG=>Cl 24 #[.P s 0,.U G] d λK k=> ∃t,K=.I t/\if(t !=0)then aq.du k (AA B 0) aq.S.z λl=>aq.cC l (AA B 0) λC=>R (.T #[C.agg,.I t]) l else aq.NW k λe m=>aM.cC m (AA b 0) λI=>Cl 25 #[.P s 0,I.agg,.P e 0] m λL H=> ∃T,L=.I T/\if(T !=0)then Cl 18 #[.U 0,.I T] H λM u=>aq.EX λq=>M=q.agg/\aq.du u (AA B 0) q λf=>aq.cC f (AA B 0) λD=>R (.T #[D.agg,.I 0]) f else aq.cC H (AA e 0) λJ=>aq.du H (AA B 0) J λg=>aq.cC g (AA B 0) λE=>R (.T #[E.agg,.I 0]) g):Cl 9 #[.P s 0,x.agg] h R:=aS [] Tryz.func9 y
theorem HI.walk{x:aF.S} (a:bf h (.C x.arr 35) λb H=> ∃i T g,Cc H b 15 (.L i T g)/\if(decide (((T:Nat):Int)>400))then R (.B true) H else Hs H b 5 λd=>Hs H b 6 λe=>Hs H b 10 λf=> ∃t,Cc H b 11 (.S t)/\R (.B (decide ((wrap .i64 ((wrap .i64 ((wrap .i64 ((d.size:Int)+(e.size:Int)))+(f.size:Int)))+((t.size:Nat):Int)))>300))) H):Cl 17 #[x.agg] h R:=aS [] Tryz.func17 a
theorem HJ.walk (d:bf h (.C x.arr 37) λb a=>aF.cC a (AA b 4) λe=>Cl 17 #[e.agg] a λv H=> ∃t,v=.B t/\if t then R (.B true) H else∃g T f,Cc H b 23 (.L g T f)/\R (.B (decide (((T:Nat):Int)>1300))) H):Cl 7 #[x.agg] h R:=aS [] Tryz.func7 d

end
section
namespace pg
open jG (Ev dt)
open dK (SS Good Pt oN Mk Bk)
open Go.Proofs.YtkdgpmeojgokdaaGreatDoor.Ask (En gJ y0 iG EU)
open Bn (mq kW jN iX BB iT UO)
variable {V:cG→Bool} {h H d g:ai} {R:fO} {s k bo c C:Nat} {X x:Ft} {I:oN} {a:SS} {p q:ct} {D:Nat→Prop} {b:mq} {data:cG} {f:List BB}
abbrev Ty(b:mq)(q:ct)(C s:Nat)(p:ct)(n c:Nat):cA.S:=⟨b.p.fl,b.p.sum,b.p.dest.lE,b.p.dest.node,b.p.dest.gL,b.p.dest.host,b.p.dest.jZ,b.p.rep.lE,b.p.rep.node,b.p.rep.gL,b.p.rep.host,b.p.rep.jZ,b.p.id.e.lE,b.p.id.e.node,b.p.id.e.gL,b.p.id.e.host,b.p.id.e.jZ,b.p.id.tm,b.p.id.sq,b.p.fT,q,b.bl.length,C,some ⟨s,0,none⟩,p,n,c⟩
theorem MT(h:kW V data=.ok b):(jN V b).isSome=true/\data.length<=1200:=by
 unfold kW at h;split at h
 case isFalse=>cases h
 rename_i e;refine⟨?_,e⟩;repeat (first|(split at h<;>first|(cases h;done)|skip)|(cases h;assumption))
theorem ES(E:En V d h s X I a k)(o:Int)(y:Row h p (bc data))(J:data.length<=1200)(t: ∀H x,Pt H s x I { a with A:=fu.Be a.A o data } ->bw X h x H->R (.I (if fu.Di a.A o data=0 then 1 else 0)) H):
  Cl 120 #[(Ty b q C s p data.length c).agg,.I o] h R:=by
 refine uQ.walk (cA.cW (x:=Ty b q C s p data.length c) λB G A r F=> ?_);have l:=E.on F;obtain⟨Z,w,L,K,go⟩:=l.H.use 0;refine⟨_,au r,ax.2 ⟨_,au l.H.di,_,_,_,au r,fu.ES w E.G.a (y.frame F bX) rfl ag λj z T s2=> ?_⟩⟩;obtain⟨n,m,u,_,_⟩:=go j z { a with A:=fu.Be a.A o data } T s2 (λi v=>dK.sc _ v);have S:=bw.no F u;refine⟨_,rfl,EU u.fr (b:=B) (E.nM ag) bU,?_⟩;by_cases e:fu.Di a.A o data=0
 .rw[ae (by rw[e];decide)];have:=t j n m S;rw[af e]at this;exact this
 .rw[af (cR e)];have:=t j n m S;rw[ae e]at this;exact this
theorem Uw{B n:Nat}{K:ak.S->Prop}(e:cA.fD h B (Ty b q C s p n c))(i:K (b.s q C)):ak.cC h (AA B 0) K:=
 ⟨_,au e,_,au e,_,au e,_,au e,_,au e,_,au e,_,au e,_,au e,_,au e,_,au e,_,au e,_,au e,_,au e,_,au e,_,au e,_,au e,_,au e,_,au e,_,au e,_,au e,_,_,_,au e,i⟩
theorem PM(b:mq)(n:Nat):(lH V b n).1<=2199023255552:=by
 unfold lH;split
 .rename_i i;unfold JF at i;split at i
  .rename_i l;obtain⟨m,j⟩:=dH.1 l;have e:=Ask.uO j;have pr:b.p.fT<=1099511627776/\b.p.id.tm<=1099511627776:=by
    unfold Bn.jv Bn.hU at e;simp only[aW,aY]at e;exact⟨e.2,e.1.2.1.2⟩
   show HB b.p (JE V b.bl) n<=_;unfold HB;split<;>omega
  .cases i
 .exact bQ _
theorem Ro(E:En V d h s X I a k)(n':b.p.wf)(B:iX h D b.bl q b.bl.length C f)(hl:b.bl.length<=8)(hd: ∀z∈b.bl,z.data.length<=200)(l':Row h p (bc data))(ld:data.length<=1200)(u':data≠ []->∀P,p=some P->¬X.M P.block)(l:aq.fD h bo (y0 0))(nb: ¬(X.M bo\/X.D bo))(i: ∀H x,Pt H s x I (tY V a b data).σ->gJ X h bo 0 (tY V a b data) x H->R (.I (tY V a b data).e) H):
  Cl 75 #[(Ty b q C s p data.length c).agg,.P bo 0] h R:=by
 refine uR.walk (cA.cW (x:=Ty b q C s p data.length c) λG h1 eb a' f1=>aG.of λo' hJ=> ?_);have E1:=E.on f1;have w: ¬X.M bo:=λe=>nb (.inl e)
 have zo:=aA l;have y':=E.hk;have sm:=E.G.small E.H.ord ag;have k': ¬X.M G:=E.nM ag;have A': ¬X.D G:=λhm=>by have:=E.H.lt G (.inr hm);omega
 have key: ∀(g:ai)(K:Nat),h1.size<=K->gO.Rg.at g K ((gO.jb a.G b.p.dest).getD .zero)->Fr No h1 g->o' (Sa K 0) (gO.jb a.G b.p.dest).isSome g:=by
  intro g K zr hr U;subst hJ;dsimp only;unfold tY at i;cases hf:gO.jb a.G b.p.dest with
  |none=>
   rw[hf]at i;rw[af (by rfl)];have F:=f1.tt U;exact i g X (E.H.on F) (gJ.bad l w (bw.gT F))
  |some r=>
   rw[hf]at i hr;rw[ae bU];dsimp only at i;have F:=f1.tt U;have Eg:=E.on F;have hr:gO.Rg.at g K r:=hr;have ug:=Eg.u.fr;refine Uw (U.get a' id) (wc n' E.U ug Eg.SY (B.on F) ag (λz j=>bW (hd z j)) λh2 rr e he f2=>aK.ex rr ⟨_,rfl,aK.fK (x:=rr) λb4 h4 w' x' t=> ?_⟩);have c':=f2.tt t;have u:=F.tt c';have A:=E.on u;have M:=c'.get (U.get a' id) id;have g':=c'.get hr id;have i':=u.get l id;by_cases Q:BD V b=true
   .rw[af Q]at i;have e0:=he.2 Q;subst e0;rw[af (by rfl)];refine cA.fz (x:=Ty b q C s p data.length c) M (ax.2 ⟨_,au g',ES A r.own (l'.frame u bX) ld λh5 X5 H5 m'=>⟨_,rfl,?_⟩⟩);have S:=bw.no u m';refine iG (z:=⟨0,0,0,if fu.Di a.A r.own data=0 then 1 else 0,0,none,0,0⟩) (m'.fr.get i' w) dS rfl λh6 d6 f6=> ?_
    exact i h6 X5 (H5.frame f6 (λy l e=>Ask.qc S nb zo y l e)) (gJ.num (st1:=S) 0 _ f6 d6)
   rw[ae Q]at i;have e0: ¬e=0:=λe=>Q (he.1 e)
   rw[ae (cR e0)];refine Uw M ⟨_,au M,ax.2 ⟨_,au A.H.di,_,au M,ax.2 ⟨_,au A.H.di,Rk a.now E.G.n n' E.U A.u.fr A.SY (B.on u) ag (λz j=>bW (hd z j)) λh8 L=>⟨_,_,rfl,L.kp,aG.of λJ1 t'=> ?_⟩⟩⟩⟩;have v:=u.tt L;have m:=E.on v;have O:=L.get M id;have h':=L.get g' id;have v':=L.get i' id;have ll:=PM (V:=V) b a.now;have j': ∀e',(e'=true↔(r.lV=2/\fu.SK a.A r.own=false))->J1 e' h8:=by
    intro e' hv;subst t';dsimp only;by_cases n:r.lV=2/\fu.SK a.A r.own=false
    .rw[af n]at i;rw[af (hv.2 n)];exact i h8 X m.H (gJ.bad l w (bw.gT v))
    rw[ae n]at i;rw[ae (λe=>n (hv.1 e))];by_cases T:(lH V b a.now).2=0
    case neg=>
     rw[af T]at i;rw[af (cR T)];exact i h8 X m.H (gJ.bad l w (bw.gT v))
    rw[ae (λe=>e T)]at i;rw[ae (cR T)];by_cases c4:(lH V b a.now).1=0
    .rw[af c4]at i;rw[af (by rw[c4];rfl)];exact i h8 X m.H (gJ.bad l w (bw.gT v))
    rw[ae c4]at i;rw[ae (by simp only[df];omega)];have wl:IntKind.wrap .u64 ((a.now:Int)+((lH V b a.now).1:Int))=(a.now:Int)+((lH V b a.now).1:Int):=wrap_u64 ag (bW E.G.n);obtain⟨Z,j,zm,zd,go⟩:=m.H.use 2;refine⟨_,au O,ax.2 ⟨_,au m.H.di,iT b.p.dest O rfl rfl rfl rfl rfl ⟨_,_,_,au O,_,au O,ax.2 ⟨_,au m.H.di,gY.Bj j sm (λz j=>(E.G.c.ok.bd z j).2.1) (bW E.G.c.ok.yM) b.p.dest (d:=data) (min (a.now+(lH V b a.now).1) 1099511627776) (by rw[wl];split<;>omega) (l'.frame v bX) rfl (λhd P ea hm=>u' hd P ea (zm _ hm)) λh9 Z9 C9 s9=>⟨_,_,rfl,?_⟩⟩⟩⟩⟩;obtain⟨X9,H9,b',_,_⟩:=go h9 Z9 { a with C:=gY.kJ a.C b.p.dest data (min (a.now+(lH V b a.now).1) 1099511627776) } C9 s9 (λz' hi=>dK.xF _ hi);have S:=bw.no v b';refine⟨λq' hq B' e hx=> ?_,iG (z:=⟨0,0,gY.Bi a.C b.p.dest data (min (a.now+(lH V b a.now).1) 1099511627776),0,0,none,0,0⟩) (b'.fr.get v' w) dS rfl λs' p' f'=> ?_⟩
    .simp only[bg,cN,fx]at hq;rcases hq with rfl|rfl|rfl
     .cases e;exact H9.di.trans m.H.di.symm
     .cases e;exact b'.fr.2 G hx k'
     .cases e;exact b'.fr.2 G hx k'
    .exact i s' X9 (H9.frame f' (λy l e=>Ask.qc S nb zo y l e)) (gJ.num (st1:=S) _ 0 f' p')
   refine ax.2 ⟨_,au h',?_⟩;by_cases n:r.lV=2
   .rw[af (by rw[n];rfl)];obtain⟨Z,j,_⟩:=m.H.use 0;exact⟨_,au O,ax.2 ⟨_,au m.H.di,ax.2 ⟨_,au h',fu.AU j E.G.a ⟨_,rfl,(Fr.refl _ _).kp,j' _ (by simp[n])⟩⟩⟩⟩
   .rw[ae (cR n)];exact j' _ (by simp[n])
 obtain⟨Z,j,_⟩:=E1.H.use 1;refine⟨_,au a',ax.2 ⟨_,au E1.H.di,iT b.p.dest a' rfl rfl rfl rfl rfl ⟨?_,?_,trivial⟩⟩⟩
 .exact gO.ic j b.p.dest λh3 o=>⟨_,_,_,_,_,_,_,_,rfl,o.kp,bV.box λJ h4 r' d' t=>⟨t.kp,bV.set d' λh5 a1 a2 a3=>key h5 J (bW o.1) a1 ((o.tt t).fresh (Fr.of_eq (S:=λy=>y=J) a2 a3) (λy e=>bW o.1))⟩⟩
 .refine bV.box λJ h4 r' d' t=>⟨t.kp,gO.ic (gO.Tb.on j t) b.p.dest λh3 o=>⟨_,_,_,_,_,_,_,_,rfl,o.kp,bV.set (o.get d' _root_.id) λh5 a1 a2 a3=>key h5 J ag a1 ((t.tt o).fresh (Fr.of_eq (S:=λy=>y=J) a2 a3) (λy e=>ag))⟩⟩
theorem gJ.Ux{o o':Ask.Ot}{j l:Ft}{G:ai}(O:gJ X h bo 0 o j g)(S:bw j g l G)(m: ¬o'.e=0)(u: ¬X.M bo)(Z:bo<h.size):gJ X h bo 0 o' l G:=by
 have z:=O.fr.1;have v: ¬j.M bo:=λn=>(O.hN bo n).elim u (λA=>ag)
 refine⟨O.fr.trans S.fr bX (λc i r=> .inl ((O.hN c r).resolve_right ag)),λc i=> ?_,λc i=> ?_,λc i=>S.mz c (O.mz c i),?_⟩
 .rcases S.hN c i with A|A
  .exact O.hN c A
  .right;omega
 .rcases S.ji c i with A|A
  .exact O.ji c A
  .right;omega
 .obtain⟨y,t,_⟩:=O.at';exact⟨y,S.fr.get t v,λe=>absurd e m⟩
theorem MU(E:En V d h s X I a k)(f':k+2<=30000)(S:Row h p (bc data))(cap:data.length<=c)(d':data≠ []->∀A,p=some A->¬X.M A.block)(z:aq.fD h bo (y0 0))(Q: ¬(X.M bo\/X.D bo))(i: ∀H x,Pt H s x I (tH V a data).σ->gJ X h bo 0 (tH V a data) x H->R (.I (tH V a data).e) H):
  Cl 46 #[pt s,.L p data.length c,.P bo 0] h R:=by
 have P: ¬X.M bo:=λe=>Q (.inl e)
 have zo:=aA z;have fin: ∀(o:Ask.Ot) g m,tH V a data=EZ o->o.σ.rf<=40000->Pt g s m I o.σ->gJ X h bo 0 o m g->(aG (λ(g5:ai)=>R (.I o.e) g5) λJ=>if(o.e !=0)=true then∃T,aU g (AA s 7)=some (.I T)/\aJ g (AA s 7) (.I (IntKind.wrap .i64 (T+1))) λg6=>J g6 else J g):=by
  intro o g m y hr l O;refine aG.of λJ K=> ?_
  rw[y]at i;unfold EZ at i;by_cases j:o.e=0
  .rw[ae (λe=>e j)]at i;rw[ae (by rw[j];decide)];subst K;exact i g m l O
  .rw[af j]at i;rw[af (cR j)];refine⟨_,au l.di,?_⟩;rw[show(o.σ.rf:Int)+1=((o.σ.rf+1:Nat):Int) by omega,bJ ag ag];refine bk l.di bU λg2 a1 a2 a3=> ?_
   obtain⟨X2,U,e'⟩:=l.put (n:=o.σ.now) (r:=o.σ.rf+1) a1 a2 a3;subst K;exact i g2 X2 U (gJ.Ux (o':= { o with σ:= { o.σ with rf:=o.σ.rf+1 } }) O e' j P zo)
 refine Cv.walk (Bn.zx E.U E.u.fr E.SY S rfl cap (λb L w hd hl h1 q C f B u=>ak.ex (b.s q C) ⟨_,rfl,ak.fK (x:=b.s q C) λb2 G b' M n=>aG.of λa' v=> ?_⟩) (λe y hn h1 u=>ak.ex .z ⟨_,rfl,ak.fK (x:=.z) λb2 G b' M n=>aG.of λa' v=> ?_⟩))
 .have F:=u.tt n;have r:=E.on F;have c':=MT L;have t:tH V a data=EZ (tY V a b data):=by unfold tH;rw[L]
  rw[af (by rfl)];refine ak.fz (x:=b.s q C) M (Ro r w (B.frame n bX) hl hd (S.frame F bX) c'.2 d' (F.get z id) Q λh3 X3 Z O3=>⟨_,rfl,?_⟩);subst v;refine fin _ h3 X3 t ?_ Z (Ask.gJ.no F O3);have:=(Good.Un (V:=V) (b:=b) (data:=data) E.G E.H.ord E.hk w.1).r;omega
 .have F:=u.tt n;have r:=E.on F;have t:tH V a data=EZ (Ask.bad a e):=by unfold tH;rw[y]
  rw[ae (cR hn)];subst v;refine fin (Ask.bad a e) G X t (by have:=E.G.r;have:=E.hk;show a.rf<=_;omega) r.H (gJ.bad z P (bw.gT F))

end pg
end
section
namespace Ask
open jG (Ev dt)
open dK (SS Good)
open Go.fV (RD)
abbrev lB:Ev:=⟨true,7,0,⟨#[]⟩,⟨#[]⟩⟩
abbrev Uy:Ev:=⟨true,7,1,⟨#[]⟩,⟨#[]⟩⟩
def q1:Rq:=⟨1,1,Uy,.zero,0,0,0, [],0,0,false⟩
def q2(n:Nat)(id:Nat):Rq:=⟨id,7,Uy,.zero,0,0,(n:Int), [],0,0,false⟩
def q3(id:Nat)(k:Int):Rq:=⟨id,k,.zero,.zero,0,1,0, [],0,0,false⟩
def q4:Rq:=⟨2,4,Uy,Uy,0,0,0, [120],9,0,false⟩
def q6:Rq:=⟨2,6,Uy,.zero,0,0,0, [],0,0,false⟩

end Ask
end
section
namespace Ask
open jG (Ev dt lC)
open dK (SS Good Pt oN Mk Bk)
open Go.fV (RD)
variable {V:cG→Bool} {h a b f:ai} {R:fO} {s c:Nat} {X g:Ft} {I:oN} {p:ct} {x:Rq} {L:List (Nat × aq.S)}
variable {d:cG}
theorem jd(e: hH h R (lC lB)):Cl 6 #[] h R:=JC.walk (aw.fK (x:=lB.s) λ_ f _ H F=>aw.fz (x:=lB.s) H (e f F))
theorem tZ:dK.JB lB:=⟨dA,λe=>by cases cf Ev.lE e⟩
def Bx(h:ai)(X:Ft)(L:List (Nat×aq.S)):Prop:= ∀e∈L,aq.fD h e.1 e.2/\¬X.M e.1
def Rw(h:ai)(X:Ft)(p:ct)(d:cG):Prop:=Row h p (bc d)/\(d≠ []->∀z,aP p z->¬X.M z)
theorem Rw.step(B:Rw h X p d)(S:bw X h g a):Rw a g p d:=by
 by_cases H:d= []
 .subst H;exact⟨Row.nil,λe=>absurd rfl e⟩
 .refine⟨B.1.frame S.fr (λA E k=>B.2 H A.block ⟨A,E,rfl⟩ k),λ_ z i j=> ?_⟩;rcases S.hN z j with A|A
  .exact B.2 H z i A
  .have:=jh B.1 (by simpa[bc]using H) i;omega
theorem Rw.on(B:Rw h X p d)(F:Fr No h a):Rw a X p d:=⟨B.1.frame F bX,B.2⟩
theorem En.JK(U:Cb.kr V b)(mx:nR.Mx b)(F:Fr No b f)(H:Pt h s X I (dK.mG lB))(u:Nb f X h):En V b h s X I (dK.mG lB) 0:=
 ⟨H,dK.Good.new tZ.1 tZ.2 dS,ag,⟨F.tt u.fr,λc e=>db F.1 (u.ge c e)⟩,U,mx⟩

end Ask
end
section
namespace pg
open dK (SS Good Pt oN Mk Bk)
open Go.Proofs.YtkdgpmeojgokdaaGreatDoor.Ask (En gJ y0 iG EU rS Rw qc)
open Go.fV (RD)
variable {V:cG→Bool} {h H i f g:ai} {R:fO} {s k B c d:Nat} {X b:Ft} {I:oN} {a:SS} {p q:ct} {x:qI} {o:Hq}
variable {D:cG}
structure JM (X:Ft) (h:ai) (B:Nat) (o:Hq) (b:Ft) (H:ai):Prop where
 fr:Fr (λy=>X.M y\/y=B) h H
 hN: ∀c,b.M c->X.M c\/h.size<=c
 ji: ∀c,b.D c->X.D c\/h.size<=c
 mz: ∀c,X.D c->b.D c
 at': ∃y,aq.fD H B y/\(o.e=0->∃p c,y=rS o.y p c/\Row H p (bc o.y.b)/\(o.y.b≠ []->∀z,aP p z->(h.size<=z\/b.D z)/\¬b.M z))
theorem JM.of(S:bw X h b f)(F:Fr (λy=>y=B) f H)(at': ∃y,aq.fD H B y/\(o.e=0->∃p c,y=rS o.y p c/\Row H p (bc o.y.b)/\(o.y.b≠ []->∀z,aP p z->(h.size<=z\/b.D z)/\¬b.M z))):JM X h B o b H:=
 ⟨S.fr.trans F (λ_ _ A=> .inl A) (λ_ _ e=> .inr e),S.hN,S.ji,S.mz,at'⟩
theorem JM.nil{y:RD}{e:Int}(S:bw X h b f)(F:Fr (λy=>y=B) f H)(l:aq.fD H B (rS y none 0))(j:y.b= []):JM X h B ⟨a,e,y⟩ b H:=
 JM.of S F ⟨_,l,λ_=>⟨none,0,rfl,by rw[show(⟨a,e,y⟩:Hq).y.b= []from j];exact Row.nil,λe=>absurd j e⟩⟩
theorem Rp{e:Bn.mq}:(tY V a e D).d= []:=by
 unfold tY;split
 .rfl
 .split
  .rfl
  .split
   .rfl
   .split
    .rfl
    .split<;>rfl
theorem Tc :(tH V a D).d= []:=by
 unfold tH EZ;split
 .split<;>rfl
 .split<;>exact Rp
theorem PN{d:cG}{y:aq.S}(r:Row h q (bc d))(u:aq.fD h B y)(n:d≠ [])(A:Addr)(E:q=some A):A.block≠B:=by
 intro m;subst E;obtain⟨x,t,rfl⟩:=List.exists_cons_of_ne_nil n;have j:=r.cell (j:=0) (v:=.int .u8 (x.toNat:Int)) rfl;unfold aU at j;rw[show(A.add 0).block=B from m,u]at j;dsimp only at j;split at j
 .cases j
 generalize (A.add 0).off=l at j;rcases l with _|_|_|_|_|_|l
 .have e:=aX (show some (Value.U y.f0)=some _ from j);cases e
 .have e:=aX (show some (Value.I y.f1)=some _ from j);cases e
 .have e:=aX (show some (Value.I y.f2)=some _ from j);cases e
 .have e:=aX (show some (Value.I y.f3)=some _ from j);cases e
 .have e:=aX (show some (Value.U y.f4)=some _ from j);cases e
 .have e:=aX (show some (Value.slice y.TR y.f5l y.TT)=some _ from j);cases e
 .have e:(none:Option Value)=some _:=j;cases e
theorem MV(E:En V i h s X I a k)(u':k+2<=30000)(x:qI)(rx:Row h p (bc x.iM.mh))(cx:x.iM.mh.length<=c)(dx:Rw h X q x.data)(cd:x.data.length<=d)(w1:0<=x.iM.ep.gL)(w2:0<=x.iM.dest.gL)(j:aq.fD h B (y0 0))(Q: ¬(X.M B\/X.D B))(hk: ∀H b,Pt H s b I (iI V a x).σ->JM X h B (iI V a x) b H->R (.I (iI V a x).e) H):
  Cl 25 #[pt s,(x.s p c q d).agg,.P B 0] h R:=by
 refine Cw.walk (aM.cW (x:=x.s p c q d) λq' f eb C l=>⟨_,au C,aG.of λt' hJ=>aG.of λJ1 f'=> ?_⟩);have z:=E.on l;have P: ¬X.M B:=λe=>Q (.inl e)
 have zo:=aA j;have J:=l.get j id;have n': ¬X.M q':=E.nM ag;have F: ∀g b,Pt g s b I (iI V a x).σ->JM X h B (iI V a x) b g->J1 (iI V a x).e g:=by
  intro g b p' O;subst f';subst hJ;exact hk g b p' O
 clear hJ f' hk;unfold iI at F;by_cases k1:x.kind=1
 .rw[af k1]at F;rw[af (Ask.bq.2 k1)];obtain⟨Z,A,zm,zd,go⟩:=z.H.use 0;refine⟨_,au z.H.di,_,au C,fu.zu x.token rfl A E.G.a λn K T s2=> ?_⟩;obtain⟨w,t,S,_,_⟩:=go n K { a with A:=fu.wa a.A x.token } T s2 (λe' G=>dK.sc _ G);have r:=bw.no l S;refine⟨_,_,rfl,iG (z:=⟨0,0,fu.G3 a.A x.token,0,0,none,0,0⟩) (S.fr.get J P) dS rfl λM d3 m=>⟨_,au (m.get (S.fr.get C n') ag),iG (z:=⟨0,0,fu.G3 a.A x.token,0,x.token,none,0,0⟩) d3 dS rfl λh4 L u=> ?_⟩⟩;exact F h4 w (t.frame (m.tt u) (λy j e=>qc r Q zo y j e)) (JM.nil r (m.tt u) L rfl)
 rw[ae k1]at F;rw[ae (λe=>k1 (Ask.bq.1 e))];refine aG.of λJ2 g'=> ?_
 have e2:J2=J1:=g';clear g';subst e2;by_cases k2:x.kind=2
 .rw[af k2]at F;rw[af (Ask.bq.2 k2)];obtain⟨Z,A,zm,zd,go⟩:=z.H.use 0;refine⟨_,au z.H.di,_,au C,fu.Mi x.token rfl A E.G.a λn K T s2=> ?_⟩;obtain⟨w,t,S,_,_⟩:=go n K { a with A:=fu.Mh a.A x.token } T s2 (λe' G=>dK.sc _ G);have r:=bw.no l S;refine⟨_,_,rfl,iG (z:=⟨0,0,fu.O8 a.A x.token,0,0,none,0,0⟩) (S.fr.get J P) dS rfl λM d3 m=>⟨_,au (m.get (S.fr.get C n') ag),iG (z:=⟨0,0,fu.O8 a.A x.token,0,x.token,none,0,0⟩) d3 dS rfl λh4 L u=> ?_⟩⟩;exact F h4 w (t.frame (m.tt u) (λy j e=>qc r Q zo y j e)) (JM.nil r (m.tt u) L rfl)
 rw[ae k2]at F;rw[ae (λe=>k2 (Ask.bq.1 e))];refine aG.of λJ3 h'=> ?_
 have e3:J3=J2:=h';clear h';subst e3;by_cases k3:x.kind=3
 .rw[af k3]at F;rw[af (Ask.bq.2 k3)];obtain⟨Z,A,zm,zd,go⟩:=z.H.use 0;refine⟨_,au z.H.di,_,au C,fu.vQ A E.G.a λn K T s2=> ?_⟩;obtain⟨w,t,S,_,_⟩:=go n K { a with A:=fu.Dg a.A x.ses } T s2 (λe' G=>dK.sc _ G);have r:=bw.no l S;exact⟨_,rfl,F n w t (JM.nil (y:=RD.zero) r (Fr.refl _ _) (S.fr.get J P) rfl)⟩
 rw[ae k3]at F;rw[ae (λe=>k3 (Ask.bq.1 e))];refine aG.of λJ4 i'=> ?_
 have e4:J4=J3:=i';clear i';subst e4;by_cases k4:x.kind=4
 .rw[af k4]at F;rw[af (Ask.bq.2 k4)];refine⟨_,au C,LZ C (Ask.Ta z ag w1 w2 (rx.frame l bX) cx λn w q2 d2 t S o' m'=>aq.ex (rS (Ask.ER V a x.ses x.iM).2 q2 d2) ⟨rfl,aq.gX (x:=rS (Ask.ER V a x.ses x.iM).2 q2 d2) (S.fr.get J P) λM d3 m _=> ?_⟩)⟩;have r:=bw.no l S;have d':Fr (λy=>y=B) n M:=m;refine F M w (t.frame d' (λy j e=>qc r Q zo y j e)) (JM.of r d' ⟨_,d3,λ_=>⟨q2,d2,rfl,?_,λhd y j=>⟨(m' hd y j).1.imp (λU=>db l.1 U) id,(m' hd y j).2⟩⟩⟩);by_cases hd:(Ask.ER V a x.ses x.iM).2.b= []
  .show Row M q2 (bc (Ask.ER V a x.ses x.iM).2.b);rw[hd];exact Row.nil
  .exact o'.frame d' (λU ea e=>PN o' (S.fr.get J P) hd U ea e)
 rw[ae k4]at F;rw[ae (λe=>k4 (Ask.bq.1 e))];refine aG.of λJ5 j'=> ?_
 have e5:J5=J4:=j';clear j';subst e5;by_cases k5:x.kind=5
 .rw[af k5]at F;rw[af (Ask.bq.2 k5)];refine⟨_,_,_,au C,MU (data:=x.data) z ag (dx.1.frame l bX) cd (λb' U ea=>dx.2 b' U.block ⟨U,ea,rfl⟩) J Q λn w t O2=>⟨_,rfl,?_⟩⟩;have O:=Ask.gJ.no l O2;refine F n w t ⟨O.fr,O.hN,O.ji,O.mz,?_⟩;obtain⟨y,j,hx⟩:=O.at';refine⟨y,j,λhe=> ?_⟩;obtain⟨p2,c2,ey,r2,_⟩:=hx he;rw[Tc]at ey r2;exact⟨p2,c2,ey,r2,λe=>absurd rfl e⟩
 rw[ae k5]at F;rw[ae (λe=>k5 (Ask.bq.1 e))];refine aG.of λJ6 k'=> ?_
 have e6:J6=J5:=k';clear k';subst e6;by_cases k6:x.kind=6
 .rw[af k6]at F;rw[af (Ask.bq.2 k6)];refine dK.vV z.H E.G ag (λhn n f2=>aI.ex .z ⟨_,rfl,aI.fK (x:=.z) λb2 M r' a' m=> ?_⟩) (λc' v' G n w v ev t S vk=>aI.ex ⟨v.num,v.owner,v.v.p,v.v.b.length,v.v.c,v.fS⟩ ⟨_,rfl,aI.fK (x:=⟨v.num,v.owner,v.v.p,v.v.b.length,v.v.c,v.fS⟩) λb2 M r' a' m=> ?_⟩)
  .rw[hn]at F;have F3:=l.tt (f2.tt m);have z1:=(l.tt f2).1;refine⟨_,au a',_,_,_,au a',iG (z:=⟨0,0,0,0,0,none,0,0⟩) (F3.get j id) dS rfl λh4 L u=>⟨EU u (b:=b2) ag bU,iG (z:=⟨0,0,0,0,0,none,0,0⟩) L dS rfl λh5 d5 f5=> ?_⟩⟩;exact F h5 X ((E.H.on F3).frame (u.tt f5) (λy j e=>Q (e▸j))) (JM.nil (y:=RD.zero) (bw.gT F3) (u.tt f5) d5 rfl)
  .rw[G]at F;have r:=bw.no l S;have z1:=l.1;have z2:=S.fr.1;have nx:=qc r Q zo;refine⟨_,au a',_,_,_,au a',iG (z:=⟨0,0,v.num,0,0,none,0,0⟩) (m.get (S.fr.get J P) id) dS rfl λh4 L u=>⟨EU u (b:=b2) ag bU,iG (z:=⟨0,0,v.num,0,0,v.v.p,v.v.b.length,v.v.c⟩) L dS rfl λh5 d5 f5=> ?_⟩⟩;have s':=vk.frame (m.no (u.tt f5)) (λy j e=>nx y (.inr j) e);subst ev;refine F h5 w ((t.on m).frame (u.tt f5) nx) (JM.of (r.on m) (u.tt f5) ⟨_,d5,λ_=>⟨v.v.p,v.v.c,rfl,s'.row,λb' c' A=>⟨.inr (vk.own b' c' A),λhm=>t.vx c' hm (vk.own b' c' A)⟩⟩⟩)
 rw[ae k6]at F;rw[ae (λe=>k6 (Ask.bq.1 e))];refine aG.of λJ7 l'=> ?_
 by_cases k8:x.kind=8
 .rw[af k8]at F;rw[af (Ask.bq.2 k8)];obtain⟨Z,A,zm,zd,go⟩:=z.H.use 0;refine⟨_,au z.H.di,fu.Je A E.G.a λn K T s2=> ?_⟩;obtain⟨w,t,S,_,_⟩:=go n K { a with A:=fu.nG a.A } T s2 (λe' G=>dK.sc _ G);have r:=bw.no l S;subst l';exact⟨rfl,F n w t (JM.nil (y:=RD.zero) r (Fr.refl _ _) (S.fr.get J P) rfl)⟩
 rw[ae k8]at F;rw[ae (λe=>k8 (Ask.bq.1 e))];subst l';exact F f X z.H (JM.nil (y:=RD.zero) (bw.gT l) (Fr.refl _ _) J rfl)

end pg
end
section
namespace pg
open dK (SS Good Pt oN Mk Bk)
open Go.Proofs.YtkdgpmeojgokdaaGreatDoor.Ask (En gJ y0 iG EU rS Rw qc BG lG)
open Go.fV (RD)
variable {V:cG→Bool} {h H f i g:ai} {R:fO} {s k c d:Nat} {X b:Ft} {I:oN} {a:SS} {p q:ct} {x:qI}
theorem PO{n r:Nat}(B:Bk h s I n r)(e:R (.B true) h):Cl 22 #[pt s] h R:=by
 refine HG.walk ?_;repeat (first|exact e|refine⟨_,au B,?_⟩|rw[af rfl])
theorem Good.apply(G:dK.Good a k)(O:gY.Ord a.C)(Op:gY.Ord (dK.yj a x.now).C)(L:List Go.kU.E)(t:iB.okB a.B L)(n:k+1<=30000)(r: ∀B,Bn.kW V x.data=.ok B->0<=B.p.dest.gL)(o:0<=x.iM.ep.gL):dK.Good (dj V a x).σ (k+3):=by
 have j:=dK.Good.pass G O L t ag x.now;have m:=dK.Good.more (dK.Good.more (dK.Good.more G));unfold dj;split
 .split
  .rename_i l;have e:dK.yj a x.now=dK.qq a x.now:=af l;rw[e]at j Op;have:=Good.S1 (V:=V) (x:=x) j Op n r o;split<;>exact this
  .exact m
 .exact m
theorem PQ{t:Cb.Tr}{p:Bn.Prim}(h:Bn.tV V t=.ok p):p.wf:=by
 unfold Bn.tV at h;split at h
 .cases h
 .split at h
  .split at h
   .rename_i d r m e l j;split at h
    .split at h
     .cases h;exact⟨(Bn.vM e).1,(Bn.vM l).1,Bn.uy j⟩
     .cases h
    .cases h
   .cases h
  .cases h
theorem Rr{D:cG}{B:Bn.mq}(h:Bn.kW V D=.ok B):B.p.wf:=by
 unfold Bn.kW at h;split at h
 case isFalse=>cases h
 split at h
 .cases h
 split at h
 case isFalse=>cases h
 split at h
 .cases h
 rename_i p e;split at h
 .cases h
 split at h
 .cases h;exact PQ e
 .cases h
def Td(h H:ai)(b:Ft)(p:ct)(d:cG):Prop:=Row H p (bc d)/\(d≠ []->∀z,aP p z->(h.size<=z\/b.D z)/\¬b.M z)
theorem Td.nil:Td h H b none []:=⟨Row.nil,λe=>absurd rfl e⟩
theorem DA(E:En V f h s X I a k)(d':k+3<=30000)(x:qI)(rx:Rw h X p x.iM.mh)(cx:x.iM.mh.length<=c)(dx:Rw h X q x.data)(cd:x.data.length<=d)(w1:0<=x.iM.ep.gL)(w2:0<=x.iM.dest.gL)(w: ∀H b Q D,En V f H s b I (dj V a x).σ (k+3)->bw X h b H->Td h H b Q (dj V a x).y.b->R (.T #[(rS (dj V a x).y Q D).agg,.I (dj V a x).e]) H):
  Cl 9 #[pt s,(x.s p c q d).agg] h R:=by
 refine Fa.walk (aM.cW (x:=x.s p c q d) λf' i eb hb f1=>aq.cW (x:=.z) λB h2 s' a' f2=>PO ((f1.tt f2).get E.H.di id) ⟨_,rfl,?_⟩);rw[dy];have K:=f1.tt f2;have z1:=f1.1;have z2:=f2.1;have E2:=E.on K;have c':=f2.get hb id;have u':=E.hk;obtain⟨L,ok⟩:=E.H.okB;have bad: ∀g (e:Int),Fr No h2 g->dj V a x=⟨a,e,RD.zero⟩->aq.du g (AA B 0) aq.S.z λh4=>aq.cC h4 (AA B 0) λr0=>R (.T #[r0.agg,.I e]) h4:=by
  intro g e n he;rw[he]at w;refine BG (n.get a' id) λG F=> ?_
  have FF:=(K.tt n).fresh F (λy e=>ag);have Eg:=E.on FF;exact w G X none 0 ⟨Eg.H,dK.Good.more (dK.Good.more (dK.Good.more E.G)),d',Eg.u,Eg.U,Eg.mx⟩ (bw.gT FF) Td.nil
 refine aM.fz (x:=x.s p c q d) c' (L4 x E.U E2.u.fr E2.SY (rx.on K).1 (dx.on K).1 cd λh3 j=>⟨_,rfl,?_⟩);have M:=K.tt j;have E3:=E.on M;cases cr:zy V x with
 |false=>rw[gi];exact bad h3 3 j (by unfold dj;rw[cr];rfl)
 |true=>
 rw[dy];refine⟨_,au (j.get c' id),dK.wh x.now rfl E3.H E3.G ag λh4 t r S=>⟨_,rfl,?_⟩⟩;have nb: ¬X.M f':=E.nM ag;have e': ¬X.M B:=E.nM ag;have p':=S.fr.get (j.get c' id) nb;have h':=S.fr.get (j.get a' id) e';by_cases C:dK.qp a x.now=0
 case neg=>
  rw[af (cR C)];have T:dK.yj a x.now=a:=ae C;have eA:dj V a x=⟨a,dK.qp a x.now,RD.zero⟩:=by unfold dj;rw[af cr,ae C]
  rw[eA]at w;rw[T]at r;refine BG h' λG F=> ?_
  have l:=bw.no M S;have z3:=l.fr.1;have nx: ∀y,t.M y\/t.D y->¬y=B:=λy o e=>by
   subst e;have lt:=aA (j.get a' id);rcases o with A|A
   .rcases S.hN _ A with A|A
    .exact e' A
    .omega
   .rcases S.ji _ A with A|A
    .have:=E.H.lt y (.inr A);omega
    .omega
  have l':bw X h t G:=⟨l.fr.trans F bX (λy o e=>ag),l.hN,l.ji,l.mz⟩;exact w G t none 0 (E.step (r.frame F nx) l' (dK.Good.more (dK.Good.more (dK.Good.more E.G))) d') l' Td.nil
 rw[ae (cR C)];have T:dK.yj a x.now=dK.qq a x.now:=af C;rw[T]at r;have G4:=dK.Good.pass E.G E.H.ord L ok ag x.now;rw[T]at G4;have l:=bw.no M S;have E4:=E.step r l G4 ag;have Gf:dK.Good (dj V a x).σ (k+3):=Good.apply E.G E.H.ord (by rw[T];exact r.ord) L ok ag (λf' hb=>(Rr hb).1) w1;have v':=aA (j.get a' id);have z4:=S.fr.1;have z3:=j.1;have k': ¬t.M B:=λhm=>(S.hN _ hm).elim e' (λA=>ag)
 have o': ¬t.D B:=λhm=>(S.ji _ hm).elim (λA=>bW (E.H.lt B (.inr A))) (λA=>ag)
 refine aq.cW (x:=.z) λb2 h5 t' q' m=>aM.fz (x:=x.s p c q d) (m.get p' id) (MV (E4.on m) ag x (((rx.on M).step S).on m).1 cx (((dx.on M).step S).on m) cd w1 w2 q' (λe=>bW (r.lt b2 e)) λh6 u H6 O=>⟨_,rfl,?_⟩)
 have z5:=m.1;have z6:=O.fr.1;have b':bw X h u h6:=by
  have z:=l.on m;have zz:=z.fr.1;refine⟨z.fr.trans O.fr bX (λc v hx=>hx.elim (λA=>(z.hN c A).resolve_right ag) (λe=>ag)),λc v=> ?_,λc v=> ?_,λc v=>O.mz c (z.mz c v)⟩
  .rcases O.hN c v with A|A
   .exact z.hN c A
   .right;omega
  .rcases O.ji c v with A|A
   .exact z.ji c A
   .right;omega
 have i':=O.fr.get (m.get h' id) (λe=>e.elim k' (λe=>ag));have r': ∀y,u.M y\/u.D y->¬y=B:=λy o e=>by
  subst e;rcases o with A|A
  .exact(O.hN _ A).elim k' (λA=>ag)
  .exact(O.ji _ A).elim o' (λA=>ag)
 have j': ∀g J Q D,Fr No h6 g->dj V a x=⟨(iI V (dK.qq a x.now) x).σ,0,J⟩->Td h g u Q J.b->aq.du g (AA B 0) (rS J Q D) λg'=>aq.cC g' (AA B 0) λr0=>R (.T #[r0.agg,.I 0]) g':=by
  intro g J Q D n he Z;rw[he]at w Gf;refine BG (n.get i' id) λG F=> ?_
  have m':bw X h u G:=⟨(b'.fr.on n).trans F bX (λy o e=>ag),b'.hN,b'.ji,b'.mz⟩;refine w G u Q D (E.step ((H6.on n).frame F r') m' Gf d') m' ?_;refine⟨?_,Z.2⟩;by_cases U:J.b= []
  .show Row G Q (bc J.b);rw[U];exact Row.nil
  .exact Z.1.frame F (λA ea e=>PN Z.1 (n.get i' id) U A ea e)
 by_cases P:(iI V (dK.qq a x.now) x).e=0
 .rw[ae (by rw[P];decide)];obtain⟨y,o,hx⟩:=O.at';obtain⟨Q,D,rfl,Z,hn⟩:=hx P;exact aq.fz o (j' h6 _ Q D (Fr.refl _ _) (by unfold dj;rw[af cr,af C,af P]) ⟨Z,λU n' hz=>⟨(hn U n' hz).1.imp (λA=>ag) id,(hn U n' hz).2⟩⟩)
 .rw[af (cR P)];refine yd.lW 0 rfl _ λh7 f7=>aq.ex (rS (lG 0 (iI V (dK.qq a x.now) x).e) none 0) ⟨rfl,?_⟩
  exact j' h7 (lG 0 (iI V (dK.qq a x.now) x).e) none 0 f7 (by unfold dj;rw[af cr,af C,ae P]) Td.nil
theorem HK(E:En V f h s X I a k)(n:k+3<=30000)(x:qI)(r:Rw h X p x.iM.mh)(j:x.iM.mh.length<=c)(l:Rw h X q x.data)(C:x.data.length<=d)(w:0<=x.iM.ep.gL)(t:0<=x.iM.dest.gL)(m: ∀H b Q D,En V f H s b I (dj V a x).σ (k+3)->bw X h b H->Rw H b Q (dj V a x).y.b->R (.T #[(rS (dj V a x).y Q D).agg,.I (dj V a x).e]) H):
  Cl 9 #[pt s,(x.s p c q d).agg] h R:=
 DA E n x r j l C w t λH b Q D A B c=>m H b Q D A B ⟨c.1,λe z o=>(c.2 e z o).2⟩

end pg
end
section
namespace pg
open jG (Ev lC)
open dK (SS Good Pt oN Mk Bk)
open Go.Proofs.YtkdgpmeojgokdaaGreatDoor.Ask (En rS Rw Bx jd tZ lG lB)
open Bn (mq kW jN nz)
open Go.fV (RD)
variable {V:cG→Bool} {a:SS}
abbrev ev(n:Nat)(k:Int)(t:Nat)(d:cG):qI:=⟨n,k,t,0,Rq.none,d⟩
def dX:cG:= [159,136,7,0,0,130,1,0,130,1,0,130,1,0,130,0,0,0,133,1,1,0,0,65,120,255]
def V0:cG->Bool:=λ_=>true
def s1:SS:=(dj V0 (dK.mG Ask.lB) (ev 3 1 5 [])).σ
def s2:SS:=(dj V0 s1 (ev 4 5 0 dX)).σ
def s4:SS:=(dj V0 s2 (ev 9 8 0 [])).σ
theorem a1:dj V (dK.mG Ask.lB) (ev 3 1 5 [])=⟨s1,0,⟨0,0,1,0,5, []⟩⟩:=dA
theorem a2:dj V s1 (ev 4 5 0 dX)=⟨s2,0,lG 0 4⟩:=dA
theorem a3:dj V s2 (ev 3 7 0 [])=⟨s2,18,RD.zero⟩:=dA
theorem a5:dj V s4 (ev 8 7 0 [])=⟨s4,18,RD.zero⟩:=dA

end pg
end
section
namespace pg
open jG (Ev lC)
open dK (SS Good Pt oN Mk Bk)
open Go.Proofs.YtkdgpmeojgokdaaGreatDoor.Ask (En rS Rw Bx jd tZ lG lB)
open Go.fV (RD)
variable {h a H:ai} {R:fO} {s k c d:Nat} {p q:ct} {x:qI} {L:List (Nat × aq.S)}
structure EV where
 x:qI
 p:ct
 c:Nat
 q:ct
 d:Nat
abbrev EV.cs(f:EV):aM.S:=f.x.s f.p f.c f.q f.d
abbrev yZ(f:EV):List Value:=f.cs.l
theorem PR(f:EV):(yZ f).length=24:=rfl
structure EV.ok (h:ai) (f:EV):Prop where
 r1:Row h f.p (bc f.x.iM.mh)
 c1:f.x.iM.mh.length<=f.c
 r2:Row h f.q (bc f.x.data)
 c2:f.x.data.length<=f.d
 w1:0<=f.x.iM.ep.gL
 w2:0<=f.x.iM.dest.gL
theorem Uz:vo Tryz.prog 8 37=some [27,3,27,3,27,3,4,27,27,9,9,4,27,27,9,9,3,3,3,33,27,27,4,33]:=dA
theorem qG.PS{n:Nat}{v:Value}(f:qG Tryz.prog h n 33 [v]): ∃p c b,v=.slice p (b:cG).length c/\Row h p (bc b)/\b.length<=c:=by
 obtain⟨p,c,b,rfl,m⟩:=qG.bytes dA mi.u8 mi.uU f;refine⟨p,c,b,rfl,m,?_⟩;cases n with
 |zero=>exact f.elim
 |succ n=>
  unfold qG at f;rw[mi.uU]at f;rcases f with g|⟨A,l,C,g,H,_⟩
  .injection g with e _
   injection e with E i j
   omega
  .injection g with e _
   injection e with E i j
   omega
theorem Rs{m : Nat}{v : Value}(b : qG Tryz.prog h m 9 [v]): ∃ s, v = .string s := by
  cases m with
  | zero => exact b.elim
  | succ m =>
    unfold qG at b
    rw [show Tryz.prog.underlying 9 = some .string by kernel_rfl] at b
    obtain ⟨s, e, _⟩ := b
    exact ⟨s, by simpa using e⟩
theorem Te(n:Nat)(C:List Value)(b:C.length=24)(r:qG Tryz.prog h n 37 C): ∃f:EV,C=yZ f/\f.ok h:=by
 have L:=zZ 8 n _ _ C Uz (by rw[b];rfl) r
 match C,b with
 | [v0,v1,v2,v3,v4,v5,v6,v7,v8,v9,d',e',f',g',h',i',j',k',l',m',n',o',p',q'],_=>
  obtain⟨K,rfl,w0⟩:=L.int 0 rfl rfl (k:=.u64) dA;obtain⟨t,rfl,_⟩:=L.int 1 rfl rfl (k:=.i64) dA;obtain⟨e,rfl,w2⟩:=L.int 2 rfl rfl (k:=.u64) dA;obtain⟨I,rfl,_⟩:=L.int 3 rfl rfl (k:=.i64) dA;obtain⟨j,rfl,w4⟩:=L.int 4 rfl rfl (k:=.u64) dA;obtain⟨J,rfl,_⟩:=L.int 5 rfl rfl (k:=.i64) dA;obtain⟨M,rfl⟩:=L.bool 6 rfl rfl dA;obtain⟨O,rfl,_⟩:=L.int 7 rfl rfl (k:=.u64) dA;obtain⟨P,rfl,w8⟩:=L.int 8 rfl rfl (k:=.u64) dA;obtain⟨_,Z⟩:=L.get 9 rfl rfl;obtain⟨Q,rfl⟩:=Rs Z;obtain⟨_,S⟩:=L.get 10 rfl rfl;obtain⟨u,rfl⟩:=Rs S;obtain⟨v,rfl⟩:=L.bool 11 rfl rfl dA;obtain⟨w,rfl,_⟩:=L.int 12 rfl rfl (k:=.u64) dA;obtain⟨y,rfl,a'⟩:=L.int 13 rfl rfl (k:=.u64) dA;obtain⟨_,T⟩:=L.get 14 rfl rfl;obtain⟨z,rfl⟩:=Rs T;obtain⟨_,U⟩:=L.get 15 rfl rfl;obtain⟨A,rfl⟩:=Rs U;obtain⟨D,rfl,_⟩:=L.int 16 rfl rfl (k:=.i64) dA;obtain⟨E,rfl,_⟩:=L.int 17 rfl rfl (k:=.i64) dA;obtain⟨F,rfl,_⟩:=L.int 18 rfl rfl (k:=.i64) dA;obtain⟨_,V⟩:=L.get 19 rfl rfl;obtain⟨p,c,B,rfl,r1,m⟩:=qG.PS V;obtain⟨g,rfl,b'⟩:=L.int 20 rfl rfl (k:=.u64) dA;obtain⟨i,rfl,c'⟩:=L.int 21 rfl rfl (k:=.u64) dA;obtain⟨G,rfl⟩:=L.bool 22 rfl rfl dA;obtain⟨_,X⟩:=L.get 23 rfl rfl;obtain⟨q,d,l,rfl,r2,o⟩:=qG.PS X;obtain⟨K,rfl⟩:=eI (wf_u64 w0).1;obtain⟨e,rfl⟩:=eI (wf_u64 w2).1;obtain⟨j,rfl⟩:=eI (wf_u64 w4).1;obtain⟨g,rfl⟩:=eI (wf_u64 b').1;obtain⟨i,rfl⟩:=eI (wf_u64 c').1;exact⟨⟨⟨K,t,e,I,⟨j,J,⟨M,O,P,Q,u⟩,⟨v,w,y,z,A⟩,D,E,F,B,g,i,G⟩,l⟩,p,c,q,d⟩,rfl,⟨r1,m,r2,o,(wf_u64 w8).1,(wf_u64 a').1⟩⟩
theorem PT{l:Nat}(j:rk Tryz.prog h 22 (.L p l c)): ∃fs:List EV,fs.length=l/\Row h p (fs.flatMap yZ)/\∀f∈fs,f.ok h:=by
 obtain⟨X,H,_,_,b,e⟩:=rk.slice (e:=37) yZ 24 (λf=>f.ok h) dA (λ_=>rfl) (λn C g i=>Te n C g i) dA j;exact⟨X,H,b,e⟩
theorem PU(f:EV)(l: ∀a b,Fr No h a->R (.B b) a):Cl 7 #[f.cs.agg] h R:=by
 refine HJ.walk (aM.cW (x:=f.cs) λb H r j m=>LZ j (HI.walk (aF.cW (x:=f.x.iM.s f.p f.c) λB e u g i=>⟨_,_,_,au g,?_⟩)));have F:=m.tt i;have E: ∀v:Bool,∃t,Value.bool v=.B t/\if t=true then R (.B true) e else∃o T n,aU e (AA b 23)=some (.L o T n)/\R (.B (decide (((T:Nat):Int)>1300))) e:=by
  intro v;refine⟨v,rfl,?_⟩;split
  .exact l e _ F
  .exact⟨_,_,_,au (i.get j id),l e _ F⟩
 split
 .exact E _
 .exact⟨_,au g,_,au g,_,au g,_,au g,E _⟩

end pg
end
section
namespace PV
open dK (SS)
open pg (qI dj)
open Go.fV (RD)
variable {V:cG→Bool} {a b c:SS} {i n:Nat}
structure Ln where
 x:qI
 y:RD
 told:Bool
 lost:Bool
variable {L:List Ln} {l:Ln}
def jg(V:cG->Bool)(first:Nat):Nat->SS->List Ln->Nat
 |_,_, []=>first
 |i,a,l::d=>if l.lost=true then jg V first (i+1) a d
   else if first<=i then first
   else if(dj V a l.x).e=0/\(dj V a l.x).y.same l.y then jg V first (i+1) (dj V a l.x).σ d else i
def wr:List Ln->Nat
 | []=>0
 |l::d=>if l.told=true/\l.lost=true then 0 else wr d+1
def zD(V:cG->Bool):SS->List Ln->SS->Prop
 |a, [],b=>a=b
 |a,l::d,b=>l.told=false/\l.lost=false/\(dj V a l.x).e=0/\(dj V a l.x).y=l.y/\zD V (dj V a l.x).σ d b
theorem zD.app: ∀{L M:List Ln}{a:SS},zD V a L b->zD V b M c->zD V a (L++M) c
 | [],_,_,e,B=>by cases e;exact B
 |_::_,_,_,⟨A,B,C,d,e⟩,f=>⟨A,B,C,d,zD.app e f⟩
theorem zD.cut: ∀{L M:List Ln}{a:SS},zD V a (L++M) c->∃b,zD V a L b/\zD V b M c
 | [],_,_,h=>⟨_,rfl,h⟩
 |_::_,_,_,⟨A,B,C,d,e⟩=>by
  obtain⟨b,f,g⟩:=zD.cut e;exact⟨b,⟨A,B,C,d,f⟩,g⟩
theorem zD.snoc{x:qI}(A:zD V a L b)(h:(dj V b x).e=0):zD V a (L++ [⟨x,(dj V b x).y,false,false⟩]) (dj V b x).σ:=
 A.app ⟨rfl,rfl,h,rfl,rfl⟩
theorem zD.jg: ∀{L:List Ln}{a:SS}{i:Nat},zD V a L b->∀f,i+L.length<=n->jg V n i a (L++f)=jg V n (i+L.length) b f
 | [],_,_,e,f,_=>by cases e;rfl
 |l::L,a,i,⟨_,B,C,d,e⟩,f,h=>by
  have H:i+(L.length+1)<=n:=h;have:=zD.jg (i:=i+1) e f ag;show _=PV.jg V n (i+(L.length+1)) b f;rw[dk,PV.jg,ae (by rw[B];decide),dy,af ⟨C,RD.NS.2 d⟩,this,show i+1+L.length=i+(L.length+1) by omega]
theorem zD.wr: ∀{L:List Ln}{a:SS},zD V a L b->∀d,wr (L++d)=L.length+wr d
 | [],_,_,d=>by rw[da];show _=0+_;omega
 |l::L,a,⟨A,_,_,_,e⟩,d=>by
  show _=(L.length+1)+PV.wr d;rw[dk,PV.wr,ae (λq=>by rw[A]at q;cases q.1),zD.wr e d];omega
abbrev yq(V:cG->Bool)(a:SS)(L:List Ln):Nat:=jg V (wr L) 0 a L
theorem JN(A:zD V a L b)(h:l.told=false)(H:l.lost=true):yq V a (L++ [l])=L.length+1:=by
 have e:wr (L++ [l])=L.length+1:=by
  rw[A.wr];show _+(if l.told=true/\_ then 0 else 0+1)=_;rw[ae (λq=>by rw[h]at q;cases q.1)]
 show jg V _ 0 a _=_;rw[e,A.jg _ ag];show(if l.lost=true then L.length+1 else _)=_;rw[af H]
theorem JO{A B:List Ln}(h:zD V a (A++B) b)(g:l.told=true)(H:l.lost=true):yq V a (A++l::B)=A.length:=by
 obtain⟨c,d,f⟩:=h.cut;have e:wr (A++l::B)=A.length:=by
  rw[d.wr];show _+(if l.told=true/\l.lost=true then 0 else _)=_;rw[af ⟨g,H⟩];rfl
 show jg V _ 0 a _=_;rw[e,d.jg _ ag];show(if l.lost=true then jg V _ _ _ B else _)=_;rw[af H];cases B with
 |nil=>rfl
 |cons C B=>
  show(if C.lost=true then _ else if _ then _ else _)=_;rw[ae (by rw[f.2.1];decide),gi]

end PV
end
theorem Cx{H:Type}{E:TypeId×Value->H}{C:Checked}{o:Os}{f:FuncId}{F:Func}{s:ChangeSpec}{k:List PathCond}{apart l m A:Bool}{a:Assume}{X:World->Array Value->Prop}(r: ∀(w n:World)(args:Array Value),w.heap=n.heap->X w args->X n args)(I:ownKnob C.prog.godebug=none)(J:o.Started)(D:C.prog.inits.idxOf? f=none)(u:C.prog.funcs[f]? =some F)(K: ∃(w:World)(T:Tape)(i:Input),w.os=o/\(w.forCall T i).Shaped C.prog/\i.vars= []/\Input.okWide C.prog (w.forCall T i) .any w.heap.size f i/\
   ((s.pre E C.prog F k apart (w.forCall T i).memory i.args/\X (w.forCall T i).memory i.args)/\sizedMet E C.prog F (OpenSpec.ofChange s) apart (w.forCall T i).memory i.args)/\a.holds C.prog (lone (Frame.enter C.prog f i.args .normal) [] (w.forCall T i)))(q: ∀(b:World)(p:Nat)(args:Array Value)(d G:List (DataW H))(B:List MemPlace),b.ShapedOpen C.prog->(∀(j:Nat) t v,F.params[j]? =some t->args[j]? =some v->Value.okWide C.prog b .any p t v)->
   DataW.Whole E C.prog F.params.toList s.vars apart b args.toList d G B->X b args->Calls C.prog f args b λe c=> ∃v,e=.returned v/\s.post E C.prog F apart l m A b args v c):
  ReturnsInHanded a C o f .any (λw args=>(s.pre E C.prog F k apart w args/\X w args)/\sizedMet E C.prog F (OpenSpec.ofChange s) apart w args) (s.post E C.prog F apart l m A):=
 returnsInHanded_of_calls I J D K λw T i _ S _ O pre _=>by
  obtain⟨_,_,_,g,x,_,_,_,_,V⟩:=O;cases aX (x.symm.trans u);obtain⟨⟨⟨d,G,B,y,_⟩,z⟩,_⟩:=pre;refine(q (w.forCall T i) w.heap.size i.args d G B S V (DataW.Whole.of_heap (w':=w.forCall T i) (by rfl) y) (r _ _ _ (by rfl) z)).mono λe c h=> ?_
  obtain⟨v,rfl,h⟩:=h;exact ChangeSpec.post_blind h
theorem nR.Mx.MW{w:World}(h:w.ShapedOpen Tryz.prog):nR.Mx w.heap:=by
 obtain⟨m,H⟩:=cell_of_shapedOpen_int (g:=2) (t:=3) (zero:= #[.I 0]) (k:=.i64) h (aV dA) dA rfl dA dA dA;rw[lS]at H;exact⟨m,H⟩

section
variable {h:ai} {R:fO}
theorem oI.walk{S:ct}{s i:Nat} (H:Bd 0 s/\aN S λa=>Ka h (a.add (toNat 0*1)) λT=>Bd 1 s/\aN S λA=>Ka h (A.add (toNat 1*1)) λj=>Bd 2 s/\aN S λb=>Ka h (b.add (toNat 2*1)) λk=>Bd 3 s/\aN S λc=>Ka h (c.add (toNat 3*1)) λl=>Bd 4 s/\aN S λd=>Ka h (d.add (toNat 4*1)) λm=>Bd 5 s/\aN S λe=>Ka h (e.add (toNat 5*1)) λn=>Bd 6 s/\aN S λf=>Ka h (f.add (toNat 6*1)) λo=>Bd 7 s/\aN S λg=> ∃t,aU h (g.add (toNat 7*1))=some (.int .u8 t)/\R (.U (wrap .u64 ((nQ (wrap .u64 ((nQ (wrap .u64 ((nQ (wrap .u64 ((nQ (wrap .u64 ((nQ (wrap .u64 ((nQ (wrap .u64 ((nQ (wrap .u64 T)|||nQ (wrap .u64 ((wrap .u64 j)*2 ^ min (toNat 8) (IntKind.bits .u64)))).toNat:Int))|||nQ (wrap .u64 ((wrap .u64 k)*2 ^ min (toNat 16) (IntKind.bits .u64)))).toNat:Int))|||nQ (wrap .u64 ((wrap .u64 l)*2 ^ min (toNat 24) (IntKind.bits .u64)))).toNat:Int))|||nQ (wrap .u64 ((wrap .u64 m)*2 ^ min (toNat 32) (IntKind.bits .u64)))).toNat:Int))|||nQ (wrap .u64 ((wrap .u64 n)*2 ^ min (toNat 40) (IntKind.bits .u64)))).toNat:Int))|||nQ (wrap .u64 ((wrap .u64 o)*2 ^ min (toNat 48) (IntKind.bits .u64)))).toNat:Int))|||nQ (wrap .u64 ((wrap .u64 t)*2 ^ min (toNat 56) (IntKind.bits .u64)))).toNat:Int))) h):Cl 275 #[.L S s i] h R:=aS [(5,λ_=>pN 23),(9,λ_=>pN 47)] Tryz.func275 H
theorem uT.walk{K:ct}{f E:Nat} (hv:((0:Int)<=(f:Int)/\(f:Int)<=(E:Int))/\((0:Int)<=(f:Int)/\(f:Int)<=(f:Int))/\∃(I:ct->Nat->Nat->ai->Prop)(M:ct->Nat->Nat->ai->Nat),I (cQ K (toNat (f:Int)) 0 1) (toNat (f:Int)) (toNat (f:Int)) h/\∀(a:ct)(p P:Nat)(e:ai),I a p P e->if(decide ((p:Int)>0))then aG (λ(L:ct) (G F:Nat) (y:ai)=>(I L G F y/\M L G F y<M a p P e)) (λJ=>Bd 0 p/\aN a λl'=> ∃T,aU e (l'.add (toNat 0*1))=some (.int .u8 T)/\if(decide (T<128))then((0:Int)<=1/\1<=(p:Int))/\aG (λ(b1:Bool) (n:ai)=>aG (λ(Z':ct) (S' M':Nat) (J':ai)=>J Z' S' M' J') (λr=>if b1 then((0:Int)<=8/\8<=((p - (toNat 1):Nat):Int))/\aG (λ(b3:Bool) (C:ai)=>aG (λ(a0:ct) (T' O':Nat) (K':ai)=>r a0 T' O' K') (λu=>if b3 then((0:Int)<=16/\16<=(((p - (toNat 1)) - (toNat 8):Nat):Int))/\∃(l:ct->Nat->Nat->ai->Prop)(D:ct->Nat->Nat->ai->Nat),l (cQ (cQ (cQ a P (toNat 1) 1) (P - (toNat 1)) (toNat 8) 1) ((P - (toNat 1)) - (toNat 8)) (toNat 16) 1) (((p - (toNat 1)) - (toNat 8)) - (toNat 16)) (((P - (toNat 1)) - (toNat 8)) - (toNat 16)) C/\∀(g:ct)(d c:Nat)(k:ai),l g d c k->aG (λ(b7:Bool) (o:ai)=>if b7 then((0:Int)<=32/\32<=(d:Int))/\(l (cQ g c (toNat 32) 1) (d - (toNat 32)) (c - (toNat 32)) o/\D (cQ g c (toNat 32) 1) (d - (toNat 32)) (c - (toNat 32)) o<D g d c k)else u g d c o) (λv=>if(decide ((d:Int)>32))then((0:Int)<=8/\8<=(d:Int))/\((0:Int)<=16/\16<=(d:Int))/\((0:Int)<=24/\24<=(d:Int))/\Cl 275 #[.L g d c] k λc0 L'=>Vu c0 λb4=>Cl 275 #[.L (cQ g c (toNat 8) 1) (d - (toNat 8)) (c - (toNat 8))] L' λc1 y'=>Vu c1 λb5=>Cl 275 #[.L (cQ g c (toNat 16) 1) (d - (toNat 16)) (c - (toNat 16))] y' λc2 z'=>Vu c2 λb6=>Cl 275 #[.L (cQ g c (toNat 24) 1) (d - (toNat 24)) (c - (toNat 24))] z' λc3 A'=> ∃g',c3=.U g'/\v ((wrap .u64 ((nQ (wrap .u64 ((nQ (wrap .u64 ((nQ b4|||nQ b5).toNat:Int))|||nQ (wrap .u64 ((nQ b6|||nQ g').toNat:Int))).toNat:Int)) &&& nQ 9259542123273814144).toNat:Int))==0) A' else v false k)else u (cQ (cQ a P (toNat 1) 1) (P - (toNat 1)) (toNat 8) 1) ((p - (toNat 1)) - (toNat 8)) ((P - (toNat 1)) - (toNat 8)) C)) (λs=>if(decide ((((p - (toNat 1)) - (toNat 8):Nat):Int)>16))then((0:Int)<=8/\8<=(((p - (toNat 1)) - (toNat 8):Nat):Int))/\Cl 275 #[.L (cQ (cQ a P (toNat 1) 1) (P - (toNat 1)) (toNat 8) 1) ((p - (toNat 1)) - (toNat 8)) ((P - (toNat 1)) - (toNat 8))] n λc4 B'=>Vu c4 λb2=>Cl 275 #[.slice (cQ (cQ (cQ a P (toNat 1) 1) (P - (toNat 1)) (toNat 8) 1) ((P - (toNat 1)) - (toNat 8)) (toNat 8) 1) (((p - (toNat 1)) - (toNat 8)) - (toNat 8)) (((P - (toNat 1)) - (toNat 8)) - (toNat 8))] B' λc5 C'=> ∃f',c5=.U f'/\s ((wrap .u64 ((nQ (wrap .u64 ((nQ b2|||nQ f').toNat:Int)) &&& nQ 9259542123273814144).toNat:Int))==0) C' else s false n)else r (cQ a P (toNat 1) 1) (p - (toNat 1)) (P - (toNat 1)) n)) (λq=>if(decide (((p - (toNat 1):Nat):Int)>8))then Cl 275 #[.L (cQ a P (toNat 1) 1) (p - (toNat 1)) (P - (toNat 1))] e λc6 D'=> ∃e',c6=.U e'/\q ((wrap .u64 ((nQ e' &&& nQ 9259542123273814144).toNat:Int))==0) D' else q false e)else Bd T 256/\Ka e (((AA 0 0):Addr).add (toNat T*1)) λt=>Bd (Int.fdiv t (2 ^ min (toNat 4) (IntKind.bits .u8))) 16/\∃h',aU e (((AA 1 0):Addr).add (toNat (Int.fdiv t (2 ^ min (toNat 4) (IntKind.bits .u8)))*2))=some (.int .u8 h')/\∃i',aU e ((((AA 1 0):Addr).add (toNat (Int.fdiv t (2 ^ min (toNat 4) (IntKind.bits .u8)))*2)).add 1)=some (.int .u8 i')/\bf e (.C #[.int .u8 0,.int .u8 0] 383) λb E'=>aJ E' (AA b 0) (.int .u8 h') λF'=>aJ F' (AA b 1) (.int .u8 i') λH=>aG (λ(a1:ct) (U' P':Nat) (G':ai)=>J a1 U' P' G') (λk'=>aG (λ(a2:ct) (V' Q':Nat) (H':ai)=>k' a2 V' Q' H') (λw=>if((wrap .i64 (wrap .u8 ((qN t &&& qN 7).toNat:Int)))==2)then aG (λ(a4:Bool) (z:ai)=>if a4 then R (.B false) z else((0:Int)<=2/\2<=(p:Int))/\w (cQ a P (toNat 2) 1) (p - (toNat 2)) (P - (toNat 2)) z) (λm=>if(decide ((p:Int)<2))then m true H else Bd 1 p/\aN a λm'=>Ka H (m'.add (toNat 1*1)) λb8=> ∃j',Cc H b 0 (.int .u8 j')/\if(decide (b8<j'))then m true H else Hy H b 1 λb9=>Bd 1 p/\aN a λq'=> ∃O,aU H (q'.add (toNat 1*1))=some (.int .u8 O)/\m (decide (b9<O)) H)else aG (λ(a3:ct) (X' R':Nat) (I':ai)=>w a3 X' R' I') (λx=>if((wrap .i64 (wrap .u8 ((qN t &&& qN 7).toNat:Int)))==3)then aG (λ(a7:Bool) (A:ai)=>if a7 then R (.B false) A else((0:Int)<=3/\3<=(p:Int))/\x (cQ a P (toNat 3) 1) (p - (toNat 3)) (P - (toNat 3)) A) (λi=>if(decide ((p:Int)<3))then i true H else Bd 1 p/\aN a λr'=>Ka H (r'.add (toNat 1*1)) λa5=> ∃Q,Cc H b 0 (.int .u8 Q)/\if(decide (a5<Q))then i true H else Hy H b 1 λa6=>Bd 1 p/\aN a λs'=> ∃S,aU H (s'.add (toNat 1*1))=some (.int .u8 S)/\if(decide (a6<S))then i true H else Bd 2 p/\aN a λt'=> ∃U,aU H (t'.add (toNat 2*1))=some (.int .u8 U)/\if(decide (U<128))then i true H else Bd 2 p/\aN a λu'=> ∃V,aU H (u'.add (toNat 2*1))=some (.int .u8 V)/\i (decide (191<V)) H)else if((wrap .i64 (wrap .u8 ((qN t &&& qN 7).toNat:Int)))==4)then aG (λ(b0:Bool) (B:ai)=>if b0 then R (.B false) B else((0:Int)<=4/\4<=(p:Int))/\x (cQ a P (toNat 4) 1) (p - (toNat 4)) (P - (toNat 4)) B) (λj=>if(decide ((p:Int)<4))then j true H else Bd 1 p/\aN a λv'=>Ka H (v'.add (toNat 1*1)) λa8=> ∃X,Cc H b 0 (.int .u8 X)/\if(decide (a8<X))then j true H else Hy H b 1 λa9=>Bd 1 p/\aN a λw'=> ∃Z,aU H (w'.add (toNat 1*1))=some (.int .u8 Z)/\if(decide (a9<Z))then j true H else Bd 2 p/\aN a λx'=> ∃a',aU H (x'.add (toNat 2*1))=some (.int .u8 a')/\if(decide (a'<128))then j true H else Bd 2 p/\aN a λn'=> ∃b',aU H (n'.add (toNat 2*1))=some (.int .u8 b')/\if(decide (191<b'))then j true H else Bd 3 p/\aN a λo'=> ∃c',aU H (o'.add (toNat 3*1))=some (.int .u8 c')/\if(decide (c'<128))then j true H else Bd 3 p/\aN a λp'=> ∃d',aU H (p'.add (toNat 3*1))=some (.int .u8 d')/\j (decide (191<d')) H)else R (.B false) H))))else R (.B true) e):Cl 252 #[.L K f E] h R:=aS [(6,.loop [(0,.one (.slice))]),(13,.join [(0,.one (.slice))]),(24,.join [(31,.one (.bool))]),(25,.join [(0,.one (.slice))]),(29,.join [(46,.one (.bool))]),(29,λ_=> .qT (.op 0 (.op 1 (.op 2 (.op 3 (.op 4 (.op 6 (.op 7 (.op 5 (.op 8 (.op 9 (.op 10 (.op 11 (.op 12 .done)))))))))))))),(30,.join [(0,.one (.slice))]),(34,.loop [(0,.one (.slice))]),(37,.join [(69,.one (.bool))]),(37,λ_=> .qT (.op 0 (.op 1 (.op 2 (.op 3 (.op 4 (.op 6 (.op 7 (.op 10 (.op 11 (.op 13 (.op 14 (.op 5 (.op 8 (.op 9 (.op 12 (.op 15 (.op 16 (.op 17 (.op 18 (.op 19 (.op 20 .done)))))))))))))))))))))),(55,.join [(0,.one (.slice))]),(58,.join [(0,.one (.slice))]),(61,.join [(103,.one (.bool))]),(61,λ_=>pN 19),(70,.join [(0,.one (.slice))]),(73,.join [(138,.one (.bool))]),(73,λ_=>pN 31),(85,.join [(185,.one (.bool))]),(85,λ_=>pN 43)] Tryz.func252 hv

end
section
namespace Cb
variable {h j H g:ai} {R:fO} {p:ct} {l c:Nat} {b d:cG} {FT A0 A1:Nat→Int}
variable {A B:Prop}
def bI(b:cG)(i:Nat):Int:=((b.getD i 0).toNat:Int)
def VR(a e f i k m n o:Int):Int:=(IntKind.wrap .u64 ((BitVec.ofInt (IntKind.bits .u64) (IntKind.wrap .u64 ((BitVec.ofInt (IntKind.bits .u64) (IntKind.wrap .u64 ((BitVec.ofInt (IntKind.bits .u64) (IntKind.wrap .u64 ((BitVec.ofInt (IntKind.bits .u64) (IntKind.wrap .u64 ((BitVec.ofInt (IntKind.bits .u64) (IntKind.wrap .u64 ((BitVec.ofInt (IntKind.bits .u64) (IntKind.wrap .u64 ((BitVec.ofInt (IntKind.bits .u64) (IntKind.wrap .u64 a)|||BitVec.ofInt (IntKind.bits .u64) (IntKind.wrap .u64 ((IntKind.wrap .u64 e)*2 ^ min (Int.toNat 8) (IntKind.bits .u64)))).toNat:Int))|||BitVec.ofInt (IntKind.bits .u64) (IntKind.wrap .u64 ((IntKind.wrap .u64 f)*2 ^ min (Int.toNat 16) (IntKind.bits .u64)))).toNat:Int))|||BitVec.ofInt (IntKind.bits .u64) (IntKind.wrap .u64 ((IntKind.wrap .u64 i)*2 ^ min (Int.toNat 24) (IntKind.bits .u64)))).toNat:Int))|||BitVec.ofInt (IntKind.bits .u64) (IntKind.wrap .u64 ((IntKind.wrap .u64 k)*2 ^ min (Int.toNat 32) (IntKind.bits .u64)))).toNat:Int))|||BitVec.ofInt (IntKind.bits .u64) (IntKind.wrap .u64 ((IntKind.wrap .u64 m)*2 ^ min (Int.toNat 40) (IntKind.bits .u64)))).toNat:Int))|||BitVec.ofInt (IntKind.bits .u64) (IntKind.wrap .u64 ((IntKind.wrap .u64 n)*2 ^ min (Int.toNat 48) (IntKind.bits .u64)))).toNat:Int))|||BitVec.ofInt (IntKind.bits .u64) (IntKind.wrap .u64 ((IntKind.wrap .u64 o)*2 ^ min (Int.toNat 56) (IntKind.bits .u64)))).toNat:Int))
def yr(b:cG):Int:=VR (bI b 0) (bI b 1) (bI b 2) (bI b 3) (bI b 4) (bI b 5) (bI b 6) (bI b 7)
def VS(n:Int):Bool:=(IntKind.wrap .u64 ((BitVec.ofInt (IntKind.bits .u64) n &&& BitVec.ofInt (IntKind.bits .u64) 9259542123273814144).toNat:Int))==0
def US(a b:Int):Int:=IntKind.wrap .u64 ((BitVec.ofInt (IntKind.bits .u64) a|||BitVec.ofInt (IntKind.bits .u64) b).toNat:Int)
def BH(b:cG):Bool:=decide (b.length>32) && VS (US (US (yr b) (yr (b.drop 8))) (US (yr (b.drop 16)) (yr (b.drop 24))))
def DB(b:cG):Bool:=decide (b.length>16) && VS (US (yr b) (yr (b.drop 8)))
def MX(b:cG):Bool:=decide (b.length>8) && VS (yr b)
def wz:Nat->cG->cG
 |0,b=>b
 |f+1,b=>if BH b=true then wz f (b.drop 32)else b
def HL(b:cG):cG:=if MX b=true then(if DB (b.drop 8)=true then wz (b.length+1) ((b.drop 8).drop 16)else b.drop 8)else b
def qx(x:Int):Int:=IntKind.wrap .i64 (IntKind.wrap .u8 ((BitVec.ofInt (IntKind.bits .u8) x &&& BitVec.ofInt (IntKind.bits .u8) 7).toNat:Int))
def y8(x:Int):Int:=Int.fdiv x (2 ^ min (Int.toNat 4) (IntKind.bits .u8))
def pC(n:Nat)(L a:Int)(b:cG):Bool:=decide (b.length<n)||(decide (bI b 1<L)||decide (a<bI b 1))
def qA(b:cG)(i:Nat):Bool:=decide (bI b i<128)||decide (191<bI b i)
def yt(FT A0 A1:Nat->Int)(b:cG):Option (cG):=
 if bI b 0<128 then some (HL (b.drop 1))
 else if qx (FT (bI b 0).toNat)=2 then(if pC 2 (A0 (y8 (FT (bI b 0).toNat)).toNat) (A1 (y8 (FT (bI b 0).toNat)).toNat) b=true then none else some (b.drop 2))
 else if qx (FT (bI b 0).toNat)=3 then(if(pC 3 (A0 (y8 (FT (bI b 0).toNat)).toNat) (A1 (y8 (FT (bI b 0).toNat)).toNat) b||qA b 2)=true then none else some (b.drop 3))
 else if qx (FT (bI b 0).toNat)=4 then(if(pC 4 (A0 (y8 (FT (bI b 0).toNat)).toNat) (A1 (y8 (FT (bI b 0).toNat)).toNat) b||(qA b 2||qA b 3))=true then none else some (b.drop 4))
 else none
def KK(n:cG->Option (cG)):Nat->cG->Bool
 |0,_=>true
 |f+1,b=>if b.length=0 then true else match n b with|none=>false|some r=>KK n f r
theorem Rt(n:cG->Option (cG))(f:Nat):KK n (f+1) b=if b.length=0 then true else match n b with|none=>false|some r=>KK n f r:=rfl
def uV(FT A0 A1:Nat->Int)(f:Nat)(b:cG):Bool:=KK (yt FT A0 A1) f b
theorem Ru(f:Nat):wz (f+1) b=if BH b=true then wz f (b.drop 32)else b:=rfl
theorem HM(f:Nat):uV FT A0 A1 (f+1) b=if b.length=0 then true else match yt FT A0 A1 b with|none=>false|some r=>uV FT A0 A1 f r:=by unfold uV;exact Rt _ _
theorem DC: ∀(f:Nat)(b:cG),(wz f b).length<=b.length
 |0,b=>bp _
 |f+1,b=>by
  unfold wz;split
  .exact db (DC f _) (by rw[bN];omega)
  .exact bp _
theorem PW(b:cG):(HL b).length<=b.length:=by
 unfold HL;split
 .split
  .exact db (DC _ _) (by rw[bN,bN];omega)
  .rw[bN];omega
 .exact bp _
theorem MY{r:cG}(e:b.length≠0)(a:yt FT A0 A1 b=some r):r.length<b.length:=by
 have D: ∀k,1<=k->(b.drop k).length<b.length:=λk f=>by rw[bN];omega
 unfold yt at a
 repeat' split at a
 all_goals first|(cases a;done)|(cases a;first|exact D _ dS|exact Nat.lt_of_le_of_lt (PW _) (D 1 dS))
structure Fb (h:ai) (FT A0 A1:Nat->Int):Prop where
 f: ∀i,i<256->aU h ⟨0,i,none⟩=some (.int .u8 (FT i))/\0<=FT i/\FT i<256
 a: ∀i,i<16->aU h ⟨1,i*2,none⟩=some (.int .u8 (A0 i))/\aU h ⟨1,i*2+1,none⟩=some (.int .u8 (A1 i))
theorem Fb.on(U:Fb h FT A0 A1)(f:Fr No h H):Fb H FT A0 A1:=⟨λi a=>⟨f.cell (U.f i a).1 id,(U.f i a).2⟩,λi a=>⟨f.cell (U.a i a).1 id,f.cell (U.a i a).2 id⟩⟩
structure Sl (h:ai) (p:ct) (l c:Nat) (b:cG):Prop where
 row:Row h p (bc b)
 len:l=b.length
 cap:l<=c
theorem Sl.drop(S:Sl h p l c b){k:Nat}(a:k<=b.length):Sl h (cQ p c k 1) (l - k) (c - k) (b.drop k):=by
 have f:=S.len;have e:=S.cap;refine⟨?_,by rw[bN];omega,ag⟩;have:=S.row.sub (cap:=c) (l:=k) (u:=b.length) (sz:=1) a ag;rw[cE,cE]at this;unfold bc at this⊢;rw[bE (by rw[aD];omega)]at this;rw[List.map_drop];exact this
theorem Sl.on(S:Sl h p l c b)(f:Fr No h H):Sl H p l c b:=⟨S.row.frame f bX,S.len,S.cap⟩
theorem Sl.at{i:Nat}(S:Sl h p l c b)(e:i<b.length): ∃a,p=some a/\aU h (a.add (i*1))=some (.int .u8 (bI b i)):=by
 obtain⟨a,E,f⟩:=byte_at S.row e;refine⟨a,E,?_⟩;unfold bI;rw[bh,aj e];exact f
theorem UA(b:cG)(i:Nat):0<=bI b i/\bI b i<256:=by
 unfold bI;have:=(b.getD i 0).toNat_lt;omega
theorem Tf{x:Int}(j:0<=x)(a:x<256):0<=y8 x/\y8 x<16:=by
 have e:y8 x=x/16:=Int.fdiv_eq_ediv_of_nonneg x dS;rw[e];omega
theorem MZ{c:Prop}[Decidable c](e:c)(a:A):if c then A else B:=by rw[af e];exact a
theorem M0{c:Prop}[Decidable c](e: ¬c)(a:B):if c then A else B:=by rw[ae e];exact a
theorem qe(S:Sl h p l c b)(o:8<=b.length)(k:R (.U (yr b)) h):Cl 275 #[.L p l c] h R:=by
 have q:=S.len;obtain⟨a,rfl,n⟩:=S.at (i:=0) ag;have C: ∀i,i<b.length->aU h (a.add (i*1))=some (.int .u8 (bI b i)):=λi f=>by
  obtain⟨m,e,c⟩:=S.at (i:=i) f;cases e;exact c
 refine oI.walk ?_;refine⟨ag,ax.2 ⟨_,C 0 ag,ag,ax.2 ⟨_,C 1 ag,ag,ax.2 ⟨_,C 2 ag,ag,ax.2 ⟨_,C 3 ag,ag,ax.2 ⟨_,C 4 ag,ag,ax.2 ⟨_,C 5 ag,ag,ax.2 ⟨_,C 6 ag,ag,ax.2 ⟨_,C 7 ag,?_⟩⟩⟩⟩⟩⟩⟩⟩⟩;exact k
theorem PX{vv:Bool}(hV:uV FT A0 A1 (d.length+1) d=vv)(UT:Fb h FT A0 A1)(y':Row h p (bc d))(hl:d.length<=1000000)(cap:d.length<=c)(M: ∀g,Fr No h g->R (.B vv) g):Cl 252 #[.L p d.length c] h R:=by
 refine uT.walk ⟨ag,ag,λp l c g=>Fr No h g/\∃b f,Sl g p l c b/\b.length<f/\b.length<=1000000/\uV FT A0 A1 f b=vv,λ_ l _ _=>l,⟨Fr.refl _ _,d,d.length+1,⟨by rw[kG];exact y',aH _,bp _⟩,Nat.lt_succ_self _,hl,hV⟩,?_⟩;clear hV;rintro p l c g ⟨X,b,f,S,hf,hb,I⟩;have D':=S.len;by_cases c0:b.length=0
 case pos=>
  rw[dy];have:uV FT A0 A1 f b=true:=by
   cases f with
   |zero=>rfl
   |succ f=>rw[HM,af c0]
  rw[I.symm.trans this]at M;exact M g X
 rw[af (by simp only[aY];omega)];refine aG.of λu' hJ=> ?_
 obtain⟨f,rfl⟩: ∃F,f=F+1:=⟨f - 1,ag⟩;rw[HM,ae c0]at I;have n: ∀(G:ai)(p':ct)(l' c':Nat)(w:cG),Fr No g G->Sl G p' l' c' w->yt FT A0 A1 b=some w->u' p' l' c' G:=by
  intro G p' l' c' w F S' hn;subst hJ;have E':=MY c0 hn;rw[hn]at I;exact⟨⟨X.tt F,w,f,S',ag,ag,I⟩,by have:=S'.len;show l'<l;omega⟩
 have stop: ∀G,Fr No g G->yt FT A0 A1 b=none->R (.B false) G:=by
  intro G F hn;rw[hn]at I;rw[<-I]at M;exact M G (X.tt F)
 clear hJ I M;obtain⟨n',rfl,ca⟩:=S.at (i:=0) ag;have n0:=UA b 0;refine⟨ag,ax.2 ⟨_,ca,?_⟩⟩;by_cases c1:bI b 0<128
 .have E:yt FT A0 A1 b=some (HL (b.drop 1)):=af c1;rw[E]at n;clear stop E;rw[af (av c1)];refine⟨ag,aG.of λJ1 v'=> ?_⟩;have P:=S.drop (k:=1) ag;generalize hr:b.drop 1=r at n P;have r': ∀v,v=MX r->J1 v g:=by
   intro v a;subst v';refine aG.of λJ2 e'=> ?_
   cases y:MX r with
   |false=>
    rw[a,y,dy];subst e';exact n g _ _ _ _ (Fr.refl _ _) P (by unfold HL;rw[y];rfl)
   |true=>
   rw[a,y,af rfl];have l8:r.length>8:=by unfold MX at y;simp only[aW,aY]at y;exact y.1
   have T:=P.drop (k:=8) ag;have h':=P.len;refine⟨⟨ag,by show(8:Int)<=((l - 1:Nat):Int);omega⟩,aG.of λJ3 w'=> ?_⟩;have s': ∀v,v=DB (r.drop 8)->J3 v g:=by
    intro v a;subst w';refine aG.of λJ4 o'=> ?_
    cases O:DB (r.drop 8)with
    |false=>
     rw[a,O,dy];subst o';subst e';exact n g _ _ _ _ (Fr.refl _ _) T (by unfold HL;rw[y,af rfl,O];rfl)
    |true=>
    rw[a,O,af rfl];have F':(r.drop 8).length>16:=by unfold DB at O;simp only[aW,aY]at O;exact O.1
    have S3:=T.drop (k:=16) ag;have d':=T.len;have eF:HL r=wz (r.length+1) ((r.drop 8).drop 16):=by unfold HL;rw[y,af rfl,O,af rfl]
    rw[eF]at n;refine⟨⟨ag,by show(16:Int)<=((l - 1 - 8:Nat):Int);omega⟩,λp l c G=>G=g/\∃w F,Sl g p l c w/\w.length<F/\wz F w=wz (r.length+1) ((r.drop 8).drop 16),λ_ l _ _=>l,⟨rfl,_,_,S3,by rw[bN,bN];omega,rfl⟩,?_⟩;rintro p5 l5 c5 G ⟨rfl,b5,f5,D,B',V⟩;have C':=D.len;obtain⟨f5,rfl⟩: ∃F,f5=F+1:=⟨f5 - 1,ag⟩;rw[Ru]at V;refine aG.of λJ5 x'=> ?_
    have t': ∀v,v=BH b5->J5 v G:=by
     intro v a;subst x';dsimp only;cases J:BH b5 with
     |false=>
      rw[a,J,dy];rw[J,dy]at V;subst o';subst e';exact n G _ _ _ _ (Fr.refl _ _) D (by rw[V])
     |true=>
      rw[a,J,af rfl];rw[J,af rfl]at V;have G':b5.length>32:=by unfold BH at J;simp only[aW,aY]at J;exact J.1
      exact⟨ag,⟨rfl,_,f5,D.drop (k:=32) ag,by rw[bN];omega,V⟩,by show l5 - 32<l5;omega⟩
    by_cases q:b5.length>32
    .rw[gi];refine⟨ag,ag,ag,qe D ag ⟨_,rfl,qe (D.drop (k:=8) ag) (by rw[bN];omega) ⟨_,rfl,qe (D.drop (k:=16) ag) (by rw[bN];omega) ⟨_,rfl,qe (D.drop (k:=24) ag) (by rw[bN];omega) ⟨_,rfl,t' _ ?_⟩⟩⟩⟩⟩;unfold BH;rw[av q];rfl
    .rw[dy];exact t' false (by unfold BH;rw[aC q];rfl)
   have d':=T.len;by_cases q:(r.drop 8).length>16
   .rw[af (av (by show((l - 1 - 8:Nat):Int)>16;have:l - 1 - 8=(r.drop 8).length:=d';omega))];refine⟨⟨ag,by show(8:Int)<=((l - 1 - 8:Nat):Int);have:l - 1 - 8=(r.drop 8).length:=d';omega⟩,qe T ag ⟨_,rfl,qe (T.drop (k:=8) ag) (by rw[bN];omega) ⟨_,rfl,s' _ ?_⟩⟩⟩;unfold DB;rw[av q];rfl
   .rw[ae (by simp only[aY];show¬((l - 1 - 8:Nat):Int)>16;have:l - 1 - 8=(r.drop 8).length:=d';omega)];exact s' false (by unfold DB;rw[aC q];rfl)
  have h':=P.len;by_cases q:r.length>8
  .rw[af (av (by show((l - 1:Nat):Int)>8;have:l - 1=r.length:=h';omega))];refine qe P ag ⟨_,rfl,r' _ ?_⟩;unfold MX;rw[av q];rfl
  .rw[ae (by simp only[aY];show¬((l - 1:Nat):Int)>8;have:l - 1=r.length:=h';omega)];exact r' false (by unfold MX;rw[aC q];rfl)
 obtain⟨x0,x1,x2⟩:=(UT.on X).f (bI b 0).toNat ag;have E:yt FT A0 A1 b=_:=ae c1;generalize FT (bI b 0).toNat=x at x0 x1 x2 E;have rr:=Tf x1 x2;obtain⟨y0,y1⟩:=(UT.on X).a (y8 x).toNat ag;generalize A0 (y8 x).toNat=L at y0 E;generalize A1 (y8 x).toNat=o at y1 E;rw[dy];refine⟨ag,x,by rw[gZ,bK,cE];exact x0,rr,L,by rw[gZ,bK];exact y0,o,by rw[gZ,gZ,bK];exact y1,cT ?_⟩;have k':Fr No g (g.push (.C #[.int .u8 0,.int .u8 0] 383)):=Fr.push _ _;have i':(g.push (.C #[.int .u8 0,.int .u8 0] 383))[g.size]? =_:=bZ;generalize g.push (.C #[.int .u8 0,.int .u8 0] 383)=z' at k' i'⊢;refine bk i' bU λA' a1 a2 a3=>bk a1 bU λm j' b2 b3=> ?_
 have u:Fr No g m:=(k'.fresh (Fr.of_eq (S:=λb'=>b'=g.size) a2 a3) (λb' e=>ag)).fresh (Fr.of_eq (S:=λb'=>b'=g.size) b2 b3) (λb' e=>ag);have m':=S.on u;have C: ∀i,i<b.length->aU m (n'.add (i*1))=some (.int .u8 (bI b i)):=λi o=>by
  obtain⟨a',e,c⟩:=m'.at (i:=i) o;cases e;exact c
 have cl:aU m (AA g.size 0)=some (.int .u8 L):=au j';have ch:aU m (AA g.size 1)=some (.int .u8 o):=au j';have dr: ∀k,k<=b.length->Sl m (cQ (some n') c k 1) (l - k) (c - k) (b.drop k):=λk M=>m'.drop M
 refine aG.of λJ6 f'=>aG.of λJ7 g'=> ?_
 by_cases s2:qx x=2
 .replace E:=E.trans (af s2);refine MZ (show(qx x==2)=true from df.2 s2) (aG.of λU Z=> ?_);have K: ∀v,v=pC 2 L o b->U v m:=by
   intro v a;subst Z;rw[<-a]at E;cases v with
   |true=>exact MZ rfl (stop m u (E.trans (af rfl)))
   |false=>
    have l2:2<=b.length:=by simp[pC]at a;omega
    refine M0 dS ⟨ag,?_⟩;subst g';subst f';exact n m _ _ _ _ u (dr 2 l2) (E.trans (dy))
  by_cases z:b.length<2
  .rw[gi];exact K true (by simp[pC,z])
  rw[dy];refine⟨ag,ax.2 ⟨_,C 1 ag,_,cl,?_⟩⟩;by_cases Q:bI b 1<L
  .rw[af (av Q)];exact K true (by simp[pC,Q])
  rw[ae (cR Q)];exact⟨_,ch,ag,ax.2 ⟨_,C 1 ag,K _ (by simp[pC,z,Q])⟩⟩
 replace E:=E.trans (ae s2);refine M0 (show¬(qx x==2)=true from λe=>s2 (df.1 e)) (aG.of λJ9 q'=> ?_);by_cases s3:qx x=3
 .replace E:=E.trans (af s3);refine MZ (show(qx x==3)=true from df.2 s3) (aG.of λU Z=> ?_);have K: ∀v,v=(pC 3 L o b||qA b 2)->U v m:=by
   intro v a;subst Z;rw[<-a]at E;cases v with
   |true=>exact MZ rfl (stop m u (E.trans (af rfl)))
   |false=>
    have l2:3<=b.length:=by simp[pC]at a;omega
    refine M0 dS ⟨ag,?_⟩;subst q';subst g';subst f';exact n m _ _ _ _ u (dr 3 l2) (E.trans (dy))
  by_cases z:b.length<3
  .rw[gi];exact K true (by simp[pC,z])
  rw[dy];refine⟨ag,ax.2 ⟨_,C 1 ag,_,cl,?_⟩⟩;by_cases Q:bI b 1<L
  .rw[af (av Q)];exact K true (by simp[pC,Q])
  rw[ae (cR Q)];refine⟨_,ch,ag,ax.2 ⟨_,C 1 ag,?_⟩⟩;by_cases s:o<bI b 1
  .rw[af (av s)];exact K true (by simp[pC,s])
  rw[ae (cR s)];refine⟨ag,ax.2 ⟨_,C 2 ag,?_⟩⟩;by_cases t:bI b 2<128
  .rw[af (av t)];exact K true (by simp[qA,t])
  rw[ae (cR t)];exact⟨ag,ax.2 ⟨_,C 2 ag,K _ (by simp[pC,qA,z,Q,s,t])⟩⟩
 replace E:=E.trans (ae s3);refine M0 (show¬(qx x==3)=true from λe=>s3 (df.1 e)) ?_;by_cases s4:qx x=4
 .replace E:=E.trans (af s4);refine MZ (show(qx x==4)=true from df.2 s4) (aG.of λU Z=> ?_);have K: ∀v,v=(pC 4 L o b||(qA b 2||qA b 3))->U v m:=by
   intro v a;subst Z;rw[<-a]at E;cases v with
   |true=>exact MZ rfl (stop m u (E.trans (af rfl)))
   |false=>
    have l2:4<=b.length:=by simp[pC]at a;omega
    refine M0 dS ⟨ag,?_⟩;subst q';subst g';subst f';exact n m _ _ _ _ u (dr 4 l2) (E.trans (dy))
  by_cases z:b.length<4
  .rw[gi];exact K true (by simp[pC,z])
  rw[dy];refine⟨ag,ax.2 ⟨_,C 1 ag,_,cl,?_⟩⟩;by_cases Q:bI b 1<L
  .rw[af (av Q)];exact K true (by simp[pC,Q])
  rw[ae (cR Q)];refine⟨_,ch,ag,ax.2 ⟨_,C 1 ag,?_⟩⟩;by_cases s:o<bI b 1
  .rw[af (av s)];exact K true (by simp[pC,s])
  rw[ae (cR s)];refine⟨ag,ax.2 ⟨_,C 2 ag,?_⟩⟩;by_cases t:bI b 2<128
  .rw[af (av t)];exact K true (by simp[qA,t])
  rw[ae (cR t)];refine⟨ag,ax.2 ⟨_,C 2 ag,?_⟩⟩;by_cases q4:191<bI b 2
  .rw[af (av q4)];exact K true (by simp[qA,q4])
  rw[ae (cR q4)];refine⟨ag,ax.2 ⟨_,C 3 ag,?_⟩⟩;by_cases q5:bI b 3<128
  .rw[af (av q5)];exact K true (by simp[qA,q5])
  rw[ae (cR q5)];exact⟨ag,ax.2 ⟨_,C 3 ag,K _ (by simp[pC,qA,z,Q,s,t,q4,q5])⟩⟩
 refine M0 (show¬(qx x==4)=true from λe=>s4 (df.1 e)) ?_;exact stop m u (E.trans (ae s4))
theorem Fb.WY(U:Fb h FT A0 A1):kr (λd=>uV FT A0 A1 (d.length+1) d) h:=λ_ _ _ _ _ f r e cap a=>PX rfl (U.on f) r e cap a

end Cb
end
section
namespace Cb
theorem M1: ∀i:Fin 256,Lib.firstT i.val<256:=dS
theorem Fb.Rv{w:World}{l:List (String×DataW Unit)}{S x:String}(z:Tryz.prog.globalNamed S=some 0)(A:Tryz.prog.globalNamed x=some 1)(h:laidMet Tryz.prog l w)(M:(S,Lib.firstData)∈l)(B:(x,Lib.acceptData)∈l): ∃V,kr V w.heap:=by
 refine⟨_,Fb.WY (FT:=λi=>(Lib.firstT i:Int)) (A0:=λi=>(Lib.accLo i:Int)) (A1:=λi=>(Lib.accHi i:Int)) ⟨λc r=> ?_,λi v=> ?_⟩⟩
 .obtain⟨g,t,y,F,p,a,n,k,m⟩:=Lib.laidMet.reads h M;obtain rfl:0=g:=aX (z.symm.trans a);obtain rfl:381=t:=by
   have e:(Tryz.prog.globals[(0:Nat)]?).map (·.type)=some 381:=dA
   exact aX (e.symm.trans n)
  have b:=Lib.cells_of_tab (n:=256) (e:=5) dA dA dA dA m;have:=World.var?_cell a k c;rw[lS,<-dv,b]at this;refine⟨?_,Int.natCast_nonneg _,by have:Lib.firstT c<256:=M1 ⟨c,r⟩;show((Lib.firstT c:Nat):Int)<256;omega⟩;rw[this];simp[Lib.firstTab,r]
 .obtain⟨g,t,y,F,p,a,n,k,m⟩:=Lib.laidMet.reads h B;obtain rfl:1=g:=aX (A.symm.trans a);obtain rfl:384=t:=by
   have e:(Tryz.prog.globals[(1:Nat)]?).map (·.type)=some 384:=dA
   exact aX (e.symm.trans n)
  obtain⟨D,d,q,s,u⟩:=Lib.array_elem (n:=16) (e:=383) dA m i v;simp only[aL,List.getElem?_range v,dq,bC]at s;subst s;have C:Tryz.prog.cellsOf 383=2:=dA
  rw[C]at u;have b:=Lib.ints_of_struct (t:=383) (k:=.u8) (fs:= #[Go.Field.mk "lo" 5 0 false "" "unicode/utf8" 0,Go.Field.mk "hi" 5 1 false "" "unicode/utf8" 1]) dA (λj f H=>by
   match j,H with
   |0,H=>simp at H;subst H;exact⟨dA,rfl,dA⟩
   |1,H=>simp at H;subst H;exact⟨dA,rfl,dA⟩
   |j+2,H=>simp at H) (by rw[C];rfl) u
  have E:=cf (·[0]?) b;have o:=cf (·[1]?) b;simp only[cZ,fp]at E o;constructor
  .have:=World.var?_cell a k (i*2);rw[lS,<-dv]at this;rw[this];simpa using E
  .have:=World.var?_cell a k (i*2+1);rw[lS,<-dv]at this;rw[this];simpa using o

end Cb
end
end Go.Proofs.YtkdgpmeojgokdaaGreatDoor
