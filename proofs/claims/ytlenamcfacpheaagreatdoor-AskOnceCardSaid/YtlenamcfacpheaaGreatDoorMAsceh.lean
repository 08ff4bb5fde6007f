/-
  Ei is proved here: parts of xi proof, one behind xi other (texts of this work, merged by a program; GH xi theorem GI not use is left out). No condition.
-/
import Derived.Handed
import Derived.Shelf.Vars
import Derived.Lib.LaidU8
import Derived.Lib.LaidTab
import Derived.Test.YtlenamcfacpheaaGreatDoorMAsceg
set_option maxRecDepth 100000
set_option maxHeartbeats 4000000
namespace Go.Proofs.YtlenamcfacpheaaGreatDoor
open Go.Den
open IntKind (wrap)
open Int (toNat)
section
namespace Ask
open iY (Ev cV kO)
open eN (SS Good Pt sK Mk Bk)
open Go.fk (RD)
variable {V:cM→Bool} {h h' l m g:ak} {R:fG} {s k c:Nat} {X j:Ft} {I:sK} {σ:SS} {p:bZ} {ses:Int} {x:Rq} {L:List (Nat × av.S)}
variable {d:cM}
theorem Kc(hk: iq h R (kO IN)):Cl 9 #[] h R:=Iv.walk (ax.gB (x:=IN.s) λ_ m _ H f1=>ax.fY (x:=IN.s) H (hk m f1))
theorem sf(hk: iq h R (kO Gu)):Cl 14 #[] h R:=Iw.walk (ax.gB (x:=Gu.s) λ_ m _ H f1=>ax.fY (x:=Gu.s) H (hk m f1))
theorem Kd:eN.Ia IN:=⟨cZ,λe=>by cases bP Ev.jT e⟩
theorem OR{n r:Nat}(B:Bk h s I n r)(hk:R (.bool true) h):Cl 10 #[pt s] h R:=by
 refine Gb.walk ?_;repeat (first|exact hk|refine⟨_,aq B,?_⟩|rw[ah rfl])
def Bx(h:ak)(X:Ft)(L:List (Nat×av.S)):Prop:= ∀e∈L,av.gn h e.1 e.2/\¬X.M e.1
theorem Bx.step(B:Bx h X L)(st:bN X h j h'):Bx h' j L:=λe H=>⟨st.fr.get (B e H).1 (B e H).2,λb=>by
 rcases st.jD _ b with a|a
 .exact(B e H).2 a
 .have:=aE (B e H).1;omega⟩
theorem Bx.on(B:Bx h X L)(f:Fr No h h'):Bx h' X L:=λe H=>⟨f.get (B e H).1 id,(B e H).2⟩
def Rw(h:ak)(X:Ft)(p:bZ)(d:cM):Prop:=Row h p (bc d)/\(d≠ []->∀z,aL p z->¬X.M z)
theorem Rw.step(B:Rw h X p d)(st:bN X h j h'):Rw h' j p d:=by
 by_cases hd:d= []
 .subst hd;exact⟨Row.nil,λe=>absurd rfl e⟩
 .refine⟨B.1.frame st.fr (λa E f=>B.2 hd a.block ⟨a,E,rfl⟩ f),λ_ z H b=> ?_⟩;rcases st.jD z b with a|a
  .exact B.2 hd z H a
  .have:=iK B.1 (by simpa[bc]using hd) H;omega
theorem Rw.on(B:Rw h X p d)(f:Fr No h h'):Rw h' X p d:=⟨B.1.frame f cb,B.2⟩
theorem Gw{K:Nat->ak->Prop}(E:En V l h s X I σ k)(w:k+2<=30000)(w1:0<=x.ep.gr)(w2:0<=x.dest.gr)(z:Row h p (bc x.oa))(cap:x.oa.length<=c)(B:Bx h X L)(r: ∀h' j b q d,En V l h' s j I (nj V σ ses x).1 (k+2)->Bx h' j ((b,rS (nj V σ ses x).2 q d)::L)->Rw h' j q (nj V σ ses x).2.b->bN X h j h'->K b h'):
  Cl 13 #[pt s,.I ses,(x.s p c).agg] h λv g=>av.EX λt=>v=t.agg/\aT g (.cells av.S.z.arr 44) λb f=>av.dE f (AA b 0) t λi=>K b i:=by
 refine RO E ae w1 w2 z cap λn a q d H S row nM=>av.ex (rS (nj V σ ses x).2 q d) ⟨rfl,av.gB (x:=rS (nj V σ ses x).2 q d) λb o A u f3=> ?_⟩
 have G:=Good.nj (V:=V) (ses:=ses) (q:=x) E.G E.H.ord E.hk w1;have st:=S.on f3;refine r o a b q d (E.step (H.on f3) st G w) (λe he=> ?_) ((show Rw n a q _ from⟨row,nM⟩).on f3) st;rcases bG.1 he with rfl|he
 .exact⟨u,λy=>bR (H.lt b (.inl y))⟩
 .exact(B.step st) e he
theorem Bx.nth{b:Nat}{y:av.S}(B:Bx h X L)(i:Nat)(H:L[i]? =some (b,y)):av.gn h b y:=(B _ (aJ H)).1
theorem En.OS(U:Cb.nk V l)(mx:mO.Mx l)(f:Fr No l m)(H:Pt h s X I (eN.DC IN))(u:MA m X h):En V l h s X I (eN.DC IN) 0:=
 ⟨H,eN.Good.new Kd.1 Kd.2 dt,ae,⟨f.tt u.fr,λc a=>cD f.1 (u.ge c a)⟩,U,mx⟩
theorem nN(E:En V l h s X I σ k)(o:k+1<=30000)(token:Nat)(hk: ∀h' j a b,En V l h' s j I { σ with A:=eE.kj σ.A token } (k+1)->bN X h j h'->R (.tuple #[.I a,.I b]) h'):
  Cl 12 #[pt I.t,.U (token:Int)] h R:=by
 obtain⟨Z,q,u,t,go⟩:=E.H.use 0;refine eE.nN token rfl q E.G.a λH z T r=> ?_
 obtain⟨f,e,S,_,_⟩:=go H z { σ with A:=eE.kj σ.A token } T r (λi n=>eN.Ar _ n);exact hk H f _ _ (E.step e S (eN.Good.kj E.G token) o) S
theorem Gx(U:Cb.nk V l)(mx:mO.Mx l)(u:Fr No l h)(hk: iq h R (.bool true)):Cl 11 #[] h R:=by
 refine Gc.walk (Kc λm f1=>ax.ex IN.s ⟨rfl,eN.gu IN (λ_ h2 s X I H u2=>⟨_,_,rfl,aI.of λa' Q=> ?_⟩) (λn=>absurd Kd n)⟩);have E2:=En.OS (U.mono u) (mx.on u) f1 H u2;rw[dz,af bQ];refine az.2 ⟨_,aq H.cX,?_⟩;rw[af bQ];refine az.2 ⟨_,aq H.cX,?_⟩;subst Q;dsimp only;rw[af bQ];refine az.2 ⟨_,aq H.cX,nN E2 ae 5 λh3 X3 _ _ z v'=>⟨_,_,rfl,az.2 ⟨_,aq z.H.cX,nN z ae 6 λP J _ _ C w'=>⟨_,_,rfl,?_⟩⟩⟩⟩;have M:({ ({ eN.DC IN with A:=eE.kj (eN.DC IN).A 5 } :SS)with A:=eE.kj ({ eN.DC IN with A:=eE.kj (eN.DC IN).A 5 } :SS).A 6 } :SS)=s1:=by unfold s1;rw[<-SI];rfl
 rw[M]at C;have F:Bx P J []:=λe T=>by cases T
 refine sf λh5 f5=>ax.ex Gu.s ⟨rfl,Gw (x:=q1) (p:=none) (c:=0) (C.on f5) ae dt dt Row.nil (bn _) (F.on f5) λh6 X6 b6 _ _ v i _ _=> ?_⟩
 rw[v1]at v i;dsimp only at v i;refine sf λh7 f7=>ax.ex Gu.s ⟨rfl,Gw (x:=q1) (p:=none) (c:=0) (v.on f7) ae dt dt Row.nil (bn _) (i.on f7) λh8 X8 b8 _ _ w o _ _=> ?_⟩
 rw[v2]at w o;dsimp only at w o;obtain⟨x',y,e1,N,D,e2,K,el⟩:=v4 (V:=V);refine sf λh9 f9=>ax.ex Gu.s ⟨rfl,sf λl' f10=>ax.ex Gu.s ⟨rfl,hM.Sb (bs:= [120]) rfl λm' row f11=>Gw (x:=q4) (w.on (f9.tt (f10.tt f11))) ae dt dt row (bn _) (o.on (f9.tt (f10.tt f11))) λn' b' e' _ _ E b _ _=> ?_⟩⟩
 rw[e1]at E b;dsimp only at E b;refine sf λo' f13=>ax.ex Gu.s ⟨rfl,Gw (x:=q6) (p:=none) (c:=0) (E.on f13) ae dt dt Row.nil (bn _) (b.on f13) λp' c' f' _ _ q a _ _=> ?_⟩
 rw[e2]at q a;dsimp only at q a;refine sf λq' f15=>ax.ex Gu.s ⟨rfl,Gw (x:=q6) (p:=none) (c:=0) (q.on f15) ae dt dt Row.nil (bn _) (a.on f15) λr' d' g' _ _ r f _ _=> ?_⟩
 rw[K]at r f;dsimp only at r f;refine ON (x:=⟨2,0,.zero,.zero,0,0,0, [],0,0,false⟩) (p:=none) (c:=0) λs' f17=>av.ex (rS (oR 2 6) none 0) ⟨rfl,av.gB (x:=rS (oR 2 6) none 0) λi' t' k' S f18=> ?_⟩
 have B:=f.on (f17.tt f18);have t:=r.on (f17.tt f18);refine⟨_,aq (B.nth 4 rfl),?_⟩;rw[ah (by rfl)];refine⟨_,aq (B.nth 4 rfl),?_⟩;rw[ah (by rfl)];refine⟨_,aq (B.nth 3 rfl),?_⟩;rw[ah (by rfl)];refine⟨_,aq (B.nth 2 rfl),?_⟩;rw[ah (by show(y.err==0)=true;rw[N];rfl)];refine⟨_,aq (B.nth 2 rfl),?_⟩;rw[ah (by show(y.num==1)=true;rw[D];rfl)];refine⟨_,aq (B.nth 1 rfl),?_⟩;rw[ah (by show(y.num==1)=true;rw[D];rfl)];refine⟨_,aq (B.nth 1 rfl),_,aq (B.nth 2 rfl),?_⟩;rw[ah (by show(y.count==y.count)=true;simp)];refine⟨_,aq (B.nth 0 rfl),?_⟩;rw[ah (by rfl)];refine⟨_,aq S,?_⟩;rw[ah (by rfl)];obtain⟨Z,W⟩:=t.H.box;refine az.2 ⟨_,aq t.H.cX,gD.rD W λO u' Y j' G f19=>⟨_,_,_,rfl,?_⟩⟩;have ll:Y=1:=by rw[G.len];exact el
 rw[ll];exact hk O (t.u.fr.tt f19)

end Ask
end
section
variable {h:ak} {R:fG}
structure cS.S where
 f0:Int
 f1:Int
 f2:Int
 f3:Int
 f4:Bool
 f5:Int
 f6:Int
 f7:ByteArray
 f8:ByteArray
 f9:Bool
 f10:Int
 f11:Int
 f12:ByteArray
 f13:ByteArray
 f14:Int
 f15:Int
 f16:Int
 Q5:bZ
 Q6:Nat
 Q7:Nat
 f18:Int
 f19:Int
 f20:Bool
 f21:Int
 f22:Bool
 f23:Int
 f24:Int
 f25:ByteArray
 f26:ByteArray
 Q8:bZ
 Q9:Nat
 Ra:Nat
abbrev cS.S.l(x:cS.S):List Value:= [.int .i64 x.f0,.int .i64 x.f1,.int .u64 x.f2,.int .i64 x.f3,.bool x.f4,.int .u64 x.f5,.int .u64 x.f6,.string x.f7,.string x.f8,.bool x.f9,.int .u64 x.f10,.int .u64 x.f11,.string x.f12,.string x.f13,.int .i64 x.f14,.int .i64 x.f15,.int .i64 x.f16,.slice x.Q5 x.Q6 x.Q7,.int .u64 x.f18,.int .u64 x.f19,.bool x.f20,.int .u64 x.f21,.bool x.f22,.int .u64 x.f23,.int .u64 x.f24,.string x.f25,.string x.f26,.slice x.Q8 x.Q9 x.Ra]
abbrev cS.S.arr(x:cS.S):Array Value:= #[.int .i64 x.f0,.int .i64 x.f1,.int .u64 x.f2,.int .i64 x.f3,.bool x.f4,.int .u64 x.f5,.int .u64 x.f6,.string x.f7,.string x.f8,.bool x.f9,.int .u64 x.f10,.int .u64 x.f11,.string x.f12,.string x.f13,.int .i64 x.f14,.int .i64 x.f15,.int .i64 x.f16,.slice x.Q5 x.Q6 x.Q7,.int .u64 x.f18,.int .u64 x.f19,.bool x.f20,.int .u64 x.f21,.bool x.f22,.int .u64 x.f23,.int .u64 x.f24,.string x.f25,.string x.f26,.slice x.Q8 x.Q9 x.Ra]
abbrev cS.S.agg(x:cS.S):Value:=.agg #[.int .i64 x.f0,.int .i64 x.f1,.int .u64 x.f2,.int .i64 x.f3,.bool x.f4,.int .u64 x.f5,.int .u64 x.f6,.string x.f7,.string x.f8,.bool x.f9,.int .u64 x.f10,.int .u64 x.f11,.string x.f12,.string x.f13,.int .i64 x.f14,.int .i64 x.f15,.int .i64 x.f16,.slice x.Q5 x.Q6 x.Q7,.int .u64 x.f18,.int .u64 x.f19,.bool x.f20,.int .u64 x.f21,.bool x.f22,.int .u64 x.f23,.int .u64 x.f24,.string x.f25,.string x.f26,.slice x.Q8 x.Q9 x.Ra]
abbrev cS.S.z:cS.S:=⟨0,0,0,0,false,0,0,(⟨#[]⟩:ByteArray),(⟨#[]⟩:ByteArray),false,0,0,(⟨#[]⟩:ByteArray),(⟨#[]⟩:ByteArray),0,0,0,none,0,0,0,0,false,0,false,0,0,(⟨#[]⟩:ByteArray),(⟨#[]⟩:ByteArray),none,0,0⟩
abbrev cS.EX(K:cS.S->Prop):Prop:= ∃(t0:Int),∃(t1:Int),∃(t2:Int),∃(t3:Int),∃(t4:Bool),∃(t5:Int),∃(t6:Int),∃(t7:ByteArray),∃(t8:ByteArray),∃(t9:Bool),∃(t10:Int),∃(t11:Int),∃(t12:ByteArray),∃(t13:ByteArray),∃(t14:Int),∃(t15:Int),∃(t16:Int),∃(a:bZ)(T t:Nat),∃(t18:Int),∃(t19:Int),∃(t20:Bool),∃(t21:Int),∃(t22:Bool),∃(t23:Int),∃(t24:Int),∃(t25:ByteArray),∃(t26:ByteArray),∃(d:bZ)(c b:Nat),K ⟨t0,t1,t2,t3,t4,t5,t6,t7,t8,t9,t10,t11,t12,t13,t14,t15,t16,a,T,t,t18,t19,t20,t21,t22,t23,t24,t25,t26,d,c,b⟩
abbrev cS.cW(h:ak)(a:Addr)(K:cS.S->Prop):Prop:= ∃(t0:Int),aX h a=some (.int .i64 t0)/\∃(t1:Int),aX h (a.add 1)=some (.int .i64 t1)/\∃(t2:Int),aX h (a.add 2)=some (.int .u64 t2)/\∃(t3:Int),aX h (a.add 3)=some (.int .i64 t3)/\∃(t4:Bool),aX h (a.add 4)=some (.bool t4)/\∃(t5:Int),aX h (a.add 5)=some (.int .u64 t5)/\∃(t6:Int),aX h (a.add 6)=some (.int .u64 t6)/\∃(t7:ByteArray),aX h (a.add 7)=some (.string t7)/\∃(t8:ByteArray),aX h (a.add 8)=some (.string t8)/\∃(t9:Bool),aX h (a.add 9)=some (.bool t9)/\∃(t10:Int),aX h (a.add 10)=some (.int .u64 t10)/\∃(t11:Int),aX h (a.add 11)=some (.int .u64 t11)/\∃(t12:ByteArray),aX h (a.add 12)=some (.string t12)/\∃(t13:ByteArray),aX h (a.add 13)=some (.string t13)/\∃(t14:Int),aX h (a.add 14)=some (.int .i64 t14)/\∃(t15:Int),aX h (a.add 15)=some (.int .i64 t15)/\∃(t16:Int),aX h (a.add 16)=some (.int .i64 t16)/\∃(b:bZ)(T t:Nat),aX h (a.add 17)=some (.slice b T t)/\∃(t18:Int),aX h (a.add 18)=some (.int .u64 t18)/\∃(t19:Int),aX h (a.add 19)=some (.int .u64 t19)/\∃(t20:Bool),aX h (a.add 20)=some (.bool t20)/\∃(t21:Int),aX h (a.add 21)=some (.int .u64 t21)/\∃(t22:Bool),aX h (a.add 22)=some (.bool t22)/\∃(t23:Int),aX h (a.add 23)=some (.int .u64 t23)/\∃(t24:Int),aX h (a.add 24)=some (.int .u64 t24)/\∃(t25:ByteArray),aX h (a.add 25)=some (.string t25)/\∃(t26:ByteArray),aX h (a.add 26)=some (.string t26)/\∃(e:bZ)(d c:Nat),aX h (a.add 27)=some (.slice e d c)/\K ⟨t0,t1,t2,t3,t4,t5,t6,t7,t8,t9,t10,t11,t12,t13,t14,t15,t16,b,T,t,t18,t19,t20,t21,t22,t23,t24,t25,t26,e,d,c⟩
abbrev cS.dE(h:ak)(a:Addr)(x:cS.S)(K:ak->Prop):Prop:=aQ h a (.int .i64 x.f0) λH=>aQ H (a.add 1) (.int .i64 x.f1) λm=>aQ m (a.add 2) (.int .u64 x.f2) λy=>aQ y (a.add 3) (.int .i64 x.f3) λz=>aQ z (a.add 4) (.bool x.f4) λA=>aQ A (a.add 5) (.int .u64 x.f5) λB=>aQ B (a.add 6) (.int .u64 x.f6) λC=>aQ C (a.add 7) (.string x.f7) λD=>aQ D (a.add 8) (.string x.f8) λE=>aQ E (a.add 9) (.bool x.f9) λb=>aQ b (a.add 10) (.int .u64 x.f10) λc=>aQ c (a.add 11) (.int .u64 x.f11) λd=>aQ d (a.add 12) (.string x.f12) λe=>aQ e (a.add 13) (.string x.f13) λf=>aQ f (a.add 14) (.int .i64 x.f14) λg=>aQ g (a.add 15) (.int .i64 x.f15) λi=>aQ i (a.add 16) (.int .i64 x.f16) λj=>aQ j (a.add 17) (.slice x.Q5 x.Q6 x.Q7) λk=>aQ k (a.add 18) (.int .u64 x.f18) λl=>aQ l (a.add 19) (.int .u64 x.f19) λn=>aQ n (a.add 20) (.bool x.f20) λp=>aQ p (a.add 21) (.int .u64 x.f21) λq=>aQ q (a.add 22) (.bool x.f22) λr=>aQ r (a.add 23) (.int .u64 x.f23) λs=>aQ s (a.add 24) (.int .u64 x.f24) λt=>aQ t (a.add 25) (.string x.f25) λu=>aQ u (a.add 26) (.string x.f26) λv=>aQ v (a.add 27) (.slice x.Q8 x.Q9 x.Ra) λw=>K w
abbrev cS.gn(h:ak)(b:Nat)(x:cS.S):Prop:=h[b]? =some (.cells x.arr 62 (0,0))
theorem cS.ex{K:cS.S->Prop}(x:cS.S)(hk:K x):cS.EX K:=⟨_,_,_,_,_,_,_,_,_,_,_,_,_,_,_,_,_,_,_,_,_,_,_,_,_,_,_,_,_,_,_,_,hk⟩
theorem cS.fY{b:Nat}{x:cS.S}{K:cS.S->Prop}(H:cS.gn h b x)(hk:K x):cS.cW h (AA b 0) K:=
 ⟨_,aq H,_,aq H,_,aq H,_,aq H,_,aq H,_,aq H,_,aq H,_,aq H,_,aq H,_,aq H,_,aq H,_,aq H,_,aq H,_,aq H,_,aq H,_,aq H,_,aq H,_,_,_,aq H,_,aq H,_,aq H,_,aq H,_,aq H,_,aq H,_,aq H,_,aq H,_,aq H,_,aq H,_,_,_,aq H,hk⟩
theorem cS.nf{a:Addr}{x:cS.S}{K:cS.S->Prop}(H:dM a x.l 0 h)(hk:K x):cS.cW h a K:=by
 obtain⟨q,q1,q2,q3,q4,v,q6,w,y,z,Q,b,c,d,e,f,g,i,j,k,l,m,n,p,r,s,t,u,_⟩:=H;rw[eK]at q;exact⟨_,q,_,q1,_,q2,_,q3,_,q4,_,v,_,q6,_,w,_,y,_,z,_,Q,_,b,_,c,_,d,_,e,_,f,_,g,_,_,_,i,_,j,_,k,_,l,_,m,_,n,_,p,_,r,_,s,_,t,_,_,_,u,hk⟩
theorem cS.gB{x:cS.S}{K:Nat->ak->Prop}(hk: ∀b h',b=h.size->cS.gn h' b x->Fr No h h'->K b h'):aT h (.cells cS.S.z.arr 62) λb H=>cS.dE H (AA b 0) x (K b):=
 gz (vs:=x.l) rfl rfl hk
theorem cS.dv{x:cS.S}{K:Nat->ak->Prop}(hk: ∀b h',b=h.size->cS.gn h' b x->Fr No h h'->K b h'):aT h (.cells x.arr 62) λb H=>K b H:=
 cI (hk _ _ rfl bV (Fr.push _ _))
variable {K:cS.S->Prop} {x o:cS.S}
theorem IS.walk{s:Nat} (z:aT h (.cells o.arr 62) λb i=>aT i (.cells av.S.z.arr 44) λB H=>Hi H b 0 λt6=>aI (λ(r:ak)=>av.dE r (AA B 0) av.S.z λe=>av.cW e (AA B 0) λA=>R (A.agg) e) (λJ=>aI (λ(t:ak)=>J t) (λg=>if(t6==0)then Hi H b 1 λt11=>aH.cW H (AA b 2) λt13=>Cl 13 #[.P s 0,.I t11,t13.agg] H λv u=>av.EX λt14=>v=t14.agg/\av.dE u (AA B 0) t14 λf=>av.cW f (AA B 0) λC=>R (C.agg) f else aI (λ(w:ak)=>g w) (λj=>if(t6==1)then Hu H b 21 λt19=>Cl 16 #[.P s 0,.U t19] H λV y=> ∃t20,V=.I t20/\j y else aI (λ(k:ak)=>j k) (λa=>if(t6==2)then Hp H s 0 λt26=>Hu H b 21 λt28=>Cl 12 #[.pointer t26,.U t28] H λM l=> ∃T D,M=.tuple #[.I T,.I D]/\a l else aI (λ(m:ak)=>a m) (λc=>if(t6==3)then Hp H s 0 λt35=>Hi H b 1 λt37=>Cl 73 #[.pointer t35,.I t37] H λN n=> ∃t38,N=.I t38/\c n else aI (λ(p:ak)=>c p) (λd=>if(t6==4)then Hp H s 2 λt44=>ax.cW H (AA b 22) λt46=>Hl H b 27 λG F E=>Hu H b 21 λt50=>Cl 15 #[.pointer t44,t46.agg,.slice G F E,.U t50] H λO q=> ∃I L,O=.tuple #[.I I,.I L]/\d q else d H))))))):Cl 25 #[.P s 0,o.agg] h R:=aR (lq (sq (lq (.join [] (bq (lq (.join [] (cq ll (lq (.join [] (cq lf (lq (.join [] (cq (pK 7) (lq (.join [] (cq (pK 7) (lq (.join [] (cq (pK 11) lf)))))))))))))))))) ll)) Tryz.func25 z
theorem Gy.walk (c:aT h (.cells o.arr 62) λb a=>aH.cW a (AA b 2) λt4=>Cl 57 #[t4.agg] a λv H=> ∃t5,v=.bool t5/\if t5 then R (.bool true) H else∃d t T,Cc H b 27 (.slice d t T)/\if(decide (((t:Nat):Int)>700))then R (.bool true) H else Hs H b 25 λt15=> ∃t19,Cc H b 26 (.string t19)/\R (.bool (decide ((wrap .i64 ((t15.size:Int)+((t19.size:Nat):Int)))>300))) H):Cl 21 #[o.agg] h R:=aR (lq ll) Tryz.func21 c
theorem BO.walk{N:bZ}{O i':Nat} (hv:Cl 9 #[] h λv Y=>ax.EX λt12=>v=t12.agg/\Cl 8 #[t12.agg] Y λm' z=> ∃t P,m'=.tuple #[.pointer t,.I P]/\aI (λ(t22:Bool) (E:ak)=>if t22 then R (.bool false) E else∃(I:Int->ak->Prop)(M:Int->ak->Nat),I 0 E/\∀(i:Int)(c:ak),I i c->aI (λ(t30:Bool) (p:ak)=>if t30 then aI (λ(F:ak)=>(I (wrap .i64 (i+1)) F/\M (wrap .i64 (i+1)) F<M i c)) (λu=>Bd i O/\aO N λa=>cS.cW p (a.add (toNat i*28)) λt36=>aT p (.cells cS.S.z.arr 62) λb h'=>cS.dE h' (AA b 0) t36 λG=>cS.cW G (AA b 0) λt37=>Cl 21 #[t37.agg] G λu' L=> ∃t38,u'=.bool t38/\if t38 then Cl 11 #[] L λv' Z=> ∃t39,v'=.bool t39/\R (.bool t39) Z else Cl 27 #[.pointer t] L λw' y=>Vl w' λU S Q=>cS.cW y (AA b 0) λt43=>Cl 25 #[.pointer t,t43.agg] y λx' a'=>av.EX λt44=>x'=t44.agg/\aT a' (.cells av.S.z.arr 44) λB b'=>av.dE b' (AA B 0) t44 λe=> ∃t46,Cc e b 0 (.I t46)/\if(t46 !=0)then u e else Cl 27 #[.pointer t] e λy' f=>Vl y' λr q T=>aI (λ(t74:Bool) (g:ak)=>if t74 then R (.bool false) g else cS.cW g (AA b 0) λt76=>Cl 25 #[.pointer t,t76.agg] g λz' c'=>av.EX λt77=>z'=t77.agg/\aT c' (.cells av.S.z.arr 44) λw d'=>av.dE d' (AA w 0) t77 λk=>aI (λ(t96:Bool) (A:ak)=>if t96 then R (.bool false) A else u A) (λd=>av.cW k (AA B 0) λt78=>av.cW k (AA w 0) λt79=>Cl 30 #[t78.agg,t79.agg] k λA' C=> ∃t80,A'=.bool t80/\if(!t80)then d true C else Cl 27 #[.pointer t] C λB' e'=>Vl B' λl' k' j'=>Cl 26 #[.slice r q T,.slice l' k' j'] e' λn' H=> ∃t86,n'=.bool t86/\if(!t86)then d true H else Hu H B 0 λt91=> ∃t94,Cc H b 2 (.U t94)/\d (t91 !=t94) H)) (λj=>aO t λX=>Bm f X λt53=>Hi f b 1 λt55=>Cl 28 #[.pointer t53,.I t55] f λo' l=> ∃t56,o'=.bool t56/\if(!t56)then Cl 26 #[.slice U S Q,.slice r q T] l λp' m=> ∃t67,p'=.bool t67/\if(!t67)then j true m else∃t71,Cc m B 1 (.I t71)/\j (t71==0) m else aH.cW l (AA b 2) λt60=>Cl 29 #[t60.agg] l λq' D=> ∃t61,q'=.bool t61/\if(!t61)then Cl 26 #[.slice U S Q,.slice r q T] D λr' n=> ∃V,r'=.bool V/\if(!V)then j true n else∃W,Cc n B 1 (.I W)/\j (W==0) n else j false D))else Cl 11 #[] p λs' f'=> ∃t97,s'=.bool t97/\R (.bool t97) f') (λs=>if(decide (i<(O:Int)))then s (decide (i<50)) c else s false c)) (λJ=>if(P !=0)then J true z else Cl 10 #[.pointer t] z λt' g'=> ∃t20,t'=.bool t20/\J (!t20) g')):Cl 6 #[.slice N O i'] h R:=aR (lq (lq (sq (sq (.join [(22,.one (.bool))] lf) (cq ll lf)) (sq (lq (bq (.loop [(5,.one (.int .i64))] (sq (sq (.join [(30,.one (.bool))] lf) (cq lf lf)) (sq (.join [] (bq (lq (sq (lq (cq ll lf)) (lq (lq (sq (lq (cq lf lf)) (lq (sq (sq (.join [(74,.one (.bool))] (pK 25)) (cq ll lf)) (lq (sq (.join [(96,.one (.bool))] lf) (cq ll lf)))))))))))) lf))))) ll)))) Tryz.func6 hv
theorem Gz.walk{x:aH.S} (a:aT h (.cells x.arr 47) λb H=> ∃c t T,Cc H b 15 (.slice c t T)/\if(decide (((t:Nat):Int)>400))then R (.bool true) H else Hs H b 5 λt10=>Hs H b 6 λt14=>Hs H b 10 λt19=> ∃t24,Cc H b 11 (.string t24)/\R (.bool (decide ((wrap .i64 ((wrap .i64 ((wrap .i64 ((t10.size:Int)+(t14.size:Int)))+(t19.size:Int)))+((t24.size:Nat):Int)))>300))) H):Cl 57 #[x.agg] h R:=aR (lq ll) Tryz.func57 a

end
section
namespace Ask
open iY (Ev kO)
open eN (SS Good Pt sK Mk Bk)
open hM
open Go.fk (RD)
abbrev Op.s(o:Op)(p:bZ)(c:Nat)(q:bZ)(d:Nat):cS.S:=⟨o.kind,o.ses,o.q.id,o.q.kind,o.q.ep.jT,o.q.ep.node,o.q.ep.gr,o.q.ep.host,o.q.ep.jv,o.q.dest.jT,o.q.dest.node,o.q.dest.gr,o.q.dest.host,o.q.dest.jv,o.q.jS,o.q.num,o.q.iV,p,o.q.oa.length,c,o.q.fj,o.q.token,o.q.on,o.at_,o.x.jT,o.x.node,o.x.gr,o.x.host,o.x.jv,q,o.b.length,d⟩
variable {V : List UInt8 → Bool} {h h' u H g : ak} {R : Value → ak → Prop} {s k c d : Nat} {X n : Ft} {I : sK} {σ w : SS} {p q : Option Addr} {o : Op}
theorem SJ{b:Nat}{K:aH.S->Prop}(a:cS.gn h b (o.s p c q d))(hk:K (o.q.s p c)):aH.cW h (AA b 2) K:=
 ⟨_,aq a,_,aq a,_,aq a,_,aq a,_,aq a,_,aq a,_,aq a,_,aq a,_,aq a,_,aq a,_,aq a,_,aq a,_,aq a,_,aq a,_,aq a,_,_,_,aq a,_,aq a,_,aq a,_,aq a,hk⟩
theorem SK(x:Rq)(hk: ∀h' b,Fr No h h'->R (.bool b) h'):Cl 57 #[(x.s p c).agg] h R:=by
 refine Gz.walk (aH.dv (x:=x.s p c) λB e E a f2=>⟨_,_,_,aq a,?_⟩);split
 .exact hk e _ f2
 .exact⟨_,aq a,_,aq a,_,aq a,_,aq a,hk e _ f2⟩
theorem OT(o:Op)(hk: ∀h' b,Fr No h h'->R (.bool b) h'):Cl 21 #[(o.s p c q d).agg] h R:=by
 refine Gy.walk (cS.dv (x:=o.s p c q d) λb H E f f1=>SJ f (SK o.q λa v f2=>⟨v,rfl,?_⟩));have F:=f1.tt f2;have e:=f2.get f id;split
 .exact hk a _ F
 .refine⟨_,_,_,aq e,?_⟩;split
  .exact hk a _ F
  .exact⟨_,aq e,_,aq e,hk a _ F⟩
theorem SM{b1:Nat}{y:av.S}{bs:cM}(m:av.gn h b1 y)(r:Row h p (bc bs))(hd:bs≠ []): ∀a,p=some a->¬a.block=b1:=by
 rintro a rfl e;cases bs with
 |nil=>exact hd rfl
 |cons x l=>
  obtain⟨C,t,f,H,_,b⟩:=tJ (Row.cell r (j:=0) rfl);have H:h[a.block]? =_:=H;rw[e,m]at H;cases H;generalize (a.add 0).off=i at b;rcases i with _|_|_|_|_|_|i<;>first|cases b|simp at b
theorem Ke(E:En V u h s X I σ k)(r:k+3<=30000)(o:Op)(rx:Rw h X p o.q.oa)(cx:o.q.oa.length<=c)(bx:Rw h X q o.b)(w1:0<=o.q.ep.gr)(w2:0<=o.q.dest.gr)(w3:0<=o.x.gr)(hk: ∀h' n Q D,En V u h' s n I (iy V σ o).1 (k+3)->bN X h n h'->Rw h' n Q (iy V σ o).2.b->R (rS (iy V σ o).2 Q D).agg h'):
  Cl 25 #[pt s,(o.s p c q d).agg] h R:=by
 refine IS.walk (cS.dv (x:=o.s p c q d) λb H eb hb f1=>av.dv (x:=.z) λb1 O n' a' f2=>⟨_,aq (f2.get hb id),aI.of λc' hJ=>aI.of λJ1 m'=> ?_⟩);have N:=f1.tt f2;have E2:=E.on N;have f:=f2.get hb id;have z1:=f1.1;have z2:=f2.1;have zb:=aE hb;have o':=aE a';have b': ¬X.M b1:=E.nM ae;have out: ∀g n (y:RD) Q D,En V u g s n I (iy V σ o).1 (k+3)->bN X O n g->(iy V σ o).2=y->Rw g n Q y.b->av.dE g (AA b1 0) (rS y Q D) λh4=>av.cW h4 (AA b1 0) λr0=>R r0.agg h4:=by
  intro g n y Q D M st Y ry;subst Y;have nx: ∀y,n.M y\/n.D y->¬y=b1:=λy hy e=>by
   subst e;rcases hy with a|a
   .exact(st.jD _ a).elim b' (λa=>ae)
   .exact(st.lW _ a).elim (λa=>bR (E.H.lt y (.inr a))) (λa=>ae)
  refine Gt (st.fr.get a' b') λg' f'=> ?_
  have U:=bN.no N st;have l':bN X h n g':=⟨U.fr.trans f' cb (λy hy e=>ae),U.jD,U.lW,U.wc⟩;refine hk g' n Q D (E.step (M.H.frame f' nx) l' M.G r) l' ?_;by_cases hd:(iy V σ o).2.b= []
  .rw[hd];exact⟨Row.nil,λe=>absurd rfl e⟩
  .exact⟨ry.1.frame f' (SM (st.fr.get a' b') ry.1 hd),ry.2⟩
 have fin: ∀g n,En V u g s n I (iy V σ o).1 (k+3)->bN X O n g->(iy V σ o).2=RD.zero->c' g:=by
  intro g n M st Y;subst hJ;exact out g n RD.zero none 0 M st Y ⟨Row.nil,λe=>absurd rfl e⟩
 have T: ∀{τ:SS}{k:Nat},eN.Good τ (k+1)->eN.Good τ (k+3):=λG=>eN.Good.more (eN.Good.more G)
 by_cases K:o.kind=0
 .have e:iy V σ o=nj V σ o.ses o.q:=ah K;rw[e]at out;rw[ah (Ask.bq.2 K)];refine⟨_,aq f,SJ f (RO E2 ae w1 w2 ((rx.on N).1) cx λj l q3 d3 m S row nM=>av.ex (rS (nj V σ o.ses o.q).2 q3 d3) ⟨rfl,?_⟩)⟩;exact out j l _ q3 d3 (E2.step m S (eN.Good.more (Good.nj (V:=V) (ses:=o.ses) (q:=o.q) E.G E.H.ord E.hk w1)) r) S rfl ⟨row,nM⟩
 rw[af (λe=>K (Ask.bq.1 e))];refine aI.of λJ2 e'=> ?_
 have e2:J2=c':=by rw[e',m']
 clear e';subst e2;by_cases t:o.kind=1
 .have e:iy V σ o=(eN.xT σ o.at_,RD.zero):=(af K).trans (ah t);rw[e]at fin;rw[ah (Ask.bq.2 t)];obtain⟨L,ok⟩:=E.H.okB;exact⟨_,aq f,eN.vw o.at_ rfl E2.H E.G ae λj l m S=>⟨_,rfl,fin j l (E2.step m S (T (eN.Good.pass E.G E.H.ord L ok ae o.at_)) r) S rfl⟩⟩
 rw[af (λe=>t (Ask.bq.1 e))];refine aI.of λJ3 i'=> ?_
 have e3:J3=J2:=i';clear i';subst e3;by_cases v:o.kind=2
 .have e:iy V σ o=({ σ with A:=eE.kj σ.A o.at_ },RD.zero):=(af K).trans ((af t).trans (ah v));rw[e]at fin;rw[ah (Ask.bq.2 v)];exact⟨_,aq E2.H.cX,_,aq f,nN E2 ae o.at_ λj l _ _ B S=>⟨_,_,rfl,fin j l ⟨B.H,T B.G,r,B.u,B.U,B.mx⟩ S rfl⟩⟩
 rw[af (λe=>v (Ask.bq.1 e))];refine aI.of λJ4 j'=> ?_
 have e4:J4=J3:=j';clear j';subst e4;by_cases J:o.kind=3
 .have e:iy V σ o=({ σ with A:=eE.rh σ.A o.ses },RD.zero):=(af K).trans ((af t).trans ((af v).trans (ah J)));rw[e]at fin;rw[ah (Ask.bq.2 J)];obtain⟨Z,F,zm,zd,go⟩:=E2.H.use 0;refine⟨_,aq E2.H.cX,_,aq f,eE.Dp F E.G.a λj W T3 s3=> ?_⟩;obtain⟨l,m,S,_,_⟩:=go j W { σ with A:=eE.rh σ.A o.ses } T3 s3 (λi hi=>eN.Ar _ hi);exact⟨_,rfl,fin j l (E2.step m S (T (eN.Good.more (Good.ku E.G (E.G.a.down _)))) r) S rfl⟩
 rw[af (λe=>J (Ask.bq.1 e))];refine aI.of λJ5 k'=> ?_
 have e5:J5=J4:=k';clear k';subst e5;by_cases P:o.kind=4
 .have e:iy V σ o=({ σ with C:=gx.j8 σ.C o.x o.b o.at_ },RD.zero):=(af K).trans ((af t).trans ((af v).trans ((af J).trans (ah P))));rw[e]at fin;rw[ah (Ask.bq.2 P)];obtain⟨Z,F,zm,zd,go⟩:=E2.H.use 2;have sm:=E2.G.small E2.H.ord ae;have d':=bx.on N;refine⟨_,aq E2.H.cX,show ax.cW O (AA b 22) _ from⟨_,aq f,_,aq f,_,aq f,_,aq f,_,aq f,?_⟩⟩;refine⟨_,_,_,aq f,_,aq f,gx.Aj F sm (λz F=>(E.G.c.ok.bd z F).2.1) (bR E.G.c.ok.xO) o.x (d:=o.b) o.at_ rfl d'.1 rfl (λhd a ha hm=>d'.2 hd a.block ⟨a,ha,rfl⟩ (zm _ hm)) λj W C3 s3=> ?_⟩;obtain⟨l,m,S,_,_⟩:=go j W { σ with C:=gx.j8 σ.C o.x o.b o.at_ } C3 s3 (λi hi=>eN.wQ _ hi);exact⟨_,_,rfl,fin j l (E2.step m S (T (eN.Good.VT E.G E.H.ord ae _ w3 _ _)) r) S rfl⟩
 have e:iy V σ o=(σ,RD.zero):=(af K).trans ((af t).trans ((af v).trans ((af J).trans (af P))));rw[e]at fin;rw[af (λe=>P (Ask.bq.1 e))];exact fin O X ⟨E2.H,eN.Good.more (eN.Good.more (eN.Good.more E.G)),r,E2.u,E2.U,E2.mx⟩ (bN.refl _ _) rfl
theorem BL.lK{l:Nat}{bs:List (cM)}{S:Nat->Prop}(B:BL u h p l c bs)(f:Fr S h h')(i: ∀y,u.size<=y->¬S y):BL u h' p l c bs:=by
 obtain⟨xs,D,H,j,m,r,b,e⟩:=B;exact⟨xs,D,H,j.frame f (λy a=>i y (e y a)),m,λx t=>(r x t).frame f (λy a=>i y (b y a).1),λy a=>⟨(b y a).1,cE (b y a).2.1 f.1,(b y a).2.2⟩,e⟩
theorem RP{g0 G:ak}{l m e:Nat}{bs cs:List (cM)}(B:BL g0 h p l c bs)(C:BL G h q m e cs)(a:cs=bs)(f:bs.length<=1000000)(hk:R (.bool true) h):Cl 26 #[.slice p l c,.slice q m e] h R:=by
 subst a;have b:=B.len;obtain⟨xs,r1,e1⟩:=B.Js;obtain⟨ys,r2,e2⟩:=C.Js;refine hM.iI r1 r2 ae ?_;rw[e1,e2,aw rfl];exact hk
def GA(σ:SS):List (cM):=eN.Jw σ::eN.N1 σ
theorem vM(E:En V u h s X I σ k):(GA σ).length<=1000000:=by
 have m:=eE.vM E.G.a;have M:=E.G.a.le;have a:=E.G.g.len;have b:(gx.vK σ.C).length=σ.C.L.length+1:=by unfold gx.vK;simp
 have e:=E.G.c.L;have f:(gD.vL σ.B).length=σ.B.items.length+1:=by unfold gD.vL;simp
 obtain⟨L,ok⟩:=E.H.okB;have i:=ok.le;have:=E.hk;unfold GA eN.N1;simp only[aW,ar,aA];omega
end Ask
end
section
namespace Ask
open iY (Ev kO)
open eN (SS Good Pt sK Mk Bk)
open hM
open Go.fk (RD)
variable {h H:ak} {s k c d:Nat} {p q:bZ} {o:Op}
variable {v:Value}
structure OV where
 o:Op
 p:bZ
 c:Nat
 q:bZ
 d:Nat
abbrev OV.cs(f:OV):cS.S:=f.o.s f.p f.c f.q f.d
abbrev HS(f:OV):List Value:=f.cs.l
theorem OU(f:OV):(HS f).length=28:=rfl
structure OV.ok (h:ak) (f:OV):Prop where
 r1:Row h f.p (bc f.o.q.oa)
 c1:f.o.q.oa.length<=f.c
 r2:Row h f.q (bc f.o.b)
 w1:0<=f.o.q.ep.gr
 w2:0<=f.o.q.dest.gr
 w3:0<=f.o.x.gr
theorem U0:uR Tryz.prog 8 62=some [3,3,27,3,4,27,27,9,9,4,27,27,9,9,3,3,3,22,27,27,4,27,4,27,27,9,9,22]:=cZ
theorem OW{n:Nat}(b:rR Tryz.prog h n 22 [v]): ∃p c bs,v=.slice p (bs:cM).length c/\Row h p (bc bs)/\bs.length<=c:=by
 obtain⟨p,c,bs,rfl,g⟩:=rR.bytes cZ hM.u8 hM.uU b;refine⟨p,c,bs,rfl,g,?_⟩;cases n with
 |zero=>exact b.elim
 |succ n=>
  unfold rR at b;rw[hM.uU]at b;rcases b with f|⟨a,l,C,f,H,_⟩
  .injection f with e _
   injection e with e1 e2 E
   omega
  .injection f with e _
   injection e with e1 e2 E
   omega
theorem LQ{m:Nat}(a:rR Tryz.prog h m 9 [v]): ∃s,v=.string s:=by
 cases m with
 |zero=>exact a.elim
 |succ m=>
  unfold rR at a;rw[show Tryz.prog.underlying 9=some .string by kernel_rfl]at a;obtain⟨s,e,_⟩:=a;exact⟨s,cH e⟩
theorem SN(n:Nat)(cs:List Value)(a:cs.length=28)(i:rR Tryz.prog h n 62 cs): ∃f:OV,cs=HS f/\f.ok h:=by
 have L:=zp 8 n _ _ cs U0 (by rw[a];rfl) i
 match cs,a with
 | [v0,v1,v2,v3,v4,v5,v6,v7,v8,v9,d',e',f',g',h',i',j',k',l',m',n',o',p',q',r',s',t',u'],_=>
  obtain⟨j,rfl,_⟩:=L.int 0 rfl rfl (k:=.i64) cZ;obtain⟨l,rfl,_⟩:=L.int 1 rfl rfl (k:=.i64) cZ;obtain⟨e,rfl,w2⟩:=L.int 2 rfl rfl (k:=.u64) cZ;obtain⟨G,rfl,_⟩:=L.int 3 rfl rfl (k:=.i64) cZ;obtain⟨I,rfl⟩:=L.bool 4 rfl rfl cZ;obtain⟨J,rfl,_⟩:=L.int 5 rfl rfl (k:=.u64) cZ;obtain⟨M,rfl,w6⟩:=L.int 6 rfl rfl (k:=.u64) cZ;obtain⟨_,W⟩:=L.get 7 rfl rfl;obtain⟨N,rfl⟩:=LQ W;obtain⟨_,X⟩:=L.get 8 rfl rfl;obtain⟨O,rfl⟩:=LQ X;obtain⟨P,rfl⟩:=L.bool 9 rfl rfl cZ;obtain⟨m,rfl,_⟩:=L.int 10 rfl rfl (k:=.u64) cZ;obtain⟨r,rfl,Y⟩:=L.int 11 rfl rfl (k:=.u64) cZ;obtain⟨_,Q⟩:=L.get 12 rfl rfl;obtain⟨t,rfl⟩:=LQ Q;obtain⟨_,R⟩:=L.get 13 rfl rfl;obtain⟨u,rfl⟩:=LQ R;obtain⟨w,rfl,_⟩:=L.int 14 rfl rfl (k:=.i64) cZ;obtain⟨x,rfl,_⟩:=L.int 15 rfl rfl (k:=.i64) cZ;obtain⟨y,rfl,_⟩:=L.int 16 rfl rfl (k:=.i64) cZ;obtain⟨_,S⟩:=L.get 17 rfl rfl;obtain⟨p,c,b1,rfl,r1,c1⟩:=OW S;obtain⟨K,rfl,Z⟩:=L.int 18 rfl rfl (k:=.u64) cZ;obtain⟨b,rfl,a'⟩:=L.int 19 rfl rfl (k:=.u64) cZ;obtain⟨z,rfl⟩:=L.bool 20 rfl rfl cZ;obtain⟨g,rfl,b'⟩:=L.int 21 rfl rfl (k:=.u64) cZ;obtain⟨A,rfl⟩:=L.bool 22 rfl rfl cZ;obtain⟨C,rfl,_⟩:=L.int 23 rfl rfl (k:=.u64) cZ;obtain⟨D,rfl,c'⟩:=L.int 24 rfl rfl (k:=.u64) cZ;obtain⟨_,T⟩:=L.get 25 rfl rfl;obtain⟨E,rfl⟩:=LQ T;obtain⟨_,U⟩:=L.get 26 rfl rfl;obtain⟨F,rfl⟩:=LQ U;obtain⟨_,V⟩:=L.get 27 rfl rfl;obtain⟨q,d,B,rfl,r2,c2⟩:=OW V;obtain⟨e,rfl⟩:=e8 (wf_u64 w2).1;obtain⟨K,rfl⟩:=e8 (wf_u64 Z).1;obtain⟨b,rfl⟩:=e8 (wf_u64 a').1;obtain⟨g,rfl⟩:=e8 (wf_u64 b').1;exact⟨⟨⟨j,l,⟨e,G,⟨I,J,M,N,O⟩,⟨P,m,r,t,u⟩,w,x,y,b1,K,b,z⟩,g,⟨A,C,D,E,F⟩,B⟩,p,c,q,d⟩,rfl,⟨r1,c1,r2,(wf_u64 w6).1,(wf_u64 Y).1,(wf_u64 c').1⟩⟩
theorem OX{l:Nat}(j:qH Tryz.prog h 60 (.slice p l c)): ∃fs:List OV,fs.length=l/\Row h p (fs.flatMap HS)/\∀f∈fs,f.ok h:=by
 obtain⟨xs,H,_,_,a,b⟩:=qH.slice (e:=62) HS 28 (λf=>f.ok h) cZ (λ_=>rfl) (λn cs g i=>SN n cs g i) cZ j;exact⟨xs,H,a,b⟩

end Ask
end
section
namespace Ask
open iY (Ev cV)
open eN (SS Good)
open Bn (oH oI)
open eE (eE jd ku yi jz lL gV pU)
open Go.fk (RD tW qO)
variable {V:cM→Bool} {σ:SS} {k id:Nat} {ses o m:Int} {q:Rq} {d:cM} {n:Nat × Nat} {b:oH} {t:Nat} {A B:List eE} {s s':eE}
theorem rL(h:jd A m=some s):s∈A:=by
 obtain⟨i,_,e⟩:=eE.kZ h;exact aJ e
theorem Kf(h:jd A ses=some s):jd (ku A ses s') m=if m=ses then some s' else jd A m:=by
 obtain⟨i,rfl,H⟩:=eE.kZ h;have a:=(aB.1 H).1;unfold jd ku;rw[show((i:Int)+1 - 1).toNat=i by omega];by_cases e:m=(i:Int)+1
 .rw[ah e,e,gh,show((i:Int)+1 - 1).toNat=i by omega,List.getElem?_set_self a]
 .rw[af e];by_cases p:1<=m
  .rw[ah p,ah p,List.getElem?_set_ne ae]
  .rw[af p,af p]
def SU(A B:List eE):Prop:= ∀m,(jd B m).map (·.up)=(jd A m).map (·.up)
theorem SU.set(h:jd A ses=some s)(e:s'.up=s.up):SU A (ku A ses s'):=λm=>by
 rw[Kf h];split
 .rename_i q;rw[q,h];simp[e]
 .rfl
theorem SU.up(h:SU A B):yi B m=yi A m:=by
 have:=h m;unfold yi;cases H:jd A m<;>cases a:jd B m<;>simp_all
def KK(A:List eE):Prop:= ∀s∈A,∀a∈s.kept,∃y,tW a.2=some y/\y.id=a.1
theorem KK.set(K:KK A)(h: ∀a∈s'.kept,∃y,tW a.2=some y/\y.id=a.1):KK (ku A ses s'):=λs H=>by
 rcases List.mem_or_eq_of_mem_set H with H|rfl
 .exact K s H
 .exact h
theorem KK.nil:KK []:=λs h=>by cases h
theorem KK.kj(K:KK A):KK (eE.kj A t):=by
 unfold eE.kj;split
 .intro s hs;rcases bz.1 hs with hs|hs
  .exact K s hs
  .simp only[bM]at hs;subst hs;intro a h;cases h
 .exact K
theorem KK.rh(K:KK A):KK (eE.rh A ses):=by
 unfold eE.rh;split
 .exact K
 .rename_i s h;split
  .exact K.set (s':= { s with up:=false }) (K s (rL h))
  .exact K
theorem KK.watch(K:KK A){on:Bool}:KK (eE.iB A ses on):=by
 unfold eE.iB;split
 .exact K
 .rename_i s h;exact K.set (s':= { s with watch:=on }) (K s (rL h))
theorem KK.read(K:KK A):KK (eE.sU A ses):=by
 unfold eE.sU;split
 .exact K
 .rename_i s h;exact K.set (s':= { s with notes:=s.notes.drop 1 }) (K s (rL h))
theorem LR{k:List (Nat×cM)}{a:Nat×cM}(h:a∈gV k id d):a∈k\/a=(id,d):=by
 have key: ∀a,a∈k.filter (λa=>decide (a.1≠id))++ [(id,d)]->a∈k\/a=(id,d):=λa h=>by
  rcases bz.1 h with h|h
  .exact .inl (ba.1 h).1
  .exact .inr (cH h)
 unfold gV at h;split at h
 .exact key a (List.mem_of_mem_drop h)
 .exact key a h
theorem KK.lK{y:RD}(K:KK A)(hd:tW d=some y)(H:y.id=id):KK (jz A ses id d):=by
 unfold jz;split
 .exact K
 .rename_i s c;split
  .exact K
  .refine K.set (s':= { s with kept:=gV s.kept id d }) λa h=> ?_
   rcases LR h with h|rfl
   .exact K s (rL c) a h
   .exact⟨y,hd,H⟩
theorem OY{k:List (Nat×cM)}: ∀(_:k.length<=6),pU (gV k id d) id=some d:=by
 intro _;have key: ∀l:List (Nat×cM),(∀a∈l,a.1≠id)->pU (l++ [(id,d)]) id=some d:=by
  intro l f;unfold pU;rw[List.find?_append,List.find?_eq_none.2 (λa H=>cH (f a H))];simp
 have c: ∀a∈k.filter (λa=>decide (a.1≠id)),a.1≠id:=λa H=>by simpa using (ba.1 H).2
 unfold gV;split
 .rename_i h;cases e:k.filter (λa=>decide (a.1≠id))with
  |nil=>rw[e]at h;simp at h
  |cons x l=>
   show pU (l++ [(id,d)]) id=_;exact key l (λa H=>c a (by rw[e];exact ct _ H))
 .exact key _ c
theorem LS(h:yi A ses=true)(hk:eE.ox A)(c:id<=1099511627776)(f:d.length<=1000):lL (jz A ses id d) ses id=some d/\SU A (jz A ses id d):=by
 unfold yi at h;cases H:jd A ses with
 |none=>rw[H]at h;cases h
 |some s=>
  obtain⟨i,_,a⟩:=eE.kZ H;have e:jz A ses id d=ku A ses { s with kept:=gV s.kept id d } :=by unfold jz;rw[H];dsimp only;rw[dz]
  rw[e];refine⟨?_,SU.set H rfl⟩;unfold lL;rw[Kf H,ah rfl];exact OY (hk.at_ i s a).kl
theorem SO:(eN.oh σ o d t).A=σ.A:=by unfold eN.oh;split<;>rfl
theorem OZ:(kP V σ ses b n).σ.A=σ.A:=by
 unfold kP;split
 .rfl
 .unfold Ay;split
  .exact SO
  .rfl
theorem SP:(ks V σ ses d).1.A=σ.A:=by
 unfold ks;repeat (first|rfl|exact OZ|split)
theorem RQ:(nT V σ ses q).σ.A=σ.A\/(nT V σ ses q).σ.A=eE.sU (eE.iB σ.A ses q.on) ses:=by
 unfold nT;split
 .exact .inl rfl
 split
 .split<;>exact .inl rfl
 split
 .exact .inl rfl
 split
 .unfold rE;split
  .split
   .exact .inl rfl
   .exact .inl OZ
  .exact .inl rfl
 split
 .exact .inl rfl
 split
 .exact .inl rfl
 split
 .unfold xU;repeat (first|exact .inl rfl|split)
 split
 .unfold FF;split
  .split
   .exact .inl rfl
   .exact .inl SP
  .exact .inl rfl
 split
 .exact .inl rfl
 split
 .unfold rF;split
  .exact .inr rfl
  .exact .inl rfl
 .exact .inl rfl
theorem SU.rfl:SU A A:=λ_=>Eq.refl _
theorem SU.trans{C:List eE}(a:SU A B)(b:SU B C):SU A C:=λm=>(b m).trans (a m)
theorem SQ:SU σ.A (nT V σ ses q).σ.A:=by
 rcases RQ (V:=V) (σ:=σ) (ses:=ses) (q:=q)with e|e
 .rw[e];exact .rfl
 .rw[e];refine SU.trans (B:=eE.iB σ.A ses q.on) ?_ ?_
  .unfold eE.iB;split
   .exact .rfl
   .rename_i s h;exact SU.set h (Eq.refl _)
  .unfold eE.sU;split
   .exact .rfl
   .rename_i s h;exact SU.set h (Eq.refl _)
theorem SR(K:KK σ.A):KK (nT V σ ses q).σ.A:=by
 rcases RQ (V:=V) (σ:=σ) (ses:=ses) (q:=q)with e|e
 .rw[e];exact K
 .rw[e];exact K.watch.read

end Ask
end
section
namespace Ask
open iY (Ev cV)
open eN (SS Good)
open Bn (oH oI)
open eE (eE jd ku yi jz lL gV pU)
open Go.fk (RD tW qO)
variable {V:cM→Bool} {σ:SS} {k id:Nat} {ses o m e:Int} {q:Rq} {d:cM} {n:Nat × Nat} {b:oH} {A B:List eE}
def Er(e:Int):Prop:=0<=e/\e<=99
structure Fit (x:Ot):Prop where
 e:Er x.e
 n:x.e=0->0<=x.num/\x.num<=1099511627776
 c:x.e=0->0<=x.xO/\x.xO<=1099511627776
 d:x.e=0->x.d.length<=600
theorem Fit.bad(h:Er e):Fit (bad σ e):=⟨h,λ_=>⟨dT _,by show(0:Int)<=_;decide⟩,λ_=>⟨dT _,by show(0:Int)<=_;decide⟩,λ_=>br _⟩
theorem A7{L:List gj.Rg}{x:Ev}:Er (gj.jj L x o):=by
 unfold gj.jj;repeat (first|exact⟨dt,dt⟩|split)
theorem Kg{L:List gx.Cp}:Er (gx.km L m o):=by
 unfold gx.km;repeat (first|exact⟨dt,dt⟩|split)
theorem Fit.of(h:Er e){x y:Int}(H:0<=x/\x<=100000)(a:0<=y/\y<=100000)(hd:d.length<=600):Fit ⟨σ,e,x,y,d⟩:=
 ⟨h,λ_=>⟨H.1,by show x<=_;omega⟩,λ_=>⟨a.1,by show y<=_;omega⟩,λ_=>hd⟩
theorem Rb(G:eN.Good σ k)(hk:k<=30000):Fit (kP V σ ses b n):=by
 unfold kP;split
 .exact Fit.bad ⟨dt,dt⟩
 unfold Ay;split
 .rename_i d _ h;have a:eN.DD σ ses d (lu σ.now b.p.fj)=(σ.B.next:Int)/\d.length<=600:=by
   unfold eN.uv at h;unfold eN.DD;split at h
   .cases h
   .rename_i H;rw[af H];unfold gD.Ai;rw[ah h];exact⟨rfl,(gD.uf.1 (eN.PW h).1).2.2.2.1⟩
  rw[a.1];have:=G.b;exact Fit.of ⟨dt,dt⟩ ae ae (br _)
 .rename_i d _ h;refine⟨?_,λe=>absurd e h,λe=>absurd e h,λe=>absurd e h⟩;show Er (eN.uv _ _ _ _);unfold eN.uv gD.iN;repeat (first|exact⟨dt,dt⟩|split)
theorem SV:0<=(ks V σ ses d).2/\(ks V σ ses d).2<=100000:=by
 unfold ks;repeat (first|(dsimp only;decide)|split)
theorem Rc(G:eN.Good σ k)(hk:k<=30000):Fit (nT V σ ses q):=by
 have j:=G.c.L;have E:Er 0:=⟨dt,dt⟩;unfold nT;split
 .refine Fit.bad ?_;unfold gj.iN;repeat (first|exact⟨dt,dt⟩|split)
 split
 .split
  .have:=G.c.full q.ep;exact Fit.of E ae ae (br _)
  .exact Fit.bad A7
 split
 .refine Fit.bad ?_;unfold gj.Hz;split
  .exact A7
  .exact⟨dt,dt⟩
 split
 .unfold rE;split
  .split
   .exact Fit.bad ⟨dt,dt⟩
   .exact Rb G hk
  .exact Fit.bad A7
 split
 .refine Fit.bad ?_;unfold gD.mS;repeat (first|exact⟨dt,dt⟩|split)
 split
 .have:=G.c.full q.ep;have f:gx.Dz σ.C.L q.ep<=(gx.lC σ.C.L q.ep).length:=cC _ _;exact Fit.of A7 ae ae (br _)
 split
 .unfold xU;split
  .split
   .split
    .exact Fit.bad ⟨dt,dt⟩
    .rename_i z c;have H:z∈σ.C.L:=by
      unfold gx.lg gx.lC at c;exact(ba.1 (eX c)).1
     have p:=(G.c.ok.bd z H).2.1;have f:=G.c.len;have r:=Q4 (V:=V) (d:=z.d);exact Fit.of E ae ae (G.c.all z H).d
   .exact Fit.bad ⟨dt,dt⟩
  .exact Fit.bad A7
 split
 .unfold FF;split
  .split
   .exact Fit.bad E
   .exact Fit.of E ae SV (br _)
  .exact Fit.bad Kg
 split
 .exact Fit.bad Kg
 split
 .unfold rF;split
  .have a: ∀s,jd (eE.iB σ.A ses q.on) ses=some s->s.notes.length<=6/\(s.notes.headD []).length<=600:=by
    intro s h;obtain⟨i,_,g⟩:=eE.kZ h;have ok:=(G.a.watch (num:=ses) (on:=q.on)).at_ i s g;refine⟨ok.nl,?_⟩;cases e:s.notes with
    |nil=>exact br _
    |cons x l=>exact(ok.nd x (by rw[e];exact df)).2
   refine Fit.of ?_ ae ?_ ?_
   .unfold eE.Jk;split<;>exact⟨dt,dt⟩
   .unfold eE.Fk;split
    .exact⟨dt,dt⟩
    .rename_i s h;have:=a s h;omega
   .unfold eE.Ag;split
    .exact br _
    .rename_i s h;exact(a s h).2
  .refine Fit.bad ?_;unfold eE.uh;split<;>exact⟨dt,dt⟩
 .exact Fit.bad ⟨dt,dt⟩
theorem Fit.right{x:Ot}(f:Fit x)(h:id<=1099511627776):(jQ id x).ma:=by
 have Z:(0:Int)<=0/\(0:Int)<=99:=dt
 have z:(0:Int)<=0/\(0:Int)<=1099511627776:=dt
 unfold jQ;split
 .rename_i e;exact⟨h,Z,f.n e,f.c e,br _,f.d e,λn=>absurd rfl n⟩
 .rename_i e;exact⟨h,f.e,z,z,br _,br _,λ_=>⟨rfl,rfl,rfl,rfl⟩⟩
theorem right_id(h:iW q=true):q.id<=1099511627776:=by
 unfold iW at h;simp only[aS,aZ]at h;exact h.1.1.2
theorem LU(K:KK σ.A)(G:eN.Good σ k)(hk:k<=30000)(g:eE.ox (nT V σ ses q).σ.A):
  nj V (nj V σ ses q).1 ses q=nj V σ ses q/\(nj V σ ses q).2.id=q.id/\KK (nj V σ ses q).1.A/\SU σ.A (nj V σ ses q).1.A/\
  ((yi σ.A ses=false\/iW q=false)->(nj V σ ses q).1=σ/\(nj V σ ses q).2.err≠0):=by
 by_cases c1:iW q=true/\q.kind<11
 case neg=>
  have e:nj V σ ses q=(σ,oR q.id 3):=af c1;rw[e];exact⟨e,rfl,K,.rfl,λ_=>⟨rfl,by show(3:Int)≠0;decide⟩⟩
 by_cases C:yi σ.A ses=true
 case neg=>
  have e:nj V σ ses q=(σ,oR q.id 16):=(ah c1).trans (af C);rw[e];exact⟨e,rfl,K,.rfl,λ_=>⟨rfl,by show(16:Int)≠0;decide⟩⟩
 have no:(yi σ.A ses=false\/iW q=false)->False:=λh=>by
  rcases h with h|h
  .rw[C]at h;cases h
  .rw[c1.1]at h;cases h
 cases c:lL σ.A ses q.id with
 |some b=>
  have e:nj V σ ses q=(σ,(tW b).getD RD.zero):=(ah c1).trans ((ah C).trans (by rw[c]));rw[e];refine⟨e,?_,K,.rfl,λh=>(no h).elim⟩;unfold lL at c;split at c
  .cases c
  .rename_i s l;unfold pU at c;cases H:s.kept.find? (λa=>decide (a.1=q.id))with
   |none=>rw[H]at c;cases c
   |some a=>
    rw[H]at c;cases c;obtain⟨y,p,j⟩:=K s (rL l) a (eX H);rw[p];have:=List.find?_some H;simp only[aZ]at this;exact j.trans this
 |none=>
  have r:=(Rc (V:=V) (ses:=ses) (q:=q) G hk).right (right_id c1.1);have e:nj V σ ses q=({ (nT V σ ses q).σ with A:=jz (nT V σ ses q).σ.A ses q.id (L8 (jQ q.id (nT V σ ses q))) },jQ q.id (nT V σ ses q)):=(ah c1).trans ((ah C).trans (by rw[c]));have i:L8 (jQ q.id (nT V σ ses q))=(jQ q.id (nT V σ ses q)).enc:=ah r;have S:=SQ (V:=V) (σ:=σ) (ses:=ses) (q:=q);have E:(jQ q.id (nT V σ ses q)).id=q.id:=by unfold jQ;split<;>rfl
  have u:yi (nT V σ ses q).σ.A ses=true:=by rw[S.up];exact C
  obtain⟨t,f⟩:=LS (d:=(jQ q.id (nT V σ ses q)).enc) u g (right_id c1.1) (cD (Go.fk.jI r.2.2.2.2.2.1) dt);have f:=S.trans f;rw[e,i];refine⟨?_,E,(SR K).lK (qO r) E,f,λh=>(no h).elim⟩;refine(ah c1).trans ((ah (f.up.trans C)).trans ?_);show(match lL (jz (nT V σ ses q).σ.A ses q.id (jQ q.id (nT V σ ses q)).enc) ses q.id with|some b=>_|none=>_)=_;rw[t];dsimp only;rw[qO r];rfl
theorem Re(K:KK σ.A){o:Op}(h:o.kind≠0):KK (iy V σ o).1.A:=by
 unfold iy;rw[af h];split
 .show KK (eN.xT _ _).A;unfold eN.xT;split<;>exact K
 split
 .exact K.kj
 split
 .exact K.rh
 split<;>exact K

end Ask
end
section
namespace Ask
open iY (Ev kO)
open eN (SS Good Pt sK Mk Bk)
open hM
open Go.fk (RD)
variable {V:cM→Bool} {h h' H g:ak} {R:fG} {s c d:Nat} {X k:Ft} {I:sK} {σ:SS} {p q:bZ} {o:Op}
theorem _root_.Go.Proofs.YtlenamcfacpheaaGreatDoor.askOnce_ok(lp:bZ)(ll lc:Nat)(hv:qH Tryz.prog h 60 (.slice lp ll lc))(tb:mO.oe h)(ut: ∃V,Cb.nk V h)(mx:mO.Mx h):Mw Tryz.prog 6 #[.slice lp ll lc] h:=by
 obtain⟨fs,rfl,row,v'⟩:=OX hv;obtain⟨V,U⟩:=ut;clear hv;unfold Mw;generalize hR:(λ(v:Value) h'=>v=.bool true/\Fr No h h')=R;have hk: ∀h',Fr No h h'->R (.bool true) h':=λh' O=>by rw[<-hR];exact⟨rfl,O⟩
 clear hR;refine BO.walk (Kc λH f1=>ax.ex IN.s ⟨rfl,eN.gu IN (λ_ h2 s X I H2 u2=>⟨_,_,rfl,aI.of λy' hJ=> ?_⟩) (λn=>absurd Kd n)⟩);have E2:=En.OS U mx f1 H2 u2;rw[dz];refine OR H2.cX ⟨_,rfl,?_⟩;subst hJ;dsimp only;rw[dz];refine⟨λi g=> ∃(j:Nat)(k:Ft)(σ:SS),i=(j:Int)/\j<=fs.length/\j<=50/\En V h g s k I σ (6*j)/\KK σ.A,λi _=>51 - i.toNat,⟨0,X,_,rfl,br _,br _,E2,KK.nil⟩,?_⟩;rintro _ g ⟨j,X1,σ,rfl,hj,F',E,K⟩;refine aI.of λJ1 e'=> ?_
 have out:J1 false g:=by
  subst e';dsimp only;rw[dz];exact Gx U mx E.u.fr λh3 f3=>⟨_,rfl,hk h3 (E.u.fr.tt f3)⟩
 by_cases hl:j<fs.length
 case neg=>rw[dz];exact out
 rw[gh];by_cases h5:j<50
 case neg=>rw[aD ae];exact out
 rw[aw ae];clear out;subst e';dsimp only;rw[ah rfl];obtain⟨f,O⟩: ∃f,fs[j]? =some f:=⟨_,aj hl⟩;have F:=v' f (aJ O);obtain⟨a0,rfl⟩: ∃a,lp=some a:=row.some (λe=>by
  have:=bP List.length e;rw[eO HS 28 (λ_=>rfl)]at this;simp at this;omega)
 have rg: ∀u,Fr No h u->dM (a0.add (j*28)) (HS f) 0 u:=λu fg=>(row.frame fg cb).fI OU O
 refine aI.of λJ2 r'=>⟨ae,az.2 (cS.nf (x:=f.cs) (rg g E.u.fr) (cS.gB (x:=f.cs) λb g1 eb hb f1=>cS.fY (x:=f.cs) hb (OT f.o λg2 v f2=>⟨_,rfl,?_⟩)))⟩
 have F2:=f1.tt f2;have E2:=E.on F2;have a':=f2.get hb id;cases v with
 |true=>
  rw[ah rfl];exact Gx U mx E2.u.fr λh4 f4=>⟨_,rfl,hk h4 (E2.u.fr.tt f4)⟩
 |false=>
 rw[dz];have sv: ∀{g:ak}{X:Ft}{σ:SS}{n:Nat}{K:fG},En V h g s X I σ n->(∀h' p' l' c',BL g h' p' l' c' (GA σ)->Fr No g h'->K (.slice p' l' c') h')->Cl 27 #[pt s] g K:=λE hK=>
  eN.mq E.H E.G E.hk (tb.on E.u.fr) hK
 have D: ∀{g:ak}{X:Ft}{σ:SS}{n:Nat}{pp:bZ}{dd:cM},En V h g s X I σ n->Row h pp (bc dd)->Rw g X pp dd:=λE r=>⟨r.frame E.u.fr cb,λhd z hz w=>by
  have:=iK r (by simpa[bc]using hd) hz;have:=E.u.ge z (.inl w);omega⟩
 refine sv E2 λg3 p3 l3 c3 B3 f3=>⟨_,_,_,rfl,cS.fY (x:=f.cs) (f3.get a' id) ?_⟩
 have T:=E2.on f3;refine Ke T ae f.o (D T F.r1) F.c1 (D T F.r2) F.w1 F.w2 F.w3 λg4 J q4 d4 E4 b' r4=>av.ex (rS (iy V σ f.o).2 q4 d4) ⟨rfl,av.gB (x:=rS (iy V σ f.o).2 q4 d4) λb1 g5 B' f' f5=> ?_⟩
 have l:=E4.on f5;have r5:=r4.on f5;have z1:=f1.1;have z3:=(F2.tt f3).1;have nb: ¬X1.M b:=E.nM ae;have i':=f5.get (b'.fr.get (f3.get a' id) nb) id;have m': ∀u k m,En V h u s k I m (6*(j+1))->KK m.A->J2 u:=by
  intro u k m E' K';subst r';dsimp only;rw[bB ae ae];exact⟨⟨j+1,k,m,rfl,ae,ae,E',K'⟩,by show 51 - ((j:Int)+1).toNat<51 - (j:Int).toNat;omega⟩
 refine⟨_,aq i',?_⟩;by_cases P:f.o.kind=0
 case neg=>
  rw[ah (cH P)];exact m' g5 J _ ⟨l.H,eN.Good.more (eN.Good.more (eN.Good.more l.G)),ae,l.u,l.U,l.mx⟩ (Re K P)
 rw[af (cH P)];have ep: ∀m,iy V m f.o=nj V m f.o.ses f.o.q:=λm=>ah P
 obtain⟨ag,ei,K',su,un⟩:=LU (V:=V) (σ:=σ) (ses:=f.o.ses) (q:=f.o.q) K E.G ae (Good.nT (V:=V) (ses:=f.o.ses) (q:=f.o.q) E.G E.H.ord ae F.w1).a;refine sv l λL p6 l6 c6 B6 f6=>⟨_,_,_,rfl,aI.of λZ s'=> ?_⟩
 have B:=l.on f6;have N:=f6.get i' id;have o':BL g2 L p3 l3 c3 (GA σ):=((BL.lK B3 b'.fr (λy C w=>E2.nM C w)).on f5).on f6;have j':=f6.get f' id;have fin: ∀G,Fr No L G->Z false G:=by
  intro G f7;subst s';dsimp only;rw[dz];have W:=B.on f7;have z6:=(f6.tt f7).1;have I':=aE f';have n4: ∀y,g4.size<=y->¬J.M y:=λy C=>E4.nM C
  refine cS.fY (x:=f.cs) (f7.get N id) (Ke W ae f.o (D W F.r1) F.c1 (D W F.r2) F.w1 F.w2 F.w3 λM X8 q8 d8 E8 S Q=>av.ex (rS (iy V (iy V σ f.o).1 f.o).2 q8 d8) ⟨rfl,av.gB (x:=rS (iy V (iy V σ f.o).1 f.o).2 q8 d8) λb2 g9 C' g' f9=> ?_⟩);refine aI.of λJ4 t'=> ?_
  have x': ¬J.M b:=λw=>(b'.jD _ w).elim nb (λa=>bR (aE (f3.get a' id)))
  have w': ¬J.M b1:=n4 b1 ae;have u':=f9.get (S.fr.get (f7.get N id) x') id;have k':=f9.get (S.fr.get (f7.get j' id) w') id;have r9:=((((r5.on f6).on f7).step S).on f9).1;have Y:=E8.on f9;have Q:=(Q.on f9).1;have B9:BL g5 g9 p6 l6 c6 (GA (iy V σ f.o).1):=(BL.lK (B6.on f7) S.fr (λy C w=>l.nM C w)).on f9;rw[ep,ep,ag,<-ep]at Y Q g';refine av.fY k' (av.fY g' (yI.iI (p:=q4) (c:=d4) (q:=q8) (d:=d8) (iy V σ f.o).2 (iy V σ f.o).2 r9 Q λD' f10=>⟨_,rfl,?_⟩));rw[aw (Go.fk.RD.MK.2 rfl),dz];have d':=Y.on f10;refine sv d' λq' H' G' A' n' f11=>⟨_,_,_,rfl,RP ((B9.on f10).on f11) n' rfl (vM Y) ⟨_,rfl,?_⟩⟩
  rw[dz];refine⟨_,aq ((f10.tt f11).get k' id),_,aq ((f10.tt f11).get u' id),?_⟩;have e:(((iy V σ f.o).2.id:Int) !=(f.o.q.id:Int))=false:=by rw[ep,ei];simp
  rw[show((rS (iy V σ f.o).2 q4 d4).f0 !=f.cs.f2)=false from e];subst t';dsimp only;rw[dz];have A:=d'.on f11;refine m' q' X8 _ ⟨A.H,A.G,ae,A.u,A.U,A.mx⟩ ?_;rw[ep];exact K'
 obtain⟨z',hp,_⟩:=id B.H;have eA:(iy V σ f.o).1.A=(nj V σ f.o.ses f.o.q).1.A:=by rw[ep]
 have no:(eE.yi σ.A f.o.ses=false\/iW f.o.q=false)->∀G,Fr No L G->Cl 26 #[.slice p3 l3 c3,.slice p6 l6 c6] G λv M=> ∃t,v=.bool t/\if(!t)=true then Z true M else∃t71,aX M (AA b1 1)=some (.I t71)/\Z (t71==0) M:=by
  intro hn G f7;obtain⟨e1,e2⟩:=un hn;refine RP (o'.on f7) (B6.on f7) (by rw[ep,e1]) (vM E) ⟨_,rfl,?_⟩;rw[dz];refine⟨_,aq (f7.get j' id),?_⟩;have e:((rS (iy V σ f.o).2 q4 d4).f1==0)=false:=by show((iy V σ f.o).2.err==0)=false;rw[ep];simpa using e2
  rw[e];exact fin G f7
 refine az.2 ⟨_,aq B.H.cX,_,aq N,eE.Fe (hp 0) B.G.a ⟨_,rfl,?_⟩⟩;rw[eA,su.up];cases cu:eE.yi σ.A f.o.ses with
 |false=>
  rw[gh];exact no (.inl cu) L (Fr.refl _ _)
 |true=>
  rw[dz];refine SJ N (fx f.o.q ((D B F.r1).1) λG f7=>⟨_,rfl,?_⟩);cases cr:iW f.o.q with
  |false=>
   rw[gh];exact no (.inr cr) G f7
  |true=>
   rw[dz];exact fin G f7

end Ask
end
theorem BP{H:Type}{enc:TypeId×Value->H}{C:Checked}{o:Os}{f:FuncId}{F:Func}{s:ChangeSpec}{d:List PathCond}{apart fresh k A:Bool}{a:Assume}{X:World->Array Value->Prop}(m: ∀(w w':World)(args:Array Value),w.heap=w'.heap->X w args->X w' args)(own:ownKnob C.prog.godebug=none)(u:o.Started)(N:C.prog.inits.idxOf? f=none)(n:C.prog.funcs[f]? =some F)(x: ∃(w:World)(T:Tape)(i:Input),w.os=o/\(w.forCall T i).Shaped C.prog/\i.vars= []/\Input.okWide C.prog (w.forCall T i) .any w.heap.size f i/\
   ((s.pre enc C.prog F d apart (w.forCall T i).memory i.args/\X (w.forCall T i).memory i.args)/\sizedMet enc C.prog F (OpenSpec.ofChange s) apart (w.forCall T i).memory i.args)/\a.holds C.prog (lone (Frame.enter C.prog f i.args .normal) [] (w.forCall T i)))(l: ∀(W:World)(B:Nat)(args:Array Value)(ds G:List (DataW H))(b:List MemPlace),W.ShapedOpen C.prog->(∀(j:Nat) t v,F.params[j]? =some t->args[j]? =some v->Value.okWide C.prog W .any B t v)->
   DataW.Whole enc C.prog F.params.toList s.vars apart W args.toList ds G b->X W args->Calls C.prog f args W λe c=> ∃v,e=.returned v/\s.post enc C.prog F apart fresh k A W args v c):
  ReturnsInHanded a C o f .any (λw args=>(s.pre enc C.prog F d apart w args/\X w args)/\sizedMet enc C.prog F (OpenSpec.ofChange s) apart w args) (s.post enc C.prog F apart fresh k A):=
 returnsInHanded_of_calls own u N x λw T i _ S _ ok pre _=>by
  obtain⟨_,_,_,g,p,_,_,_,_,val⟩:=ok;cases bp (p.symm.trans n);obtain⟨⟨⟨ds,G,b,q,_⟩,r⟩,_⟩:=pre;refine(l (w.forCall T i) w.heap.size i.args ds G b S val (DataW.Whole.of_heap (w':=w.forCall T i) (by rfl) q) (m _ _ _ (by rfl) r)).mono λe c h=> ?_
  obtain⟨v,rfl,h⟩:=h;exact ChangeSpec.post_blind h
theorem mO.Mx.LV{W:World}(h:W.ShapedOpen Tryz.prog):mO.Mx W.heap:=by
 obtain⟨m,H⟩:=cell_of_shapedOpen_int (g:=5) (t:=3) (zero:= #[.I 0]) (k:=.i64) h (aP cZ) cZ rfl cZ cZ cZ;rw[ky]at H;exact⟨m,H⟩

section
namespace mO
theorem oe.vP{W:World}{l:List (String×DataW Unit)}{s:String}(j:Tryz.prog.globalNamed s=some 0)(h:laidMet Tryz.prog l W)(i:(s,Lib.tabData .u64 Lib.pow10Tab)∈l):oe W.heap:=by
 obtain⟨g,t,cs,F,p,a,k,d,hd⟩:=Lib.laidMet.reads h i;have a:Tryz.prog.globalNamed s=some g:=a;unfold World.var? at d;rw[a]at d;have H:(match W.heap[g]? with|some (.cells cs _ _)=>some cs|_=>none)=some cs:=d;cases b:W.heap[g]? with
 |none=>rw[b]at H;cases H
 |some o=>
  rw[b]at H;cases o with
  |cells c ty f=>
   obtain rfl:c=cs:=bp H;have eg:g=0:=bp (a.symm.trans j);subst eg;refine⟨ty,f,?_⟩;have m:t=374:=by
    have e:(Tryz.prog.globals[(0:Nat)]?).map (·.type)=some 374:=cZ
    exact bp (k.symm.trans e)
   subst m;have:=Lib.cells_of_tab (n:=20) (e:=27) cZ cZ cZ cZ hd;rw[b,<-this]
  |_=>cases H

end mO
end
section
variable {h:ak} {R:fG}
theorem oq.walk{S:bZ}{s i:Nat} (H:Bd 0 s/\aO S λa=>I6 h (a.add (toNat 0*1)) λt27=>Bd 1 s/\aO S λA=>I6 h (A.add (toNat 1*1)) λt31=>Bd 2 s/\aO S λb=>I6 h (b.add (toNat 2*1)) λt37=>Bd 3 s/\aO S λc=>I6 h (c.add (toNat 3*1)) λt43=>Bd 4 s/\aO S λd=>I6 h (d.add (toNat 4*1)) λt49=>Bd 5 s/\aO S λe=>I6 h (e.add (toNat 5*1)) λt55=>Bd 6 s/\aO S λf=>I6 h (f.add (toNat 6*1)) λt61=>Bd 7 s/\aO S λg=> ∃t67,aX h (g.add (toNat 7*1))=some (.int .u8 t67)/\R (.U (wrap .u64 ((nE (wrap .u64 ((nE (wrap .u64 ((nE (wrap .u64 ((nE (wrap .u64 ((nE (wrap .u64 ((nE (wrap .u64 ((nE (wrap .u64 t27)|||nE (wrap .u64 ((wrap .u64 t31)*2 ^ min (toNat 8) (IntKind.bits .u64)))).toNat:Int))|||nE (wrap .u64 ((wrap .u64 t37)*2 ^ min (toNat 16) (IntKind.bits .u64)))).toNat:Int))|||nE (wrap .u64 ((wrap .u64 t43)*2 ^ min (toNat 24) (IntKind.bits .u64)))).toNat:Int))|||nE (wrap .u64 ((wrap .u64 t49)*2 ^ min (toNat 32) (IntKind.bits .u64)))).toNat:Int))|||nE (wrap .u64 ((wrap .u64 t55)*2 ^ min (toNat 40) (IntKind.bits .u64)))).toNat:Int))|||nE (wrap .u64 ((wrap .u64 t61)*2 ^ min (toNat 48) (IntKind.bits .u64)))).toNat:Int))|||nE (wrap .u64 ((wrap .u64 t67)*2 ^ min (toNat 56) (IntKind.bits .u64)))).toNat:Int))) h):Cl 324 #[.slice S s i] h R:=aR (lq (sq (cq (sq (pN 23) lf) lf) (sq (pN 47) lf))) Tryz.func324 H
theorem uB.walk{L:bZ}{g F:Nat} (hv:((0:Int)<=(g:Int)/\(g:Int)<=(F:Int))/\((0:Int)<=(g:Int)/\(g:Int)<=(g:Int))/\∃(I:bZ->Nat->Nat->ak->Prop)(M:bZ->Nat->Nat->ak->Nat),I (cR L (toNat (g:Int)) 0 1) (toNat (g:Int)) (toNat (g:Int)) h/\∀(c:bZ)(p P:Nat)(f:ak),I c p P f->if(decide ((p:Int)>0))then aI (λ(N:bZ) (K G:Nat) (z:ak)=>(I N K G z/\M N K G z<M c p P f)) (λJ=>Bd 0 p/\aO c λa=> ∃t18,aX f (a.add (toNat 0*1))=some (.int .u8 t18)/\if(decide (t18<128))then((0:Int)<=1/\1<=(p:Int))/\aI (λ(t31:Bool) (o:ak)=>aI (λ(D':bZ) (y' t':Nat) (q':ak)=>J D' y' t' q') (λs=>if t31 then((0:Int)<=8/\8<=((p - (toNat 1):Nat):Int))/\aI (λ(t46:Bool) (D:ak)=>aI (λ(E':bZ) (z' u':Nat) (r':ak)=>s E' z' u' r') (λu=>if t46 then((0:Int)<=16/\16<=(((p - (toNat 1)) - (toNat 8):Nat):Int))/\∃(m:bZ->Nat->Nat->ak->Prop)(E:bZ->Nat->Nat->ak->Nat),m (cR (cR (cR c P (toNat 1) 1) (P - (toNat 1)) (toNat 8) 1) ((P - (toNat 1)) - (toNat 8)) (toNat 16) 1) (((p - (toNat 1)) - (toNat 8)) - (toNat 16)) (((P - (toNat 1)) - (toNat 8)) - (toNat 16)) D/\∀(i:bZ)(e d:Nat)(l:ak),m i e d l->aI (λ(t69:Bool) (q:ak)=>if t69 then((0:Int)<=32/\32<=(e:Int))/\(m (cR i d (toNat 32) 1) (e - (toNat 32)) (d - (toNat 32)) q/\E (cR i d (toNat 32) 1) (e - (toNat 32)) (d - (toNat 32)) q<E i e d l)else u i e d q) (λw=>if(decide ((e:Int)>32))then((0:Int)<=8/\8<=(e:Int))/\((0:Int)<=16/\16<=(e:Int))/\((0:Int)<=24/\24<=(e:Int))/\Cl 324 #[.slice i e d] l λv s'=>Vu v λt54=>Cl 324 #[.slice (cR i d (toNat 8) 1) (e - (toNat 8)) (d - (toNat 8))] s' λI' f'=>Vu I' λt57=>Cl 324 #[.slice (cR i d (toNat 16) 1) (e - (toNat 16)) (d - (toNat 16))] f' λJ' g'=>Vu J' λt61=>Cl 324 #[.slice (cR i d (toNat 24) 1) (e - (toNat 24)) (d - (toNat 24))] g' λK' h'=> ∃t64,K'=.U t64/\w ((wrap .u64 ((nE (wrap .u64 ((nE (wrap .u64 ((nE t54|||nE t57).toNat:Int))|||nE (wrap .u64 ((nE t61|||nE t64).toNat:Int))).toNat:Int)) &&& nE 9259542123273814144).toNat:Int))==0) h' else w false l)else u (cR (cR c P (toNat 1) 1) (P - (toNat 1)) (toNat 8) 1) ((p - (toNat 1)) - (toNat 8)) ((P - (toNat 1)) - (toNat 8)) D)) (λt=>if(decide ((((p - (toNat 1)) - (toNat 8):Nat):Int)>16))then((0:Int)<=8/\8<=(((p - (toNat 1)) - (toNat 8):Nat):Int))/\Cl 324 #[.slice (cR (cR c P (toNat 1) 1) (P - (toNat 1)) (toNat 8) 1) ((p - (toNat 1)) - (toNat 8)) ((P - (toNat 1)) - (toNat 8))] o λL' i'=>Vu L' λt39=>Cl 324 #[.slice (cR (cR (cR c P (toNat 1) 1) (P - (toNat 1)) (toNat 8) 1) ((P - (toNat 1)) - (toNat 8)) (toNat 8) 1) (((p - (toNat 1)) - (toNat 8)) - (toNat 8)) (((P - (toNat 1)) - (toNat 8)) - (toNat 8))] i' λM' j'=> ∃t42,M'=.U t42/\t ((wrap .u64 ((nE (wrap .u64 ((nE t39|||nE t42).toNat:Int)) &&& nE 9259542123273814144).toNat:Int))==0) j' else t false o)else s (cR c P (toNat 1) 1) (p - (toNat 1)) (P - (toNat 1)) o)) (λr=>if(decide (((p - (toNat 1):Nat):Int)>8))then Cl 324 #[.slice (cR c P (toNat 1) 1) (p - (toNat 1)) (P - (toNat 1))] f λN' k'=> ∃t28,N'=.U t28/\r ((wrap .u64 ((nE t28 &&& nE 9259542123273814144).toNat:Int))==0) k' else r false f)else Bd t18 256/\I6 f (((AA 3 0):Addr).add (toNat t18*1)) λt74=>Bd (Int.fdiv t74 (2 ^ min (toNat 4) (IntKind.bits .u8))) 16/\∃T,aX f (((AA 4 0):Addr).add (toNat (Int.fdiv t74 (2 ^ min (toNat 4) (IntKind.bits .u8)))*2))=some (.int .u8 T)/\∃O,aX f ((((AA 4 0):Addr).add (toNat (Int.fdiv t74 (2 ^ min (toNat 4) (IntKind.bits .u8)))*2)).add 1)=some (.int .u8 O)/\aT f (.cells #[.int .u8 0,.int .u8 0] 421) λb l'=>aQ l' (AA b 0) (.int .u8 T) λm'=>aQ m' (AA b 1) (.int .u8 O) λH=>aI (λ(F':bZ) (A' v':Nat) (n':ak)=>J F' A' v' n') (λQ=>aI (λ(G':bZ) (B' w':Nat) (o':ak)=>Q G' B' w' o') (λx=>if((wrap .i64 (wrap .u8 ((qi t74 &&& qi 7).toNat:Int)))==2)then aI (λ(t103:Bool) (A:ak)=>if t103 then R (.bool false) A else((0:Int)<=2/\2<=(p:Int))/\x (cR c P (toNat 2) 1) (p - (toNat 2)) (P - (toNat 2)) A) (λn=>if(decide ((p:Int)<2))then n true H else Bd 1 p/\aO c λS=>I6 H (S.add (toNat 1*1)) λt91=> ∃t93,Cc H b 0 (.int .u8 t93)/\if(decide (t91<t93))then n true H else Hy H b 1 λt98=>Bd 1 p/\aO c λX=> ∃t101,aX H (X.add (toNat 1*1))=some (.int .u8 t101)/\n (decide (t98<t101)) H)else aI (λ(H':bZ) (C' x':Nat) (p':ak)=>x H' C' x' p') (λy=>if((wrap .i64 (wrap .u8 ((qi t74 &&& qi 7).toNat:Int)))==3)then aI (λ(t138:Bool) (B:ak)=>if t138 then R (.bool false) B else((0:Int)<=3/\3<=(p:Int))/\y (cR c P (toNat 3) 1) (p - (toNat 3)) (P - (toNat 3)) B) (λk=>if(decide ((p:Int)<3))then k true H else Bd 1 p/\aO c λY=>I6 H (Y.add (toNat 1*1)) λt114=> ∃t116,Cc H b 0 (.int .u8 t116)/\if(decide (t114<t116))then k true H else Hy H b 1 λt121=>Bd 1 p/\aO c λZ=> ∃t124,aX H (Z.add (toNat 1*1))=some (.int .u8 t124)/\if(decide (t121<t124))then k true H else Bd 2 p/\aO c λa'=> ∃t130,aX H (a'.add (toNat 2*1))=some (.int .u8 t130)/\if(decide (t130<128))then k true H else Bd 2 p/\aO c λb'=> ∃t136,aX H (b'.add (toNat 2*1))=some (.int .u8 t136)/\k (decide (191<t136)) H)else if((wrap .i64 (wrap .u8 ((qi t74 &&& qi 7).toNat:Int)))==4)then aI (λ(t185:Bool) (C:ak)=>if t185 then R (.bool false) C else((0:Int)<=4/\4<=(p:Int))/\y (cR c P (toNat 4) 1) (p - (toNat 4)) (P - (toNat 4)) C) (λj=>if(decide ((p:Int)<4))then j true H else Bd 1 p/\aO c λc'=>I6 H (c'.add (toNat 1*1)) λt149=> ∃t151,Cc H b 0 (.int .u8 t151)/\if(decide (t149<t151))then j true H else Hy H b 1 λt156=>Bd 1 p/\aO c λd'=> ∃t159,aX H (d'.add (toNat 1*1))=some (.int .u8 t159)/\if(decide (t156<t159))then j true H else Bd 2 p/\aO c λe'=> ∃t165,aX H (e'.add (toNat 2*1))=some (.int .u8 t165)/\if(decide (t165<128))then j true H else Bd 2 p/\aO c λU=> ∃t171,aX H (U.add (toNat 2*1))=some (.int .u8 t171)/\if(decide (191<t171))then j true H else Bd 3 p/\aO c λV=> ∃t177,aX H (V.add (toNat 3*1))=some (.int .u8 t177)/\if(decide (t177<128))then j true H else Bd 3 p/\aO c λW=> ∃t183,aX H (W.add (toNat 3*1))=some (.int .u8 t183)/\j (decide (191<t183)) H)else R (.bool false) H))))else R (.bool true) f):Cl 316 #[.slice L g F] h R:=aR (lq (lq (sq (bq (.loop [(0,.one (.slice))] (sq (lq (cq lf lf)) (.join [(0,.one (.slice))] (bq (lq (sq (lq (cq (lq (sq (sq (.join [(31,.one (.bool))] lf) (.join [(0,.one (.slice))] (cq (lq (sq (.join [(46,.one (.bool))] (.gT (.op 0 (.op 1 (.op 2 (.op 3 (.op 4 (.op 6 (.op 7 (.op 5 (.op 8 (.op 9 (.op 10 (.op 11 (.op 12 .done))))))))))))))) (.join [(0,.one (.slice))] (cq (lq (bq (.loop [(0,.one (.slice))] (sq (sq (.join [(69,.one (.bool))] (.gT (.op 0 (.op 1 (.op 2 (.op 3 (.op 4 (.op 6 (.op 7 (.op 10 (.op 11 (.op 13 (.op 14 (.op 5 (.op 8 (.op 9 (.op 12 (.op 15 (.op 16 (.op 17 (.op 18 (.op 19 (.op 20 .done))))))))))))))))))))))) (cq lf lf)) (bq lf))))) lf)))) lf))) lf)) lf)) (lq (lq (lq (lq (.join [(0,.one (.slice))] (bq (lq (.join [(0,.one (.slice))] (cq (sq (sq (.join [(103,.one (.bool))] (pN 19)) (cq ll lf)) lf) (lq (.join [(0,.one (.slice))] (cq (sq (sq (.join [(138,.one (.bool))] (pN 31)) (cq ll lf)) lf) (lq (cq (sq (sq (.join [(185,.one (.bool))] (pN 43)) (cq ll lf)) lf) ll))))))))))))))))))))) ll))) Tryz.func316 hv

end
section
namespace Cb
variable {h H h' g:ak} {R:fG} {p:bZ} {l c:Nat} {b bs:cM} {FT A0 A1:Nat→Int}
variable {A B:Prop}
def bI(b:cM)(i:Nat):Int:=((b.getD i 0).toNat:Int)
def Xc(a0 a d e f i j k:Int):Int:=(IntKind.wrap .u64 ((BitVec.ofInt (IntKind.bits .u64) (IntKind.wrap .u64 ((BitVec.ofInt (IntKind.bits .u64) (IntKind.wrap .u64 ((BitVec.ofInt (IntKind.bits .u64) (IntKind.wrap .u64 ((BitVec.ofInt (IntKind.bits .u64) (IntKind.wrap .u64 ((BitVec.ofInt (IntKind.bits .u64) (IntKind.wrap .u64 ((BitVec.ofInt (IntKind.bits .u64) (IntKind.wrap .u64 ((BitVec.ofInt (IntKind.bits .u64) (IntKind.wrap .u64 a0)|||BitVec.ofInt (IntKind.bits .u64) (IntKind.wrap .u64 ((IntKind.wrap .u64 a)*2 ^ min (Int.toNat 8) (IntKind.bits .u64)))).toNat:Int))|||BitVec.ofInt (IntKind.bits .u64) (IntKind.wrap .u64 ((IntKind.wrap .u64 d)*2 ^ min (Int.toNat 16) (IntKind.bits .u64)))).toNat:Int))|||BitVec.ofInt (IntKind.bits .u64) (IntKind.wrap .u64 ((IntKind.wrap .u64 e)*2 ^ min (Int.toNat 24) (IntKind.bits .u64)))).toNat:Int))|||BitVec.ofInt (IntKind.bits .u64) (IntKind.wrap .u64 ((IntKind.wrap .u64 f)*2 ^ min (Int.toNat 32) (IntKind.bits .u64)))).toNat:Int))|||BitVec.ofInt (IntKind.bits .u64) (IntKind.wrap .u64 ((IntKind.wrap .u64 i)*2 ^ min (Int.toNat 40) (IntKind.bits .u64)))).toNat:Int))|||BitVec.ofInt (IntKind.bits .u64) (IntKind.wrap .u64 ((IntKind.wrap .u64 j)*2 ^ min (Int.toNat 48) (IntKind.bits .u64)))).toNat:Int))|||BitVec.ofInt (IntKind.bits .u64) (IntKind.wrap .u64 ((IntKind.wrap .u64 k)*2 ^ min (Int.toNat 56) (IntKind.bits .u64)))).toNat:Int))
def xY(b:cM):Int:=Xc (bI b 0) (bI b 1) (bI b 2) (bI b 3) (bI b 4) (bI b 5) (bI b 6) (bI b 7)
def Xd(n:Int):Bool:=(IntKind.wrap .u64 ((BitVec.ofInt (IntKind.bits .u64) n &&& BitVec.ofInt (IntKind.bits .u64) 9259542123273814144).toNat:Int))==0
def Vq(a b:Int):Int:=IntKind.wrap .u64 ((BitVec.ofInt (IntKind.bits .u64) a|||BitVec.ofInt (IntKind.bits .u64) b).toNat:Int)
def A8(b:cM):Bool:=decide (b.length>32) && Xd (Vq (Vq (xY b) (xY (b.drop 8))) (Vq (xY (b.drop 16)) (xY (b.drop 24))))
def CQ(b:cM):Bool:=decide (b.length>16) && Xd (Vq (xY b) (xY (b.drop 8)))
def LW(b:cM):Bool:=decide (b.length>8) && Xd (xY b)
def vQ:Nat->cM->cM
 |0,b=>b
 |f+1,b=>if A8 b=true then vQ f (b.drop 32)else b
def GC(b:cM):cM:=if LW b=true then(if CQ (b.drop 8)=true then vQ (b.length+1) ((b.drop 8).drop 16)else b.drop 8)else b
def pX(x:Int):Int:=IntKind.wrap .i64 (IntKind.wrap .u8 ((BitVec.ofInt (IntKind.bits .u8) x &&& BitVec.ofInt (IntKind.bits .u8) 7).toNat:Int))
def yB(x:Int):Int:=Int.fdiv x (2 ^ min (Int.toNat 4) (IntKind.bits .u8))
def oX(n:Nat)(L a:Int)(b:cM):Bool:=decide (b.length<n)||(decide (bI b 1<L)||decide (a<bI b 1))
def pY(b:cM)(i:Nat):Bool:=decide (bI b i<128)||decide (191<bI b i)
def xZ(FT A0 A1:Nat->Int)(b:cM):Option (cM):=
 if bI b 0<128 then some (GC (b.drop 1))
 else if pX (FT (bI b 0).toNat)=2 then(if oX 2 (A0 (yB (FT (bI b 0).toNat)).toNat) (A1 (yB (FT (bI b 0).toNat)).toNat) b=true then none else some (b.drop 2))
 else if pX (FT (bI b 0).toNat)=3 then(if(oX 3 (A0 (yB (FT (bI b 0).toNat)).toNat) (A1 (yB (FT (bI b 0).toNat)).toNat) b||pY b 2)=true then none else some (b.drop 3))
 else if pX (FT (bI b 0).toNat)=4 then(if(oX 4 (A0 (yB (FT (bI b 0).toNat)).toNat) (A1 (yB (FT (bI b 0).toNat)).toNat) b||(pY b 2||pY b 3))=true then none else some (b.drop 4))
 else none
def Kh(n:cM->Option (cM)):Nat->cM->Bool
 |0,_=>true
 |f+1,b=>if b.length=0 then true else match n b with|none=>false|some r=>Kh n f r
theorem Rf(n:cM->Option (cM))(f:Nat):Kh n (f+1) b=if b.length=0 then true else match n b with|none=>false|some r=>Kh n f r:=rfl
def uC(FT A0 A1:Nat->Int)(f:Nat)(b:cM):Bool:=Kh (xZ FT A0 A1) f b
theorem Rh(f:Nat):vQ (f+1) b=if A8 b=true then vQ f (b.drop 32)else b:=rfl
theorem GD(f:Nat):uC FT A0 A1 (f+1) b=if b.length=0 then true else match xZ FT A0 A1 b with|none=>false|some r=>uC FT A0 A1 f r:=by unfold uC;exact Rf _ _
theorem CR: ∀(f:Nat)(b:cM),(vQ f b).length<=b.length
 |0,b=>bn _
 |f+1,b=>by
  unfold vQ;split
  .exact cD (CR f _) (by rw[bX];omega)
  .exact bn _
theorem O0(b:cM):(GC b).length<=b.length:=by
 unfold GC;split
 .split
  .exact cD (CR _ _) (by rw[bX,bX];omega)
  .rw[bX];omega
 .exact bn _
theorem LX{r:cM}(e:b.length≠0)(a:xZ FT A0 A1 b=some r):r.length<b.length:=by
 have d: ∀k,1<=k->(b.drop k).length<b.length:=λk hk=>by rw[bX];omega
 unfold xZ at a
 repeat' split at a
 all_goals first|(cases a;done)|(cases a;first|exact d _ dt|exact Nat.lt_of_le_of_lt (O0 _) (d 1 dt))
structure D7 (h:ak) (FT A0 A1:Nat->Int):Prop where
 f: ∀i,i<256->aX h ⟨3,i,none⟩=some (.int .u8 (FT i))/\0<=FT i/\FT i<256
 a: ∀i,i<16->aX h ⟨4,i*2,none⟩=some (.int .u8 (A0 i))/\aX h ⟨4,i*2+1,none⟩=some (.int .u8 (A1 i))
theorem D7.on(U:D7 h FT A0 A1)(f:Fr No h h'):D7 h' FT A0 A1:=⟨λi a=>⟨f.cell (U.f i a).1 id,(U.f i a).2⟩,λi a=>⟨f.cell (U.a i a).1 id,f.cell (U.a i a).2 id⟩⟩
structure Sl (h:ak) (p:bZ) (l c:Nat) (b:cM):Prop where
 row:Row h p (bc b)
 len:l=b.length
 cap:l<=c
theorem Sl.drop(S:Sl h p l c b){k:Nat}(hk:k<=b.length):Sl h (cR p c k 1) (l - k) (c - k) (b.drop k):=by
 have d:=S.len;have a:=S.cap;refine⟨?_,by rw[bX];omega,ae⟩;have:=S.row.sub (cap:=c) (l:=k) (u:=b.length) (sz:=1) hk ae;rw[cp,cp]at this;unfold bc at this⊢;rw[bk (by rw[aA];omega)]at this;rw[List.map_drop];exact this
theorem Sl.on(S:Sl h p l c b)(f:Fr No h h'):Sl h' p l c b:=⟨S.row.frame f cb,S.len,S.cap⟩
theorem Sl.at{i:Nat}(S:Sl h p l c b)(d:i<b.length): ∃a,p=some a/\aX h (a.add (i*1))=some (.int .u8 (bI b i)):=by
 obtain⟨a,e,f⟩:=byte_at S.row d;refine⟨a,e,?_⟩;unfold bI;rw[bh,aj d];exact f
theorem U1(b:cM)(i:Nat):0<=bI b i/\bI b i<256:=by
 unfold bI;have:=(b.getD i 0).toNat_lt;omega
theorem SW{x:Int}(H:0<=x)(a:x<256):0<=yB x/\yB x<16:=by
 have e:yB x=x/16:=Int.fdiv_eq_ediv_of_nonneg x dt;rw[e];omega
theorem LY{c:Prop}[Decidable c](d:c)(a:A):if c then A else B:=by rw[ah d];exact a
theorem LZ{c:Prop}[Decidable c](d: ¬c)(a:B):if c then A else B:=by rw[af d];exact a
theorem pO(S:Sl h p l c b)(j:8<=b.length)(hk:R (.U (xY b)) h):Cl 324 #[.slice p l c] h R:=by
 have k:=S.len;obtain⟨a,rfl,c0⟩:=S.at (i:=0) ae;have C: ∀i,i<b.length->aX h (a.add (i*1))=some (.int .u8 (bI b i)):=λi d=>by
  obtain⟨f,e,c⟩:=S.at (i:=i) d;cases e;exact c
 refine oq.walk ?_;refine⟨ae,az.2 ⟨_,C 0 ae,ae,az.2 ⟨_,C 1 ae,ae,az.2 ⟨_,C 2 ae,ae,az.2 ⟨_,C 3 ae,ae,az.2 ⟨_,C 4 ae,ae,az.2 ⟨_,C 5 ae,ae,az.2 ⟨_,C 6 ae,ae,az.2 ⟨_,C 7 ae,?_⟩⟩⟩⟩⟩⟩⟩⟩⟩;exact hk
theorem O2{vv:Bool}(hV:uC FT A0 A1 (bs.length+1) bs=vv)(UT:D7 h FT A0 A1)(row:Row h p (bc bs))(hl:bs.length<=1000000)(cap:bs.length<=c)(hk: ∀g,Fr No h g->R (.bool vv) g):Cl 316 #[.slice p bs.length c] h R:=by
 refine uB.walk ⟨ae,ae,λp l c g=>Fr No h g/\∃b f,Sl g p l c b/\b.length<f/\b.length<=1000000/\uC FT A0 A1 f b=vv,λ_ l _ _=>l,⟨Fr.refl _ _,bs,bs.length+1,⟨by rw[iE];exact row,aC _,bn _⟩,Nat.lt_succ_self _,hl,hV⟩,?_⟩;clear hV;rintro p l c g ⟨N,b,f,S,hf,hb,w⟩;have z':=S.len;by_cases c0:b.length=0
 case pos=>
  rw[dz];have:uC FT A0 A1 f b=true:=by
   cases f with
   |zero=>rfl
   |succ f=>rw[GD,ah c0]
  rw[w.symm.trans this]at hk;exact hk g N
 rw[ah (by simp only[aZ];omega)];refine aI.of λr' hJ=> ?_
 obtain⟨f,rfl⟩: ∃F,f=F+1:=⟨f - 1,ae⟩;rw[GD,af c0]at w;have m: ∀(G:ak)(p':bZ)(V c':Nat)(s:cM),Fr No g G->Sl G p' V c' s->xZ FT A0 A1 b=some s->r' p' V c' G:=by
  intro G p' V c' s F S' U;subst hJ;have A':=LX c0 U;rw[U]at w;exact⟨⟨N.tt F,s,f,S',ae,ae,w⟩,by have:=S'.len;show V<l;omega⟩
 have stop: ∀G,Fr No g G->xZ FT A0 A1 b=none->R (.bool false) G:=by
  intro G F U;rw[U]at w;rw[<-w]at hk;exact hk G (N.tt F)
 clear hJ w hk;obtain⟨a,rfl,ca⟩:=S.at (i:=0) ae;have n0:=U1 b 0;refine⟨ae,az.2 ⟨_,ca,?_⟩⟩;by_cases c1:bI b 0<128
 .have E:xZ FT A0 A1 b=some (GC (b.drop 1)):=ah c1;rw[E]at m;clear stop E;rw[ah (aw c1)];refine⟨ae,aI.of λJ1 s'=> ?_⟩;have I:=S.drop (k:=1) ae;generalize hr:b.drop 1=r at m I;have n': ∀v,v=LW r->J1 v g:=by
   intro v d;subst s';refine aI.of λJ2 b'=> ?_
   cases t:LW r with
   |false=>
    rw[d,t,dz];subst b';exact m g _ _ _ _ (Fr.refl _ _) I (by unfold GC;rw[t];rfl)
   |true=>
   rw[d,t,ah rfl];have l8:r.length>8:=by unfold LW at t;simp only[aS,aZ]at t;exact t.1
   have J:=I.drop (k:=8) ae;have f':=I.len;refine⟨⟨ae,by show(8:Int)<=((l - 1:Nat):Int);omega⟩,aI.of λJ3 t'=> ?_⟩;have o': ∀v,v=CQ (r.drop 8)->J3 v g:=by
    intro v d;subst t';refine aI.of λJ4 l'=> ?_
    cases D:CQ (r.drop 8)with
    |false=>
     rw[d,D,dz];subst l';subst b';exact m g _ _ _ _ (Fr.refl _ _) J (by unfold GC;rw[t,ah rfl,D];rfl)
    |true=>
    rw[d,D,ah rfl];have B':(r.drop 8).length>16:=by unfold CQ at D;simp only[aS,aZ]at D;exact D.1
    have S3:=J.drop (k:=16) ae;have T:=J.len;have eF:GC r=vQ (r.length+1) ((r.drop 8).drop 16):=by unfold GC;rw[t,ah rfl,D,ah rfl]
    rw[eF]at m;refine⟨⟨ae,by show(16:Int)<=((l - 1 - 8:Nat):Int);omega⟩,λp l c G=>G=g/\∃s F,Sl g p l c s/\s.length<F/\vQ F s=vQ (r.length+1) ((r.drop 8).drop 16),λ_ l _ _=>l,⟨rfl,_,_,S3,by rw[bX,bX];omega,rfl⟩,?_⟩;rintro p5 l5 c5 G ⟨rfl,P,f5,u,x',M⟩;have y':=u.len;obtain⟨f5,rfl⟩: ∃F,f5=F+1:=⟨f5 - 1,ae⟩;rw[Rh]at M;refine aI.of λJ5 u'=> ?_
    have q': ∀v,v=A8 P->J5 v G:=by
     intro v d;subst u';dsimp only;cases z:A8 P with
     |false=>
      rw[d,z,dz];rw[z,dz]at M;subst l';subst b';exact m G _ _ _ _ (Fr.refl _ _) u (by rw[M])
     |true=>
      rw[d,z,ah rfl];rw[z,ah rfl]at M;have C':P.length>32:=by unfold A8 at z;simp only[aS,aZ]at z;exact z.1
      exact⟨ae,⟨rfl,_,f5,u.drop (k:=32) ae,by rw[bX];omega,M⟩,by show l5 - 32<l5;omega⟩
    by_cases q:P.length>32
    .rw[gh];refine⟨ae,ae,ae,pO u ae ⟨_,rfl,pO (u.drop (k:=8) ae) (by rw[bX];omega) ⟨_,rfl,pO (u.drop (k:=16) ae) (by rw[bX];omega) ⟨_,rfl,pO (u.drop (k:=24) ae) (by rw[bX];omega) ⟨_,rfl,q' _ ?_⟩⟩⟩⟩⟩;unfold A8;rw[aw q];rfl
    .rw[dz];exact q' false (by unfold A8;rw[aD q];rfl)
   have T:=J.len;by_cases q:(r.drop 8).length>16
   .rw[ah (aw (by show((l - 1 - 8:Nat):Int)>16;have:l - 1 - 8=(r.drop 8).length:=T;omega))];refine⟨⟨ae,by show(8:Int)<=((l - 1 - 8:Nat):Int);have:l - 1 - 8=(r.drop 8).length:=T;omega⟩,pO J ae ⟨_,rfl,pO (J.drop (k:=8) ae) (by rw[bX];omega) ⟨_,rfl,o' _ ?_⟩⟩⟩;unfold CQ;rw[aw q];rfl
   .rw[af (by simp only[aZ];show¬((l - 1 - 8:Nat):Int)>16;have:l - 1 - 8=(r.drop 8).length:=T;omega)];exact o' false (by unfold CQ;rw[aD q];rfl)
  have f':=I.len;by_cases q:r.length>8
  .rw[ah (aw (by show((l - 1:Nat):Int)>8;have:l - 1=r.length:=f';omega))];refine pO I ae ⟨_,rfl,n' _ ?_⟩;unfold LW;rw[aw q];rfl
  .rw[af (by simp only[aZ];show¬((l - 1:Nat):Int)>8;have:l - 1=r.length:=f';omega)];exact n' false (by unfold LW;rw[aD q];rfl)
 obtain⟨x0,x1,x2⟩:=(UT.on N).f (bI b 0).toNat ae;have E:xZ FT A0 A1 b=_:=af c1;generalize FT (bI b 0).toNat=x at x0 x1 x2 E;have rr:=SW x1 x2;obtain⟨y0,y1⟩:=(UT.on N).a (yB x).toNat ae;generalize A0 (yB x).toNat=L at y0 E;generalize A1 (yB x).toNat=n at y1 E;rw[dz];refine⟨ae,x,by rw[gU,bH,cp];exact x0,rr,L,by rw[gU,bH];exact y0,n,by rw[gU,gU,bH];exact y1,cI ?_⟩;have j':Fr No g (g.push (.cells #[.int .u8 0,.int .u8 0] 421)):=Fr.push _ _;have g':(g.push (.cells #[.int .u8 0,.int .u8 0] 421))[g.size]? =_:=bV;generalize g.push (.cells #[.int .u8 0,.int .u8 0] 421)=v' at j' g'⊢;refine bL g' bQ λw' a1 a2 a3=>bL a1 bQ λj i' b2 b3=> ?_
 have o:Fr No g j:=(j'.fresh (Fr.of_eq (S:=λy=>y=g.size) a2 a3) (λy e=>ae)).fresh (Fr.of_eq (S:=λy=>y=g.size) b2 b3) (λy e=>ae);have k':=S.on o;have C: ∀i,i<b.length->aX j (a.add (i*1))=some (.int .u8 (bI b i)):=λi n=>by
  obtain⟨a',e,c⟩:=k'.at (i:=i) n;cases e;exact c
 have cl:aX j (AA g.size 0)=some (.int .u8 L):=aq i';have ch:aX j (AA g.size 1)=some (.int .u8 n):=aq i';have dr: ∀k,k<=b.length->Sl j (cR (some a) c k 1) (l - k) (c - k) (b.drop k):=λk hk=>k'.drop hk
 refine aI.of λJ6 d'=>aI.of λJ7 e'=> ?_
 by_cases X:pX x=2
 .replace E:=E.trans (ah X);refine LY (show(pX x==2)=true from dp.2 X) (aI.of λK O=> ?_);have key: ∀v,v=oX 2 L n b->K v j:=by
   intro v d;subst O;rw[<-d]at E;cases v with
   |true=>exact LY rfl (stop j o (E.trans (ah rfl)))
   |false=>
    have l2:2<=b.length:=by simp[oX]at d;omega
    refine LZ dt ⟨ae,?_⟩;subst e';subst d';exact m j _ _ _ _ o (dr 2 l2) (E.trans (dz))
  by_cases Q:b.length<2
  .rw[gh];exact key true (by simp[oX,Q])
  rw[dz];refine⟨ae,az.2 ⟨_,C 1 ae,_,cl,?_⟩⟩;by_cases q1:bI b 1<L
  .rw[ah (aw q1)];exact key true (by simp[oX,q1])
  rw[af (cH q1)];exact⟨_,ch,ae,az.2 ⟨_,C 1 ae,key _ (by simp[oX,Q,q1])⟩⟩
 replace E:=E.trans (af X);refine LZ (show¬(pX x==2)=true from λe=>X (dp.1 e)) (aI.of λJ9 m'=> ?_);by_cases Y:pX x=3
 .replace E:=E.trans (ah Y);refine LY (show(pX x==3)=true from dp.2 Y) (aI.of λK O=> ?_);have key: ∀v,v=(oX 3 L n b||pY b 2)->K v j:=by
   intro v d;subst O;rw[<-d]at E;cases v with
   |true=>exact LY rfl (stop j o (E.trans (ah rfl)))
   |false=>
    have l2:3<=b.length:=by simp[oX]at d;omega
    refine LZ dt ⟨ae,?_⟩;subst m';subst e';subst d';exact m j _ _ _ _ o (dr 3 l2) (E.trans (dz))
  by_cases Q:b.length<3
  .rw[gh];exact key true (by simp[oX,Q])
  rw[dz];refine⟨ae,az.2 ⟨_,C 1 ae,_,cl,?_⟩⟩;by_cases q1:bI b 1<L
  .rw[ah (aw q1)];exact key true (by simp[oX,q1])
  rw[af (cH q1)];refine⟨_,ch,ae,az.2 ⟨_,C 1 ae,?_⟩⟩;by_cases q2:n<bI b 1
  .rw[ah (aw q2)];exact key true (by simp[oX,q2])
  rw[af (cH q2)];refine⟨ae,az.2 ⟨_,C 2 ae,?_⟩⟩;by_cases q3:bI b 2<128
  .rw[ah (aw q3)];exact key true (by simp[pY,q3])
  rw[af (cH q3)];exact⟨ae,az.2 ⟨_,C 2 ae,key _ (by simp[oX,pY,Q,q1,q2,q3])⟩⟩
 replace E:=E.trans (af Y);refine LZ (show¬(pX x==3)=true from λe=>Y (dp.1 e)) ?_;by_cases Z:pX x=4
 .replace E:=E.trans (ah Z);refine LY (show(pX x==4)=true from dp.2 Z) (aI.of λK O=> ?_);have key: ∀v,v=(oX 4 L n b||(pY b 2||pY b 3))->K v j:=by
   intro v d;subst O;rw[<-d]at E;cases v with
   |true=>exact LY rfl (stop j o (E.trans (ah rfl)))
   |false=>
    have l2:4<=b.length:=by simp[oX]at d;omega
    refine LZ dt ⟨ae,?_⟩;subst m';subst e';subst d';exact m j _ _ _ _ o (dr 4 l2) (E.trans (dz))
  by_cases Q:b.length<4
  .rw[gh];exact key true (by simp[oX,Q])
  rw[dz];refine⟨ae,az.2 ⟨_,C 1 ae,_,cl,?_⟩⟩;by_cases q1:bI b 1<L
  .rw[ah (aw q1)];exact key true (by simp[oX,q1])
  rw[af (cH q1)];refine⟨_,ch,ae,az.2 ⟨_,C 1 ae,?_⟩⟩;by_cases q2:n<bI b 1
  .rw[ah (aw q2)];exact key true (by simp[oX,q2])
  rw[af (cH q2)];refine⟨ae,az.2 ⟨_,C 2 ae,?_⟩⟩;by_cases q3:bI b 2<128
  .rw[ah (aw q3)];exact key true (by simp[pY,q3])
  rw[af (cH q3)];refine⟨ae,az.2 ⟨_,C 2 ae,?_⟩⟩;by_cases q4:191<bI b 2
  .rw[ah (aw q4)];exact key true (by simp[pY,q4])
  rw[af (cH q4)];refine⟨ae,az.2 ⟨_,C 3 ae,?_⟩⟩;by_cases W:bI b 3<128
  .rw[ah (aw W)];exact key true (by simp[pY,W])
  rw[af (cH W)];exact⟨ae,az.2 ⟨_,C 3 ae,key _ (by simp[oX,pY,Q,q1,q2,q3,q4,W])⟩⟩
 refine LZ (show¬(pX x==4)=true from λe=>Z (dp.1 e)) ?_;exact stop j o (E.trans (af Z))
theorem D7.Zp(U:D7 h FT A0 A1):nk (λbs=>uC FT A0 A1 (bs.length+1) bs) h:=λg p c bs R f row a cap hk=>O2 rfl (U.on f) row a cap hk

end Cb
end
section
namespace Cb
theorem L3: ∀i:Fin 256,Lib.firstT i.val<256:=dt
theorem D7.vP{W:World}{l:List (String×DataW Unit)}{s1 S:String}(w:Tryz.prog.globalNamed s1=some 3)(x:Tryz.prog.globalNamed S=some 4)(h:laidMet Tryz.prog l W)(M:(s1,Lib.firstData)∈l)(y:(S,Lib.acceptData)∈l): ∃V,nk V W.heap:=by
 refine⟨_,D7.Zp (FT:=λi=>(Lib.firstT i:Int)) (A0:=λi=>(Lib.accLo i:Int)) (A1:=λi=>(Lib.accHi i:Int)) ⟨λc r=> ?_,λi v=> ?_⟩⟩
 .obtain⟨g,t,cs,F,p,a,o,m,hd⟩:=Lib.laidMet.reads h M;obtain rfl:3=g:=bp (w.symm.trans a);obtain rfl:419=t:=by
   have e:(Tryz.prog.globals[(3:Nat)]?).map (·.type)=some 419:=cZ
   exact bp (e.symm.trans o)
  have b:=Lib.cells_of_tab (n:=256) (e:=5) cZ cZ cZ cZ hd;have:=World.var?_cell a m c;rw[ky,<-dH,b]at this;refine⟨?_,Int.natCast_nonneg _,by have:Lib.firstT c<256:=L3 ⟨c,r⟩;show((Lib.firstT c:Nat):Int)<256;omega⟩;rw[this];simp[Lib.firstTab,r]
 .obtain⟨g,t,cs,F,p,a,o,m,hd⟩:=Lib.laidMet.reads h y;obtain rfl:4=g:=bp (x.symm.trans a);obtain rfl:422=t:=by
   have e:(Tryz.prog.globals[(4:Nat)]?).map (·.type)=some 422:=cZ
   exact bp (e.symm.trans o)
  obtain⟨z,d,q,s,u⟩:=Lib.array_elem (n:=16) (e:=421) cZ hd i v;simp only[aF,List.getElem?_range v,dk,bA]at s;subst s;have C:Tryz.prog.cellsOf 421=2:=cZ
  rw[C]at u;have b:=Lib.ints_of_struct (t:=421) (k:=.u8) (fs:= #[Go.Field.mk "lo" 5 0 false "" "unicode/utf8" 0,Go.Field.mk "hi" 5 1 false "" "unicode/utf8" 1]) cZ (λj f H=>by
   match j,H with
   |0,H=>simp at H;subst H;exact⟨cZ,rfl,cZ⟩
   |1,H=>simp at H;subst H;exact⟨cZ,rfl,cZ⟩
   |j+2,H=>simp at H) (by rw[C];rfl) u
  have E:=bP (·[0]?) b;have e1:=bP (·[1]?) b;simp only[db,fD]at E e1;constructor
  .have:=World.var?_cell a m (i*2);rw[ky,<-dH]at this;rw[this];simpa using E
  .have:=World.var?_cell a m (i*2+1);rw[ky,<-dH]at this;rw[this];simpa using e1

end Cb
end
end Go.Proofs.YtlenamcfacpheaaGreatDoor
