/-
  FD is proved here: parts of x4 proof, one behind x4 other (texts of this work, merged by a program; IX x4 theorem IY not use is left out). No condition.
-/
import Derived.Test.YtlenamcfacpheaaGreatDoorProg
import Derived.Shelf.Strconv.Itoa4
import Derived.Ground.NamesProg
import Derived.Test.YtlenamcfacpheaaGreatDoorMArtse
set_option maxRecDepth 100000
set_option maxHeartbeats 4000000
namespace Go.Proofs.YtlenamcfacpheaaGreatDoor
open Go.Den
open IntKind (wrap)
open Int (toNat)
section
open Go.jU
namespace fM
open iW bW kK
variable {h h':ai} {R:fp} {t:Nat} {X:Ft} {s s':CF} {m a1 a2:Nat} {xs:List CV} {S a:Nat→Prop} {b:Nat→Option Nat} {n c:Nat}
variable {z:Cp} {K:ai->Prop} {L:List Cp}
def AL(L:List Cp)(n:Int):List Cp:=L.filter (λx=> !decide ((x.num:Int)=n))
def nN(L:List Cp)(n:Nat)(ses:Int)(dl:Nat):List Cp:=L.map (λx=>if x.num=n then { x with ses:=ses,dl:=dl } else x)
def Dd(s:CF)(n:Int):CF:= { s with L:=AL s.L n,E1:=fv s.E1 n,E2:=fv s.E2 n }
def oW(s:CF)(n:Nat):CF:= { s with L:=nN s.L n 0 0,E2:=fv s.E2 (n:Int) }
theorem nH(L:List E)(k:Int):(fv L k).length<=L.length:=cr _ _
structure Small (s:CF):Prop where
 n:s.next<=50000
 l:s.L.length<=50000
 e1:s.E1.length<=50000
 e2:s.E2.length<=50000
theorem Cm.len(H:Cm h t X s m xs a1 S a2 a b):xs.length=s.L.length:=by rw[<-H.abs,aF]
theorem iT(hk: ∀h' t X,Ct h' t X ⟨[],1,0,0,0, [], []⟩->Lp h X h'->R (.P t 0) h'):Cl 37 #[] h R:=by
 classical
 refine GZ.walk (cF ?_);have f1:Fr No h (h.push (.map #[] 0)):=Fr.push _ _;have M:=ja.push (α:=Int) h ga;have Z:(h.push (.map #[] 0)).size=h.size+1:=dJ _;generalize h.push (.map #[] 0)=j at f1 M Z⊢;refine bW.iT λa1 S f A1 G f2=>⟨_,rfl,bW.iT λa2 a H A i f3=>⟨_,rfl,cF ?_⟩⟩
 have f4:Fr No H (H.push (.cells #[.map (some h.size),.I 1,.I 0,.I 0,.I 0,.P a1 0,.P a2 0] 110)):=Fr.push _ _;have u:=f2.1;have v:=f3.1;have q:(H.push (.cells #[.map (some h.size),.I 1,.I 0,.I 0,.I 0,.P a1 0,.P a2 0] 110)).size=H.size+1:=dJ _;have B:(H.push (.cells #[.map (some h.size),.I 1,.I 0,.I 0,.I 0,.P a1 0,.P a2 0] 110))[H.size]? =some (.cells #[.map (some h.size),.I 1,.I 0,.I 0,.I 0,.P a1 0,.P a2 0] 110 (0,0)):=bV;generalize H.push (.cells #[.map (some h.size),.I 1,.I 0,.I 0,.I 0,.P a1 0,.P a2 0] 110)=g at f4 q B⊢;have l1: ∀c,S c->j.size<=c/\c<f.size:=λc hc=>⟨G c hc,A1.lt hc⟩
 have l2: ∀c,a c->f.size<=c/\c<H.size:=λc hc=>⟨i c hc,A.lt hc⟩
 let b:Nat->Option Nat:=λc=>if c=H.size then some 0 else if c=h.size then some 1 else if S c then some 2 else if a c then some 3 else none
 have o: ∀c,S c->b c=some 2:=λc hc=>by
  have:=l1 c hc;show(if c=H.size then some 0 else if c=h.size then some 1 else if S c then some 2 else if a c then some 3 else none)=_;rw[dc,dc,af hc]
 have p: ∀c,a c->b c=some 3:=λc hc=>by
  have r:=l2 c hc;show(if c=H.size then some 0 else if c=h.size then some 1 else if S c then some 2 else if a c then some 3 else none)=_;rw[dc,dc,ae (λk=>bY (l1 c k)),af hc]
 have l: ∀c,b c≠none->h.size<=c/\c<g.size:=λc hc=>by
  by_cases c1:c=H.size
  .omega
  by_cases c2:c=h.size
  .omega
  by_cases C:S c
  .have:=l1 c C;omega
  by_cases e:a c
  .have:=l2 c e;omega
  exact absurd (show(if c=H.size then some 0 else if c=h.size then some 1 else if S c then some 2 else if a c then some 3 else none)=none by rw[ae c1,ae c2,ae C,ae e]) hc
 refine hk g H.size ⟨λc=>b c≠none,λ_=>False⟩ ⟨h.size, [],a1,S,a2,a,b,⟨B,(M.frame (f2.tt f3) id).frame f4 id,(λx d=>by cases d),rfl,(λx d=>by cases d),A1.frame (f3.tt f4) cb,A.frame f4 cb,af rfl,?_,o,p,(λx d=>by cases d),λc=>eE,λc hc=>hc.elim,λc hc=>(l c hc).2,.nil⟩⟩ ⟨f1.tt (f2.tt (f3.tt f4)),λc hc=> ?_⟩
 .show(if h.size=H.size then some 0 else if h.size=h.size then some 1 else if S h.size then some 2 else if a h.size then some 3 else none)=some 1;rw[dc,af rfl]
 .rcases hc with hc|hc
  .exact(l c hc).1
  .exact hc.elim
theorem PW(H:Cm h t X s m xs a1 S a2 a b)(i:s.E2.length<1000000)(k:Int)(hk: ∀h' x l (e:Int),Cm h' t x { s with E2:=fv s.E2 k } m xs a1 S a2 a l->bm X h x h'->R (.I e) h'):
  Cl 115 #[.P a2 0,.I k] h R:=by
 refine bW.oH H.FB i k (λ_ f A1 f1=> ?_) (λj=> ?_)
 .obtain⟨x,l,d,st,_⟩:=H.G1 (s':= { s with E2:=fv s.E2 k }) A1 (λc g=> .inl g) f1 rfl rfl rfl ⟨rfl,rfl,rfl,rfl⟩;exact hk f x l 0 d st
 .have e:({ s with E2:=fv s.E2 k } :CF)=s:=by rw[jF j]
  exact hk h X b 4 (by rw[e];exact H) (bm.refl _ _)
theorem R7(H:Cm h t X s m xs a1 S a2 a b)(i:s.E1.length<1000000)(k:Int)(hk: ∀h' x l (e:Int),Cm h' t x { s with E1:=fv s.E1 k } m xs a1 S a2 a l->bm X h x h'->R (.I e) h'):
  Cl 115 #[.P a1 0,.I k] h R:=by
 refine bW.oH H.G0 i k (λ_ f A1 f1=> ?_) (λj=> ?_)
 .obtain⟨x,l,d,st,_⟩:=H.G2 (s':= { s with E1:=fv s.E1 k }) A1 (λc g=> .inl g) f1 rfl rfl rfl ⟨rfl,rfl,rfl,rfl⟩;exact hk f x l 0 d st
 .have e:({ s with E1:=fv s.E1 k } :CF)=s:=by rw[jF j]
  exact hk h X b 4 (by rw[e];exact H) (bm.refl _ _)
theorem nL(H:Ct h t X s)(f:Small s)(k:Int)(hk: ∀h' x,Ct h' t x (Dd s k)->bm X h x h'->R (.tuple #[]) h'):
  Cl 119 #[.P t 0,.I k] h R:=by
 obtain⟨m,xs,a1,S,a2,a,b,H⟩:=H;have:=f.e1;have:=f.e2;refine rO.walk ⟨_,ar H.cT,PW H ag k λu r w _ e st1=>⟨_,rfl,_,ar e.cT,R7 e (by show s.E1.length<_;omega) k λv i y _ d p=>⟨_,rfl,_,ar d.cT,DS nK d.map (k:=k) λj M l o=>⟨rfl,?_⟩⟩⟩⟩;obtain⟨g,q⟩:=d.del (s':=Dd s k) M l o rfl rfl rfl ⟨rfl,rfl,rfl,rfl⟩;exact hk j i ⟨_,_,_,_,_,_,_,g⟩ (st1.trans (p.trans q))
theorem sH(H:Cm h t X s m xs a1 S a2 a b)(d:z∈s.L): ∃x∈xs,x.abs=z:=by
 rw[<-H.abs]at d;obtain⟨x,f,e⟩:=bh.1 d;exact⟨x,f,e⟩
theorem Cm.BM{x:CV}{ses:Int}{dl:Nat}(H:Cm h t X s m xs a1 S a2 a b)(g:x∈xs)(hk: ∀h',Cm h' t X { s with L:=nN s.L x.num ses dl } m (xs.map (λz=>if z.num=x.num then { x with ses:=ses,dl:=dl } else z)) a1 S a2 a b->bm X h X h'->K h'):
  aS h (((AA x.b 0):Addr).add 8) (.I ses) λk=>aS k (((AA x.b 0):Addr).add 9) (.U (dl:Int)) K:=by
 rw[gz,gz];have r:=H.E6 x g;refine bw r bP λk c1 s1 o1=>bw c1 bP λo c2 s2 o2=> ?_
 have B:({ x with ses:=ses,dl:=dl } :CV).at o x.b:=c2;obtain⟨q,st⟩:=H.change (s':= { s with L:=nN s.L x.num ses dl }) (y:= { x with ses:=ses,dl:=dl }) g rfl rfl rfl B ag (λc p=>by rw[o2 c p,o1 c p]) (by
  show nN s.L x.num ses dl=_;unfold nN;refine eh λz C=> ?_
  by_cases e:z.num=x.num
  .rw[af e,af e];obtain⟨u,A,rfl⟩:=sH H C;have e:u.num=x.num:=e;have:u=x:=by
    obtain⟨i,d⟩:=bE A;obtain⟨j,f⟩:=bE g;have w:(xs.map CV.num).Nodup:=H.so.imp (λh=>Nat.ne_of_lt h);have v:=(aB.1 d).1;have:=(eg (l:=xs.map CV.num) (i:=i) (j:=j) (cA v) w).1 (by rw[aK,aK,d,f];simp[e]);subst this;rw[d]at f;exact aX f
   rw[this];rfl
  .rw[ae e,ae e]) rfl rfl ⟨rfl,rfl,rfl,rfl⟩
 exact hk o q st
theorem Il(H:Ct h t X s)(l:Small s)(k:z∈s.L)(hk: ∀h' f,Ct h' t f (oW s z.num)->bm X h f h'->R (.tuple #[]) h'):
  Cl 120 #[.P t 0,.I (z.num:Int)] h R:=by
 obtain⟨m,xs,a1,S,a2,a,b,H⟩:=H;obtain⟨x,e,rfl⟩:=sH H k;have:=l.e2;refine uJ.walk ⟨_,ar H.cT,PW H ag _ λp i q _ d st1=>⟨_,rfl,_,ar d.cT,_,look d e,_,ar d.cT,_,look d e,?_⟩⟩;refine aw.2 (d.BM (ses:=0) (dl:=0) e λj g o=>hk j i ⟨_,_,_,_,_,_,_,g⟩ (st1.trans o))
def xA(L:List Cp)(n:Int):Option Cp:=L.find? (λx=>decide ((x.num:Int)=n))
theorem vZ{n:Int}(h:xA L n=some z):z∈L/\(z.num:Int)=n:=⟨List.mem_of_find?_eq_some h,cA (List.find?_some h)⟩
theorem Ki{n:Int}:xA L n=none↔ ∀z∈L,(z.num:Int)≠n:=by unfold xA;simp
def kf(L:List Cp)(n ses:Int):Int:=match xA L n with|none=>4|some z=>if z.ses=0\/z.ses≠ses then 14 else 0
theorem gH(H:Ct h t X s)(num ses:Int)(hk: ∀q,R (.tuple #[.pointer q,.I (kf s.L num ses)]) h):
  Cl 165 #[.P t 0,.I num,.I ses] h R:=by
 obtain⟨m,xs,a1,S,a2,a,b,H⟩:=H;refine uH.walk (fI H ⟨_,rfl,?_⟩);rw[dc];unfold kf at hk;cases g:xA s.L num with
 |none=>
  rw[g]at hk;have k: ∀x∈xs,(x.num:Int)≠num:=λx i=>Ki.1 g x.abs (by rw[<-H.abs];exact bx i)
  refine⟨_,ar H.cT,_,O3 H k,?_⟩;rw[af (by rfl)];exact hk none
 |some z=>
  rw[g]at hk;dsimp only at hk;obtain⟨l,rfl⟩:=vZ g;obtain⟨x,i,rfl⟩:=sH H l;have L:=look H i;have C:=H.E6 x i;refine⟨_,ar H.cT,_,L,?_⟩;rw[ae bP];refine aG.of λJ j=>⟨_,ar H.cT,_,L,aw.2 ⟨_,ar C,?_⟩⟩
  have bad:(x.ses=0\/x.ses≠ses)->J true h:=λhb=>by
   subst j;simp only[bj];have:=hk none;have e:(if x.abs.ses=0\/x.abs.ses≠ses then(14:Int)else 0)=14:=af hb;rwa[e]at this
  by_cases d:x.ses=0
  .rw[af (cA d)];exact bad (.inl d)
  .rw[ae (cA d)];refine⟨_,ar H.cT,_,L,aw.2 ⟨_,ar C,?_⟩⟩;by_cases f:x.ses=ses
   .have e:(x.ses !=ses)=false:=by simp[f]
    rw[e];subst j;simp only[au,aM];refine⟨_,ar H.cT,_,L,?_⟩;have e2:(if x.abs.ses=0\/x.abs.ses≠ses then(14:Int)else 0)=0:=ae (λhb=>by
     rcases hb with hb|hb
     .exact d hb
     .exact hb f)
    have:=hk (Sa x.b 0);rwa[e2]at this
   .have e:(x.ses !=ses)=true:=by simpa using f
    rw[e];exact bad (.inr f)
def pq(s:CF)(n ses:Int):CF:=if kf s.L n ses=0 then { Dd s n with fQ:=s.fQ+1 } else s
theorem Ct.bump(H:Ct h t X s)(f:s.fQ<=100000)(hk: ∀h',Ct h' t X { s with fQ:=s.fQ+1 } ->bm X h X h'->K h'):
  ∃(u:Int),bg h (AA t 2)=some (.I u)/\aS h (AA t 2) (.I (IntKind.wrap .i64 (u+1))) K:=by
 obtain⟨m,xs,a1,S,a2,a,b,H⟩:=H;refine⟨_,ar H.cT,bw H.cT bP λe c1 s1 o1=> ?_⟩;rw[bD ag ag]at c1;obtain⟨d,st⟩:=H.field (s':= { s with fQ:=s.fQ+1 }) rfl rfl rfl c1 s1 o1;exact hk e ⟨_,_,_,_,_,_,_,d⟩ st
theorem Ct.R8(H:Ct h t X s)(f:s.over<=100000)(hk: ∀h',Ct h' t X { s with over:=s.over+1 } ->bm X h X h'->K h'):
  ∃(u:Int),bg h (AA t 3)=some (.I u)/\aS h (AA t 3) (.I (IntKind.wrap .i64 (u+1))) K:=by
 obtain⟨m,xs,a1,S,a2,a,b,H⟩:=H;refine⟨_,ar H.cT,bw H.cT bP λe c1 s1 o1=> ?_⟩;rw[bD ag ag]at c1;obtain⟨d,st⟩:=H.field (s':= { s with over:=s.over+1 }) rfl rfl rfl c1 s1 o1;exact hk e ⟨_,_,_,_,_,_,_,d⟩ st
theorem Ct.R9(H:Ct h t X s)(f:s.gone<=100000)(hk: ∀h',Ct h' t X { s with gone:=s.gone+1 } ->bm X h X h'->K h'):
  ∃(u:Int),bg h (AA t 4)=some (.I u)/\aS h (AA t 4) (.I (IntKind.wrap .i64 (u+1))) K:=by
 obtain⟨m,xs,a1,S,a2,a,b,H⟩:=H;refine⟨_,ar H.cT,bw H.cT bP λe c1 s1 o1=> ?_⟩;rw[bD ag ag]at c1;obtain⟨d,st⟩:=H.field (s':= { s with gone:=s.gone+1 }) rfl rfl rfl c1 s1 o1;exact hk e ⟨_,_,_,_,_,_,_,d⟩ st
theorem G3(H:Ct h t X s)(l:Small s)(k:s.fQ<=100000)(num ses:Int)(hk: ∀h' x,Ct h' t x (pq s num ses)->bm X h x h'->R (.I (kf s.L num ses)) h'):
  Cl 161 #[.P t 0,.I num,.I ses] h R:=by
 refine vW.walk (gH H num ses λq=>⟨_,_,rfl,aG.of λJ d=> ?_⟩);by_cases e:kf s.L num ses=0
 .rw[af (cA e)];refine nL H l num λp i f st1=>⟨rfl,f.bump k λj g o=> ?_⟩
  subst d;exact hk j i (by unfold pq;rw[af e];exact g) (st1.trans o)
 .rw[ae (cA e)];subst d;exact hk h X (by unfold pq;rw[ae e];exact H) (bm.refl _ _)
def zT(s:CF)(n ses:Int):CF:=if kf s.L n ses=0 then oW s n.toNat else s
theorem G5(H:Ct h t X s)(o:Small s)(num ses:Int)(hk: ∀h' x,Ct h' t x (zT s num ses)->bm X h x h'->R (.I (kf s.L num ses)) h'):
  Cl 107 #[.P t 0,.I num,.I ses] h R:=by
 refine qx.walk (gH H num ses λq=>⟨_,_,rfl,aG.of λJ d=> ?_⟩);by_cases e:kf s.L num ses=0
 .rw[af (cA e)];obtain⟨z,k⟩: ∃z,xA s.L num=some z:=by
   cases j:xA s.L num with
   |none=>unfold kf at e;rw[j]at e;cases e
   |some z=>exact⟨z,rfl⟩
  obtain⟨l,rfl⟩:=vZ k;refine Il H o l λi g f st1=>⟨rfl,?_⟩
  subst d;exact hk i g (by unfold zT;rw[af e,aI];exact f) st1
 .rw[ae (cA e)];subst d;exact hk h X (by unfold zT;rw[ae e];exact H) (bm.refl _ _)

end fM
end
section
namespace dH
open gV (It)
open iW (Ev)
variable {h h':ai} {s j:Nat} {X:Ft}
structure SS where
 A:List fj.fj
 G:List gj.Rg
 C:fM.CF
 B:gV.BS
 Q:List It
 e:Ev
 tm:Nat
 sq:Nat
 now:Nat
 rf:Nat
structure ps where
 t:Nat
 r:Nat
 c:Nat
 o:Nat
 p:Nat
 k:Nat
abbrev Mk(h:ai)(k:Nat)(e:Ev)(tm sq:Nat):Prop:=h[k]? =some (.cells #[.bool e.ky,.int .u64 e.node,.int .u64 e.gk,.string e.host,.string e.jB,.int .u64 (tm:Int),.int .u64 (sq:Int),.bool true] 166 (0,0))
abbrev Bk(h:ai)(s:Nat)(I:ps)(now rf:Nat):Prop:=h[s]? =some (.cells #[pt I.t,pt I.r,pt I.c,pt I.o,pt I.p,pt I.k,.int .u64 (now:Int),.int .i64 (rf:Int)] 41 (0,0))
def part(σ:SS)(I:ps)(s:Nat)(i:Nat)(h:ai)(X:Ft):Prop:=match i with
 |0=>fj.Has h I.t X σ.A
 |1=>gj.Tb h I.r X σ.G
 |2=>fM.Ct h I.c X σ.C
 |3=>gV.zM h I.o X σ.B
 |4=> ∃m,Pu h I.p m σ.Q/\only X λy=>y=I.p\/y=m
 |5=>Mk h I.k σ.e σ.tm σ.sq/\only X λy=>y=I.k
 |6=>Bk h s I σ.now σ.rf/\only X λy=>y=s
 |_=> ∀y,¬In X y
theorem part.lt{σ:SS}{I:ps}{i:Nat}(H:part σ I s i h X)(y:Nat)(hy:In X y):y<h.size:=by
 rcases i with _|_|_|_|_|_|_|i
 .exact fj.Has.lt H y hy
 .exact gj.Tb.lt H y hy
 .exact fM.Ct.lt H y hy
 .exact gV.zM.lt H y hy
 .obtain⟨m,P,o⟩:=H;rcases hy with hy|hy
  .rcases(o y).1.1 hy with rfl|rfl
   .exact P.lt.1
   .exact P.lt.2
  .exact absurd hy (o y).2
 .obtain⟨P,o⟩:=H;rcases hy with hy|hy
  .rw[(o y).1.1 hy];exact aD P
  .exact absurd hy (o y).2
 .obtain⟨P,o⟩:=H;rcases hy with hy|hy
  .rw[(o y).1.1 hy];exact aD P
  .exact absurd hy (o y).2
 .exact absurd hy (H y)
theorem part.frame{σ:SS}{I:ps}{i:Nat}{Q:Nat->Prop}(H:part σ I s i h X)(f:Fr Q h h')(a: ∀y,In X y->¬Q y):part σ I s i h' X:=by
 rcases i with _|_|_|_|_|_|_|i
 .exact fj.Has.frame H f a
 .exact gj.Tb.frame H f a
 .exact fM.Ct.frame H f a
 .exact gV.zM.frame H f a
 .obtain⟨m,P,o⟩:=H;exact⟨m,P.frame f (a _ (.inl ((o _).1.2 (.inl rfl)))) (a _ (.inl ((o _).1.2 (.inr rfl)))),o⟩
 .obtain⟨P,o⟩:=H;exact⟨f.get P (a _ (.inl ((o _).1.2 rfl))),o⟩
 .obtain⟨P,o⟩:=H;exact⟨f.get P (a _ (.inl ((o _).1.2 rfl))),o⟩
 .exact H
theorem part.tH{σ:SS}{I:ps}{i:Nat}(H:part σ I s i h X)(y:Nat)(b:X.M y)(hd:X.D y):False:=by
 rcases i with _|_|_|_|_|_|_|i
 .exact fj.Has.tH H y b hd
 .obtain⟨m,H⟩:=H;exact H.d y hd
 .obtain⟨m,xs,a1,c,a2,d,l,H⟩:=H;exact(H.mm y).1 b (H.dd y hd).1
 .obtain⟨L,⟨f,e,xs,a,S,H⟩,_⟩:=H;exact H.tH y b hd
 .obtain⟨m,P,o⟩:=H;exact(o y).2 hd
 .exact(H.2 y).2 hd
 .exact(H.2 y).2 hd
 .exact H y (.inl b)
theorem part.st(σ:SS)(I:ps)(s:Nat):yC (part σ I s):=⟨part.lt,part.frame,part.tH⟩
def Pt(h:ai)(s:Nat)(X:Ft)(I:ps)(σ:SS):Prop:=F1 (part σ I s) h X
variable {I : ps} {σ : SS}
theorem Pt.lt(H:Pt h s X I σ)(y:Nat)(a:X.M y\/X.D y):y<h.size:=F1.lt (part.st _ _ _) H y a
theorem Pt.tH(H:Pt h s X I σ)(y:Nat)(a:X.M y)(b:X.D y):False:=F1.tH (part.st _ _ _) H y a b
theorem Pt.frame{Q:Nat->Prop}(H:Pt h s X I σ)(f:Fr Q h h')(a: ∀y,X.M y\/X.D y->¬Q y):Pt h' s X I σ:=F1.frame (part.st _ _ _) H f a
theorem Pt.on(H:Pt h s X I σ)(f:Fr No h h'):Pt h' s X I σ:=H.frame f cb
theorem Pt.use(H:Pt h s X I σ)(j:Nat): ∃Z,part σ I s j h Z/\(∀y,Z.M y->X.M y)/\(∀y,Z.D y->X.D y)/\∀h' z a,part a I s j h' z->bm Z h z h'->(∀i,i≠j->part a I s i=part σ I s i)->
  ∃x,Pt h' s x I a/\bm X h x h'/\(∀y,z.D y->x.D y)/\∀y,h.size<=y->x.M y\/x.D y->z.M y\/z.D y:=by
 obtain⟨Z,b,c,d,go⟩:=F1.use (part.st σ I s) H j;exact⟨Z,b,c,d,λh' z a=>go h' z (part a I s)⟩
theorem Pt.cT(H:Pt h s X I σ):Bk h s I σ.now σ.rf:=by obtain⟨Y,a,_⟩:=H;exact(a 6).1
theorem Pt.box(H:Pt h s X I σ): ∃Z,gV.zM h I.o Z σ.B:=by obtain⟨Y,a,_⟩:=H;exact⟨_,a 3⟩
theorem qA{i:Nat}(a:List fj.fj)(H:i≠0):part { σ with A:=a } I s i=part σ I s i:=by rcases i with _|_|_|_|_|_|_|i<;>first|rfl|exact absurd rfl H
theorem G6{i:Nat}(a:List gj.Rg)(H:i≠1):part { σ with G:=a } I s i=part σ I s i:=by rcases i with _|_|_|_|_|_|_|i<;>first|rfl|exact absurd rfl H
theorem wa{i:Nat}(a:fM.CF)(H:i≠2):part { σ with C:=a } I s i=part σ I s i:=by rcases i with _|_|_|_|_|_|_|i<;>first|rfl|exact absurd rfl H
theorem De{i:Nat}(a:gV.BS)(H:i≠3):part { σ with B:=a } I s i=part σ I s i:=by rcases i with _|_|_|_|_|_|_|i<;>first|rfl|exact absurd rfl H
theorem G8{i:Nat}(a:List It)(H:i≠4):part { σ with Q:=a } I s i=part σ I s i:=by rcases i with _|_|_|_|_|_|_|i<;>first|rfl|exact absurd rfl H
theorem QD{i:Nat}(a:Ev)(b c:Nat)(H:i≠5):part { σ with e:=a,tm:=b,sq:=c } I s i=part σ I s i:=by rcases i with _|_|_|_|_|_|_|i<;>first|rfl|exact absurd rfl H
theorem QE{i:Nat}(a b:Nat)(H:i≠6):part { σ with now:=a,rf:=b } I s i=part σ I s i:=by rcases i with _|_|_|_|_|_|_|i<;>first|rfl|exact absurd rfl H
end dH
end
section
open Go.jU
namespace fM
open iW bW kK
variable {h h':ai} {R:fp} {t:Nat} {X:Ft} {s s':CF} {m a1 a2:Nat} {xs:List CV} {r w:Nat→Prop} {o:Nat→Option Nat} {p:cy} {n c:Nat}
variable {k:Int} {l:List Int} {i:Nat} {f:CF->Int->CF}
def xB(x:Ev)(len:Nat)(cf:Int):Bool:=cV x && (!decide (x=Ev.zero) && (decide (1<=len) && (decide (len<=600) && decide (cf<=1099511627776))))
theorem Kj(x:Ev)(hk: gL h R (.bool (xB x n k))):Cl 48 #[kz x,.slice p n c,.U k] h R:=by
 refine AK.walk (ay.box λb d e H f1=>ay.ld H (iW.e8 x λa f2=>⟨_,rfl,?_⟩));have K:=hk a (f1.tt f2);unfold xB at K;by_cases q:cV x=true
 .rw[af q];rw[q,dL]at K;refine ay.ld (f2.get H id) ⟨_,xd (y:=.zero) (x:=x) rfl rfl,?_⟩;by_cases q1:x=.zero
  .rw[av q1,dc];rw[av q1]at K;exact K
  .rw[az q1,fK];rw[az q1,dK,dL]at K;by_cases q2:1<=n
   .rw[fK];rw[av q2,dL]at K;by_cases q3:n<=600
    .rw[fK];rw[av q3,dL]at K;exact K
    .rw[ae (by simp;omega)];rw[az q3]at K;exact K
   .rw[ae (by simp;omega)];rw[az q2]at K;exact K
 .rw[ae q];have q:cV x=false:=by simpa using q
  rw[q]at K;exact K
def kP(L:List Cp)(x:Ev):List Cp:=L.filter (λy=>decide (y.e=x))
theorem G9(H:Cm h t X s m xs a1 r a2 w o)(x:Ev):(xs.filter (λy=>decide (y.e=x))).length=(kP s.L x).length:=by
 unfold kP;rw[<-H.abs,du,aF];rfl
def iH(s:CF)(x:Ev)(d:cD)(cf:Nat):Int:=if xB x d.length (cf:Int)=true then(if(kP s.L x).length≥16 then 15 else 0)else 1
def uz(s:CF)(x:Ev)(d:cD)(cf:Nat):Int:=if iH s x d cf=0 then(s.next:Int)else 0
def jn(s:CF)(x:Ev)(d:cD)(cf:Nat):CF:=if iH s x d cf=0 then { s with L:=s.L++ [⟨s.next,x,d,cf,0,0⟩],next:=s.next+1,E1:=zx s.E1 (s.next:Int) (cf:Int) } else s
theorem zN(H:Ct h t X s)(S:Small s)(c': ∀z∈s.L,z.num<s.next)(i':1<=s.next)(x:Ev){d:cD}(cf:Nat)(b':k=(cf:Int))(hr:Row h p (bc d))(hn:n=d.length)(e':d≠ []->∀a,p=some a->¬X.M a.block)(hk: ∀h' K,Ct h' t K (jn s x d cf)->bm X h K h'->R (.tuple #[.I (uz s x d cf),.I (iH s x d cf)]) h'):
  Cl 15 #[.P t 0,kz x,.slice p n c,.U k] h R:=by
 subst b' hn;obtain⟨m,xs,a1,r,a2,w,o,H⟩:=H;have sn:=S.n;have sl:=S.l;have se:=S.e1;have xl:=H.len;refine vU.walk (ay.box λb h1 eb I f1=> ?_);have W:=H.on f1;refine fI W ⟨_,rfl,?_⟩;rw[dc];refine ay.ld I (Kj x λh3 f3=>⟨_,rfl,?_⟩);have F:=f1.tt f3;by_cases q:xB x d.length (cf:Int)=true
 .rw[q,dc];refine ay.ld (f3.get I id) (uy (H.on F) x ag λN p4 c4 o4 g4 f4=>⟨_,_,_,rfl,?_⟩);have A:=F.tt f4;have g:=H.on A;have P:=(f3.tt f4).get I id;rw[G9 H x];by_cases q1:(kP s.L x).length≥16
  .rw[fK];have e:iH s x d cf=15:=by unfold iH;rw[af q,af q1]
   have e2:uz s x d cf=0:=ae (by rw[e];decide);have E:jn s x d cf=s:=ae (by rw[e];decide);rw[e,e2,E]at hk;exact hk N X ⟨_,_,_,_,_,_,_,g⟩ (bm.gr A)
  .rw[ae (by simp;omega)];have e:iH s x d cf=0:=by unfold iH;rw[af q,ae q1]
   have e2:uz s x d cf=(s.next:Int):=af e;have E:jn s x d cf= { s with L:=s.L++ [⟨s.next,x,d,cf,0,0⟩],next:=s.next+1,E1:=zx s.E1 (s.next:Int) (cf:Int) } :=af e;rw[e,e2,E]at hk;have lb:b<N.size:=aD P;have nb: ∀{c},o c≠none->c≠b:=fun {c} v ec=>by have:=H.Dz c v;omega
   refine⟨_,ar g.cT,_,ar g.cT,bw g.cT bP λC M s5 T=> ?_⟩;rw[bD ag ag]at M;obtain⟨j,U⟩:=g.field (s':= { s with next:=s.next+1 }) rfl rfl rfl M s5 T;have J:Ev.at C b x:=by
    unfold Ev.at ay.at;rw[T b (fo (nb (by rw[H.l0];simp)))];exact P
   have r5:Row C p (bc d):=(hr.frame A cb).frame U.fr (λa ea=>e' (by rintro rfl;simp[xB]at q) a ea);refine⟨_,ar j.cT,ay.ld J (gF r5 rfl (by
    unfold xB at q;simp only[aT,aV]at q;omega) λp6 c6 h6 O f6 g6=>⟨_,_,_,rfl,?_⟩)⟩
   refine⟨ay.held (f6.get J id),ar (f6.get j.cT id),aN.box λG h7 e7 a' f7=> ?_⟩;have B:=f6.tt f7;have z5:C.size<=h6.size:=f6.1;refine⟨ay.held (B.get J id),ar (B.get j.cT id),yy nK (j.on B).map (k:=(s.next:Int)) λh8 Z s8 o8=> ?_⟩;obtain⟨X8,j',D,f'⟩:=j.add (s':= { s with L:=s.L++ [⟨s.next,x,d,cf,0,0⟩],next:=s.next+1 }) (y:=⟨s.next,G,x,⟨p6,c6,d⟩,cf,0,0⟩) B a' (by show C.size<=G;omega) ((O.iw).frame f7 cb) O.le (λc v=>⟨g6 c v,by have:=O.dY v;show c≠G;omega,hY (O.dY v) f7.1⟩)
    (λu hu=>by
     have:u.abs∈s.L:=by rw[<-H.abs];exact bx hu
     exact c' _ this) Z s8 o8 rfl rfl rfl ⟨rfl,rfl,rfl,rfl⟩
   have d':may (s.next:Int) (cf:Int)=true:=by
    unfold xB at q;simp only[aT,aV]at q;exact lH.2 ⟨ag,ag,ag⟩
   refine⟨_,ar D.cT,bW.GJ D.G0 (by show s.E1.length<_;omega) (s.next:Int) (cf:Int) ag (λQ h9 S9 V g9 f9=>⟨_,rfl,?_⟩) (λQ=>absurd d' (by rw[Q];simp))⟩;obtain⟨X9,k',Y,g',_⟩:=D.G2 (s':= { s with L:=s.L++ [⟨s.next,x,d,cf,0,0⟩],next:=s.next+1,E1:=zx s.E1 (s.next:Int) (cf:Int) }) V g9 f9 rfl rfl rfl ⟨rfl,rfl,rfl,rfl⟩;exact hk h9 X9 ⟨_,_,_,_,_,_,_,Y⟩ (bm.no A (U.trans (f'.trans g')))
 .have q:xB x d.length (cf:Int)=false:=by simpa using q
  rw[q,fK];have e:iH s x d cf=1:=by unfold iH;rw[q];rfl
  have e2:uz s x d cf=0:=ae (by rw[e];decide);have E:jn s x d cf=s:=ae (by rw[e];decide);rw[e,e2,E]at hk;exact hk h3 X ⟨_,_,_,_,_,_,_,H.on F⟩ (bm.gr F)
theorem Kk(H:Ct h t X s)(d:Small s)(hk: gL h R (.agg #[.I ((s.next:Int) - 1),.I ((s.L.length:Int) - (s.E2.length:Int)),.I (s.E2.length:Int),.I (s.fQ:Int),.I (s.over:Int),.I (s.gone:Int)])):
  Cl 17 #[.P t 0] h R:=by
 obtain⟨m,xs,a1,r,a2,w,o,H⟩:=H;have A:=d.n;have z:=d.l;have x:=d.e2;have xl:=H.len;refine rN.walk (gD.box λb u E j f1=> ?_);have a:=H.on f1;refine fI a ⟨_,rfl,?_⟩;rw[dc];refine⟨_,ar a.cT,bW.MF a.FB ⟨_,rfl,_,ar a.cT,_,ar a.cT,_,FP nK a.map,_,ar a.cT,_,ar a.cT,_,ar a.cT,?_⟩⟩;refine gD.set j λg a6 v O=>gD.ld a6 ?_
 have F:Fr No h g:=f1.fresh (S:=λy=>y=b) ⟨ag,λy _ q=>O y q⟩ (λy e=>ag);have K:=hk g F;rw[aF,bD (n:=(s.next:Int) - 1) ag ag,bD ag ag,xl];exact K
def jE(s:CF)(k:Int):CF:= { Dd s k with over:=s.over+1 }
def mL(s:CF)(k:Int):CF:= { Dd s k with gone:=s.gone+1 }
theorem Small.rem(S:Small s)(k:Int):Small (Dd s k):=
 ⟨S.n,cW (cr _ _) S.l,cW (nH _ _) S.e1,cW (nH _ _) S.e2⟩
theorem Small.free(S:Small s)(k:Nat):Small (oW s k):=
 ⟨S.n,by show(nN s.L k 0 0).length<=_;unfold nN;rw[aF];exact S.l,S.e1,cW (nH _ _) S.e2⟩
def E7(s:CF):Prop:= ∀k∈keys s.E2,∃z∈s.L,(z.num:Int)=k
theorem E7.rem(H:E7 s)(k:Int):E7 (Dd s k):=λj a=>by
 unfold keys at a;obtain⟨e,g,rfl⟩:=bh.1 a;obtain⟨b,d⟩:=ba.1 g;have q:e.1≠k:=by simpa using d
 obtain⟨z,u,e2⟩:=H e.1 (bx b);exact⟨z,ba.2 ⟨u,by simp[e2,q]⟩,e2⟩
theorem Kl(L:List Cp)(n:Nat)(a:Int)(b:Nat){z:Cp}(H:z∈L): ∃y∈nN L n a b,y.num=z.num:=by
 unfold nN;refine⟨_,bx H,?_⟩;split<;>rfl
theorem Ct.Sb(H:Ct h t X s)(S:Small s)(now:Int)(hk: ∀h' x P c',Ct h' t x { s with E1:=bW.rest s.E1 now } ->bm X h x h'->fJ h' P (bW.due s.E1 now).length c' 1 (kc (bW.due s.E1 now))->(∀y,aR P y->h.size<=y/\¬x.M y)->R (.slice P (bW.due s.E1 now).length c') h'):
  ∃(u:cy),bg h (AA t 5)=some (.pointer u)/\Cl 118 #[.pointer u,.U now] h R:=by
 obtain⟨m,xs,a1,r,a2,w,o,H⟩:=H;have:=S.e1;refine⟨_,ar H.cT,bW.C6 H.G0 ag now λd v c1 A1 o1 g f1=> ?_⟩;obtain⟨x,L,b,st,e⟩:=H.G2 (s':= { s with E1:=bW.rest s.E1 now }) A1 (λc j=> .inl j) f1 rfl rfl rfl ⟨rfl,rfl,rfl,rfl⟩;refine hk d x v c1 ⟨_,_,_,_,_,_,_,b⟩ st o1 (λy a=>⟨g y a,λq=> ?_⟩);have a:=g y a;rcases e y q with h2|h2
 .have:=H.Dz y ((H.mm y).1 h2);omega
 .have:=H.G0.lt h2;omega
theorem Ct.Sc(H:Ct h t X s)(S:Small s)(now:Int)(hk: ∀h' x P c',Ct h' t x { s with E2:=bW.rest s.E2 now } ->bm X h x h'->fJ h' P (bW.due s.E2 now).length c' 1 (kc (bW.due s.E2 now))->(∀y,aR P y->h.size<=y/\¬x.M y)->R (.slice P (bW.due s.E2 now).length c') h'):
  ∃(u:cy),bg h (AA t 6)=some (.pointer u)/\Cl 118 #[.pointer u,.U now] h R:=by
 obtain⟨m,xs,a1,r,a2,w,o,H⟩:=H;have:=S.e2;refine⟨_,ar H.cT,bW.C6 H.FB ag now λd v c1 A1 o1 g f1=> ?_⟩;obtain⟨x,L,b,st,e⟩:=H.G1 (s':= { s with E2:=bW.rest s.E2 now }) A1 (λc j=> .inl j) f1 rfl rfl rfl ⟨rfl,rfl,rfl,rfl⟩;refine hk d x v c1 ⟨_,_,_,_,_,_,_,b⟩ st o1 (λy a=>⟨g y a,λq=> ?_⟩);have a:=g y a;rcases e y q with h2|h2
 .have:=H.Dz y ((H.mm y).1 h2);omega
 .have:=H.FB.lt h2;omega
structure uO (h:ai) (X:Ft) (p:cy) (n c:Nat) (l:List Int):Prop where
 own:fJ h p n c 1 (l.map ga)
 len:n=l.length
 ap: ∀y,aR p y->¬X.M y
theorem uO.step{x:Ft}(N:uO h X p n c l)(st:bm X h x h'):uO h' x p n c l:=
 ⟨N.own.frame st.fr N.ap,N.len,λy H a=>by
  rcases st.gI y a with h1|h1
  .exact N.ap y H h1
  .have:=N.own.dY H;omega⟩
theorem uO.at{K:Int->Prop}(N:uO h X p n c l)(H:l[i]? =some k)(hk:K k):
  ((0:Int)<=(i:Int)/\(i:Int)<(n:Int))/\aL p λa=> ∃t:Int,bg h (a.add (Int.toNat (i:Int)*1))=some (.I t)/\K t:=by
 have d:=(aB.1 H).1;have g:=N.len;obtain⟨A,b,e⟩:=N.own.addr ag;subst e;refine⟨ag,aw.2 ⟨k,?_,hk⟩⟩;rw[aI,ct];exact N.own.cell (by rw[aK,H];rfl)
theorem mM(H: ∀s k,Small s->Small (f s k)): ∀(l:List Int)(s:CF),Small s->Small (l.foldl f s)
 | [],_,h=>h
 |k::l,s,h=>mM H l (f s k) (H s k h)
theorem BN: ∀(l:List Int)(s:CF),(l.foldl jE s).over=s.over+l.length
 | [],_=>rfl
 |k::l,s=>by rw[List.foldl_cons,BN l,bf];show s.over+1+l.length=_;omega
theorem BO: ∀(l:List Int)(s:CF),(l.foldl mL s).gone=s.gone+l.length
 | [],_=>rfl
 |k::l,s=>by rw[List.foldl_cons,BO l,bf];show s.gone+1+l.length=_;omega
theorem BP: ∀(l:List Int)(s:CF),E7 s->E7 (l.foldl jE s)
 | [],_,h=>h
 |k::l,s,h=>BP l (jE s k) (h.rem k)
theorem sI(H:l[i]? =some k)(s:CF):(l.take (i+1)).foldl f s=f ((l.take i).foldl f s) k:=by
 rw[bQ,H,List.foldl_append];rfl
def jo(s:CF)(now:Int):CF:=
 let s1:=(keys (bW.due s.E1 now)).foldl jE { s with E1:=bW.rest s.E1 now }
 (keys (bW.due s1.E2 now)).foldl (λs k=>oW s k.toNat) { s1 with E2:=bW.rest s1.E2 now }
theorem BQ: ∀(l:List Int)(s:CF)(z:Cp),z∈s.L->∃y∈(l.foldl (λs k=>oW s k.toNat) s).L,y.num=z.num
 | [],s,z,H=>⟨z,H,rfl⟩
 |k::l,s,z,H=>by
  obtain⟨y,b,e⟩:=Kl s.L k.toNat 0 0 H;obtain⟨u,a,e2⟩:=BQ l (oW s k.toNat) y b;exact⟨u,a,e2.trans e⟩
theorem zU(L:List E)(now:Int):(bW.rest L now).length<=L.length:=(List.dropWhile_sublist _).length_le
theorem uC(H:Ct h t X s)(d:Small s)(ho:s.over<=40000)(hE:E7 s)(now:Int)(hk: ∀h' A B c',Ct h' t A (jo s now)->bm X h A h'->uO h' A B (bW.due s.E1 now).length c' (keys (bW.due s.E1 now))->(∀y,aR B y->h.size<=y)->R (.slice B (bW.due s.E1 now).length c') h'):
  Cl 53 #[.P t 0,.U now] h R:=by
 have n':(bW.due s.E1 now).length<=s.E1.length:=(List.takeWhile_sublist _).length_le;have l':=d.e1;have hm: ∀{R:fp},R (.bool true) h->Cl 47 #[.P t 0] h R:=λhk=>by
  obtain⟨m,xs,a1,r,a2,w,o,H⟩:=H;exact fI H hk
 refine uL.walk (hm ⟨_,rfl,?_⟩);rw[dc];refine H.Sb d now λh2 E P c2 W k' o2 J=>⟨_,_,_,rfl,?_⟩
 have f':Small { s with E1:=bW.rest s.E1 now } :=⟨d.n,d.l,cW (zU _ _) d.e1,d.e2⟩;have kl:(keys (bW.due s.E1 now)).length=(bW.due s.E1 now).length:=by unfold keys;rw[aF]
 have N2:uO h2 E P (bW.due s.E1 now).length c2 (keys (bW.due s.E1 now)):=⟨o2,kl.symm,λy b=>(J y b).2⟩;have j': ∀(s:CF) k,Small s->Small (jE s k):=λs k h=>⟨(h.rem k).n,(h.rem k).l,(h.rem k).e1,(h.rem k).e2⟩
 refine⟨λu g=> ∃(i:Nat)(x:Ft),u=(i:Int)/\i<=(bW.due s.E1 now).length/\Ct g t x (((keys (bW.due s.E1 now)).take i).foldl jE { s with E1:=bW.rest s.E1 now })/\bm X h x g/\uO g x P (bW.due s.E1 now).length c2 (keys (bW.due s.E1 now)),λu _=>(bW.due s.E1 now).length - u.toNat,⟨0,E,rfl,bG _,W,k',N2⟩,?_⟩;rintro _ g ⟨i,x,rfl,hi,q,V,N⟩;have S:=mM j' ((keys (bW.due s.E1 now)).take i) _ f';by_cases b':i<(bW.due s.E1 now).length
 .rw[fK];have a:(keys (bW.due s.E1 now))[i]? =some ((keys (bW.due s.E1 now))[i]' ag):=aj _;generalize (keys (bW.due s.E1 now))[i]' ag=k at a;refine N.at a (nL q S k λg3 X3 Y Q=>⟨rfl,Y.R8 ?_ λg4 Z T=> ?_⟩)
  .show(((keys (bW.due s.E1 now)).take i).foldl jE { s with E1:=bW.rest s.E1 now }).over<=100000;rw[BN,bB];show s.over+_<=100000;omega
  .rw[bD ag ag];refine⟨⟨i+1,X3,ag,ag,?_,V.trans (Q.trans T),(N.step Q).step T⟩,by show(bW.due s.E1 now).length - Int.toNat ((i:Int)+1)<(bW.due s.E1 now).length - i;omega⟩;rw[sI a];exact Z
 .rw[ae (by simp;omega)];obtain rfl:i=(bW.due s.E1 now).length:=ag
  have ta:(keys (bW.due s.E1 now)).take (bW.due s.E1 now).length=keys (bW.due s.E1 now):=bJ ag;rw[ta]at q S;have L:E7 ((keys (bW.due s.E1 now)).foldl jE { s with E1:=bW.rest s.E1 now }):=BP _ _ hE;generalize d':(keys (bW.due s.E1 now)).foldl jE { s with E1:=bW.rest s.E1 now } =s1 at q S L;refine q.Sc S now λh6 F O G H6 U o6 g6=>⟨_,_,_,rfl,?_⟩
  have e':(keys (bW.due s1.E2 now)).length=(bW.due s1.E2 now).length:=by unfold keys;rw[aF]
  have g':Small { s1 with E2:=bW.rest s1.E2 now } :=⟨S.n,S.l,S.e1,cW (zU _ _) S.e2⟩;have N6:uO h6 F O (bW.due s1.E2 now).length G (keys (bW.due s1.E2 now)):=⟨o6,e'.symm,λy b=>(g6 y b).2⟩;have m':=S.e2;have o':(bW.due s1.E2 now).length<=s1.E2.length:=(List.takeWhile_sublist _).length_le;refine⟨λu g=> ∃(i:Nat)(x:Ft),u=(i:Int)/\i<=(bW.due s1.E2 now).length/\Ct g t x (((keys (bW.due s1.E2 now)).take i).foldl (λs k=>oW s k.toNat) { s1 with E2:=bW.rest s1.E2 now })/\bm X h x g/\uO g x O (bW.due s1.E2 now).length G (keys (bW.due s1.E2 now))/\uO g x P (bW.due s.E1 now).length c2 (keys (bW.due s.E1 now)),λu _=>(bW.due s1.E2 now).length - u.toNat,⟨0,F,rfl,bG _,H6,V.trans U,N6,N.step U⟩,?_⟩;rintro _ g7 ⟨j,X7,rfl,hj,v,Ha,D,M⟩;have i':=mM (f:=λs k=>oW s k.toNat) (λs k h=>h.free k.toNat) ((keys (bW.due s1.E2 now)).take j) _ g';by_cases b':j<(bW.due s1.E2 now).length
  .rw[fK];have a:(keys (bW.due s1.E2 now))[j]? =some ((keys (bW.due s1.E2 now))[j]' ag):=aj _;generalize (keys (bW.due s1.E2 now))[j]' ag=k at a;have a':k∈keys s1.E2:=by
    have K:=bn a;unfold keys at K⊢;obtain⟨e,he,rfl⟩:=bh.1 K;exact bx ((List.takeWhile_sublist _).subset he)
   obtain⟨z,hz,ez⟩:=L k a';obtain⟨y,b,ey⟩:=BQ ((keys (bW.due s1.E2 now)).take j) { s1 with E2:=bW.rest s1.E2 now } z hz;have I:k=(y.num:Int):=by rw[ey];exact ez.symm
   refine D.at a ?_;rw[I];refine Il v i' b λg8 X8 H8 C=>⟨rfl,?_⟩
   rw[bD ag ag];refine⟨⟨j+1,X8,ag,ag,?_,Ha.trans C,D.step C,M.step C⟩,by show(bW.due s1.E2 now).length - Int.toNat ((j:Int)+1)<(bW.due s1.E2 now).length - j;omega⟩;rw[sI a,I,aI];exact H8
  .rw[ae (by simp;omega)];obtain rfl:j=(bW.due s1.E2 now).length:=ag
   rw[bJ ag]at v;refine hk g7 X7 P c2 ?_ Ha M (λy b=>(J y b).1);unfold jo;rw[d'];exact v
def uQ(s:CF)(x:Ev):CF:=((kP s.L x).map (λz=>(z.num:Int))).foldl mL s
theorem O4(H:Cm h t X s m xs a1 r a2 w o)(x:Ev):ka (xs.filter (λy=>decide (y.e=x)))=(kP s.L x).map (λz=>(z.num:Int)):=by
 unfold kP ka;rw[<-H.abs,du,dE];rfl
theorem oH(H:Ct h t X s)(S:Small s)(ho:s.gone<=40000)(x:Ev)(hk: ∀h' e P c',Ct h' t e (uQ s x)->bm X h e h'->uO h' e P (kP s.L x).length c' ((kP s.L x).map (λz=>(z.num:Int)))->(∀y,aR P y->h.size<=y)->R (.slice P (kP s.L x).length c') h'):
  Cl 99 #[.P t 0,kz x] h R:=by
 have D:=H;obtain⟨m,xs,a1,r,a2,w,o,H⟩:=H;have sl:=S.l;have xl:=H.len;refine uM.walk (ay.box λb L V O f1=>ay.ld O (uy (H.on f1) x ag λM v c2 o2 G f2=>⟨_,_,_,rfl,?_⟩));have F:=f1.tt f2;have z1:=f1.1;rw[G9 H x,O4 H x]at o2;rw[G9 H x];have ol:(kP s.L x).length<=s.L.length:=cr _ _;have kl:((kP s.L x).map (λz=>(z.num:Int))).length=(kP s.L x).length:=aF _;have J:uO M X v (kP s.L x).length c2 ((kP s.L x).map (λz=>(z.num:Int))):=⟨o2,kl.symm,λy q Q=>by
  have L:=G y q;have:=H.Dz y ((H.mm y).1 Q);omega⟩
 have T: ∀(s:CF) k,Small s->Small (mL s k):=λs k h=>⟨(h.rem k).n,(h.rem k).l,(h.rem k).e1,(h.rem k).e2⟩
 refine⟨λu g=> ∃(i:Nat)(a:Ft),u=(i:Int)/\i<=(kP s.L x).length/\Ct g t a ((((kP s.L x).map (λz=>(z.num:Int))).take i).foldl mL s)/\bm X h a g/\uO g a v (kP s.L x).length c2 ((kP s.L x).map (λz=>(z.num:Int))),λu _=>(kP s.L x).length - u.toNat,⟨0,X,rfl,bG _,D.on F,bm.gr F,J⟩,?_⟩;rintro _ g ⟨i,a,rfl,Z,d,C,N⟩;have U:=mM T (((kP s.L x).map (λz=>(z.num:Int))).take i) _ S;by_cases a':i<(kP s.L x).length
 .rw[fK];have j:((kP s.L x).map (λz=>(z.num:Int)))[i]? =some (((kP s.L x).map (λz=>(z.num:Int)))[i]' ag):=aj _;generalize ((kP s.L x).map (λz=>(z.num:Int)))[i]' ag=k at j;refine N.at j (nL d U k λW K E A=>⟨rfl,E.R9 ?_ λY I B=> ?_⟩)
  .show((((kP s.L x).map (λz=>(z.num:Int))).take i).foldl mL s).gone<=100000;rw[BO,bB];omega
  .rw[bD ag ag];refine⟨⟨i+1,K,ag,ag,?_,C.trans (A.trans B),(N.step A).step B⟩,by show(kP s.L x).length - Int.toNat ((i:Int)+1)<(kP s.L x).length - i;omega⟩;rw[sI j];exact I
 .rw[ae (by simp;omega)];obtain rfl:i=(kP s.L x).length:=ag
  rw[bJ ag]at d;exact hk g a v c2 d C N (λy q=>bY (G y q))
abbrev Na:Value:=.agg #[.int .i64 0,.bool false,.int .u64 0,.int .u64 0,.string ⟨#[]⟩,.string ⟨#[]⟩,.slice none 0 0,.int .u64 0,.int .i64 0,.int .u64 0]
abbrev Cp.val(z:Cp)(p:cy)(c:Nat):Value:=.agg #[.int .i64 (z.num:Int),.bool z.e.ky,.int .u64 z.e.node,.int .u64 z.e.gk,.string z.e.host,.string z.e.jB,.slice p z.d.length c,.int .u64 (z.cf:Int),.int .i64 z.ses,.int .u64 (z.dl:Int)]
def sJ(ses:Int)(dl:Nat):Prop:=1<=ses/\ses<=1099511627776/\dl<=1099511627776
def kZ(L:List Cp)(x:Ev):Option Cp:=(kP L x).find? (λz=>decide (z.ses=0))
def qB(s:CF)(z:Cp)(ses:Int)(dl:Nat):CF:= { s with L:=nN s.L z.num ses dl,E2:=zx s.E2 (z.num:Int) (dl:Int) }
theorem Hc(hk:R (.bool (decide (1<=k/\k<=1099511627776))) h):Cl 192 #[.I k] h R:=by
 refine vV.walk ?_;by_cases q:1<=k
 .have q':k≥1:=q;simp only[q',bC,bj];simp only[q,true_and]at hk;exact hk
 .have q': ¬k≥1:=q;simp only[q',bp,au,aM];simp only[q,false_and,bp]at hk;exact hk
theorem Km(H:Ct h t X s)(sm:Small s)(hb: ∀z∈s.L,1<=z.num/\z.num<s.next/\z.d.length<=600)(x:Ev)(ses:Int)(dl:Nat)(I':k=(dl:Int))(k1: ¬sJ ses dl->gL h R (.tuple #[Na,.I 1]))(k2:sJ ses dl->kZ s.L x=none->gL h R (.tuple #[Na,.I 4]))(k3:sJ ses dl->∀z,kZ s.L x=some z->∀h' N p' c',Ct h' t N (qB s z ses dl)->bm X h N h'->Row h' p' (bc z.d)->z.d.length<=c'->(∀y,aR p' y->h.size<=y/\¬(N.M y\/N.D y))->R (.tuple #[({ z with ses:=ses,dl:=dl } :Cp).val p' c',.I 0]) h'):
  Cl 156 #[.P t 0,kz x,.I ses,.U k] h R:=by
 subst I';obtain⟨m,xs,a1,r,a2,w,o,H⟩:=H;have sn:=sm.n;have sl:=sm.l;have se:=sm.e2;have xl:=H.len;refine sF.walk (ay.box λb h1 e1 T f1=>aN.box λB J e2 b' f2=> ?_);have z1:=aD T;have z2:=aD b';have f12:=f1.tt f2;have T:=f2.get T id;refine fI (H.on f12) ⟨_,rfl,?_⟩;rw[dc];have Wy:=f1.1;have fin: ∀g (e:Int),Fr No J g->(gL h R (.tuple #[Na,.I e]))->aN.ST g (AA B 0) 0 false 0 0 fU fU none 0 0 0 0 0 λO=>aN.LD O (AA B 0) λM' N' O' P' Q' R' U' T' S' V' W' X'=>
   R (.tuple #[.agg #[.I M',.bool N',.U O',.U P',.string Q',.string R',.slice U' T' S',.U V',.I W',.U X'],.I e]) O:=λg e fg hk=>
  aN.set (fg.get b' id) λO a2 s2 o2=>aN.ld a2 (hk O ((f12.tt fg).fresh (S:=λy=>y=B) ⟨ag,λy _ A=>o2 y A⟩ (λy e=>ag)))
 refine aG.of λw' hJ=>Hc ⟨_,rfl,?_⟩
 have bad: ¬sJ ses dl->w' true J:=λA=>by
  subst hJ;simp only[bj];exact fin J 1 (Fr.refl _ _) (k1 A)
 by_cases q1:1<=ses/\ses<=1099511627776
 .rw[av q1,dc];by_cases q2:(dl:Int)>1099511627776
  .rw[av q2];exact bad (λhm=>bY hm.2.2)
  .rw[az q2];clear bad;subst hJ;simp only[au,aM];have hm:sJ ses dl:=⟨q1.1,q1.2,ag⟩;refine ay.ld T (uy (H.on f12) x ag λD p7 c7 o7 g7 f7=>⟨_,_,_,rfl,?_⟩);have W:=f12.tt f7;have M:=H.on W;have m':=f7.get b' id;have hF:(xs.filter (λy=>decide (y.e=x))).map CV.abs=kP s.L x:=by unfold kP;rw[<-H.abs,du];rfl
   generalize o':xs.filter (λy=>decide (y.e=x))=q at o7 hF;have nl:(ka q).length=q.length:=by unfold ka;rw[aF]
   have fl:q.length<=xs.length:=by rw[<-o'];exact cr _ _
   refine⟨λu g=>g=D/\∃i:Nat,u=(i:Int)/\i<=q.length/\∀j y,j<i->q[j]? =some y->y.ses≠0,λu _=>q.length - u.toNat,⟨rfl,0,rfl,bG _,λj y E=>ag⟩,?_⟩;rintro _ D ⟨rfl,i,rfl,hi,a'⟩;by_cases n':i<q.length
   .rw[fK];have d:q[i]? =some q[i]:=aj n';generalize q[i]=y at d;have K:y∈xs:=by
     have:=bn d;rw[<-o']at this;exact(ba.1 this).1
    obtain⟨ab,ao,rfl⟩:=o7.addr ag;have cc:=o7.cell (j:=i) (v:=ga (y.num:Int)) (by rw[aK];unfold ka;rw[aK,d];rfl);have L7:=look M K;have ca:=M.E6 y K;simp only[aI,ct];refine⟨ag,aw.2 ⟨_,cc,_,ar M.cT,_,L7,aw.2 ⟨_,ar ca,?_⟩⟩⟩;by_cases U:y.ses=0
    .rw[af (cA U)];have K':kZ s.L x=some y.abs:=by
      unfold kZ;rw[<-hF,List.find?_map];have:q.find? ((λz:Cp=>decide (z.ses=0)) ∘ CV.abs)=some y:=by
       rw[fa];refine⟨by simp[CV.abs,U],i,n',(aB.1 d).2,λj E=> ?_⟩;have L:=a' j (q[j]' ag) E (aj ag);have L':decide ((q[j]' ag).abs.ses=0)=false:=az L;show(!decide ((q[j]' ag).abs.ses=0))=true;rw[L'];rfl
      rw[this];rfl
     have d':=hb y.abs (by rw[<-H.abs];exact bx K);have Wz:1<=y.num:=d'.1;have WA:y.num<s.next:=d'.2.1;have WB:y.v.b.length<=600:=d'.2.2;refine aw.2 (M.BM (ses:=ses) (dl:=dl) K λUw Y Z'=>⟨_,ar Y.cT,?_⟩);have J':may (y.num:Int) (dl:Int)=true:=lH.2 ⟨ag,ag,ag⟩;refine bW.GJ Y.FB (by show s.E2.length<_;omega) (y.num:Int) (dl:Int) ag (λ_ j' WC v' E' f11=>⟨_,rfl,?_⟩) (λhx=>absurd J' (by rw[hx];simp));obtain⟨C,UG,Z,TC,_⟩:=Y.G1 (s':=qB s y.abs ses dl) v' E' f11 rfl rfl rfl ⟨rfl,rfl,rfl,rfl⟩;have q':({ y with ses:=ses,dl:=dl } :CV)∈xs.map (λz=>if z.num=y.num then({ y with ses:=ses,dl:=dl } :CV)else z):=bh.2 ⟨y,K,af rfl⟩;have i':=Z.E6 _ q';have D':=Z.C8 _ q';refine aw.2 (aN.ld i' (aN.new λG k' WD l' f13=>aw.2 ⟨_,_,_,ar (f13.get i' id),gF ((D'.row).frame f13 cb) rfl (by show y.v.b.length<=_;omega) λV g' F' t' f14 I=>⟨_,_,_,rfl,?_⟩⟩));have rh:=Z'.trans TC;have WE:D.size<=j'.size:=rh.fr.1;have WG:=f13.1;refine bw (f14.get l' id) bP λP B' WH e'=> ?_
     have G':aN.at P G (y.num:Int) y.e.ky y.e.node y.e.gk y.e.host y.e.jB V y.v.b.length g' (y.cf:Int) ses (dl:Int):=B';refine aN.ld G' ?_;have nM: ∀y,y<D.size->h.size<=y->¬C.M y:=λy y1 y2 hm=>by
      rcases rh.gI y hm with h3|h3
      .have:=H.Dz y ((H.mm y).1 h3);omega
      .omega
     have Rl:B<D.size:=aD m';have A': ¬X.M B:=λhm=>by have:=H.Dz B ((H.mm B).1 hm);omega
     have H':aN.at P B 0 false 0 0 ⟨#[]⟩ ⟨#[]⟩ none 0 0 0 0 0:=by
      have h3:=rh.fr.get m' A';have h4:=(f13.tt f14).get h3 id;have:B≠G:=ag
      unfold aN.at;rw[e' B this];exact h4
     refine aN.set H' λQ C' WI u'=>aN.ld C' ?_
     have VB: ∀y,aR V y->k'.size<=y:=I;have fA:Fr (λy=>y=G) F' P:=⟨ag,λy _ A=>e' y A⟩;have fB:Fr (λy=>y=B) P Q:=⟨ag,λy _ A=>u' y A⟩;have VC:G<k'.size:=aD l';have Y':Row Q V (bc y.v.b):=((t'.iw).frame fA (λa ea hm=>by have:=I a.block ⟨a,ea,rfl⟩;have hm:a.block=G:=hm;omega)).frame fB (λa ea hm=>by have:=I a.block ⟨a,ea,rfl⟩;have hm:a.block=B:=hm;omega);have f':Ct j' t C (qB s y.abs ses dl):=⟨_,_,_,_,_,_,_,Z⟩;have r':=λy (d:C.M y\/C.D y)=>f'.lt y d
     have x':=f'.on (f13.tt f14);have y':=x'.frame fA (λy d e=>bY (r' y d));have d2: ¬(C.M B\/C.D B):=λhm=>by
      rcases hm with hm|hm
      .exact nM B Rl ag hm
      .rcases rh.iF B hm with h3|h3
       .have:=(H.dd B h3).2;omega
       .omega
     have z':=y'.frame fB (λy d e=>d2 (e▸d));have F:=bm.no W rh;have VD:bm X h C Q:=by
      refine⟨⟨hY f14.1 F.fr.1,λy d A=> ?_⟩,F.gI,F.iF,F.lE⟩;have:=F.fr.1;rw[u' y ag,e' y ag,(f13.tt f14).2 y ag id];exact F.fr.2 y d A
     exact k3 hm y.abs K' Q C V g' z' VD Y' t'.le (λy d=>⟨hY (I y d) W.1,λhx=>hY (r' y hx) (I y d)⟩)
    .rw[ae (cA U),bD ag ag];refine⟨⟨by first|trivial|rfl,i+1,ag,ag,λj z E L=> ?_⟩,by show q.length - Int.toNat ((i:Int)+1)<q.length - i;omega⟩;by_cases ej:j=i
     .subst ej;rw[d]at L;cases L;exact U
     .exact a' j z ag L
   .rw[ae (by simp;omega)];refine fin D 4 f7 (k2 hm ?_);unfold kZ;rw[<-hF,List.find?_map];have:q.find? ((λz:Cp=>decide (z.ses=0)) ∘ CV.abs)=none:=by
     rw[List.find?_eq_none];intro y d;obtain⟨j,E⟩:=bE d;have:=a' j y (bY ((aB.1 E).1)) E;have J:decide (y.abs.ses=0)=false:=az this;show¬(decide (y.abs.ses=0)=true);rw[J];decide
    rw[this];rfl
 .rw[az q1,fK];exact bad (λhm=>q1 ⟨hm.1,hm.2.1⟩)

end fM
end
section
open Go.jU
namespace fM
open iW bW kK
variable {h:ai} {t:Nat} {X:Ft} {s s':CF} {n:Nat} {now:Int}
variable {z:Cp} {L:List Cp} {k a ses:Int} {e:E} {b:Nat} {K:List Int}
structure Ord (s:CF):Prop where
 nd:(s.L.map Cp.num).Nodup
 o1:iQ s.E1
 o2:iQ s.E2
 n1:(keys s.E1).Nodup
 n2:(keys s.E2).Nodup
theorem Ct.ord(H:Ct h t X s):Ord s:=by
 obtain⟨m,xs,a1,S,a2,c,l,H⟩:=H;refine⟨?_,H.G0.sorted,H.FB.sorted,H.G0.nodup,H.FB.nodup⟩;rw[<-H.abs,dE];exact H.so.imp (λh=>Nat.ne_of_lt h)
structure qU (s:CF):Prop where
 bd: ∀z∈s.L,1<=z.num/\z.num<s.next/\z.d.length<=600
 sp: ∀z∈s.L,0<=z.ses
 e1: ∀e,e∈s.E1↔ ∃z∈s.L,e=((z.num:Int),(z.cf:Int))
 e2: ∀e,e∈s.E2↔ ∃z∈s.L,z.ses≠0/\e=((z.num:Int),(z.dl:Int))
 uo:s.next=1+s.L.length+s.fQ+s.over+s.gone
theorem Ord.inj(O:Ord s){y:Cp}(m:z∈s.L)(l:y∈s.L)(e:z.num=y.num):z=y:=by
 obtain⟨i,H⟩:=bE m;obtain⟨j,c⟩:=bE l;have o:=(aB.1 H).1;by_cases d:i=j
 .subst d;rw[H]at c;exact aX c
 .exfalso;have f:(s.L.map Cp.num)[i]? =some z.num:=by rw[aK,H];rfl
  have g:(s.L.map Cp.num)[j]? =some y.num:=by rw[aK,c];rfl
  have:i=j:=(eg (by rw[aF];exact o) O.nd).1 (f.trans ((bU some e).trans g.symm));exact d this
theorem qV{L:List E}:e∈fv L k↔e∈L/\e.1≠k:=by unfold fv;simp[ba]
theorem E8{L:List E}{v:Int}:e∈zx L k v↔e=(k,v)\/(e∈L/\e.1≠k):=by
 unfold zx;rw[(lF _ _).mem_iff,bH,qV]
theorem mh :z∈AL L k↔z∈L/\(z.num:Int)≠k:=by unfold AL;simp[ba]
theorem mi :z∈nN L n a b↔ ∃y∈L,z=if y.num=n then { y with ses:=a,dl:=b } else y:=by
 unfold nN;rw[bh];exact⟨λ⟨y,H,c⟩=>⟨y,H,c.symm⟩,λ⟨y,H,c⟩=>⟨y,H,c.symm⟩⟩
theorem Nb(L:List Cp)(n:Nat)(a:Int)(b:Nat):(nN L n a b).length=L.length:=by unfold nN;rw[aF]
theorem uB: ∀{L:List Cp},(L.map Cp.num).Nodup->∀{z:Cp},z∈L->(AL L (z.num:Int)).length+1=L.length
 | [],_,z,hz=>by cases hz
 |y::l,nd,z,hz=>by
  rw[bX,eP]at nd;unfold AL;rw[ch];rcases bH.1 hz with rfl|hz
  .rw[ae bP,cj.2 (λx H=> ?_),bf];have:x.num≠z.num:=λe=>nd.1 (by rw[<-e];exact bx H)
   simp;omega
  .have c:y.num≠z.num:=λe=>nd.1 (by rw[e];exact bx hz)
   rw[af (by simp;omega),bf,bf];have:=uB nd.2 hz;unfold AL at this;omega
theorem qU.add(ok:qU s)(x:Ev)(d:cD)(cf:Nat):qU (jn s x d cf):=by
 unfold jn;by_cases H:iH s x d cf=0
 .rw[af H];have hd:d.length<=600:=by
   unfold iH at H;split at H
   .rename_i f;unfold xB at f;simp only[aT,aV]at f;exact f.2.2.2.1
   .cases H
  refine⟨λz hz=> ?_,λz hz=> ?_,λe=> ?_,λe=> ?_,?_⟩
  .rcases bM.1 hz with hz|hz
   .have:=ok.bd z hz;exact⟨this.1,Nat.lt_succ_of_lt this.2.1,this.2.2⟩
   .obtain rfl:=bN.1 hz;exact⟨by have:=ok.uo;show 1<=s.next;omega,Nat.lt_succ_self _,hd⟩
  .rcases bM.1 hz with hz|hz
   .exact ok.sp z hz
   .obtain rfl:=bN.1 hz;exact eJ _
  .show e∈zx s.E1 _ _↔ ∃z∈s.L++ [_],_;rw[E8,ok.e1];constructor
   .rintro(rfl|⟨⟨z,hz,rfl⟩,_⟩)
    .exact⟨_,bM.2 (.inr (bN.2 rfl)),rfl⟩
    .exact⟨z,bM.2 (.inl hz),rfl⟩
   .rintro⟨z,hz,rfl⟩;rcases bM.1 hz with hz|hz
    .exact .inr ⟨⟨z,hz,rfl⟩,by have:=(ok.bd z hz).2.1;show(z.num:Int)≠_;omega⟩
    .obtain rfl:=bN.1 hz;exact .inl rfl
  .show e∈s.E2↔ ∃z∈s.L++ [_],_;rw[ok.e2];constructor
   .rintro⟨z,hz,c⟩;exact⟨z,bM.2 (.inl hz),c⟩
   .rintro⟨z,hz,c⟩;rcases bM.1 hz with hz|hz
    .exact⟨z,hz,c⟩
    .obtain rfl:=bN.1 hz;exact absurd rfl c.1
  .have:=ok.uo;show s.next+1=1+(s.L++ [_]).length+s.fQ+s.over+s.gone;rw[aA,dp];omega
 .rw[ae H];exact ok
theorem qU.rem(ok:qU s)(O:Ord s)(l:z∈s.L)(c:s'.L=AL s.L (z.num:Int))(i:s'.E1=fv s.E1 (z.num:Int))(j:s'.E2=fv s.E2 (z.num:Int))(g:s'.next=s.next)(m:s'.fQ+s'.over+s'.gone=s.fQ+s.over+s.gone+1):qU s':=by
 refine⟨λy H=> ?_,λy H=> ?_,λe=> ?_,λe=> ?_,?_⟩
 .rw[c,mh]at H;rw[g];exact ok.bd y H.1
 .rw[c,mh]at H;exact ok.sp y H.1
 .rw[i,qV,ok.e1,c];constructor
  .rintro⟨⟨y,H,rfl⟩,d⟩;exact⟨y,mh.2 ⟨H,d⟩,rfl⟩
  .rintro⟨y,H,rfl⟩;have:=mh.1 H;exact⟨⟨y,this.1,rfl⟩,this.2⟩
 .rw[j,qV,ok.e2,c];constructor
  .rintro⟨⟨y,H,f,rfl⟩,d⟩;exact⟨y,mh.2 ⟨H,d⟩,f,rfl⟩
  .rintro⟨y,H,f,rfl⟩;have:=mh.1 H;exact⟨⟨y,this.1,f,rfl⟩,this.2⟩
 .have:=uB O.nd l;have:=ok.uo;rw[g,c];omega
theorem E9(h:kf L k ses=0): ∃z∈L,(z.num:Int)=k/\z.ses=ses/\ses≠0:=by
 unfold kf at h;cases c:xA L k with
 |none=>rw[c]at h;cases h
 |some z=>
  rw[c]at h;dsimp only at h;split at h
  .cases h
  .rename_i H;obtain⟨d,f⟩:=vZ c;refine⟨z,d,f,?_,?_⟩<;>(simp only[not_or,Decidable.not_not]at H)
   .exact H.2
   .rw[<-H.2];exact H.1
theorem qU.TD(ok:qU s)(O:Ord s)(k ses:Int):qU (pq s k ses):=by
 unfold pq;by_cases H:kf s.L k ses=0
 .rw[af H];obtain⟨z,c,rfl,_,_⟩:=E9 H;exact ok.rem O c rfl rfl rfl rfl (by show s.fQ+1+s.over+s.gone=_;omega)
 .rw[ae H];exact ok
theorem qU.set(ok:qU s)(O:Ord s)(p:z∈s.L)(o:0<=a)(f:s'.L=nN s.L z.num a b)(i:s'.E1=s.E1)(j: ∀e,e∈s'.E2↔(a≠0/\e=((z.num:Int),(b:Int)))\/(e∈s.E2/\e.1≠(z.num:Int)))(g:s'.next=s.next)(q:s'.fQ+s'.over+s'.gone=s.fQ+s.over+s.gone):qU s':=by
 refine⟨λy H=> ?_,λy H=> ?_,λe=> ?_,λe=> ?_,?_⟩
 .rw[f,mi]at H;obtain⟨u,c,rfl⟩:=H;rw[g];have:=ok.bd u c;split<;>exact this
 .rw[f,mi]at H;obtain⟨u,c,rfl⟩:=H;split
  .exact o
  .exact ok.sp u c
 .rw[i,ok.e1,f];constructor
  .rintro⟨y,H,rfl⟩;refine⟨_,mi.2 ⟨y,H,rfl⟩,?_⟩;split<;>rfl
  .rintro⟨y,H,rfl⟩;obtain⟨u,c,rfl⟩:=mi.1 H;refine⟨u,c,?_⟩;split<;>rfl
 .rw[j,ok.e2,f];constructor
  .rintro(⟨l,rfl⟩|⟨⟨y,H,d,rfl⟩,m⟩)
   .refine⟨_,mi.2 ⟨z,p,rfl⟩,?_⟩;rw[af rfl];exact⟨l,rfl⟩
   .refine⟨_,mi.2 ⟨y,H,rfl⟩,?_⟩;rw[ae (λe=>m (by rw[e]))];exact⟨d,rfl⟩
  .rintro⟨y,H,d,rfl⟩;obtain⟨u,c,rfl⟩:=mi.1 H;by_cases e:u.num=z.num
   .rw[af e]at d⊢;exact .inl ⟨d,by rw[<-e]⟩
   .rw[ae e]at d⊢;exact .inr ⟨⟨u,c,d,rfl⟩,by show(u.num:Int)≠_;omega⟩
 .have:=ok.uo;rw[g,f,Nb];omega
theorem qU.rel(ok:qU s)(O:Ord s)(k ses:Int):qU (zT s k ses):=by
 unfold zT;by_cases H:kf s.L k ses=0
 .rw[af H];obtain⟨z,c,rfl,_,_⟩:=E9 H;rw[aI];refine ok.set O c (eJ 0) rfl rfl (λe=> ?_) rfl rfl;show e∈fv _ _↔_;rw[qV];simp
 .rw[ae H];exact ok
theorem Hd{x:Ev}(h:kZ L x=some z):z∈L/\z.e=x/\z.ses=0:=by
 unfold kZ kP at h;have H:=List.mem_of_find?_eq_some h;have c:=List.find?_some h;rw[ba]at H;exact⟨H.1,cA H.2,by simpa using c⟩
theorem qU.BM(ok:qU s)(O:Ord s)(c:z∈s.L){dl:Nat}(H:sJ ses dl):qU (qB s z ses dl):=by
 have d:=H.1;refine ok.set O c ag rfl rfl (λe=> ?_) rfl rfl;show e∈zx _ _ _↔_;rw[E8];have:ses≠0:=ag
 simp[this]
theorem fS: ∀{L:List E},iQ L->bW.due L now=L.filter (iY now)/\bW.rest L now=L.filter (λe=> !iY now e)
 | [],_=>⟨rfl,rfl⟩
 |e::r,g=>by
  have f:=dF.1 g;obtain⟨i1,i2⟩:=fS (L:=r) f.2;unfold bW.due at i1⊢;unfold bW.rest at i2⊢;by_cases d:iY now e=true
  .rw[List.takeWhile_cons,List.dropWhile_cons,ch,ch,d];simp only[bj,cN,au,aM];rw[i1,i2];exact⟨rfl,rfl⟩
  .have c:iY now e=false:=by simpa using d
   have all: ∀x∈r,iY now x=false:=by
    intro x H;have h1:=f.1 x H;unfold iY at c⊢;have i:=fz c;apply az
    rcases h1 with h1|h1<;>omega
   rw[List.takeWhile_cons,List.dropWhile_cons,ch,ch,c];simp only[au,aM,dK,bj];refine⟨?_,?_⟩
   .symm;rw[List.filter_eq_nil_iff];intro x H;rw[all x H];simp
   .congr 1;symm;rw[cj];intro x H;rw[all x H];rfl
def sK(L:List Cp)(K:List Int):List Cp:=L.filter (λz=> !decide ((z.num:Int)∈K))
def nO(L:List E)(K:List Int):List E:=L.filter (λe=> !decide (e.1∈K))
theorem zV(L:List Cp):sK L []=L:=by unfold sK;exact cj.2 (λ_ _=>bP)
theorem qC(L:List E):nO L []=L:=by unfold nO;exact cj.2 (λ_ _=>bP)
theorem wc(L:List Cp)(k:Int)(K:List Int):sK (AL L k) K=sK L (k::K):=by
 unfold sK AL;rw[List.filter_filter];apply dR
 intro x _;by_cases H:(x.num:Int)=k
 .simp[H]
 .by_cases c:(x.num:Int)∈K<;>simp[H,c]
theorem nP(L:List E)(k:Int)(K:List Int):nO (fv L k) K=nO L (k::K):=by
 unfold nO fv;rw[List.filter_filter];apply dR
 intro x _;by_cases H:x.1=k
 .simp[H]
 .by_cases c:x.1∈K<;>simp[H,c]
theorem BR: ∀(K:List Int)(s:CF),K.foldl jE s= { s with L:=sK s.L K,E1:=nO s.E1 K,E2:=nO s.E2 K,over:=s.over+K.length }
 | [],s=>by rw[zV,qC,qC];rfl
 |k::K,s=>by
  rw[List.foldl_cons,BR K];unfold jE Dd;dsimp only;rw[wc,nP,nP,bf];congr 1;omega
theorem wg: ∀(K:List Int)(s:CF),K.foldl mL s= { s with L:=sK s.L K,E1:=nO s.E1 K,E2:=nO s.E2 K,gone:=s.gone+K.length }
 | [],s=>by rw[zV,qC,qC];rfl
 |k::K,s=>by
  rw[List.foldl_cons,wg K];unfold mL Dd;dsimp only;rw[wc,nP,nP,bf];congr 1;omega
def mj(L:List Cp)(K:List Int):List Cp:=L.map (λz=>if(z.num:Int)∈K then { z with ses:=0,dl:=0 } else z)
theorem BT: ∀(K:List Int)(s:CF),(∀k∈K,0<=k)->K.foldl (λs k=>oW s k.toNat) s= { s with L:=mj s.L K,E2:=nO s.E2 K }
 | [],s,_=>by
  rw[qC];have:mj s.L []=s.L:=by unfold mj;simp
  rw[this];rfl
 |k::K,s,f=>by
  rw[List.foldl_cons,BT K _ (λj g=>f j (bZ _ g))];have hk:=f k bP;unfold oW;dsimp only;have e:((k.toNat:Nat):Int)=k:=ag
  rw[e,nP];have:mj (nN s.L k.toNat 0 0) K=mj s.L (k::K):=by
   unfold mj nN;rw[dE];apply eh
   intro x _;show(λz:Cp=>if(z.num:Int)∈K then({ z with ses:=0,dl:=0 } :Cp)else z) (if x.num=k.toNat then({ x with ses:=0,dl:=0 } :Cp)else x)=_;by_cases d:x.num=k.toNat
   .have c:(x.num:Int)=k:=ag
    rw[af d,af (show(x.num:Int)∈k::K by rw[c];simp)];dsimp only;split<;>rfl
   .have c:(x.num:Int)≠k:=ag
    rw[ae d];dsimp only;by_cases H:(x.num:Int)∈K
    .rw[af H,af (bZ _ H)]
    .rw[ae H,ae (by simp[c,H])]
  rw[this]
theorem Im: ∀(K:List Int)(L:List Cp),(L.map Cp.num).Nodup->K.Nodup->(∀k∈K,∃z∈L,(z.num:Int)=k)->(sK L K).length+K.length=L.length
 | [],L,_,_,_=>by rw[zV];rfl
 |k::K,L,nd,f,hk=>by
  obtain⟨z,d,rfl⟩:=hk k bP;rw[<-wc,bf];have g:=uB nd d;have N:=eP.1 f;have i:=Im K (AL L (z.num:Int)) (eZ (fx _ cJ) nd) N.2 (λj H=>by
   obtain⟨y,c,e⟩:=hk j (bZ _ H);exact⟨y,mh.2 ⟨c,λe2=>N.1 (by rw[<-e2,e];exact H)⟩,e⟩)
  omega
theorem ml :z∈sK L K↔z∈L/\(z.num:Int)∉K:=by unfold sK;simp[ba]
theorem zW{L:List E}:e∈nO L K↔e∈L/\e.1∉K:=by unfold nO;simp[ba]
theorem Kn :z∈mj L K↔ ∃y∈L,z=if(y.num:Int)∈K then { y with ses:=0,dl:=0 } else y:=by
 unfold mj;rw[bh];exact⟨λ⟨y,H,c⟩=>⟨y,H,c.symm⟩,λ⟨y,H,c⟩=>⟨y,H,c.symm⟩⟩
theorem Nc(O:Ord s)(x:Ev):((kP s.L x).map (λz=>(z.num:Int))).Nodup:=by
 have:((kP s.L x).map Cp.num).Nodup:=eZ (fx _ cJ) O.nd;have e:(kP s.L x).map (λz=>(z.num:Int))=((kP s.L x).map Cp.num).map (λn:Nat=>(n:Int)):=by rw[dE];rfl
 rw[e];exact List.Pairwise.map _ (λa b h=>ag) this
theorem qU.outs(ok:qU s)(O:Ord s)(N:K.Nodup)(hk: ∀k∈K,∃z∈s.L,(z.num:Int)=k)(c:s'.L=sK s.L K)(i:s'.E1=nO s.E1 K)(j:s'.E2=nO s.E2 K)(g:s'.next=s.next)(l:s'.fQ+s'.over+s'.gone=s.fQ+s.over+s.gone+K.length):qU s':=by
 refine⟨λy H=> ?_,λy H=> ?_,λe=> ?_,λe=> ?_,?_⟩
 .rw[c,ml]at H;rw[g];exact ok.bd y H.1
 .rw[c,ml]at H;exact ok.sp y H.1
 .rw[i,zW,ok.e1,c];constructor
  .rintro⟨⟨y,H,rfl⟩,d⟩;exact⟨y,ml.2 ⟨H,d⟩,rfl⟩
  .rintro⟨y,H,rfl⟩;have:=ml.1 H;exact⟨⟨y,this.1,rfl⟩,this.2⟩
 .rw[j,zW,ok.e2,c];constructor
  .rintro⟨⟨y,H,f,rfl⟩,d⟩;exact⟨y,ml.2 ⟨H,d⟩,f,rfl⟩
  .rintro⟨y,H,f,rfl⟩;have:=ml.1 H;exact⟨⟨y,this.1,f,rfl⟩,this.2⟩
 .have:=Im K s.L O.nd N hk;have:=ok.uo;rw[g,c];omega
theorem qU.drop(ok:qU s)(O:Ord s)(x:Ev):qU (uQ s x):=by
 unfold uQ;rw[wg];refine ok.outs O (Nc O x) (λk hk=> ?_) rfl rfl rfl rfl (by show s.fQ+s.over+(s.gone+_)=_;omega);obtain⟨z,H,e⟩:=bh.1 hk;exact⟨z,(ba.1 H).1,e⟩
theorem Df(O:Ord s):e∈bW.due s.E1 now↔e∈s.E1/\e.2<=now:=by
 rw[(fS O.o1).1,ba];unfold iY;simp
theorem Ko(O:Ord s)(now:Int):(keys (bW.due s.E1 now)).Nodup:=by
 unfold keys;exact eZ (fx _ (List.takeWhile_sublist _)) O.n1
theorem Dg(ok:qU s)(O:Ord s)(H:z∈s.L):(z.num:Int)∈keys (bW.due s.E1 now)↔(z.cf:Int)<=now:=by
 unfold keys;rw[bh];constructor
 .rintro⟨e,f,e1⟩;obtain⟨c,d⟩:=(Df O).1 f;obtain⟨y,g,rfl⟩:=(ok.e1 e).1 c;obtain rfl:=O.inj g H (Int.ofNat.inj e1);exact d
 .intro h;exact⟨(z.num,z.cf),(Df O).2 ⟨(ok.e1 _).2 ⟨z,H,rfl⟩,h⟩,rfl⟩
theorem QF(ok:qU s)(O:Ord s)(hk:k∈keys (bW.due s.E1 now)): ∃z∈s.L,(z.num:Int)=k:=by
 unfold keys at hk;obtain⟨e,H,rfl⟩:=bh.1 hk;obtain⟨z,c,rfl⟩:=(ok.e1 e).1 ((Df O).1 H).1;exact⟨z,c,rfl⟩
theorem Kq(O:Ord s):nO (bW.rest s.E1 now) (keys (bW.due s.E1 now))=nO s.E1 (keys (bW.due s.E1 now)):=by
 rw[(fS O.o1).1,(fS O.o1).2];unfold nO keys;rw[List.filter_filter];apply dR
 intro e H;by_cases hd:iY now e=true
 .have:e.1∈(s.E1.filter (iY now)).map (·.1):=bx (ba.2 ⟨H,hd⟩);simp only[this,bC,cN,eY]
 .simp[hd]
def kL(now:Int)(z:Cp):Cp:=if z.ses≠0/\(z.dl:Int)<=now then { z with ses:=0,dl:=0 } else z
def Nd(s:CF)(now:Int):CF:= { L:=sK s.L (keys (bW.due s.E1 now)),next:=s.next,fQ:=s.fQ,over:=s.over+(keys (bW.due s.E1 now)).length,gone:=s.gone,E1:=nO s.E1 (keys (bW.due s.E1 now)),E2:=nO s.E2 (keys (bW.due s.E1 now)) }
def Nf(s1:CF)(now:Int):CF:=(keys (bW.due s1.E2 now)).foldl (λs k=>oW s k.toNat) { s1 with E2:=bW.rest s1.E2 now }
theorem Ng(O:Ord s):jo s now=Nf (Nd s now) now:=by
 unfold jo Nf Nd;dsimp only;rw[BR];dsimp only;rw[Kq O]
theorem Kr(ok:qU s)(O:Ord s)(now:Int):qU (jo s now)/\(∀z,z∈(jo s now).L↔ ∃y∈s.L,now<(y.cf:Int)/\z=kL now y)/\(jo s now).next=s.next/\(jo s now).E1.length<=s.E1.length/\(jo s now).E2.length<=s.E2.length/\(jo s now).L=(s.L.filter (λy=>decide (now<(y.cf:Int)))).map (kL now)/\(jo s now).fQ=s.fQ/\(jo s now).over=s.over+(bW.due s.E1 now).length/\(jo s now).gone=s.gone:=by
 rw[Ng O];generalize g:Nd s now=s1;have o:qU s1:=by
  subst g;exact ok.outs O (Ko O now) (λk hk=>QF ok O hk) rfl rfl rfl rfl (by show s.fQ+(s.over+_)+s.gone=_;omega)
 have j:Ord s1:=by
  subst g;exact⟨eZ (fx _ cJ) O.nd,fE _ O.o1,fE _ O.o2,eZ (fx _ cJ) O.n1,eZ (fx _ cJ) O.n2⟩
 have M: ∀z,z∈s1.L↔z∈s.L/\now<(z.cf:Int):=λz=>by
  subst g;show z∈sK _ _↔_;rw[ml];constructor
  .rintro⟨d,i⟩;exact⟨d,Int.not_le.1 (λe=>i ((Dg ok O d).2 e))⟩
  .rintro⟨d,i⟩;exact⟨d,λe=>absurd ((Dg ok O d).1 e) (Int.not_le.2 i)⟩
 have n1:s1.next=s.next:=by subst g;rfl
 have l1:s1.E1.length<=s.E1.length:=by subst g;exact cr _ _
 have l2:s1.E2.length<=s.E2.length:=by subst g;exact cr _ _
 have c1:s1.fQ=s.fQ/\s1.over=s.over+(bW.due s.E1 now).length/\s1.gone=s.gone:=by subst g;exact⟨rfl,by show s.over+(keys _).length=_;unfold keys;rw[aF],rfl⟩
 have r:s1.L=s.L.filter (λy=>decide (now<(y.cf:Int))):=by
  subst g;show sK _ _=_;unfold sK;refine dR λz c=> ?_
  have:=Dg (now:=now) ok O c;by_cases hd:(z.cf:Int)<=now
  .rw[av (this.2 hd),az (Int.not_lt.2 hd)];rfl
  .rw[az (λe=>hd (this.1 e)),av (Int.not_le.1 hd)];rfl
 clear g;have l: ∀e,e∈bW.due s1.E2 now↔e∈s1.E2/\e.2<=now:=λe=>by
  rw[(fS j.o2).1,ba];unfold iY;simp
 have D: ∀z∈s1.L,((z.num:Int)∈keys (bW.due s1.E2 now)↔z.ses≠0/\(z.dl:Int)<=now):=λz c=>by
  unfold keys;rw[bh];constructor
  .rintro⟨e,p,e1⟩;obtain⟨d,i⟩:=(l e).1 p;obtain⟨y,H,f,rfl⟩:=(o.e2 e).1 d;obtain rfl:=j.inj H c (Int.ofNat.inj e1);exact⟨f,i⟩
  .rintro⟨d,i⟩;exact⟨(z.num,z.dl),(l _).2 ⟨(o.e2 _).2 ⟨z,c,d,rfl⟩,i⟩,rfl⟩
 have u: ∀k∈keys (bW.due s1.E2 now),0<=k:=λk hk=>by
  unfold keys at hk;obtain⟨e,p,rfl⟩:=bh.1 hk;obtain⟨z,c,_,rfl⟩:=(o.e2 e).1 ((l e).1 p).1;show(0:Int)<=(z.num:Int);omega
 unfold Nf;rw[BT _ _ u];have m: ∀z∈s1.L,(if(z.num:Int)∈keys (bW.due s1.E2 now)then({ z with ses:=0,dl:=0 } :Cp)else z)=kL now z:=λz c=>by
  unfold kL;by_cases hd:z.ses≠0/\(z.dl:Int)<=now
  .rw[af hd,af ((D z c).2 hd)]
  .rw[ae hd,ae (λe=>hd ((D z c).1 e))]
 have fm: ∀z,z∈mj s1.L (keys (bW.due s1.E2 now))↔ ∃y∈s1.L,z=kL now y:=λz=>by
  rw[Kn];constructor
  .rintro⟨y,H,rfl⟩;exact⟨y,H,m y H⟩
  .rintro⟨y,H,rfl⟩;exact⟨y,H,(m y H).symm⟩
 have F: ∀y,(kL now y).num=y.num:=λy=>by unfold kL;split<;>rfl
 have q: ∀y,(kL now y).cf=y.cf:=λy=>by unfold kL;split<;>rfl
 have v: ∀y,(kL now y).d=y.d:=λy=>by unfold kL;split<;>rfl
 refine⟨⟨λz c=> ?_,λz c=> ?_,λe=> ?_,λe=> ?_,?_⟩,λz=> ?_,n1,l1,?_,?_,c1⟩
 .obtain⟨y,H,rfl⟩:=(fm z).1 c;rw[F,v];exact o.bd y H
 .obtain⟨y,H,rfl⟩:=(fm z).1 c;unfold kL;split
  .exact eJ _
  .exact o.sp y H
 .show e∈s1.E1↔ ∃z∈mj _ _,_;rw[o.e1];constructor
  .rintro⟨y,H,rfl⟩;exact⟨_,(fm _).2 ⟨y,H,rfl⟩,by rw[F,q]⟩
  .rintro⟨z,c,rfl⟩;obtain⟨y,H,rfl⟩:=(fm z).1 c;exact⟨y,H,by rw[F,q]⟩
 .show e∈nO (bW.rest s1.E2 now) _↔ ∃z∈mj _ _,_;rw[zW,(fS j.o2).2,ba];constructor
  .rintro⟨⟨d,i⟩,w⟩;obtain⟨y,H,f,rfl⟩:=(o.e2 e).1 d;have hd: ¬(y.ses≠0/\(y.dl:Int)<=now):=λhd=>w ((D y H).2 hd)
   refine⟨_,(fm _).2 ⟨y,H,rfl⟩,?_⟩;unfold kL;rw[ae hd];exact⟨f,rfl⟩
  .rintro⟨z,c,f,rfl⟩;obtain⟨y,H,rfl⟩:=(fm z).1 c;unfold kL at f⊢;by_cases hd:y.ses≠0/\(y.dl:Int)<=now
   .rw[af hd]at f;exact absurd rfl f
   .rw[ae hd]at f⊢;refine⟨⟨(o.e2 _).2 ⟨y,H,f,rfl⟩,?_⟩,λhk=>hd ((D y H).1 hk)⟩;have: ¬(y.dl:Int)<=now:=λe=>hd ⟨f,e⟩
    unfold iY;simpa using this
 .have:=o.uo;show s1.next=1+(mj _ _).length+_+_+_;unfold mj;rw[aF];exact this
 .show z∈mj _ _↔_;rw[fm];constructor
  .rintro⟨y,H,rfl⟩;have:=(M y).1 H;exact⟨y,this.1,this.2,rfl⟩
  .rintro⟨y,H,x,rfl⟩;exact⟨y,(M y).2 ⟨H,x⟩,rfl⟩
 .refine cW (cr _ _) (cW (zU _ _) l2)
 .show mj _ _=_;rw[<-r];exact eh m

end fM
end
section
namespace iW
def Sd(x:Ev):cD:=
 if x=.zero then [100,116,110,58,110,111,110,101]
 else if x.ky=true then [105,112,110,58]++Lib.decDigits x.node.toNat++ [46]++Lib.decDigits x.gk.toNat
 else [100,116,110,58]++([47,47]++x.host.data.toList++ [47]++x.jB.data.toList)

end iW
end
section
open Go.fT Go.jU
namespace fM
open iW bW kK
variable {h h':ai} {R:fp} {t:Nat} {X:Ft} {s:CF} {m a1 a2:Nat} {xs:List CV} {S c:Nat→Prop} {i:Nat→Option Nat} {p:cy} {n:Nat}
structure PX (z:Cp):Prop where
 r:cV z.e=true
 v:0<=z.e.gk
 d:z.d.length<=600
 n:z.num<=1000000
 t:z.cf<=1099511627776
 s0:0<=z.ses
 s1:z.ses<=1099511627776
 l:z.dl<=1099511627776
abbrev Dh(y:CV):List Value:= [.int .i64 (y.num:Int),.bool y.e.ky,.int .u64 y.e.node,.int .u64 y.e.gk,.string y.e.host,.string y.e.jB,y.v.val,.int .u64 (y.cf:Int),.int .i64 y.ses,.int .u64 (y.dl:Int)]
theorem gM(y:CV):(Dh y).length=10:=rfl
theorem QG(y:CV): ∀v∈Dh y,fR v=true:=by
 intro v H;simp only[Dh,bH,List.not_mem_nil,or_false]at H;rcases H with rfl|rfl|rfl|rfl|rfl|rfl|rfl|rfl|rfl|rfl<;>rfl
theorem tA:oy Tryz.prog 242 114 10 112 (.agg #[.I 0,.bool false,.U 0,.U 0,.string ⟨#[]⟩,.string ⟨#[]⟩,.Z,.U 0,.I 0,.U 0]):=⟨dj,dj,rfl⟩
theorem uA:Tryz.prog.underlying 242=some (.slice 114):=dj
theorem Io(H:Ct h t X s)(sm:Small s)(hd: ∀z∈s.L,z.d.length<=600)(hk: ∀h' J c' (ys:List CV),fJ h' J ys.length c' 10 (ys.flatMap Dh)->ys.map CV.abs=s.L->(∀y∈ys,BV.ok h' (λz=>h.size<=z) y.v)->(∀y,aR J y->h.size<=y)->Fr No h h'->R (.slice J ys.length c') h'):Cl 160 #[.P t 0] h R:=by
 obtain⟨m,xs,a1,S,a2,c,i,H⟩:=H;have sl:=sm.l;have xl:=H.len;refine vX.walk (zS H ag λh1 p1 c1 o1 n1 f1=>⟨_,_,_,rfl,?_⟩);refine⟨λop I O q g=> ∃(k:Nat)(ys:List CV),q=(k:Int)/\k<=xs.length/\I=ys.length/\ys.length=k/\fJ g op I O 10 (ys.flatMap Dh)/\(∀y,aR op y->h1.size<=y)/\ys.map CV.abs=s.L.take k/\(∀y∈ys,BV.ok g (λz=>h1.size<=z) y.v)/\(∀y∈ys,∀z,aR y.v.p z->y.v.b≠ []->¬aR op z)/\Fr No h1 g,λ_ _ _ q _=>xs.length - q.toNat,
  ⟨0, [],rfl,ag,rfl,rfl,.nil rfl rfl rfl rfl,(λy ⟨a,e,_⟩=>by cases e),bP,(λy hy=>by cases hy),(λy hy=>by cases hy),Fr.refl _ _⟩,?_⟩
 rintro op I O _ g ⟨k,ys,rfl,g',rfl,j',o,D,A,b,M,F⟩;have G:=H.on (f1.tt F);by_cases b':k<xs.length
 .have q1:(k:Int)<(xs.length:Int):=ag
  simp only[q1,bC,bj,aI];have w:xs[k]? =some xs[k]:=aj b';generalize xs[k]=v at w;have L:s.L[k]? =some v.abs:=by rw[<-H.abs,aK,w];rfl
  have E:=bn w;have i':v.v.b.length<=600:=hd v.abs (bn L);have U:=o1.frame F cb;obtain⟨ab,f',rfl⟩:=U.addr ag;have cn:=U.cell (j:=k) (v:=ga (v.num:Int)) (by unfold ka;rw[dE,aK,w];rfl);have d':=G.E6 v E;refine⟨⟨by first|trivial|omega,by first|trivial|omega⟩,aw.2 ⟨_,by rw[ct];exact cn,_,ar G.cT,_,look G E,aw.2 (aN.ld d' (aN.new λK h2 e2 B f2=>⟨_,_,_,ar B,gF ((G.C8 v E).row.frame f2 cb) rfl ag λP C Z o3 f3 Q=>⟨_,_,_,rfl,?_⟩⟩))⟩⟩;have a':=f3.get B id;refine bw a' bP λl a4 s4 o4=> ?_
  have f4:Fr (λy=>y=K) Z l:=⟨ag,λy _ hn=>o4 y hn⟩;have k':=aD B;have W:aN.at l K (v.num:Int) v.e.ky v.e.node v.e.gk v.e.host v.e.jB P v.v.b.length C (v.cf:Int) v.ses (v.dl:Int):=a4;refine aN.ld W ?_;have zg:=F.1;have z2:=f2.1;have z3:=f3.1;have u:Fr No g l:=(f2.tt f3).fresh f4 (λy e=>ag);have oo:=o.frame u cb;refine jd tA uA oo rfl (λe' hw=>QG ({ v with v:=⟨P,C,v.v.b⟩ } :CV) e' (cA hw)) ag ag λp5 c5 h5 o5 f5 x=>⟨_,_,_,rfl,?_⟩
  have z4:=u.1;have z5:=f5.1;rw[bD ag ag];have T:fJ l P v.v.b.length C 1 (bc v.v.b):=o3.frame f4 (λy hy e=>bY (Q y hy));have N: ∀y,aR P y->g.size<=y/\y<l.size:=λy hy=>⟨bY (Q y hy),T.dY hy⟩
  have V: ∀y,aR op y->y<g.size:=λy hy=>o.dY hy
  refine⟨⟨k+1,ys++ [{ v with v:=⟨P,C,v.v.b⟩ }],ag,ag,by rw[aA];rfl,by rw[aA];show ys.length+1=_;omega,?_,λy hy=>(x y hy).elim (D y) (λh1=>ag),?_,?_,?_,(F.tt u).fresh f5 D⟩,by show xs.length - Int.toNat ((k:Int)+1)<xs.length - k;omega⟩
  .rw[da];simpa using o5
  .rw[aZ,A,bQ,L];rfl
  .intro y hy;rcases bM.1 hy with hy|hy
   .have r1:=(b y hy).row.frame u cb;refine⟨?_,(b y hy).own,(b y hy).cap⟩;by_cases r:y.v.b= []
    .rw[r];exact Row.nil
    .exact r1.frame f5 (λa Y d=>M y hy a.block ⟨a,Y,rfl⟩ r d)
   .obtain rfl:=bN.1 hy;exact BV.kU (T.frame f5 (λy hy d=>hY (N y hy) (V y d))) (λy hy=>bY (N y hy))
  .intro y hy z f r d;rcases bM.1 hy with hy|hy
   .rcases x z d with h1|h1
    .exact M y hy z f r h1
    .have:=jr (b y hy).row (by intro e;apply r;have:=bU List.length e;rw[jT]at this;exact List.length_eq_zero_iff.1 this) f;omega
   .obtain rfl:=bN.1 hy;rcases x z d with h1|h1
    .have:=(N z f).1;have:=V z h1;omega
    .have:=(N z f).2;omega
 .have q1: ¬(k:Int)<(xs.length:Int):=ag
  simp only[q1,bp,au,aM];rw[bJ ag]at A;have z1:=f1.1;exact hk g op O ys o A (λy hy=>⟨(b y hy).row,λe z f=>bY ((b y hy).own e z f),(b y hy).cap⟩) (λy hy=>bY (D y hy)) (f1.tt F)
theorem He(H:Ct h t X s)(b:Small s)(hd: ∀z∈s.L,z.d.length<=600)(hk: ∀h' P c' (ys:List CV),fJ h' P ys.length c' 10 (ys.flatMap Dh)->ys.map CV.abs=s.L->(∀y∈ys,Row h' y.v.p (bc y.v.b))->Fr No h h'->R (.slice P ys.length c') h'):Cl 160 #[.P t 0] h R:=
 Io H b hd λh' P c' ys o e r _ f=>hk h' P c' ys o e (λy a=>(r y a).row) f
def Hf(L:List Cp)(x:Ev):Nat:=((kP L x).filter (λz=>decide (z.ses=0))).length
theorem Nh(H:Ct h t X s)(D:Small s)(x:Ev)(hk: gL h R (.I (Hf s.L x:Int))):Cl 103 #[.P t 0,kz x] h R:=by
 obtain⟨m,xs,a1,S,a2,c,i,H⟩:=H;have Q:=D.l;have xl:=H.len;refine sE.walk (ay.box λb M L A f1=>ay.ld A (uy (H.on f1) x ag λo P c2 o2 n2 f2=>⟨_,_,_,rfl,?_⟩));have F:=f1.tt f2;generalize e:xs.filter (λy=>decide (y.e=x))=ys at o2⊢;have C: ∀y∈ys,y∈xs:=λy l=>by rw[<-e]at l;exact(ba.1 l).1
 have w:ys.map CV.abs=kP s.L x:=by unfold kP;rw[<-H.abs,du,<-e];rfl
 have Y:ys.length<=50000:=by rw[<-e];exact cW (cr _ _) ag
 refine⟨λn q g=> ∃k:Nat,q=(k:Int)/\k<=ys.length/\n=((((ys.take k).map CV.abs).filter (λz=>decide (z.ses=0))).length:Int)/\g=o,λ_ q _=>ys.length - q.toNat,⟨0,rfl,ag,bP,rfl⟩,?_⟩;rintro _ _ _ ⟨k,rfl,N,rfl,rfl⟩;have O:(((ys.take k).map CV.abs).filter (λz=>decide (z.ses=0))).length<=k:=cW (cr _ _) (by rw[aF,bB];omega);have G:=H.on F;by_cases B:k<ys.length
 .have q1:(k:Int)<((ys.length:Nat):Int):=ag
  simp only[q1,bC,bj,aI];have d:ys[k]? =some ys[k]:=aj B;generalize ys[k]=v at d;have f:=C v (bn d);obtain⟨I,K,rfl⟩:=o2.addr ag;have cn:=o2.cell (j:=k) (v:=ga (v.num:Int)) (by unfold ka;rw[dE,aK,d];rfl);have e1:(((ys.take (k+1)).map CV.abs).filter (λz=>decide (z.ses=0))).length=(((ys.take k).map CV.abs).filter (λz=>decide (z.ses=0))).length+if v.ses=0 then 1 else 0:=by
   rw[bQ,d,aZ,fy,aA];congr 1
   by_cases a:v.ses=0
   .have:v.abs.ses=0:=a;simp[a,this]
   .have: ¬v.abs.ses=0:=a;simp[a,this]
  refine aG.of λJ r=>⟨⟨by first|trivial|omega,by first|trivial|omega⟩,aw.2 ⟨_,by rw[ct];exact cn,_,ar G.cT,_,look G f,aw.2 ⟨_,ar (G.E6 v f),aG.of λE u=> ?_⟩⟩⟩
  subst u;subst r;dsimp only;rw[bD (n:=(k:Int)+1) ag ag];by_cases a:v.ses=0
  .rw[af (cA a),bD ag ag];rw[af a]at e1;exact⟨⟨k+1,ag,ag,ag,rfl⟩,by show ys.length - Int.toNat ((k:Int)+1)<ys.length - k;omega⟩
  .rw[ae (cA a)];rw[ae a]at e1;exact⟨⟨k+1,ag,ag,ag,rfl⟩,by show ys.length - Int.toNat ((k:Int)+1)<ys.length - k;omega⟩
 .have q1: ¬(k:Int)<((ys.length:Nat):Int):=ag
  simp only[q1,bp,au,aM];rw[bJ ag,w];exact hk _ F

end fM
end
section
open Go.jU
namespace fM
open iW
structure OP where
 kind:Int
 num:Int
 ses:Int
 e:Ev
 p:cy
 c:Nat
 b:cD
 cf:Nat

end fM
end
section
open Go.fT Go.jU
namespace fM
open iW bW kK
variable {s s':CF} {k:Nat} {f:OP}
variable {z:Cp} {ses:Int} {dl:Nat}
theorem Ip{α:Type}[DecidableEq α]: ∀{l1 l2:List α},l1.Nodup->(∀a∈l1,a∈l2)->l1.length<=l2.length
 | [],_,_,_=>bG _
 |a::l,l2,h,H=>by
  obtain⟨d,g⟩:=eP.1 h;have:=Ip (l1:=l) (l2:=l2.erase a) g (λb c=>(List.mem_erase_of_ne (λe=>d (by rw[<-e];exact c))).2 (H b (bZ _ c)));have i:=List.length_erase_of_mem (H a bP);have j:0<l2.length:=List.length_pos_of_mem (H a bP);rw[bf];omega
theorem QH{α:Type}[DecidableEq α]{l1 l2:List α}(b:l1.Nodup)(c:l2.Nodup)(H: ∀a,a∈l1↔a∈l2):l1.length=l2.length:=
 Nat.le_antisymm (Ip b (λa h=>(H a).1 h)) (Ip c (λa h=>(H a).2 h))
theorem Hh(ok:qU s)(O:Ord s):s.E2.length=(s.L.filter (λz=>decide (z.ses≠0))).length:=by
 have e:((s.L.filter (λz=>decide (z.ses≠0))).map (λz=>(((z.num:Int),(z.dl:Int)):E))).length=(s.L.filter (λz=>decide (z.ses≠0))).length:=aF ..;rw[<-e];refine QH ?_ ?_ λa=> ?_
 .have:=O.n2;unfold keys at this;exact(eL.1 this).imp (λh e=>h (bU _ e))
 .have H:((s.L.filter (λz=>decide (z.ses≠0))).map Cp.num).Nodup:=eZ (fx _ cJ) O.nd;exact eL.2 ((eL.1 H).imp (λh e=>h (Int.ofNat.inj (bU Prod.fst e))))
 .rw[ok.e2,bh];constructor
  .rintro⟨z,b,d,rfl⟩;exact⟨z,ba.2 ⟨b,av d⟩,rfl⟩
  .rintro⟨z,b,rfl⟩;obtain⟨H,c⟩:=ba.1 b;exact⟨z,H,aU c,rfl⟩
theorem PX.free(k:PX z):PX { z with ses:=0,dl:=0 } :=⟨k.r,k.v,k.d,k.n,k.t,by show(0:Int)<=0;omega,by show(0:Int)<=1099511627776;omega,by show 0<=1099511627776;omega⟩
theorem PX.BM(k:PX z)(h:sJ ses dl):PX { z with ses:=ses,dl:=dl } :=⟨k.r,k.v,k.d,k.n,k.t,by have:=h.1;show 0<=ses;omega,h.2.1,h.2.2⟩
structure Good (s:CF) (k:Nat):Prop where
 ok:qU s
 all: ∀z∈s.L,PX z
 may: ∀z∈s.L,xB z.e z.d.length (z.cf:Int)=true
 fr: ∀z∈s.L,z.ses=0->z.dl=0
 full: ∀e,(kP s.L e).length<=16
 len:s.next<=k+1
theorem Good.nil:Good ⟨[],1,0,0,0, [], []⟩ 0:=⟨⟨(λz h=>by cases h),(λz h=>by cases h),(λe=>bP),(λe=>bP),rfl⟩,(λz h=>by cases h),(λz h=>by cases h),(λz h=>by cases h),λ_=>bG _,bk _⟩
theorem Good.L(G:Good s k):s.L.length<=k/\s.fQ<=k/\s.over<=k/\s.gone<=k:=by
 have:=G.ok.uo;have:=G.len;omega
theorem Good.small(G:Good s k)(O:Ord s)(hk:k<=40000):Small s:=by
 have c:=G.L;have d:=G.len;have nd: ∀{l:List E},(keys l).Nodup->l.Nodup:=fun {l} a=>(eL.1 a).imp (λh e=>h (bU _ e))
 have e1:s.E1.length<=s.L.length:=by
  have:=Ip (l2:=s.L.map (λz=>(((z.num:Int),(z.cf:Int)):E))) (nd O.n1) (λe H=>by
   obtain⟨z,b,rfl⟩:=(G.ok.e1 e).1 H;exact bh.2 ⟨z,b,rfl⟩)
  rwa[aF]at this
 have e2:s.E2.length<=s.L.length:=by
  rw[Hh G.ok O];exact cr _ _
 exact⟨ag,ag,ag,ag⟩
theorem Good.held(G:Good s k):E7 s:=λj h=>by
 unfold keys at h;obtain⟨e,H,rfl⟩:=bh.1 h;obtain⟨z,a,_,rfl⟩:=(G.ok.e2 e).1 H;exact⟨z,a,rfl⟩
theorem Good.more(G:Good s k):Good s (k+1):=⟨G.ok,G.all,G.may,G.fr,G.full,bY G.len⟩
theorem Good.sub(G:Good s k)(o:qU s')(P:Cp->Bool)(g:Cp->Cp)(b: ∀z,(g z).e=z.e/\(g z).d=z.d/\(g z).cf=z.cf)(a: ∀z∈s.L,PX (g z)/\((g z).ses=0->(g z).dl=0))(c:s'.L=(s.L.filter P).map g)(i:s'.next=s.next):Good s' (k+1):=by
 have m: ∀z∈s'.L,∃y∈s.L,z=g y:=λz a=>by
  rw[c]at a;obtain⟨y,H,rfl⟩:=bh.1 a;exact⟨y,(ba.1 H).1,rfl⟩
 refine⟨o,λz h=> ?_,λz h=> ?_,λz h=> ?_,λe=> ?_,bY G.len⟩
 .obtain⟨y,H,rfl⟩:=m z h;exact(a y H).1
 .obtain⟨y,H,rfl⟩:=m z h;rw[(b y).1,(b y).2.1,(b y).2.2];exact G.may y H
 .obtain⟨y,H,rfl⟩:=m z h;exact(a y H).2
 .have d:kP s'.L e=(kP (s.L.filter P) e).map g:=by
   rw[c];unfold kP;rw[du];congr 1
   refine dR λz _=> ?_
   show decide ((g z).e=e)=decide (z.e=e);rw[(b z).1]
  rw[d,aF];exact cW ((List.Sublist.filter _ cJ).length_le) (G.full e)
theorem Ks(L:List Cp):L.filter (λ_=>true)=L:=cj.2 λ_ _=>rfl
theorem Good.set(G:Good s k)(o:qU s'){n:Nat}(h:sJ ses dl\/(ses=0/\dl=0))(a:s'.L=nN s.L n ses dl)(b:s'.next=s.next):Good s' (k+1):=by
 refine G.sub o (λ_=>true) (λx=>if x.num=n then { x with ses:=ses,dl:=dl } else x) (λz=>by split<;>exact⟨rfl,rfl,rfl⟩) (λz H=> ?_) (by rw[Ks];exact a) b;split
 .rcases h with h|⟨rfl,rfl⟩
  .exact⟨(G.all z H).BM h,λe=>by have:=h.1;dsimp only at e;omega⟩
  .exact⟨(G.all z H).free,λ_=>rfl⟩
 .exact⟨G.all z H,G.fr z H⟩
theorem Good.out(G:Good s k)(o:qU s'){P:Cp->Bool}(H:s'.L=s.L.filter P)(a:s'.next=s.next):Good s' (k+1):=
 G.sub o P id (λ_=>⟨rfl,rfl,rfl⟩) (λz h=>⟨G.all z h,G.fr z h⟩) (by rw[List.map_id];exact H) a
instance (ses : Int) (dl : Nat) : Decidable (sJ ses dl) := by unfold sJ; infer_instance
def Q4(f:OP)(s:CF):CF:=
 if f.kind=0 then jn s f.e f.b f.cf
 else if f.kind=1 then(if sJ f.ses f.cf then(match kZ s.L f.e with|none=>s|some z=>qB s z f.ses f.cf)else s)
 else if f.kind=2 then pq s f.num f.ses
 else if f.kind=3 then zT s f.num f.ses
 else if f.kind=4 then jo s (f.cf:Int)
 else if f.kind=5 then uQ s f.e
 else s
theorem Good.do(G:Good s k)(O:Ord s)(p:0<=f.e.gk)(hk:k<=30000):Good (Q4 f s) (k+1):=by
 unfold Q4;split
 ·
  have o:=G.ok.add f.e f.b f.cf;by_cases h:iH s f.e f.b f.cf=0
  .have E:jn s f.e f.b f.cf= { s with L:=s.L++ [⟨s.next,f.e,f.b,f.cf,0,0⟩],next:=s.next+1,E1:=zx s.E1 (s.next:Int) (f.cf:Int) } :=af h;have H:xB f.e f.b.length (f.cf:Int)=true/\(kP s.L f.e).length<16:=by
    unfold iH at h;split at h
    .rename_i H;refine⟨H,?_⟩;split at h
     .cases h
     .omega
    .cases h
   have b:cV f.e=true/\f.b.length<=600/\f.cf<=1099511627776:=by
    have:=H.1;unfold xB at this;simp only[aT,Bool.not_eq_true',aV,eN]at this;exact⟨this.1,ag,ag⟩
   have q:=G.len;rw[E]at o⊢;have m: ∀{Q:Cp->Prop},(∀z∈s.L,Q z)->Q ⟨s.next,f.e,f.b,f.cf,0,0⟩->∀z∈s.L++ [⟨s.next,f.e,f.b,f.cf,0,0⟩],Q z:=λa i z hz=>by
    rcases bM.1 hz with hz|hz
    .exact a z hz
    .obtain rfl:=bN.1 hz;exact i
   refine⟨o,m G.all ⟨b.1,p,b.2.1,by show s.next<=1000000;omega,b.2.2,by show(0:Int)<=0;omega,by show(0:Int)<=1099511627776;omega,by show 0<=1099511627776;omega⟩,m G.may H.1,m G.fr (λ_=>rfl),λe=> ?_,by show s.next+1<=_;omega⟩;show(kP (s.L++ [⟨s.next,f.e,f.b,f.cf,0,0⟩]) e).length<=16;unfold kP;rw[fy,aA];have g:=G.full e;have d:=H.2;unfold kP at g d;by_cases c:f.e=e
   .subst c;simp;omega
   .simp[c];exact g
  .have E:jn s f.e f.b f.cf=s:=ae h;rw[E];exact G.more
 split
 ·
  split
  .rename_i H;cases n:kZ s.L f.e with
   |none=>exact G.more
   |some z=>exact G.set (G.ok.BM O (Hd n).1 H) (.inl H) rfl rfl
  .exact G.more
 split
 ·
  have o:=G.ok.TD O f.num f.ses;unfold pq at o⊢;split
  .rename_i h;rw[af h]at o;exact G.out o (P:=λx=> !decide ((x.num:Int)=f.num)) rfl rfl
  .exact G.more
 split
 ·
  have o:=G.ok.rel O f.num f.ses;unfold zT at o⊢;split
  .rename_i h;rw[af h]at o;exact G.set o (.inr ⟨rfl,rfl⟩) rfl rfl
  .exact G.more
 split
 ·
  obtain⟨a,_,j,_,_,l,_⟩:=Kr G.ok O (f.cf:Int);refine G.sub a _ (kL (f.cf:Int)) (λz=>by unfold kL;split<;>exact⟨rfl,rfl,rfl⟩) (λz hz=> ?_) l j;unfold kL;split
  .exact⟨(G.all z hz).free,λ_=>rfl⟩
  .exact⟨G.all z hz,G.fr z hz⟩
 split
 ·
  have e:=wg ((kP s.L f.e).map (λz=>(z.num:Int))) s;refine G.out (G.ok.drop O f.e) (P:=λz=> !decide ((z.num:Int)∈(kP s.L f.e).map (λz=>(z.num:Int)))) ?_ ?_
  .unfold uQ;rw[e];rfl
  .unfold uQ;rw[e]
 .exact G.more

end fM
end
section
open Go.fT
namespace gj
open iW kK
variable {r:Rg}
structure TE (r:Rg):Prop where
 rt:ia r=true
 sv:0<=r.e.gk
theorem TE.e(k:TE r):cV r.e=true/\0<=r.j9/\r.j9<=2/\1<=r.own/\r.own<=1099511627776:=by
 have:=k.rt;unfold ia at this;simp only[aT,Bool.not_eq_true',aV,eN]at this;exact⟨this.1,this.2.2.1.1,this.2.2.1.2,this.2.2.2.1,this.2.2.2.2⟩

end gj
end
section
open Go.fT
namespace gj
open iW kK
variable {L:List Rg}
structure ET (L:List Rg):Prop where
 len:L.length<=8
 all: ∀r∈L,TE r
theorem ET.add(k:ET L)(r:Rg)(H:0<=r.e.gk):ET (AJ L r):=by
 unfold AJ;rcases zR L r with⟨_,e⟩|⟨_,_,e⟩|⟨_,_,_,e⟩|⟨h,_,b,e⟩<;>rw[e]
 .exact k
 .exact k
 .exact k
 .rw[af rfl];exact⟨by rw[M0];omega,λz a=>(EW.1 a).elim (λe=>e▸⟨h,H⟩) (k.all z)⟩
theorem ET.rem(k:ET L)(x:Ev)(o:Int):ET (zQ L x o):=by
 unfold zQ;split
 .exact⟨cW (cr _ _) k.len,λz h=>k.all z (ba.1 h).1⟩
 .exact k
theorem ET.j9(k:ET L)(x:Ev)(o q:Int):ET (EY L x o q):=by
 unfold EY;split
 .rename_i H;have a:0<=q/\q<=2:=by
   unfold Ke at H;split at H
   .assumption
   .cases H
  refine⟨by unfold GY;rw[aF];exact k.len,λz c=> ?_⟩;obtain⟨y,b,rfl⟩:=bh.1 c;have K:=k.all y b;split
  .refine⟨?_,K.sv⟩;have h:=K.rt;unfold ia at h⊢;simp only[aT,Bool.not_eq_true',aV,eN]at h⊢;exact⟨h.1,h.2.1,⟨a.1,a.2⟩,h.2.2.2⟩
  .exact K
 .exact k

end gj
end
section
namespace dH
open gV (It)
open iW (Ev cV)
variable {σ:SS} {k:Nat}
variable {l:List It} {s:fM.CF} {owner:Int}
structure Good (σ:SS) (k:Nat):Prop where
 a:fj.lB σ.A
 g:gj.ET σ.G
 c:fM.Good σ.C k
 b:σ.B.next<=k+1
 v:σ.B.over<=k
 q:σ.Q=σ.B.items
 ok:rD σ.Q
 n:σ.now<=1099511627776
 e:cV σ.e=true/\σ.e≠Ev.zero/\0<=σ.e.gk
 t:σ.tm<=1099511627776/\σ.sq<=1099511627776
 r:σ.rf<=k
def Kt(e:Ev):SS:=⟨[], [],⟨[],1,0,0,0, [], []⟩,⟨[],1,0,0,0⟩, [],e,0,0,0,0⟩
theorem Good.new{e:Ev}(H:cV e=true)(a:e≠Ev.zero)(b:0<=e.gk):Good (Kt e) 0:=
 ⟨fj.lB.nil,⟨bG _,λ_ h=>(by cases h)⟩,fM.Good.nil,bk _,bk _,rfl,rD.nil,bG _,⟨H,a,b⟩,⟨bG _,bG _⟩,bk _⟩
def rV(s:gV.BS)(now:Nat):gV.BS:= { s with items:=s.items.filter (λx=>decide ((now:Int)<(x.cf:Int))),over:=s.over+(s.items.filter (λx=>decide ((x.cf:Int)<=(now:Int)))).length }
def nQ(σ:SS)(now:Nat):Int:=if now>1099511627776 then 1 else if now<σ.now then 18 else 0
def lC(σ:SS)(now:Nat):SS:= { σ with C:=fM.jo σ.C (now:Int),B:=rV σ.B now,Q:=(rV σ.B now).items,now:=now }
def wU(σ:SS)(now:Nat):SS:=if nQ σ now=0 then lC σ now else σ
theorem rD.filter(ok:rD l)(P:It->Bool):rD (l.filter P):=by
 induction l with
 |nil=>exact ok
 |cons x l i=>
  rw[ch];split
  .obtain⟨a,b,c,d,e,f⟩:=ok;have t1:w6 (l.filter P)<=w6 l:=by
    clear i f e d;induction l with
    |nil=>exact eJ _
    |cons y l i=>rw[ch,ji];split<;>(try rw[ji])<;>omega
   have t2: ∀o,own (l.filter P) o<=own l o:=λo=>by
    clear i f e d t1;induction l with
    |nil=>exact eJ _
    |cons y l i=>rw[ch,me];split<;>(try rw[me])<;>(try split)<;>omega
   rw[ji]at d e;have n1:=GM (l:=l.filter P);refine⟨a,b,c,by rw[ji];omega,by rw[ji];omega,λk=>⟨GN,?_⟩⟩;have:=(f k).2;have:=t2 k;rw[me]at*;omega
  .exact i ok.sub
theorem Ni(G:fM.Good s k)(O:fM.Ord s)(hk:k<=30000)(now:Nat):fM.Good (fM.jo s (now:Int)) (k+1):=by
 have h:=G.do (f:=⟨4,0,0,Ev.zero,none,0, [],now⟩) O (eJ 0) hk;unfold fM.Q4 at h;exact h
theorem O5(G:fM.Good s k)(O:fM.Ord s)(hk:k<=30000)(e:Ev)(H:0<=e.gk)(d:cD)(cf:Nat):fM.Good (fM.jn s e d cf) (k+1):=by
 have h:=G.do (f:=⟨0,0,0,e,none,0,d,cf⟩) O H hk;unfold fM.Q4 at h;exact h
theorem Good.more(G:Good σ k):Good σ (k+1):=⟨G.a,G.g,G.c.more,bY G.b,bY G.v,G.q,G.ok,G.n,G.e,G.t,bY G.r⟩
theorem Good.pass(G:Good σ k)(O:fM.Ord σ.C)(L:List Go.jU.E)(ok:gV.okB σ.B L)(hk:k<=30000)(now:Nat):Good (wU σ now) (k+1):=by
 unfold wU;split
 .rename_i h;have H:now<=1099511627776:=by
   unfold nQ at h;split at h
   .cases h
   .omega
  have b:=ok.uo;have a:=G.b;have c:(σ.B.items.filter (λx=>decide ((x.cf:Int)<=(now:Int)))).length<=σ.B.items.length:=cr _ _;refine⟨G.a,G.g,Ni G.c O hk now,by show σ.B.next<=_;omega,by show σ.B.over+_<=_;omega,rfl,?_,H,G.e,G.t,by have:=G.r;show σ.rf<=_;omega⟩;show rD (σ.B.items.filter _);rw[<-G.q];exact G.ok.filter _
 .exact G.more
abbrev oX(l:List It)(owner:Int)(n:Nat):Bool:=mc.fits 4800 1600 (w6 l) (own l) owner (n:Int)
def Di(σ:SS)(owner:Int)(d:cD)(cf:Nat):Int:=if σ.B.items.length≥16\/oX σ.Q owner d.length=false then 15 else gV.iH σ.B owner d cf
def Nj(σ:SS)(owner:Int)(d:cD)(cf:Nat):Int:=if σ.B.items.length≥16\/oX σ.Q owner d.length=false then 0 else gV.uz σ.B owner d cf
def uR(σ:SS)(owner:Int)(d:cD)(cf:Nat):SS:=if Di σ owner d cf=0 then { σ with B:=gV.EU σ.B owner d cf,Q:=(gV.EU σ.B owner d cf).items } else σ
def BU(σ:SS)(num owner:Int):SS:= { σ with B:=gV.mg σ.B num owner,Q:=(gV.mg σ.B num owner).items }
def wV(σ:SS):SS:=match σ.B.items with| []=>σ|_::r=> { σ with B:= { σ.B with items:=r,taken:=σ.B.taken+1 },Q:=r }
theorem rD.add{x:It}(ok:rD l)(H:oX l x.owner x.d.length=true):rD (l++ [x]):=by
 have h:=mc.Ok.take ok H;rw[Ig,show w6 l+(x.d.length:Int)=w6 (x::l) by rw[ji];omega]at h;exact rD.perm h (dM _ _).symm
theorem Ku{d:cD}{cf:Nat}(h:Di σ owner d cf=0):oX σ.Q owner d.length=true/\gV.iH σ.B owner d cf=0:=by
 unfold Di at h;split at h
 .cases h
 .rename_i H;cases a:oX σ.Q owner d.length with
  |false=>exact absurd (.inr a) H
  |true=>exact⟨rfl,h⟩
theorem Good.put(G:Good σ k)(owner:Int)(d:cD)(cf:Nat):Good (uR σ owner d cf) (k+1):=by
 unfold uR;split
 .rename_i h;obtain⟨H,a⟩:=Ku h;have e:gV.EU σ.B owner d cf= { σ.B with items:=σ.B.items++ [⟨σ.B.next,owner,d,cf⟩],next:=σ.B.next+1 } :=af a;rw[e];refine⟨G.a,G.g,G.c.more,by show σ.B.next+1<=_;have:=G.b;omega,by show σ.B.over<=_;have:=G.v;omega,rfl,?_,G.n,G.e,G.t,by show σ.rf<=_;have:=G.r;omega⟩;show rD (σ.B.items++ [_]);rw[<-G.q];exact rD.add G.ok H
 .exact G.more
theorem Hj{s:gV.BS}{num:Int}: ∃P:It->Bool,(gV.mg s num owner).items=s.items.filter P/\(gV.mg s num owner).next=s.next/\(gV.mg s num owner).over=s.over:=by
 unfold gV.mg;split
 .exact⟨_,rfl,rfl,rfl⟩
 .exact⟨λ_=>true,(cj.2 λ_ _=>rfl).symm,rfl,rfl⟩
theorem Good.rC(G:Good σ k)(num owner:Int):Good (BU σ num owner) (k+1):=by
 obtain⟨P,h,H,a⟩:=Hj (s:=σ.B) (num:=num) (owner:=owner);refine⟨G.a,G.g,G.c.more,by show(gV.mg σ.B num owner).next<=_;rw[H];have:=G.b;omega,by show(gV.mg σ.B num owner).over<=_;rw[a];have:=G.v;omega,rfl,?_,G.n,G.e,G.t,by show σ.rf<=_;have:=G.r;omega⟩;show rD (gV.mg σ.B num owner).items;rw[h,<-G.q];exact G.ok.filter _
theorem Good.take(G:Good σ k):Good (wV σ) (k+1):=by
 unfold wV;split
 .exact G.more
 .rename_i x r h;refine⟨G.a,G.g,G.c.more,by show σ.B.next<=_;have:=G.b;omega,by show σ.B.over<=_;have:=G.v;omega,rfl,?_,G.n,G.e,G.t,by show σ.rf<=_;have:=G.r;omega⟩;have ok:=G.ok;rw[G.q,h]at ok;exact ok.sub
theorem Good.ux(G:Good σ k)(token:Nat):Good { σ with A:=fj.ux σ.A token } (k+1):=
 ⟨G.a.open token,G.g,G.c.more,by show σ.B.next<=_;have:=G.b;omega,by show σ.B.over<=_;have:=G.v;omega,G.q,G.ok,G.n,G.e,G.t,by show σ.rf<=_;have:=G.r;omega⟩
theorem Good.TF(G:Good σ k)(O:fM.Ord σ.C)(hk:k<=30000)(e:Ev)(h:0<=e.gk)(d:cD)(cf:Nat):Good { σ with C:=fM.jn σ.C e d cf } (k+1):=
 ⟨G.a,G.g,O5 G.c O hk e h d cf,by show σ.B.next<=_;have:=G.b;omega,by show σ.B.over<=_;have:=G.v;omega,G.q,G.ok,G.n,G.e,G.t,by show σ.rf<=_;have:=G.r;omega⟩

end dH
end
section
namespace Ask
open iW (Ev cV)
open dH (SS Good)
open Bn (iA kJ Prim lh xS iS jG qb kV)
open Go.fT (RD)
variable {V:cD→Bool} {σ:SS} {k:Nat} {ses:Int} {q:Rq}
def mn(now dN:Nat):Nat:=min (now+dN) 1099511627776
def oY(σ:SS):Option (Nat×Nat):=if σ.tm<σ.now then some (σ.now,0)else if 1099511627776<=σ.sq then none else some (σ.tm,σ.sq+1)
structure Ot where
 σ:SS
 e:Int
 num:Int
 uo:Int
 d:cD
def bad(σ:SS)(e:Int):Ot:=⟨σ,e,0,0, []⟩
def AM(σ:SS)(ses:Int)(d:cD)(cf:Nat)(n:Nat×Nat):Ot:=
 if dH.Di σ ses d cf=0 then⟨{ dH.uR σ ses d cf with tm:=n.1,sq:=n.2 },0,dH.Nj σ ses d cf,d.length, []⟩else⟨σ,dH.Di σ ses d cf,dH.Nj σ ses d cf,d.length, []⟩
def k7(V:cD->Bool)(σ:SS)(ses:Int)(b:kJ)(n:Nat×Nat):Ot:=match iS V b with
 |none=>bad σ 3
 |some d=>AM σ ses d (mn σ.now b.p.dN) n
def nR(q:Rq)(n:Nat×Nat):kJ:=⟨⟨if q.on=true then 131072 else 0,0,q.dest,if q.on=true then q.ep else .zero,⟨q.ep,n.1,n.2⟩,q.dN⟩, [⟨1,1,0,0,q.kO⟩]⟩
def zX(V:cD->Bool)(σ:SS)(ses:Int)(q:Rq):Ot:=
 if gj.jh σ.G q.ep ses=0 then(match oY σ with
  |none=>bad σ 5
  |some n=>k7 V σ ses (nR q n) n)
 else bad σ (gj.jh σ.G q.ep ses)
def Kv(V:cD->Bool)(d:cD):Nat:=match jG V d with| .ok b=>(qb b).length| .error _=>0
def PY(σ:SS)(q:Rq):Nat:=mn σ.now q.iz.toNat
def zY(V:cD->Bool)(σ:SS)(ses:Int)(q:Rq):Ot:=
 if gj.jh σ.G q.ep ses=0 then
  if fM.sJ ses (PY σ q)then(match fM.kZ σ.C.L q.ep with
   |none=>bad σ 4
   |some z=>⟨{ σ with C:=fM.qB σ.C z ses (PY σ q) },0,(z.num:Int),(Kv V z.d:Int),z.d⟩)
  else bad σ 1
 else bad σ (gj.jh σ.G q.ep ses)
def Dj(n m:Int):Bool:=IntKind.wrap .u64 ((BitVec.ofInt (IntKind.bits .u64) n &&& BitVec.ofInt (IntKind.bits .u64) m).toNat:Int)==0
def wW(p:Prim):Bool:= !Dj (p.fl:Int) 131072 && Dj (p.fl:Int) 2
def kM(V:cD->Bool)(σ:SS)(ses:Int)(d:cD):SS×Int:=match jG V d with
 | .error _=>(σ,0)
 | .ok b=>if wW b.p=true then(match oY σ with
  |none=>(σ,0)
  |some n=>(match kV V ⟨false,true,false,0,σ.now,b.p.id⟩ b.p.rep ⟨σ.e,n.1,n.2⟩ b.p.dN with
   |none=>(σ,0)
   |some r=>((k7 V σ ses r n).σ,if(k7 V σ ses r n).e=0 then 1 else 0)))
  else(σ,0)
def Hk(V:cD->Bool)(σ:SS)(ses:Int)(num:Int):Ot:=
 if fM.kf σ.C.L num ses=0 then(match fM.xA σ.C.L num with
  |none=>bad { σ with C:=fM.pq σ.C num ses } 0
  |some z=>⟨(kM V { σ with C:=fM.pq σ.C num ses } ses z.d).1,0,0,(kM V { σ with C:=fM.pq σ.C num ses } ses z.d).2, []⟩)
 else bad σ (fM.kf σ.C.L num ses)
def sL(σ:SS)(ses:Int)(on:Bool):Ot:=
 if fj.vS σ.A ses=0 then⟨{ σ with A:=fj.BL (fj.jx σ.A ses on) ses },fj.MV (fj.jx σ.A ses on) ses,0,fj.Ii (fj.jx σ.A ses on) ses,fj.BK (fj.jx σ.A ses on) ses⟩
 else bad σ (fj.vS σ.A ses)
def FC(V:cD->Bool)(σ:SS)(ses:Int)(q:Rq):Ot:=
 if q.kind=1 then bad { σ with G:=gj.AJ σ.G ⟨q.ep,q.j9,ses⟩ } (gj.iH σ.G ⟨q.ep,q.j9,ses⟩)
 else if q.kind=2 then(if gj.jh σ.G q.ep ses=0 then⟨{ σ with G:=gj.zQ σ.G q.ep ses,C:=fM.uQ σ.C q.ep },0,0,((fM.kP σ.C.L q.ep).length:Int), []⟩else bad σ (gj.jh σ.G q.ep ses))
 else if q.kind=3 then bad { σ with G:=gj.EY σ.G q.ep ses q.j9 } (gj.Ke σ.G q.ep ses q.j9)
 else if q.kind=4 then zX V σ ses q
 else if q.kind=5 then bad (dH.BU σ q.num ses) (gV.mK σ.B q.num ses)
 else if q.kind=6 then⟨σ,gj.jh σ.G q.ep ses,(fM.Hf σ.C.L q.ep:Int),0, []⟩
 else if q.kind=7 then zY V σ ses q
 else if q.kind=8 then Hk V σ ses q.num
 else if q.kind=9 then bad { σ with C:=fM.zT σ.C q.num ses } (fM.kf σ.C.L q.num ses)
 else if q.kind=10 then sL σ ses q.on
 else bad σ 3
def nT(id:Nat)(o:Ot):RD:=if o.e=0 then⟨id,0,o.num,o.uo,0,o.d⟩else⟨id,o.e,0,0,0, []⟩
def PZ(x:RD):cD:=if x.ni then x.enc else []
def nU(id:Nat)(e:Int):RD:=⟨id,e,0,0,0, []⟩
def AN(V:cD->Bool)(σ:SS)(ses:Int)(q:Rq):SS×RD:=
 if jW q=true/\q.kind<11 then
  if fj.QA σ.A ses=true then(match fj.BH σ.A ses q.id with
   |some b=>(σ,(Go.fT.Jj b).getD RD.zero)
   |none=>({ (FC V σ ses q).σ with A:=fj.zJ (FC V σ ses q).σ.A ses q.id (PZ (nT q.id (FC V σ ses q))) },nT q.id (FC V σ ses q)))
  else(σ,nU q.id 16)
 else(σ,nU q.id 3)
theorem Good.nN{C:fM.CF}(G:dH.Good σ k)(c:fM.Good C (k+1)):dH.Good { σ with C:=C } (k+1):=
 ⟨G.a,G.g,c,by show σ.B.next<=_;have:=G.b;omega,by show σ.B.over<=_;have:=G.v;omega,G.q,G.ok,G.n,G.e,G.t,by show σ.rf<=_;have:=G.r;omega⟩
theorem Good.kr{A:List fj.fj}(G:dH.Good σ k)(a:fj.lB A):dH.Good { σ with A:=A } k:=⟨a,G.g,G.c,G.b,G.v,G.q,G.ok,G.n,G.e,G.t,G.r⟩
theorem Good.QI{L:List gj.Rg}(G:dH.Good σ k)(a:gj.ET L):dH.Good { σ with G:=L } k:=⟨G.a,a,G.c,G.b,G.v,G.q,G.ok,G.n,G.e,G.t,G.r⟩
theorem Good.mk{t s:Nat}(G:dH.Good σ k)(H:t<=1099511627776)(h:s<=1099511627776):dH.Good { σ with tm:=t,sq:=s } k:=⟨G.a,G.g,G.c,G.b,G.v,G.q,G.ok,G.n,G.e,⟨H,h⟩,G.r⟩
theorem zZ(G:dH.Good σ k){n:Nat×Nat}(h:oY σ=some n):n.1<=1099511627776/\n.2<=1099511627776:=by
 unfold oY at h;have:=G.n;have:=G.t;split at h
 .cases h;exact⟨by assumption,by show 0<=_;omega⟩
 split at h
 .cases h
 .cases h;exact⟨G.t.1,by show σ.sq+1<=_;omega⟩
theorem Good.AM(G:dH.Good σ k)(ses:Int)(d:cD)(cf:Nat){n:Nat×Nat}(h:n.1<=1099511627776/\n.2<=1099511627776):dH.Good (AM σ ses d cf n).σ (k+1):=by
 unfold Ask.AM;split
 .exact Good.mk (dH.Good.put G ses d cf) h.1 h.2
 .exact dH.Good.more G
theorem Good.k7(G:dH.Good σ k)(ses:Int)(b:kJ){n:Nat×Nat}(h:n.1<=1099511627776/\n.2<=1099511627776):dH.Good (k7 V σ ses b n).σ (k+1):=by
 unfold Ask.k7;split
 .exact dH.Good.more G
 .exact Good.AM G _ _ _ h
theorem Good.tell(G:dH.Good σ k)(ses:Int)(d:cD):dH.Good (kM V σ ses d).1 (k+1):=by
 unfold kM;split
 .exact dH.Good.more G
 split
 .split
  .exact dH.Good.more G
  .rename_i n h;split
   .exact dH.Good.more G
   .exact Good.k7 G _ _ (zZ G h)
 .exact dH.Good.more G
theorem Good.Se(G:dH.Good σ k)(O:fM.Ord σ.C)(hk:k<=30000)(f:fM.OP)(h:0<=f.e.gk):dH.Good { σ with C:=fM.Q4 f σ.C } (k+1):=Good.nN G (G.c.do O h hk)
theorem Good.FC(G:dH.Good σ k)(O:fM.Ord σ.C)(hk:k<=30000)(H:0<=q.ep.gk):dH.Good (FC V σ ses q).σ (k+2):=by
 unfold Ask.FC;split
 .exact dH.Good.more (dH.Good.more (Good.QI G (G.g.add _ H)))
 split
 .split
  .have h:=Good.Se G O hk ⟨5,0,0,q.ep,none,0, [],0⟩ H;exact dH.Good.more (Good.QI h (G.g.rem _ _))
  .exact dH.Good.more (dH.Good.more G)
 split
 .exact dH.Good.more (dH.Good.more (Good.QI G (G.g.j9 _ _ _)))
 split
 .unfold zX;split
  .split
   .exact dH.Good.more (dH.Good.more G)
   .rename_i n b;exact dH.Good.more (Good.k7 G _ _ (zZ G b))
  .exact dH.Good.more (dH.Good.more G)
 split
 .exact dH.Good.more (dH.Good.rC G _ _)
 split
 .exact dH.Good.more (dH.Good.more G)
 split
 .unfold zY;split
  .split
   .rename_i a;have h:=Good.Se G O hk ⟨1,0,ses,q.ep,none,0, [],PY σ q⟩ H;unfold fM.Q4 at h;rw[ae (show¬(1:Int)=0 by decide),af (show(1:Int)=1 from rfl),af a]at h;dsimp only at h;split
    .exact dH.Good.more (dH.Good.more G)
    .rename_i z c;rw[c]at h;exact dH.Good.more h
   .exact dH.Good.more (dH.Good.more G)
  .exact dH.Good.more (dH.Good.more G)
 split
 .unfold Hk;have h:=Good.Se G O hk ⟨2,q.num,ses,.zero,none,0, [],0⟩ (eJ 0);split
  .split
   .exact dH.Good.more h
   .exact Good.tell h _ _
  .exact dH.Good.more (dH.Good.more G)
 split
 .have h:=Good.Se G O hk ⟨3,q.num,ses,.zero,none,0, [],0⟩ (eJ 0);exact dH.Good.more h
 split
 .unfold sL;split
  .exact dH.Good.more (dH.Good.more (Good.kr G ((G.a.watch _ _).read _)))
  .exact dH.Good.more (dH.Good.more G)
 .exact dH.Good.more (dH.Good.more G)
theorem Good.AN(G:dH.Good σ k)(O:fM.Ord σ.C)(hk:k<=30000)(H:0<=q.ep.gk):dH.Good (AN V σ ses q).1 (k+2):=by
 have h:=Good.FC (V:=V) (ses:=ses) G O hk H;have m:=dH.Good.more (dH.Good.more G);unfold Ask.AN;split
 .split
  .split
   .exact m
   .exact Good.kr h (h.a.mU _ _ _)
  .exact m
 .exact m
section
open fj
variable {A : List fj.fj} {m n : Int}
end
end Ask
end
section
open Go.fT Go.jU
namespace gV
open kK
variable {h h' d:ai} {b:Nat} {X:Ft} {R:fp} {p:cy} {c:Nat} {L:List E} {s:BS}
def IL(d h:ai)(p:cy)(l c:Nat)(items:List It):Prop:=
 ∃(ys:List IV)(D:Nat->Prop),l=ys.length/\fJ h p l c 4 (ys.flatMap ga)/\ys.map IV.abs=items/\(∀y∈ys,y.v.ok h D)/\(∀y,D y->d.size<=y/\y<h.size/\¬aR p y)/\∀y,aR p y->d.size<=y
theorem IL.len{l:Nat}{items:List It}(H:IL d h p l c items):l=items.length:=by
 obtain⟨ys,D,a,_,e,_⟩:=H;rw[a,<-e,aF]
theorem He(H:zM h b X s)(hk: ∀h' q m c',IL h h' q m c' s.items->Fr No h h'->R (.slice q m c') h'):Cl 39 #[.P b 0] h R:=by
 obtain⟨L,⟨lp,lc,xs,a,S,H⟩,ok⟩:=H;obtain⟨hL,i'⟩:=H.ET ok;refine zA.walk (fI H ⟨_,rfl,aG.of λJ E=> ?_⟩);simp only[bj];refine⟨_,_,_,ar H.cT,?_⟩;refine⟨λop O o t g=> ∃k:Nat,t=(k:Int)/\k<=xs.length/\IL h g op O o (s.items.take k)/\Fr No h g,λ_ _ _ t _=>xs.length - t.toNat,⟨0,rfl,ag,⟨[],λ_=>False,rfl,.nil rfl rfl rfl rfl,bP,(λy hy=>by cases hy),(λy hy=>hy.elim),λy ⟨a,e,_⟩=>by cases e⟩,Fr.refl _ _⟩,?_⟩;rintro op O o _ g ⟨k,rfl,f',I,i⟩;have M:=H.on i;by_cases N:k<xs.length
 .have q1:(k:Int)<(xs.length:Int):=ag
  simp only[q1,bC,bj,aI];have j:xs[k]? =some xs[k]:=aj N;generalize xs[k]=x at j;obtain⟨Z,a',rfl⟩:=M.own.addr ag;refine⟨⟨by first|trivial|omega,by first|trivial|omega⟩,aw.2 (aH.FA (M.own.gJ gZ j) (aH.new λb1 h8 d' K f8=>aH.ld K ?_))⟩;have u:s.items[k]? =some x.abs:=by rw[<-H.abs,aK,j];rfl
  have Q:=ok.it x.abs (bn u);have dl:x.v.b.length<=600:=Q.2.2.2.1;have U:=((M.C8 x (bn j)).row).frame f8 cb;refine qO U rfl ag λl P C n f9 B=>⟨_,_,_,_,_,_,rfl,?_⟩
  have F:Fr No g l:=f8.tt f9;obtain⟨ys,D,V,Y,v,W,z,A⟩:=I;have yl:ys.length<=16:=by
   have:=bU List.length v;rw[aF,bB]at this;omega
  have z9:=F.1;have zg:=i.1;have z8:=f8.1;refine jd tI uI (Y.frame F cb) rfl (λw hw=>by simp at hw;rcases hw with rfl|rfl|rfl|rfl<;>rfl) ag ag λj' b' e' T f11 G=>⟨_,_,_,rfl,?_⟩
  rw[bD ag ag];have r: ∀y,aR P y->g.size<=y/\y<l.size:=λy hy=>⟨bY (B y hy),n.dY hy⟩
  have k':=f11.1;refine⟨⟨k+1,ag,ag,⟨ys++ [⟨x.num,x.owner,⟨P,C,x.v.b⟩,x.cf⟩],λy=>D y\/aR P y,by rw[aA,V];rfl,?_,?_,?_,?_,?_⟩,?_⟩,by show xs.length - Int.toNat ((k:Int)+1)<xs.length - k;omega⟩
  .rw[da];simpa using T
  .rw[aZ,v,bQ,u];rfl
  .intro w hw;rcases bM.1 hw with hw|hw
   .exact(((W w hw).frame F cb).frame f11 (λy hy=>(z y hy).2.2)).mono (λy=> .inl)
   .obtain rfl:=bN.1 hw;exact BV.kU (n.frame f11 (λy hy f=>hY (r y hy) (Y.dY f))) (λy=> .inr)
  .rintro y (hy|hy)
   .have a:=z y hy;exact⟨a.1,ag,λf=>(G y f).elim a.2.2 (λh2=>ag)⟩
   .have a:=r y hy;exact⟨ag,ag,λf=>(G y f).elim (λh2=>bY (Y.dY h2)) (λh2=>ag)⟩
  .intro y hy;rcases G y hy with h2|h2
   .exact A y h2
   .omega
  .exact(i.tt F).fresh f11 A
 .have q1: ¬(k:Int)<(xs.length:Int):=ag
  simp only[q1,bp,au,aM];subst E;have g':=H.len;rw[bJ ag]at I;exact hk g op O o I i

end gV
end
section
variable {h:ai} {R:fp}
variable {s:Nat} {owner:Int}
theorem Kw.walk{S:Bool}{d:Int}{e:Int}{f:ByteArray}{g:ByteArray}(p:aQ h (.cells #[.bool S,.U d,.U e,.string f,.string g] 29) λb H=>ay.LD H (AA b 0) λq r u w x=>Cl 33 #[.agg #[.bool q,.U r,.U u,.string w,.string x]] H λv a=> ∃j T,v=.tuple #[.pointer j,.I T]/\if(T !=0)then R (.tuple #[.pointer none,.I T]) a else Cl 34 #[.I 4800,.I 1600] a λV c=> ∃i t,V=.tuple #[.pointer i,.I t]/\if(t !=0)then R (.tuple #[.pointer none,.I t]) c else Cl 35 #[] c λy k=>Vp y λt22=>Cl 36 #[] k λz l=>Vp z λt23=>Cl 37 #[] l λA m=>Vp A λt24=>Cl 38 #[] m λC n=>Vp C λt25=>aQ n (.cells #[.pointer t22,.pointer t23,.pointer t24,.pointer t25,.pointer i,.pointer j,.U 0,.I 0] 41) λB o=>R (.tuple #[.P B 0,.I 0]) o):Cl 8 #[.agg #[.bool S,.U d,.U e,.string f,.string g]] h R:=aO (lq (lq (sq (lq (cq ll lf)) (lq (sq (lq (cq ll lf)) ll))))) Tryz.func8 p
theorem wh.walk(H: ∃t9,Cc h s 0 (.pointer t9)/\if(!t9.isNone)then∃t16,Cc h s 1 (.pointer t16)/\if(!t16.isNone)then∃t23,Cc h s 2 (.pointer t23)/\if(!t23.isNone)then∃t30,Cc h s 3 (.pointer t30)/\if(!t30.isNone)then∃t37,Cc h s 4 (.pointer t37)/\if(!t37.isNone)then∃t44,Cc h s 5 (.pointer t44)/\R (.bool (!t44.isNone)) h else R (.bool false) h else R (.bool false) h else R (.bool false) h else R (.bool false) h else R (.bool false) h):Cl 52 #[.P s 0] h R:=aO (lq ll) Tryz.func52 H
theorem wi.walk{now:Int}(k:Cl 52 #[.P s 0] h λv H=> ∃t9,v=.bool t9/\if(!t9)then R (.I 6) H else if(decide (now>1099511627776))then R (.I 1) H else∃t19,Cc H s 6 (.U t19)/\if(decide (now<t19))then R (.I 18) H else aS H (AA s 6) (.U now) λf=>Hp f s 2 λt28=>Cl 53 #[.pointer t28,.U now] f λV g=>Vl V λC B A=>Hp g s 3 λt34=>Cl 54 #[.pointer t34,.U now] g λy i=>Vl y λl t D=> ∃(I:Int->ai->Prop)(m:Int->ai->Nat),I 0 i/\∀(t38:Int)(c:ai),I t38 c->if(decide (t38<(t:Int)))then Bd t38 t/\aL l λa=>aH.LD c (a.add (toNat t38*4)) λn o r q p u=>aQ c (.cells #[.I 0,.I 0,.Z,.U 0] 119) λb j=>aH.ST j (AA b 0) n o r q p u λd=>Hp d s 4 λt45=>Hi d b 1 λt47=>Hl d b 2 λx T w=>Cl 55 #[.pointer t45,.I t47,.I (T:Int)] d λz e=>Vi z λt51=>Cc e b 2 (.slice x T w)/\(I (wrap .i64 (t38+1)) e/\m (wrap .i64 (t38+1)) e<m t38 c)else R (.I 0) c):Cl 16 #[.P s 0,.U now] h R:=aO (lq (sq (bq (lq (cq ll (lq (cq ll (lq (cq ll lf))))))) (lq (lq (sq (lq (bq (.loop [(38,.one (.int .i64))] (lq (sq (cq lf lf) (sq (bq (lq (pN 10))) lf)))))) ll))))) Tryz.func16 k
theorem xC.walk{e:cy}{d D:Nat}{V:Int} (l:Cl 52 #[.P s 0] h λv H=> ∃t14,v=.bool t14/\if(!t14)then R (.tuple #[.I 0,.I 6]) H else aG (λ(t16:Bool) (a:ai)=>if t16 then R (.tuple #[.I 0,.I 15]) a else Hp a s 3 λt39=>Cl 240 #[.pointer t39,.I owner,.slice e d D,.U V] a λo b=> ∃f t,o=.tuple #[.I f,.I t]/\aG (λ(g:ai)=>R (.tuple #[.I f,.I t]) g) (λj=>if(t==0)then Hp b s 4 λt51=>Cl 241 #[.pointer t51,.I owner,.I (d:Int)] b λp i=> ∃t55,p=.I t55/\j i else j b)) (λJ=>Hp H s 3 λt20=>Cl 39 #[.pointer t20] H λq c=> ∃n T m,q=.slice n T m/\if(decide (((T:Nat):Int)≥16))then J true c else Hp c s 4 λt28=>Cl 239 #[.pointer t28,.I owner,.I (d:Int)] c λr k=> ∃t32,r=.bool t32/\J (!t32) k)):Cl 191 #[.P s 0,.I owner,.slice e d D,.U V] h R:=aO (lq (sq (bq (lq (cq ll (sq (.join [(16,.one (.bool))] lf) (cq ll lf))))) (lq (sq (lq (.join [] (cq lf lf))) ll)))) Tryz.func191 l
theorem sM.walk{num:Int} (m:aQ h (.cells #[.I num] 3) λb i=>Cl 52 #[.P s 0] i λv c=> ∃t11,v=.bool t11/\if(!t11)then R (.I 6) c else Hp c s 3 λt16=>Cl 39 #[.pointer t16] c λV d=>Vl V λT t n=>Hp d s 3 λt21=>Hi d b 0 λt22=>Cl 152 #[.pointer t21,.I t22,.I owner] d λq k=>Vi q λt24=>Cl 153 #[.slice T t n,.func (.func 154) #[] #[.P b 0]] k λr e=>Vi r λt27=>aG (λ(t33:Bool) (H:ai)=>aG (λ(l:ai)=>R (.I t24) l) (λj=>if t33 then Hp H s 4 λt37=>Bd t27 t/\aL T λa=>oP H ((a.add (toNat t27*4)).add 2) λp g o=>Cl 55 #[.pointer t37,.I owner,.I (g:Int)] H λu f=>Vi u λt45=>bg f ((a.add (toNat t27*4)).add 2)=some (.slice p g o)/\j f else j H)) (λJ=>if(t24==0)then J (decide (t27≥0)) e else J false e)):Cl 102 #[.P s 0,.I num,.I owner] h R:=aO (lq (sq (lq (cq ll lf)) (lq (sq (pN 8) (sq (lq (sq (.join [(33,.one (.bool))] lf) (.join [] (cq (pN 12) lf)))) ll))))) Tryz.func102 m
theorem qD.walk{x:Int}{X:Int}{d:cy}{c a:Nat}{e:Int}{c0:Nat}(f:aQ h (.cells #[.I x,.I X,.slice d c a,.U e] 119) λb H=>Hi H b 0 λt5=> ∃t6,Cc H c0 0 (.I t6)/\R (.bool (t5==t6)) H):Cl 154 #[.agg #[.I x,.I X,.slice d c a,.U e],.P c0 0] h R:=aO (lq ll) Tryz.func154 f
theorem wj.walk(q:aQ h (.cells #[.I 0,.I 0,.Z,.U 0] 119) λb n=>Cl 52 #[.P s 0] n λv a=> ∃t7,v=.bool t7/\if(!t7)then aH.ST a (AA b 0) 0 0 none 0 0 0 λc=>aH.LD c (AA b 0) λr w D A y F=>R (.tuple #[.agg #[.I r,.I w,.slice D A y,.U F],.I 6]) c else Hp a s 3 λt14=>Cl 181 #[.pointer t14] a λV o=> ∃T g k j i l t,V=.tuple #[.agg #[.I T,.I g,.slice k j i,.U l],.I t]/\aQ o (.cells #[.I 0,.I 0,.Z,.U 0] 119) λB p=>aH.ST p (AA B 0) T g k j i l λH=>aG (λ(d:ai)=>aH.LD d (AA B 0) λL M P O N Q=>aH.ST d (AA b 0) L M P O N Q λe=>aH.LD e (AA b 0) λu x E C z G=>R (.tuple #[.agg #[.I u,.I x,.slice E C z,.U G],.I t]) e) (λJ=>if(t==0)then Hp H s 4 λt23=>Hi H B 1 λt25=>Hl H B 2 λK m I=>Cl 55 #[.pointer t23,.I t25,.I (m:Int)] H λS f=>Vi S λt29=>Cc f B 2 (.slice K m I)/\J f else J H)):Cl 128 #[.P s 0] h R:=aO (lq (sq (lq (cq ll lf)) (lq (sq (lq (.join [] (cq (pN 10) lf))) ll)))) Tryz.func128 q
theorem Kx.walk{S:Bool}{d:Int}{e:Int}{f:ByteArray}{g:ByteArray}(j:aQ h (.cells #[.bool S,.U d,.U e,.string f,.string g] 29) λb c=>aG (λ(t11:Bool) (H:ai)=>if t11 then R (.tuple #[.pointer none,.I 3]) H else ay.LD H (AA b 0) λt T k l m=>aQ H (.cells #[.bool t,.U T,.U k,.string l,.string m,.U 0,.U 0,.bool true] 166) λB i=>R (.tuple #[.P B 0,.I 0]) i) (λJ=>ay.LD c (AA b 0) λn o p q r=>Cl 86 #[.agg #[.bool n,.U o,.U p,.string q,.string r]] c λv a=> ∃t5,v=.bool t5/\if(!t5)then J true a else ay.LD a (AA b 0) λu w x y z=> ∃(eq:Bool),Aj Tryz.prog 29 (.agg #[.bool u,.U w,.U x,.string y,.string z]) (.agg #[.bool false,.U 0,.U 0,.string fU,.string fU]) eq/\J eq a)):Cl 33 #[.agg #[.bool S,.U d,.U e,.string f,.string g]] h R:=aO (lq (sq (sq (.join [(11,.one (.bool))] lf) (cq ll lf)) ll)) Tryz.func33 j
theorem wk.walk{m:Nat}(e:aQ h (.cells #[.bool false,.U 0,.U 0,.string fU,.string fU,.U 0,.U 0] 124) λb a=>aG (λ(t11:Bool) (H:ai)=>if t11 then ah.ST H (AA b 0) false 0 0 fU fU 0 0 λc=>ah.LD c (AA b 0) λr g j l o q u=>R (.agg #[.bool r,.U g,.U j,.string l,.string o,.U q,.U u]) c else ah.LD H (AA m 0) λT w x y z A B=>ah.ST H (AA b 0) T w x y z A B λd=>ah.LD d (AA b 0) λf i k n p t v=>R (.agg #[.bool f,.U i,.U k,.string n,.string p,.U t,.U v]) d) (λJ=> ∃t9,Cc a m 7 (.bool t9)/\J (!t9) a)):Cl 74 #[.P m 0] h R:=aO (lq (sq (sq (.join [(11,.one (.bool))] lf) (cq ll lf)) ll)) Tryz.func74 e
theorem fh.cancel.walk{c:cy}{S e:Nat}{f:Nat}(d: ∃(I:Int->ai->Prop)(m:Int->ai->Nat),I 0 h/\∀(t8:Int)(H:ai),I t8 H->if(decide (t8<(S:Int)))then Bd t8 S/\aL c λa=>aH.LD H (a.add (toNat t8*4)) λt T j i g k=>Cl 154 #[.agg #[.I t,.I T,.slice j i g,.U k],.P f 0] H λv b=> ∃t16,v=.bool t16/\if t16 then R (.I t8) b else(I (wrap .i64 (t8+1)) b/\m (wrap .i64 (t8+1)) b<m t8 H)else R (.I (-1)) H):Cl 153 #[.slice c S e,.func (.func 154) #[] #[.P f 0]] h R:=aO (lq (sq (lq (bq (.loop [(8,.one (.int .i64))] (lq (sq (cq lf lf) (sq (bq (lq (lq (cq ll lf)))) lf)))))) ll)) Tryz.func153 d

end
section
namespace dH
open gV (It)
open iW (Ev cV kz)
variable {h h':ai} {R:fp} {s k:Nat} {X:Ft} {I:ps} {σ:SS}
variable {n r:Nat} {x:It} {l:List It} {L:List Go.jU.E} {B:gV.BS}
theorem fI(B:Bk h s I n r)(hk:R (.bool true) h):Cl 52 #[pt s] h R:=by
 refine wh.walk ?_;repeat (first|exact hk|refine⟨_,ar B,?_⟩|rw[af rfl])
theorem Pt.put(H:Pt h s X I σ)(b:Bk h' s I n r)(m:h'.size=h.size)(j: ∀x,x≠s->h'[x]? =h[x]?): ∃a,Pt h' s a I { σ with now:=n,rf:=r } /\bm X h a h':=by
 obtain⟨Z,⟨o,on⟩,p,z,go⟩:=H.use 6;obtain⟨a,d,st,_,_⟩:=go h' Z { σ with now:=n,rf:=r } ⟨b,on⟩ (bm.tB (Fr.of_eq m λc f=>j c (λe=>f ((on c).1.2 e)))) (λi g=>QE _ _ g);exact⟨a,d,st⟩
theorem Pt.QJ{n o:Int}(H:Pt h s X I σ)(e:σ.Q.Perm (x::l))(ok:rD σ.Q)(K:Tv x)(d:n=(x.d.length:Int))(g:o=x.owner)(hk: ∀h' a,Pt h' s a I { σ with Q:=l } ->bm X h a h'->R (.I 0) h'):Cl 55 #[pt I.p,.I o,.I n] h R:=by
 subst g;obtain⟨Z,⟨m,P,on⟩,q,z,go⟩:=H.use 4;refine RH (P.perm e) (rD.perm ok e) K d λh' p f=> ?_
 obtain⟨a,b,st,_,_⟩:=go h' Z { σ with Q:=l } ⟨m,p,on⟩ (bm.tB (f.mono λy _ j=>(on y).1.2 j)) (λi c=>G8 _ c);exact hk h' a b st
theorem Pt.perm(H:Pt h s X I σ)(e:σ.Q.Perm l):Pt h s X I { σ with Q:=l } :=by
 obtain⟨Y,b,r⟩:=H;refine⟨Y,λi=> ?_,r⟩;by_cases a:i=4
 .subst a;obtain⟨m,P,on⟩:=b 4;exact⟨m,P.perm e,on⟩
 .rw[G8 _ a];exact b i
theorem Fa{r:List It}(ok:rD (l++r)): ∀j,rD (l.drop j++r)
 |0=>ok
 |j+1=>by
  have h:=Fa ok j;rcases Nat.lt_or_ge j l.length with q|q
  .rw[cI q]at h;exact rD.sub h
  .rw[List.drop_eq_nil_of_le q]at h;rw[List.drop_eq_nil_of_le ag];exact h
theorem Pt.okB(H:Pt h s X I σ): ∃L,gV.okB σ.B L:=by
 obtain⟨Z,L,B,ok⟩:=H.box;exact⟨L,ok⟩
theorem Pt.ord(H:Pt h s X I σ):fM.Ord σ.C:=by
 obtain⟨Y,a,_⟩:=H;exact fM.Ct.ord (a 2)
theorem Hm(ok:gV.okB B L)(H:x∈B.items):Tv x:=by
 have:=ok.it x H;exact⟨this.2.2.1,this.2.2.2.1,this.2.2.2.2.1,this.2.2.2.2.2.1⟩
theorem Good.small(G:Good σ k)(O:fM.Ord σ.C)(hk:k<=40000):fM.Small σ.C:=G.c.small O hk
theorem Ky(ok:gV.okB B L){P:It->Bool}{ys:List It}(c: ∀y∈ys,y∈B.items)(b:(ys.map It.kv).Perm ((B.items.filter P).map It.kv)):ys.Perm (B.items.filter P):=by
 have nd: ∀{l:List It},l.Sublist B.items->(l.map It.num).Nodup:=λd=>((ok.inc.sublist (d.map It.num))).imp λh=>Nat.ne_of_lt h
 have n1:((ys.map It.kv).map (λe=>e.1)).Nodup:=by
  refine(b.map _).nodup_iff.2 ?_;rw[dE];have:=nd (cJ (l:=B.items) (p:=P));unfold List.Nodup at this⊢;rw[eL]at this⊢;exact this.imp λh e=>h (by have e:(_:Int)=(_:Int):=e;exact Int.ofNat.inj e)
 have n2:ys.Nodup:=by
  rw[dE]at n1;unfold List.Nodup at n1⊢;rw[eL]at n1;exact n1.imp λh e=>h (by rw[e])
 have N:(B.items.filter P).Nodup:=by
  have:=nd (cJ (l:=B.items) (p:=P));unfold List.Nodup at this⊢;rw[eL]at this;exact this.imp λh e=>h (by rw[e])
 rw[List.perm_ext_iff_of_nodup n2 N];have inj: ∀x∈B.items,∀y∈B.items,x.kv=y.kv->x=y:=λx H y a e=>gV.uniq ok.inc H a (by have e:((x.num:Nat):Int)=((y.num:Nat):Int):=bU Prod.fst e;exact Int.ofNat.inj e)
 intro x;constructor
 .intro H;obtain⟨y,a,e⟩:=bh.1 (b.mem_iff.1 (bh.2 ⟨x,H,rfl⟩));rw[inj x (c x H) y (ba.1 a).1 e.symm];exact a
 .intro H;obtain⟨y,a,e⟩:=bh.1 (b.mem_iff.2 (bh.2 ⟨x,H,rfl⟩));rw[inj x (ba.1 H).1 y (c y a) e.symm];exact a
theorem Hn(l:List It)(now:Nat):l.Perm (l.filter (λx=>decide ((x.cf:Int)<=(now:Int)))++l.filter (λx=>decide ((now:Int)<(x.cf:Int)))):=by
 have h:=(List.filter_append_perm (λx:It=>decide ((x.cf:Int)<=(now:Int))) l).symm;have e:(λx:It=> !decide ((x.cf:Int)<=(now:Int)))=λx:It=>decide ((now:Int)<(x.cf:Int)):=funext λx=>by
  by_cases q:(x.cf:Int)<=(now:Int)
  .rw[av q,az ag];rfl
  .rw[az q,av ag];rfl
 rw[e]at h;exact h
theorem uC{n:Int}(now:Nat)(hn:n=(now:Int))(H:Pt h s X I σ)(G:Good σ k)(j':k<=30000)(hk: ∀h' M,Pt h' s M I (wU σ now)->bm X h M h'->R (.I (nQ σ now)) h'):Cl 16 #[pt s,.U n] h R:=by
 subst hn;have B:=H.cT;refine wi.walk (fI B ⟨_,rfl,?_⟩);rw[dc];unfold wU at hk;by_cases t:now>1099511627776
 .have e:nQ σ now=1:=af t;rw[e,dc]at hk;rw[fK];exact hk h X H (bm.refl _ _)
 rw[ae (λe=>t (bY (aU e)))];refine⟨_,ar B,?_⟩;by_cases u:now<σ.now
 .have e:nQ σ now=18:=by unfold nQ;rw[ae t,af u]
  rw[e,dc]at hk;rw[fK];exact hk h X H (bm.refl _ _)
 rw[ae (λe=>u (bY (aU e)))];have e:nQ σ now=0:=by unfold nQ;rw[ae t,ae u]
 rw[e,af rfl]at hk;refine bw B bP λu a1 a2 a3=> ?_
 obtain⟨P,m,S⟩:=H.put (n:=now) (r:=σ.rf) a1 a2 a3;have a':=H.ord;have sm:=G.small a' ag;obtain⟨Z,f,zm,zd,go⟩:=m.use 2;refine⟨_,ar m.cT,fM.uC f sm (by have:=G.c.L;show σ.C.over<=_;omega) (fM.Good.held G.c) (now:Int) λT Z3 p3 c3 C3 s3 N3 g3=>⟨_,_,_,rfl,?_⟩⟩;obtain⟨X3,K,f',_,_⟩:=go T Z3 { σ with now:=now,C:=fM.jo σ.C (now:Int) } C3 s3 (λi A=>wa (σ:= { σ with now:=now }) _ A);obtain⟨Z,f,zm,zd,go⟩:=K.use 3;obtain⟨L,okB⟩:=H.okB;refine⟨_,ar K.cT,gV.uC now rfl f (by have:=G.b;show σ.B.next<=_;omega) λU Z4 p4 c4 ys D F s4 Y d4 N e4 l' e' W=>⟨_,_,_,rfl,?_⟩⟩;have yp:(ys.map gV.IV.abs).Perm (σ.B.items.filter (λx=>decide ((x.cf:Int)<=(now:Int)))):=Ky okB (λy c=>by obtain⟨z,f,rfl⟩:=bh.1 c;exact W z f) (by rw[e4];exact e');have yl:ys.length=(σ.B.items.filter (λx=>decide ((x.cf:Int)<=(now:Int)))).length:=by rw[<-yp.length_eq,aF]
 have eB:({ σ.B with items:=σ.B.items.filter (λx=>decide ((now:Int)<(x.cf:Int))),over:=σ.B.over+ys.length } :gV.BS)=rV σ.B now:=by unfold rV;rw[yl]
 rw[eB]at F;obtain⟨p,H4,g',i',c'⟩:=go U Z4 { σ with now:=now,C:=fM.jo σ.C (now:Int),B:=rV σ.B now } F s4 (λi A=>De (σ:= { σ with now:=now,C:=fM.jo σ.C (now:Int) }) _ A);have st:=S.trans (f'.trans g');have b': ∀y,aR p4 y->¬(p.M y\/p.D y)/\T.size<=y:=λy c=>⟨λd=>(N y c).2 (c' y (N y c).1 d),(N y c).1⟩
 have V:(σ.Q).Perm (ys.map gV.IV.abs++(rV σ.B now).items):=by
  rw[G.q];exact(Hn _ now).trans (yp.symm.append_right _)
 have lB:rD (ys.map gV.IV.abs++(rV σ.B now).items):=rD.perm G.ok V;refine⟨λi g=> ∃(j:Nat)(q:Ft),i=(j:Int)/\j<=ys.length/\Pt g s q I { σ with now:=now,C:=fM.jo σ.C (now:Int),B:=rV σ.B now,Q:=(ys.map gV.IV.abs).drop j++(rV σ.B now).items } /\bm p U q g/\fJ g p4 ys.length c4 4 (ys.flatMap gV.ga),λi _=>ys.length - i.toNat,
  ⟨0,p,rfl,bG _,H4.perm V,bm.refl _ _,Y⟩,?_⟩
 rintro _ g ⟨j,q,rfl,hj,o,E,O⟩;have k':ys.length<=16:=by rw[yl];exact cW (cr _ _) okB.le
 by_cases w:j<ys.length
 .rw[fK];have c:ys[j]? =some ys[j]:=aj w;obtain⟨pb,po,rfl⟩:=O.addr ag;refine⟨ag,aw.2 (aH.FA (by rw[aI];exact O.gJ gV.gZ c) (aH.new λb g1 eb v f1=> ?_))⟩;have J:=o.on f1;have ed:(ys.map gV.IV.abs).drop j=ys[j].abs::(ys.map gV.IV.abs).drop (j+1):=by
   rw[cI (by rw[aF];exact w),List.getElem_map]
  have d':=Fa lB j;refine⟨_,ar J.cT,_,ar v,_,_,_,ar v,J.QJ (x:=ys[j].abs) (l:=(ys.map gV.IV.abs).drop (j+1)++(rV σ.B now).items) (by show((ys.map gV.IV.abs).drop j++_).Perm _;rw[ed];exact .refl _) d' (Hm okB (W _ (dA w))) rfl rfl λg2 P m S=>⟨_,rfl,?_,?_⟩⟩
  .have lb:=aD v;exact S.fr.cell (ar v) (λd=>bY (o.lt b (.inl d)))
  .rw[bD ag ag];have s2:=E.on f1|>.trans S
   refine⟨⟨j+1,P,ag,ag,m,s2,(O.frame f1 cb).frame S.fr (λy c d=> ?_)⟩,by show ys.length - Int.toNat ((j:Int)+1)<ys.length - Int.toNat (j:Int);omega⟩;rcases E.gI y d with a|a
   .exact(b' y c).1 (.inl a)
   .have:=Y.dY c;omega
 .rw[ae (λe=>w (bY (aU e)))];refine hk g q ?_ (st.trans E);rw[List.drop_eq_nil_of_le (by rw[aF];omega)]at o;exact o

end dH
end
section
open Go.fT
namespace fj
open kK
variable {h h':ai} {t:Nat} {X:Ft} {R:fp} {p:cy} {c i:Nat} {o:PU} {D:Nat→Prop} {L:List SC} {A:List fj}
variable {num k:Int} {b:cD} {n m nc':Nat} {s:SC} {d g:ai} {K':List BV} {np':cy} {E:Nat->Prop}
theorem Db.on(T:Db h t o D L)(f:Fr No h h'):Db h' t o D L:=by
 obtain⟨p,c,H,own,a⟩:=T.cT;refine⟨⟨p,c,f.get H id,own.frame f cb,a⟩,T.MO,λi s j=>(T.ses i s j).frame f (λ_ _ _ _ _=>id) cb,?_,?_,T.ap⟩
 .intro c r e;exact cC (T.MP c r e) f.1
 .intro c hd;exact cC (T.EN c hd) f.1
theorem Ho(xs:List AV)(id:Nat):(xs.filter (λx=>decide (x.id≠id))).map AV.abs=(xs.map AV.abs).filter (λa=>decide (a.1≠id)):=by
 rw[du];rfl
theorem Nk{B:List Nat}(id:Nat)(x':k=(id:Int))(H:rM h t X A B)(ok:lB A)(hr:Row h p (bc b))(I:n=b.length)(hp:b≠ []->∀x,aR p x->¬X.M x)(hk: ∀h' O,rM h' t O (zJ A num id b) B->bm X h O h'->R (.I (MU A num id b)) h'):
  Cl 46 #[.P t 0,.I num,.U k,.slice p n m] h R:=by
 subst x' I;have N:=H;obtain⟨o,L,Y,rfl,rfl,hS⟩:=H;have hl:=ok.le;rw[aF]at hl;refine rH.walk (cF ?_);have f1:Fr No h (h.push (.cells #[.U (id:Int)] 27)):=Fr.push _ _;have b':qq (h.push (.cells #[.U (id:Int)] 27)) h.size id:=bV;have N':(h.push (.cells #[.U (id:Int)] 27)).size=h.size+1:=dJ _;generalize h.push (.cells #[.U (id:Int)] 27)=d at f1 b' N'⊢;have Z:=Y.on f1;have st1:bm X h X d:=bm.gr f1;unfold zJ MU at hk;refine gH Z (λi s e Q=>⟨_,_,rfl,?_⟩) (λI=>⟨_,_,rfl,?_⟩) ag
 .rw[ae bP];subst e;rw[oJ,j0 Q]at hk;dsimp only at hk;refine aG.of λd' hJ=> ?_
  have jt:(id>1099511627776\/b.length>1000)->d' true d:=by
   intro hh;subst hJ;simp only[bj];simp only[hh,bj]at hk;exact hk d X (N.frame f1 (λ_ _ x=>x)) st1
  have jf: ¬(id>1099511627776\/b.length>1000)->d' false d:=by
   intro hh;subst hJ;simp only[au,aM];simp only[hh,aM]at hk;have S:=Z.ses i s Q;have sY:=ok.at_ i _ (j0 Q);have kl:s.kept.length<=6:=by have:=sY.kl;rwa[show s.abs.kept.length=s.kept.length from aF _]at this
   have T: ∀c,aR s.kp c->c≠s.b:=λc q e=>by have d:=S.kl c q;rw[e,S.lb]at d;simp at d
   have G': ∀c,aR s.np c->c≠s.b:=λc q e=>by have d:=S.nl c q;rw[e,S.lb]at d;simp at d
   have m': ∀c,aR s.kp c->¬aR s.np c:=λc q y=>by have d:=S.kl c q;rw[S.nl c y]at d;simp at d
   have kS: ∀c,aR s.kp c->X.M c:=λc q=>(hS c).2 ⟨_,S.kl c q⟩
   have bS:X.M s.b:=(hS s.b).2 ⟨_,S.lb⟩;have j': ¬aR s.kp h.size:=λf=>by have:=(N.lt _ (.inl (kS _ f)));omega
   have B':h.size≠s.b:=λe=>by have:=N.lt _ (.inl bS);omega
   have kD: ∀c,X.D c->¬(c=s.b\/aR s.kp c):=λc q f=>f.elim (λe=>Y.ap c _ (e▸S.lb) q) (λf=>Y.ap c _ (S.kl c f) q)
   refine aw.2 ⟨_,_,_,ar S.cT,GQ S.qp rfl ag b' j' λh4 o4 f4 z'=>⟨_,_,_,rfl,aw.2 ?_⟩⟩;have w':=f4.get S.cT (λf=>T _ f rfl);refine bw w' bP λF k1 k2 k3=>aw.2 ?_
   have f5:Fr (λx=>x=s.b) h4 F:=Fr.of_eq k2 k3;have c':qq F h.size id:=f5.get z' B';have W:Fr (λx=>x=s.b\/aR s.kp x) d F:=(f4.mono (λ_ _ f=> .inr f)).tt (f5.mono (λ_ _ f=> .inl f));have M':Row F p (bc b):=by
    by_cases hb:b= []
    .rw[hb];exact .inl rfl
    .refine(hr.frame f1 (λ_ _ x=>x)).frame W (λa e f=> ?_);have:=hp hb a.block ⟨a,e,rfl⟩;exact f.elim (λe=>this (e▸bS)) (λf=>this (kS _ f))
   refine⟨_,_,_,ar k1,_,ar c',gF M' rfl ag λP C w o6 f6 g6=>⟨_,_,_,rfl,ar (f6.get c' (λx=>x)),ar (f6.get k1 (λx=>x)),?_⟩⟩;refine cF ?_;have f7:Fr No w (w.push (.cells #[.U (id:Int),.slice P b.length C] 161)):=Fr.push _ _;have p':Row (w.push (.cells #[.U (id:Int),.slice P b.length C] 161)) (Sa w.size 0) (AV.enc ⟨id,⟨P,C,b⟩⟩):=jl (cs:=AV.enc ⟨id,⟨P,C,b⟩⟩);have O':(w.push (.cells #[.U (id:Int),.slice P b.length C] 161)).size=w.size+1:=dJ _;generalize w.push (.cells #[.U (id:Int),.slice P b.length C] 161)=h7 at f7 p' O'⊢;have f67:=f6.tt f7;have i':qq h7 h.size id:=f67.get c' (λx=>x);have k':=f67.get k1 (λx=>x);refine⟨ar i',ar k',?_⟩;have o5:=o4.frame f5 (λx f e=>T x f e);have o7:=o5.frame f67 (λ_ _ x=>x);have fl:=cr (λx:AV=>decide (x.id≠id)) s.kept;refine dT tA uA o7 p' rfl (λv hv=>by simp at hv;rcases hv with rfl|rfl<;>rfl) ag ag ?_;intro p8 c8 h8 o8 _ f8 g8;have A':qq h8 h.size id:=f8.get i' j';have C':=f8.get k' (λf=>T _ f rfl);refine⟨_,_,_,rfl,ar A',aw.2 ?_⟩;refine bw C' bP λz q1 q2 q3=>aw.2 ⟨_,_,_,ar q1,?_⟩
   have f9:Fr (λx=>x=s.b) h8 z:=Fr.of_eq q2 q3;have z5:d.size<=F.size:=W.1;have z6:=f6.1;have z8:=f8.1;have P':s.b<d.size:=aD S.cT;have l': ∀c,aR s.kp c->c<d.size:=λc q=>S.qp.dY q
   have n': ∀c,aR p8 c->aR s.kp c\/h7.size<=c:=g8;have F': ∀c,aR p8 c->c≠s.b:=λc q e=>(n' c q).elim (λf=>T c f e) (λf=>ag)
   have U:=o8.frame f9 (λx f e=>F' x f e);have F9:Fr (λx=>x=s.b\/aR s.kp x) d z:=W.tt ((f67.mono (λ_ _=>False.elim)).tt ((f8.mono (λ_ _ f=> .inr f)).tt (f9.mono (λ_ _ f=> .inl f))));have r: ∀c,aR P c->F.size<=c/\c<w.size:=λc q=>⟨g6 c q,o6.dY q⟩
   have I':fJ z P b.length C 1 (bc b):=((o6.frame f7 (λ_ _ x=>x)).frame f8 (λc q f=>hY (r c q) (l' c f))).frame f9 (λc q e=>bY (r c q));have r':(s.kept.filter (λx:AV=>decide (x.id≠id))).flatMap AV.enc++AV.enc ⟨id,⟨P,C,b⟩⟩=(s.kept.filter (λx:AV=>decide (x.id≠id))++ [(⟨id,⟨P,C,b⟩⟩:AV)]).flatMap AV.enc:=by rw[da];simp
   rw[r']at U;have D':(s.kept.filter (λx:AV=>decide (x.id≠id))++ [(⟨id,⟨P,C,b⟩⟩:AV)]).map AV.abs=s.abs.kept.filter (λa=>decide (a.1≠id))++ [(id,b)]:=by
    rw[aZ,Ho];rfl
   have M:(s.kept.filter (λx:AV=>decide (x.id≠id))++ [(⟨id,⟨P,C,b⟩⟩:AV)]).length=(s.kept.filter (λx:AV=>decide (x.id≠id))).length+1:=by rw[aA];rfl
   have E': ∀a∈s.kept.filter (λx:AV=>decide (x.id≠id))++ [(⟨id,⟨P,C,b⟩⟩:AV)],a.v.ok z (λc=>X.D c\/aR P c):=by
    intro a ha;rcases bM.1 ha with ha|ha
    .exact((S.kd a (ba.1 ha).1).frame F9 kD).mono (λc=> .inl)
    .simp at ha;subst ha;exact BV.kU I' (λc=> .inr)
   generalize s.kept.filter (λx:AV=>decide (x.id≠id))++ [(⟨id,⟨P,C,b⟩⟩:AV)]=K at*;generalize (s.kept.filter (λx:AV=>decide (x.id≠id))).length=t' at*;refine aG.of λJ1 g'=> ?_
   have fin: ∀(g:ai)(K':List AV)(G:cy)(J:Nat),(∃j,K'=K.drop j)->K'.map AV.abs=iZ s.abs.kept id b->At g { s with kept:=K',kp:=G,kc:=J } ->fJ g G K'.length J 2 (K'.flatMap AV.enc)->
     (∀c,aR G c->aR s.kp c\/h7.size<=c)->Fr (λx=>x=s.b) z g->J1 g:=by
    intro g K' G J ⟨j,hj⟩ hK v' y' a' f12;subst g';have V:Fr (λx=>x=s.b\/aR s.kp x) d g:=F9.tt (f12.mono (λ_ _ f=> .inl f));obtain⟨O,HH,st⟩:=Z.Tw (s':= { s with kept:=K',kp:=G,kc:=J }) (E:=aR P) hS Q rfl V (λc f=>f.elim (λe=>⟨_,e▸S.lb,ag,ag⟩) (λf=>⟨_,S.kl c f,ag,ag⟩)) v' y'
     (λc q=>(a' c q).imp (S.kl c) (λf=>ag)) (S.uw.frame V (λc q f=>f.elim (G' c q) (λf=>m' c f q))) (λc q=> .inl (S.nl c q))
     (λc q y=>(a' c q).elim (λf=>m' c f y) (λf=>bY (S.uw.dY y)))
     (λc q=>⟨bY ((r c q).1),qW ((r c q).2) f9.1 f12.1,λf=>(a' c f).elim (λy=>hY (l' c y) (r c q)) (λy=>bY (r c q)),λf=>hY (S.uw.dY f) (r c q)⟩)
     (λa ha=>(E' a (by rw[hj]at ha;exact fF ha)).frame f12 (λc q e=>q.elim (λq=>kD c q (.inl e)) (λq=>bY (r c q))))
     (λn I=>((S.nd n I).frame V kD).mono (λc=> .inl))
    refine hk g O ?_ (st1.trans st);unfold kr;rw[show((i:Int)+1 - 1).toNat=i by omega];have:({ s with kept:=K',kp:=G,kc:=J } :SC).abs= { s.abs with kept:=iZ s.abs.kept id b } :=by
     unfold SC.abs;dsimp only;rw[hK];rfl
    rw[this]at HH;exact HH
   clear g';unfold iZ at fin;rw[<-D',aF,M]at fin;by_cases f':((t'+1:Nat):Int)>6
   .simp only[f',bC,bj];rw[fK]at fin;refine aw.2 ⟨_,_,_,ar q1,ag,?_⟩;rw[<-M]at U;have o':=U.sub (l:=1) (u:=K.length) ag (bk _);rw[<-eU AV.enc 2 gM K,fb,lP AV.enc 2 gM]at o';refine JZ o'.iw (by rw[bF,<-M];rfl) (by rw[bF];omega) λJ' q' u' H' f11 e'=>⟨_,_,_,rfl,aw.2 ?_⟩
    have L':=f11.get q1 (λx=>x);refine bw L' bP λg r1 r2 r3=> ?_
    have f12:Fr (λx=>x=s.b) u' g:=Fr.of_eq r2 r3;have z9:=f9.1;refine fin g (K.drop 1) J' q' ⟨1,rfl⟩ List.map_drop ?_ (H'.frame f12 (λc q e=>bY (e' c q))) (λc q=> .inr (bY (e' c q))) ((f11.mono (λ_ _=>False.elim)).tt f12);exact r1
   .simp only[f',bp,au,aM];rw[dc]at fin;refine fin z K p8 c8 ⟨0,rfl⟩ rfl ?_ (by rw[M];exact U) n' (Fr.refl _ _);show z[s.b]? =_;rw[q1];dsimp only;rw[M];rfl
  clear hJ;refine⟨_,ar b',?_⟩;by_cases c1:(id:Int)>1099511627776
  .simp only[c1,bC,bj];exact jt (.inl ag)
  .simp only[c1,bp,au,aM];by_cases c2:(b.length:Int)>1000
   .simp only[c2,bC];exact jt (.inr ag)
   .simp only[c2,bp];exact jf ag
 .rw[af (by rfl)];rw[kq (by rw[aF];exact I)]at hk;exact hk d X (N.frame f1 (λ_ _ x=>x)) st1
theorem O6(id:Nat)(f:k=(id:Int))(H:Has h t X A)(ok:lB A)(q:Row h p (bc b))(j:n=b.length)(l:b≠ []->∀x,aR p x->¬X.M x)(hk: ∀h' a,Has h' t a (zJ A num id b)->bm X h a h'->R (.I (MU A num id b)) h'):
  Cl 46 #[.P t 0,.I num,.U k,.slice p n m] h R:=by
 obtain⟨B,H⟩:=H;exact Nk id f H ok q j l λh' a e st=>hk h' a ⟨B,e⟩ st
theorem Kz(xs:List AV)(id:Nat):Ih (xs.map AV.abs) id=(xs.find? (λa=>decide (a.id=id))).map (λa=>a.v.b):=by
 unfold Ih;rw[List.find?_map,Option.map_map];rfl
theorem O7(id:Nat)(Y:k=(id:Int))(H:Has h t X A)(ok:lB A)(f: ∀b,BH A num id=some b->∀h' P c',fJ h' P b.length c' 1 (bc b)->Fr No h h'->(∀x,aR P x->h.size<=x)->R (.tuple #[.slice P b.length c',.bool true]) h')(K:BH A num id=none->gL h R (.tuple #[.Z,.bool false])):
  Cl 42 #[.P t 0,.I num,.U k] h R:=by
 subst Y;obtain⟨_,o,L,y,rfl,_,hS⟩:=H;have Z:=ok.le;rw[aF]at Z;refine rJ.walk (cF ?_);have f1:Fr No h (h.push (.cells #[.U (id:Int)] 27)):=Fr.push _ _;have I:qq (h.push (.cells #[.U (id:Int)] 27)) h.size id:=bV;generalize h.push (.cells #[.U (id:Int)] 27)=d at f1 I⊢;have T:=y.on f1;unfold BH at f K;refine gH T (λi s e l=>⟨_,_,rfl,?_⟩) (λhn=>⟨_,_,rfl,?_⟩) ag
 .rw[ae bP];subst e;rw[oJ,j0 l]at f K;dsimp only at f K;rw[show s.abs.kept=s.kept.map AV.abs from rfl,Kz]at f K;have S:=T.ses i s l;have sY:=ok.at_ i _ (j0 l);have kl:s.kept.length<=6:=by have:=sY.kl;rwa[show s.abs.kept.length=s.kept.length from aF _]at this
  refine aw.2 ⟨_,_,_,ar S.cT,GP S.qp.iw rfl ag I λB f3=>⟨_,rfl,?_⟩⟩;unfold xw;cases r:s.kept.findIdx? (λa=>decide (a.id=id))with
  |none=>
   rw[af (by rfl)];have:s.kept.find? (λa=>decide (a.id=id))=none:=by
    rw[List.find?_eq_none];intro a J;have:=cY.1 r a J;simpa using this
   rw[this]at K;exact K rfl B (f1.tt f3)
  |some j=>
   dsimp only;obtain⟨u,W,V⟩:=cp.1 r;rw[dc];have q:s.kept[j]? =some s.kept[j]:=aj u;have N:s.kept.find? (λa=>decide (a.id=id))=some s.kept[j]:=by
    rw[fa];exact⟨W,j,u,rfl,λi U=>by have:=V i U;simpa using this⟩
   rw[N]at f;have M:=f3.get S.cT (λx=>x);have O:=S.qp.frame f3 (λ_ _ x=>x);have z:=S.kd _ (bn q);have b':s.kept[j].v.b.length<=1000:=(sY.kd (AV.abs s.kept[j]) (bx (bn q))).2;generalize s.kept[j]=a at*;obtain⟨ab,a',v⟩:=O.addr ag;have w:=O;rw[v]at w;have Q:=w.gJ gM q;refine aw.2 ⟨_,_,_,ar M,ag,?_⟩;rw[v];refine aw.2 ⟨a.v.p,a.v.b.length,a.v.c,?_,?_⟩
   .rw[aI];exact Q.2.1
   refine gF (z.row.frame f3 (λ_ _ x=>x)) rfl ag λp4 C F o4 f4 G=>⟨_,_,_,rfl,?_⟩
   exact f a.v.b rfl F p4 C o4 (f1.tt (f3.tt f4)) (λx hx=>hY (G x hx) ((f1.tt f3).1))
 .rw[af (by rfl)];rw[kq (by rw[aF];exact hn)]at K;exact K rfl d f1
theorem KA(a:n=b.length)(hk:R (.bool (qS b)) h):Cl 302 #[.slice p n m] h R:=by
 subst a;refine xu.walk ?_;unfold qS at hk;by_cases d:(b.length:Int)≥1
 .by_cases H:(b.length:Int)<=600
  .simpa[d,H,show 1<=b.length by omega,show b.length<=600 by omega]using hk
  .simpa[d,H,show 1<=b.length by omega,show¬b.length<=600 by omega]using hk
 .simpa[d,show¬1<=b.length by omega]using hk
theorem Db.TG(T:Db d t o X.D L)(y: ∀c,X.M c↔ ∃r,o c=some r)(w:L[i]? =some s)(B:At g { s with notes:=K',np:=np',nc:=nc' })(C:fJ g np' K'.length nc' 1 (K'.flatMap nE))(v: ∀c,aR np' c->aR s.np c\/d.size<=c)(f:Fr (λx=>x=s.b\/aR s.np x) d g)(u: ∀c,E c->o c=none/\c<g.size/\¬aR np' c)(hd: ∀n∈K',n.ok g (λc=>X.D c\/E c)):
  ∃l,rM g t l ((L.map SC.abs).set i { s.abs with notes:=K'.map BV.b }) (L.map SC.b)/\Fr X.M d g/\(∀c,l.M c->X.M c\/d.size<=c)/\(∀c,l.D c->X.D c\/E c)/\∀c,X.D c->l.D c:=by
 have S:=T.ses i s w;have F: ∀c,aR s.kp c->c≠s.b:=λc H e=>by have d:=S.kl c H;rw[e,S.lb]at d;simp at d
 have N: ∀c,aR s.kp c->¬aR s.np c:=λc H q=>by have d:=S.kl c H;rw[S.nl c q]at d;simp at d
 have kD: ∀c,X.D c->¬(c=s.b\/aR s.np c):=λc H j=>j.elim (λe=>T.ap c _ (e▸S.lb) H) (λj=>T.ap c _ (S.nl c j) H)
 exact T.RI (s':= { s with notes:=K',np:=np',nc:=nc' }) (E:=E) y w rfl f (λc j=>j.elim (λe=>⟨_,e▸S.lb,ag,ag⟩) (λj=>⟨_,S.nl c j,ag,ag⟩)) B
  (S.qp.frame f (λc H j=>j.elim (F c H) (N c H))) (λc H=> .inl (S.kl c H)) C (λc H=>(v c H).imp (S.nl c) id)
  (λc q H=>(v c H).elim (λj=>N c q j) (λj=>bY (S.qp.dY q)))
  (λc H=>⟨(u c H).1,(u c H).2.1,(λj=>by have a:=S.kl c j;rw[(u c H).1]at a;cases a),(u c H).2.2⟩)
  (λa z=>((S.kd a z).frame f kD).mono (λc=> .inl)) hd
theorem Db.notes(T:Db d t o X.D L)(y: ∀c,X.M c↔ ∃r,o c=some r)(w:L[i]? =some s)(B:At g { s with notes:=K',np:=np',nc:=nc' })(C:fJ g np' K'.length nc' 1 (K'.flatMap nE))(v: ∀c,aR np' c->aR s.np c\/d.size<=c)(f:Fr (λx=>x=s.b\/aR s.np x) d g)(q: ∀c,E c->d.size<=c/\c<g.size/\¬aR np' c)(hd: ∀n∈K',n.ok g (λc=>X.D c\/E c)):
  ∃u,rM g t u ((L.map SC.abs).set i { s.abs with notes:=K'.map BV.b }) (L.map SC.b)/\bm X d u g:=by
 have S:=T.ses i s w;have F: ∀c,aR s.kp c->c≠s.b:=λc H e=>by have d:=S.kl c H;rw[e,S.lb]at d;simp at d
 have N: ∀c,aR s.kp c->¬aR s.np c:=λc H l=>by have d:=S.kl c H;rw[S.nl c l]at d;simp at d
 have kD: ∀c,X.D c->¬(c=s.b\/aR s.np c):=λc H j=>j.elim (λe=>T.ap c _ (e▸S.lb) H) (λj=>T.ap c _ (S.nl c j) H)
 exact T.Tw (s':= { s with notes:=K',np:=np',nc:=nc' }) (E:=E) y w rfl f (λc j=>j.elim (λe=>⟨_,e▸S.lb,ag,ag⟩) (λj=>⟨_,S.nl c j,ag,ag⟩)) B
  (S.qp.frame f (λc H j=>j.elim (F c H) (N c H))) (λc H=> .inl (S.kl c H)) C (λc H=>(v c H).imp (S.nl c) id)
  (λc l H=>(v c H).elim (λj=>N c l j) (λj=>bY (S.qp.dY l)))
  (λc H=>⟨(q c H).1,(q c H).2.1,λj=>hY (S.qp.dY j) ((q c H).1),(q c H).2.2⟩)
  (λa z=>((S.kd a z).frame f kD).mono (λc=> .inl)) hd
theorem Dk(H:Has h t X A)(ok:lB A)(hr:Row h p (bc b))(I:n=b.length)(hb:b.length<=1000000)(hk: ∀h' z,Has h' t z (zK A num b)->bm X h z h'->R (.I (BI A num b)) h'):
  Cl 263 #[.P t 0,.I num,.slice p n m] h R:=by
 subst I;have G:=H;obtain⟨_,o,L,T,rfl,_,hS⟩:=H;have hl:=ok.le;rw[aF]at hl;unfold zK BI at hk;refine rK.walk (gH T (λi s e F=>⟨_,_,rfl,?_⟩) (λI=>⟨_,_,rfl,?_⟩) ag)
 .rw[ae bP];subst e;rw[oJ,j0 F]at hk;dsimp only at hk;refine KA rfl ⟨_,rfl,?_⟩;have S:=T.ses i s F;have sY:=ok.at_ i _ (j0 F);have nl:s.notes.length<=6:=by have:=sY.nl;rwa[show s.abs.notes.length=s.notes.length from aF _]at this
  cases Y:qS b with
  |false=>
   simp only[Y,au,aM,false_and]at hk;simp only[dK,bj];exact hk h X G (bm.refl _ _)
  |true=>
   simp only[Y,bj,true_and]at hk;simp only[cN,au,aM];refine aw.2 ⟨_,ar S.cT,?_⟩;cases hw:s.watch with
   |false=>
    have:s.abs.watch=false:=hw;simp only[this,au,aM]at hk;simp only[dK,bj];exact hk h X G (bm.refl _ _)
   |true=>
    have a':s.abs.watch=true:=hw;rw[af a',af a']at hk;simp only[cN,au,aM];have c': ∀c,aR s.np c->c≠s.b:=λc f e=>by have d:=S.nl c f;rw[e,S.lb]at d;simp at d
    have t':s.b<h.size:=aD S.cT;have b': ∀c,aR s.np c->c<h.size:=λc f=>S.uw.dY f
    refine aw.2 ⟨_,_,_,ar S.cT,gF hr rfl ag λP C r o3 f3 g3=>⟨_,_,_,rfl,ar (f3.get S.cT id),cF ?_⟩⟩;have f4:Fr No r (r.push (.cells #[.slice P b.length C] 22)):=Fr.push _ _;have e':Row (r.push (.cells #[.slice P b.length C] 22)) (Sa r.size 0) (nE ⟨P,C,b⟩):=jl (cs:=nE ⟨P,C,b⟩);have s':(r.push (.cells #[.slice P b.length C] 22)).size=r.size+1:=dJ _;generalize r.push (.cells #[.slice P b.length C] 22)=h4 at f4 e' s'⊢;have f34:=f3.tt f4;have k4:=f34.get S.cT id;refine⟨ar k4,?_⟩;refine dT tN uN (S.uw.frame f34 cb) e' rfl (λv hv=>by simp at hv;subst hv;rfl) ag ag ?_;intro p5 c5 h5 o5 _ f5 Q;refine⟨_,_,_,rfl,aw.2 ?_⟩;have k5:=f5.get k4 (λq=>c' _ q rfl);refine bw k5 bP λw q1 q2 q3=>aw.2 ⟨_,_,_,ar q1,?_⟩
    have f6:Fr (λx=>x=s.b) h5 w:=Fr.of_eq q2 q3;have z3:=f3.1;have z5:=f5.1;have n': ∀c,aR p5 c->c≠s.b:=λc f e=>(Q c f).elim (λq=>c' c q e) (λq=>ag)
    have O:=o5.frame f6 (λx q e=>n' x q e);have J:Fr (λx=>x=s.b\/aR s.np x) h w:=(f34.mono (λ_ _=>False.elim)).tt ((f5.mono (λ_ _ q=> .inr q)).tt (f6.mono (λ_ _ q=> .inl q)));have kD: ∀c,X.D c->¬(c=s.b\/aR s.np c):=λc f q=>q.elim (λe=>T.ap c _ (e▸S.lb) f) (λq=>T.ap c _ (S.nl c q) f)
    have B: ∀c,aR P c->h.size<=c/\c<r.size:=λc f=>⟨g3 c f,o3.dY f⟩
    have p':fJ w P b.length C 1 (bc b):=((o3.frame f4 cb).frame f5 (λc f q=>hY (B c f) (b' c q))).frame f6 (λc f e=>bY (B c f));have g':s.notes.flatMap nE++nE ⟨P,C,b⟩=(s.notes++ [(⟨P,C,b⟩:BV)]).flatMap nE:=by rw[da];simp
    rw[g']at O;have l':(s.notes++ [(⟨P,C,b⟩:BV)]).map BV.b=s.abs.notes++ [b]:=by rw[aZ];rfl
    have y:(s.notes++ [(⟨P,C,b⟩:BV)]).length=s.notes.length+1:=by rw[aA];rfl
    have m': ∀a∈s.notes++ [(⟨P,C,b⟩:BV)],a.ok w (λc=>X.D c\/aR P c):=by
     intro a ha;rcases bM.1 ha with ha|ha
     .exact((S.nd a ha).frame J kD).mono (λc=> .inl)
     .simp at ha;subst ha;exact BV.kU p' (λc=> .inr)
    generalize s.notes++ [(⟨P,C,b⟩:BV)]=K at*;refine aG.of λJ1 W=> ?_
    have fin: ∀(g:ai)(K':List BV)(np':cy)(nc':Nat),(∃j,K'=K.drop j)->K'.map BV.b=BJ s.abs.notes b->At g { s with notes:=K',np:=np',nc:=nc' } ->fJ g np' K'.length nc' 1 (K'.flatMap nE)->
      (∀c,aR np' c->aR s.np c\/h4.size<=c)->Fr (λx=>x=s.b) w g->J1 g:=by
     intro g K' np' nc' ⟨j,hj⟩ hK j' k' Z f12;subst W;obtain⟨z,M,st⟩:=T.notes (E:=aR P) hS F j' k' (λc f=>(Z c f).imp (λh=>h) (λq=>ag)) (J.tt (f12.mono (λ_ _ q=> .inl q)))
      (λc f=>⟨(B c f).1,qW ((B c f).2) f6.1 f12.1,λq=>(Z c q).elim (λU=>hY (b' c U) (B c f)) (λU=>bY (B c f))⟩)
      (λa ha=>(m' a (by rw[hj]at ha;exact fF ha)).frame f12 (λc f e=>f.elim (λf=>kD c f (.inl e)) (λf=>bY (B c f))))
     refine hk g z ?_ st;unfold kr;rw[show((i:Int)+1 - 1).toNat=i by omega];rw[hK]at M;exact⟨_,M⟩
    clear W;unfold BJ at fin;rw[<-l',aF,y]at fin;by_cases V:((s.notes.length+1:Nat):Int)>6
    .simp only[V,bC,bj];rw[fK]at fin;refine aw.2 ⟨_,_,_,ar q1,ag,?_⟩;rw[<-y]at O;have d':=O.sub (l:=1) (u:=K.length) ag (bk _);rw[<-eU nE 1 nF K,fb,lP nE 1 nF]at d';refine BE d'.iw (by rw[bF,<-y];rfl) (by rw[bF];omega) λq' f' i' o' f11 N=>⟨_,_,_,rfl,aw.2 ?_⟩
     have r':=f11.get q1 id;refine bw r' bP λg r1 r2 r3=> ?_
     have f12:Fr (λx=>x=s.b) i' g:=Fr.of_eq r2 r3;have z6:=f6.1;refine fin g (K.drop 1) q' f' ⟨1,rfl⟩ List.map_drop ?_ (o'.frame f12 (λc f e=>bY (N c f))) (λc f=> .inr (bY (N c f))) ((f11.mono (λ_ _=>False.elim)).tt f12);exact r1
    .simp only[V,bp,au,aM];rw[dc]at fin;refine fin w K p5 c5 ⟨0,rfl⟩ rfl ?_ (by rw[y];exact O) Q (Fr.refl _ _);show w[s.b]? =_;rw[q1];dsimp only;rw[y];rfl
 .rw[af (by rfl)];rw[kq (by rw[aF];exact I)]at hk;exact hk h X G (bm.refl _ _)
theorem uf(H:Has h t X A)(ok:lB A)(hk: ∀h' f P c',Has h' t f (BL A num)->bm X h f h'->BV.ok h' f.D ⟨P,c',BK A num⟩->R (.tuple #[.slice P (BK A num).length c',.I (Ii A num),.I (MV A num)]) h'):
  Cl 167 #[.P t 0,.I num] h R:=by
 have C:=H;obtain⟨_,o,L,T,rfl,_,Y⟩:=H;have hl:=ok.le;rw[aF]at hl;unfold BL BK Ii MV at hk;refine rL.walk (gH T (λi s e w=>⟨_,_,rfl,aG.of λJ y=> ?_⟩) (λq=>⟨_,_,rfl,aG.of λJ y=> ?_⟩) ag)
 .rw[af (by rfl)];subst e;rw[oJ,j0 w]at hk;dsimp only at hk;have S:=T.ses i s w;have sY:=ok.at_ i _ (j0 w);have nl:s.notes.length<=6:=by have:=sY.nl;rwa[show s.abs.notes.length=s.notes.length from aF _]at this
  refine aw.2 ⟨_,_,_,ar S.cT,?_⟩;subst y;dsimp only;have Z:s.abs.notes=s.notes.map BV.b:=rfl;have mX: ∀s':fj,kr (L.map SC.abs) ((i:Int)+1) s'=(L.map SC.abs).set i s':=λs'=>by unfold kr;rw[show((i:Int)+1 - 1).toNat=i by omega]
  rw[mX,Z,aF]at hk;cases v:s.notes with
  |nil=>
   rw[v]at hk;rw[af (by rfl)];have a':(L.map SC.abs).set i { s.abs with notes:= [] } =L.map SC.abs:=by
    refine uv ?_;rw[j0 w];congr 1
    unfold SC.abs;rw[v];rfl
   refine hk h X none 0 ?_ (bm.refl _ _) ⟨.inl rfl,λr=>absurd rfl r,bP⟩;have:(List.drop 1 (List.map BV.b []))=([]:List (cD)):=rfl;rw[this,a'];exact C
  |cons x rest=>
   have r:((((x::rest).length:Nat):Int)==0)=false:=by simp only[bf,db,en];omega
   rw[ae (by rw[r];simp)];have e': ∀c,aR s.np c->c≠s.b:=λc a e=>by have d:=S.nl c a;rw[e,S.lb]at d;simp at d
   have own:=S.uw;have I:=S.cT;rw[v]at own hk nl;have z:h[s.b]? =some (.cells #[.I (s.num:Int),.U (s.token:Int),.bool s.up,.bool s.watch,.slice s.kp s.kept.length s.kc,.slice s.np (x::rest).length s.nc] 76 (0,0)):=by
    have:At h s:=I;unfold At iy.at at this;rwa[v]at this
   obtain⟨Q,U,B⟩:=own.addr bP;have O:=own;rw[B]at O;have b':=O.gJ nF (i:=0) (x:=x) rfl;refine aw.2 ⟨_,_,_,ar z,⟨ag,by simp only[bf];omega⟩,?_⟩;rw[B];refine aw.2 ⟨x.p,x.b.length,x.c,?_,aw.2 ⟨some (AA Q U),(x::rest).length,s.nc,?_,⟨ag,by simp only[bf];omega⟩,?_⟩⟩
   .have:=b'.1;rw[Nat.zero_mul,fP,fP]at this;rw[show Int.toNat 0*1=0 from rfl,fP];exact this
   .rw[<-B];exact ar z
   have K:=O.sub (l:=1) (u:=(x::rest).length) bP (bk _);rw[<-eU nE 1 nF (x::rest),fb,lP nE 1 nF]at K;refine BE (xs:=rest) K.iw bP (by simp only[bf]at nl;omega) λp3 V W o3 f3 G=>⟨_,_,_,rfl,aw.2 ?_⟩
   have q3:=f3.get z id;refine bw q3 bP λj r1 r2 r3=> ?_
   have f4:Fr (λx=>x=s.b) W j:=Fr.of_eq r2 r3;have f':s.b<h.size:=aD I;have z3:=f3.1;have F:Fr (λx=>x=s.b) h j:=(f3.mono (λ_ _=>False.elim)).tt f4;have kD: ∀c,X.D c->c≠s.b:=λc a e=>T.ap c _ (e▸S.lb) a
   have N: ∀n∈x::rest,n.ok j X.D:=λn q=>(S.nd n (by rw[v];exact q)).frame F kD
   obtain⟨f,M,st⟩:=T.notes (K':=rest) (np':=p3) (nc':=V) (E:=λ_=>False) Y w r1 (o3.frame f4 (λc a e=>bY (G c a))) (λc a=> .inr (G c a)) (F.mono (λ_ _ hx=> .inl hx)) (λc a=>a.elim) (λn q=>(N n (bZ _ q)).mono (λc=> .inl));have d':BV.ok j f.D x:=(N x dh).mono st.lE;exact hk j f x.p x.c ⟨_,M⟩ st d'
 .rw[ae bP];subst y;dsimp only;rw[kq (by rw[aF];exact q)]at hk;rw[af (by rfl)];exact hk h X none 0 C (bm.refl _ _) ⟨.inl rfl,λr=>absurd rfl r,bP⟩

end fj
end
section
open Go.fT
namespace dH
open iW (Ev cV kz Sd)
open kK
variable {h:ai} {R:fp} {k:Nat}
theorem Iq{e:Ev}{tm sq:Nat}(M:Mk h k e tm sq)(hk: gL h R (.agg #[.bool e.ky,.U e.node,.U e.gk,.string e.host,.string e.jB,.U (tm:Int),.U (sq:Int)])):
  Cl 74 #[pt k] h R:=by
 refine wk.walk (ah.box λb d E c f1=> ?_);have m:=f1.get M id;refine aG.of λJ a=>⟨_,ar m,?_⟩
 subst a;dsimp only;rw[dc];refine⟨_,ar m,_,ar m,_,ar m,_,ar m,_,ar m,_,ar m,_,ar m,ah.set c λH a1 a2 a3=>ah.ld a1 (hk H (f1.fresh (Fr.of_eq (S:=λy=>y=b) a2 a3) (λy e=>ag)))⟩

end dH
end
section
namespace dH
open iW (Ev cV kz)
variable {h h':ai} {R:fp} {s k:Nat} {X:Ft} {I:ps}
def Hr(x:Ev):Prop:=cV x=true/\x≠Ev.zero
instance (x : Ev) : Decidable (Hr x) := by unfold Hr; infer_instance
theorem wX(x:Ev)(g:Hr x->∀h' b,Mk h' b x 0 0->h.size<=b->Fr No h h'->R (.tuple #[pt b,.I 0]) h')(K: ¬Hr x->gL h R (.tuple #[.pointer none,.I 3])):Cl 33 #[kz x] h R:=by
 refine Kx.walk (ay.box λb i E e f1=>aG.of λJ d=>ay.ld e (iW.e8 x λc f2=>⟨_,rfl,?_⟩));have f:=f2.get e id;cases a:cV x with
 |false=>
  rw[fK];subst d;exact K (λm=>by rw[m.1]at a;cases a) c (f1.tt f2)
 |true=>
  rw[dc];refine ay.ld f ⟨_,iW.xd (y:=Ev.zero) rfl rfl,?_⟩;subst d;by_cases H:x=Ev.zero
  .rw[av H];dsimp only;rw[af rfl];exact K (λm=>m.2 H) c (f1.tt f2)
  .rw[az H];dsimp only;rw[dc];refine ay.ld f (cF (g ⟨a,H⟩ _ _ bV (cW f1.1 f2.1) ((f1.tt f2).tt (Fr.push _ _))))
theorem iT(x:Ev)(k1:Hr x->∀h' s X I,Pt h' s X I (Kt x)->Lp h X h'->R (.tuple #[pt s,.I 0]) h')(k2: ¬Hr x->gL h R (.tuple #[.pointer none,.I 3])):Cl 8 #[kz x] h R:=by
 refine Kw.walk (ay.box λb f eb hb f1=>ay.ld hb (wX x (λl d k M g2 f2=>⟨_,_,rfl,?_⟩) (λl d f2=>⟨_,_,rfl,?_⟩)))
 .rw[dc];refine mc.iT 4800 1600 (λ_ G p m P g3 a' f3=>⟨_,_,rfl,?_⟩) (λe=>absurd e di);rw[dc];refine fj.iT λJ t V z f4 u4=>⟨_,rfl,gj.iT λK r W A u=>⟨_,rfl,fM.iT λN c Z C U=>⟨_,rfl,gV.iT λH o X3 D f7 u7=>⟨_,rfl,cF ?_⟩⟩⟩⟩
  have f8:Fr No H (H.push (.cells #[.P t 0,.P r 0,.P c 0,.P o 0,.P p 0,.P k 0,.U 0,.I 0] 41)):=Fr.push _ _;have B:(H.push (.cells #[.P t 0,.P r 0,.P c 0,.P o 0,.P p 0,.P k 0,.U 0,.I 0] 41))[H.size]? =_:=bV;have z8:(H.push (.cells #[.P t 0,.P r 0,.P c 0,.P o 0,.P p 0,.P k 0,.U 0,.I 0] 41)).size=H.size+1:=dJ _;generalize H.push (.cells #[.P t 0,.P r 0,.P c 0,.P o 0,.P p 0,.P k 0,.U 0,.I 0] 41)=g at f8 B z8⊢;have w:=f7.tt f8;have v:=U.fr.tt w;have q:=u.fr.tt v;have n:=f4.tt q;have F:=f3.tt n;have T:=f1.tt (f2.tt F);have z1:=f1.1;have z2:=f2.1;have z3:=f3.1;have z4:=f4.1;have z5:=u.fr.1;have z6:=U.fr.1;have z7:=f7.1;have S:=P.lt;have lk:=aD M
  let Y:Nat->Ft:=λi=>match i with
   |0=>V|1=>W|2=>Z|3=>X3
   |4=>⟨λy=>y=p\/y=m,λ_=>False⟩
   |5=>⟨λy=>y=k,λ_=>False⟩
   |6=>⟨λy=>y=H.size,λ_=>False⟩
   |_=>⟨λ_=>False,λ_=>False⟩
  let L:Nat->Nat:=λi=> [G.size,J.size,K.size,N.size,d.size,f.size].getD i H.size
  let O:Nat->Nat:=λi=> [J.size,K.size,N.size,H.size,G.size,d.size].getD i g.size
  have bd: ∀i y,In (Y i) y->L i<=y/\y<O i:=λi y hy=>by
   rcases i with _|_|_|_|_|_|_|i
   .exact⟨u4 y hy,z.lt y hy⟩
   .exact⟨u.ge y hy,A.lt y hy⟩
   .exact⟨U.ge y hy,C.lt y hy⟩
   .exact⟨u7 y hy,D.lt y hy⟩
   .rcases hy with hy|hy
    .rcases hy with rfl|rfl
     .exact⟨g3,S.1⟩
     .exact⟨a',S.2⟩
    .exact hy.elim
   .rcases hy with hy|hy
    .have hy:y=k:=hy;exact⟨hy▸g2,hy▸lk⟩
    .exact hy.elim
   .rcases hy with hy|hy
    .have hy:y=H.size:=hy;exact⟨by show H.size<=y;omega,by show y<g.size;omega⟩
    .exact hy.elim
   .rcases hy with hy|hy<;>exact hy.elim
  refine k1 l g H.size ⟨λy=> ∃i,(Y i).M y,λy=> ∃i,(Y i).D y⟩ ⟨t,r,c,o,p,k⟩ ⟨Y,λi=> ?_,λi j y b' hy Q=> ?_,λ_=>eE,λ_=>eE⟩ ⟨T,λy hy=> ?_⟩
  .rcases i with _|_|_|_|_|_|_|i
   .exact z.frame q cb
   .exact A.on v
   .exact C.on w
   .exact gV.zM.on ⟨[],D,gV.okB.nil⟩ f8
   .exact⟨m,P.frame n id id,λy=>⟨eE,id⟩⟩
   .exact⟨F.get M id,λy=>⟨eE,id⟩⟩
   .exact⟨B,λy=>⟨eE,id⟩⟩
   .exact λy hy=>hy.elim id id
  .have f:=bd i y hy;have d:=bd j y Q;have E: ∀i,¬In (Y (i+7)) y:=λi hy=>hy.elim id id
   rcases i with _|_|_|_|_|_|_|i<;>first|exact E i hy|(rcases j with _|_|_|_|_|_|_|j<;>first|exact E j Q|exact b' rfl|(simp only[L,O,List.getD_cons_zero,List.getD_cons_succ,List.getD_nil]at f d;omega))
  .have key: ∀i,In (Y i) y->h.size<=y:=λi a=>by
    have f:=(bd i y a).1;rcases i with _|_|_|_|_|_|_|i<;>(simp only[L,List.getD_cons_zero,List.getD_cons_succ,List.getD_nil]at f;omega)
   rcases hy with⟨i,a⟩|⟨i,a⟩
   .exact key i (.inl a)
   .exact key i (.inr a)
 .rw[fK];exact k2 l d (f1.tt f2)

end dH
end
section
variable {h:ai} {R:fp}
variable {s out:Nat} {a:cg.S}
theorem KB.walk{now:Int}{dN:Int}(H:R (.U (if 1099511627776<wrap .u64 (now+dN)then 1099511627776 else wrap .u64 (now+dN))) h):Cl 157 #[.U now,.U dN] h R:=aO (lq ll) Tryz.func157 H
theorem Nl.walk{S:ay.S}(I:aQ h (.cells S.arr 29) λb x=>aQ x (.cells ah.S.z.arr 124) λc C=>aQ C (.cells ah.S.z.arr 124) λd q=>Hp q s 5 λt15=>Cl 74 #[.pointer t15] q λv E=>ah.EX λt16=>v=t16.agg/\aQ E (.cells ah.S.z.arr 124) λB F=>ah.cX F (AA B 0) t16 λr=>ay.cv r (AA B 0) λt19=>Cl 33 #[t19.agg] r λV H=> ∃t T,V=.tuple #[.pointer t,.I T]/\if(T !=0)then ah.cX H (AA c 0) ah.S.z λG=>ah.cX G (AA d 0) ah.S.z λk=>ah.cv k (AA c 0) λK=>ah.cv k (AA d 0) λr1=>R (.tuple #[K.agg,r1.agg,.I T]) k else aG (λ(t35:Bool) (i:ai)=>aG (λ(m:ai)=>Hu m s 6 λt44=>Cl 190 #[.pointer t,.U t44] m λN y=>ah.EX λu=> ∃w,N=.tuple #[u.agg,.I w]/\aQ y (.cells ah.S.z.arr 124) λe z=>ah.cX z (AA e 0) u λn=>ah.cv n (AA e 0) λt48=>aQ n (.cells ah.S.z.arr 124) λg A=>ah.cX A (AA g 0) t48 λo=>ay.cv o (AA b 0) λt49=>ay.cX o (AA g 0) t49 λf=>ah.cv f (AA g 0) λt51=>ah.cv f (AA e 0) λt52=>ah.cX f (AA c 0) t51 λp=>Kp f p [(Sa e 0)]/\ah.cX p (AA d 0) t52 λj=>ah.cv j (AA c 0) λL=>ah.cv j (AA d 0) λM=>R (.tuple #[L.agg,M.agg,.I w]) j) (λl=>if t35 then ah.cv i (AA B 0) λt37=>Cl 189 #[.pointer t,t37.agg] i λO D=> ∃t38,O=.I t38/\l D else l i)) (λJ=> ∃t29,Cc H B 5 (.U t29)/\if(decide (t29>0))then J true H else∃t33,Cc H B 6 (.U t33)/\J (decide (t33>0)) H)):Cl 150 #[.P s 0,S.agg] h R:=aO (lq (lq (lq (sq (lq (cq ll lf)) (sq (sq (.join [(35,.one (.bool))] lf) (.join [] (cq lf lf))) (lq (lq (lq (sq (pK 6) lf))))))))) Tryz.func150 I
theorem AO.walk{b:aq.S}{own:ah.S}(r:aQ h (.cells a.arr 98) λB o=>aQ o (.cells b.arr 129) λf p=>aQ p (.cells own.arr 124) λn g=>aq.cv g (AA f 0) λt13=>Cl 58 #[t13.agg] g λv H=> ∃k t j T,v=.tuple #[.slice k t j,.I T]/\if(T !=0)then R (.tuple #[.I 0,.I 0,.I T]) H else Hp H B 19 λt22=>Hi H B 20 λt24=>Hp H B 19 λt27=>aL t27 λA=>fW H (A.add 6) λt30=>Hu H f 19 λt33=>Cl 157 #[.U t30,.U t33] H λV d=> ∃t34,V=.U t34/\Kp H d [(Sa B 19),(Sa B 20),(Sa B 19)]/\Cl 191 #[.pointer t22,.I t24,.slice k t j,.U t34] d λu c=> ∃l e,u=.tuple #[.I l,.I e]/\Kp d c [(Sa B 19)]/\aG (λ(q:ai)=>R (.tuple #[.I l,.I ((t:Nat):Int),.I e]) q) (λJ=>if(e==0)then Hp c B 19 λt41=>aL t41 λm=>yu c (m.add 5) λt44=>ah.cv c (AA n 0) λt45=>Cl 189 #[.pointer t44,t45.agg] c λw i=> ∃t46,w=.I t46/\Kp c i [(Sa B 19)]/\J i else J c)):Cl 151 #[a.agg,b.agg,own.agg] h R:=aO (lq (lq (sq (lq (cq ll lf)) (sq (pK 20) (sq (lq (.join [] (cq (pK 7) lf))) ll))))) Tryz.func151 r
theorem Aa.walk(G:aQ h (.cells a.arr 98) λb H=>aG (λ(r:cy) (is:Bool) (c:ai)=>if(!is)then R (.I 4) c else aL r λD=>jk c (D.add 6) λt22=> ∃t24,Cc c b 20 (.I t24)/\if(t22 !=t24)then R (.I 13) c else R (.I 0) c) (λJ=>Hp H b 19 λt7=>aL t7 λA=>yu H (A.add 1) λt10=>ay.cv H (AA b 2) λt13=>(Cl 155 #[.pointer t10,t13.agg] H λv d=> ∃t j l n p u x z,v=.tuple #[.agg #[.bool t,.U j,.U l,.string n,.string p,.I u,.I x],.bool z]/\Kp H d [(Sa b 19)]/\aQ d (.cells #[.bool false,.U 0,.U 0,.string fU,.string fU,.I 0,.I 0] 136) λB g=>Kp d g [(Sa b 19)]/\bR.ST g (AA B 0) t j l n p u x λE=>J (Sa B 0) z E)/\(aQ H (.cells #[.bool false,.U 0,.U 0,.string fU,.string fU,.I 0,.I 0] 136) λf e=>Kp H e [(Sa b 2),(some (A.add 1)),(Sa b 19)]/\Cl 155 #[.pointer t10,t13.agg] e λV i=> ∃T k m o q w y C,V=.tuple #[.agg #[.bool T,.U k,.U m,.string o,.string q,.I w,.I y],.bool C]/\Kp e i [(Sa b 19)]/\bR.ST i (AA f 0) T k m o q w y λF=>J (Sa f 0) C F)/\True)):Cl 104 #[a.agg] h R:=aO (lq (sq (.join [(3,.one (.ptr)),(4,.one (.bool))] (.jz (fC 8 0 (.alts (.fork 8 (fC 6 9 .done) (.fork 12 (fC 4 8 (.op 13 (.op 14 .done))) .gX)))))) (sq (bq (lq (cq ll (lq (cq ll lf))))) ll))) Tryz.func104 G
theorem Ab.walk(D:aQ h (.cells a.arr 98) λb i=>cg.cv i (AA b 0) λt10=>Cl 104 #[t10.agg] i λv e=> ∃t11,v=.I t11/\if(t11 !=0)then R (.I t11) e else Hp e b 19 λt17=>ay.cv e (AA b 2) λt20=>Cl 150 #[.pointer t17,t20.agg] e λV x=>ah.EX λT=>ah.EX λl=> ∃t,V=.tuple #[T.agg,l.agg,.I t]/\aQ x (.cells ah.S.z.arr 124) λf y=>aQ y (.cells ah.S.z.arr 124) λg z=>ah.cX z (AA f 0) T λA=>ah.cX A (AA g 0) l λH=>if(t !=0)then R (.I t) H else ay.cv H (AA b 7) λt30=>ah.cv H (AA f 0) λt31=>Hu H b 16 λt34=>aQ H (.cells aC.S.z.arr 126) λB C=>aC.cX C (AA B 0) ⟨0,0,t30.f0,t30.f1,t30.f2,t30.f3,t30.f4,false,0,0,fU,fU,t31.f0,t31.f1,t31.f2,t31.f3,t31.f4,t31.f5,t31.f6,t34⟩ λc=>Hb c b 18 λt38=>aG (λ(d:ai)=>cg.cv d (AA b 0) λt47=>aC.cv d (AA B 0) λt48=>Hl d b 15 λG F E=>aQ d (.cells #[.U 1,.U 1,.U 0,.I 0,.slice G F E] 201) λp j=>ah.cv j (AA g 0) λt55=>Cl 151 #[t47.agg,.agg #[.U t48.f0,.I t48.f1,.bool t48.f2,.U t48.f3,.U t48.f4,.string t48.f5,.string t48.f6,.bool t48.f7,.U t48.f8,.U t48.f9,.string t48.f10,.string t48.f11,.bool t48.f12,.U t48.f13,.U t48.f14,.string t48.f15,.string t48.f16,.U t48.f17,.U t48.f18,.U t48.f19,.slice (Sa p 0) 1 1],t55.agg] j λI q=> ∃m n o,I=.tuple #[.I m,.I n,.I o]/\aS q (AA out 2) (.I m) λr=>aS r (AA out 3) (.I n) λu=>R (.I o) u) (λJ=>if t38 then ay.cv c (AA b 2) λt41=>aS c (AA B 0) (.U 131072) λk=>Kp c k [(Sa b 2)]/\ay.cX k (AA B 7) t41 λw=>J w else J c)):Cl 101 #[a.agg,.P out 0] h R:=aO (lq (sq (lq (lq (cq ll lf))) (lq (sq (lq (cq ll lf)) (lq (sq (lq (.join [] (cq (pK 7) lf))) (lq ll))))))) Tryz.func101 D
theorem Ac.walk (W:aQ h (.cells a.arr 98) λb w=>cg.cv w (AA b 0) λt10=>Cl 104 #[t10.agg] w λv H=> ∃t11,v=.I t11/\if(t11 !=0)then R (.I t11) H else aG (λ(c:cy) (e:Int) (m:ai)=>if(e !=0)then R (.I e) m else aL c λN=>oP m (N.add 6) λZ Y X=>Cl 158 #[.slice Z Y X] m λg' U=>aq.EX λL=> ∃a',g'=.tuple #[L.agg,.I a']/\aQ U (.cells aq.S.z.arr 129) λB V=>aq.cX V (AA B 0) L λf=>aL c λp=>jk f p λt52=>aq.cv f (AA B 0) λt53=>aL c λg=>oP f (g.add 6) λf' e' d'=>Cl 159 #[t53.agg] f λh' n=> ∃c' M b',h'=.slice c' M b'/\Kp f n [(some (g.add 6)),(some p)]/\aS n (AA out 2) (.I t52) λo=>Kp n o [(some (g.add 6))]/\aS o (AA out 3) (.I ((M:Nat):Int)) λC=>Kp o C [(some (g.add 6))]/\aS C (AA out 5) (.slice f' e' d') λO=>R (.I 0) O) (λJ=>Hp H b 19 λt17=>aL t17 λA=>yu H (A.add 2) λt20=>ay.cv H (AA b 2) λt23=>Hi H b 20 λt25=>Hp H b 19 λt27=>aL t27 λq=>fW H (q.add 6) λt30=>Hi H b 14 λt33=>(Cl 157 #[.U t30,.U (wrap .u64 t33)] H λi' d=> ∃t35,i'=.U t35/\Kp H d [(Sa b 14),(Sa b 19),(Sa b 20),(Sa b 2),(some (A.add 2)),(Sa b 19)]/\(Cl 156 #[.pointer t20,t23.agg,.I t25,.U t35] d λj' i=>aN.EX λD=> ∃G,j'=.tuple #[D.agg,.I G]/\Kp d i [(Sa b 14),(Sa b 19),(Sa b 19)]/\aQ i (.cells aN.S.z.arr 114) λr x=>Kp i x [(Sa b 14),(Sa b 19),(Sa b 19)]/\aN.cX x (AA r 0) D λP=>J (Sa r 0) G P)/\(aQ d (.cells aN.S.z.arr 114) λt j=>Kp d j [(Sa b 14),(Sa b 19),(Sa b 20),(Sa b 2),(some (A.add 2)),(Sa b 19)]/\Cl 156 #[.pointer t20,t23.agg,.I t25,.U t35] j λk' y=>aN.EX λE=> ∃I,k'=.tuple #[E.agg,.I I]/\Kp j y [(Sa b 14),(Sa b 19),(Sa b 19)]/\aN.cX y (AA t 0) E λQ=>J (Sa t 0) I Q)/\True)/\(aQ H (.cells aN.S.z.arr 114) λu k=>Kp H k [(Sa b 14),(some (q.add 6)),(Sa b 19),(Sa b 20),(Sa b 2),(some (A.add 2)),(Sa b 19)]/\Cl 157 #[.U t30,.U (wrap .u64 t33)] k λl' l=> ∃T,l'=.U T/\Kp k l [(Sa b 14),(Sa b 19),(Sa b 20),(Sa b 2),(some (A.add 2)),(Sa b 19)]/\Cl 156 #[.pointer t20,t23.agg,.I t25,.U T] l λm' z=>aN.EX λF=> ∃K,m'=.tuple #[F.agg,.I K]/\Kp l z [(Sa b 14),(Sa b 19),(Sa b 19)]/\aN.cX z (AA u 0) F λS=>J (Sa u 0) K S)/\True)):Cl 105 #[a.agg,.P out 0] h R:=aO (lq (sq (lq (lq (cq ll lf))) (sq (.join [(6,.one (.ptr)),(7,.one (.int .i64))] (.jz (fC 19 0 (.alts (.fork 19 (.alts (.fork 20 (fC 6 21 .done) (.fork 24 (fC 4 20 (.op 25 (.op 26 .done))) .gX))) (.fork 24 (fC 5 19 (.op 25 (.op 26 .done))) .gX)))))) (sq (lq (cq ll lf)) (lq (sq (.jz (fC 6 0 (.op 8 (.op 9 (.op 6 (.op 7 (fC 9 10 .done))))))) ll)))))) Tryz.func105 W
theorem Ad.walk{u':cy}{t' s':Nat} (hv:aQ h (.cells a.arr 98) λb VE=>Cl 158 #[.slice u' t' s'] VE λv VF=>aq.EX λL'=> ∃Sf,v=.tuple #[L'.agg,.I Sf]/\aQ VF (.cells aq.S.z.arr 129) λb' VG=>aq.cX VG (AA b' 0) L' λD'=>aC.cv D' (AA b' 0) λt21=>aQ D' (.cells aC.S.z.arr 126) λB VH=>aC.cX VH (AA B 0) t21 λC=>aG (λ(t31:Bool) (c:ai)=>if t31 then R (.I 0) c else aG (λ(id:cy) (own:cy) (e:Int) (H:ai)=>if(e !=0)then R (.I 0) H else aG (λ(VI:Int) (r:cy) (x:ai)=>if(VI !=0)then R (.I 0) x else cg.cv x (AA b 0) λt68=>aL r λVJ=>aq.cv x VJ λt69=>aL own λVK=>ah.cv x VK λt70=>Cl 151 #[t68.agg,t69.agg,t70.agg] x λRu v'=> ∃M1 M4 Ik,Ru=.tuple #[.I M1,.I M4,.I Ik]/\if(Ik !=0)then R (.I 0) v' else R (.I 1) v') (λa'=>Hp H b 19 λt50=>aL t50 λA=>fW H (A.add 6) λt53=>ah.cv H (AA B 12) λt55=>ay.cv H (AA B 7) λt58=>aL id λVL=>ah.cv H VL λt59=>Hu H B 19 λt61=>(Cl 197 #[.agg #[.bool false,.bool true,.bool false,.U 0,.U t53,.bool t55.f0,.U t55.f1,.U t55.f2,.string t55.f3,.string t55.f4,.U t55.f5,.U t55.f6],t58.agg,t59.agg,.U t61] H λRv D=>aq.EX λP0=> ∃P1,Rv=.tuple #[P0.agg,.I P1]/\Kp H D [(Sa B 12),(some (A.add 6)),(Sa b 19)]/\aQ D (.cells aq.S.z.arr 129) λm' w'=>Kp D w' [(Sa B 12),(some (A.add 6)),(Sa b 19)]/\aq.cX w' (AA m' 0) P0 λTH=>a' P1 (Sa m' 0) TH)/\(aQ H (.cells aq.S.z.arr 129) λn' E=>Kp H E [(Sa B 19),id,(Sa B 7),(Sa B 12),(some (A.add 6)),(Sa b 19)]/\Cl 197 #[.agg #[.bool false,.bool true,.bool false,.U 0,.U t53,.bool t55.f0,.U t55.f1,.U t55.f2,.string t55.f3,.string t55.f4,.U t55.f5,.U t55.f6],t58.agg,t59.agg,.U t61] E λOo x'=>aq.EX λIr=> ∃Is,Oo=.tuple #[Ir.agg,.I Is]/\Kp E x' [(Sa B 12),(some (A.add 6)),(Sa b 19)]/\aq.cX x' (AA n' 0) Ir λTI=>a' Is (Sa n' 0) TI)/\True)) (λj=>Hp c b 19 λt34=>Hp c b 19 λt36=>aL t36 λl=>yu c (l.add 5) λt39=>(Cl 74 #[.pointer t39] c λLR d=>ah.EX λt40=>LR=t40.agg/\Kp c d [(Sa b 19),(Sa b 19)]/\(Cl 150 #[.pointer t34,.agg #[.bool t40.f0,.U t40.f1,.U t40.f2,.string t40.f3,.string t40.f4]] d λQj m=>ah.EX λX=>ah.EX λY=> ∃Z,Qj=.tuple #[X.agg,Y.agg,.I Z]/\Kp d m [(Sa b 19)]/\(aQ m (.cells ah.S.z.arr 124) λo' F=>Kp m F [(Sa b 19)]/\aQ F (.cells ah.S.z.arr 124) λp' y'=>Kp F y' [(Sa b 19)]/\ah.cX y' (AA o' 0) X λTJ=>ah.cX TJ (AA p' 0) Y λTK=>j (Sa o' 0) (Sa p' 0) Z TK)/\(aQ m (.cells ah.S.z.arr 124) λq' G=>Kp m G [(Sa b 19)]/\aQ G (.cells ah.S.z.arr 124) λr' z'=>Kp G z' [(Sa b 19)]/\ah.cX z' (AA r' 0) X λTL=>ah.cX TL (AA q' 0) Y λTM=>j (Sa r' 0) (Sa q' 0) Z TM)/\True)/\(aQ d (.cells ah.S.z.arr 124) λz n=>Kp d n [(Sa b 19),(Sa b 19)]/\(Cl 150 #[.pointer t34,.agg #[.bool t40.f0,.U t40.f1,.U t40.f2,.string t40.f3,.string t40.f4]] n λRp I=>ah.EX λM'=>ah.EX λW'=> ∃Iu,Rp=.tuple #[M'.agg,W'.agg,.I Iu]/\Kp n I [(Sa b 19)]/\aQ I (.cells ah.S.z.arr 124) λc' A'=>Kp I A' [(Sa b 19)]/\ah.cX A' (AA z 0) M' λTN=>ah.cX TN (AA c' 0) W' λTO=>j (Sa z 0) (Sa c' 0) Iu TO)/\(aQ n (.cells ah.S.z.arr 124) λd' K=>Kp n K [(Sa b 19),(Sa b 19)]/\Cl 150 #[.pointer t34,.agg #[.bool t40.f0,.U t40.f1,.U t40.f2,.string t40.f3,.string t40.f4]] K λRr B'=>ah.EX λO'=>ah.EX λY'=> ∃Iv,Rr=.tuple #[O'.agg,Y'.agg,.I Iv]/\Kp K B' [(Sa b 19)]/\ah.cX B' (AA z 0) O' λTP=>ah.cX TP (AA d' 0) Y' λTQ=>j (Sa z 0) (Sa d' 0) Iv TQ)/\True)/\(aQ d (.cells ah.S.z.arr 124) λy o=>Kp d o [(Sa b 19),(Sa b 19)]/\(Cl 150 #[.pointer t34,.agg #[.bool t40.f0,.U t40.f1,.U t40.f2,.string t40.f3,.string t40.f4]] o λRs L=>ah.EX λP'=>ah.EX λZ'=> ∃Iw,Rs=.tuple #[P'.agg,Z'.agg,.I Iw]/\Kp o L [(Sa b 19)]/\aQ L (.cells ah.S.z.arr 124) λe' C'=>Kp L C' [(Sa b 19)]/\ah.cX C' (AA e' 0) P' λTR=>ah.cX TR (AA y 0) Z' λTT=>j (Sa e' 0) (Sa y 0) Iw TT)/\(aQ o (.cells ah.S.z.arr 124) λf' M=>Kp o M [(Sa b 19),(Sa b 19)]/\Cl 150 #[.pointer t34,.agg #[.bool t40.f0,.U t40.f1,.U t40.f2,.string t40.f3,.string t40.f4]] M λRt E'=>ah.EX λQ'=>ah.EX λIx=> ∃Iy,Rt=.tuple #[Q'.agg,Ix.agg,.I Iy]/\Kp M E' [(Sa b 19)]/\ah.cX E' (AA f' 0) Q' λTU=>ah.cX TU (AA y 0) Ix λTV=>j (Sa f' 0) (Sa y 0) Iy TV)/\True)/\True)/\(aQ c (.cells ah.S.z.arr 124) λf p=>Kp c p [(some (l.add 5)),(Sa b 19),(Sa b 19)]/\(Cl 74 #[.pointer t39] p λQp q=>ah.EX λt=>Qp=t.agg/\Kp p q [(Sa b 19),(Sa b 19)]/\(Cl 150 #[.pointer t34,.agg #[.bool t.f0,.U t.f1,.U t.f2,.string t.f3,.string t.f4]] q λQq N=>ah.EX λR'=>ah.EX λIz=> ∃IA,Qq=.tuple #[R'.agg,Iz.agg,.I IA]/\Kp q N [(Sa b 19)]/\aQ N (.cells ah.S.z.arr 124) λg' F'=>Kp N F' [(Sa b 19)]/\ah.cX F' (AA f 0) R' λTW=>ah.cX TW (AA g' 0) Iz λTX=>j (Sa f 0) (Sa g' 0) IA TX)/\(aQ q (.cells ah.S.z.arr 124) λh' O=>Kp q O [(Sa b 19),(Sa b 19)]/\Cl 150 #[.pointer t34,.agg #[.bool t.f0,.U t.f1,.U t.f2,.string t.f3,.string t.f4]] O λTY G'=>ah.EX λS'=>ah.EX λIB=> ∃IC,TY=.tuple #[S'.agg,IB.agg,.I IC]/\Kp O G' [(Sa b 19)]/\ah.cX G' (AA f 0) S' λTZ=>ah.cX TZ (AA h' 0) IB λT0=>j (Sa f 0) (Sa h' 0) IC T0)/\True)/\(aQ p (.cells ah.S.z.arr 124) λi' P=>Kp p P [(some (l.add 5)),(Sa b 19),(Sa b 19)]/\Cl 74 #[.pointer t39] P λT1 Q=>ah.EX λi=>T1=i.agg/\Kp P Q [(Sa b 19),(Sa b 19)]/\Cl 150 #[.pointer t34,.agg #[.bool i.f0,.U i.f1,.U i.f2,.string i.f3,.string i.f4]] Q λT4 H'=>ah.EX λT'=>ah.EX λID=> ∃IE,T4=.tuple #[T'.agg,ID.agg,.I IE]/\Kp Q H' [(Sa b 19)]/\ah.cX H' (AA f 0) T' λT5=>ah.cX T5 (AA i' 0) ID λT6=>j (Sa f 0) (Sa i' 0) IE T6)/\True)/\(aQ c (.cells ah.S.z.arr 124) λg u=>Kp c u [(some (l.add 5)),(Sa b 19),(Sa b 19)]/\(Cl 74 #[.pointer t39] u λT8 w=>ah.EX λT=>T8=T.agg/\Kp u w [(Sa b 19),(Sa b 19)]/\(Cl 150 #[.pointer t34,.agg #[.bool T.f0,.U T.f1,.U T.f2,.string T.f3,.string T.f4]] w λUa S=>ah.EX λU'=>ah.EX λIF=> ∃IG,Ua=.tuple #[U'.agg,IF.agg,.I IG]/\Kp w S [(Sa b 19)]/\aQ S (.cells ah.S.z.arr 124) λj' I'=>Kp S I' [(Sa b 19)]/\ah.cX I' (AA j' 0) U' λUb=>ah.cX Ub (AA g 0) IF λUc=>j (Sa j' 0) (Sa g 0) IG Uc)/\(aQ w (.cells ah.S.z.arr 124) λk' U=>Kp w U [(Sa b 19),(Sa b 19)]/\Cl 150 #[.pointer t34,.agg #[.bool T.f0,.U T.f1,.U T.f2,.string T.f3,.string T.f4]] U λUd J'=>ah.EX λV'=>ah.EX λII=> ∃IJ,Ud=.tuple #[V'.agg,II.agg,.I IJ]/\Kp U J' [(Sa b 19)]/\ah.cX J' (AA k' 0) V' λUe=>ah.cX Ue (AA g 0) II λUf=>j (Sa k' 0) (Sa g 0) IJ Uf)/\True)/\(aQ u (.cells ah.S.z.arr 124) λl' V=>Kp u V [(some (l.add 5)),(Sa b 19),(Sa b 19)]/\Cl 74 #[.pointer t39] V λUg W=>ah.EX λk=>Ug=k.agg/\Kp V W [(Sa b 19),(Sa b 19)]/\Cl 150 #[.pointer t34,.agg #[.bool k.f0,.U k.f1,.U k.f2,.string k.f3,.string k.f4]] W λUh K'=>ah.EX λN'=>ah.EX λX'=> ∃Fb,Uh=.tuple #[N'.agg,X'.agg,.I Fb]/\Kp W K' [(Sa b 19)]/\ah.cX K' (AA l' 0) N' λUi=>ah.cX Ui (AA g 0) X' λUj=>j (Sa l' 0) (Sa g 0) Fb Uj)/\True)/\True)) (λJ=> ∃t23,Cc C B 0 (.U t23)/\if((wrap .u64 ((mr t23 &&& mr 131072).toNat:Int))==0)then J true C else∃t28,Cc C B 0 (.U t28)/\J ((wrap .u64 ((mr t28 &&& mr 2).toNat:Int)) !=0) C)):Cl 164 #[a.agg,.slice u' t' s'] h R:=aO (lq (lq (lq (sq (sq (.join [(31,.one (.bool))] lf) (cq ll lf)) (sq (.join [(8,.one (.ptr)),(9,.one (.ptr)),(10,.one (.int .i64))] (.jz (fC 7 0 (.alts (.fork 7 (.op 8 (.alts (.fork 9 (fC 4 10 (.alts (.fork 14 (fC 4 15 .done) (.fork 15 (.op 14 (fC 3 16 .done)) .gX)))) (.fork 14 (.alts (.fork 9 (fC 4 10 (fC 4 15 .done)) (.fork 15 (fC 5 9 (fC 3 16 .done)) .gX))) (.fork 15 (.alts (.fork 9 (fC 5 10 (fC 3 16 .done)) (.fork 14 (fC 5 9 (fC 3 16 .done)) .gX))) .gX))))) (.fork 14 (.alts (.fork 7 (.op 8 (.alts (.fork 9 (fC 4 10 (fC 4 15 .done)) (.fork 15 (fC 5 9 (fC 3 16 .done)) .gX)))) (.fork 15 (fC 7 7 (fC 3 16 .done)) .gX))) (.fork 15 (.alts (.fork 7 (.op 8 (.alts (.fork 9 (fC 5 10 (fC 3 16 .done)) (.fork 14 (fC 5 9 (fC 3 16 .done)) .gX)))) (.fork 14 (fC 7 7 (fC 3 16 .done)) .gX))) .gX))))))) (sq (lq (cq ll lf)) (sq (.join [(10,.one (.int .i64)),(11,.one (.ptr))] (.jz (fC 13 0 (.alts (.fork 13 (fC 6 14 .done) (.fork 17 (fC 4 13 (.op 18 (.op 19 .done))) .gX)))))) (sq (lq (cq ll lf)) (sq (lq (lq (cq ll lf))) ll))))))))) Tryz.func164 hv
theorem iI.TD.walk{c:cy}{S e:Nat}{f:Nat}(d: ∃(I:Int->ai->Prop)(m:Int->ai->Nat),I 0 h/\∀(t8:Int)(H:ai),I t8 H->if(decide (t8<(S:Int)))then Bd t8 S/\aL c λa=>aN.cv H (a.add (toNat t8*10)) λt15=>Cl 163 #[t15.agg,.P f 0] H λv b=> ∃t16,v=.bool t16/\if t16 then R (.I t8) b else(I (wrap .i64 (t8+1)) b/\m (wrap .i64 (t8+1)) b<m t8 H)else R (.I (-1)) H):Cl 162 #[.slice c S e,.func (.func 163) #[] #[.P f 0]] h R:=aO (lq (sq (lq (bq (.loop [(8,.one (.int .i64))] (lq (sq (cq lf lf) (sq (bq (lq (lq (cq ll lf)))) lf)))))) ll)) Tryz.func162 d
theorem AP.walk (n:aQ h (.cells a.arr 98) λb d=>Hp d b 19 λt9=>aL t9 λA=>yu d (A.add 2) λt12=>Cl 160 #[.pointer t12] d λv H=>Vl v λT t o=>Hp H b 19 λt15=>aL t15 λg=>yu H (g.add 2) λt18=>Hi H b 13 λt21=>Hi H b 20 λt23=>Cl 161 #[.pointer t18,.I t21,.I t23] H λV e=> ∃t24,V=.I t24/\Kp H e [(Sa b 19)]/\Cl 162 #[.slice T t o,.func (.func 163) #[] #[.P b 0]] e λu f=>Vi u λt27=>aG (λ(t33:Bool) (c:ai)=>aG (λ(k:ai)=>R (.I t24) k) (λj=>if t33 then cg.cv c (AA b 0) λt35=>Bd t27 t/\aL T λi=>oP c ((i.add (toNat t27*10)).add 6) λr q p=>Cl 164 #[t35.agg,.slice r q p] c λw l=> ∃t41,w=.I t41/\aS l (AA out 3) (.I t41) λm=>j m else j c)) (λJ=>if(t24==0)then J (decide (t27≥0)) f else J false f)):Cl 106 #[a.agg,.P out 0] h R:=aO (lq (lq (sq (pK 12) (lq (sq (sq (.join [(33,.one (.bool))] lf) (.join [] (cq (pK 11) lf))) ll))))) Tryz.func106 n
theorem xD.walk{c:aN.S}{c0:Nat}(d:aQ h (.cells c.arr 114) λb H=>Hi H b 0 λt5=> ∃t8,Cc H c0 13 (.I t8)/\R (.bool (t5==t8)) H):Cl 163 #[c.agg,.P c0 0] h R:=aO (lq ll) Tryz.func163 d
theorem xE.walk(n:aQ h (.cells a.arr 98) λb c=>Hp c b 19 λt7=>aL t7 λA=>yu c A λt10=>Hi c b 20 λt12=>Hb c b 18 λt15=>Cl 166 #[.pointer t10,.I t12,.bool t15] c λv H=> ∃t16,v=.I t16/\Kp c H [(Sa b 19)]/\aG (λ(e:Int) (k:ai)=>R (.I e) k) (λJ=>if(t16==0)then Hp H b 19 λt23=>aL t23 λj=>yu H j λt26=>Hi H b 20 λt28=>Cl 167 #[.pointer t26,.I t28] H λV d=> ∃f T t g i,V=.tuple #[.slice f T t,.I g,.I i]/\Kp H d [(Sa b 19)]/\aS d (AA out 5) (.slice f T t) λl=>aS l (AA out 3) (.I g) λm=>J i m else J t16 H)):Cl 108 #[a.agg,.P out 0] h R:=aO (lq (sq (pK 12) (sq (lq (.join [(5,.one (.int .i64))] (cq (pK 21) lf))) ll))) Tryz.func108 n
theorem Dm.walk(B:aQ h (.cells a.arr 98) λb H=> ∃t8,Cc H b 1 (.I t8)/\if(t8==1)then Hp H b 19 λt12=>aL t12 λA=>yu H (A.add 1) λt15=>ay.cv H (AA b 2) λt18=>Hi H b 12 λt21=>Hi H b 20 λt23=>Cl 97 #[.pointer t15,.agg #[.bool t18.f0,.U t18.f1,.U t18.f2,.string t18.f3,.string t18.f4,.I t21,.I t23]] H λv g=> ∃t25,v=.I t25/\Kp H g [(Sa b 20),(Sa b 12),(Sa b 2),(Sa b 19)]/\R (.I t25) g else if(t8==2)then Hp H b 19 λt29=>aL t29 λk=>yu H (k.add 1) λt32=>ay.cv H (AA b 2) λt35=>Hi H b 20 λt37=>Cl 98 #[.pointer t32,t35.agg,.I t37] H λV c=> ∃t38,V=.I t38/\Kp H c [(Sa b 19)]/\aG (λ(w:ai)=>R (.I t38) w) (λJ=>if(t38==0)then Hp c b 19 λt43=>aL t43 λl=>yu c (l.add 2) λt46=>ay.cv c (AA b 2) λt49=>Cl 99 #[.pointer t46,t49.agg] c λF i=> ∃C t T,F=.slice C t T/\Kp c i [(Sa b 19)]/\aS i (AA out 3) (.I ((t:Nat):Int)) λx=>J x else J c)else if(t8==3)then Hp H b 19 λt58=>aL t58 λm=>yu H (m.add 1) λt61=>ay.cv H (AA b 2) λt64=>Hi H b 20 λt66=>Hi H b 12 λt69=>Cl 100 #[.pointer t61,t64.agg,.I t66,.I t69] H λG j=> ∃t70,G=.I t70/\Kp H j [(Sa b 19)]/\R (.I t70) j else if(t8==4)then cg.cv H (AA b 0) λt73=>Cl 101 #[t73.agg,.P out 0] H λI y=> ∃t75,I=.I t75/\R (.I t75) y else if(t8==5)then Hp H b 19 λt79=>Hi H b 13 λt82=>Hi H b 20 λt84=>Cl 102 #[.pointer t79,.I t82,.I t84] H λK z=> ∃t85,K=.I t85/\R (.I t85) z else if(t8==6)then Hp H b 19 λt90=>aL t90 λn=>yu H (n.add 2) λt93=>ay.cv H (AA b 2) λt96=>Cl 103 #[.pointer t93,t96.agg] H λL d=> ∃t97,L=.I t97/\Kp H d [(Sa b 19)]/\aS d (AA out 2) (.I t97) λe=>cg.cv e (AA b 0) λt100=>Cl 104 #[t100.agg] e λM p=> ∃t101,M=.I t101/\R (.I t101) p else if(t8==7)then cg.cv H (AA b 0) λt104=>Cl 105 #[t104.agg,.P out 0] H λN q=> ∃t106,N=.I t106/\R (.I t106) q else if(t8==8)then cg.cv H (AA b 0) λt109=>Cl 106 #[t109.agg,.P out 0] H λO r=> ∃t111,O=.I t111/\R (.I t111) r else if(t8==9)then Hp H b 19 λt115=>aL t115 λo=>yu H (o.add 2) λt118=>Hi H b 13 λt121=>Hi H b 20 λt123=>Cl 107 #[.pointer t118,.I t121,.I t123] H λD f=> ∃t124,D=.I t124/\Kp H f [(Sa b 19)]/\R (.I t124) f else if(t8==10)then cg.cv H (AA b 0) λt127=>Cl 108 #[t127.agg,.P out 0] H λE u=> ∃t129,E=.I t129/\R (.I t129) u else R (.I 3) H):Cl 44 #[a.agg,.P out 0] h R:=aO (lq (sq (lq (bq (lq (cq (sq (pK 16) lf) (lq (cq (sq (pK 12) (sq (lq (.join [] (cq (pK 14) lf))) ll)) (lq (cq (sq (pK 15) lf) (lq (cq ll (lq (cq ll (lq (cq (sq (pK 13) ll) (lq (cq ll (lq (cq ll (lq (cq (sq (pK 12) lf) (lq (cq ll lf)))))))))))))))))))))) ll)) Tryz.func44 B
theorem QK.walk{S:Int}{r:aE.S}(W:aQ h (.cells r.arr 47) λb K=>aQ K (.cells ak.S.z.arr 44) λB H=>aG (λ(t15:Bool) (e:ai)=>if t15 then Hu e b 0 λt61=>Cl 41 #[.U t61,.I 6] e λv U=>ak.EX λt62=>v=t62.agg/\ak.cX U (AA B 0) t62 λy=>ak.cv y (AA B 0) λX=>R (X.agg) y else aG (λ(t63:Bool) (f:ai)=>if t63 then Hu f b 0 λt73=>Cl 41 #[.U t73,.I 3] f λe' V=>ak.EX λt74=>e'=t74.agg/\ak.cX V (AA B 0) t74 λz=>ak.cv z (AA B 0) λY=>R (Y.agg) z else Hp f s 0 λt79=>Cl 28 #[.pointer t79,.I S] f λg' d=> ∃t81,g'=.bool t81/\if(!t81)then Hu d b 0 λt84=>Cl 41 #[.U t84,.I 16] d λh' L=>ak.EX λt85=>h'=t85.agg/\ak.cX L (AA B 0) t85 λo=>ak.cv o (AA B 0) λZ=>R (Z.agg) o else Hp d s 0 λt90=>Hu d b 0 λt93=>Cl 42 #[.pointer t90,.I S,.U t93] d λi' g=> ∃G F E I,i'=.tuple #[.slice G F E,.bool I]/\if I then Cl 43 #[.slice G F E] g λj' M=>ak.EX λT=> ∃c',j'=.tuple #[T.agg,.I c']/\aQ M (.cells ak.S.z.arr 44) λn N=>ak.cX N (AA n 0) T λp=>ak.cv p (AA n 0) λt103=>ak.cX p (AA B 0) t103 λq=>ak.cv q (AA B 0) λa'=>R (a'.agg) q else Hu g b 0 λt105=>aQ g (.cells ak.S.z.arr 44) λc O=>ak.cX O (AA c 0) ⟨t105,0,0,0,0,none,0,0⟩ λt=>aE.cv t (AA b 0) λt107=>Cl 44 #[.agg #[.U t107.f0,.I t107.f1,.bool t107.f2,.U t107.f3,.U t107.f4,.string t107.f5,.string t107.f6,.bool t107.f7,.U t107.f8,.U t107.f9,.string t107.f10,.string t107.f11,.I t107.f12,.I t107.f13,.I t107.f14,.slice t107.Oh t107.LK t107.Oi,.U t107.f16,.U t107.f17,.bool t107.f18,.P s 0,.I S],.P c 0] t λk' i=>Vi k' λt111=>aG (λ(u:ai)=>ak.cv u (AA c 0) λt119=>Cl 45 #[t119.agg] u λl' j=> ∃D C A d',l'=.tuple #[.slice D C A,.I d']/\Hp j s 0 λt126=>Hu j b 0 λt129=>Cl 46 #[.pointer t126,.I S,.U t129,.slice D C A] j λm' w=>Vi m' λt131=>ak.cv w (AA c 0) λt132=>ak.cX w (AA B 0) t132 λx=>ak.cv x (AA B 0) λb'=>R (b'.agg) x) (λm=>if(t111 !=0)then Hu i b 0 λt115=>Cl 41 #[.U t115,.I t111] i λn' P=>ak.EX λt117=>n'=t117.agg/\ak.cX P (AA c 0) t117 λQ=>m Q else m i)) (λl=>aE.cv e (AA b 0) λt64=>Cl 29 #[t64.agg] e λf' k=> ∃t65,f'=.bool t65/\if(!t65)then l true k else∃t69,Cc k b 1 (.I t69)/\l (decide (t69≥11)) k)) (λJ=> ∃t22,Cc H s 0 (.pointer t22)/\if t22.isNone then J true H else∃t29,Cc H s 1 (.pointer t29)/\if t29.isNone then J true H else∃t36,Cc H s 2 (.pointer t36)/\if t36.isNone then J true H else∃t43,Cc H s 3 (.pointer t43)/\if t43.isNone then J true H else∃t50,Cc H s 4 (.pointer t50)/\if t50.isNone then J true H else∃t57,Cc H s 5 (.pointer t57)/\J t57.isNone H)):Cl 13 #[.P s 0,.I S,r.agg] h R:=aO (lq (sq (bq (sq (.join [(15,.one (.bool))] lf) (cq ll (sq (.join [(63,.one (.bool))] lf) (cq ll (lq (cq ll lf))))))) (sq (sq (pK 13) (lq (cq (lq ll) lf))) (lq (sq (lq (lq (.join [] (cq lf lf)))) (lq (sq (pK 9) ll))))))) Tryz.func13 W
theorem Ht.walk(d:aQ h (.cells ay.S.z.arr 29) λb c=>ay.cX c (AA b 0) ⟨true,7,0,fU,fU⟩ λH=>ay.cv H (AA b 0) λr=>R (r.agg) H):Cl 9 #[] h R:=aO (lq ll) Tryz.func9 d

end
section
namespace Ask
open iW (Ev cV)
open dH (SS Good Pt ps Mk)
open Bn (iA gE hU yY CL)
variable {h h':ai} {R:fp} {s k m:Nat} {X:Ft} {I:ps} {σ:SS} {e:Ev} {tm sq:Nat}
variable {K:ai->Prop}
theorem Fc(now dN:Nat)(H:now<=1099511627776)(a:dN<=1099511627776)(hk:R (.U (mn now dN:Int)) h):Cl 157 #[.U (now:Int),.U (dN:Int)] h R:=by
 refine KB.walk ?_;rw[wrap_u64 ag ag];have:(if(1099511627776:Int)<(now:Int)+(dN:Int)then 1099511627776 else(now:Int)+(dN:Int))=(mn now dN:Int):=by unfold mn;split<;>omega
 rw[this];exact hk
theorem Nn(M:Mk h m e tm sq)(now:Nat)(P:now<=1099511627776)(Q:sq<=1099511627776)(A:tm<now->∀h',Mk h' m e now 0->Fr (λy=>y=m) h h'->R (.tuple #[(⟨e,now,0⟩:iA).s.agg,.I 0]) h')(C: ¬tm<now->sq<1099511627776->∀h',Mk h' m e tm (sq+1)->Fr (λy=>y=m) h h'->R (.tuple #[(⟨e,tm,sq+1⟩:iA).s.agg,.I 0]) h')(D: ¬tm<now->1099511627776<=sq->gL h R (.tuple #[iA.zero.s.agg,.I 5])):Cl 190 #[pt m,.U (now:Int)] h R:=by
 refine vA.walk (ah.cM λb p N i f1=>aG.of λJ u=>aG.of λE v=> ?_);have a:=f1.get M id;have Z:=aD M;have n:b≠m:=ag
 refine⟨_,ar a,?_⟩;subst v;dsimp only;refine aG.of λG w=> ?_
 rw[dc];refine aG.of λL x=> ?_
 rw[dc];refine⟨_,ar a,aG.of λj z=> ?_⟩;have fin: ∀g (t q:Nat),Mk g m e t q->Fr (λy=>y=m) p g->(∀h',Mk h' m e t q->Fr (λy=>y=m) h h'->R (.tuple #[(⟨e,t,q⟩:iA).s.agg,.I 0]) h')->j g:=by
  intro g t q f F hk;subst z;subst x;subst w;subst u;refine yY ⟨e,t,q⟩ f rfl rfl rfl rfl rfl rfl rfl (CL ⟨e,t,q⟩ (F.get i n) λd f4=>hk d (f4.get f (λe=>n e.symm)) ?_);exact(Fr.no f1 F).trans f4 cb (λc O e=>ag)
 by_cases c1:tm<now
 .rw[fK];refine bw a bP λH a1 a2 a3=>bw a1 bP λr b1 B o=> ?_
  exact fin r now 0 b1 ((Fr.of_eq (S:=λy=>y=m) a2 a3).tt (Fr.of_eq B o)) (A c1)
 rw[dc];refine⟨_,ar a,?_⟩;by_cases c2:1099511627776<=sq
 .rw[af (by simp only[aV];omega)];exact CL .zero i λd f4=>D c1 c2 d (f1.fresh f4 (λy e=>ag))
 rw[dc];refine⟨_,ar a,?_⟩;rw[wrap_u64 ag ag];refine bw a bP λH a1 a2 a3=> ?_
 have l:Mk H m e tm (sq+1):=by unfold Mk;rw[Int.natCast_add];exact a1
 exact fin H tm (sq+1) l (Fr.of_eq a2 a3) (C c1 ag)
theorem uh(a b:iA)(j:a.tm<b.tm\/a.tm=b.tm/\a.sq<b.sq)(hk: gL h R (.bool true)):Cl 238 #[a.s.agg,b.s.agg] h R:=by
 refine Eo.walk (ah.cM λb1 i E d f1=>ah.cM λB f g H f2=>⟨_,ar (f2.get d id),_,ar H,?_⟩);have c:=f2.get d id;have hk:=hk f (f1.tt f2);by_cases c1:a.tm=b.tm
 .rw[ae (by show¬(((a.tm:Int)) !=(b.tm:Int))=true;rw[c1];simp)];refine⟨_,ar c,_,ar H,?_⟩;have c2:a.sq<b.sq:=ag
  rw[af (by show(((a.sq:Int)) !=(b.sq:Int))=true;simp;omega)];refine⟨_,ar c,_,ar H,?_⟩;rw[av (by show(a.sq:Int)<(b.sq:Int);omega)];exact hk
 .rw[af (by show(((a.tm:Int)) !=(b.tm:Int))=true;simp;omega)];refine⟨_,ar c,_,ar H,?_⟩;rw[av (by show(a.tm:Int)<(b.tm:Int);omega)];exact hk
theorem Uk(M:Mk h m e tm sq)(x:iA)(b:x.e=e)(hk: ∀h',Mk h' m e x.tm x.sq->Fr (λy=>y=m) h h'->K h'):ah.cX h (AA m 0) x.s K:=by
 subst b;exact(show dD (AA m 0) x.s.l 0 h K from kk (off:=0) (ws:= [.bool x.e.ky,.U x.e.node,.U x.e.gk,.string x.e.host,.string x.e.jB,.U (x.tm:Int),.U (x.sq:Int),.bool true]) M (by show 0+7<=8;omega) rfl rfl λH d1 d2 d3=>hk H d1 (Fr.of_eq d2 λc a=>d3 c a))
theorem Fe(M:Mk h m e tm sq)(x:iA)(f:x.e=e)(o:gE x=true)(n:tm<x.tm\/tm=x.tm/\sq<x.sq)(hk: ∀h',Mk h' m e x.tm x.sq->Fr (λy=>y=m) h h'->R (.I 0) h'):Cl 189 #[pt m,x.s.agg] h R:=by
 refine vB.walk (ah.cM λb q E d f1=>aG.of λJ j=> ?_);have c:=f1.get M id;have z:=aD M;refine⟨_,ar c,?_⟩;subst j;dsimp only;rw[dc];refine aG.of λp l=>ah.ff (x:=x.s) d (Bn.qQ x λr f2=>⟨_,rfl,?_⟩)
 have a:=f2.get c id;have H:=f2.get d id;rw[o,dc];refine hU x.e H rfl rfl rfl rfl rfl (hU e a rfl rfl rfl rfl rfl ⟨_,iW.xd (x:=x.e) (y:=e) rfl rfl,?_⟩);subst l;dsimp only;rw[av f,dc];refine yY ⟨e,tm,sq⟩ a rfl rfl rfl rfl rfl rfl rfl (ah.ff (x:=x.s) H (uh ⟨e,tm,sq⟩ x n λt f3=>⟨_,rfl,?_⟩));rw[dc];exact ah.ff (x:=x.s) (f3.get H id) (Uk (f3.get a id) x f λi g f4=>hk i g (Fr.no (f1.tt (f2.tt f3)) f4))
theorem Pt.mk'(H:Pt h s X I σ):Mk h I.k σ.e σ.tm σ.sq:=by obtain⟨Y,a,_⟩:=H;exact(a 5).1
theorem Sg{b:Nat}{y:iA}(x:Ev)(a:ah.fi h b y.s)(hk: ∀h',ah.fi h' b (⟨x,y.tm,y.sq⟩:iA).s->Fr (λy=>y=b) h h'->K h'):ay.cX h (AA b 0) x.s K:=
 (show dD (AA b 0) x.s.l 0 h K from kk (off:=0) (ws:=(⟨x,y.tm,y.sq⟩:iA).s.l) a (by show 0+5<=7;omega) rfl rfl λH d1 d2 d3=>hk H d1 (Fr.of_eq d2 λc d=>d3 c d))
theorem ui(H:Pt h s X I σ)(G:dH.Good σ k)(src:Ev)(A: ∀n,oY σ=some n->gL h R (.tuple #[(⟨src,n.1,n.2⟩:iA).s.agg,(⟨σ.e,n.1,n.2⟩:iA).s.agg,.I 0]))(U:oY σ=none->gL h R (.tuple #[(⟨src,0,0⟩:iA).s.agg,iA.zero.s.agg,.I 5])):Cl 150 #[pt s,src.s.agg] h R:=by
 refine Nl.walk (ay.cM λb h1 eb hb f1=>ah.cM λb1 h2 o' i f2=>ah.cM λo r p' j' f3=> ?_);have D:=f1.tt (f2.tt f3);have l:=H.on D;have z1:=f1.1;have z2:=f2.1;have z3:=f3.1;refine⟨_,ar l.cT,dH.Iq (Pt.mk' l) λh4 f4=>ah.ex (⟨σ.e,σ.tm,σ.sq⟩:iA).s ⟨rfl,ah.ft (x:=(⟨σ.e,σ.tm,σ.sq⟩:iA).s) λb3 h6 q' P f6=> ?_⟩⟩;have z4:=f4.1;refine hU σ.e P rfl rfl rfl rfl rfl (dH.wX σ.e (λQ t m M g7 f7=>⟨_,_,rfl,?_⟩) (λQ=>absurd ⟨G.e.1,G.e.2.1⟩ Q));rw[dc];have W:=f4.tt (f6.tt f7);have w:=f7.get P id;have z6:=f6.1;have z7:=f7.1;have T: ∀(g:ai)(x:iA)(q:Int),Fr No r g->(∀E,Fr No h E->R (.tuple #[(⟨src,x.tm,x.sq⟩:iA).s.agg,x.s.agg,.I q]) E)->
   aQ g (.cells ah.S.z.arr 124) λB g'=>
   ah.cX g' (AA B 0) x.s λL=>
   ah.cv L (AA B 0) λt48=>
   aQ L (.cells ah.S.z.arr 124) λp i'=>
   ah.cX i' (AA p 0) t48 λN=>
   ay.cv N (AA b 0) λt49=>
   ay.cX N (AA p 0) t49 λd=>
   ah.cv d (AA p 0) λt51=>
   ah.cv d (AA B 0) λt52=>
   ah.cX d (AA b1 0) t51 λO=>
   Kp d O [(Sa B 0)]/\
   ah.cX O (AA o 0) t52 λu=>
   ah.cv u (AA b1 0) λm'=>
   ah.cv u (AA o 0) λn'=>
   R (.tuple #[m'.agg,n'.agg,.I q]) u:=by
  intro g x q f hk;refine ah.ft (x:=x.s) λb4 t' r' z f14=>ah.ff z (ah.ft (x:=x.s) λb5 u' s' k' f16=> ?_)
  have C:=f.tt (f14.tt f16);have zg:=f.1;have y':=f14.1;have w':b1≠b4:=by have:=aD i;omega
  have x':b1≠b5:=by have:=aD i;omega
  have V:o≠b1:=by have:=aD i;omega
  refine hU src (C.get ((f2.tt f3).get hb id) id) rfl rfl rfl rfl rfl (Sg src k' λc' l' f17=>ah.ff (x:=(⟨src,x.tm,x.sq⟩:iA).s) l' (ah.ff (x:=x.s) (f17.get (f16.get z id) (bY (aD z))) ?_));have j:Fr No r c':=C.fresh f17 (λy e=>ag);refine ah.gy (x:=(⟨src,x.tm,x.sq⟩:iA).s) (j.get (f3.get i id) id) λv' d18 f18 _=>⟨Bn.Te f18 (by simp;omega),ah.gy (x:=x.s) (f18.get (j.get j' id) V) λd' d19 f19 _=>ah.ff (x:=(⟨src,x.tm,x.sq⟩:iA).s) (f19.get d18 V.symm) (ah.ff (x:=x.s) d19 (hk d' ?_))⟩
  exact((D.tt j).fresh f18 (λy e=>ag)).fresh f19 (λy e=>ag)
 refine aG.of λJ hJ=> ?_
 have key: ∀v,(v=true↔0<σ.tm\/0<σ.sq)->J v t:=by
  intro v S;subst hJ;dsimp only;refine aG.of λZ f'=> ?_
  have fin: ∀g,Mk g m σ.e σ.tm σ.sq->Fr (λy=>y=m) t g->Z g:=by
   intro g Mg f;subst f';have F:Fr No r g:=W.fresh f (λy e=>ag);have Y:=l.on F;unfold oY at A U;refine⟨_,ar Y.cT,Nn Mg σ.now G.n G.t.2 (λc1 a a' f12=> ?_) (λc1 c2 a a' f12=> ?_) (λc1 c2 a f12=> ?_)⟩
   .exact ah.ex (⟨σ.e,σ.now,0⟩:iA).s ⟨_,rfl,T a ⟨σ.e,σ.now,0⟩ 0 (F.fresh f12 (λy e=>ag)) (A (σ.now,0) (af c1))⟩
   .exact ah.ex (⟨σ.e,σ.tm,σ.sq+1⟩:iA).s ⟨_,rfl,T a ⟨σ.e,σ.tm,σ.sq+1⟩ 0 (F.fresh f12 (λy e=>ag)) (A (σ.tm,σ.sq+1) ((ae c1).trans (dc)))⟩
   .exact ah.ex iA.zero.s ⟨_,rfl,T a .zero 5 (F.tt f12) (U ((ae c1).trans (af c2)))⟩
  cases v with
  |true=>
   rw[af rfl];have hr:gE ⟨σ.e,σ.tm,σ.sq⟩=true:=by unfold gE;rw[G.e.1,av G.t.1,av G.t.2];rfl
   exact ah.ff (x:=(⟨σ.e,σ.tm,σ.sq⟩:iA).s) w (Fe M ⟨σ.e,σ.tm,σ.sq⟩ rfl hr (by have:=S.1 rfl;show 0<σ.tm\/0=σ.tm/\0<σ.sq;omega) λe' b' f20=>⟨_,rfl,fin e' b' f20⟩)
  |false=>
   rw[dc];have c: ¬(0<σ.tm\/0<σ.sq):=λc=>by have:=S.2 c;cases this
   have e1:σ.tm=0:=ag
   have e2:σ.sq=0:=ag
   exact fin t (by rw[e1,e2];exact M) (Fr.refl _ _)
 refine⟨_,ar w,?_⟩;by_cases c:0<σ.tm
 .rw[af (av (by show((σ.tm:Nat):Int)>0;omega))];exact key true ⟨λ_=> .inl c,λ_=>rfl⟩
 .rw[ae (by simp only[aV];show¬((σ.tm:Nat):Int)>0;omega)];refine⟨_,ar w,key _ ⟨λe=> .inr (by have e:((σ.sq:Nat):Int)>0:=aU e;omega),λe=>av (by show((σ.sq:Nat):Int)>0;omega)⟩⟩

end Ask
end
section
namespace dH
open gV (It IV ga gZ)
open iW (Ev cV kz)
variable {h h':ai} {R:fp} {s k:Nat} {X:Ft} {I:ps} {σ:SS} {p:cy}
variable {n owner num:Int} {x:It} {b:Nat}
theorem Pt.Si{o:Int}(H:Pt h s X I σ)(ok:rD σ.Q)(d:oX σ.Q x.owner x.d.length=true)(j:n=(x.d.length:Int))(l:o=x.owner)(hk: ∀h' a,Pt h' s a I { σ with Q:=σ.Q++ [x] } ->bm X h a h'->R (.I 0) h'):Cl 241 #[pt I.p,.I o,.I n] h R:=by
 subst l;subst j;obtain⟨Z,⟨m,P,on⟩,r,z,go⟩:=H.use 4;refine mc.uq P ok _ _ (λ_ h' c F=> ?_) (λe=>by unfold oX at d;rw[d]at e;cases e);rw[Ig,show w6 σ.Q+(x.d.length:Int)=w6 (x::σ.Q) by rw[ji];omega]at c;obtain⟨a,f,st,_,_⟩:=go h' Z { σ with Q:=σ.Q++ [x] } ⟨m,Pu.perm c (dM _ _).symm,on⟩ (bm.tB (F.mono λy _ q=>(on y).1.2 q)) (λi g=>G8 _ g);exact hk h' a f st
theorem vL{bs:cD}{l c:Nat}(cf:Nat)(T:n=(cf:Int))(H:Pt h s X I σ)(G:Good σ k)(b':k<=30000)(U:Row h p (bc bs))(S:l=bs.length)(N:bs.length<=1000000)(hk: ∀h' t,Pt h' s t I (uR σ owner bs cf)->bm X h t h'->R (.tuple #[.I (Nj σ owner bs cf),.I (Di σ owner bs cf)]) h'):
  Cl 191 #[pt s,.I owner,.slice p l c,.U n] h R:=by
 subst T;subst S;refine xC.walk (fI H.cT ⟨_,rfl,?_⟩);rw[dc];obtain⟨Z,r⟩:=H.box;refine aG.of λa' z=>⟨_,ar H.cT,gV.He r λv p2 l2 c2 L f2=>⟨_,_,_,rfl,?_⟩⟩
 have ln:=L.len;have m:=H.on f2;have no:σ.B.items.length≥16\/oX σ.Q owner bs.length=false->∀g,Fr No h g->R (.tuple #[.I 0,.I 15]) g:=λc g f=>by
  have e1:Di σ owner bs cf=15:=af c;have e2:Nj σ owner bs cf=0:=af c;have K:uR σ owner bs cf=σ:=ae (by rw[e1];decide);rw[e1,e2,K]at hk;exact hk g X (H.on f) (bm.gr f)
 by_cases q:σ.B.items.length≥16
 .rw[fK];subst z;dsimp only;rw[af rfl];exact no (.inl q) v f2
 rw[ae (λe=>q (bY (aU e)))];obtain⟨Z4,⟨m4,P,c'⟩,_⟩:=m.use 4;refine⟨_,ar m.cT,mc.OQ P G.ok owner _ ⟨_,rfl,?_⟩⟩;subst z;dsimp only;cases j:oX σ.Q owner bs.length with
 |false=>
  rw[af (show(!oX σ.Q owner bs.length)=true by rw[j];rfl)];exact no (.inr j) v f2
 |true=>
  rw[ae (show¬(!oX σ.Q owner bs.length)=true by rw[j];decide)];have C: ¬(σ.B.items.length≥16\/oX σ.Q owner bs.length=false):=λc=>c.elim q (λe=>by rw[j]at e;cases e)
  have E:Di σ owner bs cf=gV.iH σ.B owner bs cf:=ae C;have M:Nj σ owner bs cf=gV.uz σ.B owner bs cf:=ae C;obtain⟨Z,r,zm,zd,go⟩:=m.use 3;refine⟨_,ar m.cT,gV.zN cf rfl r (U.frame f2 cb) rfl N (bY G.b) λw J D V=>⟨_,_,rfl,?_⟩⟩;obtain⟨F,o,W,_,_⟩:=go w J { σ with B:=gV.EU σ.B owner bs cf } D V (λi O=>De _ O);have st:=bm.no f2 W;refine aG.of λJ2 A=> ?_
  rw[E,M]at hk;unfold uR at hk;rw[E]at hk;by_cases a:gV.iH σ.B owner bs cf=0
  .rw[af a]at hk;rw[af (by rw[a];rfl)];refine⟨_,ar o.cT,o.Si (x:=⟨σ.B.next,owner,bs,cf⟩) G.ok j rfl rfl λy u d Y=>⟨_,rfl,?_⟩⟩;subst A;refine hk y u ?_ (st.trans Y);have e:gV.EU σ.B owner bs cf= { σ.B with items:=σ.B.items++ [⟨σ.B.next,owner,bs,cf⟩],next:=σ.B.next+1 } :=af a;rw[e]at d⊢;have d:Pt y s u I { σ with B:= { σ.B with items:=σ.B.items++ [⟨σ.B.next,owner,bs,cf⟩],next:=σ.B.next+1 },Q:=σ.Q++ [⟨σ.B.next,owner,bs,cf⟩] } :=d;rw[G.q]at d;exact d
  .rw[ae a]at hk;rw[ae (cA a)];subst A;refine hk w F ?_ st;have e:gV.EU σ.B owner bs cf=σ.B:=ae a;rw[e]at o;exact o
theorem Hv(x:IV)(hid:gV.zC h b num)(hk: gL h R (.bool (decide ((x.num:Int)=num)))):Cl 154 #[x.agg,.P b 0] h R:=by
 refine qD.walk (aH.box λb1 H e a f1=>⟨_,ar a,_,ar (f1.get hid id),?_⟩);rw[show((x.num:Int)==num)=decide ((x.num:Int)=num) by by_cases q:(x.num:Int)=num<;>simp[q]];exact hk H f1
theorem KC(xs:List IV)(num:Int):idxOf (λx:IV=>decide ((x.num:Int)=num)) xs=gV.qj (xs.map IV.abs) num:=by
 unfold idxOf gV.qj gV.xr;rw[List.findIdx?_map];rfl
theorem qk{xs:List IV}{n m:Nat}(o:Row h p (xs.flatMap ga))(l:n=xs.length)(j:xs.length<=1000000000)(hid:gV.zC h b num)(hk: gL h R (.I (gV.qj (xs.map IV.abs) num))):
  Cl 153 #[.slice p n m,.func (.func 154) #[] #[.P b 0]] h R:=by
 refine fh.cancel.walk (yE (λx:IV=>decide ((x.num:Int)=num)) (λt g K=>((0:Int)<=t/\t<(n:Int))/\aL p λa=>aH.LD g (a.add (Int.toNat t*4)) λt0 t1 t2 t3 t4 t5=>
  Cl 154 #[.agg #[.I t0,.I t1,.slice t2 t3 t4,.U t5],.P b 0] g λv G=> ∃q,v=.bool q/\K q G) l j (λk g x K c f i=> ?_) (λg f=>by rw[KC];exact hk g f))
 have lt:=(aB.1 c).1;have H:=o.frame f cb;obtain⟨a,rfl⟩:=H.some (λe=>by have:=bU List.length e;rw[eU ga 4 gZ,bz]at this;omega);exact⟨ag,aw.2 (aH.FA (by rw[aI];exact H.gJ gZ c) (Hv x (f.get hid id) λd f2=>⟨_,rfl,i d (f.tt f2)⟩))⟩
theorem zD{l:List It}{i:Nat}(d:(l.map It.num).Pairwise (· < ·))(H:l[i]? =some x):l.Perm (x::gV.ph l (x.num:Int)):=by
 rw[<-gV.nI d H];unfold gV.um;obtain⟨a,c⟩:=aB.1 H;have e:l=l.take i++x::l.drop (i+1):=by rw[<-c,<-cI a,List.take_append_drop]
 exact(List.Perm.of_eq e).trans List.perm_middle
theorem vT(H:Pt h s X I σ)(G:Good σ k)(f':k<=30000)(hk: ∀h' z,Pt h' s z I (BU σ num owner)->bm X h z h'->R (.I (gV.mK σ.B num owner)) h'):Cl 102 #[pt s,.I num,.I owner] h R:=by
 refine sM.walk (cF ?_);have f1:Fr No h (h.push (.cells #[.I num] 3)):=Fr.push _ _;have K:gV.zC (h.push (.cells #[.I num] 3)) h.size num:=bV;generalize h.push (.cells #[.I num] 3)=h1 at f1 K⊢;have q:=H.on f1;obtain⟨Z0,d'⟩:=q.box;obtain⟨L,ok⟩:=H.okB;refine fI q.cT ⟨_,rfl,?_⟩;rw[dc];refine⟨_,ar q.cT,gV.He d' λh2 p2 l2 c2 L2 f2=>⟨_,_,_,rfl,?_⟩⟩;have v:=q.on f2;have M:=f2.get K id;obtain⟨xs,D,rfl,T,A,g',hD,P⟩:=L2;obtain⟨Z,hz,zm,zd,go⟩:=v.use 3;refine⟨_,ar v.cT,_,ar M,gV.vT hz (bY G.b) λE Z3 B3 S=>⟨_,rfl,?_⟩⟩;obtain⟨C,H3,W,_,_⟩:=go E Z3 { σ with B:=gV.mg σ.B num owner } B3 S (λi N=>De _ N);have z1:=f1.1;have z2:=f2.1;have zl: ∀y,Z.M y->y<h.size:=λy j=>H.lt y (.inl (zm y j))
 have ln:xs.length=σ.B.items.length:=by rw[<-A,aF]
 have a':gV.zC E h.size num:=S.fr.get M (λo=>bY (zl _ o));have Q:=T.frame S.fr (λy j o=>hY (zl y o) (P y j));have le:=ok.le;refine qk Q.iw rfl ag a' λF f4=> ?_
 have st:=bm.no (f1.tt f2) (W.on f4);have d:=H3.on f4;have O:=Q.frame f4 cb;rw[A];refine⟨_,rfl,aG.of λe' c=> ?_⟩;cases r:gV.xr σ.B.items num with
 |none=>
  have e:gV.mK σ.B num owner=4:=by unfold gV.mK;rw[r]
  have es:gV.mg σ.B num owner=σ.B:=ae (by rw[e];decide);unfold BU at hk;rw[e,es,<-G.q]at hk;rw[e]at c⊢;rw[dc];subst c;refine aG.of λJ m=> ?_
  rw[dc];subst m;rw[es]at d;exact hk F C d st
 |some i=>
  obtain⟨x,f,b'⟩:=gV.zE r;have ev:gV.qj σ.B.items num=(i:Int):=by unfold gV.qj;rw[r]
  rw[ev]at c⊢;have e:gV.mK σ.B num owner=if x.owner=owner then 0 else 13:=by unfold gV.mK;rw[r];dsimp only;rw[f]
  by_cases t:x.owner=owner
  .rw[af t]at e;have es:gV.mg σ.B num owner= { σ.B with items:=gV.ph σ.B.items num,rC:=σ.B.rC+1 } :=af e;unfold BU at hk;rw[e]at hk;rw[e]at c⊢;rw[fK,av ag];subst c;refine aG.of λJ m=> ?_
   rw[af rfl];have N:=(aB.1 f).1;have u:xs[i]? =some xs[i]:=aj ag;have c':xs[i].abs=x:=by
    rw[<-A,aK,u]at f;exact aX f
   obtain⟨U,V,rfl⟩:=O.addr ag;have hh:=O.gJ gZ u;have c2: ∀g,dI (((AA U V):Addr).add (i*4)) (ga xs[i]) 0 g->bg g ((((AA U V):Addr).add (Int.toNat (i:Int)*4)).add 2)=some xs[i].v.val:=λg hg=>by
    rw[aI];exact hg.2.2.1
   refine⟨_,ar d.cT,ag,aw.2 ⟨_,_,_,c2 _ hh,?_⟩⟩;have vl:xs[i].v.b=x.d:=by rw[<-c'];rfl
   rw[vl];refine d.QJ (x:=x) (l:=gV.ph σ.B.items num) (by show σ.Q.Perm _;rw[G.q,<-b'];exact zD ok.inc f) (show rD σ.Q from G.ok) (Hm ok (bn f)) rfl t.symm λh5 X5 w Y=>⟨_,rfl,?_,?_⟩
   .have o5:=O.frame Y.fr (λy j o=>by
     rcases W.gI y o with a|a
     .have:=H.lt y (.inl a);have:=P y j;omega
     .have:=T.dY j;omega)
    rw[<-vl];exact c2 _ (o5.gJ gZ u)
   .subst m;refine hk h5 X5 ?_ (st.trans Y);rw[es]at w⊢;exact w
  .rw[ae t]at e;have es:gV.mg σ.B num owner=σ.B:=ae (by rw[e];decide);unfold BU at hk;rw[e,es,<-G.q]at hk;rw[e]at c⊢;rw[dc];subst c;refine aG.of λJ m=> ?_
   rw[dc];subst m;rw[es]at d;exact hk F C d st
theorem uq(H:Pt h s X I σ)(G:Good σ k)(f':k<=30000)(k1:σ.B.items= []->gL h R (.tuple #[.agg #[.I 0,.I 0,.Z,.U 0],.I 4]))(k2: ∀x r,σ.B.items=x::r->∀h' u (v:IV),v.abs=x->Pt h' s u I (wV σ)->bm X h u h'->v.v.ok h' u.D->R (.tuple #[v.agg,.I 0]) h'):
  Cl 128 #[pt s] h R:=by
 refine wj.walk (aH.box λb M eb A f1=> ?_);have t:=H.on f1;refine fI t.cT ⟨_,rfl,?_⟩;rw[dc];obtain⟨Z,hz,zm,zd,go⟩:=t.use 3;obtain⟨L,ok⟩:=H.okB;have lb:=aD A;refine⟨_,ar t.cT,gV.uq hz (bY G.b) (λj O E f2=>⟨_,_,_,_,_,_,_,rfl,aH.new λb1 h3 Y g f3=>aG.of λJ z=> ?_⟩) (λx r j O V v D E s2 hd=>⟨_,_,_,_,_,_,_,rfl,aH.new λb1 h3 Y g f3=>aG.of λJ z=> ?_⟩)⟩
 .rw[dc];subst z;have c':=(f2.tt f3).get A id;refine aH.ld g (aH.set c' λm d1 d2 d3=>aH.ld d1 (k1 j m ((f1.tt (f2.tt f3)).fresh (Fr.of_eq (S:=λy=>y=b) d2 d3) (λy e=>ag))))
 .obtain⟨K,o,q,W,_⟩:=go O V { σ with B:= { σ.B with items:=r,taken:=σ.B.taken+1 } } E s2 (λi hi=>De _ hi);rw[fK];have F:=o.on f3;have e':x∈σ.B.items:=by rw[j];simp
  have ex:x.owner=v.owner:=by rw[<-D];rfl
  have ed:x.d=v.v.b:=by rw[<-D];rfl
  refine⟨_,ar F.cT,_,ar g,_,_,_,ar g,F.QJ (x:=x) (l:=r) (.of_eq (show σ.Q=x::r by rw[G.q,j])) (show rD σ.Q from G.ok) (Hm ok e') (by rw[ed]) ex.symm λm w U f=>⟨_,rfl,?_,?_⟩⟩
  .exact f.fr.cell (ar g) (λd=>bY (o.lt b1 (.inl d)))
  .subst z;have z1:=f1.1;have z2:=s2.fr.1;have z3:=f3.1;have z4:=f.fr.1;have N: ∀y,h.size<=y->y<M.size->¬(K.M y\/K.D y):=λy c C d=>by
    rcases d with a|a
    .rcases q.gI y a with a|a
     .have:=H.lt y (.inl a);omega
     .omega
    .rcases q.iF y a with a|a
     .have:=H.lt y (.inr a);omega
     .omega
   have T: ∀y,h.size<=y->y<M.size->¬(w.M y\/w.D y):=λy c C d=>by
    rcases d with a|a
    .rcases f.gI y a with a|a
     .exact N y c C (.inl a)
     .omega
    .rcases f.iF y a with a|a
     .exact N y c C (.inr a)
     .omega
   have a':aH.at m b1 (v.num:Int) v.owner v.v.p v.v.b.length v.v.c (v.cf:Int):=f.fr.get g (λd=>bY (o.lt b1 (.inl d)));have b':=q.fr.get A (λd=>bY (H.lt b (.inl d)));have d':aH.at m b 0 0 none 0 0 0:=f.fr.get (f3.get b' id) (λd=>N b ag ag (.inl d));refine aH.ld a' (aH.set d' λP d1 d2 d3=>aH.ld d1 ?_);have f5:Fr (λy=>y=b) m P:=Fr.of_eq d2 d3;have st:=(bm.no f1 (q.on f3)).trans f;have et:wV σ= { σ with B:= { σ.B with items:=r,taken:=σ.B.taken+1 },Q:=r } :=by unfold wV;rw[j]
   refine k2 x r j P w v D ?_ ⟨⟨bY f5.1,λy c hn=>by rw[f5.2 y ag (λe=>ag)];exact st.fr.2 y c hn⟩,λy c=>(st.gI y c),λy c=>(st.iF y c),st.lE⟩ ?_
   .rw[et];exact Pt.frame U f5 (λy c e=>T y ag ag c)
   .refine(((hd.mono W).frame f3 cb).frame f.fr (λy c d=> ?_)).mono f.lE|>.frame f5 (λy c e=>T y ag ag (.inr c))
    exact o.tH y d c

end dH
end
section
namespace Ask
open iW (Ev cV)
open dH (SS Good Pt ps Mk)
open Bn (iA gE hU yY CL kJ Prim lh ic BB iS)
variable {V:cD→Bool} {h h' m g:ai} {R:fp} {s k bo id c:Nat} {X j:Ft} {I:ps} {σ:SS} {p:cy} {ses:Int} {x:Rq} {D:Nat→Prop} {o:Ot}
variable {b:Nat} {K:ai->Prop} {n:Nat×Nat} {d:cD} {P:Prim}
abbrev Rq.as(x:Rq)(p:cy)(c s:Nat)(ses:Int):cg.S:=⟨x.id,x.kind,x.ep.ky,x.ep.node,x.ep.gk,x.ep.host,x.ep.jB,x.dest.ky,x.dest.node,x.dest.gk,x.dest.host,x.dest.jB,x.j9,x.num,x.iz,p,x.kO.length,c,x.dN,x.token,x.on,some ⟨s,0,none⟩,ses⟩
structure En (V:cD->Bool) (m h:ai) (s:Nat) (X:Ft) (I:ps) (σ:SS) (k:Nat):Prop where
 H:Pt h s X I σ
 G:dH.Good σ k
 hk:k<=30000
 u:Lp m X h
 U:Cb.ke V m
 mx:oT.Mx m
theorem En.on(E:En V m h s X I σ k)(f:Fr No h h'):En V m h' s X I σ k:=⟨E.H.on f,E.G,E.hk,E.u.on f,E.U,E.mx⟩
theorem En.P2(E:En V m h s X I σ k):oT.Mx h:=E.mx.on E.u.fr
theorem En.step{a:SS}{k':Nat}(E:En V m h s X I σ k)(H:Pt h' s j I a)(st:bm X h j h')(G:dH.Good a k')(hk:k'<=30000):En V m h' s j I a k':=⟨H,G,hk,E.u.step st,E.U,E.mx⟩
theorem En.nM(E:En V m h s X I σ k)(a:h.size<=b): ¬X.M b:=λH=>by have:=E.H.lt b (.inl H);omega
theorem Dn{S:Nat->Prop}{l:List (cy)}(f:Fr S h h')(N: ¬S b)(a: ∀p∈l,p.map (·.block)=some b):Kp h h' l:=f.SM λp i x e H=>N (by have:=a p i;rw[e]at this;exact(aX this)▸H)
structure gg (X:Ft) (h:ai) (bo id:Nat) (o:Ot) (j:Ft) (h':ai):Prop where
 fr:Fr (λy=>X.M y\/y=bo) h h'
 gI: ∀c,j.M c->X.M c\/h.size<=c
 iF: ∀c,j.D c->X.D c\/h.size<=c
 lE: ∀c,X.D c->j.D c
 at': ∃y,ak.fi h' bo y/\(o.e=0->∃p c,y=⟨id,0,o.num,o.uo,0,p,o.d.length,c⟩/\Row h' p (bc o.d)/\(o.d≠ []->∀z,aR p z->(h.size<=z\/X.D z)/\¬j.M z))
abbrev y0(id:Nat):ak.S:=⟨id,0,0,0,0,none,0,0⟩
theorem gg.of{H:ai}(st:bm X h j H)(f:Fr (λy=>y=bo) H h')(at': ∃y,ak.fi h' bo y/\(o.e=0->∃p c,y=⟨id,0,o.num,o.uo,0,p,o.d.length,c⟩/\Row h' p (bc o.d)/\(o.d≠ []->∀z,aR p z->(h.size<=z\/X.D z)/\¬j.M z))):gg X h bo id o j h':=
 ⟨st.fr.trans f (λ_ _ a=> .inl a) (λ_ _ e=> .inr e),st.gI,st.iF,st.lE,at'⟩
theorem gg.bad{e:Int}(H:ak.fi h bo (y0 id))(N: ¬X.M bo)(st:bm X h j h'){σ:SS}:gg X h bo id (bad σ e) j h':=
 gg.of st (Fr.refl _ _) ⟨_,st.fr.get H N,λ_=>⟨none,0,rfl,Row.nil,λe=>absurd rfl e⟩⟩
theorem hH{i:Nat}{y z:ak.S}{v:Value}(a:ak.fi h b y)(f:i<6)(l:y.arr.setIfInBounds i v=z.arr)(hk: ∀h',ak.fi h' b z->Fr (λy=>y=b) h h'->K h'):aS h (AA b i) v K:=
 bw a f λH d1 d2 d3=>hk H (by unfold ak.fi;rw[<-l];exact d1) (Fr.of_eq d2 λc e=>d3 c e)
theorem Pt.mU{t q:Nat}(H:Pt h s X I σ)(M:Mk h' I.k σ.e t q)(f:Fr (λy=>y=I.k) h h'): ∃j,Pt h' s j I { σ with tm:=t,sq:=q } /\bm X h j h':=by
 obtain⟨Z,⟨_,on⟩,r,z,go⟩:=H.use 5;obtain⟨j,a,st,_,_⟩:=go h' Z { σ with tm:=t,sq:=q } ⟨M,on⟩ (bm.tB (f.mono λy _ l=>(on y).1.2 l)) (λi e=>dH.QD σ.e t q e);exact⟨j,a,st⟩
theorem Np(h:oY σ=some n):σ.tm<n.1\/σ.tm=n.1/\σ.sq<n.2:=by
 unfold oY at h;split at h
 .cases h;left;assumption
 split at h
 .cases h
 .cases h;right;exact⟨rfl,Nat.lt_succ_self _⟩
theorem sN{b:kJ}(h:iS V b=some d):Bn.iG b.p=true:=by
 unfold iS at h;split at h
 .split at h
  .cases h
  .rename_i H;unfold Bn.pZ at H;split at H
   .cases H
   .rename_i a;unfold Bn.mJ at a;split at a
    .assumption
    .cases a
 .cases h
theorem KD{b:kJ}(h:iS V b=some d):b.p.dN<=1099511627776:=by
 have:=sN h;unfold Bn.iG at this;simp only[aT,aV]at this;exact this.2
theorem IK{b:kJ}{q:cy}{cl:Nat}{xs:List BB}(E:En V m h s X I σ k)(b':b.p.wf)(B:ic h D b.bl q b.bl.length cl xs)(hl:b.bl.length<=1000000)(hd: ∀L∈b.bl,L.data.length<=80000)(z:oY σ=some n)(hk: ∀h' j,Pt h' s j I (k7 V σ ses b n).σ->bm X h j h'->R (.tuple #[.I (k7 V σ ses b n).num,.I (k7 V σ ses b n).uo,.I (k7 V σ ses b n).e]) h'):
  Cl 151 #[(x.as p c s ses).agg,(b.s q cl).agg,(⟨σ.e,n.1,n.2⟩:iA).s.agg] h R:=by
 refine AO.walk (cg.cM (x:=x.as p c s ses) λb1 h1 d' T f1=>aq.cM (x:=b.s q cl) λb2 h2 e' w f2=>ah.cM (x:=(⟨σ.e,n.1,n.2⟩:iA).s) λN h3 f' Y f3=> ?_);have F:=f1.tt (f2.tt f3);have l:=E.on F;have z1:=f1.1;have z2:=f2.1;have z3:=f3.1;unfold k7 at hk;refine aq.ff (x:=b.s q cl) (f3.get w _root_.id) (Bn.xV b' E.U l.u.fr l.P2 (B.on F) hl hd (λout r lo u p4 c4 o4 g4 f4=>⟨_,_,_,_,rfl,?_⟩) (λr u f4=>⟨_,_,_,_,rfl,?_⟩))
 case refine_2=>
  rw[fK];rw[r]at hk;exact hk u X (l.H.on f4) (bm.gr (F.tt f4))
 rw[dc];rw[r]at hk;dsimp only at hk;have t:=l.on f4;have i:=(f2.tt (f3.tt f4)).get T _root_.id;have W:=(f3.tt f4).get w _root_.id;have y:=f4.get Y _root_.id;have z4:=f4.1;have g':=aD i;have i':=aD y;have n1: ¬X.M b1:=E.nM ag;have n3: ¬X.M N:=E.nM ag;refine⟨_,ar i,_,ar i,_,ar i,aw.2 ⟨_,ar t.H.cT,_,ar W,Fc σ.now b.p.dN E.G.n (KD r) ⟨_,rfl,(Fr.refl (λ_=>False) _).kp,dH.vL (mn σ.now b.p.dN) rfl t.H E.G E.hk o4.iw rfl ag λO G f S=>⟨_,_,rfl,Dn S.fr n1 bP,aG.of λc' v=> ?_⟩⟩⟩⟩;have st:=bm.no (F.tt f4) S;unfold AM at hk;by_cases H:dH.Di σ ses out (mn σ.now b.p.dN)=0
 .rw[af H]at hk;rw[af (by rw[H];rfl)];have U:=S.fr.get i n1;have Z:=S.fr.get y n3;have a:(dH.uR σ ses out (mn σ.now b.p.dN)).e=σ.e/\(dH.uR σ ses out (mn σ.now b.p.dN)).tm=σ.tm/\(dH.uR σ ses out (mn σ.now b.p.dN)).sq=σ.sq:=by unfold dH.uR;rw[af H];exact⟨rfl,rfl,rfl⟩
  have M:=Pt.mk' f;rw[a.1,a.2.1,a.2.2]at M;have hr:gE ⟨σ.e,n.1,n.2⟩=true:=by have:=zZ E.G z;unfold gE;rw[E.G.e.1,av this.1,av this.2];rfl
  refine⟨_,ar U,aw.2 ⟨_,ar f.cT,ah.ff (x:=(⟨σ.e,n.1,n.2⟩:iA).s) Z (Fe M ⟨σ.e,n.1,n.2⟩ rfl hr (Np z) λQ C f8=>⟨_,rfl,?_,?_⟩)⟩⟩
  .have zk:=aD M;have:b1≠I.k:=λe=>by have:=aD (Pt.mk' E.H);omega
   exact Dn f8 this bP
  .subst v;obtain⟨J,A,a'⟩:=Pt.mU f (by rw[a.1];exact C) f8;exact H.symm▸hk Q J A (st.trans a')
 .rw[ae H]at hk;rw[ae (cA H)];subst v;have a:dH.uR σ ses out (mn σ.now b.p.dN)=σ:=by unfold dH.uR;rw[ae H]
  rw[a]at f;exact hk O G f st
theorem Dp(H:Pt h s X I σ)(hk: gL h R (.I (gj.jh σ.G x.ep ses))):Cl 104 #[(x.as p c s ses).agg] h R:=by
 refine Aa.walk (cg.cM (x:=x.as p c s ses) λb A L q f1=>aG.of λJ G=> ?_);have u:=H.on f1;have fin: ∀(g:ai)(i:Nat),gj.Rg.at g i ((gj.ij σ.G x.ep).getD .zero)->Fr No A g->J (Sa i 0) (gj.ij σ.G x.ep).isSome g:=by
  intro g i w f;subst G;dsimp only;unfold gj.jh at hk;cases v:gj.ij σ.G x.ep with
  |none=>rw[v]at hk;rw[af (by rfl)];exact hk g (f1.tt f)
  |some r=>
   rw[v]at hk w;rw[ae bP];refine aw.2 ⟨_,ar w,_,ar (f.get q _root_.id),?_⟩;dsimp only at hk;by_cases a:r.own=ses
   .rw[af a]at hk;rw[ae (by show¬(r.own !=ses)=true;simpa using a)];exact hk g (f1.tt f)
   .rw[ae a]at hk;rw[af (by show(r.own !=ses)=true;simpa using a)];exact hk g (f1.tt f)
 obtain⟨Z,z,_⟩:=u.use 1;refine⟨_,ar q,aw.2 ⟨_,ar u.cT,hU x.ep q rfl rfl rfl rfl rfl ⟨?_,?_,trivial⟩⟩⟩
 .exact gj.gH z x.ep λC f3=>⟨_,_,_,_,_,_,_,_,rfl,f3.kp,bR.box λB F E t f4=>⟨f4.kp,bR.set t λl a1 a2 a3=>fin l B a1 ((f3.tt f4).fresh (Fr.of_eq (S:=λy=>y=B) a2 a3) (λy e=>bY f3.1))⟩⟩
 .refine bR.box λB F E t f4=>⟨f4.kp,gj.gH (gj.Tb.on z f4) x.ep λC f3=>⟨_,_,_,_,_,_,_,_,rfl,f3.kp,bR.set (f3.get t _root_.id) λl a1 a2 a3=>fin l B a1 ((f4.tt f3).fresh (Fr.of_eq (S:=λy=>y=B) a2 a3) (λy e=>ag))⟩⟩
theorem Sj{b:lh}{B:Nat}(H:ax.fi h B (b.s p c))(r:Row h p (bc b.data))(cap:b.data.length<=c):ic h (λ_=>True) [b] (Sa B 0) 1 1 [⟨b,p,c⟩]:=
 ⟨rfl,rfl,.inr ⟨_,rfl,ax.yT (x:=b.s p c) H⟩,λ_ _ _=>trivial,bk _,λy a=>by rw[bN.1 a];exact⟨r,λ_ _ _=>trivial,cap⟩⟩
theorem QL(n:Nat)(a:aC.fi h b P.s)(hk: ∀h',aC.fi h' b ({ P with fl:=n } :Prim).s->Fr (λy=>y=b) h h'->K h'):aS h (AA b 0) (.U (n:Int)) K:=
 bw a (by show 0<20;omega) λH d1 d2 d3=>hk H d1 (Fr.of_eq d2 λc e=>d3 c e)
theorem Ul(e:Ev)(a:aC.fi h b P.s)(hk: ∀h',aC.fi h' b ({ P with rep:=e } :Prim).s->Fr (λy=>y=b) h h'->K h'):ay.cX h (AA b 7) e.s K:=
 (show dD (AA b 7) e.s.l 0 h K from kk (off:=7) (ws:=({ P with rep:=e } :Prim).s.l) a (by show 7+5<=20;omega) rfl rfl λH d1 d2 d3=>hk H d1 (Fr.of_eq d2 λc f=>d3 c f))
theorem O8(E:En V m h s X I σ k)(rx:Row h p (bc x.kO))(cap:x.kO.length<=c)(lp:x.kO.length<=1000)(w1:0<=x.ep.gk)(w2:0<=x.dest.gk)(q:ak.fi h bo (y0 id))(W: ¬(X.M bo\/X.D bo))(hk: ∀h' j,Pt h' s j I (zX V σ ses x).σ->gg X h bo id (zX V σ ses x) j h'->R (.I (zX V σ ses x).e) h'):
  Cl 101 #[(x.as p c s ses).agg,.P bo 0] h R:=by
 refine Ab.walk (cg.cM (x:=x.as p c s ses) λb h1 eb Q f1=>cg.ff (x:=x.as p c s ses) Q (Dp (E.H.on f1) λh2 f2=>⟨_,rfl,?_⟩));have F:=f1.tt f2;have E2:=E.on F;have J:=f2.get Q _root_.id;have nM: ¬X.M bo:=λe=>W (.inl e)
 unfold zX at hk;by_cases t:gj.jh σ.G x.ep ses=0
 case neg=>
  rw[ae t]at hk;rw[af (cA t)];exact hk h2 X E2.H (gg.bad q nM (bm.gr F))
 rw[af t]at hk;rw[ae (cA t)];refine⟨_,ar J,hU x.ep J rfl rfl rfl rfl rfl (ui E2.H E.G x.ep (λn r G f3=>ah.ex _ (ah.ex _ ⟨_,rfl,?_⟩)) (λr G f3=>ah.ex _ (ah.ex _ ⟨_,rfl,?_⟩)))⟩
 case refine_2=>
  rw[r]at hk;refine ah.cM λb1 h4 j' H f4=>ah.cM λA h5 k' L f5=>ah.gy (x:=(⟨x.ep,0,0⟩:iA).s) (f5.get H _root_.id) λh6 d6 f6 _=>ah.gy (x:=iA.zero.s) (f6.get L (bY (aD H))) λf d7 f7 _=> ?_
  rw[fK];have z4:=f4.1;have l:Fr No G f:=((f4.tt f5).fresh f6 (λy e=>ag)).fresh f7 (λy e=>ag);exact hk f X (E2.H.on (f3.tt l)) (gg.bad q nM (bm.gr (F.tt (f3.tt l))))
 rw[r]at hk;dsimp only at hk;refine ah.cM λb1 h4 j' H f4=>ah.cM λA h5 k' L f5=>ah.gy (x:=(⟨x.ep,n.1,n.2⟩:iA).s) (f5.get H _root_.id) λh6 d6 f6 _=>ah.gy (x:=(⟨σ.e,n.1,n.2⟩:iA).s) (f6.get L (bY (aD H))) λf d7 f7 _=> ?_
 rw[dc];have z1:=f1.1;have z2:=f2.1;have z3:=f3.1;have z4:=f4.1;have z5:=f5.1;have q':b1≠A:=by have:=aD H;omega
 have N:Fr No G f:=((f4.tt f5).fresh f6 (λy e=>ag)).fresh f7 (λy e=>ag);have M:=f3.tt N;have l:=F.tt M;have i:=M.get J _root_.id;have d67:=f7.get d6 q';have z':=N.1;refine hU x.dest i rfl rfl rfl rfl rfl (ah.ff (x:=(⟨x.ep,n.1,n.2⟩:iA).s) d67 ⟨_,ar i,aC.ft (x:=(⟨0,0,x.dest,.zero,⟨x.ep,n.1,n.2⟩,x.dN⟩:Prim).s) λB O t' U f9=>⟨_,ar (f9.get i _root_.id),aG.of λd' hJ=> ?_⟩⟩);have S:=f9.get i _root_.id;have d79:=f9.get d7 _root_.id;have z9:=f9.1;have Y:b≠B:=by have:=aD i;omega
 have r':A≠B:=by have:=aD d7;omega
 have fin: ∀g,aC.fi g B (nR x n).p.s->Fr (λy=>y=B) O g->d' g:=by
  intro g hp C;subst hJ;have a':Fr No f g:=f9.fresh C (λy e=>ag);have T:=C.get S Y;refine cg.ff (x:=x.as p c s ses) T (aC.ff (x:=(nR x n).p.s) hp ⟨_,_,_,ar T,ax.cM (x:=(⟨1,1,0,0,x.kO⟩:lh).s p c) λb4 v' u' p' f11=>ah.ff (x:=(⟨σ.e,n.1,n.2⟩:iA).s) (f11.get (C.get d79 r') _root_.id) ?_⟩);have v:=l.tt (a'.tt f11);have Z:=E.on v;refine IK (b:=nR x n) (x:=x) (p:=p) (c:=c) Z ⟨w2,?_,w1⟩ (Sj (b:=⟨1,1,0,0,x.kO⟩) p' (rx.frame v (λ_ _=>_root_.id)) cap) (by show 1<=_;omega) (λb' n'=>by rw[bN.1 n'];show x.kO.length<=_;omega) r λw' w c' s'=>⟨_,_,_,rfl,?_⟩
  .show 0<=(if x.on=true then x.ep else Ev.zero).gk;split
   .exact w1
   .exact eJ 0
  .have st:=bm.no v s';have o':=st.fr.get q nM;refine hH (z:=⟨id,0,(k7 V σ ses (nR x n) n).num,0,0,none,0,0⟩) o' di rfl λx' e' f13=>hH (z:=⟨id,0,(k7 V σ ses (nR x n) n).num,(k7 V σ ses (nR x n) n).uo,0,none,0,0⟩) e' di rfl λl' f' f14=> ?_
   have no: ¬(w.M bo\/w.D bo):=λhm=>by
    have zo:=aD q;rcases hm with a|a
    .rcases st.gI bo a with a|a
     .exact nM a
     .omega
    .rcases st.iF bo a with a|a
     .exact W (.inr a)
     .omega
   refine hk l' w (c'.frame (f13.tt f14) (λy hy e=>no (e▸hy))) (gg.of st (f13.tt f14) ⟨_,f',λhe=>⟨none,0,?_,?_,?_⟩⟩)
   .have:(k7 V σ ses (nR x n) n).d= []:=by
     unfold k7;split
     .rfl
     .unfold AM;split<;>rfl
    rw[this];rfl
   .have:(k7 V σ ses (nR x n) n).d= []:=by
     unfold k7;split
     .rfl
     .unfold AM;split<;>rfl
    rw[this];exact Row.nil
   .intro _ z hz;obtain⟨a,e,_⟩:=hz;cases e
 cases u:x.on with
 |false=>
  rw[ae (by show¬x.on=true;rw[u];decide)];refine fin O ?_ (Fr.refl _ _);have:(nR x n).p=⟨0,0,x.dest,.zero,⟨x.ep,n.1,n.2⟩,x.dN⟩:=by unfold nR;rw[u];rfl
  rw[this];exact U
 |true=>
  rw[af (show x.on=true from u)];refine hU x.ep S rfl rfl rfl rfl rfl (QL 131072 U λy' g' f15=>⟨Mf f15 Y bP,Ul x.ep g' λm' i' f16=>fin m' ?_ (f15.tt f16)⟩);have:(nR x n).p=⟨131072,0,x.dest,x.ep,⟨x.ep,n.1,n.2⟩,x.dN⟩:=by unfold nR;rw[u];rfl
  rw[this];exact i'

end Ask
end
section
namespace Bn
open Cb
open iW (Ev cV kz)
variable {V:cD→Bool} {h H h' g:ai} {R:fp} {D:Nat→Prop}
abbrev xS.s(r:xS):aJ.S:=⟨r.rc,r.dl,r.de,r.reason,r.at',r.of.e.ky,r.of.e.node,r.of.e.gk,r.of.e.host,r.of.e.jB,r.of.tm,r.of.sq⟩
theorem KE(r:xS)(hk: gL h R (.bool (ia r))):Cl 290 #[r.s.agg] h R:=by
 refine CY.walk (aJ.cM λb a E c f1=>⟨_,ar c,?_⟩);have rest:(r.rc||r.dl||r.de)=true->∃t15,bg a (AA b 3)=some (.U t15)/\if(decide (t15<=255))=true then∃t20,bg a (AA b 4)=some (.U t20)/\if(decide (t20<=1099511627776))=true then ah.cv a (AA b 5) λt25=>Cl 237 #[t25.agg] a λv e=> ∃t26,v=.bool t26/\R (.bool t26) e else R (.bool false) a else R (.bool false) a:=λf=>by
  refine⟨_,ar c,?_⟩;rw[show decide ((r.s.f3:Int)<=255)=decide (r.reason<=255)from jY r.reason 255];unfold ia at hk;rw[f]at hk;by_cases c1:r.reason<=255
  case neg=>rw[ae (cA c1)];rw[az c1]at hk;exact hk a f1
  rw[af (av c1)];rw[av c1]at hk;refine⟨_,ar c,?_⟩;rw[show decide ((r.s.f4:Int)<=1099511627776)=decide (r.at'<=1099511627776)from jY r.at' 1099511627776];by_cases c2:r.at'<=1099511627776
  case neg=>rw[ae (cA c2)];rw[az c2]at hk;exact hk a f1
  rw[af (av c2)];rw[av c2]at hk;exact yY r.of c rfl rfl rfl rfl rfl rfl rfl (qQ r.of λd f2=>⟨_,rfl,hk d (f1.tt f2)⟩)
 cases c1:r.rc with
 |true=>rw[af (show r.s.f0=true from c1)];exact rest (by rw[c1];rfl)
 |false=>
 rw[ae (show¬r.s.f0=true by rw[show r.s.f0=r.rc from rfl,c1];decide)];refine⟨_,ar c,?_⟩;cases c2:r.dl with
 |true=>rw[af (show r.s.f1=true from c2)];exact rest (by rw[c1,c2];rfl)
 |false=>
 rw[ae (show¬r.s.f1=true by rw[show r.s.f1=r.dl from rfl,c2];decide)];refine⟨_,ar c,?_⟩;cases C:r.de with
 |true=>rw[af (show r.s.f2=true from C)];exact rest (by rw[c1,c2,C];rfl)
 |false=>
 rw[ae (show¬r.s.f2=true by rw[show r.s.f2=r.de from rfl,C];decide)];have:=hk a f1;unfold ia at this;rw[c1,c2,C]at this;exact this
abbrev bo(l:List Bool):List Value:=l.map λb=> .bool b
theorem Nq{p:cy}{n c:Nat}{l:List Bool}(row:Row h p (bo l))(U:n=l.length)(hl:l.length<=100000)(hk: ∀h' z,rU h' (λy=>h.size<=y) (D8 l) z->Fr No h h'->R z.s.agg h'):Cl 291 #[.slice p n c] h R:=by
 subst U;refine GF.walk (aa.cM λb f eb w f1=>jC (ts:= []) (ys:= []) (D:=λ_=>True) ⟨rfl,.inl rfl,λe=>absurd rfl e,bk _⟩ .nil (by simp[dk]) λO z T f2=>aa.ex z.s ⟨rfl,aa.ft (x:=z.s) λb1 P a' A f4=> ?_⟩);have zb:=aD w;have z1:=f1.1;have z2:=f2.1;have z4:=f4.1;have c':=aD A;have F4:=f1.tt (f2.tt f4);have Y:rU P (λy=>f.size<=y/\y≠b1) (qZ []) z:=by
  obtain⟨⟨a1,a2,a3,a4⟩,zs,a5,a6,C,I⟩:=T;refine⟨⟨a1,a2,a3,((D9 a4).mono λy d=>ag).frame f4 cb⟩,zs,a5,a6.frame f4 cb,λy d=>⟨C y d,bY (a6.dY d)⟩,(df.mono (λy d=>by have f:=d.1.1;have O:=d.2;exact⟨⟨f,ag⟩,d.1.2⟩) I.lt).on f4⟩
 obtain⟨zs,ez,r⟩:=Mj (g0:=f) Y A ((f2.tt f4).mono λ_ _=>False.elim);have s:z.k=4:=T.1.1;have u:z.n=0:=T.1.2.1;have E:z.v.b= []:=T.1.2.2.1;refine⟨λt g=> ∃(i:Nat)(ys:List CV)(q:cy)(cl:Nat),t=(i:Int)/\i<=l.length/\ys.length=i/\Lc f g b1 z.k z.n z.v ((l.take i).map λb=>num (if b=true then 1 else 0)) ys q cl,λt _=>l.length - t.toNat,⟨0,zs,z.q,z.cl,rfl,bG _,?_,by rw[dV];exact r⟩,?_⟩
 .have:=r.tr.len;exact this.symm
 rintro _ g ⟨i,ys,q,cl,rfl,hi,d,L⟩;by_cases m:i<l.length
 case neg=>
  rw[ae (λe=>m (bY (aU e)))];rw[bJ ag]at L;have W:z.v.ok g (λy=>f.size<=y/\y≠b1):=⟨by rw[E];exact Row.nil,λe=>absurd E e,T.1.2.2.2.cap⟩;have B:=Ml (k':=z.n) L W;rw[s,u,E]at B;refine aa.ff (x:=CV.s ⟨z.k,z.n,z.v,q,ys.length,cl⟩) L.cT (fin (z:=⟨z.k,z.n,z.v,q,ys.length,cl⟩) (t:=D8 l) (D:=λy=>f.size<=y/\y≠b1) (L.fr.get w ag) (by rw[s,u];exact B) (λy d e=>ag) λG X N=>hk G _ (X.mono λy d=>ag) ((f1.fresh L.fr (λy e=>ag)).fresh N (λy e=>ag)))
 rw[fK];have F:Fr No h g:=f1.fresh L.fr (λy e=>ag);obtain⟨a,rfl⟩:=row.some (by intro e;have:=bU List.length e;rw[aF,bz]at this;omega);have S:bg g (a.add (i*1))=some (.bool l[i]):=by
  have:=(row.frame F cb).cell (j:=i) (v:=.bool l[i]) (by rw[aK,aj m];rfl);rw[ct];exact this
 refine⟨ag,bK.2 ⟨a,rfl,_,S,aG.of λJ Q=> ?_⟩⟩;have go: ∀k:Nat,k=(if l[i]=true then 1 else 0)->J (k:Int) g:=by
  intro k M;subst Q;dsimp only;refine⟨_,_,_,ar L.cT,fX λh6 f6=>aa.ex (nv k).s ⟨rfl,f6.kp,?_⟩⟩;refine Mn (L.on f6) ag (Qn (n:=k)).Q3 λG Z q' K o b' _ _=> ?_
  rw[bD (n:=(i:Int)+1) ag ag];refine⟨⟨i+1,Z,q',K,ag,ag,ag,?_⟩,by show l.length - Int.toNat ((i:Int)+1)<l.length - Int.toNat (i:Int);omega⟩;rw[bQ,aj m,aZ];rw[M]at o;exact o
 cases c:l[i]with
 |true=>rw[af rfl];exact go 1 (by rw[c];rfl)
 |false=>rw[dc];exact go 0 (by rw[c];rfl)
theorem KF{r:xS}(a:ia r=true):room (CA r)<=1000:=by
 unfold ia at a;simp only[aT,aV]at a;have:=Et r.of a.2;simp only[CA,D8,room,dk,bz,bX,List.map_nil];omega
theorem IM(r:xS)(w:0<=r.of.e.gk)(U:ke V H)(u:Fr No H h)(k1: ∀bs,CB V r=some bs->bs.length<=1000->∀h' p c,fJ h' p bs.length c 1 (bc bs)->(∀y,aR p y->h.size<=y)->Fr No h h'->R (.tuple #[.slice p bs.length c,.I 0]) h')(M:CB V r=none->gL h R (.tuple #[.Z,.I 3])):Cl 249 #[r.s.agg] h R:=by
 refine CZ.walk (aJ.cM λb h1 eb I f1=>yY r.of I rfl rfl rfl rfl rfl rfl rfl (HX r.of w λh2 z qz z0 z1 f2=>aa.ex z.s ⟨_,rfl,aa.ft (x:=z.s) λb1 h4 p' i' f4=>aG.of λJ A=> ?_⟩));have L:=(f2.tt f4).get I id;have q:=f1.tt (f2.tt f4);have bad: ∀g,Fr No h g->¬(ia r=true)->J true g:=λg f hn=>by
  subst A;dsimp only;rw[af rfl];exact M (by unfold CB;rw[ae (λe=>hn e.1)]) g f
 by_cases d:qz=0
 case neg=>
  rw[af (cA d)];exact bad h4 q (λe=>d (z1.2 (by unfold ia at e;simp only[aT]at e;exact e.2)))
 rw[ae (cA d)];have tz:=z0 d;refine aJ.ff L (KE r λv f5=>⟨_,rfl,?_⟩);have s:=q.tt f5;cases l:ia r with
 |false=>exact bad v s (by rw[l];decide)
 |true=>
 clear bad;subst A;dsimp only;rw[dc];have a:=f5.get L id;have rm:=KF l;refine⟨_,ar a,_,ar a,_,ar a,_,ar a,_,ar a,aa.ff (f5.get i' id) ?_⟩;have rest: ∀g y,CI g (D8 [r.rc,r.dl,r.de]) y->Fr No v g->∀{kl N kl2:List (cy)},Cl 205 #[.U (r.reason:Int)] g λk' k=>aa.EX λt30=>k'=t30.agg/\Kp g k kl/\Cl 205 #[.U (r.at':Int)] k λl' C=>aa.EX λt33=>l'=t33.agg/\Kp k C N/\
   aQ C (.cells (y.s.l++t30.l++t33.l++z.s.l).toArray 262) λY c'=>Cl 247 #[.slice (Sa Y 0) 4 4] c' λm' d'=>aa.EX λt36=>m'=t36.agg/\
   aQ d' (.cells ((nv 1).s.l++t36.l).toArray 262) λZ e'=>Cl 247 #[.slice (Sa Z 0) 2 2] e' λn' f'=>aa.EX λt38=>n'=t38.agg/\Cl 178 #[t38.agg] f' λo' g'=>
   ∃P O T Q,o'=.tuple #[.slice P O T,.I Q]/\R (.tuple #[.slice P O T,.I Q]) g':=by
  intro g y ty f kl N kl2;refine fX λh9 f9=>aa.ex (nv r.reason).s ⟨rfl,f9.kp,fX λa' f10=>aa.ex (nv r.at').s ⟨rfl,f10.kp,?_⟩⟩
  have G:=f.tt (f9.tt f10);have W:Az a' [D8 [r.rc,r.dl,r.de],num r.reason,num r.at',LP r.of] [y,nv r.reason,nv r.at',z]:=.cons (ty.on (f9.tt f10)) (.cons mb (.cons mb (.cons (tz.on (f4.tt (f5.tt G))) .nil)));have e2:room (CA r)=27+dk [D8 [r.rc,r.dl,r.de],num r.reason,num r.at',LP r.of]:=by simp only[CA,room,dk,bz];omega
  refine oG W ag rfl rfl λb' w tw f12=>aa.ex w.s ⟨rfl,?_⟩
  have S:Az b' [num 1,qZ [D8 [r.rc,r.dl,r.de],num r.reason,num r.at',LP r.of]] [nv 1,w]:=two mb tw.u;refine oG S (by simp only[dk,room,bz]at e2⊢;omega) rfl rfl λq' w2 j' f14=>aa.ex w2.s ⟨rfl,?_⟩
  have F:=s.tt (G.tt (f12.tt f14));refine vz U (u.tt F) j'.Q3 (t:=CA r) ag (λe i p c o n f15=>⟨_,_,_,_,rfl,?_⟩) (λe i f15=>⟨_,_,_,_,rfl,?_⟩)
  .have:=F.1;exact k1 (enc (CA r)) (by unfold CB;rw[af ⟨l,e⟩]) (bY (jV (CA r))) i p c o (λy hy=>bY (n y hy)) (F.tt f15)
  .exact M (by unfold CB;rw[ae (λE=>by rw[e]at E;cases E.2)]) i (F.tt f15)
 have B: ∀{g}{K:Nat->ai->Prop},(∀b h',Row h' (Sa b 0) (bo [r.rc,r.dl,r.de])->Fr No g h'->K b h')->aQ g (.cells #[.bool r.s.f0,.bool r.s.f1,.bool r.s.f2] 4) K:=λhk=>cF (hk _ _ jl (Fr.push _ _))
 refine⟨?_,?_,trivial⟩
 .refine fX (n:=1) λh6 f6=>aa.ex (nv 1).s ⟨rfl,f6.kp,B λX h7 m f7=>⟨f7.kp,Nq m rfl (by show 3<=_;omega) λj y ty f8=>aa.ex y.s ⟨rfl,f8.kp,rest j y ty.u (f6.tt (f7.tt f8)) (kl2:= [])⟩⟩⟩
 .refine B λX h7 m f7=>⟨f7.kp,fX (n:=1) λh6 f6=>aa.ex (nv 1).s ⟨rfl,f6.kp,Nq (m.frame f6 cb) rfl (by show 3<=_;omega) λj y ty f8=>aa.ex y.s ⟨rfl,f8.kp,rest j y ty.u (f7.tt (f6.tt f8)) (kl2:= [])⟩⟩⟩
theorem KG(r:xS)(dest:Ev)(id:iA)(dN:Nat)(a':0<=r.of.e.gk)(w1:0<=dest.gk)(w2:0<=id.e.gk)(U:ke V H)(u:Fr No H h)(mx:oT.Mx h)(Z: ∀b,kV V r dest id dN=some b->b.bl.length=1->b.p.wf->(∀m∈b.bl,m.data.length<=1000)->∀h' q cl xs,ic h' (λy=>h.size<=y) b.bl q b.bl.length cl xs->Fr No h h'->R (.tuple #[(b.s q cl).agg,.I 0]) h')(M:kV V r dest id dN=none->gL h R (.tuple #[aq.S.z.agg,.I 3])):Cl 197 #[r.s.agg,dest.s.agg,id.s.agg,.U (dN:Int)] h R:=by
 refine AF.walk (aJ.cM λb h1 eb T f1=>ay.cM λb1 h2 b' W f2=>ah.cM λb2 h3 c' X f3=>aq.cM λb3 C d' t f4=>aJ.ff ((f2.tt (f3.tt f4)).get T _root_.id) ?_);have F:=f1.tt (f2.tt (f3.tt f4));have z4:=F.1;have z1:=f1.1;have z3:=(f1.tt (f2.tt f3)).1;have i':=aD t;refine IM r a' U (u.tt F) (λbs v lb E p c o n f5=>⟨_,_,_,_,rfl,?_⟩) (λv E f5=>⟨_,_,_,_,rfl,?_⟩)
 case refine_2=>
  rw[fK];exact zq (f5.get t _root_.id) λg f=>M (by unfold kV;rw[v]) g ((F.tt f5).fresh f (λy e=>ag))
 rw[dc];have l:=F.tt f5;have z5:=f5.1;refine ay.ff (x:=dest.s) ((f3.tt (f4.tt f5)).get W _root_.id) (ah.ff (x:=id.s) ((f4.tt f5).get X _root_.id) (ax.cM (x:=lh.s ⟨1,1,0,0,bs⟩ p c) λd h7 e' J f7=>aq.cM λA Q f' K f8=> ?_));have k:kV V r dest id dN=if(iS V ⟨⟨2,0,dest,.zero,id,dN⟩, [⟨1,1,0,0,bs⟩]⟩).isSome=true then some ⟨⟨2,0,dest,.zero,id,dN⟩, [⟨1,1,0,0,bs⟩]⟩else none:=by unfold kV;rw[v]
 generalize s:(⟨⟨2,0,dest,.zero,id,dN⟩, [⟨1,1,0,0,bs⟩]⟩:kJ)=B at k;have e1:B.bl= [⟨1,1,0,0,bs⟩]:=by rw[<-s]
 have ep:B.p.wf:=by rw[<-s];exact⟨w1,eJ 0,w2⟩
 have j':=aD J;have k':=aD K;have z7:=f7.1;have z8:=f8.1;have N:ic Q (λy=>C.size<=y/\y≠A) B.bl (Sa d 0) B.bl.length 1 [⟨⟨1,1,0,0,bs⟩,p,c⟩]:=by
  rw[e1];refine⟨rfl,rfl,.inr ⟨_,rfl,ax.yT (x:=lh.s ⟨1,1,0,0,bs⟩ p c) (f8.get J _root_.id)⟩,λ_ y ⟨a,e,O⟩=>by cases e;rw[<-O];exact⟨by show C.size<=d;omega,by show d≠A;omega⟩,bk _,λx Y=> ?_⟩;rw[bN.1 Y];exact BV.kU ((o.frame f7 (λ_ _=>_root_.id)).frame f8 (λ_ _=>_root_.id)) (λy i=>⟨n y i,bY (o.dY i)⟩)
 have P:(B.s (Sa d 0) 1)=(⟨2,0,dest.s.f0,dest.s.f1,dest.s.f2,dest.s.f3,dest.s.f4,false,0,0,⟨#[]⟩,⟨#[]⟩,id.s.f0,id.s.f1,id.s.f2,id.s.f3,id.s.f4,id.s.f5,id.s.f6,dN,(Sa d 0),1,1⟩:aq.S):=by rw[<-s];rfl
 rw[<-P];refine aq.gy (x:=B.s (Sa d 0) 1) K λS d9 f9 _=>aq.ff d9 ?_
 have G:Fr No E S:=(f7.tt f8).fresh f9 (λy e=>ag);have w:=N.frame f9 (λy i e=>i.2 e);refine qR ep U (u.tt (l.tt G)) (mx.on (l.tt G)) w (by rw[e1];simp) (λm j=>by rw[e1]at j;rw[bN.1 j];show bs.length<=_;omega) λg' f10=>⟨_,rfl,?_⟩
 have I:=(f5.tt (G.tt f10)).get t _root_.id;have z:=l.tt (G.tt f10);cases L:(iS V B).isSome with
 |false=>
  rw[fK];exact zq I λg f=>M (by rw[k,L];rfl) g (z.fresh f (λy e=>ag))
 |true=>
  rw[dc];rw[L,af rfl]at k;refine aq.ff (f10.get d9 _root_.id) (zq I λg f=>Z B k (by rw[e1];rfl) ep (λm j=>by rw[e1]at j;rw[bN.1 j];exact lb) g _ 1 [⟨⟨1,1,0,0,bs⟩,p,c⟩] ?_ (z.fresh f (λy e=>ag)));exact((w.on f10).frame f (λy i e=>ag)).mono λy i=>ag

end Bn
end
end Go.Proofs.YtlenamcfacpheaaGreatDoor
