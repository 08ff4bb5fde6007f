/-
  Fu is proved here: parts of xQ proof, one behind xQ other (texts of this work, merged by a program; HU xQ theorem HV not use is left out). No condition.
-/
import Derived.Shelf.Strconv.Itoa4
import Derived.Shelf.Small.Wraps
import Derived.Test.YtkdgpmeojgokdaaGreatDoorMJuste
set_option maxRecDepth 100000
set_option maxHeartbeats 4000000
namespace Go.Proofs.YtkdgpmeojgokdaaGreatDoor
open Go.Den
open IntKind (wrap)
open Int (toNat)
section
namespace dK
open iB (It)
open jG (Ev)
variable {h H:ai} {s j:Nat} {X:Ft}
structure SS where
 A:List fu.fu
 G:List gO.Rg
 C:gY.CF
 B:iB.BS
 Q:List It
 e:Ev
 tm:Nat
 sq:Nat
 now:Nat
 rf:Nat
structure oN where
 t:Nat
 r:Nat
 c:Nat
 o:Nat
 p:Nat
 k:Nat
abbrev Mk(h:ai)(k:Nat)(e:Ev)(t sq:Nat):Prop:=h[k]? =some (.cells #[.bool e.lE,.int .u64 e.node,.int .u64 e.gL,.string e.host,.string e.jZ,.int .u64 (t:Int),.int .u64 (sq:Int),.bool true] 84 (0,0))
abbrev Bk(h:ai)(s:Nat)(I:oN)(n r:Nat):Prop:=h[s]? =some (.cells #[pt I.t,pt I.r,pt I.c,pt I.o,pt I.p,pt I.k,.int .u64 (n:Int),.int .i64 (r:Int)] 64 (0,0))
def part(σ:SS)(I:oN)(s:Nat)(i:Nat)(h:ai)(X:Ft):Prop:=match i with
 |0=>fu.Has h I.t X σ.A
 |1=>gO.Tb h I.r X σ.G
 |2=>gY.Ct h I.c X σ.C
 |3=>iB.Bh h I.o X σ.B
 |4=> ∃m,Pu h I.p m σ.Q/\only X λy=>y=I.p\/y=m
 |5=>Mk h I.k σ.e σ.tm σ.sq/\only X λy=>y=I.k
 |6=>Bk h s I σ.now σ.rf/\only X λy=>y=s
 |_=> ∀y,¬In X y
theorem part.lt{σ:SS}{I:oN}{i:Nat}(a:part σ I s i h X)(y:Nat)(hy:In X y):y<h.size:=by
 rcases i with _|_|_|_|_|_|_|i
 .exact fu.Has.lt a y hy
 .exact gO.Tb.lt a y hy
 .exact gY.Ct.lt a y hy
 .exact iB.Bh.lt a y hy
 .obtain⟨m,P,o⟩:=a;rcases hy with hy|hy
  .rcases(o y).1.1 hy with rfl|rfl
   .exact P.lt.1
   .exact P.lt.2
  .exact absurd hy (o y).2
 .obtain⟨P,o⟩:=a;rcases hy with hy|hy
  .rw[(o y).1.1 hy];exact aA P
  .exact absurd hy (o y).2
 .obtain⟨P,o⟩:=a;rcases hy with hy|hy
  .rw[(o y).1.1 hy];exact aA P
  .exact absurd hy (o y).2
 .exact absurd hy (a y)
theorem part.frame{σ:SS}{I:oN}{i:Nat}{Q:Nat->Prop}(a:part σ I s i h X)(f:Fr Q h H)(b: ∀y,In X y->¬Q y):part σ I s i H X:=by
 rcases i with _|_|_|_|_|_|_|i
 .exact fu.Has.frame a f b
 .exact gO.Tb.frame a f b
 .exact gY.Ct.frame a f b
 .exact iB.Bh.frame a f b
 .obtain⟨m,P,o⟩:=a;exact⟨m,P.frame f (b _ (.inl ((o _).1.2 (.inl rfl)))) (b _ (.inl ((o _).1.2 (.inr rfl)))),o⟩
 .obtain⟨P,o⟩:=a;exact⟨f.get P (b _ (.inl ((o _).1.2 rfl))),o⟩
 .obtain⟨P,o⟩:=a;exact⟨f.get P (b _ (.inl ((o _).1.2 rfl))),o⟩
 .exact a
theorem part.vx{σ:SS}{I:oN}{i:Nat}(b:part σ I s i h X)(y:Nat)(d:X.M y)(c:X.D y):False:=by
 rcases i with _|_|_|_|_|_|_|i
 .exact fu.Has.vx b y d c
 .obtain⟨m,b⟩:=b;exact b.d y c
 .obtain⟨m,x,A,e,g,f,l,b⟩:=b;exact(b.mm y).1 d (b.dd y c).1
 .obtain⟨L,⟨n,k,x,a,S,b⟩,_⟩:=b;exact b.vx y d c
 .obtain⟨m,P,o⟩:=b;exact(o y).2 c
 .exact(b.2 y).2 c
 .exact(b.2 y).2 c
 .exact b y (.inl d)
theorem part.st(σ:SS)(I:oN)(s:Nat):Ae (part σ I s):=⟨part.lt,part.frame,part.vx⟩
def Pt(h:ai)(s:Nat)(X:Ft)(I:oN)(σ:SS):Prop:=Is (part σ I s) h X
variable {I : oN} {σ : SS}
theorem Pt.lt(a:Pt h s X I σ)(y:Nat)(b:X.M y\/X.D y):y<h.size:=Is.lt (part.st _ _ _) a y b
theorem Pt.vx(c:Pt h s X I σ)(y:Nat)(a:X.M y)(b:X.D y):False:=Is.vx (part.st _ _ _) c y a b
theorem Pt.frame{Q:Nat->Prop}(a:Pt h s X I σ)(f:Fr Q h H)(b: ∀y,X.M y\/X.D y->¬Q y):Pt H s X I σ:=Is.frame (part.st _ _ _) a f b
theorem Pt.on(a:Pt h s X I σ)(f:Fr No h H):Pt H s X I σ:=a.frame f bX
theorem Pt.use(b:Pt h s X I σ)(j:Nat): ∃Z,part σ I s j h Z/\(∀y,Z.M y->X.M y)/\(∀y,Z.D y->X.D y)/\∀H z a,part a I s j H z->bw Z h z H->(∀i,i≠j->part a I s i=part σ I s i)->
  ∃x,Pt H s x I a/\bw X h x H/\(∀y,z.D y->x.D y)/\∀y,h.size<=y->x.M y\/x.D y->z.M y\/z.D y:=by
 obtain⟨Z,c,d,e,go⟩:=Is.use (part.st σ I s) b j;exact⟨Z,c,d,e,λH z a=>go H z (part a I s)⟩
theorem Pt.di(a:Pt h s X I σ):Bk h s I σ.now σ.rf:=by obtain⟨y,b,_⟩:=a;exact(b 6).1
theorem Pt.box(a:Pt h s X I σ): ∃Z,iB.Bh h I.o Z σ.B:=by obtain⟨y,b,_⟩:=a;exact⟨_,b 3⟩
theorem sc{i:Nat}(a:List fu.fu)(b:i≠0):part { σ with A:=a } I s i=part σ I s i:=by rcases i with _|_|_|_|_|_|_|i<;>first|rfl|exact absurd rfl b
theorem Jq{i:Nat}(a:List gO.Rg)(b:i≠1):part { σ with G:=a } I s i=part σ I s i:=by rcases i with _|_|_|_|_|_|_|i<;>first|rfl|exact absurd rfl b
theorem xF{i:Nat}(a:gY.CF)(b:i≠2):part { σ with C:=a } I s i=part σ I s i:=by rcases i with _|_|_|_|_|_|_|i<;>first|rfl|exact absurd rfl b
theorem EK{i:Nat}(a:iB.BS)(b:i≠3):part { σ with B:=a } I s i=part σ I s i:=by rcases i with _|_|_|_|_|_|_|i<;>first|rfl|exact absurd rfl b
theorem Jr{i:Nat}(a:List It)(b:i≠4):part { σ with Q:=a } I s i=part σ I s i:=by rcases i with _|_|_|_|_|_|_|i<;>first|rfl|exact absurd rfl b
theorem SO{i:Nat}(a:Ev)(b c:Nat)(d:i≠5):part { σ with e:=a,tm:=b,sq:=c } I s i=part σ I s i:=by rcases i with _|_|_|_|_|_|_|i<;>first|rfl|exact absurd rfl d
theorem SP{i:Nat}(a b:Nat)(c:i≠6):part { σ with now:=a,rf:=b } I s i=part σ I s i:=by rcases i with _|_|_|_|_|_|_|i<;>first|rfl|exact absurd rfl c
end dK
end
section
open Go.kU
namespace gY
open jG cg mi
variable {h H:ai} {R:fO} {t:Nat} {X:Ft} {s g:CF} {m A a:Nat} {x:List CV} {S b:Nat→Prop} {l:Nat→Option Nat} {p:ct} {n c:Nat}
variable {k:Int} {K:List Int} {i:Nat} {f:CF->Int->CF}
def yU(d:Ev)(len:Nat)(T:Int):Bool:=dt d && (!decide (d=Ev.zero) && (decide (1<=len) && (decide (len<=600) && decide (T<=1099511627776))))
theorem Mt(e:Ev)(w: hH h R (.B (yU e n k))):Cl 171 #[lC e,.L p n c,.U k] h R:=by
 refine Cn.walk (aw.box λB y E j u=>aw.ld j (jG.fM e λv F=>⟨_,rfl,?_⟩));have d:=w v (u.tt F);unfold yU at d;by_cases q:dt e=true
 .rw[af q];rw[q,eu]at d;refine aw.ld (F.get j id) ⟨_,yA (y:=.zero) (x:=e) rfl rfl,?_⟩;by_cases Q:e=.zero
  .rw[av Q,dy];rw[av Q]at d;exact d
  .rw[aC Q,gi];rw[aC Q,dZ,eu]at d;by_cases o:1<=n
   .rw[gi];rw[av o,eu]at d;by_cases r:n<=600
    .rw[gi];rw[av r,eu]at d;exact d
    .rw[ae (by simp;omega)];rw[aC r]at d;exact d
   .rw[ae (by simp;omega)];rw[aC o]at d;exact d
 .rw[ae q];have q:dt e=false:=by simpa using q
  rw[q]at d;exact d
def mr(L:List Cp)(d:Ev):List Cp:=L.filter (λy=>decide (y.e=d))
theorem Js(e:Cm h t X s m x A S a b l)(d:Ev):(x.filter (λy=>decide (y.e=d))).length=(mr s.L d).length:=by
 unfold mr;rw[<-e.abs,dO,aD];rfl
def jB(s:CF)(e:Ev)(d:cG)(T:Nat):Int:=if yU e d.length (T:Int)=true then(if(mr s.L e).length≥16 then 15 else 0)else 1
def Bi(s:CF)(e:Ev)(d:cG)(T:Nat):Int:=if jB s e d T=0 then(s.next:Int)else 0
def kJ(s:CF)(e:Ev)(d:cG)(T:Nat):CF:=if jB s e d T=0 then { s with L:=s.L++ [⟨s.next,e,d,T,0,0⟩],next:=s.next+1,E1:=AW s.E1 (s.next:Int) (T:Int) } else s
theorem Bj(o:Ct h t X s)(V:Small s)(e': ∀k'∈s.L,k'.num<s.next)(l':1<=s.next)(j:Ev){d:cG}(T:Nat)(d':k=(T:Int))(hr:Row h p (bc d))(hn:n=d.length)(g':d≠ []->∀C,p=some C->¬X.M C.block)(r: ∀H Z,Ct H t Z (kJ s j d T)->bw X h Z H->R (.T #[.I (Bi s j d T),.I (jB s j d T)]) H):
  Cl 122 #[.P t 0,lC j,.L p n c,.U k] h R:=by
 subst d' hn;obtain⟨m,x,A,S,a,b,l,o⟩:=o;have sn:=V.n;have sl:=V.l;have se:=V.e1;have xl:=o.len;refine xz.walk (aw.box λD h1 eb Q f1=> ?_);have H1:=o.on f1;refine gp H1 ⟨_,rfl,?_⟩;rw[dy];refine aw.ld Q (Mt j λh3 M=>⟨_,rfl,?_⟩);have F:=f1.tt M;by_cases q:yU j d.length (T:Int)=true
 .rw[q,dy];refine aw.ld (M.get Q id) (wc (o.on F) j ag λh4 p4 c4 o4 g4 f4=>⟨_,_,_,rfl,?_⟩);have z:=F.tt f4;have u:=o.on z;have a':=(M.tt f4).get Q id;rw[Js o j];by_cases q1:(mr s.L j).length≥16
  .rw[gi];have e:jB s j d T=15:=by unfold jB;rw[af q,af q1]
   have E:Bi s j d T=0:=ae (by rw[e];decide);have w:kJ s j d T=s:=ae (by rw[e];decide);rw[e,E,w]at r;exact r h4 X ⟨_,_,_,_,_,_,_,u⟩ (bw.gT z)
  .rw[ae (by simp;omega)];have e:jB s j d T=0:=by unfold jB;rw[af q,ae q1]
   have E:Bi s j d T=(s.next:Int):=af e;have w:kJ s j d T= { s with L:=s.L++ [⟨s.next,j,d,T,0,0⟩],next:=s.next+1,E1:=AW s.E1 (s.next:Int) (T:Int) } :=af e;rw[e,E,w]at r;have lb:D<h4.size:=aA a';have nb: ∀{c},l c≠none->c≠D:=fun {c} y ec=>by have:=o.Fs c y;omega
   refine⟨_,au u.di,_,au u.di,bk u.di bU λI c5 s5 o5=> ?_⟩;rw[bJ ag ag]at c5;obtain⟨v,b'⟩:=u.field (s':= { s with next:=s.next+1 }) rfl rfl rfl c5 s5 o5;have U:Ev.at I D j:=by
    unfold Ev.at aw.at;rw[o5 D (fW (nb (by rw[o.l0];simp)))];exact a'
   have r5:Row I p (bc d):=(hr.frame z bX).frame b'.fr (λC ea=>g' (by rintro rfl;simp[yU]at q) C ea);refine⟨_,au v.di,aw.ld U (gE r5 rfl (by
    unfold yU at q;simp only[aW,aY]at q;omega) λp6 c6 h6 O G g6=>⟨_,_,_,rfl,?_⟩)⟩
   refine⟨aw.held (G.get U id),au (G.get v.di id),aR.box λL h7 e7 c' P=> ?_⟩;have B:=G.tt P;have z5:I.size<=h6.size:=G.1;refine⟨aw.held (B.get U id),au (B.get v.di id),Aa qo (v.on B).map (k:=(s.next:Int)) λh8 M8 s8 o8=> ?_⟩;obtain⟨X8,m',J,h'⟩:=v.add (s':= { s with L:=s.L++ [⟨s.next,j,d,T,0,0⟩],next:=s.next+1 }) (y:=⟨s.next,L,j,⟨p6,c6,d⟩,T,0,0⟩) B c' (by show I.size<=L;omega) ((O.iz).frame P bX) O.le (λc y=>⟨g6 c y,by have:=O.dI y;show c≠L;omega,iJ (O.dI y) P.1⟩)
    (λj' hu=>by
     have:j'.abs∈s.L:=by rw[<-o.abs];exact bz hu
     exact e' _ this) M8 s8 o8 rfl rfl rfl ⟨rfl,rfl,rfl,rfl⟩
   have f':may (s.next:Int) (T:Int)=true:=by
    unfold yU at q;simp only[aW,aY]at q;exact mS.2 ⟨ag,ag,ag⟩
   refine⟨_,au J.di,cg.I5 J.Jk (by show s.E1.length<_;omega) (s.next:Int) (T:Int) ag (λhm h9 S9 A9 g9 f9=>⟨_,rfl,?_⟩) (λhm=>absurd f' (by rw[hm];simp))⟩;obtain⟨X9,n',H9,i',_⟩:=J.Jn (s':= { s with L:=s.L++ [⟨s.next,j,d,T,0,0⟩],next:=s.next+1,E1:=AW s.E1 (s.next:Int) (T:Int) }) A9 g9 f9 rfl rfl rfl ⟨rfl,rfl,rfl,rfl⟩;exact r h9 X9 ⟨_,_,_,_,_,_,_,H9⟩ (bw.no z (b'.trans (h'.trans i')))
 .have q:yU j d.length (T:Int)=false:=by simpa using q
  rw[q,gi];have e:jB s j d T=1:=by unfold jB;rw[q];rfl
  have E:Bi s j d T=0:=ae (by rw[e];decide);have w:kJ s j d T=s:=ae (by rw[e];decide);rw[e,E,w]at r;exact r h3 X ⟨_,_,_,_,_,_,_,o.on F⟩ (bw.gT F)
def lj(s:CF)(k:Int):CF:= { EI s k with over:=s.over+1 }
def qb(s:CF)(k:Int):CF:= { EI s k with gone:=s.gone+1 }
theorem Small.rem(d:Small s)(k:Int):Small (EI s k):=
 ⟨d.n,db (cM _ _) d.l,db (pj _ _) d.e1,db (pj _ _) d.e2⟩
theorem Small.free(d:Small s)(k:Nat):Small (sa s k):=
 ⟨d.n,by show(px s.L k 0 0).length<=_;unfold px;rw[aD];exact d.l,d.e1,db (pj _ _) d.e2⟩
def Hj(s:CF):Prop:= ∀k∈keys s.E2,∃z∈s.L,(z.num:Int)=k
theorem Hj.rem(o:Hj s)(k:Int):Hj (EI s k):=λj d=>by
 unfold keys at d;obtain⟨e,u,rfl⟩:=bt.1 d;obtain⟨q,r⟩:=bj.1 u;have v:e.1≠k:=by simpa using r
 obtain⟨z,w,E⟩:=o e.1 (bz q);exact⟨z,bj.2 ⟨w,by simp[E,v]⟩,E⟩
theorem Mu(L:List Cp)(n:Nat)(d:Int)(B:Nat){z:Cp}(e:z∈L): ∃y∈px L n d B,y.num=z.num:=by
 unfold px;refine⟨_,bz e,?_⟩;split<;>rfl
theorem Ct.Uf(d:Ct h t X s)(J:Small s)(e:Int)(D: ∀H j P C,Ct H t j { s with E1:=cg.rest s.E1 e } ->bw X h j H->Own H P (cg.due s.E1 e).length C 1 (kc (cg.due s.E1 e))->(∀y,aP P y->h.size<=y/\¬j.M y)->R (.slice P (cg.due s.E1 e).length C) H):
  ∃(u:ct),aU h (AA t 5)=some (.pointer u)/\Cl 59 #[.pointer u,.U e] h R:=by
 obtain⟨m,x,A,S,a,b,l,d⟩:=d;have:=J.e1;refine⟨_,au d.di,cg.EC d.Jk ag e λw I v q O G F=> ?_⟩;obtain⟨j,M,r,L,z⟩:=d.Jn (s':= { s with E1:=cg.rest s.E1 e }) q (λc B=> .inl B) F rfl rfl rfl ⟨rfl,rfl,rfl,rfl⟩;refine D w j I v ⟨_,_,_,_,_,_,_,r⟩ L O (λy o=>⟨G y o,λE=> ?_⟩);have o:=G y o;rcases z y E with h2|h2
 .have:=d.Fs y ((d.mm y).1 h2);omega
 .have:=d.Jk.lt h2;omega
theorem Ct.Ug(d:Ct h t X s)(J:Small s)(e:Int)(D: ∀H j P C,Ct H t j { s with E2:=cg.rest s.E2 e } ->bw X h j H->Own H P (cg.due s.E2 e).length C 1 (kc (cg.due s.E2 e))->(∀y,aP P y->h.size<=y/\¬j.M y)->R (.slice P (cg.due s.E2 e).length C) H):
  ∃(u:ct),aU h (AA t 6)=some (.pointer u)/\Cl 59 #[.pointer u,.U e] h R:=by
 obtain⟨m,x,A,S,a,b,l,d⟩:=d;have:=J.e2;refine⟨_,au d.di,cg.EC d.Jl ag e λw I v q O G F=> ?_⟩;obtain⟨j,M,r,L,z⟩:=d.Jm (s':= { s with E2:=cg.rest s.E2 e }) q (λc B=> .inl B) F rfl rfl rfl ⟨rfl,rfl,rfl,rfl⟩;refine D w j I v ⟨_,_,_,_,_,_,_,r⟩ L O (λy o=>⟨G y o,λE=> ?_⟩);have o:=G y o;rcases z y E with h2|h2
 .have:=d.Fs y ((d.mm y).1 h2);omega
 .have:=d.Jl.lt h2;omega
structure wy (h:ai) (X:Ft) (p:ct) (n c:Nat) (K:List Int):Prop where
 own:Own h p n c 1 (K.map gI)
 len:n=K.length
 ap: ∀y,aP p y->¬X.M y
theorem wy.step{e:Ft}(d:wy h X p n c K)(o:bw X h e H):wy H e p n c K:=
 ⟨d.own.frame o.fr d.ap,d.len,λy j q=>by
  rcases o.hN y q with h1|h1
  .exact d.ap y j h1
  .have:=d.own.dI j;omega⟩
theorem wy.at{j:Int->Prop}(d:wy h X p n c K)(o:K[i]? =some k)(r:j k):
  ((0:Int)<=(i:Int)/\(i:Int)<(n:Int))/\aN p λq=> ∃t:Int,aU h (q.add (Int.toNat (i:Int)*1))=some (.I t)/\j t:=by
 have w:=(az.1 o).1;have y:=d.len;obtain⟨u,v,e⟩:=d.own.addr ag;subst e;refine⟨ag,ax.2 ⟨k,?_,r⟩⟩;rw[aH,cE];exact d.own.cell (by rw[aL,o];rfl)
theorem oz(d: ∀s k,Small s->Small (f s k)): ∀(K:List Int)(s:CF),Small s->Small (K.foldl f s)
 | [],_,h=>h
 |k::K,s,h=>oz d K (f s k) (d s k h)
theorem Dp: ∀(K:List Int)(s:CF),(K.foldl lj s).over=s.over+K.length
 | [],_=>rfl
 |k::K,s=>by rw[List.foldl_cons,Dp K,bn];show s.over+1+K.length=_;omega
theorem Dq: ∀(K:List Int)(s:CF),(K.foldl qb s).gone=s.gone+K.length
 | [],_=>rfl
 |k::K,s=>by rw[List.foldl_cons,Dq K,bn];show s.gone+1+K.length=_;omega
theorem Dr: ∀(K:List Int)(s:CF),Hj s->Hj (K.foldl lj s)
 | [],_,h=>h
 |k::K,s,h=>Dr K (lj s k) (h.rem k)
theorem uF(d:K[i]? =some k)(s:CF):(K.take (i+1)).foldl f s=f ((K.take i).foldl f s) k:=by
 rw[bO,d,List.foldl_append];rfl
def kI(s:CF)(d:Int):CF:=
 let e:=(keys (cg.due s.E1 d)).foldl lj { s with E1:=cg.rest s.E1 d }
 (keys (cg.due e.E2 d)).foldl (λs k=>sa s k.toNat) { e with E2:=cg.rest e.E2 d }
theorem Ds: ∀(K:List Int)(s:CF)(z:Cp),z∈s.L->∃y∈(K.foldl (λs k=>sa s k.toNat) s).L,y.num=z.num
 | [],s,z,d=>⟨z,d,rfl⟩
 |k::K,s,z,d=>by
  obtain⟨y,o,e⟩:=Mu s.L k.toNat 0 0 d;obtain⟨u,j,E⟩:=Ds K (sa s k.toNat) y o;exact⟨u,j,E.trans e⟩
theorem Br(L:List E)(d:Int):(cg.rest L d).length<=L.length:=(List.dropWhile_sublist _).length_le
theorem wh(B:Ct h t X s)(z:Small s)(ho:s.over<=40000)(hE:Hj s)(d:Int)(J: ∀H I L V,Ct H t I (kI s d)->bw X h I H->wy H I L (cg.due s.E1 d).length V (keys (cg.due s.E1 d))->(∀y,aP L y->h.size<=y)->R (.slice L (cg.due s.E1 d).length V) H):
  Cl 39 #[.P t 0,.U d] h R:=by
 have t':(cg.due s.E1 d).length<=s.E1.length:=(List.takeWhile_sublist _).length_le;have r':=z.e1;have hm: ∀{R:fO},R (.B true) h->Cl 58 #[.P t 0] h R:=λJ=>by
  obtain⟨m,x,A,S,a,b,l,B⟩:=B;exact gp B J
 refine wv.walk (hm ⟨_,rfl,?_⟩);rw[dy];refine B.Uf z d λh2 T P D H2 p' o2 g2=>⟨_,_,_,rfl,?_⟩
 have l':Small { s with E1:=cg.rest s.E1 d } :=⟨z.n,z.l,db (Br _ _) z.e1,z.e2⟩;have kl:(keys (cg.due s.E1 d)).length=(cg.due s.E1 d).length:=by unfold keys;rw[aD]
 have N2:wy h2 T P (cg.due s.E1 d).length D (keys (cg.due s.E1 d)):=⟨o2,kl.symm,λy w=>(g2 y w).2⟩;have o': ∀(s:CF) k,Small s->Small (lj s k):=λs k h=>⟨(h.rem k).n,(h.rem k).l,(h.rem k).e1,(h.rem k).e2⟩
 refine⟨λu G=> ∃(i:Nat)(q:Ft),u=(i:Int)/\i<=(cg.due s.E1 d).length/\Ct G t q (((keys (cg.due s.E1 d)).take i).foldl lj { s with E1:=cg.rest s.E1 d })/\bw X h q G/\wy G q P (cg.due s.E1 d).length D (keys (cg.due s.E1 d)),λu _=>(cg.due s.E1 d).length - u.toNat,⟨0,T,rfl,bQ _,H2,p',N2⟩,?_⟩;rintro _ G ⟨i,q,rfl,hi,C,g',F⟩;have r:=oz o' ((keys (cg.due s.E1 d)).take i) _ l';by_cases i':i<(cg.due s.E1 d).length
 .rw[gi];have v:(keys (cg.due s.E1 d))[i]? =some ((keys (cg.due s.E1 d))[i]' ag):=aj _;generalize (keys (cg.due s.E1 d))[i]' ag=k at v;refine F.at v (pq C r k λg3 X3 H3 c'=>⟨rfl,H3.Ud ?_ λg4 H4 d'=> ?_⟩)
  .show(((keys (cg.due s.E1 d)).take i).foldl lj { s with E1:=cg.rest s.E1 d }).over<=100000;rw[Dp,bA];show s.over+_<=100000;omega
  .rw[bJ ag ag];refine⟨⟨i+1,X3,ag,ag,?_,g'.trans (c'.trans d'),(F.step c').step d'⟩,by show(cg.due s.E1 d).length - Int.toNat ((i:Int)+1)<(cg.due s.E1 d).length - i;omega⟩;rw[uF v];exact H4
 .rw[ae (by simp;omega)];obtain rfl:i=(cg.due s.E1 d).length:=ag
  have ta:(keys (cg.due s.E1 d)).take (cg.due s.E1 d).length=keys (cg.due s.E1 d):=bE ag;rw[ta]at C r;have b':Hj ((keys (cg.due s.E1 d)).foldl lj { s with E1:=cg.rest s.E1 d }):=Dr _ _ hE;generalize j':(keys (cg.due s.E1 d)).foldl lj { s with E1:=cg.rest s.E1 d } =o at C r b';refine C.Ug r d λh6 U p6 Z H6 e' o6 g6=>⟨_,_,_,rfl,?_⟩
  have k':(keys (cg.due o.E2 d)).length=(cg.due o.E2 d).length:=by unfold keys;rw[aD]
  have m':Small { o with E2:=cg.rest o.E2 d } :=⟨r.n,r.l,r.e1,db (Br _ _) r.e2⟩;have N6:wy h6 U p6 (cg.due o.E2 d).length Z (keys (cg.due o.E2 d)):=⟨o6,k'.symm,λy w=>(g6 y w).2⟩;have s':=r.e2;have u':(cg.due o.E2 d).length<=o.E2.length:=(List.takeWhile_sublist _).length_le;refine⟨λu G=> ∃(i:Nat)(q:Ft),u=(i:Int)/\i<=(cg.due o.E2 d).length/\Ct G t q (((keys (cg.due o.E2 d)).take i).foldl (λs k=>sa s k.toNat) { o with E2:=cg.rest o.E2 d })/\bw X h q G/\wy G q p6 (cg.due o.E2 d).length Z (keys (cg.due o.E2 d))/\wy G q P (cg.due s.E1 d).length D (keys (cg.due s.E1 d)),λu _=>(cg.due o.E2 d).length - u.toNat,⟨0,U,rfl,bQ _,H6,g'.trans e',N6,F.step e'⟩,?_⟩;rintro _ g7 ⟨j,X7,rfl,hj,E,f',Q,O⟩;have n':=oz (f:=λs k=>sa s k.toNat) (λs k h=>h.free k.toNat) ((keys (cg.due o.E2 d)).take j) _ m';by_cases i':j<(cg.due o.E2 d).length
  .rw[gi];have v:(keys (cg.due o.E2 d))[j]? =some ((keys (cg.due o.E2 d))[j]' ag):=aj _;generalize (keys (cg.due o.E2 d))[j]' ag=k at v;have h':k∈keys o.E2:=by
    have h1:=aZ v;unfold keys at h1⊢;obtain⟨e,he,rfl⟩:=bt.1 h1;exact bz ((List.takeWhile_sublist _).subset he)
   obtain⟨q',hz,ez⟩:=b' k h';obtain⟨y,w,ey⟩:=Ds ((keys (cg.due o.E2 d)).take j) { o with E2:=cg.rest o.E2 d } q' hz;have a':k=(y.num:Int):=by rw[ey];exact ez.symm
   refine Q.at v ?_;rw[a'];refine Kw E n' w λg8 X8 H8 M=>⟨rfl,?_⟩
   rw[bJ ag ag];refine⟨⟨j+1,X8,ag,ag,?_,f'.trans M,Q.step M,O.step M⟩,by show(cg.due o.E2 d).length - Int.toNat ((j:Int)+1)<(cg.due o.E2 d).length - j;omega⟩;rw[uF v,a',aH];exact H8
  .rw[ae (by simp;omega)];obtain rfl:j=(cg.due o.E2 d).length:=ag
   rw[bE ag]at E;refine J g7 X7 P D ?_ f' O (λy w=>(g2 y w).1);unfold kI;rw[j'];exact E
def yi(s:CF)(d:Ev):CF:=((mr s.L d).map (λz=>(z.num:Int))).foldl qb s
theorem Q2(e:Cm h t X s m x A S a b l)(d:Ev):lD (x.filter (λy=>decide (y.e=d)))=(mr s.L d).map (λz=>(z.num:Int)):=by
 unfold mr lD;rw[<-e.abs,dO,dT];rfl
theorem pY(e:Ct h t X s)(J:Small s)(ho:s.gone<=40000)(d:Ev)(hk: ∀H r P E,Ct H t r (yi s d)->bw X h r H->wy H r P (mr s.L d).length E ((mr s.L d).map (λz=>(z.num:Int)))->(∀y,aP P y->h.size<=y)->R (.slice P (mr s.L d).length E) H):
  Cl 96 #[.P t 0,lC d] h R:=by
 have T:=e;obtain⟨m,x,A,S,a,b,l,e⟩:=e;have sl:=J.l;have xl:=e.len;refine wx.walk (aw.box λc' h1 eb hb F=>aw.ld hb (wc (e.on F) d ag λh2 B C O I f2=>⟨_,_,_,rfl,?_⟩));have D:=F.tt f2;have z1:=F.1;rw[Js e d,Q2 e d]at O;rw[Js e d];have ol:(mr s.L d).length<=s.L.length:=cM _ _;have kl:((mr s.L d).map (λz=>(z.num:Int))).length=(mr s.L d).length:=aD _;have Z:wy h2 X B (mr s.L d).length C ((mr s.L d).map (λz=>(z.num:Int))):=⟨O,kl.symm,λy w hm=>by
  have h1:=I y w;have:=e.Fs y ((e.mm y).1 hm);omega⟩
 have a': ∀(s:CF) k,Small s->Small (qb s k):=λs k h=>⟨(h.rem k).n,(h.rem k).l,(h.rem k).e1,(h.rem k).e2⟩
 refine⟨λu G=> ∃(i:Nat)(j:Ft),u=(i:Int)/\i<=(mr s.L d).length/\Ct G t j ((((mr s.L d).map (λz=>(z.num:Int))).take i).foldl qb s)/\bw X h j G/\wy G j B (mr s.L d).length C ((mr s.L d).map (λz=>(z.num:Int))),λu _=>(mr s.L d).length - u.toNat,⟨0,X,rfl,bQ _,T.on D,bw.gT D,Z⟩,?_⟩;rintro _ G ⟨i,j,rfl,hi,o,Q,q⟩;have b':=oz a' (((mr s.L d).map (λz=>(z.num:Int))).take i) _ J;by_cases d':i<(mr s.L d).length
 .rw[gi];have v:((mr s.L d).map (λz=>(z.num:Int)))[i]? =some (((mr s.L d).map (λz=>(z.num:Int)))[i]' ag):=aj _;generalize ((mr s.L d).map (λz=>(z.num:Int)))[i]' ag=k at v;refine q.at v (pq o b' k λg3 X3 U L=>⟨rfl,U.Ue ?_ λg4 V M=> ?_⟩)
  .show((((mr s.L d).map (λz=>(z.num:Int))).take i).foldl qb s).gone<=100000;rw[Dq,bA];omega
  .rw[bJ ag ag];refine⟨⟨i+1,X3,ag,ag,?_,Q.trans (L.trans M),(q.step L).step M⟩,by show(mr s.L d).length - Int.toNat ((i:Int)+1)<(mr s.L d).length - i;omega⟩;rw[uF v];exact V
 .rw[ae (by simp;omega)];obtain rfl:i=(mr s.L d).length:=ag
  rw[bE ag]at o;exact hk G j B C o Q q (λy w=>bW (I y w))
abbrev Pk:Value:=.agg #[.int .i64 0,.bool false,.int .u64 0,.int .u64 0,.string ⟨#[]⟩,.string ⟨#[]⟩,.slice none 0 0,.int .u64 0,.int .i64 0,.int .u64 0]
abbrev Cp.val(z:Cp)(p:ct)(c:Nat):Value:=.agg #[.int .i64 (z.num:Int),.bool z.e.lE,.int .u64 z.e.node,.int .u64 z.e.gL,.string z.e.host,.string z.e.jZ,.slice p z.d.length c,.int .u64 (z.fS:Int),.int .i64 z.ses,.int .u64 (z.dl:Int)]
def uG(d:Int)(D:Nat):Prop:=1<=d/\d<=1099511627776/\D<=1099511627776
def mF(L:List Cp)(d:Ev):Option Cp:=(mr L d).find? (λz=>decide (z.ses=0))
def sd(s:CF)(z:Cp)(e:Int)(d:Nat):CF:= { s with L:=px s.L z.num e d,E2:=AW s.E2 (z.num:Int) (d:Int) }
theorem Jt(d:R (.B (decide (1<=k/\k<=1099511627776))) h):Cl 187 #[.I k] h R:=by
 refine xA.walk ?_;by_cases q:1<=k
 .have Q:k≥1:=q;simp only[Q,bF,bm];simp only[q,true_and]at d;exact d
 .have Q: ¬k≥1:=q;simp only[Q,bu,ar,aQ];simp only[q,false_and,bu]at d;exact d
theorem Mv(r:Ct h t X s)(sm:Small s)(hb: ∀z∈s.L,1<=z.num/\z.num<s.next/\z.d.length<=600)(w:Ev)(q:Int)(D:Nat)(S':k=(D:Int))(k1: ¬uG q D->hH h R (.T #[Pk,.I 1]))(k2:uG q D->mF s.L w=none->hH h R (.T #[Pk,.I 4]))(k3:uG q D->∀z,mF s.L w=some z->∀H X' p' c',Ct H t X' (sd s z q D)->bw X h X' H->Row H p' (bc z.d)->z.d.length<=c'->(∀y,aP p' y->h.size<=y/\¬(X'.M y\/X'.D y))->R (.T #[({ z with ses:=q,dl:=D } :Cp).val p' c',.I 0]) H):
  Cl 146 #[.P t 0,lC w,.I q,.U k] h R:=by
 subst S';obtain⟨m,x,A,S,a,b,l,r⟩:=r;have sn:=sm.n;have sl:=sm.l;have se:=sm.e2;have xl:=r.len;refine uD.walk (aw.box λb7 h1 e1 e' f1=>aR.box λB P e2 k' f2=> ?_);have z1:=aA e';have z2:=aA k';have a':=f1.tt f2;have e':=f2.get e' id;refine gp (r.on a') ⟨_,rfl,?_⟩;rw[dy];have c4:=f1.1;have s': ∀M (e:Int),Fr No P M->(hH h R (.T #[Pk,.I e]))->aR.ST M (AA B 0) 0 false 0 0 ij ij none 0 0 0 0 0 λg2=>aR.LD g2 (AA B 0) λZ' a0 a1 a2 a3 a4 a7 a6 a5 a8 a9 b0=>
   R (.T #[.agg #[.I Z',.B a0,.U a1,.U a2,.S a3,.S a4,.L a7 a6 a5,.U a8,.I a9,.U b0],.I e]) g2:=λM e fg hk=>
  aR.set (fg.get k' id) λg2 a s2 o2=>aR.ld a (hk g2 ((a'.tt fg).fresh (S:=λy=>y=B) ⟨ag,λy _ u=>o2 y u⟩ (λy e=>ag)))
 refine aG.of λE' hJ=>Jt ⟨_,rfl,?_⟩
 have bad: ¬uG q D->E' true P:=λu=>by
  subst hJ;simp only[bm];exact s' P 1 (Fr.refl _ _) (k1 u)
 by_cases U:1<=q/\q<=1099511627776
 .rw[av U,dy];by_cases q2:(D:Int)>1099511627776
  .rw[av q2];exact bad (λhm=>bW hm.2.2)
  .rw[aC q2];clear bad;subst hJ;simp only[ar,aQ];have hm:uG q D:=⟨U.1,U.2,ag⟩;refine aw.ld e' (wc (r.on a') w ag λE p7 c7 o7 g7 f7=>⟨_,_,_,rfl,?_⟩);have F7:=a'.tt f7;have Z:=r.on F7;have w':=f7.get k' id;have hF:(x.filter (λy=>decide (y.e=w))).map CV.abs=mr s.L w:=by unfold mr;rw[<-r.abs,dO];rfl
   generalize y':x.filter (λy=>decide (y.e=w))=o at o7 hF;have nl:(lD o).length=o.length:=by unfold lD;rw[aD]
   have fl:o.length<=x.length:=by rw[<-y'];exact cM _ _
   refine⟨λn' M=>M=E/\∃i:Nat,n'=(i:Int)/\i<=o.length/\∀j y,j<i->o[j]? =some y->y.ses≠0,λn' _=>o.length - n'.toNat,⟨rfl,0,rfl,bQ _,λj y G=>ag⟩,?_⟩;rintro _ E ⟨rfl,i,rfl,hi,j'⟩;by_cases x':i<o.length
   .rw[gi];have d:o[i]? =some o[i]:=aj x';generalize o[i]=y at d;have Q:y∈x:=by
     have:=aZ d;rw[<-y']at this;exact(bj.1 this).1
    obtain⟨ab,ao,rfl⟩:=o7.addr ag;have cc:=o7.cell (j:=i) (v:=gI (y.num:Int)) (by rw[aL];unfold lD;rw[aL,d];rfl);have L7:=look Z Q;have ca:=Z.Hh y Q;simp only[aH,cE];refine⟨ag,ax.2 ⟨_,cc,_,au Z.di,_,L7,ax.2 ⟨_,au ca,?_⟩⟩⟩;by_cases f':y.ses=0
    .rw[af (cR f')];have U':mF s.L w=some y.abs:=by
      unfold mF;rw[<-hF,List.find?_map];have:o.find? ((λz:Cp=>decide (z.ses=0)) ∘ CV.abs)=some y:=by
       rw[fP];refine⟨by simp[CV.abs,f'],i,x',(az.1 d).2,λj G=> ?_⟩;have T:=j' j (o[j]' ag) G (aj ag);have V':decide ((o[j]' ag).abs.ses=0)=false:=aC T;show(!decide ((o[j]' ag).abs.ses=0))=true;rw[V'];rfl
      rw[this];rfl
     have l':=hb y.abs (by rw[<-r.abs];exact bz Q);have c1:1<=y.num:=l'.1;have c2:y.num<s.next:=l'.2.1;have c3:y.v.b.length<=600:=l'.2.2;refine ax.2 (Z.Dn (ses:=q) (dl:=D) Q λc0 h' b2=>⟨_,au h'.di,?_⟩);have T':may (y.num:Int) (D:Int)=true:=mS.2 ⟨ag,ag,ag⟩;refine cg.I5 h'.Jl (by show s.E2.length<_;omega) (y.num:Int) (D:Int) ag (λ_ t' b6 D' O' M'=>⟨_,rfl,?_⟩) (λhx=>absurd T' (by rw[hx];simp));obtain⟨v,c5,i',b3,_⟩:=h'.Jm (s':=sd s y.abs q D) D' O' M' rfl rfl rfl ⟨rfl,rfl,rfl,rfl⟩;have z':({ y with ses:=q,dl:=D } :CV)∈x.map (λz=>if z.num=y.num then({ y with ses:=q,dl:=D } :CV)else z):=bt.2 ⟨y,Q,af rfl⟩;have r':=i'.Hh _ z';have L':=i'.EE _ z';refine ax.2 (aR.ld r' (aR.new λJ u' b9 v' F=>ax.2 ⟨_,_,_,au (F.get r' id),gE ((L'.row).frame F bX) rfl (by show y.v.b.length<=_;omega) λg' q' P' B' L O=>⟨_,_,_,rfl,?_⟩⟩));have V:=b2.trans b3;have d0:E.size<=t'.size:=V.fr.1;have d1:=F.1;refine bk (L.get v' id) bU λb' J' c8 m'=> ?_
     have Q':aR.at b' J (y.num:Int) y.e.lE y.e.node y.e.gL y.e.host y.e.jZ g' y.v.b.length q' (y.fS:Int) q (D:Int):=J';refine aR.ld Q' ?_;have nM: ∀y,y<E.size->h.size<=y->¬v.M y:=λy y1 y2 hm=>by
      rcases V.hN y hm with h3|h3
      .have:=r.Fs y ((r.mm y).1 h3);omega
      .omega
     have b5:B<E.size:=aA w';have I': ¬X.M B:=λhm=>by have:=r.Fs B ((r.mm B).1 hm);omega
     have R':aR.at b' B 0 false 0 0 ⟨#[]⟩ ⟨#[]⟩ none 0 0 0 0 0:=by
      have h3:=V.fr.get w' I';have h4:=(F.tt L).get h3 id;have:B≠J:=ag
      unfold aR.at;rw[m' B this];exact h4
     refine aR.set R' λd' K' c9 C'=>aR.ld K' ?_
     have c6: ∀y,aP g' y->u'.size<=y:=O;have fA:Fr (λy=>y=J) P' b':=⟨ag,λy _ u=>m' y u⟩;have fB:Fr (λy=>y=B) b' d':=⟨ag,λy _ u=>C' y u⟩;have b8:J<u'.size:=aA v';have b1:Row d' g' (bc y.v.b):=((B'.iz).frame fA (λC ea hm=>by have:=O C.block ⟨C,ea,rfl⟩;have hm:C.block=J:=hm;omega)).frame fB (λC ea hm=>by have:=O C.block ⟨C,ea,rfl⟩;have hm:C.block=B:=hm;omega);have o':Ct t' t v (sd s y.abs q D):=⟨_,_,_,_,_,_,_,i'⟩;have A':=λy (d:v.M y\/v.D y)=>o'.lt y d
     have F':=o'.on (F.tt L);have G':=F'.frame fA (λy d e=>bW (A' y d));have d2: ¬(v.M B\/v.D B):=λhm=>by
      rcases hm with hm|hm
      .exact nM B b5 ag hm
      .rcases V.ji B hm with h3|h3
       .have:=(r.dd B h3).2;omega
       .omega
     have H':=G'.frame fB (λy d e=>d2 (e▸d));have I:=bw.no F7 V;have b4:bw X h v d':=by
      refine⟨⟨iJ L.1 I.fr.1,λy d u=> ?_⟩,I.hN,I.ji,I.mz⟩;have:=I.fr.1;rw[C' y ag,m' y ag,(F.tt L).2 y ag id];exact I.fr.2 y d u
     exact k3 hm y.abs U' d' v g' q' H' b4 b1 B'.le (λy d=>⟨iJ (O y d) F7.1,λhx=>iJ (A' y hx) (O y d)⟩)
    .rw[ae (cR f'),bJ ag ag];refine⟨⟨by first|trivial|rfl,i+1,ag,ag,λj z G T=> ?_⟩,by show o.length - Int.toNat ((i:Int)+1)<o.length - i;omega⟩;by_cases ej:j=i
     .subst ej;rw[d]at T;cases T;exact f'
     .exact j' j z ag T
   .rw[ae (by simp;omega)];refine s' E 4 f7 (k2 hm ?_);unfold mF;rw[<-hF,List.find?_map];have:o.find? ((λz:Cp=>decide (z.ses=0)) ∘ CV.abs)=none:=by
     rw[List.find?_eq_none];intro y d;obtain⟨j,G⟩:=bL d;have:=j' j y (bW ((az.1 G).1)) G;have P:decide (y.abs.ses=0)=false:=aC this;show¬(decide (y.abs.ses=0)=true);rw[P];decide
    rw[this];rfl
 .rw[aC U,gi];exact bad (λhm=>U ⟨hm.1,hm.2.1⟩)

end gY
end
section
open Go.kU
namespace gY
open jG cg mi
variable {h:ai} {t:Nat} {X:Ft} {s s':CF} {n:Nat} {now:Int}
variable {z:Cp} {L:List Cp} {k a ses:Int} {e:E} {b:Nat} {K:List Int}
structure Ord (s:CF):Prop where
 nd:(s.L.map Cp.num).Nodup
 o1:jH s.E1
 o2:jH s.E2
 n1:(keys s.E1).Nodup
 n2:(keys s.E2).Nodup
theorem Ct.ord(H:Ct h t X s):Ord s:=by
 obtain⟨m,x,A,S,d,c,l,H⟩:=H;refine⟨?_,H.Jk.sorted,H.Jl.sorted,H.Jk.nodup,H.Jl.nodup⟩;rw[<-H.abs,dT];exact H.so.imp (λh=>Nat.ne_of_lt h)
structure sM (s:CF):Prop where
 bd: ∀z∈s.L,1<=z.num/\z.num<s.next/\z.d.length<=600
 sp: ∀z∈s.L,0<=z.ses
 e1: ∀e,e∈s.E1↔ ∃z∈s.L,e=((z.num:Int),(z.fS:Int))
 e2: ∀e,e∈s.E2↔ ∃z∈s.L,z.ses≠0/\e=((z.num:Int),(z.dl:Int))
 yM:s.next=1+s.L.length+s.gF+s.over+s.gone
theorem Ord.inj(O:Ord s){y:Cp}(m:z∈s.L)(l:y∈s.L)(e:z.num=y.num):z=y:=by
 obtain⟨i,H⟩:=bL m;obtain⟨j,c⟩:=bL l;have o:=(az.1 H).1;by_cases d:i=j
 .subst d;rw[H]at c;exact aX c
 .exfalso;have f:(s.L.map Cp.num)[i]? =some z.num:=by rw[aL,H];rfl
  have g:(s.L.map Cp.num)[j]? =some y.num:=by rw[aL,c];rfl
  have:i=j:=(fa (by rw[aD];exact o) O.nd).1 (f.trans ((cf some e).trans g.symm));exact d this
theorem sN{L:List E}:e∈fY L k↔e∈L/\e.1≠k:=by unfold fY;simp[bj]
theorem Hk{L:List E}{v:Int}:e∈AW L k v↔e=(k,v)\/(e∈L/\e.1≠k):=by
 unfold AW;rw[(mR _ _).mem_iff,bg,sN]
theorem nI :z∈Co L k↔z∈L/\(z.num:Int)≠k:=by unfold Co;simp[bj]
theorem nJ :z∈px L n a b↔ ∃y∈L,z=if y.num=n then { y with ses:=a,dl:=b } else y:=by
 unfold px;rw[bt];exact⟨λ⟨y,H,c⟩=>⟨y,H,c.symm⟩,λ⟨y,H,c⟩=>⟨y,H,c.symm⟩⟩
theorem Pl(L:List Cp)(n:Nat)(a:Int)(b:Nat):(px L n a b).length=L.length:=by unfold px;rw[aD]
theorem wg: ∀{L:List Cp},(L.map Cp.num).Nodup->∀{z:Cp},z∈L->(Co L (z.num:Int)).length+1=L.length
 | [],_,z,hz=>by cases hz
 |y::l,c,z,hz=>by
  rw[cb,fL]at c;unfold Co;rw[cu];rcases bg.1 hz with rfl|hz
  .rw[ae bU,cz.2 (λx H=> ?_),bn];have:x.num≠z.num:=λe=>c.1 (by rw[<-e];exact bz H)
   simp;omega
  .have d:y.num≠z.num:=λe=>c.1 (by rw[e];exact bz hz)
   rw[af (by simp;omega),bn,bn];have:=wg c.2 hz;unfold Co at this;omega
theorem sM.add(o:sM s)(x:Ev)(d:cG)(T:Nat):sM (kJ s x d T):=by
 unfold kJ;by_cases H:jB s x d T=0
 .rw[af H];have hd:d.length<=600:=by
   unfold jB at H;split at H
   .rename_i f;unfold yU at f;simp only[aW,aY]at f;exact f.2.2.2.1
   .cases H
  refine⟨λz hz=> ?_,λz hz=> ?_,λe=> ?_,λe=> ?_,?_⟩
  .rcases bH.1 hz with hz|hz
   .have:=o.bd z hz;exact⟨this.1,Nat.lt_succ_of_lt this.2.1,this.2.2⟩
   .obtain rfl:=bP.1 hz;exact⟨by have:=o.yM;show 1<=s.next;omega,Nat.lt_succ_self _,hd⟩
  .rcases bH.1 hz with hz|hz
   .exact o.sp z hz
   .obtain rfl:=bP.1 hz;exact eh _
  .show e∈AW s.E1 _ _↔ ∃z∈s.L++ [_],_;rw[Hk,o.e1];constructor
   .rintro(rfl|⟨⟨z,hz,rfl⟩,_⟩)
    .exact⟨_,bH.2 (.inr (bP.2 rfl)),rfl⟩
    .exact⟨z,bH.2 (.inl hz),rfl⟩
   .rintro⟨z,hz,rfl⟩;rcases bH.1 hz with hz|hz
    .exact .inr ⟨⟨z,hz,rfl⟩,by have:=(o.bd z hz).2.1;show(z.num:Int)≠_;omega⟩
    .obtain rfl:=bP.1 hz;exact .inl rfl
  .show e∈s.E2↔ ∃z∈s.L++ [_],_;rw[o.e2];constructor
   .rintro⟨z,hz,c⟩;exact⟨z,bH.2 (.inl hz),c⟩
   .rintro⟨z,hz,c⟩;rcases bH.1 hz with hz|hz
    .exact⟨z,hz,c⟩
    .obtain rfl:=bP.1 hz;exact absurd rfl c.1
  .have:=o.yM;show s.next+1=1+(s.L++ [_]).length+s.gF+s.over+s.gone;rw[aB,dL];omega
 .rw[ae H];exact o
theorem sM.rem(o:sM s)(O:Ord s)(l:z∈s.L)(c:s'.L=Co s.L (z.num:Int))(i:s'.E1=fY s.E1 (z.num:Int))(j:s'.E2=fY s.E2 (z.num:Int))(g:s'.next=s.next)(m:s'.gF+s'.over+s'.gone=s.gF+s.over+s.gone+1):sM s':=by
 refine⟨λy H=> ?_,λy H=> ?_,λe=> ?_,λe=> ?_,?_⟩
 .rw[c,nI]at H;rw[g];exact o.bd y H.1
 .rw[c,nI]at H;exact o.sp y H.1
 .rw[i,sN,o.e1,c];constructor
  .rintro⟨⟨y,H,rfl⟩,d⟩;exact⟨y,nI.2 ⟨H,d⟩,rfl⟩
  .rintro⟨y,H,rfl⟩;have:=nI.1 H;exact⟨⟨y,this.1,rfl⟩,this.2⟩
 .rw[j,sN,o.e2,c];constructor
  .rintro⟨⟨y,H,f,rfl⟩,d⟩;exact⟨y,nI.2 ⟨H,d⟩,f,rfl⟩
  .rintro⟨y,H,f,rfl⟩;have:=nI.1 H;exact⟨⟨y,this.1,f,rfl⟩,this.2⟩
 .have:=wg O.nd l;have:=o.yM;rw[g,c];omega
theorem Hm(h:lF L k ses=0): ∃z∈L,(z.num:Int)=k/\z.ses=ses/\ses≠0:=by
 unfold lF at h;cases c:yT L k with
 |none=>rw[c]at h;cases h
 |some z=>
  rw[c]at h;dsimp only at h;split at h
  .cases h
  .rename_i H;obtain⟨d,f⟩:=xE c;refine⟨z,d,f,?_,?_⟩<;>(simp only[not_or,Decidable.not_not]at H)
   .exact H.2
   .rw[<-H.2];exact H.1
theorem sM.Vw(o:sM s)(O:Ord s)(k ses:Int):sM (tG s k ses):=by
 unfold tG;by_cases H:lF s.L k ses=0
 .rw[af H];obtain⟨z,c,rfl,_,_⟩:=Hm H;exact o.rem O c rfl rfl rfl rfl (by show s.gF+1+s.over+s.gone=_;omega)
 .rw[ae H];exact o
theorem sM.set(o:sM s)(O:Ord s)(q:z∈s.L)(p:0<=a)(f:s'.L=px s.L z.num a b)(i:s'.E1=s.E1)(j: ∀e,e∈s'.E2↔(a≠0/\e=((z.num:Int),(b:Int)))\/(e∈s.E2/\e.1≠(z.num:Int)))(g:s'.next=s.next)(r:s'.gF+s'.over+s'.gone=s.gF+s.over+s.gone):sM s':=by
 refine⟨λy H=> ?_,λy H=> ?_,λe=> ?_,λe=> ?_,?_⟩
 .rw[f,nJ]at H;obtain⟨u,c,rfl⟩:=H;rw[g];have:=o.bd u c;split<;>exact this
 .rw[f,nJ]at H;obtain⟨u,c,rfl⟩:=H;split
  .exact p
  .exact o.sp u c
 .rw[i,o.e1,f];constructor
  .rintro⟨y,H,rfl⟩;refine⟨_,nJ.2 ⟨y,H,rfl⟩,?_⟩;split<;>rfl
  .rintro⟨y,H,rfl⟩;obtain⟨u,c,rfl⟩:=nJ.1 H;refine⟨u,c,?_⟩;split<;>rfl
 .rw[j,o.e2,f];constructor
  .rintro(⟨l,rfl⟩|⟨⟨y,H,d,rfl⟩,m⟩)
   .refine⟨_,nJ.2 ⟨z,q,rfl⟩,?_⟩;rw[af rfl];exact⟨l,rfl⟩
   .refine⟨_,nJ.2 ⟨y,H,rfl⟩,?_⟩;rw[ae (λe=>m (by rw[e]))];exact⟨d,rfl⟩
  .rintro⟨y,H,d,rfl⟩;obtain⟨u,c,rfl⟩:=nJ.1 H;by_cases e:u.num=z.num
   .rw[af e]at d⊢;exact .inl ⟨d,by rw[<-e]⟩
   .rw[ae e]at d⊢;exact .inr ⟨⟨u,c,d,rfl⟩,by show(u.num:Int)≠_;omega⟩
 .have:=o.yM;rw[g,f,Pl];omega
theorem sM.rel(o:sM s)(O:Ord s)(k ses:Int):sM (EJ s k ses):=by
 unfold EJ;by_cases H:lF s.L k ses=0
 .rw[af H];obtain⟨z,c,rfl,_,_⟩:=Hm H;rw[aH];refine o.set O c (eh 0) rfl rfl (λe=> ?_) rfl rfl;show e∈fY _ _↔_;rw[sN];simp
 .rw[ae H];exact o
theorem Ju{x:Ev}(h:mF L x=some z):z∈L/\z.e=x/\z.ses=0:=by
 unfold mF mr at h;have H:=List.mem_of_find?_eq_some h;have c:=List.find?_some h;rw[bj]at H;exact⟨H.1,cR H.2,by simpa using c⟩
theorem sM.Dn(o:sM s)(O:Ord s)(c:z∈s.L){dl:Nat}(H:uG ses dl):sM (sd s z ses dl):=by
 have d:=H.1;refine o.set O c ag rfl rfl (λe=> ?_) rfl rfl;show e∈AW _ _ _↔_;rw[Hk];have:ses≠0:=ag
 simp[this]
theorem gv: ∀{L:List E},jH L->cg.due L now=L.filter (jL now)/\cg.rest L now=L.filter (λe=> !jL now e)
 | [],_=>⟨rfl,rfl⟩
 |e::r,g=>by
  have f:=dU.1 g;obtain⟨i,I⟩:=gv (L:=r) f.2;unfold cg.due at i⊢;unfold cg.rest at I⊢;by_cases d:jL now e=true
  .rw[List.takeWhile_cons,List.dropWhile_cons,cu,cu,d];simp only[bm,cX,ar,aQ];rw[i,I];exact⟨rfl,rfl⟩
  .have c:jL now e=false:=by simpa using d
   have A: ∀x∈r,jL now x=false:=by
    intro x H;have h1:=f.1 x H;unfold jL at c⊢;have j:=gh c;apply aC
    rcases h1 with h1|h1<;>omega
   rw[List.takeWhile_cons,List.dropWhile_cons,cu,cu,c];simp only[ar,aQ,dZ,bm];refine⟨?_,?_⟩
   .symm;rw[List.filter_eq_nil_iff];intro x H;rw[A x H];simp
   .congr 1;symm;rw[cz];intro x H;rw[A x H];rfl
def uH(L:List Cp)(K:List Int):List Cp:=L.filter (λz=> !decide ((z.num:Int)∈K))
def py(L:List E)(K:List Int):List E:=L.filter (λe=> !decide (e.1∈K))
theorem Bs(L:List Cp):uH L []=L:=by unfold uH;exact cz.2 (λ_ _=>bU)
theorem sf(L:List E):py L []=L:=by unfold py;exact cz.2 (λ_ _=>bU)
theorem xG(L:List Cp)(k:Int)(K:List Int):uH (Co L k) K=uH L (k::K):=by
 unfold uH Co;rw[List.filter_filter];apply eK
 intro x _;by_cases H:(x.num:Int)=k
 .simp[H]
 .by_cases c:(x.num:Int)∈K<;>simp[H,c]
theorem pz(L:List E)(k:Int)(K:List Int):py (fY L k) K=py L (k::K):=by
 unfold py fY;rw[List.filter_filter];apply eK
 intro x _;by_cases H:x.1=k
 .simp[H]
 .by_cases c:x.1∈K<;>simp[H,c]
theorem Dt: ∀(K:List Int)(s:CF),K.foldl lj s= { s with L:=uH s.L K,E1:=py s.E1 K,E2:=py s.E2 K,over:=s.over+K.length }
 | [],s=>by rw[Bs,sf,sf];rfl
 |k::K,s=>by
  rw[List.foldl_cons,Dt K];unfold lj EI;dsimp only;rw[xG,pz,pz,bn];congr 1;omega
theorem xH: ∀(K:List Int)(s:CF),K.foldl qb s= { s with L:=uH s.L K,E1:=py s.E1 K,E2:=py s.E2 K,gone:=s.gone+K.length }
 | [],s=>by rw[Bs,sf,sf];rfl
 |k::K,s=>by
  rw[List.foldl_cons,xH K];unfold qb EI;dsimp only;rw[xG,pz,pz,bn];congr 1;omega
def nK(L:List Cp)(K:List Int):List Cp:=L.map (λz=>if(z.num:Int)∈K then { z with ses:=0,dl:=0 } else z)
theorem Du: ∀(K:List Int)(s:CF),(∀k∈K,0<=k)->K.foldl (λs k=>sa s k.toNat) s= { s with L:=nK s.L K,E2:=py s.E2 K }
 | [],s,_=>by
  rw[sf];have:nK s.L []=s.L:=by unfold nK;simp
  rw[this];rfl
 |k::K,s,f=>by
  rw[List.foldl_cons,Du K _ (λj g=>f j (cv _ g))];have i:=f k bU;unfold sa;dsimp only;have e:((k.toNat:Nat):Int)=k:=ag
  rw[e,pz];have:nK (px s.L k.toNat 0 0) K=nK s.L (k::K):=by
   unfold nK px;rw[dT];apply fb
   intro x _;show(λz:Cp=>if(z.num:Int)∈K then({ z with ses:=0,dl:=0 } :Cp)else z) (if x.num=k.toNat then({ x with ses:=0,dl:=0 } :Cp)else x)=_;by_cases d:x.num=k.toNat
   .have c:(x.num:Int)=k:=ag
    rw[af d,af (show(x.num:Int)∈k::K by rw[c];simp)];dsimp only;split<;>rfl
   .have c:(x.num:Int)≠k:=ag
    rw[ae d];dsimp only;by_cases H:(x.num:Int)∈K
    .rw[af H,af (cv _ H)]
    .rw[ae H,ae (by simp[c,H])]
  rw[this]
theorem Ky: ∀(K:List Int)(L:List Cp),(L.map Cp.num).Nodup->K.Nodup->(∀k∈K,∃z∈L,(z.num:Int)=k)->(uH L K).length+K.length=L.length
 | [],L,_,_,_=>by rw[Bs];rfl
 |k::K,L,d,l,c=>by
  obtain⟨z,i,rfl⟩:=c k bU;rw[<-xG,bn];have m:=wg d i;have f:=fL.1 l;have o:=Ky K (Co L (z.num:Int)) (fJ (ga _ cU) d) f.2 (λj H=>by
   obtain⟨y,g,e⟩:=c j (cv _ H);exact⟨y,nI.2 ⟨g,λE=>f.1 (by rw[<-E,e];exact H)⟩,e⟩)
  omega
theorem nL :z∈uH L K↔z∈L/\(z.num:Int)∉K:=by unfold uH;simp[bj]
theorem Bt{L:List E}:e∈py L K↔e∈L/\e.1∉K:=by unfold py;simp[bj]
theorem Mw :z∈nK L K↔ ∃y∈L,z=if(y.num:Int)∈K then { y with ses:=0,dl:=0 } else y:=by
 unfold nK;rw[bt];exact⟨λ⟨y,H,c⟩=>⟨y,H,c.symm⟩,λ⟨y,H,c⟩=>⟨y,H,c.symm⟩⟩
theorem Pm(O:Ord s)(x:Ev):((mr s.L x).map (λz=>(z.num:Int))).Nodup:=by
 have:((mr s.L x).map Cp.num).Nodup:=fJ (ga _ cU) O.nd;have e:(mr s.L x).map (λz=>(z.num:Int))=((mr s.L x).map Cp.num).map (λn:Nat=>(n:Int)):=by rw[dT];rfl
 rw[e];exact List.Pairwise.map _ (λa b h=>ag) this
theorem sM.outs(o:sM s)(O:Ord s)(m:K.Nodup)(l: ∀k∈K,∃z∈s.L,(z.num:Int)=k)(c:s'.L=uH s.L K)(i:s'.E1=py s.E1 K)(j:s'.E2=py s.E2 K)(g:s'.next=s.next)(p:s'.gF+s'.over+s'.gone=s.gF+s.over+s.gone+K.length):sM s':=by
 refine⟨λy H=> ?_,λy H=> ?_,λe=> ?_,λe=> ?_,?_⟩
 .rw[c,nL]at H;rw[g];exact o.bd y H.1
 .rw[c,nL]at H;exact o.sp y H.1
 .rw[i,Bt,o.e1,c];constructor
  .rintro⟨⟨y,H,rfl⟩,d⟩;exact⟨y,nL.2 ⟨H,d⟩,rfl⟩
  .rintro⟨y,H,rfl⟩;have:=nL.1 H;exact⟨⟨y,this.1,rfl⟩,this.2⟩
 .rw[j,Bt,o.e2,c];constructor
  .rintro⟨⟨y,H,f,rfl⟩,d⟩;exact⟨y,nL.2 ⟨H,d⟩,f,rfl⟩
  .rintro⟨y,H,f,rfl⟩;have:=nL.1 H;exact⟨⟨y,this.1,f,rfl⟩,this.2⟩
 .have:=Ky K s.L O.nd m l;have:=o.yM;rw[g,c];omega
theorem sM.drop(o:sM s)(O:Ord s)(x:Ev):sM (yi s x):=by
 unfold yi;rw[xH];refine o.outs O (Pm O x) (λk H=> ?_) rfl rfl rfl rfl (by show s.gF+s.over+(s.gone+_)=_;omega);obtain⟨z,c,e⟩:=bt.1 H;exact⟨z,(bj.1 c).1,e⟩
theorem EL(O:Ord s):e∈cg.due s.E1 now↔e∈s.E1/\e.2<=now:=by
 rw[(gv O.o1).1,bj];unfold jL;simp
theorem My(O:Ord s)(now:Int):(keys (cg.due s.E1 now)).Nodup:=by
 unfold keys;exact fJ (ga _ (List.takeWhile_sublist _)) O.n1
theorem EM(o:sM s)(O:Ord s)(H:z∈s.L):(z.num:Int)∈keys (cg.due s.E1 now)↔(z.fS:Int)<=now:=by
 unfold keys;rw[bt];constructor
 .rintro⟨e,f,E⟩;obtain⟨c,d⟩:=(EL O).1 f;obtain⟨y,g,rfl⟩:=(o.e1 e).1 c;obtain rfl:=O.inj g H (Int.ofNat.inj E);exact d
 .intro h;exact⟨(z.num,z.fS),(EL O).2 ⟨(o.e1 _).2 ⟨z,H,rfl⟩,h⟩,rfl⟩
theorem SQ(o:sM s)(O:Ord s)(H:k∈keys (cg.due s.E1 now)): ∃z∈s.L,(z.num:Int)=k:=by
 unfold keys at H;obtain⟨e,c,rfl⟩:=bt.1 H;obtain⟨z,d,rfl⟩:=(o.e1 e).1 ((EL O).1 c).1;exact⟨z,d,rfl⟩
theorem Mz(O:Ord s):py (cg.rest s.E1 now) (keys (cg.due s.E1 now))=py s.E1 (keys (cg.due s.E1 now)):=by
 rw[(gv O.o1).1,(gv O.o1).2];unfold py keys;rw[List.filter_filter];apply eK
 intro e H;by_cases hd:jL now e=true
 .have:e.1∈(s.E1.filter (jL now)).map (·.1):=bz (bj.2 ⟨H,hd⟩);simp only[this,bF,cX,fI]
 .simp[hd]
def mj(now:Int)(z:Cp):Cp:=if z.ses≠0/\(z.dl:Int)<=now then { z with ses:=0,dl:=0 } else z
def Pn(s:CF)(now:Int):CF:= { L:=uH s.L (keys (cg.due s.E1 now)),next:=s.next,gF:=s.gF,over:=s.over+(keys (cg.due s.E1 now)).length,gone:=s.gone,E1:=py s.E1 (keys (cg.due s.E1 now)),E2:=py s.E2 (keys (cg.due s.E1 now)) }
def Po(S:CF)(now:Int):CF:=(keys (cg.due S.E2 now)).foldl (λs k=>sa s k.toNat) { S with E2:=cg.rest S.E2 now }
theorem Pp(O:Ord s):kI s now=Po (Pn s now) now:=by
 unfold kI Po Pn;dsimp only;rw[Dt];dsimp only;rw[Mz O]
theorem MA(l:sM s)(O:Ord s)(now:Int):sM (kI s now)/\(∀z,z∈(kI s now).L↔ ∃y∈s.L,now<(y.fS:Int)/\z=mj now y)/\(kI s now).next=s.next/\(kI s now).E1.length<=s.E1.length/\(kI s now).E2.length<=s.E2.length/\(kI s now).L=(s.L.filter (λy=>decide (now<(y.fS:Int)))).map (mj now)/\(kI s now).gF=s.gF/\(kI s now).over=s.over+(cg.due s.E1 now).length/\(kI s now).gone=s.gone:=by
 rw[Pp O];generalize g:Pn s now=S;have o:sM S:=by
  subst g;exact l.outs O (My O now) (λk j=>SQ l O j) rfl rfl rfl rfl (by show s.gF+(s.over+_)+s.gone=_;omega)
 have m:Ord S:=by
  subst g;exact⟨fJ (ga _ cU) O.nd,gk _ O.o1,gk _ O.o2,fJ (ga _ cU) O.n1,fJ (ga _ cU) O.n2⟩
 have M: ∀z,z∈S.L↔z∈s.L/\now<(z.fS:Int):=λz=>by
  subst g;show z∈uH _ _↔_;rw[nL];constructor
  .rintro⟨d,i⟩;exact⟨d,Int.not_le.1 (λe=>i ((EM l O d).2 e))⟩
  .rintro⟨d,i⟩;exact⟨d,λe=>absurd ((EM l O d).1 e) (Int.not_le.2 i)⟩
 have P:S.next=s.next:=by subst g;rfl
 have I:S.E1.length<=s.E1.length:=by subst g;exact cM _ _
 have J:S.E2.length<=s.E2.length:=by subst g;exact cM _ _
 have C:S.gF=s.gF/\S.over=s.over+(cg.due s.E1 now).length/\S.gone=s.gone:=by subst g;exact⟨rfl,by show s.over+(keys _).length=_;unfold keys;rw[aD],rfl⟩
 have w:S.L=s.L.filter (λy=>decide (now<(y.fS:Int))):=by
  subst g;show uH _ _=_;unfold uH;refine eK λz c=> ?_
  have:=EM (now:=now) l O c;by_cases hd:(z.fS:Int)<=now
  .rw[av (this.2 hd),aC (Int.not_lt.2 hd)];rfl
  .rw[aC (λe=>hd (this.1 e)),av (Int.not_le.1 hd)];rfl
 clear g;have p: ∀e,e∈cg.due S.E2 now↔e∈S.E2/\e.2<=now:=λe=>by
  rw[(gv m.o2).1,bj];unfold jL;simp
 have D: ∀z∈S.L,((z.num:Int)∈keys (cg.due S.E2 now)↔z.ses≠0/\(z.dl:Int)<=now):=λz c=>by
  unfold keys;rw[bt];constructor
  .rintro⟨e,u,E⟩;obtain⟨d,i⟩:=(p e).1 u;obtain⟨y,H,f,rfl⟩:=(o.e2 e).1 d;obtain rfl:=m.inj H c (Int.ofNat.inj E);exact⟨f,i⟩
  .rintro⟨d,i⟩;exact⟨(z.num,z.dl),(p _).2 ⟨(o.e2 _).2 ⟨z,c,d,rfl⟩,i⟩,rfl⟩
 have x: ∀k∈keys (cg.due S.E2 now),0<=k:=λk j=>by
  unfold keys at j;obtain⟨e,u,rfl⟩:=bt.1 j;obtain⟨z,c,_,rfl⟩:=(o.e2 e).1 ((p e).1 u).1;show(0:Int)<=(z.num:Int);omega
 unfold Po;rw[Du _ _ x];have r: ∀z∈S.L,(if(z.num:Int)∈keys (cg.due S.E2 now)then({ z with ses:=0,dl:=0 } :Cp)else z)=mj now z:=λz c=>by
  unfold mj;by_cases hd:z.ses≠0/\(z.dl:Int)<=now
  .rw[af hd,af ((D z c).2 hd)]
  .rw[ae hd,ae (λe=>hd ((D z c).1 e))]
 have F: ∀z,z∈nK S.L (keys (cg.due S.E2 now))↔ ∃y∈S.L,z=mj now y:=λz=>by
  rw[Mw];constructor
  .rintro⟨y,H,rfl⟩;exact⟨y,H,r y H⟩
  .rintro⟨y,H,rfl⟩;exact⟨y,H,(r y H).symm⟩
 have q: ∀y,(mj now y).num=y.num:=λy=>by unfold mj;split<;>rfl
 have v: ∀y,(mj now y).fS=y.fS:=λy=>by unfold mj;split<;>rfl
 have A: ∀y,(mj now y).d=y.d:=λy=>by unfold mj;split<;>rfl
 refine⟨⟨λz c=> ?_,λz c=> ?_,λe=> ?_,λe=> ?_,?_⟩,λz=> ?_,P,I,?_,?_,C⟩
 .obtain⟨y,H,rfl⟩:=(F z).1 c;rw[q,A];exact o.bd y H
 .obtain⟨y,H,rfl⟩:=(F z).1 c;unfold mj;split
  .exact eh _
  .exact o.sp y H
 .show e∈S.E1↔ ∃z∈nK _ _,_;rw[o.e1];constructor
  .rintro⟨y,H,rfl⟩;exact⟨_,(F _).2 ⟨y,H,rfl⟩,by rw[q,v]⟩
  .rintro⟨z,c,rfl⟩;obtain⟨y,H,rfl⟩:=(F z).1 c;exact⟨y,H,by rw[q,v]⟩
 .show e∈py (cg.rest S.E2 now) _↔ ∃z∈nK _ _,_;rw[Bt,(gv m.o2).2,bj];constructor
  .rintro⟨⟨d,i⟩,B⟩;obtain⟨y,H,f,rfl⟩:=(o.e2 e).1 d;have hd: ¬(y.ses≠0/\(y.dl:Int)<=now):=λhd=>B ((D y H).2 hd)
   refine⟨_,(F _).2 ⟨y,H,rfl⟩,?_⟩;unfold mj;rw[ae hd];exact⟨f,rfl⟩
  .rintro⟨z,c,f,rfl⟩;obtain⟨y,H,rfl⟩:=(F z).1 c;unfold mj at f⊢;by_cases hd:y.ses≠0/\(y.dl:Int)<=now
   .rw[af hd]at f;exact absurd rfl f
   .rw[ae hd]at f⊢;refine⟨⟨(o.e2 _).2 ⟨y,H,f,rfl⟩,?_⟩,λj=>hd ((D y H).1 j)⟩;have: ¬(y.dl:Int)<=now:=λe=>hd ⟨f,e⟩
    unfold jL;simpa using this
 .have:=o.yM;show S.next=1+(nK _ _).length+_+_+_;unfold nK;rw[aD];exact this
 .show z∈nK _ _↔_;rw[F];constructor
  .rintro⟨y,H,rfl⟩;have:=(M y).1 H;exact⟨y,this.1,this.2,rfl⟩
  .rintro⟨y,H,G,rfl⟩;exact⟨y,(M y).2 ⟨H,G⟩,rfl⟩
 .refine db (cM _ _) (db (Br _ _) J)
 .show nK _ _=_;rw[<-w];exact fb r

end gY
end
section
namespace jG
def Uh(x:Ev):cG:=
 if x=.zero then [100,116,110,58,110,111,110,101]
 else if x.lE=true then [105,112,110,58]++Lib.decDigits x.node.toNat++ [46]++Lib.decDigits x.gL.toNat
 else [100,116,110,58]++([47,47]++x.host.data.toList++ [47]++x.jZ.data.toList)

end jG
end
section
open Go.fV Go.kU
namespace gY
open jG cg mi
variable {h H:ai} {R:fO} {t:Nat} {X:Ft} {s:CF} {m A b:Nat} {x:List CV} {S a:Nat→Prop} {c:Nat→Option Nat} {p:ct} {n:Nat}
structure RZ (z:Cp):Prop where
 r:dt z.e=true
 v:0<=z.e.gL
 d:z.d.length<=600
 n:z.num<=1000000
 t:z.fS<=1099511627776
 s0:0<=z.ses
 s1:z.ses<=1099511627776
 l:z.dl<=1099511627776
abbrev EN(y:CV):List Value:= [.int .i64 (y.num:Int),.bool y.e.lE,.int .u64 y.e.node,.int .u64 y.e.gL,.string y.e.host,.string y.e.jZ,y.v.val,.int .u64 (y.fS:Int),.int .i64 y.ses,.int .u64 (y.dl:Int)]
theorem hY(y:CV):(EN y).length=10:=rfl
theorem SR(y:CV): ∀v∈EN y,fZ v=true:=by
 intro v d;simp only[EN,bg,cN,fx]at d;rcases d with rfl|rfl|rfl|rfl|rfl|rfl|rfl|rfl|rfl|rfl<;>rfl
theorem tA:oC Tryz.prog 244 168 10 112 (.agg #[.I 0,.B false,.U 0,.U 0,.string ⟨#[]⟩,.string ⟨#[]⟩,.Z,.U 0,.I 0,.U 0]):=⟨dA,dA,rfl⟩
theorem uA:Tryz.prog.underlying 244=some (.slice 168):=dA
theorem Kz(i:Ct h t X s)(sm:Small s)(hd: ∀z∈s.L,z.d.length<=600)(hk: ∀H Z c' (d:List CV),Own H Z d.length c' 10 (d.flatMap EN)->d.map CV.abs=s.L->(∀y∈d,BV.ok H (λz=>h.size<=z) y.v)->(∀y,aP Z y->h.size<=y)->Fr No h H->R (.L Z d.length c') H):Cl 149 #[.P t 0] h R:=by
 obtain⟨m,x,A,S,b,a,c,i⟩:=i;have sl:=sm.l;have xl:=i.len;refine xC.walk (Bq i ag λh1 p1 c1 o1 n1 I=>⟨_,_,_,rfl,?_⟩);refine⟨λop V U a' g=> ∃(k:Nat)(d:List CV),a'=(k:Int)/\k<=x.length/\V=d.length/\d.length=k/\Own g op V U 10 (d.flatMap EN)/\(∀y,aP op y->h1.size<=y)/\d.map CV.abs=s.L.take k/\(∀y∈d,BV.ok g (λz=>h1.size<=z) y.v)/\(∀y∈d,∀z,aP y.v.p z->y.v.b≠ []->¬aP op z)/\Fr No h1 g,λ_ _ _ a' _=>x.length - a'.toNat,
  ⟨0, [],rfl,ag,rfl,rfl,.nil rfl rfl rfl rfl,(λy ⟨E,e,_⟩=>by cases e),bU,(λy hy=>by cases hy),(λy hy=>by cases hy),Fr.refl _ _⟩,?_⟩
 rintro op V U _ g ⟨k,d,rfl,m',rfl,o',o,Q,M,f,d',F⟩;have G:=i.on (I.tt F);by_cases i':k<x.length
 .have q1:(k:Int)<(x.length:Int):=ag
  simp only[q1,bF,bm,aH];have B:x[k]? =some x[k]:=aj i';generalize x[k]=v at B;have b':s.L[k]? =some v.abs:=by rw[<-i.abs,aL,B];rfl
  have T:=aZ B;have n':v.v.b.length<=600:=hd v.abs (aZ b');have og:=o1.frame F bX;obtain⟨ab,l',rfl⟩:=og.addr ag;have cn:=og.cell (j:=k) (v:=gI (v.num:Int)) (by unfold lD;rw[dT,aL,B];rfl);have j':=G.Hh v T;refine⟨⟨by first|trivial|omega,by first|trivial|omega⟩,ax.2 ⟨_,by rw[cE];exact cn,_,au G.di,_,look G T,ax.2 (aR.ld j' (aR.new λb2 h2 e2 O J=>⟨_,_,_,au O,gE ((G.EE v T).row.frame J bX) rfl ag λP C h3 o3 K n3=>⟨_,_,_,rfl,?_⟩⟩))⟩⟩;have h':=K.get O id;refine bk h' bU λq a4 s4 o4=> ?_
  have f4:Fr (λy=>y=b2) h3 q:=⟨ag,λy _ hn=>o4 y hn⟩;have p':=aA O;have g':aR.at q b2 (v.num:Int) v.e.lE v.e.node v.e.gL v.e.host v.e.jZ P v.v.b.length C (v.fS:Int) v.ses (v.dl:Int):=a4;refine aR.ld g' ?_;have zg:=F.1;have z2:=J.1;have z3:=K.1;have u:Fr No g q:=(J.tt K).fresh f4 (λy e=>ag);have oo:=o.frame u bX;refine jn tA uA oo rfl (λk' hw=>SR ({ v with v:=⟨P,C,v.v.b⟩ } :CV) k' (cR hw)) ag ag λp5 c5 h5 o5 w L=>⟨_,_,_,rfl,?_⟩
  have z4:=u.1;have z5:=w.1;rw[bJ ag ag];have e':Own q P v.v.b.length C 1 (bc v.v.b):=o3.frame f4 (λy hy e=>bW (n3 y hy));have D: ∀y,aP P y->g.size<=y/\y<q.size:=λy hy=>⟨bW (n3 y hy),e'.dI hy⟩
  have f': ∀y,aP op y->y<g.size:=λy hy=>o.dI hy
  refine⟨⟨k+1,d++ [{ v with v:=⟨P,C,v.v.b⟩ }],ag,ag,by rw[aB];rfl,by rw[aB];show d.length+1=_;omega,?_,λy hy=>(L y hy).elim (Q y) (λh1=>ag),?_,?_,?_,(F.tt u).fresh w Q⟩,by show x.length - Int.toNat ((k:Int)+1)<x.length - k;omega⟩
  .rw[cS];simpa using o5
  .rw[ba,M,bO,b'];rfl
  .intro y hy;rcases bH.1 hy with hy|hy
   .have r1:=(f y hy).row.frame u bX;refine⟨?_,(f y hy).own,(f y hy).cap⟩;by_cases r:y.v.b= []
    .rw[r];exact Row.nil
    .exact r1.frame w (λE ea j=>d' y hy E.block ⟨E,ea,rfl⟩ r j)
   .obtain rfl:=bP.1 hy;exact BV.kT (e'.frame w (λy hy j=>iJ (D y hy) (f' y j))) (λy hy=>bW (D y hy))
  .intro y hy z l r j;rcases bH.1 hy with hy|hy
   .rcases L z j with h1|h1
    .exact d' y hy z l r h1
    .have:=jh (f y hy).row (by intro e;apply r;have:=cf List.length e;rw[kR]at this;exact List.length_eq_zero_iff.1 this) l;omega
   .obtain rfl:=bP.1 hy;rcases L z j with h1|h1
    .have:=(D z l).1;have:=f' z h1;omega
    .have:=(D z l).2;omega
 .have q1: ¬(k:Int)<(x.length:Int):=ag
  simp only[q1,bu,ar,aQ];rw[bE ag]at M;have z1:=I.1;exact hk g op U d o M (λy hy=>⟨(f y hy).row,λe z l=>bW ((f y hy).own e z l),(f y hy).cap⟩) (λy hy=>bW (Q y hy)) (I.tt F)
theorem Bu(g:Ct h t X s)(k:Small s)(hd: ∀z∈s.L,z.d.length<=600)(i: ∀H P C (d:List CV),Own H P d.length C 10 (d.flatMap EN)->d.map CV.abs=s.L->(∀y∈d,Row H y.v.p (bc y.v.b))->Fr No h H->R (.L P d.length C) H):Cl 149 #[.P t 0] h R:=
 Kz g k hd λH P C d o e r _ f=>i H P C d o e (λy j=>(r y j).row) f
def Jv(L:List Cp)(d:Ev):Nat:=((mr L d).filter (λz=>decide (z.ses=0))).length
theorem Pq(f:Ct h t X s)(U:Small s)(i:Ev)(O: hH h R (.I (Jv s.L i:Int))):Cl 100 #[.P t 0,lC i] h R:=by
 obtain⟨m,x,A,S,b,a,c,f⟩:=f;have sl:=U.l;have xl:=f.len;refine uC.walk (aw.box λb' h1 eb M r=>aw.ld M (wc (f.on r) i ag λD p2 c2 o n2 B=>⟨_,_,_,rfl,?_⟩));have F:=r.tt B;generalize l:x.filter (λy=>decide (y.e=i))=d at o⊢;have T: ∀y∈d,y∈x:=λy w=>by rw[<-l]at w;exact(bj.1 w).1
 have L:d.map CV.abs=mr s.L i:=by unfold mr;rw[<-f.abs,dO,<-l];rfl
 have yl:d.length<=50000:=by rw[<-l];exact db (cM _ _) ag
 refine⟨λn q g=> ∃k:Nat,q=(k:Int)/\k<=d.length/\n=((((d.take k).map CV.abs).filter (λz=>decide (z.ses=0))).length:Int)/\g=D,λ_ q _=>d.length - q.toNat,⟨0,rfl,ag,bU,rfl⟩,?_⟩;rintro _ _ _ ⟨k,rfl,c',rfl,rfl⟩;have d':(((d.take k).map CV.abs).filter (λz=>decide (z.ses=0))).length<=k:=db (cM _ _) (by rw[aD,bA];omega);have G:=f.on F;by_cases P:k<d.length
 .have Q:(k:Int)<((d.length:Nat):Int):=ag
  simp only[Q,bF,bm,aH];have j:d[k]? =some d[k]:=aj P;generalize d[k]=v at j;have u:=T v (aZ j);obtain⟨Z,a',rfl⟩:=o.addr ag;have C:=o.cell (j:=k) (v:=gI (v.num:Int)) (by unfold lD;rw[dT,aL,j];rfl);have E:(((d.take (k+1)).map CV.abs).filter (λz=>decide (z.ses=0))).length=(((d.take k).map CV.abs).filter (λz=>decide (z.ses=0))).length+if v.ses=0 then 1 else 0:=by
   rw[bO,j,ba,gg,aB];congr 1
   by_cases e:v.ses=0
   .have:v.abs.ses=0:=e;simp[e,this]
   .have: ¬v.abs.ses=0:=e;simp[e,this]
  refine aG.of λJ I=>⟨⟨by first|trivial|omega,by first|trivial|omega⟩,ax.2 ⟨_,by rw[cE];exact C,_,au G.di,_,look G u,ax.2 ⟨_,au (G.Hh v u),aG.of λV K=> ?_⟩⟩⟩
  subst K;subst I;dsimp only;rw[bJ (n:=(k:Int)+1) ag ag];by_cases e:v.ses=0
  .rw[af (cR e),bJ ag ag];rw[af e]at E;exact⟨⟨k+1,ag,ag,ag,rfl⟩,by show d.length - Int.toNat ((k:Int)+1)<d.length - k;omega⟩
  .rw[ae (cR e)];rw[ae e]at E;exact⟨⟨k+1,ag,ag,ag,rfl⟩,by show d.length - Int.toNat ((k:Int)+1)<d.length - k;omega⟩
 .have Q: ¬(k:Int)<((d.length:Nat):Int):=ag
  simp only[Q,bu,ar,aQ];rw[bE ag,L];exact O _ F

end gY
end
section
open Go.kU
namespace gY
open jG
structure OP where
 kind:Int
 num:Int
 ses:Int
 e:Ev
 p:ct
 c:Nat
 b:cG
 fS:Nat

end gY
end
section
open Go.fV Go.kU
namespace gY
open jG cg mi
variable {s S:CF} {k:Nat} {f:OP}
variable {z:Cp} {ses:Int} {dl:Nat}
theorem KA {α : Type} [DecidableEq α] : ∀ {l1 l2 : List α}, l1.Nodup → (∀ a ∈ l1, a ∈ l2) → l1.length ≤ l2.length
  | [], _, _, _ => Nat.zero_le _
  | a :: l, l2, h, hs => by
    obtain ⟨h1, h2⟩ := List.nodup_cons.1 h
    have := KA (l1 := l) (l2 := l2.erase a) h2 (λb hb => (List.mem_erase_of_ne (λe => h1 (by rw [← e]; exact hb))).2 (hs b (List.mem_cons_of_mem _ hb)))
    have h3 := List.length_erase_of_mem (hs a (by simp))
    have h4 : 0 < l2.length := List.length_pos_of_mem (hs a (by simp))
    rw [List.length_cons]; omega
theorem SU{b:Type}[DecidableEq b]{l L:List b}(c:l.Nodup)(d:L.Nodup)(H: ∀a,a∈l↔a∈L):l.length=L.length:=
 Nat.le_antisymm (KA c (λa h=>(H a).1 h)) (KA d (λa h=>(H a).2 h))
theorem Jw(o:sM s)(O:Ord s):s.E2.length=(s.L.filter (λz=>decide (z.ses≠0))).length:=by
 have e:((s.L.filter (λz=>decide (z.ses≠0))).map (λz=>(((z.num:Int),(z.dl:Int)):E))).length=(s.L.filter (λz=>decide (z.ses≠0))).length:=aD ..;rw[<-e];refine SU ?_ ?_ λa=> ?_
 .have:=O.n2;unfold keys at this;exact(fF.1 this).imp (λh e=>h (cf _ e))
 .have H:((s.L.filter (λz=>decide (z.ses≠0))).map Cp.num).Nodup:=fJ (ga _ cU) O.nd;exact fF.2 ((fF.1 H).imp (λh e=>h (Int.ofNat.inj (cf Prod.fst e))))
 .rw[o.e2,bt];constructor
  .rintro⟨z,b,d,rfl⟩;exact⟨z,bj.2 ⟨b,av d⟩,rfl⟩
  .rintro⟨z,b,rfl⟩;obtain⟨H,c⟩:=bj.1 b;exact⟨z,H,aV c,rfl⟩
theorem RZ.free(k:RZ z):RZ { z with ses:=0,dl:=0 } :=⟨k.r,k.v,k.d,k.n,k.t,by show(0:Int)<=0;omega,by show(0:Int)<=1099511627776;omega,by show 0<=1099511627776;omega⟩
theorem RZ.Dn(k:RZ z)(h:uG ses dl):RZ { z with ses:=ses,dl:=dl } :=⟨k.r,k.v,k.d,k.n,k.t,by have:=h.1;show 0<=ses;omega,h.2.1,h.2.2⟩
structure Good (s:CF) (k:Nat):Prop where
 ok:sM s
 all: ∀z∈s.L,RZ z
 may: ∀z∈s.L,yU z.e z.d.length (z.fS:Int)=true
 fr: ∀z∈s.L,z.ses=0->z.dl=0
 full: ∀e,(mr s.L e).length<=16
 len:s.next<=k+1
theorem Good.nil:Good ⟨[],1,0,0,0, [], []⟩ 0:=⟨⟨(λz h=>by cases h),(λz h=>by cases h),(λe=>bU),(λe=>bU),rfl⟩,(λz h=>by cases h),(λz h=>by cases h),(λz h=>by cases h),λ_=>bQ _,bp _⟩
theorem Good.L(G:Good s k):s.L.length<=k/\s.gF<=k/\s.over<=k/\s.gone<=k:=by
 have:=G.ok.yM;have:=G.len;omega
theorem Good.small (G : Good s k) (O : Ord s) (hk : k ≤ 40000) : Small s := by
  have h1 := G.L
  have h2 := G.len
  have nd : ∀ {l : List E}, (keys l).Nodup → l.Nodup := fun {l} hn => (List.pairwise_map.1 hn).imp (λh e => h (congrArg _ e))
  have e1 : s.E1.length ≤ s.L.length := by
    have := KA (l2 := s.L.map (λz => (((z.num : Int), (z.fS : Int)) : E))) (nd O.n1) (λe he => by
      obtain ⟨z, hz, rfl⟩ := (G.ok.e1 e).1 he
      exact List.mem_map.2 ⟨z, hz, rfl⟩)
    rwa [List.length_map] at this
  have e2 : s.E2.length ≤ s.L.length := by
    rw [Jw G.ok O]; exact List.length_filter_le _ _
  exact ⟨by omega, by omega, by omega, by omega⟩
theorem Good.held(G:Good s k):Hj s:=λj h=>by
 unfold keys at h;obtain⟨e,H,rfl⟩:=bt.1 h;obtain⟨z,a,_,rfl⟩:=(G.ok.e2 e).1 H;exact⟨z,a,rfl⟩
theorem Good.more(G:Good s k):Good s (k+1):=⟨G.ok,G.all,G.may,G.fr,G.full,bW G.len⟩
theorem Good.sub(G:Good s k)(o:sM S)(P:Cp->Bool)(g:Cp->Cp)(b: ∀z,(g z).e=z.e/\(g z).d=z.d/\(g z).fS=z.fS)(a: ∀z∈s.L,RZ (g z)/\((g z).ses=0->(g z).dl=0))(c:S.L=(s.L.filter P).map g)(i:S.next=s.next):Good S (k+1):=by
 have m: ∀z∈S.L,∃y∈s.L,z=g y:=λz a=>by
  rw[c]at a;obtain⟨y,H,rfl⟩:=bt.1 a;exact⟨y,(bj.1 H).1,rfl⟩
 refine⟨o,λz h=> ?_,λz h=> ?_,λz h=> ?_,λe=> ?_,bW G.len⟩
 .obtain⟨y,H,rfl⟩:=m z h;exact(a y H).1
 .obtain⟨y,H,rfl⟩:=m z h;rw[(b y).1,(b y).2.1,(b y).2.2];exact G.may y H
 .obtain⟨y,H,rfl⟩:=m z h;exact(a y H).2
 .have d:mr S.L e=(mr (s.L.filter P) e).map g:=by
   rw[c];unfold mr;rw[dO];congr 1
   refine eK λz _=> ?_
   show decide ((g z).e=e)=decide (z.e=e);rw[(b z).1]
  rw[d,aD];exact db ((List.Sublist.filter _ cU).length_le) (G.full e)
theorem MB(L:List Cp):L.filter (λ_=>true)=L:=cz.2 λ_ _=>rfl
theorem Good.set(G:Good s k)(o:sM S){n:Nat}(h:uG ses dl\/(ses=0/\dl=0))(a:S.L=px s.L n ses dl)(b:S.next=s.next):Good S (k+1):=by
 refine G.sub o (λ_=>true) (λx=>if x.num=n then { x with ses:=ses,dl:=dl } else x) (λz=>by split<;>exact⟨rfl,rfl,rfl⟩) (λz H=> ?_) (by rw[MB];exact a) b;split
 .rcases h with h|⟨rfl,rfl⟩
  .exact⟨(G.all z H).Dn h,λe=>by have:=h.1;dsimp only at e;omega⟩
  .exact⟨(G.all z H).free,λ_=>rfl⟩
 .exact⟨G.all z H,G.fr z H⟩
theorem Good.out(G:Good s k)(o:sM S){P:Cp->Bool}(H:S.L=s.L.filter P)(a:S.next=s.next):Good S (k+1):=
 G.sub o P id (λ_=>⟨rfl,rfl,rfl⟩) (λz h=>⟨G.all z h,G.fr z h⟩) (by rw[List.map_id];exact H) a
instance (ses : Int) (dl : Nat) : Decidable (uG ses dl) := by unfold uG; infer_instance
def Tw(f:OP)(s:CF):CF:=
 if f.kind=0 then kJ s f.e f.b f.fS
 else if f.kind=1 then(if uG f.ses f.fS then(match mF s.L f.e with|none=>s|some z=>sd s z f.ses f.fS)else s)
 else if f.kind=2 then tG s f.num f.ses
 else if f.kind=3 then EJ s f.num f.ses
 else if f.kind=4 then kI s (f.fS:Int)
 else if f.kind=5 then yi s f.e
 else s
theorem Good.do(G:Good s k)(O:Ord s)(p:0<=f.e.gL)(q:k<=30000):Good (Tw f s) (k+1):=by
 unfold Tw;split
 ·
  have o:=G.ok.add f.e f.b f.fS;by_cases h:jB s f.e f.b f.fS=0
  .have E:kJ s f.e f.b f.fS= { s with L:=s.L++ [⟨s.next,f.e,f.b,f.fS,0,0⟩],next:=s.next+1,E1:=AW s.E1 (s.next:Int) (f.fS:Int) } :=af h;have H:yU f.e f.b.length (f.fS:Int)=true/\(mr s.L f.e).length<16:=by
    unfold jB at h;split at h
    .rename_i H;refine⟨H,?_⟩;split at h
     .cases h
     .omega
    .cases h
   have b:dt f.e=true/\f.b.length<=600/\f.fS<=1099511627776:=by
    have:=H.1;unfold yU at this;simp only[aW,gG,aY,fk]at this;exact⟨this.1,ag,ag⟩
   have L:=G.len;rw[E]at o⊢;have m: ∀{Q:Cp->Prop},(∀z∈s.L,Q z)->Q ⟨s.next,f.e,f.b,f.fS,0,0⟩->∀z∈s.L++ [⟨s.next,f.e,f.b,f.fS,0,0⟩],Q z:=λa i z hz=>by
    rcases bH.1 hz with hz|hz
    .exact a z hz
    .obtain rfl:=bP.1 hz;exact i
   refine⟨o,m G.all ⟨b.1,p,b.2.1,by show s.next<=1000000;omega,b.2.2,by show(0:Int)<=0;omega,by show(0:Int)<=1099511627776;omega,by show 0<=1099511627776;omega⟩,m G.may H.1,m G.fr (λ_=>rfl),λe=> ?_,by show s.next+1<=_;omega⟩;show(mr (s.L++ [⟨s.next,f.e,f.b,f.fS,0,0⟩]) e).length<=16;unfold mr;rw[gg,aB];have g:=G.full e;have d:=H.2;unfold mr at g d;by_cases c:f.e=e
   .subst c;simp;omega
   .simp[c];exact g
  .have E:kJ s f.e f.b f.fS=s:=ae h;rw[E];exact G.more
 split
 ·
  split
  .rename_i H;cases n:mF s.L f.e with
   |none=>exact G.more
   |some z=>exact G.set (G.ok.Dn O (Ju n).1 H) (.inl H) rfl rfl
  .exact G.more
 split
 ·
  have o:=G.ok.Vw O f.num f.ses;unfold tG at o⊢;split
  .rename_i h;rw[af h]at o;exact G.out o (P:=λx=> !decide ((x.num:Int)=f.num)) rfl rfl
  .exact G.more
 split
 ·
  have o:=G.ok.rel O f.num f.ses;unfold EJ at o⊢;split
  .rename_i h;rw[af h]at o;exact G.set o (.inr ⟨rfl,rfl⟩) rfl rfl
  .exact G.more
 split
 ·
  obtain⟨a,_,j,_,_,l,_⟩:=MA G.ok O (f.fS:Int);refine G.sub a _ (mj (f.fS:Int)) (λz=>by unfold mj;split<;>exact⟨rfl,rfl,rfl⟩) (λz hz=> ?_) l j;unfold mj;split
  .exact⟨(G.all z hz).free,λ_=>rfl⟩
  .exact⟨G.all z hz,G.fr z hz⟩
 split
 ·
  have e:=xH ((mr s.L f.e).map (λz=>(z.num:Int))) s;refine G.out (G.ok.drop O f.e) (P:=λz=> !decide ((z.num:Int)∈(mr s.L f.e).map (λz=>(z.num:Int)))) ?_ ?_
  .unfold yi;rw[e];rfl
  .unfold yi;rw[e]
 .exact G.more

end gY
end
section
open Go.fV
namespace gO
open jG mi
variable {r:Rg}
structure Vx (r:Rg):Prop where
 rt:iW r=true
 sv:0<=r.e.gL
theorem Vx.e(k:Vx r):dt r.e=true/\0<=r.lV/\r.lV<=2/\1<=r.own/\r.own<=1099511627776:=by
 have:=k.rt;unfold iW at this;simp only[aW,gG,aY,fk]at this;exact⟨this.1,this.2.2.1.1,this.2.2.1.2,this.2.2.2.1,this.2.2.2.2⟩

end gO
end
section
open Go.fV
namespace gO
open jG mi
variable {L:List Rg}
structure G8 (L:List Rg):Prop where
 len:L.length<=8
 all: ∀r∈L,Vx r
theorem G8.add(k:G8 L)(r:Rg)(H:0<=r.e.gL):G8 (Ck L r):=by
 unfold Ck;rcases Bp L r with⟨_,e⟩|⟨_,_,e⟩|⟨_,_,_,e⟩|⟨h,_,b,e⟩<;>rw[e]
 .exact k
 .exact k
 .exact k
 .rw[af rfl];exact⟨by rw[Pg];omega,λz a=>(Hc.1 a).elim (λe=>e▸⟨h,H⟩) (k.all z)⟩
theorem G8.rem(k:G8 L)(x:Ev)(o:Int):G8 (Bo L x o):=by
 unfold Bo;split
 .exact⟨db (cM _ _) k.len,λz h=>k.all z (bj.1 h).1⟩
 .exact k
theorem G8.lV(k:G8 L)(x:Ev)(o q:Int):G8 (Hd L x o q):=by
 unfold Hd;split
 .rename_i H;have a:0<=q/\q<=2:=by
   unfold Mo at H;split at H
   .assumption
   .cases H
  refine⟨by unfold Ji;rw[aD];exact k.len,λz c=> ?_⟩;obtain⟨y,b,rfl⟩:=bt.1 c;have K:=k.all y b;split
  .refine⟨?_,K.sv⟩;have h:=K.rt;unfold iW at h⊢;simp only[aW,gG,aY,fk]at h⊢;exact⟨h.1,h.2.1,⟨a.1,a.2⟩,h.2.2.2⟩
  .exact K
 .exact k

end gO
end
section
namespace dK
open iB (It)
open jG (Ev dt)
variable {d:SS} {k:Nat}
variable {l:List It} {s:gY.CF} {owner:Int}
structure Good (d:SS) (k:Nat):Prop where
 a:fu.mT d.A
 g:gO.G8 d.G
 c:gY.Good d.C k
 b:d.B.next<=k+1
 v:d.B.over<=k
 q:d.Q=d.B.items
 ok:sZ d.Q
 n:d.now<=1099511627776
 e:dt d.e=true/\d.e≠Ev.zero/\0<=d.e.gL
 t:d.tm<=1099511627776/\d.sq<=1099511627776
 r:d.rf<=k
def mG(e:Ev):SS:=⟨[], [],⟨[],1,0,0,0, [], []⟩,⟨[],1,0,0,0⟩, [],e,0,0,0,0⟩
theorem Good.new{e:Ev}(H:dt e=true)(a:e≠Ev.zero)(b:0<=e.gL):Good (mG e) 0:=
 ⟨fu.mT.nil,⟨bQ _,λ_ h=>(by cases h)⟩,gY.Good.nil,bp _,bp _,rfl,sZ.nil,bQ _,⟨H,a,b⟩,⟨bQ _,bQ _⟩,bp _⟩
def tX(s:iB.BS)(n:Nat):iB.BS:= { s with items:=s.items.filter (λx=>decide ((n:Int)<(x.fS:Int))),over:=s.over+(s.items.filter (λx=>decide ((x.fS:Int)<=(n:Int)))).length }
def qp(d:SS)(n:Nat):Int:=if n>1099511627776 then 1 else if n<d.now then 18 else 0
def qq(d:SS)(n:Nat):SS:= { d with C:=gY.kI d.C (n:Int),B:=tX d.B n,Q:=(tX d.B n).items,now:=n }
def yj(d:SS)(n:Nat):SS:=if qp d n=0 then qq d n else d
theorem sZ.filter(O:sZ l)(P:It->Bool):sZ (l.filter P):=by
 induction l with
 |nil=>exact O
 |cons x l i=>
  rw[cu];split
  .obtain⟨a,b,c,D,e,f⟩:=O;have t:yw (l.filter P)<=yw l:=by
    clear i f e D;induction l with
    |nil=>exact eh _
    |cons y l i=>rw[cu,jT];split<;>(try rw[jT])<;>omega
   have T: ∀o,own (l.filter P) o<=own l o:=λo=>by
    clear i f e D t;induction l with
    |nil=>exact eh _
    |cons y l i=>rw[cu,nF];split<;>(try rw[nF])<;>(try split)<;>omega
   rw[jT]at D e;have n:=I8 (l:=l.filter P);refine⟨a,b,c,by rw[jT];omega,by rw[jT];omega,λk=>⟨I9,?_⟩⟩;have:=(f k).2;have:=T k;rw[nF]at*;omega
  .exact i O.sub
theorem Pr(G:gY.Good s k)(O:gY.Ord s)(H:k<=30000)(n:Nat):gY.Good (gY.kI s (n:Int)) (k+1):=by
 have h:=G.do (f:=⟨4,0,0,Ev.zero,none,0, [],n⟩) O (eh 0) H;unfold gY.Tw at h;exact h
theorem Q3(G:gY.Good s k)(O:gY.Ord s)(a:k<=30000)(e:Ev)(H:0<=e.gL)(D:cG)(t:Nat):gY.Good (gY.kJ s e D t) (k+1):=by
 have h:=G.do (f:=⟨0,0,0,e,none,0,D,t⟩) O H a;unfold gY.Tw at h;exact h
theorem Good.more(G:Good d k):Good d (k+1):=⟨G.a,G.g,G.c.more,bW G.b,bW G.v,G.q,G.ok,G.n,G.e,G.t,bW G.r⟩
theorem Good.pass(G:Good d k)(O:gY.Ord d.C)(L:List Go.kU.E)(ok:iB.okB d.B L)(H:k<=30000)(n:Nat):Good (yj d n) (k+1):=by
 unfold yj;split
 .rename_i h;have a:n<=1099511627776:=by
   unfold qp at h;split at h
   .cases h
   .omega
  have c:=ok.yM;have b:=G.b;have e:(d.B.items.filter (λx=>decide ((x.fS:Int)<=(n:Int)))).length<=d.B.items.length:=cM _ _;refine⟨G.a,G.g,Pr G.c O H n,by show d.B.next<=_;omega,by show d.B.over+_<=_;omega,rfl,?_,a,G.e,G.t,by have:=G.r;show d.rf<=_;omega⟩;show sZ (d.B.items.filter _);rw[<-G.q];exact G.ok.filter _
 .exact G.more
abbrev qt(l:List It)(owner:Int)(n:Nat):Bool:=nE.fits 4800 1600 (yw l) (own l) owner (n:Int)
def EO(d:SS)(owner:Int)(D:cG)(t:Nat):Int:=if d.B.items.length≥16\/qt d.Q owner D.length=false then 15 else iB.jB d.B owner D t
def Ps(d:SS)(owner:Int)(D:cG)(t:Nat):Int:=if d.B.items.length≥16\/qt d.Q owner D.length=false then 0 else iB.Bi d.B owner D t
def yV(d:SS)(owner:Int)(D:cG)(t:Nat):SS:=if EO d owner D t=0 then { d with B:=iB.Ha d.B owner D t,Q:=(iB.Ha d.B owner D t).items } else d
def Dv(d:SS)(num owner:Int):SS:= { d with B:=iB.nH d.B num owner,Q:=(iB.nH d.B num owner).items }
def Dw(d:SS):SS:=match d.B.items with| []=>d|_::r=> { d with B:= { d.B with items:=r,taken:=d.B.taken+1 },Q:=r }
theorem sZ.add{x:It}(o:sZ l)(H:qt l x.owner x.d.length=true):sZ (l++ [x]):=by
 have h:=nE.Ok.take o H;rw[Ks,show yw l+(x.d.length:Int)=yw (x::l) by rw[jT];omega]at h;exact sZ.perm h (eH _ _).symm
theorem MC{D:cG}{t:Nat}(h:EO d owner D t=0):qt d.Q owner D.length=true/\iB.jB d.B owner D t=0:=by
 unfold EO at h;split at h
 .cases h
 .rename_i H;cases a:qt d.Q owner D.length with
  |false=>exact absurd (.inr a) H
  |true=>exact⟨rfl,h⟩
theorem Good.put(G:Good d k)(owner:Int)(D:cG)(t:Nat):Good (yV d owner D t) (k+1):=by
 unfold yV;split
 .rename_i h;obtain⟨H,a⟩:=MC h;have e:iB.Ha d.B owner D t= { d.B with items:=d.B.items++ [⟨d.B.next,owner,D,t⟩],next:=d.B.next+1 } :=af a;rw[e];refine⟨G.a,G.g,G.c.more,by show d.B.next+1<=_;have:=G.b;omega,by show d.B.over<=_;have:=G.v;omega,rfl,?_,G.n,G.e,G.t,by show d.rf<=_;have:=G.r;omega⟩;show sZ (d.B.items++ [_]);rw[<-G.q];exact sZ.add G.ok H
 .exact G.more
theorem Jx{s:iB.BS}{num:Int}: ∃P:It->Bool,(iB.nH s num owner).items=s.items.filter P/\(iB.nH s num owner).next=s.next/\(iB.nH s num owner).over=s.over:=by
 unfold iB.nH;split
 .exact⟨_,rfl,rfl,rfl⟩
 .exact⟨λ_=>true,(cz.2 λ_ _=>rfl).symm,rfl,rfl⟩
theorem Good.sY(G:Good d k)(num owner:Int):Good (Dv d num owner) (k+1):=by
 obtain⟨P,h,H,a⟩:=Jx (s:=d.B) (num:=num) (owner:=owner);refine⟨G.a,G.g,G.c.more,by show(iB.nH d.B num owner).next<=_;rw[H];have:=G.b;omega,by show(iB.nH d.B num owner).over<=_;rw[a];have:=G.v;omega,rfl,?_,G.n,G.e,G.t,by show d.rf<=_;have:=G.r;omega⟩;show sZ (iB.nH d.B num owner).items;rw[h,<-G.q];exact G.ok.filter _
theorem Good.take(G:Good d k):Good (Dw d) (k+1):=by
 unfold Dw;split
 .exact G.more
 .rename_i x r h;refine⟨G.a,G.g,G.c.more,by show d.B.next<=_;have:=G.b;omega,by show d.B.over<=_;have:=G.v;omega,rfl,?_,G.n,G.e,G.t,by show d.rf<=_;have:=G.r;omega⟩;have ok:=G.ok;rw[G.q,h]at ok;exact ok.sub
theorem Good.wa(G:Good d k)(t:Nat):Good { d with A:=fu.wa d.A t } (k+1):=
 ⟨G.a.open t,G.g,G.c.more,by show d.B.next<=_;have:=G.b;omega,by show d.B.over<=_;have:=G.v;omega,G.q,G.ok,G.n,G.e,G.t,by show d.rf<=_;have:=G.r;omega⟩
theorem Good.Vy(G:Good d k)(O:gY.Ord d.C)(H:k<=30000)(e:Ev)(h:0<=e.gL)(D:cG)(t:Nat):Good { d with C:=gY.kJ d.C e D t } (k+1):=
 ⟨G.a,G.g,Q3 G.c O H e h D t,by show d.B.next<=_;have:=G.b;omega,by show d.B.over<=_;have:=G.v;omega,G.q,G.ok,G.n,G.e,G.t,by show d.rf<=_;have:=G.r;omega⟩

end dK
end
section
namespace Ask
open jG (Ev dt)
open dK (SS Good)
open Bn (jm mq Prim nz yd jN kW rN mA)
open Go.fV (RD)
variable {V:cG→Bool} {σ:SS} {k:Nat} {ses:Int} {q:Rq}
def nN(a l:Nat):Nat:=min (a+l) 1099511627776
def qu(σ:SS):Option (Nat×Nat):=if σ.tm<σ.now then some (σ.now,0)else if 1099511627776<=σ.sq then none else some (σ.tm,σ.sq+1)
structure Ot where
 σ:SS
 e:Int
 num:Int
 yM:Int
 d:cG
def bad(σ:SS)(e:Int):Ot:=⟨σ,e,0,0, []⟩
def Hn(σ:SS)(ses:Int)(d:cG)(t:Nat)(n:Nat×Nat):Ot:=
 if dK.EO σ ses d t=0 then⟨{ dK.yV σ ses d t with tm:=n.1,sq:=n.2 },0,dK.Ps σ ses d t,d.length, []⟩else⟨σ,dK.EO σ ses d t,dK.Ps σ ses d t,d.length, []⟩
def nO(V:cG->Bool)(σ:SS)(ses:Int)(b:mq)(n:Nat×Nat):Ot:=match jN V b with
 |none=>bad σ 3
 |some d=>Hn σ ses d (nN σ.now b.p.fT) n
def pA(q:Rq)(n:Nat×Nat):mq:=⟨⟨if q.on=true then 131072 else 0,0,q.dest,if q.on=true then q.ep else .zero,⟨q.ep,n.1,n.2⟩,q.fT⟩, [⟨1,1,0,0,q.mh⟩]⟩
def Dx(V:cG->Bool)(σ:SS)(ses:Int)(q:Rq):Ot:=
 if gO.jS σ.G q.ep ses=0 then(match qu σ with
  |none=>bad σ 5
  |some n=>nO V σ ses (pA q n) n)
 else bad σ (gO.jS σ.G q.ep ses)
def MD(V:cG->Bool)(d:cG):Nat:=match kW V d with| .ok b=>(rN b).length| .error _=>0
def R0(σ:SS)(q:Rq):Nat:=nN σ.now q.ja.toNat
def Dy(V:cG->Bool)(σ:SS)(ses:Int)(q:Rq):Ot:=
 if gO.jS σ.G q.ep ses=0 then
  if gY.uG ses (R0 σ q)then(match gY.mF σ.C.L q.ep with
   |none=>bad σ 4
   |some z=>⟨{ σ with C:=gY.sd σ.C z ses (R0 σ q) },0,(z.num:Int),(MD V z.d:Int),z.d⟩)
  else bad σ 1
 else bad σ (gO.jS σ.G q.ep ses)
def EP(n m:Int):Bool:=IntKind.wrap .u64 ((BitVec.ofInt (IntKind.bits .u64) n &&& BitVec.ofInt (IntKind.bits .u64) m).toNat:Int)==0
def ym(p:Prim):Bool:= !EP (p.fl:Int) 131072 && EP (p.fl:Int) 2
def nP(V:cG->Bool)(σ:SS)(ses:Int)(d:cG):SS×Int:=match kW V d with
 | .error _=>(σ,0)
 | .ok b=>if ym b.p=true then(match qu σ with
  |none=>(σ,0)
  |some n=>(match mA V ⟨false,true,false,0,σ.now,b.p.id⟩ b.p.rep ⟨σ.e,n.1,n.2⟩ b.p.fT with
   |none=>(σ,0)
   |some r=>((nO V σ ses r n).σ,if(nO V σ ses r n).e=0 then 1 else 0)))
  else(σ,0)
def ME(V:cG->Bool)(σ:SS)(ses:Int)(num:Int):Ot:=
 if gY.lF σ.C.L num ses=0 then(match gY.yT σ.C.L num with
  |none=>bad { σ with C:=gY.tG σ.C num ses } 0
  |some z=>⟨(nP V { σ with C:=gY.tG σ.C num ses } ses z.d).1,0,0,(nP V { σ with C:=gY.tG σ.C num ses } ses z.d).2, []⟩)
 else bad σ (gY.lF σ.C.L num ses)
def xI(σ:SS)(ses:Int)(o:Bool):Ot:=
 if fu.xx σ.A ses=0 then⟨{ σ with A:=fu.Dm (fu.kh σ.A ses o) ses },fu.Pb (fu.kh σ.A ses o) ses,0,fu.Ku (fu.kh σ.A ses o) ses,fu.Dk (fu.kh σ.A ses o) ses⟩
 else bad σ (fu.xx σ.A ses)
def KB(V:cG->Bool)(σ:SS)(ses:Int)(q:Rq):Ot:=
 if q.kind=1 then bad { σ with G:=gO.Ck σ.G ⟨q.ep,q.lV,ses⟩ } (gO.jB σ.G ⟨q.ep,q.lV,ses⟩)
 else if q.kind=2 then(if gO.jS σ.G q.ep ses=0 then⟨{ σ with G:=gO.Bo σ.G q.ep ses,C:=gY.yi σ.C q.ep },0,0,((gY.mr σ.C.L q.ep).length:Int), []⟩else bad σ (gO.jS σ.G q.ep ses))
 else if q.kind=3 then bad { σ with G:=gO.Hd σ.G q.ep ses q.lV } (gO.Mo σ.G q.ep ses q.lV)
 else if q.kind=4 then Dx V σ ses q
 else if q.kind=5 then bad (dK.Dv σ q.num ses) (iB.ou σ.B q.num ses)
 else if q.kind=6 then⟨σ,gO.jS σ.G q.ep ses,(gY.Jv σ.C.L q.ep:Int),0, []⟩
 else if q.kind=7 then Dy V σ ses q
 else if q.kind=8 then ME V σ ses q.num
 else if q.kind=9 then bad { σ with C:=gY.EJ σ.C q.num ses } (gY.lF σ.C.L q.num ses)
 else if q.kind=10 then xI σ ses q.on
 else bad σ 3
def pB(id:Nat)(o:Ot):RD:=if o.e=0 then⟨id,0,o.num,o.yM,0,o.d⟩else⟨id,o.e,0,0,0, []⟩
def R2(x:RD):cG:=if x.oT then x.enc else []
def lG(id:Nat)(e:Int):RD:=⟨id,e,0,0,0, []⟩
def ER(V:cG->Bool)(σ:SS)(ses:Int)(q:Rq):SS×RD:=
 if kX q=true/\q.kind<11 then
  if fu.SK σ.A ses=true then(match fu.Dh σ.A ses q.id with
   |some b=>(σ,(Go.fV.Lk b).getD RD.zero)
   |none=>({ (KB V σ ses q).σ with A:=fu.Bb (KB V σ ses q).σ.A ses q.id (R2 (pB q.id (KB V σ ses q))) },pB q.id (KB V σ ses q)))
  else(σ,lG q.id 16)
 else(σ,lG q.id 3)
theorem Good.px{C:gY.CF}(G:dK.Good σ k)(c:gY.Good C (k+1)):dK.Good { σ with C:=C } (k+1):=
 ⟨G.a,G.g,c,by show σ.B.next<=_;have:=G.b;omega,by show σ.B.over<=_;have:=G.v;omega,G.q,G.ok,G.n,G.e,G.t,by show σ.rf<=_;have:=G.r;omega⟩
theorem Good.lR{A:List fu.fu}(G:dK.Good σ k)(a:fu.mT A):dK.Good { σ with A:=A } k:=⟨a,G.g,G.c,G.b,G.v,G.q,G.ok,G.n,G.e,G.t,G.r⟩
theorem Good.SV{L:List gO.Rg}(G:dK.Good σ k)(a:gO.G8 L):dK.Good { σ with G:=L } k:=⟨G.a,a,G.c,G.b,G.v,G.q,G.ok,G.n,G.e,G.t,G.r⟩
theorem Good.mk{t s:Nat}(G:dK.Good σ k)(H:t<=1099511627776)(h:s<=1099511627776):dK.Good { σ with tm:=t,sq:=s } k:=⟨G.a,G.g,G.c,G.b,G.v,G.q,G.ok,G.n,G.e,⟨H,h⟩,G.r⟩
theorem Bv(G:dK.Good σ k){n:Nat×Nat}(h:qu σ=some n):n.1<=1099511627776/\n.2<=1099511627776:=by
 unfold qu at h;have:=G.n;have:=G.t;split at h
 .cases h;exact⟨by assumption,by show 0<=_;omega⟩
 split at h
 .cases h
 .cases h;exact⟨G.t.1,by show σ.sq+1<=_;omega⟩
theorem Good.Hn(G:dK.Good σ k)(ses:Int)(d:cG)(t:Nat){n:Nat×Nat}(h:n.1<=1099511627776/\n.2<=1099511627776):dK.Good (Hn σ ses d t n).σ (k+1):=by
 unfold Ask.Hn;split
 .exact Good.mk (dK.Good.put G ses d t) h.1 h.2
 .exact dK.Good.more G
theorem Good.nO(G:dK.Good σ k)(ses:Int)(b:mq){n:Nat×Nat}(h:n.1<=1099511627776/\n.2<=1099511627776):dK.Good (nO V σ ses b n).σ (k+1):=by
 unfold Ask.nO;split
 .exact dK.Good.more G
 .exact Good.Hn G _ _ _ h
theorem Good.tell(G:dK.Good σ k)(ses:Int)(d:cG):dK.Good (nP V σ ses d).1 (k+1):=by
 unfold nP;split
 .exact dK.Good.more G
 split
 .split
  .exact dK.Good.more G
  .rename_i n h;split
   .exact dK.Good.more G
   .exact Good.nO G _ _ (Bv G h)
 .exact dK.Good.more G
theorem Good.Ui(G:dK.Good σ k)(O:gY.Ord σ.C)(h:k<=30000)(f:gY.OP)(H:0<=f.e.gL):dK.Good { σ with C:=gY.Tw f σ.C } (k+1):=Good.px G (G.c.do O H h)
theorem Good.KB(G:dK.Good σ k)(O:gY.Ord σ.C)(H:k<=30000)(a:0<=q.ep.gL):dK.Good (KB V σ ses q).σ (k+2):=by
 unfold Ask.KB;split
 .exact dK.Good.more (dK.Good.more (Good.SV G (G.g.add _ a)))
 split
 .split
  .have h:=Good.Ui G O H ⟨5,0,0,q.ep,none,0, [],0⟩ a;exact dK.Good.more (Good.SV h (G.g.rem _ _))
  .exact dK.Good.more (dK.Good.more G)
 split
 .exact dK.Good.more (dK.Good.more (Good.SV G (G.g.lV _ _ _)))
 split
 .unfold Dx;split
  .split
   .exact dK.Good.more (dK.Good.more G)
   .rename_i n c;exact dK.Good.more (Good.nO G _ _ (Bv G c))
  .exact dK.Good.more (dK.Good.more G)
 split
 .exact dK.Good.more (dK.Good.sY G _ _)
 split
 .exact dK.Good.more (dK.Good.more G)
 split
 .unfold Dy;split
  .split
   .rename_i b;have h:=Good.Ui G O H ⟨1,0,ses,q.ep,none,0, [],R0 σ q⟩ a;unfold gY.Tw at h;rw[ae (show¬(1:Int)=0 by decide),af (show(1:Int)=1 from rfl),af b]at h;dsimp only at h;split
    .exact dK.Good.more (dK.Good.more G)
    .rename_i z d;rw[d]at h;exact dK.Good.more h
   .exact dK.Good.more (dK.Good.more G)
  .exact dK.Good.more (dK.Good.more G)
 split
 .unfold ME;have h:=Good.Ui G O H ⟨2,q.num,ses,.zero,none,0, [],0⟩ (eh 0);split
  .split
   .exact dK.Good.more h
   .exact Good.tell h _ _
  .exact dK.Good.more (dK.Good.more G)
 split
 .have h:=Good.Ui G O H ⟨3,q.num,ses,.zero,none,0, [],0⟩ (eh 0);exact dK.Good.more h
 split
 .unfold xI;split
  .exact dK.Good.more (dK.Good.more (Good.lR G ((G.a.watch _ _).read _)))
  .exact dK.Good.more (dK.Good.more G)
 .exact dK.Good.more (dK.Good.more G)
theorem Good.ER(G:dK.Good σ k)(O:gY.Ord σ.C)(H:k<=30000)(a:0<=q.ep.gL):dK.Good (ER V σ ses q).1 (k+2):=by
 have h:=Good.KB (V:=V) (ses:=ses) G O H a;have m:=dK.Good.more (dK.Good.more G);unfold Ask.ER;split
 .split
  .split
   .exact m
   .exact Good.lR h (h.a.vY _ _ _)
  .exact m
 .exact m
section
open fu
variable {A : List fu.fu} {m n : Int}
end
end Ask
end
section
open Go.fV Go.kU
namespace iB
open mi
variable {h H a:ai} {b:Nat} {X:Ft} {R:fO} {p:ct} {c:Nat} {L:List E} {s:BS}
def IL(a h:ai)(p:ct)(l c:Nat)(i:List It):Prop:=
 ∃(d:List IV)(D:Nat->Prop),l=d.length/\Own h p l c 4 (d.flatMap gI)/\d.map IV.abs=i/\(∀y∈d,y.v.ok h D)/\(∀y,D y->a.size<=y/\y<h.size/\¬aP p y)/\∀y,aP p y->a.size<=y
theorem IL.len{l:Nat}{i:List It}(d:IL a h p l c i):l=i.length:=by
 obtain⟨y,D,e,_,f,_⟩:=d;rw[e,<-f,aD]
theorem Bu(f:Bh h b X s)(hk: ∀H E v C,IL h H E v C s.items->Fr No h H->R (.L E v C) H):Cl 143 #[.P b 0] h R:=by
 obtain⟨L,⟨lp,lc,d,A,S,f⟩,B⟩:=f;obtain⟨hL,m'⟩:=f.G8 B;refine AY.walk (gp f ⟨_,rfl,aG.of λf' hJ=> ?_⟩);simp only[bm];refine⟨_,_,_,au f.di,?_⟩;refine⟨λop O o t g=> ∃k:Nat,t=(k:Int)/\k<=d.length/\IL h g op O o (s.items.take k)/\Fr No h g,λ_ _ _ t _=>d.length - t.toNat,⟨0,rfl,ag,⟨[],λ_=>False,rfl,.nil rfl rfl rfl rfl,bU,(λy hy=>by cases hy),(λy hy=>hy.elim),λy ⟨A,e,_⟩=>by cases e⟩,Fr.refl _ _⟩,?_⟩;rintro op O o _ g ⟨k,rfl,k',I,l⟩;have M:=f.on l;by_cases b':k<d.length
 .have q:(k:Int)<(d.length:Int):=ag
  simp only[q,bF,bm,aH];have m:d[k]? =some d[k]:=aj b';generalize d[k]=x at m;obtain⟨ab,g',rfl⟩:=M.own.addr ag;refine⟨⟨by first|trivial|omega,by first|trivial|omega⟩,ax.2 (aI.DZ (M.own.gB iE m) (aI.new λb1 h8 i' a' n=>aI.ld a' ?_))⟩;have K:s.items[k]? =some x.abs:=by rw[<-f.abs,aL,m];rfl
  have c':=B.it x.abs (aZ K);have dl:x.v.b.length<=600:=c'.2.2.2.1;have e':=((M.EE x (aZ m)).row).frame n bX;refine sF e' rfl ag λu P Z z f9 g9=>⟨_,_,_,_,_,_,rfl,?_⟩
  have F:Fr No g u:=n.tt f9;obtain⟨V,D,y1,r,Q,y4,T,U⟩:=I;have yl:V.length<=16:=by
   have:=cf List.length Q;rw[aD,bA]at this;omega
  have z9:=F.1;have zg:=l.1;have z8:=n.1;refine jn tI uI (r.frame F bX) rfl (λw hw=>by simp at hw;rcases hw with rfl|rfl|rfl|rfl<;>rfl) ag ag λn' h' j' d' j G=>⟨_,_,_,rfl,?_⟩
  rw[bJ ag ag];have J: ∀y,aP P y->g.size<=y/\y<u.size:=λy hy=>⟨bW (g9 y hy),z.dI hy⟩
  have o':=j.1;refine⟨⟨k+1,ag,ag,⟨V++ [⟨x.num,x.owner,⟨P,Z,x.v.b⟩,x.fS⟩],λy=>D y\/aP P y,by rw[aB,y1];rfl,?_,?_,?_,?_,?_⟩,?_⟩,by show d.length - Int.toNat ((k:Int)+1)<d.length - k;omega⟩
  .rw[cS];simpa using d'
  .rw[ba,Q,bO,K];rfl
  .intro w hw;rcases bH.1 hw with hw|hw
   .exact(((y4 w hw).frame F bX).frame j (λy hy=>(T y hy).2.2)).mono (λy=> .inl)
   .obtain rfl:=bP.1 hw;exact BV.kT (z.frame j (λy hy i=>iJ (J y hy) (r.dI i))) (λy=> .inr)
  .rintro y (hy|hy)
   .have A:=T y hy;exact⟨A.1,ag,λi=>(G y i).elim A.2.2 (λh2=>ag)⟩
   .have A:=J y hy;exact⟨ag,ag,λi=>(G y i).elim (λh2=>bW (r.dI h2)) (λh2=>ag)⟩
  .intro y hy;rcases G y hy with h2|h2
   .exact U y h2
   .omega
  .exact(l.tt F).fresh j U
 .have q: ¬(k:Int)<(d.length:Int):=ag
  simp only[q,bu,ar,aQ];subst hJ;have l':=f.len;rw[bE ag]at I;exact hk g op O o I l

end iB
end
section
variable {h:ai} {R:fO}
variable {s:Nat} {o:Int}
theorem MF.walk{S:Bool}{d:Int}{e:Int}{f:ByteArray}{g:ByteArray}(q:bf h (.C #[.B S,.U d,.U e,.S f,.S g] 29) λb H=>aw.LD H (AA b 0) λy z A C D=>Cl 11 #[.agg #[.B y,.U z,.U A,.S C,.S D]] H λv a=> ∃j T,v=.T #[.pointer j,.I T]/\if(T !=0)then R (.T #[.pointer none,.I T]) a else Cl 12 #[.I 4800,.I 1600] a λV c=> ∃i t,V=.T #[.pointer i,.I t]/\if(t !=0)then R (.T #[.pointer none,.I t]) c else Cl 13 #[] c λE k=>Vp E λr=>Cl 14 #[] k λF l=>Vp F λu=>Cl 15 #[] l λG m=>Vp G λw=>Cl 16 #[] m λI n=>Vp I λx=>bf n (.C #[.pointer r,.pointer u,.pointer w,.pointer x,.pointer i,.pointer j,.U 0,.I 0] 64) λB p=>R (.T #[.P B 0,.I 0]) p):Cl 5 #[.agg #[.B S,.U d,.U e,.S f,.S g]] h R:=aS [] Tryz.func5 q
theorem xJ.walk(H: ∃d,Cc h s 0 (.pointer d)/\if(!d.isNone)then∃t,Cc h s 1 (.pointer t)/\if(!t.isNone)then∃T,Cc h s 2 (.pointer T)/\if(!T.isNone)then∃a,Cc h s 3 (.pointer a)/\if(!a.isNone)then∃b,Cc h s 4 (.pointer b)/\if(!b.isNone)then∃c,Cc h s 5 (.pointer c)/\R (.B (!c.isNone)) h else R (.B false) h else R (.B false) h else R (.B false) h else R (.B false) h else R (.B false) h):Cl 38 #[.P s 0] h R:=aS [] Tryz.func38 H
theorem xK.walk{n:Int}(q:Cl 38 #[.P s 0] h λv H=> ∃k,v=.B k/\if(!k)then R (.I 6) H else if(decide (n>1099511627776))then R (.I 1) H else∃T,Cc H s 6 (.U T)/\if(decide (n<T))then R (.I 18) H else aJ H (AA s 6) (.U n) λf=>Hp f s 2 λr=>Cl 39 #[.pointer r,.U n] f λV g=>Vl V λ_ _ _=>Hp g s 3 λu=>Cl 40 #[.pointer u,.U n] g λJ l=>Vl J λw i _=> ∃(I:Int->ai->Prop)(m:Int->ai->Nat),I 0 l/\∀(t:Int)(c:ai),I t c->if(decide (t<(i:Int)))then Bd t i/\aN w λa=>aI.LD c (a.add (toNat t*4)) λx y B A z C=>bf c (.C #[.I 0,.I 0,.Z,.U 0] 117) λb p=>aI.ST p (AA b 0) x y B A z C λd=>Hp d s 4 λD=>Hi d b 1 λE=>Hl d b 2 λG j F=>Cl 41 #[.pointer D,.I E,.I (j:Int)] d λK e=>Vi K λ_=>Cc e b 2 (.L G j F)/\(I (wrap .i64 (t+1)) e/\m (wrap .i64 (t+1)) e<m t c)else R (.I 0) c):Cl 24 #[.P s 0,.U n] h R:=aS [(31,.loop [(38,.one (.int .i64))]),(42,λ_=>pN 10)] Tryz.func24 q
theorem yW.walk{e:ct}{d D:Nat}{V:Int} (n:Cl 38 #[.P s 0] h λv H=> ∃T,v=.B T/\if(!T)then R (.T #[.I 0,.I 6]) H else aG (λ(p:Bool) (a:ai)=>if p then R (.T #[.I 0,.I 15]) a else Hp a s 3 λx=>Cl 221 #[.pointer x,.I o,.L e d D,.U V] a λA b=> ∃i t,A=.T #[.I i,.I t]/\aG (λ(k:ai)=>R (.T #[.I i,.I t]) k) (λj=>if(t==0)then Hp b s 4 λy=>Cl 222 #[.pointer y,.I o,.I (d:Int)] b λB l=> ∃z,B=.I z/\j l else j b)) (λJ=>Hp H s 3 λq=>Cl 143 #[.pointer q] H λC c=> ∃u f r,C=.L u f r/\if(decide (((f:Nat):Int)≥16))then J true c else Hp c s 4 λw=>Cl 220 #[.pointer w,.I o,.I (d:Int)] c λE m=> ∃g,E=.B g/\J (!g) m)):Cl 185 #[.P s 0,.I o,.L e d D,.U V] h R:=aS [(11,.join [(16,.one (.bool))]),(22,.join [])] Tryz.func185 n
theorem uJ.walk{num:Int} (q:bf h (.C #[.I num] 3) λb m=>Cl 38 #[.P s 0] m λv c=> ∃T,v=.B T/\if(!T)then R (.I 6) c else Hp c s 3 λr=>Cl 143 #[.pointer r] c λV d=>Vl V λi g u=>Hp d s 3 λw=>Hi d b 0 λx=>Cl 144 #[.pointer w,.I x,.I o] d λC n=>Vi C λk=>Cl 83 #[.L i g u,.func (.func 145) #[] #[.P b 0]] n λD e=>Vi D λt=>aG (λ(y:Bool) (H:ai)=>aG (λ(p:ai)=>R (.I k) p) (λj=>if y then Hp H s 4 λz=>Bd t g/\aN i λa=>oL H ((a.add (toNat t*4)).add 2) λB l A=>Cl 41 #[.pointer z,.I o,.I (l:Int)] H λE f=>Vi E λ_=>aU f ((a.add (toNat t*4)).add 2)=some (.L B l A)/\j f else j H)) (λJ=>if(k==0)then J (decide (t≥0)) e else J false e)):Cl 99 #[.P s 0,.I num,.I o] h R:=aS [(13,λ_=>pN 8),(18,.join [(33,.one (.bool))]),(19,.join []),(20,λ_=>pN 12)] Tryz.func99 q
theorem sg.walk{x:Int}{X:Int}{e:ct}{d a:Nat}{f:Int}{c:Nat}(g:bf h (.C #[.I x,.I X,.L e d a,.U f] 117) λb H=>Hi H b 0 λT=> ∃t,Cc H c 0 (.I t)/\R (.B (T==t)) H):Cl 145 #[.agg #[.I x,.I X,.L e d a,.U f],.P c 0] h R:=aS [] Tryz.func145 g
theorem xL.walk(u:bf h (.C #[.I 0,.I 0,.Z,.U 0] 117) λb p=>Cl 38 #[.P s 0] p λa' a=> ∃n,a'=.B n/\if(!n)then aI.ST a (AA b 0) 0 0 none 0 0 0 λc=>aI.LD c (AA b 0) λv x E C z G=>R (.T #[.agg #[.I v,.I x,.L E C z,.U G],.I 6]) c else Hp a s 3 λK=>Cl 76 #[.pointer K] a λb' q=> ∃T g k j i l t,b'=.T #[.agg #[.I T,.I g,.L k j i,.U l],.I t]/\bf q (.C #[.I 0,.I 0,.Z,.U 0] 117) λB r=>aI.ST r (AA B 0) T g k j i l λH=>aG (λ(d:ai)=>aI.LD d (AA B 0) λQ S X V U Z=>aI.ST d (AA b 0) Q S X V U Z λe=>aI.LD e (AA b 0) λw y F D A I=>R (.T #[.agg #[.I w,.I y,.L F D A,.U I],.I t]) e) (λJ=>if(t==0)then Hp H s 4 λL=>Hi H B 1 λM=>Hl H B 2 λP m O=>Cl 41 #[.pointer L,.I M,.I (m:Int)] H λc' f=>Vi c' λ_=>Cc f B 2 (.L P m O)/\J f else J H)):Cl 47 #[.P s 0] h R:=aS [(15,.join []),(16,λ_=>pN 10)] Tryz.func47 u
theorem MG.walk{S:Bool}{d:Int}{f:Int}{g:ByteArray}{i:ByteArray}(k:bf h (.C #[.B S,.U d,.U f,.S g,.S i] 29) λb c=>aG (λ(T:Bool) (H:ai)=>if T then R (.T #[.pointer none,.I 3]) H else aw.LD H (AA b 0) λl m n p q=>bf H (.C #[.B l,.U m,.U n,.S p,.S q,.U 0,.U 0,.B true] 84) λB j=>R (.T #[.P B 0,.I 0]) j) (λJ=>aw.LD c (AA b 0) λr u w x y=>Cl 29 #[.agg #[.B r,.U u,.U w,.S x,.S y]] c λv a=> ∃t,v=.B t/\if(!t)then J true a else aw.LD a (AA b 0) λz A C D E=> ∃(e:Bool),BP Tryz.prog 29 (.agg #[.B z,.U A,.U C,.S D,.S E]) (.agg #[.B false,.U 0,.U 0,.S ij,.S ij]) e/\J e a)):Cl 11 #[.agg #[.B S,.U d,.U f,.S g,.S i]] h R:=aS [(4,.join [(11,.one (.bool))])] Tryz.func11 k
theorem xM.walk{m:Nat}(e:bf h (.C #[.B false,.U 0,.U 0,.S ij,.S ij,.U 0,.U 0] 82) λb a=>aG (λ(T:Bool) (H:ai)=>if T then ah.ST H (AA b 0) false 0 0 ij ij 0 0 λc=>ah.LD c (AA b 0) λr g j l p u w=>R (.agg #[.B r,.U g,.U j,.S l,.S p,.U u,.U w]) c else ah.LD H (AA m 0) λy z A B C D E=>ah.ST H (AA b 0) y z A B C D E λd=>ah.LD d (AA b 0) λf i k n q v x=>R (.agg #[.B f,.U i,.U k,.S n,.S q,.U v,.U x]) d) (λJ=> ∃t,Cc a m 7 (.B t)/\J (!t) a)):Cl 182 #[.P m 0] h R:=aS [(4,.join [(11,.one (.bool))])] Tryz.func182 e
theorem fR.cancel.walk{c:ct}{S e:Nat}{f:Nat}(d: ∃(I:Int->ai->Prop)(m:Int->ai->Nat),I 0 h/\∀(t:Int)(H:ai),I t H->if(decide (t<(S:Int)))then Bd t S/\aN c λa=>aI.LD H (a.add (toNat t*4)) λg i l k j n=>Cl 145 #[.agg #[.I g,.I i,.L l k j,.U n],.P f 0] H λv b=> ∃T,v=.B T/\if T then R (.I t) b else(I (wrap .i64 (t+1)) b/\m (wrap .i64 (t+1)) b<m t H)else R (.I (-1)) H):Cl 83 #[.L c S e,.func (.func 145) #[] #[.P f 0]] h R:=aS [(6,.loop [(8,.one (.int .i64))])] Tryz.func83 d

end
section
namespace dK
open iB (It)
open jG (Ev dt lC)
variable {h H:ai} {R:fO} {s k:Nat} {X:Ft} {I:oN} {a:SS}
variable {n r:Nat} {x:It} {l:List It} {L:List Go.kU.E} {B:iB.BS}
theorem gp(B:Bk h s I n r)(b:R (.B true) h):Cl 38 #[pt s] h R:=by
 refine xJ.walk ?_;repeat (first|exact b|refine⟨_,au B,?_⟩|rw[af rfl])
theorem Pt.put(f:Pt h s X I a)(b:Bk H s I n r)(p:H.size=h.size)(o: ∀x,x≠s->H[x]? =h[x]?): ∃d,Pt H s d I { a with now:=n,rf:=r } /\bw X h d H:=by
 obtain⟨Z,⟨q,on⟩,t,z,go⟩:=f.use 6;obtain⟨d,g,S,_,_⟩:=go H Z { a with now:=n,rf:=r } ⟨b,on⟩ (bw.vq (Fr.of_eq p λc j=>o c (λe=>j ((on c).1.2 e)))) (λi m=>SP _ _ m);exact⟨d,g,S⟩
theorem Pt.SW{n o:Int}(c:Pt h s X I a)(e:a.Q.Perm (x::l))(O:sZ a.Q)(K:Vt x)(q:n=(x.d.length:Int))(t:o=x.owner)(j: ∀H b,Pt H s b I { a with Q:=l } ->bw X h b H->R (.I 0) H):Cl 41 #[pt I.p,.I o,.I n] h R:=by
 subst t;obtain⟨Z,⟨m,P,on⟩,v,z,go⟩:=c.use 4;refine T8 (P.perm e) (sZ.perm O e) K q λH p f=> ?_
 obtain⟨b,d,S,_,_⟩:=go H Z { a with Q:=l } ⟨m,p,on⟩ (bw.vq (f.mono λy _ u=>(on y).1.2 u)) (λi g=>Jr _ g);exact j H b d S
theorem Pt.perm(d:Pt h s X I a)(e:a.Q.Perm l):Pt h s X I { a with Q:=l } :=by
 obtain⟨y,c,r⟩:=d;refine⟨y,λi=> ?_,r⟩;by_cases b:i=4
 .subst b;obtain⟨m,P,on⟩:=c 4;exact⟨m,P.perm e,on⟩
 .rw[Jr _ b];exact c i
theorem Ho{r:List It}(o:sZ (l++r)): ∀j,sZ (l.drop j++r)
 |0=>o
 |j+1=>by
  have h:=Ho o j;rcases Nat.lt_or_ge j l.length with q|q
  .rw[cP q]at h;exact sZ.sub h
  .rw[List.drop_eq_nil_of_le q]at h;rw[List.drop_eq_nil_of_le ag];exact h
theorem Pt.okB(b:Pt h s X I a): ∃L,iB.okB a.B L:=by
 obtain⟨Z,L,B,o⟩:=b.box;exact⟨L,o⟩
theorem Pt.ord(b:Pt h s X I a):gY.Ord a.C:=by
 obtain⟨y,c,_⟩:=b;exact gY.Ct.ord (c 2)
theorem Jy(o:iB.okB B L)(b:x∈B.items):Vt x:=by
 have:=o.it x b;exact⟨this.2.2.1,this.2.2.2.1,this.2.2.2.2.1,this.2.2.2.2.2.1⟩
theorem Good.small(G:Good a k)(O:gY.Ord a.C)(b:k<=40000):gY.Small a.C:=G.c.small O b
theorem MH(o:iB.okB B L){P:It->Bool}{d:List It}(i: ∀y∈d,y∈B.items)(g:(d.map It.kv).Perm ((B.items.filter P).map It.kv)):d.Perm (B.items.filter P):=by
 have m: ∀{l:List It},l.Sublist B.items->(l.map It.num).Nodup:=λp=>((o.inc.sublist (p.map It.num))).imp λh=>Nat.ne_of_lt h
 have f:((d.map It.kv).map (λe=>e.1)).Nodup:=by
  refine(g.map _).nodup_iff.2 ?_;rw[dT];have:=m (cU (l:=B.items) (p:=P));unfold List.Nodup at this⊢;rw[fF]at this⊢;exact this.imp λh e=>h (by have e:(_:Int)=(_:Int):=e;exact Int.ofNat.inj e)
 have q:d.Nodup:=by
  rw[dT]at f;unfold List.Nodup at f⊢;rw[fF]at f;exact f.imp λh e=>h (by rw[e])
 have t:(B.items.filter P).Nodup:=by
  have:=m (cU (l:=B.items) (p:=P));unfold List.Nodup at this⊢;rw[fF]at this;exact this.imp λh e=>h (by rw[e])
 rw[List.perm_ext_iff_of_nodup q t];have j: ∀x∈B.items,∀y∈B.items,x.kv=y.kv->x=y:=λx b y c e=>iB.uniq o.inc b c (by have e:((x.num:Nat):Int)=((y.num:Nat):Int):=cf Prod.fst e;exact Int.ofNat.inj e)
 intro x;constructor
 .intro b;obtain⟨y,c,e⟩:=bt.1 (g.mem_iff.1 (bt.2 ⟨x,b,rfl⟩));rw[j x (i x b) y (bj.1 c).1 e.symm];exact c
 .intro b;obtain⟨y,c,e⟩:=bt.1 (g.mem_iff.2 (bt.2 ⟨x,b,rfl⟩));rw[j x (bj.1 b).1 y (i y c) e.symm];exact c
theorem Jz(l:List It)(b:Nat):l.Perm (l.filter (λx=>decide ((x.fS:Int)<=(b:Int)))++l.filter (λx=>decide ((b:Int)<(x.fS:Int)))):=by
 have h:=(List.filter_append_perm (λx:It=>decide ((x.fS:Int)<=(b:Int))) l).symm;have e:(λx:It=> !decide ((x.fS:Int)<=(b:Int)))=λx:It=>decide ((b:Int)<(x.fS:Int)):=funext λx=>by
  by_cases q:(x.fS:Int)<=(b:Int)
  .rw[av q,aC ag];rfl
  .rw[aC q,av ag];rfl
 rw[e]at h;exact h
theorem wh{n:Int}(b:Nat)(hn:n=(b:Int))(m:Pt h s X I a)(G:Good a k)(m':k<=30000)(f: ∀H Q,Pt H s Q I (yj a b)->bw X h Q H->R (.I (qp a b)) H):Cl 24 #[pt s,.U n] h R:=by
 subst hn;have B:=m.di;refine xK.walk (gp B ⟨_,rfl,?_⟩);rw[dy];unfold yj at f;by_cases w:b>1099511627776
 .have e:qp a b=1:=af w;rw[e,dy]at f;rw[gi];exact f h X m (bw.refl _ _)
 rw[ae (λe=>w (bW (aV e)))];refine⟨_,au B,?_⟩;by_cases z:b<a.now
 .have e:qp a b=18:=by unfold qp;rw[ae w,af z]
  rw[e,dy]at f;rw[gi];exact f h X m (bw.refl _ _)
 rw[ae (λe=>z (bW (aV e)))];have e:qp a b=0:=by unfold qp;rw[ae w,ae z]
 rw[e,af rfl]at f;refine bk B bU λz a1 a2 a3=> ?_
 obtain⟨T,q,S⟩:=m.put (n:=b) (r:=a.rf) a1 a2 a3;have a':=m.ord;have sm:=G.small a' ag;obtain⟨Z,p,zm,zd,go⟩:=q.use 2;refine⟨_,au q.di,gY.wh p sm (by have:=G.c.L;show a.C.over<=_;omega) (gY.Good.held G.c) (b:Int) λV Z3 p3 c3 C3 s3 N3 g3=>⟨_,_,_,rfl,?_⟩⟩;obtain⟨X3,P,h',_,_⟩:=go V Z3 { a with now:=b,C:=gY.kI a.C (b:Int) } C3 s3 (λi D=>xF (σ:= { a with now:=b }) _ D);obtain⟨Z,p,zm,zd,go⟩:=P.use 3;obtain⟨L,okB⟩:=m.okB;refine⟨_,au P.di,iB.wh b rfl p (by have:=G.b;show a.B.next<=_;omega) λh4 Z4 p4 c4 c k' K s4 o4 d4 E e4 o' g' m4=>⟨_,_,_,rfl,?_⟩⟩;have yp:(c.map iB.IV.abs).Perm (a.B.items.filter (λx=>decide ((x.fS:Int)<=(b:Int)))):=MH okB (λy d=>by obtain⟨j',p,rfl⟩:=bt.1 d;exact m4 j' p) (by rw[e4];exact g');have yl:c.length=(a.B.items.filter (λx=>decide ((x.fS:Int)<=(b:Int)))).length:=by rw[<-yp.length_eq,aD]
 have eB:({ a.B with items:=a.B.items.filter (λx=>decide ((b:Int)<(x.fS:Int))),over:=a.B.over+c.length } :iB.BS)=tX a.B b:=by unfold tX;rw[yl]
 rw[eB]at K;obtain⟨u,H4,i',l',d'⟩:=go h4 Z4 { a with now:=b,C:=gY.kI a.C (b:Int),B:=tX a.B b } K s4 (λi D=>EK (σ:= { a with now:=b,C:=gY.kI a.C (b:Int) }) _ D);have st:=S.trans (h'.trans i');have c': ∀y,aP p4 y->¬(u.M y\/u.D y)/\V.size<=y:=λy d=>⟨λo=>(E y d).2 (d' y (E y d).1 o),(E y d).1⟩
 have hq:(a.Q).Perm (c.map iB.IV.abs++(tX a.B b).items):=by
  rw[G.q];exact(Jz _ b).trans (yp.symm.append_right _)
 have e':sZ (c.map iB.IV.abs++(tX a.B b).items):=sZ.perm G.ok hq;refine⟨λi g=> ∃(j:Nat)(v:Ft),i=(j:Int)/\j<=c.length/\Pt g s v I { a with now:=b,C:=gY.kI a.C (b:Int),B:=tX a.B b,Q:=(c.map iB.IV.abs).drop j++(tX a.B b).items } /\bw u h4 v g/\Own g p4 c.length c4 4 (c.flatMap iB.gI),λi _=>c.length - i.toNat,
  ⟨0,u,rfl,bQ _,H4.perm hq,bw.refl _ _,o4⟩,?_⟩
 rintro _ g ⟨j,v,rfl,hj,t,J,O⟩;have n':c.length<=16:=by rw[yl];exact db (cM _ _) okB.le
 by_cases C:j<c.length
 .rw[gi];have d:c[j]? =some c[j]:=aj C;obtain⟨pb,po,rfl⟩:=O.addr ag;refine⟨ag,ax.2 (aI.DZ (by rw[aH];exact O.gB iB.iE d) (aI.new λb' g1 eb A F=> ?_))⟩;have M:=t.on F;have ed:(c.map iB.IV.abs).drop j=c[j].abs::(c.map iB.IV.abs).drop (j+1):=by
   rw[cP (by rw[aD];exact C),List.getElem_map]
  have f':=Ho e' j;refine⟨_,au M.di,_,au A,_,_,_,au A,M.SW (x:=c[j].abs) (l:=(c.map iB.IV.abs).drop (j+1)++(tX a.B b).items) (by show((c.map iB.IV.abs).drop j++_).Perm _;rw[ed];exact .refl _) f' (Jy okB (m4 _ (dF C))) rfl rfl λg2 T q S=>⟨_,rfl,?_,?_⟩⟩
  .have lb:=aA A;exact S.fr.cell (au A) (λo=>bW (t.lt b' (.inl o)))
  .rw[bJ ag ag];have s2:=J.on F|>.trans S
   refine⟨⟨j+1,T,ag,ag,q,s2,(O.frame F bX).frame S.fr (λy d o=> ?_)⟩,by show c.length - Int.toNat ((j:Int)+1)<c.length - Int.toNat (j:Int);omega⟩;rcases J.hN y o with U|U
   .exact(c' y d).1 (.inl U)
   .have:=o4.dI d;omega
 .rw[ae (λe=>C (bW (aV e)))];refine f g v ?_ (st.trans J);rw[List.drop_eq_nil_of_le (by rw[aD];omega)]at t;exact t

end dK
end
section
open Go.fV
namespace fu
open mi
variable {h d:ai} {t:Nat} {X:Ft} {R:fO} {p:ct} {c i:Nat} {l:QV} {D:Nat→Prop} {L:List SC} {A:List fu}
variable {num k:Int} {b:cG} {n m nc':Nat} {s:SC} {H a:ai} {K':List BV} {np':ct} {E:Nat->Prop}
theorem EG.on(T:EG h t l D L)(f:Fr No h d):EG d t l D L:=by
 obtain⟨p,c,e,O,j⟩:=T.di;refine⟨⟨p,c,f.get e id,O.frame f bX,j⟩,T.O4,λi s q=>(T.ses i s q).frame f (λ_ _ _ _ _=>id) bX,?_,?_,T.ap⟩
 .intro c r o;exact cK (T.O5 c r o) f.1
 .intro c g;exact cK (T.G0 c g) f.1
theorem JA(e:List AV)(id:Nat):(e.filter (λx=>decide (x.id≠id))).map AV.abs=(e.map AV.abs).filter (λf=>decide (f.1≠id)):=by
 rw[dO];rfl
theorem Pv{B:List Nat}(id:Nat)(C':k=(id:Int))(h':tD h t X A B)(ok:mT A)(hr:Row h p (bc b))(M:n=b.length)(hp:b≠ []->∀x,aP p x->¬X.M x)(o: ∀d U,tD d t U (Bb A num id b) B->bw X h U d->R (.I (Pa A num id b)) d):
  Cl 73 #[.P t 0,.I num,.U k,.L p n m] h R:=by
 subst C' M;have T:=h';obtain⟨l,L,TB,rfl,rfl,hS⟩:=h';have hl:=ok.le;rw[aD]at hl;refine th.walk (cT ?_);have F:Fr No h (h.push (.C #[.U (id:Int)] 27)):=Fr.push _ _;have e':rW (h.push (.C #[.U (id:Int)] 27)) h.size id:=bZ;have T':(h.push (.C #[.U (id:Int)] 27)).size=h.size+1:=cY _;generalize h.push (.C #[.U (id:Int)] 27)=H at F e' T'⊢;have c':=TB.on F;have g':bw X h X H:=bw.gT F;unfold Bb Pa at o;refine ic c' (λi s e hs=>⟨_,_,rfl,?_⟩) (λM=>⟨_,_,rfl,?_⟩) ag
 .rw[ae bU];subst e;rw[qa,kz hs]at o;dsimp only at o;refine aG.of λi' hJ=> ?_
  have jt:(id>1099511627776\/b.length>1000)->i' true H:=by
   intro hh;subst hJ;simp only[bm];simp only[hh,bm]at o;exact o H X (T.frame F (λ_ _ x=>x)) g'
  have jf: ¬(id>1099511627776\/b.length>1000)->i' false H:=by
   intro hh;subst hJ;simp only[ar,aQ];simp only[hh,aQ]at o;have S:=c'.ses i s hs;have sw:=ok.at_ i _ (kz hs);have kl:s.kept.length<=6:=by have:=sw.kl;rwa[show s.abs.kept.length=s.kept.length from aD _]at this
   have a': ∀c,aP s.kp c->c≠s.b:=λc g e=>by have H:=S.kl c g;rw[e,S.lb]at H;simp at H
   have M': ∀c,aP s.np c->c≠s.b:=λc g e=>by have H:=S.nl c g;rw[e,S.lb]at H;simp at H
   have s': ∀c,aP s.kp c->¬aP s.np c:=λc g u=>by have H:=S.kl c g;rw[S.nl c u]at H;simp at H
   have kS: ∀c,aP s.kp c->X.M c:=λc g=>(hS c).2 ⟨_,S.kl c g⟩
   have bS:X.M s.b:=(hS s.b).2 ⟨_,S.lb⟩;have o': ¬aP s.kp h.size:=λf=>by have:=(T.lt _ (.inl (kS _ f)));omega
   have G':h.size≠s.b:=λe=>by have:=T.lt _ (.inl bS);omega
   have kD: ∀c,X.D c->¬(c=s.b\/aP s.kp c):=λc g f=>f.elim (λe=>TB.ap c _ (e▸S.lb) g) (λf=>TB.ap c _ (S.kl c f) g)
   refine ax.2 ⟨_,_,_,au S.di,Jc S.xw rfl ag e' o' λh4 o4 f4 E'=>⟨_,_,_,rfl,ax.2 ?_⟩⟩;have B':=f4.get S.di (λf=>a' _ f rfl);refine bk B' bU λz k1 k2 k3=>ax.2 ?_
   have f5:Fr (λx=>x=s.b) h4 z:=Fr.of_eq k2 k3;have f':rW z h.size id:=f5.get E' G';have F5:Fr (λx=>x=s.b\/aP s.kp x) H z:=(f4.mono (λ_ _ f=> .inr f)).tt (f5.mono (λ_ _ f=> .inl f));have S':Row z p (bc b):=by
    by_cases hb:b= []
    .rw[hb];exact .inl rfl
    .refine(hr.frame F (λ_ _ x=>x)).frame F5 (λj e f=> ?_);have:=hp hb j.block ⟨j,e,rfl⟩;exact f.elim (λe=>this (e▸bS)) (λf=>this (kS _ f))
   refine⟨_,_,_,au k1,_,au f',gE S' rfl ag λP C r o6 V g6=>⟨_,_,_,rfl,au (V.get f' (λx=>x)),au (V.get k1 (λx=>x)),?_⟩⟩;refine cT ?_;have f7:Fr No r (r.push (.C #[.U (id:Int),.L P b.length C] 135)):=Fr.push _ _;have v':Row (r.push (.C #[.U (id:Int),.L P b.length C] 135)) (Sa r.size 0) (AV.enc ⟨id,⟨P,C,b⟩⟩):=ju (cs:=AV.enc ⟨id,⟨P,C,b⟩⟩);have U':(r.push (.C #[.U (id:Int),.L P b.length C] 135)).size=r.size+1:=cY _;generalize r.push (.C #[.U (id:Int),.L P b.length C] 135)=h7 at f7 v' U'⊢;have Z:=V.tt f7;have n':rW h7 h.size id:=Z.get f' (λx=>x);have q':=Z.get k1 (λx=>x);refine⟨au n',au q',?_⟩;have o5:=o4.frame f5 (λx f e=>a' x f e);have o7:=o5.frame Z (λ_ _ x=>x);have fl:=cM (λx:AV=>decide (x.id≠id)) s.kept;refine dR tA uA o7 v' rfl (λX' hv=>by simp at hv;rcases hv with rfl|rfl<;>rfl) ag ag ?_;intro p8 c8 h8 o8 _ I g8;have F':rW h8 h.size id:=I.get n' o';have H':=I.get q' (λf=>a' _ f rfl);refine⟨_,_,_,rfl,au F',ax.2 ?_⟩;refine bk H' bU λv q1 q2 q3=>ax.2 ⟨_,_,_,au q1,?_⟩
   have J:Fr (λx=>x=s.b) h8 v:=Fr.of_eq q2 q3;have z5:H.size<=z.size:=F5.1;have z6:=V.1;have z8:=I.1;have V':s.b<H.size:=aA S.di;have r': ∀c,aP s.kp c->c<H.size:=λc g=>S.xw.dI g
   have t': ∀c,aP p8 c->aP s.kp c\/h7.size<=c:=g8;have L': ∀c,aP p8 c->c≠s.b:=λc g e=>(t' c g).elim (λf=>a' c f e) (λf=>ag)
   have o9:=o8.frame J (λx f e=>L' x f e);have F9:Fr (λx=>x=s.b\/aP s.kp x) H v:=F5.tt ((Z.mono (λ_ _=>False.elim)).tt ((I.mono (λ_ _ f=> .inr f)).tt (J.mono (λ_ _ f=> .inl f))));have q: ∀c,aP P c->z.size<=c/\c<r.size:=λc g=>⟨g6 c g,o6.dI g⟩
   have P':Own v P b.length C 1 (bc b):=((o6.frame f7 (λ_ _ x=>x)).frame I (λc g f=>iJ (q c g) (r' c f))).frame J (λc g e=>bW (q c g));have x':(s.kept.filter (λx:AV=>decide (x.id≠id))).flatMap AV.enc++AV.enc ⟨id,⟨P,C,b⟩⟩=(s.kept.filter (λx:AV=>decide (x.id≠id))++ [(⟨id,⟨P,C,b⟩⟩:AV)]).flatMap AV.enc:=by rw[cS];simp
   rw[x']at o9;have I':(s.kept.filter (λx:AV=>decide (x.id≠id))++ [(⟨id,⟨P,C,b⟩⟩:AV)]).map AV.abs=s.abs.kept.filter (λj=>decide (j.1≠id))++ [(id,b)]:=by
    rw[ba,JA];rfl
   have Q:(s.kept.filter (λx:AV=>decide (x.id≠id))++ [(⟨id,⟨P,C,b⟩⟩:AV)]).length=(s.kept.filter (λx:AV=>decide (x.id≠id))).length+1:=by rw[aB];rfl
   have J': ∀j∈s.kept.filter (λx:AV=>decide (x.id≠id))++ [(⟨id,⟨P,C,b⟩⟩:AV)],j.v.ok v (λc=>X.D c\/aP P c):=by
    intro j ha;rcases bH.1 ha with ha|ha
    .exact((S.kd j (bj.1 ha).1).frame F9 kD).mono (λc=> .inl)
    .simp at ha;subst ha;exact BV.kT P' (λc=> .inr)
   generalize s.kept.filter (λx:AV=>decide (x.id≠id))++ [(⟨id,⟨P,C,b⟩⟩:AV)]=K at*;generalize (s.kept.filter (λx:AV=>decide (x.id≠id))).length=y' at*;refine aG.of λJ1 m'=> ?_
   have y: ∀(a:ai)(K':List AV)(G:ct)(O:Nat),(∃p',K'=K.drop p')->K'.map AV.abs=yg s.abs.kept id b->At a { s with kept:=K',kp:=G,kc:=O } ->Own a G K'.length O 2 (K'.flatMap AV.enc)->
     (∀c,aP G c->aP s.kp c\/h7.size<=c)->Fr (λx=>x=s.b) v a->J1 a:=by
    intro a K' G O ⟨p',hj⟩ hK A' D' d' w;subst m';have b':Fr (λx=>x=s.b\/aP s.kp x) H a:=F9.tt (w.mono (λ_ _ f=> .inl f));obtain⟨U,HH,st⟩:=c'.QW (s':= { s with kept:=K',kp:=G,kc:=O }) (E:=aP P) hS hs rfl b' (λc f=>f.elim (λe=>⟨_,e▸S.lb,ag,ag⟩) (λf=>⟨_,S.kl c f,ag,ag⟩)) A' D'
     (λc g=>(d' c g).imp (S.kl c) (λf=>ag)) (S.Ch.frame b' (λc g f=>f.elim (M' c g) (λf=>s' c f g))) (λc g=> .inl (S.nl c g))
     (λc g u=>(d' c g).elim (λf=>s' c f u) (λf=>bW (S.Ch.dI u)))
     (λc g=>⟨bW ((q c g).1),sQ ((q c g).2) J.1 w.1,λf=>(d' c f).elim (λu=>iJ (r' c u) (q c g)) (λu=>bW (q c g)),λf=>iJ (S.Ch.dI f) (q c g)⟩)
     (λj ha=>(J' j (by rw[hj]at ha;exact gl ha)).frame w (λc g e=>g.elim (λg=>kD c g (.inl e)) (λg=>bW (q c g))))
     (λn M=>((S.nd n M).frame b' kD).mono (λc=> .inl))
    refine o a U ?_ (g'.trans st);unfold lR;rw[show((i:Int)+1 - 1).toNat=i by omega];have:({ s with kept:=K',kp:=G,kc:=O } :SC).abs= { s.abs with kept:=yg s.abs.kept id b } :=by
     unfold SC.abs;dsimp only;rw[hK];rfl
    rw[this]at HH;exact HH
   clear m';unfold yg at y;rw[<-I',aD,Q]at y;by_cases l':((y'+1:Nat):Int)>6
   .simp only[l',bF,bm];rw[gi]at y;refine ax.2 ⟨_,_,_,au q1,ag,?_⟩;rw[<-Q]at o9;have u':=o9.sub (l:=1) (u:=K.length) ag (bp _);rw[<-eL AV.enc 2 hY K,fv,lO AV.enc 2 hY]at u';refine Mf u'.iz (by rw[bN,<-Q];rfl) (by rw[bN];omega) λQ' w' z' O' j' k'=>⟨_,_,_,rfl,ax.2 ?_⟩
    have R':=j'.get q1 (λx=>x);refine bk R' bU λa r1 r2 r3=> ?_
    have w:Fr (λx=>x=s.b) z' a:=Fr.of_eq r2 r3;have z9:=J.1;refine y a (K.drop 1) Q' w' ⟨1,rfl⟩ List.map_drop ?_ (O'.frame w (λc g e=>bW (k' c g))) (λc g=> .inr (bW (k' c g))) ((j'.mono (λ_ _=>False.elim)).tt w);exact r1
   .simp only[l',bu,ar,aQ];rw[dy]at y;refine y v K p8 c8 ⟨0,rfl⟩ rfl ?_ (by rw[Q];exact o9) t' (Fr.refl _ _);show v[s.b]? =_;rw[q1];dsimp only;rw[Q];rfl
  clear hJ;refine⟨_,au e',?_⟩;by_cases c1:(id:Int)>1099511627776
  .simp only[c1,bF,bm];exact jt (.inl ag)
  .simp only[c1,bu,ar,aQ];by_cases c2:(b.length:Int)>1000
   .simp only[c2,bF];exact jt (.inr ag)
   .simp only[c2,bu];exact jf ag
 .rw[af (by rfl)];rw[lQ (by rw[aD];exact M)]at o;exact o H X (T.frame F (λ_ _ x=>x)) g'
theorem Q4(id:Nat)(o:k=(id:Int))(f:Has h t X A)(O:mT A)(u:Row h p (bc b))(q:n=b.length)(r:b≠ []->∀x,aP p x->¬X.M x)(j: ∀d e,Has d t e (Bb A num id b)->bw X h e d->R (.I (Pa A num id b)) d):
  Cl 73 #[.P t 0,.I num,.U k,.L p n m] h R:=by
 obtain⟨B,f⟩:=f;exact Pv id o f O u q r λd e g S=>j d e ⟨B,g⟩ S
theorem MI(x:List AV)(id:Nat):Kt (x.map AV.abs) id=(x.find? (λe=>decide (e.id=id))).map (λe=>e.v.b):=by
 unfold Kt;rw[List.find?_map,Option.map_map];rfl
theorem Q5(id:Nat)(e':k=(id:Int))(B:Has h t X A)(O:mT A)(o: ∀b,Dh A num id=some b->∀d P C,Own d P b.length C 1 (bc b)->Fr No h d->(∀x,aP P x->h.size<=x)->R (.T #[.L P b.length C,.B true]) d)(K:Dh A num id=none->hH h R (.T #[.Z,.B false])):
  Cl 69 #[.P t 0,.I num,.U k] h R:=by
 subst e';obtain⟨_,l,L,G,rfl,_,hS⟩:=B;have hl:=O.le;rw[aD]at hl;refine tj.walk (cT ?_);have F:Fr No h (h.push (.C #[.U (id:Int)] 27)):=Fr.push _ _;have I:rW (h.push (.C #[.U (id:Int)] 27)) h.size id:=bZ;generalize h.push (.C #[.U (id:Int)] 27)=H at F I⊢;have T:=G.on F;unfold Dh at o K;refine ic T (λi s e q=>⟨_,_,rfl,?_⟩) (λhn=>⟨_,_,rfl,?_⟩) ag
 .rw[ae bU];subst e;rw[qa,kz q]at o K;dsimp only at o K;rw[show s.abs.kept=s.kept.map AV.abs from rfl,MI]at o K;have S:=T.ses i s q;have sw:=O.at_ i _ (kz q);have kl:s.kept.length<=6:=by have:=sw.kl;rwa[show s.abs.kept.length=s.kept.length from aD _]at this
  refine ax.2 ⟨_,_,_,au S.di,Jb S.xw.iz rfl ag I λV g=>⟨_,rfl,?_⟩⟩;unfold yP;cases u:s.kept.findIdx? (λf=>decide (f.id=id))with
  |none=>
   rw[af (by rfl)];have:s.kept.find? (λf=>decide (f.id=id))=none:=by
    rw[List.find?_eq_none];intro f ha;have:=dh.1 u f ha;simpa using this
   rw[this]at K;exact K rfl V (F.tt g)
  |some j=>
   dsimp only;obtain⟨v,d',c'⟩:=cj.1 u;rw[dy];have r:s.kept[j]? =some s.kept[j]:=aj v;have b':s.kept.find? (λf=>decide (f.id=id))=some s.kept[j]:=by
    rw[fP];exact⟨d',j,v,rfl,λi hi=>by have:=c' i hi;simpa using this⟩
   rw[b']at o;have a':=g.get S.di (λx=>x);have y:=S.xw.frame g (λ_ _ x=>x);have J:=S.kd _ (aZ r);have g':s.kept[j].v.b.length<=1000:=(sw.kd (AV.abs s.kept[j]) (bz (aZ r))).2;generalize s.kept[j]=f at*;obtain⟨ab,f',w⟩:=y.addr ag;have z:=y;rw[w]at z;have hh:=z.gB hY r;refine ax.2 ⟨_,_,_,au a',ag,?_⟩;rw[w];refine ax.2 ⟨f.v.p,f.v.b.length,f.v.c,?_,?_⟩
   .rw[aH];exact hh.2.1
   refine gE (J.row.frame g (λ_ _ x=>x)) rfl ag λp4 M Z o4 Q U=>⟨_,_,_,rfl,?_⟩
   exact o f.v.b rfl Z p4 M o4 (F.tt (g.tt Q)) (λx hx=>iJ (U x hx) ((F.tt g).1))
 .rw[af (by rfl)];rw[lQ (by rw[aD];exact hn)]at K;exact K rfl H F
theorem MJ(g:n=b.length)(e:R (.B (sK b)) h):Cl 210 #[.L p n m] h R:=by
 subst g;refine yO.walk ?_;unfold sK at e;by_cases H:(b.length:Int)≥1
 .by_cases f:(b.length:Int)<=600
  .simpa[H,f,show 1<=b.length by omega,show b.length<=600 by omega]using e
  .simpa[H,f,show 1<=b.length by omega,show¬b.length<=600 by omega]using e
 .simpa[H,show¬1<=b.length by omega]using e
theorem EG.Vz(T:EG H t l X.D L)(B: ∀c,X.M c↔ ∃r,l c=some r)(y:L[i]? =some s)(F:At a { s with notes:=K',np:=np',nc:=nc' })(I:Own a np' K'.length nc' 1 (K'.flatMap mD))(w: ∀c,aP np' c->aP s.np c\/H.size<=c)(f:Fr (λx=>x=s.b\/aP s.np x) H a)(v: ∀c,E c->l c=none/\c<a.size/\¬aP np' c)(G: ∀n∈K',n.ok a (λc=>X.D c\/E c)):
  ∃o,tD a t o ((L.map SC.abs).set i { s.abs with notes:=K'.map BV.b }) (L.map SC.b)/\Fr X.M H a/\(∀c,o.M c->X.M c\/H.size<=c)/\(∀c,o.D c->X.D c\/E c)/\∀c,X.D c->o.D c:=by
 have S:=T.ses i s y;have J: ∀c,aP s.kp c->c≠s.b:=λc g e=>by have H:=S.kl c g;rw[e,S.lb]at H;simp at H
 have z: ∀c,aP s.kp c->¬aP s.np c:=λc g u=>by have H:=S.kl c g;rw[S.nl c u]at H;simp at H
 have K: ∀c,X.D c->¬(c=s.b\/aP s.np c):=λc g j=>j.elim (λe=>T.ap c _ (e▸S.lb) g) (λj=>T.ap c _ (S.nl c j) g)
 exact T.Ua (s':= { s with notes:=K',np:=np',nc:=nc' }) (E:=E) B y rfl f (λc j=>j.elim (λe=>⟨_,e▸S.lb,ag,ag⟩) (λj=>⟨_,S.nl c j,ag,ag⟩)) F
  (S.xw.frame f (λc g j=>j.elim (J c g) (z c g))) (λc g=> .inl (S.kl c g)) I (λc g=>(w c g).imp (S.nl c) id)
  (λc u g=>(w c g).elim (λj=>z c u j) (λj=>bW (S.xw.dI u)))
  (λc g=>⟨(v c g).1,(v c g).2.1,(λj=>by have q:=S.kl c j;rw[(v c g).1]at q;cases q),(v c g).2.2⟩)
  (λq C=>((S.kd q C).frame f K).mono (λc=> .inl)) G
theorem EG.notes(T:EG H t l X.D L)(B: ∀c,X.M c↔ ∃r,l c=some r)(w:L[i]? =some s)(F:At a { s with notes:=K',np:=np',nc:=nc' })(I:Own a np' K'.length nc' 1 (K'.flatMap mD))(v: ∀c,aP np' c->aP s.np c\/H.size<=c)(f:Fr (λx=>x=s.b\/aP s.np x) H a)(q: ∀c,E c->H.size<=c/\c<a.size/\¬aP np' c)(G: ∀n∈K',n.ok a (λc=>X.D c\/E c)):
  ∃u,tD a t u ((L.map SC.abs).set i { s.abs with notes:=K'.map BV.b }) (L.map SC.b)/\bw X H u a:=by
 have S:=T.ses i s w;have J: ∀c,aP s.kp c->c≠s.b:=λc g e=>by have H:=S.kl c g;rw[e,S.lb]at H;simp at H
 have y: ∀c,aP s.kp c->¬aP s.np c:=λc g o=>by have H:=S.kl c g;rw[S.nl c o]at H;simp at H
 have K: ∀c,X.D c->¬(c=s.b\/aP s.np c):=λc g j=>j.elim (λe=>T.ap c _ (e▸S.lb) g) (λj=>T.ap c _ (S.nl c j) g)
 exact T.QW (s':= { s with notes:=K',np:=np',nc:=nc' }) (E:=E) B w rfl f (λc j=>j.elim (λe=>⟨_,e▸S.lb,ag,ag⟩) (λj=>⟨_,S.nl c j,ag,ag⟩)) F
  (S.xw.frame f (λc g j=>j.elim (J c g) (y c g))) (λc g=> .inl (S.kl c g)) I (λc g=>(v c g).imp (S.nl c) id)
  (λc o g=>(v c g).elim (λj=>y c o j) (λj=>bW (S.xw.dI o)))
  (λc g=>⟨(q c g).1,(q c g).2.1,λj=>iJ (S.xw.dI j) ((q c g).1),(q c g).2.2⟩)
  (λz C=>((S.kd z C).frame f K).mono (λc=> .inl)) G
theorem ES(a':Has h t X A)(ok:mT A)(hr:Row h p (bc b))(V:n=b.length)(hb:b.length<=1000000)(j: ∀d y,Has d t y (Be A num b)->bw X h y d->R (.I (Di A num b)) d):
  Cl 167 #[.P t 0,.I num,.L p n m] h R:=by
 subst V;have I:=a';obtain⟨_,l,L,T,rfl,_,hS⟩:=a';have hl:=ok.le;rw[aD]at hl;unfold Be Di at j;refine tB.walk (ic T (λi s e G=>⟨_,_,rfl,?_⟩) (λV=>⟨_,_,rfl,?_⟩) ag)
 .rw[ae bU];subst e;rw[qa,kz G]at j;dsimp only at j;refine MJ rfl ⟨_,rfl,?_⟩;have S:=T.ses i s G;have sw:=ok.at_ i _ (kz G);have nl:s.notes.length<=6:=by have:=sw.nl;rwa[show s.abs.notes.length=s.notes.length from aD _]at this
  cases f':sK b with
  |false=>
   simp only[f',ar,aQ,false_and]at j;simp only[dZ,bm];exact j h X I (bw.refl _ _)
  |true=>
   simp only[f',bm,true_and]at j;simp only[cX,ar,aQ];refine ax.2 ⟨_,au S.di,?_⟩;cases hw:s.watch with
   |false=>
    have:s.abs.watch=false:=hw;simp only[this,ar,aQ]at j;simp only[dZ,bm];exact j h X I (bw.refl _ _)
   |true=>
    have h':s.abs.watch=true:=hw;rw[af h',af h']at j;simp only[cX,ar,aQ];have k': ∀c,aP s.np c->c≠s.b:=λc f e=>by have H:=S.nl c f;rw[e,S.lb]at H;simp at H
    have A':s.b<h.size:=aA S.di;have j': ∀c,aP s.np c->c<h.size:=λc f=>S.Ch.dI f
    refine ax.2 ⟨_,_,_,au S.di,gE hr rfl ag λP C o o3 J g3=>⟨_,_,_,rfl,au (J.get S.di id),cT ?_⟩⟩;have U:Fr No o (o.push (.C #[.L P b.length C] 33)):=Fr.push _ _;have m':Row (o.push (.C #[.L P b.length C] 33)) (Sa o.size 0) (mD ⟨P,C,b⟩):=ju (cs:=mD ⟨P,C,b⟩);have z':(o.push (.C #[.L P b.length C] 33)).size=o.size+1:=cY _;generalize o.push (.C #[.L P b.length C] 33)=h4 at U m' z'⊢;have M:=J.tt U;have k4:=M.get S.di id;refine⟨au k4,?_⟩;refine dR tN uN (S.Ch.frame M bX) m' rfl (λB' hv=>by simp at hv;subst hv;rfl) ag ag ?_;intro p5 c5 h5 o5 _ z g5;refine⟨_,_,_,rfl,ax.2 ?_⟩;have k5:=z.get k4 (λg=>k' _ g rfl);refine bk k5 bU λq Q q2 q3=>ax.2 ⟨_,_,_,au Q,?_⟩
    have v:Fr (λx=>x=s.b) h5 q:=Fr.of_eq q2 q3;have z3:=J.1;have z5:=z.1;have u': ∀c,aP p5 c->c≠s.b:=λc f e=>(g5 c f).elim (λg=>k' c g e) (λg=>ag)
    have O:=o5.frame v (λx g e=>u' x g e);have Z:Fr (λx=>x=s.b\/aP s.np x) h q:=(M.mono (λ_ _=>False.elim)).tt ((z.mono (λ_ _ g=> .inr g)).tt (v.mono (λ_ _ g=> .inl g)));have kD: ∀c,X.D c->¬(c=s.b\/aP s.np c):=λc f g=>g.elim (λe=>T.ap c _ (e▸S.lb) f) (λg=>T.ap c _ (S.nl c g) f)
    have B: ∀c,aP P c->h.size<=c/\c<o.size:=λc f=>⟨g3 c f,o3.dI f⟩
    have w':Own q P b.length C 1 (bc b):=((o3.frame U bX).frame z (λc f g=>iJ (B c f) (j' c g))).frame v (λc f e=>bW (B c f));have o':s.notes.flatMap mD++mD ⟨P,C,b⟩=(s.notes++ [(⟨P,C,b⟩:BV)]).flatMap mD:=by rw[cS];simp
    rw[o']at O;have s':(s.notes++ [(⟨P,C,b⟩:BV)]).map BV.b=s.abs.notes++ [b]:=by rw[ba];rfl
    have w:(s.notes++ [(⟨P,C,b⟩:BV)]).length=s.notes.length+1:=by rw[aB];rfl
    have t': ∀u∈s.notes++ [(⟨P,C,b⟩:BV)],u.ok q (λc=>X.D c\/aP P c):=by
     intro u ha;rcases bH.1 ha with ha|ha
     .exact((S.nd u ha).frame Z kD).mono (λc=> .inl)
     .simp at ha;subst ha;exact BV.kT w' (λc=> .inr)
    generalize s.notes++ [(⟨P,C,b⟩:BV)]=K at*;refine aG.of λJ1 e'=> ?_
    have r: ∀(a:ai)(K':List BV)(np':ct)(nc':Nat),(∃i',K'=K.drop i')->K'.map BV.b=Dj s.abs.notes b->At a { s with notes:=K',np:=np',nc:=nc' } ->Own a np' K'.length nc' 1 (K'.flatMap mD)->
      (∀c,aP np' c->aP s.np c\/h4.size<=c)->Fr (λx=>x=s.b) q a->J1 a:=by
     intro a K' np' nc' ⟨i',hj⟩ hK q' r' g' F;subst e';obtain⟨y,HH,st⟩:=T.notes (E:=aP P) hS G q' r' (λc f=>(g' c f).imp (λh=>h) (λg=>ag)) (Z.tt (F.mono (λ_ _ g=> .inl g)))
      (λc f=>⟨(B c f).1,sQ ((B c f).2) v.1 F.1,λg=>(g' c g).elim (λh2=>iJ (j' c h2) (B c f)) (λh2=>bW (B c f))⟩)
      (λu ha=>(t' u (by rw[hj]at ha;exact gl ha)).frame F (λc f e=>f.elim (λf=>kD c f (.inl e)) (λf=>bW (B c f))))
     refine j a y ?_ st;unfold lR;rw[show((i:Int)+1 - 1).toNat=i by omega];rw[hK]at HH;exact⟨_,HH⟩
    clear e';unfold Dj at r;rw[<-s',aD,w]at r;by_cases d':((s.notes.length+1:Nat):Int)>6
    .simp only[d',bF,bm];rw[gi]at r;refine ax.2 ⟨_,_,_,au Q,ag,?_⟩;rw[<-w]at O;have l':=O.sub (l:=1) (u:=K.length) ag (bp _);rw[<-eL mD 1 nB K,fv,lO mD 1 nB]at l';refine De l'.iz (by rw[bN,<-w];rfl) (by rw[bN];omega) λx' n' p' v' b' c'=>⟨_,_,_,rfl,ax.2 ?_⟩
     have y':=b'.get Q id;refine bk y' bU λa r1 r2 r3=> ?_
     have F:Fr (λx=>x=s.b) p' a:=Fr.of_eq r2 r3;have z6:=v.1;refine r a (K.drop 1) x' n' ⟨1,rfl⟩ List.map_drop ?_ (v'.frame F (λc f e=>bW (c' c f))) (λc f=> .inr (bW (c' c f))) ((b'.mono (λ_ _=>False.elim)).tt F);exact r1
    .simp only[d',bu,ar,aQ];rw[dy]at r;refine r q K p5 c5 ⟨0,rfl⟩ rfl ?_ (by rw[w];exact O) g5 (Fr.refl _ _);show q[s.b]? =_;rw[Q];dsimp only;rw[w];rfl
 .rw[af (by rfl)];rw[lQ (by rw[aD];exact V)]at j;exact j h X I (bw.refl _ _)
theorem vO(J:Has h t X A)(ok:mT A)(f: ∀d j p' M,Has d t j (Dm A num)->bw X h j d->BV.ok d j.D ⟨p',M,Dk A num⟩->R (.T #[.slice p' (Dk A num).length M,.I (Ku A num),.I (Pb A num)]) d):
  Cl 156 #[.P t 0,.I num] h R:=by
 have K:=J;obtain⟨_,l,L,T,rfl,_,hS⟩:=J;have hl:=ok.le;rw[aD]at hl;unfold Dm Dk Ku Pb at f;refine tC.walk (ic T (λi s e w=>⟨_,_,rfl,aG.of λb' y=> ?_⟩) (λq=>⟨_,_,rfl,aG.of λb' y=> ?_⟩) ag)
 .rw[af (by rfl)];subst e;rw[qa,kz w]at f;dsimp only at f;have S:=T.ses i s w;have sw:=ok.at_ i _ (kz w);have Z:s.notes.length<=6:=by have:=sw.nl;rwa[show s.abs.notes.length=s.notes.length from aD _]at this
  refine ax.2 ⟨_,_,_,au S.di,?_⟩;subst y;dsimp only;have d':s.abs.notes=s.notes.map BV.b:=rfl;have oO: ∀G:fu,lR (L.map SC.abs) ((i:Int)+1) G=(L.map SC.abs).set i G:=λG=>by unfold lR;rw[show((i:Int)+1 - 1).toNat=i by omega]
  rw[oO,d',aD]at f;cases v:s.notes with
  |nil=>
   rw[v]at f;rw[af (by rfl)];have e':(L.map SC.abs).set i { s.abs with notes:= [] } =L.map SC.abs:=by
    refine vZ ?_;rw[kz w];congr 1
    unfold SC.abs;rw[v];rfl
   refine f h X none 0 ?_ (bw.refl _ _) ⟨.inl rfl,λu=>absurd rfl u,bU⟩;have:(List.drop 1 (List.map BV.b []))=([]:List (cG)):=rfl;rw[this,e'];exact K
  |cons x r=>
   have u:((((x::r).length:Nat):Int)==0)=false:=by simp only[bn,dz,fj];omega
   rw[ae (by rw[u];simp)];have h': ∀c,aP s.np c->c≠s.b:=λc g e=>by have H:=S.nl c g;rw[e,S.lb]at H;simp at H
   have O:=S.Ch;have U:=S.di;rw[v]at O f Z;have z:h[s.b]? =some (.C #[.I (s.num:Int),.U (s.token:Int),.B s.up,.B s.watch,.L s.kp s.kept.length s.kc,.slice s.np (x::r).length s.nc] 105 (0,0)):=by
    have:At h s:=U;unfold At cI.at at this;rwa[v]at this
   obtain⟨ab,c',B⟩:=O.addr bU;have C:=O;rw[B]at C;have f':=C.gB nB (i:=0) (x:=x) rfl;refine ax.2 ⟨_,_,_,au z,⟨ag,by simp only[bn];omega⟩,?_⟩;rw[B];refine ax.2 ⟨x.p,x.b.length,x.c,?_,ax.2 ⟨some (AA ab c'),(x::r).length,s.nc,?_,⟨ag,by simp only[bn];omega⟩,?_⟩⟩
   .have:=f'.1;rw[Nat.zero_mul,fy,fy]at this;rw[show Int.toNat 0*1=0 from rfl,fy];exact this
   .rw[<-B];exact au z
   have a':=C.sub (l:=1) (u:=(x::r).length) bU (bp _);rw[<-eL mD 1 nB (x::r),fv,lO mD 1 nB]at a';refine De (xs:=r) a'.iz bU (by simp only[bn]at Z;omega) λp3 c3 h3 o3 F Q=>⟨_,_,_,rfl,ax.2 ?_⟩
   have q3:=F.get z id;refine bk q3 bU λo r1 r2 r3=> ?_
   have P:Fr (λx=>x=s.b) h3 o:=Fr.of_eq r2 r3;have i':s.b<h.size:=aA U;have z3:=F.1;have I:Fr (λx=>x=s.b) h o:=(F.mono (λ_ _=>False.elim)).tt P;have kD: ∀c,X.D c->c≠s.b:=λc g e=>T.ap c _ (e▸S.lb) g
   have V: ∀n∈x::r,n.ok o X.D:=λn q=>(S.nd n (by rw[v];exact q)).frame I kD
   obtain⟨j,HH,st⟩:=T.notes (K':=r) (np':=p3) (nc':=c3) (E:=λ_=>False) hS w r1 (o3.frame P (λc g e=>bW (Q c g))) (λc g=> .inr (Q c g)) (I.mono (λ_ _ hx=> .inl hx)) (λc g=>g.elim) (λn q=>(V n (cv _ q)).mono (λc=> .inl));have g':BV.ok o j.D x:=(V x dp).mono st.mz;exact f o j x.p x.c ⟨_,HH⟩ st g'
 .rw[ae bU];subst y;dsimp only;rw[lQ (by rw[aD];exact q)]at f;rw[af (by rfl)];exact f h X none 0 K (bw.refl _ _) ⟨.inl rfl,λu=>absurd rfl u,bU⟩

end fu
end
section
variable {h:ai} {R:fO}
theorem uM.walk{t:Nat}(hv:Hl h t 1 λn' P _=> ∃(I:ct->Nat->Nat->Int->ai->Prop)(M:ct->Nat->Nat->Int->ai->Nat),I none 0 0 0 h/\∀(i:ct)(O o:Nat)(T:Int)(e:ai),I i O o T e->if(decide (T<(P:Int)))then Bd T P/\aN n' λa=>zX e (a.add (toNat T*1)) λp=>aN p λZ=>cI.LD e Z λo' p' q' r' u' t' s' x' w' v'=>bf e (.C #[.I 0,.U 0,.B false,.B false,.Z,.Z] 105) λb j'=>cI.ST j' (AA b 0) o' p' q' r' u' t' s' x' w' v' λk'=>aJ k' (AA b 4) (.Z) λl'=>aJ l' (AA b 5) (.Z) λJ=>aN p λa'=>oL J (a'.add 4) λy' Q _=> ∃(k:Int->ai->Prop)(K:Int->ai->Nat),k 0 J/\∀(c:Int)(f:ai),k c f->if(decide (c<(Q:Int)))then Bd c Q/\aN y' λb'=>cp.LD f (b'.add (toNat c*2)) λz' C' B' A'=>bf f (.C #[.U 0,.Z] 135) λB m'=>cp.ST m' (AA B 0) z' C' B' A' λg=>Hl g b 4 λs r q=>Hu g B 0 λj=>Hl g B 1 λF' E' D'=>Cl 54 #[.L F' E' D'] g λa6 n=>Vl a6 λI' H' G'=>Cc n B 0 (.U j)/\Cc n b 4 (.L s r q)/\bf n (.C #[.U j,.L I' H' G'] 135) λe' m=>Cc m B 0 (.U j)/\Cc m b 4 (.L s r q)/\aT Tryz.prog (Builtin.append_ #[102,102] 102 #[.L s r q,.L (Sa e' 0) 1 1]) m λa7 A=>Vl a7 λL' K' J'=>Cc A B 0 (.U j)/\aJ A (AA b 4) (.L L' K' J') λC=>(k (wrap .i64 (c+1)) C/\K (wrap .i64 (c+1)) C<K c f)else aN p λc'=>oL f (c'.add 5) λM' S _=> ∃(l:Int->ai->Prop)(L:Int->ai->Nat),l 0 f/\∀(d:Int)(H:ai),l d H->if(decide (d<(S:Int)))then Bd d S/\aN M' λd'=>oL H (d'.add (toNat d*1)) λQ' P' O'=>Hl H b 5 λw v u=>Cl 54 #[.L Q' P' O'] H λa8 D=>Vl a8 λT' S' R'=>Cc D b 5 (.L w v u)/\bf D (.C #[.L T' S' R'] 33) λf' E=>Cc E b 5 (.L w v u)/\aT Tryz.prog (Builtin.append_ #[103,103] 103 #[.L w v u,.L (Sa f' 0) 1 1]) E λa9 h'=> ∃X V U,a9=.L X V U/\aJ h' (AA b 5) (.L X V U) λF=>(l (wrap .i64 (d+1)) F/\L (wrap .i64 (d+1)) F<L d H)else cI.LD H (AA b 0) λU' V' X' Z' a2 a1 a0 a5 a4 a3=>bf H (.C #[.I U',.U V',.B X',.B Z',.L a2 a1 a0,.L a5 a4 a3] 105) λg' i'=>aT Tryz.prog (Builtin.append_ #[108,108] 108 #[.L i O o,.L (Sa g' 0) 1 1]) i' λb0 G=> ∃z y x,b0=.L z y x/\(I z y x (wrap .i64 (T+1)) G/\M z y x (wrap .i64 (T+1)) G<M i O o T e)else R (.L i O o) e):Cl 33 #[.P t 0] h R:=aS [(16,.loop [(3,.one (.slice)),(18,.one (.int .i64))]),(35,.loop [(32,.one (.int .i64))]),(46,λ_=>pN 12),(52,.loop [(53,.one (.int .i64))]),(63,λ_=>pN 8)] Tryz.func33 hv

end
section
open Go.fV
namespace fu
open mi
variable {h H d:ai} {t:Nat} {X:Ft} {R:fO} {p:ct} {c i:Nat} {l:QV} {D:Nat→Prop} {L:List SC} {A:List fu}
variable {s:SC} {g:ai} {b:Nat} {E:Nat->Prop} {K:ai->Prop}
abbrev MK(s:SC):List Value:= [.int .i64 (s.num:Int),.int .u64 (s.token:Int),.bool s.up,.bool s.watch,.slice s.kp s.kept.length s.kc,.slice s.np s.notes.length s.nc]
theorem Hr(s:SC):(MK s).length=6:=rfl
theorem tS:oC Tryz.prog 108 105 6 72 (.agg #[.I 0,.U 0,.B false,.B false,.Z,.Z]):=⟨dA,dA,rfl⟩
theorem WE:Tryz.prog.underlying 108=some (.slice 105):=dA
structure Ht (h:ai) (D:Nat->Prop) (s:SC):Prop where
 k:Row h s.kp (s.kept.flatMap AV.enc)
 kD:s.kept≠ []->∀y,aP s.kp y->D y
 kd: ∀a∈s.kept,a.v.ok h D
 n:Row h s.np (s.notes.flatMap mD)
 nD:s.notes≠ []->∀y,aP s.np y->D y
 nd: ∀n∈s.notes,n.ok h D
theorem Ht.frame{Q:Nat->Prop}(j:Ht h D s)(f:Fr Q h H)(k: ∀y,D y->¬Q y):Ht H D s:=by
 refine⟨?_,j.kD,λa n=>(j.kd a n).frame f k,?_,j.nD,λa n=>(j.nd a n).frame f k⟩
 .by_cases e:s.kept= []
  .rw[e];exact .inl rfl
  .exact j.k.frame f (λa m=>k _ (j.kD e _ ⟨a,m,rfl⟩))
 .by_cases e:s.notes= []
  .rw[e];exact .inl rfl
  .exact j.n.frame f (λa m=>k _ (j.nD e _ ⟨a,m,rfl⟩))
theorem Ht.mono{D':Nat->Prop}(f:Ht h D s)(j: ∀y,D y->D' y):Ht h D' s:=
 ⟨f.k,λe y m=>j y (f.kD e y m),λa k=>(f.kd a k).mono j,f.n,λe y m=>j y (f.nD e y m),λa k=>(f.nd a k).mono j⟩
def SL(d h:ai)(p:ct)(e c:Nat)(A:List fu):Prop:=
 ∃(a:List SC)(D:Nat->Prop),e=a.length/\Own h p e c 6 (a.flatMap MK)/\a.map SC.abs=A/\(∀x∈a,Ht h D x)/\(∀y,D y->d.size<=y/\y<h.size/\¬aP p y)/\∀y,aP p y->d.size<=y
theorem SL.len{a:Nat}(e:SL d h p a c A):a=A.length:=by
 obtain⟨x,D,f,_,j,_⟩:=e;rw[f,<-j,aD]
structure Cp (g h:ai) (b:Nat) (s:SC) (E:Nat->Prop):Prop where
 fr:Fr No g h
 di:cI.at h b (s.num:Int) (s.token:Int) s.up s.watch s.kp s.kept.length s.kc s.np s.notes.length s.nc
 gb:g.size<=b
 ko:Own h s.kp s.kept.length s.kc 2 (s.kept.flatMap AV.enc)
 kg: ∀y,aP s.kp y->g.size<=y/\y≠b/\¬E y
 no:Own h s.np s.notes.length s.nc 1 (s.notes.flatMap mD)
 ng: ∀y,aP s.np y->g.size<=y/\y≠b/\¬E y/\¬aP s.kp y
 kd: ∀a∈s.kept,a.v.ok h E
 nd: ∀n∈s.notes,n.ok h E
 eg: ∀y,E y->g.size<=y/\y<h.size/\y≠b
theorem Cp.answer{a:AV}(C:Cp g h b s E)(hr:Row h a.v.p (bc a.v.b))(P':a.v.b.length<=1000)(O':s.kept.length<=1000)(hk: ∀H s' E',Cp g H b s' E'->s'.abs= { s.abs with kept:=s.abs.kept++ [a.abs] } ->K H):
  bf h (.C #[.U 0,.Z] 135) λm B'=>
     aJ B' (AA m 0) (.U (a.id:Int)) λC'=>
     aJ C' (AA m 1) (.L a.v.p a.v.b.length a.v.c) λw=>
     ∃(M:ct)(J I:Nat),aU w (AA b 4)=some (.L M J I)/\
     ∃(T:Int),aU w (AA m 0)=some (.U T)/\
     ∃(m':ct)(l' k':Nat),aU w (AA m 1)=some (.L m' l' k')/\
     Cl 54 #[.L m' l' k'] w λu' S=>
     ∃(p':ct)(o' n':Nat),u'=.L p' o' n'/\
     aU S (AA m 0)=some (.U T)/\
     aU S (AA b 4)=some (.L M J I)/\
     bf S (.C #[.U T,.L p' o' n'] 135) λw' U=>
     aU U (AA m 0)=some (.U T)/\
     aU U (AA b 4)=some (.L M J I)/\
     aT Tryz.prog (Builtin.append_ #[102,102] 102 #[.L M J I,.L (Sa w' 0) 1 1]) U λK' f'=>
     ∃(t':ct)(r' q':Nat),K'=.L t' r' q'/\
     aU f' (AA m 0)=some (.U T)/\
     aJ f' (AA b 4) (.L t' r' q') λD'=>K D':=by
 refine cp.new λb1 M' L' z r=> ?_
 have V:=r.get C.di id;have zb:b<h.size:=aA C.di;refine⟨_,_,_,au V,_,au z,_,_,_,au z,gE (hr.frame r bX) rfl ag λP f j i' u x'=>⟨_,_,_,rfl,au (u.get z id),au (u.get V id),cT ?_⟩⟩;have Q:Fr No j (j.push (.C #[.U (a.id:Int),.L P a.v.b.length f] 135)):=Fr.push _ _;have j':Row (j.push (.C #[.U (a.id:Int),.L P a.v.b.length f] 135)) (Sa j.size 0) (AV.enc ⟨a.id,⟨P,f,a.v.b⟩⟩):=ju (cs:=AV.enc ⟨a.id,⟨P,f,a.v.b⟩⟩);have J':(j.push (.C #[.U (a.id:Int),.L P a.v.b.length f] 135)).size=j.size+1:=cY _;generalize j.push (.C #[.U (a.id:Int),.L P a.v.b.length f] 135)=z' at Q j' J'⊢;have O:=u.tt Q;have e':=r.tt O;have g':=O.get V id;have c':=O.get z id;refine⟨au c',au g',?_⟩;have S':=r.1;have T':=u.1;have zg:=C.fr.1;have h': ∀y,aP s.kp y->y≠b:=λy hy=>(C.kg y hy).2.1
 have Z: ∀y,aP s.kp y->y<h.size:=λy hy=>C.ko.dI hy
 refine dR tA uA (C.ko.frame e' bX) j' rfl (λu' hv=>by simp at hv;rcases hv with rfl|rfl<;>rfl) ag ag ?_;intro b' d' A' H' _ F y';have v':=F.get c' (λhx=>bW (Z _ hx));refine⟨_,_,_,rfl,au v',?_⟩;have F':=F.get g' (λhx=>h' _ hx rfl);refine bk F' bU λn q1 q2 q3=> ?_
 have v:Fr (λx=>x=b) A' n:=Fr.of_eq q2 q3;have q:Fr (λx=>x=b\/aP s.kp x) h n:=(e'.mono (λ_ _=>False.elim)).tt ((F.mono (λ_ _ hx=> .inr hx)).tt (v.mono (λ_ _ hx=> .inl hx)));have Q':=F.1;have R':=v.1;have a': ∀y,aP b' y->aP s.kp y\/z'.size<=y:=y';have B: ∀y,aP P y->h.size<=y/\y<j.size:=λy hy=>⟨bW (x' y hy),i'.dI hy⟩
 have G':Own n P a.v.b.length f 1 (bc a.v.b):=((i'.frame Q bX).frame F (λy hy hx=>iJ (B y hy) (Z y hx))).frame v (λy hy e=>bW (B y hy));have eQ: ∀y,E y->¬(y=b\/aP s.kp y):=λy hy hx=>hx.elim (C.eg y hy).2.2 (λhx=>(C.kg y hx).2.2 hy)
 have I':=H'.frame v (λy hy e=>(a' y hy).elim (λhx=>h' y hx e) (λhx=>ag));refine hk n { s with kept:=s.kept++ [⟨a.id,⟨P,f,a.v.b⟩⟩],kp:=b',kc:=d' } (λy=>E y\/aP P y) ⟨?_,?_,C.gb,?_,?_,?_,?_,?_,?_,?_⟩ ?_
 .exact C.fr.step q (λy hy hx=>hx.elim (λe=>bW C.gb) (λhx=>bW ((C.kg y hx).1)))
 .show n[b]? =_;rw[q1];dsimp only;rw[aB];rfl
 .show Own n b' (s.kept++ [_]).length d' 2 ((s.kept++ [_]).flatMap AV.enc);rw[aB,cS];simpa using I'
 .intro y hy;rcases a' y hy with hx|hx
  .exact⟨(C.kg y hx).1,(C.kg y hx).2.1,λo=>o.elim (C.kg y hx).2.2 (λk=>iJ (B y k) (Z y hx))⟩
  .exact⟨ag,ag,λo=>o.elim (λk=>bW ((C.eg y k).2.1)) (λk=>bW (B y k))⟩
 .exact C.no.frame q (λy hy hx=>hx.elim (C.ng y hy).2.1 (C.ng y hy).2.2.2)
 .intro y hy;have G:=C.ng y hy;have ly:y<h.size:=C.no.dI hy;exact⟨G.1,G.2.1,λo=>o.elim G.2.2.1 (λk=>bW (B y k)),λhx=>(a' y hx).elim G.2.2.2 (λk=>ag)⟩
 .intro x hx;rcases bH.1 hx with hx|hx
  .exact((C.kd x hx).frame q eQ).mono (λy=> .inl)
  .simp at hx;subst hx;exact BV.kT G' (λy=> .inr)
 .intro x hx;exact((C.nd x hx).frame q eQ).mono (λy=> .inl)
 .rintro y (hy|hy)
  .exact⟨(C.eg y hy).1,bW ((C.eg y hy).2.1),(C.eg y hy).2.2⟩
  .exact⟨bW (B y hy),bW (B y hy),bW (B y hy)⟩
 .unfold SC.abs;dsimp only;rw[ba];rfl
theorem Cp.note{n:BV}(C:Cp g h b s E)(hr:Row h n.p (bc n.b))(z':n.b.length<=1000)(y':s.notes.length<=1000)(hk: ∀H s' E',Cp g H b s' E'->s'.abs= { s.abs with notes:=s.abs.notes++ [n.b] } ->K H):
  ∃(u:ct)(r T:Nat),aU h (AA b 5)=some (.L u r T)/\
       Cl 54 #[.L n.p n.b.length n.c] h λw' O=>
       ∃(f':ct)(e' d':Nat),w'=.L f' e' d'/\
       aU O (AA b 5)=some (.L u r T)/\
       bf O (.C #[.L f' e' d'] 33) λj' Q=>
       aU Q (AA b 5)=some (.L u r T)/\
       aT Tryz.prog (Builtin.append_ #[103,103] 103 #[.L u r T,.L (Sa j' 0) 1 1]) Q λx' o'=>
       ∃(i':ct)(h' g':Nat),x'=.L i' h' g'/\
       aJ o' (AA b 5) (.L i' h' g') λp'=>K p':=by
 have zb:b<h.size:=aA C.di;refine⟨_,_,_,au C.di,gE hr rfl ag λP f j b' w k'=>⟨_,_,_,rfl,au (w.get C.di id),cT ?_⟩⟩;have z:Fr No j (j.push (.C #[.L P n.b.length f] 33)):=Fr.push _ _;have c':Row (j.push (.C #[.L P n.b.length f] 33)) (Sa j.size 0) (mD ⟨P,f,n.b⟩):=ju (cs:=mD ⟨P,f,n.b⟩);have v':(j.push (.C #[.L P n.b.length f] 33)).size=j.size+1:=cY _;generalize j.push (.C #[.L P n.b.length f] 33)=m' at z c' v'⊢;have v:=w.tt z;have U:=v.get C.di id;refine⟨au U,?_⟩;have D':=w.1;have zg:=C.fr.1;have a': ∀y,aP s.np y->y≠b:=λy hy=>(C.ng y hy).2.1
 have V: ∀y,aP s.np y->y<h.size:=λy hy=>C.no.dI hy
 refine dR tN uN (C.no.frame v bX) c' rfl (λA' S=>by simp at S;subst S;rfl) ag ag ?_;intro I J n' t' _ o l';refine⟨_,_,_,rfl,?_⟩;have q':=o.get U (λhx=>a' _ hx rfl);refine bk q' bU λk q1 q2 q3=> ?_
 have q:Fr (λx=>x=b) n' k:=Fr.of_eq q2 q3;have F:Fr (λx=>x=b\/aP s.np x) h k:=(v.mono (λ_ _=>False.elim)).tt ((o.mono (λ_ _ hx=> .inr hx)).tt (q.mono (λ_ _ hx=> .inl hx)));have B':=o.1;have C':=q.1;have Z: ∀y,aP I y->aP s.np y\/m'.size<=y:=l';have B: ∀y,aP P y->h.size<=y/\y<j.size:=λy hy=>⟨k' y hy,b'.dI hy⟩
 have r':Own k P n.b.length f 1 (bc n.b):=((b'.frame z bX).frame o (λy hy hx=>iJ (B y hy) (V y hx))).frame q (λy hy e=>bW (B y hy));have M: ∀y,E y->¬(y=b\/aP s.np y):=λy hy hx=>hx.elim (C.eg y hy).2.2 (λhx=>(C.ng y hx).2.2.1 hy)
 have u':=t'.frame q (λy hy e=>(Z y hy).elim (λhx=>a' y hx e) (λhx=>ag));refine hk k { s with notes:=s.notes++ [⟨P,f,n.b⟩],np:=I,nc:=J } (λy=>E y\/aP P y) ⟨?_,?_,C.gb,?_,?_,?_,?_,?_,?_,?_⟩ ?_
 .exact C.fr.step F (λy hy hx=>hx.elim (λe=>bW C.gb) (λhx=>bW ((C.ng y hx).1)))
 .show k[b]? =_;rw[q1];dsimp only;rw[aB];rfl
 .exact C.ko.frame F (λy hy hx=>hx.elim (C.kg y hy).2.1 (λa=>(C.ng y a).2.2.2 hy))
 .intro y hy;have G:=C.kg y hy;have ly:y<h.size:=C.ko.dI hy;exact⟨G.1,G.2.1,λm=>m.elim G.2.2 (λa=>bW (B y a))⟩
 .show Own k I (s.notes++ [_]).length J 1 ((s.notes++ [_]).flatMap mD);rw[aB,cS];simpa using u'
 .intro y hy;rcases Z y hy with hx|hx
  .exact⟨(C.ng y hx).1,(C.ng y hx).2.1,λm=>m.elim (C.ng y hx).2.2.1 (λa=>iJ (B y a) (V y hx)),(C.ng y hx).2.2.2⟩
  .exact⟨ag,ag,λm=>m.elim (λa=>bW ((C.eg y a).2.1)) (λa=>bW (B y a)),λa=>bW (C.ko.dI a)⟩
 .intro x hx;exact((C.kd x hx).frame F M).mono (λy=> .inl)
 .intro x hx;rcases bH.1 hx with hx|hx
  .exact((C.nd x hx).frame F M).mono (λy=> .inl)
  .simp at hx;subst hx;exact BV.kT r' (λy=> .inr)
 .rintro y (hy|hy)
  .exact⟨(C.eg y hy).1,bW ((C.eg y hy).2.1),(C.eg y hy).2.2⟩
  .exact⟨bW (B y hy),bW (B y hy),bW (B y hy)⟩
 .unfold SC.abs;dsimp only;rw[ba];rfl
theorem Bu(q':Has h t X A)(ok:mT A)(hk: ∀H p' l' c',SL h H p' l' c' A->Fr No h H->R (.L p' l' c') H):Cl 33 #[.P t 0] h R:=by
 obtain⟨_,l,L,TB,rfl,_,hS⟩:=q';have hl:=ok.le;rw[aD]at hl;obtain⟨tp,tc,k',C',_⟩:=TB.di;refine uM.walk ⟨_,_,_,au k',?_⟩;refine⟨λop V U i h1=> ∃k:Nat,i=(k:Int)/\k<=L.length/\SL h h1 op V U ((L.map SC.abs).take k)/\Fr No h h1,λ_ _ _ i _=>L.length - i.toNat,⟨0,rfl,ag,⟨[],λ_=>False,rfl,.nil rfl rfl rfl rfl,rfl,(λx hx=>by cases hx),(λy hy=>hy.elim),λy ⟨a,e,_⟩=>by cases e⟩,Fr.refl _ _⟩,?_⟩;rintro op V U _ g ⟨k,rfl,H',O,F⟩;have r':=TB.on F;have I':=F.get k' id;have o':=C'.frame F bX;have A':=O.len;rw[bA,aD]at A';by_cases v':k<L.length
 .have q1:(k:Int)<(L.length:Int):=ag
  simp only[q1,bF,bm,aH];have u:L[k]? =some L[k]:=aj v';generalize L[k]=s at u;have w:=r'.ses k s u;have sw:=ok.at_ k _ (kz u);have kl:s.kept.length<=6:=by have:=sw.kl;rwa[show s.abs.kept.length=s.kept.length from aD _]at this
  have nl:s.notes.length<=6:=by have:=sw.nl;rwa[show s.abs.notes.length=s.notes.length from aD _]at this
  have kb: ∀a∈s.kept,a.v.b.length<=1000:=λa f=>(sw.kd a.abs (bz f)).2
  have nb: ∀a∈s.notes,a.b.length<=1000:=λa f=>by have:=(sw.nd a.b (bz f)).2;omega
  obtain⟨ab,D',rfl⟩:=o'.addr ag;refine⟨⟨by first|trivial|omega,by first|trivial|omega⟩,ax.2 ⟨some (AA s.b 0),?_,ax.2 ?_⟩⟩
  .rw[cE];exact o'.cell (by rw[aL,u];rfl)
  refine cI.ld w.di (cI.new λb h8 eb h' f8=> ?_);refine bk h' bU λh9 a1 a2 a3=>bk a1 bU λf' b1 b2 b3=>ax.2 ?_
  have Q:Fr No g f':=f8.step ((Fr.of_eq (S:=λx=>x=b) a2 a3).tt (Fr.of_eq b2 b3)) (λy hy e=>ag);have d':=w.frame Q (λ_ _ _ _ _=>id) bX;refine⟨_,_,_,au d'.di,?_⟩;have b':Cp g f' b ⟨b,s.num,s.token,s.up,s.watch, [],none,0, [],none,0⟩ (λ_=>False):=
   ⟨Q,b1,ag,.nil rfl rfl rfl rfl,(λy ⟨a,e,_⟩=>by cases e),.nil rfl rfl rfl rfl,(λy ⟨a,e,_⟩=>by cases e),(λa f=>by cases f),(λa f=>by cases f),λy hy=>hy.elim⟩
  refine⟨λi H=> ∃(j:Nat)(S:SC)(E:Nat->Prop),i=(j:Int)/\j<=s.kept.length/\Cp g H b S E/\S.abs=⟨s.num,s.token,s.up,s.watch,s.abs.kept.take j, []⟩,λi _=>s.kept.length - i.toNat,⟨0,_,_,rfl,ag,b',rfl⟩,?_⟩;clear b' d' Q b1 b2 b3 a1 a2 a3 h' f8;rintro _ F' ⟨j,S,E,rfl,hj,C,n⟩;have z:=w.frame C.fr (λ_ _ _ _ _=>id) bX;by_cases I:j<s.kept.length
  .have q:(j:Int)<(s.kept.length:Int):=ag
   simp only[q,bF,bm,aH];have f:s.kept[j]? =some s.kept[j]:=aj I;generalize s.kept[j]=a at f;have Z:=z.xw;obtain⟨J',K',i'⟩:=Z.addr ag;rw[i']at Z;refine⟨⟨by first|trivial|omega,by first|trivial|omega⟩,?_⟩;rw[i'];refine ax.2 (cp.DZ (Z.gB hY f) ?_);have B':S.kept.length=j:=by
    have:=cf (λx=>x.kept.length) n;have P:S.abs.kept.length=S.kept.length:=aD _;dsimp only at this;rw[P,bA]at this;have e2:s.abs.kept.length=s.kept.length:=aD _;omega
   refine C.answer (z.kd a (aZ f)).row (kb a (aZ f)) ag λs' a' M J T=> ?_
   rw[bJ ag ag];refine⟨⟨j+1,a',M,ag,ag,J,?_⟩,?_⟩
   .rw[T,n];dsimp only;congr 1
    rw[bO,show s.abs.kept[j]? =some a.abs by show(s.kept.map AV.abs)[j]? =_;rw[aL,f];rfl];rfl
   .show s.kept.length - Int.toNat ((j:Int)+1)<s.kept.length - Int.toNat (j:Int);omega
  .have q: ¬(j:Int)<(s.kept.length:Int):=ag
   simp only[q,bu,ar,aQ];refine ax.2 ⟨_,_,_,au z.di,?_⟩;have g':S.abs=⟨s.num,s.token,s.up,s.watch,s.abs.kept,s.abs.notes.take 0⟩:=by
    rw[n,bE (by have:s.abs.kept.length=s.kept.length:=aD _;omega)];rfl
   refine⟨λi H=> ∃(j:Nat)(S:SC)(E:Nat->Prop),i=(j:Int)/\j<=s.notes.length/\Cp g H b S E/\S.abs=⟨s.num,s.token,s.up,s.watch,s.abs.kept,s.abs.notes.take j⟩,λi _=>s.notes.length - i.toNat,⟨0,S,E,rfl,ag,C,g'⟩,?_⟩;clear C z n g' hj I q;rintro _ t' ⟨j,S,E,rfl,hj,C,n⟩;have e':=w.frame C.fr (λ_ _ _ _ _=>id) bX;by_cases I:j<s.notes.length
   .have q:(j:Int)<(s.notes.length:Int):=ag
    simp only[q,bF,bm,aH];have f:s.notes[j]? =some s.notes[j]:=aj I;generalize s.notes[j]=a at f;have v:=e'.Ch;obtain⟨L',M',j'⟩:=v.addr ag;rw[j']at v;refine⟨⟨by first|trivial|omega,by first|trivial|omega⟩,?_⟩;rw[j'];refine ax.2 ⟨a.p,a.b.length,a.c,?_,?_⟩
    .have:=(v.gB nB f).1;rwa[fy]at this
    have B':S.notes.length=j:=by
     have:=cf (λx=>x.notes.length) n;have P:S.abs.notes.length=S.notes.length:=aD _;dsimp only at this;rw[P,bA]at this;have e2:s.abs.notes.length=s.notes.length:=aD _;omega
    refine C.note (e'.nd a (aZ f)).row (nb a (aZ f)) ag λs' a' M J T=> ?_
    rw[bJ ag ag];refine⟨⟨j+1,a',M,ag,ag,J,?_⟩,?_⟩
    .rw[T,n];dsimp only;congr 1
     rw[bO,show s.abs.notes[j]? =some a.b by show(s.notes.map BV.b)[j]? =_;rw[aL,f];rfl];rfl
    .show s.notes.length - Int.toNat ((j:Int)+1)<s.notes.length - Int.toNat (j:Int);omega
   .have q: ¬(j:Int)<(s.notes.length:Int):=ag
    simp only[q,bu,ar,aQ];have u':S.abs=s.abs:=by
     rw[n,bE (by have:s.abs.notes.length=s.notes.length:=aD _;omega)];rfl
    refine cI.ld C.di ?_;obtain⟨xs,D,w',m',x',y',o,n'⟩:=O;have v:=m'.frame C.fr bX;refine jn tS WE v rfl (λP' hv=>by simp at hv;rcases hv with rfl|rfl|rfl|rfl|rfl|rfl<;>rfl) ag ag ?_;intro O' E' G' z' B G;refine⟨_,_,_,rfl,?_⟩;rw[bJ ag ag];have Q':=C.fr.1;have zg:=F.1;have r: ∀y,aP op y->y<g.size:=λy hy=>m'.dI hy
    refine⟨⟨k+1,ag,ag,⟨xs++ [S],λy=>D y\/E y\/aP S.kp y\/aP S.np y,by rw[aB,w'];rfl,?_,?_,?_,?_,?_⟩,?_⟩,?_⟩
    .rw[cS];simpa using z'
    .rw[ba,x',bO,aL,u];show _++ [S.abs]=_++ [s.abs];rw[u']
    .intro x hx;rcases bH.1 hx with hx|hx
     .refine(((y' x hx).frame C.fr bX).frame B (λy hy=>(o y hy).2.2)).mono (λy=> .inl)
     .simp at hx;subst hx;refine Ht.frame (h:=t') ⟨C.ko.iz,λ_ y hy=> .inr (.inr (.inl hy)),λa f=>(C.kd a f).mono (λy hy=> .inr (.inl hy)),C.no.iz,λ_ y hy=> .inr (.inr (.inr hy)),λa f=>(C.nd a f).mono (λy hy=> .inr (.inl hy))⟩ B ?_;rintro y (hy|hy|hy|hy) m
      .exact(o y hy).2.2 m
      .have:=r y m;have:=(C.eg y hy).1;omega
      .have:=r y m;have:=(C.kg y hy).1;omega
      .have:=r y m;have:=(C.ng y hy).1;omega
    .have R':=B.1;rintro y (hy|hy|hy|hy)
     .exact⟨(o y hy).1,bW ((o y hy).2.1),λm=>(G y m).elim (o y hy).2.2 (λh2=>bW ((o y hy).2.1))⟩
     .have a:=C.eg y hy;exact⟨ag,ag,λm=>(G y m).elim (λh2=>bW (r y h2)) (λh2=>ag)⟩
     .have a:=C.kg y hy;have b:=C.ko.dI hy;exact⟨ag,ag,λm=>(G y m).elim (λh2=>bW (r y h2)) (λh2=>ag)⟩
     .have a:=C.ng y hy;have b:=C.no.dI hy;exact⟨ag,ag,λm=>(G y m).elim (λh2=>bW (r y h2)) (λh2=>ag)⟩
    .intro y hy;rcases G y hy with h2|h2
     .exact n' y h2
     .omega
    .exact(F.tt C.fr).step B (λy hy m=>bW (n' y m))
    .show L.length - Int.toNat ((k:Int)+1)<L.length - Int.toNat (k:Int);omega
 .have q1: ¬(k:Int)<(L.length:Int):=ag
  simp only[q1,bu,ar,aQ];rw[bE (by rw[aD];omega)]at O;exact hk g op V U O F

end fu
end
section
open Go.fV
namespace dK
open jG (Ev dt lC Uh)
open mi
variable {h:ai} {R:fO} {k:Nat}
theorem KC{e:Ev}{t sq:Nat}(M:Mk h k e t sq)(i: hH h R (.agg #[.B e.lE,.U e.node,.U e.gL,.S e.host,.S e.jZ,.U (t:Int),.U (sq:Int)])):
  Cl 182 #[pt k] h R:=by
 refine xM.walk (ah.box λb j E g f=> ?_);have m:=f.get M id;refine aG.of λJ d=>⟨_,au m,?_⟩
 subst d;dsimp only;rw[dy];refine⟨_,au m,_,au m,_,au m,_,au m,_,au m,_,au m,_,au m,ah.set g λH a A c=>ah.ld a (i H (f.fresh (Fr.of_eq (S:=λy=>y=b) A c) (λy e=>ag)))⟩

end dK
end
section
namespace dK
open jG (Ev dt lC)
variable {h H:ai} {R:fO} {s k:Nat} {X:Ft} {I:oN}
def JB(x:Ev):Prop:=dt x=true/\x≠Ev.zero
instance (x : Ev) : Decidable (JB x) := by unfold JB; infer_instance
theorem yo(x:Ev)(j:JB x->∀H b,Mk H b x 0 0->h.size<=b->Fr No h H->R (.T #[pt b,.I 0]) H)(K: ¬JB x->hH h R (.T #[.pointer none,.I 3])):Cl 11 #[lC x] h R:=by
 refine MG.walk (aw.box λb l E g F=>aG.of λJ e=>aw.ld g (jG.fM x λd f=>⟨_,rfl,?_⟩));have i:=f.get g id;cases c:dt x with
 |false=>
  rw[gi];subst e;exact K (λm=>by rw[m.1]at c;cases c) d (F.tt f)
 |true=>
  rw[dy];refine aw.ld i ⟨_,jG.yA (y:=Ev.zero) rfl rfl,?_⟩;subst e;by_cases a:x=Ev.zero
  .rw[av a];dsimp only;rw[af rfl];exact K (λm=>m.2 a) d (F.tt f)
  .rw[aC a];dsimp only;rw[dy];refine aw.ld i (cT (j ⟨c,a⟩ _ _ bZ (db F.1 f.1) ((F.tt f).tt (Fr.push _ _))))
theorem jj(x:Ev)(k1:JB x->∀H s X I,Pt H s X I (mG x)->Nb h X H->R (.T #[pt s,.I 0]) H)(k2: ¬JB x->hH h R (.T #[.pointer none,.I 3])):Cl 5 #[lC x] h R:=by
 refine MF.walk (aw.box λc' g eb hb l=>aw.ld hb (yo x (λu f k O g2 F=>⟨_,_,rfl,?_⟩) (λu f F=>⟨_,_,rfl,?_⟩)))
 .rw[dy];refine nE.jj 4800 1600 (λ_ Z p m P g3 a' S=>⟨_,_,rfl,?_⟩) (λe=>absurd e dS);rw[dy];refine fu.jj λh4 t X0 G T u4=>⟨_,rfl,gO.jj λh5 r X1 J U=>⟨_,rfl,gY.jj λh6 c X2 K v=>⟨_,rfl,iB.jj λb o X3 M V u7=>⟨_,rfl,cT ?_⟩⟩⟩⟩
  have n:Fr No b (b.push (.C #[.P t 0,.P r 0,.P c 0,.P o 0,.P p 0,.P k 0,.U 0,.I 0] 64)):=Fr.push _ _;have w:(b.push (.C #[.P t 0,.P r 0,.P c 0,.P o 0,.P p 0,.P k 0,.U 0,.I 0] 64))[b.size]? =_:=bZ;have z8:(b.push (.C #[.P t 0,.P r 0,.P c 0,.P o 0,.P p 0,.P k 0,.U 0,.I 0] 64)).size=b.size+1:=cY _;generalize b.push (.C #[.P t 0,.P r 0,.P c 0,.P o 0,.P p 0,.P k 0,.U 0,.I 0] 64)=q at n w z8⊢;have E:=V.tt n;have D:=v.fr.tt E;have C:=U.fr.tt D;have A:=T.tt C;have z:=S.tt A;have F8:=l.tt (F.tt z);have z1:=l.1;have z2:=F.1;have z3:=S.1;have z4:=T.1;have z5:=U.fr.1;have z6:=v.fr.1;have z7:=V.1;have lp:=P.lt;have lk:=aA O
  let d:Nat->Ft:=λi=>match i with
   |0=>X0|1=>X1|2=>X2|3=>X3
   |4=>⟨λy=>y=p\/y=m,λ_=>False⟩
   |5=>⟨λy=>y=k,λ_=>False⟩
   |6=>⟨λy=>y=b.size,λ_=>False⟩
   |_=>⟨λ_=>False,λ_=>False⟩
  let L:Nat->Nat:=λi=> [Z.size,h4.size,h5.size,h6.size,f.size,g.size].getD i b.size
  let hi:Nat->Nat:=λi=> [h4.size,h5.size,h6.size,b.size,Z.size,f.size].getD i q.size
  have B: ∀i y,In (d i) y->L i<=y/\y<hi i:=λi y hy=>by
   rcases i with _|_|_|_|_|_|_|i
   .exact⟨u4 y hy,G.lt y hy⟩
   .exact⟨U.ge y hy,J.lt y hy⟩
   .exact⟨v.ge y hy,K.lt y hy⟩
   .exact⟨u7 y hy,M.lt y hy⟩
   .rcases hy with hy|hy
    .rcases hy with rfl|rfl
     .exact⟨g3,lp.1⟩
     .exact⟨a',lp.2⟩
    .exact hy.elim
   .rcases hy with hy|hy
    .have hy:y=k:=hy;exact⟨hy▸g2,hy▸lk⟩
    .exact hy.elim
   .rcases hy with hy|hy
    .have hy:y=b.size:=hy;exact⟨by show b.size<=y;omega,by show y<q.size;omega⟩
    .exact hy.elim
   .rcases hy with hy|hy<;>exact hy.elim
  refine k1 u q b.size ⟨λy=> ∃i,(d i).M y,λy=> ∃i,(d i).D y⟩ ⟨t,r,c,o,p,k⟩ ⟨d,λi=> ?_,λi j y b' hy hz=> ?_,λ_=>ff,λ_=>ff⟩ ⟨F8,λy hy=> ?_⟩
  .rcases i with _|_|_|_|_|_|_|i
   .exact G.frame C bX
   .exact J.on D
   .exact K.on E
   .exact iB.Bh.on ⟨[],M,iB.okB.nil⟩ n
   .exact⟨m,P.frame A id id,λy=>⟨ff,id⟩⟩
   .exact⟨z.get O id,λy=>⟨ff,id⟩⟩
   .exact⟨w,λy=>⟨ff,id⟩⟩
   .exact λy hy=>hy.elim id id
  .have g:=B i y hy;have f:=B j y hz;have Q: ∀i,¬In (d (i+7)) y:=λi hy=>hy.elim id id
   rcases i with _|_|_|_|_|_|_|i<;>first|exact Q i hy|(rcases j with _|_|_|_|_|_|_|j<;>first|exact Q j hz|exact b' rfl|(simp only[L,hi,List.getD_cons_zero,List.getD_cons_succ,List.getD_nil]at g f;omega))
  .have key: ∀i,In (d i) y->h.size<=y:=λi a=>by
    have g:=(B i y a).1;rcases i with _|_|_|_|_|_|_|i<;>(simp only[L,List.getD_cons_zero,List.getD_cons_succ,List.getD_nil]at g;omega)
   rcases hy with⟨i,a⟩|⟨i,a⟩
   .exact key i (.inl a)
   .exact key i (.inr a)
 .rw[gi];exact k2 u f (l.tt F)

end dK
end
section
variable {h:ai} {R:fO}
variable {s o:Nat} {a:ck.S}
theorem ML.walk{n:Int}{l:Int}(H:R (.U (if 1099511627776<wrap .u64 (n+l)then 1099511627776 else wrap .u64 (n+l))) h):Cl 147 #[.U n,.U l] h R:=aS [] Tryz.func147 H
theorem Pw.walk{S:aw.S}(M:bf h (.C S.arr 29) λb A=>ah.NW A λc F=>ah.NW F λd r=>Hp r s 5 λV=>Cl 182 #[.pointer V] r λh' I=>ah.EX λv=>h'=v.agg/\ah.NW I λB K=>ah.du K (AA B 0) v λu=>aw.cC u (AA B 0) λX=>Cl 11 #[X.agg] u λi' H=> ∃t T,i'=.T #[.pointer t,.I T]/\if(T !=0)then ah.du H (AA c 0) ah.S.z λL=>ah.du L (AA d 0) ah.S.z λk=>ah.cC k (AA c 0) λO=>ah.cC k (AA d 0) λQ=>R (.T #[O.agg,Q.agg,.I T]) k else aG (λ(Z:Bool) (i:ai)=>aG (λ(m:ai)=>Hu m s 6 λc'=>Cl 184 #[.pointer t,.U c'] m λj' C=>ah.EX λy=> ∃z,j'=.T #[y.agg,.I z]/\ah.NW C λe D=>ah.du D (AA e 0) y λn=>ah.cC n (AA e 0) λd'=>ah.NW n λg E=>ah.du E (AA g 0) d' λp=>aw.cC p (AA b 0) λe'=>aw.du p (AA g 0) e' λf=>ah.cC f (AA g 0) λf'=>ah.cC f (AA e 0) λg'=>ah.du f (AA c 0) f' λq=>Kp f q [(Sa e 0)]/\ah.du q (AA d 0) g' λj=>ah.cC j (AA c 0) λP=>ah.cC j (AA d 0) λU=>R (.T #[P.agg,U.agg,.I z]) j) (λl=>if Z then ah.cC i (AA B 0) λa'=>Cl 183 #[.pointer t,a'.agg] i λk' G=> ∃b',k'=.I b'/\l G else l i)) (λJ=> ∃w,Cc H B 5 (.U w)/\if(decide (w>0))then J true H else∃x,Cc H B 6 (.U x)/\J (decide (x>0)) H)):Cl 141 #[.P s 0,S.agg] h R:=aS [(16,.join [(35,.one (.bool))]),(17,.join []),(27,λ_=>pK 6)] Tryz.func141 M
theorem Cq.walk{b:ak.S}{O:ah.S}(w:bf h (.C a.arr 149) λB q=>bf q (.C b.arr 158) λf r=>bf r (.C O.arr 82) λp g=>ak.cC g (AA f 0) λx=>Cl 79 #[x.agg] g λv H=> ∃k t j T,v=.T #[.L k t j,.I T]/\if(T !=0)then R (.T #[.I 0,.I 0,.I T]) H else Hp H B 19 λy=>Hi H B 20 λz=>Hp H B 19 λC=>aN C λA=>gA H (A.add 6) λD=>Hu H f 19 λE=>Cl 147 #[.U D,.U E] H λV d=> ∃l,V=.U l/\Kp H d [(Sa B 19),(Sa B 20),(Sa B 19)]/\Cl 185 #[.pointer y,.I z,.L k t j,.U l] d λL c=> ∃m e,L=.T #[.I m,.I e]/\Kp d c [(Sa B 19)]/\aG (λ(u:ai)=>R (.T #[.I m,.I ((t:Nat):Int),.I e]) u) (λJ=>if(e==0)then Hp c B 19 λF=>aN F λn=>zX c (n.add 5) λG=>ah.cC c (AA p 0) λI=>Cl 183 #[.pointer G,I.agg] c λM i=> ∃K,M=.I K/\Kp c i [(Sa B 19)]/\J i else J c)):Cl 142 #[a.agg,b.agg,O.agg] h R:=aS [(13,λ_=>pK 20),(17,.join []),(18,λ_=>pK 7)] Tryz.func142 w
theorem Bw.walk(M:bf h (.C a.arr 149) λb H=>aG (λ(r:ct) (O:Bool) (c:ai)=>if(!O)then R (.I 4) c else aN r λI=>kK c (I.add 6) λP=> ∃G,Cc c b 20 (.I G)/\if(P !=G)then R (.I 13) c else R (.I 0) c) (λJ=>Hp H b 19 λQ=>aN Q λA=>zX H (A.add 1) λt=>aw.cC H (AA b 2) λT=>(Cl 118 #[.pointer t,T.agg] H λv d=> ∃j l n q w y C E,v=.T #[.agg #[.B j,.U l,.U n,.S q,.S w,.I y,.I C],.B E]/\Kp H d [(Sa b 19)]/\bf d (.C #[.B false,.U 0,.U 0,.S ij,.S ij,.I 0,.I 0] 184) λB g=>Kp d g [(Sa b 19)]/\bV.ST g (AA B 0) j l n q w y C λK=>J (Sa B 0) E K)/\(bf H (.C #[.B false,.U 0,.U 0,.S ij,.S ij,.I 0,.I 0] 184) λf e=>Kp H e [(Sa b 2),(some (A.add 1)),(Sa b 19)]/\Cl 118 #[.pointer t,T.agg] e λV i=> ∃k m p u x z D F,V=.T #[.agg #[.B k,.U m,.U p,.S u,.S x,.I z,.I D],.B F]/\Kp e i [(Sa b 19)]/\bV.ST i (AA f 0) k m p u x z D λL=>J (Sa f 0) F L)/\True)):Cl 101 #[a.agg] h R:=aS [(3,.join [(3,.one (.ptr)),(4,.one (.bool))]),(3,λ_=> .iZ (fC 8 0 (.alts (.fork 8 (fC 6 9 .done) (.fork 12 (fC 4 8 (.op 13 (.op 14 .done))) .gw)))))] Tryz.func101 M
theorem By.walk(I:bf h (.C a.arr 149) λb l=>ck.cC l (AA b 0) λK=>Cl 101 #[K.agg] l λa' f=> ∃g,a'=.I g/\if(g !=0)then R (.I g) f else Hp f b 19 λL=>aw.cC f (AA b 2) λM=>Cl 141 #[.pointer L,M.agg] f λb' C=>ah.EX λp=>ah.EX λq=> ∃i,b'=.T #[p.agg,q.agg,.I i]/\ah.NW C λj D=>ah.NW D λk E=>ah.du E (AA j 0) p λF=>ah.du F (AA k 0) q λH=>if(i !=0)then R (.I i) H else aw.cC H (AA b 7) λd=>ah.cC H (AA j 0) λT=>Hu H b 16 λO=>aE.NW H λB G=>aE.du G (AA B 0) ⟨0,0,d.f0,d.f1,d.f2,d.f3,d.f4,false,0,0,ij,ij,T.f0,T.f1,T.f2,T.f3,T.f4,T.f5,T.f6,O⟩ λc=>Hb c b 18 λP=>aG (λ(e:ai)=>ck.cC e (AA b 0) λS=>aE.cC e (AA B 0) λt=>Hl e b 15 λX V U=>bf e (.C #[.U 1,.U 1,.U 0,.I 0,.L X V U] 204) λw m=>ah.cC m (AA k 0) λZ=>Cl 142 #[S.agg,.agg #[.U t.f0,.I t.f1,.B t.f2,.U t.f3,.U t.f4,.S t.f5,.S t.f6,.B t.f7,.U t.f8,.U t.f9,.S t.f10,.S t.f11,.B t.f12,.U t.f13,.U t.f14,.S t.f15,.S t.f16,.U t.f17,.U t.f18,.U t.f19,.L (Sa w 0) 1 1],Z.agg] m λc' x=> ∃r u v,c'=.T #[.I r,.I u,.I v]/\aJ x (AA o 2) (.I r) λy=>aJ y (AA o 3) (.I u) λz=>R (.I v) z) (λJ=>if P then aw.cC c (AA b 2) λQ=>aJ c (AA B 0) (.U 131072) λn=>Kp c n [(Sa b 2)]/\aw.du n (AA B 7) Q λA=>J A else J c)):Cl 98 #[a.agg,.P o 0] h R:=aS [(27,.join []),(28,λ_=>pK 7)] Tryz.func98 I
theorem Bz.walk (hv:bf h (.C a.arr 149) λb C=>ck.cC C (AA b 0) λg'=>Cl 101 #[g'.agg] C λu' H=> ∃t,u'=.I t/\if(t !=0)then R (.I t) H else aG (λ(c:ct) (e:Int) (m:ai)=>if(e !=0)then R (.I e) m else aN c λZ=>oL m (Z.add 6) λl' k' j'=>Cl 74 #[.L l' k' j'] m λv' e'=>ak.EX λV=> ∃m',v'=.T #[V.agg,.I m']/\ak.NW e' λB f'=>ak.du f' (AA B 0) V λf=>aN c λv=>kK f v λn'=>ak.cC f (AA B 0) λo'=>aN c λg=>oL f (g.add 6) λt' s' r'=>Cl 148 #[o'.agg] f λw' n=> ∃q' X p',w'=.L q' X p'/\Kp f n [(some (g.add 6)),(some v)]/\aJ n (AA o 2) (.I n') λp=>Kp n p [(some (g.add 6))]/\aJ p (AA o 3) (.I ((X:Nat):Int)) λG=>Kp p G [(some (g.add 6))]/\aJ G (AA o 5) (.L t' s' r') λa'=>R (.I 0) a') (λJ=>Hp H b 19 λh'=>aN h' λA=>zX H (A.add 2) λT=>aw.cC H (AA b 2) λq=>Hi H b 20 λr=>Hp H b 19 λi'=>aN i' λw=>gA H (w.add 6) λI=>Hi H b 14 λK=>(Cl 147 #[.U I,.U (wrap .u64 K)] H λx' d=> ∃u,x'=.U u/\Kp H d [(Sa b 14),(Sa b 19),(Sa b 20),(Sa b 2),(some (A.add 2)),(Sa b 19)]/\(Cl 146 #[.pointer T,q.agg,.I r,.U u] d λy' i=>aR.EX λM=> ∃Q,y'=.T #[M.agg,.I Q]/\Kp d i [(Sa b 14),(Sa b 19),(Sa b 19)]/\aR.NW i λx D=>Kp i D [(Sa b 14),(Sa b 19),(Sa b 19)]/\aR.du D (AA x 0) M λb'=>J (Sa x 0) Q b')/\(aR.NW d λy j=>Kp d j [(Sa b 14),(Sa b 19),(Sa b 20),(Sa b 2),(some (A.add 2)),(Sa b 19)]/\Cl 146 #[.pointer T,q.agg,.I r,.U u] j λz' E=>aR.EX λO=> ∃S,z'=.T #[O.agg,.I S]/\Kp j E [(Sa b 14),(Sa b 19),(Sa b 19)]/\aR.du E (AA y 0) O λc'=>J (Sa y 0) S c')/\True)/\(aR.NW H λz k=>Kp H k [(Sa b 14),(some (w.add 6)),(Sa b 19),(Sa b 20),(Sa b 2),(some (A.add 2)),(Sa b 19)]/\Cl 147 #[.U I,.U (wrap .u64 K)] k λA' l=> ∃L,A'=.U L/\Kp k l [(Sa b 14),(Sa b 19),(Sa b 20),(Sa b 2),(some (A.add 2)),(Sa b 19)]/\Cl 146 #[.pointer T,q.agg,.I r,.U L] l λB' F=>aR.EX λP=> ∃U,B'=.T #[P.agg,.I U]/\Kp l F [(Sa b 14),(Sa b 19),(Sa b 19)]/\aR.du F (AA z 0) P λd'=>J (Sa z 0) U d')/\True)):Cl 102 #[a.agg,.P o 0] h R:=aS [(13,.join [(6,.one (.ptr)),(7,.one (.int .i64))]),(13,λ_=> .iZ (fC 19 0 (.alts (.fork 19 (.alts (.fork 20 (fC 6 21 .done) (.fork 24 (fC 4 20 (.op 25 (.op 26 .done))) .gw))) (.fork 24 (fC 5 19 (.op 25 (.op 26 .done))) .gw))))),(25,λ_=> .iZ (fC 6 0 (.op 8 (.op 9 (.op 6 (.op 7 (fC 9 10 .done)))))))] Tryz.func102 hv
theorem BA.walk{A':ct}{z' y':Nat} (hv:bf h (.C a.arr 149) λb e0=>Cl 74 #[.L A' z' y'] e0 λi2 e3=>ak.EX λS'=> ∃h2,i2=.T #[S'.agg,.I h2]/\ak.NW e3 λh' e8=>ak.du e8 (AA h' 0) S' λJ'=>aE.cC J' (AA h' 0) λh3=>aE.NW J' λB f8=>aE.du f8 (AA B 0) h3 λE=>aG (λ(h4:Bool) (g:ai)=>if h4 then R (.I 0) g else aG (λ(id:ct) (h0:ct) (e:Int) (H:ai)=>if(e !=0)then R (.I 0) H else aG (λ(d9:Int) (h1:ct) (y:ai)=>if(d9 !=0)then R (.I 0) y else ck.cC y (AA b 0) λh7=>aN h1 λd6=>ak.cC y d6 λh8=>aN h0 λd7=>ah.cC y d7 λh9=>Cl 142 #[h7.agg,h8.agg,h9.agg] y λi3 B'=> ∃i0 i1 d5,i3=.T #[.I i0,.I i1,.I d5]/\if(d5 !=0)then R (.I 0) B' else R (.I 1) B') (λg'=>Hp H b 19 λh6=>aN h6 λA=>gA H (A.add 6) λc7=>ah.cC H (AA B 12) λT=>aw.cC H (AA B 7) λc8=>aN id λd8=>ah.cC H d8 λc9=>Hu H B 19 λd0=>(Cl 188 #[.agg #[.B false,.B true,.B false,.U 0,.U c7,.B T.f0,.U T.f1,.U T.f2,.S T.f3,.S T.f4,.U T.f5,.U T.f6],c8.agg,c9.agg,.U d0] H λj4 F=>ak.EX λd1=> ∃d3,j4=.T #[d1.agg,.I d3]/\Kp H F [(Sa B 12),(some (A.add 6)),(Sa b 19)]/\ak.NW F λs' C'=>Kp F C' [(Sa B 12),(some (A.add 6)),(Sa b 19)]/\ak.du C' (AA s' 0) d1 λe1=>g' d3 (Sa s' 0) e1)/\(ak.NW H λt' G=>Kp H G [(Sa B 19),id,(Sa B 7),(Sa B 12),(some (A.add 6)),(Sa b 19)]/\Cl 188 #[.agg #[.B false,.B true,.B false,.U 0,.U c7,.B T.f0,.U T.f1,.U T.f2,.S T.f3,.S T.f4,.U T.f5,.U T.f6],c8.agg,c9.agg,.U d0] G λj5 D'=>ak.EX λd2=> ∃d4,j5=.T #[d2.agg,.I d4]/\Kp G D' [(Sa B 12),(some (A.add 6)),(Sa b 19)]/\ak.du D' (AA t' 0) d2 λe2=>g' d4 (Sa t' 0) e2)/\True)) (λJ=>Hp g b 19 λc=>Hp g b 19 λh5=>aN h5 λn=>zX g (n.add 5) λz=>(Cl 182 #[.pointer z] g λj6 i=>ah.EX λt=>j6=t.agg/\Kp g i [(Sa b 19),(Sa b 19)]/\(Cl 141 #[.pointer c,.agg #[.B t.f0,.U t.f1,.U t.f2,.S t.f3,.S t.f4]] i λj7 p=>ah.EX λc'=>ah.EX λd'=> ∃e',j7=.T #[c'.agg,d'.agg,.I e']/\Kp i p [(Sa b 19)]/\(ah.NW p λu' I=>Kp p I [(Sa b 19)]/\ah.NW I λv' E'=>Kp I E' [(Sa b 19)]/\ah.du E' (AA u' 0) c' λe4=>ah.du e4 (AA v' 0) d' λe5=>J (Sa u' 0) (Sa v' 0) e' e5)/\(ah.NW p λw' K=>Kp p K [(Sa b 19)]/\ah.NW K λx' F'=>Kp K F' [(Sa b 19)]/\ah.du F' (AA x' 0) c' λe6=>ah.du e6 (AA w' 0) d' λe7=>J (Sa x' 0) (Sa w' 0) e' e7)/\True)/\(ah.NW i λD q=>Kp i q [(Sa b 19),(Sa b 19)]/\(Cl 141 #[.pointer c,.agg #[.B t.f0,.U t.f1,.U t.f2,.S t.f3,.S t.f4]] q λj8 L=>ah.EX λV'=>ah.EX λa7=> ∃b7,j8=.T #[V'.agg,a7.agg,.I b7]/\Kp q L [(Sa b 19)]/\ah.NW L λi' G'=>Kp L G' [(Sa b 19)]/\ah.du G' (AA D 0) V' λe9=>ah.du e9 (AA i' 0) a7 λf0=>J (Sa D 0) (Sa i' 0) b7 f0)/\(ah.NW q λj' M=>Kp q M [(Sa b 19),(Sa b 19)]/\Cl 141 #[.pointer c,.agg #[.B t.f0,.U t.f1,.U t.f2,.S t.f3,.S t.f4]] M λj9 H'=>ah.EX λZ'=>ah.EX λa9=> ∃b9,j9=.T #[Z'.agg,a9.agg,.I b9]/\Kp M H' [(Sa b 19)]/\ah.du H' (AA D 0) Z' λf1=>ah.du f1 (AA j' 0) a9 λf2=>J (Sa D 0) (Sa j' 0) b9 f2)/\True)/\(ah.NW i λC r=>Kp i r [(Sa b 19),(Sa b 19)]/\(Cl 141 #[.pointer c,.agg #[.B t.f0,.U t.f1,.U t.f2,.S t.f3,.S t.f4]] r λk0 O=>ah.EX λa0=>ah.EX λb0=> ∃c0,k0=.T #[a0.agg,b0.agg,.I c0]/\Kp r O [(Sa b 19)]/\ah.NW O λk' I'=>Kp O I' [(Sa b 19)]/\ah.du I' (AA k' 0) a0 λf3=>ah.du f3 (AA C 0) b0 λf4=>J (Sa k' 0) (Sa C 0) c0 f4)/\(ah.NW r λl' P=>Kp r P [(Sa b 19),(Sa b 19)]/\Cl 141 #[.pointer c,.agg #[.B t.f0,.U t.f1,.U t.f2,.S t.f3,.S t.f4]] P λk1 K'=>ah.EX λa1=>ah.EX λb1=> ∃c1,k1=.T #[a1.agg,b1.agg,.I c1]/\Kp P K' [(Sa b 19)]/\ah.du K' (AA l' 0) a1 λf5=>ah.du f5 (AA C 0) b1 λf6=>J (Sa l' 0) (Sa C 0) c1 f6)/\True)/\True)/\(ah.NW g λj u=>Kp g u [(some (n.add 5)),(Sa b 19),(Sa b 19)]/\(Cl 182 #[.pointer z] u λi4 v=>ah.EX λd=>i4=d.agg/\Kp u v [(Sa b 19),(Sa b 19)]/\(Cl 141 #[.pointer c,.agg #[.B d.f0,.U d.f1,.U d.f2,.S d.f3,.S d.f4]] v λi5 Q=>ah.EX λa2=>ah.EX λb2=> ∃c2,i5=.T #[a2.agg,b2.agg,.I c2]/\Kp v Q [(Sa b 19)]/\ah.NW Q λm' L'=>Kp Q L' [(Sa b 19)]/\ah.du L' (AA j 0) a2 λf7=>ah.du f7 (AA m' 0) b2 λf9=>J (Sa j 0) (Sa m' 0) c2 f9)/\(ah.NW v λn' S=>Kp v S [(Sa b 19),(Sa b 19)]/\Cl 141 #[.pointer c,.agg #[.B d.f0,.U d.f1,.U d.f2,.S d.f3,.S d.f4]] S λi6 M'=>ah.EX λa3=>ah.EX λb3=> ∃c3,i6=.T #[a3.agg,b3.agg,.I c3]/\Kp S M' [(Sa b 19)]/\ah.du M' (AA j 0) a3 λg0=>ah.du g0 (AA n' 0) b3 λg1=>J (Sa j 0) (Sa n' 0) c3 g1)/\True)/\(ah.NW u λo' U=>Kp u U [(some (n.add 5)),(Sa b 19),(Sa b 19)]/\Cl 182 #[.pointer z] U λi7 V=>ah.EX λl=>i7=l.agg/\Kp U V [(Sa b 19),(Sa b 19)]/\Cl 141 #[.pointer c,.agg #[.B l.f0,.U l.f1,.U l.f2,.S l.f3,.S l.f4]] V λi8 O'=>ah.EX λa4=>ah.EX λb4=> ∃c4,i8=.T #[a4.agg,b4.agg,.I c4]/\Kp V O' [(Sa b 19)]/\ah.du O' (AA j 0) a4 λg2=>ah.du g2 (AA o' 0) b4 λg3=>J (Sa j 0) (Sa o' 0) c4 g3)/\True)/\(ah.NW g λk w=>Kp g w [(some (n.add 5)),(Sa b 19),(Sa b 19)]/\(Cl 182 #[.pointer z] w λi9 x=>ah.EX λf=>i9=f.agg/\Kp w x [(Sa b 19),(Sa b 19)]/\(Cl 141 #[.pointer c,.agg #[.B f.f0,.U f.f1,.U f.f2,.S f.f3,.S f.f4]] x λj0 X=>ah.EX λa5=>ah.EX λb5=> ∃c5,j0=.T #[a5.agg,b5.agg,.I c5]/\Kp x X [(Sa b 19)]/\ah.NW X λp' P'=>Kp X P' [(Sa b 19)]/\ah.du P' (AA p' 0) a5 λg4=>ah.du g4 (AA k 0) b5 λg5=>J (Sa p' 0) (Sa k 0) c5 g5)/\(ah.NW x λq' Z=>Kp x Z [(Sa b 19),(Sa b 19)]/\Cl 141 #[.pointer c,.agg #[.B f.f0,.U f.f1,.U f.f2,.S f.f3,.S f.f4]] Z λj1 Q'=>ah.EX λa6=>ah.EX λb6=> ∃c6,j1=.T #[a6.agg,b6.agg,.I c6]/\Kp Z Q' [(Sa b 19)]/\ah.du Q' (AA q' 0) a6 λg6=>ah.du g6 (AA k 0) b6 λg7=>J (Sa q' 0) (Sa k 0) c6 g7)/\True)/\(ah.NW w λr' a'=>Kp w a' [(some (n.add 5)),(Sa b 19),(Sa b 19)]/\Cl 182 #[.pointer z] a' λj2 b'=>ah.EX λm=>j2=m.agg/\Kp a' b' [(Sa b 19),(Sa b 19)]/\Cl 141 #[.pointer c,.agg #[.B m.f0,.U m.f1,.U m.f2,.S m.f3,.S m.f4]] b' λj3 R'=>ah.EX λX'=>ah.EX λa8=> ∃b8,j3=.T #[X'.agg,a8.agg,.I b8]/\Kp b' R' [(Sa b 19)]/\ah.du R' (AA r' 0) X' λg8=>ah.du g8 (AA k 0) a8 λg9=>J (Sa r' 0) (Sa k 0) b8 g9)/\True)/\True)) (λf'=> ∃T',Cc E B 0 (.U T')/\if((wrap .u64 ((nQ T' &&& nQ 131072).toNat:Int))==0)then f' true E else∃U',Cc E B 0 (.U U')/\f' ((wrap .u64 ((nQ U' &&& nQ 2).toNat:Int)) !=0) E)):Cl 153 #[a.agg,.L A' z' y'] h R:=aS [(8,.join [(31,.one (.bool))]),(15,.join [(8,.one (.ptr)),(9,.one (.ptr)),(10,.one (.int .i64))]),(15,λ_=> .iZ (fC 7 0 (.alts (.fork 7 (.op 8 (.alts (.fork 9 (fC 4 10 (.alts (.fork 14 (fC 4 15 .done) (.fork 15 (.op 14 (fC 3 16 .done)) .gw)))) (.fork 14 (.alts (.fork 9 (fC 4 10 (fC 4 15 .done)) (.fork 15 (fC 5 9 (fC 3 16 .done)) .gw))) (.fork 15 (.alts (.fork 9 (fC 5 10 (fC 3 16 .done)) (.fork 14 (fC 5 9 (fC 3 16 .done)) .gw))) .gw))))) (.fork 14 (.alts (.fork 7 (.op 8 (.alts (.fork 9 (fC 4 10 (fC 4 15 .done)) (.fork 15 (fC 5 9 (fC 3 16 .done)) .gw)))) (.fork 15 (fC 7 7 (fC 3 16 .done)) .gw))) (.fork 15 (.alts (.fork 7 (.op 8 (.alts (.fork 9 (fC 5 10 (fC 3 16 .done)) (.fork 14 (fC 5 9 (fC 3 16 .done)) .gw)))) (.fork 14 (fC 7 7 (fC 3 16 .done)) .gw))) .gw)))))),(25,.join [(10,.one (.int .i64)),(11,.one (.ptr))]),(25,λ_=> .iZ (fC 13 0 (.alts (.fork 13 (fC 6 14 .done) (.fork 17 (fC 4 13 (.op 18 (.op 19 .done))) .gw)))))] Tryz.func153 hv
theorem jx.Vw.walk{c:ct}{S e:Nat}{f:Nat}(d: ∃(I:Int->ai->Prop)(m:Int->ai->Nat),I 0 h/\∀(t:Int)(H:ai),I t H->if(decide (t<(S:Int)))then Bd t S/\aN c λa=>aR.cC H (a.add (toNat t*10)) λg=>Cl 152 #[g.agg,.P f 0] H λv b=> ∃T,v=.B T/\if T then R (.I t) b else(I (wrap .i64 (t+1)) b/\m (wrap .i64 (t+1)) b<m t H)else R (.I (-1)) H):Cl 151 #[.L c S e,.func (.func 152) #[] #[.P f 0]] h R:=aS [(6,.loop [(8,.one (.int .i64))])] Tryz.func151 d
theorem Cr.walk (r:bf h (.C a.arr 149) λb d=>Hp d b 19 λI=>aN I λA=>zX d (A.add 2) λu=>Cl 149 #[.pointer u] d λv H=>Vl v λi g w=>Hp H b 19 λx=>aN x λl=>zX H (l.add 2) λy=>Hi H b 13 λz=>Hi H b 20 λB=>Cl 150 #[.pointer y,.I z,.I B] H λV e=> ∃t,V=.I t/\Kp H e [(Sa b 19)]/\Cl 151 #[.L i g w,.func (.func 152) #[] #[.P b 0]] e λK f=>Vi K λT=>aG (λ(C:Bool) (c:ai)=>aG (λ(n:ai)=>R (.I t) n) (λj=>if C then ck.cC c (AA b 0) λD=>Bd T g/\aN i λm=>oL c ((m.add (toNat T*10)).add 6) λG F E=>Cl 153 #[D.agg,.L G F E] c λL p=> ∃k,L=.I k/\aJ p (AA o 3) (.I k) λq=>j q else j c)) (λJ=>if(t==0)then J (decide (T≥0)) f else J false f)):Cl 103 #[a.agg,.P o 0] h R:=aS [(5,λ_=>pK 12),(10,.join [(33,.one (.bool))]),(11,.join []),(12,λ_=>pK 11)] Tryz.func103 r
theorem yX.walk{c:aR.S}{C:Nat}(d:bf h (.C c.arr 168) λb H=>Hi H b 0 λT=> ∃t,Cc H C 13 (.I t)/\R (.B (T==t)) H):Cl 152 #[c.agg,.P C 0] h R:=aS [] Tryz.func152 d
theorem yY.walk(p:bf h (.C a.arr 149) λb c=>Hp c b 19 λz=>aN z λA=>zX c A λq=>Hi c b 20 λr=>Hb c b 18 λu=>Cl 155 #[.pointer q,.I r,.B u] c λv H=> ∃t,v=.I t/\Kp c H [(Sa b 19)]/\aG (λ(e:Int) (l:ai)=>R (.I e) l) (λJ=>if(t==0)then Hp H b 19 λw=>aN w λk=>zX H k λx=>Hi H b 20 λy=>Cl 156 #[.pointer x,.I y] H λV d=> ∃g f T i j,V=.T #[.L g f T,.I i,.I j]/\Kp H d [(Sa b 19)]/\aJ d (AA o 5) (.L g f T) λm=>aJ m (AA o 3) (.I i) λn=>J j n else J t H)):Cl 105 #[a.agg,.P o 0] h R:=aS [(3,λ_=>pK 12),(7,.join [(5,.one (.int .i64))]),(8,λ_=>pK 21)] Tryz.func105 p
theorem ET.walk(Q:bf h (.C a.arr 149) λb H=> ∃t,Cc H b 1 (.I t)/\if(t==1)then Hp H b 19 λa'=>aN a' λA=>zX H (A.add 1) λe'=>aw.cC H (AA b 2) λT=>Hi H b 12 λf'=>Hi H b 20 λg'=>Cl 94 #[.pointer e',.agg #[.B T.f0,.U T.f1,.U T.f2,.S T.f3,.S T.f4,.I f',.I g']] H λC' i=> ∃r,C'=.I r/\Kp H i [(Sa b 20),(Sa b 12),(Sa b 2),(Sa b 19)]/\R (.I r) i else if(t==2)then Hp H b 19 λh'=>aN h' λz=>zX H (z.add 1) λi'=>aw.cC H (AA b 2) λj'=>Hi H b 20 λk'=>Cl 95 #[.pointer i',j'.agg,.I k'] H λD' c=> ∃d,D'=.I d/\Kp H c [(Sa b 19)]/\aG (λ(L:ai)=>R (.I d) L) (λJ=>if(d==0)then Hp c b 19 λl'=>aN l' λB=>zX c (B.add 2) λm'=>aw.cC c (AA b 2) λn'=>Cl 96 #[.pointer m',n'.agg] c λG' j=> ∃p' u o',G'=.L p' u o'/\Kp c j [(Sa b 19)]/\aJ j (AA o 3) (.I ((u:Nat):Int)) λM=>J M else J c)else if(t==3)then Hp H b 19 λq'=>aN q' λC=>zX H (C.add 1) λr'=>aw.cC H (AA b 2) λs'=>Hi H b 20 λt'=>Hi H b 12 λu'=>Cl 97 #[.pointer r',s'.agg,.I t',.I u'] H λH' k=> ∃v,H'=.I v/\Kp H k [(Sa b 19)]/\R (.I v) k else if(t==4)then ck.cC H (AA b 0) λv'=>Cl 98 #[v'.agg,.P o 0] H λI' O=> ∃w,I'=.I w/\R (.I w) O else if(t==5)then Hp H b 19 λw'=>Hi H b 13 λx'=>Hi H b 20 λy'=>Cl 99 #[.pointer w',.I x',.I y'] H λJ' P=> ∃x,J'=.I x/\R (.I x) P else if(t==6)then Hp H b 19 λz'=>aN z' λD=>zX H (D.add 2) λA'=>aw.cC H (AA b 2) λB'=>Cl 100 #[.pointer A',B'.agg] H λK' e=> ∃y,K'=.I y/\Kp H e [(Sa b 19)]/\aJ e (AA o 2) (.I y) λf=>ck.cC f (AA b 0) λS=>Cl 101 #[S.agg] f λL' F=> ∃l,L'=.I l/\R (.I l) F else if(t==7)then ck.cC H (AA b 0) λU=>Cl 102 #[U.agg,.P o 0] H λM' G=> ∃m,M'=.I m/\R (.I m) G else if(t==8)then ck.cC H (AA b 0) λV=>Cl 103 #[V.agg,.P o 0] H λO' I=> ∃n,O'=.I n/\R (.I n) I else if(t==9)then Hp H b 19 λX=>aN X λE=>zX H (E.add 2) λZ=>Hi H b 13 λb'=>Hi H b 20 λc'=>Cl 104 #[.pointer Z,.I b',.I c'] H λE' g=> ∃p,E'=.I p/\Kp H g [(Sa b 19)]/\R (.I p) g else if(t==10)then ck.cC H (AA b 0) λd'=>Cl 105 #[d'.agg,.P o 0] H λF' K=> ∃q,F'=.I q/\R (.I q) K else R (.I 3) H):Cl 71 #[a.agg,.P o 0] h R:=aS [(10,λ_=>pK 16),(16,λ_=>pK 12),(20,.join []),(21,λ_=>pK 14),(30,λ_=>pK 15),(48,λ_=>pK 13),(68,λ_=>pK 12)] Tryz.func71 Q
theorem SX.walk{S:Int}{r:aF.S}(hv:bf h (.C r.arr 35) λb f'=>aq.NW f' λB H=>aG (λ(B':Bool) (e:ai)=>if B' then Hu e b 0 λC'=>Cl 18 #[.U C',.I 6] e λK' m'=>aq.EX λQ=>K'=Q.agg/\aq.du m' (AA B 0) Q λz=>aq.cC z (AA B 0) λr0=>R (r0.agg) z else aG (λ(D':Bool) (f:ai)=>if D' then Hu f b 0 λF'=>Cl 18 #[.U F',.I 3] f λL' n'=>aq.EX λX=>L'=X.agg/\aq.du n' (AA B 0) X λA=>aq.cC A (AA B 0) λo'=>R (o'.agg) A else Hp f s 0 λG'=>Cl 68 #[.pointer G',.I S] f λO' d=> ∃Z,O'=.B Z/\if(!Z)then Hu d b 0 λH'=>Cl 18 #[.U H',.I 16] d λP' g'=>aq.EX λa'=>P'=a'.agg/\aq.du g' (AA B 0) a' λp=>aq.cC p (AA B 0) λp'=>R (p'.agg) p else Hp d s 0 λI'=>Hu d b 0 λJ'=>Cl 69 #[.pointer I',.I S,.U J'] d λQ' g=> ∃d' c' b' e',Q'=.T #[.L d' c' b',.B e']/\if e' then Cl 70 #[.L d' c' b'] g λR' h'=>aq.EX λT=> ∃s',R'=.T #[T.agg,.I s']/\aq.NW h' λn i'=>aq.du i' (AA n 0) T λq=>aq.cC q (AA n 0) λt'=>aq.du q (AA B 0) t' λu=>aq.cC u (AA B 0) λq'=>R (q'.agg) u else Hu g b 0 λu'=>aq.NW g λc j'=>aq.du j' (AA c 0) ⟨u',0,0,0,0,none,0,0⟩ λv=>aF.cC v (AA b 0) λt=>Cl 71 #[.agg #[.U t.f0,.I t.f1,.B t.f2,.U t.f3,.U t.f4,.S t.f5,.S t.f6,.B t.f7,.U t.f8,.U t.f9,.S t.f10,.S t.f11,.I t.f12,.I t.f13,.I t.f14,.L t.Qu t.N1 t.Qv,.U t.f16,.U t.f17,.B t.f18,.P s 0,.I S],.P c 0] v λS' i=>Vi S' λC=>aG (λ(w:ai)=>aq.cC w (AA c 0) λw'=>Cl 72 #[w'.agg] w λT' j=> ∃G F E x',T'=.T #[.L G F E,.I x']/\Hp j s 0 λy'=>Hu j b 0 λz'=>Cl 73 #[.pointer y',.I S,.U z',.L G F E] j λU' x=>Vi U' λ_=>aq.cC x (AA c 0) λA'=>aq.du x (AA B 0) A' λy=>aq.cC y (AA B 0) λr'=>R (r'.agg) y) (λm=>if(C !=0)then Hu i b 0 λv'=>Cl 18 #[.U v',.I C] i λV' k'=>aq.EX λD=>V'=D.agg/\aq.du k' (AA c 0) D λl'=>m l' else m i)) (λl=>aF.cC e (AA b 0) λE'=>Cl 56 #[E'.agg] e λM' k=> ∃U,M'=.B U/\if(!U)then l true k else∃V,Cc k b 1 (.I V)/\l (decide (V≥11)) k)) (λJ=> ∃I,Cc H s 0 (.pointer I)/\if I.isNone then J true H else∃K,Cc H s 1 (.pointer K)/\if K.isNone then J true H else∃L,Cc H s 2 (.pointer L)/\if L.isNone then J true H else∃M,Cc H s 3 (.pointer M)/\if M.isNone then J true H else∃O,Cc H s 4 (.pointer O)/\if O.isNone then J true H else∃P,Cc H s 5 (.pointer P)/\J P.isNone H)):Cl 45 #[.P s 0,.I S,r.agg] h R:=aS [(5,.join [(15,.one (.bool))]),(11,.join [(63,.one (.bool))]),(25,λ_=>pK 13),(42,.join []),(48,λ_=>pK 9)] Tryz.func45 hv
theorem JC.walk(d:aw.NW h λb c=>aw.du c (AA b 0) ⟨true,7,0,ij,ij⟩ λH=>aw.cC H (AA b 0) λr=>R (r.agg) H):Cl 6 #[] h R:=aS [] Tryz.func6 d

end
section
namespace Ask
open jG (Ev dt)
open dK (SS Good Pt oN Mk)
open Bn (jm hU iT AE Eh)
variable {h H:ai} {R:fO} {s k m:Nat} {X:Ft} {I:oN} {a:SS} {e:Ev} {t sq:Nat}
variable {K:ai->Prop}
theorem Hv(n l:Nat)(c:n<=1099511627776)(d:l<=1099511627776)(b:R (.U (nN n l:Int)) h):Cl 147 #[.U (n:Int),.U (l:Int)] h R:=by
 refine ML.walk ?_;rw[wrap_u64 ag ag];have:(if(1099511627776:Int)<(n:Int)+(l:Int)then 1099511627776 else(n:Int)+(l:Int))=(nN n l:Int):=by unfold nN;split<;>omega
 rw[this];exact b
theorem Px(M:Mk h m e t sq)(n:Nat)(hn:n<=1099511627776)(hs:sq<=1099511627776)(U:t<n->∀H,Mk H m e n 0->Fr (λy=>y=m) h H->R (.T #[(⟨e,n,0⟩:jm).s.agg,.I 0]) H)(V: ¬t<n->sq<1099511627776->∀H,Mk H m e t (sq+1)->Fr (λy=>y=m) h H->R (.T #[(⟨e,t,sq+1⟩:jm).s.agg,.I 0]) H)(Z: ¬t<n->1099511627776<=sq->hH h R (.T #[jm.zero.s.agg,.I 5])):Cl 184 #[pt m,.U (n:Int)] h R:=by
 refine w6.walk (ah.cW λb D eb r F=>aG.of λa' G=>aG.of λJ1 L=> ?_);have c:=F.get M id;have zm:=aA M;have u:b≠m:=ag
 refine⟨_,au c,?_⟩;subst L;dsimp only;refine aG.of λJ2 O=> ?_
 rw[dy];refine aG.of λJ3 P=> ?_
 rw[dy];refine⟨_,au c,aG.of λJ Q=> ?_⟩;have fin: ∀g (T q:Nat),Mk g m e T q->Fr (λy=>y=m) D g->(∀H,Mk H m e T q->Fr (λy=>y=m) h H->R (.T #[(⟨e,T,q⟩:jm).s.agg,.I 0]) H)->J g:=by
  intro g T q o p S;subst Q;subst P;subst O;subst G;refine AE ⟨e,T,q⟩ o rfl rfl rfl rfl rfl rfl rfl (Eh ⟨e,T,q⟩ (p.get r u) λl f=>S l (f.get o (λe=>u e.symm)) ?_);exact(Fr.no F p).trans f bX (λb' hc e=>ag)
 by_cases C:t<n
 .rw[gi];refine bk c bU λj A d i=>bk A bU λE B w x=> ?_
  exact fin E n 0 B ((Fr.of_eq (S:=λy=>y=m) d i).tt (Fr.of_eq w x)) (U C)
 rw[dy];refine⟨_,au c,?_⟩;by_cases z:1099511627776<=sq
 .rw[af (by simp only[aY];omega)];exact Eh .zero r λl f=>Z C z l (F.fresh f (λy e=>ag))
 rw[dy];refine⟨_,au c,?_⟩;rw[wrap_u64 ag ag];refine bk c bU λj A d i=> ?_
 have v:Mk j m e t (sq+1):=by unfold Mk;rw[Int.natCast_add];exact A
 exact fin j t (sq+1) v (Fr.of_eq d i) (V C ag)
theorem vP(A b:jm)(q:A.tm<b.tm\/A.tm=b.tm/\A.sq<b.sq)(d: hH h R (.B true)):Cl 219 #[A.s.agg,b.s.agg] h R:=by
 refine GC.walk (ah.cW λB p E i F=>ah.cW λl j o c f=>⟨_,au (f.get i id),_,au c,?_⟩);have g:=f.get i id;have d:=d j (F.tt f);by_cases C:A.tm=b.tm
 .rw[ae (by show¬(((A.tm:Int)) !=(b.tm:Int))=true;rw[C];simp)];refine⟨_,au g,_,au c,?_⟩;have n:A.sq<b.sq:=ag
  rw[af (by show(((A.sq:Int)) !=(b.sq:Int))=true;simp;omega)];refine⟨_,au g,_,au c,?_⟩;rw[av (by show(A.sq:Int)<(b.sq:Int);omega)];exact d
 .rw[af (by show(((A.tm:Int)) !=(b.tm:Int))=true;simp;omega)];refine⟨_,au g,_,au c,?_⟩;rw[av (by show(A.tm:Int)<(b.tm:Int);omega)];exact d
theorem VA(M:Mk h m e t sq)(x:jm)(i:x.e=e)(j: ∀H,Mk H m e x.tm x.sq->Fr (λy=>y=m) h H->K H):ah.du h (AA m 0) x.s K:=by
 subst i;exact(show dV (AA m 0) x.s.l 0 h K from lP (off:=0) (ws:= [.B x.e.lE,.U x.e.node,.U x.e.gL,.S x.e.host,.S x.e.jZ,.U (x.tm:Int),.U (x.sq:Int),.B true]) M (by show 0+7<=8;omega) rfl rfl λf d D b=>j f d (Fr.of_eq D λc g=>b c g))
theorem Hw(M:Mk h m e t sq)(x:jm)(l:x.e=e)(w:hU x=true)(v:t<x.tm\/t=x.tm/\sq<x.sq)(u: ∀H,Mk H m e x.tm x.sq->Fr (λy=>y=m) h H->R (.I 0) H):Cl 183 #[pt m,x.s.agg] h R:=by
 refine w9.walk (ah.cW λb A E j i=>aG.of λJ q=> ?_);have g:=i.get M id;have Z:=aA M;refine⟨_,au g,?_⟩;subst q;dsimp only;rw[dy];refine aG.of λz r=>ah.fz (x:=x.s) j (Bn.sI x λB f=>⟨_,rfl,?_⟩)
 have c:=f.get g id;have d:=f.get j id;rw[w,dy];refine iT x.e d rfl rfl rfl rfl rfl (iT e c rfl rfl rfl rfl rfl ⟨_,jG.yA (x:=x.e) (y:=e) rfl rfl,?_⟩);subst r;dsimp only;rw[av l,dy];refine AE ⟨e,t,sq⟩ c rfl rfl rfl rfl rfl rfl rfl (ah.fz (x:=x.s) d (vP ⟨e,t,sq⟩ x v λC F=>⟨_,rfl,?_⟩));rw[dy];exact ah.fz (x:=x.s) (F.get d id) (VA (F.get c id) x l λp n o=>u p n (Fr.no (i.tt (f.tt F)) o))
theorem Pt.mk'(b:Pt h s X I a):Mk h I.k a.e a.tm a.sq:=by obtain⟨y,c,_⟩:=b;exact(c 5).1
theorem Uj{b:Nat}{y:jm}(x:Ev)(i:ah.fD h b y.s)(l: ∀H,ah.fD H b (⟨x,y.tm,y.sq⟩:jm).s->Fr (λy=>y=b) h H->K H):aw.du h (AA b 0) x.s K:=
 (show dV (AA b 0) x.s.l 0 h K from lP (off:=0) (ws:=(⟨x,y.tm,y.sq⟩:jm).s.l) i (by show 0+5<=7;omega) rfl rfl λg d D f=>l g d (Fr.of_eq D λc j=>f c j))
theorem vR(l':Pt h s X I a)(G:dK.Good a k)(S:Ev)(P: ∀n,qu a=some n->hH h R (.T #[(⟨S,n.1,n.2⟩:jm).s.agg,(⟨a.e,n.1,n.2⟩:jm).s.agg,.I 0]))(k2:qu a=none->hH h R (.T #[(⟨S,0,0⟩:jm).s.agg,jm.zero.s.agg,.I 5])):Cl 141 #[pt s,S.s.agg] h R:=by
 refine Pw.walk (aw.cW λp' h1 eb hb f1=>ah.cW λb h2 I' o A=>ah.cW λu E J' z' i=> ?_);have U:=f1.tt (A.tt i);have r:=l'.on U;have z1:=f1.1;have z2:=A.1;have z3:=i.1;refine⟨_,au r.di,dK.KC (Pt.mk' r) λh4 f4=>ah.ex (⟨a.e,a.tm,a.sq⟩:jm).s ⟨rfl,ah.fK (x:=(⟨a.e,a.tm,a.sq⟩:jm).s) λb3 h6 K' i' f6=> ?_⟩⟩;have z4:=f4.1;refine iT a.e i' rfl rfl rfl rfl rfl (dK.yo a.e (λhm J m V g7 D=>⟨_,_,rfl,?_⟩) (λhm=>absurd ⟨G.e.1,G.e.2.1⟩ hm));rw[dy];have k':=f4.tt (f6.tt D);have M:=D.get i' id;have z6:=f6.1;have z7:=D.1;have T: ∀(g:ai)(x:jm)(q:Int),Fr No E g->(∀g',Fr No h g'->R (.T #[(⟨S,x.tm,x.sq⟩:jm).s.agg,x.s.agg,.I q]) g')->
   bf g (.C ah.S.z.arr 82) λB x'=>
   ah.du x' (AA B 0) x.s λe'=>
   ah.cC e' (AA B 0) λE'=>
   bf e' (.C ah.S.z.arr 82) λw y'=>
   ah.du y' (AA w 0) E' λf'=>
   aw.cC f' (AA p' 0) λF'=>
   aw.du f' (AA w 0) F' λl=>
   ah.cC l (AA w 0) λG'=>
   ah.cC l (AA B 0) λH'=>
   ah.du l (AA b 0) G' λh'=>
   Kp l h' [(Sa B 0)]/\
   ah.du h' (AA u 0) H' λL=>
   ah.cC L (AA b 0) λC'=>
   ah.cC L (AA u 0) λD'=>
   R (.T #[C'.agg,D'.agg,.I q]) L:=by
  intro g x q j hk;refine ah.fK (x:=x.s) λb4 O' L' O a'=>ah.fz O (ah.fK (x:=x.s) λb5 P' M' A' b'=> ?_)
  have Q:=j.tt (a'.tt b');have zg:=j.1;have T':=a'.1;have R':b≠b4:=by have:=aA o;omega
  have S':b≠b5:=by have:=aA o;omega
  have j':u≠b:=by have:=aA o;omega
  refine iT S (Q.get ((A.tt i).get hb id) id) rfl rfl rfl rfl rfl (Uj S A' λt' B' c'=>ah.fz (x:=(⟨S,x.tm,x.sq⟩:jm).s) B' (ah.fz (x:=x.s) (c'.get (b'.get O id) (bW (aA O))) ?_));have p:Fr No E t':=Q.fresh c' (λy e=>ag);refine ah.gX (x:=(⟨S,x.tm,x.sq⟩:jm).s) (p.get (i.get o id) id) λQ' q' z _=>⟨Bn.Vg z (by simp;omega),ah.gX (x:=x.s) (z.get (p.get z' id) j') λu' r' d' _=>ah.fz (x:=(⟨S,x.tm,x.sq⟩:jm).s) (d'.get q' j'.symm) (ah.fz (x:=x.s) r' (hk u' ?_))⟩
  exact((U.tt p).fresh z (λy e=>ag)).fresh d' (λy e=>ag)
 refine aG.of λm' hJ=> ?_
 have key: ∀v,(v=true↔0<a.tm\/0<a.sq)->m' v J:=by
  intro v hv;subst hJ;dsimp only;refine aG.of λJ1 w'=> ?_
  have fin: ∀g,Mk g m a.e a.tm a.sq->Fr (λy=>y=m) J g->J1 g:=by
   intro g Mg j;subst w';have F:Fr No E g:=k'.fresh j (λy e=>ag);have Hg:=r.on F;unfold qu at P k2;refine⟨_,au Hg.di,Px Mg a.now G.n G.t.2 (λC d n' f=> ?_) (λC Z d n' f=> ?_) (λC Z d f=> ?_)⟩
   .exact ah.ex (⟨a.e,a.now,0⟩:jm).s ⟨_,rfl,T d ⟨a.e,a.now,0⟩ 0 (F.fresh f (λy e=>ag)) (P (a.now,0) (af C))⟩
   .exact ah.ex (⟨a.e,a.tm,a.sq+1⟩:jm).s ⟨_,rfl,T d ⟨a.e,a.tm,a.sq+1⟩ 0 (F.fresh f (λy e=>ag)) (P (a.tm,a.sq+1) ((ae C).trans (dy)))⟩
   .exact ah.ex jm.zero.s ⟨_,rfl,T d .zero 5 (F.tt f) (k2 ((ae C).trans (af Z)))⟩
  cases v with
  |true=>
   rw[af rfl];have hr:hU ⟨a.e,a.tm,a.sq⟩=true:=by unfold hU;rw[G.e.1,av G.t.1,av G.t.2];rfl
   exact ah.fz (x:=(⟨a.e,a.tm,a.sq⟩:jm).s) M (Hw V ⟨a.e,a.tm,a.sq⟩ rfl hr (by have:=hv.1 rfl;show 0<a.tm\/0=a.tm/\0<a.sq;omega) λv' o' s'=>⟨_,rfl,fin v' o' s'⟩)
  |false=>
   rw[dy];have c: ¬(0<a.tm\/0<a.sq):=λc=>by have:=hv.2 c;cases this
   have e1:a.tm=0:=ag
   have e2:a.sq=0:=ag
   exact fin J (by rw[e1,e2];exact V) (Fr.refl _ _)
 refine⟨_,au M,?_⟩;by_cases c:0<a.tm
 .rw[af (av (by show((a.tm:Nat):Int)>0;omega))];exact key true ⟨λ_=> .inl c,λ_=>rfl⟩
 .rw[ae (by simp only[aY];show¬((a.tm:Nat):Int)>0;omega)];refine⟨_,au M,key _ ⟨λe=> .inr (by have e:((a.sq:Nat):Int)>0:=aV e;omega),λe=>av (by show((a.sq:Nat):Int)>0;omega)⟩⟩

end Ask
end
section
namespace dK
open iB (It IV gI iE)
open jG (Ev dt lC)
variable {h H:ai} {R:fO} {s k:Nat} {X:Ft} {I:oN} {a:SS} {p:ct}
variable {n o num:Int} {x:It} {b:Nat}
theorem Pt.Uk{O:Int}(g:Pt h s X I a)(v:sZ a.Q)(f:qt a.Q x.owner x.d.length=true)(r:n=(x.d.length:Int))(t:O=x.owner)(q: ∀H c,Pt H s c I { a with Q:=a.Q++ [x] } ->bw X h c H->R (.I 0) H):Cl 222 #[pt I.p,.I O,.I n] h R:=by
 subst t;subst r;obtain⟨Z,⟨m,P,on⟩,w,z,go⟩:=g.use 4;refine nE.vV P v _ _ (λ_ H d F=> ?_) (λe=>by unfold qt at f;rw[f]at e;cases e);rw[Ks,show yw a.Q+(x.d.length:Int)=yw (x::a.Q) by rw[jT];omega]at d;obtain⟨c,j,S,_,_⟩:=go H Z { a with Q:=a.Q++ [x] } ⟨m,Pu.perm d (eH _ _).symm,on⟩ (bw.vq (F.mono λy _ u=>(on y).1.2 u)) (λi l=>Jr _ l);exact q H c j S
theorem xm{B:cG}{l c:Nat}(t:Nat)(hn:n=(t:Int))(j:Pt h s X I a)(G:Good a k)(d':k<=30000)(hr:Row h p (bc B))(hl:l=B.length)(hb:B.length<=1000000)(d: ∀H y,Pt H s y I (yV a o B t)->bw X h y H->R (.T #[.I (Ps a o B t),.I (EO a o B t)]) H):
  Cl 185 #[pt s,.I o,.L p l c,.U n] h R:=by
 subst hn;subst hl;refine yW.walk (gp j.di ⟨_,rfl,?_⟩);rw[dy];obtain⟨Z,w⟩:=j.box;refine aG.of λc' K=>⟨_,au j.di,iB.Bu w λC p2 l2 c2 Q F=>⟨_,_,_,rfl,?_⟩⟩
 have ln:=Q.len;have r:=j.on F;have O:a.B.items.length≥16\/qt a.Q o B.length=false->∀g,Fr No h g->R (.T #[.I 0,.I 15]) g:=λc g f=>by
  have E:EO a o B t=15:=af c;have e2:Ps a o B t=0:=af c;have e3:yV a o B t=a:=ae (by rw[E];decide);rw[E,e2,e3]at d;exact d g X (j.on f) (bw.gT f)
 by_cases v:a.B.items.length≥16
 .rw[gi];subst K;dsimp only;rw[af rfl];exact O (.inl v) C F
 rw[ae (λe=>v (bW (aV e)))];obtain⟨Z4,⟨m4,T,f'⟩,_⟩:=r.use 4;refine⟨_,au r.di,nE.QT T G.ok o _ ⟨_,rfl,?_⟩⟩;subst K;dsimp only;cases q:qt a.Q o B.length with
 |false=>
  rw[af (show(!qt a.Q o B.length)=true by rw[q];rfl)];exact O (.inr q) C F
 |true=>
  rw[ae (show¬(!qt a.Q o B.length)=true by rw[q];decide)];have M: ¬(a.B.items.length≥16\/qt a.Q o B.length=false):=λc=>c.elim v (λe=>by rw[q]at e;cases e)
  have A:EO a o B t=iB.jB a.B o B t:=ae M;have eN:Ps a o B t=iB.Bi a.B o B t:=ae M;obtain⟨Z,w,zm,zd,go⟩:=r.use 3;refine⟨_,au r.di,iB.Bj t rfl w (hr.frame F bX) rfl hb (bW G.b) λD V P s3=>⟨_,_,rfl,?_⟩⟩;obtain⟨U,u,a',_,_⟩:=go D V { a with B:=iB.Ha a.B o B t } P s3 (λe' hi=>EK _ hi);have S:=bw.no F a';refine aG.of λJ2 L=> ?_
  rw[A,eN]at d;unfold yV at d;rw[A]at d;by_cases i:iB.jB a.B o B t=0
  .rw[af i]at d;rw[af (by rw[i];rfl)];refine⟨_,au u.di,u.Uk (x:=⟨a.B.next,o,B,t⟩) G.ok q rfl rfl λJ z m b'=>⟨_,rfl,?_⟩⟩;subst L;refine d J z ?_ (S.trans b');have e:iB.Ha a.B o B t= { a.B with items:=a.B.items++ [⟨a.B.next,o,B,t⟩],next:=a.B.next+1 } :=af i;rw[e]at m⊢;have m:Pt J s z I { a with B:= { a.B with items:=a.B.items++ [⟨a.B.next,o,B,t⟩],next:=a.B.next+1 },Q:=a.Q++ [⟨a.B.next,o,B,t⟩] } :=m;rw[G.q]at m;exact m
  .rw[ae i]at d;rw[ae (cR i)];subst L;refine d D U ?_ S;have e:iB.Ha a.B o B t=a.B:=ae i;rw[e]at u;exact u
theorem JD(x:IV)(hid:iB.A4 h b num)(e: hH h R (.B (decide ((x.num:Int)=num)))):Cl 145 #[x.agg,.P b 0] h R:=by
 refine sg.walk (aI.box λB c E d f=>⟨_,au d,_,au (f.get hid id),?_⟩);rw[show((x.num:Int)==num)=decide ((x.num:Int)=num) by by_cases q:(x.num:Int)=num<;>simp[q]];exact e c f
theorem MM(c:List IV)(num:Int):idxOf (λx:IV=>decide ((x.num:Int)=num)) c=iB.rU (c.map IV.abs) num:=by
 unfold idxOf iB.rU iB.yL;rw[List.findIdx?_map];rfl
theorem nC{c:List IV}{n m:Nat}(y:Row h p (c.flatMap gI))(w:n=c.length)(u:c.length<=1000000000)(hid:iB.A4 h b num)(r: hH h R (.I (iB.rU (c.map IV.abs) num))):
  Cl 83 #[.L p n m,.func (.func 145) #[] #[.P b 0]] h R:=by
 refine fR.cancel.walk (rF (λx:IV=>decide ((x.num:Int)=num)) (λt g K=>((0:Int)<=t/\t<(n:Int))/\aN p λA=>aI.LD g (A.add (Int.toNat t*4)) λT z B C D E=>
  Cl 145 #[.agg #[.I T,.I z,.L B C D,.U E],.P b 0] g λv G=> ∃q,v=.B q/\K q G) w u (λk g x K i f l=> ?_) (λg f=>by rw[MM];exact r g f))
 have L:=(az.1 i).1;have d:=y.frame f bX;obtain⟨A,rfl⟩:=d.some (λe=>by have:=cf List.length e;rw[eL gI 4 iE,bG]at this;omega);exact⟨ag,ax.2 (aI.DZ (by rw[aH];exact d.gB iE i) (JD x (f.get hid id) λj F=>⟨_,rfl,l j (f.tt F)⟩))⟩
theorem A5{l:List It}{i:Nat}(g:(l.map It.num).Pairwise (· < ·))(c:l[i]? =some x):l.Perm (x::iB.qJ l (x.num:Int)):=by
 rw[<-iB.pk g c];unfold iB.vU;obtain⟨d,f⟩:=az.1 c;have e:l=l.take i++x::l.drop (i+1):=by rw[<-f,<-cP d,List.take_append_drop]
 exact(List.Perm.of_eq e).trans List.perm_middle
theorem xy(t:Pt h s X I a)(G:Good a k)(l':k<=30000)(c: ∀H T,Pt H s T I (Dv a num o)->bw X h T H->R (.I (iB.ou a.B num o)) H):Cl 99 #[pt s,.I num,.I o] h R:=by
 refine uJ.walk (cT ?_);have F:Fr No h (h.push (.C #[.I num] 3)):=Fr.push _ _;have a':iB.A4 (h.push (.C #[.I num] 3)) h.size num:=bZ;generalize h.push (.C #[.I num] 3)=h1 at F a'⊢;have u:=t.on F;obtain⟨Z0,i'⟩:=u.box;obtain⟨L,J⟩:=t.okB;refine gp u.di ⟨_,rfl,?_⟩;rw[dy];refine⟨_,au u.di,iB.Bu i' λh2 p2 l2 C L2 v=>⟨_,_,_,rfl,?_⟩⟩;have M:=u.on v;have b':=v.get a' id;obtain⟨f,j',rfl,ox,A,m',hD,c'⟩:=L2;obtain⟨Z,hz,zm,zd,go⟩:=M.use 3;refine⟨_,au M.di,_,au b',iB.xy hz (bW G.b) λh3 Z3 B3 S=>⟨_,rfl,?_⟩⟩;obtain⟨U,H3,d',_,_⟩:=go h3 Z3 { a with B:=iB.nH a.B num o } B3 S (λi hi=>EK _ hi);have z1:=F.1;have z2:=v.1;have zl: ∀y,Z.M y->y<h.size:=λy m=>t.lt y (.inl (zm y m))
 have ln:f.length=a.B.items.length:=by rw[<-A,aD]
 have f':iB.A4 h3 h.size num:=S.fr.get b' (λr=>bW (zl _ r));have o3:=ox.frame S.fr (λy m r=>iJ (zl y r) (c' y m));have le:=J.le;refine nC o3.iz rfl ag f' λh4 z=> ?_
 have K:=bw.no (F.tt v) (d'.on z);have j:=H3.on z;have O:=o3.frame z bX;rw[A];refine⟨_,rfl,aG.of λk' d=> ?_⟩;cases w:iB.yL a.B.items num with
 |none=>
  have e:iB.ou a.B num o=4:=by unfold iB.ou;rw[w]
  have E:iB.nH a.B num o=a.B:=ae (by rw[e];decide);unfold Dv at c;rw[e,E,<-G.q]at c;rw[e]at d⊢;rw[dy];subst d;refine aG.of λQ q=> ?_
  rw[dy];subst q;rw[E]at j;exact c h4 U j K
 |some i=>
  obtain⟨x,l,g'⟩:=iB.A6 w;have ev:iB.rU a.B.items num=(i:Int):=by unfold iB.rU;rw[w]
  rw[ev]at d⊢;have e:iB.ou a.B num o=if x.owner=o then 0 else 13:=by unfold iB.ou;rw[w];dsimp only;rw[l]
  by_cases B:x.owner=o
  .rw[af B]at e;have E:iB.nH a.B num o= { a.B with items:=iB.qJ a.B.items num,sY:=a.B.sY+1 } :=af e;unfold Dv at c;rw[e]at c;rw[e]at d⊢;rw[gi,av ag];subst d;refine aG.of λQ q=> ?_
   rw[af rfl];have hi:=(az.1 l).1;have D:f[i]? =some f[i]:=aj ag;have h':f[i].abs=x:=by
    rw[<-A,aL,D]at l;exact aX l
   obtain⟨pb,po,rfl⟩:=O.addr ag;have hh:=O.gB iE D;have C: ∀g,dN (((AA pb po):Addr).add (i*4)) (gI f[i]) 0 g->aU g ((((AA pb po):Addr).add (Int.toNat (i:Int)*4)).add 2)=some f[i].v.val:=λg hg=>by
    rw[aH];exact hg.2.2.1
   refine⟨_,au j.di,ag,ax.2 ⟨_,_,_,C _ hh,?_⟩⟩;have vl:f[i].v.b=x.d:=by rw[<-h'];rfl
   rw[vl];refine j.SW (x:=x) (l:=iB.qJ a.B.items num) (by show a.Q.Perm _;rw[G.q,<-g'];exact A5 J.inc l) (show sZ a.Q from G.ok) (Jy J (aZ l)) rfl B.symm λh5 X5 P e'=>⟨_,rfl,?_,?_⟩
   .have o5:=O.frame e'.fr (λy m r=>by
     rcases d'.hN y r with V|V
     .have:=t.lt y (.inl V);have:=c' y m;omega
     .have:=ox.dI m;omega)
    rw[<-vl];exact C _ (o5.gB iE D)
   .subst q;refine c h5 X5 ?_ (K.trans e');rw[E]at P⊢;exact P
  .rw[ae B]at e;have E:iB.nH a.B num o=a.B:=ae (by rw[e];decide);unfold Dv at c;rw[e,E,<-G.q]at c;rw[e]at d⊢;rw[dy];subst d;refine aG.of λQ q=> ?_
   rw[dy];subst q;rw[E]at j;exact c h4 U j K
theorem vV(j:Pt h s X I a)(G:Good a k)(j':k<=30000)(k1:a.B.items= []->hH h R (.T #[.agg #[.I 0,.I 0,.Z,.U 0],.I 4]))(k2: ∀x r,a.B.items=x::r->∀H z (v:IV),v.abs=x->Pt H s z I (Dw a)->bw X h z H->v.v.ok H z.D->R (.T #[v.agg,.I 0]) H):
  Cl 47 #[pt s] h R:=by
 refine xL.walk (aI.box λb h1 eb M F=> ?_);have w:=j.on F;refine gp w.di ⟨_,rfl,?_⟩;rw[dy];obtain⟨Z,hz,zm,zd,go⟩:=w.use 3;obtain⟨L,ok⟩:=j.okB;have lb:=aA M;refine⟨_,au w.di,iB.vV hz (bW G.b) (λi h2 T f2=>⟨_,_,_,_,_,_,_,rfl,aI.new λB h3 d' g f=>aG.of λb' K=> ?_⟩) (λx r i h2 Z2 v P T s2 hd=>⟨_,_,_,_,_,_,_,rfl,aI.new λB h3 d' g f=>aG.of λb' K=> ?_⟩)⟩
 .rw[dy];subst K;have g':=(f2.tt f).get M id;refine aI.ld g (aI.set g' λl D E J=>aI.ld D (k1 i l ((F.tt (f2.tt f)).fresh (Fr.of_eq (S:=λy=>y=b) E J) (λy e=>ag))))
 .obtain⟨V,m,u,c',_⟩:=go h2 Z2 { a with B:= { a.B with items:=r,taken:=a.B.taken+1 } } T s2 (λk' hi=>EK _ hi);rw[gi];have U:=m.on f;have i':x∈a.B.items:=by rw[i];simp
  have ex:x.owner=v.owner:=by rw[<-P];rfl
  have ed:x.d=v.v.b:=by rw[<-P];rfl
  refine⟨_,au U.di,_,au g,_,_,_,au g,U.SW (x:=x) (l:=r) (.of_eq (show a.Q=x::r by rw[G.q,i])) (show sZ a.Q from G.ok) (Jy ok i') (by rw[ed]) ex.symm λl C H4 S=>⟨_,rfl,?_,?_⟩⟩
  .exact S.fr.cell (au g) (λd=>bW (m.lt B (.inl d)))
  .subst K;have z1:=F.1;have z2:=s2.fr.1;have z3:=f.1;have z4:=S.fr.1;have Q: ∀y,h.size<=y->y<h1.size->¬(V.M y\/V.D y):=λy c O d=>by
    rcases d with A|A
    .rcases u.hN y A with A|A
     .have:=j.lt y (.inl A);omega
     .omega
    .rcases u.ji y A with A|A
     .have:=j.lt y (.inr A);omega
     .omega
   have a': ∀y,h.size<=y->y<h1.size->¬(C.M y\/C.D y):=λy c O d=>by
    rcases d with A|A
    .rcases S.hN y A with A|A
     .exact Q y c O (.inl A)
     .omega
    .rcases S.ji y A with A|A
     .exact Q y c O (.inr A)
     .omega
   have e':aI.at l B (v.num:Int) v.owner v.v.p v.v.b.length v.v.c (v.fS:Int):=S.fr.get g (λd=>bW (m.lt B (.inl d)));have f':=u.fr.get M (λd=>bW (j.lt b (.inl d)));have h':aI.at l b 0 0 none 0 0 0:=S.fr.get (f.get f' id) (λd=>Q b ag ag (.inl d));refine aI.ld e' (aI.set h' λh5 D E J=>aI.ld D ?_);have q:Fr (λy=>y=b) l h5:=Fr.of_eq E J;have t:=(bw.no F (u.on f)).trans S;have et:Dw a= { a with B:= { a.B with items:=r,taken:=a.B.taken+1 },Q:=r } :=by unfold Dw;rw[i]
   refine k2 x r i h5 C v P ?_ ⟨⟨bW q.1,λy c hn=>by rw[q.2 y ag (λe=>ag)];exact t.fr.2 y c hn⟩,λy c=>(t.hN y c),λy c=>(t.ji y c),t.mz⟩ ?_
   .rw[et];exact Pt.frame H4 q (λy c e=>a' y ag ag c)
   .refine(((hd.mono c').frame f bX).frame S.fr (λy c d=> ?_)).mono S.mz|>.frame q (λy c e=>a' y ag ag (.inr c))
    exact m.vx y d c

end dK
end
section
namespace Ask
open jG (Ev dt)
open dK (SS Good Pt oN Mk)
open Bn (jm hU iT AE Eh mq Prim nz iX BB jN)
variable {V:cG→Bool} {h f j g:ai} {R:fO} {s k bo id c:Nat} {X i:Ft} {I:oN} {a:SS} {p:ct} {ses:Int} {x:Rq} {D:Nat→Prop} {o:Ot}
variable {b:Nat} {K:ai->Prop} {n:Nat×Nat} {d:cG} {P:Prim}
abbrev Rq.as(x:Rq)(p:ct)(c s:Nat)(ses:Int):ck.S:=⟨x.id,x.kind,x.ep.lE,x.ep.node,x.ep.gL,x.ep.host,x.ep.jZ,x.dest.lE,x.dest.node,x.dest.gL,x.dest.host,x.dest.jZ,x.lV,x.num,x.ja,p,x.mh.length,c,x.fT,x.token,x.on,some ⟨s,0,none⟩,ses⟩
structure En (V:cG->Bool) (j h:ai) (s:Nat) (X:Ft) (I:oN) (a:SS) (k:Nat):Prop where
 H:Pt h s X I a
 G:dK.Good a k
 hk:k<=30000
 u:Nb j X h
 U:Cb.kr V j
 mx:nR.Mx j
theorem En.on(E:En V j h s X I a k)(F:Fr No h f):En V j f s X I a k:=⟨E.H.on F,E.G,E.hk,E.u.on F,E.U,E.mx⟩
theorem En.SY(E:En V j h s X I a k):nR.Mx h:=E.mx.on E.u.fr
theorem En.step{l:SS}{e:Nat}(E:En V j h s X I a k)(H:Pt f s i I l)(S:bw X h i f)(G:dK.Good l e)(hk:e<=30000):En V j f s i I l e:=⟨H,G,hk,E.u.step S,E.U,E.mx⟩
theorem En.nM(E:En V j h s X I a k)(e:h.size<=b): ¬X.M b:=λH=>by have:=E.H.lt b (.inl H);omega
theorem EU{S:Nat->Prop}{l:List (ct)}(F:Fr S h f)(r: ¬S b)(m: ∀p∈l,p.map (·.block)=some b):Kp h f l:=F.Ts λp q x e H=>r (by have:=m p q;rw[e]at this;exact(aX this)▸H)
structure gJ (X:Ft) (h:ai) (bo id:Nat) (o:Ot) (i:Ft) (f:ai):Prop where
 fr:Fr (λy=>X.M y\/y=bo) h f
 hN: ∀c,i.M c->X.M c\/h.size<=c
 ji: ∀c,i.D c->X.D c\/h.size<=c
 mz: ∀c,X.D c->i.D c
 at': ∃y,aq.fD f bo y/\(o.e=0->∃p c,y=⟨id,0,o.num,o.yM,0,p,o.d.length,c⟩/\Row f p (bc o.d)/\(o.d≠ []->∀z,aP p z->(h.size<=z\/X.D z)/\¬i.M z))
abbrev y0(id:Nat):aq.S:=⟨id,0,0,0,0,none,0,0⟩
theorem gJ.of{H:ai}(S:bw X h i H)(F:Fr (λy=>y=bo) H f)(at': ∃y,aq.fD f bo y/\(o.e=0->∃p c,y=⟨id,0,o.num,o.yM,0,p,o.d.length,c⟩/\Row f p (bc o.d)/\(o.d≠ []->∀z,aP p z->(h.size<=z\/X.D z)/\¬i.M z))):gJ X h bo id o i f:=
 ⟨S.fr.trans F (λ_ _ A=> .inl A) (λ_ _ e=> .inr e),S.hN,S.ji,S.mz,at'⟩
theorem gJ.bad{e:Int}(H:aq.fD h bo (y0 id))(l: ¬X.M bo)(S:bw X h i f){a:SS}:gJ X h bo id (bad a e) i f:=
 gJ.of S (Fr.refl _ _) ⟨_,S.fr.get H l,λ_=>⟨none,0,rfl,Row.nil,λe=>absurd rfl e⟩⟩
theorem iG{e:Nat}{y z:aq.S}{v:Value}(r:aq.fD h b y)(u:e<6)(A:y.arr.setIfInBounds e v=z.arr)(w: ∀f,aq.fD f b z->Fr (λy=>y=b) h f->K f):aJ h (AA b e) v K:=
 bk r u λH l m q=>w H (by unfold aq.fD;rw[<-A];exact l) (Fr.of_eq m λc t=>q c t)
theorem Pt.vY{t q:Nat}(H:Pt h s X I a)(M:Mk f I.k a.e t q)(F:Fr (λy=>y=I.k) h f): ∃i,Pt f s i I { a with tm:=t,sq:=q } /\bw X h i f:=by
 obtain⟨Z,⟨_,O⟩,u,z,go⟩:=H.use 5;obtain⟨i,e,S,_,_⟩:=go f Z { a with tm:=t,sq:=q } ⟨M,O⟩ (bw.vq (F.mono λy _ m=>(O y).1.2 m)) (λr l=>dK.SO a.e t q l);exact⟨i,e,S⟩
theorem Py(h:qu a=some n):a.tm<n.1\/a.tm=n.1/\a.sq<n.2:=by
 unfold qu at h;split at h
 .cases h;left;assumption
 split at h
 .cases h
 .cases h;right;exact⟨rfl,Nat.lt_succ_self _⟩
theorem uO{b:mq}(h:jN V b=some d):Bn.jv b.p=true:=by
 unfold jN at h;split at h
 .split at h
  .cases h
  .rename_i H;unfold Bn.rL at H;split at H
   .cases H
   .rename_i e;unfold Bn.ot at e;split at e
    .assumption
    .cases e
 .cases h
theorem MN{b:mq}(h:jN V b=some d):b.p.fT<=1099511627776:=by
 have:=uO h;unfold Bn.jv at this;simp only[aW,aY]at this;exact this.2
theorem KD{b:mq}{q:ct}{C:Nat}{xs:List BB}(E:En V j h s X I a k)(h':b.p.wf)(B:iX h D b.bl q b.bl.length C xs)(hl:b.bl.length<=1000000)(hd: ∀b'∈b.bl,b'.data.length<=80000)(hn:qu a=some n)(H: ∀f i,Pt f s i I (nO V a ses b n).σ->bw X h i f->R (.T #[.I (nO V a ses b n).num,.I (nO V a ses b n).yM,.I (nO V a ses b n).e]) f):
  Cl 142 #[(x.as p c s ses).agg,(b.s q C).agg,(⟨a.e,n.1,n.2⟩:jm).s.agg] h R:=by
 refine Cq.walk (ck.cW (x:=x.as p c s ses) λG h1 j' a' J=>ak.cW (x:=b.s q C) λb2 h2 k' U z=>ah.cW (x:=(⟨a.e,n.1,n.2⟩:jm).s) λb3 h3 l' e' t=> ?_);have w:=J.tt (z.tt t);have v:=E.on w;have z1:=J.1;have z2:=z.1;have z3:=t.1;unfold nO at H;refine ak.fz (x:=b.s q C) (t.get U _root_.id) (Bn.Ey h' E.U v.u.fr v.SY (B.on w) hl hd (λO y lo Q p4 c4 o4 g4 F=>⟨_,_,_,_,rfl,?_⟩) (λy Q F=>⟨_,_,_,_,rfl,?_⟩))
 case refine_2=>
  rw[gi];rw[y]at H;exact H Q X (v.H.on F) (bw.gT (w.tt F))
 rw[dy];rw[y]at H;dsimp only at H;have A:=v.on F;have u:=(z.tt (t.tt F)).get a' _root_.id;have d':=(t.tt F).get U _root_.id;have Z:=F.get e' _root_.id;have z4:=F.1;have m':=aA u;have n':=aA Z;have n1: ¬X.M G:=E.nM ag;have n3: ¬X.M b3:=E.nM ag;refine⟨_,au u,_,au u,_,au u,ax.2 ⟨_,au A.H.di,_,au d',Hv a.now b.p.fT E.G.n (MN y) ⟨_,rfl,(Fr.refl (λ_=>False) _).kp,dK.xm (nN a.now b.p.fT) rfl A.H E.G E.hk o4.iz rfl ag λh6 X6 r S=>⟨_,_,rfl,EU S.fr n1 bU,aG.of λi' T=> ?_⟩⟩⟩⟩;have st:=bw.no (w.tt F) S;unfold Hn at H;by_cases l:dK.EO a ses O (nN a.now b.p.fT)=0
 .rw[af l]at H;rw[af (by rw[l];rfl)];have c':=S.fr.get u n1;have f':=S.fr.get Z n3;have m:(dK.yV a ses O (nN a.now b.p.fT)).e=a.e/\(dK.yV a ses O (nN a.now b.p.fT)).tm=a.tm/\(dK.yV a ses O (nN a.now b.p.fT)).sq=a.sq:=by unfold dK.yV;rw[af l];exact⟨rfl,rfl,rfl⟩
  have M:=Pt.mk' r;rw[m.1,m.2.1,m.2.2]at M;have hr:hU ⟨a.e,n.1,n.2⟩=true:=by have:=Bv E.G hn;unfold hU;rw[E.G.e.1,av this.1,av this.2];rfl
  refine⟨_,au c',ax.2 ⟨_,au r.di,ah.fz (x:=(⟨a.e,n.1,n.2⟩:jm).s) f' (Hw M ⟨a.e,n.1,n.2⟩ rfl hr (Py hn) λh8 M8 L=>⟨_,rfl,?_,?_⟩)⟩⟩
  .have zk:=aA M;have:G≠I.k:=λe=>by have:=aA (Pt.mk' E.H);omega
   exact EU L this bU
  .subst T;obtain⟨X8,H8,g'⟩:=Pt.vY r (by rw[m.1];exact M8) L;exact l.symm▸H h8 X8 H8 (st.trans g')
 .rw[ae l]at H;rw[ae (cR l)];subst T;have m:dK.yV a ses O (nN a.now b.p.fT)=a:=by unfold dK.yV;rw[ae l]
  rw[m]at r;exact H h6 X6 r st
theorem EW(H:Pt h s X I a)(l: hH h R (.I (gO.jS a.G x.ep ses))):Cl 101 #[(x.as p c s ses).agg] h R:=by
 refine Bw.walk (ck.cW (x:=x.as p c s ses) λb T eb E q=>aG.of λJ hJ=> ?_);have L:=H.on q;have fin: ∀(g:ai)(z:Nat),gO.Rg.at g z ((gO.jb a.G x.ep).getD .zero)->Fr No T g->J (Sa z 0) (gO.jb a.G x.ep).isSome g:=by
  intro g z O t;subst hJ;dsimp only;unfold gO.jS at l;cases M:gO.jb a.G x.ep with
  |none=>rw[M]at l;rw[af (by rfl)];exact l g (q.tt t)
  |some r=>
   rw[M]at l O;rw[ae bU];refine ax.2 ⟨_,au O,_,au (t.get E _root_.id),?_⟩;dsimp only at l;by_cases u:r.own=ses
   .rw[af u]at l;rw[ae (by show¬(r.own !=ses)=true;simpa using u)];exact l g (q.tt t)
   .rw[ae u]at l;rw[af (by show(r.own !=ses)=true;simpa using u)];exact l g (q.tt t)
 obtain⟨Z,Q,_⟩:=L.use 1;refine⟨_,au E,ax.2 ⟨_,au L.di,iT x.ep E rfl rfl rfl rfl rfl ⟨?_,?_,trivial⟩⟩⟩
 .exact gO.ic Q x.ep λU F=>⟨_,_,_,_,_,_,_,_,rfl,F.kp,bV.box λB h4 S G m=>⟨m.kp,bV.set G λC A v w=>fin C B A ((F.tt m).fresh (Fr.of_eq (S:=λy=>y=B) v w) (λy e=>bW F.1))⟩⟩
 .refine bV.box λB h4 S G m=>⟨m.kp,gO.ic (gO.Tb.on Q m) x.ep λU F=>⟨_,_,_,_,_,_,_,_,rfl,F.kp,bV.set (F.get G _root_.id) λC A v w=>fin C B A ((m.tt F).fresh (Fr.of_eq (S:=λy=>y=B) v w) (λy e=>ag))⟩⟩
theorem Pz{b:nz}{B:Nat}(H:ay.fD h B (b.s p c))(r:Row h p (bc b.data))(cap:b.data.length<=c):iX h (λ_=>True) [b] (Sa B 0) 1 1 [⟨b,p,c⟩]:=
 ⟨rfl,rfl,.inr ⟨_,rfl,ay.Ax (x:=b.s p c) H⟩,λ_ _ _=>trivial,bp _,λy e=>by rw[bP.1 e];exact⟨r,λ_ _ _=>trivial,cap⟩⟩
theorem SZ(n:Nat)(q:aE.fD h b P.s)(t: ∀f,aE.fD f b ({ P with fl:=n } :Prim).s->Fr (λy=>y=b) h f->K f):aJ h (AA b 0) (.U (n:Int)) K:=
 bk q (by show 0<20;omega) λH e l m=>t H e (Fr.of_eq l λc r=>m c r)
theorem VB(e:Ev)(r:aE.fD h b P.s)(u: ∀f,aE.fD f b ({ P with rep:=e } :Prim).s->Fr (λy=>y=b) h f->K f):aw.du h (AA b 7) e.s K:=
 (show dV (AA b 7) e.s.l 0 h K from lP (off:=7) (ws:=({ P with rep:=e } :Prim).s.l) r (by show 7+5<=20;omega) rfl rfl λH l m q=>u H l (Fr.of_eq m λc t=>q c t))
theorem Q6(E:En V j h s X I a k)(rx:Row h p (bc x.mh))(cap:x.mh.length<=c)(lp:x.mh.length<=1000)(w1:0<=x.ep.gL)(w2:0<=x.dest.gL)(G:aq.fD h bo (y0 id))(nb: ¬(X.M bo\/X.D bo))(H: ∀f i,Pt f s i I (Dx V a ses x).σ->gJ X h bo id (Dx V a ses x) i f->R (.I (Dx V a ses x).e) f):
  Cl 98 #[(x.as p c s ses).agg,.P bo 0] h R:=by
 refine By.walk (ck.cW (x:=x.as p c s ses) λb h1 eb j' f1=>ck.fz (x:=x.as p c s ses) j' (EW (E.H.on f1) λh2 f2=>⟨_,rfl,?_⟩));have w:=f1.tt f2;have Q:=E.on w;have a':=f2.get j' _root_.id;have O: ¬X.M bo:=λe=>nb (.inl e)
 unfold Dx at H;by_cases L:gO.jS a.G x.ep ses=0
 case neg=>
  rw[ae L]at H;rw[af (cR L)];exact H h2 X Q.H (gJ.bad G O (bw.gT w))
 rw[af L]at H;rw[ae (cR L)];refine⟨_,au a',iT x.ep a' rfl rfl rfl rfl rfl (vR Q.H E.G x.ep (λn J h3 m=>ah.ex _ (ah.ex _ ⟨_,rfl,?_⟩)) (λJ h3 m=>ah.ex _ (ah.ex _ ⟨_,rfl,?_⟩)))⟩
 case refine_2=>
  rw[J]at H;refine ah.cW λb1 h4 y' l q=>ah.cW λZ h5 z' c' F=>ah.gX (x:=(⟨x.ep,0,0⟩:jm).s) (F.get l _root_.id) λh6 d6 r _=>ah.gX (x:=jm.zero.s) (r.get c' (bW (aA l))) λu d7 C _=> ?_
  rw[gi];have z4:=q.1;have z:Fr No h3 u:=((q.tt F).fresh r (λy e=>ag)).fresh C (λy e=>ag);exact H u X (Q.H.on (m.tt z)) (gJ.bad G O (bw.gT (w.tt (m.tt z))))
 rw[J]at H;dsimp only at H;refine ah.cW λb1 h4 y' l q=>ah.cW λZ h5 z' c' F=>ah.gX (x:=(⟨x.ep,n.1,n.2⟩:jm).s) (F.get l _root_.id) λh6 d6 r _=>ah.gX (x:=(⟨a.e,n.1,n.2⟩:jm).s) (r.get c' (bW (aA l))) λu d7 C _=> ?_
 rw[dy];have z1:=f1.1;have z2:=f2.1;have z3:=m.1;have z4:=q.1;have z5:=F.1;have G':b1≠Z:=by have:=aA l;omega
 have e':Fr No h3 u:=((q.tt F).fresh r (λy e=>ag)).fresh C (λy e=>ag);have d':=m.tt e';have z:=w.tt d';have v:=d'.get a' _root_.id;have s':=C.get d6 G';have R':=e'.1;refine iT x.dest v rfl rfl rfl rfl rfl (ah.fz (x:=(⟨x.ep,n.1,n.2⟩:jm).s) s' ⟨_,au v,aE.fK (x:=(⟨0,0,x.dest,.zero,⟨x.ep,n.1,n.2⟩,x.fT⟩:Prim).s) λB h9 J' m' t=>⟨_,au (t.get v _root_.id),aG.of λr' hJ=> ?_⟩⟩);have k':=t.get v _root_.id;have t':=t.get d7 _root_.id;have z9:=t.1;have n':b≠B:=by have:=aA v;omega
 have H':Z≠B:=by have:=aA d7;omega
 have fin: ∀g,aE.fD g B (pA x n).p.s->Fr (λy=>y=B) h9 g->r' g:=by
  intro g hp fg;subst hJ;have p':Fr No u g:=t.fresh fg (λy e=>ag);have l':=fg.get k' n';refine ck.fz (x:=x.as p c s ses) l' (aE.fz (x:=(pA x n).p.s) hp ⟨_,_,_,au l',ay.cW (x:=(⟨1,1,0,0,x.mh⟩:nz).s p c) λb4 L' K' F' f'=>ah.fz (x:=(⟨a.e,n.1,n.2⟩:jm).s) (f'.get (fg.get t' H') _root_.id) ?_⟩);have T:=z.tt (p'.tt f');have o':=E.on T;refine KD (b:=pA x n) (x:=x) (p:=p) (c:=c) o' ⟨w2,?_,w1⟩ (Pz (b:=⟨1,1,0,0,x.mh⟩) F' (rx.frame T (λ_ _=>_root_.id)) cap) (by show 1<=_;omega) (λb' D'=>by rw[bP.1 D'];show x.mh.length<=_;omega) J λM' U q' I'=>⟨_,_,_,rfl,?_⟩
  .show 0<=(if x.on=true then x.ep else Ev.zero).gL;split
   .exact w1
   .exact eh 0
  .have S:=bw.no T I';have E':=S.fr.get G O;refine iG (z:=⟨id,0,(nO V a ses (pA x n) n).num,0,0,none,0,0⟩) E' dS rfl λO' u' g'=>iG (z:=⟨id,0,(nO V a ses (pA x n) n).num,(nO V a ses (pA x n) n).yM,0,none,0,0⟩) u' dS rfl λB' v' h'=> ?_
   have no: ¬(U.M bo\/U.D bo):=λhm=>by
    have zo:=aA G;rcases hm with A|A
    .rcases S.hN bo A with A|A
     .exact O A
     .omega
    .rcases S.ji bo A with A|A
     .exact nb (.inr A)
     .omega
   refine H B' U (q'.frame (g'.tt h') (λy hy e=>no (e▸hy))) (gJ.of S (g'.tt h') ⟨_,v',λhe=>⟨none,0,?_,?_,?_⟩⟩)
   .have:(nO V a ses (pA x n) n).d= []:=by
     unfold nO;split
     .rfl
     .unfold Hn;split<;>rfl
    rw[this];rfl
   .have:(nO V a ses (pA x n) n).d= []:=by
     unfold nO;split
     .rfl
     .unfold Hn;split<;>rfl
    rw[this];exact Row.nil
   .intro _ Q' hz;obtain⟨A,e,_⟩:=hz;cases e
 cases M:x.on with
 |false=>
  rw[ae (by show¬x.on=true;rw[M];decide)];refine fin h9 ?_ (Fr.refl _ _);have:(pA x n).p=⟨0,0,x.dest,.zero,⟨x.ep,n.1,n.2⟩,x.fT⟩:=by unfold pA;rw[M];rfl
  rw[this];exact m'
 |true=>
  rw[af (show x.on=true from M)];refine iT x.ep k' rfl rfl rfl rfl rfl (SZ 131072 m' λP' w' i'=>⟨OA i' n' bU,VB x.ep w' λC' x' A'=>fin C' ?_ (i'.tt A')⟩);have:(pA x n).p=⟨131072,0,x.dest,x.ep,⟨x.ep,n.1,n.2⟩,x.fT⟩:=by unfold pA;rw[M];rfl
  rw[this];exact x'

end Ask
end
end Go.Proofs.YtkdgpmeojgokdaaGreatDoor
