/-
  FU is proved here: parts of x7 proof, one behind x7 other (texts of this work, merged by a program; IA x7 theorem IB not use is left out). No condition.
-/
import Derived.Test.YtimiaphmdidfhaaGreatDoorMArwnf
set_option maxRecDepth 100000
set_option maxHeartbeats 4000000
namespace Go.Proofs.YtimiaphmdidfhaaGreatDoor
open Go.Den
open IntKind (wrap)
open Int (toNat)
section
open Go.fV
namespace fw
open iE
variable {h H d:aj} {t:Nat} {X:Ft} {R:fD} {p:ck} {c i:Nat} {l:Rh} {D:Nat→Prop} {L:List SC} {A:List fw}
variable {s:SC} {g:aj} {b:Nat} {E:Nat->Prop} {K:aj->Prop}
abbrev Tn(s:SC):List Value:= [.int .i64 (s.num:Int),.int .u64 (s.token:Int),.bool s.up,.bool s.watch,.slice s.kp s.kept.length s.kc,.slice s.np s.notes.length s.nc]
theorem HX(s:SC):(Tn s).length=6:=rfl
theorem tS:oN Tryz.prog 50 55 6 72 (.agg #[.I 0,.U 0,.B false,.B false,.Z,.Z]):=⟨dz,dz,rfl⟩
theorem Wz:Tryz.prog.underlying 50=some (.slice 55):=dz
structure CT (h:aj) (D:Nat->Prop) (s:SC):Prop where
 k:Row h s.kp (s.kept.flatMap AV.enc)
 kD:s.kept≠ []->∀y,aN s.kp y->D y
 kd: ∀a∈s.kept,a.v.ok h D
 n:Row h s.np (s.notes.flatMap jn)
 nD:s.notes≠ []->∀y,aN s.np y->D y
 nd: ∀n∈s.notes,n.ok h D
theorem CT.frame{Q:Nat->Prop}(j:CT h D s)(f:Fr Q h H)(k: ∀y,D y->¬Q y):CT H D s:=by
 refine⟨?_,j.kD,λa n=>(j.kd a n).frame f k,?_,j.nD,λa n=>(j.nd a n).frame f k⟩
 .by_cases e:s.kept= []
  .rw[e];exact .inl rfl
  .exact j.k.frame f (λa m=>k _ (j.kD e _ ⟨a,m,rfl⟩))
 .by_cases e:s.notes= []
  .rw[e];exact .inl rfl
  .exact j.n.frame f (λa m=>k _ (j.nD e _ ⟨a,m,rfl⟩))
theorem CT.mono{D':Nat->Prop}(f:CT h D s)(j: ∀y,D y->D' y):CT h D' s:=
 ⟨f.k,λe y m=>j y (f.kD e y m),λa k=>(f.kd a k).mono j,f.n,λe y m=>j y (f.nD e y m),λa k=>(f.nd a k).mono j⟩
def SL(d h:aj)(p:ck)(e c:Nat)(A:List fw):Prop:=
 ∃(a:List SC)(D:Nat->Prop),e=a.length/\fz h p e c 6 (a.flatMap Tn)/\a.map SC.abs=A/\(∀x∈a,CT h D x)/\(∀y,D y->d.size<=y/\y<h.size/\¬aN p y)/\∀y,aN p y->d.size<=y
theorem SL.len{a:Nat}(e:SL d h p a c A):a=A.length:=by
 obtain⟨x,D,f,_,j,_⟩:=e;rw[f,<-j,ay]
structure Cp (g h:aj) (b:Nat) (s:SC) (E:Nat->Prop):Prop where
 fr:Fr No g h
 cW:cG.at h b (s.num:Int) (s.token:Int) s.up s.watch s.kp s.kept.length s.kc s.np s.notes.length s.nc
 gb:g.size<=b
 ko:fz h s.kp s.kept.length s.kc 2 (s.kept.flatMap AV.enc)
 kg: ∀y,aN s.kp y->g.size<=y/\y≠b/\¬E y
 no:fz h s.np s.notes.length s.nc 1 (s.notes.flatMap jn)
 ng: ∀y,aN s.np y->g.size<=y/\y≠b/\¬E y/\¬aN s.kp y
 kd: ∀a∈s.kept,a.v.ok h E
 nd: ∀n∈s.notes,n.ok h E
 eg: ∀y,E y->g.size<=y/\y<h.size/\y≠b
theorem Cp.answer{a:AV}(C:Cp g h b s E)(hr:Row h a.v.p (bc a.v.b))(P':a.v.b.length<=1000)(O':s.kept.length<=1000)(hk: ∀H s' E',Cp g H b s' E'->s'.abs= { s.abs with kept:=s.abs.kept++ [a.abs] } ->K H):
  bh h (.C #[.U 0,.Z] 90) λm B'=>
     aT B' (AA m 0) (.U (a.id:Int)) λC'=>
     aT C' (AA m 1) (.L a.v.p a.v.b.length a.v.c) λw=>
     ∃(M:ck)(J I:Nat),aY w (AA b 4)=some (.L M J I)/\
     ∃(T:Int),aY w (AA m 0)=some (.U T)/\
     ∃(m':ck)(l' k':Nat),aY w (AA m 1)=some (.L m' l' k')/\
     Cl 27 #[.L m' l' k'] w λu' S=>
     ∃(p':ck)(o' n':Nat),u'=.L p' o' n'/\
     aY S (AA m 0)=some (.U T)/\
     aY S (AA b 4)=some (.L M J I)/\
     bh S (.C #[.U T,.L p' o' n'] 90) λw' U=>
     aY U (AA m 0)=some (.U T)/\
     aY U (AA b 4)=some (.L M J I)/\
     aW Tryz.prog (Builtin.append_ #[52,52] 52 #[.L M J I,.L (Sa w' 0) 1 1]) U λK' f'=>
     ∃(t':ck)(r' q':Nat),K'=.L t' r' q'/\
     aY f' (AA m 0)=some (.U T)/\
     aT f' (AA b 4) (.L t' r' q') λD'=>K D':=by
 refine cj.new λb1 M' L' z r=> ?_
 have V:=r.get C.cW id;have zb:b<h.size:=aC C.cW;refine⟨_,_,_,ak V,_,ak z,_,_,_,ak z,gP (hr.frame r bX) rfl ae λP f j i' u x'=>⟨_,_,_,rfl,ak (u.get z id),ak (u.get V id),cK ?_⟩⟩;have Q:Fr No j (j.push (.C #[.U (a.id:Int),.L P a.v.b.length f] 90)):=Fr.push _ _;have j':Row (j.push (.C #[.U (a.id:Int),.L P a.v.b.length f] 90)) (Sa j.size 0) (AV.enc ⟨a.id,⟨P,f,a.v.b⟩⟩):=iT (cs:=AV.enc ⟨a.id,⟨P,f,a.v.b⟩⟩);have J':(j.push (.C #[.U (a.id:Int),.L P a.v.b.length f] 90)).size=j.size+1:=dk _;generalize j.push (.C #[.U (a.id:Int),.L P a.v.b.length f] 90)=z' at Q j' J'⊢;have O:=u.tt Q;have e':=r.tt O;have g':=O.get V id;have c':=O.get z id;refine⟨ak c',ak g',?_⟩;have S':=r.1;have T':=u.1;have zg:=C.fr.1;have h': ∀y,aN s.kp y->y≠b:=λy hy=>(C.kg y hy).2.1
 have Z: ∀y,aN s.kp y->y<h.size:=λy hy=>C.ko.dC hy
 refine dH tA uA (C.ko.frame e' bX) j' rfl (λu' hv=>by simp at hv;rcases hv with rfl|rfl<;>rfl) ae ae ?_;intro b' d' A' H' _ F y';have v':=F.get c' (λhx=>bR (Z _ hx));refine⟨_,_,_,rfl,ak v',?_⟩;have F':=F.get g' (λhx=>h' _ hx rfl);refine bD F' bV λn q1 q2 q3=> ?_
 have v:Fr (λx=>x=b) A' n:=Fr.of_eq q2 q3;have q:Fr (λx=>x=b\/aN s.kp x) h n:=(e'.mono (λ_ _=>False.elim)).tt ((F.mono (λ_ _ hx=> .inr hx)).tt (v.mono (λ_ _ hx=> .inl hx)));have Q':=F.1;have R':=v.1;have a': ∀y,aN b' y->aN s.kp y\/z'.size<=y:=y';have B: ∀y,aN P y->h.size<=y/\y<j.size:=λy hy=>⟨bR (x' y hy),i'.dC hy⟩
 have G':fz n P a.v.b.length f 1 (bc a.v.b):=((i'.frame Q bX).frame F (λy hy hx=>gG (B y hy) (Z y hx))).frame v (λy hy e=>bR (B y hy));have eQ: ∀y,E y->¬(y=b\/aN s.kp y):=λy hy hx=>hx.elim (C.eg y hy).2.2 (λhx=>(C.kg y hx).2.2 hy)
 have I':=H'.frame v (λy hy e=>(a' y hy).elim (λhx=>h' y hx e) (λhx=>ae));refine hk n { s with kept:=s.kept++ [⟨a.id,⟨P,f,a.v.b⟩⟩],kp:=b',kc:=d' } (λy=>E y\/aN P y) ⟨?_,?_,C.gb,?_,?_,?_,?_,?_,?_,?_⟩ ?_
 .exact C.fr.step q (λy hy hx=>hx.elim (λe=>bR C.gb) (λhx=>bR ((C.kg y hx).1)))
 .show n[b]? =_;rw[q1];dsimp only;rw[au];rfl
 .show fz n b' (s.kept++ [_]).length d' 2 ((s.kept++ [_]).flatMap AV.enc);rw[au,cg];simpa using I'
 .intro y hy;rcases a' y hy with hx|hx
  .exact⟨(C.kg y hx).1,(C.kg y hx).2.1,λo=>o.elim (C.kg y hx).2.2 (λk=>gG (B y k) (Z y hx))⟩
  .exact⟨ae,ae,λo=>o.elim (λk=>bR ((C.eg y k).2.1)) (λk=>bR (B y k))⟩
 .exact C.no.frame q (λy hy hx=>hx.elim (C.ng y hy).2.1 (C.ng y hy).2.2.2)
 .intro y hy;have G:=C.ng y hy;have ly:y<h.size:=C.no.dC hy;exact⟨G.1,G.2.1,λo=>o.elim G.2.2.1 (λk=>bR (B y k)),λhx=>(a' y hx).elim G.2.2.2 (λk=>ae)⟩
 .intro x hx;rcases bE.1 hx with hx|hx
  .exact((C.kd x hx).frame q eQ).mono (λy=> .inl)
  .simp at hx;subst hx;exact BV.jy G' (λy=> .inr)
 .intro x hx;exact((C.nd x hx).frame q eQ).mono (λy=> .inl)
 .rintro y (hy|hy)
  .exact⟨(C.eg y hy).1,bR ((C.eg y hy).2.1),(C.eg y hy).2.2⟩
  .exact⟨bR (B y hy),bR (B y hy),bR (B y hy)⟩
 .unfold SC.abs;dsimp only;rw[aV];rfl
theorem Cp.note{n:BV}(C:Cp g h b s E)(hr:Row h n.p (bc n.b))(z':n.b.length<=1000)(y':s.notes.length<=1000)(hk: ∀H s' E',Cp g H b s' E'->s'.abs= { s.abs with notes:=s.abs.notes++ [n.b] } ->K H):
  ∃(u:ck)(r T:Nat),aY h (AA b 5)=some (.L u r T)/\
       Cl 27 #[.L n.p n.b.length n.c] h λw' O=>
       ∃(f':ck)(e' d':Nat),w'=.L f' e' d'/\
       aY O (AA b 5)=some (.L u r T)/\
       bh O (.C #[.L f' e' d'] 26) λj' Q=>
       aY Q (AA b 5)=some (.L u r T)/\
       aW Tryz.prog (Builtin.append_ #[53,53] 53 #[.L u r T,.L (Sa j' 0) 1 1]) Q λx' o'=>
       ∃(i':ck)(h' g':Nat),x'=.L i' h' g'/\
       aT o' (AA b 5) (.L i' h' g') λp'=>K p':=by
 have zb:b<h.size:=aC C.cW;refine⟨_,_,_,ak C.cW,gP hr rfl ae λP f j b' w k'=>⟨_,_,_,rfl,ak (w.get C.cW id),cK ?_⟩⟩;have z:Fr No j (j.push (.C #[.L P n.b.length f] 26)):=Fr.push _ _;have c':Row (j.push (.C #[.L P n.b.length f] 26)) (Sa j.size 0) (jn ⟨P,f,n.b⟩):=iT (cs:=jn ⟨P,f,n.b⟩);have v':(j.push (.C #[.L P n.b.length f] 26)).size=j.size+1:=dk _;generalize j.push (.C #[.L P n.b.length f] 26)=m' at z c' v'⊢;have v:=w.tt z;have U:=v.get C.cW id;refine⟨ak U,?_⟩;have D':=w.1;have zg:=C.fr.1;have a': ∀y,aN s.np y->y≠b:=λy hy=>(C.ng y hy).2.1
 have V: ∀y,aN s.np y->y<h.size:=λy hy=>C.no.dC hy
 refine dH tN uN (C.no.frame v bX) c' rfl (λA' S=>by simp at S;subst S;rfl) ae ae ?_;intro I J n' t' _ o l';refine⟨_,_,_,rfl,?_⟩;have q':=o.get U (λhx=>a' _ hx rfl);refine bD q' bV λk q1 q2 q3=> ?_
 have q:Fr (λx=>x=b) n' k:=Fr.of_eq q2 q3;have F:Fr (λx=>x=b\/aN s.np x) h k:=(v.mono (λ_ _=>False.elim)).tt ((o.mono (λ_ _ hx=> .inr hx)).tt (q.mono (λ_ _ hx=> .inl hx)));have B':=o.1;have C':=q.1;have Z: ∀y,aN I y->aN s.np y\/m'.size<=y:=l';have B: ∀y,aN P y->h.size<=y/\y<j.size:=λy hy=>⟨k' y hy,b'.dC hy⟩
 have r':fz k P n.b.length f 1 (bc n.b):=((b'.frame z bX).frame o (λy hy hx=>gG (B y hy) (V y hx))).frame q (λy hy e=>bR (B y hy));have M: ∀y,E y->¬(y=b\/aN s.np y):=λy hy hx=>hx.elim (C.eg y hy).2.2 (λhx=>(C.ng y hx).2.2.1 hy)
 have u':=t'.frame q (λy hy e=>(Z y hy).elim (λhx=>a' y hx e) (λhx=>ae));refine hk k { s with notes:=s.notes++ [⟨P,f,n.b⟩],np:=I,nc:=J } (λy=>E y\/aN P y) ⟨?_,?_,C.gb,?_,?_,?_,?_,?_,?_,?_⟩ ?_
 .exact C.fr.step F (λy hy hx=>hx.elim (λe=>bR C.gb) (λhx=>bR ((C.ng y hx).1)))
 .show k[b]? =_;rw[q1];dsimp only;rw[au];rfl
 .exact C.ko.frame F (λy hy hx=>hx.elim (C.kg y hy).2.1 (λa=>(C.ng y a).2.2.2 hy))
 .intro y hy;have G:=C.kg y hy;have ly:y<h.size:=C.ko.dC hy;exact⟨G.1,G.2.1,λm=>m.elim G.2.2 (λa=>bR (B y a))⟩
 .show fz k I (s.notes++ [_]).length J 1 ((s.notes++ [_]).flatMap jn);rw[au,cg];simpa using u'
 .intro y hy;rcases Z y hy with hx|hx
  .exact⟨(C.ng y hx).1,(C.ng y hx).2.1,λm=>m.elim (C.ng y hx).2.2.1 (λa=>gG (B y a) (V y hx)),(C.ng y hx).2.2.2⟩
  .exact⟨ae,ae,λm=>m.elim (λa=>bR ((C.eg y a).2.1)) (λa=>bR (B y a)),λa=>bR (C.ko.dC a)⟩
 .intro x hx;exact((C.kd x hx).frame F M).mono (λy=> .inl)
 .intro x hx;rcases bE.1 hx with hx|hx
  .exact((C.nd x hx).frame F M).mono (λy=> .inl)
  .simp at hx;subst hx;exact BV.jy r' (λy=> .inr)
 .rintro y (hy|hy)
  .exact⟨(C.eg y hy).1,bR ((C.eg y hy).2.1),(C.eg y hy).2.2⟩
  .exact⟨bR (B y hy),bR (B y hy),bR (B y hy)⟩
 .unfold SC.abs;dsimp only;rw[aV];rfl
theorem sy(r':Has h t X A)(ok:mH A)(hk: ∀H p' l' c',SL h H p' l' c' A->Fr No h H->R (.L p' l' c') H):Cl 9 #[.P t 0] h R:=by
 obtain⟨_,l,L,TB,rfl,_,hS⟩:=r';have hl:=ok.le;rw[ay]at hl;obtain⟨tp,tc,m',D',_⟩:=TB.cW;refine u9.walk ⟨_,_,_,ak m',?_⟩;refine⟨λJ Z V i h1=> ∃k:Nat,i=(k:Int)/\k<=L.length/\SL h h1 J Z V ((L.map SC.abs).take k)/\Fr No h h1,λ_ _ _ i _=>L.length - i.toNat,⟨0,rfl,ae,⟨[],λ_=>False,rfl,.nil rfl rfl rfl rfl,rfl,(λx hx=>by cases hx),(λy hy=>hy.elim),λy ⟨a,e,_⟩=>by cases e⟩,Fr.refl _ _⟩,?_⟩;rintro J Z V _ g ⟨k,rfl,I',O,F⟩;have s':=TB.on F;have J':=F.get m' id;have q':=D'.frame F bX;have B':=O.len;rw[bw,ay]at B';by_cases w':k<L.length
 .have q1:(k:Int)<(L.length:Int):=ae
  simp only[q1,bu,ba,aF];have u:L[k]? =some L[k]:=ai w';generalize L[k]=s at u;have w:=s'.ses k s u;have oX:=ok.at_ k _ (kL u);have kl:s.kept.length<=6:=by have:=oX.kl;rwa[show s.abs.kept.length=s.kept.length from ay _]at this
  have nl:s.notes.length<=6:=by have:=oX.nl;rwa[show s.abs.notes.length=s.notes.length from ay _]at this
  have kb: ∀a∈s.kept,a.v.b.length<=1000:=λa f=>(oX.kd a.abs (bz f)).2
  have nb: ∀a∈s.notes,a.b.length<=1000:=λa f=>by have:=(oX.nd a.b (bz f)).2;omega
  obtain⟨ab,E',rfl⟩:=q'.addr ae;refine⟨⟨by first|trivial|omega,by first|trivial|omega⟩,ax.2 ⟨some (AA s.b 0),?_,ax.2 ?_⟩⟩
  .rw[cp];exact q'.cell (by rw[aD,u];rfl)
  refine cG.ld w.cW (cG.new λb h8 eb i' f8=> ?_);refine bD i' bV λh9 a1 a2 a3=>bD a1 bV λg' b1 b2 b3=>ax.2 ?_
  have T:Fr No g g':=f8.step ((Fr.of_eq (S:=λx=>x=b) a2 a3).tt (Fr.of_eq b2 b3)) (λy hy e=>ae);have e':=w.frame T (λ_ _ _ _ _=>id) bX;refine⟨_,_,_,ak e'.cW,?_⟩;have d':Cp g g' b ⟨b,s.num,s.token,s.up,s.watch, [],none,0, [],none,0⟩ (λ_=>False):=
   ⟨T,b1,ae,.nil rfl rfl rfl rfl,(λy ⟨a,e,_⟩=>by cases e),.nil rfl rfl rfl rfl,(λy ⟨a,e,_⟩=>by cases e),(λa f=>by cases f),(λa f=>by cases f),λy hy=>hy.elim⟩
  refine⟨λi H=> ∃(j:Nat)(S:SC)(E:Nat->Prop),i=(j:Int)/\j<=s.kept.length/\Cp g H b S E/\S.abs=⟨s.num,s.token,s.up,s.watch,s.abs.kept.take j, []⟩,λi _=>s.kept.length - i.toNat,⟨0,_,_,rfl,ae,d',rfl⟩,?_⟩;clear d' e' T b1 b2 b3 a1 a2 a3 i' f8;rintro _ G' ⟨j,S,E,rfl,hj,C,n⟩;have z:=w.frame C.fr (λ_ _ _ _ _=>id) bX;by_cases I:j<s.kept.length
  .have q:(j:Int)<(s.kept.length:Int):=ae
   simp only[q,bu,ba,aF];have f:s.kept[j]? =some s.kept[j]:=ai I;generalize s.kept[j]=a at f;have a':=z.xE;obtain⟨K',L',j'⟩:=a'.addr ae;rw[j']at a';refine⟨⟨by first|trivial|omega,by first|trivial|omega⟩,?_⟩;rw[j'];refine ax.2 (cj.w5 (a'.fP gQ f) ?_);have C':S.kept.length=j:=by
    have:=bQ (λx=>x.kept.length) n;have Q:S.abs.kept.length=S.kept.length:=ay _;dsimp only at this;rw[Q,bw]at this;have e2:s.abs.kept.length=s.kept.length:=ay _;omega
   refine C.answer (z.kd a (aK f)).row (kb a (aK f)) ae λt' b' P M U=> ?_
   rw[bC ae ae];refine⟨⟨j+1,b',P,ae,ae,M,?_⟩,?_⟩
   .rw[U,n];dsimp only;congr 1
    rw[bt,show s.abs.kept[j]? =some a.abs by show(s.kept.map AV.abs)[j]? =_;rw[aD,f];rfl];rfl
   .show s.kept.length - Int.toNat ((j:Int)+1)<s.kept.length - Int.toNat (j:Int);omega
  .have q: ¬(j:Int)<(s.kept.length:Int):=ae
   simp only[q,bg,aq,aL];refine ax.2 ⟨_,_,_,ak z.cW,?_⟩;have h':S.abs=⟨s.num,s.token,s.up,s.watch,s.abs.kept,s.abs.notes.take 0⟩:=by
    rw[n,bn (by have:s.abs.kept.length=s.kept.length:=ay _;omega)];rfl
   refine⟨λi H=> ∃(j:Nat)(S:SC)(E:Nat->Prop),i=(j:Int)/\j<=s.notes.length/\Cp g H b S E/\S.abs=⟨s.num,s.token,s.up,s.watch,s.abs.kept,s.abs.notes.take j⟩,λi _=>s.notes.length - i.toNat,⟨0,S,E,rfl,ae,C,h'⟩,?_⟩;clear C z n h' hj I q;rintro _ u' ⟨j,S,E,rfl,hj,C,n⟩;have f':=w.frame C.fr (λ_ _ _ _ _=>id) bX;by_cases I:j<s.notes.length
   .have q:(j:Int)<(s.notes.length:Int):=ae
    simp only[q,bu,ba,aF];have f:s.notes[j]? =some s.notes[j]:=ai I;generalize s.notes[j]=a at f;have v:=f'.CK;obtain⟨M',O',k'⟩:=v.addr ae;rw[k']at v;refine⟨⟨by first|trivial|omega,by first|trivial|omega⟩,?_⟩;rw[k'];refine ax.2 ⟨a.p,a.b.length,a.c,?_,?_⟩
    .have:=(v.fP jH f).1;rwa[eX]at this
    have C':S.notes.length=j:=by
     have:=bQ (λx=>x.notes.length) n;have Q:S.abs.notes.length=S.notes.length:=ay _;dsimp only at this;rw[Q,bw]at this;have e2:s.abs.notes.length=s.notes.length:=ay _;omega
    refine C.note (f'.nd a (aK f)).row (nb a (aK f)) ae λt' b' P M U=> ?_
    rw[bC ae ae];refine⟨⟨j+1,b',P,ae,ae,M,?_⟩,?_⟩
    .rw[U,n];dsimp only;congr 1
     rw[bt,show s.abs.notes[j]? =some a.b by show(s.notes.map BV.b)[j]? =_;rw[aD,f];rfl];rfl
    .show s.notes.length - Int.toNat ((j:Int)+1)<s.notes.length - Int.toNat (j:Int);omega
   .have q: ¬(j:Int)<(s.notes.length:Int):=ae
    simp only[q,bg,aq,aL];have v':S.abs=s.abs:=by
     rw[n,bn (by have:s.abs.notes.length=s.notes.length:=ay _;omega)];rfl
    refine cG.ld C.cW ?_;obtain⟨xs,D,x',n',y',z',o,o'⟩:=O;have v:=n'.frame C.fr bX;refine iS tS Wz v rfl (λQ' hv=>by simp at hv;rcases hv with rfl|rfl|rfl|rfl|rfl|rfl<;>rfl) ae ae ?_;intro P' F' H' A' B G;refine⟨_,_,_,rfl,?_⟩;rw[bC ae ae];have R':=C.fr.1;have zg:=F.1;have r: ∀y,aN J y->y<g.size:=λy hy=>n'.dC hy
    refine⟨⟨k+1,ae,ae,⟨xs++ [S],λy=>D y\/E y\/aN S.kp y\/aN S.np y,by rw[au,x'];rfl,?_,?_,?_,?_,?_⟩,?_⟩,?_⟩
    .rw[cg];simpa using A'
    .rw[aV,y',bt,aD,u];show _++ [S.abs]=_++ [s.abs];rw[v']
    .intro x hx;rcases bE.1 hx with hx|hx
     .refine(((z' x hx).frame C.fr bX).frame B (λy hy=>(o y hy).2.2)).mono (λy=> .inl)
     .simp at hx;subst hx;refine CT.frame (h:=u') ⟨C.ko.iy,λ_ y hy=> .inr (.inr (.inl hy)),λa f=>(C.kd a f).mono (λy hy=> .inr (.inl hy)),C.no.iy,λ_ y hy=> .inr (.inr (.inr hy)),λa f=>(C.nd a f).mono (λy hy=> .inr (.inl hy))⟩ B ?_;rintro y (hy|hy|hy|hy) m
      .exact(o y hy).2.2 m
      .have:=r y m;have:=(C.eg y hy).1;omega
      .have:=r y m;have:=(C.kg y hy).1;omega
      .have:=r y m;have:=(C.ng y hy).1;omega
    .have S':=B.1;rintro y (hy|hy|hy|hy)
     .exact⟨(o y hy).1,bR ((o y hy).2.1),λm=>(G y m).elim (o y hy).2.2 (λh2=>bR ((o y hy).2.1))⟩
     .have a:=C.eg y hy;exact⟨ae,ae,λm=>(G y m).elim (λh2=>bR (r y h2)) (λh2=>ae)⟩
     .have a:=C.kg y hy;have b:=C.ko.dC hy;exact⟨ae,ae,λm=>(G y m).elim (λh2=>bR (r y h2)) (λh2=>ae)⟩
     .have a:=C.ng y hy;have b:=C.no.dC hy;exact⟨ae,ae,λm=>(G y m).elim (λh2=>bR (r y h2)) (λh2=>ae)⟩
    .intro y hy;rcases G y hy with h2|h2
     .exact o' y h2
     .omega
    .exact(F.tt C.fr).step B (λy hy m=>bR (o' y m))
    .show L.length - Int.toNat ((k:Int)+1)<L.length - Int.toNat (k:Int);omega
 .have q1: ¬(k:Int)<(L.length:Int):=ae
  simp only[q1,bg,aq,aL];rw[bn (by rw[ay];omega)]at O;exact hk g J Z V O F

end fw
end
section
open Go.fV
namespace fw
open iE
variable {h H:aj} {t:Nat} {X:Ft} {R:fD} {p:ck} {c i:Nat} {A:List fw}
def oa(s:fw):cM:=ct s.num++ct s.token++ct (bit s.up)++ct (bit s.watch)++ct s.kept.length++ct s.notes.length
def FC(a:Nat×cM):cM:=ct a.1++dW a.2
def Ru(s:fw):List (cM):=oa s::(s.kept.map FC++s.notes.map dW)
def tO(A:List fw):List (cM):=A.flatMap Ru
theorem PV(s:fw):(Ru s).length=1+s.kept.length+s.notes.length:=by unfold Ru;simp;omega
theorem wG(o:mH A):(tO A).length<=13*A.length:=by
 have k: ∀B:List fw,(∀s∈B,s.kept.length<=6/\s.notes.length<=6)->(tO B).length<=13*B.length:=by
  intro B;induction B with
  |nil=>intro _;simp[tO]
  |cons s B I=>
   intro a;have f:=a s dj;have g:=I (λx e=>a x (cv _ e));unfold tO at*;rw[fG,au,PV,bf];omega
 refine k A λs d=> ?_
 obtain⟨i,b⟩:=bO d;exact⟨(o.at_ i s b).kl,(o.at_ i s b).nl⟩
theorem mf(e9:Has h t X A)(ok:mH A)(hk: ∀H p' l' c',BL h H p' l' c' (tO A)->Fr No h H->R (.L p' l' c') H):Cl 31 #[.P t 0] h R:=by
 refine tM.walk (sy e9 ok λg p1 l1 c1 O1 f1=>⟨_,_,_,rfl,?_⟩);obtain⟨x,a8,rfl,h7,rfl,n',c9,m7⟩:=O1;have h8:=ok.le;rw[ay]at h8;refine⟨λZ O oc i h2=> ∃k:Nat,i=(k:Int)/\k<=x.length/\BL g h2 Z O oc (tO ((x.map SC.abs).take k))/\O<=13*k/\Fr No g h2,λ_ _ _ i _=>x.length - i.toNat,⟨0,rfl,ae,BL.nil,ae,Fr.refl _ _⟩,?_⟩;rintro Z O oc _ j' ⟨k,rfl,m4,B,m6,T⟩;by_cases h6:k<x.length
 .have q1:(k:Int)<(x.length:Int):=ae
  simp only[q1,bu,ba,aF];have r:x[k]? =some x[k]:=ai h6;generalize x[k]=s at r;have c8:(x.map SC.abs)[k]? =some s.abs:=by rw[aD,r];rfl
  have oX:=ok.at_ k _ c8;have kl:s.kept.length<=6:=by have:=oX.kl;rwa[show s.abs.kept.length=s.kept.length from ay _]at this
  have nl:s.notes.length<=6:=by have:=oX.nl;rwa[show s.abs.notes.length=s.notes.length from ay _]at this
  have n0:s.num=k+1:=oX.num;have n1:s.token<=2147483648:=oX.tk.2;have kb: ∀a∈s.kept,a.id<=1099511627776/\a.v.b.length<=1000:=λa f=>oX.kd a.abs (bz f)
  have nb: ∀a∈s.notes,a.b.length<=600:=λa f=>(oX.nd a.b (bz f)).2
  have d6:=h7.frame T bX;have j7: ∀{H:aj},Fr No j' H->CT H a8 s:=λw'=>(n' s (aK r)).frame (T.tt w') bX
  obtain⟨ab,j8,rfl⟩:=d6.addr ae;have zg:=T.1;have zh:=f1.1;refine⟨⟨by first|trivial|omega,by first|trivial|omega⟩,ax.2 (cG.w5 (d6.fP HX r) (cG.new λb h9 eb m f9=> ?_))⟩;refine⟨_,ak m,_,ak m,_,ak m,_,ak m,_,_,_,ak m,_,_,_,ak m,?_⟩;refine iE.gL λg6 e7 f0 b0 x' c0=>⟨_,rfl,?_⟩
  have T':Up h9 f0 g6:=⟨x',c0⟩;have G: ∀{S:Nat->Prop}{H:aj},Up h9 S H->¬S b:=λi5 hx=>by have:=i5.ge b hx;have:=aC m;omega
  have n:=x'.get m id;refine⟨ak n,ak n,ak n,ak n,ak n,ak n,?_⟩;refine im b0 bV ae λk5 i8 s' M'=>⟨_,rfl,?_⟩
  have o:=M'.fr.get n (G T');have U':=T'.step M';have e1:gC (s.num:Int)=s.num:=by unfold gC;omega
  rw[e1,cH]at s';have l1:=(bU s.num).2;refine⟨ak o,ak o,ak o,ak o,ak o,?_⟩;refine fM s.token s' ae rfl ae λk6 i9 b1 O'=>⟨_,rfl,?_⟩
  have z:=O'.fr.get o (G U');have V':=U'.step O';have l2:=(bU s.token).2;refine⟨ak z,ak z,ak z,ak z,?_⟩;refine KP b1 (by rw[au];omega) λk7 j0 b3 P'=>⟨_,rfl,?_⟩
  have P:=P'.fr.get z (G V');have X':=V'.step P';have l3:=(bU (bit s.up)).2;refine⟨ak P,ak P,ak P,?_⟩;refine KP b3 (by simp only[au];omega) λk8 j1 b4 Q'=>⟨_,rfl,?_⟩
  have b':=Q'.fr.get P (G X');have Z':=X'.step Q';have l4:=(bU (bit s.watch)).2;refine⟨ak b',ak b',?_⟩;refine im b4 (by simp only[au];omega) ae λk9 j2 t' R'=>⟨_,rfl,?_⟩
  have d':=R'.fr.get b' (G Z');have a0:=Z'.step R';have e5:gC ((s.kept.length:Nat):Int)=s.kept.length:=by unfold gC;omega
  rw[e5]at t';have l5:=(bU s.kept.length).2;refine⟨ak d',ak d',?_⟩;refine im t' (by simp only[au];omega) ae λg7 j3 a' S'=>⟨_,rfl,?_⟩
  have e':=S'.fr.get d' (G a0);have a5:=a0.step S';have e6:gC ((s.notes.length:Nat):Int)=s.notes.length:=by unfold gC;omega
  rw[e6]at a';have l6:=(bU s.notes.length).2;refine⟨ak e',ak e',?_⟩;have eh:ct s.num++ct s.token++ct (bit s.up)++ct (bit s.watch)++ct s.kept.length++ct s.notes.length=oa s.abs:=by
   unfold oa;rw[show s.abs.kept.length=s.kept.length from ay _,show s.abs.notes.length=s.notes.length from ay _];rfl
  have m5:(oa s.abs).length<=60:=by rw[<-eh];simp only[au];omega
  rw[eh]at a';refine iM a' ae λq D l G' y' c2=>⟨_,_,_,rfl,?_⟩
  have f':=y'.get e' id;refine⟨ak f',ak f',?_⟩;have K:Fr No j' l:=f9.tt (a5.fr.tt y');have z9:=f9.1;have n7:=a5.fr.1;have o2:=K.1;obtain⟨ys,DB,i0,D',i1,d0,E',d1⟩:=B;refine cK ?_;have F:Fr No l (l.push (.C #[.slice q (oa s.abs).length D] 26)):=Fr.push _ _;have I':Row (l.push (.C #[.slice q (oa s.abs).length D] 26)) (Sa l.size 0) (jn ⟨q,D,oa s.abs⟩):=iT (cs:=jn ⟨q,D,oa s.abs⟩);have d9:(l.push (.C #[.slice q (oa s.abs).length D] 26)).size=l.size+1:=dk _;generalize l.push (.C #[.slice q (oa s.abs).length D] 26)=l0 at F I' d9⊢;have g':=F.get f' id;refine⟨ak g',ak g',?_⟩;have H': ∀y,aN Z y->y<j'.size:=λy hy=>D'.dC hy
  have d2: ¬aN Z b:=λhx=>by have:=H' b hx;omega
  refine dH tN uN ((D'.frame K bX).frame F bX) I' rfl (λn6 hv=>by simp at hv;subst hv;rfl) ae ae ?_;intro d7 f8 z' d4 _ E U;have C:=E.get g' d2;refine⟨_,_,_,rfl,ak C,ak C,?_⟩;have n8:=E.1;have u': ∀y,aN q y->g7.size<=y/\y<l.size:=λy hy=>⟨c2 y hy,G'.dC hy⟩
  have a7:BL g z' d7 (O+1) f8 (tO ((x.map SC.abs).take k)++ [oa s.abs]):=by
   refine⟨ys++ [⟨q,D,oa s.abs⟩],λy=>DB y\/aN q y,by rw[au,i0];rfl,?_,?_,?_,?_,?_⟩
   .rw[cg];simpa using d4
   .rw[aV,i1];rfl
   .intro i6 hx;rcases bE.1 hx with hx|hx
    .exact((((d0 i6 hx).frame K bX).frame F bX).frame E (λy hy=>(E' y hy).2.2)).mono (λy=> .inl)
    .simp at hx;subst hx;exact BV.jy ((G'.frame F bX).frame E (λy hy d=>gG (u' y hy) (H' y d))) (λy=> .inr)
   .rintro y (hy|hy)
    .have a:=E' y hy;exact⟨a.1,ae,λd=>(U y d).elim a.2.2 (λh2=>ae)⟩
    .have a:=u' y hy;exact⟨ae,ae,λd=>(U y d).elim (λh2=>bR (H' y h2)) (λh2=>ae)⟩
   .intro y hy;rcases U y hy with h2|h2
    .exact d1 y h2
    .omega
  have a9:Fr No g z':=(T.tt (K.tt F)).step E (λy hy d=>bR (d1 y d));have o3:b<z'.size:=aC C;have m3:g.size<=b:=ae
  have d3: ¬aN d7 b:=λd=>(U b d).elim d2 (λh2=>ae)
  have SR: ∀{H:aj},Fr No g H->CT H a8 s:=λw'=>(n' s (aK r)).frame w' bX
  clear d4 E U I' d9 F g' f' G' y' c2 a' e' t' d' b4 b' b3 P b1 z s' o b0 n m S' R' Q' P' O' M' x' c0 T' U' V' X' Z' a0 a5 u' D' d0 E' K f9;refine⟨_,_,_,ak C,?_⟩;refine⟨λI u V i H=> ∃j:Nat,i=(j:Int)/\j<=s.kept.length/\BL g H I u V (tO ((x.map SC.abs).take k)++ [oa s.abs]++(s.abs.kept.map FC).take j)/\u<=O+1+j/\Fr No g H/\
   cG.at H b (s.num:Int) (s.token:Int) s.up s.watch s.kp s.kept.length s.kc s.np s.notes.length s.nc/\¬aN I b,λ_ _ _ i _=>s.kept.length - i.toNat,⟨0,rfl,ae,cI a7,ae,a9,C,d3⟩,?_⟩
  clear a7 a9 C d3;rintro I u V _ g8 ⟨j,rfl,hj,v,c7,w,h',F'⟩;have i7:=w.1;by_cases m':j<s.kept.length
  .have Q:(j:Int)<(s.kept.length:Int):=ae
   simp only[Q,bu,ba,aF];have f:s.kept[j]? =some s.kept[j]:=ai m';generalize s.kept[j]=a at f;have J':=(SR w).k;obtain⟨ka,B'⟩:=J'.some (λe=>by have:=bQ List.length e;rw[eO AV.enc 2 gQ,bG]at this;omega);rw[B']at J';refine⟨⟨by first|trivial|omega,by first|trivial|omega⟩,?_⟩;rw[B'];have m8:=kb a (aK f);refine ax.2 (cj.w5 (J'.fP gQ f) (cj.new λb2 g9 k3 k' i'=>⟨_,ak k',_,_,_,ak k',?_⟩));refine iE.gL λh0 e7 f2 f4 b7 g3=>⟨_,rfl,?_⟩
   have e0:Up g9 f2 h0:=⟨b7,g3⟩;have v':=b7.get k' id;refine⟨ak v',ak v',?_⟩;refine fM a.id f4 bV rfl ae λh1 j4 b5 d8=>⟨_,rfl,?_⟩
   rw[cH]at b5;have a6:=e0.step d8;have f7:=d8.fr.get v' (λhx=>gG (e0.ge b2 hx) (aC k'));refine⟨ak f7,?_⟩;have e8:Fr No g h1:=w.tt (i'.tt a6.fr);have l7:=(bU a.id).2;have L':=((SR e8).kd a (aK f)).row;refine nL b5 ae L' rfl ae (λy hy C' hS=> ?_) λl9 j5 f5 i3=>⟨_,rfl,?_⟩
   .have a1:=(n' s (aK r)).kd a (aK f);have a2:=(c9 y (a1.own C' y hy)).2.1;have a3:=a6.ge y hS;have a4:=i'.1;omega
   have e2:=a6.step i3;have l8:=(bU a.v.b.length).2;have el:(dW a.v.b).length=(ct a.v.b.length).length+a.v.b.length:=by unfold dW;rw[au]
   refine iM f5 (by rw[au];omega) λn4 k1 h3 d5 g0 c3=>⟨_,_,_,rfl,?_⟩
   have L:Fr No g8 h3:=i'.tt (e2.fr.tt g0);have n9:=L.1;have zu:=(i'.tt e2.fr).1;have er:ct a.id++dW a.v.b=FC a.abs:=rfl;rw[er]at d5⊢;refine(v.on L).push ae d5 (λy hy=>⟨bR (c3 y hy),λd=>gG (v.lt d) (c3 y hy)⟩) ae ?_;intro n2 j9 m0 o' b8 g4;refine⟨_,_,_,rfl,?_⟩;rw[bC ae ae];refine⟨⟨j+1,ae,ae,?_,ae,?_,(by rw[<-B'];exact b8.get (L.get h' id) F'),?_⟩,?_⟩
   .rw[di]at o';rw[bt,show(s.abs.kept.map FC)[j]? =some (FC a.abs) by show((s.kept.map AV.abs).map FC)[j]? =_;rw[aD,aD,f];rfl];rw[<-di]at o'⊢;exact o'
   .refine(w.tt L).step b8 (λy hy d=> ?_);obtain⟨_,_,_,_,_,_,_,A'⟩:=v;have:=A' y d;omega
   .intro d;rcases g4 b d with h2|h2
    .exact F' h2
    .have:=aC (L.get h' id);omega
   .show s.kept.length - Int.toNat ((j:Int)+1)<s.kept.length - Int.toNat (j:Int);omega
  .have Q: ¬(j:Int)<(s.kept.length:Int):=ae
   simp only[Q,bg,aq,aL];rw[bn (l:=s.abs.kept.map FC) (by rw[ay,show s.abs.kept.length=s.kept.length from ay _];omega)]at v;refine⟨_,_,_,ak h',?_⟩;refine⟨λI u V i H=> ∃j:Nat,i=(j:Int)/\j<=s.notes.length/\BL g H I u V (tO ((x.map SC.abs).take k)++ [oa s.abs]++s.abs.kept.map FC++(s.abs.notes.map dW).take j)/\u<=O+7+j/\Fr No g H,λ_ _ _ i _=>s.notes.length - i.toNat,⟨0,rfl,ae,cI v,ae,w⟩,?_⟩;clear v w h' F' i7 c7 m' hj Q;rintro I u V _ c5 ⟨j,rfl,hj,J,c7,M⟩;have o0:=M.1;by_cases m':j<s.notes.length
   .have Q:(j:Int)<(s.notes.length:Int):=ae
    simp only[Q,bu,ba,aF];have f:s.notes[j]? =some s.notes[j]:=ai m';generalize s.notes[j]=a at f;have K':=(SR M).n;obtain⟨ka,c6⟩:=K'.some (λe=>by have:=bQ List.length e;rw[eO jn 1 jH,bG]at this;omega);rw[c6]at K';refine⟨⟨by first|trivial|omega,by first|trivial|omega⟩,?_⟩;rw[c6];have m9:=nb a (aK f);refine ax.2 ⟨a.p,a.b.length,a.c,?_,?_⟩
    .have:=(K'.fP jH f).1;rwa[eX]at this
    refine iE.gL λh4 e7 f3 f6 b9 g5=>⟨_,rfl,?_⟩
    have e3:Up c5 f3 h4:=⟨b9,g5⟩;have L':=((SR (M.tt b9)).nd a (aK f)).row;refine nL f6 bV L' rfl ae (λy hy C' hS=> ?_) λm1 j6 b6 i4=>⟨_,rfl,?_⟩
    .have a1:=(n' s (aK r)).nd a (aK f);have a2:=(c9 y (a1.own C' y hy)).2.1;have a3:=e3.ge y hS;omega
    rw[cH]at b6;have e4:=e3.step i4;have l8:=(bU a.b.length).2;have el:(dW a.b).length=(ct a.b.length).length+a.b.length:=by unfold dW;rw[au]
    refine iM b6 ae λn5 k2 h5 i2 g1 c4=>⟨_,_,_,rfl,?_⟩
    have r':Fr No c5 h5:=e4.fr.tt g1;have o1:=r'.1;have zu:=e4.fr.1;refine(J.on r').push ae i2 (λy hy=>⟨bR (c4 y hy),λd=>gG (J.lt d) (c4 y hy)⟩) ae ?_;intro n3 k0 m2 q' g2 k4;refine⟨_,_,_,rfl,?_⟩;rw[bC ae ae];refine⟨⟨j+1,ae,ae,?_,ae,?_⟩,?_⟩
    .rw[di]at q';rw[bt,show(s.abs.notes.map dW)[j]? =some (dW a.b) by show((s.notes.map BV.b).map dW)[j]? =_;rw[aD,aD,f];rfl];rw[<-di]at q'⊢;exact q'
    .refine(M.tt r').step g2 (λy hy d=> ?_);obtain⟨_,_,_,_,_,_,_,A'⟩:=J;have:=A' y d;omega
    .show s.notes.length - Int.toNat ((j:Int)+1)<s.notes.length - Int.toNat (j:Int);omega
   .have Q: ¬(j:Int)<(s.notes.length:Int):=ae
    simp only[Q,bg,aq,aL];rw[bn (l:=s.abs.notes.map dW) (by rw[ay,show s.abs.notes.length=s.notes.length from ay _];omega)]at J;rw[bC ae ae];refine⟨⟨k+1,ae,ae,?_,ae,M⟩,?_⟩
    .have e:tO ((x.map SC.abs).take (k+1))=tO ((x.map SC.abs).take k)++ [oa s.abs]++s.abs.kept.map FC++s.abs.notes.map dW:=by
      unfold tO;rw[bt,c8,cg];simp[Ru]
     rw[e];exact J
    .show x.length - Int.toNat ((k:Int)+1)<x.length - Int.toNat (k:Int);omega
 .have q1: ¬(k:Int)<(x.length:Int):=ae
  simp only[q1,bg,aq,aL];rw[bn (by rw[ay];omega)]at B;exact hk j' Z O oc (B.mono f1.1) (f1.tt T)

end fw
end
section
open Go.fV
namespace iE
variable {h H a:aj} {R:fD} {p q:ck} {l c:Nat} {b:List (cM)}
variable {n:Nat}
structure RS where
 p:ck
 c:Nat
 xs:List BV
abbrev RS.val(t:RS):Value:=.slice t.p t.xs.length t.c
variable {ts:List RS}
theorem Ed(x:List BV):(x.flatMap jn).length=x.length:=by
 rw[eO jn 1 jH,cp]
theorem PW(s:n<=1000000)(g: ∀P C H,fz H P 0 C 1 []->Fr No h H->(∀y,aN P y->h.size<=y)->R (.L P 0 C) H):
  Cl 67 #[.Z,.I (n:Int)] h R:=by
 refine mZ.walk (aH.of λJ j=> ?_);have E:IntKind.wrap .i64 ((n:Int) - (IntKind.wrap .i64 (((0:Nat):Int) - ((0:Nat):Int))))=(n:Int):=by
  rw[show IntKind.wrap .i64 (((0:Nat):Int) - ((0:Nat):Int))=0 from rfl,bC ae ae];omega
 rw[af (λe=>bR (aS e))];subst j;refine aH.of λm d=> ?_
 rw[E];by_cases k:n=0
 .subst k;rw[af bV];subst d;exact g none 0 h (.nil rfl rfl rfl rfl) (Fr.refl _ _) (λy ⟨A,e,_⟩=>by cases e)
 .rw[gk];refine⟨ae,?_⟩;rw[iU];refine Gw tN dz ae ae ae λi H o r f=>⟨_,_,_,rfl,ae,?_⟩
  rw[iU];subst d;exact g _ i H o f (λy ⟨A,e,E⟩=>by cases e;exact Nat.le_of_eq E)
theorem x3{j:Nat}{t:RS}(d:ts[j]? =some t):(ts.take (j+1)).flatMap RS.xs=(ts.take j).flatMap RS.xs++t.xs:=by
 rw[bt,d,cg];simp
theorem Kc{A:Addr}{m:Nat}(L:Row h (some A) (ts.map RS.val))(U: ∀t∈ts,Row h t.p (t.xs.flatMap jn))(S:n=ts.length)(z:ts.length<=1000)(hl:(ts.flatMap RS.xs).length<=1000000)(Q: ∀H P C,fz H P (ts.flatMap RS.xs).length C 1 ((ts.flatMap RS.xs).flatMap jn)->Fr No h H->(∀y,aN P y->h.size<=y)->R (.slice P (ts.flatMap RS.xs).length C) H):
  Cl 40 #[.L (some A) n m] h R:=by
 subst S;have T: ∀j,((ts.take j).flatMap RS.xs).length<=(ts.flatMap RS.xs).length:=λj=>by
  conv=>rhs;rw[<-List.take_append_drop j ts]
  rw[cg,au];omega
 have at_: ∀{g:aj}{j:Nat}{t:RS},Fr No h g->ts[j]? =some t->aY g (A.add (Int.toNat (j:Int)*1))=some t.val:=λf z=>by
  rw[aF,cp];exact(L.frame f bX).cell (by rw[aD,z];rfl)
 refine mw.walk ⟨λZ i g=>g=h/\∃j:Nat,i=(j:Int)/\j<=ts.length/\Z=((((ts.take j).flatMap RS.xs).length:Nat):Int),λ_ i _=>ts.length - i.toNat,⟨rfl,0,rfl,bL _,rfl⟩,?_⟩;rintro _ _ g ⟨rfl,j,rfl,M,rfl⟩;by_cases k:j<ts.length
 .rw[gk];have d:=ai k;have E:=bQ List.length (x3 d);rw[au]at E;have t1:=T (j+1);refine aH.of λa' K=>⟨ae,ax.2 ⟨_,_,_,at_ (Fr.refl _ _) d,aH.of λJ1 x=> ?_⟩⟩
  have e:IntKind.wrap .i64 (((((ts.take j).flatMap RS.xs).length:Nat):Int)+((ts[j].xs.length:Nat):Int))=((((ts.take (j+1)).flatMap RS.xs).length:Nat):Int):=by rw[bC ae ae];omega
  rw[e]at x⊢;rw[af (λe=>bR (aS e))];subst x;subst K;dsimp only;rw[bC ae ae];exact⟨⟨rfl,j+1,ae,ae,rfl⟩,by show ts.length - Int.toNat ((j:Int)+1)<ts.length - Int.toNat (j:Int);omega⟩
 .rw[af (λe=>bR (aS e))];have s:j=ts.length:=ae
  subst s;rw[dT];refine PW ae λp4 c4 h4 X B I=>⟨_,_,_,rfl,?_⟩
  refine⟨λr w v i G=>Fr No g G/\(∀y,aN r y->g.size<=y)/\∃j:Nat,i=(j:Int)/\j<=ts.length/\w=((ts.take j).flatMap RS.xs).length/\fz G r w v 1 (((ts.take j).flatMap RS.xs).flatMap jn),λ_ _ _ i _=>ts.length - i.toNat,⟨B,I,0,rfl,bL _,rfl,X⟩,?_⟩;rintro r w v i G ⟨F,u,j,rfl,M,rfl,o⟩;by_cases k:j<ts.length
  .rw[gk];have d:=ai k;have E:=bQ List.length (x3 d);rw[au]at E;have t1:=T (j+1);refine⟨ae,ax.2 ⟨_,_,_,at_ F d,?_⟩⟩;refine dH tN uN o ((U _ (dI k)).frame F bX) (by rw[Ed,cp]) (Bo _) ae ae λp6 c6 h6 O _ D J=>⟨_,_,_,rfl,?_⟩
   rw[<-cg,<-x3 d,<-E]at O;rw[<-E,bC ae ae];have b':=F.1;exact⟨⟨F.fresh D u,(λy V=>(J y V).elim (u y) (λh2=>ae)),j+1,ae,ae,rfl,O⟩,by show ts.length - Int.toNat ((j:Int)+1)<ts.length - Int.toNat (j:Int);omega⟩
  .rw[af (λe=>bR (aS e))];have s:j=ts.length:=ae
   subst s;rw[dT]at o⊢;exact Q G r v o F u
theorem BL.frame{Q:Nat->Prop}(j:BL a h p l c b)(f:Fr Q h H)(i: ∀y,a.size<=y->¬Q y):BL a H p l c b:=by
 obtain⟨X,D,k,m,o,r,e,g⟩:=j;exact⟨X,D,k,m.frame f (λy d=>i y (g y d)),o,λx s=>(r x s).frame f (λy d=>i y (e y d).1),λy d=>⟨(e y d).1,cA (e y d).2.1 f.1,(e y d).2.2⟩,g⟩
theorem Rv{g g4:aj}{X e f i:List BV}{D j k m:Nat->Prop}{P o:ck}{C r:Nat}{d:cM}{E s t u:List (cM)}(w: ∀x∈X,x.ok g D)(z: ∀x∈e,x.ok g j)(B: ∀x∈f,x.ok g k)(G: ∀x∈i,x.ok g m)(Q:X.map BV.b=E)(K:e.map BV.b=s)(M:f.map BV.b=t)(S:i.map BV.b=u)(v: ∀y,D y\/j y\/k y\/m y->h.size<=y/\y<g.size)(F:Fr No g H)(U:g.size<=g4.size)(Z:g4.size<=H.size)(V:h.size<=g4.size)(J:fz H P d.length C 1 (bc d))(I: ∀y,aN P y->h.size<=y/\y<g4.size)(T:n=1+(X++(e++(f++i))).length)
  (O:fz H o n r 1 ((⟨P,C,d⟩::(X++(e++(f++i)))).flatMap jn)) (L: ∀y,aN o y->g4.size<=y):BL h H o n r (d::(E++(s++(t++u)))):=by
 subst Q K M S;refine⟨⟨P,C,d⟩::(X++(e++(f++i))),λy=>(D y\/j y\/k y\/m y)\/aN P y,by rw[bf];omega,O,bV,λx hx=> ?_,λy hy=> ?_,λy hy=> ?_⟩
 .rcases bK.1 hx with rfl|hx
  .exact BV.jy J (λy hy=> .inr hy)
  rcases bE.1 hx with hx|hx
  .exact((w x hx).frame F bX).mono λy A=> .inl (.inl A)
  rcases bE.1 hx with hx|hx
  .exact((z x hx).frame F bX).mono λy A=> .inl (.inr (.inl A))
  rcases bE.1 hx with hx|hx
  .exact((B x hx).frame F bX).mono λy A=> .inl (.inr (.inr (.inl A)))
  .exact((G x hx).frame F bX).mono λy A=> .inl (.inr (.inr (.inr A)))
 .rcases hy with hy|hy
  .have:=v y hy;exact⟨ae,ae,λq=>bR (L y q)⟩
  .have:=I y hy;exact⟨ae,ae,λq=>bR (L y q)⟩
 .have:=L y hy;omega

end iE
end
section
open Go.fV
namespace dM
open jA (Ev dc lL gU)
open iE
variable {h H:aj} {R:fD} {s k:Nat} {X:Ft} {I:pG} {a:SS} {p:ck}
variable {e:Ev} {t sq:Nat}
theorem FD(M:Mk h k e t sq)(l: iq h R (.agg #[.B e.km,.U e.node,.U e.gy,.S e.host,.S e.jN,.U (t:Int),.U (sq:Int)])):
  Cl 29 #[pt k] h R:=by
 refine xZ.walk (ah.box λb n E j f=> ?_);have m:=f.get M id;refine aH.of λJ i=>⟨_,ak m,?_⟩
 subst i;dsimp only;rw[dB];refine⟨_,ak m,_,ak m,_,ak m,_,ak m,_,ak m,_,ak m,_,ak m,ah.set j λg A c d=>ah.ld A (l g (f.fresh (Fr.of_eq (S:=λy=>y=b) c d) (λy e=>ae)))⟩
def PX(a:SS):List (cM):=fw.tO a.A++(a.G.map gD.xT++(gm.wE a.C++hZ.wF a.B))
def K3(a:SS):cM:=dW (gU a.e)++ct a.now++ct a.rf++ct a.tm++ct a.sq++ct (fw.tO a.A).length++ct (a.G.map gD.xT).length++ct (gm.wE a.C).length++ct (hZ.wF a.B).length
theorem K4{w b:Nat}{S:Nat->Prop}{T:cM}{P a':Nat}{n r:Nat}{K:ck->aj->Prop}(V:Wr h w S [])(c':Row h p (bc T))(ht:P=T.length)(hl:T.length<=100000000)(z:n<18446744073709551616/\r<=1000000000/\t<18446744073709551616/\sq<18446744073709551616)(hp: ∀y,aN p y->T≠ []->¬S y)(B:Bk h s I n r)(hb:ah.at h b e.km e.node e.gy e.host e.jN (t:Int) (sq:Int))(nb: ¬S b)(ns: ¬S s)(hk: ∀g d,Wr g w d (dW T++ct n++ct r++ct t++ct sq)->Step S h d g->K (Sa w 0) g):
  Cl 36 #[.P w 0,.L p P a'] h λd' j=>
   ∃G,d'=.pointer G/\
   aY j (AA b 6)=some (.U (sq:Int))/\
   aY j (AA b 5)=some (.U (t:Int))/\
   aY j (AA s 7)=some (.I (r:Int))/\
   aY j (AA s 6)=some (.U (n:Int))/\
   Cl 37 #[.pointer G,.U (n:Int)] j λe' o=>
   ∃J,e'=.pointer J/\
   aY o (AA b 6)=some (.U (sq:Int))/\
   aY o (AA b 5)=some (.U (t:Int))/\
   aY o (AA s 7)=some (.I (r:Int))/\
   Cl 38 #[.pointer J,.I (r:Int)] o λf' x=>
   ∃L,f'=.pointer L/\
   aY x (AA b 6)=some (.U (sq:Int))/\
   aY x (AA b 5)=some (.U (t:Int))/\
   Cl 37 #[.pointer L,.U (t:Int)] x λg' F=>
   ∃M,g'=.pointer M/\
   aY F (AA b 6)=some (.U (sq:Int))/\
   Cl 37 #[.pointer M,.U (sq:Int)] F λh' b'=>
   ∃O,h'=.pointer O/\K O b':=by
 subst ht;have c: ∀{g d}(i:Nat)(v:Value),Step S h d g->(#[Value.bool e.km,.U e.node,.U e.gy,.S e.host,.S e.jN,.U (t:Int),.U (sq:Int)])[i]? =some v->aY g (AA b i)=some v:=λi v D A=>D.fr.cell (cB hb A) nb
 have C: ∀{g d}(i:Nat)(v:Value),Step S h d g->(#[pt I.t,pt I.r,pt I.c,pt I.o,pt I.p,pt I.k,.U (n:Int),.I (r:Int)])[i]? =some v->aY g (AA s i)=some v:=λi v D A=>D.fr.cell (cB B A) ns
 have l0:(dW T).length<=200000000:=by unfold dW;rw[au];have:=bU T.length;omega
 have ln:=bU n;have lr:=bU r;have lt:=bU t;refine nL V bV c' rfl ae hp λg1 S1 E l=>⟨_,rfl,c _ _ l rfl,c _ _ l rfl,C _ _ l rfl,C _ _ l rfl,?_⟩
 rw[cH]at E;refine fM n E ae rfl z.1 λg2 S2 Z f=>⟨_,rfl,?_⟩
 have f:=l.trans f;refine⟨c _ _ f rfl,c _ _ f rfl,C _ _ f rfl,im Z (by rw[au];omega) ae λg3 Q u m=>⟨_,rfl,?_⟩⟩;have m:=f.trans m;have u:Wr g3 w Q (dW T++ct n++ct r):=u;refine⟨c _ _ m rfl,c _ _ m rfl,fM t u (by simp only[au];omega) rfl z.2.2.1 λg4 S4 W4 q=>⟨_,rfl,?_⟩⟩;have q:=m.trans q;refine⟨c _ _ q rfl,fM sq W4 (by simp only[au];omega) rfl z.2.2.2 λg5 U W5 s5=>⟨_,rfl,hk g5 U W5 (q.trans s5)⟩⟩
theorem mf(e':Pt h s X I a)(G:Good a k)(b7:k<=30000)(tb:lM.oD h)(hk: ∀H p' l' c',BL h H p' l' c' (K3 a::PX a)->Fr No h H->R (.L p' l' c') H):
  Cl 10 #[pt s] h R:=by
 refine xY.walk (fT e'.cW ⟨_,rfl,?_⟩);rw[dB];obtain⟨Y,hp,_⟩:=id e';obtain⟨P',_⟩:=hp 5;refine⟨_,ak e'.cW,FD P' λh2 n=>⟨_,_,_,_,_,_,_,rfl,ah.new λT' b4 eb hb U'=>⟨_,ak hb,_,ak hb,_,ak hb,_,ak hb,_,ak hb,?_⟩⟩⟩;have z':=n.tt U';refine jA.oC a.e (tb.on z') G.e.2.2 λU C'=>⟨_,_,rfl,aH.of λO' hJ=> ?_⟩
 rw[ag G.e.1]at hJ;have Z:=z'.tt C';have a2:=C'.get hb id;have B: ∀{g},Fr No U g->Bk g s I a.now a.rf:=λf=>f.get (Z.get e'.cW id) id
 have Q':=e'.ord;have sm:=G.small Q' ae;have gl:=G.c.L;obtain⟨Lb,a8⟩:=e'.okB;have s0: ∀{g:aj}{K:ck->Nat->Nat->aj->Prop},Fr No U g->(∀b p l c,BL g b p l c (fw.tO a.A)->Fr No g b->K p l c b)->Cl 31 #[pt I.t] g λv b=> ∃p l c,v=.L p l c/\K p l c b:=λf hK=>
  fw.mf (fw.Has.frame (hp 0) (Z.tt f) bX) G.a λb p l c L f'=>⟨p,l,c,rfl,hK b p l c L f'⟩
 have s1: ∀{g:aj}{K:ck->Nat->Nat->aj->Prop},Fr No U g->(∀b p l c,BL g b p l c (a.G.map gD.xT)->Fr No g b->K p l c b)->Cl 32 #[pt I.r] g λv b=> ∃p l c,v=.L p l c/\K p l c b:=λf hK=>
  gD.mf (gD.Tb.on (hp 1) (Z.tt f)) (bR G.g.len) G.g.all (tb.on (Z.tt f)) λb p l c L f'=>⟨p,l,c,rfl,hK b p l c L f'⟩
 have s2: ∀{g:aj}{K:ck->Nat->Nat->aj->Prop},Fr No U g->(∀b p l c,BL g b p l c (gm.wE a.C)->Fr No g b->K p l c b)->Cl 33 #[pt I.c] g λv b=> ∃p l c,v=.L p l c/\K p l c b:=λf hK=>
  gm.mf (gm.Ct.on (hp 2) (Z.tt f)) sm ae G.c.all (tb.on (Z.tt f)) λb p l c L f'=>⟨p,l,c,rfl,hK b p l c L f'⟩
 have s3: ∀{g:aj}{K:ck->Nat->Nat->aj->Prop},Fr No U g->(∀b p l c,BL g b p l c (hZ.wF a.B)->Fr No g b->K p l c b)->Cl 34 #[pt I.o] g λv b=> ∃p l c,v=.L p l c/\K p l c b:=λf hK=>
  hZ.mf (hZ.za.on (hp 3) (Z.tt f)) (bR G.b) λb p l c L f'=>⟨p,l,c,rfl,hK b p l c L f'⟩
 have h': ∀{g:aj}{x:Nat}{p1 p2 p3 p4:ck}{l1 c1 l2 c2 l3 c3 l4 c4:Nat},cQ.at g x p1 l1 c1 p2 l2 c2 p3 l3 c3 p4 l4 c4->BL U g p1 l1 c1 (fw.tO a.A)->BL U g p2 l2 c2 (a.G.map gD.xT)->BL U g p3 l3 c3 (gm.wE a.C)->BL U g p4 l4 c4 (hZ.wF a.B)->Fr No U g->O' (Sa x 0) g:=by
  intro g x p1 p2 p3 p4 l1 c1 l2 c2 l3 c3 l4 c4 ha L1 L2 J C fg;subst hJ;dsimp only;have k':=fg.get a2 id;have lb:=aC k';have ls:=aC (B fg);refine aH.of λJ1 a0=> ?_
  have tl:(gU a.e).length<=100000000:=cE (jA.pJ G.e.1 G.e.2.2) ae;have W: ∀{A:aj}{a':Nat}{S:Nat->Prop},Wr A a' S (dW (gU a.e)++ct a.now++ct a.rf++ct a.tm++ct a.sq)->Fr No g A->(∀y,S y->g.size<=y)->J1 (Sa a' 0) A:=by
   intro A a' S W2 D' gS;subst a0;dsimp only;have a1:=D'.get ha id;obtain⟨q0,q1,q2,q3,_⟩:=cQ.held a1;rw[eX]at q0;refine ax.2 ⟨_,_,_,q0,_,_,_,q1,_,_,_,q2,_,_,_,q3,?_⟩;obtain⟨r',D1,rfl,o1,e1,d1,b1,i1⟩:=L1;obtain⟨s',D2,rfl,o2,e2,d2,b2,i2⟩:=L2;obtain⟨t',D3,rfl,o3,e3,d3,b3,i3⟩:=J;obtain⟨u',D4,rfl,o4,e4,d4,A',i4⟩:=C;have n1:=bQ List.length e1;have n2:=bQ List.length e2;have n3:=bQ List.length e3;have n4:=bQ List.length e4;rw[ay]at n1 n2 n3 n4;have m1:=fw.wG G.a;have b8:=G.a.le;have m2:=G.g.len;have m3:(gm.wE a.C).length=a.C.L.length+1:=by unfold gm.wE;simp
   have m4:(hZ.wF a.B).length=a.B.items.length+1:=by unfold hZ.wF;simp
   have b9:=a8.le;rw[ay]at n2
   let M:List Nat:= [r'.length,s'.length,t'.length,u'.length]
   have a5:(dW (gU a.e)++ct a.now++ct a.rf++ct a.tm++ct a.sq).length<=1000000000:=by
    have:=bU a.now;have:=bU a.rf;have:=bU a.tm;have:=bU a.sq;have:=bU (gU a.e).length;simp only[au,dW];omega
   generalize a4:dW (gU a.e)++ct a.now++ct a.rf++ct a.tm++ct a.sq=g' at W2 a5;have fl: ∀l:List Nat,(l.flatMap ct).length<=10*l.length:=λl=>by
    induction l with
    |nil=>exact bm _
    |cons d' l ih=>rw[fG,au,bf];have:=bU d';omega
   refine⟨λx' Q=> ∃(j:Nat)(S':Nat->Prop),x'=(j:Int)/\j<=4/\Wr Q a' S' (g'++(M.take j).flatMap ct)/\Step S A S' Q,λx' _=>4 - x'.toNat,⟨0,S,rfl,ae,cI W2,Step.refl _ _⟩,?_⟩;rintro _ Q ⟨j,S',rfl,hj,W3,M'⟩;have lj:(g'++(M.take j).flatMap ct).length<=1000000100:=by
    have:=fl (M.take j);rw[bw]at this;rw[au];have:min j M.length<=4:=ae
    omega
   have one: ∀(d':Nat),M[j]? =some d'->d'<=40000->Cl 38 #[.P a' 0,.I (d':Int)] Q λv F'=> ∃b0,v=.pointer b0/\((∃(j':Nat)(S':Nat->Prop),IntKind.wrap .i64 ((j:Int)+1)=(j':Int)/\j'<=4/\Wr F' a' S' (g'++(M.take j').flatMap ct)/\Step S A S' F')/\4 - (IntKind.wrap .i64 ((j:Int)+1)).toNat<4 - Int.toNat (j:Int)):=by
    intro d' hn hb;have b6:j<4:=(aE.1 hn).1;refine im W3 ae ae λz S4 W4 a9=>⟨_,rfl,?_⟩
    have W4:Wr z a' S4 ((g'++(M.take j).flatMap ct)++ct d'):=W4;rw[bC ae ae];refine⟨⟨j+1,S4,ae,ae,?_,M'.trans a9⟩,ae⟩;rw[bt,hn,cg,<-di];simpa using W4
   by_cases a6:j<4
   .rw[gk];refine⟨ae,λe=> ?_,λe=> ?_,λe=> ?_,λe=> ?_,trivial⟩
    .obtain rfl:j=0:=ae
     exact one r'.length rfl ae
    .obtain rfl:j=1:=ae
     exact one s'.length rfl ae
    .obtain rfl:j=2:=ae
     exact one t'.length rfl ae
    .obtain rfl:j=3:=ae
     exact one u'.length rfl ae
   .rw[af (λe=>a6 (bR (aS e)))];obtain rfl:j=4:=ae
    clear one;have eh:K3 a=g'++(M.take 4).flatMap ct:=by
     unfold K3;rw[a4,<-n1,ay,<-n2,<-n3,<-n4];simp[M]
    rw[eh]at hk;generalize g'++(M.take 4).flatMap ct=hd at W3 hk lj;refine ax.2 (iM W3 ae λp5 c5 z o5 o i5=>⟨_,_,_,rfl,?_⟩);have E':Fr No g Q:=D'.fresh M'.fr gS;have w':=E'.tt o
    let V:List iE.RS:= [⟨p1,c1,r'⟩,⟨p2,c2,s'⟩,⟨p3,c3,t'⟩,⟨p4,c4,u'⟩]
    have et:V.flatMap iE.RS.xs=r'++(s'++(t'++u')):=by simp[V]
    have lt:(V.flatMap iE.RS.xs).length<=40000:=by rw[et];simp only[au];omega
    have B': ∀{b:aj}{K:fD},Fr No z b->(∀H p' c',fz H p' (V.flatMap iE.RS.xs).length c' 1 ((V.flatMap iE.RS.xs).flatMap jn)->Fr No b H->(∀y,aN p' y->b.size<=y)->K (.slice p' (V.flatMap iE.RS.xs).length c') H)->Cl 40 #[.L (cT (Sa x 0) 4 0 1) (4 - 0) (4 - 0)] b K:=by
     intro b K f hK;rw[iU];have F:=w'.tt f;refine Kc (ts:=V) (.inr ⟨_,rfl,cQ.held (F.get ha id)⟩) (λc0 ht=> ?_) rfl (by show 4<=1000;omega) ae hK;rcases bK.1 ht with rfl|ht
     .exact o1.iy.frame F bX
     rcases bK.1 ht with rfl|ht
     .exact o2.iy.frame F bX
     rcases bK.1 ht with rfl|ht
     .exact o3.iy.frame F bX
     .obtain rfl:=bP.1 ht;exact o4.iy.frame F bX
    have done: ∀{b:aj}{b5 cc:Nat}{pc:ck},Fr No z b->fz b (Sa b5 0) 1 1 1 [.L p5 hd.length c5]->z.size<=b5->fz b pc (V.flatMap iE.RS.xs).length cc 1 ((V.flatMap iE.RS.xs).flatMap jn)->
      aW Tryz.prog (Builtin.append_ #[53,53] 53 #[.L (Sa b5 0) 1 1,.slice pc (V.flatMap iE.RS.xs).length cc]) b λv H=> ∃p l c,v=.L p l c/\R (.L p l c) H:=by
     intro b b5 cc pc f ol K' oc;refine dH tN uN ol oc.iy (by rw[Ed,cp]) (Bo _) ae ae λp' c' H o' _ f' V'=>⟨_,_,_,rfl,?_⟩
     have fF:=f.fresh f' (λy ⟨R',e,e2⟩=>by cases e;rw[<-e2];exact K');have F:=w'.tt fF;have lo: ∀y,aN p' y->z.size<=y:=λy hy=>(V' y hy).elim (λ⟨R',e,e2⟩=>by cases e;rw[<-e2];exact K') (λy'=>cE f.1 y')
     have v':=Z.1;have z3:=E'.1;have z4:=w'.1;have zF:=fF.1;have zg:=fg.1;rw[et]at o'⊢;refine hk H p' _ c' (Rv (g4:=z) d1 d2 d3 d4 e1 e2 e3 e4 (λy hy=> ?_) F ae ae ae (o5.frame fF bX) (λy hy=>⟨bR (i5 y hy),o5.dC hy⟩) rfl o' lo) ((Z.tt fg).tt F);rcases hy with hy|hy|hy|hy
     .exact⟨cE v' (b1 y hy).1,(b1 y hy).2.1⟩
     .exact⟨cE v' (b2 y hy).1,(b2 y hy).2.1⟩
     .exact⟨cE v' (b3 y hy).1,(b3 y hy).2.1⟩
     .exact⟨cE v' (A' y hy).1,(A' y hy).2.1⟩
    have L': ∀(b:aj),fz (b.push (.C #[.L p5 hd.length c5] 26)) (Sa b.size 0) 1 1 1 [.L p5 hd.length c5]:=λb=> .row _ 0 _ _ rfl bZ ae bV rfl (λj v hj=>by rw[bM];simpa using hj)
    refine⟨cK (B' (Fr.push _ _) λE p6 c6 O r i6=>⟨_,_,_,rfl,done ((Fr.push _ _).tt r) ((L' z).frame r bX) (bm _) O⟩),B' (Fr.refl _ _) λT p6 c6 O r i6=>⟨_,_,_,rfl,cK (done (r.tt (Fr.push _ _)) (L' T) r.1 (O.frame (Fr.push (S:=λ_=>False) _ _) bX))⟩,trivial⟩
  have bS: ∀{S:Nat->Prop},(∀y,S y->g.size<=y)->¬S T'/\¬S s:=λgS=>⟨λe=>bR (gS _ e),λe=>bR (gS _ e)⟩
  have nn:a.now<18446744073709551616/\a.rf<=1000000000/\a.tm<18446744073709551616/\a.sq<18446744073709551616:=by
   have:=G.n;have:=G.t;have:=G.r;omega
  have tx:(str (gU a.e)).data.toList=gU a.e:=rfl;refine⟨_,ak (B fg),_,ak (B fg),_,ak k',_,ak k',?_,?_,trivial⟩
  .refine iE.gL λX' a' S W6 P i'=>⟨_,rfl,?_⟩
   have F6:=fg.tt P;have w:=P.get k' id;refine⟨ak w,ak w,ak (B F6),ak (B F6),R6 λp7 c7 Z' r7 ic D n'=>⟨_,_,_,rfl,?_⟩⟩;have F7:=F6.tt D;have b':=D.get w id;refine⟨ak b',ak b',ak (B F7),ak (B F7),K4 (W6.frame D bX) r7 (by rw[tx];rfl) tl nn (λy hy _ hs=>gG (n' y hy) (W6.lt y hs)) (B F7) b' (bS i').1 (bS i').2 λA S2 W2 m'=>W W2 ((P.tt D).fresh m'.fr i') (λy hy=>(m'.new y hy).elim (i' y) (λy'=>gG P.1 D.1))⟩
  .refine R6 λp7 c7 X' r7 ic P i'=>⟨_,_,_,rfl,?_⟩
   have F6:=fg.tt P;have w:=P.get k' id;refine⟨ak w,ak w,ak (B F6),ak (B F6),iE.gL λZ' a' S W7 D n'=>⟨_,rfl,?_⟩⟩;have F7:=F6.tt D;have b':=D.get w id;have q': ∀y,S y->g.size<=y:=λy hy=>cE P.1 (n' y hy)
   refine⟨ak b',ak b',ak (B F7),ak (B F7),K4 W7 (r7.frame D bX) (by rw[tx];rfl) tl nn (λy hy a7 hs=>gG (iZ r7 (by rw[tx];intro e;exact a7 (by cases ht:gU a.e with|nil=>rfl|cons=>rw[ht]at e;simp[bc]at e)) hy) (n' y hs)) (B F7) b' (bS q').1 (bS q').2 λA S2 W2 m'=>W W2 ((P.tt D).fresh m'.fr q') (λy hy=>(m'.new y hy).elim (q' y) (λy'=>gG P.1 D.1))⟩
 refine⟨_,ak (B (Fr.refl _ _)),_,ak (B (Fr.refl _ _)),_,ak (B (Fr.refl _ _)),_,ak (B (Fr.refl _ _)),?_,?_,trivial⟩
 .refine s0 (Fr.refl _ _) λg1 p1 l1 c1 L1 d=>⟨ak (B d),ak (B d),ak (B d),?_,?_,trivial⟩
  .refine s1 d λA p2 l2 c2 L2 n=>⟨ak (B (d.tt n)),ak (B (d.tt n)),?_,?_,trivial⟩
   .have q:=d.tt n;refine s2 q λQ p3 l3 c3 J i=>⟨ak (B (q.tt i)),?_,?_,trivial⟩
    .have u:=q.tt i;refine s3 u λz p4 l4 c4 C m=>cQ.new λx T eb a3 o=> ?_
     exact h' a3 (L1.on (n.tt (i.tt (m.tt o)))) ((L2.mono d.1).on (i.tt (m.tt o))) ((J.mono q.1).on (m.tt o)) ((C.mono u.1).on o) (u.tt (m.tt o))
    .have u:=q.tt i;refine cQ.box λx z eb J' m=>⟨ak (B (u.tt m)),?_⟩
     have F4:=u.tt m;refine s3 F4 λT p4 l4 c4 C o=>cQ.set (o.get J' id) λE w z6 O=> ?_
     have r:Fr (λy=>y=x) T E:=Fr.of_eq z6 O;have T3:Fr No Q E:=(m.tt o).fresh r (λy e=>ae);exact h' w (L1.on (n.tt (i.tt T3))) ((L2.mono d.1).on (i.tt T3)) ((J.mono q.1).on T3) ((C.frame r (λy hy e=>bR (aC J'))).mono F4.1) (u.tt T3)
   .have q:=d.tt n;refine cQ.box λx Q eb I' i=>⟨ak (B (q.tt i)),ak (B (q.tt i)),?_⟩
    have u:=q.tt i;have lb:=aC I';refine s2 u λz p3 l3 c3 J m=>⟨ak (B (u.tt m)),s3 (u.tt m) λT p4 l4 c4 C o=>cQ.set ((m.tt o).get I' id) λE w z6 O=> ?_⟩
    have F4:=u.tt m;have r:Fr (λy=>y=x) T E:=Fr.of_eq z6 O;have z4:=m.1;have T2:Fr No A E:=(i.tt (m.tt o)).fresh r (λy e=>ae);exact h' w (L1.on (n.tt T2)) ((L2.mono d.1).on T2) (((J.on o).frame r (λy hy e=>ae)).mono u.1) ((C.frame r (λy hy e=>ae)).mono F4.1) (q.tt T2)
  .refine cQ.box λx A eb H' n=>⟨ak (B (d.tt n)),ak (B (d.tt n)),ak (B (d.tt n)),?_⟩
   have q:=d.tt n;have lb:=aC H';refine s1 q λQ p2 l2 c2 L2 i=>⟨ak (B (q.tt i)),ak (B (q.tt i)),s2 (q.tt i) λz p3 l3 c3 J m=>⟨ak (B (q.tt (i.tt m))),s3 (q.tt (i.tt m)) λT p4 l4 c4 C o=>cQ.set ((i.tt (m.tt o)).get H' id) λE w z6 O=> ?_⟩⟩
   have u:=q.tt i;have F4:=u.tt m;have r:Fr (λy=>y=x) T E:=Fr.of_eq z6 O;have z3:=i.1;have z4:=m.1;have T1:Fr No g1 E:=(n.tt (i.tt (m.tt o))).fresh r (λy e=>ae);exact h' w (L1.on T1) (((L2.on (m.tt o)).frame r (λy hy e=>ae)).mono q.1) (((J.on o).frame r (λy hy e=>ae)).mono u.1) ((C.frame r (λy hy e=>ae)).mono F4.1) (d.tt T1)
 .refine cQ.box λx g1 eb G' d=>⟨ak (B d),ak (B d),ak (B d),ak (B d),?_⟩
  have lb:=aC G';refine s0 d λA p1 l1 c1 L1 n=>⟨ak (B (d.tt n)),ak (B (d.tt n)),ak (B (d.tt n)),s1 (d.tt n) λQ p2 l2 c2 L2 i=>⟨ak (B (d.tt (n.tt i))),ak (B (d.tt (n.tt i))),s2 (d.tt (n.tt i)) λz p3 l3 c3 J m=>⟨ak (B (d.tt (n.tt (i.tt m)))),s3 (d.tt (n.tt (i.tt m))) λT p4 l4 c4 C o=>cQ.set ((n.tt (i.tt (m.tt o))).get G' id) λE w z6 O=> ?_⟩⟩⟩
  have q:=d.tt n;have u:=q.tt i;have F4:=u.tt m;have r:Fr (λy=>y=x) T E:=Fr.of_eq z6 O;have z2:=n.1;have z3:=i.1;have z4:=m.1;exact h' w (((L1.on (i.tt (m.tt o))).frame r (λy hy e=>ae)).mono d.1) (((L2.on (m.tt o)).frame r (λy hy e=>ae)).mono q.1) (((J.on o).frame r (λy hy e=>ae)).mono u.1) ((C.frame r (λy hy e=>ae)).mono F4.1) ((d.tt (n.tt (i.tt (m.tt o)))).fresh r (λy e=>ae))

end dM
end
section
namespace dM
open jA (Ev dc lL)
variable {h H:aj} {R:fD} {s k:Nat} {X:Ft} {I:pG}
def Kd(x:Ev):Prop:=dc x=true/\x≠Ev.zero
instance (x : Ev) : Decidable (Kd x) := by unfold Kd; infer_instance
theorem yH(x:Ev)(j:Kd x->∀H b,Mk H b x 0 0->h.size<=b->Fr No h H->R (.T #[pt b,.I 0]) H)(K: ¬Kd x->iq h R (.T #[.pointer none,.I 3])):Cl 13 #[lL x] h R:=by
 refine M1.walk (az.box λb l E g F=>aH.of λJ e=>az.ld g (jA.fK x λd f=>⟨_,rfl,?_⟩));have i:=f.get g id;cases c:dc x with
 |false=>
  rw[gk];subst e;exact K (λm=>by rw[m.1]at c;cases c) d (F.tt f)
 |true=>
  rw[dB];refine az.ld i ⟨_,jA.vD (y:=Ev.zero) rfl rfl,?_⟩;subst e;by_cases a:x=Ev.zero
  .rw[aw a];dsimp only;rw[ag rfl];exact K (λm=>m.2 a) d (F.tt f)
  .rw[aB a];dsimp only;rw[dB];refine az.ld i (cK (j ⟨c,a⟩ _ _ bZ (cE F.1 f.1) ((F.tt f).tt (Fr.push _ _))))
theorem gL(x:Ev)(k1:Kd x->∀H s X I,Pt H s X I (MV x)->KA h X H->R (.T #[pt s,.I 0]) H)(k2: ¬Kd x->iq h R (.T #[.pointer none,.I 3])):Cl 4 #[lL x] h R:=by
 refine M0.walk (az.box λc' g eb hb l=>az.ld hb (yH x (λu f k O g2 F=>⟨_,_,rfl,?_⟩) (λu f F=>⟨_,_,rfl,?_⟩)))
 .rw[dB];refine nN.gL 4800 1600 (λ_ Z p m P g3 a' S=>⟨_,_,rfl,?_⟩) (λe=>absurd e dN);rw[dB];refine fw.gL λh4 t X0 G T u4=>⟨_,rfl,gD.gL λh5 r X1 J U=>⟨_,rfl,gm.gL λh6 c X2 K v=>⟨_,rfl,hZ.gL λb o X3 M V u7=>⟨_,rfl,cK ?_⟩⟩⟩⟩
  have n:Fr No b (b.push (.C #[.P t 0,.P r 0,.P c 0,.P o 0,.P p 0,.P k 0,.U 0,.I 0] 43)):=Fr.push _ _;have w:(b.push (.C #[.P t 0,.P r 0,.P c 0,.P o 0,.P p 0,.P k 0,.U 0,.I 0] 43))[b.size]? =_:=bZ;have z8:(b.push (.C #[.P t 0,.P r 0,.P c 0,.P o 0,.P p 0,.P k 0,.U 0,.I 0] 43)).size=b.size+1:=dk _;generalize b.push (.C #[.P t 0,.P r 0,.P c 0,.P o 0,.P p 0,.P k 0,.U 0,.I 0] 43)=q at n w z8⊢;have E:=V.tt n;have D:=v.fr.tt E;have C:=U.fr.tt D;have A:=T.tt C;have z:=S.tt A;have F8:=l.tt (F.tt z);have z1:=l.1;have z2:=F.1;have z3:=S.1;have z4:=T.1;have z5:=U.fr.1;have z6:=v.fr.1;have z7:=V.1;have lp:=P.lt;have lk:=aC O
  let d:Nat->Ft:=λi=>match i with
   |0=>X0|1=>X1|2=>X2|3=>X3
   |4=>⟨λy=>y=p\/y=m,λ_=>False⟩
   |5=>⟨λy=>y=k,λ_=>False⟩
   |6=>⟨λy=>y=b.size,λ_=>False⟩
   |_=>⟨λ_=>False,λ_=>False⟩
  let L:Nat->Nat:=λi=> [Z.size,h4.size,h5.size,h6.size,f.size,g.size].getD i b.size
  let hi:Nat->Nat:=λi=> [h4.size,h5.size,h6.size,b.size,Z.size,f.size].getD i q.size
  have B: ∀i y,In (d i) y->L i<=y/\y<hi i:=λi y hy=>by
   rcases i with _|_|_|_|_|_|_|i
   .exact⟨u4 y hy,G.lt y hy⟩
   .exact⟨U.ge y hy,J.lt y hy⟩
   .exact⟨v.ge y hy,K.lt y hy⟩
   .exact⟨u7 y hy,M.lt y hy⟩
   .rcases hy with hy|hy
    .rcases hy with rfl|rfl
     .exact⟨g3,lp.1⟩
     .exact⟨a',lp.2⟩
    .exact hy.elim
   .rcases hy with hy|hy
    .have hy:y=k:=hy;exact⟨hy▸g2,hy▸lk⟩
    .exact hy.elim
   .rcases hy with hy|hy
    .have hy:y=b.size:=hy;exact⟨by show b.size<=y;omega,by show y<q.size;omega⟩
    .exact hy.elim
   .rcases hy with hy|hy<;>exact hy.elim
  refine k1 u q b.size ⟨λy=> ∃i,(d i).M y,λy=> ∃i,(d i).D y⟩ ⟨t,r,c,o,p,k⟩ ⟨d,λi=> ?_,λi j y b' hy hz=> ?_,λ_=>fi,λ_=>fi⟩ ⟨F8,λy hy=> ?_⟩
  .rcases i with _|_|_|_|_|_|_|i
   .exact G.frame C bX
   .exact J.on D
   .exact K.on E
   .exact hZ.za.on ⟨[],M,hZ.okB.nil⟩ n
   .exact⟨m,P.frame A id id,λy=>⟨fi,id⟩⟩
   .exact⟨z.get O id,λy=>⟨fi,id⟩⟩
   .exact⟨w,λy=>⟨fi,id⟩⟩
   .exact λy hy=>hy.elim id id
  .have g:=B i y hy;have f:=B j y hz;have Q: ∀i,¬In (d (i+7)) y:=λi hy=>hy.elim id id
   rcases i with _|_|_|_|_|_|_|i<;>first|exact Q i hy|(rcases j with _|_|_|_|_|_|_|j<;>first|exact Q j hz|exact b' rfl|(simp only[L,hi,List.getD_cons_zero,List.getD_cons_succ,List.getD_nil]at g f;omega))
  .have key: ∀i,In (d i) y->h.size<=y:=λi a=>by
    have g:=(B i y a).1;rcases i with _|_|_|_|_|_|_|i<;>(simp only[L,List.getD_cons_zero,List.getD_cons_succ,List.getD_nil]at g;omega)
   rcases hy with⟨i,a⟩|⟨i,a⟩
   .exact key i (.inl a)
   .exact key i (.inr a)
 .rw[gk];exact k2 u f (l.tt F)

end dM
end
section
variable {h:aj} {R:fD}
variable {s o:Nat} {a:cz.S}
theorem Na.walk{n:Int}{l:Int}(H:R (.U (if 1099511627776<wrap .u64 (n+l)then 1099511627776 else wrap .u64 (n+l))) h):Cl 197 #[.U n,.U l] h R:=aP (lq ll) Tryz.func197 H
theorem PY.walk{S:az.S}(M:bh h (.C S.arr 25) λb A=>ah.NW A λc F=>ah.NW F λd r=>Hp r s 5 λV=>Cl 29 #[.pointer V] r λh' I=>ah.EX λv=>h'=v.agg/\ah.NW I λB K=>ah.dw K (AA B 0) v λu=>az.cN u (AA B 0) λX=>Cl 13 #[X.agg] u λi' H=> ∃t T,i'=.T #[.pointer t,.I T]/\if(T !=0)then ah.dw H (AA c 0) ah.S.z λL=>ah.dw L (AA d 0) ah.S.z λk=>ah.cN k (AA c 0) λO=>ah.cN k (AA d 0) λQ=>R (.T #[O.agg,Q.agg,.I T]) k else aH (λ(Z:Bool) (i:aj)=>aH (λ(m:aj)=>Hu m s 6 λc'=>Cl 261 #[.pointer t,.U c'] m λj' C=>ah.EX λy=> ∃z,j'=.T #[y.agg,.I z]/\ah.NW C λe D=>ah.dw D (AA e 0) y λn=>ah.cN n (AA e 0) λd'=>ah.NW n λg E=>ah.dw E (AA g 0) d' λp=>az.cN p (AA b 0) λe'=>az.dw p (AA g 0) e' λf=>ah.cN f (AA g 0) λf'=>ah.cN f (AA e 0) λg'=>ah.dw f (AA c 0) f' λq=>Kp f q [(Sa e 0)]/\ah.dw q (AA d 0) g' λj=>ah.cN j (AA c 0) λP=>ah.cN j (AA d 0) λU=>R (.T #[P.agg,U.agg,.I z]) j) (λl=>if Z then ah.cN i (AA B 0) λa'=>Cl 260 #[.pointer t,a'.agg] i λk' G=> ∃b',k'=.I b'/\l G else l i)) (λJ=> ∃w,Cc H B 5 (.U w)/\if(decide (w>0))then J true H else∃x,Cc H B 6 (.U x)/\J (decide (x>0)) H)):Cl 191 #[.P s 0,S.agg] h R:=aP (lq (lq (lq (sq (lq (cq ll lf)) (sq (sq (.join [(35,.one (.bool))] lf) (.join [] (cq lf lf))) (lq (lq (lq (sq (pK 6) lf))))))))) Tryz.func191 M
theorem CU.walk{b:av.S}{O:ah.S}(w:bh h (.C a.arr 181) λB q=>bh q (.C b.arr 76) λf r=>bh r (.C O.arr 71) λp g=>av.cN g (AA f 0) λx=>Cl 20 #[x.agg] g λv H=> ∃k t j T,v=.T #[.L k t j,.I T]/\if(T !=0)then R (.T #[.I 0,.I 0,.I T]) H else Hp H B 19 λy=>Hi H B 20 λz=>Hp H B 19 λC=>aM C λA=>gK H (A.add 6) λD=>Hu H f 19 λE=>Cl 197 #[.U D,.U E] H λV d=> ∃l,V=.U l/\Kp H d [(Sa B 19),(Sa B 20),(Sa B 19)]/\Cl 262 #[.pointer y,.I z,.L k t j,.U l] d λL c=> ∃m e,L=.T #[.I m,.I e]/\Kp d c [(Sa B 19)]/\aH (λ(u:aj)=>R (.T #[.I m,.I ((t:Nat):Int),.I e]) u) (λJ=>if(e==0)then Hp c B 19 λF=>aM F λn=>zM c (n.add 5) λG=>ah.cN c (AA p 0) λI=>Cl 260 #[.pointer G,I.agg] c λM i=> ∃K,M=.I K/\Kp c i [(Sa B 19)]/\J i else J c)):Cl 192 #[a.agg,b.agg,O.agg] h R:=aP (lq (lq (sq (lq (cq ll lf)) (sq (pK 20) (sq (lq (.join [] (cq (pK 7) lf))) ll))))) Tryz.func192 w
theorem BW.walk(M:bh h (.C a.arr 181) λb H=>aH (λ(r:ck) (O:Bool) (c:aj)=>if(!O)then R (.I 4) c else aM r λI=>kR c (I.add 6) λP=> ∃G,Cc c b 20 (.I G)/\if(P !=G)then R (.I 13) c else R (.I 0) c) (λJ=>Hp H b 19 λQ=>aM Q λA=>zM H (A.add 1) λt=>az.cN H (AA b 2) λT=>(Cl 148 #[.pointer t,T.agg] H λv d=> ∃j l n q w y C E,v=.T #[.agg #[.B j,.U l,.U n,.S q,.S w,.I y,.I C],.B E]/\Kp H d [(Sa b 19)]/\bh d (.C #[.B false,.U 0,.U 0,.S gg,.S gg,.I 0,.I 0] 146) λB g=>Kp d g [(Sa b 19)]/\bB.ST g (AA B 0) j l n q w y C λK=>J (Sa B 0) E K)/\(bh H (.C #[.B false,.U 0,.U 0,.S gg,.S gg,.I 0,.I 0] 146) λf e=>Kp H e [(Sa b 2),(some (A.add 1)),(Sa b 19)]/\Cl 148 #[.pointer t,T.agg] e λV i=> ∃k m p u x z D F,V=.T #[.agg #[.B k,.U m,.U p,.S u,.S x,.I z,.I D],.B F]/\Kp e i [(Sa b 19)]/\bB.ST i (AA f 0) k m p u x z D λL=>J (Sa f 0) F L)/\True)):Cl 136 #[a.agg] h R:=aP (lq (sq (.join [(3,.one (.ptr)),(4,.one (.bool))] (.kz (ga 8 0 (.alts (.fork 8 (ga 6 9 .done) (.fork 12 (ga 4 8 (.op 13 (.op 14 .done))) .gM)))))) (sq (bq (lq (cq ll (lq (cq ll lf))))) ll))) Tryz.func136 M
theorem BX.walk(I:bh h (.C a.arr 181) λb l=>cz.cN l (AA b 0) λK=>Cl 136 #[K.agg] l λa' f=> ∃g,a'=.I g/\if(g !=0)then R (.I g) f else Hp f b 19 λL=>az.cN f (AA b 2) λM=>Cl 191 #[.pointer L,M.agg] f λb' C=>ah.EX λp=>ah.EX λq=> ∃i,b'=.T #[p.agg,q.agg,.I i]/\ah.NW C λj D=>ah.NW D λk E=>ah.dw E (AA j 0) p λF=>ah.dw F (AA k 0) q λH=>if(i !=0)then R (.I i) H else az.cN H (AA b 7) λd=>ah.cN H (AA j 0) λT=>Hu H b 16 λO=>aG.NW H λB G=>aG.dw G (AA B 0) ⟨0,0,d.f0,d.f1,d.f2,d.f3,d.f4,false,0,0,gg,gg,T.f0,T.f1,T.f2,T.f3,T.f4,T.f5,T.f6,O⟩ λc=>Hb c b 18 λP=>aH (λ(e:aj)=>cz.cN e (AA b 0) λS=>aG.cN e (AA B 0) λt=>Hl e b 15 λX V U=>bh e (.C #[.U 1,.U 1,.U 0,.I 0,.L X V U] 127) λw m=>ah.cN m (AA k 0) λZ=>Cl 192 #[S.agg,.agg #[.U t.f0,.I t.f1,.B t.f2,.U t.f3,.U t.f4,.S t.f5,.S t.f6,.B t.f7,.U t.f8,.U t.f9,.S t.f10,.S t.f11,.B t.f12,.U t.f13,.U t.f14,.S t.f15,.S t.f16,.U t.f17,.U t.f18,.U t.f19,.L (Sa w 0) 1 1],Z.agg] m λc' x=> ∃r u v,c'=.T #[.I r,.I u,.I v]/\aT x (AA o 2) (.I r) λy=>aT y (AA o 3) (.I u) λz=>R (.I v) z) (λJ=>if P then az.cN c (AA b 2) λQ=>aT c (AA B 0) (.U 131072) λn=>Kp c n [(Sa b 2)]/\az.dw n (AA B 7) Q λA=>J A else J c)):Cl 133 #[a.agg,.P o 0] h R:=aP (lq (sq (lq (lq (cq ll lf))) (lq (sq (lq (cq ll lf)) (lq (sq (lq (.join [] (cq (pK 7) lf))) (lq ll))))))) Tryz.func133 I
theorem BY.walk (hv:bh h (.C a.arr 181) λb C=>cz.cN C (AA b 0) λg'=>Cl 136 #[g'.agg] C λu' H=> ∃t,u'=.I t/\if(t !=0)then R (.I t) H else aH (λ(c:ck) (e:Int) (m:aj)=>if(e !=0)then R (.I e) m else aM c λZ=>mJ m (Z.add 6) λl' k' j'=>Cl 93 #[.L l' k' j'] m λv' e'=>av.EX λV=> ∃m',v'=.T #[V.agg,.I m']/\av.NW e' λB f'=>av.dw f' (AA B 0) V λf=>aM c λv=>kR f v λn'=>av.cN f (AA B 0) λo'=>aM c λg=>mJ f (g.add 6) λt' s' r'=>Cl 198 #[o'.agg] f λw' n=> ∃q' X p',w'=.L q' X p'/\Kp f n [(some (g.add 6)),(some v)]/\aT n (AA o 2) (.I n') λp=>Kp n p [(some (g.add 6))]/\aT p (AA o 3) (.I ((X:Nat):Int)) λG=>Kp p G [(some (g.add 6))]/\aT G (AA o 5) (.L t' s' r') λa'=>R (.I 0) a') (λJ=>Hp H b 19 λh'=>aM h' λA=>zM H (A.add 2) λT=>az.cN H (AA b 2) λq=>Hi H b 20 λr=>Hp H b 19 λi'=>aM i' λw=>gK H (w.add 6) λI=>Hi H b 14 λK=>(Cl 197 #[.U I,.U (wrap .u64 K)] H λx' d=> ∃u,x'=.U u/\Kp H d [(Sa b 14),(Sa b 19),(Sa b 20),(Sa b 2),(some (A.add 2)),(Sa b 19)]/\(Cl 196 #[.pointer T,q.agg,.I r,.U u] d λy' i=>aQ.EX λM=> ∃Q,y'=.T #[M.agg,.I Q]/\Kp d i [(Sa b 14),(Sa b 19),(Sa b 19)]/\aQ.NW i λx D=>Kp i D [(Sa b 14),(Sa b 19),(Sa b 19)]/\aQ.dw D (AA x 0) M λb'=>J (Sa x 0) Q b')/\(aQ.NW d λy j=>Kp d j [(Sa b 14),(Sa b 19),(Sa b 20),(Sa b 2),(some (A.add 2)),(Sa b 19)]/\Cl 196 #[.pointer T,q.agg,.I r,.U u] j λz' E=>aQ.EX λO=> ∃S,z'=.T #[O.agg,.I S]/\Kp j E [(Sa b 14),(Sa b 19),(Sa b 19)]/\aQ.dw E (AA y 0) O λc'=>J (Sa y 0) S c')/\True)/\(aQ.NW H λz k=>Kp H k [(Sa b 14),(some (w.add 6)),(Sa b 19),(Sa b 20),(Sa b 2),(some (A.add 2)),(Sa b 19)]/\Cl 197 #[.U I,.U (wrap .u64 K)] k λA' l=> ∃L,A'=.U L/\Kp k l [(Sa b 14),(Sa b 19),(Sa b 20),(Sa b 2),(some (A.add 2)),(Sa b 19)]/\Cl 196 #[.pointer T,q.agg,.I r,.U L] l λB' F=>aQ.EX λP=> ∃U,B'=.T #[P.agg,.I U]/\Kp l F [(Sa b 14),(Sa b 19),(Sa b 19)]/\aQ.dw F (AA z 0) P λd'=>J (Sa z 0) U d')/\True)):Cl 137 #[a.agg,.P o 0] h R:=aP (lq (sq (lq (lq (cq ll lf))) (sq (.join [(6,.one (.ptr)),(7,.one (.int .i64))] (.kz (ga 19 0 (.alts (.fork 19 (.alts (.fork 20 (ga 6 21 .done) (.fork 24 (ga 4 20 (.op 25 (.op 26 .done))) .gM))) (.fork 24 (ga 5 19 (.op 25 (.op 26 .done))) .gM)))))) (sq (lq (cq ll lf)) (lq (sq (.kz (ga 6 0 (.op 8 (.op 9 (.op 6 (.op 7 (ga 9 10 .done))))))) ll)))))) Tryz.func137 hv
theorem BZ.walk{A':ck}{z' y':Nat} (hv:bh h (.C a.arr 181) λb e0=>Cl 93 #[.L A' z' y'] e0 λi2 e3=>av.EX λS'=> ∃h2,i2=.T #[S'.agg,.I h2]/\av.NW e3 λh' e8=>av.dw e8 (AA h' 0) S' λJ'=>aG.cN J' (AA h' 0) λh3=>aG.NW J' λB f8=>aG.dw f8 (AA B 0) h3 λE=>aH (λ(h4:Bool) (g:aj)=>if h4 then R (.I 0) g else aH (λ(id:ck) (h0:ck) (e:Int) (H:aj)=>if(e !=0)then R (.I 0) H else aH (λ(d9:Int) (h1:ck) (y:aj)=>if(d9 !=0)then R (.I 0) y else cz.cN y (AA b 0) λh7=>aM h1 λd6=>av.cN y d6 λh8=>aM h0 λd7=>ah.cN y d7 λh9=>Cl 192 #[h7.agg,h8.agg,h9.agg] y λi3 B'=> ∃i0 i1 d5,i3=.T #[.I i0,.I i1,.I d5]/\if(d5 !=0)then R (.I 0) B' else R (.I 1) B') (λg'=>Hp H b 19 λh6=>aM h6 λA=>gK H (A.add 6) λc7=>ah.cN H (AA B 12) λT=>az.cN H (AA B 7) λc8=>aM id λd8=>ah.cN H d8 λc9=>Hu H B 19 λd0=>(Cl 265 #[.agg #[.B false,.B true,.B false,.U 0,.U c7,.B T.f0,.U T.f1,.U T.f2,.S T.f3,.S T.f4,.U T.f5,.U T.f6],c8.agg,c9.agg,.U d0] H λj4 F=>av.EX λd1=> ∃d3,j4=.T #[d1.agg,.I d3]/\Kp H F [(Sa B 12),(some (A.add 6)),(Sa b 19)]/\av.NW F λs' C'=>Kp F C' [(Sa B 12),(some (A.add 6)),(Sa b 19)]/\av.dw C' (AA s' 0) d1 λe1=>g' d3 (Sa s' 0) e1)/\(av.NW H λt' G=>Kp H G [(Sa B 19),id,(Sa B 7),(Sa B 12),(some (A.add 6)),(Sa b 19)]/\Cl 265 #[.agg #[.B false,.B true,.B false,.U 0,.U c7,.B T.f0,.U T.f1,.U T.f2,.S T.f3,.S T.f4,.U T.f5,.U T.f6],c8.agg,c9.agg,.U d0] G λj5 D'=>av.EX λd2=> ∃d4,j5=.T #[d2.agg,.I d4]/\Kp G D' [(Sa B 12),(some (A.add 6)),(Sa b 19)]/\av.dw D' (AA t' 0) d2 λe2=>g' d4 (Sa t' 0) e2)/\True)) (λJ=>Hp g b 19 λc=>Hp g b 19 λh5=>aM h5 λn=>zM g (n.add 5) λz=>(Cl 29 #[.pointer z] g λj6 i=>ah.EX λt=>j6=t.agg/\Kp g i [(Sa b 19),(Sa b 19)]/\(Cl 191 #[.pointer c,.agg #[.B t.f0,.U t.f1,.U t.f2,.S t.f3,.S t.f4]] i λj7 p=>ah.EX λc'=>ah.EX λd'=> ∃e',j7=.T #[c'.agg,d'.agg,.I e']/\Kp i p [(Sa b 19)]/\(ah.NW p λu' I=>Kp p I [(Sa b 19)]/\ah.NW I λv' E'=>Kp I E' [(Sa b 19)]/\ah.dw E' (AA u' 0) c' λe4=>ah.dw e4 (AA v' 0) d' λe5=>J (Sa u' 0) (Sa v' 0) e' e5)/\(ah.NW p λw' K=>Kp p K [(Sa b 19)]/\ah.NW K λx' F'=>Kp K F' [(Sa b 19)]/\ah.dw F' (AA x' 0) c' λe6=>ah.dw e6 (AA w' 0) d' λe7=>J (Sa x' 0) (Sa w' 0) e' e7)/\True)/\(ah.NW i λD q=>Kp i q [(Sa b 19),(Sa b 19)]/\(Cl 191 #[.pointer c,.agg #[.B t.f0,.U t.f1,.U t.f2,.S t.f3,.S t.f4]] q λj8 L=>ah.EX λV'=>ah.EX λa7=> ∃b7,j8=.T #[V'.agg,a7.agg,.I b7]/\Kp q L [(Sa b 19)]/\ah.NW L λi' G'=>Kp L G' [(Sa b 19)]/\ah.dw G' (AA D 0) V' λe9=>ah.dw e9 (AA i' 0) a7 λf0=>J (Sa D 0) (Sa i' 0) b7 f0)/\(ah.NW q λj' M=>Kp q M [(Sa b 19),(Sa b 19)]/\Cl 191 #[.pointer c,.agg #[.B t.f0,.U t.f1,.U t.f2,.S t.f3,.S t.f4]] M λj9 H'=>ah.EX λZ'=>ah.EX λa9=> ∃b9,j9=.T #[Z'.agg,a9.agg,.I b9]/\Kp M H' [(Sa b 19)]/\ah.dw H' (AA D 0) Z' λf1=>ah.dw f1 (AA j' 0) a9 λf2=>J (Sa D 0) (Sa j' 0) b9 f2)/\True)/\(ah.NW i λC r=>Kp i r [(Sa b 19),(Sa b 19)]/\(Cl 191 #[.pointer c,.agg #[.B t.f0,.U t.f1,.U t.f2,.S t.f3,.S t.f4]] r λk0 O=>ah.EX λa0=>ah.EX λb0=> ∃c0,k0=.T #[a0.agg,b0.agg,.I c0]/\Kp r O [(Sa b 19)]/\ah.NW O λk' I'=>Kp O I' [(Sa b 19)]/\ah.dw I' (AA k' 0) a0 λf3=>ah.dw f3 (AA C 0) b0 λf4=>J (Sa k' 0) (Sa C 0) c0 f4)/\(ah.NW r λl' P=>Kp r P [(Sa b 19),(Sa b 19)]/\Cl 191 #[.pointer c,.agg #[.B t.f0,.U t.f1,.U t.f2,.S t.f3,.S t.f4]] P λk1 K'=>ah.EX λa1=>ah.EX λb1=> ∃c1,k1=.T #[a1.agg,b1.agg,.I c1]/\Kp P K' [(Sa b 19)]/\ah.dw K' (AA l' 0) a1 λf5=>ah.dw f5 (AA C 0) b1 λf6=>J (Sa l' 0) (Sa C 0) c1 f6)/\True)/\True)/\(ah.NW g λj u=>Kp g u [(some (n.add 5)),(Sa b 19),(Sa b 19)]/\(Cl 29 #[.pointer z] u λi4 v=>ah.EX λd=>i4=d.agg/\Kp u v [(Sa b 19),(Sa b 19)]/\(Cl 191 #[.pointer c,.agg #[.B d.f0,.U d.f1,.U d.f2,.S d.f3,.S d.f4]] v λi5 Q=>ah.EX λa2=>ah.EX λb2=> ∃c2,i5=.T #[a2.agg,b2.agg,.I c2]/\Kp v Q [(Sa b 19)]/\ah.NW Q λm' L'=>Kp Q L' [(Sa b 19)]/\ah.dw L' (AA j 0) a2 λf7=>ah.dw f7 (AA m' 0) b2 λf9=>J (Sa j 0) (Sa m' 0) c2 f9)/\(ah.NW v λn' S=>Kp v S [(Sa b 19),(Sa b 19)]/\Cl 191 #[.pointer c,.agg #[.B d.f0,.U d.f1,.U d.f2,.S d.f3,.S d.f4]] S λi6 M'=>ah.EX λa3=>ah.EX λb3=> ∃c3,i6=.T #[a3.agg,b3.agg,.I c3]/\Kp S M' [(Sa b 19)]/\ah.dw M' (AA j 0) a3 λg0=>ah.dw g0 (AA n' 0) b3 λg1=>J (Sa j 0) (Sa n' 0) c3 g1)/\True)/\(ah.NW u λo' U=>Kp u U [(some (n.add 5)),(Sa b 19),(Sa b 19)]/\Cl 29 #[.pointer z] U λi7 V=>ah.EX λl=>i7=l.agg/\Kp U V [(Sa b 19),(Sa b 19)]/\Cl 191 #[.pointer c,.agg #[.B l.f0,.U l.f1,.U l.f2,.S l.f3,.S l.f4]] V λi8 O'=>ah.EX λa4=>ah.EX λb4=> ∃c4,i8=.T #[a4.agg,b4.agg,.I c4]/\Kp V O' [(Sa b 19)]/\ah.dw O' (AA j 0) a4 λg2=>ah.dw g2 (AA o' 0) b4 λg3=>J (Sa j 0) (Sa o' 0) c4 g3)/\True)/\(ah.NW g λk w=>Kp g w [(some (n.add 5)),(Sa b 19),(Sa b 19)]/\(Cl 29 #[.pointer z] w λi9 x=>ah.EX λf=>i9=f.agg/\Kp w x [(Sa b 19),(Sa b 19)]/\(Cl 191 #[.pointer c,.agg #[.B f.f0,.U f.f1,.U f.f2,.S f.f3,.S f.f4]] x λj0 X=>ah.EX λa5=>ah.EX λb5=> ∃c5,j0=.T #[a5.agg,b5.agg,.I c5]/\Kp x X [(Sa b 19)]/\ah.NW X λp' P'=>Kp X P' [(Sa b 19)]/\ah.dw P' (AA p' 0) a5 λg4=>ah.dw g4 (AA k 0) b5 λg5=>J (Sa p' 0) (Sa k 0) c5 g5)/\(ah.NW x λq' Z=>Kp x Z [(Sa b 19),(Sa b 19)]/\Cl 191 #[.pointer c,.agg #[.B f.f0,.U f.f1,.U f.f2,.S f.f3,.S f.f4]] Z λj1 Q'=>ah.EX λa6=>ah.EX λb6=> ∃c6,j1=.T #[a6.agg,b6.agg,.I c6]/\Kp Z Q' [(Sa b 19)]/\ah.dw Q' (AA q' 0) a6 λg6=>ah.dw g6 (AA k 0) b6 λg7=>J (Sa q' 0) (Sa k 0) c6 g7)/\True)/\(ah.NW w λr' a'=>Kp w a' [(some (n.add 5)),(Sa b 19),(Sa b 19)]/\Cl 29 #[.pointer z] a' λj2 b'=>ah.EX λm=>j2=m.agg/\Kp a' b' [(Sa b 19),(Sa b 19)]/\Cl 191 #[.pointer c,.agg #[.B m.f0,.U m.f1,.U m.f2,.S m.f3,.S m.f4]] b' λj3 R'=>ah.EX λX'=>ah.EX λa8=> ∃b8,j3=.T #[X'.agg,a8.agg,.I b8]/\Kp b' R' [(Sa b 19)]/\ah.dw R' (AA r' 0) X' λg8=>ah.dw g8 (AA k 0) a8 λg9=>J (Sa r' 0) (Sa k 0) b8 g9)/\True)/\True)) (λf'=> ∃T',Cc E B 0 (.U T')/\if((wrap .u64 ((od T' &&& od 131072).toNat:Int))==0)then f' true E else∃U',Cc E B 0 (.U U')/\f' ((wrap .u64 ((od U' &&& od 2).toNat:Int)) !=0) E)):Cl 203 #[a.agg,.L A' z' y'] h R:=aP (lq (lq (lq (sq (sq (.join [(31,.one (.bool))] lf) (cq ll lf)) (sq (.join [(8,.one (.ptr)),(9,.one (.ptr)),(10,.one (.int .i64))] (.kz (ga 7 0 (.alts (.fork 7 (.op 8 (.alts (.fork 9 (ga 4 10 (.alts (.fork 14 (ga 4 15 .done) (.fork 15 (.op 14 (ga 3 16 .done)) .gM)))) (.fork 14 (.alts (.fork 9 (ga 4 10 (ga 4 15 .done)) (.fork 15 (ga 5 9 (ga 3 16 .done)) .gM))) (.fork 15 (.alts (.fork 9 (ga 5 10 (ga 3 16 .done)) (.fork 14 (ga 5 9 (ga 3 16 .done)) .gM))) .gM))))) (.fork 14 (.alts (.fork 7 (.op 8 (.alts (.fork 9 (ga 4 10 (ga 4 15 .done)) (.fork 15 (ga 5 9 (ga 3 16 .done)) .gM)))) (.fork 15 (ga 7 7 (ga 3 16 .done)) .gM))) (.fork 15 (.alts (.fork 7 (.op 8 (.alts (.fork 9 (ga 5 10 (ga 3 16 .done)) (.fork 14 (ga 5 9 (ga 3 16 .done)) .gM)))) (.fork 14 (ga 7 7 (ga 3 16 .done)) .gM))) .gM))))))) (sq (lq (cq ll lf)) (sq (.join [(10,.one (.int .i64)),(11,.one (.ptr))] (.kz (ga 13 0 (.alts (.fork 13 (ga 6 14 .done) (.fork 17 (ga 4 13 (.op 18 (.op 19 .done))) .gM)))))) (sq (lq (cq ll lf)) (sq (lq (lq (cq ll lf))) ll))))))))) Tryz.func203 hv
theorem jD.VF.walk{c:ck}{S e:Nat}{f:Nat}(d: ∃(I:Int->aj->Prop)(m:Int->aj->Nat),I 0 h/\∀(t:Int)(H:aj),I t H->if(decide (t<(S:Int)))then Bd t S/\aM c λa=>aQ.cN H (a.add (toNat t*10)) λg=>Cl 202 #[g.agg,.P f 0] H λv b=> ∃T,v=.B T/\if T then R (.I t) b else(I (wrap .i64 (t+1)) b/\m (wrap .i64 (t+1)) b<m t H)else R (.I (-1)) H):Cl 201 #[.L c S e,.func (.func 202) #[] #[.P f 0]] h R:=aP (lq (sq (lq (bq (.loop [(8,.one (.int .i64))] (lq (sq (cq lf lf) (sq (bq (lq (lq (cq ll lf)))) lf)))))) ll)) Tryz.func201 d
theorem CW.walk (r:bh h (.C a.arr 181) λb d=>Hp d b 19 λI=>aM I λA=>zM d (A.add 2) λu=>Cl 199 #[.pointer u] d λv H=>Vl v λi g w=>Hp H b 19 λx=>aM x λl=>zM H (l.add 2) λy=>Hi H b 13 λz=>Hi H b 20 λB=>Cl 200 #[.pointer y,.I z,.I B] H λV e=> ∃t,V=.I t/\Kp H e [(Sa b 19)]/\Cl 201 #[.L i g w,.func (.func 202) #[] #[.P b 0]] e λK f=>Vi K λT=>aH (λ(C:Bool) (c:aj)=>aH (λ(n:aj)=>R (.I t) n) (λj=>if C then cz.cN c (AA b 0) λD=>Bd T g/\aM i λm=>mJ c ((m.add (toNat T*10)).add 6) λG F E=>Cl 203 #[D.agg,.L G F E] c λL p=> ∃k,L=.I k/\aT p (AA o 3) (.I k) λq=>j q else j c)) (λJ=>if(t==0)then J (decide (T≥0)) f else J false f)):Cl 138 #[a.agg,.P o 0] h R:=aP (lq (lq (sq (pK 12) (lq (sq (sq (.join [(33,.one (.bool))] lf) (.join [] (cq (pK 11) lf))) ll))))) Tryz.func138 r
theorem zD.walk{c:aQ.S}{C:Nat}(d:bh h (.C c.arr 194) λb H=>Hi H b 0 λT=> ∃t,Cc H C 13 (.I t)/\R (.B (T==t)) H):Cl 202 #[c.agg,.P C 0] h R:=aP (lq ll) Tryz.func202 d
theorem zE.walk(p:bh h (.C a.arr 181) λb c=>Hp c b 19 λz=>aM z λA=>zM c A λq=>Hi c b 20 λr=>Hb c b 18 λu=>Cl 205 #[.pointer q,.I r,.B u] c λv H=> ∃t,v=.I t/\Kp c H [(Sa b 19)]/\aH (λ(e:Int) (l:aj)=>R (.I e) l) (λJ=>if(t==0)then Hp H b 19 λw=>aM w λk=>zM H k λx=>Hi H b 20 λy=>Cl 206 #[.pointer x,.I y] H λV d=> ∃g f T i j,V=.T #[.L g f T,.I i,.I j]/\Kp H d [(Sa b 19)]/\aT d (AA o 5) (.L g f T) λm=>aT m (AA o 3) (.I i) λn=>J j n else J t H)):Cl 140 #[a.agg,.P o 0] h R:=aP (lq (sq (pK 12) (sq (lq (.join [(5,.one (.int .i64))] (cq (pK 21) lf))) ll))) Tryz.func140 p
theorem FE.walk(Q:bh h (.C a.arr 181) λb H=> ∃t,Cc H b 1 (.I t)/\if(t==1)then Hp H b 19 λa'=>aM a' λA=>zM H (A.add 1) λe'=>az.cN H (AA b 2) λT=>Hi H b 12 λf'=>Hi H b 20 λg'=>Cl 129 #[.pointer e',.agg #[.B T.f0,.U T.f1,.U T.f2,.S T.f3,.S T.f4,.I f',.I g']] H λC' i=> ∃r,C'=.I r/\Kp H i [(Sa b 20),(Sa b 12),(Sa b 2),(Sa b 19)]/\R (.I r) i else if(t==2)then Hp H b 19 λh'=>aM h' λz=>zM H (z.add 1) λi'=>az.cN H (AA b 2) λj'=>Hi H b 20 λk'=>Cl 130 #[.pointer i',j'.agg,.I k'] H λD' c=> ∃d,D'=.I d/\Kp H c [(Sa b 19)]/\aH (λ(L:aj)=>R (.I d) L) (λJ=>if(d==0)then Hp c b 19 λl'=>aM l' λB=>zM c (B.add 2) λm'=>az.cN c (AA b 2) λn'=>Cl 131 #[.pointer m',n'.agg] c λG' j=> ∃p' u o',G'=.L p' u o'/\Kp c j [(Sa b 19)]/\aT j (AA o 3) (.I ((u:Nat):Int)) λM=>J M else J c)else if(t==3)then Hp H b 19 λq'=>aM q' λC=>zM H (C.add 1) λr'=>az.cN H (AA b 2) λs'=>Hi H b 20 λt'=>Hi H b 12 λu'=>Cl 132 #[.pointer r',s'.agg,.I t',.I u'] H λH' k=> ∃v,H'=.I v/\Kp H k [(Sa b 19)]/\R (.I v) k else if(t==4)then cz.cN H (AA b 0) λv'=>Cl 133 #[v'.agg,.P o 0] H λI' O=> ∃w,I'=.I w/\R (.I w) O else if(t==5)then Hp H b 19 λw'=>Hi H b 13 λx'=>Hi H b 20 λy'=>Cl 134 #[.pointer w',.I x',.I y'] H λJ' P=> ∃x,J'=.I x/\R (.I x) P else if(t==6)then Hp H b 19 λz'=>aM z' λD=>zM H (D.add 2) λA'=>az.cN H (AA b 2) λB'=>Cl 135 #[.pointer A',B'.agg] H λK' e=> ∃y,K'=.I y/\Kp H e [(Sa b 19)]/\aT e (AA o 2) (.I y) λf=>cz.cN f (AA b 0) λS=>Cl 136 #[S.agg] f λL' F=> ∃l,L'=.I l/\R (.I l) F else if(t==7)then cz.cN H (AA b 0) λU=>Cl 137 #[U.agg,.P o 0] H λM' G=> ∃m,M'=.I m/\R (.I m) G else if(t==8)then cz.cN H (AA b 0) λV=>Cl 138 #[V.agg,.P o 0] H λO' I=> ∃n,O'=.I n/\R (.I n) I else if(t==9)then Hp H b 19 λX=>aM X λE=>zM H (E.add 2) λZ=>Hi H b 13 λb'=>Hi H b 20 λc'=>Cl 139 #[.pointer Z,.I b',.I c'] H λE' g=> ∃p,E'=.I p/\Kp H g [(Sa b 19)]/\R (.I p) g else if(t==10)then cz.cN H (AA b 0) λd'=>Cl 140 #[d'.agg,.P o 0] H λF' K=> ∃q,F'=.I q/\R (.I q) K else R (.I 3) H):Cl 90 #[a.agg,.P o 0] h R:=aP (lq (sq (lq (bq (lq (cq (sq (pK 16) lf) (lq (cq (sq (pK 12) (sq (lq (.join [] (cq (pK 14) lf))) ll)) (lq (cq (sq (pK 15) lf) (lq (cq ll (lq (cq ll (lq (cq (sq (pK 13) ll) (lq (cq ll (lq (cq ll (lq (cq (sq (pK 12) lf) (lq (cq ll lf)))))))))))))))))))))) ll)) Tryz.func90 Q
theorem To.walk{S:Int}{r:aI.S}(hv:bh h (.C r.arr 28) λb f'=>ar.NW f' λB H=>aH (λ(B':Bool) (e:aj)=>if B' then Hu e b 0 λC'=>Cl 26 #[.U C',.I 6] e λK' m'=>ar.EX λQ=>K'=Q.agg/\ar.dw m' (AA B 0) Q λz=>ar.cN z (AA B 0) λr0=>R (r0.agg) z else aH (λ(D':Bool) (f:aj)=>if D' then Hu f b 0 λF'=>Cl 26 #[.U F',.I 3] f λL' n'=>ar.EX λX=>L'=X.agg/\ar.dw n' (AA B 0) X λA=>ar.cN A (AA B 0) λo'=>R (o'.agg) A else Hp f s 0 λG'=>Cl 87 #[.pointer G',.I S] f λO' d=> ∃Z,O'=.B Z/\if(!Z)then Hu d b 0 λH'=>Cl 26 #[.U H',.I 16] d λP' g'=>ar.EX λa'=>P'=a'.agg/\ar.dw g' (AA B 0) a' λp=>ar.cN p (AA B 0) λp'=>R (p'.agg) p else Hp d s 0 λI'=>Hu d b 0 λJ'=>Cl 88 #[.pointer I',.I S,.U J'] d λQ' g=> ∃d' c' b' e',Q'=.T #[.L d' c' b',.B e']/\if e' then Cl 89 #[.L d' c' b'] g λR' h'=>ar.EX λT=> ∃s',R'=.T #[T.agg,.I s']/\ar.NW h' λn i'=>ar.dw i' (AA n 0) T λq=>ar.cN q (AA n 0) λt'=>ar.dw q (AA B 0) t' λu=>ar.cN u (AA B 0) λq'=>R (q'.agg) u else Hu g b 0 λu'=>ar.NW g λc j'=>ar.dw j' (AA c 0) ⟨u',0,0,0,0,none,0,0⟩ λv=>aI.cN v (AA b 0) λt=>Cl 90 #[.agg #[.U t.f0,.I t.f1,.B t.f2,.U t.f3,.U t.f4,.S t.f5,.S t.f6,.B t.f7,.U t.f8,.U t.f9,.S t.f10,.S t.f11,.I t.f12,.I t.f13,.I t.f14,.L t.QP t.On t.QQ,.U t.f16,.U t.f17,.B t.f18,.P s 0,.I S],.P c 0] v λS' i=>Vi S' λC=>aH (λ(w:aj)=>ar.cN w (AA c 0) λw'=>Cl 91 #[w'.agg] w λT' j=> ∃G F E x',T'=.T #[.L G F E,.I x']/\Hp j s 0 λy'=>Hu j b 0 λz'=>Cl 92 #[.pointer y',.I S,.U z',.L G F E] j λU' x=>Vi U' λ_=>ar.cN x (AA c 0) λA'=>ar.dw x (AA B 0) A' λy=>ar.cN y (AA B 0) λr'=>R (r'.agg) y) (λm=>if(C !=0)then Hu i b 0 λv'=>Cl 26 #[.U v',.I C] i λV' k'=>ar.EX λD=>V'=D.agg/\ar.dw k' (AA c 0) D λl'=>m l' else m i)) (λl=>aI.cN e (AA b 0) λE'=>Cl 71 #[E'.agg] e λM' k=> ∃U,M'=.B U/\if(!U)then l true k else∃V,Cc k b 1 (.I V)/\l (decide (V≥11)) k)) (λJ=> ∃I,Cc H s 0 (.pointer I)/\if I.isNone then J true H else∃K,Cc H s 1 (.pointer K)/\if K.isNone then J true H else∃L,Cc H s 2 (.pointer L)/\if L.isNone then J true H else∃M,Cc H s 3 (.pointer M)/\if M.isNone then J true H else∃O,Cc H s 4 (.pointer O)/\if O.isNone then J true H else∃P,Cc H s 5 (.pointer P)/\J P.isNone H)):Cl 54 #[.P s 0,.I S,r.agg] h R:=aP (lq (sq (bq (sq (.join [(15,.one (.bool))] lf) (cq ll (sq (.join [(63,.one (.bool))] lf) (cq ll (lq (cq ll lf))))))) (sq (sq (pK 13) (lq (cq (lq ll) lf))) (lq (sq (lq (lq (.join [] (cq lf lf)))) (lq (sq (pK 9) ll))))))) Tryz.func54 hv
theorem Ke.walk(d:az.NW h λb c=>az.dw c (AA b 0) ⟨true,7,0,gg,gg⟩ λH=>az.cN H (AA b 0) λr=>R (r.agg) H):Cl 5 #[] h R:=aP (lq ll) Tryz.func5 d

end
section
namespace Ask
open jA (Ev dc)
open dM (SS Good Pt pG Mk)
open Bn (jq ij iX A5 ES)
variable {h H:aj} {R:fD} {s k m:Nat} {X:Ft} {I:pG} {a:SS} {e:Ev} {t sq:Nat}
variable {K:aj->Prop}
theorem HY(n l:Nat)(c:n<=1099511627776)(d:l<=1099511627776)(b:R (.U (nW n l:Int)) h):Cl 197 #[.U (n:Int),.U (l:Int)] h R:=by
 refine Na.walk ?_;rw[wrap_u64 ae ae];have:(if(1099511627776:Int)<(n:Int)+(l:Int)then 1099511627776 else(n:Int)+(l:Int))=(nW n l:Int):=by unfold nW;split<;>omega
 rw[this];exact b
theorem PZ(M:Mk h m e t sq)(n:Nat)(hn:n<=1099511627776)(hs:sq<=1099511627776)(U:t<n->∀H,Mk H m e n 0->Fr (λy=>y=m) h H->R (.T #[(⟨e,n,0⟩:jq).s.agg,.I 0]) H)(V: ¬t<n->sq<1099511627776->∀H,Mk H m e t (sq+1)->Fr (λy=>y=m) h H->R (.T #[(⟨e,t,sq+1⟩:jq).s.agg,.I 0]) H)(Z: ¬t<n->1099511627776<=sq->iq h R (.T #[jq.zero.s.agg,.I 5])):Cl 261 #[pt m,.U (n:Int)] h R:=by
 refine xf.walk (ah.da λb D eb r F=>aH.of λa' G=>aH.of λJ1 L=> ?_);have c:=F.get M id;have zm:=aC M;have u:b≠m:=ae
 refine⟨_,ak c,?_⟩;subst L;dsimp only;refine aH.of λJ2 O=> ?_
 rw[dB];refine aH.of λJ3 P=> ?_
 rw[dB];refine⟨_,ak c,aH.of λJ Q=> ?_⟩;have fin: ∀g (T q:Nat),Mk g m e T q->Fr (λy=>y=m) D g->(∀H,Mk H m e T q->Fr (λy=>y=m) h H->R (.T #[(⟨e,T,q⟩:jq).s.agg,.I 0]) H)->J g:=by
  intro g T q o p S;subst Q;subst P;subst O;subst G;refine A5 ⟨e,T,q⟩ o rfl rfl rfl rfl rfl rfl rfl (ES ⟨e,T,q⟩ (p.get r u) λl f=>S l (f.get o (λe=>u e.symm)) ?_);exact(Fr.no F p).trans f bX (λb' hc e=>ae)
 by_cases C:t<n
 .rw[gk];refine bD c bV λj A d i=>bD A bV λE B w x=> ?_
  exact fin E n 0 B ((Fr.of_eq (S:=λy=>y=m) d i).tt (Fr.of_eq w x)) (U C)
 rw[dB];refine⟨_,ak c,?_⟩;by_cases z:1099511627776<=sq
 .rw[ag (by simp only[aX];omega)];exact ES .zero r λl f=>Z C z l (F.fresh f (λy e=>ae))
 rw[dB];refine⟨_,ak c,?_⟩;rw[wrap_u64 ae ae];refine bD c bV λj A d i=> ?_
 have v:Mk j m e t (sq+1):=by unfold Mk;rw[Int.natCast_add];exact A
 exact fin j t (sq+1) v (Fr.of_eq d i) (V C ae)
theorem vU(A b:jq)(q:A.tm<b.tm\/A.tm=b.tm/\A.sq<b.sq)(d: iq h R (.B true)):Cl 294 #[A.s.agg,b.s.agg] h R:=by
 refine G2.walk (ah.da λB p E i F=>ah.da λl j o c f=>⟨_,ak (f.get i id),_,ak c,?_⟩);have g:=f.get i id;have d:=d j (F.tt f);by_cases C:A.tm=b.tm
 .rw[af (by show¬(((A.tm:Int)) !=(b.tm:Int))=true;rw[C];simp)];refine⟨_,ak g,_,ak c,?_⟩;have n:A.sq<b.sq:=ae
  rw[ag (by show(((A.sq:Int)) !=(b.sq:Int))=true;simp;omega)];refine⟨_,ak g,_,ak c,?_⟩;rw[aw (by show(A.sq:Int)<(b.sq:Int);omega)];exact d
 .rw[ag (by show(((A.tm:Int)) !=(b.tm:Int))=true;simp;omega)];refine⟨_,ak g,_,ak c,?_⟩;rw[aw (by show(A.tm:Int)<(b.tm:Int);omega)];exact d
theorem VI(M:Mk h m e t sq)(x:jq)(i:x.e=e)(j: ∀H,Mk H m e x.tm x.sq->Fr (λy=>y=m) h H->K H):ah.dw h (AA m 0) x.s K:=by
 subst i;exact(show dO (AA m 0) x.s.l 0 h K from lV (off:=0) (ws:= [.B x.e.km,.U x.e.node,.U x.e.gy,.S x.e.host,.S x.e.jN,.U (x.tm:Int),.U (x.sq:Int),.B true]) M (by show 0+7<=8;omega) rfl rfl λf d D b=>j f d (Fr.of_eq D λc g=>b c g))
theorem HZ(M:Mk h m e t sq)(x:jq)(l:x.e=e)(w:ij x=true)(v:t<x.tm\/t=x.tm/\sq<x.sq)(u: ∀H,Mk H m e x.tm x.sq->Fr (λy=>y=m) h H->R (.I 0) H):Cl 260 #[pt m,x.s.agg] h R:=by
 refine xg.walk (ah.da λb A E j i=>aH.of λJ q=> ?_);have g:=i.get M id;have Z:=aC M;refine⟨_,ak g,?_⟩;subst q;dsimp only;rw[dB];refine aH.of λz r=>ah.fN (x:=x.s) j (Bn.sN x λB f=>⟨_,rfl,?_⟩)
 have c:=f.get g id;have d:=f.get j id;rw[w,dB];refine iX x.e d rfl rfl rfl rfl rfl (iX e c rfl rfl rfl rfl rfl ⟨_,jA.vD (x:=x.e) (y:=e) rfl rfl,?_⟩);subst r;dsimp only;rw[aw l,dB];refine A5 ⟨e,t,sq⟩ c rfl rfl rfl rfl rfl rfl rfl (ah.fN (x:=x.s) d (vU ⟨e,t,sq⟩ x v λC F=>⟨_,rfl,?_⟩));rw[dB];exact ah.fN (x:=x.s) (F.get d id) (VI (F.get c id) x l λp n o=>u p n (Fr.no (i.tt (f.tt F)) o))
theorem Pt.mk'(b:Pt h s X I a):Mk h I.k a.e a.tm a.sq:=by obtain⟨y,c,_⟩:=b;exact(c 5).1
theorem Un{b:Nat}{y:jq}(x:Ev)(i:ah.fR h b y.s)(l: ∀H,ah.fR H b (⟨x,y.tm,y.sq⟩:jq).s->Fr (λy=>y=b) h H->K H):az.dw h (AA b 0) x.s K:=
 (show dO (AA b 0) x.s.l 0 h K from lV (off:=0) (ws:=(⟨x,y.tm,y.sq⟩:jq).s.l) i (by show 0+5<=7;omega) rfl rfl λg d D f=>l g d (Fr.of_eq D λc j=>f c j))
theorem vV(l':Pt h s X I a)(G:dM.Good a k)(S:Ev)(P: ∀n,qJ a=some n->iq h R (.T #[(⟨S,n.1,n.2⟩:jq).s.agg,(⟨a.e,n.1,n.2⟩:jq).s.agg,.I 0]))(k2:qJ a=none->iq h R (.T #[(⟨S,0,0⟩:jq).s.agg,jq.zero.s.agg,.I 5])):Cl 191 #[pt s,S.s.agg] h R:=by
 refine PY.walk (az.da λp' h1 eb hb f1=>ah.da λb h2 I' o A=>ah.da λu E J' z' i=> ?_);have U:=f1.tt (A.tt i);have r:=l'.on U;have z1:=f1.1;have z2:=A.1;have z3:=i.1;refine⟨_,ak r.cW,dM.FD (Pt.mk' r) λh4 f4=>ah.ex (⟨a.e,a.tm,a.sq⟩:jq).s ⟨rfl,ah.fY (x:=(⟨a.e,a.tm,a.sq⟩:jq).s) λb3 h6 K' i' f6=> ?_⟩⟩;have z4:=f4.1;refine iX a.e i' rfl rfl rfl rfl rfl (dM.yH a.e (λhm J m V g7 D=>⟨_,_,rfl,?_⟩) (λhm=>absurd ⟨G.e.1,G.e.2.1⟩ hm));rw[dB];have k':=f4.tt (f6.tt D);have M:=D.get i' id;have z6:=f6.1;have z7:=D.1;have T: ∀(g:aj)(x:jq)(q:Int),Fr No E g->(∀g',Fr No h g'->R (.T #[(⟨S,x.tm,x.sq⟩:jq).s.agg,x.s.agg,.I q]) g')->
   bh g (.C ah.S.z.arr 71) λB x'=>
   ah.dw x' (AA B 0) x.s λe'=>
   ah.cN e' (AA B 0) λE'=>
   bh e' (.C ah.S.z.arr 71) λw y'=>
   ah.dw y' (AA w 0) E' λf'=>
   az.cN f' (AA p' 0) λF'=>
   az.dw f' (AA w 0) F' λl=>
   ah.cN l (AA w 0) λG'=>
   ah.cN l (AA B 0) λH'=>
   ah.dw l (AA b 0) G' λh'=>
   Kp l h' [(Sa B 0)]/\
   ah.dw h' (AA u 0) H' λL=>
   ah.cN L (AA b 0) λC'=>
   ah.cN L (AA u 0) λD'=>
   R (.T #[C'.agg,D'.agg,.I q]) L:=by
  intro g x q j hk;refine ah.fY (x:=x.s) λb4 O' L' O a'=>ah.fN O (ah.fY (x:=x.s) λb5 P' M' A' b'=> ?_)
  have Q:=j.tt (a'.tt b');have zg:=j.1;have T':=a'.1;have R':b≠b4:=by have:=aC o;omega
  have S':b≠b5:=by have:=aC o;omega
  have j':u≠b:=by have:=aC o;omega
  refine iX S (Q.get ((A.tt i).get hb id) id) rfl rfl rfl rfl rfl (Un S A' λt' B' c'=>ah.fN (x:=(⟨S,x.tm,x.sq⟩:jq).s) B' (ah.fN (x:=x.s) (c'.get (b'.get O id) (bR (aC O))) ?_));have p:Fr No E t':=Q.fresh c' (λy e=>ae);refine ah.hU (x:=(⟨S,x.tm,x.sq⟩:jq).s) (p.get (i.get o id) id) λQ' q' z _=>⟨Bn.Vr z (by simp;omega),ah.hU (x:=x.s) (z.get (p.get z' id) j') λu' r' d' _=>ah.fN (x:=(⟨S,x.tm,x.sq⟩:jq).s) (d'.get q' j'.symm) (ah.fN (x:=x.s) r' (hk u' ?_))⟩
  exact((U.tt p).fresh z (λy e=>ae)).fresh d' (λy e=>ae)
 refine aH.of λm' hJ=> ?_
 have key: ∀v,(v=true↔0<a.tm\/0<a.sq)->m' v J:=by
  intro v hv;subst hJ;dsimp only;refine aH.of λJ1 w'=> ?_
  have fin: ∀g,Mk g m a.e a.tm a.sq->Fr (λy=>y=m) J g->J1 g:=by
   intro g Mg j;subst w';have F:Fr No E g:=k'.fresh j (λy e=>ae);have Hg:=r.on F;unfold qJ at P k2;refine⟨_,ak Hg.cW,PZ Mg a.now G.n G.t.2 (λC d n' f=> ?_) (λC Z d n' f=> ?_) (λC Z d f=> ?_)⟩
   .exact ah.ex (⟨a.e,a.now,0⟩:jq).s ⟨_,rfl,T d ⟨a.e,a.now,0⟩ 0 (F.fresh f (λy e=>ae)) (P (a.now,0) (ag C))⟩
   .exact ah.ex (⟨a.e,a.tm,a.sq+1⟩:jq).s ⟨_,rfl,T d ⟨a.e,a.tm,a.sq+1⟩ 0 (F.fresh f (λy e=>ae)) (P (a.tm,a.sq+1) ((af C).trans (dB)))⟩
   .exact ah.ex jq.zero.s ⟨_,rfl,T d .zero 5 (F.tt f) (k2 ((af C).trans (ag Z)))⟩
  cases v with
  |true=>
   rw[ag rfl];have hr:ij ⟨a.e,a.tm,a.sq⟩=true:=by unfold ij;rw[G.e.1,aw G.t.1,aw G.t.2];rfl
   exact ah.fN (x:=(⟨a.e,a.tm,a.sq⟩:jq).s) M (HZ V ⟨a.e,a.tm,a.sq⟩ rfl hr (by have:=hv.1 rfl;show 0<a.tm\/0=a.tm/\0<a.sq;omega) λv' o' s'=>⟨_,rfl,fin v' o' s'⟩)
  |false=>
   rw[dB];have c: ¬(0<a.tm\/0<a.sq):=λc=>by have:=hv.2 c;cases this
   have e1:a.tm=0:=ae
   have e2:a.sq=0:=ae
   exact fin J (by rw[e1,e2];exact V) (Fr.refl _ _)
 refine⟨_,ak M,?_⟩;by_cases c:0<a.tm
 .rw[ag (aw (by show((a.tm:Nat):Int)>0;omega))];exact key true ⟨λ_=> .inl c,λ_=>rfl⟩
 .rw[af (by simp only[aX];show¬((a.tm:Nat):Int)>0;omega)];refine⟨_,ak M,key _ ⟨λe=> .inr (by have e:((a.sq:Nat):Int)>0:=aS e;omega),λe=>aw (by show((a.sq:Nat):Int)>0;omega)⟩⟩

end Ask
end
section
namespace dM
open hZ (It IV gO iB)
open jA (Ev dc lL)
variable {h H:aj} {R:fD} {s k:Nat} {X:Ft} {I:pG} {a:SS} {p:ck}
variable {n o num:Int} {x:It} {b:Nat}
theorem Pt.Uo{O:Int}(g:Pt h s X I a)(v:tf a.Q)(f:qI a.Q x.owner x.d.length=true)(r:n=(x.d.length:Int))(t:O=x.owner)(q: ∀H c,Pt H s c I { a with Q:=a.Q++ [x] } ->bA X h c H->R (.I 0) H):Cl 297 #[pt I.p,.I O,.I n] h R:=by
 subst t;subst r;obtain⟨Z,⟨m,P,on⟩,w,z,go⟩:=g.use 4;refine nN.vZ P v _ _ (λ_ H d F=> ?_) (λe=>by unfold qI at f;rw[f]at e;cases e);rw[KT,show yL a.Q+(x.d.length:Int)=yL (x::a.Q) by rw[ke];omega]at d;obtain⟨c,j,S,_,_⟩:=go H Z { a with Q:=a.Q++ [x] } ⟨m,Pu.perm d (eK _ _).symm,on⟩ (bA.vw (F.mono λy _ u=>(on y).1.2 u)) (λi l=>JS _ l);exact q H c j S
theorem xx{B:cM}{l c:Nat}(t:Nat)(hn:n=(t:Int))(j:Pt h s X I a)(G:Good a k)(d':k<=30000)(hr:Row h p (bc B))(hl:l=B.length)(hb:B.length<=1000000)(d: ∀H y,Pt H s y I (zA a o B t)->bA X h y H->R (.T #[.I (PR a o B t),.I (Fz a o B t)]) H):
  Cl 262 #[pt s,.I o,.L p l c,.U n] h R:=by
 subst hn;subst hl;refine zC.walk (fT j.cW ⟨_,rfl,?_⟩);rw[dB];obtain⟨Z,w⟩:=j.box;refine aH.of λc' K=>⟨_,ak j.cW,hZ.sy w λC p2 l2 c2 Q F=>⟨_,_,_,rfl,?_⟩⟩
 have ln:=Q.len;have r:=j.on F;have O:a.B.items.length≥16\/qI a.Q o B.length=false->∀g,Fr No h g->R (.T #[.I 0,.I 15]) g:=λc g f=>by
  have E:Fz a o B t=15:=ag c;have e2:PR a o B t=0:=ag c;have e3:zA a o B t=a:=af (by rw[E];decide);rw[E,e2,e3]at d;exact d g X (j.on f) (bA.hH f)
 by_cases v:a.B.items.length≥16
 .rw[gk];subst K;dsimp only;rw[ag rfl];exact O (.inl v) C F
 rw[af (λe=>v (bR (aS e)))];obtain⟨Z4,⟨m4,T,f'⟩,_⟩:=r.use 4;refine⟨_,ak r.cW,nN.Re T G.ok o _ ⟨_,rfl,?_⟩⟩;subst K;dsimp only;cases q:qI a.Q o B.length with
 |false=>
  rw[ag (show(!qI a.Q o B.length)=true by rw[q];rfl)];exact O (.inr q) C F
 |true=>
  rw[af (show¬(!qI a.Q o B.length)=true by rw[q];decide)];have M: ¬(a.B.items.length≥16\/qI a.Q o B.length=false):=λc=>c.elim v (λe=>by rw[q]at e;cases e)
  have A:Fz a o B t=hZ.jJ a.B o B t:=af M;have eN:PR a o B t=hZ.BG a.B o B t:=af M;obtain⟨Z,w,zm,zd,go⟩:=r.use 3;refine⟨_,ak r.cW,hZ.BH t rfl w (hr.frame F bX) rfl hb (bR G.b) λD V P s3=>⟨_,_,rfl,?_⟩⟩;obtain⟨U,u,a',_,_⟩:=go D V { a with B:=hZ.HJ a.B o B t } P s3 (λe' hi=>Fu _ hi);have S:=bA.no F a';refine aH.of λJ2 L=> ?_
  rw[A,eN]at d;unfold zA at d;rw[A]at d;by_cases i:hZ.jJ a.B o B t=0
  .rw[ag i]at d;rw[ag (by rw[i];rfl)];refine⟨_,ak u.cW,u.Uo (x:=⟨a.B.next,o,B,t⟩) G.ok q rfl rfl λJ z m b'=>⟨_,rfl,?_⟩⟩;subst L;refine d J z ?_ (S.trans b');have e:hZ.HJ a.B o B t= { a.B with items:=a.B.items++ [⟨a.B.next,o,B,t⟩],next:=a.B.next+1 } :=ag i;rw[e]at m⊢;have m:Pt J s z I { a with B:= { a.B with items:=a.B.items++ [⟨a.B.next,o,B,t⟩],next:=a.B.next+1 },Q:=a.Q++ [⟨a.B.next,o,B,t⟩] } :=m;rw[G.q]at m;exact m
  .rw[af i]at d;rw[af (cI i)];subst L;refine d D U ?_ S;have e:hZ.HJ a.B o B t=a.B:=af i;rw[e]at u;exact u
theorem Kf(x:IV)(hid:hZ.Bv h b num)(e: iq h R (.B (decide ((x.num:Int)=num)))):Cl 195 #[x.agg,.P b 0] h R:=by
 refine sA.walk (aJ.box λB c E d f=>⟨_,ak d,_,ak (f.get hid id),?_⟩);rw[show((x.num:Int)==num)=decide ((x.num:Int)=num) by by_cases q:(x.num:Int)=num<;>simp[q]];exact e c f
theorem Nb(c:List IV)(num:Int):idxOf (λx:IV=>decide ((x.num:Int)=num)) c=hZ.sa (c.map IV.abs) num:=by
 unfold idxOf hZ.sa hZ.yZ;rw[List.findIdx?_map];rfl
theorem sc{c:List IV}{n m:Nat}(y:Row h p (c.flatMap gO))(w:n=c.length)(u:c.length<=1000000000)(hid:hZ.Bv h b num)(r: iq h R (.I (hZ.sa (c.map IV.abs) num))):
  Cl 118 #[.L p n m,.func (.func 195) #[] #[.P b 0]] h R:=by
 refine fQ.cancel.walk (AF (λx:IV=>decide ((x.num:Int)=num)) (λt g K=>((0:Int)<=t/\t<(n:Int))/\aM p λA=>aJ.LD g (A.add (Int.toNat t*4)) λT z B C D E=>
  Cl 195 #[.agg #[.I T,.I z,.L B C D,.U E],.P b 0] g λv G=> ∃q,v=.B q/\K q G) w u (λk g x K i f l=> ?_) (λg f=>by rw[Nb];exact r g f))
 have L:=(aE.1 i).1;have d:=y.frame f bX;obtain⟨A,rfl⟩:=d.some (λe=>by have:=bQ List.length e;rw[eO gO 4 iB,bG]at this;omega);exact⟨ae,ax.2 (aJ.w5 (by rw[aF];exact d.fP iB i) (Kf x (f.get hid id) λj F=>⟨_,rfl,l j (f.tt F)⟩))⟩
theorem Bw{l:List It}{i:Nat}(g:(l.map It.num).Pairwise (· < ·))(c:l[i]? =some x):l.Perm (x::hZ.qQ l (x.num:Int)):=by
 rw[<-hZ.pC g c];unfold hZ.vY;obtain⟨d,f⟩:=aE.1 c;have e:l=l.take i++x::l.drop (i+1):=by rw[<-f,<-cX d,List.take_append_drop]
 exact(List.Perm.of_eq e).trans List.perm_middle
theorem xG(t:Pt h s X I a)(G:Good a k)(l':k<=30000)(c: ∀H T,Pt H s T I (D9 a num o)->bA X h T H->R (.I (hZ.oE a.B num o)) H):Cl 134 #[pt s,.I num,.I o] h R:=by
 refine uZ.walk (cK ?_);have F:Fr No h (h.push (.C #[.I num] 3)):=Fr.push _ _;have a':hZ.Bv (h.push (.C #[.I num] 3)) h.size num:=bZ;generalize h.push (.C #[.I num] 3)=h1 at F a'⊢;have u:=t.on F;obtain⟨Z0,i'⟩:=u.box;obtain⟨L,J⟩:=t.okB;refine fT u.cW ⟨_,rfl,?_⟩;rw[dB];refine⟨_,ak u.cW,hZ.sy i' λh2 p2 l2 C L2 v=>⟨_,_,_,rfl,?_⟩⟩;have M:=u.on v;have b':=v.get a' id;obtain⟨f,j',rfl,ox,A,m',hD,c'⟩:=L2;obtain⟨Z,hz,zm,zd,go⟩:=M.use 3;refine⟨_,ak M.cW,_,ak b',hZ.xG hz (bR G.b) λh3 Z3 B3 S=>⟨_,rfl,?_⟩⟩;obtain⟨U,H3,d',_,_⟩:=go h3 Z3 { a with B:=hZ.nP a.B num o } B3 S (λi hi=>Fu _ hi);have z1:=F.1;have z2:=v.1;have zl: ∀y,Z.M y->y<h.size:=λy m=>t.lt y (.inl (zm y m))
 have ln:f.length=a.B.items.length:=by rw[<-A,ay]
 have f':hZ.Bv h3 h.size num:=S.fr.get b' (λr=>bR (zl _ r));have o3:=ox.frame S.fr (λy m r=>gG (zl y r) (c' y m));have le:=J.le;refine sc o3.iy rfl ae f' λh4 z=> ?_
 have K:=bA.no (F.tt v) (d'.on z);have j:=H3.on z;have O:=o3.frame z bX;rw[A];refine⟨_,rfl,aH.of λk' d=> ?_⟩;cases w:hZ.yZ a.B.items num with
 |none=>
  have e:hZ.oE a.B num o=4:=by unfold hZ.oE;rw[w]
  have E:hZ.nP a.B num o=a.B:=af (by rw[e];decide);unfold D9 at c;rw[e,E,<-G.q]at c;rw[e]at d⊢;rw[dB];subst d;refine aH.of λQ q=> ?_
  rw[dB];subst q;rw[E]at j;exact c h4 U j K
 |some i=>
  obtain⟨x,l,g'⟩:=hZ.By w;have ev:hZ.sa a.B.items num=(i:Int):=by unfold hZ.sa;rw[w]
  rw[ev]at d⊢;have e:hZ.oE a.B num o=if x.owner=o then 0 else 13:=by unfold hZ.oE;rw[w];dsimp only;rw[l]
  by_cases B:x.owner=o
  .rw[ag B]at e;have E:hZ.nP a.B num o= { a.B with items:=hZ.qQ a.B.items num,qq:=a.B.qq+1 } :=ag e;unfold D9 at c;rw[e]at c;rw[e]at d⊢;rw[gk,aw ae];subst d;refine aH.of λQ q=> ?_
   rw[ag rfl];have hi:=(aE.1 l).1;have D:f[i]? =some f[i]:=ai ae;have h':f[i].abs=x:=by
    rw[<-A,aD,D]at l;exact aZ l
   obtain⟨pb,po,rfl⟩:=O.addr ae;have hh:=O.fP iB D;have C: ∀g,dP (((AA pb po):Addr).add (i*4)) (gO f[i]) 0 g->aY g ((((AA pb po):Addr).add (Int.toNat (i:Int)*4)).add 2)=some f[i].v.val:=λg hg=>by
    rw[aF];exact hg.2.2.1
   refine⟨_,ak j.cW,ae,ax.2 ⟨_,_,_,C _ hh,?_⟩⟩;have vl:f[i].v.b=x.d:=by rw[<-h'];rfl
   rw[vl];refine j.Tm (x:=x) (l:=hZ.qQ a.B.items num) (by show a.Q.Perm _;rw[G.q,<-g'];exact Bw J.inc l) (show tf a.Q from G.ok) (J0 J (aK l)) rfl B.symm λh5 X5 P e'=>⟨_,rfl,?_,?_⟩
   .have o5:=O.frame e'.fr (λy m r=>by
     rcases d'.iz y r with V|V
     .have:=t.lt y (.inl V);have:=c' y m;omega
     .have:=ox.dC m;omega)
    rw[<-vl];exact C _ (o5.fP iB D)
   .subst q;refine c h5 X5 ?_ (K.trans e');rw[E]at P⊢;exact P
  .rw[af B]at e;have E:hZ.nP a.B num o=a.B:=af (by rw[e];decide);unfold D9 at c;rw[e,E,<-G.q]at c;rw[e]at d⊢;rw[dB];subst d;refine aH.of λQ q=> ?_
   rw[dB];subst q;rw[E]at j;exact c h4 U j K
theorem vZ(j:Pt h s X I a)(G:Good a k)(j':k<=30000)(k1:a.B.items= []->iq h R (.T #[.agg #[.I 0,.I 0,.Z,.U 0],.I 4]))(k2: ∀x r,a.B.items=x::r->∀H z (v:IV),v.abs=x->Pt H s z I (Ea a)->bA X h z H->v.v.ok H z.D->R (.T #[v.agg,.I 0]) H):
  Cl 56 #[pt s] h R:=by
 refine xX.walk (aJ.box λb h1 eb M F=> ?_);have w:=j.on F;refine fT w.cW ⟨_,rfl,?_⟩;rw[dB];obtain⟨Z,hz,zm,zd,go⟩:=w.use 3;obtain⟨L,ok⟩:=j.okB;have lb:=aC M;refine⟨_,ak w.cW,hZ.vZ hz (bR G.b) (λi h2 T f2=>⟨_,_,_,_,_,_,_,rfl,aJ.new λB h3 d' g f=>aH.of λb' K=> ?_⟩) (λx r i h2 Z2 v P T s2 hd=>⟨_,_,_,_,_,_,_,rfl,aJ.new λB h3 d' g f=>aH.of λb' K=> ?_⟩)⟩
 .rw[dB];subst K;have g':=(f2.tt f).get M id;refine aJ.ld g (aJ.set g' λl D E J=>aJ.ld D (k1 i l ((F.tt (f2.tt f)).fresh (Fr.of_eq (S:=λy=>y=b) E J) (λy e=>ae))))
 .obtain⟨V,m,u,c',_⟩:=go h2 Z2 { a with B:= { a.B with items:=r,taken:=a.B.taken+1 } } T s2 (λk' hi=>Fu _ hi);rw[gk];have U:=m.on f;have i':x∈a.B.items:=by rw[i];simp
  have ex:x.owner=v.owner:=by rw[<-P];rfl
  have ed:x.d=v.v.b:=by rw[<-P];rfl
  refine⟨_,ak U.cW,_,ak g,_,_,_,ak g,U.Tm (x:=x) (l:=r) (.of_eq (show a.Q=x::r by rw[G.q,i])) (show tf a.Q from G.ok) (J0 ok i') (by rw[ed]) ex.symm λl C H4 S=>⟨_,rfl,?_,?_⟩⟩
  .exact S.fr.cell (ak g) (λd=>bR (m.lt B (.inl d)))
  .subst K;have z1:=F.1;have z2:=s2.fr.1;have z3:=f.1;have z4:=S.fr.1;have Q: ∀y,h.size<=y->y<h1.size->¬(V.M y\/V.D y):=λy c O d=>by
    rcases d with A|A
    .rcases u.iz y A with A|A
     .have:=j.lt y (.inl A);omega
     .omega
    .rcases u.jx y A with A|A
     .have:=j.lt y (.inr A);omega
     .omega
   have a': ∀y,h.size<=y->y<h1.size->¬(C.M y\/C.D y):=λy c O d=>by
    rcases d with A|A
    .rcases S.iz y A with A|A
     .exact Q y c O (.inl A)
     .omega
    .rcases S.jx y A with A|A
     .exact Q y c O (.inr A)
     .omega
   have e':aJ.at l B (v.num:Int) v.owner v.v.p v.v.b.length v.v.c (v.fa:Int):=S.fr.get g (λd=>bR (m.lt B (.inl d)));have f':=u.fr.get M (λd=>bR (j.lt b (.inl d)));have h':aJ.at l b 0 0 none 0 0 0:=S.fr.get (f.get f' id) (λd=>Q b ae ae (.inl d));refine aJ.ld e' (aJ.set h' λh5 D E J=>aJ.ld D ?_);have q:Fr (λy=>y=b) l h5:=Fr.of_eq E J;have t:=(bA.no F (u.on f)).trans S;have et:Ea a= { a with B:= { a.B with items:=r,taken:=a.B.taken+1 },Q:=r } :=by unfold Ea;rw[i]
   refine k2 x r i h5 C v P ?_ ⟨⟨bR q.1,λy c hn=>by rw[q.2 y ae (λe=>ae)];exact t.fr.2 y c hn⟩,λy c=>(t.iz y c),λy c=>(t.jx y c),t.mQ⟩ ?_
   .rw[et];exact Pt.frame H4 q (λy c e=>a' y ae ae c)
   .refine(((hd.mono c').frame f bX).frame S.fr (λy c d=> ?_)).mono S.mQ|>.frame q (λy c e=>a' y ae ae (.inr c))
    exact m.vA y d c

end dM
end
section
namespace Ask
open jA (Ev dc)
open dM (SS Good Pt pG Mk)
open Bn (jq ij iX A5 ES mr Prim mT jb BB jR)
variable {V:cM→Bool} {h f j g:aj} {R:fD} {s k bo id c:Nat} {X i:Ft} {I:pG} {a:SS} {p:ck} {ses:Int} {x:Rq} {D:Nat→Prop} {o:Ot}
variable {b:Nat} {K:aj->Prop} {n:Nat×Nat} {d:cM} {P:Prim}
abbrev Rq.as(x:Rq)(p:ck)(c s:Nat)(ses:Int):cz.S:=⟨x.id,x.kind,x.ep.km,x.ep.node,x.ep.gy,x.ep.host,x.ep.jN,x.dest.km,x.dest.node,x.dest.gy,x.dest.host,x.dest.jN,x.kH,x.num,x.jm,p,x.mz.length,c,x.fW,x.token,x.on,some ⟨s,0,none⟩,ses⟩
structure En (V:cM->Bool) (j h:aj) (s:Nat) (X:Ft) (I:pG) (a:SS) (k:Nat):Prop where
 H:Pt h s X I a
 G:dM.Good a k
 hk:k<=30000
 u:KA j X h
 U:Cb.lO V j
 mx:lM.Mx j
theorem En.on(E:En V j h s X I a k)(F:Fr No h f):En V j f s X I a k:=⟨E.H.on F,E.G,E.hk,E.u.on F,E.U,E.mx⟩
theorem En.Rx(E:En V j h s X I a k):lM.Mx h:=E.mx.on E.u.fr
theorem En.step{l:SS}{e:Nat}(E:En V j h s X I a k)(H:Pt f s i I l)(S:bA X h i f)(G:dM.Good l e)(hk:e<=30000):En V j f s i I l e:=⟨H,G,hk,E.u.step S,E.U,E.mx⟩
theorem En.nM(E:En V j h s X I a k)(e:h.size<=b): ¬X.M b:=λH=>by have:=E.H.lt b (.inl H);omega
theorem FG{S:Nat->Prop}{l:List (ck)}(F:Fr S h f)(r: ¬S b)(m: ∀p∈l,p.map (·.block)=some b):Kp h f l:=F.U3 λp q x e H=>r (by have:=m p q;rw[e]at this;exact(aZ this)▸H)
structure gR (X:Ft) (h:aj) (bo id:Nat) (o:Ot) (i:Ft) (f:aj):Prop where
 fr:Fr (λy=>X.M y\/y=bo) h f
 iz: ∀c,i.M c->X.M c\/h.size<=c
 jx: ∀c,i.D c->X.D c\/h.size<=c
 mQ: ∀c,X.D c->i.D c
 at': ∃y,ar.fR f bo y/\(o.e=0->∃p c,y=⟨id,0,o.num,o.yA,0,p,o.d.length,c⟩/\Row f p (bc o.d)/\(o.d≠ []->∀z,aN p z->(h.size<=z\/X.D z)/\¬i.M z))
abbrev y0(id:Nat):ar.S:=⟨id,0,0,0,0,none,0,0⟩
theorem gR.of{H:aj}(S:bA X h i H)(F:Fr (λy=>y=bo) H f)(at': ∃y,ar.fR f bo y/\(o.e=0->∃p c,y=⟨id,0,o.num,o.yA,0,p,o.d.length,c⟩/\Row f p (bc o.d)/\(o.d≠ []->∀z,aN p z->(h.size<=z\/X.D z)/\¬i.M z))):gR X h bo id o i f:=
 ⟨S.fr.trans F (λ_ _ A=> .inl A) (λ_ _ e=> .inr e),S.iz,S.jx,S.mQ,at'⟩
theorem gR.bad{e:Int}(H:ar.fR h bo (y0 id))(l: ¬X.M bo)(S:bA X h i f){a:SS}:gR X h bo id (bad a e) i f:=
 gR.of S (Fr.refl _ _) ⟨_,S.fr.get H l,λ_=>⟨none,0,rfl,Row.nil,λe=>absurd rfl e⟩⟩
theorem iP{e:Nat}{y z:ar.S}{v:Value}(r:ar.fR h b y)(u:e<6)(A:y.arr.setIfInBounds e v=z.arr)(w: ∀f,ar.fR f b z->Fr (λy=>y=b) h f->K f):aT h (AA b e) v K:=
 bD r u λH l m q=>w H (by unfold ar.fR;rw[<-A];exact l) (Fr.of_eq m λc t=>q c t)
theorem Pt.qU{t q:Nat}(H:Pt h s X I a)(M:Mk f I.k a.e t q)(F:Fr (λy=>y=I.k) h f): ∃i,Pt f s i I { a with tm:=t,sq:=q } /\bA X h i f:=by
 obtain⟨Z,⟨_,O⟩,u,z,go⟩:=H.use 5;obtain⟨i,e,S,_,_⟩:=go f Z { a with tm:=t,sq:=q } ⟨M,O⟩ (bA.vw (F.mono λy _ m=>(O y).1.2 m)) (λr l=>dM.Tf a.e t q l);exact⟨i,e,S⟩
theorem P0(h:qJ a=some n):a.tm<n.1\/a.tm=n.1/\a.sq<n.2:=by
 unfold qJ at h;split at h
 .cases h;left;assumption
 split at h
 .cases h
 .cases h;right;exact⟨rfl,Nat.lt_succ_self _⟩
theorem vc{b:mr}(h:jR V b=some d):Bn.jB b.p=true:=by
 unfold jR at h;split at h
 .split at h
  .cases h
  .rename_i H;unfold Bn.rR at H;split at H
   .cases H
   .rename_i e;unfold Bn.oB at e;split at e
    .assumption
    .cases e
 .cases h
theorem Nc{b:mr}(h:jR V b=some d):b.p.fW<=1099511627776:=by
 have:=vc h;unfold Bn.jB at this;simp only[aU,aX]at this;exact this.2
theorem K5{b:mr}{q:ck}{C:Nat}{xs:List BB}(E:En V j h s X I a k)(h':b.p.wf)(B:jb h D b.bl q b.bl.length C xs)(hl:b.bl.length<=1000000)(hd: ∀b'∈b.bl,b'.data.length<=80000)(hn:qJ a=some n)(H: ∀f i,Pt f s i I (nY V a ses b n).σ->bA X h i f->R (.T #[.I (nY V a ses b n).num,.I (nY V a ses b n).yA,.I (nY V a ses b n).e]) f):
  Cl 192 #[(x.as p c s ses).agg,(b.s q C).agg,(⟨a.e,n.1,n.2⟩:jq).s.agg] h R:=by
 refine CU.walk (cz.da (x:=x.as p c s ses) λG h1 j' a' J=>av.da (x:=b.s q C) λb2 h2 k' U z=>ah.da (x:=(⟨a.e,n.1,n.2⟩:jq).s) λb3 h3 l' e' t=> ?_);have w:=J.tt (z.tt t);have v:=E.on w;have z1:=J.1;have z2:=z.1;have z3:=t.1;unfold nY at H;refine av.fN (x:=b.s q C) (t.get U _root_.id) (Bn.zS h' E.U v.u.fr v.Rx (B.on w) hl hd (λO y lo Q p4 c4 o4 g4 F=>⟨_,_,_,_,rfl,?_⟩) (λy Q F=>⟨_,_,_,_,rfl,?_⟩))
 case refine_2=>
  rw[gk];rw[y]at H;exact H Q X (v.H.on F) (bA.hH (w.tt F))
 rw[dB];rw[y]at H;dsimp only at H;have A:=v.on F;have u:=(z.tt (t.tt F)).get a' _root_.id;have d':=(t.tt F).get U _root_.id;have Z:=F.get e' _root_.id;have z4:=F.1;have m':=aC u;have n':=aC Z;have n1: ¬X.M G:=E.nM ae;have n3: ¬X.M b3:=E.nM ae;refine⟨_,ak u,_,ak u,_,ak u,ax.2 ⟨_,ak A.H.cW,_,ak d',HY a.now b.p.fW E.G.n (Nc y) ⟨_,rfl,(Fr.refl (λ_=>False) _).kp,dM.xx (nW a.now b.p.fW) rfl A.H E.G E.hk o4.iy rfl ae λh6 X6 r S=>⟨_,_,rfl,FG S.fr n1 bV,aH.of λi' T=> ?_⟩⟩⟩⟩;have st:=bA.no (w.tt F) S;unfold HV at H;by_cases l:dM.Fz a ses O (nW a.now b.p.fW)=0
 .rw[ag l]at H;rw[ag (by rw[l];rfl)];have c':=S.fr.get u n1;have f':=S.fr.get Z n3;have m:(dM.zA a ses O (nW a.now b.p.fW)).e=a.e/\(dM.zA a ses O (nW a.now b.p.fW)).tm=a.tm/\(dM.zA a ses O (nW a.now b.p.fW)).sq=a.sq:=by unfold dM.zA;rw[ag l];exact⟨rfl,rfl,rfl⟩
  have M:=Pt.mk' r;rw[m.1,m.2.1,m.2.2]at M;have hr:ij ⟨a.e,n.1,n.2⟩=true:=by have:=BU E.G hn;unfold ij;rw[E.G.e.1,aw this.1,aw this.2];rfl
  refine⟨_,ak c',ax.2 ⟨_,ak r.cW,ah.fN (x:=(⟨a.e,n.1,n.2⟩:jq).s) f' (HZ M ⟨a.e,n.1,n.2⟩ rfl hr (P0 hn) λh8 M8 L=>⟨_,rfl,?_,?_⟩)⟩⟩
  .have zk:=aC M;have:G≠I.k:=λe=>by have:=aC (Pt.mk' E.H);omega
   exact FG L this bV
  .subst T;obtain⟨X8,H8,g'⟩:=Pt.qU r (by rw[m.1];exact M8) L;exact l.symm▸H h8 X8 H8 (st.trans g')
 .rw[af l]at H;rw[af (cI l)];subst T;have m:dM.zA a ses O (nW a.now b.p.fW)=a:=by unfold dM.zA;rw[af l]
  rw[m]at r;exact H h6 X6 r st
theorem FH(H:Pt h s X I a)(l: iq h R (.I (gD.jZ a.G x.ep ses))):Cl 136 #[(x.as p c s ses).agg] h R:=by
 refine BW.walk (cz.da (x:=x.as p c s ses) λb T eb E q=>aH.of λJ hJ=> ?_);have L:=H.on q;have fin: ∀(g:aj)(z:Nat),gD.Rg.at g z ((gD.je a.G x.ep).getD .zero)->Fr No T g->J (Sa z 0) (gD.je a.G x.ep).isSome g:=by
  intro g z O t;subst hJ;dsimp only;unfold gD.jZ at l;cases M:gD.je a.G x.ep with
  |none=>rw[M]at l;rw[ag (by rfl)];exact l g (q.tt t)
  |some r=>
   rw[M]at l O;rw[af bV];refine ax.2 ⟨_,ak O,_,ak (t.get E _root_.id),?_⟩;dsimp only at l;by_cases u:r.own=ses
   .rw[ag u]at l;rw[af (by show¬(r.own !=ses)=true;simpa using u)];exact l g (q.tt t)
   .rw[af u]at l;rw[ag (by show(r.own !=ses)=true;simpa using u)];exact l g (q.tt t)
 obtain⟨Z,Q,_⟩:=L.use 1;refine⟨_,ak E,ax.2 ⟨_,ak L.cW,iX x.ep E rfl rfl rfl rfl rfl ⟨?_,?_,trivial⟩⟩⟩
 .exact gD.iu Q x.ep λU F=>⟨_,_,_,_,_,_,_,_,rfl,F.kp,bB.box λB h4 S G m=>⟨m.kp,bB.set G λC A v w=>fin C B A ((F.tt m).fresh (Fr.of_eq (S:=λy=>y=B) v w) (λy e=>bR F.1))⟩⟩
 .refine bB.box λB h4 S G m=>⟨m.kp,gD.iu (gD.Tb.on Q m) x.ep λU F=>⟨_,_,_,_,_,_,_,_,rfl,F.kp,bB.set (F.get G _root_.id) λC A v w=>fin C B A ((m.tt F).fresh (Fr.of_eq (S:=λy=>y=B) v w) (λy e=>ae))⟩⟩
theorem Uq{b:mT}{B:Nat}(H:aA.fR h B (b.s p c))(r:Row h p (bc b.data))(cap:b.data.length<=c):jb h (λ_=>True) [b] (Sa B 0) 1 1 [⟨b,p,c⟩]:=
 ⟨rfl,rfl,.inr ⟨_,rfl,aA.AX (x:=b.s p c) H⟩,λ_ _ _=>trivial,bm _,λy e=>by rw[bP.1 e];exact⟨r,λ_ _ _=>trivial,cap⟩⟩
theorem Tp(n:Nat)(q:aG.fR h b P.s)(t: ∀f,aG.fR f b ({ P with fl:=n } :Prim).s->Fr (λy=>y=b) h f->K f):aT h (AA b 0) (.U (n:Int)) K:=
 bD q (by show 0<20;omega) λH e l m=>t H e (Fr.of_eq l λc r=>m c r)
theorem VJ(e:Ev)(r:aG.fR h b P.s)(u: ∀f,aG.fR f b ({ P with rep:=e } :Prim).s->Fr (λy=>y=b) h f->K f):az.dw h (AA b 7) e.s K:=
 (show dO (AA b 7) e.s.l 0 h K from lV (off:=7) (ws:=({ P with rep:=e } :Prim).s.l) r (by show 7+5<=20;omega) rfl rfl λH l m q=>u H l (Fr.of_eq m λc t=>q c t))
theorem Ry(E:En V j h s X I a k)(rx:Row h p (bc x.mz))(cap:x.mz.length<=c)(lp:x.mz.length<=1000)(w1:0<=x.ep.gy)(w2:0<=x.dest.gy)(G:ar.fR h bo (y0 id))(nb: ¬(X.M bo\/X.D bo))(H: ∀f i,Pt f s i I (Eb V a ses x).σ->gR X h bo id (Eb V a ses x) i f->R (.I (Eb V a ses x).e) f):
  Cl 133 #[(x.as p c s ses).agg,.P bo 0] h R:=by
 refine BX.walk (cz.da (x:=x.as p c s ses) λb h1 eb j' f1=>cz.fN (x:=x.as p c s ses) j' (FH (E.H.on f1) λh2 f2=>⟨_,rfl,?_⟩));have w:=f1.tt f2;have Q:=E.on w;have a':=f2.get j' _root_.id;have O: ¬X.M bo:=λe=>nb (.inl e)
 unfold Eb at H;by_cases L:gD.jZ a.G x.ep ses=0
 case neg=>
  rw[af L]at H;rw[ag (cI L)];exact H h2 X Q.H (gR.bad G O (bA.hH w))
 rw[ag L]at H;rw[af (cI L)];refine⟨_,ak a',iX x.ep a' rfl rfl rfl rfl rfl (vV Q.H E.G x.ep (λn J h3 m=>ah.ex _ (ah.ex _ ⟨_,rfl,?_⟩)) (λJ h3 m=>ah.ex _ (ah.ex _ ⟨_,rfl,?_⟩)))⟩
 case refine_2=>
  rw[J]at H;refine ah.da λb1 h4 y' l q=>ah.da λZ h5 z' c' F=>ah.hU (x:=(⟨x.ep,0,0⟩:jq).s) (F.get l _root_.id) λh6 d6 r _=>ah.hU (x:=jq.zero.s) (r.get c' (bR (aC l))) λu d7 C _=> ?_
  rw[gk];have z4:=q.1;have z:Fr No h3 u:=((q.tt F).fresh r (λy e=>ae)).fresh C (λy e=>ae);exact H u X (Q.H.on (m.tt z)) (gR.bad G O (bA.hH (w.tt (m.tt z))))
 rw[J]at H;dsimp only at H;refine ah.da λb1 h4 y' l q=>ah.da λZ h5 z' c' F=>ah.hU (x:=(⟨x.ep,n.1,n.2⟩:jq).s) (F.get l _root_.id) λh6 d6 r _=>ah.hU (x:=(⟨a.e,n.1,n.2⟩:jq).s) (r.get c' (bR (aC l))) λu d7 C _=> ?_
 rw[dB];have z1:=f1.1;have z2:=f2.1;have z3:=m.1;have z4:=q.1;have z5:=F.1;have G':b1≠Z:=by have:=aC l;omega
 have e':Fr No h3 u:=((q.tt F).fresh r (λy e=>ae)).fresh C (λy e=>ae);have d':=m.tt e';have z:=w.tt d';have v:=d'.get a' _root_.id;have s':=C.get d6 G';have R':=e'.1;refine iX x.dest v rfl rfl rfl rfl rfl (ah.fN (x:=(⟨x.ep,n.1,n.2⟩:jq).s) s' ⟨_,ak v,aG.fY (x:=(⟨0,0,x.dest,.zero,⟨x.ep,n.1,n.2⟩,x.fW⟩:Prim).s) λB h9 J' m' t=>⟨_,ak (t.get v _root_.id),aH.of λr' hJ=> ?_⟩⟩);have k':=t.get v _root_.id;have t':=t.get d7 _root_.id;have z9:=t.1;have n':b≠B:=by have:=aC v;omega
 have H':Z≠B:=by have:=aC d7;omega
 have fin: ∀g,aG.fR g B (pL x n).p.s->Fr (λy=>y=B) h9 g->r' g:=by
  intro g hp fg;subst hJ;have p':Fr No u g:=t.fresh fg (λy e=>ae);have l':=fg.get k' n';refine cz.fN (x:=x.as p c s ses) l' (aG.fN (x:=(pL x n).p.s) hp ⟨_,_,_,ak l',aA.da (x:=(⟨1,1,0,0,x.mz⟩:mT).s p c) λb4 L' K' F' f'=>ah.fN (x:=(⟨a.e,n.1,n.2⟩:jq).s) (f'.get (fg.get t' H') _root_.id) ?_⟩);have T:=z.tt (p'.tt f');have o':=E.on T;refine K5 (b:=pL x n) (x:=x) (p:=p) (c:=c) o' ⟨w2,?_,w1⟩ (Uq (b:=⟨1,1,0,0,x.mz⟩) F' (rx.frame T (λ_ _=>_root_.id)) cap) (by show 1<=_;omega) (λb' D'=>by rw[bP.1 D'];show x.mz.length<=_;omega) J λM' U q' I'=>⟨_,_,_,rfl,?_⟩
  .show 0<=(if x.on=true then x.ep else Ev.zero).gy;split
   .exact w1
   .exact eu 0
  .have S:=bA.no T I';have E':=S.fr.get G O;refine iP (z:=⟨id,0,(nY V a ses (pL x n) n).num,0,0,none,0,0⟩) E' dN rfl λO' u' g'=>iP (z:=⟨id,0,(nY V a ses (pL x n) n).num,(nY V a ses (pL x n) n).yA,0,none,0,0⟩) u' dN rfl λB' v' h'=> ?_
   have no: ¬(U.M bo\/U.D bo):=λhm=>by
    have zo:=aC G;rcases hm with A|A
    .rcases S.iz bo A with A|A
     .exact O A
     .omega
    .rcases S.jx bo A with A|A
     .exact nb (.inr A)
     .omega
   refine H B' U (q'.frame (g'.tt h') (λy hy e=>no (e▸hy))) (gR.of S (g'.tt h') ⟨_,v',λhe=>⟨none,0,?_,?_,?_⟩⟩)
   .have:(nY V a ses (pL x n) n).d= []:=by
     unfold nY;split
     .rfl
     .unfold HV;split<;>rfl
    rw[this];rfl
   .have:(nY V a ses (pL x n) n).d= []:=by
     unfold nY;split
     .rfl
     .unfold HV;split<;>rfl
    rw[this];exact Row.nil
   .intro _ Q' hz;obtain⟨A,e,_⟩:=hz;cases e
 cases M:x.on with
 |false=>
  rw[af (by show¬x.on=true;rw[M];decide)];refine fin h9 ?_ (Fr.refl _ _);have:(pL x n).p=⟨0,0,x.dest,.zero,⟨x.ep,n.1,n.2⟩,x.fW⟩:=by unfold pL;rw[M];rfl
  rw[this];exact m'
 |true=>
  rw[ag (show x.on=true from M)];refine iX x.ep k' rfl rfl rfl rfl rfl (Tp 131072 m' λP' w' i'=>⟨OR i' n' bV,VJ x.ep w' λC' x' A'=>fin C' ?_ (i'.tt A')⟩);have:(pL x n).p=⟨131072,0,x.dest,x.ep,⟨x.ep,n.1,n.2⟩,x.fW⟩:=by unfold pL;rw[M];rfl
  rw[this];exact x'

end Ask
end
section
namespace Bn
open Cb
open jA (Ev dc lL)
variable {V:cM→Bool} {h h0 h' g:aj} {R:fD} {D:Nat→Prop}
abbrev zP.s(r:zP):aO.S:=⟨r.rc,r.dl,r.de,r.reason,r.at',r.of.e.km,r.of.e.node,r.of.e.gy,r.of.e.host,r.of.e.jN,r.of.tm,r.of.sq⟩
theorem Nd(r:zP)(H: iq h R (.B (ja r))):Cl 303 #[r.s.agg] h R:=by
 refine Fc.walk (aO.da λb a E d f=>⟨_,ak d,?_⟩);have i:(r.rc||r.dl||r.de)=true->∃t,aY a (AA b 3)=some (.U t)/\if(decide (t<=255))=true then∃T,aY a (AA b 4)=some (.U T)/\if(decide (T<=1099511627776))=true then ah.cN a (AA b 5) λn=>Cl 167 #[n.agg] a λv l=> ∃j,v=.B j/\R (.B j) l else R (.B false) a else R (.B false) a:=λm=>by
  refine⟨_,ak d,?_⟩;rw[show decide ((r.s.f3:Int)<=255)=decide (r.reason<=255)from lG r.reason 255];unfold ja at H;rw[m]at H;by_cases c:r.reason<=255
  case neg=>rw[af (cI c)];rw[aB c]at H;exact H a f
  rw[ag (aw c)];rw[aw c]at H;refine⟨_,ak d,?_⟩;rw[show decide ((r.s.f4:Int)<=1099511627776)=decide (r.at'<=1099511627776)from lG r.at' 1099511627776];by_cases C:r.at'<=1099511627776
  case neg=>rw[af (cI C)];rw[aB C]at H;exact H a f
  rw[ag (aw C)];rw[aw C]at H;exact A5 r.of d rfl rfl rfl rfl rfl rfl rfl (sN r.of λk F=>⟨_,rfl,H k (f.tt F)⟩)
 cases c:r.rc with
 |true=>rw[ag (show r.s.f0=true from c)];exact i (by rw[c];rfl)
 |false=>
 rw[af (show¬r.s.f0=true by rw[show r.s.f0=r.rc from rfl,c];decide)];refine⟨_,ak d,?_⟩;cases C:r.dl with
 |true=>rw[ag (show r.s.f1=true from C)];exact i (by rw[c,C];rfl)
 |false=>
 rw[af (show¬r.s.f1=true by rw[show r.s.f1=r.dl from rfl,C];decide)];refine⟨_,ak d,?_⟩;cases e:r.de with
 |true=>rw[ag (show r.s.f2=true from e)];exact i (by rw[c,C,e];rfl)
 |false=>
 rw[af (show¬r.s.f2=true by rw[show r.s.f2=r.de from rfl,e];decide)];have:=H a f;unfold ja at this;rw[c,C,e]at this;exact this
abbrev bo(l:List Bool):List Value:=l.map λb=> .bool b
theorem P1{p:ck}{n c:Nat}{l:List Bool}(K:Row h p (bo l))(hn:n=l.length)(hl:l.length<=100000)(hk: ∀h' z,tY h' (λy=>h.size<=y) (GM l) z->Fr No h h'->R z.s.agg h'):Cl 304 #[.L p n c] h R:=by
 subst hn;refine Jq.walk (aa.da λb d eb x F=>kC (ts:= []) (ys:= []) (D:=λ_=>True) ⟨rfl,.inl rfl,λe=>absurd rfl e,bm _⟩ .nil (by simp[dK]) λh2 z T m=>aa.ex z.s ⟨rfl,aa.fY (x:=z.s) λB h4 e' I f=> ?_⟩);have zb:=aC x;have z1:=F.1;have z2:=m.1;have z4:=f.1;have g':=aC I;have F4:=F.tt (m.tt f);have c':tY h4 (λy=>d.size<=y/\y≠B) (sX []) z:=by
  obtain⟨⟨P,Q,S,U⟩,Z,X,A,a7,a8⟩:=T;refine⟨⟨P,Q,S,((GN U).mono λy H=>ae).frame f bX⟩,Z,X,A.frame f bX,λy H=>⟨a7 y H,bR (A.dC H)⟩,(dD.mono (λy H=>by have d:=H.1.1;have h2:=H.2;exact⟨⟨d,ae⟩,H.1.2⟩) a8.lt).on f⟩
 obtain⟨Z,ez,s⟩:=OU (g0:=d) c' I ((m.tt f).mono λ_ _=>False.elim);have u:z.k=4:=T.1.1;have v:z.n=0:=T.1.2.1;have E:z.v.b= []:=T.1.2.2.1;refine⟨λt g=> ∃(i:Nat)(j:List CV)(q:ck)(C:Nat),t=(i:Int)/\i<=l.length/\j.length=i/\Lc d g B z.k z.n z.v ((l.take i).map λb=>num (if b=true then 1 else 0)) j q C,λt _=>l.length - t.toNat,⟨0,Z,z.q,z.cl,rfl,bL _,?_,by rw[eZ];exact s⟩,?_⟩
 .have:=s.tr.len;exact this.symm
 rintro _ g ⟨i,j,q,C,rfl,hi,H,L⟩;by_cases o:i<l.length
 case neg=>
  rw[af (λe=>o (bR (aS e)))];rw[bn ae]at L;have b':z.v.ok g (λy=>d.size<=y/\y≠B):=⟨by rw[E];exact Row.nil,λe=>absurd E e,T.1.2.2.2.cap⟩;have M:=OV (k':=z.n) L b';rw[u,v,E]at M;refine aa.fN (x:=CV.s ⟨z.k,z.n,z.v,q,j.length,C⟩) L.cW (fin (z:=⟨z.k,z.n,z.v,q,j.length,C⟩) (t:=GM l) (D:=λy=>d.size<=y/\y≠B) (L.fr.get x ae) (by rw[u,v];exact M) (λy H e=>ae) λG tg fg=>hk G _ (tg.mono λy H=>ae) ((F.fresh L.fr (λy e=>ae)).fresh fg (λy e=>ae)))
 rw[gk];have O:Fr No h g:=F.fresh L.fr (λy e=>ae);obtain⟨a,rfl⟩:=K.some (by intro e;have:=bQ List.length e;rw[ay,bG]at this;omega);have hc:aY g (a.add (i*1))=some (.B l[i]):=by
  have:=(K.frame O bX).cell (j:=i) (v:=.B l[i]) (by rw[aD,ai o];rfl);rw[cp];exact this
 refine⟨ae,bW.2 ⟨a,rfl,_,hc,aH.of λJ hJ=> ?_⟩⟩;have go: ∀k:Nat,k=(if l[i]=true then 1 else 0)->J (k:Int) g:=by
  intro k ek;subst hJ;dsimp only;refine⟨_,_,_,ak L.cW,fM λh6 w=>aa.ex (nv k).s ⟨rfl,w.kp,?_⟩⟩;refine OW (L.on w) ae (SP (n:=k)).TH λG d' q' a' r f' _ _=> ?_
  rw[bC (n:=(i:Int)+1) ae ae];refine⟨⟨i+1,d',q',a',ae,ae,ae,?_⟩,by show l.length - Int.toNat ((i:Int)+1)<l.length - Int.toNat (i:Int);omega⟩;rw[bt,ai o,aV];rw[ek]at r;exact r
 cases c:l[i]with
 |true=>rw[ag rfl];exact go 1 (by rw[c];rfl)
 |false=>rw[dB];exact go 0 (by rw[c];rfl)
theorem Nf{r:zP}(H:ja r=true):room (EH r)<=1000:=by
 unfold ja at H;simp only[aU,aX]at H;have:=He r.of H.2;simp only[EH,GM,room,dK,bG,cu,List.map_nil];omega
theorem K6 (r : zP) (w : 0 ≤ r.of.e.gy) (U : lO V h0) (u : Fr No h0 h)
    (k1 : ∀ bs, EI V r = some bs → bs.length ≤ 1000 → ∀ h' p c, fz h' p bs.length c 1 (bc bs) → (∀ y, aN p y → h.size ≤ y) → Fr No h h' → R (.tuple #[.slice p bs.length c, .int .i64 0]) h')
    (k2 : EI V r = none → ∀ h', Fr No h h' → R (.tuple #[.slice none 0 0, .int .i64 3]) h') : Cl 274 #[r.s.agg] h R := by
  refine Fe.walk (aO.da λb h1 eb hb f1 => A5 r.of hb rfl rfl rfl rfl rfl rfl rfl (KL r.of w λh2 z qz z0 z1 f2 => aa.ex z.s ⟨_, rfl, aa.fY (x := z.s) λb1 h4 Xa US f4 => aH.of λJ hJ => ?_⟩))
  have We := (f2.tt f4).get hb id
  have F4 := f1.tt (f2.tt f4)
  have bad : ∀ g, Fr No h g → ¬ (ja r = true) → J true g := λg fg hn => by
    subst hJ
    dsimp only
    rw [if_pos rfl]
    exact k2 (by unfold EI; rw [if_neg (λe => hn e.1)]) g fg
  by_cases hq : qz = 0
  case neg =>
    rw [if_pos (by simpa using hq)]
    exact bad h4 F4 (λe => hq (z1.2 (by unfold ja at e; simp only [Bool.and_eq_true] at e; exact e.2)))
  rw [if_neg (by simpa using hq)]
  have tz := z0 hq
  refine aO.fN We (Nd r λh5 f5 => ⟨_, rfl, ?_⟩)
  have F5 := F4.tt f5
  cases hr : ja r with
  | false => exact bad h5 F5 (by rw [hr]; decide)
  | true =>
  clear bad
  subst hJ
  dsimp only
  rw [if_neg (by decide)]
  have Ur := f5.get We id
  have rm := Nf hr
  refine ⟨_, cB Ur rfl, _, cB Ur rfl, _, cB Ur rfl, _, cB Ur rfl, _, cB Ur rfl, aa.fN (f5.get US id) ?_⟩
  have rest : ∀ g y, EO g (GM [r.rc, r.dl, r.de]) y → Fr No h5 g → ∀ {kl Wf kl2 : List (Option Addr)}, Cl 109 #[.int .u64 (r.reason : Int)] g λWA TK => aa.EX λt30 => WA = t30.agg ∧ Kp g TK kl ∧ Cl 109 #[.int .u64 (r.at' : Int)] TK λWB Rz => aa.EX λt33 => WB = t33.agg ∧ Kp TK Rz Wf ∧
      bh Rz (.cells (y.s.l ++ t30.l ++ t33.l ++ z.s.l).toArray 167) λWC VK => Cl 168 #[.slice (some ⟨WC, 0, none⟩) 4 4] VK λWD VL => aa.EX λt36 => WD = t36.agg ∧
      bh VL (.cells ((nv 1).s.l ++ t36.l).toArray 167) λWE VM => Cl 168 #[.slice (some ⟨WE, 0, none⟩) 2 2] VM λWG VN => aa.EX λt38 => WG = t38.agg ∧ Cl 77 #[t38.agg] VN λWH VO =>
      ∃ K7 K8 K9 Sj, WH = .tuple #[.slice K7 K8 K9, .int .i64 Sj] ∧ R (.tuple #[.slice K7 K8 K9, .int .i64 Sj]) VO := by
    intro g y ty fg kl Wf kl2
    refine fM λh9 f9 => aa.ex (nv r.reason).s ⟨rfl, f9.kp, fM λWI f10 => aa.ex (nv r.at').s ⟨rfl, f10.kp, ?_⟩⟩
    have Wg := fg.tt (f9.tt f10)
    have T4 : CC WI [GM [r.rc, r.dl, r.de], num r.reason, num r.at', Ox r.of] [y, nv r.reason, nv r.at', z] := .cons (ty.on (f9.tt f10)) (.cons nK (.cons nK (.cons (tz.on (f4.tt (f5.tt Wg))) .nil)))
    have e2 : room (EH r) = 27 + dK [GM [r.rc, r.dl, r.de], num r.reason, num r.at', Ox r.of] := by simp only [EH, room, dK, List.length_nil]; omega
    refine qo T4 (by omega) rfl rfl λVP w tw f12 => aa.ex w.s ⟨rfl, ?_⟩
    have T2 : CC VP [num 1, sX [GM [r.rc, r.dl, r.de], num r.reason, num r.at', Ox r.of]] [nv 1, w] := two nK tw.u
    refine qo T2 (by simp only [dK, room, List.length_nil] at e2 ⊢; omega) rfl rfl λWh w2 WJ f14 => aa.ex w2.s ⟨rfl, ?_⟩
    have UU := F5.tt (Wg.tt (f12.tt f14))
    refine xe U (u.tt UU) WJ.TH (t := EH r) (by omega) (λe Tq p c o n f15 => ⟨_, _, _, _, rfl, ?_⟩) (λe Tq f15 => ⟨_, _, _, _, rfl, ?_⟩)
    · have := UU.1
      exact k1 (enc (EH r)) (by unfold EI; rw [if_pos ⟨hr, e⟩]) (by have := lB (EH r); omega) Tq p c o (λy hy => by have := n y hy; omega) (UU.tt f15)
    · exact k2 (by unfold EI; rw [if_neg (λe' => by rw [e] at e'; cases e'.2)]) Tq (UU.tt f15)
  have Us : ∀ {g} {K : Nat → aj → Prop}, (∀ b h', Row h' (some ⟨b, 0, none⟩) (bo [r.rc, r.dl, r.de]) → Fr No g h' → K b h') → bh g (.cells #[.bool r.s.f0, .bool r.s.f1, .bool r.s.f2] 4) K := λhk => cK (hk _ _ iT (Fr.push _ _))
  refine ⟨?_, ?_, trivial⟩
  · refine fM (n := 1) λh6 f6 => aa.ex (nv 1).s ⟨rfl, f6.kp, Us λb2 h7 r7 f7 => ⟨f7.kp, P1 r7 rfl (by show 3 ≤ _; omega) λh8 y ty f8 => aa.ex y.s ⟨rfl, f8.kp, rest h8 y ty.u (f6.tt (f7.tt f8)) (kl2 := [])⟩⟩⟩
  · refine Us λb2 h7 r7 f7 => ⟨f7.kp, fM (n := 1) λh6 f6 => aa.ex (nv 1).s ⟨rfl, f6.kp, P1 (r7.frame f6 (λ_ _ => id)) rfl (by show 3 ≤ _; omega) λh8 y ty f8 => aa.ex y.s ⟨rfl, f8.kp, rest h8 y ty.u (f7.tt (f6.tt f8)) (kl2 := [])⟩⟩⟩
theorem Ng(r:zP)(d:Ev)(id:jq)(l:Nat)(i':0<=r.of.e.gy)(w1:0<=d.gy)(w2:0<=id.e.gy)(U:lO V h0)(c':Fr No h0 h)(mx:lM.Mx h)(k1: ∀b,mE V r d id l=some b->b.bl.length=1->b.p.wf->(∀u∈b.bl,u.data.length<=1000)->∀h' b' L xs,jb h' (λy=>h.size<=y) b.bl b' b.bl.length L xs->Fr No h h'->R (.T #[(b.s b' L).agg,.I 0]) h')(k2:mE V r d id l=none->iq h R (.T #[av.S.z.agg,.I 3])):Cl 265 #[r.s.agg,d.s.agg,id.s.agg,.U (l:Int)] h R:=by
 refine CH.walk (aO.da λb h1 eb hb v=>az.da λb1 h2 k' d' w=>ah.da λb2 h3 l' f' n=>av.da λb3 Q m' A o=>aO.fN ((w.tt (n.tt o)).get hb _root_.id) ?_);have k:=v.tt (w.tt (n.tt o));have z4:=k.1;have z1:=v.1;have z3:=(v.tt (w.tt n)).1;have r':=aC A;refine K6 r i' U (c'.tt k) (λa C lb S p c a' g' F=>⟨_,_,_,_,rfl,?_⟩) (λC S F=>⟨_,_,_,_,rfl,?_⟩)
 case refine_2=>
  rw[gk];exact Bl (F.get A _root_.id) λg f=>k2 (by unfold mE;rw[C]) g ((k.tt F).fresh f (λy e=>ae))
 rw[dB];have t:=k.tt F;have z5:=F.1;refine az.fN (x:=d.s) ((n.tt (o.tt F)).get d' _root_.id) (ah.fN (x:=id.s) ((o.tt F).get f' _root_.id) (aA.da (x:=mT.s ⟨1,1,0,0,a⟩ p c) λi h7 n' X x=>av.da λK h8 o' Z q=> ?_));have s:mE V r d id l=if(jR V ⟨⟨2,0,d,.zero,id,l⟩, [⟨1,1,0,0,a⟩]⟩).isSome=true then some ⟨⟨2,0,d,.zero,id,l⟩, [⟨1,1,0,0,a⟩]⟩else none:=by unfold mE;rw[C]
 generalize z:(⟨⟨2,0,d,.zero,id,l⟩, [⟨1,1,0,0,a⟩]⟩:mr)=B at s;have E:B.bl= [⟨1,1,0,0,a⟩]:=by rw[<-z]
 have O:B.p.wf:=by rw[<-z];exact⟨w1,eu 0,w2⟩
 have s':=aC X;have t':=aC Z;have z7:=x.1;have z8:=q.1;have B8:jb h8 (λy=>Q.size<=y/\y≠K) B.bl (Sa i 0) B.bl.length 1 [⟨⟨1,1,0,0,a⟩,p,c⟩]:=by
  rw[E];refine⟨rfl,rfl,.inr ⟨_,rfl,aA.AX (x:=mT.s ⟨1,1,0,0,a⟩ p c) (q.get X _root_.id)⟩,λ_ y ⟨j',e,e'⟩=>by cases e;rw[<-e'];exact⟨by show Q.size<=i;omega,by show i≠K;omega⟩,bm _,λq' hx=> ?_⟩;rw[bP.1 hx];exact BV.jy ((a'.frame x (λ_ _=>_root_.id)).frame q (λ_ _=>_root_.id)) (λy H=>⟨g' y H,bR (a'.dC H)⟩)
 have eS:(B.s (Sa i 0) 1)=(⟨2,0,d.s.f0,d.s.f1,d.s.f2,d.s.f3,d.s.f4,false,0,0,⟨#[]⟩,⟨#[]⟩,id.s.f0,id.s.f1,id.s.f2,id.s.f3,id.s.f4,id.s.f5,id.s.f6,l,(Sa i 0),1,1⟩:av.S):=by rw[<-z];rfl
 rw[<-eS];refine av.hU (x:=B.s (Sa i 0) 1) Z λh9 M P _=>av.fN M ?_
 have G:Fr No S h9:=(x.tt q).fresh P (λy e=>ae);have I:=B8.frame P (λy H e=>H.2 e);refine sO O U (c'.tt (t.tt G)) (mx.on (t.tt G)) I (by rw[E];simp) (λu j=>by rw[E]at j;rw[bP.1 j];show a.length<=_;omega) λp' m=>⟨_,rfl,?_⟩
 have T:=(F.tt (G.tt m)).get A _root_.id;have J:=t.tt (G.tt m);cases hq:(jR V B).isSome with
 |false=>
  rw[gk];exact Bl T λg f=>k2 (by rw[s,hq];rfl) g (J.fresh f (λy e=>ae))
 |true=>
  rw[dB];rw[hq,ag rfl]at s;refine av.fN (m.get M _root_.id) (Bl T λg f=>k1 B s (by rw[E];rfl) O (λu j=>by rw[E]at j;rw[bP.1 j];exact lb) g _ 1 [⟨⟨1,1,0,0,a⟩,p,c⟩] ?_ (J.fresh f (λy e=>ae)));exact((I.on m).frame f (λy H e=>ae)).mono λy H=>ae

end Bn
end
section
variable {h:aj} {R:fD}
variable {b:av.S} {k s n:Int}
theorem Nh.walk{b:aA.S}(c:bh h (.C b.arr 127) λB H=> ∃T,Cc H B 0 (.U T)/\if(T !=k)then R (.I 4) H else aA.cN H (AA B 0) λd=>Cl 74 #[d.agg] H λv a=> ∃t,v=.B t/\if(!t)then R (.I 3) a else R (.I 0) a):Cl 307 #[b.agg,.U k] h R:=aP (lq (sq (bq (lq (cq ll (lq (cq ll lf))))) ll)) Tryz.func307 c
theorem Ia.walk{b:aA.S}(d:bh h (.C b.arr 127) λB a=>aA.cN a (AA B 0) λj=>Cl 307 #[j.agg,.U 7] a λv H=> ∃t,v=.I t/\if(t !=0)then R (.T #[.U 0,.I t]) H else Hl H B 4 λg f e=>Cl 165 #[.L g f e] H λV c=> ∃T i,V=.T #[.U T,.B i]/\R (.T #[.U T,.I 0]) c):Cl 277 #[b.agg] h R:=aP (lq (sq (lq (lq (cq ll lf))) (lq ll))) Tryz.func277 d
theorem CX.walk{c:aA.S}{C:Nat}(a:bh h (.C c.arr 127) λb H=>Hu H b 0 λT=> ∃t,Cc H C 0 (.U t)/\R (.B (T==t)) H):Cl 305 #[c.agg,.P C 0] h R:=aP (lq ll) Tryz.func305 a
theorem jE.find.walk{d:ck}{S g:Nat}{f:Nat}(e: ∃(I:Int->aj->Prop)(m:Int->aj->Nat),I 0 h/\∀(t:Int)(H:aj),I t H->if(decide (t<(S:Int)))then Bd t S/\aM d λa=>aA.cN H (a.add (toNat t*5)) λi=>Cl 305 #[i.agg,.P f 0] H λv c=> ∃T,v=.B T/\if T then R (.I t) c else(I (wrap .i64 (t+1)) c/\m (wrap .i64 (t+1)) c<m t H)else R (.I (-1)) H):Cl 306 #[.L d S g,.func (.func 305) #[] #[.P f 0]] h R:=aP (lq (sq (lq (bq (.loop [(8,.one (.int .i64))] (lq (sq (cq lf lf) (sq (bq (lq (lq (cq ll lf)))) lf)))))) ll)) Tryz.func306 e
theorem Ib.walk(w:bh h (.C b.arr 76) λd p=>bh p (.C #[.U k] 23) λo q=>aA.NW q λB f=>Hl f d 20 λC A z=>Cl 306 #[.L C A z,.func (.func 305) #[] #[.P o 0]] f λv H=> ∃t,v=.I t/\if(decide (t<0))then aA.dw H (AA B 0) aA.S.z λg=>aA.cN g (AA B 0) λx=>R (.T #[x.agg,.B false]) g else Hl H d 20 λE D _=>Bd t D/\aM E λa=>aA.cN H (a.add (toNat t*5)) λF=>aA.NW H λc r=>aA.dw r (AA c 0) F λi=>Hl i c 4 λJ I G=>Cl 27 #[.L J I G] i λV u=> ∃m l T,V=.L m l T/\aT u (AA c 4) (.L m l T) λj=>aA.cN j (AA c 0) λK=>aA.dw j (AA B 0) K λe=>aA.cN e (AA B 0) λy=>R (.T #[y.agg,.B true]) e):Cl 276 #[b.agg,.U k] h R:=aP (lq (lq (lq (sq (lq (cq ll lf)) (lq (lq ll)))))) Tryz.func276 w
theorem RA.walk(d:bh h (.C b.arr 76) λB a=>av.cN a (AA B 0) λe=>Cl 147 #[e.agg] a λv H=> ∃t,v=.B t/\if(!t)then R (.I 3) H else aH (λ(T:Bool) (c:aj)=>if T then R (.I 1) c else R (.I 0) c) (λJ=>if(decide (s>n))then J true H else J (decide (n>1099511627776)) H)):Cl 215 #[b.agg,.U s,.U n] h R:=aP (lq (sq (bq (lq (cq ll (sq (.join [(11,.one (.bool))] lf) (cq ll lf))))) ll)) Tryz.func215 d
theorem RB.walk(i:bh h (.C b.arr 76) λd a=>av.cN a (AA d 0) λm=>Cl 276 #[m.agg,.U 7] a λv e=>aA.EX λT=> ∃c,v=.T #[T.agg,.B c]/\aA.NW e λB f=>aA.dw f (AA B 0) T λH=>if(!c)then R (.U 0) H else aA.cN H (AA B 0) λj=>Cl 277 #[j.agg] H λV g=> ∃t l,V=.T #[.U t,.I l]/\R (.U t) g):Cl 217 #[b.agg] h R:=aP (lq (lq (sq (lq (cq ll lf)) (lq ll)))) Tryz.func217 i
theorem P2.walk{p:aG.S}{o:Int}{c:Int} (g:bh h (.C p.arr 73) λb H=>Hu H b 17 λi=>aH (λ(P:Int) (a:aj)=> ∃e,Cc a b 19 (.U e)/\if(decide (P≥e))then R (.U 0) a else∃f,Cc a b 19 (.U f)/\R (.U (wrap .u64 (f - P))) a) (λJ=>if(decide (i>0))then∃t,Cc H b 17 (.U t)/\if(decide (n<t))then Hu H b 19 λj=> ∃T,Cc H b 17 (.U T)/\R (.U (wrap .u64 (j+(wrap .u64 (T - n))))) H else∃d,Cc H b 17 (.U d)/\J (wrap .u64 (n - d)) H else J (wrap .u64 (o+c)) H)):Cl 216 #[p.agg,.U o,.U c,.U n] h R:=aP (lq (lq (sq (lq (.join [(9,.one (.int .u64))] (cq (sq (lq (cq ll lf)) lf) lf))) (sq (lq (cq ll lf)) ll)))) Tryz.func216 g
theorem P3.walk(f:bh h (.C b.arr 76) λB a=>av.cN a (AA B 0) λj=>Cl 215 #[j.agg,.U s,.U n] a λv H=> ∃t,v=.I t/\if(t !=0)then R (.T #[.U 0,.I t]) H else aG.cN H (AA B 0) λg=>av.cN H (AA B 0) λi=>Cl 217 #[i.agg] H λV c=> ∃T,V=.U T/\Kp H c [(Sa B 0)]/\Cl 216 #[g.agg,.U T,.U (wrap .u64 (n - s)),.U n] c λl e=> ∃d,l=.U d/\R (.T #[.U d,.I 0]) e):Cl 151 #[b.agg,.U s,.U n] h R:=aP (lq (sq (lq (lq (cq ll lf))) (sq (.kz (ga 3 0 (ga 4 4 (.op 3 (ga 3 8 .done))))) lf))) Tryz.func151 f
theorem Ic.walk{l:ck}{j i:Nat} (hv:aO.NW h λb e'=>Cl 144 #[.L l j i,.I 0] e' λT' g'=>aa.EX λK=> ∃p' L,T'=.T #[K.agg,.I p',.I L]/\aa.NW g' λB h'=>aa.dw h' (AA B 0) K λc=>aH (λ(C':Bool) (e:aj)=>if C' then aO.dw e (AA b 0) aO.S.z λG=>aO.cN G (AA b 0) λr0=>R (.T #[r0.agg,.I 3]) G else Hl e B 3 λE' D' _=>Bd 1 D'/\aM E' λa=>mJ e ((a.add (toNat 1*4)).add 3) λd T _=>Bd 3 T/\aM d λa'=>aa.cN e (a'.add (toNat 3*4)) λF'=>Cl 211 #[F'.agg] e λU' i'=>ah.EX λQ=> ∃S,U'=.T #[Q.agg,.I S]/\ah.NW i' λf j'=>ah.dw j' (AA f 0) Q λH=>if(S !=0)then aO.dw H (AA b 0) aO.S.z λy=>aO.cN y (AA b 0) λk'=>R (.T #[k'.agg,.I 3]) y else Bd 0 T/\aM d λA=>mJ H ((A.add (toNat 0*4)).add 3) λH' G' _=>Bd 0 G'/\aM H' λp=>gK H ((p.add (toNat 0*4)).add 1) λI'=>Bd 0 T/\aM d λq=>mJ H ((q.add (toNat 0*4)).add 3) λK' J' _=>Bd 1 J'/\aM K' λr=>gK H ((r.add (toNat 1*4)).add 1) λL'=>Bd 0 T/\aM d λu=>mJ H ((u.add (toNat 0*4)).add 3) λO' M' _=>Bd 2 M'/\aM O' λv=>gK H ((v.add (toNat 2*4)).add 1) λP'=>Bd 1 T/\aM d λw=>gK H ((w.add (toNat 1*4)).add 1) λQ'=>Bd 2 T/\aM d λx=>gK H ((x.add (toNat 2*4)).add 1) λR'=>ah.cN H (AA f 0) λt=>aO.NW H λg z=>Kp H z [(Sa f 0),(some ((x.add (toNat 2*4)).add 1)),(some ((w.add (toNat 1*4)).add 1)),(some ((v.add (toNat 2*4)).add 1)),(some ((u.add (toNat 0*4)).add 3)),(some ((r.add (toNat 1*4)).add 1)),(some ((q.add (toNat 0*4)).add 3)),(some ((p.add (toNat 0*4)).add 1)),(some ((A.add (toNat 0*4)).add 3))]/\aO.dw z (AA g 0) ⟨(I'==1),(L'==1),(P'==1),Q',R',t.f0,t.f1,t.f2,t.f3,t.f4,t.f5,t.f6⟩ λC=>aO.cN C (AA g 0) λS'=>Cl 274 #[S'.agg] C λV' D=> ∃X V U Z,V'=.T #[.L X V U,.I Z]/\aH (λ(n':Bool) (m:aj)=>if n' then aO.dw m (AA b 0) aO.S.z λE=>aO.cN E (AA b 0) λl'=>R (.T #[l'.agg,.I 3]) E else aO.cN m (AA g 0) λo'=>aO.dw m (AA b 0) o' λF=>aO.cN F (AA b 0) λm'=>R (.T #[m'.agg,.I 0]) F) (λo=>if(Z !=0)then o true D else Cl 69 #[.L X V U,.L l j i] D λX' f'=> ∃I,X'=.B I/\o (!I) f')) (λJ=>if(L !=0)then J true c else∃r' M q',Cc c B 3 (.L r' M q')/\if(((M:Nat):Int) !=2)then J true c else Hl c B 3 λt' s' _=>Bd 1 s'/\aM t' λb'=> ∃v' O u',aY c ((b'.add (toNat 1*4)).add 3)=some (.L v' O u')/\if(((O:Nat):Int) !=4)then J true c else Hl c B 3 λx' w' _=>Bd 1 w'/\aM x' λc'=>mJ c ((c'.add (toNat 1*4)).add 3) λz' y' _=>Bd 0 y'/\aM z' λd'=> ∃B' P A',aY c ((d'.add (toNat 0*4)).add 3)=some (.L B' P A')/\J (((P:Nat):Int) !=3) c)):Cl 213 #[.L l j i] h R:=aP (lq (lq (sq (sq (.join [(46,.one (.bool))] lf) (cq ll lf)) (lq (lq (sq (lq (cq ll lf)) (sq (pK 36) (sq (lq (sq (.join [(109,.one (.bool))] lf) (cq ll lf))) ll)))))))) Tryz.func213 hv
theorem Ni.walk(o:bh h (.C b.arr 76) λa j=>aO.NW j λB H=> ∃i,Cc H a 0 (.U i)/\if((wrap .u64 ((od i &&& od 2).toNat:Int))==0)then aO.dw H (AA B 0) aO.S.z λd=>aO.cN d (AA B 0) λr=>R (.T #[r.agg,.I 4]) d else av.cN H (AA a 0) λu=>Cl 147 #[u.agg] H λv c=> ∃t,v=.B t/\if(!t)then aO.dw c (AA B 0) aO.S.z λe=>aO.cN e (AA B 0) λp=>R (.T #[p.agg,.I 3]) e else av.cN c (AA a 0) λw=>Cl 198 #[w.agg] c λV l=>Vl V λz y x=>Cl 213 #[.L z y x] l λA m=>aO.EX λT=> ∃g,A=.T #[T.agg,.I g]/\aO.dw m (AA B 0) T λf=>aO.cN f (AA B 0) λq=>R (.T #[q.agg,.I g]) f):Cl 149 #[b.agg] h R:=aP (lq (sq (bq (lq (cq ll (lq (cq ll lf))))) ll)) Tryz.func149 o

end
section
namespace CI
open Cb (Tr gX EO mF mK Dz)
open Bn (at_ lD jR mr mT Prim zP jq jb BB yP vS rU EI kq eY QU jQ elem jj lF)
variable {V:cM→Bool} {h H a g:aj} {R:fD} {p q:ck} {c C:Nat} {x:List BB} {D:Nat→Prop} {b:mr}
variable {k:Nat}
def RC(V:cM->Bool)(z:mT)(k:Nat):Int:=if z.ty=k then(if jQ V z=true then 0 else 3)else 4
def RE(V:cM->Bool)(z:mT):Nat:=if RC V z 7=0 then(eY V z.data).n else 0
def Ee(l:List mT)(k:Nat):Option mT:=l.find? λz=>decide (z.ty=k)
def Kg(V:cM->Bool)(l:List mT):Nat:=match Ee l 7 with|none=>0|some z=>RE V z
def Kh(V:cM->Bool)(b:mr)(s n:Nat):Int:=if(jR V b).isSome=true then(if s>n\/n>1099511627776 then 1 else 0)else 3
def Sk(P:Prim)(o n:Nat):Nat:=if P.id.tm>0 then n - P.id.tm else o
def Ie(P:Prim)(o n:Nat):Nat:=if P.id.tm>0/\n<P.id.tm then P.fW+(P.id.tm - n)else P.fW - Sk P o n
theorem RG(z:mT)(k:Nat)(U:Cb.lO V a)(u:Fr No a h)(M:lM.Mx h)(r:Row h p (bc z.data))(cap:z.data.length<=c)(n:z.data.length<=80000)(d: iq h R (.I (RC V z k))):Cl 307 #[(z.s p c).agg,.U (k:Int)] h R:=by
 refine Nh.walk (aA.da λb m E j f=>⟨_,ak j,?_⟩);unfold RC at d;by_cases e:z.ty=k
 case neg=>
  rw[af e]at d;rw[ag (by show((z.ty:Int) !=(k:Int))=true;simp only[dv,ff];omega)];exact d m f
 rw[ag e]at d;rw[af (by show¬((z.ty:Int) !=(k:Int))=true;simp only[dv,ff];omega)];refine aA.fN (x:=z.s p c) j (Bn.xj z U (u.tt f) (M.on f) (r.frame f bX) cap n λi F=>⟨_,rfl,?_⟩);cases l:jQ V z with
 |false=>rw[l]at d;rw[gk];exact d i (f.tt F)
 |true=>rw[l]at d;rw[dB];exact d i (f.tt F)
theorem P4(z:mT)(U:Cb.lO V a)(u:Fr No a h)(M:lM.Mx h)(r:Row h p (bc z.data))(cap:z.data.length<=c)(l:z.data.length<=80000)(d: ∀H (e:Int),Fr No h H->R (.T #[.U (RE V z:Int),.I e]) H):Cl 277 #[(z.s p c).agg] h R:=by
 refine Ia.walk (aA.da λb s E j f=>aA.fN (x:=z.s p c) j (RG z 7 U (u.tt f) (M.on f) (r.frame f bX) cap l λn F=>⟨_,rfl,?_⟩));unfold RE at d;by_cases i:RC V z 7=0
 case neg=>
  rw[af i]at d;rw[ag (cI i)];exact d n _ (f.tt F)
 rw[ag i]at d;rw[af (cI i)];refine⟨_,_,_,ak (F.get j id),Bn.E7 U (u.tt (f.tt F)) (r.frame (f.tt F) bX) rfl cap l λo m=>⟨_,_,rfl,d o _ (f.tt (F.tt m))⟩⟩
theorem P6{i n m:Nat}(B:jb h D b.bl q b.bl.length C x)(S:n=b.bl.length)(Q:b.bl.length<=1000000)(u:h[i]? =some (.C #[.U (k:Int)] 23 (0,0)))(I: iq h R (.I (idxOf (λX:BB=>decide (X.b.ty=k)) x))):
  Cl 306 #[.L q n m,.func (.func 305) #[] #[.P i 0]] h R:=by
 have xl:=B.xl;refine jE.find.walk (AF (λX:BB=>decide (X.b.ty=k)) (λt g K=>((0:Int)<=t/\t<(n:Int))/\aM q λA=>aA.cN g (A.add (Int.toNat t*5)) λT=>
  Cl 305 #[T.agg,.P i 0] g λv G=> ∃t,v=.B t/\K t G) ae ae (λj P y K o f s=> ?_) I)
 have U:=(aE.1 o).1;have r:=B.on f;obtain⟨A,d,E,z,M,Z,J⟩:=r.get (i:=j) ae;obtain rfl:d=y:=aZ (J.symm.trans o);refine⟨ae,bW.2 ⟨A,E,aA.lX (x:=d.s) (by rw[aF];exact z) (CX.walk (aA.da λL l O w F=>⟨_,ak w,_,ak ((f.tt F).get u id),_,rfl,?_⟩))⟩⟩;have e:((d.b.ty:Int)==(k:Int))=decide (d.b.ty=k):=by by_cases q:d.b.ty=k<;>simp[q]<;>omega
 show K ((d.b.ty:Int)==(k:Int)) l;rw[e];exact s l (f.tt F)
theorem Qa{l:List BB}:(Ee (l.map BB.b) k=none/\idxOf (λX:BB=>decide (X.b.ty=k)) l= -1)\/∃(i:Nat)(y:BB),idxOf (λX:BB=>decide (X.b.ty=k)) l=(i:Int)/\l[i]? =some y/\Ee (l.map BB.b) k=some y.b:=by
 unfold Ee idxOf;rw[List.find?_map];cases d:l.findIdx? (λX:BB=>decide (X.b.ty=k))with
 |none=>
  left;refine⟨?_,rfl⟩;rw[dy]at d;have:l.find? ((λz:mT=>decide (z.ty=k)) ∘ BB.b)=none:=List.find?_eq_none.2 λX o=>by have:=d X o;simpa using this
  rw[this];rfl
 |some i=>
  right;obtain⟨e,f,m⟩:=cJ.1 d;refine⟨i,l[i],rfl,ai e,?_⟩;have:l.find? ((λz:mT=>decide (z.ty=k)) ∘ BB.b)=some l[i]:=fO.2 ⟨f,i,e,rfl,λj n=>by have:=m j n;simpa using this⟩;rw[this];rfl
theorem Qb{b:Nat}{y X:aA.S}{K:aA.S->aj->Prop}(e:aA.fR h b y)(i: ∀H,Fr (λy=>y=b) h H->K X H):
  aA.dw h (AA b 0) X λg=>aA.cN g (AA b 0) λr=>K r g:=
 aA.hU (x:=X) e λg d f _=>aA.fN d (i g f)
theorem RH{b:Nat}{z:mT}{q':ck}{c':Nat}{K:aj->Prop}(j:aA.fR h b (z.s p c))(m: ∀H,aA.fR H b (z.s q' c')->Fr (λy=>y=b) h H->K H):aT h (AA b 4) (.L q' z.data.length c') K:=
 bD j (by show 4<5;omega) λi d e f=>m i d (Fr.of_eq e λc l=>f c l)
theorem iu(k:Nat)(B:jb h D b.bl q b.bl.length C x)(hl:b.bl.length<=1000000)(hd: ∀z∈b.bl,z.data.length<=80000)(k1: ∀z,Ee b.bl k=some z->z∈b.bl->∀H p c,Row H p (bc z.data)->z.data.length<=c->Fr No h H->R (.T #[(z.s p c).agg,.B true]) H)(k2:Ee b.bl k=none->iq h R (.T #[aA.S.z.agg,.B false])):
  Cl 276 #[(b.s q C).agg,.U (k:Int)] h R:=by
 refine Ib.walk (av.da (x:=b.s q C) λb1 i d' L J=>cK ?_);have f:Fr No i (i.push (.C #[.U (k:Int)] 23)):=Fr.push _ _;have M:(i.push (.C #[.U (k:Int)] 23))[i.size]? =some (.C #[.U (k:Int)] 23 (0,0)):=bZ;generalize i.push (.C #[.U (k:Int)] 23)=h2 at f M⊢;refine aA.da (x:=.z) λU h3 e' v m=> ?_
 have G:=J.tt (f.tt m);have z1:=J.1;have z2:=f.1;have g':=aC v;refine⟨_,_,_,ak ((f.tt m).get L id),P6 (B.on G) rfl hl (m.get M id) λh4 F=>⟨_,rfl,?_⟩⟩;have l:=G.tt F;have I:=B.eq;rcases Qa (l:=x) (k:=k)with⟨r,s⟩|⟨c',y,r,s,Q⟩
 .rw[I]at r;rw[s,gk];exact Qb (F.get v id) λh5 f5=>k2 r h5 (l.fresh f5 (λy e=>ae))
 rw[I]at Q;rw[r,dB];have xl:=B.xl;have li:=(aE.1 s).1;obtain⟨A,d,E,hh,e1,ok,b'⟩:=(B.on l).get (i:=c') ae;obtain rfl:d=y:=aZ (b'.symm.trans s);have O:d.b∈b.bl:=by rw[e1];exact dI _
 have sl:(b.s q C).I2=b.bl.length:=rfl;have ld:=hd _ O;refine⟨_,_,_,ak ((f.tt (m.tt F)).get L id),ae,bW.2 ⟨A,E,aA.lX (x:=d.s) (by rw[aF];exact hh) (aA.fY (x:=d.s) λX h7 f' w n=>⟨_,_,_,ak w,iE.gP (ok.row.frame n bX) rfl (by show d.b.data.length<=_;omega) λP t h8 T o S=>⟨_,_,_,rfl,?_⟩⟩)⟩⟩;have z7:=n.1;have z8:=o.1;have z4:=F.1;have h':=aC w;refine RH (z:=d.b) (q':=P) (c':=t) (o.get w id) λh9 Z u=>aA.fN (x:=d.b.s P t) Z (Qb (u.get ((F.tt (n.tt o)).get v id) ae) λa' K=> ?_)
 have r9:=(T.iy.frame u (λA E j=>by have:=S A.block ⟨A,E,rfl⟩;have j:A.block=X:=j;omega)).frame K (λA E j=>by have:=S A.block ⟨A,E,rfl⟩;have j:A.block=U:=j;omega);exact k1 d.b Q O a' P t r9 T.le (((l.tt (n.tt o)).fresh u (λy e=>bR l.1)).fresh K (λy e=>ae))
theorem E7(U:Cb.lO V a)(u:Fr No a h)(M:lM.Mx h)(B:jb h D b.bl q b.bl.length C x)(A:b.bl.length<=1000000)(n: ∀z∈b.bl,z.data.length<=80000)(d: iq h R (.U (Kg V b.bl:Int))):
  Cl 217 #[(b.s q C).agg] h R:=by
 unfold Kg at d;refine RB.walk (av.da (x:=b.s q C) λK O L y i=>av.fN (x:=b.s q C) y (iu 7 (B.on i) A n (λz J G v p c r s j=>aA.ex (z.s p c) ⟨_,rfl,aA.fY (x:=z.s p c) λo l E m f=> ?_⟩) (λI v j=>aA.ex .z ⟨_,rfl,aA.fY (x:=.z) λo l E m f=> ?_⟩)))
 .rw[J]at d;rw[dB];have F:=i.tt (j.tt f);exact aA.fN (x:=z.s p c) m (P4 z U (u.tt F) (M.on F) (r.frame f bX) s (n z G) λw e t=>⟨_,_,rfl,d w (F.tt t)⟩)
 .rw[I]at d;rw[gk];exact d l (i.tt (j.tt f))
theorem RI(s n:Nat)(w:b.p.wf)(U:Cb.lO V a)(u:Fr No a h)(M:lM.Mx h)(B:jb h D b.bl q b.bl.length C x)(t:b.bl.length<=1000000)(r: ∀z∈b.bl,z.data.length<=80000)(d: iq h R (.I (Kh V b s n))):
  Cl 215 #[(b.s q C).agg,.U (s:Int),.U (n:Int)] h R:=by
 unfold Kh at d;refine RA.walk (av.da (x:=b.s q C) λv y E o f=>av.fN (x:=b.s q C) o (Bn.sO w U (u.tt f) (M.on f) (B.on f) t r λi F=>⟨_,rfl,?_⟩));cases j:(jR V b).isSome with
 |false=>rw[j]at d;rw[gk];exact d i (f.tt F)
 |true=>
 rw[j,ag rfl]at d;rw[dB];have d:=d i (f.tt F);refine aH.of λJ e=> ?_
 by_cases l:s>n
 .rw[gk];subst e;dsimp only;rw[ag rfl];rw[ag (.inl l)]at d;exact d
 rw[dB];by_cases m:n>1099511627776
 .rw[aw ae];subst e;dsimp only;rw[ag rfl];rw[ag (.inr m)]at d;exact d
 .rw[aB ae];subst e;dsimp only;rw[dB];rw[dB]at d;exact d
theorem Qc(P:Prim)(o d:Nat)(j:P.fW<=1099511627776)(s:P.id.tm<=1099511627776)(t:d<=1099511627776)(u:o<=18446744073709551615)(f: iq h R (.U (Ie P o d:Int))):
  Cl 216 #[P.s.agg,.U (o:Int),.U 0,.U (d:Int)] h R:=by
 refine P2.walk (aG.da (x:=P.s) λb j E i F=>⟨_,ak i,aH.of λJ r=> ?_⟩);have f:=f j F;unfold Ie Sk at f;have fin: ∀n:Nat,(if P.id.tm>0/\d<P.id.tm then P.fW+(P.id.tm - d)else P.fW - (if P.id.tm>0 then d - P.id.tm else o))=P.fW - n->J (n:Int) j:=by
  intro n e;rw[e]at f;subst r;dsimp only;refine⟨_,ak i,?_⟩;by_cases c:n≥P.fW
  .rw[ag (aw (by show(n:Int)≥(P.fW:Int);omega))];rw[show P.fW - n=0 by omega]at f;exact f
  .rw[af (by simp only[aX];show¬(n:Int)≥(P.fW:Int);omega)];refine⟨_,ak i,?_⟩;show R (.U (IntKind.wrap .u64 ((P.fW:Int) - (n:Int)))) j;rw[wrap_u64 ae ae,show(P.fW:Int) - (n:Int)=((P.fW - n:Nat):Int) by omega];exact f
 by_cases l:P.id.tm>0
 .rw[ag (aw (by show(P.id.tm:Int)>0;omega))];refine⟨_,ak i,?_⟩;by_cases m:d<P.id.tm
  .rw[ag (aw (by show(d:Int)<(P.id.tm:Int);omega))];rw[ag ⟨l,m⟩]at f;refine⟨_,ak i,_,ak i,?_⟩;show R (.U (IntKind.wrap .u64 ((P.fW:Int)+(IntKind.wrap .u64 ((P.id.tm:Int) - (d:Int)))))) j;rw[wrap_u64 (n:=(P.id.tm:Int) - (d:Int)) ae ae,wrap_u64 ae ae,show(P.fW:Int)+((P.id.tm:Int) - (d:Int))=((P.fW+(P.id.tm - d):Nat):Int) by omega];exact f
  .rw[af (by simp only[aX];show¬(d:Int)<(P.id.tm:Int);omega)];refine⟨_,ak i,?_⟩;show J (IntKind.wrap .u64 ((d:Int) - (P.id.tm:Int))) j;rw[wrap_u64 ae ae,show(d:Int) - (P.id.tm:Int)=((d - P.id.tm:Nat):Int) by omega];exact fin _ (by rw[af (λe=>m e.2),ag l])
 .rw[af (by simp only[aX];show¬(P.id.tm:Int)>0;omega)];rw[Int.add_zero,wrap_u64 ae ae];exact fin _ (by rw[af (λe=>l e.1),af l])
def lS(V:cM->Bool)(b:mr)(n:Nat):Nat×Int:=if Kh V b n n=0 then(Ie b.p (Kg V b.bl) n,0)else(0,Kh V b n n)
theorem RJ{B:cM}{l pos left:Nat}{t:Cb.Tr}{e lf:Nat}(h:Cb.ig V B l pos left=.ok (t,e,lf)):t.n<=18446744073709551615:=by
 cases l with
 |zero=>
  unfold Cb.ig at h;split at h
  .cases h
  .split at h<;>cases h
 |succ l=>
  unfold Cb.ig at h;split at h
  .cases h
  rename_i m n o f d;have:=(Cb.wZ d).2.2.1;split at h
  .dsimp only at h;split at h
   .cases h
   split at h
   .cases h;show n<=_;omega
   split at h
   .split at h
    .cases h
    .cases h;exact bL _
   .split at h
    .cases h
    .cases h;exact bL _
  .cases h
theorem RL(B:cM):(eY V B).n<=18446744073709551615:=by
 unfold eY Cb.mK;split
 .rename_i t n d;split at d
  .cases d
  .rename_i e;cases d;exact RJ e
 .exact bL _
theorem RM(l:List mT):Kg V l<=18446744073709551615:=by
 unfold Kg RE;split
 .exact bL _
 .split
  .exact RL _
  .exact bL _
theorem RN(n:Nat)(G:n<=1099511627776)(w:b.p.wf)(U:Cb.lO V a)(u:Fr No a h)(M:lM.Mx h)(B:jb h D b.bl q b.bl.length C x)(t:b.bl.length<=1000000)(j: ∀z∈b.bl,z.data.length<=80000)(f: iq h R (.T #[.U ((lS V b n).1:Int),.I (lS V b n).2])):
  Cl 151 #[(b.s q C).agg,.U (n:Int),.U (n:Int)] h R:=by
 unfold lS at f;refine P3.walk (av.da (x:=b.s q C) λJ L K r i=>av.fN (x:=b.s q C) r (RI n n w U (u.tt i) (M.on i) (B.on i) t j λy m=>⟨_,rfl,?_⟩));have F:=i.tt m;by_cases e:Kh V b n n=0
 case neg=>
  rw[af e]at f;rw[ag (cI e)];exact f y F
 rw[ag e]at f;rw[af (cI e)];have s:=m.get r id;have l:Bn.jB b.p=true:=by
  unfold Kh at e;split at e
  .rename_i I;obtain⟨d,j⟩:=dZ.1 I;exact Ask.vc j
  .cases e
 have E:=RM (V:=V) b.bl;have pr:b.p.fW<=1099511627776/\b.p.id.tm<=1099511627776:=by
  unfold Bn.jB Bn.ij at l;simp only[aU,aX]at l;exact⟨l.2,l.1.2.1.2⟩
 refine Bn.UR s (av.fN (x:=b.s q C) s (E7 U (u.tt F) (M.on F) (B.on F) t j λO o=>⟨_,rfl,o.kp,?_⟩));rw[Int.sub_self,show IntKind.wrap .u64 0=0 by rfl];exact Qc b.p (Kg V b.bl) n pr.1 pr.2 G E λA v=>⟨_,rfl,f A (F.tt (o.tt v))⟩

end CI
end
section
namespace CI
open Cb (Tr gX EO mF mK nk rO Dz)
open Bn (at_ lD jR mr mT Prim zP jq jb BB rU EI kq elem jj lF)
variable {V:cM→Bool} {h H a g:aj} {R:fD} {p q:ck} {c C:Nat} {x:List BB} {D:Nat→Prop} {b:mr}
def B0(t:Tr):Prop:=t.l.length=2/\(at_ t.l 1).l.length=4/\(at_ (at_ t.l 1).l 0).l.length=3
instance (t : Tr) : Decidable (B0 t) := by unfold B0; infer_instance
def La(t:Tr)(X:jq):zP:=⟨(at_ (at_ (at_ t.l 1).l 0).l 0).n==1,(at_ (at_ (at_ t.l 1).l 0).l 1).n==1,(at_ (at_ (at_ t.l 1).l 0).l 2).n==1,(at_ (at_ t.l 1).l 1).n,(at_ (at_ t.l 1).l 2).n,X⟩
def x4(V:cM->Bool)(B:cM):Bool:=match mK V B with
 | .error _=>false
 | .ok (t,_)=>if B0 t then(match kq V (at_ (at_ t.l 1).l 3)with|none=>false|some X=>decide (EI V (La t X)=some B))else false
theorem FI{b:Nat}{y X:aO.S}{K:aO.S->aj->Prop}(e:aO.fR h b y)(i: ∀H,Fr (λy=>y=b) h H->K X H):
  aO.dw h (AA b 0) X λg=>aO.cN g (AA b 0) λr=>K r g:=
 aO.hU (x:=X) e λg d f _=>aO.fN d (i g f)
theorem Ki{B:cM}{i':Nat}(U:Cb.lO V a)(b':Fr No a h)(mx:lM.Mx h)(j':Row h p (bc B))(hl:i'=B.length)(cap:B.length<=c)(b5:B.length<=1300)(hk: ∀H (r:aO.S) (e:Int),(e=0↔x4 V B=true)->Fr No h H->R (.T #[r.agg,.I e]) H):Cl 213 #[.L p i' c] h R:=by
 subst hl;refine Ic.walk (aO.da (x:=.z) λb h1 eb hb f=> ?_);have zb:=aC hb;have z1:=f.1;have u: ∀g,Fr No h1 g->x4 V B=false->aO.dw g (AA b 0) .z λG=>aO.cN G (AA b 0) λr=>R (.T #[r.agg,.I 3]) G:=λg fg e=>
  FI (fg.get hb id) λG f'=>hk G _ 3 ⟨λq=>absurd q dN,λq=>by rw[e]at q;cases q⟩ ((f.tt fg).fresh f' (λl' e=>ae))
 have d:x4 V B=x4 V B:=rfl;conv at d=>rhs;unfold x4
 refine Cb.vO (U.mono (b'.tt f)) (j'.frame f bX) rfl cap ae (λh3 t c' nx hr tx Z=>aa.ex c'.s ⟨_,_,rfl,aa.fY (x:=c'.s) λb1 m o' s z=> ?_⟩) (λh3 e he Z=>aa.ex Bn.zv.s ⟨_,_,rfl,aa.fY (x:=Bn.zv.s) λb1 m o' s z=> ?_⟩)
 case refine_2=>
  refine aH.of λd' A=> ?_
  rw[ag (cI (nk he))];subst A;dsimp only;rw[ag rfl];exact u m (Z.tt z) (by rw[d,he])
 rw[hr]at d;dsimp only at d;obtain⟨rt,b7⟩:=rO hr;have o:=Z.tt z;obtain⟨xk,xn,xb,xl,xv,ys,L,TS⟩:=Bn.gX.kn (tx.u.on z);have rl:=lF (t:=t);have sl:c'.s.FN=t.l.length:=xl;refine aH.of λd' A=> ?_
 have bad: ¬B0 t->d' true m:=λhn=>by
  subst A;dsimp only;rw[ag rfl];exact u m o (by rw[d,af hn])
 rw[dB];refine⟨_,_,_,ak s,?_⟩;rw[sl];by_cases l2:t.l.length=2
 case neg=>rw[ag (by simp only[dv,ff];omega)];exact bad (λe=>l2 e.1)
 rw[af (by simp only[dv,ff];omega)];obtain⟨a1,y,S,C',k',_⟩:=elem L TS (i:=1) ae;obtain⟨a7,a8,a6,I,c6,c8,K,v⟩:=Bn.gX.kn k';have j:aY m ((a1.add (Int.toNat 1*4)).add 3)=some (.L y.q y.ll y.cl):=C'.2.2.2.1;have r1:=jj (ts:=t.l) (i:=1) ae;refine⟨_,_,_,ak s,ae,bW.2 ⟨a1,S,_,_,_,j,?_⟩⟩;rw[I];by_cases l4:(at_ t.l 1).l.length=4
 case neg=>rw[ag (by simp only[dv,ff];omega)];exact bad (λe=>l4 e.2.1)
 rw[af (by simp only[dv,ff];omega)];obtain⟨T,k⟩: ∃T,at_ t.l 1=T:=⟨_,rfl⟩;rw[k]at k' r1 a7 a8 a6 I v l4;obtain⟨p0,w0,v',J',U',_⟩:=elem K v (i:=0) ae;obtain⟨c3,c4,c2,a4,c5,c7,L0,a9⟩:=Bn.gX.kn U';have c0:aY m ((p0.add (Int.toNat 0*4)).add 3)=some (.L w0.q w0.ll w0.cl):=J'.2.2.2.1;refine⟨_,_,_,ak s,ae,bW.2 ⟨a1,S,_,_,_,j,ae,bW.2 ⟨p0,v',_,_,_,c0,?_⟩⟩⟩;rw[a4];by_cases l3:(at_ T.l 0).l.length=3
 case neg=>rw[show(((((at_ T.l 0).l.length:Nat):Int)) !=3)=true by simp only[dv,ff];omega];exact bad (λe=>l3 (by rw[<-k];exact e.2.2))
 rw[show(((((at_ T.l 0).l.length:Nat):Int)) !=3)=false by simp only[gA];omega];have sh:B0 t:=⟨l2,by rw[k];exact l4,by rw[k];exact l3⟩;rw[ag sh]at d;clear bad;subst A;dsimp only;rw[af (show¬false=true by decide)];obtain⟨p3,w3,w',K',V',_⟩:=elem K v (i:=3) ae;have r3:=jj (ts:=T.l) (i:=3) ae;have b9:=lF (t:=T);have M':y.ll=T.l.length:=I;refine⟨_,_,_,ak s,ae,bW.2 ⟨a1,S,_,_,_,j,ae,bW.2 ⟨p3,w',aa.lX (x:=w3.s) K' (Bn.Hf U (b'.tt (f.tt o)) (mx.on (f.tt o)) V' ae (λid hid h7 f7=>ah.ex id.s ⟨_,rfl,ah.fY (x:=id.s) λb2 i p' h' f9=> ?_⟩) (λhid h7 f7=>ah.ex jq.zero.s ⟨_,rfl,ah.fY (x:=jq.zero.s) λb2 i p' h' f9=> ?_⟩))⟩⟩⟩
 case refine_2=>
  rw[gk];rw[k,hid]at d;exact u i (o.tt (f7.tt f9)) d
 rw[dB];rw[k,hid]at d;dsimp only at d;have J:=f7.tt f9;have F9:=o.tt J;have a5:=Bn.uL hid;have M:=K.frame J (λ_ _=>_root_.id);have Q:=v.on J;obtain⟨w,v0,X,G',R',_⟩:=elem M Q (i:=0) ae;obtain⟨d1,v1,q',H',S',_⟩:=elem M Q (i:=1) ae;obtain⟨d2,v2,r',I',T',_⟩:=elem M Q (i:=2) ae;obtain⟨_,_,_,c1,_,zs,O,P⟩:=Bn.gX.kn R';obtain⟨_,a2,_⟩:=Bn.gX.kn S';obtain⟨_,a3,_⟩:=Bn.gX.kn T';obtain⟨g0,u0,s',D',O',_⟩:=elem O P (i:=0) ae;obtain⟨g1,u1,t',E',P',_⟩:=elem O P (i:=1) ae;obtain⟨g2,u2,u',F',Q',_⟩:=elem O P (i:=2) ae;obtain⟨_,X',_⟩:=Bn.gX.kn O';obtain⟨_,Z',_⟩:=Bn.gX.kn P';obtain⟨_,a0,_⟩:=Bn.gX.kn Q';have j:aY i ((w.add (Int.toNat 0*4)).add 3)=some (.L v0.q v0.ll v0.cl):=G'.2.2.2.1;have n0:aY i ((g0.add (Int.toNat 0*4)).add 1)=some (.U (u0.n:Int)):=D'.2.1;have n1:aY i ((g1.add (Int.toNat 1*4)).add 1)=some (.U (u1.n:Int)):=E'.2.1;have n2:aY i ((g2.add (Int.toNat 2*4)).add 1)=some (.U (u2.n:Int)):=F'.2.1;have m1:aY i ((d1.add (Int.toNat 1*4)).add 1)=some (.U (v1.n:Int)):=H'.2.1;have m2:aY i ((d2.add (Int.toNat 2*4)).add 1)=some (.U (v2.n:Int)):=I'.2.1;rw[X']at n0;rw[Z']at n1;rw[a0]at n2;rw[a2]at m1;rw[a3]at m2;have ib: ∀n:Nat,((n:Int)==1)=(n==1):=λn=>by
  by_cases e:n=1
  .rw[e];rfl
  .rw[dA.2 e,dA.2 ae]
 have M':y.ll=T.l.length:=I;refine⟨ae,bW.2 ⟨w,X,_,_,_,j,ae,bW.2 ⟨g0,s',_,n0,ae,bW.2 ⟨w,X,_,_,_,j,ae,bW.2 ⟨g1,t',_,n1,ae,bW.2 ⟨w,X,_,_,_,j,ae,bW.2 ⟨g2,u',_,n2,ae,bW.2 ⟨d1,q',_,m1,ae,bW.2 ⟨d2,r',_,m2,ah.fN (x:=id.s) h' ?_⟩⟩⟩⟩⟩⟩⟩⟩⟩;refine aO.da (x:=.z) λb3 z' b4 B' g'=>⟨g'.kp,?_⟩
 rw[ib,ib,ib];subst k;have wr:0<=(La t id).of.e.gy:=a5;refine show aO.dw z' (AA b3 0) (La t id).s _ from ?_;generalize La t id=r at d wr;refine aO.hU (x:=r.s) B' λA' e' y' _=>aO.fN (x:=r.s) e' ?_
 have m':=F9.tt g';have z9:=F9.1;have l:Fr No h1 A':=m'.fresh y' (λl' e=>ae);refine Bn.K6 r wr U (b'.tt (f.tt l)) (λn' hw lw a' b8 b0 L' b6 F=>⟨_,_,_,_,rfl,aH.of λJ1 E=> ?_⟩) (λhw a' F=>⟨_,_,_,_,rfl,aH.of λJ1 E=> ?_⟩)
 .rw[dB];refine Cb.kJ L'.iy (j'.frame (f.tt (l.tt F)) (λ_ _=>_root_.id)) rfl rfl ⟨_,rfl,?_⟩;rw[hw]at d;by_cases e:n'=B
  .rw[aw e];subst E;dsimp only;rw[dB];refine aO.fN (x:=r.s) (F.get e' _root_.id) (FI ((l.tt F).get hb _root_.id) λg x'=> ?_);exact hk g _ 0 ⟨λ_=>by rw[d,aw (by rw[e])],λ_=>rfl⟩ ((f.tt (l.tt F)).fresh x' (λl' e=>ae))
  .rw[aB e];subst E;dsimp only;rw[gk];exact u a' (l.tt F) (by rw[d,aB (λq=>e (aZ q))])
 .rw[gk];subst E;dsimp only;rw[ag rfl];exact u a' (l.tt F) (by rw[d,aB (by rw[hw];intro q;cases q)])
def B5(V:cM->Bool)(b:mr):Bool:= !Ask.FA (b.p.fl:Int) 2 && (jR V b).isSome && x4 V (rU b)
theorem wi(a':b.p.wf)(U:Cb.lO V a)(u:Fr No a h)(M:lM.Mx h)(B:jb h D b.bl q b.bl.length C x)(K:b.bl.length<=1000000)(A: ∀z∈b.bl,z.data.length<=1000)(J: ∀H (r:aO.S) (e:Int),(e=0↔B5 V b=true)->Fr No h H->R (.T #[r.agg,.I e]) H):Cl 149 #[(b.s q C).agg] h R:=by
 refine Ni.walk (av.da (x:=b.s q C) λb1 h1 c' l o=>aO.da (x:=.z) λn w d' y j=>⟨_,ak (j.get l id),?_⟩);have F:=o.tt j;have z1:=o.1;have E:B5 V b=B5 V b:=rfl;conv at E=>rhs;unfold B5
 have O: ∀g (e:Int),Fr No w g->B5 V b=false->e≠0->aO.dw g (AA n 0) .z λG=>aO.cN G (AA n 0) λr=>R (.T #[r.agg,.I e]) G:=λg e v Q hn=>
  FI (v.get y id) λG S=>J G _ e ⟨λq=>absurd q hn,λq=>by rw[Q]at q;cases q⟩ ((F.tt v).fresh S (λb' e=>ae))
 split
 .rename_i d;have d:Ask.FA (b.p.fl:Int) 2=true:=d;exact O w 4 (Fr.refl _ _) (by rw[E,d];rfl) dN
 .rename_i d;have d:Ask.FA (b.p.fl:Int) 2=false:=by
   cases Z:Ask.FA (b.p.fl:Int) 2 with
   |true=>exact absurd Z d
   |false=>rfl
  rw[d]at E;have I: ∀z∈b.bl,z.data.length<=80000:=λz m=>by have:=A z m;omega
  refine av.fN (x:=b.s q C) (j.get l id) (Bn.sO a' U (u.tt F) (M.on F) (B.on F) K I λT i=>⟨_,rfl,?_⟩);cases L:(jR V b).isSome with
  |false=>
   rw[gk];exact O T 3 i (by rw[E,L];rfl) dN
  |true=>
  rw[dB];rw[L]at E;refine av.fN (x:=b.s q C) ((j.tt i).get l id) (Bn.Bj (B.on (F.tt i)) K I λh6 p6 c6 P n6 s=>⟨_,_,_,rfl,?_⟩);have k:=F.tt (i.tt s);have lp:(rU b).length<=1300:=by
   unfold rU;split
   .exact bL _
   .rename_i z m;have:=A z (List.mem_of_getLast? m);omega
  refine Ki U (u.tt k) (M.on k) P.iy rfl P.le lp λh7 r e X t=>aO.ex r ⟨_,rfl,FI ((i.tt (s.tt t)).get y id) λg f=>J g r e ?_ ((k.tt t).fresh f (λb' e=>ae))⟩
  rw[E,X];rfl

end CI
end
section
namespace CI
open dM (SS Good)
open Go.Proofs.YtimiaphmdidfhaaGreatDoor.Ask (Ot bad Rq CS lR)
open Bn (mr lD jR)
open Go.fV (RD)
variable {V:cM→Bool} {σ:SS} {k:Nat} {b:mr} {data:cM} {x:oS}
def ua(V:cM->Bool)(σ:SS)(b:mr)(data:cM):Ot:=match gD.je σ.G b.p.dest with
 |none=>bad σ 4
 |some r=>if B5 V b=true then⟨{ σ with A:=fw.BE σ.A r.own data },0,0,if fw.DU σ.A r.own data=0 then 1 else 0, []⟩
  else if r.kH=2/\fw.Pr σ.A r.own=false then bad σ 19
  else if(lS V b σ.now).2≠0 then bad σ (lS V b σ.now).2
  else if(lS V b σ.now).1=0 then bad σ 18
  else⟨{ σ with C:=gm.kT σ.C b.p.dest data (min (σ.now+(lS V b σ.now).1) 1099511627776) },gm.jJ σ.C b.p.dest data (min (σ.now+(lS V b σ.now).1) 1099511627776),gm.BG σ.C b.p.dest data (min (σ.now+(lS V b σ.now).1) 1099511627776),0, []⟩
def FJ(o:Ot):Ot:=if o.e≠0 then { o with σ:= { o.σ with rf:=o.σ.rf+1 } } else o
def tQ(V:cM->Bool)(σ:SS)(data:cM):Ot:=match lD V data with
 | .error e=>FJ (bad σ e)
 | .ok b=>FJ (ua V σ b data)
structure Hq where
 σ:SS
 e:Int
 y:RD
def iw(V:cM->Bool)(σ:SS)(x:oS):Hq:=
 if x.kind=1 then⟨{ σ with A:=fw.wh σ.A x.token },fw.pD σ.A x.token,⟨0,0,fw.HG σ.A x.token,0,x.token, []⟩⟩
 else if x.kind=2 then⟨{ σ with A:=fw.MA σ.A x.token },fw.Td σ.A x.token,⟨0,0,fw.Ps σ.A x.token,0,x.token, []⟩⟩
 else if x.kind=3 then⟨{ σ with A:=fw.DS σ.A x.ses },fw.Pv σ.A x.ses,RD.zero⟩
 else if x.kind=4 then⟨(CS V σ x.ses x.jr).1,0,(CS V σ x.ses x.jr).2⟩
 else if x.kind=5 then⟨(tQ V σ x.data).σ,(tQ V σ x.data).e,⟨0,0,(tQ V σ x.data).num,(tQ V σ x.data).yA,0, []⟩⟩
 else if x.kind=6 then(match σ.B.items with| []=>⟨σ,4,RD.zero⟩|z::_=>⟨dM.Ea σ,0,⟨0,0,z.num,0,0,z.d⟩⟩)
 else if x.kind=8 then⟨{ σ with A:=fw.iY σ.A },0,RD.zero⟩
 else⟨σ,0,RD.zero⟩
def gF(V:cM->Bool)(σ:SS)(x:oS):Hq:=
 if mU V x=true then
  if dM.mO σ x.now=0 then(if(iw V (dM.oJ σ x.now) x).e=0 then⟨(iw V (dM.oJ σ x.now) x).σ,0,(iw V (dM.oJ σ x.now) x).y⟩
   else⟨(iw V (dM.oJ σ x.now) x).σ,0,lR 0 (iw V (dM.oJ σ x.now) x).e⟩)
  else⟨σ,dM.mO σ x.now,RD.zero⟩
 else⟨σ,3,RD.zero⟩
theorem Good.ma{A:List fw.fw}(G:dM.Good σ k)(a:fw.mH A):dM.Good { σ with A:=A } k:=⟨a,G.g,G.c,G.b,G.v,G.q,G.ok,G.n,G.e,G.t,G.r⟩
theorem Good.Ut(G:dM.Good σ k)(O:gm.Ord σ.C)(h:k<=30000)(H:0<=b.p.dest.gy):dM.Good (ua V σ b data).σ (k+1):=by
 have m:=dM.Good.more G;unfold ua;split
 .exact m
 .split
  .exact dM.Good.more (Good.ma G (G.a.note _ _))
  .split
   .exact m
   .split
    .exact m
    .split
     .exact m
     .exact dM.Good.VG G O h _ H _ _
theorem Good.ref{o:Ot}(G:dM.Good o.σ k):dM.Good (FJ o).σ (k+1):=by
 unfold FJ;split
 .have m:=dM.Good.more G;exact⟨m.a,m.g,m.c,m.b,m.v,m.q,m.ok,m.n,m.e,m.t,by have:=G.r;show o.σ.rf+1<=_;omega⟩
 .exact dM.Good.more G
theorem Good.arr(G:dM.Good σ k)(O:gm.Ord σ.C)(H:k<=30000)(a: ∀b,lD V data=.ok b->0<=b.p.dest.gy):dM.Good (tQ V σ data).σ (k+2):=by
 unfold tQ;split
 .exact Good.ref (dM.Good.more G)
 .rename_i b h;exact Good.ref (Good.Ut G O H (a b h))
theorem Good.Ts(G:dM.Good σ k)(O:gm.Ord σ.C)(h:k<=30000)(a: ∀b,lD V x.data=.ok b->0<=b.p.dest.gy)(H:0<=x.jr.ep.gy):dM.Good (iw V σ x).σ (k+2):=by
 unfold iw;split
 .exact dM.Good.more (dM.Good.wh G _)
 split
 .exact dM.Good.more (dM.Good.more (Good.ma G (G.a.res _)))
 split
 .exact dM.Good.more (dM.Good.more (Good.ma G (G.a.down _)))
 split
 .exact Ask.Good.CS G O h H
 split
 .exact Good.arr G O h a
 split
 .split
  .exact dM.Good.more (dM.Good.more G)
  .exact dM.Good.more (dM.Good.take G)
 split
 .exact dM.Good.more (dM.Good.more (Good.ma G G.a.Ri))
 .exact dM.Good.more (dM.Good.more G)

end CI
end
section
namespace Ask
open jA (Ev dc)
open dM (SS Good Pt pG Mk)
open Bn (jq ij iX A5 ES mr Prim mT jb BB jR lD rU)
variable {V:cM→Bool} {h h' h0 g:aj} {R:fD} {s k bo id c:Nat} {X X':Ft} {I:pG} {σ:SS} {p:ck} {ses:Int} {x:Rq} {D:Nat→Prop}
theorem bA.box{b:Nat}(S:bA X h X' h')(f:Fr (λy=>y=b) h' g)(H:h.size<=b):bA X h X' g:=⟨S.fr.trans f (λ_ _ a=>a) (λc d e=>ae),S.iz,S.jx,S.mQ⟩
def Qd(σ:SS)(X:Ft)(I:pG)(s:Nat)(ses:Int)(d:Nat)(x:Ev)(g:aj)(S:aQ.S)(e:Int)(h':aj):Prop:=
 ∃X' a,Pt h' s X' I a/\bA X g X' h'/\((¬gm.uW ses d/\e=1/\a=σ)\/(gm.uW ses d/\gm.mI σ.C.L x=none/\e=4/\a=σ)\/
  (gm.uW ses d/\∃z,gm.mI σ.C.L x=some z/\e=0/\a= { σ with C:=gm.su σ.C z ses d } /\∃p c,S.f0=(z.num:Int)/\S.Iy=p/\S.V5=z.d.length/\S.Iz=c/\Row h' p (bc z.d)/\z.d.length<=c/\∀y,aN p y->g.size<=y/\¬X'.M y))
theorem B9(H:Pt g s X I σ)(G:dM.Good σ k)(O:k<=30000)(x:Ev)(d:Nat){K:aQ.S->Int->aj->Prop}(j: ∀S e h',Qd σ X I s ses d x g S e h'->K S e h'):
  Cl 196 #[pt I.c,x.s.agg,.I ses,.U (d:Int)] g λv h'=>aQ.EX λS=> ∃e,v=.T #[S.agg,.I e]/\K S e h':=by
 obtain⟨Z,m,T,Q,go⟩:=H.use 2;have J:=G.small H.ord ae;refine gm.MM m J G.c.ok.bd x ses d rfl (λa b f=> ?_) (λa A b f=> ?_) (λa z m b t P C o s1 F u n=> ?_)
 .exact aQ.ex .z ⟨_,rfl,j _ _ _ ⟨X,σ,H.on f,bA.hH f,.inl ⟨a,rfl,rfl⟩⟩⟩
 .exact aQ.ex .z ⟨_,rfl,j _ _ _ ⟨X,σ,H.on f,bA.hH f,.inr (.inl ⟨a,A,rfl,rfl⟩)⟩⟩
 .obtain⟨r,q,L,M,E⟩:=go b t { σ with C:=gm.su σ.C z ses d } o s1 (λi w=>dM.xO _ w);exact aQ.ex ⟨(z.num:Int),z.e.km,z.e.node,z.e.gy,z.e.host,z.e.jN,P,z.d.length,C,(z.fa:Int),ses,(d:Int)⟩ ⟨_,rfl,j _ _ _ ⟨r,_,q,L,.inr (.inr ⟨a,z,m,rfl,rfl,P,C,rfl,rfl,rfl,rfl,F,u,λy l=>⟨(n y l).1,λB=>(n y l).2 (E y (n y l).1 (.inl B))⟩⟩)⟩⟩
theorem RO (E : En V h0 h s X I σ k) (ht : 0 ≤ x.jm ∧ x.jm ≤ 1000000) (hb : ar.fR h bo (y0 id)) (nb : ¬ (X.M bo ∨ X.D bo))
    (hk : ∀ h' X', Pt h' s X' I (Ec V σ ses x).σ → gR X h bo id (Ec V σ ses x) X' h' → R (.int .i64 (Ec V σ ses x).e) h') :
    Cl 137 #[(x.as p c s ses).agg, .pointer (some ⟨bo, 0, none⟩)] h R := by
  refine BY.walk (cz.da (x := x.as p c s ses) λb h1 eb US f1 => cz.fN (x := x.as p c s ses) US (FH (E.H.on f1) λh2 f2 => ⟨_, rfl, ?_⟩))
  have F2 := f1.tt f2
  have E2 := E.on F2
  have Qe := f2.get US _root_.id
  have nM : ¬ X.M bo := λe => nb (.inl e)
  have zo := aC hb
  have z1 := f1.1
  have z2 := f2.1
  unfold Ec at hk
  by_cases ho : gD.jZ σ.G x.ep ses = 0
  case neg =>
    rw [if_neg ho] at hk
    rw [if_pos (by simpa using ho)]
    exact hk h2 X E2.H (gR.bad hb nM (bA.hH F2))
  rw [if_pos ho] at hk
  rw [if_neg (by simpa using ho)]
  refine aH.of λJ hJ => ?_
  have fin : ∀ (g h' g' : aj) (S : aQ.S) (e : Int) (bx : Nat), Qd σ X I s ses (Sg σ x) x.ep g S e h' → Fr No h2 g → h.size ≤ bx → (bx < g.size ∨ h'.size ≤ bx) → aQ.fR g' bx S → Fr (λy => y = bx) h' g' → J (some ⟨bx, 0, none⟩) e g' := by
    intro g h' g' S e bx L fg WK Xb hS f
    subst hJ
    dsimp only
    obtain ⟨X', Ix, H', VQ, c⟩ := L
    have zg := fg.1
    have Cu := bA.no (F2.tt fg) VQ
    have st := bA.box Cu f WK
    have WL : ∀ y, X'.M y ∨ X'.D y → y ≠ bx := λy hy e => by
      have := H'.lt y hy
      rcases hy with a | a
      · rcases VQ.iz y a with a | a
        · have := E.H.lt y (.inl a); omega
        · omega
      · rcases VQ.jx y a with a | a
        · have := E.H.lt y (.inr a); omega
        · omega
    have Hg := H'.frame f (λy hy e => WL y hy e)
    rcases c with ⟨hm, rfl, rfl⟩ | ⟨hm, hn, rfl, rfl⟩ | ⟨hm, z, hz, rfl, rfl, p1, c1, e0, e1, e2, e3, r1, cap, n1⟩
    · rw [if_neg hm] at hk
      rw [if_pos (by decide)]
      exact hk g' X' Hg (gR.bad hb nM st)
    · rw [if_pos hm, hn] at hk
      rw [if_pos (by decide)]
      exact hk g' X' Hg (gR.bad hb nM st)
    rw [if_pos hm, hz] at hk
    dsimp only at hk
    rw [if_neg (by decide)]
    have rg : Row g' p1 (bc z.d) := by
      by_cases hd : z.d = []
      · rw [hd]; exact Row.nil
      · refine r1.frame f (λa ea hx => ?_)
        have h3 := n1 a.block ⟨a, ea, rfl⟩
        have h4 := iZ r1 (by simpa [bc] using hd) ⟨a, ea, rfl⟩
        have hx : a.block = bx := hx
        omega
    have ug := (E.u.step st).fr
    have ac : ∀ {g2 : aj} {i : Nat} {v : Value}, Fr No g' g2 → S.arr[i]? = some v → aY g2 ⟨bx, i, none⟩ = some v := λf2 hv => cB (f2.get hS _root_.id) hv
    have Xc := aC hS
    have WM := st.fr.get hb nM
    have bne : bo ≠ bx := by omega
    have rest : ∀ (g5 : aj) (b' : mr) (q : Option Addr) (cl : Nat) (xs : List BB) (D : Nat → Prop), jb g5 D b'.bl q b'.bl.length cl xs → b'.bl.length ≤ 1000000 → (∀ y ∈ b'.bl, y.data.length ≤ 80000) → (rU b').length = MX V z.d → Fr No g' g5 →
      bh g5 (.cells av.S.z.arr 76) λWi WN =>
      av.dw WN ⟨Wi, 0, none⟩ (b'.s q cl) λUu =>
      aM (some (⟨bx, 0, none⟩ : Addr)) λWj =>
      ∃ t52, aY Uu Wj = some (.int .i64 t52) ∧
      av.cN Uu ⟨Wi, 0, none⟩ λt53 =>
      aM (some (⟨bx, 0, none⟩ : Addr)) λUW =>
      ∃ Sm Sn Sp, aY Uu (UW.add 6) = some (.slice Sm Sn Sp) ∧
      Cl 198 #[t53.agg] Uu λWO VR =>
      ∃ Uv Sq Uw, WO = .slice Uv Sq Uw ∧
      Kp Uu VR [(some (UW.add 6)), (some Wj)] ∧
      aT VR ⟨bo, 2, none⟩ (.int .i64 t52) λVS =>
      Kp VR VS [(some (UW.add 6))] ∧
      aT VS ⟨bo, 3, none⟩ (.int .i64 ((Sq : Nat) : Int)) λTK =>
      Kp VS TK [(some (UW.add 6))] ∧
      aT TK ⟨bo, 5, none⟩ (.slice Sm Sn Sp) λRz =>
      R (.int .i64 0) Rz := by
      intro g5 b' q cl xs D B hl hd hp f5
      refine av.fY (x := b'.s q cl) λb6 g6 Xd WQ f6 => ax.2 ⟨_, ac (i := 0) (f5.tt f6) rfl, av.fN (x := b'.s q cl) WQ (ax.2 ⟨_, _, _, ac (i := 6) (f5.tt f6) rfl, Bn.Bj (B.on f6) hl hd λg7 p7 c7 o7 n7 f7 => ⟨_, _, _, rfl, f7.kp, ?_⟩⟩)⟩
      have F7 := f5.tt (f6.tt f7)
      rw [hp, e0, e1, e2, e3]
      refine iP (z := ⟨id, 0, (z.num : Int), 0, 0, none, 0, 0⟩) (F7.get WM _root_.id) (by decide) rfl λg8 d8 f8 => ⟨OR f8 bne.symm (by simp; rfl), iP (z := ⟨id, 0, (z.num : Int), (MX V z.d : Int), 0, none, 0, 0⟩) d8 (by decide) rfl λg9 d9 f9 => ⟨OR f9 bne.symm (by simp; rfl), iP (z := ⟨id, 0, (z.num : Int), (MX V z.d : Int), 0, p1, z.d.length, c1⟩) d9 (by decide) rfl λg10 d10 f10 => ?_⟩⟩
      have fo := f8.tt (f9.tt f10)
      have VT : ∀ y, X'.M y ∨ X'.D y → y ≠ bo := λy hy e => by
        rcases hy with a | a
        · rcases Cu.iz y a with a | a
          · exact nM (e ▸ a)
          · omega
        · rcases Cu.jx y a with a | a
          · exact nb (.inr (e ▸ a))
          · omega
      refine hk g10 X' ((Hg.on F7).frame fo (λy hy e => VT y hy e)) (gR.of (st.on F7) fo ⟨_, d10, λ_ => ⟨p1, c1, rfl, ?_, λ_ y hy => ⟨.inl (by have := (n1 y hy).1; omega), (n1 y hy).2⟩⟩⟩)
      exact (rg.frame F7 (λ_ _ => _root_.id)).frame fo (λa ea hx => by have h3 := (n1 a.block ⟨a, ea, rfl⟩).1; have hx : a.block = bo := hx; omega)
    refine ax.2 ⟨_, _, _, ac (i := 6) (Fr.refl _ _) rfl, ?_⟩
    rw [e1, e2, e3]
    refine Bn.zT E.U ug (E.mx.on ug) rg rfl cap (λb' WR w' WS Xe h5 q cl xs B f5 => av.ex (b'.s q cl) ⟨_, rfl, ?_⟩) (λe he hn h5 f5 => av.ex .z ⟨_, rfl, ?_⟩)
    · exact rest h5 b' q cl xs _ B (by omega) (λy hy => by have := WS y hy; omega) (by unfold MX; rw [WR]) f5
    · exact rest h5 ⟨.zero, []⟩ none 0 [] (λ_ => True) ⟨rfl, rfl, Row.nil, λe => absurd rfl e, Nat.le_refl _, λy hy => by cases hy⟩ (by show 0 ≤ _; omega) (λy hy => by cases hy) (by unfold MX; rw [he]; rfl) f5
  have VU : ¬ X.M b := E.nM (by omega)
  have eT : IntKind.wrap .u64 x.jm = ((x.jm.toNat : Nat) : Int) := by rw [wrap_u64 (by omega) (by omega)]; omega
  have un : ∀ {g : aj} {K : Int → aj → Prop}, K (Sg σ x : Int) g → Cl 197 #[.int .u64 (σ.now : Int), .int .u64 (IntKind.wrap .u64 x.jm)] g λv g' => ∃ t, v = .int .u64 t ∧ K t g' := λhK => by
    rw [eT]; exact HY σ.now x.jm.toNat E.G.n (by omega) ⟨_, rfl, hK⟩
  refine ⟨_, cB Qe rfl, ax.2 ⟨_, cB E2.H.cW rfl, iX x.ep Qe rfl rfl rfl rfl rfl ⟨_, cB Qe rfl, _, cB Qe rfl, ax.2 ⟨_, cB E2.H.cW rfl, _, cB Qe rfl, ⟨?_, ?_, trivial⟩⟩⟩⟩⟩
  · refine un ⟨(Fr.refl (λ_ => False) _).kp, ?_, ?_, trivial⟩
    · exact B9 E2.H E.G E.hk x.ep (Sg σ x) λS e VP L => ⟨(by obtain ⟨_, _, _, st, _⟩ := _root_.id L; exact FG st.fr VU (by simp)), aQ.da λb2 Xf Xg WT f13 => ⟨f13.kp, aQ.hU (x := S) WT λWh d14 f14 _ => fin h2 VP Wh S e b2 L (Fr.refl _ _) (by obtain ⟨_, _, _, st, _⟩ := _root_.id L; have := st.fr.1; omega) (.inr (by omega)) d14 (Fr.no f13 f14)⟩⟩
    · refine aQ.da λb3 Tq WU Ux f15 => ⟨f15.kp, B9 (E2.H.on f15) E.G E.hk x.ep (Sg σ x) λS e VV L => ?_⟩
      have WV := f15.1
      have VW := aC Ux
      exact ⟨(by obtain ⟨_, _, _, st, _⟩ := _root_.id L; exact FG st.fr VU (by simp)), aQ.hU (x := S) (by obtain ⟨_, _, _, st, _⟩ := _root_.id L; exact st.fr.get Ux (E.nM (by omega))) λVX d17 f17 _ => fin Tq VV VX S e b3 L f15 (by omega) (.inl VW) d17 f17⟩
  · refine aQ.da λb3 Tq WU Ux f15 => ⟨f15.kp, un ⟨(Fr.refl (λ_ => False) _).kp, B9 (E2.H.on f15) E.G E.hk x.ep (Sg σ x) λS e VV L => ?_⟩⟩
    have WV := f15.1
    have VW := aC Ux
    exact ⟨(by obtain ⟨_, _, _, st, _⟩ := _root_.id L; exact FG st.fr VU (by simp)), aQ.hU (x := S) (by obtain ⟨_, _, _, st, _⟩ := _root_.id L; exact st.fr.get Ux (E.nM (by omega))) λVX d17 f17 _ => fin Tq VV VX S e b3 L f15 (by omega) (.inl VW) d17 f17⟩
theorem BF(E:En V h0 h s X I σ k)(n:ar.fR h bo (y0 id))(O: ¬(X.M bo\/X.D bo))(f: ∀h' X',Pt h' s X' I (xU σ ses x.on).σ->gR X h bo id (xU σ ses x.on) X' h'->R (.I (xU σ ses x.on).e) h'):
  Cl 140 #[(x.as p c s ses).agg,.P bo 0] h R:=by
 refine zE.walk (cz.da (x:=x.as p c s ses) λb h1 eb d G=> ?_);have v:=E.on G;have t: ¬X.M bo:=λe=>O (.inl e)
 have zo:=aC n;have u: ¬X.M b:=E.nM ae;obtain⟨Z,r,zm,zd,go⟩:=v.H.use 0;unfold xU at f;refine⟨_,ak d,ax.2 ⟨_,ak v.H.cW,_,ak d,_,ak d,fw.BF r E.G.a λJ Z2 T2 s2=> ?_⟩⟩;obtain⟨A,j,l,i',j'⟩:=go J Z2 { σ with A:=fw.ku σ.A ses x.on } T2 s2 (λe' o=>dM.ss _ o);refine⟨_,rfl,FG l.fr u bV,aH.of λg' L=> ?_⟩;have a':=bA.no G l;by_cases H:fw.xF σ.A ses=0
 case neg=>
  rw[af H]at f;rw[af (cI H)];subst L;have eA:fw.ku σ.A ses x.on=σ.A:=by
   unfold fw.xF at H;unfold fw.ku;cases hs:fw.lY σ.A ses with
   |none=>rfl
   |some z=>rw[hs]at H;exact absurd rfl H
  rw[eA]at j;exact f J A j (gR.bad n t a')
 rw[ag H]at f;rw[ag (by rw[H];rfl)];have M:=l.fr.get d u;have f': ¬A.M b:=λq=>by
  rcases l.iz b q with a|a
  .exact u a
  .have:=aC d;omega
 obtain⟨Z3,d',m',l',b'⟩:=j.use 0;refine⟨_,ak M,ax.2 ⟨_,ak j.cW,_,ak M,fw.vT d' (E.G.a.watch ses x.on) λh4 Z4 P C T4 s4 T=> ?_⟩⟩;obtain⟨m,w,U,B,k'⟩:=b' h4 Z4 { σ with A:=fw.DX (fw.ku σ.A ses x.on) ses } T4 s4 (λe' o=>dM.ss (σ:= { σ with A:=fw.ku σ.A ses x.on }) _ o);have S:=a'.trans U;refine⟨_,_,_,_,_,rfl,FG U.fr f' bV,?_⟩;have c':=S.fr.get n t;refine iP (z:=⟨id,0,0,0,0,P,(fw.DW (fw.ku σ.A ses x.on) ses).length,C⟩) c' dN rfl λh5 d5 f5=>iP (z:=⟨id,0,0,fw.KV (fw.ku σ.A ses x.on) ses,0,P,(fw.DW (fw.ku σ.A ses x.on) ses).length,C⟩) d5 dN rfl λh6 d6 f6=> ?_
 subst L;have F:=f5.tt f6;have Q: ∀y,m.M y\/m.D y->y≠bo:=λy i e=>by
  rcases i with a|a
  .rcases S.iz y a with a|a
   .exact t (e▸a)
   .omega
  .rcases S.jx y a with a|a
   .exact O (.inr (e▸a))
   .omega
 refine f h6 m (w.frame F (λy i e=>Q y i e)) (gR.of S F ⟨_,d6,λ_=>⟨P,C,rfl,?_,λhd z r=> ?_⟩⟩)
 .have:=BV.ok.frame T F (λy i e=>Q y (.inr (B y i)) e);exact this.row
 .have K:=B z (T.own hd z r);exact⟨(S.jx z K).symm,λq=>w.vA z q K⟩

end Ask
end
section
namespace Ask
open jA (Ev dc)
open dM (SS Good Pt pG Mk)
open Bn (jq ij iX A5 ES mr Prim mT zP jb BB jR lD rU mE)
variable {V:cM→Bool} {h H f g:aj} {R:fD} {s k c:Nat} {X b:Ft} {I:pG} {a:SS} {p:ck} {ses:Int} {x:Rq} {D:Nat→Prop}
variable {K:av.S->Int->aj->Prop} {d:cM} {q:ck} {C:Nat}
def NX(a:SS)(i j:jq)(e:Int):Prop:=(e=0/\∃n,qJ a=some n/\i=⟨a.e,n.1,n.2⟩/\j=⟨a.e,n.1,n.2⟩)\/(e=5/\qJ a=none)
theorem Ig(e:Pt g s X I a){K:ah.S->aj->Prop}(i: ∀G,Fr No g G->K (⟨a.e,a.tm,a.sq⟩:jq).s G):Cl 29 #[pt I.k] g λv G=>ah.EX λt=>v=t.agg/\K t G:=
 dM.FD (Pt.mk' e) λG F=>ah.ex (⟨a.e,a.tm,a.sq⟩:jq).s ⟨rfl,i G F⟩
theorem sB(r:Pt g s X I a)(G:dM.Good a k){K:ah.S->ah.S->Int->aj->Prop}(l: ∀i m o e,NX a m o e->Fr No g i->K m.s o.s e i):
  Cl 191 #[pt s,a.e.s.agg] g λv i=>ah.EX λt=>ah.EX λT=> ∃e,v=.T #[t.agg,T.agg,.I e]/\K t T e i:=
 vV r G a.e (λn j i F=>ah.ex (⟨a.e,n.1,n.2⟩:jq).s (ah.ex (⟨a.e,n.1,n.2⟩:jq).s ⟨_,rfl,l i _ _ 0 (.inl ⟨rfl,n,j,rfl,rfl⟩) F⟩)) (λj i F=>ah.ex (⟨a.e,0,0⟩:jq).s (ah.ex jq.zero.s ⟨_,rfl,l i _ _ 5 (.inr ⟨rfl,j⟩) F⟩))
theorem Uy(E:En V f g s X I a k)(P:Prim)(n:Nat×Nat)(w:P.wf)(m: ∀G (i:mr) q j l e,((e=0/\mE V ⟨false,true,false,0,a.now,P.id⟩ P.rep ⟨a.e,n.1,n.2⟩ P.fW=some i/\i.p.wf/\i.bl.length=1/\(∀y∈i.bl,y.data.length<=80000)/\jb G (λy=>g.size<=y) i.bl q i.bl.length j l)\/(e=3/\mE V ⟨false,true,false,0,a.now,P.id⟩ P.rep ⟨a.e,n.1,n.2⟩ P.fW=none))->Fr No g G->K (i.s q j) e G):
  Cl 265 #[(⟨false,true,false,0,a.now,P.id⟩:zP).s.agg,P.rep.s.agg,(⟨a.e,n.1,n.2⟩:jq).s.agg,.U (P.fW:Int)] g λv G=>av.EX λt=> ∃e,v=.T #[t.agg,.I e]/\K t e G:=
 Bn.Ng ⟨false,true,false,0,a.now,P.id⟩ P.rep ⟨a.e,n.1,n.2⟩ P.fW w.2.2 w.2.1 E.G.e.2.2 E.U E.u.fr E.Rx
  (λi o u J r G q j l B F=>av.ex (i.s q j) ⟨_,rfl,m G i q j l 0 (.inl ⟨rfl,o,J,u,(λy A=>bR (r y A)),B⟩) F⟩)
  (λz G F=>av.ex (mr.s ⟨.zero, []⟩ none 0) ⟨_,rfl,m G ⟨.zero, []⟩ none 0 [] 3 (.inr ⟨rfl,z⟩) F⟩)
theorem Uz(E:En V f g s X I a k)(r:Row g q (bc d))(cap:d.length<=C)(m: ∀G (i:mr) Q j e,i.p.wf->(yG i.p=false->nZ V a ses d=(a,0))->(yG i.p=true->lD V d=.ok i)->Fr No g G->K (i.s Q j) e G):
  Cl 93 #[.L q d.length C] g λv G=>av.EX λt=> ∃e,v=.T #[t.agg,.I e]/\K t e G:=
 Bn.zT E.U E.u.fr E.Rx r rfl cap
  (λi n w u y G Q j A B F=>av.ex (i.s Q j) ⟨_,rfl,m G i Q j 0 w (λl=>by unfold nZ;rw[n];dsimp only;rw[af (by rw[l];decide)]) (λ_=>n) F⟩)
  (λe o z G F=>av.ex (mr.s ⟨.zero, []⟩ none 0) ⟨_,rfl,m G ⟨.zero, []⟩ none 0 e ⟨eu 0,eu 0,eu 0⟩ (λ_=>by unfold nZ;rw[o]) (λl=>absurd l (by rw[show yG Prim.zero=false by kernel_rfl];decide)) F⟩)
theorem RP{k':Nat}(E:En V f h s X I a k)(u':Row h q (bc d))(hl:k'=d.length)(cap:d.length<=C)(Z: ∀H b,Pt H s b I (nZ V a ses d).1->bA X h b H->R (.I (nZ V a ses d).2) H):
  Cl 203 #[(x.as p c s ses).agg,.L q k' C] h R:=by
 subst hl;refine BZ.walk (cz.da (x:=x.as p c s ses) λb' h1 eb s' f1=> ?_);refine Uz (ses:=ses) (E.on f1) (u'.frame f1 bX) cap λh2 J q' L e0 l' w' x' f2=>av.fY (x:=J.s q' L) λb3 h4 y' t' f4=>Bn.UR t' (aG.fY (x:=J.p.s) λb4 h6 z' d' f6=>aH.of λm' hJ=> ?_)
 have F6:=f1.tt (f2.tt (f4.tt f6));have F:=E.on F6;have c':=(f2.tt (f4.tt f6)).get s' id;have dn: ∀g,Fr No h g->nZ V a ses d=(a,0)->R (.I 0) g:=λg T e=>by rw[e]at Z;exact Z g X (E.H.on T) (bA.hH T)
 have key: ∀h',h'= !yG J.p->m' h' h6:=by
  intro h' hv;subst hv;subst hJ;dsimp only;cases ht:yG J.p with
  |false=>rw[gk];exact dn h6 F6 (w' ht)
  |true=>
  rw[dB];have f':=x' ht;refine aH.of λJ1 p'=> ?_
  have o': ∀(g:aj)(P Q:Nat)(o r:jq)(e:Int),NX a o r e->ah.fR g P o.s->ah.fR g Q r.s->Fr No h6 g->J1 (Sa P 0) (Sa Q 0) e g:=by
   intro g P Q o r e v hi hw T;subst p';dsimp only;rcases v with⟨rfl,n,hn,rfl,rfl⟩|⟨rfl,hn⟩
   case inr=>
    rw[gk];exact dn g (F6.tt T) (by unfold nZ;rw[f'];dsimp only;rw[ag ht,hn])
   rw[dB];have Eg:=F.on T;have j':=T.get c' id;have e':=T.get d' id;refine aH.of λJ2 r'=> ?_
   have i': ∀(g5:aj)(m:mr)(q:ck)(L:Nat)(xs:List BB)(D:Nat->Prop)(br:Nat)(e:Int),((e=0/\mE V ⟨false,true,false,0,a.now,J.p.id⟩ J.p.rep ⟨a.e,n.1,n.2⟩ J.p.fW=some m/\m.p.wf/\m.bl.length=1/\(∀y∈m.bl,y.data.length<=80000)/\jb g5 D m.bl q m.bl.length L xs)\/(e=3/\mE V ⟨false,true,false,0,a.now,J.p.id⟩ J.p.rep ⟨a.e,n.1,n.2⟩ J.p.fW=none))->
     av.fR g5 br (m.s q L)->Fr No g g5->J2 e (Sa br 0) g5:=by
    intro g5 m q L xs D br e sp hr f5;subst r';dsimp only;rcases sp with⟨rfl,hs,wb,hl,hd,B⟩|⟨rfl,hs⟩
    case inr=>
     rw[gk];exact dn g5 (F6.tt (T.tt f5)) (by unfold nZ;rw[f'];dsimp only;rw[ag ht,hn];dsimp only;rw[hs])
    rw[dB];refine cz.fN (x:=x.as p c s ses) (f5.get j' id) (ax.2 (av.fN (x:=m.s q L) hr (ax.2 (ah.fN (x:=(⟨a.e,n.1,n.2⟩:jq).s) (f5.get hw id) (K5 (b:=m) (x:=x) (p:=p) (c:=c) (ses:=ses) (Eg.on f5) wb B ae hd hn λh9 X9 H9 v'=>⟨_,_,_,rfl,?_⟩)))));have eQ:nZ V a ses d=((nY V a ses m n).σ,if(nY V a ses m n).e=0 then 1 else 0):=by unfold nZ;rw[f'];dsimp only;rw[ag ht,hn];dsimp only;rw[hs]
    rw[eQ]at Z;have Z:=Z h9 X9 H9 (bA.no (F6.tt (T.tt f5)) v');by_cases c0:(nY V a ses m n).e=0
    .rw[af (cI c0)];rw[ag c0]at Z;exact Z
    .rw[ag (cI c0)];rw[af c0]at Z;exact Z
   refine⟨_,ak j',ax.2 ⟨_,ak Eg.H.cW,A5 J.p.id e' rfl rfl rfl rfl rfl rfl rfl (iX J.p.rep e' rfl rfl rfl rfl rfl (ax.2 (ah.fN (x:=(⟨a.e,n.1,n.2⟩:jq).s) hi ⟨_,ak e',?_,?_,trivial⟩)))⟩⟩
   .refine Uy Eg J.p n l' λG m q L xs e sp u=>⟨u.kp,av.da λbr g3 er hr j=>⟨j.kp,av.hU (x:=m.s q L) hr λA d4 i _=> ?_⟩⟩
    have U4:Fr No G A:=j.fresh i (λy e=>ae);refine i' A m q L xs (λy=>g.size<=y) br e ?_ d4 (u.tt U4);rcases sp with⟨a1,a2,a3,a4,a5,a6⟩|a'
    .exact .inl ⟨a1,a2,a3,a4,a5,a6.on U4⟩
    .exact .inr a'
   .refine av.da λbr g3 er hr j=>⟨j.kp,Uy (Eg.on j) J.p n l' λG m q L xs e sp u=>⟨u.kp,av.hU (x:=m.s q L) (u.get hr id) λA d4 i _=> ?_⟩⟩
    have zr:=aC hr;have U4:Fr No g A:=(j.tt u).fresh i (λy e=>ae);refine i' A m q L xs (λy=>g3.size<=y) br e ?_ d4 U4;rcases sp with⟨a1,a2,a3,a4,a5,a6⟩|a'
    .exact .inl ⟨a1,a2,a3,a4,a5,a6.frame i (λy hy e=>ae)⟩
    .exact .inr a'
  have M: ∀(g:aj)(P Q:Nat)(y1 y2:ah.S)(o r:jq)(e:Int),NX a o r e->ah.fR g P y1->ah.fR g Q y2->P≠Q->h6.size<=P->h6.size<=Q->Fr No h6 g->
    ah.dw g (AA P 0) o.s λg1=>ah.dw g1 (AA Q 0) r.s λG=>J1 (Sa P 0) (Sa Q 0) e G:=by
   intro g P Q y1 y2 o r e v hi hw ne zi zw T;exact ah.hU (x:=o.s) hi λg1 d1 U _=>ah.hU (x:=r.s) (U.get hw ne.symm) λG d2 u _=>o' G P Q o r e v (u.get d1 ne) d2 ((T.fresh U (λy e=>ae)).fresh u (λy e=>ae))
  have O: ∀{g:aj}{b':Nat}{y:ah.S},ah.fR g b' y->b'<g.size:=λh=>aC h
  have l: ∀{g g':aj},Fr No g g'->g.size<=g'.size:=λn'=>n'.1
  refine⟨_,ak c',_,ak c',ax.2 ⟨_,ak F.H.cW,?_,?_,?_,trivial⟩⟩
  .refine Ig F.H λg1 U=>⟨U.kp,?_,?_,?_,trivial⟩
   .refine sB (F.H.on U) E.G λG o r e v u=>⟨u.kp,?_,?_,trivial⟩
    .exact ah.da λm g3 e5 t j=>⟨j.kp,ah.da λw A S z i=>⟨i.kp,M A m w _ _ o r e v (i.get t id) z (bR (O t)) (gG (l U) (l u)) (sU (l U) (l u) (l j)) (U.tt (u.tt (j.tt i)))⟩⟩
    .exact ah.da λm g3 e5 t j=>⟨j.kp,ah.da λw A S z i=>⟨i.kp,M A w m _ _ o r e v z (i.get t id) (bR (O t)) (sU (l U) (l u) (l j)) (gG (l U) (l u)) (U.tt (u.tt (j.tt i)))⟩⟩
   .refine ah.da λm g3 e5 t j=>⟨j.kp,?_,?_,trivial⟩
    .exact sB (F.H.on (U.tt j)) E.G λG o r e v u=>⟨u.kp,ah.da λw A S z i=>⟨i.kp,M A m w _ _ o r e v ((u.tt i).get t id) z (gG (O t) (l u)) (bR (l U)) (sU (l U) (l u) (l j)) (U.tt (j.tt (u.tt i)))⟩⟩
    .exact ah.da λw A S z i=>⟨i.kp,sB (F.H.on (U.tt (j.tt i))) E.G λG o r e v u=>⟨u.kp,M G m w _ _ o r e v ((i.tt u).get t id) (u.get z id) (bR (O t)) (bR (l U)) (gG (l U) (l j)) (U.tt (j.tt (i.tt u)))⟩⟩
   .refine ah.da λm g3 e5 t j=>⟨j.kp,?_,?_,trivial⟩
    .exact sB (F.H.on (U.tt j)) E.G λG o r e v u=>⟨u.kp,ah.da λw A S z i=>⟨i.kp,M A w m _ _ o r e v z ((u.tt i).get t id) (gG (O t) (l u)) (sU (l U) (l u) (l j)) (bR (l U)) (U.tt (j.tt (u.tt i)))⟩⟩
    .exact ah.da λw A S z i=>⟨i.kp,sB (F.H.on (U.tt (j.tt i))) E.G λG o r e v u=>⟨u.kp,M G w m _ _ o r e v (u.get z id) ((i.tt u).get t id) (bR (O t)) (gG (l U) (l j)) (bR (l U)) (U.tt (j.tt (i.tt u)))⟩⟩
  .refine ah.da λm g3 e5 t j=>⟨j.kp,?_,?_,trivial⟩
   .refine Ig (F.H.on j) λg1 U=>⟨U.kp,?_,?_,trivial⟩
    .exact sB (F.H.on (j.tt U)) E.G λG o r e v u=>⟨u.kp,ah.da λw A S z i=>⟨i.kp,M A m w _ _ o r e v ((U.tt (u.tt i)).get t id) z (sU (O t) (l U) (l u)) ae (sU (l U) (l u) (l j)) (j.tt (U.tt (u.tt i)))⟩⟩
    .exact ah.da λw A S z i=>⟨i.kp,sB (F.H.on (j.tt (U.tt i))) E.G λG o r e v u=>⟨u.kp,M G m w _ _ o r e v ((U.tt (i.tt u)).get t id) (u.get z id) (gG (O t) (l U)) ae (gG (l U) (l j)) (j.tt (U.tt (i.tt u)))⟩⟩
   .exact ah.da λw A S z i=>⟨i.kp,Ig (F.H.on (j.tt i)) λg1 U=>⟨U.kp,sB (F.H.on (j.tt (i.tt U))) E.G λG o r e v u=>⟨u.kp,M G m w _ _ o r e v ((i.tt (U.tt u)).get t id) ((U.tt u).get z id) (bR (O t)) ae (bR (l j)) (j.tt (i.tt (U.tt u)))⟩⟩⟩
  .refine ah.da λm g3 e5 t j=>⟨j.kp,?_,?_,trivial⟩
   .refine Ig (F.H.on j) λg1 U=>⟨U.kp,?_,?_,trivial⟩
    .exact sB (F.H.on (j.tt U)) E.G λG o r e v u=>⟨u.kp,ah.da λw A S z i=>⟨i.kp,M A w m _ _ o r e v z ((U.tt (u.tt i)).get t id) (sU (O t) (l U) (l u)) (sU (l U) (l u) (l j)) ae (j.tt (U.tt (u.tt i)))⟩⟩
    .exact ah.da λw A S z i=>⟨i.kp,sB (F.H.on (j.tt (U.tt i))) E.G λG o r e v u=>⟨u.kp,M G w m _ _ o r e v (u.get z id) ((U.tt (i.tt u)).get t id) (gG (O t) (l U)) (gG (l U) (l j)) ae (j.tt (U.tt (i.tt u)))⟩⟩
   .exact ah.da λw A S z i=>⟨i.kp,Ig (F.H.on (j.tt i)) λg1 U=>⟨U.kp,sB (F.H.on (j.tt (i.tt U))) E.G λG o r e v u=>⟨u.kp,M G w m _ _ o r e v ((U.tt u).get z id) ((i.tt (U.tt u)).get t id) (bR (O t)) (bR (l j)) ae (j.tt (i.tt (U.tt u)))⟩⟩⟩
 refine⟨_,ak d',?_⟩;split
 .rename_i c0;exact key true (by have:FA (J.p.fl:Int) 131072=true:=c0;unfold yG;rw[this];rfl)
 .rename_i c0;refine⟨_,ak d',key _ ?_⟩;have:FA (J.p.fl:Int) 131072=false:=by
   cases hh:FA (J.p.fl:Int) 131072 with
   |true=>exact absurd hh c0
   |false=>rfl
  unfold yG;rw[this];rfl

end Ask
end
section
namespace Ask
open jA (Ev dc)
open dM (SS Good Pt pG Mk)
open gm (CV Fx gQ)
variable {V:cM→Bool} {h H f g:aj} {R:fD} {s k b r c:Nat} {X d:Ft} {I:pG} {a:SS} {p:ck} {S:Int} {x:Rq} {D:Nat→Prop} {o:Ot}
variable {y:List CV}
theorem sc{B n m:Nat}{q:ck}(o:fz h q y.length m 10 (y.flatMap Fx))(M:n=y.length)(Z:y.length<=1000000)(C:cz.fR h B (x.as p c s S)) (L: ∀H,Fr No h H->R (.I (idxOf (λi:CV=>decide ((i.num:Int)=x.num)) y)) H):
  Cl 201 #[.L q n m,.func (.func 202) #[] #[.P B 0]] h R:=by
 refine jD.VF.walk (AF (λi:CV=>decide ((i.num:Int)=x.num)) (λt g K=>((0:Int)<=t/\t<(n:Int))/\aM q λA=>aQ.cN g (A.add (Int.toNat t*10)) λT=>
  Cl 202 #[T.agg,.P B 0] g λv G=> ∃t,v=.B t/\K t G) M ae (λj U i K w F z=> ?_) L)
 have lt:=(aE.1 w).1;have O:=o.frame F bX;obtain⟨pb,po,rfl⟩:=O.addr ae;have J:=O.fP gQ w;refine⟨ae,ax.2 (aQ.lX (x:=⟨(i.num:Int),i.e.km,i.e.node,i.e.gy,i.e.host,i.e.jN,i.v.p,i.v.b.length,i.v.c,(i.fa:Int),i.ses,(i.dl:Int)⟩) (by rw[aF];exact J) (zD.walk (aQ.da λP u Q E l=>⟨_,ak E,_,ak ((F.tt l).get C id),_,rfl,?_⟩)))⟩;have e:((i.num:Int)==x.num)=decide ((i.num:Int)=x.num):=by by_cases q:(i.num:Int)=x.num<;>simp[q]
 show K ((i.num:Int)==x.num) u;rw[e];exact z u (F.tt l)
theorem Qf{num:Int}{z:gm.Cp}(h:gm.zp (y.map CV.abs) num=some z): ∃(i:Nat)(e:CV),idxOf (λe:CV=>decide ((e.num:Int)=num)) y=(i:Int)/\y[i]? =some e/\e.abs=z:=by
 unfold gm.zp at h;rw[List.find?_map]at h;obtain⟨e,l,rfl⟩:=Option.map_eq_some_iff.1 h;have l:y.find? (λe:CV=>decide ((e.num:Int)=num))=some e:=l;obtain⟨n,i,m,rfl,q⟩:=fO.1 l;refine⟨i,y[i],?_,ai m,rfl⟩;have:y.findIdx? (λe:CV=>decide ((e.num:Int)=num))=some i:=cJ.2 ⟨m,n,λj t=>cI (q j t)⟩;unfold idxOf;rw[this]
theorem JP(E:En V f h s X I a k)(g':k+1<=30000)(T:ar.fR h b (y0 r))(nb: ¬(X.M b\/X.D b))(n: ∀H d,Pt H s d I (MY V a S x.num).σ->gR X h b r (MY V a S x.num) d H->R (.I (MY V a S x.num).e) H):
  Cl 138 #[(x.as p c s S).agg,.P b 0] h R:=by
 refine CW.walk (cz.da (x:=x.as p c s S) λd' h1 eb a' M=> ?_);have C:=E.on M;have U: ¬X.M b:=λe=>nb (.inl e)
 have zo:=aC T;have c': ¬X.M d':=E.nM ae;obtain⟨Z,t,zm,zd,go⟩:=C.H.use 2;have sm:=E.G.small E.H.ord (bR E.hk);have z1:=M.1;refine⟨_,ak a',ax.2 ⟨_,ak C.H.cW,gm.K0 t sm (λz t=>(E.G.c.ok.bd z t).2.2) λh2 q2 c2 y o2 a2 r2 n2 O=>⟨_,_,_,rfl,?_⟩⟩⟩;have E2:=C.on O;have w:=O.get a' id;obtain⟨Z,t,zm,zd,go⟩:=E2.H.use 2;have hG:=E.G.c;refine⟨_,ak w,ax.2 ⟨_,ak E2.H.cW,_,ak w,_,ak w,gm.JP t sm (gG hG.L E.hk) x.num S λh3 Z3 C3 s3=> ?_⟩⟩;obtain⟨X3,H3,u,k',l'⟩:=go h3 Z3 { a with C:=gm.tL a.C x.num S } C3 s3 (λi hi=>dM.xO _ hi);refine⟨_,rfl,FG u.fr c' bV,?_⟩;have new: ∀j,h1.size<=j->¬X.M j:=λj m=>E.nM ae
 have o3:=o2.frame u.fr (λj m=>new j (n2 j m));have b':=u.fr.get w c';have F2:=M.tt O;have ll:y.length<=30000:=by
  have K:=bQ List.length a2;rw[ay]at K;have v:=hG.L;have e3:=E.hk;omega
 refine sc o3 rfl ae b' λh4 F=>⟨_,rfl,?_⟩
 have st:=(bA.no F2 u).on F;have G:=H3.on F;refine aH.of λj' P=> ?_
 unfold MY at n;by_cases l:gm.lP a.C.L x.num S=0
 case neg=>
  rw[af l]at n;rw[af (cI l)];subst P;dsimp only;refine aH.of λJ1 Q=> ?_
  rw[dB];subst Q;have eC:gm.tL a.C x.num S=a.C:=by unfold gm.tL;rw[af l]
  rw[eC]at G;exact n h4 X3 G (gR.bad T U st)
 rw[ag l]at n;rw[ag (by rw[l];rfl)];cases q:gm.zp a.C.L x.num with
 |none=>unfold gm.lP at l;rw[q]at l;cases l
 |some z=>
  rw[q]at n;dsimp only at n;rw[<-a2]at q;obtain⟨i,j,K,v,e3⟩:=Qf q;rw[K]at P⊢;subst P;dsimp only;refine aH.of λJ1 Q=> ?_
  rw[gk];have hi:=(aE.1 v).1;have o4:=o3.frame F bX;obtain⟨pb,po,rfl⟩:=o4.addr ae;have hh:=o4.fP gQ v;have e':=F.get b' id;have ry:=((r2 j (aK v)).frame u.fr (λj m=>new j m)).frame F bX;have L:z.d=j.v.b:=by rw[<-e3];rfl
  have G4:dM.Good { a with C:=gm.tL a.C x.num S } (k+1):=Good.Um E.G E.H.ord E.hk ⟨2,x.num,S,.zero,none,0, [],0⟩ (eu 0);have c2: ∀g,dP (((AA pb po):Addr).add (i*10)) (Fx j) 0 g->aY g ((((AA pb po):Addr).add (Int.toNat (i:Int)*10)).add 6)=some j.v.val:=λg q=>by
   rw[aF];exact q.2.2.2.2.2.2.1
  have E4:En V f h4 s X3 I { a with C:=gm.tL a.C x.num S } (k+1):=E.step G st G4 g';refine cz.fN (x:=x.as p c s S) e' ⟨ae,ax.2 ⟨_,_,_,c2 _ hh,RP (ses:=S) (x:=x) (p:=p) (c:=c) (d:=z.d) E4 (by rw[L];exact ry.row) (by rw[L]) (by rw[L];exact ry.cap) λh5 J H5 i'=>⟨_,rfl,?_⟩⟩⟩;have B:=st.trans i';have f':=B.fr.get T U;refine iP (z:=⟨r,0,0,(nZ V { a with C:=gm.tL a.C x.num S } S z.d).2,0,none,0,0⟩) f' dN rfl λh6 d6 f6=> ?_
  subst Q;dsimp only;rw[l];have h': ∀j,J.M j\/J.D j->j≠b:=λj m e=>by
   rcases m with A|A
   .rcases B.iz j A with A|A
    .exact U (e▸A)
    .omega
   .rcases B.jx j A with A|A
    .exact nb (.inr (e▸A))
    .omega
  exact n h6 J (H5.frame f6 (λj m e=>h' j m e)) (gR.of B f6 ⟨_,d6,λ_=>⟨none,0,rfl,Row.nil,λe=>absurd rfl e⟩⟩)

end Ask
end
section
variable {h:aj} {R:fD}
variable {x X a b c:Int} {g S:ck} {f d s i:Nat}
theorem Kj.walk{A:Int}{j:Int}{k:Int}{l:Int}{m:Int}{p:ck}{o n:Nat}{q:Int}{B:Int}{r:Int}{t:Int}{u:Int}{y:ck}{w v:Nat}(J:bh h (.C #[.U A,.I j,.I k,.I l,.U m,.L p o n] 47) λe G=>bh G (.C #[.U q,.I B,.I r,.I t,.U u,.L y w v] 47) λB H=>Hu H e 0 λt6=> ∃F,Cc H B 0 (.U F)/\if(t6==F)then Hi H e 1 λK=> ∃T,Cc H B 1 (.I T)/\if(K==T)then Hi H e 2 λL=> ∃z,Cc H B 2 (.I z)/\if(L==z)then Hi H e 3 λM=> ∃C,Cc H B 3 (.I C)/\if(M==C)then Hu H e 4 λO=> ∃D,Cc H B 4 (.U D)/\if(O==D)then Hl H e 5 λU Q P=>Hl H B 5 λa' Z V=>Cl 69 #[.L U Q P,.L a' Z V] H λb' I=> ∃E,b'=.B E/\R (.B E) I else R (.B false) H else R (.B false) H else R (.B false) H else R (.B false) H else R (.B false) H):Cl 186 #[.agg #[.U A,.I j,.I k,.I l,.U m,.L p o n],.agg #[.U q,.I B,.I r,.I t,.U u,.L y w v]] h R:=aP (lq ll) Tryz.func186 J
theorem Kk.walk{id:Int}{e:Int}(k:bh h (.C #[.U 0,.I 0,.I 0,.I 0,.U 0,.Z] 47) λB j=>ar.ST j (AA B 0) id e 0 0 0 none 0 0 λH=>ar.LD H (AA B 0) λr l m n o t q p=>R (.agg #[.U r,.I l,.I m,.I n,.U o,.L t q p]) H):Cl 26 #[.U id,.I e] h R:=aP (lq ll) Tryz.func26 k
theorem FK.walk{e:ck}{L l:Nat}(j:Cl 256 #[.L e L l,.func (.func 257) #[] #[]] h λv H=> ∃t,v=.B t/\R (.B (!t)) H):Cl 185 #[.L e L l] h R:=aP (lq ll) Tryz.func185 j
theorem Ca.walk{n:Int}(H:if(decide (n<0))then R (.B true) h else R (.B (decide (n>1099511627776))) h):Cl 257 #[.I n] h R:=aP (lq ll) Tryz.func257 H
theorem Ih.walk (U:bh h (.C #[.U x,.I X,.I a,.I b,.U c,.L g f d] 47) λB H=>aH (λ(t3:Bool) (e:aj)=>if t3 then R (.B false) e else∃n,Cc e B 1 (.I n)/\if(n !=0)then ar.LD e (AA B 0) λo p q r u y w v=>Hu e B 0 λc'=>Hi e B 1 λd'=>Cl 26 #[.U c',.I d'] e λe' k=> ∃z A C D E I G F,e'=.agg #[.U z,.I A,.I C,.I D,.U E,.L I G F]/\dP (AA B 0) [.U o,.I p,.I q,.I r,.U u,.L y w v] 0 k/\Cl 186 #[.agg #[.U o,.I p,.I q,.I r,.U u,.L y w v],.agg #[.U z,.I A,.I C,.I D,.U E,.L I G F]] k λf' P=> ∃K,f'=.B K/\R (.B K) P else R (.B true) e) (λJ=> ∃L,Cc H B 0 (.U L)/\if(decide (L>1099511627776))then J true H else∃M,Cc H B 1 (.I M)/\if(decide (M<0))then J true H else∃t,Cc H B 1 (.I t)/\if(decide (t>99))then J true H else Hi H B 2 λV=>Hi H B 3 λZ=>bh H (.C #[.I V,.I Z] 3) λO Q=>Cl 185 #[.L (Sa O 0) 2 2] Q λg' j=> ∃T,g'=.B T/\if(!T)then J true j else∃l,Cc j B 4 (.U l)/\if(decide (l>2147483648))then J true j else∃b' m a',Cc j B 5 (.L b' m a')/\J (decide (((m:Nat):Int)>600)) j)):Cl 128 #[.agg #[.U x,.I X,.I a,.I b,.U c,.L g f d]] h R:=aP (lq (sq (bq (sq (.join [(3,.one (.bool))] lf) (cq ll (lq (cq (sq (pN 8) lf) lf))))) ll)) Tryz.func128 U
theorem Ii.walk(F:bh h (.C #[.U x,.I X,.I a,.I b,.U c,.L g f d] 47) λB u=>ar.LD u (AA B 0) λO P Q U V b' a' Z=>Cl 128 #[.agg #[.U O,.I P,.I Q,.I U,.U V,.L b' a' Z]] u λc' H=> ∃A,c'=.B A/\if(!A)then R (.T #[.Z,.I 3]) H else Hu H B 0 λC=>Hi H B 1 λr=>Hi H B 2 λp=>Hi H B 3 λn=>Hu H B 4 λl=>Hl H B 5 λj T t=>Cl 35 #[] H λd' e=>Vp d' λt7=>Cc e B 5 (.L j T t)/\Cc e B 4 (.U l)/\Cc e B 3 (.I n)/\Cc e B 2 (.I p)/\Cc e B 1 (.I r)/\Cc e B 0 (.U C)/\Cl 37 #[.pointer t7,.U C] e λe' k=>Vp e' λG=>Cc k B 5 (.L j T t)/\Cc k B 4 (.U l)/\Cc k B 3 (.I n)/\Cc k B 2 (.I p)/\Cc k B 1 (.I r)/\Cl 38 #[.pointer G,.I r] k λf' m=>Vp f' λI=>Cc m B 5 (.L j T t)/\Cc m B 4 (.U l)/\Cc m B 3 (.I n)/\Cc m B 2 (.I p)/\Cl 38 #[.pointer I,.I p] m λg' o=>Vp g' λJ=>Cc o B 5 (.L j T t)/\Cc o B 4 (.U l)/\Cc o B 3 (.I n)/\Cl 38 #[.pointer J,.I n] o λh' q=>Vp h' λK=>Cc q B 5 (.L j T t)/\Cc q B 4 (.U l)/\Cl 37 #[.pointer K,.U l] q λi' v=>Vp i' λL=>Cc v B 5 (.L j T t)/\Cl 36 #[.pointer L,.L j T t] v λj' E=>Vp j' λM=>Cl 39 #[.pointer M] E λk' D=> ∃z y w,k'=.L z y w/\R (.T #[.L z y w,.I 0]) D):Cl 91 #[.agg #[.U x,.I X,.I a,.I b,.U c,.L g f d]] h R:=aP (lq (sq (lq (cq ll lf)) (sq (.lK (.op 1 (.op 2 (.op 4 (.op 5 (.op 7 (.op 8 (.op 10 (.op 11 (.op 13 (.op 14 (.op 16 (.op 17 (.op 0 (.op 3 (.op 6 (.op 9 (.op 12 (.op 15 (.op 18 (.op 19 (.op 20 (.op 21 .done))))))))))))))))))))))) lf))) Tryz.func91 F
theorem Kl.walk{m:ck}{l k:Nat}(F:bh h (.C #[.U 0,.I 0,.I 0,.I 0,.U 0,.Z] 47) λB q=>Cl 123 #[.L m l k] q λD' v=>Vp D' λt=>Cl 124 #[.pointer t] v λE' w=>Vu E' λt9=>Cl 125 #[.pointer t] w λF' y=>Vi F' λf'=>Cl 125 #[.pointer t] y λG' z=>Vi G' λg'=>Cl 125 #[.pointer t] z λH' A=>Vi H' λh'=>Cl 124 #[.pointer t] A λI' C=>Vu I' λi'=>Cl 126 #[.pointer t] C λJ' D=>Vl J' λl' k' j'=>bh D (.C #[.U 0,.I 0,.I 0,.I 0,.U 0,.Z] 47) λe E=>ar.ST E (AA e 0) t9 f' g' h' i' l' k' j' λr=>aH (λ(u':Bool) (H:aj)=>if u' then ar.ST H (AA B 0) 0 0 0 0 0 none 0 0 λn=>ar.LD n (AA B 0) λG K M P U d' b' Z=>R (.T #[.agg #[.U G,.I K,.I M,.I P,.U U,.L d' b' Z],.I 3]) n else ar.LD H (AA e 0) λv' w' x' y' z' C' B' A'=>ar.ST H (AA B 0) v' w' x' y' z' C' B' A' λo=>ar.LD o (AA B 0) λI L O Q V e' c' a'=>R (.T #[.agg #[.U I,.I L,.I O,.I Q,.U V,.L e' c' a'],.I 0]) o) (λJ=>Cl 127 #[.pointer t] r λK' j=> ∃T,K'=.I T/\if(T !=0)then J true j else ar.LD j (AA e 0) λm' n' o' p' q' t' s' r'=>Cl 128 #[.agg #[.U m',.I n',.I o',.I p',.U q',.L t' s' r']] j λL' u=> ∃p,L'=.B p/\J (!p) u)):Cl 89 #[.L m l k] h R:=aP (lq (lq (lq (sq (sq (.join [(28,.one (.bool))] lf) (cq ll lf)) ll)))) Tryz.func89 F
theorem my.within.walk(e:Cl 293 #[.L S s i,.func (.func 257) #[] #[]] h λv H=> ∃t,v=.I t/\R (.B (decide (t≥0))) H):Cl 256 #[.L S s i,.func (.func 257) #[] #[]] h R:=aP (lq ll) Tryz.func256 e
theorem iO.within.walk(k: ∃(I:Int->aj->Prop)(m:Int->aj->Nat),I 0 h/\∀(t:Int)(H:aj),I t H->if(decide (t<(s:Int)))then((0:Int)<=t/\t<(s:Int))/\aM S λA=> ∃T,aY H (A.add (toNat t*1))=some (.I T)/\Cl 257 #[.I T] H λv e=> ∃j,v=.B j/\if j then R (.I t) e else(I (wrap .i64 (t+1)) e/\m (wrap .i64 (t+1)) e<m t H)else R (.I (-1)) H):Cl 293 #[.L S s i,.func (.func 257) #[] #[]] h R:=aP (lq (sq (lq (bq (.loop [(8,.one (.int .i64))] (lq (sq (cq lf lf) (sq (bq (lq (lq (cq ll lf)))) lf)))))) ll)) Tryz.func293 k

end
section
open Go.fV
namespace zP
open iE
variable {h H:aj} {R:fD} {p q:ck} {c d:Nat}
variable {n:Nat}
abbrev val(x:RD)(p:ck)(c:Nat):Value:=.agg #[.int .u64 (x.id:Int),.int .i64 x.err,.int .i64 x.num,.int .i64 x.count,.int .u64 (x.token:Int),.slice p x.b.length c]
abbrev At(h:aj)(b:Nat)(x:RD)(p:ck)(c:Nat):Prop:=ar.at h b (x.id:Int) x.err x.num x.count (x.token:Int) p x.b.length c
theorem CY{a b:cM}{m:Nat}(r:Row h p (bc a))(j:Row h q (bc b))(i:n=a.length)(g:m=b.length)(f:R (.B (decide (a=b))) h):Cl 69 #[.L p n c,.L q m d] h R:=by
 refine yz.walk ⟨_,conv r i,_,conv j g,?_⟩;rw[pg,pg];have:(a==b)=decide (a=b):=by
  by_cases e:a=b<;>simp[e]
 rw[this];exact f
theorem ji(x y:RD)(s:Row h p (bc x.b))(t:Row h q (bc y.b))(a: iq h R (.B (decide (x.same y)))):Cl 186 #[val x p c,val y q d] h R:=by
 refine Kj.walk (ar.box λb u _ r m=>ar.box λB o _ e l=> ?_);have f:=l.get r id;have F:=m.tt l;have a:=a o F;unfold RD.same at a;refine⟨_,ak f,_,ak e,?_⟩;by_cases j:x.id=y.id
 .rw[ag (by rw[j];simp)];refine⟨_,ak f,_,ak e,?_⟩;by_cases E:x.err=y.err
  .rw[ag (by rw[E];simp)];refine⟨_,ak f,_,ak e,?_⟩;by_cases g:x.num=y.num
   .rw[ag (by rw[g];simp)];refine⟨_,ak f,_,ak e,?_⟩;by_cases i:x.count=y.count
    .rw[ag (by rw[i];simp)];refine⟨_,ak f,_,ak e,?_⟩;by_cases k:x.token=y.token
     .rw[ag (by rw[k];simp)];refine⟨_,_,_,ak f,_,_,_,ak e,CY (s.frame F bX) (t.frame F bX) rfl rfl ⟨_,rfl,?_⟩⟩;simpa[j,E,g,i,k]using a
     .rw[af (by simp;omega)];simpa[k]using a
    .rw[af (cI i)];simpa[i]using a
   .rw[af (cI g)];simpa[g]using a
  .rw[af (cI E)];simpa[E]using a
 .rw[af (by simp;omega)];simpa[j]using a
def Ld(id:Nat)(e:Int):RD:=⟨id,e,0,0,0, []⟩
theorem mV{i:Int}(id:Nat)(j:i=(id:Int))(e:Int)(k: iq h R (val (Ld id e) none 0)):Cl 26 #[.U i,.I e] h R:=by
 subst j;refine Kk.walk (ar.new λb a _ g f=>ar.ld g ?_);exact k a f
def Qz(n:Int):Bool:=decide (0<=n/\n<=1099511627776)
theorem Tt(n:Int)(a:R (.B (!Qz n)) h):Cl 257 #[.I n] h R:=by
 refine Ca.walk ?_;unfold Qz at a;by_cases b:n<0
 .simpa[b,show¬0<=n by omega]using a
 .by_cases e:n>1099511627776
  .simpa[b,e,show¬n<=1099511627776 by omega]using a
  .simpa[b,e,show 0<=n by omega,show n<=1099511627776 by omega]using a
theorem xi{ns : List Int}{n m : Nat}(s : Row h p (ns.map (.int .i64 ·)))(f : n = ns.length)(w : ns.length ≤ 1000000)(e : R (.bool (ns.all Qz)) h): Cl 185 #[.slice p n m] h R := by
  subst f
  refine FK.walk (my.within.walk (iO.within.walk ?_))
  refine ⟨λi r => r = h ∧ ∃ k : Nat, i = (k : Int) ∧ k ≤ ns.length ∧ ∀ j, j < k → Qz (ns.getD j 0) = true, λi _ => ns.length - i.toNat, ⟨rfl, 0, rfl, by omega, λj b => by omega⟩, ?_⟩
  rintro _ t ⟨rfl, k, rfl, v, g⟩
  by_cases o : k < ns.length
  · have : (k : Int) < (ns.length : Int) := by omega
    simp only [this, decide_true, if_true, Int.toNat_natCast]
    obtain ⟨a, rfl, C⟩ := IN s o
    refine ⟨⟨by omega, trivial⟩, ax.2 ⟨_, C, Tt _ ⟨_, rfl, ?_⟩⟩⟩
    cases l : Qz (ns.getD k 0) with
    | false =>
      simp only [Bool.not_false, if_true]
      refine ⟨_, rfl, ⟨_, rfl, ?_⟩⟩
      have : ns.all Qz = false := by
        rw [List.all_eq_false]
        exact ⟨_, N0 o, by rw [l]; simp⟩
      rw [this] at e
      have H : (k : Int) ≥ 0 := by omega
      simpa [H] using e
    | true =>
      simp only [Bool.not_true, Bool.false_eq_true, if_false]
      rw [bC (by omega) (by omega)]
      refine ⟨⟨trivial, k + 1, by omega, by omega, λj b => ?_⟩, ?_⟩
      · by_cases q : j = k
        · subst q; exact l
        · exact g j (by omega)
      · show ns.length - Int.toNat ((k : Int) + 1) < ns.length - Int.toNat (k : Int); omega
  · have : ¬ (k : Int) < (ns.length : Int) := by omega
    simp only [this, decide_false, Bool.false_eq_true, if_false]
    refine ⟨_, rfl, ⟨_, rfl, ?_⟩⟩
    have : ns.all Qz = true := by
      rw [List.all_eq_true]
      intro n f
      obtain ⟨j, b⟩ := List.getElem?_of_mem f
      have u := (List.getElem?_eq_some_iff.1 b).1
      have := g j (by omega)
      rwa [List.getD_eq_getElem?_getD, b] at this
    rw [this] at e
    simpa using e
theorem fK(x:RD)(M:Row h p (bc x.b))(z: iq h R (.B (decide x.pk))):Cl 128 #[val x p c] h R:=by
 refine Ih.walk (ar.box λb v _ g F=>aH.of λJ w=> ?_);have j: ∀f,Fr No h f->¬x.pk->J true f:=by
  intro f r G;subst w;simp only[ba];have:=z f r;rwa[aB G]at this
 have I: ∀f,At f b x p c->Fr No h f->x.id<=1099511627776->(0<=x.err/\x.err<=99)->(0<=x.num/\x.num<=1099511627776)->(0<=x.count/\x.count<=1099511627776)->x.token<=2147483648->x.b.length<=600->J false f:=by
  intro f i r Q k l C m o;subst w;simp only[aq,aL];refine⟨_,ak i,?_⟩;by_cases t:x.err=0
  .rw[af (by simp[t])];have:=z f r;rwa[aw (show x.pk from⟨Q,k,l,C,m,o,λh=>absurd t h⟩)]at this
  .rw[ag (cI t)];refine ar.ld i ⟨_,ak i,_,ak i,mV x.id rfl x.err λO B=>⟨_,_,_,_,_,_,_,_,rfl,(ar.held (B.get i id)),?_⟩⟩;have A:=r.tt B;refine ji x (Ld x.id x.err) (M.frame A bX) (.inl rfl) λE D=>⟨_,rfl,?_⟩
   have e:decide (x.same (Ld x.id x.err))=decide x.pk:=by
    unfold RD.same RD.pk Ld;simp[Q,k,l,C,m,o,t]
   rw[e];exact z E (A.tt D)
 clear w;refine⟨_,ak g,?_⟩;by_cases Q:x.id<=1099511627776
 .rw[af (by simp;omega)];refine⟨_,ak g,?_⟩;by_cases k:0<=x.err
  .rw[af (by simp;omega)];refine⟨_,ak g,?_⟩;by_cases l:x.err<=99
   .rw[af (by simp;omega)];refine⟨_,ak g,_,ak g,cK ?_⟩;refine xi (ns:= [x.num,x.count]) iT rfl bV ⟨_,rfl,?_⟩;have s:=F.tt (Fr.push v (.C #[.I x.num,.I x.count] 3));have y:At _ b x p c:=(Fr.push (S:=λ_=>False) v (.C #[.I x.num,.I x.count] 3)).get g id;generalize v.push (.C #[.I x.num,.I x.count] 3)=P at*;cases u: [x.num,x.count].all Qz with
    |false=>
     simp only[dS,ba];refine j _ s λa=> ?_
     obtain⟨_,_,K,L,_⟩:=a;simp[Qz,K,L]at u
    |true=>
     simp only[cU,aq,aL];simp[Qz]at u;refine⟨_,ak y,?_⟩;by_cases m:x.token<=2147483648
     .rw[af (by simp;omega)];refine⟨_,_,_,ak y,?_⟩;by_cases o:x.b.length<=600
      .have:decide ((x.b.length:Int)>600)=false:=by simp;omega
       rw[this];exact I _ y s Q ⟨k,l⟩ u.1 u.2 m o
      .have:decide ((x.b.length:Int)>600)=true:=by simp;omega
       rw[this];exact j _ s λa=>o a.2.2.2.2.2.1
     .rw[ag (by simp;omega)];exact j _ s λa=>m a.2.2.2.2.1
   .rw[ag (by simp;omega)];exact j _ F λa=>l a.2.1.2
  .rw[ag (by simp;omega)];exact j _ F λa=>k a.2.1.1
 .rw[ag (by simp;omega)];exact j _ F λa=>Q a.1
theorem Qg(x:RD)(u:Row h p (bc x.b))(k1:x.pk->∀i q d,fz i q x.enc.length d 1 (bc x.enc)->Fr No h i->(∀y,aN q y->h.size<=y)->R (.T #[.L q x.enc.length d,.I 0]) i)(k2: ¬x.pk->iq h R (.T #[.Z,.I 3])):Cl 91 #[val x p c] h R:=by
 refine Ii.walk (ar.box λb h1 eb z o=>ar.ld z ?_);refine fK x (u.frame o bX) λs r=>⟨_,rfl,?_⟩
 by_cases j:x.pk
 .rw[aw j];simp only[cU,aq,aL];obtain⟨q1,⟨q2,h'⟩,⟨q3,i'⟩,⟨q4,j'⟩,q5,q6,_⟩:=id j;have a:=r.get z id;have F:=o.tt r;refine⟨_,ak a,_,ak a,_,ak a,_,ak a,_,ak a,_,_,_,ak a,?_⟩;refine gL λh3 k' Z O w g3=>⟨_,rfl,?_⟩
  have B:=w.get a id;have U:Up s Z h3:=⟨w,g3⟩;have k: ∀{S:Nat->Prop}{i:aj},Up s S i->¬S b:=λg' hx=>by have:=g'.ge b hx;have:=aC a;omega
  refine⟨ak B,ak B,ak B,ak B,ak B,ak B,?_⟩;refine fM x.id O bV rfl ae λh4 S4 P A=>⟨_,rfl,?_⟩
  have f:=A.fr.get B (k U);have I:=U.step A;have l1:=(bU x.id).2;refine⟨ak f,ak f,ak f,ak f,ak f,?_⟩;refine im P (by simp only[cH];omega) ae λh5 S5 Q C=>⟨_,rfl,?_⟩
  have g:=C.fr.get f (k I);have J:=I.step C;have l2:=(bU (gC x.err)).2;refine⟨ak g,ak g,ak g,ak g,?_⟩;refine im Q (by simp only[cH,au];omega) ae λh6 S6 T D=>⟨_,rfl,?_⟩
  have l:=D.fr.get g (k J);have K:=J.step D;have l3:=(bU (gC x.num)).2;refine⟨ak l,ak l,ak l,?_⟩;refine im T (by simp only[cH,au];omega) ae λh7 S7 V E=>⟨_,rfl,?_⟩
  have m:=E.fr.get l (k K);have L:=K.step E;have l4:=(bU (gC x.count)).2;refine⟨ak m,ak m,?_⟩;refine fM x.token V (by simp only[cH,au];omega) rfl ae λh8 S8 X G=>⟨_,rfl,?_⟩
  have b8:=G.fr.get m (k L);have u8:=L.step G;have l5:=(bU x.token).2;have a':=F.tt u8.fr;refine⟨ak b8,?_⟩;refine nL X (by simp only[cH,au];omega) (u.frame a' bX) rfl ae (λy t e' hS=> ?_) λh9 S9 v s9=>⟨_,rfl,?_⟩
  .have:=iZ u (λe=>e' (List.map_eq_nil_iff.1 e)) t;have:=u8.ge y hS;have:=F.1;omega
  have M:=u8.step s9;have he: []++ct x.id++ct (gC x.err)++ct (gC x.num)++ct (gC x.count)++ct x.token++dW x.b=x.enc:=rfl;rw[he]at v;refine iM v (bR (lB q6)) λq d d' f' b' c'=>⟨_,_,_,rfl,?_⟩
  exact k1 j d' q d f' (F.tt (M.fr.tt b')) (λy t=>gG (c' y t) ((F.tt M.fr).1))
 .rw[aB j];simp only[dS,ba];exact k2 j s (o.tt r)
theorem vT{g:cM}(rb:Row h p (bc g))(hn:n=g.length)(hl:g.length<=70368744177664)(k1: ∀x,LB g=some x->∀h' q d,fz h' q x.b.length d 1 (bc x.b)->Fr No h h'->(∀y,aN q y->h.size<=y)->R (.T #[val x q d,.I 0]) h')(k2:LB g=none->iq h R (.T #[val RD.zero none 0,.I 3])):Cl 89 #[.L p n c] h R:=by
 refine Kl.walk (ar.box (f5l:=0) λb h1 eb hb Z=> ?_);refine iE.vT (rb.frame Z bX) hn hl λh2 A' T D f2 g2=>⟨_,rfl,?_⟩
 have u2:Up h1 T h2:=⟨f2,g2⟩;refine zU D λh3 m f3=>⟨_,rfl,?_⟩
 have u3:=u2.Dm f3 (λy e=>e▸D.self);have la:=rL 0 g;generalize hA:fH 0 g=m' at m la⊢;obtain⟨a,S,A⟩:=m';dsimp only at m la⊢;refine Fh m λh4 o f4=>⟨_,rfl,?_⟩
 have u4:=u3.Dm f4 (λy e=>e▸D.self);have lb:(me S A).2.2.length<=A.length:=qi _ S A;generalize hB:me S A=B at o lb⊢;obtain⟨u,U,v⟩:=B;dsimp only at o lb⊢;refine Fh o λh5 r f5=>⟨_,rfl,?_⟩
 have u5:=u4.Dm f5 (λy e=>e▸D.self);have lc:(me U v).2.2.length<=v.length:=qi _ U v;generalize hC:me U v=C at r lc⊢;obtain⟨w,V,z⟩:=C;dsimp only at r lc⊢;refine Fh r λh6 s f6=>⟨_,rfl,?_⟩
 have u6:=u5.Dm f6 (λy e=>e▸D.self);have ld:(me V z).2.2.length<=z.length:=qi _ V z;generalize hD:me V z=n' at s ld⊢;obtain⟨E,de,dr⟩:=n';dsimp only at s ld⊢;refine zU s λh7 t f7=>⟨_,rfl,?_⟩
 have u7:=u6.Dm f7 (λy e=>e▸D.self);have lf:=rL de dr;generalize hF:fH de dr=F at t lf⊢;obtain⟨I,fe,fr⟩:=F;dsimp only at t lf⊢;refine Pc t ae λh8 q d P O g8 f8=>⟨_,_,_,rfl,?_⟩
 have u8:=u7.Dm f8 (λy e=>e▸D.self);generalize hG:mq fe fr=o' at P O⊢;obtain⟨K,G,l⟩:=o';dsimp only at P O⊢;have hX:U6 1099511627776 jX g=⟨⟨a,u,w,E,I,K⟩,G,l⟩:=by
  unfold me at hB hC hD;unfold U6;simp only[hA,hB,hC,hD,hF,hG]
 have k':LB g=AE ⟨⟨a,u,w,E,I,K⟩,G,l⟩:=by unfold LB;rw[hX]
 clear hX hA hB hC hD hF hG la lb lc ld lf m o r s t f3 f4 f5 f6 f7 f8;generalize i:(⟨a,u,w,E,I,K⟩:RD)=x at*;have e0:a=x.id:=by rw[<-i]
 have e1:(u:Int)=x.err:=by rw[<-i]
 have e2:(w:Int)=x.num:=by rw[<-i]
 have e3:(E:Int)=x.count:=by rw[<-i]
 have e4:I=x.token:=by rw[<-i]
 have X:K=x.b:=by rw[<-i]
 rw[e0,e1,e2,e3,e4,X];rw[X]at O;clear i e0 e1 e2 e3 e4 X;refine ar.new λb1 b' y' j' J=> ?_
 have c':At b' b RD.zero none 0:=J.get (u8.fr.get hb id) id;have Q:Fr No h b':=Z.tt (u8.fr.tt J);have l':=O.frame J bX;have gq: ∀y,aN q y->h1.size<=y:=λy j=>by have:=g8 y j;have:=u7.fr.1;omega
 have bne:b≠b1:=λe=>by have:=aC (u8.fr.get hb id);omega
 have z':b<h1.size:=aC hb;refine aH.of λe' hJ=> ?_
 have jt:AE ⟨x,G,l⟩=none->∀f,At f b RD.zero none 0->Fr No h f->e' true f:=by
  intro hn f d' a';subst hJ;simp only[ba];refine ar.set d' λp' r' w' u'=>ar.ld r' ?_
  exact k2 (k'.trans hn) p' (a'.step (Fr.of_eq (S:=λy=>y=b) w' u') (λy j e=>ae))
 have jf:AE ⟨x,G,l⟩=some x->∀f,At f b RD.zero none 0->At f b1 x q d->fz f q x.b.length d 1 (bc x.b)->Fr No h f->e' false f:=by
  intro hs f d' q' t' a';subst hJ;simp only[aq,aL];refine ar.ld q' (ar.set d' λg' s' x' v'=>ar.ld s' ?_);have f':Fr (λy=>y=b) f g':=Fr.of_eq x' v';refine k1 x (k'.trans hs) g' q d (t'.frame f' (λy j e=> ?_)) (a'.step f' (λy j e=>ae)) (λy j=> ?_)
  .have:=gq y j;omega
  .have:=gq y j;have:=Z.1;omega
 clear hJ;refine Q9 (P.frame J bX) ⟨_,rfl,?_⟩;by_cases L:zN G l=0
 .rw[af (cI L)];refine ar.ld j' (fK x l'.iy λi' k=>⟨_,rfl,?_⟩);by_cases M:x.pk
  .rw[aw M];exact jf (by unfold AE;rw[ag ⟨L,M⟩]) i' (k.get c' id) (k.get j' id) (l'.frame k bX) (Q.tt k)
  .rw[aB M];exact jt (by unfold AE;rw[af (λhh=>M hh.2)]) i' (k.get c' id) (Q.tt k)
 .rw[ag (cI L)];exact jt (by unfold AE;rw[af (λhh=>L hh.1)]) b' c' Q

end zP
end
end Go.Proofs.YtimiaphmdidfhaaGreatDoor
