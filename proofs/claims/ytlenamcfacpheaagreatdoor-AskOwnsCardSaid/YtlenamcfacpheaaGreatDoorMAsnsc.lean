/-
  Dz is proved here: parts of wz proof, one behind wz other (texts of this work, merged by a program; FI wz theorem FJ not use is left out). No condition.
-/
import Derived.Test.YtlenamcfacpheaaGreatDoorMAsnsb
set_option maxRecDepth 100000
set_option maxHeartbeats 4000000
namespace Go.Proofs.YtlenamcfacpheaaGreatDoor
open Go.Den
open IntKind (wrap)
open Int (toNat)
section
open Go.kk
namespace bU
theorem tm:pT Tryz.prog 167 (.I 0):=.of 3 3 .i64 cU cU cU
def enc(es:List E):List Value:=es.flatMap λe=> [.int .i64 e.1,.int .u64 e.2]
theorem nT(e:E)(es:List E):enc (e::es)=.I e.1:: .U e.2::enc es:=rfl
theorem jH: ∀es:List E,(enc es).length=es.length*2
 | []=>rfl
 |e::es=>by rw[nT];simp only[aV,jH es];omega
theorem Gf(es fs:List E):enc (es++fs)=enc es++enc fs:=by simp[enc]
theorem Ps: ∀{es:List E}{i:Nat},i<es.length->(enc es)[i*2]? =some (.I (at_ es i).1)
 | [],_,h=>by simp at h
 |e::es,0,_=>rfl
 |e::es,i+1,h=>by
  rw[nT,show(i+1)*2=i*2+1+1 by omega,di,di,Ps (cy h)];rfl
theorem Pv: ∀{es:List E}{i:Nat},i<es.length->(enc es)[i*2+1]? =some (.U (at_ es i).2)
 | [],_,h=>by simp at h
 |e::es,0,_=>rfl
 |e::es,i+1,h=>by
  rw[nT,show(i+1)*2+1=i*2+1+1+1 by omega,di,di,Pv (cy h)];rfl
theorem Ia: ∀(es:List E)(i:Nat)(x:E),((enc es).set (i*2) (.I x.1)).set (i*2+1) (.U x.2)=enc (es.set i x)
 | [],_,_=>by simp[enc]
 |e::es,0,x=>rfl
 |e::es,i+1,x=>by
  rw[nT,show(i+1)*2=i*2+1+1 by omega,List.set_cons_succ,List.set_cons_succ,List.set_cons_succ,List.set_cons_succ,Ia es i x];rfl
theorem Eh: ∀(es:List E)(n:Nat),(enc es).take (n*2)=enc (es.take n)
 | [],n=>by simp[enc]
 |e::es,0=>by simp[enc]
 |e::es,n+1=>by
  rw[nT,show(n+1)*2=n*2+1+1 by omega,fQ,fQ,Eh es n];rfl
theorem Ib: ∀(es:List E),∀v∈enc es,fI v=true
 | [],_,h=>by cases h
 |e::es,v,h=>by
  rw[nT]at h;rcases bJ.1 h with rfl|h
  .rfl
  .rcases bJ.1 h with rfl|h
   .rfl
   .exact Ib es v h
structure Mem (h:aj) (a:Nat) (p:cg) (cap m:Nat) (es:List E) (g:Int->Option Value):Prop where
 cQ:h[a]? =some (.cells #[.slice p es.length cap,.map (some m)] 191 (0,0))
 own:fi h p es.length cap 2 (enc es)
 map:mF h m g
 ne: ¬aL p a
def yS(a:Nat)(p:cg)(m:Nat)(c:Nat):Prop:=c=a\/c=m\/aL p c
def inner(p:cg)(m:Nat)(c:Nat):Prop:=c=m\/aL p c
variable {h : aj} {a m cap : Nat} {p : Option Addr} {es : List E} {g : Int → Option Value} {R : Value → aj → Prop}
theorem Mem.am(M:Mem h a p cap m es g):a≠m:=by
 rintro rfl;obtain⟨x,c,H⟩:=M.map.map;rw[M.cQ]at H;cases H
theorem Mem.pm(M:Mem h a p cap m es g): ¬aL p m:=λb=>by
 obtain⟨x,c,H⟩:=M.map.map;obtain⟨y,t,d⟩:=M.own.cells b;rw[d]at H;cases H
theorem Mem.lt(M:Mem h a p cap m es g){c:Nat}(hc:yS a p m c):c<h.size:=by
 rcases hc with rfl|rfl|hc
 .exact aC M.cQ
 .exact M.map.lt
 .exact M.own.dV hc
theorem Mem.frame{S:Nat->Prop}{h':aj}(M:Mem h a p cap m es g)(H:Fr S h h')(b: ∀c,yS a p m c->¬S c):Mem h' a p cap m es g:=
 ⟨H.get M.cQ (b a (.inl rfl)),M.own.frame H λc d=>b c (.inr (.inr d)),M.map.frame H (b m (.inr (.inl rfl))),M.ne⟩
theorem Mem.calm{h':aj}(M:Mem h a p cap m es g)(H:Fr No h h'):Mem h' a p cap m es g:=M.frame H λ_ _=>id
theorem Mem.hd(M:Mem h a p cap m es g):aX h (AA a 0)=some (.slice p es.length cap):=ak M.cQ
theorem Mem.mp(M:Mem h a p cap m es g):aX h (AA a 1)=some (.map (some m)):=ak M.cQ
theorem Mem.some(M:Mem h a p cap m es g)(c:0<es.length): ∃A,p=some A:=by
 obtain⟨b,off,H⟩:=M.own.some (by rw[jH];omega);exact⟨_,H⟩
theorem Mem.c0{A:Addr}(M:Mem h a (.some A) cap m es g){i:Nat}(H:i<es.length):aX h (A.add (i*2))=.some (.I (at_ es i).1):=M.own.cell (Ps H)
theorem Mem.c1{A:Addr}(M:Mem h a (.some A) cap m es g){i:Nat}(H:i<es.length):aX h ((A.add (i*2)).add 1)=.some (.U (at_ es i).2):=by
 rw[add_add];exact M.own.cell (Pv H)
theorem uj{c X y0 y:Int}(hk: gU h R (.bool (decide (lt (c,X) (y0,y))))):
  Cl 170 #[.agg #[.I c,.U X],.agg #[.I y0,.U y]] h R:=by
 refine Ef.walk ?_;rintro b d rfl rfl b1 i rfl rfl;have f:Fr No h ((h.push (.cells #[.I c,.U X] 193)).push (.cells #[.I y0,.U y] 193)):=Fr.tt (Fr.push _ _) (Fr.push _ _);have j:=yi (x:=.cells #[.I y0,.U y] 193) (bR (h:=h) (x:=.cells #[.I c,.U X] 193));have k:=bR (h:=h.push (.cells #[.I c,.U X] 193)) (x:=.cells #[.I y0,.U y] 193);have H:=hk _ f;refine⟨X,ak j,y,ak k,?_⟩;by_cases d:X<y
 .have e:decide (lt (c,X) (y0,y))=true:=by simp[lt,d]
  rw[e]at H;simpa only[d,bu,bf]using H
 .simp only[d,bh,aq,aJ];refine⟨X,ak j,y,ak k,?_⟩;by_cases i:X=y
  .subst i;simp only[eP,bf];refine⟨c,ak j,y0,ak k,?_⟩;have e:decide (lt (c,X) (y0,X))=decide (c<y0):=by simp[lt]
   rw[e]at H;exact H
  .have e:decide (lt (c,X) (y0,y))=false:=by simp[lt,d,i]
   rw[e]at H;simpa only[dC.2 i,aq,aJ]using H
theorem vC(M:Mem h a p cap m es g){i:Nat}(E:i<es.length){X d:Int}(hk: ∀h',Mem h' a p cap m (es.set i (X,d)) (λk=>if k=X then some (.I i)else g k)->Fr (inner p m) h h'->R (.tuple #[]) h'):
  Cl 116 #[.P a 0,.I i,.agg #[.I X,.U d]] h R:=by
 obtain⟨A,rfl⟩:=M.some af;refine xj.walk ?_;rintro b l t rfl;have f1:Fr No h (h.push (.cells #[.I X,.U d] 193)):=Fr.push _ _;have f:=M.calm f1;have j:=bR (h:=h) (x:=.cells #[.I X,.U d] 193);rw[<-t]at j;generalize h.push (.cells #[.I X,.U d] 193)=l at f1 f j;have u: ∀c,yS a (some A) m c->b≠c:=λc H e=>by have:=M.lt H;omega
 refine⟨_,_,_,f.hd,X,ak j,d,ak j,af,ay.2 ?_⟩;rw[aD,add_add];have F:=jH es;refine f.own.store af λD o2 B w=>o2.store (by rw[cY];omega) λq o C y=> ?_
 rw[Ia es i (X,d)]at o;have f2:Fr (aL (some A)) l q:=Fr.tt (Fr.of_eq B w) (Fr.of_eq C y);have v:=f2.get j (λH=>u b (.inr (.inr H)) rfl);have n:=f2.get f.cQ M.ne;refine⟨_,ak n,X,ak v,?_⟩;refine ma tm (f.map.frame f2 M.pm) λr z s K=>hk r ⟨?_,?_,z,M.ne⟩ ?_
 .rw[K a M.am,n,cY]
 .rw[cY];exact o.frame (Fr.of_eq (S:=λc=>c=m) s K) (λc H e=>M.pm (e▸H))
 .exact Fr.no f1 ((f2.mono λc _ H=> .inr H).trans (Fr.of_eq (S:=λc=>c=m) s K) cu (λ_ _ H=> .inl H))
theorem Pw{h:aj}{t:TypeId}{z Z X I y0 Y:Value}{G i s u:aj->Prop}{J:cg->cg->aj->Prop}(r: ∀h',Fr No h h'->G h'/\i h'/\s h'/\u h')(hJ: ∀b B h',h'[b]? =some (.cells #[X,I] t (0,0))->h'[B]? =some (.cells #[y0,Y] t (0,0))->h.size<=b->h.size<=B->Fr No h h'->J (Sa b 0) (Sa B 0) h'):
  (aQ h (.cells #[z,Z] t) λb H=>G H/\i H/\s H/\u H/\aQ H (.cells #[z,Z] t) λj d=>G d/\i d/\s d/\u d/\
   aO d (AA b 0) X λE=>aO E (AA b 1) I λe=>G e/\i e/\aO e (AA j 0) y0 λC=>aO C (AA j 1) Y λD=>J (Sa b 0) (Sa j 0) D)/\
  (aQ h (.cells #[z,Z] t) λb H=>G H/\i H/\s H/\u H/\aQ H (.cells #[z,Z] t) λj d=>G d/\i d/\s d/\u d/\
   aO d (AA j 0) X λE=>aO E (AA j 1) I λe=>G e/\i e/\aO e (AA b 0) y0 λC=>aO C (AA b 1) Y λD=>J (Sa j 0) (Sa b 0) D)/\True:=by
 have key: ∀(b B:Nat)(A:aj),b≠B->h.size<=b->h.size<=B->Fr No h A->A[b]? =some (.cells #[z,Z] t (0,0))->A[B]? =some (.cells #[z,Z] t (0,0))->
   aO A (AA b 0) X λE=>aO E (AA b 1) I λe=>G e/\i e/\aO e (AA B 0) y0 λC=>aO C (AA B 1) Y λD=>J (Sa b 0) (Sa B 0) D:=by
  intro b B A F K L f7 T U;have fr: ∀{v w:aj}{x:Nat},Fr No h v->h.size<=x->w.size=v.size->(∀y,y≠x->w[y]? =v[y]?)->Fr No h w:=λf hx hs ho=>
   ⟨bX f.1,λc hc hn=>by rw[ho c af];exact f.2 c hc hn⟩
  refine bH T bO λh8 V s8 O=>bH V bO λh9 W s9 P=> ?_
  have f9:=fr (fr f7 K s8 O) K s9 P;have a':h9[B]? =some (.cells #[z,Z] t (0,0)):=by rw[P _ F.symm,O _ F.symm];exact U
  refine⟨(r _ f9).1,(r _ f9).2.1,bH a' bO λe' Q c' M=>bH Q bO λb' S d' N=> ?_⟩;refine hJ b B b' ?_ S K L (fr (fr f9 L c' M) L d' N);rw[N _ F,M _ F];exact W
 have f1: ∀o,Fr No h (h.push o):=λo=>Fr.push _ _
 refine⟨?_,?_,trivial⟩
 .rintro b v rfl rfl;obtain⟨k,l,n,q⟩:=r _ (f1 _);refine⟨k,l,n,q,?_⟩;rintro B w rfl rfl;have f2:=Fr.tt (f1 (.cells #[z,Z] t)) (Fr.push (h.push (.cells #[z,Z] t)) (.cells #[z,Z] t));obtain⟨k,l,n,q⟩:=r _ f2;exact⟨k,l,n,q,key _ _ _ bO bO bO f2 (yi bR) bR⟩
 .rintro b v rfl rfl;obtain⟨k,l,n,q⟩:=r _ (f1 _);refine⟨k,l,n,q,?_⟩;rintro B w rfl rfl;have f2:=Fr.tt (f1 (.cells #[z,Z] t)) (Fr.push (h.push (.cells #[z,Z] t)) (.cells #[z,Z] t));obtain⟨k,l,n,q⟩:=r _ f2;exact⟨k,l,n,q,key _ _ _ bO bO bO f2 bR (yi bR)⟩
end bU
end
section
open Go.kk
namespace bU
variable {h:aj} {a m cap:Nat} {p:cg} {es:List E} {g:Int→Option Value} {R:fj}
variable {q i b:Nat}
theorem Qa(H:q<1000000):IntKind.wrap .i64 (Int.tdiv (IntKind.wrap .i64 ((q:Int) - 1)) 2)=(((q - 1)/2:Nat):Int):=by
 rw[bA (n:=(q:Int) - 1) af af];cases q with
 |zero=>decide
 |succ n=>
  rw[show((n+1:Nat):Int) - 1=(n:Int) by omega,show n+1 - 1=n from rfl];have:Int.tdiv (n:Int) 2=((n/2:Nat):Int):=by
   rw[Int.tdiv_eq_ediv_of_nonneg af];omega
  rw[this];exact bA af af
theorem Og(H:q<1000000):IntKind.wrap .i64 (IntKind.wrap .i64 (2*(q:Int))+1)=((2*q+1:Nat):Int):=by
 rw[bA (n:=2*(q:Int)) af af,bA af af];omega
theorem Oh(H:q<1000000):IntKind.wrap .i64 (IntKind.wrap .i64 (2*(q:Int))+2)=((2*q+2:Nat):Int):=by
 rw[bA (n:=2*(q:Int)) af af,bA af af];omega
theorem Ic{K:aj->Prop}(M:Mem h a p cap m es g)(u:hY es g){j B:Nat}(f:i<es.length)(k:j<es.length)(y:i≠j)(d:h[b]? =some (.cells #[.I (at_ es i).1,.U (at_ es i).2] 193 (0,0)))(x:h[B]? =some (.cells #[.I (at_ es j).1,.U (at_ es j).2] 193 (0,0)))(N: ¬inner p m B)(hk: ∀h' G,Mem h' a p cap m (oX es i j) G->hY (oX es i j) G->Fr (inner p m) h h'->K h'):
  aM (some ((AA b 0):Addr)) λA=>
   ∃(t:Int),aX h A=some (.I t)/\∃(T:Int),aX h (A.add 1)=some (.U T)/\
   Cl 116 #[.P a 0,.I (j:Int),.agg #[.I t,.U T]] h λv H=>
   v=.tuple #[]/\
   aM (some ((AA B 0):Addr)) λc=>
   ∃(l:Int),aX H c=some (.I l)/\∃(n:Int),aX H (c.add 1)=some (.U n)/\
   Cl 116 #[.P a 0,.I (i:Int),.agg #[.I l,.U n]] H λV w=>
   V=.tuple #[]/\K w:=by
 refine ay.2 ⟨_,ak d,_,by rw[gz];exact ak d,?_⟩;refine vC M k λz o f4=>⟨rfl,ay.2 ?_⟩
 have e:=f4.get x N;refine⟨_,ak e,_,by rw[gz];exact ak e,?_⟩;refine vC o (by rw[cY];exact f) λs r f5=>⟨rfl,hk s _ r (u.swap f k y) (Fr.tt f4 f5)⟩
def UC(H:aj)(a:Nat)(p:cg)(cap m:Nat)(e:List E)(i0:Nat)(i:Int)(h:aj):Prop:=
 ∃es g q,i=((q:Nat):Int)/\q<e.length/\es.length=e.length/\Mem h a p cap m es g/\hY es g/\es.Perm e/\sy (at_ es) e.length q/\
  ((q=i0/\es=e)\/yy (at_ es) e.length q)/\at_ es q=at_ e i0/\Fr (inner p m) H h
theorem Ie(M:Mem h a p cap m es g)(K:hY es g)(T:i<es.length)(hn:es.length<1000000)(ex:sy (at_ es) es.length i)(hk: ∀h' E G q,Mem h' a p cap m E G->hY E G->E.Perm es->E.length=es.length->q<es.length->at_ E q=at_ es i->sC (at_ E) es.length q->(yy (at_ es) es.length i->qa (at_ E) es.length)->Fr (inner p m) h h'->R (.tuple #[]) h'):
  Cl 117 #[.P a 0,.I (i:Int)] h R:=by
 refine yR.walk ⟨UC h a p cap m es i,λi _=>i.toNat,⟨es,g,i,rfl,T,rfl,M,K,.refl _,ex,.inl ⟨rfl,rfl⟩,rfl,Fr.refl _ _⟩,?_⟩;rintro i1 r ⟨e,B,q,rfl,v,u,c,P,x,o,kd,t,fr⟩;rw[Qa af];refine aG.of λJ s=> ?_
 have j:q<e.length:=af
 have H:(q - 1)/2<e.length:=af
 have S: ∀l,Fr No r l->(q=0\/le (at_ e ((q - 1)/2)) (at_ e q))->J false l:=by
  intro l f U;subst s;simp only[aq,aJ];have hd:=N0 o U;refine hk l e B q (c.calm f) P x u v t hd (λV=> ?_) (Fr.on fr f);rcases kd with⟨e1,e2⟩|kd
  .subst e1 e2;exact oN hd V
  .exact oN hd kd
 by_cases D:q=0
 .subst D;exact S r (Fr.refl _ _) (.inl rfl)
 .have Q:(q:Int)>0:=af
  simp only[Q,bu,bf,aD];obtain⟨X,rfl⟩:=c.some af;refine⟨_,_,_,c.hd,af,ay.2 ⟨_,c.c0 j,_,c.c1 j,_,_,_,c.hd,af,ay.2 ⟨_,c.c0 H,_,c.c1 H,uj λl f=>⟨_,rfl,(c.calm f).hd,(c.calm f).hd,?_⟩⟩⟩⟩;by_cases n:lt (at_ e q) (at_ e ((q - 1)/2))
  .rw[show decide (lt ((at_ e q).1,(at_ e q).2) ((at_ e ((q - 1)/2)).1,(at_ e ((q - 1)/2)).2))=true from au n];subst s;simp only[bf,aD];have d:=c.calm f;refine aG.of λW I=> ?_
   refine⟨_,_,_,d.hd,af,ay.2 ⟨_,d.c0 j,_,d.c1 j,_,_,_,d.hd,af,ay.2 ⟨_,d.c0 H,_,d.c1 H,?_⟩⟩⟩;refine Pw (λh' F=> ?_) (λb Y h' L N sb a' F=> ?_)
   .have k:=d.calm F;exact⟨⟨k.c0 H,k.c1 H,trivial⟩,k.hd,⟨k.c0 j,k.c1 j,trivial⟩,k.hd⟩
   .subst I;have y:=d.calm F;refine Ic y P j H af L N (λO=> ?_) λZ C z A f5=>⟨⟨oX e q ((q - 1)/2),C,(q - 1)/2,rfl,af,by rw[vp];exact u,z,A,(sD j H).trans x,?_⟩,?_⟩
    .have:=d.lt (.inr O);omega
    .have w:=N1 o af v rfl n;rw[Bu j H];refine⟨w.1,.inr w.2,?_,Fr.tt fr (Fr.no f (Fr.no F f5))⟩;rw[<-t];unfold nO;rw[dj,ag rfl]
    .show Int.toNat (((q - 1)/2:Nat):Int)<Int.toNat (q:Int);rw[aD,aD];omega
  .rw[show decide (lt ((at_ e q).1,(at_ e q).2) ((at_ e ((q - 1)/2)).1,(at_ e ((q - 1)/2)).2))=false from az n];exact S l f (.inr n)
theorem LV{J:Int->aj->Prop}(M:Mem h a p cap m es g){c:Nat}(y:b<es.length)(N:es.length<=c->J b h)(O:c<es.length->lt (at_ es c) (at_ es b)->∀h',Fr No h h'->J c h')(P:c<es.length->¬lt (at_ es c) (at_ es b)->∀h',Fr No h h'->J b h'):
  aG (λ(t43:Bool) (x:aj)=>
   aG (λ(K:Int) (L:aj)=>
    J K L)
   (λr=>
    if t43=true then
     r (c:Int) x
    else
     r (b:Int) x))
  (λo=>
   ∃(B:cg)(t z:Nat),aX h (AA a 0)=some (.slice B t z)/\
   if(decide ((c:Int)<(t:Int)))=true then
    ∃(k:cg)(T C:Nat),aX h (AA a 0)=some (.slice k T C)/\
    ((0:Int)<=(c:Int)/\(c:Int)<(T:Int))/\
    aM k λA=>
    ∃(D:Int),aX h (A.add (Int.toNat (c:Int)*2))=some (.I D)/\∃(E:Int),aX h ((A.add (Int.toNat (c:Int)*2)).add 1)=some (.U E)/\
    ∃(n:cg)(l F:Nat),aX h (AA a 0)=some (.slice n l F)/\
    ((0:Int)<=(b:Int)/\(b:Int)<(l:Int))/\
    aM n λs=>
    ∃(G:Int),aX h (s.add (Int.toNat (b:Int)*2))=some (.I G)/\∃(I:Int),aX h ((s.add (Int.toNat (b:Int)*2)).add 1)=some (.U I)/\
    Cl 170 #[.agg #[.I D,.U E],.agg #[.I G,.U I]] h λv H=>
    ∃(t42:Bool),v=.bool t42/\
    aX H (AA a 0)=some (.slice n l F)/\
    aX H (AA a 0)=some (.slice k T C)/\
    aX H (AA a 0)=some (.slice B t z)/\
    o t42 H
   else
    o false h):=by
 refine aG.of λQ w=>⟨_,_,_,M.hd,?_⟩
 by_cases d:c<es.length
 .have j:(c:Int)<(es.length:Int):=af
  simp only[j,bu,bf,aD];obtain⟨S,rfl⟩:=M.some af;refine⟨_,_,_,M.hd,af,ay.2 ⟨_,M.c0 d,_,M.c1 d,_,_,_,M.hd,af,ay.2 ⟨_,M.c0 y,_,M.c1 y,uj λu f=>⟨_,rfl,(M.calm f).hd,(M.calm f).hd,(M.calm f).hd,?_⟩⟩⟩⟩;subst w;by_cases e:lt (at_ es c) (at_ es b)
  .rw[show decide (lt ((at_ es c).1,(at_ es c).2) ((at_ es b).1,(at_ es b).2))=true from au e];simp only[bf,aG];exact O d e u f
  .rw[show decide (lt ((at_ es c).1,(at_ es c).2) ((at_ es b).1,(at_ es b).2))=false from az e];simp only[aq,aJ,aG];exact P d e u f
 .have j: ¬(c:Int)<(es.length:Int):=af
  subst w;simp only[j,bh,aq,aJ,aG];exact N af
def UD(H:aj)(a:Nat)(p:cg)(cap m:Nat)(e:List E)(i:Int)(h:aj):Prop:=
 ∃es g q,i=((q:Nat):Int)/\q<e.length/\es.length=e.length/\Mem h a p cap m es g/\hY es g/\es.Perm e/\sC (at_ es) e.length q/\Fr (inner p m) H h
def SQ(H:aj)(es:List E)(q:Nat)(B t:Int)(h:aj):Prop:=
 ∃b k:Nat,B=b/\t=k/\k<=2/\b<es.length/\Fr No H h/\(b≠q->(b - 1)/2=q/\0<b/\lt (at_ es b) (at_ es q))/\∀c,0<c->c<es.length->c<=2*q+k->(c - 1)/2=q->le (at_ es b) (at_ es c)
theorem CL(M:Mem h a p cap m es g)(hP:hY es g)(hi:i<es.length)(hn:es.length<1000000)(ex:sC (at_ es) es.length i)(hk: ∀h' E G,Mem h' a p cap m E G->hY E G->E.Perm es->E.length=es.length->qa (at_ E) es.length->Fr (inner p m) h h'->R (.tuple #[]) h'):
  Cl 169 #[.P a 0,.I (i:Int)] h R:=by
 refine vy.walk ⟨UD h a p cap m es,λi _=>es.length - i.toNat,⟨es,g,i,rfl,hi,rfl,M,hP,.refl _,ex,Fr.refl _ _⟩,?_⟩;rintro i1 I ⟨y,X,q,rfl,hq,N,Q,P,O,D,fr⟩;have r:q<y.length:=af
 rw[Og af,Oh af];refine⟨SQ I y q,λ_ t _=>2 - t.toNat,⟨q,0,rfl,rfl,af,r,Fr.refl _ _,λA=>absurd rfl A,λc I K z h4=>af⟩,?_⟩;rintro d' t K ⟨b,k,rfl,rfl,g',H,f2,s,w⟩;have d:=Q.calm f2;by_cases i':k<2
 .have a':(k:Int)<2:=af
  simp only[a',bu,bf];rw[bA (n:=(k:Int)+1) af af];refine aG.of λc' L=>⟨af,λe'=> ?_,λf'=> ?_,trivial⟩
  .obtain rfl:k=0:=af
   refine LV d H (λl=> ?_) (λl f z f3=> ?_) (λl f z f3=> ?_)<;>subst L<;>refine⟨?_,bO⟩
   .exact⟨b,1,rfl,rfl,af,H,f2,s,λc c1 C v o=>af⟩
   .refine⟨2*q+1,1,rfl,rfl,af,l,Fr.tt f2 f3,λ_=>⟨af,af,?_⟩,λc c1 C v o=> ?_⟩
    .by_cases e:b=q
     .rw[<-e];exact e▸f
     .exact lt_trans f (s e).2.2
    .have:c=2*q+1:=af
     subst this;exact le_refl _
   .refine⟨b,1,rfl,rfl,af,H,Fr.tt f2 f3,s,λc c1 C v o=> ?_⟩;have:c=2*q+1:=af
    subst this;exact f
  .obtain rfl:k=1:=af
   refine LV d H (λl=> ?_) (λl f z f3=> ?_) (λl f z f3=> ?_)<;>subst L<;>refine⟨?_,bO⟩
   .exact⟨b,2,rfl,rfl,af,H,f2,s,λc c1 C v o=>w c c1 C af o⟩
   .refine⟨2*q+2,2,rfl,rfl,af,l,Fr.tt f2 f3,λ_=>⟨af,af,?_⟩,λc c1 C v o=> ?_⟩
    .by_cases e:b=q
     .rw[<-e];exact e▸f
     .exact lt_trans f (s e).2.2
    .by_cases e:c=2*q+2
     .subst e;exact le_refl _
     .exact le_trans (le_of_lt f) (w c c1 C af o)
   .refine⟨b,2,rfl,rfl,af,H,Fr.tt f2 f3,s,λc c1 C v o=> ?_⟩;by_cases e:c=2*q+2
    .subst e;exact f
    .exact w c c1 C af o
 .obtain rfl:k=2:=af
  simp only[show¬((2:Nat):Int)<2 by omega,bh,aq,aJ];by_cases e:b=q
  .subst e;simp only[bne_self_eq_false,aq,aJ];refine hk K y X d P O N (oN D λj J j2 B=>w j J af af B) (Fr.on fr f2)
  .obtain⟨b1,V,W⟩:=s e;have A:((b:Int) !=(q:Int))=true:=by simp;omega
   simp only[A,bf,aD];obtain⟨ad,rfl⟩:=d.some af;refine aG.of λJ1 Z=> ?_
   refine⟨_,_,_,d.hd,af,ay.2 ⟨_,d.c0 r,_,d.c1 r,_,_,_,d.hd,af,ay.2 ⟨_,d.c0 H,_,d.c1 H,?_⟩⟩⟩;refine Pw (λh' F=> ?_) (λx x' h' hx b' sx j' F=> ?_)
   .have u:=d.calm F;exact⟨⟨u.c0 H,u.c1 H,trivial⟩,u.hd,⟨u.c0 r,u.c1 r,trivial⟩,u.hd⟩
   .subst Z;have S:=d.calm F;refine Ic S P r H (λx=>e x.symm) hx b' (λl=> ?_) λh5 Y T U f5=>⟨⟨oX y q b,Y,b,rfl,af,by rw[vp];exact N,T,U,(sD r H).trans O,?_,Fr.tt fr (Fr.no f2 (Fr.no F f5))⟩,?_⟩
    .have:=d.lt (.inr l);omega
    .rw[Bu r H];exact Jr D b1 V af W λj J j2 B=>w j J af af B
    .show es.length - Int.toNat (b:Int)<es.length - Int.toNat (q:Int);rw[aD,aD];omega

end bU
end
section
open Go.kk
namespace bU
variable {h:aj} {a m cap:Nat} {p:cg} {es:List E} {g:Int→Option Value} {R:fj} {S:Nat→Prop} {L:List E}
theorem tE:nJ Tryz.prog 189 193 2 16 (.agg #[.I 0,.U 0]):=⟨cU,cU,rfl⟩
theorem tI:nJ Tryz.prog 105 3 1 8 (.I 0):=⟨cU,cU,rfl⟩
def Good(L:List E):Prop:= ∀e∈L,1<=e.1/\e.1<=1099511627776/\0<=e.2/\e.2<=1099511627776
def Al(h:aj)(a:Nat)(S:Nat->Prop)(L:List E):Prop:=
 ∃p cap m es g,Mem h a p cap m es g/\hY es g/\qa (at_ es) es.length/\es.Perm L/\iW L/\Good L/\∀c,S c↔yS a p m c
theorem Al.lt(A:Al h a S L){c:Nat}(b:S c):c<h.size:=by
 obtain⟨p,cap,m,es,g,M,_,_,_,_,_,H⟩:=A;exact M.lt ((H c).1 b)
theorem Al.frame{Q:Nat->Prop}{h':aj}(A:Al h a S L)(e:Fr Q h h')(f: ∀c,S c->¬Q c):Al h' a S L:=by
 obtain⟨p,cap,m,es,g,M,P,H,pm,so,G,b⟩:=A;exact⟨p,cap,m,es,g,M.frame e λc d=>f c ((b c).2 d),P,H,pm,so,G,b⟩
theorem Al.sorted(A:Al h a S L):iW L:=by
 obtain⟨p,cap,m,es,g,M,P,H,pm,so,G,b⟩:=A;exact so
theorem Al.nodup(A:Al h a S L):(keys L).Nodup:=by
 obtain⟨p,cap,m,es,g,M,P,H,pm,so,G,b⟩:=A;exact(keys_perm pm).nodup_iff.1 P.1
theorem fw(M:Mem h a p cap m es g)(hk:R (.bool true) h):Cl 114 #[.P a 0] h R:=
 vx.walk ⟨some m,M.mp,hk⟩
theorem gC(hk: ∀a S h',Al h' a S []->(∀c,S c->h.size<=c)->Fr No h h'->R (.P a 0) h'):Cl 87 #[] h R:=by
 refine JC.walk ?_;rintro b i rfl rfl b1 k rfl rfl;have f:Fr No (h.push (.map #[] 0)) ((h.push (.map #[] 0)).push (.cells #[.Z,.map (some h.size)] 191)):=Fr.push _ _;refine hk _ (yS (h.push (.map #[] 0)).size none h.size) _ ⟨none,0,h.size, [],λ_=>none,⟨bR,.nil rfl rfl rfl rfl,(mF.push h).frame f id,?_⟩,⟨.nil,?_,λ_ _=>rfl⟩,?_,.refl _,.nil,?_,λ_=>eE⟩ ?_ (Fr.tt (Fr.push _ _) f)
 .rintro⟨_,e,_⟩;cases e
 .intro j H;simp at H
 .intro j _ H;simp at H
 .intro e d;cases d
 .rintro c (rfl|rfl|⟨_,e,_⟩)
  .simp
  .exact bk _
  .cases e
theorem CM(A:Al h a S L)(hk:R (.I (L.length:Int)) h):Cl 56 #[.P a 0] h R:=by
 obtain⟨p,cap,m,es,g,M,P,H,pm,so,G,b⟩:=A;refine xi.walk ⟨_,_,_,M.hd,?_⟩;rw[pm.length_eq];exact hk
def hd(L:List E):E:=L.headD (0,0)
theorem uk(A:Al h a S L)(hk:R (.tuple #[.I (hd L).1,.U (hd L).2,.bool (!L.isEmpty)]) h):Cl 171 #[.P a 0] h R:=by
 refine vA.walk (CM A ⟨_,rfl,?_⟩);obtain⟨p,cap,m,es,g,M,P,H,pm,so,G,k⟩:=A;cases L with
 |nil=>exact hk
 |cons e r=>
  have c:=pm.length_eq;simp only[aV]at c;have d:(((e::r).length:Int)==0)=false:=by simp only[aV,dC];omega
  simp only[d,aq,aJ];obtain⟨j,rfl⟩:=M.some af;obtain⟨l,f⟩:=Lr pm so H af;have b:at_ es 0=e:=(List.cons.inj f).1.symm;have c0:=M.c0 (i:=0) af;have c1:=M.c1 (i:=0) af;rw[b]at c0 c1;refine⟨_,_,_,M.hd,af,ay.2 ⟨_,c0,_,_,_,M.hd,af,ay.2 ⟨_,c1,hk⟩⟩⟩
theorem Qb{t:TypeId}{z Z x X:Value}{K:Nat->aj->Prop}(hk: ∀b h',h'[b]? =some (.cells #[x,X] t (0,0))->h.size<=b->Fr No h h'->K b h'):
  aQ h (.cells #[z,Z] t) λb d=>aO d (AA b 0) x λe=>aO e (AA b 1) X λH=>K b H:=by
 rintro b d rfl rfl;refine bH bR bO λe C s k=>bH C bO λH f l j=>hk _ H f (bk _) ⟨?_,λc i _=> ?_⟩
 .rw[l,s];simp
 .rw[j c af,k c af];exact(Fr.push (S:=λ_=>False) h _).2 c i id
theorem oR(A:Al h a S L)(hn:L.length<1000000)(key:Int)(O:key∈keys L->∀h',Al h' a S (fD L key)->Fr S h h'->R (.I 0) h')(k2:key∉keys L->R (.I 4) h):Cl 115 #[.P a 0,.I key] h R:=by
 obtain⟨p,cap,m,es,g,M,P,H,pm,so,gd,hS⟩:=A;have r':=pm.length_eq;refine vz.walk (fw M ⟨true,rfl,?_⟩);simp only[cV,aq,aJ];have w:=Co tm M.map key;by_cases v:key∈keys es
 .have O:=O ((keys_perm pm).mem_iff.1 v);clear k2;obtain⟨j,K,rfl⟩:=mem_keys v;obtain⟨n,k⟩: ∃n,es.length=n+1:=⟨es.length - 1,af⟩;rw[P.2.1 j K]at w;refine⟨some m,M.mp,(j:Int),true,w,?_⟩;simp only[cV,aq,aJ];obtain⟨b0,off,rfl⟩:=M.own.some (by rw[jH];omega);refine⟨_,_,_,M.hd,_,_,_,M.hd,?_⟩;rw[show IntKind.wrap .i64 ((es.length:Int) - 1)=(n:Int) by rw[bA af af];omega];simp only[aD];refine⟨af,ay.2 ⟨_,M.c0 (i:=n) af,_,M.c1 (i:=n) af,Qb λb h4 hb sb f4=> ?_⟩⟩;have r:=M.calm f4;have q':=M.own.le;have b':cK (some ((AA b0 off):Addr)) cap 0 2=some (AA b0 off):=by
   unfold cK;split
   .rfl
   .simp[gz]
  refine⟨_,_,_,r.hd,af,bH r.cQ bO λF c5 s5 k5=> ?_⟩;have f5:Fr (λc=>c=a) h4 F:=Fr.of_eq s5 k5;have tl:(es.take n).length=n:=by rw[bE];omega
  have s:Mem F a (Sa b0 off) cap m (es.take n) g:=by
   refine⟨?_,?_,r.map.frame f5 (λe=>M.am e.symm),M.ne⟩
   .rw[c5,b',tl];rfl
   .have o:=(r.own.frame f5 (λc d e=>M.ne (e▸d))).sub (l:=0) (u:=n) af af;rw[b',Eh,Nat.zero_mul,gv]at o;rw[tl];exact o
  refine⟨some m,s.mp,wK tm s.map λt m6 s6 k6=>⟨rfl,?_⟩⟩;have f6:Fr (λc=>c=m) F t:=Fr.of_eq s6 k6;have B:Mem t a (Sa b0 off) cap m (es.take n) (λx=>if x=(at_ es j).1 then none else g x):=
   ⟨f6.get s.cQ M.am,s.own.frame f6 (λc d e=>M.pm (e▸d)),m6,M.ne⟩
  have Y:Fr (yS a (Sa b0 off) m) h t:=Fr.no f4 (f5.trans f6 (λ_ _ e=> .inl e) (λ_ _ e=> .inr (.inl e)));have J: ∀c,yS a (Sa b0 off) m c->b≠c:=λc d e=>by have:=M.lt d;omega
  have I:=f6.get (f5.get hb (J a (.inl rfl))) (J m (.inr (.inl rfl)));refine aG.of λd' hJ=> ?_
  have done: ∀h' E G,Mem h' a (Sa b0 off) cap m E G->hY E G->qa (at_ E) E.length->E.Perm (cut es n j)->Fr (yS a (Sa b0 off) m) h h'->d' h':=by
   intro h' E G M' P' z n' f';subst hJ;exact O h' ⟨_,_,_,E,G,M',P',z,n'.trans (Ls k K P.1 pm),so.drop _,λe he=>gd e (ba.1 he).1,hS⟩ (f'.mono λc _ d=>(hS c).2 d)
  have y:=Js P k K;have cl:=Cz (j:=j) k;by_cases f:j<n
  .have N:(j:Int)<(n:Int):=af
   simp only[f,bf]at y;simp only[N,bu,bf];have D:(es.take n).set j ((at_ es n).1,(at_ es n).2)=cut es n j:=by unfold cut;rw[ag f]
   refine⟨_,ak I,_,ak I,vC B af λh8 V f8=>⟨rfl,?_⟩⟩;rw[D]at V;have ex:=Lt k f H;refine Ie V y af af (by rw[cl];exact ex) λh9 j' g9 q C W p' l9 q9 g' X _ f9=>⟨rfl,some m,C.mp,?_⟩
   have Q: ¬inner (Sa b0 off) m b:=λd=>J b (.inr d) rfl
   have a':=f9.get (f8.get I Q) Q;have c':=Bg tm C.map (at_ es n).1;have e9:at_ j' q=at_ es n:=by rw[g',oO k f,ag rfl]
   have Z:=W.2.1 q af;rw[e9]at Z;rw[Z]at c';refine⟨_,ak a',(q:Int),c',?_⟩;rw[<-l9]at X;refine CL C W af af X λl' i' k' U e' o' m' T f10=>⟨rfl,ak (f10.get a' Q),U.mp,?_⟩
   rw[<-m']at T;exact done l' i' k' U e' T (o'.trans p') (Y.trans (Fr.tt f8 (Fr.tt f9 f10)) cu (λ_ _ d=> .inr d))
  .have N: ¬(j:Int)<(n:Int):=af
   simp only[f,aJ]at y;simp only[N,bh,aq,aJ];have D:es.take n=cut es n j:=by unfold cut;rw[ae f]
   rw[D]at B;have z:=Lu k f H;exact done t _ _ B y (by rw[cl];exact z) (.refl _) Y
 .rw[P.2.2 key v]at w;exact⟨some m,M.mp,0,false,w,k2 λhx=>v ((keys_perm pm).mem_iff.2 hx)⟩
def may(key t:Int):Bool:=decide (1<=key) && decide (key<=1099511627776) && decide (t<=1099511627776)
theorem lJ{key t:Int}:may key t=true↔1<=key/\key<=1099511627776/\t<=1099511627776:=by simp[may,and_assoc]
def yT(L:List E)(key t:Int):List E:=tO (fD L key) (key,t)
theorem nU(L:List E)(key:Int):(fD L key).length<=L.length:=cr _ _
theorem Gg(A:Al h a S L)(hn:L.length<999999)(key t:Int)(ht:0<=t)(K:may key t=true->∀h' u,Al h' a u (yT L key t)->(∀c,u c->S c\/h.size<=c)->Fr S h h'->R (.I 0) h')(N:may key t=false->R (.I 1) h):Cl 51 #[.P a 0,.I key,.U t] h R:=by
 have A0:=A;obtain⟨p,cap,m,es,g,M, -, -, -, -, -, -⟩:=A;refine xm.walk (fw M ⟨true,rfl,?_⟩);clear M;simp only[cV,aq,aJ];refine aG.of λJ D=> ?_
 have no:may key t=false->J true h:=λn=>by subst D;exact N n
 by_cases d:key<1
 .simp only[d,bu,bf];exact no (by simp[may,show¬1<=key by omega])
 simp only[d,bh,aq,aJ];by_cases w:key>1099511627776
 .simp only[w,bu,bf];exact no (by simp[may,show¬key<=1099511627776 by omega])
 simp only[w,bh,aq,aJ];by_cases y:t>1099511627776
 .simp only[y,bu];exact no (by simp[may,show¬t<=1099511627776 by omega])
 simp only[y,bh];clear no N;have K:=K (lJ.2 ⟨af,af,af⟩);subst D;simp only[aq,aJ];have rest: ∀d e,Al d a S (fD L key)->Fr S h d->(∃(t25:Int),Value.I e=.I t25/\
    ∃(W:cg)(V U:Nat),aX d (AA a 0)=some (.slice W V U)/\
    aQ d (.cells #[.I 0,.U 0] 193) λb c'=>
    aU Tryz.prog (Builtin.append_ #[189,189] 189 #[.slice W V U,.slice (Sa b 0) 1 1]) c' λm' d'=>
    ∃(Z:cg)(Y X:Nat),m'=.slice Z Y X/\
    aO d' (AA a 0) (.slice Z Y X) λI=>
    ∃(l':cg)(T k':Nat),aX I (AA a 0)=some (.slice l' T k')/\
    Cl 116 #[.P a 0,.I (IntKind.wrap .i64 ((T:Int) - 1)),.agg #[.I key,.U t]] I λn' e'=>
    n'=.tuple #[]/\
    Cl 117 #[.P a 0,.I (IntKind.wrap .i64 ((T:Int) - 1))] e' λo' f'=>
    o'=.tuple #[]/\
    R (.I 0) f'):=by
  intro d e A1 f1;refine⟨e,rfl,?_⟩;have kn:=F0 L key;have dl:=nU L key;obtain⟨p,cap,m,es,g,M,P,H,pm,so,gd,f⟩:=A1;have p':=pm.length_eq;refine⟨_,_,_,M.hd,?_⟩;rintro b h4 rfl rfl;have F:Fr No d (d.push (.cells #[.I 0,.U 0] 193)):=Fr.push _ _;have row:Row (d.push (.cells #[.I 0,.U 0] 193)) (Sa d.size 0) (enc [(0,0)]):=.inr ⟨_,rfl,gA bR λj v hj=>by rw[bC];simpa[enc]using hj⟩;have r':d.size<=(d.push (.cells #[.I 0,.U 0] 193)).size:=F.1;have k:=M.calm F;refine dY tE (eT:=193) cU k.own row rfl (Ib _) af af λi C z Q _ f5 G=>⟨_,_,_,rfl,?_⟩
  rw[<-Gf]at Q;have b5:=f5.get k.cQ M.ne;have O: ¬aL i a:=λhc=>by
   rcases G a hc with hx|hx
   .exact M.ne hx
   .have:=aC k.cQ;omega
  have q': ¬aL i m:=λhc=>by
   rcases G m hc with hx|hx
   .exact M.pm hx
   .have:=k.map.lt;omega
  refine bH b5 bO λo c6 s6 k6=> ?_
  have f6:Fr (λc=>c=a) z o:=Fr.of_eq s6 k6;have r:Mem o a i C m (es++ [(0,0)]) g:=by
   refine⟨?_,?_,(k.map.frame f5 M.pm).frame f6 (λe=>M.am e.symm),O⟩
   .rw[c6,av];rfl
   .rw[av];exact Q.frame f6 (λc hc e=>O (e▸hc))
  refine⟨_,_,_,r.hd,?_⟩;have ew:IntKind.wrap .i64 ((((es++ [((0,0):E)]).length:Nat):Int) - 1)=(es.length:Int):=by
   rw[av,dy,bA af af];omega
  rw[ew];refine vC r (by rw[av,dy];omega) λh7 s f7=>⟨rfl,?_⟩
  have a':(es++ [((0,0):E)]).set es.length (key,t)=es++ [(key,t)]:=by
   rw[List.set_append_right _ _ (bk _)];simp
  rw[a']at s;have i':key∉keys es:=λhx=>kn ((keys_perm pm).mem_iff.1 hx)
  have P7:=Jt (x:=(key,t)) P i';obtain⟨ex,kd⟩:=Lv (x:=(key,t)) H;have l7:(es++ [(key,t)]).length=es.length+1:=bO
  rw[<-l7]at ex kd;refine Ie s P7 af af ex λB b' g8 q M8 P8 j' l8 _ _ _ l f8=>⟨rfl,?_⟩
  have l:=l kd;rw[<-l8]at l;have gf: ∀c,yS a i m c->S c\/h.size<=c:=by
   rintro c (rfl|rfl|hc)
   .exact .inl ((f _).2 (.inl rfl))
   .exact .inl ((f _).2 (.inr (.inl rfl)))
   .rcases G c hc with hx|hx
    .exact .inl ((f _).2 (.inr (.inr hx)))
    .have:=f1.1;exact .inr af
  refine K B (yS a i m) ⟨i,C,m,b',g8,M8,P8,l,?_,so.insert _ kn,?_,λ_=>eE⟩ gf ?_
  .exact j'.trans ((dR _ _).trans ((pm.cons _).trans (lE _ _).symm))
  .intro e he;rcases bJ.1 ((lE _ _).mem_iff.1 he)with rfl|hx
   .exact⟨by simp only;omega,by simp only;omega,ht,by simp only;omega⟩
   .exact gd e hx
  .have g': ∀c,c<d.size->yS a i m c->S c:=λc hc hx=>by
    rcases hx with rfl|rfl|hx
    .exact(f _).2 (.inl rfl)
    .exact(f _).2 (.inr (.inl rfl))
    .rcases G c hx with hy|hy
     .exact(f _).2 (.inr (.inr hy))
     .omega
   have g1:Fr S d z:=Fr.no F (f5.mono λc _ hc=>(f c).2 (.inr (.inr hc)));have g2:Fr S d o:=g1.trans f6 cu (λc _ e=>(f c).2 (.inl e));have g3:Fr S d B:=g2.trans (Fr.tt f7 f8) cu (λc hc hx=>g' c hc (.inr hx));exact Fr.tt f1 g3
 refine oR A0 af key (λn d A1 f1=>rest d 0 A1 f1) (λn=> ?_);refine rest h 4 ?_ (Fr.refl _ _);rw[jL n];exact A0
def iZ(now:Int)(e:E):Bool:=decide (e.2<=now)
def due(L:List E)(now:Int):List E:=L.takeWhile (iZ now)
def rest(L:List E)(now:Int):List E:=L.dropWhile (iZ now)
def kc(L:List E):List Value:=(keys L).map (.int .i64 ·)
theorem JD{D T:List E}{now:Int}(hd: ∀e∈D,iZ now e=true)(c: ∀e r,T=e::r->iZ now e=false):due (D++T) now=D/\rest (D++T) now=T:=by
 unfold due rest;induction D with
 |nil=>
  cases T with
  |nil=>exact⟨rfl,rfl⟩
  |cons e r=>simp[List.takeWhile,List.dropWhile,c e r rfl]
 |cons d D i=>
  have H:=hd d dh;obtain⟨i1,i2⟩:=i λe b=>hd e (cp _ b)
  simp only[dp,List.takeWhile_cons,List.dropWhile_cons,H,bf];exact⟨by rw[i1],i2⟩
def Rk(H:aj)(a:Nat)(S:Nat->Prop)(L:List E)(now:Int)(out:cg)(l c:Nat)(key t:Int)(is:Bool)(h:aj):Prop:=
 ∃D T,L=D++T/\(∀e∈D,iZ now e=true)/\Al h a S T/\key=(hd T).1/\t=(hd T).2/\is= !T.isEmpty/\l=D.length/\fi h out l c 1 (kc D)/\(∀x,aL out x->H.size<=x)/\Fr S H h
theorem CN(A:Al h a S L)(X:L.length<999999)(now:Int)(hk: ∀h' P C,Al h' a S (rest L now)->fi h' P (due L now).length C 1 (kc (due L now))->(∀c,aL P c->h.size<=c)->Fr S h h'->R (.slice P (due L now).length C) h'):
  Cl 118 #[.P a 0,.U now] h R:=by
 refine vB.walk (uk A ⟨_,_,_,rfl,?_⟩);refine⟨Rk h a S L now,λ_ l _ _ _ _ _=>L.length - l,⟨[],L,rfl,(λ_ I=>by cases I),A,rfl,rfl,rfl,rfl,.nil rfl rfl rfl rfl,(λc ⟨_,e,_⟩=>by cases e),Fr.refl _ _⟩,?_⟩;rintro out l c key t is H ⟨D,U,E,s,n,rfl,rfl,rfl,rfl,o2,o,f2⟩;refine aG.of λJ u=> ?_
 have stop:(∀e r,U=e::r->iZ now e=false)->J false H:=λN=>by
  subst u;simp only[aq,aJ];obtain⟨e1,e2⟩:=JD s N;rw[<-E]at e1 e2;rw[<-e1];rw[<-e1]at o2;exact hk H out c (by rw[e2];exact n) o2 o f2
 cases U with
 |nil=>exact stop (λe r x=>by cases x)
 |cons e U=>
  simp only[List.isEmpty_cons,ee,bf];by_cases i:e.2<=now
  .rw[show decide ((hd (e::U)).2<=now)=true from au i];subst u;simp only[bf];rintro b T rfl rfl;have W:L.length=D.length+(U.length+1):=by rw[E];simp
   have f:Fr No H (H.push (.cells #[.I (hd (e::U)).1] 3)):=Fr.push _ _;have row:Row (H.push (.cells #[.I (hd (e::U)).1] 3)) (Sa H.size 0) (kc [e]):=.inr ⟨_,rfl,gA bR λj v K=>by rw[bC];simpa[kc,keys,hd]using K⟩;have sz:H.size<=(H.push (.cells #[.I (hd (e::U)).1] 3)).size:=f.1;refine dY tI (eT:=3) cU (o2.frame f λ_ _=>id) row rfl (λv y=>by simp[kc,keys]at y;subst y;rfl) af af λP C F O _ f5 G=>⟨_,_,_,rfl,?_⟩
   have B:kc D++kc [e]=kc (D++ [e]):=by simp[kc,keys]
   rw[B]at O;have w: ∀{c},S c->c<h.size:=λd=>A.lt d
   have q:=(n.frame f λ_ _=>id).frame f5 (λc d hx=>gF (o c hx) (w d));have z: ∀c,aL P c->h.size<=c:=λc d=>by
    rcases G c d with hx|hx
    .exact o c hx
    .have:=f2.1;omega
   have f25:Fr S h F:=f2.trans (Fr.no f f5) cu (λc d hx=>bX (o c hx));refine oR q (by simp;omega) _ (λ_ V k f6=>⟨_,rfl,?_⟩) (λM=>absurd (by exact dh) M);rw[show fD (e::U) (hd (e::U)).1=U from Ga q.nodup]at k;refine uk k ⟨_,_,_,rfl,⟨D++ [e],U,by rw[E];simp,?_,k,rfl,rfl,rfl,bO,?_,z,Fr.tt f25 f6⟩,?_⟩
   .intro x hx;rcases bN.1 hx with hx|hx
    .exact s x hx
    .simp at hx;subst hx;exact au i
   .exact O.frame f6 λc d hx=>by have:=z c d;have:=w hx;omega
   .show L.length - (D.length+1)<L.length - D.length;omega
  .rw[show decide ((hd (e::U)).2<=now)=false from az i];exact stop λQ r x=>by cases x;exact az i

end bU
end
section
variable {h:aj} {R:fj}
variable {b d c S s:Nat} {x X f num owner:Int} {e g:cg}
theorem Gh.walk(i:Cl 87 #[] h λv H=>Vp v λt1=>aQ H (.cells #[.Z,.I 1,.I 0,.I 0,.I 0,.pointer t1] 145) λb a=>R (.P b 0) a):Cl 38 #[] h R:=aN (lq ll) Tryz.func38 i
theorem xp.walk(H: ∃t9,Cc h b 5 (.pointer t9)/\R (.bool (!t9.isNone)) h):Cl 70 #[.P b 0] h R:=aN (lq ll) Tryz.func70 H
theorem AE.walk(m:aQ h (.cells #[.I x,.I X,.slice e d c,.U f] 119) λb k=>aQ k (.cells #[.I 0,.I 0,.Z,.U 0] 119) λB H=>Hl H b 2 λz y w=>Cl 50 #[.slice z y w] H λv l=> ∃j T t,v=.slice j T t/\aO l (AA b 2) (.slice j T t) λa=>aS.LD a (AA b 0) λA C F E D G=>aS.ST a (AA B 0) A C F E D G λi=>aS.LD i (AA B 0) λr n q p o u=>R (.agg #[.I r,.I n,.slice q p o,.U u]) i):Cl 88 #[.agg #[.I x,.I X,.slice e d c,.U f]] h R:=aN (lq (lq ll)) Tryz.func88 m
theorem CO.walk(a:aQ h (.cells #[.I x,.I X,.slice e d c,.U f] 119) λb H=> ∃t4,Cc H b 1 (.I t4)/\if(decide (t4≥1))then∃t8,Cc H b 1 (.I t8)/\if(decide (t8<=1099511627776))then∃j t i,Cc H b 2 (.slice j t i)/\if(decide (((t:Nat):Int)≥1))then∃l T k,Cc H b 2 (.slice l T k)/\if(decide (((T:Nat):Int)<=600))then∃t25,Cc H b 3 (.U t25)/\R (.bool (decide (t25<=1099511627776))) H else R (.bool false) H else R (.bool false) H else R (.bool false) H else R (.bool false) H):Cl 280 #[.agg #[.I x,.I X,.slice e d c,.U f]] h R:=aN (lq ll) Tryz.func280 a
theorem xq.walk(i:aQ h (.cells #[.I num] 3) λB H=>Hl H b 0 λj T t=>Cl 153 #[.slice j T t,.func (.func 173) #[] #[.P B 0]] H λv a=> ∃t10,v=.I t10/\R (.I t10) a):Cl 122 #[.P b 0,.I num] h R:=aN (lq ll) Tryz.func122 i
theorem um.walk{c0:Nat}(a:aQ h (.cells #[.I x,.I X,.slice e d c,.U f] 119) λb H=>Hi H b 0 λt5=> ∃t6,Cc H c0 0 (.I t6)/\R (.bool (t5==t6)) H):Cl 173 #[.agg #[.I x,.I X,.slice e d c,.U f],.P c0 0] h R:=aN (lq ll) Tryz.func173 a
theorem yU.walk{i:Int} (A:aQ h (.cells #[.I 0,.I 0,.Z,.U 0] 119) λq H=>Hl H b 0 λd' c' f'=>Bd i c'/\aM d' λa=>aS.LD H (a.add (toNat i*4)) λJ K N M L O=>aQ H (.cells #[.I 0,.I 0,.Z,.U 0] 119) λB z=>aS.ST z (AA B 0) J K N M L O λk=>Hp k b 5 λt16=>Hi k B 0 λt18=>Cl 115 #[.pointer t16,.I t18] k λv l=>Vi v λt19=>Hl l b 0 λo w t=>((0:Int)<=i/\i<=(t:Int))/\Hl l b 0 λp j T=>((0:Int)<=wrap .i64 (i+1)/\wrap .i64 (i+1)<=(j:Int))/\aQ l (.cells #[.slice (cK o t 0 4) ((toNat i) - 0) (t - 0),.slice (cK p T (toNat (wrap .i64 (i+1))) 4) (j - (toNat (wrap .i64 (i+1)))) (T - (toNat (wrap .i64 (i+1))))] 86) λy m=>Cc m b 0 (.slice p j T)/\Cc m b 0 (.slice o w t)/\Cl 172 #[.slice (Sa y 0) 2 2] m λe' n=>Vl e' λU Q P=>Cc n b 0 (.slice p j T)/\Cc n b 0 (.slice o w t)/\aO n (AA b 0) (.slice U Q P) λr=>aS.LD r (AA B 0) λV W a' Z Y b'=>aS.ST r (AA q 0) V W a' Z Y b' λu=>aS.LD u (AA q 0) λC D G F E I=>R (.agg #[.I C,.I D,.slice G F E,.U I]) u):Cl 121 #[.P b 0,.I i] h R:=aN (lq (lq (sq (pN 7) (sq (pN 19) ll)))) Tryz.func121 A
theorem yV.walk(F:Cl 70 #[.P b 0] h λv j=>Vb v λt7=>aG (λ(L:cg) (K G:Nat) (A:aj)=>R (.slice L K G) A) (λJ=>if t7 then Hl j b 0 λN n h'=> ∃(I:cg->Nat->Nat->Int->aj->Prop)(M:cg->Nat->Nat->Int->aj->Nat),I none 0 0 0 j/\∀(i:cg)(O o:Nat)(t13:Int)(H:aj),I i O o t13 H->if(decide (t13<(n:Int)))then Bd t13 n/\aM N λa=>aS.LD H (a.add (toNat t13*4)) λP Q W V U Y=>aQ H (.cells #[.I 0,.I 0,.Z,.U 0] 119) λB C=>aS.ST C (AA B 0) P Q W V U Y λl=>aS.LD l (AA B 0) λZ a' d' c' b' e'=>Cl 88 #[.agg #[.I Z,.I a',.slice d' c' b',.U e']] l λf' D=> ∃p q w u r y,f'=.agg #[.I p,.I q,.slice w u r,.U y]/\aQ D (.cells #[.I p,.I q,.slice w u r,.U y] 119) λz E=>aU Tryz.prog (Builtin.append_ #[86,86] 86 #[.slice i O o,.slice (Sa z 0) 1 1]) E λg' m=> ∃k T t,g'=.slice k T t/\(I k T t (wrap .i64 (t13+1)) m/\M k T t (wrap .i64 (t13+1)) m<M i O o t13 H)else J i O o H else J none 0 0 j)):Cl 39 #[.P b 0] h R:=aN (lq (lq (sq (lq (.join [(3,.one (.slice))] (cq (lq (bq (.loop [(3,.one (.slice)),(13,.one (.int .i64))] (lq (sq (cq lf lf) (sq (bq ll) lf)))))) lf))) ll))) Tryz.func39 F
theorem yW.walk{k:cg}{j D:Nat}{V:Int}(L:Cl 70 #[.P b 0] h λv a=> ∃t12,v=.bool t12/\if(!t12)then R (.tuple #[.I 0,.I 6]) a else Hi a b 1 λt17=>Cl 88 #[.agg #[.I t17,.I owner,.slice k j D,.U V]] a λf' I=> ∃t T r q p u,f'=.agg #[.I t,.I T,.slice r q p,.U u]/\aQ I (.cells #[.I 0,.I 0,.Z,.U 0] 119) λB J=>aS.ST J (AA B 0) t T r q p u λm=>aS.LD m (AA B 0) λM N Q P O U=>Cl 280 #[.agg #[.I M,.I N,.slice Q P O,.U U]] m λg' H=> ∃t25,g'=.bool t25/\if(!t25)then R (.tuple #[.I 0,.I 1]) H else∃Y w W,Cc H b 0 (.slice Y w W)/\if(decide (((w:Nat):Int)≥16))then R (.tuple #[.I 0,.I 15]) H else Hl H b 0 λA z y=>aS.LD H (AA B 0) λZ a' d' c' b' e'=>aQ H (.cells #[.I Z,.I a',.slice d' c' b',.U e'] 119) λG n=>Cc n b 0 (.slice A z y)/\aU Tryz.prog (Builtin.append_ #[86,86] 86 #[.slice A z y,.slice (Sa G 0) 1 1]) n λh' K=> ∃F E C,h'=.slice F E C/\aO K (AA b 0) (.slice F E C) λo=> ∃t47,Cc o b 1 (.I t47)/\aO o (AA b 1) (.I (wrap .i64 (t47+1))) λi=>Hp i b 5 λt54=>Hi i B 0 λt56=>Cl 51 #[.pointer t54,.I t56,.U V] i λi' l=>Vi i' λt58=> ∃t60,Cc l B 0 (.I t60)/\R (.tuple #[.I t60,.I 0]) l):Cl 240 #[.P b 0,.I owner,.slice k j D,.U V] h R:=aN (lq (sq (lq (cq ll lf)) (lq (sq (bq (lq (cq ll (lq (cq ll lf))))) (sq (pN 11) (lq (sq (pN 8) ll))))))) Tryz.func240 L
theorem uo.walk(l:Cl 70 #[.P b 0] h λv i=> ∃t9,v=.bool t9/\if(!t9)then R (.I 6) i else Cl 122 #[.P b 0,.I num] i λV H=> ∃t13,V=.I t13/\if(decide (t13<0))then R (.I 4) H else Hl H b 0 λT t w=>Bd t13 t/\aM T λa=> ∃t25,aX H ((a.add (toNat t13*4)).add 1)=some (.I t25)/\if(t25 !=owner)then R (.I 13) H else Cl 121 #[.P b 0,.I t13] H λu j=> ∃m n q p o r,u=.agg #[.I m,.I n,.slice q p o,.U r]/\∃t34,Cc j b 3 (.I t34)/\aO j (AA b 3) (.I (wrap .i64 (t34+1))) λk=>R (.I 0) k):Cl 152 #[.P b 0,.I num,.I owner] h R:=aN (lq (sq (lq (cq ll lf)) (lq (sq (bq (lq (cq ll (lq (cq ll lf))))) (lq (lq ll)))))) Tryz.func152 l
theorem xr.walk{now:Int}(G:Cl 70 #[.P b 0] h λv j=>Vb v λt9=>aG (λ(M:cg) (L K:Nat) (A:aj)=>R (.slice M L K) A) (λJ=>if t9 then Hp j b 5 λt13=>Cl 118 #[.pointer t13,.U now] j λV C=>Vl V λN t W=> ∃(I:cg->Nat->Nat->Int->aj->Prop)(m:cg->Nat->Nat->Int->aj->Nat),I none 0 0 0 C/\∀(i:cg)(O o:Nat)(t17:Int)(H:aj),I i O o t17 H->if(decide (t17<(t:Int)))then Bd t17 t/\aM N λa=>jV H (a.add (toNat t17*1)) λt20=>Cl 122 #[.P b 0,.I t20] H λP D=>Vi P λt25=>Cl 121 #[.P b 0,.I t25] D λQ E=> ∃T n r q p u,Q=.agg #[.I T,.I n,.slice r q p,.U u]/\aQ E (.cells #[.I T,.I n,.slice r q p,.U u] 119) λB F=>aU Tryz.prog (Builtin.append_ #[86,86] 86 #[.slice i O o,.slice (Sa B 0) 1 1]) F λU k=>Vl U λz y w=> ∃t32,Cc k b 4 (.I t32)/\aO k (AA b 4) (.I (wrap .i64 (t32+1))) λl=>(I z y w (wrap .i64 (t17+1)) l/\m z y w (wrap .i64 (t17+1)) l<m i O o t17 H)else J i O o H else J none 0 0 j)):Cl 54 #[.P b 0,.U now] h R:=aN (lq (lq (sq (lq (.join [(5,.one (.slice))] (cq (lq (bq (.loop [(5,.one (.slice)),(17,.one (.int .i64))] (lq (sq (cq lf lf) (sq (bq (lq ll)) lf)))))) lf))) ll))) Tryz.func54 G
theorem fh.find.walk{F:Nat}(j: ∃(I:Int->aj->Prop)(m:Int->aj->Nat),I 0 h/\∀(t8:Int)(H:aj),I t8 H->if(decide (t8<(S:Int)))then Bd t8 S/\aM g λa=>aS.LD H (a.add (toNat t8*4)) λt T n l k o=>Cl 173 #[.agg #[.I t,.I T,.slice n l k,.U o],.P F 0] H λv i=> ∃t16,v=.bool t16/\if t16 then R (.I t8) i else(I (wrap .i64 (t8+1)) i/\m (wrap .i64 (t8+1)) i<m t8 H)else R (.I (-1)) H):Cl 153 #[.slice g S s,.func (.func 173) #[] #[.P F 0]] h R:=aN (lq (sq (lq (bq (.loop [(8,.one (.int .i64))] (lq (sq (cq lf lf) (sq (bq (lq (lq (cq ll lf)))) lf)))))) ll)) Tryz.func153 j
theorem je.walk{m:cg}{j D:Nat} (C: ∃(I:Int->Int->aj->Prop)(M:Int->Int->aj->Nat),I 0 0 h/\∀(size:Int)(t11:Int)(H:aj),I size t11 H->if(decide (t11<(j:Int)))then aG (λ(u:Int) (p:aj)=>(I u (wrap .i64 (t11+1)) p/\M u (wrap .i64 (t11+1)) p<M size t11 H)) (λJ=>Bd t11 j/\aM m λa=>te H (a.add (toNat t11*1)) λQ w P=>aG (λ(z:aj)=>J (wrap .i64 (size+(w:Int))) z) (λy=>if(decide ((wrap .i64 (size+(w:Int)))<0))then False else y H))else Cl 199 #[.Z,.I size] H λv B=>Vl v λG F E=> ∃(l:cg->Nat->Nat->Int->aj->Prop)(r:cg->Nat->Nat->Int->aj->Nat),l G F E 0 B/\∀(k:cg)(N n:Nat)(t27:Int)(i:aj),l k N n t27 i->if(decide (t27<(j:Int)))then Bd t27 j/\aM m λA=>te i (A.add (toNat t27*1)) λO L K=>aU Tryz.prog (Builtin.append_ #[86,86] 86 #[.slice k N n,.slice O L K]) i λV q=> ∃o T t,V=.slice o T t/\(l o T t (wrap .i64 (t27+1)) q/\r o T t (wrap .i64 (t27+1)) q<r k N n t27 i)else R (.slice k N n) i):Cl 172 #[.slice m j D] h R:=aN (lq (lq (sq (lq (bq (.loop [(3,.one (.int .i64)),(11,.one (.int .i64))] (lq (sq (cq lf lf) (sq (.join [(3,.one (.int .i64))] (bq (lq (lq (lq (.join [] (cq lf lf))))))) lf)))))) (lq (sq (lq (bq (.loop [(6,.one (.slice)),(27,.one (.int .i64))] (lq (sq (cq lf lf) (sq (bq ll) lf)))))) ll))))) Tryz.func172 C
theorem jm.walk{n:Int} (k:aG (λ(H:aj)=>aG (λ(o:cg) (m l:Nat) (a:aj)=>R (.slice o m l) a) (λj=>if(decide ((wrap .i64 (n - (wrap .i64 ((s:Int) - (S:Int)))))>0))then((0:Int)<=(s:Int)/\(s:Int)<=(s:Int))/\aU Tryz.prog (Builtin.append_ #[86,3] 86 #[.slice (cK g s 0 4) ((toNat (s:Int)) - 0) (s - 0),.I (wrap .i64 (n - (wrap .i64 ((s:Int) - (S:Int)))))]) H λv i=>Vl v λT p t=>((0:Int)<=(S:Int)/\(S:Int)<=(t:Int))/\j (cK T t 0 4) ((toNat (S:Int)) - 0) (t - 0) i else j g S s H)) (λJ=>if(decide (n<0))then False else J h)):Cl 199 #[.slice g S s,.I n] h R:=aN (lq (sq (lq (.join [] (cq lf lf))) (sq (lq (lq (.join [(0,.one (.slice))] (cq lf lf)))) ll))) Tryz.func199 k

end
section
open Go.fM Go.kk
namespace gD
open iD
variable {h h':aj} {b:Nat} {X:Ft} {R:fj} {p q:cg} {c d i:Nat} {L:List E}
structure It where
 num:Nat
 owner:Int
 d:cH
 bV:Nat
structure IV where
 num:Nat
 owner:Int
 v:BV
 bV:Nat
def IV.abs(x:IV):It:=⟨x.num,x.owner,x.v.b,x.bV⟩
abbrev fZ(x:IV):List Value:= [.int .i64 (x.num:Int),.int .i64 x.owner,x.v.val,.int .u64 (x.bV:Int)]
theorem gI(x:IV):(fZ x).length=4:=rfl
theorem Ei(xs:List IV): ∀v∈xs.flatMap fZ,fI v=true:=by
 intro v e;obtain⟨a,_,H⟩:=List.mem_flatMap.1 e;simp at H;rcases H with rfl|rfl|rfl|rfl<;>rfl
abbrev IV.agg(x:IV):Value:=.agg #[.int .i64 (x.num:Int),.int .i64 x.owner,x.v.val,.int .u64 (x.bV:Int)]
theorem tI:nJ Tryz.prog 86 119 4 48 (.agg #[.I 0,.I 0,.Z,.U 0]):=⟨cU,cU,rfl⟩
theorem uI:Tryz.prog.underlying 86=some (.slice 119):=cU
theorem SR:Tryz.prog.underlying 3=some (.int .i64):=cU
structure BS where
 items:List It
 next:Nat
 taken:Nat
 ps:Nat
 over:Nat
structure Mm (h:aj) (b:Nat) (X:Ft) (s:BS) (L:List E) (t:cg) (r:Nat) (xs:List IV) (a:Nat) (S:Nat->Prop):Prop where
 cQ:h[b]? =some (.cells #[.slice t xs.length r,.int .i64 (s.next:Int),.int .i64 (s.taken:Int),.int .i64 (s.ps:Int),.int .i64 (s.over:Int),.pointer (some ⟨a,0,none⟩)] 145 (0,0))
 own:fi h t xs.length r 4 (xs.flatMap fZ)
 al:bU.Al h a S L
 abs:xs.map IV.abs=s.items
 Ar: ∀x∈xs,x.v.ok h X.D
 m: ∀c,X.M c↔c=b\/aL t c\/S c
 bl: ¬aL t b
 bs: ¬S b
 ls: ∀c,aL t c->¬S c
 vr: ∀c,X.M c->¬X.D c
 Dw: ∀c,X.D c->c<h.size
def Bx(h:aj)(b:Nat)(X:Ft)(s:BS)(L:List E):Prop:= ∃t r xs a S,Mm h b X s L t r xs a S
variable {s : BS} {t : Option Addr} {r a : Nat} {xs : List IV} {S : Nat → Prop}
theorem Mm.lt(H:Mm h b X s L t r xs a S)(y:Nat)(hy:X.M y\/X.D y):y<h.size:=by
 rcases hy with hy|hy
 .rcases(H.m y).1 hy with rfl|h1|h1
  .exact aC H.cQ
  .exact H.own.dV h1
  .exact H.al.lt h1
 .exact H.Dw y hy
theorem Bx.lt(H:Bx h b X s L)(y:Nat)(e:X.M y\/X.D y):y<h.size:=by
 obtain⟨t,r,xs,a,S,H⟩:=H;exact H.lt y e
theorem Mm.frame{Q:Nat->Prop}(H:Mm h b X s L t r xs a S)(f:Fr Q h h')(j: ∀y,X.M y\/X.D y->¬Q y):Mm h' b X s L t r xs a S:=
 have g: ∀y,X.M y->¬Q y:=λy e=>j y (.inl e)
 ⟨f.get H.cQ (g b ((H.m b).2 (.inl rfl))),H.own.frame f (λy e=>g y ((H.m y).2 (.inr (.inl e)))),H.al.frame f (λy e=>g y ((H.m y).2 (.inr (.inr e)))),H.abs,λx k=>(H.Ar x k).frame f (λy e=>j y (.inr e)),H.m,H.bl,H.bs,H.ls,H.vr,λy e=>ct (H.Dw y e) f.1⟩
theorem Bx.frame{Q:Nat->Prop}(H:Bx h b X s L)(f:Fr Q h h')(e: ∀y,X.M y\/X.D y->¬Q y):Bx h' b X s L:=by
 obtain⟨t,r,xs,a,S,H⟩:=H;exact⟨t,r,xs,a,S,H.frame f e⟩
theorem Mm.on(H:Mm h b X s L t r xs a S)(f:Fr No h h'):Mm h' b X s L t r xs a S:=H.frame f cu
theorem Mm.len(H:Mm h b X s L t r xs a S):xs.length=s.items.length:=by rw[<-H.abs,aF]
theorem fw(H:Mm h b X s L t r xs a S)(hk:R (.bool true) h):Cl 70 #[.P b 0] h R:=
 xp.walk ⟨_,ak H.cQ,hk⟩
theorem gC(hk: ∀h' b X,Bx h' b X ⟨[],1,0,0,0⟩ []->Fr No h h'->(∀y,X.M y\/X.D y->h.size<=y)->R (.P b 0) h'):Cl 38 #[] h R:=by
 refine Gh.walk (bU.gC λa S H A1 g f1=>⟨_,rfl,cG ?_⟩);have f2:Fr No H (H.push (.cells #[.Z,.I 1,.I 0,.I 0,.I 0,.P a 0] 145)):=Fr.push _ _;have z:=f1.1;refine hk _ H.size ⟨λy=>y=H.size\/aL none y\/S y,λ_=>False⟩ ⟨none,0, [],a,S,⟨bR,.nil rfl rfl rfl rfl,A1.frame f2 cu,rfl,(λx f=>by cases f),λ_=>eE,(λ⟨a,e,_⟩=>by cases e),λhs=> ?_,(λy ⟨a,e,_⟩=>by cases e),λ_ _=>id,λ_ hy=>hy.elim⟩⟩ (f1.tt f2) ?_
 .have:=A1.lt hs;omega
 .rintro y ((rfl|⟨a,e,_⟩|hs)|hy)
  .exact z
  .cases e
  .exact g y hs
  .exact hy.elim
theorem qX{x j k:Int}{bs:cH}{n m:Nat}(J:Row h p (bc bs))(f:n=bs.length)(I:bs.length<=70368744177664)(hk: ∀h' P C,fi h' P bs.length C 1 (bc bs)->Fr No h h'->(∀y,aL P y->h.size<=y)->R (.agg #[.I x,.I j,.slice P bs.length C,.U k]) h'):
  Cl 88 #[.agg #[.I x,.I j,.slice p n m,.U k]] h R:=by
 subst f;refine AE.walk (aS.box λb1 W U v f1=>aS.box λB Y V z f2=> ?_);have w:=f2.get v id;refine⟨_,_,_,ak w,hC (J.frame (f1.tt f2) cu) rfl I λD l g Q f3 G=>⟨_,_,_,rfl,?_⟩⟩;have l1:=aC v;have l2:=aC z;have K:=f3.get w id;have M:aS.at g B 0 0 none 0 0 0:=f3.get z id;have Z:=f1.1;have z2:=f2.1;have ne:B≠b1:=af
 refine bH K bO λo E T A=> ?_
 have N:aS.at o b1 x j D bs.length l k:=E;refine aS.ld N ?_;have O:aS.at o B 0 0 none 0 0 0:=(A B ne).trans M;refine aS.set O λu d1 d2 d3=>aS.ld d1 ?_
 have f4:Fr (λy=>y=b1\/y=B) g u:=⟨af,λy H f=>by rw[d3 y (λe=>f (.inr e)),A y (λe=>f (.inl e))]⟩;have F:Fr No h g:=f1.tt (f2.tt f3);refine hk u D l (Q.frame f4 (λy H e=>bX (G y H))) (F.fresh f4 (λy H=>af)) (λy H=>bX (G y H))
def vD(owner:Int)(n:Nat)(bV:Int):Bool:=decide (1<=owner) && decide (owner<=1099511627776) && decide (1<=n) && decide (n<=600) && decide (bV<=1099511627776)
theorem yX{owner bV:Int}{n:Nat}:vD owner n bV=true↔1<=owner/\owner<=1099511627776/\1<=n/\n<=600/\bV<=1099511627776:=by simp[vD,and_assoc]
theorem fc{l x k:Int}{n m:Nat}(hk: gU h R (.bool (vD x n k))):
  Cl 280 #[.agg #[.I l,.I x,.slice p n m,.U k]] h R:=by
 refine CO.walk (aS.box λb1 H E e f1=>⟨_,ak e,?_⟩);have hk:=hk H f1;unfold vD at hk;by_cases H:1<=x
 .rw[ag (cy H)];refine⟨_,ak e,?_⟩;by_cases f:x<=1099511627776
  .rw[ag (cy f)];refine⟨_,_,_,ak e,?_⟩;by_cases g:1<=n
   .rw[ag (by simp;omega)];refine⟨_,_,_,ak e,?_⟩;by_cases j:n<=600
    .rw[ag (by simp;omega)];refine⟨_,ak e,?_⟩;simpa[H,f,g,j]using hk
    .rw[ae (by simp;omega)];simpa[j]using hk
   .rw[ae (by simp;omega)];simpa[g]using hk
  .rw[ae (cy f)];simpa[f]using hk
 .rw[ae (cy H)];simpa[H]using hk
def xu(xs:List It)(num:Int):Option Nat:=xs.findIdx? (λa=>decide ((a.num:Int)=num))
def qk(xs:List It)(num:Int):Int:=match xu xs num with|some k=>(k:Int)|none=> -1
abbrev yY(h:aj)(b:Nat)(num:Int):Prop:=h[b]? =some (.cells #[.int .i64 num] 3 (0,0))
theorem LW{b:Nat}{num:Int}(x:IV)(hid:yY h b num)(hk: gU h R (.bool (decide ((x.num:Int)=num)))):Cl 173 #[x.agg,.P b 0] h R:=by
 refine um.walk (aS.box λb1 H E f f1=>⟨_,ak f,_,ak (f1.get hid (λx=>x)),?_⟩);have e:((x.num:Int)==num)=decide ((x.num:Int)=num):=by
  by_cases q:(x.num:Int)=num<;>simp[q]
 rw[e];exact hk H f1
theorem qm{xs:List IV}{n m b:Nat}{num:Int}(A:Row h p (xs.flatMap fZ))(z:n=xs.length)(D:xs.length<=1000000000)(hid:yY h b num)(hk: gU h R (.I (qk (xs.map IV.abs) num))):
  Cl 153 #[.slice p n m,.func (.func 173) #[] #[.P b 0]] h R:=by
 subst z;refine fh.find.walk ?_;refine⟨λi h'=>Fr No h h'/\∃k:Nat,i=(k:Int)/\k<=xs.length/\∀j (H:j<xs.length),j<k->(xs[j].num:Int)≠num,λi _=>xs.length - i.toNat,⟨Fr.refl _ _,0,rfl,af,λj _ H=>af⟩,?_⟩;rintro _ l ⟨f1,k,rfl,C,f⟩;have u:=A.frame f1 (λ_ _ x=>x);have y:yY l b num:=f1.get hid (λx=>x);by_cases o:k<xs.length
 .have q1:(k:Int)<(xs.length:Int):=af
  simp only[q1,bu,bf,aD];have g:xs[k]? =some xs[k]:=ai o;obtain⟨a,rfl⟩:=u.some (λe=>by have:=bT List.length e;rw[eS fZ 4 gI,bm]at this;omega);refine⟨⟨af,by first|trivial|omega⟩,ay.2 (aS.yH (u.fL gI g) ?_)⟩;refine LW xs[k] y λv f2=>⟨_,rfl,?_⟩
  by_cases e:(xs[k].num:Int)=num
  .simp only[e,bu,bf];have:qk (xs.map IV.abs) num=(k:Int):=by
    unfold qk xu;have:(xs.map IV.abs).findIdx? (λa=>decide ((a.num:Int)=num))=some k:=by
     rw[cB];refine⟨by rw[aF];exact o,?_,λj H=> ?_⟩
     .rw[List.getElem_map];exact au e
     .rw[List.getElem_map,Bool.not_eq_true];exact az (f j af H)
    rw[this]
   rw[this]at hk;exact hk v (f1.tt f2)
  .simp only[e,bh,aq,aJ];rw[bA af af];refine⟨⟨f1.tt f2,k+1,af,af,λj H B=> ?_⟩,?_⟩
   .by_cases q:j=k
    .subst q;exact e
    .exact f j H af
   .show xs.length - Int.toNat ((k:Int)+1)<xs.length - Int.toNat (k:Int);omega
 .have q1: ¬(k:Int)<(xs.length:Int):=af
  simp only[q1,bh,aq,aJ];have:qk (xs.map IV.abs) num= -1:=by
   unfold qk xu;have:(xs.map IV.abs).findIdx? (λa=>decide ((a.num:Int)=num))=none:=by
    rw[dk];intro a w;obtain⟨x,g,rfl⟩:=bg.1 w;obtain⟨j,H,rfl⟩:=List.mem_iff_getElem.1 g;exact az (f j H af)
   rw[this]
  rw[this]at hk;exact hk l f1
theorem iJ{num:Int}(H:Mm h b X s L t r xs a S)(g:s.items.length<=1000000000)(hk: gU h R (.I (qk s.items num))):Cl 122 #[.P b 0,.I num] h R:=by
 refine xq.walk (cG ?_);have f1:Fr No h (h.push (.cells #[.I num] 3)):=Fr.push _ _;have e:=H.on f1;have j:=H.len;refine⟨_,_,_,ak e.cQ,qm e.own.jb rfl af bR λf f2=>⟨_,rfl,?_⟩⟩;rw[H.abs];exact hk f (f1.tt f2)
theorem Oi{n:Nat}(k:n<=1000000)(hk: ∀P C h',fi h' P 0 C 4 []->Fr No h h'->(∀y,aL P y->h.size<=y)->R (.slice P 0 C) h'):
  Cl 199 #[.Z,.I (n:Int)] h R:=by
 refine jm.walk ?_;simp only[aG];have Q: ¬(n:Int)<0:=af
 have e1:IntKind.wrap .i64 (((0:Nat):Int) - ((0:Nat):Int))=0:=rfl;have e2:IntKind.wrap .i64 ((n:Int) - 0)=(n:Int):=by rw[bA af af];omega
 rw[e1,e2];simp only[Q,bh,aq,aJ];by_cases H:n=0
 .subst H;rw[ae bO];exact hk none 0 h (.nil rfl rfl rfl rfl) (Fr.refl _ _) (λy ⟨a,e,_⟩=>by cases e)
 .have q1:(n:Int)>0:=af
  simp only[q1,bu,bf];refine⟨af,?_⟩;have E:cK none 0 0 4=none:=jS _ _ _;rw[E];refine Lw tI SR af af af λg h' o j f=>⟨_,_,_,rfl,af,?_⟩
  rw[jS];exact hk _ g h' o f (λy ⟨a,e,e2⟩=>by cases e;exact Nat.le_of_eq e2)
theorem Bz{w x:cg}{n1 c1 n2 B:Nat}{u ws:List IV}(D:Row h (Sa c 0) [.slice w n1 c1,.slice x n2 B])(r1:Row h w (u.flatMap fZ))(e1:n1=u.length)(r2:Row h x (ws.flatMap fZ))(e2:n2=ws.length)(W:u.length+ws.length<=1000)(hk: ∀P C h',fi h' P (u++ws).length C 4 ((u++ws).flatMap fZ)->Fr No h h'->(∀y,aL P y->h.size<=y)->R (.slice P (u++ws).length C) h'):
  Cl 172 #[.slice (Sa c 0) 2 2] h R:=by
 subst e1 e2;have c0: ∀{g:aj},Fr No h g->aX g (((AA c 0):Addr).add (0*1))=some (.slice w u.length c1):=λf=>(D.frame f cu).cell (j:=0) rfl
 have A: ∀{g:aj},Fr No h g->aX g (((AA c 0):Addr).add (1*1))=some (.slice x ws.length B):=λf=>(D.frame f cu).cell (j:=1) rfl
 refine je.walk ?_;refine⟨λsize i g=>g=h/\((i=0/\size=0)\/(i=1/\size=(u.length:Int))\/(i=2/\size=((u.length+ws.length:Nat):Int))),λ_ i _=>2 - i.toNat,⟨rfl,.inl ⟨rfl,rfl⟩⟩,?_⟩;rintro size i g ⟨rfl,n⟩;rcases n with⟨rfl,rfl⟩|⟨rfl,rfl⟩|⟨rfl,rfl⟩
 .rw[ag (by rfl)];refine aG.of λJ m=>⟨af,ay.2 ⟨_,_,_,c0 (Fr.refl _ _),aG.of λE H=> ?_⟩⟩
  have e:IntKind.wrap .i64 (0+(u.length:Int))=(u.length:Int):=by rw[bA af af];omega
  rw[e]at H;rw[e,ae (by simp<;>omega)];subst H;subst m;exact⟨⟨rfl,.inr (.inl ⟨rfl,rfl⟩)⟩,by show 2 - Int.toNat 1<2 - Int.toNat 0;decide⟩
 .rw[ag (by rfl)];refine aG.of λJ m=>⟨af,ay.2 ⟨_,_,_,A (Fr.refl _ _),aG.of λE H=> ?_⟩⟩
  have e:IntKind.wrap .i64 ((u.length:Int)+(ws.length:Int))=((u.length+ws.length:Nat):Int):=by rw[bA af af];omega
  rw[e]at H;rw[e,ae (by simp<;>omega)];subst H;subst m;exact⟨⟨rfl,.inr (.inr ⟨rfl,rfl⟩)⟩,by show 2 - Int.toNat 2<2 - Int.toNat 1;decide⟩
 .rw[dj];refine Oi af λY U V Q f4 K=>⟨_,_,_,rfl,?_⟩
  refine⟨λnp nl nc i G=>Fr No g G/\(∀y,aL np y->g.size<=y)/\((i=0/\nl=0/\fi G np nl nc 4 [])\/(i=1/\nl=u.length/\fi G np nl nc 4 (u.flatMap fZ))\/(i=2/\nl=(u++ws).length/\fi G np nl nc 4 ((u++ws).flatMap fZ))),λ_ _ _ i _=>2 - i.toNat,⟨f4,K,.inl ⟨rfl,rfl,Q⟩⟩,?_⟩;rintro np nl nc i G ⟨F,k,n⟩;rcases n with⟨rfl,rfl,o⟩|⟨rfl,rfl,o⟩|⟨rfl,rfl,o⟩
  .rw[ag (by rfl)];refine⟨af,ay.2 ⟨_,_,_,c0 F,?_⟩⟩;refine dY tI uI o (r1.frame F cu) (eS fZ 4 gI u) (Ei u) af af λT I N O _ f6 l=>⟨_,_,_,rfl,?_⟩
   rw[cD,bC]at O;rw[bC];have z:=F.1;exact⟨⟨F.fresh f6 k,(λy v=>(l y v).elim (k y) (λM=>af)),.inr (.inl ⟨rfl,rfl,O⟩)⟩,by show 2 - Int.toNat 1<2 - Int.toNat 0;decide⟩
  .rw[ag (by rfl)];refine⟨af,ay.2 ⟨_,_,_,A F,?_⟩⟩;refine dY tI uI o (r2.frame F cu) (eS fZ 4 gI ws) (Ei ws) af af λT I N O _ f6 l=>⟨_,_,_,rfl,?_⟩
   rw[<-cW,<-av]at O;rw[<-av];have z:=F.1;exact⟨⟨F.fresh f6 k,(λy v=>(l y v).elim (k y) (λM=>af)),.inr (.inr ⟨rfl,rfl,O⟩)⟩,by show 2 - Int.toNat 2<2 - Int.toNat 1;decide⟩
  .rw[dj];exact hk np nc G o F k
theorem JE{L:List E}{k:Int}(hk:k∉keys L):fD L k=L:=by
 unfold fD;rw[cd];intro e H;have:e.1≠k:=λe2=>hk (e2▸bw H)
 simpa using this
theorem fi.xU{h:aj}{p:cg}{xs:List IV}{cap l u:Nat}(f:Row h p (xs.flatMap fZ))(H:l<=u)(e:u<=cap):Row h (cK p cap l 4) (((xs.take u).drop l).flatMap fZ):=by
 have:=f.sub (cap:=cap) (l:=l) (u:=u) (sz:=4) H e;rwa[lQ fZ 4 gI,nL fZ 4 gI]at this
def AF(xs:List It)(i:Nat):List It:=xs.take i++xs.drop (i+1)
theorem CG{x:IV}(H:Mm h b X s L t r xs a S)(hl:s.items.length<=100)(hL:L.length<1000)(g:xs[i]? =some x)(hk: ∀h' Y,Bx h' b Y { s with items:=AF s.items i } (fD L (x.num:Int))->bG X h Y h'->x.v.ok h' Y.D->R x.agg h'):
  Cl 121 #[.P b 0,.I (i:Int)] h R:=by
 have A':=H.len;have hi:=(aA.1 g).1;refine yU.walk (aS.box λb1 h1 y' d' f1=> ?_);have W:=H.on f1;obtain⟨n,o,rfl⟩:=H.own.addr af;refine⟨_,_,_,ak W.cQ,af,ay.2 (aS.yH (by rw[aD];exact W.own.fL gI g) (aS.new λB j z' b' f2=> ?_))⟩;have w:=W.on f2;have v':aS.at j b1 0 0 none 0 0 0:=f2.get d' id;have z1:=f1.1;have z2:=f2.1;have l1:=aC d';have l2:=aC b';have ne:B≠b1:=af
 have nX: ∀y,h.size<=y->¬(X.M y\/X.D y):=λy hy g=>by have:=H.lt y g;omega
 refine⟨_,ak w.cQ,_,ak b',?_⟩;have rest: ∀f,bU.Al f a S (fD L (x.num:Int))->Fr S j f->
   f[b]? =some (.cells #[.slice (Sa n o) xs.length r,.I (s.next:Int),.I (s.taken:Int),.I (s.ps:Int),.I (s.over:Int),.P a 0] 145 (0,0))/\
   Row f (Sa n o) (xs.flatMap fZ)/\aS.at f b1 0 0 none 0 0 0/\aS.at f B (x.num:Int) x.owner x.v.p x.v.b.length x.v.c (x.bV:Int):=by
  intro f A f7;have nS: ∀y,h.size<=y->¬S y:=λy hy F=>by have:=H.al.lt F;omega
  exact⟨f7.get w.cQ H.bs,w.own.jb.frame f7 (λa' ea F=>H.ls _ ⟨a',ea,rfl⟩ F),f7.get v' (nS b1 af),f7.get b' (nS B af)⟩
 have fin: ∀f,bU.Al f a S (fD L (x.num:Int))->Fr S j f->∀P C k,Fr No f k->fi k P (xs.take i++xs.drop (i+1)).length C 4 ((xs.take i++xs.drop (i+1)).flatMap fZ)->(∀y,aL P y->f.size<=y)->
   aO k (AA b 0) (.slice P (xs.take i++xs.drop (i+1)).length C) λD=>
    ∃(m':Int),aX D (AA B 0)=some (.I m')/\∃(n':Int),aX D (AA B 1)=some (.I n')/\∃(q':cg)(p' o':Nat),aX D (AA B 2)=some (.slice q' p' o')/\∃(r':Int),aX D (AA B 3)=some (.U r')/\
    aO D (AA b1 0) (.I m') λs'=>
    aO s' (AA b1 1) (.I n') λt'=>
    aO t' (AA b1 2) (.slice q' p' o') λu'=>
    aO u' (AA b1 3) (.U r') λE=>
    ∃(f':Int),aX E (AA b1 0)=some (.I f')/\∃(g':Int),aX E (AA b1 1)=some (.I g')/\∃(k':cg)(j' i':Nat),aX E (AA b1 2)=some (.slice k' j' i')/\∃(l':Int),aX E (AA b1 3)=some (.U l')/\
    R (.agg #[.I f',.I g',.slice k' j' i',.U l']) E:=by
  intro f A f7 P C k f9 O G;obtain⟨K,_,k3,k4⟩:=rest f A f7;have lb:=aC H.cQ;have z7:=f7.1;have z9:=f9.1;refine bH (f9.get K id) bO λz a1 a2 Z=> ?_
  have i2:aS.at z B (x.num:Int) x.owner x.v.p x.v.b.length x.v.c (x.bV:Int):=(Z B af).trans (f9.get k4 id);refine aS.ld i2 ?_;have i1:aS.at z b1 0 0 none 0 0 0:=(Z b1 af).trans (f9.get k3 id);refine aS.set i1 λQ d1 d2 d3=>aS.ld d1 ?_
  have f10:Fr (λy=>y=b) k z:=Fr.of_eq a2 Z;have f14:Fr (λy=>y=b1) z Q:=Fr.of_eq d2 d3;have F2:Fr No h j:=f1.tt f2;have F7:Fr S h f:=Fr.no F2 f7;have F9:Fr S h k:=F7.tt (f9.mono (λ_ _ g=>g.elim));have U:Fr (λy=>S y\/y=b) h z:=(F9.mono (λ_ _ g=> .inl g)).tt (f10.mono (λ_ _ g=> .inr g));have V:Fr X.M h Q:=by
   refine⟨cM U.1 f14.1,λy hy hn=> ?_⟩;rw[f14.2 y (ct hy U.1) (λe=>af),U.2 y hy (λg=>hn ((H.m y).2 (g.elim (λh=> .inr (.inr h)) .inl)))]
  have w': ∀y,aL P y->¬S y:=λy hy F=>by have:=G y hy;have:=H.al.lt F;omega
  have e': ∀y,aL P y->y≠b:=λy hy e=>by have:=G y hy;omega
  have x': ∀y,aL P y->y≠b1:=λy hy e=>by have:=G y hy;omega
  have c': ∀v:IV,v∈xs->v.v.ok Q X.D:=λv hv=>(H.Ar v hv).frame V (λy hd T=>H.vr y T hd)
  refine hk Q ⟨λy=>y=b\/aL P y\/S y,X.D⟩ ⟨P,C,xs.take i++xs.drop (i+1),a,S,⟨?_,(O.frame f10 e').frame f14 x',?_,?_,?_,λ_=>eE,λg=>e' b g rfl,H.bs,w',?_,λy hy=>ct (H.Dw y hy) V.1⟩⟩ ⟨V,?_,λ_=> .inl,λ_=>id⟩ (c' x (aT g))
  .rw[d3 b af,a1];simp
  .have A9:=A.frame f9 cu;exact(A9.frame f10 (λy hy e=>H.bs (e▸hy))).frame f14 (λy hy e=>bX (H.al.lt hy))
  .show _=AF s.items i;unfold AF;rw[<-H.abs,aW,List.map_take,List.map_drop]
  .intro v hv;refine c' v ?_;rcases bN.1 hv with hv|hv
   .exact List.mem_of_mem_take hv
   .exact List.mem_of_mem_drop hv
  .rintro y (rfl|hy|hy) hd
   .exact H.vr _ ((H.m _).2 (.inl rfl)) hd
   .have:=G y hy;have:=H.Dw y hd;omega
   .exact H.vr _ ((H.m _).2 (.inr (.inr hy))) hd
  .rintro y (rfl|hy|hy)
   .exact .inl ((H.m _).2 (.inl rfl))
   .right;have:=G y hy;omega
   .exact .inl ((H.m _).2 (.inr (.inr hy)))
 have ew:IntKind.wrap .i64 ((i:Int)+1)=((i+1:Nat):Int):=by rw[bA af af];omega
 have cap:=H.own.le;rw[ew];simp only[aD,Nat.sub_zero];refine bU.oR w.al af _ (λT f A f7=>⟨_,rfl,?_⟩) (λT=>⟨_,rfl,?_⟩)
 .obtain⟨K,k2,k3,k4⟩:=rest f A f7;refine⟨_,_,_,ak K,af,_,_,_,ak K,af,cG ?_⟩;have f8:Fr No f (f.push (.cells #[.slice (cK (Sa n o) r 0 4) i r,.slice (cK (Sa n o) r (i+1) 4) (xs.length - (i+1)) (r - (i+1))] 86)):=Fr.push _ _;have m:=f8.get K id;refine⟨ak m,ak m,?_⟩;have J:=k2.frame f8 cu;have M:=fi.xU (l:=0) (u:=i) (cap:=r) J af af;have N:=fi.xU (l:=i+1) (u:=xs.length) (cap:=r) J af af;rw[gv]at M;rw[eO]at N;refine Bz jl M (by rw[bE];omega) N (by rw[bQ]) (by rw[bE,bQ];omega) λP C k O f9 G=>⟨_,_,_,rfl,?_⟩
  have I:=f9.get m id;exact⟨ak I,ak I,fin f A f7 P C k (f8.tt f9) O (λy hy=>by have:=G y hy;rw[dD]at this;omega)⟩
 .have A:bU.Al j a S (fD L (x.num:Int)):=by
   rw[JE T];exact w.al
  have f7:Fr S j j:=Fr.refl _ _;obtain⟨K,k2,k3,k4⟩:=rest j A f7;refine⟨_,_,_,ak K,af,_,_,_,ak K,af,cG ?_⟩;have f8:Fr No j (j.push (.cells #[.slice (cK (Sa n o) r 0 4) i r,.slice (cK (Sa n o) r (i+1) 4) (xs.length - (i+1)) (r - (i+1))] 86)):=Fr.push _ _;have m:=f8.get K id;refine⟨ak m,ak m,?_⟩;have J:=k2.frame f8 cu;have M:=fi.xU (l:=0) (u:=i) (cap:=r) J af af;have N:=fi.xU (l:=i+1) (u:=xs.length) (cap:=r) J af af;rw[gv]at M;rw[eO]at N;refine Bz jl M (by rw[bE];omega) N (by rw[bQ]) (by rw[bE,bQ];omega) λP C k O f9 G=>⟨_,_,_,rfl,?_⟩
  have I:=f9.get m id;exact⟨ak I,ak I,fin j A f7 P C k (f8.tt f9) O (λy hy=>by have:=G y hy;rw[dD]at this;omega)⟩
end gD
end
section
open Go.fM Go.kk
namespace gD
open bU (iZ)
variable {L:List E} {s:BS} {items:List It} {now:Int}
variable {num:Int}
def It.kv(x:It):E:=((x.num:Int),(x.bV:Int))
structure okB (s:BS) (L:List E):Prop where
 le:s.items.length<=16
 pm:L.Perm (s.items.map It.kv)
 it: ∀x∈s.items,1<=x.num/\x.num<s.next/\1<=x.d.length/\x.d.length<=600/\1<=x.owner/\x.owner<=1099511627776/\x.bV<=1099511627776
 inc:(s.items.map It.num).Pairwise (· < ·)
 vE:s.next=1+s.items.length+s.taken+s.ps+s.over
theorem okB.nil:okB ⟨[],1,0,0,0⟩ []:=⟨bO,.refl _,bO,.nil,rfl⟩
def qo(items:List It)(num:Int):List It:=items.filter (λy=> !decide ((y.num:Int)=num))
theorem qp: ∀{items:List It}{i:Nat}{x:It},(items.map It.num).Pairwise (· < ·)->items[i]? =some x->AF items i=qo items (x.num:Int)
 | [],i,x,_,h=>by simp at h
 |y::r,0,x,H,h=>by
  simp at h;subst h;rw[bW,dK]at H;unfold AF qo;rw[bZ];simp only[bu,cV,aq,aJ,eh,cD,List.drop_succ_cons,gv];symm
  rw[cd];intro z b;have:=H.1 z.num (bw b);have: ¬(z.num:Int)=(y.num:Int):=af
  simp[this]
 |y::r,i+1,x,H,h=>by
  rw[bW,dK]at H;rw[di]at h;have I:=qp H.2 h;have c:=H.1 x.num (bw (aT h));have a: ¬(y.num:Int)=(x.num:Int):=af
  unfold AF qo at I⊢;rw[bZ];simp only[a,bh,ee,bf,fQ,List.drop_succ_cons,dp];rw[I]
theorem yZ(h:L.Perm (items.map It.kv)):(fD L num).Perm ((qo items num).map It.kv):=by
 have:=h.filter (λe=> !(e.1==num));unfold fD;refine this.trans ?_;rw[dE];refine List.Perm.of_eq ?_;unfold qo;refine bT _ (dS ?_);intro x _;show(!((x.num:Int)==num))=_;by_cases q:(x.num:Int)=num<;>simp[q]
theorem okB.sub{i:List It}{l:List E}{t c o:Nat}(ok:okB s L)(h:i.Sublist s.items)(a:l.Perm (i.map It.kv))(H:s.next=1+i.length+t+c+o):okB ⟨i,s.next,t,c,o⟩ l:=
 ⟨cM h.length_le ok.le,a,λx b=>ok.it x (h.subset b),ok.inc.sublist (h.map _),H⟩
theorem y7{i:Nat}(h:xu items num=some i): ∃x,items[i]? =some x/\(x.num:Int)=num:=by
 unfold xu at h;rw[cB]at h;obtain⟨H,a,_⟩:=h;exact⟨_,ai H,cy a⟩
theorem LX(h:xu items num=none): ∀x∈items,(x.num:Int)≠num:=by
 unfold xu at h;rw[dk]at h;intro x H;simpa using h x H
theorem uniq(h:(items.map It.num).Pairwise (· < ·)){x y:It}(H:x∈items)(a:y∈items)(e:x.num=y.num):x=y:=by
 induction items with
 |nil=>cases H
 |cons z r i=>
  rw[bW,dK]at h;rcases bJ.1 H with e1|Ue
  .rcases bJ.1 a with e2|SU
   .rw[e1,e2]
   .have:=h.1 y.num (bw SU);rw[e1]at e;omega
  .rcases bJ.1 a with e2|SU
   .have:=h.1 x.num (bw Ue);rw[e2]at e;omega
   .exact i h.2 Ue SU
theorem fT: ∀{L:List E},iW L->bU.due L now=L.filter (iZ now)/\bU.rest L now=L.filter (λe=> !iZ now e)
 | [],_=>⟨rfl,rfl⟩
 |e::r,c=>by
  have b:=dK.1 c;obtain⟨i1,i2⟩:=fT (L:=r) b.2;unfold bU.due at i1⊢;unfold bU.rest at i2⊢;by_cases a:iZ now e=true
  .rw[List.takeWhile_cons,List.dropWhile_cons,bZ,bZ,a];simp only[bf,cV,aq,aJ];rw[i1,i2];exact⟨rfl,rfl⟩
  .have H:iZ now e=false:=by simpa using a
   have all: ∀x∈r,iZ now x=false:=by
    intro x h;have h1:=b.1 x h;unfold iZ at H⊢;have d:=fC H;apply az
    rcases h1 with h1|h1<;>omega
   rw[List.takeWhile_cons,List.dropWhile_cons,bZ,bZ,H];simp only[aq,aJ,ee,bf];refine⟨?_,?_⟩
   .symm;rw[List.filter_eq_nil_iff];intro x h;rw[all x h];simp
   .congr 1;symm;rw[cd];intro x h;rw[all x h];rfl
def nm(items:List It)(K:List Int):List It:=items.filter (λx=>decide ((x.num:Int)∉K))
theorem LY:nm items []=items:=by unfold nm;simp
theorem LZ{K:List Int}{k:Int}:qo (nm items K) k=nm items (K++ [k]):=by
 unfold qo nm;rw[List.filter_filter];apply dS
 intro x _;by_cases h:(x.num:Int)=k
 .simp[h]
 .by_cases H:(x.num:Int)∈K<;>simp[h,H]
theorem L3(ok:okB s L)(so:iW L)(nd:(keys L).Nodup):nm s.items (keys (bU.due L now))=s.items.filter (λx=>decide (now<(x.bV:Int))):=by
 obtain⟨e1,_⟩:=fT (now:=now) so;unfold nm;apply dS
 intro x a;have c:x.kv∈L:=ok.pm.mem_iff.2 (bw a);by_cases H:now<(x.bV:Int)
 .simp only[H,bu,aY];intro hk;rw[e1]at hk;obtain⟨e,b,E⟩:=bg.1 hk;have h:=ba.1 b;obtain⟨y,d,rfl⟩:=bg.1 (ok.pm.mem_iff.1 h.1);have:y=x:=uniq ok.inc d a (by have:(y.num:Int)=(x.num:Int):=E;omega);subst this;have:=aP h.2;unfold It.kv at this;dsimp only at this;omega
 .simp only[H,bh,eL,Classical.not_not];rw[e1];refine bg.2 ⟨x.kv,ba.2 ⟨c,au ?_⟩,rfl⟩;unfold It.kv;dsimp only;omega
theorem BA(ok:okB s L)(so:iW L):(bU.rest L now).Perm ((s.items.filter (λx=>decide (now<(x.bV:Int)))).map It.kv):=by
 rw[(fT (now:=now) so).2];refine(ok.pm.filter _).trans (List.Perm.of_eq ?_);rw[dE];congr 1
 apply dS
 intro x _;show(!decide ((x.bV:Int)<=now))=_;by_cases q:now<(x.bV:Int)
 .simp[q]
 .simp[q];omega
theorem L4(ok:okB s L)(so:iW L):(bU.due L now).Perm ((s.items.filter (λx=>decide ((x.bV:Int)<=now))).map It.kv):=by
 rw[(fT (now:=now) so).1];refine(ok.pm.filter _).trans (List.Perm.of_eq ?_);rw[dE];rfl

end gD
end
section
variable {h:aj} {R:fj}
variable {p:Nat} {owner n:Int}
theorem vF.walk(H: ∃t9,Cc h p 2 (.map t9)/\R (.bool (!t9.isNone)) h):Cl 174 #[.P p 0] h R:=aN (lq ll) Tryz.func174 H
theorem JF.walk{w:Int}{s:Int}(d:aG (λ(t20:Bool) (H:aj)=>if t20 then R (.tuple #[.pointer none,.I 1]) H else aQ H (.map #[] 0) λb a=>aQ a (.cells #[.I w,.I s,.map (some b),.I 0] 169) λB c=>R (.tuple #[.P B 0,.I 0]) c) (λJ=>if(decide (w<1))then J true h else if(decide (w>1048576))then J true h else if(decide (s<1))then J true h else J (decide (s>w)) h)):Cl 34 #[.I w,.I s] h R:=aN (lq (sq (sq (.join [(20,.one (.bool))] lf) (cq ll lf)) ll)) Tryz.func34 d
theorem xw.walk(b:Cl 174 #[.P p 0] h λv H=> ∃t9,v=.bool t9/\if(!t9)then R (.I 6) H else aG (λ(t11:Bool) (a:aj)=>if t11 then R (.I 1) a else R (.I 0) a) (λJ=>if(decide (owner<1))then J true H else if(decide (owner>1099511627776))then J true H else J (decide (n<0)) H)):Cl 123 #[.P p 0,.I owner,.I n] h R:=aN (lq (sq (bq (lq (cq ll (sq (.join [(11,.one (.bool))] lf) (cq ll lf))))) ll)) Tryz.func123 b
theorem vG.walk (e:Cl 123 #[.P p 0,.I owner,.I n] h λv H=> ∃t11,v=.I t11/\if(t11 !=0)then R (.I t11) H else aG (λ(t40:Bool) (a:aj)=>if t40 then R (.I 15) a else aG (λ(c:aj)=>R (.I 0) c) (λj=>if(decide (n>0))then∃t46,Cc a p 2 (.map t46)/\∃t48,gW Tryz.prog 167 (.map t46) (.I owner) false a (.I t48)/\aU Tryz.prog (Instr.mapUpdate 167 (.map t46) (.I owner) (.I (wrap .i64 (t48+n)))) a λ_ b=> ∃t54,Cc b p 3 (.I t54)/\aO b (AA p 3) (.I (wrap .i64 (t54+n))) λd=>j d else j a)) (λJ=>Hi H p 1 λt19=> ∃t23,Cc H p 2 (.map t23)/\∃t25,gW Tryz.prog 167 (.map t23) (.I owner) false H (.I t25)/\if(decide (n>(wrap .i64 (t19 - t25))))then J true H else Hi H p 0 λt33=> ∃t37,Cc H p 3 (.I t37)/\J (decide (n>(wrap .i64 (t33 - t37)))) H)):Cl 241 #[.P p 0,.I owner,.I n] h R:=aN (lq (sq (lq (lq (cq ll lf))) (sq (sq (.join [(40,.one (.bool))] (pN 26)) (cq ll lf)) (sq (lq (.join [] (cq ll lf))) ll)))) Tryz.func241 e
theorem vH.walk (a:Cl 123 #[.P p 0,.I owner,.I n] h λv H=> ∃t10,v=.I t10/\if(t10==0)then Hi H p 1 λt17=> ∃t21,Cc H p 2 (.map t21)/\∃t23,gW Tryz.prog 167 (.map t21) (.I owner) false H (.I t23)/\if(decide (n<=(wrap .i64 (t17 - t23))))then Hi H p 0 λt32=> ∃t36,Cc H p 3 (.I t36)/\R (.bool (decide (n<=(wrap .i64 (t32 - t36))))) H else R (.bool false) H else R (.bool false) H):Cl 239 #[.P p 0,.I owner,.I n] h R:=aN (lq (sq (pN 34) lf)) Tryz.func239 a
theorem vI.walk(e:Cl 123 #[.P p 0,.I owner,.I n] h λv H=> ∃t11,v=.I t11/\if(t11 !=0)then R (.I t11) H else∃t19,Cc H p 2 (.map t19)/\∃t21,gW Tryz.prog 167 (.map t19) (.I owner) false H (.I t21)/\if(decide (n>t21))then R (.I 7) H else∃t26,Cc H p 3 (.I t26)/\aO H (AA p 3) (.I (wrap .i64 (t26 - n))) λb=> ∃t34,Cc b p 2 (.map t34)/\∃t36,gW Tryz.prog 167 (.map t34) (.I owner) false b (.I t36)/\aU Tryz.prog (Instr.mapUpdate 167 (.map t34) (.I owner) (.I (wrap .i64 (t36 - n)))) b λ_ a=> ∃t42,Cc a p 2 (.map t42)/\∃t44,gW Tryz.prog 167 (.map t42) (.I owner) false a (.I t44)/\aG (λ(c:aj)=>R (.I 0) c) (λJ=>if(t44==0)then∃t49,Cc a p 2 (.map t49)/\aU Tryz.prog (Builtin.delete_ #[167,3] 0 #[.map t49,.I owner]) a λV d=>V=.tuple #[]/\J d else J a)):Cl 55 #[.P p 0,.I owner,.I n] h R:=aN (lq (sq (lq (lq (cq ll lf))) (sq (lq (cq ll lf)) (lq (lq (sq (lq (.join [] (cq lf lf))) ll)))))) Tryz.func55 e

end
section
namespace lu
theorem tm:pT Tryz.prog 167 (.I 0):=.of 3 3 .i64 cU cU cU
def gn(h:aj)(p m:Nat)(W S A:Int)(f:Int->Int):Prop:=
 h[p]? =some (.cells #[.int .i64 W,.int .i64 S,.map (some m),.int .i64 A] 169 (0,0))/\
 ∃g:Int->Option Value,mF h m g/\∀k,(g k).getD (.int .i64 0)=.int .i64 (f k)
def Ok(W S A:Int)(f:Int->Int):Prop:=1<=S/\S<=W/\W<=1048576/\ -2000000000000<=A/\A<=W/\∀k,0<=f k/\f k<=S
variable {h : aj} {p m : Nat} {W S A : Int} {f : Int → Int} {R : Value → aj → Prop}
theorem gn.frame{Q:Nat->Prop}{h':aj}(i:gn h p m W S A f)(H:Fr Q h h')(a: ¬Q p)(b: ¬Q m):gn h' p m W S A f:=by
 obtain⟨c,g,d,e⟩:=i;exact⟨H.get c a,g,d.frame H b,e⟩
theorem gn.ne(d:gn h p m W S A f):p≠m:=by
 obtain⟨a,g,b,_⟩:=d;obtain⟨es,c,H⟩:=b.map;rintro rfl;rw[a]at H;cases H
theorem gn.lt(H:gn h p m W S A f):p<h.size/\m<h.size:=⟨aC H.1,by obtain⟨_,g,a,_⟩:=H;exact a.lt⟩
theorem gn.ext{F:Int->Int}(d:gn h p m W S A f)(a: ∀k,F k=f k):gn h p m W S A F:=by
 obtain⟨H,g,b,c⟩:=d;exact⟨H,g,b,λk=>by rw[a];exact c k⟩
theorem fw(H:gn h p m W S A f)(hk:R (.bool true) h):Cl 174 #[.P p 0] h R:=
 vF.walk ⟨some m,ak H.1,hk⟩
theorem look(b:gn h p m W S A f)(o:Int):gW Tryz.prog 167 (.map (some m)) (.I o) false h (.I (f o)):=by
 obtain⟨_,g,H,a⟩:=b;have:=Bg tm H o;rw[a]at this;exact this
def may(o n:Int):Bool:=decide (1<=o) && decide (o<=1099511627776) && decide (0<=n)
def jg(o n:Int):Int:=if may o n=true then 0 else 1
theorem lJ{o n:Int}:may o n=true↔1<=o/\o<=1099511627776/\0<=n:=by simp[may,and_assoc]
theorem vJ(c:gn h p m W S A f)(o n:Int)(hk:R (.I (jg o n)) h):Cl 123 #[.P p 0,.I o,.I n] h R:=by
 refine xw.walk (fw c ⟨true,rfl,?_⟩);simp only[aG];unfold jg may at hk;by_cases H:o<1
 .simpa[H,show¬1<=o by omega]using hk
 .by_cases a:o>1099511627776
  .simpa[H,a,show¬o<=1099511627776 by omega]using hk
  .by_cases b:n<0
   .simpa[H,a,b,show¬0<=n by omega]using hk
   .simpa[H,a,b,show 1<=o by omega,show o<=1099511627776 by omega,show 0<=n by omega]using hk
def fits(W S A:Int)(f:Int->Int)(o n:Int):Bool:=may o n && decide (n<=S - f o) && decide (n<=W - A)
def Px(W S A:Int)(f:Int->Int)(o n:Int):Int:=if may o n=true then(if fits W S A f o n=true then 0 else 15)else 1
def jw(f:Int->Int)(o n:Int):Int->Int:=λk=>if k=o then f k+n else f k
theorem Ej{o n:Int}:fits W S A f o n=true↔(1<=o/\o<=1099511627776/\0<=n)/\n<=S - f o/\n<=W - A:=by
 simp[fits,lJ,and_assoc]
theorem Ok.take{o n:Int}(ok:Ok W S A f)(H:fits W S A f o n=true):Ok W S (A+n) (jw f o n):=by
 obtain⟨o1,o2,O,j,l,a⟩:=ok;obtain⟨⟨b,c,d⟩,g,i⟩:=Ej.1 H;refine⟨o1,o2,O,af,af,λk=> ?_⟩;have:=a k;unfold jw;split
 .rename_i e;subst e;omega
 .exact this
theorem Oj(H:gn h p m W S A f)(ok:Ok W S A f)(o n:Int)(u:fits W S A f o n=true->∀h',gn h' p m W S (A+n) (jw f o n)->Fr (λc=>c=p\/c=m) h h'->R (.I 0) h')(K:fits W S A f o n=false->R (.I (Px W S A f o n)) h):
  Cl 241 #[.P p 0,.I o,.I n] h R:=by
 obtain⟨o1,o2,I,J,L,O⟩:=ok;have of:=O o;refine vG.walk (vJ H o n ⟨_,rfl,?_⟩);unfold Px at K;unfold jg;cases b:may o n with
 |false=>
  have:=K (by simp[fits,b]);simpa[b]using this
 |true=>
  have E:=lJ.1 b;simp only[bf,bne_self_eq_false,aq,aJ,aG];refine⟨S,ak H.1,some m,ak H.1,f o,look H o,?_⟩;rw[bA af af];by_cases d:n>S - f o
  .have a:fits W S A f o n=false:=by simp[fits,show¬n<=S - f o by omega]
   have:=K a;simpa[d,b,a]using this
  .simp only[d,bh,aq,aJ];refine⟨W,ak H.1,A,ak H.1,?_⟩;rw[bA af af];by_cases i:n>W - A
   .have a:fits W S A f o n=false:=by simp[fits,show¬n<=W - A by omega]
    have:=K a;simpa[i,b,a]using this
   .have a:fits W S A f o n=true:=by simp[fits,b,show n<=S - f o by omega,show n<=W - A by omega]
    simp only[i,bh,aq,aJ];by_cases j:n>0
    .simp only[j,bu,bf];refine⟨some m,ak H.1,f o,look H o,?_⟩;rw[bA af af];have r:=H.ne;obtain⟨w,g,y,B⟩:=H;refine ma tm y ?_;intro D z F s;have l:=(s p r).trans w;refine⟨A,ak l,?_⟩;rw[bA af af];refine bH l bO ?_;intro v x G t;refine u a v ⟨x,_,z.lZ (t m (e6 r)),λk=> ?_⟩ (Fr.of_eq af λc q=> ?_)
     .unfold jw;by_cases hk:k=o
      .simp[hk]
      .simp[hk,B]
     .rw[t c (λe=>q (.inl e)),s c (λe=>q (.inr e))]
    .have C:n=0:=af
     simp only[j,bh,aq,aJ];refine u a h ?_ (Fr.refl _ _);subst C;rw[Int.add_zero];exact H.ext λk=>by unfold jw;split<;>omega
theorem Ol(H:gn h p m W S A f)(ok:Ok W S A f)(o n:Int)(hk:R (.bool (fits W S A f o n)) h):Cl 239 #[.P p 0,.I o,.I n] h R:=by
 obtain⟨o1,o2,c,d,e,O⟩:=ok;have of:=O o;refine vH.walk (vJ H o n ⟨_,rfl,?_⟩);unfold jg;unfold fits at hk;cases b:may o n with
 |false=>simpa[b]using hk
 |true=>
  simp only[bf,eP];refine⟨S,ak H.1,some m,ak H.1,f o,look H o,?_⟩;rw[bA af af];by_cases a:n<=S - f o
  .simp only[a,bu,bf];refine⟨W,ak H.1,A,ak H.1,?_⟩;rw[bA af af];simpa[b,a]using hk
  .simpa[b,a]using hk
def qq(f:Int->Int)(o n:Int):Bool:=may o n && decide (n<=f o)
def Py(f:Int->Int)(o n:Int):Int:=if may o n=true then(if qq f o n=true then 0 else 7)else 1
theorem JG{o n:Int}:qq f o n=true↔(1<=o/\o<=1099511627776/\0<=n)/\n<=f o:=by simp[qq,lJ,and_assoc]
theorem Om(d:gn h p m W S A f)(ok:Ok W S A f)(o n:Int)(C:qq f o n=true->∀h',gn h' p m W S (A - n) (jw f o (-n))->Fr (λc=>c=p\/c=m) h h'->R (.I 0) h')(K:qq f o n=false->R (.I (Py f o n)) h):
  Cl 55 #[.P p 0,.I o,.I n] h R:=by
 obtain⟨o1,o2,U,V,X,O⟩:=ok;have of:=O o;refine vI.walk (vJ d o n ⟨_,rfl,?_⟩);unfold Py at K;unfold jg;cases b:may o n with
 |false=>
  have:=K (by simp[qq,b]);simpa[b]using this
 |true=>
  have N:=lJ.1 b;simp only[bf,bne_self_eq_false,aq,aJ];refine⟨some m,ak d.1,f o,look d o,?_⟩;by_cases v:n>f o
  .have a:qq f o n=false:=by simp[qq,show¬n<=f o by omega]
   have:=K a;simpa[v,b,a]using this
  .have a:qq f o n=true:=by simp[qq,b,show n<=f o by omega]
   simp only[v,bh,aq,aJ];have r:=d.ne;obtain⟨w,g,G,q⟩:=d;refine⟨A,ak w,?_⟩;rw[bA af af];refine bH w bO ?_;intro D l P s;have x:=G.lZ (s m (e6 r));have L:gn D p m W S (A - n) f:=⟨l,g,x,q⟩;refine⟨some m,ak l,f o,look L o,?_⟩;rw[bA af af];refine ma tm x ?_;intro j y Q t;have i:=(t p r).trans l;have B:gn j p m W S (A - n) (jw f o (-n)):=⟨i,_,y,λk=>by
    unfold jw;by_cases hk:k=o
    .simp[hk,Int.sub_eq_add_neg]
    .simp[hk,q]⟩
   have F:Fr (λc=>c=p\/c=m) h j:=Fr.of_eq af λc H=>by rw[t c (λe=>H (.inr e)),s c (λe=>H (.inl e))]
   have J:=look B o;refine⟨some m,ak i,jw f o (-n) o,J,?_⟩;simp only[aG];by_cases u:jw f o (-n) o=0
   .simp only[u,eP,bf];refine⟨some m,ak i,?_⟩;refine wK tm y ?_;intro E I T z;refine⟨rfl,C a E ⟨(z p r).trans i,_,I,λk=> ?_⟩ (Fr.of_eq af λc H=> ?_)⟩
    .by_cases hk:k=o
     .subst hk;simp[u]
     .simp[hk,q,jw]
    .rw[z c (λe=>H (.inr e)),t c (λe=>H (.inr e)),s c (λe=>H (.inl e))]
   .have M:(jw f o (-n) o==0)=false:=by simpa using u
    simp only[M,aq,aJ];exact C a j B F
def wX(W S:Int):Bool:=decide (1<=W) && decide (W<=1048576) && decide (1<=S) && decide (S<=W)
theorem JH:wX W S=true↔1<=W/\W<=1048576/\1<=S/\S<=W:=by simp[wX,and_assoc]
theorem gC(W S:Int){h:aj}(K:wX W S=true->∀h' p m,gn h' p m W S 0 (λ_=>0)->h.size<=p->h.size<=m->Fr No h h'->R (.tuple #[.P p 0,.I 0]) h')(k:wX W S=false->R (.tuple #[.pointer none,.I 1]) h):Cl 34 #[.I W,.I S] h R:=by
 refine JF.walk ?_;simp only[aG];by_cases a:W<1
 .simpa only[a,bu,bf]using k (by simp[wX,show¬1<=W by omega])
 .simp only[a,bh,aq,aJ];by_cases c:W>1048576
  .simpa only[c,bu,bf]using k (by simp[wX,show¬W<=1048576 by omega])
  .simp only[c,bh,aq,aJ];by_cases d:S<1
   .simpa only[d,bu,bf]using k (by simp[wX,show¬1<=S by omega])
   .simp only[d,bh,aq,aJ];by_cases e:S>W
    .simpa only[e,bu,bf]using k (by simp[wX,show¬S<=W by omega])
    .simp only[e,bh,aq,aJ];rintro b g rfl rfl b1 i rfl rfl;refine K (JH.2 af) _ _ h.size ⟨bR,λ_=>none,?_,λ_=>rfl⟩ bO bO ?_
     .exact(mF.push h).frame (Fr.push (S:=λ_=>False) _ _) bO
     .exact(Fr.push (S:=λ_=>False) h _).trans (Fr.push (S:=λ_=>False) _ _) (λ_ _ H=>H) (λ_ _ H=>H)
end lu
end
section
namespace eU
open gD (It)
variable {l L:List It} {x:It} {o:Int}
def wA(l:List It):Int:=(l.map (λx=>(x.d.length:Int))).sum
def own(l:List It)(o:Int):Int:=wA (l.filter (λx=>decide (x.owner=o)))
theorem y8(p:l.Perm L):wA l=wA L:=by
 induction p with
 |nil=>rfl
 |cons x _ i=>unfold wA at i⊢;simp only[bW,List.sum_cons];omega
 |swap x y l=>unfold wA;simp only[bW,List.sum_cons];omega
 |trans _ _ H a=>exact H.trans a
theorem y9(p:l.Perm L):own l=own L:=funext λo=>y8 (p.filter _)
theorem ji:wA (x::l)=x.d.length+wA l:=by unfold wA;rw[bW,List.sum_cons]
theorem mh:own (x::l) o=(if x.owner=o then(x.d.length:Int)else 0)+own l o:=by
 unfold own;rw[bZ];split<;>rename_i h
 .rw[ji,ag (aP h)]
 .rw[ae (λe=>h (au e))];omega
theorem Gi:0<=wA l:=by
 induction l with
 |nil=>exact dL _
 |cons x l i=>rw[ji];omega
theorem Gj:0<=own l o:=Gi
theorem Qc(H:x∈l):(x.d.length:Int)<=own l x.owner:=by
 obtain⟨a,b,rfl⟩:=List.append_of_mem H;rw[y9 List.perm_middle,mh,ag rfl];have:=Gj (l:=a++b) (o:=x.owner);omega
abbrev rV(l:List It):Prop:=lu.Ok 4800 1600 (wA l) (own l)
theorem rV.perm(ok:rV l)(p:l.Perm L):rV L:=by
 unfold rV;rw[<-y8 p,<-y9 p];exact ok
theorem rV.sub(ok:rV (x::l)):rV l:=by
 obtain⟨a,b,c,d,e,f⟩:=ok;rw[ji]at d e;have:=Gi (l:=l);refine⟨a,b,c,af,af,λk=>⟨Gj,?_⟩⟩;have:=(f k).2;rw[mh]at this;split at this<;>omega
theorem rV.nil:rV []:=⟨dH,dH,dH,dH,dH,λ_=>⟨dL 0,show(0:Int)<=1600 by decide⟩⟩
theorem Ig:lu.jw (own l) x.owner (x.d.length:Int)=own (x::l):=by
 funext k
 unfold lu.jw;rw[mh];by_cases e:k=x.owner
 .rw[ag e,ag e.symm];omega
 .rw[ae e,ae (λq=>e q.symm)];omega
theorem L5:lu.jw (own (x::l)) x.owner (-(x.d.length:Int))=own l:=by
 funext k
 unfold lu.jw;rw[mh];by_cases e:k=x.owner
 .rw[ag e,ag e.symm];omega
 .rw[ae e,ae (λq=>e q.symm)];omega
def SV(x:It):Prop:=1<=x.d.length/\x.d.length<=600/\1<=x.owner/\x.owner<=1099511627776
section
variable {h h' : aj} {R : Value → aj → Prop} {p m : Nat}
abbrev Pu(h:aj)(p m:Nat)(l:List It):Prop:=lu.gn h p m 4800 1600 (wA l) (own l)
theorem Pu.perm(H:Pu h p m l)(q:l.Perm L):Pu h p m L:=by
 unfold Pu;rw[<-y8 q,<-y9 q];exact H
theorem Rl{n:Int}(H:Pu h p m (x::l))(ok:rV (x::l))(k:SV x)(b:n=(x.d.length:Int))(hk: ∀h',Pu h' p m l->Fr (λc=>c=p\/c=m) h h'->R (.I 0) h'):
  Cl 55 #[.P p 0,.I x.owner,.I n] h R:=by
 subst b;have g:lu.qq (own (x::l)) x.owner (x.d.length:Int)=true:=lu.JG.2 ⟨⟨k.2.2.1,k.2.2.2,af⟩,Qc bO⟩;refine lu.Om H ok _ _ (λ_ h' a f=>hk h' ?_ f) (λe=>by rw[g]at e;cases e);rw[L5,ji,show(x.d.length:Int)+wA l - x.d.length=wA l by omega]at a;exact a
end
end eU
end
section
variable {h:aj} {R:fj}
variable {t e d c0 s c F:Nat} {num token id A:Int} {f S:cg}
theorem CP.walk(a:aQ h (.cells #[.bool true,.Z] 90) λb H=>R (.P b 0) H):Cl 35 #[] h R:=aN (lq ll) Tryz.func35 a
theorem rJ.walk (g:aG (λ(t6:Bool) (H:aj)=>if t6 then R (.tuple #[.pointer none,.I 6]) H else aG (λ(t16:Bool) (b:aj)=>if t16 then R (.tuple #[.pointer none,.I 4]) b else Hl b t 1 λm l n=>Bd (wrap .i64 (num - 1)) l/\aM m λa=> ∃t35,aX b (a.add (toNat (wrap .i64 (num - 1))*1))=some (.pointer t35)/\R (.tuple #[.pointer t35,.I 0]) b) (λj=>if(decide (num<1))then j true H else∃k T i,Cc H t 1 (.slice k T i)/\j (decide (num>((T:Nat):Int))) H)) (λJ=> ∃t13,Cc h t 0 (.bool t13)/\J (!t13) h)):Cl 78 #[.P t 0,.I num] h R:=aN (lq (sq (bq (sq (.join [(6,.one (.bool))] lf) (cq ll (sq (.join [(16,.one (.bool))] lf) (cq ll lf))))) ll)) Tryz.func78 g
theorem uq.walk(g:Cl 78 #[.P t 0,.I num] h λv H=> ∃T b,v=.tuple #[.pointer T,.I b]/\if(b==0)then aM T λa=> ∃t19,aX H (a.add 2)=some (.bool t19)/\R (.bool t19) H else R (.bool false) H):Cl 28 #[.P t 0,.I num] h R:=aN (lq (lq ll)) Tryz.func28 g
theorem ur.walk(g:Hl h t 1 λi T j=> ∃(I:Int->aj->Prop)(m:Int->aj->Nat),I 0 h/\∀(t12:Int)(H:aj),I t12 H->if(decide (t12<(T:Int)))then Bd t12 T/\aM i λa=>vj H (a.add (toNat t12*1)) λt15=>aM t15 λb=> ∃t19,aX H (b.add 1)=some (.U t19)/\if(t19==token)then R (.pointer t15) H else(I (wrap .i64 (t12+1)) H/\m (wrap .i64 (t12+1)) H<m t12 H)else R (.pointer none) H):Cl 40 #[.P t 0,.U token] h R:=aN (lq (sq (lq (bq (.loop [(12,.one (.int .i64))] (lq (sq (cq lf lf) (sq (bq (lq (lq (cq ll lf)))) lf)))))) ll)) Tryz.func40 g
theorem rK.walk (x:aG (λ(t7:Bool) (a:aj)=>if t7 then R (.tuple #[.I 0,.I 6]) a else aG (λ(t17:Bool) (g:aj)=>if t17 then R (.tuple #[.I 0,.I 1]) g else Cl 40 #[.P t 0,.U token] g λv H=> ∃t27,v=.pointer t27/\if(!t27.isNone)then R (.tuple #[.I 0,.I 12]) H else∃z T y,Cc H t 1 (.slice z T y)/\if(decide (((T:Nat):Int)≥8))then R (.tuple #[.I 0,.I 5]) H else∃D l C,Cc H t 1 (.slice D l C)/\aQ H (.cells #[.I (wrap .i64 (((l:Nat):Int)+1)),.U token,.bool true,.bool false,.Z,.Z] 76) λb i=> ∃o n m,Cc i t 1 (.slice o n m)/\aQ i (.cells #[.P b 0] 91) λB u=>aU Tryz.prog (Builtin.append_ #[88,88] 88 #[.slice o n m,.slice (Sa B 0) 1 1]) u λV w=> ∃r q p,V=.slice r q p/\aO w (AA t 1) (.slice r q p) λk=> ∃t58,Cc k b 0 (.I t58)/\R (.tuple #[.I t58,.I 0]) k) (λj=>if(decide (token<1))then j true a else j (decide (token>2147483648)) a)) (λJ=> ∃t14,Cc h t 0 (.bool t14)/\J (!t14) h)):Cl 12 #[.P t 0,.U token] h R:=aN (lq (sq (bq (sq (.join [(7,.one (.bool))] lf) (cq ll (sq (.join [(17,.one (.bool))] lf) (cq ll (lq (cq ll (lq (cq ll lf))))))))) (lq (lq ll)))) Tryz.func12 x
theorem rL.walk(j:Cl 78 #[.P t 0,.I num] h λv H=> ∃T b,v=.tuple #[.pointer T,.I b]/\if(b !=0)then R (.I b) H else aM T λa=> ∃t21,aX H (a.add 2)=some (.bool t21)/\if(!t21)then R (.I 7) H else aM T λg=>aO H (g.add 2) (.bool false) λi=>R (.I 0) i):Cl 73 #[.P t 0,.I num] h R:=aN (lq (lq (sq (bq (lq (cq ll (lq (cq ll lf))))) (lq ll)))) Tryz.func73 j
theorem rM.walk{w:cg}{D u:Nat} (Q:aQ h (.cells #[.U id] 27) λb L=>Cl 78 #[.P t 0,.I num] L λv H=> ∃T n,v=.tuple #[.pointer T,.I n]/\if(n !=0)then R (.I n) H else aG (λ(t21:Bool) (j:aj)=>if t21 then R (.I 1) j else aM T λa=>te j (a.add 4) λW V U=>Cl 109 #[.slice W V U,.func (.func 110) #[] #[.P b 0]] j λl' P=>Vl l' λZ Y X=>aM T λB=>aO P (B.add 4) (.slice Z Y X) λk=>aM T λi=>te k (i.add 4) λq p o=>Hu k b 0 λt43=>Cl 50 #[.slice w D u] k λm' l=>Vl m' λc' b' a'=>Cc l b 0 (.U t43)/\aX l (i.add 4)=some (.slice q p o)/\aQ l (.cells #[.U t43,.slice c' b' a'] 161) λK m=>Cc m b 0 (.U t43)/\aX m (i.add 4)=some (.slice q p o)/\aU Tryz.prog (Builtin.append_ #[74,74] 74 #[.slice q p o,.slice (Sa K 0) 1 1]) m λn' x=>Vl n' λf' e' d'=>Cc x b 0 (.U t43)/\aM T λC=>aO x (C.add 4) (.slice f' e' d') λg=>aM T λE=>te g (E.add 4) λq' g' p'=>aG (λ(M:aj)=>R (.I 0) M) (λr=>if(decide ((g':Int)>6))then aM T λG=>te g (G.add 4) λh' z y=>((0:Int)<=1/\1<=(z:Int))/\Cl 111 #[.slice (cK h' y (toNat 1) 2) (z - (toNat 1)) (y - (toNat 1))] g λo' N=>Vl o' λk' j' i'=>aM T λI=>aO N (I.add 4) (.slice k' j' i') λO=>r O else r g)) (λJ=> ∃t22,Cc H b 0 (.U t22)/\if(decide (t22>1099511627776))then J true H else J (decide ((D:Int)>1000)) H)):Cl 46 #[.P t 0,.I num,.U id,.slice w D u] h R:=aN (lq (lq (sq (bq (lq (cq ll (sq (.join [(21,.one (.bool))] lf) (cq ll lf))))) (lq (sq (pN 14) (sq (lq (.join [] (cq lf lf))) ll)))))) Tryz.func46 Q
theorem px.walk(a:aQ h (.cells #[.U A,.slice f e d] 161) λb H=>Hu H b 0 λt5=> ∃t6,Cc H c0 0 (.U t6)/\R (.bool (t5==t6)) H):Cl 110 #[.agg #[.U A,.slice f e d],.P c0 0] h R:=aN (lq ll) Tryz.func110 a
theorem rN.walk(q:aQ h (.cells #[.U id] 27) λb o=>Cl 78 #[.P t 0,.I num] o λv g=> ∃T i,v=.tuple #[.pointer T,.I i]/\if(i !=0)then R (.tuple #[.Z,.bool false]) g else aM T λa=>te g (a.add 4) λw u r=>Cl 89 #[.slice w u r,.func (.func 90) #[] #[.P b 0]] g λV H=> ∃t24,V=.I t24/\if(decide (t24<0))then R (.tuple #[.Z,.bool false]) H else aM T λm=>te H (m.add 4) λy x E=>Bd t24 x/\aM y λn=>te H ((n.add (toNat t24*2)).add 1) λC B z=>Cl 50 #[.slice C B z] H λD p=> ∃l k j,D=.slice l k j/\R (.tuple #[.slice l k j,.bool true]) p):Cl 42 #[.P t 0,.I num,.U id] h R:=aN (lq (lq (sq (lq (cq ll lf)) (lq (sq (lq (cq ll lf)) ll))))) Tryz.func42 q
theorem py.walk(a:aQ h (.cells #[.U A,.slice f e d] 161) λb H=>Hu H b 0 λt5=> ∃t6,Cc H c0 0 (.U t6)/\R (.bool (t5==t6)) H):Cl 90 #[.agg #[.U A,.slice f e d],.P c0 0] h R:=aN (lq ll) Tryz.func90 a
theorem qt.walk{on:Bool}(j:Cl 78 #[.P t 0,.I num] h λv H=> ∃b T,v=.tuple #[.pointer b,.I T]/\aG (λ(g:aj)=>R (.I T) g) (λJ=>if(T==0)then aM b λa=>aO H (a.add 3) (.bool on) λi=>J i else J H)):Cl 166 #[.P t 0,.I num,.bool on] h R:=aN (lq (lq (sq (lq (.join [] (cq lf lf))) ll))) Tryz.func166 j
theorem rO.walk(u:Cl 78 #[.P t 0,.I num] h λv b=> ∃T g,v=.tuple #[.pointer T,.I g]/\aG (λ(n:Int) (H:aj)=>if(n==0)then R (.tuple #[.Z,.I 0,.I g]) H else aM T λa=>te H (a.add 5) λz y L=>Bd 0 y/\aM z λl=>te H (l.add (toNat 0*1)) λD C B=>aM T λm=>te H (m.add 5) λE k j=>((0:Int)<=1/\1<=(k:Int))/\Cl 198 #[.slice (cK E j (toNat 1) 1) (k - (toNat 1)) (j - (toNat 1))] H λV q=>Vl V λK I G=>aM T λo=>aO q (o.add 5) (.slice K I G) λr=>R (.tuple #[.slice D C B,.I n,.I 0]) r) (λJ=>if(g==0)then aM T λp=> ∃x i w,aX b (p.add 5)=some (.slice x i w)/\J ((i:Nat):Int) b else J 0 b)):Cl 167 #[.P t 0,.I num] h R:=aN (lq (lq (lq (sq (lq (.join [(9,.one (.int .i64))] (cq lf lf))) (sq (lq (cq ll lf)) (lq (lq ll))))))) Tryz.func167 u
theorem gS.mi.walk{D:Nat}(x:Cl 89 #[.slice S s c,.func (.func 110) #[] #[.P D 0]] h λv l=> ∃t10,v=.I t10/\if(t10==(-1))then R (.slice S s c) l else∃(I:Int->Int->aj->Prop)(M:Int->Int->aj->Nat),I t10 (wrap .i64 (t10+1)) l/\∀(i:Int)(j:Int)(H:aj),I i j H->if(decide (j<(s:Int)))then aG (λ(o:Int) (m:aj)=>(I o (wrap .i64 (j+1)) m/\M o (wrap .i64 (j+1)) m<M i j H)) (λJ=>Bd j s/\aM S λa=>cz.LD H (a.add (toNat j*2)) λT C B z=>aQ H (.cells #[.U 0,.Z] 161) λb q=>cz.ST q (AA b 0) T C B z λn=>cz.LD n (AA b 0) λE L K G=>Cl 110 #[.agg #[.U E,.slice L K G],.P D 0] n λV g=>Vb V λt28=>aG (λ(y:Int) (r:aj)=>J y r) (λk=>if(!t28)then cz.LD g (AA b 0) λN Q P O=>Bd i s/\aM S λp=>cz.ST g (p.add (toNat i*2)) N Q P O λu=>k (wrap .i64 (i+1)) u else k i g))else((0:Int)<=i/\i<=(s:Int))/\aU Tryz.prog (Builtin.clear_ #[74] 0 #[.slice (cK S c (toNat i) 2) (s - (toNat i)) (c - (toNat i))]) H λU w=>U=.tuple #[]/\((0:Int)<=i/\i<=(c:Int))/\R (.slice (cK S c 0 2) ((toNat i) - 0) (c - 0)) w):Cl 109 #[.slice S s c,.func (.func 110) #[] #[.P D 0]] h R:=aN (lq (lq (sq (lq (cq ll lf)) (sq (lq (bq (.loop [(5,.one (.int .i64)),(6,.one (.int .i64))] (sq (lq (cq lf lf)) (sq (.join [(5,.one (.int .i64))] (bq (lq (lq (.join [(5,.one (.int .i64))] (cq ll lf)))))) lf))))) (lq ll))))) Tryz.func109 x
theorem en.mi.walk(g: ∃(I:Int->aj->Prop)(m:Int->aj->Nat),I 0 h/\∀(t8:Int)(H:aj),I t8 H->if(decide (t8<(s:Int)))then Bd t8 s/\aM S λa=>cz.LD H (a.add (toNat t8*2)) λT k j i=>Cl 110 #[.agg #[.U T,.slice k j i],.P F 0] H λv b=> ∃t16,v=.bool t16/\if t16 then R (.I t8) b else(I (wrap .i64 (t8+1)) b/\m (wrap .i64 (t8+1)) b<m t8 H)else R (.I (-1)) H):Cl 89 #[.slice S s c,.func (.func 110) #[] #[.P F 0]] h R:=aN (lq (sq (lq (bq (.loop [(8,.one (.int .i64))] (lq (sq (cq lf lf) (sq (bq (lq (lq (cq ll lf)))) lf)))))) ll)) Tryz.func89 g
theorem en.kept.walk(g: ∃(I:Int->aj->Prop)(m:Int->aj->Nat),I 0 h/\∀(t8:Int)(H:aj),I t8 H->if(decide (t8<(s:Int)))then Bd t8 s/\aM S λa=>cz.LD H (a.add (toNat t8*2)) λT k j i=>Cl 90 #[.agg #[.U T,.slice k j i],.P F 0] H λv b=> ∃t16,v=.bool t16/\if t16 then R (.I t8) b else(I (wrap .i64 (t8+1)) b/\m (wrap .i64 (t8+1)) b<m t8 H)else R (.I (-1)) H):Cl 89 #[.slice S s c,.func (.func 90) #[] #[.P F 0]] h R:=aN (lq (sq (lq (bq (.loop [(8,.one (.int .i64))] (lq (sq (cq lf lf) (sq (bq (lq (lq (cq ll lf)))) lf)))))) ll)) Tryz.func89 g
theorem ig.walk(j:if S.isNone then R (.Z) h else aQ h (.cells #[] 161) λb H=>aU Tryz.prog (Builtin.append_ #[74,74] 74 #[.slice (Sa b 0) 0 0,.slice S s c]) H λv i=> ∃g a T,v=.slice g a T/\R (.slice g a T) i):Cl 111 #[.slice S s c] h R:=aN (lq (sq (lq (cq ll lf)) ll)) Tryz.func111 j
theorem kV.walk(j:if S.isNone then R (.Z) h else aQ h (.cells #[] 22) λb H=>aU Tryz.prog (Builtin.append_ #[64,64] 64 #[.slice (Sa b 0) 0 0,.slice S s c]) H λv i=> ∃g a T,v=.slice g a T/\R (.slice g a T) i):Cl 198 #[.slice S s c] h R:=aN (lq (sq (lq (cq ll lf)) ll)) Tryz.func198 j

end
section
open Go.fM
namespace fx
open iD
variable {h h' u:aj} {t:Nat} {X:Ft} {R:fj} {p q:cg} {c i:Nat}
structure AV where
 id:Nat
 v:BV
abbrev AV.enc(a:AV):List Value:= [.int .u64 (a.id:Int),a.v.val]
structure SC where
 b:Nat
 num:Nat
 token:Nat
 up:Bool
 watch:Bool
 kept:List AV
 kp:cg
 kc:Nat
 notes:List BV
 np:cg
 nc:Nat
structure fx where
 num:Nat
 token:Nat
 up:Bool
 watch:Bool
 kept:List (Nat×cH)
 notes:List (cH)
def AV.abs(a:AV):Nat×cH:=(a.id,a.v.b)
def SC.abs(s:SC):fx:=⟨s.num,s.token,s.up,s.watch,s.kept.map AV.abs,s.notes.map BV.b⟩
theorem uu{α:Type}{l:List α}{i:Nat}{v:α}(h:l[i]? =some v):l.set i v=l:=by
 apply fp
 intro j;rw[cX];split
 .rename_i e;subst e;rw[ag (aA.1 h).1,h]
 .rfl
abbrev Pz:=Nat->Option Nat
abbrev At(h:aj)(s:SC):Prop:=iy.at h s.b (s.num:Int) (s.token:Int) s.up s.watch s.kp s.kept.length s.kc s.np s.notes.length s.nc
structure za (h:aj) (d:Pz) (D:Nat->Prop) (i:Nat) (s:SC):Prop where
 cQ:At h s
 lb:d s.b=some (2+3*i)
 qu:fi h s.kp s.kept.length s.kc 2 (s.kept.flatMap AV.enc)
 kl: ∀c,aL s.kp c->d c=some (3+3*i)
 xx:fi h s.np s.notes.length s.nc 1 (s.notes.flatMap qj)
 nl: ∀c,aL s.np c->d c=some (4+3*i)
 kd: ∀a∈s.kept,a.v.ok h D
 nd: ∀n∈s.notes,n.ok h D
structure nE (h:aj) (t:Nat) (d:Pz) (D:Nat->Prop) (L:List SC):Prop where
 cQ: ∃p c,h[t]? =some (.cells #[.bool true,.slice p L.length c] 90 (0,0))/\fi h p L.length c 1 (L.map λs=> .pointer (some ⟨s.b,0,none⟩))/\∀x,aL p x->d x=some 1
 NO:d t=some 0
 ses: ∀i s,L[i]? =some s->za h d D i s
 L8: ∀c r,d c=some r->c<h.size
 Dw: ∀c,D c->c<h.size
 ap: ∀c r,d c=some r->¬D c
def rP(h:aj)(t:Nat)(X:Ft)(A:List fx)(B:List Nat):Prop:=
 ∃d L,nE h t d X.D L/\L.map SC.abs=A/\L.map SC.b=B/\∀c,X.M c↔ ∃r,d c=some r
def Has(h:aj)(t:Nat)(X:Ft)(A:List fx):Prop:= ∃B,rP h t X A B
variable {d : Pz} {D : Nat → Prop} {L : List SC} {A : List fx}
theorem za.frame{Q:Nat->Prop}{s:SC}(H:za h d D i s)(f:Fr Q h h')(e: ∀c r,d c=some r->2+3*i<=r->r<=4+3*i->¬Q c)(hd: ∀c,D c->¬Q c):za h' d D i s:=
 ⟨f.get H.cQ (e _ _ H.lb af af),H.lb,H.qu.frame f (λc b=>e c _ (H.kl c b) af af),H.kl,H.xx.frame f (λc b=>e c _ (H.nl c b) af af),H.nl,λa g=>(H.kd a g).frame f hd,λn j=>(H.nd n j).frame f hd⟩
theorem za.mono{l:Pz}{D':Nat->Prop}{s:SC}(H:za h d D i s)(e: ∀c r,d c=some r->l c=some r)(hd: ∀c,D c->D' c):za h l D' i s:=
 ⟨H.cQ,e _ _ H.lb,H.qu,λc b=>e c _ (H.kl c b),H.xx,λc b=>e c _ (H.nl c b),λa f=>(H.kd a f).mono hd,λn g=>(H.nd n g).mono hd⟩
theorem rP.lt{B:List Nat}(H:rP h t X A B): ∀x,X.M x\/X.D x->x<h.size:=by
 obtain⟨d,L,T,_,_,a⟩:=H;rintro x (e|hd)
 .obtain⟨r,b⟩:=(a x).1 e;exact T.L8 x r b
 .exact T.Dw x hd
theorem rP.vr{B:List Nat}(H:rP h t X A B): ∀x,X.M x->¬X.D x:=by
 obtain⟨d,L,T,_,_,a⟩:=H;intro x e;obtain⟨r,b⟩:=(a x).1 e;exact T.ap x r b
theorem rP.frame{B:List Nat}{Q:Nat->Prop}(H:rP h t X A B)(f:Fr Q h h')(k: ∀x,X.M x\/X.D x->¬Q x):rP h' t X A B:=by
 obtain⟨d,L,T,e,E,g⟩:=H;obtain⟨p,c,l,own,j⟩:=T.cQ;have b: ∀c r,d c=some r->¬Q c:=λc r a=>k c (.inl ((g c).2 ⟨r,a⟩))
 refine⟨d,L,⟨⟨p,c,f.get l (b t _ T.NO),own.frame f (λx n=>b x _ (j x n)),j⟩,T.NO,λi s m=>(T.ses i s m).frame f (λc r a _ _=>b c r a) (λc hd=>k c (.inr hd)),?_,?_,T.ap⟩,e,E,g⟩
 .intro c r a;exact ct (T.L8 c r a) f.1
 .intro c hd;exact ct (T.Dw c hd) f.1
theorem Has.lt(H:Has h t X A): ∀x,X.M x\/X.D x->x<h.size:=by obtain⟨B,H⟩:=H;exact H.lt
theorem Has.vr(H:Has h t X A): ∀x,X.M x->¬X.D x:=by obtain⟨B,H⟩:=H;exact H.vr
theorem Has.frame{Q:Nat->Prop}(H:Has h t X A)(f:Fr Q h h')(a: ∀x,X.M x\/X.D x->¬Q x):Has h' t X A:=by obtain⟨B,H⟩:=H;exact⟨B,H.frame f a⟩
open Classical in
theorem nE.Rm{s s':SC}{Q E:Nat->Prop}(T:nE h t d X.D L)(C: ∀c,X.M c↔ ∃r,d c=some r)(y:L[i]? =some s)(B:s'.b=s.b)(f:Fr Q h h')(o: ∀c,Q c->∃r,d c=some r/\2+3*i<=r/\r<=4+3*i)(cQ:At h' s')(qu:fi h' s'.kp s'.kept.length s'.kc 2 (s'.kept.flatMap AV.enc))(kn: ∀c,aL s'.kp c->d c=some (3+3*i)\/h.size<=c)(xx:fi h' s'.np s'.notes.length s'.nc 1 (s'.notes.flatMap qj))(U: ∀c,aL s'.np c->d c=some (4+3*i)\/h.size<=c)(N: ∀c,aL s'.kp c->aL s'.np c->False)(w: ∀c,E c->d c=none/\c<h'.size/\¬aL s'.kp c/\¬aL s'.np c)(kd: ∀a∈s'.kept,a.v.ok h' (λc=>X.D c\/E c))(nd: ∀n∈s'.notes,n.ok h' (λc=>X.D c\/E c)):
  ∃v,rP h' t v ((L.map SC.abs).set i s'.abs) (L.map SC.b)/\Fr X.M h h'/\(∀c,v.M c->X.M c\/h.size<=c)/\(∀c,v.D c->X.D c\/E c)/\∀c,X.D c->v.D c:=by
 let z:Pz:=λc=>if h.size<=c/\aL s'.kp c then some (3+3*i)else if h.size<=c/\aL s'.np c then some (4+3*i)else d c
 have xR: ∀c r,d c=some r->z c=some r:=λc r H=>by
  have:=T.L8 c r H;show(if h.size<=c/\aL s'.kp c then some (3+3*i)else if h.size<=c/\aL s'.np c then some (4+3*i)else d c)=some r;rw[ae (λk=>af),ae (λk=>af)];exact H
 have new: ∀c r,z c=some r->d c=some r\/(h.size<=c/\(aL s'.kp c\/aL s'.np c)):=λc r H=>by
  have H:(if h.size<=c/\aL s'.kp c then some (3+3*i)else if h.size<=c/\aL s'.np c then some (4+3*i)else d c)=some r:=H;split at H
  .rename_i k;exact .inr ⟨k.1,.inl k.2⟩
  .split at H
   .rename_i k;exact .inr ⟨k.1,.inr k.2⟩
   .exact .inl H
 have S: ∀c,aL s'.kp c\/aL s'.np c->c<h'.size:=λc g=>g.elim (λg=>qu.dV g) (λg=>xx.dV g)
 have hd: ∀c,X.D c->¬Q c:=λc g l=>by obtain⟨r,H,_⟩:=o c l;exact T.ap c r H g
 obtain⟨p,c0,J,own,F⟩:=T.cQ;have K:i<L.length:=(aA.1 y).1;have O: ¬Q t:=λl=>by obtain⟨r,H,h1,b⟩:=o t l;rw[T.NO]at H;cases H;omega
 have P: ∀x,aL p x->¬Q x:=λx l M=>by obtain⟨r,H,h1,b⟩:=o x M;rw[F x l]at H;cases H;omega
 have V:(L.set i s').map (λs=>Value.P s.b 0)=L.map (λs=>Value.P s.b 0):=by
  rw[List.map_set,B];exact uu (by rw[aI,y];rfl)
 have I:(L.set i s').map SC.b=L.map SC.b:=by
  rw[List.map_set,B];exact uu (by rw[aI,y];rfl)
 refine⟨⟨λc=> ∃r,z c=some r,λc=>X.D c\/E c⟩,⟨z,L.set i s',⟨⟨p,c0,?_,?_,λx l=>xR x _ (F x l)⟩,xR t 0 T.NO,?_,?_,?_,?_⟩,?_,I,λc=>eE⟩,?_,?_,λc h=>h,λc=> .inl⟩
 .rw[cY];exact f.get J O
 .rw[V,cY];exact own.frame f P
 .intro j W m;rw[cX]at m;by_cases e:i=j
  .subst e;rw[ag rfl,ag K]at m;obtain rfl:=bj m;refine⟨cQ,?_,qu,λc g=> ?_,xx,λc g=> ?_,kd,nd⟩
   .rw[B];exact xR _ _ (T.ses i s y).lb
   .show(if h.size<=c/\aL s'.kp c then some (3+3*i)else if h.size<=c/\aL s'.np c then some (4+3*i)else d c)=_;rcases kn c g with h1|h1
    .have:=T.L8 c _ h1;rw[ae (λk=>af),ae (λk=>af)];exact h1
    .rw[ag ⟨h1,g⟩]
   .show(if h.size<=c/\aL s'.kp c then some (3+3*i)else if h.size<=c/\aL s'.np c then some (4+3*i)else d c)=_;rw[ae (λk=>N c k.2 g)];rcases U c g with h1|h1
    .have:=T.L8 c _ h1;rw[ae (λk=>af)];exact h1
    .rw[ag ⟨h1,g⟩]
  .rw[ae e]at m;refine((T.ses j W m).frame f (λc r H h1 b l=> ?_) hd).mono xR (λc=> .inl);obtain⟨r',G,Y,Z⟩:=o c l;rw[H]at G;cases G;omega
 .intro c r H;rcases new c r H with h1|⟨_,h1⟩
  .exact ct (T.L8 c r h1) f.1
  .exact S c h1
 .rintro c (h1|h1)
  .exact ct (T.Dw c h1) f.1
  .exact(w c h1).2.1
 .rintro c r H (h1|h1)
  .rcases new c r H with b|⟨b,_⟩
   .exact T.ap c r b h1
   .have:=T.Dw c h1;omega
  .rcases new c r H with b|⟨_,b⟩
   .rw[(w c h1).1]at b;cases b
   .exact b.elim (w c h1).2.2.1 (w c h1).2.2.2
 .rw[List.map_set]
 .exact f.mono (λc _ l=>by obtain⟨r,H,_⟩:=o c l;exact(C c).2 ⟨r,H⟩)
 .rintro c ⟨r,H⟩;rcases new c r H with b|⟨b,_⟩
  .exact .inl ((C c).2 ⟨r,b⟩)
  .exact .inr b
theorem nE.SW{s s':SC}{Q E:Nat->Prop}(T:nE h t d X.D L)(j: ∀c,X.M c↔ ∃r,d c=some r)(o:L[i]? =some s)(k:s'.b=s.b)(f:Fr Q h h')(m: ∀c,Q c->∃r,d c=some r/\2+3*i<=r/\r<=4+3*i)(cQ:At h' s')(qu:fi h' s'.kp s'.kept.length s'.kc 2 (s'.kept.flatMap AV.enc))(kn: ∀c,aL s'.kp c->d c=some (3+3*i)\/h.size<=c)(xx:fi h' s'.np s'.notes.length s'.nc 1 (s'.notes.flatMap qj))(N: ∀c,aL s'.np c->d c=some (4+3*i)\/h.size<=c)(K: ∀c,aL s'.kp c->aL s'.np c->False)(b: ∀c,E c->h.size<=c/\c<h'.size/\¬aL s'.kp c/\¬aL s'.np c)(kd: ∀a∈s'.kept,a.v.ok h' (λc=>X.D c\/E c))(nd: ∀n∈s'.notes,n.ok h' (λc=>X.D c\/E c)):
  ∃x,rP h' t x ((L.map SC.abs).set i s'.abs) (L.map SC.b)/\bG X h x h':=by
 obtain⟨x,e,F,M,g,O⟩:=T.Rm (Q:=Q) (E:=E) j o k f m cQ qu kn xx N K (λc H=>⟨by
  cases l:d c with
  |none=>rfl
  |some r=>have:=T.L8 c r l;have:=(b c H).1;omega,(b c H).2⟩) kd nd
 exact⟨x,e,F,M,λc H=>(g c H).imp (λh=>h) (λh=>(b c h).1),O⟩
theorem nE.flag{s s':SC}(T:nE h t d X.D L)(v: ∀c,X.M c↔ ∃r,d c=some r)(m:L[i]? =some s)(y:s'.b=s.b)(hk:s'.kept=s.kept/\s'.kp=s.kp/\s'.kc=s.kc)(j:s'.notes=s.notes/\s'.np=s.np/\s'.nc=s.nc)(cQ:At h' s')(B:h'.size=h.size)(z: ∀x,x≠s.b->h'[x]? =h[x]?): ∃l,rP h' t l ((L.map SC.abs).set i s'.abs) (L.map SC.b)/\bG X h l h':=by
 have H:=T.ses i s m;have f:Fr (λx=>x=s.b) h h':=Fr.of_eq B z;have N: ∀c,aL s.kp c->¬c=s.b:=λc g e=>by have k:=H.kl c g;rw[e,H.lb]at k;simp at k
 have C: ∀c,aL s.np c->¬c=s.b:=λc g e=>by have k:=H.nl c g;rw[e,H.lb]at k;simp at k
 have nD: ∀c,X.D c->¬c=s.b:=λc g e=>T.ap c _ (e▸H.lb) g
 refine T.SW (Q:=λx=>x=s.b) (E:=λ_=>False) v m y f (λc e=>⟨_,e▸H.lb,af,af⟩) cQ ?_ ?_ ?_ ?_ ?_ (λc g=>g.elim) ?_ ?_
 .rw[hk.1,hk.2.1,hk.2.2];exact H.qu.frame f N
 .rw[hk.2.1];exact λc g=> .inl (H.kl c g)
 .rw[j.1,j.2.1,j.2.2];exact H.xx.frame f C
 .rw[j.2.1];exact λc g=> .inl (H.nl c g)
 .rw[hk.2.1,j.2.1];exact λc k o=>by have a:=H.kl c k;have b:=H.nl c o;rw[a]at b;simp at b
 .rw[hk.1];exact λa w=>((H.kd a w).frame f nD).mono (λc=> .inl)
 .rw[j.1];exact λn j=>((H.nd n j).frame f nD).mono (λc=> .inl)
open Classical in
theorem nE.add{s:SC}{p:cg}{c0:Nat}{Q:Nat->Prop}(T:nE h t d X.D L)(y: ∀c,X.M c↔ ∃r,d c=some r)(f:Fr Q h h')(v: ∀c,Q c->d c=some 0\/d c=some 1)(B:h'[t]? =some (.cells #[.bool true,.slice p (L.length+1) c0] 90 (0,0)))(own:fi h' p (L.length+1) c0 1 (L.map (λs=> .P s.b 0)++ [.P s.b 0]))(C: ∀x,aL p x->d x=some 1\/h.size<=x)(E: ¬aL p s.b)(cQ:At h' s)(F:h.size<=s.b)(hk:s.kept= []/\s.kp=none/\s.kc=0)(m:s.notes= []/\s.np=none/\s.nc=0):
  ∃w,rP h' t w (L.map SC.abs++ [s.abs]) (L.map SC.b++ [s.b])/\bG X h w h':=by
 have G:=aC cQ
 let n:Pz:=λc=>if c=s.b then some (2+3*L.length)else if h.size<=c/\aL p c then some 1 else d c
 have xR: ∀c r,d c=some r->n c=some r:=λc r H=>by
  have:=T.L8 c r H;show(if c=s.b then some (2+3*L.length)else if h.size<=c/\aL p c then some 1 else d c)=some r;rw[ae (λk=>af),ae (λk=>af)];exact H
 have new: ∀c r,n c=some r->d c=some r\/(h.size<=c/\(c=s.b\/aL p c)):=λc r H=>by
  have H:(if c=s.b then some (2+3*L.length)else if h.size<=c/\aL p c then some 1 else d c)=some r:=H;split at H
  .rename_i k;exact .inr ⟨af,.inl k⟩
  .split at H
   .rename_i k;exact .inr ⟨k.1,.inr k.2⟩
   .exact .inl H
 have hd: ∀c,X.D c->¬Q c:=λc z b=>(v c b).elim (λh1=>T.ap c _ h1 z) (λh1=>T.ap c _ h1 z)
 refine⟨⟨λc=> ∃r,n c=some r,X.D⟩,⟨n,L++ [s],⟨⟨p,c0,?_,?_,?_⟩,xR t 0 T.NO,?_,?_,?_,?_⟩,?_,by rw[aW];rfl,λc=>eE⟩,?_,?_,λc=> .inl,λc=>id⟩
 .rw[av];exact B
 .rw[av,aW];exact own
 .intro x b;show(if x=s.b then some (2+3*L.length)else if h.size<=x/\aL p x then some 1 else d x)=some 1;rw[ae (λe:x=s.b=>E (e▸b))];rcases C x b with h1|h1
  .have:=T.L8 x _ h1;rw[ae (λk=>af)];exact h1
  .rw[ag ⟨h1,b⟩]
 .intro j S l;by_cases e:j<L.length
  .rw[cT e]at l;refine((T.ses j S l).frame f (λc r H h1 g b=> ?_) hd).mono xR (λc h=>h);rcases v c b with h3|h3
   .rw[H]at h3;cases h3;omega
   .rw[H]at h3;cases h3;omega
  .rw[cP af]at l;have e2:j=L.length:=by
    have:=(aA.1 l).1;simp at this;omega
   subst e2;simp at l;subst l;refine⟨cQ,?_,?_,?_,?_,?_,?_,?_⟩
   .show(if s.b=s.b then some (2+3*L.length)else _)=_;rw[ag rfl]
   .rw[hk.1,hk.2.1,hk.2.2];exact .nil rfl rfl rfl rfl
   .rw[hk.2.1];rintro c ⟨a,e,_⟩;cases e
   .rw[m.1,m.2.1,m.2.2];exact .nil rfl rfl rfl rfl
   .rw[m.2.1];rintro c ⟨a,e,_⟩;cases e
   .rw[hk.1];intro a o;cases o
   .rw[m.1];intro a o;cases o
 .intro c r H;rcases new c r H with h1|⟨_,h1|h1⟩
  .exact ct (T.L8 c r h1) f.1
  .omega
  .exact own.dV h1
 .intro c h1;exact ct (T.Dw c h1) f.1
 .intro c r H h1;rcases new c r H with g|⟨g,_⟩
  .exact T.ap c r g h1
  .have:=T.Dw c h1;omega
 .rw[aW];rfl
 .exact f.mono (λc _ b=>(y c).2 ((v c b).elim (λh1=>⟨_,h1⟩) (λh1=>⟨_,h1⟩)))
 .rintro c ⟨r,H⟩;rcases new c r H with g|⟨g,_⟩
  .exact .inl ((y c).2 ⟨r,g⟩)
  .exact .inr g
theorem tA:nJ Tryz.prog 74 161 2 32 (.agg #[.U 0,.Z]):=⟨cU,cU,rfl⟩
theorem uA:Tryz.prog.underlying 74=some (.slice 161):=cU
theorem gJ(a:AV):a.enc.length=2:=rfl
theorem Ma(xs:List AV): ∀v∈xs.flatMap AV.enc,fI v=true:=by
 intro v b;obtain⟨a,_,H⟩:=List.mem_flatMap.1 b;simp at H;rcases H with rfl|rfl<;>rfl
theorem JI{xs:List AV}{n m:Nat}(H:Row h p (xs.flatMap AV.enc))(j:n=xs.length)(k:xs.length<=1000000000)(hk: ∀P C h',fi h' P xs.length C 2 (xs.flatMap AV.enc)->Fr No h h'->(∀x,aL P x->h.size<=x)->R (.slice P xs.length C) h'):
  Cl 111 #[.slice p n m] h R:=by
 subst j;refine ig.walk ?_;cases p with
 |none=>
  have:xs= []:=by
   rcases H with H|⟨a,e,_⟩
   .cases xs with
    |nil=>rfl
    |cons b bs=>cases H
   .cases e
  subst this;exact hk none 0 h (.nil rfl rfl rfl rfl) (Fr.refl _ _) (λx ⟨a,e,_⟩=>by cases e)
 |some a=>
  simp only[Option.isNone_some,aq,aJ];exact vm tA uA H (eS AV.enc 2 gJ xs) (Ma xs) af af λP C h' o f g=>⟨_,_,_,rfl,hk P C h' o f g⟩
theorem JJ{xs:List BV}{n m:Nat}(H:Row h p (xs.flatMap qj))(j:n=xs.length)(k:xs.length<=1000000000)(hk: ∀P C h',fi h' P xs.length C 1 (xs.flatMap qj)->Fr No h h'->(∀x,aL P x->h.size<=x)->R (.slice P xs.length C) h'):
  Cl 198 #[.slice p n m] h R:=by
 subst j;refine kV.walk ?_;cases p with
 |none=>
  have:xs= []:=by
   rcases H with H|⟨a,e,_⟩
   .cases xs with
    |nil=>rfl
    |cons b bs=>cases H
   .cases e
  subst this;exact hk none 0 h (.nil rfl rfl rfl rfl) (Fr.refl _ _) (λx ⟨a,e,_⟩=>by cases e)
 |some a=>
  simp only[Option.isNone_some,aq,aJ];exact vm tN uN H (eS qj 1 nR xs) (LU xs) af af λP C h' o f g=>⟨_,_,_,rfl,hk P C h' o f g⟩
abbrev qx(h:aj)(b:Nat)(id:Nat):Prop:=h[b]? =some (.cells #[.int .u64 (id:Int)] 27 (0,0))
def xy(xs:List AV)(id:Nat):Int:=match xs.findIdx? (λa=>decide (a.id=id))with|some k=>(k:Int)|none=> -1
theorem Ek{b id:Nat}(a:AV)(hid:qx h b id)(hk: gU h R (.bool (decide (a.id=id)))):Cl 110 #[.agg #[.U (a.id:Int),a.v.val],.P b 0] h R:=by
 refine px.walk (cz.box λb1 H E f f1=>⟨_,ak f,_,ak (f1.get hid (λx=>x)),?_⟩);have e:((a.id:Int)==(id:Int))=decide (a.id=id):=by
  by_cases q:a.id=id
  .simp[q]
  .have: ¬(a.id:Int)=(id:Int):=af
   simp[q,this]
 rw[e];exact hk H f1
theorem Gk{xs:List AV}{n m b id:Nat}(z:Row h p (xs.flatMap AV.enc))(y:n=xs.length)(F:xs.length<=1000000000)(hid:qx h b id)(hk: gU h R (.I (xy xs id))):
  Cl 89 #[.slice p n m,.func (.func 110) #[] #[.P b 0]] h R:=by
 subst y;refine en.mi.walk ?_;refine⟨λi h'=>Fr No h h'/\∃k:Nat,i=(k:Int)/\k<=xs.length/\∀j (H:j<xs.length),j<k->xs[j].id≠id,λi _=>xs.length - i.toNat,⟨Fr.refl _ _,0,rfl,af,λj _ H=>af⟩,?_⟩;rintro _ g ⟨f1,k,rfl,E,f⟩;have r:=z.frame f1 (λ_ _ x=>x);have w:qx g b id:=f1.get hid (λx=>x);by_cases o:k<xs.length
 .have q1:(k:Int)<(xs.length:Int):=af
  simp only[q1,bu,bf,aD];have B:xs[k]? =some xs[k]:=ai o;obtain⟨a,rfl⟩:=r.some (λe=>by have:=bT List.length e;rw[eS AV.enc 2 gJ,bm]at this;omega);refine⟨⟨af,by first|trivial|omega⟩,ay.2 (cz.yH (r.fL gJ B) ?_)⟩;refine Ek xs[k] w λs f2=>⟨_,rfl,?_⟩
  by_cases e:xs[k].id=id
  .simp only[e,bu,bf];have:xy xs id=(k:Int):=by
    unfold xy;have:xs.findIdx? (λa=>decide (a.id=id))=some k:=by
     rw[cB];exact⟨o,cy e,λj H=>by simpa using f j af H⟩
    rw[this]
   rw[this]at hk;exact hk s (f1.tt f2)
  .simp only[e,bh,aq,aJ];rw[bA af af];refine⟨⟨f1.tt f2,k+1,af,af,λj H C=> ?_⟩,?_⟩
   .by_cases q:j=k
    .subst q;exact e
    .exact f j H af
   .show xs.length - Int.toNat ((k:Int)+1)<xs.length - Int.toNat (k:Int);omega
 .have q1: ¬(k:Int)<(xs.length:Int):=af
  simp only[q1,bh,aq,aJ];have:xy xs id= -1:=by
   unfold xy;have:xs.findIdx? (λa=>decide (a.id=id))=none:=by
    rw[dk];intro a v;obtain⟨j,H⟩:=bF v;have l:=(aA.1 H).1;rw[ai l]at H;obtain rfl:=bj H;simpa using f j l af
   rw[this]
  rw[this]at hk;exact hk g f1
theorem Mb{b id:Nat}(a:AV)(hid:qx h b id)(hk: gU h R (.bool (decide (a.id=id)))):Cl 90 #[.agg #[.U (a.id:Int),a.v.val],.P b 0] h R:=by
 refine py.walk (cz.box λb1 H E f f1=>⟨_,ak f,_,ak (f1.get hid (λx=>x)),?_⟩);have e:((a.id:Int)==(id:Int))=decide (a.id=id):=by
  by_cases q:a.id=id
  .simp[q]
  .have: ¬(a.id:Int)=(id:Int):=af
   simp[q,this]
 rw[e];exact hk H f1
theorem Gl{xs:List AV}{n m b id:Nat}(z:Row h p (xs.flatMap AV.enc))(y:n=xs.length)(F:xs.length<=1000000000)(hid:qx h b id)(hk: gU h R (.I (xy xs id))):
  Cl 89 #[.slice p n m,.func (.func 90) #[] #[.P b 0]] h R:=by
 subst y;refine en.kept.walk ?_;refine⟨λi h'=>Fr No h h'/\∃k:Nat,i=(k:Int)/\k<=xs.length/\∀j (H:j<xs.length),j<k->xs[j].id≠id,λi _=>xs.length - i.toNat,⟨Fr.refl _ _,0,rfl,af,λj _ H=>af⟩,?_⟩;rintro _ g ⟨f1,k,rfl,E,f⟩;have r:=z.frame f1 (λ_ _ x=>x);have w:qx g b id:=f1.get hid (λx=>x);by_cases o:k<xs.length
 .have q1:(k:Int)<(xs.length:Int):=af
  simp only[q1,bu,bf,aD];have B:xs[k]? =some xs[k]:=ai o;obtain⟨a,rfl⟩:=r.some (λe=>by have:=bT List.length e;rw[eS AV.enc 2 gJ,bm]at this;omega);refine⟨⟨af,by first|trivial|omega⟩,ay.2 (cz.yH (r.fL gJ B) ?_)⟩;refine Mb xs[k] w λs f2=>⟨_,rfl,?_⟩
  by_cases e:xs[k].id=id
  .simp only[e,bu,bf];have:xy xs id=(k:Int):=by
    unfold xy;have:xs.findIdx? (λa=>decide (a.id=id))=some k:=by
     rw[cB];exact⟨o,cy e,λj H=>by simpa using f j af H⟩
    rw[this]
   rw[this]at hk;exact hk s (f1.tt f2)
  .simp only[e,bh,aq,aJ];rw[bA af af];refine⟨⟨f1.tt f2,k+1,af,af,λj H C=> ?_⟩,?_⟩
   .by_cases q:j=k
    .subst q;exact e
    .exact f j H af
   .show xs.length - Int.toNat ((k:Int)+1)<xs.length - Int.toNat (k:Int);omega
 .have q1: ¬(k:Int)<(xs.length:Int):=af
  simp only[q1,bh,aq,aJ];have:xy xs id= -1:=by
   unfold xy;have:xs.findIdx? (λa=>decide (a.id=id))=none:=by
    rw[dk];intro a v;obtain⟨j,H⟩:=bF v;have l:=(aA.1 H).1;rw[ai l]at H;obtain rfl:=bj H;simpa using f j l af
   rw[this]
  rw[this]at hk;exact hk g f1
def qo(u:aj)(p:cg)(cap b id:Nat)(xs:List AV)(i j:Int)(h:aj):Prop:=
 ∃(a k:Nat)(zs:List AV),i=(a:Int)/\j=(k:Int)/\a<k/\k<=xs.length/\zs.length=xs.length/\zs.take a=(xs.take k).filter (λx=>decide (x.id≠id))/\zs.drop k=xs.drop k/\fi h p xs.length cap 2 (zs.flatMap AV.enc)/\Fr (aL p) u h/\qx h b id
theorem Gm{xs:List AV}{cap b id n:Nat}(own:fi h p xs.length cap 2 (xs.flatMap AV.enc))(hn:n=xs.length)(hl:xs.length<=1000000000)(hid:qx h b id)(J: ¬aL p b)(hk: ∀h',fi h' p (xs.filter (λx=>decide (x.id≠id))).length cap 2 ((xs.filter (λx=>decide (x.id≠id))).flatMap AV.enc)->Fr (aL p) h h'->qx h' b id->R (.slice p (xs.filter (λx=>decide (x.id≠id))).length cap) h'):
  Cl 109 #[.slice p n cap,.func (.func 110) #[] #[.P b 0]] h R:=by
 subst hn;refine gS.mi.walk (Gk own.jb rfl hl hid λg f1=>⟨_,rfl,?_⟩);have Qd:=own.frame f1 (λ_ _ x=>x);have r:qx g b id:=f1.get hid (λx=>x);have F:Fr (aL p) h g:=f1.mono (λ_ _=>False.elim);unfold xy;cases m:xs.findIdx? (λa=>decide (a.id=id))with
 |none=>
  rw[ag (by rfl)];have e':xs.filter (λx=>decide (x.id≠id))=xs:=by
   rw[cd];intro a l;have:=dk.1 m a l;simpa using this
  rw[e']at hk;exact hk g Qd F r
 |some k=>
  dsimp only;rw[ae (by simp only[da];omega)];obtain⟨S,w,Q⟩:=cB.1 m;rw[bA af af];have T:(xs.take (k+1)).filter (λx=>decide (x.id≠id))=xs.take k:=by
   rw[bD,ai S,fz];have e1:(xs.take k).filter (λx=>decide (x.id≠id))=xs.take k:=by
    rw[cd];intro a l;obtain⟨j,H⟩:=bF l;rw[cS]at H;split at H
    .rename_i g';have s:j<xs.length:=af
     rw[ai s]at H;obtain rfl:=bj H;simpa using Q j g'
    .cases H
   have e2: [xs[k]].filter (λx=>decide (x.id≠id))= []:=by
    simp at w;simp[w]
   rw[e1];show xs.take k++ [xs[k]].filter (λx=>decide (x.id≠id))=_;rw[e2,List.append_nil]
  refine⟨qo h p cap b id xs,λ_ j _=>xs.length - j.toNat,⟨k,k+1,xs,rfl,af,af,af,rfl,T.symm,rfl,Qd,F,r⟩,?_⟩;clear Qd r F f1 T Q w S m;rintro _ _ h2 ⟨a,j,zs,rfl,rfl,p',q',W,f,y,o,z,N⟩;by_cases s:j<xs.length
  .have q1:(j:Int)<(xs.length:Int):=af
   simp only[q1,bu,bf,aD];have V:xs[j]? =some xs[j]:=ai s;have j':zs[j]? =some xs[j]:=by
    have:=bT (·[0]?) y;simpa[V]using this
   have E:(xs.take (j+1)).filter (λx=>decide (x.id≠id))=(xs.take j).filter (λx=>decide (x.id≠id))++if xs[j].id=id then []else [xs[j]]:=by
    rw[bD,V,fz];congr 1
    by_cases e:xs[j].id=id<;>simp[e]
   generalize xs[j]=x at*;obtain⟨ab,b',rfl⟩:=o.addr af;refine aG.of λn' G=>⟨⟨af,by first|trivial|omega⟩,ay.2 (cz.yH (o.fL gJ j') (cz.new λb6 h6 o' K f6=>cz.ld K ?_))⟩
   have O:qx h6 b id:=f6.get N (λx=>x);refine Ek x O λC f7=>⟨_,rfl,?_⟩
   have f27:=f6.tt f7;have a':=o.frame f27 (λ_ _ x=>x);have P:qx C b id:=f7.get O (λx=>x);have B:=z.on f27;refine aG.of λJ1 d'=> ?_
   subst d';by_cases e:x.id=id
   .simp only[e,bu,cV,aq,aJ];subst G;rw[bA af af];rw[ag e,List.append_nil]at E;refine⟨⟨a,j+1,zs,rfl,af,af,af,W,by rw[E];exact f,?_,a',B,P⟩,?_⟩
    .have:=bT (List.drop 1) y;rw[List.drop_drop,List.drop_drop]at this;exact this
    .show xs.length - Int.toNat ((j:Int)+1)<xs.length - Int.toNat (j:Int);omega
   .simp only[e,bh,ee,bf];have f':=f7.get K (λx=>x);rw[ae e]at E;refine cz.ld f' ⟨⟨af,by first|trivial|omega⟩,ay.2 ?_⟩;have I:a<zs.length:=af
    have M:=eS AV.enc 2 gJ zs;refine a'.store (by rw[M];omega) λh9 l' s9 o9=> ?_
    rw[add_add];refine l'.store (by rw[cY,M];omega) λc' Y m' k'=> ?_
    rw[Jn gJ I rfl]at Y;subst G;rw[bA af af,bA af af];have f10:Fr (aL (Sa ab b')) C c':=(Fr.of_eq s9 o9).tt (Fr.of_eq m' k');refine⟨⟨a+1,j+1,zs.set a x,af,af,af,af,by rw[cY];exact W,?_,?_,Y,B.tt f10,f10.get P J⟩,?_⟩
    .rw[E,<-f,bD,cX,ag rfl,ag I,List.take_set_of_le (bk a)];rfl
    .rw[List.drop_set_of_lt af];have:=bT (List.drop 1) y;rw[List.drop_drop,List.drop_drop]at this;exact this
    .show xs.length - Int.toNat ((j:Int)+1)<xs.length - Int.toNat (j:Int);omega
  .have q1: ¬(j:Int)<(xs.length:Int):=af
   simp only[q1,bh,aq,aJ];obtain rfl:j=xs.length:=af
   rw[eO]at f;have i':(xs.filter (λx=>decide (x.id≠id))).length=a:=by rw[<-f,bE];omega
   refine⟨af,?_⟩;simp only[aD];refine Bj tA (by intro v U;simp[Value.cells]at U;rcases U with rfl|rfl<;>rfl) o af λh3 Z f3=>⟨rfl,⟨af,bX own.le⟩,?_⟩
   rw[lQ AV.enc 2 gJ,f]at Z;rw[jS,Nat.sub_zero,Nat.sub_zero];rw[i']at hk;exact hk h3 Z (z.tt f3) (f3.get N J)
end fx
end
section
namespace fx
variable {A:List fx} {num:Int} {s s':fx} {i:Nat}
structure vc (i:Nat) (s:fx):Prop where
 num:s.num=i+1
 tk:1<=s.token/\s.token<=2147483648
 kl:s.kept.length<=6
 nl:s.notes.length<=6
 kd: ∀a∈s.kept,a.1<=1099511627776/\a.2.length<=1000
 nd: ∀n∈s.notes,1<=n.length/\n.length<=600
 ki:(s.kept.map (·.1)).Nodup
structure pz (A:List fx):Prop where
 le:A.length<=8
 at_: ∀i s,A[i]? =some s->vc i s
 tk:(A.map (·.token)).Nodup
def kW(A:List fx)(num:Int):Option fx:=if 1<=num then A[(num - 1).toNat]? else none
theorem vK(h:kW A num=some s): ∃i:Nat,num=(i:Int)+1/\A[i]? =some s:=by
 unfold kW at h;split at h
 .exact⟨(num - 1).toNat,af,h⟩
 .cases h
theorem qY :kW A ((i:Int)+1)=A[i]? :=by
 unfold kW;rw[fY,show((i:Int)+1 - 1).toNat=i by omega]
theorem lS(h:num<1\/num>(A.length:Int)):kW A num=none:=by
 unfold kW;split
 .rw[dA af]
 .rfl
def mj(A:List fx)(num:Int)(s:fx):List fx:=A.set (num - 1).toNat s
def KV(A:List fx)(num:Int):Bool:=match kW A num with|some s=>s.up|none=>false
def El(A:List fx)(token:Nat):Bool:=A.any λs=>decide (s.token=token)
def o0(A:List fx)(token:Nat):Int:=if token<1\/token>2147483648 then 1 else if El A token=true then 12 else if A.length≥8 then 5 else 0
def PA(A:List fx)(token:Nat):Int:=if o0 A token=0 then(A.length:Int)+1 else 0
def lA(A:List fx)(token:Nat):List fx:=if o0 A token=0 then A++ [⟨A.length+1,token,true,false, [], []⟩]else A
def PB(A:List fx)(num:Int):Int:=match kW A num with|none=>4|some s=>if s.up=true then 0 else 7
def zc(A:List fx)(num:Int):List fx:=match kW A num with|none=>A|some s=>if s.up=true then mj A num { s with up:=false } else A
def iE(k:List (Nat×cH))(id:Nat)(d:cH):List (Nat×cH):=
 if(k.filter (λa=>decide (a.1≠id))++ [(id,d)]).length>6 then(k.filter (λa=>decide (a.1≠id))++ [(id,d)]).drop 1 else k.filter (λa=>decide (a.1≠id))++ [(id,d)]
def Mc(A:List fx)(num:Int)(id:Nat)(d:cH):Int:=match kW A num with|none=>4|some _=>if id>1099511627776\/d.length>1000 then 1 else 0
def mT(A:List fx)(num:Int)(id:Nat)(d:cH):List fx:=match kW A num with|none=>A|some s=>if id>1099511627776\/d.length>1000 then A else mj A num { s with kept:=iE s.kept id d }
def Em(k:List (Nat×cH))(id:Nat):Option (cH):=(k.find? (λa=>decide (a.1=id))).map (·.2)
def rW(A:List fx)(num:Int)(id:Nat):Option (cH):=match kW A num with|none=>none|some s=>Em s.kept id
def vL(A:List fx)(num:Int):Int:=match kW A num with|none=>4|some _=>0
def jx(A:List fx)(num:Int)(on:Bool):List fx:=match kW A num with|none=>A|some s=>mj A num { s with watch:=on }
def Md(A:List fx)(num:Int):Int:=match kW A num with|none=>4|some _=>0
def Ih(A:List fx)(num:Int):Int:=match kW A num with|none=>0|some s=>(s.notes.length:Int)
def BC(A:List fx)(num:Int):cH:=match kW A num with|none=> []|some s=>s.notes.headD []
def BD(A:List fx)(num:Int):List fx:=match kW A num with|none=>A|some s=>mj A num { s with notes:=s.notes.drop 1 }
theorem pz.set(ok:pz A)(H:A[i]? =some s)(b:s'.token=s.token)(h':vc i s'):pz (A.set i s'):=by
 have a:=(aA.1 H).1;refine⟨by rw[cY];exact ok.le,λj u h=> ?_,?_⟩
 .rw[cX]at h;by_cases e:i=j
  .subst e;rw[ag rfl,ag a]at h;obtain rfl:=bj h;exact h'
  .rw[ae e]at h;exact ok.at_ j u h
 .rw[List.map_set,b,uu (by rw[aI,H];rfl)];exact ok.tk
theorem pz.mj(ok:pz A)(H:kW A num=some s)(a:s'.token=s.token)(h': ∀i,vc i s->vc i s'):pz (mj A num s'):=by
 obtain⟨i,rfl,h⟩:=vK H;unfold fx.mj;rw[show((i:Int)+1 - 1).toNat=i by omega];exact ok.set h a (h' i (ok.at_ i s h))
theorem pz.open(ok:pz A)(token:Nat):pz (lA A token):=by
 unfold lA;split
 .rename_i h;unfold o0 at h;split at h
  .cases h
  rename_i k;split at h
  .cases h
  rename_i d;split at h
  .cases h
  rename_i l;refine⟨by rw[av,dy];omega,λj u H=> ?_,?_⟩
  .by_cases e:j<A.length
   .rw[cT e]at H;exact ok.at_ j u H
   .rw[cP af]at H;have e2:j=A.length:=by
     have:=(aA.1 H).1;simp at this;omega
    subst e2;simp at H;subst H;exact⟨rfl,by show 1<=token/\token<=2147483648;omega,bO,bO,bO,bO,bO⟩
  .rw[aW,eI];refine⟨ok.tk,bO,λa f b c e=> ?_⟩;simp at c;subst c;subst e;apply d
   unfold El;rw[List.any_eq_true];obtain⟨s,g,e⟩:=bg.1 f;exact⟨s,g,cy e⟩
 .exact ok
theorem pz.down(ok:pz A)(num:Int):pz (zc A num):=by
 unfold zc;split
 .exact ok
 .rename_i s h;split
  .exact ok.mj h rfl λi o=>⟨o.num,o.tk,o.kl,o.nl,o.kd,o.nd,o.ki⟩
  .exact ok
theorem Me{k:List (Nat×cH)}{id:Nat}{d:cH}(hk:k.length<=6)(j: ∀a∈k,a.1<=1099511627776/\a.2.length<=1000)(l:(k.map (·.1)).Nodup)(f:id<=1099511627776)(g:d.length<=1000):
  (iE k id d).length<=6/\(∀a∈iE k id d,a.1<=1099511627776/\a.2.length<=1000)/\((iE k id d).map (·.1)).Nodup:=by
 have n:(k.filter (λa=>decide (a.1≠id))++ [(id,d)]).length<=7:=by
  have:=cr (λa=>decide (a.1≠id)) k;rw[av,dy];omega
 have h: ∀a∈k.filter (λa=>decide (a.1≠id))++ [(id,d)],a.1<=1099511627776/\a.2.length<=1000:=by
  intro a ha;rcases bN.1 ha with ha|ha
  .exact j a (ba.1 ha).1
  .simp at ha;subst ha;exact⟨f,g⟩
 have c:((k.filter (λa=>decide (a.1≠id))++ [(id,d)]).map (·.1)).Nodup:=by
  rw[aW,eI];refine⟨(cJ.map _).nodup l,bO,λa ha b H e=> ?_⟩;simp at H;subst H;subst e;obtain⟨x,m,e⟩:=bg.1 ha;have:=(ba.1 m).2;simp at this;exact this e
 unfold iE;split
 .refine⟨by rw[bQ];omega,λa ha=>h a (List.mem_of_mem_drop ha),?_⟩;rw[List.map_drop];exact(List.drop_sublist _ _).nodup c
 .exact⟨af,h,c⟩
theorem pz.mi(ok:pz A)(num:Int)(id:Nat)(d:cH):pz (mT A num id d):=by
 unfold mT;split
 .exact ok
 .rename_i s h;split
  .exact ok
  .rename_i H;refine ok.mj h rfl λi o=> ?_
   obtain⟨k,K,a⟩:=Me (id:=id) (d:=d) o.kl o.kd o.ki af af;exact⟨o.num,o.tk,k,o.nl,K,o.nd,a⟩
theorem pz.watch(ok:pz A)(num:Int)(on:Bool):pz (jx A num on):=by
 unfold jx;split
 .exact ok
 .rename_i s h;exact ok.mj h rfl λi o=>⟨o.num,o.tk,o.kl,o.nl,o.kd,o.nd,o.ki⟩
theorem pz.read(ok:pz A)(num:Int):pz (BD A num):=by
 unfold BD;split
 .exact ok
 .rename_i s H;refine ok.mj H rfl λi o=>⟨o.num,o.tk,o.kl,?_,o.kd,λn h=>o.nd n (List.mem_of_mem_drop h),o.ki⟩
  have:=o.nl;rw[bQ];omega
theorem pz.nil:pz []:=⟨bO,bO,bO⟩

end fx
end
section
open Go.fM
namespace fx
open iD
variable {h h':aj} {t:Nat} {X:Ft} {R:fj} {p q:cg} {c i:Nat} {On:Pz} {D:Nat→Prop} {L:List SC} {A:List fx}
variable {num:Int}
theorem tP:nJ Tryz.prog 88 91 1 8 (.pointer none):=⟨cU,cU,rfl⟩
theorem uP:Tryz.prog.underlying 88=some (.slice 91):=cU
theorem gC(hk: ∀h' t X,Has h' t X []->Fr No h h'->(∀x,X.M x\/X.D x->h.size<=x)->R (.P t 0) h'):Cl 35 #[] h R:=by
 refine CP.walk (cG ?_);refine hk _ _ ⟨λx=>x=h.size,λ_=>False⟩ ⟨[],λx=>if x=h.size then some 0 else none, [],⟨⟨none,0,bR,.nil rfl rfl rfl rfl,λx ⟨a,e,_⟩=>by cases e⟩,bO,λi s b=>by simp at b,?_,λ_ h=>h.elim,λ_ _ _ h=>h⟩,rfl,rfl,?_⟩ (Fr.push _ _) (λx d=>d.elim (λe=>by have e:x=h.size:=e;omega) False.elim)
 .intro x r H;split at H
  .rename_i e;rw[dD];omega
  .cases H
 .intro x;constructor
  .intro e;have e:x=h.size:=e;exact⟨0,by simp[e]⟩
  .rintro⟨r,H⟩;dsimp only at H;split at H
   .assumption
   .cases H
theorem iJ(T:nE h t On D L)(K: ∀i s,num=((i:Nat):Int)+1->L[i]? =some s->R (.tuple #[.P s.b 0,.I 0]) h)(k:(num<1\/num>(L.length:Int))->R (.tuple #[.pointer none,.I 4]) h)(m:L.length<=1000000):
  Cl 78 #[.P t 0,.I num] h R:=by
 obtain⟨p,c,d,own,n⟩:=T.cQ;refine rJ.walk (aG.of λJ H=>⟨true,ak d,?_⟩);subst H;simp only[cV,aq,aJ];refine aG.of λJ H=> ?_
 by_cases a:num<1
 .simp only[a,bu,bf];subst H;simp only[bf];exact k (.inl a)
 .simp only[a,bh,aq,aJ];refine⟨_,_,_,ak d,?_⟩;by_cases b:num>(L.length:Int)
  .simp only[b,bu];subst H;simp only[bf];exact k (.inr b)
  .simp only[b,bh];subst H;simp only[aq,aJ];obtain⟨i,rfl⟩: ∃i:Nat,num=(i:Int)+1:=⟨(num - 1).toNat,af⟩;have g:i<L.length:=af
   have f:L[i]? =some L[i]:=ai g;obtain⟨j,l,rfl⟩:=own.addr af;have e:IntKind.wrap .i64 ((i:Int)+1 - 1)=(i:Int):=by rw[bA af af];omega
   rw[e];refine⟨_,_,_,ak d,af,ay.2 ⟨_,?_,K i _ rfl f⟩⟩;rw[aD,cv];exact own.cell (by rw[aI,f];rfl)
theorem BE{k:Int}(token:Nat)(o:k=(token:Int))(T:nE h t On D L)(z:L.length<=1000000)(K: ∀i s,L[i]? =some s->s.token=token->L.findIdx? (λs=>decide (s.token=token))=some i->R (.P s.b 0) h)(r:L.findIdx? (λs=>decide (s.token=token))=none->R (.pointer none) h):Cl 40 #[.P t 0,.U k] h R:=by
 subst o;obtain⟨p,c,n,own,B⟩:=T.cQ;refine ur.walk ⟨_,_,_,ak n,?_⟩;refine⟨λi h'=>h'=h/\∃k:Nat,i=(k:Int)/\k<=L.length/\∀j (H:j<L.length),j<k->L[j].token≠token,λi _=>L.length - i.toNat,⟨rfl,0,rfl,af,λj _ H=>af⟩,?_⟩;rintro _ w ⟨rfl,k,rfl,y,b⟩;by_cases g:k<L.length
 .have q1:(k:Int)<(L.length:Int):=af
  simp only[q1,bu,bf,aD];have d:L[k]? =some L[k]:=ai g;obtain⟨u,v,rfl⟩:=own.addr af;have m:=(T.ses k _ d).cQ;refine⟨⟨af,by first|trivial|omega⟩,ay.2 ⟨some ⟨L[k].b,0,none⟩,?_,ay.2 ⟨_,ak m,?_⟩⟩⟩
  .rw[cv];exact own.cell (by rw[aI,d];rfl)
  by_cases e:L[k].token=token
  .rw[ag (by rw[e];simp)];refine K k _ d e ?_;rw[cB];exact⟨g,cy e,λj H=>by simpa using b j af H⟩
  .rw[ae (by simp only[da];omega)];rw[bA af af];refine⟨⟨trivial,k+1,af,af,λj H x=> ?_⟩,?_⟩
   .by_cases q:j=k
    .subst q;exact e
    .exact b j H af
   .show L.length - Int.toNat ((k:Int)+1)<L.length - Int.toNat (k:Int);omega
 .have q1: ¬(k:Int)<(L.length:Int):=af
  simp only[q1,bh,aq,aJ];refine r ?_;rw[dk];intro a l;obtain⟨j,H⟩:=bF l;have f:=(aA.1 H).1;rw[ai f]at H;obtain rfl:=bj H;simpa using b j f af
theorem nn{s:SC}(H:L[i]? =some s):(L.map SC.abs)[i]? =some s.abs:=by rw[aI,H];rfl
theorem Ie(H:Has h t X A)(ok:pz A)(hk:R (.bool (KV A num)) h):Cl 28 #[.P t 0,.I num] h R:=by
 obtain⟨_,On,L,T,rfl,_,f⟩:=H;have b:=ok.le;rw[aF]at b;unfold KV at hk;refine uq.walk (iJ T (λi s e a=>⟨_,_,rfl,?_⟩) (λd=>⟨_,_,rfl,?_⟩) af)
 .rw[ag (by rfl)];subst e;rw[qY,nn a]at hk;exact ay.2 ⟨_,cE (T.ses i s a).cQ rfl,hk⟩
 .rw[ae bO];rw[lS (by rw[aF];exact d)]at hk;exact hk
theorem mU {k : Int} (token : Nat) (UE : k = (token : Int)) (H : Has h t X A) (ok : pz A) (hk : ∀ h' X', Has h' t X' (lA A token) → bG X h X' h' → R (.tuple #[.int .i64 (PA A token), .int .i64 (o0 A token)]) h') :
    Cl 12 #[.pointer (some ⟨t, 0, none⟩), .int .u64 k] h R := by
  subst UE
  have H0 := H
  obtain ⟨_, On, L, TB, rfl, _, hS⟩ := H
  have hl := ok.le
  rw [List.length_map] at hl
  obtain ⟨p, c, hb, own, hp⟩ := TB.cQ
  refine rK.walk (aG.of λJ hJ => ⟨true, cE hb rfl, ?_⟩)
  subst hJ
  simp only [Bool.not_true, Bool.false_eq_true, if_false]
  refine aG.of λJ hJ => ?_
  unfold PA lA at hk
  have jt : (token < 1 ∨ token > 2147483648) → J true h := by
    intro hh
    subst hJ
    simp only [if_true]
    have e : o0 (L.map SC.abs) token = 1 := by unfold o0; rw [if_pos hh]
    rw [e] at hk
    exact hk h X H0 (bG.refl _ _)
  have jf : ¬ (token < 1 ∨ token > 2147483648) → J false h := by
    intro hh
    subst hJ
    simp only [Bool.false_eq_true, if_false]
    refine BE token rfl TB (by omega) (λi s hs ht hf => ⟨_, rfl, ?_⟩) (λhf => ⟨_, rfl, ?_⟩)
    · simp only [Option.isNone_some, Bool.not_false, if_true]
      have e : o0 (L.map SC.abs) token = 12 := by
        unfold o0
        rw [if_neg hh, if_pos]
        unfold El
        rw [List.any_eq_true]
        exact ⟨s.abs, List.mem_map_of_mem (List.mem_of_getElem? hs), by simp [SC.abs, ht]⟩
      rw [e] at hk
      exact hk h X H0 (bG.refl _ _)
    · simp only [Option.isNone_none, Bool.not_true, Bool.false_eq_true, if_false]
      have Uf : ¬ El (L.map SC.abs) token = true := by
        unfold El
        rw [List.any_eq_true]
        rintro ⟨x, hx, e⟩
        obtain ⟨s, hs, rfl⟩ := List.mem_map.1 hx
        have := List.findIdx?_eq_none_iff.1 hf s hs
        rw [show s.abs.token = s.token from rfl] at e
        rw [e] at this; cases this
      refine ⟨_, _, _, cE hb rfl, ?_⟩
      by_cases h8 : (L.length : Int) ≥ 8
      · simp only [h8, decide_true, if_true]
        have e : o0 (L.map SC.abs) token = 5 := by
          unfold o0
          rw [if_neg hh, if_neg Uf, if_pos (by rw [List.length_map]; omega)]
        rw [e] at hk
        exact hk h X H0 (bG.refl _ _)
      · simp only [h8, decide_false, Bool.false_eq_true, if_false]
        have e : o0 (L.map SC.abs) token = 0 := by
          unfold o0
          rw [if_neg hh, if_neg Uf, if_neg (by rw [List.length_map]; omega)]
        rw [e] at hk
        simp only [if_true] at hk
        refine ⟨_, _, _, cE hb rfl, ?_⟩
        rw [bA (n := (L.length : Int) + 1) (by omega) (by omega)]
        refine iy.box λb h4 eb Ii f4 => ?_
        have SX := own.frame f4 (λ_ _ => id)
        refine ⟨_, _, _, cE (f4.get hb id) rfl, ?_⟩
        refine iC tP uP SX rfl (λv hv => by simp at hv; subst hv; rfl) (by omega) (by omega) ?_
        intro p' c' h6 o6 f6 g6
        refine ⟨_, _, _, rfl, ?_⟩
        have VD := aC hb
        have Ug : ¬ aL p t := λhx => by have := hp t hx; rw [TB.NO] at this; cases this
        have UF := f6.get (f4.get hb id) Ug
        have Uh : ¬ aL p b := λhx => by have := own.dV hx; omega
        have UG := f6.get Ii Uh
        refine bH UF (by simp) λh7 k1 k2 k3 => ?_
        have f7 : Fr (λx => x = t) h6 h7 := Fr.of_eq k2 k3
        have UH : ¬ b = t := λe => by omega
        have Ui := f7.get UG UH
        refine ⟨_, cE Ui rfl, ?_⟩
        have F : Fr (λx => x = t ∨ aL p x) h h7 := (f4.mono (λ_ _ => False.elim)).tt ((f6.mono (λ_ _ hx => .inr hx)).tt (f7.mono (λ_ _ hx => .inl hx)))
        have SY : ¬ aL p' t := λhx => (g6 t hx).elim Ug (λh2 => by have := aC (f4.get hb id); omega)
        have a1 : ∀ x, x = t ∨ aL p x → On x = some 0 ∨ On x = some 1 := by
          rintro x (rfl | hx)
          · exact .inl TB.NO
          · exact .inr (hp x hx)
        have a2 : ∀ x, aL p' x → On x = some 1 ∨ h.size ≤ x := by
          intro x hx
          rcases g6 x hx with h2 | h2
          · exact .inl (hp x h2)
          · have := f4.1; exact .inr (by omega)
        have a3 : ¬ aL p' b := by
          intro hx
          rcases g6 b hx with h2 | h2
          · exact Uh h2
          · have := aC Ii; omega
        obtain ⟨X', HH, st⟩ := TB.add (s := ⟨b, L.length + 1, token, true, false, [], none, 0, [], none, 0⟩) (p := p') (c0 := c') hS F a1 k1 (o6.frame f7 (λx hx e => SY (e ▸ hx))) a2 a3 Ui (by show h.size ≤ b; omega) ⟨rfl, rfl, rfl⟩ ⟨rfl, rfl, rfl⟩
        have := hk h7 X' (by rw [List.length_map]; exact ⟨_, HH⟩) st
        rw [List.length_map] at this
        exact this
  clear hJ
  by_cases h1 : token < 1
  · have : (token : Int) < 1 := by omega
    simp only [this, decide_true, if_true]
    exact jt (.inl h1)
  · have : ¬ (token : Int) < 1 := by omega
    simp only [this, decide_false, Bool.false_eq_true, if_false]
    by_cases h2 : token > 2147483648
    · have : (token : Int) > 2147483648 := by omega
      simp only [this, decide_true]
      exact jt (.inr h2)
    · have : ¬ (token : Int) > 2147483648 := by omega
      simp only [this, decide_false]
      exact jf (by omega)
theorem CL(H:Has h t X A)(ok:pz A)(hk: ∀h' x,Has h' t x (zc A num)->bG X h x h'->R (.I (PB A num)) h'):Cl 73 #[.P t 0,.I num] h R:=by
 have b:=H;obtain⟨_,On,L,T,rfl,_,k⟩:=H;have l:=ok.le;rw[aF]at l;unfold zc PB at hk;refine rL.walk (iJ T (λi s e a=>⟨_,_,rfl,?_⟩) (λm=>⟨_,_,rfl,?_⟩) af)
 .rw[ae bO];subst e;rw[qY,nn a]at hk;dsimp only at hk;have d:=(T.ses i s a).cQ;refine ay.2 ⟨_,ak d,?_⟩;cases f:s.up with
  |true=>
   have:s.abs.up=true:=f;simp only[this,bf]at hk;simp only[cV,aq,aJ];refine ay.2 (bH d bO λj K n o=> ?_);obtain⟨x,g,st⟩:=T.flag (s':= { s with up:=false }) k a rfl ⟨rfl,rfl,rfl⟩ ⟨rfl,rfl,rfl⟩ K n o;refine hk j x ?_ st;unfold mj;rw[show((i:Int)+1 - 1).toNat=i by omega];exact⟨_,g⟩
  |false=>
   have:s.abs.up=false:=f;simp only[this,aq,aJ]at hk;simp only[ee,bf];exact hk h X b (bG.refl _ _)
 .rw[ag (by rfl)];rw[lS (by rw[aF];exact m)]at hk;exact hk h X b (bG.refl _ _)
theorem ze{on:Bool}(H:Has h t X A)(ok:pz A)(hk: ∀h' x,Has h' t x (jx A num on)->bG X h x h'->R (.I (vL A num)) h'):Cl 166 #[.P t 0,.I num,.bool on] h R:=by
 have d:=H;obtain⟨_,On,L,T,rfl,_,j⟩:=H;have l:=ok.le;rw[aF]at l;unfold jx vL at hk;refine qt.walk (iJ T (λi s e b=>⟨_,_,rfl,?_⟩) (λm=>⟨_,_,rfl,?_⟩) af)
 .refine aG.of λJ a=> ?_
  subst a;rw[ag (by rfl)];subst e;rw[qY,nn b]at hk;dsimp only at hk;have k:=(T.ses i s b).cQ;refine ay.2 (bH k bO λg K n o=> ?_);obtain⟨x,f,st⟩:=T.flag (s':= { s with watch:=on }) j b rfl ⟨rfl,rfl,rfl⟩ ⟨rfl,rfl,rfl⟩ K n o;refine hk g x ?_ st;unfold mj;rw[show((i:Int)+1 - 1).toNat=i by omega];exact⟨_,f⟩
 .refine aG.of λJ a=> ?_
  subst a;rw[ae bO];rw[lS (by rw[aF];exact m)]at hk;exact hk h X d (bG.refl _ _)

end fx
end
section
open Go.fM Go.kk
namespace gD
open iD
variable {h h':aj} {b:Nat} {X:Ft} {R:fj} {p q:cg} {c d i:Nat} {L:List E} {s:BS}
variable {l:cg} {r a:Nat} {xs:List IV} {S:Nat->Prop} {owner k:Int} {x:It}
def As(h:aj)(b:Nat)(X:Ft)(s:BS):Prop:= ∃L,Bx h b X s L/\okB s L
theorem As.frame{Q:Nat->Prop}(H:As h b X s)(f:Fr Q h h')(e: ∀y,X.M y\/X.D y->¬Q y):As h' b X s:=by
 obtain⟨L,H,ok⟩:=H;exact⟨L,H.frame f e,ok⟩
theorem As.on(H:As h b X s)(f:Fr No h h'):As h' b X s:=H.frame f cu
theorem As.lt(H:As h b X s)(y:Nat)(e:X.M y\/X.D y):y<h.size:=by
 obtain⟨L,H,ok⟩:=H;exact H.lt y e
theorem Mm.Eo(H:Mm h b X s L l r xs a S)(ok:okB s L):L.length<1000/\xs.length<=16:=by
 have e:=ok.pm.length_eq;rw[aF]at e;have:=ok.le;have:=H.len;omega
def iK(s:BS)(owner:Int)(d:cH)(bV:Nat):Int:=if vD owner d.length (bV:Int)=true then(if s.items.length≥16 then 15 else 0)else 1
def AG(s:BS)(owner:Int)(d:cH)(bV:Nat):Int:=if iK s owner d bV=0 then(s.next:Int)else 0
def Ep(s:BS)(owner:Int)(d:cH)(bV:Nat):BS:=if iK s owner d bV=0 then { s with items:=s.items++ [⟨s.next,owner,d,bV⟩],next:=s.next+1 } else s
theorem zh{bs:cH}{n m:Nat}(bV:Nat)(r':k=(bV:Int))(H:As h b X s)(hr:Row h p (bc bs))(B:n=bs.length)(hl:bs.length<=1000000)(B':s.next<=1000000000)(hk: ∀h' Y,As h' b Y (Ep s owner bs bV)->bG X h Y h'->R (.tuple #[.I (AG s owner bs bV),.I (iK s owner bs bV)]) h'):
  Cl 240 #[.P b 0,.I owner,.slice p n m,.U k] h R:=by
 subst r';subst B;obtain⟨L,⟨l,r,xs,a,S,H⟩,ok⟩:=H;obtain⟨hL,C'⟩:=H.Eo ok;have A':=H.len;refine yW.walk (fw H ⟨_,rfl,?_⟩);simp only[cV,aq,aJ];refine⟨_,ak H.cQ,qX hr rfl af λt P C o2 f2 g2=>⟨_,_,_,_,_,_,rfl,?_⟩⟩;refine aS.new λb1 h7 z' U f7=>aS.ld U (fc λf f8=>⟨_,rfl,?_⟩)
 have I:Fr No h f:=f2.tt (f7.tt f8);have u:=H.on I;have z2:=f2.1;have z7:=f7.1;have z8:=f8.1;have l1:=aC U;unfold Ep AG at hk;cases g:vD owner bs.length (bV:Int)with
 |false=>
  have e:iK s owner bs bV=1:=by unfold iK;rw[g];rfl
  rw[e]at hk;simp only[ee,bf];exact hk f X ⟨L,⟨l,r,xs,a,S,u⟩,ok⟩ (bG.im I)
 |true=>
  simp only[cV,aq,aJ];refine⟨_,_,_,ak u.cQ,?_⟩;by_cases c':s.items.length≥16
  .have q:(xs.length:Int)≥16:=af
   have e:iK s owner bs bV=15:=by unfold iK;rw[g,ag rfl,ag c']
   rw[e]at hk;simp only[q,bu,bf];exact hk f X ⟨L,⟨l,r,xs,a,S,u⟩,ok⟩ (bG.im I)
  .have q: ¬(xs.length:Int)≥16:=af
   have e:iK s owner bs bV=0:=by unfold iK;rw[g,ag rfl,ae c']
   rw[e]at hk;simp only[bf]at hk;simp only[q,bh,aq,aJ];have b':aS.at f b1 (s.next:Int) owner P bs.length C (bV:Int):=f8.get U id;refine⟨_,_,_,ak u.cQ,aS.ld b' ?_⟩;refine cG ⟨cE (u.on (Fr.push (S:=λ_=>False) f _)).cQ rfl,?_⟩;have f9:Fr No f (f.push (.cells #[.I (s.next:Int),.I owner,.slice P bs.length C,.U (bV:Int)] 119)):=Fr.push _ _;have r9:Row (f.push (.cells #[.I (s.next:Int),.I owner,.slice P bs.length C,.U (bV:Int)] 119)) (Sa f.size 0) [.I (s.next:Int),.I owner,.slice P bs.length C,.U (bV:Int)]:=jl;generalize f.push (.cells #[.I (s.next:Int),.I owner,.slice P bs.length C,.U (bV:Int)] 119)=K at f9 r9⊢;have N:=u.on f9;have q':aS.at K b1 (s.next:Int) owner P bs.length C (bV:Int):=f9.get b' id;refine dY tI uI N.own r9 rfl (λv hv=>by simp at hv;rcases hv with rfl|rfl|rfl|rfl<;>rfl) af af λF l' w e' _ f10 o'=>⟨_,_,_,rfl,?_⟩
   have z9:=f9.1;have D':=f10.1;have lb:=aC H.cQ;have v':=f10.get N.cQ H.bl;refine bH v' bO λJ Z a2 a3=> ?_
   have f11:Fr (λy=>y=b) w J:=Fr.of_eq a2 a3;refine⟨_,ak Z,bH Z bO λj d1 d2 d3=> ?_⟩;have f12:Fr (λy=>y=b) J j:=Fr.of_eq d2 d3;have d': ∀y,h.size<=y->¬aL l y:=λy hy hx=>by have:=H.own.dV hx;omega
   have p':aS.at w b1 (s.next:Int) owner P bs.length C (bV:Int):=f10.get q' (d' b1 af);have a':aS.at j b1 (s.next:Int) owner P bs.length C (bV:Int):=(d3 b1 af).trans ((a3 b1 af).trans p');have f':bU.Al j a S L:=((N.al.frame f10 (λy hy hx=>H.ls y hx hy)).frame f11 (λy hy e=>H.bs (e▸hy))).frame f12 (λy hy e=>H.bs (e▸hy));refine⟨_,ak d1,_,ak a',?_⟩;rw[yX]at g;have s':bU.may (s.next:Int) (bV:Int)=true:=bU.lJ.2 ⟨bX ok.vE,af,g.2.2.2.2⟩;refine bU.Gg f' af _ _ af (λ_ A O g' T f13=>⟨_,rfl,?_⟩) (λhf=>by rw[s']at hf;cases hf);have V: ∀y,h.size<=y->¬S y:=λy hy o=>by have:=H.al.lt o;omega
   refine⟨_,ak (f13.get a' (V b1 af)),?_⟩;have F9:Fr No h K:=I.tt f9;have E':w.size<=j.size:=af
   have i':Fr (aL l) h w:=Fr.no F9 f10;have j':Fr (λy=>aL l y\/y=b) h j:=((i'.mono (λ_ _ hx=> .inl hx)).tt (f11.mono (λ_ _ hx=> .inr hx))).tt (f12.mono (λ_ _ hx=> .inr hx));have G:Fr X.M h A:=((j'.mono (λy _ hx=>(H.m y).2 (hx.elim (λh=> .inr (.inl h)) .inl))).tt (f13.mono (λy _ hx=>(H.m y).2 (.inr (.inr hx)))));have M: ∀y,aL P y->h.size<=y/\y<t.size:=λy hy=>⟨g2 y hy,o2.dV hy⟩
   have D: ∀y,aL F y->aL l y\/t.size<=y:=λy hy=>(o' y hy).imp id (λh1=>af)
   have y': ∀y,aL F y->y<j.size:=λy hy=>by have:=e'.dV hy;omega
   have x':fi A P bs.length C 1 (bc bs):=by
    have k':Fr X.M t A:=by
     refine⟨gF G.1 f13.1,λy hy B=> ?_⟩;have e1:A[y]? =j[y]? :=f13.2 y af (λhx=>B ((H.m y).2 (.inr (.inr hx))));have e2:j[y]? =J[y]? :=f12.2 y af (λe=>B ((H.m y).2 (.inl e)));have e3:J[y]? =w[y]? :=f11.2 y af (λe=>B ((H.m y).2 (.inl e)));have e4:w[y]? =K[y]? :=f10.2 y af (λe=>B ((H.m y).2 (.inr (.inl e))));have e5:K[y]? =t[y]? :=(f7.tt (f8.tt f9)).2 y af id;rw[e1,e2,e3,e4,e5]
    exact o2.frame k' (λy hy E=>gF (H.lt y (.inl E)) (M y hy))
   have n': ∀y,X.D y\/aL P y->y<A.size:=λy hy=>hy.elim (λh1=>ct (H.Dw y h1) G.1) (λh1=>gF (M y h1) f13.1)
   have m':xs.flatMap fZ++ [.I (s.next:Int),.I owner,.slice P bs.length C,.U (bV:Int)]=(xs++ [(⟨s.next,owner,⟨P,C,bs⟩,bV⟩:IV)]).flatMap fZ:=by rw[cW];simp
   have ln:(xs++ [(⟨s.next,owner,⟨P,C,bs⟩,bV⟩:IV)]).length=xs.length+1:=by rw[av];rfl
   have W: ∀y,aL F y->y≠b:=λy hy e=>(D y hy).elim (λh1=>H.bl (e▸h1)) (λh1=>af)
   have Q: ∀y,O y->X.M y\/j.size<=y:=λy hy=>(T y hy).imp (λh1=>(H.m y).2 (.inr (.inr h1))) id
   refine hk A ⟨λy=>y=b\/aL F y\/O y,λy=>X.D y\/aL P y⟩ ⟨_,⟨F,l',xs++ [⟨s.next,owner,⟨P,C,bs⟩,bV⟩],a,O,⟨?_,?_,g',?_,?_,λ_=>eE,λhx=>W b hx rfl,?_,?_,?_,n'⟩⟩,?_⟩ ⟨G,?_,?_,λ_=> .inl⟩
   .have w':=f13.get d1 H.bs;rw[w'];dsimp only;rw[ln,bA af af];rfl
   .rw[ln,<-m'];exact((e'.frame f11 W).frame f12 W).frame f13 (λy hy o=>(D y hy).elim (λh1=>H.ls y h1 o) (λh1=>V y af o))
   .rw[aW,H.abs];rfl
   .intro v hv;rcases bN.1 hv with hv|hv
    .exact((H.Ar v hv).frame G (λy hd E=>H.vr y E hd)).mono (λy=> .inl)
    .obtain rfl:=bK.1 hv;exact BV.j9 x' (λy=> .inr)
   .intro o;exact(T b o).elim H.bs (λh1=>af)
   .intro y hy o;rcases T y o with h1|h1
    .exact(D y hy).elim (λt=>H.ls y t h1) (λt=>V y af h1)
    .have:=y' y hy;omega
   .rintro y hy (hd|hd)
    .rcases hy with rfl|hy|hy
     .exact H.vr _ ((H.m _).2 (.inl rfl)) hd
     .exact(D y hy).elim (λh1=>H.vr _ ((H.m _).2 (.inr (.inl h1))) hd) (λh1=>bX (H.Dw y hd))
     .exact(Q y hy).elim (λh1=>H.vr _ h1 hd) (λh1=>bX (H.Dw y hd))
    .have u':=M y hd;rcases hy with rfl|hy|hy
     .omega
     .exact(D y hy).elim (λh1=>d' y u'.1 h1) (λh1=>af)
     .exact(Q y hy).elim (λh1=>bX (H.lt y (.inl h1))) (λh1=>af)
   .have t':(s.next:Int)∉keys L:=by
     intro E;obtain⟨e,he,ek⟩:=bg.1 E;obtain⟨x,hx,rfl⟩:=bg.1 (ok.pm.mem_iff.1 he);have:=(ok.it x hx).2.1;have ek:(x.num:Int)=(s.next:Int):=ek;omega
    refine⟨?_,?_,?_,?_,?_⟩
    .show(s.items++ [_]).length<=16;rw[av,dy];omega
    .unfold bU.yT;rw[jL t'];refine(lE _ _).trans ?_;show List.Perm (((s.next:Int),(bV:Int))::L) ((s.items++ [(⟨s.next,owner,bs,bV⟩:It)]).map It.kv);rw[aW];exact(List.Perm.cons _ ok.pm).trans (dR _ _).symm
    .intro x hx;rcases bN.1 hx with hx|hx
     .have:=ok.it x hx;exact⟨this.1,by show x.num<s.next+1;omega,this.2.2⟩
     .obtain rfl:=bK.1 hx;exact⟨by show 1<=s.next;have:=ok.vE;omega,by show s.next<s.next+1;omega,g.2.2.1,g.2.2.2.1,g.1,g.2.1,by have:=g.2.2.2.2;show bV<=_;omega⟩
    .show((s.items++ [_]).map It.num).Pairwise (· < ·);rw[aW,List.pairwise_append];refine⟨ok.inc,bO,λy hy z hz=> ?_⟩;simp at hz;subst hz;obtain⟨x,hx,rfl⟩:=bg.1 hy;exact(ok.it x hx).2.1
    .show s.next+1=1+(s.items++ [_]).length+s.taken+s.ps+s.over;rw[av,dy];have:=ok.vE;omega
   .rintro y (rfl|hy|hy)
    .exact .inl ((H.m _).2 (.inl rfl))
    .exact(D y hy).imp (λh1=>(H.m _).2 (.inr (.inl h1))) (λh1=>af)
    .exact(Q y hy).imp id (λh1=>af)
   .rintro y (hy|hy)
    .exact .inl hy
    .exact .inr (M y hy).1
def mV(s:BS)(num owner:Int):Int:=match xu s.items num with|none=>4|some i=>(match s.items[i]? with|some x=>if x.owner=owner then 0 else 13|none=>4)
def ml(s:BS)(num owner:Int):BS:=if mV s num owner=0 then { s with items:=qo s.items num,ps:=s.ps+1 } else s
theorem Mm.field{s':BS}(H:Mm h b X s L l r xs a S)(n:s'.items=s.items)(m:h'[b]? =some (.cells #[.slice l xs.length r,.I (s'.next:Int),.I (s'.taken:Int),.I (s'.ps:Int),.I (s'.over:Int),.P a 0] 145 (0,0)))(f:Fr (λy=>y=b) h h'):Mm h' b X s' L l r xs a S/\bG X h X h':=by
 have j: ∀y,X.D y->y≠b:=λy hd e=>H.vr b ((H.m b).2 (.inl rfl)) (e▸hd)
 refine⟨⟨m,H.own.frame f (λy g e=>H.bl (e▸g)),H.al.frame f (λy g e=>H.bs (e▸g)),H.abs.trans n.symm,λx o=>(H.Ar x o).frame f (λy hd e=>j y hd e),H.m,H.bl,H.bs,H.ls,H.vr,λy g=>ct (H.Dw y g) f.1⟩,bG.tL (f.mono (λy _ e=>(H.m y).2 (.inl e)))⟩
theorem Ij(H:Mm h b X s L l r xs a S)(e:s.items[i]? =some x): ∃v,xs[i]? =some v/\v.abs=x:=by
 rw[<-H.abs,aI]at e;cases f:xs[i]? with
 |none=>rw[f]at e;cases e
 |some v=>rw[f]at e;exact⟨v,rfl,bj e⟩
theorem uv{items:List It}(e:(items.map It.num).Pairwise (· < ·))(H:items[i]? =some x):(qo items (x.num:Int)).length+1=items.length:=by
 have f:=(aA.1 H).1;rw[<-qp e H];unfold AF;rw[av,bE,bQ];omega
theorem okB.del{t o:Nat}(ok:okB s L)(H:s.items[i]? =some x)(e:t+c+o=s.taken+s.ps+s.over+1):okB ⟨qo s.items (x.num:Int),s.next,t,c,o⟩ (fD L (x.num:Int)):=by
 refine ok.sub cJ (yZ ok.pm) ?_;have:=uv ok.inc H;have:=ok.vE;omega
theorem vM{num:Int}(H:As h b X s)(f':s.next<=1000000000)(hk: ∀h' A,As h' b A (ml s num owner)->bG X h A h'->R (.I (mV s num owner)) h'):
  Cl 152 #[.P b 0,.I num,.I owner] h R:=by
 obtain⟨L,⟨l,r,xs,a,S,H⟩,ok⟩:=H;obtain⟨Q,g'⟩:=H.Eo ok;have e':=H.len;have d':=ok.le;refine uo.walk (fw H ⟨_,rfl,?_⟩);simp only[cV,aq,aJ];refine iJ H af λB f2=>⟨_,rfl,?_⟩
 have f:=H.on f2;unfold ml at hk;cases g:xu s.items num with
 |none=>
  have e:mV s num owner=4:=by unfold mV;rw[g]
  rw[e]at hk;have ev:qk s.items num= -1:=by unfold qk;rw[g]
  rw[ev,fY];exact hk B X ⟨L,⟨l,r,xs,a,S,f⟩,ok⟩ (bG.im f2)
 |some i=>
  obtain⟨x,j,w⟩:=y7 g;have ev:qk s.items num=(i:Int):=by unfold qk;rw[g]
  have hi:=(aA.1 j).1;obtain⟨v,C,D⟩:=Ij H j;have q: ¬(i:Int)<0:=af
  rw[ev];simp only[q,bh,aq,aJ,aD];obtain⟨ab,b',rfl⟩:=f.own.addr af;have T:=(f.own.fL gI C).2.1;refine⟨_,_,_,ak f.cQ,af,ay.2 ⟨v.owner,T,?_⟩⟩;have E:v.owner=x.owner:=by rw[<-D];rfl
  by_cases m:x.owner=owner
  .have e:mV s num owner=0:=by unfold mV;rw[g];dsimp only;rw[j];dsimp only;rw[ag m]
   rw[e]at hk;simp only[bf]at hk;rw[ae (by rw[E,m];simp)];refine CG f af Q C λP I F W _=>⟨_,_,_,_,_,_,rfl,?_⟩
   obtain⟨V,U,a',M,G,n⟩:=F;refine⟨_,ak n.cQ,bH n.cQ bO λu J K N=> ?_⟩;have f4:Fr (λy=>y=b) P u:=Fr.of_eq K N;have c':=ok.vE;have Z:(v.num:Int)=num:=by rw[<-w,<-D];rfl
   have O:AF s.items i=qo s.items num:=by rw[<-w];exact qp ok.inc j
   obtain⟨z,Y⟩:=n.field (s':=⟨qo s.items num,s.next,s.taken,s.ps+1,s.over⟩) (h':=u) O.symm (by
    rw[J];dsimp only;rw[bA af af];rfl) f4
   rw[Z]at z;refine hk u I ⟨fD L num,⟨V,U,a',M,G,z⟩,?_⟩ ((bG.im f2).trans (W.trans Y));have:=ok.del (t:=s.taken) (c:=s.ps+1) (o:=s.over) j af;rwa[w]at this
  .have e:mV s num owner=13:=by unfold mV;rw[g];dsimp only;rw[j];dsimp only;rw[ae m]
   rw[e]at hk;rw[ag (by rw[E];simpa using m)];exact hk B X ⟨L,⟨_,r,xs,a,S,f⟩,ok⟩ (bG.im f2)
theorem uw(now:Nat)(B':k=(now:Int))(H:As h b X s)(X':s.next<=1000000000)
  (hk: ∀h' n p' c' (ys:List IV) D,As h' b n { s with items:=s.items.filter (λx=>decide ((now:Int)<(x.bV:Int))),over:=s.over+ys.length } ->bG X h n h'->fi h' p' ys.length c' 4 (ys.flatMap fZ)->(∀y∈ys,y.v.ok h' n.D)->(∀y,aL p' y->h.size<=y/\¬(n.M y\/n.D y))->
   (ys.map IV.abs).map It.kv=D->iW D->D.Perm ((s.items.filter (λx=>decide ((x.bV:Int)<=(now:Int)))).map It.kv)->(∀y∈ys,y.abs∈s.items)->R (.slice p' ys.length c') h'):
  Cl 54 #[.P b 0,.U k] h R:=by
 subst B';obtain⟨L,⟨l,r,xs,a,S,H⟩,ok⟩:=H;obtain⟨hL,Y'⟩:=H.Eo ok;have C':=ok.le;have R':=ok.vE;have so:=H.al.sorted;have nd:=H.al.nodup;refine xr.walk (fw H ⟨_,rfl,aG.of λQ' hJ=> ?_⟩);simp only[bf];refine⟨_,ak H.cQ,bU.CN H.al af _ λh3 p3 c3 A3 o3 g3 f3=>⟨_,_,_,rfl,?_⟩⟩;generalize hD:bU.due L (now:Int)=D at o3⊢;have N:L=D++bU.rest L (now:Int):=by rw[<-hD];exact(List.takeWhile_append_dropWhile).symm
 have M3:Mm h3 b X s (bU.rest L (now:Int)) l r xs a S:=by
  refine⟨f3.get H.cQ H.bs,H.own.frame f3 (λy f W=>H.ls y f W),A3,H.abs,λx m=>(H.Ar x m).frame f3 (λy hd W=>H.vr y ((H.m y).2 (.inr (.inr W))) hd),H.m,H.bl,H.bs,H.ls,H.vr,λy f=>ct (H.Dw y f) f3.1⟩
 have s3:bG X h X h3:=bG.tL (f3.mono (λy _ W=>(H.m y).2 (.inr (.inr W))));have Dl:D.length<=16:=by
  have h1:=bT List.length N;rw[av]at h1;have:=ok.pm.length_eq;rw[aF]at this;omega
 have L':(keys D).Nodup:=by
  rw[N]at nd;unfold keys at nd⊢;rw[aW,eI]at nd;exact nd.1
 have dr: ∀e∈D,e.1∉keys (bU.rest L (now:Int)):=by
  intro e he F;rw[N]at nd;unfold keys at nd F;rw[aW,eI]at nd;exact nd.2.2 e.1 (bw he) e.1 F rfl
 have M':(bU.rest L (now:Int)).length<1000:=by
  have h1:=bT List.length N;rw[av]at h1;omega
 refine⟨λop ol oc t g=> ∃(k:Nat)(n:Ft)(ys:List IV),t=(k:Int)/\k<=D.length/\ol=ys.length/\ys.length=k/\Bx g b n { s with items:=nm s.items (keys (D.take k)),over:=s.over+k } (bU.rest L (now:Int))/\bG X h n g/\Fr (λy=>h.size<=y\/X.M y) h3 g/\fi g op ol oc 4 (ys.flatMap fZ)/\(∀y∈ys,y.v.ok g n.D)/\
   (∀y,aL op y->h.size<=y/\¬(n.M y\/n.D y)/\¬aL p3 y)/\(∀y,aL p3 y->¬(n.M y\/n.D y))/\Row g p3 (bU.kc D)/\(ys.map IV.abs).map It.kv=D.take k/\(∀y∈ys,y.abs∈s.items),λ_ _ _ t _=>D.length - t.toNat,
   ⟨0,X, [],rfl,af,rfl,rfl,?_,s3,Fr.refl _ _,.nil rfl rfl rfl rfl,(λy f=>by cases f),(λy ⟨a,e,_⟩=>by cases e),(λy f m=>gF (g3 y f) (H.lt y m)),o3.jb,rfl,λy f=>by cases f⟩,?_⟩
 .have:({ s with items:=nm s.items (keys (D.take 0)),over:=s.over+0 } :BS)=s:=by
   show(⟨nm s.items [],_,_,_,_⟩:BS)=s;rw[LY];rfl
  rw[this];exact⟨l,r,xs,a,S,M3⟩
 clear M3 A3;rintro op ol oc _ g ⟨k,n,ys,rfl,U',rfl,u',B,st,fg,o,hd,G,n',Y,d',r'⟩;by_cases D':k<D.length
 .have q:(k:Int)<((D.length:Nat):Int):=af
  simp only[q,bu,bf];have K:D[k]? =some D[k]:=ai D';generalize D[k]=e at K;have q':=aT K;have aX:(bU.kc D)[k]? =some (.I e.1):=by
   unfold bU.kc keys;rw[aI,aI,K];rfl
  obtain⟨pa,rfl⟩:=Y.some (λE=>by rw[E]at aX;cases aX);have cell:=Y.cell aX;refine⟨⟨by first|trivial|omega,by first|trivial|omega⟩,ay.2 ⟨e.1,by rw[aD,cv];exact cell,?_⟩⟩;obtain⟨VE,Z',VF,J,S',M⟩:=B;have k':({ s with items:=nm s.items (keys (D.take k)),over:=s.over+k } :BS).items=nm s.items (keys (D.take k)):=rfl;have rl:(nm s.items (keys (D.take k))).length<=16:=cM (cr _ _) C';refine iJ M (by rw[k'];omega) λh5 f5=>⟨_,rfl,?_⟩
  rw[k'];have M5:=M.on f5;have A':e∈L:=by rw[N];exact dW _ q'
  obtain⟨x,m,t'⟩:=bg.1 (ok.pm.mem_iff.1 A');have a':(x.num:Int)=e.1:=by rw[<-t'];rfl
  have E':e.1∉keys (D.take k):=by
   intro F;obtain⟨e',z',ek⟩:=bg.1 F;obtain⟨j,hj⟩:=bF z';rw[cS]at hj;split at hj
   .rename_i T';have h1:(keys D)[j]? =some e.1:=by unfold keys;rw[aI,hj,<-ek];rfl
    have h2:(keys D)[k]? =some e.1:=by unfold keys;rw[aI,K];rfl
    have:=(dM (by unfold keys;rw[aF];omega) L').1 (h1.trans h2.symm);omega
   .cases hj
  have H':x∈nm s.items (keys (D.take k)):=ba.2 ⟨m,au (by rw[a'];exact E')⟩;cases b':xu (nm s.items (keys (D.take k))) e.1 with
  |none=>exact absurd a' (LX b' x H')
  |some i=>
   obtain⟨x',i',W'⟩:=y7 b';have G':x'∈s.items:=(ba.1 (aT i')).1;obtain rfl:x'=x:=uniq ok.inc G' m af;have ev:qk (nm s.items (keys (D.take k))) e.1=(i:Int):=by unfold qk;rw[b']
   rw[ev];obtain⟨v,hv,g'⟩:=Ij M5 i';refine CG M5 (by rw[k'];omega) M' hv λh6 C B6 s6 v6=>⟨_,_,_,_,_,_,rfl,?_⟩
   have vn:(v.num:Int)=e.1:=by rw[<-a',<-g'];rfl
   rw[vn,jL (dr e q')]at B6;have I':((nm s.items (keys (D.take k))).map It.num).Pairwise (· < ·):=ok.inc.sublist (cJ.map _);have F':keys (D.take (k+1))=keys (D.take k)++ [e.1]:=by unfold keys;rw[bD,K,aW];rfl
   have y':AF (nm s.items (keys (D.take k))) i=nm s.items (keys (D.take (k+1))):=by
    rw[qp I' i',a',LZ,F']
   have o5:=o.frame f5 cu;have l': ∀y,aL op y->¬(C.M y\/C.D y):=λy f=>λm=>s6.apart (Q:=aL op) (λz hz A=>(G z A).2.1 hz) (λz A=>o5.dV A) y m f
   have o6:=o5.frame s6.fr (λy f F=>(G y f).2.1 (.inl F));refine iC tI uI o6 rfl (λw hw=>by simp at hw;rcases hw with rfl|rfl|rfl|rfl<;>rfl) af af λp8 c8 h8 o8 f8 g8=>⟨_,_,_,rfl,?_⟩
   have B8:Bx h8 b C _ _:=B6.frame f8 (λy f A=>l' y A f);obtain⟨K',J',O',a8,S8,P⟩:=B8;refine⟨_,ak P.cQ,bH P.cQ bO λU a1 a2 a3=> ?_⟩;have f9:Fr (λy=>y=b) h8 U:=Fr.of_eq a2 a3;obtain⟨M9,s9⟩:=P.field (s':=⟨nm s.items (keys (D.take (k+1))),s.next,s.taken,s.ps,s.over+(k+1)⟩) (h':=U) y'.symm (by
    rw[a1];dsimp only;rw[bA af af];rfl) f9
   have Z:C.M b:=(P.m b).2 (.inl rfl);have v': ∀y,aL p8 y->h.size<=y/\¬(C.M y\/C.D y)/\¬aL (some pa) y:=by
    intro y f;rcases g8 y f with h1|h1
    .exact⟨(G y h1).1,l' y h1,(G y h1).2.2⟩
    .have z6:=s6.fr.1;have z5:=f5.1;have zg:=st.fr.1;refine⟨af,λm=>bX (B6.lt y m),λm=> ?_⟩;have:=iI Y (by intro E;rw[E]at aX;cases aX) m;omega
   have O:bG n g C h6:=(bG.im f5).trans s6;have o': ∀y,aL (some pa) y->¬(C.M y\/C.D y):=λy f m=>O.apart (Q:=aL (some pa)) (λz hz A=>n' z A hz) (λz A=>iI Y (by intro E;rw[E]at aX;cases aX) A) y m f
   have I:bG X h C h6:=st.trans O;have m': ∀y,y<h.size->¬X.M y->U[y]? =h6[y]? :=by
    intro y f F;have zz:=I.fr.1;have VG:=f8.1;rw[f9.2 y af (λE=>(I.jr b Z).elim (λh1=>F (E▸h1)) (λh1=>af)),f8.2 y af (λA=>bX ((G y A).1))]
   have N':bG X h C U:=by
    refine⟨⟨gF I.fr.1 f8.1,λy f V=> ?_⟩,I.jr,I.kR,I.vk⟩;rw[m' y f V];exact I.fr.2 y f V
   have P': ∀y,aL p8 y->y≠b:=λy f E=>(v' y f).2.1 (.inl (E▸Z))
   have w':ys.flatMap fZ++([.I (v.num:Int),.I v.owner,.slice v.v.p v.v.b.length v.v.c,.U (v.bV:Int)]:List Value)=(ys++ [v]).flatMap fZ:=by rw[cW];simp
   have ln:(ys++ [v]).length=ys.length+1:=by rw[av];rfl
   rw[bA af af];refine⟨⟨k+1,C,ys++ [v],af,af,ln.symm,by rw[ln,u'],⟨K',J',O',a8,S8,M9⟩,N',?_,?_,?_,v',o',?_,?_,?_⟩,?_⟩
   .refine⟨r7 fg.1 O.fr.1 f8.1,λy f V=> ?_⟩;have j':y<h.size:=Nat.lt_of_not_le (λm=>V (.inl m));have f': ¬X.M y:=λm=>V (.inr m)
    rw[m' y j' f',I.fr.2 y j' f',s3.fr.2 y j' f']
   .rw[<-w'];exact o8.frame f9 P'
   .intro w hw;have key: ∀u:IV,u.v.ok h6 C.D->u.v.ok U C.D:=λu hu=>(hu.frame f8 (λy f A=>l' y A (.inr f))).frame f9 (λy f E=>P.vr b Z (E▸f))
    rcases bN.1 hw with hw|hw
    .exact key w (((hd w hw).frame O.fr (λy f F=>M.vr y F f)).mono (λy f=>O.vk y f))
    .obtain rfl:=bK.1 hw;exact key w v6
   .refine((Y.frame O.fr (λJ T F=>n' _ ⟨J,T,rfl⟩ (.inl F))).frame f8 (λJ T A=>(G _ A).2.2 ⟨J,T,rfl⟩)).frame f9 (λJ T E=>o' _ ⟨J,T,rfl⟩ (.inl (by have E:J.block=b:=E;rw[E];exact Z)))
   .rw[aW,aW,d',bD,K];simp[g',t']
   .intro w hw;rcases bN.1 hw with hw|hw
    .exact r' w hw
    .obtain rfl:=bK.1 hw;rw[g'];exact m
   .show D.length - Int.toNat ((k:Int)+1)<D.length - Int.toNat (k:Int);omega
 .have q: ¬(k:Int)<((D.length:Nat):Int):=af
  simp only[q,bh,aq,aJ];obtain rfl:k=D.length:=af
  subst hJ;rw[eO]at B d';have e1:nm s.items (keys D)=s.items.filter (λx=>decide ((now:Int)<(x.bV:Int))):=by rw[<-hD];exact L3 ok so nd
  rw[e1]at B;have V':D.length+(s.items.filter (λx=>decide ((now:Int)<(x.bV:Int)))).length=s.items.length:=by
   have h1:=bT List.length N;rw[av,(BA (now:=(now:Int)) ok so).length_eq,aF,ok.pm.length_eq,aF]at h1;omega
  refine hk g n op oc ys D ⟨_,by rw[u'];exact B,?_⟩ st o hd (λy f=>⟨(G y f).1,(G y f).2.1⟩) d' ?_ ?_ r'
  .exact ok.sub cJ (BA ok so) af
  .rw[<-hD,(fT so).1];exact fF _ so
  .rw[<-hD];exact L4 ok so

end gD
end
section
namespace iT
variable {h h':aj} {R:fj}
variable {s:ByteArray} {pos:Nat} {more:UInt8}
theorem byte_at(H:pos<s.size):s.data.toList[pos]? =some (s.data.toList.getD pos 0):=by
 have:pos<s.data.toList.length:=H;rw[aZ,ai this];rfl
theorem Rn{b:UInt8}(d:more.toNat<128)(h:pl more b=true):b<128:=by
 show b.toNat<128;by_cases a:b.toNat<128
 .exact a
 .have H:=LN (more:=(more.toNat:Int)) (c:=(b.toNat:Int)) af af;rw[LO,h]at H;cases H
theorem Mf(e:more.toNat<128)(d:pos<s.size)(h:np (more.toNat:Int) ((Utf8.decode s pos).1:Int)=false):
  pl more (s.data.toList.getD pos 0)=true/\(Utf8.decode s pos).2=1:=by
 obtain⟨a,b⟩:=decode_at s pos d;by_cases H:s.data.toList.getD pos 0<128
 .rw[a H]at h⊢;rw[LO]at h;exact⟨cy h,rfl⟩
 .have:=LN (more:=(more.toNat:Int)) (c:=((Utf8.decode s pos).1:Int)) af (bX (b H));rw[this]at h;cases h
theorem Oo(d:more.toNat<128)(H:pos<s.size)(h:np (more.toNat:Int) ((Utf8.decode s pos).1:Int)=true):mg more s=false:=by
 cases c:mg more s with
 |false=>rfl
 |true=>
  have a:=List.all_eq_true.1 c _ (aT (byte_at H));obtain⟨b,_⟩:=decode_at s pos H;rw[b (Rn d a),LO,a]at h;cases h
theorem zj{it:Nat}{ty:TypeId}{H d:aj}(n:more.toNat<128)(r:d[it]? =some (.stringIter s 0))(u:H.size<=it)(f1:Fr No H d)(hk: ∀h',Fr No H h'->R (.bool (mg more s)) h'):
  ∃(I:aj->Prop)(M:aj->Nat),I d/\∀g,I g->aU Tryz.prog (Instr.next (.P it 0) true ty) g λv G=>
   (v=.tuple #[.bool false]/\R (.bool true) G)\/∃(a b:Value),v=.tuple #[.bool true,a,b]/\∃(c:Int),b=.int .i32 c/\if np (more.toNat:Int) c=true then R (.bool false) G else(I G/\M G<M g):=by
 refine⟨λg=> ∃pos,g[it]? =some (.stringIter s pos)/\Fr No H g/\pos<=s.size/\(s.data.toList.take pos).all (pl more)=true,λg=>(match g[it]? with|some (.stringIter _ p)=>s.size - p|_=>0),⟨0,r,f1,bL _,bO⟩,?_⟩;rintro g ⟨pos,m,F,w,j⟩;refine Jq m (λq=> .inl ⟨rfl,?_⟩) (λf G k x t=> .inr ⟨_,_,rfl,_,rfl,?_⟩)
 .have:mg more s=true:=by
   unfold mg;rw[bB (by show s.data.toList.length<=pos;exact q)]at j;exact j
  rw[<-this];exact hk g F
 .have l:Fr No H G:=F.fresh (S:=λc=>c=it) ⟨af,λc _ i=>t c i⟩ (λc e=>af);cases i:np (more.toNat:Int) ((Utf8.decode s pos).1:Int)with
  |true=>
   rw[ag rfl,<-Oo n f i];exact hk G l
  |false=>
   rw[ae bO];obtain⟨d,o⟩:=Mf n f i;rw[o]at k;refine⟨⟨pos+1,k,l,f,?_⟩,?_⟩
   .rw[bD,byte_at f,List.all_append,j];show(true && (pl more (s.data.toList.getD pos 0) && true))=true;rw[d];rfl
   .simp only[m,k];omega
theorem Gn(hk: gU h R (.bool (mg 45 s))):Cl 142 #[.string s,.int .i32 45] h R:=by
 refine vu.host.walk (yw cU λr o p n f1=>⟨_,rfl,?_⟩);obtain⟨I,M,k,l⟩:=zj (more:=45) (ty:=0) dH n af f1 hk;refine⟨I,M,k,λg m=>jO _ _ (λv G H=> ?_) (l g m)⟩;rcases H with H|⟨a,b,e,c,e2,H⟩
 .exact .inl H
 .refine .inr ⟨a,b,e,c,e2,aG.of λJ d=> ?_⟩;have key:J (np 45 c) G:=by subst d;exact H
  clear d H;unfold np at key;revert key;generalize decide (c<97)=b1;generalize decide (c>122)=B;generalize decide (c<48)=f;generalize decide (c>57)=i;generalize (c !=45)=j;intro key;cases b1<;>cases B<;>cases f<;>cases i<;>cases j<;>exact key
theorem Er(hk: gU h R (.bool (mg 47 s))):Cl 142 #[.string s,.int .i32 47] h R:=by
 refine vu.Ri.walk (yw cU λr p q o f1=>⟨_,rfl,?_⟩);obtain⟨I,M,l,m⟩:=zj (more:=47) (ty:=0) dH o af f1 hk;refine⟨I,M,l,λg n=>jO _ _ (λv G H=> ?_) (m g n)⟩;rcases H with H|⟨a,b,e,c,e2,H⟩
 .exact .inl H
 .refine .inr ⟨a,b,e,c,e2,aG.of λJ d=> ?_⟩;have key:J (np 47 c) G:=by subst d;exact H
  clear d H;unfold np at key;revert key;generalize decide (c<97)=b1;generalize decide (c>122)=B;generalize decide (c<48)=f;generalize decide (c>57)=i;generalize (c !=45)=j;generalize (c !=47)=k;intro key;cases b1<;>cases B<;>cases f<;>cases i<;>cases j<;>cases k<;>exact key
abbrev Ev.at(h:aj)(b:Nat)(x:Ev):Prop:=aw.at h b x.jI x.node x.fX x.host x.jd
theorem fc(x:Ev)(hk: gU h R (.bool (cN x))):Cl 86 #[.agg #[.bool x.jI,.U x.node,.U x.fX,.string x.host,.string x.jd]] h R:=by
 refine Jx.walk (aw.box λb f E H f1=>aw.ld H ⟨_,tW (y:=.zero) (x:=x) rfl rfl,?_⟩);have K:=hk f f1;unfold cN at K;by_cases e:x=.zero
 .rw[ag (au e)];rw[ag e]at K;exact K
 .rw[ae (cy e)];rw[ae e]at K;refine⟨_,ak H,?_⟩;by_cases d:x.jI=true
  .rw[ag d];rw[ag d]at K;refine aw.ld H ⟨_,ak H,_,ak H,_,tW (y:=⟨true,x.node,x.fX,⟨#[]⟩,⟨#[]⟩⟩) (x:=x) rfl rfl,?_⟩;by_cases c:x=⟨true,x.node,x.fX,⟨#[]⟩,⟨#[]⟩⟩
   .have e1:x.host=⟨#[]⟩:=bT Ev.host c;have e2:x.jd=⟨#[]⟩:=bT Ev.jd c;rw[ag (au c)];refine⟨_,ak H,?_⟩;by_cases q1:x.node≥1
    .rw[ag (au q1)];refine⟨_,ak H,?_⟩;by_cases q2:x.node<=4294967295
     .rw[ag (au q2)];refine⟨_,ak H,?_⟩;have q:1<=x.node:=q1;simp only[e1,e2,q,q2,true_and]at K;exact K
     .rw[ae (cy q2)];simp only[q2,false_and,and_false,bh]at K;exact K
    .rw[ae (cy q1)];have q: ¬1<=x.node:=q1;simp only[q,false_and,and_false,bh]at K;exact K
   .rw[ae (cy c)];have: ¬(x.host=⟨#[]⟩/\x.jd=⟨#[]⟩/\1<=x.node/\x.node<=4294967295/\x.fX<=4294967295):=λ⟨a,b,_⟩=>c (Ev.ext' d rfl rfl a b)
    rw[az this]at K;exact K
  .have k:x.jI=false:=by simpa using d
   rw[ae d];rw[ae d]at K;refine aw.ld H ⟨_,ak H,_,ak H,_,tW (y:=⟨false,0,0,x.host,x.jd⟩) (x:=x) rfl rfl,?_⟩;by_cases c:x=⟨false,0,0,x.host,x.jd⟩
   .have e1:x.node=0:=bT Ev.node c;have e2:x.fX=0:=bT Ev.fX c;rw[ag (au c)];refine⟨_,ak H,?_⟩;simp only[e1,e2,true_and]at K;by_cases q1:1<=x.host.size
    .rw[fY];refine⟨_,ak H,?_⟩;by_cases q2:x.host.size<=16
     .rw[fY];refine⟨_,ak H,?_⟩;by_cases q3:x.jd.size<=24
      .rw[fY];simp only[q1,q2,q3,and_self,bu,dP]at K;refine⟨_,ak H,Gn λg f2=>⟨_,rfl,?_⟩⟩;have j:=f2.get H id;by_cases q4:mg 45 x.host=true
       .rw[ag q4];refine⟨_,ak j,Er λi f3=>⟨_,rfl,?_⟩⟩;have:=hk i (f1.tt (f2.tt f3));unfold cN at this;rw[ae e,ae d,q4]at this;simp only[e1,e2,q1,q2,q3,and_self,bu,dP]at this;exact this
       .rw[ae q4];have:=hk g (f1.tt f2);unfold cN at this;have q4:mg 45 x.host=false:=by simpa using q4
        rw[ae e,ae d,q4]at this;simp only[eY,Bool.and_false]at this;exact this
      .rw[ae (by simp;omega)];simp only[q3,and_false,bh,eY]at K;exact K
     .rw[ae (by simp;omega)];simp only[q2,false_and,and_false,bh,eY]at K;exact K
    .rw[ae (by simp;omega)];simp only[q1,false_and,and_false,bh,eY]at K;exact K
   .rw[ae (cy c)];have: ¬(x.node=0/\x.fX=0/\1<=x.host.size/\x.host.size<=16/\x.jd.size<=24):=λ⟨a,b,_⟩=>c (Ev.ext' k a b rfl rfl)
    rw[az this,eY]at K;exact K
theorem ux(x:Ev)(hk: gU h R (.I (iz x))):Cl 184 #[.agg #[.bool x.jI,.U x.node,.U x.fX,.string x.host,.string x.jd]] h R:=by
 refine Jy.walk (aw.box λb d e c f1=>aw.ld c ⟨_,tW (y:=.zero) (x:=x) rfl rfl,?_⟩);have K:=hk d f1;unfold iz at K;by_cases H:x=.zero
 .rw[ag (au H)];rw[ag H]at K;exact K
 .rw[ae (cy H)];rw[ae H]at K;refine⟨_,ak c,?_⟩;by_cases a:x.jI=true
  .rw[ag a];rw[ag a]at K;exact K
  .rw[ae a];rw[ae a]at K;exact K
theorem Es{a b:ByteArray}:(a.toList==b.toList)=true↔a=b:=by
 rw[da,toList_data,toList_data];constructor
 .intro e;cases a;cases b;simp only[ByteArray.mk.injEq];exact Array.ext' e
 .rintro rfl;rfl
theorem Oq(x y:Ev)(hk: gU h R (.bool (ka x y))):Cl 133 #[.agg #[.bool x.jI,.U x.node,.U x.fX,.string x.host,.string x.jd],.agg #[.bool y.jI,.U y.node,.U y.fX,.string y.host,.string y.jd]] h R:=by
 refine LL.walk (aw.box λb l E j f1=>aw.box λc m k d f2=> ?_);have f:=f2.get j id;refine aw.ld f (aw.ld d (ux x λn f3=>⟨_,rfl,aw.held (f3.get d id),ux y λg f4=>⟨_,rfl,?_⟩⟩));have F:=f3.tt f4;have a:=F.get f id;have H:=F.get d id;have K:=hk g (f1.tt (f2.tt F));unfold ka at K;by_cases q:iz x=iz y
 .rw[ae (cy q)];rw[ae (cy q)]at K;refine⟨_,ak a,_,ak H,?_⟩;by_cases q1:x.node=y.node
  .rw[ae (cy q1)];rw[ae (cy q1)]at K;refine⟨_,ak a,_,ak H,?_⟩;by_cases q2:x.fX=y.fX
   .rw[ae (cy q2)];rw[ae (cy q2)]at K;refine⟨_,ak a,_,ak H,?_⟩;by_cases q3:x.host=y.host
    .rw[ae (by simp[Es.2 q3])];rw[ae (cy q3)]at K;exact⟨_,ak a,_,ak H,K⟩
    .have:(x.host.toList==y.host.toList)=false:=by
      cases e:x.host.toList==y.host.toList
      .rfl
      .exact absurd (Es.1 e) q3
     rw[ag (by simp[this])];rw[ag q3]at K;exact⟨_,ak a,_,ak H,K⟩
   .rw[ag (cy q2)];rw[ag q2]at K;exact⟨_,ak a,_,ak H,K⟩
  .rw[ag (cy q1)];rw[ag q1]at K;exact⟨_,ak a,_,ak H,K⟩
 .rw[ag (cy q)];refine aw.ld a (aw.ld H (ux x λo f5=>⟨_,rfl,aw.held (f5.get H id),ux y λi f6=>⟨_,rfl,?_⟩⟩));have K:=hk i (f1.tt (f2.tt (F.tt (f5.tt f6))));unfold ka at K;rw[ag q]at K;exact K

end iT
end
section
variable {h:aj} {R:fj}
variable {t d c:Nat} {r e:Bool} {l m q s E f owner a b:Int} {o p g k:ByteArray} {D:cg}
theorem Mh.walk(j:aQ h (.map #[] 0) λb H=>aQ H (.cells #[.map (some b)] 172) λB i=>R (.P B 0) i):Cl 36 #[] h R:=aN (lq ll) Tryz.func36 j
theorem xz.walk(H: ∃t9,Cc h t 0 (.map t9)/\R (.bool (!t9.isNone)) h):Cl 130 #[.P t 0] h R:=aN (lq ll) Tryz.func130 H
theorem AH.walk{n:Int}(H:if(decide (n≥0))then R (.bool (decide (n<=2))) h else R (.bool false) h):Cl 149 #[.I n] h R:=aN (lq ll) Tryz.func149 H
theorem Gp.walk(n:aQ h (.cells #[.bool r,.U l,.U m,.string o,.string p,.I q,.I s] 136) λb j=>aw.LD j (AA b 0) λT u w x y=>Cl 86 #[.agg #[.bool T,.U u,.U w,.string x,.string y]] j λv H=> ∃t5,v=.bool t5/\if t5 then aw.LD H (AA b 0) λz A B C F=> ∃(eq:Bool),xO Tryz.prog 29 (.agg #[.bool z,.U A,.U B,.string C,.string F]) (.agg #[.bool false,.U 0,.U 0,.string gV,.string gV]) eq/\if(!eq)then Hi H b 5 λt14=>Cl 149 #[.I t14] H λV i=> ∃t15,V=.bool t15/\if t15 then∃t19,Cc i b 6 (.I t19)/\if(decide (t19≥1))then∃t24,Cc i b 6 (.I t24)/\R (.bool (decide (t24<=1099511627776))) i else R (.bool false) i else R (.bool false) i else R (.bool false) H else R (.bool false) H):Cl 147 #[.agg #[.bool r,.U l,.U m,.string o,.string p,.I q,.I s]] h R:=aN (lq ll) Tryz.func147 n
theorem zp.walk(N:aQ h (.cells #[.bool r,.U l,.U m,.string o,.string p,.I q,.I s] 136) λb L=>Cl 130 #[.P t 0] L λv i=> ∃t8,v=.bool t8/\if(!t8)then R (.I 6) i else∃t14,Cc i t 0 (.map t14)/\aw.LD i (AA b 0) λT u w x y=> ∃z A B C F G I J,gW Tryz.prog 170 (.map t14) (.agg #[.bool T,.U u,.U w,.string x,.string y]) true i (.tuple #[.agg #[.bool z,.U A,.U B,.string C,.string F,.I G,.I I],.bool J])/\aQ i (.cells #[.bool false,.U 0,.U 0,.string gV,.string gV,.I 0,.I 0] 136) λK j=>jZ (.map t14) i j/\dI (AA b 0) [.bool T,.U u,.U w,.string x,.string y] 0 j/\Cc j t 0 (.map t14)/\bp.ST j (AA K 0) z A B C F G I λn=>bp.LD n (AA b 0) λO P Q S U V W=>Cl 147 #[.agg #[.bool O,.U P,.U Q,.string S,.string U,.I V,.I W]] n λj' H=> ∃t22,j'=.bool t22/\if(!t22)then R (.I 1) H else if J then R (.I 11) H else∃t30,Cc H t 0 (.map t30)/\∃t31:Int,K3 Tryz.prog #[170] 3 (.map t30) H (.I t31)/\if(decide (t31≥8))then R (.I 15) H else∃t36,Cc H t 0 (.map t36)/\aw.LD H (AA b 0) λX Y Z a' b'=>bp.LD H (AA b 0) λc' d' e' f' g' h' i'=>aU Tryz.prog (Instr.mapUpdate 170 (.map t36) (.agg #[.bool X,.U Y,.U Z,.string a',.string b']) (.agg #[.bool c',.U d',.U e',.string f',.string g',.I h',.I i'])) H λ_ M=>R (.I 0) M):Cl 97 #[.P t 0,.agg #[.bool r,.U l,.U m,.string o,.string p,.I q,.I s]] h R:=aN (lq (sq (lq (cq ll lf)) (sq (pN 13) (sq (bq (lq (cq ll (lq (cq ll (lq (cq ll lf))))))) (sq (pN 8) ll))))) Tryz.func97 N
theorem zq.walk(S:aQ h (.cells #[.bool e,.U E,.U f,.string g,.string k] 29) λb P=>aQ P (.cells #[.bool false,.U 0,.U 0,.string gV,.string gV,.I 0,.I 0] 136) λB Q=>Cl 130 #[.P t 0] Q λv H=> ∃t11,v=.bool t11/\if(!t11)then bp.ST H (AA B 0) false 0 0 gV gV 0 0 λu=>bp.LD u (AA B 0) λU Y c' g' k' o' s'=>R (.tuple #[.agg #[.bool U,.U Y,.U c',.string g',.string k',.I o',.I s'],.I 6]) u else∃t18,Cc H t 0 (.map t18)/\aw.LD H (AA b 0) λT z A C F=> ∃G I J K L M N O,gW Tryz.prog 170 (.map t18) (.agg #[.bool T,.U z,.U A,.string C,.string F]) true H (.tuple #[.agg #[.bool G,.U I,.U J,.string K,.string L,.I M,.I N],.bool O])/\aQ H (.cells #[.bool false,.U 0,.U 0,.string gV,.string gV,.I 0,.I 0] 136) λn j=>jZ (.map t18) H j/\dI (AA b 0) [.bool T,.U z,.U A,.string C,.string F] 0 j/\Cc j t 0 (.map t18)/\bp.ST j (AA n 0) G I J K L M N λi=>if(!O)then bp.ST i (AA B 0) false 0 0 gV gV 0 0 λw=>bp.LD w (AA B 0) λV Z d' h' l' p' t'=>R (.tuple #[.agg #[.bool V,.U Z,.U d',.string h',.string l',.I p',.I t'],.I 4]) w else∃t29,Cc i n 6 (.I t29)/\if(t29 !=owner)then bp.ST i (AA B 0) false 0 0 gV gV 0 0 λx=>bp.LD x (AA B 0) λW a' e' i' m' q' u'=>R (.tuple #[.agg #[.bool W,.U a',.U e',.string i',.string m',.I q',.I u'],.I 13]) x else bp.LD i (AA n 0) λw' x' y' z' A' B' C'=>bp.ST i (AA B 0) w' x' y' z' A' B' C' λy=>bp.LD y (AA B 0) λX b' f' j' n' r' v'=>R (.tuple #[.agg #[.bool X,.U b',.U f',.string j',.string n',.I r',.I v'],.I 0]) y):Cl 148 #[.P t 0,.agg #[.bool e,.U E,.U f,.string g,.string k],.I owner] h R:=aN (lq (sq (lq (cq ll lf)) (sq (pN 12) (sq (bq (lq (cq ll (lq (cq ll lf))))) ll)))) Tryz.func148 S
theorem uy.walk(I:aQ h (.cells #[.bool e,.U E,.U f,.string g,.string k] 29) λb i=>aw.LD i (AA b 0) λK L M N O=>Cl 148 #[.P t 0,.agg #[.bool K,.U L,.U M,.string N,.string O],.I owner] i λv A=> ∃j n u w x y z T,v=.tuple #[.agg #[.bool j,.U n,.U u,.string w,.string x,.I y,.I z],.I T]/\aQ A (.cells #[.bool false,.U 0,.U 0,.string gV,.string gV,.I 0,.I 0] 136) λB C=>bp.ST C (AA B 0) j n u w x y z λH=>aG (λ(F:aj)=>R (.I T) F) (λJ=>if(T==0)then∃t21,Cc H t 0 (.map t21)/\aw.LD H (AA b 0) λP Q S U V=>aU Tryz.prog (Builtin.delete_ #[170,29] 0 #[.map t21,.agg #[.bool P,.U Q,.U S,.string U,.string V]]) H λW G=>W=.tuple #[]/\J G else J H)):Cl 98 #[.P t 0,.agg #[.bool e,.U E,.U f,.string g,.string k],.I owner] h R:=aN (lq (lq (sq (lq (.join [] (cq (pN 6) lf))) ll))) Tryz.func98 I
theorem uz.walk{P:Int}(O:aQ h (.cells #[.bool e,.U E,.U f,.string g,.string k] 29) λb G=>aG (λ(t17:Bool) (i:aj)=>if t17 then R (.I 1) i else aw.LD i (AA b 0) λQ S U V W=>Cl 148 #[.P t 0,.agg #[.bool Q,.U S,.U U,.string V,.string W],.I owner] i λv K=> ∃w x y z A C F T,v=.tuple #[.agg #[.bool w,.U x,.U y,.string z,.string A,.I C,.I F],.I T]/\aQ K (.cells #[.bool false,.U 0,.U 0,.string gV,.string gV,.I 0,.I 0] 136) λB L=>bp.ST L (AA B 0) w x y z A C F λn=>aG (λ(M:aj)=>R (.I T) M) (λj=>if(T==0)then aO n (AA B 5) (.I P) λH=> ∃t32,Cc H t 0 (.map t32)/\aw.LD H (AA b 0) λX Y Z a' b'=>bp.LD H (AA B 0) λc' d' e' f' g' h' i'=>aU Tryz.prog (Instr.mapUpdate 170 (.map t32) (.agg #[.bool X,.U Y,.U Z,.string a',.string b']) (.agg #[.bool c',.U d',.U e',.string f',.string g',.I h',.I i'])) H λ_ N=>j N else j n)) (λJ=>Cl 130 #[.P t 0] G λj' u=> ∃t12,j'=.bool t12/\if t12 then Cl 149 #[.I P] u λk' I=> ∃t15,k'=.bool t15/\J (!t15) I else J false u)):Cl 100 #[.P t 0,.agg #[.bool e,.U E,.U f,.string g,.string k],.I owner,.I P] h R:=aN (lq (sq (sq (.join [(17,.one (.bool))] lf) (cq ll lf)) (lq (sq (lq (.join [] (cq (lq (pN 7)) lf))) ll)))) Tryz.func100 O
theorem xA.walk(P:aQ h (.cells #[.bool e,.U E,.U f,.string g,.string k] 29) λb N=>aQ N (.cells #[.bool false,.U 0,.U 0,.string gV,.string gV,.I 0,.I 0] 136) λB O=>Cl 130 #[.P t 0] O λv H=> ∃t9,v=.bool t9/\if(!t9)then bp.ST H (AA B 0) false 0 0 gV gV 0 0 λn=>bp.LD n (AA B 0) λQ U W Y a' c' e'=>R (.tuple #[.agg #[.bool Q,.U U,.U W,.string Y,.string a',.I c',.I e'],.bool false]) n else∃t16,Cc H t 0 (.map t16)/\aw.LD H (AA b 0) λT x y z A=> ∃C F G I J K L M,gW Tryz.prog 170 (.map t16) (.agg #[.bool T,.U x,.U y,.string z,.string A]) true H (.tuple #[.agg #[.bool C,.U F,.U G,.string I,.string J,.I K,.I L],.bool M])/\aQ H (.cells #[.bool false,.U 0,.U 0,.string gV,.string gV,.I 0,.I 0] 136) λj i=>jZ (.map t16) H i/\dI (AA b 0) [.bool T,.U x,.U y,.string z,.string A] 0 i/\Cc i t 0 (.map t16)/\bp.ST i (AA j 0) C F G I J K L λu=>bp.LD u (AA j 0) λg' h' i' j' k' l' m'=>bp.ST u (AA B 0) g' h' i' j' k' l' m' λw=>bp.LD w (AA B 0) λS V X Z b' d' f'=>R (.tuple #[.agg #[.bool S,.U V,.U X,.string Z,.string b',.I d',.I f'],.bool M]) w):Cl 155 #[.P t 0,.agg #[.bool e,.U E,.U f,.string g,.string k]] h R:=aN (lq (sq (lq (cq ll lf)) (sq (pN 12) ll))) Tryz.func155 P
theorem zt.walk(hv:Cl 130 #[.P t 0] h λv H=>Vb v λt7=>aG (λ(C:cg) (B A:Nat) (X:aj)=>Cl 131 #[.slice C B A,.func (.func 132) #[] #[]] X λm' Y=>m'=.tuple #[]/\R (.slice C B A) Y) (λJ=>if t7 then∃t11,Cc H t 0 (.map t11)/\aU Tryz.prog (Instr.range 170 (.map t11)) H λn' Z=> ∃(it:Nat),n'=.P it 0/\∃(I:cg->Nat->Nat->aj->Prop)(M:cg->Nat->Nat->aj->Nat),I none 0 0 Z/\∀(j:cg)(i O:Nat)(n:aj),I j i O n->aU Tryz.prog (Instr.next (.P it 0) false 0) n λV y=>(V=.tuple #[.bool false]/\J j i O y)\/(∃(c' d':Value),V=.tuple #[.bool true,c',d']/\aU Tryz.prog (Instr.entry (.P it 0)) y λo' a'=> ∃(e' F:Value),o'=.tuple #[e',F]/\∃G K L N P Q S,F=.agg #[.bool G,.U K,.U L,.string N,.string P,.I Q,.I S]/\aQ a' (.cells #[.bool false,.U 0,.U 0,.string gV,.string gV,.I 0,.I 0] 136) λb b'=>bp.ST b' (AA b 0) G K L N P Q S λz=>bp.LD z (AA b 0) λf' g' h' i' j' k' l'=>aQ z (.cells #[.bool f',.U g',.U h',.string i',.string j',.I k',.I l'] 136) λU W=>aU Tryz.prog (Builtin.append_ #[133,133] 133 #[.slice j i O,.slice (Sa U 0) 1 1]) W λp' x=> ∃w u T,p'=.slice w u T/\(I w u T x/\M w u T x<M j i O n))else J none 0 0 H)):Cl 63 #[.P t 0] h R:=aN (lq (lq (sq (lq (.join [(3,.one (.slice))] (cq (lq (bq (.loop [(3,.one (.slice))] (lq (sq (cq lf lf) (bq (sq (.typed [(16,.agg [.bool,.int .u64,.int .u64,.str,.str,.int .i64,.int .i64])]) lf))))))) lf))) (lq ll)))) Tryz.func63 hv
theorem vN.walk{A:Bool}{i:Int}{j:Int}{n:ByteArray}{u:ByteArray}{w:Int}{x:Int}{y:Bool}{B:Int}{z:Int}{C:ByteArray}{F:ByteArray}{G:Int}{I:Int}(L:aQ h (.cells #[.bool A,.U i,.U j,.string n,.string u,.I w,.I x] 136) λb K=>aQ K (.cells #[.bool y,.U B,.U z,.string C,.string F,.I G,.I I] 136) λB H=>aw.LD H (AA b 0) λT M N O P=>aw.LD H (AA B 0) λQ S U V W=>Cl 133 #[.agg #[.bool T,.U M,.U N,.string O,.string P],.agg #[.bool Q,.U S,.U U,.string V,.string W]] H λv J=> ∃t9,v=.bool t9/\if t9 then R (.I (-1)) J else R (.I 1) J):Cl 132 #[.agg #[.bool A,.U i,.U j,.string n,.string u,.I w,.I x],.agg #[.bool y,.U B,.U z,.string C,.string F,.I G,.I I]] h R:=aN (lq (sq (lq (cq ll lf)) ll)) Tryz.func132 L
theorem jE.Ro.walk{i:cg}{x X:Nat}(n:Cl 183 #[.U (wrap .u64 (x:Int))] h λv H=>Vi v λt11=>Cl 182 #[.slice i x X,.I 0,.I (x:Int),.I t11,.func (.func 132) #[] #[]] H λV j=>V=.tuple #[]/\R (.tuple #[]) j):Cl 131 #[.slice i x X,.func (.func 132) #[] #[]] h R:=aN ll Tryz.func131 n
theorem ky.Ro.walk{Y:Int} (hv: ∃(I:Int->Int->Int->Bool->Bool->aj->Prop)(mu:Int->Int->Int->Bool->Bool->aj->Nat),I a b Y true true h/\∀(A:Int)(B:Int)(L:Int)(w:Bool)(W:Bool)(H:aj),I A B L w W H->aG (λ(M:Int) (N:Int) (Z:Int) (b':Bool) (c':Bool) (U:aj)=>(I M N Z b' c' U/\mu M N Z b' c' U<mu A B L w W H)) (λJ=>if(decide ((wrap .i64 (B - A))<=12))then Cl 214 #[.slice D d c,.I A,.I B,.func (.func 132) #[] #[]] H λv o'=>v=.tuple #[]/\R (.tuple #[]) o' else if(L==0)then Cl 215 #[.slice D d c,.I A,.I B,.func (.func 132) #[] #[]] H λG' p'=>G'=.tuple #[]/\R (.tuple #[]) p' else aG (λ(j:Int) (q':aj)=>Cl 217 #[.slice D d c,.I A,.I B,.func (.func 132) #[] #[]] q' λI' V=> ∃x y,I'=.tuple #[.I x,.I y]/\aG (λ(P:Int) (r':Int) (u:aj)=>aG (λ(t75:Bool) (X:aj)=>aG (λ(i:aj)=>aG (λ(t97:Bool) (O:aj)=>if t97 then Cl 220 #[.slice D d c,.I A,.I B,.I P,.func (.func 132) #[] #[]] O λJ' h'=> ∃t103,J'=.I t103/\J t103 B j w W h' else Cl 221 #[.slice D d c,.I A,.I B,.I P,.func (.func 132) #[] #[]] O λK' Q=> ∃T a',K'=.tuple #[.I T,.bool a']/\aG (λ(d':Int) (g':Int) (Q':Bool) (i':aj)=>J d' g' j Q' a' i') (λK=>if(decide ((wrap .i64 (T - A))<(wrap .i64 (B - T))))then Cl 182 #[.slice D d c,.I A,.I T,.I j,.func (.func 132) #[] #[]] Q λL' j'=>L'=.tuple #[]/\K (wrap .i64 (T+1)) B (decide ((wrap .i64 (T - A))≥(wrap .i64 (Int.tdiv (wrap .i64 (B - A)) 8)))) j' else Cl 182 #[.slice D d c,.I (wrap .i64 (T+1)),.I B,.I j,.func (.func 132) #[] #[]] Q λM' k'=>M'=.tuple #[]/\K A T (decide ((wrap .i64 (B - T))≥(wrap .i64 (Int.tdiv (wrap .i64 (B - A)) 8)))) k')) (λG=>if(decide (A>0))then Bd (wrap .i64 (A - 1)) d/\aM D λe'=>bp.LD i (e'.add (toNat (wrap .i64 (A - 1))*7)) λs' t' u' v' w' x' y'=>Bd P d/\aM D λf'=>bp.LD i (f'.add (toNat P*7)) λz' A' B' C' D' E' F'=>Cl 132 #[.agg #[.bool s',.U t',.U u',.string v',.string w',.I x',.I y'],.agg #[.bool z',.U A',.U B',.string C',.string D',.I E',.I F']] i λN' l'=> ∃t94,N'=.I t94/\G (!(decide (t94<0))) l' else G false i)) (λF=>if t75 then Cl 219 #[.slice D d c,.I A,.I B,.func (.func 132) #[] #[]] X λO' S=> ∃t80,O'=.bool t80/\if t80 then R (.tuple #[]) S else F S else F X)) (λn=>if w then if W then n (r'==1) u else n false u else n false u)) (λC=>if(y==2)then Cl 218 #[.slice D d c,.I A,.I B,.func (.func 132) #[] #[]] V λP' m'=>P'=.tuple #[]/\C (wrap .i64 ((wrap .i64 (B - 1)) - (wrap .i64 (x - A)))) 1 m' else C x y V)) (λz=>if(!w)then Cl 216 #[.slice D d c,.I A,.I B,.func (.func 132) #[] #[]] H λH' n'=>H'=.tuple #[]/\z (wrap .i64 (L - 1)) n' else z L H))):Cl 182 #[.slice D d c,.I a,.I b,.I Y,.func (.func 132) #[] #[]] h R:=aN (lq (lq (bq (.loop [(1,.one (.int .i64)),(2,.one (.int .i64)),(3,.one (.int .i64)),(10,.one (.bool)),(11,.one (.bool))] (.join [(1,.one (.int .i64)),(2,.one (.int .i64)),(3,.one (.int .i64)),(10,.one (.bool)),(11,.one (.bool))] (bq (lq (sq (lq (cq ll lf)) (sq (lq (cq ll lf)) (sq (lq (.join [(3,.one (.int .i64))] (cq ll lf))) (lq (sq (lq (.join [(13,.one (.int .i64)),(14,.one (.int .i64))] (cq (lq ll) lf))) (sq (sq (.join [(75,.one (.bool))] lf) (.join [] (cq (lq (cq lf lf)) lf))) (sq (sq (.join [(97,.one (.bool))] (pN 17)) (cq (lq ll) lf)) (lq (lq (lq (lq (lq (.join [(1,.one (.int .i64)),(2,.one (.int .i64)),(10,.one (.bool))] (cq (lq ll) (lq ll)))))))))))))))))))))) Tryz.func182 hv
theorem jy.Ro.walk (N: ∃(I:Int->aj->Prop)(M:Int->aj->Nat),I (wrap .i64 (a+1)) h/\∀(i:Int)(u:aj),I i u->if(decide (i<b))then∃(w:Int->aj->Prop)(y:Int->aj->Nat),w i u/\∀(j:Int)(H:aj),w j H->aG (λ(t34:Bool) (n:aj)=>if t34 then Bd (wrap .i64 (j - 1)) d/\aM D λA=>bp.LD n (A.add (toNat (wrap .i64 (j - 1))*7)) λd' e' f' g' h' i' j'=>Bd j d/\aM D λz=>bp.LD n (z.add (toNat j*7)) λk' l' m' n' o' p' q'=>Bd j d/\aM D λB=>bp.ST n (B.add (toNat j*7)) d' e' f' g' h' i' j' λK=>Bd (wrap .i64 (j - 1)) d/\aM D λC=>bp.ST K (C.add (toNat (wrap .i64 (j - 1))*7)) k' l' m' n' o' p' q' λx=>(w (wrap .i64 (j - 1)) x/\y (wrap .i64 (j - 1)) x<y j H)else(I (wrap .i64 (i+1)) n/\M (wrap .i64 (i+1)) n<M i u)) (λJ=>if(decide (j>a))then Bd j d/\aM D λF=>bp.LD H (F.add (toNat j*7)) λT O P Q S U V=>Bd (wrap .i64 (j - 1)) d/\aM D λG=>bp.LD H (G.add (toNat (wrap .i64 (j - 1))*7)) λW X Y Z a' b' c'=>Cl 132 #[.agg #[.bool T,.U O,.U P,.string Q,.string S,.I U,.I V],.agg #[.bool W,.U X,.U Y,.string Z,.string a',.I b',.I c']] H λv L=> ∃t32,v=.I t32/\J (decide (t32<0)) L else J false H)else R (.tuple #[]) u):Cl 214 #[.slice D d c,.I a,.I b,.func (.func 132) #[] #[]] h R:=aN (lq (bq (.loop [(8,.one (.int .i64))] (sq (lq (cq lf lf)) (sq (bq (lq (bq (.loop [(9,.one (.int .i64))] (sq (sq (.join [(34,.one (.bool))] (pN 17)) (cq lf lf)) (sq (bq (pN 18)) lf)))))) lf))))) Tryz.func214 N

end
section
namespace gg
open iT
variable {h h':aj} {R:fj} {b:Nat} {X:Ft}
structure Rg where
 e:Ev
 jA:Int
 own:Int
abbrev Rg.zero:Rg:=⟨.zero,0,0⟩
abbrev Rg.val(r:Rg):Value:=.agg #[.bool r.e.jI,.int .u64 r.e.node,.int .u64 r.e.fX,.string r.e.host,.string r.e.jd,.int .i64 r.jA,.int .i64 r.own]
abbrev Rg.at(h:aj)(b:Nat)(r:Rg):Prop:=bp.at h b r.e.jI r.e.node r.e.fX r.e.host r.e.jd r.jA r.own
abbrev uB(r:Rg):List Value:= [.bool r.e.jI,.int .u64 r.e.node,.int .u64 r.e.fX,.string r.e.host,.string r.e.jd,.int .i64 r.jA,.int .i64 r.own]
theorem mn(r:Rg):(uB r).length=7:=rfl
abbrev Rg.pair(r:Rg):Ev×Value:=(r.e,r.val)
abbrev jT(x y:Rg):Prop:=ka x.e y.e=true
theorem mq:nN Tryz.prog 170 kj Rg.zero.val:=nN.of 29 136 cU key cU
structure KW (h:aj) (b:Nat) (X:Ft) (L:List Rg) (m:Nat):Prop where
 cQ:h[b]? =some (.cells #[.map (some m)] 172 (0,0))
 map:jc h m kj (L.map Rg.pair)
 fm: ∀c,X.M c↔c=b\/c=m
 d: ∀c,¬X.D c
 ne:b≠m
 so:L.Pairwise jT
def Tb(h:aj)(b:Nat)(X:Ft)(L:List Rg):Prop:= ∃m,KW h b X L m
variable {L : List Rg} {m : Nat}
theorem KW.frame{Q:Nat->Prop}(H:KW h b X L m)(f:Fr Q h h')(a: ∀y,X.M y\/X.D y->¬Q y):KW h' b X L m:=
 ⟨f.get H.cQ (a b (.inl ((H.fm b).2 (.inl rfl)))),H.map.frame f (a m (.inl ((H.fm m).2 (.inr rfl)))),H.fm,H.d,H.ne,H.so⟩
theorem KW.on(H:KW h b X L m)(f:Fr No h h'):KW h' b X L m:=H.frame f cu
theorem Tb.frame{Q:Nat->Prop}(H:Tb h b X L)(f:Fr Q h h')(a: ∀y,X.M y\/X.D y->¬Q y):Tb h' b X L:=by
 obtain⟨m,H⟩:=H;exact⟨m,H.frame f a⟩
theorem Tb.on(H:Tb h b X L)(f:Fr No h h'):Tb h' b X L:=H.frame f cu
theorem Tb.lt(H:Tb h b X L)(y:Nat)(hy:X.M y\/X.D y):y<h.size:=by
 obtain⟨m,H⟩:=H;rcases hy with hy|hy
 .rcases(H.fm y).1 hy with rfl|rfl
  .exact aC H.cQ
  .exact H.map.lt
 .exact absurd hy (H.d y)
def ja(L:List Rg)(x:Ev):Option Rg:=L.find? (λr=>decide (r.e=x))
theorem Gq{x:Ev}{r:Rg}(h:ja L x=some r):r∈L/\r.e=x:=⟨List.mem_of_find?_eq_some h,cy (List.find?_some h)⟩
theorem Gr{x:Ev}:ja L x=none↔ ∀r∈L,r.e≠x:=by unfold ja;simp
theorem JK(L:List Rg)(x:Ev):rB (L.map Rg.pair) x=(ja L x).map Rg.val:=by
 unfold rB ja;rw[List.find?_map];cases h:L.find? ((λe:Ev×Value=>decide (e.1=x)) ∘ Rg.pair)with
 |none=>have:L.find? (λr=>decide (r.e=x))=none:=h;rw[this];rfl
 |some r=>have:L.find? (λr=>decide (r.e=x))=some r:=h;rw[this];rfl
def AI(r:Rg):List Rg->List Rg
 | []=> [r]
 |x::l=>if ka x.e r.e=true then x::AI r l else r::x::l
theorem qZ(r:Rg): ∀L:List Rg,(AI r L).Perm (r::L)
 | []=> .refl _
 |x::l=>by
  unfold AI;split
  .exact((qZ r l).cons x).trans (List.Perm.swap r x l)
  .exact .refl _
theorem Et{r x:Rg}:x∈AI r L↔x=r\/x∈L:=by rw[(qZ r L).mem_iff,bJ]
theorem Mi(r:Rg)(L:List Rg):(AI r L).length=L.length+1:=by rw[(qZ r L).length_eq];rfl
theorem Ik{r:Rg}: ∀{L:List Rg},L.Pairwise jT->(∀x∈L,x.e≠r.e)->(AI r L).Pairwise jT
 | [],_,_=>List.pairwise_singleton _ _
 |x::l,h,c=>by
  obtain⟨a,e⟩:=dK.1 h;unfold AI;split
  .rename_i H;refine dK.2 ⟨λy hy=> ?_,Ik e (λy hy=>c y (cp _ hy))⟩;rcases Et.1 hy with rfl|hy
   .exact H
   .exact a y hy
  .rename_i H;have d:ka r.e x.e=true:=(yK (c x bO)).resolve_left H;refine dK.2 ⟨λy hy=> ?_,h⟩;rcases bJ.1 hy with rfl|hy
   .exact d
   .exact sF d (a y hy)
def JL(L:List Rg)(x:Ev):List Rg:=L.filter (λr=> !decide (r.e=x))
def Gs(L:List Rg)(x:Ev)(p:Int):List Rg:=L.map (λr=>if r.e=x then { r with jA:=p } else r)
def ic(r:Rg):Bool:=cN r.e && (!decide (r.e=Ev.zero) && (decide (r.jA≥0) && decide (r.jA<=2) && (decide (r.own≥1) && decide (r.own<=1099511627776))))
def iK(L:List Rg)(r:Rg):Int:=if ic r=false then 1 else if(ja L r.e).isSome=true then 11 else if L.length≥8 then 15 else 0
def xB(L:List Rg)(r:Rg):List Rg:=if iK L r=0 then AI r L else L
def jg(L:List Rg)(x:Ev)(owner:Int):Int:=match ja L x with|none=>4|some r=>if r.own=owner then 0 else 13
def zu(L:List Rg)(x:Ev)(owner:Int):List Rg:=if jg L x owner=0 then JL L x else L
def JM(L:List Rg)(x:Ev)(owner p:Int):Int:=if 0<=p/\p<=2 then jg L x owner else 1
def Eu(L:List Rg)(x:Ev)(owner p:Int):List Rg:=if JM L x owner p=0 then Gs L x p else L
theorem zx(L:List Rg)(r:Rg):(ic r=false/\iK L r=1)\/(ic r=true/\(ja L r.e).isSome=true/\iK L r=11)\/(ic r=true/\ja L r.e=none/\L.length≥8/\iK L r=15)\/(ic r=true/\ja L r.e=none/\L.length<8/\iK L r=0):=by
 unfold iK;cases a:ic r with
 |false=>exact .inl ⟨rfl,bO⟩
 |true=>
  cases c:ja L r.e with
  |some x=>exact .inr (.inl ⟨rfl,rfl,bO⟩)
  |none=>
   by_cases H:L.length≥8
   .exact .inr (.inr (.inl ⟨rfl,rfl,H,by simp[H]⟩))
   .exact .inr (.inr (.inr ⟨rfl,rfl,af,by simp[H]⟩))
theorem fw(H:KW h b X L m)(hk:R (.bool true) h):Cl 130 #[.P b 0] h R:=xz.walk ⟨_,ak H.cQ,hk⟩
theorem gC(hk: ∀h' b X,Tb h' b X []->Ln h X h'->R (.P b 0) h'):Cl 36 #[] h R:=by
 refine Mh.walk (cG (cG ?_));have f1:Fr No h (h.push (.map #[] 0)):=Fr.push _ _;have M:=jc.push (α:=Ev) h kj;have z:(h.push (.map #[] 0)).size=h.size+1:=dD _;generalize h.push (.map #[] 0)=H at f1 M z⊢;have f2:Fr No H (H.push (.cells #[.map (some h.size)] 172)):=Fr.push _ _;refine hk _ H.size ⟨λc=>c=H.size\/c=h.size,λ_=>False⟩ ⟨h.size,bR,M.frame f2 id,λc=>eE,λ_=>id,af,.nil⟩ ⟨f1.tt f2,λc hc=> ?_⟩;rcases hc with hc|hc
 .rcases hc with rfl|rfl<;>omega
 .exact hc.elim
theorem wY{n:Int}(hk:R (.bool (decide (n≥0) && decide (n<=2))) h):Cl 149 #[.I n] h R:=by
 refine AH.walk ?_;by_cases q:n≥0
 .simp only[q,bu,bf,dP]at hk⊢;exact hk
 .simp only[q,bh,aq,aJ,eY]at hk⊢;exact hk
theorem fc(r:Rg)(hk: gU h R (.bool (ic r))):Cl 147 #[r.val] h R:=by
 refine Gp.walk (bp.box λb f e c f1=> ?_);have l: ∀{g:aj}{K:Bool->Int->Int->ByteArray->ByteArray->Prop},r.at g b->K r.e.jI r.e.node r.e.fX r.e.host r.e.jd->aw.LD g (AA b 0) K:=λH hk=>⟨_,ak H,_,ak H,_,ak H,_,ak H,_,ak H,hk⟩
 refine l c (iT.fc r.e λd f2=>⟨_,rfl,?_⟩);have a:=f2.get c id;have K:=hk d (f1.tt f2);unfold ic at K;by_cases q:cN r.e=true
 .rw[ag q];rw[q,dP]at K;refine l a ⟨_,tW (y:=.zero) (x:=r.e) rfl rfl,?_⟩;by_cases q1:r.e=.zero
  .rw[au q1,dj];rw[au q1]at K;exact K
  .rw[az q1,fY];rw[az q1,ee,dP]at K;refine⟨_,ak a,wY ⟨_,rfl,?_⟩⟩;by_cases q2:(decide (r.jA≥0) && decide (r.jA<=2))=true
   .rw[ag q2];rw[q2,dP]at K;refine⟨_,ak a,?_⟩;by_cases q3:r.own≥1
    .rw[ag (au q3)];rw[au q3,dP]at K;exact⟨_,ak a,K⟩
    .rw[ae (cy q3)];rw[az q3,eY]at K;exact K
   .rw[ae q2];have q2:(decide (r.jA≥0) && decide (r.jA<=2))=false:=by simpa using q2
    rw[q2,eY]at K;exact K
 .rw[ae q];have q:cN r.e=false:=by simpa using q
  rw[q,eY]at K;exact K
theorem Gt{g:aj}{b:Nat}{r:Rg}{K:Bool->Int->Int->ByteArray->ByteArray->Prop}(H:r.at g b)(hk:K r.e.jI r.e.node r.e.fX r.e.host r.e.jd):aw.LD g (AA b 0) K:=
 ⟨_,ak H,_,ak H,_,ak H,_,ak H,_,ak H,hk⟩
theorem look(H:KW h b X L m)(x:Ev):gW Tryz.prog 170 (.map (some m)) (kj x) true h (.tuple #[((ja L x).getD .zero).val,.bool (ja L x).isSome]):=by
 have:=Jo mq H.map x;rw[JK]at this;cases a:ja L x with
 |none=>rw[a]at this;exact this
 |some r=>rw[a]at this;exact this
theorem Fr.put{H a d:aj}{c:Nat}(f:Fr No H a)(k:d.size=a.size)(i: ∀x,x≠c->d[x]? =a[x]?)(j:H.size<=c):Fr No H d:=
 f.fresh (S:=λy=>y=c) ⟨af,λy _ g=>i y g⟩ (λy e=>af)
theorem iJ(H:Tb h b X L)(x:Ev)(hk: gU h R (.tuple #[((ja L x).getD .zero).val,.bool (ja L x).isSome])):
  Cl 155 #[.P b 0,kj x] h R:=by
 obtain⟨m,H⟩:=H;refine xA.walk (aw.box λb1 n e1 c f1=>bp.box λB p e2 d f2=> ?_);have f12:=f1.tt f2;have c:=f2.get c id;have a:=H.on f12;refine fw a ⟨_,rfl,?_⟩;rw[dj];refine⟨_,ak a.cQ,aw.ld c ⟨_,_,_,_,_,_,_,_,look a x,bp.box λf q E k f3=> ?_⟩⟩;refine⟨f3.2 m a.map.lt id,aw.held (f3.get c id),ak (f3.get a.cQ id),bp.set k λg A s o=>bp.ld A ?_⟩;have j:(Rg.zero).at g B:=by
  have:=f3.get d id;have l:B≠f:=by have:=aC d;omega
  unfold Rg.at bp.at;rw[o B l];exact this
 have z:=f12.1;have Z:=f3.1;refine bp.set j λi e S O=>bp.ld e (hk i ?_)
 exact Fr.put (Fr.put (f12.tt f3) s o af) S O (bX f1.1)
theorem vJ(H:Tb h b X L)(x:Ev)(owner:Int)(hk: gU h R (.tuple #[(if jg L x owner=0 then(ja L x).getD .zero else .zero).val,.I (jg L x owner)])):
  Cl 148 #[.P b 0,kj x,.I owner] h R:=by
 obtain⟨m,H⟩:=H;refine zq.walk (aw.box λb1 u e1 f f1=>bp.box λB v e2 l f2=> ?_);have f12:=f1.tt f2;have f:=f2.get f id;have c:=H.on f12;refine fw c ⟨_,rfl,?_⟩;rw[dj];refine⟨_,ak c.cQ,aw.ld f ⟨_,_,_,_,_,_,_,_,look c x,bp.box λn w t p f3=> ?_⟩⟩;refine⟨f3.2 m c.map.lt id,aw.held (f3.get f id),ak (f3.get c.cQ id),bp.set p λj i S O=> ?_⟩;have k:(Rg.zero).at j B:=by
  have:=f3.get l id;have q:B≠n:=by have:=aC l;omega
  unfold Rg.at bp.at;rw[O B q];exact this
 have z:=f1.1;have Z:=f2.1;have F:=Fr.put (f12.tt f3) S O af;have fin: ∀(r:Rg)(e:Int),(if jg L x owner=0 then(ja L x).getD .zero else .zero)=r->jg L x owner=e->∀a,r.at a B->a.size=j.size->(∀y,y≠B->a[y]? =j[y]?)->R (.tuple #[r.val,.I e]) a:=by
  intro r e e1 e2 a _ s o;rw[<-e1,<-e2];exact hk a (Fr.put F s o af)
 cases d:ja L x with
 |none=>
  have E:jg L x owner=4:=by unfold jg;rw[d]
  rw[ag (by rfl)];exact bp.set k λa A s o=>bp.ld A (fin .zero 4 (by rw[E,dj]) E a A s o)
 |some r=>
  rw[d]at i;rw[ae bO];refine⟨_,ak i,?_⟩;by_cases g:r.own=owner
  .have E:jg L x owner=0:=by unfold jg;rw[d];exact ag g
   rw[ae (cy g)];exact bp.ld i (bp.set k λa A s o=>bp.ld A (fin r 0 (by rw[E,ag rfl,d];rfl) E a A s o))
  .have E:jg L x owner=13:=by unfold jg;rw[d];exact ae g
   rw[ag (cy g)];exact bp.set k λa A s o=>bp.ld A (fin .zero 13 (by rw[E,dj]) E a A s o)
theorem KW.put{l:List Rg}{a:aj}(H:KW h b X L m)(M:jc a m kj (l.map Rg.pair))(i:a.size=h.size)(d: ∀c,c≠m->a[c]? =h[c]?)(so:l.Pairwise jT):KW a b X l m/\bG X h X a:=by
 have f:Fr X.M h a:=⟨af,λc _ g=>d c (λe=>g ((H.fm c).2 (.inr e)))⟩;refine⟨⟨?_,M,H.fm,H.d,H.ne,so⟩,bG.tL f⟩;rw[d b H.ne];exact H.cQ
theorem Gu{L:List Rg}(so:L.Pairwise jT):(L.map Rg.e).Nodup:=by
 unfold List.Nodup;rw[dT];refine so.imp fun {x y} H e=> ?_
 rw[jT,e,mQ]at H;cases H
theorem Ew(L:List Rg)(x:Ev):vo (L.map Rg.pair) x=(JL L x).map Rg.pair:=by
 unfold vo JL;rw[dE];rfl
theorem Ou{x:Ev}(so:L.Pairwise jT):(JL L x).Pairwise jT:=so.sublist cJ
theorem Ov{x:Ev}{p:Int}(so:L.Pairwise jT):(Gs L x p).Pairwise jT:=by
 unfold Gs;rw[dT];refine so.imp fun {u v} H=> ?_
 have e: ∀r:Rg,(if r.e=x then { r with jA:=p } else r:Rg).e=r.e:=λr=>by split<;>rfl
 show ka _ _=true;rw[e,e];exact H
theorem Ex{x:Ev}{p:Int}{r:Rg}: ∀{L:List Rg},L.Pairwise jT->r∈L->r.e=x->(Gs L x p).Perm ({ r with jA:=p } ::JL L x)
 | [],_,h,_=>by cases h
 |y::l,so,h,e=>by
  obtain⟨a,f⟩:=dK.1 so;unfold Gs JL;rw[bW,bZ];rcases bJ.1 h with rfl|h
  .rw[ag e,ae (by simp[e])];refine List.Perm.cons _ ?_;have c: ∀z∈l,z.e≠x:=λz H e2=>by
    have:=a z H;rw[jT,e,e2,mQ]at this;cases this
   have e1:l.map (λr=>if r.e=x then({ r with jA:=p } :Rg)else r)=l:=by
    conv=>rhs;rw[<-List.map_id l]
    exact dN (λz H=>ae (c z H))
   have e2:l.filter (λr=> !decide (r.e=x))=l:=by
    rw[cd];intro z H;simp[c z H]
   rw[e1,e2]
  .have d:y.e≠x:=λe2=>by
    have:=a r h;rw[jT,e,e2,mQ]at this;cases this
   rw[ae d,ag (by simp[d])];exact((Ex f h e).cons y).trans (List.Perm.swap _ _ _)
theorem zh(H:Tb h b X L)(r:Rg)(K:L.length<=8)(hk: ∀h',Tb h' b X (xB L r)->bG X h X h'->R (.I (iK L r)) h'):
  Cl 97 #[.P b 0,r.val] h R:=by
 obtain⟨m,H⟩:=H;refine zp.walk (bp.box λb1 I e1 f f1=> ?_);have d:=H.on f1;refine fw d ⟨_,rfl,?_⟩;rw[dj];refine⟨_,ak d.cQ,Gt (r:=r) f ⟨_,_,_,_,_,_,_,_,look d r.e,bp.box λB J G u f3=> ?_⟩⟩;have l:=f3.get f id;refine⟨f3.2 m d.map.lt id,gA l (λj v a=> ?_),ak (f3.get d.cQ id),bp.set u λt D S O=> ?_⟩
 .rw[bC]
  match j,a with
  |0,a=>simpa using a
  |1,a=>simpa using a
  |2,a=>simpa using a
  |3,a=>simpa using a
  |4,a=>simpa using a
 have Z:=f1.1;have q:=Fr.put (f1.tt f3) S O af;have n:r.at t b1:=by
  have x:b1≠B:=by have:=aC f;omega
  unfold Rg.at bp.at;rw[O b1 x];exact l
 refine bp.ld n (fc r λg f5=>⟨_,rfl,?_⟩);have F:=q.tt f5;have c:=H.on F;have o:=f5.get n id;have mi:xB L r=L->R (.I (iK L r)) g:=λe=>hk g (by rw[e];exact⟨m,c⟩) (bG.im F)
 rcases zx L r with⟨q1,q2⟩|⟨q1,q3,q2⟩|⟨q1,q3,q4,q2⟩|⟨q1,q3,q4,q2⟩
 .rw[q1,fY];rw[q2]at mi;exact mi (by unfold xB;rw[q2];rfl)
 .rw[q1,dj,ag q3];rw[q2]at mi;exact mi (by unfold xB;rw[q2];rfl)
 .rw[q1,dj,ae (by rw[q3];simp)];refine⟨_,ak c.cQ,_,Cu mq c.map,?_⟩;rw[aF,fY];rw[q2]at mi;exact mi (by unfold xB;rw[q2];rfl)
 .rw[q1,dj,ae (by rw[q3];simp)];refine⟨_,ak c.cQ,_,Cu mq c.map,?_⟩;rw[aF,ae (by simp;omega)];refine⟨_,ak c.cQ,Gt (r:=r) o (bp.ld o (yr mq c.map (k:=r.e) λi M C A=> ?_))⟩;have E:xB L r=AI r L:=ag q2;have p:=Gr.1 q3;have M:jc i m kj ((AI r L).map Rg.pair):=by
   refine M.perm ?_;unfold DS;rw[qT (λe w=>by obtain⟨y,z,rfl⟩:=bg.1 w;exact p y z)];exact((qZ r L).map Rg.pair).symm
  obtain⟨s,st⟩:=c.put M C A (Ik c.so p);rw[E,q2]at hk;exact hk i ⟨m,s⟩ (bG.no F st)
theorem nV(H:Tb h b X L)(x:Ev)(owner:Int)(hk: ∀h',Tb h' b X (zu L x owner)->bG X h X h'->R (.I (jg L x owner)) h'):
  Cl 98 #[.P b 0,kj x,.I owner] h R:=by
 refine uy.walk (aw.box λb1 j e1 d f1=>aw.ld d (vJ (H.on f1) x owner λl f2=>⟨_,_,_,_,_,_,_,_,rfl,bp.new λB f E n f3=>aG.of λJ c=> ?_⟩));have F:=f1.tt (f2.tt f3);have i:=(f2.tt f3).get d id;obtain⟨m,H⟩:=H;have a:=H.on F;by_cases q:jg L x owner=0
 .rw[ag (cy q)];refine⟨_,ak a.cQ,aw.ld i (DU mq a.map (k:=x) λg M s o=>⟨rfl,?_⟩)⟩;subst c;rw[Ew]at M;obtain⟨e,st⟩:=a.put M s o (Ou a.so);exact hk g (by unfold zu;rw[ag q];exact⟨m,e⟩) (bG.no F st)
 .rw[ae (cy q)];subst c;exact hk f (by unfold zu;rw[ae q];exact⟨m,a⟩) (bG.im F)
theorem JN(H:Tb h b X L)(x:Ev)(owner p:Int)(hk: ∀h',Tb h' b X (Eu L x owner p)->bG X h X h'->R (.I (JM L x owner p)) h'):
  Cl 100 #[.P b 0,kj x,.I owner,.I p] h R:=by
 refine uz.walk (aw.box λb1 a e1 f f1=>aG.of λJ c=> ?_);have u:=H;obtain⟨m,H⟩:=H;have i:=H.on f1;refine fw i ⟨_,rfl,?_⟩;rw[ag rfl];refine wY ⟨_,rfl,?_⟩;subst c;by_cases Q:0<=p/\p<=2
 .have E:(decide (p≥0) && decide (p<=2))=true:=by simp[Q.1,Q.2]
  have e:JM L x owner p=jg L x owner:=ag Q;rw[E];dsimp only;rw[dj];refine aw.ld f (vJ (u.on f1) x owner λj f2=>⟨_,_,_,_,_,_,_,_,rfl,bp.new λB y P o f3=>aG.of λJ c=> ?_⟩);have F:=f1.tt (f2.tt f3);have z:=(f2.tt f3).get f id;have v:=H.on F;rw[e]at hk;by_cases q:jg L x owner=0
  .rw[ag (cy q)];obtain⟨r,s⟩: ∃r,ja L x=some r:=by
    cases D:ja L x with
    |none=>unfold jg at q;rw[D]at q;cases q
    |some r=>exact⟨r,rfl⟩
   rw[ag q,s]at o;obtain⟨I,t⟩:=Gq s;refine bH o bO λl A S O=> ?_
   have Z:=f1.1;have T:=f2.1;have g:=Fr.put F S O af;have d:=H.on g;have C:Ev.at l b1 x:=by
    have G:b1≠B:=by have:=aC f;omega
    unfold Ev.at aw.at;rw[O b1 G];exact z
   have A:({ r with jA:=p } :Rg).at l B:=A;refine⟨_,ak d.cQ,aw.ld C (bp.ld A (yr mq d.map (k:=x) λn M N K=> ?_))⟩;have M:jc n m kj ((Gs L x p).map Rg.pair):=by
    refine M.perm ?_;unfold DS;rw[Ew];have:=((Ex (p:=p) H.so I t).map Rg.pair).symm;rw[bW]at this;have e2:(x,({ r with jA:=p } :Rg).val)=({ r with jA:=p } :Rg).pair:=by rw[<-t]
    rw[show((x,Value.agg #[.bool r.e.jI,.U r.e.node,.U r.e.fX,.string r.e.host,.string r.e.jd,.I p,.I r.own]):Ev×Value)=({ r with jA:=p } :Rg).pair from e2];exact this
   obtain⟨w,st⟩:=d.put M N K (Ov H.so);subst c;exact hk n (by unfold Eu;rw[e,ag q];exact⟨m,w⟩) (bG.no g st)
  .rw[ae (cy q)];subst c;exact hk y (by unfold Eu;rw[e,ae q];exact⟨m,v⟩) (bG.im F)
 .have E:(decide (p≥0) && decide (p<=2))=false:=by
   rw[Bool.and_eq_false_iff];by_cases a:p≥0
   .exact .inr (az (λj=>Q ⟨a,j⟩))
   .exact .inl (az a)
  have e:JM L x owner p=1:=ae Q;rw[E];dsimp only;rw[fY];rw[e]at hk;exact hk a (by unfold Eu;rw[e,dj];exact⟨m,i⟩) (bG.im f1)
end gg
end
end Go.Proofs.YtlenamcfacpheaaGreatDoor
