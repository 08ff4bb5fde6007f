/-
  EI is proved here: parts of w5 proof, one behind w5 other (texts of this work, merged by a program; Iy w5 theorem Iz not use is left out). No condition.
-/
import Derived.Test.YtlenamcfacpheaaGreatDoorMAsesb
set_option maxRecDepth 100000
set_option maxHeartbeats 4000000
namespace Go.Proofs.YtlenamcfacpheaaGreatDoor
open Go.Den
open IntKind (wrap)
open Int (toNat)
section
open Go.jC
namespace bR
variable {h:ai} {a m cap:Nat} {p:cj} {es:List E} {g:Int→Option Value} {R:fx}
variable {q i b:Nat}
theorem Qz(H:q<1000000):IntKind.wrap .i64 (Int.tdiv (IntKind.wrap .i64 ((q:Int) - 1)) 2)=(((q - 1)/2:Nat):Int):=by
 rw[bz (n:=(q:Int) - 1) ae ae];cases q with
 |zero=>decide
 |succ n=>
  rw[show((n+1:Nat):Int) - 1=(n:Int) by omega,show n+1 - 1=n from rfl];have:Int.tdiv (n:Int) 2=((n/2:Nat):Int):=by
   rw[Int.tdiv_eq_ediv_of_nonneg ae];omega
  rw[this];exact bz ae ae
theorem NI(H:q<1000000):IntKind.wrap .i64 (IntKind.wrap .i64 (2*(q:Int))+1)=((2*q+1:Nat):Int):=by
 rw[bz (n:=2*(q:Int)) ae ae,bz ae ae];omega
theorem NJ(H:q<1000000):IntKind.wrap .i64 (IntKind.wrap .i64 (2*(q:Int))+2)=((2*q+2:Nat):Int):=by
 rw[bz (n:=2*(q:Int)) ae ae,bz ae ae];omega
theorem G0{K:ai->Prop}(M:Mem h a p cap m es g)(u:gZ es g){j B:Nat}(f:i<es.length)(k:j<es.length)(y:i≠j)(d:h[b]? =some (.cells #[.I (at_ es i).1,.U (at_ es i).2] 193 (0,0)))(x:h[B]? =some (.cells #[.I (at_ es j).1,.U (at_ es j).2] 193 (0,0)))(N: ¬inner p m B)(hk: ∀h' G,Mem h' a p cap m (oE es i j) G->gZ (oE es i j) G->Fr (inner p m) h h'->K h'):
  aO (some ((AA b 0):Addr)) λA=>
   ∃(t:Int),aB h A=some (.I t)/\∃(T:Int),aB h (A.add 1)=some (.U T)/\
   ar Tryz.prog 116 #[.P a 0,.I (j:Int),.agg #[.I t,.U T]] h λv H=>
   v=.tuple #[]/\
   aO (some ((AA B 0):Addr)) λc=>
   ∃(l:Int),aB H c=some (.I l)/\∃(n:Int),aB H (c.add 1)=some (.U n)/\
   ar Tryz.prog 116 #[.P a 0,.I (i:Int),.agg #[.I l,.U n]] H λV w=>
   V=.tuple #[]/\K w:=by
 refine ay.2 ⟨_,aw d,_,by rw[gl];exact aw d,?_⟩;refine uw M k λz o f4=>⟨rfl,ay.2 ?_⟩
 have e:=f4.get x N;refine⟨_,aw e,_,by rw[gl];exact aw e,?_⟩;refine uw o (by rw[du];exact f) λs r f5=>⟨rfl,hk s _ r (u.swap f k y) (Fr.tt f4 f5)⟩
def Vz(H:ai)(a:Nat)(p:cj)(cap m:Nat)(e:List E)(i0:Nat)(i:Int)(h:ai):Prop:=
 ∃es g q,i=((q:Nat):Int)/\q<e.length/\es.length=e.length/\Mem h a p cap m es g/\gZ es g/\es.Perm e/\rQ (at_ es) e.length q/\
  ((q=i0/\es=e)\/xP (at_ es) e.length q)/\at_ es q=at_ e i0/\Fr (inner p m) H h
theorem G1(M:Mem h a p cap m es g)(K:gZ es g)(T:i<es.length)(hn:es.length<1000000)(ex:rQ (at_ es) es.length i)(hk: ∀h' E G q,Mem h' a p cap m E G->gZ E G->E.Perm es->E.length=es.length->q<es.length->at_ E q=at_ es i->rR (at_ E) es.length q->(xP (at_ es) es.length i->pC (at_ E) es.length)->Fr (inner p m) h h'->R (.tuple #[]) h'):
  ar Tryz.prog 117 #[.P a 0,.I (i:Int)] h R:=by
 refine xO.walk ⟨Vz h a p cap m es i,λi _=>i.toNat,⟨es,g,i,rfl,T,rfl,M,K,.refl _,ex,.inl ⟨rfl,rfl⟩,rfl,Fr.refl _ _⟩,?_⟩;rintro i1 r ⟨e,B,q,rfl,v,u,c,P,x,o,kd,t,fr⟩;rw[Qz ae];refine aK.of λJ s=> ?_
 have j:q<e.length:=ae
 have H:(q - 1)/2<e.length:=ae
 have S: ∀l,Fr No r l->(q=0\/le (at_ e ((q - 1)/2)) (at_ e q))->J false l:=by
  intro l f U;subst s;simp only[au,aN];have hd:=NG o U;refine hk l e B q (c.calm f) P x u v t hd (λV=> ?_) (Fr.on fr f);rcases kd with⟨e1,e2⟩|kd
  .subst e1 e2;exact od hd V
  .exact od hd kd
 by_cases D:q=0
 .subst D;exact S r (Fr.refl _ _) (.inl rfl)
 .have Q:(q:Int)>0:=ae
  simp only[Q,bA,bh,aI];obtain⟨X,rfl⟩:=c.some ae;refine⟨_,_,_,c.hd,⟨ae,ae⟩,ay.2 ⟨_,c.c0 j,_,c.c1 j,_,_,_,c.hd,⟨ae,ae⟩,ay.2 ⟨_,c.c0 H,_,c.c1 H,sV λl f=>⟨_,rfl,(c.calm f).hd,(c.calm f).hd,?_⟩⟩⟩⟩;by_cases n:lt (at_ e q) (at_ e ((q - 1)/2))
  .rw[show decide (lt ((at_ e q).1,(at_ e q).2) ((at_ e ((q - 1)/2)).1,(at_ e ((q - 1)/2)).2))=true from aq n];subst s;simp only[bh,aI];have d:=c.calm f;refine aK.of λW I=> ?_
   refine⟨_,_,_,d.hd,⟨ae,ae⟩,ay.2 ⟨_,d.c0 j,_,d.c1 j,_,_,_,d.hd,⟨ae,ae⟩,ay.2 ⟨_,d.c0 H,_,d.c1 H,?_⟩⟩⟩;refine O3 (λh' F=> ?_) (λb Y h' L N sb a' F=> ?_)
   .have k:=d.calm F;exact⟨⟨k.c0 H,k.c1 H,trivial⟩,k.hd,⟨k.c0 j,k.c1 j,trivial⟩,k.hd⟩
   .subst I;have y:=d.calm F;refine G0 y P j H ae L N (λO=> ?_) λZ C z A f5=>⟨⟨oE e q ((q - 1)/2),C,(q - 1)/2,rfl,ae,by rw[uv];exact u,z,A,(rT j H).trans x,?_⟩,?_⟩
    .have:=d.lt (.inr O);omega
    .have w:=NH o ae v rfl n;rw[Ax j H];refine⟨w.1,.inr w.2,?_,Fr.tt fr (Fr.no f (Fr.no F f5))⟩;rw[<-t];unfold mW;rw[cW,af rfl]
    .show Int.toNat (((q - 1)/2:Nat):Int)<Int.toNat (q:Int);rw[aI,aI];omega
  .rw[show decide (lt ((at_ e q).1,(at_ e q).2) ((at_ e ((q - 1)/2)).1,(at_ e ((q - 1)/2)).2))=false from az n];exact S l f (.inr n)
theorem K8{J:Int->ai->Prop}(M:Mem h a p cap m es g){c:Nat}(y:b<es.length)(N:es.length<=c->J b h)(O:c<es.length->lt (at_ es c) (at_ es b)->∀h',Fr No h h'->J c h')(P:c<es.length->¬lt (at_ es c) (at_ es b)->∀h',Fr No h h'->J b h'):
  aK (λ(t43:Bool) (x:ai)=>
   aK (λ(K:Int) (L:ai)=>
    J K L)
   (λr=>
    if t43=true then
     r (c:Int) x
    else
     r (b:Int) x))
  (λo=>
   ∃(B:cj)(t z:Nat),aB h (AA a 0)=some (.slice B t z)/\
   if(decide ((c:Int)<(t:Int)))=true then
    ∃(k:cj)(T C:Nat),aB h (AA a 0)=some (.slice k T C)/\
    ((0:Int)<=(c:Int)/\(c:Int)<(T:Int))/\
    aO k λA=>
    ∃(D:Int),aB h (A.add (Int.toNat (c:Int)*2))=some (.I D)/\∃(E:Int),aB h ((A.add (Int.toNat (c:Int)*2)).add 1)=some (.U E)/\
    ∃(n:cj)(l F:Nat),aB h (AA a 0)=some (.slice n l F)/\
    ((0:Int)<=(b:Int)/\(b:Int)<(l:Int))/\
    aO n λs=>
    ∃(G:Int),aB h (s.add (Int.toNat (b:Int)*2))=some (.I G)/\∃(I:Int),aB h ((s.add (Int.toNat (b:Int)*2)).add 1)=some (.U I)/\
    ar Tryz.prog 170 #[.agg #[.I D,.U E],.agg #[.I G,.U I]] h λv H=>
    ∃(t42:Bool),v=.bool t42/\
    aB H (AA a 0)=some (.slice n l F)/\
    aB H (AA a 0)=some (.slice k T C)/\
    aB H (AA a 0)=some (.slice B t z)/\
    o t42 H
   else
    o false h):=by
 refine aK.of λQ w=>⟨_,_,_,M.hd,?_⟩
 by_cases d:c<es.length
 .have j:(c:Int)<(es.length:Int):=ae
  simp only[j,bA,bh,aI];obtain⟨S,rfl⟩:=M.some ae;refine⟨_,_,_,M.hd,⟨ae,ae⟩,ay.2 ⟨_,M.c0 d,_,M.c1 d,_,_,_,M.hd,⟨ae,ae⟩,ay.2 ⟨_,M.c0 y,_,M.c1 y,sV λu f=>⟨_,rfl,(M.calm f).hd,(M.calm f).hd,(M.calm f).hd,?_⟩⟩⟩⟩;subst w;by_cases e:lt (at_ es c) (at_ es b)
  .rw[show decide (lt ((at_ es c).1,(at_ es c).2) ((at_ es b).1,(at_ es b).2))=true from aq e];simp only[bh,aK];exact O d e u f
  .rw[show decide (lt ((at_ es c).1,(at_ es c).2) ((at_ es b).1,(at_ es b).2))=false from az e];simp only[au,aN,aK];exact P d e u f
 .have j: ¬(c:Int)<(es.length:Int):=ae
  subst w;simp only[j,bk,au,aN,aK];exact N ae
def VA(H:ai)(a:Nat)(p:cj)(cap m:Nat)(e:List E)(i:Int)(h:ai):Prop:=
 ∃es g q,i=((q:Nat):Int)/\q<e.length/\es.length=e.length/\Mem h a p cap m es g/\gZ es g/\es.Perm e/\rR (at_ es) e.length q/\Fr (inner p m) H h
def TA(H:ai)(es:List E)(q:Nat)(B t:Int)(h:ai):Prop:=
 ∃b k:Nat,B=b/\t=k/\k<=2/\b<es.length/\Fr No H h/\(b≠q->(b - 1)/2=q/\0<b/\lt (at_ es b) (at_ es q))/\∀c,0<c->c<es.length->c<=2*q+k->(c - 1)/2=q->le (at_ es b) (at_ es c)
theorem G2(M:Mem h a p cap m es g)(hP:gZ es g)(hi:i<es.length)(hn:es.length<1000000)(ex:rR (at_ es) es.length i)(hk: ∀h' E G,Mem h' a p cap m E G->gZ E G->E.Perm es->E.length=es.length->pC (at_ E) es.length->Fr (inner p m) h h'->R (.tuple #[]) h'):
  ar Tryz.prog 169 #[.P a 0,.I (i:Int)] h R:=by
 refine uo.walk ⟨VA h a p cap m es,λi _=>es.length - i.toNat,⟨es,g,i,rfl,hi,rfl,M,hP,.refl _,ex,Fr.refl _ _⟩,?_⟩;rintro i1 I ⟨y,X,q,rfl,hq,N,Q,P,O,D,fr⟩;have r:q<y.length:=ae
 rw[NI ae,NJ ae];refine⟨TA I y q,λ_ t _=>2 - t.toNat,⟨q,0,rfl,rfl,ae,r,Fr.refl _ _,λA=>absurd rfl A,λc I K z h4=>ae⟩,?_⟩;rintro d' t K ⟨b,k,rfl,rfl,g',H,f2,s,w⟩;have d:=Q.calm f2;by_cases i':k<2
 .have a':(k:Int)<2:=ae
  simp only[a',bA,bh];rw[bz (n:=(k:Int)+1) ae ae];refine aK.of λc' L=>⟨⟨ae,ae⟩,λe'=> ?_,λf'=> ?_,trivial⟩
  .obtain rfl:k=0:=ae
   refine K8 d H (λl=> ?_) (λl f z f3=> ?_) (λl f z f3=> ?_)<;>subst L<;>refine⟨?_,bM⟩
   .exact⟨b,1,rfl,rfl,ae,H,f2,s,λc c1 C v o=>ae⟩
   .refine⟨2*q+1,1,rfl,rfl,ae,l,Fr.tt f2 f3,λ_=>⟨ae,ae,?_⟩,λc c1 C v o=> ?_⟩
    .by_cases e:b=q
     .rw[<-e];exact e▸f
     .exact lt_trans f (s e).2.2
    .have:c=2*q+1:=ae
     subst this;exact le_refl _
   .refine⟨b,1,rfl,rfl,ae,H,Fr.tt f2 f3,s,λc c1 C v o=> ?_⟩;have:c=2*q+1:=ae
    subst this;exact f
  .obtain rfl:k=1:=ae
   refine K8 d H (λl=> ?_) (λl f z f3=> ?_) (λl f z f3=> ?_)<;>subst L<;>refine⟨?_,bM⟩
   .exact⟨b,2,rfl,rfl,ae,H,f2,s,λc c1 C v o=>w c c1 C ae o⟩
   .refine⟨2*q+2,2,rfl,rfl,ae,l,Fr.tt f2 f3,λ_=>⟨ae,ae,?_⟩,λc c1 C v o=> ?_⟩
    .by_cases e:b=q
     .rw[<-e];exact e▸f
     .exact lt_trans f (s e).2.2
    .by_cases e:c=2*q+2
     .subst e;exact le_refl _
     .exact le_trans (le_of_lt f) (w c c1 C ae o)
   .refine⟨b,2,rfl,rfl,ae,H,Fr.tt f2 f3,s,λc c1 C v o=> ?_⟩;by_cases e:c=2*q+2
    .subst e;exact f
    .exact w c c1 C ae o
 .obtain rfl:k=2:=ae
  simp only[show¬((2:Nat):Int)<2 by omega,bk,au,aN];by_cases e:b=q
  .subst e;simp only[bne_self_eq_false,au,aN];refine hk K y X d P O N (od D λj J j2 B=>w j J ae ae B) (Fr.on fr f2)
  .obtain⟨b1,V,W⟩:=s e;have A:((b:Int) !=(q:Int))=true:=by simp;omega
   simp only[A,bh,aI];obtain⟨ad,rfl⟩:=d.some ae;refine aK.of λJ1 Z=> ?_
   refine⟨_,_,_,d.hd,⟨ae,ae⟩,ay.2 ⟨_,d.c0 r,_,d.c1 r,_,_,_,d.hd,⟨ae,ae⟩,ay.2 ⟨_,d.c0 H,_,d.c1 H,?_⟩⟩⟩;refine O3 (λh' F=> ?_) (λx x' h' hx b' sx j' F=> ?_)
   .have u:=d.calm F;exact⟨⟨u.c0 H,u.c1 H,trivial⟩,u.hd,⟨u.c0 r,u.c1 r,trivial⟩,u.hd⟩
   .subst Z;have S:=d.calm F;refine G0 S P r H (λx=>e x.symm) hx b' (λl=> ?_) λh5 Y T U f5=>⟨⟨oE y q b,Y,b,rfl,ae,by rw[uv];exact N,T,U,(rT r H).trans O,?_,Fr.tt fr (Fr.no f2 (Fr.no F f5))⟩,?_⟩
    .have:=d.lt (.inr l);omega
    .rw[Ax r H];exact I5 D b1 V ae W λj J j2 B=>w j J ae ae B
    .show es.length - Int.toNat (b:Int)<es.length - Int.toNat (q:Int);rw[aI,aI];omega

end bR
end
end Go.Proofs.YtlenamcfacpheaaGreatDoor
namespace Go.jC
section
variable {es l:List E} {n i j:Nat} {x:E} {g:Int->Option Value}
theorem Ay(H:es.length=n+1):es=es.take n++ [at_ es n]:=by
 have h:n<es.length:=ae
 rw[mD h];have:=List.take_append_getElem h;rw[this,bG ae]
theorem BJ(h:i<n):at_ (es.take n) i=at_ es i:=by
 unfold at_;rw[aX,aX,cI,af h]
theorem ux :at_ (es++ [x]) i=if i<es.length then at_ es i else if i=es.length then x else(0,0):=by
 unfold at_;rw[aX,aX];by_cases h:i<es.length
 .rw[cN h,af h]
 .rw[cH ae,ag h];by_cases e:i=es.length
  .subst e;simp
  .rw[ag e,dh (by simp;omega)];rfl
theorem mem_keys{k:Int}(h:k∈keys es): ∃j,j<es.length/\(at_ es j).1=k:=by
 obtain⟨e,b,rfl⟩:=bg.1 h;obtain⟨j,H⟩:=bx b;have a:=(aC.1 H).1;rw[GX a]at H;exact⟨j,a,bY Prod.fst (bn H)⟩
theorem at_mem(h:j<es.length):at_ es j∈es:=by rw[mD h];exact dC h
theorem keys_perm{L:List E}(h:l.Perm L):(keys l).Perm (keys L):=h.map _
def cut(es:List E)(n j:Nat):List E:=if j<n then(es.take n).set j (at_ es n)else es.take n
theorem Dy(a:es.length=n+1)(c:j<es.length):es.Perm (at_ es j::cut es n j):=by
 unfold cut;have d:(es.take n).length=n:=by rw[bF];omega
 split
 .rename_i h;have H:j<(es.take n).length:=ae
  have e1:at_ es j=(es.take n)[j]:=by rw[<-BJ h,mD H]
  have p:es.Perm (at_ es n::es.take n):=by
   have:es.Perm (es.take n++ [at_ es n]):=by rw[<-Ay a]
   exact this.trans (dD _ _)
  have P:(es.take n).Perm (at_ es j::((es.take n).take j++(es.take n).drop (j+1))):=by
   rw[e1];have e2:es.take n=(es.take n).take j++(es.take n)[j]::(es.take n).drop (j+1):=by rw[<-cF H,List.take_append_drop]
   have e:(es.take n).Perm ((es.take n).take j++(es.take n)[j]::(es.take n).drop (j+1)):=List.Perm.of_eq e2;exact e.trans List.perm_middle
  have b:((es.take n).set j (at_ es n)).Perm (at_ es n::((es.take n).take j++(es.take n).drop (j+1))):=by
   rw[List.set_eq_take_append_cons_drop,af H];exact List.perm_middle
  exact p.trans ((P.cons _).trans ((List.Perm.swap _ _ _).trans (b.symm.cons _)))
 .have:j=n:=ae
  subst this;have:es.Perm (es.take j++ [at_ es j]):=by rw[<-Ay a]
  exact this.trans (dD _ _)
theorem K9(c:es.length=n+1)(b:j<es.length)(hd:(keys es).Nodup)(d:es.Perm l):(cut es n j).Perm (fk l (at_ es j).1):=by
 have h:=Dy c b;have hk:(at_ es j).1∉keys (cut es n j):=by
  have:=(keys_perm h).nodup_iff.1 hd;exact(en.1 this).1
 have H:=Fi (h.symm.trans d) (at_ es j).1;have a:fk (at_ es j::cut es n j) (at_ es j).1=cut es n j:=by
  have:fk (at_ es j::cut es n j) (at_ es j).1=fk (cut es n j) (at_ es j).1:=by
   unfold fk;rw[bU];simp
  rw[this,jw hk]
 rw[a]at H;exact H
theorem BK(h:es.length=n+1):(cut es n j).length=n:=by
 unfold cut;split
 .rw[du,bF];omega
 .rw[bF];omega
theorem oh(a:es.length=n+1)(h:i<n):at_ (cut es n j) i=if i=j then at_ es n else at_ es i:=by
 have H:(es.take n).length=n:=by rw[bF];omega
 unfold cut;split
 .rw[Ff ae,BJ h]
 .rw[BJ h,cW]
theorem I6(h:gZ es g)(a:es.length=n+1)(f:j<es.length):
  gZ (cut es n j) (λk=>if j<n then(if k=(at_ es n).1 then some (.I j)else if k=(at_ es j).1 then none else g k)else if k=(at_ es j).1 then none else g k):=by
 obtain⟨b,o,p⟩:=h;have m:=keys_perm (Dy a f);have s:=m.nodup_iff.1 b;refine⟨(en.1 s).2,λi c=> ?_,λk hk=> ?_⟩
 .rw[BK a]at c;rw[oh a c];by_cases e:i=j
  .subst e;simp[c]
  .rw[ag e];have n1:(at_ es i).1≠(at_ es n).1:=λx=>by have:=key_inj b ae ae x;omega
   have n2:(at_ es i).1≠(at_ es j).1:=λx=>e (key_inj b ae f x)
   simp[n1,n2,o i ae]
 .have d: ∀k,k∉(cut es n j).map (·.1)->k≠(at_ es j).1->g k=none:=λk hk t=>by
   refine p k λr=> ?_
   rcases bD.1 (m.mem_iff.1 r)with e|e
   .exact t e
   .exact hk e
  by_cases H:j<n
  .have q:(at_ es n).1∈(cut es n j).map (·.1):=by
    have:=at_mem (es:=cut es n j) (j:=j) (by rw[BK a];exact H);rw[oh a H,af rfl]at this;exact br this
   have n1:k≠(at_ es n).1:=λe=>hk (e▸q)
   by_cases e:k=(at_ es j).1
   .subst e;simp[H,n1]
   .simp[H,n1,e,d k hk e]
  .by_cases e:k=(at_ es j).1
   .subst e;simp[H]
   .simp[H,e,d k hk e]
theorem La(h:es.length=n+1)(k:j<n)(d:pC (at_ es) es.length):rQ (at_ (cut es n j)) n j:=by
 refine⟨λc H a b f=> ?_,λe c H a b=> ?_⟩
 .rw[oh h a,oh h ae,ag b,ag f];exact d c H ae
 .rw[oh h a,oh h ae,cW,cW];have:=d c H ae;rw[b]at this;exact le_trans (d j e ae) this
theorem Lb(h:es.length=n+1)(d: ¬j<n)(b:pC (at_ es) es.length):pC (at_ (cut es n j)) n:=λc H a=>by
 rw[oh h a,oh h ae,cW,cW];exact b c H ae
theorem Ld(b:pC (at_ es) es.length):rQ (at_ (es++ [x])) (es.length+1) es.length/\xP (at_ (es++ [x])) (es.length+1) es.length:=by
 refine⟨⟨λc h H a e=> ?_,λd c h H a=>ae⟩,λc h H a=>ae⟩;rw[ux,ux,fO,fO];exact b c h ae
theorem I7(h:gZ es g)(H:x.1∉keys es):gZ (es++ [x]) (λk=>if k=x.1 then some (.I es.length)else g k):=by
 obtain⟨a,b,c⟩:=h;refine⟨?_,λi d=> ?_,λk hk=> ?_⟩
 .have:((es++ [x]).map (·.1)).Perm (x.1::es.map (·.1)):=by
   rw[bf];exact dD _ _
  exact this.nodup_iff.2 (en.2 ⟨H,a⟩)
 .rw[aA,dy]at d;rw[ux];by_cases e:i<es.length
  .rw[af e];have:(at_ es i).1≠x.1:=λq=>H (q▸br (at_mem e))
   simp[this,b i e]
  .have:i=es.length:=ae
   subst this;simp
 .rw[bf,bJ]at hk;have n1:k≠x.1:=λe=>hk (.inr (by simp[e]))
  simp[n1,c k (λf=>hk (.inl f))]
theorem Fk{e:E}(hd:(keys (e::l)).Nodup):fk (e::l) e.1=l:=by
 have h:fk (e::l) e.1=fk l e.1:=by unfold fk;rw[bU];simp
 rw[h,jw (en.1 hd).1]

end
end Go.jC
namespace Go.Proofs.YtlenamcfacpheaaGreatDoor
open Go.Den
open IntKind (wrap)
open Int (toNat)
section
open Go.jC
namespace bR
variable {h:ai} {a m cap:Nat} {p:cj} {es:List E} {g:Int→Option Value} {R:fx} {S:Nat→Prop} {L:List E}
theorem tE:nP Tryz.prog 189 193 2 16 (.agg #[.I 0,.U 0]):=⟨db,db,rfl⟩
theorem tI:nP Tryz.prog 105 3 1 8 (.I 0):=⟨db,db,rfl⟩
def Good(L:List E):Prop:= ∀e∈L,1<=e.1/\e.1<=1099511627776/\0<=e.2/\e.2<=1099511627776
def Al(h:ai)(a:Nat)(S:Nat->Prop)(L:List E):Prop:=
 ∃p cap m es g,Mem h a p cap m es g/\gZ es g/\pC (at_ es) es.length/\es.Perm L/\iI L/\Good L/\∀c,S c↔xQ a p m c
theorem Al.lt(A:Al h a S L){c:Nat}(b:S c):c<h.size:=by
 obtain⟨p,cap,m,es,g,M,_,_,_,_,_,H⟩:=A;exact M.lt ((H c).1 b)
theorem Al.frame{Q:Nat->Prop}{h':ai}(A:Al h a S L)(e:Fr Q h h')(f: ∀c,S c->¬Q c):Al h' a S L:=by
 obtain⟨p,cap,m,es,g,M,P,H,pm,so,G,b⟩:=A;exact⟨p,cap,m,es,g,M.frame e λc d=>f c ((b c).2 d),P,H,pm,so,G,b⟩
theorem Al.sorted(A:Al h a S L):iI L:=by
 obtain⟨p,cap,m,es,g,M,P,H,pm,so,G,b⟩:=A;exact so
theorem Al.nodup(A:Al h a S L):(keys L).Nodup:=by
 obtain⟨p,cap,m,es,g,M,P,H,pm,so,G,b⟩:=A;exact(keys_perm pm).nodup_iff.1 P.1
theorem fI(M:Mem h a p cap m es g)(hk:R (.bool true) h):ar Tryz.prog 114 #[.P a 0] h R:=
 um.walk ⟨some m,M.mp,hk⟩
theorem iH(hk: ∀a S h',Al h' a S []->(∀c,S c->h.size<=c)->Fr No h h'->R (.P a 0) h'):ar Tryz.prog 87 #[] h R:=by
 refine I4.walk ?_;rintro b i rfl rfl b1 k rfl rfl;have f:Fr No (h.push (.map #[] 0)) ((h.push (.map #[] 0)).push (.cells #[.Z,.map (some h.size)] 191)):=Fr.push _ _;refine hk _ (xQ (h.push (.map #[] 0)).size none h.size) _ ⟨none,0,h.size, [],λ_=>none,⟨bT,.nil rfl rfl rfl rfl,(lX.push h).frame f id,?_⟩,⟨.nil,?_,λ_ _=>rfl⟩,?_,.refl _,.nil,?_,λ_=>dU⟩ ?_ (Fr.tt (Fr.push _ _) f)
 .rintro⟨_,e,_⟩;cases e
 .intro j H;simp at H
 .intro j _ H;simp at H
 .intro e d;cases d
 .rintro c (rfl|rfl|⟨_,e,_⟩)
  .simp
  .exact aZ _
  .cases e
theorem Le(A:Al h a S L)(hk:R (.I (L.length:Int)) h):ar Tryz.prog 56 #[.P a 0] h R:=by
 obtain⟨p,cap,m,es,g,M,P,H,pm,so,G,b⟩:=A;refine wo.walk ⟨_,_,_,M.hd,?_⟩;rw[pm.length_eq];exact hk
def hd(L:List E):E:=L.headD (0,0)
theorem sW(A:Al h a S L)(hk:R (.tuple #[.I (hd L).1,.U (hd L).2,.bool (!L.isEmpty)]) h):ar Tryz.prog 171 #[.P a 0] h R:=by
 refine ur.walk (Le A ⟨_,rfl,?_⟩);obtain⟨p,cap,m,es,g,M,P,H,pm,so,G,k⟩:=A;cases L with
 |nil=>exact hk
 |cons e r=>
  have c:=pm.length_eq;simp only[ba]at c;have d:(((e::r).length:Int)==0)=false:=by simp only[ba,dj];omega
  simp only[d,au,aN];obtain⟨j,rfl⟩:=M.some ae;obtain⟨l,f⟩:=K7 pm so H ae;have b:at_ es 0=e:=(List.cons.inj f).1.symm;have c0:=M.c0 (i:=0) ae;have c1:=M.c1 (i:=0) ae;rw[b]at c0 c1;refine⟨_,_,_,M.hd,⟨ae,ae⟩,ay.2 ⟨_,c0,_,_,_,M.hd,⟨ae,ae⟩,ay.2 ⟨_,c1,hk⟩⟩⟩
theorem QA{t:TypeId}{z Z x X:Value}{K:Nat->ai->Prop}(hk: ∀b h',h'[b]? =some (.cells #[x,X] t (0,0))->h.size<=b->Fr No h h'->K b h'):
  aS h (.cells #[z,Z] t) λb d=>aE d (AA b 0) x λe=>aE e (AA b 1) X λH=>K b H:=by
 rintro b d rfl rfl;refine bB bT bM λe C s k=>bB C bM λH f l j=>hk _ H f (aZ _) ⟨?_,λc i _=> ?_⟩
 .rw[l,s];simp
 .rw[j c ae,k c ae];exact(Fr.push (S:=λ_=>False) h _).2 c i id
theorem oi(A:Al h a S L)(hn:L.length<1000000)(key:Int)(O:key∈keys L->∀h',Al h' a S (fk L key)->Fr S h h'->R (.I 0) h')(k2:key∉keys L->R (.I 4) h):ar Tryz.prog 115 #[.P a 0,.I key] h R:=by
 obtain⟨p,cap,m,es,g,M,P,H,pm,so,gd,hS⟩:=A;have r':=pm.length_eq;refine uq.walk (fI M ⟨true,rfl,?_⟩);simp only[cQ,au,aN];have w:=Bq tm M.map key;by_cases v:key∈keys es
 .have O:=O ((keys_perm pm).mem_iff.1 v);clear k2;obtain⟨j,K,rfl⟩:=mem_keys v;obtain⟨n,k⟩: ∃n,es.length=n+1:=⟨es.length - 1,ae⟩;rw[P.2.1 j K]at w;refine⟨some m,M.mp,(j:Int),true,w,?_⟩;simp only[cQ,au,aN];obtain⟨b0,off,rfl⟩:=M.own.some (by rw[jr];omega);refine⟨_,_,_,M.hd,_,_,_,M.hd,?_⟩;rw[show IntKind.wrap .i64 ((es.length:Int) - 1)=(n:Int) by rw[bz ae ae];omega];simp only[aI];refine⟨⟨ae,ae⟩,ay.2 ⟨_,M.c0 (i:=n) ae,_,M.c1 (i:=n) ae,QA λb h4 hb sb f4=> ?_⟩⟩;have r:=M.calm f4;have q':=M.own.le;have b':cE (some ((AA b0 off):Addr)) cap 0 2=some (AA b0 off):=by
   unfold cE;split
   .rfl
   .simp[gl]
  refine⟨_,_,_,r.hd,⟨ae,ae⟩,bB r.cR bM λF c5 s5 k5=> ?_⟩;have f5:Fr (λc=>c=a) h4 F:=Fr.of_eq s5 k5;have tl:(es.take n).length=n:=by rw[bF];omega
  have s:Mem F a (some (AA b0 off)) cap m (es.take n) g:=by
   refine⟨?_,?_,r.map.frame f5 (λe=>M.am e.symm),M.ne⟩
   .rw[c5,b',tl];rfl
   .have o:=(r.own.frame f5 (λc d e=>M.ne (e▸d))).sub (l:=0) (u:=n) ae ae;rw[b',Dx,Nat.zero_mul,fY]at o;rw[tl];exact o
  refine⟨some m,s.mp,vE tm s.map λt m6 s6 k6=>⟨rfl,?_⟩⟩;have f6:Fr (λc=>c=m) F t:=Fr.of_eq s6 k6;have B:Mem t a (some (AA b0 off)) cap m (es.take n) (λx=>if x=(at_ es j).1 then none else g x):=
   ⟨f6.get s.cR M.am,s.own.frame f6 (λc d e=>M.pm (e▸d)),m6,M.ne⟩
  have Y:Fr (xQ a (some (AA b0 off)) m) h t:=Fr.no f4 (f5.trans f6 (λ_ _ e=> .inl e) (λ_ _ e=> .inr (.inl e)));have J: ∀c,xQ a (some (AA b0 off)) m c->b≠c:=λc d e=>by have:=M.lt d;omega
  have I:=f6.get (f5.get hb (J a (.inl rfl))) (J m (.inr (.inl rfl)));refine aK.of λd' hJ=> ?_
  have done: ∀h' E G,Mem h' a (some (AA b0 off)) cap m E G->gZ E G->pC (at_ E) E.length->E.Perm (cut es n j)->Fr (xQ a (some (AA b0 off)) m) h h'->d' h':=by
   intro h' E G M' P' z n' f';subst hJ;exact O h' ⟨_,_,_,E,G,M',P',z,n'.trans (K9 k K P.1 pm),so.drop _,λe he=>gd e (aW.1 he).1,hS⟩ (f'.mono λc _ d=>(hS c).2 d)
  have y:=I6 P k K;have cl:=BK (j:=j) k;by_cases f:j<n
  .have N:(j:Int)<(n:Int):=ae
   simp only[f,bh]at y;simp only[N,bA,bh];have D:(es.take n).set j ((at_ es n).1,(at_ es n).2)=cut es n j:=by unfold cut;rw[af f]
   refine⟨_,aw I,_,aw I,uw B ae λh8 V f8=>⟨rfl,?_⟩⟩;rw[D]at V;have ex:=La k f H;refine G1 V y ae ae (by rw[cl];exact ex) λh9 j' g9 q C W p' l9 q9 g' X _ f9=>⟨rfl,some m,C.mp,?_⟩
   have Q: ¬inner (some (AA b0 off)) m b:=λd=>J b (.inr d) rfl
   have a':=f9.get (f8.get I Q) Q;have c':=Ag tm C.map (at_ es n).1;have e9:at_ j' q=at_ es n:=by rw[g',oh k f,af rfl]
   have Z:=W.2.1 q ae;rw[e9]at Z;rw[Z]at c';refine⟨_,aw a',(q:Int),c',?_⟩;rw[<-l9]at X;refine G2 C W ae ae X λl' i' k' U e' o' m' T f10=>⟨rfl,aw (f10.get a' Q),U.mp,?_⟩
   rw[<-m']at T;exact done l' i' k' U e' T (o'.trans p') (Y.trans (Fr.tt f8 (Fr.tt f9 f10)) (λ_ _=>id) (λ_ _ d=> .inr d))
  .have N: ¬(j:Int)<(n:Int):=ae
   simp only[f,aN]at y;simp only[N,bk,au,aN];have D:es.take n=cut es n j:=by unfold cut;rw[ag f]
   rw[D]at B;have z:=Lb k f H;exact done t _ _ B y (by rw[cl];exact z) (.refl _) Y
 .rw[P.2.2 key v]at w;exact⟨some m,M.mp,0,false,w,k2 λhx=>v ((keys_perm pm).mem_iff.2 hx)⟩
def may(key t:Int):Bool:=decide (1<=key) && decide (key<=1099511627776) && decide (t<=1099511627776)
theorem kN{key t:Int}:may key t=true↔1<=key/\key<=1099511627776/\t<=1099511627776:=by simp[may,and_assoc]
def xR(L:List E)(key t:Int):List E:=sU (fk L key) (key,t)
theorem mY(L:List E)(key:Int):(fk L key).length<=L.length:=cg _ _
theorem Fl(A:Al h a S L)(hn:L.length<999999)(key t:Int)(ht:0<=t)(K:may key t=true->∀h' u,Al h' a u (xR L key t)->(∀c,u c->S c\/h.size<=c)->Fr S h h'->R (.I 0) h')(N:may key t=false->R (.I 1) h):ar Tryz.prog 51 #[.P a 0,.I key,.U t] h R:=by
 have A0:=A;obtain⟨p,cap,m,es,g,M, -, -, -, -, -, -⟩:=A;refine wv.walk (fI M ⟨true,rfl,?_⟩);clear M;simp only[cQ,au,aN];refine aK.of λJ D=> ?_
 have no:may key t=false->J true h:=λn=>by subst D;exact N n
 by_cases d:key<1
 .simp only[d,bA,bh];exact no (by simp[may,show¬1<=key by omega])
 simp only[d,bk,au,aN];by_cases w:key>1099511627776
 .simp only[w,bA,bh];exact no (by simp[may,show¬key<=1099511627776 by omega])
 simp only[w,bk,au,aN];by_cases y:t>1099511627776
 .simp only[y,bA];exact no (by simp[may,show¬t<=1099511627776 by omega])
 simp only[y,bk];clear no N;have K:=K (kN.2 ⟨ae,ae,ae⟩);subst D;simp only[au,aN];have rest: ∀d e,Al d a S (fk L key)->Fr S h d->(∃(t25:Int),Value.I e=.I t25/\
    ∃(W:cj)(V U:Nat),aB d (AA a 0)=some (.slice W V U)/\
    aS d (.cells #[.I 0,.U 0] 193) λb c'=>
    aV Tryz.prog (Builtin.append_ #[189,189] 189 #[.slice W V U,.slice (some (AA b 0)) 1 1]) c' λm' d'=>
    ∃(Z:cj)(Y X:Nat),m'=.slice Z Y X/\
    aE d' (AA a 0) (.slice Z Y X) λI=>
    ∃(l':cj)(T k':Nat),aB I (AA a 0)=some (.slice l' T k')/\
    ar Tryz.prog 116 #[.P a 0,.I (IntKind.wrap .i64 ((T:Int) - 1)),.agg #[.I key,.U t]] I λn' e'=>
    n'=.tuple #[]/\
    ar Tryz.prog 117 #[.P a 0,.I (IntKind.wrap .i64 ((T:Int) - 1))] e' λo' f'=>
    o'=.tuple #[]/\
    R (.I 0) f'):=by
  intro d e A1 f1;refine⟨e,rfl,?_⟩;have kn:=Fh L key;have dl:=mY L key;obtain⟨p,cap,m,es,g,M,P,H,pm,so,gd,f⟩:=A1;have p':=pm.length_eq;refine⟨_,_,_,M.hd,?_⟩;rintro b h4 rfl rfl;have F:Fr No d (d.push (.cells #[.I 0,.U 0] 193)):=Fr.push _ _;have row:Row (d.push (.cells #[.I 0,.U 0] 193)) (some (AA d.size 0)) (enc [(0,0)]):=.inr ⟨_,rfl,gF bT λj v hj=>by rw[bE];simpa[enc]using hj⟩;have r':d.size<=(d.push (.cells #[.I 0,.U 0] 193)).size:=F.1;have k:=M.calm F;refine dO tE (eT:=193) db k.own row rfl (GZ _) ae ae λi C z Q _ f5 G=>⟨_,_,_,rfl,?_⟩
  rw[<-Fj]at Q;have b5:=f5.get k.cR M.ne;have O: ¬aP i a:=λhc=>by
   rcases G a hc with hx|hx
   .exact M.ne hx
   .have:=aF k.cR;omega
  have q': ¬aP i m:=λhc=>by
   rcases G m hc with hx|hx
   .exact M.pm hx
   .have:=k.map.lt;omega
  refine bB b5 bM λo c6 s6 k6=> ?_
  have f6:Fr (λc=>c=a) z o:=Fr.of_eq s6 k6;have r:Mem o a i C m (es++ [(0,0)]) g:=by
   refine⟨?_,?_,(k.map.frame f5 M.pm).frame f6 (λe=>M.am e.symm),O⟩
   .rw[c6,aA];rfl
   .rw[aA];exact Q.frame f6 (λc hc e=>O (e▸hc))
  refine⟨_,_,_,r.hd,?_⟩;have ew:IntKind.wrap .i64 ((((es++ [((0,0):E)]).length:Nat):Int) - 1)=(es.length:Int):=by
   rw[aA,dy,bz ae ae];omega
  rw[ew];refine uw r (by rw[aA,dy];omega) λh7 s f7=>⟨rfl,?_⟩
  have a':(es++ [((0,0):E)]).set es.length (key,t)=es++ [(key,t)]:=by
   rw[List.set_append_right _ _ (aZ _)];simp
  rw[a']at s;have i':key∉keys es:=λhx=>kn ((keys_perm pm).mem_iff.1 hx)
  have P7:=I7 (x:=(key,t)) P i';obtain⟨ex,kd⟩:=Ld (x:=(key,t)) H;have l7:(es++ [(key,t)]).length=es.length+1:=bM
  rw[<-l7]at ex kd;refine G1 s P7 ae ae ex λB b' g8 q M8 P8 j' l8 _ _ _ l f8=>⟨rfl,?_⟩
  have l:=l kd;rw[<-l8]at l;have gf: ∀c,xQ a i m c->S c\/h.size<=c:=by
   rintro c (rfl|rfl|hc)
   .exact .inl ((f _).2 (.inl rfl))
   .exact .inl ((f _).2 (.inr (.inl rfl)))
   .rcases G c hc with hx|hx
    .exact .inl ((f _).2 (.inr (.inr hx)))
    .have:=f1.1;exact .inr ae
  refine K B (xQ a i m) ⟨i,C,m,b',g8,M8,P8,l,?_,so.insert _ kn,?_,λ_=>dU⟩ gf ?_
  .exact j'.trans ((dD _ _).trans ((pm.cons _).trans (kM _ _).symm))
  .intro e he;rcases bD.1 ((kM _ _).mem_iff.1 he)with rfl|hx
   .exact⟨by simp only;omega,by simp only;omega,ht,by simp only;omega⟩
   .exact gd e hx
  .have g': ∀c,c<d.size->xQ a i m c->S c:=λc hc hx=>by
    rcases hx with rfl|rfl|hx
    .exact(f _).2 (.inl rfl)
    .exact(f _).2 (.inr (.inl rfl))
    .rcases G c hx with hy|hy
     .exact(f _).2 (.inr (.inr hy))
     .omega
   have g1:Fr S d z:=Fr.no F (f5.mono λc _ hc=>(f c).2 (.inr (.inr hc)));have g2:Fr S d o:=g1.trans f6 (λ_ _=>id) (λc _ e=>(f c).2 (.inl e));have g3:Fr S d B:=g2.trans (Fr.tt f7 f8) (λ_ _=>id) (λc hc hx=>g' c hc (.inr hx));exact Fr.tt f1 g3
 refine oi A0 ae key (λn d A1 f1=>rest d 0 A1 f1) (λn=> ?_);refine rest h 4 ?_ (Fr.refl _ _);rw[jw n];exact A0
def iM(now:Int)(e:E):Bool:=decide (e.2<=now)
def due(L:List E)(now:Int):List E:=L.takeWhile (iM now)
def rest(L:List E)(now:Int):List E:=L.dropWhile (iM now)
def kc(L:List E):List Value:=(keys L).map (.int .i64 ·)
theorem I8{D T:List E}{now:Int}(hd: ∀e∈D,iM now e=true)(c: ∀e r,T=e::r->iM now e=false):due (D++T) now=D/\rest (D++T) now=T:=by
 unfold due rest;induction D with
 |nil=>
  cases T with
  |nil=>exact⟨rfl,rfl⟩
  |cons e r=>simp[List.takeWhile,List.dropWhile,c e r rfl]
 |cons d D i=>
  have H:=hd d cZ;obtain⟨i1,i2⟩:=i λe b=>hd e (cu _ b)
  simp only[dB,List.takeWhile_cons,List.dropWhile_cons,H,bh];exact⟨by rw[i1],i2⟩
def RI(H:ai)(a:Nat)(S:Nat->Prop)(L:List E)(now:Int)(out:cj)(l c:Nat)(key t:Int)(is:Bool)(h:ai):Prop:=
 ∃D T,L=D++T/\(∀e∈D,iM now e=true)/\Al h a S T/\key=(hd T).1/\t=(hd T).2/\is= !T.isEmpty/\l=D.length/\fy h out l c 1 (kc D)/\(∀x,aP out x->H.size<=x)/\Fr S H h
theorem BL(A:Al h a S L)(X:L.length<999999)(now:Int)(hk: ∀h' P C,Al h' a S (rest L now)->fy h' P (due L now).length C 1 (kc (due L now))->(∀c,aP P c->h.size<=c)->Fr S h h'->R (.slice P (due L now).length C) h'):
  ar Tryz.prog 118 #[.P a 0,.U now] h R:=by
 refine uu.walk (sW A ⟨_,_,_,rfl,?_⟩);refine⟨RI h a S L now,λ_ l _ _ _ _ _=>L.length - l,⟨[],L,rfl,(λ_ I=>by cases I),A,rfl,rfl,rfl,rfl,.nil rfl rfl rfl rfl,(λc ⟨_,e,_⟩=>by cases e),Fr.refl _ _⟩,?_⟩;rintro out l c key t is H ⟨D,U,E,s,n,rfl,rfl,rfl,rfl,o2,o,f2⟩;refine aK.of λJ u=> ?_
 have stop:(∀e r,U=e::r->iM now e=false)->J false H:=λN=>by
  subst u;simp only[au,aN];obtain⟨e1,e2⟩:=I8 s N;rw[<-E]at e1 e2;rw[<-e1];rw[<-e1]at o2;exact hk H out c (by rw[e2];exact n) o2 o f2
 cases U with
 |nil=>exact stop (λe r x=>by cases x)
 |cons e U=>
  simp only[List.isEmpty_cons,eh,bh];by_cases i:e.2<=now
  .rw[show decide ((hd (e::U)).2<=now)=true from aq i];subst u;simp only[bh];rintro b T rfl rfl;have W:L.length=D.length+(U.length+1):=by rw[E];simp
   have f:Fr No H (H.push (.cells #[.I (hd (e::U)).1] 3)):=Fr.push _ _;have row:Row (H.push (.cells #[.I (hd (e::U)).1] 3)) (some (AA H.size 0)) (kc [e]):=.inr ⟨_,rfl,gF bT λj v K=>by rw[bE];simpa[kc,keys,hd]using K⟩;have sz:H.size<=(H.push (.cells #[.I (hd (e::U)).1] 3)).size:=f.1;refine dO tI (eT:=3) db (o2.frame f λ_ _=>id) row rfl (λv y=>by simp[kc,keys]at y;subst y;rfl) ae ae λP C F O _ f5 G=>⟨_,_,_,rfl,?_⟩
   have B:kc D++kc [e]=kc (D++ [e]):=by simp[kc,keys]
   rw[B]at O;have w: ∀{c},S c->c<h.size:=λd=>A.lt d
   have q:=(n.frame f λ_ _=>id).frame f5 (λc d hx=>ig (o c hx) (w d));have z: ∀c,aP P c->h.size<=c:=λc d=>by
    rcases G c d with hx|hx
    .exact o c hx
    .have:=f2.1;omega
   have f25:Fr S h F:=f2.trans (Fr.no f f5) (λ_ _=>id) (λc d hx=>cf (o c hx));refine oi q (by simp;omega) _ (λ_ V k f6=>⟨_,rfl,?_⟩) (λM=>absurd (by exact cZ) M);rw[show fk (e::U) (hd (e::U)).1=U from Fk q.nodup]at k;refine sW k ⟨_,_,_,rfl,⟨D++ [e],U,by rw[E];simp,?_,k,rfl,rfl,rfl,bM,?_,z,Fr.tt f25 f6⟩,?_⟩
   .intro x hx;rcases bJ.1 hx with hx|hx
    .exact s x hx
    .simp at hx;subst hx;exact aq i
   .exact O.frame f6 λc d hx=>by have:=z c d;have:=w hx;omega
   .show L.length - (D.length+1)<L.length - D.length;omega
  .rw[show decide ((hd (e::U)).2<=now)=false from az i];exact stop λQ r x=>by cases x;exact az i

end bR
end
end Go.Proofs.YtlenamcfacpheaaGreatDoor
namespace Go.Den
section
variable {P : Program}
theorem Lf{S x ty elem:TypeId}{sz bytes:Nat}{z:Value}{h:ai}{n:Nat}{K:fx}(T:nP P S elem sz bytes z)(w:P.underlying x=some (.int .i64))(D:0<n)(A:n*bytes<=70368744177664)(B:n<=4611686018427387904)(hk: ∀c h',fy h' (some (AA h.size 0)) 0 c sz []->n<=c->Fr No h h'->K (.slice (some (AA h.size 0)) n c) h'):
  aV P (Builtin.append_ #[S,x] ty #[.Z,.I (n:Int)]) h K:=by
 obtain⟨i,b,rfl,rfl,g⟩:=T.i;have u:=T.zs;unfold Builtin.append_;refine bK (s:=underlying S) (bu T.u) ?_;refine bK (s:=sizeOf elem) (gD b) ?_;refine bK (s:=underlying x) (bu w) ?_;refine bK (s:=(pure true:Sem Bool)) (a:=true) rfl ?_;have e:IntKind.wrap .i64 (n:Int)=(n:Int):=bz ae ae;refine bK (s:=asInt (.I (n:Int))) (a:=(n:Int)) rfl ?_;show aV P (if IntKind.wrap .i64 (n:Int)<0 then _ else _) h K;rw[ag (by rw[e];omega)];refine bK (s:=typeInfo elem) (gA b) ?_;show aV P (if IntKind.wrap .i64 (n:Int)*(i.bytes:Int)>2 ^ 48 then _ else _) h K;have k:(n:Int)*(i.bytes:Int)=((n*i.bytes:Nat):Int):=bM
 rw[ag (by rw[e,k];omega)];refine bK (s:=(pure (IntKind.wrap .i64 (n:Int)).toNat:Sem Nat)) (a:=n) (by rw[e];rfl) ?_;show aV P (if 0+n<=0 then _ else _) h K;rw[cW];refine bK (s:=typeInfo elem) (gA b) ?_;show aV P (if(((0+n:Nat):Int)>IntKind.max .i64/\(true=true\/i.bytes=0))then _ else _) h K;have q:IntKind.max .i64=9223372036854775807:=rfl;rw[ag (by rw[q];omega)];refine bK (s:=typeInfo elem) (gA b) ?_;have p:=nextslicecap_le (need:=0+n) (cap:=0) ae;have r: ¬(Builtin.nextslicecap (0+n) 0*i.bytes>2 ^ 48):=by
  have d:Builtin.nextslicecap (0+n) 0*i.bytes<=2*(0+n)*i.bytes:=cB _ p;rw[Nat.mul_assoc,bE]at d;rw[bE];omega
 show aV P (if Builtin.nextslicecap (0+n) 0*i.bytes>2 ^ 48 then _ else _) h K;rw[ag r];show aV P (choose (.appendCap (0+n) 0 elem)>>=_) h K;rw[dw];unfold choose;simp only[aV,Question.forced,au,aN,Question.cut];intro y;refine bK (s:=typeInfo elem) (gA b) ?_;rw[dw];have t: ∀(m:Nat)(K':Unit->ai->Prop),K' () h->aV P (askRoom m) h K':=λm K' f=>by
  unfold askRoom;split
  .exact f
  .exact f
 refine t _ _ ?_;refine bK (s:=Builtin.firstCells i.size 0 (.Z)) (a:= #[]) (j4 (ds:= []) (.inl rfl) bM) ?_;have R:=iq (h:=h) b g;refine bK (a:=if n*i.size=0 then #[]else Builtin.zeroCells z.cells n) ?_ ?_
 .show rd P (if n*i.size=0 then pure #[]else _) h=_;by_cases H:n*i.size=0
  .rw[af H,af H];rfl
  .rw[ag H,ag H,bm _ _ _ _ R];rfl
 refine bK (s:=zeroValue elem) (iq b g) ?_;generalize C:0+n+y%(2 ^ 63 - (0+n))=c;have l:n<=c:=ae
 have d: ∀m,(Builtin.zeroCells z.cells m).size=m*i.size:=λm=>by simp[Builtin.zeroCells,u]
 show K (.slice (some (AA h.size 0)) (0+n) c) (h.push (.cells (#[]++(if n*i.size=0 then #[]else Builtin.zeroCells z.cells n)++Builtin.zeroCells z.cells (c - (0+n))) elem));rw[bE];refine hk c _ (.row h.size 0 _ elem rfl bT (bP _) ?_ bM (λj v o=>by cases o)) l (Fr.push _ _);rw[Array.size_append,d];have:(#[]++(if n*i.size=0 then #[]else Builtin.zeroCells z.cells n):Array Value).size=n*i.size:=by
  by_cases H:n*i.size=0
  .rw[af H,H];rfl
  .rw[ag H,Array.size_append,d];simp
 rw[this,<-dL,bE,show n+(c - n)=c by omega];omega
end
end Go.Den
namespace Go.Proofs.YtlenamcfacpheaaGreatDoor
open Go.Den
open IntKind (wrap)
open Int (toNat)
section
variable {h:ai} {R:fx}
variable {b d c S s:Nat} {x X f num owner:Int} {e g:cj}
theorem Fm.walk(i:Cl 87 #[] h λv H=>Vp v λt1=>aS H (.cells #[.Z,.I 1,.I 0,.I 0,.I 0,.pointer t1] 145) λb a=>R (.P b 0) a):ar Tryz.prog 38 #[] h R:=aR (lq ll) Tryz.func38 i
theorem wx.walk(H: ∃t9,Cc h b 5 (.pointer t9)/\R (.bool (!t9.isNone)) h):ar Tryz.prog 70 #[.P b 0] h R:=aR (lq ll) Tryz.func70 H
theorem zD.walk(m:aS h (.cells #[.I x,.I X,.slice e d c,.U f] 119) λb k=>aS k (.cells #[.I 0,.I 0,.Z,.U 0] 119) λB H=>Hl H b 2 λz y w=>Cl 50 #[.slice z y w] H λv l=> ∃j T t,v=.slice j T t/\aE l (AA b 2) (.slice j T t) λa=>aU.LD a (AA b 0) λA C F E D G=>aU.ST a (AA B 0) A C F E D G λi=>aU.LD i (AA B 0) λr n q p o u=>R (.agg #[.I r,.I n,.slice q p o,.U u]) i):ar Tryz.prog 88 #[.agg #[.I x,.I X,.slice e d c,.U f]] h R:=aR (lq (lq ll)) Tryz.func88 m
theorem BM.walk(a:aS h (.cells #[.I x,.I X,.slice e d c,.U f] 119) λb H=> ∃t4,Cc H b 1 (.I t4)/\if(decide (t4≥1))then∃t8,Cc H b 1 (.I t8)/\if(decide (t8<=1099511627776))then∃j t i,Cc H b 2 (.slice j t i)/\if(decide (((t:Nat):Int)≥1))then∃l T k,Cc H b 2 (.slice l T k)/\if(decide (((T:Nat):Int)<=600))then∃t25,Cc H b 3 (.U t25)/\R (.bool (decide (t25<=1099511627776))) H else R (.bool false) H else R (.bool false) H else R (.bool false) H else R (.bool false) H):ar Tryz.prog 280 #[.agg #[.I x,.I X,.slice e d c,.U f]] h R:=aR (lq ll) Tryz.func280 a
theorem wy.walk(i:aS h (.cells #[.I num] 3) λB H=>Hl H b 0 λj T t=>Cl 153 #[.slice j T t,.func (.func 173) #[] #[.P B 0]] H λv a=> ∃t10,v=.I t10/\R (.I t10) a):ar Tryz.prog 122 #[.P b 0,.I num] h R:=aR (lq ll) Tryz.func122 i
theorem sX.walk{c0:Nat}(a:aS h (.cells #[.I x,.I X,.slice e d c,.U f] 119) λb H=>Hi H b 0 λt5=> ∃t6,Cc H c0 0 (.I t6)/\R (.bool (t5==t6)) H):ar Tryz.prog 173 #[.agg #[.I x,.I X,.slice e d c,.U f],.P c0 0] h R:=aR (lq ll) Tryz.func173 a
theorem xS.walk{i:Int} (A:aS h (.cells #[.I 0,.I 0,.Z,.U 0] 119) λq H=>Hl H b 0 λd' c' f'=>Bd i c'/\aO d' λa=>aU.LD H (a.add (toNat i*4)) λJ K N M L O=>aS H (.cells #[.I 0,.I 0,.Z,.U 0] 119) λB z=>aU.ST z (AA B 0) J K N M L O λk=>Hp k b 5 λt16=>Hi k B 0 λt18=>Cl 115 #[.pointer t16,.I t18] k λv l=>Vi v λt19=>Hl l b 0 λo w t=>((0:Int)<=i/\i<=(t:Int))/\Hl l b 0 λp j T=>((0:Int)<=wrap .i64 (i+1)/\wrap .i64 (i+1)<=(j:Int))/\aS l (.cells #[.slice (cE o t 0 4) ((toNat i) - 0) (t - 0),.slice (cE p T (toNat (wrap .i64 (i+1))) 4) (j - (toNat (wrap .i64 (i+1)))) (T - (toNat (wrap .i64 (i+1))))] 86) λy m=>Cc m b 0 (.slice p j T)/\Cc m b 0 (.slice o w t)/\Cl 172 #[.slice (some (AA y 0)) 2 2] m λe' n=>Vl e' λU Q P=>Cc n b 0 (.slice p j T)/\Cc n b 0 (.slice o w t)/\aE n (AA b 0) (.slice U Q P) λr=>aU.LD r (AA B 0) λV W a' Z Y b'=>aU.ST r (AA q 0) V W a' Z Y b' λu=>aU.LD u (AA q 0) λC D G F E I=>R (.agg #[.I C,.I D,.slice G F E,.U I]) u):ar Tryz.prog 121 #[.P b 0,.I i] h R:=aR (lq (lq (sq (pN 7) (sq (pN 19) ll)))) Tryz.func121 A
theorem xT.walk(F:Cl 70 #[.P b 0] h λv j=>Vb v λt7=>aK (λ(L:cj) (K G:Nat) (A:ai)=>R (.slice L K G) A) (λJ=>if t7 then Hl j b 0 λN n h'=> ∃(I:cj->Nat->Nat->Int->ai->Prop)(M:cj->Nat->Nat->Int->ai->Nat),I none 0 0 0 j/\∀(i:cj)(O o:Nat)(t13:Int)(H:ai),I i O o t13 H->if(decide (t13<(n:Int)))then Bd t13 n/\aO N λa=>aU.LD H (a.add (toNat t13*4)) λP Q W V U Y=>aS H (.cells #[.I 0,.I 0,.Z,.U 0] 119) λB C=>aU.ST C (AA B 0) P Q W V U Y λl=>aU.LD l (AA B 0) λZ a' d' c' b' e'=>Cl 88 #[.agg #[.I Z,.I a',.slice d' c' b',.U e']] l λf' D=> ∃p q w u r y,f'=.agg #[.I p,.I q,.slice w u r,.U y]/\aS D (.cells #[.I p,.I q,.slice w u r,.U y] 119) λz E=>aV Tryz.prog (Builtin.append_ #[86,86] 86 #[.slice i O o,.slice (some (AA z 0)) 1 1]) E λg' m=> ∃k T t,g'=.slice k T t/\(I k T t (wrap .i64 (t13+1)) m/\M k T t (wrap .i64 (t13+1)) m<M i O o t13 H)else J i O o H else J none 0 0 j)):ar Tryz.prog 39 #[.P b 0] h R:=aR (lq (lq (sq (lq (.join [(3,.one (.slice))] (cq (lq (bq (.loop [(3,.one (.slice)),(13,.one (.int .i64))] (lq (sq (cq lf lf) (sq (bq ll) lf)))))) lf))) ll))) Tryz.func39 F
theorem xU.walk{k:cj}{j D:Nat}{V:Int}(L:Cl 70 #[.P b 0] h λv a=> ∃t12,v=.bool t12/\if(!t12)then R (.tuple #[.I 0,.I 6]) a else Hi a b 1 λt17=>Cl 88 #[.agg #[.I t17,.I owner,.slice k j D,.U V]] a λf' I=> ∃t T r q p u,f'=.agg #[.I t,.I T,.slice r q p,.U u]/\aS I (.cells #[.I 0,.I 0,.Z,.U 0] 119) λB J=>aU.ST J (AA B 0) t T r q p u λm=>aU.LD m (AA B 0) λM N Q P O U=>Cl 280 #[.agg #[.I M,.I N,.slice Q P O,.U U]] m λg' H=> ∃t25,g'=.bool t25/\if(!t25)then R (.tuple #[.I 0,.I 1]) H else∃Y w W,Cc H b 0 (.slice Y w W)/\if(decide (((w:Nat):Int)≥16))then R (.tuple #[.I 0,.I 15]) H else Hl H b 0 λA z y=>aU.LD H (AA B 0) λZ a' d' c' b' e'=>aS H (.cells #[.I Z,.I a',.slice d' c' b',.U e'] 119) λG n=>Cc n b 0 (.slice A z y)/\aV Tryz.prog (Builtin.append_ #[86,86] 86 #[.slice A z y,.slice (some (AA G 0)) 1 1]) n λh' K=> ∃F E C,h'=.slice F E C/\aE K (AA b 0) (.slice F E C) λo=> ∃t47,Cc o b 1 (.I t47)/\aE o (AA b 1) (.I (wrap .i64 (t47+1))) λi=>Hp i b 5 λt54=>Hi i B 0 λt56=>Cl 51 #[.pointer t54,.I t56,.U V] i λi' l=>Vi i' λt58=> ∃t60,Cc l B 0 (.I t60)/\R (.tuple #[.I t60,.I 0]) l):ar Tryz.prog 240 #[.P b 0,.I owner,.slice k j D,.U V] h R:=aR (lq (sq (lq (cq ll lf)) (lq (sq (bq (lq (cq ll (lq (cq ll lf))))) (sq (pN 11) (lq (sq (pN 8) ll))))))) Tryz.func240 L
theorem sY.walk(l:Cl 70 #[.P b 0] h λv i=> ∃t9,v=.bool t9/\if(!t9)then R (.I 6) i else Cl 122 #[.P b 0,.I num] i λV H=> ∃t13,V=.I t13/\if(decide (t13<0))then R (.I 4) H else Hl H b 0 λT t w=>Bd t13 t/\aO T λa=> ∃t25,aB H ((a.add (toNat t13*4)).add 1)=some (.I t25)/\if(t25 !=owner)then R (.I 13) H else Cl 121 #[.P b 0,.I t13] H λu j=> ∃m n q p o r,u=.agg #[.I m,.I n,.slice q p o,.U r]/\∃t34,Cc j b 3 (.I t34)/\aE j (AA b 3) (.I (wrap .i64 (t34+1))) λk=>R (.I 0) k):ar Tryz.prog 152 #[.P b 0,.I num,.I owner] h R:=aR (lq (sq (lq (cq ll lf)) (lq (sq (bq (lq (cq ll (lq (cq ll lf))))) (lq (lq ll)))))) Tryz.func152 l
theorem wz.walk{now:Int}(G:Cl 70 #[.P b 0] h λv j=>Vb v λt9=>aK (λ(M:cj) (L K:Nat) (A:ai)=>R (.slice M L K) A) (λJ=>if t9 then Hp j b 5 λt13=>Cl 118 #[.pointer t13,.U now] j λV C=>Vl V λN t W=> ∃(I:cj->Nat->Nat->Int->ai->Prop)(m:cj->Nat->Nat->Int->ai->Nat),I none 0 0 0 C/\∀(i:cj)(O o:Nat)(t17:Int)(H:ai),I i O o t17 H->if(decide (t17<(t:Int)))then Bd t17 t/\aO N λa=>xq H (a.add (toNat t17*1)) λt20=>Cl 122 #[.P b 0,.I t20] H λP D=>Vi P λt25=>Cl 121 #[.P b 0,.I t25] D λQ E=> ∃T n r q p u,Q=.agg #[.I T,.I n,.slice r q p,.U u]/\aS E (.cells #[.I T,.I n,.slice r q p,.U u] 119) λB F=>aV Tryz.prog (Builtin.append_ #[86,86] 86 #[.slice i O o,.slice (some (AA B 0)) 1 1]) F λU k=>Vl U λz y w=> ∃t32,Cc k b 4 (.I t32)/\aE k (AA b 4) (.I (wrap .i64 (t32+1))) λl=>(I z y w (wrap .i64 (t17+1)) l/\m z y w (wrap .i64 (t17+1)) l<m i O o t17 H)else J i O o H else J none 0 0 j)):ar Tryz.prog 54 #[.P b 0,.U now] h R:=aR (lq (lq (sq (lq (.join [(5,.one (.slice))] (cq (lq (bq (.loop [(5,.one (.slice)),(17,.one (.int .i64))] (lq (sq (cq lf lf) (sq (bq (lq ll)) lf)))))) lf))) ll))) Tryz.func54 G
theorem eU.find.walk{F:Nat}(j: ∃(I:Int->ai->Prop)(m:Int->ai->Nat),I 0 h/\∀(t8:Int)(H:ai),I t8 H->if(decide (t8<(S:Int)))then Bd t8 S/\aO g λa=>aU.LD H (a.add (toNat t8*4)) λt T n l k o=>Cl 173 #[.agg #[.I t,.I T,.slice n l k,.U o],.P F 0] H λv i=> ∃t16,v=.bool t16/\if t16 then R (.I t8) i else(I (wrap .i64 (t8+1)) i/\m (wrap .i64 (t8+1)) i<m t8 H)else R (.I (-1)) H):ar Tryz.prog 153 #[.slice g S s,.func (.func 173) #[] #[.P F 0]] h R:=aR (lq (sq (lq (bq (.loop [(8,.one (.int .i64))] (lq (sq (cq lf lf) (sq (bq (lq (lq (cq ll lf)))) lf)))))) ll)) Tryz.func153 j
theorem iS.walk{m:cj}{j D:Nat} (C: ∃(I:Int->Int->ai->Prop)(M:Int->Int->ai->Nat),I 0 0 h/\∀(size:Int)(t11:Int)(H:ai),I size t11 H->if(decide (t11<(j:Int)))then aK (λ(u:Int) (p:ai)=>(I u (wrap .i64 (t11+1)) p/\M u (wrap .i64 (t11+1)) p<M size t11 H)) (λJ=>Bd t11 j/\aO m λa=>zp H (a.add (toNat t11*1)) λQ w P=>aK (λ(z:ai)=>J (wrap .i64 (size+(w:Int))) z) (λy=>if(decide ((wrap .i64 (size+(w:Int)))<0))then False else y H))else Cl 199 #[.Z,.I size] H λv B=>Vl v λG F E=> ∃(l:cj->Nat->Nat->Int->ai->Prop)(r:cj->Nat->Nat->Int->ai->Nat),l G F E 0 B/\∀(k:cj)(N n:Nat)(t27:Int)(i:ai),l k N n t27 i->if(decide (t27<(j:Int)))then Bd t27 j/\aO m λA=>zp i (A.add (toNat t27*1)) λO L K=>aV Tryz.prog (Builtin.append_ #[86,86] 86 #[.slice k N n,.slice O L K]) i λV q=> ∃o T t,V=.slice o T t/\(l o T t (wrap .i64 (t27+1)) q/\r o T t (wrap .i64 (t27+1)) q<r k N n t27 i)else R (.slice k N n) i):ar Tryz.prog 172 #[.slice m j D] h R:=aR (lq (lq (sq (lq (bq (.loop [(3,.one (.int .i64)),(11,.one (.int .i64))] (lq (sq (cq lf lf) (sq (.join [(3,.one (.int .i64))] (bq (lq (lq (lq (.join [] (cq lf lf))))))) lf)))))) (lq (sq (lq (bq (.loop [(6,.one (.slice)),(27,.one (.int .i64))] (lq (sq (cq lf lf) (sq (bq ll) lf)))))) ll))))) Tryz.func172 C
theorem iY.walk{n:Int} (k:aK (λ(H:ai)=>aK (λ(o:cj) (m l:Nat) (a:ai)=>R (.slice o m l) a) (λj=>if(decide ((wrap .i64 (n - (wrap .i64 ((s:Int) - (S:Int)))))>0))then((0:Int)<=(s:Int)/\(s:Int)<=(s:Int))/\aV Tryz.prog (Builtin.append_ #[86,3] 86 #[.slice (cE g s 0 4) ((toNat (s:Int)) - 0) (s - 0),.I (wrap .i64 (n - (wrap .i64 ((s:Int) - (S:Int)))))]) H λv i=>Vl v λT p t=>((0:Int)<=(S:Int)/\(S:Int)<=(t:Int))/\j (cE T t 0 4) ((toNat (S:Int)) - 0) (t - 0) i else j g S s H)) (λJ=>if(decide (n<0))then False else J h)):ar Tryz.prog 199 #[.slice g S s,.I n] h R:=aR (lq (sq (lq (.join [] (cq lf lf))) (sq (lq (lq (.join [(0,.one (.slice))] (cq lf lf)))) ll))) Tryz.func199 k

end
section
open Go.fQ Go.jC
namespace gC
open kk
variable {h h':ai} {b:Nat} {X:Ft} {R:fx} {p q:cj} {c d i:Nat} {L:List E}
structure It where
 num:Nat
 owner:Int
 d:List UInt8
 bX:Nat
structure IV where
 num:Nat
 owner:Int
 v:BV
 bX:Nat
def IV.abs(x:IV):It:=⟨x.num,x.owner,x.v.b,x.bX⟩
abbrev fR(x:IV):List Value:= [.int .i64 (x.num:Int),.int .i64 x.owner,x.v.val,.int .u64 (x.bX:Int)]
theorem gL(x:IV):(fR x).length=4:=rfl
theorem Dz(xs:List IV): ∀v∈xs.flatMap fR,fH v=true:=by
 intro v e;obtain⟨a,_,H⟩:=List.mem_flatMap.1 e;simp at H;rcases H with rfl|rfl|rfl|rfl<;>rfl
abbrev IV.agg(x:IV):Value:=.agg #[.int .i64 (x.num:Int),.int .i64 x.owner,x.v.val,.int .u64 (x.bX:Int)]
theorem tI:nP Tryz.prog 86 119 4 48 (.agg #[.I 0,.I 0,.Z,.U 0]):=⟨db,db,rfl⟩
theorem uI:Tryz.prog.underlying 86=some (.slice 119):=db
theorem TC:Tryz.prog.underlying 3=some (.int .i64):=db
structure BS where
 items:List It
 next:Nat
 taken:Nat
 rU:Nat
 over:Nat
structure Mm (h:ai) (b:Nat) (X:Ft) (s:BS) (L:List E) (t:cj) (r:Nat) (xs:List IV) (a:Nat) (S:Nat->Prop):Prop where
 cR:h[b]? =some (.cells #[.slice t xs.length r,.int .i64 (s.next:Int),.int .i64 (s.taken:Int),.int .i64 (s.rU:Int),.int .i64 (s.over:Int),.pointer (some ⟨a,0,none⟩)] 145 (0,0))
 own:fy h t xs.length r 4 (xs.flatMap fR)
 al:bR.Al h a S L
 abs:xs.map IV.abs=s.items
 BN: ∀x∈xs,x.v.ok h X.D
 m: ∀c,X.M c↔c=b\/aP t c\/S c
 bl: ¬aP t b
 bs: ¬S b
 ls: ∀c,aP t c->¬S c
 uy: ∀c,X.M c->¬X.D c
 DA: ∀c,X.D c->c<h.size
def Bx(h:ai)(b:Nat)(X:Ft)(s:BS)(L:List E):Prop:= ∃t r xs a S,Mm h b X s L t r xs a S
variable {s : BS} {t : Option Addr} {r a : Nat} {xs : List IV} {S : Nat → Prop}
theorem Mm.lt(H:Mm h b X s L t r xs a S)(y:Nat)(hy:X.M y\/X.D y):y<h.size:=by
 rcases hy with hy|hy
 .rcases(H.m y).1 hy with rfl|h1|h1
  .exact aF H.cR
  .exact H.own.eg h1
  .exact H.al.lt h1
 .exact H.DA y hy
theorem Bx.lt(H:Bx h b X s L)(y:Nat)(e:X.M y\/X.D y):y<h.size:=by
 obtain⟨t,r,xs,a,S,H⟩:=H;exact H.lt y e
theorem Mm.frame{Q:Nat->Prop}(H:Mm h b X s L t r xs a S)(f:Fr Q h h')(j: ∀y,X.M y\/X.D y->¬Q y):Mm h' b X s L t r xs a S:=
 have g: ∀y,X.M y->¬Q y:=λy e=>j y (.inl e)
 ⟨f.get H.cR (g b ((H.m b).2 (.inl rfl))),H.own.frame f (λy e=>g y ((H.m y).2 (.inr (.inl e)))),H.al.frame f (λy e=>g y ((H.m y).2 (.inr (.inr e)))),H.abs,λx k=>(H.BN x k).frame f (λy e=>j y (.inr e)),H.m,H.bl,H.bs,H.ls,H.uy,λy e=>cy (H.DA y e) f.1⟩
theorem Bx.frame{Q:Nat->Prop}(H:Bx h b X s L)(f:Fr Q h h')(e: ∀y,X.M y\/X.D y->¬Q y):Bx h' b X s L:=by
 obtain⟨t,r,xs,a,S,H⟩:=H;exact⟨t,r,xs,a,S,H.frame f e⟩
theorem Mm.on(H:Mm h b X s L t r xs a S)(f:Fr No h h'):Mm h' b X s L t r xs a S:=H.frame f (λ_ _=>id)
theorem Mm.len(H:Mm h b X s L t r xs a S):xs.length=s.items.length:=by rw[<-H.abs,aJ]
theorem fI(H:Mm h b X s L t r xs a S)(hk:R (.bool true) h):ar Tryz.prog 70 #[.P b 0] h R:=
 wx.walk ⟨_,aw H.cR,hk⟩
theorem iH(hk: ∀h' b X,Bx h' b X ⟨[],1,0,0,0⟩ []->Fr No h h'->(∀y,X.M y\/X.D y->h.size<=y)->R (.P b 0) h'):ar Tryz.prog 38 #[] h R:=by
 refine Fm.walk (bR.iH λa S H A1 g f1=>⟨_,rfl,cC ?_⟩);have f2:Fr No H (H.push (.cells #[.Z,.I 1,.I 0,.I 0,.I 0,.P a 0] 145)):=Fr.push _ _;have z:=f1.1;refine hk _ H.size ⟨λy=>y=H.size\/aP none y\/S y,λ_=>False⟩ ⟨none,0, [],a,S,⟨bT,.nil rfl rfl rfl rfl,A1.frame f2 (λ_ _=>id),rfl,(λx f=>by cases f),λ_=>dU,(λ⟨a,e,_⟩=>by cases e),λhs=> ?_,(λy ⟨a,e,_⟩=>by cases e),λ_ _=>id,λ_ hy=>hy.elim⟩⟩ (f1.tt f2) ?_
 .have:=A1.lt hs;omega
 .rintro y ((rfl|⟨a,e,_⟩|hs)|hy)
  .exact z
  .cases e
  .exact g y hs
  .exact hy.elim
theorem qo{x j k:Int}{bs:List UInt8}{n m:Nat}(J:Row h p (bc bs))(f:n=bs.length)(I:bs.length<=70368744177664)(hk: ∀h' P C,fy h' P bs.length C 1 (bc bs)->Fr No h h'->(∀y,aP P y->h.size<=y)->R (.agg #[.I x,.I j,.slice P bs.length C,.U k]) h'):
  ar Tryz.prog 88 #[.agg #[.I x,.I j,.slice p n m,.U k]] h R:=by
 subst f;refine zD.walk (aU.box λb1 W U v f1=>aU.box λB Y V z f2=> ?_);have w:=f2.get v id;refine⟨_,_,_,aw w,gK (J.frame (f1.tt f2) (λ_ _=>id)) rfl I λD l g Q f3 G=>⟨_,_,_,rfl,?_⟩⟩;have l1:=aF v;have l2:=aF z;have K:=f3.get w id;have M:aU.at g B 0 0 none 0 0 0:=f3.get z id;have Z:=f1.1;have z2:=f2.1;have ne:B≠b1:=ae
 refine bB K bM λo E T A=> ?_
 have N:aU.at o b1 x j D bs.length l k:=E;refine aU.ld N ?_;have O:aU.at o B 0 0 none 0 0 0:=(A B ne).trans M;refine aU.set O λu d1 d2 d3=>aU.ld d1 ?_
 have f4:Fr (λy=>y=b1\/y=B) g u:=⟨ae,λy H f=>by rw[d3 y (λe=>f (.inr e)),A y (λe=>f (.inl e))]⟩;have F:Fr No h g:=f1.tt (f2.tt f3);refine hk u D l (Q.frame f4 (λy H e=>cf (G y H))) (F.fresh f4 (λy H=>ae)) (λy H=>cf (G y H))
def uz(owner:Int)(n:Nat)(bX:Int):Bool:=decide (1<=owner) && decide (owner<=1099511627776) && decide (1<=n) && decide (n<=600) && decide (bX<=1099511627776)
theorem xV{owner bX:Int}{n:Nat}:uz owner n bX=true↔1<=owner/\owner<=1099511627776/\1<=n/\n<=600/\bX<=1099511627776:=by simp[uz,and_assoc]
theorem eX{l x k:Int}{n m:Nat}(hk: gW h R (.bool (uz x n k))):
  ar Tryz.prog 280 #[.agg #[.I l,.I x,.slice p n m,.U k]] h R:=by
 refine BM.walk (aU.box λb1 H E e f1=>⟨_,aw e,?_⟩);have hk:=hk H f1;unfold uz at hk;by_cases H:1<=x
 .rw[af (cD H)];refine⟨_,aw e,?_⟩;by_cases f:x<=1099511627776
  .rw[af (cD f)];refine⟨_,_,_,aw e,?_⟩;by_cases g:1<=n
   .rw[af (by simp;omega)];refine⟨_,_,_,aw e,?_⟩;by_cases j:n<=600
    .rw[af (by simp;omega)];refine⟨_,aw e,?_⟩;simpa[H,f,g,j]using hk
    .rw[ag (by simp;omega)];simpa[j]using hk
   .rw[ag (by simp;omega)];simpa[g]using hk
  .rw[ag (cD f)];simpa[f]using hk
 .rw[ag (cD H)];simpa[H]using hk
def wA(xs:List It)(num:Int):Option Nat:=xs.findIdx? (λa=>decide ((a.num:Int)=num))
def pD(xs:List It)(num:Int):Int:=match wA xs num with|some k=>(k:Int)|none=> -1
abbrev xW(h:ai)(b:Nat)(num:Int):Prop:=h[b]? =some (.cells #[.int .i64 num] 3 (0,0))
theorem Lh{b:Nat}{num:Int}(x:IV)(hid:xW h b num)(hk: gW h R (.bool (decide ((x.num:Int)=num)))):ar Tryz.prog 173 #[x.agg,.P b 0] h R:=by
 refine sX.walk (aU.box λb1 H E f f1=>⟨_,aw f,_,aw (f1.get hid (λx=>x)),?_⟩);have e:((x.num:Int)==num)=decide ((x.num:Int)=num):=by
  by_cases q:(x.num:Int)=num<;>simp[q]
 rw[e];exact hk H f1
theorem pE{xs:List IV}{n m b:Nat}{num:Int}(A:Row h p (xs.flatMap fR))(z:n=xs.length)(D:xs.length<=1000000000)(hid:xW h b num)(hk: gW h R (.I (pD (xs.map IV.abs) num))):
  ar Tryz.prog 153 #[.slice p n m,.func (.func 173) #[] #[.P b 0]] h R:=by
 subst z;refine eU.find.walk ?_;refine⟨λi h'=>Fr No h h'/\∃k:Nat,i=(k:Int)/\k<=xs.length/\∀j (H:j<xs.length),j<k->(xs[j].num:Int)≠num,λi _=>xs.length - i.toNat,⟨Fr.refl _ _,0,rfl,ae,λj _ H=>ae⟩,?_⟩;rintro _ l ⟨f1,k,rfl,C,f⟩;have u:=A.frame f1 (λ_ _ x=>x);have y:xW l b num:=f1.get hid (λx=>x);by_cases o:k<xs.length
 .have q1:(k:Int)<(xs.length:Int):=ae
  simp only[q1,bA,bh,aI];have g:xs[k]? =some xs[k]:=aj o;obtain⟨a,rfl⟩:=u.some (λe=>by have:=bY List.length e;rw[eO fR 4 gL,bt]at this;omega);refine⟨⟨ae,by first|trivial|omega⟩,ay.2 (aU.ED (u.gv gL g) ?_)⟩;refine Lh xs[k] y λv f2=>⟨_,rfl,?_⟩
  by_cases e:(xs[k].num:Int)=num
  .simp only[e,bA,bh];have:pD (xs.map IV.abs) num=(k:Int):=by
    unfold pD wA;have:(xs.map IV.abs).findIdx? (λa=>decide ((a.num:Int)=num))=some k:=by
     rw[cv];refine⟨by rw[aJ];exact o,?_,λj H=> ?_⟩
     .rw[List.getElem_map];exact aq e
     .rw[List.getElem_map,Bool.not_eq_true];exact az (f j ae H)
    rw[this]
   rw[this]at hk;exact hk v (f1.tt f2)
  .simp only[e,bk,au,aN];rw[bz ae ae];refine⟨⟨f1.tt f2,k+1,ae,ae,λj H B=> ?_⟩,?_⟩
   .by_cases q:j=k
    .subst q;exact e
    .exact f j H ae
   .show xs.length - Int.toNat ((k:Int)+1)<xs.length - Int.toNat (k:Int);omega
 .have q1: ¬(k:Int)<(xs.length:Int):=ae
  simp only[q1,bk,au,aN];have:pD (xs.map IV.abs) num= -1:=by
   unfold pD wA;have:(xs.map IV.abs).findIdx? (λa=>decide ((a.num:Int)=num))=none:=by
    rw[cV];intro a w;obtain⟨x,g,rfl⟩:=bg.1 w;obtain⟨j,H,rfl⟩:=List.mem_iff_getElem.1 g;exact az (f j H ae)
   rw[this]
  rw[this]at hk;exact hk l f1
theorem ir{num:Int}(H:Mm h b X s L t r xs a S)(g:s.items.length<=1000000000)(hk: gW h R (.I (pD s.items num))):ar Tryz.prog 122 #[.P b 0,.I num] h R:=by
 refine wy.walk (cC ?_);have f1:Fr No h (h.push (.cells #[.I num] 3)):=Fr.push _ _;have e:=H.on f1;have j:=H.len;refine⟨_,_,_,aw e.cR,pE e.own.iT rfl ae bT λf f2=>⟨_,rfl,?_⟩⟩;rw[H.abs];exact hk f (f1.tt f2)
theorem NK{n:Nat}(k:n<=1000000)(hk: ∀P C h',fy h' P 0 C 4 []->Fr No h h'->(∀y,aP P y->h.size<=y)->R (.slice P 0 C) h'):
  ar Tryz.prog 199 #[.Z,.I (n:Int)] h R:=by
 refine iY.walk ?_;simp only[aK];have Q: ¬(n:Int)<0:=ae
 have e1:IntKind.wrap .i64 (((0:Nat):Int) - ((0:Nat):Int))=0:=rfl;have e2:IntKind.wrap .i64 ((n:Int) - 0)=(n:Int):=by rw[bz ae ae];omega
 rw[e1,e2];simp only[Q,bk,au,aN];by_cases H:n=0
 .subst H;rw[ag bM];exact hk none 0 h (.nil rfl rfl rfl rfl) (Fr.refl _ _) (λy ⟨a,e,_⟩=>by cases e)
 .have q1:(n:Int)>0:=ae
  simp only[q1,bA,bh];refine⟨⟨ae,ae⟩,?_⟩;have E:cE none 0 0 4=none:=jB _ _ _;rw[E];refine Lf tI TC ae ae ae λg h' o j f=>⟨_,_,_,rfl,⟨ae,ae⟩,?_⟩
  rw[jB];exact hk _ g h' o f (λy ⟨a,e,e2⟩=>by cases e;exact Nat.le_of_eq e2)
theorem Az{w x:cj}{n1 c1 n2 B:Nat}{u ws:List IV}(D:Row h (some (AA c 0)) [.slice w n1 c1,.slice x n2 B])(U:Row h w (u.flatMap fR))(e1:n1=u.length)(V:Row h x (ws.flatMap fR))(e2:n2=ws.length)(Z:u.length+ws.length<=1000)(hk: ∀P C h',fy h' P (u++ws).length C 4 ((u++ws).flatMap fR)->Fr No h h'->(∀y,aP P y->h.size<=y)->R (.slice P (u++ws).length C) h'):
  ar Tryz.prog 172 #[.slice (some (AA c 0)) 2 2] h R:=by
 subst e1 e2;have c0: ∀{g:ai},Fr No h g->aB g (((AA c 0):Addr).add (0*1))=some (.slice w u.length c1):=λf=>(D.frame f (λ_ _=>id)).cell (j:=0) rfl
 have A: ∀{g:ai},Fr No h g->aB g (((AA c 0):Addr).add (1*1))=some (.slice x ws.length B):=λf=>(D.frame f (λ_ _=>id)).cell (j:=1) rfl
 refine iS.walk ?_;refine⟨λsize i g=>g=h/\((i=0/\size=0)\/(i=1/\size=(u.length:Int))\/(i=2/\size=((u.length+ws.length:Nat):Int))),λ_ i _=>2 - i.toNat,⟨rfl,.inl ⟨rfl,rfl⟩⟩,?_⟩;rintro size i g ⟨rfl,n⟩;rcases n with⟨rfl,rfl⟩|⟨rfl,rfl⟩|⟨rfl,rfl⟩
 .rw[af (by rfl)];refine aK.of λJ m=>⟨⟨ae,ae⟩,ay.2 ⟨_,_,_,c0 (Fr.refl _ _),aK.of λE H=> ?_⟩⟩
  have e:IntKind.wrap .i64 (0+(u.length:Int))=(u.length:Int):=by rw[bz ae ae];omega
  rw[e]at H;rw[e,ag (by simp<;>omega)];subst H;subst m;exact⟨⟨rfl,.inr (.inl ⟨rfl,rfl⟩)⟩,by show 2 - Int.toNat 1<2 - Int.toNat 0;decide⟩
 .rw[af (by rfl)];refine aK.of λJ m=>⟨⟨ae,ae⟩,ay.2 ⟨_,_,_,A (Fr.refl _ _),aK.of λE H=> ?_⟩⟩
  have e:IntKind.wrap .i64 ((u.length:Int)+(ws.length:Int))=((u.length+ws.length:Nat):Int):=by rw[bz ae ae];omega
  rw[e]at H;rw[e,ag (by simp<;>omega)];subst H;subst m;exact⟨⟨rfl,.inr (.inr ⟨rfl,rfl⟩)⟩,by show 2 - Int.toNat 2<2 - Int.toNat 1;decide⟩
 .rw[cW];refine NK ae λp4 W Y Q f4 K=>⟨_,_,_,rfl,?_⟩
  refine⟨λnp nl nc i G=>Fr No g G/\(∀y,aP np y->g.size<=y)/\((i=0/\nl=0/\fy G np nl nc 4 [])\/(i=1/\nl=u.length/\fy G np nl nc 4 (u.flatMap fR))\/(i=2/\nl=(u++ws).length/\fy G np nl nc 4 ((u++ws).flatMap fR))),λ_ _ _ i _=>2 - i.toNat,⟨f4,K,.inl ⟨rfl,rfl,Q⟩⟩,?_⟩;rintro np nl nc i G ⟨F,k,n⟩;rcases n with⟨rfl,rfl,o⟩|⟨rfl,rfl,o⟩|⟨rfl,rfl,o⟩
  .rw[af (by rfl)];refine⟨⟨ae,ae⟩,ay.2 ⟨_,_,_,c0 F,?_⟩⟩;refine dO tI uI o (U.frame F (λ_ _=>id)) (eO fR 4 gL u) (Dz u) ae ae λT I N O _ f6 l=>⟨_,_,_,rfl,?_⟩
   rw[dz,bE]at O;rw[bE];have z:=F.1;exact⟨⟨F.fresh f6 k,(λy v=>(l y v).elim (k y) (λM=>ae)),.inr (.inl ⟨rfl,rfl,O⟩)⟩,by show 2 - Int.toNat 1<2 - Int.toNat 0;decide⟩
  .rw[af (by rfl)];refine⟨⟨ae,ae⟩,ay.2 ⟨_,_,_,A F,?_⟩⟩;refine dO tI uI o (V.frame F (λ_ _=>id)) (eO fR 4 gL ws) (Dz ws) ae ae λT I N O _ f6 l=>⟨_,_,_,rfl,?_⟩
   rw[<-cU,<-aA]at O;rw[<-aA];have z:=F.1;exact⟨⟨F.fresh f6 k,(λy v=>(l y v).elim (k y) (λM=>ae)),.inr (.inr ⟨rfl,rfl,O⟩)⟩,by show 2 - Int.toNat 2<2 - Int.toNat 1;decide⟩
  .rw[cW];exact hk np nc G o F k
theorem I9{L:List E}{k:Int}(hk:k∉keys L):fk L k=L:=by
 unfold fk;rw[cb];intro e H;have:e.1≠k:=λe2=>hk (e2▸br H)
 simpa using this
theorem fy.wW{h:ai}{p:cj}{xs:List IV}{cap l u:Nat}(f:Row h p (xs.flatMap fR))(H:l<=u)(e:u<=cap):Row h (cE p cap l 4) (((xs.take u).drop l).flatMap fR):=by
 have:=f.sub (cap:=cap) (l:=l) (u:=u) (sz:=4) H e;rwa[kW fR 4 gL,mR fR 4 gL]at this
def zE(xs:List It)(i:Nat):List It:=xs.take i++xs.drop (i+1)
theorem BC{x:IV}(H:Mm h b X s L t r xs a S)(hl:s.items.length<=100)(hL:L.length<1000)(g:xs[i]? =some x)(hk: ∀h' Y,Bx h' b Y { s with items:=zE s.items i } (fk L (x.num:Int))->bC X h Y h'->x.v.ok h' Y.D->R x.agg h'):
  ar Tryz.prog 121 #[.P b 0,.I (i:Int)] h R:=by
 have A':=H.len;have hi:=(aC.1 g).1;refine xS.walk (aU.box λb1 h1 y' d' f1=> ?_);have W:=H.on f1;obtain⟨n,o,rfl⟩:=H.own.addr ae;refine⟨_,_,_,aw W.cR,⟨ae,ae⟩,ay.2 (aU.ED (by rw[aI];exact W.own.gv gL g) (aU.new λB j z' b' f2=> ?_))⟩;have w:=W.on f2;have v':aU.at j b1 0 0 none 0 0 0:=f2.get d' id;have z1:=f1.1;have z2:=f2.1;have l1:=aF d';have l2:=aF b';have ne:B≠b1:=ae
 have nX: ∀y,h.size<=y->¬(X.M y\/X.D y):=λy hy g=>by have:=H.lt y g;omega
 refine⟨_,aw w.cR,_,aw b',?_⟩;have rest: ∀f,bR.Al f a S (fk L (x.num:Int))->Fr S j f->
   f[b]? =some (.cells #[.slice (some (AA n o)) xs.length r,.I (s.next:Int),.I (s.taken:Int),.I (s.rU:Int),.I (s.over:Int),.P a 0] 145 (0,0))/\
   Row f (some (AA n o)) (xs.flatMap fR)/\aU.at f b1 0 0 none 0 0 0/\aU.at f B (x.num:Int) x.owner x.v.p x.v.b.length x.v.c (x.bX:Int):=by
  intro f A f7;have nS: ∀y,h.size<=y->¬S y:=λy hy F=>by have:=H.al.lt F;omega
  exact⟨f7.get w.cR H.bs,w.own.iT.frame f7 (λa' ea F=>H.ls _ ⟨a',ea,rfl⟩ F),f7.get v' (nS b1 ae),f7.get b' (nS B ae)⟩
 have fin: ∀f,bR.Al f a S (fk L (x.num:Int))->Fr S j f->∀P C k,Fr No f k->fy k P (xs.take i++xs.drop (i+1)).length C 4 ((xs.take i++xs.drop (i+1)).flatMap fR)->(∀y,aP P y->f.size<=y)->
   aE k (AA b 0) (.slice P (xs.take i++xs.drop (i+1)).length C) λD=>
    ∃(m':Int),aB D (AA B 0)=some (.I m')/\∃(n':Int),aB D (AA B 1)=some (.I n')/\∃(q':cj)(p' o':Nat),aB D (AA B 2)=some (.slice q' p' o')/\∃(r':Int),aB D (AA B 3)=some (.U r')/\
    aE D (AA b1 0) (.I m') λs'=>
    aE s' (AA b1 1) (.I n') λt'=>
    aE t' (AA b1 2) (.slice q' p' o') λu'=>
    aE u' (AA b1 3) (.U r') λE=>
    ∃(f':Int),aB E (AA b1 0)=some (.I f')/\∃(g':Int),aB E (AA b1 1)=some (.I g')/\∃(k':cj)(j' i':Nat),aB E (AA b1 2)=some (.slice k' j' i')/\∃(l':Int),aB E (AA b1 3)=some (.U l')/\
    R (.agg #[.I f',.I g',.slice k' j' i',.U l']) E:=by
  intro f A f7 P C k f9 O G;obtain⟨K,_,k3,k4⟩:=rest f A f7;have lb:=aF H.cR;have z7:=f7.1;have z9:=f9.1;refine bB (f9.get K id) bM λz a1 a2 Z=> ?_
  have i2:aU.at z B (x.num:Int) x.owner x.v.p x.v.b.length x.v.c (x.bX:Int):=(Z B ae).trans (f9.get k4 id);refine aU.ld i2 ?_;have i1:aU.at z b1 0 0 none 0 0 0:=(Z b1 ae).trans (f9.get k3 id);refine aU.set i1 λQ d1 d2 d3=>aU.ld d1 ?_
  have f10:Fr (λy=>y=b) k z:=Fr.of_eq a2 Z;have f14:Fr (λy=>y=b1) z Q:=Fr.of_eq d2 d3;have F2:Fr No h j:=f1.tt f2;have F7:Fr S h f:=Fr.no F2 f7;have F9:Fr S h k:=F7.tt (f9.mono (λ_ _ g=>g.elim));have U:Fr (λy=>S y\/y=b) h z:=(F9.mono (λ_ _ g=> .inl g)).tt (f10.mono (λ_ _ g=> .inr g));have V:Fr X.M h Q:=by
   refine⟨cJ U.1 f14.1,λy hy hn=> ?_⟩;rw[f14.2 y (cy hy U.1) (λe=>ae),U.2 y hy (λg=>hn ((H.m y).2 (g.elim (λh=> .inr (.inr h)) .inl)))]
  have w': ∀y,aP P y->¬S y:=λy hy F=>by have:=G y hy;have:=H.al.lt F;omega
  have e': ∀y,aP P y->y≠b:=λy hy e=>by have:=G y hy;omega
  have x': ∀y,aP P y->y≠b1:=λy hy e=>by have:=G y hy;omega
  have c': ∀v:IV,v∈xs->v.v.ok Q X.D:=λv hv=>(H.BN v hv).frame V (λy hd T=>H.uy y T hd)
  refine hk Q ⟨λy=>y=b\/aP P y\/S y,X.D⟩ ⟨P,C,xs.take i++xs.drop (i+1),a,S,⟨?_,(O.frame f10 e').frame f14 x',?_,?_,?_,λ_=>dU,λg=>e' b g rfl,H.bs,w',?_,λy hy=>cy (H.DA y hy) V.1⟩⟩ ⟨V,?_,λ_=> .inl,λ_=>id⟩ (c' x (bj g))
  .rw[d3 b ae,a1];simp
  .have A9:=A.frame f9 (λ_ _=>id);exact(A9.frame f10 (λy hy e=>H.bs (e▸hy))).frame f14 (λy hy e=>cf (H.al.lt hy))
  .show _=zE s.items i;unfold zE;rw[<-H.abs,bf,List.map_take,List.map_drop]
  .intro v hv;refine c' v ?_;rcases bJ.1 hv with hv|hv
   .exact List.mem_of_mem_take hv
   .exact List.mem_of_mem_drop hv
  .rintro y (rfl|hy|hy) hd
   .exact H.uy _ ((H.m _).2 (.inl rfl)) hd
   .have:=G y hy;have:=H.DA y hd;omega
   .exact H.uy _ ((H.m _).2 (.inr (.inr hy))) hd
  .rintro y (rfl|hy|hy)
   .exact .inl ((H.m _).2 (.inl rfl))
   .right;have:=G y hy;omega
   .exact .inl ((H.m _).2 (.inr (.inr hy)))
 have ew:IntKind.wrap .i64 ((i:Int)+1)=((i+1:Nat):Int):=by rw[bz ae ae];omega
 have cap:=H.own.le;rw[ew];simp only[aI,Nat.sub_zero];refine bR.oi w.al ae _ (λT f A f7=>⟨_,rfl,?_⟩) (λT=>⟨_,rfl,?_⟩)
 .obtain⟨K,k2,k3,k4⟩:=rest f A f7;refine⟨_,_,_,aw K,⟨ae,ae⟩,_,_,_,aw K,⟨ae,ae⟩,cC ?_⟩;have f8:Fr No f (f.push (.cells #[.slice (cE (some (AA n o)) r 0 4) i r,.slice (cE (some (AA n o)) r (i+1) 4) (xs.length - (i+1)) (r - (i+1))] 86)):=Fr.push _ _;have m:=f8.get K id;refine⟨aw m,aw m,?_⟩;have J:=k2.frame f8 (λ_ _=>id);have M:=fy.wW (l:=0) (u:=i) (cap:=r) J ae ae;have N:=fy.wW (l:=i+1) (u:=xs.length) (cap:=r) J ae ae;rw[fY]at M;rw[fi]at N;refine Az jq M (by rw[bF];omega) N (by rw[bN]) (by rw[bF,bN];omega) λP C k O f9 G=>⟨_,_,_,rfl,?_⟩
  have I:=f9.get m id;exact⟨aw I,aw I,fin f A f7 P C k (f8.tt f9) O (λy hy=>by have:=G y hy;rw[dN]at this;omega)⟩
 .have A:bR.Al j a S (fk L (x.num:Int)):=by
   rw[I9 T];exact w.al
  have f7:Fr S j j:=Fr.refl _ _;obtain⟨K,k2,k3,k4⟩:=rest j A f7;refine⟨_,_,_,aw K,⟨ae,ae⟩,_,_,_,aw K,⟨ae,ae⟩,cC ?_⟩;have f8:Fr No j (j.push (.cells #[.slice (cE (some (AA n o)) r 0 4) i r,.slice (cE (some (AA n o)) r (i+1) 4) (xs.length - (i+1)) (r - (i+1))] 86)):=Fr.push _ _;have m:=f8.get K id;refine⟨aw m,aw m,?_⟩;have J:=k2.frame f8 (λ_ _=>id);have M:=fy.wW (l:=0) (u:=i) (cap:=r) J ae ae;have N:=fy.wW (l:=i+1) (u:=xs.length) (cap:=r) J ae ae;rw[fY]at M;rw[fi]at N;refine Az jq M (by rw[bF];omega) N (by rw[bN]) (by rw[bF,bN];omega) λP C k O f9 G=>⟨_,_,_,rfl,?_⟩
  have I:=f9.get m id;exact⟨aw I,aw I,fin j A f7 P C k (f8.tt f9) O (λy hy=>by have:=G y hy;rw[dN]at this;omega)⟩
end gC
end
section
open Go.fQ Go.jC
namespace gC
open bR (iM)
variable {L:List E} {s:BS} {items:List It} {now:Int}
variable {num:Int}
def It.kv(x:It):E:=((x.num:Int),(x.bX:Int))
structure okB (s:BS) (L:List E):Prop where
 le:s.items.length<=16
 pm:L.Perm (s.items.map It.kv)
 it: ∀x∈s.items,1<=x.num/\x.num<s.next/\1<=x.d.length/\x.d.length<=600/\1<=x.owner/\x.owner<=1099511627776/\x.bX<=1099511627776
 inc:(s.items.map It.num).Pairwise (· < ·)
 xX:s.next=1+s.items.length+s.taken+s.rU+s.over
theorem okB.nil:okB ⟨[],1,0,0,0⟩ []:=⟨bM,.refl _,bM,.nil,rfl⟩
def pF(items:List It)(num:Int):List It:=items.filter (λy=> !decide ((y.num:Int)=num))
theorem pG: ∀{items:List It}{i:Nat}{x:It},(items.map It.num).Pairwise (· < ·)->items[i]? =some x->zE items i=pF items (x.num:Int)
 | [],i,x,_,h=>by simp at h
 |y::r,0,x,H,h=>by
  simp at h;subst h;rw[bV,dx]at H;unfold zE pF;rw[bU];simp only[bA,cQ,au,aN,dM,dz,List.drop_succ_cons,fY];symm
  rw[cb];intro z b;have:=H.1 z.num (br b);have: ¬(z.num:Int)=(y.num:Int):=ae
  simp[this]
 |y::r,i+1,x,H,h=>by
  rw[bV,dx]at H;rw[dq]at h;have I:=pG H.2 h;have c:=H.1 x.num (br (bj h));have a: ¬(y.num:Int)=(x.num:Int):=ae
  unfold zE pF at I⊢;rw[bU];simp only[a,bk,eh,bh,fF,List.drop_succ_cons,dB];rw[I]
theorem xY(h:L.Perm (items.map It.kv)):(fk L num).Perm ((pF items num).map It.kv):=by
 have:=h.filter (λe=> !(e.1==num));unfold fk;refine this.trans ?_;rw[dk];refine List.Perm.of_eq ?_;unfold pF;refine bY _ (dG ?_);intro x _;show(!((x.num:Int)==num))=_;by_cases q:(x.num:Int)=num<;>simp[q]
theorem okB.sub{i:List It}{l:List E}{t c o:Nat}(ok:okB s L)(h:i.Sublist s.items)(a:l.Perm (i.map It.kv))(H:s.next=1+i.length+t+c+o):okB ⟨i,s.next,t,c,o⟩ l:=
 ⟨cJ h.length_le ok.le,a,λx b=>ok.it x (h.subset b),ok.inc.sublist (h.map _),H⟩
theorem xZ{i:Nat}(h:wA items num=some i): ∃x,items[i]? =some x/\(x.num:Int)=num:=by
 unfold wA at h;rw[cv]at h;obtain⟨H,a,_⟩:=h;exact⟨_,aj H,cD a⟩
theorem Lj(h:wA items num=none): ∀x∈items,(x.num:Int)≠num:=by
 unfold wA at h;rw[cV]at h;intro x H;simpa using h x H
theorem uniq(h:(items.map It.num).Pairwise (· < ·)){x y:It}(H:x∈items)(a:y∈items)(e:x.num=y.num):x=y:=by
 induction items with
 |nil=>cases H
 |cons z r i=>
  rw[bV,dx]at h;rcases bD.1 H with e1|U6
  .rcases bD.1 a with e2|TD
   .rw[e1,e2]
   .have:=h.1 y.num (br TD);rw[e1]at e;omega
  .rcases bD.1 a with e2|TD
   .have:=h.1 x.num (br U6);rw[e2]at e;omega
   .exact i h.2 U6 TD
theorem fJ: ∀{L:List E},iI L->bR.due L now=L.filter (iM now)/\bR.rest L now=L.filter (λe=> !iM now e)
 | [],_=>⟨rfl,rfl⟩
 |e::r,c=>by
  have b:=dx.1 c;obtain⟨i1,i2⟩:=fJ (L:=r) b.2;unfold bR.due at i1⊢;unfold bR.rest at i2⊢;by_cases a:iM now e=true
  .rw[List.takeWhile_cons,List.dropWhile_cons,bU,bU,a];simp only[bh,cQ,au,aN];rw[i1,i2];exact⟨rfl,rfl⟩
  .have H:iM now e=false:=by simpa using a
   have all: ∀x∈r,iM now x=false:=by
    intro x h;have h1:=b.1 x h;unfold iM at H⊢;have d:=fj H;apply az
    rcases h1 with h1|h1<;>omega
   rw[List.takeWhile_cons,List.dropWhile_cons,bU,bU,H];simp only[au,aN,eh,bh];refine⟨?_,?_⟩
   .symm;rw[List.filter_eq_nil_iff];intro x h;rw[all x h];simp
   .congr 1;symm;rw[cb];intro x h;rw[all x h];rfl
def mE(items:List It)(K:List Int):List It:=items.filter (λx=>decide ((x.num:Int)∉K))
theorem Lk:mE items []=items:=by unfold mE;simp
theorem Ll{K:List Int}{k:Int}:pF (mE items K) k=mE items (K++ [k]):=by
 unfold pF mE;rw[List.filter_filter];apply dG
 intro x _;by_cases h:(x.num:Int)=k
 .simp[h]
 .by_cases H:(x.num:Int)∈K<;>simp[h,H]
theorem Lm(ok:okB s L)(so:iI L)(nd:(keys L).Nodup):mE s.items (keys (bR.due L now))=s.items.filter (λx=>decide (now<(x.bX:Int))):=by
 obtain⟨e1,_⟩:=fJ (now:=now) so;unfold mE;apply dG
 intro x a;have c:x.kv∈L:=ok.pm.mem_iff.2 (br a);by_cases H:now<(x.bX:Int)
 .simp only[H,bA,aY];intro hk;rw[e1]at hk;obtain⟨e,b,E⟩:=bg.1 hk;have h:=aW.1 b;obtain⟨y,d,rfl⟩:=bg.1 (ok.pm.mem_iff.1 h.1);have:y=x:=uniq ok.inc d a (by have:(y.num:Int)=(x.num:Int):=E;omega);subst this;have:=aQ h.2;unfold It.kv at this;dsimp only at this;omega
 .simp only[H,bk,ee,Classical.not_not];rw[e1];refine bg.2 ⟨x.kv,aW.2 ⟨c,aq ?_⟩,rfl⟩;unfold It.kv;dsimp only;omega
theorem AB(ok:okB s L)(so:iI L):(bR.rest L now).Perm ((s.items.filter (λx=>decide (now<(x.bX:Int)))).map It.kv):=by
 rw[(fJ (now:=now) so).2];refine(ok.pm.filter _).trans (List.Perm.of_eq ?_);rw[dk];congr 1
 apply dG
 intro x _;show(!decide ((x.bX:Int)<=now))=_;by_cases q:now<(x.bX:Int)
 .simp[q]
 .simp[q];omega
theorem Ln(ok:okB s L)(so:iI L):(bR.due L now).Perm ((s.items.filter (λx=>decide ((x.bX:Int)<=now))).map It.kv):=by
 rw[(fJ (now:=now) so).1];refine(ok.pm.filter _).trans (List.Perm.of_eq ?_);rw[dk];rfl

end gC
end
section
variable {h:ai} {R:fx}
variable {p:Nat} {owner n:Int}
theorem uB.walk(H: ∃t9,Cc h p 2 (.map t9)/\R (.bool (!t9.isNone)) h):ar Tryz.prog 174 #[.P p 0] h R:=aR (lq ll) Tryz.func174 H
theorem Ja.walk{w:Int}{s:Int}(d:aK (λ(t20:Bool) (H:ai)=>if t20 then R (.tuple #[.pointer none,.I 1]) H else aS H (.map #[] 0) λb a=>aS a (.cells #[.I w,.I s,.map (some b),.I 0] 169) λB c=>R (.tuple #[.P B 0,.I 0]) c) (λJ=>if(decide (w<1))then J true h else if(decide (w>1048576))then J true h else if(decide (s<1))then J true h else J (decide (s>w)) h)):ar Tryz.prog 34 #[.I w,.I s] h R:=aR (lq (sq (sq (.join [(20,.one (.bool))] lf) (cq ll lf)) ll)) Tryz.func34 d
theorem wB.walk(b:Cl 174 #[.P p 0] h λv H=> ∃t9,v=.bool t9/\if(!t9)then R (.I 6) H else aK (λ(t11:Bool) (a:ai)=>if t11 then R (.I 1) a else R (.I 0) a) (λJ=>if(decide (owner<1))then J true H else if(decide (owner>1099511627776))then J true H else J (decide (n<0)) H)):ar Tryz.prog 123 #[.P p 0,.I owner,.I n] h R:=aR (lq (sq (bq (lq (cq ll (sq (.join [(11,.one (.bool))] lf) (cq ll lf))))) ll)) Tryz.func123 b
theorem uC.walk (e:Cl 123 #[.P p 0,.I owner,.I n] h λv H=> ∃t11,v=.I t11/\if(t11 !=0)then R (.I t11) H else aK (λ(t40:Bool) (a:ai)=>if t40 then R (.I 15) a else aK (λ(c:ai)=>R (.I 0) c) (λj=>if(decide (n>0))then∃t46,Cc a p 2 (.map t46)/\∃t48,gP Tryz.prog 167 (.map t46) (.I owner) false a (.I t48)/\aV Tryz.prog (Instr.mapUpdate 167 (.map t46) (.I owner) (.I (wrap .i64 (t48+n)))) a λ_ b=> ∃t54,Cc b p 3 (.I t54)/\aE b (AA p 3) (.I (wrap .i64 (t54+n))) λd=>j d else j a)) (λJ=>Hi H p 1 λt19=> ∃t23,Cc H p 2 (.map t23)/\∃t25,gP Tryz.prog 167 (.map t23) (.I owner) false H (.I t25)/\if(decide (n>(wrap .i64 (t19 - t25))))then J true H else Hi H p 0 λt33=> ∃t37,Cc H p 3 (.I t37)/\J (decide (n>(wrap .i64 (t33 - t37)))) H)):ar Tryz.prog 241 #[.P p 0,.I owner,.I n] h R:=aR (lq (sq (lq (lq (cq ll lf))) (sq (sq (.join [(40,.one (.bool))] (pN 26)) (cq ll lf)) (sq (lq (.join [] (cq ll lf))) ll)))) Tryz.func241 e
theorem uD.walk (a:Cl 123 #[.P p 0,.I owner,.I n] h λv H=> ∃t10,v=.I t10/\if(t10==0)then Hi H p 1 λt17=> ∃t21,Cc H p 2 (.map t21)/\∃t23,gP Tryz.prog 167 (.map t21) (.I owner) false H (.I t23)/\if(decide (n<=(wrap .i64 (t17 - t23))))then Hi H p 0 λt32=> ∃t36,Cc H p 3 (.I t36)/\R (.bool (decide (n<=(wrap .i64 (t32 - t36))))) H else R (.bool false) H else R (.bool false) H):ar Tryz.prog 239 #[.P p 0,.I owner,.I n] h R:=aR (lq (sq (pN 34) lf)) Tryz.func239 a
theorem uE.walk(e:Cl 123 #[.P p 0,.I owner,.I n] h λv H=> ∃t11,v=.I t11/\if(t11 !=0)then R (.I t11) H else∃t19,Cc H p 2 (.map t19)/\∃t21,gP Tryz.prog 167 (.map t19) (.I owner) false H (.I t21)/\if(decide (n>t21))then R (.I 7) H else∃t26,Cc H p 3 (.I t26)/\aE H (AA p 3) (.I (wrap .i64 (t26 - n))) λb=> ∃t34,Cc b p 2 (.map t34)/\∃t36,gP Tryz.prog 167 (.map t34) (.I owner) false b (.I t36)/\aV Tryz.prog (Instr.mapUpdate 167 (.map t34) (.I owner) (.I (wrap .i64 (t36 - n)))) b λ_ a=> ∃t42,Cc a p 2 (.map t42)/\∃t44,gP Tryz.prog 167 (.map t42) (.I owner) false a (.I t44)/\aK (λ(c:ai)=>R (.I 0) c) (λJ=>if(t44==0)then∃t49,Cc a p 2 (.map t49)/\aV Tryz.prog (Builtin.delete_ #[167,3] 0 #[.map t49,.I owner]) a λV d=>V=.tuple #[]/\J d else J a)):ar Tryz.prog 55 #[.P p 0,.I owner,.I n] h R:=aR (lq (sq (lq (lq (cq ll lf))) (sq (lq (cq ll lf)) (lq (lq (sq (lq (.join [] (cq lf lf))) ll)))))) Tryz.func55 e

end
section
namespace kJ
theorem tm:pg Tryz.prog 167 (.I 0):=.of 3 3 .i64 db db db
def fU(h:ai)(p m:Nat)(W S A:Int)(f:Int->Int):Prop:=
 h[p]? =some (.cells #[.int .i64 W,.int .i64 S,.map (some m),.int .i64 A] 169 (0,0))/\
 ∃g:Int->Option Value,lX h m g/\∀k,(g k).getD (.int .i64 0)=.int .i64 (f k)
def Ok(W S A:Int)(f:Int->Int):Prop:=1<=S/\S<=W/\W<=1048576/\ -2000000000000<=A/\A<=W/\∀k,0<=f k/\f k<=S
variable {h : ai} {p m : Nat} {W S A : Int} {f : Int → Int} {R : Value → ai → Prop}
theorem fU.frame{Q:Nat->Prop}{h':ai}(i:fU h p m W S A f)(H:Fr Q h h')(a: ¬Q p)(b: ¬Q m):fU h' p m W S A f:=by
 obtain⟨c,g,d,e⟩:=i;exact⟨H.get c a,g,d.frame H b,e⟩
theorem fU.ne(d:fU h p m W S A f):p≠m:=by
 obtain⟨a,g,b,_⟩:=d;obtain⟨es,c,H⟩:=b.map;rintro rfl;rw[a]at H;cases H
theorem fU.lt(H:fU h p m W S A f):p<h.size/\m<h.size:=⟨aF H.1,by obtain⟨_,g,a,_⟩:=H;exact a.lt⟩
theorem fU.ext{F:Int->Int}(d:fU h p m W S A f)(a: ∀k,F k=f k):fU h p m W S A F:=by
 obtain⟨H,g,b,c⟩:=d;exact⟨H,g,b,λk=>by rw[a];exact c k⟩
theorem fI(H:fU h p m W S A f)(hk:R (.bool true) h):ar Tryz.prog 174 #[.P p 0] h R:=
 uB.walk ⟨some m,aw H.1,hk⟩
theorem look(b:fU h p m W S A f)(o:Int):gP Tryz.prog 167 (.map (some m)) (.I o) false h (.I (f o)):=by
 obtain⟨_,g,H,a⟩:=b;have:=Ag tm H o;rw[a]at this;exact this
def may(o n:Int):Bool:=decide (1<=o) && decide (o<=1099511627776) && decide (0<=n)
def iu(o n:Int):Int:=if may o n=true then 0 else 1
theorem kN{o n:Int}:may o n=true↔1<=o/\o<=1099511627776/\0<=n:=by simp[may,and_assoc]
theorem uF(c:fU h p m W S A f)(o n:Int)(hk:R (.I (iu o n)) h):ar Tryz.prog 123 #[.P p 0,.I o,.I n] h R:=by
 refine wB.walk (fI c ⟨true,rfl,?_⟩);simp only[aK];unfold iu may at hk;by_cases H:o<1
 .simpa[H,show¬1<=o by omega]using hk
 .by_cases a:o>1099511627776
  .simpa[H,a,show¬o<=1099511627776 by omega]using hk
  .by_cases b:n<0
   .simpa[H,a,b,show¬0<=n by omega]using hk
   .simpa[H,a,b,show 1<=o by omega,show o<=1099511627776 by omega,show 0<=n by omega]using hk
def fits(W S A:Int)(f:Int->Int)(o n:Int):Bool:=may o n && decide (n<=S - f o) && decide (n<=W - A)
def O4(W S A:Int)(f:Int->Int)(o n:Int):Int:=if may o n=true then(if fits W S A f o n=true then 0 else 15)else 1
def jx(f:Int->Int)(o n:Int):Int->Int:=λk=>if k=o then f k+n else f k
theorem DB{o n:Int}:fits W S A f o n=true↔(1<=o/\o<=1099511627776/\0<=n)/\n<=S - f o/\n<=W - A:=by
 simp[fits,kN,and_assoc]
theorem Ok.take{o n:Int}(ok:Ok W S A f)(H:fits W S A f o n=true):Ok W S (A+n) (jx f o n):=by
 obtain⟨o1,o2,O,j,l,a⟩:=ok;obtain⟨⟨b,c,d⟩,g,i⟩:=DB.1 H;refine⟨o1,o2,O,ae,ae,λk=> ?_⟩;have:=a k;unfold jx;split
 .rename_i e;subst e;omega
 .exact this
theorem NL(H:fU h p m W S A f)(ok:Ok W S A f)(o n:Int)(u:fits W S A f o n=true->∀h',fU h' p m W S (A+n) (jx f o n)->Fr (λc=>c=p\/c=m) h h'->R (.I 0) h')(K:fits W S A f o n=false->R (.I (O4 W S A f o n)) h):
  ar Tryz.prog 241 #[.P p 0,.I o,.I n] h R:=by
 obtain⟨o1,o2,I,J,L,O⟩:=ok;have of:=O o;refine uC.walk (uF H o n ⟨_,rfl,?_⟩);unfold O4 at K;unfold iu;cases b:may o n with
 |false=>
  have:=K (by simp[fits,b]);simpa[b]using this
 |true=>
  have E:=kN.1 b;simp only[bh,bne_self_eq_false,au,aN,aK];refine⟨S,aw H.1,some m,aw H.1,f o,look H o,?_⟩;rw[bz ae ae];by_cases d:n>S - f o
  .have a:fits W S A f o n=false:=by simp[fits,show¬n<=S - f o by omega]
   have:=K a;simpa[d,b,a]using this
  .simp only[d,bk,au,aN];refine⟨W,aw H.1,A,aw H.1,?_⟩;rw[bz ae ae];by_cases i:n>W - A
   .have a:fits W S A f o n=false:=by simp[fits,show¬n<=W - A by omega]
    have:=K a;simpa[i,b,a]using this
   .have a:fits W S A f o n=true:=by simp[fits,b,show n<=S - f o by omega,show n<=W - A by omega]
    simp only[i,bk,au,aN];by_cases j:n>0
    .simp only[j,bA,bh];refine⟨some m,aw H.1,f o,look H o,?_⟩;rw[bz ae ae];have r:=H.ne;obtain⟨w,g,y,B⟩:=H;refine lA tm y ?_;intro D z F s;have l:=(s p r).trans w;refine⟨A,aw l,?_⟩;rw[bz ae ae];refine bB l bM ?_;intro v x G t;refine u a v ⟨x,_,z.lu (t m (e6 r)),λk=> ?_⟩ (Fr.of_eq ae λc q=> ?_)
     .unfold jx;by_cases hk:k=o
      .simp[hk]
      .simp[hk,B]
     .rw[t c (λe=>q (.inl e)),s c (λe=>q (.inr e))]
    .have C:n=0:=ae
     simp only[j,bk,au,aN];refine u a h ?_ (Fr.refl _ _);subst C;rw[Int.add_zero];exact H.ext λk=>by unfold jx;split<;>omega
theorem NM(H:fU h p m W S A f)(ok:Ok W S A f)(o n:Int)(hk:R (.bool (fits W S A f o n)) h):ar Tryz.prog 239 #[.P p 0,.I o,.I n] h R:=by
 obtain⟨o1,o2,c,d,e,O⟩:=ok;have of:=O o;refine uD.walk (uF H o n ⟨_,rfl,?_⟩);unfold iu;unfold fits at hk;cases b:may o n with
 |false=>simpa[b]using hk
 |true=>
  simp only[bh,eP];refine⟨S,aw H.1,some m,aw H.1,f o,look H o,?_⟩;rw[bz ae ae];by_cases a:n<=S - f o
  .simp only[a,bA,bh];refine⟨W,aw H.1,A,aw H.1,?_⟩;rw[bz ae ae];simpa[b,a]using hk
  .simpa[b,a]using hk
def pH(f:Int->Int)(o n:Int):Bool:=may o n && decide (n<=f o)
def O5(f:Int->Int)(o n:Int):Int:=if may o n=true then(if pH f o n=true then 0 else 7)else 1
theorem Jb{o n:Int}:pH f o n=true↔(1<=o/\o<=1099511627776/\0<=n)/\n<=f o:=by simp[pH,kN,and_assoc]
theorem NN(d:fU h p m W S A f)(ok:Ok W S A f)(o n:Int)(C:pH f o n=true->∀h',fU h' p m W S (A - n) (jx f o (-n))->Fr (λc=>c=p\/c=m) h h'->R (.I 0) h')(K:pH f o n=false->R (.I (O5 f o n)) h):
  ar Tryz.prog 55 #[.P p 0,.I o,.I n] h R:=by
 obtain⟨o1,o2,U,V,X,O⟩:=ok;have of:=O o;refine uE.walk (uF d o n ⟨_,rfl,?_⟩);unfold O5 at K;unfold iu;cases b:may o n with
 |false=>
  have:=K (by simp[pH,b]);simpa[b]using this
 |true=>
  have N:=kN.1 b;simp only[bh,bne_self_eq_false,au,aN];refine⟨some m,aw d.1,f o,look d o,?_⟩;by_cases v:n>f o
  .have a:pH f o n=false:=by simp[pH,show¬n<=f o by omega]
   have:=K a;simpa[v,b,a]using this
  .have a:pH f o n=true:=by simp[pH,b,show n<=f o by omega]
   simp only[v,bk,au,aN];have r:=d.ne;obtain⟨w,g,G,q⟩:=d;refine⟨A,aw w,?_⟩;rw[bz ae ae];refine bB w bM ?_;intro D l P s;have x:=G.lu (s m (e6 r));have L:fU D p m W S (A - n) f:=⟨l,g,x,q⟩;refine⟨some m,aw l,f o,look L o,?_⟩;rw[bz ae ae];refine lA tm x ?_;intro j y Q t;have i:=(t p r).trans l;have B:fU j p m W S (A - n) (jx f o (-n)):=⟨i,_,y,λk=>by
    unfold jx;by_cases hk:k=o
    .simp[hk,Int.sub_eq_add_neg]
    .simp[hk,q]⟩
   have F:Fr (λc=>c=p\/c=m) h j:=Fr.of_eq ae λc H=>by rw[t c (λe=>H (.inr e)),s c (λe=>H (.inl e))]
   have J:=look B o;refine⟨some m,aw i,jx f o (-n) o,J,?_⟩;simp only[aK];by_cases u:jx f o (-n) o=0
   .simp only[u,eP,bh];refine⟨some m,aw i,?_⟩;refine vE tm y ?_;intro E I T z;refine⟨rfl,C a E ⟨(z p r).trans i,_,I,λk=> ?_⟩ (Fr.of_eq ae λc H=> ?_)⟩
    .by_cases hk:k=o
     .subst hk;simp[u]
     .simp[hk,q,jx]
    .rw[z c (λe=>H (.inr e)),t c (λe=>H (.inr e)),s c (λe=>H (.inl e))]
   .have M:(jx f o (-n) o==0)=false:=by simpa using u
    simp only[M,au,aN];exact C a j B F
def vT(W S:Int):Bool:=decide (1<=W) && decide (W<=1048576) && decide (1<=S) && decide (S<=W)
theorem Jc:vT W S=true↔1<=W/\W<=1048576/\1<=S/\S<=W:=by simp[vT,and_assoc]
theorem iH(W S:Int){h:ai}(K:vT W S=true->∀h' p m,fU h' p m W S 0 (λ_=>0)->h.size<=p->h.size<=m->Fr No h h'->R (.tuple #[.P p 0,.I 0]) h')(k:vT W S=false->R (.tuple #[.pointer none,.I 1]) h):ar Tryz.prog 34 #[.I W,.I S] h R:=by
 refine Ja.walk ?_;simp only[aK];by_cases a:W<1
 .simpa only[a,bA,bh]using k (by simp[vT,show¬1<=W by omega])
 .simp only[a,bk,au,aN];by_cases c:W>1048576
  .simpa only[c,bA,bh]using k (by simp[vT,show¬W<=1048576 by omega])
  .simp only[c,bk,au,aN];by_cases d:S<1
   .simpa only[d,bA,bh]using k (by simp[vT,show¬1<=S by omega])
   .simp only[d,bk,au,aN];by_cases e:S>W
    .simpa only[e,bA,bh]using k (by simp[vT,show¬S<=W by omega])
    .simp only[e,bk,au,aN];rintro b g rfl rfl b1 i rfl rfl;refine K (Jc.2 ae) _ _ h.size ⟨bT,λ_=>none,?_,λ_=>rfl⟩ bM bM ?_
     .exact(lX.push h).frame (Fr.push (S:=λ_=>False) _ _) bM
     .exact(Fr.push (S:=λ_=>False) h _).trans (Fr.push (S:=λ_=>False) _ _) (λ_ _ H=>H) (λ_ _ H=>H)
end kJ
end
section
namespace eI
open gC (It)
variable {l L:List It} {x:It} {o:Int}
def vu(l:List It):Int:=(l.map (λx=>(x.d.length:Int))).sum
def own(l:List It)(o:Int):Int:=vu (l.filter (λx=>decide (x.owner=o)))
theorem x3(p:l.Perm L):vu l=vu L:=by
 induction p with
 |nil=>rfl
 |cons x _ i=>unfold vu at i⊢;simp only[bV,List.sum_cons];omega
 |swap x y l=>unfold vu;simp only[bV,List.sum_cons];omega
 |trans _ _ H a=>exact H.trans a
theorem x4(p:l.Perm L):own l=own L:=funext λo=>x3 (p.filter _)
theorem iV:vu (x::l)=x.d.length+vu l:=by unfold vu;rw[bV,List.sum_cons]
theorem lH:own (x::l) o=(if x.owner=o then(x.d.length:Int)else 0)+own l o:=by
 unfold own;rw[bU];split<;>rename_i h
 .rw[iV,af (aQ h)]
 .rw[ag (λe=>h (aq e))];omega
theorem Fo:0<=vu l:=by
 induction l with
 |nil=>exact dW _
 |cons x l i=>rw[iV];omega
theorem Fq:0<=own l o:=Fo
theorem QB(H:x∈l):(x.d.length:Int)<=own l x.owner:=by
 obtain⟨a,b,rfl⟩:=List.append_of_mem H;rw[x4 List.perm_middle,lH,af rfl];have:=Fq (l:=a++b) (o:=x.owner);omega
abbrev qY(l:List It):Prop:=kJ.Ok 4800 1600 (vu l) (own l)
theorem qY.perm(ok:qY l)(p:l.Perm L):qY L:=by
 unfold qY;rw[<-x3 p,<-x4 p];exact ok
theorem qY.sub(ok:qY (x::l)):qY l:=by
 obtain⟨a,b,c,d,e,f⟩:=ok;rw[iV]at d e;have:=Fo (l:=l);refine⟨a,b,c,ae,ae,λk=>⟨Fq,?_⟩⟩;have:=(f k).2;rw[lH]at this;split at this<;>omega
theorem qY.nil:qY []:=⟨cM,cM,cM,cM,cM,λ_=>⟨dW 0,show(0:Int)<=1600 by decide⟩⟩
theorem G3:kJ.jx (own l) x.owner (x.d.length:Int)=own (x::l):=by
 funext k
 unfold kJ.jx;rw[lH];by_cases e:k=x.owner
 .rw[af e,af e.symm];omega
 .rw[ag e,ag (λq=>e q.symm)];omega
theorem Lo:kJ.jx (own (x::l)) x.owner (-(x.d.length:Int))=own l:=by
 funext k
 unfold kJ.jx;rw[lH];by_cases e:k=x.owner
 .rw[af e,af e.symm];omega
 .rw[ag e,ag (λq=>e q.symm)];omega
def TE(x:It):Prop:=1<=x.d.length/\x.d.length<=600/\1<=x.owner/\x.owner<=1099511627776
section
variable {h h' : ai} {R : Value → ai → Prop} {p m : Nat}
abbrev Pu(h:ai)(p m:Nat)(l:List It):Prop:=kJ.fU h p m 4800 1600 (vu l) (own l)
theorem Pu.perm(H:Pu h p m l)(q:l.Perm L):Pu h p m L:=by
 unfold Pu;rw[<-x3 q,<-x4 q];exact H
theorem RJ{n:Int}(H:Pu h p m (x::l))(ok:qY (x::l))(k:TE x)(b:n=(x.d.length:Int))(hk: ∀h',Pu h' p m l->Fr (λc=>c=p\/c=m) h h'->R (.I 0) h'):
  ar Tryz.prog 55 #[.P p 0,.I x.owner,.I n] h R:=by
 subst b;have g:kJ.pH (own (x::l)) x.owner (x.d.length:Int)=true:=kJ.Jb.2 ⟨⟨k.2.2.1,k.2.2.2,ae⟩,QB bM⟩;refine kJ.NN H ok _ _ (λ_ h' a f=>hk h' ?_ f) (λe=>by rw[g]at e;cases e);rw[Lo,iV,show(x.d.length:Int)+vu l - x.d.length=vu l by omega]at a;exact a
end
end eI
end
end Go.Proofs.YtlenamcfacpheaaGreatDoor
namespace Go.Den
section
variable {h h':ai} {X:Ft} {j:Nat}
def In(X:Ft)(y:Nat):Prop:=X.M y\/X.D y
abbrev only(X:Ft)(P:Nat->Prop):Prop:= ∀y,(X.M y↔P y)/\¬X.D y
abbrev pt(b:Nat):Value:=.pointer (some ⟨b,0,none⟩)
structure x5 (P:Nat->ai->Ft->Prop):Prop where
 lt: ∀ {i h X},P i h X->∀y,In X y->y<h.size
 frame: ∀ {i h h' X} {Q:Nat->Prop},P i h X->Fr Q h h'->(∀y,In X y->¬Q y)->P i h' X
 uy: ∀ {i h X},P i h X->∀y,X.M y->X.D y->False
def Fs(P:Nat->ai->Ft->Prop)(h:ai)(X:Ft):Prop:= ∃Y:Nat->Ft,(∀i,P i h (Y i))/\(∀i j y,i≠j->In (Y i) y->¬In (Y j) y)/\(∀y,X.M y↔ ∃i,(Y i).M y)/\∀y,X.D y↔ ∃i,(Y i).D y
variable {P p : Nat → ai → Ft → Prop}
theorem Fs.lt(S:x5 P)(H:Fs P h X)(y:Nat)(hy:X.M y\/X.D y):y<h.size:=by
 obtain⟨Y,b,_,c,hd⟩:=H;rcases hy with hy|hy
 .obtain⟨i,a⟩:=(c y).1 hy;exact S.lt (b i) y (.inl a)
 .obtain⟨i,a⟩:=(hd y).1 hy;exact S.lt (b i) y (.inr a)
theorem Fs.uy(S:x5 P)(H:Fs P h X)(y:Nat)(a:X.M y)(b:X.D y):False:=by
 obtain⟨Y,g,ap,f,hd⟩:=H;obtain⟨i,c⟩:=(f y).1 a;obtain⟨j,d⟩:=(hd y).1 b;by_cases e:i=j
 .subst e;exact S.uy (g i) y c d
 .exact ap i j y e (.inl c) (.inr d)
theorem Fs.frame{Q:Nat->Prop}(S:x5 P)(H:Fs P h X)(f:Fr Q h h')(d: ∀y,X.M y\/X.D y->¬Q y):Fs P h' X:=by
 obtain⟨Y,c,ap,b,hd⟩:=H;exact⟨Y,λi=>S.frame (c i) f (λy e=>d y (e.imp (λa=>(b y).2 ⟨i,a⟩) (λa=>(hd y).2 ⟨i,a⟩))),ap,b,hd⟩
theorem Fs.use(S:x5 P)(H:Fs P h X)(j:Nat): ∃Z,P j h Z/\(∀y,Z.M y->X.M y)/\(∀y,Z.D y->X.D y)/\∀h' z p,p j h' z->bC Z h z h'->(∀i,i≠j->p i=P i)->
  ∃x,Fs p h' x/\bC X h x h'/\(∀y,z.D y->x.D y)/\∀y,h.size<=y->x.M y\/x.D y->z.M y\/z.D y:=by
 obtain⟨Y,f,ap,d,hd⟩:=H;refine⟨Y j,f j,λy a=>(d y).2 ⟨j,a⟩,λy a=>(hd y).2 ⟨j,a⟩,λh' z p n st o=> ?_⟩;have wU: ∀i y,i≠j->In (Y i) y->¬In z y:=λi y m c hz=>by
  have l:=S.lt (f i) y c;rcases hz with hz|hz
  .rcases st.jl y hz with a|a
   .exact ap i j y m c (.inl a)
   .omega
  .rcases st.lB y hz with a|a
   .exact ap i j y m c (.inr a)
   .omega
 refine⟨⟨λy=> ∃i,(if i=j then z else Y i).M y,λy=> ∃i,(if i=j then z else Y i).D y⟩,⟨λi=>if i=j then z else Y i,λi=> ?_,λi k y g c hz=> ?_,λ_=>dU,λ_=>dU⟩,⟨st.fr.mono (λy _ a=>(d y).2 ⟨j,a⟩),?_,?_,?_⟩,λy a=>⟨j,by rw[af rfl];exact a⟩,?_⟩
 .show p i h' (if i=j then z else Y i);by_cases e:i=j
  .rw[af e,e];exact n
  .rw[ag e,o i e];exact S.frame (f i) st.fr (λy c a=>ap i j y e c (.inl a))
 .dsimp only at c hz;by_cases e:i=j
  .rw[af e]at c;rw[ag (λq=>g (e.trans q.symm))]at hz;exact wU k y (λq=>g (e.trans q.symm)) hz c
  .rw[ag e]at c;by_cases e2:k=j
   .rw[af e2]at hz;exact wU i y e c hz
   .rw[ag e2]at hz;exact ap i k y g c hz
 .rintro y ⟨i,a⟩;by_cases e:i=j
  .rw[af e]at a;exact(st.jl y a).imp (λb=>(d y).2 ⟨j,b⟩) id
  .rw[ag e]at a;exact .inl ((d y).2 ⟨i,a⟩)
 .rintro y ⟨i,a⟩;by_cases e:i=j
  .rw[af e]at a;exact(st.lB y a).imp (λb=>(hd y).2 ⟨j,b⟩) id
  .rw[ag e]at a;exact .inl ((hd y).2 ⟨i,a⟩)
 .intro y a;obtain⟨i,a⟩:=(hd y).1 a;by_cases e:i=j
  .exact⟨j,by rw[af rfl];exact st.wg y (e▸a)⟩
  .exact⟨i,by rw[ag e];exact a⟩
 .intro y c a;have key: ∀i,In (if i=j then z else Y i) y->z.M y\/z.D y:=λi a=>by
   by_cases e:i=j
   .rw[af e]at a;exact a
   .rw[ag e]at a;have:=S.lt (f i) y a;omega
  rcases a with⟨i,a⟩|⟨i,a⟩
  .exact key i (.inl a)
  .exact key i (.inr a)
end
end Go.Den
namespace Go.Proofs.YtlenamcfacpheaaGreatDoor
open Go.Den
open IntKind (wrap)
open Int (toNat)
section
variable {h:ai} {R:fx}
variable {t e d c0 s c F:Nat} {num id A:Int} {f S:cj}
theorem BO.walk(a:aS h (.cells #[.bool true,.Z] 90) λb H=>R (.P b 0) H):ar Tryz.prog 35 #[] h R:=aR (lq ll) Tryz.func35 a
theorem qK.walk (g:aK (λ(t6:Bool) (H:ai)=>if t6 then R (.tuple #[.pointer none,.I 6]) H else aK (λ(t16:Bool) (b:ai)=>if t16 then R (.tuple #[.pointer none,.I 4]) b else Hl b t 1 λm l n=>Bd (wrap .i64 (num - 1)) l/\aO m λa=> ∃t35,aB b (a.add (toNat (wrap .i64 (num - 1))*1))=some (.pointer t35)/\R (.tuple #[.pointer t35,.I 0]) b) (λj=>if(decide (num<1))then j true H else∃k T i,Cc H t 1 (.slice k T i)/\j (decide (num>((T:Nat):Int))) H)) (λJ=> ∃t13,Cc h t 0 (.bool t13)/\J (!t13) h)):ar Tryz.prog 78 #[.P t 0,.I num] h R:=aR (lq (sq (bq (sq (.join [(6,.one (.bool))] lf) (cq ll (sq (.join [(16,.one (.bool))] lf) (cq ll lf))))) ll)) Tryz.func78 g
theorem sZ.walk(g:Cl 78 #[.P t 0,.I num] h λv H=> ∃T b,v=.tuple #[.pointer T,.I b]/\if(b==0)then aO T λa=> ∃t19,aB H (a.add 2)=some (.bool t19)/\R (.bool t19) H else R (.bool false) H):ar Tryz.prog 28 #[.P t 0,.I num] h R:=aR (lq (lq ll)) Tryz.func28 g
theorem tb.walk{token:Int}(g:Hl h t 1 λi T j=> ∃(I:Int->ai->Prop)(m:Int->ai->Nat),I 0 h/\∀(t12:Int)(H:ai),I t12 H->if(decide (t12<(T:Int)))then Bd t12 T/\aO i λa=>y8 H (a.add (toNat t12*1)) λt15=>aO t15 λb=> ∃t19,aB H (b.add 1)=some (.U t19)/\if(t19==token)then R (.pointer t15) H else(I (wrap .i64 (t12+1)) H/\m (wrap .i64 (t12+1)) H<m t12 H)else R (.pointer none) H):ar Tryz.prog 40 #[.P t 0,.U token] h R:=aR (lq (sq (lq (bq (.loop [(12,.one (.int .i64))] (lq (sq (cq lf lf) (sq (bq (lq (lq (cq ll lf)))) lf)))))) ll)) Tryz.func40 g
theorem qL.walk {t : Nat} {token : Int} (hv :
 aK (fun (t7 : Bool) (gU : ai) =>
 if t7 = true then
 R (.tuple #[.int .i64 0, .int .i64 6]) gU
 else
 aK (fun (t17 : Bool) (iN : ai) =>
 if t17 = true then
 R (.tuple #[.int .i64 0, .int .i64 1]) iN
 else
 Cl 40 #[.pointer (some ⟨t, 0, none⟩), .int .u64 token] iN λv qZ =>
 ∃ t27, v = .pointer t27 ∧
 if (!t27.isNone) = true then
 R (.tuple #[.int .i64 0, .int .i64 12]) qZ
 else
 ∃ RL O6 RM, aB qZ ⟨t, 1, none⟩ = some (.slice RL O6 RM) ∧
 if (decide (((O6 : Nat) : Int) ≥ 8)) = true then
 R (.tuple #[.int .i64 0, .int .i64 5]) qZ
 else
 ∃ RN O7 RO, aB qZ ⟨t, 1, none⟩ = some (.slice RN O7 RO) ∧
 aS qZ (.cells #[.int .i64 (IntKind.wrap .i64 (((O7 : Nat) : Int) + 1)), .int .u64 token, .bool true, .bool false, .slice none 0 0, .slice none 0 0] 76) λb CL =>
 ∃ O8 O9 Pa, aB CL ⟨t, 1, none⟩ = some (.slice O8 O9 Pa) ∧
 aS CL (.cells #[.pointer (some ⟨b, 0, none⟩)] 91) λwC Jd =>
 aV Tryz.prog (Builtin.append_ #[88, 88] 88 #[.slice O8 O9 Pa, .slice (some ⟨wC, 0, none⟩) 1 1]) Jd λFu DC =>
 ∃ Pb Pc Pd, Fu = .slice Pb Pc Pd ∧
 aE DC ⟨t, 1, none⟩ (.slice Pb Pc Pd) λJe =>
 ∃ t58, aB Je ⟨b, 0, none⟩ = some (.int .i64 t58) ∧
 R (.tuple #[.int .i64 t58, .int .i64 0]) Je)
 (λRm =>
 if (decide (token < 1)) = true then
 Rm true gU
 else
 Rm (decide (token > 2147483648)) gU))
 (λJ =>
 ∃ t14, aB h ⟨t, 0, none⟩ = some (.bool t14) ∧
 J (!t14) h)) : ar Tryz.prog 12 #[.pointer (some ⟨t, 0, none⟩), .int .u64 token] h R :=
 aR (.seq .leaf (.seq (.block (.seq (.join [(7, .one (.bool))] .leaf) (.cond (.seq .leaf .leaf) (.seq (.join [(17, .one (.bool))] .leaf) (.cond (.seq .leaf .leaf) (.seq .leaf (.cond (.seq .leaf .leaf) (.seq .leaf (.cond (.seq .leaf .leaf) .leaf))))))))) (.seq .leaf (.seq .leaf (.seq .leaf .leaf))))) Tryz.func12 hv
theorem qM.walk(j:Cl 78 #[.P t 0,.I num] h λv H=> ∃T b,v=.tuple #[.pointer T,.I b]/\if(b !=0)then R (.I b) H else aO T λa=> ∃t21,aB H (a.add 2)=some (.bool t21)/\if(!t21)then R (.I 7) H else aO T λg=>aE H (g.add 2) (.bool false) λi=>R (.I 0) i):ar Tryz.prog 73 #[.P t 0,.I num] h R:=aR (lq (lq (sq (bq (lq (cq ll (lq (cq ll lf))))) (lq ll)))) Tryz.func73 j
theorem qN.walk{w:cj}{D u:Nat} (Q:aS h (.cells #[.U id] 27) λb L=>Cl 78 #[.P t 0,.I num] L λv H=> ∃T n,v=.tuple #[.pointer T,.I n]/\if(n !=0)then R (.I n) H else aK (λ(t21:Bool) (j:ai)=>if t21 then R (.I 1) j else aO T λa=>zp j (a.add 4) λW V U=>Cl 109 #[.slice W V U,.func (.func 110) #[] #[.P b 0]] j λl' P=>Vl l' λZ Y X=>aO T λB=>aE P (B.add 4) (.slice Z Y X) λk=>aO T λi=>zp k (i.add 4) λq p o=>Hu k b 0 λt43=>Cl 50 #[.slice w D u] k λm' l=>Vl m' λc' b' a'=>Cc l b 0 (.U t43)/\aB l (i.add 4)=some (.slice q p o)/\aS l (.cells #[.U t43,.slice c' b' a'] 161) λK m=>Cc m b 0 (.U t43)/\aB m (i.add 4)=some (.slice q p o)/\aV Tryz.prog (Builtin.append_ #[74,74] 74 #[.slice q p o,.slice (some (AA K 0)) 1 1]) m λn' x=>Vl n' λf' e' d'=>Cc x b 0 (.U t43)/\aO T λC=>aE x (C.add 4) (.slice f' e' d') λg=>aO T λE=>zp g (E.add 4) λq' g' p'=>aK (λ(M:ai)=>R (.I 0) M) (λr=>if(decide ((g':Int)>6))then aO T λG=>zp g (G.add 4) λh' z y=>((0:Int)<=1/\1<=(z:Int))/\Cl 111 #[.slice (cE h' y (toNat 1) 2) (z - (toNat 1)) (y - (toNat 1))] g λo' N=>Vl o' λk' j' i'=>aO T λI=>aE N (I.add 4) (.slice k' j' i') λO=>r O else r g)) (λJ=> ∃t22,Cc H b 0 (.U t22)/\if(decide (t22>1099511627776))then J true H else J (decide ((D:Int)>1000)) H)):ar Tryz.prog 46 #[.P t 0,.I num,.U id,.slice w D u] h R:=aR (lq (lq (sq (bq (lq (cq ll (sq (.join [(21,.one (.bool))] lf) (cq ll lf))))) (lq (sq (pN 14) (sq (lq (.join [] (cq lf lf))) ll)))))) Tryz.func46 Q
theorem oO.walk(a:aS h (.cells #[.U A,.slice f e d] 161) λb H=>Hu H b 0 λt5=> ∃t6,Cc H c0 0 (.U t6)/\R (.bool (t5==t6)) H):ar Tryz.prog 110 #[.agg #[.U A,.slice f e d],.P c0 0] h R:=aR (lq ll) Tryz.func110 a
theorem qO.walk(q:aS h (.cells #[.U id] 27) λb o=>Cl 78 #[.P t 0,.I num] o λv g=> ∃T i,v=.tuple #[.pointer T,.I i]/\if(i !=0)then R (.tuple #[.Z,.bool false]) g else aO T λa=>zp g (a.add 4) λw u r=>Cl 89 #[.slice w u r,.func (.func 90) #[] #[.P b 0]] g λV H=> ∃t24,V=.I t24/\if(decide (t24<0))then R (.tuple #[.Z,.bool false]) H else aO T λm=>zp H (m.add 4) λy x E=>Bd t24 x/\aO y λn=>zp H ((n.add (toNat t24*2)).add 1) λC B z=>Cl 50 #[.slice C B z] H λD p=> ∃l k j,D=.slice l k j/\R (.tuple #[.slice l k j,.bool true]) p):ar Tryz.prog 42 #[.P t 0,.I num,.U id] h R:=aR (lq (lq (sq (lq (cq ll lf)) (lq (sq (lq (cq ll lf)) ll))))) Tryz.func42 q
theorem oP.walk(a:aS h (.cells #[.U A,.slice f e d] 161) λb H=>Hu H b 0 λt5=> ∃t6,Cc H c0 0 (.U t6)/\R (.bool (t5==t6)) H):ar Tryz.prog 90 #[.agg #[.U A,.slice f e d],.P c0 0] h R:=aR (lq ll) Tryz.func90 a
theorem pI.walk{on:Bool}(j:Cl 78 #[.P t 0,.I num] h λv H=> ∃b T,v=.tuple #[.pointer b,.I T]/\aK (λ(g:ai)=>R (.I T) g) (λJ=>if(T==0)then aO b λa=>aE H (a.add 3) (.bool on) λi=>J i else J H)):ar Tryz.prog 166 #[.P t 0,.I num,.bool on] h R:=aR (lq (lq (sq (lq (.join [] (cq lf lf))) ll))) Tryz.func166 j
theorem qP.walk(u:Cl 78 #[.P t 0,.I num] h λv b=> ∃T g,v=.tuple #[.pointer T,.I g]/\aK (λ(n:Int) (H:ai)=>if(n==0)then R (.tuple #[.Z,.I 0,.I g]) H else aO T λa=>zp H (a.add 5) λz y L=>Bd 0 y/\aO z λl=>zp H (l.add (toNat 0*1)) λD C B=>aO T λm=>zp H (m.add 5) λE k j=>((0:Int)<=1/\1<=(k:Int))/\Cl 198 #[.slice (cE E j (toNat 1) 1) (k - (toNat 1)) (j - (toNat 1))] H λV q=>Vl V λK I G=>aO T λo=>aE q (o.add 5) (.slice K I G) λr=>R (.tuple #[.slice D C B,.I n,.I 0]) r) (λJ=>if(g==0)then aO T λp=> ∃x i w,aB b (p.add 5)=some (.slice x i w)/\J ((i:Nat):Int) b else J 0 b)):ar Tryz.prog 167 #[.P t 0,.I num] h R:=aR (lq (lq (lq (sq (lq (.join [(9,.one (.int .i64))] (cq lf lf))) (sq (lq (cq ll lf)) (lq (lq ll))))))) Tryz.func167 u
theorem gG.kO.walk{D:Nat}(x:Cl 89 #[.slice S s c,.func (.func 110) #[] #[.P D 0]] h λv l=> ∃t10,v=.I t10/\if(t10==(-1))then R (.slice S s c) l else∃(I:Int->Int->ai->Prop)(M:Int->Int->ai->Nat),I t10 (wrap .i64 (t10+1)) l/\∀(i:Int)(j:Int)(H:ai),I i j H->if(decide (j<(s:Int)))then aK (λ(o:Int) (m:ai)=>(I o (wrap .i64 (j+1)) m/\M o (wrap .i64 (j+1)) m<M i j H)) (λJ=>Bd j s/\aO S λa=>cp.LD H (a.add (toNat j*2)) λT C B z=>aS H (.cells #[.U 0,.Z] 161) λb q=>cp.ST q (AA b 0) T C B z λn=>cp.LD n (AA b 0) λE L K G=>Cl 110 #[.agg #[.U E,.slice L K G],.P D 0] n λV g=>Vb V λt28=>aK (λ(y:Int) (r:ai)=>J y r) (λk=>if(!t28)then cp.LD g (AA b 0) λN Q P O=>Bd i s/\aO S λp=>cp.ST g (p.add (toNat i*2)) N Q P O λu=>k (wrap .i64 (i+1)) u else k i g))else((0:Int)<=i/\i<=(s:Int))/\aV Tryz.prog (Builtin.clear_ #[74] 0 #[.slice (cE S c (toNat i) 2) (s - (toNat i)) (c - (toNat i))]) H λU w=>U=.tuple #[]/\((0:Int)<=i/\i<=(c:Int))/\R (.slice (cE S c 0 2) ((toNat i) - 0) (c - 0)) w):ar Tryz.prog 109 #[.slice S s c,.func (.func 110) #[] #[.P D 0]] h R:=aR (lq (lq (sq (lq (cq ll lf)) (sq (lq (bq (.loop [(5,.one (.int .i64)),(6,.one (.int .i64))] (sq (lq (cq lf lf)) (sq (.join [(5,.one (.int .i64))] (bq (lq (lq (.join [(5,.one (.int .i64))] (cq ll lf)))))) lf))))) (lq ll))))) Tryz.func109 x
theorem dP.kO.walk(g: ∃(I:Int->ai->Prop)(m:Int->ai->Nat),I 0 h/\∀(t8:Int)(H:ai),I t8 H->if(decide (t8<(s:Int)))then Bd t8 s/\aO S λa=>cp.LD H (a.add (toNat t8*2)) λT k j i=>Cl 110 #[.agg #[.U T,.slice k j i],.P F 0] H λv b=> ∃t16,v=.bool t16/\if t16 then R (.I t8) b else(I (wrap .i64 (t8+1)) b/\m (wrap .i64 (t8+1)) b<m t8 H)else R (.I (-1)) H):ar Tryz.prog 89 #[.slice S s c,.func (.func 110) #[] #[.P F 0]] h R:=aR (lq (sq (lq (bq (.loop [(8,.one (.int .i64))] (lq (sq (cq lf lf) (sq (bq (lq (lq (cq ll lf)))) lf)))))) ll)) Tryz.func89 g
theorem dP.kept.walk(g: ∃(I:Int->ai->Prop)(m:Int->ai->Nat),I 0 h/\∀(t8:Int)(H:ai),I t8 H->if(decide (t8<(s:Int)))then Bd t8 s/\aO S λa=>cp.LD H (a.add (toNat t8*2)) λT k j i=>Cl 90 #[.agg #[.U T,.slice k j i],.P F 0] H λv b=> ∃t16,v=.bool t16/\if t16 then R (.I t8) b else(I (wrap .i64 (t8+1)) b/\m (wrap .i64 (t8+1)) b<m t8 H)else R (.I (-1)) H):ar Tryz.prog 89 #[.slice S s c,.func (.func 90) #[] #[.P F 0]] h R:=aR (lq (sq (lq (bq (.loop [(8,.one (.int .i64))] (lq (sq (cq lf lf) (sq (bq (lq (lq (cq ll lf)))) lf)))))) ll)) Tryz.func89 g
theorem hH.walk(j:if S.isNone then R (.Z) h else aS h (.cells #[] 161) λb H=>aV Tryz.prog (Builtin.append_ #[74,74] 74 #[.slice (some (AA b 0)) 0 0,.slice S s c]) H λv i=> ∃g a T,v=.slice g a T/\R (.slice g a T) i):ar Tryz.prog 111 #[.slice S s c] h R:=aR (lq (sq (lq (cq ll lf)) ll)) Tryz.func111 j
theorem kB.walk(j:if S.isNone then R (.Z) h else aS h (.cells #[] 22) λb H=>aV Tryz.prog (Builtin.append_ #[64,64] 64 #[.slice (some (AA b 0)) 0 0,.slice S s c]) H λv i=> ∃g a T,v=.slice g a T/\R (.slice g a T) i):ar Tryz.prog 198 #[.slice S s c] h R:=aR (lq (sq (lq (cq ll lf)) ll)) Tryz.func198 j

end
section
open Go.fQ
namespace eY
open kk
variable {h h' u:ai} {t:Nat} {X:Ft} {R:fx} {p q:cj} {c i:Nat}
structure AV where
 id:Nat
 v:BV
abbrev AV.enc(a:AV):List Value:= [.int .u64 (a.id:Int),a.v.val]
structure SC where
 b:Nat
 num:Nat
 token:Nat
 up:Bool
 watch:Bool
 kept:List AV
 kp:cj
 kc:Nat
 notes:List BV
 np:cj
 nc:Nat
structure eY where
 num:Nat
 token:Nat
 up:Bool
 watch:Bool
 kept:List (Nat×List UInt8)
 notes:List (List UInt8)
def AV.abs(a:AV):Nat×List UInt8:=(a.id,a.v.b)
def SC.abs(s:SC):eY:=⟨s.num,s.token,s.up,s.watch,s.kept.map AV.abs,s.notes.map BV.b⟩
theorem tc{α:Type}{l:List α}{i:Nat}{v:α}(h:l[i]? =some v):l.set i v=l:=by
 apply e8
 intro j;rw[di];split
 .rename_i e;subst e;rw[af (aC.1 h).1,h]
 .rfl
abbrev Pe:=Nat->Option Nat
abbrev At(h:ai)(s:SC):Prop:=hZ.at h s.b (s.num:Int) (s.token:Int) s.up s.watch s.kp s.kept.length s.kc s.np s.notes.length s.nc
structure x6 (h:ai) (d:Pe) (D:Nat->Prop) (i:Nat) (s:SC):Prop where
 cR:At h s
 lb:d s.b=some (2+3*i)
 pJ:fy h s.kp s.kept.length s.kc 2 (s.kept.flatMap AV.enc)
 kl: ∀c,aP s.kp c->d c=some (3+3*i)
 wD:fy h s.np s.notes.length s.nc 1 (s.notes.flatMap wm)
 nl: ∀c,aP s.np c->d c=some (4+3*i)
 kd: ∀a∈s.kept,a.v.ok h D
 nd: ∀n∈s.notes,n.ok h D
structure CM (h:ai) (t:Nat) (d:Pe) (D:Nat->Prop) (L:List SC):Prop where
 cR: ∃p c,h[t]? =some (.cells #[.bool true,.slice p L.length c] 90 (0,0))/\fy h p L.length c 1 (L.map λs=> .pointer (some ⟨s.b,0,none⟩))/\∀x,aP p x->d x=some 1
 Nd:d t=some 0
 ses: ∀i s,L[i]? =some s->x6 h d D i s
 Lp: ∀c r,d c=some r->c<h.size
 DA: ∀c,D c->c<h.size
 ap: ∀c r,d c=some r->¬D c
def qQ(h:ai)(t:Nat)(X:Ft)(A:List eY)(B:List Nat):Prop:=
 ∃d L,CM h t d X.D L/\L.map SC.abs=A/\L.map SC.b=B/\∀c,X.M c↔ ∃r,d c=some r
def Has(h:ai)(t:Nat)(X:Ft)(A:List eY):Prop:= ∃B,qQ h t X A B
variable {d : Pe} {D : Nat → Prop} {L : List SC} {A : List eY}
theorem x6.frame{Q:Nat->Prop}{s:SC}(H:x6 h d D i s)(f:Fr Q h h')(e: ∀c r,d c=some r->2+3*i<=r->r<=4+3*i->¬Q c)(hd: ∀c,D c->¬Q c):x6 h' d D i s:=
 ⟨f.get H.cR (e _ _ H.lb ae ae),H.lb,H.pJ.frame f (λc b=>e c _ (H.kl c b) ae ae),H.kl,H.wD.frame f (λc b=>e c _ (H.nl c b) ae ae),H.nl,λa g=>(H.kd a g).frame f hd,λn j=>(H.nd n j).frame f hd⟩
theorem x6.mono{l:Pe}{D':Nat->Prop}{s:SC}(H:x6 h d D i s)(e: ∀c r,d c=some r->l c=some r)(hd: ∀c,D c->D' c):x6 h l D' i s:=
 ⟨H.cR,e _ _ H.lb,H.pJ,λc b=>e c _ (H.kl c b),H.wD,λc b=>e c _ (H.nl c b),λa f=>(H.kd a f).mono hd,λn g=>(H.nd n g).mono hd⟩
theorem qQ.lt{B:List Nat}(H:qQ h t X A B): ∀x,X.M x\/X.D x->x<h.size:=by
 obtain⟨d,L,T,_,_,a⟩:=H;rintro x (e|hd)
 .obtain⟨r,b⟩:=(a x).1 e;exact T.Lp x r b
 .exact T.DA x hd
theorem qQ.uy{B:List Nat}(H:qQ h t X A B): ∀x,X.M x->¬X.D x:=by
 obtain⟨d,L,T,_,_,a⟩:=H;intro x e;obtain⟨r,b⟩:=(a x).1 e;exact T.ap x r b
theorem qQ.frame{B:List Nat}{Q:Nat->Prop}(H:qQ h t X A B)(f:Fr Q h h')(k: ∀x,X.M x\/X.D x->¬Q x):qQ h' t X A B:=by
 obtain⟨d,L,T,e,E,g⟩:=H;obtain⟨p,c,l,own,j⟩:=T.cR;have b: ∀c r,d c=some r->¬Q c:=λc r a=>k c (.inl ((g c).2 ⟨r,a⟩))
 refine⟨d,L,⟨⟨p,c,f.get l (b t _ T.Nd),own.frame f (λx n=>b x _ (j x n)),j⟩,T.Nd,λi s m=>(T.ses i s m).frame f (λc r a _ _=>b c r a) (λc hd=>k c (.inr hd)),?_,?_,T.ap⟩,e,E,g⟩
 .intro c r a;exact cy (T.Lp c r a) f.1
 .intro c hd;exact cy (T.DA c hd) f.1
theorem Has.lt(H:Has h t X A): ∀x,X.M x\/X.D x->x<h.size:=by obtain⟨B,H⟩:=H;exact H.lt
theorem Has.uy(H:Has h t X A): ∀x,X.M x->¬X.D x:=by obtain⟨B,H⟩:=H;exact H.uy
theorem Has.frame{Q:Nat->Prop}(H:Has h t X A)(f:Fr Q h h')(a: ∀x,X.M x\/X.D x->¬Q x):Has h' t X A:=by obtain⟨B,H⟩:=H;exact⟨B,H.frame f a⟩
open Classical in
theorem CM.RP{s s':SC}{Q E:Nat->Prop}(T:CM h t d X.D L)(C: ∀c,X.M c↔ ∃r,d c=some r)(y:L[i]? =some s)(B:s'.b=s.b)(f:Fr Q h h')(o: ∀c,Q c->∃r,d c=some r/\2+3*i<=r/\r<=4+3*i)(cR:At h' s')(pJ:fy h' s'.kp s'.kept.length s'.kc 2 (s'.kept.flatMap AV.enc))(kn: ∀c,aP s'.kp c->d c=some (3+3*i)\/h.size<=c)(wD:fy h' s'.np s'.notes.length s'.nc 1 (s'.notes.flatMap wm))(U: ∀c,aP s'.np c->d c=some (4+3*i)\/h.size<=c)(N: ∀c,aP s'.kp c->aP s'.np c->False)(w: ∀c,E c->d c=none/\c<h'.size/\¬aP s'.kp c/\¬aP s'.np c)(kd: ∀a∈s'.kept,a.v.ok h' (λc=>X.D c\/E c))(nd: ∀n∈s'.notes,n.ok h' (λc=>X.D c\/E c)):
  ∃v,qQ h' t v ((L.map SC.abs).set i s'.abs) (L.map SC.b)/\Fr X.M h h'/\(∀c,v.M c->X.M c\/h.size<=c)/\(∀c,v.D c->X.D c\/E c)/\∀c,X.D c->v.D c:=by
 let z:Pe:=λc=>if h.size<=c/\aP s'.kp c then some (3+3*i)else if h.size<=c/\aP s'.np c then some (4+3*i)else d c
 have wU: ∀c r,d c=some r->z c=some r:=λc r H=>by
  have:=T.Lp c r H;show(if h.size<=c/\aP s'.kp c then some (3+3*i)else if h.size<=c/\aP s'.np c then some (4+3*i)else d c)=some r;rw[ag (λk=>ae),ag (λk=>ae)];exact H
 have new: ∀c r,z c=some r->d c=some r\/(h.size<=c/\(aP s'.kp c\/aP s'.np c)):=λc r H=>by
  have H:(if h.size<=c/\aP s'.kp c then some (3+3*i)else if h.size<=c/\aP s'.np c then some (4+3*i)else d c)=some r:=H;split at H
  .rename_i k;exact .inr ⟨k.1,.inl k.2⟩
  .split at H
   .rename_i k;exact .inr ⟨k.1,.inr k.2⟩
   .exact .inl H
 have S: ∀c,aP s'.kp c\/aP s'.np c->c<h'.size:=λc g=>g.elim (λg=>pJ.eg g) (λg=>wD.eg g)
 have hd: ∀c,X.D c->¬Q c:=λc g l=>by obtain⟨r,H,_⟩:=o c l;exact T.ap c r H g
 obtain⟨p,c0,J,own,F⟩:=T.cR;have K:i<L.length:=(aC.1 y).1;have O: ¬Q t:=λl=>by obtain⟨r,H,h1,b⟩:=o t l;rw[T.Nd]at H;cases H;omega
 have P: ∀x,aP p x->¬Q x:=λx l M=>by obtain⟨r,H,h1,b⟩:=o x M;rw[F x l]at H;cases H;omega
 have V:(L.set i s').map (λs=>Value.P s.b 0)=L.map (λs=>Value.P s.b 0):=by
  rw[List.map_set,B];exact tc (by rw[aM,y];rfl)
 have I:(L.set i s').map SC.b=L.map SC.b:=by
  rw[List.map_set,B];exact tc (by rw[aM,y];rfl)
 refine⟨⟨λc=> ∃r,z c=some r,λc=>X.D c\/E c⟩,⟨z,L.set i s',⟨⟨p,c0,?_,?_,λx l=>wU x _ (F x l)⟩,wU t 0 T.Nd,?_,?_,?_,?_⟩,?_,I,λc=>dU⟩,?_,?_,λc h=>h,λc=> .inl⟩
 .rw[du];exact f.get J O
 .rw[V,du];exact own.frame f P
 .intro j W m;rw[di]at m;by_cases e:i=j
  .subst e;rw[af rfl,af K]at m;obtain rfl:=bn m;refine⟨cR,?_,pJ,λc g=> ?_,wD,λc g=> ?_,kd,nd⟩
   .rw[B];exact wU _ _ (T.ses i s y).lb
   .show(if h.size<=c/\aP s'.kp c then some (3+3*i)else if h.size<=c/\aP s'.np c then some (4+3*i)else d c)=_;rcases kn c g with h1|h1
    .have:=T.Lp c _ h1;rw[ag (λk=>ae),ag (λk=>ae)];exact h1
    .rw[af ⟨h1,g⟩]
   .show(if h.size<=c/\aP s'.kp c then some (3+3*i)else if h.size<=c/\aP s'.np c then some (4+3*i)else d c)=_;rw[ag (λk=>N c k.2 g)];rcases U c g with h1|h1
    .have:=T.Lp c _ h1;rw[ag (λk=>ae)];exact h1
    .rw[af ⟨h1,g⟩]
  .rw[ag e]at m;refine((T.ses j W m).frame f (λc r H h1 b l=> ?_) hd).mono wU (λc=> .inl);obtain⟨r',G,Y,Z⟩:=o c l;rw[H]at G;cases G;omega
 .intro c r H;rcases new c r H with h1|⟨_,h1⟩
  .exact cy (T.Lp c r h1) f.1
  .exact S c h1
 .rintro c (h1|h1)
  .exact cy (T.DA c h1) f.1
  .exact(w c h1).2.1
 .rintro c r H (h1|h1)
  .rcases new c r H with b|⟨b,_⟩
   .exact T.ap c r b h1
   .have:=T.DA c h1;omega
  .rcases new c r H with b|⟨_,b⟩
   .rw[(w c h1).1]at b;cases b
   .exact b.elim (w c h1).2.2.1 (w c h1).2.2.2
 .rw[List.map_set]
 .exact f.mono (λc _ l=>by obtain⟨r,H,_⟩:=o c l;exact(C c).2 ⟨r,H⟩)
 .rintro c ⟨r,H⟩;rcases new c r H with b|⟨b,_⟩
  .exact .inl ((C c).2 ⟨r,b⟩)
  .exact .inr b
theorem CM.TF{s s':SC}{Q E:Nat->Prop}(T:CM h t d X.D L)(j: ∀c,X.M c↔ ∃r,d c=some r)(o:L[i]? =some s)(k:s'.b=s.b)(f:Fr Q h h')(m: ∀c,Q c->∃r,d c=some r/\2+3*i<=r/\r<=4+3*i)(cR:At h' s')(pJ:fy h' s'.kp s'.kept.length s'.kc 2 (s'.kept.flatMap AV.enc))(kn: ∀c,aP s'.kp c->d c=some (3+3*i)\/h.size<=c)(wD:fy h' s'.np s'.notes.length s'.nc 1 (s'.notes.flatMap wm))(N: ∀c,aP s'.np c->d c=some (4+3*i)\/h.size<=c)(K: ∀c,aP s'.kp c->aP s'.np c->False)(b: ∀c,E c->h.size<=c/\c<h'.size/\¬aP s'.kp c/\¬aP s'.np c)(kd: ∀a∈s'.kept,a.v.ok h' (λc=>X.D c\/E c))(nd: ∀n∈s'.notes,n.ok h' (λc=>X.D c\/E c)):
  ∃x,qQ h' t x ((L.map SC.abs).set i s'.abs) (L.map SC.b)/\bC X h x h':=by
 obtain⟨x,e,F,M,g,O⟩:=T.RP (Q:=Q) (E:=E) j o k f m cR pJ kn wD N K (λc H=>⟨by
  cases l:d c with
  |none=>rfl
  |some r=>have:=T.Lp c r l;have:=(b c H).1;omega,(b c H).2⟩) kd nd
 exact⟨x,e,F,M,λc H=>(g c H).imp (λh=>h) (λh=>(b c h).1),O⟩
theorem CM.flag{s s':SC}(T:CM h t d X.D L)(v: ∀c,X.M c↔ ∃r,d c=some r)(m:L[i]? =some s)(y:s'.b=s.b)(hk:s'.kept=s.kept/\s'.kp=s.kp/\s'.kc=s.kc)(j:s'.notes=s.notes/\s'.np=s.np/\s'.nc=s.nc)(cR:At h' s')(B:h'.size=h.size)(z: ∀x,x≠s.b->h'[x]? =h[x]?): ∃l,qQ h' t l ((L.map SC.abs).set i s'.abs) (L.map SC.b)/\bC X h l h':=by
 have H:=T.ses i s m;have f:Fr (λx=>x=s.b) h h':=Fr.of_eq B z;have N: ∀c,aP s.kp c->¬c=s.b:=λc g e=>by have k:=H.kl c g;rw[e,H.lb]at k;simp at k
 have C: ∀c,aP s.np c->¬c=s.b:=λc g e=>by have k:=H.nl c g;rw[e,H.lb]at k;simp at k
 have nD: ∀c,X.D c->¬c=s.b:=λc g e=>T.ap c _ (e▸H.lb) g
 refine T.TF (Q:=λx=>x=s.b) (E:=λ_=>False) v m y f (λc e=>⟨_,e▸H.lb,ae,ae⟩) cR ?_ ?_ ?_ ?_ ?_ (λc g=>g.elim) ?_ ?_
 .rw[hk.1,hk.2.1,hk.2.2];exact H.pJ.frame f N
 .rw[hk.2.1];exact λc g=> .inl (H.kl c g)
 .rw[j.1,j.2.1,j.2.2];exact H.wD.frame f C
 .rw[j.2.1];exact λc g=> .inl (H.nl c g)
 .rw[hk.2.1,j.2.1];exact λc k o=>by have a:=H.kl c k;have b:=H.nl c o;rw[a]at b;simp at b
 .rw[hk.1];exact λa w=>((H.kd a w).frame f nD).mono (λc=> .inl)
 .rw[j.1];exact λn j=>((H.nd n j).frame f nD).mono (λc=> .inl)
open Classical in
theorem CM.add{s:SC}{p:cj}{c0:Nat}{Q:Nat->Prop}(T:CM h t d X.D L)(y: ∀c,X.M c↔ ∃r,d c=some r)(f:Fr Q h h')(v: ∀c,Q c->d c=some 0\/d c=some 1)(B:h'[t]? =some (.cells #[.bool true,.slice p (L.length+1) c0] 90 (0,0)))(own:fy h' p (L.length+1) c0 1 (L.map (λs=> .P s.b 0)++ [.P s.b 0]))(C: ∀x,aP p x->d x=some 1\/h.size<=x)(E: ¬aP p s.b)(cR:At h' s)(F:h.size<=s.b)(hk:s.kept= []/\s.kp=none/\s.kc=0)(m:s.notes= []/\s.np=none/\s.nc=0):
  ∃w,qQ h' t w (L.map SC.abs++ [s.abs]) (L.map SC.b++ [s.b])/\bC X h w h':=by
 have G:=aF cR
 let n:Pe:=λc=>if c=s.b then some (2+3*L.length)else if h.size<=c/\aP p c then some 1 else d c
 have wU: ∀c r,d c=some r->n c=some r:=λc r H=>by
  have:=T.Lp c r H;show(if c=s.b then some (2+3*L.length)else if h.size<=c/\aP p c then some 1 else d c)=some r;rw[ag (λk=>ae),ag (λk=>ae)];exact H
 have new: ∀c r,n c=some r->d c=some r\/(h.size<=c/\(c=s.b\/aP p c)):=λc r H=>by
  have H:(if c=s.b then some (2+3*L.length)else if h.size<=c/\aP p c then some 1 else d c)=some r:=H;split at H
  .rename_i k;exact .inr ⟨ae,.inl k⟩
  .split at H
   .rename_i k;exact .inr ⟨k.1,.inr k.2⟩
   .exact .inl H
 have hd: ∀c,X.D c->¬Q c:=λc z b=>(v c b).elim (λh1=>T.ap c _ h1 z) (λh1=>T.ap c _ h1 z)
 refine⟨⟨λc=> ∃r,n c=some r,X.D⟩,⟨n,L++ [s],⟨⟨p,c0,?_,?_,?_⟩,wU t 0 T.Nd,?_,?_,?_,?_⟩,?_,by rw[bf];rfl,λc=>dU⟩,?_,?_,λc=> .inl,λc=>id⟩
 .rw[aA];exact B
 .rw[aA,bf];exact own
 .intro x b;show(if x=s.b then some (2+3*L.length)else if h.size<=x/\aP p x then some 1 else d x)=some 1;rw[ag (λe:x=s.b=>E (e▸b))];rcases C x b with h1|h1
  .have:=T.Lp x _ h1;rw[ag (λk=>ae)];exact h1
  .rw[af ⟨h1,b⟩]
 .intro j S l;by_cases e:j<L.length
  .rw[cN e]at l;refine((T.ses j S l).frame f (λc r H h1 g b=> ?_) hd).mono wU (λc h=>h);rcases v c b with h3|h3
   .rw[H]at h3;cases h3;omega
   .rw[H]at h3;cases h3;omega
  .rw[cH ae]at l;have e2:j=L.length:=by
    have:=(aC.1 l).1;simp at this;omega
   subst e2;simp at l;subst l;refine⟨cR,?_,?_,?_,?_,?_,?_,?_⟩
   .show(if s.b=s.b then some (2+3*L.length)else _)=_;rw[af rfl]
   .rw[hk.1,hk.2.1,hk.2.2];exact .nil rfl rfl rfl rfl
   .rw[hk.2.1];rintro c ⟨a,e,_⟩;cases e
   .rw[m.1,m.2.1,m.2.2];exact .nil rfl rfl rfl rfl
   .rw[m.2.1];rintro c ⟨a,e,_⟩;cases e
   .rw[hk.1];intro a o;cases o
   .rw[m.1];intro a o;cases o
 .intro c r H;rcases new c r H with h1|⟨_,h1|h1⟩
  .exact cy (T.Lp c r h1) f.1
  .omega
  .exact own.eg h1
 .intro c h1;exact cy (T.DA c h1) f.1
 .intro c r H h1;rcases new c r H with g|⟨g,_⟩
  .exact T.ap c r g h1
  .have:=T.DA c h1;omega
 .rw[bf];rfl
 .exact f.mono (λc _ b=>(y c).2 ((v c b).elim (λh1=>⟨_,h1⟩) (λh1=>⟨_,h1⟩)))
 .rintro c ⟨r,H⟩;rcases new c r H with g|⟨g,_⟩
  .exact .inl ((y c).2 ⟨r,g⟩)
  .exact .inr g
theorem tA:nP Tryz.prog 74 161 2 32 (.agg #[.U 0,.Z]):=⟨db,db,rfl⟩
theorem uA:Tryz.prog.underlying 74=some (.slice 161):=db
theorem gu(a:AV):a.enc.length=2:=rfl
theorem Lq(xs:List AV): ∀v∈xs.flatMap AV.enc,fH v=true:=by
 intro v b;obtain⟨a,_,H⟩:=List.mem_flatMap.1 b;simp at H;rcases H with rfl|rfl<;>rfl
theorem Jf{xs:List AV}{n m:Nat}(H:Row h p (xs.flatMap AV.enc))(j:n=xs.length)(k:xs.length<=1000000000)(hk: ∀P C h',fy h' P xs.length C 2 (xs.flatMap AV.enc)->Fr No h h'->(∀x,aP P x->h.size<=x)->R (.slice P xs.length C) h'):
  ar Tryz.prog 111 #[.slice p n m] h R:=by
 subst j;refine hH.walk ?_;cases p with
 |none=>
  have:xs= []:=by
   rcases H with H|⟨a,e,_⟩
   .cases xs with
    |nil=>rfl
    |cons b bs=>cases H
   .cases e
  subst this;exact hk none 0 h (.nil rfl rfl rfl rfl) (Fr.refl _ _) (λx ⟨a,e,_⟩=>by cases e)
 |some a=>
  simp only[Option.isNone_some,au,aN];exact uf tA uA H (eO AV.enc 2 gu xs) (Lq xs) ae ae λP C h' o f g=>⟨_,_,_,rfl,hk P C h' o f g⟩
theorem Jg{xs:List BV}{n m:Nat}(H:Row h p (xs.flatMap wm))(j:n=xs.length)(k:xs.length<=1000000000)(hk: ∀P C h',fy h' P xs.length C 1 (xs.flatMap wm)->Fr No h h'->(∀x,aP P x->h.size<=x)->R (.slice P xs.length C) h'):
  ar Tryz.prog 198 #[.slice p n m] h R:=by
 subst j;refine kB.walk ?_;cases p with
 |none=>
  have:xs= []:=by
   rcases H with H|⟨a,e,_⟩
   .cases xs with
    |nil=>rfl
    |cons b bs=>cases H
   .cases e
  subst this;exact hk none 0 h (.nil rfl rfl rfl rfl) (Fr.refl _ _) (λx ⟨a,e,_⟩=>by cases e)
 |some a=>
  simp only[Option.isNone_some,au,aN];exact uf tN uN H (eO wm 1 sS xs) (K5 xs) ae ae λP C h' o f g=>⟨_,_,_,rfl,hk P C h' o f g⟩
abbrev pL(h:ai)(b:Nat)(id:Nat):Prop:=h[b]? =some (.cells #[.int .u64 (id:Int)] 27 (0,0))
def wE(xs:List AV)(id:Nat):Int:=match xs.findIdx? (λa=>decide (a.id=id))with|some k=>(k:Int)|none=> -1
theorem DD{b id:Nat}(a:AV)(hid:pL h b id)(hk: gW h R (.bool (decide (a.id=id)))):ar Tryz.prog 110 #[.agg #[.U (a.id:Int),a.v.val],.P b 0] h R:=by
 refine oO.walk (cp.box λb1 H E f f1=>⟨_,aw f,_,aw (f1.get hid (λx=>x)),?_⟩);have e:((a.id:Int)==(id:Int))=decide (a.id=id):=by
  by_cases q:a.id=id
  .simp[q]
  .have: ¬(a.id:Int)=(id:Int):=ae
   simp[q,this]
 rw[e];exact hk H f1
theorem Fv{xs:List AV}{n m b id:Nat}(z:Row h p (xs.flatMap AV.enc))(y:n=xs.length)(F:xs.length<=1000000000)(hid:pL h b id)(hk: gW h R (.I (wE xs id))):
  ar Tryz.prog 89 #[.slice p n m,.func (.func 110) #[] #[.P b 0]] h R:=by
 subst y;refine dP.kO.walk ?_;refine⟨λi h'=>Fr No h h'/\∃k:Nat,i=(k:Int)/\k<=xs.length/\∀j (H:j<xs.length),j<k->xs[j].id≠id,λi _=>xs.length - i.toNat,⟨Fr.refl _ _,0,rfl,ae,λj _ H=>ae⟩,?_⟩;rintro _ g ⟨f1,k,rfl,E,f⟩;have r:=z.frame f1 (λ_ _ x=>x);have w:pL g b id:=f1.get hid (λx=>x);by_cases o:k<xs.length
 .have q1:(k:Int)<(xs.length:Int):=ae
  simp only[q1,bA,bh,aI];have B:xs[k]? =some xs[k]:=aj o;obtain⟨a,rfl⟩:=r.some (λe=>by have:=bY List.length e;rw[eO AV.enc 2 gu,bt]at this;omega);refine⟨⟨ae,by first|trivial|omega⟩,ay.2 (cp.ED (r.gv gu B) ?_)⟩;refine DD xs[k] w λs f2=>⟨_,rfl,?_⟩
  by_cases e:xs[k].id=id
  .simp only[e,bA,bh];have:wE xs id=(k:Int):=by
    unfold wE;have:xs.findIdx? (λa=>decide (a.id=id))=some k:=by
     rw[cv];exact⟨o,cD e,λj H=>by simpa using f j ae H⟩
    rw[this]
   rw[this]at hk;exact hk s (f1.tt f2)
  .simp only[e,bk,au,aN];rw[bz ae ae];refine⟨⟨f1.tt f2,k+1,ae,ae,λj H C=> ?_⟩,?_⟩
   .by_cases q:j=k
    .subst q;exact e
    .exact f j H ae
   .show xs.length - Int.toNat ((k:Int)+1)<xs.length - Int.toNat (k:Int);omega
 .have q1: ¬(k:Int)<(xs.length:Int):=ae
  simp only[q1,bk,au,aN];have:wE xs id= -1:=by
   unfold wE;have:xs.findIdx? (λa=>decide (a.id=id))=none:=by
    rw[cV];intro a v;obtain⟨j,H⟩:=bx v;have l:=(aC.1 H).1;rw[aj l]at H;obtain rfl:=bn H;simpa using f j l ae
   rw[this]
  rw[this]at hk;exact hk g f1
theorem Lr{b id:Nat}(a:AV)(hid:pL h b id)(hk: gW h R (.bool (decide (a.id=id)))):ar Tryz.prog 90 #[.agg #[.U (a.id:Int),a.v.val],.P b 0] h R:=by
 refine oP.walk (cp.box λb1 H E f f1=>⟨_,aw f,_,aw (f1.get hid (λx=>x)),?_⟩);have e:((a.id:Int)==(id:Int))=decide (a.id=id):=by
  by_cases q:a.id=id
  .simp[q]
  .have: ¬(a.id:Int)=(id:Int):=ae
   simp[q,this]
 rw[e];exact hk H f1
theorem Fw{xs:List AV}{n m b id:Nat}(z:Row h p (xs.flatMap AV.enc))(y:n=xs.length)(F:xs.length<=1000000000)(hid:pL h b id)(hk: gW h R (.I (wE xs id))):
  ar Tryz.prog 89 #[.slice p n m,.func (.func 90) #[] #[.P b 0]] h R:=by
 subst y;refine dP.kept.walk ?_;refine⟨λi h'=>Fr No h h'/\∃k:Nat,i=(k:Int)/\k<=xs.length/\∀j (H:j<xs.length),j<k->xs[j].id≠id,λi _=>xs.length - i.toNat,⟨Fr.refl _ _,0,rfl,ae,λj _ H=>ae⟩,?_⟩;rintro _ g ⟨f1,k,rfl,E,f⟩;have r:=z.frame f1 (λ_ _ x=>x);have w:pL g b id:=f1.get hid (λx=>x);by_cases o:k<xs.length
 .have q1:(k:Int)<(xs.length:Int):=ae
  simp only[q1,bA,bh,aI];have B:xs[k]? =some xs[k]:=aj o;obtain⟨a,rfl⟩:=r.some (λe=>by have:=bY List.length e;rw[eO AV.enc 2 gu,bt]at this;omega);refine⟨⟨ae,by first|trivial|omega⟩,ay.2 (cp.ED (r.gv gu B) ?_)⟩;refine Lr xs[k] w λs f2=>⟨_,rfl,?_⟩
  by_cases e:xs[k].id=id
  .simp only[e,bA,bh];have:wE xs id=(k:Int):=by
    unfold wE;have:xs.findIdx? (λa=>decide (a.id=id))=some k:=by
     rw[cv];exact⟨o,cD e,λj H=>by simpa using f j ae H⟩
    rw[this]
   rw[this]at hk;exact hk s (f1.tt f2)
  .simp only[e,bk,au,aN];rw[bz ae ae];refine⟨⟨f1.tt f2,k+1,ae,ae,λj H C=> ?_⟩,?_⟩
   .by_cases q:j=k
    .subst q;exact e
    .exact f j H ae
   .show xs.length - Int.toNat ((k:Int)+1)<xs.length - Int.toNat (k:Int);omega
 .have q1: ¬(k:Int)<(xs.length:Int):=ae
  simp only[q1,bk,au,aN];have:wE xs id= -1:=by
   unfold wE;have:xs.findIdx? (λa=>decide (a.id=id))=none:=by
    rw[cV];intro a v;obtain⟨j,H⟩:=bx v;have l:=(aC.1 H).1;rw[aj l]at H;obtain rfl:=bn H;simpa using f j l ae
   rw[this]
  rw[this]at hk;exact hk g f1
def pF(u:ai)(p:cj)(cap b id:Nat)(xs:List AV)(i j:Int)(h:ai):Prop:=
 ∃(a k:Nat)(zs:List AV),i=(a:Int)/\j=(k:Int)/\a<k/\k<=xs.length/\zs.length=xs.length/\zs.take a=(xs.take k).filter (λx=>decide (x.id≠id))/\zs.drop k=xs.drop k/\fy h p xs.length cap 2 (zs.flatMap AV.enc)/\Fr (aP p) u h/\pL h b id
theorem Fx{xs:List AV}{cap b id n:Nat}(own:fy h p xs.length cap 2 (xs.flatMap AV.enc))(hn:n=xs.length)(hl:xs.length<=1000000000)(hid:pL h b id)(J: ¬aP p b)(hk: ∀h',fy h' p (xs.filter (λx=>decide (x.id≠id))).length cap 2 ((xs.filter (λx=>decide (x.id≠id))).flatMap AV.enc)->Fr (aP p) h h'->pL h' b id->R (.slice p (xs.filter (λx=>decide (x.id≠id))).length cap) h'):
  ar Tryz.prog 109 #[.slice p n cap,.func (.func 110) #[] #[.P b 0]] h R:=by
 subst hn;refine gG.kO.walk (Fv own.iT rfl hl hid λg f1=>⟨_,rfl,?_⟩);have Jh:=own.frame f1 (λ_ _ x=>x);have r:pL g b id:=f1.get hid (λx=>x);have F:Fr (aP p) h g:=f1.mono (λ_ _=>False.elim);unfold wE;cases m:xs.findIdx? (λa=>decide (a.id=id))with
 |none=>
  rw[af (by rfl)];have e':xs.filter (λx=>decide (x.id≠id))=xs:=by
   rw[cb];intro a l;have:=cV.1 m a l;simpa using this
  rw[e']at hk;exact hk g Jh F r
 |some k=>
  dsimp only;rw[ag (by simp only[cP];omega)];obtain⟨S,w,Q⟩:=cv.1 m;rw[bz ae ae];have T:(xs.take (k+1)).filter (λx=>decide (x.id≠id))=xs.take k:=by
   rw[bL,aj S,fh];have e1:(xs.take k).filter (λx=>decide (x.id≠id))=xs.take k:=by
    rw[cb];intro a l;obtain⟨j,H⟩:=bx l;rw[cI]at H;split at H
    .rename_i g';have s:j<xs.length:=ae
     rw[aj s]at H;obtain rfl:=bn H;simpa using Q j g'
    .cases H
   have e2: [xs[k]].filter (λx=>decide (x.id≠id))= []:=by
    simp at w;simp[w]
   rw[e1];show xs.take k++ [xs[k]].filter (λx=>decide (x.id≠id))=_;rw[e2,List.append_nil]
  refine⟨pF h p cap b id xs,λ_ j _=>xs.length - j.toNat,⟨k,k+1,xs,rfl,ae,ae,ae,rfl,T.symm,rfl,Jh,F,r⟩,?_⟩;clear Jh r F f1 T Q w S m;rintro _ _ h2 ⟨a,j,zs,rfl,rfl,p',q',W,f,y,o,z,N⟩;by_cases s:j<xs.length
  .have q1:(j:Int)<(xs.length:Int):=ae
   simp only[q1,bA,bh,aI];have V:xs[j]? =some xs[j]:=aj s;have j':zs[j]? =some xs[j]:=by
    have:=bY (·[0]?) y;simpa[V]using this
   have E:(xs.take (j+1)).filter (λx=>decide (x.id≠id))=(xs.take j).filter (λx=>decide (x.id≠id))++if xs[j].id=id then []else [xs[j]]:=by
    rw[bL,V,fh];congr 1
    by_cases e:xs[j].id=id<;>simp[e]
   generalize xs[j]=x at*;obtain⟨ab,b',rfl⟩:=o.addr ae;refine aK.of λn' G=>⟨⟨ae,by first|trivial|omega⟩,ay.2 (cp.ED (o.gv gu j') (cp.new λb6 h6 o' K f6=>cp.ld K ?_))⟩
   have O:pL h6 b id:=f6.get N (λx=>x);refine DD x O λC f7=>⟨_,rfl,?_⟩
   have f27:=f6.tt f7;have a':=o.frame f27 (λ_ _ x=>x);have P:pL C b id:=f7.get O (λx=>x);have B:=z.on f27;refine aK.of λJ1 d'=> ?_
   subst d';by_cases e:x.id=id
   .simp only[e,bA,cQ,au,aN];subst G;rw[bz ae ae];rw[af e,List.append_nil]at E;refine⟨⟨a,j+1,zs,rfl,ae,ae,ae,W,by rw[E];exact f,?_,a',B,P⟩,?_⟩
    .have:=bY (List.drop 1) y;rw[List.drop_drop,List.drop_drop]at this;exact this
    .show xs.length - Int.toNat ((j:Int)+1)<xs.length - Int.toNat (j:Int);omega
   .simp only[e,bk,eh,bh];have f':=f7.get K (λx=>x);rw[ag e]at E;refine cp.ld f' ⟨⟨ae,by first|trivial|omega⟩,ay.2 ?_⟩;have I:a<zs.length:=ae
    have M:=eO AV.enc 2 gu zs;refine a'.store (by rw[M];omega) λh9 l' s9 o9=> ?_
    rw[add_add];refine l'.store (by rw[du,M];omega) λc' Y m' k'=> ?_
    rw[IK gu I rfl]at Y;subst G;rw[bz ae ae,bz ae ae];have f10:Fr (aP (some (AA ab b'))) C c':=(Fr.of_eq s9 o9).tt (Fr.of_eq m' k');refine⟨⟨a+1,j+1,zs.set a x,ae,ae,ae,ae,by rw[du];exact W,?_,?_,Y,B.tt f10,f10.get P J⟩,?_⟩
    .rw[E,<-f,bL,di,af rfl,af I,List.take_set_of_le (aZ a)];rfl
    .rw[List.drop_set_of_lt ae];have:=bY (List.drop 1) y;rw[List.drop_drop,List.drop_drop]at this;exact this
    .show xs.length - Int.toNat ((j:Int)+1)<xs.length - Int.toNat (j:Int);omega
  .have q1: ¬(j:Int)<(xs.length:Int):=ae
   simp only[q1,bk,au,aN];obtain rfl:j=xs.length:=ae
   rw[fi]at f;have i':(xs.filter (λx=>decide (x.id≠id))).length=a:=by rw[<-f,bF];omega
   refine⟨⟨ae,ae⟩,?_⟩;simp only[aI];refine Aj tA (by intro v U;simp[Value.cells]at U;rcases U with rfl|rfl<;>rfl) o ae λh3 Z f3=>⟨rfl,⟨ae,cf own.le⟩,?_⟩
   rw[kW AV.enc 2 gu,f]at Z;rw[jB,Nat.sub_zero,Nat.sub_zero];rw[i']at hk;exact hk h3 Z (z.tt f3) (f3.get N J)
end eY
end
section
namespace eY
variable {A:List eY} {num:Int} {s s':eY} {i:Nat}
structure tY (i:Nat) (s:eY):Prop where
 num:s.num=i+1
 tk:1<=s.token/\s.token<=2147483648
 kl:s.kept.length<=6
 nl:s.notes.length<=6
 kd: ∀a∈s.kept,a.1<=1099511627776/\a.2.length<=1000
 nd: ∀n∈s.notes,1<=n.length/\n.length<=600
 ki:(s.kept.map (·.1)).Nodup
structure qp (A:List eY):Prop where
 le:A.length<=8
 at_: ∀i s,A[i]? =some s->tY i s
 tk:(A.map (·.token)).Nodup
def km(A:List eY)(num:Int):Option eY:=if 1<=num then A[(num - 1).toNat]? else none
theorem uG(h:km A num=some s): ∃i:Nat,num=(i:Int)+1/\A[i]? =some s:=by
 unfold km at h;split at h
 .exact⟨(num - 1).toNat,ae,h⟩
 .cases h
theorem qq :km A ((i:Int)+1)=A[i]? :=by
 unfold km;rw[fO,show((i:Int)+1 - 1).toNat=i by omega]
theorem kX(h:num<1\/num>(A.length:Int)):km A num=none:=by
 unfold km;split
 .rw[dh ae]
 .rfl
def mF(A:List eY)(num:Int)(s:eY):List eY:=A.set (num - 1).toNat s
def Fy(A:List eY)(num:Int):Bool:=match km A num with|some s=>s.up|none=>false
def DE(A:List eY)(token:Nat):Bool:=A.any λs=>decide (s.token=token)
def oF(A:List eY)(token:Nat):Int:=if token<1\/token>2147483648 then 1 else if DE A token=true then 12 else if A.length≥8 then 5 else 0
def Pf(A:List eY)(token:Nat):Int:=if oF A token=0 then(A.length:Int)+1 else 0
def ko(A:List eY)(token:Nat):List eY:=if oF A token=0 then A++ [⟨A.length+1,token,true,false, [], []⟩]else A
def Pg(A:List eY)(num:Int):Int:=match km A num with|none=>4|some s=>if s.up=true then 0 else 7
def Ph(A:List eY)(num:Int):List eY:=match km A num with|none=>A|some s=>if s.up=true then mF A num { s with up:=false } else A
def hN(k:List (Nat×List UInt8))(id:Nat)(d:List UInt8):List (Nat×List UInt8):=
 if(k.filter (λa=>decide (a.1≠id))++ [(id,d)]).length>6 then(k.filter (λa=>decide (a.1≠id))++ [(id,d)]).drop 1 else k.filter (λa=>decide (a.1≠id))++ [(id,d)]
def Ls(A:List eY)(num:Int)(id:Nat)(d:List UInt8):Int:=match km A num with|none=>4|some _=>if id>1099511627776\/d.length>1000 then 1 else 0
def jM(A:List eY)(num:Int)(id:Nat)(d:List UInt8):List eY:=match km A num with|none=>A|some s=>if id>1099511627776\/d.length>1000 then A else mF A num { s with kept:=hN s.kept id d }
def vU(k:List (Nat×List UInt8))(id:Nat):Option (List UInt8):=(k.find? (λa=>decide (a.1=id))).map (·.2)
def lJ(A:List eY)(num:Int)(id:Nat):Option (List UInt8):=match km A num with|none=>none|some s=>vU s.kept id
def uH(A:List eY)(num:Int):Int:=match km A num with|none=>4|some _=>0
def jh(A:List eY)(num:Int)(on:Bool):List eY:=match km A num with|none=>A|some s=>mF A num { s with watch:=on }
def Lt(A:List eY)(num:Int):Int:=match km A num with|none=>4|some _=>0
def G5(A:List eY)(num:Int):Int:=match km A num with|none=>0|some s=>(s.notes.length:Int)
def AD(A:List eY)(num:Int):List UInt8:=match km A num with|none=> []|some s=>s.notes.headD []
def AE(A:List eY)(num:Int):List eY:=match km A num with|none=>A|some s=>mF A num { s with notes:=s.notes.drop 1 }
theorem qp.set(ok:qp A)(H:A[i]? =some s)(b:s'.token=s.token)(h':tY i s'):qp (A.set i s'):=by
 have a:=(aC.1 H).1;refine⟨by rw[du];exact ok.le,λj u h=> ?_,?_⟩
 .rw[di]at h;by_cases e:i=j
  .subst e;rw[af rfl,af a]at h;obtain rfl:=bn h;exact h'
  .rw[ag e]at h;exact ok.at_ j u h
 .rw[List.map_set,b,tc (by rw[aM,H];rfl)];exact ok.tk
theorem qp.mF(ok:qp A)(H:km A num=some s)(a:s'.token=s.token)(h': ∀i,tY i s->tY i s'):qp (mF A num s'):=by
 obtain⟨i,rfl,h⟩:=uG H;unfold eY.mF;rw[show((i:Int)+1 - 1).toNat=i by omega];exact ok.set h a (h' i (ok.at_ i s h))
theorem qp.open(ok:qp A)(token:Nat):qp (ko A token):=by
 unfold ko;split
 .rename_i h;unfold oF at h;split at h
  .cases h
  rename_i k;split at h
  .cases h
  rename_i d;split at h
  .cases h
  rename_i l;refine⟨by rw[aA,dy];omega,λj u H=> ?_,?_⟩
  .by_cases e:j<A.length
   .rw[cN e]at H;exact ok.at_ j u H
   .rw[cH ae]at H;have e2:j=A.length:=by
     have:=(aC.1 H).1;simp at this;omega
    subst e2;simp at H;subst H;exact⟨rfl,by show 1<=token/\token<=2147483648;omega,bM,bM,bM,bM,bM⟩
  .rw[bf,dX];refine⟨ok.tk,bM,λa f b c e=> ?_⟩;simp at c;subst c;subst e;apply d
   unfold DE;rw[List.any_eq_true];obtain⟨s,g,e⟩:=bg.1 f;exact⟨s,g,cD e⟩
 .exact ok
theorem Lu{k:List (Nat×List UInt8)}{id:Nat}{d:List UInt8}(hk:k.length<=6)(j: ∀a∈k,a.1<=1099511627776/\a.2.length<=1000)(l:(k.map (·.1)).Nodup)(f:id<=1099511627776)(g:d.length<=1000):
  (hN k id d).length<=6/\(∀a∈hN k id d,a.1<=1099511627776/\a.2.length<=1000)/\((hN k id d).map (·.1)).Nodup:=by
 have n:(k.filter (λa=>decide (a.1≠id))++ [(id,d)]).length<=7:=by
  have:=cg (λa=>decide (a.1≠id)) k;rw[aA,dy];omega
 have h: ∀a∈k.filter (λa=>decide (a.1≠id))++ [(id,d)],a.1<=1099511627776/\a.2.length<=1000:=by
  intro a ha;rcases bJ.1 ha with ha|ha
  .exact j a (aW.1 ha).1
  .simp at ha;subst ha;exact⟨f,g⟩
 have c:((k.filter (λa=>decide (a.1≠id))++ [(id,d)]).map (·.1)).Nodup:=by
  rw[bf,dX];refine⟨(cA.map _).nodup l,bM,λa ha b H e=> ?_⟩;simp at H;subst H;subst e;obtain⟨x,m,e⟩:=bg.1 ha;have:=(aW.1 m).2;simp at this;exact this e
 unfold hN;split
 .refine⟨by rw[bN];omega,λa ha=>h a (List.mem_of_mem_drop ha),?_⟩;rw[List.map_drop];exact(List.drop_sublist _ _).nodup c
 .exact⟨ae,h,c⟩
theorem qp.kO(ok:qp A)(num:Int)(id:Nat)(d:List UInt8):qp (jM A num id d):=by
 unfold jM;split
 .exact ok
 .rename_i s h;split
  .exact ok
  .rename_i H;refine ok.mF h rfl λi o=> ?_
   obtain⟨k,K,a⟩:=Lu (id:=id) (d:=d) o.kl o.kd o.ki ae ae;exact⟨o.num,o.tk,k,o.nl,K,o.nd,a⟩
theorem qp.watch(ok:qp A)(num:Int)(on:Bool):qp (jh A num on):=by
 unfold jh;split
 .exact ok
 .rename_i s h;exact ok.mF h rfl λi o=>⟨o.num,o.tk,o.kl,o.nl,o.kd,o.nd,o.ki⟩
theorem qp.read(ok:qp A)(num:Int):qp (AE A num):=by
 unfold AE;split
 .exact ok
 .rename_i s H;refine ok.mF H rfl λi o=>⟨o.num,o.tk,o.kl,?_,o.kd,λn h=>o.nd n (List.mem_of_mem_drop h),o.ki⟩
  have:=o.nl;rw[bN];omega
theorem qp.nil:qp []:=⟨bM,bM,bM⟩

end eY
end
section
open Go.fQ
namespace eY
open kk
variable {h h':ai} {t:Nat} {X:Ft} {R:fx} {p q:cj} {c i:Nat} {NO:Pe} {D:Nat→Prop} {L:List SC} {A:List eY}
variable {num:Int}
theorem tP:nP Tryz.prog 88 91 1 8 (.pointer none):=⟨db,db,rfl⟩
theorem uP:Tryz.prog.underlying 88=some (.slice 91):=db
theorem iH(hk: ∀h' t X,Has h' t X []->Fr No h h'->(∀x,X.M x\/X.D x->h.size<=x)->R (.P t 0) h'):ar Tryz.prog 35 #[] h R:=by
 refine BO.walk (cC ?_);refine hk _ _ ⟨λx=>x=h.size,λ_=>False⟩ ⟨[],λx=>if x=h.size then some 0 else none, [],⟨⟨none,0,bT,.nil rfl rfl rfl rfl,λx ⟨a,e,_⟩=>by cases e⟩,bM,λi s b=>by simp at b,?_,λ_ h=>h.elim,λ_ _ _ h=>h⟩,rfl,rfl,?_⟩ (Fr.push _ _) (λx d=>d.elim (λe=>by have e:x=h.size:=e;omega) False.elim)
 .intro x r H;split at H
  .rename_i e;rw[dN];omega
  .cases H
 .intro x;constructor
  .intro e;have e:x=h.size:=e;exact⟨0,by simp[e]⟩
  .rintro⟨r,H⟩;dsimp only at H;split at H
   .assumption
   .cases H
theorem ir(T:CM h t NO D L)(K: ∀i s,num=((i:Nat):Int)+1->L[i]? =some s->R (.tuple #[.P s.b 0,.I 0]) h)(k:(num<1\/num>(L.length:Int))->R (.tuple #[.pointer none,.I 4]) h)(m:L.length<=1000000):
  ar Tryz.prog 78 #[.P t 0,.I num] h R:=by
 obtain⟨p,c,d,own,n⟩:=T.cR;refine qK.walk (aK.of λJ H=>⟨true,aw d,?_⟩);subst H;simp only[cQ,au,aN];refine aK.of λJ H=> ?_
 by_cases a:num<1
 .simp only[a,bA,bh];subst H;simp only[bh];exact k (.inl a)
 .simp only[a,bk,au,aN];refine⟨_,_,_,aw d,?_⟩;by_cases b:num>(L.length:Int)
  .simp only[b,bA];subst H;simp only[bh];exact k (.inr b)
  .simp only[b,bk];subst H;simp only[au,aN];obtain⟨i,rfl⟩: ∃i:Nat,num=(i:Int)+1:=⟨(num - 1).toNat,ae⟩;have g:i<L.length:=ae
   have f:L[i]? =some L[i]:=aj g;obtain⟨j,l,rfl⟩:=own.addr ae;have e:IntKind.wrap .i64 ((i:Int)+1 - 1)=(i:Int):=by rw[bz ae ae];omega
   rw[e];refine⟨_,_,_,aw d,⟨ae,ae⟩,ay.2 ⟨_,?_,K i _ rfl f⟩⟩;rw[aI,cr];exact own.cell (by rw[aM,f];rfl)
theorem AF{k:Int}(token:Nat)(o:k=(token:Int))(T:CM h t NO D L)(z:L.length<=1000000)(K: ∀i s,L[i]? =some s->s.token=token->L.findIdx? (λs=>decide (s.token=token))=some i->R (.P s.b 0) h)(r:L.findIdx? (λs=>decide (s.token=token))=none->R (.pointer none) h):ar Tryz.prog 40 #[.P t 0,.U k] h R:=by
 subst o;obtain⟨p,c,n,own,B⟩:=T.cR;refine tb.walk ⟨_,_,_,aw n,?_⟩;refine⟨λi h'=>h'=h/\∃k:Nat,i=(k:Int)/\k<=L.length/\∀j (H:j<L.length),j<k->L[j].token≠token,λi _=>L.length - i.toNat,⟨rfl,0,rfl,ae,λj _ H=>ae⟩,?_⟩;rintro _ w ⟨rfl,k,rfl,y,b⟩;by_cases g:k<L.length
 .have q1:(k:Int)<(L.length:Int):=ae
  simp only[q1,bA,bh,aI];have d:L[k]? =some L[k]:=aj g;obtain⟨u,v,rfl⟩:=own.addr ae;have m:=(T.ses k _ d).cR;refine⟨⟨ae,by first|trivial|omega⟩,ay.2 ⟨some ⟨L[k].b,0,none⟩,?_,ay.2 ⟨_,aw m,?_⟩⟩⟩
  .rw[cr];exact own.cell (by rw[aM,d];rfl)
  by_cases e:L[k].token=token
  .rw[af (by rw[e];simp)];refine K k _ d e ?_;rw[cv];exact⟨g,cD e,λj H=>by simpa using b j ae H⟩
  .rw[ag (by simp only[cP];omega)];rw[bz ae ae];refine⟨⟨trivial,k+1,ae,ae,λj H x=> ?_⟩,?_⟩
   .by_cases q:j=k
    .subst q;exact e
    .exact b j H ae
   .show L.length - Int.toNat ((k:Int)+1)<L.length - Int.toNat (k:Int);omega
 .have q1: ¬(k:Int)<(L.length:Int):=ae
  simp only[q1,bk,au,aN];refine r ?_;rw[cV];intro a l;obtain⟨j,H⟩:=bx l;have f:=(aC.1 H).1;rw[aj f]at H;obtain rfl:=bn H;simpa using b j f ae
theorem mG{s:SC}(H:L[i]? =some s):(L.map SC.abs)[i]? =some s.abs:=by rw[aM,H];rfl
theorem G1(H:Has h t X A)(ok:qp A)(hk:R (.bool (Fy A num)) h):ar Tryz.prog 28 #[.P t 0,.I num] h R:=by
 obtain⟨_,NO,L,T,rfl,_,f⟩:=H;have b:=ok.le;rw[aJ]at b;unfold Fy at hk;refine sZ.walk (ir T (λi s e a=>⟨_,_,rfl,?_⟩) (λd=>⟨_,_,rfl,?_⟩) ae)
 .rw[af (by rfl)];subst e;rw[qq,mG a]at hk;exact ay.2 ⟨_,cz (T.ses i s a).cR rfl,hk⟩
 .rw[ag bM];rw[kX (by rw[aJ];exact d)]at hk;exact hk
theorem kP {k : Int} (token : Nat) (VB : k = (token : Int)) (H : Has h t X A) (ok : qp A) (hk : ∀ h' X', Has h' t X' (ko A token) → bC X h X' h' → R (.tuple #[.int .i64 (Pf A token), .int .i64 (oF A token)]) h') :
    ar Tryz.prog 12 #[.pointer (some ⟨t, 0, none⟩), .int .u64 k] h R := by
  subst VB
  have H0 := H
  obtain ⟨_, NO, L, TB, rfl, _, hS⟩ := H
  have hl := ok.le
  rw [List.length_map] at hl
  obtain ⟨p, c, hb, own, hp⟩ := TB.cR
  refine qL.walk (aK.of λJ hJ => ⟨true, cz hb rfl, ?_⟩)
  subst hJ
  simp only [Bool.not_true, Bool.false_eq_true, if_false]
  refine aK.of λJ hJ => ?_
  unfold Pf ko at hk
  have jt : (token < 1 ∨ token > 2147483648) → J true h := by
    intro hh
    subst hJ
    simp only [if_true]
    have e : oF (L.map SC.abs) token = 1 := by unfold oF; rw [if_pos hh]
    rw [e] at hk
    exact hk h X H0 (bC.refl _ _)
  have jf : ¬ (token < 1 ∨ token > 2147483648) → J false h := by
    intro hh
    subst hJ
    simp only [Bool.false_eq_true, if_false]
    refine AF token rfl TB (by omega) (λi s hs ht hf => ⟨_, rfl, ?_⟩) (λhf => ⟨_, rfl, ?_⟩)
    · simp only [Option.isNone_some, Bool.not_false, if_true]
      have e : oF (L.map SC.abs) token = 12 := by
        unfold oF
        rw [if_neg hh, if_pos]
        unfold DE
        rw [List.any_eq_true]
        exact ⟨s.abs, List.mem_map_of_mem (List.mem_of_getElem? hs), by simp [SC.abs, ht]⟩
      rw [e] at hk
      exact hk h X H0 (bC.refl _ _)
    · simp only [Option.isNone_none, Bool.not_true, Bool.false_eq_true, if_false]
      have U7 : ¬ DE (L.map SC.abs) token = true := by
        unfold DE
        rw [List.any_eq_true]
        rintro ⟨x, hx, e⟩
        obtain ⟨s, hs, rfl⟩ := List.mem_map.1 hx
        have := List.findIdx?_eq_none_iff.1 hf s hs
        rw [show s.abs.token = s.token from rfl] at e
        rw [e] at this; cases this
      refine ⟨_, _, _, cz hb rfl, ?_⟩
      by_cases h8 : (L.length : Int) ≥ 8
      · simp only [h8, decide_true, if_true]
        have e : oF (L.map SC.abs) token = 5 := by
          unfold oF
          rw [if_neg hh, if_neg U7, if_pos (by rw [List.length_map]; omega)]
        rw [e] at hk
        exact hk h X H0 (bC.refl _ _)
      · simp only [h8, decide_false, Bool.false_eq_true, if_false]
        have e : oF (L.map SC.abs) token = 0 := by
          unfold oF
          rw [if_neg hh, if_neg U7, if_neg (by rw [List.length_map]; omega)]
        rw [e] at hk
        simp only [if_true] at hk
        refine ⟨_, _, _, cz hb rfl, ?_⟩
        rw [bz (n := (L.length : Int) + 1) (by omega) (by omega)]
        refine hZ.box λb h4 eb G6 f4 => ?_
        have TG := own.frame f4 (λ_ _ => id)
        refine ⟨_, _, _, cz (f4.get hb id) rfl, ?_⟩
        refine iU tP uP TG rfl (λv hv => by simp at hv; subst hv; rfl) (by omega) (by omega) ?_
        intro p' c' h6 o6 f6 g6
        refine ⟨_, _, _, rfl, ?_⟩
        have WJ := aF hb
        have U9 : ¬ aP p t := λhx => by have := hp t hx; rw [TB.Nd] at this; cases this
        have VC := f6.get (f4.get hb id) U9
        have Va : ¬ aP p b := λhx => by have := own.eg hx; omega
        have VD := f6.get G6 Va
        refine bB VC (by simp) λh7 k1 k2 k3 => ?_
        have f7 : Fr (λx => x = t) h6 h7 := Fr.of_eq k2 k3
        have VE : ¬ b = t := λe => by omega
        have Vc := f7.get VD VE
        refine ⟨_, cz Vc rfl, ?_⟩
        have F : Fr (λx => x = t ∨ aP p x) h h7 := (f4.mono (λ_ _ => False.elim)).tt ((f6.mono (λ_ _ hx => .inr hx)).tt (f7.mono (λ_ _ hx => .inl hx)))
        have TH : ¬ aP p' t := λhx => (g6 t hx).elim U9 (λh2 => by have := aF (f4.get hb id); omega)
        have a1 : ∀ x, x = t ∨ aP p x → NO x = some 0 ∨ NO x = some 1 := by
          rintro x (rfl | hx)
          · exact .inl TB.Nd
          · exact .inr (hp x hx)
        have a2 : ∀ x, aP p' x → NO x = some 1 ∨ h.size ≤ x := by
          intro x hx
          rcases g6 x hx with h2 | h2
          · exact .inl (hp x h2)
          · have := f4.1; exact .inr (by omega)
        have a3 : ¬ aP p' b := by
          intro hx
          rcases g6 b hx with h2 | h2
          · exact Va h2
          · have := aF G6; omega
        obtain ⟨X', HH, st⟩ := TB.add (s := ⟨b, L.length + 1, token, true, false, [], none, 0, [], none, 0⟩) (p := p') (c0 := c') hS F a1 k1 (o6.frame f7 (λx hx e => TH (e ▸ hx))) a2 a3 Vc (by show h.size ≤ b; omega) ⟨rfl, rfl, rfl⟩ ⟨rfl, rfl, rfl⟩
        have := hk h7 X' (by rw [List.length_map]; exact ⟨_, HH⟩) st
        rw [List.length_map] at this
        exact this
  clear hJ
  by_cases h1 : token < 1
  · have : (token : Int) < 1 := by omega
    simp only [this, decide_true, if_true]
    exact jt (.inl h1)
  · have : ¬ (token : Int) < 1 := by omega
    simp only [this, decide_false, Bool.false_eq_true, if_false]
    by_cases h2 : token > 2147483648
    · have : (token : Int) > 2147483648 := by omega
      simp only [this, decide_true]
      exact jt (.inr h2)
    · have : ¬ (token : Int) > 2147483648 := by omega
      simp only [this, decide_false]
      exact jf (by omega)
theorem G2(H:Has h t X A)(ok:qp A)(hk: ∀h' x,Has h' t x (Ph A num)->bC X h x h'->R (.I (Pg A num)) h'):ar Tryz.prog 73 #[.P t 0,.I num] h R:=by
 have b:=H;obtain⟨_,NO,L,T,rfl,_,k⟩:=H;have l:=ok.le;rw[aJ]at l;unfold Ph Pg at hk;refine qM.walk (ir T (λi s e a=>⟨_,_,rfl,?_⟩) (λm=>⟨_,_,rfl,?_⟩) ae)
 .rw[ag bM];subst e;rw[qq,mG a]at hk;dsimp only at hk;have d:=(T.ses i s a).cR;refine ay.2 ⟨_,aw d,?_⟩;cases f:s.up with
  |true=>
   have:s.abs.up=true:=f;simp only[this,bh]at hk;simp only[cQ,au,aN];refine ay.2 (bB d bM λj K n o=> ?_);obtain⟨x,g,st⟩:=T.flag (s':= { s with up:=false }) k a rfl ⟨rfl,rfl,rfl⟩ ⟨rfl,rfl,rfl⟩ K n o;refine hk j x ?_ st;unfold mF;rw[show((i:Int)+1 - 1).toNat=i by omega];exact⟨_,g⟩
  |false=>
   have:s.abs.up=false:=f;simp only[this,au,aN]at hk;simp only[eh,bh];exact hk h X b (bC.refl _ _)
 .rw[af (by rfl)];rw[kX (by rw[aJ];exact m)]at hk;exact hk h X b (bC.refl _ _)
theorem x7{on:Bool}(H:Has h t X A)(ok:qp A)(hk: ∀h' x,Has h' t x (jh A num on)->bC X h x h'->R (.I (uH A num)) h'):ar Tryz.prog 166 #[.P t 0,.I num,.bool on] h R:=by
 have d:=H;obtain⟨_,NO,L,T,rfl,_,j⟩:=H;have l:=ok.le;rw[aJ]at l;unfold jh uH at hk;refine pI.walk (ir T (λi s e b=>⟨_,_,rfl,?_⟩) (λm=>⟨_,_,rfl,?_⟩) ae)
 .refine aK.of λJ a=> ?_
  subst a;rw[af (by rfl)];subst e;rw[qq,mG b]at hk;dsimp only at hk;have k:=(T.ses i s b).cR;refine ay.2 (bB k bM λg K n o=> ?_);obtain⟨x,f,st⟩:=T.flag (s':= { s with watch:=on }) j b rfl ⟨rfl,rfl,rfl⟩ ⟨rfl,rfl,rfl⟩ K n o;refine hk g x ?_ st;unfold mF;rw[show((i:Int)+1 - 1).toNat=i by omega];exact⟨_,f⟩
 .refine aK.of λJ a=> ?_
  subst a;rw[ag bM];rw[kX (by rw[aJ];exact m)]at hk;exact hk h X d (bC.refl _ _)

end eY
end
section
open Go.fQ Go.jC
namespace gC
open kk
variable {h h':ai} {b:Nat} {X:Ft} {R:fx} {p q:cj} {c d i:Nat} {L:List E} {s:BS}
variable {l:cj} {r a:Nat} {xs:List IV} {S:Nat->Prop} {owner k:Int} {x:It}
def AG(h:ai)(b:Nat)(X:Ft)(s:BS):Prop:= ∃L,Bx h b X s L/\okB s L
theorem AG.frame{Q:Nat->Prop}(H:AG h b X s)(f:Fr Q h h')(e: ∀y,X.M y\/X.D y->¬Q y):AG h' b X s:=by
 obtain⟨L,H,ok⟩:=H;exact⟨L,H.frame f e,ok⟩
theorem AG.on(H:AG h b X s)(f:Fr No h h'):AG h' b X s:=H.frame f (λ_ _=>id)
theorem AG.lt(H:AG h b X s)(y:Nat)(e:X.M y\/X.D y):y<h.size:=by
 obtain⟨L,H,ok⟩:=H;exact H.lt y e
theorem Mm.EF(H:Mm h b X s L l r xs a S)(ok:okB s L):L.length<1000/\xs.length<=16:=by
 have e:=ok.pm.length_eq;rw[aJ]at e;have:=ok.le;have:=H.len;omega
def ia(s:BS)(owner:Int)(d:List UInt8)(bX:Nat):Int:=if uz owner d.length (bX:Int)=true then(if s.items.length≥16 then 15 else 0)else 1
def zF(s:BS)(owner:Int)(d:List UInt8)(bX:Nat):Int:=if ia s owner d bX=0 then(s.next:Int)else 0
def DF(s:BS)(owner:Int)(d:List UInt8)(bX:Nat):BS:=if ia s owner d bX=0 then { s with items:=s.items++ [⟨s.next,owner,d,bX⟩],next:=s.next+1 } else s
theorem x8{bs:List UInt8}{n m:Nat}(bX:Nat)(r':k=(bX:Int))(H:AG h b X s)(hr:Row h p (bc bs))(B:n=bs.length)(hl:bs.length<=1000000)(B':s.next<=1000000000)(hk: ∀h' Y,AG h' b Y (DF s owner bs bX)->bC X h Y h'->R (.tuple #[.I (zF s owner bs bX),.I (ia s owner bs bX)]) h'):
  ar Tryz.prog 240 #[.P b 0,.I owner,.slice p n m,.U k] h R:=by
 subst r';subst B;obtain⟨L,⟨l,r,xs,a,S,H⟩,ok⟩:=H;obtain⟨hL,C'⟩:=H.EF ok;have A':=H.len;refine xU.walk (fI H ⟨_,rfl,?_⟩);simp only[cQ,au,aN];refine⟨_,aw H.cR,qo hr rfl ae λt P C o2 f2 g2=>⟨_,_,_,_,_,_,rfl,?_⟩⟩;refine aU.new λb1 h7 z' U f7=>aU.ld U (eX λf f8=>⟨_,rfl,?_⟩)
 have I:Fr No h f:=f2.tt (f7.tt f8);have u:=H.on I;have z2:=f2.1;have z7:=f7.1;have z8:=f8.1;have l1:=aF U;unfold DF zF at hk;cases g:uz owner bs.length (bX:Int)with
 |false=>
  have e:ia s owner bs bX=1:=by unfold ia;rw[g];rfl
  rw[e]at hk;simp only[eh,bh];exact hk f X ⟨L,⟨l,r,xs,a,S,u⟩,ok⟩ (bC.hM I)
 |true=>
  simp only[cQ,au,aN];refine⟨_,_,_,aw u.cR,?_⟩;by_cases c':s.items.length≥16
  .have q:(xs.length:Int)≥16:=ae
   have e:ia s owner bs bX=15:=by unfold ia;rw[g,af rfl,af c']
   rw[e]at hk;simp only[q,bA,bh];exact hk f X ⟨L,⟨l,r,xs,a,S,u⟩,ok⟩ (bC.hM I)
  .have q: ¬(xs.length:Int)≥16:=ae
   have e:ia s owner bs bX=0:=by unfold ia;rw[g,af rfl,ag c']
   rw[e]at hk;simp only[bh]at hk;simp only[q,bk,au,aN];have b':aU.at f b1 (s.next:Int) owner P bs.length C (bX:Int):=f8.get U id;refine⟨_,_,_,aw u.cR,aU.ld b' ?_⟩;refine cC ⟨cz (u.on (Fr.push (S:=λ_=>False) f _)).cR rfl,?_⟩;have f9:Fr No f (f.push (.cells #[.I (s.next:Int),.I owner,.slice P bs.length C,.U (bX:Int)] 119)):=Fr.push _ _;have r9:Row (f.push (.cells #[.I (s.next:Int),.I owner,.slice P bs.length C,.U (bX:Int)] 119)) (some (AA f.size 0)) [.I (s.next:Int),.I owner,.slice P bs.length C,.U (bX:Int)]:=jq;generalize f.push (.cells #[.I (s.next:Int),.I owner,.slice P bs.length C,.U (bX:Int)] 119)=K at f9 r9⊢;have N:=u.on f9;have q':aU.at K b1 (s.next:Int) owner P bs.length C (bX:Int):=f9.get b' id;refine dO tI uI N.own r9 rfl (λv hv=>by simp at hv;rcases hv with rfl|rfl|rfl|rfl<;>rfl) ae ae λF l' w e' _ f10 o'=>⟨_,_,_,rfl,?_⟩
   have z9:=f9.1;have D':=f10.1;have lb:=aF H.cR;have v':=f10.get N.cR H.bl;refine bB v' bM λJ Z a2 a3=> ?_
   have f11:Fr (λy=>y=b) w J:=Fr.of_eq a2 a3;refine⟨_,aw Z,bB Z bM λj d1 d2 d3=> ?_⟩;have f12:Fr (λy=>y=b) J j:=Fr.of_eq d2 d3;have d': ∀y,h.size<=y->¬aP l y:=λy hy hx=>by have:=H.own.eg hx;omega
   have p':aU.at w b1 (s.next:Int) owner P bs.length C (bX:Int):=f10.get q' (d' b1 ae);have a':aU.at j b1 (s.next:Int) owner P bs.length C (bX:Int):=(d3 b1 ae).trans ((a3 b1 ae).trans p');have f':bR.Al j a S L:=((N.al.frame f10 (λy hy hx=>H.ls y hx hy)).frame f11 (λy hy e=>H.bs (e▸hy))).frame f12 (λy hy e=>H.bs (e▸hy));refine⟨_,aw d1,_,aw a',?_⟩;rw[xV]at g;have s':bR.may (s.next:Int) (bX:Int)=true:=bR.kN.2 ⟨cf ok.xX,ae,g.2.2.2.2⟩;refine bR.Fl f' ae _ _ ae (λ_ A O g' T f13=>⟨_,rfl,?_⟩) (λhf=>by rw[s']at hf;cases hf);have V: ∀y,h.size<=y->¬S y:=λy hy o=>by have:=H.al.lt o;omega
   refine⟨_,aw (f13.get a' (V b1 ae)),?_⟩;have F9:Fr No h K:=I.tt f9;have E':w.size<=j.size:=ae
   have i':Fr (aP l) h w:=Fr.no F9 f10;have j':Fr (λy=>aP l y\/y=b) h j:=((i'.mono (λ_ _ hx=> .inl hx)).tt (f11.mono (λ_ _ hx=> .inr hx))).tt (f12.mono (λ_ _ hx=> .inr hx));have G:Fr X.M h A:=((j'.mono (λy _ hx=>(H.m y).2 (hx.elim (λh=> .inr (.inl h)) .inl))).tt (f13.mono (λy _ hx=>(H.m y).2 (.inr (.inr hx)))));have M: ∀y,aP P y->h.size<=y/\y<t.size:=λy hy=>⟨g2 y hy,o2.eg hy⟩
   have D: ∀y,aP F y->aP l y\/t.size<=y:=λy hy=>(o' y hy).imp id (λh1=>ae)
   have y': ∀y,aP F y->y<j.size:=λy hy=>by have:=e'.eg hy;omega
   have x':fy A P bs.length C 1 (bc bs):=by
    have k':Fr X.M t A:=by
     refine⟨ig G.1 f13.1,λy hy B=> ?_⟩;have e1:A[y]? =j[y]? :=f13.2 y ae (λhx=>B ((H.m y).2 (.inr (.inr hx))));have e2:j[y]? =J[y]? :=f12.2 y ae (λe=>B ((H.m y).2 (.inl e)));have e3:J[y]? =w[y]? :=f11.2 y ae (λe=>B ((H.m y).2 (.inl e)));have e4:w[y]? =K[y]? :=f10.2 y ae (λe=>B ((H.m y).2 (.inr (.inl e))));have e5:K[y]? =t[y]? :=(f7.tt (f8.tt f9)).2 y ae id;rw[e1,e2,e3,e4,e5]
    exact o2.frame k' (λy hy E=>ig (H.lt y (.inl E)) (M y hy))
   have n': ∀y,X.D y\/aP P y->y<A.size:=λy hy=>hy.elim (λh1=>cy (H.DA y h1) G.1) (λh1=>ig (M y h1) f13.1)
   have m':xs.flatMap fR++ [.I (s.next:Int),.I owner,.slice P bs.length C,.U (bX:Int)]=(xs++ [(⟨s.next,owner,⟨P,C,bs⟩,bX⟩:IV)]).flatMap fR:=by rw[cU];simp
   have ln:(xs++ [(⟨s.next,owner,⟨P,C,bs⟩,bX⟩:IV)]).length=xs.length+1:=by rw[aA];rfl
   have W: ∀y,aP F y->y≠b:=λy hy e=>(D y hy).elim (λh1=>H.bl (e▸h1)) (λh1=>ae)
   have Q: ∀y,O y->X.M y\/j.size<=y:=λy hy=>(T y hy).imp (λh1=>(H.m y).2 (.inr (.inr h1))) id
   refine hk A ⟨λy=>y=b\/aP F y\/O y,λy=>X.D y\/aP P y⟩ ⟨_,⟨F,l',xs++ [⟨s.next,owner,⟨P,C,bs⟩,bX⟩],a,O,⟨?_,?_,g',?_,?_,λ_=>dU,λhx=>W b hx rfl,?_,?_,?_,n'⟩⟩,?_⟩ ⟨G,?_,?_,λ_=> .inl⟩
   .have w':=f13.get d1 H.bs;rw[w'];dsimp only;rw[ln,bz ae ae];rfl
   .rw[ln,<-m'];exact((e'.frame f11 W).frame f12 W).frame f13 (λy hy o=>(D y hy).elim (λh1=>H.ls y h1 o) (λh1=>V y ae o))
   .rw[bf,H.abs];rfl
   .intro v hv;rcases bJ.1 hv with hv|hv
    .exact((H.BN v hv).frame G (λy hd E=>H.uy y E hd)).mono (λy=> .inl)
    .obtain rfl:=bH.1 hv;exact BV.lC x' (λy=> .inr)
   .intro o;exact(T b o).elim H.bs (λh1=>ae)
   .intro y hy o;rcases T y o with h1|h1
    .exact(D y hy).elim (λt=>H.ls y t h1) (λt=>V y ae h1)
    .have:=y' y hy;omega
   .rintro y hy (hd|hd)
    .rcases hy with rfl|hy|hy
     .exact H.uy _ ((H.m _).2 (.inl rfl)) hd
     .exact(D y hy).elim (λh1=>H.uy _ ((H.m _).2 (.inr (.inl h1))) hd) (λh1=>cf (H.DA y hd))
     .exact(Q y hy).elim (λh1=>H.uy _ h1 hd) (λh1=>cf (H.DA y hd))
    .have u':=M y hd;rcases hy with rfl|hy|hy
     .omega
     .exact(D y hy).elim (λh1=>d' y u'.1 h1) (λh1=>ae)
     .exact(Q y hy).elim (λh1=>cf (H.lt y (.inl h1))) (λh1=>ae)
   .have t':(s.next:Int)∉keys L:=by
     intro E;obtain⟨e,he,ek⟩:=bg.1 E;obtain⟨x,hx,rfl⟩:=bg.1 (ok.pm.mem_iff.1 he);have:=(ok.it x hx).2.1;have ek:(x.num:Int)=(s.next:Int):=ek;omega
    refine⟨?_,?_,?_,?_,?_⟩
    .show(s.items++ [_]).length<=16;rw[aA,dy];omega
    .unfold bR.xR;rw[jw t'];refine(kM _ _).trans ?_;show List.Perm (((s.next:Int),(bX:Int))::L) ((s.items++ [(⟨s.next,owner,bs,bX⟩:It)]).map It.kv);rw[bf];exact(List.Perm.cons _ ok.pm).trans (dD _ _).symm
    .intro x hx;rcases bJ.1 hx with hx|hx
     .have:=ok.it x hx;exact⟨this.1,by show x.num<s.next+1;omega,this.2.2⟩
     .obtain rfl:=bH.1 hx;exact⟨by show 1<=s.next;have:=ok.xX;omega,by show s.next<s.next+1;omega,g.2.2.1,g.2.2.2.1,g.1,g.2.1,by have:=g.2.2.2.2;show bX<=_;omega⟩
    .show((s.items++ [_]).map It.num).Pairwise (· < ·);rw[bf,List.pairwise_append];refine⟨ok.inc,bM,λy hy z hz=> ?_⟩;simp at hz;subst hz;obtain⟨x,hx,rfl⟩:=bg.1 hy;exact(ok.it x hx).2.1
    .show s.next+1=1+(s.items++ [_]).length+s.taken+s.rU+s.over;rw[aA,dy];have:=ok.xX;omega
   .rintro y (rfl|hy|hy)
    .exact .inl ((H.m _).2 (.inl rfl))
    .exact(D y hy).imp (λh1=>(H.m _).2 (.inr (.inl h1))) (λh1=>ae)
    .exact(Q y hy).imp id (λh1=>ae)
   .rintro y (hy|hy)
    .exact .inl hy
    .exact .inr (M y hy).1
def mr(s:BS)(num owner:Int):Int:=match wA s.items num with|none=>4|some i=>(match s.items[i]? with|some x=>if x.owner=owner then 0 else 13|none=>4)
def lK(s:BS)(num owner:Int):BS:=if mr s num owner=0 then { s with items:=pF s.items num,rU:=s.rU+1 } else s
theorem Mm.field{s':BS}(H:Mm h b X s L l r xs a S)(n:s'.items=s.items)(m:h'[b]? =some (.cells #[.slice l xs.length r,.I (s'.next:Int),.I (s'.taken:Int),.I (s'.rU:Int),.I (s'.over:Int),.P a 0] 145 (0,0)))(f:Fr (λy=>y=b) h h'):Mm h' b X s' L l r xs a S/\bC X h X h':=by
 have j: ∀y,X.D y->y≠b:=λy hd e=>H.uy b ((H.m b).2 (.inl rfl)) (e▸hd)
 refine⟨⟨m,H.own.frame f (λy g e=>H.bl (e▸g)),H.al.frame f (λy g e=>H.bs (e▸g)),H.abs.trans n.symm,λx o=>(H.BN x o).frame f (λy hd e=>j y hd e),H.m,H.bl,H.bs,H.ls,H.uy,λy g=>cy (H.DA y g) f.1⟩,bC.sC (f.mono (λy _ e=>(H.m y).2 (.inl e)))⟩
theorem G8(H:Mm h b X s L l r xs a S)(e:s.items[i]? =some x): ∃v,xs[i]? =some v/\v.abs=x:=by
 rw[<-H.abs,aM]at e;cases f:xs[i]? with
 |none=>rw[f]at e;cases e
 |some v=>rw[f]at e;exact⟨v,rfl,bn e⟩
theorem te{items:List It}(e:(items.map It.num).Pairwise (· < ·))(H:items[i]? =some x):(pF items (x.num:Int)).length+1=items.length:=by
 have f:=(aC.1 H).1;rw[<-pG e H];unfold zE;rw[aA,bF,bN];omega
theorem okB.del{t o:Nat}(ok:okB s L)(H:s.items[i]? =some x)(e:t+c+o=s.taken+s.rU+s.over+1):okB ⟨pF s.items (x.num:Int),s.next,t,c,o⟩ (fk L (x.num:Int)):=by
 refine ok.sub cA (xY ok.pm) ?_;have:=te ok.inc H;have:=ok.xX;omega
theorem uJ{num:Int}(H:AG h b X s)(f':s.next<=1000000000)(hk: ∀h' A,AG h' b A (lK s num owner)->bC X h A h'->R (.I (mr s num owner)) h'):
  ar Tryz.prog 152 #[.P b 0,.I num,.I owner] h R:=by
 obtain⟨L,⟨l,r,xs,a,S,H⟩,ok⟩:=H;obtain⟨Q,g'⟩:=H.EF ok;have e':=H.len;have d':=ok.le;refine sY.walk (fI H ⟨_,rfl,?_⟩);simp only[cQ,au,aN];refine ir H ae λB f2=>⟨_,rfl,?_⟩
 have f:=H.on f2;unfold lK at hk;cases g:wA s.items num with
 |none=>
  have e:mr s num owner=4:=by unfold mr;rw[g]
  rw[e]at hk;have ev:pD s.items num= -1:=by unfold pD;rw[g]
  rw[ev,fO];exact hk B X ⟨L,⟨l,r,xs,a,S,f⟩,ok⟩ (bC.hM f2)
 |some i=>
  obtain⟨x,j,w⟩:=xZ g;have ev:pD s.items num=(i:Int):=by unfold pD;rw[g]
  have hi:=(aC.1 j).1;obtain⟨v,C,D⟩:=G8 H j;have q: ¬(i:Int)<0:=ae
  rw[ev];simp only[q,bk,au,aN,aI];obtain⟨ab,b',rfl⟩:=f.own.addr ae;have T:=(f.own.gv gL C).2.1;refine⟨_,_,_,aw f.cR,⟨ae,ae⟩,ay.2 ⟨v.owner,T,?_⟩⟩;have E:v.owner=x.owner:=by rw[<-D];rfl
  by_cases m:x.owner=owner
  .have e:mr s num owner=0:=by unfold mr;rw[g];dsimp only;rw[j];dsimp only;rw[af m]
   rw[e]at hk;simp only[bh]at hk;rw[ag (by rw[E,m];simp)];refine BC f ae Q C λP I F W _=>⟨_,_,_,_,_,_,rfl,?_⟩
   obtain⟨V,U,a',M,G,n⟩:=F;refine⟨_,aw n.cR,bB n.cR bM λu J K N=> ?_⟩;have f4:Fr (λy=>y=b) P u:=Fr.of_eq K N;have c':=ok.xX;have Z:(v.num:Int)=num:=by rw[<-w,<-D];rfl
   have O:zE s.items i=pF s.items num:=by rw[<-w];exact pG ok.inc j
   obtain⟨z,Y⟩:=n.field (s':=⟨pF s.items num,s.next,s.taken,s.rU+1,s.over⟩) (h':=u) O.symm (by
    rw[J];dsimp only;rw[bz ae ae];rfl) f4
   rw[Z]at z;refine hk u I ⟨fk L num,⟨V,U,a',M,G,z⟩,?_⟩ ((bC.hM f2).trans (W.trans Y));have:=ok.del (t:=s.taken) (c:=s.rU+1) (o:=s.over) j ae;rwa[w]at this
  .have e:mr s num owner=13:=by unfold mr;rw[g];dsimp only;rw[j];dsimp only;rw[ag m]
   rw[e]at hk;rw[af (by rw[E];simpa using m)];exact hk B X ⟨L,⟨_,r,xs,a,S,f⟩,ok⟩ (bC.hM f2)
theorem oj(now:Nat)(B':k=(now:Int))(H:AG h b X s)(X':s.next<=1000000000)
  (hk: ∀h' n p' c' (ys:List IV) D,AG h' b n { s with items:=s.items.filter (λx=>decide ((now:Int)<(x.bX:Int))),over:=s.over+ys.length } ->bC X h n h'->fy h' p' ys.length c' 4 (ys.flatMap fR)->(∀y∈ys,y.v.ok h' n.D)->(∀y,aP p' y->h.size<=y/\¬(n.M y\/n.D y))->
   (ys.map IV.abs).map It.kv=D->iI D->D.Perm ((s.items.filter (λx=>decide ((x.bX:Int)<=(now:Int)))).map It.kv)->(∀y∈ys,y.abs∈s.items)->R (.slice p' ys.length c') h'):
  ar Tryz.prog 54 #[.P b 0,.U k] h R:=by
 subst B';obtain⟨L,⟨l,r,xs,a,S,H⟩,ok⟩:=H;obtain⟨hL,Y'⟩:=H.EF ok;have C':=ok.le;have R':=ok.xX;have so:=H.al.sorted;have nd:=H.al.nodup;refine wz.walk (fI H ⟨_,rfl,aK.of λQ' hJ=> ?_⟩);simp only[bh];refine⟨_,aw H.cR,bR.BL H.al ae _ λh3 p3 c3 A3 o3 g3 f3=>⟨_,_,_,rfl,?_⟩⟩;generalize hD:bR.due L (now:Int)=D at o3⊢;have N:L=D++bR.rest L (now:Int):=by rw[<-hD];exact(List.takeWhile_append_dropWhile).symm
 have M3:Mm h3 b X s (bR.rest L (now:Int)) l r xs a S:=by
  refine⟨f3.get H.cR H.bs,H.own.frame f3 (λy f W=>H.ls y f W),A3,H.abs,λx m=>(H.BN x m).frame f3 (λy hd W=>H.uy y ((H.m y).2 (.inr (.inr W))) hd),H.m,H.bl,H.bs,H.ls,H.uy,λy f=>cy (H.DA y f) f3.1⟩
 have s3:bC X h X h3:=bC.sC (f3.mono (λy _ W=>(H.m y).2 (.inr (.inr W))));have Dl:D.length<=16:=by
  have h1:=bY List.length N;rw[aA]at h1;have:=ok.pm.length_eq;rw[aJ]at this;omega
 have L':(keys D).Nodup:=by
  rw[N]at nd;unfold keys at nd⊢;rw[bf,dX]at nd;exact nd.1
 have dr: ∀e∈D,e.1∉keys (bR.rest L (now:Int)):=by
  intro e he F;rw[N]at nd;unfold keys at nd F;rw[bf,dX]at nd;exact nd.2.2 e.1 (br he) e.1 F rfl
 have M':(bR.rest L (now:Int)).length<1000:=by
  have h1:=bY List.length N;rw[aA]at h1;omega
 refine⟨λop ol oc t g=> ∃(k:Nat)(n:Ft)(ys:List IV),t=(k:Int)/\k<=D.length/\ol=ys.length/\ys.length=k/\Bx g b n { s with items:=mE s.items (keys (D.take k)),over:=s.over+k } (bR.rest L (now:Int))/\bC X h n g/\Fr (λy=>h.size<=y\/X.M y) h3 g/\fy g op ol oc 4 (ys.flatMap fR)/\(∀y∈ys,y.v.ok g n.D)/\
   (∀y,aP op y->h.size<=y/\¬(n.M y\/n.D y)/\¬aP p3 y)/\(∀y,aP p3 y->¬(n.M y\/n.D y))/\Row g p3 (bR.kc D)/\(ys.map IV.abs).map It.kv=D.take k/\(∀y∈ys,y.abs∈s.items),λ_ _ _ t _=>D.length - t.toNat,
   ⟨0,X, [],rfl,ae,rfl,rfl,?_,s3,Fr.refl _ _,.nil rfl rfl rfl rfl,(λy f=>by cases f),(λy ⟨a,e,_⟩=>by cases e),(λy f m=>ig (g3 y f) (H.lt y m)),o3.iT,rfl,λy f=>by cases f⟩,?_⟩
 .have:({ s with items:=mE s.items (keys (D.take 0)),over:=s.over+0 } :BS)=s:=by
   show(⟨mE s.items [],_,_,_,_⟩:BS)=s;rw[Lk];rfl
  rw[this];exact⟨l,r,xs,a,S,M3⟩
 clear M3 A3;rintro op ol oc _ g ⟨k,n,ys,rfl,U',rfl,u',B,st,fg,o,hd,G,n',Y,d',r'⟩;by_cases D':k<D.length
 .have q:(k:Int)<((D.length:Nat):Int):=ae
  simp only[q,bA,bh];have K:D[k]? =some D[k]:=aj D';generalize D[k]=e at K;have q':=bj K;have aB:(bR.kc D)[k]? =some (.I e.1):=by
   unfold bR.kc keys;rw[aM,aM,K];rfl
  obtain⟨pa,rfl⟩:=Y.some (λE=>by rw[E]at aB;cases aB);have cell:=Y.cell aB;refine⟨⟨by first|trivial|omega,by first|trivial|omega⟩,ay.2 ⟨e.1,by rw[aI,cr];exact cell,?_⟩⟩;obtain⟨WK,Z',WL,J,S',M⟩:=B;have k':({ s with items:=mE s.items (keys (D.take k)),over:=s.over+k } :BS).items=mE s.items (keys (D.take k)):=rfl;have rl:(mE s.items (keys (D.take k))).length<=16:=cJ (cg _ _) C';refine ir M (by rw[k'];omega) λh5 f5=>⟨_,rfl,?_⟩
  rw[k'];have M5:=M.on f5;have A':e∈L:=by rw[N];exact dI _ q'
  obtain⟨x,m,t'⟩:=bg.1 (ok.pm.mem_iff.1 A');have a':(x.num:Int)=e.1:=by rw[<-t'];rfl
  have E':e.1∉keys (D.take k):=by
   intro F;obtain⟨e',z',ek⟩:=bg.1 F;obtain⟨j,hj⟩:=bx z';rw[cI]at hj;split at hj
   .rename_i T';have h1:(keys D)[j]? =some e.1:=by unfold keys;rw[aM,hj,<-ek];rfl
    have h2:(keys D)[k]? =some e.1:=by unfold keys;rw[aM,K];rfl
    have:=(dR (by unfold keys;rw[aJ];omega) L').1 (h1.trans h2.symm);omega
   .cases hj
  have H':x∈mE s.items (keys (D.take k)):=aW.2 ⟨m,aq (by rw[a'];exact E')⟩;cases b':wA (mE s.items (keys (D.take k))) e.1 with
  |none=>exact absurd a' (Lj b' x H')
  |some i=>
   obtain⟨x',i',W'⟩:=xZ b';have G':x'∈s.items:=(aW.1 (bj i')).1;obtain rfl:x'=x:=uniq ok.inc G' m ae;have ev:pD (mE s.items (keys (D.take k))) e.1=(i:Int):=by unfold pD;rw[b']
   rw[ev];obtain⟨v,hv,g'⟩:=G8 M5 i';refine BC M5 (by rw[k'];omega) M' hv λh6 C B6 s6 v6=>⟨_,_,_,_,_,_,rfl,?_⟩
   have vn:(v.num:Int)=e.1:=by rw[<-a',<-g'];rfl
   rw[vn,jw (dr e q')]at B6;have I':((mE s.items (keys (D.take k))).map It.num).Pairwise (· < ·):=ok.inc.sublist (cA.map _);have F':keys (D.take (k+1))=keys (D.take k)++ [e.1]:=by unfold keys;rw[bL,K,bf];rfl
   have y':zE (mE s.items (keys (D.take k))) i=mE s.items (keys (D.take (k+1))):=by
    rw[pG I' i',a',Ll,F']
   have o5:=o.frame f5 (λ_ _=>id);have l': ∀y,aP op y->¬(C.M y\/C.D y):=λy f=>λm=>s6.apart (Q:=aP op) (λz hz A=>(G z A).2.1 hz) (λz A=>o5.eg A) y m f
   have o6:=o5.frame s6.fr (λy f F=>(G y f).2.1 (.inl F));refine iU tI uI o6 rfl (λw hw=>by simp at hw;rcases hw with rfl|rfl|rfl|rfl<;>rfl) ae ae λp8 c8 h8 o8 f8 g8=>⟨_,_,_,rfl,?_⟩
   have B8:Bx h8 b C _ _:=B6.frame f8 (λy f A=>l' y A f);obtain⟨K',J',O',a8,S8,P⟩:=B8;refine⟨_,aw P.cR,bB P.cR bM λU a1 a2 a3=> ?_⟩;have f9:Fr (λy=>y=b) h8 U:=Fr.of_eq a2 a3;obtain⟨M9,s9⟩:=P.field (s':=⟨mE s.items (keys (D.take (k+1))),s.next,s.taken,s.rU,s.over+(k+1)⟩) (h':=U) y'.symm (by
    rw[a1];dsimp only;rw[bz ae ae];rfl) f9
   have Z:C.M b:=(P.m b).2 (.inl rfl);have v': ∀y,aP p8 y->h.size<=y/\¬(C.M y\/C.D y)/\¬aP (some pa) y:=by
    intro y f;rcases g8 y f with h1|h1
    .exact⟨(G y h1).1,l' y h1,(G y h1).2.2⟩
    .have z6:=s6.fr.1;have z5:=f5.1;have zg:=st.fr.1;refine⟨ae,λm=>cf (B6.lt y m),λm=> ?_⟩;have:=ja Y (by intro E;rw[E]at aB;cases aB) m;omega
   have O:bC n g C h6:=(bC.hM f5).trans s6;have o': ∀y,aP (some pa) y->¬(C.M y\/C.D y):=λy f m=>O.apart (Q:=aP (some pa)) (λz hz A=>n' z A hz) (λz A=>ja Y (by intro E;rw[E]at aB;cases aB) A) y m f
   have I:bC X h C h6:=st.trans O;have m': ∀y,y<h.size->¬X.M y->U[y]? =h6[y]? :=by
    intro y f F;have zz:=I.fr.1;have WM:=f8.1;rw[f9.2 y ae (λE=>(I.jl b Z).elim (λh1=>F (E▸h1)) (λh1=>ae)),f8.2 y ae (λA=>cf ((G y A).1))]
   have N':bC X h C U:=by
    refine⟨⟨ig I.fr.1 f8.1,λy f V=> ?_⟩,I.jl,I.lB,I.wg⟩;rw[m' y f V];exact I.fr.2 y f V
   have P': ∀y,aP p8 y->y≠b:=λy f E=>(v' y f).2.1 (.inl (E▸Z))
   have w':ys.flatMap fR++([.I (v.num:Int),.I v.owner,.slice v.v.p v.v.b.length v.v.c,.U (v.bX:Int)]:List Value)=(ys++ [v]).flatMap fR:=by rw[cU];simp
   have ln:(ys++ [v]).length=ys.length+1:=by rw[aA];rfl
   rw[bz ae ae];refine⟨⟨k+1,C,ys++ [v],ae,ae,ln.symm,by rw[ln,u'],⟨K',J',O',a8,S8,M9⟩,N',?_,?_,?_,v',o',?_,?_,?_⟩,?_⟩
   .refine⟨rh fg.1 O.fr.1 f8.1,λy f V=> ?_⟩;have j':y<h.size:=Nat.lt_of_not_le (λm=>V (.inl m));have f': ¬X.M y:=λm=>V (.inr m)
    rw[m' y j' f',I.fr.2 y j' f',s3.fr.2 y j' f']
   .rw[<-w'];exact o8.frame f9 P'
   .intro w hw;have key: ∀u:IV,u.v.ok h6 C.D->u.v.ok U C.D:=λu hu=>(hu.frame f8 (λy f A=>l' y A (.inr f))).frame f9 (λy f E=>P.uy b Z (E▸f))
    rcases bJ.1 hw with hw|hw
    .exact key w (((hd w hw).frame O.fr (λy f F=>M.uy y F f)).mono (λy f=>O.wg y f))
    .obtain rfl:=bH.1 hw;exact key w v6
   .refine((Y.frame O.fr (λJ T F=>n' _ ⟨J,T,rfl⟩ (.inl F))).frame f8 (λJ T A=>(G _ A).2.2 ⟨J,T,rfl⟩)).frame f9 (λJ T E=>o' _ ⟨J,T,rfl⟩ (.inl (by have E:J.block=b:=E;rw[E];exact Z)))
   .rw[bf,bf,d',bL,K];simp[g',t']
   .intro w hw;rcases bJ.1 hw with hw|hw
    .exact r' w hw
    .obtain rfl:=bH.1 hw;rw[g'];exact m
   .show D.length - Int.toNat ((k:Int)+1)<D.length - Int.toNat (k:Int);omega
 .have q: ¬(k:Int)<((D.length:Nat):Int):=ae
  simp only[q,bk,au,aN];obtain rfl:k=D.length:=ae
  subst hJ;rw[fi]at B d';have e1:mE s.items (keys D)=s.items.filter (λx=>decide ((now:Int)<(x.bX:Int))):=by rw[<-hD];exact Lm ok so nd
  rw[e1]at B;have V':D.length+(s.items.filter (λx=>decide ((now:Int)<(x.bX:Int)))).length=s.items.length:=by
   have h1:=bY List.length N;rw[aA,(AB (now:=(now:Int)) ok so).length_eq,aJ,ok.pm.length_eq,aJ]at h1;omega
  refine hk g n op oc ys D ⟨_,by rw[u'];exact B,?_⟩ st o hd (λy f=>⟨(G y f).1,(G y f).2.1⟩) d' ?_ ?_ r'
  .exact ok.sub cA (AB ok so) ae
  .rw[<-hD,(fJ so).1];exact fp _ so
  .rw[<-hD];exact Ln ok so

end gC
end
section
namespace jc
variable {h h':ai} {R:fx}
variable {s:ByteArray} {pos:Nat} {more:UInt8}
theorem byte_at(H:pos<s.size):s.data.toList[pos]? =some (s.data.toList.getD pos 0):=by
 have:pos<s.data.toList.length:=H;rw[aX,aj this];rfl
theorem RQ{b:UInt8}(d:more.toNat<128)(h:pl more b=true):b<128:=by
 show b.toNat<128;by_cases a:b.toNat<128
 .exact a
 .have H:=KW (more:=(more.toNat:Int)) (c:=(b.toNat:Int)) ae ae;rw[KX,h]at H;cases H
theorem Lv(e:more.toNat<128)(d:pos<s.size)(h:np (more.toNat:Int) ((Utf8.decode s pos).1:Int)=false):
  pl more (s.data.toList.getD pos 0)=true/\(Utf8.decode s pos).2=1:=by
 obtain⟨a,b⟩:=decode_at s pos d;by_cases H:s.data.toList.getD pos 0<128
 .rw[a H]at h⊢;rw[KX]at h;exact⟨cD h,rfl⟩
 .have:=KW (more:=(more.toNat:Int)) (c:=((Utf8.decode s pos).1:Int)) ae (cf (b H));rw[this]at h;cases h
theorem NP(d:more.toNat<128)(H:pos<s.size)(h:np (more.toNat:Int) ((Utf8.decode s pos).1:Int)=true):lG more s=false:=by
 cases c:lG more s with
 |false=>rfl
 |true=>
  have a:=List.all_eq_true.1 c _ (bj (byte_at H));obtain⟨b,_⟩:=decode_at s pos H;rw[b (RQ d a),KX,a]at h;cases h
theorem x9{it:Nat}{ty:TypeId}{H d:ai}(n:more.toNat<128)(r:d[it]? =some (.stringIter s 0))(u:H.size<=it)(f1:Fr No H d)(hk: ∀h',Fr No H h'->R (.bool (lG more s)) h'):
  ∃(I:ai->Prop)(M:ai->Nat),I d/\∀g,I g->aV Tryz.prog (Instr.next (.P it 0) true ty) g λv G=>
   (v=.tuple #[.bool false]/\R (.bool true) G)\/∃(a b:Value),v=.tuple #[.bool true,a,b]/\∃(c:Int),b=.int .i32 c/\if np (more.toNat:Int) c=true then R (.bool false) G else(I G/\M G<M g):=by
 refine⟨λg=> ∃pos,g[it]? =some (.stringIter s pos)/\Fr No H g/\pos<=s.size/\(s.data.toList.take pos).all (pl more)=true,λg=>(match g[it]? with|some (.stringIter _ p)=>s.size - p|_=>0),⟨0,r,f1,bP _,bM⟩,?_⟩;rintro g ⟨pos,m,F,w,j⟩;refine IW m (λq=> .inl ⟨rfl,?_⟩) (λf G k x t=> .inr ⟨_,_,rfl,_,rfl,?_⟩)
 .have:lG more s=true:=by
   unfold lG;rw[bG (by show s.data.toList.length<=pos;exact q)]at j;exact j
  rw[<-this];exact hk g F
 .have l:Fr No H G:=F.fresh (S:=λc=>c=it) ⟨ae,λc _ i=>t c i⟩ (λc e=>ae);cases i:np (more.toNat:Int) ((Utf8.decode s pos).1:Int)with
  |true=>
   rw[af rfl,<-NP n f i];exact hk G l
  |false=>
   rw[ag bM];obtain⟨d,o⟩:=Lv n f i;rw[o]at k;refine⟨⟨pos+1,k,l,f,?_⟩,?_⟩
   .rw[bL,byte_at f,List.all_append,j];show(true && (pl more (s.data.toList.getD pos 0) && true))=true;rw[d];rfl
   .simp only[m,k];omega
theorem Fz(hk: gW h R (.bool (lG 45 s))):ar Tryz.prog 142 #[.string s,.int .i32 45] h R:=by
 refine uj.host.walk (xB db λr o p n f1=>⟨_,rfl,?_⟩);obtain⟨I,M,k,l⟩:=x9 (more:=45) (ty:=0) cM n ae f1 hk;refine⟨I,M,k,λg m=>jz _ _ (λv G H=> ?_) (l g m)⟩;rcases H with H|⟨a,b,e,c,e2,H⟩
 .exact .inl H
 .refine .inr ⟨a,b,e,c,e2,aK.of λJ d=> ?_⟩;have key:J (np 45 c) G:=by subst d;exact H
  clear d H;unfold np at key;revert key;generalize decide (c<97)=b1;generalize decide (c>122)=B;generalize decide (c<48)=f;generalize decide (c>57)=i;generalize (c !=45)=j;intro key;cases b1<;>cases B<;>cases f<;>cases i<;>cases j<;>exact key
theorem DG(hk: gW h R (.bool (lG 47 s))):ar Tryz.prog 142 #[.string s,.int .i32 47] h R:=by
 refine uj.RG.walk (xB db λr p q o f1=>⟨_,rfl,?_⟩);obtain⟨I,M,l,m⟩:=x9 (more:=47) (ty:=0) cM o ae f1 hk;refine⟨I,M,l,λg n=>jz _ _ (λv G H=> ?_) (m g n)⟩;rcases H with H|⟨a,b,e,c,e2,H⟩
 .exact .inl H
 .refine .inr ⟨a,b,e,c,e2,aK.of λJ d=> ?_⟩;have key:J (np 47 c) G:=by subst d;exact H
  clear d H;unfold np at key;revert key;generalize decide (c<97)=b1;generalize decide (c>122)=B;generalize decide (c<48)=f;generalize decide (c>57)=i;generalize (c !=45)=j;generalize (c !=47)=k;intro key;cases b1<;>cases B<;>cases f<;>cases i<;>cases j<;>cases k<;>exact key
abbrev Ev.at(h:ai)(b:Nat)(x:Ev):Prop:=ax.at h b x.kH x.node x.gH x.host x.jD
theorem eX(x:Ev)(hk: gW h R (.bool (cK x))):ar Tryz.prog 86 #[.agg #[.bool x.kH,.U x.node,.U x.gH,.string x.host,.string x.jD]] h R:=by
 refine I0.walk (ax.box λb f E H f1=>ax.ld H ⟨_,wj (y:=.zero) (x:=x) rfl rfl,?_⟩);have K:=hk f f1;unfold cK at K;by_cases e:x=.zero
 .rw[af (aq e)];rw[af e]at K;exact K
 .rw[ag (cD e)];rw[ag e]at K;refine⟨_,aw H,?_⟩;by_cases d:x.kH=true
  .rw[af d];rw[af d]at K;refine ax.ld H ⟨_,aw H,_,aw H,_,wj (y:=⟨true,x.node,x.gH,⟨#[]⟩,⟨#[]⟩⟩) (x:=x) rfl rfl,?_⟩;by_cases c:x=⟨true,x.node,x.gH,⟨#[]⟩,⟨#[]⟩⟩
   .have e1:x.host=⟨#[]⟩:=bY Ev.host c;have e2:x.jD=⟨#[]⟩:=bY Ev.jD c;rw[af (aq c)];refine⟨_,aw H,?_⟩;by_cases q1:x.node≥1
    .rw[af (aq q1)];refine⟨_,aw H,?_⟩;by_cases q2:x.node<=4294967295
     .rw[af (aq q2)];refine⟨_,aw H,?_⟩;have q:1<=x.node:=q1;simp only[e1,e2,q,q2,true_and]at K;exact K
     .rw[ag (cD q2)];simp only[q2,false_and,and_false,bk]at K;exact K
    .rw[ag (cD q1)];have q: ¬1<=x.node:=q1;simp only[q,false_and,and_false,bk]at K;exact K
   .rw[ag (cD c)];have: ¬(x.host=⟨#[]⟩/\x.jD=⟨#[]⟩/\1<=x.node/\x.node<=4294967295/\x.gH<=4294967295):=λ⟨a,b,_⟩=>c (Ev.ext' d rfl rfl a b)
    rw[az this]at K;exact K
  .have k:x.kH=false:=by simpa using d
   rw[ag d];rw[ag d]at K;refine ax.ld H ⟨_,aw H,_,aw H,_,wj (y:=⟨false,0,0,x.host,x.jD⟩) (x:=x) rfl rfl,?_⟩;by_cases c:x=⟨false,0,0,x.host,x.jD⟩
   .have e1:x.node=0:=bY Ev.node c;have e2:x.gH=0:=bY Ev.gH c;rw[af (aq c)];refine⟨_,aw H,?_⟩;simp only[e1,e2,true_and]at K;by_cases q1:1<=x.host.size
    .rw[fO];refine⟨_,aw H,?_⟩;by_cases q2:x.host.size<=16
     .rw[fO];refine⟨_,aw H,?_⟩;by_cases q3:x.jD.size<=24
      .rw[fO];simp only[q1,q2,q3,and_self,bA,dA]at K;refine⟨_,aw H,Fz λg f2=>⟨_,rfl,?_⟩⟩;have j:=f2.get H id;by_cases q4:lG 45 x.host=true
       .rw[af q4];refine⟨_,aw j,DG λi f3=>⟨_,rfl,?_⟩⟩;have:=hk i (f1.tt (f2.tt f3));unfold cK at this;rw[ag e,ag d,q4]at this;simp only[e1,e2,q1,q2,q3,and_self,bA,dA]at this;exact this
       .rw[ag q4];have:=hk g (f1.tt f2);unfold cK at this;have q4:lG 45 x.host=false:=by simpa using q4
        rw[ag e,ag d,q4]at this;simp only[eJ,Bool.and_false]at this;exact this
      .rw[ag (by simp;omega)];simp only[q3,and_false,bk,eJ]at K;exact K
     .rw[ag (by simp;omega)];simp only[q2,false_and,and_false,bk,eJ]at K;exact K
    .rw[ag (by simp;omega)];simp only[q1,false_and,and_false,bk,eJ]at K;exact K
   .rw[ag (cD c)];have: ¬(x.node=0/\x.gH=0/\1<=x.host.size/\x.host.size<=16/\x.jD.size<=24):=λ⟨a,b,_⟩=>c (Ev.ext' k a b rfl rfl)
    rw[az this,eJ]at K;exact K

end jc
end
section
variable {h:ai} {R:fx}
variable {t:Nat} {r e:Bool} {f g k l E a owner:Int} {i j c d:ByteArray}
theorem Lw.walk(n:aS h (.map #[] 0) λb H=>aS H (.cells #[.map (some b)] 172) λB m=>R (.P B 0) m):ar Tryz.prog 36 #[] h R:=aR (lq ll) Tryz.func36 n
theorem wF.walk(H: ∃t9,Cc h t 0 (.map t9)/\R (.bool (!t9.isNone)) h):ar Tryz.prog 130 #[.P t 0] h R:=aR (lq ll) Tryz.func130 H
theorem zH.walk{n:Int}(H:if(decide (n≥0))then R (.bool (decide (n<=2))) h else R (.bool false) h):ar Tryz.prog 149 #[.I n] h R:=aR (lq ll) Tryz.func149 H
theorem FA.walk(o:aS h (.cells #[.bool r,.U f,.U g,.string i,.string j,.I k,.I l] 136) λb n=>ax.LD n (AA b 0) λT p q s u=>Cl 86 #[.agg #[.bool T,.U p,.U q,.string s,.string u]] n λv H=> ∃t5,v=.bool t5/\if t5 then ax.LD H (AA b 0) λw x y z A=> ∃(eq:Bool),vw Tryz.prog 29 (.agg #[.bool w,.U x,.U y,.string z,.string A]) (.agg #[.bool false,.U 0,.U 0,.string gi,.string gi]) eq/\if(!eq)then Hi H b 5 λt14=>Cl 149 #[.I t14] H λV m=> ∃t15,V=.bool t15/\if t15 then∃t19,Cc m b 6 (.I t19)/\if(decide (t19≥1))then∃t24,Cc m b 6 (.I t24)/\R (.bool (decide (t24<=1099511627776))) m else R (.bool false) m else R (.bool false) m else R (.bool false) H else R (.bool false) H):ar Tryz.prog 147 #[.agg #[.bool r,.U f,.U g,.string i,.string j,.I k,.I l]] h R:=aR (lq ll) Tryz.func147 o
theorem ya.walk(J:aS h (.cells #[.bool r,.U f,.U g,.string i,.string j,.I k,.I l] 136) λb G=>Cl 130 #[.P t 0] G λv m=> ∃t8,v=.bool t8/\if(!t8)then R (.I 6) m else∃t14,Cc m t 0 (.map t14)/\ax.LD m (AA b 0) λT p q s u=> ∃w x y z A B C D,gP Tryz.prog 170 (.map t14) (.agg #[.bool T,.U p,.U q,.string s,.string u]) true m (.tuple #[.agg #[.bool w,.U x,.U y,.string z,.string A,.I B,.I C],.bool D])/\aS m (.cells #[.bool false,.U 0,.U 0,.string gi,.string gi,.I 0,.I 0] 136) λF n=>jF (.map t14) m n/\dF (AA b 0) [.bool T,.U p,.U q,.string s,.string u] 0 n/\Cc n t 0 (.map t14)/\bQ.ST n (AA F 0) w x y z A B C λo=>bQ.LD o (AA b 0) λK L M N O P Q=>Cl 147 #[.agg #[.bool K,.U L,.U M,.string N,.string O,.I P,.I Q]] o λf' H=> ∃t22,f'=.bool t22/\if(!t22)then R (.I 1) H else if D then R (.I 11) H else∃t30,Cc H t 0 (.map t30)/\∃t31:Int,Nj Tryz.prog #[170] 3 (.map t30) H (.I t31)/\if(decide (t31≥8))then R (.I 15) H else∃t36,Cc H t 0 (.map t36)/\ax.LD H (AA b 0) λS U V W X=>bQ.LD H (AA b 0) λY Z a' b' c' d' e'=>aV Tryz.prog (Instr.mapUpdate 170 (.map t36) (.agg #[.bool S,.U U,.U V,.string W,.string X]) (.agg #[.bool Y,.U Z,.U a',.string b',.string c',.I d',.I e'])) H λ_ I=>R (.I 0) I):ar Tryz.prog 97 #[.P t 0,.agg #[.bool r,.U f,.U g,.string i,.string j,.I k,.I l]] h R:=aR (lq (sq (lq (cq ll lf)) (sq (pN 13) (sq (bq (lq (cq ll (lq (cq ll (lq (cq ll lf))))))) (sq (pN 8) ll))))) Tryz.func97 J
theorem yc.walk(N:aS h (.cells #[.bool e,.U E,.U a,.string c,.string d] 29) λb L=>aS L (.cells #[.bool false,.U 0,.U 0,.string gi,.string gi,.I 0,.I 0] 136) λB M=>Cl 130 #[.P t 0] M λv H=> ∃t11,v=.bool t11/\if(!t11)then bQ.ST H (AA B 0) false 0 0 gi gi 0 0 λp=>bQ.LD p (AA B 0) λO U Y c' g' k' o'=>R (.tuple #[.agg #[.bool O,.U U,.U Y,.string c',.string g',.I k',.I o'],.I 6]) p else∃t18,Cc H t 0 (.map t18)/\ax.LD H (AA b 0) λT w x y z=> ∃A C D F G I J K,gP Tryz.prog 170 (.map t18) (.agg #[.bool T,.U w,.U x,.string y,.string z]) true H (.tuple #[.agg #[.bool A,.U C,.U D,.string F,.string G,.I I,.I J],.bool K])/\aS H (.cells #[.bool false,.U 0,.U 0,.string gi,.string gi,.I 0,.I 0] 136) λo n=>jF (.map t18) H n/\dF (AA b 0) [.bool T,.U w,.U x,.string y,.string z] 0 n/\Cc n t 0 (.map t18)/\bQ.ST n (AA o 0) A C D F G I J λm=>if(!K)then bQ.ST m (AA B 0) false 0 0 gi gi 0 0 λq=>bQ.LD q (AA B 0) λP V Z d' h' l' p'=>R (.tuple #[.agg #[.bool P,.U V,.U Z,.string d',.string h',.I l',.I p'],.I 4]) q else∃t29,Cc m o 6 (.I t29)/\if(t29 !=owner)then bQ.ST m (AA B 0) false 0 0 gi gi 0 0 λs=>bQ.LD s (AA B 0) λQ W a' e' i' m' q'=>R (.tuple #[.agg #[.bool Q,.U W,.U a',.string e',.string i',.I m',.I q'],.I 13]) s else bQ.LD m (AA o 0) λs' t' u' v' w' x' y'=>bQ.ST m (AA B 0) s' t' u' v' w' x' y' λu=>bQ.LD u (AA B 0) λS X b' f' j' n' r'=>R (.tuple #[.agg #[.bool S,.U X,.U b',.string f',.string j',.I n',.I r'],.I 0]) u):ar Tryz.prog 148 #[.P t 0,.agg #[.bool e,.U E,.U a,.string c,.string d],.I owner] h R:=aR (lq (sq (lq (cq ll lf)) (sq (pN 12) (sq (bq (lq (cq ll (lq (cq ll lf))))) ll)))) Tryz.func148 N
theorem tf.walk(C:aS h (.cells #[.bool e,.U E,.U a,.string c,.string d] 29) λb m=>ax.LD m (AA b 0) λD F G I K=>Cl 148 #[.P t 0,.agg #[.bool D,.U F,.U G,.string I,.string K],.I owner] m λv x=> ∃n o p q s u w T,v=.tuple #[.agg #[.bool n,.U o,.U p,.string q,.string s,.I u,.I w],.I T]/\aS x (.cells #[.bool false,.U 0,.U 0,.string gi,.string gi,.I 0,.I 0] 136) λB y=>bQ.ST y (AA B 0) n o p q s u w λH=>aK (λ(z:ai)=>R (.I T) z) (λJ=>if(T==0)then∃t21,Cc H t 0 (.map t21)/\ax.LD H (AA b 0) λL M N O P=>aV Tryz.prog (Builtin.delete_ #[170,29] 0 #[.map t21,.agg #[.bool L,.U M,.U N,.string O,.string P]]) H λV A=>V=.tuple #[]/\J A else J H)):ar Tryz.prog 98 #[.P t 0,.agg #[.bool e,.U E,.U a,.string c,.string d],.I owner] h R:=aR (lq (lq (sq (lq (.join [] (cq (pN 6) lf))) ll))) Tryz.func98 C
theorem th.walk{p:Int}(L:aS h (.cells #[.bool e,.U E,.U a,.string c,.string d] 29) λb C=>aK (λ(t17:Bool) (m:ai)=>if t17 then R (.I 1) m else ax.LD m (AA b 0) λM N O P Q=>Cl 148 #[.P t 0,.agg #[.bool M,.U N,.U O,.string P,.string Q],.I owner] m λv F=> ∃s u w x y z A T,v=.tuple #[.agg #[.bool s,.U u,.U w,.string x,.string y,.I z,.I A],.I T]/\aS F (.cells #[.bool false,.U 0,.U 0,.string gi,.string gi,.I 0,.I 0] 136) λB G=>bQ.ST G (AA B 0) s u w x y z A λo=>aK (λ(I:ai)=>R (.I T) I) (λn=>if(T==0)then aE o (AA B 5) (.I p) λH=> ∃t32,Cc H t 0 (.map t32)/\ax.LD H (AA b 0) λS U V W X=>bQ.LD H (AA B 0) λY Z a' b' c' d' e'=>aV Tryz.prog (Instr.mapUpdate 170 (.map t32) (.agg #[.bool S,.U U,.U V,.string W,.string X]) (.agg #[.bool Y,.U Z,.U a',.string b',.string c',.I d',.I e'])) H λ_ K=>n K else n o)) (λJ=>Cl 130 #[.P t 0] C λf' q=> ∃t12,f'=.bool t12/\if t12 then Cl 149 #[.I p] q λg' D=> ∃t15,g'=.bool t15/\J (!t15) D else J false q)):ar Tryz.prog 100 #[.P t 0,.agg #[.bool e,.U E,.U a,.string c,.string d],.I owner,.I p] h R:=aR (lq (sq (sq (.join [(17,.one (.bool))] lf) (cq ll lf)) (lq (sq (lq (.join [] (cq (lq (pN 7)) lf))) ll)))) Tryz.func100 L
theorem wG.walk(L:aS h (.cells #[.bool e,.U E,.U a,.string c,.string d] 29) λb J=>aS J (.cells #[.bool false,.U 0,.U 0,.string gi,.string gi,.I 0,.I 0] 136) λB K=>Cl 130 #[.P t 0] K λv H=> ∃t9,v=.bool t9/\if(!t9)then bQ.ST H (AA B 0) false 0 0 gi gi 0 0 λo=>bQ.LD o (AA B 0) λM O Q U W Y a'=>R (.tuple #[.agg #[.bool M,.U O,.U Q,.string U,.string W,.I Y,.I a'],.bool false]) o else∃t16,Cc H t 0 (.map t16)/\ax.LD H (AA b 0) λT s u w x=> ∃y z A C D F G I,gP Tryz.prog 170 (.map t16) (.agg #[.bool T,.U s,.U u,.string w,.string x]) true H (.tuple #[.agg #[.bool y,.U z,.U A,.string C,.string D,.I F,.I G],.bool I])/\aS H (.cells #[.bool false,.U 0,.U 0,.string gi,.string gi,.I 0,.I 0] 136) λn m=>jF (.map t16) H m/\dF (AA b 0) [.bool T,.U s,.U u,.string w,.string x] 0 m/\Cc m t 0 (.map t16)/\bQ.ST m (AA n 0) y z A C D F G λp=>bQ.LD p (AA n 0) λc' d' e' f' g' h' i'=>bQ.ST p (AA B 0) c' d' e' f' g' h' i' λq=>bQ.LD q (AA B 0) λN P S V X Z b'=>R (.tuple #[.agg #[.bool N,.U P,.U S,.string V,.string X,.I Z,.I b'],.bool I]) q):ar Tryz.prog 155 #[.P t 0,.agg #[.bool e,.U E,.U a,.string c,.string d]] h R:=aR (lq (sq (lq (cq ll lf)) (sq (pN 12) ll))) Tryz.func155 L

end
section
namespace gg
open jc
variable {h h':ai} {R:fx} {b:Nat} {X:Ft}
structure Rg where
 e:Ev
 j1:Int
 own:Int
abbrev Rg.zero:Rg:=⟨.zero,0,0⟩
abbrev Rg.val(r:Rg):Value:=.agg #[.bool r.e.kH,.int .u64 r.e.node,.int .u64 r.e.gH,.string r.e.host,.string r.e.jD,.int .i64 r.j1,.int .i64 r.own]
abbrev Rg.at(h:ai)(b:Nat)(r:Rg):Prop:=bQ.at h b r.e.kH r.e.node r.e.gH r.e.host r.e.jD r.j1 r.own
abbrev Rg.pair(r:Rg):Ev×Value:=(r.e,r.val)
abbrev pM(x y:Rg):Prop:=mT x.e y.e=true
theorem mZ:mS Tryz.prog 170 ku Rg.zero.val:=mS.of 29 136 db key db
structure Kn (h:ai) (b:Nat) (X:Ft) (L:List Rg) (m:Nat):Prop where
 cR:h[b]? =some (.cells #[.map (some m)] 172 (0,0))
 map:iR h m ku (L.map Rg.pair)
 fm: ∀c,X.M c↔c=b\/c=m
 d: ∀c,¬X.D c
 ne:b≠m
 so:L.Pairwise pM
def Tb(h:ai)(b:Nat)(X:Ft)(L:List Rg):Prop:= ∃m,Kn h b X L m
variable {L : List Rg} {m : Nat}
theorem Kn.frame{Q:Nat->Prop}(H:Kn h b X L m)(f:Fr Q h h')(a: ∀y,X.M y\/X.D y->¬Q y):Kn h' b X L m:=
 ⟨f.get H.cR (a b (.inl ((H.fm b).2 (.inl rfl)))),H.map.frame f (a m (.inl ((H.fm m).2 (.inr rfl)))),H.fm,H.d,H.ne,H.so⟩
theorem Kn.on(H:Kn h b X L m)(f:Fr No h h'):Kn h' b X L m:=H.frame f (λ_ _=>id)
theorem Tb.frame{Q:Nat->Prop}(H:Tb h b X L)(f:Fr Q h h')(a: ∀y,X.M y\/X.D y->¬Q y):Tb h' b X L:=by
 obtain⟨m,H⟩:=H;exact⟨m,H.frame f a⟩
theorem Tb.on(H:Tb h b X L)(f:Fr No h h'):Tb h' b X L:=H.frame f (λ_ _=>id)
theorem Tb.lt(H:Tb h b X L)(y:Nat)(hy:X.M y\/X.D y):y<h.size:=by
 obtain⟨m,H⟩:=H;rcases hy with hy|hy
 .rcases(H.fm y).1 hy with rfl|rfl
  .exact aF H.cR
  .exact H.map.lt
 .exact absurd hy (H.d y)
def iO(L:List Rg)(x:Ev):Option Rg:=L.find? (λr=>decide (r.e=x))
theorem FB{x:Ev}{r:Rg}(h:iO L x=some r):r∈L/\r.e=x:=⟨List.mem_of_find?_eq_some h,cD (List.find?_some h)⟩
theorem FC{x:Ev}:iO L x=none↔ ∀r∈L,r.e≠x:=by unfold iO;simp
theorem Ji(L:List Rg)(x:Ev):qE (L.map Rg.pair) x=(iO L x).map Rg.val:=by
 unfold qE iO;rw[List.find?_map];cases h:L.find? ((λe:Ev×Value=>decide (e.1=x)) ∘ Rg.pair)with
 |none=>have:L.find? (λr=>decide (r.e=x))=none:=h;rw[this];rfl
 |some r=>have:L.find? (λr=>decide (r.e=x))=some r:=h;rw[this];rfl
def zI(r:Rg):List Rg->List Rg
 | []=> [r]
 |x::l=>if mT x.e r.e=true then x::zI r l else r::x::l
theorem qt(r:Rg): ∀L:List Rg,(zI r L).Perm (r::L)
 | []=> .refl _
 |x::l=>by
  unfold zI;split
  .exact((qt r l).cons x).trans (List.Perm.swap r x l)
  .exact .refl _
theorem DH{r x:Rg}:x∈zI r L↔x=r\/x∈L:=by rw[(qt r L).mem_iff,bD]
theorem Lx(r:Rg)(L:List Rg):(zI r L).length=L.length+1:=by rw[(qt r L).length_eq];rfl
theorem G9{r:Rg}: ∀{L:List Rg},L.Pairwise pM->(∀x∈L,x.e≠r.e)->(zI r L).Pairwise pM
 | [],_,_=>List.pairwise_singleton _ _
 |x::l,h,c=>by
  obtain⟨a,e⟩:=dx.1 h;unfold zI;split
  .rename_i H;refine dx.2 ⟨λy hy=> ?_,G9 e (λy hy=>c y (cu _ hy))⟩;rcases DH.1 hy with rfl|hy
   .exact H
   .exact a y hy
  .rename_i H;have d:mT r.e x.e=true:=(E9 (c x bM)).resolve_left H;refine dx.2 ⟨λy hy=> ?_,h⟩;rcases bD.1 hy with rfl|hy
   .exact d
   .exact E7 d (a y hy)
def Jj(L:List Rg)(x:Ev):List Rg:=L.filter (λr=> !decide (r.e=x))
def FD(L:List Rg)(x:Ev)(p:Int):List Rg:=L.map (λr=>if r.e=x then { r with j1:=p } else r)
def hC(r:Rg):Bool:=cK r.e && (!decide (r.e=Ev.zero) && (decide (r.j1≥0) && decide (r.j1<=2) && (decide (r.own≥1) && decide (r.own<=1099511627776))))
def ia(L:List Rg)(r:Rg):Int:=if hC r=false then 1 else if(iO L r.e).isSome=true then 11 else if L.length≥8 then 15 else 0
def wH(L:List Rg)(r:Rg):List Rg:=if ia L r=0 then zI r L else L
def iu(L:List Rg)(x:Ev)(owner:Int):Int:=match iO L x with|none=>4|some r=>if r.own=owner then 0 else 13
def yd(L:List Rg)(x:Ev)(owner:Int):List Rg:=if iu L x owner=0 then Jj L x else L
def Jk(L:List Rg)(x:Ev)(owner p:Int):Int:=if 0<=p/\p<=2 then iu L x owner else 1
def DI(L:List Rg)(x:Ev)(owner p:Int):List Rg:=if Jk L x owner p=0 then FD L x p else L
theorem ye(L:List Rg)(r:Rg):(hC r=false/\ia L r=1)\/(hC r=true/\(iO L r.e).isSome=true/\ia L r=11)\/(hC r=true/\iO L r.e=none/\L.length≥8/\ia L r=15)\/(hC r=true/\iO L r.e=none/\L.length<8/\ia L r=0):=by
 unfold ia;cases a:hC r with
 |false=>exact .inl ⟨rfl,bM⟩
 |true=>
  cases c:iO L r.e with
  |some x=>exact .inr (.inl ⟨rfl,rfl,bM⟩)
  |none=>
   by_cases H:L.length≥8
   .exact .inr (.inr (.inl ⟨rfl,rfl,H,by simp[H]⟩))
   .exact .inr (.inr (.inr ⟨rfl,rfl,ae,by simp[H]⟩))
theorem fI(H:Kn h b X L m)(hk:R (.bool true) h):ar Tryz.prog 130 #[.P b 0] h R:=wF.walk ⟨_,aw H.cR,hk⟩
theorem iH(hk: ∀h' b X,Tb h' b X []->KH h X h'->R (.P b 0) h'):ar Tryz.prog 36 #[] h R:=by
 refine Lw.walk (cC (cC ?_));have f1:Fr No h (h.push (.map #[] 0)):=Fr.push _ _;have M:=iR.push (α:=Ev) h ku;have z:(h.push (.map #[] 0)).size=h.size+1:=dN _;generalize h.push (.map #[] 0)=H at f1 M z⊢;have f2:Fr No H (H.push (.cells #[.map (some h.size)] 172)):=Fr.push _ _;refine hk _ H.size ⟨λc=>c=H.size\/c=h.size,λ_=>False⟩ ⟨h.size,bT,M.frame f2 id,λc=>dU,λ_=>id,ae,.nil⟩ ⟨f1.tt f2,λc hc=> ?_⟩;rcases hc with hc|hc
 .rcases hc with rfl|rfl<;>omega
 .exact hc.elim
theorem vV{n:Int}(hk:R (.bool (decide (n≥0) && decide (n<=2))) h):ar Tryz.prog 149 #[.I n] h R:=by
 refine zH.walk ?_;by_cases q:n≥0
 .simp only[q,bA,bh,dA]at hk⊢;exact hk
 .simp only[q,bk,au,aN,eJ]at hk⊢;exact hk
theorem eX(r:Rg)(hk: gW h R (.bool (hC r))):ar Tryz.prog 147 #[r.val] h R:=by
 refine FA.walk (bQ.box λb f e c f1=> ?_);have l: ∀{g:ai}{K:Bool->Int->Int->ByteArray->ByteArray->Prop},r.at g b->K r.e.kH r.e.node r.e.gH r.e.host r.e.jD->ax.LD g (AA b 0) K:=λH hk=>⟨_,aw H,_,aw H,_,aw H,_,aw H,_,aw H,hk⟩
 refine l c (jc.eX r.e λd f2=>⟨_,rfl,?_⟩);have a:=f2.get c id;have K:=hk d (f1.tt f2);unfold hC at K;by_cases q:cK r.e=true
 .rw[af q];rw[q,dA]at K;refine l a ⟨_,wj (y:=.zero) (x:=r.e) rfl rfl,?_⟩;by_cases q1:r.e=.zero
  .rw[aq q1,cW];rw[aq q1]at K;exact K
  .rw[az q1,fO];rw[az q1,eh,dA]at K;refine⟨_,aw a,vV ⟨_,rfl,?_⟩⟩;by_cases q2:(decide (r.j1≥0) && decide (r.j1<=2))=true
   .rw[af q2];rw[q2,dA]at K;refine⟨_,aw a,?_⟩;by_cases q3:r.own≥1
    .rw[af (aq q3)];rw[aq q3,dA]at K;exact⟨_,aw a,K⟩
    .rw[ag (cD q3)];rw[az q3,eJ]at K;exact K
   .rw[ag q2];have q2:(decide (r.j1≥0) && decide (r.j1<=2))=false:=by simpa using q2
    rw[q2,eJ]at K;exact K
 .rw[ag q];have q:cK r.e=false:=by simpa using q
  rw[q,eJ]at K;exact K
theorem RR{g:ai}{b:Nat}{r:Rg}{K:Bool->Int->Int->ByteArray->ByteArray->Prop}(H:r.at g b)(hk:K r.e.kH r.e.node r.e.gH r.e.host r.e.jD):ax.LD g (AA b 0) K:=
 ⟨_,aw H,_,aw H,_,aw H,_,aw H,_,aw H,hk⟩
theorem look(H:Kn h b X L m)(x:Ev):gP Tryz.prog 170 (.map (some m)) (ku x) true h (.tuple #[((iO L x).getD .zero).val,.bool (iO L x).isSome]):=by
 have:=IS mZ H.map x;rw[Ji]at this;cases a:iO L x with
 |none=>rw[a]at this;exact this
 |some r=>rw[a]at this;exact this
theorem Fr.put{H a d:ai}{c:Nat}(f:Fr No H a)(k:d.size=a.size)(i: ∀x,x≠c->d[x]? =a[x]?)(j:H.size<=c):Fr No H d:=
 f.fresh (S:=λy=>y=c) ⟨ae,λy _ g=>i y g⟩ (λy e=>ae)
theorem ir(H:Tb h b X L)(x:Ev)(hk: gW h R (.tuple #[((iO L x).getD .zero).val,.bool (iO L x).isSome])):
  ar Tryz.prog 155 #[.P b 0,ku x] h R:=by
 obtain⟨m,H⟩:=H;refine wG.walk (ax.box λb1 n e1 c f1=>bQ.box λB p e2 d f2=> ?_);have f12:=f1.tt f2;have c:=f2.get c id;have a:=H.on f12;refine fI a ⟨_,rfl,?_⟩;rw[cW];refine⟨_,aw a.cR,ax.ld c ⟨_,_,_,_,_,_,_,_,look a x,bQ.box λf q E k f3=> ?_⟩⟩;refine⟨f3.2 m a.map.lt id,ax.held (f3.get c id),aw (f3.get a.cR id),bQ.set k λg A s o=>bQ.ld A ?_⟩;have j:(Rg.zero).at g B:=by
  have:=f3.get d id;have l:B≠f:=by have:=aF d;omega
  unfold Rg.at bQ.at;rw[o B l];exact this
 have z:=f12.1;have Z:=f3.1;refine bQ.set j λi e S O=>bQ.ld e (hk i ?_)
 exact Fr.put (Fr.put (f12.tt f3) s o ae) S O (cf f1.1)
theorem uF(H:Tb h b X L)(x:Ev)(owner:Int)(hk: gW h R (.tuple #[(if iu L x owner=0 then(iO L x).getD .zero else .zero).val,.I (iu L x owner)])):
  ar Tryz.prog 148 #[.P b 0,ku x,.I owner] h R:=by
 obtain⟨m,H⟩:=H;refine yc.walk (ax.box λb1 u e1 f f1=>bQ.box λB v e2 l f2=> ?_);have f12:=f1.tt f2;have f:=f2.get f id;have c:=H.on f12;refine fI c ⟨_,rfl,?_⟩;rw[cW];refine⟨_,aw c.cR,ax.ld f ⟨_,_,_,_,_,_,_,_,look c x,bQ.box λn w t p f3=> ?_⟩⟩;refine⟨f3.2 m c.map.lt id,ax.held (f3.get f id),aw (f3.get c.cR id),bQ.set p λj i S O=> ?_⟩;have k:(Rg.zero).at j B:=by
  have:=f3.get l id;have q:B≠n:=by have:=aF l;omega
  unfold Rg.at bQ.at;rw[O B q];exact this
 have z:=f1.1;have Z:=f2.1;have F:=Fr.put (f12.tt f3) S O ae;have fin: ∀(r:Rg)(e:Int),(if iu L x owner=0 then(iO L x).getD .zero else .zero)=r->iu L x owner=e->∀a,r.at a B->a.size=j.size->(∀y,y≠B->a[y]? =j[y]?)->R (.tuple #[r.val,.I e]) a:=by
  intro r e e1 e2 a _ s o;rw[<-e1,<-e2];exact hk a (Fr.put F s o ae)
 cases d:iO L x with
 |none=>
  have E:iu L x owner=4:=by unfold iu;rw[d]
  rw[af (by rfl)];exact bQ.set k λa A s o=>bQ.ld A (fin .zero 4 (by rw[E,cW]) E a A s o)
 |some r=>
  rw[d]at i;rw[ag bM];refine⟨_,aw i,?_⟩;by_cases g:r.own=owner
  .have E:iu L x owner=0:=by unfold iu;rw[d];exact af g
   rw[ag (cD g)];exact bQ.ld i (bQ.set k λa A s o=>bQ.ld A (fin r 0 (by rw[E,af rfl,d];rfl) E a A s o))
  .have E:iu L x owner=13:=by unfold iu;rw[d];exact ag g
   rw[af (cD g)];exact bQ.set k λa A s o=>bQ.ld A (fin .zero 13 (by rw[E,cW]) E a A s o)
theorem Kn.put{l:List Rg}{a:ai}(H:Kn h b X L m)(M:iR a m ku (l.map Rg.pair))(i:a.size=h.size)(d: ∀c,c≠m->a[c]? =h[c]?)(so:l.Pairwise pM):Kn a b X l m/\bC X h X a:=by
 have f:Fr X.M h a:=⟨ae,λc _ g=>d c (λe=>g ((H.fm c).2 (.inr e)))⟩;refine⟨⟨?_,M,H.fm,H.d,H.ne,so⟩,bC.sC f⟩;rw[d b H.ne];exact H.cR
theorem DJ(L:List Rg)(x:Ev):uh (L.map Rg.pair) x=(Jj L x).map Rg.pair:=by
 unfold uh Jj;rw[dk];rfl
theorem NQ{x:Ev}(so:L.Pairwise pM):(Jj L x).Pairwise pM:=so.sublist cA
theorem NR{x:Ev}{p:Int}(so:L.Pairwise pM):(FD L x p).Pairwise pM:=by
 unfold FD;rw[dY];refine so.imp fun {u v} H=> ?_
 have e: ∀r:Rg,(if r.e=x then { r with j1:=p } else r:Rg).e=r.e:=λr=>by split<;>rfl
 show mT _ _=true;rw[e,e];exact H
theorem DK{x:Ev}{p:Int}{r:Rg}: ∀{L:List Rg},L.Pairwise pM->r∈L->r.e=x->(FD L x p).Perm ({ r with j1:=p } ::Jj L x)
 | [],_,h,_=>by cases h
 |y::l,so,h,e=>by
  obtain⟨a,f⟩:=dx.1 so;unfold FD Jj;rw[bV,bU];rcases bD.1 h with rfl|h
  .rw[af e,ag (by simp[e])];refine List.Perm.cons _ ?_;have c: ∀z∈l,z.e≠x:=λz H e2=>by
    have:=a z H;rw[pM,e,e2,vO]at this;cases this
   have e1:l.map (λr=>if r.e=x then({ r with j1:=p } :Rg)else r)=l:=by
    conv=>rhs;rw[<-List.map_id l]
    exact dS (λz H=>ag (c z H))
   have e2:l.filter (λr=> !decide (r.e=x))=l:=by
    rw[cb];intro z H;simp[c z H]
   rw[e1,e2]
  .have d:y.e≠x:=λe2=>by
    have:=a r h;rw[pM,e,e2,vO]at this;cases this
   rw[ag d,af (by simp[d])];exact((DK f h e).cons y).trans (List.Perm.swap _ _ _)
theorem x8(H:Tb h b X L)(r:Rg)(K:L.length<=8)(hk: ∀h',Tb h' b X (wH L r)->bC X h X h'->R (.I (ia L r)) h'):
  ar Tryz.prog 97 #[.P b 0,r.val] h R:=by
 obtain⟨m,H⟩:=H;refine ya.walk (bQ.box λb1 I e1 f f1=> ?_);have d:=H.on f1;refine fI d ⟨_,rfl,?_⟩;rw[cW];refine⟨_,aw d.cR,RR (r:=r) f ⟨_,_,_,_,_,_,_,_,look d r.e,bQ.box λB J G u f3=> ?_⟩⟩;have l:=f3.get f id;refine⟨f3.2 m d.map.lt id,gF l (λj v a=> ?_),aw (f3.get d.cR id),bQ.set u λt D S O=> ?_⟩
 .rw[bE]
  match j,a with
  |0,a=>simpa using a
  |1,a=>simpa using a
  |2,a=>simpa using a
  |3,a=>simpa using a
  |4,a=>simpa using a
 have Z:=f1.1;have q:=Fr.put (f1.tt f3) S O ae;have n:r.at t b1:=by
  have x:b1≠B:=by have:=aF f;omega
  unfold Rg.at bQ.at;rw[O b1 x];exact l
 refine bQ.ld n (eX r λg f5=>⟨_,rfl,?_⟩);have F:=q.tt f5;have c:=H.on F;have o:=f5.get n id;have kO:wH L r=L->R (.I (ia L r)) g:=λe=>hk g (by rw[e];exact⟨m,c⟩) (bC.hM F)
 rcases ye L r with⟨q1,q2⟩|⟨q1,q3,q2⟩|⟨q1,q3,q4,q2⟩|⟨q1,q3,q4,q2⟩
 .rw[q1,fO];rw[q2]at kO;exact kO (by unfold wH;rw[q2];rfl)
 .rw[q1,cW,af q3];rw[q2]at kO;exact kO (by unfold wH;rw[q2];rfl)
 .rw[q1,cW,ag (by rw[q3];simp)];refine⟨_,aw c.cR,_,ES mZ c.map,?_⟩;rw[aJ,fO];rw[q2]at kO;exact kO (by unfold wH;rw[q2];rfl)
 .rw[q1,cW,ag (by rw[q3];simp)];refine⟨_,aw c.cR,_,ES mZ c.map,?_⟩;rw[aJ,ag (by simp;omega)];refine⟨_,aw c.cR,RR (r:=r) o (bQ.ld o (xz mZ c.map (k:=r.e) λi M C A=> ?_))⟩;have E:wH L r=zI r L:=af q2;have p:=FC.1 q3;have M:iR i m ku ((zI r L).map Rg.pair):=by
   refine M.perm ?_;unfold Db;rw[qj (λe w=>by obtain⟨y,z,rfl⟩:=bg.1 w;exact p y z)];exact((qt r L).map Rg.pair).symm
  obtain⟨s,st⟩:=c.put M C A (G9 c.so p);rw[E,q2]at hk;exact hk i ⟨m,s⟩ (bC.no F st)
theorem na(H:Tb h b X L)(x:Ev)(owner:Int)(hk: ∀h',Tb h' b X (yd L x owner)->bC X h X h'->R (.I (iu L x owner)) h'):
  ar Tryz.prog 98 #[.P b 0,ku x,.I owner] h R:=by
 refine tf.walk (ax.box λb1 j e1 d f1=>ax.ld d (uF (H.on f1) x owner λl f2=>⟨_,_,_,_,_,_,_,_,rfl,bQ.new λB f E n f3=>aK.of λJ c=> ?_⟩));have F:=f1.tt (f2.tt f3);have i:=(f2.tt f3).get d id;obtain⟨m,H⟩:=H;have a:=H.on F;by_cases q:iu L x owner=0
 .rw[af (cD q)];refine⟨_,aw a.cR,ax.ld i (Dd mZ a.map (k:=x) λg M s o=>⟨rfl,?_⟩)⟩;subst c;rw[DJ]at M;obtain⟨e,st⟩:=a.put M s o (NQ a.so);exact hk g (by unfold yd;rw[af q];exact⟨m,e⟩) (bC.no F st)
 .rw[ag (cD q)];subst c;exact hk f (by unfold yd;rw[ag q];exact⟨m,a⟩) (bC.hM F)
theorem Jl(H:Tb h b X L)(x:Ev)(owner p:Int)(hk: ∀h',Tb h' b X (DI L x owner p)->bC X h X h'->R (.I (Jk L x owner p)) h'):
  ar Tryz.prog 100 #[.P b 0,ku x,.I owner,.I p] h R:=by
 refine th.walk (ax.box λb1 a e1 f f1=>aK.of λJ c=> ?_);have u:=H;obtain⟨m,H⟩:=H;have i:=H.on f1;refine fI i ⟨_,rfl,?_⟩;rw[af rfl];refine vV ⟨_,rfl,?_⟩;subst c;by_cases Q:0<=p/\p<=2
 .have E:(decide (p≥0) && decide (p<=2))=true:=by simp[Q.1,Q.2]
  have e:Jk L x owner p=iu L x owner:=af Q;rw[E];dsimp only;rw[cW];refine ax.ld f (uF (u.on f1) x owner λj f2=>⟨_,_,_,_,_,_,_,_,rfl,bQ.new λB y P o f3=>aK.of λJ c=> ?_⟩);have F:=f1.tt (f2.tt f3);have z:=(f2.tt f3).get f id;have v:=H.on F;rw[e]at hk;by_cases q:iu L x owner=0
  .rw[af (cD q)];obtain⟨r,s⟩: ∃r,iO L x=some r:=by
    cases D:iO L x with
    |none=>unfold iu at q;rw[D]at q;cases q
    |some r=>exact⟨r,rfl⟩
   rw[af q,s]at o;obtain⟨I,t⟩:=FB s;refine bB o bM λl A S O=> ?_
   have Z:=f1.1;have T:=f2.1;have g:=Fr.put F S O ae;have d:=H.on g;have C:Ev.at l b1 x:=by
    have G:b1≠B:=by have:=aF f;omega
    unfold Ev.at ax.at;rw[O b1 G];exact z
   have A:({ r with j1:=p } :Rg).at l B:=A;refine⟨_,aw d.cR,ax.ld C (bQ.ld A (xz mZ d.map (k:=x) λn M N K=> ?_))⟩;have M:iR n m ku ((FD L x p).map Rg.pair):=by
    refine M.perm ?_;unfold Db;rw[DJ];have:=((DK (p:=p) H.so I t).map Rg.pair).symm;rw[bV]at this;have e2:(x,({ r with j1:=p } :Rg).val)=({ r with j1:=p } :Rg).pair:=by rw[<-t]
    rw[show((x,Value.agg #[.bool r.e.kH,.U r.e.node,.U r.e.gH,.string r.e.host,.string r.e.jD,.I p,.I r.own]):Ev×Value)=({ r with j1:=p } :Rg).pair from e2];exact this
   obtain⟨w,st⟩:=d.put M N K (NR H.so);subst c;exact hk n (by unfold DI;rw[e,af q];exact⟨m,w⟩) (bC.no g st)
  .rw[ag (cD q)];subst c;exact hk y (by unfold DI;rw[e,ag q];exact⟨m,v⟩) (bC.hM F)
 .have E:(decide (p≥0) && decide (p<=2))=false:=by
   rw[Bool.and_eq_false_iff];by_cases a:p≥0
   .exact .inr (az (λj=>Q ⟨a,j⟩))
   .exact .inl (az a)
  have e:Jk L x owner p=1:=ag Q;rw[E];dsimp only;rw[fO];rw[e]at hk;exact hk a (by unfold DI;rw[e,cW];exact⟨m,i⟩) (bC.hM f1)
end gg
end
end Go.Proofs.YtlenamcfacpheaaGreatDoor
