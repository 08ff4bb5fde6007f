/-
  IF is proved here: parts of zp proof, one behind zp other (texts of this work, merged by a program; JW zp theorem JX not use is left out). No condition.
-/
import Derived.Test.YtelbcloplcdchaaGreatDoorProg
import Derived.Shelf.SortM.Plain
import Derived.Shelf.SortM.SortNone
import Derived.Ground.SlgmProg
import Derived.Shelf.Strconv.Itoa4
import Derived.Ground.NamesProg
import Derived.Test.YtelbcloplcdchaaGreatDoorMArind
set_option linter.defProp false
set_option maxRecDepth 100000
set_option maxHeartbeats 4000000
namespace Go.Proofs.YtelbcloplcdchaaGreatDoor
open Go.Den
open IntKind (wrap)
open Int (toNat)
section
namespace eM
variable {A:List eM} {num:Int} {s s':eM} {i:Nat} {d:cQ}
structure vd (i:Nat) (s:eM):Prop where
 num:s.num=i+1
 tk:1<=s.token/\s.token<=2147483648
 kl:s.kept.length<=6
 nl:s.notes.length<=6
 kd: ∀a∈s.kept,a.1<=2^40/\a.2.length<=1000
 nd: ∀n∈s.notes,1<=n.length/\n.length<=600
 ki:(s.kept.map (·.1)).Nodup
structure lF (A:List eM):Prop where
 le:A.length<=8
 at_: ∀i s,A[i]? =some s->vd i s
 tk:(A.map (·.token)).Nodup
def pj(A:List eM)(num:Int):Option eM:=if 1<=num then A[(num - 1).toNat]? else none
def HX(h:pj A num=some s): ∃i:Nat,num=(i:Int)+1/\A[i]? =some s:=by unfold pj at h;split at h;exact⟨(num - 1).toNat,ae,h⟩;cases h
def qj :pj A ((i:Int)+1)=A[i]? :=by unfold pj;rw[gH,show((i:Int)+1 - 1).toNat=i by omega]
def mR(h:num<1\/num>(A.length:Int)):pj A num=none:=by unfold pj;split;simp;omega;rfl
def mE(A:List eM)(num:Int)(s:eM):List eM:=A.set (num - 1).toNat s
def VU(A:List eM)(num:Int):Bool:=match pj A num with|some s=>s.up|none=>false
def HY(A:List eM)(t:Nat):Bool:=A.any λs=>decide (s.token=t)
def oj(A:List eM)(t:Nat):Int:=if t<1\/t>2147483648 then 1 else if HY A t=true then 12 else if A.length≥8 then 5 else 0
def Fw(A:List eM)(t:Nat):Int:=if oj A t=0 then(A.length:Int)+1 else 0
def wv(A:List eM)(t:Nat):List eM:=if oj A t=0 then A++ [⟨A.length+1,t,true,false, [], []⟩]else A
def VV(A:List eM)(t:Nat):Int:=match A.findIdx? (λs=>decide (s.token=t))with|none=>12|some i=>match A[i]? with|some s=>if s.up=true then 7 else 0|none=>12
def R3(A:List eM)(t:Nat):Int:=match A.findIdx? (λs=>decide (s.token=t))with|none=>0|some i=>match A[i]? with|some s=>if s.up=true then 0 else(s.num:Int)|none=>0
def Pw(A:List eM)(t:Nat):List eM:=match A.findIdx? (λs=>decide (s.token=t))with|none=>A|some i=>match A[i]? with|some s=>if s.up=true then A else A.set i { s with up:=true } |none=>A
def R4(A:List eM)(num:Int):Int:=match pj A num with|none=>4|some s=>if s.up=true then 0 else 7
def HZ(A:List eM)(num:Int):List eM:=match pj A num with|none=>A|some s=>if s.up=true then mE A num { s with up:=false } else A
def pk(A:List eM):List eM:=A.map λs=> { s with up:=false }
def As(k:List (Nat×cQ))(id:Nat)(d:cQ):List (Nat×cQ):=
 if(k.filter (λa=>decide (a.1≠id))++ [(id,d)]).length>6 then(k.filter (λa=>decide (a.1≠id))++ [(id,d)]).drop 1 else k.filter (λa=>decide (a.1≠id))++ [(id,d)]
def Lh(A:List eM)(num:Int)(id:Nat)(d:cQ):Int:=match pj A num with|none=>4|some _=>if id>1099511627776\/d.length>1000 then 1 else 0
def Au(A:List eM)(num:Int)(id:Nat)(d:cQ):List eM:=match pj A num with|none=>A|some s=>if id>1099511627776\/d.length>1000 then A else mE A num { s with kept:=As s.kept id d }
def N8(k:List (Nat×cQ))(id:Nat):Option (cQ):=(k.find? (λa=>decide (a.1=id))).map (·.2)
def CP(A:List eM)(num:Int)(id:Nat):Option (cQ):=match pj A num with|none=>none|some s=>N8 s.kept id
def BI(A:List eM)(num:Int):Int:=match pj A num with|none=>4|some _=>0
def kY(A:List eM)(num:Int)(o:Bool):List eM:=match pj A num with|none=>A|some s=>mE A num { s with watch:=o }
def sQ(d:cQ):Bool:=decide (1<=d.length/\d.length<=600)
def H0(A:List eM)(num:Int)(d:cQ):Int:=match pj A num with|none=>4|some s=>if sQ d=true then(if s.watch=true then 0 else 7)else 1
def Ia(l:List (cQ))(d:cQ):List (cQ):=if(l++ [d]).length>6 then(l++ [d]).drop 1 else l++ [d]
def Fx(A:List eM)(num:Int)(d:cQ):List eM:=match pj A num with|none=>A|some s=>if sQ d=true/\s.watch=true then mE A num { s with notes:=Ia s.notes d } else A
def R5(A:List eM)(num:Int):Int:=match pj A num with|none=>4|some _=>0
def N9(A:List eM)(num:Int):Int:=match pj A num with|none=>0|some s=>(s.notes.length:Int)
def Ib(A:List eM)(num:Int):cQ:=match pj A num with|none=> []|some s=>s.notes.headD []
def Ic(A:List eM)(num:Int):List eM:=match pj A num with|none=>A|some s=>mE A num { s with notes:=s.notes.drop 1 }
theorem lF.set(o:lF A)(b:A[i]? =some s)(H:s'.token=s.token)(a:vd i s'):lF (A.set i s'):=by refine⟨by rw[fS];exact o.le,λj u h=> ?_,?_⟩;rw[List.getElem?_set]at h;by_cases e:i=j;grind;rw[af e]at h;exact o.at_ j u h;rw[List.map_set,H,Ar (by grind)];exact o.tk
def lF.mE(o:lF A)(a:pj A num=some s)(b:s'.token=s.token)(H: ∀i,vd i s->vd i s'):lF (mE A num s'):=by obtain⟨i,rfl,h⟩:=HX a;unfold eM.mE;rw[show((i:Int)+1 - 1).toNat=i by omega];exact o.set h b (H i (o.at_ i s h))
theorem lF.open(o:lF A)(t:Nat):lF (wv A t):=by
 unfold wv;split;rename_i h;unfold oj at h;split at h;cases h;rename_i k;split at h;cases h;rename_i c;split at h;cases h;rename_i l;refine⟨by grind,λj u H=> ?_,?_⟩;by_cases e:j<A.length;rw[fj e]at H;exact o.at_ j u H;have E:j=A.length:=by grind
 subst E;simp at H;subst H;exact⟨rfl,by grind,bt,bt,bt,bt,bt⟩;rw[aS,ft];refine⟨o.tk,bt,λa f b m e=> ?_⟩;apply c;unfold HY;rw[List.any_eq_true];have⟨s,g,e⟩:=bh.1 f;exact⟨s,g,by grind⟩;exact o
def lF.res(O:lF A)(t:Nat):lF (Pw A t):=by
 unfold Pw;split;exact O;split
 rename_i s h;split;exact O;have o:=O.at_ _ s h;exact O.set h rfl ⟨o.num,o.tk,o.kl,o.nl,o.kd,o.nd,o.ki⟩;exact O
def lF.down(O:lF A)(num:Int):lF (HZ A num):=by unfold HZ;split;exact O;rename_i s h;split;exact O.mE h rfl λi o=>⟨o.num,o.tk,o.kl,o.nl,o.kd,o.nd,o.ki⟩;exact O
theorem lF.Uc(O:lF A):lF (pk A):=by
 unfold pk;refine⟨by rw[aw];exact O.le,λj u h=> ?_,by rw[dR];exact O.tk⟩;rw[aN]at h;cases H:A[j]? with
 |none=>grind
 |some s=>rw[H]at h;simp at h;subst h;have o:=O.at_ j s H;exact⟨o.num,o.tk,o.kl,o.nl,o.kd,o.nd,o.ki⟩
theorem R6{k:List (Nat×cQ)}{id:Nat}(b:k.length<=6)(c: ∀a∈k,a.1<=2^40/\a.2.length<=1000)(e:(k.map (·.1)).Nodup)(h:id<=2^40)(H:d.length<=1000):
  (As k id d).length<=6/\(∀a∈As k id d,a.1<=2^40/\a.2.length<=1000)/\((As k id d).map (·.1)).Nodup:=by
 unfold As;split;grind;grind
def lF.BJ(O:lF A)(num:Int)(id:Nat)(d:cQ):lF (Au A num id d):=by unfold Au;split;exact O;rename_i s h;split;exact O;rename_i H;refine O.mE h rfl λi o=> ?_;have⟨k,K,a⟩:=R6 (id:=id) (d:=d) o.kl o.kd o.ki ae ae;exact⟨o.num,o.tk,k,o.nl,K,o.nd,a⟩
def lF.watch(O:lF A)(num:Int)(a:Bool):lF (kY A num a):=by unfold kY;split;exact O;rename_i s h;exact O.mE h rfl λi o=>⟨o.num,o.tk,o.kl,o.nl,o.kd,o.nd,o.ki⟩
theorem R7{l:List (cQ)}(a:l.length<=6)(H: ∀n∈l,1<=n.length/\n.length<=600)(h:1<=d.length/\d.length<=600):(Ia l d).length<=6/\∀n∈Ia l d,1<=n.length/\n.length<=600:=by unfold Ia;split;grind;grind
def lF.note(O:lF A)(num:Int)(d:cQ):lF (Fx A num d):=by
 unfold Fx;split;exact O;rename_i s a;split;rename_i H;have h:=by have:=H.1;unfold sQ at this;simpa using this
 refine O.mE a rfl λi o=> ?_;have⟨k,K⟩:=R7 o.nl o.nd h;exact⟨o.num,o.tk,o.kl,k,o.kd,K,o.ki⟩;exact O
def lF.read(O:lF A)(num:Int):lF (Ic A num):=by unfold Ic;split;exact O;rename_i s H;refine O.mE H rfl λi o=>⟨o.num,o.tk,o.kl,?_,o.kd,λn h=>o.nd n (List.mem_of_mem_drop h),o.ki⟩;have:=o.nl;rw[cR];omega
def lF.nil:lF []:=⟨bt,bt,bt⟩

end eM
end
section
open Go.fv
namespace eM
open gg
variable {h H:aA} {t:Nat} {X:Ft} {R:fp} {p:bZ} {c i:Nat} {l:Ua} {D:Nat→Prop} {L:List SC} {A:List eM}
variable {num k:Int}
def tP:pJ Tryz.prog 117 224 1 8 (.Q none):=⟨cZ,cZ,rfl⟩
def uP:Tryz.prog.underlying 117=some (.slice 224):=cZ
theorem gC(b: ∀H t X,Has H t X []->Fr No h H->(∀x,X.M x\/X.D x->h.size<=x)->R (.P t 0) H):Cl 15 #[] h R:=by refine Aq (cg (b _ _ ⟨λx=>x=h.size,λ_=>False⟩ ⟨[],λx=>if x=h.size then some 0 else none, [],⟨⟨none,0,bR,.nil rfl rfl rfl rfl,λx ⟨a,e,_⟩=>by cases e⟩,bt,λi s d=>by simp at d,?_,λ_ h=>h.elim,λ_ _ _ h=>h⟩,rfl,rfl,?_⟩ (Fr.push _ _) (λx f=>f.elim (λe=>ae) False.elim)));grind;simp
theorem iN(T:nE h t l D L)(K: ∀i s,num=((i:Nat):Int)+1->L[i]? =some s->R (.T #[.P s.b 0,.I 0]) h)(r:(num<1\/num>(L.length:Int))->R (.T #[.Q none,.I 4]) h)(n:L.length<=1000000):
  Cl 129 #[.P t 0,.I num] h R:=by
 have⟨p,c,b,o,q⟩:=T.cN;refine qx (aB.of λJ a=>⟨true,ai b,?_⟩);subst a;simp only[df,az,aY];refine aB.of λJ a=> ?_;by_cases m:num<1;grind;rw[dz];refine⟨_,_,_,ai b,?_⟩;by_cases d:num>(L.length);grind;simp only[d,cU];subst a;obtain⟨i,rfl⟩: ∃i:Nat,num=(i)+1:=⟨(num - 1).toNat,ae⟩;have f:i<L.length:=ae
 obtain⟨g,j,rfl⟩:=o.addr ae;have e:IntKind.wrap .i64 ((i)+1 - 1)=(i):=by rw[fc];omega
 refine⟨_,_,_,ai b,ae,ar.2 ⟨_,(o.cell (by grind)),K i _ rfl (au f)⟩⟩
theorem wx(T:Nat)(z:k=(T:Int))(d:nE h t l D L)(C:L.length<=1000000)(K: ∀i s,L[i]? =some s->s.token=T->L.findIdx? (λs=>decide (s.token=T))=some i->R (.P s.b 0) h)(u:L.findIdx? (λs=>decide (s.token=T))=none->R (.Q none) h):Cl 128 #[.P t 0,.U k] h R:=by
 have⟨p,c,r,o,E⟩:=d.cN;refine sN ⟨_,_,_,ai r,⟨λi H=>H=h/\∃k:Nat,i=(k)/\k<=L.length/\∀j (b:j<L.length),j<k->L[j].token≠T,λi _=>L.length - i.toNat,⟨rfl,0,rfl,ae,λj _ b=>ae⟩,?_⟩⟩;rintro _ x ⟨rfl,k,rfl,B,q⟩;by_cases g:k<L.length
 .have Q:(k)<(L.length:Int):=ae
  simp only[Q,ct,bJ,aK];have m:=au g;obtain⟨v,w,rfl⟩:=o.addr ae;refine⟨⟨ae,by first|omega|simp⟩,ar.2 ⟨some ⟨L[k].b,0,none⟩,?_,ar.2 ⟨_,ai ((d.ses k _ m).cN),?_⟩⟩⟩;exact o.cell (by grind);by_cases e:L[k].token=T;rw[ag (by grind)];refine K k _ m e ?_;rw[dp];exact⟨g,by grind,λj b=>by grind⟩;rw[af (by grind),fc];refine⟨⟨trivial,k+1,ae,ae,λj b y=> ?_⟩,?_⟩;grind;grind
 rw[dz];refine u ?_;rw[List.findIdx?_eq_none_iff];intro a n;have⟨j,b⟩:=bA n;have f:=(aJ.1 b).1;rw[au f]at b;obtain rfl:=bF b;simpa using q j f ae
theorem mr{s:SC}(a:L[i]? =some s):(L.map SC.abs)[i]? =some s.abs:=by grind
def R8(T:Nat):(L.map SC.abs).findIdx? (λs=>decide (s.token=T))=L.findIdx? (λs=>decide (s.token=T)):=by rw[List.findIdx?_map];rfl
theorem K8(d:Has h t X A)(o:lF A)(a:R (.B (VU A num)) h):Cl 130 #[.P t 0,.I num] h R:=by obtain⟨_,l,L,T,rfl,_,g⟩:=d;have f:=o.le;rw[aw]at f;unfold VU at a;refine sM (iN T (λi s e b=>⟨_,_,rfl,?_⟩) (λj=>⟨_,_,rfl,?_⟩) ae);subst e;rw[qj,mr b]at a;exact ar.2 ⟨_,gm (T.ses i s b).cN rfl,a⟩;rw[mR (by grind)]at a;exact a
theorem Ac(T:Nat)(b':k=(T:Int))(y:Has h t X A)(ok:lF A)(a: ∀H n,Has H t n (wv A T)->bp X h n H->R (.T #[.I (Fw A T),.I (oj A T)]) H):
  Cl 90 #[.P t 0,.U k] h R:=by
 subst b';have o:=y;obtain⟨_,l,L,g,rfl,_,hS⟩:=y;have hl:=ok.le;rw[aw]at hl;obtain⟨p,c,d,Q,v⟩:=g.cN;refine qA (aB.of λJ j=>⟨true,ai d,?_⟩);subst j;simp only[df,az,aY];refine aB.of λJ j=> ?_;unfold Fw wv at a;have jt:(T<1\/T>2147483648)->J true h:=by
  intro m;subst j;simp only[bJ];have e:oj (L.map SC.abs) T=1:=by unfold oj;rw[ag m]
  rw[e]at a;exact a h X o (bp.refl _ _)
 have jf: ¬(T<1\/T>2147483648)->J false h:=by
  intro m;subst j;simp only[az,aY];refine wx T rfl g ae (λi s w ht C=>⟨_,rfl,?_⟩) (λC=>⟨_,rfl,?_⟩);simp only[Option.isNone_some,ee,bJ];have e:oj (L.map SC.abs) T=12:=by unfold oj;rw[af m,ag];unfold HY;rw[List.any_eq_true];exact⟨s.abs,bL (aG w),by simp[SC.abs,ht]⟩
  rw[e]at a;exact a h X o (bp.refl _ _);simp only[Option.isNone_none,df,az,aY];have E: ¬HY (L.map SC.abs) T=true:=by unfold HY;rw[List.any_eq_true];rintro⟨x,hx,e⟩;obtain⟨s,w,rfl⟩:=bh.1 hx;have:=List.findIdx?_eq_none_iff.1 C s w;rw[show s.abs.token=s.token from rfl]at e;rw[e]at this;cases this
  refine⟨_,_,_,ai d,?_⟩;by_cases z:(L.length:Int)≥8;simp only[z,ct,bJ];have e:oj (L.map SC.abs) T=5:=by unfold oj;rw[af m,af E,ag (by rw[aw];omega)]
  rw[e]at a;exact a h X o (bp.refl _ _);simp only[z,cU,az,aY];have e:oj (L.map SC.abs) T=0:=by unfold oj;rw[af m,af E,af (by grind)]
  rw[e]at a;simp only[bJ]at a;refine⟨_,_,_,ai d,?_⟩;rw[dJ (n:=(L.length:Int)+1) ae ae];refine cB.box λb h4 eb B f=> ?_;have g':=Q.frame f bC;refine⟨_,_,_,ai (f.get d id),?_⟩;refine iV tP uP g' rfl (λi' K=>by simp at K;subst K;rfl) ae ae ?_;intro P c' h6 o6 q G;refine⟨_,_,_,rfl,?_⟩;have h':=aD d;have O: ¬aL p t:=λhx=>by have:=v t hx;rw[g.RY]at this;cases this
  have a':=q.get (f.get d id) O;have M: ¬aL p b:=λhx=>by have:=Q.dk hx;omega
  have d':=q.get B M;refine bf a' bt λu k1 k2 k3=> ?_;have r:Fr (λx=>x=t) h6 u:=Fr.of_eq k2 k3;have f': ¬b=t:=λe=>ae
  have I:=r.get d' f';refine⟨_,ai I,?_⟩;have F:Fr (λx=>x=t\/aL p x) h u:=(f.mono (λ_ _=>False.elim)).tt ((q.mono (λ_ _ hx=> .inr hx)).tt (r.mono (λ_ _ hx=> .inl hx)));have e': ¬aL P t:=λhx=>(G t hx).elim O (λh2=>bN (aD (f.get d id)));have U: ∀x,x=t\/aL p x->l x=some 0\/l x=some 1:=by rintro x (rfl|hx);exact .inl g.RY;exact .inr (v x hx)
  have V: ∀x,aL P x->l x=some 1\/h.size<=x:=by intro x hx;rcases G x hx with h2|h2;exact .inl (v x h2);have:=f.1;exact .inr ae
  have Z: ¬aL P b:=by intro hx;rcases G b hx with h2|h2;exact M h2;have:=aD B;omega
  obtain⟨n,S,st⟩:=g.add (s:=⟨b,L.length+1,T,true,false, [],none,0, [],none,0⟩) (p:=P) (c0:=c') hS F U k1 (o6.frame r (λx hx e=>e' (e▸hx))) V Z I (by show h.size<=b;omega) ⟨rfl,rfl,rfl⟩ ⟨rfl,rfl,rfl⟩;have:=a u n (by rw[aw];exact⟨_,S⟩) st;rw[aw]at this;exact this
 clear j;by_cases h1:T<1;grind;grind
def Px(T:Nat)(v:k=(T:Int))(f:Has h t X A)(O:lF A)(a: ∀H x,Has H t x (Pw A T)->bp X h x H->R (.T #[.I (R3 A T),.I (VV A T)]) H):
  Cl 91 #[.P t 0,.U k] h R:=by
 subst v;have g:=f;obtain⟨_,l,L,b,rfl,_,r⟩:=f;have w:=O.le;rw[aw]at w;have⟨p,c,u,E,B⟩:=b.cN;refine pf (aB.of λJ q=>⟨true,ai u,?_⟩);subst q;simp only[df,az,aY];unfold R3 VV Pw at a;rw[R8]at a;refine wx T rfl b ae (λi s e C d=>⟨_,rfl,?_⟩) (λd=>⟨_,rfl,?_⟩);rw[d]at a;dsimp only at a;rw[mr e]at a;have j:=(b.ses i s e).cN;refine ar.2 ⟨_,ai j,?_⟩;cases m:s.up with
 |true=>have:s.abs.up=true:=m;simp only[this,bJ]at a;exact a h X g (bp.refl _ _)
 |false=>have:s.abs.up=false:=m;simp only[this,az,aY]at a;refine ar.2 (bf j bt λo K y z=>ar.2 ⟨_,ai K,?_⟩);have⟨x,n,S⟩:=b.flag (s':= { s with up:=true }) r e rfl ⟨rfl,rfl,rfl⟩ ⟨rfl,rfl,rfl⟩ K y z;exact a o x ⟨_,n⟩ S
 rw[d]at a;exact a h X g (bp.refl _ _)
theorem Jn(d:Has h t X A)(O:lF A)(a: ∀H x,Has H t x (HZ A num)->bp X h x H->R (.I (R4 A num)) H):Cl 92 #[.P t 0,.I num] h R:=by
 have f:=d;obtain⟨_,l,L,T,rfl,_,o⟩:=d;have q:=O.le;rw[aw]at q;unfold HZ R4 at a;refine qB (iN T (λi s e b=>⟨_,_,rfl,?_⟩) (λv=>⟨_,_,rfl,?_⟩) ae);subst e;rw[qj,mr b]at a;have g:=(T.ses i s b).cN;refine ar.2 ⟨_,ai g,?_⟩;cases j:s.up with
 |true=>have:s.abs.up=true:=j;simp only[this,bJ]at a;refine ar.2 (bf g bt λn K r u=> ?_);have⟨x,m,S⟩:=T.flag (s':= { s with up:=false }) o b rfl ⟨rfl,rfl,rfl⟩ ⟨rfl,rfl,rfl⟩ K r u;refine a n x ?_ S;unfold mE;rw[show((i:Int)+1 - 1).toNat=i by omega];exact⟨_,m⟩
 |false=>have:s.abs.up=false:=j;simp only[this,az,aY]at a;exact a h X f (bp.refl _ _)
 rw[mR (by grind)]at a;exact a h X f (bp.refl _ _)
theorem Fy{o:Bool}(f:Has h t X A)(O:lF A)(a: ∀H x,Has H t x (kY A num o)->bp X h x H->R (.I (BI A num)) H):Cl 271 #[.P t 0,.I num,.B o] h R:=by have g:=f;obtain⟨_,l,L,T,rfl,_,n⟩:=f;have q:=O.le;rw[aw]at q;unfold kY BI at a;refine pO (iN T (λi s e d=>⟨_,_,rfl,?_⟩) (λv=>⟨_,_,rfl,?_⟩) ae);refine aB.of λJ b=> ?_;subst b;subst e;rw[qj,mr d]at a;refine ar.2 (bf ((T.ses i s d).cN) bt λm K r u=> ?_);have⟨x,j,S⟩:=T.flag (s':= { s with watch:=o }) n d rfl ⟨rfl,rfl,rfl⟩ ⟨rfl,rfl,rfl⟩ K r u;refine a m x ?_ S;unfold mE;rw[show((i:Int)+1 - 1).toNat=i by omega];exact⟨_,j⟩;refine aB.of λJ b=> ?_;subst b;rw[mR (by grind)]at a;exact a h X g (bp.refl _ _)
def lG(A:List eM)(k:Nat):List eM:=(A.take k).map (λs=> { s with up:=false })++A.drop k
theorem Li{k:Nat}{s:eM}(a:A[k]? =some s):(lG A k).set k { s with up:=false } =lG A (k+1):=by
 have b:=(aJ.1 a).1;unfold lG;have d:((A.take k).map (λs=> { s with up:=false })).length=k:=by grind
 rw[List.set_append_right _ _ ae,d,Nat.sub_self,aV,a,aS,show A.drop k=s::A.drop (k+1) by rw[cG b];congr 1;rw[au b]at a;exact bF a];simp
theorem Py{k:Nat}:(lG A k)[k]? =A[k]? :=by unfold lG;by_cases a:k<=A.length;grind;grind
def MS{k:Nat}:(lG A k).length=A.length:=by unfold lG;rw[aq,aw,bT,cR];omega
theorem MT(n:Has h t X A)(ok:lF A)(V: ∀H x,Has H t x (pk A)->bp X h x H->R (.T #[]) H):Cl 96 #[.P t 0] h R:=by
 have z:=n;have hl:=ok.le;have⟨_,l,L,q,I,_,K⟩:=n;have⟨p,c,v,q',hp⟩:=q.cN;have g':L.length=A.length:=by grind
 refine oE ⟨_,_,_,ai v,?_⟩;refine⟨λi H=> ∃(k:Nat)(x:Ft),i=(k)/\k<=A.length/\Has H t x (lG A k)/\bp X h x H/\(∃g w,nE H t w x.D g/\g.map SC.abs=lG A k/\(∀c,x.M c↔ ∃d',w c=some d')/\H[t]? =h[t]? /\g.map SC.b=L.map SC.b/\∀a,p=some a->H[a.block]? =h[a.block]?),λi _=>A.length - i.toNat,⟨0,X,rfl,ae,by simpa[lG]using z,bp.refl _ _,L,l,q,by simpa[lG]using I,K,rfl,rfl,λ_ _=>rfl⟩,?_⟩;rintro _ G ⟨k,F,rfl,j',o,S,b,n',T,s,M,b',h',m'⟩;by_cases l':k<A.length
 .have Q:(k)<(L.length:Int):=ae
  simp only[Q,ct,bJ,aK];have Z:k<b.length:=by have:=bV List.length s;rw[aw,MS]at this;omega
  have j:=au Z;have⟨p1,c1,d,O,a'⟩:=T.cN;have i':=d;rw[b',v]at d;simp at d;obtain⟨rfl,k',rfl⟩:=d;obtain⟨r,f',rfl⟩:=O.addr ae;have U:=(T.ses k _ j).cN;refine⟨⟨ae,by first|omega|simp⟩,ar.2 ⟨some ⟨b[k].b,0,none⟩,?_,ar.2 ?_⟩⟩;rw[cC];exact O.cell (by grind);refine bf U bt λh2 k1 k2 k3=> ?_;have m:=(T.ses k _ j).lb;have⟨y,f,e'⟩:=T.flag (s':= { b[k]with up:=false }) M j rfl ⟨rfl,rfl,rfl⟩ ⟨rfl,rfl,rfl⟩ k1 k2 k3;rw[fc];have u:(lG A k)[k]? =some b[k].abs:=by grind
  have E:((b.map SC.abs).set k { b[k]with up:=false }.abs)=lG A (k+1):=by rw[s];rw[Py]at u;exact Li u
  rw[E]at f;have p':t≠b[k].b:=λe=>by rw[<-e,T.RY]at m;simp at m;omega
  have o':r≠b[k].b:=λe=>by have:=a' r ⟨_,rfl,rfl⟩;rw[e,m]at this;simp at this;omega
  have⟨c',B,C,J,_,P⟩:=id f;refine⟨⟨k+1,y,ae,ae,⟨_,f⟩,S.trans e',B,c',C,J,P,by grind,?_,?_⟩,?_⟩
  ·
   grind
  grind;grind
 have Q: ¬(k)<(L.length:Int):=ae
 rw[dz];have e:lG A k=pk A:=by unfold lG pk;rw[aX ae,dW ae,fy]
 rw[e]at o;exact V G F o S

end eM
end
section
open Go.fv Go.jD
namespace gI
open gg
variable {h h':aA} {b:Nat} {X:Ft} {R:fp} {p q:bZ} {c d i:Nat} {L:List E} {s:BS}
variable {l:bZ} {g a:Nat} {f:List IV} {S:Nat->Prop} {s':BS} {x:It} {O k:Int}
def CQ(h:aA)(b:Nat)(X:Ft)(s:BS):Prop:= ∃L,Bx h b X s L/\okB s L
def CQ.frame{Q:gF}(H:CQ h b X s)(F:Fr Q h h')(e: ∀y,X.M y\/X.D y->¬Q y):CQ h' b X s:=by have⟨L,H,o⟩:=H;exact⟨L,H.frame F e,o⟩
def CQ.on(H:CQ h b X s)(F:Fr No h h'):CQ h' b X s:=H.frame F bC
def CQ.lt(H:CQ h b X s)(y:Nat)(e:X.M y\/X.D y):y<h.size:=by have⟨L,H,o⟩:=H;exact H.lt y e
def Mm.JU(H:Mm h b X s L l g f a S)(o:okB s L):L.length<1000/\f.length<=16:=by have e:=o.pm.length_eq;rw[aw]at e;have:=o.le;have:=H.len;omega
def Mm.grow{o m A K u v:aA}{P n:bZ}{C D:Nat}{t:gF}{U:List E}(H:Mm o b X s L l g f a S)(f2:Fr No o m)(o2:Own m P x.d.length C 1 (bc x.d))(g2: ∀y,aL P y->o.size<=y)(J:Fr No m A)(d':Own K n (f.length+1) D 4 (f.flatMap iC++ [.I (x.num:Int),.I x.owner,.L P x.d.length C,.U (x.dB:Int)]))(Z:Fr (aL l) A K)(a': ∀y,aL n y->aL l y\/A.size<=y)(I:Fr (λy=>y=b) K u)(F:Fr S u v)(f':ck.Al v a t U)(z: ∀y,t y->S y\/u.size<=y)(i':u[b]? =some (.C #[.L n (f.length+1) D,.I (s'.next:Int),.I (s'.taken:Int),.I (s'.mD:Int),.I (s'.over:Int),.P a 0] 129 (0,0)))(j:s'.items=s.items++ [x]):
  Mm v b ⟨λy=>y=b\/aL n y\/t y,λy=>X.D y\/aL P y⟩ s' U n D (f++ [⟨x.num,x.owner,⟨P,C,x.d⟩,x.dB⟩]) a t/\bp X o ⟨λy=>y=b\/aL n y\/t y,λy=>X.D y\/aL P y⟩ v:=by
 have z2:=f2.1;have z9:=J.1;have m':=Z.1;have n':=I.1;have o':=F.1;have lb:=aD H.cN;have j': ∀y,o.size<=y->¬aL l y:=λy hy r=>by have:=H.own.dk r;omega
 have Q: ∀y,o.size<=y->¬S y:=λy hy j=>by have:=H.al.lt j;omega
 have G: ∀{e':aA},Fr No e' A->Fr X.M e' v:=λg'=>(((Fr.no g' Z).mono (λy _ r=>(H.m y).2 (.inr (.inl r)))).tt (I.mono (λy _ e=>(H.m y).2 (.inl e)))).tt (F.mono (λy _ r=>(H.m y).2 (.inr (.inr r))));have B:=G (f2.tt J);have T: ∀y,aL P y->o.size<=y/\y<m.size:=λy hy=>⟨g2 y hy,o2.dk hy⟩;have w: ∀y,aL n y->aL l y\/m.size<=y:=λy hy=>(a' y hy).imp id (λh1=>ae);have k':=o2.frame (G J) (λy hy M=>gM (H.lt y (.inl M)) (T y hy));have ln:(f++ [(⟨x.num,x.owner,⟨P,C,x.d⟩,x.dB⟩:IV)]).length=f.length+1:=by rw[aq];rfl
 have c': ∀y,aL n y->y≠b:=λy hy e=>(w y hy).elim (λh1=>H.bl (e▸h1)) (λh1=>ae);have V: ∀y,t y->X.M y\/u.size<=y:=λy hy=>(z y hy).imp (λh1=>(H.m y).2 (.inr (.inr h1))) id;refine⟨⟨?_,?_,f',?_,?_,λ_=>eV,λr=>c' b r rfl,?_,?_,?_,?_⟩,B,?_,?_,λ_=> .inl⟩;rw[ln];exact F.get i' H.bs;rw[ln,cO,show([(⟨x.num,x.owner,⟨P,C,x.d⟩,x.dB⟩:IV)]).flatMap iC= [.I (x.num:Int),.I x.owner,.L P x.d.length C,.U (x.dB:Int)]from rfl];exact(d'.frame I c').frame F (λy hy j=>(w y hy).elim (λh1=>H.ls y h1 j) (λh1=>Q y ae j));rw[aS,H.abs,j];rfl;intro l' hv;rcases bP.1 hv with hv|hv;exact((H.Gt l' hv).frame B (λy hd M=>H.xY y M hd)).mono (λy=> .inl);obtain rfl:=bW.1 hv;exact BV.jK k' (λy=> .inr);intro j;exact(z b j).elim H.bs (λh1=>ae);intro y hy j;rcases z y j with h1|h1;exact(w y hy).elim (λm=>H.ls y m h1) (λm=>Q y ae h1);have:=d'.dk hy;omega;rintro y hy (hd|hd);rcases hy with rfl|hy|hy;exact H.xY _ ((H.m _).2 (.inl rfl)) hd;exact(w y hy).elim (λh1=>H.xY _ ((H.m _).2 (.inr (.inl h1))) hd) (λh1=>bN (H.La y hd));exact(V y hy).elim (λh1=>H.xY _ h1 hd) (λh1=>bN (H.La y hd));have b':=T y hd;rcases hy with rfl|hy|hy;omega;rcases a' y hy with h1|h1;exact j' y b'.1 h1;omega;rcases z y hy with h1|h1;exact Q y b'.1 h1;omega;exact λy hy=>hy.elim (λh1=>bX (H.La y h1) B.1) (λh1=>bN (T y h1));rintro y (rfl|hy|hy);exact .inl ((H.m _).2 (.inl rfl));exact(w y hy).imp (λh1=>(H.m _).2 (.inr (.inl h1))) (λh1=>ae);exact(V y hy).imp id (λh1=>ae);rintro y (hy|hy);exact .inl hy;exact .inr (g2 y hy)
def jQ(s:BS)(O:Int)(d:cQ)(t:Nat):Int:=if yI O d.length (t:Int)=true then(if s.items.length≥16 then 15 else 0)else 1
def Fz(s:BS)(O:Int)(d:cQ)(t:Nat):Int:=if jQ s O d t=0 then(s.next:Int)else 0
def Lj(s:BS)(O:Int)(d:cQ)(t:Nat):BS:=if jQ s O d t=0 then { s with items:=s.items++ [⟨s.next,O,d,t⟩],next:=s.next+1 } else s
theorem BK{B:cQ}{j' m:Nat}(t:Nat)(t':k=(t:Int))(H:CQ h b X s)(hr:Row h p (bc B))(hn:j'=B.length)(hl:B.length<=1000000)(D':s.next<=1000000000)(v: ∀h' M,CQ h' b M (Lj s O B t)->bp X h M h'->R (.T #[.I (Fz s O B t),.I (jQ s O B t)]) h'):
  Cl 341 #[.P b 0,.I O,.L p j' m,.U k] h R:=by
 subst t';subst hn;obtain⟨L,⟨l,g,f,a,S,H⟩,o⟩:=H;obtain⟨hL,E'⟩:=H.JU o;have C':=H.len;refine xI (gh H ⟨_,rfl,?_⟩);simp only[df,az,aY];refine⟨_,ai H.cN,xe hr rfl ae λh2 P C o2 G g2=>⟨_,_,_,_,_,_,rfl,?_⟩⟩;refine aF.new λu h7 B' K I=>aF.ld K (fD λj A=>⟨_,rfl,?_⟩);have D:Fr No h j:=G.tt (I.tt A);have w:=H.on D;have z2:=G.1;have z7:=I.1;have z8:=A.1;have l1:=aD K;unfold Lj Fz at v;cases n:yI O B.length (t:Int)with
 |false=>
  have e:jQ s O B t=1:=by unfold jQ;rw[n];rfl
  rw[e]at v;simp only[ee,bJ];exact v j X ⟨L,⟨l,g,f,a,S,w⟩,o⟩ (bp.iw D)
 |true=>
  simp only[df,az,aY];refine⟨_,_,_,ai w.cN,?_⟩;by_cases i':s.items.length≥16;have q:(f.length:Int)≥16:=ae
  have e:jQ s O B t=15:=by unfold jQ;rw[n,ag rfl,ag i']
  rw[e]at v;simp only[q,ct,bJ];exact v j X ⟨L,⟨l,g,f,a,S,w⟩,o⟩ (bp.iw D)
  .have q: ¬(f.length:Int)≥16:=ae
   have e:jQ s O B t=0:=by unfold jQ;rw[n,ag rfl,af i']
   rw[e]at v;simp only[bJ]at v;simp only[q,cU,az,aY];have g':aF.at j u (s.next:Int) O P B.length C (t:Int):=A.get K id;refine⟨_,_,_,ai w.cN,aF.ld g' ?_⟩;refine cg ⟨gm (w.on (Fr.push (S:=λ_=>False) j _)).cN rfl,?_⟩;have z:Fr No j (j.push (.C #[.I (s.next:Int),.I O,.L P B.length C,.U (t:Int)] 92)):=Fr.push _ _;have r9:Row (j.push (.C #[.I (s.next:Int),.I O,.L P B.length C,.U (t:Int)] 92)) (Sa j.size 0) [.I (s.next:Int),.I O,.L P B.length C,.U (t:Int)]:=jj;generalize j.push (.C #[.I (s.next:Int),.I O,.L P B.length C,.U (t:Int)] 92)=h9 at z r9⊢;have E:=w.on z;have r':aF.at h9 u (s.next:Int) O P B.length C (t:Int):=z.get g' id;refine dI tI uI E.own r9 rfl (λG' hv=>by simp at hv;rcases hv with rfl|rfl|rfl|rfl<;>rfl) ae ae λF' A' d' y' _ F n'=>⟨_,_,_,rfl,?_⟩;have z9:=z.1;have I':=F.1;have lb:=aD H.cN;have w':=F.get E.cN H.bl;refine bf w' bt λe' Q a2 T=> ?_;have a':Fr (λy=>y=b) d' e':=Fr.of_eq a2 T;refine⟨_,ai Q,bf Q bt λJ U d2 V=> ?_⟩;have b':Fr (λy=>y=b) e' J:=Fr.of_eq d2 V;have x': ∀y,h.size<=y->¬aL l y:=λy r hx=>by have:=H.own.dk hx;omega
   have q':aF.at d' u (s.next:Int) O P B.length C (t:Int):=F.get r' (x' u ae);have f':aF.at J u (s.next:Int) O P B.length C (t:Int):=(V u ae).trans ((T u ae).trans q');have k':ck.Al J a S L:=((E.al.frame F (λy r hx=>H.ls y hx r)).frame a' (λy r e=>H.bs (e▸r))).frame b' (λy r e=>H.bs (e▸r));refine⟨_,ai U,_,ai f',?_⟩;rw[Fi]at n;have u':ck.may (s.next:Int) (t:Int)=true:=ck.lE.2 ⟨bN o.zj,ae,n.2.2.2.2⟩;refine ck.BE k' ae _ _ ae (λ_ p' z' l' o' c'=>⟨_,rfl,?_⟩) (λhf=>by rw[u']at hf;cases hf);have nS: ∀y,h.size<=y->¬S y:=λy r hs=>by have:=H.al.lt hs;omega
   refine⟨_,ai (c'.get f' (nS u ae)),?_⟩;obtain⟨m',st⟩:=H.grow (s':= { s with items:=s.items++ [⟨s.next,O,B,t⟩],next:=s.next+1 }) (x:=⟨s.next,O,B,t⟩) G o2 g2 (I.tt (A.tt z)) y' F n' (a'.tt b') c' l' o' (by rw[U,fc];rfl) rfl;refine v p' _ ⟨_,⟨_,_,_,_,_,m'⟩,?_⟩ st;have v':(s.next:Int)∉keys L:=by intro hm;obtain⟨e,he,Z⟩:=bh.1 hm;obtain⟨x,hx,rfl⟩:=bh.1 (o.pm.mem_iff.1 he);have:=(o.it x hx).2.1;have Z:(x.num:Int)=(s.next:Int):=Z;omega
   refine⟨?_,?_,?_,?_,?_⟩;grind;unfold ck.pM;rw[kJ v'];refine(me _ _).trans ?_;show List.Perm (((s.next:Int),(t:Int))::L) ((s.items++ [(⟨s.next,O,B,t⟩:It)]).map It.kv);rw[aS];exact(List.Perm.cons _ o.pm).trans (eJ _ _).symm;intro x hx;rcases bP.1 hx with hx|hx;have:=o.it x hx;exact⟨this.1,by show x.num<s.next+1;omega,this.2.2⟩;obtain rfl:=bW.1 hx;exact⟨by show 1<=s.next;have:=o.zj;omega,by show s.next<s.next+1;omega,n.2.2.1,n.2.2.2.1,n.1,n.2.1,by grind⟩;show((s.items++ [_]).map It.num).Pairwise (· < ·);rw[aS,List.pairwise_append];refine⟨o.inc,bt,λy r H' hz=> ?_⟩;simp at hz;subst hz;obtain⟨x,hx,rfl⟩:=bh.1 r;exact(o.it x hx).2.1;show s.next+1=1+(s.items++ [_]).length+s.taken+s.mD+s.over;rw[aq,fk];have:=o.zj;omega
def qk(s:BS)(num O:Int):Int:=match Fj s.items num with|none=>4|some i=>(match s.items[i]? with|some x=>if x.owner=O then 0 else 13|none=>4)
def pn(s:BS)(num O:Int):BS:=if qk s num O=0 then { s with items:=wm s.items num,mD:=s.mD+1 } else s
def Mm.field(H:Mm h b X s L l g f a S)(r:s'.items=s.items)(o:h'[b]? =some (.C #[.L l f.length g,.I (s'.next:Int),.I (s'.taken:Int),.I (s'.mD:Int),.I (s'.over:Int),.P a 0] 129 (0,0)))(F:Fr (λy=>y=b) h h'):Mm h' b X s' L l g f a S/\bp X h X h':=by
 have n: ∀y,X.D y->y≠b:=λy m e=>H.xY b ((H.m b).2 (.inl rfl)) (e▸m);refine⟨⟨o,H.own.frame F (λy j e=>H.bl (e▸j)),H.al.frame F (λy j e=>H.bs (e▸j)),H.abs.trans r.symm,λx t=>(H.Gt x t).frame F (λy m e=>n y m e),H.m,H.bl,H.bs,H.ls,H.xY,λy j=>bX (H.La y j) F.1⟩,bp.zJ (F.mono (λy _ e=>(H.m y).2 (.inl e)))⟩
theorem Jp(H:Mm h b X s L l g f a S)(e:s.items[i]? =some x): ∃v,f[i]? =some v/\v.abs=x:=by
 rw[<-H.abs,aN]at e;cases j:f[i]? with
 |_=>grind
def Av{I:List It}(e:(I.map It.num).Pairwise (· < ·))(H:I[i]? =some x):(wm I (x.num:Int)).length+1=I.length:=by have j:=(aJ.1 H).1;rw[<-rj e H];unfold BF;rw[aq,bT,cR];omega
def okB.del{t o:Nat}(e:okB s L)(H:s.items[i]? =some x)(j:t+c+o=s.taken+s.mD+s.over+1):okB ⟨wm s.items (x.num:Int),s.next,t,c,o⟩ (gE L (x.num:Int)):=by refine e.sub da (Fk e.pm) ?_;have:=Av e.inc H;have:=e.zj;omega
theorem BM{num:Int}(H:CQ h b X s)(j':s.next<=1000000000)(j: ∀h' z,CQ h' b z (pn s num O)->bp X h z h'->R (.I (qk s num O)) h'):
  Cl 260 #[.P b 0,.I num,.I O] h R:=by
 have⟨L,⟨l,g,f,a,S,H⟩,o⟩:=H;have⟨Z,l'⟩:=H.JU o;have i':=H.len;have g':=o.le;refine sL (gh H ⟨_,rfl,?_⟩);simp only[df,az,aY];refine iN H ae λA F=>⟨_,rfl,?_⟩;have m:=H.on F;unfold pn at j;cases n:Fj s.items num with
 |none=>
  have e:qk s num O=4:=by unfold qk;rw[n]
  rw[e]at j;have E:yJ s.items num= -1:=by unfold yJ;rw[n]
  rw[E,gH];exact j A X ⟨L,⟨l,g,f,a,S,m⟩,o⟩ (bp.iw F)
 |some i=>
  have⟨x,r,w⟩:=Fl n;have E:yJ s.items num=(i:Int):=by unfold yJ;rw[n]
  have hi:=(aJ.1 r).1;have⟨v,C,D⟩:=Jp H r;have q:=ae
  rw[E];simp only[aK];obtain⟨ab,e',rfl⟩:=m.own.addr ae;have hc:=(m.own.fa iL C).2.1;refine⟨_,_,_,ai m.cN,ae,ar.2 ⟨v.owner,hc,?_⟩⟩;have k':v.owner=x.owner:=by rw[<-D];rfl
  by_cases B:x.owner=O;have e:qk s num O=0:=by unfold qk;rw[n];dsimp only;rw[r];dsimp only;rw[ag B]
  rw[e]at j;simp only[bJ]at j;rw[af (by grind)];refine A6 m ae Z C λV J G s3 _=>⟨_,_,_,_,_,_,rfl,?_⟩;obtain⟨b',a',c',P,I,t⟩:=G;refine⟨_,ai t.cN,bf t.cN bt λu K M Q=> ?_⟩;have U:Fr (λd'=>d'=b) V u:=Fr.of_eq M Q;have f':=o.zj;have vn:(v.num:Int)=num:=by rw[<-w,<-D];rfl
  have T:BF s.items i=wm s.items num:=by rw[<-w];exact rj o.inc r
  obtain⟨y,s4⟩:=t.field (s':=⟨wm s.items num,s.next,s.taken,s.mD+1,s.over⟩) (h':=u) T.symm (by rw[K];dsimp only;rw[fc];rfl) U;rw[vn]at y;refine j u J ⟨gE L num,⟨b',a',c',P,I,y⟩,?_⟩ ((bp.iw F).trans (s3.trans s4));have:=o.del (t:=s.taken) (c:=s.mD+1) (o:=s.over) r ae;rwa[w]at this;have e:qk s num O=13:=by unfold qk;rw[n];dsimp only;rw[r];dsimp only;rw[af B]
  rw[e]at j;rw[ag (by grind)];exact j A X ⟨L,⟨_,g,f,a,S,m⟩,o⟩ (bp.iw F)
def Ap(H:CQ h b X s)(q':s.next<=1000000000)(k1:s.items= []->∀h',CQ h' b X s->Fr No h h'->R (.T #[.agg #[.I 0,.I 0,.Z,.U 0],.I 4]) h')(k2: ∀x r,s.items=x::r->∀h' C (v:IV),v.abs=x->CQ h' b C { s with items:=r,taken:=s.taken+1 } ->bp X h C h'->v.v.ok h' C.D->R (.T #[v.agg,.I 0]) h'):
  Cl 138 #[.P b 0] h R:=by
 obtain⟨L,⟨l,g,f,a,S,H⟩,t⟩:=H;obtain⟨hL,r'⟩:=H.JU t;have a':=H.len;have p':=t.le;have o':=t.zj;refine wi (aF.box λB V n' z I=> ?_);have j:=H.on I;refine gh j ⟨_,rfl,?_⟩;simp only[df,az,aY];refine⟨_,_,_,ai j.cN,?_⟩;cases n:s.items with
 |nil=>
  have i':f.length=0:=by rw[a',n];rfl
  rw[ag (by rw[i'];rfl)];refine aF.set z λh6 D E G=>aF.ld D ?_;have U:Fr (λy=>y=B) V h6:=Fr.of_eq E G;have l1:=aD z;have nX: ∀y,X.M y\/X.D y->y≠B:=λy o e=>by have:=H.lt y o;omega
  exact k1 n h6 ⟨L,⟨l,g,f,a,S,j.frame U nX⟩,t⟩ (I.fresh U (λy e=>ae))
 |cons x r=>
  have t':0<f.length:=by rw[a',n];simp
  rw[af (by simp only[dQ];omega)];have K:s.items[0]? =some x:=by rw[n];rfl
  obtain⟨v,hv,c'⟩:=Jp j K;refine⟨_,ai j.cN,bf j.cN bt λZ a1 P Q=> ?_⟩;have g':Fr (λy=>y=b) V Z:=Fr.of_eq P Q;obtain⟨f',k'⟩:=j.field (s':= { s with taken:=s.taken+1 }) (h':=Z) rfl (by rw[a1];dsimp only;rw[fc];rfl) g';refine A6 (i:=0) f' (by show s.items.length<=100;omega) hL hv λJ m A M m'=>⟨_,_,_,_,_,_,rfl,?_⟩;have l1:=aD z;have lb:=aD H.cN;have j':aF.at J B 0 0 none 0 0 0:=M.fr.get ((Q B ae).trans z) (λhm=>bN (H.lt B (.inl hm)));refine aF.set j' λw D E G=>aF.ld D ?_;have F:Fr (λy=>y=B) J w:=Fr.of_eq E G;have d': ∀y,m.M y\/m.D y->y≠B:=M.apart (Q:=λy=>y=B) (λy o e=>bN (H.lt y o)) (λy e=>by rw[e,P];exact l1);have vn:(v.num:Int)=(x.num:Int):=by rw[<-c'];rfl
  have T:BF s.items 0=r:=by unfold BF;rw[n];rfl
  have ed:wm s.items (x.num:Int)=r:=by rw[<-rj t.inc K];exact T
  rw[vn]at A;have b':=t.del (t:=s.taken+1) (c:=s.mD) (o:=s.over) K ae;rw[ed]at b';have e':Bx w b m { s with items:=r,taken:=s.taken+1 } (gE L (x.num:Int)):=by
   have:({ ({ s with taken:=s.taken+1 } :BS)with items:=BF ({ s with taken:=s.taken+1 } :BS).items 0 } :BS)= { s with items:=r,taken:=s.taken+1 } :=by show(⟨BF s.items 0,_,_,_,_⟩:BS)=_;rw[T]
   rw[this]at A;exact A.frame F d'
  have u:bp X h m J:=(bp.iw I).trans (k'.trans M);have l':bp X h m w:=by refine⟨⟨cD u.fr.1 F.1,λy o hn=> ?_⟩,u.iA,u.jF,u.nP⟩;rw[F.2 y (bX o u.fr.1) (λe=>ae)];exact u.fr.2 y o hn
  exact k2 x r n w m v c' ⟨_,e',b'⟩ l' (m'.frame F (λy hd e=>d' y (.inr hd) e))
def Aw(A:Nat)(J':k=(A:Int))(H:CQ h b X s)(b3:s.next<=1000000000)
  (hk: ∀h' o p' c' (m:List IV) D,CQ h' b o { s with items:=s.items.filter (λx=>decide ((A:Int)<(x.dB:Int))),over:=s.over+m.length } ->bp X h o h'->Own h' p' m.length c' 4 (m.flatMap iC)->(∀y∈m,y.v.ok h' o.D)->(∀y,aL p' y->h.size<=y/\¬(o.M y\/o.D y))->
   (m.map IV.abs).map It.kv=D->jL D->D.Perm ((s.items.filter (λx=>decide ((x.dB:Int)<=(A:Int)))).map It.kv)->(∀y∈m,y.abs∈s.items)->R (.L p' m.length c') h'):
  Cl 88 #[.P b 0,.U k] h R:=by
 subst J';obtain⟨L,⟨l,g,f,a,S,H⟩,u⟩:=H;obtain⟨hL,b4⟩:=H.JU u;have K':=u.le;have a7:=u.zj;have T:=H.al.sorted;have C:=H.al.nodup;refine wj (gh H ⟨_,rfl,aB.of λa6 hJ=> ?_⟩);simp only[bJ];refine⟨_,ai H.cN,ck.Jo H.al ae _ λh3 p3 c3 A3 o3 g3 Z=>⟨_,_,_,rfl,?_⟩⟩;generalize hD:ck.due L (A:Int)=D at o3⊢;have M:L=D++ck.rest L (A:Int):=by rw[<-hD];exact(List.takeWhile_append_dropWhile).symm
 have M3:Mm h3 b X s (ck.rest L (A:Int)) l g f a S:=by refine⟨Z.get H.cN H.bs,H.own.frame Z (λy j hs=>H.ls y j hs),A3,H.abs,λx n=>(H.Gt x n).frame Z (λy hd hs=>H.xY y ((H.m y).2 (.inr (.inr hs))) hd),H.m,H.bl,H.bs,H.ls,H.xY,λy j=>bX (H.La y j) Z.1⟩
 have s3:bp X h X h3:=bp.zJ (Z.mono (λy _ hs=>(H.m y).2 (.inr (.inr hs))));have Dl:D.length<=16:=by have h1:=bV List.length M;rw[aq]at h1;have:=u.pm.length_eq;rw[aw]at this;omega
 have X':(keys D).Nodup:=by rw[M]at C;unfold keys at C⊢;rw[aS,ft]at C;exact C.1
 have dr: ∀e∈D,e.1∉keys (ck.rest L (A:Int)):=by intro e he z;rw[M]at C;unfold keys at C z;rw[aS,ft]at C;exact C.2.2 e.1 (bL he) e.1 z rfl
 have Z':(ck.rest L (A:Int)).length<1000:=by have h1:=bV List.length M;rw[aq]at h1;omega
 refine⟨λP ol oc q' G=> ∃(k:Nat)(o:Ft)(m:List IV),q'=(k:Int)/\k<=D.length/\ol=m.length/\m.length=k/\Bx G b o { s with items:=rk s.items (keys (D.take k)),over:=s.over+k } (ck.rest L (A:Int))/\bp X h o G/\Fr (λy=>h.size<=y\/X.M y) h3 G/\Own G P ol oc 4 (m.flatMap iC)/\(∀y∈m,y.v.ok G o.D)/\
   (∀y,aL P y->h.size<=y/\¬(o.M y\/o.D y)/\¬aL p3 y)/\(∀y,aL p3 y->¬(o.M y\/o.D y))/\Row G p3 (ck.kc D)/\(m.map IV.abs).map It.kv=D.take k/\(∀y∈m,y.abs∈s.items),λ_ _ _ q' _=>D.length - q'.toNat,
   ⟨0,X, [],rfl,ae,rfl,rfl,?_,s3,Fr.refl _ _,.nil rfl rfl rfl rfl,(λy j=>by cases j),(λy ⟨a,e,_⟩=>by cases e),(λy j n=>gM (g3 y j) (H.lt y n)),o3.hT,rfl,λy j=>by cases j⟩,?_⟩
 have:({ s with items:=rk s.items (keys (D.take 0)),over:=s.over+0 } :BS)=s:=by show(⟨rk s.items [],_,_,_,_⟩:BS)=s;rw[RT];rfl
 rw[this];exact⟨l,g,f,a,S,M3⟩;clear M3 A3;rintro P ol oc _ G ⟨k,o,m,rfl,b0,rfl,A',B,st,fg,C',hd,F,u',r3,i',y'⟩;by_cases L':k<D.length
 .rw[gH];have⟨e,a'⟩:=lP L';have w':=aG a';have aU:(ck.kc D)[k]? =some (.I e.1):=by
   unfold ck.kc keys;rw[aN,aN,a'];rfl
  obtain⟨pa,rfl⟩:=r3.some (λE=>by rw[E]at aU;cases aU);have F':=r3.cell aU;refine⟨⟨by first|trivial|omega,by first|trivial|omega⟩,ar.2 ⟨e.1,by rw[aK,cC];exact F',?_⟩⟩;obtain⟨b7,b5,b8,J,S',f'⟩:=B;have n':({ s with items:=rk s.items (keys (D.take k)),over:=s.over+k } :BS).items=rk s.items (keys (D.take k)):=rfl;have rl:(rk s.items (keys (D.take k))).length<=16:=cD (cS _ _) K';refine iN f' (by rw[n'];omega) λh5 f5=>⟨_,rfl,?_⟩;rw[n'];have M5:=f'.on f5;have I':e∈L:=by rw[M];exact dY _ w'
  obtain⟨x,n,z'⟩:=bh.1 (u.pm.mem_iff.1 I');have d':(x.num:Int)=e.1:=by rw[<-z'];rfl
  have M':e.1∉keys (D.take k):=by
   intro z;obtain⟨e',H',ek⟩:=bh.1 z;obtain⟨T',hj⟩:=bA H';rw[db]at hj;split at hj;rename_i a9;have h1:(keys D)[T']? =some e.1:=by unfold keys;rw[aN,hj,<-ek];rfl
   have h2:(keys D)[k]? =some e.1:=by unfold keys;rw[aN,a'];rfl
   have:=(eE (by unfold keys;rw[aw];omega) X').1 (h1.trans h2.symm);omega;cases hj
  have Q':x∈rk s.items (keys (D.take k)):=bD.2 ⟨n,aC (by rw[d'];exact M')⟩;cases g':Fj (rk s.items (keys (D.take k))) e.1 with
  |none=>exact absurd d' (RR g' x Q')
  |some i=>
   obtain⟨x',l',b2⟩:=Fl g';have P':x'∈s.items:=(bD.1 (aG l')).1;obtain rfl:x'=x:=uniq u.inc P' n ae;have ev:yJ (rk s.items (keys (D.take k))) e.1=(i:Int):=by unfold yJ;rw[g']
   rw[ev];obtain⟨v,hv,k'⟩:=Jp M5 l';refine A6 M5 (by rw[n'];omega) Z' hv λh6 t B6 s6 v6=>⟨_,_,_,_,_,_,rfl,?_⟩;have vn:(v.num:Int)=e.1:=by rw[<-d',<-k'];rfl
   rw[vn,kJ (dr e w')]at B6;have R':((rk s.items (keys (D.take k))).map It.num).Pairwise (· < ·):=u.inc.sublist (da.map _);have O':keys (D.take (k+1))=keys (D.take k)++ [e.1]:=by unfold keys;rw[aV,a',aS];rfl
   have G':BF (rk s.items (keys (D.take k))) i=rk s.items (keys (D.take (k+1))):=by rw[rj R' l',d',RU,O']
   have o5:=C'.frame f5 bC;have o': ∀y,aL P y->¬(t.M y\/t.D y):=λy j=>λn=>s6.apart (Q:=aL P) (λb' hz r=>(F b' r).2.1 hz) (λb' r=>o5.dk r) y n j;have o6:=o5.frame s6.fr (λy j z=>(F y j).2.1 (.inl z));refine iV tI uI o6 rfl (λw hw=>by simp at hw;rcases hw with rfl|rfl|rfl|rfl<;>rfl) ae ae λp8 c8 h8 o8 K g8=>⟨_,_,_,rfl,?_⟩;have B8:Bx h8 b t _ _:=B6.frame K (λy j r=>o' y r j);obtain⟨V',U',a4,a8,S8,U⟩:=B8;refine⟨_,ai U.cN,bf U.cN bt λh9 a1 a2 a3=> ?_⟩;have f9:Fr (λy=>y=b) h8 h9:=Fr.of_eq a2 a3;obtain⟨M9,s9⟩:=U.field (s':=⟨rk s.items (keys (D.take (k+1))),s.next,s.taken,s.mD,s.over+(k+1)⟩) (h':=h9) G'.symm (by rw[a1];dsimp only;rw[fc];rfl) f9;have b6:t.M b:=(U.m b).2 (.inl rfl);have D': ∀y,aL p8 y->h.size<=y/\¬(t.M y\/t.D y)/\¬aL (some pa) y:=by intro y j;rcases g8 y j with h1|h1;exact⟨(F y h1).1,o' y h1,(F y h1).2.2⟩;have z6:=s6.fr.1;have z5:=f5.1;have zg:=st.fr.1;refine⟨ae,λn=>bN (B6.lt y n),λn=> ?_⟩;have:=jd r3 (by intro E;rw[E]at aU;cases aU) n;omega
   have Q:bp o G t h6:=(bp.iw f5).trans s6;have v': ∀y,aL (some pa) y->¬(t.M y\/t.D y):=λy j n=>Q.apart (Q:=aL (some pa)) (λb' hz r=>u' b' r hz) (λb' r=>jd r3 (by intro E;rw[E]at aU;cases aU) r) y n j;have I:bp X h t h6:=st.trans Q;have t': ∀y,y<h.size->¬X.M y->h9[y]? =h6[y]? :=by intro y j z;have zz:=I.fr.1;have b9:=K.1;rw[f9.2 y ae (λE=>(I.iA b b6).elim (λh1=>z (E▸h1)) (λh1=>ae)),K.2 y ae (λr=>bN ((F y r).1))]
   have a0:bp X h t h9:=by refine⟨⟨gM I.fr.1 K.1,λy j hn=> ?_⟩,I.iA,I.jF,I.nP⟩;rw[t' y j hn];exact I.fr.2 y j hn
   have a5: ∀y,aL p8 y->y≠b:=λy j E=>(D' y j).2.1 (.inl (E▸b6));have E':m.flatMap iC++([.I (v.num:Int),.I v.owner,.L v.v.p v.v.b.length v.v.c,.U (v.dB:Int)]:List Value)=(m++ [v]).flatMap iC:=by rw[cO];simp
   have ln:(m++ [v]).length=m.length+1:=by rw[aq];rfl
   rw[fc];refine⟨⟨k+1,t,m++ [v],ae,ae,ln.symm,by rw[ln,A'],⟨V',U',a4,a8,S8,M9⟩,a0,?_,?_,?_,D',v',?_,?_,?_⟩,?_⟩;refine⟨zq fg.1 Q.fr.1 K.1,λy j hn=> ?_⟩;have m':y<h.size:=Nat.lt_of_not_le (λn=>hn (.inl n));have j': ¬X.M y:=λn=>hn (.inr n);rw[t' y m' j',I.fr.2 y m' j',s3.fr.2 y m' j'];rw[<-E'];exact o8.frame f9 a5;intro w hw;have B': ∀r':IV,r'.v.ok h6 t.D->r'.v.ok h9 t.D:=λr' hu=>(hu.frame K (λy j r=>o' y r (.inr j))).frame f9 (λy j E=>U.xY b b6 (E▸j));rcases bP.1 hw with hw|hw;exact B' w (((hd w hw).frame Q.fr (λy j z=>f'.xY y z j)).mono (λy j=>Q.nP y j));obtain rfl:=bW.1 hw;exact B' w v6;refine((r3.frame Q.fr (λJ V z=>u' _ ⟨J,V,rfl⟩ (.inl z))).frame K (λJ V r=>(F _ r).2.2 ⟨J,V,rfl⟩)).frame f9 (λJ V E=>v' _ ⟨J,V,rfl⟩ (.inl (by have E:J.block=b:=E;rw[E];exact b6)));rw[aS,aS,i',aV,a'];simp[k',z'];intro w hw;rcases bP.1 hw with hw|hw;exact y' w hw;obtain rfl:=bW.1 hw;rw[k'];exact n;show D.length - Int.toNat ((k:Int)+1)<D.length - Int.toNat (k:Int);omega
 rw[dz];obtain rfl:k=D.length:=ae
 subst hJ;rw[dA]at B i';have e1:rk s.items (keys D)=s.items.filter (λx=>decide ((A:Int)<(x.dB:Int))):=by rw[<-hD];exact RV u T C
 rw[e1]at B;have b1:D.length+(s.items.filter (λx=>decide ((A:Int)<(x.dB:Int)))).length=s.items.length:=by have h1:=bV List.length M;rw[aq,(HV (now:=(A:Int)) u T).length_eq,aw,u.pm.length_eq,aw]at h1;omega
 refine hk G o P oc m D ⟨_,by rw[A'];exact B,?_⟩ st C' hd (λy j=>⟨(F y j).1,(F y j).2.1⟩) i' ?_ ?_ y';exact u.sub da (HV u T) ae;rw[<-hD,(gW T).1];exact gJ _ T;rw[<-hD];exact RW u T

end gI
end
section
variable {h:aA} {R:fp}
variable {t d c:Nat} {r e:Bool} {j k n p E f o a b:Int} {l m g i:cF} {D:bZ}
def GO(s:aW h (.map #[] 0) λb H=>aW H (.C #[.map (some b)] 122) λB q=>R (.P B 0) q):Cl 16 #[] h R:=aP [] s
def wy(H: ∃T,Cc h t 0 (.map T)/\R (.B (!T.isNone)) h):Cl 115 #[.P t 0] h R:=aP [] H
def yL{q:Int}(H:ite (decide (q≥0)) (R (.B (decide (q<=2))) h) (R (.B false) h)):Cl 225 #[.I q] h R:=aP [] H
def Dq (z:aW h (.C #[.B r,.U j,.U k,.S l,.S m,.I n,.I p] 173) λb u=>av.LD u (AA b 0) λB C F G I=>Cl 53 #[.agg #[.B B,.U C,.U F,.S G,.S I]] u λv H=> ∃y,v=.B y/\ite y (av.LD H (AA b 0) λJ K L M O=> ∃(s:Bool),JS 29 (.agg #[.B J,.U K,.U L,.S M,.S O]) (.agg #[.B false,.U 0,.U 0,.S (⟨#[]⟩:cF),.S (⟨#[]⟩:cF)]) s/\ite (!s) (Hi H b 5 λA=>Cl 225 #[.I A] H λV q=> ∃T,V=.B T/\ite T (∃w,Cc q b 6 (.I w)/\ite (decide (w≥1)) (∃x,Cc q b 6 (.I x)/\R (.B (decide (x<=1099511627776))) q) (R (.B false) q)) (R (.B false) q)) (R (.B false) H)) (R (.B false) H)):Cl 159 #[.agg #[.B r,.U j,.U k,.S l,.S m,.I n,.I p]] h R:=aP [] z
def xJ (X:aW h (.C #[.B r,.U j,.U k,.S l,.S m,.I n,.I p] 173) λb U=>Cl 115 #[.P t 0] U λs' q=> ∃Q,s'=.B Q/\ite (!Q) (R (.I 6) q) (∃T,Cc q t 0 (.map T)/\av.LD q (AA b 0) λv w x y z=> ∃A B C F G I J K,Gs 120 (.map T) (.agg #[.B v,.U w,.U x,.S y,.S z]) true q (.T #[.agg #[.B A,.U B,.U C,.S F,.S G,.I I,.I J],.B K])/\aW q (.C #[.B false,.U 0,.U 0,.S (⟨#[]⟩:cF),.S (⟨#[]⟩:cF),.I 0,.I 0] 173) λS s=>lY (.map T) q s/\cH (AA b 0) [.B v,.U w,.U x,.S y,.S z] 0 s/\Cc s t 0 (.map T)/\bg.ST s (AA S 0) A B C F G I J λu=>bg.LD u (AA b 0) λZ a' b' c' d' e' f'=>Cl 159 #[.agg #[.B Z,.U a',.U b',.S c',.S d',.I e',.I f']] u λt' H=> ∃L,t'=.B L/\ite (!L) (R (.I 1) H) (ite K (R (.I 11) H) (∃M,Cc H t 0 (.map M)/\∃O:Int,Tl Tryz.prog #[120] 3 (.map M) H (.I O)/\ite (decide (O≥8)) (R (.I 15) H) (∃P,Cc H t 0 (.map P)/\av.LD H (AA b 0) λg' h' i' j' k'=>bg.LD H (AA b 0) λl' m' n' o' p' q' r'=>jE (Instr.mapUpdate 120 (.map P) (.agg #[.B g',.U h',.U i',.S j',.S k']) (.agg #[.B l',.U m',.U n',.S o',.S p',.I q',.I r'])) H λ_ V=>R (.I 0) V))))):Cl 109 #[.P t 0,.agg #[.B r,.U j,.U k,.S l,.S m,.I n,.I p]] h R:=aP [(11,λ_=>pN 13),(34,λ_=>pN 8)] X
def xK(Z:aW h (.C #[.B e,.U E,.U f,.S g,.S i] 29) λb V=>aW V (.C #[.B false,.U 0,.U 0,.S (⟨#[]⟩:cF),.S (⟨#[]⟩:cF),.I 0,.I 0] 173) λB X=>Cl 115 #[.P t 0] X λJ' H=> ∃z,J'=.B z/\ite (!z) (bg.ST H (AA B 0) false 0 0 (⟨#[]⟩:cF) (⟨#[]⟩:cF) 0 0 λv=>bg.LD v (AA B 0) λa' e' i' m' q' u' y'=>R (.T #[.agg #[.B a',.U e',.U i',.S m',.S q',.I u',.I y'],.I 6]) v) (∃T,Cc H t 0 (.map T)/\av.LD H (AA b 0) λA C F G I=> ∃J K L M O P Q S,Gs 120 (.map T) (.agg #[.B A,.U C,.U F,.S G,.S I]) true H (.T #[.agg #[.B J,.U K,.U L,.S M,.S O,.I P,.I Q],.B S])/\aW H (.C #[.B false,.U 0,.U 0,.S (⟨#[]⟩:cF),.S (⟨#[]⟩:cF),.I 0,.I 0] 173) λu s=>lY (.map T) H s/\cH (AA b 0) [.B A,.U C,.U F,.S G,.S I] 0 s/\Cc s t 0 (.map T)/\bg.ST s (AA u 0) J K L M O P Q λq=>ite (!S) (bg.ST q (AA B 0) false 0 0 (⟨#[]⟩:cF) (⟨#[]⟩:cF) 0 0 λw=>bg.LD w (AA B 0) λb' f' j' n' r' v' z'=>R (.T #[.agg #[.B b',.U f',.U j',.S n',.S r',.I v',.I z'],.I 4]) w) (∃U,Cc q u 6 (.I U)/\ite (U !=o) (bg.ST q (AA B 0) false 0 0 (⟨#[]⟩:cF) (⟨#[]⟩:cF) 0 0 λx=>bg.LD x (AA B 0) λc' g' k' o' s' w' A'=>R (.T #[.agg #[.B c',.U g',.U k',.S o',.S s',.I w',.I A'],.I 13]) x) (bg.LD q (AA u 0) λC' D' E' F' G' H' I'=>bg.ST q (AA B 0) C' D' E' F' G' H' I' λy=>bg.LD y (AA B 0) λd' h' l' p' t' x' B'=>R (.T #[.agg #[.B d',.U h',.U l',.S p',.S t',.I x',.I B'],.I 0]) y)))):Cl 257 #[.P t 0,.agg #[.B e,.U E,.U f,.S g,.S i],.I o] h R:=aP [(11,λ_=>pN 12)] Z
def sR(K:aW h (.C #[.B e,.U E,.U f,.S g,.S i] 29) λb q=>av.LD q (AA b 0) λL M O P Q=>Cl 257 #[.P t 0,.agg #[.B L,.U M,.U O,.S P,.S Q],.I o] q λa' C=> ∃s u v w x y z T,a'=.T #[.agg #[.B s,.U u,.U v,.S w,.S x,.I y,.I z],.I T]/\aW C (.C #[.B false,.U 0,.U 0,.S (⟨#[]⟩:cF),.S (⟨#[]⟩:cF),.I 0,.I 0] 173) λB F=>bg.ST F (AA B 0) s u v w x y z λH=>aB (λG=>R (.I T) G) (λJ=>ite (T==0) (∃A,Cc H t 0 (.map A)/\av.LD H (AA b 0) λS U V X Z=>jE (Builtin.delete_ #[120,29] 0 #[.map A,.agg #[.B S,.U U,.U V,.S X,.S Z]]) H λb' I=>b'=.T #[]/\J I) (J H))):Cl 182 #[.P t 0,.agg #[.B e,.U E,.U f,.S g,.S i],.I o] h R:=aP [(7,.join []),(8,λ_=>pN 6)] K
def sV{P:Int} (V:aW h (.C #[.B e,.U E,.U f,.S g,.S i] 29) λb L=>aB (λ(X:Bool) q=>ite X (R (.I 1) q) (av.LD q (AA b 0) λZ a' b' c' d'=>Cl 257 #[.P t 0,.agg #[.B Z,.U a',.U b',.S c',.S d'],.I o] q λq' O=> ∃y z A C F G I T,q'=.T #[.agg #[.B y,.U z,.U A,.S C,.S F,.I G,.I I],.I T]/\aW O (.C #[.B false,.U 0,.U 0,.S (⟨#[]⟩:cF),.S (⟨#[]⟩:cF),.I 0,.I 0] 173) λB Q=>bg.ST Q (AA B 0) y z A C F G I λu=>aB (λS=>R (.I T) S) (λs=>ite (T==0) (aO u (AA B 5) (.I P) λH=> ∃K,Cc H t 0 (.map K)/\av.LD H (AA b 0) λe' f' g' h' i'=>bg.LD H (AA B 0) λj' k' l' m' n' o' p'=>jE (Instr.mapUpdate 120 (.map K) (.agg #[.B e',.U f',.U g',.S h',.S i']) (.agg #[.B j',.U k',.U l',.S m',.S n',.I o',.I p'])) H λ_ U=>s U) (s u)))) (λJ=>Cl 115 #[.P t 0] L λr' v=> ∃w,r'=.B w/\ite w (Cl 225 #[.I P] v λs' M=> ∃x,s'=.B x/\J (!x) M) (J false v))):Cl 184 #[.P t 0,.agg #[.B e,.U E,.U f,.S g,.S i],.I o,.I P] h R:=aP [(4,.join [(17,sB)]),(15,.join []),(18,λ_=>pN 7)] V
def wz(U:aW h (.C #[.B e,.U E,.U f,.S g,.S i] 29) λb Q=>aW Q (.C #[.B false,.U 0,.U 0,.S (⟨#[]⟩:cF),.S (⟨#[]⟩:cF),.I 0,.I 0] 173) λB S=>Cl 115 #[.P t 0] S λs' H=> ∃P,s'=.B P/\ite (!P) (bg.ST H (AA B 0) false 0 0 (⟨#[]⟩:cF) (⟨#[]⟩:cF) 0 0 λu=>bg.LD u (AA B 0) λV Z b' d' f' h' j'=>R (.T #[.agg #[.B V,.U Z,.U b',.S d',.S f',.I h',.I j'],.B false]) u) (∃T,Cc H t 0 (.map T)/\av.LD H (AA b 0) λx y z A C=> ∃F G I J K L M O,Gs 120 (.map T) (.agg #[.B x,.U y,.U z,.S A,.S C]) true H (.T #[.agg #[.B F,.U G,.U I,.S J,.S K,.I L,.I M],.B O])/\aW H (.C #[.B false,.U 0,.U 0,.S (⟨#[]⟩:cF),.S (⟨#[]⟩:cF),.I 0,.I 0] 173) λs q=>lY (.map T) H q/\cH (AA b 0) [.B x,.U y,.U z,.S A,.S C] 0 q/\Cc q t 0 (.map T)/\bg.ST q (AA s 0) F G I J K L M λv=>bg.LD v (AA s 0) λl' m' n' o' p' q' r'=>bg.ST v (AA B 0) l' m' n' o' p' q' r' λw=>bg.LD w (AA B 0) λX a' c' e' g' i' k'=>R (.T #[.agg #[.B X,.U a',.U c',.S e',.S g',.I i',.I k'],.B O]) w)):Cl 200 #[.P t 0,.agg #[.B e,.U E,.U f,.S g,.S i]] h R:=aP [(11,λ_=>pN 12)] U
def xL (hv:Cl 115 #[.P t 0] h λr' H=>Vb r' λt7=>aB (λ(F:bZ) (C B:Nat) c'=>Cl 116 #[.L F C B,.func (.func 117) #[] #[]] c' λs' d'=>s'=.T #[]/\R (.L F C B) d') (λJ=>ite t7 (∃G,Cc H t 0 (.map G)/\jE (Instr.range 120 (.map G)) H λt' e'=> ∃(v:Nat),t'=.P v 0/\∃(I:bZ->Nat->Nat->dw)(M:bZ->Nat->Nat->aA->Nat),I none 0 0 e'/\∀s q O u,I s q O u->jE (Instr.next (.P v 0) false 0) u λZ z=>(Z=.T #[.B false]/\J s q O z)\/(∃(h' i':Value),Z=.T #[.B true,h',i']/\jE (Instr.entry (.P v 0)) z λu' f'=> ∃(j' K:Value),u'=.T #[j',K]/\∃L P Q S U V X,K=.agg #[.B L,.U P,.U Q,.S S,.S U,.I V,.I X]/\aW f' (.C #[.B false,.U 0,.U 0,.S (⟨#[]⟩:cF),.S (⟨#[]⟩:cF),.I 0,.I 0] 173) λb g'=>bg.ST g' (AA b 0) L P Q S U V X λA=>bg.LD A (AA b 0) λk' l' m' n' o' p' q'=>aW A (.C #[.B k',.U l',.U m',.S n',.S o',.I p',.I q'] 173) λa' b'=>jE (Builtin.append_ #[170,170] 170 #[.L s q O,.L (Sa a' 0) 1 1]) b' λv' y=> ∃x w T,v'=.L x w T/\(I x w T y/\M x w T y<M s q O u))) (J none 0 0 H))):Cl 78 #[.P t 0] h R:=aP [(7,.join [(3,sS)]),(11,.loop [(3,sS)]),(20,λ_=> .typed [(16,.agg [.bool,.int .u64,.int .u64,.str,.str,.int .i64,.int .i64])])] hv
def uF{A:Bool}{q:Int}{s:Int}{u:cF}{v:cF}{w:Int}{x:Int}{y:Bool}{B:Int}{z:Int}{C:cF}{F:cF}{G:Int}{I:Int}(L:aW h (.C #[.B A,.U q,.U s,.S u,.S v,.I w,.I x] 173) λb K=>aW K (.C #[.B y,.U B,.U z,.S C,.S F,.I G,.I I] 173) λB H=>av.LD H (AA b 0) λM O P Q S=>av.LD H (AA B 0) λU V X Z a'=>Cl 106 #[.agg #[.B M,.U O,.U P,.S Q,.S S],.agg #[.B U,.U V,.U X,.S Z,.S a']] H λb' J=> ∃T,b'=.B T/\ite T (R (.I (-1)) J) (R (.I 1) J)):Cl 117 #[.agg #[.B A,.U q,.U s,.S u,.S v,.I w,.I x],.agg #[.B y,.U B,.U z,.S C,.S F,.I G,.I I]] h R:=aP [] L
def jO{q:bZ}{x X:Nat}(u:Cl 171 #[.U (wrap .u64 (x:Int))] h λv H=>Vi v λT=>Cl 170 #[.L q x X,.I 0,.I (x:Int),.I T,.func (.func 117) #[] #[]] H λV s=>V=.T #[]/\R (.T #[]) s):Cl 116 #[.L q x X,.func (.func 117) #[] #[]] h R:=aP [] u
def kB{b':Int} (hv: ∃(I:Int->Int->Int->Bool->Bool->dw)(mu:Int->Int->Int->Bool->Bool->aA->Nat),I a b b' true true h/\∀A B L w u H,I A B L w u H->aB (λ(O:Int) (Q:Int) (c':Int) (h':Bool) (i':Bool) X=>(I O Q c' h' i' X/\mu O Q c' h' i' X<mu A B L w u H)) (λJ=>ite (decide ((wrap .i64 (B - A))<=12)) (Cl 235 #[.L D d c,.I A,.I B,.func (.func 117) #[] #[]] H λP' u'=>P'=.T #[]/\R (.T #[]) u') (ite (L==0) (Cl 236 #[.L D d c,.I A,.I B,.func (.func 117) #[] #[]] H λQ' v'=>Q'=.T #[]/\R (.T #[]) v') (aB (λ(s:Int) w'=>Cl 238 #[.L D d c,.I A,.I B,.func (.func 117) #[] #[]] w' λS' Z=> ∃y z,S'=.T #[.I y,.I z]/\aB (λ(P:Int) (x':Int) x=>aB (λ(y':Bool) a'=>aB (λq=>aB (λ(O':Bool) S=>ite O' (Cl 241 #[.L D d c,.I A,.I B,.I P,.func (.func 117) #[] #[]] S λT' n'=> ∃d',T'=.I d'/\J d' B s w u n') (Cl 242 #[.L D d c,.I A,.I B,.I P,.func (.func 117) #[] #[]] S λU' U=> ∃T e',U'=.T #[.I T,.B e']/\aB (λ(j':Int) (m':Int) (a2:Bool) o'=>J j' m' s a2 e' o') (λM=>ite (decide ((wrap .i64 (T - A))<(wrap .i64 (B - T)))) (Cl 170 #[.L D d c,.I A,.I T,.I s,.func (.func 117) #[] #[]] U λV' p'=>V'=.T #[]/\M (wrap .i64 (T+1)) B (decide ((wrap .i64 (T - A))≥(wrap .i64 (Int.tdiv (wrap .i64 (B - A)) 8)))) p') (Cl 170 #[.L D d c,.I (wrap .i64 (T+1)),.I B,.I s,.func (.func 117) #[] #[]] U λX' q'=>X'=.T #[]/\M A T (decide ((wrap .i64 (B - T))≥(wrap .i64 (Int.tdiv (wrap .i64 (B - A)) 8)))) q')))) (λK=>ite (decide (A>0)) (Bd (wrap .i64 (A - 1)) d/\aH D λk'=>bg.LD q (k'.add (toNat (wrap .i64 (A - 1))*7)) λz' A' B' C' D' E' F'=>Bd P d/\aH D λl'=>bg.LD q (l'.add (toNat P*7)) λG' H' I' J' K' L' M'=>Cl 117 #[.agg #[.B z',.U A',.U B',.S C',.S D',.I E',.I F'],.agg #[.B G',.U H',.U I',.S J',.S K',.I L',.I M']] q λZ' r'=> ∃g',Z'=.I g'/\K (!(decide (g'<0))) r') (K false q))) (λG=>ite y' (Cl 240 #[.L D d c,.I A,.I B,.func (.func 117) #[] #[]] a' λa0 V=> ∃f',a0=.B f'/\ite f' (R (.T #[]) V) (G V)) (G a'))) (λv=>ite w (ite u (v (x'==1) x) (v false x)) (v false x))) (λF=>ite (z==2) (Cl 239 #[.L D d c,.I A,.I B,.func (.func 117) #[] #[]] Z λa1 s'=>a1=.T #[]/\F (wrap .i64 ((wrap .i64 (B - 1)) - (wrap .i64 (y - A)))) 1 s') (F y z Z))) (λC=>ite (!w) (Cl 237 #[.L D d c,.I A,.I B,.func (.func 117) #[] #[]] H λR' t'=>R'=.T #[]/\C (wrap .i64 (L - 1)) t') (C L H)))))):Cl 170 #[.L D d c,.I a,.I b,.I b',.func (.func 117) #[] #[]] h R:=aP [(5,.loop [(1,sI),(2,sI),(3,sI),(10,sB),(11,sB)]),(6,.join [(1,sI),(2,sI),(3,sI),(10,sB),(11,sB)]),(28,.join [(3,sI)]),(38,.join [(13,sI),(14,sI)]),(47,.join [(75,sB)]),(48,.join []),(57,.join [(97,sB)]),(57,λ_=>pN 17),(75,.join [(1,sI),(2,sI),(10,sB)])] hv
def jG (O: ∃(I:kj)(M:kG),I (wrap .i64 (a+1)) h/\∀s v,I s v->ite (decide (s<b)) (∃(w:kj)(y:kG),w s v/\∀q H,w q H->aB (λ(h':Bool) u=>ite h' (Bd (wrap .i64 (q - 1)) d/\aH D λA=>bg.LD u (A.add (toNat (wrap .i64 (q - 1))*7)) λi' j' k' l' m' n' o'=>Bd q d/\aH D λz=>bg.LD u (z.add (toNat q*7)) λp' q' r' s' t' u' v'=>Bd q d/\aH D λB=>bg.ST u (B.add (toNat q*7)) i' j' k' l' m' n' o' λK=>Bd (wrap .i64 (q - 1)) d/\aH D λC=>bg.ST K (C.add (toNat (wrap .i64 (q - 1))*7)) p' q' r' s' t' u' v' λx=>(w (wrap .i64 (q - 1)) x/\y (wrap .i64 (q - 1)) x<y q H)) ((I (wrap .i64 (s+1)) u/\M (wrap .i64 (s+1)) u<M s v))) (λJ=>ite (decide (q>a)) (Bd q d/\aH D λF=>bg.LD H (F.add (toNat q*7)) λP Q S U V X Z=>Bd (wrap .i64 (q - 1)) d/\aH D λG=>bg.LD H (G.add (toNat (wrap .i64 (q - 1))*7)) λa' b' c' d' e' f' g'=>Cl 117 #[.agg #[.B P,.U Q,.U S,.S U,.S V,.I X,.I Z],.agg #[.B a',.U b',.U c',.S d',.S e',.I f',.I g']] H λw' L=> ∃T,w'=.I T/\J (decide (T<0)) L) (J false H))) (R (.T #[]) v)):Cl 235 #[.L D d c,.I a,.I b,.func (.func 117) #[] #[]] h R:=aP [(3,.loop [(8,sI)]),(15,.loop [(9,sI)]),(18,.join [(34,sB)]),(18,λ_=>pN 17),(24,λ_=>pN 18)] O

end
section
namespace fE
open ju
variable {h h':aA} {R:fp} {b:Nat} {X:Ft}
structure Rg where
 e:Ev
 lS:Int
 own:Int
abbrev Rg.zero:Rg:=⟨.zero,0,0⟩
abbrev Rg.val(r:Rg):Value:=.agg #[.bool r.e.jY,.int .u64 r.e.node,.int .u64 r.e.fK,.string r.e.host,.string r.e.jl,.int .i64 r.lS,.int .i64 r.own]
abbrev Rg.at(h:aA)(b:Nat)(r:Rg):Prop:=bg.at h b r.e.jY r.e.node r.e.fK r.e.host r.e.jl r.lS r.own
abbrev FA(r:Rg):List Value:= [.bool r.e.jY,.int .u64 r.e.node,.int .u64 r.e.fK,.string r.e.host,.string r.e.jl,.int .i64 r.lS,.int .i64 r.own]
def pq(r:Rg):(FA r).length=7:=rfl
abbrev Rg.pair(r:Rg):Ev×Value:=(r.e,r.val)
abbrev kW(x y:Rg):Prop:=lR x.e y.e=true
def ps:qK Tryz.prog 120 mh Rg.zero.val:=qK.of 29 173 cZ key cZ
structure Qr (h:aA) (b:Nat) (X:Ft) (L:List Rg) (m:Nat):Prop where
 cN:h[b]? =some (.cells #[.map (some m)] 122 (0,0))
 map:kz h m mh (L.map Rg.pair)
 fm: ∀c,X.M c↔c=b\/c=m
 d: ∀c,¬X.D c
 ne:b≠m
 so:L.Pairwise kW
def Tb(h:aA)(b:Nat)(X:Ft)(L:List Rg):Prop:= ∃m,Qr h b X L m
variable {L : List Rg} {m : Nat}
def Qr.frame{Q:gF}(H:Qr h b X L m)(f:Fr Q h h')(a: ∀y,X.M y\/X.D y->¬Q y):Qr h' b X L m:=
 ⟨f.get H.cN (a b (.inl ((H.fm b).2 (.inl rfl)))),H.map.frame f (a m (.inl ((H.fm m).2 (.inr rfl)))),H.fm,H.d,H.ne,H.so⟩
def Qr.on(H:Qr h b X L m)(f:Fr No h h'):Qr h' b X L m:=H.frame f bC
def Tb.frame{Q:gF}(H:Tb h b X L)(f:Fr Q h h')(a: ∀y,X.M y\/X.D y->¬Q y):Tb h' b X L:=by have⟨m,H⟩:=H;exact⟨m,H.frame f a⟩
def Tb.on(H:Tb h b X L)(f:Fr No h h'):Tb h' b X L:=H.frame f bC
def Tb.lt(H:Tb h b X L)(y:Nat)(hy:X.M y\/X.D y):y<h.size:=by have⟨m,H⟩:=H;rcases hy with hy|hy;rcases(H.fm y).1 hy with rfl|rfl;exact aD H.cN;exact H.map.lt;exact absurd hy (H.d y)
def jB(L:List Rg)(x:Ev):Option Rg:=L.find? (λr=>decide (r.e=x))
def MU{x:Ev}{r:Rg}(h:jB L x=some r):r∈L/\r.e=x:=⟨List.mem_of_find?_eq_some h,dH (List.find?_some h)⟩
def FB{x:Ev}:jB L x=none↔ ∀r∈L,r.e≠x:=by unfold jB;simp
theorem Pz(L:List Rg)(x:Ev):yh (L.map Rg.pair) x=(jB L x).map Rg.val:=by
 unfold yh jB;rw[List.find?_map];cases h:L.find? ((λe=>decide (e.1=x)) ∘ Rg.pair)with
 |none=>grind
 |some r=>have:L.find? (λr=>decide (r.e=x))=some r:=h;rw[this];rfl
def BN(r:Rg):List Rg->List Rg
 | []=> [r]
 |x::l=>if lR x.e r.e=true then x::BN r l else r::x::l
def xh(r:Rg): ∀L:List Rg,(BN r L).Perm (r::L)
 | []=> .refl _
 |x::l=>by unfold BN;split;exact((xh r l).cons x).trans (List.Perm.swap r x l);rfl
def Lk{r x:Rg}:x∈BN r L↔x=r\/x∈L:=by rw[(xh r L).mem_iff,bG]
def R9(r:Rg)(L:List Rg):(BN r L).length=L.length+1:=by rw[(xh r L).length_eq];rfl
theorem Oa{r:Rg}: ∀{L:List Rg},L.Pairwise kW->(∀x∈L,x.e≠r.e)->(BN r L).Pairwise kW
 | [],_,_=>List.pairwise_singleton _ _
 |x::l,h,a=>by have⟨d,e⟩:=dF.1 h;unfold BN;split;rename_i H;refine dF.2 ⟨λy hy=> ?_,Oa e (λy hy=>a y (bQ _ hy))⟩;rcases Lk.1 hy with rfl|hy;exact H;grind;rename_i H;have c:=(EA (a x bt)).resolve_left H;refine dF.2 ⟨λy hy=> ?_,h⟩;rcases bG.1 hy with rfl|hy;exact c;exact yr c (d y hy)
def PA(L:List Rg)(x:Ev):List Rg:=L.filter (λr=> !decide (r.e=x))
def MV(L:List Rg)(x:Ev)(p:Int):List Rg:=L.map (λr=>if r.e=x then { r with lS:=p } else r)
def jn(r:Rg):Bool:=cY r.e && (!decide (r.e=Ev.zero) && (decide (r.lS≥0) && decide (r.lS<=2) && (decide (r.own≥1) && decide (r.own<=1099511627776))))
def jQ(L:List Rg)(r:Rg):Int:=if jn r=false then 1 else if(jB L r.e).isSome=true then 11 else if L.length≥8 then 15 else 0
def Dr(L:List Rg)(r:Rg):List Rg:=if jQ L r=0 then BN r L else L
def kL(L:List Rg)(x:Ev)(o:Int):Int:=match jB L x with|none=>4|some r=>if r.own=o then 0 else 13
def FC(L:List Rg)(x:Ev)(o:Int):List Rg:=if kL L x o=0 then PA L x else L
def PB(L:List Rg)(x:Ev)(o p:Int):Int:=if 0<=p/\p<=2 then kL L x o else 1
def Lm(L:List Rg)(x:Ev)(o p:Int):List Rg:=if PB L x o p=0 then MV L x p else L
theorem FD(L:List Rg)(r:Rg):(jn r=false/\jQ L r=1)\/(jn r=true/\(jB L r.e).isSome=true/\jQ L r=11)\/(jn r=true/\jB L r.e=none/\L.length≥8/\jQ L r=15)\/(jn r=true/\jB L r.e=none/\L.length<8/\jQ L r=0):=by
 unfold jQ;cases H:jn r with
 |false=>simp
 |true=>
  cases a:jB L r.e with
  |some x=>simp
  |none=>grind
def gh(H:Qr h b X L m)(a:R (.B true) h):Cl 115 #[.P b 0] h R:=wy ⟨_,ai H.cN,a⟩
theorem gC(a: ∀h' b X,Tb h' b X []->xX h X h'->R (.P b 0) h'):Cl 16 #[] h R:=by refine GO (cg (cg ?_));have f:Fr No h (h.push (.map #[] 0)):=Fr.push _ _;have M:=kz.push h mh;have z:(h.push (.map #[] 0)).size=h.size+1:=cI _;generalize h.push (.map #[] 0)=H at f M z⊢;have F:Fr No H (H.push (.C #[.map (some h.size)] 122)):=Fr.push _ _;refine a _ H.size ⟨λc=>c=H.size\/c=h.size,λ_=>False⟩ ⟨h.size,bR,M.frame F id,λc=>eV,λ_=>id,ae,.nil⟩ ⟨f.tt F,λc hc=> ?_⟩;rcases hc with hc|hc;omega;grind
theorem CR{n:Int}(H:R (.B (decide (n≥0) && decide (n<=2))) h):Cl 225 #[.I n] h R:=by refine yL ?_;by_cases q:n≥0;grind;grind
theorem fD(r:Rg)(c: iG h R (.B (jn r))):Cl 159 #[r.val] h R:=by refine Dq (bg.box λb k E d F=> ?_);have l: ∀{g:aA}{K:Bool->Int->Int->cF->cF->Prop},r.at g b->K r.e.jY r.e.node r.e.fK r.e.host r.e.jl->av.LD g (AA b 0) K:=λH c=>⟨_,ai H,_,ai H,_,ai H,_,ai H,_,ai H,c⟩;refine l d (ju.fD r.e λj f=>⟨_,rfl,?_⟩);have a:=f.get d id;have K:=c j (F.tt f);unfold jn at K;by_cases q:cY r.e=true;rw[ag q];rw[q,gU]at K;refine l a ⟨_,zQ (y:=.zero) rfl rfl,?_⟩;by_cases Q:r.e=.zero;grind;rw[aT Q,gH];rw[aT Q,ee,gU]at K;refine⟨_,ai a,CR ⟨_,rfl,?_⟩⟩;by_cases e:(decide (r.lS≥0) && decide (r.lS<=2))=true;rw[ag e];rw[e,gU]at K;refine⟨_,ai a,?_⟩;by_cases i:r.own≥1;rw[ag (aC i)];rw[aC i,gU]at K;exact⟨_,ai a,K⟩;grind;grind;grind
def GP{g:aA}{b:Nat}{r:Rg}{K:Bool->Int->Int->cF->cF->Prop}(H:r.at g b)(a:K r.e.jY r.e.node r.e.fK r.e.host r.e.jl):av.LD g (AA b 0) K:=
 ⟨_,ai H,_,ai H,_,ai H,_,ai H,_,ai H,a⟩
theorem look(H:Qr h b X L m)(x:Ev):xU Tryz.prog 120 (.map (some m)) (mh x) true h (.T #[((jB L x).getD .zero).val,.B (jB L x).isSome]):=by
 have:=OQ ps H.map x;rw[Pz]at this;cases a:jB L x with
 |none=>rw[a]at this;exact this
 |some r=>grind
def Fr.put{H a d:aA}{c:Nat}(f:Fr No H a)(k:d.size=a.size)(i: ∀x,x≠c->d[x]? =a[x]?)(j:H.size<=c):Fr No H d:=
 f.fresh ⟨ae,λy _ g=>i y g⟩ (λy e=>ae)
def iN(H:Tb h b X L)(x:Ev)(q: iG h R (.T #[((jB L x).getD .zero).val,.B (jB L x).isSome])):
  Cl 200 #[.P b 0,mh x] h R:=by
 have⟨m,H⟩:=H;refine wz (av.box λt w E c d=>bg.box λB y u g e=> ?_);have F:=d.tt e;have c:=e.get c id;have a:=H.on F;refine gh a ⟨_,rfl,⟨_,ai a.cN,av.ld c ⟨_,_,_,_,_,_,_,_,look a x,bg.box λj z v p f=>⟨f.2 m a.map.lt id,av.held (f.get c id),ai (f.get a.cN id),bg.set p λk A s o=>bg.ld A ?_⟩⟩⟩⟩;have n:(Rg.zero).at k B:=by
  have:=f.get g id;have r:B≠j:=by have:=aD g;omega
  unfold Rg.at bg.at;rw[o B r];exact this
 have Z:=F.1;refine bg.set n λl i S O=>bg.ld i (q l (Fr.put (Fr.put (F.tt f) s o ae) S O (bN d.1)))
theorem BG(H:Tb h b X L)(x:Ev)(o:Int)(G: iG h R (.T #[(if kL L x o=0 then(jB L x).getD .zero else .zero).val,.I (kL L x o)])):
  Cl 257 #[.P b 0,mh x,.I o] h R:=by
 obtain⟨m,H⟩:=H;refine xK (av.box λJ M p d t=>bg.box λB P q v F=> ?_);have u:=t.tt F;have d:=F.get d id;have c:=H.on u;refine gh c ⟨_,rfl,?_⟩;rw[dz];refine⟨_,ai c.cN,av.ld d ⟨_,_,_,_,_,_,_,_,look c x,bg.box λC Q K D f=> ?_⟩⟩;refine⟨f.2 m c.map.lt id,av.held (f.get d id),ai (f.get c.cN id),bg.set D λl j S w=> ?_⟩;have n:(Rg.zero).at l B:=by
  have:=f.get v id;have I:B≠C:=by have:=aD v;omega
  unfold Rg.at bg.at;rw[w B I];exact this
 have Z:=t.1;have T:=F.1;have z:=Fr.put (u.tt f) S w ae;have k: ∀(r:Rg)(e:Int),(if kL L x o=0 then(jB L x).getD .zero else .zero)=r->kL L x o=e->∀a,r.at a B->a.size=l.size->(∀y,y≠B->a[y]? =l[y]?)->R (.T #[r.val,.I e]) a:=by intro r e p q a _ s O;rw[<-p,<-q];exact G a (Fr.put z s O ae)
 cases g:jB L x with
 |none=>
  have E:kL L x o=4:=by unfold kL;rw[g]
  rw[ag (by rfl)];exact bg.set n λa A s O=>bg.ld A (k .zero 4 (by grind) E a A s O)
 |some r=>
  rw[g]at j;rw[af bt];refine⟨_,ai j,?_⟩;by_cases i:r.own=o;have E:kL L x o=0:=by unfold kL;rw[g];exact ag i
  rw[af (dH i)];exact bg.ld j (bg.set n λa A s O=>bg.ld A (k r 0 (by grind) E a A s O));have E:kL L x o=13:=by unfold kL;rw[g];exact af i
  rw[ag (dH i)];exact bg.set n λa A s O=>bg.ld A (k .zero 13 (by rw[E,dz]) E a A s O)
def Qr.put{l:List Rg}{a:aA}(H:Qr h b X L m)(M:kz a m mh (l.map Rg.pair))(i:a.size=h.size)(d: ∀c,c≠m->a[c]? =h[c]?)(so:l.Pairwise kW):Qr a b X l m/\bp X h X a:=by have f:Fr X.M h a:=⟨ae,λc _ g=>d c (λe=>g ((H.fm c).2 (.inr e)))⟩;refine⟨⟨?_,M,H.fm,H.d,H.ne,so⟩,bp.zJ f⟩;rw[d b H.ne];exact H.cN
def MW{L:List Rg}(s:L.Pairwise kW):(L.map Rg.e).Nodup:=by unfold List.Nodup;rw[dM];refine s.imp fun {x y} H e=> ?_;rw[kW,e,ny]at H;cases H
def Ln(L:List Rg)(x:Ev):AY (L.map Rg.pair) x=(PA L x).map Rg.pair:=by unfold AY PA;rw[dT];rfl
def Ud{x:Ev}(s:L.Pairwise kW):(PA L x).Pairwise kW:=s.sublist da
theorem Ue{x:Ev}{p:Int}(s:L.Pairwise kW):(MV L x p).Pairwise kW:=by
 unfold MV;rw[dM];refine s.imp fun {u v} H=> ?_;have e: ∀r,(if r.e=x then { r with lS:=p } else r:Rg).e=r.e:=λr=>by grind
 show lR _ _=true;rw[e,e];exact H
theorem Lo{x:Ev}{p:Int}{r:Rg}: ∀{L:List Rg},L.Pairwise kW->r∈L->r.e=x->(MV L x p).Perm ({ r with lS:=p } ::PA L x)
 | [],_,h,_=>by cases h
 |y::l,s,h,e=>by
  have⟨a,f⟩:=dF.1 s;unfold MV PA;rw[cp,di];rcases bG.1 h with rfl|h
  .rw[ag e,af (by simp[e])];refine List.Perm.cons _ ?_;have g: ∀z∈l,z.e≠x:=λz H E=>by
    have:=a z H;rw[kW,e,E,ny]at this;cases this
   have d:l.map (λr=>if r.e=x then({ r with lS:=p })else r)=l:=by
    conv=>rhs;rw[<-List.map_id l]
    exact fh (λz H=>af (g z H))
   have E:l.filter (λr=> !decide (r.e=x))=l:=by simp_all
   rw[d,E]
  have c:y.e≠x:=λE=>by have:=a r h;rw[kW,e,E,ny]at this;cases this
  rw[af c,ag (by simp[c])];exact((Lo f h e).cons y).trans (List.Perm.swap _ _ _)
theorem BK(H:Tb h b X L)(r:Rg)(hl:L.length<=8)(j: ∀h',Tb h' b X (Dr L r)->bp X h X h'->R (.I (jQ L r)) h'):
  Cl 109 #[.P b 0,r.val] h R:=by
 obtain⟨m,H⟩:=H;refine xJ (bg.box λB T K i g=> ?_);have d:=H.on g;refine gh d ⟨_,rfl,?_⟩;rw[dz];refine⟨_,ai d.cN,GP (r:=r) i ⟨_,_,_,_,_,_,_,_,look d r.e,bg.box λw U P y f=> ?_⟩⟩;have p:=f.get i id;refine⟨f.2 m d.map.lt id,dO p (λa' b' Z=> ?_),ai (f.get d.cN id),bg.set y λx J S O=> ?_⟩;grind;have z1:=g.1;have u:=Fr.put (g.tt f) S O ae;have s:r.at x B:=by
  have z:B≠w:=by have:=aD i;omega
  unfold Rg.at bg.at;rw[O B z];exact p
 refine bg.ld s (fD r λn l=>⟨_,rfl,?_⟩);have F:=u.tt l;have a:=H.on F;have t:=l.get s id;have k:Dr L r=L->R (.I (jQ L r)) n:=λe=>j n (by rw[e];exact⟨m,a⟩) (bp.iw F);rcases FD L r with⟨Q,q⟩|⟨Q,c,q⟩|⟨Q,c,D,q⟩|⟨Q,c,D,q⟩;rw[Q,gH];rw[q]at k;exact k (by unfold Dr;rw[q];rfl);rw[Q,dz,ag c];rw[q]at k;exact k (by unfold Dr;rw[q];rfl);rw[Q,dz,af (by rw[c];simp)];refine⟨_,ai a.cN,_,Mi ps a.map,?_⟩;rw[aw,gH];rw[q]at k;exact k (by unfold Dr;rw[q];rfl);rw[Q,dz,af (by rw[c];simp)];refine⟨_,ai a.cN,_,Mi ps a.map,?_⟩;rw[aw,af (by simp;omega)];refine⟨_,ai a.cN,GP (r:=r) t (bg.ld t (zL ps a.map (k:=r.e) λo M G C=> ?_))⟩;have E:Dr L r=BN r L:=ag q;have A:=FB.1 c;have M:kz o m mh ((BN r L).map Rg.pair):=by refine M.perm ?_;unfold Kv;rw[xa (λe V=>by grind)];exact((xh r L).map Rg.pair).symm
 obtain⟨v,I⟩:=a.put M G C (Oa a.so A);rw[E,q]at j;exact j o ⟨m,v⟩ (bp.no F I)
theorem rq(H:Tb h b X L)(x:Ev)(o:Int)(i: ∀h',Tb h' b X (FC L x o)->bp X h X h'->R (.I (kL L x o)) h'):
  Cl 182 #[.P b 0,mh x,.I o] h R:=by
 refine sR (av.box λB r E g f=>av.ld g (BG (H.on f) x o λt c=>⟨_,_,_,_,_,_,_,_,rfl,bg.new λn k p u d=>aB.of λJ e=> ?_⟩));have F:=f.tt (c.tt d);have⟨m,H⟩:=H;have a:=H.on F;by_cases q:kL L x o=0;rw[ag (by grind)];refine⟨_,ai a.cN,av.ld ((c.tt d).get g id) (Kx ps a.map λl M s O=>⟨rfl,?_⟩)⟩;subst e;rw[Ln]at M;have⟨j,S⟩:=a.put M s O (Ud a.so);exact i l (by unfold FC;rw[ag q];exact⟨m,j⟩) (bp.no F S);rw[af (dH q)];subst e;exact i k (by unfold FC;rw[af q];exact⟨m,a⟩) (bp.iw F)
theorem PC(H:Tb h b X L)(x:Ev)(o p:Int)(a: ∀h',Tb h' b X (Lm L x o p)->bp X h X h'->R (.I (PB L x o p)) h'):
  Cl 184 #[.P b 0,mh x,.I o,.I p] h R:=by
 refine sV (av.box λB G e1 i f=>aB.of λJ c=> ?_);have y:=H;obtain⟨m,H⟩:=H;have k:=H.on f;refine gh k ⟨_,rfl,?_⟩;rw[ag rfl];refine CR ⟨_,rfl,?_⟩;subst c;by_cases Q:0<=p/\p<=2;have E:(decide (p≥0) && decide (p<=2))=true:=by grind
 have e:PB L x o p=kL L x o:=ag Q;rw[E];dsimp only;rw[dz];refine av.ld i (BG (y.on f) x o λh2 g=>⟨_,_,_,_,_,_,_,_,rfl,bg.new λl I e3 u n=>aB.of λJ c=> ?_⟩);have F:=f.tt (g.tt n);have K:=(g.tt n).get i id;have z:=H.on F;rw[e]at a;by_cases q:kL L x o=0;rw[ag (dH q)];obtain⟨r,v⟩: ∃r,jB L x=some r:=by
  cases S:jB L x with
  |none=>unfold kL at q;rw[S]at q;cases q
  |some r=>simp
 rw[ag q,v]at u;obtain⟨U,w⟩:=MU v;refine bf u bt λs A Z O=> ?_;have z1:=f.1;have z2:=g.1;have j:=Fr.put F Z O ae;have d:=H.on j;have P:Ev.at s B x:=by
  have T:B≠l:=by have:=aD i;omega
  unfold Ev.at av.at;rw[O B T];exact K
 have A:({ r with lS:=p } :Rg).at s l:=A;refine⟨_,ai d.cN,av.ld P (bg.ld A (zL ps d.map (k:=x) λt M s5 V=> ?_))⟩;have M:kz t m mh ((MV L x p).map Rg.pair):=by
  refine M.perm ?_;unfold Kv;rw[Ln];have:=((Lo (p:=p) H.so U w).map Rg.pair).symm;rw[cp]at this;have D:(x,({ r with lS:=p } :Rg).val)=({ r with lS:=p } :Rg).pair:=by rw[<-w]
  rw[show((x,Value.agg #[.B r.e.jY,.U r.e.node,.U r.e.fK,.S r.e.host,.S r.e.jl,.I p,.I r.own]):Ev×Value)=({ r with lS:=p } :Rg).pair from D];exact this
 obtain⟨C,st⟩:=d.put M s5 V (Ue H.so);subst c;exact a t (by unfold Lm;rw[e,ag q];exact⟨m,C⟩) (bp.no j st);rw[af (dH q)];subst c;exact a I (by unfold Lm;rw[e,af q];exact⟨m,z⟩) (bp.iw F);have E:(decide (p≥0) && decide (p<=2))=false:=by grind
 have e:PB L x o p=1:=af Q;rw[E];dsimp only;rw[gH];rw[e]at a;exact a G (by unfold Lm;rw[e,dz];exact⟨m,k⟩) (bp.iw f)
end fE
end
section
variable {h:aA} {R:fp}
variable {t s S D g:Nat} {n E a v f num:Int} {d i:bZ} {e:Bool} {b c:cF}
def Ds(o:aW h (.map #[] 0) λB H=>Cl 54 #[] H λV k=>Vp V λT=>Cl 54 #[] k λq l=>Vp q λp=>aW l (.C #[.map (some B),.I 1,.I 0,.I 0,.I 0,.Q T,.Q p] 127) λj m=>R (.P j 0) m):Cl 17 #[] h R:=aP [] o
def sW(H: ∃T,Cc h t 0 (.map T)/\R (.B (!T.isNone)) h):Cl 80 #[.P t 0] h R:=aP [] H
def pP (P:Cl 80 #[.P t 0] h λa' H=>Vb a' λZ=>aB (λ(x:bZ) (w u:Nat) C=>Cl 118 #[.L x w u] C λb' F=>b'=.T #[]/\R (.L x w u) F) (λJ=>ite Z (∃y,Cc H t 0 (.map y)/\jE (Instr.range 123 (.map y)) H λc' G=> ∃(l:Nat),c'=.P l 0/\∃(I:bZ->Nat->Nat->dw)(M:bZ->Nat->Nat->aA->Nat),I none 0 0 G/\∀j O o k,I j O o k->jE (Instr.next (.P l 0) false 0) k λV q=>(V=.T #[.B false]/\J j O o q)\/(∃(Q U:Value),V=.T #[.B true,Q,U]/\jE (Instr.entry (.P l 0)) q λd' K=> ∃(z X:Value),d'=.T #[z,X]/\∃A,z=.I A/\aW K (.C #[.I A] 3) λB L=>jE (Builtin.append_ #[175,175] 175 #[.L j O o,.L (Sa B 0) 1 1]) L λe' r=> ∃p m T,e'=.L p m T/\(I p m T r/\M p m T r<M j O o k))) (J none 0 0 H))):Cl 81 #[.P t 0] h R:=aP [(7,.join [(3,sS)]),(11,.loop [(3,sS)]),(20,λ_=> .typed [(15,sI)])] P
def sY{C:Nat}{j:Nat}(H:Hp h C 0 λF=>aH F λA=> ∃l,aU h A=some (.map l)/\∃T,Gs 123 (.map l) (.I n) false h (.Q T)/\aH T λm=>av.LD h (m.add 1) λo p q r u=>av.LD h (AA j 0) λw x y z B=> ∃(k:Bool),JS 29 (.agg #[.B o,.U p,.U q,.S r,.S u]) (.agg #[.B w,.U x,.U y,.S z,.S B]) k/\R (.B (!k)) h):Cl 227 #[.I n,.P C 0,.P j 0] h R:=aP [(3,λ_=>pN 12)] H
def lC{l:Nat}{m:Nat} (C:Cl 303 #[.L d s S,.func (.func 227) #[] #[.P l 0,.P m 0]] h λV p=> ∃T,V=.I T/\ite (T==(-1)) (R (.L d s S) p) (∃(I:Int->kj)(M:Int->kG),I T (wrap .i64 (T+1)) p/\∀k j H,I k j H->ite (decide (j<(s:Int))) (aB (λ(u:Int) q=>(I u (wrap .i64 (j+1)) q/\M u (wrap .i64 (j+1)) q<M k j H)) (λJ=>Bd j s/\aH d λA=>kU H (A.add (toNat j*1)) λw=>Cl 227 #[.I w,.P l 0,.P m 0] H λK r=>Vb K λG=>aB (λ(F:Int) y=>J F y) (λo=>ite (!G) (Bd k s/\aH d λx=>aO r (x.add (toNat k*1)) (.I w) λz=>o (wrap .i64 (k+1)) z) (o k r)))) (((0:Int)<=k/\k<=(s:Int))/\jE (Builtin.clear_ #[175] 0 #[.L (cE d S (toNat k) 1) (s - (toNat k)) (S - (toNat k))]) H λL B=>L=.T #[]/\((0:Int)<=k/\k<=(S:Int))/\R (.L (cE d S 0 1) ((toNat k) - 0) (S - 0)) B))):Cl 226 #[.L d s S,.func (.func 227) #[] #[.P l 0,.P m 0]] h R:=aP [(16,.loop [(5,sI),(6,sI)]),(24,.join [(5,sI)]),(29,.join [(5,sI)])] C
def lH{F:Nat}{k:Nat} (o: ∃(I:kj)(m:kG),I 0 h/\∀T H,I T H->ite (decide (T<(s:Int))) (Bd T s/\aH d λA=>kU H (A.add (toNat T*1)) λp=>Cl 227 #[.I p,.P F 0,.P k 0] H λV j=> ∃l,V=.B l/\ite l (R (.I T) j) ((I (wrap .i64 (T+1)) j/\m (wrap .i64 (T+1)) j<m T H))) (R (.I (-1)) H)):Cl 303 #[.L d s S,.func (.func 227) #[] #[.P F 0,.P k 0]] h R:=aP [(6,.loop [(8,sI)])] o
def wA(q:aW h (.C #[.P t 0] 58) λB m=>aW m (.C #[.B e,.U E,.U a,.S b,.S c] 29) λl H=>Hp H B 0 λr=>Cl 81 #[.Q r] H λV o=>Vl V λx w u=>Cl 226 #[.L x w u,.func (.func 227) #[] #[.P B 0,.P l 0]] o λy p=> ∃k j T,y=.L k j T/\R (.L k j T) p):Cl 161 #[.P t 0,.agg #[.B e,.U E,.U a,.S b,.S c]] h R:=aP [] q
def rB (y:aW h (.C #[.B e,.U E,.U a,.S b,.S c] 29) λB k=>av.LD k (AA B 0) λK L M O P=>Cl 161 #[.P t 0,.agg #[.B K,.U L,.U M,.S O,.S P]] k λV w=>Vl V λC p _=> ∃(I:Int->kj)(m:Int->kG),I 0 0 w/\∀n T H,I n T H->ite (decide (T<(p:Int))) (aB (λ(o:Int) l=>(I o (wrap .i64 (T+1)) l/\m o (wrap .i64 (T+1)) l<m n T H)) (λJ=>Bd T p/\aH C λA=>kU H (A.add (toNat T*1)) λF=> ∃q,Cc H t 0 (.map q)/\∃r,Gs 123 (.map q) (.I F) false H (.Q r)/\aH r λu=>kU H (u.add 8) λG=>aB (λ(z:Int) x=>J z x) (λj=>ite (G==0) (j (wrap .i64 (n+1)) H) (j n H)))) (R (.I n) H)):Cl 187 #[.P t 0,.agg #[.B e,.U E,.U a,.S b,.S c]] h R:=aP [(8,.loop [(5,sI),(12,sI)]),(16,.join [(5,sI)]),(21,.join [(5,sI)])] y
def yM (l:aW h (.C #[.B e,.U E,.U a,.S b,.S c] 29) λB k=>av.LD k (AA B 0) λu w x y z=>Cl 53 #[.agg #[.B u,.U w,.U x,.S y,.S z]] k λV H=> ∃T,V=.B T/\ite T (av.LD H (AA B 0) λm o p q r=> ∃(j:Bool),JS 29 (.agg #[.B m,.U o,.U p,.S q,.S r]) (.agg #[.B false,.U 0,.U 0,.S (⟨#[]⟩:cF),.S (⟨#[]⟩:cF)]) j/\ite (!j) (ite (decide ((D:Int)≥1)) (ite (decide ((D:Int)<=600)) (R (.B (decide (v<=1099511627776))) H) (R (.B false) H)) (R (.B false) H)) (R (.B false) H)) (R (.B false) H)):Cl 160 #[.agg #[.B e,.U E,.U a,.S b,.S c],.L i D g,.U v] h R:=aP [] l
def uH (K:aW h (.C #[.B e,.U E,.U a,.S b,.S c] 29) λB I=>Cl 80 #[.P t 0] I λi' k=> ∃z,i'=.B z/\ite (!z) (R (.T #[.I 0,.I 6]) k) (av.LD k (AA B 0) λL M O P Q=>Cl 160 #[.agg #[.B L,.U M,.U O,.S P,.S Q],.L i D g,.U v] k λj' l=> ∃A,j'=.B A/\ite (!A) (R (.T #[.I 0,.I 1]) l) (av.LD l (AA B 0) λU V X Z a'=>Cl 161 #[.P t 0,.agg #[.B U,.U V,.U X,.S Z,.S a']] l λk' H=> ∃c' C b',k'=.L c' C b'/\ite (decide (((C:Nat):Int)≥16)) (R (.T #[.I 0,.I 15]) H) (Hi H t 1 λT=> ∃F,Cc H t 1 (.I F)/\aO H (AA t 1) (.I (wrap .i64 (F+1))) λm=> ∃j,Cc m t 0 (.map j)/\av.LD m (AA B 0) λq r u w x=>Cl 57 #[.L i D g] m λl' o=>Vl l' λf' e' d'=>cH (AA B 0) [.B q,.U r,.U u,.S w,.S x] 0 o/\Cc o t 0 (.map j)/\aW o (.C #[.I T,.B q,.U r,.U u,.S w,.S x,.L f' e' d',.U v,.I 0,.U 0] 229) λG p=>cH (AA B 0) [.B q,.U r,.U u,.S w,.S x] 0 p/\Cc p t 0 (.map j)/\jE (Instr.mapUpdate 123 (.map j) (.I T) (.P G 0)) p λ_ y=>Hp y t 5 λg'=>Cl 112 #[.Q g',.I T,.U v] y λm' J=> ∃h',m'=.I h'/\R (.T #[.I T,.I 0]) J)))):Cl 204 #[.P t 0,.agg #[.B e,.U E,.U a,.S b,.S c],.L i D g,.U v] h R:=aP [(28,λ_=> .ni (lO [0,1,2,3,4,5,6,7,9,8,10,11,12] .done))] K
def uJ(H:ite (decide (n≥1)) (R (.B (decide (n<=1099511627776))) h) (R (.B false) h)):Cl 319 #[.I n] h R:=aP [] H
def rC{k:Int} (hv:aW h (.C #[.B e,.U E,.U a,.S b,.S c] 29) λd' e'=>aW e' (.C #[.I 0,.B false,.U 0,.U 0,.S (⟨#[]⟩:cF),.S (⟨#[]⟩:cF),.Z,.U 0,.I 0,.U 0] 229) λB h'=>Cl 80 #[.P t 0] h' λe4 y=> ∃C,e4=.B C/\ite (!C) (aQ.ST y (AA B 0) 0 false 0 0 (⟨#[]⟩:cF) (⟨#[]⟩:cF) none 0 0 0 0 0 λz=>aQ.LD z (AA B 0) λk' o' s' w' A' E' R' M' I' V' a1 a5=>R (.T #[.agg #[.I k',.B o',.U s',.U w',.S A',.S E',.L R' M' I',.U V',.I a1,.U a5],.I 6]) z) (aB (λ(a9:Bool) m=>ite a9 (aQ.ST m (AA B 0) 0 false 0 0 (⟨#[]⟩:cF) (⟨#[]⟩:cF) none 0 0 0 0 0 λA=>aQ.LD A (AA B 0) λl' p' t' x' B' F' S' O' J' X' a2 a6=>R (.T #[.agg #[.I l',.B p',.U t',.U x',.S B',.S F',.L S' O' J',.U X',.I a2,.U a6],.I 1]) A) (av.LD m (AA d' 0) λb0 b1 b2 b3 b4=>Cl 161 #[.P t 0,.agg #[.B b0,.U b1,.U b2,.S b3,.S b4]] m λe5 i'=>Vl e5 λb5 G _=> ∃(I:kj)(M:kG),I 0 i'/\∀T H,I T H->ite (decide (T<(G:Int))) (Bd T G/\aH b5 λV=>kU H (V.add (toNat T*1)) λK=> ∃L,Cc H t 0 (.map L)/\∃j,Gs 123 (.map L) (.I K) false H (.Q j)/\aH j λX=> ∃O,aU H (X.add 8)=some (.I O)/\ite (O==0) (aH j λZ=>aO H (Z.add 8) (.I f) λj'=>aH j λa'=>aO j' (a'.add 9) (.U k) λo=>Hp o t 6 λb6=>Cl 112 #[.Q b6,.I K,.U k] o λe6 p=>Vi e6 λ_=>aH j λb'=>aQ.LD p b' λb7 b8 b9 c0 c1 c2 c5 c4 c3 c6 c7 c8=>aW p (.C #[.I 0,.B false,.U 0,.U 0,.S (⟨#[]⟩:cF),.S (⟨#[]⟩:cF),.Z,.U 0,.I 0,.U 0] 229) λl f'=>aQ.ST f' (AA l 0) b7 b8 b9 c0 c1 c2 c5 c4 c3 c6 c7 c8 λq=>aH j λc'=>lW q (c'.add 6) λd1 d0 c9=>Cl 57 #[.L d1 d0 c9] q λe7 g'=> ∃U Q P,e7=.L U Q P/\aO g' (AA l 6) (.L U Q P) λr=>aQ.LD r (AA l 0) λd2 d3 d4 d5 d6 d7 e0 d9 d8 e1 e2 e3=>aQ.ST r (AA B 0) d2 d3 d4 d5 d6 d7 e0 d9 d8 e1 e2 e3 λu=>aQ.LD u (AA B 0) λm' q' u' y' C' G' T' P' K' Z' a3 a7=>R (.T #[.agg #[.I m',.B q',.U u',.U y',.S C',.S G',.L T' P' K',.U Z',.I a3,.U a7],.I 0]) u) ((I (wrap .i64 (T+1)) H/\M (wrap .i64 (T+1)) H<M T H))) (aQ.ST H (AA B 0) 0 false 0 0 (⟨#[]⟩:cF) (⟨#[]⟩:cF) none 0 0 0 0 0 λw=>aQ.LD w (AA B 0) λn' r' v' z' D' H' U' Q' L' a0 a4 a8=>R (.T #[.agg #[.I n',.B r',.U v',.U z',.S D',.S H',.L U' Q' L',.U a0,.I a4,.U a8],.I 4]) w))) (λJ=>Cl 319 #[.I f] y λe8 x=> ∃F,e8=.B F/\ite (!F) (J true x) (J (decide (k>1099511627776)) x)))):Cl 262 #[.P t 0,.agg #[.B e,.U E,.U a,.S b,.S c],.I f,.U k] h R:=aP [(11,.join [(19,sB)]),(21,.loop [(32,sI)])] hv
def sZ (z:Cl 80 #[.P t 0] h λV H=> ∃T,V=.B T/\ite (!T) (R (.T #[.Q none,.I 6]) H) (∃k,Cc H t 0 (.map k)/\∃l,Gs 123 (.map k) (.I num) false H (.Q l)/\ite l.isNone (R (.T #[.Q none,.I 4]) H) (aB (λ(B:Bool) j=>ite B (R (.T #[.Q none,.I 14]) j) (∃w,Cc j t 0 (.map w)/\∃x,Gs 123 (.map w) (.I num) false j (.Q x)/\R (.T #[.Q x,.I 0]) j)) (λJ=> ∃m,Cc H t 0 (.map m)/\∃o,Gs 123 (.map m) (.I num) false H (.Q o)/\aH o λA=> ∃p,aU H (A.add 8)=some (.I p)/\ite (p==0) (J true H) (∃q,Cc H t 0 (.map q)/\∃r,Gs 123 (.map q) (.I num) false H (.Q r)/\aH r λy=> ∃u,aU H (y.add 8)=some (.I u)/\J (u !=f) H))))):Cl 270 #[.P t 0,.I num,.I f] h R:=aP [(17,.join [(20,sB)])] z
def te(q:Hp h t 6 λr=>Cl 163 #[.Q r,.I n] h λV H=>Vi V λ_=> ∃T,Cc H t 0 (.map T)/\∃j,Gs 123 (.map T) (.I n) false H (.Q j)/\∃k,Cc H t 0 (.map k)/\∃l,Gs 123 (.map k) (.I n) false H (.Q l)/\aH j λA=>aO H (A.add 8) (.I 0) λo=>aH l λm=>aO o (m.add 9) (.U 0) λp=>R (.T #[]) p):Cl 125 #[.P t 0,.I n] h R:=aP [(2,λ_=>pN 18)] q
def qG(l:Hp h t 6 λo=>Cl 163 #[.Q o,.I n] h λV H=>Vi V λ_=>Hp H t 5 λm=>Cl 163 #[.Q m,.I n] H λp j=>Vi p λ_=> ∃T,Cc j t 0 (.map T)/\jE (Builtin.delete_ #[123,3] 0 #[.map T,.I n]) j λq k=>q=.T #[]/\R (.T #[]) k):Cl 124 #[.P t 0,.I n] h R:=aP [] l
def uL (o:Cl 270 #[.P t 0,.I num,.I f] h λV H=> ∃p T,V=.T #[.Q p,.I T]/\aB (λl=>R (.I T) l) (λJ=>ite (T==0) (Cl 124 #[.P t 0,.I num] H λq j=>q=.T #[]/\∃k,Cc j t 2 (.I k)/\aO j (AA t 2) (.I (wrap .i64 (k+1))) λm=>J m) (J H))):Cl 266 #[.P t 0,.I num,.I f] h R:=aP [(7,.join [])] o
def pQ(l:Cl 270 #[.P t 0,.I num,.I f] h λV H=> ∃m T,V=.T #[.Q m,.I T]/\aB (λj=>R (.I T) j) (λJ=>ite (T==0) (Cl 125 #[.P t 0,.I num] H λo k=>o=.T #[]/\J k) (J H))):Cl 191 #[.P t 0,.I num,.I f] h R:=aP [(7,.join [])] l
def tf{o:Int} (J:Cl 80 #[.P t 0] h λV m=> ∃x,V=.B x/\ite (!x) (R (.Z) m) (Hp m t 5 λK=>Cl 123 #[.Q K,.U o] m λX F=>Vl X λy p L=> ∃(I:kj)(M:kG),I 0 F/\∀T H,I T H->ite (decide (T<(p:Int))) (Bd T p/\aH y λB=>kU H (B.add (toNat T*1)) λO=>Cl 124 #[.P t 0,.I O] H λZ q=>Z=.T #[]/\∃z,Cc q t 3 (.I z)/\aO q (AA t 3) (.I (wrap .i64 (z+1))) λr=>(I (wrap .i64 (T+1)) r/\M (wrap .i64 (T+1)) r<M T H)) (Hp H t 6 λP=>Cl 123 #[.Q P,.U o] H λa' G=>Vl a' λQ A _=> ∃(l:kj)(w:kG),l 0 G/\∀j k,l j k->ite (decide (j<(A:Int))) (Bd j A/\aH Q λC=>kU k (C.add (toNat j*1)) λU=>Cl 125 #[.P t 0,.I U] k λb' u=>b'=.T #[]/\(l (wrap .i64 (j+1)) u/\w (wrap .i64 (j+1)) u<w j k)) (R (.L y p L) k)))):Cl 87 #[.P t 0,.U o] h R:=aP [(16,.loop [(21,sI)]),(35,.loop [(43,sI)])] J
def th(r:aW h (.C #[.B e,.U E,.U a,.S b,.S c] 29) λB k=>av.LD k (AA B 0) λx y z C F=>Cl 161 #[.P t 0,.agg #[.B x,.U y,.U z,.S C,.S F]] k λV q=>Vl V λo j u=> ∃(I:kj)(M:kG),I 0 q/\∀T H,I T H->ite (decide (T<(j:Int))) (Bd T j/\aH o λA=>kU H (A.add (toNat T*1)) λw=>Cl 124 #[.P t 0,.I w] H λG l=>G=.T #[]/\∃p,Cc l t 4 (.I p)/\aO l (AA t 4) (.I (wrap .i64 (p+1))) λm=>(I (wrap .i64 (T+1)) m/\M (wrap .i64 (T+1)) m<M T H)) (R (.L o j u) H)):Cl 183 #[.P t 0,.agg #[.B e,.U E,.U a,.S b,.S c]] h R:=aP [(8,.loop [(13,sI)])] r
def uM(Q:Cl 81 #[.P t 0] h λz' J=>Vl z' λy' A _=> ∃(I:bZ->Nat->Nat->kj)(M:bZ->Nat->Nat->kG),I none 0 0 0 J/\∀j O o T H,I j O o T H->ite (decide (T<(A:Int))) (Bd T A/\aH y' λC=>kU H (C.add (toNat T*1)) λU=> ∃u,Cc H t 0 (.map u)/\∃w,Gs 123 (.map u) (.I U) false H (.Q w)/\aH w λF=>aQ.LD H F λV X Z a' b' c' f' e' d' g' h' i'=>aW H (.C #[.I 0,.B false,.U 0,.U 0,.S (⟨#[]⟩:cF),.S (⟨#[]⟩:cF),.Z,.U 0,.I 0,.U 0] 229) λB K=>aQ.ST K (AA B 0) V X Z a' b' c' f' e' d' g' h' i' λp=>Hl p B 6 λl' k' j'=>Cl 57 #[.L l' k' j'] p λA' L=> ∃z y x,A'=.L z y x/\aO L (AA B 6) (.L z y x) λq=>aQ.LD q (AA B 0) λm' n' o' p' q' r' u' t' s' v' w' x'=>aW q (.C #[.I m',.B n',.U o',.U p',.S q',.S r',.L u' t' s',.U v',.I w',.U x'] 229) λG P=>jE (Builtin.append_ #[365,365] 365 #[.L j O o,.L (Sa G 0) 1 1]) P λB' r=> ∃m l k,B'=.L m l k/\(I m l k (wrap .i64 (T+1)) r/\M m l k (wrap .i64 (T+1)) r<M j O o T H)) (R (.L j O o) H)):Cl 265 #[.P t 0] h R:=aP [(8,.loop [(3,sS),(10,sI)])] Q

end
section
open Go.jD
namespace gi
open ju ck
variable {h h':aA} {t:Nat} {X:Ft}
structure Cp where
 num:Nat
 e:Ev
 d:cQ
 dB:Nat
 ses:Int
 dl:Nat
structure CV where
 num:Nat
 b:Nat
 e:Ev
 v:BV
 dB:Nat
 ses:Int
 dl:Nat
def CV.abs(x:CV):Cp:=⟨x.num,x.e,x.v.b,x.dB,x.ses,x.dl⟩
abbrev CV.at(h:aA)(b:Nat)(x:CV):Prop:=aQ.at h b (x.num:Int) x.e.jY x.e.node x.e.fK x.e.host x.e.jl x.v.p x.v.b.length x.v.c (x.dB:Int) x.ses (x.dl:Int)
structure CF where
 L:List Cp
 next:Nat
 fG:Nat
 over:Nat
 gone:Nat
 E1:List E
 E2:List E
abbrev iC(b:Int):Value:=.int .i64 b
def Yi:Hn Tryz.prog 3 iC:=⟨λc b h=>cZ,λe c h=>cZ,by
 have H:Tryz.prog.underlying 3=some (.int .i64):=cZ
 exact⟨_,H,λc b=> .inr rfl⟩,λc=>by simp[Instr.sameBits]⟩
def ps:qK Tryz.prog 123 iC (.Q none):=qK.of 3 178 cZ Yi cZ
abbrev CV.pair(x:CV):Int×Value:=((x.num:Int),.pointer (some ⟨x.b,0,none⟩))
structure Cm (h:aA) (t:Nat) (X:Ft) (s:CF) (m:Nat) (a:List CV) (A:Nat) (g:gF) (f:Nat) (i:gF) (l:Nat->Option Nat):Prop where
 cN:h[t]? =some (.cells #[.map (some m),.int .i64 (s.next:Int),.int .i64 (s.fG:Int),.int .i64 (s.over:Int),.int .i64 (s.gone:Int),.pointer (some ⟨A,0,none⟩),.pointer (some ⟨f,0,none⟩)] 127 (0,0))
 map:kz h m iC (a.map CV.pair)
 GQ: ∀x∈a,x.at h x.b
 abs:a.map CV.abs=s.L
 Gt: ∀x∈a,x.v.ok h X.D
 LV:Al h A g s.E1
 LW:Al h f i s.E2
 l0:l t=some 0
 l1:l m=some 1
 l2: ∀c,g c->l c=some 2
 l3: ∀c,i c->l c=some 3
 l4: ∀x∈a,l x.b=some (4+x.num)
 mm: ∀c,X.M c↔l c≠none
 dd: ∀c,X.D c->l c=none/\c<h.size
 JV: ∀c,l c≠none->c<h.size
 so:(a.map CV.num).Pairwise (· < ·)
def Ct(h:aA)(t:Nat)(X:Ft)(s:CF):Prop:= ∃m a A g f i l,Cm h t X s m a A g f i l
variable {s s' : CF} {m A f : Nat} {a : List CV} {g i n j : Nat → Prop} {l : Nat → Option Nat}
structure Kept (h':aA) (t:Nat) (X:Ft) (s:CF) (m:Nat) (a:List CV) (A:Nat) (g:gF) (f:Nat) (i:gF) (k:Nat):Prop where
 cN:k≠0->h'[t]? =some (.cells #[.map (some m),.int .i64 (s.next:Int),.int .i64 (s.fG:Int),.int .i64 (s.over:Int),.int .i64 (s.gone:Int),.pointer (some ⟨A,0,none⟩),.pointer (some ⟨f,0,none⟩)] 127 (0,0))
 map:k≠1->kz h' m iC (a.map CV.pair)
 LV:k≠2->Al h' A g s.E1
 LW:k≠3->Al h' f i s.E2
 GQ: ∀x∈a,k≠4+x.num->x.at h' x.b
 Gt: ∀x∈a,x.v.ok h' X.D
theorem Cm.BJ{Q:gF}{k:Nat}(H:Cm h t X s m a A g f i l)(F:Fr Q h h')(r: ∀c,Q c->c<h.size->l c=some k):Kept h' t X s m a A g f i k:=by have o: ∀{c J:Nat},c<h.size->l c=some J->k≠J->¬Q c:=λd u b q=>b (by grind);refine⟨λb=>F.get H.cN (o (aD H.cN) H.l0 b),λb=>H.map.frame F (o H.map.lt H.l1 b),λb=> ?_,λb=> ?_,λx e b=>F.get (H.GQ x e) (o (aD (H.GQ x e)) (H.l4 x e) b),λx e=> ?_⟩;exact H.LV.frame F (λc d=>o (H.LV.lt d) (H.l2 c d) b);exact H.LW.frame F (λc d=>o (H.LW.lt d) (H.l3 c d) b);refine(H.Gt x e).frame F (λc d q=> ?_);have:=H.dd c d;have p:=r c q this.2;rw[this.1]at p;cases p
theorem Cm.frame{Q:gF}(H:Cm h t X s m a A g f i l)(F:Fr Q h h')(k: ∀y,X.M y\/X.D y->¬Q y):Cm h' t X s m a A g f i l:=by
 have d: ∀{c J:Nat},l c=some J->¬Q c:=λo=>k _ (.inl ((H.mm _).2 (by grind)));exact⟨F.get H.cN (d H.l0),H.map.frame F (d H.l1),λx e=>F.get (H.GQ x e) (d (H.l4 x e)),H.abs,λx e=>(H.Gt x e).frame F (λc b=>k c (.inr b)),
  H.LV.frame F (λc b=>d (H.l2 c b)),H.LW.frame F (λc b=>d (H.l3 c b)),H.l0,H.l1,H.l2,H.l3,H.l4,H.mm,λc b=>⟨(H.dd c b).1,bX (H.dd c b).2 F.1⟩,λc b=>bX (H.JV c b) F.1,H.so⟩
def Cm.on(H:Cm h t X s m a A g f i l)(F:Fr No h h'):Cm h' t X s m a A g f i l:=H.frame F bC
def Ct.frame{Q:gF}(H:Ct h t X s)(F:Fr Q h h')(b: ∀y,X.M y\/X.D y->¬Q y):Ct h' t X s:=by have⟨m,a,A,g,f,i,l,H⟩:=H;exact⟨m,a,A,g,f,i,l,H.frame F b⟩
def Ct.on(H:Ct h t X s)(F:Fr No h h'):Ct h' t X s:=H.frame F bC
def Ct.lt(H:Ct h t X s)(y:Nat)(hy:X.M y\/X.D y):y<h.size:=by have⟨m,a,A,g,f,i,l,H⟩:=H;rcases hy with hy|hy;exact H.JV y ((H.mm y).1 hy);exact(H.dd y hy).2
theorem Cm.step{Q:gF}{k:Nat}(H:Cm h t X s m a A g f i l)(F:Fr Q h h')(e: ∀c,Q c->c<h.size->l c=some k):bp X h X h':=
 bp.zJ (F.mono λc d b=>(H.mm c).2 (by grind))
def Cm.field(H:Cm h t X s m a A g f i l)(q:s'.L=s.L)(o:s'.E1=s.E1)(p:s'.E2=s.E2)(r:h'[t]? =some (.C #[.map (some m),.I (s'.next:Int),.I (s'.fG:Int),.I (s'.over:Int),.I (s'.gone:Int),.P A 0,.P f 0] 127 (0,0)))(k:h'.size=h.size)(v: ∀x,x≠t->h'[x]? =h[x]?):Cm h' t X s' m a A g f i l/\bp X h X h':=by
 have F:Fr (λc=>c=t) h h':=⟨ae,λc _ u=>v c u⟩;have d: ∀c,c=t->c<h.size->l c=some 0:=λc e _=>by rw[e];exact H.l0
 have K:=H.BJ F d;refine⟨⟨r,K.map ae,λx w=>K.GQ x w ae,H.abs.trans q.symm,K.Gt,by rw[o];exact K.LV ae,by rw[p];exact K.LW ae,H.l0,H.l1,H.l2,H.l3,H.l4,H.mm,λc b=>by rw[k];exact H.dd c b,λc b=>by rw[k];exact H.JV c b,H.so⟩,H.step F d⟩
def Sb(l:Nat->Option Nat)(S:gF)[DecidablePred S](k:Nat):Nat->Option Nat:=λc=>if S c then some k else l c
def Cm.Jq{w:List E}(H:Cm h t X s m a A g f i l)(v:Al h' f j w)(r: ∀c,j c->i c\/h.size<=c)(F:Fr i h h')(C:s'.L=s.L)(y:s'.E1=s.E1)(B:s'.E2=w)(o:s'.next=s.next/\s'.fG=s.fG/\s'.over=s.over/\s'.gone=s.gone):
  ∃q L,Cm h' t q s' m a A g f j L/\bp X h q h'/\∀c,q.M c->X.M c\/j c:=by
 classical
 have G: ∀c,i c->c<h.size->l c=some 3:=λc b _=>H.l3 c b;have K:=H.BJ F G;have z:=F.1;let L:=Sb l j 3
 have p: ∀{c J:Nat},l c=some J->J≠3->L c=some J:=fun {c J} k D=>by show(if j c then some 3 else l c)=some J;rw[af];exact k;intro b;rcases r c b with h3|h3;rw[H.l3 c h3]at k;exact D (bF k).symm;have:=H.JV c (by rw[k];simp);omega
 have u: ∀c,L c≠none->l c≠none\/j c:=λc b=>by by_cases d:j c;exact .inr d;refine .inl ?_;have e:L c=l c:=af d;rwa[e]at b
 have I: ∀c,l c≠none->L c≠none:=λc b=>by by_cases d:j c;have e:L c=some 3:=ag d;rw[e];simp;have e:L c=l c:=af d;rwa[e]
 have S:bp X h ⟨λc=>L c≠none,X.D⟩ h':=by refine⟨F.mono (λc b d=>(H.mm c).2 (by rw[H.l3 c d];simp)),λc b=> ?_,λc b=> .inl b,λc b=>b⟩;rcases u c b with h3|h3;exact .inl ((H.mm c).2 h3);rcases r c h3 with h4|h4;exact .inl ((H.mm c).2 (by rw[H.l3 c h4];simp));exact .inr h4
 refine⟨⟨λc=>L c≠none,X.D⟩,L,⟨?_,K.map ae,λx d=>K.GQ x d ae,H.abs.trans C.symm,K.Gt,by rw[y];exact K.LV ae,by rw[B];exact v,p H.l0 ae,p H.l1 ae,λc b=>p (H.l2 c b) ae,λc b=>ag b,λx d=>p (H.l4 x d) ae,λc=>eV,λc b=> ?_,λc b=> ?_,H.so⟩,S,λc b=>(u c b).imp (λh=>(H.mm c).2 h) id⟩;rw[o.1,o.2.1,o.2.2.1,o.2.2.2];exact K.cN ae;have:=H.dd c b;refine⟨?_,ae⟩;show(if j c then some 3 else l c)=none;rw[af];exact this.1;intro d;rcases r c d with h3|h3;rw[H.l3 c h3]at this;cases this.1;omega;rcases u c b with h3|h3;have:=H.JV c h3;omega;exact v.lt h3
def Cm.Jr{w:List E}(H:Cm h t X s m a A g f i l)(v:Al h' A n w)(r: ∀c,n c->g c\/h.size<=c)(F:Fr g h h')(C:s'.L=s.L)(y:s'.E1=w)(B:s'.E2=s.E2)(o:s'.next=s.next/\s'.fG=s.fG/\s'.over=s.over/\s'.gone=s.gone):
  ∃q L,Cm h' t q s' m a A n f i L/\bp X h q h'/\∀c,q.M c->X.M c\/n c:=by
 classical
 have G: ∀c,g c->c<h.size->l c=some 2:=λc b _=>H.l2 c b;have K:=H.BJ F G;have z:=F.1;let L:=Sb l n 2
 have p: ∀{c J:Nat},l c=some J->J≠2->L c=some J:=fun {c J} k D=>by show(if n c then some 2 else l c)=some J;rw[af];exact k;intro b;rcases r c b with h3|h3;rw[H.l2 c h3]at k;exact D (bF k).symm;have:=H.JV c (by rw[k];simp);omega
 have u: ∀c,L c≠none->l c≠none\/n c:=λc b=>by by_cases d:n c;exact .inr d;refine .inl ?_;have e:L c=l c:=af d;rwa[e]at b
 have S:bp X h ⟨λc=>L c≠none,X.D⟩ h':=by refine⟨F.mono (λc b d=>(H.mm c).2 (by rw[H.l2 c d];simp)),λc b=> ?_,λc b=> .inl b,λc b=>b⟩;rcases u c b with h3|h3;exact .inl ((H.mm c).2 h3);rcases r c h3 with h4|h4;exact .inl ((H.mm c).2 (by rw[H.l2 c h4];simp));exact .inr h4
 refine⟨⟨λc=>L c≠none,X.D⟩,L,⟨?_,K.map ae,λx d=>K.GQ x d ae,H.abs.trans C.symm,K.Gt,by rw[y];exact v,by rw[B];exact K.LW ae,p H.l0 ae,p H.l1 ae,λc b=>ag b,λc b=>p (H.l3 c b) ae,λx d=>p (H.l4 x d) ae,λc=>eV,λc b=> ?_,λc b=> ?_,H.so⟩,S,λc b=>(u c b).imp (λh=>(H.mm c).2 h) id⟩;rw[o.1,o.2.1,o.2.2.1,o.2.2.2];exact K.cN ae;have:=H.dd c b;refine⟨?_,ae⟩;show(if n c then some 2 else l c)=none;rw[af];exact this.1;intro d;rcases r c d with h3|h3;rw[H.l2 c h3]at this;cases this.1;omega;rcases u c b with h3|h3;have:=H.JV c h3;omega;exact v.lt h3
def Cm.del{k:Int}(H:Cm h t X s m a A g f i l)(M:kz h' m iC (AY (a.map CV.pair) k))(q:h'.size=h.size)(w: ∀c,c≠m->h'[c]? =h[c]?)(v:s'.L=s.L.filter (λx=> !decide ((x.num:Int)=k)))(r:s'.E1=s.E1)(u:s'.E2=s.E2)(d:s'.next=s.next/\s'.fG=s.fG/\s'.over=s.over/\s'.gone=s.gone):
  Cm h' t X s' m (a.filter (λx=> !decide ((x.num:Int)=k))) A g f i l/\bp X h X h':=by
 have F:Fr (λc=>c=m) h h':=⟨ae,λc _ d=>w c d⟩;have p: ∀c,c=m->c<h.size->l c=some 1:=λc e _=>by rw[e];exact H.l1
 have K:=H.BJ F p;have S: ∀x∈a.filter (λx=> !decide ((x.num:Int)=k)),x∈a:=λx b=>(bD.1 b).1;refine⟨⟨?_,?_,λx b=>K.GQ x (S x b) ae,?_,λx b=>K.Gt x (S x b),by rw[r];exact K.LV ae,by rw[u];exact K.LW ae,H.l0,H.l1,H.l2,H.l3,λx b=>H.l4 x (S x b),H.mm,λc o=>by rw[q];exact H.dd c o,λc o=>by rw[q];exact H.JV c o,H.so.sublist (da.map _)⟩,H.step F p⟩;rw[d.1,d.2.1,d.2.2.1,d.2.2.2];exact K.cN ae;unfold AY at M;rw[dT]at M;exact M;rw[v,<-H.abs,dT];rfl
def Cm.change{x y:CV}(H:Cm h t X s m a A g f i l)(k:x∈a)(o:y.b=x.b)(v:y.num=x.num)(O:y.v=x.v)(P:y.at h' x.b)(B:h'.size=h.size)(J: ∀c,c≠x.b->h'[c]? =h[c]?)(E:s'.L=s.L.map (λz=>if z.num=x.num then y.abs else z))(C:s'.E1=s.E1)(D:s'.E2=s.E2)(d:s'.next=s.next/\s'.fG=s.fG/\s'.over=s.over/\s'.gone=s.gone):
  Cm h' t X s' m (a.map (λz=>if z.num=x.num then y else z)) A g f i l/\bp X h X h':=by
 have F:Fr (λc=>c=x.b) h h':=⟨ae,λc _ d=>J c d⟩;have w: ∀c,c=x.b->c<h.size->l c=some (4+x.num):=λc e _=>by rw[e];exact H.l4 x k
 have K:=H.BJ F w;have M: ∀z∈a.map (λz=>if z.num=x.num then y else z),(z=y)\/(z∈a/\z.num≠x.num):=λz b=>by obtain⟨u,L,rfl⟩:=bh.1 b;by_cases e:u.num=x.num;rw[ag e];exact .inl rfl;rw[af e];exact .inr ⟨L,e⟩
 have S:(a.map (λz=>if z.num=x.num then y else z)).map CV.pair=a.map CV.pair:=by
  rw[dR];refine fh λz b=> ?_;show CV.pair (if z.num=x.num then y else z)=z.pair;by_cases e:z.num=x.num;rw[ag e];have:z=x:=by obtain⟨Q,q⟩:=bA b;obtain⟨R,r⟩:=bA k;have I:(a.map CV.num).Nodup:=H.so.imp (λh=>Nat.ne_of_lt h);have G:=(aJ.1 q).1;have:=(eE (l:=a.map CV.num) (i:=Q) (j:=R) (dH G) I).1 (by rw[aN,aN,q,r];simp[e]);subst this;rw[q]at r;exact bF r
  subst this;unfold CV.pair;rw[v,o];rw[af e]
 refine⟨⟨?_,?_,λz b=> ?_,?_,λz b=> ?_,by rw[C];exact K.LV ae,by rw[D];exact K.LW ae,H.l0,H.l1,H.l2,H.l3,λz b=> ?_,H.mm,λc p=>by rw[B];exact H.dd c p,λc p=>by rw[B];exact H.JV c p,?_⟩,H.step F w⟩;rw[d.1,d.2.1,d.2.2.1,d.2.2.2];exact K.cN ae;rw[S];exact K.map ae;rcases M z b with rfl|⟨b,e⟩;rw[o];exact P;exact K.GQ z b ae;rw[E,<-H.abs,dR,dR];refine fh λz _=> ?_;show CV.abs (if z.num=x.num then y else z)=if z.num=x.num then y.abs else z.abs;split<;>rfl;rcases M z b with rfl|⟨b,_⟩;rw[O];exact K.Gt x k;exact K.Gt z b;rcases M z b with rfl|⟨b,_⟩;rw[o,v];exact H.l4 x k;exact H.l4 z b;have:(a.map (λz=>if z.num=x.num then y else z)).map CV.num=a.map CV.num:=by rw[dR];refine fh λz _=> ?_;show CV.num (if z.num=x.num then y else z)=z.num;split;rename_i e;rw[v,e];rfl
 rw[this];exact H.so
def Cm.add{y:CV}{d k:aA}(H:Cm h t X s m a A g f i l)(u:Fr No h d)(E:y.at d y.b)(f':h.size<=y.b)(U:Row d y.v.p (bc y.v.b))(T:y.v.b.length<=y.v.c)(v: ∀c,aL y.v.p c->h.size<=c/\c≠y.b/\c<d.size)(C: ∀x∈a,x.num<y.num)(M:kz k m iC (Kv (a.map CV.pair) (y.num:Int) (.P y.b 0)))(hs:k.size=d.size)(ho: ∀c,c≠m->k[c]? =d[c]?)(R:s'.L=s.L++ [y.abs])(O:s'.E1=s.E1)(P:s'.E2=s.E2)(o:s'.next=s.next/\s'.fG=s.fG/\s'.over=s.over/\s'.gone=s.gone):
  ∃w L,Cm k t w s' m (a++ [y]) A g f i L/\bp X h w k:=by
 classical
 have z1:=u.1;have G:=H.on u;have F:Fr (λc=>c=m) d k:=⟨ae,λc _ o=>ho c o⟩;have hq: ∀c,c=m->c<d.size->l c=some 1:=λc e _=>by rw[e];exact H.l1
 have K:=G.BJ F hq;have g':=aD E;let L:=Sb l (λc=>c=y.b) (4+y.num)
 have q: ∀c,c≠y.b->L c=l c:=λc b=>af b;have b':L y.b=some (4+y.num):=ag rfl;have d': ∀{c:Nat},l c≠none->c≠y.b:=fun {c} b e=>by have:=H.JV c b;omega
 have p: ∀{c J:Nat},l c=some J->L c=some J:=fun {c J} B=>by rw[q c (d' (by rw[B];simp))];exact B
 let D:=λc=>X.D c\/(y.v.b≠ []/\aL y.v.p c)
 have c':y.b≠m:=λe=>by have:=H.map.lt;omega
 have I: ∀c,D c->L c=none/\c<k.size:=λc b=>by
  rcases b with b|⟨_,b⟩;have:=H.dd c b;rw[q c ae];exact⟨this.1,ae⟩;have:=v c b;rw[q c this.2.1];refine⟨?_,ae⟩;cases e:l c with
  |none=>rfl
  |some J=>have:=H.JV c (by rw[e];simp);omega
 refine⟨⟨λc=>L c≠none,D⟩,L,⟨?_,?_,λx hx=> ?_,?_,λx hx=> ?_,by rw[O];exact K.LV ae,by rw[P];exact K.LW ae,p H.l0,p H.l1,λc b=>p (H.l2 c b),λc b=>p (H.l3 c b),λx hx=> ?_,λc=>eV,I,λc b=> ?_,?_⟩,?_⟩;rw[o.1,o.2.1,o.2.2.1,o.2.2.2];exact K.cN ae;refine M.perm ?_;unfold Kv;rw[xa (λe V=>by obtain⟨x,hx,rfl⟩:=bh.1 V;have:=C x hx;show¬((x.num:Int)=(y.num:Int));omega),aS];exact(List.perm_append_comm (l₁:= [CV.pair y]) (l₂:=a.map CV.pair));rcases bP.1 hx with hx|hx;exact K.GQ x hx ae;obtain rfl:=bW.1 hx;exact F.get E c';rw[R,<-H.abs,aS];rfl;rcases bP.1 hx with hx|hx;exact(K.Gt x hx).mono (λc b=> .inl b);obtain rfl:=bW.1 hx;refine⟨U.frame F (λr e Z=> ?_),λa' c b=> .inr ⟨a',b⟩,T⟩;have d:=(v r.block ⟨r,e,rfl⟩).1;have k:=H.map.lt;have h3:r.block=m:=Z;omega;rcases bP.1 hx with hx|hx;exact p (H.l4 x hx);obtain rfl:=bW.1 hx;exact b';by_cases e:c=y.b;subst e;omega;rw[q c e]at b;have:=H.JV c b;omega;rw[aS,List.pairwise_append];refine⟨H.so,bt,λr S e' z=> ?_⟩;obtain⟨x,hx,rfl⟩:=bh.1 S;simp at z;subst z;exact C x hx;refine⟨?_,λc b=> ?_,λc b=> ?_,λc b=> .inl b⟩;have Q:Fr (λc=>c=m) h k:=Fr.no u F;exact Q.mono (λc _ e=>(H.mm c).2 (by rw[e,H.l1];simp));by_cases e:c=y.b;exact .inr ae;have b:L c≠none:=b;rw[q c e]at b;exact .inl ((H.mm c).2 b);rcases b with b|⟨_,b⟩;exact .inl b;exact .inr (v c b).1
end gi
end
end Go.Proofs.YtelbcloplcdchaaGreatDoor
namespace Go.Proofs
open Go.Den
open IntKind (wrap)
open Int (toNat)
section
open Go.Shelf
def Tryz.PD:Go.Shelf.Ren:=⟨fun|5=>118|8=>171|7=>172|19=>243|20=>231|10=>244|11=>245|12=>246|13=>247|14=>248|15=>249|16=>250|17=>251|18=>252|30=>311|31=>307|32=>308|33=>312|34=>313|35=>314|40=>339|n=>n,fun|23=>175|25=>3|3=>3|32=>181|22=>175|0=>0|44=>336|46=>27|4=>4|36=>340|35=>339|41=>220|5=>5|9=>9|53=>411|57=>414|63=>443|64=>444|n=>n,fun|n=>n⟩
def Tryz.U7:Go.Proofs.SlLaysM.n5 Tryz.prog Tryz.PD:=by constructor;kernel_rfl;exact⟨Tryz.f118.name,cW,cZ⟩;exact⟨Tryz.f172.name,cW,cZ⟩;kernel_rfl;exact⟨Tryz.f244.name,cW,cZ⟩;exact⟨Tryz.f245.name,cW,cZ⟩;exact⟨Tryz.f246.name,cW,cZ⟩;exact⟨Tryz.f247.name,cW,cZ⟩;exact⟨Tryz.f248.name,cW,cZ⟩;exact⟨Tryz.f249.name,cW,cZ⟩;exact⟨Tryz.f250.name,cW,cZ⟩;exact⟨Tryz.f251.name,cW,cZ⟩;exact⟨Tryz.f252.name,cW,cZ⟩;kernel_rfl;kernel_rfl;exact⟨Tryz.f311.name,cW,cZ⟩;kernel_rfl;kernel_rfl;exact⟨Tryz.f312.name,cW,cZ⟩;exact⟨Tryz.f313.name,cW,cZ⟩;exact⟨Tryz.f314.name,cW,cZ⟩;exact⟨Tryz.f339.name,cW,cZ⟩;all_goals first|kernel_rfl|(intro _;kernel_rfl)

end
end Go.Proofs
namespace Go.Proofs.YtelbcloplcdchaaGreatDoor
open Go.Den
open IntKind (wrap)
open Int (toNat)
section
open Go.Sort
namespace YJ
variable {h:aA} {R:fp} {p:bZ} {n c:Nat} {x:List Int}
abbrev iv(X:Int):Value:=.int .i64 X
theorem Js(o:Own h p n c 1 (x.map iv))(G:n=x.length)(M:x.Nodup)(B:n<=60000)(A: ∀f (z:List Int),Own f p n c 1 (z.map iv)->z.Perm x->z.Pairwise (· < ·)->Fr (aL p) h f->R (.T #[]) f):
  Cl 118 #[.L p n c] h R:=by
 subst G;intro w q;cases o with
 |nil m F i u=>obtain rfl:=List.eq_nil_of_length_eq_zero F;refine(AnyM.slices_Sort_int_none Tryz.U7 p c w).mono ?_;rintro e U ⟨rfl,rfl⟩;exact⟨_,rfl,A _ [] (by rw[q];exact .nil m rfl i rfl) (.refl _) .nil (by rw[q];exact Fr.refl _ _),fQ.refl _⟩
 |row b O C t m d g i r u=>
  subst m;subst q;have s: ∀(z:List Int)(j:Nat),j<z.length->z.toArray[j]! =z.getD j 0:=λz j H=>by simp[getElem!_pos,H]
  refine(AnyM.slices_Sort_int Tryz.U7 b O c x w (λj H=> ?_) (aD d) ae).mono ?_;have H:j<x.length:=by simpa using H
  refine⟨?_,by rw[wV];exact nj d⟩;rw[mT,lM d,s x j H];exact u j _ (by grind);rintro e U ⟨rfl,k,E,rfl⟩;have P:=List.mergeSort_perm x λX y=>decide (X<=y);have S:(x.mergeSort λX y=>decide (X<=y)).Pairwise (· < ·):=by have Q:=List.pairwise_mergeSort (le:=λ(X y:Int)=>decide (X<=y)) (λa b c g r=>by simp at g r⊢;omega) (λa b=>by simp;omega) x;have T:(x.mergeSort λX y=>decide (X<=y)).Nodup:=P.nodup_iff.2 M;exact(Q.and T).imp fun {a b} h=>by grind
  generalize (x.mergeSort λX y=>decide (X<=y))=z at P S⊢;have L:z.length=x.length:=P.length_eq;have J: ∀X,X<w.heap.size->X≠b->(w.heap.modify b (onCells (putCells (Value.int .i64) O z.toArray))++E)[X]? =w.heap[X]? :=λX D V=>by grind
  have I:(w.heap.modify b (onCells (putCells (Value.int .i64) O z.toArray))++E)[b]? =some (.C (putCells (Value.int .i64) O z.toArray C) t (0,0)):=by rw[dU (dH (aD d)),dD,ag rfl,d];rfl
  refine⟨_,rfl,A _ z (.row b O _ t rfl I g (by unfold putCells;rw[Array.size_mapIdx];exact i) (by simp[L]) λj v H=> ?_) P S ?_,⟨rfl,rfl,rfl⟩⟩;rw[aN]at H;have l:j<z.length:=by grind
  rw[au l]at H;obtain rfl:=bF H;unfold putCells;have K:O+j<C.size:=ae
  rw[Array.getElem?_mapIdx,Array.getElem?_eq_getElem K,eu,ag ⟨ae,by simp;omega⟩,show O+j - O=j by omega,s z j l,bx,au l];rfl;refine⟨bt,λX D B=>J X D (λe=>B ⟨_,rfl,e.symm⟩)⟩

end YJ
end
section
open Go.jD
namespace gi
open ju ck
variable {h H:aA} {R:fp} {t:Nat} {X:Ft} {s:CF} {m A d:Nat} {a:List CV} {S b:Nat→Prop} {l:Nat→Option Nat} {p:bZ} {n c:Nat}
def Y1:Tryz.prog.underlying 175=some (.slice 3):=cZ
def gh(e:Cm h t X s m a A S d b l)(g:R (.B true) h):Cl 80 #[.P t 0] h R:=sW ⟨_,ai e.cN,g⟩
def mS(a:List CV):List Int:=a.map (λx=>(x.num:Int))
def DM(e:Cm h t X s m a A S d b l):(mS a).Pairwise (· < ·):=by have:=e.so;rw[dM]at this;unfold mS;rw[dM];exact this.imp (λh=>ae)
theorem px(o:Cm h t X s m a A S d b l)(hl:a.length<=60000)(hk: ∀H P z,Own H P a.length z 1 ((mS a).map iC)->(∀y,aL P y->h.size<=y)->Fr No h H->R (.L P a.length z) H):
  Cl 81 #[.P t 0] h R:=by
 refine pP (gh o ⟨_,rfl,aB.of λe' hJ=> ?_⟩);rw[ag rfl];refine⟨_,ai o.cN,El ps o.map λk h1 e1 I B=>⟨_,rfl,?_⟩⟩;refine⟨λr O u g=> ∃D:List (Int×Value),O=D.length/\Own g r O u 1 ((D.map (·.1)).map iC)/\(∀y,aL r y->h.size<=y/\y≠k)/\Iter g k m iC (a.map CV.pair) D/\Fr No h g,λ_ O _ _=>a.length - O,
  ⟨[],rfl,.nil rfl rfl rfl rfl,(λy ⟨j,e,_⟩=>by cases e),I,B⟩,?_⟩
 rintro r O u g ⟨D,rfl,U,q,w,K⟩;have a':=w.le;rw[aw]at a';refine Hw w (λL=> .inl ⟨rfl,?_⟩) (λj v G hm h' I s1 o1=> .inr ⟨_,_,rfl,?_⟩);subst hJ;have M:=by have:=L.map (·.1);rw[dR]at this;exact this
 have Z:=DM o;have nd:=M.nodup_iff.2 (Z.imp (λh=>ae));have b':D.length=a.length:=by rw[L.length_eq,aw]
 refine YJ.Js U bt nd ae λh3 zs T p3 s3 F=>⟨rfl,?_⟩;have:=List.Perm.eq_of_pairwise (λj f' _ _ h1 h2=>ae) s3 Z (p3.trans M);subst this;rw[b']at T⊢;exact hk h3 r u T (λy i=>(q y i).1) (K.fresh F (λy i=>(q y i).1));refine Ep I ⟨_,_,rfl,_,rfl,cg ?_⟩;have F:Fr No G (G.push (.C #[.I j] 3)):=Fr.push _ _;have V:Row (G.push (.C #[.I j] 3)) (Sa G.size 0) [iC j]:=jj;have z3:(G.push (.C #[.I j] 3)).size=G.size+1:=cI _;generalize G.push (.C #[.I j] 3)=g3 at F V z3⊢;have J:Fr (λy=>y=k) g G:=⟨ae,λy _ hn=>o1 y hn⟩;have d':=(U.frame J (λy i e=>(q y i).2 e)).frame F bC;have zf:=B.1;have F1:=K.fresh J (λy e=>ae);have F3:=F1.tt F;have i':k<G.size:=by have⟨_,_,_,_,_,_,hr,_⟩:=I;exact aD hr
 refine dI tI Y1 d' V rfl (λv Q=>by simp at Q;subst Q;rfl) ae ae λp4 c4 g4 o4 _ E k4=>⟨_,_,_,rfl,?_⟩;have c': ∀y,aL p4 y->h.size<=y/\y≠k:=by grind
 refine⟨⟨D++ [(j,v)],bt,?_,c',?_,F3.fresh E (λy i=>(q y i).1)⟩,?_⟩;grind;have g':=o.map.lt;exact(I.frame F id id).frame E (λi=>(q k i).2 rfl) (λi=>by grind);have:=I.le;rw[aq,aw,fk]at this;show a.length - (D.length+1)<a.length - D.length;omega
def look(e:Cm h t X s m a A S d b l){x:CV}(g:x∈a):xU Tryz.prog 123 (.map (some m)) (.I (x.num:Int)) false h (.P x.b 0):=by have:=ND ps e.map (x.num);rw[((Ht e.map.nodup).2 (bh.2 ⟨x,g,rfl⟩))]at this;exact this
theorem Uf(g:Cm h t X s m a A S d b l){n:Int}(j: ∀x∈a,(x.num:Int)≠n):xU Tryz.prog 123 (.map (some m)) (.I n) false h (.Q none):=by have:=ND ps g.map n;have e:yh (a.map CV.pair) n=none:=Hr.2 (λe i=>by grind);rw[e]at this;exact this
structure Env (h:aA) (t:Nat) (m:Nat) (a:List CV) (f C:Nat) (x:Ev):Prop where
 b0:h[f]? =some (.cells #[.pointer (some ⟨t,0,none⟩)] 58 (0,0))
 b1:Ev.at h C x
 cm: ∃X s A S d b l,Cm h t X s m a A S d b l
variable {f C : Nat} {x : Ev}
def Sc(V:Env h t m a f C x){y:CV}(i:y∈a)(j:R (.B (!decide (y.e=x))) h):Cl 227 #[.I (y.num:Int),.P f 0,.P C 0] h R:=by have⟨X,s,A,S,d,b,l,g⟩:=V.cm;have e:=g.GQ y i;refine sY ⟨_,ai V.b0,ar.2 ⟨_,ai g.cN,_,look g i,ar.2 ⟨_,ai e,_,ai e,_,ai e,_,ai e,_,ai e,(av.ld V.b1 ⟨_,zQ rfl rfl,j⟩)⟩⟩⟩
def mv(a:List CV)(x:Ev)(n:Int):Bool:=a.any (λy=>decide ((y.num:Int)=n) && decide (y.e=x))
theorem BO(v:(mS a).Pairwise (· < ·)){y:CV}(r:y∈a):mv a x (y.num:Int)=decide (y.e=x):=by
 unfold mv;by_cases e:y.e=x;grind;rw[aT e,List.any_eq_false];intro z u;simp only[aZ,bn,not_and];intro o;have:z=y:=by have⟨i,g⟩:=bA u;have⟨j,k⟩:=bA r;have q:(mS a).Nodup:=v.imp (λh=>ae);have:=(eE (j:=j) (by simpa[mS]using ((aJ.1 g).1)) q).1 (by unfold mS;rw[aN,aN,g,k];simp[o]);subst this;rw[g]at k;exact bF k
 rw[this];exact e
theorem VW{q:List Int}(V:Env h t m a f C x)(o:Own h p n c 1 (q.map iC))(G:n=q.length)(T:n<=60000)(I: ∀k∈q,∃y∈a,k=(y.num:Int))(J: ∀i,i<n->(∀j,j<i->∀k,q[j]? =some k->mv a x k=true)->(∀k,q[i]? =some k->mv a x k=false)->R (.I (i:Int)) h)(L:(∀k∈q,mv a x k=true)->R (.I (-1)) h):
  Cl 303 #[.L p n c,.func (.func 227) #[] #[.P f 0,.P C 0]] h R:=by
 subst G;have M:(mS a).Pairwise (· < ·):=by obtain⟨X,s,A,S,d,b,l,E⟩:=V.cm;exact DM E
 refine lH ?_;refine⟨λu g=>g=h/\∃i:Nat,u=(i:Int)/\i<=q.length/\∀j,j<i->∀k,q[j]? =some k->mv a x k=true,λu _=>q.length - u.toNat,⟨rfl,0,rfl,bK _,λj z=>ae⟩,?_⟩;rintro _ g ⟨rfl,i,rfl,U,w⟩;by_cases B:i<q.length;rw[gH];have⟨k,r⟩:=lP B;obtain⟨y,D,rfl⟩:=I k (aG r);obtain⟨O,P,rfl⟩:=o.addr ae;have F:=o.cell (j:=i) (v:=iC (y.num:Int)) (by rw[aN,r];rfl);simp only[aK,cC];refine⟨ae,ar.2 ⟨_,F,Sc V D ⟨_,rfl,?_⟩⟩⟩;have K:=BO (x:=x) M D;by_cases e:y.e=x;rw[aC e,dz,fc];rw[aC e]at K;refine⟨⟨rfl,i+1,ae,ae,λj z k v=> ?_⟩,ae⟩;by_cases Q:j=i;grind;exact w j ae k v;rw[aT e,gH];rw[aT e]at K;exact J i B w (λk v=>by rw[r]at v;cases v;exact K);rw[af (by simp;omega)];exact L (λk r=>by obtain⟨j,z⟩:=bA r;exact w j (by grind) k z)
theorem MR{r:List Int}(V:Env h t m a f C x)(o:Own h p n c 1 (r.map iC))(J:n=r.length)(hb:n<=60000)(hs: ∀k∈r,∃y∈a,k=(y.num:Int))(hV: ∀g,Fr (aL p) h g->Env g t m a f C x)(B: ∀H K,Own H p (r.filter (mv a x)).length K 1 ((r.filter (mv a x)).map iC)->Fr (aL p) h H->R (.slice p (r.filter (mv a x)).length K) H):
  Cl 226 #[.L p n c,.func (.func 227) #[] #[.P f 0,.P C 0]] h R:=by
 subst J;have so:(mS a).Pairwise (· < ·):=by obtain⟨X,s,A,S,d,b,l,c'⟩:=V.cm;exact DM c'
 have one: ∀v∈((.I 0:Value)).cells.toList,gk v=true:=λv hv=>by
  have:v=.I 0:=by simpa[Value.cells]using hv
  subst this;rfl
 refine lC (VW V o rfl hb hs (λi hi E Z=>⟨_,rfl,?_⟩) (λE=>⟨_,rfl,?_⟩));rw[af bt,fc];have b':(r.take i).filter (mv a x)=r.take i:=by rw[cK];intro k f';obtain⟨j,z⟩:=bA f';rw[db]at z;split at z;rename_i e';exact E j e' k z;cases z
 have a':(r.take (i+1)).filter (mv a x)=r.take i:=by have B:r[i]? =some r[i]:=au hi;rw[aV,B,fz,b'];simp[Z _ B]
 refine⟨λi' w g=> ∃(i j:Nat)(u:List Int),i'=(i:Int)/\w=(j:Int)/\i<=j/\j<=r.length/\u.length=r.length/\Own g p r.length c 1 (u.map iC)/\u.take i=(r.take j).filter (mv a x)/\(∀q,j<=q->u[q]? =r[q]?)/\Fr (aL p) h g,λ_ w _=>r.length - w.toNat,
  ⟨i,i+1,r,rfl,ae,ae,ae,rfl,o,a'.symm,λ_ _=>rfl,Fr.refl _ _⟩,?_⟩
 clear b' a' E Z;rintro _ _ g ⟨i,j,u,rfl,rfl,l',z,Q,O,G,d',F⟩;have I:((r.take j).filter (mv a x)).length=i:=by grind
 by_cases h':j<r.length;rw[gH];refine aB.of λk' M=> ?_;have⟨k,U⟩:=lP h';obtain⟨y,hy,rfl⟩:=hs k (aG U);obtain⟨ab,ao,rfl⟩:=O.addr ae;have g':u[j]? =some (y.num:Int):=by grind
 have cc:=O.cell (j:=j) (v:=iC (y.num:Int)) (by rw[aN,g'];rfl);simp only[aK,cC];have kn:=BO (x:=x) so hy;have T:(r.take (j+1)).filter (mv a x)=(r.take j).filter (mv a x)++(if y.e=x then [(y.num:Int)]else []):=by rw[aV,U,fz];congr 1;show [(y.num:Int)].filter (mv a x)=_;rw[di,kn];by_cases e:y.e=x<;>simp[e]
 refine⟨ae,ar.2 ⟨_,cc,Sc (hV g F) hy ⟨_,rfl,aB.of λJ1 P=> ?_⟩⟩⟩;by_cases e:y.e=x;rw[aC e,gH];rw[ag e]at T;refine⟨ae,ar.2 (O.store (by rw[aw];omega) λL D s2 q2=> ?_)⟩;subst P;subst M;have e2:(u.map iC).set i (.I (y.num:Int))=(u.set i (y.num:Int)).map iC:=by rw[List.map_set]
 rw[e2]at D;dsimp only;rw[dJ (n:=(i:Int)+1) ae ae,dJ (n:=(j:Int)+1) ae ae];refine⟨⟨i+1,j+1,_,ae,ae,ae,ae,by rw[fS];exact Q,D,?_,λq hq=> ?_,F.tt ⟨ae,λj' _ J=>q2 j' J⟩⟩,by show r.length - Int.toNat ((j:Int)+1)<r.length - j;omega⟩;rw[T,<-G,aV,List.getElem?_set_self ae];congr 1;apply fH;intro q;rw[db,db];split;grind;rfl;grind;rw[aT e,dz];rw[af e,fy]at T;subst P;subst M;dsimp only;rw[dJ (n:=(j:Int)+1) ae ae];exact⟨⟨i,j+1,u,rfl,ae,ae,ae,Q,O,by rw[T,G],λq hq=>d' q ae,F⟩,ae⟩;rw[af (by simp;omega)];obtain rfl:j=r.length:=ae
 rw[dA]at G I;simp only[aK,Nat.sub_zero];refine⟨ae,Hm tI one O ae λL D f2=>⟨rfl,⟨ae,bN O.le⟩,?_⟩⟩;rw[kI];rw[cC,<-List.map_take,G]at D;have:=B L c (by rw[I];exact D) (F.tt f2);rw[I]at this;exact this;rw[ag (by rfl)];have e:r.filter (mv a x)=r:=by rw[cK];exact E
 have:=B h c (by rw[e];exact o) (Fr.refl _ _);rw[e]at this;exact this
def PE(g:(mS a).Pairwise (· < ·)):(mS a).filter (mv a x)=mS (a.filter (λy=>decide (y.e=x))):=by unfold mS;rw[dT];congr 1;exact eO (λy e=>BO g e)
theorem wx(i:Cm h t X s m a A S d b l)(x:Ev)(D:a.length<=60000) (hk: ∀H P v,Own H P (a.filter (λy=>decide (y.e=x))).length v 1 ((mS (a.filter (λy=>decide (y.e=x)))).map iC)->(∀y,aL P y->h.size<=y)->Fr No h H->R (.slice P (a.filter (λy=>decide (y.e=x))).length v) H):
  Cl 161 #[.P t 0,mh x] h R:=by
 refine wA (cg ?_);have j:Fr No h (h.push (.C #[.P t 0] 58)):=Fr.push _ _;have B:(h.push (.C #[.P t 0] 58))[h.size]? =some (.C #[.P t 0] 58 (0,0)):=bR;have z1:(h.push (.C #[.P t 0] 58)).size=h.size+1:=cI _;generalize h.push (.C #[.P t 0] 58)=M at j B z1⊢;refine av.box λC Q e2 z F=>⟨_,ai (F.get B id),?_⟩;have z2:=aD z;refine px (i.on (j.tt F)) D λw I l3 o3 G o=>⟨_,_,_,rfl,?_⟩;have r:=j.tt (F.tt o);have u:=i.on r;have V:Env w t m a h.size C x:=⟨(F.tt o).get B id,o.get z id,X,s,A,S,d,b,l,u⟩;have U: ∀g,Fr (aL I) w g->Env g t m a h.size C x:=λg q=>⟨q.get V.b0 (λe=>by grind),q.get V.b1 (λe=>bN (G _ e)),X,s,A,S,d,b,l,u.frame q (λy e Z=>by have M:=G y Z;have Q:=(Ct.lt ⟨m,a,A,S,d,b,l,i⟩ y e);omega)⟩;have nl:(mS a).length=a.length:=by unfold mS;rw[aw]
 refine MR V o3 nl.symm D (λk a'=>by obtain⟨y,e,rfl⟩:=bh.1 a';exact⟨y,e,rfl⟩) U λT J O L=>⟨_,_,_,rfl,?_⟩;have E:=PE (x:=x) (DM i);have K:((mS a).filter (mv a x)).length=(a.filter (λy=>decide (y.e=x))).length:=by rw[E];unfold mS;rw[aw]
 rw[K]at O⊢;rw[E]at O;exact hk T I J O (λy e=>bN (G y e)) (r.fresh L (λy e=>by grind))
end gi
end
section
open Go.jD
namespace gi
open ju ck gg
variable {h H:aA} {R:fp} {t:Nat} {X:Ft} {s f:CF} {m a A:Nat} {x:List CV} {S d:Nat→Prop} {b:Nat→Option Nat} {n c:Nat}
variable {z:Cp} {K:aA->Prop} {L:List Cp}
def GR(L:List Cp)(n:Int):List Cp:=L.filter (λe=> !decide ((e.num:Int)=n))
def tj(L:List Cp)(n:Nat)(g:Int)(D:Nat):List Cp:=L.map (λe=>if e.num=n then { e with ses:=g,dl:=D } else e)
def Jt(s:CF)(n:Int):CF:= { s with L:=GR s.L n,E1:=gE s.E1 n,E2:=gE s.E2 n }
def wB(s:CF)(n:Nat):CF:= { s with L:=tj s.L n 0 0,E2:=gE s.E2 (n:Int) }
def rh(L:List E)(k:Int):(gE L k).length<=L.length:=cS _ _
structure Small (s:CF):Prop where
 n:s.next<=50000
 l:s.L.length<=50000
 e1:s.E1.length<=50000
 e2:s.E2.length<=50000
def Cm.len(e:Cm h t X s m x a S A d b):x.length=s.L.length:=by rw[<-e.abs,aw]
theorem gC(y: ∀H t X,Ct H t X ⟨[],1,0,0,0, [], []⟩->xX h X H->R (.P t 0) H):Cl 17 #[] h R:=by
 classical
 refine Ds (cg ?_);have p:Fr No h (h.push (.map #[] 0)):=Fr.push _ _;have M:=kz.push h iC;have Z:(h.push (.map #[] 0)).size=h.size+1:=cI _;generalize h.push (.map #[] 0)=w at p M Z⊢;refine ck.gC λa S q l G k=>⟨_,rfl,ck.gC λA d g o v j=>⟨_,rfl,cg ?_⟩⟩;have F:Fr No g (g.push (.C #[.map (some h.size),.I 1,.I 0,.I 0,.I 0,.P a 0,.P A 0] 127)):=Fr.push _ _;have P:=k.1;have Q:=j.1;have I:(g.push (.C #[.map (some h.size),.I 1,.I 0,.I 0,.I 0,.P a 0,.P A 0] 127)).size=g.size+1:=cI _;have B:(g.push (.C #[.map (some h.size),.I 1,.I 0,.I 0,.I 0,.P a 0,.P A 0] 127))[g.size]? =some (.C #[.map (some h.size),.I 1,.I 0,.I 0,.I 0,.P a 0,.P A 0] 127 (0,0)):=bR;generalize g.push (.C #[.map (some h.size),.I 1,.I 0,.I 0,.I 0,.P a 0,.P A 0] 127)=r at F I B⊢;have J: ∀c,S c->w.size<=c/\c<q.size:=λc e=>⟨G c e,l.lt e⟩;have O: ∀c,d c->q.size<=c/\c<g.size:=λc e=>⟨v c e,o.lt e⟩;let b:=λc=>if c=g.size then some 0 else if c=h.size then some 1 else if S c then some 2 else if d c then some 3 else none
 have C: ∀c,S c->b c=some 2:=λc e=>by grind
 have D: ∀c,d c->b c=some 3:=λc e=>by grind
 have E: ∀c,b c≠none->h.size<=c/\c<r.size:=λc e=>by grind
 refine y r g.size ⟨λc=>b c≠none,λ_=>False⟩ ⟨h.size, [],a,S,A,d,b,⟨B,(M.frame (k.tt j) id).frame F id,(λu i=>by cases i),rfl,(λu i=>by cases i),l.frame (j.tt F) bC,o.frame F bC,ag rfl,?_,C,D,(λu i=>by cases i),λc=>eV,λc e=>e.elim,λc e=>(E c e).2,.nil⟩⟩ ⟨p.tt (k.tt (j.tt F)),λc e=> ?_⟩;grind;grind
theorem U9(i:Cm h t X s m x a S A d b)(u:s.E2.length<1000000)(k:Int)(j: ∀H g l (e:Int),Cm H t g { s with E2:=gE s.E2 k } m x a S A d l->bp X h g H->R (.I e) H):
  Cl 163 #[.P A 0,.I k] h R:=by
 refine ck.sJ i.LW u k (λ_ q o F=> ?_) (λv=> ?_);have⟨g,l,p,w,_⟩:=i.Jq (s':= { s with E2:=gE s.E2 k }) o (λc r=> .inl r) F rfl rfl rfl ⟨rfl,rfl,rfl,rfl⟩;exact j q g l 0 p w;have e:({ s with E2:=gE s.E2 k })=s:=by rw[kJ v]
 exact j h X b 4 (by grind) (bp.refl _ _)
theorem WO(i:Cm h t X s m x a S A d b)(u:s.E1.length<1000000)(k:Int)(j: ∀H g l (e:Int),Cm H t g { s with E1:=gE s.E1 k } m x a S A d l->bp X h g H->R (.I e) H):
  Cl 163 #[.P a 0,.I k] h R:=by
 refine ck.sJ i.LV u k (λ_ q o F=> ?_) (λv=> ?_);have⟨g,l,p,w,_⟩:=i.Jr (s':= { s with E1:=gE s.E1 k }) o (λc r=> .inl r) F rfl rfl rfl ⟨rfl,rfl,rfl,rfl⟩;exact j q g l 0 p w;have e:({ s with E1:=gE s.E1 k })=s:=by rw[kJ v]
 exact j h X b 4 (by grind) (bp.refl _ _)
theorem rq(e:Ct h t X s)(l:Small s)(k:Int)(r: ∀H j,Ct H t j (Jt s k)->bp X h j H->R (.T #[]) H):
  Cl 124 #[.P t 0,.I k] h R:=by
 have⟨m,x,a,S,A,d,b,e⟩:=e;have:=l.e1;have:=l.e2;refine qG ⟨_,ai e.cN,U9 e ae k λC B E _ i v=>⟨_,rfl,_,ai i.cN,WO i (by grind) k λD p F _ g w=>⟨_,rfl,_,ai g.cN,Kx ps g.map λq M u O=>⟨rfl,?_⟩⟩⟩⟩;have⟨o,y⟩:=g.del (s':=Jt s k) M u O rfl rfl rfl ⟨rfl,rfl,rfl,rfl⟩;exact r q p ⟨_,_,_,_,_,_,_,o⟩ (v.trans (w.trans y))
def yN(j:Cm h t X s m x a S A d b)(i:z∈s.L): ∃g∈x,g.abs=z:=by rw[<-j.abs]at i;have⟨g,k,e⟩:=bh.1 i;exact⟨g,k,e⟩
def Cm.Ie{g:CV}{ses:Int}{dl:Nat}(k:Cm h t X s m x a S A d b)(p:g∈x)(E: ∀H,Cm H t X { s with L:=tj s.L g.num ses dl } m (x.map (λz=>if z.num=g.num then { g with ses:=ses,dl:=dl } else z)) a S A d b->bp X h X H->K H):
  aO h (((AA g.b 0):Addr).add 8) (.I ses) λq=>aO q (((AA g.b 0):Addr).add 9) (.U (dl:Int)) K:=by
 rw[iP,iP];have B:=k.GQ g p;refine bf B bt λq C Q O=>bf C bt λr y T M=> ?_;have I:({ g with ses:=ses,dl:=dl } :CV).at r g.b:=y;obtain⟨w,P⟩:=k.change (s':= { s with L:=tj s.L g.num ses dl }) (y:= { g with ses:=ses,dl:=dl }) p rfl rfl rfl I ae (λc v=>by rw[M c v,O c v]) (by
  show tj s.L g.num ses dl=_;unfold tj;refine fh λz J=> ?_;by_cases e:z.num=g.num;rw[ag e,ag e];obtain⟨u,G,rfl⟩:=yN k J;have e:u.num=g.num:=e;have:u=g:=by obtain⟨i,l⟩:=bA G;obtain⟨j,o⟩:=bA p;have F:(x.map CV.num).Nodup:=k.so.imp (λh=>Nat.ne_of_lt h);have D:=(aJ.1 l).1;have:=(eE (l:=x.map CV.num) (i:=i) (j:=j) (dH D) F).1 (by rw[aN,aN,l,o];simp[e]);subst this;rw[l]at o;exact bF o
  rw[this];rfl;rw[af e,af e]) rfl rfl ⟨rfl,rfl,rfl,rfl⟩
 exact E r w P
def Ob(e:Ct h t X s)(r:Small s)(q:z∈s.L)(p: ∀H j,Ct H t j (wB s z.num)->bp X h j H->R (.T #[]) H):
  Cl 125 #[.P t 0,.I (z.num:Int)] h R:=by
 have⟨m,x,a,S,A,d,b,e⟩:=e;obtain⟨B,i,rfl⟩:=yN e q;have:=r.e2;refine te ⟨_,ai e.cN,U9 e ae _ λw l y _ g u=>⟨_,rfl,_,ai g.cN,_,look g i,_,ai g.cN,_,look g i,(ar.2 (g.Ie i λo k v=>p o l ⟨_,_,_,_,_,_,_,k⟩ (u.trans v)))⟩⟩
def Dt(L:List Cp)(n:Int):Option Cp:=L.find? (λe=>decide ((e.num:Int)=n))
def BP{n:Int}(h:Dt L n=some z):z∈L/\(z.num:Int)=n:=⟨List.mem_of_find?_eq_some h,dH (List.find?_some h)⟩
def PF{n:Int}:Dt L n=none↔ ∀z∈L,(z.num:Int)≠n:=by unfold Dt;simp
def mH(L:List Cp)(n e:Int):Int:=match Dt L n with|none=>4|some z=>if z.ses=0\/z.ses≠e then 14 else 0
theorem iN(i:Ct h t X s)(num k:Int)(j: ∀q,R (.T #[.Q q,.I (mH s.L num k)]) h):
  Cl 270 #[.P t 0,.I num,.I k] h R:=by
 have⟨m,x,a,S,A,d,b,i⟩:=i;refine sZ (gh i ⟨_,rfl,?_⟩);unfold mH at j;cases l:Dt s.L num with
 |none=>rw[l]at j;have v: ∀g∈x,(g.num)≠num:=λg o=>PF.1 l g.abs (by rw[<-i.abs];exact bL o);refine⟨_,ai i.cN,_,Uf i v,(j none)⟩
 |some z=>
  rw[l]at j;dsimp only at j;obtain⟨w,rfl⟩:=BP l;obtain⟨g,o,rfl⟩:=yN i w;have L:=look i o;have C:=i.GQ g o;refine⟨_,ai i.cN,_,L,?_⟩;rw[af bt];refine aB.of λJ r=>⟨_,ai i.cN,_,L,ar.2 ⟨_,ai C,?_⟩⟩;have B:(g.ses=0\/g.ses≠k)->J true h:=λhb=>by subst r;have:=j none;have e:(if g.abs.ses=0\/g.abs.ses≠k then(14:Int)else 0)=14:=ag hb;rwa[e]at this
  by_cases u:g.ses=0;grind;rw[af (by grind)];refine⟨_,ai i.cN,_,L,ar.2 ⟨_,ai C,?_⟩⟩;by_cases p:g.ses=k;have e:(g.ses !=k)=false:=by simp[p]
  rw[e];subst r;refine⟨_,ai i.cN,_,L,?_⟩;have E:(if g.abs.ses=0\/g.abs.ses≠k then(14:Int)else 0)=0:=af (λhb=>by rcases hb with hb|hb;exact u hb;exact hb p);have:=j (Sa g.b 0);rwa[E]at this;grind
def xM(s:CF)(n e:Int):CF:=if mH s.L n e=0 then { Jt s n with fG:=s.fG+1 } else s
def Ct.bump(e:Ct h t X s)(p:s.fG<=100000)(j: ∀H,Ct H t X { s with fG:=s.fG+1 } ->bp X h X H->K H):
  ∃(u:Int),aU h (AA t 2)=some (.I u)/\aO h (AA t 2) (.I (IntKind.wrap .i64 (u+1))) K:=by
 have⟨m,x,a,S,A,d,b,e⟩:=e;refine⟨_,ai e.cN,bf e.cN bt λi C k o=> ?_⟩;rw[fc]at C;have⟨g,l⟩:=e.field (s':= { s with fG:=s.fG+1 }) rfl rfl rfl C k o;exact j i ⟨_,_,_,_,_,_,_,g⟩ l
def Ct.WQ(e:Ct h t X s)(p:s.over<=100000)(j: ∀H,Ct H t X { s with over:=s.over+1 } ->bp X h X H->K H):
  ∃(u:Int),aU h (AA t 3)=some (.I u)/\aO h (AA t 3) (.I (IntKind.wrap .i64 (u+1))) K:=by
 have⟨m,x,a,S,A,d,b,e⟩:=e;refine⟨_,ai e.cN,bf e.cN bt λi C k o=> ?_⟩;rw[fc]at C;have⟨g,l⟩:=e.field (s':= { s with over:=s.over+1 }) rfl rfl rfl C k o;exact j i ⟨_,_,_,_,_,_,_,g⟩ l
def Ct.WR(e:Ct h t X s)(p:s.gone<=100000)(j: ∀H,Ct H t X { s with gone:=s.gone+1 } ->bp X h X H->K H):
  ∃(u:Int),aU h (AA t 4)=some (.I u)/\aO h (AA t 4) (.I (IntKind.wrap .i64 (u+1))) K:=by
 have⟨m,x,a,S,A,d,b,e⟩:=e;refine⟨_,ai e.cN,bf e.cN bt λi C k o=> ?_⟩;rw[fc]at C;have⟨g,l⟩:=e.field (s':= { s with gone:=s.gone+1 }) rfl rfl rfl C k o;exact j i ⟨_,_,_,_,_,_,_,g⟩ l
theorem MX(i:Ct h t X s)(w:Small s)(v:s.fG<=100000)(num g:Int)(l: ∀H j,Ct H t j (xM s num g)->bp X h j H->R (.I (mH s.L num g)) H):
  Cl 266 #[.P t 0,.I num,.I g] h R:=by
 refine uL (iN i num g λq=>⟨_,_,rfl,aB.of λJ k=> ?_⟩);by_cases e:mH s.L num g=0;rw[ag (by grind)];refine rq i w num λC r o y=>⟨rfl,o.bump v λu p B=> ?_⟩;subst k;exact l u r (by unfold xM;rw[ag e];exact p) (y.trans B);rw[af (dH e)];subst k;exact l h X (by unfold xM;rw[af e];exact i) (bp.refl _ _)
def Ju(s:CF)(n e:Int):CF:=if mH s.L n e=0 then wB s n.toNat else s
theorem MY(i:Ct h t X s)(y:Small s)(num g:Int)(l: ∀H j,Ct H t j (Ju s num g)->bp X h j H->R (.I (mH s.L num g)) H):
  Cl 191 #[.P t 0,.I num,.I g] h R:=by
 refine pQ (iN i num g λq=>⟨_,_,rfl,aB.of λJ k=> ?_⟩);by_cases e:mH s.L num g=0;rw[ag (by grind)];have⟨z,v⟩: ∃z,Dt s.L num=some z:=by
  cases u:Dt s.L num with
  |none=>unfold mH at e;rw[u]at e;cases e
  |some z=>simp
 obtain⟨w,rfl⟩:=BP v;refine Ob i y w λr p o B=>⟨rfl,?_⟩;subst k;exact l r p (by unfold Ju;rw[ag e,aK];exact o) B;rw[af (dH e)];subst k;exact l h X (by unfold Ju;rw[af e];exact i) (bp.refl _ _)

end gi
end
section
namespace dV
open gI (It)
open ju (Ev)
variable {h H:aA} {s j:Nat} {X:Ft}
structure SS where
 A:List eM.eM
 G:List fE.Rg
 C:gi.CF
 B:gI.BS
 Q:List It
 e:Ev
 tm:Nat
 sq:Nat
 now:Nat
 rf:Nat
structure oF where
 t:Nat
 r:Nat
 c:Nat
 o:Nat
 p:Nat
 k:Nat
abbrev Mk(h:aA)(k:Nat)(e:Ev)(t sq:Nat):Prop:=h[k]? =some (.cells #[.bool e.jY,.int .u64 e.node,.int .u64 e.fK,.string e.host,.string e.jl,.int .u64 (t:Int),.int .u64 (sq:Int),.bool true] 113 (0,0))
abbrev Bk(h:aA)(s:Nat)(I:oF)(n r:Nat):Prop:=h[s]? =some (.cells #[pt I.t,pt I.r,pt I.c,pt I.o,pt I.p,pt I.k,.int .u64 (n:Int),.int .i64 (r:Int)] 63 (0,0))
def part(σ:SS)(I:oF)(s:Nat)(i:Nat)(h:aA)(X:Ft):Prop:=match i with
 |0=>eM.Has h I.t X σ.A
 |1=>fE.Tb h I.r X σ.G
 |2=>gi.Ct h I.c X σ.C
 |3=>gI.CQ h I.o X σ.B
 |4=> ∃m,Pu h I.p m σ.Q/\only X λy=>y=I.p\/y=m
 |5=>Mk h I.k σ.e σ.tm σ.sq/\only X λy=>y=I.k
 |6=>Bk h s I σ.now σ.rf/\only X λy=>y=s
 |_=> ∀y,¬In X y
theorem part.lt{σ:SS}{I:oF}{i:Nat}(a:part σ I s i h X)(y:Nat)(hy:In X y):y<h.size:=by rcases i with _|_|_|_|_|_|_|i;exact eM.Has.lt a y hy;exact fE.Tb.lt a y hy;exact gi.Ct.lt a y hy;exact gI.CQ.lt a y hy;have⟨m,P,o⟩:=a;rcases hy with hy|hy;rcases(o y).1.1 hy with rfl|rfl;exact P.lt.1;exact P.lt.2;exact absurd hy (o y).2;have⟨P,o⟩:=a;rcases hy with hy|hy;grind;grind;have⟨P,o⟩:=a;rcases hy with hy|hy;rw[(o y).1.1 hy];exact aD P;exact absurd hy (o y).2;exact absurd hy (a y)
def part.frame{σ:SS}{I:oF}{i:Nat}{Q:gF}(a:part σ I s i h X)(f:Fr Q h H)(b: ∀y,In X y->¬Q y):part σ I s i H X:=by rcases i with _|_|_|_|_|_|_|i;exact eM.Has.frame a f b;exact fE.Tb.frame a f b;exact gi.Ct.frame a f b;exact gI.CQ.frame a f b;have⟨m,P,o⟩:=a;exact⟨m,P.frame f (b _ (.inl ((o _).1.2 (.inl rfl)))) (b _ (.inl ((o _).1.2 (.inr rfl)))),o⟩;have⟨P,o⟩:=a;exact⟨f.get P (b _ (.inl ((o _).1.2 rfl))),o⟩;have⟨P,o⟩:=a;exact⟨f.get P (b _ (.inl ((o _).1.2 rfl))),o⟩;exact a
def part.xY{σ:SS}{I:oF}{i:Nat}(b:part σ I s i h X)(y:Nat)(d:X.M y)(c:X.D y):False:=by rcases i with _|_|_|_|_|_|_|i;exact eM.Has.xY b y d c;have⟨m,b⟩:=b;exact b.d y c;have⟨m,x,A,e,g,f,l,b⟩:=b;exact(b.mm y).1 d (b.dd y c).1;have⟨L,⟨n,k,x,a,S,b⟩,_⟩:=b;exact b.xY y d c;have⟨m,P,o⟩:=b;exact(o y).2 c;exact(b.2 y).2 c;exact(b.2 y).2 c;exact b y (.inl d)
def part.st(σ:SS)(I:oF)(s:Nat):yo (part σ I s):=⟨part.lt,part.frame,part.xY⟩
def Pt(h:aA)(s:Nat)(X:Ft)(I:oF)(σ:SS):Prop:=HC (part σ I s) h X
variable {I : oF} {σ : SS}
def Pt.lt(a:Pt h s X I σ)(y:Nat)(b:X.M y\/X.D y):y<h.size:=HC.lt (part.st _ _ _) a y b
def Pt.xY(c:Pt h s X I σ)(y:Nat)(a:X.M y)(b:X.D y):False:=HC.xY (part.st _ _ _) c y a b
def Pt.frame{Q:gF}(a:Pt h s X I σ)(f:Fr Q h H)(b: ∀y,X.M y\/X.D y->¬Q y):Pt H s X I σ:=HC.frame (part.st _ _ _) a f b
def Pt.on(a:Pt h s X I σ)(f:Fr No h H):Pt H s X I σ:=a.frame f bC
def Pt.use(b:Pt h s X I σ)(j:Nat): ∃Z,part σ I s j h Z/\(∀y,Z.M y->X.M y)/\(∀y,Z.D y->X.D y)/\∀H z a,part a I s j H z->bp Z h z H->(∀i,i≠j->part a I s i=part σ I s i)->
  ∃x,Pt H s x I a/\bp X h x H/\(∀y,z.D y->x.D y)/\∀y,h.size<=y->x.M y\/x.D y->z.M y\/z.D y:=by
 obtain⟨Z,c,d,e,go⟩:=HC.use (part.st σ I s) b j;exact⟨Z,c,d,e,λH z a=>go H z (part a I s)⟩
def Pt.cN(a:Pt h s X I σ):Bk h s I σ.now σ.rf:=by have⟨y,b,_⟩:=a;exact(b 6).1
def Pt.box(a:Pt h s X I σ): ∃Z,gI.CQ h I.o Z σ.B:=by have⟨y,b,_⟩:=a;exact⟨_,b 3⟩
def wC{i:Nat}(a:List eM.eM)(b:i≠0):part { σ with A:=a } I s i=part σ I s i:=by rcases i with _|_|_|_|_|_|_|i<;>first|rfl|omega
def MZ{i:Nat}(a:List fE.Rg)(b:i≠1):part { σ with G:=a } I s i=part σ I s i:=by rcases i with _|_|_|_|_|_|_|i<;>first|rfl|omega
def BQ{i:Nat}(a:gi.CF)(b:i≠2):part { σ with C:=a } I s i=part σ I s i:=by rcases i with _|_|_|_|_|_|_|i<;>first|rfl|omega
def Jv{i:Nat}(a:gI.BS)(b:i≠3):part { σ with B:=a } I s i=part σ I s i:=by rcases i with _|_|_|_|_|_|_|i<;>first|rfl|omega
def M0{i:Nat}(a:List It)(b:i≠4):part { σ with Q:=a } I s i=part σ I s i:=by rcases i with _|_|_|_|_|_|_|i<;>first|rfl|omega
def VX{i:Nat}(a:Ev)(b c:Nat)(d:i≠5):part { σ with e:=a,tm:=b,sq:=c } I s i=part σ I s i:=by rcases i with _|_|_|_|_|_|_|i<;>first|rfl|omega
def VY{i:Nat}(a b:Nat)(c:i≠6):part { σ with now:=a,rf:=b } I s i=part σ I s i:=by rcases i with _|_|_|_|_|_|_|i<;>first|rfl|omega
end dV
end
section
open Go.jD
namespace gi
open ju ck gg
variable {h H:aA} {R:fp} {t:Nat} {X:Ft} {s g:CF} {m A a:Nat} {x:List CV} {S b:Nat→Prop} {l:Nat→Option Nat} {p:bZ} {n c:Nat}
variable {k:Int} {K:List Int} {i:Nat} {f:CF->Int->CF}
def Ax(d:Ev)(len:Nat)(T:Int):Bool:=cY d && (!decide (d=Ev.zero) && (decide (1<=len) && (decide (len<=600) && decide (T<=1099511627776))))
theorem Ig(d:Ev)(r: iG h R (.B (Ax d n k))):Cl 160 #[mh d,.L p n c,.U k] h R:=by refine yM (av.box λB u E e o=>av.ld e (ju.fD d λq F=>⟨_,rfl,?_⟩));have j:=r q (o.tt F);unfold Ax at j;by_cases Q:cY d=true;rw[ag Q];refine av.ld (F.get e id) ⟨_,zQ (y:=.zero) rfl rfl,?_⟩;by_cases v:d=.zero;grind;grind;grind
def nF(L:List Cp)(d:Ev):List Cp:=L.filter (λy=>decide (y.e=d))
def Jw(e:Cm h t X s m x A S a b l)(d:Ev):(x.filter (λy=>decide (y.e=d))).length=(nF s.L d).length:=by unfold nF;rw[<-e.abs,dT,aw];rfl
def jQ(s:CF)(e:Ev)(d:cQ)(T:Nat):Int:=if Ax e d.length (T:Int)=true then(if(nF s.L e).length≥16 then 15 else 0)else 1
def Fz(s:CF)(e:Ev)(d:cQ)(T:Nat):Int:=if jQ s e d T=0 then(s.next:Int)else 0
def mq(s:CF)(e:Ev)(d:cQ)(T:Nat):CF:=if jQ s e d T=0 then { s with L:=s.L++ [⟨s.next,e,d,T,0,0⟩],next:=s.next+1,E1:=pM s.E1 (s.next:Int) (T:Int) } else s
theorem BK(o:Ct h t X s)(U:Small s)(e': ∀k'∈s.L,k'.num<s.next)(l':1<=s.next)(j:Ev){d:cQ}(T:Nat)(d':k=(T:Int))(hr:Row h p (bc d))(hn:n=d.length)(g':d≠ []->∀C,p=some C->¬X.M C.block)(r: ∀H V,Ct H t V (mq s j d T)->bp X h V H->R (.T #[.I (Fz s j d T),.I (jQ s j d T)]) H):
  Cl 204 #[.P t 0,mh j,.L p n c,.U k] h R:=by
 subst d' hn;obtain⟨m,x,A,S,a,b,l,o⟩:=o;have sn:=U.n;have sl:=U.l;have se:=U.e1;have xl:=o.len;refine uH (av.box λD h1 eb P f1=> ?_);have H1:=o.on f1;refine gh H1 ⟨_,rfl,?_⟩;rw[dz];refine av.ld P (Ig j λh3 J=>⟨_,rfl,?_⟩);have F:=f1.tt J;by_cases q:Ax j d.length (T:Int)=true
 .rw[q,dz];refine av.ld (J.get P id) (wx (o.on F) j ae λh4 p4 c4 o4 g4 f4=>⟨_,_,_,rfl,?_⟩);have z:=F.tt f4;have u:=o.on z;have a':=(J.tt f4).get P id;rw[Jw o j];by_cases q1:(nF s.L j).length≥16;rw[gH];have e:jQ s j d T=15:=by unfold jQ;rw[ag q,ag q1]
  have E:Fz s j d T=0:=af (by rw[e];decide);have w:mq s j d T=s:=af (by rw[e];decide);rw[e,E,w]at r;exact r h4 X ⟨_,_,_,_,_,_,_,u⟩ (bp.iw z)
  .rw[af (by simp;omega)];have e:jQ s j d T=0:=by unfold jQ;rw[ag q,af q1]
   have E:Fz s j d T=(s.next:Int):=ag e;have w:mq s j d T= { s with L:=s.L++ [⟨s.next,j,d,T,0,0⟩],next:=s.next+1,E1:=pM s.E1 (s.next:Int) (T:Int) } :=ag e;rw[e,E,w]at r;have lb:D<h4.size:=aD a';have nb: ∀{c},l c≠none->c≠D:=fun {c} y ec=>by have:=o.JV c y;omega
   refine⟨_,ai u.cN,_,ai u.cN,bf u.cN bt λM c5 s5 o5=> ?_⟩;rw[fc]at c5;obtain⟨v,b'⟩:=u.field (s':= { s with next:=s.next+1 }) rfl rfl rfl c5 s5 o5;have Q:Ev.at M D j:=by unfold Ev.at av.at;rw[o5 D (Ne.symm (nb (by rw[o.l0];simp)))];exact a'
   have r5:Row M p (bc d):=(hr.frame z bC).frame b'.fr (λC ea=>g' (by rintro rfl;simp[Ax]at q) C ea);refine⟨_,ai v.cN,av.ld Q (hY r5 rfl (by unfold Ax at q;simp only[aZ,bn]at q;omega) λp6 c6 h6 O G g6=>⟨_,_,_,rfl,?_⟩)⟩;refine⟨av.held (G.get Q id),ai (G.get v.cN id),aQ.box λZ h7 e7 c' L=> ?_⟩;have B:=G.tt L;have z5:M.size<=h6.size:=G.1;refine⟨av.held (B.get Q id),ai (B.get v.cN id),zL ps (v.on B).map (k:=(s.next:Int)) λh8 M8 s8 o8=> ?_⟩;obtain⟨X8,m',I,h'⟩:=v.add (s':= { s with L:=s.L++ [⟨s.next,j,d,T,0,0⟩],next:=s.next+1 }) (y:=⟨s.next,Z,j,⟨p6,c6,d⟩,T,0,0⟩) B c' (by grind) ((O.hT).frame L bC) O.le (λc y=>⟨g6 c y,by have:=O.dk y;show c≠Z;omega,gM (O.dk y) L.1⟩)
    (λj' hu=>by
     have:j'.abs∈s.L:=by rw[<-o.abs];exact bL hu
     exact e' _ this) M8 s8 o8 rfl rfl rfl ⟨rfl,rfl,rfl,rfl⟩
   have f':may (s.next:Int) (T:Int)=true:=by unfold Ax at q;simp only[aZ,bn]at q;exact lE.2 ⟨ae,ae,ae⟩
   refine⟨_,ai I.cN,ck.BE I.LV (by grind) (s.next:Int) (T:Int) ae (λhm h9 S9 A9 g9 f9=>⟨_,rfl,?_⟩) (λhm=>absurd f' (by rw[hm];simp))⟩;obtain⟨X9,n',H9,i',_⟩:=I.Jr (s':= { s with L:=s.L++ [⟨s.next,j,d,T,0,0⟩],next:=s.next+1,E1:=pM s.E1 (s.next:Int) (T:Int) }) A9 g9 f9 rfl rfl rfl ⟨rfl,rfl,rfl,rfl⟩;exact r h9 X9 ⟨_,_,_,_,_,_,_,H9⟩ (bp.no z (b'.trans (h'.trans i')))
 have q:Ax j d.length (T:Int)=false:=by simpa using q
 rw[q,gH];have e:jQ s j d T=1:=by unfold jQ;rw[q];rfl
 have E:Fz s j d T=0:=af (by rw[e];decide);have w:mq s j d T=s:=af (by rw[e];decide);rw[e,E,w]at r;exact r h3 X ⟨_,_,_,_,_,_,_,o.on F⟩ (bp.iw F)
def mw(s:CF)(k:Int):CF:= { Jt s k with over:=s.over+1 }
def tn(s:CF)(k:Int):CF:= { Jt s k with gone:=s.gone+1 }
def Small.rem(d:Small s)(k:Int):Small (Jt s k):=
 ⟨d.n,cD (cS _ _) d.l,cD (rh _ _) d.e1,cD (rh _ _) d.e2⟩
def Small.free(d:Small s)(k:Nat):Small (wB s k):=
 ⟨d.n,by show(tj s.L k 0 0).length<=_;unfold tj;rw[aw];exact d.l,d.e1,cD (rh _ _) d.e2⟩
def Lp(s:CF):Prop:= ∀k∈keys s.E2,∃z∈s.L,(z.num:Int)=k
theorem Lp.rem(d:Lp s)(k:Int):Lp (Jt s k):=λj r=>by obtain⟨e,q,rfl⟩:=bh.1 r;have⟨o,v⟩:=bD.1 q;have⟨z,u,E⟩:=d e.1 (bL o);exact⟨z,bD.2 ⟨u,by grind⟩,E⟩
def PG(L:List Cp)(n:Nat)(d:Int)(B:Nat){z:Cp}(e:z∈L): ∃y∈tj L n d B,y.num=z.num:=by refine⟨_,bL e,?_⟩;split<;>rfl
def Ct.WS(d:Ct h t X s)(J:Small s)(e:Int)(D: ∀H j P C,Ct H t j { s with E1:=ck.rest s.E1 e } ->bp X h j H->Own H P (ck.due s.E1 e).length C 1 (kc (ck.due s.E1 e))->(∀y,aL P y->h.size<=y/\¬j.M y)->R (.slice P (ck.due s.E1 e).length C) H):
  ∃(u:bZ),aU h (AA t 5)=some (.Q u)/\Cl 123 #[.Q u,.U e] h R:=by
 have⟨m,x,A,S,a,b,l,d⟩:=d;have:=J.e1;refine⟨_,ai d.cN,ck.Jo d.LV ae e λw I v q O G F=> ?_⟩;have⟨j,M,r,L,z⟩:=d.Jr (s':= { s with E1:=ck.rest s.E1 e }) q (λc B=> .inl B) F rfl rfl rfl ⟨rfl,rfl,rfl,rfl⟩;refine D w j I v ⟨_,_,_,_,_,_,_,r⟩ L O (λy o=>⟨G y o,λE=> ?_⟩);have o:=G y o;rcases z y E with h2|h2;have:=d.JV y ((d.mm y).1 h2);omega;have:=d.LV.lt h2;omega
def Ct.WT(d:Ct h t X s)(J:Small s)(e:Int)(D: ∀H j P C,Ct H t j { s with E2:=ck.rest s.E2 e } ->bp X h j H->Own H P (ck.due s.E2 e).length C 1 (kc (ck.due s.E2 e))->(∀y,aL P y->h.size<=y/\¬j.M y)->R (.slice P (ck.due s.E2 e).length C) H):
  ∃(u:bZ),aU h (AA t 6)=some (.Q u)/\Cl 123 #[.Q u,.U e] h R:=by
 have⟨m,x,A,S,a,b,l,d⟩:=d;have:=J.e2;refine⟨_,ai d.cN,ck.Jo d.LW ae e λw I v q O G F=> ?_⟩;have⟨j,M,r,L,z⟩:=d.Jq (s':= { s with E2:=ck.rest s.E2 e }) q (λc B=> .inl B) F rfl rfl rfl ⟨rfl,rfl,rfl,rfl⟩;refine D w j I v ⟨_,_,_,_,_,_,_,r⟩ L O (λy o=>⟨G y o,λE=> ?_⟩);have o:=G y o;rcases z y E with h2|h2;have:=d.JV y ((d.mm y).1 h2);omega;have:=d.LW.lt h2;omega
structure Ay (h:aA) (X:Ft) (p:bZ) (n c:Nat) (K:List Int):Prop where
 own:Own h p n c 1 (K.map iC)
 len:n=K.length
 ap: ∀y,aL p y->¬X.M y
def Ay.step{e:Ft}(d:Ay h X p n c K)(o:bp X h e H):Ay H e p n c K:=
 ⟨d.own.frame o.fr d.ap,d.len,λy j q=>by rcases o.iA y q with h1|h1;exact d.ap y j h1;have:=d.own.dk j;omega⟩
theorem Ay.at{j:Int->Prop}(d:Ay h X p n c K)(q:K[i]? =some k)(r:j k):
  ((0:Int)<=(i:Int)/\(i:Int)<(n:Int))/\aH p λo=> ∃t:Int,aU h (o.add (Int.toNat (i:Int)*1))=some (.I t)/\j t:=by
 have w:=(aJ.1 q).1;have y:=d.len;have⟨u,v,e⟩:=d.own.addr ae;subst e;refine⟨ae,ar.2 ⟨k,(d.own.cell (by grind)),r⟩⟩
def qm(d: ∀s k,Small s->Small (f s k)): ∀(K:List Int)(s:CF),Small s->Small (K.foldl f s)
 | [],_,h=>h
 |k::K,s,h=>qm d K (f s k) (d s k h)
def Ih: ∀(K:List Int)(s:CF),(K.foldl mw s).over=s.over+K.length
 | [],_=>rfl
 |k::K,s=>by rw[List.foldl_cons,Ih K,ba];show s.over+1+K.length=_;omega
def Ii: ∀(K:List Int)(s:CF),(K.foldl tn s).gone=s.gone+K.length
 | [],_=>rfl
 |k::K,s=>by rw[List.foldl_cons,Ii K,ba];show s.gone+1+K.length=_;omega
def Ij: ∀(K:List Int)(s:CF),Lp s->Lp (K.foldl mw s)
 | [],_,h=>h
 |k::K,s,h=>Ij K (mw s k) (h.rem k)
def yO(d:K[i]? =some k)(s:CF):(K.take (i+1)).foldl f s=f ((K.take i).foldl f s) k:=by rw[aV,d,List.foldl_append];rfl
def lT(s:CF)(d:Int):CF:=
 let e:=(keys (ck.due s.E1 d)).foldl mw { s with E1:=ck.rest s.E1 d }
 (keys (ck.due e.E2 d)).foldl (λs k=>wB s k.toNat) { e with E2:=ck.rest e.E2 d }
def Ik: ∀(K:List Int)(s:CF)(z:Cp),z∈s.L->∃y∈(K.foldl (λs k=>wB s k.toNat) s).L,y.num=z.num
 | [],s,z,d=>⟨z,d,rfl⟩
 |k::K,s,z,d=>by have⟨y,o,e⟩:=PG s.L k.toNat 0 0 d;have⟨u,j,E⟩:=Ik K (wB s k.toNat) y o;exact⟨u,j,E.trans e⟩
def FE(L:List E)(d:Int):(ck.rest L d).length<=L.length:=(List.dropWhile_sublist _).length_le
theorem Aw(B:Ct h t X s)(z:Small s)(ho:s.over<=40000)(hE:Lp s)(d:Int)(J: ∀H I L V,Ct H t I (lT s d)->bp X h I H->Ay H I L (ck.due s.E1 d).length V (keys (ck.due s.E1 d))->(∀y,aL L y->h.size<=y)->R (.slice L (ck.due s.E1 d).length V) H):
  Cl 87 #[.P t 0,.U d] h R:=by
 have t':(ck.due s.E1 d).length<=s.E1.length:=(List.takeWhile_sublist _).length_le;have r':=z.e1;have hm: ∀{R:fp},R (.B true) h->Cl 80 #[.P t 0] h R:=λJ=>by have⟨m,x,A,S,a,b,l,B⟩:=B;exact gh B J
 refine tf (hm ⟨_,rfl,?_⟩);rw[dz];refine B.WS z d λh2 T P D H2 p' o2 g2=>⟨_,_,_,rfl,?_⟩;have l':Small { s with E1:=ck.rest s.E1 d } :=⟨z.n,z.l,cD (FE _ _) z.e1,z.e2⟩;have kl:(keys (ck.due s.E1 d)).length=(ck.due s.E1 d).length:=by unfold keys;rw[aw]
 have N2:Ay h2 T P (ck.due s.E1 d).length D (keys (ck.due s.E1 d)):=⟨o2,kl.symm,λy v=>(g2 y v).2⟩;have o': ∀(s:CF) k,Small s->Small (mw s k):=λs k h=>⟨(h.rem k).n,(h.rem k).l,(h.rem k).e1,(h.rem k).e2⟩;refine⟨λu G=> ∃(i:Nat)(q:Ft),u=(i)/\i<=(ck.due s.E1 d).length/\Ct G t q (((keys (ck.due s.E1 d)).take i).foldl mw { s with E1:=ck.rest s.E1 d })/\bp X h q G/\Ay G q P (ck.due s.E1 d).length D (keys (ck.due s.E1 d)),λu _=>(ck.due s.E1 d).length - u.toNat,⟨0,T,rfl,bK _,H2,p',N2⟩,?_⟩;rintro _ G ⟨i,q,rfl,hi,C,g',F⟩;have r:=qm o' ((keys (ck.due s.E1 d)).take i) _ l';by_cases i':i<(ck.due s.E1 d).length;rw[gH];have⟨k,w⟩:=OK (keys (ck.due s.E1 d)) i;refine F.at w (rq C r k λg3 X3 H3 c'=>⟨rfl,H3.WQ ?_ λg4 H4 d'=> ?_⟩);show(((keys (ck.due s.E1 d)).take i).foldl mw { s with E1:=ck.rest s.E1 d }).over<=100000;rw[Ih,bT];show s.over+_<=100000;omega;rw[fc];refine⟨⟨i+1,X3,ae,ae,?_,g'.trans (c'.trans d'),(F.step c').step d'⟩,by grind⟩;rw[yO w];exact H4;rw[af (by grind)];obtain rfl:i=(ck.due s.E1 d).length:=ae
 have ta:(keys (ck.due s.E1 d)).take (ck.due s.E1 d).length=keys (ck.due s.E1 d):=aX ae;rw[ta]at C r;have b':Lp ((keys (ck.due s.E1 d)).foldl mw { s with E1:=ck.rest s.E1 d }):=Ij _ _ hE;generalize j':(keys (ck.due s.E1 d)).foldl mw { s with E1:=ck.rest s.E1 d } =o at C r b';refine C.WT r d λh6 U p6 Z H6 e' o6 g6=>⟨_,_,_,rfl,?_⟩;have k':(keys (ck.due o.E2 d)).length=(ck.due o.E2 d).length:=by unfold keys;rw[aw]
 have m':Small { o with E2:=ck.rest o.E2 d } :=⟨r.n,r.l,r.e1,cD (FE _ _) r.e2⟩;have N6:Ay h6 U p6 (ck.due o.E2 d).length Z (keys (ck.due o.E2 d)):=⟨o6,k'.symm,λy v=>(g6 y v).2⟩;have s':=r.e2;have u':(ck.due o.E2 d).length<=o.E2.length:=(List.takeWhile_sublist _).length_le;refine⟨λu G=> ∃(i:Nat)(q:Ft),u=(i:Int)/\i<=(ck.due o.E2 d).length/\Ct G t q (((keys (ck.due o.E2 d)).take i).foldl (λs k=>wB s k.toNat) { o with E2:=ck.rest o.E2 d })/\bp X h q G/\Ay G q p6 (ck.due o.E2 d).length Z (keys (ck.due o.E2 d))/\Ay G q P (ck.due s.E1 d).length D (keys (ck.due s.E1 d)),λu _=>(ck.due o.E2 d).length - u.toNat,⟨0,U,rfl,bK _,H6,g'.trans e',N6,F.step e'⟩,?_⟩;rintro _ g7 ⟨j,X7,rfl,hj,E,f',Q,O⟩;have n':=qm (f:=λs k=>wB s k.toNat) (λs k h=>h.free k.toNat) ((keys (ck.due o.E2 d)).take j) _ m';by_cases i':j<(ck.due o.E2 d).length;rw[gH];have⟨k,w⟩:=OK (keys (ck.due o.E2 d)) j;have h':k∈keys o.E2:=by have h1:=aG w;unfold keys at h1⊢;obtain⟨e,he,rfl⟩:=bh.1 h1;exact bL ((List.takeWhile_sublist _).subset he)
 obtain⟨q',hz,ez⟩:=b' k h';obtain⟨y,v,ey⟩:=Ik ((keys (ck.due o.E2 d)).take j) { o with E2:=ck.rest o.E2 d } q' hz;have a':k=(y.num:Int):=ae
 refine Q.at w ?_;rw[a'];refine Ob E n' v λg8 X8 H8 M=>⟨rfl,?_⟩;rw[fc];refine⟨⟨j+1,X8,ae,ae,?_,f'.trans M,Q.step M,O.step M⟩,by grind⟩;rw[yO w,a',aK];exact H8;rw[af (by simp;omega)];obtain rfl:j=(ck.due o.E2 d).length:=ae
 rw[aX ae]at E;refine J g7 X7 P D ?_ f' O (λy v=>(g2 y v).1);unfold lT;rw[j'];exact E
def CS(s:CF)(d:Ev):CF:=((nF s.L d).map (λz=>(z.num:Int))).foldl tn s
def Ug(e:Cm h t X s m x A S a b l)(d:Ev):mS (x.filter (λy=>decide (y.e=d)))=(nF s.L d).map (λz=>(z.num:Int)):=by unfold nF mS;rw[<-e.abs,dT,dR];rfl
theorem sJ(e:Ct h t X s)(I:Small s)(ho:s.gone<=40000)(d:Ev)(hk: ∀H r P B,Ct H t r (CS s d)->bp X h r H->Ay H r P (nF s.L d).length B ((nF s.L d).map (λz=>(z.num:Int)))->(∀y,aL P y->h.size<=y)->R (.slice P (nF s.L d).length B) H):
  Cl 183 #[.P t 0,mh d] h R:=by
 have Q:=e;have⟨m,x,A,S,a,b,l,e⟩:=e;have sl:=I.l;have xl:=e.len;refine th (av.box λb' h1 eb hb F=>av.ld hb (wx (e.on F) d ae λh2 v C O g2 f2=>⟨_,_,_,rfl,?_⟩));have w:=F.tt f2;have z1:=F.1;rw[Jw e d,Ug e d]at O;rw[Jw e d];have ol:(nF s.L d).length<=s.L.length:=cS _ _;have kl:((nF s.L d).map (λz=>(z.num:Int))).length=(nF s.L d).length:=aw _;have V:Ay h2 X v (nF s.L d).length C ((nF s.L d).map (λz=>(z.num))):=⟨O,kl.symm,λy E hm=>by have h1:=g2 y E;have:=e.JV y ((e.mm y).1 hm);omega⟩;have a': ∀(s:CF) k,Small s->Small (tn s k):=λs k h=>⟨(h.rem k).n,(h.rem k).l,(h.rem k).e1,(h.rem k).e2⟩;refine⟨λu G=> ∃(i:Nat)(j:Ft),u=(i)/\i<=(nF s.L d).length/\Ct G t j ((((nF s.L d).map (λz=>(z.num))).take i).foldl tn s)/\bp X h j G/\Ay G j v (nF s.L d).length C ((nF s.L d).map (λz=>(z.num))),λu _=>(nF s.L d).length - u.toNat,⟨0,X,rfl,bK _,Q.on w,bp.iw w,V⟩,?_⟩;rintro _ G ⟨i,j,rfl,hi,o,M,q⟩;by_cases c':i<(nF s.L d).length;rw[gH];have⟨k,D⟩:=OK ((nF s.L d).map (λz=>(z.num:Int))) i;refine q.at D (rq o (qm a' (((nF s.L d).map (λz=>(z.num))).take i) _ I) k λg3 Z T J=>⟨rfl,T.WR ?_ λg4 U L=> ?_⟩);show((((nF s.L d).map (λz=>(z.num))).take i).foldl tn s).gone<=100000;rw[Ii,bT];omega;rw[fc];refine⟨⟨i+1,Z,ae,ae,?_,M.trans (J.trans L),(q.step J).step L⟩,by grind⟩;rw[yO D];exact U;rw[af (by grind)];rw[aX ae]at o;exact hk G j v C o M q (λy E=>by grind)
abbrev Sd:Value:=.agg #[.int .i64 0,.bool false,.int .u64 0,.int .u64 0,.string ⟨#[]⟩,.string ⟨#[]⟩,.slice none 0 0,.int .u64 0,.int .i64 0,.int .u64 0]
abbrev Cp.val(z:Cp)(p:bZ)(c:Nat):Value:=.agg #[.int .i64 (z.num:Int),.bool z.e.jY,.int .u64 z.e.node,.int .u64 z.e.fK,.string z.e.host,.string z.e.jl,.slice p z.d.length c,.int .u64 (z.dB:Int),.int .i64 z.ses,.int .u64 (z.dl:Int)]
def yP(d:Int)(D:Nat):Prop:=1<=d/\d<=2^40/\D<=2^40
def nW(L:List Cp)(d:Ev):Option Cp:=(nF L d).find? (λz=>decide (z.ses=0))
def wD(s:CF)(z:Cp)(e:Int)(d:Nat):CF:= { s with L:=tj s.L z.num e d,E2:=pM s.E2 (z.num:Int) (d:Int) }
theorem yQ(d:R (.B (decide (1<=k/\k<=1099511627776))) h):Cl 319 #[.I k] h R:=by refine uJ ?_;by_cases q:1<=k;grind;grind
def PH(u:Ct h t X s)(sm:Small s)(hb: ∀z∈s.L,1<=z.num/\z.num<s.next/\z.d.length<=600)(C:Ev)(q:Int)(d:Nat)(T':k=(d:Int))(k1: ¬yP q d->iG h R (.T #[Sd,.I 1]))(k2:yP q d->nW s.L C=none->iG h R (.T #[Sd,.I 4]))(k3:yP q d->∀z,nW s.L C=some z->∀H X' p' c',Ct H t X' (wD s z q d)->bp X h X' H->Row H p' (bc z.d)->z.d.length<=c'->(∀y,aL p' y->h.size<=y/\¬(X'.M y\/X'.D y))->R (.T #[({ z with ses:=q,dl:=d } :Cp).val p' c',.I 0]) H):
  Cl 262 #[.P t 0,mh C,.I q,.U k] h R:=by
 subst T';obtain⟨m,x,A,S,a,b,l,u⟩:=u;have sn:=sm.n;have sl:=sm.l;have se:=sm.e2;have xl:=u.len;refine rC (av.box λb8 h1 e1 e' f1=>aQ.box λB P e2 l' f2=> ?_);have z1:=aD e';have z2:=aD l';have a':=f1.tt f2;have e':=f2.get e' id;refine gh (u.on a') ⟨_,rfl,?_⟩;rw[dz];have c5:=f1.1;have t': ∀M (e:Int),Fr No P M->(iG h R (.T #[Sd,.I e]))->aQ.ST M (AA B 0) 0 false 0 0 (⟨#[]⟩:cF) (⟨#[]⟩:cF) none 0 0 0 0 0 λg2=>aQ.LD g2 (AA B 0) λa0 a1 a2 a3 a4 a5 a8 a7 a6 a9 b0 b1=>
   R (.T #[.agg #[.I a0,.B a1,.U a2,.U a3,.S a4,.S a5,.L a8 a7 a6,.U a9,.I b0,.U b1],.I e]) g2:=λM e fg hk=>
  aQ.set (fg.get l' id) λg2 a s2 o2=>aQ.ld a (hk g2 ((a'.tt fg).fresh (S:=λy=>y=B) ⟨ae,λy _ v=>o2 y v⟩ (λy e=>ae)))
 refine aB.of λF' hJ=>yQ ⟨_,rfl,?_⟩;have j': ¬yP q d->F' true P:=λv=>by subst hJ;simp only[bJ];exact t' P 1 (Fr.refl _ _) (k1 v)
 by_cases U:1<=q/\q<=1099511627776
 .rw[aC U,dz];by_cases q2:(d:Int)>1099511627776;rw[aC q2];exact j' (λhm=>bN hm.2.2)
  .rw[aT q2];clear j';subst hJ;simp only[az,aY];have hm:yP q d:=⟨U.1,U.2,ae⟩;refine av.ld e' (wx (u.on a') C ae λE p7 c7 o7 g7 f7=>⟨_,_,_,rfl,?_⟩);have F7:=a'.tt f7;have Z:=u.on F7;have x':=f7.get l' id;have hF:(x.filter (λy=>decide (y.e=C))).map CV.abs=nF s.L C:=by unfold nF;rw[<-u.abs,dT];rfl
   generalize z':x.filter (λy=>decide (y.e=C))=r at o7 hF;have nl:(mS r).length=r.length:=by unfold mS;rw[aw]
   have fl:r.length<=x.length:=by rw[<-z'];exact cS _ _
   refine⟨λo' M=>M=E/\∃i:Nat,o'=(i:Int)/\i<=r.length/\∀j y,j<i->r[j]? =some y->y.ses≠0,λo' _=>r.length - o'.toNat,⟨rfl,0,rfl,bK _,λj y G=>ae⟩,?_⟩;rintro _ E ⟨rfl,i,rfl,hi,k'⟩;by_cases y':i<r.length
   .rw[gH];have⟨y,o⟩:=lP y';have Q:y∈x:=by
     have:=aG o;rw[<-z']at this;exact(bD.1 this).1
    obtain⟨ab,ao,rfl⟩:=o7.addr ae;have cc:=o7.cell (j:=i) (v:=iC (y.num:Int)) (by rw[aN];unfold mS;rw[aN,o];rfl);have L7:=look Z Q;have ca:=Z.GQ y Q;simp only[aK,cC];refine⟨ae,ar.2 ⟨_,cc,_,ai Z.cN,_,L7,ar.2 ⟨_,ai ca,?_⟩⟩⟩;by_cases f':y.ses=0;rw[ag (dH f')];have V':nW s.L C=some y.abs:=by
     unfold nW;rw[<-hF,List.find?_map];have:r.find? ((λz:Cp=>decide (z.ses=0)) ∘ CV.abs)=some y:=by rw[fY];refine⟨by simp[CV.abs,f'],i,y',(aJ.1 o).2,λj G=> ?_⟩;have T:=k' j (r[j]' ae) G (au ae);have Z':decide ((r[j]' ae).abs.ses=0)=false:=aT T;show(!decide ((r[j]' ae).abs.ses=0))=true;rw[Z'];rfl
     rw[this];rfl
    have m':=hb y.abs (by rw[<-u.abs];exact bL Q);have c2:1<=y.num:=m'.1;have c3:y.num<s.next:=m'.2.1;have c4:y.v.b.length<=600:=m'.2.2;refine ar.2 (Z.Ie (ses:=q) (dl:=d) Q λc1 h' b3=>⟨_,ai h'.cN,?_⟩);have U':may (y.num:Int) (d:Int)=true:=lE.2 ⟨ae,ae,ae⟩;refine ck.BE h'.LW (by show s.E2.length<_;omega) (y.num:Int) (d:Int) ae (λ_ u' b7 E' P' O'=>⟨_,rfl,?_⟩) (λhx=>absurd U' (by rw[hx];simp));obtain⟨w,c6,i',b4,_⟩:=h'.Jq (s':=wD s y.abs q d) E' P' O' rfl rfl rfl ⟨rfl,rfl,rfl,rfl⟩;have A':({ y with ses:=q,dl:=d } :CV)∈x.map (λz=>if z.num=y.num then({ y with ses:=q,dl:=d } :CV)else z):=bh.2 ⟨y,Q,ag rfl⟩;have s':=i'.GQ _ A';have M':=i'.Gt _ A';refine ar.2 (aQ.ld s' (aQ.new λJ v' c0 w' F=>ar.2 ⟨_,_,_,ai (F.get s' id),hY ((M'.row).frame F bC) rfl (by show y.v.b.length<=_;omega) λg' r' Q' C' L O=>⟨_,_,_,rfl,?_⟩⟩));have V:=b3.trans b4;have d1:E.size<=u'.size:=V.fr.1;have d3:=F.1;refine bf (L.get w' id) bt λb' K' c9 n'=> ?_;have R':aQ.at b' J (y.num:Int) y.e.jY y.e.node y.e.fK y.e.host y.e.jl g' y.v.b.length r' (y.dB:Int) q (d:Int):=K';refine aQ.ld R' ?_;have nM: ∀y,y<E.size->h.size<=y->¬w.M y:=λy y1 y2 hm=>by rcases V.iA y hm with h3|h3;have:=u.JV y ((u.mm y).1 h3);omega;omega
    have b6:B<E.size:=aD x';have J': ¬X.M B:=λhm=>by have:=u.JV B ((u.mm B).1 hm);omega
    have S':aQ.at b' B 0 false 0 0 ⟨#[]⟩ ⟨#[]⟩ none 0 0 0 0 0:=by
     have h3:=V.fr.get x' J';have h4:=(F.tt L).get h3 id;have:B≠J:=ae
     unfold aQ.at;rw[n' B this];exact h4
    refine aQ.set S' λd' L' d0 D'=>aQ.ld L' ?_;have c8: ∀y,aL g' y->v'.size<=y:=O;have fA:Fr (λy=>y=J) Q' b':=⟨ae,λy _ v=>n' y v⟩;have fB:Fr (λy=>y=B) b' d':=⟨ae,λy _ v=>D' y v⟩;have b9:J<v'.size:=aD w';have b2:Row d' g' (bc y.v.b):=((C'.hT).frame fA (λD ea hm=>by have:=O D.block ⟨D,ea,rfl⟩;have hm:D.block=J:=hm;omega)).frame fB (λD ea hm=>by have:=O D.block ⟨D,ea,rfl⟩;have hm:D.block=B:=hm;omega);have q':Ct u' t w (wD s y.abs q d):=⟨_,_,_,_,_,_,_,i'⟩;have B':=λy (o:w.M y\/w.D y)=>q'.lt y o;have G':=q'.on (F.tt L);have H':=G'.frame fA (λy o e=>bN (B' y o));have d2: ¬(w.M B\/w.D B):=λhm=>by rcases hm with hm|hm;exact nM B b6 ae hm;rcases V.jF B hm with h3|h3;have:=(u.dd B h3).2;omega;omega
    have I':=H'.frame fB (λy o e=>d2 (e▸o));have I:=bp.no F7 V;have b5:bp X h w d':=by refine⟨⟨gM L.1 I.fr.1,λy o v=> ?_⟩,I.iA,I.jF,I.nP⟩;have:=I.fr.1;rw[D' y ae,n' y ae,(F.tt L).2 y ae id];exact I.fr.2 y o v
    exact k3 hm y.abs V' d' w g' r' I' b5 b2 C'.le (λy o=>⟨gM (O y o) F7.1,λhx=>gM (B' y hx) (O y o)⟩)
    .rw[af (dH f'),fc];refine⟨⟨by first|trivial|rfl,i+1,ae,ae,λj z G T=> ?_⟩,by show r.length - Int.toNat ((i:Int)+1)<r.length - i;omega⟩;by_cases ej:j=i;subst ej;rw[o]at T;cases T;exact f';exact k' j z ae T
   rw[af (by simp;omega)];refine t' E 4 f7 (k2 hm ?_);unfold nW;rw[<-hF,List.find?_map];have:r.find? ((λz:Cp=>decide (z.ses=0)) ∘ CV.abs)=none:=by rw[List.find?_eq_none];intro y o;obtain⟨j,G⟩:=bA o;have:=k' j y (bN ((aJ.1 G).1)) G;have P:decide (y.abs.ses=0)=false:=aT this;show¬(decide (y.abs.ses=0)=true);rw[P];decide
   rw[this];rfl
 rw[aT U,gH];exact j' (λhm=>U ⟨hm.1,hm.2.1⟩)

end gi
end
section
open Go.jD
namespace gi
open ju ck gg
variable {h:aA} {t:Nat} {X:Ft} {s s':CF} {n:Nat} {now:Int}
variable {z:Cp} {L:List Cp} {k a ses:Int} {e:E} {b:Nat} {K:List Int}
structure Ord (s:CF):Prop where
 nd:(s.L.map Cp.num).Nodup
 o1:jL s.E1
 o2:jL s.E2
 n1:(keys s.E1).Nodup
 n2:(keys s.E2).Nodup
def Ct.ord(H:Ct h t X s):Ord s:=by have⟨m,x,A,S,d,c,l,H⟩:=H;refine⟨?_,H.LV.sorted,H.LW.sorted,H.LV.nodup,H.LW.nodup⟩;rw[<-H.abs,dR];exact H.so.imp (λh=>Nat.ne_of_lt h)
structure uZ (s:CF):Prop where
 bd: ∀z∈s.L,1<=z.num/\z.num<s.next/\z.d.length<=600
 sp: ∀z∈s.L,0<=z.ses
 e1: ∀e,e∈s.E1↔ ∃z∈s.L,e=((z.num:Int),(z.dB:Int))
 e2: ∀e,e∈s.E2↔ ∃z∈s.L,z.ses≠0/\e=((z.num:Int),(z.dl:Int))
 zj:s.next=1+s.L.length+s.fG+s.over+s.gone
theorem Ord.inj(O:Ord s){y:Cp}(g:z∈s.L)(f:y∈s.L)(e:z.num=y.num):z=y:=by
 have⟨i,l⟩:=bA g;have⟨j,m⟩:=bA f;by_cases d:i=j;grind;exfalso;have H:(s.L.map Cp.num)[i]? =some z.num:=by grind
 have c:(s.L.map Cp.num)[j]? =some y.num:=by grind
 have:=(eE (by grind) O.nd).1 (H.trans ((bV some e).trans c.symm));exact d this
def xi{L:List E}:e∈gE L k↔e∈L/\e.1≠k:=by unfold gE;simp[bD]
def Az{L:List E}{v:Int}:e∈pM L k v↔e=(k,v)\/(e∈L/\e.1≠k):=by unfold pM;rw[(me _ _).mem_iff,bG,xi]
def py :z∈GR L k↔z∈L/\(z.num:Int)≠k:=by unfold GR;simp[bD]
def pz :z∈tj L n a b↔ ∃y∈L,z=if y.num=n then { y with ses:=a,dl:=b } else y:=by unfold tj;rw[bh];exact⟨λ⟨y,H,c⟩=>⟨y,H,c.symm⟩,λ⟨y,H,c⟩=>⟨y,H,c.symm⟩⟩
def Se(L:List Cp)(n:Nat)(a:Int)(b:Nat):(tj L n a b).length=L.length:=by unfold tj;rw[aw]
theorem Av: ∀{L:List Cp},(L.map Cp.num).Nodup->∀{z:Cp},z∈L->(GR L (z.num:Int)).length+1=L.length
 | [],_,z,hz=>by cases hz
 |y::l,c,z,hz=>by rw[cp,gz]at c;unfold GR;rw[di];rcases bG.1 hz with rfl|hz;rw[af bt,cK.2 (λx H=> ?_),ba];have:x.num≠z.num:=λe=>c.1 (by grind);simp;omega;rw[ag (by grind),ba,ba];have:=Av c.2 hz;unfold GR at this;omega
theorem uZ.add(o:uZ s)(x:Ev)(d:cQ)(T:Nat):uZ (mq s x d T):=by
 unfold mq;by_cases H:jQ s x d T=0;rw[ag H];have hd:=by unfold jQ at H;split at H;rename_i c;unfold Ax at c;simp only[aZ,bn]at c;exact c.2.2.2.1;cases H
 refine⟨λz hz=> ?_,λz hz=> ?_,λe=> ?_,λe=> ?_,?_⟩;rcases bP.1 hz with hz|hz;have:=o.bd z hz;exact⟨this.1,Nat.lt_succ_of_lt this.2.1,this.2.2⟩;obtain rfl:=bW.1 hz;exact⟨by have:=o.zj;show 1<=s.next;omega,Nat.lt_succ_self _,hd⟩;rcases bP.1 hz with hz|hz;exact o.sp z hz;grind;show e∈pM s.E1 _ _↔ ∃z∈s.L++ [_],_;rw[Az,o.e1];constructor;rintro(rfl|⟨⟨z,hz,rfl⟩,_⟩);simp;grind;rintro⟨z,hz,rfl⟩;rcases bP.1 hz with hz|hz;exact .inr ⟨⟨z,hz,rfl⟩,by have:=(o.bd z hz).2.1;show(z.num:Int)≠_;omega⟩;grind;show e∈s.E2↔ ∃z∈s.L++ [_],_;rw[o.e2];constructor;simp;grind;have:=o.zj;show s.next+1=1+(s.L++ [_]).length+s.fG+s.over+s.gone;rw[aq,fk];omega;grind
def uZ.rem(o:uZ s)(O:Ord s)(l:z∈s.L)(c:s'.L=GR s.L (z.num:Int))(i:s'.E1=gE s.E1 (z.num:Int))(j:s'.E2=gE s.E2 (z.num:Int))(g:s'.next=s.next)(m:s'.fG+s'.over+s'.gone=s.fG+s.over+s.gone+1):uZ s':=by refine⟨λy H=> ?_,λy H=> ?_,λe=> ?_,λe=> ?_,?_⟩;rw[c,py]at H;rw[g];exact o.bd y H.1;rw[c,py]at H;exact o.sp y H.1;rw[i,xi,o.e1,c];constructor;rintro⟨⟨y,H,rfl⟩,d⟩;exact⟨y,py.2 ⟨H,d⟩,rfl⟩;rintro⟨y,H,rfl⟩;have:=py.1 H;exact⟨⟨y,this.1,rfl⟩,this.2⟩;rw[j,xi,o.e2,c];constructor;rintro⟨⟨y,H,f,rfl⟩,d⟩;exact⟨y,py.2 ⟨H,d⟩,f,rfl⟩;rintro⟨y,H,f,rfl⟩;have:=py.1 H;exact⟨⟨y,this.1,f,rfl⟩,this.2⟩;have:=Av O.nd l;have:=o.zj;rw[g,c];omega
theorem Lq(h:mH L k ses=0): ∃z∈L,(z.num:Int)=k/\z.ses=ses/\ses≠0:=by
 unfold mH at h;cases H:Dt L k with
 |none=>grind
 |some z=>rw[H]at h;dsimp only at h;split at h;cases h;rename_i c;have⟨d,f⟩:=BP H;refine⟨z,d,f,?_,?_⟩<;>(simp only[not_or,Decidable.not_not]at c);exact c.2;omega
theorem uZ.Y2(o:uZ s)(O:Ord s)(k ses:Int):uZ (xM s k ses):=by unfold xM;by_cases H:mH s.L k ses=0;rw[ag H];obtain⟨z,c,rfl,_,_⟩:=Lq H;exact o.rem O c rfl rfl rfl rfl (by show s.fG+1+s.over+s.gone=_;omega);grind
theorem uZ.set(o:uZ s)(O:Ord s)(q:z∈s.L)(p:0<=a)(d:s'.L=tj s.L z.num a b)(i:s'.E1=s.E1)(j: ∀e,e∈s'.E2↔(a≠0/\e=((z.num:Int),(b:Int)))\/(e∈s.E2/\e.1≠(z.num:Int)))(g:s'.next=s.next)(r:s'.fG+s'.over+s'.gone=s.fG+s.over+s.gone):uZ s':=by refine⟨λy H=> ?_,λy H=> ?_,λe=> ?_,λe=> ?_,?_⟩;rw[d,pz]at H;obtain⟨u,c,rfl⟩:=H;rw[g];have:=o.bd u c;split<;>exact this;rw[d,pz]at H;obtain⟨u,c,rfl⟩:=H;split;exact p;exact o.sp u c;rw[i,o.e1,d];constructor;rintro⟨y,H,rfl⟩;refine⟨_,pz.2 ⟨y,H,rfl⟩,?_⟩;split<;>rfl;rintro⟨y,H,rfl⟩;obtain⟨u,c,rfl⟩:=pz.1 H;refine⟨u,c,?_⟩;split<;>rfl;rw[j,o.e2,d];constructor;rintro(⟨l,rfl⟩|⟨⟨y,H,f,rfl⟩,m⟩);refine⟨_,pz.2 ⟨z,q,rfl⟩,?_⟩;rw[ag rfl];exact⟨l,rfl⟩;refine⟨_,pz.2 ⟨y,H,rfl⟩,?_⟩;rw[af (λe=>m (by rw[e]))];exact⟨f,rfl⟩;rintro⟨y,H,f,rfl⟩;obtain⟨u,c,rfl⟩:=pz.1 H;by_cases e:u.num=z.num;grind;grind;have:=o.zj;rw[g,d,Se];omega
theorem uZ.rel(o:uZ s)(O:Ord s)(k ses:Int):uZ (Ju s k ses):=by unfold Ju;by_cases H:mH s.L k ses=0;rw[ag H];obtain⟨z,c,rfl,_,_⟩:=Lq H;refine o.set O c (gv 0) rfl rfl (λe=> ?_) rfl rfl;show e∈gE _ _↔_;rw[xi];simp;grind
theorem M4{x:Ev}(h:nW L x=some z):z∈L/\z.e=x/\z.ses=0:=by unfold nW nF at h;have H:=List.mem_of_find?_eq_some h;rw[bD]at H;exact⟨H.1,by grind,by grind⟩
def uZ.Ie(o:uZ s)(O:Ord s)(c:z∈s.L){dl:Nat}(H:yP ses dl):uZ (wD s z ses dl):=by
 have d:=H.1;refine o.set O c ae rfl rfl (λe=> ?_) rfl rfl;show e∈pM _ _ _↔_;rw[Az];have:ses≠0:=ae
 simp[this]
theorem gW: ∀{L:List E},jL L->ck.due L now=L.filter (lB now)/\ck.rest L now=L.filter (λe=> !lB now e)
 | [],_=>⟨rfl,rfl⟩
 |e::r,f=>by
  have d:=dF.1 f;have⟨i,I⟩:=gW d.2;unfold ck.due at i⊢;unfold ck.rest at I⊢;by_cases j:lB now e=true;simp_all;have c:lB now e=false:=by grind
  have all: ∀x∈r,lB now x=false:=by intro x H;have h1:=d.1 x H;have g:=fV c;apply aT;rcases h1 with h1|h1<;>omega
  rw[List.takeWhile_cons,List.dropWhile_cons,di,di,c];simp only[az,aY,ee,bJ];refine⟨?_,?_⟩;simp_all;congr 1;symm;rw[cK];intro x H;rw[all x H];rfl
def AB(L:List Cp)(K:List Int):List Cp:=L.filter (λz=> !decide ((z.num:Int)∈K))
def tB(L:List E)(K:List Int):List E:=L.filter (λe=> !decide (e.1∈K))
def FG(L:List Cp):AB L []=L:=by exact cK.2 (λ_ _=>bt)
def wE(L:List E):tB L []=L:=by exact cK.2 (λ_ _=>bt)
theorem BR(L:List Cp)(k:Int)(K:List Int):AB (GR L k) K=AB L (k::K):=by unfold AB GR;rw[List.filter_filter];apply eO;intro x _;by_cases H:(x.num)=k;simp[H];grind
theorem rD(L:List E)(k:Int)(K:List Int):tB (gE L k) K=tB L (k::K):=by unfold tB gE;rw[List.filter_filter];apply eO;intro x _;by_cases H:x.1=k;simp[H];grind
def Il: ∀(K:List Int)(s:CF),K.foldl mw s= { s with L:=AB s.L K,E1:=tB s.E1 K,E2:=tB s.E2 K,over:=s.over+K.length }
 | [],s=>by rw[FG,wE,wE];rfl
 |k::K,s=>by rw[List.foldl_cons,Il K];unfold mw Jt;dsimp only;rw[BR,rD,rD,ba];congr 1;omega
def BT: ∀(K:List Int)(s:CF),K.foldl tn s= { s with L:=AB s.L K,E1:=tB s.E1 K,E2:=tB s.E2 K,gone:=s.gone+K.length }
 | [],s=>by rw[FG,wE,wE];rfl
 |k::K,s=>by rw[List.foldl_cons,BT K];unfold tn Jt;dsimp only;rw[BR,rD,rD,ba];congr 1;omega
def qo(L:List Cp)(K:List Int):List Cp:=L.map (λz=>if(z.num:Int)∈K then { z with ses:=0,dl:=0 } else z)
theorem Im: ∀(K:List Int)(s:CF),(∀k∈K,0<=k)->K.foldl (λs k=>wB s k.toNat) s= { s with L:=qo s.L K,E2:=tB s.E2 K }
 | [],s,_=>by
  rw[wE];have:qo s.L []=s.L:=by unfold qo;simp
  rw[this];rfl
 |k::K,s,H=>by
  rw[List.foldl_cons,Im K _ (λj c=>H j (bQ _ c))];have f:=H k bt;unfold wB;have e:((k.toNat))=k:=ae
  rw[e,rD];have:qo (tj s.L k.toNat 0 0) K=qo s.L (k::K):=by unfold qo tj;rw[dR];apply fh;intro x _;by_cases d:x.num=k.toNat;grind;grind
  rw[this]
theorem Oc: ∀(K:List Int)(L:List Cp),(L.map Cp.num).Nodup->K.Nodup->(∀k∈K,∃z∈L,(z.num:Int)=k)->(AB L K).length+K.length=L.length
 | [],L,_,_,_=>by rw[FG];rfl
 |k::K,L,c,l,H=>by obtain⟨z,i,rfl⟩:=H k bt;rw[<-BR,ba];have m:=Av c i;have d:=gz.1 l;have o:=Oc K (GR L (z.num)) (fL (gD _ da) c) d.2 (λj f=>by have⟨y,g,e⟩:=H j (bQ _ f);exact⟨y,py.2 ⟨g,λE=>d.1 (by grind)⟩,e⟩);omega
def pA :z∈AB L K↔z∈L/\(z.num:Int)∉K:=by unfold AB;simp[bD]
def FH{L:List E}:e∈tB L K↔e∈L/\e.1∉K:=by unfold tB;simp[bD]
def PI :z∈qo L K↔ ∃y∈L,z=if(y.num:Int)∈K then { y with ses:=0,dl:=0 } else y:=by unfold qo;rw[bh];exact⟨λ⟨y,H,c⟩=>⟨y,H,c.symm⟩,λ⟨y,H,c⟩=>⟨y,H,c.symm⟩⟩
def Sf(O:Ord s)(x:Ev):((nF s.L x).map (λz=>(z.num:Int))).Nodup:=by
 have:((nF s.L x).map Cp.num).Nodup:=fL (gD _ da) O.nd;have e:(nF s.L x).map (λz=>(z.num:Int))=((nF s.L x).map Cp.num).map (λn:Nat=>(n:Int)):=bt
 rw[e];exact List.Pairwise.map _ (λa b h=>ae) this
def uZ.outs(o:uZ s)(O:Ord s)(m:K.Nodup)(l: ∀k∈K,∃z∈s.L,(z.num:Int)=k)(c:s'.L=AB s.L K)(i:s'.E1=tB s.E1 K)(j:s'.E2=tB s.E2 K)(g:s'.next=s.next)(p:s'.fG+s'.over+s'.gone=s.fG+s.over+s.gone+K.length):uZ s':=by refine⟨λy H=> ?_,λy H=> ?_,λe=> ?_,λe=> ?_,?_⟩;rw[c,pA]at H;rw[g];exact o.bd y H.1;rw[c,pA]at H;exact o.sp y H.1;rw[i,FH,o.e1,c];constructor;rintro⟨⟨y,H,rfl⟩,d⟩;exact⟨y,pA.2 ⟨H,d⟩,rfl⟩;rintro⟨y,H,rfl⟩;have:=pA.1 H;exact⟨⟨y,this.1,rfl⟩,this.2⟩;rw[j,FH,o.e2,c];constructor;rintro⟨⟨y,H,f,rfl⟩,d⟩;exact⟨y,pA.2 ⟨H,d⟩,f,rfl⟩;rintro⟨y,H,f,rfl⟩;have:=pA.1 H;exact⟨⟨y,this.1,f,rfl⟩,this.2⟩;have:=Oc K s.L O.nd m l;have:=o.zj;rw[g,c];omega
theorem uZ.drop(o:uZ s)(O:Ord s)(x:Ev):uZ (CS s x):=by unfold CS;rw[BT];refine o.outs O (Sf O x) (λk H=> ?_) rfl rfl rfl rfl (by grind);have⟨z,c,e⟩:=bh.1 H;exact⟨z,(bD.1 c).1,e⟩
def Jx(O:Ord s):e∈ck.due s.E1 now↔e∈s.E1/\e.2<=now:=by rw[(gW O.o1).1,bD];unfold lB;simp
def PJ(O:Ord s)(now:Int):(keys (ck.due s.E1 now)).Nodup:=by exact fL (gD _ (List.takeWhile_sublist _)) O.n1
def Jy(o:uZ s)(O:Ord s)(H:z∈s.L):(z.num:Int)∈keys (ck.due s.E1 now)↔(z.dB:Int)<=now:=by unfold keys;rw[bh];constructor;rintro⟨e,f,E⟩;have⟨c,d⟩:=(Jx O).1 f;obtain⟨y,g,rfl⟩:=(o.e1 e).1 c;obtain rfl:=O.inj g H (Int.ofNat.inj E);exact d;intro h;exact⟨(z.num,z.dB),(Jx O).2 ⟨(o.e1 _).2 ⟨z,H,rfl⟩,h⟩,rfl⟩
def VZ(o:uZ s)(O:Ord s)(c:k∈keys (ck.due s.E1 now)): ∃z∈s.L,(z.num:Int)=k:=by obtain⟨e,H,rfl⟩:=bh.1 c;obtain⟨z,d,rfl⟩:=(o.e1 e).1 ((Jx O).1 H).1;exact⟨z,d,rfl⟩
theorem PK(O:Ord s):tB (ck.rest s.E1 now) (keys (ck.due s.E1 now))=tB s.E1 (keys (ck.due s.E1 now)):=by rw[(gW O.o1).1,(gW O.o1).2];unfold tB keys;rw[List.filter_filter];apply eO;intro e H;by_cases hd:lB now e=true;grind;simp[hd]
def nH(now:Int)(z:Cp):Cp:=if z.ses≠0/\(z.dl:Int)<=now then { z with ses:=0,dl:=0 } else z
def Sg(s:CF)(now:Int):CF:= { L:=AB s.L (keys (ck.due s.E1 now)),next:=s.next,fG:=s.fG,over:=s.over+(keys (ck.due s.E1 now)).length,gone:=s.gone,E1:=tB s.E1 (keys (ck.due s.E1 now)),E2:=tB s.E2 (keys (ck.due s.E1 now)) }
def Si(S:CF)(now:Int):CF:=(keys (ck.due S.E2 now)).foldl (λs k=>wB s k.toNat) { S with E2:=ck.rest S.E2 now }
def Sj(O:Ord s):lT s now=Si (Sg s now) now:=by unfold lT Si Sg;rw[Il,PK O]
theorem PL(l:uZ s)(O:Ord s)(now:Int):uZ (lT s now)/\(∀z,z∈(lT s now).L↔ ∃y∈s.L,now<(y.dB:Int)/\z=nH now y)/\(lT s now).next=s.next/\(lT s now).E1.length<=s.E1.length/\(lT s now).E2.length<=s.E2.length/\(lT s now).L=(s.L.filter (λy=>decide (now<(y.dB:Int)))).map (nH now)/\(lT s now).fG=s.fG/\(lT s now).over=s.over+(ck.due s.E1 now).length/\(lT s now).gone=s.gone:=by
 rw[Sj O];generalize g:Sg s now=S;have o:uZ S:=by subst g;exact l.outs O (PJ O now) (λk j=>VZ l O j) rfl rfl rfl rfl (by show s.fG+(s.over+_)+s.gone=_;omega)
 have m:Ord S:=by subst g;exact⟨fL (gD _ da) O.nd,gJ _ O.o1,gJ _ O.o2,fL (gD _ da) O.n1,fL (gD _ da) O.n2⟩
 have M: ∀z,z∈S.L↔z∈s.L/\now<(z.dB:Int):=λz=>by subst g;show z∈AB _ _↔_;rw[pA];constructor;rintro⟨d,i⟩;exact⟨d,Int.not_le.1 (λe=>i ((Jy l O d).2 e))⟩;rintro⟨d,i⟩;exact⟨d,λe=>absurd ((Jy l O d).1 e) (Int.not_le.2 i)⟩
 have I:S.next=s.next:=by subst g;rfl
 have B:S.E1.length<=s.E1.length:=by subst g;exact cS _ _
 have G:S.E2.length<=s.E2.length:=by subst g;exact cS _ _
 have C:S.fG=s.fG/\S.over=s.over+(ck.due s.E1 now).length/\S.gone=s.gone:=by subst g;exact⟨rfl,by show s.over+(keys _).length=_;unfold keys;rw[aw],rfl⟩
 have u:S.L=s.L.filter (λy=>decide (now<(y.dB:Int))):=by subst g;show AB _ _=_;unfold AB;refine eO λz c=> ?_;have:=Jy (now:=now) l O c;by_cases hd:(z.dB:Int)<=now;rw[aC (this.2 hd),aT (Int.not_lt.2 hd)];rfl;grind
 clear g;have p: ∀e,e∈ck.due S.E2 now↔e∈S.E2/\e.2<=now:=λe=>by rw[(gW m.o2).1,bD];unfold lB;simp
 have D: ∀z∈S.L,((z.num:Int)∈keys (ck.due S.E2 now)↔z.ses≠0/\(z.dl:Int)<=now):=λz c=>by unfold keys;rw[bh];constructor;rintro⟨e,r,E⟩;obtain⟨d,i⟩:=(p e).1 r;obtain⟨y,H,f,rfl⟩:=(o.e2 e).1 d;obtain rfl:=m.inj H c (Int.ofNat.inj E);exact⟨f,i⟩;rintro⟨d,i⟩;exact⟨(z.num,z.dl),(p _).2 ⟨(o.e2 _).2 ⟨z,c,d,rfl⟩,i⟩,rfl⟩
 have v: ∀k∈keys (ck.due S.E2 now),0<=k:=λk j=>by unfold keys at j;obtain⟨e,r,rfl⟩:=bh.1 j;obtain⟨z,c,_,rfl⟩:=(o.e2 e).1 ((p e).1 r).1;show(0:Int)<=(z.num:Int);omega
 unfold Si;rw[Im _ _ v];have q: ∀z∈S.L,(if(z.num:Int)∈keys (ck.due S.E2 now)then({ z with ses:=0,dl:=0 } :Cp)else z)=nH now z:=λz c=>by unfold nH;by_cases hd:z.ses≠0/\(z.dl:Int)<=now;rw[ag hd,ag ((D z c).2 hd)];rw[af hd,af (λe=>hd ((D z c).1 e))]
 have F: ∀z,z∈qo S.L (keys (ck.due S.E2 now))↔ ∃y∈S.L,z=nH now y:=λz=>by rw[PI];constructor;rintro⟨y,H,rfl⟩;exact⟨y,H,q y H⟩;rintro⟨y,H,rfl⟩;exact⟨y,H,(q y H).symm⟩
 have x: ∀y,(nH now y).num=y.num:=λy=>by unfold nH;split<;>rfl
 have J: ∀y,(nH now y).dB=y.dB:=λy=>by unfold nH;split<;>rfl
 have w: ∀y,(nH now y).d=y.d:=λy=>by unfold nH;split<;>rfl
 refine⟨⟨λz c=> ?_,λz c=> ?_,λe=> ?_,λe=> ?_,?_⟩,λz=> ?_,I,B,?_,?_,C⟩;obtain⟨y,H,rfl⟩:=(F z).1 c;rw[x,w];exact o.bd y H;obtain⟨y,H,rfl⟩:=(F z).1 c;unfold nH;split;exact gv _;exact o.sp y H;show e∈S.E1↔ ∃z∈qo _ _,_;rw[o.e1];constructor;grind;grind;show e∈tB (ck.rest S.E2 now) _↔ ∃z∈qo _ _,_;rw[FH,(gW m.o2).2,bD];constructor;rintro⟨⟨d,i⟩,A⟩;obtain⟨y,H,f,rfl⟩:=(o.e2 e).1 d;have hd: ¬(y.ses≠0/\(y.dl:Int)<=now):=λhd=>A ((D y H).2 hd);refine⟨_,(F _).2 ⟨y,H,rfl⟩,?_⟩;unfold nH;rw[af hd];exact⟨f,rfl⟩;rintro⟨z,c,f,rfl⟩;obtain⟨y,H,rfl⟩:=(F z).1 c;unfold nH at f⊢;by_cases hd:y.ses≠0/\(y.dl:Int)<=now;rw[ag hd]at f;exact absurd rfl f;rw[af hd]at f⊢;refine⟨⟨(o.e2 _).2 ⟨y,H,f,rfl⟩,?_⟩,λj=>hd ((D y H).1 j)⟩;have: ¬(y.dl:Int)<=now:=λe=>hd ⟨f,e⟩;unfold lB;simpa using this;have:=o.zj;show S.next=1+(qo _ _).length+_+_+_;unfold qo;rw[aw];exact this;grind;refine cD (cS _ _) (cD (FE _ _) G);show qo _ _=_;rw[<-u];exact fh q

end gi
end
end Go.Proofs.YtelbcloplcdchaaGreatDoor
namespace Go.Proofs
open Go.Den
open IntKind (wrap)
open Int (toNat)
section
open Go.Shelf
def Tryz.Lr:Go.Shelf.Ren:=⟨fun|284=>167|129=>231|317=>230|318=>232|n=>n,fun|53=>27|3=>3|212=>335|0=>0|4=>4|46=>181|5=>5|9=>9|n=>n,fun|17=>0|n=>n⟩
def Tryz.Uh:Go.Proofs.LaysM.n284 Tryz.prog Tryz.Lr:=by constructor;constructor;all_goals first|kernel_rfl|(intro _;kernel_rfl)
def Tryz.Ls:Go.Shelf.Ren:=⟨fun|285=>168|n=>n,fun|37=>32|53=>27|3=>3|4=>4|51=>336|9=>9|5=>5|0=>0|n=>n,fun|n=>n⟩
def Tryz.Ui:Go.Proofs.Lays.n285 Tryz.prog Tryz.Ls:=by constructor;all_goals first|kernel_rfl|(intro _;kernel_rfl)
def Tryz.Lt:Go.Shelf.Ren:=⟨fun|283=>166|n=>n,fun|3=>3|9=>9|4=>4|n=>n,fun|n=>n⟩
def Tryz.Uj:Go.Proofs.Lays.n283 Tryz.prog Tryz.Lt:=by constructor;all_goals first|kernel_rfl|(intro _;kernel_rfl)

end
end Go.Proofs
namespace Go.Proofs.YtelbcloplcdchaaGreatDoor
open Go.Den
open IntKind (wrap)
open Int (toNat)
section
namespace jS
variable {h H:aA} {R:fp}
def nE(h:aA):Prop:= ∃t f,h[(0:Nat)]? =some (.cells (Lib.pow10Tab.map λz=>Value.int .u64 z).toArray t f)
def nE.frame{S:gF}(T:nE h)(f:Fr S h H)(b: ∀c,c<h.size->¬S c):nE H:=by obtain⟨t,F,a⟩:=T;exact⟨t,F,f.get a (b _ (aD a))⟩
def nE.on(T:nE h)(f:Fr No h H):nE H:=T.frame f bC
def nE.is{w:World}{s:String}(b:Tryz.prog.globalNamed s=some 0)(T:nE w.heap):Lib.TabIs Tryz.prog w s .u64 Lib.pow10Tab:=by obtain⟨t,f,a⟩:=T;unfold Lib.TabIs World.var?;rw[b];show(match w.heap[(0:Nat)]? with|some (.cells c _ _)=>some c|_=>none)=_;rw[a]
def Sk{i:Nat}(c:i<100)(d:R (.string ⟨(Lib.decDigits i).toArray⟩) h):Cl 166 #[.I i] h R:=λw f=>(Any.internal_strconv_small Tryz.Uj i c w).mono λe g ⟨b,a⟩=>⟨_,b,by rw[a,f];exact d,by rw[a];exact fQ.refl _⟩
def PM{u:Nat}(T:nE h)(c:1<=u)(d:u<18446744073709551616)(g:R (.I (Lib.nDigits u)) h):Cl 167 #[.U u] h R:=λw a=>(Any.internal_strconv_numDigits Tryz.Uh u c d w (by rw[<-a]at T;exact T.is cZ)).mono λe i ⟨f,b⟩=>⟨_,f,by rw[b,a];exact g,by rw[b];exact fQ.refl _⟩

end jS
end
section
variable {h:aA} {R:fp}
variable {i b:Int}
def my (j:ite (b==10) (ite (decide (i<100)) (Cl 166 #[.I (wrap .i64 i)] h λv d=> ∃T,v=.S T/\R (.S T) d) (aW h (.C #[.int .u8 0,.int .u8 0,.int .u8 0,.int .u8 0,.int .u8 0,.int .u8 0,.int .u8 0,.int .u8 0,.int .u8 0,.int .u8 0,.int .u8 0,.int .u8 0,.int .u8 0,.int .u8 0,.int .u8 0,.int .u8 0,.int .u8 0,.int .u8 0,.int .u8 0,.int .u8 0,.int .u8 0,.int .u8 0,.int .u8 0,.int .u8 0] 274) λB e=>Cl 167 #[.U i] e λV f=>Vi V λt=>((0:Int)<=t/\t<=((24:Nat):Int))/\Cl 168 #[.L (cE (Sa B 0) 24 0 1) ((toNat t) - 0) (24 - 0),.U i] f λn H=>n=.T #[]/\((0:Int)<=t/\t<=((24:Nat):Int))/\∃(a:cF),pV Tryz.prog 32 9 (.L (cE (Sa B 0) 24 0 1) ((toNat t) - 0) (24 - 0)) H a/\R (.S a) H)) (Cl 169 #[.Z,.U i,.I b,.B false,.B false] h λo g=> ∃m l k c,o=.T #[.L m l k,.S c]/\R (.S c) g)):Cl 114 #[.U i,.I b] h R:=aP [] j
def rE(a:Cl 114 #[.U i,.I b] h λv H=> ∃t,v=.S t/\R (.S t) H):Cl 74 #[.U i,.I b] h R:=aP [] a

end
section
namespace jS
variable {h H:aA} {R:fp}
variable {u:Nat}
def PN{B n cap:Nat}{c:Array Value}{t:TypeId}(f:h[B]? =some (.C c t (0,0)))(l: ∀j,j<n->c[j]? =some (.int .u8 0))(r:u<10 ^ n)(s:u<18446744073709551616)(A:n<100)(q: ∀H C d v,H[B]? =some (.C C t (0,0))->Lib.FmtInv n u 0 v d->(∀j,j<n->C[j]? =some (.int .u8 ((d[j]!).toNat:Int)))->H.size=h.size->(∀x,x≠B->H[x]? =h[x]?)->R (.T #[]) H):
  Cl 168 #[.L (Sa B 0) n cap,.U u] h R:=λw y=>by
 subst y;have m:Sort.Holds (λ(b:UInt8)=>Value.int .u8 (b.toNat:Int)) w B 0 (Array.replicate n 0):=λj a=>by
  rw[Array.size_replicate]at a;refine⟨?_,?_⟩;rw[mT,lM f,bj,l j a];have:(Array.replicate n (0:UInt8))[j]! =0:=by simp[a]
  rw[this];rfl;rw[wV];exact nj f
 have K:=Any.internal_strconv_formatBase10 Tryz.Ui B 0 cap u (Array.replicate n 0) w m (by rw[Array.size_replicate];exact r) s (by rw[Array.size_replicate];omega);rw[Array.size_replicate]at K;refine Calls.mono K λe D ⟨o,k,v,d,i,g⟩=>⟨_,o,?_,?_⟩;subst i;have p:((Sort.putRow (λ(b:UInt8)=>Value.int .u8 (b.toNat:Int)) w B 0 d).drewN k).heap=w.heap.modify B (Sort.onCells (Sort.putCells (λ(b:UInt8)=>Value.int .u8 (b.toNat:Int)) 0 d)):=rfl;rw[p];refine q _ (Sort.putCells (λ(b:UInt8)=>Value.int .u8 (b.toNat:Int)) 0 d c) d v ?_ g (λj a=> ?_) bt (λx z=>by rw[dD,af (λe=>z e.symm)]);rw[dD,ag rfl,f];rfl;unfold Sort.putCells;rw[Array.getElem?_mapIdx,l j a,eu,ag ⟨bK _,by rw[g.size];omega⟩,Nat.sub_zero];subst i;exact⟨rfl,rfl,rfl⟩
def tS:Tryz.prog.underlying 32=some (.slice 5):=cZ
def t8:Tryz.prog.underlying 5=some (.int .u8):=cZ
def tT:Tryz.prog.underlying 9=some .string:=cZ
def PO(t:nE h)(d:u<18446744073709551616)(g: iG h R (.string ⟨(Lib.decDigits u).toArray⟩)):Cl 114 #[.U u,.I 10] h R:=by
 refine my ?_;rw[ag (by rfl)];by_cases i:u<100;rw[gH,fc];exact Sk i ⟨_,rfl,g h (Fr.refl _ _)⟩;rw[af (by simp;omega)];refine cg ?_;generalize q:(#[.int .u8 0,.int .u8 0,.int .u8 0,.int .u8 0,.int .u8 0,.int .u8 0,.int .u8 0,.int .u8 0,.int .u8 0,.int .u8 0,.int .u8 0,.int .u8 0,.int .u8 0,.int .u8 0,.int .u8 0,.int .u8 0,.int .u8 0,.int .u8 0,.int .u8 0,.int .u8 0,.int .u8 0,.int .u8 0,.int .u8 0,.int .u8 0]:Array Value)=c;have o: ∀j,j<24->c[j]? =some (.int .u8 0):=by
  have:c=Array.replicate 24 (.int .u8 0):=by rw[<-q];rfl
  intro j a;rw[this];simp[a]
 have f:Fr No h (h.push (.C c 274)):=Fr.push _ _;have m:(h.push (.C c 274))[h.size]? =some (.C c 274 (0,0)):=bR;have w:Lib.nDigits u<=20:=by have:=Lib.numDigits_eq u ae d;split at this<;>omega
 refine PM (t.on f) ae d ⟨_,rfl,ae,?_⟩;have E:cE (some ((AA h.size 0):Addr)) 24 0 1=some (AA h.size 0):=rfl;rw[E,aK,Nat.sub_zero];refine PN m (λj a=>o j ae) (Lib.lt_pow_nDigits u) d ae λk C D V n l p S O=>⟨rfl,ae,str (Lib.decDigits u),?_,?_⟩;refine Kt tS t8 tT (.inr ⟨_,rfl,dO n (λj v a=> ?_)⟩) (Lib.decDigits_length u).symm;rw[bj];have b:j<(Lib.decDigits u).length:=by have:=(aJ.1 a).1;rwa[ks]at this
 have r:j<Lib.nDigits u:=by rwa[Lib.decDigits_length]at b
 rw[p j r,<-Lib.row_is_numeral l j b,<-a];unfold bc;rw[aN,au b];rfl;exact g k (f.fresh (S:=λy=>y=h.size) ⟨ae,λy _ s=>O y s⟩ (λy e=>Nat.le_of_eq e.symm))
def mY(t:nE h)(c:u<18446744073709551616)(b: iG h R (.string ⟨(Lib.decDigits u).toArray⟩)):Cl 74 #[.U u,.I 10] h R:=
 rE (PO t c λa f=>⟨_,rfl,b a f⟩)

end jS
end
section
namespace ju
variable {h:aA} {R:fp}
def fW(x:Ev):cQ:=
 if x=.zero then [100,116,110,58,110,111,110,101]
 else if x.jY=true then [105,112,110,58]++Lib.decDigits x.node.toNat++ [46]++Lib.decDigits x.fK.toNat
 else [100,116,110,58]++([47,47]++x.host.data.toList++ [47]++x.jl.data.toList)
def xj{u:Nat}(a:u<18446744073709551616):(Lib.decDigits u).length<=20:=by rw[Lib.decDigits_length];by_cases H:u<10;rw[Lib.nDigits_small H];omega;have:=Lib.numDigits_eq u ae a;split at this<;>omega
theorem kM{x:Ev}(H:cY x=true)(b:0<=x.fK):(fW x).length<=100:=by unfold fW;unfold cY at H;by_cases z:x=.zero;simp_all;rw[af z]at H⊢;by_cases a:x.jY=true;rw[ag a]at H⊢;have H:=bk H;have l:=xj (u:=x.node.toNat) ae;have L:=xj (u:=x.fK.toNat) ae;simp only[aq,ba,cA];omega;rw[af a]at H⊢;simp only[aZ,bn]at H;simp only[aq,ba,cA,ml];omega
theorem qi(x:Ev)(T:jS.nE h)(w:0<=x.fK)(H: iG h R (.T #[.S (if cY x=true then str (fW x)else⟨#[]⟩),.I (if cY x=true then 0 else 3)])):Cl 37 #[mh x] h R:=by
 refine GK (av.box λb v u k g=>av.ld k (fD x λi e=>⟨_,rfl,?_⟩));by_cases a:cY x=true;simp only[a,bJ]at H;rw[af (by grind)];have c:=e.get k id;have F:=g.tt e;have t:=T.on F;refine av.ld c ⟨_,zQ (y:=.zero) rfl rfl,?_⟩;unfold fW at H;unfold cY at a;by_cases z:x=.zero;rw[ag (aC z)];rw[ag z]at H;exact H i F;rw[af (by grind)];rw[af z]at a;simp only[af z]at H;refine⟨_,ai c,?_⟩;have E:(⟨#[105,112,110,58]⟩)=str [105,112,110,58]:=rfl;have m:(⟨#[46]⟩)=str [46]:=rfl;have n:(⟨#[100,116,110,58]⟩)=str [100,116,110,58]:=rfl;by_cases d:x.jY=true;rw[ag d]at a⊢;simp only[ag d]at H;have a:=bk a;have L:=xj (u:=x.node.toNat) ae;have q:=xj (u:=x.fK.toNat) ae;have r:x.node=((x.node.toNat:Nat)):=ae
 have s:x.fK=((x.fK.toNat:Nat)):=ae
 rw[E,m,VN];refine⟨_,ai c,_,ai c,?_⟩;rw[r];refine jS.mY t ae λj f=>⟨_,rfl,ai (f.get c id),?_⟩;have C:(⟨(Lib.decDigits x.node.toNat).toArray⟩)=str (Lib.decDigits x.node.toNat):=rfl;have l:(⟨(Lib.decDigits x.fK.toNat).toArray⟩)=str (Lib.decDigits x.fK.toNat):=rfl;rw[C];refine⟨?_,?_,?_⟩;rw[hZ,hZ];simp;omega;rw[mW,hZ,hZ];simp;omega;rw[s];refine jS.mY (t.on f) ae λp o=>⟨_,rfl,?_⟩;rw[l];refine⟨?_,?_⟩;rw[mW,mW,hZ,hZ];simp;omega;rw[mW,mW,mW];exact H p (F.tt (f.tt o));rw[af d]at a⊢;simp only[af d]at H;simp only[aZ,bn]at a;refine av.ld c (NR x ae ae λj f=>⟨_,rfl,?_⟩);have L:=ml x.host;have q:=ml x.jl;rw[n,VN];refine⟨?_,?_⟩;rw[hZ,hZ];simp;omega;rw[mW];exact H j (F.tt f);simp only[a,az,aY]at H;rw[ag (dH a)];exact H i (g.tt e)

end ju
end
section
variable {h:aA} {R:fp}
def Du{c:bZ}{A e:Nat}{B:bZ}{b f:Nat} (g:ite ((A:Int) !=(b:Int)) (R (.B false) h) (∃(I:kj)(m:kG),I 0 h/\∀i H,I i H->ite (decide (i<(A:Int))) (Bd i A/\aH c λa=>lW H (a.add (toNat i*1)) λl k j=> ∃(t:cF),pV Tryz.prog 32 9 (.L l k j) H t/\Bd i b/\aH B λd=>lW H (d.add (toNat i*1)) λp o n=> ∃(T:cF),pV Tryz.prog 32 9 (.L p o n) H T/\ite (!(t.toList==T.toList)) (R (.B false) H) ((I (wrap .i64 (i+1)) H/\m (wrap .i64 (i+1)) H<m i H))) (R (.B true) H))):Cl 12 #[.L c A e,.L B b f] h R:=aP [(14,.loop [(5,sI)]),(24,λ_=>pN 11)] g

end
section
open Go.fv
namespace gg
variable {h H a:aA} {R:fp} {p q:bZ} {c d i:Nat}
variable {l:Nat} {X:List BV}
structure Rows (h:aA) (p:bZ) (l c:Nat) (X:List BV):Prop where
 len:l=X.length
 row:Row h p (X.flatMap ie)
 cap:l<=c
 each: ∀x∈X,Row h x.p (bc x.b)
def Rows.on(b:Rows h p l c X)(f:Fr No h H):Rows H p l c X:=
 ⟨b.len,b.row.frame f bC,b.cap,λx e=>(b.each x e).frame f bC⟩
def BL.AD{b:List (cQ)}(e:BL a h p l c b): ∃X,Rows h p l c X/\X.map BV.b=b:=by have⟨X,E,f,g,j,k⟩:=e.rows;exact⟨X,⟨E,f,j,k⟩,g⟩
theorem jv{m:Nat}{f:List BV}(w:Rows h p l c X)(z:Rows h q m d f)(K:l<=1000000000)(n:R (.B (decide (X.map BV.b=f.map BV.b))) h):Cl 12 #[.L p l c,.L q m d] h R:=by
 obtain⟨rfl,u,_,E⟩:=w;obtain⟨rfl,v,_,A⟩:=z;refine Du ?_;by_cases D:X.length=f.length
 .have:((X.length:Int) !=(f.length:Int))=false:=by grind
  rw[this];simp only[az,aY];refine⟨λi g=>g=h/\∃k:Nat,i=(k:Int)/\k<=X.length/\(X.take k).map BV.b=(f.take k).map BV.b,λi _=>X.length - i.toNat,⟨rfl,0,rfl,ae,bt⟩,?_⟩;rintro _ _ ⟨rfl,k,rfl,J,B⟩;by_cases F:k<X.length
  .rw[gH,aK];have G:X[k]? =some X[k]:=au F;have j:f[k]? =some (f[k]' ae):=au _;generalize X[k]=x at G;generalize f[k]' ae=y at j;obtain⟨I,rfl⟩:=u.any dZ;obtain⟨b,rfl⟩:=v.any dZ;have C:=(u.fa dZ G).1;have s:=(v.fa dZ j).1;rw[cj]at C s;refine⟨⟨by first|trivial|omega,by first|trivial|omega⟩,ar.2 ⟨_,_,_,C,_,conv (E x (aG G)) rfl,⟨by first|trivial|omega,ae⟩,ar.2 ⟨_,_,_,s,_,conv (A y (aG j)) rfl,?_⟩⟩⟩;rw[oS,oS];by_cases r:x.b=y.b;rw[r];simp only[beq_self_eq_true,df,az,aY];rw[fc];refine⟨⟨bt,k+1,ae,ae,?_⟩,ae⟩;rw[aV,aV,G,j,aS,aS,B];simp[r];have:(x.b==y.b)=false:=by grind
   simp only[this,ee,bJ];have o:X.map BV.b≠f.map BV.b:=λe=>by
    have t:(X.map BV.b)[k]? =(f.map BV.b)[k]? :=by rw[e]
    rw[aN,aN,G,j]at t;exact r (bF t)
   rw[aT o]at n;exact n
  grind
 have:((X.length:Int) !=(f.length:Int))=true:=by grind
 rw[ag this];have o:X.map BV.b≠f.map BV.b:=λe=>D (by have:=bV List.length e;simpa using this);rw[aT o]at n;exact n

end gg
end
section
variable {h:aA} {R:fp}
def yR{c:Nat}(Z:av.LD h (AA c 1) λD' E' F' G' H'=>Cl 37 #[.agg #[.B D',.U E',.U F',.S G',.S H']] h λI' H=> ∃w a',I'=.T #[.S w,.I a']/\Hi H c 0 λg=>Hl H c 6 λe d b=>Hu H c 7 λa=>Hi H c 8 λT=>Hu H c 9 λt=>(Cl 42 #[] H λJ' f=>Vp J' λD=>Cc f c 9 (.U t)/\Cc f c 8 (.I T)/\Cc f c 7 (.U a)/\Cc f c 6 (.L e d b)/\Cc f c 0 (.I g)/\(Cl 45 #[.Q D,.I g] f λV' p=>Vp V' λc'=>Cc p c 9 (.U t)/\Cc p c 8 (.I T)/\Cc p c 7 (.U a)/\Cc p c 6 (.L e d b)/\jE (convert 9 32 (.S w)) p λa5 q=>Vl a5 λl' i' f'=>Cc q c 9 (.U t)/\Cc q c 8 (.I T)/\Cc q c 7 (.U a)/\Cc q c 6 (.L e d b)/\Cl 43 #[.Q c',.L l' i' f'] q λa6 r=>Vp a6 λo'=>Cc r c 9 (.U t)/\Cc r c 8 (.I T)/\Cc r c 7 (.U a)/\Cc r c 6 (.L e d b)/\Cl 43 #[.Q o',.L e d b] r λa7 v=>Vp a7 λr'=>Cc v c 9 (.U t)/\Cc v c 8 (.I T)/\Cc v c 7 (.U a)/\Cl 44 #[.Q r',.U a] v λa8 z=>Vp a8 λu'=>Cc z c 9 (.U t)/\Cc z c 8 (.I T)/\Cl 45 #[.Q u',.I T] z λa9 C=>Vp a9 λx'=>Cc C c 9 (.U t)/\Cl 44 #[.Q x',.U t] C λb0 X=>Vp b0 λA'=>Cl 46 #[.Q A'] X λb1 P=> ∃L I E,b1=.L L I E/\R (.L L I E) P)/\(jE (convert 9 32 (.S w)) f λK' i=>Vl K' λm' j' g'=>Cc i c 9 (.U t)/\Cc i c 8 (.I T)/\Cc i c 7 (.U a)/\Cc i c 6 (.L e d b)/\Cc i c 0 (.I g)/\Cl 45 #[.Q D,.I g] i λL' l=>Vp L' λd'=>Cc l c 9 (.U t)/\Cc l c 8 (.I T)/\Cc l c 7 (.U a)/\Cc l c 6 (.L e d b)/\Cl 43 #[.Q d',.L m' j' g'] l λM' m=>Vp M' λp'=>Cc m c 9 (.U t)/\Cc m c 8 (.I T)/\Cc m c 7 (.U a)/\Cc m c 6 (.L e d b)/\Cl 43 #[.Q p',.L e d b] m λO' s=>Vp O' λs'=>Cc s c 9 (.U t)/\Cc s c 8 (.I T)/\Cc s c 7 (.U a)/\Cl 44 #[.Q s',.U a] s λP' x=>Vp P' λv'=>Cc x c 9 (.U t)/\Cc x c 8 (.I T)/\Cl 45 #[.Q v',.I T] x λQ' A=>Vp Q' λy'=>Cc A c 9 (.U t)/\Cl 44 #[.Q y',.U t] A λR' Q=>Vp R' λB'=>Cl 46 #[.Q B'] Q λS' S=> ∃M J F,S'=.L M J F/\R (.L M J F) S)/\True)/\(jE (convert 9 32 (.S w)) H λT' j=>Vl T' λn' k' h'=>Cc j c 9 (.U t)/\Cc j c 8 (.I T)/\Cc j c 7 (.U a)/\Cc j c 6 (.L e d b)/\Cc j c 0 (.I g)/\Cl 42 #[] j λU' k=>Vp U' λb'=>Cc k c 9 (.U t)/\Cc k c 8 (.I T)/\Cc k c 7 (.U a)/\Cc k c 6 (.L e d b)/\Cc k c 0 (.I g)/\Cl 45 #[.Q b',.I g] k λX' n=>Vp X' λe'=>Cc n c 9 (.U t)/\Cc n c 8 (.I T)/\Cc n c 7 (.U a)/\Cc n c 6 (.L e d b)/\Cl 43 #[.Q e',.L n' k' h'] n λZ' o=>Vp Z' λq'=>Cc o c 9 (.U t)/\Cc o c 8 (.I T)/\Cc o c 7 (.U a)/\Cc o c 6 (.L e d b)/\Cl 43 #[.Q q',.L e d b] o λa0 u=>Vp a0 λt'=>Cc u c 9 (.U t)/\Cc u c 8 (.I T)/\Cc u c 7 (.U a)/\Cl 44 #[.Q t',.U a] u λa1 y=>Vp a1 λw'=>Cc y c 9 (.U t)/\Cc y c 8 (.I T)/\Cl 45 #[.Q w',.I T] y λa2 B=>Vp a2 λz'=>Cc B c 9 (.U t)/\Cl 44 #[.Q z',.U t] B λa3 U=>Vp a3 λC'=>Cl 46 #[.Q C'] U λa4 V=> ∃O K G,a4=.L O K G/\R (.L O K G) V)/\True):Cl 82 #[.P c 0] h R:=aP [(5,λ_=> .ni (lO [1,2,3,4,6,9,10,11,12,14,15,16,17,19,20,21,22,24,25,26,27] (.alts (.fork 0 (.alts (.fork 5 (lO [7,8,13,18,23,28,29,30] .done) (.fork 7 (lO [5,8,13,18,23,28,29,30] .done) .hO))) (.fork 7 (lO [0,5,8,13,18,23,28,29,30] .done) .hO)))))] Z
def tC{t:Nat} (J:Cl 80 #[.P t 0] h λe' H=> ∃C,e'=.B C/\ite (!C) (R (.Z) H) (Hi H t 1 λx=>Hi H t 2 λn=>Hi H t 3 λk=>Hi H t 4 λg=> ∃T,Cc H t 0 (.map T)/\Cl 42 #[] H λf' e=>Vp f' λt9=>Cc e t 0 (.map T)/\Cc e t 4 (.I g)/\Cc e t 3 (.I k)/\Cc e t 2 (.I n)/\Cc e t 1 (.I x)/\Cl 45 #[.Q t9,.I x] e λh' f=>Vp h' λK=>Cc f t 0 (.map T)/\Cc f t 4 (.I g)/\Cc f t 3 (.I k)/\Cc f t 2 (.I n)/\Cl 45 #[.Q K,.I n] f λi' i=>Vp i' λL=>Cc i t 0 (.map T)/\Cc i t 4 (.I g)/\Cc i t 3 (.I k)/\Cl 45 #[.Q L,.I k] i λj' l=>Vp j' λP=>Cc l t 0 (.map T)/\Cc l t 4 (.I g)/\Cl 45 #[.Q P,.I g] l λk' m=>Vp k' λQ=>Cc m t 0 (.map T)/\∃y:Int,Tl Tryz.prog #[123] 3 (.map T) m (.I y)/\Cl 45 #[.Q Q,.I y] m λl' u=>Vp l' λS=>Cc u t 0 (.map T)/\Cl 46 #[.Q S] u λm' v=>Vl m' λX V U=>Cc v t 0 (.map T)/\aW v (.C #[.L X V U] 32) λb w=>Cc w t 0 (.map T)/\Cl 81 #[.P t 0] w λn' E=>Vl n' λZ z _=> ∃(I:bZ->Nat->Nat->kj)(M:bZ->Nat->Nat->kG),I (Sa b 0) 1 1 0 E/\∀j O o d c,I j O o d c->ite (decide (d<(z:Int))) (Bd d z/\aH Z λa=>kU c (a.add (toNat d*1)) λa'=> ∃A,Cc c t 0 (.map A)/\∃B,Gs 123 (.map A) (.I a') false c (.Q B)/\Cl 82 #[.Q B] c λo' F=>Vl o' λd' c' b'=>aW F (.C #[.L d' c' b'] 32) λD G=>jE (Builtin.append_ #[39,39] 39 #[.L j O o,.L (Sa D 0) 1 1]) G λg' s=> ∃r q p,g'=.L r q p/\(I r q p (wrap .i64 (d+1)) s/\M r q p (wrap .i64 (d+1)) s<M j O o d c)) (R (.L j O o) c))):Cl 40 #[.P t 0] h R:=aP [(11,λ_=> .ni (lO [1,2,3,4,6,7,8,9,11,12,13,14,16,17,18,19,21,22,23,24,0,5,10,15,20,25,26,27,28,29] .done)),(16,.loop [(3,sS),(41,sI)])] J

end
section
open Go.fv Go.jD
namespace gi
open ju ck gg
variable {h H:aA} {R:fp} {t:Nat} {X:Ft} {s:CF} {m A i:Nat} {x:List CV} {f a:Nat→Prop} {j:Nat→Option Nat} {p:bZ} {n c:Nat}
variable {z:CV} {g:aA} {b:Nat}
def recC(z:Cp):cQ:=bm z.num++cX (fW z.e)++cX z.d++bm z.dB++bm (fx z.ses)++bm z.dl
structure Jz (z:Cp):Prop where
 r:cY z.e=true
 v:0<=z.e.fK
 d:z.d.length<=600
 n:z.num<=1000000
 t:z.dB<=2^40
 s0:0<=z.ses
 s1:z.ses<=2^40
 l:z.dl<=2^40
def lU(t:cQ):(cX t).length<=t.length+10:=by have:=(bw t.length).2;unfold cX;rw[aq];omega
def Lu{z:Cp}(k:Jz z):(recC z).length<=1000:=by have L:=kM k.r k.v;have o:=lU (fW z.e);have q:=lU z.d;have r:=k.d;have e:=(bw z.num).2;have E:=(bw z.dB).2;have d:=(bw (fx z.ses)).2;have l:=(bw z.dl).2;unfold recC;simp only[aq];omega
def GP{d:CV}{K:Bool->Int->Int->cF->cF->Prop}(e:d.at g b)(k:K d.e.jY d.e.node d.e.fK d.e.host d.e.jl):av.LD g (AA b 1) K:=
 ⟨_,ai e,_,ai e,_,ai e,_,ai e,_,ai e,k⟩
def FI{d:aA}{n':Nat}{S:gF}{q:bZ}{dq:Nat}(k:Jz z.abs)(o:z.at d b)(a':Row d z.v.p (bc z.v.b))(G:Fr No d g)(W:Wr g n' S (bm z.num))(T: ∀y,S y->d.size<=y)(s':Row g q (bc (fW z.e)))(hq: ∀y,aL q y->¬S y)(hk: ∀P Q H,Own H P (recC z.abs).length Q 1 (bc (recC z.abs))->Fr No d H->(∀y,aL P y->d.size<=y)->R (.slice P (recC z.abs).length Q) H):
  aU g (AA b 9)=some (.U (z.dl:Int))/\aU g (AA b 8)=some (.I z.ses)/\aU g (AA b 7)=some (.U (z.dB:Int))/\aU g (AA b 6)=some (.L z.v.p z.v.b.length z.v.c)/\
  Cl 43 #[.P n' 0,.slice q (str (fW z.e)).size dq] g λu' r=>
  ∃(f':bZ),u'=.Q f'/\
  aU r (AA b 9)=some (.U (z.dl:Int))/\
  aU r (AA b 8)=some (.I z.ses)/\
  aU r (AA b 7)=some (.U (z.dB:Int))/\
  aU r (AA b 6)=some (.L z.v.p z.v.b.length z.v.c)/\
  Cl 43 #[.Q f',.L z.v.p z.v.b.length z.v.c] r λv' u=>
  ∃(g':bZ),v'=.Q g'/\
  aU u (AA b 9)=some (.U (z.dl:Int))/\
  aU u (AA b 8)=some (.I z.ses)/\
  aU u (AA b 7)=some (.U (z.dB:Int))/\
  Cl 44 #[.Q g',.U (z.dB:Int)] u λw' J=>
  ∃(h':bZ),w'=.Q h'/\
  aU J (AA b 9)=some (.U (z.dl:Int))/\
  aU J (AA b 8)=some (.I z.ses)/\
  Cl 45 #[.Q h',.I z.ses] J λx' Z=>
  ∃(i':bZ),x'=.Q i'/\
  aU Z (AA b 9)=some (.U (z.dl:Int))/\
  Cl 44 #[.Q i',.U (z.dl:Int)] Z λy' q'=>
  ∃(j':bZ),y'=.Q j'/\
  Cl 46 #[.Q j'] q' λz' p'=>
  ∃(m':bZ)(l' k':Nat),z'=.L m' l' k'/\
  R (.L m' l' k') p':=by
 have kr:cY z.e=true:=k.r;have kv:0<=z.e.fK:=k.v;have kd:z.v.b.length<=600:=k.d;have kt:z.dB<=2^40:=k.t;have k0:0<=z.ses:=k.s0;have k1:z.ses<=2^40:=k.s1;have kl:z.dl<=2^40:=k.l;have lb:=aD o;have bS: ∀{L:gF},(∀y,L y->d.size<=y)->¬L b:=λhh hn=>by have:=hh b hn;omega
 have l0:=kM kr kv;have A':=lU (fW z.e);have B':=lU z.v.b;have e1:=(bw z.num).2;have e2:=(bw z.dB).2;have e3:=(bw (fx z.ses)).2;have v:z.at g b:=G.get o id;have zg:=G.1;refine⟨ai v,ai v,ai v,ai v,gg.qi W ae s' (hZ _) ae hq λg1 f W1 b'=> ?_⟩;have I: ∀y,f y->d.size<=y:=λy l=>(b'.new y l).elim (T y) (λd=>ae);have F:=G.fresh b'.fr T;have B:z.at g1 b:=F.get o id;have z1:=F.1;refine⟨_,rfl,ai B,ai B,ai B,ai B,gg.pd W1 (by simp only[aq];omega) (a'.frame F bC) rfl ae (λy l r' hs=>gM (jd a' (by intro e;apply r';have:=bV List.length e;rw[ks]at this;exact gO.1 this) l) (I y hs)) λg2 a W2 c'=> ?_⟩;have U: ∀y,a y->d.size<=y:=λy l=>(c'.new y l).elim (I y) (λd=>ae);have w:=F.fresh c'.fr I;have E:z.at g2 b:=w.get o id;have z2:=w.1;refine⟨_,rfl,ai E,ai E,ai E,gg.fT z.dB W2 (by simp only[aq];omega) rfl ae λg3 S3 W3 d'=> ?_⟩;have V: ∀y,S3 y->d.size<=y:=λy l=>(d'.new y l).elim (U y) (λd=>ae);have C:=w.fresh d'.fr U;have O:z.at g3 b:=C.get o id;have z3:=C.1;refine⟨_,rfl,ai O,ai O,gg.iK W3 (by simp only[aq];omega) ae λg4 S4 W4 e'=> ?_⟩;have o': ∀y,S4 y->d.size<=y:=λy l=>(e'.new y l).elim (V y) (λd=>ae);have D:=C.fresh e'.fr V;have b4:z.at g4 b:=D.get o id;have z4:=D.1;refine⟨_,rfl,ai b4,gg.fT z.dl W4 (by simp only[aq];omega) rfl ae λg5 S5 M t'=> ?_⟩;have K:=D.fresh t'.fr o';have er:bm z.num++cX (fW z.e)++cX z.v.b++bm z.dB++bm (fx z.ses)++bm z.dl=recC z.abs:=rfl;rw[er]at M;have lr:=Lu k;refine⟨_,rfl,gg.je M ae λp6 c6 g6 o6 f6 n6=>⟨_,_,_,rfl,?_⟩⟩;have z5:=K.1;exact hk p6 c6 g6 o6 (K.tt f6) (λy l=>bN (n6 y l))
theorem oM(hb:z.at h b)(e':Row h z.v.p (bc z.v.b))(k:Jz z.abs)(tb:jS.nE h)(hk: ∀P D H,Own H P (recC z.abs).length D 1 (bc (recC z.abs))->Fr No h H->(∀y,aL P y->h.size<=y)->R (.slice P (recC z.abs).length D) H):Cl 82 #[.P b 0] h R:=by
 have kr:cY z.e=true:=k.r;have kn:z.num<=1000000:=k.n;refine yR (GP hb (ju.qi z.e tb k.v λC K=> ?_));simp only[kr,bJ];have o:=K.get hb id;have z0:=K.1;have U:=e'.frame K bC;have T: ∀P D H,Own H P (recC z.abs).length D 1 (bc (recC z.abs))->Fr No C H->(∀y,aL P y->C.size<=y)->R (.slice P (recC z.abs).length D) H:=λP D H f' d' g=>hk P D H f' (K.tt d') (λy l=>by grind);have c':bc (fW z.e)≠ []:=by intro e;have:=bV List.length e;rw[ks]at this;revert this;unfold fW;split<;>(try split)<;>simp
 refine⟨_,_,rfl,_,ai o,_,_,_,ai o,_,ai o,_,ai o,_,ai o,?_,?_,trivial⟩;refine gg.gC λQ g' S G F J=> ?_;have r:=F.get o id;refine⟨_,rfl,ai r,ai r,ai r,ai r,ai r,?_,?_,trivial⟩;refine gg.iK G bt ae λh3 S3 Z b'=> ?_;have z2:=F.1;have V:=F.fresh b'.fr J;have B:=V.get o id;refine⟨_,rfl,ai B,ai B,ai B,ai B,UX λq d h4 E cq f4 n4=>⟨_,_,_,rfl,(FI k o U (V.tt f4) (Z.frame f4 bC) (λy l=>(b'.new y l).elim (J y) (λC=>ae)) E (λy l v=>gM (n4 y l) (Z.lt y v)) T)⟩⟩;refine UX λq d h3 E cq u L=>⟨_,_,_,rfl,?_⟩;have B:=(F.tt u).get o id;refine⟨ai B,ai B,ai B,ai B,ai B,gg.iK (G.frame u bC) bt ae λh4 S4 M w=>⟨_,rfl,?_⟩⟩;have z2:=(F.tt u).1;refine FI k o U ((F.tt u).fresh w.fr J) M (λy l=>(w.new y l).elim (J y) (λC=>ae)) (E.frame w.fr (λI O v=>gM (L I.block ⟨I,O,rfl⟩) (G.lt _ v))) (λy l v=> ?_) T;have C:=jd E c' l;have Q:=L y l;rcases w.new y v with h3|h3;have:=G.lt y h3;omega;omega;refine UX λq d Q E cq F J=>⟨_,_,_,rfl,?_⟩;have r:=F.get o id;refine⟨ai r,ai r,ai r,ai r,ai r,gg.gC λh3 g' S G u L=> ?_⟩;have B:=(F.tt u).get o id;have z2:=F.1;have z3:=u.1;refine⟨_,rfl,ai B,ai B,ai B,ai B,ai B,gg.iK G bt ae λh4 S4 M w=>⟨_,rfl,?_⟩⟩;have a': ∀y,aL q y->y<Q.size:=λy l=>jd E c' l;refine FI k o U ((F.tt u).fresh w.fr (λy l=>by grind)) M (λy l=>(w.new y l).elim (λC=>by grind) (λC=>ae)) ((E.frame u bC).frame w.fr (λI O v=>gM (a' I.block ⟨I,O,rfl⟩) (L _ v))) (λy l v=> ?_) T;have C:=a' y l;rcases w.new y v with h3|h3;grind;omega
def nI(s:CF):cQ:=bm s.next++bm s.fG++bm s.over++bm s.gone++bm s.L.length
def iX(s:CF):List (cQ):=nI s::s.L.map recC
theorem mz(l:Ct h t X s)(sm:Small s)(hc:s.fG<=50000/\s.over<=50000/\s.gone<=50000)(ok: ∀z∈s.L,Jz z)(tb:jS.nE h)(hk: ∀H p' l' c',BL h H p' l' c' (iX s)->Fr No h H->R (.L p' l' c') H):Cl 40 #[.P t 0] h R:=by
 obtain⟨m,x,A,f,i,a,j,l⟩:=l;have sn:=sm.n;have sl:=sm.l;have xl:=l.len;refine tC (gh l ⟨_,rfl,?_⟩);rw[dz];refine⟨_,ai l.cN,_,ai l.cN,_,ai l.cN,_,ai l.cN,_,ai l.cN,gg.gC λq E' S W f1 n1=> ?_⟩;have w: ∀k:Nat,fx (k:Int)=k:=λk=>by rfl
 have l1:=(bw s.next).2;have l2:=(bw s.fG).2;have l3:=(bw s.over).2;have l4:=(bw s.gone).2;have l5:=(bw s.L.length).2;have G:=l.on f1;refine⟨_,rfl,ai G.cN,ai G.cN,ai G.cN,ai G.cN,ai G.cN,gg.iK W bt ae λh2 a W2 g'=> ?_⟩;rw[w,dj]at W2;have z1:=f1.1;have L:=f1.fresh g'.fr n1;have n2: ∀y,a y->h.size<=y:=λy d=>(g'.new y d).elim (n1 y) (λq=>ae);have E:=l.on L;have z2:=L.1;refine⟨_,rfl,ai E.cN,ai E.cN,ai E.cN,ai E.cN,gg.iK W2 ae ae λh3 S3 W3 h'=> ?_⟩;rw[w]at W3;have M:=L.fresh h'.fr n2;have n3: ∀y,S3 y->h.size<=y:=λy d=>(h'.new y d).elim (n2 y) (λq=>ae);have G3:=l.on M;have z3:=M.1;refine⟨_,rfl,ai G3.cN,ai G3.cN,ai G3.cN,gg.iK W3 (by grind) ae λh4 S4 W4 i'=> ?_⟩;rw[w]at W4;have Q:=M.fresh i'.fr n3;have n4: ∀y,S4 y->h.size<=y:=λy d=>(i'.new y d).elim (n3 y) (λq=>ae);have G4:=l.on Q;have z4:=Q.1;refine⟨_,rfl,ai G4.cN,ai G4.cN,gg.iK W4 (by grind) ae λh5 S5 W5 j'=> ?_⟩;rw[w]at W5;have T:=Q.fresh j'.fr n4;have n5: ∀y,S5 y->h.size<=y:=λy d=>(j'.new y d).elim (n4 y) (λq=>ae);have G5:=l.on T;have z5:=T.1;refine⟨_,rfl,ai G5.cN,_,Mi ps G5.map,?_⟩;rw[aw,xl];refine gg.iK W5 (by simp only[aq];omega) ae λh6 S6 W6 u'=> ?_;rw[w]at W6;have U:=T.fresh u'.fr n5;have G6:=l.on U;have z6:=U.1;have er:bm s.next++bm s.fG++bm s.over++bm s.gone++bm s.L.length=nI s:=rfl;rw[er]at W6;have lh:(nI s).length<=50:=by grind
 refine⟨_,rfl,ai G6.cN,gg.je W6 ae λP C o o7 f7 n7=>⟨_,_,_,rfl,?_⟩⟩;have V:=U.tt f7;have z7:=V.1;have B7:BL h o none 0 0 []:=BL.nil;refine⟨gm (l.on V).cN rfl,cg ?_⟩;have f8:Fr No o (o.push (.C #[.slice P (nI s).length C] 32)):=Fr.push _ _;have o8:Own (o.push (.C #[.slice P (nI s).length C] 32)) (Sa o.size 0) 1 1 1 (ie ⟨P,C,nI s⟩):=.row o.size 0 _ _ rfl bR (bu _) bt rfl (λB' v hj=>by grind);have D:BL h (o.push (.C #[.slice P (nI s).length C] 32)) (Sa o.size 0) 1 1 [nI s]:=by refine⟨[⟨P,C,nI s⟩],aL P,rfl,dH o8,rfl,?_,?_,λy ⟨k',e,e2⟩=>by grind⟩;intro v u;obtain rfl:=bW.1 u;exact BV.jK (o7.frame f8 bC) (λ_=>id);intro y d;have q:=n7 y d;have h2:=o7.dk d;exact⟨ae,by rw[cI];omega,λ⟨k',e,e2⟩=>by grind⟩
 generalize o.push (.C #[.slice P (nI s).length C] 32)=h8 at f8 D⊢;generalize (some (AA o.size 0):bZ)=p8 at D⊢;clear o8;have Z:=V.tt f8;have G8:=l.on Z;refine⟨ai G8.cN,px G8 ae λh9 p9 c9 o9 n9 f9=>⟨_,_,_,rfl,?_⟩⟩;have F9:=Z.tt f9;have z8:=Z.1;refine⟨λO ol oc a' g=> ∃k:Nat,a'=(k:Int)/\k<=x.length/\BL h g O ol oc (nI s::(s.L.take k).map recC)/\Fr No h g/\Own g p9 x.length c9 1 ((mS x).map iC)/\(∀y,aL O y->¬aL p9 y),λ_ _ _ a' _=>x.length - a'.toNat,⟨0,rfl,ae,dH (D.on f9),F9,o9,λy d r=>gM (D.lt d) (n9 y r)⟩,?_⟩;rintro O ol oc _ g ⟨k,rfl,A',B,F,K,f'⟩;by_cases q':k<x.length
 .have q1:(k:Int)<(x.length:Int):=ae
  simp only[q1,ct,bJ,aK];have⟨v,hx⟩:=lP q';have e':s.L[k]? =some v.abs:=by rw[<-l.abs,aN,hx];rfl
  have u:=aG hx;have I:=l.on F;obtain⟨ab,m',rfl⟩:=K.addr ae;have cn:=K.cell (j:=k) (v:=iC (v.num:Int)) (by unfold mS;rw[dR,aN,hx];rfl);refine⟨⟨by first|trivial|omega,by first|trivial|omega⟩,ar.2 ⟨_,by rw[cC];exact cn,_,ai I.cN,_,look I u,oM (I.GQ v u) (I.Gt v u).row (ok v.abs (aG e')) (tb.on F) λC' w' y' s' J r'=>⟨_,_,_,rfl,?_⟩⟩⟩;have zg:=F.1;have bl:=B.len;rw[ba,aw,bT]at bl;have t': ∀y,aL (some ((AA ab m'):Addr)) y->y<g.size:=λy d=>K.dk d;have v': ∀y,aL O y->y<g.size:=λy d=>B.lt d;have F':=J.1;refine(B.on J).push ae s' (λy d=>⟨bN (r' y d),λho=>by grind⟩) ae λD' x' z' b' d' n'=>⟨_,_,_,rfl,?_⟩;rw[fc];refine⟨⟨k+1,ae,ae,?_,?_,(K.frame J bC).frame d' (λy d r=>f' y r d),λy d r=>(n' y d).elim (λq=>f' y q r) (λq=>bN (t' y r))⟩,ae⟩;rw[aV,e',aS];rw[dC]at b';exact b';obtain⟨_,_,_,_,_,_,_,o'⟩:=B;exact(F.tt J).fresh d' o'
 have q1: ¬(k:Int)<(x.length:Int):=ae
 simp only[q1,cU,az,aY];rw[aX ae]at B;exact hk g O ol oc B F
abbrev JA(y:CV):List Value:= [.int .i64 (y.num:Int),.bool y.e.jY,.int .u64 y.e.node,.int .u64 y.e.fK,.string y.e.host,.string y.e.jl,y.v.val,.int .u64 (y.dB:Int),.int .i64 y.ses,.int .u64 (y.dl:Int)]
def ia(y:CV):(JA y).length=10:=rfl
def V1(y:CV): ∀v∈JA y,gk v=true:=by intro v d;simp only[JA,bG,gX,or_false]at d;rcases d with rfl|rfl|rfl|rfl|rfl|rfl|rfl|rfl|rfl|rfl<;>rfl
def tA:pJ Tryz.prog 365 229 10 112 (.agg #[.I 0,.B false,.U 0,.U 0,.string ⟨#[]⟩,.string ⟨#[]⟩,.Z,.U 0,.I 0,.U 0]):=⟨cZ,cZ,rfl⟩
def uA:Tryz.prog.underlying 365=some (.slice 229):=cZ
theorem Od(q:Ct h t X s)(sm:Small s)(hd: ∀z∈s.L,z.d.length<=600)(hk: ∀H p' c' (d:List CV),Own H p' d.length c' 10 (d.flatMap JA)->d.map CV.abs=s.L->(∀y∈d,BV.ok H (λz=>h.size<=z) y.v)->(∀y,aL p' y->h.size<=y)->Fr No h H->R (.L p' d.length c') H):Cl 265 #[.P t 0] h R:=by
 obtain⟨m,x,A,f,i,a,j,q⟩:=q;have sl:=sm.l;have xl:=q.len;refine uM (px q ae λh1 p1 c1 o1 n1 J=>⟨_,_,_,rfl,?_⟩);refine⟨λO Z V a' g=> ∃(k:Nat)(d:List CV),a'=(k:Int)/\k<=x.length/\Z=d.length/\d.length=k/\Own g O Z V 10 (d.flatMap JA)/\(∀y,aL O y->h1.size<=y)/\d.map CV.abs=s.L.take k/\(∀y∈d,BV.ok g (λz=>h1.size<=z) y.v)/\(∀y∈d,∀z,aL y.v.p z->y.v.b≠ []->¬aL O z)/\Fr No h1 g,λ_ _ _ a' _=>x.length - a'.toNat,
  ⟨0, [],rfl,ae,rfl,rfl,.nil rfl rfl rfl rfl,(λy ⟨I,e,_⟩=>by cases e),bt,(λy hy=>by cases hy),(λy hy=>by cases hy),Fr.refl _ _⟩,?_⟩
 rintro O Z V _ g ⟨k,d,rfl,m',rfl,o',o,S,M,l,d',F⟩;have G:=q.on (J.tt F);by_cases h':k<x.length
 .have q1:(k:Int)<(x.length:Int):=ae
  simp only[q1,ct,bJ,aK];have⟨v,U⟩:=lP h';have b':s.L[k]? =some v.abs:=by rw[<-q.abs,aN,U];rfl
  have T:=aG U;have n':v.v.b.length<=600:=hd v.abs (aG b');have og:=o1.frame F bC;obtain⟨ab,l',rfl⟩:=og.addr ae;have cn:=og.cell (j:=k) (v:=iC (v.num:Int)) (by unfold mS;rw[dR,aN,U];rfl);have i':=G.GQ v T;refine⟨⟨by first|trivial|omega,by first|trivial|omega⟩,ar.2 ⟨_,by rw[cC];exact cn,_,ai G.cN,_,look G T,ar.2 (aQ.ld i' (aQ.new λb2 h2 e2 Q K=>⟨_,_,_,ai Q,hY ((G.Gt v T).row.frame K bC) rfl ae λP C h3 o3 L n3=>⟨_,_,_,rfl,?_⟩⟩))⟩⟩;have g':=L.get Q id;refine bf g' bt λr a4 s4 o4=> ?_;have f4:Fr (λy=>y=b2) h3 r:=⟨ae,λy _ hn=>o4 y hn⟩;have q':=aD Q;have f':aQ.at r b2 (v.num:Int) v.e.jY v.e.node v.e.fK v.e.host v.e.jl P v.v.b.length C (v.dB:Int) v.ses (v.dl:Int):=a4;refine aQ.ld f' ?_;have zg:=F.1;have z2:=K.1;have z3:=L.1;have w:Fr No g r:=(K.tt L).fresh f4 (λy e=>ae);have oo:=o.frame w bC;refine iV tA uA oo rfl (λk' hw=>V1 ({ v with v:=⟨P,C,v.v.b⟩ } :CV) k' (dH hw)) ae ae λp5 c5 h5 o5 B g5=>⟨_,_,_,rfl,?_⟩;have z4:=w.1;have z5:=B.1;rw[fc];have e':Own r P v.v.b.length C 1 (bc v.v.b):=o3.frame f4 (λy hy e=>bN (n3 y hy));have j': ∀y,aL P y->g.size<=y/\y<r.size:=λy hy=>⟨bN (n3 y hy),e'.dk hy⟩;have r': ∀y,aL O y->y<g.size:=λy hy=>o.dk hy;refine⟨⟨k+1,d++ [{ v with v:=⟨P,C,v.v.b⟩ }],ae,ae,by rw[aq];rfl,by grind,?_,λy hy=>(g5 y hy).elim (S y) (λh1=>ae),?_,?_,?_,(F.tt w).fresh B S⟩,ae⟩;grind;rw[aS,M,aV,b'];rfl;intro y hy;rcases bP.1 hy with hy|hy;have r1:=(l y hy).row.frame w bC;refine⟨?_,(l y hy).own,(l y hy).cap⟩;by_cases u:y.v.b= [];rw[u];exact Row.nil;exact r1.frame B (λI ea D=>d' y hy I.block ⟨I,ea,rfl⟩ u D);obtain rfl:=bW.1 hy;exact BV.jK (e'.frame B (λy hy D=>by grind)) (λy hy=>bN (j' y hy));intro y hy z E u D;rcases bP.1 hy with hy|hy;rcases g5 z D with h1|h1;exact d' y hy z E u h1;have:=jd (l y hy).row (by intro e;apply u;have:=bV List.length e;rw[ks]at this;exact gO.1 this) E;omega;grind
 have q1: ¬(k:Int)<(x.length:Int):=ae
 simp only[q1,cU,az,aY];rw[aX ae]at M;have z1:=J.1;exact hk g O V d o M (λy hy=>⟨(l y hy).row,λe z E=>bN ((l y hy).own e z E),(l y hy).cap⟩) (λy hy=>bN (S y hy)) (J.tt F)
def wF(k:Ct h t X s)(S:Small s)(hd: ∀z∈s.L,z.d.length<=600)(l: ∀H P C (d:List CV),Own H P d.length C 10 (d.flatMap JA)->d.map CV.abs=s.L->(∀y∈d,Row H y.v.p (bc y.v.b))->Fr No h H->R (.L P d.length C) H):Cl 265 #[.P t 0] h R:=
 Od k S hd λH P C d o e r _ F=>l H P C d o e (λy q=>(r y q).row) F
def Na(L:List Cp)(d:Ev):Nat:=((nF L d).filter (λz=>decide (z.ses=0))).length
theorem Sm(e:Ct h t X s)(U:Small s)(o:Ev)(M: iG h R (.I (Na s.L o:Int))):Cl 187 #[.P t 0,mh o] h R:=by
 have⟨m,x,A,f,i,a,j,e⟩:=e;have sl:=U.l;have xl:=e.len;refine rB (av.box λb h1 eb L u=>av.ld L (wx (e.on u) o ae λC p2 c2 O n2 B=>⟨_,_,_,rfl,?_⟩));have F:=u.tt B;generalize T:x.filter (λy=>decide (y.e=o))=d at O⊢;have S: ∀y∈d,y∈x:=λy hy=>by grind
 have K:d.map CV.abs=nF s.L o:=by unfold nF;rw[<-e.abs,dT,<-T];rfl
 have yl:d.length<=50000:=by grind
 refine⟨λn q g=> ∃k:Nat,q=(k)/\k<=d.length/\n=((((d.take k).map CV.abs).filter (λz=>decide (z.ses=0))).length)/\g=C,λ_ q _=>d.length - q.toNat,⟨0,rfl,ae,bt,rfl⟩,?_⟩;rintro _ _ _ ⟨k,rfl,b',rfl,rfl⟩;have c':(((d.take k).map CV.abs).filter (λz=>decide (z.ses=0))).length<=k:=cD (cS _ _) (by grind);have G:=e.on F;by_cases P:k<d.length
 .have Q:(k)<((d.length):Int):=ae
  simp only[Q,ct,bJ,aK];have⟨v,r⟩:=lP P;have w:=S v (aG r);obtain⟨Z,a',rfl⟩:=O.addr ae;have cn:=O.cell (by unfold mS;rw[dR,aN,r];rfl);have E:(((d.take (k+1)).map CV.abs).filter (λz=>decide (z.ses=0))).length=(((d.take k).map CV.abs).filter (λz=>decide (z.ses=0))).length+if v.ses=0 then 1 else 0:=by rw[aV,r,aS,fz,aq];congr 1;by_cases l:v.ses=0;have:v.abs.ses=0:=l;simp[l,this];have: ¬v.abs.ses=0:=l;simp[l,this]
  refine aB.of λJ D=>⟨⟨ae,by first|omega|simp⟩,ar.2 ⟨_,by grind,_,ai G.cN,_,look G w,ar.2 ⟨_,ai (G.GQ v w),aB.of λV I=> ?_⟩⟩⟩;subst I;subst D;rw[fc];by_cases l:v.ses=0;rw[ag (by grind),fc];rw[ag l]at E;exact⟨⟨k+1,ae,ae,ae,rfl⟩,ae⟩;grind
 have Q: ¬(k)<((d.length):Int):=ae
 rw[dz];rw[aX ae,K];exact M _ F

end gi
end
section
open Go.jD
namespace gi
open ju
structure OP where
 kind:Int
 num:Int
 ses:Int
 e:Ev
 p:bZ
 c:Nat
 b:cQ
 dB:Nat

end gi
end
end Go.Proofs.YtelbcloplcdchaaGreatDoor
