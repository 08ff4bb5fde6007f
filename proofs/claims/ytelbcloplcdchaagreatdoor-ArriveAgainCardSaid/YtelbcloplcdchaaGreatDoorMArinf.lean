/-
  IF is proved here: parts of zp proof, one behind zp other (texts of this work, merged by a program; JW zp theorem JX not use is left out). No condition.
-/
import Derived.Test.YtelbcloplcdchaaGreatDoorMArine
set_option linter.defProp false
set_option maxRecDepth 100000
set_option maxHeartbeats 4000000
namespace Go.Proofs.YtelbcloplcdchaaGreatDoor
open Go.Den
open IntKind (wrap)
open Int (toNat)
section
open Go.fv Go.jD
namespace gi
open ju ck gg
variable {s s':CF} {k:Nat} {f:OP}
variable {z:Cp} {ses:Int} {dl:Nat}
theorem Io {α : Type} [DecidableEq α] : ∀ {l1 l2 : List α}, l1.Nodup → (∀ a ∈ l1, a ∈ l2) → l1.length ≤ l2.length
  | [], _, _, _ => Nat.zero_le _
  | a :: l, l2, h, hs => by
    have ⟨h1, h2⟩ := List.nodup_cons.1 h
    have := Io (l2 := l2.erase a) h2 (λb hb => (List.mem_erase_of_ne (λe => h1 (by grind))).2 (hs b (List.mem_cons_of_mem _ hb)))
    have h3 := List.length_erase_of_mem (hs a (by simp))
    have h4  := List.length_pos_of_mem (hs a (by simp))
    rw [List.length_cons]; omega
def V2{b:Type}[DecidableEq b]{l L:List b}(c:l.Nodup)(d:L.Nodup)(H: ∀a,a∈l↔a∈L):l.length=L.length:=
 Nat.le_antisymm (Io c (λa h=>(H a).1 h)) (Io d (λa h=>(H a).2 h))
theorem Nb(o:uZ s)(O:Ord s):s.E2.length=(s.L.filter (λz=>decide (z.ses≠0))).length:=by have e:((s.L.filter (λz=>decide (z.ses≠0))).map (λz=>(((z.num:Int),(z.dl:Int))))).length=(s.L.filter (λz=>decide (z.ses≠0))).length:=aw ..;rw[<-e];refine V2 ?_ ?_ λa=> ?_;have:=O.n2;exact(dM.1 this).imp (λh e=>h (bV _ e));have H:((s.L.filter (λz=>decide (z.ses≠0))).map Cp.num).Nodup:=fL (gD _ da) O.nd;exact dM.2 ((dM.1 H).imp (λh e=>h (Int.ofNat.inj (bV Prod.fst e))));rw[o.e2,bh];constructor;grind;grind
theorem yS: ∀{l L:List E},jL l->jL L->(∀e,e∈l↔e∈L)->l=L
 | [], [],_,_,_=>rfl
 | [],a::_,_,_,H=>by have:=(H a).2 bt;cases this
 |a::_, [],_,_,H=>by have:=(H a).1 bt;cases this
 |a::l,b::L,h,i,H=>by
  have⟨d,j⟩:=dF.1 h;have⟨g,G⟩:=dF.1 i;have e:a=b:=by rcases bG.1 ((H a).1 bt)with e|e;exact e;rcases bG.1 ((H b).2 bt)with e2|e2;grind;exact absurd (jD.lt_trans (d b e2) (g a e)) (jD.lt_irrefl a)
  subst e;rw[yS j G λx=>⟨λc=> ?_,λc=> ?_⟩];rcases bG.1 ((H x).1 (bQ _ c))with e|e;subst e;exact absurd (d x c) (jD.lt_irrefl x);exact e;rcases bG.1 ((H x).2 (bQ _ c))with e|e;subst e;exact absurd (g x c) (jD.lt_irrefl x);exact e
def Jz.free(k:Jz z):Jz { z with ses:=0,dl:=0 } :=⟨k.r,k.v,k.d,k.n,k.t,bt,bt,bt⟩
def Jz.Ie(k:Jz z)(h:yP ses dl):Jz { z with ses:=ses,dl:=dl } :=⟨k.r,k.v,k.d,k.n,k.t,by have:=h.1;show 0<=ses;omega,h.2.1,h.2.2⟩
def PQ(g:uZ s)(O:Ord s)(i:uZ s')(o:Ord s')(h:s'.L=s.L)(H:s'.next=s.next)(b:s'.fG=s.fG)(c:s'.over=s.over)(d:s'.gone=s.gone):s'=s:=by
 have E:s'.E1=s.E1:=yS o.o1 O.o1 λe=>by rw[i.e1,g.e1,h]
 have a:s'.E2=s.E2:=yS o.o2 O.o2 λe=>by rw[i.e2,g.e2,h]
 cases s;cases s';simp only at h H b c d E a;subst h H b c d E a;rfl
structure Good (s:CF) (k:Nat):Prop where
 ok:uZ s
 all: ∀z∈s.L,Jz z
 may: ∀z∈s.L,Ax z.e z.d.length (z.dB:Int)=true
 fr: ∀z∈s.L,z.ses=0->z.dl=0
 full: ∀e,(nF s.L e).length<=16
 len:s.next<=k+1
def Good.nil:Good ⟨[],1,0,0,0, [], []⟩ 0:=⟨⟨(λz h=>by cases h),(λz h=>by cases h),(λe=>bt),(λe=>bt),rfl⟩,(λz h=>by cases h),(λz h=>by cases h),(λz h=>by cases h),λ_=>bK _,bu _⟩
def Good.L(G:Good s k):s.L.length<=k/\s.fG<=k/\s.over<=k/\s.gone<=k:=by have:=G.ok.zj;have:=G.len;omega
def Good.small(G:Good s k)(O:Ord s)(j:k<=40000):Small s:=by
 have g:=G.L;have i:=G.len;have n: ∀{l:List E},(keys l).Nodup->l.Nodup:=fun {l} a=>(dM.1 a).imp (λh e=>h (bV _ e));have c:=by have:=Io (n O.n1) (λe H=>by obtain⟨z,b,rfl⟩:=(G.ok.e1 e).1 H;exact bh.2 ⟨z,b,rfl⟩);rwa[aw]at this
 have d:s.E2.length<=s.L.length:=by rw[Nb G.ok O];exact cS _ _
 exact⟨ae,ae,ae,ae⟩
def Good.held(G:Good s k):Lp s:=λj H=>by obtain⟨e,h,rfl⟩:=bh.1 H;obtain⟨z,a,_,rfl⟩:=(G.ok.e2 e).1 h;exact⟨z,a,rfl⟩
def Good.more(G:Good s k):Good s (k+1):=⟨G.ok,G.all,G.may,G.fr,G.full,bN G.len⟩
def Good.sub(G:Good s k)(o:uZ s')(P:Cp->Bool)(g:Cp->Cp)(b: ∀z,(g z).e=z.e/\(g z).d=z.d/\(g z).dB=z.dB)(a: ∀z∈s.L,Jz (g z)/\((g z).ses=0->(g z).dl=0))(c:s'.L=(s.L.filter P).map g)(i:s'.next=s.next):Good s' (k+1):=by
 have m: ∀z∈s'.L,∃y∈s.L,z=g y:=λz a=>by rw[c]at a;obtain⟨y,H,rfl⟩:=bh.1 a;exact⟨y,(bD.1 H).1,rfl⟩
 refine⟨o,λz h=> ?_,λz h=> ?_,λz h=> ?_,λe=> ?_,bN G.len⟩;obtain⟨y,H,rfl⟩:=m z h;exact(a y H).1;obtain⟨y,H,rfl⟩:=m z h;rw[(b y).1,(b y).2.1,(b y).2.2];exact G.may y H;obtain⟨y,H,rfl⟩:=m z h;exact(a y H).2;have d:nF s'.L e=(nF (s.L.filter P) e).map g:=by rw[c];unfold nF;rw[dT];congr 1;refine eO λz _=> ?_;show decide ((g z).e=e)=decide (z.e=e);rw[(b z).1]
 rw[d,aw];exact cD ((List.Sublist.filter _ da).length_le) (G.full e)
def PR(L:List Cp):L.filter (λ_=>true)=L:=cK.2 λ_ _=>rfl
theorem Good.set(G:Good s k)(o:uZ s'){n:Nat}(h:yP ses dl\/(ses=0/\dl=0))(a:s'.L=tj s.L n ses dl)(b:s'.next=s.next):Good s' (k+1):=by refine G.sub o (λ_=>true) (λx=>if x.num=n then { x with ses:=ses,dl:=dl } else x) (λz=>by grind) (λz H=> ?_) (by rw[PR];exact a) b;split;rcases h with h|⟨rfl,rfl⟩;exact⟨(G.all z H).Ie h,λe=>by have:=h.1;dsimp only at e;omega⟩;exact⟨(G.all z H).free,λ_=>rfl⟩;exact⟨G.all z H,G.fr z H⟩
theorem Good.out(G:Good s k)(o:uZ s'){P:Cp->Bool}(a:s'.L=s.L.filter P)(H:s'.next=s.next):Good s' (k+1):=
 G.sub o P id (λ_=>⟨rfl,rfl,rfl⟩) (λz h=>⟨G.all z h,G.fr z h⟩) (by simp_all) H
instance (ses : Int) (dl : Nat) : Decidable (yP ses dl) := by unfold yP; infer_instance
def Xw(f:OP)(s:CF):CF:=
 if f.kind=0 then mq s f.e f.b f.dB
 else if f.kind=1 then(if yP f.ses f.dB then(match nW s.L f.e with|none=>s|some z=>wD s z f.ses f.dB)else s)
 else if f.kind=2 then xM s f.num f.ses
 else if f.kind=3 then Ju s f.num f.ses
 else if f.kind=4 then lT s (f.dB:Int)
 else if f.kind=5 then CS s f.e
 else s
theorem Good.do(G:Good s k)(O:Ord s)(p:0<=f.e.fK)(r:k<=30000):Good (Xw f s) (k+1):=by
 unfold Xw;split
 ·
  have o:=G.ok.add f.e f.b f.dB;by_cases h:jQ s f.e f.b f.dB=0
  .have E:mq s f.e f.b f.dB= { s with L:=s.L++ [⟨s.next,f.e,f.b,f.dB,0,0⟩],next:=s.next+1,E1:=pM s.E1 (s.next:Int) (f.dB:Int) } :=ag h;have H:Ax f.e f.b.length (f.dB:Int)=true/\(nF s.L f.e).length<16:=by
    unfold jQ at h;split at h;grind;cases h
   have b:cY f.e=true/\f.b.length<=600/\f.dB<=1099511627776:=by have:=H.1;unfold Ax at this;simp only[aZ,fI,bn,eK]at this;exact⟨this.1,ae,ae⟩
   have L:=G.len;rw[E]at o⊢;have m: ∀{Q:Cp->Prop},(∀z∈s.L,Q z)->Q ⟨s.next,f.e,f.b,f.dB,0,0⟩->∀z∈s.L++ [⟨s.next,f.e,f.b,f.dB,0,0⟩],Q z:=λc q z a=>by grind
   refine⟨o,m G.all ⟨b.1,p,b.2.1,by show s.next<=1000000;omega,b.2.2,by show(0:Int)<=0;omega,bt,by show 0<=1099511627776;omega⟩,m G.may H.1,m G.fr (λ_=>rfl),λe=> ?_,by show s.next+1<=_;omega⟩;show(nF (s.L++ [⟨s.next,f.e,f.b,f.dB,0,0⟩]) e).length<=16;unfold nF;rw[fz,aq];have g:=G.full e;have d:=H.2;unfold nF at g d;by_cases l:f.e=e;grind;simp[l];exact g
  have E:mq s f.e f.b f.dB=s:=af h;rw[E];exact G.more
 split
 ·
  split
  rename_i H;cases n:nW s.L f.e with
  |none=>exact G.more
  |some z=>exact G.set (G.ok.Ie O (M4 n).1 H) (.inl H) rfl rfl
  exact G.more
 split
 ·
  have o:=G.ok.Y2 O f.num f.ses;unfold xM at o⊢;split;rename_i h;rw[ag h]at o;exact G.out o (P:=λx=> !decide ((x.num:Int)=f.num)) rfl rfl;exact G.more
 split
 ·
  have o:=G.ok.rel O f.num f.ses;unfold Ju at o⊢;split;rename_i h;rw[ag h]at o;exact G.set o (.inr ⟨rfl,rfl⟩) rfl rfl;exact G.more
 split
 ·
  obtain⟨c,_,i,_,_,j,_⟩:=PL G.ok O (f.dB:Int);refine G.sub c _ (nH (f.dB:Int)) (λz=>by unfold nH;split<;>exact⟨rfl,rfl,rfl⟩) (λz a=> ?_) j i;unfold nH;split;exact⟨(G.all z a).free,λ_=>rfl⟩;exact⟨G.all z a,G.fr z a⟩
 split
 ·
  have e:=BT ((nF s.L f.e).map (λz=>(z.num:Int))) s;refine G.out (G.ok.drop O f.e) (P:=λz=> !decide ((z.num:Int)∈(nF s.L f.e).map (λz=>(z.num:Int)))) ?_ ?_;unfold CS;rw[e];rfl;unfold CS;rw[e]
 exact G.more

end gi
end
section
variable {h:aA} {R:fp}
variable {x:Int}
def yT(a:Cl 231 #[.U x] h λv H=> ∃t,v=.I t/\R (.I t) H):Cl 171 #[.U x] h R:=aP [] a
def wG (g:aB (λ(X:Int) (n:Int) H=>aB (λ(a:Int) (e:Int) d=>aB (λ(b:Int) (i:Int) f=>((0:Int)<=wrap .u8 b/\wrap .u8 b<(((⟨#[0,1,2,2,3,3,3,3,4,4,4,4,4,4,4,4,5,5,5,5,5,5,5,5,5,5,5,5,5,5,5,5,6,6,6,6,6,6,6,6,6,6,6,6,6,6,6,6,6,6,6,6,6,6,6,6,6,6,6,6,6,6,6,6,7,7,7,7,7,7,7,7,7,7,7,7,7,7,7,7,7,7,7,7,7,7,7,7,7,7,7,7,7,7,7,7,7,7,7,7,7,7,7,7,7,7,7,7,7,7,7,7,7,7,7,7,7,7,7,7,7,7,7,7,7,7,7,7,8,8,8,8,8,8,8,8,8,8,8,8,8,8,8,8,8,8,8,8,8,8,8,8,8,8,8,8,8,8,8,8,8,8,8,8,8,8,8,8,8,8,8,8,8,8,8,8,8,8,8,8,8,8,8,8,8,8,8,8,8,8,8,8,8,8,8,8,8,8,8,8,8,8,8,8,8,8,8,8,8,8,8,8,8,8,8,8,8,8,8,8,8,8,8,8,8,8,8,8,8,8,8,8,8,8,8,8,8,8,8,8,8,8,8,8,8,8,8,8,8,8,8,8,8,8,8,8]⟩:cF).size:Nat):Int))/\R (.I (wrap .i64 (i+(wrap .i64 ((((⟨#[0,1,2,2,3,3,3,3,4,4,4,4,4,4,4,4,5,5,5,5,5,5,5,5,5,5,5,5,5,5,5,5,6,6,6,6,6,6,6,6,6,6,6,6,6,6,6,6,6,6,6,6,6,6,6,6,6,6,6,6,6,6,6,6,7,7,7,7,7,7,7,7,7,7,7,7,7,7,7,7,7,7,7,7,7,7,7,7,7,7,7,7,7,7,7,7,7,7,7,7,7,7,7,7,7,7,7,7,7,7,7,7,7,7,7,7,7,7,7,7,7,7,7,7,7,7,7,7,8,8,8,8,8,8,8,8,8,8,8,8,8,8,8,8,8,8,8,8,8,8,8,8,8,8,8,8,8,8,8,8,8,8,8,8,8,8,8,8,8,8,8,8,8,8,8,8,8,8,8,8,8,8,8,8,8,8,8,8,8,8,8,8,8,8,8,8,8,8,8,8,8,8,8,8,8,8,8,8,8,8,8,8,8,8,8,8,8,8,8,8,8,8,8,8,8,8,8,8,8,8,8,8,8,8,8,8,8,8,8,8,8,8,8,8,8,8,8,8,8,8,8,8,8,8,8,8]⟩:cF).data.toList.getD (toNat (wrap .u8 b)) 0).toNat:Nat):Int))))) f) (λc=>ite (decide (a≥256)) (c (Int.fdiv a (2 ^ min (toNat 8) (IntKind.bits .u64))) (wrap .i64 (e+8)) d) (c a e d))) (λj=>ite (decide (X≥65536)) (j (Int.fdiv X (2 ^ min (toNat 16) (IntKind.bits .u64))) (wrap .i64 (n+16)) H) (j X n H))) (λJ=>ite (decide (x≥4294967296)) (J (Int.fdiv x (2 ^ min (toNat 32) (IntKind.bits .u64))) 32 h) (J x 0 h))):Cl 231 #[.U x] h R:=aP [(5,.join [(0,sU),(2,sI)]),(13,.join [(0,sU),(2,sI)]),(21,.join [(0,sU),(2,sI)])] g

end
section
namespace fE
open ju
variable {h H:aA} {R:fp} {b:Nat} {X:Ft} {L x:List Rg} {m n c:Nat} {p:bZ}
def FJ(r:Rg): ∀v∈FA r,gk v=true:=by intro v a;simp only[bG,gX,or_false]at a;rcases a with rfl|rfl|rfl|rfl|rfl|rfl|rfl<;>rfl
theorem V3(a y:Rg)(j: iG h R (.I (if lR a.e y.e=true then -1 else 1))):Cl 117 #[a.val,y.val] h R:=by refine uF (bg.box λB o E g F=>bg.box λk r l i f=>GP (f.get g id) (GP i (TO a.e y.e λe d=>⟨_,rfl,?_⟩)));have K:=j e (F.tt (f.tt d));by_cases q:lR a.e y.e=true;grind;grind
def tG:pJ Tryz.prog 170 173 7 72 (Rg.zero).val:=⟨cZ,cZ,rfl⟩
def uG:Tryz.prog.underlying 170=some (.slice 173):=cZ
def YK(d:Ev×Value):Rg:=
 match d.2 with
 | .agg ⟨[_,_,_,_,_,.int _ a,.int _ b]⟩=>⟨d.1,a,b⟩
 |_=> .zero
abbrev FK(x:List Rg):Prop:=(x.map Rg.e).Nodup
theorem FK.ne{i j:Nat}{a y:Rg}(f:FK x)(g:x[i]? =some a)(k:x[j]? =some y)(d:i≠j):a.e≠y.e:=λe=>by apply d;exact(eE (by grind) f).1 (by grind)
theorem JB(c':Own h p n c 7 (x.flatMap FA))(l:n=x.length)(k:x.length<=1000)(nd:FK x)(hk: ∀H (a:List Rg),Own H p n c 7 (a.flatMap FA)->a.Perm x->a.Pairwise kW->Fr (aL p) h H->R (.T #[]) H):
  Cl 235 #[.L p n c,.I 0,.I (n:Int),.func (.func 117) #[] #[]] h R:=by
 subst l;refine jG ?_;have K: ∀{a:List Rg},a.Perm x->a.length=x.length:=λhp=>hp.length_eq;refine⟨λt g=> ∃(i:Nat)(a:List Rg),t=(i:Int)/\1<=i/\(i<=x.length\/i=1)/\Own g p x.length c 7 (a.flatMap FA)/\a.Perm x/\lg kW a 0 i/\Fr (aL p) h g,λt _=>x.length - t.toNat,⟨1,x,by rfl,ae,.inr rfl,c',.refl _,lg.small ae,Fr.refl _ _⟩,?_⟩;rintro _ g ⟨i,a,rfl,h1,h2,E,P,sy,s⟩;have ly:=K P;by_cases hi:i<x.length;rw[gH];refine⟨λt v=> ∃(j:Nat)(Z:List Rg),t=(j:Int)/\j<=i/\Own v p x.length c 7 (Z.flatMap FA)/\I2 kW a Z 0 i j/\Fr (aL p) h v,λt _=>t.toNat,⟨i,a,rfl,bu _,E,I2.start sy,s⟩,?_⟩;rintro _ w ⟨j,Z,rfl,A,o,I,u⟩;have r:=I.perm.trans P;have lz:=K r;have b':FK Z:=(r.map Rg.e).nodup_iff.2 nd;obtain⟨M,Q,rfl⟩:=o.addr ae;refine aB.of λJ q=> ?_;have stop:(j=0\/∀f y,Z[j]? =some f->Z[j - 1]? =some y->kW y f)->∀G,Fr No w G->J false G:=by intro he G F;subst q;simp only[az,aY];rw[fc];refine⟨⟨i+1,Z,ae,ae,.inl ae,o.frame F bC,r,I.stop yr (bK _) A ae he,u.on F⟩,ae⟩
 by_cases a':0<j;have q2:(j:Int)>0:=ae
 have S:IntKind.wrap .i64 ((j:Int) - 1)=((j - 1:Nat):Int):=by rw[fc];omega
 have d:Z[j]? =some (Z[j]' ae):=au _;have e:Z[j - 1]? =some (Z[j - 1]' ae):=au _;generalize Z[j]' ae=f at d;generalize Z[j - 1]' ae=y at e;simp only[q2,ct,bJ,S,aK]at q⊢;refine⟨ae,ar.2 (bg.qq (o.fa pq d) ⟨ae,ar.2 (bg.qq (o.fa pq e) (V3 f y λG F=>⟨_,rfl,?_⟩))⟩)⟩;by_cases k:lR f.e y.e=true;rw[ag k,aC ae];have O:=o.frame F bC;subst q;simp only[bJ];refine⟨ae,ar.2 (bg.qq (O.fa pq e) ⟨ae,ar.2 (bg.qq (O.fa pq d) ⟨ae,ar.2 (bg.I5 (O.KD pq (FJ y) ae λg4 o4 s4 q4=>⟨ae,ar.2 (bg.I5 (o4.KD pq (FJ f) (by rw[fS];omega) λV D s5 q5=> ?_))⟩))⟩)⟩)⟩;have T:(Z.set j y).set (j - 1) f=swp Z j (j - 1):=VB d e;rw[T]at D;have U:Fr (aL (Sa M Q)) G V:=⟨ae,λz _ l=>by rw[q5 z l,q4 z l]⟩;exact⟨⟨j - 1,_,rfl,ae,D,I.swap a' A ae d e k,(u.on F).tt U⟩,ae⟩;rw[af k,aT ae];refine stop (.inr λx' y' B C=> ?_) G F;rw[d]at B;rw[e]at C;cases B;cases C;exact(EA (b'.ne d e ae)).resolve_left k;rw[dz];exact stop (.inl ae) w (Fr.refl _ _);rw[dz];have:lg kW a 0 a.length:=by rcases h2 with h2|h2;grind;exact lg.small ae
 exact hk g a E P this.pair s
theorem ML{f:Int}(d: ∀n:Int,R (.I n) h):Cl 171 #[.U f] h R:=by
 refine yT (wG (aB.of λJ a=> ?_));have w: ∀n,0<=IntKind.wrap .u8 n/\IntKind.wrap .u8 n<256:=λn=>by rw[IntKind.wrap_u8];omega
 have k: ∀y n,J y n h:=by
  intro y n;subst a;refine aB.of λJ a=> ?_;have K: ∀y n,J y n h:=by
   intro y n;subst a;refine aB.of λJ a=> ?_;have e: ∀y n,J y n h:=by intro y n;subst a;exact⟨w y,_,rfl,d _⟩
   split
   grind;exact e _ _
  split
  grind;exact K _ _
 split
 exact k _ _;grind
theorem Js(o:Own h p n c 7 (x.flatMap FA))(e:n=x.length)(q:x.length<=12)(j:FK x)(d: ∀H (y:List Rg),Own H p n c 7 (y.flatMap FA)->y.Perm x->y.Pairwise kW->Fr (aL p) h H->R (.T #[]) H):
  Cl 116 #[.L p n c,.func (.func 117) #[] #[]] h R:=by
 subst e;refine jO (ML λi=>⟨_,rfl,kB ⟨λa b l _ _ g=>a=0/\b=((x.length:Nat))/\l=i/\g=h,λ_ _ _ _ _ _=>0,⟨rfl,rfl,rfl,rfl⟩,?_⟩⟩);rintro _ _ _ w r _ ⟨rfl,rfl,rfl,rfl⟩;refine aB.of λJ k=> ?_;rw[fc,ag (by grind)];exact JB o rfl ae j λH y O P s f=>⟨rfl,rfl,d H y O P s f⟩
theorem wF(f:Tb h b X L)(hl:L.length<=12)(hk: ∀H P C,Own H P L.length C 7 (L.flatMap FA)->(∀y,aL P y->h.size<=y)->Fr No h H->R (.L P L.length C) H):
  Cl 78 #[.P b 0] h R:=by
 have⟨m,f⟩:=f;refine xL (gh f ⟨_,rfl,aB.of λf' hJ=> ?_⟩);rw[ag rfl];refine⟨_,ai f.cN,El ps f.map λj B e1 I U=>⟨_,rfl,?_⟩⟩;refine⟨λO o u g=> ∃i:List Rg,o=i.length/\Own g O o u 7 (i.flatMap FA)/\(∀y,aL O y->h.size<=y/\y≠j)/\Iter g j m mh (L.map Rg.pair) (i.map Rg.pair)/\Fr No h g,λ_ o _ _=>L.length - o,
  ⟨[],rfl,.nil rfl rfl rfl rfl,(λy ⟨a,e,_⟩=>by cases e),I,U⟩,?_⟩
 rintro O o u g ⟨i,rfl,J,k,v,s⟩;have zy:=s.1;have b':=v.le;rw[aw,aw]at b';refine Hw v (λhp=> .inl ⟨rfl,?_⟩) (λa k' A hm h' I s1 o1=> .inr ⟨_,_,rfl,?_⟩)
 .subst hJ;have t:=by
   have e: ∀l:List Rg,(l.map Rg.pair).map YK=l:=λl=>by
    rw[dR];conv=>rhs;rw[<-List.map_id l]
    exact fh (λr _=>rfl)
   have:=hp.map YK;rwa[e,e]at this
  have nd:=(t.map Rg.e).nodup_iff.2 (MW f.so);have c':=t.length_eq;refine Js J rfl ae nd λZ zs E p3 s3 F=>⟨rfl,?_⟩;have:=(List.Perm.eq_of_pairwise (λa b _ _ B V=>by have:=yr B V;rw[ny]at this;cases this) s3 f.so (p3.trans t));subst this;rw[c']at E⊢;exact hk Z O u E (λy d=>(k y d).1) (s.fresh F (λy d=>(k y d).1))
 have⟨r,D,e⟩:=bh.1 hm;have S:=(bV Prod.fst e).symm;have T:=(bV Prod.snd e).symm;subst S T;refine Ep I ⟨_,_,rfl,_,_,_,_,_,_,_,rfl,bg.new λb2 G e2 a' q=>bg.ld a' (cg ?_)⟩;have F:Fr No G (G.push (.C #[.B r.e.jY,.U r.e.node,.U r.e.fK,.S r.e.host,.S r.e.jl,.I r.lS,.I r.own] 173)):=Fr.push _ _;have K:Row (G.push (.C #[.B r.e.jY,.U r.e.node,.U r.e.fK,.S r.e.host,.S r.e.jl,.I r.lS,.I r.own] 173)) (Sa G.size 0) (FA r):=jj;generalize G.push (.C #[.B r.e.jY,.U r.e.node,.U r.e.fK,.S r.e.host,.S r.e.jl,.I r.lS,.I r.own] 173)=g3 at F K⊢;have z:Fr (λy=>y=j) g A:=⟨ae,λy _ hn=>o1 y hn⟩;have e':=(J.frame z (λy d e=>(k y d).2 e)).frame (q.tt F) bC;have M:=s.fresh z (λy e=>ae);have Q:=M.tt (q.tt F);have i':=(q.tt F).1;have j':j<A.size:=by have⟨_,_,_,_,_,_,D,_⟩:=I;exact aD D
 refine dI tG uG e' K rfl (FJ r) ae ae λp4 c4 g4 o4 _ w k4=>⟨_,_,_,rfl,?_⟩;have d': ∀y,aL p4 y->h.size<=y/\y≠j:=by grind
 refine⟨⟨i++ [r],bt,?_,d',?_,Q.fresh w (λy d=>(k y d).1)⟩,?_⟩;grind;rw[aS];have g':m<h.size:=f.map.lt;exact(I.frame (q.tt F) id id).frame w (λd=>(k j d).2 rfl) (λd=>by grind);have:=I.le;rw[aq,aw,aw,fk]at this;show L.length - (i.length+1)<L.length - i.length;omega

end fE
end
section
variable {h:aA} {R:fp}
def wH{t:Nat}(q:Cl 78 #[.P t 0] h λv k=>Vl v λP j _=> ∃(I:bZ->Nat->Nat->kj)(m:bZ->Nat->Nat->kG),I none 0 0 0 k/\∀c O o T H,I c O o T H->ite (decide (T<(j:Int))) (Bd T j/\aH P λa=>bg.LD H (a.add (toNat T*7)) λr s u w x y z=>aW H (.C #[.B false,.U 0,.U 0,.S (⟨#[]⟩:cF),.S (⟨#[]⟩:cF),.I 0,.I 0] 173) λb l=>bg.ST l (AA b 0) r s u w x y z λg=>bg.LD g (AA b 0) λA C D E F G J=>Cl 79 #[.agg #[.B A,.U C,.U D,.S E,.S F,.I G,.I J]] g λV n=>Vl V λM L K=>aW n (.C #[.L M L K] 32) λB p=>jE (Builtin.append_ #[39,39] 39 #[.L c O o,.L (Sa B 0) 1 1]) p λQ i=> ∃f e d,Q=.L f e d/\(I f e d (wrap .i64 (T+1)) i/\m f e d (wrap .i64 (T+1)) i<m c O o T H)) (R (.L c O o) H)):Cl 39 #[.P t 0] h R:=aP [(8,.loop [(3,sS),(9,sI)])] q
def BU{r:Bool}{m:Int}{n:Int}{o:cF}{p:cF}{q:Int}{s:Int}(E:aW h (.C #[.B r,.U m,.U n,.S o,.S p,.I q,.I s] 173) λb j=>av.LD j (AA b 0) λZ a' b' c' d'=>Cl 37 #[.agg #[.B Z,.U a',.U b',.S c',.S d']] j λf' H=> ∃i e',f'=.T #[.S i,.I e']/\Hi H b 5 λT=>Hi H b 6 λt=>(Cl 42 #[] H λg' d=>Vp g' λF=>Cc d b 6 (.I t)/\Cc d b 5 (.I T)/\jE (convert 9 32 (.S i)) d λk' e=>Vl k' λM K I=>Cc e b 6 (.I t)/\Cc e b 5 (.I T)/\Cl 43 #[.Q F,.L M K I] e λl' f=>Vp l' λP=>Cc f b 6 (.I t)/\Cc f b 5 (.I T)/\Cl 45 #[.Q P,.I T] f λm' l=>Vp m' λS=>Cc l b 6 (.I t)/\Cl 45 #[.Q S,.I t] l λn' C=>Vp n' λV=>Cl 46 #[.Q V] C λo' D=> ∃y w u,o'=.L y w u/\R (.L y w u) D)/\(jE (convert 9 32 (.S i)) H λp' g=>Vl p' λO L J=>Cc g b 6 (.I t)/\Cc g b 5 (.I T)/\Cl 42 #[] g λq' a=>Vp q' λG=>Cc a b 6 (.I t)/\Cc a b 5 (.I T)/\Cl 43 #[.Q G,.L O L J] a λr' c=>Vp r' λQ=>Cc c b 6 (.I t)/\Cc c b 5 (.I T)/\Cl 45 #[.Q Q,.I T] c λh' k=>Vp h' λU=>Cc k b 6 (.I t)/\Cl 45 #[.Q U,.I t] k λi' A=>Vp i' λX=>Cl 46 #[.Q X] A λj' B=> ∃z x v,j'=.L z x v/\R (.L z x v) B)/\True):Cl 79 #[.agg #[.B r,.U m,.U n,.S o,.S p,.I q,.I s]] h R:=aP [(5,λ_=> .ni (lO [1,4,5,7,8] (.alts (.fork 0 (lO [2,3,6,9,10,11] .done) (.fork 2 (lO [0,3,6,9,10,11] .done) .hO)))))] E
theorem FL{L : Option Addr}{l K : Nat} (hv :
 Cl 16 #[] h λU' s' =>
 ∃ g, U' = .pointer g ∧
 ∃(I : Int → aA → Prop)(M : Int → aA → Nat), I 0 s' ∧ ∀ e H, I e H →
 ite (decide (e < ((l : Nat) : Int)))
 (  ((0 : Int) ≤ e ∧ e < ((l : Nat) : Int)) ∧
 aH L λp' =>
 ∃ s q p, aU H (p'.add (Int.toNat e * 1)) = some (.slice s q p) ∧
 Cl 23 #[.slice s q p] H λV' z' =>
 ∃ f, V' = .pointer f ∧
 Cl 25 #[.pointer f] z' λa3 G =>
 ∃ Q P O, a3 = .slice Q P O ∧
 ∃(S : ByteArray), pV Tryz.prog 32 9 (.slice Q P O) G S ∧
 Cl 24 #[.string S] G λa4 A' =>
 ∃ U V X Z a' D', a4 = .tuple #[.agg #[.bool U, .int .u64 V, .int .u64 X, .string Z, .string a'], .int .i64 D'] ∧
 aW A' (.cells #[.bool false, .int .u64 0, .int .u64 0, .string (⟨#[]⟩ : ByteArray), .string (⟨#[]⟩ : ByteArray)] 29) λb B' =>
 av.ST B' ⟨b, 0, none⟩ U V X Z a' λn =>
 aB (fun (r : Option Addr) C' =>
 aB (fun (T' : Bool) o =>
 ite T'
 (  R (.tuple #[.pointer none, .int .i64 3]) o)
 (  (I (IntKind.wrap .i64 (e + 1)) o ∧ M (IntKind.wrap .i64 (e + 1)) o < M e H)))
 (λj =>
 Cl 30 #[.pointer f] C' λa5 i =>
 ∃ f', a5 = .int .i64 f' ∧
 ite (f' != 0)
 (  j true i)
 (  aH r λq' =>
 bg.LD i q' λE' F' G' H' I' J' K' =>
 Cl 109 #[.pointer g, .agg #[.bool E', .int .u64 F', .int .u64 G', .string H', .string I', .int .i64 J', .int .i64 K']] i λa6 k =>
 ∃ g', a6 = .int .i64 g' ∧
 ite (g' != 0)
 (  j true k)
 (  aH r λr' =>
 bg.LD k r' λL' M' O' P' Q' R' S' =>
 Cl 79 #[.agg #[.bool L', .int .u64 M', .int .u64 O', .string P', .string Q', .int .i64 R', .int .i64 S']] k λa7 t' =>
 ∃ j' i' h', a7 = .slice j' i' h' ∧
 Cl 35 #[.slice j' i' h', .slice s q p] t' λa8 u' =>
 ∃ k', a8 = .bool k' ∧
 j (!k') u'))))
 (λJ =>
 av.LD n ⟨b, 0, none⟩ λt T a c d =>
 (Cl 27 #[.pointer f] n λa9 m =>
 ∃ u, a9 = .int .i64 u ∧
 cH ⟨b, 0, none⟩ [.bool t, .int .u64 T, .int .u64 a, .string c, .string d] 0 m ∧
 (Cl 27 #[.pointer f] m λb0 x =>
 ∃ c', b0 = .int .i64 c' ∧
 cH ⟨b, 0, none⟩ [.bool t, .int .u64 T, .int .u64 a, .string c, .string d] 0 x ∧
 aW x (.cells #[.bool false, .int .u64 0, .int .u64 0, .string (⟨#[]⟩ : ByteArray), .string (⟨#[]⟩ : ByteArray), .int .i64 0, .int .i64 0] 173) λB y =>
 cH ⟨b, 0, none⟩ [.bool t, .int .u64 T, .int .u64 a, .string c, .string d] 0 y ∧
 bg.ST y ⟨B, 0, none⟩ t T a c d u c' λv' =>
 J (some ⟨B, 0, none⟩) v') ∧
 (aW m (.cells #[.bool false, .int .u64 0, .int .u64 0, .string (⟨#[]⟩ : ByteArray), .string (⟨#[]⟩ : ByteArray), .int .i64 0, .int .i64 0] 173) λv z =>
 cH ⟨b, 0, none⟩ [.bool t, .int .u64 T, .int .u64 a, .string c, .string d] 0 z ∧
 Cl 27 #[.pointer f] z λX' A =>
 ∃ d', X' = .int .i64 d' ∧
 cH ⟨b, 0, none⟩ [.bool t, .int .u64 T, .int .u64 a, .string c, .string d] 0 A ∧
 bg.ST A ⟨v, 0, none⟩ t T a c d u d' λw' =>
 J (some ⟨v, 0, none⟩) w') ∧
 True) ∧
 (aW n (.cells #[.bool false, .int .u64 0, .int .u64 0, .string (⟨#[]⟩ : ByteArray), .string (⟨#[]⟩ : ByteArray), .int .i64 0, .int .i64 0] 173) λw C =>
 cH ⟨b, 0, none⟩ [.bool t, .int .u64 T, .int .u64 a, .string c, .string d] 0 C ∧
 Cl 27 #[.pointer f] C λZ' D =>
 ∃ b', Z' = .int .i64 b' ∧
 cH ⟨b, 0, none⟩ [.bool t, .int .u64 T, .int .u64 a, .string c, .string d] 0 D ∧
 Cl 27 #[.pointer f] D λa0 E =>
 ∃ e', a0 = .int .i64 e' ∧
 cH ⟨b, 0, none⟩ [.bool t, .int .u64 T, .int .u64 a, .string c, .string d] 0 E ∧
 bg.ST E ⟨w, 0, none⟩ t T a c d b' e' λx' =>
 J (some ⟨w, 0, none⟩) x') ∧
 True))
 (  Cl 39 #[.pointer g] H λa1 y' =>
 ∃ n' m' l', a1 = .slice n' m' l' ∧
 Cl 34 #[.slice n' m' l', .slice L l K, .func (.func 35) #[] #[]] y' λa2 F =>
 ∃ o', a2 = .bool o' ∧
 ite (!o')
 (  R (.tuple #[.pointer none, .int .i64 3]) F)
 (  R (.tuple #[.pointer g, .int .i64 0]) F))) : Cl 68 #[.slice L l K] h R :=
 aP [(8, .loop [(14, sI)]), (24, .join [(10, sP)]), (24, λ_ => .ni (lO [0,1,3] (.alts (.fork 2 (.alts (.fork 4 (lO [5,6,7] .done) (.fork 6 (lO [4,5,7] .done) .hO))) (.fork 6 (lO [2,4,5,7] .done) .hO))))), (26, .join [(48, sB)])] hv
def iM{c:bZ}{s f:Nat}{d:bZ}{S g:Nat} (e:ite ((s:Int) !=(S:Int)) (R (.B false) h) (∃(I:kj)(m:kG),I 0 h/\∀t H,I t H->ite (decide (t<(s:Int))) (Bd t s/\aH c λa=>lW H (a.add (toNat t*1)) λk j i=>Bd t S/\aH d λA=>lW H (A.add (toNat t*1)) λo n l=>Cl 35 #[.L k j i,.L o n l] H λv b=> ∃T,v=.B T/\ite (!T) (R (.B false) b) ((I (wrap .i64 (t+1)) b/\m (wrap .i64 (t+1)) b<m t H))) (R (.B true) H))):Cl 34 #[.L c s f,.L d S g,.func (.func 35) #[] #[]] h R:=aP [(14,.loop [(17,sI)])] e

end
section
open Go.fv
namespace fE
open ju gg
variable {h H:aA} {R:fp} {b:Nat} {X:Ft} {L:List Rg} {r:Rg}
def kC(r:Rg):cQ:=cX (fW r.e)++bm (fx r.lS)++bm (fx r.own)
structure Oe (r:Rg):Prop where
 rt:jn r=true
 sv:0<=r.e.fK
def Oe.e(k:Oe r):cY r.e=true/\0<=r.lS/\r.lS<=2/\1<=r.own/\r.own<=1099511627776:=by have:=k.rt;unfold jn at this;simp only[aZ,fI,bn,eK]at this;exact⟨this.1,this.2.2.1.1,this.2.2.1.2,this.2.2.2.1,this.2.2.2.2⟩
def Lv(k:Oe r):(kC r).length<=200:=by have l:=kM k.e.1 k.sv;have a:=(bw (fW r.e).length).2;have c:=(bw (fx r.lS)).2;have d:=(bw (fx r.own)).2;unfold kC cX;simp only[aq];omega
theorem oM(k:Oe r)(tb:jS.nE h)(hk: ∀P J H,Own H P (kC r).length J 1 (bc (kC r))->Fr No h H->(∀y,aL P y->h.size<=y)->R (.slice P (kC r).length J) H):Cl 79 #[r.val] h R:=by
 have K:=k.e;refine BU (bg.box λb l eb U M=>GP U (ju.qi r.e (tb.on M) k.sv λm O=> ?_));simp only[K.1,bJ];refine⟨_,_,rfl,?_⟩;have c:=O.get U id;have C:=M.tt O;have l0:=kM K.1 k.sv;have sz:(str (fW r.e)).size=(fW r.e).length:=hZ _;have dt:(str (fW r.e)).data.toList=fW r.e:=by rfl
 have tail: ∀g (w:Nat) (S:gF) q d,Fr No m g->Wr g w S []->(∀y,S y->m.size<=y)->Row g q (bc (fW r.e))->(∀y,aL q y->¬S y)->aU g (AA b 6)=some (.I r.own)/\aU g (AA b 5)=some (.I r.lS)/\Cl 43 #[.P w 0,.slice q (str (fW r.e)).size d] g λj' x=>
   ∃(a':bZ),j'=.Q a'/\
   aU x (AA b 6)=some (.I r.own)/\
   aU x (AA b 5)=some (.I r.lS)/\
   Cl 45 #[.Q a',.I r.lS] x λk' T=>
   ∃(b':bZ),k'=.Q b'/\
   aU T (AA b 6)=some (.I r.own)/\
   Cl 45 #[.Q b',.I r.own] T λl' g'=>
   ∃(c':bZ),l'=.Q c'/\
   Cl 46 #[.Q c'] g' λm' h'=>
   ∃(f':bZ)(e' d':Nat),m'=.L f' e' d'/\
   R (.L f' e' d') h':=by
  intro g w S q d p j u i hq;have I: ∀{E:gF},(∀y,E y->m.size<=y)->¬E b:=λhh hn=>by have:=hh b hn;have:=aD c;omega
  have A:=p.get c id;have zg:=p.1;refine⟨ai A,ai A,gg.qi j bt i sz ae hq λg1 S1 W1 s=> ?_⟩;have v:=λy a=>(s.new y a).elim (u y) (λl=>ae);have z:=s.fr.get A (I u);have z1:=s.fr.1;have lt:=kM K.1 k.sv;have l1:=(bw (fW r.e).length).2;have l2:=(bw (fx r.lS)).2;have l3:=(bw (fx r.own)).2;have el:(cX (fW r.e)).length=(bm (fW r.e).length).length+(fW r.e).length:=by unfold cX;rw[aq]
  refine⟨_,rfl,ai z,ai z,iK W1 (by grind) ae λg2 S2 W2 o=>⟨_,rfl,?_⟩⟩;have Q:=λy a=>(o.new y a).elim (v y) (λl=>ae);have i':=o.fr.get z (I v);have z2:=o.fr.1;refine⟨ai i',iK W2 (by grind) ae λg3 S3 G Z=>⟨_,rfl,?_⟩⟩;have n':=λy a=>(Z.new y a).elim (Q y) (λl=>ae);have er: []++cX (fW r.e)++bm (fx r.lS)++bm (fx r.own)=kC r:=by rfl
  rw[er]at G;have lr:=Lv k;refine je G ae λp4 c4 g4 o4 F n=>⟨_,_,_,rfl,?_⟩;have D:=((p.fresh s.fr u).fresh o.fr v).fresh Z.fr Q;have z3:=D.1;have zz:=C.1;exact hk p4 c4 g4 o4 (C.tt (D.tt F)) (λy a=>bN (n y a))
 refine⟨_,ai c,_,ai c,gg.gC λh3 w S j f V=>⟨_,rfl,ai (f.get c id),ai (f.get c id),UX λq d t i cq F n=>⟨_,_,_,rfl,?_⟩⟩,UX λq d h3 i cq f V=>⟨_,_,_,rfl,ai (f.get c id),ai (f.get c id),gg.gC λt w S j F n=>⟨_,rfl,?_⟩⟩,trivial⟩;exact tail t w S q d (f.tt F) (j.frame F bC) V i (λy a B=>gM (n y a) (j.lt y B))
 .rw[dt]at i;have z3:=f.1;refine tail t w S q d (f.tt F) j (λy a=>by grind) (i.frame F bC) (λy a B=> ?_);have l:=n y B;have m:=jd i (by unfold fW;intro e;have:=bV List.length e;rw[ks]at this;revert this;split<;>(try split)<;>simp) a;omega
theorem mz(s:Tb h b X L)(D:L.length<=12)(P: ∀r∈L,Oe r)(T:jS.nE h)(A: ∀H p l C,BL h H p l C (L.map kC)->Fr No h H->R (.L p l C) H):Cl 39 #[.P b 0] h R:=by
 refine wH (wF s D λi p1 V K n1 c=>⟨_,_,_,rfl,?_⟩);refine⟨λe O o t g=> ∃k:Nat,t=(k)/\k<=L.length/\BL i g e O o ((L.take k).map kC)/\Fr No i g,λ_ _ _ t _=>L.length - t.toNat,⟨0,rfl,ae,dH BL.nil,Fr.refl _ _⟩,?_⟩;rintro e O o _ g ⟨k,rfl,a',B,f⟩;by_cases E:k<L.length
 .have q:(k:Int)<((L.length:Nat):Int):=ae
  simp only[q,ct,bJ,aK];have a:=au E;generalize L[k]=v at a;have j:=K.frame f bC;obtain⟨Q,S,rfl⟩:=j.addr ae;refine⟨⟨ae,by first|trivial|omega⟩,ar.2 (bg.qq (j.fa pq a) (bg.new λU h2 e2 z d=>bg.ld z ?_))⟩;have n:=c.tt (f.tt d);refine oM (r:=v) (P v (aG a)) (T.on n) λp3 Z h3 M u J=>⟨_,_,_,rfl,?_⟩;have z1:=f.1;have z2:=d.1;have bl:=B.len;rw[aw,bT]at bl;have F:=d.tt u;refine(B.on F).push (bN F.1) M (λy I=>⟨by grind,λG=>gM (B.lt G) (J y I)⟩) ae λp4 c4 h4 m w g4=>⟨_,_,_,rfl,?_⟩;rw[fc];refine⟨⟨k+1,ae,ae,?_,?_⟩,ae⟩;rw[aV,a,aS];exact m;obtain⟨_,_,_,_,_,_,_,x⟩:=B;exact(f.tt F).fresh w x
 have q: ¬(k:Int)<((L.length:Nat):Int):=ae
 simp only[q,cU,az,aY];rw[aX ae]at B;exact A g e O o (B.mono c.1) (c.tt f)

end fE
end
section
open Go.fv
namespace fE
open ju gg
variable {L:List Rg}
structure JU (L:List Rg):Prop where
 len:L.length<=8
 all: ∀r∈L,Oe r
def JU.add(k:JU L)(r:Rg)(H:0<=r.e.fK):JU (Dr L r):=by unfold Dr;rcases FD L r with⟨_,e⟩|⟨_,_,e⟩|⟨_,_,_,e⟩|⟨h,_,b,e⟩<;>rw[e];exact k;exact k;exact k;rw[ag rfl];exact⟨by rw[R9];omega,λz a=>(Lk.1 a).elim (λe=>e▸⟨h,H⟩) (k.all z)⟩
def JU.rem(k:JU L)(x:Ev)(o:Int):JU (FC L x o):=by unfold FC;split;exact⟨cD (cS _ _) k.len,λz h=>k.all z (bD.1 h).1⟩;exact k
def JU.lS(k:JU L)(x:Ev)(o q:Int):JU (Lm L x o q):=by
 unfold Lm;split;rename_i H;have a:0<=q/\q<=2:=by unfold PB at H;split at H;assumption;cases H
 refine⟨by unfold MV;rw[aw];exact k.len,λz c=> ?_⟩;obtain⟨y,b,rfl⟩:=bh.1 c;have K:=k.all y b;split;refine⟨?_,K.sv⟩;have h:=K.rt;unfold jn at h⊢;simp only[aZ,fI,bn,eK]at h⊢;exact⟨h.1,h.2.1,⟨a.1,a.2⟩,h.2.2.2⟩;exact K;exact k

end fE
end
section
namespace dV
open gI (It)
open ju (Ev cY)
variable {d:SS} {k:Nat}
variable {l:List It} {s:gi.CF} {owner:Int}
structure Good (d:SS) (k:Nat):Prop where
 a:eM.lF d.A
 g:fE.JU d.G
 c:gi.Good d.C k
 b:d.B.next<=k+1
 v:d.B.over<=k
 q:d.Q=d.B.items
 ok:tX d.Q
 n:d.now<=2^40
 e:cY d.e=true/\d.e≠Ev.zero/\0<=d.e.fK
 t:d.tm<=2^40/\d.sq<=2^40
 r:d.rf<=k
def GS(e:Ev):SS:=⟨[], [],⟨[],1,0,0,0, [], []⟩,⟨[],1,0,0,0⟩, [],e,0,0,0,0⟩
def Good.new{e:Ev}(H:cY e=true)(a:e≠Ev.zero)(b:0<=e.fK):Good (GS e) 0:=
 ⟨eM.lF.nil,⟨bK _,λ_ h=>(by cases h)⟩,gi.Good.nil,bu _,bu _,rfl,tX.nil,bK _,⟨H,a,b⟩,⟨bK _,bK _⟩,bu _⟩
def x3(s:gI.BS)(n:Nat):gI.BS:= { s with items:=s.items.filter (λx=>decide ((n:Int)<(x.dB:Int))),over:=s.over+(s.items.filter (λx=>decide ((x.dB:Int)<=(n:Int)))).length }
def tY(d:SS)(n:Nat):Int:=if n>1099511627776 then 1 else if n<d.now then 18 else 0
def tZ(d:SS)(n:Nat):SS:= { d with C:=gi.lT d.C (n:Int),B:=x3 d.B n,Q:=(x3 d.B n).items,now:=n }
def CT(d:SS)(n:Nat):SS:=if tY d n=0 then tZ d n else d
def tX.filter(O:tX l)(P:It->Bool):tX (l.filter P):=by
 induction l with
 |nil=>exact O
 |cons x l i=>
  rw[di];split
  .obtain⟨a,b,c,D,e,f⟩:=O;have t:xp (l.filter P)<=xp l:=by
    clear i f e D;induction l with
    |nil=>simp
    |cons y l i=>rw[di,jA];split<;>(try rw[jA])<;>omega
   have T: ∀o,own (l.filter P) o<=own l o:=λo=>by
    clear i f e D t;induction l with
    |nil=>exact gv _
    |cons y l i=>rw[di,nC];split<;>(try rw[nC])<;>(try split)<;>omega
   rw[jA]at D e;have n:=MM (l:=l.filter P);refine⟨a,b,c,by rw[jA];omega,by rw[jA];omega,λk=>⟨MN,?_⟩⟩;have:=(f k).2;have:=T k;rw[nC]at*;omega
  exact i O.sub
def Sn(G:gi.Good s k)(O:gi.Ord s)(h:k<=30000)(n:Nat):gi.Good (gi.lT s (n:Int)) (k+1):=by exact(G.do (f:=⟨4,0,0,Ev.zero,none,0, [],n⟩) O (gv 0) h)
def Uk(G:gi.Good s k)(O:gi.Ord s)(H:k<=30000)(e:Ev)(h:0<=e.fK)(D:cQ)(t:Nat):gi.Good (gi.mq s e D t) (k+1):=by exact(G.do (f:=⟨0,0,0,e,none,0,D,t⟩) O h H)
def Good.more(G:Good d k):Good d (k+1):=⟨G.a,G.g,G.c.more,bN G.b,bN G.v,G.q,G.ok,G.n,G.e,G.t,bN G.r⟩
def Good.pass(G:Good d k)(O:gi.Ord d.C)(L:List Go.jD.E)(ok:gI.okB d.B L)(H:k<=30000)(n:Nat):Good (CT d n) (k+1):=by
 unfold CT;split;rename_i h;have a:n<=1099511627776:=by unfold tY at h;split at h;cases h;omega
 have c:=ok.zj;have b:=G.b;have e:(d.B.items.filter (λx=>decide ((x.dB)<=(n:Int)))).length<=d.B.items.length:=cS _ _;refine⟨G.a,G.g,Sn G.c O H n,by show d.B.next<=_;omega,by show d.B.over+_<=_;omega,rfl,?_,a,G.e,G.t,by have:=G.r;show d.rf<=_;omega⟩;show tX (d.B.items.filter _);rw[<-G.q];exact G.ok.filter _;exact G.more
abbrev wJ(l:List It)(owner:Int)(n:Nat):Bool:=oi.fits 4800 1600 (xp l) (own l) owner (n:Int)
def JC(d:SS)(owner:Int)(D:cQ)(t:Nat):Int:=if d.B.items.length≥16\/wJ d.Q owner D.length=false then 15 else gI.jQ d.B owner D t
def Sq(d:SS)(owner:Int)(D:cQ)(t:Nat):Int:=if d.B.items.length≥16\/wJ d.Q owner D.length=false then 0 else gI.Fz d.B owner D t
def Dv(d:SS)(owner:Int)(D:cQ)(t:Nat):SS:=if JC d owner D t=0 then { d with B:=gI.Lj d.B owner D t,Q:=(gI.Lj d.B owner D t).items } else d
def Ip(d:SS)(num owner:Int):SS:= { d with B:=gI.pn d.B num owner,Q:=(gI.pn d.B num owner).items }
def Iq(d:SS):SS:=match d.B.items with| []=>d|_::r=> { d with B:= { d.B with items:=r,taken:=d.B.taken+1 },Q:=r }
def tX.add{x:It}(o:tX l)(H:wJ l x.owner x.d.length=true):tX (l++ [x]):=by have h:=oi.Ok.take o H;rw[N7,show xp l+(x.d.length)=xp (x::l) by rw[jA];omega]at h;exact tX.perm h (eJ _ _).symm
theorem PS{D:cQ}{t:Nat}(h:JC d owner D t=0):wJ d.Q owner D.length=true/\gI.jQ d.B owner D t=0:=by unfold JC at h;split at h;cases h;grind
def Good.put(G:Good d k)(owner:Int)(D:cQ)(t:Nat):Good (Dv d owner D t) (k+1):=by
 unfold Dv;split
 .rename_i h;have⟨H,a⟩:=PS h;have e:gI.Lj d.B owner D t= { d.B with items:=d.B.items++ [⟨d.B.next,owner,D,t⟩],next:=d.B.next+1 } :=ag a;rw[e];refine⟨G.a,G.g,G.c.more,by show d.B.next+1<=_;have:=G.b;omega,by show d.B.over<=_;have:=G.v;omega,rfl,?_,G.n,G.e,G.t,by show d.rf<=_;have:=G.r;omega⟩;rw[<-G.q];exact tX.add G.ok H
 exact G.more
def Nc{s:gI.BS}{num:Int}: ∃P:It->Bool,(gI.pn s num owner).items=s.items.filter P/\(gI.pn s num owner).next=s.next/\(gI.pn s num owner).over=s.over:=by unfold gI.pn;split;exact⟨_,rfl,rfl,rfl⟩;exact⟨λ_=>true,(cK.2 λ_ _=>rfl).symm,rfl,rfl⟩
def Good.mD(G:Good d k)(num owner:Int):Good (Ip d num owner) (k+1):=by have⟨P,h,H,a⟩:=Nc (s:=d.B) (num:=num) (owner:=owner);refine⟨G.a,G.g,G.c.more,by show(gI.pn d.B num owner).next<=_;have:=G.b;omega,by show(gI.pn d.B num owner).over<=_;have:=G.v;omega,rfl,?_,G.n,G.e,G.t,by show d.rf<=_;have:=G.r;omega⟩;show tX (gI.pn d.B num owner).items;rw[h,<-G.q];exact G.ok.filter _
def Good.take(G:Good d k):Good (Iq d) (k+1):=by unfold Iq;split;exact G.more;rename_i x r h;refine⟨G.a,G.g,G.c.more,by show d.B.next<=_;have:=G.b;omega,by show d.B.over<=_;have:=G.v;omega,rfl,?_,G.n,G.e,G.t,by show d.rf<=_;have:=G.r;omega⟩;have ok:=G.ok;rw[G.q,h]at ok;exact ok.sub
def Good.wv(G:Good d k)(t:Nat):Good { d with A:=eM.wv d.A t } (k+1):=
 ⟨G.a.open t,G.g,G.c.more,by show d.B.next<=_;have:=G.b;omega,by show d.B.over<=_;have:=G.v;omega,G.q,G.ok,G.n,G.e,G.t,by show d.rf<=_;have:=G.r;omega⟩
def Good.Yj(G:Good d k)(O:gi.Ord d.C)(H:k<=30000)(e:Ev)(h:0<=e.fK)(D:cQ)(t:Nat):Good { d with C:=gi.mq d.C e D t } (k+1):=
 ⟨G.a,G.g,Uk G.c O H e h D t,by show d.B.next<=_;have:=G.b;omega,by show d.B.over<=_;have:=G.v;omega,G.q,G.ok,G.n,G.e,G.t,by show d.rf<=_;have:=G.r;omega⟩

end dV
end
section
namespace Ask
open ju (Ev cY)
open dV (SS Good)
open Bn (jP nT Prim oX C4 ku mj vP nU)
open Go.fv (RD)
variable {V:cQ→Bool} {σ:SS} {k:Nat} {ses:Int} {q:Rq}
def pB(a l:Nat):Nat:=min (a+l) 1099511627776
def ua(σ:SS):Option (Nat×Nat):=if σ.tm<σ.now then some (σ.now,0)else if 1099511627776<=σ.sq then none else some (σ.tm,σ.sq+1)
structure Ot where
 σ:SS
 e:Int
 num:Int
 zj:Int
 d:cQ
def bad(σ:SS)(e:Int):Ot:=⟨σ,e,0,0, []⟩
def Lw(σ:SS)(ses:Int)(d:cQ)(t:Nat)(n:Nat×Nat):Ot:=
 if dV.JC σ ses d t=0 then⟨{ dV.Dv σ ses d t with tm:=n.1,sq:=n.2 },0,dV.Sq σ ses d t,d.length, []⟩else⟨σ,dV.JC σ ses d t,dV.Sq σ ses d t,d.length, []⟩
def pC(V:kF)(σ:SS)(ses:Int)(b:nT)(n:Nat×Nat):Ot:=match ku V b with
 |none=>bad σ 3
 |some d=>Lw σ ses d (pB σ.now b.p.gT) n
def rF(q:Rq)(n:Nat×Nat):nT:=⟨⟨if q.on=true then 131072 else 0,0,q.dest,if q.on=true then q.ep else .zero,⟨q.ep,n.1,n.2⟩,q.gT⟩, [⟨1,1,0,0,q.nL⟩]⟩
def Ir(V:kF)(σ:SS)(ses:Int)(q:Rq):Ot:=
 if fE.kL σ.G q.ep ses=0 then(match ua σ with
  |none=>bad σ 5
  |some n=>pC V σ ses (rF q n) n)
 else bad σ (fE.kL σ.G q.ep ses)
def PT(V:kF)(d:cQ):Nat:=match mj V d with| .ok b=>(vP b).length| .error _=>0
def Va(σ:SS)(q:Rq):Nat:=pB σ.now q.kV.toNat
def Is(V:kF)(σ:SS)(ses:Int)(q:Rq):Ot:=
 if fE.kL σ.G q.ep ses=0 then
  if gi.yP ses (Va σ q)then(match gi.nW σ.C.L q.ep with
   |none=>bad σ 4
   |some z=>⟨{ σ with C:=gi.wD σ.C z ses (Va σ q) },0,(z.num:Int),(PT V z.d:Int),z.d⟩)
  else bad σ 1
 else bad σ (fE.kL σ.G q.ep ses)
def JD(n m:Int):Bool:=IntKind.wrap .u64 ((BitVec.ofInt (IntKind.bits .u64) n &&& BitVec.ofInt (IntKind.bits .u64) m).toNat:Int)==0
def FM(p:Prim):Bool:= !JD (p.fl:Int) 131072 && JD (p.fl:Int) 2
def pD(V:kF)(σ:SS)(ses:Int)(d:cQ):SS×Int:=match mj V d with
 | .error _=>(σ,0)
 | .ok b=>if FM b.p=true then(match ua σ with
  |none=>(σ,0)
  |some n=>(match nU V ⟨false,true,false,0,σ.now,b.p.id⟩ b.p.rep ⟨σ.e,n.1,n.2⟩ b.p.gT with
   |none=>(σ,0)
   |some r=>((pC V σ ses r n).σ,if(pC V σ ses r n).e=0 then 1 else 0)))
  else(σ,0)
def PU(V:kF)(σ:SS)(ses:Int)(num:Int):Ot:=
 if gi.mH σ.C.L num ses=0 then(match gi.Dt σ.C.L num with
  |none=>bad { σ with C:=gi.xM σ.C num ses } 0
  |some z=>⟨(pD V { σ with C:=gi.xM σ.C num ses } ses z.d).1,0,0,(pD V { σ with C:=gi.xM σ.C num ses } ses z.d).2, []⟩)
 else bad σ (gi.mH σ.C.L num ses)
def BW(σ:SS)(ses:Int)(o:Bool):Ot:=
 if eM.BI σ.A ses=0 then⟨{ σ with A:=eM.Ic (eM.kY σ.A ses o) ses },eM.R5 (eM.kY σ.A ses o) ses,0,eM.N9 (eM.kY σ.A ses o) ses,eM.Ib (eM.kY σ.A ses o) ses⟩
 else bad σ (eM.BI σ.A ses)
def Of(V:kF)(σ:SS)(ses:Int)(q:Rq):Ot:=
 if q.kind=1 then bad { σ with G:=fE.Dr σ.G ⟨q.ep,q.lS,ses⟩ } (fE.jQ σ.G ⟨q.ep,q.lS,ses⟩)
 else if q.kind=2 then(if fE.kL σ.G q.ep ses=0 then⟨{ σ with G:=fE.FC σ.G q.ep ses,C:=gi.CS σ.C q.ep },0,0,((gi.nF σ.C.L q.ep).length:Int), []⟩else bad σ (fE.kL σ.G q.ep ses))
 else if q.kind=3 then bad { σ with G:=fE.Lm σ.G q.ep ses q.lS } (fE.PB σ.G q.ep ses q.lS)
 else if q.kind=4 then Ir V σ ses q
 else if q.kind=5 then bad (dV.Ip σ q.num ses) (gI.qk σ.B q.num ses)
 else if q.kind=6 then⟨σ,fE.kL σ.G q.ep ses,(gi.Na σ.C.L q.ep:Int),0, []⟩
 else if q.kind=7 then Is V σ ses q
 else if q.kind=8 then PU V σ ses q.num
 else if q.kind=9 then bad { σ with C:=gi.Ju σ.C q.num ses } (gi.mH σ.C.L q.num ses)
 else if q.kind=10 then BW σ ses q.on
 else bad σ 3
def rG(id:Nat)(o:Ot):RD:=if o.e=0 then⟨id,0,o.num,o.zj,0,o.d⟩else⟨id,o.e,0,0,0, []⟩
def Vc(x:RD):cQ:=if x.qN then x.enc else []
def rH(id:Nat)(e:Int):RD:=⟨id,e,0,0,0, []⟩
def Lx(V:kF)(σ:SS)(ses:Int)(q:Rq):SS×RD:=
 if mP q=true/\q.kind<11 then
  if eM.VU σ.A ses=true then(match eM.CP σ.A ses q.id with
   |some b=>(σ,(Go.fv.OW b).getD RD.zero)
   |none=>({ (Of V σ ses q).σ with A:=eM.Au (Of V σ ses q).σ.A ses q.id (Vc (rG q.id (Of V σ ses q))) },rG q.id (Of V σ ses q)))
  else(σ,rH q.id 16)
 else(σ,rH q.id 3)
def Good.tj{C:gi.CF}(G:dV.Good σ k)(c:gi.Good C (k+1)):dV.Good { σ with C:=C } (k+1):=
 ⟨G.a,G.g,c,by show σ.B.next<=_;have:=G.b;omega,by show σ.B.over<=_;have:=G.v;omega,G.q,G.ok,G.n,G.e,G.t,by show σ.rf<=_;have:=G.r;omega⟩
def Good.mE{A:List eM.eM}(G:dV.Good σ k)(a:eM.lF A):dV.Good { σ with A:=A } k:=⟨a,G.g,G.c,G.b,G.v,G.q,G.ok,G.n,G.e,G.t,G.r⟩
def Good.V4{L:List fE.Rg}(G:dV.Good σ k)(a:fE.JU L):dV.Good { σ with G:=L } k:=⟨G.a,a,G.c,G.b,G.v,G.q,G.ok,G.n,G.e,G.t,G.r⟩
def Good.mk{t s:Nat}(G:dV.Good σ k)(H:t<=2^40)(h:s<=2^40):dV.Good { σ with tm:=t,sq:=s } k:=⟨G.a,G.g,G.c,G.b,G.v,G.q,G.ok,G.n,G.e,⟨H,h⟩,G.r⟩
theorem FN(G:dV.Good σ k){n:Nat×Nat}(h:ua σ=some n):n.1<=2^40/\n.2<=2^40:=by
 unfold ua at h;have:=G.n;have:=G.t;split at h;grind;split at h
 cases h;grind
def Good.Lw(G:dV.Good σ k)(ses:Int)(d:cQ)(t:Nat){n:Nat×Nat}(h:n.1<=2^40/\n.2<=2^40):dV.Good (Lw σ ses d t n).σ (k+1):=by unfold Ask.Lw;split;exact Good.mk (dV.Good.put G ses d t) h.1 h.2;exact dV.Good.more G
def Good.pC(G:dV.Good σ k)(ses:Int)(b:nT){n:Nat×Nat}(h:n.1<=2^40/\n.2<=2^40):dV.Good (pC V σ ses b n).σ (k+1):=by unfold Ask.pC;split;exact dV.Good.more G;exact Good.Lw G _ _ _ h
def Good.tell(G:dV.Good σ k)(ses:Int)(d:cQ):dV.Good (pD V σ ses d).1 (k+1):=by
 unfold pD;split;exact dV.Good.more G;split
 split
 exact dV.Good.more G;rename_i n h;split;exact dV.Good.more G;exact Good.pC G _ _ (FN G h);exact dV.Good.more G
def Good.WU(G:dV.Good σ k)(O:gi.Ord σ.C)(h:k<=30000)(f:gi.OP)(H:0<=f.e.fK):dV.Good { σ with C:=gi.Xw f σ.C } (k+1):=Good.tj G (G.c.do O H h)
def Good.Of(G:dV.Good σ k)(O:gi.Ord σ.C)(H:k<=30000)(a:0<=q.ep.fK):dV.Good (Of V σ ses q).σ (k+2):=by
 unfold Ask.Of;split;exact dV.Good.more (dV.Good.more (Good.V4 G (G.g.add _ a)));split
 split
 have h:=Good.WU G O H ⟨5,0,0,q.ep,none,0, [],0⟩ a;exact dV.Good.more (Good.V4 h (G.g.rem _ _));exact dV.Good.more (dV.Good.more G);split
 exact dV.Good.more (dV.Good.more (Good.V4 G (G.g.lS _ _ _)));split
 unfold Ir;split;split
 exact dV.Good.more (dV.Good.more G);rename_i n c;exact dV.Good.more (Good.pC G _ _ (FN G c));exact dV.Good.more (dV.Good.more G);split
 exact dV.Good.more (dV.Good.mD G _ _);split
 exact dV.Good.more (dV.Good.more G);split
 unfold Is;split;split
 rename_i b;have h:=Good.WU G O H ⟨1,0,ses,q.ep,none,0, [],Va σ q⟩ a;unfold gi.Xw at h;rw[af (show¬(1:Int)=0 by decide),ag (show(1:Int)=1 from rfl),ag b]at h;dsimp only at h;split;exact dV.Good.more (dV.Good.more G);rename_i z d;rw[d]at h;exact dV.Good.more h;exact dV.Good.more (dV.Good.more G);exact dV.Good.more (dV.Good.more G);split
 unfold PU;have h:=Good.WU G O H ⟨2,q.num,ses,.zero,none,0, [],0⟩ (gv 0);split;split
 exact dV.Good.more h;exact Good.tell h _ _;exact dV.Good.more (dV.Good.more G);split
 have h:=Good.WU G O H ⟨3,q.num,ses,.zero,none,0, [],0⟩ (gv 0);exact dV.Good.more h;split
 unfold BW;split;exact dV.Good.more (dV.Good.more (Good.mE G ((G.a.watch _ _).read _)));exact dV.Good.more (dV.Good.more G);exact dV.Good.more (dV.Good.more G)
def Good.Lx(G:dV.Good σ k)(O:gi.Ord σ.C)(H:k<=30000)(a:0<=q.ep.fK):dV.Good (Lx V σ ses q).1 (k+2):=by
 have h:=Good.Of (V:=V) (ses:=ses) G O H a;have m:=dV.Good.more (dV.Good.more G);unfold Ask.Lx;split;split
 split
 exact m;exact Good.mE h (h.a.BJ _ _ _);exact m;exact m
section
open eM
variable {A : List eM.eM} {m n : Int}
end
end Ask
end
section
variable {h:aA} {R:fp}
def wK{b:Nat} (hv:Cl 71 #[.P b 0] h λz' H=> ∃S,z'=.B S/\ite (!S) (R (.Z) H) (Hi H b 1 λL=>Hi H b 2 λy=>Hi H b 3 λq=>Hi H b 4 λk=>Hl H b 0 λc t T=>Cl 42 #[] H λA' e=>Vp A' λt9=>Cc e b 0 (.L c t T)/\Cc e b 4 (.I k)/\Cc e b 3 (.I q)/\Cc e b 2 (.I y)/\Cc e b 1 (.I L)/\Cl 45 #[.Q t9,.I L] e λG' j=>Vp G' λc'=>Cc j b 0 (.L c t T)/\Cc j b 4 (.I k)/\Cc j b 3 (.I q)/\Cc j b 2 (.I y)/\Cl 45 #[.Q c',.I y] j λH' n=>Vp H' λd'=>Cc n b 0 (.L c t T)/\Cc n b 4 (.I k)/\Cc n b 3 (.I q)/\Cl 45 #[.Q d',.I q] n λI' w=>Vp I' λe'=>Cc w b 0 (.L c t T)/\Cc w b 4 (.I k)/\Cl 45 #[.Q e',.I k] w λJ' G=>Vp J' λf'=>Cc G b 0 (.L c t T)/\Cl 45 #[.Q f',.I (t:Int)] G λK' J=>Vp K' λg'=>Cc J b 0 (.L c t T)/\Cl 46 #[.Q g'] J λL' K=>Vl L' λj' i' h'=>Cc K b 0 (.L c t T)/\aW K (.C #[.L j' i' h'] 32) λU x=>Cc x b 0 (.L c t T)/\Hl x b 0 λk' P _=> ∃(I:bZ->Nat->Nat->kj)(M:bZ->Nat->Nat->kG),I (Sa U 0) 1 1 0 x/\∀p O o d f,I p O o d f->ite (decide (d<(P:Int))) (Bd d P/\aH k' λa=>aF.LD f (a.add (toNat d*4)) λl' m' p' o' n' q'=>aW f (.C #[.I 0,.I 0,.Z,.U 0] 92) λB X=>aF.ST X (AA B 0) l' m' p' o' n' q' λg=>Hi g B 0 λQ=>Hi g B 1 λz=>Hl g B 2 λu s r=>Hu g B 3 λl=>Cl 42 #[] g λM' i=>Vp M' λr'=>Cc i B 3 (.U l)/\Cc i B 2 (.L u s r)/\Cc i B 1 (.I z)/\Cc i B 0 (.I Q)/\Cl 45 #[.Q r',.I Q] i λO' m=>Vp O' λs'=>Cc m B 3 (.U l)/\Cc m B 2 (.L u s r)/\Cc m B 1 (.I z)/\Cl 45 #[.Q s',.I z] m λB' v=>Vp B' λt'=>Cc v B 3 (.U l)/\Cc v B 2 (.L u s r)/\Cl 43 #[.Q t',.L u s r] v λC' E=>Vp C' λu'=>Cc E B 3 (.U l)/\Cl 44 #[.Q u',.U l] E λD' Z=>Vp D' λv'=>Cl 46 #[.Q v'] Z λE' a'=>Vl E' λy' x' w'=>aW a' (.C #[.L y' x' w'] 32) λV b'=>jE (Builtin.append_ #[39,39] 39 #[.L p O o,.L (Sa V 0) 1 1]) b' λF' F=> ∃D C A,F'=.L D C A/\(I D C A (wrap .i64 (d+1)) F/\M D C A (wrap .i64 (d+1)) F<M p O o d f)) (R (.L p O o) f))):Cl 41 #[.P b 0] h R:=aP [(11,λ_=> .ni (lO [1,2,3,4,6,7,8,9,11,12,13,14,16,17,18,19,21,22,23,24,25,0,5,10,15,20,26,27,28,29] .done)),(16,.loop [(3,sS),(43,sI)]),(27,λ_=> .ni (lO [0,2,3,5,6,8,9,11,12,1,4,7,10,13,14,15,16,17] .done))] hv
def BX{L:bZ}{l u:Nat} (hv:ite ((l:Int)==0) (R (.T #[.Q none,.I 3]) h) (Cl 18 #[] h λb3 q=>Vp b3 λt=>Bd 0 l/\aH L λa=>lW q (a.add (toNat 0*1)) λZ' X' V'=>Cl 23 #[.L Z' X' V'] q λb4 m'=>Vp b4 λd=>Cl 27 #[.Q d] m' λc2 p'=>Vi c2 λa0=>Cl 27 #[.Q d] p' λc3 q'=>Vi c3 λa1=>Cl 27 #[.Q d] q' λc4 r'=>Vi c4 λa2=>Cl 27 #[.Q d] r' λc5 s'=>Vi c5 λa3=>aH t λG=>aO s' (G.add 1) (.I a0) λt'=>aH t λU=>aO t' (U.add 2) (.I a1) λu'=>aH t λV=>aO u' (V.add 3) (.I a2) λv'=>aH t λX=>aO v' (X.add 4) (.I a3) λe'=>Cl 27 #[.Q d] e' λc6 f'=>Vi c6 λp=>aB (λ(a7:Bool) r=>ite a7 (R (.T #[.Q none,.I 3]) r) (((0:Int)<=1/\1<=(l:Int))/\∃(I:Int->kj)(M:Int->kG),I 0 0 r/\∀n T e,I n T e->ite (decide (T<((l - (toNat 1):Nat):Int))) (((0:Int)<=T/\T<((l - (toNat 1):Nat):Int))/\aH (cE L u (toNat 1) 1) λZ=>lW e (Z.add (toNat T*1)) λb0 a9 a8=>Cl 23 #[.L b0 a9 a8] e λc7 g'=>Vp c7 λf=>Cl 27 #[.Q f] g' λc8 h'=>Vi c8 λb1=>Cl 27 #[.Q f] h' λc9 i'=>Vi c9 λb2=>Cl 25 #[.Q f] i' λb5 j'=>Vl b5 λy' x' w'=>Cl 26 #[.Q f] j' λb6 k'=>Vu b6 λz'=>aW k' (.C #[.I 0,.I 0,.Z,.U 0] 92) λb l'=>aF.ST l' (AA b 0) b1 b2 y' x' w' z' λn'=>aB (λ(H':Bool) g=>ite H' (R (.T #[.Q none,.I 3]) g) (aH t λA=>lW g A λC B z=>aF.LD g (AA b 0) λI' J' M' L' K' O'=>aW g (.C #[.I I',.I J',.L M' L' K',.U O'] 92) λd' s=>aU s A=some (.L C B z)/\jE (Builtin.append_ #[89,89] 89 #[.L C B z,.L (Sa d' 0) 1 1]) s λb7 o'=>Vl b7 λR' Q' P'=>aH t λa'=>aO o' a' (.L R' Q' P') λi=>aH t λb'=>AN i (b'.add 5) λS'=>Hi i b 0 λT'=>Hu i b 3 λU'=>Cl 112 #[.Q S',.I T',.U U'] i λb8 k=>Vi b8 λ_=> ∃o,Cc k b 0 (.I o)/\(I o (wrap .i64 (T+1)) k/\M o (wrap .i64 (T+1)) k<M n T e))) (λj=>Cl 30 #[.Q f] n' λb9 m=> ∃v,b9=.I v/\ite (v !=0) (j true m) (aF.LD m (AA b 0) λA' B' E' D' C' F'=>Cl 111 #[.agg #[.I A',.I B',.L E' D' C',.U F']] m λc0 c=> ∃w,c0=.B w/\ite (!w) (j true c) (∃x,Cc c b 0 (.I x)/\ite (decide (x<=n)) (j true c) (Hi c b 0 λG'=>aH t λc'=> ∃y,aU c (c'.add 1)=some (.I y)/\j (decide (G'≥y)) c))))) (R (.T #[.Q t,.I 0]) e))) (λJ=>Cl 30 #[.Q d] f' λc1 H=> ∃D,c1=.I D/\ite (D !=0) (J true H) (ite (p !=(wrap .i64 ((l:Int) - 1))) (J true H) (ite (decide (p>16)) (J true H) (aH t λK=> ∃E,aU H (K.add 1)=some (.I E)/\ite (decide (E<1)) (J true H) (aH t λO=>kU H (O.add 1) λa4=>aH t λP=>kU H (P.add 2) λa5=>aH t λQ=>kU H (Q.add 3) λa6=>aH t λS=> ∃F,aU H (S.add 4)=some (.I F)/\J ((wrap .i64 (a4 - 1)) !=(wrap .i64 ((wrap .i64 ((wrap .i64 (a5+a6))+F))+p))) H))))))):Cl 70 #[.L L l u] h R:=aP [(20,.join [(86,sB)]),(20,λ_=>pN 45),(32,.loop [(7,sI),(90,sI)]),(49,.join [(127,sB)]),(49,λ_=>pN 23),(56,λ_=>pN 11),(58,λ_=>pN 9)] hv

end
section
open Go.fv Go.jD
namespace gI
open gg
variable {h H a:aA} {b:Nat} {X:Ft} {R:fp} {p:bZ} {c d:Nat} {L:List E} {s:BS}
def IL(a h:aA)(p:bZ)(l c:Nat)(i:List It):Prop:=
 ∃(e:List IV)(D:gF),l=e.length/\Own h p l c 4 (e.flatMap iC)/\e.map IV.abs=i/\(∀y∈e,y.v.ok h D)/\(∀y,D y->a.size<=y/\y<h.size/\¬aL p y)/\∀y,aL p y->a.size<=y
def IL.len{l:Nat}{i:List It}(e:IL a h p l c i):l=i.length:=by have⟨y,D,f,_,g,_⟩:=e;rw[f,<-g,aw]
theorem wF(f:CQ h b X s)(hk: ∀H J B C,IL h H J B C s.items->Fr No h H->R (.L J B C) H):Cl 32 #[.P b 0] h R:=by
 obtain⟨L,⟨lp,lc,i,A,S,f⟩,G⟩:=f;obtain⟨hL,m'⟩:=f.JU G;refine xH (gh f ⟨_,rfl,aB.of λf' hJ=> ?_⟩);simp only[bJ];refine⟨_,_,_,ai f.cN,?_⟩;refine⟨λr q O t g=> ∃k:Nat,t=(k:Int)/\k<=i.length/\IL h g r q O (s.items.take k)/\Fr No h g,λ_ _ _ t _=>i.length - t.toNat,⟨0,rfl,ae,⟨[],λ_=>False,rfl,.nil rfl rfl rfl rfl,bt,(λy hy=>by cases hy),(λy hy=>hy.elim),λy ⟨A,e,_⟩=>by cases e⟩,Fr.refl _ _⟩,?_⟩;rintro r q O _ g ⟨k,rfl,k',I,l⟩;have M:=f.on l;by_cases c':k<i.length
 .have Q:(k:Int)<(i.length:Int):=ae
  simp only[Q,ct,bJ,aK];have⟨x,o⟩:=lP c';obtain⟨ab,g',rfl⟩:=M.own.addr ae;refine⟨⟨by first|trivial|omega,by first|trivial|omega⟩,ar.2 (aF.qq (M.own.fa iL o) (aF.new λb1 h8 i' b' m=>aF.ld b' ?_))⟩;have T:s.items[k]? =some x.abs:=by rw[<-f.abs,aN,o];rfl
  have d':=G.it x.abs (aG T);have dl:x.v.b.length<=600:=d'.2.2.2.1;have e':=((M.Gt x (aG o)).row).frame m bC;refine xe e' rfl ae λz P Z E f9 g9=>⟨_,_,_,_,_,_,rfl,?_⟩;have F:Fr No g z:=m.tt f9;obtain⟨V,D,y1,u,U,y4,y5,y6⟩:=I;have yl:V.length<=16:=by have:=bV List.length U;rw[aw,bT]at this;omega
  have z9:=F.1;have zg:=l.1;have z8:=m.1;refine iV tI uI (u.frame F bC) rfl (λw hw=>by simp at hw;rcases hw with rfl|rfl|rfl|rfl<;>rfl) ae ae λo' h' j' n' j a'=>⟨_,_,_,rfl,?_⟩;rw[fc];have K: ∀y,aL P y->g.size<=y/\y<z.size:=λy hy=>⟨bN (g9 y hy),E.dk hy⟩;have p':=j.1;refine⟨⟨k+1,ae,ae,⟨V++ [⟨x.num,x.owner,⟨P,Z,x.v.b⟩,x.dB⟩],λy=>D y\/aL P y,by grind,?_,?_,?_,?_,?_⟩,?_⟩,ae⟩;grind;rw[aS,U,aV,T];rfl;intro w hw;rcases bP.1 hw with hw|hw;exact(((y4 w hw).frame F bC).frame j (λy hy=>(y5 y hy).2.2)).mono (λy=> .inl);obtain rfl:=bW.1 hw;exact BV.jK (E.frame j (λy hy n=>gM (K y hy) (u.dk n))) (λy=> .inr);rintro y (hy|hy);grind;have A:=K y hy;exact⟨ae,ae,λn=>(a' y n).elim (λv=>bN (u.dk v)) (λv=>ae)⟩;grind;exact(l.tt F).fresh j y6
 have Q: ¬(k:Int)<(i.length:Int):=ae
 simp only[Q,cU,az,aY];subst hJ;have l':=f.len;rw[aX ae]at I;exact hk g r q O I l
def pE(s:BS):cQ:=bm s.next++bm s.taken++bm s.mD++bm s.over++bm s.items.length
def Ly(x:It):cQ:=bm x.num++bm x.owner.toNat++cX x.d++bm x.dB
def iE(s:BS):List (cQ):=pE s::s.items.map Ly
def Iu(s:BS):(pE s).length<=60:=by unfold pE;simp only[aq];have A:=(bw s.next).2;have e:=(bw s.taken).2;have f:=(bw s.mD).2;have g:=(bw s.over).2;have i:=(bw s.items.length).2;omega
def LA{x:It}(h:x.d.length<=600):(Ly x).length<=700:=by unfold Ly cX;simp only[aq];have A:=(bw x.num).2;have e:=(bw x.owner.toNat).2;have f:=(bw x.d.length).2;have g:=(bw x.dB).2;omega
theorem mz(f:CQ h b X s)(a9:s.next<=1000000000)(hk: ∀H p' l' c',BL h H p' l' c' (iE s)->Fr No h H->R (.L p' l' c') H):Cl 41 #[.P b 0] h R:=by
 obtain⟨L,⟨lp,lc,w,g',S,f⟩,T⟩:=f;obtain⟨hL,b0⟩:=f.JU T;have a7:=T.zj;have E':=f.len;have r: ∀(n:Nat),fx (n:Int)=n:=λn=>by unfold fx;omega
 refine wK (gh f ⟨_,rfl,?_⟩);simp only[df,az,aY];refine⟨_,ai f.cN,_,ai f.cN,_,ai f.cN,_,ai f.cN,_,_,_,ai f.cN,?_⟩;refine gg.gC λh2 L' S2 W2 f2 g2=>⟨_,rfl,?_⟩;have u2:Up h S2 h2:=⟨f2,g2⟩;have lb:=aD f.cN;have v: ∀{S:gF}{H:aA},Up h S H->¬S b:=λb' j=>by have:=b'.ge b j;omega
 have m:=f2.get f.cN id;refine⟨ai m,ai m,ai m,ai m,ai m,?_⟩;refine iK W2 bt ae λh3 S3 W3 s3=>⟨_,rfl,?_⟩;have t:=s3.fr.get m (v u2);have u3:=u2.step s3;rw[r,dj]at W3;have l1:=(bw s.next).2;refine⟨ai t,ai t,ai t,ai t,?_⟩;refine iK W3 ae ae λh4 S4 W4 s4=>⟨_,rfl,?_⟩;have z:=s4.fr.get t (v u3);have u4:=u3.step s4;rw[r]at W4;have l2:=(bw s.taken).2;refine⟨ai z,ai z,ai z,?_⟩;refine iK W4 (by simp only[aq];omega) ae λh5 S5 W5 s5=>⟨_,rfl,?_⟩;have K:=s5.fr.get z (v u4);have u5:=u4.step s5;rw[r]at W5;have l3:=(bw s.mD).2;refine⟨ai K,ai K,?_⟩;refine iK W5 (by simp only[aq];omega) ae λh6 S6 W6 s6=>⟨_,rfl,?_⟩;have b6:=s6.fr.get K (v u5);have u6:=u5.step s6;rw[r]at W6;have l4:=(bw s.over).2;refine⟨ai b6,?_⟩;refine iK W6 (by simp only[aq];omega) ae λh7 S7 W7 s7=>⟨_,rfl,?_⟩;have b7:=s7.fr.get b6 (v u6);have u7:=u6.step s7;rw[r,E']at W7;refine⟨ai b7,?_⟩;have hh:=Iu s;refine je (bs:=pE s) W7 ae λq D i o8 f8 g8=>⟨_,_,_,rfl,?_⟩;have b8:=f8.get b7 id;refine⟨ai b8,cg ?_⟩;have f9:Fr No i (i.push (.C #[.slice q (pE s).length D] 32)):=Fr.push _ _;have o9:Own (i.push (.C #[.slice q (pE s).length D] 32)) (Sa i.size 0) 1 1 1 (ie ⟨q,D,pE s⟩):=.row i.size 0 _ _ rfl bR (bu _) bt rfl (λb2 b9 hj=>by rw[bj];simpa using hj);have F8:Fr No h i:=u7.fr.tt f8;have z8:=F8.1;have z7:=u7.fr.1;have G:BL h (i.push (.C #[.slice q (pE s).length D] 32)) (Sa i.size 0) 1 1 [pE s]:=by refine⟨[⟨q,D,pE s⟩],aL q,rfl,dH o9,rfl,?_,?_,λy ⟨g',e,e2⟩=>by cases e;rw[<-e2];exact z8⟩;intro x j;obtain rfl:=bW.1 j;exact BV.jK (o8.frame f9 bC) (λ_=>id);intro y l;have h1:=g8 y l;have h2:=o8.dk l;exact⟨ae,by rw[cI];omega,λ⟨g',e,e2⟩=>by grind⟩
 have J:Fr No h (i.push (.C #[.slice q (pE s).length D] 32)):=F8.tt f9;generalize i.push (.C #[.slice q (pE s).length D] 32)=h9 at G J⊢;generalize (some (AA i.size 0):bZ)=p9 at G⊢;have M9:=f.on J;refine⟨ai M9.cN,_,_,_,ai M9.cN,?_⟩;refine⟨λZ V Q a' g=> ∃k:Nat,a'=(k:Int)/\k<=w.length/\BL h g Z V Q (pE s::(s.items.take k).map Ly)/\Fr No h g,λ_ _ _ a' _=>w.length - a'.toNat,⟨0,rfl,ae,dH G,J⟩,?_⟩;rintro Z V Q _ g ⟨k,rfl,a8,B,E⟩;have M:=f.on E;by_cases F':k<w.length
 .have q1:(k:Int)<(w.length:Int):=ae
  simp only[q1,ct,bJ,aK];have⟨x,j⟩:=lP F';obtain⟨ab,R',rfl⟩:=M.own.addr ae;refine⟨⟨by first|trivial|omega,by first|trivial|omega⟩,ar.2 (aF.qq (M.own.fa iL j) (aF.new λb1 j' U' o F=> ?_))⟩;have s':s.items[k]? =some x.abs:=by rw[<-f.abs,aN,j];rfl
  have u:=T.it x.abs (aG s');have dl:x.v.b.length<=600:=u.2.2.2.1;have xo:1<=x.owner/\x.owner<=1099511627776:=⟨u.2.2.2.2.1,u.2.2.2.2.2.1⟩;have xt:x.dB<=1099511627776:=u.2.2.2.2.2.2;have xn:x.num<s.next:=u.2.1;refine⟨_,ai o,_,ai o,_,_,_,ai o,_,ai o,?_⟩;refine gg.gC λB' L' t' u' h' A'=>⟨_,rfl,?_⟩;have o':Up j' t' B':=⟨h',A'⟩;have b3:=aD o;have P: ∀{S:gF}{H:aA},Up j' S H->¬S b1:=λb' j=>by have:=b'.ge b1 j;omega
  have C:=h'.get o id;refine⟨ai C,ai C,ai C,ai C,?_⟩;refine iK u' bt ae λX' M' e' k'=>⟨_,rfl,?_⟩;have A:=k'.fr.get C (P o');have q':=o'.step k';rw[r,dj]at e';have l5:=(bw x.num).2;refine⟨ai A,ai A,ai A,?_⟩;refine iK e' ae ae λZ' O' f' m'=>⟨_,rfl,?_⟩;have O:=m'.fr.get A (P q');have U:=q'.step m';have eo:fx x.owner=x.owner.toNat:=by unfold fx;omega
  rw[eo]at f';have l6:=(bw x.owner.toNat).2;refine⟨ai O,ai O,?_⟩;have I':=((M.Gt x (aG j)).row).frame (F.tt U.fr) bC;refine pd f' (by simp only[aq];omega) I' rfl ae (λy l G' hS=> ?_) λa0 P' v' n'=>⟨_,rfl,?_⟩;have a1:=(M.Gt x (aG j)).own G' y l;have a2:=M.La y a1;have a3:=U.ge y hS;have a4:=F.1;omega;have x':=n'.fr.get O (P U);have K':=U.step n';have el:(cX x.v.b).length=(bm x.v.b.length).length+x.v.b.length:=by unfold cX;rw[aq]
  have l7:=(bw x.v.b.length).2;refine⟨ai x',?_⟩;refine fT x.dB v' (by simp only[aq];omega) rfl ae λa5 Q' w' J'=>⟨_,rfl,?_⟩;have r':=K'.step J';have rl:=LA (x:=x.abs) dl;refine je (bs:=Ly x.abs) w' ae λb5 T' C' H' y' i'=>⟨_,_,_,rfl,?_⟩;have I:Fr No g C':=F.tt (r'.fr.tt y');have c1:=I.1;have zg:=E.1;have c0:=(F.tt r'.fr).1;have bl:=B.len;rw[ba,aw,bT]at bl;refine(B.on I).push ae H' (λy l=>⟨bN (i' y l),λho=>gM (B.lt ho) (i' y l)⟩) ae ?_;intro b4 S' a6 d' z' V';refine⟨_,_,_,rfl,?_⟩;rw[fc];refine⟨⟨k+1,ae,ae,?_,?_⟩,ae⟩;rw[aV,s',aS];rw[dC]at d';exact d';obtain⟨_,_,_,_,_,_,_,D'⟩:=B;exact(E.tt I).fresh z' D'
 have q1: ¬(k:Int)<(w.length:Int):=ae
 simp only[q1,cU,az,aY];rw[aX ae]at B;exact hk g Z V Q B E

end gI
end
section
variable {h:aA} {R:fp}
variable {s a S:Nat} {o:Int} {b:bZ}
def FO{e:Bool}{f:Int}{g:Int}{i:cF}{j:cF}(w:aW h (.C #[.B e,.U f,.U g,.S i,.S j] 29) λB H=>av.LD H (AA B 0) λC D E F G=>Cl 13 #[.agg #[.B C,.U D,.U E,.S F,.S G]] H λv c=> ∃l T,v=.T #[.Q l,.I T]/\ite (T !=0) (R (.T #[.Q none,.I T]) c) (Cl 14 #[.I 4800,.I 1600] c λV d=> ∃k t,V=.T #[.Q k,.I t]/\ite (t !=0) (R (.T #[.Q none,.I t]) d) (Cl 15 #[] d λI n=>Vp I λx=>Cl 16 #[] n λJ p=>Vp J λy=>Cl 17 #[] p λK q=>Vp K λz=>Cl 18 #[] q λL r=>Vp L λA=>aW r (.C #[.Q x,.Q y,.Q z,.Q A,.Q k,.Q l,.U 0,.I 0] 63) λm u=>R (.T #[.P m 0,.I 0]) u))):Cl 4 #[.agg #[.B e,.U f,.U g,.S i,.S j]] h R:=aP [] w
def uO (H: ∃f,Cc h s 0 (.Q f)/\ite (!f.isNone) (∃t,Cc h s 1 (.Q t)/\ite (!t.isNone) (∃T,Cc h s 2 (.Q T)/\ite (!T.isNone) (∃c,Cc h s 3 (.Q c)/\ite (!c.isNone) (∃d,Cc h s 4 (.Q d)/\ite (!d.isNone) (∃e,Cc h s 5 (.Q e)/\R (.B (!e.isNone)) h) (R (.B false) h)) (R (.B false) h)) (R (.B false) h)) (R (.B false) h)) (R (.B false) h)):Cl 36 #[.P s 0] h R:=aP [] H
def uQ{n:Int} (q:Cl 36 #[.P s 0] h λv H=> ∃k,v=.B k/\ite (!k) (R (.I 6) H) (ite (decide (n>1099511627776)) (R (.I 1) H) (∃T,Cc H s 6 (.U T)/\ite (decide (n<T)) (R (.I 18) H) (aO H (AA s 6) (.U n) λf=>Hp f s 2 λr=>Cl 87 #[.Q r,.U n] f λV g=>Vl V λ_ _ _=>Hp g s 3 λu=>Cl 88 #[.Q u,.U n] g λL l=>Vl L λw i _=> ∃(I:kj)(m:kG),I 0 l/\∀t c,I t c->ite (decide (t<(i:Int))) (Bd t i/\aH w λA=>aF.LD c (A.add (toNat t*4)) λx y D C z E=>aW c (.C #[.I 0,.I 0,.Z,.U 0] 92) λB p=>aF.ST p (AA B 0) x y D C z E λd=>Hp d s 4 λF=>Hi d B 1 λG=>Hl d B 2 λK j J=>Cl 89 #[.Q F,.I G,.I (j:Int)] d λM e=>Vi M λ_=>Cc e B 2 (.L K j J)/\(I (wrap .i64 (t+1)) e/\m (wrap .i64 (t+1)) e<m t c)) (R (.I 0) c))))):Cl 50 #[.P s 0,.U n] h R:=aP [(31,.loop [(38,sI)]),(42,λ_=>pN 10)] q
def wL{g:bZ}{d D:Nat}{V:Int} (q:Cl 36 #[.P s 0] h λv H=> ∃T,v=.B T/\ite (!T) (R (.T #[.I 0,.I 6]) H) (aB (λ(r:Bool) c=>ite r (R (.T #[.I 0,.I 15]) c) (Hp c s 3 λz=>Cl 341 #[.Q z,.I o,.L g d D,.U V] c λC e=> ∃l t,C=.T #[.I l,.I t]/\aB (λm=>R (.T #[.I l,.I t]) m) (λj=>ite (t==0) (Hp e s 4 λA=>Cl 33 #[.Q A,.I o,.I (d:Int)] e λE n=> ∃B,E=.I B/\j n) (j e)))) (λJ=>Hp H s 3 λu=>Cl 32 #[.Q u] H λF f=> ∃x i w,F=.L x i w/\ite (decide (((i:Nat):Int)≥16)) (J true f) (Hp f s 4 λy=>Cl 340 #[.Q y,.I o,.I (d:Int)] f λG p=> ∃k,G=.B k/\J (!k) p)))):Cl 318 #[.P s 0,.I o,.L g d D,.U V] h R:=aP [(11,.join [(16,sB)]),(22,.join [])] q
def rJ{num:Int} (q:aW h (.C #[.I num] 3) λB m=>Cl 36 #[.P s 0] m λv c=> ∃T,v=.B T/\ite (!T) (R (.I 6) c) (Hp c s 3 λr=>Cl 32 #[.Q r] c λV d=>Vl V λi g u=>Hp d s 3 λw=>Hi d B 0 λx=>Cl 260 #[.Q w,.I x,.I o] d λE n=>Vi E λk=>Cl 177 #[.L i g u,.func (.func 261) #[] #[.P B 0]] n λF e=>Vi F λt=>aB (λ(y:Bool) H=>aB (λp=>R (.I k) p) (λj=>ite y (Hp H s 4 λz=>Bd t g/\aH i λA=>lW H ((A.add (toNat t*4)).add 2) λD l C=>Cl 89 #[.Q z,.I o,.I (l:Int)] H λG f=>Vi G λ_=>aU f ((A.add (toNat t*4)).add 2)=some (.L D l C)/\j f) (j H))) (λJ=>ite (k==0) (J (decide (t≥0)) e) (J false e)))):Cl 186 #[.P s 0,.I num,.I o] h R:=aP [(13,λ_=>pN 8),(18,.join [(33,sB)]),(19,.join []),(20,λ_=>pN 12)] q
def pR{x:Int}{X:Int}{f:bZ}{e d:Nat}{g:Int}{c:Nat}(i:aW h (.C #[.I x,.I X,.L f e d,.U g] 92) λB H=>Hi H B 0 λT=> ∃t,Cc H c 0 (.I t)/\R (.B (T==t)) H):Cl 261 #[.agg #[.I x,.I X,.L f e d,.U g],.P c 0] h R:=aP [] i
def uR(w:aW h (.C #[.I 0,.I 0,.Z,.U 0] 92) λc r=>Cl 36 #[.P s 0] r λd' d=> ∃q,d'=.B q/\ite (!q) (aF.ST d (AA c 0) 0 0 none 0 0 0 λe=>aF.LD e (AA c 0) λx z G E C K=>R (.T #[.agg #[.I x,.I z,.L G E C,.U K],.I 6]) e) (Hp d s 3 λM=>Cl 138 #[.Q M] d λe' u=> ∃T j m l k n t,e'=.T #[.agg #[.I T,.I j,.L m l k,.U n],.I t]/\aW u (.C #[.I 0,.I 0,.Z,.U 0] 92) λB v=>aF.ST v (AA B 0) T j m l k n λH=>aB (λf=>aF.LD f (AA B 0) λV X b' a' Z c'=>aF.ST f (AA c 0) V X b' a' Z c' λg=>aF.LD g (AA c 0) λy A I F D L=>R (.T #[.agg #[.I y,.I A,.L I F D,.U L],.I t]) g) (λJ=>ite (t==0) (Hp H s 4 λO=>Hi H B 1 λP=>Hl H B 2 λU p Q=>Cl 89 #[.Q O,.I P,.I (p:Int)] H λf' i=>Vi f' λ_=>Cc i B 2 (.L U p Q)/\J i) (J H)))):Cl 95 #[.P s 0] h R:=aP [(15,.join []),(16,λ_=>pN 10)] w
def uT (hv:Cl 36 #[.P s 0] h λj0 K=> ∃x',j0=.B x'/\ite (!x') (R (.Z) K) (Hp K s 5 λc0=>Cl 28 #[.Q c0] K λj1 a5=> ∃y' z' A' B' C' D' E',j1=.agg #[.B y',.U z',.U A',.S B',.S C',.U D',.U E']/\aW a5 (.C #[.B false,.U 0,.U 0,.S (⟨#[]⟩:cF),.S (⟨#[]⟩:cF),.U 0,.U 0] 68) λB a7=>ah.ST a7 (AA B 0) y' z' A' B' C' D' E' λp'=>av.LD p' (AA B 0) λc1 c2 c3 c4 c5=>Cl 37 #[.agg #[.B c1,.U c2,.U c3,.S c4,.S c5]] p' λk2 j=> ∃V c6,k2=.T #[.S V,.I c6]/\aB (λ(w':bZ) k=>aB (λ(w:bZ) u'=>aH w' λU'=>cP.LD u' U' λ_ h6 _ _ h7 _ _ h8 _ _ h9 _=> ∃(I:kj)(m:kG),I 0 u'/\∀t H,I t H->ite (decide (t<4)) (Bd t 4/\(t=((0:Nat):Int)->Cl 45 #[.Q w,.I (h6:Int)] H λl3 v'=> ∃i0,l3=.Q i0/\(I (wrap .i64 (t+1)) v'/\m (wrap .i64 (t+1)) v'<m t H))/\(t=((1:Nat):Int)->Cl 45 #[.Q w,.I (h7:Int)] H λm4 j'=> ∃i1,m4=.Q i1/\(I (wrap .i64 (t+1)) j'/\m (wrap .i64 (t+1)) j'<m t H))/\(t=((2:Nat):Int)->Cl 45 #[.Q w,.I (h8:Int)] H λm5 k'=> ∃i2,m5=.Q i2/\(I (wrap .i64 (t+1)) k'/\m (wrap .i64 (t+1)) k'<m t H))/\(t=((3:Nat):Int)->Cl 45 #[.Q w,.I (h9:Int)] H λm6 l'=> ∃i3,m6=.Q i3/\(I (wrap .i64 (t+1)) l'/\m (wrap .i64 (t+1)) l'<m t H))/\True) (aH w' λd'=>Cl 46 #[.Q w] H λm7 m'=>Vl m7 λM' L' K'=>(aW m' (.C #[.L M' L' K'] 32) λV' Z'=>Cl 47 #[.L (cE (some d') 4 0 1) (4 - 0) (4 - 0)] Z' λm8 a0=>Vl m8 λi8 i6 i4=>jE (Builtin.append_ #[39,39] 39 #[.L (Sa V' 0) 1 1,.L i8 i6 i4]) a0 λm9 a1=> ∃S' Q' O',m9=.L S' Q' O'/\R (.L S' Q' O') a1)/\(Cl 47 #[.L (cE (some d') 4 0 1) (4 - 0) (4 - 0)] m' λj2 a2=>Vl j2 λi9 i7 i5=>aW a2 (.C #[.L M' L' K'] 32) λX' a3=>jE (Builtin.append_ #[39,39] 39 #[.L (Sa X' 0) 1 1,.L i9 i7 i5]) a3 λj3 a4=> ∃T' R' P',j3=.L T' R' P'/\R (.L T' R' P') a4)/\True)) (λc'=>Hu k s 6 λg=>Hi k s 7 λf=>Hu k B 5 λe=>Hu k B 6 λc=>(Cl 42 #[] k λj4 l=>Vp j4 λg0=>Cc l B 6 (.U c)/\Cc l B 5 (.U e)/\Cc l s 7 (.I f)/\Cc l s 6 (.U g)/\jE (convert 9 32 (.S V)) l λj5 n=>Vl j5 λg6 g4 g2=>Cc n B 6 (.U c)/\Cc n B 5 (.U e)/\Cc n s 7 (.I f)/\Cc n s 6 (.U g)/\Cl 43 #[.Q g0,.L g6 g4 g2] n λj6 p=>Vp j6 λg8=>Cc p B 6 (.U c)/\Cc p B 5 (.U e)/\Cc p s 7 (.I f)/\Cc p s 6 (.U g)/\Cl 44 #[.Q g8,.U g] p λj7 y=>Vp j7 λh0=>Cc y B 6 (.U c)/\Cc y B 5 (.U e)/\Cc y s 7 (.I f)/\Cl 45 #[.Q h0,.I f] y λj8 L=>Vp j8 λh2=>Cc L B 6 (.U c)/\Cc L B 5 (.U e)/\Cl 44 #[.Q h2,.U e] L λj9 n'=>Vp j9 λh4=>Cc n' B 6 (.U c)/\Cl 44 #[.Q h4,.U c] n' λk0 a6=> ∃I',k0=.Q I'/\c' I' a6)/\(jE (convert 9 32 (.S V)) k λk1 q=>Vl k1 λg7 g5 g3=>Cc q B 6 (.U c)/\Cc q B 5 (.U e)/\Cc q s 7 (.I f)/\Cc q s 6 (.U g)/\Cl 42 #[] q λk3 r=>Vp k3 λg1=>Cc r B 6 (.U c)/\Cc r B 5 (.U e)/\Cc r s 7 (.I f)/\Cc r s 6 (.U g)/\Cl 43 #[.Q g1,.L g7 g5 g3] r λk4 u=>Vp k4 λg9=>Cc u B 6 (.U c)/\Cc u B 5 (.U e)/\Cc u s 7 (.I f)/\Cc u s 6 (.U g)/\Cl 44 #[.Q g9,.U g] u λk5 z=>Vp k5 λh1=>Cc z B 6 (.U c)/\Cc z B 5 (.U e)/\Cc z s 7 (.I f)/\Cl 45 #[.Q h1,.I f] z λk6 M=>Vp k6 λh3=>Cc M B 6 (.U c)/\Cc M B 5 (.U e)/\Cl 44 #[.Q h3,.U e] M λk7 o'=>Vp k7 λh5=>Cc o' B 6 (.U c)/\Cl 44 #[.Q h5,.U c] o' λk8 a8=> ∃J',k8=.Q J'/\c' J' a8)/\True)) (λJ=>Hp j s 0 λX=>Hp j s 1 λi=>Hp j s 2 λd=>Hp j s 3 λT=>(Cl 38 #[.Q X] j λk9 v=>Vl k9 λG F E=>Cc v s 3 (.Q T)/\Cc v s 2 (.Q d)/\Cc v s 1 (.Q i)/\(Cl 39 #[.Q i] v λl0 A=>Vl l0 λb' a' Z=>Cc A s 3 (.Q T)/\Cc A s 2 (.Q d)/\(Cl 40 #[.Q d] A λl1 O=>Vl l1 λH' G' F'=>Cc O s 3 (.Q T)/\(Cl 41 #[.Q T] O λl2 a9=>Vl l2 λf5 f0 e5=>aW a9 (.C #[.Z,.Z,.Z,.Z] 98) λe' b0=>cP.ST b0 (AA e' 0) G F E b' a' Z H' G' F' f5 f0 e5 λb1=>J (Sa e' 0) b1)/\(aW O (.C #[.Z,.Z,.Z,.Z] 98) λf' q'=>Cc q' s 3 (.Q T)/\Cl 41 #[.Q T] q' λl4 b2=>Vl l4 λf6 f1 e6=>cP.ST b2 (AA f' 0) G F E b' a' Z H' G' F' f6 f1 e6 λb3=>J (Sa f' 0) b3)/\True)/\(aW A (.C #[.Z,.Z,.Z,.Z] 98) λg' P=>Cc P s 3 (.Q T)/\Cc P s 2 (.Q d)/\Cl 40 #[.Q d] P λl5 r'=>Vl l5 λe2 d9 d6=>Cc r' s 3 (.Q T)/\Cl 41 #[.Q T] r' λl6 b4=>Vl l6 λf7 f2 e7=>cP.ST b4 (AA g' 0) G F E b' a' Z e2 d9 d6 f7 f2 e7 λb5=>J (Sa g' 0) b5)/\True)/\(aW v (.C #[.Z,.Z,.Z,.Z] 98) λh' C=>Cc C s 3 (.Q T)/\Cc C s 2 (.Q d)/\Cc C s 1 (.Q i)/\Cl 39 #[.Q i] C λl7 Q=>Vl l7 λd4 d2 d0=>Cc Q s 3 (.Q T)/\Cc Q s 2 (.Q d)/\Cl 40 #[.Q d] Q λl8 s'=>Vl l8 λe3 e0 d7=>Cc s' s 3 (.Q T)/\Cl 41 #[.Q T] s' λl9 b6=>Vl l9 λf8 f3 e8=>cP.ST b6 (AA h' 0) G F E d4 d2 d0 e3 e0 d7 f8 f3 e8 λb7=>J (Sa h' 0) b7)/\True)/\(aW j (.C #[.Z,.Z,.Z,.Z] 98) λi' x=>Cc x s 3 (.Q T)/\Cc x s 2 (.Q d)/\Cc x s 1 (.Q i)/\Cc x s 0 (.Q X)/\Cl 38 #[.Q X] x λm0 D=>Vl m0 λc9 c8 c7=>Cc D s 3 (.Q T)/\Cc D s 2 (.Q d)/\Cc D s 1 (.Q i)/\Cl 39 #[.Q i] D λm1 U=>Vl m1 λd5 d3 d1=>Cc U s 3 (.Q T)/\Cc U s 2 (.Q d)/\Cl 40 #[.Q d] U λm2 t'=>Vl m2 λe4 e1 d8=>Cc t' s 3 (.Q T)/\Cl 41 #[.Q T] t' λm3 b8=>Vl m3 λf9 f4 e9=>cP.ST b8 (AA i' 0) c9 c8 c7 d5 d3 d1 e4 e1 d8 f9 f4 e9 λb9=>J (Sa i' 0) b9)/\True))):Cl 9 #[.P s 0] h R:=aP [(15,.join [(6,sP)]),(15,λ_=> .ni (lO [0,1,2,3,5,6,7,8,10,11,12,13,15,16,17,18] (.alts (.fork 4 (.alts (.fork 9 (.alts (.fork 14 (.alts (.fork 19 (gB 3 20 .done) (.fork 21 (lO [19,20,22] .done) .hO))) (.fork 21 (lO [14,19,20,22] .done) .hO))) (.fork 21 (lO [9,14,19,20,22] .done) .hO))) (.fork 21 (lO [4,9,14,19,20,22] .done) .hO))))),(17,.join [(7,sP)]),(17,λ_=> .ni (lO [1,4,5,6,7,9,10,11,12,14,15,17,18] (.alts (.fork 0 (lO [2,3,8,13,16,19,20] .done) (.fork 2 (lO [0,3,8,13,16,19,20] .done) .hO))))),(22,.loop [(66,sI)]),(36,λ_=> .ni (lO [0,3,1] (.alts (.fork 2 (gB 3 4 .done) (.fork 4 (lO [2,5,6] .done) .hO)))))] hv
def FP{f:Bool}{g:Int}{i:Int}{j:cF}{k:cF}(n:aW h (.C #[.B f,.U g,.U i,.S j,.S k] 29) λB d=>aB (λ(T:Bool) H=>ite T (R (.T #[.Q none,.I 3]) H) (av.LD H (AA B 0) λp q r u w=>aW H (.C #[.B p,.U q,.U r,.S u,.S w,.U 0,.U 0,.B true] 113) λl m=>R (.T #[.P l 0,.I 0]) m)) (λJ=>av.LD d (AA B 0) λx y z A C=>Cl 53 #[.agg #[.B x,.U y,.U z,.S A,.S C]] d λv c=> ∃t,v=.B t/\ite (!t) (J true c) (av.LD c (AA B 0) λD E F G I=> ∃(e:Bool),JS 29 (.agg #[.B D,.U E,.U F,.S G,.S I]) (.agg #[.B false,.U 0,.U 0,.S (⟨#[]⟩:cF),.S (⟨#[]⟩:cF)]) e/\J e c))):Cl 13 #[.agg #[.B f,.U g,.U i,.S j,.S k]] h R:=aP [(4,.join [(11,sB)])] n
def uV{m:Nat}(f:aW h (.C #[.B false,.U 0,.U 0,.S (⟨#[]⟩:cF),.S (⟨#[]⟩:cF),.U 0,.U 0] 68) λB c=>aB (λ(T:Bool) H=>ite T (ah.ST H (AA B 0) false 0 0 (⟨#[]⟩:cF) (⟨#[]⟩:cF) 0 0 λd=>ah.LD d (AA B 0) λr i k n q v x=>R (.agg #[.B r,.U i,.U k,.S n,.S q,.U v,.U x]) d) (ah.LD H (AA m 0) λz A C D E F G=>ah.ST H (AA B 0) z A C D E F G λe=>ah.LD e (AA B 0) λg j l p u w y=>R (.agg #[.B g,.U j,.U l,.S p,.S u,.U w,.U y]) e)) (λJ=> ∃t,Cc c m 7 (.B t)/\J (!t) c)):Cl 28 #[.P m 0] h R:=aP [(4,.join [(11,sB)])] f
def lJ{g:bZ}{d C:Nat} (B: ∃(I:Int->kj)(M:Int->kG),I 0 0 h/\∀size t H,I size t H->ite (decide (t<(d:Int))) (aB (λ(r:Int) m=>(I r (wrap .i64 (t+1)) m/\M r (wrap .i64 (t+1)) m<M size t H)) (λJ=>Bd t d/\aH g λA=>lW H (A.add (toNat t*1)) λ_ u _=>aB (λy=>J (wrap .i64 (size+(u:Int))) y) (λw=>ite (decide ((wrap .i64 (size+(u:Int)))<0)) (False) (w H)))) (Cl 83 #[.Z,.I size] H λv z=>Vl v λF E D=> ∃(i:bZ->Nat->Nat->kj)(q:bZ->Nat->Nat->kG),i F E D 0 z/\∀f e n T c,i f e n T c->ite (decide (T<(d:Int))) (Bd T d/\aH g λx=>lW c (x.add (toNat T*1)) λL K G=>jE (Builtin.append_ #[39,39] 39 #[.L f e n,.L L K G]) c λV p=> ∃l k j,V=.L l k j/\(i l k j (wrap .i64 (T+1)) p/\q l k j (wrap .i64 (T+1)) p<q f e n T c)) (R (.L f e n) c))):Cl 47 #[.L g d C] h R:=aP [(8,.loop [(3,sI),(11,sI)]),(16,.join [(3,sI)]),(23,.join []),(33,.loop [(6,sS),(27,sI)])] B
def mA{n:Int} (e:aB (λH=>aB (λ(i:bZ) (g f:Nat) c=>R (.L i g f) c) (λj=>ite (decide ((wrap .i64 (n - (wrap .i64 ((S:Int) - (a:Int)))))>0)) (((0:Int)<=(S:Int)/\(S:Int)<=(S:Int))/\jE (Builtin.append_ #[39,3] 39 #[.L (cE b S 0 1) ((toNat (S:Int)) - 0) (S - 0),.I (wrap .i64 (n - (wrap .i64 ((S:Int) - (a:Int)))))]) H λv d=>Vl v λT _ t=>((0:Int)<=(a:Int)/\(a:Int)<=(t:Int))/\j (cE T t 0 1) ((toNat (a:Int)) - 0) (t - 0) d) (j b a S H))) (λJ=>ite (decide (n<0)) (False) (J h))):Cl 83 #[.L b a S,.I n] h R:=aP [(5,.join []),(13,.join [(0,sS)])] e
def iO{f:Nat} (d: ∃(I:kj)(m:kG),I 0 h/\∀t H,I t H->ite (decide (t<(a:Int))) (Bd t a/\aH b λA=>aF.LD H (A.add (toNat t*4)) λe g k j i l=>Cl 261 #[.agg #[.I e,.I g,.L k j i,.U l],.P f 0] H λv c=> ∃T,v=.B T/\ite T (R (.I t) c) ((I (wrap .i64 (t+1)) c/\m (wrap .i64 (t+1)) c<m t H))) (R (.I (-1)) H)):Cl 177 #[.L b a S,.func (.func 261) #[] #[.P f 0]] h R:=aP [(6,.loop [(8,sI)])] d

end
section
namespace dV
open gI (It)
open ju (Ev cY mh)
variable {h h':aA} {R:fp} {s k:Nat} {X:Ft} {I:oF} {a:SS}
variable {n r:Nat} {x:It} {l:List It} {L:List Go.jD.E} {B:gI.BS}
def gh(B:Bk h s I n r)(H:R (.B true) h):Cl 36 #[pt s] h R:=by refine uO ?_;repeat (first|exact H|refine⟨_,ai B,?_⟩|rfl)
def Pt.put(H:Pt h s X I a)(b:Bk h' s I n r)(o:h'.size=h.size)(m: ∀x,x≠s->h'[x]? =h[x]?): ∃d,Pt h' s d I { a with now:=n,rf:=r } /\bp X h d h':=by obtain⟨Z,⟨p,on⟩,q,z,go⟩:=H.use 6;obtain⟨d,f,S,_,_⟩:=go h' Z { a with now:=n,rf:=r } ⟨b,on⟩ (bp.zJ (Fr.of_eq o λc g=>m c (λe=>g ((on c).1.2 e)))) (λi j=>VY _ _ j);exact⟨d,f,S⟩
def Pt.V5{n o:Int}(H:Pt h s X I a)(e:a.Q.Perm (x::l))(O:tX a.Q)(K:Xv x)(j:n=(x.d.length:Int))(q:o=x.owner)(g: ∀h' b,Pt h' s b I { a with Q:=l } ->bp X h b h'->R (.I 0) h'):Cl 89 #[pt I.p,.I o,.I n] h R:=by
 subst q;obtain⟨Z,⟨m,P,on⟩,u,z,go⟩:=H.use 4;refine WM (P.perm e) (tX.perm O e) K j λh' p f=> ?_;obtain⟨b,c,S,_,_⟩:=go h' Z { a with Q:=l } ⟨m,p,on⟩ (bp.zJ (f.mono λy _ t=>(on y).1.2 t)) (λi d=>M0 _ d);exact g h' b c S
def Pt.perm(H:Pt h s X I a)(e:a.Q.Perm l):Pt h s X I { a with Q:=l } :=by have⟨y,c,r⟩:=H;refine⟨y,λi=> ?_,r⟩;by_cases b:i=4;subst b;have⟨m,P,on⟩:=c 4;exact⟨m,P.perm e,on⟩;rw[M0 _ b];exact c i
def LB{r:List It}(o:tX (l++r)): ∀j,tX (l.drop j++r)
 |0=>o
 |j+1=>by have h:=LB o j;rcases Nat.lt_or_ge j l.length with q|q;rw[cG q]at h;exact tX.sub h;rw[List.drop_eq_nil_of_le q]at h;rw[List.drop_eq_nil_of_le ae];exact h
def Pt.okB(H:Pt h s X I a): ∃L,gI.okB a.B L:=by have⟨Z,L,B,o⟩:=H.box;exact⟨L,o⟩
def Pt.ord(H:Pt h s X I a):gi.Ord a.C:=by have⟨y,b,_⟩:=H;exact gi.Ct.ord (b 2)
def JE(o:gI.okB B L)(H:x∈B.items):Xv x:=by have:=o.it x H;exact⟨this.2.2.1,this.2.2.2.1,this.2.2.2.2.1,this.2.2.2.2.2.1⟩
def Good.small(G:Good a k)(O:gi.Ord a.C)(H:k<=40000):gi.Small a.C:=G.c.small O H
def PV(o:gI.okB B L){P:It->Bool}{c:List It}(g: ∀y∈c,y∈B.items)(f:(c.map It.kv).Perm ((B.items.filter P).map It.kv)):c.Perm (B.items.filter P):=by
 have j: ∀{l:List It},l.Sublist B.items->(l.map It.num).Nodup:=λm=>((o.inc.sublist (m.map It.num))).imp λh=>Nat.ne_of_lt h;have d:((c.map It.kv).map (λe=>e.1)).Nodup:=by refine(f.map _).nodup_iff.2 ?_;rw[dR];have:=j (da (l:=B.items) (p:=P));unfold List.Nodup at this⊢;rw[dM]at this⊢;exact this.imp λh e=>h (by have e:(_:Int)=(_:Int):=e;exact Int.ofNat.inj e)
 have p:c.Nodup:=by rw[dR]at d;unfold List.Nodup at d⊢;rw[dM]at d;exact d.imp λh e=>h (by rw[e])
 have q:(B.items.filter P).Nodup:=by have:=j (da (l:=B.items) (p:=P));unfold List.Nodup at this⊢;rw[dM]at this;exact this.imp λh e=>h (by rw[e])
 rw[List.perm_ext_iff_of_nodup p q];have i: ∀x∈B.items,∀y∈B.items,x.kv=y.kv->x=y:=λx H y b e=>gI.uniq o.inc H b (by have e:((x.num:Nat):Int)=((y.num:Nat):Int):=bV Prod.fst e;exact Int.ofNat.inj e);intro x;constructor;intro H;obtain⟨y,b,e⟩:=bh.1 (f.mem_iff.1 (bh.2 ⟨x,H,rfl⟩));rw[i x (g x H) y (bD.1 b).1 e.symm];exact b;intro H;obtain⟨y,b,e⟩:=bh.1 (f.mem_iff.2 (bh.2 ⟨x,H,rfl⟩));rw[i x (bD.1 H).1 y (g y b) e.symm];exact b
theorem Nd(l:List It)(b:Nat):l.Perm (l.filter (λx=>decide ((x.dB:Int)<=(b:Int)))++l.filter (λx=>decide ((b:Int)<(x.dB:Int)))):=by
 have h:=(List.filter_append_perm (λx=>decide ((x.dB)<=(b:Int))) l).symm;have e:(λx=> !decide ((x.dB)<=(b:Int)))=λx:It=>decide ((b)<(x.dB:Int)):=funext λx=>by grind
 rw[e]at h;exact h
theorem Aw{n:Int}(b:Nat)(hn:n=(b:Int))(H:Pt h s X I a)(G:Good a k)(n':k<=30000)(f: ∀h' P,Pt h' s P I (CT a b)->bp X h P h'->R (.I (tY a b)) h'):Cl 50 #[pt s,.U n] h R:=by
 subst hn;have B:=H.cN;refine uQ (gh B ⟨_,rfl,?_⟩);rw[dz];unfold CT at f;by_cases v:b>1099511627776;have e:tY a b=1:=ag v;rw[e,dz]at f;rw[gH];exact f h X H (bp.refl _ _);rw[af (λe=>v (bN (bk e)))];refine⟨_,ai B,?_⟩;by_cases w:b<a.now;have e:tY a b=18:=by unfold tY;rw[af v,ag w]
 rw[e,dz]at f;rw[gH];exact f h X H (bp.refl _ _);rw[af (λe=>w (bN (bk e)))];have e:tY a b=0:=by unfold tY;rw[af v,af w]
 rw[e,ag rfl]at f;refine bf B bt λw a1 a2 a3=> ?_;obtain⟨Q,p,S⟩:=H.put (n:=b) (r:=a.rf) a1 a2 a3;have a':=H.ord;have sm:=G.small a' ae;obtain⟨Z,o,zm,zd,go⟩:=p.use 2;refine⟨_,ai p.cN,gi.Aw o sm (by have:=G.c.L;show a.C.over<=_;omega) (gi.Good.held G.c) (b:Int) λU Z3 p3 c3 C3 s3 N3 g3=>⟨_,_,_,rfl,?_⟩⟩;obtain⟨X3,M,i',_,_⟩:=go U Z3 { a with now:=b,C:=gi.lT a.C (b:Int) } C3 s3 (λi C=>BQ (σ:= { a with now:=b }) _ C);obtain⟨Z,o,zm,zd,go⟩:=M.use 3;obtain⟨L,okB⟩:=H.okB;refine⟨_,ai M.cN,gI.Aw b rfl o (by have:=G.b;show a.B.next<=_;omega) λV Z4 p4 c4 c l' J s4 o4 d4 D e4 p' g' m4=>⟨_,_,_,rfl,?_⟩⟩;have yp:(c.map gI.IV.abs).Perm (a.B.items.filter (λx=>decide ((x.dB:Int)<=(b:Int)))):=PV okB (λy d=>by obtain⟨k',o,rfl⟩:=bh.1 d;exact m4 k' o) (by rw[e4];exact g');have yl:c.length=(a.B.items.filter (λx=>decide ((x.dB:Int)<=(b:Int)))).length:=by rw[<-yp.length_eq,aw]
 have eB:({ a.B with items:=a.B.items.filter (λx=>decide ((b:Int)<(x.dB:Int))),over:=a.B.over+c.length } :gI.BS)=x3 a.B b:=by unfold x3;rw[yl]
 rw[eB]at J;obtain⟨t,H4,j',m',d'⟩:=go V Z4 { a with now:=b,C:=gi.lT a.C (b:Int),B:=x3 a.B b } J s4 (λi C=>Jv (σ:= { a with now:=b,C:=gi.lT a.C (b:Int) }) _ C);have st:=S.trans (i'.trans j');have c': ∀y,aL p4 y->¬(t.M y\/t.D y)/\U.size<=y:=λy d=>⟨λm=>(D y d).2 (d' y (D y d).1 m),(D y d).1⟩;have hq:(a.Q).Perm (c.map gI.IV.abs++(x3 a.B b).items):=by rw[G.q];exact(Nd _ b).trans (yp.symm.append_right _)
 have e':tX (c.map gI.IV.abs++(x3 a.B b).items):=tX.perm G.ok hq;refine⟨λi g=> ∃(j:Nat)(u:Ft),i=(j:Int)/\j<=c.length/\Pt g s u I { a with now:=b,C:=gi.lT a.C (b:Int),B:=x3 a.B b,Q:=(c.map gI.IV.abs).drop j++(x3 a.B b).items } /\bp t V u g/\Own g p4 c.length c4 4 (c.flatMap gI.iC),λi _=>c.length - i.toNat,
  ⟨0,t,rfl,bK _,H4.perm hq,bp.refl _ _,o4⟩,?_⟩
 rintro _ g ⟨j,u,rfl,hj,q,E,O⟩;have o':c.length<=16:=by rw[yl];exact cD (cS _ _) okB.le
 by_cases A:j<c.length;rw[gH];have d:c[j]? =some c[j]:=au A;obtain⟨pb,po,rfl⟩:=O.addr ae;refine⟨ae,ar.2 (aF.qq (by rw[aK];exact O.fa gI.iL d) (aF.new λb' g1 eb z F=> ?_))⟩;have K:=q.on F;have ed:(c.map gI.IV.abs).drop j=c[j].abs::(c.map gI.IV.abs).drop (j+1):=by rw[cG (by rw[aw];exact A),List.getElem_map]
 have f':=LB e' j;refine⟨_,ai K.cN,_,ai z,_,_,_,ai z,K.V5 (x:=c[j].abs) (l:=(c.map gI.IV.abs).drop (j+1)++(x3 a.B b).items) (by simp_all) f' (JE okB (m4 _ (fZ A))) rfl rfl λg2 Q p S=>⟨_,rfl,?_,?_⟩⟩;have lb:=aD z;exact S.fr.cell (ai z) (λm=>bN (q.lt b' (.inl m)));rw[fc];have s2:=E.on F|>.trans S;refine⟨⟨j+1,Q,ae,ae,p,s2,(O.frame F bC).frame S.fr (λy d m=> ?_)⟩,by grind⟩;rcases E.iA y m with T|T;exact(c' y d).1 (.inl T);have:=o4.dk d;omega;rw[af (λe=>A (bN (bk e)))];refine f g u ?_ (st.trans E);rw[List.drop_eq_nil_of_le (by rw[aw];omega)]at q;exact q

end dV
end
section
open Go.fv
namespace eM
open gg
variable {h d:aA} {t:Nat} {X:Ft} {R:fp} {p:bZ} {c i:Nat} {l:Ua} {D:Nat→Prop} {L:List SC} {A:List eM}
variable {num k:Int} {b:cQ} {n m nc':Nat} {s:SC} {H a:aA} {K':List BV} {np':bZ} {E:Nat->Prop}
def nE.on(T:nE h t l D L)(f:Fr No h d):nE d t l D L:=by have⟨p,c,e,O,j⟩:=T.cN;refine⟨⟨p,c,f.get e id,O.frame f bC,j⟩,T.RY,λi s q=>(T.ses i s q).frame f (λ_ _ _ _ _=>id) bC,?_,?_,T.ap⟩;intro c r o;exact bX (T.RZ c r o) f.1;intro c g;exact bX (T.La c g) f.1
def Nf(e:List AV)(id:Nat):(e.filter (λx=>decide (x.id≠id))).map AV.abs=(e.map AV.abs).filter (λf=>decide (f.1≠id)):=by rw[dT];rfl
theorem LC{B:List Nat}(id:Nat)(C':k=(id:Int))(h':sO h t X A B)(ok:lF A)(hr:Row h p (bc b))(M:n=b.length)(hp:b≠ []->∀x,aL p x->¬X.M x)(o: ∀d U,sO d t U (Au A num id b) B->bp X h U d->R (.I (Lh A num id b)) d):
  Cl 135 #[.P t 0,.I num,.U k,.L p n m] h R:=by
 subst C' M;have T:=h';obtain⟨l,L,TB,rfl,rfl,hS⟩:=h';have hl:=ok.le;rw[aw]at hl;refine qC (cg ?_);have F:Fr No h (h.push (.C #[.U (id:Int)] 27)):=Fr.push _ _;have e':yK (h.push (.C #[.U (id:Int)] 27)) h.size id:=bR;have T':(h.push (.C #[.U (id:Int)] 27)).size=h.size+1:=cI _;generalize h.push (.C #[.U (id:Int)] 27)=H at F e' T'⊢;have c':=TB.on F;have g':bp X h X H:=bp.iw F;unfold Au Lh at o;refine iN c' (λi s e hs=>⟨_,_,rfl,?_⟩) (λM=>⟨_,_,rfl,?_⟩) ae;rw[af bt];subst e;rw[qj,mr hs]at o;dsimp only at o;refine aB.of λi' hJ=> ?_;have jt:(id>1099511627776\/b.length>1000)->i' true H:=by intro hh;subst hJ;simp only[bJ];simp only[hh,bJ]at o;exact o H X (T.frame F (λ_ _ x=>x)) g'
 have jf: ¬(id>1099511627776\/b.length>1000)->i' false H:=by
  intro hh;subst hJ;simp only[az,aY];simp only[hh,aY]at o;have S:=c'.ses i s hs;have vd:=ok.at_ i _ (mr hs);have kl:s.kept.length<=6:=by have:=vd.kl;rwa[show s.abs.kept.length=s.kept.length from aw _]at this
  have a': ∀c,aL s.kp c->c≠s.b:=λc g e=>by have H:=S.kl c g;rw[e,S.lb]at H;simp at H
  have M': ∀c,aL s.np c->c≠s.b:=λc g e=>by have H:=S.nl c g;rw[e,S.lb]at H;simp at H
  have s': ∀c,aL s.kp c->¬aL s.np c:=λc g u=>by have H:=S.kl c g;rw[S.nl c u]at H;simp at H
  have kS: ∀c,aL s.kp c->X.M c:=λc g=>(hS c).2 ⟨_,S.kl c g⟩;have bS:X.M s.b:=(hS s.b).2 ⟨_,S.lb⟩;have o': ¬aL s.kp h.size:=λf=>by have:=(T.lt _ (.inl (kS _ f)));omega
  have G':h.size≠s.b:=λe=>by have:=T.lt _ (.inl bS);omega
  have kD: ∀c,X.D c->¬(c=s.b\/aL s.kp c):=λc g f=>f.elim (λe=>TB.ap c _ (e▸S.lb) g) (λf=>TB.ap c _ (S.kl c f) g);refine ar.2 ⟨_,_,_,ai S.cN,MR S.BH rfl ae e' o' λh4 o4 f4 E'=>⟨_,_,_,rfl,ar.2 ?_⟩⟩;have B':=f4.get S.cN (λf=>a' _ f rfl);refine bf B' bt λz k1 k2 k3=>ar.2 ?_;have f5:Fr (λx=>x=s.b) h4 z:=Fr.of_eq k2 k3;have f':yK z h.size id:=f5.get E' G';have F5:Fr (λx=>x=s.b\/aL s.kp x) H z:=(f4.mono (λ_ _ f=> .inr f)).tt (f5.mono (λ_ _ f=> .inl f));have S':Row z p (bc b):=by by_cases hb:b= [];rw[hb];exact .inl rfl;refine(hr.frame F (λ_ _ x=>x)).frame F5 (λj e f=> ?_);have:=hp hb j.block ⟨j,e,rfl⟩;exact f.elim (λe=>this (e▸bS)) (λf=>this (kS _ f))
  refine⟨_,_,_,ai k1,_,ai f',hY S' rfl ae λP C r o6 V g6=>⟨_,_,_,rfl,ai (V.get f' (λx=>x)),ai (V.get k1 (λx=>x)),?_⟩⟩;refine cg ?_;have f7:Fr No r (r.push (.C #[.U (id:Int),.L P b.length C] 169)):=Fr.push _ _;have v':Row (r.push (.C #[.U (id:Int),.L P b.length C] 169)) (Sa r.size 0) (AV.enc ⟨id,⟨P,C,b⟩⟩):=jj (cs:=AV.enc ⟨id,⟨P,C,b⟩⟩);have U':(r.push (.C #[.U (id:Int),.L P b.length C] 169)).size=r.size+1:=cI _;generalize r.push (.C #[.U (id:Int),.L P b.length C] 169)=h7 at f7 v' U'⊢;have Z:=V.tt f7;have n':yK h7 h.size id:=Z.get f' (λx=>x);have q':=Z.get k1 (λx=>x);refine⟨ai n',ai q',?_⟩;have o5:=o4.frame f5 (λx f e=>a' x f e);have o7:=o5.frame Z (λ_ _ x=>x);have fl:=cS (λx:AV=>decide (x.id≠id)) s.kept;refine dI tA uA o7 v' rfl (λX' hv=>by simp at hv;rcases hv with rfl|rfl<;>rfl) ae ae ?_;intro p8 c8 h8 o8 _ I g8;have F':yK h8 h.size id:=I.get n' o';have H':=I.get q' (λf=>a' _ f rfl);refine⟨_,_,_,rfl,ai F',ar.2 ?_⟩;refine bf H' bt λv q1 q2 q3=>ar.2 ⟨_,_,_,ai q1,?_⟩;have J:Fr (λx=>x=s.b) h8 v:=Fr.of_eq q2 q3;have z5:H.size<=z.size:=F5.1;have z6:=V.1;have z8:=I.1;have V':s.b<H.size:=aD S.cN;have r': ∀c,aL s.kp c->c<H.size:=λc g=>S.BH.dk g;have t': ∀c,aL p8 c->aL s.kp c\/h7.size<=c:=g8;have L': ∀c,aL p8 c->c≠s.b:=λc g e=>(t' c g).elim (λf=>a' c f e) (λf=>ae);have o9:=o8.frame J (λx f e=>L' x f e);have F9:Fr (λx=>x=s.b\/aL s.kp x) H v:=F5.tt ((Z.mono (λ_ _=>False.elim)).tt ((I.mono (λ_ _ f=> .inr f)).tt (J.mono (λ_ _ f=> .inl f))));have q: ∀c,aL P c->z.size<=c/\c<r.size:=λc g=>⟨g6 c g,o6.dk g⟩;have P':Own v P b.length C 1 (bc b):=((o6.frame f7 (λ_ _ x=>x)).frame I (λc g f=>gM (q c g) (r' c f))).frame J (λc g e=>bN (q c g));have x':(s.kept.filter (λx:AV=>decide (x.id≠id))).flatMap AV.enc++AV.enc ⟨id,⟨P,C,b⟩⟩=(s.kept.filter (λx:AV=>decide (x.id≠id))++ [(⟨id,⟨P,C,b⟩⟩:AV)]).flatMap AV.enc:=by rw[cO];simp
  rw[x']at o9;have I':(s.kept.filter (λx:AV=>decide (x.id≠id))++ [(⟨id,⟨P,C,b⟩⟩:AV)]).map AV.abs=s.abs.kept.filter (λj=>decide (j.1≠id))++ [(id,b)]:=by rw[aS,Nf];rfl
  have Q:(s.kept.filter (λx:AV=>decide (x.id≠id))++ [(⟨id,⟨P,C,b⟩⟩:AV)]).length=(s.kept.filter (λx:AV=>decide (x.id≠id))).length+1:=by rw[aq];rfl
  have J': ∀j∈s.kept.filter (λx:AV=>decide (x.id≠id))++ [(⟨id,⟨P,C,b⟩⟩:AV)],j.v.ok v (λc=>X.D c\/aL P c):=by intro j ha;rcases bP.1 ha with ha|ha;exact((S.kd j (bD.1 ha).1).frame F9 kD).mono (λc=> .inl);simp at ha;subst ha;exact BV.jK P' (λc=> .inr)
  generalize s.kept.filter (λx:AV=>decide (x.id≠id))++ [(⟨id,⟨P,C,b⟩⟩:AV)]=K at*;generalize (s.kept.filter (λx:AV=>decide (x.id≠id))).length=y' at*;refine aB.of λJ1 m'=> ?_;have y: ∀(a:aA)(K':List AV)(G:bZ)(O:Nat),(∃p',K'=K.drop p')->K'.map AV.abs=As s.abs.kept id b->At a { s with kept:=K',kp:=G,kc:=O } ->Own a G K'.length O 2 (K'.flatMap AV.enc)->
    (∀c,aL G c->aL s.kp c\/h7.size<=c)->Fr (λx=>x=s.b) v a->J1 a:=by
   intro a K' G O ⟨p',hj⟩ hK A' D' d' w;subst m';have b':Fr (λx=>x=s.b\/aL s.kp x) H a:=F9.tt (w.mono (λ_ _ f=> .inl f));obtain⟨U,HH,st⟩:=c'.Yh (s':= { s with kept:=K',kp:=G,kc:=O }) (E:=aL P) hS hs rfl b' (λc f=>f.elim (λe=>⟨_,e▸S.lb,ae,ae⟩) (λf=>⟨_,S.kl c f,ae,ae⟩)) A' D'
    (λc g=>(d' c g).imp (S.kl c) (λf=>ae)) (S.Fv.frame b' (λc g f=>f.elim (M' c g) (λf=>s' c f g))) (λc g=> .inl (S.nl c g))
    (λc g u=>(d' c g).elim (λf=>s' c f u) (λf=>bN (S.Fv.dk u)))
    (λc g=>⟨bN ((q c g).1),zq ((q c g).2) J.1 w.1,λf=>(d' c f).elim (λu=>gM (r' c u) (q c g)) (λu=>bN (q c g)),λf=>gM (S.Fv.dk f) (q c g)⟩)
    (λj ha=>(J' j (by rw[hj]at ha;exact List.mem_of_mem_drop ha)).frame w (λc g e=>g.elim (λg=>kD c g (.inl e)) (λg=>bN (q c g))))
    (λn M=>((S.nd n M).frame b' kD).mono (λc=> .inl))
   refine o a U ?_ (g'.trans st);unfold mE;rw[show((i:Int)+1 - 1).toNat=i by omega];have:({ s with kept:=K',kp:=G,kc:=O } :SC).abs= { s.abs with kept:=As s.abs.kept id b } :=by unfold SC.abs;dsimp only;rw[hK];rfl
   rw[this]at HH;exact HH
  clear m';unfold As at y;rw[<-I',aw,Q]at y;by_cases l':((y'+1:Nat):Int)>6;simp only[l',ct,bJ];rw[gH]at y;refine ar.2 ⟨_,_,_,ai q1,ae,?_⟩;rw[<-Q]at o9;have u':=o9.sub (l:=1) (u:=K.length) ae (bu _);rw[<-iH AV.enc 2 ia K,dA,kR AV.enc 2 ia]at u';refine Pv u'.hT (by rw[cR,<-Q];rfl) (by rw[cR];omega) λQ' w' z' O' j' k'=>⟨_,_,_,rfl,ar.2 ?_⟩;have R':=j'.get q1 (λx=>x);refine bf R' bt λa r1 r2 r3=> ?_;have w:Fr (λx=>x=s.b) z' a:=Fr.of_eq r2 r3;have z9:=J.1;refine y a (K.drop 1) Q' w' ⟨1,rfl⟩ List.map_drop ?_ (O'.frame w (λc g e=>bN (k' c g))) (λc g=> .inr (bN (k' c g))) ((j'.mono (λ_ _=>False.elim)).tt w);exact r1;simp only[l',cU,az,aY];rw[dz]at y;refine y v K p8 c8 ⟨0,rfl⟩ rfl ?_ (by rw[Q];exact o9) t' (Fr.refl _ _);show v[s.b]? =_;rw[q1];dsimp only;rw[Q];rfl
 clear hJ;refine⟨_,ai e',?_⟩;by_cases c1:(id:Int)>1099511627776;grind;grind;rw[ag (by rfl)];rw[mR (by rw[aw];exact M)]at o;exact o H X (T.frame F (λ_ _ x=>x)) g'
def Ul(id:Nat)(o:k=(id:Int))(f:Has h t X A)(O:lF A)(u:Row h p (bc b))(q:n=b.length)(r:b≠ []->∀x,aL p x->¬X.M x)(j: ∀d e,Has d t e (Au A num id b)->bp X h e d->R (.I (Lh A num id b)) d):
  Cl 135 #[.P t 0,.I num,.U k,.L p n m] h R:=by
 have⟨B,f⟩:=f;exact LC id o f O u q r λd e g S=>j d e ⟨B,g⟩ S
def PW(x:List AV)(id:Nat):N8 (x.map AV.abs) id=(x.find? (λe=>decide (e.id=id))).map (λe=>e.v.b):=by unfold N8;rw[List.find?_map,Option.map_map];rfl
theorem Og(id:Nat)(b':k=(id:Int))(z:Has h t X A)(O:lF A)(o: ∀b,CP A num id=some b->∀d P C,Own d P b.length C 1 (bc b)->Fr No h d->(∀x,aL P x->h.size<=x)->R (.T #[.L P b.length C,.B true]) d)(K:CP A num id=none->iG h R (.T #[.Z,.B false])):
  Cl 131 #[.P t 0,.I num,.U k] h R:=by
 subst b';obtain⟨_,l,L,B,rfl,_,hS⟩:=z;have hl:=O.le;rw[aw]at hl;refine qD (cg ?_);have F:Fr No h (h.push (.C #[.U (id)] 27)):=Fr.push _ _;have I:yK (h.push (.C #[.U (id)] 27)) h.size id:=bR;generalize h.push (.C #[.U (id)] 27)=H at F I⊢;have T:=B.on F;unfold CP at o K;refine iN T (λi s e q=>⟨_,_,rfl,?_⟩) (λhn=>⟨_,_,rfl,?_⟩) ae;subst e;rw[qj,mr q]at o K;dsimp only at o K;rw[show s.abs.kept=s.kept.map AV.abs from rfl,PW]at o K;have S:=T.ses i s q;have vd:=O.at_ i _ (mr q);have kl:=by have:=vd.kl;rwa[show s.abs.kept.length=s.kept.length from aw _]at this
 refine ar.2 ⟨_,_,_,ai S.cN,MQ S.BH.hT rfl ae I λQ g=>⟨_,rfl,?_⟩⟩;unfold Ub idxOf;cases V:s.kept.findIdx? (λf=>decide (f.id=id))with
 |none=>
  have:s.kept.find? (λf=>decide (f.id=id))=none:=by grind
  rw[this]at K;exact K rfl Q (F.tt g)
 |some j=>
  dsimp only;have⟨u,a',d'⟩:=dp.1 V;have r:=au u;have Z:s.kept.find? (λf=>decide (f.id=id))=some s.kept[j]:=by rw[fY];exact⟨a',j,u,rfl,λi hi=>by grind⟩
  rw[Z]at o;have w:=S.BH.frame g (λ_ _ x=>x);have e':s.kept[j].v.b.length<=1000:=(vd.kd (AV.abs s.kept[j]) (bL (aG r))).2;generalize s.kept[j]=f at*;have⟨ab,c',v⟩:=w.addr ae;have y:=w;rw[v]at y;refine ar.2 ⟨_,_,_,ai (g.get S.cN (λx=>x)),ae,?_⟩;rw[v];refine ar.2 ⟨f.v.p,f.v.b.length,f.v.c,?_,?_⟩;exact(y.fa ia r).2.1;refine hY ((S.kd _ (aG r)).row.frame g (λ_ _ x=>x)) rfl ae λp4 G U o4 J M=>⟨_,_,_,rfl,(o f.v.b rfl U p4 G o4 (F.tt (g.tt J)) (λx hx=>gM (M x hx) ((F.tt g).1)))⟩
 rw[mR (by grind)]at K;exact K rfl H F
theorem Iv(g:n=b.length)(e:R (.B (sQ b)) h):Cl 158 #[.L p n m] h R:=by refine wu ?_;unfold sQ at e;by_cases H:((b.length))≥1;by_cases f:((b.length))<=600;grind;grind;grind
def nE.V6(T:nE H t l X.D L)(B: ∀c,X.M c↔ ∃r,l c=some r)(y:L[i]? =some s)(F:At a { s with notes:=K',np:=np',nc:=nc' })(I:Own a np' K'.length nc' 1 (K'.flatMap ie))(w: ∀c,aL np' c->aL s.np c\/H.size<=c)(f:Fr (λx=>x=s.b\/aL s.np x) H a)(v: ∀c,E c->l c=none/\c<a.size/\¬aL np' c)(G: ∀n∈K',n.ok a (λc=>X.D c\/E c)):
  ∃o,sO a t o ((L.map SC.abs).set i { s.abs with notes:=K'.map BV.b }) (L.map SC.b)/\Fr X.M H a/\(∀c,o.M c->X.M c\/H.size<=c)/\(∀c,o.D c->X.D c\/E c)/\∀c,X.D c->o.D c:=by
 have S:=T.ses i s y;have J: ∀c,aL s.kp c->c≠s.b:=λc g e=>by have H:=S.kl c g;rw[e,S.lb]at H;simp at H
 have z: ∀c,aL s.kp c->¬aL s.np c:=λc g u=>by have H:=S.kl c g;rw[S.nl c u]at H;simp at H
 have K: ∀c,X.D c->¬(c=s.b\/aL s.np c):=λc g j=>j.elim (λe=>T.ap c _ (e▸S.lb) g) (λj=>T.ap c _ (S.nl c j) g);exact T.WN (s':= { s with notes:=K',np:=np',nc:=nc' }) (E:=E) B y rfl f (λc j=>j.elim (λe=>⟨_,e▸S.lb,ae,ae⟩) (λj=>⟨_,S.nl c j,ae,ae⟩)) F
  (S.BH.frame f (λc g j=>j.elim (J c g) (z c g))) (λc g=> .inl (S.kl c g)) I (λc g=>(w c g).imp (S.nl c) id)
  (λc u g=>(w c g).elim (λj=>z c u j) (λj=>bN (S.BH.dk u)))
  (λc g=>⟨(v c g).1,(v c g).2.1,(λj=>by have q:=S.kl c j;rw[(v c g).1]at q;cases q),(v c g).2.2⟩)
  (λq C=>((S.kd q C).frame f K).mono (λc=> .inl)) G
def nE.notes(T:nE H t l X.D L)(B: ∀c,X.M c↔ ∃r,l c=some r)(w:L[i]? =some s)(F:At a { s with notes:=K',np:=np',nc:=nc' })(I:Own a np' K'.length nc' 1 (K'.flatMap ie))(v: ∀c,aL np' c->aL s.np c\/H.size<=c)(f:Fr (λx=>x=s.b\/aL s.np x) H a)(q: ∀c,E c->H.size<=c/\c<a.size/\¬aL np' c)(G: ∀n∈K',n.ok a (λc=>X.D c\/E c)):
  ∃u,sO a t u ((L.map SC.abs).set i { s.abs with notes:=K'.map BV.b }) (L.map SC.b)/\bp X H u a:=by
 have S:=T.ses i s w;have J: ∀c,aL s.kp c->c≠s.b:=λc g e=>by have H:=S.kl c g;rw[e,S.lb]at H;simp at H
 have y: ∀c,aL s.kp c->¬aL s.np c:=λc g o=>by have H:=S.kl c g;rw[S.nl c o]at H;simp at H
 have K: ∀c,X.D c->¬(c=s.b\/aL s.np c):=λc g j=>j.elim (λe=>T.ap c _ (e▸S.lb) g) (λj=>T.ap c _ (S.nl c j) g);exact T.Yh (s':= { s with notes:=K',np:=np',nc:=nc' }) (E:=E) B w rfl f (λc j=>j.elim (λe=>⟨_,e▸S.lb,ae,ae⟩) (λj=>⟨_,S.nl c j,ae,ae⟩)) F
  (S.BH.frame f (λc g j=>j.elim (J c g) (y c g))) (λc g=> .inl (S.kl c g)) I (λc g=>(v c g).imp (S.nl c) id)
  (λc o g=>(v c g).elim (λj=>y c o j) (λj=>bN (S.BH.dk o)))
  (λc g=>⟨(q c g).1,(q c g).2.1,λj=>gM (S.BH.dk j) ((q c g).1),(q c g).2.2⟩)
  (λz C=>((S.kd z C).frame f K).mono (λc=> .inl)) G
theorem JF(Z:Has h t X A)(ok:lF A)(hr:Row h p (bc b))(hn:n=b.length)(hb:b.length<=1000000)(j: ∀d w,Has d t w (Fx A num b)->bp X h w d->R (.I (H0 A num b)) d):
  Cl 280 #[.P t 0,.I num,.L p n m] h R:=by
 subst hn;have I:=Z;obtain⟨_,l,L,T,rfl,_,hS⟩:=Z;have hl:=ok.le;rw[aw]at hl;unfold Fx H0 at j;refine qE (iN T (λi s e z=>⟨_,_,rfl,?_⟩) (λhn=>⟨_,_,rfl,?_⟩) ae);rw[af bt];subst e;rw[qj,mr z]at j;dsimp only at j;refine Iv rfl ⟨_,rfl,?_⟩;have S:=T.ses i s z;have vd:=ok.at_ i _ (mr z);have nl:s.notes.length<=6:=by have:=vd.nl;rwa[show s.abs.notes.length=s.notes.length from aw _]at this
 cases e':sQ b with
 |false=>simp only[e',az,aY,false_and]at j;simp only[ee,bJ];exact j h X I (bp.refl _ _)
 |true=>
  simp only[e',bJ,true_and]at j;simp only[df,az,aY];refine ar.2 ⟨_,ai S.cN,?_⟩;cases hw:s.watch with
  |false=>have:s.abs.watch=false:=hw;simp only[this,az,aY]at j;simp only[ee,bJ];exact j h X I (bp.refl _ _)
  |true=>
   have g':s.abs.watch=true:=hw;rw[ag g',ag g']at j;simp only[df,az,aY];have i': ∀c,aL s.np c->c≠s.b:=λc f e=>by have H:=S.nl c f;rw[e,S.lb]at H;simp at H
   have z':s.b<h.size:=aD S.cN;have y': ∀c,aL s.np c->c<h.size:=λc f=>S.Fv.dk f;refine ar.2 ⟨_,_,_,ai S.cN,hY hr rfl ae λP C o o3 J g3=>⟨_,_,_,rfl,ai (J.get S.cN id),cg ?_⟩⟩;have U:Fr No o (o.push (.C #[.L P b.length C] 32)):=Fr.push _ _;have k':Row (o.push (.C #[.L P b.length C] 32)) (Sa o.size 0) (ie ⟨P,C,b⟩):=jj (cs:=ie ⟨P,C,b⟩);have x':(o.push (.C #[.L P b.length C] 32)).size=o.size+1:=cI _;generalize o.push (.C #[.L P b.length C] 32)=h4 at U k' x'⊢;have M:=J.tt U;have k4:=M.get S.cN id;refine⟨ai k4,?_⟩;refine dI tN uN (S.Fv.frame M bC) k' rfl (λA' hv=>by simp at hv;subst hv;rfl) ae ae ?_;intro p5 c5 h5 o5 _ y g5;refine⟨_,_,_,rfl,ar.2 ?_⟩;have k5:=y.get k4 (λg=>i' _ g rfl);refine bf k5 bt λq Q q2 q3=>ar.2 ⟨_,_,_,ai Q,?_⟩;have v:Fr (λx=>x=s.b) h5 q:=Fr.of_eq q2 q3;have z3:=J.1;have z5:=y.1;have s': ∀c,aL p5 c->c≠s.b:=λc f e=>(g5 c f).elim (λg=>i' c g e) (λg=>ae);have O:=o5.frame v (λx g e=>s' x g e);have V:Fr (λx=>x=s.b\/aL s.np x) h q:=(M.mono (λ_ _=>False.elim)).tt ((y.mono (λ_ _ g=> .inr g)).tt (v.mono (λ_ _ g=> .inl g)));have kD: ∀c,X.D c->¬(c=s.b\/aL s.np c):=λc f g=>g.elim (λe=>T.ap c _ (e▸S.lb) f) (λg=>T.ap c _ (S.nl c g) f);have B: ∀c,aL P c->h.size<=c/\c<o.size:=λc f=>⟨g3 c f,o3.dk f⟩;have u':Own q P b.length C 1 (bc b):=((o3.frame U bC).frame y (λc f g=>by grind)).frame v (λc f e=>bN (B c f));have m':s.notes.flatMap ie++ie ⟨P,C,b⟩=(s.notes++ [(⟨P,C,b⟩:BV)]).flatMap ie:=by rw[cO];simp
   rw[m']at O;have q':(s.notes++ [(⟨P,C,b⟩:BV)]).map BV.b=s.abs.notes++ [b]:=by rw[aS];rfl
   have G:(s.notes++ [(⟨P,C,b⟩:BV)]).length=s.notes.length+1:=by rw[aq];rfl
   have r': ∀u∈s.notes++ [(⟨P,C,b⟩:BV)],u.ok q (λc=>X.D c\/aL P c):=by intro u ha;rcases bP.1 ha with ha|ha;exact((S.nd u ha).frame V kD).mono (λc=> .inl);simp at ha;subst ha;exact BV.jK u' (λc=> .inr)
   generalize s.notes++ [(⟨P,C,b⟩:BV)]=K at*;refine aB.of λJ1 d'=> ?_;have r: ∀(a:aA)(K':List BV)(np':bZ)(nc':Nat),(∃h',K'=K.drop h')->K'.map BV.b=Ia s.abs.notes b->At a { s with notes:=K',np:=np',nc:=nc' } ->Own a np' K'.length nc' 1 (K'.flatMap ie)->
     (∀c,aL np' c->aL s.np c\/h4.size<=c)->Fr (λx=>x=s.b) q a->J1 a:=by
    intro a K' np' nc' ⟨h',hj⟩ hK o' p' f' F;subst d';obtain⟨w,HH,st⟩:=T.notes (E:=aL P) hS z o' p' (λc f=>(f' c f).imp (λh=>h) (λg=>ae)) (V.tt (F.mono (λ_ _ g=> .inl g)))
     (λc f=>⟨(B c f).1,zq ((B c f).2) v.1 F.1,λg=>(f' c g).elim (λh2=>by grind) (λh2=>bN (B c f))⟩)
     (λu ha=>(r' u (by grind)).frame F (λc f e=>f.elim (λf=>kD c f (.inl e)) (λf=>bN (B c f))))
    refine j a w ?_ st;unfold mE;rw[show((i:Int)+1 - 1).toNat=i by omega];rw[hK]at HH;exact⟨_,HH⟩
   clear d';unfold Ia at r;rw[<-q',aw,G]at r;by_cases c':((s.notes.length+1:Nat):Int)>6;simp only[c',ct,bJ];rw[gH]at r;refine ar.2 ⟨_,_,_,ai Q,ae,?_⟩;rw[<-G]at O;have j':=O.sub (l:=1) (u:=K.length) ae (bu _);rw[<-iH ie 1 dZ K,dA,kR ie 1 dZ]at j';refine HW j'.hT (by grind) (by rw[cR];omega) λv' l' n' t' a' b'=>⟨_,_,_,rfl,ar.2 ?_⟩;have w':=a'.get Q id;refine bf w' bt λa r1 r2 r3=> ?_;have F:Fr (λx=>x=s.b) n' a:=Fr.of_eq r2 r3;have z6:=v.1;refine r a (K.drop 1) v' l' ⟨1,rfl⟩ List.map_drop ?_ (t'.frame F (λc f e=>bN (b' c f))) (λc f=> .inr (bN (b' c f))) ((a'.mono (λ_ _=>False.elim)).tt F);exact r1;simp only[c',cU,az,aY];rw[dz]at r;refine r q K p5 c5 ⟨0,rfl⟩ rfl ?_ (by rw[G];exact O) g5 (Fr.refl _ _);show q[s.b]? =_;rw[Q];dsimp only;rw[G];rfl
 rw[ag (by rfl)];rw[mR (by grind)]at j;exact j h X I (bp.refl _ _)
theorem lD(G:Has h t X A)(U:lF A)(f: ∀d j Z J,Has d t j (Ic A num)->bp X h j d->BV.ok d j.D ⟨Z,J,Ib A num⟩->R (.T #[.slice Z (Ib A num).length J,.I (N9 A num),.I (R5 A num)]) d):
  Cl 272 #[.P t 0,.I num] h R:=by
 have I:=G;obtain⟨_,l,L,T,rfl,_,hS⟩:=G;have hl:=U.le;rw[aw]at hl;unfold Ic Ib N9 R5 at f;refine qF (iN T (λi s e o=>⟨_,_,rfl,aB.of λa' v=> ?_⟩) (λy=>⟨_,_,rfl,aB.of λa' v=> ?_⟩) ae);rw[ag (by rfl)];subst e;rw[qj,mr o]at f;dsimp only at f;have S:=T.ses i s o;have vd:=U.at_ i _ (mr o);have nl:=by have:=vd.nl;rwa[show s.abs.notes.length=s.notes.length from aw _]at this
 refine ar.2 ⟨_,_,_,ai S.cN,?_⟩;subst v;dsimp only;have c':s.abs.notes=s.notes.map BV.b:=rfl;have rU: ∀C,mE (L.map SC.abs) ((i)+1) C=(L.map SC.abs).set i C:=λC=>by unfold mE;rw[show((i:Int)+1 - 1).toNat=i by omega]
 rw[rU,c',aw]at f;cases r:s.notes with
 |nil=>
  rw[r]at f;rw[ag (by rfl)];have e':(L.map SC.abs).set i { s.abs with notes:= [] } =L.map SC.abs:=by refine Ar ?_;rw[mr o];congr 1;unfold SC.abs;rw[r];rfl
  refine f h X none 0 ?_ (bp.refl _ _) ⟨.inl rfl,λq=>absurd rfl q,bt⟩;have:(List.drop 1 (List.map BV.b []))=([]):=rfl;rw[this,e'];exact I
 |cons x u=>
  have q:((((x::u).length:Nat))==0)=false:=by rfl
  rw[af (by grind)];have g': ∀c,aL s.np c->c≠s.b:=λc g e=>by have H:=S.nl c g;rw[e,S.lb]at H;simp at H
  have O:=S.Fv;have d':=S.cN;rw[r]at O f nl;have w:=by have:=d';unfold At cB.at at this;rwa[r]at this
  have⟨ab,b',z⟩:=O.addr bt;have B:=O;rw[z]at B;have f':=B.fa dZ (i:=0) rfl;refine ar.2 ⟨_,_,_,ai w,⟨ae,bt⟩,?_⟩;rw[z];refine ar.2 ⟨x.p,x.b.length,x.c,?_,ar.2 ⟨some (AA ab b'),(x::u).length,s.nc,?_,⟨ae,by grind⟩,?_⟩⟩;have:=f'.1;rw[Nat.zero_mul,cj,cj]at this;rw[show Int.toNat 0*1=0 from rfl,cj];exact this;rw[<-z];exact ai w;have V:=B.sub (l:=1) bt (bu _);rw[<-iH ie 1 dZ (x::u),dA,kR ie 1 dZ]at V;refine HW V.hT bt (by grind) λp3 c3 h3 o3 K g3=>⟨_,_,_,rfl,ar.2 (bf (K.get w id) bt λP r1 r2 r3=> ?_)⟩;have M:=Fr.of_eq r2 r3;have F:=(K.mono (λ_ _=>False.elim)).tt M;have kD: ∀c,X.D c->c≠s.b:=λc g e=>T.ap c _ (e▸S.lb) g;have Q: ∀n∈x::u,n.ok P X.D:=λn y=>(S.nd n (by grind)).frame F kD;have⟨j,HH,st⟩:=T.notes (nc':=c3) (E:=λ_=>False) hS o r1 (o3.frame M (λc g e=>by grind)) (λc g=> .inr (g3 c g)) (F.mono (λ_ _ hx=> .inl hx)) (λc g=>g.elim) (λn y=>(Q n (bQ _ y)).mono (λc=> .inl));exact f P j x.p x.c ⟨_,HH⟩ st ((Q x dN).mono st.nP)
 subst v;rw[mR (by grind)]at f;exact f h X none 0 I (bp.refl _ _) ⟨.inl rfl,λq=>absurd rfl q,bt⟩

end eM
end
section
variable {h:aA} {R:fp}
variable {t x:Nat}
def rK (hv:Hl h t 1 λo' Q _=> ∃(I:bZ->Nat->Nat->kj)(M:bZ->Nat->Nat->kG),I none 0 0 0 h/\∀i O o T e,I i O o T e->ite (decide (T<(Q:Int))) (Bd T Q/\aH o' λa=>AN e (a.add (toNat T*1)) λp=>aH p λa'=>cB.LD e a' λp' q' r' s' v' u' t' y' x' w'=>aW e (.C #[.I 0,.U 0,.B false,.B false,.Z,.Z] 166) λb k'=>cB.ST k' (AA b 0) p' q' r' s' v' u' t' y' x' w' λl'=>aO l' (AA b 4) (.Z) λm'=>aO m' (AA b 5) (.Z) λK=>aH p λb'=>lW K (b'.add 4) λz' S _=> ∃(k:kj)(L:kG),k 0 K/\∀c f,k c f->ite (decide (c<(S:Int))) (Bd c S/\aH z' λc'=>bO.LD f (c'.add (toNat c*2)) λA' D' C' B'=>aW f (.C #[.U 0,.Z] 169) λB n'=>bO.ST n' (AA B 0) A' D' C' B' λg=>Hl g b 4 λs r q=>Hu g B 0 λj=>Hl g B 1 λG' F' E'=>Cl 57 #[.L G' F' E'] g λa7 n=>Vl a7 λJ' I' H'=>Cc n B 0 (.U j)/\Cc n b 4 (.L s r q)/\aW n (.C #[.U j,.L J' I' H'] 169) λf' m=>Cc m B 0 (.U j)/\Cc m b 4 (.L s r q)/\jE (Builtin.append_ #[164,164] 164 #[.L s r q,.L (Sa f' 0) 1 1]) m λa8 C=>Vl a8 λM' L' K'=>Cc C B 0 (.U j)/\aO C (AA b 4) (.L M' L' K') λD=>(k (wrap .i64 (c+1)) D/\L (wrap .i64 (c+1)) D<L c f)) (aH p λd'=>lW f (d'.add 5) λO' U _=> ∃(l:kj)(P:kG),l 0 f/\∀d H,l d H->ite (decide (d<(U:Int))) (Bd d U/\aH O' λe'=>lW H (e'.add (toNat d*1)) λR' Q' P'=>Hl H b 5 λw v u=>Cl 57 #[.L R' Q' P'] H λa9 E=>Vl a9 λU' T' S'=>Cc E b 5 (.L w v u)/\aW E (.C #[.L U' T' S'] 32) λg' F=>Cc F b 5 (.L w v u)/\jE (Builtin.append_ #[39,39] 39 #[.L w v u,.L (Sa g' 0) 1 1]) F λb0 i'=> ∃Z X V,b0=.L Z X V/\aO i' (AA b 5) (.L Z X V) λG=>(l (wrap .i64 (d+1)) G/\P (wrap .i64 (d+1)) G<P d H)) (cB.LD H (AA b 0) λV' X' Z' a0 a3 a2 a1 a6 a5 a4=>aW H (.C #[.I V',.U X',.B Z',.B a0,.L a3 a2 a1,.L a6 a5 a4] 166) λh' j'=>jE (Builtin.append_ #[162,162] 162 #[.L i O o,.L (Sa h' 0) 1 1]) j' λb1 J=> ∃A z y,b1=.L A z y/\(I A z y (wrap .i64 (T+1)) J/\M A z y (wrap .i64 (T+1)) J<M i O o T e)))) (R (.L i O o) e)):Cl 76 #[.P t 0] h R:=aP [(16,.loop [(3,sS),(18,sI)]),(35,.loop [(32,sI)]),(46,λ_=>pN 12),(52,.loop [(53,sI)]),(63,λ_=>pN 8)] hv
def qH (hv:Cl 76 #[.P t 0] h λc7 w'=>Vl c7 λG' l' _=> ∃(I:bZ->Nat->Nat->kj)(mu:bZ->Nat->Nat->kG),I none 0 0 0 w'/\∀C z w i o,I C z w i o->ite (decide (i<(l':Int))) (Bd i l'/\aH G' λq'=>cB.LD o (q'.add (toNat i*6)) λH' I' J' K' O' M' L' R' Q' P'=>aW o (.C #[.I 0,.U 0,.B false,.B false,.Z,.Z] 166) λb F'=>cB.ST F' (AA b 0) H' I' J' K' O' M' L' R' Q' P' λH=>Hi H b 0 λm'=>Hu H b 1 λU=>Hb H b 2 λE=>Hb H b 3 λs=>Hl H b 4 λd T c=>Hl H b 5 λf a e=>Cl 42 #[] H λc8 g=>Vp c8 λS'=>Cc g b 5 (.L f a e)/\Cc g b 4 (.L d T c)/\Cc g b 3 (.B s)/\Cc g b 2 (.B E)/\Cc g b 1 (.U U)/\Cc g b 0 (.I m')/\Cl 45 #[.Q S',.I m'] g λd8 n=>Vp d8 λT'=>Cc n b 5 (.L f a e)/\Cc n b 4 (.L d T c)/\Cc n b 3 (.B s)/\Cc n b 2 (.B E)/\Cc n b 1 (.U U)/\Cl 44 #[.Q T',.U U] n λd9 p=>Vp d9 λU'=>Cc p b 5 (.L f a e)/\Cc p b 4 (.L d T c)/\Cc p b 3 (.B s)/\Cc p b 2 (.B E)/\Cl 77 #[.Q U',.B E] p λe0 v=>Vp e0 λV'=>Cc v b 5 (.L f a e)/\Cc v b 4 (.L d T c)/\Cc v b 3 (.B s)/\Cl 77 #[.Q V',.B s] v λe1 S=>Vp e1 λX'=>Cc S b 5 (.L f a e)/\Cc S b 4 (.L d T c)/\Cl 45 #[.Q X',.I (T:Int)] S λe2 J=>Vp e2 λZ'=>Cc J b 5 (.L f a e)/\Cc J b 4 (.L d T c)/\Cl 45 #[.Q Z',.I (a:Int)] J λe3 K=>Vp e3 λa0=>Cc K b 5 (.L f a e)/\Cc K b 4 (.L d T c)/\Cl 46 #[.Q a0] K λe4 L=>Vl e4 λa3 a2 a1=>Cc L b 5 (.L f a e)/\Cc L b 4 (.L d T c)/\aW L (.C #[.L a3 a2 a1] 32) λt' M=>Cc M b 5 (.L f a e)/\Cc M b 4 (.L d T c)/\jE (Builtin.append_ #[39,39] 39 #[.L C z w,.L (Sa t' 0) 1 1]) M λe5 u=>Vl e5 λa6 a5 a4=>Cc u b 5 (.L f a e)/\Cc u b 4 (.L d T c)/\Hl u b 4 λa7 n' _=> ∃(F:bZ->Nat->Nat->kj)(j':bZ->Nat->Nat->kG),F a6 a5 a4 0 u/\∀D A y j l,F D A y j l->ite (decide (j<(n':Int))) (Bd j n'/\aH a7 λr'=>bO.LD l (r'.add (toNat j*2)) λa8 b1 b0 a9=>aW l (.C #[.U 0,.Z] 169) λB x'=>bO.ST x' (AA B 0) a8 b1 b0 a9 λP=>Hu P B 0 λo'=>Hl P B 1 λZ X V=>Cl 42 #[] P λc9 Q=>Vp c9 λb2=>Cc Q B 1 (.L Z X V)/\Cc Q B 0 (.U o')/\Cl 44 #[.Q b2,.U o'] Q λd0 g'=>Vp d0 λb3=>Cc g' B 1 (.L Z X V)/\Cl 43 #[.Q b3,.L Z X V] g' λd1 y'=>Vp d1 λb4=>Cl 46 #[.Q b4] y' λd2 z'=>Vl d2 λb7 b6 b5=>aW z' (.C #[.L b7 b6 b5] 32) λu' A'=>jE (Builtin.append_ #[39,39] 39 #[.L D A y,.L (Sa u' 0) 1 1]) A' λd3 h'=> ∃c' b' a',d3=.L c' b' a'/\(F c' b' a' (wrap .i64 (j+1)) h'/\j' c' b' a' (wrap .i64 (j+1)) h'<j' D A y j l)) (Hl l b 5 λb8 p' _=> ∃(G:bZ->Nat->Nat->kj)(k':bZ->Nat->Nat->kG),G D A y 0 l/\∀r q O k m,G r q O k m->ite (decide (k<(p':Int))) (Bd k p'/\aH b8 λs'=>lW m (s'.add (toNat k*1)) λc1 c0 b9=>Cl 42 #[] m λd4 B'=>Vp d4 λc2=>Cl 43 #[.Q c2,.L c1 c0 b9] B' λd5 C'=>Vp d5 λc3=>Cl 46 #[.Q c3] C' λd6 D'=>Vl d6 λc6 c5 c4=>aW D' (.C #[.L c6 c5 c4] 32) λv' E'=>jE (Builtin.append_ #[39,39] 39 #[.L r q O,.L (Sa v' 0) 1 1]) E' λd7 i'=> ∃f' e' d',d7=.L f' e' d'/\(G f' e' d' (wrap .i64 (k+1)) i'/\k' f' e' d' (wrap .i64 (k+1)) i'<k' r q O k m)) ((I r q O (wrap .i64 (i+1)) m/\mu r q O (wrap .i64 (i+1)) m<mu C z w i o)))) (R (.L C z w) o)):Cl 38 #[.P t 0] h R:=aP [(8,.loop [(3,sS),(13,sI)]),(20,λ_=> .ni (lO [0,2,3,5,6,8,9,11,12,14,15,16,18,19,20,1,4,7,10,13,17,21,22,23,24,25] .done)),(25,.loop [(3,sS),(45,sI)]),(36,λ_=> .ni (lO [0,2,3,5,6,1,4,7,8,9,10,11] .done)),(41,.loop [(3,sS),(64,sI)])] hv
def pS(i: ∃r d q,Cc h x 0 (.L r d q)/\ite (((d:Nat):Int)==0) (aO h (AA x 1) (.B true) λe=>Cl 23 #[.Z] e λv f=> ∃T,v=.Q T/\R (.Q T) f) (Hl h x 0 λk j _=>Bd 0 j/\aH k λa=>lW h (a.add (toNat 0*1)) λn m l=>Cl 23 #[.L n m l] h λV H=>Vp V λo=>Hl H x 0 λp c b=>((0:Int)<=1/\1<=(c:Int))/\aO H (AA x 0) (.L (cE p b (toNat 1) 1) (c - (toNat 1)) (b - (toNat 1))) λg=>R (.Q o) g)):Cl 155 #[.P x 0] h R:=aP [] i
def pT{i:Bool}(b: ∃T,Cc h x 1 (.B T)/\ite T (aO h (AA x 1) (.B true) λH=>R (.T #[]) H) (aO h (AA x 1) (.B (!i)) λa=>R (.T #[]) a)):Cl 157 #[.P x 0,.B i] h R:=aP [] b
def nY (hv:Cl 155 #[.P x 0] h λa9 a'=>Vp a9 λT=>Cl 27 #[.Q T] a' λb0 h'=>Vi b0 λT'=>Cl 26 #[.Q T] h' λc1 q'=>Vu c1 λU'=>Cl 156 #[.Q T] q' λd2 y'=>Vb d2 λV'=>Cl 156 #[.Q T] y' λd3 C'=>Vb d3 λX'=>Cl 27 #[.Q T] C' λd4 D'=>Vi d4 λF=>Cl 27 #[.Q T] D' λd5 E'=>Vi d5 λG=>aB (λF'=>Cl 90 #[.P t 0,.U U'] F' λd6 w=> ∃c L,d6=.T #[.I c,.I L]/\aB (λH=> ∃O,Cc H x 1 (.B O)/\ite O (R (.T #[]) H) (Hl H t 1 λa0 Z' _=>Bd (wrap .i64 (c - 1)) Z'/\aH a0 λa=> ∃f,aU H (a.add (toNat (wrap .i64 (c - 1))*1))=some (.Q f)/\aH f λS=>aO H (S.add 2) (.B V') λb'=>aH f λU=>aO b' (U.add 3) (.B X') λc'=> ∃(I:kj)(M:kG),I 0 c'/\∀g i,I g i->ite (decide (g<F)) (aB (λq=>(I (wrap .i64 (g+1)) q/\M (wrap .i64 (g+1)) q<M g i)) (λQ=>Cl 155 #[.P x 0] i λd7 d'=>Vp d7 λn=>Cl 26 #[.Q n] d' λd8 e'=>Vu d8 λa1=>Cl 25 #[.Q n] e' λb1 f'=>Vl b1 λa4 a3 a2=>aW f' (.C #[.U 0,.Z] 169) λb g'=>bO.ST g' (AA b 0) a1 a4 a3 a2 λr=>Hu r b 0 λa5=>Cl 131 #[.P t 0,.I c,.U a5] r λb2 i'=> ∃a8 a7 a6 P,b2=.T #[.L a8 a7 a6,.B P]/\aB (λj'=>Q j') (λl=>Cl 30 #[.Q n] i' λb3 d=> ∃z,b3=.I z/\ite (z==0) (ite (!P) (Hu d b 0 λG'=>Hl d b 1 λJ' I' H'=>Cl 135 #[.P t 0,.I c,.U G',.L J' I' H'] d λb4 k'=>Vi b4 λK'=>Cl 157 #[.P x 0,.B (K'==0)] k' λb5 l'=>b5=.T #[]/\l l') (Cl 157 #[.P x 0,.B false] d λb6 m'=>b6=.T #[]/\l m')) (Cl 157 #[.P x 0,.B false] d λb7 n'=>b7=.T #[]/\l n')))) (∃(k:kj)(y:kG),k 0 i/\∀e j,k e j->ite (decide (e<G)) (Cl 155 #[.P x 0] j λb8 o'=>Vp b8 λA=>Cl 25 #[.Q A] o' λb9 p'=>Vl b9 λD C B=>aB (λs=>aH f λV=>lW s (V.add 5) λP' O' M'=>aW s (.C #[.L D C B] 32) λZ r'=>jE (Builtin.append_ #[39,39] 39 #[.L P' O' M',.L (Sa Z 0) 1 1]) r' λc0 s'=>Vl c0 λS' R' Q'=>aH f λX=>aO s' (X.add 5) (.L S' R' Q') λu=>(k (wrap .i64 (e+1)) u/\y (wrap .i64 (e+1)) u<y e j)) (λp=>Cl 30 #[.Q A] p' λc2 v=> ∃E,c2=.I E/\ite (E==0) (Cl 158 #[.L D C B] v λc3 t'=>Vb c3 λL'=>Cl 157 #[.P x 0,.B L'] t' λc4 u'=>c4=.T #[]/\p u') (Cl 157 #[.P x 0,.B false] v λc5 v'=>c5=.T #[]/\p v'))) (R (.T #[]) j)))) (λo=>ite (L==0) (Cl 157 #[.P x 0,.B (c==T')] w λc6 w'=>c6=.T #[]/\o w') (Cl 157 #[.P x 0,.B false] w λc7 x'=>c7=.T #[]/\o x'))) (λJ=>Cl 30 #[.Q T] E' λc8 m=> ∃K,c8=.I K/\ite (K==0) (ite (decide (F<=6)) (Cl 157 #[.P x 0,.B (decide (G<=6))] m λc9 z'=>c9=.T #[]/\J z') (Cl 157 #[.P x 0,.B false] m λd0 A'=>d0=.T #[]/\J A')) (Cl 157 #[.P x 0,.B false] m λd1 B'=>d1=.T #[]/\J B'))):Cl 108 #[.P x 0,.P t 0] h R:=aP [(5,.join []),(9,.join []),(24,.loop [(83,sI)]),(32,.join []),(39,.join []),(44,.loop [(121,sI)]),(58,.join [])] hv
def yU{d:bZ}{L l:Nat} (k:Cl 15 #[] h λv i=>Vp v λg=>aW i (.C #[.L d L l,.B false] 217) λb j=> ∃(I:dw)(m:aA->Nat),I j/\∀H,I H->aB (λ(p:Bool) a=>ite p (Cl 108 #[.P b 0,.Q g] a λV c=>V=.T #[]/\(I c/\m c<m H)) (∃f,Cc a b 1 (.B f)/\ite f (R (.T #[.Q none,.I 3]) a) (R (.T #[.Q g,.I 0]) a))) (λJ=> ∃o T n,Cc H b 0 (.L o T n)/\ite (decide (((T:Nat):Int)>0)) (∃e,Cc H b 1 (.B e)/\J (!e) H) (J false H))):Cl 67 #[.L d L l] h R:=aP [(6,.loop []),(9,.join [(22,sB)])] k

end
section
open Go.fv
namespace eM
open gg
variable {h H d:aA} {t:Nat} {X:Ft} {R:fp} {p:bZ} {c i:Nat} {l:Ua} {D:Nat→Prop} {L:List SC} {A:List eM}
variable {s:SC} {g:aA} {b:Nat} {E:Nat->Prop} {K:aA->Prop}
abbrev WV(s:SC):List Value:= [.int .i64 (s.num:Int),.int .u64 (s.token:Int),.bool s.up,.bool s.watch,.slice s.kp s.kept.length s.kc,.slice s.np s.notes.length s.nc]
def Sr(s:SC):(WV s).length=6:=rfl
def tS:pJ Tryz.prog 162 166 6 72 (.agg #[.I 0,.U 0,.B false,.B false,.Z,.Z]):=⟨cZ,cZ,rfl⟩
def Y4:Tryz.prog.underlying 162=some (.slice 166):=cZ
structure GU (h:aA) (D:gF) (s:SC):Prop where
 k:Row h s.kp (s.kept.flatMap AV.enc)
 kD:s.kept≠ []->∀y,aL s.kp y->D y
 kd: ∀a∈s.kept,a.v.ok h D
 n:Row h s.np (s.notes.flatMap ie)
 nD:s.notes≠ []->∀y,aL s.np y->D y
 nd: ∀n∈s.notes,n.ok h D
def GU.frame{Q:gF}(j:GU h D s)(f:Fr Q h H)(k: ∀y,D y->¬Q y):GU H D s:=by refine⟨?_,j.kD,λa n=>(j.kd a n).frame f k,?_,j.nD,λa n=>(j.nd a n).frame f k⟩;by_cases e:s.kept= [];rw[e];exact .inl rfl;exact j.k.frame f (λa m=>k _ (j.kD e _ ⟨a,m,rfl⟩));by_cases e:s.notes= [];rw[e];exact .inl rfl;exact j.n.frame f (λa m=>k _ (j.nD e _ ⟨a,m,rfl⟩))
def GU.mono{D':gF}(f:GU h D s)(j: ∀y,D y->D' y):GU h D' s:=
 ⟨f.k,λe y m=>j y (f.kD e y m),λa k=>(f.kd a k).mono j,f.n,λe y m=>j y (f.nD e y m),λa k=>(f.nd a k).mono j⟩
def SL(d h:aA)(p:bZ)(e c:Nat)(A:List eM):Prop:=
 ∃(a:List SC)(D:gF),e=a.length/\Own h p e c 6 (a.flatMap WV)/\a.map SC.abs=A/\(∀x∈a,GU h D x)/\(∀y,D y->d.size<=y/\y<h.size/\¬aL p y)/\∀y,aL p y->d.size<=y
def SL.len{a:Nat}(e:SL d h p a c A):a=A.length:=by have⟨x,D,f,_,j,_⟩:=e;rw[f,<-j,aw]
structure Cp (g h:aA) (b:Nat) (s:SC) (E:gF):Prop where
 fr:Fr No g h
 cN:cB.at h b (s.num:Int) (s.token:Int) s.up s.watch s.kp s.kept.length s.kc s.np s.notes.length s.nc
 gb:g.size<=b
 ko:Own h s.kp s.kept.length s.kc 2 (s.kept.flatMap AV.enc)
 kg: ∀y,aL s.kp y->g.size<=y/\y≠b/\¬E y
 no:Own h s.np s.notes.length s.nc 1 (s.notes.flatMap ie)
 ng: ∀y,aL s.np y->g.size<=y/\y≠b/\¬E y/\¬aL s.kp y
 kd: ∀a∈s.kept,a.v.ok h E
 nd: ∀n∈s.notes,n.ok h E
 eg: ∀y,E y->g.size<=y/\y<h.size/\y≠b
def Cp.answer{a:AV}(C:Cp g h b s E)(hr:Row h a.v.p (bc a.v.b))(P':a.v.b.length<=1000)(O':s.kept.length<=1000)(hk: ∀H s' E',Cp g H b s' E'->s'.abs= { s.abs with kept:=s.abs.kept++ [a.abs] } ->K H):
  aW h (.C #[.U 0,.Z] 169) λm B'=>
     aO B' (AA m 0) (.U (a.id:Int)) λC'=>
     aO C' (AA m 1) (.L a.v.p a.v.b.length a.v.c) λw=>
     ∃(M:bZ)(J I:Nat),aU w (AA b 4)=some (.L M J I)/\
     ∃(T:Int),aU w (AA m 0)=some (.U T)/\
     ∃(m':bZ)(l' k':Nat),aU w (AA m 1)=some (.L m' l' k')/\
     Cl 57 #[.L m' l' k'] w λu' S=>
     ∃(p':bZ)(o' n':Nat),u'=.L p' o' n'/\
     aU S (AA m 0)=some (.U T)/\
     aU S (AA b 4)=some (.L M J I)/\
     aW S (.C #[.U T,.L p' o' n'] 169) λw' U=>
     aU U (AA m 0)=some (.U T)/\
     aU U (AA b 4)=some (.L M J I)/\
     bM Tryz.prog (Builtin.append_ #[164,164] 164 #[.L M J I,.L (Sa w' 0) 1 1]) U λK' f'=>
     ∃(t':bZ)(r' q':Nat),K'=.L t' r' q'/\
     aU f' (AA m 0)=some (.U T)/\
     aO f' (AA b 4) (.L t' r' q') λD'=>K D':=by
 refine bO.new λb1 M' L' z r=> ?_;have V:=r.get C.cN id;have zb:b<h.size:=aD C.cN;refine⟨_,_,_,ai V,_,ai z,_,_,_,ai z,hY (hr.frame r bC) rfl ae λP f j i' u x'=>⟨_,_,_,rfl,ai (u.get z id),ai (u.get V id),cg ?_⟩⟩;have Q:Fr No j (j.push (.C #[.U (a.id:Int),.L P a.v.b.length f] 169)):=Fr.push _ _;have j':Row (j.push (.C #[.U (a.id:Int),.L P a.v.b.length f] 169)) (Sa j.size 0) (AV.enc ⟨a.id,⟨P,f,a.v.b⟩⟩):=jj (cs:=AV.enc ⟨a.id,⟨P,f,a.v.b⟩⟩);have J':(j.push (.C #[.U (a.id:Int),.L P a.v.b.length f] 169)).size=j.size+1:=cI _;generalize j.push (.C #[.U (a.id:Int),.L P a.v.b.length f] 169)=z' at Q j' J'⊢;have O:=u.tt Q;have e':=r.tt O;have g':=O.get V id;have c':=O.get z id;refine⟨ai c',ai g',?_⟩;have S':=r.1;have T':=u.1;have zg:=C.fr.1;have h': ∀y,aL s.kp y->y≠b:=λy hy=>(C.kg y hy).2.1;have Z: ∀y,aL s.kp y->y<h.size:=λy hy=>C.ko.dk hy;refine dI tA uA (C.ko.frame e' bC) j' rfl (λu' hv=>by simp at hv;rcases hv with rfl|rfl<;>rfl) ae ae ?_;intro b' d' A' H' _ F y';have v':=F.get c' (λhx=>bN (Z _ hx));refine⟨_,_,_,rfl,ai v',?_⟩;have F':=F.get g' (λhx=>h' _ hx rfl);refine bf F' bt λn q1 q2 q3=> ?_;have v:Fr (λx=>x=b) A' n:=Fr.of_eq q2 q3;have q:Fr (λx=>x=b\/aL s.kp x) h n:=(e'.mono (λ_ _=>False.elim)).tt ((F.mono (λ_ _ hx=> .inr hx)).tt (v.mono (λ_ _ hx=> .inl hx)));have Q':=F.1;have R':=v.1;have a': ∀y,aL b' y->aL s.kp y\/z'.size<=y:=y';have B: ∀y,aL P y->h.size<=y/\y<j.size:=λy hy=>⟨bN (x' y hy),i'.dk hy⟩;have G':Own n P a.v.b.length f 1 (bc a.v.b):=((i'.frame Q bC).frame F (λy hy hx=>gM (B y hy) (Z y hx))).frame v (λy hy e=>bN (B y hy));have eQ: ∀y,E y->¬(y=b\/aL s.kp y):=λy hy hx=>hx.elim (C.eg y hy).2.2 (λhx=>(C.kg y hx).2.2 hy);have I':=H'.frame v (λy hy e=>(a' y hy).elim (λhx=>h' y hx e) (λhx=>ae));refine hk n { s with kept:=s.kept++ [⟨a.id,⟨P,f,a.v.b⟩⟩],kp:=b',kc:=d' } (λy=>E y\/aL P y) ⟨?_,?_,C.gb,?_,?_,?_,?_,?_,?_,?_⟩ ?_;exact C.fr.step q (λy hy hx=>hx.elim (λe=>bN C.gb) (λhx=>bN ((C.kg y hx).1)));show n[b]? =_;rw[q1];dsimp only;rw[aq];rfl;show Own n b' (s.kept++ [_]).length d' 2 ((s.kept++ [_]).flatMap AV.enc);rw[aq,cO];simpa using I';intro y hy;rcases a' y hy with hx|hx;exact⟨(C.kg y hx).1,(C.kg y hx).2.1,λo=>o.elim (C.kg y hx).2.2 (λk=>gM (B y k) (Z y hx))⟩;exact⟨ae,ae,λo=>o.elim (λk=>bN ((C.eg y k).2.1)) (λk=>bN (B y k))⟩;exact C.no.frame q (λy hy hx=>hx.elim (C.ng y hy).2.1 (C.ng y hy).2.2.2);intro y hy;have G:=C.ng y hy;have ly:y<h.size:=C.no.dk hy;exact⟨G.1,G.2.1,λo=>o.elim G.2.2.1 (λk=>bN (B y k)),λhx=>(a' y hx).elim G.2.2.2 (λk=>ae)⟩;intro x hx;rcases bP.1 hx with hx|hx;exact((C.kd x hx).frame q eQ).mono (λy=> .inl);simp at hx;subst hx;exact BV.jK G' (λy=> .inr);intro x hx;exact((C.nd x hx).frame q eQ).mono (λy=> .inl);rintro y (hy|hy);exact⟨(C.eg y hy).1,bN ((C.eg y hy).2.1),(C.eg y hy).2.2⟩;exact⟨bN (B y hy),bN (B y hy),bN (B y hy)⟩;unfold SC.abs;dsimp only;rw[aS];rfl
def Cp.note{n:BV}(C:Cp g h b s E)(hr:Row h n.p (bc n.b))(z':n.b.length<=1000)(y':s.notes.length<=1000)(hk: ∀H s' E',Cp g H b s' E'->s'.abs= { s.abs with notes:=s.abs.notes++ [n.b] } ->K H):
  ∃(u:bZ)(r T:Nat),aU h (AA b 5)=some (.L u r T)/\
       Cl 57 #[.L n.p n.b.length n.c] h λw' O=>
       ∃(f':bZ)(e' d':Nat),w'=.L f' e' d'/\
       aU O (AA b 5)=some (.L u r T)/\
       aW O (.C #[.L f' e' d'] 32) λj' Q=>
       aU Q (AA b 5)=some (.L u r T)/\
       bM Tryz.prog (Builtin.append_ #[39,39] 39 #[.L u r T,.L (Sa j' 0) 1 1]) Q λx' o'=>
       ∃(i':bZ)(h' g':Nat),x'=.L i' h' g'/\
       aO o' (AA b 5) (.L i' h' g') λp'=>K p':=by
 have zb:b<h.size:=aD C.cN;refine⟨_,_,_,ai C.cN,hY hr rfl ae λP f j b' w k'=>⟨_,_,_,rfl,ai (w.get C.cN id),cg ?_⟩⟩;have z:Fr No j (j.push (.C #[.L P n.b.length f] 32)):=Fr.push _ _;have c':Row (j.push (.C #[.L P n.b.length f] 32)) (Sa j.size 0) (ie ⟨P,f,n.b⟩):=jj (cs:=ie ⟨P,f,n.b⟩);have v':(j.push (.C #[.L P n.b.length f] 32)).size=j.size+1:=cI _;generalize j.push (.C #[.L P n.b.length f] 32)=m' at z c' v'⊢;have v:=w.tt z;have U:=v.get C.cN id;refine⟨ai U,?_⟩;have D':=w.1;have zg:=C.fr.1;have a': ∀y,aL s.np y->y≠b:=λy hy=>(C.ng y hy).2.1;have V: ∀y,aL s.np y->y<h.size:=λy hy=>C.no.dk hy;refine dI tN uN (C.no.frame v bC) c' rfl (λA' S=>by simp at S;subst S;rfl) ae ae ?_;intro I J n' t' _ o l';refine⟨_,_,_,rfl,?_⟩;have q':=o.get U (λhx=>a' _ hx rfl);refine bf q' bt λk q1 q2 q3=> ?_;have q:Fr (λx=>x=b) n' k:=Fr.of_eq q2 q3;have F:Fr (λx=>x=b\/aL s.np x) h k:=(v.mono (λ_ _=>False.elim)).tt ((o.mono (λ_ _ hx=> .inr hx)).tt (q.mono (λ_ _ hx=> .inl hx)));have B':=o.1;have C':=q.1;have Z: ∀y,aL I y->aL s.np y\/m'.size<=y:=l';have B: ∀y,aL P y->h.size<=y/\y<j.size:=λy hy=>⟨k' y hy,b'.dk hy⟩;have r':Own k P n.b.length f 1 (bc n.b):=((b'.frame z bC).frame o (λy hy hx=>gM (B y hy) (V y hx))).frame q (λy hy e=>bN (B y hy));have M: ∀y,E y->¬(y=b\/aL s.np y):=λy hy hx=>hx.elim (C.eg y hy).2.2 (λhx=>(C.ng y hx).2.2.1 hy);have u':=t'.frame q (λy hy e=>(Z y hy).elim (λhx=>a' y hx e) (λhx=>ae));refine hk k { s with notes:=s.notes++ [⟨P,f,n.b⟩],np:=I,nc:=J } (λy=>E y\/aL P y) ⟨?_,?_,C.gb,?_,?_,?_,?_,?_,?_,?_⟩ ?_;exact C.fr.step F (λy hy hx=>hx.elim (λe=>bN C.gb) (λhx=>bN ((C.ng y hx).1)));show k[b]? =_;rw[q1];dsimp only;rw[aq];rfl;exact C.ko.frame F (λy hy hx=>hx.elim (C.kg y hy).2.1 (λa=>(C.ng y a).2.2.2 hy));intro y hy;have G:=C.kg y hy;have ly:y<h.size:=C.ko.dk hy;exact⟨G.1,G.2.1,λm=>m.elim G.2.2 (λa=>bN (B y a))⟩;show Own k I (s.notes++ [_]).length J 1 ((s.notes++ [_]).flatMap ie);rw[aq,cO];simpa using u';intro y hy;rcases Z y hy with hx|hx;exact⟨(C.ng y hx).1,(C.ng y hx).2.1,λm=>m.elim (C.ng y hx).2.2.1 (λa=>gM (B y a) (V y hx)),(C.ng y hx).2.2.2⟩;exact⟨ae,ae,λm=>m.elim (λa=>bN ((C.eg y a).2.1)) (λa=>bN (B y a)),λa=>bN (C.ko.dk a)⟩;intro x hx;exact((C.kd x hx).frame F M).mono (λy=> .inl);intro x hx;rcases bP.1 hx with hx|hx;exact((C.nd x hx).frame F M).mono (λy=> .inl);simp at hx;subst hx;exact BV.jK r' (λy=> .inr);rintro y (hy|hy);exact⟨(C.eg y hy).1,bN ((C.eg y hy).2.1),(C.eg y hy).2.2⟩;exact⟨bN (B y hy),bN (B y hy),bN (B y hy)⟩;unfold SC.abs;dsimp only;rw[aS];rfl
theorem wF(q':Has h t X A)(ok:lF A)(hk: ∀H p' l' c',SL h H p' l' c' A->Fr No h H->R (.L p' l' c') H):Cl 76 #[.P t 0] h R:=by
 obtain⟨_,l,L,TB,rfl,_,hS⟩:=q';have hl:=ok.le;rw[aw]at hl;obtain⟨tp,tc,j',C',_⟩:=TB.cN;refine rK ⟨_,_,_,ai j',?_⟩;refine⟨λB U T i h1=> ∃k:Nat,i=(k:Int)/\k<=L.length/\SL h h1 B U T ((L.map SC.abs).take k)/\Fr No h h1,λ_ _ _ i _=>L.length - i.toNat,⟨0,rfl,ae,⟨[],λ_=>False,rfl,.nil rfl rfl rfl rfl,rfl,(λx hx=>by cases hx),(λy hy=>hy.elim),λy ⟨a,e,_⟩=>by cases e⟩,Fr.refl _ _⟩,?_⟩;rintro B U T _ g ⟨k,rfl,H',O,F⟩;have r':=TB.on F;have I':=F.get j' id;have o':=C'.frame F bC;have A':=O.len;rw[bT,aw]at A';by_cases v':k<L.length
 .rw[gH,aK];have⟨s,z⟩:=lP v';have r:=r'.ses k s z;have vd:=ok.at_ k _ (mr z);have kl:s.kept.length<=6:=by have:=vd.kl;rwa[show s.abs.kept.length=s.kept.length from aw _]at this
  have nl:s.notes.length<=6:=by have:=vd.nl;rwa[show s.abs.notes.length=s.notes.length from aw _]at this
  have kb: ∀a∈s.kept,a.v.b.length<=1000:=λa f=>(vd.kd a.abs (bL f)).2;have nb: ∀a∈s.notes,a.b.length<=1000:=λa f=>by have:=(vd.nd a.b (bL f)).2;omega
  obtain⟨ab,D',rfl⟩:=o'.addr ae;refine⟨⟨by first|trivial|omega,by first|trivial|omega⟩,ar.2 ⟨some (AA s.b 0),?_,ar.2 ?_⟩⟩;rw[cC];exact o'.cell (by rw[aN,z];rfl);refine cB.ld r.cN (cB.new λb h8 eb g' f8=> ?_);refine bf g' bt λh9 a1 a2 a3=>bf a1 bt λe' b1 b2 b3=>ar.2 ?_;have P:Fr No g e':=f8.step ((Fr.of_eq (S:=λx=>x=b) a2 a3).tt (Fr.of_eq b2 b3)) (λy hy e=>ae);have b':=r.frame P (λ_ _ _ _ _=>id) bC;refine⟨_,_,_,ai b'.cN,?_⟩;have a':Cp g e' b ⟨b,s.num,s.token,s.up,s.watch, [],none,0, [],none,0⟩ (λ_=>False):=
   ⟨P,b1,ae,.nil rfl rfl rfl rfl,(λy ⟨a,e,_⟩=>by cases e),.nil rfl rfl rfl rfl,(λy ⟨a,e,_⟩=>by cases e),(λa f=>by cases f),(λa f=>by cases f),λy hy=>hy.elim⟩
  refine⟨λi H=> ∃(j:Nat)(S:SC)(E:gF),i=(j:Int)/\j<=s.kept.length/\Cp g H b S E/\S.abs=⟨s.num,s.token,s.up,s.watch,s.abs.kept.take j, []⟩,λi _=>s.kept.length - i.toNat,⟨0,_,_,rfl,ae,a',rfl⟩,?_⟩;clear a' b' P b1 b2 b3 a1 a2 a3 g' f8;rintro _ F' ⟨j,S,E,rfl,hj,C,n⟩;have u:=r.frame C.fr (λ_ _ _ _ _=>id) bC;by_cases w:j<s.kept.length
  .rw[gH,aK];have⟨a,f⟩:=lP w;have V:=u.BH;obtain⟨J',K',h'⟩:=V.addr ae;rw[h']at V;refine⟨⟨by first|trivial|omega,by first|trivial|omega⟩,?_⟩;rw[h'];refine ar.2 (bO.qq (V.fa ia f) ?_);have B':S.kept.length=j:=by
    have:=bV (λx=>x.kept.length) n;have M:S.abs.kept.length=S.kept.length:=aw _;dsimp only at this;rw[M,bT]at this;have e2:s.abs.kept.length=s.kept.length:=aw _;omega
   refine C.answer (u.kd a (aG f)).row (kb a (aG f)) ae λs' Z J I Q=> ?_;rw[fc];refine⟨⟨j+1,Z,J,ae,ae,I,?_⟩,?_⟩;rw[Q,n];dsimp only;congr 1;rw[aV,show s.abs.kept[j]? =some a.abs by show(s.kept.map AV.abs)[j]? =_;rw[aN,f];rfl];rfl;show s.kept.length - Int.toNat ((j:Int)+1)<s.kept.length - Int.toNat (j:Int);omega
  .have q2: ¬(j:Int)<(s.kept.length:Int):=ae
   simp only[q2,cU,az,aY];refine ar.2 ⟨_,_,_,ai u.cN,?_⟩;have f':S.abs=⟨s.num,s.token,s.up,s.watch,s.abs.kept,s.abs.notes.take 0⟩:=by rw[n,aX (by have:s.abs.kept.length=s.kept.length:=aw _;omega)];rfl
   refine⟨λi H=> ∃(j:Nat)(S:SC)(E:gF),i=(j:Int)/\j<=s.notes.length/\Cp g H b S E/\S.abs=⟨s.num,s.token,s.up,s.watch,s.abs.kept,s.abs.notes.take j⟩,λi _=>s.notes.length - i.toNat,⟨0,S,E,rfl,ae,C,f'⟩,?_⟩;clear C u n f' hj w q2;rintro _ t' ⟨j,S,E,rfl,hj,C,n⟩;have d':=r.frame C.fr (λ_ _ _ _ _=>id) bC;by_cases w:j<s.notes.length
   .rw[gH,aK];have⟨a,f⟩:=lP w;have q:=d'.Fv;obtain⟨L',M',i'⟩:=q.addr ae;rw[i']at q;refine⟨⟨by first|trivial|omega,by first|trivial|omega⟩,?_⟩;rw[i'];refine ar.2 ⟨a.p,a.b.length,a.c,?_,?_⟩;have:=(q.fa dZ f).1;rwa[cj]at this;have B':S.notes.length=j:=by
     have:=bV (λx=>x.notes.length) n;have M:S.abs.notes.length=S.notes.length:=aw _;dsimp only at this;rw[M,bT]at this;have e2:s.abs.notes.length=s.notes.length:=aw _;omega
    refine C.note (d'.nd a (aG f)).row (nb a (aG f)) ae λs' Z J I Q=> ?_;rw[fc];refine⟨⟨j+1,Z,J,ae,ae,I,?_⟩,?_⟩;rw[Q,n];dsimp only;congr 1;rw[aV,show s.abs.notes[j]? =some a.b by show(s.notes.map BV.b)[j]? =_;rw[aN,f];rfl];rfl;show s.notes.length - Int.toNat ((j:Int)+1)<s.notes.length - Int.toNat (j:Int);omega
   rw[dz];have u':S.abs=s.abs:=by rw[n,aX (by have:s.abs.notes.length=s.notes.length:=aw _;omega)];rfl
   refine cB.ld C.cN ?_;obtain⟨xs,D,w',k',x',y',m',n'⟩:=O;have q:=k'.frame C.fr bC;refine iV tS Y4 q rfl (λP' hv=>by simp at hv;rcases hv with rfl|rfl|rfl|rfl|rfl|rfl<;>rfl) ae ae ?_;intro O' E' G' z' v G;refine⟨_,_,_,rfl,?_⟩;rw[fc];have Q':=C.fr.1;have zg:=F.1;have o: ∀y,aL B y->y<g.size:=λy hy=>k'.dk hy;refine⟨⟨k+1,ae,ae,⟨xs++ [S],λy=>D y\/E y\/aL S.kp y\/aL S.np y,by rw[aq,w'];rfl,?_,?_,?_,?_,?_⟩,?_⟩,?_⟩;rw[cO];simpa using z';rw[aS,x',aV,aN,z];show _++ [S.abs]=_++ [s.abs];rw[u'];intro x hx;rcases bP.1 hx with hx|hx;refine(((y' x hx).frame C.fr bC).frame v (λy hy=>(m' y hy).2.2)).mono (λy=> .inl);simp at hx;subst hx;refine GU.frame (h:=t') ⟨C.ko.hT,λ_ y hy=> .inr (.inr (.inl hy)),λa f=>(C.kd a f).mono (λy hy=> .inr (.inl hy)),C.no.hT,λ_ y hy=> .inr (.inr (.inr hy)),λa f=>(C.nd a f).mono (λy hy=> .inr (.inl hy))⟩ v ?_;rintro y (hy|hy|hy|hy) m;exact(m' y hy).2.2 m;have:=o y m;have:=(C.eg y hy).1;omega;have:=o y m;have:=(C.kg y hy).1;omega;have:=o y m;have:=(C.ng y hy).1;omega;have R':=v.1;rintro y (hy|hy|hy|hy);grind;have a:=C.eg y hy;exact⟨ae,ae,λm=>(G y m).elim (λh2=>bN (o y h2)) (λh2=>ae)⟩;have a:=C.kg y hy;have b:=C.ko.dk hy;exact⟨ae,ae,λm=>(G y m).elim (λh2=>bN (o y h2)) (λh2=>ae)⟩;have a:=C.ng y hy;have b:=C.no.dk hy;exact⟨ae,ae,λm=>(G y m).elim (λh2=>bN (o y h2)) (λh2=>ae)⟩;intro y hy;rcases G y hy with h2|h2;exact n' y h2;omega;exact(F.tt C.fr).step v (λy hy m=>bN (n' y m));show L.length - Int.toNat ((k:Int)+1)<L.length - Int.toNat (k:Int);omega
 rw[dz];rw[aX (by rw[aw];omega)]at O;exact hk g B U T O F

end eM
end
section
open Go.fv
namespace eM
open gg
variable {h H:aA} {t:Nat} {X:Ft} {R:fp} {p:bZ} {c i:Nat} {A:List eM}
def mB(s:eM):cQ:=bm s.num++bm s.token++bm (bit s.up)++bm (bit s.watch)++bm s.kept.length++bm s.notes.length
def BY(a:Nat×cQ):cQ:=bm a.1++cX a.2
def LF(s:eM):List (cQ):=mB s::(s.kept.map BY++s.notes.map cX)
def kf(A:List eM):List (cQ):=A.flatMap LF
def LG(s:eM):(LF s).length=1+s.kept.length+s.notes.length:=by unfold LF;simp;omega
def tD(o:lF A):(kf A).length<=13*A.length:=by
 have k: ∀B,(∀s∈B,s.kept.length<=6/\s.notes.length<=6)->(kf B).length<=13*B.length:=by
  intro B;induction B with
  |nil=>decide
  |cons s B I=>intro a;have f:=a s dN;have g:=I (λx e=>a x (bQ _ e));unfold kf at*;rw[fJ,aq,LG,ba];omega
 refine k A λs d=> ?_;have⟨i,b⟩:=bA d;exact⟨(o.at_ i s b).kl,(o.at_ i s b).nl⟩
theorem mz(f0:Has h t X A)(ok:lF A)(hk: ∀H p' l' c',BL h H p' l' c' (kf A)->Fr No h H->R (.L p' l' c') H):Cl 38 #[.P t 0] h R:=by
 refine qH (wF f0 ok λl p1 l1 c1 O1 f1=>⟨_,_,_,rfl,?_⟩);obtain⟨x,a6,rfl,h8,rfl,n',c8,m8⟩:=O1;have i0:=ok.le;rw[aw]at i0;refine⟨λV O oc i h2=> ∃k:Nat,i=(k:Int)/\k<=x.length/\BL l h2 V O oc (kf ((x.map SC.abs).take k))/\O<=13*k/\Fr No l h2,λ_ _ _ i _=>x.length - i.toNat,⟨0,rfl,ae,BL.nil,ae,Fr.refl _ _⟩,?_⟩;rintro V O oc _ j' ⟨k,rfl,m5,B,m7,T⟩;by_cases h7:k<x.length
 .rw[gH,aK];have⟨s,G⟩:=lP h7;have c7:(x.map SC.abs)[k]? =some s.abs:=by rw[aN,G];rfl
  have vd:=ok.at_ k _ c7;have kl:s.kept.length<=6:=by have:=vd.kl;rwa[show s.abs.kept.length=s.kept.length from aw _]at this
  have nl:s.notes.length<=6:=by have:=vd.nl;rwa[show s.abs.notes.length=s.notes.length from aw _]at this
  have n1:s.num=k+1:=vd.num;have n2:s.token<=2147483648:=vd.tk.2;have kb: ∀a∈s.kept,a.id<=1099511627776/\a.v.b.length<=1000:=λa f=>vd.kd a.abs (bL f);have nb: ∀a∈s.notes,a.b.length<=600:=λa f=>(vd.nd a.b (bL f)).2;have d7:=h8.frame T bC;have j8: ∀{H:aA},Fr No j' H->GU H a6 s:=λv'=>(n' s (aG G)).frame (T.tt v') bC;obtain⟨ab,j9,rfl⟩:=d7.addr ae;have zg:=T.1;have zh:=f1.1;refine⟨⟨by first|trivial|omega,by first|trivial|omega⟩,ar.2 (cB.qq (d7.fa Sr G) (cB.new λb h9 eb n f9=> ?_))⟩;refine⟨_,ai n,_,ai n,_,ai n,_,ai n,_,_,_,ai n,_,_,_,ai n,?_⟩;refine gg.gC λg7 e8 f2 a8 w' b9=>⟨_,rfl,?_⟩;have R':Up h9 f2 g7:=⟨w',b9⟩;have I: ∀{S:gF}{H:aA},Up h9 S H->¬S b:=λi6 hx=>by have:=i6.ge b hx;have:=aD n;omega
  have o:=w'.get n id;refine⟨ai o,ai o,ai o,ai o,ai o,ai o,?_⟩;refine iK a8 bt ae λk6 i9 s' K'=>⟨_,rfl,?_⟩;have r:=K'.fr.get o (I R');have S':=R'.step K';have e1:fx (s.num:Int)=s.num:=by unfold fx;omega
  rw[e1,dj]at s';have l1:=(bw s.num).2;refine⟨ai r,ai r,ai r,ai r,ai r,?_⟩;refine fT s.token s' ae rfl ae λk7 j0 a9 L'=>⟨_,rfl,?_⟩;have z:=L'.fr.get r (I S');have T':=S'.step L';have l2:=(bw s.token).2;refine⟨ai z,ai z,ai z,ai z,?_⟩;refine NY a9 (by rw[aq];omega) λk8 j1 b0 M'=>⟨_,rfl,?_⟩;have Q:=M'.fr.get z (I T');have U':=T'.step M';have l3:=(bw (bit s.up)).2;refine⟨ai Q,ai Q,ai Q,?_⟩;refine NY b0 (by simp only[aq];omega) λk9 j2 b1 O'=>⟨_,rfl,?_⟩;have b':=O'.fr.get Q (I U');have V':=U'.step O';have l4:=(bw (bit s.watch)).2;refine⟨ai b',ai b',?_⟩;refine iK b1 (by simp only[aq];omega) ae λl0 j3 t' P'=>⟨_,rfl,?_⟩;have d':=P'.fr.get b' (I V');have X':=V'.step P';have e5:fx ((s.kept.length:Nat):Int)=s.kept.length:=by unfold fx;omega
  rw[e5]at t';have l5:=(bw s.kept.length).2;refine⟨ai d',ai d',?_⟩;refine iK t' (by simp only[aq];omega) ae λg8 j4 a' Q'=>⟨_,rfl,?_⟩;have e':=Q'.fr.get d' (I X');have Z':=X'.step Q';have e6:fx ((s.notes.length:Nat):Int)=s.notes.length:=by unfold fx;omega
  rw[e6]at a';have l6:=(bw s.notes.length).2;refine⟨ai e',ai e',?_⟩;have eh:bm s.num++bm s.token++bm (bit s.up)++bm (bit s.watch)++bm s.kept.length++bm s.notes.length=mB s.abs:=by unfold mB;rw[show s.abs.kept.length=s.kept.length from aw _,show s.abs.notes.length=s.notes.length from aw _];rfl
  have m6:(mB s.abs).length<=60:=by rw[<-eh];simp only[aq];omega
  rw[eh]at a';refine je a' ae λq D m F' x' c0=>⟨_,_,_,rfl,?_⟩;have f':=x'.get e' id;refine⟨ai f',ai f',?_⟩;have L:Fr No j' m:=f9.tt (Z'.fr.tt x');have z9:=f9.1;have n8:=Z'.fr.1;have o3:=L.1;obtain⟨ys,DB,i1,D',i2,c9,d0,d1⟩:=B;refine cg ?_;have F:Fr No m (m.push (.C #[.slice q (mB s.abs).length D] 32)):=Fr.push _ _;have G':Row (m.push (.C #[.slice q (mB s.abs).length D] 32)) (Sa m.size 0) (ie ⟨q,D,mB s.abs⟩):=jj (cs:=ie ⟨q,D,mB s.abs⟩);have e0:(m.push (.C #[.slice q (mB s.abs).length D] 32)).size=m.size+1:=cI _;generalize m.push (.C #[.slice q (mB s.abs).length D] 32)=l9 at F G' e0⊢;have g':=F.get f' id;refine⟨ai g',ai g',?_⟩;have d6: ∀y,aL V y->y<j'.size:=λy d=>D'.dk d;have d2: ¬aL V b:=λhx=>by have:=d6 b hx;omega
  refine dI tN uN ((D'.frame L bC).frame F bC) G' rfl (λn7 hv=>by simp at hv;subst hv;rfl) ae ae ?_;intro d8 g0 z' d4 _ E y';have C:=E.get g' d2;refine⟨_,_,_,rfl,ai C,ai C,?_⟩;have n9:=E.1;have b5: ∀y,aL q y->g8.size<=y/\y<m.size:=λy d=>⟨c0 y d,F'.dk d⟩;have a5:BL l z' d8 (O+1) g0 (kf ((x.map SC.abs).take k)++ [mB s.abs]):=by refine⟨ys++ [⟨q,D,mB s.abs⟩],λy=>DB y\/aL q y,by rw[aq,i1];rfl,?_,?_,?_,?_,?_⟩;rw[cO];simpa using d4;rw[aS,i2];rfl;intro i7 hx;rcases bP.1 hx with hx|hx;exact((((c9 i7 hx).frame L bC).frame F bC).frame E (λy d=>(d0 y d).2.2)).mono (λy=> .inl);simp at hx;subst hx;exact BV.jK ((F'.frame F bC).frame E (λy d g=>gM (b5 y d) (d6 y g))) (λy=> .inr);grind;intro y d;rcases y' y d with h2|h2;exact d1 y h2;omega
  have a7:Fr No l z':=(T.tt (L.tt F)).step E (λy d g=>bN (d1 y g));have o4:b<z'.size:=aD C;have m4:l.size<=b:=ae
  have d3: ¬aL d8 b:=λg=>(y' b g).elim d2 (λh2=>ae);have Z: ∀{H:aA},Fr No l H->GU H a6 s:=λv'=>(n' s (aG G)).frame v' bC;clear d4 E y' G' e0 F g' f' F' x' c0 a' e' t' d' b1 b' b0 Q a9 z s' r a8 o n Q' P' O' M' L' K' w' b9 R' S' T' U' V' X' Z' b5 D' c9 d0 L f9;refine⟨_,_,_,ai C,?_⟩;refine⟨λJ u U i H=> ∃j:Nat,i=(j:Int)/\j<=s.kept.length/\BL l H J u U (kf ((x.map SC.abs).take k)++ [mB s.abs]++(s.abs.kept.map BY).take j)/\u<=O+1+j/\Fr No l H/\
   cB.at H b (s.num:Int) (s.token:Int) s.up s.watch s.kp s.kept.length s.kc s.np s.notes.length s.nc/\¬aL J b,λ_ _ _ i _=>s.kept.length - i.toNat,⟨0,rfl,ae,dH a5,ae,a7,C,d3⟩,?_⟩
  clear a5 a7 C d3;rintro J u U _ g9 ⟨j,rfl,hj,v,c6,w,h',E'⟩;have i8:=w.1;by_cases m':j<s.kept.length
  .rw[gH,aK];have⟨a,f⟩:=lP m';have H':=(Z w).k;obtain⟨ka,B'⟩:=H'.any ia;rw[B']at H';refine⟨⟨by first|trivial|omega,by first|trivial|omega⟩,?_⟩;rw[B'];have m9:=kb a (aG f);refine ar.2 (bO.qq (H'.fa ia f) (bO.new λb2 h0 k4 k' i'=>⟨_,ai k',_,_,_,ai k',?_⟩));refine gg.gC λh1 e8 f3 f5 b6 g4=>⟨_,rfl,?_⟩;have e2:Up h0 f3 h1:=⟨b6,g4⟩;have u':=b6.get k' id;refine⟨ai u',ai u',?_⟩;refine fT a.id f5 bt rfl ae λh3 j5 b3 d9=>⟨_,rfl,?_⟩;rw[dj]at b3;have a0:=e2.step d9;have f8:=d9.fr.get u' (λhx=>gM (e2.ge b2 hx) (aD k'));refine⟨ai f8,?_⟩;have e9:Fr No l h3:=w.tt (i'.tt a0.fr);have l7:=(bw a.id).2;have J':=((Z e9).kd a (aG f)).row;refine pd b3 ae J' rfl ae (λy d C' hS=> ?_) λm0 j6 f6 i4=>⟨_,rfl,?_⟩;have a1:=(n' s (aG G)).kd a (aG f);have a2:=(c8 y (a1.own C' y d)).2.1;have a3:=a0.ge y hS;have a4:=i'.1;omega;have e3:=a0.step i4;have l8:=(bw a.v.b.length).2;have el:(cX a.v.b).length=(bm a.v.b.length).length+a.v.b.length:=by unfold cX;rw[aq]
   refine je f6 (by rw[aq];omega) λn5 k2 h4 d5 g1 c2=>⟨_,_,_,rfl,?_⟩;have M:Fr No g9 h4:=i'.tt (e3.fr.tt g1);have o0:=M.1;have zu:=(i'.tt e3.fr).1;have er:bm a.id++cX a.v.b=BY a.abs:=rfl;rw[er]at d5⊢;refine(v.on M).push ae d5 (λy d=>⟨bN (c2 y d),λg=>gM (v.lt g) (c2 y d)⟩) ae ?_;intro n3 k0 m1 o' b7 g5;refine⟨_,_,_,rfl,?_⟩;rw[fc];refine⟨⟨j+1,ae,ae,?_,ae,?_,(by rw[<-B'];exact b7.get (M.get h' id) E'),?_⟩,?_⟩;rw[cu]at o';rw[aV,show(s.abs.kept.map BY)[j]? =some (BY a.abs) by show((s.kept.map AV.abs).map BY)[j]? =_;rw[aN,aN,f];rfl];rw[<-cu]at o'⊢;exact o';refine(w.tt M).step b7 (λy d g=> ?_);obtain⟨_,_,_,_,_,_,_,A'⟩:=v;have:=A' y g;omega;intro g;rcases g5 b g with h2|h2;exact E' h2;have:=aD (M.get h' id);omega;show s.kept.length - Int.toNat ((j:Int)+1)<s.kept.length - Int.toNat (j:Int);omega
  .have q2: ¬(j:Int)<(s.kept.length:Int):=ae
   simp only[q2,cU,az,aY];rw[aX (l:=s.abs.kept.map BY) (by rw[aw,show s.abs.kept.length=s.kept.length from aw _];omega)]at v;refine⟨_,_,_,ai h',?_⟩;refine⟨λJ u U i H=> ∃j:Nat,i=(j:Int)/\j<=s.notes.length/\BL l H J u U (kf ((x.map SC.abs).take k)++ [mB s.abs]++s.abs.kept.map BY++(s.abs.notes.map cX).take j)/\u<=O+7+j/\Fr No l H,λ_ _ _ i _=>s.notes.length - i.toNat,⟨0,rfl,ae,dH v,ae,w⟩,?_⟩;clear v w h' E' i8 c6 m' hj q2;rintro J u U _ c4 ⟨j,rfl,hj,K,c6,P⟩;have o1:=P.1;by_cases m':j<s.notes.length
   .rw[gH,aK];have⟨a,f⟩:=lP m';have I':=(Z P).n;obtain⟨ka,c5⟩:=I'.any dZ;rw[c5]at I';refine⟨⟨by first|trivial|omega,by first|trivial|omega⟩,?_⟩;rw[c5];have n0:=nb a (aG f);refine ar.2 ⟨a.p,a.b.length,a.c,?_,?_⟩;have:=(I'.fa dZ f).1;rwa[cj]at this;refine gg.gC λh5 e8 f4 f7 b8 g6=>⟨_,rfl,?_⟩;have e4:Up c4 f4 h5:=⟨b8,g6⟩;have J':=((Z (P.tt b8)).nd a (aG f)).row;refine pd f7 bt J' rfl ae (λy d C' hS=> ?_) λm2 j7 b4 i5=>⟨_,rfl,?_⟩;have a1:=(n' s (aG G)).nd a (aG f);have a2:=(c8 y (a1.own C' y d)).2.1;have a3:=e4.ge y hS;omega;rw[dj]at b4;have e7:=e4.step i5;have l8:=(bw a.b.length).2;have el:(cX a.b).length=(bm a.b.length).length+a.b.length:=by unfold cX;rw[aq]
    refine je b4 ae λn6 k3 h6 i3 g2 c3=>⟨_,_,_,rfl,?_⟩;have r':Fr No c4 h6:=e7.fr.tt g2;have o2:=r'.1;have zu:=e7.fr.1;refine(K.on r').push ae i3 (λy d=>⟨bN (c3 y d),λg=>gM (K.lt g) (c3 y d)⟩) ae ?_;intro n4 k1 m3 q' g3 k5;refine⟨_,_,_,rfl,?_⟩;rw[fc];refine⟨⟨j+1,ae,ae,?_,ae,?_⟩,?_⟩;rw[cu]at q';rw[aV,show(s.abs.notes.map cX)[j]? =some (cX a.b) by show((s.notes.map BV.b).map cX)[j]? =_;rw[aN,aN,f];rfl];rw[<-cu]at q'⊢;exact q';refine(P.tt r').step g3 (λy d g=> ?_);obtain⟨_,_,_,_,_,_,_,A'⟩:=K;have:=A' y g;omega;show s.notes.length - Int.toNat ((j:Int)+1)<s.notes.length - Int.toNat (j:Int);omega
   rw[dz];rw[aX (l:=s.abs.notes.map cX) (by rw[aw,show s.abs.notes.length=s.notes.length from aw _];omega)]at K;rw[fc];refine⟨⟨k+1,ae,ae,?_,ae,P⟩,?_⟩;have e:kf ((x.map SC.abs).take (k+1))=kf ((x.map SC.abs).take k)++ [mB s.abs]++s.abs.kept.map BY++s.abs.notes.map cX:=by unfold kf;rw[aV,c7,cO];simp[LF]
   rw[e];exact K;show x.length - Int.toNat ((k:Int)+1)<x.length - Int.toNat (k:Int);omega
 rw[dz];rw[aX (by rw[aw];omega)]at B;exact hk j' V O oc (B.mono f1.1) (f1.tt T)

end eM
end
section
open Go.fv
namespace gg
variable {h H a:aA} {R:fp} {p q:bZ} {l c:Nat} {b:List (cQ)}
variable {n:Nat}
structure RS where
 p:bZ
 c:Nat
 xs:List BV
abbrev RS.val(t:RS):Value:=.slice t.p t.xs.length t.c
variable {ts:List RS}
def Iw(x:List BV):(x.flatMap ie).length=x.length:=by rw[iH ie 1 dZ,cC]
theorem Ss(s:n<=1000000)(g: ∀P C H,Own H P 0 C 1 []->Fr No h H->(∀y,aL P y->h.size<=y)->R (.L P 0 C) H):
  Cl 83 #[.Z,.I (n:Int)] h R:=by
 refine mA (aB.of λJ j=> ?_);have E:IntKind.wrap .i64 ((n) - (IntKind.wrap .i64 (((0:Nat)) - ((0:Nat)))))=(n):=by rw[show IntKind.wrap .i64 (((0:Nat)) - ((0:Nat)))=0 from rfl,fc];omega
 rw[af (λe=>by grind)];subst j;refine aB.of λm d=> ?_;rw[E];by_cases k:n=0;subst k;subst d;exact g none 0 h (.nil rfl rfl rfl rfl) (Fr.refl _ _) (λy ⟨A,e,_⟩=>by cases e);rw[gH];refine⟨ae,(KC tN cZ ae ae ae λi H o r f=>⟨_,_,_,rfl,ae,?_⟩)⟩;rw[kI];subst d;exact g _ i H o f (λy ⟨A,e,E⟩=>by grind)
def BZ{j:Nat}{t:RS}(d:ts[j]? =some t):(ts.take (j+1)).flatMap RS.xs=(ts.take j).flatMap RS.xs++t.xs:=by rw[aV,d,cO];simp
theorem Ng{A:Addr}{m:Nat}(L:Row h (some A) (ts.map RS.val))(S: ∀t∈ts,Row h t.p (t.xs.flatMap ie))(Q:n=ts.length)(U:ts.length<=1000)(hl:(ts.flatMap RS.xs).length<=1000000)(hk: ∀H P C,Own H P (ts.flatMap RS.xs).length C 1 ((ts.flatMap RS.xs).flatMap ie)->Fr No h H->(∀y,aL P y->h.size<=y)->R (.slice P (ts.flatMap RS.xs).length C) H):
  Cl 47 #[.L (some A) n m] h R:=by
 subst Q;have T: ∀j,((ts.take j).flatMap RS.xs).length<=(ts.flatMap RS.xs).length:=λj=>by
  conv=>rhs;rw[<-fM j ts]
  rw[cO,aq];omega
 have u: ∀{g:aA}{j:Nat}{t:RS},Fr No h g->ts[j]? =some t->aU g (A.add (Int.toNat (j:Int)*1))=some t.val:=λf U=>by rw[aK,cC];exact(L.frame f bC).cell (by grind)
 refine lJ ⟨λsize i g=>g=h/\∃j:Nat,i=(j:Int)/\j<=ts.length/\size=((((ts.take j).flatMap RS.xs).length:Nat):Int),λ_ i _=>ts.length - i.toNat,⟨rfl,0,rfl,bK _,rfl⟩,?_⟩;rintro _ _ g ⟨rfl,j,rfl,M,rfl⟩;by_cases k:j<ts.length;rw[gH];have d:=au k;have E:=bV List.length (BZ d);rw[aq]at E;have Z:=T (j+1);refine aB.of λa' K=>⟨ae,ar.2 ⟨_,_,_,u (Fr.refl _ _) d,aB.of λJ1 w=> ?_⟩⟩;have e:IntKind.wrap .i64 (((((ts.take j).flatMap RS.xs).length:Nat):Int)+((ts[j].xs.length:Nat):Int))=((((ts.take (j+1)).flatMap RS.xs).length:Nat):Int):=by rw[fc];omega
 rw[e]at w⊢;rw[af (λe=>bN (bk e))];subst w;subst K;dsimp only;rw[fc];exact⟨⟨rfl,j+1,ae,ae,rfl⟩,by show ts.length - Int.toNat ((j:Int)+1)<ts.length - Int.toNat (j:Int);omega⟩;rw[af (λe=>by grind)];have z:j=ts.length:=ae
 subst z;rw[dA];refine Ss ae λp4 c4 h4 X B I=>⟨_,_,_,rfl,?_⟩;refine⟨λs r x i G=>Fr No g G/\(∀y,aL s y->g.size<=y)/\∃j:Nat,i=(j:Int)/\j<=ts.length/\r=((ts.take j).flatMap RS.xs).length/\Own G s r x 1 (((ts.take j).flatMap RS.xs).flatMap ie),λ_ _ _ i _=>ts.length - i.toNat,⟨B,I,0,rfl,bK _,rfl,X⟩,?_⟩;rintro s r x i G ⟨F,v,j,rfl,M,rfl,o⟩;by_cases k:j<ts.length;rw[gH];have d:=au k;have E:=bV List.length (BZ d);rw[aq]at E;have Z:=T (j+1);refine⟨ae,ar.2 ⟨_,_,_,u F d,?_⟩⟩;refine dI tN uN o ((S _ (fZ k)).frame F bC) (by rw[Iw,cC]) (Fe _) ae ae λp6 c6 h6 O _ D J=>⟨_,_,_,rfl,?_⟩;rw[<-cO,<-BZ d,<-E]at O;rw[<-E,fc];have b':=F.1;exact⟨⟨F.fresh D v,(λy V=>(J y V).elim (v y) (λh2=>ae)),j+1,ae,ae,rfl,O⟩,by grind⟩;grind
def BL.frame{Q:gF}(j:BL a h p l c b)(f:Fr Q h H)(i: ∀y,a.size<=y->¬Q y):BL a H p l c b:=by have⟨X,D,k,m,o,r,e,g⟩:=j;exact⟨X,D,k,m.frame f (λy d=>i y (g y d)),o,λx s=>(r x s).frame f (λy d=>i y (e y d).1),λy d=>⟨(e y d).1,bX (e y d).2.1 f.1,(e y d).2.2⟩,g⟩
def Um{g g4:aA}{X e f i:List BV}{D j k m:gF}{P o:bZ}{C r:Nat}{d:cQ}{E s t u:List (cQ)}(v: ∀x∈X,x.ok g D)(w: ∀x∈e,x.ok g j)(z: ∀x∈f,x.ok g k)(B: ∀x∈i,x.ok g m)(Q:X.map BV.b=E)(J:e.map BV.b=s)(K:f.map BV.b=t)(M:i.map BV.b=u)(all: ∀y,D y\/j y\/k y\/m y->h.size<=y/\y<g.size)(F:Fr No g H)(T:g.size<=g4.size)(Z:g4.size<=H.size)(U:h.size<=g4.size)(G:Own H P d.length C 1 (bc d))(I: ∀y,aL P y->h.size<=y/\y<g4.size)(S:n=1+(X++(e++(f++i))).length)
  (O:Own H o n r 1 ((⟨P,C,d⟩::(X++(e++(f++i)))).flatMap ie)) (L: ∀y,aL o y->g4.size<=y):BL h H o n r (d::(E++(s++(t++u)))):=by
 subst Q J K M;refine⟨⟨P,C,d⟩::(X++(e++(f++i))),λy=>(D y\/j y\/k y\/m y)\/aL P y,by rw[ba];omega,O,bt,λx hx=> ?_,λy hy=> ?_,λy hy=> ?_⟩;rcases bG.1 hx with rfl|hx;exact BV.jK G (λy hy=> .inr hy);rcases bP.1 hx with hx|hx;exact((v x hx).frame F bC).mono λy A=> .inl (.inl A);rcases bP.1 hx with hx|hx;exact((w x hx).frame F bC).mono λy A=> .inl (.inr (.inl A));rcases bP.1 hx with hx|hx;exact((z x hx).frame F bC).mono λy A=> .inl (.inr (.inr (.inl A)));exact((B x hx).frame F bC).mono λy A=> .inl (.inr (.inr (.inr A)));rcases hy with hy|hy;have:=all y hy;exact⟨ae,ae,λq=>bN (L y q)⟩;have:=I y hy;exact⟨ae,ae,λq=>bN (L y q)⟩;have:=L y hy;omega

end gg
end
section
open Go.fv
namespace dV
open ju (Ev cY mh fW)
open gg
variable {h H:aA} {R:fp} {s k:Nat} {X:Ft} {I:oF} {a:SS} {p:bZ}
variable {e:Ev} {t sq:Nat}
def DN(M:Mk h k e t sq)(l: iG h R (.agg #[.B e.jY,.U e.node,.U e.fK,.S e.host,.S e.jl,.U (t:Int),.U (sq:Int)])):
  Cl 28 #[pt k] h R:=by
 refine uV (ah.box λb n E j f=> ?_);have m:=f.get M id;refine aB.of λJ i=>⟨_,ai m,?_⟩;subst i;dsimp only;refine⟨_,ai m,_,ai m,_,ai m,_,ai m,_,ai m,_,ai m,_,ai m,ah.set j λg A c d=>ah.ld A (l g (f.fresh (Fr.of_eq c d) (λy e=>ae)))⟩
def rL(a:SS):List (cQ):=eM.kf a.A++(a.G.map fE.kC++(gi.iX a.C++gI.iE a.B))
def x4(a:SS):cQ:=cX (fW a.e)++bm a.now++bm a.rf++bm a.tm++bm a.sq++bm (eM.kf a.A).length++bm (a.G.map fE.kC).length++bm (gi.iX a.C).length++bm (gI.iE a.B).length
def Oh{w b:Nat}{S:gF}{T:cQ}{tl a':Nat}{n r:Nat}{K:bZ->dw}(U:Wr h w S [])(c':Row h p (bc T))(ht:tl=T.length)(hl:T.length<=100000000)(z:n<18446744073709551616/\r<=1000000000/\t<18446744073709551616/\sq<18446744073709551616)(hp: ∀y,aL p y->T≠ []->¬S y)(B:Bk h s I n r)(hb:ah.at h b e.jY e.node e.fK e.host e.jl (t:Int) (sq:Int))(nb: ¬S b)(ns: ¬S s)(hk: ∀g d,Wr g w d (cX T++bm n++bm r++bm t++bm sq)->Step S h d g->K (Sa w 0) g):
  Cl 43 #[.P w 0,.L p tl a'] h λd' j=>
   ∃G,d'=.Q G/\
   aU j (AA b 6)=some (.U (sq:Int))/\
   aU j (AA b 5)=some (.U (t:Int))/\
   aU j (AA s 7)=some (.I (r:Int))/\
   aU j (AA s 6)=some (.U (n:Int))/\
   Cl 44 #[.Q G,.U (n:Int)] j λe' o=>
   ∃J,e'=.Q J/\
   aU o (AA b 6)=some (.U (sq:Int))/\
   aU o (AA b 5)=some (.U (t:Int))/\
   aU o (AA s 7)=some (.I (r:Int))/\
   Cl 45 #[.Q J,.I (r:Int)] o λf' x=>
   ∃L,f'=.Q L/\
   aU x (AA b 6)=some (.U (sq:Int))/\
   aU x (AA b 5)=some (.U (t:Int))/\
   Cl 44 #[.Q L,.U (t:Int)] x λg' F=>
   ∃M,g'=.Q M/\
   aU F (AA b 6)=some (.U (sq:Int))/\
   Cl 44 #[.Q M,.U (sq:Int)] F λh' b'=>
   ∃O,h'=.Q O/\K O b':=by
 subst ht;have c: ∀{g d}(i:Nat)(v:Value),Step S h d g->(#[Value.bool e.jY,.U e.node,.U e.fK,.S e.host,.S e.jl,.U (t:Int),.U (sq:Int)])[i]? =some v->aU g (AA b i)=some v:=λi v D A=>D.fr.cell (gm hb A) nb;have C: ∀{g d}(i:Nat)(v:Value),Step S h d g->(#[pt I.t,pt I.r,pt I.c,pt I.o,pt I.p,pt I.k,.U (n:Int),.I (r:Int)])[i]? =some v->aU g (AA s i)=some v:=λi v D A=>D.fr.cell (gm B A) ns;have l0:(cX T).length<=200000000:=by unfold cX;rw[aq];have:=bw T.length;omega
 have ln:=bw n;have lr:=bw r;have lt:=bw t;refine pd U bt c' rfl ae hp λg1 S1 E l=>⟨_,rfl,c _ _ l rfl,c _ _ l rfl,C _ _ l rfl,C _ _ l rfl,?_⟩;rw[dj]at E;refine fT n E ae rfl z.1 λg2 S2 V f=>⟨_,rfl,?_⟩;have f:=l.trans f;refine⟨c _ _ f rfl,c _ _ f rfl,C _ _ f rfl,iK V (by rw[aq];omega) ae λg3 P u m=>⟨_,rfl,?_⟩⟩;have m:=f.trans m;have u:Wr g3 w P (cX T++bm n++bm r):=u;refine⟨c _ _ m rfl,c _ _ m rfl,fT t u (by simp only[aq];omega) rfl z.2.2.1 λg4 S4 Z q=>⟨_,rfl,?_⟩⟩;have q:=m.trans q;refine⟨c _ _ q rfl,fT sq Z (by simp only[aq];omega) rfl z.2.2.2 λg5 Q W5 s5=>⟨_,rfl,hk g5 Q W5 (q.trans s5)⟩⟩
def mz(e':Pt h s X I a)(G:Good a k)(b7:k<=30000)(tb:jS.nE h)(hk: ∀H p' l' c',BL h H p' l' c' (x4 a::rL a)->Fr No h H->R (.L p' l' c') H):
  Cl 9 #[pt s] h R:=by
 refine uT (gh e'.cN ⟨_,rfl,?_⟩);rw[dz];obtain⟨Y,hp,_⟩:=id e';obtain⟨P',_⟩:=hp 5;refine⟨_,ai e'.cN,DN P' λh2 n=>⟨_,_,_,_,_,_,_,rfl,ah.new λT' b4 eb hb U'=>⟨_,ai hb,_,ai hb,_,ai hb,_,ai hb,_,ai hb,?_⟩⟩⟩;have z':=n.tt U';refine ju.qi a.e (tb.on z') G.e.2.2 λU C'=>⟨_,_,rfl,aB.of λO' hJ=> ?_⟩;rw[ag G.e.1]at hJ;have Z:=z'.tt C';have a2:=C'.get hb id;have B: ∀{g},Fr No U g->Bk g s I a.now a.rf:=λf=>f.get (Z.get e'.cN id) id;have Q':=e'.ord;have sm:=G.small Q' ae;have gl:=G.c.L;obtain⟨Lb,a8⟩:=e'.okB;have s0: ∀{g:aA}{K:bZ->Nat->Nat->dw},Fr No U g->(∀b p l c,BL g b p l c (eM.kf a.A)->Fr No g b->K p l c b)->Cl 38 #[pt I.t] g λv b=> ∃p l c,v=.L p l c/\K p l c b:=λf hK=>eM.mz (eM.Has.frame (hp 0) (Z.tt f) bC) G.a λb p l c L f'=>⟨p,l,c,rfl,hK b p l c L f'⟩;have s1: ∀{g:aA}{K:bZ->Nat->Nat->dw},Fr No U g->(∀b p l c,BL g b p l c (a.G.map fE.kC)->Fr No g b->K p l c b)->Cl 39 #[pt I.r] g λv b=> ∃p l c,v=.L p l c/\K p l c b:=λf hK=>fE.mz (fE.Tb.on (hp 1) (Z.tt f)) (bN G.g.len) G.g.all (tb.on (Z.tt f)) λb p l c L f'=>⟨p,l,c,rfl,hK b p l c L f'⟩;have s2: ∀{g:aA}{K:bZ->Nat->Nat->dw},Fr No U g->(∀b p l c,BL g b p l c (gi.iX a.C)->Fr No g b->K p l c b)->Cl 40 #[pt I.c] g λv b=> ∃p l c,v=.L p l c/\K p l c b:=λf hK=>gi.mz (gi.Ct.on (hp 2) (Z.tt f)) sm ae G.c.all (tb.on (Z.tt f)) λb p l c L f'=>⟨p,l,c,rfl,hK b p l c L f'⟩;have s3: ∀{g:aA}{K:bZ->Nat->Nat->dw},Fr No U g->(∀b p l c,BL g b p l c (gI.iE a.B)->Fr No g b->K p l c b)->Cl 41 #[pt I.o] g λv b=> ∃p l c,v=.L p l c/\K p l c b:=λf hK=>gI.mz (gI.CQ.on (hp 3) (Z.tt f)) (bN G.b) λb p l c L f'=>⟨p,l,c,rfl,hK b p l c L f'⟩;have h': ∀{g:aA}{x:Nat}{p1 p2 p3 p4:bZ}{l1 c1 l2 c2 l3 c3 l4 c4:Nat},cP.at g x p1 l1 c1 p2 l2 c2 p3 l3 c3 p4 l4 c4->BL U g p1 l1 c1 (eM.kf a.A)->BL U g p2 l2 c2 (a.G.map fE.kC)->BL U g p3 l3 c3 (gi.iX a.C)->BL U g p4 l4 c4 (gI.iE a.B)->Fr No U g->O' (Sa x 0) g:=by
  intro g x p1 p2 p3 p4 l1 c1 l2 c2 l3 c3 l4 c4 ha L1 L2 J C fg;subst hJ;dsimp only;have k':=fg.get a2 id;have lb:=aD k';have ls:=aD (B fg);refine aB.of λJ1 a0=> ?_;have tl:(fW a.e).length<=100000000:=cD (ju.kM G.e.1 G.e.2.2) ae;have W: ∀{A:aA}{a':Nat}{S:gF},Wr A a' S (cX (fW a.e)++bm a.now++bm a.rf++bm a.tm++bm a.sq)->Fr No g A->(∀y,S y->g.size<=y)->J1 (Sa a' 0) A:=by
   intro A a' S W2 D' gS;subst a0;dsimp only;have a1:=D'.get ha id;obtain⟨q0,q1,q2,q3,_⟩:=cP.held a1;rw[cj]at q0;refine ar.2 ⟨_,_,_,q0,_,_,_,q1,_,_,_,q2,_,_,_,q3,?_⟩;obtain⟨r',D1,rfl,o1,e1,d1,b1,i1⟩:=L1;obtain⟨s',D2,rfl,o2,e2,d2,b2,i2⟩:=L2;obtain⟨t',D3,rfl,o3,e3,d3,b3,i3⟩:=J;obtain⟨u',D4,rfl,o4,e4,d4,A',i4⟩:=C;have n1:=bV List.length e1;have n2:=bV List.length e2;have n3:=bV List.length e3;have n4:=bV List.length e4;rw[aw]at n1 n2 n3 n4;have m1:=eM.tD G.a;have b8:=G.a.le;have m2:=G.g.len;have m3:(gi.iX a.C).length=a.C.L.length+1:=by unfold gi.iX;simp
   have m4:(gI.iE a.B).length=a.B.items.length+1:=by unfold gI.iE;simp
   have b9:=a8.le;rw[aw]at n2;let M:List Nat:= [r'.length,s'.length,t'.length,u'.length]
   have a5:(cX (fW a.e)++bm a.now++bm a.rf++bm a.tm++bm a.sq).length<=1000000000:=by have:=bw a.now;have:=bw a.rf;have:=bw a.tm;have:=bw a.sq;have:=bw (fW a.e).length;simp only[aq,cX];omega
   generalize a4:cX (fW a.e)++bm a.now++bm a.rf++bm a.tm++bm a.sq=g' at W2 a5;have fl: ∀l:List Nat,(l.flatMap bm).length<=10*l.length:=λl=>by
    induction l with
    |nil=>exact bu _
    |cons d' l ih=>rw[fJ,aq,ba];have:=bw d';omega
   refine⟨λx' Q=> ∃(j:Nat)(S':gF),x'=(j:Int)/\j<=4/\Wr Q a' S' (g'++(M.take j).flatMap bm)/\Step S A S' Q,λx' _=>4 - x'.toNat,⟨0,S,rfl,ae,dH W2,Step.refl _ _⟩,?_⟩;rintro _ Q ⟨j,S',rfl,hj,W3,M'⟩;have lj:(g'++(M.take j).flatMap bm).length<=1000000100:=by
    have:=fl (M.take j);rw[bT]at this;rw[aq];have:min j M.length<=4:=ae
    omega
   have one: ∀(d':Nat),M[j]? =some d'->d'<=40000->Cl 45 #[.P a' 0,.I (d':Int)] Q λv F'=> ∃b0,v=.Q b0/\((∃(j':Nat)(S':gF),IntKind.wrap .i64 ((j:Int)+1)=(j':Int)/\j'<=4/\Wr F' a' S' (g'++(M.take j').flatMap bm)/\Step S A S' F')/\4 - (IntKind.wrap .i64 ((j:Int)+1)).toNat<4 - Int.toNat (j:Int)):=by intro d' hn hb;have b6:j<4:=(aJ.1 hn).1;refine iK W3 ae ae λz S4 W4 a9=>⟨_,rfl,?_⟩;have W4:Wr z a' S4 ((g'++(M.take j).flatMap bm)++bm d'):=W4;rw[fc];refine⟨⟨j+1,S4,ae,ae,?_,M'.trans a9⟩,ae⟩;rw[aV,hn,cO,<-cu];simpa using W4
   by_cases a6:j<4;rw[gH];refine⟨ae,λe=> ?_,λe=> ?_,λe=> ?_,λe=> ?_,trivial⟩;obtain rfl:j=0:=ae
   exact one r'.length rfl ae;obtain rfl:j=1:=ae
   exact one s'.length rfl ae;obtain rfl:j=2:=ae
   exact one t'.length rfl ae;obtain rfl:j=3:=ae
   exact one u'.length rfl ae
   .rw[af (λe=>a6 (bN (bk e)))];obtain rfl:j=4:=ae
    clear one;have eh:x4 a=g'++(M.take 4).flatMap bm:=by unfold x4;rw[a4,<-n1,aw,<-n2,<-n3,<-n4];simp[M]
    rw[eh]at hk;generalize g'++(M.take 4).flatMap bm=hd at W3 hk lj;refine ar.2 (je W3 ae λp5 c5 z o5 o i5=>⟨_,_,_,rfl,?_⟩);have E':Fr No g Q:=D'.fresh M'.fr gS;have w':=E'.tt o;let V:List gg.RS:= [⟨p1,c1,r'⟩,⟨p2,c2,s'⟩,⟨p3,c3,t'⟩,⟨p4,c4,u'⟩]
    have et:V.flatMap gg.RS.xs=r'++(s'++(t'++u')):=by simp[V]
    have lt:(V.flatMap gg.RS.xs).length<=40000:=by rw[et];simp only[aq];omega
    have B': ∀{b:aA}{K:fp},Fr No z b->(∀H p' c',Own H p' (V.flatMap gg.RS.xs).length c' 1 ((V.flatMap gg.RS.xs).flatMap ie)->Fr No b H->(∀y,aL p' y->b.size<=y)->K (.slice p' (V.flatMap gg.RS.xs).length c') H)->Cl 47 #[.L (cE (Sa x 0) 4 0 1) (4 - 0) (4 - 0)] b K:=by intro b K f hK;rw[kI];have F:=w'.tt f;refine Ng (ts:=V) (.inr ⟨_,rfl,cP.held (F.get ha id)⟩) (λc0 ht=> ?_) rfl (by show 4<=1000;omega) ae hK;rcases bG.1 ht with rfl|ht;exact o1.hT.frame F bC;rcases bG.1 ht with rfl|ht;exact o2.hT.frame F bC;rcases bG.1 ht with rfl|ht;exact o3.hT.frame F bC;obtain rfl:=bW.1 ht;exact o4.hT.frame F bC
    have done: ∀{b:aA}{b5 cc:Nat}{pc:bZ},Fr No z b->Own b (Sa b5 0) 1 1 1 [.L p5 hd.length c5]->z.size<=b5->Own b pc (V.flatMap gg.RS.xs).length cc 1 ((V.flatMap gg.RS.xs).flatMap ie)->
      bM Tryz.prog (Builtin.append_ #[39,39] 39 #[.L (Sa b5 0) 1 1,.slice pc (V.flatMap gg.RS.xs).length cc]) b λv H=> ∃p l c,v=.L p l c/\R (.L p l c) H:=by
     intro b b5 cc pc f ol K' oc;refine dI tN uN ol oc.hT (by rw[Iw,cC]) (Fe _) ae ae λp' c' H o' _ f' V'=>⟨_,_,_,rfl,?_⟩;have fF:=f.fresh f' (λy ⟨R',e,e2⟩=>by cases e;rw[<-e2];exact K');have F:=w'.tt fF;have lo: ∀y,aL p' y->z.size<=y:=λy hy=>(V' y hy).elim (λ⟨R',e,e2⟩=>by cases e;rw[<-e2];exact K') (λy'=>cD f.1 y');have v':=Z.1;have z3:=E'.1;have z4:=w'.1;have zF:=fF.1;have zg:=fg.1;rw[et]at o'⊢;refine hk H p' _ c' (Um (g4:=z) d1 d2 d3 d4 e1 e2 e3 e4 (λy hy=> ?_) F ae ae ae (o5.frame fF bC) (λy hy=>⟨bN (i5 y hy),o5.dk hy⟩) rfl o' lo) ((Z.tt fg).tt F);rcases hy with hy|hy|hy|hy;exact⟨cD v' (b1 y hy).1,(b1 y hy).2.1⟩;exact⟨cD v' (b2 y hy).1,(b2 y hy).2.1⟩;exact⟨cD v' (b3 y hy).1,(b3 y hy).2.1⟩;exact⟨cD v' (A' y hy).1,(A' y hy).2.1⟩
    have L': ∀(b:aA),Own (b.push (.C #[.L p5 hd.length c5] 32)) (Sa b.size 0) 1 1 1 [.L p5 hd.length c5]:=λb=> .row _ 0 _ _ rfl bR ae bt rfl (λj v hj=>by rw[bj];simpa using hj);refine⟨cg (B' (Fr.push _ _) λE p6 c6 O r i6=>⟨_,_,_,rfl,done ((Fr.push _ _).tt r) ((L' z).frame r bC) (bu _) O⟩),B' (Fr.refl _ _) λT p6 c6 O r i6=>⟨_,_,_,rfl,cg (done (r.tt (Fr.push _ _)) (L' T) r.1 (O.frame (Fr.push (S:=λ_=>False) _ _) bC))⟩,trivial⟩
  have bS: ∀{S:gF},(∀y,S y->g.size<=y)->¬S T'/\¬S s:=λgS=>⟨λe=>bN (gS _ e),λe=>bN (gS _ e)⟩;have nn:a.now<18446744073709551616/\a.rf<=1000000000/\a.tm<18446744073709551616/\a.sq<18446744073709551616:=by have:=G.n;have:=G.t;have:=G.r;omega
  have tx:(str (fW a.e)).data.toList=fW a.e:=rfl;refine⟨_,ai (B fg),_,ai (B fg),_,ai k',_,ai k',?_,?_,trivial⟩;refine gg.gC λX' a' S W6 P i'=>⟨_,rfl,?_⟩;have F6:=fg.tt P;have w:=P.get k' id;refine⟨ai w,ai w,ai (B F6),ai (B F6),UX λp7 c7 Z' r7 ic D n'=>⟨_,_,_,rfl,?_⟩⟩;have F7:=F6.tt D;have b':=D.get w id;refine⟨ai b',ai b',ai (B F7),ai (B F7),Oh (W6.frame D bC) r7 (by rw[tx];rfl) tl nn (λy hy _ hs=>gM (n' y hy) (W6.lt y hs)) (B F7) b' (bS i').1 (bS i').2 λA S2 W2 m'=>W W2 ((P.tt D).fresh m'.fr i') (λy hy=>(m'.new y hy).elim (i' y) (λy'=>gM P.1 D.1))⟩;refine UX λp7 c7 X' r7 ic P i'=>⟨_,_,_,rfl,?_⟩;have F6:=fg.tt P;have w:=P.get k' id;refine⟨ai w,ai w,ai (B F6),ai (B F6),gg.gC λZ' a' S W7 D n'=>⟨_,rfl,?_⟩⟩;have F7:=F6.tt D;have b':=D.get w id;have q': ∀y,S y->g.size<=y:=λy hy=>cD P.1 (n' y hy);refine⟨ai b',ai b',ai (B F7),ai (B F7),Oh W7 (r7.frame D bC) (by rw[tx];rfl) tl nn (λy hy a7 hs=>gM (jd r7 (by rw[tx];intro e;exact a7 (by cases ht:fW a.e with|nil=>rfl|cons=>rw[ht]at e;simp[bc]at e)) hy) (n' y hs)) (B F7) b' (bS q').1 (bS q').2 λA S2 W2 m'=>W W2 ((P.tt D).fresh m'.fr q') (λy hy=>(m'.new y hy).elim (q' y) (λy'=>gM P.1 D.1))⟩
 refine⟨_,ai (B (Fr.refl _ _)),_,ai (B (Fr.refl _ _)),_,ai (B (Fr.refl _ _)),_,ai (B (Fr.refl _ _)),?_,?_,trivial⟩;refine s0 (Fr.refl _ _) λg1 p1 l1 c1 L1 d=>⟨ai (B d),ai (B d),ai (B d),?_,?_,trivial⟩;refine s1 d λA p2 l2 c2 L2 n=>⟨ai (B (d.tt n)),ai (B (d.tt n)),?_,?_,trivial⟩;have q:=d.tt n;refine s2 q λQ p3 l3 c3 J i=>⟨ai (B (q.tt i)),?_,?_,trivial⟩;have u:=q.tt i;refine s3 u λz p4 l4 c4 C m=>cP.new λx T eb a3 o=> ?_;exact h' a3 (L1.on (n.tt (i.tt (m.tt o)))) ((L2.mono d.1).on (i.tt (m.tt o))) ((J.mono q.1).on (m.tt o)) ((C.mono u.1).on o) (u.tt (m.tt o));have u:=q.tt i;refine cP.box λx z eb J' m=>⟨ai (B (u.tt m)),?_⟩;have F4:=u.tt m;refine s3 F4 λT p4 l4 c4 C o=>cP.set (o.get J' id) λE w z6 O=> ?_;have r:Fr (λy=>y=x) T E:=Fr.of_eq z6 O;have T3:Fr No Q E:=(m.tt o).fresh r (λy e=>ae);exact h' w (L1.on (n.tt (i.tt T3))) ((L2.mono d.1).on (i.tt T3)) ((J.mono q.1).on T3) ((C.frame r (λy hy e=>bN (aD J'))).mono F4.1) (u.tt T3);have q:=d.tt n;refine cP.box λx Q eb I' i=>⟨ai (B (q.tt i)),ai (B (q.tt i)),?_⟩;have u:=q.tt i;have lb:=aD I';refine s2 u λz p3 l3 c3 J m=>⟨ai (B (u.tt m)),s3 (u.tt m) λT p4 l4 c4 C o=>cP.set ((m.tt o).get I' id) λE w z6 O=> ?_⟩;have F4:=u.tt m;have r:Fr (λy=>y=x) T E:=Fr.of_eq z6 O;have z4:=m.1;have T2:Fr No A E:=(i.tt (m.tt o)).fresh r (λy e=>ae);exact h' w (L1.on (n.tt T2)) ((L2.mono d.1).on T2) (((J.on o).frame r (λy hy e=>ae)).mono u.1) ((C.frame r (λy hy e=>ae)).mono F4.1) (q.tt T2);refine cP.box λx A eb H' n=>⟨ai (B (d.tt n)),ai (B (d.tt n)),ai (B (d.tt n)),?_⟩;have q:=d.tt n;have lb:=aD H';refine s1 q λQ p2 l2 c2 L2 i=>⟨ai (B (q.tt i)),ai (B (q.tt i)),s2 (q.tt i) λz p3 l3 c3 J m=>⟨ai (B (q.tt (i.tt m))),s3 (q.tt (i.tt m)) λT p4 l4 c4 C o=>cP.set ((i.tt (m.tt o)).get H' id) λE w z6 O=> ?_⟩⟩;have u:=q.tt i;have F4:=u.tt m;have r:Fr (λy=>y=x) T E:=Fr.of_eq z6 O;have z3:=i.1;have z4:=m.1;have T1:Fr No g1 E:=(n.tt (i.tt (m.tt o))).fresh r (λy e=>ae);exact h' w (L1.on T1) (((L2.on (m.tt o)).frame r (λy hy e=>ae)).mono q.1) (((J.on o).frame r (λy hy e=>ae)).mono u.1) ((C.frame r (λy hy e=>ae)).mono F4.1) (d.tt T1);refine cP.box λx g1 eb G' d=>⟨ai (B d),ai (B d),ai (B d),ai (B d),?_⟩;have lb:=aD G';refine s0 d λA p1 l1 c1 L1 n=>⟨ai (B (d.tt n)),ai (B (d.tt n)),ai (B (d.tt n)),s1 (d.tt n) λQ p2 l2 c2 L2 i=>⟨ai (B (d.tt (n.tt i))),ai (B (d.tt (n.tt i))),s2 (d.tt (n.tt i)) λz p3 l3 c3 J m=>⟨ai (B (d.tt (n.tt (i.tt m)))),s3 (d.tt (n.tt (i.tt m))) λT p4 l4 c4 C o=>cP.set ((n.tt (i.tt (m.tt o))).get G' id) λE w z6 O=> ?_⟩⟩⟩;have q:=d.tt n;have u:=q.tt i;have F4:=u.tt m;have r:Fr (λy=>y=x) T E:=Fr.of_eq z6 O;have z2:=n.1;have z3:=i.1;have z4:=m.1;exact h' w (((L1.on (i.tt (m.tt o))).frame r (λy hy e=>ae)).mono d.1) (((L2.on (m.tt o)).frame r (λy hy e=>ae)).mono q.1) (((J.on o).frame r (λy hy e=>ae)).mono u.1) ((C.frame r (λy hy e=>ae)).mono F4.1) ((d.tt (n.tt (i.tt (m.tt o)))).fresh r (λy e=>ae))

end dV
end
section
namespace dV
open ju (Ev cY mh)
variable {h H:aA} {R:fp} {s k:Nat} {X:Ft} {I:oF}
def Nh(x:Ev):Prop:=cY x=true/\x≠Ev.zero
instance (x : Ev) : Decidable (Nh x) := by unfold Nh; infer_instance
def CU(x:Ev)(j:Nh x->∀H b,Mk H b x 0 0->h.size<=b->Fr No h H->R (.T #[pt b,.I 0]) H)(K: ¬Nh x->iG h R (.T #[.Q none,.I 3])):Cl 13 #[mh x] h R:=by
 refine FP (av.box λb l E g F=>aB.of λJ e=>av.ld g (ju.fD x λd f=>⟨_,rfl,?_⟩));have i:=f.get g id;cases c:cY x with
 |false=>subst e;exact K (λm=>by rw[m.1]at c;cases c) d (F.tt f)
 |true=>refine av.ld i ⟨_,ju.zQ (y:=Ev.zero) rfl rfl,?_⟩;subst e;by_cases a:x=Ev.zero;rw[aC a];dsimp only;exact K (λm=>m.2 a) d (F.tt f);rw[aT a];dsimp only;refine av.ld i (cg (j ⟨c,a⟩ _ _ bR (cD F.1 f.1) ((F.tt f).tt (Fr.push _ _))))
theorem gC(x:Ev)(k1:Nh x->∀H s X I,Pt H s X I (GS x)->xX h X H->R (.T #[pt s,.I 0]) H)(k2: ¬Nh x->iG h R (.T #[.Q none,.I 3])):Cl 4 #[mh x] h R:=by
 refine FO (av.box λb' g eb hb l=>av.ld hb (CU x (λq f k M g2 F=>⟨_,_,rfl,?_⟩) (λq f F=>⟨_,_,rfl,?_⟩)))
 .rw[dz];refine oi.gC 4800 1600 (λ_ V p m P g3 c' Q=>⟨_,_,rfl,?_⟩) (λe=>absurd e cW);rw[dz];refine eM.gC λZ t X0 E S u4=>⟨_,rfl,fE.gC λh5 r X1 G u=>⟨_,rfl,gi.gC λh6 c X2 J U=>⟨_,rfl,gI.gC λb o X3 K T u7=>⟨_,rfl,cg ?_⟩⟩⟩⟩;have n:Fr No b (b.push (.C #[.P t 0,.P r 0,.P c 0,.P o 0,.P p 0,.P k 0,.U 0,.I 0] 63)):=Fr.push _ _;have v:(b.push (.C #[.P t 0,.P r 0,.P c 0,.P o 0,.P p 0,.P k 0,.U 0,.I 0] 63))[b.size]? =_:=bR;have z8:(b.push (.C #[.P t 0,.P r 0,.P c 0,.P o 0,.P p 0,.P k 0,.U 0,.I 0] 63)).size=b.size+1:=cI _;generalize b.push (.C #[.P t 0,.P r 0,.P c 0,.P o 0,.P p 0,.P k 0,.U 0,.I 0] 63)=h8 at n v z8⊢;have D:=T.tt n;have C:=U.fr.tt D;have A:=u.fr.tt C;have z:=S.tt A;have w:=Q.tt z;have F8:=l.tt (F.tt w);have z1:=l.1;have z2:=F.1;have z3:=Q.1;have z4:=S.1;have z5:=u.fr.1;have z6:=U.fr.1;have z7:=T.1;have lp:=P.lt;have lk:=aD M;let d:Nat->Ft:=λi=>match i with
   |0=>X0|1=>X1|2=>X2|3=>X3
   |4=>⟨λy=>y=p\/y=m,λ_=>False⟩
   |5=>⟨λy=>y=k,λ_=>False⟩
   |6=>⟨λy=>y=b.size,λ_=>False⟩
   |_=>⟨λ_=>False,λ_=>False⟩
  let L:Nat->Nat:=λi=> [V.size,Z.size,h5.size,h6.size,f.size,g.size].getD i b.size
  let hi:Nat->Nat:=λi=> [Z.size,h5.size,h6.size,b.size,V.size,f.size].getD i h8.size
  have B: ∀i y,In (d i) y->L i<=y/\y<hi i:=λi y hy=>by rcases i with _|_|_|_|_|_|_|i;exact⟨u4 y hy,E.lt y hy⟩;exact⟨u.ge y hy,G.lt y hy⟩;exact⟨U.ge y hy,J.lt y hy⟩;exact⟨u7 y hy,K.lt y hy⟩;rcases hy with hy|hy;grind;exact hy.elim;rcases hy with hy|hy;have hy:y=k:=hy;exact⟨hy▸g2,hy▸lk⟩;exact hy.elim;rcases hy with hy|hy;grind;exact hy.elim;rcases hy with hy|hy<;>exact hy.elim
  refine k1 q h8 b.size ⟨λy=> ∃i,(d i).M y,λy=> ∃i,(d i).D y⟩ ⟨t,r,c,o,p,k⟩ ⟨d,λi=> ?_,λi j y a' hy hz=> ?_,λ_=>eV,λ_=>eV⟩ ⟨F8,λy hy=> ?_⟩;rcases i with _|_|_|_|_|_|_|i;exact E.frame A bC;exact G.on C;exact J.on D;exact gI.CQ.on ⟨[],K,gI.okB.nil⟩ n;exact⟨m,P.frame z id id,λy=>⟨eV,id⟩⟩;exact⟨w.get M id,λy=>⟨eV,id⟩⟩;exact⟨v,λy=>⟨eV,id⟩⟩;exact λy hy=>hy.elim id id
  .have g:=B i y hy;have f:=B j y hz;have O: ∀i,¬In (d (i+7)) y:=λi hy=>hy.elim id id;rcases i with _|_|_|_|_|_|_|i<;>first|exact O i hy|(rcases j with _|_|_|_|_|_|_|j<;>first|exact O j hz|exact a' rfl|(simp only[L,hi,List.getD_cons_zero,List.getD_cons_succ,List.getD_nil]at g f;omega))
  have key: ∀i,In (d i) y->h.size<=y:=λi a=>by have g:=(B i y a).1;rcases i with _|_|_|_|_|_|_|i<;>(simp only[L,List.getD_cons_zero,List.getD_cons_succ,List.getD_nil]at g;omega)
  rcases hy with⟨i,a⟩|⟨i,a⟩;exact key i (.inl a);exact key i (.inr a)
 rw[gH];exact k2 q f (l.tt F)

end dV
end
section
variable {h:aA} {R:fp}
variable {s o:Nat} {a:cf.S}
def FQ{n:Int}{l:Int}(H:R (.U (if 1099511627776<wrap .u64 (n+l)then 1099511627776 else wrap .u64 (n+l))) h):Cl 263 #[.U n,.U l] h R:=aP [] H
def GV{S:av.S} (M:aW h (.C S.arr 29) λb A=>ah.NW A λc F=>ah.NW F λd r=>Hp r s 5 λV=>Cl 28 #[.Q V] r λh' I=>ah.EX λv=>h'=v.agg/\ah.NW I λB K=>ah.dv K (AA B 0) v λu=>av.cJ u (AA B 0) λX=>Cl 13 #[X.agg] u λi' H=> ∃t T,i'=.T #[.Q t,.I T]/\ite (T !=0) (ah.dv H (AA c 0) ah.S.z λL=>ah.dv L (AA d 0) ah.S.z λk=>ah.cJ k (AA c 0) λO=>ah.cJ k (AA d 0) λQ=>R (.T #[O.agg,Q.agg,.I T]) k) (aB (λ(Z:Bool) i=>aB (λm=>Hu m s 6 λc'=>Cl 317 #[.Q t,.U c'] m λj' C=>ah.EX λy=> ∃z,j'=.T #[y.agg,.I z]/\ah.NW C λe D=>ah.dv D (AA e 0) y λn=>ah.cJ n (AA e 0) λd'=>ah.NW n λg E=>ah.dv E (AA g 0) d' λp=>av.cJ p (AA b 0) λe'=>av.dv p (AA g 0) e' λf=>ah.cJ f (AA g 0) λf'=>ah.cJ f (AA e 0) λg'=>ah.dv f (AA c 0) f' λq=>Kp f q [(Sa e 0)]/\ah.dv q (AA d 0) g' λj=>ah.cJ j (AA c 0) λP=>ah.cJ j (AA d 0) λU=>R (.T #[P.agg,U.agg,.I z]) j) (λl=>ite Z (ah.cJ i (AA B 0) λa'=>Cl 29 #[.Q t,a'.agg] i λk' G=> ∃b',k'=.I b'/\l G) (l i))) (λJ=> ∃w,Cc H B 5 (.U w)/\ite (decide (w>0)) (J true H) (∃x,Cc H B 6 (.U x)/\J (decide (x>0)) H)))):Cl 258 #[.P s 0,S.agg] h R:=aP [(16,.join [(35,sB)]),(17,.join []),(27,λ_=>pK 6)] M
def yV{b:ak.S}{O:ah.S} (w:aW h (.C a.arr 242) λB q=>aW q (.C b.arr 73) λf r=>aW r (.C O.arr 68) λp g=>ak.cJ g (AA f 0) λx=>Cl 20 #[x.agg] g λv H=> ∃k t j T,v=.T #[.L k t j,.I T]/\ite (T !=0) (R (.T #[.I 0,.I 0,.I T]) H) (Hp H B 19 λy=>Hi H B 20 λz=>Hp H B 19 λC=>aH C λA=>gZ H (A.add 6) λD=>Hu H f 19 λE=>Cl 263 #[.U D,.U E] H λV d=> ∃l,V=.U l/\Kp H d [(Sa B 19),(Sa B 20),(Sa B 19)]/\Cl 318 #[.Q y,.I z,.L k t j,.U l] d λL c=> ∃m e,L=.T #[.I m,.I e]/\Kp d c [(Sa B 19)]/\aB (λu=>R (.T #[.I m,.I ((t:Nat):Int),.I e]) u) (λJ=>ite (e==0) (Hp c B 19 λF=>aH F λn=>AN c (n.add 5) λG=>ah.cJ c (AA p 0) λI=>Cl 29 #[.Q G,I.agg] c λM i=> ∃K,M=.I K/\Kp c i [(Sa B 19)]/\J i) (J c)))):Cl 259 #[a.agg,b.agg,O.agg] h R:=aP [(13,λ_=>pK 20),(17,.join []),(18,λ_=>pK 7)] w
def xN(M:aW h (.C a.arr 242) λb H=>aB (λ(r:bZ) (O:Bool) c=>ite (!O) (R (.I 4) c) (aH r λI=>kU c (I.add 6) λP=> ∃G,Cc c b 20 (.I G)/\ite (P !=G) (R (.I 13) c) (R (.I 0) c))) (λJ=>Hp H b 19 λQ=>aH Q λA=>AN H (A.add 1) λt=>av.cJ H (AA b 2) λT=>(Cl 200 #[.Q t,T.agg] H λv d=> ∃j l n q w y C E,v=.T #[.agg #[.B j,.U l,.U n,.S q,.S w,.I y,.I C],.B E]/\Kp H d [(Sa b 19)]/\aW d (.C #[.B false,.U 0,.U 0,.S (⟨#[]⟩:cF),.S (⟨#[]⟩:cF),.I 0,.I 0] 173) λB g=>Kp d g [(Sa b 19)]/\bg.ST g (AA B 0) j l n q w y C λK=>J (Sa B 0) E K)/\(aW H (.C #[.B false,.U 0,.U 0,.S (⟨#[]⟩:cF),.S (⟨#[]⟩:cF),.I 0,.I 0] 173) λf e=>Kp H e [(Sa b 2),(some (A.add 1)),(Sa b 19)]/\Cl 200 #[.Q t,T.agg] e λV i=> ∃k m p u x z D F,V=.T #[.agg #[.B k,.U m,.U p,.S u,.S x,.I z,.I D],.B F]/\Kp e i [(Sa b 19)]/\bg.ST i (AA f 0) k m p u x z D λL=>J (Sa f 0) F L)/\True)):Cl 188 #[a.agg] h R:=aP [(3,.join [(3,sP),(4,sB)]),(3,λ_=> .ob (gB 8 0 (.alts (.fork 8 (gB 6 9 .done) (.fork 12 (gB 4 8 (lO [13,14] .done)) .hO)))))] M
def xO (I:aW h (.C a.arr 242) λb l=>cf.cJ l (AA b 0) λK=>Cl 188 #[K.agg] l λa' f=> ∃g,a'=.I g/\ite (g !=0) (R (.I g) f) (Hp f b 19 λL=>av.cJ f (AA b 2) λM=>Cl 258 #[.Q L,M.agg] f λb' C=>ah.EX λp=>ah.EX λq=> ∃i,b'=.T #[p.agg,q.agg,.I i]/\ah.NW C λj D=>ah.NW D λk E=>ah.dv E (AA j 0) p λF=>ah.dv F (AA k 0) q λH=>ite (i !=0) (R (.I i) H) (av.cJ H (AA b 7) λd=>ah.cJ H (AA j 0) λT=>Hu H b 16 λO=>aE.NW H λB G=>aE.dv G (AA B 0) ⟨0,0,d.f0,d.f1,d.f2,d.f3,d.f4,false,0,0,(⟨#[]⟩:cF),(⟨#[]⟩:cF),T.f0,T.f1,T.f2,T.f3,T.f4,T.f5,T.f6,O⟩ λc=>Hb c b 18 λP=>aB (λe=>cf.cJ e (AA b 0) λS=>aE.cJ e (AA B 0) λt=>Hl e b 15 λX V U=>aW e (.C #[.U 1,.U 1,.U 0,.I 0,.L X V U] 134) λw m=>ah.cJ m (AA k 0) λZ=>Cl 259 #[S.agg,.agg #[.U t.f0,.I t.f1,.B t.f2,.U t.f3,.U t.f4,.S t.f5,.S t.f6,.B t.f7,.U t.f8,.U t.f9,.S t.f10,.S t.f11,.B t.f12,.U t.f13,.U t.f14,.S t.f15,.S t.f16,.U t.f17,.U t.f18,.U t.f19,.L (Sa w 0) 1 1],Z.agg] m λc' x=> ∃r u v,c'=.T #[.I r,.I u,.I v]/\aO x (AA o 2) (.I r) λy=>aO y (AA o 3) (.I u) λz=>R (.I v) z) (λJ=>ite P (av.cJ c (AA b 2) λQ=>aO c (AA B 0) (.U 131072) λn=>Kp c n [(Sa b 2)]/\av.dv n (AA B 7) Q λA=>J A) (J c))))):Cl 185 #[a.agg,.P o 0] h R:=aP [(27,.join []),(28,λ_=>pK 7)] I
def xP (hv:aW h (.C a.arr 242) λb C=>cf.cJ C (AA b 0) λg'=>Cl 188 #[g'.agg] C λu' H=> ∃t,u'=.I t/\ite (t !=0) (R (.I t) H) (aB (λ(c:bZ) (e:Int) m=>ite (e !=0) (R (.I e) m) (aH c λZ=>lW m (Z.add 6) λl' k' j'=>Cl 136 #[.L l' k' j'] m λv' e'=>ak.EX λV=> ∃m',v'=.T #[V.agg,.I m']/\ak.NW e' λB f'=>ak.dv f' (AA B 0) V λf=>aH c λv=>kU f v λn'=>ak.cJ f (AA B 0) λo'=>aH c λg=>lW f (g.add 6) λt' s' r'=>Cl 264 #[o'.agg] f λw' n=> ∃q' X p',w'=.L q' X p'/\Kp f n [(some (g.add 6)),(some v)]/\aO n (AA o 2) (.I n') λp=>Kp n p [(some (g.add 6))]/\aO p (AA o 3) (.I ((X:Nat):Int)) λG=>Kp p G [(some (g.add 6))]/\aO G (AA o 5) (.L t' s' r') λa'=>R (.I 0) a')) (λJ=>Hp H b 19 λh'=>aH h' λA=>AN H (A.add 2) λT=>av.cJ H (AA b 2) λq=>Hi H b 20 λr=>Hp H b 19 λi'=>aH i' λw=>gZ H (w.add 6) λI=>Hi H b 14 λK=>(Cl 263 #[.U I,.U (wrap .u64 K)] H λx' d=> ∃u,x'=.U u/\Kp H d [(Sa b 14),(Sa b 19),(Sa b 20),(Sa b 2),(some (A.add 2)),(Sa b 19)]/\(Cl 262 #[.Q T,q.agg,.I r,.U u] d λy' i=>aQ.EX λM=> ∃Q,y'=.T #[M.agg,.I Q]/\Kp d i [(Sa b 14),(Sa b 19),(Sa b 19)]/\aQ.NW i λx D=>Kp i D [(Sa b 14),(Sa b 19),(Sa b 19)]/\aQ.dv D (AA x 0) M λb'=>J (Sa x 0) Q b')/\(aQ.NW d λy j=>Kp d j [(Sa b 14),(Sa b 19),(Sa b 20),(Sa b 2),(some (A.add 2)),(Sa b 19)]/\Cl 262 #[.Q T,q.agg,.I r,.U u] j λz' E=>aQ.EX λO=> ∃S,z'=.T #[O.agg,.I S]/\Kp j E [(Sa b 14),(Sa b 19),(Sa b 19)]/\aQ.dv E (AA y 0) O λc'=>J (Sa y 0) S c')/\True)/\(aQ.NW H λz k=>Kp H k [(Sa b 14),(some (w.add 6)),(Sa b 19),(Sa b 20),(Sa b 2),(some (A.add 2)),(Sa b 19)]/\Cl 263 #[.U I,.U (wrap .u64 K)] k λA' l=> ∃L,A'=.U L/\Kp k l [(Sa b 14),(Sa b 19),(Sa b 20),(Sa b 2),(some (A.add 2)),(Sa b 19)]/\Cl 262 #[.Q T,q.agg,.I r,.U L] l λB' F=>aQ.EX λP=> ∃U,B'=.T #[P.agg,.I U]/\Kp l F [(Sa b 14),(Sa b 19),(Sa b 19)]/\aQ.dv F (AA z 0) P λd'=>J (Sa z 0) U d')/\True))):Cl 189 #[a.agg,.P o 0] h R:=aP [(13,.join [(6,sP),(7,sI)]),(13,λ_=> .ob (gB 19 0 (.alts (.fork 19 (.alts (.fork 20 (gB 6 21 .done) (.fork 24 (gB 4 20 (lO [25,26] .done)) .hO))) (.fork 24 (gB 5 19 (lO [25,26] .done)) .hO))))),(25,λ_=> .ob (gB 6 0 (lO [8,9,6,7] (gB 9 10 .done))))] hv
def xQ{A':bZ}{z' y':Nat} (hv:aW h (.C a.arr 242) λb e0=>Cl 136 #[.L A' z' y'] e0 λi2 e3=>ak.EX λS'=> ∃h2,i2=.T #[S'.agg,.I h2]/\ak.NW e3 λh' e8=>ak.dv e8 (AA h' 0) S' λJ'=>aE.cJ J' (AA h' 0) λh3=>aE.NW J' λB f8=>aE.dv f8 (AA B 0) h3 λE=>aB (λ(h4:Bool) g=>ite h4 (R (.I 0) g) (aB (λ(id:bZ) (h0:bZ) (e:Int) H=>ite (e !=0) (R (.I 0) H) (aB (λ(d9:Int) (h1:bZ) y=>ite (d9 !=0) (R (.I 0) y) (cf.cJ y (AA b 0) λh7=>aH h1 λd6=>ak.cJ y d6 λh8=>aH h0 λd7=>ah.cJ y d7 λh9=>Cl 259 #[h7.agg,h8.agg,h9.agg] y λi3 B'=> ∃i0 i1 d5,i3=.T #[.I i0,.I i1,.I d5]/\ite (d5 !=0) (R (.I 0) B') (R (.I 1) B'))) (λg'=>Hp H b 19 λh6=>aH h6 λA=>gZ H (A.add 6) λc7=>ah.cJ H (AA B 12) λT=>av.cJ H (AA B 7) λc8=>aH id λd8=>ah.cJ H d8 λc9=>Hu H B 19 λd0=>(Cl 320 #[.agg #[.B false,.B true,.B false,.U 0,.U c7,.B T.f0,.U T.f1,.U T.f2,.S T.f3,.S T.f4,.U T.f5,.U T.f6],c8.agg,c9.agg,.U d0] H λj4 F=>ak.EX λd1=> ∃d3,j4=.T #[d1.agg,.I d3]/\Kp H F [(Sa B 12),(some (A.add 6)),(Sa b 19)]/\ak.NW F λs' C'=>Kp F C' [(Sa B 12),(some (A.add 6)),(Sa b 19)]/\ak.dv C' (AA s' 0) d1 λe1=>g' d3 (Sa s' 0) e1)/\(ak.NW H λt' G=>Kp H G [(Sa B 19),id,(Sa B 7),(Sa B 12),(some (A.add 6)),(Sa b 19)]/\Cl 320 #[.agg #[.B false,.B true,.B false,.U 0,.U c7,.B T.f0,.U T.f1,.U T.f2,.S T.f3,.S T.f4,.U T.f5,.U T.f6],c8.agg,c9.agg,.U d0] G λj5 D'=>ak.EX λd2=> ∃d4,j5=.T #[d2.agg,.I d4]/\Kp G D' [(Sa B 12),(some (A.add 6)),(Sa b 19)]/\ak.dv D' (AA t' 0) d2 λe2=>g' d4 (Sa t' 0) e2)/\True))) (λJ=>Hp g b 19 λc=>Hp g b 19 λh5=>aH h5 λn=>AN g (n.add 5) λz=>(Cl 28 #[.Q z] g λj6 i=>ah.EX λt=>j6=t.agg/\Kp g i [(Sa b 19),(Sa b 19)]/\(Cl 258 #[.Q c,.agg #[.B t.f0,.U t.f1,.U t.f2,.S t.f3,.S t.f4]] i λj7 p=>ah.EX λc'=>ah.EX λd'=> ∃e',j7=.T #[c'.agg,d'.agg,.I e']/\Kp i p [(Sa b 19)]/\(ah.NW p λu' I=>Kp p I [(Sa b 19)]/\ah.NW I λv' E'=>Kp I E' [(Sa b 19)]/\ah.dv E' (AA u' 0) c' λe4=>ah.dv e4 (AA v' 0) d' λe5=>J (Sa u' 0) (Sa v' 0) e' e5)/\(ah.NW p λw' K=>Kp p K [(Sa b 19)]/\ah.NW K λx' F'=>Kp K F' [(Sa b 19)]/\ah.dv F' (AA x' 0) c' λe6=>ah.dv e6 (AA w' 0) d' λe7=>J (Sa x' 0) (Sa w' 0) e' e7)/\True)/\(ah.NW i λD q=>Kp i q [(Sa b 19),(Sa b 19)]/\(Cl 258 #[.Q c,.agg #[.B t.f0,.U t.f1,.U t.f2,.S t.f3,.S t.f4]] q λj8 L=>ah.EX λV'=>ah.EX λa7=> ∃b7,j8=.T #[V'.agg,a7.agg,.I b7]/\Kp q L [(Sa b 19)]/\ah.NW L λi' G'=>Kp L G' [(Sa b 19)]/\ah.dv G' (AA D 0) V' λe9=>ah.dv e9 (AA i' 0) a7 λf0=>J (Sa D 0) (Sa i' 0) b7 f0)/\(ah.NW q λj' M=>Kp q M [(Sa b 19),(Sa b 19)]/\Cl 258 #[.Q c,.agg #[.B t.f0,.U t.f1,.U t.f2,.S t.f3,.S t.f4]] M λj9 H'=>ah.EX λZ'=>ah.EX λa9=> ∃b9,j9=.T #[Z'.agg,a9.agg,.I b9]/\Kp M H' [(Sa b 19)]/\ah.dv H' (AA D 0) Z' λf1=>ah.dv f1 (AA j' 0) a9 λf2=>J (Sa D 0) (Sa j' 0) b9 f2)/\True)/\(ah.NW i λC r=>Kp i r [(Sa b 19),(Sa b 19)]/\(Cl 258 #[.Q c,.agg #[.B t.f0,.U t.f1,.U t.f2,.S t.f3,.S t.f4]] r λk0 O=>ah.EX λa0=>ah.EX λb0=> ∃c0,k0=.T #[a0.agg,b0.agg,.I c0]/\Kp r O [(Sa b 19)]/\ah.NW O λk' I'=>Kp O I' [(Sa b 19)]/\ah.dv I' (AA k' 0) a0 λf3=>ah.dv f3 (AA C 0) b0 λf4=>J (Sa k' 0) (Sa C 0) c0 f4)/\(ah.NW r λl' P=>Kp r P [(Sa b 19),(Sa b 19)]/\Cl 258 #[.Q c,.agg #[.B t.f0,.U t.f1,.U t.f2,.S t.f3,.S t.f4]] P λk1 K'=>ah.EX λa1=>ah.EX λb1=> ∃c1,k1=.T #[a1.agg,b1.agg,.I c1]/\Kp P K' [(Sa b 19)]/\ah.dv K' (AA l' 0) a1 λf5=>ah.dv f5 (AA C 0) b1 λf6=>J (Sa l' 0) (Sa C 0) c1 f6)/\True)/\True)/\(ah.NW g λj u=>Kp g u [(some (n.add 5)),(Sa b 19),(Sa b 19)]/\(Cl 28 #[.Q z] u λi4 v=>ah.EX λd=>i4=d.agg/\Kp u v [(Sa b 19),(Sa b 19)]/\(Cl 258 #[.Q c,.agg #[.B d.f0,.U d.f1,.U d.f2,.S d.f3,.S d.f4]] v λi5 Q=>ah.EX λa2=>ah.EX λb2=> ∃c2,i5=.T #[a2.agg,b2.agg,.I c2]/\Kp v Q [(Sa b 19)]/\ah.NW Q λm' L'=>Kp Q L' [(Sa b 19)]/\ah.dv L' (AA j 0) a2 λf7=>ah.dv f7 (AA m' 0) b2 λf9=>J (Sa j 0) (Sa m' 0) c2 f9)/\(ah.NW v λn' S=>Kp v S [(Sa b 19),(Sa b 19)]/\Cl 258 #[.Q c,.agg #[.B d.f0,.U d.f1,.U d.f2,.S d.f3,.S d.f4]] S λi6 M'=>ah.EX λa3=>ah.EX λb3=> ∃c3,i6=.T #[a3.agg,b3.agg,.I c3]/\Kp S M' [(Sa b 19)]/\ah.dv M' (AA j 0) a3 λg0=>ah.dv g0 (AA n' 0) b3 λg1=>J (Sa j 0) (Sa n' 0) c3 g1)/\True)/\(ah.NW u λo' U=>Kp u U [(some (n.add 5)),(Sa b 19),(Sa b 19)]/\Cl 28 #[.Q z] U λi7 V=>ah.EX λl=>i7=l.agg/\Kp U V [(Sa b 19),(Sa b 19)]/\Cl 258 #[.Q c,.agg #[.B l.f0,.U l.f1,.U l.f2,.S l.f3,.S l.f4]] V λi8 O'=>ah.EX λa4=>ah.EX λb4=> ∃c4,i8=.T #[a4.agg,b4.agg,.I c4]/\Kp V O' [(Sa b 19)]/\ah.dv O' (AA j 0) a4 λg2=>ah.dv g2 (AA o' 0) b4 λg3=>J (Sa j 0) (Sa o' 0) c4 g3)/\True)/\(ah.NW g λk w=>Kp g w [(some (n.add 5)),(Sa b 19),(Sa b 19)]/\(Cl 28 #[.Q z] w λi9 x=>ah.EX λf=>i9=f.agg/\Kp w x [(Sa b 19),(Sa b 19)]/\(Cl 258 #[.Q c,.agg #[.B f.f0,.U f.f1,.U f.f2,.S f.f3,.S f.f4]] x λj0 X=>ah.EX λa5=>ah.EX λb5=> ∃c5,j0=.T #[a5.agg,b5.agg,.I c5]/\Kp x X [(Sa b 19)]/\ah.NW X λp' P'=>Kp X P' [(Sa b 19)]/\ah.dv P' (AA p' 0) a5 λg4=>ah.dv g4 (AA k 0) b5 λg5=>J (Sa p' 0) (Sa k 0) c5 g5)/\(ah.NW x λq' Z=>Kp x Z [(Sa b 19),(Sa b 19)]/\Cl 258 #[.Q c,.agg #[.B f.f0,.U f.f1,.U f.f2,.S f.f3,.S f.f4]] Z λj1 Q'=>ah.EX λa6=>ah.EX λb6=> ∃c6,j1=.T #[a6.agg,b6.agg,.I c6]/\Kp Z Q' [(Sa b 19)]/\ah.dv Q' (AA q' 0) a6 λg6=>ah.dv g6 (AA k 0) b6 λg7=>J (Sa q' 0) (Sa k 0) c6 g7)/\True)/\(ah.NW w λr' a'=>Kp w a' [(some (n.add 5)),(Sa b 19),(Sa b 19)]/\Cl 28 #[.Q z] a' λj2 b'=>ah.EX λm=>j2=m.agg/\Kp a' b' [(Sa b 19),(Sa b 19)]/\Cl 258 #[.Q c,.agg #[.B m.f0,.U m.f1,.U m.f2,.S m.f3,.S m.f4]] b' λj3 R'=>ah.EX λX'=>ah.EX λa8=> ∃b8,j3=.T #[X'.agg,a8.agg,.I b8]/\Kp b' R' [(Sa b 19)]/\ah.dv R' (AA r' 0) X' λg8=>ah.dv g8 (AA k 0) a8 λg9=>J (Sa r' 0) (Sa k 0) b8 g9)/\True)/\True))) (λf'=> ∃T',Cc E B 0 (.U T')/\ite ((wrap .u64 ((pG T' &&& pG 131072).toNat:Int))==0) (f' true E) (∃U',Cc E B 0 (.U U')/\f' ((wrap .u64 ((pG U' &&& pG 2).toNat:Int)) !=0) E))):Cl 269 #[a.agg,.L A' z' y'] h R:=aP [(8,.join [(31,sB)]),(15,.join [(8,sP),(9,sP),(10,sI)]),(15,λ_=> .ob (gB 7 0 (.alts (.fork 7 (.op 8 (.alts (.fork 9 (gB 4 10 (.alts (.fork 14 (gB 4 15 .done) (.fork 15 (.op 14 (gB 3 16 .done)) .hO)))) (.fork 14 (.alts (.fork 9 (gB 4 10 (gB 4 15 .done)) (.fork 15 (gB 5 9 (gB 3 16 .done)) .hO))) (.fork 15 (.alts (.fork 9 (gB 5 10 (gB 3 16 .done)) (.fork 14 (gB 5 9 (gB 3 16 .done)) .hO))) .hO))))) (.fork 14 (.alts (.fork 7 (.op 8 (.alts (.fork 9 (gB 4 10 (gB 4 15 .done)) (.fork 15 (gB 5 9 (gB 3 16 .done)) .hO)))) (.fork 15 (gB 7 7 (gB 3 16 .done)) .hO))) (.fork 15 (.alts (.fork 7 (.op 8 (.alts (.fork 9 (gB 5 10 (gB 3 16 .done)) (.fork 14 (gB 5 9 (gB 3 16 .done)) .hO)))) (.fork 14 (gB 7 7 (gB 3 16 .done)) .hO))) .hO)))))),(25,.join [(10,sI),(11,sP)]),(25,λ_=> .ob (gB 13 0 (.alts (.fork 13 (gB 6 14 .done) (.fork 17 (gB 4 13 (lO [18,19] .done)) .hO)))))] hv
def jb{c:bZ}{S e:Nat}{f:Nat} (d: ∃(I:kj)(m:kG),I 0 h/\∀t H,I t H->ite (decide (t<(S:Int))) (Bd t S/\aH c λa=>aQ.cJ H (a.add (toNat t*10)) λg=>Cl 268 #[g.agg,.P f 0] H λv b=> ∃T,v=.B T/\ite T (R (.I t) b) ((I (wrap .i64 (t+1)) b/\m (wrap .i64 (t+1)) b<m t H))) (R (.I (-1)) H)):Cl 267 #[.L c S e,.func (.func 268) #[] #[.P f 0]] h R:=aP [(6,.loop [(8,sI)])] d
def yW (r:aW h (.C a.arr 242) λb d=>Hp d b 19 λI=>aH I λA=>AN d (A.add 2) λu=>Cl 265 #[.Q u] d λv H=>Vl v λi g w=>Hp H b 19 λx=>aH x λl=>AN H (l.add 2) λy=>Hi H b 13 λz=>Hi H b 20 λB=>Cl 266 #[.Q y,.I z,.I B] H λV e=> ∃t,V=.I t/\Kp H e [(Sa b 19)]/\Cl 267 #[.L i g w,.func (.func 268) #[] #[.P b 0]] e λK f=>Vi K λT=>aB (λ(C:Bool) c=>aB (λn=>R (.I t) n) (λj=>ite C (cf.cJ c (AA b 0) λD=>Bd T g/\aH i λm=>lW c ((m.add (toNat T*10)).add 6) λG F E=>Cl 269 #[D.agg,.L G F E] c λL p=> ∃k,L=.I k/\aO p (AA o 3) (.I k) λq=>j q) (j c))) (λJ=>ite (t==0) (J (decide (T≥0)) f) (J false f))):Cl 190 #[a.agg,.P o 0] h R:=aP [(5,λ_=>pK 12),(10,.join [(33,sB)]),(11,.join []),(12,λ_=>pK 11)] r
def wM{c:aQ.S}{C:Nat}(d:aW h (.C c.arr 229) λb H=>Hi H b 0 λT=> ∃t,Cc H C 13 (.I t)/\R (.B (T==t)) H):Cl 268 #[c.agg,.P C 0] h R:=aP [] d
def wN(p:aW h (.C a.arr 242) λb c=>Hp c b 19 λz=>aH z λA=>AN c A λq=>Hi c b 20 λr=>Hb c b 18 λu=>Cl 271 #[.Q q,.I r,.B u] c λv H=> ∃t,v=.I t/\Kp c H [(Sa b 19)]/\aB (λ(e:Int) l=>R (.I e) l) (λJ=>ite (t==0) (Hp H b 19 λw=>aH w λk=>AN H k λx=>Hi H b 20 λy=>Cl 272 #[.Q x,.I y] H λV d=> ∃g f T i j,V=.T #[.L g f T,.I i,.I j]/\Kp H d [(Sa b 19)]/\aO d (AA o 5) (.L g f T) λm=>aO m (AA o 3) (.I i) λn=>J j n) (J t H))):Cl 192 #[a.agg,.P o 0] h R:=aP [(3,λ_=>pK 12),(7,.join [(5,sI)]),(8,λ_=>pK 21)] p
def AE (Q:aW h (.C a.arr 242) λb H=> ∃t,Cc H b 1 (.I t)/\ite (t==1) (Hp H b 19 λa'=>aH a' λA=>AN H (A.add 1) λe'=>av.cJ H (AA b 2) λT=>Hi H b 12 λf'=>Hi H b 20 λg'=>Cl 109 #[.Q e',.agg #[.B T.f0,.U T.f1,.U T.f2,.S T.f3,.S T.f4,.I f',.I g']] H λC' i=> ∃r,C'=.I r/\Kp H i [(Sa b 20),(Sa b 12),(Sa b 2),(Sa b 19)]/\R (.I r) i) (ite (t==2) (Hp H b 19 λh'=>aH h' λz=>AN H (z.add 1) λi'=>av.cJ H (AA b 2) λj'=>Hi H b 20 λk'=>Cl 182 #[.Q i',j'.agg,.I k'] H λD' c=> ∃d,D'=.I d/\Kp H c [(Sa b 19)]/\aB (λL=>R (.I d) L) (λJ=>ite (d==0) (Hp c b 19 λl'=>aH l' λB=>AN c (B.add 2) λm'=>av.cJ c (AA b 2) λn'=>Cl 183 #[.Q m',n'.agg] c λG' j=> ∃p' u o',G'=.L p' u o'/\Kp c j [(Sa b 19)]/\aO j (AA o 3) (.I ((u:Nat):Int)) λM=>J M) (J c))) (ite (t==3) (Hp H b 19 λq'=>aH q' λC=>AN H (C.add 1) λr'=>av.cJ H (AA b 2) λs'=>Hi H b 20 λt'=>Hi H b 12 λu'=>Cl 184 #[.Q r',s'.agg,.I t',.I u'] H λH' k=> ∃v,H'=.I v/\Kp H k [(Sa b 19)]/\R (.I v) k) (ite (t==4) (cf.cJ H (AA b 0) λv'=>Cl 185 #[v'.agg,.P o 0] H λI' O=> ∃w,I'=.I w/\R (.I w) O) (ite (t==5) (Hp H b 19 λw'=>Hi H b 13 λx'=>Hi H b 20 λy'=>Cl 186 #[.Q w',.I x',.I y'] H λJ' P=> ∃x,J'=.I x/\R (.I x) P) (ite (t==6) (Hp H b 19 λz'=>aH z' λD=>AN H (D.add 2) λA'=>av.cJ H (AA b 2) λB'=>Cl 187 #[.Q A',B'.agg] H λK' e=> ∃y,K'=.I y/\Kp H e [(Sa b 19)]/\aO e (AA o 2) (.I y) λf=>cf.cJ f (AA b 0) λS=>Cl 188 #[S.agg] f λL' F=> ∃l,L'=.I l/\R (.I l) F) (ite (t==7) (cf.cJ H (AA b 0) λU=>Cl 189 #[U.agg,.P o 0] H λM' G=> ∃m,M'=.I m/\R (.I m) G) (ite (t==8) (cf.cJ H (AA b 0) λV=>Cl 190 #[V.agg,.P o 0] H λO' I=> ∃n,O'=.I n/\R (.I n) I) (ite (t==9) (Hp H b 19 λX=>aH X λE=>AN H (E.add 2) λZ=>Hi H b 13 λb'=>Hi H b 20 λc'=>Cl 191 #[.Q Z,.I b',.I c'] H λE' g=> ∃p,E'=.I p/\Kp H g [(Sa b 19)]/\R (.I p) g) (ite (t==10) (cf.cJ H (AA b 0) λd'=>Cl 192 #[d'.agg,.P o 0] H λF' K=> ∃q,F'=.I q/\R (.I q) K) (R (.I 3) H))))))))))):Cl 133 #[a.agg,.P o 0] h R:=aP [(10,λ_=>pK 16),(16,λ_=>pK 12),(20,.join []),(21,λ_=>pK 14),(30,λ_=>pK 15),(48,λ_=>pK 13),(68,λ_=>pK 12)] Q
def LH{S:Int}{r:aI.S} (hv:aW h (.C r.arr 34) λb f'=>aj.NW f' λB H=>aB (λ(B':Bool) e=>ite B' (Hu e b 0 λC'=>Cl 52 #[.U C',.I 6] e λK' m'=>aj.EX λQ=>K'=Q.agg/\aj.dv m' (AA B 0) Q λz=>aj.cJ z (AA B 0) λr0=>R (r0.agg) z) (aB (λ(D':Bool) f=>ite D' (Hu f b 0 λF'=>Cl 52 #[.U F',.I 3] f λL' n'=>aj.EX λX=>L'=X.agg/\aj.dv n' (AA B 0) X λA=>aj.cJ A (AA B 0) λo'=>R (o'.agg) A) (Hp f s 0 λG'=>Cl 130 #[.Q G',.I S] f λO' d=> ∃Z,O'=.B Z/\ite (!Z) (Hu d b 0 λH'=>Cl 52 #[.U H',.I 16] d λP' g'=>aj.EX λa'=>P'=a'.agg/\aj.dv g' (AA B 0) a' λp=>aj.cJ p (AA B 0) λp'=>R (p'.agg) p) (Hp d s 0 λI'=>Hu d b 0 λJ'=>Cl 131 #[.Q I',.I S,.U J'] d λQ' g=> ∃d' c' b' e',Q'=.T #[.L d' c' b',.B e']/\ite e' (Cl 132 #[.L d' c' b'] g λR' h'=>aj.EX λT=> ∃s',R'=.T #[T.agg,.I s']/\aj.NW h' λn i'=>aj.dv i' (AA n 0) T λq=>aj.cJ q (AA n 0) λt'=>aj.dv q (AA B 0) t' λu=>aj.cJ u (AA B 0) λq'=>R (q'.agg) u) (Hu g b 0 λu'=>aj.NW g λc j'=>aj.dv j' (AA c 0) ⟨u',0,0,0,0,none,0,0⟩ λv=>aI.cJ v (AA b 0) λt=>Cl 133 #[.agg #[.U t.f0,.I t.f1,.B t.f2,.U t.f3,.U t.f4,.S t.f5,.S t.f6,.B t.f7,.U t.f8,.U t.f9,.S t.f10,.S t.f11,.I t.f12,.I t.f13,.I t.f14,.L t.TD t.TE t.TF,.U t.f16,.U t.f17,.B t.f18,.P s 0,.I S],.P c 0] v λS' i=>Vi S' λC=>aB (λw=>aj.cJ w (AA c 0) λw'=>Cl 134 #[w'.agg] w λT' j=> ∃G F E x',T'=.T #[.L G F E,.I x']/\Hp j s 0 λy'=>Hu j b 0 λz'=>Cl 135 #[.Q y',.I S,.U z',.L G F E] j λU' x=>Vi U' λ_=>aj.cJ x (AA c 0) λA'=>aj.dv x (AA B 0) A' λy=>aj.cJ y (AA B 0) λr'=>R (r'.agg) y) (λm=>ite (C !=0) (Hu i b 0 λv'=>Cl 52 #[.U v',.I C] i λV' k'=>aj.EX λD=>V'=D.agg/\aj.dv k' (AA c 0) D λl'=>m l') (m i)))))) (λl=>aI.cJ e (AA b 0) λE'=>Cl 121 #[E'.agg] e λM' k=> ∃U,M'=.B U/\ite (!U) (l true k) (∃V,Cc k b 1 (.I V)/\l (decide (V≥11)) k)))) (λJ=> ∃I,Cc H s 0 (.Q I)/\ite I.isNone (J true H) (∃K,Cc H s 1 (.Q K)/\ite K.isNone (J true H) (∃L,Cc H s 2 (.Q L)/\ite L.isNone (J true H) (∃M,Cc H s 3 (.Q M)/\ite M.isNone (J true H) (∃O,Cc H s 4 (.Q O)/\ite O.isNone (J true H) (∃P,Cc H s 5 (.Q P)/\J P.isNone H))))))):Cl 93 #[.P s 0,.I S,r.agg] h R:=aP [(5,.join [(15,sB)]),(11,.join [(63,sB)]),(25,λ_=>pK 13),(42,.join []),(48,λ_=>pK 9)] hv
def Dw(d:av.NW h λb c=>av.dv c (AA b 0) ⟨true,7,0,(⟨#[]⟩:cF),(⟨#[]⟩:cF)⟩ λH=>av.cJ H (AA b 0) λr=>R (r.agg) H):Cl 5 #[] h R:=aP [] d

end
section
namespace Ask
open ju (Ev cY)
open dV (SS Good Pt oF Mk)
open Bn (jP iJ jx EW Jf)
variable {h H:aA} {R:fp} {s k m:Nat} {X:Ft} {I:oF} {a:SS} {e:Ev} {t sq:Nat}
variable {K:aA->Prop}
def LI(n l:Nat)(c:n<=2^40)(d:l<=2^40)(b:R (.U (pB n l:Int)) h):Cl 263 #[.U (n:Int),.U (l:Int)] h R:=by
 refine FQ ?_;rw[vx];have:(if(1099511627776)<(n)+(l:Int)then 1099511627776 else(n)+(l:Int))=(pB n l):=by unfold pB;split<;>omega
 rw[this];exact b
theorem Su(M:Mk h m e t sq)(n:Nat)(hn:n<=1099511627776)(hs:sq<=1099511627776)(U:t<n->∀H,Mk H m e n 0->Fr (λy=>y=m) h H->R (.T #[(⟨e,n,0⟩:jP).s.agg,.I 0]) H)(V: ¬t<n->sq<1099511627776->∀H,Mk H m e t (sq+1)->Fr (λy=>y=m) h H->R (.T #[(⟨e,t,sq+1⟩:jP).s.agg,.I 0]) H)(Z: ¬t<n->1099511627776<=sq->iG h R (.T #[jP.zero.s.agg,.I 5])):Cl 317 #[pt m,.U (n:Int)] h R:=by
 refine ur (ah.cV λb D eb r F=>aB.of λa' G=>aB.of λJ1 L=> ?_);have c:=F.get M id;have zm:=aD M;have u:b≠m:=ae
 refine⟨_,ai c,?_⟩;subst L;refine aB.of λJ2 O=> ?_;rw[dz];refine aB.of λJ3 P=> ?_;rw[dz];refine⟨_,ai c,aB.of λJ Q=> ?_⟩;have fin: ∀g (T q:Nat),Mk g m e T q->Fr (λy=>y=m) D g->(∀H,Mk H m e T q->Fr (λy=>y=m) h H->R (.T #[(⟨e,T,q⟩:jP).s.agg,.I 0]) H)->J g:=by intro g T q o p S;subst Q;subst P;subst O;subst G;refine EW ⟨e,T,q⟩ o rfl rfl rfl rfl rfl rfl rfl (Jf ⟨e,T,q⟩ (p.get r u) λl f=>S l (f.get o (λe=>u e.symm)) ((Fr.no F p).trans f bC (λb' hc e=>ae)))
 by_cases C:t<n;rw[gH];refine bf c bt λj A d i=>bf A bt λE B w x=>(fin E n 0 B ((Fr.of_eq d i).tt (Fr.of_eq w x)) (U C));rw[af (by grind)];refine⟨_,ai c,?_⟩;by_cases z:1099511627776<=sq;rw[ag (by simp only[bn];omega)];exact Jf .zero r λl f=>Z C z l (F.fresh f (λy e=>ae));rw[dz];refine⟨_,ai c,?_⟩;rw[vx];refine bf c bt λj A d i=> ?_;have v:Mk j m e t (sq+1):=by unfold Mk;exact A
 exact fin j t (sq+1) v (Fr.of_eq d i) (V C ae)
theorem An(A b:jP)(p:A.tm<b.tm\/A.tm=b.tm/\A.sq<b.sq)(d: iG h R (.B true)):Cl 65 #[A.s.agg,b.s.agg] h R:=by refine Bm (ah.cV λB o E i F=>ah.cV λl j n c f=>⟨_,ai (f.get i id),_,ai c,?_⟩);have g:=f.get i id;have d:=d j (F.tt f);by_cases C:A.tm=b.tm;rw[af (by grind)];refine⟨_,ai g,_,ai c,?_⟩;rw[ag (by grind)];refine⟨_,ai g,_,ai c,?_⟩;rw[aC (by grind)];exact d;rw[ag (by grind)];refine⟨_,ai g,_,ai c,?_⟩;rw[aC (by grind)];exact d
def Yk(M:Mk h m e t sq)(x:jP)(i:x.e=e)(j: ∀H,Mk H m e x.tm x.sq->Fr (λy=>y=m) h H->K H):ah.dv h (AA m 0) x.s K:=by subst i;exact(show dG (AA m 0) x.s.l 0 h K from mN M bt rfl rfl λf d D b=>j f d (Fr.of_eq D λc g=>b c g))
def FR(M:Mk h m e t sq)(x:jP)(l:x.e=e)(w:iJ x=true)(v:t<x.tm\/t=x.tm/\sq<x.sq)(u: ∀H,Mk H m e x.tm x.sq->Fr (λy=>y=m) h H->R (.I 0) H):Cl 29 #[pt m,x.s.agg] h R:=by refine uu (ah.cV λb A E j i=>aB.of λJ q=> ?_);have g:=i.get M id;refine⟨_,ai g,?_⟩;subst q;dsimp only;rw[dz];refine aB.of λz r=>ah.fX j (Bn.xf x λB f=>⟨_,rfl,?_⟩);have c:=f.get g id;have d:=f.get j id;rw[w,dz];refine jx x.e d rfl rfl rfl rfl rfl (jx e c rfl rfl rfl rfl rfl ⟨_,ju.zQ rfl rfl,?_⟩);subst r;dsimp only;rw[aC l,dz];refine EW ⟨e,t,sq⟩ c rfl rfl rfl rfl rfl rfl rfl (ah.fX d (An ⟨e,t,sq⟩ x v λC F=>⟨_,rfl,?_⟩));rw[dz];exact ah.fX (F.get d id) (Yk (F.get c id) x l λp n o=>u p n (Fr.no (i.tt (f.tt F)) o))
def Pt.mk'(b:Pt h s X I a):Mk h I.k a.e a.tm a.sq:=by have⟨y,c,_⟩:=b;exact(c 5).1
def WW{b:Nat}{y:jP}(x:Ev)(i:ah.fR h b y.s)(l: ∀H,ah.fR H b (⟨x,y.tm,y.sq⟩:jP).s->Fr (λy=>y=b) h H->K H):av.dv h (AA b 0) x.s K:=
 (show dG (AA b 0) x.s.l 0 h K from mN i bt rfl rfl λg d D f=>l g d (Fr.of_eq D λc j=>f c j))
theorem oD(l':Pt h s X I a)(G:dV.Good a k)(S:Ev)(P: ∀n,ua a=some n->iG h R (.T #[(⟨S,n.1,n.2⟩:jP).s.agg,(⟨a.e,n.1,n.2⟩:jP).s.agg,.I 0]))(k2:ua a=none->iG h R (.T #[(⟨S,0,0⟩:jP).s.agg,jP.zero.s.agg,.I 5])):Cl 258 #[pt s,S.s.agg] h R:=by
 refine GV (av.cV λp' h1 eb hb Z=>ah.cV λb h2 I' o A=>ah.cV λu E J' z' i=> ?_);have T:=Z.tt (A.tt i);have r:=l'.on T;have z1:=Z.1;have z2:=A.1;have z3:=i.1;refine⟨_,ai r.cN,dV.DN (Pt.mk' r) λh4 f4=>ah.ex (⟨a.e,a.tm,a.sq⟩:jP).s ⟨rfl,ah.gw (x:=(⟨a.e,a.tm,a.sq⟩:jP).s) λb3 h6 K' i' f6=> ?_⟩⟩;have z4:=f4.1;refine jx a.e i' rfl rfl rfl rfl rfl (dV.CU a.e (λhm J m U g7 D=>⟨_,_,rfl,?_⟩) (λhm=>absurd ⟨G.e.1,G.e.2.1⟩ hm));rw[dz];have k':=f4.tt (f6.tt D);have M:=D.get i' id;have z6:=f6.1;have z7:=D.1;have tail: ∀(g:aA)(x:jP)(q:Int),Fr No E g->(∀g',Fr No h g'->R (.T #[(⟨S,x.tm,x.sq⟩:jP).s.agg,x.s.agg,.I q]) g')->
   aW g (.C ah.S.z.arr 68) λB x'=>
   ah.dv x' (AA B 0) x.s λe'=>
   ah.cJ e' (AA B 0) λE'=>
   aW e' (.C ah.S.z.arr 68) λw y'=>
   ah.dv y' (AA w 0) E' λf'=>
   av.cJ f' (AA p' 0) λF'=>
   av.dv f' (AA w 0) F' λl=>
   ah.cJ l (AA w 0) λG'=>
   ah.cJ l (AA B 0) λH'=>
   ah.dv l (AA b 0) G' λh'=>
   Kp l h' [(Sa B 0)]/\
   ah.dv h' (AA u 0) H' λL=>
   ah.cJ L (AA b 0) λC'=>
   ah.cJ L (AA u 0) λD'=>
   R (.T #[C'.agg,D'.agg,.I q]) L:=by
  intro g x q j hk;refine ah.gw (x:=x.s) λb4 O' L' O a'=>ah.fX O (ah.gw (x:=x.s) λb5 P' M' A' b'=> ?_);have Q:=j.tt (a'.tt b');have zg:=j.1;have T':=a'.1;have R':b≠b4:=by have:=aD o;omega
  have S':b≠b5:=by have:=aD o;omega
  have j':u≠b:=by have:=aD o;omega
  refine jx S (Q.get ((A.tt i).get hb id) id) rfl rfl rfl rfl rfl (WW S A' λt' B' c'=>ah.fX (x:=(⟨S,x.tm,x.sq⟩:jP).s) B' (ah.fX (x:=x.s) (c'.get (b'.get O id) (bN (aD O))) ?_));have p:Fr No E t':=Q.fresh c' (λy e=>ae);refine ah.iB (x:=(⟨S,x.tm,x.sq⟩:jP).s) (p.get (i.get o id) id) λQ' q' z _=>⟨Bn.XX z (by simp;omega),ah.iB (x:=x.s) (z.get (p.get z' id) j') λu' r' d' _=>ah.fX (x:=(⟨S,x.tm,x.sq⟩:jP).s) (d'.get q' j'.symm) (ah.fX (x:=x.s) r' (hk u' ?_))⟩;exact((T.tt p).fresh z (λy e=>ae)).fresh d' (λy e=>ae)
 refine aB.of λm' hJ=> ?_;have key: ∀v,(v=true↔0<a.tm\/0<a.sq)->m' v J:=by
  intro v hv;subst hJ;dsimp only;refine aB.of λJ1 w'=> ?_;have fin: ∀g,Mk g m a.e a.tm a.sq->Fr (λy=>y=m) J g->J1 g:=by intro g Mg j;subst w';have F:Fr No E g:=k'.fresh j (λy e=>ae);have Hg:=r.on F;unfold ua at P k2;refine⟨_,ai Hg.cN,Su Mg a.now G.n G.t.2 (λC d n' f=> ?_) (λC V d n' f=> ?_) (λC V d f=> ?_)⟩;exact ah.ex (⟨a.e,a.now,0⟩:jP).s ⟨_,rfl,tail d ⟨a.e,a.now,0⟩ 0 (F.fresh f (λy e=>ae)) (P (a.now,0) (ag C))⟩;exact ah.ex (⟨a.e,a.tm,a.sq+1⟩:jP).s ⟨_,rfl,tail d ⟨a.e,a.tm,a.sq+1⟩ 0 (F.fresh f (λy e=>ae)) (P (a.tm,a.sq+1) ((af C).trans (dz)))⟩;exact ah.ex jP.zero.s ⟨_,rfl,tail d .zero 5 (F.tt f) (k2 ((af C).trans (ag V)))⟩
  cases v with
  |true=>
   rw[ag rfl];have hr:iJ ⟨a.e,a.tm,a.sq⟩=true:=by unfold iJ;rw[G.e.1,aC G.t.1,aC G.t.2];rfl
   exact ah.fX (x:=(⟨a.e,a.tm,a.sq⟩:jP).s) M (FR U ⟨a.e,a.tm,a.sq⟩ rfl hr (by have:=hv.1 rfl;show 0<a.tm\/0=a.tm/\0<a.sq;omega) λv' o' s'=>⟨_,rfl,fin v' o' s'⟩)
  |false=>
   rw[dz];have c: ¬(0<a.tm\/0<a.sq):=λc=>by have:=hv.2 c;cases this
   have e1:a.tm=0:=ae
   have e2:a.sq=0:=ae
   exact fin J (by rw[e1,e2];exact U) (Fr.refl _ _)
 refine⟨_,ai M,?_⟩;by_cases c:0<a.tm;grind;rw[af (by simp only[bn];show¬((a.tm:Nat):Int)>0;omega)];refine⟨_,ai M,key _ ⟨λe=> .inr (by have e:((a.sq:Nat):Int)>0:=bk e;omega),λe=>aC (by show((a.sq:Nat):Int)>0;omega)⟩⟩

end Ask
end
section
namespace dV
open gI (It IV iC iL)
open ju (Ev cY mh)
variable {h H:aA} {R:fp} {s k:Nat} {X:Ft} {I:oF} {a:SS} {p:bZ}
variable {n o num:Int} {x:It} {b:Nat}
def Pt.Vd{O:Int}(g:Pt h s X I a)(v:tX a.Q)(f:wJ a.Q x.owner x.d.length=true)(r:n=(x.d.length:Int))(t:O=x.owner)(q: ∀H c,Pt H s c I { a with Q:=a.Q++ [x] } ->bp X h c H->R (.I 0) H):Cl 33 #[pt I.p,.I O,.I n] h R:=by
 subst t;subst r;obtain⟨Z,⟨m,P,on⟩,w,z,go⟩:=g.use 4;refine oi.Ap P v _ _ (λ_ H d F=> ?_) (λe=>by unfold wJ at f;rw[f]at e;cases e);rw[N7,show xp a.Q+(x.d.length:Int)=xp (x::a.Q) by rw[jA];omega]at d;obtain⟨c,j,S,_,_⟩:=go H Z { a with Q:=a.Q++ [x] } ⟨m,Pu.perm d (eJ _ _).symm,on⟩ (bp.zJ (F.mono λy _ u=>(on y).1.2 u)) (λi l=>M0 _ l);exact q H c j S
theorem BD{B:cQ}{l c:Nat}(t:Nat)(hn:n=(t:Int))(i:Pt h s X I a)(G:Good a k)(d':k<=30000)(hr:Row h p (bc B))(hl:l=B.length)(hb:B.length<=1000000)(d: ∀H v,Pt H s v I (Dv a o B t)->bp X h v H->R (.T #[.I (Sq a o B t),.I (JC a o B t)]) H):
  Cl 318 #[pt s,.I o,.L p l c,.U n] h R:=by
 subst hn;subst hl;refine wL (gh i.cN ⟨_,rfl,?_⟩);rw[dz];have⟨Z,u⟩:=i.box;refine aB.of λc' V=>⟨_,ai i.cN,gI.wF u λh2 p2 l2 c2 L F=>⟨_,_,_,rfl,?_⟩⟩;have ln:=L.len;have m:=i.on F;have no:a.B.items.length≥16\/wJ a.Q o B.length=false->∀g,Fr No h g->R (.T #[.I 0,.I 15]) g:=λc g f=>by have O:JC a o B t=15:=ag c;have Q:Sq a o B t=0:=ag c;have T:Dv a o B t=a:=dz;rw[O,Q,T]at d;exact d g X (i.on f) (bp.iw f)
 by_cases y:a.B.items.length≥16;grind;rw[af (λe=>y (by grind))];obtain⟨Z4,⟨m4,P,f'⟩,_⟩:=m.use 4;refine⟨_,ai m.cN,oi.T0 P G.ok o _ ⟨_,rfl,?_⟩⟩;subst V;cases hf:wJ a.Q o B.length with
 |false=>grind
 |true=>
  rw[af (show¬(!wJ a.Q o B.length)=true by grind)];have D: ¬(a.B.items.length≥16\/wJ a.Q o B.length=false):=λc=>c.elim y (λe=>by grind);have E:JC a o B t=gI.jQ a.B o B t:=af D;have U:Sq a o B t=gI.Fz a.B o B t:=af D;obtain⟨Z,u,zm,zd,go⟩:=m.use 3;refine⟨_,ai m.cN,gI.BK t rfl u (hr.frame F bC) rfl hb (bN G.b) λz M J s3=>⟨_,_,rfl,?_⟩⟩;obtain⟨K,q,a',_,_⟩:=go z M { a with B:=gI.Lj a.B o B t } J s3 (λe' hi=>Jv _ hi);have S:=bp.no F a';refine aB.of λJ2 C=> ?_;rw[E,U]at d;unfold Dv at d;rw[E]at d;by_cases r:gI.jQ a.B o B t=0
  .rw[ag r]at d;rw[ag (by grind)];refine⟨_,ai q.cN,q.Vd (x:=⟨a.B.next,o,B,t⟩) G.ok hf rfl rfl λA w j b'=>⟨_,rfl,?_⟩⟩;subst C;refine d A w ?_ (S.trans b');have e:gI.Lj a.B o B t= { a.B with items:=a.B.items++ [⟨a.B.next,o,B,t⟩],next:=a.B.next+1 } :=ag r;rw[e]at j⊢;have j:Pt A s w I { a with B:= { a.B with items:=a.B.items++ [⟨a.B.next,o,B,t⟩],next:=a.B.next+1 },Q:=a.Q++ [⟨a.B.next,o,B,t⟩] } :=j;rw[G.q]at j;exact j
  rw[af r]at d;rw[af (by grind)];subst C;refine d z K ?_ S;have e:gI.Lj a.B o B t=a.B:=af r;rw[e]at q;exact q
def Ni(x:IV)(hid:gI.HT h b num)(e: iG h R (.B (decide ((x.num:Int)=num)))):Cl 261 #[x.agg,.P b 0] h R:=by refine pR (aF.box λB c E d f=>⟨_,ai d,_,ai (f.get hid id),(e c f)⟩)
def PX(c:List IV)(num:Int):idxOf (λx:IV=>decide ((x.num:Int)=num)) c=gI.yJ (c.map IV.abs) num:=by unfold idxOf gI.yJ gI.Fj;rw[List.findIdx?_map];rfl
def wk{c:List IV}{n m:Nat}(w:Row h p (c.flatMap iC))(u:n=c.length)(r:c.length<=1000000000)(hid:gI.HT h b num)(l: iG h R (.I (gI.yJ (c.map IV.abs) num))):
  Cl 177 #[.L p n m,.func (.func 261) #[] #[.P b 0]] h R:=by
 refine iO (qL (λx=>decide ((x.num)=num)) (λt g K=>((0)<=t/\t<((n:Nat)))/\aH p λA=>aF.LD g (A.add (Int.toNat t*4)) λT y z B C D=>Cl 261 #[.agg #[.I T,.I y,.L z B C,.U D],.P b 0] g λv G=> ∃q,v=.B q/\K q G) u r (λk g x K e f j=> ?_) (λg f=>by rw[PX];exact l g f));have lt:=(aJ.1 e).1;have d:=w.frame f bC;obtain⟨A,rfl⟩:=d.any iL;exact⟨ae,ar.2 (aF.qq (by exact d.fa iL e) (Ni x (f.get hid id) λi F=>⟨_,rfl,j i (f.tt F)⟩))⟩
def Fk{l:List It}{i:Nat}(g:(l.map It.num).Pairwise (· < ·))(c:l[i]? =some x):l.Perm (x::gI.wm l (x.num:Int)):=by
 rw[<-gI.rj g c];have⟨d,f⟩:=aJ.1 c;have e:l=l.take i++x::l.drop (i+1):=by rw[<-f,<-cG d,fM]
 exact(List.Perm.of_eq e).trans List.perm_middle
theorem BM(q:Pt h s X I a)(G:Good a k)(l':k<=30000)(c: ∀H P,Pt H s P I (Ip a num o)->bp X h P H->R (.I (gI.qk a.B num o)) H):Cl 186 #[pt s,.I num,.I o] h R:=by
 refine rJ (cg ?_);have F:Fr No h (h.push (.C #[.I num] 3)):=Fr.push _ _;have a':gI.HT (h.push (.C #[.I num] 3)) h.size num:=bR;generalize h.push (.C #[.I num] 3)=h1 at F a'⊢;have r:=q.on F;obtain⟨Z0,i'⟩:=r.box;obtain⟨L,B⟩:=q.okB;refine gh r.cN ⟨_,rfl,?_⟩;rw[dz];refine⟨_,ai r.cN,gI.wF i' λh2 p2 l2 C L2 t=>⟨_,_,_,rfl,?_⟩⟩;have J:=r.on t;have b':=t.get a' id;obtain⟨f,j',rfl,ox,ax,m',hD,g'⟩:=L2;obtain⟨Z,hz,zm,zd,go⟩:=J.use 3;refine⟨_,ai J.cN,_,ai b',gI.BM hz (bN G.b) λU Z3 B3 S=>⟨_,rfl,?_⟩⟩;obtain⟨Q,H3,c',_,_⟩:=go U Z3 { a with B:=gI.pn a.B num o } B3 S (λi hi=>Jv _ hi);have z1:=F.1;have z2:=t.1;have zl: ∀y,Z.M y->y<h.size:=λy m=>q.lt y (.inl (zm y m));have ln:f.length=a.B.items.length:=by grind
 have e':gI.HT U h.size num:=S.fr.get b' (λv=>bN (zl _ v));have o3:=ox.frame S.fr (λy m v=>by grind);have le:=B.le;refine wk o3.hT rfl ae e' λV z=> ?_;have D:=bp.no (F.tt t) (c'.on z);have j:=H3.on z;have O:=o3.frame z bC;rw[ax];refine⟨_,rfl,aB.of λk' d=> ?_⟩;cases u:gI.Fj a.B.items num with
 |none=>
  have e:gI.qk a.B num o=4:=by unfold gI.qk;rw[u]
  have E:gI.pn a.B num o=a.B:=af (by rw[e];decide);unfold Ip at c;rw[e,E,<-G.q]at c;rw[e]at d⊢;rw[dz];subst d;refine aB.of λM l=> ?_;rw[dz];subst l;rw[E]at j;exact c V Q j D
 |some i=>
  obtain⟨x,w,f'⟩:=gI.Fl u;have ev:gI.yJ a.B.items num=(i:Int):=by unfold gI.yJ;rw[u]
  rw[ev]at d⊢;have e:gI.qk a.B num o=if x.owner=o then 0 else 13:=by unfold gI.qk;rw[u];dsimp only;rw[w]
  by_cases A:x.owner=o;rw[ag A]at e;have E:gI.pn a.B num o= { a.B with items:=gI.wm a.B.items num,mD:=a.B.mD+1 } :=ag e;unfold Ip at c;rw[e]at c;rw[e]at d⊢;rw[gH,aC ae];subst d;refine aB.of λM l=> ?_;rw[ag rfl];have hi:=(aJ.1 w).1;have hv:f[i]? =some f[i]:=au ae;have h':f[i].abs=x:=by grind
  obtain⟨pb,po,rfl⟩:=O.addr ae;have hh:=O.fa iL hv;have C: ∀g,cH (((AA pb po):Addr).add (i*4)) (iC f[i]) 0 g->aU g ((((AA pb po):Addr).add (Int.toNat (i:Int)*4)).add 2)=some f[i].v.val:=λg hg=>by rw[aK];exact hg.2.2.1
  refine⟨_,ai j.cN,ae,ar.2 ⟨_,_,_,C _ hh,?_⟩⟩;have vl:f[i].v.b=x.d:=by rw[<-h'];rfl
  rw[vl];refine j.V5 (x:=x) (l:=gI.wm a.B.items num) (by show a.Q.Perm _;rw[G.q,<-f'];exact Fk B.inc w) (show tX a.Q from G.ok) (JE B (aG w)) rfl A.symm λh5 X5 K d'=>⟨_,rfl,?_,?_⟩;have o5:=O.frame d'.fr (λy m v=>by rcases c'.iA y v with T|T;have:=q.lt y (.inl T);have:=g' y m;omega;have:=ox.dk m;omega);rw[<-vl];exact C _ (o5.fa iL hv);subst l;refine c h5 X5 ?_ (D.trans d');rw[E]at K⊢;exact K;rw[af A]at e;have E:gI.pn a.B num o=a.B:=af (by rw[e];decide);unfold Ip at c;rw[e,E,<-G.q]at c;rw[e]at d⊢;rw[dz];subst d;refine aB.of λM l=> ?_;rw[dz];subst l;rw[E]at j;exact c V Q j D
def Ap(j:Pt h s X I a)(G:Good a k)(j':k<=30000)(k1:a.B.items= []->iG h R (.T #[.agg #[.I 0,.I 0,.Z,.U 0],.I 4]))(k2: ∀x r,a.B.items=x::r->∀H z (v:IV),v.abs=x->Pt H s z I (Iq a)->bp X h z H->v.v.ok H z.D->R (.T #[v.agg,.I 0]) H):
  Cl 95 #[pt s] h R:=by
 refine uR (aF.box λb h1 eb M F=> ?_);have w:=j.on F;refine gh w.cN ⟨_,rfl,?_⟩;rw[dz];obtain⟨Z,hz,zm,zd,go⟩:=w.use 3;obtain⟨L,ok⟩:=j.okB;have lb:=aD M;refine⟨_,ai w.cN,gI.Ap hz (bN G.b) (λi h2 T f2=>⟨_,_,_,_,_,_,_,rfl,aF.new λB h3 d' g f=>aB.of λb' K=> ?_⟩) (λx r i h2 Z2 v P T s2 hd=>⟨_,_,_,_,_,_,_,rfl,aF.new λB h3 d' g f=>aB.of λb' K=> ?_⟩)⟩;rw[dz];subst K;have g':=(f2.tt f).get M id;refine aF.ld g (aF.set g' λl D E J=>aF.ld D (k1 i l ((F.tt (f2.tt f)).fresh (Fr.of_eq (S:=λy=>y=b) E J) (λy e=>ae))));obtain⟨V,m,u,c',_⟩:=go h2 Z2 { a with B:= { a.B with items:=r,taken:=a.B.taken+1 } } T s2 (λk' hi=>Jv _ hi);rw[gH];have U:=m.on f;have i':x∈a.B.items:=by rw[i];simp
 have ex:x.owner=v.owner:=by rw[<-P];rfl
 have ed:x.d=v.v.b:=by rw[<-P];rfl
 refine⟨_,ai U.cN,_,ai g,_,_,_,ai g,U.V5 (x:=x) (l:=r) (.of_eq (show a.Q=x::r by rw[G.q,i])) (show tX a.Q from G.ok) (JE ok i') (by rw[ed]) ex.symm λl C H4 S=>⟨_,rfl,?_,?_⟩⟩;exact S.fr.cell (ai g) (λd=>bN (m.lt B (.inl d)));subst K;have z1:=F.1;have z2:=s2.fr.1;have z3:=f.1;have z4:=S.fr.1;have Q: ∀y,h.size<=y->y<h1.size->¬(V.M y\/V.D y):=λy c O d=>by rcases d with A|A;rcases u.iA y A with A|A;have:=j.lt y (.inl A);omega;omega;rcases u.jF y A with A|A;have:=j.lt y (.inr A);omega;omega
 have a': ∀y,h.size<=y->y<h1.size->¬(C.M y\/C.D y):=λy c O d=>by rcases d with A|A;rcases S.iA y A with A|A;exact Q y c O (.inl A);omega;rcases S.jF y A with A|A;exact Q y c O (.inr A);omega
 have e':aF.at l B (v.num:Int) v.owner v.v.p v.v.b.length v.v.c (v.dB:Int):=S.fr.get g (λd=>bN (m.lt B (.inl d)));have f':=u.fr.get M (λd=>bN (j.lt b (.inl d)));have h':aF.at l b 0 0 none 0 0 0:=S.fr.get (f.get f' id) (λd=>Q b ae ae (.inl d));refine aF.ld e' (aF.set h' λh5 D E J=>aF.ld D ?_);have q:Fr (λy=>y=b) l h5:=Fr.of_eq E J;have t:=(bp.no F (u.on f)).trans S;have et:Iq a= { a with B:= { a.B with items:=r,taken:=a.B.taken+1 },Q:=r } :=by unfold Iq;rw[i]
 refine k2 x r i h5 C v P ?_ ⟨⟨bN q.1,λy c hn=>by rw[q.2 y ae (λe=>ae)];exact t.fr.2 y c hn⟩,λy c=>(t.iA y c),λy c=>(t.jF y c),t.nP⟩ ?_;rw[et];exact Pt.frame H4 q (λy c e=>a' y ae ae c);refine(((hd.mono c').frame f bC).frame S.fr (λy c d=> ?_)).mono S.nP|>.frame q (λy c e=>a' y ae ae (.inr c));exact m.xY y d c

end dV
end
end Go.Proofs.YtelbcloplcdchaaGreatDoor
