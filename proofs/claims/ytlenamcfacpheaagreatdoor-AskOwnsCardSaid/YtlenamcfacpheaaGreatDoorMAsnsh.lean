/-
  Dz is proved here: parts of wz proof, one behind wz other (texts of this work, merged by a program; FI wz theorem FJ not use is left out). No condition.
-/
import Derived.Lib.LaidU8
import Derived.Lib.LaidTab
import Derived.Test.YtlenamcfacpheaaGreatDoorMAsnsg
set_option maxRecDepth 100000
set_option maxHeartbeats 4000000
namespace Go.Proofs.YtlenamcfacpheaaGreatDoor
open Go.Den
open IntKind (wrap)
open Int (toNat)
section
namespace Cb
variable {h H h' g:aj} {R:fj} {p:cg} {l c:Nat} {b bs:cH} {FT A0 A1:Nat→Int}
variable {A B:Prop}
def bI(b:cH)(i:Nat):Int:=((b.getD i 0).toNat:Int)
def Ua(a0 a d e f i j k:Int):Int:=(IntKind.wrap .u64 ((BitVec.ofInt (IntKind.bits .u64) (IntKind.wrap .u64 ((BitVec.ofInt (IntKind.bits .u64) (IntKind.wrap .u64 ((BitVec.ofInt (IntKind.bits .u64) (IntKind.wrap .u64 ((BitVec.ofInt (IntKind.bits .u64) (IntKind.wrap .u64 ((BitVec.ofInt (IntKind.bits .u64) (IntKind.wrap .u64 ((BitVec.ofInt (IntKind.bits .u64) (IntKind.wrap .u64 ((BitVec.ofInt (IntKind.bits .u64) (IntKind.wrap .u64 a0)|||BitVec.ofInt (IntKind.bits .u64) (IntKind.wrap .u64 ((IntKind.wrap .u64 a)*2 ^ min (Int.toNat 8) (IntKind.bits .u64)))).toNat:Int))|||BitVec.ofInt (IntKind.bits .u64) (IntKind.wrap .u64 ((IntKind.wrap .u64 d)*2 ^ min (Int.toNat 16) (IntKind.bits .u64)))).toNat:Int))|||BitVec.ofInt (IntKind.bits .u64) (IntKind.wrap .u64 ((IntKind.wrap .u64 e)*2 ^ min (Int.toNat 24) (IntKind.bits .u64)))).toNat:Int))|||BitVec.ofInt (IntKind.bits .u64) (IntKind.wrap .u64 ((IntKind.wrap .u64 f)*2 ^ min (Int.toNat 32) (IntKind.bits .u64)))).toNat:Int))|||BitVec.ofInt (IntKind.bits .u64) (IntKind.wrap .u64 ((IntKind.wrap .u64 i)*2 ^ min (Int.toNat 40) (IntKind.bits .u64)))).toNat:Int))|||BitVec.ofInt (IntKind.bits .u64) (IntKind.wrap .u64 ((IntKind.wrap .u64 j)*2 ^ min (Int.toNat 48) (IntKind.bits .u64)))).toNat:Int))|||BitVec.ofInt (IntKind.bits .u64) (IntKind.wrap .u64 ((IntKind.wrap .u64 k)*2 ^ min (Int.toNat 56) (IntKind.bits .u64)))).toNat:Int))
def xc(b:cH):Int:=Ua (bI b 0) (bI b 1) (bI b 2) (bI b 3) (bI b 4) (bI b 5) (bI b 6) (bI b 7)
def Ub(n:Int):Bool:=(IntKind.wrap .u64 ((BitVec.ofInt (IntKind.bits .u64) n &&& BitVec.ofInt (IntKind.bits .u64) 9259542123273814144).toNat:Int))==0
def Sx(a b:Int):Int:=IntKind.wrap .u64 ((BitVec.ofInt (IntKind.bits .u64) a|||BitVec.ofInt (IntKind.bits .u64) b).toNat:Int)
def Ao(b:cH):Bool:=decide (b.length>32) && Ub (Sx (Sx (xc b) (xc (b.drop 8))) (Sx (xc (b.drop 16)) (xc (b.drop 24))))
def B4(b:cH):Bool:=decide (b.length>16) && Ub (Sx (xc b) (xc (b.drop 8)))
def KQ(b:cH):Bool:=decide (b.length>8) && Ub (xc b)
def uX:Nat->cH->cH
 |0,b=>b
 |f+1,b=>if Ao b=true then uX f (b.drop 32)else b
def FD(b:cH):cH:=if KQ b=true then(if B4 (b.drop 8)=true then uX (b.length+1) ((b.drop 8).drop 16)else b.drop 8)else b
def pg(x:Int):Int:=IntKind.wrap .i64 (IntKind.wrap .u8 ((BitVec.ofInt (IntKind.bits .u8) x &&& BitVec.ofInt (IntKind.bits .u8) 7).toNat:Int))
def xM(x:Int):Int:=Int.fdiv x (2 ^ min (Int.toNat 4) (IntKind.bits .u8))
def oj(n:Nat)(L a:Int)(b:cH):Bool:=decide (b.length<n)||(decide (bI b 1<L)||decide (a<bI b 1))
def ph(b:cH)(i:Nat):Bool:=decide (bI b i<128)||decide (191<bI b i)
def xd(FT A0 A1:Nat->Int)(b:cH):Option (cH):=
 if bI b 0<128 then some (FD (b.drop 1))
 else if pg (FT (bI b 0).toNat)=2 then(if oj 2 (A0 (xM (FT (bI b 0).toNat)).toNat) (A1 (xM (FT (bI b 0).toNat)).toNat) b=true then none else some (b.drop 2))
 else if pg (FT (bI b 0).toNat)=3 then(if(oj 3 (A0 (xM (FT (bI b 0).toNat)).toNat) (A1 (xM (FT (bI b 0).toNat)).toNat) b||ph b 2)=true then none else some (b.drop 3))
 else if pg (FT (bI b 0).toNat)=4 then(if(oj 4 (A0 (xM (FT (bI b 0).toNat)).toNat) (A1 (xM (FT (bI b 0).toNat)).toNat) b||(ph b 2||ph b 3))=true then none else some (b.drop 4))
 else none
def Ja(n:cH->Option (cH)):Nat->cH->Bool
 |0,_=>true
 |f+1,b=>if b.length=0 then true else match n b with|none=>false|some r=>Ja n f r
theorem Pj(n:cH->Option (cH))(f:Nat):Ja n (f+1) b=if b.length=0 then true else match n b with|none=>false|some r=>Ja n f r:=rfl
def sZ(FT A0 A1:Nat->Int)(f:Nat)(b:cH):Bool:=Ja (xd FT A0 A1) f b
theorem Pk(f:Nat):uX (f+1) b=if Ao b=true then uX f (b.drop 32)else b:=rfl
theorem FE(f:Nat):sZ FT A0 A1 (f+1) b=if b.length=0 then true else match xd FT A0 A1 b with|none=>false|some r=>sZ FT A0 A1 f r:=by unfold sZ;exact Pj _ _
theorem B9: ∀(f:Nat)(b:cH),(uX f b).length<=b.length
 |0,b=>bk _
 |f+1,b=>by
  unfold uX;split
  .exact cM (B9 f _) (by rw[bQ];omega)
  .exact bk _
theorem NJ(b:cH):(FD b).length<=b.length:=by
 unfold FD;split
 .split
  .exact cM (B9 _ _) (by rw[bQ,bQ];omega)
  .rw[bQ];omega
 .exact bk _
theorem KR{r:cH}(e:b.length≠0)(a:xd FT A0 A1 b=some r):r.length<b.length:=by
 have d: ∀k,1<=k->(b.drop k).length<b.length:=λk hk=>by rw[bQ];omega
 unfold xd at a
 repeat' split at a
 all_goals first|(cases a;done)|(cases a;first|exact d _ dH|exact Nat.lt_of_le_of_lt (NJ _) (d 1 dH))
structure Dp (h:aj) (FT A0 A1:Nat->Int):Prop where
 f: ∀i,i<256->aX h ⟨3,i,none⟩=some (.int .u8 (FT i))/\0<=FT i/\FT i<256
 a: ∀i,i<16->aX h ⟨4,i*2,none⟩=some (.int .u8 (A0 i))/\aX h ⟨4,i*2+1,none⟩=some (.int .u8 (A1 i))
theorem Dp.on(U:Dp h FT A0 A1)(f:Fr No h h'):Dp h' FT A0 A1:=⟨λi a=>⟨f.cell (U.f i a).1 id,(U.f i a).2⟩,λi a=>⟨f.cell (U.a i a).1 id,f.cell (U.a i a).2 id⟩⟩
structure Sl (h:aj) (p:cg) (l c:Nat) (b:cH):Prop where
 row:Row h p (bc b)
 len:l=b.length
 cap:l<=c
theorem Sl.drop(S:Sl h p l c b){k:Nat}(hk:k<=b.length):Sl h (cK p c k 1) (l - k) (c - k) (b.drop k):=by
 have d:=S.len;have a:=S.cap;refine⟨?_,by rw[bQ];omega,af⟩;have:=S.row.sub (cap:=c) (l:=k) (u:=b.length) (sz:=1) hk af;rw[cv,cv]at this;unfold bc at this⊢;rw[bB (by rw[aF];omega)]at this;rw[List.map_drop];exact this
theorem Sl.on(S:Sl h p l c b)(f:Fr No h h'):Sl h' p l c b:=⟨S.row.frame f cu,S.len,S.cap⟩
theorem Sl.at{i:Nat}(S:Sl h p l c b)(d:i<b.length): ∃a,p=some a/\aX h (a.add (i*1))=some (.int .u8 (bI b i)):=by
 obtain⟨a,e,f⟩:=byte_at S.row d;refine⟨a,e,?_⟩;unfold bI;rw[aZ,ai d];exact f
theorem Sn(b:cH)(i:Nat):0<=bI b i/\bI b i<256:=by
 unfold bI;have:=(b.getD i 0).toNat_lt;omega
theorem QQ{x:Int}(H:0<=x)(a:x<256):0<=xM x/\xM x<16:=by
 have e:xM x=x/16:=Int.fdiv_eq_ediv_of_nonneg x dH;rw[e];omega
theorem KS{c:Prop}[Decidable c](d:c)(a:A):if c then A else B:=by rw[ag d];exact a
theorem KT{c:Prop}[Decidable c](d: ¬c)(a:B):if c then A else B:=by rw[ae d];exact a
theorem oV(S:Sl h p l c b)(j:8<=b.length)(hk:R (.U (xc b)) h):Cl 324 #[.slice p l c] h R:=by
 have k:=S.len;obtain⟨a,rfl,c0⟩:=S.at (i:=0) af;have C: ∀i,i<b.length->aX h (a.add (i*1))=some (.int .u8 (bI b i)):=λi d=>by
  obtain⟨f,e,c⟩:=S.at (i:=i) d;cases e;exact c
 refine nB.walk ?_;refine⟨af,ay.2 ⟨_,C 0 af,af,ay.2 ⟨_,C 1 af,af,ay.2 ⟨_,C 2 af,af,ay.2 ⟨_,C 3 af,af,ay.2 ⟨_,C 4 af,af,ay.2 ⟨_,C 5 af,af,ay.2 ⟨_,C 6 af,af,ay.2 ⟨_,C 7 af,?_⟩⟩⟩⟩⟩⟩⟩⟩⟩;exact hk
theorem NK{vv:Bool}(hV:sZ FT A0 A1 (bs.length+1) bs=vv)(UT:Dp h FT A0 A1)(row:Row h p (bc bs))(hl:bs.length<=1000000)(cap:bs.length<=c)(hk: ∀g,Fr No h g->R (.bool vv) g):Cl 316 #[.slice p bs.length c] h R:=by
 refine sY.walk ⟨af,af,λp l c g=>Fr No h g/\∃b f,Sl g p l c b/\b.length<f/\b.length<=1000000/\sZ FT A0 A1 f b=vv,λ_ l _ _=>l,⟨Fr.refl _ _,bs,bs.length+1,⟨by rw[jS];exact row,aD _,bk _⟩,Nat.lt_succ_self _,hl,hV⟩,?_⟩;clear hV;rintro p l c g ⟨N,b,f,S,hf,hb,w⟩;have z':=S.len;by_cases c0:b.length=0
 case pos=>
  rw[dj];have:sZ FT A0 A1 f b=true:=by
   cases f with
   |zero=>rfl
   |succ f=>rw[FE,ag c0]
  rw[w.symm.trans this]at hk;exact hk g N
 rw[ag (by simp only[aY];omega)];refine aG.of λr' hJ=> ?_
 obtain⟨f,rfl⟩: ∃F,f=F+1:=⟨f - 1,af⟩;rw[FE,ae c0]at w;have m: ∀(G:aj)(p':cg)(V c':Nat)(s:cH),Fr No g G->Sl G p' V c' s->xd FT A0 A1 b=some s->r' p' V c' G:=by
  intro G p' V c' s F S' U;subst hJ;have A':=KR c0 U;rw[U]at w;exact⟨⟨N.tt F,s,f,S',af,af,w⟩,by have:=S'.len;show V<l;omega⟩
 have stop: ∀G,Fr No g G->xd FT A0 A1 b=none->R (.bool false) G:=by
  intro G F U;rw[U]at w;rw[<-w]at hk;exact hk G (N.tt F)
 clear hJ w hk;obtain⟨a,rfl,ca⟩:=S.at (i:=0) af;have n0:=Sn b 0;refine⟨af,ay.2 ⟨_,ca,?_⟩⟩;by_cases c1:bI b 0<128
 .have E:xd FT A0 A1 b=some (FD (b.drop 1)):=ag c1;rw[E]at m;clear stop E;rw[ag (au c1)];refine⟨af,aG.of λJ1 s'=> ?_⟩;have I:=S.drop (k:=1) af;generalize hr:b.drop 1=r at m I;have n': ∀v,v=KQ r->J1 v g:=by
   intro v d;subst s';refine aG.of λJ2 b'=> ?_
   cases t:KQ r with
   |false=>
    rw[d,t,dj];subst b';exact m g _ _ _ _ (Fr.refl _ _) I (by unfold FD;rw[t];rfl)
   |true=>
   rw[d,t,ag rfl];have l8:r.length>8:=by unfold KQ at t;simp only[aR,aY]at t;exact t.1
   have J:=I.drop (k:=8) af;have f':=I.len;refine⟨⟨af,by show(8:Int)<=((l - 1:Nat):Int);omega⟩,aG.of λJ3 t'=> ?_⟩;have o': ∀v,v=B4 (r.drop 8)->J3 v g:=by
    intro v d;subst t';refine aG.of λJ4 l'=> ?_
    cases D:B4 (r.drop 8)with
    |false=>
     rw[d,D,dj];subst l';subst b';exact m g _ _ _ _ (Fr.refl _ _) J (by unfold FD;rw[t,ag rfl,D];rfl)
    |true=>
    rw[d,D,ag rfl];have B':(r.drop 8).length>16:=by unfold B4 at D;simp only[aR,aY]at D;exact D.1
    have S3:=J.drop (k:=16) af;have T:=J.len;have eF:FD r=uX (r.length+1) ((r.drop 8).drop 16):=by unfold FD;rw[t,ag rfl,D,ag rfl]
    rw[eF]at m;refine⟨⟨af,by show(16:Int)<=((l - 1 - 8:Nat):Int);omega⟩,λp l c G=>G=g/\∃s F,Sl g p l c s/\s.length<F/\uX F s=uX (r.length+1) ((r.drop 8).drop 16),λ_ l _ _=>l,⟨rfl,_,_,S3,by rw[bQ,bQ];omega,rfl⟩,?_⟩;rintro p5 l5 c5 G ⟨rfl,P,f5,u,x',M⟩;have y':=u.len;obtain⟨f5,rfl⟩: ∃F,f5=F+1:=⟨f5 - 1,af⟩;rw[Pk]at M;refine aG.of λJ5 u'=> ?_
    have q': ∀v,v=Ao P->J5 v G:=by
     intro v d;subst u';dsimp only;cases z:Ao P with
     |false=>
      rw[d,z,dj];rw[z,dj]at M;subst l';subst b';exact m G _ _ _ _ (Fr.refl _ _) u (by rw[M])
     |true=>
      rw[d,z,ag rfl];rw[z,ag rfl]at M;have C':P.length>32:=by unfold Ao at z;simp only[aR,aY]at z;exact z.1
      exact⟨af,⟨rfl,_,f5,u.drop (k:=32) af,by rw[bQ];omega,M⟩,by show l5 - 32<l5;omega⟩
    by_cases q:P.length>32
    .rw[fY];refine⟨af,af,af,oV u af ⟨_,rfl,oV (u.drop (k:=8) af) (by rw[bQ];omega) ⟨_,rfl,oV (u.drop (k:=16) af) (by rw[bQ];omega) ⟨_,rfl,oV (u.drop (k:=24) af) (by rw[bQ];omega) ⟨_,rfl,q' _ ?_⟩⟩⟩⟩⟩;unfold Ao;rw[au q];rfl
    .rw[dj];exact q' false (by unfold Ao;rw[az q];rfl)
   have T:=J.len;by_cases q:(r.drop 8).length>16
   .rw[ag (au (by show((l - 1 - 8:Nat):Int)>16;have:l - 1 - 8=(r.drop 8).length:=T;omega))];refine⟨⟨af,by show(8:Int)<=((l - 1 - 8:Nat):Int);have:l - 1 - 8=(r.drop 8).length:=T;omega⟩,oV J af ⟨_,rfl,oV (J.drop (k:=8) af) (by rw[bQ];omega) ⟨_,rfl,o' _ ?_⟩⟩⟩;unfold B4;rw[au q];rfl
   .rw[ae (by simp only[aY];show¬((l - 1 - 8:Nat):Int)>16;have:l - 1 - 8=(r.drop 8).length:=T;omega)];exact o' false (by unfold B4;rw[az q];rfl)
  have f':=I.len;by_cases q:r.length>8
  .rw[ag (au (by show((l - 1:Nat):Int)>8;have:l - 1=r.length:=f';omega))];refine oV I af ⟨_,rfl,n' _ ?_⟩;unfold KQ;rw[au q];rfl
  .rw[ae (by simp only[aY];show¬((l - 1:Nat):Int)>8;have:l - 1=r.length:=f';omega)];exact n' false (by unfold KQ;rw[az q];rfl)
 obtain⟨x0,x1,x2⟩:=(UT.on N).f (bI b 0).toNat af;have E:xd FT A0 A1 b=_:=ae c1;generalize FT (bI b 0).toNat=x at x0 x1 x2 E;have rr:=QQ x1 x2;obtain⟨y0,y1⟩:=(UT.on N).a (xM x).toNat af;generalize A0 (xM x).toNat=L at y0 E;generalize A1 (xM x).toNat=n at y1 E;rw[dj];refine⟨af,x,by rw[gz,bC,cv];exact x0,rr,L,by rw[gz,bC];exact y0,n,by rw[gz,gz,bC];exact y1,cG ?_⟩;have j':Fr No g (g.push (.cells #[.int .u8 0,.int .u8 0] 421)):=Fr.push _ _;have g':(g.push (.cells #[.int .u8 0,.int .u8 0] 421))[g.size]? =_:=bR;generalize g.push (.cells #[.int .u8 0,.int .u8 0] 421)=v' at j' g'⊢;refine bH g' bO λw' a1 a2 a3=>bH a1 bO λj i' b2 b3=> ?_
 have o:Fr No g j:=(j'.fresh (Fr.of_eq (S:=λy=>y=g.size) a2 a3) (λy e=>af)).fresh (Fr.of_eq (S:=λy=>y=g.size) b2 b3) (λy e=>af);have k':=S.on o;have C: ∀i,i<b.length->aX j (a.add (i*1))=some (.int .u8 (bI b i)):=λi n=>by
  obtain⟨a',e,c⟩:=k'.at (i:=i) n;cases e;exact c
 have cl:aX j (AA g.size 0)=some (.int .u8 L):=ak i';have ch:aX j (AA g.size 1)=some (.int .u8 n):=ak i';have dr: ∀k,k<=b.length->Sl j (cK (some a) c k 1) (l - k) (c - k) (b.drop k):=λk hk=>k'.drop hk
 refine aG.of λJ6 d'=>aG.of λJ7 e'=> ?_
 by_cases X:pg x=2
 .replace E:=E.trans (ag X);refine KS (show(pg x==2)=true from da.2 X) (aG.of λK O=> ?_);have key: ∀v,v=oj 2 L n b->K v j:=by
   intro v d;subst O;rw[<-d]at E;cases v with
   |true=>exact KS rfl (stop j o (E.trans (ag rfl)))
   |false=>
    have l2:2<=b.length:=by simp[oj]at d;omega
    refine KT dH ⟨af,?_⟩;subst e';subst d';exact m j _ _ _ _ o (dr 2 l2) (E.trans (dj))
  by_cases Q:b.length<2
  .rw[fY];exact key true (by simp[oj,Q])
  rw[dj];refine⟨af,ay.2 ⟨_,C 1 af,_,cl,?_⟩⟩;by_cases q1:bI b 1<L
  .rw[ag (au q1)];exact key true (by simp[oj,q1])
  rw[ae (cy q1)];exact⟨_,ch,af,ay.2 ⟨_,C 1 af,key _ (by simp[oj,Q,q1])⟩⟩
 replace E:=E.trans (ae X);refine KT (show¬(pg x==2)=true from λe=>X (da.1 e)) (aG.of λJ9 m'=> ?_);by_cases Y:pg x=3
 .replace E:=E.trans (ag Y);refine KS (show(pg x==3)=true from da.2 Y) (aG.of λK O=> ?_);have key: ∀v,v=(oj 3 L n b||ph b 2)->K v j:=by
   intro v d;subst O;rw[<-d]at E;cases v with
   |true=>exact KS rfl (stop j o (E.trans (ag rfl)))
   |false=>
    have l2:3<=b.length:=by simp[oj]at d;omega
    refine KT dH ⟨af,?_⟩;subst m';subst e';subst d';exact m j _ _ _ _ o (dr 3 l2) (E.trans (dj))
  by_cases Q:b.length<3
  .rw[fY];exact key true (by simp[oj,Q])
  rw[dj];refine⟨af,ay.2 ⟨_,C 1 af,_,cl,?_⟩⟩;by_cases q1:bI b 1<L
  .rw[ag (au q1)];exact key true (by simp[oj,q1])
  rw[ae (cy q1)];refine⟨_,ch,af,ay.2 ⟨_,C 1 af,?_⟩⟩;by_cases q2:n<bI b 1
  .rw[ag (au q2)];exact key true (by simp[oj,q2])
  rw[ae (cy q2)];refine⟨af,ay.2 ⟨_,C 2 af,?_⟩⟩;by_cases q3:bI b 2<128
  .rw[ag (au q3)];exact key true (by simp[ph,q3])
  rw[ae (cy q3)];exact⟨af,ay.2 ⟨_,C 2 af,key _ (by simp[oj,ph,Q,q1,q2,q3])⟩⟩
 replace E:=E.trans (ae Y);refine KT (show¬(pg x==3)=true from λe=>Y (da.1 e)) ?_;by_cases Z:pg x=4
 .replace E:=E.trans (ag Z);refine KS (show(pg x==4)=true from da.2 Z) (aG.of λK O=> ?_);have key: ∀v,v=(oj 4 L n b||(ph b 2||ph b 3))->K v j:=by
   intro v d;subst O;rw[<-d]at E;cases v with
   |true=>exact KS rfl (stop j o (E.trans (ag rfl)))
   |false=>
    have l2:4<=b.length:=by simp[oj]at d;omega
    refine KT dH ⟨af,?_⟩;subst m';subst e';subst d';exact m j _ _ _ _ o (dr 4 l2) (E.trans (dj))
  by_cases Q:b.length<4
  .rw[fY];exact key true (by simp[oj,Q])
  rw[dj];refine⟨af,ay.2 ⟨_,C 1 af,_,cl,?_⟩⟩;by_cases q1:bI b 1<L
  .rw[ag (au q1)];exact key true (by simp[oj,q1])
  rw[ae (cy q1)];refine⟨_,ch,af,ay.2 ⟨_,C 1 af,?_⟩⟩;by_cases q2:n<bI b 1
  .rw[ag (au q2)];exact key true (by simp[oj,q2])
  rw[ae (cy q2)];refine⟨af,ay.2 ⟨_,C 2 af,?_⟩⟩;by_cases q3:bI b 2<128
  .rw[ag (au q3)];exact key true (by simp[ph,q3])
  rw[ae (cy q3)];refine⟨af,ay.2 ⟨_,C 2 af,?_⟩⟩;by_cases q4:191<bI b 2
  .rw[ag (au q4)];exact key true (by simp[ph,q4])
  rw[ae (cy q4)];refine⟨af,ay.2 ⟨_,C 3 af,?_⟩⟩;by_cases W:bI b 3<128
  .rw[ag (au W)];exact key true (by simp[ph,W])
  rw[ae (cy W)];exact⟨af,ay.2 ⟨_,C 3 af,key _ (by simp[oj,ph,Q,q1,q2,q3,q4,W])⟩⟩
 refine KT (show¬(pg x==4)=true from λe=>Z (da.1 e)) ?_;exact stop j o (E.trans (ae Z))
theorem Dp.Vy(U:Dp h FT A0 A1):mE (λbs=>sZ FT A0 A1 (bs.length+1) bs) h:=λg p c bs R f row a cap hk=>NK rfl (U.on f) row a cap hk

end Cb
end
section
namespace Cb
theorem KU: ∀i:Fin 256,Lib.firstT i.val<256:=dH
theorem Dp.uW{W:World}{l:List (String×DataW Unit)}{s1 S:String}(w:Tryz.prog.globalNamed s1=some 3)(x:Tryz.prog.globalNamed S=some 4)(h:laidMet Tryz.prog l W)(M:(s1,Lib.firstData)∈l)(y:(S,Lib.acceptData)∈l): ∃V,mE V W.heap:=by
 refine⟨_,Dp.Vy (FT:=λi=>(Lib.firstT i:Int)) (A0:=λi=>(Lib.accLo i:Int)) (A1:=λi=>(Lib.accHi i:Int)) ⟨λc r=> ?_,λi v=> ?_⟩⟩
 .obtain⟨g,t,cs,F,p,a,o,m,hd⟩:=Lib.laidMet.reads h M;obtain rfl:3=g:=bj (w.symm.trans a);obtain rfl:419=t:=by
   have e:(Tryz.prog.globals[(3:Nat)]?).map (·.type)=some 419:=cU
   exact bj (e.symm.trans o)
  have b:=Lib.cells_of_tab (n:=256) (e:=5) cU cU cU cU hd;have:=World.var?_cell a m c;rw[jX,<-dz,b]at this;refine⟨?_,Int.natCast_nonneg _,by have:Lib.firstT c<256:=KU ⟨c,r⟩;show((Lib.firstT c:Nat):Int)<256;omega⟩;rw[this];simp[Lib.firstTab,r]
 .obtain⟨g,t,cs,F,p,a,o,m,hd⟩:=Lib.laidMet.reads h y;obtain rfl:4=g:=bj (x.symm.trans a);obtain rfl:422=t:=by
   have e:(Tryz.prog.globals[(4:Nat)]?).map (·.type)=some 422:=cU
   exact bj (e.symm.trans o)
  obtain⟨z,d,q,s,u⟩:=Lib.array_elem (n:=16) (e:=421) cU hd i v;simp only[aI,List.getElem?_range v,cZ,bn]at s;subst s;have C:Tryz.prog.cellsOf 421=2:=cU
  rw[C]at u;have b:=Lib.ints_of_struct (t:=421) (k:=.u8) (fs:= #[Go.Field.mk "lo" 5 0 false "" "unicode/utf8" 0,Go.Field.mk "hi" 5 1 false "" "unicode/utf8" 1]) cU (λj f H=>by
   match j,H with
   |0,H=>simp at H;subst H;exact⟨cU,rfl,cU⟩
   |1,H=>simp at H;subst H;exact⟨cU,rfl,cU⟩
   |j+2,H=>simp at H) (by rw[C];rfl) u
  have E:=bT (·[0]?) b;have e1:=bT (·[1]?) b;simp only[cS,ff]at E e1;constructor
  .have:=World.var?_cell a m (i*2);rw[jX,<-dz]at this;rw[this];simpa using E
  .have:=World.var?_cell a m (i*2+1);rw[jX,<-dz]at this;rw[this];simpa using e1

end Cb
end
end Go.Proofs.YtlenamcfacpheaaGreatDoor
