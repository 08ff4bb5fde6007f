/-
  What is proved here: parts of the proof, one behind the other (texts of this work, merged by a program; what the theorem does not use is left out). No condition.
-/
import Derived.Lib.LaidU8
import Derived.Lib.LaidTab
import Derived.Test.YtgccegnmggjkjaaGreatDoorMStese
set_option maxRecDepth 100000
namespace Go.Proofs.YtgccegnmggjkjaaGreatDoor
open Go.Den Go.Fields
namespace Rbx
open Fld Obx
variable {h h' h0 : Heap} {x : Nat} {X : Ft} {R : Value → Heap → Prop} {p q : Option Addr} {c d i : Nat}
structure RI where
 it:It
 fate:Nat
structure RV where
 num:Nat
 owner:Int
 v:BV
 till:Nat
 fate:Nat
def RV.abs (y:RV):RI:=⟨⟨y.num,y.owner,y.v.b,y.till⟩,y.fate⟩
abbrev renc (y:RV):List Value:= [.int .i64 (y.num:Int), .int .i64 y.owner,y.v.val, .int .u64 (y.till:Int), .int .i64 (y.fate:Int)]
theorem renc_len (y:RV):(renc y).length=5:=rfl
theorem tR:SlTy Tryz.prog T.s_ref23_Item T.ref23_Item 5 56 (.agg #[.int .i64 0, .int .i64 0, .slice none 0 0, .int .u64 0, .int .i64 0]):=⟨by kernel_rfl,by kernel_rfl,rfl⟩
theorem uR:Tryz.prog.underlying T.s_ref23_Item=some (.slice T.ref23_Item):=by kernel_rfl
structure Rm (h:Heap) (x:Nat) (X:Ft) (Ls:List RI) (lp:Option Addr) (lc:Nat) (xs:List RV):Prop where
 blk:h[x]? =some (.cells #[.slice lp xs.length lc] T.ref23_Box (0,0))
 own:Own h lp xs.length lc 5 (xs.flatMap renc)
 abs:xs.map RV.abs=Ls
 dat: ∀y∈xs,y.v.ok h X.D
 m: ∀c,X.M c↔c=x∨inBlk lp c
 bl: ¬inBlk lp x
 dis: ∀c,X.M c→ ¬X.D c
 dlt: ∀c,X.D c→c<h.size
def Rb (h:Heap) (x:Nat) (X:Ft) (Ls:List RI):Prop:= ∃lp lc xs,Rm h x X Ls lp lc xs
variable {Ls : List RI} {lp : Option Addr} {lc : Nat} {xs : List RV}
theorem Rm.lt (H:Rm h x X Ls lp lc xs) (y:Nat) (hy:X.M y∨X.D y):y<h.size:=by
 rcases hy with hy|hy
 ·rcases(H.m y).1 hy with rfl|h1
  ·exact lt_of_get H.blk
  ·exact H.own.blk_lt h1
 ·exact H.dlt y hy
theorem Rb.lt (H:Rb h x X Ls) (y:Nat) (hy:X.M y∨X.D y):y<h.size:=by
 obtain⟨lp,lc,xs,H⟩:=H
 exact H.lt y hy
theorem Rm.frame {Q:Nat→Prop} (H:Rm h x X Ls lp lc xs) (f:Fr Q h h') (hq: ∀y,X.M y∨X.D y→ ¬Q y):Rm h' x X Ls lp lc xs:=
 have hm: ∀y,X.M y→ ¬Q y:=fun y hy=>hq y (.inl hy)
 ⟨f.get H.blk (hm x ((H.m x).2 (.inl rfl))),H.own.frame f (fun y hy=>hm y ((H.m y).2 (.inr hy))),H.abs,fun y hy=>(H.dat y hy).frame f (fun z hz=>hq z (.inr hz)),H.m,H.bl,H.dis,fun y hy=>Nat.lt_of_lt_of_le (H.dlt y hy) f.1⟩
theorem Rb.frame {Q:Nat→Prop} (H:Rb h x X Ls) (f:Fr Q h h') (hq: ∀y,X.M y∨X.D y→ ¬Q y):Rb h' x X Ls:=by
 obtain⟨lp,lc,xs,H⟩:=H
 exact⟨lp,lc,xs,H.frame f hq⟩
theorem Rm.on (H:Rm h x X Ls lp lc xs) (f:Fr (fun _=>False) h h'):Rm h' x X Ls lp lc xs:=H.frame f (fun _ _=>id)
theorem Rm.len (H:Rm h x X Ls lp lc xs):xs.length=Ls.length:=by rw[←H.abs,List.length_map]
theorem Rm.get (H:Rm h x X Ls lp lc xs) {y:RI} (hy:Ls[i]? =some y): ∃v,xs[i]? =some v∧v.abs=y:=by
 rw[←H.abs,List.getElem?_map] at hy
 cases hv:xs[i]? with
 |none=>rw[hv] at hy;cases hy
 |some v=>rw[hv] at hy;exact⟨v,rfl,Option.some.inj hy⟩
theorem Rm.fate {K:Heap→Prop} {a:Addr} {y:RI} (H:Rm h x X Ls (some a) lc xs) (hy:Ls[i]? =some y) (f:Nat)
  (hk: ∀h',Rb h' x X (Ls.set i { y with fate:=f })→StepF X h X h'→K h'):StoreP h ((a.add (i*5)).add 4) (.int .i64 (f:Int)) K:=by
 obtain⟨v,hv,hva⟩:=H.get hy
 have hi:=(List.getElem?_eq_some_iff.1 hv).1
 rw[add_add]
 have hl:(xs.flatMap renc).length=xs.length*5:=flat_len renc 5 renc_len xs
 refine H.own.store (by omega) ?_
 intro h' o' hs hoth
 have e:(xs.flatMap renc).set (i*5+4) (.int .i64 (f:Int))=(xs.set i { v with fate:=f }).flatMap renc:=by
  refine flat_set renc 5 renc_len xs i { v with fate:=f } hi _ (by rw[List.length_set]) ?_ ?_
  ·intro j hj
   rw[List.getElem?_set_ne]
   intro e0
   subst e0
   rcases hj with hj|hj<;>omega
  ·intro j w hj hw
   match j,hj with
   |4,_=>simp at hw;subst hw;rw[List.getElem?_set_self (by omega)]
   |0,_=>rw[List.getElem?_set_ne (by omega)];exact flat_at renc 5 renc_len xs i v hv 0 w hw
   |1,_=>rw[List.getElem?_set_ne (by omega)];exact flat_at renc 5 renc_len xs i v hv 1 w hw
   |2,_=>rw[List.getElem?_set_ne (by omega)];exact flat_at renc 5 renc_len xs i v hv 2 w hw
   |3,_=>rw[List.getElem?_set_ne (by omega)];exact flat_at renc 5 renc_len xs i v hv 3 w hw
 rw[e] at o'
 have fr:Fr (inBlk (some a)) h h':=⟨by omega,fun y _ hn=>hoth y hn⟩
 have hD: ∀y,X.D y→ ¬inBlk (some a) y:=fun y hd hb=>H.dis y ((H.m y).2 (.inr hb)) hd
 refine hk h' ⟨some a,lc,xs.set i { v with fate:=f },⟨by rw[List.length_set];exact fr.get H.blk H.bl,by rw[List.length_set];exact o', ?_, ?_,H.m,H.bl,H.dis,fun y hy=>Nat.lt_of_lt_of_le (H.dlt y hy) fr.1⟩⟩ (StepF.of_fr (fr.mono (fun y _ hb=>(H.m y).2 (.inr hb))))
 ·rw[List.map_set,H.abs,←hva];rfl
 ·intro y hy
  rcases List.mem_or_eq_of_mem_set hy with hy|rfl
  ·exact(H.dat y hy).frame fr hD
  ·exact(H.dat v (List.mem_of_getElem? hv)).frame fr hD
theorem there_ok (H:Rb h x X Ls) (hl:Ls.length≤1000000)
  (hk: ∀h' p' c' (ys:List RV),Own h' p' ys.length c' 5 (ys.flatMap renc)→(∀y,inBlk p' y→h.size≤y)→ys.map RV.abs=Ls.filter (fun y=>decide (y.fate=1))→(∀y∈ys,y.v.ok h' X.D)→Fr (fun _=>False) h h'→R (.slice p' ys.length c') h'):
  CallsH Tryz.prog F.ref23_Box_There #[.pointer (some ⟨x,0,none⟩)] h R:=by
 obtain⟨lp,lc,xs,H⟩:=H
 have hlen:=H.len
 refine ref23_Box_There.walk ?_
 refine⟨fun op ol oc t g=> ∃(k:Nat) (ys:List RV),t=(k:Int)∧k≤xs.length∧ol=ys.length∧ys.length≤k∧Own g op ol oc 5 (ys.flatMap renc)∧(∀y,inBlk op y→h.size≤y)∧ys.map RV.abs=(Ls.take k).filter (fun y=>decide (y.fate=1))∧(∀y∈ys,y∈xs)∧Fr (fun _=>False) h g,fun _ _ _ t _=>xs.length - t.toNat,
  ⟨0, [],rfl,by omega,rfl,by simp, .nil rfl rfl rfl rfl,(fun y ⟨a,e,_⟩=>by cases e),by simp,(fun y hy=>by cases hy),Fr.refl _ _⟩, ?_⟩
 rintro op ol oc _ g ⟨k,ys,rfl,hkn,rfl,hyk,o,hop,hab,hsub,fg⟩
 have Mg:=H.on fg
 refine⟨_,_,_,cell_at Mg.blk rfl, ?_⟩
 by_cases hlt:k<xs.length
 ·have q1:(k:Int)<((xs.length:Nat):Int):=by omega
  simp only[q1,decide_true,if_true,Int.toNat_natCast]
  have hx:xs[k]? =some xs[k]:=List.getElem?_eq_getElem hlt
  generalize xs[k]=v at hx
  have hLk:Ls[k]? =some v.abs:=by rw[←H.abs,List.getElem?_map,hx];rfl
  obtain⟨ab,aoff,rfl⟩:=Mg.own.addr (by omega)
  have held:=Mg.own.heldAt renc_len hx
  refine JoinP.of fun J hJ=>⟨_,_,_,cell_at Mg.blk rfl,⟨by first|trivial|omega,by first|trivial|omega⟩,onSome_some.2 ⟨(v.fate:Int),held.2.2.2.2.1,JoinP.of fun J1 hJ1=> ?_⟩⟩
  subst hJ1;subst hJ
  have wr:IntKind.wrap .i64 ((k:Int)+1)=(k:Int)+1:=wrap_id (by omega) (by omega)
  by_cases hf:v.fate=1
  ·rw[if_pos (by rw[hf];rfl)]
   refine⟨_,_,_,cell_at Mg.blk rfl,⟨by first|trivial|omega,by first|trivial|omega⟩,onSome_some.2 (ref23_Item.ldA held ?_)⟩
   refine den_append1 tR uR o rfl (fun w hw=>by simp at hw;rcases hw with rfl|rfl|rfl|rfl|rfl<;>rfl) (by omega) (by omega) fun p5 c5 h5 o5 f5 g5=>⟨_,_,_,rfl, ?_⟩
   have zg:=fg.1
   have cat:ys.flatMap renc++([.int .i64 (v.num:Int), .int .i64 v.owner, .slice v.v.p v.v.b.length v.v.c, .int .u64 (v.till:Int), .int .i64 (v.fate:Int)]:List Value)=(ys++ [v]).flatMap renc:=by rw[List.flatMap_append];simp
   have ln:(ys++ [v]).length=ys.length+1:=by rw[List.length_append];rfl
   dsimp only
   rw[wr]
   refine⟨⟨k+1,ys++ [v],by omega,by omega,ln.symm,by omega,by rw[←cat];exact o5,fun y hy=>(g5 y hy).elim (hop y) (fun h2=>by omega), ?_,fun y hy=> ?_,fg.fresh f5 hop⟩,by show xs.length - Int.toNat ((k:Int)+1)<xs.length - k;omega⟩
   ·rw[List.map_append,hab,List.take_add_one,hLk,List.filter_append]
    have:decide (v.abs.fate=1)=true:=decide_eq_true hf
    simp[List.filter_cons,this]
   ·rcases List.mem_append.1 hy with hy|hy
    ·exact hsub y hy
    ·obtain rfl:=List.mem_singleton.1 hy
     exact List.mem_of_getElem? hx
  ·have hfi: ¬((v.fate:Int)==1)=true:=by simp only[beq_iff_eq];omega
   rw[if_neg hfi]
   rw[wr]
   refine⟨⟨k+1,ys,by omega,by omega,rfl,by omega,o,hop, ?_,hsub,fg⟩,by show xs.length - Int.toNat ((k:Int)+1)<xs.length - k;omega⟩
   rw[hab,List.take_add_one,hLk,List.filter_append]
   have:decide (v.abs.fate=1)=false:=decide_eq_false hf
   simp[List.filter_cons,this]
 ·have q1: ¬(k:Int)<((xs.length:Nat):Int):=by omega
  simp only[q1,decide_false,Bool.false_eq_true,if_false]
  rw[List.take_of_length_le (by omega)] at hab
  exact hk g op oc ys o hop hab (fun y hy=>Mg.dat y (hsub y hy)) fg
theorem take_ok (H:Rb h x X Ls) (hl:Ls.length≤1000000)
  (k1: ∀i y,Ls[i]? =some y→y.fate=1→(∀j z,j<i→Ls[j]? =some z→z.fate≠1)→ ∀h',Rb h' x X (Ls.set i { y with fate:=2 })→StepF X h X h'→R (.int .i64 (i:Int)) h')
  (k2:(∀z∈Ls,z.fate≠1)→R (.int .i64 (-1)) h):CallsH Tryz.prog F.ref23_Box_Take #[.pointer (some ⟨x,0,none⟩)] h R:=by
 obtain⟨lp,lc,xs,H⟩:=H
 have hlen:=H.len
 refine ref23_Box_Take.walk ?_
 refine⟨fun t g=>g=h∧ ∃k:Nat,t=(k:Int)∧k≤xs.length∧ ∀j z,j<k→Ls[j]? =some z→z.fate≠1,fun t _=>xs.length - t.toNat,⟨rfl,0,rfl,by omega,fun j z hj=>by omega⟩, ?_⟩
 rintro _ g ⟨rfl,k,rfl,hkn,hno⟩
 refine⟨_,_,_,cell_at H.blk rfl, ?_⟩
 by_cases hlt:k<xs.length
 ·have q1:(k:Int)<((xs.length:Nat):Int):=by omega
  simp only[q1,decide_true,if_true,Int.toNat_natCast]
  have hx:xs[k]? =some xs[k]:=List.getElem?_eq_getElem hlt
  generalize xs[k]=v at hx
  have hLk:Ls[k]? =some v.abs:=by rw[←H.abs,List.getElem?_map,hx];rfl
  obtain⟨ab,aoff,rfl⟩:=H.own.addr (by omega)
  have held:=H.own.heldAt renc_len hx
  refine⟨_,_,_,cell_at H.blk rfl,⟨by first|trivial|omega,by first|trivial|omega⟩,onSome_some.2 ⟨(v.fate:Int),held.2.2.2.2.1, ?_⟩⟩
  by_cases hf:v.fate=1
  ·rw[if_pos (by rw[hf];rfl)]
   refine⟨_,_,_,cell_at H.blk rfl,⟨by first|trivial|omega,by first|trivial|omega⟩,onSome_some.2 (H.fate hLk 2 fun h' B st=> ?_)⟩
   exact k1 k _ hLk hf hno h' B st
  ·have hfi: ¬((v.fate:Int)==1)=true:=by simp only[beq_iff_eq];omega
   rw[if_neg hfi,wrap_id (by omega) (by omega)]
   refine⟨⟨by first|trivial|rfl,k+1,by omega,by omega,fun j z hj hz=> ?_⟩,by show xs.length - Int.toNat ((k:Int)+1)<xs.length - k;omega⟩
   by_cases e:j=k
   ·subst e;rw[hLk] at hz;obtain rfl:=Option.some.inj hz;exact hf
   ·exact hno j z (by omega) hz
 ·have q1: ¬(k:Int)<((xs.length:Nat):Int):=by omega
  simp only[q1,decide_false,Bool.false_eq_true,if_false]
  refine k2 fun z hz=> ?_
  obtain⟨j,hj⟩:=List.getElem?_of_mem hz
  exact hno j z (by have:=(List.getElem?_eq_some_iff.1 hj).1;omega) hj
theorem cancel_ok {num owner:Int} (H:Rb h x X Ls) (hl:Ls.length≤1000000)
  (k1: ∀(i:Nat) y,num=(i:Int)+1→Ls[i]? =some y→y.fate=1→y.it.owner=owner→ ∀h',Rb h' x X (Ls.set i { y with fate:=3 })→StepF X h X h'→R (.int .i64 0) h')
  (k2:(∀(i:Nat) y,num=(i:Int)+1→Ls[i]? =some y→y.fate≠1)→R (.int .i64 4) h)
  (k3: ∀(i:Nat) y,num=(i:Int)+1→Ls[i]? =some y→y.fate=1→y.it.owner≠owner→R (.int .i64 13) h):CallsH Tryz.prog F.ref23_Box_Cancel #[.pointer (some ⟨x,0,none⟩), .int .i64 num, .int .i64 owner] h R:=by
 obtain⟨lp,lc,xs,H⟩:=H
 have hlen:=H.len
 refine ref23_Box_Cancel.walk (JoinP.of fun J hJ=> ?_)
 have no:(∀(i:Nat) y,num=(i:Int)+1→Ls[i]? =some y→y.fate≠1)→J true h:=fun hh=>by
  subst hJ
  exact k2 hh
 by_cases h1:num<1
 ·simp only[h1,decide_true,if_true]
  exact no (fun i y e _=>by omega)
 simp only[h1,decide_false,Bool.false_eq_true,if_false]
 refine⟨_,_,_,cell_at H.blk rfl, ?_⟩
 by_cases h2:num>((xs.length:Nat):Int)
 ·simp only[h2,decide_true,if_true]
  exact no (fun i y e hy=>by have:=(List.getElem?_eq_some_iff.1 hy).1;omega)
 simp only[h2,decide_false,Bool.false_eq_true,if_false]
 obtain⟨i,hi⟩:=Int.eq_ofNat_of_zero_le (a:=num - 1) (by omega)
 have wi:IntKind.wrap .i64 (num - 1)=(i:Int):=by rw[wrap_id (by omega) (by omega)];exact hi
 rw[wi]
 rw[wi] at hJ
 simp only[Int.toNat_natCast] at hJ⊢
 have hix:i<xs.length:=by omega
 have hx:xs[i]? =some xs[i]:=List.getElem?_eq_getElem hix
 generalize xs[i]=v at hx
 have hLi:Ls[i]? =some v.abs:=by rw[←H.abs,List.getElem?_map,hx];rfl
 obtain⟨ab,aoff,rfl⟩:=H.own.addr (by omega)
 have held:=H.own.heldAt renc_len hx
 refine⟨_,_,_,cell_at H.blk rfl,⟨by first|trivial|omega,by first|trivial|omega⟩,onSome_some.2 ⟨(v.fate:Int),held.2.2.2.2.1, ?_⟩⟩
 by_cases hf:v.fate=1
 ·have:((v.fate:Int) !=1)=false:=by rw[hf];rfl
  rw[this]
  subst hJ
  simp only[Bool.false_eq_true,if_false]
  refine⟨_,_,_,cell_at H.blk rfl,⟨by first|trivial|omega,by first|trivial|omega⟩,onSome_some.2 ⟨v.owner,held.2.1, ?_⟩⟩
  by_cases ho:v.owner=owner
  ·rw[if_neg (by rw[ho];simp)]
   refine⟨_,_,_,cell_at H.blk rfl,⟨by first|trivial|omega,by first|trivial|omega⟩,onSome_some.2 (H.fate hLi 3 fun h' B st=> ?_)⟩
   exact k1 i _ (by omega) hLi hf ho h' B st
  ·rw[if_pos (by simpa using ho)]
   exact k3 i _ (by omega) hLi hf ho
 ·have:((v.fate:Int) !=1)=true:=by simp only[bne_iff_ne,ne_eq];omega
  rw[this]
  refine no (fun j y e hy=> ?_)
  obtain rfl:j=i:=by omega
  rw[hLi] at hy
  obtain rfl:=Option.some.inj hy
  exact hf
end Rbx
end Go.Proofs.YtgccegnmggjkjaaGreatDoor
set_option maxRecDepth 100000
namespace Go.Proofs.YtgccegnmggjkjaaGreatDoor
open Go.Den Go.Fields
namespace Rbx
open Fld Obx
variable {h h' h0 : Heap} {x : Nat} {X : Ft} {R : Value → Heap → Prop} {p q : Option Addr} {c d i : Nat} {Ls : List RI}
def cnt (Ls:List RI) (f:Nat):Nat:=(Ls.filter (fun y=>decide (y.fate=f))).length
theorem cnt_step {k:Nat} {y:RI} (hy:Ls[k]? =some y) (f:Nat):cnt (Ls.take (k+1)) f=cnt (Ls.take k) f+(if y.fate=f then 1 else 0):=by
 unfold cnt
 rw[List.take_add_one,hy,List.filter_append,List.length_append]
 by_cases e:y.fate=f
 ·simp[List.filter_cons,e]
 ·simp[List.filter_cons,e]
theorem cnt_le (Ls:List RI) (f k:Nat):cnt (Ls.take k) f≤Ls.length:=by
 unfold cnt
 refine Nat.le_trans (List.length_filter_le _ _) ?_
 rw[List.length_take];omega
theorem counts_ok (H:Rb h x X Ls) (hl:Ls.length≤1000000) (hf: ∀y∈Ls,1≤y.fate∧y.fate≤4)
  (hk: ∀h',Fr (fun _=>False) h h'→R (.agg #[.int .i64 (Ls.length:Int), .int .i64 (cnt Ls 1:Int), .int .i64 (cnt Ls 2:Int), .int .i64 (cnt Ls 3:Int), .int .i64 (cnt Ls 4:Int)]) h'):
  CallsH Tryz.prog F.ref23_Box_Counts #[.pointer (some ⟨x,0,none⟩)] h R:=by
 obtain⟨lp,lc,xs,H⟩:=H
 have hlen:=H.len
 refine ref23_Box_Counts.walk (newP_of ?_)
 have f1:Fr (fun _=>False) h (h.push (.cells #[.int .i64 0, .int .i64 0, .int .i64 0, .int .i64 0, .int .i64 0] T.a5_int)):=Fr.push _ _
 have hb1:(h.push (.cells #[.int .i64 0, .int .i64 0, .int .i64 0, .int .i64 0, .int .i64 0] T.a5_int))[h.size]? =some (.cells #[.int .i64 0, .int .i64 0, .int .i64 0, .int .i64 0, .int .i64 0] T.a5_int (0,0)):=push_new
 generalize h.push (.cells #[.int .i64 0, .int .i64 0, .int .i64 0, .int .i64 0, .int .i64 0] T.a5_int)=h1 at f1 hb1⊢
 refine⟨_,_,_,cell_at (H.on f1).blk rfl,newP_of ?_⟩
 have f2:Fr (fun _=>False) h1 (h1.push (.cells #[.int .i64 0, .int .i64 0, .int .i64 0, .int .i64 0, .int .i64 0] T.a5_int)):=Fr.push _ _
 have hb2:(h1.push (.cells #[.int .i64 0, .int .i64 0, .int .i64 0, .int .i64 0, .int .i64 0] T.a5_int))[h1.size]? =some (.cells #[.int .i64 0, .int .i64 0, .int .i64 0, .int .i64 0, .int .i64 0] T.a5_int (0,0)):=push_new
 generalize h1.push (.cells #[.int .i64 0, .int .i64 0, .int .i64 0, .int .i64 0, .int .i64 0] T.a5_int)=h2 at f2 hb2⊢
 have l1:=lt_of_get hb1
 refine storeP_blk hb2 (by simp) fun g1 a1 b1 c1=>storeP_blk a1 (by simp) fun g2 a2 b2 c2=>storeP_blk a2 (by simp) fun g3 a3 b3 c3=>storeP_blk a3 (by simp) fun g4 a4 b4 c4=>storeP_blk a4 (by simp) fun g5 a5 b5 c5=> ?_
 have f5:Fr (fun y=>y=h1.size) h2 g5:=⟨by omega,fun y hy hn=>by rw[c5 y hn,c4 y hn,c3 y hn,c2 y hn,c1 y hn]⟩
 have F5:Fr (fun _=>False) h1 g5:=f2.fresh f5 (fun y e=>Nat.le_of_eq e.symm)
 refine⟨fun t g=> ∃k:Nat,t=(k:Int)∧k≤xs.length∧g[h1.size]? =some (.cells #[.int .i64 (Ls.length:Int), .int .i64 (cnt (Ls.take k) 1:Int), .int .i64 (cnt (Ls.take k) 2:Int), .int .i64 (cnt (Ls.take k) 3:Int), .int .i64 (cnt (Ls.take k) 4:Int)] T.a5_int (0,0))∧Fr (fun _=>False) h1 g,fun t _=>xs.length - t.toNat,⟨0,rfl,by omega,by rw[a5,hlen];rfl,F5⟩, ?_⟩
 rintro _ g ⟨k,rfl,hkn,hbg,fg⟩
 have Mg:=H.on (f1.tt fg)
 refine⟨_,_,_,cell_at Mg.blk rfl, ?_⟩
 by_cases hlt:k<xs.length
 ·have q1:(k:Int)<((xs.length:Nat):Int):=by omega
  simp only[q1,decide_true,if_true,Int.toNat_natCast]
  have hx:xs[k]? =some xs[k]:=List.getElem?_eq_getElem hlt
  generalize xs[k]=v at hx
  have hLk:Ls[k]? =some v.abs:=by rw[←H.abs,List.getElem?_map,hx];rfl
  obtain⟨ab,aoff,rfl⟩:=Mg.own.addr (by omega)
  have held:=Mg.own.heldAt renc_len hx
  refine⟨_,_,_,cell_at Mg.blk rfl,⟨by first|trivial|omega,by first|trivial|omega⟩,onSome_some.2 ⟨(v.fate:Int),held.2.2.2.2.1, ?_⟩⟩
  have hfv:=hf v.abs (List.mem_of_getElem? hLk)
  have hfv:1≤v.fate∧v.fate≤4:=hfv
  have s1:=cnt_step hLk 1
  have s2:=cnt_step hLk 2
  have s3:=cnt_step hLk 3
  have s4:=cnt_step hLk 4
  have n1:=cnt_le Ls 1 k
  have n2:=cnt_le Ls 2 k
  have n3:=cnt_le Ls 3 k
  have n4:=cnt_le Ls 4 k
  have ef:v.abs.fate=v.fate:=rfl
  rw[ef] at s1 s2 s3 s4
  have fin: ∀h9,h9[h1.size]? =some (.cells #[.int .i64 (Ls.length:Int), .int .i64 (cnt (Ls.take (k+1)) 1:Int), .int .i64 (cnt (Ls.take (k+1)) 2:Int), .int .i64 (cnt (Ls.take (k+1)) 3:Int), .int .i64 (cnt (Ls.take (k+1)) 4:Int)] T.a5_int (0,0))→h9.size=g.size→(∀y,y≠h1.size→h9[y]? =g[y]?)→
    ((∃k':Nat,IntKind.wrap .i64 ((k:Int)+1)=(k':Int)∧k'≤xs.length∧h9[h1.size]? =some (.cells #[.int .i64 (Ls.length:Int), .int .i64 (cnt (Ls.take k') 1:Int), .int .i64 (cnt (Ls.take k') 2:Int), .int .i64 (cnt (Ls.take k') 3:Int), .int .i64 (cnt (Ls.take k') 4:Int)] T.a5_int (0,0))∧Fr (fun _=>False) h1 h9)∧xs.length - (IntKind.wrap .i64 ((k:Int)+1)).toNat<xs.length - k):=by
   intro h9 e1 e2 e3
   have f9:Fr (fun y=>y=h1.size) g h9:=Fr.of_eq e2 e3
   rw[wrap_id (by omega) (by omega)]
   exact⟨⟨k+1,by omega,by omega,e1,fg.fresh f9 (fun y e=>Nat.le_of_eq e.symm)⟩,by omega⟩
  have hcase:v.fate=1∨v.fate=2∨v.fate=3∨v.fate=4:=by omega
  rcases hcase with e|e|e|e
  ·rw[e] at s1 s2 s3 s4⊢
   refine⟨⟨by omega,by omega⟩,_,cell_at hbg rfl,⟨by omega,by omega⟩,storeP_blk hbg (by simp) fun h9 d1 d2 d3=>fin h9 ?_ d2 d3⟩
   rw[d1,wrap_id (by omega) (by omega),s1,s2,s3,s4];simp
  ·rw[e] at s1 s2 s3 s4⊢
   refine⟨⟨by omega,by omega⟩,_,cell_at hbg rfl,⟨by omega,by omega⟩,storeP_blk hbg (by simp) fun h9 d1 d2 d3=>fin h9 ?_ d2 d3⟩
   rw[d1,wrap_id (by omega) (by omega),s1,s2,s3,s4];simp
  ·rw[e] at s1 s2 s3 s4⊢
   refine⟨⟨by omega,by omega⟩,_,cell_at hbg rfl,⟨by omega,by omega⟩,storeP_blk hbg (by simp) fun h9 d1 d2 d3=>fin h9 ?_ d2 d3⟩
   rw[d1,wrap_id (by omega) (by omega),s1,s2,s3,s4];simp
  ·rw[e] at s1 s2 s3 s4⊢
   refine⟨⟨by omega,by omega⟩,_,cell_at hbg rfl,⟨by omega,by omega⟩,storeP_blk hbg (by simp) fun h9 d1 d2 d3=>fin h9 ?_ d2 d3⟩
   rw[d1,wrap_id (by omega) (by omega),s1,s2,s3,s4];simp
 ·have q1: ¬(k:Int)<((xs.length:Nat):Int):=by omega
  simp only[q1,decide_false,Bool.false_eq_true,if_false]
  rw[List.take_of_length_le (by omega)] at hbg
  refine⟨_,cell_at hbg rfl,_,cell_at hbg rfl,_,cell_at hbg rfl,_,cell_at hbg rfl,_,cell_at hbg rfl, ?_⟩
  have hg1:g[h.size]? =some (.cells #[.int .i64 0, .int .i64 0, .int .i64 0, .int .i64 0, .int .i64 0] T.a5_int (0,0)):=fg.get hb1 id
  refine storeP_blk hg1 (by simp) fun k1 a1 b1 c1=>storeP_blk a1 (by simp) fun k2 a2 b2 c2=>storeP_blk a2 (by simp) fun k3 a3 b3 c3=>storeP_blk a3 (by simp) fun k4 a4 b4 c4=>storeP_blk a4 (by simp) fun k5 a5 b5 c5=> ?_
  refine⟨_,cell_at a5 rfl,_,cell_at a5 rfl,_,cell_at a5 rfl,_,cell_at a5 rfl,_,cell_at a5 rfl, ?_⟩
  exact hk k5 ((f1.tt fg).fresh (S:=fun y=>y=h.size) ⟨by omega,fun y hy hn=>by rw[c5 y hn,c4 y hn,c3 y hn,c2 y hn,c1 y hn]⟩ (fun y e=>Nat.le_of_eq e.symm))
end Rbx
end Go.Proofs.YtgccegnmggjkjaaGreatDoor
set_option maxRecDepth 100000
namespace Go.Proofs.YtgccegnmggjkjaaGreatDoor
open Go.Den Go.Fields
namespace Rbx
open Fld Obx
variable {h h' h0 : Heap} {x : Nat} {X : Ft} {R : Value → Heap → Prop} {p q : Option Addr} {c d i : Nat} {Ls : List RI}
def addE (Ls:List RI) (owner:Int) (d:List UInt8) (till:Nat):Int:=if rightB owner d.length (till:Int)=true then(if cnt Ls 1≥16 then 15 else 0) else 1
theorem add_ok {owner k:Int} {bs:List UInt8} {n m:Nat} (till:Nat) (hk0:k=(till:Int)) (H:Rb h x X Ls) (hr:Row h p (bc bs)) (hn:n=bs.length) (hl:bs.length≤1000000) (hnx:Ls.length≤1000000)
  (k1:addE Ls owner bs till=0→ ∀h' X',Rb h' x X' (Ls++ [⟨⟨Ls.length+1,owner,bs,till⟩,1⟩])→StepF X h X' h'→R (.tuple #[.int .i64 ((Ls.length:Int)+1), .int .i64 0]) h')
  (k2:addE Ls owner bs till≠0→ ∀h',Fr (fun _=>False) h h'→R (.tuple #[.int .i64 0, .int .i64 (addE Ls owner bs till)]) h'):
  CallsH Tryz.prog F.ref23_Box_Add #[.pointer (some ⟨x,0,none⟩), .int .i64 owner, .slice p n m, .int .u64 k] h R:=by
 subst hk0;subst hn
 have H0:=H
 obtain⟨lp,lc,xs,H⟩:=H
 have hlen:=H.len
 refine ref23_Box_Add.walk (JoinP.of fun J hJ=> ?_)
 have no:rightB owner bs.length (till:Int)=false→J true h:=by
  intro hf
  subst hJ
  have e:addE Ls owner bs till=1:=by unfold addE;rw[hf];rfl
  rw[e] at k2
  exact k2 (by omega) h (Fr.refl _ _)
 have yes:rightB owner bs.length (till:Int)=true→J false h:=by
  intro hrt
  subst hJ
  simp only[Bool.false_eq_true,if_false]
  refine there_ok H0 hnx fun h2 p2 c2 ys o2 g2 hab hdy f2=>⟨_,_,_,rfl, ?_⟩
  have hyl:ys.length=cnt Ls 1:=by
   unfold cnt
   rw[←hab,List.length_map]
  have H2:=H.on f2
  by_cases hfull:cnt Ls 1≥16
  ·have q:((ys.length:Nat):Int)≥16:=by omega
   have e:addE Ls owner bs till=15:=by unfold addE;rw[hrt,if_pos rfl,if_pos hfull]
   rw[e] at k2
   simp only[q,decide_true,if_true]
   exact k2 (by omega) h2 f2
  ·have q: ¬((ys.length:Nat):Int)≥16:=by omega
   have e:addE Ls owner bs till=0:=by unfold addE;rw[hrt,if_pos rfl,if_neg hfull]
   have k1:=k1 e
   clear k2 hab hdy o2 g2
   simp only[q,decide_false,Bool.false_eq_true,if_false]
   refine⟨_,_,_,cell_at H2.blk rfl,ref23_Item.new fun b1 h8 eb1 hb1 f8=>⟨_,_,_,cell_at hb1 rfl, ?_⟩⟩
   have z2:=f2.1
   have z8:=f8.1
   have l1:=lt_of_get hb1
   have F8:Fr (fun _=>False) h h8:=f2.tt f8
   refine den_append tU uU (cs:= []) (.nil rfl rfl rfl rfl) (hr.frame F8 (fun _ _=>id)) (by rw[bc_len,Nat.mul_one]) (bc_one bs) (by omega) (by omega) fun p9 c9 h9 o9 _ f9 g9=>⟨_,_,_,rfl, ?_⟩
   rw[Nat.zero_add,List.nil_append] at o9
   rw[Nat.zero_add]
   have f9':Fr (fun _=>False) h8 h9:=f9.mono (fun y _ ⟨a,e,_⟩=>by cases e)
   have g9': ∀y,inBlk p9 y→h8.size≤y:=fun y hy=>(g9 y hy).elim (fun⟨a,e,_⟩=>by cases e) id
   have hb9:=f9'.get hb1 id
   refine storeP_blk hb9 (by simp) fun h10 a1 a2 a3=> ?_
   have f10:Fr (fun y=>y=b1) h9 h10:=Fr.of_eq a2 a3
   have F10:Fr (fun _=>False) h h10:=(F8.tt f9').fresh f10 (fun y e=>by omega)
   have H10:=H.on F10
   have hw:IntKind.wrap .i64 (((xs.length:Nat):Int)+1)=((Ls.length+1:Nat):Int):=by rw[wrap_id (by omega) (by omega)];omega
   have hb10:ref23_Item.at h10 b1 ((Ls.length+1:Nat):Int) owner p9 bs.length c9 (till:Int) 1:=by
    show h10[b1]? =_
    rw[a1,←hw];rfl
   refine⟨_,_,_,cell_at H10.blk rfl,ref23_Item.ld hb10 ?_⟩
   refine newP_of ⟨cell_at (H10.on (Fr.push (S:=fun _=>False) h10 _)).blk rfl, ?_⟩
   have f11:Fr (fun _=>False) h10 (h10.push (.cells #[.int .i64 ((Ls.length+1:Nat):Int), .int .i64 owner, .slice p9 bs.length c9, .int .u64 (till:Int), .int .i64 1] T.ref23_Item)):=Fr.push _ _
   have r11:Row (h10.push (.cells #[.int .i64 ((Ls.length+1:Nat):Int), .int .i64 owner, .slice p9 bs.length c9, .int .u64 (till:Int), .int .i64 1] T.ref23_Item)) (some ⟨h10.size,0,none⟩) [.int .i64 ((Ls.length+1:Nat):Int), .int .i64 owner, .slice p9 bs.length c9, .int .u64 (till:Int), .int .i64 1]:=row_new
   generalize h10.push (.cells #[.int .i64 ((Ls.length+1:Nat):Int), .int .i64 owner, .slice p9 bs.length c9, .int .u64 (till:Int), .int .i64 1] T.ref23_Item)=h11 at f11 r11⊢
   have H11:=H10.on f11
   have hb11:ref23_Item.at h11 b1 ((Ls.length+1:Nat):Int) owner p9 bs.length c9 (till:Int) 1:=f11.get hb10 id
   refine den_append tR uR H11.own r11 rfl (fun v hv=>by simp at hv;rcases hv with rfl|rfl|rfl|rfl|rfl<;>rfl) (by omega) (by omega) fun p12 c12 h12 o12 _ f12 g12=>⟨_,_,_,rfl, ?_⟩
   have z9:=f9'.1
   have z11:=f11.1
   have z12:=f12.1
   have lb:=lt_of_get H.blk
   have k12:=f12.get H11.blk H.bl
   refine storeP_blk k12 (by simp) fun h13 d1 d2 d3=> ?_
   have f13:Fr (fun y=>y=x) h12 h13:=Fr.of_eq d2 d3
   have nlp: ∀y,h.size≤y→ ¬inBlk lp y:=fun y hy hx=>by have:=H.own.blk_lt hx;omega
   have hb13:ref23_Item.at h13 b1 ((Ls.length+1:Nat):Int) owner p9 bs.length c9 (till:Int) 1:=(d3 b1 (by omega)).trans (f12.get hb11 (nlp b1 (by omega)))
   refine⟨_,cell_at hb13 rfl, ?_⟩
   rw[show((Ls.length+1:Nat):Int)=(Ls.length:Int)+1 by omega]
   have F11:Fr (fun _=>False) h h11:=F10.tt f11
   have F13:Fr X.M h h13:=((Fr.no F11 f12).mono (fun y _ hx=>(H.m y).2 (.inr hx))).tt (f13.mono (fun y _ e=>(H.m y).2 (.inl e)))
   have p9y: ∀y,inBlk p9 y→h8.size≤y∧y<h9.size:=fun y hy=>⟨g9' y hy,o9.blk_lt hy⟩
   have p12y: ∀y,inBlk p12 y→inBlk lp y∨h11.size≤y:=g12
   have o13:Own h13 p9 bs.length c9 1 (bc bs):=(((o9.frame f10 (fun y hy e=>by have:=p9y y hy;omega)).frame f11 (fun _ _=>id)).frame f12 (fun y hy hx=>nlp y (by have:=p9y y hy;omega) hx)).frame f13 (fun y hy e=>by have:=p9y y hy;omega)
   have cat:xs.flatMap renc++ [.int .i64 ((Ls.length+1:Nat):Int), .int .i64 owner, .slice p9 bs.length c9, .int .u64 (till:Int), .int .i64 1]=(xs++ [(⟨Ls.length+1,owner,⟨p9,c9,bs⟩,till,1⟩:RV)]).flatMap renc:=by rw[List.flatMap_append];simp
   have ln:(xs++ [(⟨Ls.length+1,owner,⟨p9,c9,bs⟩,till,1⟩:RV)]).length=xs.length+1:=by rw[List.length_append];rfl
   have nx12: ∀y,inBlk p12 y→y≠x:=fun y hy e=>(p12y y hy).elim (fun h1=>H.bl (e▸h1)) (fun h1=>by omega)
   refine k1 h13 ⟨fun y=>y=x∨inBlk p12 y,fun y=>X.D y∨inBlk p9 y⟩ ⟨p12,c12,xs++ [⟨Ls.length+1,owner,⟨p9,c9,bs⟩,till,1⟩],⟨?_, ?_, ?_, ?_,fun _=>Iff.rfl,fun hx=>nx12 x hx rfl, ?_, ?_⟩⟩ ⟨F13, ?_, ?_,fun _=> .inl⟩
   ·rw[d1,ln];rfl
   ·rw[ln,←cat];exact o12.frame f13 nx12
   ·rw[List.map_append,H.abs];rfl
   ·intro v hv
    rcases List.mem_append.1 hv with hv|hv
    ·exact((H.dat v hv).frame F13 (fun y hd hm=>H.dis y hm hd)).mono (fun y=> .inl)
    ·obtain rfl:=List.mem_singleton.1 hv
     exact BV.of_own o13 (fun y=> .inr)
   ·rintro y hy (hd|hd)
    ·rcases hy with rfl|hy
     ·exact H.dis _ ((H.m _).2 (.inl rfl)) hd
     ·exact(p12y y hy).elim (fun h1=>H.dis _ ((H.m _).2 (.inr h1)) hd) (fun h1=>by have:=H.dlt y hd;omega)
    ·have hp:=p9y y hd
     rcases hy with rfl|hy
     ·omega
     ·exact(p12y y hy).elim (fun h1=>nlp y (by omega) h1) (fun h1=>by omega)
   ·rintro y (hd|hd)
    ·exact Nat.lt_of_lt_of_le (H.dlt y hd) F13.1
    ·have:=p9y y hd;omega
   ·rintro y (rfl|hy)
    ·exact .inl ((H.m _).2 (.inl rfl))
    ·exact(p12y y hy).imp (fun h1=>(H.m _).2 (.inr h1)) (fun h1=>by omega)
   ·rintro y (hy|hy)
    ·exact .inl hy
    ·exact .inr (by have:=p9y y hy;omega)
 by_cases h1:owner<1
 ·simp only[h1,decide_true,if_true]
  exact no (by simp[rightB,show¬1≤owner by omega])
 simp only[h1,decide_false,Bool.false_eq_true,if_false]
 by_cases h2:owner>1099511627776
 ·simp only[h2,decide_true,if_true]
  exact no (by simp[rightB,show¬owner≤1099511627776 by omega])
 simp only[h2,decide_false,Bool.false_eq_true,if_false]
 by_cases h3:((bs.length:Nat):Int)<1
 ·simp only[h3,decide_true,if_true]
  exact no (by simp[rightB,show¬1≤bs.length by omega])
 simp only[h3,decide_false,Bool.false_eq_true,if_false]
 by_cases h4:((bs.length:Nat):Int)>600
 ·simp only[h4,decide_true,if_true]
  exact no (by simp[rightB,show¬bs.length≤600 by omega])
 simp only[h4,decide_false,Bool.false_eq_true,if_false]
 by_cases h5:(till:Int)>1099511627776
 ·simp only[h5,decide_true]
  exact no (by simp only[rightB,show¬(till:Int)≤1099511627776 by omega,decide_false,Bool.and_false])
 ·simp only[h5,decide_false]
  exact yes (rightB_iff.2 ⟨by omega,by omega,by omega,by omega,by omega⟩)
end Rbx
end Go.Proofs.YtgccegnmggjkjaaGreatDoor
set_option maxRecDepth 100000
namespace Go.Proofs.YtgccegnmggjkjaaGreatDoor
open Go.Den Go.Fields
namespace Rbx
open Fld Obx
structure Rel (s:BS) (Ls:List RI):Prop where
 there:s.items=(Ls.filter (fun y=>decide (y.fate=1))).map RI.it
 next:s.next=Ls.length+1
 taken:s.taken=cnt Ls 2
 canc:s.canc=cnt Ls 3
 over:s.over=cnt Ls 4
 fates: ∀y∈Ls,1≤y.fate∧y.fate≤4
 nums: ∀i y,Ls[i]? =some y→y.it.num=i+1
end Rbx
end Go.Proofs.YtgccegnmggjkjaaGreatDoor
set_option maxRecDepth 100000
namespace Go.Proofs.YtgccegnmggjkjaaGreatDoor
open Go.Den Go.Fields
namespace Rbx
open Fld Obx
variable {h h' h0 : Heap} {x b : Nat} {X Y : Ft} {R : Value → Heap → Prop} {p q : Option Addr} {c d i : Nat} {Ls : List RI} {s : BS}
def overL (Ls:List RI) (ms:List Nat):List RI:=Ls.mapIdx (fun i y=>if i∈ms then⟨y.it,4⟩ else y)
theorem overL_nil:overL Ls []=Ls:=by
 unfold overL
 apply List.ext_getElem?
 intro i
 rw[List.getElem?_mapIdx]
 cases Ls[i]? <;>simp
theorem overL_len (ms:List Nat):(overL Ls ms).length=Ls.length:=by unfold overL;rw[List.length_mapIdx]
theorem overL_at {ms:List Nat} {i:Nat} :(overL Ls ms)[i]? =(Ls[i]?).map (fun y=>if i∈ms then⟨y.it,4⟩ else y):=by unfold overL;rw[List.getElem?_mapIdx]
theorem overL_set {ms:List Nat} {j:Nat} {y:RI} (hy:(overL Ls ms)[j]? =some y):(overL Ls ms).set j { y with fate:=4 } =overL Ls (ms++ [j]):=by
 apply List.ext_getElem?
 intro i
 rw[List.getElem?_set,overL_at,overL_at]
 rw[overL_at] at hy
 by_cases e:j=i
 ·subst e
  cases hL:Ls[j]? with
  |none=>rw[hL] at hy;cases hy
  |some z=>
   rw[hL] at hy
   have hy:=Option.some.inj hy
   have hlt:j<(overL Ls ms).length:=by rw[overL_len];exact(List.getElem?_eq_some_iff.1 hL).1
   rw[if_pos rfl,if_pos hlt]
   simp only[Option.map_some,List.mem_append,List.mem_singleton,or_true,if_true]
   rw[←hy]
   split<;>rfl
 ·rw[if_neg e]
  cases hL:Ls[i]? with
  |none=>rfl
  |some z=>
   have: ¬i=j:=fun h=>e h.symm
   simp[this]
def dueR (now:Int) (y:RI):Prop:=y.fate=1∧(y.it.till:Int)≤now
def least (Ls:List RI) (now:Int) (k:Nat) (m:Nat):Prop:= ∃y,Ls[m]? =some y∧m<k∧dueR now y∧ ∀j z,j<k→Ls[j]? =some z→dueR now z→y.it.till<z.it.till∨(y.it.till=z.it.till∧m≤j)
theorem pick_ok {now : Int} {K : Int → Heap → Prop} (H : Rb h x X Ls) (hl : Ls.length ≤ 1000000)
    (k1 : ∀ m, least Ls now Ls.length m → K (m : Int) h) (k2 : (∀ z ∈ Ls, ¬ dueR now z) → K (-1) h) :
    ∃ (I_1 : Int → Int → Heap → Prop) (mu_1 : Int → Int → Heap → Nat), I_1 (-1) 0 h ∧ ∀ (best : Int) (i : Int) (h_2 : Heap), I_1 best i h_2 →
      ∃ (t12_p : Option Addr) (t12_l t12_c : Nat), hcell h_2 ⟨x, 0, none⟩ = some (.slice t12_p t12_l t12_c) ∧
      if (decide (i < ((t12_l : Nat) : Int))) = true then
        JoinP (fun (best_1 : Int) (h_3 : Heap) =>
          (I_1 best_1 (IntKind.wrap .i64 (i + 1)) h_3 ∧ mu_1 best_1 (IntKind.wrap .i64 (i + 1)) h_3 < mu_1 best i h_2))
        (fun J =>
          JoinP (fun (t60 : Bool) (h_4 : Heap) =>
            JoinP (fun (best_2 : Int) (h_5 : Heap) =>
              J best_2 h_5)
            (fun J_2 =>
              if t60 = true then
                J_2 i h_4
              else
                J_2 best h_4))
          (fun J_1 =>
            ∃ (t20_p : Option Addr) (t20_l t20_c : Nat), hcell h_2 ⟨x, 0, none⟩ = some (.slice t20_p t20_l t20_c) ∧
            ((0 : Int) ≤ i ∧ i < ((t20_l : Nat) : Int)) ∧
            onSome t20_p fun a =>
            ∃ (t24 : Int), hcell h_2 ((a.add (Int.toNat i * 5)).add 4) = some (.int .i64 t24) ∧
            if (t24 == 1) = true then
              ∃ (t30_p : Option Addr) (t30_l t30_c : Nat), hcell h_2 ⟨x, 0, none⟩ = some (.slice t30_p t30_l t30_c) ∧
              ((0 : Int) ≤ i ∧ i < ((t30_l : Nat) : Int)) ∧
              onSome t30_p fun a_1 =>
              ∃ (t34 : Int), hcell h_2 ((a_1.add (Int.toNat i * 5)).add 3) = some (.int .u64 t34) ∧
              if (decide (t34 ≤ now)) = true then
                if (decide (best < 0)) = true then
                  J_1 true h_2
                else
                  ∃ (t45_p : Option Addr) (t45_l t45_c : Nat), hcell h_2 ⟨x, 0, none⟩ = some (.slice t45_p t45_l t45_c) ∧
                  ((0 : Int) ≤ i ∧ i < ((t45_l : Nat) : Int)) ∧
                  onSome t45_p fun a_2 =>
                  ∃ (t49 : Int), hcell h_2 ((a_2.add (Int.toNat i * 5)).add 3) = some (.int .u64 t49) ∧
                  ∃ (t53_p : Option Addr) (t53_l t53_c : Nat), hcell h_2 ⟨x, 0, none⟩ = some (.slice t53_p t53_l t53_c) ∧
                  ((0 : Int) ≤ best ∧ best < ((t53_l : Nat) : Int)) ∧
                  onSome t53_p fun a_3 =>
                  ∃ (t57 : Int), hcell h_2 ((a_3.add (Int.toNat best * 5)).add 3) = some (.int .u64 t57) ∧
                  J_1 (decide (t49 < t57)) h_2
              else
                J_1 false h_2
            else
              J_1 false h_2))
      else
        K best h_2 := by
  obtain ⟨lp, lc, xs, H⟩ := H
  have hlen := H.len
  refine ⟨fun best i g => g = h ∧ ∃ k : Nat, i = (k : Int) ∧ k ≤ xs.length ∧ ((best = -1 ∧ ∀ j z, j < k → Ls[j]? = some z → ¬ dueR now z) ∨ ∃ m : Nat, best = (m : Int) ∧ least Ls now k m), fun _ i _ => xs.length - i.toNat, ⟨rfl, 0, rfl, by omega, .inl ⟨rfl, fun j z hj => by omega⟩⟩, ?_⟩
  rintro best _ g ⟨rfl, k, rfl, hkn, hbest⟩
  refine ⟨_, _, _, cell_at H.blk rfl, ?_⟩
  by_cases hlt : k < xs.length
  · have q1 : (k : Int) < ((xs.length : Nat) : Int) := by omega
    simp only [q1, decide_true, if_true, Int.toNat_natCast]
    have hx : xs[k]? = some xs[k] := List.getElem?_eq_getElem hlt
    generalize xs[k] = v at hx
    have hLk : Ls[k]? = some v.abs := by rw [← H.abs, List.getElem?_map, hx]; rfl
    obtain ⟨ab, aoff, rfl⟩ := H.own.addr (by omega)
    have held := H.own.heldAt renc_len hx
    refine JoinP.of fun J hJ => JoinP.of fun J1 hJ1 => ?_
    have wr : IntKind.wrap .i64 ((k : Int) + 1) = (k : Int) + 1 := wrap_id (by omega) (by omega)
    have go : ∀ best' : Int, ((best' = -1 ∧ ∀ j z, j < k + 1 → Ls[j]? = some z → ¬ dueR now z) ∨ ∃ m : Nat, best' = (m : Int) ∧ least Ls now (k + 1) m) → J best' g := by
      intro best' hb'
      subst hJ
      try dsimp only
      rw [wr]
      exact ⟨⟨by first | trivial | rfl, k + 1, by omega, by omega, hb'⟩, by show xs.length - Int.toNat ((k : Int) + 1) < xs.length - k; omega⟩
    have stay : ¬ dueR now v.abs → J1 false g := by
      intro hnd
      subst hJ1
      refine JoinP.of fun J2 hJ2 => ?_
      subst hJ2
      simp only [Bool.false_eq_true, if_false]
      refine go best ?_
      rcases hbest with ⟨e, hno⟩ | ⟨m, e, y, hy, hm, hd, hmin⟩
      · refine .inl ⟨e, fun j z hj hz => ?_⟩
        by_cases ej : j = k
        · subst ej; rw [hLk] at hz; obtain rfl := Option.some.inj hz; exact hnd
        · exact hno j z (by omega) hz
      · refine .inr ⟨m, e, y, hy, by omega, hd, fun j z hj hz hdz => ?_⟩
        by_cases ej : j = k
        · subst ej; rw [hLk] at hz; obtain rfl := Option.some.inj hz; exact absurd hdz hnd
        · exact hmin j z (by omega) hz hdz
    refine ⟨_, _, _, cell_at H.blk rfl, ⟨by first | trivial | omega, by first | trivial | omega⟩, onSome_some.2 ⟨(v.fate : Int), held.2.2.2.2.1, ?_⟩⟩
    by_cases hf : v.fate = 1
    · rw [if_pos (by rw [hf]; rfl)]
      refine ⟨_, _, _, cell_at H.blk rfl, ⟨by first | trivial | omega, by first | trivial | omega⟩, onSome_some.2 ⟨(v.till : Int), held.2.2.2.1, ?_⟩⟩
      by_cases ht : (v.till : Int) ≤ now
      · have hdv : dueR now v.abs := ⟨hf, ht⟩
        simp only [ht, decide_true, if_true]
        rcases hbest with ⟨e, hno⟩ | ⟨m, e, y, hy, hm, hd, hmin⟩
        · rw [if_pos (by rw [e]; decide)]
          subst hJ1
          refine JoinP.of fun J2 hJ2 => ?_
          subst hJ2
          simp only [if_true]
          refine go (k : Int) (.inr ⟨k, rfl, v.abs, hLk, by omega, hdv, fun j z hj hz hdz => ?_⟩)
          by_cases ej : j = k
          · subst ej; rw [hLk] at hz; obtain rfl := Option.some.inj hz; exact .inr ⟨rfl, Nat.le_refl _⟩
          · exact absurd hdz (hno j z (by omega) hz)
        · have q2 : ¬ best < 0 := by omega
          simp only [q2, decide_false, Bool.false_eq_true, if_false]
          obtain ⟨w, hw, hwa⟩ := H.get hy
          have heldw := H.own.heldAt renc_len hw
          refine ⟨_, _, _, cell_at H.blk rfl, ⟨by first | trivial | omega, by first | trivial | omega⟩, onSome_some.2 ⟨(v.till : Int), held.2.2.2.1, _, _, _, cell_at H.blk rfl, ⟨by omega, by omega⟩, onSome_some.2 ⟨(w.till : Int), by rw [e, Int.toNat_natCast]; exact heldw.2.2.2.1, ?_⟩⟩⟩
          have hwt : w.till = y.it.till := congrArg (fun r : RI => r.it.till) hwa
          subst hJ1
          refine JoinP.of fun J2 hJ2 => ?_
          subst hJ2
          by_cases hlt2 : v.till < w.till
          · have : (v.till : Int) < (w.till : Int) := by omega
            simp only [this, decide_true, if_true]
            refine go (k : Int) (.inr ⟨k, rfl, v.abs, hLk, by omega, hdv, fun j z hj hz hdz => ?_⟩)
            have hvt : v.abs.it.till = v.till := rfl
            by_cases ej : j = k
            · subst ej; rw [hLk] at hz; obtain rfl := Option.some.inj hz; exact .inr ⟨rfl, Nat.le_refl _⟩
            · rcases hmin j z (by omega) hz hdz with h1 | h1
              · left; omega
              · left; omega
          · have : ¬ (v.till : Int) < (w.till : Int) := by omega
            simp only [this, decide_false, Bool.false_eq_true, if_false]
            refine go best (.inr ⟨m, e, y, hy, by omega, hd, fun j z hj hz hdz => ?_⟩)
            by_cases ej : j = k
            · subst ej
              rw [hLk] at hz
              obtain rfl := Option.some.inj hz
              have hvt : v.abs.it.till = v.till := rfl
              rcases Nat.lt_or_ge y.it.till v.till with h1 | h1
              · left; omega
              · right; exact ⟨by omega, by omega⟩
            · exact hmin j z (by omega) hz hdz
      · simp only [ht, decide_false, Bool.false_eq_true, if_false]
        exact stay (fun hd => ht hd.2)
    · have hfi : ¬ ((v.fate : Int) == 1) = true := by simp only [beq_iff_eq]; omega
      rw [if_neg hfi]
      exact stay (fun hd => hf hd.1)
  · have q1 : ¬ (k : Int) < ((xs.length : Nat) : Int) := by omega
    simp only [q1, decide_false, Bool.false_eq_true, if_false]
    obtain rfl : k = xs.length := by omega
    rcases hbest with ⟨rfl, hno⟩ | ⟨m, rfl, hm⟩
    · refine k2 fun z hz => ?_
      obtain ⟨j, hj⟩ := List.getElem?_of_mem hz
      exact hno j z (by have := (List.getElem?_eq_some_iff.1 hj).1; omega) hj
    · rw [hlen] at hm
      exact k1 m hm
def kvR (Ls:List RI) (i:Nat):Heapq.E:=(((i+1:Nat):Int),(((Ls[i]?).map (fun y=>(y.it.till:Int))).getD 0))
theorem nodup_le: ∀ {n:Nat} {ms:List Nat},ms.Nodup→(∀i∈ms,i<n)→ms.length≤n
 |0,ms,_,hb=>by
  cases ms with
  |nil=>simp
  |cons a r=>have:=hb a (by simp);omega
 |n+1,ms,hn,hb=>by
  have h1:=nodup_le (n:=n) (ms:=ms.erase n) (hn.erase n) (fun i hi=>by
   have h2:=(List.Nodup.mem_erase_iff hn).1 hi
   have:=hb i h2.2
   omega)
  have h3:(ms.erase n).length=if n∈ms then ms.length - 1 else ms.length:=List.length_erase ..
  split at h3<;>omega
theorem uSI:Tryz.prog.underlying T.s_int=some (.slice T.int):=by kernel_rfl
theorem pass_ok {k:Int} (now:Nat) (hk0:k=(now:Int)) (H:Rb h x X Ls) (hl:Ls.length≤1000000)
  (hk: ∀h' p' c' (ms:List Nat),Own h' p' ms.length c' 1 (ms.map fun(i:Nat)=> .int .i64 (i:Int))→(∀y,inBlk p' y→h.size≤y)→Rb h' x X (overL Ls ms)→StepF X h X h'→
   (ms.map (kvR Ls)).Pairwise Heapq.lt→(∀i,i∈ms↔ ∃y,Ls[i]? =some y∧dueR (now:Int) y)→R (.slice p' ms.length c') h'):
  CallsH Tryz.prog F.ref23_Box_Pass #[.pointer (some ⟨x,0,none⟩), .int .u64 k] h R:=by
 subst hk0
 refine ref23_Box_Pass.walk ?_
 refine⟨fun op ol oc g=> ∃ms:List Nat,ol=ms.length∧Own g op ol oc 1 (ms.map fun(i:Nat)=> .int .i64 (i:Int))∧(∀y,inBlk op y→h.size≤y)∧Rb g x X (overL Ls ms)∧StepF X h X g∧(ms.map (kvR Ls)).Pairwise Heapq.lt∧ms.Nodup∧(∀i∈ms,∃y,Ls[i]? =some y∧dueR (now:Int) y)∧(∀m∈ms,∀i y,i∉ms→Ls[i]? =some y→dueR (now:Int) y→Heapq.lt (kvR Ls m) (kvR Ls i)),fun _ ol _ _=>Ls.length - ol,
  ⟨[],rfl, .nil rfl rfl rfl rfl,(fun y ⟨a,e,_⟩=>by cases e),by rw[overL_nil];exact H,StepF.refl _ _, .nil, .nil,(fun i hi=>by cases hi),fun m hm=>by cases hm⟩, ?_⟩
 rintro op ol oc g ⟨ms,rfl,o,hop,B,st,hs,hnd,hdue,hmin⟩
 have hlen:(overL Ls ms).length=Ls.length:=overL_len ms
 have mlt: ∀i∈ms,i<Ls.length:=fun i hi=>by
  obtain⟨y,hy,_⟩:=hdue i hi
  exact(List.getElem?_eq_some_iff.1 hy).1
 have hml:=nodup_le hnd mlt
 refine pick_ok (now:=(now:Int)) B (by omega) (fun m hm=> ?_) (fun hno=> ?_)
 ·obtain⟨y,hy,hmk,hd,hleast⟩:=hm
  have q: ¬(m:Int)<0:=by omega
  simp only[q,decide_false,Bool.false_eq_true,if_false,Int.toNat_natCast]
  have hold:m∉ms∧Ls[m]? =some y:=by
   rw[overL_at] at hy
   cases hL:Ls[m]? with
   |none=>rw[hL] at hy;cases hy
   |some z=>
    rw[hL] at hy
    have hy:=Option.some.inj hy
    dsimp only at hy
    by_cases hmem:m∈ms
    ·rw[if_pos hmem] at hy
     have:=hd.1
     rw[←hy] at this
     cases this
    ·rw[if_neg hmem] at hy
     exact⟨hmem,by rw[hy]⟩
  have hml2:=nodup_le (n:=Ls.length) (ms:=ms++ [m]) (List.nodup_append.2 ⟨hnd,by simp,fun a ha b hb e=>by simp at hb;subst hb;exact hold.1 (e▸ha)⟩) (fun i hi=>by
   rcases List.mem_append.1 hi with hi|hi
   ·exact mlt i hi
   ·obtain rfl:=List.mem_singleton.1 hi
    exact(List.getElem?_eq_some_iff.1 hold.2).1)
  rw[List.length_append,List.length_singleton] at hml2
  refine den_append1 Alarm.tI uSI o rfl (fun v hv=>by simp at hv;subst hv;rfl) (by omega) (by omega) fun p7 c7 h7 o7 f7 g7=>⟨_,_,_,rfl, ?_⟩
  obtain⟨lp,lc,xs,M⟩:=B
  have zz:=st.fr.1
  have nop: ∀y,X.M y∨X.D y→ ¬inBlk op y:=fun y hy hq=>by have:=H.lt y hy;have:=hop y hq;omega
  have M7:=M.frame f7 nop
  have hxl:=M7.len
  rw[hlen] at hmk
  obtain⟨ab,aoff,rfl⟩:=M7.own.addr (by omega)
  refine⟨_,_,_,cell_at M7.blk rfl,⟨by first|trivial|omega,by first|trivial|omega⟩,onSome_some.2 (M7.fate hy 4 fun h8 B8 s8=> ?_)⟩
  rw[overL_set hy] at B8
  have hop7: ∀y,inBlk p7 y→h.size≤y:=fun y hy=>(g7 y hy).elim (hop y) (fun h2=>by omega)
  have s7:StepF X h X h7:=by
   refine⟨⟨Nat.le_trans st.fr.1 f7.1,fun y hy hn=> ?_⟩,st.newM,st.newD,st.oldD⟩
   rw[f7.2 y (by omega) (fun hq=>by have:=hop y hq;omega)]
   exact st.fr.2 y hy hn
  have ltm: ∀j z,j∉ms→j≠m→Ls[j]? =some z→dueR (now:Int) z→Heapq.lt (kvR Ls m) (kvR Ls j):=by
   intro j z hj hjm hz hdz
   have h1:(overL Ls ms)[j]? =some z:=by rw[overL_at,hz,Option.map_some,if_neg hj]
   have hjl:=(List.getElem?_eq_some_iff.1 hz).1
   have h2:=hleast j z (by omega) h1 hdz
   unfold kvR Heapq.lt
   rw[hold.2,hz]
   simp only[Option.map_some,Option.getD_some]
   rcases h2 with h2|h2
   ·left;omega
   ·right;omega
  refine⟨⟨ms++ [m],by rw[List.length_append];rfl, ?_,hop7,B8,s7.trans s8, ?_, ?_, ?_, ?_⟩,by show Ls.length - (ms.length+1)<Ls.length - ms.length;omega⟩
  ·rw[List.map_append]
   exact o7.frame s8.fr (fun y hy hm=>by have:=H.lt y (.inl hm);have:=hop7 y hy;omega)
  ·rw[List.map_append,List.pairwise_append]
   refine⟨hs,by simp,fun a ha b hb=> ?_⟩
   simp at hb
   subst hb
   obtain⟨m',hm',rfl⟩:=List.mem_map.1 ha
   exact hmin m' hm' m y hold.1 hold.2 hd
  ·exact List.nodup_append.2 ⟨hnd,by simp,fun a ha b hb e=>by simp at hb;subst hb;exact hold.1 (e▸ha)⟩
  ·intro i hi
   rcases List.mem_append.1 hi with hi|hi
   ·exact hdue i hi
   ·obtain rfl:=List.mem_singleton.1 hi
    exact⟨y,hold.2,hd⟩
  ·intro m' hm' i z hi hz hdz
   have hi1:i∉ms:=fun h=>hi (List.mem_append_left _ h)
   have hi2:i≠m:=fun h=>hi (by rw[h];simp)
   rcases List.mem_append.1 hm' with hm'|hm'
   ·exact hmin m' hm' i z hi1 hz hdz
   ·obtain rfl:=List.mem_singleton.1 hm'
    exact ltm i z hi1 hi2 hz hdz
 ·rw[if_pos (by decide)]
  refine hk g op oc ms o hop B st hs (fun i=>⟨hdue i,fun⟨y,hy,hdy⟩=> ?_⟩)
  apply Classical.byContradiction
  intro hni
  have h1:(overL Ls ms)[i]? =some y:=by rw[overL_at,hy,Option.map_some,if_neg hni]
  exact hno y (List.mem_of_getElem? h1) hdy
end Rbx
end Go.Proofs.YtgccegnmggjkjaaGreatDoor
set_option maxRecDepth 100000
namespace Go.Proofs.YtgccegnmggjkjaaGreatDoor
open Go.Den Go.Fields
namespace Rbx
open Fld Obx
variable {h h' h0 : Heap} {x b : Nat} {X Y : Ft} {R : Value → Heap → Prop} {p q : Option Addr} {c d i : Nat} {Ls : List RI} {s : BS}
def headN (Ls:List RI):List Nat:= [Ls.length+1,cnt Ls 2,cnt Ls 3,cnt Ls 4,cnt Ls 1]
def headE (Ls:List RI) (k:Nat):List UInt8:=((headN Ls).take k).flatMap encNum
def thereL (Ls:List RI):List It:=(Ls.filter (fun y=>decide (y.fate=1))).map RI.it
theorem save_ok (B:Rb h x Y Ls) (hl:Ls.length≤1000000) (hf: ∀y∈Ls,1≤y.fate∧y.fate≤4) (hit: ∀z∈thereL Ls,z.num≤1000000000∧0≤z.owner∧z.owner≤1099511627776∧z.d.length≤600∧z.till≤1099511627776)
  (hk: ∀h' p' l' c',BL h h' p' l' c' (headE Ls 5::(thereL Ls).map recI)→Fr (fun _=>False) h h'→R (.slice p' l' c') h'):
  CallsH Tryz.prog F.ref23_Box_Save #[.pointer (some ⟨x,0,none⟩)] h R:=by
 have hB: ∀ {g:Heap},Fr (fun _=>False) h g→Rb g x Y Ls:=fun f=>B.frame f (fun _ _=>id)
 have n1:=cnt_le Ls 1 Ls.length
 have n2:=cnt_le Ls 2 Ls.length
 have n3:=cnt_le Ls 3 Ls.length
 have n4:=cnt_le Ls 4 Ls.length
 rw[List.take_length] at n1 n2 n3 n4
 refine ref23_Box_Save.walk (counts_ok B hl hf fun h1 f1=>⟨_,_,_,_,_,rfl,newP_of ?_⟩)
 have f2:Fr (fun _=>False) h1 (h1.push (.cells #[.int .i64 0, .int .i64 0, .int .i64 0, .int .i64 0, .int .i64 0] T.a5_int)):=Fr.push _ _
 have hb2:(h1.push (.cells #[.int .i64 0, .int .i64 0, .int .i64 0, .int .i64 0, .int .i64 0] T.a5_int))[h1.size]? =some (.cells #[.int .i64 0, .int .i64 0, .int .i64 0, .int .i64 0, .int .i64 0] T.a5_int (0,0)):=push_new
 generalize h1.push (.cells #[.int .i64 0, .int .i64 0, .int .i64 0, .int .i64 0, .int .i64 0] T.a5_int)=h2 at f2 hb2⊢
 refine storeP_blk hb2 (by simp) fun g1 a1 b1 c1=>storeP_blk a1 (by simp) fun g2 a2 b2 c2=>storeP_blk a2 (by simp) fun g3 a3 b3 c3=>storeP_blk a3 (by simp) fun g4 a4 b4 c4=>storeP_blk a4 (by simp) fun g5 a5 b5 c5=> ?_
 have f5:Fr (fun y=>y=h1.size) h2 g5:=⟨by omega,fun y hy hn=>by rw[c5 y hn,c4 y hn,c3 y hn,c2 y hn,c1 y hn]⟩
 have F5:Fr (fun _=>False) h g5:=f1.tt (f2.fresh f5 (fun y e=>Nat.le_of_eq e.symm))
 refine there_ok (hB F5) hl fun h8 p8 c8 ys o8 g8 hab hdy f8=>⟨_,_,_,rfl, ?_⟩
 have hyl:ys.length=cnt Ls 1:=by unfold cnt;rw[←hab,List.length_map]
 have a8:=f8.get a5 id
 have F8:=F5.tt f8
 obtain⟨lp,lc,xs,M8⟩:=hB F8
 have hxl:=M8.len
 refine⟨_,_,_,cell_at M8.blk rfl,⟨by omega,by omega⟩,_,cell_at a8 rfl,⟨by omega,by omega⟩,_,cell_at a8 rfl,⟨by omega,by omega⟩,_,cell_at a8 rfl,newP_of ?_⟩
 have hw:IntKind.wrap .i64 (((xs.length:Nat):Int)+1)=((Ls.length+1:Nat):Int):=by rw[wrap_id (by omega) (by omega)];omega
 rw[hw,hyl]
 have f9:Fr (fun _=>False) h8 (h8.push (.cells #[.int .i64 ((Ls.length+1:Nat):Int), .int .i64 (cnt Ls 2:Int), .int .i64 (cnt Ls 3:Int), .int .i64 (cnt Ls 4:Int), .int .i64 ((cnt Ls 1:Nat):Int)] T.int)):=Fr.push _ _
 have hb9:(h8.push (.cells #[.int .i64 ((Ls.length+1:Nat):Int), .int .i64 (cnt Ls 2:Int), .int .i64 (cnt Ls 3:Int), .int .i64 (cnt Ls 4:Int), .int .i64 ((cnt Ls 1:Nat):Int)] T.int))[h8.size]? =some (.cells #[.int .i64 ((Ls.length+1:Nat):Int), .int .i64 (cnt Ls 2:Int), .int .i64 (cnt Ls 3:Int), .int .i64 (cnt Ls 4:Int), .int .i64 ((cnt Ls 1:Nat):Int)] T.int (0,0)):=push_new
 generalize h8.push (.cells #[.int .i64 ((Ls.length+1:Nat):Int), .int .i64 (cnt Ls 2:Int), .int .i64 (cnt Ls 3:Int), .int .i64 (cnt Ls 4:Int), .int .i64 ((cnt Ls 1:Nat):Int)] T.int)=h9 at f9 hb9⊢
 have F9:=F8.tt f9
 refine⟨cell_at (M8.on f9).blk rfl, ?_⟩
 have z9:=F9.1
 refine⟨fun hp hl' hc t g=> ∃k:Nat,t=(k:Int)∧k≤5∧hl'=(headE Ls k).length∧Own g hp hl' hc 1 (bc (headE Ls k))∧(∀y,inBlk hp y→h9.size≤y)∧(headE Ls k).length≤10*k∧Fr (fun _=>False) h9 g,fun _ _ _ t _=>5 - t.toNat,⟨0,rfl,by omega,rfl, .nil rfl rfl rfl rfl,(fun y ⟨a,e,_⟩=>by cases e),by simp[headE],Fr.refl _ _⟩, ?_⟩
 rintro hp hl' hc _ g ⟨k,rfl,hk5,rfl,oh,gh,hh,fg⟩
 have hbg:=fg.get hb9 id
 by_cases hlt:k<5
 ·have q1:(k:Int)<5:=by omega
  simp only[q1,decide_true,if_true,Int.toNat_natCast]
  have hcell: ∃n:Nat,(headN Ls)[k]? =some n∧n≤1000001∧hcell g ((⟨h8.size,0,none⟩:Addr).add (k*1))=some (.int .i64 (n:Int)):=by
   match k,hlt with
   |0,_=>exact⟨_,rfl,by omega,cell_at hbg rfl⟩
   |1,_=>exact⟨_,rfl,by omega,cell_at hbg rfl⟩
   |2,_=>exact⟨_,rfl,by omega,cell_at hbg rfl⟩
   |3,_=>exact⟨_,rfl,by omega,cell_at hbg rfl⟩
   |4,_=>exact⟨_,rfl,by omega,cell_at hbg rfl⟩
  obtain⟨n,hn,hnb,hc⟩:=hcell
  refine⟨⟨by first|trivial|omega,by first|trivial|omega⟩,_,hc,refNum_ok n (wrap_u64_nat (by omega)) (by omega) fun p11 c11 h11 o11 u11=>⟨_,_,_,rfl, ?_⟩⟩
  have ln:=(encNum_len n).2
  refine den_append tU uU (oh.frame u11.fr (fun _ _=>id)) o11.row' (by rw[bc_len,Nat.mul_one]) (bc_one _) (by omega) (by omega) fun p12 c12 h12 o12 _ f12 g12=>⟨_,_,_,rfl, ?_⟩
  have he:headE Ls (k+1)=headE Ls k++encNum n:=by unfold headE;rw[List.take_add_one,hn,List.flatMap_append];simp
  have zz:=u11.fr.1
  have zg:=fg.1
  rw[wrap_id (by omega) (by omega)]
  refine⟨⟨k+1,by omega,by omega,by rw[he,List.length_append],by rw[he,bc_append];exact o12,fun y hy=>(g12 y hy).elim (gh y) (fun h1=>by omega),by rw[he,List.length_append];omega,(fg.tt u11.fr).fresh f12 gh⟩,by show 5 - Int.toNat ((k:Int)+1)<5 - k;omega⟩
 ·have q1: ¬(k:Int)<5:=by omega
  simp only[q1,decide_false,Bool.false_eq_true,if_false]
  obtain rfl:k=5:=by omega
  refine newP_of ?_
  have f13:Fr (fun _=>False) g (g.push (.cells #[.slice hp (headE Ls 5).length hc] T.s_uint8)):=Fr.push _ _
  have o13:Own (g.push (.cells #[.slice hp (headE Ls 5).length hc] T.s_uint8)) (some ⟨g.size,0,none⟩) 1 1 1 (nenc ⟨hp,hc,headE Ls 5⟩):= .row g.size 0 _ _ rfl push_new (Nat.le_refl _) (by simp) rfl (fun j v hj=>by rw[Nat.zero_add];simpa using hj)
  have Fg:Fr (fun _=>False) h g:=F9.tt fg
  have zg:=Fg.1
  have B13:BL h (g.push (.cells #[.slice hp (headE Ls 5).length hc] T.s_uint8)) (some ⟨g.size,0,none⟩) 1 1 [headE Ls 5]:=by
   refine⟨[⟨hp,hc,headE Ls 5⟩],inBlk hp,rfl,by simpa using o13,rfl, ?_, ?_,fun y ⟨a,e,e2⟩=>by cases e;rw[←e2];exact zg⟩
   ·intro v hv
    obtain rfl:=List.mem_singleton.1 hv
    exact BV.of_own (oh.frame f13 (fun _ _=>id)) (fun _=>id)
   ·intro y hy
    have h1:=gh y hy
    have h2:=oh.blk_lt hy
    exact⟨by omega,by rw[Array.size_push];omega,fun⟨a,e,e2⟩=>by cases e;have e2:g.size=y:=e2;omega⟩
  have F13:Fr (fun _=>False) h (g.push (.cells #[.slice hp (headE Ls 5).length hc] T.s_uint8)):=Fg.tt f13
  have F8_13:Fr (fun _=>False) h8 (g.push (.cells #[.slice hp (headE Ls 5).length hc] T.s_uint8)):=f9.tt (fg.tt f13)
  generalize g.push (.cells #[.slice hp (headE Ls 5).length hc] T.s_uint8)=h13 at B13 F13 F8_13⊢
  have hp13: ∀y,inBlk (some ⟨g.size,0,none⟩) y→h8.size≤y:=fun y ⟨a,e,e2⟩=>by cases e;rw[←e2];exact(f9.tt fg).1
  generalize (some ⟨g.size,0,none⟩:Option Addr)=p13 at B13 hp13⊢
  have habs:(ys.map RV.abs).map RI.it=thereL Ls:=by rw[hab];rfl
  refine⟨fun op ol oc t g'=> ∃k:Nat,t=(k:Int)∧k≤ys.length∧BL h g' op ol oc (headE Ls 5::((thereL Ls).take k).map recI)∧Fr (fun _=>False) h g'∧Fr (fun _=>False) h8 g'∧ ∀y,inBlk op y→h8.size≤y,fun _ _ _ t _=>ys.length - t.toNat,⟨0,rfl,by omega,by simpa using B13,F13,F8_13,hp13⟩, ?_⟩
  rintro op ol oc _ g14 ⟨k,rfl,hkn,B14,F14,F8_14,hop⟩
  rw[←hyl]
  by_cases hlt2:k<ys.length
  ·have q2:(k:Int)<((ys.length:Nat):Int):=by omega
   simp only[q2,decide_true,if_true,Int.toNat_natCast]
   have hy:ys[k]? =some ys[k]:=List.getElem?_eq_getElem hlt2
   generalize ys[k]=v at hy
   have hik:(thereL Ls)[k]? =some v.abs.it:=by rw[←habs,List.getElem?_map,List.getElem?_map,hy];rfl
   have hv:=hit v.abs.it (List.mem_of_getElem? hik)
   have v1:v.num≤1000000000:=hv.1
   have v2:0≤v.owner∧v.owner≤1099511627776:=⟨hv.2.1,hv.2.2.1⟩
   have v3:v.v.b.length≤600:=hv.2.2.2.1
   have v4:v.till≤1099511627776:=hv.2.2.2.2
   have oy: ∀ {g':Heap},Fr (fun _=>False) g14 g'→Own g' p8 ys.length c8 5 (ys.flatMap renc):=fun f=>o8.frame (F8_14.tt f) (fun _ _=>id)
   obtain⟨ab,aoff,rfl⟩:=(oy (Fr.refl _ _)).addr (by omega)
   have held:=(oy (Fr.refl _ _)).heldAt renc_len hy
   refine⟨⟨by first|trivial|omega,by first|trivial|omega⟩,onSome_some.2 ⟨(v.num:Int),held.1,refNum_ok v.num (wrap_u64_nat (by omega)) (by omega) fun p15 c15 h15 o15 u15=>⟨_,_,_,rfl,⟨by first|trivial|omega,by first|trivial|omega⟩,onSome_some.2 ⟨v.owner,((oy u15.fr).heldAt renc_len hy).2.1, ?_⟩⟩⟩⟩
   have eo:v.owner=((v.owner.toNat:Nat):Int):=by omega
   refine refNum_ok v.owner.toNat (by rw[eo];exact wrap_u64_nat (by omega)) (by omega) fun p16 c16 h16 o16 u16=>⟨_,_,_,rfl, ?_⟩
   have l1:=(encNum_len v.num).2
   have l2:=(encNum_len v.owner.toNat).2
   have l3:=(encNum_len v.v.b.length).2
   have l4:=(encNum_len v.till).2
   have el:(encText v.v.b).length=(encNum v.v.b.length).length+v.v.b.length:=by unfold encText;rw[List.length_append]
   refine den_append tU uU (o15.frame u16.fr (fun _ _=>id)) o16.row' (by rw[bc_len,Nat.mul_one]) (bc_one _) (by omega) (by omega) fun p17 c17 h17 o17 _ f17 g17=>⟨_,_,_,rfl, ?_⟩
   have z15:=u15.fr.1
   have z16:=u16.fr.1
   have z17:=f17.1
   have F17:Fr (fun _=>False) g14 h17:=(u15.fr.tt u16.fr).fresh f17 (fun y hy=>u15.ge y hy)
   have gg17: ∀y,inBlk p17 y→g14.size≤y:=fun y hy=>(g17 y hy).elim (fun h1=>u15.ge y h1) (fun h1=>by omega)
   refine⟨⟨by first|trivial|omega,by first|trivial|omega⟩,onSome_some.2 ⟨_,_,_,((oy F17).heldAt renc_len hy).2.2.1, ?_⟩⟩
   have rowv:Row h17 v.v.p (bc v.v.b):=((hdy v (List.mem_of_getElem? hy)).row).frame (F8_14.tt F17) (fun _ _=>id)
   refine refText_ok rowv rfl (by omega) fun p18 c18 h18 o18 u18=>⟨_,_,_,rfl, ?_⟩
   refine den_append tU uU (o17.frame u18.fr (fun _ _=>id)) o18.row' (by rw[bc_len,Nat.mul_one]) (bc_one _) (by omega) (by omega) fun p19 c19 h19 o19 _ f19 g19=>⟨_,_,_,rfl, ?_⟩
   have z18:=u18.fr.1
   have z19:=f19.1
   have F19:Fr (fun _=>False) g14 h19:=(F17.tt u18.fr).fresh f19 gg17
   have gg19: ∀y,inBlk p19 y→g14.size≤y:=fun y hy=>(g19 y hy).elim (gg17 y) (fun h1=>by omega)
   refine⟨⟨by first|trivial|omega,by first|trivial|omega⟩,onSome_some.2 ⟨(v.till:Int),((oy F19).heldAt renc_len hy).2.2.2.1,refNum_ok v.till rfl (by omega) fun p20 c20 h20 o20 u20=>⟨_,_,_,rfl, ?_⟩⟩⟩
   refine den_append tU uU (o19.frame u20.fr (fun _ _=>id)) o20.row' (by rw[bc_len,Nat.mul_one]) (bc_one _) (by omega) (by omega) fun p21 c21 h21 o21 _ f21 g21=>⟨_,_,_,rfl, ?_⟩
   have z20:=u20.fr.1
   have z21:=f21.1
   have F21:Fr (fun _=>False) g14 h21:=(F19.tt u20.fr).fresh f21 gg19
   have gg21: ∀y,inBlk p21 y→g14.size≤y:=fun y hy=>(g21 y hy).elim (gg19 y) (fun h1=>by omega)
   have er:bc (encNum v.num)++bc (encNum v.owner.toNat)++bc (encText v.v.b)++bc (encNum v.till)=bc (recI v.abs.it):=by unfold recI;rw[bc_append,bc_append,bc_append];rfl
   have erl:(encNum v.num).length+(encNum v.owner.toNat).length+(encText v.v.b).length+(encNum v.till).length=(recI v.abs.it).length:=by unfold recI;rw[List.length_append,List.length_append,List.length_append];rfl
   rw[er,erl] at o21
   rw[erl]
   have z14:=F14.1
   have bl:=B14.len
   rw[List.length_cons,List.length_map,List.length_take] at bl
   refine(B14.on F21).push (by omega) o21 (fun y hy=>⟨by have:=gg21 y hy;omega,fun ho=>by have:=B14.lt ho;have:=gg21 y hy;omega⟩) (by omega) ?_
   intro p23 c23 h23 B23 f23 g23
   refine⟨_,_,_,rfl, ?_⟩
   rw[wrap_id (by omega) (by omega)]
   refine⟨⟨k+1,by omega,by omega, ?_, ?_,(F8_14.tt F21).fresh f23 hop,fun y hy=>(g23 y hy).elim (hop y) (fun h1=>by have:=F8_14.1;have:=F21.1;omega)⟩,by show ys.length - Int.toNat ((k:Int)+1)<ys.length - k;omega⟩
   ·rw[List.take_add_one,hik,List.map_append]
    rw[List.cons_append] at B23
    exact B23
   ·obtain⟨_,_,_,ob,_,_,_,h6'⟩:=B14
    exact(F14.tt F21).fresh f23 h6'
  ·have q2: ¬(k:Int)<((ys.length:Nat):Int):=by omega
   simp only[q2,decide_false,Bool.false_eq_true,if_false]
   have htl:(thereL Ls).length=ys.length:=by rw[←habs,List.length_map,List.length_map]
   rw[List.take_of_length_le (by omega)] at B14
   exact hk g14 op ol oc B14 F14
end Rbx
end Go.Proofs.YtgccegnmggjkjaaGreatDoor
set_option maxRecDepth 100000
namespace Go.Proofs.YtgccegnmggjkjaaGreatDoor
open Go.Den Go.Fields
namespace Rbx
open Fld Obx
variable {Ls : List RI} {s : BS}
theorem Rel.nil:Rel ⟨[],1,0,0,0⟩ []:=⟨rfl,rfl,rfl,rfl,rfl,(fun y hy=>by cases hy),fun i y h=>by simp at h⟩
theorem cnt_append (A B:List RI) (f:Nat):cnt (A++B) f=cnt A f+cnt B f:=by unfold cnt;rw[List.filter_append,List.length_append]
theorem Rel.len (r:Rel s Ls):s.items.length=cnt Ls 1:=by rw[r.there,List.length_map];rfl
theorem Rel.addE (r:Rel s Ls) (owner:Int) (d:List UInt8) (till:Nat):Obx.addE s owner d till=Rbx.addE Ls owner d till:=by
 unfold Obx.addE Rbx.addE
 rw[r.len]
theorem Rel.add (r:Rel s Ls) (owner:Int) (d:List UInt8) (till:Nat):Rel { s with items:=s.items++ [⟨s.next,owner,d,till⟩],next:=s.next+1 } (Ls++ [⟨⟨Ls.length+1,owner,d,till⟩,1⟩]):=by
 refine⟨?_, ?_, ?_, ?_, ?_, ?_, ?_⟩
 ·show s.items++ [_]=_
  rw[List.filter_append,List.map_append,←r.there,r.next]
  simp[List.filter_cons]
 ·show s.next+1=_
  rw[r.next,List.length_append];rfl
 ·show s.taken=_
  rw[cnt_append,r.taken];simp[cnt,List.filter_cons]
 ·show s.canc=_
  rw[cnt_append,r.canc];simp[cnt,List.filter_cons]
 ·show s.over=_
  rw[cnt_append,r.over];simp[cnt,List.filter_cons]
 ·intro y hy
  rcases List.mem_append.1 hy with hy|hy
  ·exact r.fates y hy
  ·obtain rfl:=List.mem_singleton.1 hy
   exact⟨by show 1≤1;omega,by show 1≤4;omega⟩
 ·intro i y hy
  by_cases hi:i<Ls.length
  ·rw[List.getElem?_append_left hi] at hy
   exact r.nums i y hy
  ·rw[List.getElem?_append_right (by omega)] at hy
   have:i - Ls.length=0:=by
    have:=(List.getElem?_eq_some_iff.1 hy).1
    simp at this
    omega
   rw[this] at hy
   simp at hy
   subst hy
   show Ls.length+1=i+1
   omega
theorem Rel.head (r:Rel s Ls):headE Ls 5=headB s:=by
 unfold headE headN headB
 rw[r.next,r.taken,r.canc,r.over,r.len]
 simp
theorem Rel.recs (r:Rel s Ls):headE Ls 5::(thereL Ls).map recI=recsB s:=by
 unfold recsB
 rw[r.head,r.there];rfl
theorem filter_set {P:RI→Bool} : ∀ {Ls:List RI} {i:Nat} {y y':RI},Ls[i]? =some y→P y=true→P y'=false→(Ls.set i y').filter P=(Ls.take i).filter P++(Ls.drop (i+1)).filter P
 | [],i,y,y',h,_,_=>by simp at h
 |z::r,0,y,y',h,h1,h2=>by
  rw[List.set_cons_zero,List.filter_cons,h2]
  simp
 |z::r,i+1,y,y',h,h1,h2=>by
  rw[List.getElem?_cons_succ] at h
  rw[List.set_cons_succ,List.filter_cons,filter_set h h1 h2,List.take_succ_cons,List.drop_succ_cons,List.filter_cons]
  split<;>simp
theorem filter_split {P:RI→Bool} {Ls:List RI} {i:Nat} {y:RI} (h:Ls[i]? =some y) (h1:P y=true):Ls.filter P=(Ls.take i).filter P++y::(Ls.drop (i+1)).filter P:=by
 have hi:=(List.getElem?_eq_some_iff.1 h).1
 have e:Ls=Ls.take i++y::Ls.drop (i+1):=by
  have e2:Ls[i]=y:=(List.getElem?_eq_some_iff.1 h).2
  rw[←e2,←List.drop_eq_getElem_cons hi,List.take_append_drop]
 conv=>lhs;rw[e,List.filter_append,List.filter_cons,h1]
 simp
theorem cnt_set {Ls:List RI} {i:Nat} {y:RI} (h:Ls[i]? =some y) (hy:y.fate=1) (f g:Nat) (hf:f≠1):cnt (Ls.set i { y with fate:=f }) g=if g=1 then cnt Ls g - 1 else if g=f then cnt Ls g+1 else cnt Ls g:=by
 induction Ls generalizing i with
 |nil=>simp at h
 |cons z r ih=>
  cases i with
  |zero=>
   simp at h
   subst h
   rw[List.set_cons_zero]
   unfold cnt
   rw[List.filter_cons,List.filter_cons]
   simp only[hy]
   by_cases g1:g=1
   ·subst g1;simp[hf]
   ·by_cases gf:g=f
    ·subst gf;simp[g1,Ne.symm g1]
    ·simp[g1,gf,Ne.symm g1,Ne.symm gf]
  |succ i=>
   rw[List.getElem?_cons_succ] at h
   have:=ih h
   have pos:g=1→1≤cnt r g:=by
    intro e
    subst e
    unfold cnt
    exact List.length_pos_iff.2 (List.ne_nil_of_mem (List.mem_filter.2 ⟨List.mem_of_getElem? h,decide_eq_true hy⟩))
   rw[List.set_cons_succ]
   unfold cnt at this pos⊢
   rw[List.filter_cons,List.filter_cons]
   split
   ·rw[List.length_cons,List.length_cons,this]
    split
    ·rename_i e;have:=pos e;omega
    ·split<;>omega
   ·exact this
theorem Rel.set {i:Nat} {y:RI} {f:Nat} {items':List It} {t c o:Nat} (r:Rel s Ls) (h:Ls[i]? =some y) (hy:y.fate=1) (hf:2≤f∧f≤4) (hi:items'=((Ls.set i { y with fate:=f }).filter (fun y=>decide (y.fate=1))).map RI.it)
  (ht:t=s.taken+if f=2 then 1 else 0) (hc:c=s.canc+if f=3 then 1 else 0) (ho:o=s.over+if f=4 then 1 else 0):Rel ⟨items',s.next,t,c,o⟩ (Ls.set i { y with fate:=f }):=by
 refine⟨hi, ?_, ?_, ?_, ?_, ?_, ?_⟩
 ·show s.next=_
  rw[List.length_set];exact r.next
 ·show t=_
  rw[cnt_set h hy f 2 (by omega),ht,r.taken]
  by_cases e:f=2
  ·subst e;simp
  ·have e2: ¬2=f:=fun h=>e h.symm
   simp[e,e2]
 ·show c=_
  rw[cnt_set h hy f 3 (by omega),hc,r.canc]
  by_cases e:f=3
  ·subst e;simp
  ·have e2: ¬3=f:=fun h=>e h.symm
   simp[e,e2]
 ·show o=_
  rw[cnt_set h hy f 4 (by omega),ho,r.over]
  by_cases e:f=4
  ·subst e;simp
  ·have e2: ¬4=f:=fun h=>e h.symm
   simp[e,e2]
 ·intro z hz
  rcases List.mem_or_eq_of_mem_set hz with hz|rfl
  ·exact r.fates z hz
  ·exact⟨by show 1≤f;omega,hf.2⟩
 ·intro j z hz
  rw[List.getElem?_set] at hz
  split at hz
  ·rename_i e
   subst e
   split at hz
   ·have:=Option.some.inj hz
    subst this
    exact r.nums i y h
   ·cases hz
  ·exact r.nums j z hz
theorem Rel.take {i:Nat} {y:RI} {x:It} {r:List It} (R:Rel s Ls) (h:Ls[i]? =some y) (hy:y.fate=1) (hno: ∀j z,j<i→Ls[j]? =some z→z.fate≠1) (hx:s.items=x::r):x=y.it∧Rel { s with items:=r,taken:=s.taken+1 } (Ls.set i { y with fate:=2 }):=by
 have hpre:(Ls.take i).filter (fun y=>decide (y.fate=1))= []:=by
  rw[List.filter_eq_nil_iff]
  intro z hz
  obtain⟨j,hj⟩:=List.getElem?_of_mem hz
  rw[List.getElem?_take] at hj
  split at hj
  ·rename_i hji
   simpa using hno j z hji hj
  ·cases hj
 have e1:=filter_split (P:=fun y=>decide (y.fate=1)) h (decide_eq_true hy)
 rw[hpre,List.nil_append] at e1
 have e2:=R.there
 rw[hx,e1,List.map_cons] at e2
 obtain⟨rfl,rfl⟩:=List.cons.inj e2
 refine⟨rfl,R.set h hy ⟨by omega,by omega⟩ ?_ rfl rfl rfl⟩
 rw[filter_set (P:=fun y=>decide (y.fate=1)) (y:=y) h (decide_eq_true hy) (decide_eq_false (by show¬2=1;omega)),hpre,List.nil_append]
theorem Rel.none (R:Rel s Ls) (hno: ∀z∈Ls,z.fate≠1):s.items= []:=by
 rw[R.there,List.filter_eq_nil_iff.2 (fun z hz=>by simpa using hno z hz)];rfl
theorem Rel.cancel {i:Nat} {y:RI} (R:Rel s Ls) (h:Ls[i]? =some y) (hy:y.fate=1):Rel { s with items:=delI s.items ((i:Int)+1),canc:=s.canc+1 } (Ls.set i { y with fate:=3 }):=by
 refine R.set h hy ⟨by omega,by omega⟩ ?_ rfl rfl rfl
 rw[filter_set (P:=fun y=>decide (y.fate=1)) (y:=y) h (decide_eq_true hy) (decide_eq_false (by show¬3=1;omega)),R.there,filter_split (P:=fun y=>decide (y.fate=1)) h (decide_eq_true hy)]
 unfold delI
 have hyn:=R.nums i y h
 rw[List.map_append,List.map_cons,List.filter_append,List.filter_cons,if_neg (by simp only[hyn];simp),List.map_append]
 have key: ∀(A:List RI),(∀z∈A,z.it.num≠i+1)→(A.map RI.it).filter (fun y=> !decide ((y.num:Int)=(i:Int)+1))=A.map RI.it:=by
  intro A hA
  rw[List.filter_eq_self]
  intro z hz
  obtain⟨a,ha,rfl⟩:=List.mem_map.1 hz
  have:=hA a ha
  have: ¬((a.it.num:Int)=(i:Int)+1):=by omega
  simp only[this,decide_false,Bool.not_false]
 rw[key,key]
 ·intro z hz
  obtain⟨j,hj⟩:=List.getElem?_of_mem (List.mem_filter.1 hz).1
  rw[List.getElem?_drop] at hj
  have:=R.nums _ z hj
  omega
 ·intro z hz
  obtain⟨j,hj⟩:=List.getElem?_of_mem (List.mem_filter.1 hz).1
  rw[List.getElem?_take] at hj
  split at hj
  ·have:=R.nums _ z hj
   omega
  ·cases hj
end Rbx
end Go.Proofs.YtgccegnmggjkjaaGreatDoor
set_option maxRecDepth 100000
namespace Go.Proofs.YtgccegnmggjkjaaGreatDoor
open Go.Den Go.Fields Go.Heapq
namespace Rbx
open Fld Obx
variable {Ls : List RI} {s : BS}
theorem sorted_ext: ∀ {l l':List E},Sorted l→Sorted l'→(∀e,e∈l↔e∈l')→l=l'
 | [], [],_,_,_=>rfl
 | [],a::_,_,_,hm=>by have:=(hm a).2 (by simp);cases this
 |a::_, [],_,_,hm=>by have:=(hm a).1 (by simp);cases this
 |a::l,b::l',h,h',hm=>by
  obtain⟨h1,h2⟩:=List.pairwise_cons.1 h
  obtain⟨g1,g2⟩:=List.pairwise_cons.1 h'
  have e:a=b:=by
   rcases List.mem_cons.1 ((hm a).1 (by simp)) with e|e
   ·exact e
   ·rcases List.mem_cons.1 ((hm b).2 (by simp)) with e2|e2
    ·exact e2.symm
    ·exact absurd (lt_trans (h1 b e2) (g1 a e)) (lt_irrefl a)
  subst e
  rw[sorted_ext h2 g2 fun x=>⟨fun hx=> ?_,fun hx=> ?_⟩]
  ·rcases List.mem_cons.1 ((hm x).1 (List.mem_cons_of_mem _ hx)) with e|e
   ·subst e;exact absurd (h1 x hx) (lt_irrefl x)
   ·exact e
  ·rcases List.mem_cons.1 ((hm x).2 (List.mem_cons_of_mem _ hx)) with e|e
   ·subst e;exact absurd (g1 x hx) (lt_irrefl x)
   ·exact e
theorem Rel.mem (R:Rel s Ls) {x:It} :x∈s.items↔ ∃(i:Nat) (y:RI),Ls[i]? =some y∧y.fate=1∧y.it=x:=by
 rw[R.there,List.mem_map]
 constructor
 ·rintro⟨y,hy,rfl⟩
  obtain⟨h1,h2⟩:=List.mem_filter.1 hy
  obtain⟨i,hi⟩:=List.getElem?_of_mem h1
  exact⟨i,y,hi,of_decide_eq_true h2,rfl⟩
 ·rintro⟨i,y,hi,hf,rfl⟩
  exact⟨y,List.mem_filter.2 ⟨List.mem_of_getElem? hi,decide_eq_true hf⟩,rfl⟩
theorem Rel.cancE1 (R:Rel s Ls) {i:Nat} {y:RI} {owner:Int} (h:Ls[i]? =some y) (hy:y.fate=1):cancE s ((i:Int)+1) owner=if y.it.owner=owner then 0 else 13:=by
 unfold cancE
 have hm:y.it∈s.items:=R.mem.2 ⟨i,y,h,hy,rfl⟩
 have hn:=R.nums i y h
 cases e:idxI s.items ((i:Int)+1) with
 |none=>exact absurd (by rw[hn];rfl) (idx_none e y.it hm)
 |some j=>
  obtain⟨x,hx,hxn⟩:=idx_some e
  obtain⟨i',y',h',_,rfl⟩:=R.mem.1 (List.mem_of_getElem? hx)
  have:=R.nums i' y' h'
  obtain rfl:i'=i:=by omega
  rw[h] at h'
  obtain rfl:=Option.some.inj h'
  dsimp only
  rw[hx]
theorem Rel.cancE0 (R:Rel s Ls) {num owner:Int} (h: ∀(i:Nat) y,num=(i:Int)+1→Ls[i]? =some y→y.fate≠1):cancE s num owner=4:=by
 unfold cancE
 cases e:idxI s.items num with
 |none=>rfl
 |some j=>
  obtain⟨x,hx,hxn⟩:=idx_some e
  obtain⟨i',y',h',hf,rfl⟩:=R.mem.1 (List.mem_of_getElem? hx)
  have:=R.nums i' y' h'
  exact absurd hf (h i' y' (by omega) h')
def isDueR (now:Nat) (y:RI):Bool:=decide (y.fate=1) && decide ((y.it.till:Int)≤(now:Int))
def overM (now:Nat) (y:RI):RI:=if isDueR now y=true then⟨y.it,4⟩ else y
theorem over_map {now:Nat} {ms:List Nat} (hm: ∀i,i∈ms↔ ∃y,Ls[i]? =some y∧dueR (now:Int) y):overL Ls ms=Ls.map (overM now):=by
 apply List.ext_getElem?
 intro i
 rw[overL_at,List.getElem?_map]
 cases e:Ls[i]? with
 |none=>rfl
 |some y=>
  simp only[Option.map_some,Option.some.injEq]
  unfold overM isDueR
  by_cases hd:dueR (now:Int) y
  ·rw[if_pos ((hm i).2 ⟨y,e,hd⟩),if_pos (by rw[decide_eq_true hd.1,decide_eq_true hd.2];rfl)]
  ·rw[if_neg,if_neg]
   ·intro h
    rw[Bool.and_eq_true,decide_eq_true_eq,decide_eq_true_eq] at h
    exact hd h
   ·intro h
    obtain⟨y',e',hd'⟩:=(hm i).1 h
    rw[e] at e'
    exact hd (Option.some.inj e'▸hd')
theorem over_there (now:Nat): ∀Ls:List RI,((Ls.map (overM now)).filter (fun y=>decide (y.fate=1))).map RI.it=((Ls.filter (fun y=>decide (y.fate=1))).map RI.it).filter (fun x=>decide ((now:Int)<(x.till:Int)))
 | []=>rfl
 |y::r=>by
  have ih:=over_there now r
  rw[List.map_cons,List.filter_cons,List.filter_cons]
  by_cases hf:y.fate=1
  ·rw[if_pos (c:=decide (y.fate=1)=true) (by simpa using hf),List.map_cons,List.filter_cons]
   unfold overM isDueR
   by_cases ht:(y.it.till:Int)≤(now:Int)
   ·have ht2: ¬(now:Int)<(y.it.till:Int):=by omega
    simp only[hf,ht,ht2,decide_true,Bool.and_self,if_true,decide_false,Bool.false_eq_true,if_false]
    exact ih
   ·have ht2:(now:Int)<(y.it.till:Int):=by omega
    simp only[hf,ht,ht2,decide_true,Bool.and_false,decide_false,Bool.false_eq_true,if_false,if_true,List.map_cons]
    rw[←ih];rfl
  ·rw[if_neg (c:=decide (y.fate=1)=true) (by simpa using hf)]
   have:overM now y=y:=by unfold overM isDueR;simp[hf]
   rw[this,if_neg (by simpa using hf)]
   exact ih
theorem over_cnt (now f:Nat) (hf:f≠1): ∀Ls:List RI,cnt (Ls.map (overM now)) f=cnt Ls f+if f=4 then(((Ls.filter (fun y=>decide (y.fate=1))).map RI.it).filter (fun x=>decide ((x.till:Int)≤(now:Int)))).length else 0
 | []=>by unfold cnt;simp
 |y::r=>by
  have ih:=over_cnt now f hf r
  unfold cnt at ih⊢
  rw[List.map_cons,List.filter_cons,List.filter_cons,List.filter_cons]
  by_cases h1:y.fate=1
  ·rw[if_pos (c:=decide (y.fate=1)=true) (by simpa using h1),List.map_cons,List.filter_cons,if_neg (c:=decide (y.fate=f)=true) (by simp;omega)]
   by_cases ht:(y.it.till:Int)≤(now:Int)
   ·have e:overM now y=⟨y.it,4⟩:=by unfold overM isDueR;simp[h1,ht]
    rw[e,if_pos (c:=decide ((y.it.till:Int)≤(now:Int))=true) (by simpa using ht),List.length_cons]
    by_cases h4:f=4
    ·subst h4
     simp only[decide_true,if_true,List.length_cons] at ih⊢
     omega
    ·have: ¬4=f:=fun e=>h4 e.symm
     simp only[this,decide_false,Bool.false_eq_true,if_false,h4] at ih⊢
     exact ih
   ·have e:overM now y=y:=by unfold overM isDueR;simp[ht]
    rw[e,if_neg (c:=decide ((y.it.till:Int)≤(now:Int))=true) (by simpa using ht),if_neg (by simp;omega)]
    exact ih
  ·rw[if_neg (c:=decide (y.fate=1)=true) (by simpa using h1)]
   have e:overM now y=y:=by unfold overM isDueR;simp[h1]
   rw[e]
   split
   ·rw[List.length_cons,List.length_cons,ih];omega
   ·exact ih
theorem over_keep (now:Nat) (y:RI):(overM now y).it=y.it∧((overM now y).fate=y.fate∨(overM now y).fate=4):=by
 unfold overM
 split
 ·exact⟨rfl, .inr rfl⟩
 ·exact⟨rfl, .inl rfl⟩
theorem Rel.passB (R:Rel s Ls) (now:Nat):Rel { s with items:=s.items.filter (fun x=>decide ((now:Int)<(x.till:Int))),over:=s.over+(s.items.filter (fun x=>decide ((x.till:Int)≤(now:Int)))).length } (Ls.map (overM now)):=by
 refine⟨?_, ?_, ?_, ?_, ?_, ?_, ?_⟩
 ·show s.items.filter _=_
  rw[over_there,←R.there]
 ·show s.next=_
  rw[List.length_map];exact R.next
 ·show s.taken=_
  rw[over_cnt now 2 (by omega),R.taken];rfl
 ·show s.canc=_
  rw[over_cnt now 3 (by omega),R.canc];rfl
 ·show s.over+_=_
  rw[over_cnt now 4 (by omega),R.over,if_pos rfl,←R.there]
 ·intro y hy
  obtain⟨z,hz,rfl⟩:=List.mem_map.1 hy
  have:=R.fates z hz
  rcases(over_keep now z).2 with e|e<;>rw[e]<;>omega
 ·intro i y hy
  rw[List.getElem?_map] at hy
  cases e:Ls[i]? with
  |none=>rw[e] at hy;cases hy
  |some z=>
   rw[e] at hy
   obtain rfl:=Option.some.inj hy
   rw[(over_keep now z).1]
   exact R.nums i z e
end Rbx
end Go.Proofs.YtgccegnmggjkjaaGreatDoor
set_option maxRecDepth 100000
namespace Go.Proofs.YtgccegnmggjkjaaGreatDoor
open Go.Den Go.Fields
namespace Stt
open Obx (It)
open Eid (Ev rightE ev5)
variable {h h' : Heap} {R : Value → Heap → Prop} {x j k : Nat} {X : Ft} {σ : SS} {p : Option Addr} {Lc : List Rcp.RC} {Lb : List Rbx.RI}
structure RIds where
 t:Nat
 r:Nat
 c:Nat
 o:Nat
abbrev Rk (h:Heap) (x:Nat) (I:RIds) (σ:SS):Prop:=h[x]? =some (.cells #[pt I.t,pt I.r,pt I.c,pt I.o, .bool σ.e.ipn, .int .u64 σ.e.node, .int .u64 σ.e.svc, .string σ.e.host, .string σ.e.dem, .int .u64 (σ.tm:Int), .int .u64 (σ.sq:Int), .int .u64 (σ.now:Int), .int .i64 (σ.rf:Int)] T.ref26_State (0,0))
def rpart (σ:SS) (Lc:List Rcp.RC) (Lb:List Rbx.RI) (I:RIds) (x:Nat) (i:Nat) (h:Heap) (X:Ft):Prop:=match i with
 |0=>Rse.Rt h I.t X σ.A
 |1=>Regs.Rt h I.r X σ.G
 |2=>Rcp.Rb h I.c X Lc
 |3=>Rbx.Rb h I.o X Lb
 |4=>Rk h x I σ∧only X fun y=>y=x
 |_=> ∀y,¬In X y
variable {I : RIds}
theorem rpart.st (σ:SS) (Lc:List Rcp.RC) (Lb:List Rbx.RI) (I:RIds) (x:Nat):Stable (rpart σ Lc Lb I x):=by
 refine⟨fun {i h X} H y hy=> ?_,fun {i h h' X Q} H f hq=> ?_,fun {i h X} H y hm hd=> ?_⟩
 ·rcases i with _|_|_|_|_|i
  ·exact Rse.Rt.lt H y hy
  ·exact Regs.Rt.lt H y hy
  ·exact Rcp.Rb.lt H y hy
  ·exact Rbx.Rb.lt H y hy
  ·obtain⟨P,o⟩:=H
   rcases hy with hy|hy
   ·rw[(o y).1.1 hy];exact lt_of_get P
   ·exact absurd hy (o y).2
  ·exact absurd hy (H y)
 ·rcases i with _|_|_|_|_|i
  ·exact Rse.Rt.frame H f hq
  ·exact Regs.Rt.frame H f hq
  ·exact Rcp.Rb.frame H f hq
  ·exact Rbx.Rb.frame H f hq
  ·obtain⟨P,o⟩:=H
   exact⟨f.get P (hq _ (.inl ((o _).1.2 rfl))),o⟩
  ·exact H
 ·rcases i with _|_|_|_|_|i
  ·obtain⟨p,c,H⟩:=H;exact H.d y hd
  ·obtain⟨p,c,H⟩:=H;exact H.d y hd
  ·obtain⟨lp,lc,xs,H⟩:=H;exact H.dis y hm hd
  ·obtain⟨lp,lc,xs,H⟩:=H;exact H.dis y hm hd
  ·exact(H.2 y).2 hd
  ·exact H y (.inl hm)
def RPt (h:Heap) (x:Nat) (X:Ft) (I:RIds) (σ:SS) (Lc:List Rcp.RC) (Lb:List Rbx.RI):Prop:=Fam (rpart σ Lc Lb I x) h X
structure Rl (σ:SS) (Lc:List Rcp.RC) (Lb:List Rbx.RI):Prop where
 c:Rcp.Rel σ.C Lc
 b:Rbx.Rel σ.B Lb
 s: ∀y∈Lc,0≤y.c.ses
def RSt (h:Heap) (x:Nat) (X:Ft) (I:RIds) (σ:SS):Prop:= ∃Lc Lb,RPt h x X I σ Lc Lb∧Rl σ Lc Lb
theorem RPt.lt (H:RPt h x X I σ Lc Lb) (y:Nat) (hy:X.M y∨X.D y):y<h.size:=Fam.lt (rpart.st _ _ _ _ _) H y hy
theorem RPt.frame {Q:Nat→Prop} (H:RPt h x X I σ Lc Lb) (f:Fr Q h h') (hq: ∀y,X.M y∨X.D y→ ¬Q y):RPt h' x X I σ Lc Lb:=Fam.frame (rpart.st _ _ _ _ _) H f hq
theorem RPt.on (H:RPt h x X I σ Lc Lb) (f:Fr (fun _=>False) h h'):RPt h' x X I σ Lc Lb:=H.frame f (fun _ _=>id)
theorem RSt.lt (H:RSt h x X I σ) (y:Nat) (hy:X.M y∨X.D y):y<h.size:=by obtain⟨_,_,H,_⟩:=H;exact H.lt y hy
theorem RSt.frame {Q:Nat→Prop} (H:RSt h x X I σ) (f:Fr Q h h') (hq: ∀y,X.M y∨X.D y→ ¬Q y):RSt h' x X I σ:=by obtain⟨Lc,Lb,H,r⟩:=H;exact⟨Lc,Lb,H.frame f hq,r⟩
theorem RSt.on (H:RSt h x X I σ) (f:Fr (fun _=>False) h h'):RSt h' x X I σ:=H.frame f (fun _ _=>id)
theorem RPt.use (H:RPt h x X I σ Lc Lb) (j:Nat): ∃Z,rpart σ Lc Lb I x j h Z∧(∀y,Z.M y→X.M y)∧(∀y,Z.D y→X.D y)∧ ∀h' Z' σ' Lc' Lb',rpart σ' Lc' Lb' I x j h' Z'→StepF Z h Z' h'→(∀i,i≠j→rpart σ' Lc' Lb' I x i=rpart σ Lc Lb I x i)→
  ∃X',RPt h' x X' I σ' Lc' Lb'∧StepF X h X' h':=by
 obtain⟨Z,h1,h2,h3,go⟩:=Fam.use (rpart.st σ Lc Lb I x) H j
 refine⟨Z,h1,h2,h3,fun h' Z' σ' Lc' Lb' a b c=> ?_⟩
 obtain⟨X',H',st,_⟩:=go h' Z' (rpart σ' Lc' Lb' I x) a b c
 exact⟨X',H',st⟩
theorem RPt.blk (H:RPt h x X I σ Lc Lb):Rk h x I σ:=by obtain⟨Y,hp,_⟩:=H;exact(hp 4).1
theorem rpart_n {i:Nat} (n:Nat) (hi:i≠4):rpart { σ with now:=n } Lc Lb I x i=rpart σ Lc Lb I x i:=by rcases i with _|_|_|_|_|i<;>first|rfl|exact absurd rfl hi
theorem rpart_A {i:Nat} (a:List Ses.Ses) (hi:i≠0):rpart { σ with A:=a } Lc Lb I x i=rpart σ Lc Lb I x i:=by rcases i with _|_|_|_|_|i<;>first|rfl|exact absurd rfl hi
theorem rpart_c {i:Nat} (L:List Rcp.RC) (hi:i≠2):rpart σ L Lb I x i=rpart σ Lc Lb I x i:=by rcases i with _|_|_|_|_|i<;>first|rfl|exact absurd rfl hi
theorem rpart_b {i:Nat} (L:List Rbx.RI) (hi:i≠3):rpart σ Lc L I x i=rpart σ Lc Lb I x i:=by rcases i with _|_|_|_|_|i<;>first|rfl|exact absurd rfl hi
theorem RPt.says {C:Cps.CF} {B:Obx.BS} {Q:List It} (H:RPt h x X I σ Lc Lb):RPt h x X I { σ with C:=C,B:=B,Q:=Q } Lc Lb:=by
 have e:rpart { σ with C:=C,B:=B,Q:=Q } Lc Lb I x=rpart σ Lc Lb I x:=by funext i;rcases i with _|_|_|_|_|i<;>rfl
 unfold RPt;rw[e];exact H
theorem rnew_ok (e:Ev) (hk: ∀h' x X I,RSt h' x X I (newS e)→UpF h X h'→R (pt x) h'):CallsH Tryz.prog F.ref26_New #[ev5 e] h R:=by
 refine ref26_New.walk (newP_of (newP_of (newP_of (newP_of (newP_of ?_)))))
 generalize h1:h.push (.cells #[.bool e.ipn, .int .u64 e.node, .int .u64 e.svc, .string e.host, .string e.dem] T.ref04_Eid)=g1
 have f1:Fr (fun _=>False) h g1:=h1▸Fr.push _ _
 have z1:g1.size=h.size+1:=h1▸Array.size_push _
 have b1:ref04_Eid.at g1 h.size e.ipn e.node e.svc e.host e.dem:=h1▸push_new
 clear h1
 generalize h2:g1.push (.cells #[.slice none 0 0] T.ref24_Table)=g2
 have f2:Fr (fun _=>False) g1 g2:=h2▸Fr.push _ _
 have z2:g2.size=g1.size+1:=h2▸Array.size_push _
 have b2:g2[g1.size]? =some (.cells #[.slice none 0 0] T.ref24_Table (0,0)):=h2▸push_new
 clear h2
 generalize h3:g2.push (.cells #[.slice none 0 0] T.ref22_Table)=g3
 have f3:Fr (fun _=>False) g2 g3:=h3▸Fr.push _ _
 have z3:g3.size=g2.size+1:=h3▸Array.size_push _
 have b3:g3[g2.size]? =some (.cells #[.slice none 0 0] T.ref22_Table (0,0)):=h3▸push_new
 clear h3
 generalize h4:g3.push (.cells #[.slice none 0 0] T.ref21_Table)=g4
 have f4:Fr (fun _=>False) g3 g4:=h4▸Fr.push _ _
 have z4:g4.size=g3.size+1:=h4▸Array.size_push _
 have b4:g4[g3.size]? =some (.cells #[.slice none 0 0] T.ref21_Table (0,0)):=h4▸push_new
 clear h4
 generalize h5:g4.push (.cells #[.slice none 0 0] T.ref23_Box)=g5
 have f5:Fr (fun _=>False) g4 g5:=h5▸Fr.push _ _
 have z5:g5.size=g4.size+1:=h5▸Array.size_push _
 have b5:g5[g4.size]? =some (.cells #[.slice none 0 0] T.ref23_Box (0,0)):=h5▸push_new
 clear h5
 refine ref04_Eid.ld ((f2.tt (f3.tt (f4.tt f5))).get b1 id) (newP_of ?_)
 generalize h6:g5.push _=g6
 have f6:Fr (fun _=>False) g5 g6:=h6▸Fr.push _ _
 have z6:g6.size=g5.size+1:=h6▸Array.size_push _
 have b6:Rk g6 g5.size ⟨g1.size,g2.size,g3.size,g4.size⟩ (newS e):=h6▸push_new
 clear h6
 let b:Nat→Nat:=fun i=> [g1.size,g2.size,g3.size,g4.size,g5.size].getD i 0
 let Y:Nat→Ft:=fun i=>⟨fun y=>i<5∧y=b i,fun _=>False⟩
 have nb: ∀ {y:Nat},¬inBlk none y:=fun⟨a,ea,_⟩=>by cases ea
 refine hk g6 g5.size ⟨fun y=> ∃i,(Y i).M y,fun y=> ∃i,(Y i).D y⟩ ⟨g1.size,g2.size,g3.size,g4.size⟩ ⟨[], [],⟨Y,fun i=> ?_,fun i j y hij hy hz=> ?_,fun _=>Iff.rfl,fun _=>Iff.rfl⟩,⟨Rcp.Rel.nil,Rbx.Rel.nil,fun y hy=>by cases hy⟩⟩ ⟨f1.tt (f2.tt (f3.tt (f4.tt (f5.tt f6)))),fun y hy=> ?_⟩
 ·rcases i with _|_|_|_|_|i
  ·exact⟨none,0,(f3.tt (f4.tt (f5.tt f6))).get b2 id, .nil rfl rfl rfl rfl,fun y=>⟨fun hy=> .inl hy.2,fun hy=>⟨by omega,hy.resolve_right nb⟩⟩,fun _=>id,nb,fun s hs=>by cases hs⟩
  ·exact⟨none,0,(f4.tt (f5.tt f6)).get b3 id, .nil rfl rfl rfl rfl,fun y=>⟨fun hy=> .inl hy.2,fun hy=>⟨by omega,hy.resolve_right nb⟩⟩,fun _=>id,nb⟩
  ·exact⟨none,0, [],(f5.tt f6).get b4 id, .nil rfl rfl rfl rfl,rfl,(fun y hy=>by cases hy),fun y=>⟨fun hy=> .inl hy.2,fun hy=>⟨by omega,hy.resolve_right nb⟩⟩,nb,fun _ _ h=>h,fun _ h=>h.elim⟩
  ·exact⟨none,0, [],f6.get b5 id, .nil rfl rfl rfl rfl,rfl,(fun y hy=>by cases hy),fun y=>⟨fun hy=> .inl hy.2,fun hy=>⟨by omega,hy.resolve_right nb⟩⟩,nb,fun _ _ h=>h,fun _ h=>h.elim⟩
  ·exact⟨b6,fun y=>⟨⟨fun hy=>hy.2,fun hy=>⟨by omega,hy⟩⟩,id⟩⟩
  ·exact fun y hy=>hy.elim (fun hy=>by have:=hy.1;omega) id
 ·have h1:i<5∧y=b i:=hy.resolve_right id
  have h2:j<5∧y=b j:=hz.resolve_right id
  have h3:=h1.2
  have h4:=h2.2
  have h5:=h1.1
  have h6:=h2.1
  rcases i with _|_|_|_|_|i<;>first|omega|(rcases j with _|_|_|_|_|j<;>first|exact hij rfl|omega|(simp only[b,List.getD_cons_zero,List.getD_cons_succ] at h3 h4;omega))
 ·have key: ∀i,i<5∧y=b i→h.size≤y:=fun i ⟨h1,h2⟩=>by
   rcases i with _|_|_|_|_|i<;>first|omega|(simp only[b,List.getD_cons_zero,List.getD_cons_succ] at h2;omega)
  rcases hy with⟨i,a⟩|⟨i,a⟩
  ·exact key i a
  ·exact a.elim
theorem rpass_ok {n:Int} (now:Nat) (hn:n=(now:Int)) (H:RSt h x X I σ) (G:Good σ k) (hk8:k≤30000) (O:Cps.Ord σ.C)
  (hk: ∀h' X',RSt h' x X' I (passA σ now)→StepF X h X' h'→R (.int .i64 (passE σ now)) h'):CallsH Tryz.prog F.ref26_State_Pass #[pt x, .int .u64 n] h R:=by
 subst hn
 have H0:=H
 obtain⟨Lc,Lb,H,rl⟩:=H
 have B:=H.blk
 refine ref26_State_Pass.walk ?_
 unfold passA at hk
 by_cases h1:now>1099511627776
 ·have e:passE σ now=1:=if_pos h1
  rw[e,if_neg (by decide)] at hk
  rw[if_pos (decide_eq_true (by omega))]
  exact hk h X H0 (StepF.refl _ _)
 rw[if_neg (fun e=>h1 (by have:=of_decide_eq_true e;omega))]
 refine⟨_,cell_at B rfl, ?_⟩
 by_cases h2:now<σ.now
 ·have e:passE σ now=18:=by unfold passE;rw[if_neg h1,if_pos h2]
  rw[e,if_neg (by decide)] at hk
  rw[if_pos (decide_eq_true (by omega))]
  exact hk h X H0 (StepF.refl _ _)
 rw[if_neg (fun e=>h2 (by have:=of_decide_eq_true e;omega))]
 have e:passE σ now=0:=by unfold passE;rw[if_neg h1,if_neg h2]
 rw[e,if_pos rfl] at hk
 have lc:=rl.c.next
 have lb:=rl.b.next
 have gl:=G.c.len
 have gb:=G.b
 refine storeP_blk B (by simp) fun h2 a1 a2 a3=> ?_
 obtain⟨Z,⟨_,on⟩,zm,zd,go⟩:=H.use 4
 obtain⟨X2,H2,st2⟩:=go h2 Z { σ with now:=now } Lc Lb ⟨a1,on⟩ (StepF.of_fr (Fr.of_eq a2 fun c hc=>a3 c (fun e=>hc ((on c).1.2 e)))) (fun i hi=>rpart_n _ hi)
 obtain⟨Z,hz,zm,zd,go⟩:=H2.use 2
 refine⟨_,cell_at H2.blk rfl,Rcp.rpass_ok now rfl hz (by omega) fun h3 p3 c3 ms _ _ C3 s3 hs hm=>⟨_,_,_,rfl, ?_⟩⟩
 have r3:=rl.c.pass G.c.ok O rl.s hm hs
 have e3:(Rcp.overL Lc ms)=Lc.map (Rcp.overM now):=Rcp.over_map hm
 rw[e3] at C3 r3
 obtain⟨X3,H3,st3⟩:=go h3 Z { σ with now:=now } ((Lc.map (Rcp.overM now)).map (Rcp.freeR now)) Lb C3 s3 (fun i hi=>rpart_c _ hi)
 obtain⟨Z,hz,zm,zd,go⟩:=H3.use 3
 refine⟨_,cell_at H3.blk rfl,Rbx.pass_ok now rfl hz (by omega) fun h4 p4 c4 ms4 _ _ B4 s4 hs4 hm4=>⟨_,_,_,rfl, ?_⟩⟩
 have e4:(Rbx.overL Lb ms4)=Lb.map (Rbx.overM now):=Rbx.over_map hm4
 rw[e4] at B4
 obtain⟨X4,H4,st4⟩:=go h4 Z { σ with now:=now } ((Lc.map (Rcp.overM now)).map (Rcp.freeR now)) (Lb.map (Rbx.overM now)) B4 s4 (fun i hi=>rpart_b _ hi)
 refine hk h4 X4 ⟨_,_,RPt.says (C:=Cps.passF σ.C (now:Int)) (B:=passB σ.B now) (Q:=(passB σ.B now).items) H4,⟨r3,rl.b.passB now,fun y hy=> ?_⟩⟩ (st2.trans (st3.trans st4))
 obtain⟨z,hz,rfl⟩:=List.mem_map.1 hy
 obtain⟨w,hw,rfl⟩:=List.mem_map.1 hz
 have:=rl.s w hw
 unfold Rcp.freeR Rcp.overM Rcp.overC
 split<;>split<;>first|exact Int.le_refl 0|exact this
theorem Rl.items (r:Rl σ Lc Lb) {ys:List Rbx.RV} (e:ys.map Rbx.RV.abs=Lb.filter (fun y=>decide (y.fate=1))):σ.B.items=ys.map (fun y=>y.abs.it):=by
 rw[r.b.there,←e,List.map_map];rfl
def usedQ (l:List It) (o:Int):Int:=if o=0 then tot l else own l o
theorem used_ok (owner:Int) (H:RPt h x X I σ Lc Lb) (rl:Rl σ Lc Lb) (G:Good σ k) (hk8:k≤30000) (hk: ∀h',Fr (fun _=>False) h h'→R (.int .i64 (usedQ σ.B.items owner)) h'):
  CallsH Tryz.prog F.ref26_State_Used #[pt x, .int .i64 owner] h R:=by
 obtain⟨Z,hz,_⟩:=H.use 3
 have lb:=rl.b.next
 have gb:=G.b
 obtain⟨_,_,_,_,q1,q2⟩:=G.ok
 rw[G.q] at q1 q2
 refine ref26_State_Used.walk ⟨_,cell_at H.blk rfl,Rbx.there_ok hz (by omega) fun h1 p1 c1 ys o1 _ ab1 _ f1=>⟨_,_,_,rfl, ?_⟩⟩
 have ei:=rl.items ab1
 have li:ys.length=σ.B.items.length:=by rw[ei,List.length_map]
 have us: ∀j,usedQ (σ.B.items.take j) owner≤4800∧0≤usedQ (σ.B.items.take j) owner:=fun j=>by
  unfold usedQ
  have t1:=take_le σ.B.items j
  split
  ·exact⟨by have:=t1.1;omega,tot_nn⟩
  ·exact⟨by have:=t1.2 owner;have:=(q2 owner).2;omega,own_nn⟩
 have uS: ∀ {j:Nat} {y:Rbx.RV},ys[j]? =some y→usedQ (σ.B.items.take (j+1)) owner=usedQ (σ.B.items.take j) owner+(if owner=0∨y.owner=owner then(y.v.b.length:Int) else 0):=fun {j y} hy=>by
  have hx:σ.B.items[j]? =some y.abs.it:=by rw[ei,List.getElem?_map,hy];rfl
  have e1:(y.abs.it.d.length:Int)=(y.v.b.length:Int):=rfl
  have e2:y.abs.it.owner=y.owner:=rfl
  unfold usedQ
  by_cases o0:owner=0
  ·rw[if_pos o0,if_pos o0,if_pos (.inl o0),take_tot hx,e1]
  ·rw[if_neg o0,if_neg o0,take_own hx,e1,e2]
   by_cases o1:y.owner=owner
   ·rw[if_pos o1,if_pos (.inr o1)]
   ·rw[if_neg o1,if_neg (fun e=>e.elim o0 o1)]
 have l16:ys.length≤1000000:=by have:=rl.b.len;unfold Rbx.cnt at this;have:=List.length_filter_le (fun y:Rbx.RI=>decide (y.fate=1)) Lb;omega
 refine⟨fun n i g=>g=h1∧ ∃j:Nat,i=(j:Int)∧j≤ys.length∧n=usedQ (σ.B.items.take j) owner,fun _ i _=>ys.length - i.toNat,⟨rfl,0,rfl,Nat.zero_le _,by unfold usedQ;split<;>rfl⟩, ?_⟩
 rintro _ _ g ⟨rfl,j,rfl,hj,rfl⟩
 by_cases hlt:j<ys.length
 ·rw[if_pos (decide_eq_true (by omega))]
  have hy:=List.getElem?_eq_getElem hlt
  obtain⟨pb,po,rfl⟩:=o1.addr (by omega)
  have hh:=o1.heldAt Rbx.renc_len hy
  have c1:hcell g (((⟨pb,po,none⟩:Addr).add (Int.toNat (j:Int)*5)).add 1)=some (.int .i64 ys[j].owner):=by rw[Int.toNat_natCast];exact hh.2.1
  have c2:hcell g (((⟨pb,po,none⟩:Addr).add (Int.toNat (j:Int)*5)).add 2)=some ys[j].v.val:=by rw[Int.toNat_natCast];exact hh.2.2.1
  have u1:=us j
  have u2:=us (j+1)
  have u3:=uS hy
  refine JoinP.of fun J hJ=>JoinP.of fun J1 hJ1=> ?_
  have fin: ∀n,n=usedQ (σ.B.items.take (j+1)) owner→J n g:=fun n hn=>by
   subst hJ
   dsimp only
   rw[wrap_id (by omega) (by omega)]
   exact⟨⟨rfl,j+1,by omega,by omega,hn⟩,by show ys.length - Int.toNat ((j:Int)+1)<ys.length - Int.toNat (j:Int);omega⟩
  have yes:(owner=0∨ys[j].owner=owner)→J1 true g:=fun e=>by
   rw[if_pos e] at u3
   subst hJ1
   refine JoinP.of fun J2 hJ2=> ?_
   rw[if_pos rfl]
   refine⟨⟨by omega,by omega⟩,onSome_some.2 ⟨_,_,_,c2, ?_⟩⟩
   subst hJ2
   rw[wrap_id (by omega) (by omega)]
   exact fin _ (by omega)
  by_cases o0:owner=0
  ·rw[if_pos (by simpa using o0)]
   exact yes (.inl o0)
  ·rw[if_neg (by simpa using o0)]
   refine⟨⟨by omega,by omega⟩,onSome_some.2 ⟨_,c1, ?_⟩⟩
   by_cases e:ys[j].owner=owner
   ·rw[show(ys[j].owner==owner)=true by simpa using e]
    exact yes (.inr e)
   ·rw[show(ys[j].owner==owner)=false by simpa using e]
    rw[if_neg (fun q=>q.elim o0 e)] at u3
    subst hJ1
    refine JoinP.of fun J2 hJ2=> ?_
    rw[if_neg (by decide)]
    subst hJ2
    exact fin _ (by omega)
 ·rw[if_neg (fun e=>hlt (by have:=of_decide_eq_true e;omega))]
  rw[List.take_of_length_le (by omega)]
  exact hk g f1
theorem rfits_ok {owner:Int} {n:Nat} (H:RPt h x X I σ Lc Lb) (rl:Rl σ Lc Lb) (G:Good σ k) (hk8:k≤30000) (hk: ∀h',Fr (fun _=>False) h h'→R (.bool (fitsQ σ.Q owner n)) h'):
  CallsH Tryz.prog F.ref26_State_Fits #[pt x, .int .i64 owner, .int .i64 (n:Int)] h R:=by
 have no: ∀g,Fr (fun _=>False) h g→fitsQ σ.Q owner n=false→R (.bool false) g:=fun g f e=>by have:=hk g f;rwa[e] at this
 have fi:= @Quota.fits_iff 4800 1600 (tot σ.Q) (own σ.Q) owner n
 obtain⟨_,_,_,_,q1,q2⟩:=G.ok
 have n1:=tot_nn (l:=σ.Q)
 have n2:=own_nn (l:=σ.Q) (o:=owner)
 have n3:=(q2 owner).2
 have neg: ¬((1≤owner∧owner≤1099511627776∧0≤(n:Int))∧(n:Int)≤1600 - own σ.Q owner∧(n:Int)≤4800 - tot σ.Q)→fitsQ σ.Q owner n=false:=fun hn=>by
  cases e:fitsQ σ.Q owner n with
  |false=>rfl
  |true=>exact absurd (fi.1 e) hn
 refine ref26_State_Fits.walk ?_
 by_cases h1:owner≥1
 ·rw[if_pos (decide_eq_true h1)]
  by_cases h2:owner≤1099511627776
  ·rw[if_pos (decide_eq_true h2)]
   refine used_ok owner H rl G hk8 fun g1 f1=>⟨_,rfl, ?_⟩
   have e1:usedQ σ.B.items owner=own σ.Q owner:=by unfold usedQ;rw[if_neg (by omega),G.q]
   rw[e1,wrap_id (by omega) (by omega)]
   by_cases h3:(n:Int)≤1600 - own σ.Q owner
   ·rw[if_pos (decide_eq_true h3)]
    refine used_ok 0 (H.on f1) rl G hk8 fun g2 f2=>⟨_,rfl, ?_⟩
    have e2:usedQ σ.B.items 0=tot σ.Q:=by unfold usedQ;rw[if_pos rfl,G.q]
    rw[e2,wrap_id (by omega) (by omega)]
    by_cases h4:(n:Int)≤4800 - tot σ.Q
    ·have:=hk g2 (f1.tt f2)
     rw[show fitsQ σ.Q owner n=true from fi.2 ⟨⟨by omega,h2,by omega⟩,h3,h4⟩] at this
     rw[decide_eq_true h4];exact this
    ·rw[decide_eq_false h4]
     exact no g2 (f1.tt f2) (neg fun q=>h4 q.2.2)
   ·rw[if_neg (fun e=>h3 (of_decide_eq_true e))]
    exact no g1 f1 (neg fun q=>h3 q.2.1)
  ·rw[if_neg (fun e=>h2 (of_decide_eq_true e))]
   exact no h (Fr.refl _ _) (neg fun q=>h2 q.1.2.1)
 ·rw[if_neg (fun e=>h1 (of_decide_eq_true e))]
  exact no h (Fr.refl _ _) (neg fun q=>h1 (by have:=q.1.1;omega))
theorem rput_ok {owner n:Int} {bs:List UInt8} {l c:Nat} (till:Nat) (hn:n=(till:Int)) (H:RSt h x X I σ) (G:Good σ k) (hk8:k≤30000) (hr:Row h p (bc bs)) (hl:l=bs.length) (hb:bs.length≤1000000)
  (hk: ∀h' X',RSt h' x X' I (putS σ owner bs till)→StepF X h X' h'→R (.tuple #[.int .i64 (putN σ owner bs till), .int .i64 (putE σ owner bs till)]) h'):
  CallsH Tryz.prog F.ref26_State_Put #[pt x, .int .i64 owner, .slice p l c, .int .u64 n] h R:=by
 subst hn;subst hl
 obtain⟨Lc,Lb,H,rl⟩:=H
 obtain⟨Z,hz,_⟩:=H.use 3
 have lb:=rl.b.next
 have gb:=G.b
 refine ref26_State_Put.walk (JoinP.of fun J hJ=>⟨_,cell_at H.blk rfl,Rbx.there_ok hz (by omega) fun h2 p2 c2 ys _ _ ab2 _ f2=>⟨_,_,_,rfl, ?_⟩⟩)
 have ln:ys.length=σ.B.items.length:=by rw[rl.items ab2,List.length_map]
 have H2:=H.on f2
 have no:σ.B.items.length≥16∨fitsQ σ.Q owner bs.length=false→ ∀g,Fr (fun _=>False) h g→R (.tuple #[.int .i64 0, .int .i64 15]) g:=fun c g f=>by
  have e1:putE σ owner bs till=15:=if_pos c
  have e2:putN σ owner bs till=0:=if_pos c
  have e3:putS σ owner bs till=σ:=if_neg (by rw[e1];decide)
  rw[e1,e2,e3] at hk
  exact hk g X ⟨Lc,Lb,H.on f,rl⟩ (StepF.of_no f)
 by_cases h16:σ.B.items.length≥16
 ·rw[if_pos (decide_eq_true (by omega))]
  subst hJ
  dsimp only
  rw[if_pos rfl]
  exact no (.inl h16) h2 f2
 rw[if_neg (fun e=>h16 (by have:=of_decide_eq_true e;omega))]
 refine rfits_ok H2 rl G hk8 fun h3 f3=>⟨_,rfl, ?_⟩
 have H3:=H2.on f3
 have F3:=f2.tt f3
 subst hJ
 dsimp only
 cases hf:fitsQ σ.Q owner bs.length with
 |false=>
  rw[if_pos (by decide)]
  exact no (.inr hf) h3 F3
 |true=>
  rw[if_neg (by decide)]
  have hno: ¬(σ.B.items.length≥16∨fitsQ σ.Q owner bs.length=false):=fun c=>c.elim h16 (fun e=>by rw[hf] at e;cases e)
  have eE:putE σ owner bs till=Obx.addE σ.B owner bs till:=if_neg hno
  have eN:putN σ owner bs till=Obx.addN σ.B owner bs till:=if_neg hno
  rw[eE,eN] at hk
  unfold putS at hk
  rw[eE] at hk
  have ra:=rl.b.addE owner bs till
  obtain⟨Z,hz,zm,zd,go⟩:=H3.use 3
  refine⟨_,cell_at H3.blk rfl,Rbx.add_ok till rfl hz (hr.frame F3 (fun _ _=>id)) rfl hb (by omega) (fun he h4 Z4 B4 s4=>⟨_,_,rfl, ?_⟩) (fun he h4 f4=>⟨_,_,rfl, ?_⟩)⟩
  ·have e0:Obx.addE σ.B owner bs till=0:=by rw[ra];exact he
   have eN:Obx.addN σ.B owner bs till=(σ.B.next:Int):=if_pos e0
   have eS:Obx.addS σ.B owner bs till= { σ.B with items:=σ.B.items++ [⟨σ.B.next,owner,bs,till⟩],next:=σ.B.next+1 } :=if_pos e0
   rw[e0,if_pos rfl,eN,eS] at hk
   obtain⟨X4,H4,st4⟩:=go h4 Z4 σ Lc (Lb++ [(⟨⟨Lb.length+1,owner,bs,till⟩,1⟩:Rbx.RI)]) B4 s4 (fun i hi=>rpart_b _ hi)
   rw[show((Lb.length:Int)+1)=(σ.B.next:Int) by omega]
   exact hk h4 X4 ⟨_,_,RPt.says (C:=σ.C) (B:= { σ.B with items:=σ.B.items++ [⟨σ.B.next,owner,bs,till⟩],next:=σ.B.next+1 }) (Q:=σ.B.items++ [⟨σ.B.next,owner,bs,till⟩]) H4,⟨rl.c,rl.b.add owner bs till,rl.s⟩⟩ (StepF.no F3 st4)
  ·have e0: ¬Obx.addE σ.B owner bs till=0:=by rw[ra];exact he
   have eN:Obx.addN σ.B owner bs till=0:=if_neg e0
   rw[if_neg e0,eN,ra] at hk
   exact hk h4 X ⟨Lc,Lb,H3.on f4,rl⟩ (StepF.of_no (F3.tt f4))
end Stt
end Go.Proofs.YtgccegnmggjkjaaGreatDoor
set_option maxRecDepth 100000
namespace Go.Proofs.YtgccegnmggjkjaaGreatDoor
open Go.Den Go.Fields
namespace Regs
open Eid Fld
variable {h h' : Heap} {R : Value → Heap → Prop} {b x : Nat} {X Y : Ft} {L L' : List Rg} {p : Option Addr} {c n i : Nat} {r : Rg}
theorem rsave_ok (H:Rt h x Y L) (hl:L.length≤1000) (ok: ∀r∈L,okR r) (hk: ∀h' p' l' c',BL h h' p' l' c' (L.map recR)→Fr (fun _=>False) h h'→R (.slice p' l' c') h'):CallsH Tryz.prog F.ref22_Table_Save #[.pointer (some ⟨x,0,none⟩)] h R:=by
 obtain⟨p,c,H⟩:=H
 refine ref22_Table_Save.walk ?_
 refine⟨fun op ol oc t g=> ∃k:Nat,t=(k:Int)∧k≤L.length∧BL h g op ol oc ((L.take k).map recR)∧Fr (fun _=>False) h g,fun _ _ _ t _=>L.length - t.toNat,⟨0,rfl,by omega,by simpa using BL.nil,Fr.refl _ _⟩, ?_⟩
 rintro op ol oc _ g ⟨k,rfl,hkn,B,fg⟩
 have Hg:=H.on fg
 refine⟨_,_,_,cell_at Hg.blk rfl, ?_⟩
 by_cases hlt:k<L.length
 ·have q1:(k:Int)<((L.length:Nat):Int):=by omega
  simp only[q1,decide_true,if_true,Int.toNat_natCast]
  have hx:L[k]? =some L[k]:=List.getElem?_eq_getElem hlt
  generalize L[k]=v at hx
  have hok:=ok v (List.mem_of_getElem? hx)
  have ke:=hok.e
  have l0:=text_len ke.1 hok.sv
  have l1:=(encNum_len (textE v.e).length).2
  have l2:=(encNum_len (natOf v.pol)).2
  have l3:=(encNum_len (natOf v.own)).2
  have el:(encText (textE v.e)).length=(encNum (textE v.e).length).length+(textE v.e).length:=by unfold encText;rw[List.length_append]
  have n1:IntKind.wrap .u64 v.pol=((natOf v.pol:Nat):Int):=by unfold natOf;rw[wrap_u64 (by omega) (by omega)];omega
  have n2:IntKind.wrap .u64 v.own=((natOf v.own:Nat):Int):=by unfold natOf;rw[wrap_u64 (by omega) (by omega)];omega
  have m1:natOf v.pol<18446744073709551616:=by unfold natOf;omega
  have m2:natOf v.own<18446744073709551616:=by unfold natOf;omega
  obtain⟨ab,aoff,rfl⟩:=Hg.own.addr (by omega)
  have dt:(str (textE v.e)).data.toList=textE v.e:=by unfold str;simp
  have hh: ∀ {g':Heap},Fr (fun _=>False) g g'→g'[x]? =some (.cells #[.slice (some ⟨ab,aoff,none⟩) L.length c] T.ref22_Table (0,0))∧heldL ((⟨ab,aoff,none⟩:Addr).add (k*7)) (genc v) 0 g':=fun f=>⟨(Hg.on f).blk,(Hg.on f).own.heldAt genc_len hx⟩
  refine⟨_,_,_,cell_at Hg.blk rfl,⟨by first|trivial|omega,by first|trivial|omega⟩,onSome_some.2 (lde (hh (Fr.refl _ _)).2 (rtext_ok v.e ke.1 hok.sv fun h2 f2=>⟨_,rfl,s2b fun p3 c3 h3 r3 cc3 f3 n3=>⟨_,_,_,rfl, ?_⟩⟩))⟩
  rw[dt] at r3
  refine refText_ok r3 (str_size _) (by omega) fun p4 c4 h4 o4 u4=>⟨_,_,_,rfl, ?_⟩
  have F4:=f2.tt (f3.tt u4.fr)
  refine⟨_,_,_,cell_at (hh F4).1 rfl,⟨by first|trivial|omega,by first|trivial|omega⟩,onSome_some.2 ⟨_,(hh F4).2.2.2.2.2.2.1, ?_⟩⟩
  rw[n1]
  refine refNum_ok (natOf v.pol) rfl m1 fun p5 c5 h5 o5 u5=>⟨_,_,_,rfl, ?_⟩
  refine den_append tU uU (o4.frame u5.fr (fun _ _=>id)) o5.row' (by rw[bc_len,Nat.mul_one]) (bc_one _) (by omega) (by omega) fun p6 c6 h6 o6 _ f6 g6=>⟨_,_,_,rfl, ?_⟩
  have z2:=f2.1
  have z3:=f3.1
  have z5:=u5.fr.1
  have z4:=u4.fr.1
  have F6:Fr (fun _=>False) g h6:=(F4.tt u5.fr).fresh f6 (fun y hy=>by have:=u4.ge y hy;omega)
  have g6': ∀y,inBlk p6 y→g.size≤y:=fun y hy=>(g6 y hy).elim (fun h1=>by have:=u4.ge y h1;omega) (fun h1=>by omega)
  refine⟨_,_,_,cell_at (hh F6).1 rfl,⟨by first|trivial|omega,by first|trivial|omega⟩,onSome_some.2 ⟨_,(hh F6).2.2.2.2.2.2.2.1, ?_⟩⟩
  rw[n2]
  refine refNum_ok (natOf v.own) rfl m2 fun p7 c7 h7 o7 u7=>⟨_,_,_,rfl, ?_⟩
  refine den_append tU uU (o6.frame u7.fr (fun _ _=>id)) o7.row' (by rw[bc_len,Nat.mul_one]) (bc_one _) (by omega) (by omega) fun p8 c8 h8 o8 _ f8 g8=>⟨_,_,_,rfl, ?_⟩
  have z6:=F6.1
  have z7:=u7.fr.1
  have F8:Fr (fun _=>False) g h8:=(F6.tt u7.fr).fresh f8 g6'
  have g8': ∀y,inBlk p8 y→g.size≤y:=fun y hy=>(g8 y hy).elim (g6' y) (fun h1=>by omega)
  have er:bc (encText (textE v.e))++bc (encNum (natOf v.pol))++bc (encNum (natOf v.own))=bc (recR v):=by unfold recR;rw[bc_append,bc_append]
  have erl:(encText (textE v.e)).length+(encNum (natOf v.pol)).length+(encNum (natOf v.own)).length=(recR v).length:=by unfold recR;rw[List.length_append,List.length_append]
  rw[er,erl] at o8
  rw[erl]
  have zg:=fg.1
  have bl:=B.len
  rw[List.length_map,List.length_take] at bl
  refine(B.on F8).push (by have:=F8.1;omega) o8 (fun y hy=>⟨by have:=g8' y hy;omega,fun ho=>by have:=B.lt ho;have:=g8' y hy;omega⟩) (by omega) fun p9 c9 h9 B9 f9 g9=>⟨_,_,_,rfl, ?_⟩
  rw[wrap_id (by omega) (by omega)]
  refine⟨⟨k+1,by omega,by omega, ?_, ?_⟩,by show L.length - Int.toNat ((k:Int)+1)<L.length - k;omega⟩
  ·rw[List.take_add_one,hx,List.map_append]
   exact B9
  ·obtain⟨_,_,_,_,_,_,_,h6'⟩:=B
   exact(fg.tt F8).fresh f9 h6'
 ·have q1: ¬(k:Int)<((L.length:Nat):Int):=by omega
  simp only[q1,decide_false,Bool.false_eq_true,if_false]
  rw[List.take_of_length_le (by omega)] at B
  exact hk g op ol oc B fg
end Regs
end Go.Proofs.YtgccegnmggjkjaaGreatDoor
set_option maxRecDepth 100000
namespace Go.Proofs.YtgccegnmggjkjaaGreatDoor
open Go.Den Go.Fields
namespace Stt
open Obx (It)
open Eid (Ev rightE ev5 textE)
open Fld
variable {h h' : Heap} {R : Value → Heap → Prop} {x j k : Nat} {X : Ft} {σ : SS} {p : Option Addr} {Lc : List Rcp.RC} {Lb : List Rbx.RI} {I : RIds}
theorem ten (l:List Nat):(l.flatMap encNum).length≤10*l.length:=by
 induction l with
 |nil=>exact Nat.le_refl _
 |cons n l ih=>rw[List.flatMap_cons,List.length_append,List.length_cons];have:=encNum_len n;omega
set_option maxHeartbeats 2000000 in
theorem rsave_ok (H:RPt h x X I σ Lc Lb) (rl:Rl σ Lc Lb) (G:Good σ k) (hk8:k≤30000) (ba: ∀s∈σ.A,s.num≤8∧s.token≤2147483648) {Lk:List Go.Heapq.E} (okb:Obx.okB σ.B Lk) (hk: ∀h' p' l' c',BL h h' p' l' c' (headS σ::recsS σ)→Fr (fun _=>False) h h'→R (.slice p' l' c') h'):
  CallsH Tryz.prog F.ref26_State_Save #[pt x] h R:=by
 have lc:=rl.c.next
 have lb:=rl.b.next
 have gl:=G.c.len
 have gb:=G.b
 have ga:=G.a.le
 obtain⟨Y,hp,_⟩:=id H
 have B: ∀ {g},Fr (fun _=>False) h g→Rk g x I σ:=fun f=>f.get H.blk id
 have s0: ∀ {g:Heap} {K:Option Addr→Nat→Nat→Heap→Prop},Fr (fun _=>False) h g→(∀g' p l c,BL g g' p l c (Ses.recs σ.A)→Fr (fun _=>False) g g'→K p l c g')→Cl F.ref24_Table_Save #[pt I.t] g fun v g'=> ∃p l c,v= .slice p l c∧K p l c g':=fun f hK=>
  Rse.rsave_ok (Rse.Rt.frame (hp 0) f (fun _ _=>id)) ga ba fun g' p l c L f'=>⟨p,l,c,rfl,hK g' p l c L f'⟩
 have s1: ∀ {g:Heap} {K:Option Addr→Nat→Nat→Heap→Prop},Fr (fun _=>False) h g→(∀g' p l c,BL g g' p l c (σ.G.map Regs.recR)→Fr (fun _=>False) g g'→K p l c g')→Cl F.ref22_Table_Save #[pt I.r] g fun v g'=> ∃p l c,v= .slice p l c∧K p l c g':=fun f hK=>
  Regs.rsave_ok (Regs.Rt.on (hp 1) f) (by have:=G.g.len;omega) G.g.all fun g' p l c L f'=>⟨p,l,c,rfl,hK g' p l c L f'⟩
 have s2: ∀ {g:Heap} {K:Option Addr→Nat→Nat→Heap→Prop},Fr (fun _=>False) h g→(∀g' p l c,BL g g' p l c (Cps.recsC σ.C)→Fr (fun _=>False) g g'→K p l c g')→Cl F.ref21_Table_Save #[pt I.c] g fun v g'=> ∃p l c,v= .slice p l c∧K p l c g':=fun f hK=>
  Rcp.rsave_ok (Rcp.Rb.on (hp 2) f) (by omega) rl.c.fates (by rw[←rl.c.there];exact G.c.all) fun g' p l c L f'=>⟨p,l,c,rfl,hK g' p l c (rl.c.recs▸L) f'⟩
 have s3: ∀ {g:Heap} {K:Option Addr→Nat→Nat→Heap→Prop},Fr (fun _=>False) h g→(∀g' p l c,BL g g' p l c (Obx.recsB σ.B)→Fr (fun _=>False) g g'→K p l c g')→Cl F.ref23_Box_Save #[pt I.o] g fun v g'=> ∃p l c,v= .slice p l c∧K p l c g':=fun f hK=>
  Rbx.save_ok (Rbx.Rb.frame (hp 3) f (fun _ _=>id)) (by omega) rl.b.fates (fun z hz=>by
   have hz:z∈σ.B.items:=by rw[rl.b.there];exact hz
   have:=okb.it z hz
   exact⟨by omega,by omega,by omega,by omega,by omega⟩) fun g' p l c L f'=>⟨p,l,c,rfl,hK g' p l c (rl.b.recs▸L) f'⟩
 refine ref26_State_Save.walk (JoinP.of fun J hJ=> ?_)
 have fin: ∀ {g:Heap} {b4:Nat} {p1 p2 p3 p4:Option Addr} {l1 c1 l2 c2 l3 c3 l4 c4:Nat},a4_s_s_uint8.at g b4 p1 l1 c1 p2 l2 c2 p3 l3 c3 p4 l4 c4→BL h g p1 l1 c1 (Ses.recs σ.A)→BL h g p2 l2 c2 (σ.G.map Regs.recR)→BL h g p3 l3 c3 (Cps.recsC σ.C)→BL h g p4 l4 c4 (Obx.recsB σ.B)→Fr (fun _=>False) h g→J (some ⟨b4,0,none⟩) g:=by
  intro g b4 p1 p2 p3 p4 l1 c1 l2 c2 l3 c3 l4 c4 ha L1 L2 L3 L4 fg
  subst hJ
  dsimp only
  have bk:=B fg
  refine⟨_,cell_at bk rfl,_,cell_at bk rfl,_,cell_at bk rfl,_,cell_at bk rfl,_,cell_at bk rfl,Eid.rtext_ok σ.e G.e.1 G.e.2.2 fun h2 f2=>⟨_,rfl,s2b fun p3' c3' h3 r3 _ f3 _=>⟨_,_,_,rfl, ?_⟩⟩⟩
  have tl:=Eid.text_len G.e.1 G.e.2.2
  refine refText_ok (t:=textE σ.e) r3 rfl (by omega) fun p5 c5 h4 o4 u4=>⟨_,_,_,rfl, ?_⟩
  have f4:Fr (fun _=>False) h3 h4:=u4.fr
  have F4:Fr (fun _=>False) g h4:=f2.tt (f3.tt f4)
  have bk4:=B (fg.tt F4)
  refine⟨_,cell_at bk4 rfl,_,cell_at bk4 rfl,_,cell_at bk4 rfl,_,cell_at bk4 rfl,newP_of ?_⟩
  have rr:=G.r
  have rn:=G.n
  have rt:=G.t
  rw[wrap_u64 (n:=(σ.rf:Int)) (by omega) (by omega)]
  have f5:Fr (fun _=>False) h4 (h4.push (.cells #[.int .u64 (σ.now:Int), .int .u64 (σ.rf:Int), .int .u64 (σ.tm:Int), .int .u64 (σ.sq:Int)] T.uint64)):=Fr.push _ _
  have b5:(h4.push (.cells #[.int .u64 (σ.now:Int), .int .u64 (σ.rf:Int), .int .u64 (σ.tm:Int), .int .u64 (σ.sq:Int)] T.uint64))[h4.size]? =some (.cells #[.int .u64 (σ.now:Int), .int .u64 (σ.rf:Int), .int .u64 (σ.tm:Int), .int .u64 (σ.sq:Int)] T.uint64 (0,0)):=push_new
  generalize h4.push (.cells #[.int .u64 (σ.now:Int), .int .u64 (σ.rf:Int), .int .u64 (σ.tm:Int), .int .u64 (σ.sq:Int)] T.uint64)=h5 at f5 b5⊢
  refine⟨cell_at (B (fg.tt (F4.tt f5))) rfl, ?_⟩
  let ns:List Nat:= [σ.now,σ.rf,σ.tm,σ.sq]
  have z2:=f2.1
  have z3:=f3.1
  have z4:=f4.1
  have z5:=f5.1
  have lt0:(encText (textE σ.e)).length≤200:=by unfold encText;rw[List.length_append];have:=encNum_len (textE σ.e).length;omega
  generalize ht0:encText (textE σ.e)=t0 at o4 lt0
  have tj: ∀j,((ns.take j).flatMap encNum).length≤40:=fun j=>by
   have:=ten (ns.take j)
   rw[List.length_take] at this
   have:min j ns.length≤4:=Nat.min_le_right _ _
   omega
  refine⟨fun hp hl hc t g6=> ∃j:Nat,t=(j:Int)∧j≤4∧hl=(t0++(ns.take j).flatMap encNum).length∧Own g6 hp hl hc 1 (bc (t0++(ns.take j).flatMap encNum))∧(∀y,inBlk hp y→g.size≤y∧y≠h4.size)∧Fr (fun _=>False) g g6∧g6[h4.size]? =some (.cells #[.int .u64 (σ.now:Int), .int .u64 (σ.rf:Int), .int .u64 (σ.tm:Int), .int .u64 (σ.sq:Int)] T.uint64 (0,0)),fun _ _ _ t _=>4 - t.toNat,
   ⟨0,rfl,by omega,by simp,by simpa using o4.frame f5 (fun _ _=>id),fun y hy=>⟨by have:=u4.ge y hy;omega,by have:=o4.blk_lt hy;omega⟩,F4.tt f5,b5⟩, ?_⟩
  rintro hp _ hc _ g6 ⟨j,rfl,hj,rfl,o6,i6,F6,b6⟩
  have tjj:=tj j
  have la:(t0++(ns.take j).flatMap encNum).length≤240:=by rw[List.length_append];omega
  have lb6:=lt_of_get b6
  have z6:=F6.1
  by_cases hlt:j<4
  ·rw[if_pos (decide_eq_true (by omega))]
   have hcell: ∃n:Nat,ns[j]? =some n∧n<18446744073709551616∧hcell g6 ((⟨h4.size,0,none⟩:Addr).add (Int.toNat (j:Int)*1))=some (.int .u64 (n:Int)):=by
    rw[Int.toNat_natCast]
    match j,hlt with
    |0,_=>exact⟨_,rfl,by omega,cell_at b6 rfl⟩
    |1,_=>exact⟨_,rfl,by omega,cell_at b6 rfl⟩
    |2,_=>exact⟨_,rfl,by omega,cell_at b6 rfl⟩
    |3,_=>exact⟨_,rfl,by omega,cell_at b6 rfl⟩
   obtain⟨n,hnj,hnb,hcj⟩:=hcell
   refine⟨⟨by omega,by omega⟩,_,hcj,refNum_ok n rfl hnb fun p7 c7 h7 o7 u7=>⟨_,_,_,rfl, ?_⟩⟩
   have ln:=encNum_len n
   have f7:Fr (fun _=>False) g6 h7:=u7.fr
   refine den_append tU uU (o6.frame f7 (fun _ _=>id)) o7.row' (by rw[bc_len,Nat.mul_one]) (bc_one _) (by omega) (by omega) fun p8 c8 h8 o8 _ f8 i8=>⟨_,_,_,rfl, ?_⟩
   rw[wrap_id (by omega) (by omega)]
   have ej:t0++(ns.take (j+1)).flatMap encNum=(t0++(ns.take j).flatMap encNum)++encNum n:=by rw[List.take_add_one,hnj,List.flatMap_append,List.append_assoc];simp
   have z7:=f7.1
   refine⟨⟨j+1,by omega,by omega,by rw[ej];simp only[List.length_append],by rw[ej,bc_append];exact o8,fun y hy=>(i8 y hy).elim (i6 y) (fun q=>⟨by omega,by omega⟩),(F6.tt f7).fresh f8 (fun y hy=>(i6 y hy).1),f8.get (f7.get b6 id) (fun q=>(i6 _ q).2 rfl)⟩,by show 4 - Int.toNat ((j:Int)+1)<4 - Int.toNat (j:Int);omega⟩
  rw[if_neg (fun e=>hlt (by have:=of_decide_eq_true e;omega))]
  obtain rfl:j=4:=by omega
  have en:ns.take 4=ns:=rfl
  rw[en] at o6 la⊢
  have A6:Rcp.Acc g g6 hp hc (t0++ns.flatMap encNum):=⟨o6,fun y hy=>(i6 y hy).1,F6⟩
  clear o6 i6 b6 lb6 hlt hj
  generalize ht1:t0++ns.flatMap encNum=t1 at A6 la
  obtain⟨q0,q1,q2,q3,_⟩:=a4_s_s_uint8.held ha
  rw[add_zero_addr] at q0
  obtain⟨xs1,D1,rfl,o1,e1,d1,b1,i1⟩:=L1
  obtain⟨xs2,D2,rfl,o2,e2,d2,b2,i2⟩:=L2
  obtain⟨xs3,D3,rfl,o3,e3,d3,b3,i3⟩:=L3
  obtain⟨xs4,D4,rfl,o4',e4,d4,b4',i4⟩:=L4
  have n1:=congrArg List.length e1
  have n2:=congrArg List.length e2
  have n3:=congrArg List.length e3
  have n4:=congrArg List.length e4
  rw[List.length_map] at n1 n2 n3 n4
  have m1:=Ses.recs_le G.a
  have m2:=G.g.len
  have m3:(Cps.recsC σ.C).length=σ.C.L.length+1:=by unfold Cps.recsC;simp
  have m3':=G.c.L
  have m4:(Obx.recsB σ.B).length=σ.B.items.length+1:=by unfold Obx.recsB;simp
  have m4':=okb.le
  rw[List.length_map] at n2
  let ts:List RS:= [⟨p1,c1,xs1⟩,⟨p2,c2,xs2⟩,⟨p3,c3,xs3⟩,⟨p4,c4,xs4⟩]
  let cs:List Nat:= [xs1.length,xs2.length,xs3.length,xs4.length]
  have at_: ∀ {g':Heap} (j:Nat) {t:RS},Fr (fun _=>False) g g'→ts[j]? =some t→hcell g' ((⟨b4,0,none⟩:Addr).add (Int.toNat (j:Int)*1))=some t.val:=fun {g'} j {t} f ht=>by
   rw[Int.toNat_natCast,Nat.mul_one]
   refine f.cell ?_ id
   match j,ht with
   |0,ht=>obtain rfl:=Option.some.inj ht;rw[add_zero_addr];exact q0
   |1,ht=>obtain rfl:=Option.some.inj ht;exact q1
   |2,ht=>obtain rfl:=Option.some.inj ht;exact q2
   |3,ht=>obtain rfl:=Option.some.inj ht;exact q3
   |j+4,ht=>simp[ts] at ht
  have cj: ∀j,((cs.take j).flatMap encNum).length≤40:=fun j=>by
   have:=ten (cs.take j)
   rw[List.length_take] at this
   have:min j cs.length≤4:=Nat.min_le_right _ _
   omega
  refine⟨fun hp hl hc t g7=> ∃j:Nat,t=(j:Int)∧j≤4∧hl=(t1++(cs.take j).flatMap encNum).length∧Rcp.Acc g g7 hp hc (t1++(cs.take j).flatMap encNum),fun _ _ _ t _=>4 - t.toNat,⟨0,rfl,by omega,by rw[←ht1];simp,by simpa using A6⟩, ?_⟩
  rintro hp _ hc _ g7 ⟨j,rfl,hj,rfl,A7⟩
  have cjj:=cj j
  by_cases hlt:j<4
  ·rw[if_pos (decide_eq_true (by omega))]
   have ht:ts[j]? =some ts[j]:=List.getElem?_eq_getElem hlt
   have hc2:cs[j]? =some ts[j].xs.length∧ts[j].xs.length≤40000:=by
    match j,hlt with
    |0,_=>exact⟨rfl,by show xs1.length≤_;omega⟩
    |1,_=>exact⟨rfl,by show xs2.length≤_;omega⟩
    |2,_=>exact⟨rfl,by show xs3.length≤_;omega⟩
    |3,_=>exact⟨rfl,by show xs4.length≤_;omega⟩
   refine⟨⟨by omega,by omega⟩,onSome_some.2 ⟨_,_,_,at_ j A7.fr ht, ?_⟩⟩
   rw[wrap_u64 (by omega) (by omega)]
   refine refNum_ok ts[j].xs.length rfl (by omega) fun p8 c8 h8 o8 u8=>⟨_,_,_,rfl, ?_⟩
   have ln:=encNum_len ts[j].xs.length
   refine Rcp.Acc.app (A7.on u8.fr) o8.row' rfl rfl (by rw[List.length_append];omega) fun p9 c9 h9 A9=>⟨_,_,_,rfl, ?_⟩
   rw[wrap_id (by omega) (by omega)]
   have ej:t1++(cs.take (j+1)).flatMap encNum=(t1++(cs.take j).flatMap encNum)++encNum ts[j].xs.length:=by rw[List.take_add_one,hc2.1,List.flatMap_append,List.append_assoc];simp
   rw[←ej] at A9⊢
   exact⟨⟨j+1,by omega,by omega,rfl,A9⟩,by show 4 - Int.toNat ((j:Int)+1)<4 - Int.toNat (j:Int);omega⟩
  rw[if_neg (fun e=>hlt (by have:=of_decide_eq_true e;omega))]
  obtain rfl:j=4:=by omega
  have eh:headS σ=t1++(cs.take 4).flatMap encNum:=by
   unfold headS
   rw[←ht1,ht0,←n1,List.length_map,←n2,←n3,←n4]
   simp[ns,cs]
  rw[eh] at hk
  generalize t1++(cs.take 4).flatMap encNum=hd at A7 hk
  refine newP_of ?_
  have f8:Fr (fun _=>False) g7 (g7.push (.cells #[.slice hp hd.length hc] T.s_uint8)):=Fr.push _ _
  have ol:Own (g7.push (.cells #[.slice hp hd.length hc] T.s_uint8)) (some ⟨g7.size,0,none⟩) 1 1 1 (nenc ⟨hp,hc,hd⟩):= .row _ 0 _ _ rfl push_new (by omega) (by simp) rfl (fun j v hj=>by rw[Nat.zero_add];simpa using hj)
  have fts: ∀j,((ts.take j).flatMap RS.xs).length≤40000:=fun j=>by
   have h1:(ts.flatMap RS.xs).length≤40000:=by simp[ts];omega
   have h2:ts.flatMap RS.xs=(ts.take j).flatMap RS.xs++(ts.drop j).flatMap RS.xs:=by rw[←List.flatMap_append,List.take_append_drop]
   rw[h2,List.length_append] at h1;omega
  refine⟨fun op' ol' oc' t g8=> ∃j:Nat,t=(j:Int)∧j≤4∧ol'=1+((ts.take j).flatMap RS.xs).length∧Own g8 op' ol' oc' 1 (((⟨hp,hc,hd⟩:BV)::(ts.take j).flatMap RS.xs).flatMap nenc)∧(∀y,inBlk op' y→g7.size≤y)∧Fr (fun _=>False) g7 g8,fun _ _ _ t _=>4 - t.toNat,
   ⟨0,rfl,by omega,by simp,by simpa using ol,fun y ⟨a,ea,eb⟩=>by cases ea;exact Nat.le_of_eq eb,f8⟩, ?_⟩
  rintro op' _ oc' _ g8 ⟨j,rfl,hj,rfl,o8,i8,f8'⟩
  have ftj:=fts j
  by_cases hlt:j<4
  ·rw[if_pos (decide_eq_true (by omega))]
   have ht:ts[j]? =some ts[j]:=List.getElem?_eq_getElem hlt
   have rj:Row g8 ts[j].p (ts[j].xs.flatMap nenc):=by
    have F:=A7.fr.tt f8'
    match j,hlt with
    |0,_=>exact o1.row'.frame F (fun _ _=>id)
    |1,_=>exact o2.row'.frame F (fun _ _=>id)
    |2,_=>exact o3.row'.frame F (fun _ _=>id)
    |3,_=>exact o4'.row'.frame F (fun _ _=>id)
   have e5:=take_flat ht
   have fj1:=fts (j+1)
   rw[e5,List.length_append] at fj1
   refine⟨⟨by omega,by omega⟩,onSome_some.2 ⟨_,_,_,at_ j (A7.fr.tt f8') ht, ?_⟩⟩
   refine den_append tN uN o8 rj (by rw[nflat_len,Nat.mul_one]) (nenc_one _) (by omega) (by omega) fun p9 c9 h9 o9 _ f9 i9=>⟨_,_,_,rfl, ?_⟩
   rw[wrap_id (by omega) (by omega)]
   refine⟨⟨j+1,by omega,by omega,by rw[e5,List.length_append];omega, ?_,fun y hy=>(i9 y hy).elim (i8 y) (fun q=>Nat.le_trans f8'.1 q),f8'.fresh f9 i8⟩,by show 4 - Int.toNat ((j:Int)+1)<4 - Int.toNat (j:Int);omega⟩
   rw[e5,←List.cons_append,List.flatMap_append]
   exact o9
  rw[if_neg (fun e=>hlt (by have:=of_decide_eq_true e;omega))]
  obtain rfl:j=4:=by omega
  have et:(ts.take 4).flatMap RS.xs=xs1++(xs2++(xs3++xs4)):=by simp[ts]
  rw[et] at o8⊢
  have z7:=A7.fr.1
  have z8:=f8'.1
  have zg:=fg.1
  have F:=A7.fr.tt f8'
  refine hk g8 op' _ oc' (join_ok (g4:=g7) d1 d2 d3 d4 e1 e2 e3 e4 (fun y hy=> ?_) F (by omega) (by omega) (by omega) (A7.own.frame f8' (fun _ _=>id)) (fun y hy=>⟨by have:=A7.new y hy;omega,A7.own.blk_lt hy⟩) rfl o8 i8) (fg.tt F)
  rcases hy with hy|hy|hy|hy
  ·exact⟨(b1 y hy).1,(b1 y hy).2.1⟩
  ·exact⟨(b2 y hy).1,(b2 y hy).2.1⟩
  ·exact⟨(b3 y hy).1,(b3 y hy).2.1⟩
  ·exact⟨(b4' y hy).1,(b4' y hy).2.1⟩
 have c: ∀ {g},Fr (fun _=>False) h g→(hcell g ⟨x,0,none⟩=some (pt I.t)∧hcell g ⟨x,1,none⟩=some (pt I.r)∧hcell g ⟨x,2,none⟩=some (pt I.c)∧hcell g ⟨x,3,none⟩=some (pt I.o)):=fun f=>⟨cell_at (B f) rfl,cell_at (B f) rfl,cell_at (B f) rfl,cell_at (B f) rfl⟩
 have f0:=Fr.refl (fun _=>False) h
 refine⟨_,(c f0).1,_,(c f0).2.1,_,(c f0).2.2.1,_,(c f0).2.2.2, ?_, ?_,trivial⟩
 ·refine s0 f0 fun g1 p1 l1 c1 L1 f1=>⟨(c f1).2.2.2,(c f1).2.2.1,(c f1).2.1, ?_, ?_,trivial⟩
  ·refine s1 f1 fun g2 p2 l2 c2 L2 f2=>⟨(c (f1.tt f2)).2.2.2,(c (f1.tt f2)).2.2.1, ?_, ?_,trivial⟩
   ·have F2:=f1.tt f2
    refine s2 F2 fun g3 p3 l3 c3 L3 f3=>⟨(c (F2.tt f3)).2.2.2, ?_, ?_,trivial⟩
    ·have F3:=F2.tt f3
     refine s3 F3 fun g4 p4 l4 c4 L4 f4=>a4_s_s_uint8.new fun b4 g5 eb hb5 f5=> ?_
     exact fin hb5 (L1.on (f2.tt (f3.tt (f4.tt f5)))) ((L2.mono f1.1).on (f3.tt (f4.tt f5))) ((L3.mono F2.1).on (f4.tt f5)) ((L4.mono F3.1).on f5) (F3.tt (f4.tt f5))
    ·have F3:=F2.tt f3
     refine a4_s_s_uint8.box fun b4 g4 eb hb4 f4=>⟨(c (F3.tt f4)).2.2.2, ?_⟩
     have F4:=F3.tt f4
     refine s3 F4 fun g5 p4 l4 c4 L4 f5=>a4_s_s_uint8.set (f5.get hb4 id) fun g6 hb6 z6 o6=> ?_
     have f6:Fr (fun y=>y=b4) g5 g6:=Fr.of_eq z6 o6
     have T3:Fr (fun _=>False) g3 g6:=(f4.tt f5).fresh f6 (fun y e=>by omega)
     exact fin hb6 (L1.on (f2.tt (f3.tt T3))) ((L2.mono f1.1).on (f3.tt T3)) ((L3.mono F2.1).on T3) ((L4.frame f6 (fun y hy e=>by have:=lt_of_get hb4;omega)).mono F4.1) (F3.tt T3)
   ·have F2:=f1.tt f2
    refine a4_s_s_uint8.box fun b4 g3 eb hb3 f3=>⟨(c (F2.tt f3)).2.2.2,(c (F2.tt f3)).2.2.1, ?_⟩
    have F3:=F2.tt f3
    have lb:=lt_of_get hb3
    refine s2 F3 fun g4 p3 l3 c3 L3 f4=>⟨(c (F3.tt f4)).2.2.2,s3 (F3.tt f4) fun g5 p4 l4 c4 L4 f5=>a4_s_s_uint8.set ((f4.tt f5).get hb3 id) fun g6 hb6 z6 o6=> ?_⟩
    have F4:=F3.tt f4
    have f6:Fr (fun y=>y=b4) g5 g6:=Fr.of_eq z6 o6
    have z4:=f4.1
    have T2:Fr (fun _=>False) g2 g6:=(f3.tt (f4.tt f5)).fresh f6 (fun y e=>by omega)
    exact fin hb6 (L1.on (f2.tt T2)) ((L2.mono f1.1).on T2) (((L3.on f5).frame f6 (fun y hy e=>by omega)).mono F3.1) ((L4.frame f6 (fun y hy e=>by omega)).mono F4.1) (F2.tt T2)
  ·refine a4_s_s_uint8.box fun b4 g2 eb hb2 f2=>⟨(c (f1.tt f2)).2.2.2,(c (f1.tt f2)).2.2.1,(c (f1.tt f2)).2.1, ?_⟩
   have F2:=f1.tt f2
   have lb:=lt_of_get hb2
   refine s1 F2 fun g3 p2 l2 c2 L2 f3=>⟨(c (F2.tt f3)).2.2.2,(c (F2.tt f3)).2.2.1,s2 (F2.tt f3) fun g4 p3 l3 c3 L3 f4=>⟨(c (F2.tt (f3.tt f4))).2.2.2,s3 (F2.tt (f3.tt f4)) fun g5 p4 l4 c4 L4 f5=>a4_s_s_uint8.set ((f3.tt (f4.tt f5)).get hb2 id) fun g6 hb6 z6 o6=> ?_⟩⟩
   have F3:=F2.tt f3
   have F4:=F3.tt f4
   have f6:Fr (fun y=>y=b4) g5 g6:=Fr.of_eq z6 o6
   have z3:=f3.1
   have z4:=f4.1
   have T1:Fr (fun _=>False) g1 g6:=(f2.tt (f3.tt (f4.tt f5))).fresh f6 (fun y e=>by omega)
   exact fin hb6 (L1.on T1) (((L2.on (f4.tt f5)).frame f6 (fun y hy e=>by omega)).mono F2.1) (((L3.on f5).frame f6 (fun y hy e=>by omega)).mono F3.1) ((L4.frame f6 (fun y hy e=>by omega)).mono F4.1) (f1.tt T1)
 ·refine a4_s_s_uint8.box fun b4 g1 eb hb1 f1=>⟨(c f1).2.2.2,(c f1).2.2.1,(c f1).2.1,(c f1).1, ?_⟩
  have lb:=lt_of_get hb1
  refine s0 f1 fun g2 p1 l1 c1 L1 f2=>⟨(c (f1.tt f2)).2.2.2,(c (f1.tt f2)).2.2.1,(c (f1.tt f2)).2.1,s1 (f1.tt f2) fun g3 p2 l2 c2 L2 f3=>⟨(c (f1.tt (f2.tt f3))).2.2.2,(c (f1.tt (f2.tt f3))).2.2.1,s2 (f1.tt (f2.tt f3)) fun g4 p3 l3 c3 L3 f4=>⟨(c (f1.tt (f2.tt (f3.tt f4)))).2.2.2,s3 (f1.tt (f2.tt (f3.tt f4))) fun g5 p4 l4 c4 L4 f5=>a4_s_s_uint8.set ((f2.tt (f3.tt (f4.tt f5))).get hb1 id) fun g6 hb6 z6 o6=> ?_⟩⟩⟩
  have F2:=f1.tt f2
  have F3:=F2.tt f3
  have F4:=F3.tt f4
  have f6:Fr (fun y=>y=b4) g5 g6:=Fr.of_eq z6 o6
  have z2:=f2.1
  have z3:=f3.1
  have z4:=f4.1
  exact fin hb6 (((L1.on (f3.tt (f4.tt f5))).frame f6 (fun y hy e=>by omega)).mono f1.1) (((L2.on (f4.tt f5)).frame f6 (fun y hy e=>by omega)).mono F2.1) (((L3.on f5).frame f6 (fun y hy e=>by omega)).mono F3.1) ((L4.frame f6 (fun y hy e=>by omega)).mono F4.1) ((f1.tt (f2.tt (f3.tt (f4.tt f5)))).fresh f6 (fun y e=>by omega))
end Stt
end Go.Proofs.YtgccegnmggjkjaaGreatDoor
set_option maxRecDepth 100000
namespace Go.Proofs.YtgccegnmggjkjaaGreatDoor
open Go.Den Go.Fields
namespace Stt
open Obx (It IV ienc ienc_len)
open Eid (Ev rightE ev5)
open Fld
variable {h h' h0 : Heap} {R : Value → Heap → Prop} {s x k : Nat} {X Y : Ft} {I : Ids} {I' : RIds} {σ τ : SS} {p : Option Addr}
structure Two (h0 h:Heap) (s x:Nat) (X Y:Ft) (I:Ids) (I':RIds) (σ τ:SS):Prop where
 H:Pt h s X I σ
 V:RSt h x Y I' τ
 u:UpF h0 X h
 w:UpF h0 Y h
 ap: ∀c,X.M c∨X.D c→ ¬(Y.M c∨Y.D c)
theorem Two.on (T:Two h0 h s x X Y I I' σ τ) (f:Fr (fun _=>False) h h'):Two h0 h' s x X Y I I' σ τ:=⟨T.H.on f,T.V.on f,T.u.on f,T.w.on f,T.ap⟩
theorem Two.left {σ':SS} {X':Ft} (T:Two h0 h s x X Y I I' σ τ) (H:Pt h' s X' I σ') (st:StepF X h X' h'):Two h0 h' s x X' Y I I' σ' τ:=
 ⟨H,T.V.frame st.fr (fun y hy hm=>T.ap y (.inl hm) hy),T.u.step st,⟨(T.u.step st).fr,T.w.ge⟩,st.apart T.ap (fun c hc=>T.V.lt c hc)⟩
theorem Two.right {τ':SS} {Y':Ft} (T:Two h0 h s x X Y I I' σ τ) (V:RSt h' x Y' I' τ') (st:StepF Y h Y' h'):Two h0 h' s x X Y' I I' σ τ':=
 ⟨T.H.frame st.fr (fun y hy hm=>T.ap y hy (.inl hm)),V,⟨(T.w.step st).fr,T.u.ge⟩,T.w.step st,fun c h1 h2=>st.apart (Q:=fun c=>X.M c∨X.D c) (fun c h3 h4=>T.ap c h4 h3) (fun c hc=>T.H.lt c hc) c h2 h1⟩
theorem same_ok (T:Two h0 h s x X Y I I' σ σ) (G:Good σ k) (hk8:k≤30000) (tb:Num.Tab h0) (hk: ∀h',Fr (fun _=>False) h h'→R (.bool true) h'):CallsH Tryz.prog F.law26_Same #[pt s,pt x] h R:=by
 have H:=T.H
 obtain⟨Lc,Lb,V,rl⟩:=T.V
 obtain⟨Lk,okb⟩:=H.okB
 refine law26_Same.walk (JoinP.of fun J hJ=>whole_ok H.blk ⟨_,rfl, ?_⟩)
 rw[if_neg (by decide)]
 refine⟨_,cell_at H.blk rfl,_,cell_at V.blk rfl, ?_⟩
 rw[if_neg (by simp)]
 refine⟨_,cell_at H.blk rfl,_,cell_at V.blk rfl, ?_⟩
 rw[if_neg (by simp)]
 obtain⟨_,⟨m,P,_⟩,_⟩:=H.use 4
 refine⟨_,cell_at H.blk rfl,Quota.all_ok P ⟨_,rfl,cell_at V.blk rfl,cell_at H.blk rfl,cell_at V.blk rfl,cell_at H.blk rfl,used_ok 0 V rl G hk8 fun h1 f1=>⟨_,rfl, ?_⟩⟩⟩
 have H1:=H.on f1
 have V1:=V.on f1
 refine⟨cell_at V1.blk rfl,cell_at H1.blk rfl,cell_at V1.blk rfl,cell_at H1.blk rfl, ?_⟩
 have e:usedQ σ.B.items 0=tot σ.Q:=by unfold usedQ;rw[if_pos rfl,G.q]
 rw[e,show(tot σ.Q !=tot σ.Q)=false by simp]
 subst hJ
 dsimp only
 rw[if_neg (by decide)]
 refine save_ok H1 G hk8 (tb.on (T.u.fr.tt f1)) fun h2 p2 l2 c2 L2 f2=>⟨_,_,_,rfl, ?_⟩
 refine rsave_ok (V1.on f2) rl G hk8 (fun s hs=> ?_) okb fun h3 p3 l3 c3 L3 f3=>⟨_,_,_,rfl, ?_⟩
 ·obtain⟨i,hi⟩:=List.getElem?_of_mem hs
  have:=G.a.at_ i s hi
  have l:=G.a.le
  have il:=(List.getElem?_eq_some_iff.1 hi).1
  exact⟨by rw[this.num];omega,this.tk.2⟩
 obtain⟨y1,r1,e1⟩:=(L2.on f3).to_rows
 obtain⟨y2,r2,e2⟩:=L3.to_rows
 have ln:=L2.len
 have m1:=Ses.recs_le G.a
 have m1':=G.a.le
 have m2:=G.g.len
 have m3:(Cps.recsC σ.C).length=σ.C.L.length+1:=by unfold Cps.recsC;simp
 have m3':=G.c.L
 have m4:(Obx.recsB σ.B).length=σ.B.items.length+1:=by unfold Obx.recsB;simp
 have m4':=okb.le
 have lt:l2≤1000000000:=by
  rw[ln,List.length_cons];unfold recsS
  simp only[List.length_append,List.length_map];omega
 refine Fld.same_ok r1 r2 lt ⟨_,rfl, ?_⟩
 rw[decide_eq_true (e1.trans e2.symm)]
 exact hk h3 (f1.tt (f2.tt f3))
theorem str_eq_self (b:List UInt8):((str b).toList==(str b).toList)=true:=by simp
set_option maxHeartbeats 2000000 in
theorem do2_ok (T:Two h0 h s x X Y I I' σ σ) (G:Good σ k) (hk8:k≤30000) (f:OP) (rowf:Row h0 f.p (bc f.b)) (hb:f.b.length≤1000000)
  (hk: ∀h' X' Y',Two h0 h' s x X' Y' I I' (doS f σ) (doS f σ)→R (.bool true) h'):CallsH Tryz.prog F.law26_Do #[pt s,pt x, .agg (oenc f).toArray] h R:=by
 refine law26_Do.walk (law26_Op.box fun b h1 eb hb1 f1=>⟨_,cell_at hb1 rfl, ?_⟩)
 have T1:=T.on f1
 have row: ∀ {g},Fr (fun _=>False) h0 g→Row g f.p (bc f.b):=fun f=>rowf.frame f (fun _ _=>id)
 have lb1:=lt_of_get hb1
 have nX: ¬X.M b:=fun hm=>by have:=T.H.lt b (.inl hm);omega
 have nY: ¬Y.M b:=fun hm=>by have:=T.V.lt b (.inl hm);omega
 have hpm: ∀ {g:Heap} {Z:Ft},UpF h0 Z g→f.b≠ []→ ∀a,f.p=some a→ ¬Z.M a.block:=fun {g Z} w hne a ea hm=>by
  have h1:=row_lt rowf (by cases hb:f.b with|nil=>exact absurd hb hne|cons=>simp[bc]) ⟨a,ea,rfl⟩
  have h2:=w.ge _ (.inl hm)
  omega
 by_cases k0:f.kind=0
 ·have eS:doS f σ=passA σ f.til:=if_pos k0
  rw[eS] at hk
  rw[if_pos (by simpa using k0)]
  refine⟨_,cell_at hb1 rfl,_,cell_at hb1 rfl,pass_ok f.til rfl T1.H G hk8 fun g X' H' st=>⟨_,rfl, ?_⟩⟩
  have T2:=T1.left H' st
  refine⟨cell_at (st.fr.get hb1 nX) rfl,rpass_ok f.til rfl T2.V G hk8 T.H.ord fun g2 Y' V' st2=>⟨_,rfl, ?_⟩⟩
  rw[show(passE σ f.til==passE σ f.til)=true by simp]
  exact hk g2 X' Y' (T2.right V' st2)
 rw[if_neg (by simpa using k0)]
 by_cases k1:f.kind=1
 ·have eS:doS f σ=putS σ f.owner f.b f.til:=(if_neg k0).trans (if_pos k1)
  rw[eS] at hk
  rw[if_pos (by simpa using k1)]
  refine⟨_,cell_at hb1 rfl,_,_,_,cell_at hb1 rfl,_,cell_at hb1 rfl,put_ok f.til rfl T1.H G hk8 (row T1.u.fr) rfl hb fun g X' H' st=>⟨_,_,rfl, ?_⟩⟩
  have T2:=T1.left H' st
  have hb2:=st.fr.get hb1 nX
  refine⟨_,cell_at hb2 rfl,_,_,_,cell_at hb2 rfl,_,cell_at hb2 rfl,rput_ok f.til rfl T2.V G hk8 (row T2.u.fr) rfl hb fun g2 Y' V' st2=>⟨_,_,rfl, ?_⟩⟩
  rw[if_pos (by simp),show(putE σ f.owner f.b f.til==putE σ f.owner f.b f.til)=true by simp]
  exact hk g2 X' Y' (T2.right V' st2)
 rw[if_neg (by simpa using k1)]
 have lbn: ∀ {L:List Rbx.RI},Rbx.Rel σ.B L→L.length≤1000000:=fun r=>by have:=r.next;have:=G.b;omega
 by_cases k2:f.kind=2
 ·have eS:doS f σ=cancA σ f.num f.owner:=(if_neg k0).trans ((if_neg k1).trans (if_pos k2))
  rw[eS] at hk
  rw[if_pos (by simpa using k2)]
  obtain⟨Lc,Lb,V1,rl⟩:=T1.V
  refine⟨_,cell_at hb1 rfl,_,cell_at hb1 rfl,_,cell_at V1.blk rfl,_,cell_at hb1 rfl,_,cell_at hb1 rfl,cancel_ok T1.H G hk8 fun g X' H' st=>⟨_,rfl, ?_⟩⟩
  have T2:=T1.left H' st
  have hb2:=st.fr.get hb1 nX
  have V2:RPt g x Y I' σ Lc Lb:=V1.frame st.fr (fun y hy hm=>T1.ap y (.inl hm) hy)
  obtain⟨Z,hz,zm,zd,go⟩:=V2.use 3
  have no: ∀ {e:Int},Obx.cancE σ.B f.num f.owner=e→e≠0→R (.bool (Obx.cancE σ.B f.num f.owner==e)) g:=fun {e} he hne=>by
   rw[he,show(e==e)=true by simp]
   have e1:Obx.cancS σ.B f.num f.owner=σ.B:=if_neg (by rw[he];exact hne)
   refine hk g X' Y (T2.right ⟨Lc,Lb,RPt.says (C:=σ.C) (B:=σ.B) (Q:=σ.B.items) V2,⟨rl.c,rl.b,rl.s⟩⟩ (StepF.refl _ _)|>fun t=> ?_)
   unfold cancA
   unfold cancA at t
   rw[e1] at t⊢
   exact t
  refine⟨cell_at hb2 rfl,cell_at hb2 rfl,cell_at V2.blk rfl,Rbx.cancel_ok hz (lbn rl.b) (fun i y hi hy hf1 ho g2 B2 st2=>⟨_,rfl, ?_⟩) (fun hno=>⟨_,rfl, ?_⟩) (fun i y hi hy hf1 ho=>⟨_,rfl, ?_⟩)⟩
  ·have e0:Obx.cancE σ.B f.num f.owner=0:=by rw[hi,rl.b.cancE1 hy hf1,if_pos ho]
   have e1:Obx.cancS σ.B f.num f.owner= { σ.B with items:=Obx.delI σ.B.items f.num,canc:=σ.B.canc+1 } :=if_pos e0
   rw[e0]
   obtain⟨Y',V',st'⟩:=go g2 Z σ Lc _ B2 st2 (fun i hi=>rpart_b _ hi)
   have rb:=rl.b.cancel hy hf1
   rw[←hi,←e1] at rb
   exact hk g2 X' Y' (T2.right ⟨Lc,_,RPt.says (C:=σ.C) (B:=Obx.cancS σ.B f.num f.owner) (Q:=(Obx.cancS σ.B f.num f.owner).items) V',⟨rl.c,rb,rl.s⟩⟩ st')
  ·exact no (rl.b.cancE0 hno) (by decide)
  ·exact no (by rw[hi,rl.b.cancE1 hy hf1,if_neg ho]) (by decide)
 rw[if_neg (by simpa using k2)]
 by_cases k3:f.kind=3
 ·have eS:doS f σ=takeA σ:=(if_neg k0).trans ((if_neg k1).trans ((if_neg k2).trans (if_pos k3)))
  rw[eS] at hk
  rw[if_pos (by simpa using k3)]
  obtain⟨Lc,Lb,V1,rl⟩:=T1.V
  refine take_ok T1.H G hk8 (fun hit g fg=>⟨_,_,_,_,_,_,_,rfl,outbox_Item.new fun b2 g2 eb2 hb2 f2=> ?_⟩) (fun z r hit g X' v hva H' st hd=>⟨_,_,_,_,_,_,_,rfl,outbox_Item.new fun b2 g2 eb2 hb2 f2=> ?_⟩)
  ·have V2:=V1.on (fg.tt f2)
   obtain⟨Z,hz,_⟩:=V2.use 3
   refine⟨_,cell_at V2.blk rfl,Rbx.take_ok hz (lbn rl.b) (fun i y hi hy=>by have:=rl.b.mem.2 ⟨i,y,hi,hy,rfl⟩;rw[hit] at this;cases this) (fun hno=>⟨_,rfl, ?_⟩)⟩
   rw[if_pos (by decide),if_pos (by decide)]
   refine⟨_,cell_at hb2 rfl, ?_⟩
   have et:takeA σ=σ:=by unfold takeA;rw[hit]
   rw[et] at hk
   exact hk g2 X Y (T1.on (fg.tt f2))
  ·have T2:=(T1.left H' st).on f2
   have V2:RPt g2 x Y I' σ Lc Lb:=(V1.frame st.fr (fun y hy hm=>T1.ap y (.inl hm) hy)).on f2
   obtain⟨Z,hz,zm,zd,go⟩:=V2.use 3
   have et:takeA σ= { σ with B:= { σ.B with items:=r,taken:=σ.B.taken+1 },Q:=r } :=by unfold takeA;rw[hit]
   refine⟨_,cell_at V2.blk rfl,Rbx.take_ok hz (lbn rl.b) (fun i y hi hy hno g3 B3 st3=>⟨_,rfl, ?_⟩) (fun hno=>by have:=rl.b.none hno;rw[hit] at this;cases this)⟩
   obtain⟨hzy,rb⟩:=rl.b.take hi hy hno hit
   obtain⟨Y',V',st'⟩:=go g3 Z σ Lc _ B3 st3 (fun i hi=>rpart_b _ hi)
   have T3:=T2.right ⟨Lc,_,RPt.says (C:=σ.C) (B:= { σ.B with items:=r,taken:=σ.B.taken+1 }) (Q:=r) V',⟨rl.c,rb,rl.s⟩⟩ st'
   rw[et] at hk T3
   have lb2:=lt_of_get hb2
   have n2: ∀y,Y.M y→y<g.size:=fun y hy=>by
    have:=(V1.frame st.fr (fun y hy hm=>T1.ap y (.inl hm) hy)).lt y (.inl hy);exact this
   have hb3:outbox_Item.at g3 b2 (v.num:Int) v.owner v.v.p v.v.b.length v.v.c (v.till:Int):=st'.fr.get hb2 (fun hm=>by have:=n2 b2 hm;omega)
   have hd3:=(hd.frame f2 (fun _ _=>id)).frame st'.fr (fun y hy hm=>T2.ap y (.inr hy) (.inl hm))
   have ilt:=(List.getElem?_eq_some_iff.1 hi).1
   rw[if_neg (fun e=>by have:=of_decide_eq_true e;omega),if_pos (by decide)]
   obtain⟨lp,lc,xs,M⟩:=B3
   have hlen:=M.len
   rw[List.length_set] at hlen
   obtain⟨v2,hv2,hva2⟩:=M.get (i:=i) (y:= { y with fate:=2 }) (by rw[List.getElem?_set_self ilt])
   obtain⟨lb,lo,rfl⟩:=M.own.addr (by omega)
   have hh:=M.own.heldAt Rbx.renc_len hv2
   have c0:hcell g3 ((⟨lb,lo,none⟩:Addr).add (Int.toNat (i:Int)*5))=some (.int .i64 (v2.num:Int)):=by rw[Int.toNat_natCast];exact hh.1
   have c2:hcell g3 (((⟨lb,lo,none⟩:Addr).add (Int.toNat (i:Int)*5)).add 2)=some v2.v.val:=by rw[Int.toNat_natCast];exact hh.2.2.1
   have hitv:v.abs=v2.abs.it:=by rw[hva,hzy,hva2]
   have e0:v.num=v2.num:=congrArg It.num hitv
   have e2:v.v.b=v2.v.b:=congrArg It.d hitv
   have bk:=V'.blk
   refine⟨_,cell_at hb3 rfl,_,cell_at bk rfl,onSome_some.2 ⟨_,_,_,cell_at M.blk rfl,⟨by omega,by omega⟩,onSome_some.2 ⟨_,c0, ?_⟩⟩⟩
   rw[if_pos (by rw[e0];simp)]
   refine⟨_,_,_,cell_at hb3 rfl,_,conv hd3.row rfl,_,cell_at bk rfl,onSome_some.2 ⟨_,_,_,cell_at M.blk rfl,⟨by omega,by omega⟩,onSome_some.2 ⟨_,_,_,c2,_,conv (M.dat v2 (List.mem_of_getElem? hv2)).row rfl, ?_⟩⟩⟩
   rw[e2,str_eq_self]
   exact hk g3 X' Y' T3
 rw[if_neg (by simpa using k3)]
 by_cases k4:f.kind=4
 ·have eS:doS f σ= { σ with A:=Ses.openA σ.A f.til } :=(if_neg k0).trans ((if_neg k1).trans ((if_neg k2).trans ((if_neg k3).trans (if_pos k4))))
  rw[eS] at hk
  rw[if_pos (by simpa using k4)]
  obtain⟨Z,hz,zm,zd,go⟩:=T1.H.use 0
  refine⟨_,cell_at T1.H.blk rfl,_,cell_at hb1 rfl,Ses.open_ok f.til rfl hz G.a fun g Z' A' st=>⟨_,_,rfl, ?_⟩⟩
  obtain⟨X',H',st',_⟩:=go g Z' { σ with A:=Ses.openA σ.A f.til } A' st (fun i hi=>part_A _ hi)
  have T2:=T1.left H' st'
  have hb2:=st'.fr.get hb1 nX
  obtain⟨Lc,Lb,V2,rl⟩:=T2.V
  obtain⟨Z,hz,zm,zd,go⟩:=V2.use 0
  refine⟨_,cell_at V2.blk rfl,_,cell_at hb2 rfl,Rse.ropen_ok f.til hz G.a.le fun g2 Z2 A2 st2=>⟨_,_,rfl, ?_⟩⟩
  obtain⟨Y',V',st2'⟩:=go g2 Z2 { σ with A:=Ses.openA σ.A f.til } Lc Lb A2 st2 (fun i hi=>rpart_A _ hi)
  rw[if_pos (by simp),show(Ses.openE σ.A f.til==Ses.openE σ.A f.til)=true by simp]
  exact hk g2 X' Y' (T2.right ⟨Lc,Lb,V',⟨rl.c,rl.b,rl.s⟩⟩ st2')
 rw[if_neg (by simpa using k4)]
 by_cases k5:f.kind=5
 ·have eS:doS f σ= { σ with C:=Cps.addF σ.C e71 f.b f.til } :=(if_neg k0).trans ((if_neg k1).trans ((if_neg k2).trans ((if_neg k3).trans ((if_neg k4).trans (if_pos k5)))))
  rw[eS] at hk
  rw[if_pos (by simpa using k5)]
  refine⟨_,cell_at T1.H.blk rfl,_,_,_,cell_at hb1 rfl,_,cell_at hb1 rfl,home_ok fun h2 f2=>⟨_,_,_,_,_,rfl, ?_⟩⟩
  have T2:=T1.on f2
  have hb2:=f2.get hb1 id
  obtain⟨Z,hz,zm,zd,go⟩:=T2.H.use 2
  have hc:=G.c.ok.cnt
  refine⟨cell_at hb2 rfl,cell_at hb2 rfl,cell_at T2.H.blk rfl,Cps.add_ok hz (G.small T.H.ord (by omega)) (fun z hz=>(G.c.ok.bd z hz).2.1) (by show 1≤σ.C.next;omega) e71 f.til rfl (row T2.u.fr) rfl (fun hne a ea hm=>hpm T2.u hne a ea (zm _ hm)) fun g Z' C' st=>⟨_,_,rfl, ?_⟩⟩
  obtain⟨X',H',st',_⟩:=go g Z' { σ with C:=Cps.addF σ.C e71 f.b f.til } C' st (fun i hi=>part_C _ hi)
  have T3:=T2.left H' st'
  have hb3:=st'.fr.get hb2 nX
  obtain⟨Lc,Lb,V3,rl⟩:=T3.V
  refine⟨_,cell_at V3.blk rfl,_,_,_,cell_at hb3 rfl,_,cell_at hb3 rfl,home_ok fun h4 f4=>⟨_,_,_,_,_,rfl, ?_⟩⟩
  have hb4:=f4.get hb3 id
  have V4:=V3.on f4
  refine⟨cell_at hb4 rfl,cell_at hb4 rfl,cell_at V4.blk rfl,Eid.as_ok e71 fun h5 f5=>⟨_,_,_,_,_,rfl, ?_⟩⟩
  have hb5:=f5.get hb4 id
  have V5:=V4.on f5
  have T5:=(T3.on f4).on f5
  obtain⟨Z,hz,zm,zd,go⟩:=V5.use 2
  have ra:=rl.c.addE e71 f.b f.til
  have rn:=rl.c.next
  have gn:=G.c.len
  refine⟨cell_at hb5 rfl,cell_at hb5 rfl,cell_at V5.blk rfl,Rcp.radd_ok hz (by omega) e71 f.til rfl (row T5.u.fr) rfl (fun he h6 f6=>⟨_,_,rfl, ?_⟩) (fun he h6 Z6 C6 st6=>⟨_,_,rfl, ?_⟩)⟩
  ·have e0: ¬Cps.addE σ.C e71 f.b f.til=0:=by rw[ra];exact he
   have e1:Cps.addN σ.C e71 f.b f.til=0:=if_neg e0
   have e2:Cps.addF σ.C e71 f.b f.til=σ.C:=if_neg e0
   rw[e1,if_pos (by decide),ra,show(Rcp.addE Lc e71 f.b.length f.til==Rcp.addE Lc e71 f.b.length f.til)=true by simp]
   refine hk h6 X' Y (T5.on f6|>.right ⟨Lc,Lb,RPt.says (C:=Cps.addF σ.C e71 f.b f.til) (B:=σ.B) (Q:=σ.Q) (V5.on f6), ?_⟩ (StepF.refl _ _))
   rw[e2]
   exact rl
  ·have e0:Cps.addE σ.C e71 f.b f.til=0:=by rw[ra];exact he
   obtain⟨rc,en⟩:=rl.c.add e71 f.b f.til e0
   rw[en,e0,if_pos (by simp)]
   obtain⟨Y',V',st6'⟩:=go h6 Z6 σ _ Lb C6 st6 (fun i hi=>rpart_c _ hi)
   refine hk h6 X' Y' (T5.right ⟨_,Lb,RPt.says (C:=Cps.addF σ.C e71 f.b f.til) (B:=σ.B) (Q:=σ.Q) V',⟨rc,rl.b,fun y hy=> ?_⟩⟩ st6')
   rcases List.mem_append.1 hy with hy|hy
   ·exact rl.s y hy
   ·obtain rfl:=List.mem_singleton.1 hy;exact Int.le_refl 0
 rw[if_neg (by simpa using k5)]
 have eS:doS f σ=σ:=(if_neg k0).trans ((if_neg k1).trans ((if_neg k2).trans ((if_neg k3).trans ((if_neg k4).trans (if_neg k5)))))
 rw[eS] at hk
 exact hk h1 X Y T1
end Stt
end Go.Proofs.YtgccegnmggjkjaaGreatDoor
set_option maxRecDepth 100000
namespace Go.Proofs.YtgccegnmggjkjaaGreatDoor
open Go.Den Go.Fields
namespace Stt
open Eid (Ev rightE ev5)
open Fld
variable {h h' h0 : Heap} {R : Value → Heap → Prop} {s x k : Nat} {X Y : Ft} {I : Ids} {I' : RIds} {σ τ : SS} {p : Option Addr}
def Zero (h:Heap) (s:Nat):Prop:=h[s]? =some (.cells #[.pointer none, .pointer none, .pointer none, .pointer none, .pointer none, .pointer none, .int .u64 0, .int .i64 0] T.state_State (0,0))
theorem made_nil (hk:R (.bool false) h):CallsH Tryz.prog F.state_State_made #[.pointer none] h R:=state_State_made.nil.walk hk
theorem made_zero (Z:Zero h s) (hk:R (.bool false) h):CallsH Tryz.prog F.state_State_made #[pt s] h R:=by
 refine state_State_made.walk ⟨_,cell_at Z rfl, ?_⟩
 rw[if_neg (by decide)];exact hk
theorem both {c:Prop} [Decidable c] {a b:Prop} (h1:a) (h2:b):if c then a else b:=by
 by_cases q:c
 ·rw[if_pos q];exact h1
 ·rw[if_neg q];exact h2
theorem rok_str {m:Nat} {v:Value} (hr:Rok Tryz.prog h m T.string [v]): ∃s,v= .string s:=by
 cases m with
 |zero=>exact hr.elim
 |succ m=>
  unfold Rok at hr
  rw[uS] at hr
  obtain⟨s,e,_⟩:=hr
  exact⟨s,by simpa using e⟩
theorem eid_tl:tleaves Tryz.prog 5 T.eid_Eid=some [T.bool,T.uint64,T.uint64,T.string,T.string]:=by kernel_rfl
theorem eid_arg {cs:Array Value} (hs:cs.size=Tryz.prog.cellsOf T.eid_Eid) (hv:RokV Tryz.prog h T.eid_Eid (.agg cs)): ∃e:Ev,Value.agg cs=ev5 e∧0≤e.svc:=by
 obtain⟨n,hn⟩:=hv
 have hs5:cs.toList.length=5:=by rw[Array.length_toList,hs];kernel_rfl
 have L:=tleaves_ok 5 n _ _ cs.toList eid_tl (by rw[hs5];rfl) hn
 obtain⟨l,rfl⟩: ∃l:List Value,cs=l.toArray:=⟨cs.toList,by simp⟩
 simp only[List.toList_toArray] at L hs5
 match l,hs5 with
 | [a,b,c,d,e],_=>
  obtain⟨k0,rfl⟩:=L.bool 0 rfl rfl (by kernel_rfl)
  obtain⟨k1,rfl,_⟩:=L.int 1 rfl rfl (k:= .u64) (by kernel_rfl)
  obtain⟨k2,rfl,w2⟩:=L.int 2 rfl rfl (k:= .u64) (by kernel_rfl)
  obtain⟨m3,hm3⟩:=L.get 3 rfl rfl
  obtain⟨k3,rfl⟩:=rok_str hm3
  obtain⟨m4,hm4⟩:=L.get 4 rfl rfl
  obtain⟨k4,rfl⟩:=rok_str hm4
  exact⟨⟨k0,k1,k2,k3,k4⟩,rfl,(wf_u64 w2).1⟩
set_option maxHeartbeats 2000000 in
theorem _root_.Go.Proofs.YtgccegnmggjkjaaGreatDoor.stateLives_ok (xs:Array Value) (op:Option Addr) (ol oc:Nat) (sx:xs.size=Tryz.prog.cellsOf T.eid_Eid) (hx:RokV Tryz.prog h T.eid_Eid (.agg xs)) (hv:RokV Tryz.prog h T.s_law26_Op (.slice op ol oc)) (tb:Num.Tab h):LawH Tryz.prog F.law26_StateLives #[.agg xs, .slice op ol oc] h:=by
 obtain⟨e,ex,hsv⟩:=eid_arg sx hx
 obtain⟨fs,rfl,hrow,hok⟩:=ops_read hv
 rw[ex]
 clear hv hx sx ex
 unfold LawH
 generalize hR:(fun(v:Value) h'=>v= .bool true∧Fr (fun _=>False) h h')=R
 have hk: ∀h',Fr (fun _=>False) h h'→R (.bool true) h':=fun h' hf=>by rw[←hR];exact⟨rfl,hf⟩
 clear hR
 refine law26_StateLives.walk (eid_Eid.box fun b h1 eb hb f1=>⟨_,cell_at hb rfl,_,cell_at hb rfl, ?_⟩)
 refine both (alive_ok (tb.on f1) fun h2 f2=>⟨_,rfl,hk h2 (f1.tt f2)⟩) ?_
 refine eid_Eid.ld hb (new_ok e (fun hm h3 s X I H3 u3=>⟨_,_,rfl, ?_⟩) (fun hm h3 f3=>⟨_,_,rfl, ?_⟩))
 case refine_2=>
  have F3:=f1.tt f3
  refine eid_Eid.ld (f3.get hb id) (Eid.as_ok e fun h4 f4=>⟨_,_,_,_,_,rfl,Eid.rkind_ok e fun h5 f5=>⟨_,rfl, ?_⟩⟩)
  have F5:=F3.tt (f4.tt f5)
  rw[if_pos (decide_eq_true (Eid.kind_lt.2 hm))]
  refine alive_ok (tb.on F5) fun h6 f6=>⟨_,rfl, ?_⟩
  rw[if_pos rfl,if_pos (by decide)]
  exact hk h6 (F5.tt f6)
 have hb3:=u3.fr.get hb id
 have F3:=f1.tt u3.fr
 refine eid_Eid.ld hb3 (Eid.as_ok e fun h4 f4=>⟨_,_,_,_,_,rfl,Eid.rkind_ok e fun h5 f5=>⟨_,rfl, ?_⟩⟩)
 rw[if_neg (fun q=>Eid.kind_lt.1 (of_decide_eq_true q) hm)]
 have f45:=f4.tt f5
 have H5:=H3.on f45
 have hb5:=f45.get hb3 id
 refine JoinP.of fun J hJ=> ?_
 rw[if_neg (by decide)]
 refine whole_ok H5.blk ⟨_,rfl, ?_⟩
 subst hJ
 dsimp only
 rw[if_neg (by decide)]
 refine eid_Eid.ld hb5 (Eid.as_ok e fun h6 f6=>⟨_,_,_,_,_,rfl,rnew_ok e fun h7 x Y I' V7 w7=>⟨_,rfl, ?_⟩⟩)
 have f567:=f6.tt w7.fr
 have T7:Two h h7 s x X Y I I' (newS e) (newS e):=
  ⟨H5.on f567,V7,⟨F3.tt (f45.tt f567),fun c hc=>Nat.le_trans f1.1 (u3.ge c hc)⟩,⟨F3.tt (f45.tt f567),fun c hc=>Nat.le_trans (F3.tt (f45.tt f6)).1 (w7.ge c hc)⟩,fun c h1 h2=>by
   have:=H5.lt c h1
   have:=w7.ge c h2
   have:=f6.1
   omega⟩
 refine⟨fun i g=> ∃(k:Nat) (X Y:Ft) (σ:SS),i=(k:Int)∧k≤60∧Two h g s x X Y I I' σ σ∧Good σ k,fun i _=>60 - i.toNat,⟨0,X,Y,_,rfl,by omega,T7,Good.new hm.1 hm.2 hsv⟩, ?_⟩
 clear T7 V7 w7 H5 H3 u3 hb3 hb5 hb F3 f567 f45
 rintro _ g ⟨k,X,Y,σ,rfl,hk60,D,G⟩
 refine JoinP.of fun J hJ=> ?_
 by_cases hl:k<fs.length∧k<60
 ·rw[if_pos (decide_eq_true (by omega)),decide_eq_true (by omega)]
  subst hJ
  dsimp only
  rw[if_pos rfl]
  obtain⟨f,hf⟩: ∃f,fs[k]? =some f:=⟨fs[k],List.getElem?_eq_getElem hl.1⟩
  obtain⟨rowf,_⟩:=hok f (List.mem_of_getElem? hf)
  have row:=hrow.frame D.u.fr (fun _ _=>id)
  obtain⟨aa,rfl⟩:=row.some (by intro e;cases fs with|nil=>simp at hf|cons=>simp at e)
  have hh:=row.heldAt oenc_len hf
  have c3:hcell g ((aa.add (Int.toNat (k:Int)*5)).add 3)=some (.slice f.p f.b.length f.c):=by rw[Int.toNat_natCast];exact hh.2.2.2.1
  refine⟨⟨by omega,by omega⟩,onSome_some.2 ⟨_,_,_,c3, ?_⟩⟩
  by_cases g1:f.b.length>700
  ·rw[if_pos (decide_eq_true (by omega))]
   exact alive_ok (tb.on D.u.fr) fun h2 f2=>⟨_,rfl,hk h2 (D.u.fr.tt f2)⟩
  rw[if_neg (fun e=>g1 (by have:=of_decide_eq_true e;omega))]
  refine JoinP.of fun J2 hJ2=>⟨⟨by omega,by omega⟩,onSome_some.2 (law26_Op.ldA (by rw[Int.toNat_natCast];exact hh) (do2_ok D G (by omega) f rowf (by omega) fun g2 X' Y' T2=>⟨_,rfl, ?_⟩))⟩
  rw[if_neg (by decide)]
  have G2:=G.do D.H (by omega) f
  refine same_ok T2 G2 (by omega) tb fun g3 f3=>⟨_,rfl, ?_⟩
  subst hJ2
  dsimp only
  rw[if_neg (by decide),wrap_id (by omega) (by omega)]
  exact⟨⟨k+1,X',Y',_,by omega,by omega,T2.on f3,G2⟩,by show 60 - Int.toNat ((k:Int)+1)<60 - Int.toNat (k:Int);omega⟩
 ·have hJf:J false g:=by
   subst hJ
   dsimp only
   rw[if_neg (by decide)]
   refine newP_of ?_
   have f1:Fr (fun _=>False) g (g.push (.cells #[.pointer none, .pointer none, .pointer none, .pointer none, .pointer none, .pointer none, .int .u64 0, .int .i64 0] T.state_State)):=Fr.push _ _
   have Z1:Zero (g.push (.cells #[.pointer none, .pointer none, .pointer none, .pointer none, .pointer none, .pointer none, .int .u64 0, .int .i64 0] T.state_State)) g.size:=push_new
   generalize g.push (.cells #[.pointer none, .pointer none, .pointer none, .pointer none, .pointer none, .pointer none, .int .u64 0, .int .i64 0] T.state_State)=g1 at f1 Z1⊢
   have put:CallsH Tryz.prog F.state_State_Put #[.pointer none, .int .i64 1, .slice none 0 0, .int .u64 1] g1 fun v g2=>v= .tuple #[.int .i64 0, .int .i64 6]∧g2=g1:=by
    refine state_State_Put.nil.walk (made_nil ⟨_,rfl, ?_⟩)
    rw[if_pos (by decide)];exact⟨rfl,rfl⟩
   refine CallsH.mono put ?_
   rintro _ _ ⟨rfl,rfl⟩
   refine⟨_,_,rfl, ?_⟩
   refine state_State_Take.walk (outbox_Item.box fun b2 g2 eb2 hb2 f2=>made_zero (f2.get Z1 id) ⟨_,rfl, ?_⟩)
   rw[if_pos (by decide)]
   refine outbox_Item.set hb2 fun g3 d1 d2 d3=>outbox_Item.ld d1 ⟨_,_,_,_,_,_,_,rfl,outbox_Item.new fun b4 g4 eb4 hb4 f4=> ?_⟩
   have f3:Fr (fun _=>False) _ g3:=f2.fresh (Fr.of_eq (S:=fun y=>y=b2) d2 d3) (fun y e=>by omega)
   have F4:=D.u.fr.tt (f1.tt (f3.tt f4))
   have Z4:Zero g4 g.size:=(f3.tt f4).get Z1 id
   refine alive_ok (tb.on F4) fun g5 f5=>⟨_,rfl, ?_⟩
   have Z5:Zero g5 g.size:=f5.get Z4 id
   rw[if_pos rfl,if_pos (by decide),if_pos (by decide)]
   have pn:CallsH Tryz.prog F.state_State_Pass #[.pointer none, .int .u64 1] g5 fun v g2=>v= .int .i64 6∧g2=g5:=by
    refine state_State_Pass.nil.walk (made_nil ⟨_,rfl, ?_⟩)
    rw[if_pos (by decide)];exact⟨rfl,rfl⟩
   refine CallsH.mono pn ?_
   rintro _ _ ⟨rfl,rfl⟩
   refine⟨_,rfl, ?_⟩
   rw[if_pos (by decide)]
   refine state_State_Pass.walk (made_zero Z5 ⟨_,rfl, ?_⟩)
   rw[if_pos (by decide)]
   refine⟨_,rfl, ?_⟩
   rw[if_pos (by decide)]
   refine state_State_Cancel.walk (newP_of (made_zero ((Fr.push (S:=fun _=>False) _ _).get Z5 id) ⟨_,rfl, ?_⟩))
   rw[if_pos (by decide)]
   refine⟨_,rfl, ?_⟩
   rw[if_pos (by decide)]
   refine state_State_Save.nil.walk (made_nil ⟨_,rfl, ?_⟩)
   rw[if_pos (by decide)]
   refine⟨_,_,_,rfl,state_State_Save.walk (made_zero ((Fr.push (S:=fun _=>False) _ _).get Z5 id) ⟨_,rfl, ?_⟩)⟩
   rw[if_pos (by decide)]
   exact⟨_,_,_,rfl,hk _ (F4.tt (f5.tt (Fr.push _ _)))⟩
  by_cases q1:k<fs.length
  ·have q2: ¬k<60:=fun e=>hl ⟨q1,e⟩
   rw[if_pos (decide_eq_true (by omega)),decide_eq_false (by omega)]
   exact hJf
  ·rw[if_neg (fun e=>q1 (by have:=of_decide_eq_true e;omega))]
   exact hJf
end Stt
end Go.Proofs.YtgccegnmggjkjaaGreatDoor
set_option maxRecDepth 100000
namespace Go.Proofs.YtgccegnmggjkjaaGreatDoor
open Go.Den
namespace Num
theorem Tab.of_laid {W:World} {l:List (String×DataW Unit)} {s:String} (hs:Tryz.prog.globalNamed s=some 0) (h:laidMet Tryz.prog l W) (hm:(s,Lib.tabData .u64 Lib.pow10Tab)∈l):Tab W.heap:=by
 obtain⟨g,t,cs,fuel,p,hg,ht,hv,hd⟩:=Lib.laidMet.reads h hm
 have hg:Tryz.prog.globalNamed s=some g:=hg
 unfold World.var? at hv
 rw[hg] at hv
 have hv':(match W.heap[g]? with|some (.cells cs _ _)=>some cs|_=>none)=some cs:=hv
 cases hh:W.heap[g]? with
 |none=>rw[hh] at hv';cases hv'
 |some o=>
  rw[hh] at hv'
  cases o with
  |cells c ty fz=>
   obtain rfl:c=cs:=Option.some.inj hv'
   have eg:g=0:=Option.some.inj (hg.symm.trans hs)
   subst eg
   refine⟨ty,fz, ?_⟩
   have htt:t=T.a20_uint64:=by
    have e:(Tryz.prog.globals[(0:Nat)]?).map (·.type)=some T.a20_uint64:=by kernel_rfl
    exact Option.some.inj (ht.symm.trans e)
   subst htt
   have:=Lib.cells_of_tab (n:=20) (e:=T.uint64) (by kernel_rfl) (by kernel_rfl) (by kernel_rfl) (by kernel_rfl) hd
   rw[hh,←this]
  |_=>cases hv'
end Num
end Go.Proofs.YtgccegnmggjkjaaGreatDoor
