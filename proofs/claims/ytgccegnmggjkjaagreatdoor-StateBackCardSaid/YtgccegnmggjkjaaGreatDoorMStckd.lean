/-
  What is proved here: parts of the proof, one behind the other (texts of this work, merged by a program; what the theorem does not use is left out). No condition.
-/
import Derived.Test.YtgccegnmggjkjaaGreatDoorProg
import Derived.Shelf.Strconv.Itoa4
import Derived.Ground.NamesProg
import Derived.Test.YtgccegnmggjkjaaGreatDoorMStckc
set_option maxRecDepth 100000
namespace Go.Proofs.YtgccegnmggjkjaaGreatDoor
open Go.Den Go.Heapq
namespace Cps
open Eid Alarm Fld
variable {h h' : Heap} {R : Value → Heap → Prop} {t : Nat} {X : Ft} {s s' : CF} {m a1 a2 : Nat} {xs : List CV} {S1 S2 S1' S2' : Nat → Prop} {lab : Nat → Option Nat} {p : Option Addr} {n c : Nat}
def delL (L:List Cp) (n:Int):List Cp:=L.filter (fun x=> !decide ((x.num:Int)=n))
def setC (L:List Cp) (n:Nat) (ses:Int) (dl:Nat):List Cp:=L.map (fun x=>if x.num=n then { x with ses:=ses,dl:=dl } else x)
def remF (s:CF) (n:Int):CF:= { s with L:=delL s.L n,E1:=dropK s.E1 n,E2:=dropK s.E2 n }
def freeF (s:CF) (n:Nat):CF:= { s with L:=setC s.L n 0 0,E2:=dropK s.E2 (n:Int) }
theorem dropK_len (L:List E) (k:Int):(dropK L k).length≤L.length:=List.length_filter_le _ _
structure Small (s:CF):Prop where
 n:s.next≤50000
 l:s.L.length≤50000
 e1:s.E1.length≤50000
 e2:s.E2.length≤50000
theorem Cm.len (H:Cm h t X s m xs a1 S1 a2 S2 lab):xs.length=s.L.length:=by rw[←H.abs,List.length_map]
theorem new_ok (hk: ∀h' t X,Ct h' t X ⟨[],1,0,0,0, [], []⟩→UpF h X h'→R (.pointer (some ⟨t,0,none⟩)) h'):CallsH Tryz.prog F.copies_New #[] h R:=by
 classical
 refine copies_New.walk (newP_of ?_)
 have f1:Fr (fun _=>False) h (h.push (.map #[] 0)):=Fr.push _ _
 have M1:=MapP.push (α:=Int) h ienc
 have z1:(h.push (.map #[] 0)).size=h.size+1:=Array.size_push _
 generalize h.push (.map #[] 0)=h1 at f1 M1 z1⊢
 refine Alarm.new_ok fun a1 S1 h2 A1 g1 f2=>⟨_,rfl,Alarm.new_ok fun a2 S2 h3 A2 g2 f3=>⟨_,rfl,newP_of ?_⟩⟩
 have f4:Fr (fun _=>False) h3 (h3.push (.cells #[.map (some h.size), .int .i64 1, .int .i64 0, .int .i64 0, .int .i64 0, .pointer (some ⟨a1,0,none⟩), .pointer (some ⟨a2,0,none⟩)] T.copies_Table)):=Fr.push _ _
 have z2:=f2.1
 have z3:=f3.1
 have z4:(h3.push (.cells #[.map (some h.size), .int .i64 1, .int .i64 0, .int .i64 0, .int .i64 0, .pointer (some ⟨a1,0,none⟩), .pointer (some ⟨a2,0,none⟩)] T.copies_Table)).size=h3.size+1:=Array.size_push _
 have b4:(h3.push (.cells #[.map (some h.size), .int .i64 1, .int .i64 0, .int .i64 0, .int .i64 0, .pointer (some ⟨a1,0,none⟩), .pointer (some ⟨a2,0,none⟩)] T.copies_Table))[h3.size]? =some (.cells #[.map (some h.size), .int .i64 1, .int .i64 0, .int .i64 0, .int .i64 0, .pointer (some ⟨a1,0,none⟩), .pointer (some ⟨a2,0,none⟩)] T.copies_Table (0,0)):=push_new
 generalize h3.push (.cells #[.map (some h.size), .int .i64 1, .int .i64 0, .int .i64 0, .int .i64 0, .pointer (some ⟨a1,0,none⟩), .pointer (some ⟨a2,0,none⟩)] T.copies_Table)=h4 at f4 z4 b4⊢
 have l1: ∀c,S1 c→h1.size≤c∧c<h2.size:=fun c hc=>⟨g1 c hc,A1.lt hc⟩
 have l2: ∀c,S2 c→h2.size≤c∧c<h3.size:=fun c hc=>⟨g2 c hc,A2.lt hc⟩
 let lab:Nat→Option Nat:=fun c=>if c=h3.size then some 0 else if c=h.size then some 1 else if S1 c then some 2 else if S2 c then some 3 else none
 have lab1: ∀c,S1 c→lab c=some 2:=fun c hc=>by
  have:=l1 c hc
  show(if c=h3.size then some 0 else if c=h.size then some 1 else if S1 c then some 2 else if S2 c then some 3 else none)=_
  rw[if_neg (by omega),if_neg (by omega),if_pos hc]
 have lab2: ∀c,S2 c→lab c=some 3:=fun c hc=>by
  have h5:=l2 c hc
  show(if c=h3.size then some 0 else if c=h.size then some 1 else if S1 c then some 2 else if S2 c then some 3 else none)=_
  rw[if_neg (by omega),if_neg (by omega),if_neg (fun h6=>by have:=l1 c h6;omega),if_pos hc]
 have labs: ∀c,lab c≠none→h.size≤c∧c<h4.size:=fun c hc=>by
  by_cases c1:c=h3.size
  ·omega
  by_cases c2:c=h.size
  ·omega
  by_cases c3:S1 c
  ·have:=l1 c c3;omega
  by_cases c4:S2 c
  ·have:=l2 c c4;omega
  exact absurd (show(if c=h3.size then some 0 else if c=h.size then some 1 else if S1 c then some 2 else if S2 c then some 3 else none)=none by rw[if_neg c1,if_neg c2,if_neg c3,if_neg c4]) hc
 refine hk h4 h3.size ⟨fun c=>lab c≠none,fun _=>False⟩ ⟨h.size, [],a1,S1,a2,S2,lab,⟨b4,(M1.frame (f2.tt f3) id).frame f4 id,(fun x hx=>by cases hx),rfl,(fun x hx=>by cases hx),A1.frame (f3.tt f4) (fun _ _=>id),A2.frame f4 (fun _ _=>id),if_pos rfl, ?_,lab1,lab2,(fun x hx=>by cases hx),fun c=>Iff.rfl,fun c hc=>hc.elim,fun c hc=>(labs c hc).2, .nil⟩⟩ ⟨f1.tt (f2.tt (f3.tt f4)),fun c hc=> ?_⟩
 ·show(if h.size=h3.size then some 0 else if h.size=h.size then some 1 else if S1 h.size then some 2 else if S2 h.size then some 3 else none)=some 1
  rw[if_neg (by omega),if_pos rfl]
 ·rcases hc with hc|hc
  ·exact(labs c hc).1
  ·exact hc.elim
theorem drop2 (H:Cm h t X s m xs a1 S1 a2 S2 lab) (hn:s.E2.length<1000000) (k:Int) (hk: ∀h' X' lab' (e:Int),Cm h' t X' { s with E2:=dropK s.E2 k } m xs a1 S1 a2 S2 lab'→StepF X h X' h'→R (.int .i64 e) h'):
  CallsH Tryz.prog F.alarm_Alarm_Drop #[.pointer (some ⟨a2,0,none⟩), .int .i64 k] h R:=by
 refine Alarm.drop_ok H.al2 hn k (fun _ h1 A1 f1=> ?_) (fun hno=> ?_)
 ·obtain⟨X',lab',H',st,_⟩:=H.alarm2 (s':= { s with E2:=dropK s.E2 k }) A1 (fun c hc=> .inl hc) f1 rfl rfl rfl ⟨rfl,rfl,rfl,rfl⟩
  exact hk h1 X' lab' 0 H' st
 ·have e:({ s with E2:=dropK s.E2 k } :CF)=s:=by rw[dropK_none hno]
  exact hk h X lab 4 (by rw[e];exact H) (StepF.refl _ _)
theorem drop1 (H:Cm h t X s m xs a1 S1 a2 S2 lab) (hn:s.E1.length<1000000) (k:Int) (hk: ∀h' X' lab' (e:Int),Cm h' t X' { s with E1:=dropK s.E1 k } m xs a1 S1 a2 S2 lab'→StepF X h X' h'→R (.int .i64 e) h'):
  CallsH Tryz.prog F.alarm_Alarm_Drop #[.pointer (some ⟨a1,0,none⟩), .int .i64 k] h R:=by
 refine Alarm.drop_ok H.al1 hn k (fun _ h1 A1 f1=> ?_) (fun hno=> ?_)
 ·obtain⟨X',lab',H',st,_⟩:=H.alarm1 (s':= { s with E1:=dropK s.E1 k }) A1 (fun c hc=> .inl hc) f1 rfl rfl rfl ⟨rfl,rfl,rfl,rfl⟩
  exact hk h1 X' lab' 0 H' st
 ·have e:({ s with E1:=dropK s.E1 k } :CF)=s:=by rw[dropK_none hno]
  exact hk h X lab 4 (by rw[e];exact H) (StepF.refl _ _)
theorem remove_ok (H:Ct h t X s) (sm:Small s) (k:Int) (hk: ∀h' X',Ct h' t X' (remF s k)→StepF X h X' h'→R (.tuple #[]) h'):
  CallsH Tryz.prog F.copies_Table_remove #[.pointer (some ⟨t,0,none⟩), .int .i64 k] h R:=by
 obtain⟨m,xs,a1,S1,a2,S2,lab,H⟩:=H
 have:=sm.e1
 have:=sm.e2
 refine copies_Table_remove.walk ⟨_,cell_at H.blk rfl,drop2 H (by omega) k fun h1 X1 lab1 _ H1 st1=>⟨_,rfl,_,cell_at H1.blk rfl,drop1 H1 (by show s.E1.length<_;omega) k fun h2 X2 lab2 _ H2 st2=>⟨_,rfl,_,cell_at H2.blk rfl,den_delP mapTy H2.map (k:=k) fun h3 M3 s3 o3=>⟨rfl, ?_⟩⟩⟩⟩
 obtain⟨H3,st3⟩:=H2.del (s':=remF s k) M3 s3 o3 rfl rfl rfl ⟨rfl,rfl,rfl,rfl⟩
 exact hk h3 X2 ⟨_,_,_,_,_,_,_,H3⟩ (st1.trans (st2.trans st3))
theorem mem_of_num (H:Cm h t X s m xs a1 S1 a2 S2 lab) {z:Cp} (hz:z∈s.L): ∃x∈xs,x.abs=z:=by
 rw[←H.abs] at hz
 obtain⟨x,hx,e⟩:=List.mem_map.1 hz
 exact⟨x,hx,e⟩
theorem Cm.lease {x:CV} {ses:Int} {dl:Nat} {K:Heap→Prop} (H:Cm h t X s m xs a1 S1 a2 S2 lab) (hx:x∈xs)
  (hk: ∀h',Cm h' t X { s with L:=setC s.L x.num ses dl } m (xs.map (fun z=>if z.num=x.num then { x with ses:=ses,dl:=dl } else z)) a1 S1 a2 S2 lab→StepF X h X h'→K h'):
  StoreP h ((⟨x.b,0,none⟩:Addr).add 8) (.int .i64 ses) fun h1=>StoreP h1 ((⟨x.b,0,none⟩:Addr).add 9) (.int .u64 (dl:Int)) K:=by
 rw[add_blk,add_blk]
 have hb:=H.cps x hx
 refine storeP_blk hb (by simp) fun h1 c1 s1 o1=>storeP_blk c1 (by simp) fun h2 c2 s2 o2=> ?_
 have hy:({ x with ses:=ses,dl:=dl } :CV).at h2 x.b:=c2
 obtain⟨H2,st⟩:=H.change (s':= { s with L:=setC s.L x.num ses dl }) (y:= { x with ses:=ses,dl:=dl }) hx rfl rfl rfl hy (by omega) (fun c hc=>by rw[o2 c hc,o1 c hc]) (by
  show setC s.L x.num ses dl=_
  unfold setC
  refine List.map_congr_left fun z hz=> ?_
  by_cases e:z.num=x.num
  ·rw[if_pos e,if_pos e]
   obtain⟨u,hu,rfl⟩:=mem_of_num H hz
   have e:u.num=x.num:=e
   have:u=x:=by
    obtain⟨i,hi⟩:=List.getElem?_of_mem hu
    obtain⟨j,hj⟩:=List.getElem?_of_mem hx
    have hnd:(xs.map CV.num).Nodup:=H.so.imp (fun h=>Nat.ne_of_lt h)
    have hil:=(List.getElem?_eq_some_iff.1 hi).1
    have:=(List.getElem?_inj (l:=xs.map CV.num) (i:=i) (j:=j) (by simpa using hil) hnd).1 (by rw[List.getElem?_map,List.getElem?_map,hi,hj];simp[e])
    subst this
    rw[hi] at hj;exact Option.some.inj hj
   rw[this];rfl
  ·rw[if_neg e,if_neg e]) rfl rfl ⟨rfl,rfl,rfl,rfl⟩
 exact hk h2 H2 st
theorem free_ok (H:Ct h t X s) (sm:Small s) {z:Cp} (hz:z∈s.L) (hk: ∀h' X',Ct h' t X' (freeF s z.num)→StepF X h X' h'→R (.tuple #[]) h'):
  CallsH Tryz.prog F.copies_Table_free #[.pointer (some ⟨t,0,none⟩), .int .i64 (z.num:Int)] h R:=by
 obtain⟨m,xs,a1,S1,a2,S2,lab,H⟩:=H
 obtain⟨x,hx,rfl⟩:=mem_of_num H hz
 have:=sm.e2
 refine copies_Table_free.walk ⟨_,cell_at H.blk rfl,drop2 H (by omega) _ fun h1 X1 lab1 _ H1 st1=>⟨_,rfl,_,cell_at H1.blk rfl,_,look H1 hx,_,cell_at H1.blk rfl,_,look H1 hx, ?_⟩⟩
 refine onSome_some.2 (H1.lease (ses:=0) (dl:=0) hx fun h2 H2 st2=>hk h2 X1 ⟨_,_,_,_,_,_,_,H2⟩ (st1.trans st2))
def getC (L:List Cp) (n:Int):Option Cp:=L.find? (fun x=>decide ((x.num:Int)=n))
theorem getC_some {L:List Cp} {n:Int} {z:Cp} (h:getC L n=some z):z∈L∧(z.num:Int)=n:=⟨List.mem_of_find?_eq_some h,by simpa using List.find?_some h⟩
def findE (L:List Cp) (n ses:Int):Int:=match getC L n with|none=>4|some z=>if z.ses=0∨z.ses≠ses then 14 else 0
def ackF (s:CF) (n ses:Int):CF:=if findE s.L n ses=0 then { remF s n with acked:=s.acked+1 } else s
theorem Ct.bump3 (H:Ct h t X s) {K:Heap→Prop} (hs:s.over≤100000) (hk: ∀h',Ct h' t X { s with over:=s.over+1 } →StepF X h X h'→K h'):
  ∃(u:Int),hcell h ⟨t,3,none⟩=some (.int .i64 u)∧StoreP h ⟨t,3,none⟩ (.int .i64 (IntKind.wrap .i64 (u+1))) K:=by
 obtain⟨m,xs,a1,S1,a2,S2,lab,H⟩:=H
 refine⟨_,cell_at H.blk rfl,storeP_blk H.blk (by simp) fun h1 c1 s1 o1=> ?_⟩
 rw[wrap_id (by omega) (by omega)] at c1
 obtain⟨H1,st⟩:=H.field (s':= { s with over:=s.over+1 }) rfl rfl rfl c1 s1 o1
 exact hk h1 ⟨_,_,_,_,_,_,_,H1⟩ st
def relF (s:CF) (n ses:Int):CF:=if findE s.L n ses=0 then freeF s n.toNat else s
end Cps
end Go.Proofs.YtgccegnmggjkjaaGreatDoor
set_option maxRecDepth 100000
namespace Go.Proofs.YtgccegnmggjkjaaGreatDoor
open Go.Den
namespace Stt
open Obx (It)
open Eid (Ev)
variable {h h' : Heap} {s j : Nat} {X : Ft}
structure SS where
 A:List Ses.Ses
 G:List Regs.Rg
 C:Cps.CF
 B:Obx.BS
 Q:List It
 e:Ev
 tm:Nat
 sq:Nat
 now:Nat
 rf:Nat
structure Ids where
 t:Nat
 r:Nat
 c:Nat
 o:Nat
 p:Nat
 k:Nat
abbrev Mk (h:Heap) (k:Nat) (e:Ev) (tm sq:Nat):Prop:=h[k]? =some (.cells #[.bool e.ipn, .int .u64 e.node, .int .u64 e.svc, .string e.host, .string e.dem, .int .u64 (tm:Int), .int .u64 (sq:Int), .bool true] T.ident_Maker (0,0))
abbrev Bk (h:Heap) (s:Nat) (I:Ids) (now rf:Nat):Prop:=h[s]? =some (.cells #[pt I.t,pt I.r,pt I.c,pt I.o,pt I.p,pt I.k, .int .u64 (now:Int), .int .i64 (rf:Int)] T.state_State (0,0))
def part (σ:SS) (I:Ids) (s:Nat) (i:Nat) (h:Heap) (X:Ft):Prop:=match i with
 |0=>Ses.Has h I.t X σ.A
 |1=>Regs.Tb h I.r X σ.G
 |2=>Cps.Ct h I.c X σ.C
 |3=>Obx.Box h I.o X σ.B
 |4=> ∃m,Pu h I.p m σ.Q∧only X fun y=>y=I.p∨y=m
 |5=>Mk h I.k σ.e σ.tm σ.sq∧only X fun y=>y=I.k
 |6=>Bk h s I σ.now σ.rf∧only X fun y=>y=s
 |_=> ∀y,¬In X y
theorem part.lt {σ:SS} {I:Ids} {i:Nat} (H:part σ I s i h X) (y:Nat) (hy:In X y):y<h.size:=by
 rcases i with _|_|_|_|_|_|_|i
 ·exact Ses.Has.lt H y hy
 ·exact Regs.Tb.lt H y hy
 ·exact Cps.Ct.lt H y hy
 ·exact Obx.Box.lt H y hy
 ·obtain⟨m,P,o⟩:=H
  rcases hy with hy|hy
  ·rcases(o y).1.1 hy with rfl|rfl
   ·exact P.lt.1
   ·exact P.lt.2
  ·exact absurd hy (o y).2
 ·obtain⟨P,o⟩:=H
  rcases hy with hy|hy
  ·rw[(o y).1.1 hy];exact lt_of_get P
  ·exact absurd hy (o y).2
 ·obtain⟨P,o⟩:=H
  rcases hy with hy|hy
  ·rw[(o y).1.1 hy];exact lt_of_get P
  ·exact absurd hy (o y).2
 ·exact absurd hy (H y)
theorem part.frame {σ:SS} {I:Ids} {i:Nat} {Q:Nat→Prop} (H:part σ I s i h X) (f:Fr Q h h') (hq: ∀y,In X y→ ¬Q y):part σ I s i h' X:=by
 rcases i with _|_|_|_|_|_|_|i
 ·exact Ses.Has.frame H f hq
 ·exact Regs.Tb.frame H f hq
 ·exact Cps.Ct.frame H f hq
 ·exact Obx.Box.frame H f hq
 ·obtain⟨m,P,o⟩:=H
  exact⟨m,P.frame f (hq _ (.inl ((o _).1.2 (.inl rfl)))) (hq _ (.inl ((o _).1.2 (.inr rfl)))),o⟩
 ·obtain⟨P,o⟩:=H
  exact⟨f.get P (hq _ (.inl ((o _).1.2 rfl))),o⟩
 ·obtain⟨P,o⟩:=H
  exact⟨f.get P (hq _ (.inl ((o _).1.2 rfl))),o⟩
 ·exact H
theorem part.dis {σ:SS} {I:Ids} {i:Nat} (H:part σ I s i h X) (y:Nat) (hm:X.M y) (hd:X.D y):False:=by
 rcases i with _|_|_|_|_|_|_|i
 ·exact Ses.Has.dis H y hm hd
 ·obtain⟨m,H⟩:=H;exact H.d y hd
 ·obtain⟨m,xs,a1,S1,a2,S2,lab,H⟩:=H;exact(H.mm y).1 hm (H.dd y hd).1
 ·obtain⟨L,⟨lp,lc,xs,a,S,H⟩,_⟩:=H;exact H.dis y hm hd
 ·obtain⟨m,P,o⟩:=H;exact(o y).2 hd
 ·exact(H.2 y).2 hd
 ·exact(H.2 y).2 hd
 ·exact H y (.inl hm)
theorem part.st (σ:SS) (I:Ids) (s:Nat):Stable (part σ I s):=⟨part.lt,part.frame,part.dis⟩
def Pt (h:Heap) (s:Nat) (X:Ft) (I:Ids) (σ:SS):Prop:=Fam (part σ I s) h X
variable {I : Ids} {σ : SS}
theorem Pt.lt (H:Pt h s X I σ) (y:Nat) (hy:X.M y∨X.D y):y<h.size:=Fam.lt (part.st _ _ _) H y hy
theorem Pt.dis (H:Pt h s X I σ) (y:Nat) (a:X.M y) (b:X.D y):False:=Fam.dis (part.st _ _ _) H y a b
theorem Pt.frame {Q:Nat→Prop} (H:Pt h s X I σ) (f:Fr Q h h') (hq: ∀y,X.M y∨X.D y→ ¬Q y):Pt h' s X I σ:=Fam.frame (part.st _ _ _) H f hq
theorem Pt.on (H:Pt h s X I σ) (f:Fr (fun _=>False) h h'):Pt h' s X I σ:=H.frame f (fun _ _=>id)
theorem Pt.use (H:Pt h s X I σ) (j:Nat): ∃Z,part σ I s j h Z∧(∀y,Z.M y→X.M y)∧(∀y,Z.D y→X.D y)∧ ∀h' Z' σ',part σ' I s j h' Z'→StepF Z h Z' h'→(∀i,i≠j→part σ' I s i=part σ I s i)→
  ∃X',Pt h' s X' I σ'∧StepF X h X' h'∧(∀y,Z'.D y→X'.D y)∧ ∀y,h.size≤y→X'.M y∨X'.D y→Z'.M y∨Z'.D y:=by
 obtain⟨Z,h1,h2,h3,go⟩:=Fam.use (part.st σ I s) H j
 exact⟨Z,h1,h2,h3,fun h' Z' σ'=>go h' Z' (part σ' I s)⟩
theorem Pt.blk (H:Pt h s X I σ):Bk h s I σ.now σ.rf:=by obtain⟨Y,hp,_⟩:=H;exact(hp 6).1
theorem Pt.box (H:Pt h s X I σ): ∃Z,Obx.Box h I.o Z σ.B:=by obtain⟨Y,hp,_⟩:=H;exact⟨_,hp 3⟩
theorem part_A {i:Nat} (a:List Ses.Ses) (hi:i≠0):part { σ with A:=a } I s i=part σ I s i:=by rcases i with _|_|_|_|_|_|_|i<;>first|rfl|exact absurd rfl hi
theorem part_C {i:Nat} (a:Cps.CF) (hi:i≠2):part { σ with C:=a } I s i=part σ I s i:=by rcases i with _|_|_|_|_|_|_|i<;>first|rfl|exact absurd rfl hi
theorem part_B {i:Nat} (a:Obx.BS) (hi:i≠3):part { σ with B:=a } I s i=part σ I s i:=by rcases i with _|_|_|_|_|_|_|i<;>first|rfl|exact absurd rfl hi
theorem part_Q {i:Nat} (a:List It) (hi:i≠4):part { σ with Q:=a } I s i=part σ I s i:=by rcases i with _|_|_|_|_|_|_|i<;>first|rfl|exact absurd rfl hi
theorem part_n {i:Nat} (a b:Nat) (hi:i≠6):part { σ with now:=a,rf:=b } I s i=part σ I s i:=by rcases i with _|_|_|_|_|_|_|i<;>first|rfl|exact absurd rfl hi
end Stt
end Go.Proofs.YtgccegnmggjkjaaGreatDoor
set_option maxRecDepth 100000
set_option maxHeartbeats 4000000
namespace Go.Proofs.YtgccegnmggjkjaaGreatDoor
open Go.Den
variable {h : Heap} {R : Value → Heap → Prop}
theorem law19_Same.walk {a_p : Option Addr} {a_l a_c : Nat} {b_p : Option Addr} {b_l b_c : Nat} (hv :
 if (((a_l : Nat) : Int) != ((b_l : Nat) : Int)) = true then
 R (.bool false) h
 else
 ∃ (I : Int → Heap → Prop) (mu : Int → Heap → Nat), I 0 h ∧ ∀ (i : Int) (h_1 : Heap), I i h_1 →
 if (decide (i < ((a_l : Nat) : Int))) = true then
 ((0 : Int) ≤ i ∧ i < ((a_l : Nat) : Int)) ∧
 onSome a_p fun a =>
 ∃ t20_p t20_l t20_c, hcell h_1 (a.add (Int.toNat i * 1)) = some (.slice t20_p t20_l t20_c) ∧
 ∃ (t21 : ByteArray), ConvV Tryz.prog T.s_uint8 T.string (.slice t20_p t20_l t20_c) h_1 t21 ∧
 ((0 : Int) ≤ i ∧ i < ((b_l : Nat) : Int)) ∧
 onSome b_p fun a_1 =>
 ∃ t25_p t25_l t25_c, hcell h_1 (a_1.add (Int.toNat i * 1)) = some (.slice t25_p t25_l t25_c) ∧
 ∃ (t26 : ByteArray), ConvV Tryz.prog T.s_uint8 T.string (.slice t25_p t25_l t25_c) h_1 t26 ∧
 if (!(t21.toList == t26.toList)) = true then
 R (.bool false) h_1
 else
 (I (IntKind.wrap .i64 (i + 1)) h_1 ∧ mu (IntKind.wrap .i64 (i + 1)) h_1 < mu i h_1)
 else
 R (.bool true) h_1) : CallsH Tryz.prog F.law19_Same #[.slice a_p a_l a_c, .slice b_p b_l b_c] h R :=
 callsH_of_body (.seq .leaf (.seq (.seq .leaf (.cond (.seq .leaf .leaf) .leaf)) (.seq (.seq .leaf (.block (.loop [(5, .one (.int .i64))] (.seq (.seq .leaf (.cond .leaf .leaf)) (.seq (.block (.seq (.plan (.op 0 (.op 1 (.op 2 (.op 3 (.op 4 (.op 5 (.op 6 (.op 7 (.op 8 (.op 9 (.op 10 .done)))))))))))) (.cond (.seq .leaf .leaf) .leaf))) .leaf))))) (.seq .leaf .leaf)))) Tryz.func20 rfl rfl (Eq.mp (by kernel_rfl) hv)
end Go.Proofs.YtgccegnmggjkjaaGreatDoor
set_option maxRecDepth 100000
namespace Go.Proofs.YtgccegnmggjkjaaGreatDoor
open Go.Den Go.Fields
namespace Fld
variable {h h' h0 : Heap} {R : Value → Heap → Prop} {p q : Option Addr} {c d i : Nat}
structure Rows (h:Heap) (p:Option Addr) (l c:Nat) (xs:List BV):Prop where
 len:l=xs.length
 row:Row h p (xs.flatMap nenc)
 cap:l≤c
 each: ∀x∈xs,Row h x.p (bc x.b)
theorem Rows.on {l c:Nat} {xs:List BV} (H:Rows h p l c xs) (f:Fr (fun _=>False) h h'):Rows h' p l c xs:=
 ⟨H.len,H.row.frame f (fun _ _=>id),H.cap,fun x hx=>(H.each x hx).frame f (fun _ _=>id)⟩
theorem BL.to_rows {h0:Heap} {l c:Nat} {bs:List (List UInt8)} (H:BL h0 h p l c bs): ∃xs,Rows h p l c xs∧xs.map BV.b=bs:=by
 obtain⟨xs,e1,e2,e3,e4,e5⟩:=H.rows
 exact⟨xs,⟨e1,e2,e4,e5⟩,e3⟩
theorem same_ok {l c m d:Nat} {xs ys:List BV} (H1:Rows h p l c xs) (H2:Rows h q m d ys) (hm:l≤1000000000) (hk:R (.bool (decide (xs.map BV.b=ys.map BV.b))) h):CallsH Tryz.prog F.law19_Same #[.slice p l c, .slice q m d] h R:=by
 obtain⟨rfl,r1,_,e1⟩:=H1
 obtain⟨rfl,r2,_,e2⟩:=H2
 refine law19_Same.walk ?_
 by_cases hl:xs.length=ys.length
 ·have:(((xs.length:Nat):Int) !=((ys.length:Nat):Int))=false:=by rw[hl];simp
  rw[this]
  simp only[Bool.false_eq_true,if_false]
  refine⟨fun i g=>g=h∧ ∃k:Nat,i=(k:Int)∧k≤xs.length∧(xs.take k).map BV.b=(ys.take k).map BV.b,fun i _=>xs.length - i.toNat,⟨rfl,0,rfl,by omega,by simp⟩, ?_⟩
  rintro _ _ ⟨rfl,k,rfl,hk1,hk2⟩
  by_cases hlt:k<xs.length
  ·have q1:(k:Int)<((xs.length:Nat):Int):=by omega
   simp only[q1,decide_true,if_true,Int.toNat_natCast]
   have gx:xs[k]? =some xs[k]:=List.getElem?_eq_getElem hlt
   have gy:ys[k]? =some (ys[k]'(by omega)):=List.getElem?_eq_getElem _
   generalize xs[k]=x at gx
   generalize ys[k]'(by omega)=y at gy
   obtain⟨a,rfl⟩:=r1.some (by intro e;cases xs with|nil=>simp at hlt|cons=>simp at e)
   obtain⟨b,rfl⟩:=r2.some (by intro e;cases ys with|nil=>simp at gy|cons=>simp at e)
   have cx:=(r1.heldAt nenc_len gx).1
   have cy:=(r2.heldAt nenc_len gy).1
   rw[add_zero_addr] at cx cy
   refine⟨⟨by first|trivial|omega,by first|trivial|omega⟩,onSome_some.2 ⟨_,_,_,cx,_,conv (e1 x (List.mem_of_getElem? gx)) rfl,⟨by first|trivial|omega,by first|trivial|omega⟩,onSome_some.2 ⟨_,_,_,cy,_,conv (e2 y (List.mem_of_getElem? gy)) rfl, ?_⟩⟩⟩
   rw[str_list,str_list]
   by_cases hxy:x.b=y.b
   ·rw[hxy]
    simp only[beq_self_eq_true,Bool.not_true,Bool.false_eq_true,if_false]
    rw[wrap_id (by omega) (by omega)]
    refine⟨⟨by first|trivial|rfl,k+1,by omega,by omega, ?_⟩,by show _ - Int.toNat ((k:Int)+1)<_;omega⟩
    rw[List.take_add_one,List.take_add_one,gx,gy,List.map_append,List.map_append,hk2]
    simp[hxy]
   ·have:(x.b==y.b)=false:=by simpa using hxy
    simp only[this,Bool.not_false,if_true]
    have hne:xs.map BV.b≠ys.map BV.b:=fun e=>by
     have h1:(xs.map BV.b)[k]? =(ys.map BV.b)[k]? :=by rw[e]
     rw[List.getElem?_map,List.getElem?_map,gx,gy] at h1
     exact hxy (Option.some.inj h1)
    rw[decide_eq_false hne] at hk
    exact hk
  ·have q1: ¬(k:Int)<((xs.length:Nat):Int):=by omega
   simp only[q1,decide_false,Bool.false_eq_true,if_false]
   obtain rfl:k=xs.length:=by omega
   rw[List.take_length,hl,List.take_length] at hk2
   rw[decide_eq_true hk2] at hk
   exact hk
 ·have:(((xs.length:Nat):Int) !=((ys.length:Nat):Int))=true:=by simp;omega
  rw[if_pos this]
  have hne:xs.map BV.b≠ys.map BV.b:=fun e=>hl (by have:=congrArg List.length e;simpa using this)
  rw[decide_eq_false hne] at hk
  exact hk
end Fld
end Go.Proofs.YtgccegnmggjkjaaGreatDoor
set_option maxRecDepth 100000
namespace Go.Proofs.YtgccegnmggjkjaaGreatDoor
open Go.Den Go.Heapq
namespace Cps
open Eid Alarm Fld
variable {h h' : Heap} {R : Value → Heap → Prop} {t : Nat} {X : Ft} {s s' : CF} {m a1 a2 : Nat} {xs : List CV} {S1 S2 S1' S2' : Nat → Prop} {lab : Nat → Option Nat} {p : Option Addr} {n c : Nat}
def mayC (x:Ev) (len:Nat) (till:Int):Bool:=rightE x && (!decide (x=Ev.zero) && (decide (1≤len) && (decide (len≤600) && decide (till≤1099511627776))))
theorem isCopy_ok (x:Ev) {k:Int} (hk: ∀h',Fr (fun _=>False) h h'→R (.bool (mayC x n k)) h'):CallsH Tryz.prog F.copies_isCopy #[ev5 x, .slice p n c, .int .u64 k] h R:=by
 refine copies_isCopy.walk (eid_Eid.box fun b h1 eb hb f1=>eid_Eid.ld hb (Eid.right_ok x fun h2 f2=>⟨_,rfl, ?_⟩))
 have K:=hk h2 (f1.tt f2)
 unfold mayC at K
 by_cases q0:rightE x=true
 ·rw[if_pos q0]
  rw[q0,Bool.true_and] at K
  refine eid_Eid.ld (f2.get hb id) ⟨_,eqv' (y:= .zero) (x:=x) rfl rfl, ?_⟩
  by_cases q1:x= .zero
  ·rw[decide_eq_true q1,if_neg (by decide)]
   rw[decide_eq_true q1] at K;exact K
  ·rw[decide_eq_false q1,if_pos (by decide)]
   rw[decide_eq_false q1,Bool.not_false,Bool.true_and] at K
   by_cases q2:1≤n
   ·rw[if_pos (decide_eq_true (by omega))]
    rw[decide_eq_true q2,Bool.true_and] at K
    by_cases q3:n≤600
    ·rw[if_pos (decide_eq_true (by omega))]
     rw[decide_eq_true q3,Bool.true_and] at K;exact K
    ·rw[if_neg (by simp;omega)]
     rw[decide_eq_false q3] at K;exact K
   ·rw[if_neg (by simp;omega)]
    rw[decide_eq_false q2] at K;exact K
 ·rw[if_neg q0]
  have q0:rightE x=false:=by simpa using q0
  rw[q0] at K;exact K
def ofL (L:List Cp) (x:Ev):List Cp:=L.filter (fun y=>decide (y.e=x))
theorem of_len (H:Cm h t X s m xs a1 S1 a2 S2 lab) (x:Ev):(xs.filter (fun y=>decide (y.e=x))).length=(ofL s.L x).length:=by
 unfold ofL
 rw[←H.abs,List.filter_map,List.length_map];rfl
def addE (s:CF) (x:Ev) (d:List UInt8) (till:Nat):Int:=if mayC x d.length (till:Int)=true then(if(ofL s.L x).length≥16 then 15 else 0) else 1
def addN (s:CF) (x:Ev) (d:List UInt8) (till:Nat):Int:=if addE s x d till=0 then(s.next:Int) else 0
def addF (s:CF) (x:Ev) (d:List UInt8) (till:Nat):CF:=if addE s x d till=0 then { s with L:=s.L++ [⟨s.next,x,d,till,0,0⟩],next:=s.next+1,E1:=setL s.E1 (s.next:Int) (till:Int) } else s
theorem add_ok (H:Ct h t X s) (sm:Small s) (hlt: ∀z∈s.L,z.num<s.next) (hpos:1≤s.next) (x:Ev) {d:List UInt8} (till:Nat) {k:Int} (hk0:k=(till:Int)) (hr:Row h p (bc d)) (hn:n=d.length) (hpm:d≠ []→ ∀a,p=some a→ ¬X.M a.block)
  (hk: ∀h' X',Ct h' t X' (addF s x d till)→StepF X h X' h'→R (.tuple #[.int .i64 (addN s x d till), .int .i64 (addE s x d till)]) h'):
  CallsH Tryz.prog F.copies_Table_Add #[.pointer (some ⟨t,0,none⟩),ev5 x, .slice p n c, .int .u64 k] h R:=by
 subst hk0 hn
 obtain⟨m,xs,a1,S1,a2,S2,lab,H⟩:=H
 have sn:=sm.n
 have sl:=sm.l
 have se:=sm.e1
 have xl:=H.len
 refine copies_Table_Add.walk (eid_Eid.box fun b h1 eb hb f1=> ?_)
 have H1:=H.on f1
 refine made_ok H1 ⟨_,rfl, ?_⟩
 rw[if_neg (by decide)]
 refine eid_Eid.ld hb (isCopy_ok x fun h3 f3=>⟨_,rfl, ?_⟩)
 have F3:=f1.tt f3
 by_cases q0:mayC x d.length (till:Int)=true
 ·rw[q0,if_neg (by decide)]
  refine eid_Eid.ld (f3.get hb id) (of_ok (H.on F3) x (by omega) fun h4 p4 c4 o4 g4 f4=>⟨_,_,_,rfl, ?_⟩)
  have F4:=F3.tt f4
  have H4:=H.on F4
  have hb4:=(f3.tt f4).get hb id
  rw[of_len H x]
  by_cases q1:(ofL s.L x).length≥16
  ·rw[if_pos (decide_eq_true (by omega))]
   have e:addE s x d till=15:=by unfold addE;rw[if_pos q0,if_pos q1]
   have e2:addN s x d till=0:=if_neg (by rw[e];decide)
   have e3:addF s x d till=s:=if_neg (by rw[e];decide)
   rw[e,e2,e3] at hk
   exact hk h4 X ⟨_,_,_,_,_,_,_,H4⟩ (StepF.of_no F4)
  ·rw[if_neg (by simp;omega)]
   have e:addE s x d till=0:=by unfold addE;rw[if_pos q0,if_neg q1]
   have e2:addN s x d till=(s.next:Int):=if_pos e
   have e3:addF s x d till= { s with L:=s.L++ [⟨s.next,x,d,till,0,0⟩],next:=s.next+1,E1:=setL s.E1 (s.next:Int) (till:Int) } :=if_pos e
   rw[e,e2,e3] at hk
   have lb:b<h4.size:=lt_of_get hb4
   have nb: ∀ {c},lab c≠none→c≠b:=fun {c} hc ec=>by have:=H.lsz c hc;omega
   refine⟨_,cell_at H4.blk rfl,_,cell_at H4.blk rfl,storeP_blk H4.blk (by simp) fun h5 c5 s5 o5=> ?_⟩
   rw[wrap_id (by omega) (by omega)] at c5
   obtain⟨H5,st5⟩:=H4.field (s':= { s with next:=s.next+1 }) rfl rfl rfl c5 s5 o5
   have hb5:Ev.at h5 b x:=by
    unfold Ev.at eid_Eid.at
    rw[o5 b (Ne.symm (nb (by rw[H.l0];simp)))];exact hb4
   have r5:Row h5 p (bc d):=(hr.frame F4 (fun _ _=>id)).frame st5.fr (fun a ea=>hpm (by rintro rfl;simp[mayC] at q0) a ea)
   refine⟨_,cell_at H5.blk rfl,eid_Eid.ld hb5 (clone_ok r5 rfl (by
    unfold mayC at q0
    simp only[Bool.and_eq_true,decide_eq_true_eq] at q0
    omega) fun p6 c6 h6 o6 f6 g6=>⟨_,_,_,rfl, ?_⟩)⟩
   refine⟨eid_Eid.held (f6.get hb5 id),cell_at (f6.get H5.blk id) rfl,copies_Copy.box fun b7 h7 e7 hb7 f7=> ?_⟩
   have F7:=f6.tt f7
   have z5:h5.size≤h6.size:=f6.1
   refine⟨eid_Eid.held (F7.get hb5 id),cell_at (F7.get H5.blk id) rfl,den_putP mapTy (H5.on F7).map (k:=(s.next:Int)) fun h8 M8 s8 o8=> ?_⟩
   obtain⟨X8,lab8,H8,st8⟩:=H5.add (s':= { s with L:=s.L++ [⟨s.next,x,d,till,0,0⟩],next:=s.next+1 }) (y:=⟨s.next,b7,x,⟨p6,c6,d⟩,till,0,0⟩) F7 hb7 (by show h5.size≤b7;omega) ((o6.row').frame f7 (fun _ _=>id)) o6.le (fun c hc=>⟨g6 c hc,by have:=o6.blk_lt hc;show c≠b7;omega,by have:=o6.blk_lt hc;have:=f7.1;omega⟩)
    (fun u hu=>by
     have:u.abs∈s.L:=by rw[←H.abs];exact List.mem_map_of_mem hu
     exact hlt _ this) M8 s8 o8 rfl rfl rfl ⟨rfl,rfl,rfl,rfl⟩
   have hmay:may (s.next:Int) (till:Int)=true:=by
    unfold mayC at q0
    simp only[Bool.and_eq_true,decide_eq_true_eq] at q0
    exact may_iff.2 ⟨by omega,by omega,by omega⟩
   refine⟨_,cell_at H8.blk rfl,Alarm.set_ok H8.al1 (by show s.E1.length<_;omega) (s.next:Int) (till:Int) (by omega) (fun hm h9 S9 A9 g9 f9=>⟨_,rfl, ?_⟩) (fun hm=>absurd hmay (by rw[hm];simp))⟩
   obtain⟨X9,lab9,H9,st9,_⟩:=H8.alarm1 (s':= { s with L:=s.L++ [⟨s.next,x,d,till,0,0⟩],next:=s.next+1,E1:=setL s.E1 (s.next:Int) (till:Int) }) A9 g9 f9 rfl rfl rfl ⟨rfl,rfl,rfl,rfl⟩
   exact hk h9 X9 ⟨_,_,_,_,_,_,_,H9⟩ (StepF.no F4 (st5.trans (st8.trans st9)))
 ·have q0:mayC x d.length (till:Int)=false:=by simpa using q0
  rw[q0,if_pos (by decide)]
  have e:addE s x d till=1:=by unfold addE;rw[q0];rfl
  have e2:addN s x d till=0:=if_neg (by rw[e];decide)
  have e3:addF s x d till=s:=if_neg (by rw[e];decide)
  rw[e,e2,e3] at hk
  exact hk h3 X ⟨_,_,_,_,_,_,_,H.on F3⟩ (StepF.of_no F3)
def remOver (s:CF) (k:Int):CF:= { remF s k with over:=s.over+1 }
def remGone (s:CF) (k:Int):CF:= { remF s k with gone:=s.gone+1 }
theorem Small.rem (sm:Small s) (k:Int):Small (remF s k):=
 ⟨sm.n,Nat.le_trans (List.length_filter_le _ _) sm.l,Nat.le_trans (dropK_len _ _) sm.e1,Nat.le_trans (dropK_len _ _) sm.e2⟩
theorem Small.free (sm:Small s) (k:Nat):Small (freeF s k):=
 ⟨sm.n,by show(setC s.L k 0 0).length≤_;unfold setC;rw[List.length_map];exact sm.l,sm.e1,Nat.le_trans (dropK_len _ _) sm.e2⟩
def Held (s:CF):Prop:= ∀k∈keys s.E2,∃z∈s.L,(z.num:Int)=k
theorem Held.rem (H:Held s) (k:Int):Held (remF s k):=fun j hj=>by
 unfold keys at hj
 obtain⟨e,he,rfl⟩:=List.mem_map.1 hj
 obtain⟨h1,h2⟩:=List.mem_filter.1 he
 have hne:e.1≠k:=by simpa using h2
 obtain⟨z,hz,e2⟩:=H e.1 (List.mem_map_of_mem h1)
 exact⟨z,List.mem_filter.2 ⟨hz,by simp[e2,hne]⟩,e2⟩
theorem setC_nums (L:List Cp) (n:Nat) (a:Int) (b:Nat) {z:Cp} (hz:z∈L): ∃y∈setC L n a b,y.num=z.num:=by
 unfold setC
 refine⟨_,List.mem_map_of_mem hz, ?_⟩
 split<;>rfl
theorem Ct.ring1 (H:Ct h t X s) (sm:Small s) (now:Int) (hk: ∀h' X' p' c',Ct h' t X' { s with E1:=Alarm.rest s.E1 now } →StepF X h X' h'→Own h' p' (Alarm.due s.E1 now).length c' 1 (kc (Alarm.due s.E1 now))→(∀y,inBlk p' y→h.size≤y∧ ¬X'.M y)→R (.slice p' (Alarm.due s.E1 now).length c') h'):
  ∃(u:Option Addr),hcell h ⟨t,5,none⟩=some (.pointer u)∧CallsH Tryz.prog F.alarm_Alarm_Ring #[.pointer u, .int .u64 now] h R:=by
 obtain⟨m,xs,a1,S1,a2,S2,lab,H⟩:=H
 have:=sm.e1
 refine⟨_,cell_at H.blk rfl,Alarm.ring_ok H.al1 (by omega) now fun h1 p1 c1 A1 o1 g1 f1=> ?_⟩
 obtain⟨X',lab',H',st,hM⟩:=H.alarm1 (s':= { s with E1:=Alarm.rest s.E1 now }) A1 (fun c hc=> .inl hc) f1 rfl rfl rfl ⟨rfl,rfl,rfl,rfl⟩
 refine hk h1 X' p1 c1 ⟨_,_,_,_,_,_,_,H'⟩ st o1 (fun y hy=>⟨g1 y hy,fun hm=> ?_⟩)
 have hy:=g1 y hy
 rcases hM y hm with h2|h2
 ·have:=H.lsz y ((H.mm y).1 h2);omega
 ·have:=H.al1.lt h2;omega
theorem Ct.ring2 (H:Ct h t X s) (sm:Small s) (now:Int) (hk: ∀h' X' p' c',Ct h' t X' { s with E2:=Alarm.rest s.E2 now } →StepF X h X' h'→Own h' p' (Alarm.due s.E2 now).length c' 1 (kc (Alarm.due s.E2 now))→(∀y,inBlk p' y→h.size≤y∧ ¬X'.M y)→R (.slice p' (Alarm.due s.E2 now).length c') h'):
  ∃(u:Option Addr),hcell h ⟨t,6,none⟩=some (.pointer u)∧CallsH Tryz.prog F.alarm_Alarm_Ring #[.pointer u, .int .u64 now] h R:=by
 obtain⟨m,xs,a1,S1,a2,S2,lab,H⟩:=H
 have:=sm.e2
 refine⟨_,cell_at H.blk rfl,Alarm.ring_ok H.al2 (by omega) now fun h1 p1 c1 A1 o1 g1 f1=> ?_⟩
 obtain⟨X',lab',H',st,hM⟩:=H.alarm2 (s':= { s with E2:=Alarm.rest s.E2 now }) A1 (fun c hc=> .inl hc) f1 rfl rfl rfl ⟨rfl,rfl,rfl,rfl⟩
 refine hk h1 X' p1 c1 ⟨_,_,_,_,_,_,_,H'⟩ st o1 (fun y hy=>⟨g1 y hy,fun hm=> ?_⟩)
 have hy:=g1 y hy
 rcases hM y hm with h2|h2
 ·have:=H.lsz y ((H.mm y).1 h2);omega
 ·have:=H.al2.lt h2;omega
structure Nums (h:Heap) (X:Ft) (p:Option Addr) (n c:Nat) (ks:List Int):Prop where
 own:Own h p n c 1 (ks.map ienc)
 len:n=ks.length
 ap: ∀y,inBlk p y→ ¬X.M y
theorem Nums.step {X':Ft} {ks:List Int} (N:Nums h X p n c ks) (st:StepF X h X' h'):Nums h' X' p n c ks:=
 ⟨N.own.frame st.fr N.ap,N.len,fun y hy hm=>by
  rcases st.newM y hm with h1|h1
  ·exact N.ap y hy h1
  ·have:=N.own.blk_lt hy;omega⟩
theorem Nums.at {K:Int→Prop} {ks:List Int} {i:Nat} {k:Int} (N:Nums h X p n c ks) (hi:ks[i]? =some k) (hk:K k):
  ((0:Int)≤(i:Int)∧(i:Int)<((n:Nat):Int))∧onSome p fun a=> ∃t:Int,hcell h (a.add (Int.toNat (i:Int)*1))=some (.int .i64 t)∧K t:=by
 have hl:=(List.getElem?_eq_some_iff.1 hi).1
 have hn:=N.len
 obtain⟨ab,ao,e⟩:=N.own.addr (by omega)
 subst e
 refine⟨⟨by omega,by omega⟩,onSome_some.2 ⟨k, ?_,hk⟩⟩
 rw[Int.toNat_natCast,Nat.mul_one]
 exact N.own.cell (by rw[List.getElem?_map,hi];rfl)
theorem foldl_small {f:CF→Int→CF} (hf: ∀s k,Small s→Small (f s k)): ∀(ks:List Int) (s:CF),Small s→Small (ks.foldl f s)
 | [],_,h=>h
 |k::ks,s,h=>foldl_small hf ks (f s k) (hf s k h)
theorem over_fold: ∀(ks:List Int) (s:CF),(ks.foldl remOver s).over=s.over+ks.length
 | [],_=>rfl
 |k::ks,s=>by rw[List.foldl_cons,over_fold ks,List.length_cons];show s.over+1+ks.length=_;omega
theorem held_fold: ∀(ks:List Int) (s:CF),Held s→Held (ks.foldl remOver s)
 | [],_,h=>h
 |k::ks,s,h=>held_fold ks (remOver s k) (h.rem k)
theorem take_foldl {f:CF→Int→CF} {ks:List Int} {i:Nat} {k:Int} (hi:ks[i]? =some k) (s:CF):(ks.take (i+1)).foldl f s=f ((ks.take i).foldl f s) k:=by
 rw[List.take_add_one,hi,List.foldl_append];rfl
def passF (s:CF) (now:Int):CF:=
 let s1:=(keys (Alarm.due s.E1 now)).foldl remOver { s with E1:=Alarm.rest s.E1 now }
 (keys (Alarm.due s1.E2 now)).foldl (fun s k=>freeF s k.toNat) { s1 with E2:=Alarm.rest s1.E2 now }
theorem free_nums: ∀(ks:List Int) (s:CF) (z:Cp),z∈s.L→ ∃y∈(ks.foldl (fun s k=>freeF s k.toNat) s).L,y.num=z.num
 | [],s,z,hz=>⟨z,hz,rfl⟩
 |k::ks,s,z,hz=>by
  obtain⟨y,hy,e⟩:=setC_nums s.L k.toNat 0 0 hz
  obtain⟨u,hu,e2⟩:=free_nums ks (freeF s k.toNat) y hy
  exact⟨u,hu,e2.trans e⟩
theorem rest_len (L:List E) (now:Int):(Alarm.rest L now).length≤L.length:=(List.dropWhile_sublist _).length_le
theorem pass_ok (H:Ct h t X s) (sm:Small s) (ho:s.over≤40000) (hE:Held s) (now:Int)
  (hk: ∀h' X' p' c',Ct h' t X' (passF s now)→StepF X h X' h'→Nums h' X' p' (Alarm.due s.E1 now).length c' (keys (Alarm.due s.E1 now))→(∀y,inBlk p' y→h.size≤y)→R (.slice p' (Alarm.due s.E1 now).length c') h'):
  CallsH Tryz.prog F.copies_Table_Pass #[.pointer (some ⟨t,0,none⟩), .int .u64 now] h R:=by
 have hdl:(Alarm.due s.E1 now).length≤s.E1.length:=(List.takeWhile_sublist _).length_le
 have e1b:=sm.e1
 have hm: ∀ {R:Value→Heap→Prop},R (.bool true) h→CallsH Tryz.prog F.copies_Table_made #[.pointer (some ⟨t,0,none⟩)] h R:=fun hk=>by
  obtain⟨m,xs,a1,S1,a2,S2,lab,H⟩:=H
  exact made_ok H hk
 refine copies_Table_Pass.walk (hm ⟨_,rfl, ?_⟩)
 rw[if_neg (by decide)]
 refine H.ring1 sm now fun h2 X2 p2 c2 H2 st2 o2 g2=>⟨_,_,_,rfl, ?_⟩
 have sm2:Small { s with E1:=Alarm.rest s.E1 now } :=⟨sm.n,sm.l,Nat.le_trans (rest_len _ _) sm.e1,sm.e2⟩
 have kl:(keys (Alarm.due s.E1 now)).length=(Alarm.due s.E1 now).length:=by unfold keys;rw[List.length_map]
 have N2:Nums h2 X2 p2 (Alarm.due s.E1 now).length c2 (keys (Alarm.due s.E1 now)):=⟨o2,kl.symm,fun y hy=>(g2 y hy).2⟩
 have smR: ∀(s:CF) k,Small s→Small (remOver s k):=fun s k h=>⟨(h.rem k).n,(h.rem k).l,(h.rem k).e1,(h.rem k).e2⟩
 refine⟨fun u g=> ∃(i:Nat) (Xg:Ft),u=(i:Int)∧i≤(Alarm.due s.E1 now).length∧Ct g t Xg (((keys (Alarm.due s.E1 now)).take i).foldl remOver { s with E1:=Alarm.rest s.E1 now })∧StepF X h Xg g∧Nums g Xg p2 (Alarm.due s.E1 now).length c2 (keys (Alarm.due s.E1 now)),fun u _=>(Alarm.due s.E1 now).length - u.toNat,⟨0,X2,rfl,Nat.zero_le _,H2,st2,N2⟩, ?_⟩
 rintro _ g ⟨i,Xg,rfl,hi,Hg,stg,Ng⟩
 have smg:=foldl_small smR ((keys (Alarm.due s.E1 now)).take i) _ sm2
 by_cases hlt:i<(Alarm.due s.E1 now).length
 ·rw[if_pos (decide_eq_true (by omega))]
  have hki:(keys (Alarm.due s.E1 now))[i]? =some ((keys (Alarm.due s.E1 now))[i]'(by omega)):=List.getElem?_eq_getElem _
  generalize (keys (Alarm.due s.E1 now))[i]'(by omega)=k at hki
  refine Ng.at hki (remove_ok Hg smg k fun g3 X3 H3 st3=>⟨rfl,H3.bump3 ?_ fun g4 H4 st4=> ?_⟩)
  ·show(((keys (Alarm.due s.E1 now)).take i).foldl remOver { s with E1:=Alarm.rest s.E1 now }).over≤100000
   rw[over_fold,List.length_take]
   show s.over+_≤100000
   omega
  ·rw[wrap_id (by omega) (by omega)]
   refine⟨⟨i+1,X3,by omega,by omega, ?_,stg.trans (st3.trans st4),(Ng.step st3).step st4⟩,by show(Alarm.due s.E1 now).length - Int.toNat ((i:Int)+1)<(Alarm.due s.E1 now).length - i;omega⟩
   rw[take_foldl hki]
   exact H4
 ·rw[if_neg (by simp;omega)]
  obtain rfl:i=(Alarm.due s.E1 now).length:=by omega
  have ta:(keys (Alarm.due s.E1 now)).take (Alarm.due s.E1 now).length=keys (Alarm.due s.E1 now):=List.take_of_length_le (by omega)
  rw[ta] at Hg smg
  have hE1:Held ((keys (Alarm.due s.E1 now)).foldl remOver { s with E1:=Alarm.rest s.E1 now }):=held_fold _ _ hE
  generalize hs1:(keys (Alarm.due s.E1 now)).foldl remOver { s with E1:=Alarm.rest s.E1 now } =s1 at Hg smg hE1
  refine Hg.ring2 smg now fun h6 X6 p6 c6 H6 st6 o6 g6=>⟨_,_,_,rfl, ?_⟩
  have kl6:(keys (Alarm.due s1.E2 now)).length=(Alarm.due s1.E2 now).length:=by unfold keys;rw[List.length_map]
  have sm6:Small { s1 with E2:=Alarm.rest s1.E2 now } :=⟨smg.n,smg.l,smg.e1,Nat.le_trans (rest_len _ _) smg.e2⟩
  have N6:Nums h6 X6 p6 (Alarm.due s1.E2 now).length c6 (keys (Alarm.due s1.E2 now)):=⟨o6,kl6.symm,fun y hy=>(g6 y hy).2⟩
  have hd6:=smg.e2
  have hdl6:(Alarm.due s1.E2 now).length≤s1.E2.length:=(List.takeWhile_sublist _).length_le
  refine⟨fun u g=> ∃(i:Nat) (Xg:Ft),u=(i:Int)∧i≤(Alarm.due s1.E2 now).length∧Ct g t Xg (((keys (Alarm.due s1.E2 now)).take i).foldl (fun s k=>freeF s k.toNat) { s1 with E2:=Alarm.rest s1.E2 now })∧StepF X h Xg g∧Nums g Xg p6 (Alarm.due s1.E2 now).length c6 (keys (Alarm.due s1.E2 now))∧Nums g Xg p2 (Alarm.due s.E1 now).length c2 (keys (Alarm.due s.E1 now)),fun u _=>(Alarm.due s1.E2 now).length - u.toNat,⟨0,X6,rfl,Nat.zero_le _,H6,stg.trans st6,N6,Ng.step st6⟩, ?_⟩
  rintro _ g7 ⟨j,X7,rfl,hj,H7,st7,N7,M7⟩
  have sm7:=foldl_small (f:=fun s k=>freeF s k.toNat) (fun s k h=>h.free k.toNat) ((keys (Alarm.due s1.E2 now)).take j) _ sm6
  by_cases hlt:j<(Alarm.due s1.E2 now).length
  ·rw[if_pos (decide_eq_true (by omega))]
   have hki:(keys (Alarm.due s1.E2 now))[j]? =some ((keys (Alarm.due s1.E2 now))[j]'(by omega)):=List.getElem?_eq_getElem _
   generalize (keys (Alarm.due s1.E2 now))[j]'(by omega)=k at hki
   have hkm:k∈keys s1.E2:=by
    have h1:=List.mem_of_getElem? hki
    unfold keys at h1⊢
    obtain⟨e,he,rfl⟩:=List.mem_map.1 h1
    exact List.mem_map_of_mem ((List.takeWhile_sublist _).subset he)
   obtain⟨z,hz,ez⟩:=hE1 k hkm
   obtain⟨y,hy,ey⟩:=free_nums ((keys (Alarm.due s1.E2 now)).take j) { s1 with E2:=Alarm.rest s1.E2 now } z hz
   have eyk:k=(y.num:Int):=by rw[ey];exact ez.symm
   refine N7.at hki ?_
   rw[eyk]
   refine free_ok H7 sm7 hy fun g8 X8 H8 st8=>⟨rfl, ?_⟩
   rw[wrap_id (by omega) (by omega)]
   refine⟨⟨j+1,X8,by omega,by omega, ?_,st7.trans st8,N7.step st8,M7.step st8⟩,by show(Alarm.due s1.E2 now).length - Int.toNat ((j:Int)+1)<(Alarm.due s1.E2 now).length - j;omega⟩
   rw[take_foldl hki,eyk,Int.toNat_natCast]
   exact H8
  ·rw[if_neg (by simp;omega)]
   obtain rfl:j=(Alarm.due s1.E2 now).length:=by omega
   rw[List.take_of_length_le (by omega)] at H7
   refine hk g7 X7 p2 c2 ?_ st7 M7 (fun y hy=>(g2 y hy).1)
   unfold passF
   rw[hs1]
   exact H7
def dropF (s:CF) (x:Ev):CF:=((ofL s.L x).map (fun z=>(z.num:Int))).foldl remGone s
end Cps
end Go.Proofs.YtgccegnmggjkjaaGreatDoor
set_option maxRecDepth 100000
namespace Go.Proofs.YtgccegnmggjkjaaGreatDoor
open Go.Den Go.Heapq
namespace Cps
open Eid Alarm Fld
variable {h h' : Heap} {R : Value → Heap → Prop} {t : Nat} {X : Ft} {s s' : CF} {m a1 a2 : Nat} {xs : List CV} {S1 S2 S1' S2' : Nat → Prop} {lab : Nat → Option Nat} {p : Option Addr} {n c : Nat}
abbrev Cp.val (z:Cp) (p:Option Addr) (c:Nat):Value:= .agg #[.int .i64 (z.num:Int), .bool z.e.ipn, .int .u64 z.e.node, .int .u64 z.e.svc, .string z.e.host, .string z.e.dem, .slice p z.d.length c, .int .u64 (z.till:Int), .int .i64 z.ses, .int .u64 (z.dl:Int)]
def mayS (ses:Int) (dl:Nat):Prop:=1≤ses∧ses≤1099511627776∧dl≤1099511627776
def leaseC (L:List Cp) (x:Ev):Option Cp:=(ofL L x).find? (fun z=>decide (z.ses=0))
def leaseF (s:CF) (z:Cp) (ses:Int) (dl:Nat):CF:= { s with L:=setC s.L z.num ses dl,E2:=setL s.E2 (z.num:Int) (dl:Int) }
end Cps
end Go.Proofs.YtgccegnmggjkjaaGreatDoor
set_option maxRecDepth 100000
namespace Go.Proofs.YtgccegnmggjkjaaGreatDoor
open Go.Den Go.Heapq
namespace Cps
open Eid Alarm Fld
variable {h h' : Heap} {t : Nat} {X X' : Ft} {s s' : CF} {p : Option Addr} {n c : Nat} {now : Int}
structure Ord (s:CF):Prop where
 nd:(s.L.map Cp.num).Nodup
 o1:Sorted s.E1
 o2:Sorted s.E2
 n1:(keys s.E1).Nodup
 n2:(keys s.E2).Nodup
theorem Ct.ord (H:Ct h t X s):Ord s:=by
 obtain⟨m,xs,a1,S1,a2,S2,lab,H⟩:=H
 refine⟨?_,H.al1.sorted,H.al2.sorted,H.al1.nodup,H.al2.nodup⟩
 rw[←H.abs,List.map_map]
 exact H.so.imp (fun h=>Nat.ne_of_lt h)
structure okC (s:CF):Prop where
 bd: ∀z∈s.L,1≤z.num∧z.num<s.next∧z.d.length≤600
 sp: ∀z∈s.L,0≤z.ses
 e1: ∀e,e∈s.E1↔ ∃z∈s.L,e=((z.num:Int),(z.till:Int))
 e2: ∀e,e∈s.E2↔ ∃z∈s.L,z.ses≠0∧e=((z.num:Int),(z.dl:Int))
 cnt:s.next=1+s.L.length+s.acked+s.over+s.gone
theorem Ord.inj (O:Ord s) {z y:Cp} (hz:z∈s.L) (hy:y∈s.L) (e:z.num=y.num):z=y:=by
 obtain⟨i,hi⟩:=List.getElem?_of_mem hz
 obtain⟨j,hj⟩:=List.getElem?_of_mem hy
 have li:=(List.getElem?_eq_some_iff.1 hi).1
 by_cases hij:i=j
 ·subst hij;rw[hi] at hj;exact Option.some.inj hj
 ·exfalso
  have h1:(s.L.map Cp.num)[i]? =some z.num:=by rw[List.getElem?_map,hi];rfl
  have h2:(s.L.map Cp.num)[j]? =some y.num:=by rw[List.getElem?_map,hj];rfl
  have:i=j:=(List.getElem?_inj (by rw[List.length_map];exact li) O.nd).1 (h1.trans ((congrArg some e).trans h2.symm))
  exact hij this
theorem dropK_mem {L:List E} {k:Int} {e:E} :e∈dropK L k↔e∈L∧e.1≠k:=by unfold dropK;simp[List.mem_filter]
theorem setL_mem {L:List E} {k v:Int} {e:E} :e∈setL L k v↔e=(k,v)∨(e∈L∧e.1≠k):=by
 unfold setL
 rw[(insertS_perm _ _).mem_iff,List.mem_cons,dropK_mem]
theorem delL_mem {L:List Cp} {k:Int} {z:Cp} :z∈delL L k↔z∈L∧(z.num:Int)≠k:=by unfold delL;simp[List.mem_filter]
theorem setC_mem {L:List Cp} {n:Nat} {a:Int} {b:Nat} {z:Cp} :z∈setC L n a b↔ ∃y∈L,z=if y.num=n then { y with ses:=a,dl:=b } else y:=by
 unfold setC;rw[List.mem_map]
 exact⟨fun⟨y,h1,h2⟩=>⟨y,h1,h2.symm⟩,fun⟨y,h1,h2⟩=>⟨y,h1,h2.symm⟩⟩
theorem setC_len (L:List Cp) (n:Nat) (a:Int) (b:Nat):(setC L n a b).length=L.length:=by unfold setC;rw[List.length_map]
theorem del_len: ∀ {L:List Cp},(L.map Cp.num).Nodup→ ∀ {z:Cp},z∈L→(delL L (z.num:Int)).length+1=L.length
 | [],_,z,hz=>by cases hz
 |y::l,nd,z,hz=>by
  rw[List.map_cons,List.nodup_cons] at nd
  unfold delL
  rw[List.filter_cons]
  rcases List.mem_cons.1 hz with rfl|hz
  ·rw[if_neg (by simp),List.filter_eq_self.2 (fun x hx=> ?_),List.length_cons]
   have:x.num≠z.num:=fun e=>nd.1 (by rw[←e];exact List.mem_map_of_mem hx)
   simp;omega
  ·have hne:y.num≠z.num:=fun e=>nd.1 (by rw[e];exact List.mem_map_of_mem hz)
   rw[if_pos (by simp;omega),List.length_cons,List.length_cons]
   have:=del_len nd.2 hz
   unfold delL at this
   omega
theorem okC.add (ok:okC s) (x:Ev) (d:List UInt8) (till:Nat):okC (addF s x d till):=by
 unfold addF
 by_cases he:addE s x d till=0
 ·rw[if_pos he]
  have hd:d.length≤600:=by
   unfold addE at he
   split at he
   ·rename_i hm
    unfold mayC at hm
    simp only[Bool.and_eq_true,decide_eq_true_eq] at hm
    exact hm.2.2.2.1
   ·cases he
  refine⟨fun z hz=> ?_,fun z hz=> ?_,fun e=> ?_,fun e=> ?_, ?_⟩
  ·rcases List.mem_append.1 hz with hz|hz
   ·have:=ok.bd z hz;exact⟨this.1,Nat.lt_succ_of_lt this.2.1,this.2.2⟩
   ·obtain rfl:=List.mem_singleton.1 hz
    exact⟨by have:=ok.cnt;show 1≤s.next;omega,Nat.lt_succ_self _,hd⟩
  ·rcases List.mem_append.1 hz with hz|hz
   ·exact ok.sp z hz
   ·obtain rfl:=List.mem_singleton.1 hz
    exact Int.le_refl _
  ·show e∈setL s.E1 _ _↔ ∃z∈s.L++ [_],_
   rw[setL_mem,ok.e1]
   constructor
   ·rintro(rfl|⟨⟨z,hz,rfl⟩,_⟩)
    ·exact⟨_,List.mem_append.2 (.inr (List.mem_singleton.2 rfl)),rfl⟩
    ·exact⟨z,List.mem_append.2 (.inl hz),rfl⟩
   ·rintro⟨z,hz,rfl⟩
    rcases List.mem_append.1 hz with hz|hz
    ·exact .inr ⟨⟨z,hz,rfl⟩,by have:=(ok.bd z hz).2.1;show(z.num:Int)≠_;omega⟩
    ·obtain rfl:=List.mem_singleton.1 hz;exact .inl rfl
  ·show e∈s.E2↔ ∃z∈s.L++ [_],_
   rw[ok.e2]
   constructor
   ·rintro⟨z,hz,h2⟩;exact⟨z,List.mem_append.2 (.inl hz),h2⟩
   ·rintro⟨z,hz,h2⟩
    rcases List.mem_append.1 hz with hz|hz
    ·exact⟨z,hz,h2⟩
    ·obtain rfl:=List.mem_singleton.1 hz;exact absurd rfl h2.1
  ·have:=ok.cnt
   show s.next+1=1+(s.L++ [_]).length+s.acked+s.over+s.gone
   rw[List.length_append,List.length_singleton];omega
 ·rw[if_neg he];exact ok
theorem okC.rem (ok:okC s) (O:Ord s) {z:Cp} (hz:z∈s.L) (hL:s'.L=delL s.L (z.num:Int)) (h1:s'.E1=dropK s.E1 (z.num:Int)) (h2:s'.E2=dropK s.E2 (z.num:Int)) (hn:s'.next=s.next) (hc:s'.acked+s'.over+s'.gone=s.acked+s.over+s.gone+1):okC s':=by
 refine⟨fun y hy=> ?_,fun y hy=> ?_,fun e=> ?_,fun e=> ?_, ?_⟩
 ·rw[hL,delL_mem] at hy;rw[hn];exact ok.bd y hy.1
 ·rw[hL,delL_mem] at hy;exact ok.sp y hy.1
 ·rw[h1,dropK_mem,ok.e1,hL]
  constructor
  ·rintro⟨⟨y,hy,rfl⟩,hne⟩;exact⟨y,delL_mem.2 ⟨hy,hne⟩,rfl⟩
  ·rintro⟨y,hy,rfl⟩;have:=delL_mem.1 hy;exact⟨⟨y,this.1,rfl⟩,this.2⟩
 ·rw[h2,dropK_mem,ok.e2,hL]
  constructor
  ·rintro⟨⟨y,hy,hs,rfl⟩,hne⟩;exact⟨y,delL_mem.2 ⟨hy,hne⟩,hs,rfl⟩
  ·rintro⟨y,hy,hs,rfl⟩;have:=delL_mem.1 hy;exact⟨⟨y,this.1,hs,rfl⟩,this.2⟩
 ·have:=del_len O.nd hz
  have:=ok.cnt
  rw[hn,hL];omega
theorem findE_ok {L:List Cp} {k ses:Int} (h:findE L k ses=0): ∃z∈L,(z.num:Int)=k∧z.ses=ses∧ses≠0:=by
 unfold findE at h
 cases hg:getC L k with
 |none=>rw[hg] at h;cases h
 |some z=>
  rw[hg] at h
  dsimp only at h
  split at h
  ·cases h
  ·rename_i hn
   obtain⟨h1,h2⟩:=getC_some hg
   refine⟨z,h1,h2, ?_, ?_⟩<;>(simp only[not_or,Decidable.not_not] at hn)
   ·exact hn.2
   ·rw[←hn.2];exact hn.1
theorem okC.ack (ok:okC s) (O:Ord s) (k ses:Int):okC (ackF s k ses):=by
 unfold ackF
 by_cases he:findE s.L k ses=0
 ·rw[if_pos he]
  obtain⟨z,hz,rfl,_,_⟩:=findE_ok he
  exact ok.rem O hz rfl rfl rfl rfl (by show s.acked+1+s.over+s.gone=_;omega)
 ·rw[if_neg he];exact ok
theorem okC.set (ok:okC s) (O:Ord s) {z:Cp} (hz:z∈s.L) {a:Int} {b:Nat} (ha:0≤a) (hL:s'.L=setC s.L z.num a b) (h1:s'.E1=s.E1) (h2: ∀e,e∈s'.E2↔(a≠0∧e=((z.num:Int),(b:Int)))∨(e∈s.E2∧e.1≠(z.num:Int))) (hn:s'.next=s.next) (hc:s'.acked+s'.over+s'.gone=s.acked+s.over+s.gone):okC s':=by
 refine⟨fun y hy=> ?_,fun y hy=> ?_,fun e=> ?_,fun e=> ?_, ?_⟩
 ·rw[hL,setC_mem] at hy
  obtain⟨u,hu,rfl⟩:=hy
  rw[hn]
  have:=ok.bd u hu
  split<;>exact this
 ·rw[hL,setC_mem] at hy
  obtain⟨u,hu,rfl⟩:=hy
  split
  ·exact ha
  ·exact ok.sp u hu
 ·rw[h1,ok.e1,hL]
  constructor
  ·rintro⟨y,hy,rfl⟩
   refine⟨_,setC_mem.2 ⟨y,hy,rfl⟩, ?_⟩
   split<;>rfl
  ·rintro⟨y,hy,rfl⟩
   obtain⟨u,hu,rfl⟩:=setC_mem.1 hy
   refine⟨u,hu, ?_⟩
   split<;>rfl
 ·rw[h2,ok.e2,hL]
  constructor
  ·rintro(⟨h3,rfl⟩|⟨⟨y,hy,h4,rfl⟩,h5⟩)
   ·refine⟨_,setC_mem.2 ⟨z,hz,rfl⟩, ?_⟩
    rw[if_pos rfl];exact⟨h3,rfl⟩
   ·refine⟨_,setC_mem.2 ⟨y,hy,rfl⟩, ?_⟩
    rw[if_neg (fun e=>h5 (by rw[e]))];exact⟨h4,rfl⟩
  ·rintro⟨y,hy,h4,rfl⟩
   obtain⟨u,hu,rfl⟩:=setC_mem.1 hy
   by_cases e:u.num=z.num
   ·rw[if_pos e] at h4⊢
    exact .inl ⟨h4,by rw[←e]⟩
   ·rw[if_neg e] at h4⊢
    exact .inr ⟨⟨u,hu,h4,rfl⟩,by show(u.num:Int)≠_;omega⟩
 ·have:=ok.cnt
  rw[hn,hL,setC_len];omega
theorem okC.rel (ok:okC s) (O:Ord s) (k ses:Int):okC (relF s k ses):=by
 unfold relF
 by_cases he:findE s.L k ses=0
 ·rw[if_pos he]
  obtain⟨z,hz,rfl,_,_⟩:=findE_ok he
  rw[Int.toNat_natCast]
  refine ok.set O hz (Int.le_refl 0) rfl rfl (fun e=> ?_) rfl rfl
  show e∈dropK _ _↔_
  rw[dropK_mem]
  simp
 ·rw[if_neg he];exact ok
theorem leaseC_mem {L:List Cp} {x:Ev} {z:Cp} (h:leaseC L x=some z):z∈L∧z.e=x∧z.ses=0:=by
 unfold leaseC ofL at h
 have h1:=List.mem_of_find?_eq_some h
 have h2:=List.find?_some h
 rw[List.mem_filter] at h1
 exact⟨h1.1,by simpa using h1.2,by simpa using h2⟩
theorem okC.lease (ok:okC s) (O:Ord s) {z:Cp} (hz:z∈s.L) {ses:Int} {dl:Nat} (hm:mayS ses dl):okC (leaseF s z ses dl):=by
 have h1:=hm.1
 refine ok.set O hz (by omega) rfl rfl (fun e=> ?_) rfl rfl
 show e∈setL _ _ _↔_
 rw[setL_mem]
 have:ses≠0:=by omega
 simp[this]
end Cps
end Go.Proofs.YtgccegnmggjkjaaGreatDoor
set_option maxRecDepth 100000
namespace Go.Proofs.YtgccegnmggjkjaaGreatDoor
open Go.Den Go.Heapq
namespace Cps
open Eid Alarm Fld
variable {h h' : Heap} {t : Nat} {X X' : Ft} {s s' : CF} {p : Option Addr} {n c : Nat} {now : Int}
theorem sorted_split: ∀ {L:List E},Sorted L→Alarm.due L now=L.filter (isDue now)∧Alarm.rest L now=L.filter (fun e=> !isDue now e)
 | [],_=>⟨rfl,rfl⟩
 |e::r,hs=>by
  have hs':=List.pairwise_cons.1 hs
  obtain⟨i1,i2⟩:=sorted_split (L:=r) hs'.2
  unfold Alarm.due at i1⊢
  unfold Alarm.rest at i2⊢
  by_cases he:isDue now e=true
  ·rw[List.takeWhile_cons,List.dropWhile_cons,List.filter_cons,List.filter_cons,he]
   simp only[if_true,Bool.not_true,Bool.false_eq_true,if_false]
   rw[i1,i2]
   exact⟨rfl,rfl⟩
  ·have he':isDue now e=false:=by simpa using he
   have all: ∀x∈r,isDue now x=false:=by
    intro x hx
    have h1:=hs'.1 x hx
    unfold isDue at he'⊢
    have h2:=of_decide_eq_false he'
    apply decide_eq_false
    rcases h1 with h1|h1<;>omega
   rw[List.takeWhile_cons,List.dropWhile_cons,List.filter_cons,List.filter_cons,he']
   simp only[Bool.false_eq_true,if_false,Bool.not_false,if_true]
   refine⟨?_, ?_⟩
   ·symm;rw[List.filter_eq_nil_iff];intro x hx;rw[all x hx];simp
   ·congr 1;symm;rw[List.filter_eq_self];intro x hx;rw[all x hx];rfl
def outC (L:List Cp) (ks:List Int):List Cp:=L.filter (fun z=> !decide ((z.num:Int)∈ks))
def outE (L:List E) (ks:List Int):List E:=L.filter (fun e=> !decide (e.1∈ks))
theorem outC_nil (L:List Cp):outC L []=L:=by unfold outC;exact List.filter_eq_self.2 (fun _ _=>by simp)
theorem outE_nil (L:List E):outE L []=L:=by unfold outE;exact List.filter_eq_self.2 (fun _ _=>by simp)
theorem outC_cons (L:List Cp) (k:Int) (ks:List Int):outC (delL L k) ks=outC L (k::ks):=by
 unfold outC delL
 rw[List.filter_filter]
 apply List.filter_congr
 intro x _
 by_cases h1:(x.num:Int)=k
 ·simp[h1]
 ·by_cases h2:(x.num:Int)∈ks<;>simp[h1,h2]
theorem outE_cons (L:List E) (k:Int) (ks:List Int):outE (dropK L k) ks=outE L (k::ks):=by
 unfold outE dropK
 rw[List.filter_filter]
 apply List.filter_congr
 intro x _
 by_cases h1:x.1=k
 ·simp[h1]
 ·by_cases h2:x.1∈ks<;>simp[h1,h2]
theorem fold_over: ∀(ks:List Int) (s:CF),ks.foldl remOver s= { s with L:=outC s.L ks,E1:=outE s.E1 ks,E2:=outE s.E2 ks,over:=s.over+ks.length }
 | [],s=>by rw[outC_nil,outE_nil,outE_nil];rfl
 |k::ks,s=>by
  rw[List.foldl_cons,fold_over ks]
  unfold remOver remF
  dsimp only
  rw[outC_cons,outE_cons,outE_cons,List.length_cons]
  congr 1;omega
theorem fold_gone: ∀(ks:List Int) (s:CF),ks.foldl remGone s= { s with L:=outC s.L ks,E1:=outE s.E1 ks,E2:=outE s.E2 ks,gone:=s.gone+ks.length }
 | [],s=>by rw[outC_nil,outE_nil,outE_nil];rfl
 |k::ks,s=>by
  rw[List.foldl_cons,fold_gone ks]
  unfold remGone remF
  dsimp only
  rw[outC_cons,outE_cons,outE_cons,List.length_cons]
  congr 1;omega
def freeC (L:List Cp) (ks:List Int):List Cp:=L.map (fun z=>if(z.num:Int)∈ks then { z with ses:=0,dl:=0 } else z)
theorem fold_free: ∀(ks:List Int) (s:CF),(∀k∈ks,0≤k)→ks.foldl (fun s k=>freeF s k.toNat) s= { s with L:=freeC s.L ks,E2:=outE s.E2 ks }
 | [],s,_=>by
  rw[outE_nil]
  have:freeC s.L []=s.L:=by unfold freeC;simp
  rw[this];rfl
 |k::ks,s,hp=>by
  rw[List.foldl_cons,fold_free ks _ (fun j hj=>hp j (List.mem_cons_of_mem _ hj))]
  have hk:=hp k (by simp)
  unfold freeF
  dsimp only
  have e:((k.toNat:Nat):Int)=k:=by omega
  rw[e,outE_cons]
  have:freeC (setC s.L k.toNat 0 0) ks=freeC s.L (k::ks):=by
   unfold freeC setC
   rw[List.map_map]
   apply List.map_congr_left
   intro x _
   show(fun z:Cp=>if(z.num:Int)∈ks then({ z with ses:=0,dl:=0 } :Cp) else z) (if x.num=k.toNat then({ x with ses:=0,dl:=0 } :Cp) else x)=_
   by_cases h1:x.num=k.toNat
   ·have h1':(x.num:Int)=k:=by omega
    rw[if_pos h1,if_pos (show(x.num:Int)∈k::ks by rw[h1'];simp)]
    dsimp only
    split<;>rfl
   ·have h1':(x.num:Int)≠k:=by omega
    rw[if_neg h1]
    dsimp only
    by_cases h2:(x.num:Int)∈ks
    ·rw[if_pos h2,if_pos (List.mem_cons_of_mem _ h2)]
    ·rw[if_neg h2,if_neg (by simp[h1',h2])]
  rw[this]
theorem out_len: ∀(ks:List Int) (L:List Cp),(L.map Cp.num).Nodup→ks.Nodup→(∀k∈ks,∃z∈L,(z.num:Int)=k)→(outC L ks).length+ks.length=L.length
 | [],L,_,_,_=>by rw[outC_nil];rfl
 |k::ks,L,nd,nk,hk=>by
  obtain⟨z,hz,rfl⟩:=hk k (by simp)
  rw[←outC_cons,List.length_cons]
  have h1:=del_len nd hz
  have nk':=List.nodup_cons.1 nk
  have h2:=out_len ks (delL L (z.num:Int)) (List.Pairwise.sublist (List.Sublist.map _ List.filter_sublist) nd) nk'.2 (fun j hj=>by
   obtain⟨y,hy,e⟩:=hk j (List.mem_cons_of_mem _ hj)
   exact⟨y,delL_mem.2 ⟨hy,fun e2=>nk'.1 (by rw[←e2,e];exact hj)⟩,e⟩)
  omega
theorem outC_mem {L:List Cp} {ks:List Int} {z:Cp} :z∈outC L ks↔z∈L∧(z.num:Int)∉ks:=by unfold outC;simp[List.mem_filter]
theorem outE_mem {L:List E} {ks:List Int} {e:E} :e∈outE L ks↔e∈L∧e.1∉ks:=by unfold outE;simp[List.mem_filter]
theorem freeC_mem {L:List Cp} {ks:List Int} {z:Cp} :z∈freeC L ks↔ ∃y∈L,z=if(y.num:Int)∈ks then { y with ses:=0,dl:=0 } else y:=by
 unfold freeC;rw[List.mem_map]
 exact⟨fun⟨y,h1,h2⟩=>⟨y,h1,h2.symm⟩,fun⟨y,h1,h2⟩=>⟨y,h1,h2.symm⟩⟩
theorem of_nodup (O:Ord s) (x:Ev):((ofL s.L x).map (fun z=>(z.num:Int))).Nodup:=by
 have:((ofL s.L x).map Cp.num).Nodup:=List.Pairwise.sublist (List.Sublist.map _ List.filter_sublist) O.nd
 have e:(ofL s.L x).map (fun z=>(z.num:Int))=((ofL s.L x).map Cp.num).map (fun n:Nat=>(n:Int)):=by rw[List.map_map];rfl
 rw[e]
 exact List.Pairwise.map _ (fun a b h=>by omega) this
theorem okC.outs (ok:okC s) (O:Ord s) {ks:List Int} (nk:ks.Nodup) (hk: ∀k∈ks,∃z∈s.L,(z.num:Int)=k) (hL:s'.L=outC s.L ks) (h1:s'.E1=outE s.E1 ks) (h2:s'.E2=outE s.E2 ks) (hn:s'.next=s.next) (hc:s'.acked+s'.over+s'.gone=s.acked+s.over+s.gone+ks.length):okC s':=by
 refine⟨fun y hy=> ?_,fun y hy=> ?_,fun e=> ?_,fun e=> ?_, ?_⟩
 ·rw[hL,outC_mem] at hy;rw[hn];exact ok.bd y hy.1
 ·rw[hL,outC_mem] at hy;exact ok.sp y hy.1
 ·rw[h1,outE_mem,ok.e1,hL]
  constructor
  ·rintro⟨⟨y,hy,rfl⟩,hne⟩;exact⟨y,outC_mem.2 ⟨hy,hne⟩,rfl⟩
  ·rintro⟨y,hy,rfl⟩;have:=outC_mem.1 hy;exact⟨⟨y,this.1,rfl⟩,this.2⟩
 ·rw[h2,outE_mem,ok.e2,hL]
  constructor
  ·rintro⟨⟨y,hy,hs,rfl⟩,hne⟩;exact⟨y,outC_mem.2 ⟨hy,hne⟩,hs,rfl⟩
  ·rintro⟨y,hy,hs,rfl⟩;have:=outC_mem.1 hy;exact⟨⟨y,this.1,hs,rfl⟩,this.2⟩
 ·have:=out_len ks s.L O.nd nk hk
  have:=ok.cnt
  rw[hn,hL];omega
theorem okC.drop (ok:okC s) (O:Ord s) (x:Ev):okC (dropF s x):=by
 unfold dropF
 rw[fold_gone]
 refine ok.outs O (of_nodup O x) (fun k hk=> ?_) rfl rfl rfl rfl (by show s.acked+s.over+(s.gone+_)=_;omega)
 obtain⟨z,hz,e⟩:=List.mem_map.1 hk
 exact⟨z,(List.mem_filter.1 hz).1,e⟩
theorem due_mem (O:Ord s) {e:E} :e∈Alarm.due s.E1 now↔e∈s.E1∧e.2≤now:=by
 rw[(sorted_split O.o1).1,List.mem_filter]
 unfold isDue
 simp
theorem due_nodup (O:Ord s) (now:Int):(keys (Alarm.due s.E1 now)).Nodup:=by
 unfold keys
 exact List.Pairwise.sublist (List.Sublist.map _ (List.takeWhile_sublist _)) O.n1
theorem due_num (ok:okC s) (O:Ord s) {z:Cp} (hz:z∈s.L):(z.num:Int)∈keys (Alarm.due s.E1 now)↔(z.till:Int)≤now:=by
 unfold keys
 rw[List.mem_map]
 constructor
 ·rintro⟨e,he,e1⟩
  obtain⟨h1,h2⟩:=(due_mem O).1 he
  obtain⟨y,hy,rfl⟩:=(ok.e1 e).1 h1
  obtain rfl:=O.inj hy hz (Int.ofNat.inj e1)
  exact h2
 ·intro h;exact⟨(z.num,z.till),(due_mem O).2 ⟨(ok.e1 _).2 ⟨z,hz,rfl⟩,h⟩,rfl⟩
theorem due_in (ok:okC s) (O:Ord s) {k:Int} (hk:k∈keys (Alarm.due s.E1 now)): ∃z∈s.L,(z.num:Int)=k:=by
 unfold keys at hk
 obtain⟨e,he,rfl⟩:=List.mem_map.1 hk
 obtain⟨z,hz,rfl⟩:=(ok.e1 e).1 ((due_mem O).1 he).1
 exact⟨z,hz,rfl⟩
theorem outE_rest (O:Ord s):outE (Alarm.rest s.E1 now) (keys (Alarm.due s.E1 now))=outE s.E1 (keys (Alarm.due s.E1 now)):=by
 rw[(sorted_split O.o1).1,(sorted_split O.o1).2]
 unfold outE keys
 rw[List.filter_filter]
 apply List.filter_congr
 intro e he
 by_cases hd:isDue now e=true
 ·have:e.1∈(s.E1.filter (isDue now)).map (·.1):=List.mem_map_of_mem (List.mem_filter.2 ⟨he,hd⟩)
  simp only[this,decide_true,Bool.not_true,Bool.false_and]
 ·simp[hd]
def freeZ (now:Int) (z:Cp):Cp:=if z.ses≠0∧(z.dl:Int)≤now then { z with ses:=0,dl:=0 } else z
def overF (s:CF) (now:Int):CF:= { L:=outC s.L (keys (Alarm.due s.E1 now)),next:=s.next,acked:=s.acked,over:=s.over+(keys (Alarm.due s.E1 now)).length,gone:=s.gone,E1:=outE s.E1 (keys (Alarm.due s.E1 now)),E2:=outE s.E2 (keys (Alarm.due s.E1 now)) }
def freeG (s1:CF) (now:Int):CF:=(keys (Alarm.due s1.E2 now)).foldl (fun s k=>freeF s k.toNat) { s1 with E2:=Alarm.rest s1.E2 now }
theorem passF_eq (O:Ord s):passF s now=freeG (overF s now) now:=by
 unfold passF freeG overF
 dsimp only
 rw[fold_over]
 dsimp only
 rw[outE_rest O]
theorem pass_all2 (ok:okC s) (O:Ord s) (now:Int):okC (passF s now)∧(∀z,z∈(passF s now).L↔ ∃y∈s.L,now<(y.till:Int)∧z=freeZ now y)∧(passF s now).next=s.next∧(passF s now).E1.length≤s.E1.length∧(passF s now).E2.length≤s.E2.length∧(passF s now).L=(s.L.filter (fun y=>decide (now<(y.till:Int)))).map (freeZ now)∧(passF s now).acked=s.acked∧(passF s now).over=s.over+(Alarm.due s.E1 now).length∧(passF s now).gone=s.gone:=by
 rw[passF_eq O]
 generalize hs1:overF s now=s1
 have ok1:okC s1:=by
  subst hs1
  exact ok.outs O (due_nodup O now) (fun k hk=>due_in ok O hk) rfl rfl rfl rfl (by show s.acked+(s.over+_)+s.gone=_;omega)
 have O1:Ord s1:=by
  subst hs1
  exact⟨List.Pairwise.sublist (List.Sublist.map _ List.filter_sublist) O.nd,List.Pairwise.filter _ O.o1,List.Pairwise.filter _ O.o2,List.Pairwise.sublist (List.Sublist.map _ List.filter_sublist) O.n1,List.Pairwise.sublist (List.Sublist.map _ List.filter_sublist) O.n2⟩
 have m1: ∀z,z∈s1.L↔z∈s.L∧now<(z.till:Int):=fun z=>by
  subst hs1
  show z∈outC _ _↔_
  rw[outC_mem]
  constructor
  ·rintro⟨h1,h2⟩;exact⟨h1,Int.not_le.1 (fun e=>h2 ((due_num ok O h1).2 e))⟩
  ·rintro⟨h1,h2⟩;exact⟨h1,fun e=>absurd ((due_num ok O h1).1 e) (Int.not_le.2 h2)⟩
 have n1:s1.next=s.next:=by subst hs1;rfl
 have l1:s1.E1.length≤s.E1.length:=by subst hs1;exact List.length_filter_le _ _
 have l2:s1.E2.length≤s.E2.length:=by subst hs1;exact List.length_filter_le _ _
 have c1:s1.acked=s.acked∧s1.over=s.over+(Alarm.due s.E1 now).length∧s1.gone=s.gone:=by subst hs1;exact⟨rfl,by show s.over+(keys _).length=_;unfold keys;rw[List.length_map],rfl⟩
 have L1:s1.L=s.L.filter (fun y=>decide (now<(y.till:Int))):=by
  subst hs1
  show outC _ _=_
  unfold outC
  refine List.filter_congr fun z hz=> ?_
  have:=due_num (now:=now) ok O hz
  by_cases hd:(z.till:Int)≤now
  ·rw[decide_eq_true (this.2 hd),decide_eq_false (Int.not_lt.2 hd)];rfl
  ·rw[decide_eq_false (fun e=>hd (this.1 e)),decide_eq_true (Int.not_le.1 hd)];rfl
 clear hs1
 have dm: ∀e,e∈Alarm.due s1.E2 now↔e∈s1.E2∧e.2≤now:=fun e=>by
  rw[(sorted_split O1.o2).1,List.mem_filter];unfold isDue;simp
 have dn: ∀z∈s1.L,((z.num:Int)∈keys (Alarm.due s1.E2 now)↔z.ses≠0∧(z.dl:Int)≤now):=fun z hz=>by
  unfold keys
  rw[List.mem_map]
  constructor
  ·rintro⟨e,he,e1⟩
   obtain⟨h1,h2⟩:=(dm e).1 he
   obtain⟨y,hy,hs,rfl⟩:=(ok1.e2 e).1 h1
   obtain rfl:=O1.inj hy hz (Int.ofNat.inj e1)
   exact⟨hs,h2⟩
  ·rintro⟨h1,h2⟩;exact⟨(z.num,z.dl),(dm _).2 ⟨(ok1.e2 _).2 ⟨z,hz,h1,rfl⟩,h2⟩,rfl⟩
 have dp: ∀k∈keys (Alarm.due s1.E2 now),0≤k:=fun k hk=>by
  unfold keys at hk
  obtain⟨e,he,rfl⟩:=List.mem_map.1 hk
  obtain⟨z,hz,_,rfl⟩:=(ok1.e2 e).1 ((dm e).1 he).1
  show(0:Int)≤(z.num:Int);omega
 unfold freeG
 rw[fold_free _ _ dp]
 have fz: ∀z∈s1.L,(if(z.num:Int)∈keys (Alarm.due s1.E2 now) then({ z with ses:=0,dl:=0 } :Cp) else z)=freeZ now z:=fun z hz=>by
  unfold freeZ
  by_cases hd:z.ses≠0∧(z.dl:Int)≤now
  ·rw[if_pos hd,if_pos ((dn z hz).2 hd)]
  ·rw[if_neg hd,if_neg (fun e=>hd ((dn z hz).1 e))]
 have fm: ∀z,z∈freeC s1.L (keys (Alarm.due s1.E2 now))↔ ∃y∈s1.L,z=freeZ now y:=fun z=>by
  rw[freeC_mem]
  constructor
  ·rintro⟨y,hy,rfl⟩;exact⟨y,hy,fz y hy⟩
  ·rintro⟨y,hy,rfl⟩;exact⟨y,hy,(fz y hy).symm⟩
 have fnum: ∀y,(freeZ now y).num=y.num:=fun y=>by unfold freeZ;split<;>rfl
 have ftill: ∀y,(freeZ now y).till=y.till:=fun y=>by unfold freeZ;split<;>rfl
 have fd: ∀y,(freeZ now y).d=y.d:=fun y=>by unfold freeZ;split<;>rfl
 refine⟨⟨fun z hz=> ?_,fun z hz=> ?_,fun e=> ?_,fun e=> ?_, ?_⟩,fun z=> ?_,n1,l1, ?_, ?_,c1⟩
 ·obtain⟨y,hy,rfl⟩:=(fm z).1 hz
  rw[fnum,fd];exact ok1.bd y hy
 ·obtain⟨y,hy,rfl⟩:=(fm z).1 hz
  unfold freeZ
  split
  ·exact Int.le_refl _
  ·exact ok1.sp y hy
 ·show e∈s1.E1↔ ∃z∈freeC _ _,_
  rw[ok1.e1]
  constructor
  ·rintro⟨y,hy,rfl⟩;exact⟨_,(fm _).2 ⟨y,hy,rfl⟩,by rw[fnum,ftill]⟩
  ·rintro⟨z,hz,rfl⟩
   obtain⟨y,hy,rfl⟩:=(fm z).1 hz
   exact⟨y,hy,by rw[fnum,ftill]⟩
 ·show e∈outE (Alarm.rest s1.E2 now) _↔ ∃z∈freeC _ _,_
  rw[outE_mem,(sorted_split O1.o2).2,List.mem_filter]
  constructor
  ·rintro⟨⟨h1,h2⟩,h3⟩
   obtain⟨y,hy,hs,rfl⟩:=(ok1.e2 e).1 h1
   have hd: ¬(y.ses≠0∧(y.dl:Int)≤now):=fun hd=>h3 ((dn y hy).2 hd)
   refine⟨_,(fm _).2 ⟨y,hy,rfl⟩, ?_⟩
   unfold freeZ
   rw[if_neg hd]
   exact⟨hs,rfl⟩
  ·rintro⟨z,hz,hs,rfl⟩
   obtain⟨y,hy,rfl⟩:=(fm z).1 hz
   unfold freeZ at hs⊢
   by_cases hd:y.ses≠0∧(y.dl:Int)≤now
   ·rw[if_pos hd] at hs;exact absurd rfl hs
   ·rw[if_neg hd] at hs⊢
    refine⟨⟨(ok1.e2 _).2 ⟨y,hy,hs,rfl⟩, ?_⟩,fun hk=>hd ((dn y hy).1 hk)⟩
    have: ¬(y.dl:Int)≤now:=fun e=>hd ⟨hs,e⟩
    unfold isDue
    simpa using this
 ·have:=ok1.cnt
  show s1.next=1+(freeC _ _).length+_+_+_
  unfold freeC
  rw[List.length_map];exact this
 ·show z∈freeC _ _↔_
  rw[fm]
  constructor
  ·rintro⟨y,hy,rfl⟩;have:=(m1 y).1 hy;exact⟨y,this.1,this.2,rfl⟩
  ·rintro⟨y,hy,hn,rfl⟩;exact⟨y,(m1 y).2 ⟨hy,hn⟩,rfl⟩
 ·refine Nat.le_trans (List.length_filter_le _ _) (Nat.le_trans (rest_len _ _) l2)
 ·show freeC _ _=_
  rw[←L1]
  exact List.map_congr_left fz
end Cps
end Go.Proofs.YtgccegnmggjkjaaGreatDoor
set_option maxRecDepth 100000
set_option maxHeartbeats 4000000
namespace Go.Proofs.YtgccegnmggjkjaaGreatDoor
open Go.Den
variable {h : Heap} {R : Value → Heap → Prop}
theorem eid_Text.walk {x_0 : Bool} {x_1 : Int} {x_2 : Int} {x_3 : ByteArray} {x_4 : ByteArray} (hv :
 NewP h (.cells #[.bool x_0, .int .u64 x_1, .int .u64 x_2, .string x_3, .string x_4] T.eid_Eid) fun b h_1 =>
 eid_Eid.LD h_1 ⟨b, 0, none⟩ fun t5_0 t5_1 t5_2 t5_3 t5_4 =>
 Cl F.eid_Right #[.agg #[.bool t5_0, .int .u64 t5_1, .int .u64 t5_2, .string t5_3, .string t5_4]] h_1 fun v h_2 =>
 ∃ t6, v = .bool t6 ∧
 if (!t6) = true then
 R (.tuple #[.string (⟨#[]⟩ : ByteArray), .int .i64 3]) h_2
 else
 eid_Eid.LD h_2 ⟨b, 0, none⟩ fun t9_0 t9_1 t9_2 t9_3 t9_4 =>
 ∃ (eq : Bool), EqV Tryz.prog T.eid_Eid (.agg #[.bool t9_0, .int .u64 t9_1, .int .u64 t9_2, .string t9_3, .string t9_4]) (.agg #[.bool false, .int .u64 0, .int .u64 0, .string (⟨#[]⟩ : ByteArray), .string (⟨#[]⟩ : ByteArray)]) eq ∧
 if eq = true then
 R (.tuple #[.string (⟨#[100, 116, 110, 58, 110, 111, 110, 101]⟩ : ByteArray), .int .i64 0]) h_2
 else
 ∃ t14, hcell h_2 ⟨b, 0, none⟩ = some (.bool t14) ∧
 if t14 = true then
 ∃ t16, hcell h_2 ⟨b, 1, none⟩ = some (.int .u64 t16) ∧
 ∃ t21, hcell h_2 ⟨b, 2, none⟩ = some (.int .u64 t21) ∧
 Cl F.strconv_FormatUint #[.int .u64 t16, .int .i64 10] h_2 fun v_1 h_3 =>
 ∃ t17, v_1 = .string t17 ∧
 hcell h_3 ⟨b, 2, none⟩ = some (.int .u64 t21) ∧
 (((⟨#[105, 112, 110, 58]⟩ : ByteArray).size + t17.size : Nat) : Int) ≤ IntKind.max .i64 ∧
 ((((⟨#[105, 112, 110, 58]⟩ : ByteArray) ++ t17).size + (⟨#[46]⟩ : ByteArray).size : Nat) : Int) ≤ IntKind.max .i64 ∧
 Cl F.strconv_FormatUint #[.int .u64 t21, .int .i64 10] h_3 fun v_2 h_4 =>
 ∃ t22, v_2 = .string t22 ∧
 (((((⟨#[105, 112, 110, 58]⟩ : ByteArray) ++ t17) ++ (⟨#[46]⟩ : ByteArray)).size + t22.size : Nat) : Int) ≤ IntKind.max .i64 ∧
 R (.tuple #[.string ((((⟨#[105, 112, 110, 58]⟩ : ByteArray) ++ t17) ++ (⟨#[46]⟩ : ByteArray)) ++ t22), .int .i64 0]) h_4
 else
 eid_Eid.LD h_2 ⟨b, 0, none⟩ fun t24_0 t24_1 t24_2 t24_3 t24_4 =>
 Cl F.eid_path #[.agg #[.bool t24_0, .int .u64 t24_1, .int .u64 t24_2, .string t24_3, .string t24_4]] h_2 fun v_3 h_5 =>
 ∃ t25, v_3 = .string t25 ∧
 (((⟨#[100, 116, 110, 58]⟩ : ByteArray).size + t25.size : Nat) : Int) ≤ IntKind.max .i64 ∧
 R (.tuple #[.string ((⟨#[100, 116, 110, 58]⟩ : ByteArray) ++ t25), .int .i64 0]) h_5) : CallsH Tryz.prog F.eid_Text #[.agg #[.bool x_0, .int .u64 x_1, .int .u64 x_2, .string x_3, .string x_4]] h R :=
 callsH_of_body (.seq .leaf (.seq (.block (.seq .leaf (.cond (.seq .leaf .leaf) (.seq .leaf (.cond (.seq .leaf .leaf) (.seq .leaf (.cond (.seq (.plan (.op 0 (.op 1 (.op 5 (.op 6 (.op 2 (.op 3 (.op 4 (.op 7 (.op 8 (.op 9 (.op 10 .done)))))))))))) .leaf) .leaf))))))) (.seq .leaf .leaf))) Tryz.func130 rfl rfl (Eq.mp (by kernel_rfl) hv)
theorem eid_path.walk {x_0 : Bool} {x_1 : Int} {x_2 : Int} {x_3 : ByteArray} {x_4 : ByteArray} (hv :
 NewP h (.cells #[.bool x_0, .int .u64 x_1, .int .u64 x_2, .string x_3, .string x_4] T.eid_Eid) fun b h_1 =>
 ∃ t4, hcell h_1 ⟨b, 3, none⟩ = some (.string t4) ∧
 (((⟨#[47, 47]⟩ : ByteArray).size + t4.size : Nat) : Int) ≤ IntKind.max .i64 ∧
 ((((⟨#[47, 47]⟩ : ByteArray) ++ t4).size + (⟨#[47]⟩ : ByteArray).size : Nat) : Int) ≤ IntKind.max .i64 ∧
 ∃ t8, hcell h_1 ⟨b, 4, none⟩ = some (.string t8) ∧
 (((((⟨#[47, 47]⟩ : ByteArray) ++ t4) ++ (⟨#[47]⟩ : ByteArray)).size + t8.size : Nat) : Int) ≤ IntKind.max .i64 ∧
 R (.string ((((⟨#[47, 47]⟩ : ByteArray) ++ t4) ++ (⟨#[47]⟩ : ByteArray)) ++ t8)) h_1) : CallsH Tryz.prog F.eid_path #[.agg #[.bool x_0, .int .u64 x_1, .int .u64 x_2, .string x_3, .string x_4]] h R :=
 callsH_of_body (.seq .leaf (.seq .leaf .leaf)) Tryz.func177 rfl rfl (Eq.mp (by kernel_rfl) hv)
end Go.Proofs.YtgccegnmggjkjaaGreatDoor
set_option maxRecDepth 100000
namespace Go.Proofs.YtgccegnmggjkjaaGreatDoor
open Go.Den
namespace Eid
variable {h h' : Heap} {R : Value → Heap → Prop}
theorem nil_eq (s:ByteArray):(s.toList==(⟨#[]⟩:ByteArray).toList)=decide (s=⟨#[]⟩):=by
 by_cases e:s=⟨#[]⟩
 ·rw[decide_eq_true e];exact bytes_eq.2 e
 ·rw[decide_eq_false e]
  cases q:s.toList==(⟨#[]⟩:ByteArray).toList
  ·rfl
  ·exact absurd (bytes_eq.1 q) e
end Eid
end Go.Proofs.YtgccegnmggjkjaaGreatDoor
set_option maxRecDepth 100000
namespace Go.Proofs
open Go.Shelf
def Tryz.lays284_ren:Go.Shelf.Ren:=⟨fun|284=>229|129=>214|317=>254|318=>255|n=>n,fun|53=>23|3=>3|212=>350|0=>0|4=>4|46=>271|5=>5|9=>9|n=>n,fun|17=>0|n=>n⟩
theorem Tryz.lays284:Go.Proofs.LaysM.n284 Tryz.prog Tryz.lays284_ren:= {
 mixed:=by kernel_rfl
 f129:=Tryz.func214.trans (congrArg some (by kernel_rfl))
 f284:=Tryz.func229.trans (congrArg some (by kernel_rfl))
 f317:=Tryz.func254.trans (congrArg some (by kernel_rfl))
 f318:=Tryz.func255.trans (congrArg some (by kernel_rfl))
 t0:=Tryz.underlying0
 a0:=Tryz.isAgg0
 z0:=Tryz.sizeOf0
 v0:=Tryz.zeroValue0
 t3:=Tryz.underlying3
 a3:=Tryz.isAgg3
 z3:=Tryz.sizeOf3
 v3:=Tryz.zeroValue3
 t4:=Tryz.underlying4
 a4:=Tryz.isAgg4
 z4:=Tryz.sizeOf4
 v4:=Tryz.zeroValue4
 t5:=Tryz.underlying5
 a5:=Tryz.isAgg5
 z5:=Tryz.sizeOf5
 v5:=Tryz.zeroValue5
 t9:=Tryz.underlying9
 a9:=Tryz.isAgg9
 z9:=Tryz.sizeOf9
 v9:=Tryz.zeroValue9
 t46:=Tryz.underlying271
 a46:=Tryz.isAgg271
 z46:=Tryz.sizeOf271
 v46:=Tryz.zeroValue271
 t53:=Tryz.underlying23
 a53:=Tryz.isAgg23
 z53:=Tryz.sizeOf23
 v53:=Tryz.zeroValue23
 t212:=Tryz.underlying350
 a212:=Tryz.isAgg350
 z212:=Tryz.sizeOf350
 v212:=Tryz.zeroValue350
 g17:=by kernel_rfl
 i0:=by kernel_rfl
 i3:=by kernel_rfl
 i4:=by kernel_rfl
 i5:=by kernel_rfl
 i9:=by kernel_rfl
 i46:=by kernel_rfl
 i53:=by kernel_rfl
 i212:=by kernel_rfl
 m17:=by kernel_rfl }
def Tryz.lays285_ren:Go.Shelf.Ren:=⟨fun|285=>230|n=>n,fun|37=>34|53=>23|3=>3|4=>4|51=>314|9=>9|5=>5|0=>0|n=>n,fun|n=>n⟩
theorem Tryz.lays285:Go.Proofs.Lays.n285 Tryz.prog Tryz.lays285_ren:= {
 mixed:=by kernel_rfl
 f285:=Tryz.func230.trans (congrArg some (by kernel_rfl))
 t0:=Tryz.underlying0
 a0:=Tryz.isAgg0
 z0:=Tryz.sizeOf0
 v0:=Tryz.zeroValue0
 t3:=Tryz.underlying3
 a3:=Tryz.isAgg3
 z3:=Tryz.sizeOf3
 v3:=Tryz.zeroValue3
 t4:=Tryz.underlying4
 a4:=Tryz.isAgg4
 z4:=Tryz.sizeOf4
 v4:=Tryz.zeroValue4
 t5:=Tryz.underlying5
 a5:=Tryz.isAgg5
 z5:=Tryz.sizeOf5
 v5:=Tryz.zeroValue5
 t9:=Tryz.underlying9
 a9:=Tryz.isAgg9
 z9:=Tryz.sizeOf9
 v9:=Tryz.zeroValue9
 t37:=Tryz.underlying34
 a37:=Tryz.isAgg34
 z37:=Tryz.sizeOf34
 v37:=Tryz.zeroValue34
 t51:=Tryz.underlying314
 a51:=Tryz.isAgg314
 z51:=Tryz.sizeOf314
 v51:=Tryz.zeroValue314
 t53:=Tryz.underlying23
 a53:=Tryz.isAgg23
 z53:=Tryz.sizeOf23
 v53:=Tryz.zeroValue23 }
def Tryz.lays283_ren:Go.Shelf.Ren:=⟨fun|283=>228|n=>n,fun|3=>3|9=>9|4=>4|n=>n,fun|n=>n⟩
theorem Tryz.lays283:Go.Proofs.Lays.n283 Tryz.prog Tryz.lays283_ren:= {
 mixed:=by kernel_rfl
 f283:=Tryz.func228.trans (congrArg some (by kernel_rfl))
 t3:=Tryz.underlying3
 a3:=Tryz.isAgg3
 z3:=Tryz.sizeOf3
 v3:=Tryz.zeroValue3
 t4:=Tryz.underlying4
 a4:=Tryz.isAgg4
 z4:=Tryz.sizeOf4
 v4:=Tryz.zeroValue4
 t9:=Tryz.underlying9
 a9:=Tryz.isAgg9
 z9:=Tryz.sizeOf9
 v9:=Tryz.zeroValue9 }
end Go.Proofs
set_option maxRecDepth 100000
namespace Go.Proofs.YtgccegnmggjkjaaGreatDoor
open Go.Den
namespace Num
variable {h h' : Heap} {R : Value → Heap → Prop}
def Tab (h:Heap):Prop:= ∃t f,h[(0:Nat)]? =some (.cells (Lib.pow10Tab.map fun z=>Value.int .u64 z).toArray t f)
theorem Tab.frame {S:Nat→Prop} (T:Tab h) (f:Fr S h h') (hn: ∀c,c<h.size→ ¬S c):Tab h':=by
 obtain⟨t,fr,h2⟩:=T
 exact⟨t,fr,f.get h2 (hn _ (lt_of_get h2))⟩
theorem Tab.on (T:Tab h) (f:Fr (fun _=>False) h h'):Tab h':=T.frame f (fun _ _=>id)
theorem Tab.is {w:World} {s:String} (hs:Tryz.prog.globalNamed s=some 0) (T:Tab w.heap):Lib.TabIs Tryz.prog w s .u64 Lib.pow10Tab:=by
 obtain⟨t,fr,h2⟩:=T
 unfold Lib.TabIs World.var?
 rw[hs]
 show(match w.heap[(0:Nat)]? with|some (.cells cs _ _)=>some cs|_=>none)=_
 rw[h2]
theorem small_ok {i:Nat} (hi:i<100) (hk:R (.string ⟨(Lib.decDigits i).toArray⟩) h):CallsH Tryz.prog F.internal_strconv_small #[.int .i64 i] h R:=fun w hw=>
 (Any.internal_strconv_small Tryz.lays283 i hi w).mono fun e w' ⟨he,hw'⟩=>⟨_,he,by rw[hw',hw];exact hk,by rw[hw'];exact Same.refl _⟩
theorem digits_ok {u:Nat} (T:Tab h) (h1:1≤u) (h2:u<18446744073709551616) (hk:R (.int .i64 (Lib.nDigits u)) h):CallsH Tryz.prog F.internal_strconv_numDigits #[.int .u64 u] h R:=fun w hw=>
 (Any.internal_strconv_numDigits Tryz.lays284 u h1 h2 w (by rw[←hw] at T;exact T.is (by kernel_rfl))).mono fun e w' ⟨he,hw'⟩=>⟨_,he,by rw[hw',hw];exact hk,by rw[hw'];exact Same.refl _⟩
end Num
end Go.Proofs.YtgccegnmggjkjaaGreatDoor
set_option maxRecDepth 100000
set_option maxHeartbeats 4000000
namespace Go.Proofs.YtgccegnmggjkjaaGreatDoor
open Go.Den
variable {h : Heap} {R : Value → Heap → Prop}
theorem internal_strconv_FormatUint.walk {i : Int} {base : Int} (hv :
 if (base == 10) = true then
 if (decide (i < 100)) = true then
 Cl F.internal_strconv_small #[.int .i64 (IntKind.wrap .i64 i)] h fun v h_1 =>
 ∃ t15, v = .string t15 ∧
 R (.string t15) h_1
 else
 NewP h (.cells #[.int .u8 0, .int .u8 0, .int .u8 0, .int .u8 0, .int .u8 0, .int .u8 0, .int .u8 0, .int .u8 0, .int .u8 0, .int .u8 0, .int .u8 0, .int .u8 0, .int .u8 0, .int .u8 0, .int .u8 0, .int .u8 0, .int .u8 0, .int .u8 0, .int .u8 0, .int .u8 0, .int .u8 0, .int .u8 0, .int .u8 0, .int .u8 0] T.a24_uint8) fun b h_2 =>
 Cl F.internal_strconv_numDigits #[.int .u64 i] h_2 fun v_1 h_3 =>
 ∃ t17, v_1 = .int .i64 t17 ∧
 ((0 : Int) ≤ t17 ∧ t17 ≤ ((24 : Nat) : Int)) ∧
 Cl F.internal_strconv_formatBase10 #[.slice (slBase (some ⟨b, 0, none⟩) 24 0 1) ((Int.toNat t17) - 0) (24 - 0), .int .u64 i] h_3 fun v_2 h_4 =>
 v_2 = .tuple #[] ∧
 ((0 : Int) ≤ t17 ∧ t17 ≤ ((24 : Nat) : Int)) ∧
 ∃ (t24 : ByteArray), ConvV Tryz.prog T.s_uint8 T.string (.slice (slBase (some ⟨b, 0, none⟩) 24 0 1) ((Int.toNat t17) - 0) (24 - 0)) h_4 t24 ∧
 R (.string t24) h_4
 else
 Cl F.internal_strconv_formatBits #[.slice none 0 0, .int .u64 i, .int .i64 base, .bool false, .bool false] h fun v_3 h_5 =>
 ∃ t28_0_p t28_0_l t28_0_c t28_1, v_3 = .tuple #[.slice t28_0_p t28_0_l t28_0_c, .string t28_1] ∧
 R (.string t28_1) h_5) : CallsH Tryz.prog F.internal_strconv_FormatUint #[.int .u64 i, .int .i64 base] h R :=
 callsH_of_body (.seq .leaf (.seq (.seq .leaf (.cond (.seq (.seq .leaf (.cond (.seq .leaf .leaf) .leaf)) (.seq .leaf (.seq .leaf (.seq .leaf (.seq .leaf .leaf))))) .leaf)) (.seq .leaf (.seq .leaf .leaf)))) Tryz.func201 rfl rfl (Eq.mp (by kernel_rfl) hv)
theorem strconv_FormatUint.walk {i : Int} {base : Int} (hv :
 Cl F.internal_strconv_FormatUint #[.int .u64 i, .int .i64 base] h fun v h_1 =>
 ∃ t7, v = .string t7 ∧
 R (.string t7) h_1) : CallsH Tryz.prog F.strconv_FormatUint #[.int .u64 i, .int .i64 base] h R :=
 callsH_of_body (.seq .leaf (.seq .leaf .leaf)) Tryz.func176 rfl rfl (Eq.mp (by kernel_rfl) hv)
end Go.Proofs.YtgccegnmggjkjaaGreatDoor
set_option maxRecDepth 100000
namespace Go.Proofs.YtgccegnmggjkjaaGreatDoor
open Go.Den
namespace Num
variable {h h' : Heap} {R : Value → Heap → Prop}
theorem base10_ok {blk n u cap:Nat} {c:Array Value} {t:TypeId} (hb:h[blk]? =some (.cells c t (0,0))) (hz: ∀j,j<n→c[j]? =some (.int .u8 0)) (hu:u<10 ^ n) (hu64:u<18446744073709551616) (hn:n<100)
  (hk: ∀h' c' dk v',h'[blk]? =some (.cells c' t (0,0))→Lib.FmtInv n u 0 v' dk→(∀j,j<n→c'[j]? =some (.int .u8 ((dk[j]!).toNat:Int)))→h'.size=h.size→(∀x,x≠blk→h'[x]? =h[x]?)→R (.tuple #[]) h'):
  CallsH Tryz.prog F.internal_strconv_formatBase10 #[.slice (some ⟨blk,0,none⟩) n cap, .int .u64 u] h R:=fun w hw=>by
 subst hw
 have hH:Sort.Holds (fun(b:UInt8)=>Value.int .u8 (b.toNat:Int)) w blk 0 (Array.replicate n 0):=fun j hj=>by
  rw[Array.size_replicate] at hj
  refine⟨?_, ?_⟩
  ·rw[cell_eq,hcell_blk hb,Nat.zero_add,hz j hj]
   have:(Array.replicate n (0:UInt8))[j]! =0:=by simp[hj]
   rw[this];rfl
  ·rw[frozen_eq];exact hfrozen_blk hb
 have key:=Any.internal_strconv_formatBase10 Tryz.lays285 blk 0 cap u (Array.replicate n 0) w hH (by rw[Array.size_replicate];exact hu) hu64 (by rw[Array.size_replicate];omega)
 rw[Array.size_replicate] at key
 refine Calls.mono key fun e w' ⟨he,k,v',dk,hw',hF⟩=>⟨_,he, ?_, ?_⟩
 ·subst hw'
  have hh:((Sort.putRow (fun(b:UInt8)=>Value.int .u8 (b.toNat:Int)) w blk 0 dk).drewN k).heap=w.heap.modify blk (Sort.onCells (Sort.putCells (fun(b:UInt8)=>Value.int .u8 (b.toNat:Int)) 0 dk)):=rfl
  rw[hh]
  refine hk _ (Sort.putCells (fun(b:UInt8)=>Value.int .u8 (b.toNat:Int)) 0 dk c) dk v' ?_ hF (fun j hj=> ?_) (by simp) (fun x hx=>by rw[Array.getElem?_modify,if_neg (fun e=>hx e.symm)])
  ·rw[Array.getElem?_modify,if_pos rfl,hb];rfl
  ·unfold Sort.putCells
   rw[Array.getElem?_mapIdx,hz j hj,Option.map_some,if_pos ⟨Nat.zero_le _,by rw[hF.size];omega⟩,Nat.sub_zero]
 ·subst hw';exact⟨rfl,rfl,rfl⟩
theorem tS:Tryz.prog.underlying T.s_uint8=some (.slice T.uint8):=by kernel_rfl
theorem t8:Tryz.prog.underlying T.uint8=some (.int .u8):=by kernel_rfl
theorem tT:Tryz.prog.underlying T.string=some .string:=by kernel_rfl
theorem format_ok {u:Nat} (tb:Tab h) (hu:u<18446744073709551616) (hk: ∀h',Fr (fun _=>False) h h'→R (.string ⟨(Lib.decDigits u).toArray⟩) h'):CallsH Tryz.prog F.internal_strconv_FormatUint #[.int .u64 u, .int .i64 10] h R:=by
 refine internal_strconv_FormatUint.walk ?_
 rw[if_pos (by rfl)]
 by_cases h1:u<100
 ·rw[if_pos (decide_eq_true (by omega)),wrap_id (by omega) (by omega)]
  exact small_ok h1 ⟨_,rfl,hk h (Fr.refl _ _)⟩
 ·rw[if_neg (by simp;omega)]
  refine newP_of ?_
  generalize hcs:(#[.int .u8 0, .int .u8 0, .int .u8 0, .int .u8 0, .int .u8 0, .int .u8 0, .int .u8 0, .int .u8 0, .int .u8 0, .int .u8 0, .int .u8 0, .int .u8 0, .int .u8 0, .int .u8 0, .int .u8 0, .int .u8 0, .int .u8 0, .int .u8 0, .int .u8 0, .int .u8 0, .int .u8 0, .int .u8 0, .int .u8 0, .int .u8 0]:Array Value)=cs
  have hc0: ∀j,j<24→cs[j]? =some (.int .u8 0):=by
   have:cs=Array.replicate 24 (.int .u8 0):=by rw[←hcs];rfl
   intro j hj
   rw[this];simp[hj]
  have f1:Fr (fun _=>False) h (h.push (.cells cs T.a24_uint8)):=Fr.push _ _
  have hb1:(h.push (.cells cs T.a24_uint8))[h.size]? =some (.cells cs T.a24_uint8 (0,0)):=push_new
  have hnd:Lib.nDigits u≤20:=by have:=Lib.numDigits_eq u (by omega) hu;split at this<;>omega
  refine digits_ok (tb.on f1) (by omega) hu ⟨_,rfl,⟨by omega,by omega⟩, ?_⟩
  have es:slBase (some (⟨h.size,0,none⟩:Addr)) 24 0 1=some ⟨h.size,0,none⟩:=rfl
  rw[es,Int.toNat_natCast,Nat.sub_zero]
  refine base10_ok hb1 (fun j hj=>hc0 j (by omega)) (Lib.lt_pow_nDigits u) hu (by omega) fun h2 c2 dk v2 hb2 hF hc2 s2 o2=>⟨rfl,⟨by omega,by omega⟩,str (Lib.decDigits u), ?_, ?_⟩
  ·refine conv_str tS t8 tT (.inr ⟨_,rfl,heldL_blk hb2 (fun j v hj=> ?_)⟩) (Lib.decDigits_length u).symm
   rw[Nat.zero_add]
   have hjl:j<(Lib.decDigits u).length:=by have:=(List.getElem?_eq_some_iff.1 hj).1;rwa[bc_len] at this
   have hjn:j<Lib.nDigits u:=by rwa[Lib.decDigits_length] at hjl
   rw[hc2 j hjn,←Lib.row_is_numeral hF j hjl,←hj]
   unfold bc
   rw[List.getElem?_map,List.getElem?_eq_getElem hjl];rfl
  ·exact hk h2 (f1.fresh (S:=fun y=>y=h.size) ⟨by omega,fun y _ hn=>o2 y hn⟩ (fun y e=>Nat.le_of_eq e.symm))
theorem formatUint_ok {u:Nat} (tb:Tab h) (hu:u<18446744073709551616) (hk: ∀h',Fr (fun _=>False) h h'→R (.string ⟨(Lib.decDigits u).toArray⟩) h'):CallsH Tryz.prog F.strconv_FormatUint #[.int .u64 u, .int .i64 10] h R:=
 strconv_FormatUint.walk (format_ok tb hu fun h1 f1=>⟨_,rfl,hk h1 f1⟩)
end Num
end Go.Proofs.YtgccegnmggjkjaaGreatDoor
set_option maxRecDepth 100000
namespace Go.Proofs.YtgccegnmggjkjaaGreatDoor
open Go.Den
namespace Eid
variable {h h' : Heap} {R : Value → Heap → Prop}
theorem str_app (a b:List UInt8):str a++str b=str (a++b):=by
 unfold str
 apply ByteArray.ext
 rw[ByteArray.data_append]
 simp
theorem str_size (a:List UInt8):(str a).size=a.length:=by unfold str;rfl
theorem str_self (s:ByteArray):s=str s.data.toList:=(str_data s).symm
theorem data_len (s:ByteArray):s.data.toList.length=s.size:=by rw[Array.length_toList];rfl
def textE (x:Ev):List UInt8:=
 if x= .zero then [100,116,110,58,110,111,110,101]
 else if x.ipn=true then [105,112,110,58]++Lib.decDigits x.node.toNat++ [46]++Lib.decDigits x.svc.toNat
 else [100,116,110,58]++([47,47]++x.host.data.toList++ [47]++x.dem.data.toList)
theorem maxi:IntKind.max .i64=9223372036854775807:=rfl
theorem dec_len {u:Nat} (hu:u<18446744073709551616):(Lib.decDigits u).length≤20:=by
 rw[Lib.decDigits_length]
 by_cases h0:u<10
 ·rw[Lib.nDigits_small h0];omega
 ·have:=Lib.numDigits_eq u (by omega) hu
  split at this<;>omega
theorem text_len {x:Ev} (hr:rightE x=true) (h1:0≤x.svc):(textE x).length≤100:=by
 unfold textE
 unfold rightE at hr
 by_cases z:x= .zero
 ·rw[if_pos z];simp
 rw[if_neg z] at hr⊢
 by_cases hi:x.ipn=true
 ·rw[if_pos hi] at hr⊢
  have hr:=of_decide_eq_true hr
  have l1:=dec_len (u:=x.node.toNat) (by omega)
  have l2:=dec_len (u:=x.svc.toNat) (by omega)
  simp only[List.length_append,List.length_cons,List.length_nil];omega
 ·rw[if_neg hi] at hr⊢
  simp only[Bool.and_eq_true,decide_eq_true_eq] at hr
  simp only[List.length_append,List.length_cons,List.length_nil,data_len];omega
theorem path_ok (x:Ev) (h1:x.host.size≤1000) (h2:x.dem.size≤1000) (hk: ∀h',Fr (fun _=>False) h h'→R (.string (str ([47,47]++x.host.data.toList++ [47]++x.dem.data.toList))) h'):CallsH Tryz.prog F.eid_path #[ev5 x] h R:=by
 refine eid_path.walk (eid_Eid.box fun b h3 eb hb f3=>⟨_,cell_at hb rfl, ?_⟩)
 have e1:(⟨#[47,47]⟩:ByteArray)=str [47,47]:=rfl
 have e2:(⟨#[47]⟩:ByteArray)=str [47]:=rfl
 have l1:=data_len x.host
 have l2:=data_len x.dem
 have K:=hk h3 f3
 rw[e1,e2,maxi]
 refine⟨?_, ?_,_,cell_at hb rfl, ?_, ?_⟩
 ·rw[str_size];simp;omega
 ·rw[str_self x.host,str_app,str_size,str_size];simp;omega
 ·rw[str_self x.host,str_app,str_app,str_size];simp;omega
 ·rw[str_self x.host,str_self x.dem,str_app,str_app,str_app];exact K
theorem text_ok (x:Ev) (tb:Num.Tab h) (w1:0≤x.svc) (hk: ∀h',Fr (fun _=>False) h h'→R (.tuple #[.string (if rightE x=true then str (textE x) else⟨#[]⟩), .int .i64 (if rightE x=true then 0 else 3)]) h'):CallsH Tryz.prog F.eid_Text #[ev5 x] h R:=by
 refine eid_Text.walk (eid_Eid.box fun b h1 eb hb f1=>eid_Eid.ld hb (right_ok x fun h2 f2=>⟨_,rfl, ?_⟩))
 by_cases hr:rightE x=true
 ·simp only[hr,if_true] at hk
  rw[if_neg (by simpa using hr)]
  have hb2:=f2.get hb id
  have F2:=f1.tt f2
  have tb2:=tb.on F2
  refine eid_Eid.ld hb2 ⟨_,eqv' (y:= .zero) (x:=x) rfl rfl, ?_⟩
  unfold textE at hk
  unfold rightE at hr
  by_cases z:x= .zero
  ·rw[if_pos (decide_eq_true z)]
   rw[if_pos z] at hk
   exact hk h2 F2
  rw[if_neg (by simpa using z)]
  rw[if_neg z] at hr
  simp only[if_neg z] at hk
  refine⟨_,cell_at hb2 rfl, ?_⟩
  have e1:(⟨#[105,112,110,58]⟩:ByteArray)=str [105,112,110,58]:=rfl
  have e2:(⟨#[46]⟩:ByteArray)=str [46]:=rfl
  have e3:(⟨#[100,116,110,58]⟩:ByteArray)=str [100,116,110,58]:=rfl
  by_cases hi:x.ipn=true
  ·rw[if_pos hi] at hr⊢
   simp only[if_pos hi] at hk
   have hr:=of_decide_eq_true hr
   have l1:=dec_len (u:=x.node.toNat) (by omega)
   have l2:=dec_len (u:=x.svc.toNat) (by omega)
   have n1:x.node=((x.node.toNat:Nat):Int):=by omega
   have n2:x.svc=((x.svc.toNat:Nat):Int):=by omega
   rw[e1,e2,maxi]
   refine⟨_,cell_at hb2 rfl,_,cell_at hb2 rfl, ?_⟩
   rw[n1]
   refine Num.formatUint_ok tb2 (by omega) fun h3 f3=>⟨_,rfl,cell_at (f3.get hb2 id) rfl, ?_⟩
   have c1:(⟨(Lib.decDigits x.node.toNat).toArray⟩:ByteArray)=str (Lib.decDigits x.node.toNat):=rfl
   have c2:(⟨(Lib.decDigits x.svc.toNat).toArray⟩:ByteArray)=str (Lib.decDigits x.svc.toNat):=rfl
   rw[c1]
   refine⟨?_, ?_, ?_⟩
   ·rw[str_size,str_size];simp;omega
   ·rw[str_app,str_size,str_size];simp;omega
   rw[n2]
   refine Num.formatUint_ok (tb2.on f3) (by omega) fun h4 f4=>⟨_,rfl, ?_⟩
   rw[c2]
   refine⟨?_, ?_⟩
   ·rw[str_app,str_app,str_size,str_size];simp;omega
   ·rw[str_app,str_app,str_app];exact hk h4 (F2.tt (f3.tt f4))
  ·rw[if_neg hi] at hr⊢
   simp only[if_neg hi] at hk
   simp only[Bool.and_eq_true,decide_eq_true_eq] at hr
   refine eid_Eid.ld hb2 (path_ok x (by omega) (by omega) fun h3 f3=>⟨_,rfl, ?_⟩)
   have l1:=data_len x.host
   have l2:=data_len x.dem
   rw[e3,maxi]
   refine⟨?_, ?_⟩
   ·rw[str_size,str_size];simp;omega
   ·rw[str_app];exact hk h3 (F2.tt f3)
 ·simp only[hr,Bool.false_eq_true,if_false] at hk
  rw[if_pos (by simpa using hr)]
  exact hk h2 (f1.tt f2)
end Eid
end Go.Proofs.YtgccegnmggjkjaaGreatDoor
set_option maxRecDepth 100000
set_option maxHeartbeats 4000000
namespace Go.Proofs.YtgccegnmggjkjaaGreatDoor
open Go.Den
variable {h : Heap} {R : Value → Heap → Prop}
theorem copies_record.walk {c : Nat} (hv :
 eid_Eid.LD h ⟨c, 1, none⟩ fun t9_0 t9_1 t9_2 t9_3 t9_4 =>
 Cl F.eid_Text #[.agg #[.bool t9_0, .int .u64 t9_1, .int .u64 t9_2, .string t9_3, .string t9_4]] h fun v h_1 =>
 ∃ t10_0 t10_1, v = .tuple #[.string t10_0, .int .i64 t10_1] ∧
 ∃ t17, hcell h_1 ⟨c, 0, none⟩ = some (.int .i64 t17) ∧
 ∃ t25_p t25_l t25_c, hcell h_1 ⟨c, 6, none⟩ = some (.slice t25_p t25_l t25_c) ∧
 ∃ t30, hcell h_1 ⟨c, 7, none⟩ = some (.int .u64 t30) ∧
 ∃ t35, hcell h_1 ⟨c, 8, none⟩ = some (.int .i64 t35) ∧
 ∃ t40, hcell h_1 ⟨c, 9, none⟩ = some (.int .u64 t40) ∧
 (Cl F.fields_New #[] h_1 fun v_1 h_2 =>
 ∃ t13, v_1 = .pointer t13 ∧
 hcell h_2 ⟨c, 9, none⟩ = some (.int .u64 t40) ∧
 hcell h_2 ⟨c, 8, none⟩ = some (.int .i64 t35) ∧
 hcell h_2 ⟨c, 7, none⟩ = some (.int .u64 t30) ∧
 hcell h_2 ⟨c, 6, none⟩ = some (.slice t25_p t25_l t25_c) ∧
 hcell h_2 ⟨c, 0, none⟩ = some (.int .i64 t17) ∧
 (Cl F.fields_Writer_Int #[.pointer t13, .int .i64 t17] h_2 fun v_2 h_3 =>
 ∃ t18, v_2 = .pointer t18 ∧
 hcell h_3 ⟨c, 9, none⟩ = some (.int .u64 t40) ∧
 hcell h_3 ⟨c, 8, none⟩ = some (.int .i64 t35) ∧
 hcell h_3 ⟨c, 7, none⟩ = some (.int .u64 t30) ∧
 hcell h_3 ⟨c, 6, none⟩ = some (.slice t25_p t25_l t25_c) ∧
 denSem Tryz.prog (convert T.string T.s_uint8 (.string t10_0)) h_3 fun v_3 h_4 =>
 ∃ t20_p t20_l t20_c, v_3 = .slice t20_p t20_l t20_c ∧
 hcell h_4 ⟨c, 9, none⟩ = some (.int .u64 t40) ∧
 hcell h_4 ⟨c, 8, none⟩ = some (.int .i64 t35) ∧
 hcell h_4 ⟨c, 7, none⟩ = some (.int .u64 t30) ∧
 hcell h_4 ⟨c, 6, none⟩ = some (.slice t25_p t25_l t25_c) ∧
 Cl F.fields_Writer_Text #[.pointer t18, .slice t20_p t20_l t20_c] h_4 fun v_4 h_5 =>
 ∃ t21, v_4 = .pointer t21 ∧
 hcell h_5 ⟨c, 9, none⟩ = some (.int .u64 t40) ∧
 hcell h_5 ⟨c, 8, none⟩ = some (.int .i64 t35) ∧
 hcell h_5 ⟨c, 7, none⟩ = some (.int .u64 t30) ∧
 hcell h_5 ⟨c, 6, none⟩ = some (.slice t25_p t25_l t25_c) ∧
 Cl F.fields_Writer_Text #[.pointer t21, .slice t25_p t25_l t25_c] h_5 fun v_5 h_6 =>
 ∃ t26, v_5 = .pointer t26 ∧
 hcell h_6 ⟨c, 9, none⟩ = some (.int .u64 t40) ∧
 hcell h_6 ⟨c, 8, none⟩ = some (.int .i64 t35) ∧
 hcell h_6 ⟨c, 7, none⟩ = some (.int .u64 t30) ∧
 Cl F.fields_Writer_Num #[.pointer t26, .int .u64 t30] h_6 fun v_6 h_7 =>
 ∃ t31, v_6 = .pointer t31 ∧
 hcell h_7 ⟨c, 9, none⟩ = some (.int .u64 t40) ∧
 hcell h_7 ⟨c, 8, none⟩ = some (.int .i64 t35) ∧
 Cl F.fields_Writer_Int #[.pointer t31, .int .i64 t35] h_7 fun v_7 h_8 =>
 ∃ t36, v_7 = .pointer t36 ∧
 hcell h_8 ⟨c, 9, none⟩ = some (.int .u64 t40) ∧
 Cl F.fields_Writer_Num #[.pointer t36, .int .u64 t40] h_8 fun v_8 h_9 =>
 ∃ t41, v_8 = .pointer t41 ∧
 Cl F.fields_Writer_Bytes #[.pointer t41] h_9 fun v_9 h_10 =>
 ∃ t42_p t42_l t42_c, v_9 = .slice t42_p t42_l t42_c ∧
 R (.slice t42_p t42_l t42_c) h_10) ∧
 (denSem Tryz.prog (convert T.string T.s_uint8 (.string t10_0)) h_2 fun v_10 h_11 =>
 ∃ t20_p_1 t20_l_1 t20_c_1, v_10 = .slice t20_p_1 t20_l_1 t20_c_1 ∧
 hcell h_11 ⟨c, 9, none⟩ = some (.int .u64 t40) ∧
 hcell h_11 ⟨c, 8, none⟩ = some (.int .i64 t35) ∧
 hcell h_11 ⟨c, 7, none⟩ = some (.int .u64 t30) ∧
 hcell h_11 ⟨c, 6, none⟩ = some (.slice t25_p t25_l t25_c) ∧
 hcell h_11 ⟨c, 0, none⟩ = some (.int .i64 t17) ∧
 Cl F.fields_Writer_Int #[.pointer t13, .int .i64 t17] h_11 fun v_11 h_12 =>
 ∃ t18_1, v_11 = .pointer t18_1 ∧
 hcell h_12 ⟨c, 9, none⟩ = some (.int .u64 t40) ∧
 hcell h_12 ⟨c, 8, none⟩ = some (.int .i64 t35) ∧
 hcell h_12 ⟨c, 7, none⟩ = some (.int .u64 t30) ∧
 hcell h_12 ⟨c, 6, none⟩ = some (.slice t25_p t25_l t25_c) ∧
 Cl F.fields_Writer_Text #[.pointer t18_1, .slice t20_p_1 t20_l_1 t20_c_1] h_12 fun v_12 h_13 =>
 ∃ t21_1, v_12 = .pointer t21_1 ∧
 hcell h_13 ⟨c, 9, none⟩ = some (.int .u64 t40) ∧
 hcell h_13 ⟨c, 8, none⟩ = some (.int .i64 t35) ∧
 hcell h_13 ⟨c, 7, none⟩ = some (.int .u64 t30) ∧
 hcell h_13 ⟨c, 6, none⟩ = some (.slice t25_p t25_l t25_c) ∧
 Cl F.fields_Writer_Text #[.pointer t21_1, .slice t25_p t25_l t25_c] h_13 fun v_13 h_14 =>
 ∃ t26_1, v_13 = .pointer t26_1 ∧
 hcell h_14 ⟨c, 9, none⟩ = some (.int .u64 t40) ∧
 hcell h_14 ⟨c, 8, none⟩ = some (.int .i64 t35) ∧
 hcell h_14 ⟨c, 7, none⟩ = some (.int .u64 t30) ∧
 Cl F.fields_Writer_Num #[.pointer t26_1, .int .u64 t30] h_14 fun v_14 h_15 =>
 ∃ t31_1, v_14 = .pointer t31_1 ∧
 hcell h_15 ⟨c, 9, none⟩ = some (.int .u64 t40) ∧
 hcell h_15 ⟨c, 8, none⟩ = some (.int .i64 t35) ∧
 Cl F.fields_Writer_Int #[.pointer t31_1, .int .i64 t35] h_15 fun v_15 h_16 =>
 ∃ t36_1, v_15 = .pointer t36_1 ∧
 hcell h_16 ⟨c, 9, none⟩ = some (.int .u64 t40) ∧
 Cl F.fields_Writer_Num #[.pointer t36_1, .int .u64 t40] h_16 fun v_16 h_17 =>
 ∃ t41_1, v_16 = .pointer t41_1 ∧
 Cl F.fields_Writer_Bytes #[.pointer t41_1] h_17 fun v_17 h_18 =>
 ∃ t42_p_1 t42_l_1 t42_c_1, v_17 = .slice t42_p_1 t42_l_1 t42_c_1 ∧
 R (.slice t42_p_1 t42_l_1 t42_c_1) h_18) ∧
 True) ∧
 (denSem Tryz.prog (convert T.string T.s_uint8 (.string t10_0)) h_1 fun v_18 h_19 =>
 ∃ t20_p_2 t20_l_2 t20_c_2, v_18 = .slice t20_p_2 t20_l_2 t20_c_2 ∧
 hcell h_19 ⟨c, 9, none⟩ = some (.int .u64 t40) ∧
 hcell h_19 ⟨c, 8, none⟩ = some (.int .i64 t35) ∧
 hcell h_19 ⟨c, 7, none⟩ = some (.int .u64 t30) ∧
 hcell h_19 ⟨c, 6, none⟩ = some (.slice t25_p t25_l t25_c) ∧
 hcell h_19 ⟨c, 0, none⟩ = some (.int .i64 t17) ∧
 Cl F.fields_New #[] h_19 fun v_19 h_20 =>
 ∃ t13_1, v_19 = .pointer t13_1 ∧
 hcell h_20 ⟨c, 9, none⟩ = some (.int .u64 t40) ∧
 hcell h_20 ⟨c, 8, none⟩ = some (.int .i64 t35) ∧
 hcell h_20 ⟨c, 7, none⟩ = some (.int .u64 t30) ∧
 hcell h_20 ⟨c, 6, none⟩ = some (.slice t25_p t25_l t25_c) ∧
 hcell h_20 ⟨c, 0, none⟩ = some (.int .i64 t17) ∧
 Cl F.fields_Writer_Int #[.pointer t13_1, .int .i64 t17] h_20 fun v_20 h_21 =>
 ∃ t18_2, v_20 = .pointer t18_2 ∧
 hcell h_21 ⟨c, 9, none⟩ = some (.int .u64 t40) ∧
 hcell h_21 ⟨c, 8, none⟩ = some (.int .i64 t35) ∧
 hcell h_21 ⟨c, 7, none⟩ = some (.int .u64 t30) ∧
 hcell h_21 ⟨c, 6, none⟩ = some (.slice t25_p t25_l t25_c) ∧
 Cl F.fields_Writer_Text #[.pointer t18_2, .slice t20_p_2 t20_l_2 t20_c_2] h_21 fun v_21 h_22 =>
 ∃ t21_2, v_21 = .pointer t21_2 ∧
 hcell h_22 ⟨c, 9, none⟩ = some (.int .u64 t40) ∧
 hcell h_22 ⟨c, 8, none⟩ = some (.int .i64 t35) ∧
 hcell h_22 ⟨c, 7, none⟩ = some (.int .u64 t30) ∧
 hcell h_22 ⟨c, 6, none⟩ = some (.slice t25_p t25_l t25_c) ∧
 Cl F.fields_Writer_Text #[.pointer t21_2, .slice t25_p t25_l t25_c] h_22 fun v_22 h_23 =>
 ∃ t26_2, v_22 = .pointer t26_2 ∧
 hcell h_23 ⟨c, 9, none⟩ = some (.int .u64 t40) ∧
 hcell h_23 ⟨c, 8, none⟩ = some (.int .i64 t35) ∧
 hcell h_23 ⟨c, 7, none⟩ = some (.int .u64 t30) ∧
 Cl F.fields_Writer_Num #[.pointer t26_2, .int .u64 t30] h_23 fun v_23 h_24 =>
 ∃ t31_2, v_23 = .pointer t31_2 ∧
 hcell h_24 ⟨c, 9, none⟩ = some (.int .u64 t40) ∧
 hcell h_24 ⟨c, 8, none⟩ = some (.int .i64 t35) ∧
 Cl F.fields_Writer_Int #[.pointer t31_2, .int .i64 t35] h_24 fun v_24 h_25 =>
 ∃ t36_2, v_24 = .pointer t36_2 ∧
 hcell h_25 ⟨c, 9, none⟩ = some (.int .u64 t40) ∧
 Cl F.fields_Writer_Num #[.pointer t36_2, .int .u64 t40] h_25 fun v_25 h_26 =>
 ∃ t41_2, v_25 = .pointer t41_2 ∧
 Cl F.fields_Writer_Bytes #[.pointer t41_2] h_26 fun v_26 h_27 =>
 ∃ t42_p_2 t42_l_2 t42_c_2, v_26 = .slice t42_p_2 t42_l_2 t42_c_2 ∧
 R (.slice t42_p_2 t42_l_2 t42_c_2) h_27) ∧
 True) : CallsH Tryz.prog F.copies_record #[.pointer (some ⟨c, 0, none⟩)] h R :=
 callsH_of_body (.seq .leaf (.seq .leaf (.seq (.plan (.op 1 (.op 2 (.op 3 (.op 4 (.op 6 (.op 9 (.op 10 (.op 11 (.op 12 (.op 14 (.op 15 (.op 16 (.op 17 (.op 19 (.op 20 (.op 21 (.op 22 (.op 24 (.op 25 (.op 26 (.op 27 (.alts (.fork 0 (.alts (.fork 5 (.op 7 (.op 8 (.op 13 (.op 18 (.op 23 (.op 28 (.op 29 (.op 30 .done)))))))) (.fork 7 (.op 5 (.op 8 (.op 13 (.op 18 (.op 23 (.op 28 (.op 29 (.op 30 .done)))))))) .noalt))) (.fork 7 (.op 0 (.op 5 (.op 8 (.op 13 (.op 18 (.op 23 (.op 28 (.op 29 (.op 30 .done))))))))) .noalt))))))))))))))))))))))))) .leaf))) Tryz.func78 rfl rfl (Eq.mp (by kernel_rfl) hv)
theorem copies_Table_Save.walk {t : Nat} (hv :
 Cl F.copies_Table_made #[.pointer (some ⟨t, 0, none⟩)] h fun v h_1 =>
 ∃ t7, v = .bool t7 ∧
 if (!t7) = true then
 R (.slice none 0 0) h_1
 else
 ∃ t13, hcell h_1 ⟨t, 1, none⟩ = some (.int .i64 t13) ∧
 ∃ t18, hcell h_1 ⟨t, 2, none⟩ = some (.int .i64 t18) ∧
 ∃ t23, hcell h_1 ⟨t, 3, none⟩ = some (.int .i64 t23) ∧
 ∃ t28, hcell h_1 ⟨t, 4, none⟩ = some (.int .i64 t28) ∧
 ∃ t33, hcell h_1 ⟨t, 0, none⟩ = some (.map t33) ∧
 Cl F.fields_New #[] h_1 fun v_1 h_2 =>
 ∃ t9, v_1 = .pointer t9 ∧
 hcell h_2 ⟨t, 0, none⟩ = some (.map t33) ∧
 hcell h_2 ⟨t, 4, none⟩ = some (.int .i64 t28) ∧
 hcell h_2 ⟨t, 3, none⟩ = some (.int .i64 t23) ∧
 hcell h_2 ⟨t, 2, none⟩ = some (.int .i64 t18) ∧
 hcell h_2 ⟨t, 1, none⟩ = some (.int .i64 t13) ∧
 Cl F.fields_Writer_Int #[.pointer t9, .int .i64 t13] h_2 fun v_2 h_3 =>
 ∃ t14, v_2 = .pointer t14 ∧
 hcell h_3 ⟨t, 0, none⟩ = some (.map t33) ∧
 hcell h_3 ⟨t, 4, none⟩ = some (.int .i64 t28) ∧
 hcell h_3 ⟨t, 3, none⟩ = some (.int .i64 t23) ∧
 hcell h_3 ⟨t, 2, none⟩ = some (.int .i64 t18) ∧
 Cl F.fields_Writer_Int #[.pointer t14, .int .i64 t18] h_3 fun v_3 h_4 =>
 ∃ t19, v_3 = .pointer t19 ∧
 hcell h_4 ⟨t, 0, none⟩ = some (.map t33) ∧
 hcell h_4 ⟨t, 4, none⟩ = some (.int .i64 t28) ∧
 hcell h_4 ⟨t, 3, none⟩ = some (.int .i64 t23) ∧
 Cl F.fields_Writer_Int #[.pointer t19, .int .i64 t23] h_4 fun v_4 h_5 =>
 ∃ t24, v_4 = .pointer t24 ∧
 hcell h_5 ⟨t, 0, none⟩ = some (.map t33) ∧
 hcell h_5 ⟨t, 4, none⟩ = some (.int .i64 t28) ∧
 Cl F.fields_Writer_Int #[.pointer t24, .int .i64 t28] h_5 fun v_5 h_6 =>
 ∃ t29, v_5 = .pointer t29 ∧
 hcell h_6 ⟨t, 0, none⟩ = some (.map t33) ∧
 ∃ t34 : Int, LenV Tryz.prog #[T.m_int_p_copies_Copy] T.int (.map t33) h_6 (.int .i64 t34) ∧
 Cl F.fields_Writer_Int #[.pointer t29, .int .i64 t34] h_6 fun v_6 h_7 =>
 ∃ t35, v_6 = .pointer t35 ∧
 hcell h_7 ⟨t, 0, none⟩ = some (.map t33) ∧
 Cl F.fields_Writer_Bytes #[.pointer t35] h_7 fun v_7 h_8 =>
 ∃ t36_p t36_l t36_c, v_7 = .slice t36_p t36_l t36_c ∧
 hcell h_8 ⟨t, 0, none⟩ = some (.map t33) ∧
 NewP h_8 (.cells #[.slice t36_p t36_l t36_c] T.s_uint8) fun b h_9 =>
 hcell h_9 ⟨t, 0, none⟩ = some (.map t33) ∧
 Cl F.copies_Table_numbers #[.pointer (some ⟨t, 0, none⟩)] h_9 fun v_8 h_10 =>
 ∃ t39_p t39_l t39_c, v_8 = .slice t39_p t39_l t39_c ∧
 ∃ (I : Option Addr → Nat → Nat → Int → Heap → Prop) (mu : Option Addr → Nat → Nat → Int → Heap → Nat), I (some ⟨b, 0, none⟩) 1 1 0 h_10 ∧ ∀ (out_p : Option Addr) (out_l out_c : Nat) (t41 : Int) (h_11 : Heap), I out_p out_l out_c t41 h_11 →
 if (decide (t41 < ((t39_l : Nat) : Int))) = true then
 ((0 : Int) ≤ t41 ∧ t41 < ((t39_l : Nat) : Int)) ∧
 onSome t39_p fun a =>
 ∃ t44, hcell h_11 (a.add (Int.toNat t41 * 1)) = some (.int .i64 t44) ∧
 ∃ t49, hcell h_11 ⟨t, 0, none⟩ = some (.map t49) ∧
 ∃ t51, LookV Tryz.prog T.m_int_p_copies_Copy (.map t49) (.int .i64 t44) false h_11 (.pointer t51) ∧
 Cl F.copies_record #[.pointer t51] h_11 fun v_9 h_12 =>
 ∃ t52_p t52_l t52_c, v_9 = .slice t52_p t52_l t52_c ∧
 NewP h_12 (.cells #[.slice t52_p t52_l t52_c] T.s_uint8) fun b_1 h_13 =>
 denSem Tryz.prog (Builtin.append_ #[T.s_s_uint8, T.s_s_uint8] T.s_s_uint8 #[.slice out_p out_l out_c, .slice (some ⟨b_1, 0, none⟩) 1 1]) h_13 fun v_10 h_14 =>
 ∃ t54_p t54_l t54_c, v_10 = .slice t54_p t54_l t54_c ∧
 (I t54_p t54_l t54_c (IntKind.wrap .i64 (t41 + 1)) h_14 ∧ mu t54_p t54_l t54_c (IntKind.wrap .i64 (t41 + 1)) h_14 < mu out_p out_l out_c t41 h_11)
 else
 R (.slice out_p out_l out_c) h_11) : CallsH Tryz.prog F.copies_Table_Save #[.pointer (some ⟨t, 0, none⟩)] h R :=
 callsH_of_body (.seq .leaf (.seq (.seq .leaf (.cond (.seq .leaf .leaf) .leaf)) (.seq (.plan (.op 1 (.op 2 (.op 3 (.op 4 (.op 6 (.op 7 (.op 8 (.op 9 (.op 11 (.op 12 (.op 13 (.op 14 (.op 16 (.op 17 (.op 18 (.op 19 (.op 21 (.op 22 (.op 23 (.op 24 (.op 0 (.op 5 (.op 10 (.op 15 (.op 20 (.op 25 (.op 26 (.op 27 (.op 28 (.op 29 .done))))))))))))))))))))))))))))))) (.seq (.seq .leaf (.block (.loop [(3, .one (.slice)), (41, .one (.int .i64))] (.seq .leaf (.seq (.cond .leaf .leaf) (.seq (.block (.seq .leaf .leaf)) .leaf)))))) (.seq .leaf .leaf))))) Tryz.func21 rfl rfl (Eq.mp (by kernel_rfl) hv)
end Go.Proofs.YtgccegnmggjkjaaGreatDoor
set_option maxRecDepth 100000
namespace Go.Proofs.YtgccegnmggjkjaaGreatDoor
open Go.Den Go.Fields Go.Heapq
namespace Cps
open Eid Alarm Fld
variable {h h' : Heap} {R : Value → Heap → Prop} {t : Nat} {X : Ft} {s s' : CF} {m a1 a2 : Nat} {xs : List CV} {S1 S2 S1' S2' : Nat → Prop} {lab : Nat → Option Nat} {p : Option Addr} {n c : Nat}
def recC (z:Cp):List UInt8:=encNum z.num++encText (textE z.e)++encText z.d++encNum z.till++encNum (natOf z.ses)++encNum z.dl
structure okZ (z:Cp):Prop where
 r:rightE z.e=true
 v:0≤z.e.svc
 d:z.d.length≤600
 n:z.num≤1000000
 t:z.till≤1099511627776
 s0:0≤z.ses
 s1:z.ses≤1099511627776
 l:z.dl≤1099511627776
theorem encText_len (t:List UInt8):(encText t).length≤t.length+10:=by
 have:=(encNum_len t.length).2
 unfold encText
 rw[List.length_append];omega
theorem recC_len {z:Cp} (k:okZ z):(recC z).length≤1000:=by
 have l0:=text_len k.r k.v
 have l1:=encText_len (textE z.e)
 have l2:=encText_len z.d
 have l3:=k.d
 have e1:=(encNum_len z.num).2
 have e2:=(encNum_len z.till).2
 have e3:=(encNum_len (natOf z.ses)).2
 have e4:=(encNum_len z.dl).2
 unfold recC
 simp only[List.length_append];omega
theorem ld_e {g:Heap} {b:Nat} {x:CV} {K:Bool→Int→Int→ByteArray→ByteArray→Prop} (hg:x.at g b) (hk:K x.e.ipn x.e.node x.e.svc x.e.host x.e.dem):eid_Eid.LD g ⟨b,1,none⟩ K:=
 ⟨_,cell_at hg rfl,_,cell_at hg rfl,_,cell_at hg rfl,_,cell_at hg rfl,_,cell_at hg rfl,hk⟩
theorem rec_tail {z:CV} {b:Nat} {g h1:Heap} {w:Nat} {S:Nat→Prop} {q:Option Addr} {dq:Nat} (k:okZ z.abs) (hb1:z.at h1 b) (hrow:Row h1 z.v.p (bc z.v.b)) (fg:Fr (fun _=>False) h1 g) (W:Wr g w S (encNum z.num)) (hS: ∀y,S y→h1.size≤y) (row:Row g q (bc (textE z.e))) (hq: ∀y,inBlk q y→ ¬S y)
  (hk: ∀p' c' h',Own h' p' (recC z.abs).length c' 1 (bc (recC z.abs))→Fr (fun _=>False) h1 h'→(∀y,inBlk p' y→h1.size≤y)→R (.slice p' (recC z.abs).length c') h'):
  hcell g ⟨b,9,none⟩=some (.int .u64 (z.dl:Int))∧hcell g ⟨b,8,none⟩=some (.int .i64 z.ses)∧hcell g ⟨b,7,none⟩=some (.int .u64 (z.till:Int))∧hcell g ⟨b,6,none⟩=some (.slice z.v.p z.v.b.length z.v.c)∧
  CallsH Tryz.prog F.fields_Writer_Text #[.pointer (some ⟨w,0,none⟩), .slice q (str (textE z.e)).size dq] g fun v_4 h_5=>
  ∃(t21:Option Addr),v_4= .pointer t21∧
  hcell h_5 ⟨b,9,none⟩=some (.int .u64 (z.dl:Int))∧
  hcell h_5 ⟨b,8,none⟩=some (.int .i64 z.ses)∧
  hcell h_5 ⟨b,7,none⟩=some (.int .u64 (z.till:Int))∧
  hcell h_5 ⟨b,6,none⟩=some (.slice z.v.p z.v.b.length z.v.c)∧
  CallsH Tryz.prog F.fields_Writer_Text #[.pointer t21, .slice z.v.p z.v.b.length z.v.c] h_5 fun v_5 h_6=>
  ∃(t26:Option Addr),v_5= .pointer t26∧
  hcell h_6 ⟨b,9,none⟩=some (.int .u64 (z.dl:Int))∧
  hcell h_6 ⟨b,8,none⟩=some (.int .i64 z.ses)∧
  hcell h_6 ⟨b,7,none⟩=some (.int .u64 (z.till:Int))∧
  CallsH Tryz.prog F.fields_Writer_Num #[.pointer t26, .int .u64 (z.till:Int)] h_6 fun v_6 h_7=>
  ∃(t31:Option Addr),v_6= .pointer t31∧
  hcell h_7 ⟨b,9,none⟩=some (.int .u64 (z.dl:Int))∧
  hcell h_7 ⟨b,8,none⟩=some (.int .i64 z.ses)∧
  CallsH Tryz.prog F.fields_Writer_Int #[.pointer t31, .int .i64 z.ses] h_7 fun v_7 h_8=>
  ∃(t36:Option Addr),v_7= .pointer t36∧
  hcell h_8 ⟨b,9,none⟩=some (.int .u64 (z.dl:Int))∧
  CallsH Tryz.prog F.fields_Writer_Num #[.pointer t36, .int .u64 (z.dl:Int)] h_8 fun v_8 h_9=>
  ∃(t41:Option Addr),v_8= .pointer t41∧
  CallsH Tryz.prog F.fields_Writer_Bytes #[.pointer t41] h_9 fun v_9 h_10=>
  ∃(t42_p:Option Addr) (t42_l t42_c:Nat),v_9= .slice t42_p t42_l t42_c∧
  R (.slice t42_p t42_l t42_c) h_10:=by
 have kr:rightE z.e=true:=k.r
 have kv:0≤z.e.svc:=k.v
 have kd:z.v.b.length≤600:=k.d
 have kt:z.till≤1099511627776:=k.t
 have k0:0≤z.ses:=k.s0
 have k1:z.ses≤1099511627776:=k.s1
 have kl:z.dl≤1099511627776:=k.l
 have lb:=lt_of_get hb1
 have bS: ∀ {S':Nat→Prop},(∀y,S' y→h1.size≤y)→ ¬S' b:=fun hh hn=>by have:=hh b hn;omega
 have l0:=text_len kr kv
 have lt1:=encText_len (textE z.e)
 have lt2:=encText_len z.v.b
 have e1:=(encNum_len z.num).2
 have e2:=(encNum_len z.till).2
 have e3:=(encNum_len (natOf z.ses)).2
 have hbg:z.at g b:=fg.get hb1 id
 have zg:=fg.1
 refine⟨cell_at hbg rfl,cell_at hbg rfl,cell_at hbg rfl,cell_at hbg rfl,Fld.text_ok W (by omega) row (str_size _) (by omega) hq fun g1 S1 W1 st1=> ?_⟩
 have hS1: ∀y,S1 y→h1.size≤y:=fun y hy=>(st1.new y hy).elim (hS y) (fun h1=>by omega)
 have F1:=fg.fresh st1.fr hS
 have b1:z.at g1 b:=F1.get hb1 id
 have z1:=F1.1
 refine⟨_,rfl,cell_at b1 rfl,cell_at b1 rfl,cell_at b1 rfl,cell_at b1 rfl,Fld.text_ok' W1 (by simp only[List.length_append];omega) (hrow.frame F1 (fun _ _=>id)) rfl (by omega) (fun y hy hne hs=>by have:=row_lt hrow (by intro e;apply hne;have:=congrArg List.length e;rw[bc_len] at this;exact List.length_eq_zero_iff.1 this) hy;have:=hS1 y hs;omega) fun g2 S2 W2 st2=> ?_⟩
 have hS2: ∀y,S2 y→h1.size≤y:=fun y hy=>(st2.new y hy).elim (hS1 y) (fun h1=>by omega)
 have F2:=F1.fresh st2.fr hS1
 have b2:z.at g2 b:=F2.get hb1 id
 have z2:=F2.1
 refine⟨_,rfl,cell_at b2 rfl,cell_at b2 rfl,cell_at b2 rfl,Fld.num_ok z.till W2 (by simp only[List.length_append];omega) rfl (by omega) fun g3 S3 W3 st3=> ?_⟩
 have hS3: ∀y,S3 y→h1.size≤y:=fun y hy=>(st3.new y hy).elim (hS2 y) (fun h1=>by omega)
 have F3:=F2.fresh st3.fr hS2
 have b3:z.at g3 b:=F3.get hb1 id
 have z3:=F3.1
 refine⟨_,rfl,cell_at b3 rfl,cell_at b3 rfl,Fld.int_ok W3 (by simp only[List.length_append];omega) (by omega) fun g4 S4 W4 st4=> ?_⟩
 have hS4: ∀y,S4 y→h1.size≤y:=fun y hy=>(st4.new y hy).elim (hS3 y) (fun h1=>by omega)
 have F4:=F3.fresh st4.fr hS3
 have b4:z.at g4 b:=F4.get hb1 id
 have z4:=F4.1
 refine⟨_,rfl,cell_at b4 rfl,Fld.num_ok z.dl W4 (by simp only[List.length_append];omega) rfl (by omega) fun g5 S5 W5 st5=> ?_⟩
 have F5:=F4.fresh st5.fr hS4
 have er:encNum z.num++encText (textE z.e)++encText z.v.b++encNum z.till++encNum (natOf z.ses)++encNum z.dl=recC z.abs:=rfl
 rw[er] at W5
 have lr:=recC_len k
 refine⟨_,rfl,Fld.bytes_ok W5 (by omega) fun p6 c6 g6 o6 f6 n6=>⟨_,_,_,rfl, ?_⟩⟩
 have z5:=F5.1
 exact hk p6 c6 g6 o6 (F5.tt f6) (fun y hy=>by have:=n6 y hy;omega)
theorem record_ok {z:CV} {b:Nat} (hb:z.at h b) (hrow:Row h z.v.p (bc z.v.b)) (k:okZ z.abs) (tb:Num.Tab h) (hk: ∀p' c' h',Own h' p' (recC z.abs).length c' 1 (bc (recC z.abs))→Fr (fun _=>False) h h'→(∀y,inBlk p' y→h.size≤y)→R (.slice p' (recC z.abs).length c') h'):CallsH Tryz.prog F.copies_record #[.pointer (some ⟨b,0,none⟩)] h R:=by
 have kr:rightE z.e=true:=k.r
 have kn:z.num≤1000000:=k.n
 refine copies_record.walk (ld_e hb (Eid.text_ok z.e tb k.v fun h1 f1=> ?_))
 simp only[kr,if_true]
 have hb1:z.at h1 b:=f1.get hb id
 have z0:=f1.1
 have hrow1:=hrow.frame f1 (fun _ _=>id)
 have hk1: ∀p' c' h',Own h' p' (recC z.abs).length c' 1 (bc (recC z.abs))→Fr (fun _=>False) h1 h'→(∀y,inBlk p' y→h1.size≤y)→R (.slice p' (recC z.abs).length c') h':=fun p' c' h' o f g=>hk p' c' h' o (f1.tt f) (fun y hy=>by have:=g y hy;omega)
 clear hk
 have dt:(str (textE z.e)).data.toList=textE z.e:=by unfold str;simp
 have tne:bc (textE z.e)≠ []:=by
  intro e
  have:=congrArg List.length e
  rw[bc_len] at this
  revert this
  unfold textE
  split<;>(try split)<;>simp
 have nz:encNum (natOf (z.num:Int))=encNum z.num:=by unfold natOf;rw[Int.toNat_natCast]
 refine⟨_,_,rfl,_,cell_at hb1 rfl,_,_,_,cell_at hb1 rfl,_,cell_at hb1 rfl,_,cell_at hb1 rfl,_,cell_at hb1 rfl, ?_, ?_,trivial⟩
 ·refine Fld.new_ok fun h2 w S W f2 n2=> ?_
  have b2:z.at h2 b:=f2.get hb1 id
  refine⟨_,rfl,cell_at b2 rfl,cell_at b2 rfl,cell_at b2 rfl,cell_at b2 rfl,cell_at b2 rfl, ?_, ?_,trivial⟩
  ·refine Fld.int_ok W (by simp) (by omega) fun h3 S3 W3 st3=> ?_
   rw[nz,List.nil_append] at W3
   have z2:=f2.1
   have F3:=f2.fresh st3.fr n2
   have b3:z.at h3 b:=F3.get hb1 id
   have n3: ∀y,S3 y→h1.size≤y:=fun y hy=>(st3.new y hy).elim (n2 y) (fun h1=>by omega)
   refine⟨_,rfl,cell_at b3 rfl,cell_at b3 rfl,cell_at b3 rfl,cell_at b3 rfl,s2b fun q d h4 row cq f4 n4=>⟨_,_,_,rfl, ?_⟩⟩
   rw[dt] at row
   exact rec_tail k hb1 hrow1 (F3.tt f4) (W3.frame f4 (fun _ _=>id)) n3 row (fun y hy hs=>by have:=n4 y hy;have:=W3.lt y hs;omega) hk1
  ·refine s2b fun q d h3 row cq f3 n3=>⟨_,_,_,rfl, ?_⟩
   have b3:z.at h3 b:=(f2.tt f3).get hb1 id
   have W3:=W.frame f3 (fun _ _=>id)
   refine⟨cell_at b3 rfl,cell_at b3 rfl,cell_at b3 rfl,cell_at b3 rfl,cell_at b3 rfl,Fld.int_ok W3 (by simp) (by omega) fun h4 S4 W4 st4=>⟨_,rfl, ?_⟩⟩
   rw[nz,List.nil_append] at W4
   have z2:=(f2.tt f3).1
   have n4: ∀y,S4 y→h1.size≤y:=fun y hy=>(st4.new y hy).elim (n2 y) (fun h1=>by omega)
   rw[dt] at row
   refine rec_tail k hb1 hrow1 ((f2.tt f3).fresh st4.fr n2) W4 n4 (row.frame st4.fr (fun a ea hs=>by have:=n3 a.block ⟨a,ea,rfl⟩;have:=W.lt _ hs;omega)) (fun y hy hs=> ?_) hk1
   have h1:=row_lt row tne hy
   have h2:=n3 y hy
   rcases st4.new y hs with h3|h3
   ·have:=W.lt y h3;omega
   ·omega
 ·refine s2b fun q d h2 row cq f2 n2=>⟨_,_,_,rfl, ?_⟩
  have b2:z.at h2 b:=f2.get hb1 id
  refine⟨cell_at b2 rfl,cell_at b2 rfl,cell_at b2 rfl,cell_at b2 rfl,cell_at b2 rfl,Fld.new_ok fun h3 w S W f3 n3=> ?_⟩
  have b3:z.at h3 b:=(f2.tt f3).get hb1 id
  have z2:=f2.1
  have z3:=f3.1
  refine⟨_,rfl,cell_at b3 rfl,cell_at b3 rfl,cell_at b3 rfl,cell_at b3 rfl,cell_at b3 rfl,Fld.int_ok W (by simp) (by omega) fun h4 S4 W4 st4=>⟨_,rfl, ?_⟩⟩
  rw[nz,List.nil_append] at W4
  rw[dt] at row
  have hrl: ∀y,inBlk q y→y<h2.size:=fun y hy=>row_lt row tne hy
  refine rec_tail k hb1 hrow1 ((f2.tt f3).fresh st4.fr (fun y hy=>by have:=n3 y hy;omega)) W4 (fun y hy=>(st4.new y hy).elim (fun h1=>by have:=n3 y h1;omega) (fun h1=>by omega)) ((row.frame f3 (fun _ _=>id)).frame st4.fr (fun a ea hs=>by have:=hrl a.block ⟨a,ea,rfl⟩;have:=n3 _ hs;omega)) (fun y hy hs=> ?_) hk1
  have h1:=hrl y hy
  rcases st4.new y hs with h3|h3
  ·have:=n3 y h3;omega
  ·omega
def headC (s:CF):List UInt8:=encNum s.next++encNum s.acked++encNum s.over++encNum s.gone++encNum s.L.length
def recsC (s:CF):List (List UInt8):=headC s::s.L.map recC
theorem save_ok (H:Ct h t X s) (sm:Small s) (hc:s.acked≤50000∧s.over≤50000∧s.gone≤50000) (ok: ∀z∈s.L,okZ z) (tb:Num.Tab h) (hk: ∀h' p' l' c',BL h h' p' l' c' (recsC s)→Fr (fun _=>False) h h'→R (.slice p' l' c') h'):CallsH Tryz.prog F.copies_Table_Save #[.pointer (some ⟨t,0,none⟩)] h R:=by
 obtain⟨m,xs,a1,S1,a2,S2,lab,H⟩:=H
 have sn:=sm.n
 have sl:=sm.l
 have xl:=H.len
 refine copies_Table_Save.walk (made_ok H ⟨_,rfl, ?_⟩)
 rw[if_neg (by decide)]
 refine⟨_,cell_at H.blk rfl,_,cell_at H.blk rfl,_,cell_at H.blk rfl,_,cell_at H.blk rfl,_,cell_at H.blk rfl,Fld.new_ok fun h1 w S W f1 n1=> ?_⟩
 have nn: ∀k:Nat,natOf (k:Int)=k:=fun k=>by unfold natOf;rw[Int.toNat_natCast]
 have l1:=(encNum_len s.next).2
 have l2:=(encNum_len s.acked).2
 have l3:=(encNum_len s.over).2
 have l4:=(encNum_len s.gone).2
 have l5:=(encNum_len s.L.length).2
 have G1:=H.on f1
 refine⟨_,rfl,cell_at G1.blk rfl,cell_at G1.blk rfl,cell_at G1.blk rfl,cell_at G1.blk rfl,cell_at G1.blk rfl,Fld.int_ok W (by simp) (by omega) fun h2 S2 W2 st2=> ?_⟩
 rw[nn,List.nil_append] at W2
 have z1:=f1.1
 have F2:=f1.fresh st2.fr n1
 have n2: ∀y,S2 y→h.size≤y:=fun y hy=>(st2.new y hy).elim (n1 y) (fun h1=>by omega)
 have G2:=H.on F2
 have z2:=F2.1
 refine⟨_,rfl,cell_at G2.blk rfl,cell_at G2.blk rfl,cell_at G2.blk rfl,cell_at G2.blk rfl,Fld.int_ok W2 (by omega) (by omega) fun h3 S3 W3 st3=> ?_⟩
 rw[nn] at W3
 have F3:=F2.fresh st3.fr n2
 have n3: ∀y,S3 y→h.size≤y:=fun y hy=>(st3.new y hy).elim (n2 y) (fun h1=>by omega)
 have G3:=H.on F3
 have z3:=F3.1
 refine⟨_,rfl,cell_at G3.blk rfl,cell_at G3.blk rfl,cell_at G3.blk rfl,Fld.int_ok W3 (by simp only[List.length_append];omega) (by omega) fun h4 S4 W4 st4=> ?_⟩
 rw[nn] at W4
 have F4:=F3.fresh st4.fr n3
 have n4: ∀y,S4 y→h.size≤y:=fun y hy=>(st4.new y hy).elim (n3 y) (fun h1=>by omega)
 have G4:=H.on F4
 have z4:=F4.1
 refine⟨_,rfl,cell_at G4.blk rfl,cell_at G4.blk rfl,Fld.int_ok W4 (by simp only[List.length_append];omega) (by omega) fun h5 S5 W5 st5=> ?_⟩
 rw[nn] at W5
 have F5:=F4.fresh st5.fr n4
 have n5: ∀y,S5 y→h.size≤y:=fun y hy=>(st5.new y hy).elim (n4 y) (fun h1=>by omega)
 have G5:=H.on F5
 have z5:=F5.1
 refine⟨_,rfl,cell_at G5.blk rfl,_,lenV_P mapTy G5.map, ?_⟩
 rw[List.length_map,xl]
 refine Fld.int_ok W5 (by simp only[List.length_append];omega) (by omega) fun h6 S6 W6 st6=> ?_
 rw[nn] at W6
 have F6:=F5.fresh st6.fr n5
 have G6:=H.on F6
 have z6:=F6.1
 have er:encNum s.next++encNum s.acked++encNum s.over++encNum s.gone++encNum s.L.length=headC s:=rfl
 rw[er] at W6
 have lh:(headC s).length≤50:=by unfold headC;simp only[List.length_append];omega
 refine⟨_,rfl,cell_at G6.blk rfl,Fld.bytes_ok W6 (by omega) fun p7 c7 h7 o7 f7 n7=>⟨_,_,_,rfl, ?_⟩⟩
 have F7:=F6.tt f7
 have z7:=F7.1
 have B7:BL h h7 none 0 0 []:=BL.nil
 refine⟨cell_at (H.on F7).blk rfl,newP_of ?_⟩
 have f8:Fr (fun _=>False) h7 (h7.push (.cells #[.slice p7 (headC s).length c7] T.s_uint8)):=Fr.push _ _
 have o8:Own (h7.push (.cells #[.slice p7 (headC s).length c7] T.s_uint8)) (some ⟨h7.size,0,none⟩) 1 1 1 (nenc ⟨p7,c7,headC s⟩):= .row h7.size 0 _ _ rfl push_new (Nat.le_refl _) (by simp) rfl (fun j v hj=>by rw[Nat.zero_add];simpa using hj)
 have B8:BL h (h7.push (.cells #[.slice p7 (headC s).length c7] T.s_uint8)) (some ⟨h7.size,0,none⟩) 1 1 [headC s]:=by
  refine⟨[⟨p7,c7,headC s⟩],inBlk p7,rfl,by simpa using o8,rfl, ?_, ?_,fun y ⟨a,e,e2⟩=>by cases e;rw[←e2];exact z7⟩
  ·intro v hv
   obtain rfl:=List.mem_singleton.1 hv
   exact BV.of_own (o7.frame f8 (fun _ _=>id)) (fun _=>id)
  ·intro y hy
   have h1:=n7 y hy
   have h2:=o7.blk_lt hy
   exact⟨by omega,by rw[Array.size_push];omega,fun⟨a,e,e2⟩=>by cases e;have e2:h7.size=y:=e2;omega⟩
 generalize h7.push (.cells #[.slice p7 (headC s).length c7] T.s_uint8)=h8 at f8 B8⊢
 generalize (some ⟨h7.size,0,none⟩:Option Addr)=p8 at B8⊢
 clear o8
 have F8:=F7.tt f8
 have G8:=H.on F8
 refine⟨cell_at G8.blk rfl,numbers_ok G8 (by omega) fun h9 p9 c9 o9 n9 f9=>⟨_,_,_,rfl, ?_⟩⟩
 have F9:=F8.tt f9
 have z8:=F8.1
 refine⟨fun op ol oc q g=> ∃k:Nat,q=(k:Int)∧k≤xs.length∧BL h g op ol oc (headC s::(s.L.take k).map recC)∧Fr (fun _=>False) h g∧Own g p9 xs.length c9 1 ((nums xs).map ienc)∧(∀y,inBlk op y→ ¬inBlk p9 y),fun _ _ _ q _=>xs.length - q.toNat,⟨0,rfl,by omega,by simpa using B8.on f9,F9,o9,fun y hy hq=>by have:=B8.lt hy;have:=n9 y hq;omega⟩, ?_⟩
 rintro op ol oc _ g ⟨k,rfl,hkn,B,fg,og,hdis⟩
 by_cases hlt:k<xs.length
 ·have q1:(k:Int)<((xs.length:Nat):Int):=by omega
  simp only[q1,decide_true,if_true,Int.toNat_natCast]
  have hx:xs[k]? =some xs[k]:=List.getElem?_eq_getElem hlt
  generalize xs[k]=v at hx
  have hLk:s.L[k]? =some v.abs:=by rw[←H.abs,List.getElem?_map,hx];rfl
  have hv:=List.mem_of_getElem? hx
  have Gg:=H.on fg
  obtain⟨ab,aoff,rfl⟩:=og.addr (by omega)
  have cn:=og.cell (j:=k) (v:=ienc (v.num:Int)) (by unfold nums;rw[List.map_map,List.getElem?_map,hx];rfl)
  refine⟨⟨by first|trivial|omega,by first|trivial|omega⟩,onSome_some.2 ⟨_,by rw[Nat.mul_one];exact cn,_,cell_at Gg.blk rfl,_,look Gg hv,record_ok (Gg.cps v hv) (Gg.dat v hv).row (ok v.abs (List.mem_of_getElem? hLk)) (tb.on fg) fun p10 c10 h10 o10 f10 n10=>⟨_,_,_,rfl, ?_⟩⟩⟩
  have zg:=fg.1
  have bl:=B.len
  rw[List.length_cons,List.length_map,List.length_take] at bl
  have ogl: ∀y,inBlk (some (⟨ab,aoff,none⟩:Addr)) y→y<g.size:=fun y hy=>og.blk_lt hy
  have bbl: ∀y,inBlk op y→y<g.size:=fun y hy=>B.lt hy
  have z10:=f10.1
  refine(B.on f10).push (by omega) o10 (fun y hy=>⟨by have:=n10 y hy;omega,fun ho=>by have:=bbl y ho;have:=n10 y hy;omega⟩) (by omega) fun p11 c11 h11 B11 f11 g11=>⟨_,_,_,rfl, ?_⟩
  rw[wrap_id (by omega) (by omega)]
  refine⟨⟨k+1,by omega,by omega, ?_, ?_,(og.frame f10 (fun _ _=>id)).frame f11 (fun y hy hq=>hdis y hq hy),fun y hy hq=>(g11 y hy).elim (fun h1=>hdis y h1 hq) (fun h1=>by have:=ogl y hq;omega)⟩,by show xs.length - Int.toNat ((k:Int)+1)<xs.length - k;omega⟩
  ·rw[List.take_add_one,hLk,List.map_append]
   rw[List.cons_append] at B11
   exact B11
  ·obtain⟨_,_,_,_,_,_,_,h6'⟩:=B
   exact(fg.tt f10).fresh f11 h6'
 ·have q1: ¬(k:Int)<((xs.length:Nat):Int):=by omega
  simp only[q1,decide_false,Bool.false_eq_true,if_false]
  rw[List.take_of_length_le (by omega)] at B
  exact hk g op ol oc B fg
abbrev aenc (y:CV):List Value:= [.int .i64 (y.num:Int), .bool y.e.ipn, .int .u64 y.e.node, .int .u64 y.e.svc, .string y.e.host, .string y.e.dem,y.v.val, .int .u64 (y.till:Int), .int .i64 y.ses, .int .u64 (y.dl:Int)]
theorem aenc_len (y:CV):(aenc y).length=10:=rfl
theorem aenc_1 (y:CV): ∀v∈aenc y,oneCell v=true:=by
 intro v hv
 simp only[aenc,List.mem_cons,List.not_mem_nil,or_false] at hv
 rcases hv with rfl|rfl|rfl|rfl|rfl|rfl|rfl|rfl|rfl|rfl<;>rfl
theorem tA:SlTy Tryz.prog T.s_copies_Copy T.copies_Copy 10 112 (.agg #[.int .i64 0, .bool false, .int .u64 0, .int .u64 0, .string ⟨#[]⟩, .string ⟨#[]⟩, .slice none 0 0, .int .u64 0, .int .i64 0, .int .u64 0]):=⟨by kernel_rfl,by kernel_rfl,rfl⟩
theorem uA:Tryz.prog.underlying T.s_copies_Copy=some (.slice T.copies_Copy):=by kernel_rfl
theorem all_ok (H:Ct h t X s) (sm:Small s) (hd: ∀z∈s.L,z.d.length≤600) (hk: ∀h' p' c' (ys:List CV),Own h' p' ys.length c' 10 (ys.flatMap aenc)→ys.map CV.abs=s.L→(∀y∈ys,Row h' y.v.p (bc y.v.b))→Fr (fun _=>False) h h'→R (.slice p' ys.length c') h'):CallsH Tryz.prog F.copies_Table_All #[.pointer (some ⟨t,0,none⟩)] h R:=by
 obtain⟨m,xs,a1,S1,a2,S2,lab,H⟩:=H
 have sl:=sm.l
 have xl:=H.len
 refine copies_Table_All.walk (numbers_ok H (by omega) fun h1 p1 c1 o1 n1 f1=>⟨_,_,_,rfl, ?_⟩)
 refine⟨fun op ol oc q g=> ∃(k:Nat) (ys:List CV),q=(k:Int)∧k≤xs.length∧ol=ys.length∧ys.length=k∧Own g op ol oc 10 (ys.flatMap aenc)∧(∀y,inBlk op y→h1.size≤y)∧ys.map CV.abs=s.L.take k∧(∀y∈ys,Row g y.v.p (bc y.v.b))∧(∀y∈ys,∀z,inBlk y.v.p z→y.v.b≠ []→ ¬inBlk op z)∧Fr (fun _=>False) h1 g,fun _ _ _ q _=>xs.length - q.toNat,
  ⟨0, [],rfl,by omega,rfl,rfl, .nil rfl rfl rfl rfl,(fun y ⟨a,e,_⟩=>by cases e),by simp,(fun y hy=>by cases hy),(fun y hy=>by cases hy),Fr.refl _ _⟩, ?_⟩
 rintro op ol oc _ g ⟨k,ys,rfl,hkn,rfl,hyl,o,hop,hab,hrows,hdis,fg⟩
 have Gg:=H.on (f1.tt fg)
 by_cases hlt:k<xs.length
 ·have q1:(k:Int)<((xs.length:Nat):Int):=by omega
  simp only[q1,decide_true,if_true,Int.toNat_natCast]
  have hx:xs[k]? =some xs[k]:=List.getElem?_eq_getElem hlt
  generalize xs[k]=v at hx
  have hLk:s.L[k]? =some v.abs:=by rw[←H.abs,List.getElem?_map,hx];rfl
  have hv:=List.mem_of_getElem? hx
  have hvd:v.v.b.length≤600:=hd v.abs (List.mem_of_getElem? hLk)
  have og:=o1.frame fg (fun _ _=>id)
  obtain⟨ab,aoff,rfl⟩:=og.addr (by omega)
  have cn:=og.cell (j:=k) (v:=ienc (v.num:Int)) (by unfold nums;rw[List.map_map,List.getElem?_map,hx];rfl)
  have hvat:=Gg.cps v hv
  refine⟨⟨by first|trivial|omega,by first|trivial|omega⟩,onSome_some.2 ⟨_,by rw[Nat.mul_one];exact cn,_,cell_at Gg.blk rfl,_,look Gg hv,onSome_some.2 (copies_Copy.ld hvat (copies_Copy.new fun b2 h2 e2 hb2 f2=>⟨_,_,_,cell_at hb2 rfl,clone_ok ((Gg.dat v hv).row.frame f2 (fun _ _=>id)) rfl (by omega) fun p3 c3 h3 o3 f3 n3=>⟨_,_,_,rfl, ?_⟩⟩))⟩⟩
  have hb3:=f3.get hb2 id
  refine storeP_blk hb3 (by simp) fun h4 a4 s4 o4=> ?_
  have f4:Fr (fun y=>y=b2) h3 h4:=⟨by omega,fun y _ hn=>o4 y hn⟩
  have lb2:=lt_of_get hb2
  have a4':copies_Copy.at h4 b2 (v.num:Int) v.e.ipn v.e.node v.e.svc v.e.host v.e.dem p3 v.v.b.length c3 (v.till:Int) v.ses (v.dl:Int):=a4
  refine copies_Copy.ld a4' ?_
  have zg:=fg.1
  have z2:=f2.1
  have z3:=f3.1
  have F4:Fr (fun _=>False) g h4:=(f2.tt f3).fresh f4 (fun y e=>by omega)
  have oo:=o.frame F4 (fun _ _=>id)
  refine den_append1 tA uA oo rfl (fun w hw=>aenc_1 ({ v with v:=⟨p3,c3,v.v.b⟩ } :CV) w (by simpa using hw)) (by omega) (by omega) fun p5 c5 h5 o5 f5 g5=>⟨_,_,_,rfl, ?_⟩
  have z4:=F4.1
  have z5:=f5.1
  rw[wrap_id (by omega) (by omega)]
  have o3':Own h4 p3 v.v.b.length c3 1 (bc v.v.b):=o3.frame f4 (fun y hy e=>by have:=n3 y hy;omega)
  have n3': ∀y,inBlk p3 y→g.size≤y∧y<h4.size:=fun y hy=>⟨by have:=n3 y hy;omega,o3'.blk_lt hy⟩
  have opl: ∀y,inBlk op y→y<g.size:=fun y hy=>o.blk_lt hy
  refine⟨⟨k+1,ys++ [{ v with v:=⟨p3,c3,v.v.b⟩ }],by omega,by omega,by rw[List.length_append];rfl,by rw[List.length_append];show ys.length+1=_;omega, ?_,fun y hy=>(g5 y hy).elim (hop y) (fun h1=>by omega), ?_, ?_, ?_,(fg.tt F4).fresh f5 hop⟩,by show xs.length - Int.toNat ((k:Int)+1)<xs.length - k;omega⟩
  ·rw[List.flatMap_append]
   simpa using o5
  ·rw[List.map_append,hab,List.take_add_one,hLk];rfl
  ·intro y hy
   rcases List.mem_append.1 hy with hy|hy
   ·have r1:=(hrows y hy).frame F4 (fun _ _=>id)
    by_cases hne:y.v.b= []
    ·rw[hne];exact Row.nil
    ·exact r1.frame f5 (fun a ea hq=>hdis y hy a.block ⟨a,ea,rfl⟩ hne hq)
   ·obtain rfl:=List.mem_singleton.1 hy
    exact(o3'.frame f5 (fun y hy hq=>by have:=n3' y hy;have:=opl y hq;omega)).row'
  ·intro y hy z hz hne hq
   rcases List.mem_append.1 hy with hy|hy
   ·rcases g5 z hq with h1|h1
    ·exact hdis y hy z hz hne h1
    ·have:=row_lt (hrows y hy) (by intro e;apply hne;have:=congrArg List.length e;rw[bc_len] at this;exact List.length_eq_zero_iff.1 this) hz
     omega
   ·obtain rfl:=List.mem_singleton.1 hy
    rcases g5 z hq with h1|h1
    ·have:=(n3' z hz).1;have:=opl z h1;omega
    ·have:=(n3' z hz).2;omega
 ·have q1: ¬(k:Int)<((xs.length:Nat):Int):=by omega
  simp only[q1,decide_false,Bool.false_eq_true,if_false]
  rw[List.take_of_length_le (by omega)] at hab
  exact hk g op oc ys o hab hrows (f1.tt fg)
end Cps
end Go.Proofs.YtgccegnmggjkjaaGreatDoor
set_option maxRecDepth 100000
namespace Go.Proofs.YtgccegnmggjkjaaGreatDoor
open Go.Den Go.Heapq
namespace Cps
open Eid
structure OP where
 kind:Int
 num:Int
 ses:Int
 e:Ev
 p:Option Addr
 c:Nat
 b:List UInt8
 till:Nat
abbrev oenc (f:OP):List Value:= [.int .i64 f.kind, .int .i64 f.num, .int .i64 f.ses, .bool f.e.ipn, .int .u64 f.e.node, .int .u64 f.e.svc, .string f.e.host, .string f.e.dem, .slice f.p f.b.length f.c, .int .u64 (f.till:Int)]
end Cps
end Go.Proofs.YtgccegnmggjkjaaGreatDoor
set_option maxRecDepth 100000
namespace Go.Proofs.YtgccegnmggjkjaaGreatDoor
open Go.Den Go.Fields Go.Heapq
namespace Cps
open Eid Alarm Fld
variable {s s' : CF} {k : Nat} {f : OP}
theorem nd_le {α:Type} [DecidableEq α]: ∀ {l1 l2:List α},l1.Nodup→(∀a∈l1,a∈l2)→l1.length≤l2.length
 | [],_,_,_=>Nat.zero_le _
 |a::l,l2,h,hs=>by
  obtain⟨h1,h2⟩:=List.nodup_cons.1 h
  have:=nd_le (l1:=l) (l2:=l2.erase a) h2 (fun b hb=>(List.mem_erase_of_ne (fun e=>h1 (by rw[←e];exact hb))).2 (hs b (List.mem_cons_of_mem _ hb)))
  have h3:=List.length_erase_of_mem (hs a (by simp))
  have h4:0<l2.length:=List.length_pos_of_mem (hs a (by simp))
  rw[List.length_cons];omega
theorem nd_len {α:Type} [DecidableEq α] {l1 l2:List α} (h1:l1.Nodup) (h2:l2.Nodup) (hs: ∀a,a∈l1↔a∈l2):l1.length=l2.length:=
 Nat.le_antisymm (nd_le h1 (fun a ha=>(hs a).1 ha)) (nd_le h2 (fun a ha=>(hs a).2 ha))
theorem leased_len (ok:okC s) (O:Ord s):s.E2.length=(s.L.filter (fun z=>decide (z.ses≠0))).length:=by
 have e:((s.L.filter (fun z=>decide (z.ses≠0))).map (fun z=>(((z.num:Int),(z.dl:Int)):E))).length=(s.L.filter (fun z=>decide (z.ses≠0))).length:=List.length_map ..
 rw[←e]
 refine nd_len ?_ ?_ fun a=> ?_
 ·have:=O.n2
  unfold keys at this
  exact(List.pairwise_map.1 this).imp (fun h e=>h (congrArg _ e))
 ·have h1:((s.L.filter (fun z=>decide (z.ses≠0))).map Cp.num).Nodup:=List.Pairwise.sublist (List.Sublist.map _ List.filter_sublist) O.nd
  exact List.pairwise_map.2 ((List.pairwise_map.1 h1).imp (fun h e=>h (Int.ofNat.inj (congrArg Prod.fst e))))
 ·rw[ok.e2,List.mem_map]
  constructor
  ·rintro⟨z,hz,hs,rfl⟩;exact⟨z,List.mem_filter.2 ⟨hz,decide_eq_true hs⟩,rfl⟩
  ·rintro⟨z,hz,rfl⟩
   obtain⟨h1,h2⟩:=List.mem_filter.1 hz
   exact⟨z,h1,of_decide_eq_true h2,rfl⟩
theorem sorted_ext: ∀ {l l':List E},Sorted l→Sorted l'→(∀e,e∈l↔e∈l')→l=l'
 | [], [],_,_,_=>rfl
 | [],a::_,_,_,hm=>by have:=(hm a).2 (by simp);cases this
 |a::_, [],_,_,hm=>by have:=(hm a).1 (by simp);cases this
 |a::l,b::l',h,h',hm=>by
  obtain⟨h1,h2⟩:=List.pairwise_cons.1 h
  obtain⟨g1,g2⟩:=List.pairwise_cons.1 h'
  have e:a=b:=by
   rcases List.mem_cons.1 ((hm a).1 (by simp)) with e|e
   ·exact e
   ·rcases List.mem_cons.1 ((hm b).2 (by simp)) with e2|e2
    ·exact e2.symm
    ·exact absurd (Heapq.lt_trans (h1 b e2) (g1 a e)) (Heapq.lt_irrefl a)
  subst e
  rw[sorted_ext h2 g2 fun x=>⟨fun hx=> ?_,fun hx=> ?_⟩]
  ·rcases List.mem_cons.1 ((hm x).1 (List.mem_cons_of_mem _ hx)) with e|e
   ·subst e;exact absurd (h1 x hx) (Heapq.lt_irrefl x)
   ·exact e
  ·rcases List.mem_cons.1 ((hm x).2 (List.mem_cons_of_mem _ hx)) with e|e
   ·subst e;exact absurd (g1 x hx) (Heapq.lt_irrefl x)
   ·exact e
theorem okZ.free {z:Cp} (k:okZ z):okZ { z with ses:=0,dl:=0 } :=⟨k.r,k.v,k.d,k.n,k.t,by show(0:Int)≤0;omega,by show(0:Int)≤1099511627776;omega,by show 0≤1099511627776;omega⟩
theorem okZ.lease {z:Cp} (k:okZ z) {ses:Int} {dl:Nat} (hm:mayS ses dl):okZ { z with ses:=ses,dl:=dl } :=⟨k.r,k.v,k.d,k.n,k.t,by have:=hm.1;show 0≤ses;omega,hm.2.1,hm.2.2⟩
theorem state_ext (ok:okC s) (O:Ord s) (ok':okC s') (O':Ord s') (hL:s'.L=s.L) (h1:s'.next=s.next) (h2:s'.acked=s.acked) (h3:s'.over=s.over) (h4:s'.gone=s.gone):s'=s:=by
 have e1:s'.E1=s.E1:=sorted_ext O'.o1 O.o1 fun e=>by rw[ok'.e1,ok.e1,hL]
 have e2:s'.E2=s.E2:=sorted_ext O'.o2 O.o2 fun e=>by rw[ok'.e2,ok.e2,hL]
 cases s;cases s'
 simp only at hL h1 h2 h3 h4 e1 e2
 subst hL h1 h2 h3 h4 e1 e2
 rfl
structure Good (s:CF) (k:Nat):Prop where
 ok:okC s
 all: ∀z∈s.L,okZ z
 may: ∀z∈s.L,mayC z.e z.d.length (z.till:Int)=true
 fr: ∀z∈s.L,z.ses=0→z.dl=0
 full: ∀e,(ofL s.L e).length≤16
 len:s.next≤k+1
theorem Good.nil:Good ⟨[],1,0,0,0, [], []⟩ 0:=⟨⟨(fun z hz=>by cases hz),(fun z hz=>by cases hz),(fun e=>by simp),(fun e=>by simp),rfl⟩,(fun z hz=>by cases hz),(fun z hz=>by cases hz),(fun z hz=>by cases hz),fun _=>Nat.zero_le _,Nat.le_refl _⟩
theorem Good.L (G:Good s k):s.L.length≤k∧s.acked≤k∧s.over≤k∧s.gone≤k:=by
 have:=G.ok.cnt
 have:=G.len
 omega
theorem Good.small (G:Good s k) (O:Ord s) (hk:k≤40000):Small s:=by
 have h1:=G.L
 have h2:=G.len
 have nd: ∀ {l:List E},(keys l).Nodup→l.Nodup:=fun {l} hn=>(List.pairwise_map.1 hn).imp (fun h e=>h (congrArg _ e))
 have e1:s.E1.length≤s.L.length:=by
  have:=nd_le (l2:=s.L.map (fun z=>(((z.num:Int),(z.till:Int)):E))) (nd O.n1) (fun e he=>by
   obtain⟨z,hz,rfl⟩:=(G.ok.e1 e).1 he
   exact List.mem_map.2 ⟨z,hz,rfl⟩)
  rwa[List.length_map] at this
 have e2:s.E2.length≤s.L.length:=by
  rw[leased_len G.ok O];exact List.length_filter_le _ _
 exact⟨by omega,by omega,by omega,by omega⟩
theorem Good.held (G:Good s k):Held s:=fun j hj=>by
 unfold keys at hj
 obtain⟨e,he,rfl⟩:=List.mem_map.1 hj
 obtain⟨z,hz,_,rfl⟩:=(G.ok.e2 e).1 he
 exact⟨z,hz,rfl⟩
theorem Good.more (G:Good s k):Good s (k+1):=⟨G.ok,G.all,G.may,G.fr,G.full,by have:=G.len;omega⟩
theorem Good.sub (G:Good s k) (ok':okC s') (P:Cp→Bool) (g:Cp→Cp) (hg: ∀z,(g z).e=z.e∧(g z).d=z.d∧(g z).till=z.till) (hz: ∀z∈s.L,okZ (g z)∧((g z).ses=0→(g z).dl=0)) (hL:s'.L=(s.L.filter P).map g) (hn:s'.next=s.next):Good s' (k+1):=by
 have mem: ∀z∈s'.L,∃y∈s.L,z=g y:=fun z hz=>by
  rw[hL] at hz
  obtain⟨y,hy,rfl⟩:=List.mem_map.1 hz
  exact⟨y,(List.mem_filter.1 hy).1,rfl⟩
 refine⟨ok',fun z h=> ?_,fun z h=> ?_,fun z h=> ?_,fun e=> ?_,by have:=G.len;omega⟩
 ·obtain⟨y,hy,rfl⟩:=mem z h;exact(hz y hy).1
 ·obtain⟨y,hy,rfl⟩:=mem z h
  rw[(hg y).1,(hg y).2.1,(hg y).2.2];exact G.may y hy
 ·obtain⟨y,hy,rfl⟩:=mem z h;exact(hz y hy).2
 ·have h1:ofL s'.L e=(ofL (s.L.filter P) e).map g:=by
   rw[hL];unfold ofL
   rw[List.filter_map]
   congr 1
   refine List.filter_congr fun z _=> ?_
   show decide ((g z).e=e)=decide (z.e=e)
   rw[(hg z).1]
  rw[h1,List.length_map]
  exact Nat.le_trans ((List.Sublist.filter _ List.filter_sublist).length_le) (G.full e)
theorem filter_tt (L:List Cp):L.filter (fun _=>true)=L:=List.filter_eq_self.2 fun _ _=>rfl
theorem Good.set (G:Good s k) (ok':okC s') {n:Nat} {ses:Int} {dl:Nat} (h0:mayS ses dl∨(ses=0∧dl=0)) (hL:s'.L=setC s.L n ses dl) (hn:s'.next=s.next):Good s' (k+1):=by
 refine G.sub ok' (fun _=>true) (fun x=>if x.num=n then { x with ses:=ses,dl:=dl } else x) (fun z=>by split<;>exact⟨rfl,rfl,rfl⟩) (fun z hz=> ?_) (by rw[filter_tt];exact hL) hn
 split
 ·rcases h0 with h0|⟨rfl,rfl⟩
  ·exact⟨(G.all z hz).lease h0,fun e=>by have:=h0.1;dsimp only at e;omega⟩
  ·exact⟨(G.all z hz).free,fun _=>rfl⟩
 ·exact⟨G.all z hz,G.fr z hz⟩
theorem Good.out (G:Good s k) (ok':okC s') {P:Cp→Bool} (hL:s'.L=s.L.filter P) (hn:s'.next=s.next):Good s' (k+1):=
 G.sub ok' P id (fun _=>⟨rfl,rfl,rfl⟩) (fun z hz=>⟨G.all z hz,G.fr z hz⟩) (by rw[List.map_id];exact hL) hn
instance (ses : Int) (dl : Nat) : Decidable (mayS ses dl) := by unfold mayS; infer_instance
def doS (f:OP) (s:CF):CF:=
 if f.kind=0 then addF s f.e f.b f.till
 else if f.kind=1 then(if mayS f.ses f.till then(match leaseC s.L f.e with|none=>s|some z=>leaseF s z f.ses f.till) else s)
 else if f.kind=2 then ackF s f.num f.ses
 else if f.kind=3 then relF s f.num f.ses
 else if f.kind=4 then passF s (f.till:Int)
 else if f.kind=5 then dropF s f.e
 else s
theorem Good.do (G:Good s k) (O:Ord s) (hsv:0≤f.e.svc) (hk:k≤30000):Good (doS f s) (k+1):=by
 unfold doS
 split
 ·
  have ok':=G.ok.add f.e f.b f.till
  by_cases h0:addE s f.e f.b f.till=0
  ·have eF:addF s f.e f.b f.till= { s with L:=s.L++ [⟨s.next,f.e,f.b,f.till,0,0⟩],next:=s.next+1,E1:=setL s.E1 (s.next:Int) (f.till:Int) } :=if_pos h0
   have hm:mayC f.e f.b.length (f.till:Int)=true∧(ofL s.L f.e).length<16:=by
    unfold addE at h0
    split at h0
    ·rename_i hm
     refine⟨hm, ?_⟩
     split at h0
     ·cases h0
     ·omega
    ·cases h0
   have hp:rightE f.e=true∧f.b.length≤600∧f.till≤1099511627776:=by
    have:=hm.1
    unfold mayC at this
    simp only[Bool.and_eq_true,Bool.not_eq_true',decide_eq_true_eq,decide_eq_false_iff_not] at this
    exact⟨this.1,by omega,by omega⟩
   have ln:=G.len
   rw[eF] at ok'⊢
   have mem: ∀ {Q:Cp→Prop},(∀z∈s.L,Q z)→Q ⟨s.next,f.e,f.b,f.till,0,0⟩→ ∀z∈s.L++ [⟨s.next,f.e,f.b,f.till,0,0⟩],Q z:=fun h1 h2 z hz=>by
    rcases List.mem_append.1 hz with hz|hz
    ·exact h1 z hz
    ·obtain rfl:=List.mem_singleton.1 hz;exact h2
   refine⟨ok',mem G.all ⟨hp.1,hsv,hp.2.1,by show s.next≤1000000;omega,hp.2.2,by show(0:Int)≤0;omega,by show(0:Int)≤1099511627776;omega,by show 0≤1099511627776;omega⟩,mem G.may hm.1,mem G.fr (fun _=>rfl),fun e=> ?_,by show s.next+1≤_;omega⟩
   show(ofL (s.L++ [⟨s.next,f.e,f.b,f.till,0,0⟩]) e).length≤16
   unfold ofL
   rw[List.filter_append,List.length_append]
   have g1:=G.full e
   have g2:=hm.2
   unfold ofL at g1 g2
   by_cases he:f.e=e
   ·subst he
    simp
    omega
   ·simp[he]
    exact g1
  ·have eF:addF s f.e f.b f.till=s:=if_neg h0
   rw[eF];exact G.more
 split
 ·
  split
  ·rename_i hm
   cases hl:leaseC s.L f.e with
   |none=>exact G.more
   |some z=>exact G.set (G.ok.lease O (leaseC_mem hl).1 hm) (.inl hm) rfl rfl
  ·exact G.more
 split
 ·
  have ok':=G.ok.ack O f.num f.ses
  unfold ackF at ok'⊢
  split
  ·rename_i h0
   rw[if_pos h0] at ok'
   exact G.out ok' (P:=fun x=> !decide ((x.num:Int)=f.num)) rfl rfl
  ·exact G.more
 split
 ·
  have ok':=G.ok.rel O f.num f.ses
  unfold relF at ok'⊢
  split
  ·rename_i h0
   rw[if_pos h0] at ok'
   exact G.set ok' (.inr ⟨rfl,rfl⟩) rfl rfl
  ·exact G.more
 split
 ·
  obtain⟨h1,_,h3,_,_,h6,_⟩:=pass_all2 G.ok O (f.till:Int)
  refine G.sub h1 _ (freeZ (f.till:Int)) (fun z=>by unfold freeZ;split<;>exact⟨rfl,rfl,rfl⟩) (fun z hz=> ?_) h6 h3
  unfold freeZ
  split
  ·exact⟨(G.all z hz).free,fun _=>rfl⟩
  ·exact⟨G.all z hz,G.fr z hz⟩
 split
 ·
  have e:=fold_gone ((ofL s.L f.e).map (fun z=>(z.num:Int))) s
  refine G.out (G.ok.drop O f.e) (P:=fun z=> !decide ((z.num:Int)∈(ofL s.L f.e).map (fun z=>(z.num:Int)))) ?_ ?_
  ·unfold dropF;rw[e];rfl
  ·unfold dropF;rw[e]
 ·exact G.more
end Cps
end Go.Proofs.YtgccegnmggjkjaaGreatDoor
namespace Go.Den
def writeAt:List Value→Nat→List Value→List Value
 |cs,_, []=>cs
 |cs,p,v::vs=>writeAt (cs.set p v) (p+1) vs
theorem writeAt_len: ∀(vs cs:List Value) (p:Nat),(writeAt cs p vs).length=cs.length
 | [],cs,p=>rfl
 |v::vs,cs,p=>by unfold writeAt;rw[writeAt_len vs,List.length_set]
theorem writeAt_at: ∀(vs cs:List Value) (p:Nat),p+vs.length≤cs.length→ ∀j,(writeAt cs p vs)[j]? =if p≤j∧j<p+vs.length then vs[j - p]? else cs[j]?
 | [],cs,p,_,j=>by unfold writeAt;rw[if_neg (by rw[List.length_nil];omega)]
 |v::vs,cs,p,hl,j=>by
  unfold writeAt
  rw[List.length_cons] at hl⊢
  rw[writeAt_at vs _ (p+1) (by rw[List.length_set];omega) j,List.getElem?_set]
  by_cases h1:p+1≤j∧j<p+1+vs.length
  ·rw[if_pos h1,if_pos (by omega),show j - p=(j - (p+1))+1 by omega,List.getElem?_cons_succ]
  ·rw[if_neg h1]
   by_cases h2:p=j
   ·subst h2
    rw[if_pos rfl,if_pos (by omega),if_pos (by omega),Nat.sub_self];rfl
   ·rw[if_neg h2,if_neg (by omega)]
theorem Own.storeL {a:Addr} {len cap sz p:Nat} {K:Heap→Prop} : ∀(vs:List Value) (k:Nat) (h:Heap) (cs:List Value),Own h (.some a) len cap sz cs→(∀v∈vs,oneCell v=true)→p+k+vs.length≤cs.length→
  (∀h',Own h' (.some a) len cap sz (writeAt cs (p+k) vs)→h'.size=h.size→(∀x,¬inBlk (.some a) x→h'[x]? =h[x]?)→K h')→Den.storeL (a.add p) vs k h K
 | [],k,h,cs,o,_,_,hk=>hk h o rfl (fun _ _=>rfl)
 |v::vs,k,h,cs,o,hv,hl,hk=>by
  rw[List.length_cons] at hl
  unfold Den.storeL
  rw[hv v List.mem_cons_self]
  dsimp only
  rw[add_add]
  refine o.store (by omega) fun h1 o1 s1 q1=> ?_
  refine Own.storeL vs (k+1) h1 _ o1 (fun u hu=>hv u (List.mem_cons_of_mem _ hu)) (by rw[List.length_set];omega) fun h2 o2 s2 q2=>hk h2 ?_ (by omega) (fun x hx=>by rw[q2 x hx,q1 x hx])
  unfold writeAt
  rw[show p+k+1=p+(k+1) by omega]
  exact o2
theorem Own.storeRow {h:Heap} {a:Addr} {len cap sz:Nat} {α:Type} {enc:α→List Value} {xs:List α} {i:Nat} {y:α} {K:Heap→Prop} (o:Own h (.some a) len cap sz (xs.flatMap enc)) (henc: ∀x,(enc x).length=sz) (hone: ∀v∈enc y,oneCell v=true) (hi:i<xs.length)
  (hk: ∀h',Own h' (.some a) len cap sz ((xs.set i y).flatMap enc)→h'.size=h.size→(∀x,¬inBlk (.some a) x→h'[x]? =h[x]?)→K h'):Den.storeL (a.add (i*sz)) (enc y) 0 h K:=by
 have hl:=flat_len enc sz henc xs
 have hb:i*sz+sz≤xs.length*sz:=by
  have:=Nat.mul_le_mul_right sz (show i+1≤xs.length by omega)
  rwa[Nat.add_mul,Nat.one_mul] at this
 refine Own.storeL (enc y) 0 h _ o hone (by rw[henc,hl];omega) fun h' o' s' q'=>hk h' ?_ s' q'
 have e:writeAt (xs.flatMap enc) (i*sz+0) (enc y)=(xs.set i y).flatMap enc:=by
  refine flat_set enc sz henc xs i y hi _ (writeAt_len _ _ _) ?_ ?_
  ·intro j hj
   rw[writeAt_at _ _ _ (by rw[henc,hl];omega),henc]
   rw[if_neg]
   rintro⟨h1,h2⟩
   rcases hj with hj|hj
   ·apply hj
    have hz:0<sz:=by omega
    rw[Nat.div_eq_iff hz]
    constructor
    ·omega
    ·omega
   ·omega
  ·intro j v hj hv
   rw[writeAt_at _ _ _ (by rw[henc,hl];omega),henc,if_pos (by omega),show i*sz+j - (i*sz+0)=j by omega]
   exact hv
 rw[e] at o'
 exact o'
def swp {α:Type} (xs:List α) (i j:Nat):List α:=
 match xs[i]?,xs[j]? with
 |some x,some y=>(xs.set i y).set j x
 |_,_=>xs
theorem swp_eq {α:Type} {xs:List α} {i j:Nat} {x y:α} (hx:xs[i]? =some x) (hy:xs[j]? =some y):(xs.set i y).set j x=swp xs i j:=by unfold swp;rw[hx,hy]
theorem swp_at {α:Type} {xs:List α} {i j:Nat} (hi:i<xs.length) (hj:j<xs.length) (k:Nat):(swp xs i j)[k]? =if k=j then xs[i]? else if k=i then xs[j]? else xs[k]? :=by
 have e1:xs[i]? =some xs[i]:=List.getElem?_eq_getElem hi
 have e2:xs[j]? =some xs[j]:=List.getElem?_eq_getElem hj
 unfold swp
 rw[e1,e2]
 dsimp only
 rw[List.getElem?_set,List.getElem?_set,List.length_set]
 by_cases h1:j=k
 ·subst h1;rw[if_pos rfl,if_pos hj,if_pos rfl]
 ·rw[if_neg h1,if_neg (Ne.symm h1)]
  by_cases h2:i=k
  ·subst h2;rw[if_pos rfl,if_pos hi,if_pos rfl]
  ·rw[if_neg h2,if_neg (Ne.symm h2)]
theorem swp_perm {α:Type} {xs:List α} {i j:Nat} (hi:i<xs.length) (hj:j<xs.length):(swp xs i j).Perm xs:=by
 unfold swp
 rw[List.getElem?_eq_getElem hi,List.getElem?_eq_getElem hj]
 dsimp only
 exact List.set_set_perm hi hj
end Go.Den
namespace Go.Den
section
variable {α : Type} {lt : α → α → Prop} {xs ys : List α} {a b i j : Nat}
def SortedOn (lt:α→α→Prop) (xs:List α) (a b:Nat):Prop:= ∀(p q:Nat) x y,a≤p→p<q→q<b→xs[p]? =some x→xs[q]? =some y→lt x y
theorem SortedOn.pair (h:SortedOn lt xs 0 xs.length):xs.Pairwise lt:=by
 rw[List.pairwise_iff_getElem]
 intro i j hi hj hij
 exact h i j _ _ (Nat.zero_le _) hij hj (List.getElem?_eq_getElem hi) (List.getElem?_eq_getElem hj)
theorem SortedOn.small (h:b≤a+1):SortedOn lt xs a b:=fun p q _ _ h1 h2 h3=>by omega
structure InsI (lt:α→α→Prop) (xs ys:List α) (a i j:Nat):Prop where
 perm:ys.Perm xs
 out: ∀k,k<a∨i<k→ys[k]? =xs[k]?
 so: ∀(p q:Nat) x y,a≤p→p<q→q≤i→p≠j→q≠j→ys[p]? =some x→ys[q]? =some y→lt x y
 up: ∀(q:Nat) x y,j<q→q≤i→ys[j]? =some x→ys[q]? =some y→lt x y
theorem InsI.start (h:SortedOn lt xs a i):InsI lt xs xs a i i:=
 ⟨.refl _,fun _ _=>rfl,fun p q x y h1 h2 h3 _ h5=>h p q x y h1 h2 (by omega),fun q x y h1 h2=>by omega⟩
theorem InsI.swap {x y:α} (H:InsI lt xs ys a i j) (hj:a<j) (hji:j≤i) (hi:i<ys.length) (hx:ys[j]? =some x) (hy:ys[j - 1]? =some y) (hl:lt x y):InsI lt xs (swp ys j (j - 1)) a i (j - 1):=by
 have at_: ∀k:Nat,(swp ys j (j - 1))[k]? =if k=j - 1 then ys[j]? else if k=j then ys[j - 1]? else ys[k]? :=swp_at (by omega) (by omega)
 refine⟨(swp_perm (by omega) (by omega)).trans H.perm,fun k hk=> ?_,fun p q u v h1 h2 h3 h4 h5 hu hv=> ?_,fun q u v h1 h2 hu hv=> ?_⟩
 ·rw[at_,if_neg (by omega),if_neg (by omega)];exact H.out k hk
 ·rw[at_,if_neg h4] at hu
  rw[at_,if_neg h5] at hv
  by_cases p0:p=j
  ·rw[if_pos p0] at hu
   rw[if_neg (by omega)] at hv
   exact H.so (j - 1) q u v (by omega) (by omega) h3 (by omega) (by omega) hu hv
  ·rw[if_neg p0] at hu
   by_cases q0:q=j
   ·rw[if_pos q0] at hv
    exact H.so p (j - 1) u v h1 (by omega) (by omega) p0 (by omega) hu hv
   ·rw[if_neg q0] at hv
    exact H.so p q u v h1 h2 h3 p0 q0 hu hv
 ·rw[at_,if_pos rfl] at hu
  rw[at_,if_neg (by omega)] at hv
  by_cases q0:q=j
  ·rw[if_pos q0] at hv
   rw[hx] at hu;rw[hy] at hv
   cases hu;cases hv;exact hl
  ·rw[if_neg q0] at hv
   exact H.up q u v (by omega) h2 hu hv
theorem InsI.stop (htr: ∀ {x y z},lt x y→lt y z→lt x z) (H:InsI lt xs ys a i j) (hj:a≤j) (hji:j≤i) (hi:i<ys.length) (he:j=a∨ ∀x y,ys[j]? =some x→ys[j - 1]? =some y→lt y x):SortedOn lt ys a (i+1):=by
 intro p q u v h1 h2 h3 hu hv
 by_cases p0:p=j
 ·subst p0;exact H.up q u v h2 (by omega) hu hv
 ·by_cases q0:q=j
  ·subst q0
   rcases he with he|he
   ·omega
   ·have hw:ys[q - 1]? =some (ys[q - 1]'(by omega)):=List.getElem?_eq_getElem _
    have hl:=he _ _ hv hw
    by_cases p1:p=q - 1
    ·subst p1;rw[hw] at hu;cases hu;exact hl
    ·exact htr (H.so p (q - 1) _ _ h1 (by omega) (by omega) p0 (by omega) hu hw) hl
  ·exact H.so p q u v h1 h2 (by omega) p0 q0 hu hv
end
end Go.Den
set_option maxRecDepth 100000
set_option maxHeartbeats 4000000
namespace Go.Proofs.YtgccegnmggjkjaaGreatDoor
open Go.Den
variable {h : Heap} {R : Value → Heap → Prop}
theorem math_bits_Len.walk {x : Int} (hv :
 Cl F.math_bits_Len64 #[.int .u64 x] h fun v h_1 =>
 ∃ t7, v = .int .i64 t7 ∧
 R (.int .i64 t7) h_1) : CallsH Tryz.prog F.math_bits_Len #[.int .u64 x] h R :=
 callsH_of_body (.seq .leaf (.seq (.cond (.seq .leaf .leaf) .leaf) (.seq .leaf .leaf))) Tryz.func191 rfl rfl (Eq.mp (by kernel_rfl) hv)
theorem math_bits_Len64.walk {x : Int} (hv :
 JoinP (fun (x_1 : Int) (n : Int) (h_1 : Heap) =>
 JoinP (fun (x_2 : Int) (n_1 : Int) (h_2 : Heap) =>
 JoinP (fun (x_3 : Int) (n_2 : Int) (h_3 : Heap) =>
 ((0 : Int) ≤ IntKind.wrap .u8 x_3 ∧ IntKind.wrap .u8 x_3 < (((⟨#[0, 1, 2, 2, 3, 3, 3, 3, 4, 4, 4, 4, 4, 4, 4, 4, 5, 5, 5, 5, 5, 5, 5, 5, 5, 5, 5, 5, 5, 5, 5, 5, 6, 6, 6, 6, 6, 6, 6, 6, 6, 6, 6, 6, 6, 6, 6, 6, 6, 6, 6, 6, 6, 6, 6, 6, 6, 6, 6, 6, 6, 6, 6, 6, 7, 7, 7, 7, 7, 7, 7, 7, 7, 7, 7, 7, 7, 7, 7, 7, 7, 7, 7, 7, 7, 7, 7, 7, 7, 7, 7, 7, 7, 7, 7, 7, 7, 7, 7, 7, 7, 7, 7, 7, 7, 7, 7, 7, 7, 7, 7, 7, 7, 7, 7, 7, 7, 7, 7, 7, 7, 7, 7, 7, 7, 7, 7, 7, 8, 8, 8, 8, 8, 8, 8, 8, 8, 8, 8, 8, 8, 8, 8, 8, 8, 8, 8, 8, 8, 8, 8, 8, 8, 8, 8, 8, 8, 8, 8, 8, 8, 8, 8, 8, 8, 8, 8, 8, 8, 8, 8, 8, 8, 8, 8, 8, 8, 8, 8, 8, 8, 8, 8, 8, 8, 8, 8, 8, 8, 8, 8, 8, 8, 8, 8, 8, 8, 8, 8, 8, 8, 8, 8, 8, 8, 8, 8, 8, 8, 8, 8, 8, 8, 8, 8, 8, 8, 8, 8, 8, 8, 8, 8, 8, 8, 8, 8, 8, 8, 8, 8, 8, 8, 8, 8, 8, 8, 8, 8, 8, 8, 8, 8, 8, 8, 8, 8, 8, 8, 8, 8, 8, 8, 8, 8, 8]⟩ : ByteArray).size : Nat) : Int)) ∧
 R (.int .i64 (IntKind.wrap .i64 (n_2 + (IntKind.wrap .i64 ((((⟨#[0, 1, 2, 2, 3, 3, 3, 3, 4, 4, 4, 4, 4, 4, 4, 4, 5, 5, 5, 5, 5, 5, 5, 5, 5, 5, 5, 5, 5, 5, 5, 5, 6, 6, 6, 6, 6, 6, 6, 6, 6, 6, 6, 6, 6, 6, 6, 6, 6, 6, 6, 6, 6, 6, 6, 6, 6, 6, 6, 6, 6, 6, 6, 6, 7, 7, 7, 7, 7, 7, 7, 7, 7, 7, 7, 7, 7, 7, 7, 7, 7, 7, 7, 7, 7, 7, 7, 7, 7, 7, 7, 7, 7, 7, 7, 7, 7, 7, 7, 7, 7, 7, 7, 7, 7, 7, 7, 7, 7, 7, 7, 7, 7, 7, 7, 7, 7, 7, 7, 7, 7, 7, 7, 7, 7, 7, 7, 7, 8, 8, 8, 8, 8, 8, 8, 8, 8, 8, 8, 8, 8, 8, 8, 8, 8, 8, 8, 8, 8, 8, 8, 8, 8, 8, 8, 8, 8, 8, 8, 8, 8, 8, 8, 8, 8, 8, 8, 8, 8, 8, 8, 8, 8, 8, 8, 8, 8, 8, 8, 8, 8, 8, 8, 8, 8, 8, 8, 8, 8, 8, 8, 8, 8, 8, 8, 8, 8, 8, 8, 8, 8, 8, 8, 8, 8, 8, 8, 8, 8, 8, 8, 8, 8, 8, 8, 8, 8, 8, 8, 8, 8, 8, 8, 8, 8, 8, 8, 8, 8, 8, 8, 8, 8, 8, 8, 8, 8, 8, 8, 8, 8, 8, 8, 8, 8, 8, 8, 8, 8, 8, 8, 8, 8, 8, 8, 8]⟩ : ByteArray).data.toList.getD (Int.toNat (IntKind.wrap .u8 x_3)) 0).toNat : Nat) : Int))))) h_3)
 (fun J_2 =>
 if (decide (x_2 ≥ 256)) = true then
 J_2 (Int.fdiv x_2 (2 ^ min (Int.toNat 8) (IntKind.bits .u64))) (IntKind.wrap .i64 (n_1 + 8)) h_2
 else
 J_2 x_2 n_1 h_2))
 (fun J_1 =>
 if (decide (x_1 ≥ 65536)) = true then
 J_1 (Int.fdiv x_1 (2 ^ min (Int.toNat 16) (IntKind.bits .u64))) (IntKind.wrap .i64 (n + 16)) h_1
 else
 J_1 x_1 n h_1))
 (fun J =>
 if (decide (x ≥ 4294967296)) = true then
 J (Int.fdiv x (2 ^ min (Int.toNat 32) (IntKind.bits .u64))) 32 h
 else
 J x 0 h)) : CallsH Tryz.prog F.math_bits_Len64 #[.int .u64 x] h R :=
 callsH_of_body (.seq .leaf (.seq (.seq .leaf (.join [(0, .one (.int .u64)), (2, .one (.int .i64))] (.cond (.seq .leaf .leaf) .leaf))) (.seq (.seq .leaf (.join [(0, .one (.int .u64)), (2, .one (.int .i64))] (.cond (.seq .leaf .leaf) .leaf))) (.seq (.seq .leaf (.join [(0, .one (.int .u64)), (2, .one (.int .i64))] (.cond (.seq .leaf .leaf) .leaf))) (.seq .leaf .leaf))))) Tryz.func214 rfl rfl (Eq.mp (by kernel_rfl) hv)
end Go.Proofs.YtgccegnmggjkjaaGreatDoor
set_option maxRecDepth 100000
namespace Go.Proofs.YtgccegnmggjkjaaGreatDoor
open Go.Den
namespace Regs
open Eid
variable {h h' : Heap} {R : Value → Heap → Prop} {b : Nat} {X : Ft} {L xs : List Rg} {m n c : Nat} {p : Option Addr}
theorem genc_one (r:Rg): ∀v∈genc r,oneCell v=true:=by
 intro v hv
 simp only[List.mem_cons,List.not_mem_nil,or_false] at hv
 rcases hv with rfl|rfl|rfl|rfl|rfl|rfl|rfl<;>rfl
theorem cmp_ok (x y:Rg) (hk: ∀h',Fr (fun _=>False) h h'→R (.int .i64 (if lessE x.e y.e=true then -1 else 1)) h'):CallsH Tryz.prog F.regs_Table_All_1 #[x.val,y.val] h R:=by
 refine regs_Table_All_1.walk (regs_Reg.box fun b1 h1 e1 hb1 f1=>regs_Reg.box fun b2 h2 e2 hb2 f2=>ld_e (r:=x) (f2.get hb1 id) (ld_e (r:=y) hb2 (less_ok x.e y.e fun h3 f3=>⟨_,rfl, ?_⟩)))
 have K:=hk h3 (f1.tt (f2.tt f3))
 by_cases q:lessE x.e y.e=true
 ·rw[if_pos q];rw[if_pos q] at K;exact K
 ·rw[if_neg q];rw[if_neg q] at K;exact K
theorem tG:SlTy Tryz.prog T.s_regs_Reg T.regs_Reg 7 72 (Rg.zero).val:=⟨by kernel_rfl,by kernel_rfl,rfl⟩
theorem uG:Tryz.prog.underlying T.s_regs_Reg=some (.slice T.regs_Reg):=by kernel_rfl
def unp (x:Ev×Value):Rg:=
 match x.2 with
 | .agg ⟨[_,_,_,_,_, .int _ a, .int _ b]⟩=>⟨x.1,a,b⟩
 |_=> .zero
abbrev KeysNd (xs:List Rg):Prop:=(xs.map Rg.e).Nodup
theorem KeysNd.ne {i j:Nat} {x y:Rg} (hn:KeysNd xs) (hx:xs[i]? =some x) (hy:xs[j]? =some y) (hij:i≠j):x.e≠y.e:=fun e=>by
 apply hij
 have hi:=(List.getElem?_eq_some_iff.1 hx).1
 exact(List.getElem?_inj (l:=xs.map Rg.e) (by simpa using hi) hn).1 (by rw[List.getElem?_map,List.getElem?_map,hx,hy];simp[e])
theorem insertion_ok (o:Own h p n c 7 (xs.flatMap genc)) (hn:n=xs.length) (hl:xs.length≤1000) (nd:KeysNd xs)
  (hk: ∀h' (ys:List Rg),Own h' p n c 7 (ys.flatMap genc)→ys.Perm xs→ys.Pairwise rless→Fr (inBlk p) h h'→R (.tuple #[]) h'):
  CallsH Tryz.prog F.slices_insertionSortCmpFunc_regs_Reg #[.slice p n c, .int .i64 0, .int .i64 (n:Int), .func (.func F.regs_Table_All_1) #[] #[]] h R:=by
 subst hn
 refine slices_insertionSortCmpFunc_regs_Reg.reg.walk ?_
 have plen: ∀ {ys:List Rg},ys.Perm xs→ys.length=xs.length:=fun hp=>hp.length_eq
 refine⟨fun t g=> ∃(i:Nat) (ys:List Rg),t=(i:Int)∧1≤i∧(i≤xs.length∨i=1)∧Own g p xs.length c 7 (ys.flatMap genc)∧ys.Perm xs∧SortedOn rless ys 0 i∧Fr (inBlk p) h g,fun t _=>xs.length - t.toNat,⟨1,xs,by rw[wrap_id (by omega) (by omega)];rfl,by omega, .inr rfl,o, .refl _,SortedOn.small (by omega),Fr.refl _ _⟩, ?_⟩
 rintro _ g ⟨i,ys,rfl,h1,h2,oy,py,sy,fy⟩
 have ly:=plen py
 by_cases hi:i<xs.length
 ·have q1:(i:Int)<((xs.length:Nat):Int):=by omega
  simp only[q1,decide_true,if_true]
  refine⟨fun t g'=> ∃(j:Nat) (zs:List Rg),t=(j:Int)∧j≤i∧Own g' p xs.length c 7 (zs.flatMap genc)∧InsI rless ys zs 0 i j∧Fr (inBlk p) h g',fun t _=>t.toNat,⟨i,ys,rfl,Nat.le_refl _,oy,InsI.start sy,fy⟩, ?_⟩
  rintro _ g2 ⟨j,zs,rfl,hj,oz,Iz,fz⟩
  have pz:=Iz.perm.trans py
  have lz:=plen pz
  have ndz:KeysNd zs:=(pz.map Rg.e).nodup_iff.2 nd
  obtain⟨ab,ao,rfl⟩:=oz.addr (by omega)
  refine JoinP.of fun J hJ=> ?_
  have stop:(j=0∨ ∀x y,zs[j]? =some x→zs[j - 1]? =some y→rless y x)→ ∀g3,Fr (fun _=>False) g2 g3→J false g3:=by
   intro he g3 f3
   subst hJ
   simp only[Bool.false_eq_true,if_false]
   rw[wrap_id (by omega) (by omega)]
   refine⟨⟨i+1,zs,by omega,by omega, .inl (by omega),oz.frame f3 (fun _ _=>id),pz,Iz.stop less_trans (Nat.zero_le _) hj (by omega) he,fz.on f3⟩,by show xs.length - Int.toNat ((i:Int)+1)<xs.length - i;omega⟩
  by_cases hj0:0<j
  ·have q2:(j:Int)>0:=by omega
   have e1:IntKind.wrap .i64 ((j:Int) - 1)=((j - 1:Nat):Int):=by rw[wrap_id (by omega) (by omega)];omega
   have hx:zs[j]? =some (zs[j]'(by omega)):=List.getElem?_eq_getElem _
   have hy:zs[j - 1]? =some (zs[j - 1]'(by omega)):=List.getElem?_eq_getElem _
   generalize zs[j]'(by omega)=x at hx
   generalize zs[j - 1]'(by omega)=y at hy
   simp only[q2,decide_true,if_true,e1,Int.toNat_natCast] at hJ⊢
   refine⟨⟨by omega,by omega⟩,onSome_some.2 (regs_Reg.ldA (oz.heldAt genc_len hx) ⟨⟨by omega,by omega⟩,onSome_some.2 (regs_Reg.ldA (oz.heldAt genc_len hy) (cmp_ok x y fun g3 f3=>⟨_,rfl, ?_⟩))⟩)⟩
   by_cases hl:lessE x.e y.e=true
   ·rw[if_pos hl,decide_eq_true (by omega)]
    have oz3:=oz.frame f3 (fun _ _=>id)
    subst hJ
    simp only[if_true]
    refine⟨⟨by omega,by omega⟩,onSome_some.2 (regs_Reg.ldA (oz3.heldAt genc_len hy) ⟨⟨by omega,by omega⟩,onSome_some.2 (regs_Reg.ldA (oz3.heldAt genc_len hx) ⟨⟨by omega,by omega⟩,onSome_some.2 (regs_Reg.stA (oz3.storeRow genc_len (genc_one y) (by omega) fun g4 o4 s4 q4=>⟨⟨by omega,by omega⟩,onSome_some.2 (regs_Reg.stA (o4.storeRow genc_len (genc_one x) (by rw[List.length_set];omega) fun g5 o5 s5 q5=> ?_))⟩))⟩)⟩)⟩
    have e5:(zs.set j y).set (j - 1) x=swp zs j (j - 1):=swp_eq hx hy
    rw[e5] at o5
    have f5:Fr (inBlk (some ⟨ab,ao,none⟩)) g3 g5:=⟨by omega,fun z _ hn=>by rw[q5 z hn,q4 z hn]⟩
    exact⟨⟨j - 1,_,rfl,by omega,o5,Iz.swap hj0 hj (by omega) hx hy hl,(fz.on f3).tt f5⟩,by show Int.toNat ((j - 1:Nat):Int)<j;omega⟩
   ·rw[if_neg hl,decide_eq_false (by omega)]
    refine stop (.inr fun x' y' hx' hy'=> ?_) g3 f3
    rw[hx] at hx';rw[hy] at hy'
    cases hx';cases hy'
    exact(less_total (ndz.ne hx hy (by omega))).resolve_left hl
  ·have q2: ¬(j:Int)>0:=by omega
   simp only[q2,decide_false,Bool.false_eq_true,if_false]
   exact stop (.inl (by omega)) g2 (Fr.refl _ _)
 ·have q1: ¬(i:Int)<((xs.length:Nat):Int):=by omega
  simp only[q1,decide_false,Bool.false_eq_true,if_false]
  have:SortedOn rless ys 0 ys.length:=by
   rcases h2 with h2|h2
   ·have:i=ys.length:=by omega
    rw[←this];exact sy
   ·exact SortedOn.small (by omega)
  exact hk g ys oy py this.pair fy
theorem len_ok {x:Int} (hk: ∀n:Int,R (.int .i64 n) h):CallsH Tryz.prog F.math_bits_Len #[.int .u64 x] h R:=by
 refine math_bits_Len.walk (math_bits_Len64.walk (JoinP.of fun J hJ=> ?_))
 have w8: ∀n:Int,0≤IntKind.wrap .u8 n∧IntKind.wrap .u8 n<256:=fun n=>by rw[IntKind.wrap_u8];omega
 have k1: ∀y n,J y n h:=by
  intro y n
  subst hJ
  refine JoinP.of fun J hJ=> ?_
  have k2: ∀y n,J y n h:=by
   intro y n
   subst hJ
   refine JoinP.of fun J hJ=> ?_
   have k3: ∀y n,J y n h:=by
    intro y n
    subst hJ
    exact⟨w8 y,_,rfl,hk _⟩
   split
   ·exact k3 _ _
   ·exact k3 _ _
  split
  ·exact k2 _ _
  ·exact k2 _ _
 split
 ·exact k1 _ _
 ·exact k1 _ _
theorem sort_ok (o:Own h p n c 7 (xs.flatMap genc)) (hn:n=xs.length) (hl:xs.length≤12) (nd:KeysNd xs)
  (hk: ∀h' (ys:List Rg),Own h' p n c 7 (ys.flatMap genc)→ys.Perm xs→ys.Pairwise rless→Fr (inBlk p) h h'→R (.tuple #[]) h'):
  CallsH Tryz.prog F.slices_SortFunc_s_regs_Reg_regs_Reg #[.slice p n c, .func (.func F.regs_Table_All_1) #[] #[]] h R:=by
 subst hn
 refine slices_SortFunc_s_regs_Reg_regs_Reg.reg.walk (len_ok fun lim=>⟨_,rfl,slices_pdqsortCmpFunc_regs_Reg.reg.walk ?_⟩)
 refine⟨fun a b l _ _ g=>a=0∧b=((xs.length:Nat):Int)∧l=lim∧g=h,fun _ _ _ _ _ _=>0,⟨rfl,rfl,rfl,rfl⟩, ?_⟩
 rintro _ _ _ wb wp _ ⟨rfl,rfl,rfl,rfl⟩
 refine JoinP.of fun J hJ=> ?_
 rw[wrap_id (by omega) (by omega),if_pos (by simp;omega)]
 exact insertion_ok o rfl (by omega) nd fun h' ys o' p' s' f'=>⟨rfl,rfl,hk h' ys o' p' s' f'⟩
theorem all_ok (H:Tb h b X L) (hl:L.length≤12) (hk: ∀h' p' c',Own h' p' L.length c' 7 (L.flatMap genc)→(∀y,inBlk p' y→h.size≤y)→Fr (fun _=>False) h h'→R (.slice p' L.length c') h'):
  CallsH Tryz.prog F.regs_Table_All #[.pointer (some ⟨b,0,none⟩)] h R:=by
 obtain⟨m,H⟩:=H
 refine regs_Table_All.walk (made_ok H ⟨_,rfl,JoinP.of fun J hJ=> ?_⟩)
 rw[if_pos rfl]
 refine⟨_,cell_at H.blk rfl,den_rangeP mapTy H.map fun it h1 e1 I1 f1=>⟨_,rfl, ?_⟩⟩
 refine⟨fun op ol oc g=> ∃ys:List Rg,ol=ys.length∧Own g op ol oc 7 (ys.flatMap genc)∧(∀y,inBlk op y→h.size≤y∧y≠it)∧Iter g it m ev5 (L.map Rg.pair) (ys.map Rg.pair)∧Fr (fun _=>False) h g,fun _ ol _ _=>L.length - ol,
  ⟨[],rfl, .nil rfl rfl rfl rfl,(fun y ⟨a,e,_⟩=>by cases e),I1,f1⟩, ?_⟩
 rintro op ol oc g ⟨ys,rfl,oy,gy,Iy,fy⟩
 have zy:=fy.1
 have hle:=Iy.le
 rw[List.length_map,List.length_map] at hle
 refine den_nextP Iy (fun hp=> .inl ⟨rfl, ?_⟩) (fun a v g1 hm hnm I1 s1 o1=> .inr ⟨_,_,rfl, ?_⟩)
 ·subst hJ
  dsimp only
  have hperm:ys.Perm L:=by
   have e: ∀l:List Rg,(l.map Rg.pair).map unp=l:=fun l=>by
    rw[List.map_map]
    conv=>rhs;rw[←List.map_id l]
    exact List.map_congr_left (fun r _=>rfl)
   have:=hp.map unp
   rwa[e,e] at this
  have nd:KeysNd ys:=(hperm.map Rg.e).nodup_iff.2 (keys_nodup H.so)
  have hlen:=hperm.length_eq
  refine sort_ok oy rfl (by omega) nd fun h3 zs o3 p3 s3 f3=>⟨rfl, ?_⟩
  have:zs=L:=(List.Perm.eq_of_pairwise (le:=rless) (fun a b _ _ h1 h2=>by have:=less_trans h1 h2;rw[less_irrefl] at this;cases this) s3 H.so (p3.trans hperm))
  subst this
  rw[hlen] at o3⊢
  exact hk h3 op oc o3 (fun y hy=>(gy y hy).1) (fy.fresh f3 (fun y hy=>(gy y hy).1))
 ·obtain⟨r,hr,e⟩:=List.mem_map.1 hm
  have ea:a=r.e:=(congrArg Prod.fst e).symm
  have ev:v=r.val:=(congrArg Prod.snd e).symm
  subst ea ev
  refine den_entryP I1 ⟨_,_,rfl,_,_,_,_,_,_,_,rfl,regs_Reg.new fun b2 g2 e2 hb2 f2=>regs_Reg.ld hb2 (newP_of ?_)⟩
  have f3:Fr (fun _=>False) g2 (g2.push (.cells #[.bool r.e.ipn, .int .u64 r.e.node, .int .u64 r.e.svc, .string r.e.host, .string r.e.dem, .int .i64 r.pol, .int .i64 r.own] T.regs_Reg)):=Fr.push _ _
  have r3:Row (g2.push (.cells #[.bool r.e.ipn, .int .u64 r.e.node, .int .u64 r.e.svc, .string r.e.host, .string r.e.dem, .int .i64 r.pol, .int .i64 r.own] T.regs_Reg)) (some ⟨g2.size,0,none⟩) (genc r):=row_new (cs:=genc r)
  generalize g2.push (.cells #[.bool r.e.ipn, .int .u64 r.e.node, .int .u64 r.e.svc, .string r.e.host, .string r.e.dem, .int .i64 r.pol, .int .i64 r.own] T.regs_Reg)=g3 at f3 r3⊢
  have fit:Fr (fun y=>y=it) g g1:=⟨by omega,fun y _ hn=>o1 y hn⟩
  have oy1:=(oy.frame fit (fun y hy e=>(gy y hy).2 e)).frame (f2.tt f3) (fun _ _=>id)
  have F1:Fr (fun _=>False) h g1:=fy.fresh fit (fun y e=>by have:=f1.1;omega)
  have F3:=F1.tt (f2.tt f3)
  have hsz:g1.size≤g3.size:=(f2.tt f3).1
  have itlt:it<g1.size:=by
   obtain⟨_,_,_,_,_,_,hr,_⟩:=I1
   exact lt_of_get hr
  refine den_append (cs:=ys.flatMap genc) (ds:=genc r) tG uG oy1 r3 rfl (genc_one r) (by omega) (by omega) fun p4 c4 g4 o4 _ f4 k4=>⟨_,_,_,rfl, ?_⟩
  have hp4: ∀y,inBlk p4 y→h.size≤y∧y≠it:=by
   intro y hy
   rcases k4 y hy with h5|h5
   ·exact gy y h5
   ·have:=F1.1;exact⟨by omega,by omega⟩
  refine⟨⟨ys++ [r],by simp, ?_,hp4, ?_,F3.fresh f4 (fun y hy=>(gy y hy).1)⟩, ?_⟩
  ·rw[List.flatMap_append,List.flatMap_singleton];exact o4
  ·rw[List.map_append]
   have hmb:m<h.size:=H.map.lt
   exact(I1.frame (f2.tt f3) id id).frame f4 (fun hy=>(gy it hy).2 rfl) (fun hy=>by have:=(gy m hy).1;omega)
  ·have:=I1.le
   rw[List.length_append,List.length_map,List.length_map,List.length_singleton] at this
   show L.length - (ys.length+1)<L.length - ys.length
   omega
end Regs
end Go.Proofs.YtgccegnmggjkjaaGreatDoor
set_option maxRecDepth 100000
set_option maxHeartbeats 4000000
namespace Go.Proofs.YtgccegnmggjkjaaGreatDoor
open Go.Den
variable {h : Heap} {R : Value → Heap → Prop}
end Go.Proofs.YtgccegnmggjkjaaGreatDoor
set_option maxRecDepth 100000
namespace Go.Proofs.YtgccegnmggjkjaaGreatDoor
open Go.Den Go.Fields
namespace Fld
variable {h h0 : Heap} {w r : Nat} {S : Nat → Prop} {bs : List UInt8} {e : Int} {R : Value → Heap → Prop}
end Fld
end Go.Proofs.YtgccegnmggjkjaaGreatDoor
set_option maxRecDepth 100000
set_option maxHeartbeats 4000000
namespace Go.Proofs.YtgccegnmggjkjaaGreatDoor
open Go.Den
variable {h : Heap} {R : Value → Heap → Prop}
theorem regs_Table_Save.walk {t : Nat} (hv :
 Cl F.regs_Table_All #[.pointer (some ⟨t, 0, none⟩)] h fun v h_1 =>
 ∃ t7_p t7_l t7_c, v = .slice t7_p t7_l t7_c ∧
 ∃ (I : Option Addr → Nat → Nat → Int → Heap → Prop) (mu : Option Addr → Nat → Nat → Int → Heap → Nat), I none 0 0 0 h_1 ∧ ∀ (out_p : Option Addr) (out_l out_c : Nat) (t9 : Int) (h_2 : Heap), I out_p out_l out_c t9 h_2 →
 if (decide (t9 < ((t7_l : Nat) : Int))) = true then
 ((0 : Int) ≤ t9 ∧ t9 < ((t7_l : Nat) : Int)) ∧
 onSome t7_p fun a =>
 regs_Reg.LD h_2 (a.add (Int.toNat t9 * 7)) fun t12_0 t12_1 t12_2 t12_3 t12_4 t12_5 t12_6 =>
 NewP h_2 (.cells #[.bool false, .int .u64 0, .int .u64 0, .string (⟨#[]⟩ : ByteArray), .string (⟨#[]⟩ : ByteArray), .int .i64 0, .int .i64 0] T.regs_Reg) fun b h_3 =>
 regs_Reg.ST h_3 ⟨b, 0, none⟩ t12_0 t12_1 t12_2 t12_3 t12_4 t12_5 t12_6 fun h_4 =>
 regs_Reg.LD h_4 ⟨b, 0, none⟩ fun t14_0 t14_1 t14_2 t14_3 t14_4 t14_5 t14_6 =>
 Cl F.regs_record #[.agg #[.bool t14_0, .int .u64 t14_1, .int .u64 t14_2, .string t14_3, .string t14_4, .int .i64 t14_5, .int .i64 t14_6]] h_4 fun v_1 h_5 =>
 ∃ t15_p t15_l t15_c, v_1 = .slice t15_p t15_l t15_c ∧
 NewP h_5 (.cells #[.slice t15_p t15_l t15_c] T.s_uint8) fun b_1 h_6 =>
 denSem Tryz.prog (Builtin.append_ #[T.s_s_uint8, T.s_s_uint8] T.s_s_uint8 #[.slice out_p out_l out_c, .slice (some ⟨b_1, 0, none⟩) 1 1]) h_6 fun v_2 h_7 =>
 ∃ t17_p t17_l t17_c, v_2 = .slice t17_p t17_l t17_c ∧
 (I t17_p t17_l t17_c (IntKind.wrap .i64 (t9 + 1)) h_7 ∧ mu t17_p t17_l t17_c (IntKind.wrap .i64 (t9 + 1)) h_7 < mu out_p out_l out_c t9 h_2)
 else
 R (.slice out_p out_l out_c) h_2) : CallsH Tryz.prog F.regs_Table_Save #[.pointer (some ⟨t, 0, none⟩)] h R :=
 callsH_of_body (.seq .leaf (.seq .leaf (.seq (.seq .leaf (.block (.loop [(3, .one (.slice)), (9, .one (.int .i64))] (.seq .leaf (.seq (.cond .leaf .leaf) (.seq (.block (.seq .leaf .leaf)) .leaf)))))) (.seq .leaf .leaf)))) Tryz.func35 rfl rfl (Eq.mp (by kernel_rfl) hv)
theorem regs_record.walk {r_0 : Bool} {r_1 : Int} {r_2 : Int} {r_3 : ByteArray} {r_4 : ByteArray} {r_5 : Int} {r_6 : Int} (hv :
 NewP h (.cells #[.bool r_0, .int .u64 r_1, .int .u64 r_2, .string r_3, .string r_4, .int .i64 r_5, .int .i64 r_6] T.regs_Reg) fun b h_1 =>
 eid_Eid.LD h_1 ⟨b, 0, none⟩ fun t7_0 t7_1 t7_2 t7_3 t7_4 =>
 Cl F.eid_Text #[.agg #[.bool t7_0, .int .u64 t7_1, .int .u64 t7_2, .string t7_3, .string t7_4]] h_1 fun v h_2 =>
 ∃ t8_0 t8_1, v = .tuple #[.string t8_0, .int .i64 t8_1] ∧
 ∃ t16, hcell h_2 ⟨b, 5, none⟩ = some (.int .i64 t16) ∧
 ∃ t19, hcell h_2 ⟨b, 6, none⟩ = some (.int .i64 t19) ∧
 (Cl F.fields_New #[] h_2 fun v_1 h_3 =>
 ∃ t11, v_1 = .pointer t11 ∧
 hcell h_3 ⟨b, 6, none⟩ = some (.int .i64 t19) ∧
 hcell h_3 ⟨b, 5, none⟩ = some (.int .i64 t16) ∧
 denSem Tryz.prog (convert T.string T.s_uint8 (.string t8_0)) h_3 fun v_2 h_4 =>
 ∃ t13_p t13_l t13_c, v_2 = .slice t13_p t13_l t13_c ∧
 hcell h_4 ⟨b, 6, none⟩ = some (.int .i64 t19) ∧
 hcell h_4 ⟨b, 5, none⟩ = some (.int .i64 t16) ∧
 Cl F.fields_Writer_Text #[.pointer t11, .slice t13_p t13_l t13_c] h_4 fun v_3 h_5 =>
 ∃ t14, v_3 = .pointer t14 ∧
 hcell h_5 ⟨b, 6, none⟩ = some (.int .i64 t19) ∧
 hcell h_5 ⟨b, 5, none⟩ = some (.int .i64 t16) ∧
 Cl F.fields_Writer_Int #[.pointer t14, .int .i64 t16] h_5 fun v_4 h_6 =>
 ∃ t17, v_4 = .pointer t17 ∧
 hcell h_6 ⟨b, 6, none⟩ = some (.int .i64 t19) ∧
 Cl F.fields_Writer_Int #[.pointer t17, .int .i64 t19] h_6 fun v_5 h_7 =>
 ∃ t20, v_5 = .pointer t20 ∧
 Cl F.fields_Writer_Bytes #[.pointer t20] h_7 fun v_6 h_8 =>
 ∃ t21_p t21_l t21_c, v_6 = .slice t21_p t21_l t21_c ∧
 R (.slice t21_p t21_l t21_c) h_8) ∧
 (denSem Tryz.prog (convert T.string T.s_uint8 (.string t8_0)) h_2 fun v_7 h_9 =>
 ∃ t13_p_1 t13_l_1 t13_c_1, v_7 = .slice t13_p_1 t13_l_1 t13_c_1 ∧
 hcell h_9 ⟨b, 6, none⟩ = some (.int .i64 t19) ∧
 hcell h_9 ⟨b, 5, none⟩ = some (.int .i64 t16) ∧
 Cl F.fields_New #[] h_9 fun v_8 h_10 =>
 ∃ t11_1, v_8 = .pointer t11_1 ∧
 hcell h_10 ⟨b, 6, none⟩ = some (.int .i64 t19) ∧
 hcell h_10 ⟨b, 5, none⟩ = some (.int .i64 t16) ∧
 Cl F.fields_Writer_Text #[.pointer t11_1, .slice t13_p_1 t13_l_1 t13_c_1] h_10 fun v_9 h_11 =>
 ∃ t14_1, v_9 = .pointer t14_1 ∧
 hcell h_11 ⟨b, 6, none⟩ = some (.int .i64 t19) ∧
 hcell h_11 ⟨b, 5, none⟩ = some (.int .i64 t16) ∧
 Cl F.fields_Writer_Int #[.pointer t14_1, .int .i64 t16] h_11 fun v_10 h_12 =>
 ∃ t17_1, v_10 = .pointer t17_1 ∧
 hcell h_12 ⟨b, 6, none⟩ = some (.int .i64 t19) ∧
 Cl F.fields_Writer_Int #[.pointer t17_1, .int .i64 t19] h_12 fun v_11 h_13 =>
 ∃ t20_1, v_11 = .pointer t20_1 ∧
 Cl F.fields_Writer_Bytes #[.pointer t20_1] h_13 fun v_12 h_14 =>
 ∃ t21_p_1 t21_l_1 t21_c_1, v_12 = .slice t21_p_1 t21_l_1 t21_c_1 ∧
 R (.slice t21_p_1 t21_l_1 t21_c_1) h_14) ∧
 True) : CallsH Tryz.prog F.regs_record #[.agg #[.bool r_0, .int .u64 r_1, .int .u64 r_2, .string r_3, .string r_4, .int .i64 r_5, .int .i64 r_6]] h R :=
 callsH_of_body (.seq .leaf (.seq .leaf (.seq (.plan (.op 1 (.op 4 (.op 5 (.op 7 (.op 8 (.alts (.fork 0 (.op 2 (.op 3 (.op 6 (.op 9 (.op 10 (.op 11 .done)))))) (.fork 2 (.op 0 (.op 3 (.op 6 (.op 9 (.op 10 (.op 11 .done)))))) .noalt))))))))) .leaf))) Tryz.func94 rfl rfl (Eq.mp (by kernel_rfl) hv)
theorem regs_Load.walk {l_p : Option Addr} {l_l l_c : Nat} (hv :
 Cl F.regs_New #[] h fun v h_1 =>
 ∃ t11, v = .pointer t11 ∧
 ∃ (I : Int → Heap → Prop) (mu : Int → Heap → Nat), I 0 h_1 ∧ ∀ (t14 : Int) (h_2 : Heap), I t14 h_2 →
 if (decide (t14 < ((l_l : Nat) : Int))) = true then
 ((0 : Int) ≤ t14 ∧ t14 < ((l_l : Nat) : Int)) ∧
 onSome l_p fun a =>
 ∃ t17_p t17_l t17_c, hcell h_2 (a.add (Int.toNat t14 * 1)) = some (.slice t17_p t17_l t17_c) ∧
 Cl F.fields_Read #[.slice t17_p t17_l t17_c] h_2 fun v_1 h_3 =>
 ∃ t19, v_1 = .pointer t19 ∧
 Cl F.fields_Reader_Text #[.pointer t19] h_3 fun v_2 h_4 =>
 ∃ t22_p t22_l t22_c, v_2 = .slice t22_p t22_l t22_c ∧
 ∃ (t23 : ByteArray), ConvV Tryz.prog T.s_uint8 T.string (.slice t22_p t22_l t22_c) h_4 t23 ∧
 Cl F.eid_Parse #[.string t23] h_4 fun v_3 h_5 =>
 ∃ t24_0_0 t24_0_1 t24_0_2 t24_0_3 t24_0_4 t24_1, v_3 = .tuple #[.agg #[.bool t24_0_0, .int .u64 t24_0_1, .int .u64 t24_0_2, .string t24_0_3, .string t24_0_4], .int .i64 t24_1] ∧
 NewP h_5 (.cells #[.bool false, .int .u64 0, .int .u64 0, .string (⟨#[]⟩ : ByteArray), .string (⟨#[]⟩ : ByteArray)] T.eid_Eid) fun b h_6 =>
 eid_Eid.ST h_6 ⟨b, 0, none⟩ t24_0_0 t24_0_1 t24_0_2 t24_0_3 t24_0_4 fun h_7 =>
 JoinP (fun (r : Option Addr) (h_8 : Heap) =>
 JoinP (fun (t48 : Bool) (h_9 : Heap) =>
 if t48 = true then
 R (.tuple #[.pointer none, .int .i64 3]) h_9
 else
 (I (IntKind.wrap .i64 (t14 + 1)) h_9 ∧ mu (IntKind.wrap .i64 (t14 + 1)) h_9 < mu t14 h_2))
 (fun J_1 =>
 Cl F.fields_Reader_End #[.pointer t19] h_8 fun v_4 h_10 =>
 ∃ t34, v_4 = .int .i64 t34 ∧
 if (t34 != 0) = true then
 J_1 true h_10
 else
 onSome r fun a_1 =>
 regs_Reg.LD h_10 a_1 fun t38_0 t38_1 t38_2 t38_3 t38_4 t38_5 t38_6 =>
 Cl F.regs_Table_Add #[.pointer t11, .agg #[.bool t38_0, .int .u64 t38_1, .int .u64 t38_2, .string t38_3, .string t38_4, .int .i64 t38_5, .int .i64 t38_6]] h_10 fun v_5 h_11 =>
 ∃ t39, v_5 = .int .i64 t39 ∧
 if (t39 != 0) = true then
 J_1 true h_11
 else
 onSome r fun a_2 =>
 regs_Reg.LD h_11 a_2 fun t43_0 t43_1 t43_2 t43_3 t43_4 t43_5 t43_6 =>
 Cl F.regs_record #[.agg #[.bool t43_0, .int .u64 t43_1, .int .u64 t43_2, .string t43_3, .string t43_4, .int .i64 t43_5, .int .i64 t43_6]] h_11 fun v_6 h_12 =>
 ∃ t44_p t44_l t44_c, v_6 = .slice t44_p t44_l t44_c ∧
 Cl F.bytes_Equal #[.slice t44_p t44_l t44_c, .slice t17_p t17_l t17_c] h_12 fun v_7 h_13 =>
 ∃ t46, v_7 = .bool t46 ∧
 J_1 (!t46) h_13))
 (fun J =>
 eid_Eid.LD h_7 ⟨b, 0, none⟩ fun t27_0 t27_1 t27_2 t27_3 t27_4 =>
 (Cl F.fields_Reader_Int #[.pointer t19] h_7 fun v_8 h_14 =>
 ∃ t29, v_8 = .int .i64 t29 ∧
 heldL ⟨b, 0, none⟩ [.bool t27_0, .int .u64 t27_1, .int .u64 t27_2, .string t27_3, .string t27_4] 0 h_14 ∧
 (Cl F.fields_Reader_Int #[.pointer t19] h_14 fun v_9 h_15 =>
 ∃ t31, v_9 = .int .i64 t31 ∧
 heldL ⟨b, 0, none⟩ [.bool t27_0, .int .u64 t27_1, .int .u64 t27_2, .string t27_3, .string t27_4] 0 h_15 ∧
 NewP h_15 (.cells #[.bool false, .int .u64 0, .int .u64 0, .string (⟨#[]⟩ : ByteArray), .string (⟨#[]⟩ : ByteArray), .int .i64 0, .int .i64 0] T.regs_Reg) fun b_1 h_16 =>
 heldL ⟨b, 0, none⟩ [.bool t27_0, .int .u64 t27_1, .int .u64 t27_2, .string t27_3, .string t27_4] 0 h_16 ∧
 regs_Reg.ST h_16 ⟨b_1, 0, none⟩ t27_0 t27_1 t27_2 t27_3 t27_4 t29 t31 fun h_17 =>
 J (some ⟨b_1, 0, none⟩) h_17) ∧
 (NewP h_14 (.cells #[.bool false, .int .u64 0, .int .u64 0, .string (⟨#[]⟩ : ByteArray), .string (⟨#[]⟩ : ByteArray), .int .i64 0, .int .i64 0] T.regs_Reg) fun b_2 h_18 =>
 heldL ⟨b, 0, none⟩ [.bool t27_0, .int .u64 t27_1, .int .u64 t27_2, .string t27_3, .string t27_4] 0 h_18 ∧
 Cl F.fields_Reader_Int #[.pointer t19] h_18 fun v_10 h_19 =>
 ∃ t31_1, v_10 = .int .i64 t31_1 ∧
 heldL ⟨b, 0, none⟩ [.bool t27_0, .int .u64 t27_1, .int .u64 t27_2, .string t27_3, .string t27_4] 0 h_19 ∧
 regs_Reg.ST h_19 ⟨b_2, 0, none⟩ t27_0 t27_1 t27_2 t27_3 t27_4 t29 t31_1 fun h_20 =>
 J (some ⟨b_2, 0, none⟩) h_20) ∧
 True) ∧
 (NewP h_7 (.cells #[.bool false, .int .u64 0, .int .u64 0, .string (⟨#[]⟩ : ByteArray), .string (⟨#[]⟩ : ByteArray), .int .i64 0, .int .i64 0] T.regs_Reg) fun b_3 h_21 =>
 heldL ⟨b, 0, none⟩ [.bool t27_0, .int .u64 t27_1, .int .u64 t27_2, .string t27_3, .string t27_4] 0 h_21 ∧
 Cl F.fields_Reader_Int #[.pointer t19] h_21 fun v_11 h_22 =>
 ∃ t29_1, v_11 = .int .i64 t29_1 ∧
 heldL ⟨b, 0, none⟩ [.bool t27_0, .int .u64 t27_1, .int .u64 t27_2, .string t27_3, .string t27_4] 0 h_22 ∧
 Cl F.fields_Reader_Int #[.pointer t19] h_22 fun v_12 h_23 =>
 ∃ t31_2, v_12 = .int .i64 t31_2 ∧
 heldL ⟨b, 0, none⟩ [.bool t27_0, .int .u64 t27_1, .int .u64 t27_2, .string t27_3, .string t27_4] 0 h_23 ∧
 regs_Reg.ST h_23 ⟨b_3, 0, none⟩ t27_0 t27_1 t27_2 t27_3 t27_4 t29_1 t31_2 fun h_24 =>
 J (some ⟨b_3, 0, none⟩) h_24) ∧
 True)
 else
 Cl F.regs_Table_Save #[.pointer t11] h_2 fun v_13 h_25 =>
 ∃ t51_p t51_l t51_c, v_13 = .slice t51_p t51_l t51_c ∧
 Cl F.slices_EqualFunc_s_s_byte_s_s_byte_s_byte_s_byte #[.slice t51_p t51_l t51_c, .slice l_p l_l l_c, .func (.func F.bytes_Equal) #[] #[]] h_25 fun v_14 h_26 =>
 ∃ t53, v_14 = .bool t53 ∧
 if (!t53) = true then
 R (.tuple #[.pointer none, .int .i64 3]) h_26
 else
 R (.tuple #[.pointer t11, .int .i64 0]) h_26) : CallsH Tryz.prog F.regs_Load #[.slice l_p l_l l_c] h R :=
 callsH_of_body (.seq .leaf (.seq .leaf (.seq (.seq .leaf (.block (.loop [(14, .one (.int .i64))] (.seq .leaf (.seq (.cond .leaf .leaf) (.seq (.block (.seq .leaf (.seq .leaf (.seq .leaf (.seq (.join [(10, .one (.ptr))] (.plan (.op 0 (.op 1 (.op 3 (.alts (.fork 2 (.alts (.fork 4 (.op 5 (.op 6 (.op 7 .done))) (.fork 6 (.op 4 (.op 5 (.op 7 .done))) .noalt))) (.fork 6 (.op 2 (.op 4 (.op 5 (.op 7 .done)))) .noalt)))))))) (.seq (.join [(48, .one (.bool))] .leaf) (.cond (.seq .leaf .leaf) .leaf))))))) .leaf)))))) (.seq (.seq .leaf (.cond (.seq .leaf .leaf) .leaf)) (.seq .leaf .leaf))))) Tryz.func36 rfl rfl (Eq.mp (by kernel_rfl) hv)
theorem bytes_Equal.walk {a_p : Option Addr} {a_l a_c : Nat} {b_p : Option Addr} {b_l b_c : Nat} (hv :
 ∃ (t6 : ByteArray), ConvV Tryz.prog T.s_uint8 T.string (.slice a_p a_l a_c) h t6 ∧
 ∃ (t8 : ByteArray), ConvV Tryz.prog T.s_uint8 T.string (.slice b_p b_l b_c) h t8 ∧
 R (.bool (t6.toList == t8.toList)) h) : CallsH Tryz.prog F.bytes_Equal #[.slice a_p a_l a_c, .slice b_p b_l b_c] h R :=
 callsH_of_body (.seq .leaf (.seq .leaf .leaf)) Tryz.func100 rfl rfl (Eq.mp (by kernel_rfl) hv)
theorem slices_EqualFunc_s_s_byte_s_s_byte_s_byte_s_byte.eq.walk {s1_p : Option Addr} {s1_l s1_c : Nat} {s2_p : Option Addr} {s2_l s2_c : Nat} (hv :
 if (((s1_l : Nat) : Int) != ((s2_l : Nat) : Int)) = true then
 R (.bool false) h
 else
 ∃ (I : Int → Heap → Prop) (mu : Int → Heap → Nat), I 0 h ∧ ∀ (t17 : Int) (h_1 : Heap), I t17 h_1 →
 if (decide (t17 < ((s1_l : Nat) : Int))) = true then
 ((0 : Int) ≤ t17 ∧ t17 < ((s1_l : Nat) : Int)) ∧
 onSome s1_p fun a =>
 ∃ t21_p t21_l t21_c, hcell h_1 (a.add (Int.toNat t17 * 1)) = some (.slice t21_p t21_l t21_c) ∧
 ((0 : Int) ≤ t17 ∧ t17 < ((s2_l : Nat) : Int)) ∧
 onSome s2_p fun a_1 =>
 ∃ t25_p t25_l t25_c, hcell h_1 (a_1.add (Int.toNat t17 * 1)) = some (.slice t25_p t25_l t25_c) ∧
 Cl F.bytes_Equal #[.slice t21_p t21_l t21_c, .slice t25_p t25_l t25_c] h_1 fun v h_2 =>
 ∃ t29, v = .bool t29 ∧
 if (!t29) = true then
 R (.bool false) h_2
 else
 (I (IntKind.wrap .i64 (t17 + 1)) h_2 ∧ mu (IntKind.wrap .i64 (t17 + 1)) h_2 < mu t17 h_1)
 else
 R (.bool true) h_1) : CallsH Tryz.prog F.slices_EqualFunc_s_s_byte_s_s_byte_s_byte_s_byte #[.slice s1_p s1_l s1_c, .slice s2_p s2_l s2_c, .func (.func F.bytes_Equal) #[] #[]] h R :=
 callsH_of_body (.seq .leaf (.seq (.seq .leaf (.cond (.seq .leaf .leaf) .leaf)) (.seq (.seq .leaf (.block (.loop [(17, .one (.int .i64))] (.seq .leaf (.seq (.cond .leaf .leaf) (.seq (.block (.seq .leaf (.seq .leaf (.seq .leaf (.cond (.seq .leaf .leaf) .leaf))))) .leaf)))))) (.seq .leaf .leaf)))) Tryz.func101 rfl rfl (Eq.mp (by kernel_rfl) hv)
end Go.Proofs.YtgccegnmggjkjaaGreatDoor
set_option maxRecDepth 100000
namespace Go.Proofs.YtgccegnmggjkjaaGreatDoor
open Go.Den Go.Fields
namespace Regs
open Eid Fld
variable {h h' : Heap} {R : Value → Heap → Prop} {b x : Nat} {X Y : Ft} {L L' : List Rg} {p : Option Addr} {c n i : Nat} {r : Rg}
def recR (r:Rg):List UInt8:=encText (textE r.e)++encNum (natOf r.pol)++encNum (natOf r.own)
structure okR (r:Rg):Prop where
 rt:rightR r=true
 sv:0≤r.e.svc
theorem okR.e (k:okR r):rightE r.e=true∧0≤r.pol∧r.pol≤2∧1≤r.own∧r.own≤1099511627776:=by
 have:=k.rt
 unfold rightR at this
 simp only[Bool.and_eq_true,Bool.not_eq_true',decide_eq_true_eq,decide_eq_false_iff_not] at this
 exact⟨this.1,this.2.2.1.1,this.2.2.1.2,this.2.2.2.1,this.2.2.2.2⟩
theorem recR_len (k:okR r):(recR r).length≤200:=by
 have l0:=text_len k.e.1 k.sv
 have l1:=(encNum_len (textE r.e).length).2
 have l2:=(encNum_len (natOf r.pol)).2
 have l3:=(encNum_len (natOf r.own)).2
 unfold recR encText
 simp only[List.length_append];omega
theorem record_ok (k:okR r) (tb:Num.Tab h) (hk: ∀p' c' h',Own h' p' (recR r).length c' 1 (bc (recR r))→Fr (fun _=>False) h h'→(∀y,inBlk p' y→h.size≤y)→R (.slice p' (recR r).length c') h'):CallsH Tryz.prog F.regs_record #[r.val] h R:=by
 have ke:=k.e
 refine regs_record.walk (regs_Reg.box fun b h1 eb hb f1=>ld_e hb (Eid.text_ok r.e (tb.on f1) k.sv fun h2 f2=> ?_))
 simp only[ke.1,if_true]
 refine⟨_,_,rfl, ?_⟩
 have hb2:r.at h2 b:=f2.get hb id
 have F2:=f1.tt f2
 have l0:=text_len ke.1 k.sv
 have sz:(str (textE r.e)).size=(textE r.e).length:=str_size _
 have dt:(str (textE r.e)).data.toList=textE r.e:=by unfold str;simp
 have tail: ∀g (w:Nat) (S:Nat→Prop) q d,Fr (fun _=>False) h2 g→Wr g w S []→(∀y,S y→h2.size≤y)→Row g q (bc (textE r.e))→(∀y,inBlk q y→ ¬S y)→hcell g ⟨b,6,none⟩=some (.int .i64 r.own)∧hcell g ⟨b,5,none⟩=some (.int .i64 r.pol)∧CallsH Tryz.prog F.fields_Writer_Text #[.pointer (some ⟨w,0,none⟩), .slice q (str (textE r.e)).size d] g fun v_3 h_5=>
   ∃(t14:Option Addr),v_3= .pointer t14∧
   hcell h_5 ⟨b,6,none⟩=some (.int .i64 r.own)∧
   hcell h_5 ⟨b,5,none⟩=some (.int .i64 r.pol)∧
   CallsH Tryz.prog F.fields_Writer_Int #[.pointer t14, .int .i64 r.pol] h_5 fun v_4 h_6=>
   ∃(t17:Option Addr),v_4= .pointer t17∧
   hcell h_6 ⟨b,6,none⟩=some (.int .i64 r.own)∧
   CallsH Tryz.prog F.fields_Writer_Int #[.pointer t17, .int .i64 r.own] h_6 fun v_5 h_7=>
   ∃(t20:Option Addr),v_5= .pointer t20∧
   CallsH Tryz.prog F.fields_Writer_Bytes #[.pointer t20] h_7 fun v_6 h_8=>
   ∃(t21_p:Option Addr) (t21_l t21_c:Nat),v_6= .slice t21_p t21_l t21_c∧
   R (.slice t21_p t21_l t21_c) h_8:=by
  intro g w S q d fg W hS row hq
  have bS: ∀ {S':Nat→Prop},(∀y,S' y→h2.size≤y)→ ¬S' b:=fun hh hn=>by have:=hh b hn;have:=lt_of_get hb2;omega
  have hbg:r.at g b:=fg.get hb2 id
  have zg:=fg.1
  refine⟨cell_at hbg rfl,cell_at hbg rfl,Fld.text_ok W (by simp) row sz (by omega) hq fun g1 S1 W1 st1=> ?_⟩
  have hS1: ∀y,S1 y→h2.size≤y:=fun y hy=>(st1.new y hy).elim (hS y) (fun h1=>by omega)
  have hb1:r.at g1 b:=st1.fr.get hbg (bS hS)
  have z1:=st1.fr.1
  have lt:=text_len ke.1 k.sv
  have l1:=(encNum_len (textE r.e).length).2
  have l2:=(encNum_len (natOf r.pol)).2
  have l3:=(encNum_len (natOf r.own)).2
  have el:(encText (textE r.e)).length=(encNum (textE r.e).length).length+(textE r.e).length:=by unfold encText;rw[List.length_append]
  refine⟨_,rfl,cell_at hb1 rfl,cell_at hb1 rfl,int_ok W1 (by rw[List.nil_append];omega) (by omega) fun g2 S2 W2 st2=>⟨_,rfl, ?_⟩⟩
  have hS2: ∀y,S2 y→h2.size≤y:=fun y hy=>(st2.new y hy).elim (hS1 y) (fun h1=>by omega)
  have hb2':r.at g2 b:=st2.fr.get hb1 (bS hS1)
  have z2:=st2.fr.1
  refine⟨cell_at hb2' rfl,int_ok W2 (by rw[List.nil_append,List.length_append];omega) (by omega) fun g3 S3 W3 st3=>⟨_,rfl, ?_⟩⟩
  have hS3: ∀y,S3 y→h2.size≤y:=fun y hy=>(st3.new y hy).elim (hS2 y) (fun h1=>by omega)
  have er: []++encText (textE r.e)++encNum (natOf r.pol)++encNum (natOf r.own)=recR r:=by unfold recR;rw[List.nil_append]
  rw[er] at W3
  have lr:=recR_len k
  refine bytes_ok W3 (by omega) fun p4 c4 g4 o4 f4 n4=>⟨_,_,_,rfl, ?_⟩
  have F3:Fr (fun _=>False) h2 g3:=((fg.fresh st1.fr hS).fresh st2.fr hS1).fresh st3.fr hS2
  have z3:=F3.1
  have zz:=F2.1
  exact hk p4 c4 g4 o4 (F2.tt (F3.tt f4)) (fun y hy=>by have:=n4 y hy;omega)
 refine⟨_,cell_at hb2 rfl,_,cell_at hb2 rfl,Fld.new_ok fun h3 w S W f3 n3=>⟨_,rfl,cell_at (f3.get hb2 id) rfl,cell_at (f3.get hb2 id) rfl,s2b fun q d h4 row cq f4 n4=>⟨_,_,_,rfl, ?_⟩⟩,s2b fun q d h3 row cq f3 n3=>⟨_,_,_,rfl,cell_at (f3.get hb2 id) rfl,cell_at (f3.get hb2 id) rfl,Fld.new_ok fun h4 w S W f4 n4=>⟨_,rfl, ?_⟩⟩,trivial⟩
 ·rw[dt] at row
  exact tail h4 w S q d (f3.tt f4) (W.frame f4 (fun _ _=>id)) n3 row (fun y hy hs=>by have:=n4 y hy;have:=W.lt y hs;omega)
 ·rw[dt] at row
  have z3:=f3.1
  refine tail h4 w S q d (f3.tt f4) W (fun y hy=>by have:=n4 y hy;omega) (row.frame f4 (fun _ _=>id)) (fun y hy hs=> ?_)
  have h1:=n4 y hs
  have h2:=row_lt row (by unfold textE;intro e;have:=congrArg List.length e;rw[bc_len] at this;revert this;split<;>(try split)<;>simp) hy
  omega
theorem save_ok (H:Tb h b X L) (hl:L.length≤12) (ok: ∀r∈L,okR r) (tb:Num.Tab h) (hk: ∀h' p' l' c',BL h h' p' l' c' (L.map recR)→Fr (fun _=>False) h h'→R (.slice p' l' c') h'):CallsH Tryz.prog F.regs_Table_Save #[.pointer (some ⟨b,0,none⟩)] h R:=by
 refine regs_Table_Save.walk (all_ok H hl fun h1 p1 c1 o1 n1 f1=>⟨_,_,_,rfl, ?_⟩)
 refine⟨fun op ol oc t g=> ∃k:Nat,t=(k:Int)∧k≤L.length∧BL h1 g op ol oc ((L.take k).map recR)∧Fr (fun _=>False) h1 g,fun _ _ _ t _=>L.length - t.toNat,⟨0,rfl,by omega,by simpa using BL.nil,Fr.refl _ _⟩, ?_⟩
 rintro op ol oc _ g ⟨k,rfl,hkn,B,fg⟩
 by_cases hlt:k<L.length
 ·have q1:(k:Int)<((L.length:Nat):Int):=by omega
  simp only[q1,decide_true,if_true,Int.toNat_natCast]
  have hx:L[k]? =some L[k]:=List.getElem?_eq_getElem hlt
  generalize L[k]=v at hx
  have og:=o1.frame fg (fun _ _=>id)
  obtain⟨ab,aoff,rfl⟩:=og.addr (by omega)
  refine⟨⟨by first|trivial|omega,by first|trivial|omega⟩,onSome_some.2 (regs_Reg.ldA (og.heldAt genc_len hx) (regs_Reg.new fun b2 h2 e2 hb2 f2=>regs_Reg.ld hb2 ?_))⟩
  have F2:=f1.tt (fg.tt f2)
  refine record_ok (r:=v) (ok v (List.mem_of_getElem? hx)) (tb.on F2) fun p3 c3 h3 o3 f3 n3=>⟨_,_,_,rfl, ?_⟩
  have z1:=fg.1
  have z2:=f2.1
  have bl:=B.len
  rw[List.length_map,List.length_take] at bl
  have F3:=f2.tt f3
  refine(B.on F3).push (by have:=F3.1;omega) o3 (fun y hy=>⟨by have:=n3 y hy;omega,fun ho=>by have:=B.lt ho;have:=n3 y hy;omega⟩) (by omega) fun p4 c4 h4 B4 f4 g4=>⟨_,_,_,rfl, ?_⟩
  rw[wrap_id (by omega) (by omega)]
  refine⟨⟨k+1,by omega,by omega, ?_, ?_⟩,by show L.length - Int.toNat ((k:Int)+1)<L.length - k;omega⟩
  ·rw[List.take_add_one,hx,List.map_append]
   exact B4
  ·obtain⟨_,_,_,_,_,_,_,h6'⟩:=B
   exact(fg.tt F3).fresh f4 h6'
 ·have q1: ¬(k:Int)<((L.length:Nat):Int):=by omega
  simp only[q1,decide_false,Bool.false_eq_true,if_false]
  rw[List.take_of_length_le (by omega)] at B
  exact hk g op ol oc (B.mono f1.1) (f1.tt fg)
end Regs
end Go.Proofs.YtgccegnmggjkjaaGreatDoor
set_option maxRecDepth 100000
namespace Go.Proofs.YtgccegnmggjkjaaGreatDoor
open Go.Den Go.Fields
namespace Regs
open Eid Fld
variable {L : List Rg}
structure okL (L:List Rg):Prop where
 len:L.length≤8
 all: ∀r∈L,okR r
end Regs
end Go.Proofs.YtgccegnmggjkjaaGreatDoor
set_option maxRecDepth 100000
namespace Go.Proofs.YtgccegnmggjkjaaGreatDoor
open Go.Den
namespace Stt
open Obx (It)
open Eid (Ev rightE)
variable {σ : SS} {k : Nat}
structure Good (σ:SS) (k:Nat):Prop where
 a:Ses.okA σ.A
 g:Regs.okL σ.G
 c:Cps.Good σ.C k
 b:σ.B.next≤k+1
 v:σ.B.over≤k
 q:σ.Q=σ.B.items
 ok:okQ σ.Q
 n:σ.now≤1099511627776
 e:rightE σ.e=true∧σ.e≠Ev.zero∧0≤σ.e.svc
 t:σ.tm≤1099511627776∧σ.sq≤1099511627776
 r:σ.rf≤k
def newS (e:Ev):SS:=⟨[], [],⟨[],1,0,0,0, [], []⟩,⟨[],1,0,0,0⟩, [],e,0,0,0,0⟩
theorem Good.new {e:Ev} (h1:rightE e=true) (h2:e≠Ev.zero) (h3:0≤e.svc):Good (newS e) 0:=
 ⟨Ses.okA.nil,⟨Nat.zero_le _,fun _ h=>(by cases h)⟩,Cps.Good.nil,Nat.le_refl _,Nat.le_refl _,rfl,okQ.nil,Nat.zero_le _,⟨h1,h2,h3⟩,⟨Nat.zero_le _,Nat.zero_le _⟩,Nat.le_refl _⟩
def passB (s:Obx.BS) (now:Nat):Obx.BS:= { s with items:=s.items.filter (fun x=>decide ((now:Int)<(x.till:Int))),over:=s.over+(s.items.filter (fun x=>decide ((x.till:Int)≤(now:Int)))).length }
def passE (σ:SS) (now:Nat):Int:=if now>1099511627776 then 1 else if now<σ.now then 18 else 0
def passS (σ:SS) (now:Nat):SS:= { σ with C:=Cps.passF σ.C (now:Int),B:=passB σ.B now,Q:=(passB σ.B now).items,now:=now }
def passA (σ:SS) (now:Nat):SS:=if passE σ now=0 then passS σ now else σ
theorem okQ.filter {l:List It} (ok:okQ l) (P:It→Bool):okQ (l.filter P):=by
 induction l with
 |nil=>exact ok
 |cons x l ih=>
  rw[List.filter_cons]
  split
  ·obtain⟨a,b,c,d,e,f⟩:=ok
   have t1:tot (l.filter P)≤tot l:=by
    clear ih f e d
    induction l with
    |nil=>exact Int.le_refl _
    |cons y l ih=>rw[List.filter_cons,tot_cons];split<;>(try rw[tot_cons])<;>omega
   have t2: ∀o,own (l.filter P) o≤own l o:=fun o=>by
    clear ih f e d t1
    induction l with
    |nil=>exact Int.le_refl _
    |cons y l ih=>rw[List.filter_cons,own_cons];split<;>(try rw[own_cons])<;>(try split)<;>omega
   rw[tot_cons] at d e
   have n1:=tot_nn (l:=l.filter P)
   refine⟨a,b,c,by rw[tot_cons];omega,by rw[tot_cons];omega,fun k=>⟨own_nn, ?_⟩⟩
   have:=(f k).2
   have:=t2 k
   rw[own_cons] at*
   omega
  ·exact ih ok.sub
theorem Cps_pass {s:Cps.CF} (G:Cps.Good s k) (O:Cps.Ord s) (hk:k≤30000) (now:Nat):Cps.Good (Cps.passF s (now:Int)) (k+1):=by
 have h:=G.do (f:=⟨4,0,0,Ev.zero,none,0, [],now⟩) O (Int.le_refl 0) hk
 unfold Cps.doS at h
 exact h
theorem Cps_add {s:Cps.CF} (G:Cps.Good s k) (O:Cps.Ord s) (hk:k≤30000) (e:Ev) (he:0≤e.svc) (d:List UInt8) (till:Nat):Cps.Good (Cps.addF s e d till) (k+1):=by
 have h:=G.do (f:=⟨0,0,0,e,none,0,d,till⟩) O he hk
 unfold Cps.doS at h
 exact h
theorem Good.more (G:Good σ k):Good σ (k+1):=⟨G.a,G.g,G.c.more,by have:=G.b;omega,by have:=G.v;omega,G.q,G.ok,G.n,G.e,G.t,by have:=G.r;omega⟩
theorem Good.pass (G:Good σ k) (O:Cps.Ord σ.C) (L:List Go.Heapq.E) (ok:Obx.okB σ.B L) (hk:k≤30000) (now:Nat):Good (passA σ now) (k+1):=by
 unfold passA
 split
 ·rename_i h
  have hn:now≤1099511627776:=by
   unfold passE at h
   split at h
   ·cases h
   ·omega
  have hc:=ok.cnt
  have hb:=G.b
  have hl:(σ.B.items.filter (fun x=>decide ((x.till:Int)≤(now:Int)))).length≤σ.B.items.length:=List.length_filter_le _ _
  refine⟨G.a,G.g,Cps_pass G.c O hk now,by show σ.B.next≤_;omega,by show σ.B.over+_≤_;omega,rfl, ?_,hn,G.e,G.t,by have:=G.r;show σ.rf≤_;omega⟩
  show okQ (σ.B.items.filter _)
  rw[←G.q]
  exact G.ok.filter _
 ·exact G.more
abbrev fitsQ (l:List It) (owner:Int) (n:Nat):Bool:=Quota.fits 4800 1600 (tot l) (own l) owner (n:Int)
def putE (σ:SS) (owner:Int) (d:List UInt8) (till:Nat):Int:=if σ.B.items.length≥16∨fitsQ σ.Q owner d.length=false then 15 else Obx.addE σ.B owner d till
def putN (σ:SS) (owner:Int) (d:List UInt8) (till:Nat):Int:=if σ.B.items.length≥16∨fitsQ σ.Q owner d.length=false then 0 else Obx.addN σ.B owner d till
def putS (σ:SS) (owner:Int) (d:List UInt8) (till:Nat):SS:=if putE σ owner d till=0 then { σ with B:=Obx.addS σ.B owner d till,Q:=(Obx.addS σ.B owner d till).items } else σ
def cancA (σ:SS) (num owner:Int):SS:= { σ with B:=Obx.cancS σ.B num owner,Q:=(Obx.cancS σ.B num owner).items }
def takeA (σ:SS):SS:=match σ.B.items with| []=>σ|_::r=> { σ with B:= { σ.B with items:=r,taken:=σ.B.taken+1 },Q:=r }
theorem okQ.add {l:List It} {x:It} (ok:okQ l) (hf:fitsQ l x.owner x.d.length=true):okQ (l++ [x]):=by
 have h:=Quota.Ok.take ok hf
 rw[own_add,show tot l+(x.d.length:Int)=tot (x::l) by rw[tot_cons];omega] at h
 exact okQ.perm h (List.perm_append_singleton _ _).symm
theorem putE_zero {owner:Int} {d:List UInt8} {till:Nat} (h:putE σ owner d till=0):fitsQ σ.Q owner d.length=true∧Obx.addE σ.B owner d till=0:=by
 unfold putE at h
 split at h
 ·cases h
 ·rename_i h1
  cases hf:fitsQ σ.Q owner d.length with
  |false=>exact absurd (.inr hf) h1
  |true=>exact⟨rfl,h⟩
theorem Good.put (G:Good σ k) (owner:Int) (d:List UInt8) (till:Nat):Good (putS σ owner d till) (k+1):=by
 unfold putS
 split
 ·rename_i h
  obtain⟨h1,h2⟩:=putE_zero h
  have e:Obx.addS σ.B owner d till= { σ.B with items:=σ.B.items++ [⟨σ.B.next,owner,d,till⟩],next:=σ.B.next+1 } :=if_pos h2
  rw[e]
  refine⟨G.a,G.g,G.c.more,by show σ.B.next+1≤_;have:=G.b;omega,by show σ.B.over≤_;have:=G.v;omega,rfl, ?_,G.n,G.e,G.t,by show σ.rf≤_;have:=G.r;omega⟩
  show okQ (σ.B.items++ [_])
  rw[←G.q]
  exact okQ.add G.ok h1
 ·exact G.more
theorem canc_items {s:Obx.BS} {num owner:Int} : ∃P:It→Bool,(Obx.cancS s num owner).items=s.items.filter P∧(Obx.cancS s num owner).next=s.next∧(Obx.cancS s num owner).over=s.over:=by
 unfold Obx.cancS
 split
 ·exact⟨_,rfl,rfl,rfl⟩
 ·exact⟨fun _=>true,(List.filter_eq_self.2 fun _ _=>rfl).symm,rfl,rfl⟩
theorem Good.canc (G:Good σ k) (num owner:Int):Good (cancA σ num owner) (k+1):=by
 obtain⟨P,h1,h2,h3⟩:=canc_items (s:=σ.B) (num:=num) (owner:=owner)
 refine⟨G.a,G.g,G.c.more,by show(Obx.cancS σ.B num owner).next≤_;rw[h2];have:=G.b;omega,by show(Obx.cancS σ.B num owner).over≤_;rw[h3];have:=G.v;omega,rfl, ?_,G.n,G.e,G.t,by show σ.rf≤_;have:=G.r;omega⟩
 show okQ (Obx.cancS σ.B num owner).items
 rw[h1,←G.q]
 exact G.ok.filter _
theorem Good.take (G:Good σ k):Good (takeA σ) (k+1):=by
 unfold takeA
 split
 ·exact G.more
 ·rename_i x r h
  refine⟨G.a,G.g,G.c.more,by show σ.B.next≤_;have:=G.b;omega,by show σ.B.over≤_;have:=G.v;omega,rfl, ?_,G.n,G.e,G.t,by show σ.rf≤_;have:=G.r;omega⟩
  have ok:=G.ok
  rw[G.q,h] at ok
  exact ok.sub
theorem Good.openA (G:Good σ k) (token:Nat):Good { σ with A:=Ses.openA σ.A token } (k+1):=
 ⟨G.a.open token,G.g,G.c.more,by show σ.B.next≤_;have:=G.b;omega,by show σ.B.over≤_;have:=G.v;omega,G.q,G.ok,G.n,G.e,G.t,by show σ.rf≤_;have:=G.r;omega⟩
theorem Good.addC (G:Good σ k) (O:Cps.Ord σ.C) (hk:k≤30000) (e:Ev) (he:0≤e.svc) (d:List UInt8) (till:Nat):Good { σ with C:=Cps.addF σ.C e d till } (k+1):=
 ⟨G.a,G.g,Cps_add G.c O hk e he d till,by show σ.B.next≤_;have:=G.b;omega,by show σ.B.over≤_;have:=G.v;omega,G.q,G.ok,G.n,G.e,G.t,by show σ.rf≤_;have:=G.r;omega⟩
end Stt
end Go.Proofs.YtgccegnmggjkjaaGreatDoor
set_option maxRecDepth 100000
set_option maxHeartbeats 4000000
namespace Go.Proofs.YtgccegnmggjkjaaGreatDoor
open Go.Den
variable {h : Heap} {R : Value → Heap → Prop}
theorem outbox_Box_Save.walk {b : Nat} (hv :
 Cl F.outbox_Box_made #[.pointer (some ⟨b, 0, none⟩)] h fun v h_1 =>
 ∃ t7, v = .bool t7 ∧
 if (!t7) = true then
 R (.slice none 0 0) h_1
 else
 ∃ t13, hcell h_1 ⟨b, 1, none⟩ = some (.int .i64 t13) ∧
 ∃ t18, hcell h_1 ⟨b, 2, none⟩ = some (.int .i64 t18) ∧
 ∃ t23, hcell h_1 ⟨b, 3, none⟩ = some (.int .i64 t23) ∧
 ∃ t28, hcell h_1 ⟨b, 4, none⟩ = some (.int .i64 t28) ∧
 ∃ t33_p t33_l t33_c, hcell h_1 ⟨b, 0, none⟩ = some (.slice t33_p t33_l t33_c) ∧
 Cl F.fields_New #[] h_1 fun v_1 h_2 =>
 ∃ t9, v_1 = .pointer t9 ∧
 hcell h_2 ⟨b, 0, none⟩ = some (.slice t33_p t33_l t33_c) ∧
 hcell h_2 ⟨b, 4, none⟩ = some (.int .i64 t28) ∧
 hcell h_2 ⟨b, 3, none⟩ = some (.int .i64 t23) ∧
 hcell h_2 ⟨b, 2, none⟩ = some (.int .i64 t18) ∧
 hcell h_2 ⟨b, 1, none⟩ = some (.int .i64 t13) ∧
 Cl F.fields_Writer_Int #[.pointer t9, .int .i64 t13] h_2 fun v_2 h_3 =>
 ∃ t14, v_2 = .pointer t14 ∧
 hcell h_3 ⟨b, 0, none⟩ = some (.slice t33_p t33_l t33_c) ∧
 hcell h_3 ⟨b, 4, none⟩ = some (.int .i64 t28) ∧
 hcell h_3 ⟨b, 3, none⟩ = some (.int .i64 t23) ∧
 hcell h_3 ⟨b, 2, none⟩ = some (.int .i64 t18) ∧
 Cl F.fields_Writer_Int #[.pointer t14, .int .i64 t18] h_3 fun v_3 h_4 =>
 ∃ t19, v_3 = .pointer t19 ∧
 hcell h_4 ⟨b, 0, none⟩ = some (.slice t33_p t33_l t33_c) ∧
 hcell h_4 ⟨b, 4, none⟩ = some (.int .i64 t28) ∧
 hcell h_4 ⟨b, 3, none⟩ = some (.int .i64 t23) ∧
 Cl F.fields_Writer_Int #[.pointer t19, .int .i64 t23] h_4 fun v_4 h_5 =>
 ∃ t24, v_4 = .pointer t24 ∧
 hcell h_5 ⟨b, 0, none⟩ = some (.slice t33_p t33_l t33_c) ∧
 hcell h_5 ⟨b, 4, none⟩ = some (.int .i64 t28) ∧
 Cl F.fields_Writer_Int #[.pointer t24, .int .i64 t28] h_5 fun v_5 h_6 =>
 ∃ t29, v_5 = .pointer t29 ∧
 hcell h_6 ⟨b, 0, none⟩ = some (.slice t33_p t33_l t33_c) ∧
 Cl F.fields_Writer_Int #[.pointer t29, .int .i64 ((t33_l : Nat) : Int)] h_6 fun v_6 h_7 =>
 ∃ t35, v_6 = .pointer t35 ∧
 hcell h_7 ⟨b, 0, none⟩ = some (.slice t33_p t33_l t33_c) ∧
 Cl F.fields_Writer_Bytes #[.pointer t35] h_7 fun v_7 h_8 =>
 ∃ t36_p t36_l t36_c, v_7 = .slice t36_p t36_l t36_c ∧
 hcell h_8 ⟨b, 0, none⟩ = some (.slice t33_p t33_l t33_c) ∧
 NewP h_8 (.cells #[.slice t36_p t36_l t36_c] T.s_uint8) fun b_1 h_9 =>
 hcell h_9 ⟨b, 0, none⟩ = some (.slice t33_p t33_l t33_c) ∧
 ∃ t41_p t41_l t41_c, hcell h_9 ⟨b, 0, none⟩ = some (.slice t41_p t41_l t41_c) ∧
 ∃ (I : Option Addr → Nat → Nat → Int → Heap → Prop) (mu : Option Addr → Nat → Nat → Int → Heap → Nat), I (some ⟨b_1, 0, none⟩) 1 1 0 h_9 ∧ ∀ (out_p : Option Addr) (out_l out_c : Nat) (t43 : Int) (h_10 : Heap), I out_p out_l out_c t43 h_10 →
 if (decide (t43 < ((t41_l : Nat) : Int))) = true then
 ((0 : Int) ≤ t43 ∧ t43 < ((t41_l : Nat) : Int)) ∧
 onSome t41_p fun a =>
 outbox_Item.LD h_10 (a.add (Int.toNat t43 * 4)) fun t46_0 t46_1 t46_2_p t46_2_l t46_2_c t46_3 =>
 NewP h_10 (.cells #[.int .i64 0, .int .i64 0, .slice none 0 0, .int .u64 0] T.outbox_Item) fun b_2 h_11 =>
 outbox_Item.ST h_11 ⟨b_2, 0, none⟩ t46_0 t46_1 t46_2_p t46_2_l t46_2_c t46_3 fun h_12 =>
 ∃ t50, hcell h_12 ⟨b_2, 0, none⟩ = some (.int .i64 t50) ∧
 ∃ t53, hcell h_12 ⟨b_2, 1, none⟩ = some (.int .i64 t53) ∧
 ∃ t56_p t56_l t56_c, hcell h_12 ⟨b_2, 2, none⟩ = some (.slice t56_p t56_l t56_c) ∧
 ∃ t59, hcell h_12 ⟨b_2, 3, none⟩ = some (.int .u64 t59) ∧
 Cl F.fields_New #[] h_12 fun v_8 h_13 =>
 ∃ t48, v_8 = .pointer t48 ∧
 hcell h_13 ⟨b_2, 3, none⟩ = some (.int .u64 t59) ∧
 hcell h_13 ⟨b_2, 2, none⟩ = some (.slice t56_p t56_l t56_c) ∧
 hcell h_13 ⟨b_2, 1, none⟩ = some (.int .i64 t53) ∧
 hcell h_13 ⟨b_2, 0, none⟩ = some (.int .i64 t50) ∧
 Cl F.fields_Writer_Int #[.pointer t48, .int .i64 t50] h_13 fun v_9 h_14 =>
 ∃ t51, v_9 = .pointer t51 ∧
 hcell h_14 ⟨b_2, 3, none⟩ = some (.int .u64 t59) ∧
 hcell h_14 ⟨b_2, 2, none⟩ = some (.slice t56_p t56_l t56_c) ∧
 hcell h_14 ⟨b_2, 1, none⟩ = some (.int .i64 t53) ∧
 Cl F.fields_Writer_Int #[.pointer t51, .int .i64 t53] h_14 fun v_10 h_15 =>
 ∃ t54, v_10 = .pointer t54 ∧
 hcell h_15 ⟨b_2, 3, none⟩ = some (.int .u64 t59) ∧
 hcell h_15 ⟨b_2, 2, none⟩ = some (.slice t56_p t56_l t56_c) ∧
 Cl F.fields_Writer_Text #[.pointer t54, .slice t56_p t56_l t56_c] h_15 fun v_11 h_16 =>
 ∃ t57, v_11 = .pointer t57 ∧
 hcell h_16 ⟨b_2, 3, none⟩ = some (.int .u64 t59) ∧
 Cl F.fields_Writer_Num #[.pointer t57, .int .u64 t59] h_16 fun v_12 h_17 =>
 ∃ t60, v_12 = .pointer t60 ∧
 Cl F.fields_Writer_Bytes #[.pointer t60] h_17 fun v_13 h_18 =>
 ∃ t61_p t61_l t61_c, v_13 = .slice t61_p t61_l t61_c ∧
 NewP h_18 (.cells #[.slice t61_p t61_l t61_c] T.s_uint8) fun b_3 h_19 =>
 denSem Tryz.prog (Builtin.append_ #[T.s_s_uint8, T.s_s_uint8] T.s_s_uint8 #[.slice out_p out_l out_c, .slice (some ⟨b_3, 0, none⟩) 1 1]) h_19 fun v_14 h_20 =>
 ∃ t63_p t63_l t63_c, v_14 = .slice t63_p t63_l t63_c ∧
 (I t63_p t63_l t63_c (IntKind.wrap .i64 (t43 + 1)) h_20 ∧ mu t63_p t63_l t63_c (IntKind.wrap .i64 (t43 + 1)) h_20 < mu out_p out_l out_c t43 h_10)
 else
 R (.slice out_p out_l out_c) h_10) : CallsH Tryz.prog F.outbox_Box_Save #[.pointer (some ⟨b, 0, none⟩)] h R :=
 callsH_of_body (.seq .leaf (.seq (.seq .leaf (.cond (.seq .leaf .leaf) .leaf)) (.seq (.plan (.op 1 (.op 2 (.op 3 (.op 4 (.op 6 (.op 7 (.op 8 (.op 9 (.op 11 (.op 12 (.op 13 (.op 14 (.op 16 (.op 17 (.op 18 (.op 19 (.op 21 (.op 22 (.op 23 (.op 24 (.op 25 (.op 0 (.op 5 (.op 10 (.op 15 (.op 20 (.op 26 (.op 27 (.op 28 (.op 29 .done))))))))))))))))))))))))))))))) (.seq (.seq .leaf (.block (.loop [(3, .one (.slice)), (43, .one (.int .i64))] (.seq .leaf (.seq (.cond .leaf .leaf) (.seq (.block (.seq .leaf (.plan (.op 0 (.op 2 (.op 3 (.op 5 (.op 6 (.op 8 (.op 9 (.op 11 (.op 12 (.op 1 (.op 4 (.op 7 (.op 10 (.op 13 (.op 14 (.op 15 (.op 16 (.op 17 .done))))))))))))))))))))) .leaf)))))) (.seq .leaf .leaf))))) Tryz.func132 rfl rfl (Eq.mp (by kernel_rfl) hv)
theorem outbox_Load.walk {l_p : Option Addr} {l_l l_c : Nat} (hv :
 if (((l_l : Nat) : Int) == 0) = true then
 R (.tuple #[.pointer none, .int .i64 3]) h
 else
 Cl F.outbox_New #[] h fun v h_1 =>
 ∃ t15, v = .pointer t15 ∧
 ((0 : Int) ≤ 0 ∧ 0 < ((l_l : Nat) : Int)) ∧
 onSome l_p fun a =>
 ∃ t18_p t18_l t18_c, hcell h_1 (a.add (Int.toNat 0 * 1)) = some (.slice t18_p t18_l t18_c) ∧
 Cl F.fields_Read #[.slice t18_p t18_l t18_c] h_1 fun v_1 h_2 =>
 ∃ t19, v_1 = .pointer t19 ∧
 Cl F.fields_Reader_Int #[.pointer t19] h_2 fun v_2 h_3 =>
 ∃ t25, v_2 = .int .i64 t25 ∧
 Cl F.fields_Reader_Int #[.pointer t19] h_3 fun v_3 h_4 =>
 ∃ t27, v_3 = .int .i64 t27 ∧
 Cl F.fields_Reader_Int #[.pointer t19] h_4 fun v_4 h_5 =>
 ∃ t29, v_4 = .int .i64 t29 ∧
 Cl F.fields_Reader_Int #[.pointer t19] h_5 fun v_5 h_6 =>
 ∃ t31, v_5 = .int .i64 t31 ∧
 onSome t15 fun a_1 =>
 StoreP h_6 (a_1.add 1) (.int .i64 t25) fun h_7 =>
 onSome t15 fun a_2 =>
 StoreP h_7 (a_2.add 2) (.int .i64 t27) fun h_8 =>
 onSome t15 fun a_3 =>
 StoreP h_8 (a_3.add 3) (.int .i64 t29) fun h_9 =>
 onSome t15 fun a_4 =>
 StoreP h_9 (a_4.add 4) (.int .i64 t31) fun h_10 =>
 Cl F.fields_Reader_Int #[.pointer t19] h_10 fun v_6 h_11 =>
 ∃ t41, v_6 = .int .i64 t41 ∧
 JoinP (fun (t86 : Bool) (h_12 : Heap) =>
 if t86 = true then
 R (.tuple #[.pointer none, .int .i64 3]) h_12
 else
 ((0 : Int) ≤ 1 ∧ 1 ≤ ((l_l : Nat) : Int)) ∧
 ∃ (I : Int → Int → Heap → Prop) (mu : Int → Int → Heap → Nat), I 0 0 h_12 ∧ ∀ (last : Int) (t90 : Int) (h_13 : Heap), I last t90 h_13 →
 if (decide (t90 < ((l_l - (Int.toNat 1) : Nat) : Int))) = true then
 ((0 : Int) ≤ t90 ∧ t90 < ((l_l - (Int.toNat 1) : Nat) : Int)) ∧
 onSome (slBase l_p l_c (Int.toNat 1) 1) fun a_5 =>
 ∃ t93_p t93_l t93_c, hcell h_13 (a_5.add (Int.toNat t90 * 1)) = some (.slice t93_p t93_l t93_c) ∧
 Cl F.fields_Read #[.slice t93_p t93_l t93_c] h_13 fun v_7 h_14 =>
 ∃ t95, v_7 = .pointer t95 ∧
 Cl F.fields_Reader_Int #[.pointer t95] h_14 fun v_8 h_15 =>
 ∃ t97, v_8 = .int .i64 t97 ∧
 Cl F.fields_Reader_Int #[.pointer t95] h_15 fun v_9 h_16 =>
 ∃ t99, v_9 = .int .i64 t99 ∧
 Cl F.fields_Reader_Text #[.pointer t95] h_16 fun v_10 h_17 =>
 ∃ t101_p t101_l t101_c, v_10 = .slice t101_p t101_l t101_c ∧
 Cl F.fields_Reader_Num #[.pointer t95] h_17 fun v_11 h_18 =>
 ∃ t103, v_11 = .int .u64 t103 ∧
 NewP h_18 (.cells #[.int .i64 0, .int .i64 0, .slice none 0 0, .int .u64 0] T.outbox_Item) fun b h_19 =>
 outbox_Item.ST h_19 ⟨b, 0, none⟩ t97 t99 t101_p t101_l t101_c t103 fun h_20 =>
 JoinP (fun (t127 : Bool) (h_21 : Heap) =>
 if t127 = true then
 R (.tuple #[.pointer none, .int .i64 3]) h_21
 else
 onSome t15 fun a_6 =>
 ∃ t132_p t132_l t132_c, hcell h_21 a_6 = some (.slice t132_p t132_l t132_c) ∧
 outbox_Item.LD h_21 ⟨b, 0, none⟩ fun t133_0 t133_1 t133_2_p t133_2_l t133_2_c t133_3 =>
 NewP h_21 (.cells #[.int .i64 t133_0, .int .i64 t133_1, .slice t133_2_p t133_2_l t133_2_c, .int .u64 t133_3] T.outbox_Item) fun b_1 h_22 =>
 hcell h_22 a_6 = some (.slice t132_p t132_l t132_c) ∧
 denSem Tryz.prog (Builtin.append_ #[T.s_outbox_Item, T.s_outbox_Item] T.s_outbox_Item #[.slice t132_p t132_l t132_c, .slice (some ⟨b_1, 0, none⟩) 1 1]) h_22 fun v_12 h_23 =>
 ∃ t135_p t135_l t135_c, v_12 = .slice t135_p t135_l t135_c ∧
 onSome t15 fun a_7 =>
 StoreP h_23 a_7 (.slice t135_p t135_l t135_c) fun h_24 =>
 onSome t15 fun a_8 =>
 ∃ t141, hcell h_24 (a_8.add 5) = some (.pointer t141) ∧
 ∃ t143, hcell h_24 ⟨b, 0, none⟩ = some (.int .i64 t143) ∧
 ∃ t145, hcell h_24 ⟨b, 3, none⟩ = some (.int .u64 t145) ∧
 Cl F.alarm_Alarm_Set #[.pointer t141, .int .i64 t143, .int .u64 t145] h_24 fun v_13 h_25 =>
 ∃ t146, v_13 = .int .i64 t146 ∧
 ∃ t148, hcell h_25 ⟨b, 0, none⟩ = some (.int .i64 t148) ∧
 (I t148 (IntKind.wrap .i64 (t90 + 1)) h_25 ∧ mu t148 (IntKind.wrap .i64 (t90 + 1)) h_25 < mu last t90 h_13))
 (fun J_1 =>
 Cl F.fields_Reader_End #[.pointer t95] h_20 fun v_14 h_26 =>
 ∃ t106, v_14 = .int .i64 t106 ∧
 if (t106 != 0) = true then
 J_1 true h_26
 else
 outbox_Item.LD h_26 ⟨b, 0, none⟩ fun t109_0 t109_1 t109_2_p t109_2_l t109_2_c t109_3 =>
 Cl F.outbox_right #[.agg #[.int .i64 t109_0, .int .i64 t109_1, .slice t109_2_p t109_2_l t109_2_c, .int .u64 t109_3]] h_26 fun v_15 h_27 =>
 ∃ t110, v_15 = .bool t110 ∧
 if (!t110) = true then
 J_1 true h_27
 else
 ∃ t115, hcell h_27 ⟨b, 0, none⟩ = some (.int .i64 t115) ∧
 if (decide (t115 ≤ last)) = true then
 J_1 true h_27
 else
 ∃ t121, hcell h_27 ⟨b, 0, none⟩ = some (.int .i64 t121) ∧
 onSome t15 fun a_9 =>
 ∃ t125, hcell h_27 (a_9.add 1) = some (.int .i64 t125) ∧
 J_1 (decide (t121 ≥ t125)) h_27)
 else
 R (.tuple #[.pointer t15, .int .i64 0]) h_13)
 (fun J =>
 Cl F.fields_Reader_End #[.pointer t19] h_11 fun v_16 h_28 =>
 ∃ t43, v_16 = .int .i64 t43 ∧
 if (t43 != 0) = true then
 J true h_28
 else
 if (t41 != (IntKind.wrap .i64 (((l_l : Nat) : Int) - 1))) = true then
 J true h_28
 else
 if (decide (t41 > 16)) = true then
 J true h_28
 else
 onSome t15 fun a_10 =>
 ∃ t60, hcell h_28 (a_10.add 1) = some (.int .i64 t60) ∧
 if (decide (t60 < 1)) = true then
 J true h_28
 else
 onSome t15 fun a_11 =>
 ∃ t67, hcell h_28 (a_11.add 1) = some (.int .i64 t67) ∧
 onSome t15 fun a_12 =>
 ∃ t72, hcell h_28 (a_12.add 2) = some (.int .i64 t72) ∧
 onSome t15 fun a_13 =>
 ∃ t76, hcell h_28 (a_13.add 3) = some (.int .i64 t76) ∧
 onSome t15 fun a_14 =>
 ∃ t81, hcell h_28 (a_14.add 4) = some (.int .i64 t81) ∧
 J ((IntKind.wrap .i64 (t67 - 1)) != (IntKind.wrap .i64 ((IntKind.wrap .i64 ((IntKind.wrap .i64 (t72 + t76)) + t81)) + t41))) h_28)) : CallsH Tryz.prog F.outbox_Load #[.slice l_p l_l l_c] h R :=
 callsH_of_body (.seq .leaf (.seq (.seq .leaf (.cond (.seq .leaf .leaf) .leaf)) (.seq .leaf (.seq .leaf (.seq .leaf (.seq .leaf (.seq (.seq (.join [(86, .one (.bool))] (.plan (.op 0 (.op 1 (.op 2 (.op 3 (.op 4 (.op 5 (.op 6 (.op 7 (.op 8 (.op 9 (.op 10 (.op 11 (.op 12 (.op 13 (.op 14 (.op 15 (.op 16 (.op 17 (.op 18 (.op 19 (.op 20 (.op 21 (.op 22 (.op 23 (.op 24 (.op 25 (.op 26 (.op 27 (.op 28 (.op 29 (.op 30 (.op 31 (.op 32 (.op 33 (.op 34 (.op 35 (.op 36 (.op 37 (.op 38 (.op 39 (.op 40 (.op 41 (.op 42 (.op 43 (.op 44 .done))))))))))))))))))))))))))))))))))))))))))))))) (.cond (.seq .leaf .leaf) .leaf)) (.seq .leaf (.seq (.seq .leaf (.block (.loop [(7, .one (.int .i64)), (90, .one (.int .i64))] (.seq .leaf (.seq (.cond .leaf .leaf) (.seq (.block (.seq .leaf (.seq .leaf (.seq .leaf (.seq (.seq (.join [(127, .one (.bool))] (.plan (.op 0 (.op 1 (.op 2 (.op 3 (.op 4 (.op 5 (.op 6 (.op 7 (.op 8 (.op 9 (.op 10 (.op 11 (.op 12 (.op 13 (.op 14 (.op 15 (.op 16 (.op 17 (.op 18 (.op 19 (.op 20 (.op 21 (.op 22 .done))))))))))))))))))))))))) (.cond (.seq .leaf .leaf) .leaf)) (.seq (.plan (.op 0 (.op 1 (.op 2 (.op 3 (.op 4 (.op 5 (.op 6 (.op 7 (.op 8 (.op 9 (.op 10 .done)))))))))))) (.seq (.plan (.op 0 (.op 1 (.op 2 (.op 3 (.op 4 (.op 5 (.op 6 (.op 7 (.op 8 .done)))))))))) .leaf))))))) .leaf)))))) (.seq .leaf .leaf)))))))))) Tryz.func185 rfl rfl (Eq.mp (by kernel_rfl) hv)
end Go.Proofs.YtgccegnmggjkjaaGreatDoor
set_option maxRecDepth 100000
namespace Go.Proofs.YtgccegnmggjkjaaGreatDoor
open Go.Den Go.Fields Go.Heapq
namespace Obx
open Fld
variable {h h' h0 : Heap} {b : Nat} {X : Ft} {R : Value → Heap → Prop} {p q : Option Addr} {c d i : Nat} {L : List E} {s : BS}
def IL (h0 h:Heap) (p:Option Addr) (l c:Nat) (items:List It):Prop:=
 ∃(ys:List IV) (D:Nat→Prop),l=ys.length∧Own h p l c 4 (ys.flatMap ienc)∧ys.map IV.abs=items∧(∀y∈ys,y.v.ok h D)∧(∀y,D y→h0.size≤y∧y<h.size∧ ¬inBlk p y)∧ ∀y,inBlk p y→h0.size≤y
theorem IL.len {l:Nat} {items:List It} (H:IL h0 h p l c items):l=items.length:=by
 obtain⟨ys,D,h1,_,h3,_⟩:=H
 rw[h1,←h3,List.length_map]
theorem all_ok (H:Box h b X s) (hk: ∀h' p' l' c',IL h h' p' l' c' s.items→Fr (fun _=>False) h h'→R (.slice p' l' c') h'):CallsH Tryz.prog F.outbox_Box_All #[.pointer (some ⟨b,0,none⟩)] h R:=by
 obtain⟨L,⟨lp,lc,xs,a,S,H⟩,ok⟩:=H
 obtain⟨hL,hxl⟩:=H.okL ok
 refine outbox_Box_All.walk (made_ok H ⟨_,rfl,JoinP.of fun J hJ=> ?_⟩)
 simp only[if_true]
 refine⟨_,_,_,cell_at H.blk rfl, ?_⟩
 refine⟨fun op ol oc t g=> ∃k:Nat,t=(k:Int)∧k≤xs.length∧IL h g op ol oc (s.items.take k)∧Fr (fun _=>False) h g,fun _ _ _ t _=>xs.length - t.toNat,⟨0,rfl,by omega,⟨[],fun _=>False,rfl, .nil rfl rfl rfl rfl,by simp,(fun y hy=>by cases hy),(fun y hy=>hy.elim),fun y ⟨a,e,_⟩=>by cases e⟩,Fr.refl _ _⟩, ?_⟩
 rintro op ol oc _ g ⟨k,rfl,hkn,I,fg⟩
 have Mg:=H.on fg
 by_cases hlt:k<xs.length
 ·have q1:(k:Int)<((xs.length:Nat):Int):=by omega
  simp only[q1,decide_true,if_true,Int.toNat_natCast]
  have hx:xs[k]? =some xs[k]:=List.getElem?_eq_getElem hlt
  generalize xs[k]=x at hx
  obtain⟨ab,aoff,rfl⟩:=Mg.own.addr (by omega)
  refine⟨⟨by first|trivial|omega,by first|trivial|omega⟩,onSome_some.2 (outbox_Item.ldA (Mg.own.heldAt ienc_len hx) (outbox_Item.new fun b1 h8 eb1 hb1 f8=>outbox_Item.ld hb1 ?_))⟩
  have xit:s.items[k]? =some x.abs:=by rw[←H.abs,List.getElem?_map,hx];rfl
  have hxd:=ok.it x.abs (List.mem_of_getElem? xit)
  have dl:x.v.b.length≤600:=hxd.2.2.2.1
  have row8:=((Mg.dat x (List.mem_of_getElem? hx)).row).frame f8 (fun _ _=>id)
  refine copied_ok row8 rfl (by omega) fun h9 p9 c9 o9 f9 g9=>⟨_,_,_,_,_,_,rfl, ?_⟩
  have F9:Fr (fun _=>False) g h9:=f8.tt f9
  obtain⟨ys,D,y1,y2,y3,y4,y5,y6⟩:=I
  have yl:ys.length≤16:=by
   have:=congrArg List.length y3
   rw[List.length_map,List.length_take] at this
   omega
  have z9:=F9.1
  have zg:=fg.1
  have z8:=f8.1
  refine den_append1 tI uI (y2.frame F9 (fun _ _=>id)) rfl (fun w hw=>by simp at hw;rcases hw with rfl|rfl|rfl|rfl<;>rfl) (by omega) (by omega) fun p11 c11 h11 o11 f11 g11=>⟨_,_,_,rfl, ?_⟩
  rw[wrap_id (by omega) (by omega)]
  have p9y: ∀y,inBlk p9 y→g.size≤y∧y<h9.size:=fun y hy=>⟨by have:=g9 y hy;omega,o9.blk_lt hy⟩
  have z11:=f11.1
  refine⟨⟨k+1,by omega,by omega,⟨ys++ [⟨x.num,x.owner,⟨p9,c9,x.v.b⟩,x.till⟩],fun y=>D y∨inBlk p9 y,by rw[List.length_append,y1];rfl, ?_, ?_, ?_, ?_, ?_⟩, ?_⟩,by show xs.length - Int.toNat ((k:Int)+1)<xs.length - k;omega⟩
  ·rw[List.flatMap_append];simpa using o11
  ·rw[List.map_append,y3,List.take_add_one,xit];rfl
  ·intro w hw
   rcases List.mem_append.1 hw with hw|hw
   ·exact(((y4 w hw).frame F9 (fun _ _=>id)).frame f11 (fun y hy=>(y5 y hy).2.2)).mono (fun y=> .inl)
   ·obtain rfl:=List.mem_singleton.1 hw
    exact BV.of_own (o9.frame f11 (fun y hy hq=>by have:=p9y y hy;have:=y2.blk_lt hq;omega)) (fun y=> .inr)
  ·rintro y (hy|hy)
   ·have a:=y5 y hy
    exact⟨a.1,by omega,fun hq=>(g11 y hq).elim a.2.2 (fun h2=>by omega)⟩
   ·have a:=p9y y hy
    exact⟨by omega,by omega,fun hq=>(g11 y hq).elim (fun h2=>by have:=y2.blk_lt h2;omega) (fun h2=>by omega)⟩
  ·intro y hy
   rcases g11 y hy with h2|h2
   ·exact y6 y h2
   ·omega
  ·exact(fg.tt F9).fresh f11 y6
 ·have q1: ¬(k:Int)<((xs.length:Nat):Int):=by omega
  simp only[q1,decide_false,Bool.false_eq_true,if_false]
  subst hJ
  have hlen:=H.len
  rw[List.take_of_length_le (by omega)] at I
  exact hk g op ol oc I fg
def headB (s:BS):List UInt8:=encNum s.next++encNum s.taken++encNum s.canc++encNum s.over++encNum s.items.length
def recI (x:It):List UInt8:=encNum x.num++encNum x.owner.toNat++encText x.d++encNum x.till
def recsB (s:BS):List (List UInt8):=headB s::s.items.map recI
theorem headB_len (s:BS):(headB s).length≤60:=by
 unfold headB
 simp only[List.length_append]
 have a1:=(encNum_len s.next).2
 have a2:=(encNum_len s.taken).2
 have a3:=(encNum_len s.canc).2
 have a4:=(encNum_len s.over).2
 have a5:=(encNum_len s.items.length).2
 omega
theorem recI_len {x:It} (h:x.d.length≤600):(recI x).length≤700:=by
 unfold recI encText
 simp only[List.length_append]
 have a1:=(encNum_len x.num).2
 have a2:=(encNum_len x.owner.toNat).2
 have a3:=(encNum_len x.d.length).2
 have a4:=(encNum_len x.till).2
 omega
theorem save_ok (H:Box h b X s) (hnx:s.next≤1000000000) (hk: ∀h' p' l' c',BL h h' p' l' c' (recsB s)→Fr (fun _=>False) h h'→R (.slice p' l' c') h'):CallsH Tryz.prog F.outbox_Box_Save #[.pointer (some ⟨b,0,none⟩)] h R:=by
 obtain⟨L,⟨lp,lc,xs,a,S,H⟩,ok⟩:=H
 obtain⟨hL,hxl⟩:=H.okL ok
 have hcnt:=ok.cnt
 have hlen:=H.len
 have nb: ∀(n:Nat),natOf (n:Int)=n:=fun n=>by unfold natOf;omega
 refine outbox_Box_Save.walk (made_ok H ⟨_,rfl, ?_⟩)
 simp only[Bool.not_true,Bool.false_eq_true,if_false]
 refine⟨_,cell_at H.blk rfl,_,cell_at H.blk rfl,_,cell_at H.blk rfl,_,cell_at H.blk rfl,_,_,_,cell_at H.blk rfl, ?_⟩
 refine Fld.new_ok fun h2 w S2 W2 f2 g2=>⟨_,rfl, ?_⟩
 have u2:Up h S2 h2:=⟨f2,g2⟩
 have lb:=lt_of_get H.blk
 have nbS: ∀ {S:Nat→Prop} {h':Heap},Up h S h'→ ¬S b:=fun u hx=>by have:=u.ge b hx;omega
 have b2:=f2.get H.blk id
 refine⟨cell_at b2 rfl,cell_at b2 rfl,cell_at b2 rfl,cell_at b2 rfl,cell_at b2 rfl, ?_⟩
 refine int_ok W2 (by simp) (by omega) fun h3 S3 W3 s3=>⟨_,rfl, ?_⟩
 have b3:=s3.fr.get b2 (nbS u2)
 have u3:=u2.step s3
 rw[nb,List.nil_append] at W3
 have l1:=(encNum_len s.next).2
 refine⟨cell_at b3 rfl,cell_at b3 rfl,cell_at b3 rfl,cell_at b3 rfl, ?_⟩
 refine int_ok W3 (by omega) (by omega) fun h4 S4 W4 s4=>⟨_,rfl, ?_⟩
 have b4:=s4.fr.get b3 (nbS u3)
 have u4:=u3.step s4
 rw[nb] at W4
 have l2:=(encNum_len s.taken).2
 refine⟨cell_at b4 rfl,cell_at b4 rfl,cell_at b4 rfl, ?_⟩
 refine int_ok W4 (by simp only[List.length_append];omega) (by omega) fun h5 S5 W5 s5=>⟨_,rfl, ?_⟩
 have b5:=s5.fr.get b4 (nbS u4)
 have u5:=u4.step s5
 rw[nb] at W5
 have l3:=(encNum_len s.canc).2
 refine⟨cell_at b5 rfl,cell_at b5 rfl, ?_⟩
 refine int_ok W5 (by simp only[List.length_append];omega) (by omega) fun h6 S6 W6 s6=>⟨_,rfl, ?_⟩
 have b6:=s6.fr.get b5 (nbS u5)
 have u6:=u5.step s6
 rw[nb] at W6
 have l4:=(encNum_len s.over).2
 refine⟨cell_at b6 rfl, ?_⟩
 refine int_ok W6 (by simp only[List.length_append];omega) (by omega) fun h7 S7 W7 s7=>⟨_,rfl, ?_⟩
 have b7:=s7.fr.get b6 (nbS u6)
 have u7:=u6.step s7
 rw[nb,hlen] at W7
 refine⟨cell_at b7 rfl, ?_⟩
 have hh:=headB_len s
 refine bytes_ok (bs:=headB s) W7 (by omega) fun q8 d8 h8 o8 f8 g8=>⟨_,_,_,rfl, ?_⟩
 have b8:=f8.get b7 id
 refine⟨cell_at b8 rfl,newP_of ?_⟩
 have f9:Fr (fun _=>False) h8 (h8.push (.cells #[.slice q8 (headB s).length d8] T.s_uint8)):=Fr.push _ _
 have o9:Own (h8.push (.cells #[.slice q8 (headB s).length d8] T.s_uint8)) (some ⟨h8.size,0,none⟩) 1 1 1 (nenc ⟨q8,d8,headB s⟩):= .row h8.size 0 _ _ rfl push_new (Nat.le_refl _) (by simp) rfl (fun j v hj=>by rw[Nat.zero_add];simpa using hj)
 have F8:Fr (fun _=>False) h h8:=u7.fr.tt f8
 have z8:=F8.1
 have z7:=u7.fr.1
 have B9:BL h (h8.push (.cells #[.slice q8 (headB s).length d8] T.s_uint8)) (some ⟨h8.size,0,none⟩) 1 1 [headB s]:=by
  refine⟨[⟨q8,d8,headB s⟩],inBlk q8,rfl,by simpa using o9,rfl, ?_, ?_,fun y ⟨a,e,e2⟩=>by cases e;rw[←e2];exact z8⟩
  ·intro x hx
   obtain rfl:=List.mem_singleton.1 hx
   exact BV.of_own (o8.frame f9 (fun _ _=>id)) (fun _=>id)
  ·intro y hy
   have h1:=g8 y hy
   have h2:=o8.blk_lt hy
   exact⟨by omega,by rw[Array.size_push];omega,fun⟨a,e,e2⟩=>by cases e;have e2:h8.size=y:=e2;omega⟩
 have F9:Fr (fun _=>False) h (h8.push (.cells #[.slice q8 (headB s).length d8] T.s_uint8)):=F8.tt f9
 generalize h8.push (.cells #[.slice q8 (headB s).length d8] T.s_uint8)=h9 at B9 F9⊢
 generalize (some ⟨h8.size,0,none⟩:Option Addr)=p9 at B9⊢
 have M9:=H.on F9
 refine⟨cell_at M9.blk rfl,_,_,_,cell_at M9.blk rfl, ?_⟩
 refine⟨fun op ol oc t g=> ∃k:Nat,t=(k:Int)∧k≤xs.length∧BL h g op ol oc (headB s::(s.items.take k).map recI)∧Fr (fun _=>False) h g,fun _ _ _ t _=>xs.length - t.toNat,⟨0,rfl,by omega,by simpa using B9,F9⟩, ?_⟩
 rintro op ol oc _ g ⟨k,rfl,hkn,B,fg⟩
 have Mg:=H.on fg
 by_cases hlt:k<xs.length
 ·have q1:(k:Int)<((xs.length:Nat):Int):=by omega
  simp only[q1,decide_true,if_true,Int.toNat_natCast]
  have hx:xs[k]? =some xs[k]:=List.getElem?_eq_getElem hlt
  generalize xs[k]=x at hx
  obtain⟨ab,aoff,rfl⟩:=Mg.own.addr (by omega)
  refine⟨⟨by first|trivial|omega,by first|trivial|omega⟩,onSome_some.2 (outbox_Item.ldA (Mg.own.heldAt ienc_len hx) (outbox_Item.new fun b1 h15 eb1 hb1 f15=> ?_))⟩
  have xit:s.items[k]? =some x.abs:=by rw[←H.abs,List.getElem?_map,hx];rfl
  have hxd:=ok.it x.abs (List.mem_of_getElem? xit)
  have dl:x.v.b.length≤600:=hxd.2.2.2.1
  have xo:1≤x.owner∧x.owner≤1099511627776:=⟨hxd.2.2.2.2.1,hxd.2.2.2.2.2.1⟩
  have xt:x.till≤1099511627776:=hxd.2.2.2.2.2.2
  have xn:x.num<s.next:=hxd.2.1
  refine⟨_,cell_at hb1 rfl,_,cell_at hb1 rfl,_,_,_,cell_at hb1 rfl,_,cell_at hb1 rfl, ?_⟩
  refine Fld.new_ok fun h16 w S16 W16 f16 g16=>⟨_,rfl, ?_⟩
  have u16:Up h15 S16 h16:=⟨f16,g16⟩
  have l1':=lt_of_get hb1
  have nbS': ∀ {S:Nat→Prop} {h':Heap},Up h15 S h'→ ¬S b1:=fun u hx=>by have:=u.ge b1 hx;omega
  have c16:=f16.get hb1 id
  refine⟨cell_at c16 rfl,cell_at c16 rfl,cell_at c16 rfl,cell_at c16 rfl, ?_⟩
  refine int_ok W16 (by simp) (by omega) fun h17 S17 W17 s17=>⟨_,rfl, ?_⟩
  have c17:=s17.fr.get c16 (nbS' u16)
  have u17:=u16.step s17
  rw[nb,List.nil_append] at W17
  have l5:=(encNum_len x.num).2
  refine⟨cell_at c17 rfl,cell_at c17 rfl,cell_at c17 rfl, ?_⟩
  refine int_ok W17 (by omega) (by omega) fun h18 S18 W18 s18=>⟨_,rfl, ?_⟩
  have c18:=s18.fr.get c17 (nbS' u17)
  have u18:=u17.step s18
  have eo:natOf x.owner=x.owner.toNat:=by unfold natOf;omega
  rw[eo] at W18
  have l6:=(encNum_len x.owner.toNat).2
  refine⟨cell_at c18 rfl,cell_at c18 rfl, ?_⟩
  have row18:=((Mg.dat x (List.mem_of_getElem? hx)).row).frame (f15.tt u18.fr) (fun _ _=>id)
  refine text_ok' W18 (by simp only[List.length_append];omega) row18 rfl (by omega) (fun y hy hne hS=> ?_) fun h19 S19 W19 s19=>⟨_,rfl, ?_⟩
  ·have a1:=(Mg.dat x (List.mem_of_getElem? hx)).own hne y hy
   have a2:=Mg.dlt y a1
   have a3:=u18.ge y hS
   have a4:=f15.1
   omega
  have c19:=s19.fr.get c18 (nbS' u18)
  have u19:=u18.step s19
  have el:(encText x.v.b).length=(encNum x.v.b.length).length+x.v.b.length:=by unfold encText;rw[List.length_append]
  have l7:=(encNum_len x.v.b.length).2
  refine⟨cell_at c19 rfl, ?_⟩
  refine num_ok x.till W19 (by simp only[List.length_append];omega) rfl (by omega) fun h20 S20 W20 s20=>⟨_,rfl, ?_⟩
  have u20:=u19.step s20
  have rl:=recI_len (x:=x.abs) dl
  refine bytes_ok (bs:=recI x.abs) W20 (by omega) fun q21 d21 h21 o21 f21 g21=>⟨_,_,_,rfl, ?_⟩
  have F21:Fr (fun _=>False) g h21:=f15.tt (u20.fr.tt f21)
  have z21:=F21.1
  have zg:=fg.1
  have z20:=(f15.tt u20.fr).1
  have bl:=B.len
  rw[List.length_cons,List.length_map,List.length_take] at bl
  refine(B.on F21).push (by omega) o21 (fun y hy=>⟨by have:=g21 y hy;omega,fun ho=>by have:=B.lt ho;have:=g21 y hy;omega⟩) (by omega) ?_
  intro p23 c23 h23 B23 f23 g23
  refine⟨_,_,_,rfl, ?_⟩
  rw[wrap_id (by omega) (by omega)]
  refine⟨⟨k+1,by omega,by omega, ?_, ?_⟩,by show xs.length - Int.toNat ((k:Int)+1)<xs.length - k;omega⟩
  ·rw[List.take_add_one,xit,List.map_append]
   rw[List.cons_append] at B23
   exact B23
  ·obtain⟨_,_,_,_,_,_,_,h6'⟩:=B
   exact(fg.tt F21).fresh f23 h6'
 ·have q1: ¬(k:Int)<((xs.length:Nat):Int):=by omega
  simp only[q1,decide_false,Bool.false_eq_true,if_false]
  rw[List.take_of_length_le (by omega)] at B
  exact hk g op ol oc B fg
end Obx
end Go.Proofs.YtgccegnmggjkjaaGreatDoor
set_option maxRecDepth 100000
set_option maxHeartbeats 4000000
namespace Go.Proofs.YtgccegnmggjkjaaGreatDoor
open Go.Den
variable {h : Heap} {R : Value → Heap → Prop}
theorem state_New.walk {self_0 : Bool} {self_1 : Int} {self_2 : Int} {self_3 : ByteArray} {self_4 : ByteArray} (hv :
 NewP h (.cells #[.bool self_0, .int .u64 self_1, .int .u64 self_2, .string self_3, .string self_4] T.eid_Eid) fun b h_1 =>
 eid_Eid.LD h_1 ⟨b, 0, none⟩ fun t8_0 t8_1 t8_2 t8_3 t8_4 =>
 Cl F.ident_New #[.agg #[.bool t8_0, .int .u64 t8_1, .int .u64 t8_2, .string t8_3, .string t8_4]] h_1 fun v h_2 =>
 ∃ t9_0 t9_1, v = .tuple #[.pointer t9_0, .int .i64 t9_1] ∧
 if (t9_1 != 0) = true then
 R (.tuple #[.pointer none, .int .i64 t9_1]) h_2
 else
 Cl F.quota_New #[.int .i64 4800, .int .i64 1600] h_2 fun v_1 h_3 =>
 ∃ t16_0 t16_1, v_1 = .tuple #[.pointer t16_0, .int .i64 t16_1] ∧
 if (t16_1 != 0) = true then
 R (.tuple #[.pointer none, .int .i64 t16_1]) h_3
 else
 Cl F.sessions_New #[] h_3 fun v_2 h_4 =>
 ∃ t22, v_2 = .pointer t22 ∧
 Cl F.regs_New #[] h_4 fun v_3 h_5 =>
 ∃ t23, v_3 = .pointer t23 ∧
 Cl F.copies_New #[] h_5 fun v_4 h_6 =>
 ∃ t24, v_4 = .pointer t24 ∧
 Cl F.outbox_New #[] h_6 fun v_5 h_7 =>
 ∃ t25, v_5 = .pointer t25 ∧
 NewP h_7 (.cells #[.pointer t22, .pointer t23, .pointer t24, .pointer t25, .pointer t16_0, .pointer t9_0, .int .u64 0, .int .i64 0] T.state_State) fun b_1 h_8 =>
 R (.tuple #[.pointer (some ⟨b_1, 0, none⟩), .int .i64 0]) h_8) : CallsH Tryz.prog F.state_New #[.agg #[.bool self_0, .int .u64 self_1, .int .u64 self_2, .string self_3, .string self_4]] h R :=
 callsH_of_body (.seq .leaf (.seq .leaf (.seq (.seq .leaf (.cond (.seq .leaf .leaf) .leaf)) (.seq .leaf (.seq (.seq .leaf (.cond (.seq .leaf .leaf) .leaf)) (.seq .leaf .leaf)))))) Tryz.func40 rfl rfl (Eq.mp (by kernel_rfl) hv)
theorem state_State_made.walk {s : Nat} (hv :
 ∃ t9, hcell h ⟨s, 0, none⟩ = some (.pointer t9) ∧
 if (!t9.isNone) = true then
 ∃ t16, hcell h ⟨s, 1, none⟩ = some (.pointer t16) ∧
 if (!t16.isNone) = true then
 ∃ t23, hcell h ⟨s, 2, none⟩ = some (.pointer t23) ∧
 if (!t23.isNone) = true then
 ∃ t30, hcell h ⟨s, 3, none⟩ = some (.pointer t30) ∧
 if (!t30.isNone) = true then
 ∃ t37, hcell h ⟨s, 4, none⟩ = some (.pointer t37) ∧
 if (!t37.isNone) = true then
 ∃ t44, hcell h ⟨s, 5, none⟩ = some (.pointer t44) ∧
 R (.bool (!t44.isNone)) h
 else
 R (.bool false) h
 else
 R (.bool false) h
 else
 R (.bool false) h
 else
 R (.bool false) h
 else
 R (.bool false) h) : CallsH Tryz.prog F.state_State_made #[.pointer (some ⟨s, 0, none⟩)] h R :=
 callsH_of_body (.seq .leaf (.seq .leaf .leaf)) Tryz.func118 rfl rfl (Eq.mp (by kernel_rfl) hv)
theorem state_State_Pass.walk {s : Nat} {now : Int} (hv :
 Cl F.state_State_made #[.pointer (some ⟨s, 0, none⟩)] h fun v h_1 =>
 ∃ t9, v = .bool t9 ∧
 if (!t9) = true then
 R (.int .i64 6) h_1
 else
 if (decide (now > 1099511627776)) = true then
 R (.int .i64 1) h_1
 else
 ∃ t19, hcell h_1 ⟨s, 6, none⟩ = some (.int .u64 t19) ∧
 if (decide (now < t19)) = true then
 R (.int .i64 18) h_1
 else
 StoreP h_1 ⟨s, 6, none⟩ (.int .u64 now) fun h_2 =>
 ∃ t28, hcell h_2 ⟨s, 2, none⟩ = some (.pointer t28) ∧
 Cl F.copies_Table_Pass #[.pointer t28, .int .u64 now] h_2 fun v_1 h_3 =>
 ∃ t30_p t30_l t30_c, v_1 = .slice t30_p t30_l t30_c ∧
 ∃ t34, hcell h_3 ⟨s, 3, none⟩ = some (.pointer t34) ∧
 Cl F.outbox_Box_Pass #[.pointer t34, .int .u64 now] h_3 fun v_2 h_4 =>
 ∃ t36_p t36_l t36_c, v_2 = .slice t36_p t36_l t36_c ∧
 ∃ (I : Int → Heap → Prop) (mu : Int → Heap → Nat), I 0 h_4 ∧ ∀ (t38 : Int) (h_5 : Heap), I t38 h_5 →
 if (decide (t38 < ((t36_l : Nat) : Int))) = true then
 ((0 : Int) ≤ t38 ∧ t38 < ((t36_l : Nat) : Int)) ∧
 onSome t36_p fun a =>
 outbox_Item.LD h_5 (a.add (Int.toNat t38 * 4)) fun t41_0 t41_1 t41_2_p t41_2_l t41_2_c t41_3 =>
 NewP h_5 (.cells #[.int .i64 0, .int .i64 0, .slice none 0 0, .int .u64 0] T.outbox_Item) fun b h_6 =>
 outbox_Item.ST h_6 ⟨b, 0, none⟩ t41_0 t41_1 t41_2_p t41_2_l t41_2_c t41_3 fun h_7 =>
 ∃ t45, hcell h_7 ⟨s, 4, none⟩ = some (.pointer t45) ∧
 ∃ t47, hcell h_7 ⟨b, 1, none⟩ = some (.int .i64 t47) ∧
 ∃ t49_p t49_l t49_c, hcell h_7 ⟨b, 2, none⟩ = some (.slice t49_p t49_l t49_c) ∧
 Cl F.quota_Purse_Give #[.pointer t45, .int .i64 t47, .int .i64 ((t49_l : Nat) : Int)] h_7 fun v_3 h_8 =>
 ∃ t51, v_3 = .int .i64 t51 ∧
 hcell h_8 ⟨b, 2, none⟩ = some (.slice t49_p t49_l t49_c) ∧
 (I (IntKind.wrap .i64 (t38 + 1)) h_8 ∧ mu (IntKind.wrap .i64 (t38 + 1)) h_8 < mu t38 h_5)
 else
 R (.int .i64 0) h_5) : CallsH Tryz.prog F.state_State_Pass #[.pointer (some ⟨s, 0, none⟩), .int .u64 now] h R :=
 callsH_of_body (.seq .leaf (.seq (.block (.seq .leaf (.cond (.seq .leaf .leaf) (.seq .leaf (.cond (.seq .leaf .leaf) (.seq .leaf (.cond (.seq .leaf .leaf) .leaf))))))) (.seq .leaf (.seq .leaf (.seq (.seq .leaf (.block (.loop [(38, .one (.int .i64))] (.seq .leaf (.seq (.cond .leaf .leaf) (.seq (.block (.seq .leaf (.plan (.op 0 (.op 1 (.op 2 (.op 3 (.op 4 (.op 5 (.op 6 (.op 7 (.op 8 (.op 9 .done))))))))))))) .leaf)))))) (.seq .leaf .leaf)))))) Tryz.func48 rfl rfl (Eq.mp (by kernel_rfl) hv)
theorem state_State_Put.walk {s : Nat} {owner : Int} {data_p : Option Addr} {data_l data_c : Nat} {v_until : Int} (hv :
 Cl F.state_State_made #[.pointer (some ⟨s, 0, none⟩)] h fun v h_1 =>
 ∃ t14, v = .bool t14 ∧
 if (!t14) = true then
 R (.tuple #[.int .i64 0, .int .i64 6]) h_1
 else
 JoinP (fun (t16 : Bool) (h_2 : Heap) =>
 if t16 = true then
 R (.tuple #[.int .i64 0, .int .i64 15]) h_2
 else
 ∃ t39, hcell h_2 ⟨s, 3, none⟩ = some (.pointer t39) ∧
 Cl F.outbox_Box_Add #[.pointer t39, .int .i64 owner, .slice data_p data_l data_c, .int .u64 v_until] h_2 fun v_1 h_3 =>
 ∃ t43_0 t43_1, v_1 = .tuple #[.int .i64 t43_0, .int .i64 t43_1] ∧
 JoinP (fun (h_4 : Heap) =>
 R (.tuple #[.int .i64 t43_0, .int .i64 t43_1]) h_4)
 (fun J_1 =>
 if (t43_1 == 0) = true then
 ∃ t51, hcell h_3 ⟨s, 4, none⟩ = some (.pointer t51) ∧
 Cl F.quota_Purse_Take #[.pointer t51, .int .i64 owner, .int .i64 ((data_l : Nat) : Int)] h_3 fun v_2 h_5 =>
 ∃ t55, v_2 = .int .i64 t55 ∧
 J_1 h_5
 else
 J_1 h_3))
 (fun J =>
 ∃ t20, hcell h_1 ⟨s, 3, none⟩ = some (.pointer t20) ∧
 Cl F.outbox_Box_All #[.pointer t20] h_1 fun v_3 h_6 =>
 ∃ t21_p t21_l t21_c, v_3 = .slice t21_p t21_l t21_c ∧
 if (decide (((t21_l : Nat) : Int) ≥ 16)) = true then
 J true h_6
 else
 ∃ t28, hcell h_6 ⟨s, 4, none⟩ = some (.pointer t28) ∧
 Cl F.quota_Purse_Fits #[.pointer t28, .int .i64 owner, .int .i64 ((data_l : Nat) : Int)] h_6 fun v_4 h_7 =>
 ∃ t32, v_4 = .bool t32 ∧
 J (!t32) h_7)) : CallsH Tryz.prog F.state_State_Put #[.pointer (some ⟨s, 0, none⟩), .int .i64 owner, .slice data_p data_l data_c, .int .u64 v_until] h R :=
 callsH_of_body (.seq .leaf (.seq (.block (.seq .leaf (.cond (.seq .leaf .leaf) (.seq (.join [(16, .one (.bool))] .leaf) (.cond (.seq .leaf .leaf) .leaf))))) (.seq .leaf (.seq (.seq .leaf (.join [] (.cond .leaf .leaf))) (.seq .leaf .leaf))))) Tryz.func46 rfl rfl (Eq.mp (by kernel_rfl) hv)
theorem state_State_Cancel.walk {s : Nat} {num : Int} {owner : Int} (hv :
 NewP h (.cells #[.int .i64 num] T.int) fun b h_1 =>
 Cl F.state_State_made #[.pointer (some ⟨s, 0, none⟩)] h_1 fun v h_2 =>
 ∃ t11, v = .bool t11 ∧
 if (!t11) = true then
 R (.int .i64 6) h_2
 else
 ∃ t16, hcell h_2 ⟨s, 3, none⟩ = some (.pointer t16) ∧
 Cl F.outbox_Box_All #[.pointer t16] h_2 fun v_1 h_3 =>
 ∃ t17_p t17_l t17_c, v_1 = .slice t17_p t17_l t17_c ∧
 ∃ t21, hcell h_3 ⟨s, 3, none⟩ = some (.pointer t21) ∧
 ∃ t22, hcell h_3 ⟨b, 0, none⟩ = some (.int .i64 t22) ∧
 Cl F.outbox_Box_Cancel #[.pointer t21, .int .i64 t22, .int .i64 owner] h_3 fun v_2 h_4 =>
 ∃ t24, v_2 = .int .i64 t24 ∧
 Cl F.slices_IndexFunc_s_outbox_Item_outbox_Item #[.slice t17_p t17_l t17_c, .func (.func F.state_State_Cancel_1) #[] #[.pointer (some ⟨b, 0, none⟩)]] h_4 fun v_3 h_5 =>
 ∃ t27, v_3 = .int .i64 t27 ∧
 JoinP (fun (t33 : Bool) (h_6 : Heap) =>
 JoinP (fun (h_7 : Heap) =>
 R (.int .i64 t24) h_7)
 (fun J_1 =>
 if t33 = true then
 ∃ t37, hcell h_6 ⟨s, 4, none⟩ = some (.pointer t37) ∧
 ((0 : Int) ≤ t27 ∧ t27 < ((t17_l : Nat) : Int)) ∧
 onSome t17_p fun a =>
 ∃ t43_p t43_l t43_c, hcell h_6 ((a.add (Int.toNat t27 * 4)).add 2) = some (.slice t43_p t43_l t43_c) ∧
 Cl F.quota_Purse_Give #[.pointer t37, .int .i64 owner, .int .i64 ((t43_l : Nat) : Int)] h_6 fun v_4 h_8 =>
 ∃ t45, v_4 = .int .i64 t45 ∧
 hcell h_8 ((a.add (Int.toNat t27 * 4)).add 2) = some (.slice t43_p t43_l t43_c) ∧
 J_1 h_8
 else
 J_1 h_6))
 (fun J =>
 if (t24 == 0) = true then
 J (decide (t27 ≥ 0)) h_5
 else
 J false h_5)) : CallsH Tryz.prog F.state_State_Cancel #[.pointer (some ⟨s, 0, none⟩), .int .i64 num, .int .i64 owner] h R :=
 callsH_of_body (.seq .leaf (.seq (.seq .leaf (.cond (.seq .leaf .leaf) .leaf)) (.seq .leaf (.seq (.plan (.op 0 (.op 1 (.op 2 (.op 3 (.op 4 (.op 5 (.op 6 (.op 7 .done))))))))) (.seq (.seq .leaf (.seq (.join [(33, .one (.bool))] .leaf) (.join [] (.cond (.plan (.op 0 (.op 1 (.op 2 (.op 3 (.op 4 (.op 5 (.op 6 (.op 7 (.op 8 (.op 9 (.op 10 (.op 11 .done))))))))))))) .leaf)))) (.seq .leaf .leaf)))))) Tryz.func49 rfl rfl (Eq.mp (by kernel_rfl) hv)
theorem state_State_Cancel_1.walk {x_0 : Int} {x_1 : Int} {x_2_p : Option Addr} {x_2_l x_2_c : Nat} {x_3 : Int} {c0 : Nat} (hv :
 NewP h (.cells #[.int .i64 x_0, .int .i64 x_1, .slice x_2_p x_2_l x_2_c, .int .u64 x_3] T.outbox_Item) fun b h_1 =>
 ∃ t5, hcell h_1 ⟨b, 0, none⟩ = some (.int .i64 t5) ∧
 ∃ t6, hcell h_1 ⟨c0, 0, none⟩ = some (.int .i64 t6) ∧
 R (.bool (t5 == t6)) h_1) : CallsH Tryz.prog F.state_State_Cancel_1 #[.agg #[.int .i64 x_0, .int .i64 x_1, .slice x_2_p x_2_l x_2_c, .int .u64 x_3], .pointer (some ⟨c0, 0, none⟩)] h R :=
 callsH_of_body (.seq .leaf (.seq .leaf .leaf)) Tryz.func128 rfl rfl (Eq.mp (by kernel_rfl) hv)
theorem state_State_Take.walk {s : Nat} (hv :
 NewP h (.cells #[.int .i64 0, .int .i64 0, .slice none 0 0, .int .u64 0] T.outbox_Item) fun b h_1 =>
 Cl F.state_State_made #[.pointer (some ⟨s, 0, none⟩)] h_1 fun v h_2 =>
 ∃ t7, v = .bool t7 ∧
 if (!t7) = true then
 outbox_Item.ST h_2 ⟨b, 0, none⟩ 0 0 none 0 0 0 fun h_3 =>
 outbox_Item.LD h_3 ⟨b, 0, none⟩ fun r_0 r_1 r_2_p r_2_l r_2_c r_3 =>
 R (.tuple #[.agg #[.int .i64 r_0, .int .i64 r_1, .slice r_2_p r_2_l r_2_c, .int .u64 r_3], .int .i64 6]) h_3
 else
 ∃ t14, hcell h_2 ⟨s, 3, none⟩ = some (.pointer t14) ∧
 Cl F.outbox_Box_Take #[.pointer t14] h_2 fun v_1 h_4 =>
 ∃ t15_0_0 t15_0_1 t15_0_2_p t15_0_2_l t15_0_2_c t15_0_3 t15_1, v_1 = .tuple #[.agg #[.int .i64 t15_0_0, .int .i64 t15_0_1, .slice t15_0_2_p t15_0_2_l t15_0_2_c, .int .u64 t15_0_3], .int .i64 t15_1] ∧
 NewP h_4 (.cells #[.int .i64 0, .int .i64 0, .slice none 0 0, .int .u64 0] T.outbox_Item) fun b_1 h_5 =>
 outbox_Item.ST h_5 ⟨b_1, 0, none⟩ t15_0_0 t15_0_1 t15_0_2_p t15_0_2_l t15_0_2_c t15_0_3 fun h_6 =>
 JoinP (fun (h_7 : Heap) =>
 outbox_Item.LD h_7 ⟨b_1, 0, none⟩ fun t30_0 t30_1 t30_2_p t30_2_l t30_2_c t30_3 =>
 outbox_Item.ST h_7 ⟨b, 0, none⟩ t30_0 t30_1 t30_2_p t30_2_l t30_2_c t30_3 fun h_8 =>
 outbox_Item.LD h_8 ⟨b, 0, none⟩ fun r_0_1 r_1_1 r_2_p_1 r_2_l_1 r_2_c_1 r_3_1 =>
 R (.tuple #[.agg #[.int .i64 r_0_1, .int .i64 r_1_1, .slice r_2_p_1 r_2_l_1 r_2_c_1, .int .u64 r_3_1], .int .i64 t15_1]) h_8)
 (fun J =>
 if (t15_1 == 0) = true then
 ∃ t23, hcell h_6 ⟨s, 4, none⟩ = some (.pointer t23) ∧
 ∃ t25, hcell h_6 ⟨b_1, 1, none⟩ = some (.int .i64 t25) ∧
 ∃ t27_p t27_l t27_c, hcell h_6 ⟨b_1, 2, none⟩ = some (.slice t27_p t27_l t27_c) ∧
 Cl F.quota_Purse_Give #[.pointer t23, .int .i64 t25, .int .i64 ((t27_l : Nat) : Int)] h_6 fun v_2 h_9 =>
 ∃ t29, v_2 = .int .i64 t29 ∧
 hcell h_9 ⟨b_1, 2, none⟩ = some (.slice t27_p t27_l t27_c) ∧
 J h_9
 else
 J h_6)) : CallsH Tryz.prog F.state_State_Take #[.pointer (some ⟨s, 0, none⟩)] h R :=
 callsH_of_body (.seq .leaf (.seq (.seq .leaf (.cond (.seq .leaf .leaf) .leaf)) (.seq .leaf (.seq (.seq .leaf (.join [] (.cond (.plan (.op 0 (.op 1 (.op 2 (.op 3 (.op 4 (.op 5 (.op 6 (.op 7 (.op 8 (.op 9 .done))))))))))) .leaf))) (.seq .leaf .leaf))))) Tryz.func47 rfl rfl (Eq.mp (by kernel_rfl) hv)
theorem state_State_Save.walk {s : Nat} (hv :
 Cl F.state_State_made #[.pointer (some ⟨s, 0, none⟩)] h fun v h_1 =>
 ∃ t11, v = .bool t11 ∧
 if (!t11) = true then
 R (.slice none 0 0) h_1
 else
 ∃ t16, hcell h_1 ⟨s, 5, none⟩ = some (.pointer t16) ∧
 Cl F.ident_Maker_Last #[.pointer t16] h_1 fun v_1 h_2 =>
 ∃ t17_0 t17_1 t17_2 t17_3 t17_4 t17_5 t17_6, v_1 = .agg #[.bool t17_0, .int .u64 t17_1, .int .u64 t17_2, .string t17_3, .string t17_4, .int .u64 t17_5, .int .u64 t17_6] ∧
 NewP h_2 (.cells #[.bool false, .int .u64 0, .int .u64 0, .string (⟨#[]⟩ : ByteArray), .string (⟨#[]⟩ : ByteArray), .int .u64 0, .int .u64 0] T.ident_Ident) fun b h_3 =>
 ident_Ident.ST h_3 ⟨b, 0, none⟩ t17_0 t17_1 t17_2 t17_3 t17_4 t17_5 t17_6 fun h_4 =>
 eid_Eid.LD h_4 ⟨b, 0, none⟩ fun t20_0 t20_1 t20_2 t20_3 t20_4 =>
 Cl F.eid_Text #[.agg #[.bool t20_0, .int .u64 t20_1, .int .u64 t20_2, .string t20_3, .string t20_4]] h_4 fun v_2 h_5 =>
 ∃ t21_0 t21_1, v_2 = .tuple #[.string t21_0, .int .i64 t21_1] ∧
 JoinP (fun (l : Option Addr) (h_6 : Heap) =>
 JoinP (fun (w : Option Addr) (h_7 : Heap) =>
 onSome l fun a =>
 a4_s_s_uint8.LD h_7 a fun t65_0_p t65_0_l t65_0_c t65_1_p t65_1_l t65_1_c t65_2_p t65_2_l t65_2_c t65_3_p t65_3_l t65_3_c =>
 ∃ (I : Int → Heap → Prop) (mu : Int → Heap → Nat), I 0 h_7 ∧ ∀ (t66 : Int) (h_8 : Heap), I t66 h_8 →
 if (decide (t66 < 4)) = true then
 ((0 : Int) ≤ t66 ∧ t66 < ((4 : Nat) : Int)) ∧
 (t66 = ((0 : Nat) : Int) →
 Cl F.fields_Writer_Int #[.pointer w, .int .i64 ((t65_0_l : Nat) : Int)] h_8 fun v_3 h_9 =>
 ∃ t72, v_3 = .pointer t72 ∧
 (I (IntKind.wrap .i64 (t66 + 1)) h_9 ∧ mu (IntKind.wrap .i64 (t66 + 1)) h_9 < mu t66 h_8)) ∧
 (t66 = ((1 : Nat) : Int) →
 Cl F.fields_Writer_Int #[.pointer w, .int .i64 ((t65_1_l : Nat) : Int)] h_8 fun v_4 h_10 =>
 ∃ t72_1, v_4 = .pointer t72_1 ∧
 (I (IntKind.wrap .i64 (t66 + 1)) h_10 ∧ mu (IntKind.wrap .i64 (t66 + 1)) h_10 < mu t66 h_8)) ∧
 (t66 = ((2 : Nat) : Int) →
 Cl F.fields_Writer_Int #[.pointer w, .int .i64 ((t65_2_l : Nat) : Int)] h_8 fun v_5 h_11 =>
 ∃ t72_2, v_5 = .pointer t72_2 ∧
 (I (IntKind.wrap .i64 (t66 + 1)) h_11 ∧ mu (IntKind.wrap .i64 (t66 + 1)) h_11 < mu t66 h_8)) ∧
 (t66 = ((3 : Nat) : Int) →
 Cl F.fields_Writer_Int #[.pointer w, .int .i64 ((t65_3_l : Nat) : Int)] h_8 fun v_6 h_12 =>
 ∃ t72_3, v_6 = .pointer t72_3 ∧
 (I (IntKind.wrap .i64 (t66 + 1)) h_12 ∧ mu (IntKind.wrap .i64 (t66 + 1)) h_12 < mu t66 h_8)) ∧
 True
 else
 onSome l fun a_1 =>
 Cl F.fields_Writer_Bytes #[.pointer w] h_8 fun v_7 h_13 =>
 ∃ t75_p t75_l t75_c, v_7 = .slice t75_p t75_l t75_c ∧
 (NewP h_13 (.cells #[.slice t75_p t75_l t75_c] T.s_uint8) fun b_1 h_14 =>
 Cl F.slices_Concat_s_s_byte_s_byte #[.slice (slBase (some a_1) 4 0 1) (4 - 0) (4 - 0)] h_14 fun v_8 h_15 =>
 ∃ t78_p t78_l t78_c, v_8 = .slice t78_p t78_l t78_c ∧
 denSem Tryz.prog (Builtin.append_ #[T.s_s_uint8, T.s_s_uint8] T.s_s_uint8 #[.slice (some ⟨b_1, 0, none⟩) 1 1, .slice t78_p t78_l t78_c]) h_15 fun v_9 h_16 =>
 ∃ t79_p t79_l t79_c, v_9 = .slice t79_p t79_l t79_c ∧
 R (.slice t79_p t79_l t79_c) h_16) ∧
 (Cl F.slices_Concat_s_s_byte_s_byte #[.slice (slBase (some a_1) 4 0 1) (4 - 0) (4 - 0)] h_13 fun v_10 h_17 =>
 ∃ t78_p_1 t78_l_1 t78_c_1, v_10 = .slice t78_p_1 t78_l_1 t78_c_1 ∧
 NewP h_17 (.cells #[.slice t75_p t75_l t75_c] T.s_uint8) fun b_2 h_18 =>
 denSem Tryz.prog (Builtin.append_ #[T.s_s_uint8, T.s_s_uint8] T.s_s_uint8 #[.slice (some ⟨b_2, 0, none⟩) 1 1, .slice t78_p_1 t78_l_1 t78_c_1]) h_18 fun v_11 h_19 =>
 ∃ t79_p_1 t79_l_1 t79_c_1, v_11 = .slice t79_p_1 t79_l_1 t79_c_1 ∧
 R (.slice t79_p_1 t79_l_1 t79_c_1) h_19) ∧
 True)
 (fun J_1 =>
 ∃ t52, hcell h_6 ⟨s, 6, none⟩ = some (.int .u64 t52) ∧
 ∃ t57, hcell h_6 ⟨s, 7, none⟩ = some (.int .i64 t57) ∧
 ∃ t60, hcell h_6 ⟨b, 5, none⟩ = some (.int .u64 t60) ∧
 ∃ t63, hcell h_6 ⟨b, 6, none⟩ = some (.int .u64 t63) ∧
 (Cl F.fields_New #[] h_6 fun v_12 h_20 =>
 ∃ t45, v_12 = .pointer t45 ∧
 hcell h_20 ⟨b, 6, none⟩ = some (.int .u64 t63) ∧
 hcell h_20 ⟨b, 5, none⟩ = some (.int .u64 t60) ∧
 hcell h_20 ⟨s, 7, none⟩ = some (.int .i64 t57) ∧
 hcell h_20 ⟨s, 6, none⟩ = some (.int .u64 t52) ∧
 denSem Tryz.prog (convert T.string T.s_uint8 (.string t21_0)) h_20 fun v_13 h_21 =>
 ∃ t47_p t47_l t47_c, v_13 = .slice t47_p t47_l t47_c ∧
 hcell h_21 ⟨b, 6, none⟩ = some (.int .u64 t63) ∧
 hcell h_21 ⟨b, 5, none⟩ = some (.int .u64 t60) ∧
 hcell h_21 ⟨s, 7, none⟩ = some (.int .i64 t57) ∧
 hcell h_21 ⟨s, 6, none⟩ = some (.int .u64 t52) ∧
 Cl F.fields_Writer_Text #[.pointer t45, .slice t47_p t47_l t47_c] h_21 fun v_14 h_22 =>
 ∃ t48, v_14 = .pointer t48 ∧
 hcell h_22 ⟨b, 6, none⟩ = some (.int .u64 t63) ∧
 hcell h_22 ⟨b, 5, none⟩ = some (.int .u64 t60) ∧
 hcell h_22 ⟨s, 7, none⟩ = some (.int .i64 t57) ∧
 hcell h_22 ⟨s, 6, none⟩ = some (.int .u64 t52) ∧
 Cl F.fields_Writer_Num #[.pointer t48, .int .u64 t52] h_22 fun v_15 h_23 =>
 ∃ t53, v_15 = .pointer t53 ∧
 hcell h_23 ⟨b, 6, none⟩ = some (.int .u64 t63) ∧
 hcell h_23 ⟨b, 5, none⟩ = some (.int .u64 t60) ∧
 hcell h_23 ⟨s, 7, none⟩ = some (.int .i64 t57) ∧
 Cl F.fields_Writer_Int #[.pointer t53, .int .i64 t57] h_23 fun v_16 h_24 =>
 ∃ t58, v_16 = .pointer t58 ∧
 hcell h_24 ⟨b, 6, none⟩ = some (.int .u64 t63) ∧
 hcell h_24 ⟨b, 5, none⟩ = some (.int .u64 t60) ∧
 Cl F.fields_Writer_Num #[.pointer t58, .int .u64 t60] h_24 fun v_17 h_25 =>
 ∃ t61, v_17 = .pointer t61 ∧
 hcell h_25 ⟨b, 6, none⟩ = some (.int .u64 t63) ∧
 Cl F.fields_Writer_Num #[.pointer t61, .int .u64 t63] h_25 fun v_18 h_26 =>
 ∃ t64, v_18 = .pointer t64 ∧
 J_1 t64 h_26) ∧
 (denSem Tryz.prog (convert T.string T.s_uint8 (.string t21_0)) h_6 fun v_19 h_27 =>
 ∃ t47_p_1 t47_l_1 t47_c_1, v_19 = .slice t47_p_1 t47_l_1 t47_c_1 ∧
 hcell h_27 ⟨b, 6, none⟩ = some (.int .u64 t63) ∧
 hcell h_27 ⟨b, 5, none⟩ = some (.int .u64 t60) ∧
 hcell h_27 ⟨s, 7, none⟩ = some (.int .i64 t57) ∧
 hcell h_27 ⟨s, 6, none⟩ = some (.int .u64 t52) ∧
 Cl F.fields_New #[] h_27 fun v_20 h_28 =>
 ∃ t45_1, v_20 = .pointer t45_1 ∧
 hcell h_28 ⟨b, 6, none⟩ = some (.int .u64 t63) ∧
 hcell h_28 ⟨b, 5, none⟩ = some (.int .u64 t60) ∧
 hcell h_28 ⟨s, 7, none⟩ = some (.int .i64 t57) ∧
 hcell h_28 ⟨s, 6, none⟩ = some (.int .u64 t52) ∧
 Cl F.fields_Writer_Text #[.pointer t45_1, .slice t47_p_1 t47_l_1 t47_c_1] h_28 fun v_21 h_29 =>
 ∃ t48_1, v_21 = .pointer t48_1 ∧
 hcell h_29 ⟨b, 6, none⟩ = some (.int .u64 t63) ∧
 hcell h_29 ⟨b, 5, none⟩ = some (.int .u64 t60) ∧
 hcell h_29 ⟨s, 7, none⟩ = some (.int .i64 t57) ∧
 hcell h_29 ⟨s, 6, none⟩ = some (.int .u64 t52) ∧
 Cl F.fields_Writer_Num #[.pointer t48_1, .int .u64 t52] h_29 fun v_22 h_30 =>
 ∃ t53_1, v_22 = .pointer t53_1 ∧
 hcell h_30 ⟨b, 6, none⟩ = some (.int .u64 t63) ∧
 hcell h_30 ⟨b, 5, none⟩ = some (.int .u64 t60) ∧
 hcell h_30 ⟨s, 7, none⟩ = some (.int .i64 t57) ∧
 Cl F.fields_Writer_Int #[.pointer t53_1, .int .i64 t57] h_30 fun v_23 h_31 =>
 ∃ t58_1, v_23 = .pointer t58_1 ∧
 hcell h_31 ⟨b, 6, none⟩ = some (.int .u64 t63) ∧
 hcell h_31 ⟨b, 5, none⟩ = some (.int .u64 t60) ∧
 Cl F.fields_Writer_Num #[.pointer t58_1, .int .u64 t60] h_31 fun v_24 h_32 =>
 ∃ t61_1, v_24 = .pointer t61_1 ∧
 hcell h_32 ⟨b, 6, none⟩ = some (.int .u64 t63) ∧
 Cl F.fields_Writer_Num #[.pointer t61_1, .int .u64 t63] h_32 fun v_25 h_33 =>
 ∃ t64_1, v_25 = .pointer t64_1 ∧
 J_1 t64_1 h_33) ∧
 True))
 (fun J =>
 ∃ t27, hcell h_5 ⟨s, 0, none⟩ = some (.pointer t27) ∧
 ∃ t32, hcell h_5 ⟨s, 1, none⟩ = some (.pointer t32) ∧
 ∃ t37, hcell h_5 ⟨s, 2, none⟩ = some (.pointer t37) ∧
 ∃ t42, hcell h_5 ⟨s, 3, none⟩ = some (.pointer t42) ∧
 (Cl F.sessions_Table_Save #[.pointer t27] h_5 fun v_26 h_34 =>
 ∃ t28_p t28_l t28_c, v_26 = .slice t28_p t28_l t28_c ∧
 hcell h_34 ⟨s, 3, none⟩ = some (.pointer t42) ∧
 hcell h_34 ⟨s, 2, none⟩ = some (.pointer t37) ∧
 hcell h_34 ⟨s, 1, none⟩ = some (.pointer t32) ∧
 (Cl F.regs_Table_Save #[.pointer t32] h_34 fun v_27 h_35 =>
 ∃ t33_p t33_l t33_c, v_27 = .slice t33_p t33_l t33_c ∧
 hcell h_35 ⟨s, 3, none⟩ = some (.pointer t42) ∧
 hcell h_35 ⟨s, 2, none⟩ = some (.pointer t37) ∧
 (Cl F.copies_Table_Save #[.pointer t37] h_35 fun v_28 h_36 =>
 ∃ t38_p t38_l t38_c, v_28 = .slice t38_p t38_l t38_c ∧
 hcell h_36 ⟨s, 3, none⟩ = some (.pointer t42) ∧
 (Cl F.outbox_Box_Save #[.pointer t42] h_36 fun v_29 h_37 =>
 ∃ t43_p t43_l t43_c, v_29 = .slice t43_p t43_l t43_c ∧
 NewP h_37 (.cells #[.slice none 0 0, .slice none 0 0, .slice none 0 0, .slice none 0 0] T.a4_s_s_uint8) fun b_3 h_38 =>
 a4_s_s_uint8.ST h_38 ⟨b_3, 0, none⟩ t28_p t28_l t28_c t33_p t33_l t33_c t38_p t38_l t38_c t43_p t43_l t43_c fun h_39 =>
 J (some ⟨b_3, 0, none⟩) h_39) ∧
 (NewP h_36 (.cells #[.slice none 0 0, .slice none 0 0, .slice none 0 0, .slice none 0 0] T.a4_s_s_uint8) fun b_4 h_40 =>
 hcell h_40 ⟨s, 3, none⟩ = some (.pointer t42) ∧
 Cl F.outbox_Box_Save #[.pointer t42] h_40 fun v_30 h_41 =>
 ∃ t43_p_1 t43_l_1 t43_c_1, v_30 = .slice t43_p_1 t43_l_1 t43_c_1 ∧
 a4_s_s_uint8.ST h_41 ⟨b_4, 0, none⟩ t28_p t28_l t28_c t33_p t33_l t33_c t38_p t38_l t38_c t43_p_1 t43_l_1 t43_c_1 fun h_42 =>
 J (some ⟨b_4, 0, none⟩) h_42) ∧
 True) ∧
 (NewP h_35 (.cells #[.slice none 0 0, .slice none 0 0, .slice none 0 0, .slice none 0 0] T.a4_s_s_uint8) fun b_5 h_43 =>
 hcell h_43 ⟨s, 3, none⟩ = some (.pointer t42) ∧
 hcell h_43 ⟨s, 2, none⟩ = some (.pointer t37) ∧
 Cl F.copies_Table_Save #[.pointer t37] h_43 fun v_31 h_44 =>
 ∃ t38_p_1 t38_l_1 t38_c_1, v_31 = .slice t38_p_1 t38_l_1 t38_c_1 ∧
 hcell h_44 ⟨s, 3, none⟩ = some (.pointer t42) ∧
 Cl F.outbox_Box_Save #[.pointer t42] h_44 fun v_32 h_45 =>
 ∃ t43_p_2 t43_l_2 t43_c_2, v_32 = .slice t43_p_2 t43_l_2 t43_c_2 ∧
 a4_s_s_uint8.ST h_45 ⟨b_5, 0, none⟩ t28_p t28_l t28_c t33_p t33_l t33_c t38_p_1 t38_l_1 t38_c_1 t43_p_2 t43_l_2 t43_c_2 fun h_46 =>
 J (some ⟨b_5, 0, none⟩) h_46) ∧
 True) ∧
 (NewP h_34 (.cells #[.slice none 0 0, .slice none 0 0, .slice none 0 0, .slice none 0 0] T.a4_s_s_uint8) fun b_6 h_47 =>
 hcell h_47 ⟨s, 3, none⟩ = some (.pointer t42) ∧
 hcell h_47 ⟨s, 2, none⟩ = some (.pointer t37) ∧
 hcell h_47 ⟨s, 1, none⟩ = some (.pointer t32) ∧
 Cl F.regs_Table_Save #[.pointer t32] h_47 fun v_33 h_48 =>
 ∃ t33_p_1 t33_l_1 t33_c_1, v_33 = .slice t33_p_1 t33_l_1 t33_c_1 ∧
 hcell h_48 ⟨s, 3, none⟩ = some (.pointer t42) ∧
 hcell h_48 ⟨s, 2, none⟩ = some (.pointer t37) ∧
 Cl F.copies_Table_Save #[.pointer t37] h_48 fun v_34 h_49 =>
 ∃ t38_p_2 t38_l_2 t38_c_2, v_34 = .slice t38_p_2 t38_l_2 t38_c_2 ∧
 hcell h_49 ⟨s, 3, none⟩ = some (.pointer t42) ∧
 Cl F.outbox_Box_Save #[.pointer t42] h_49 fun v_35 h_50 =>
 ∃ t43_p_3 t43_l_3 t43_c_3, v_35 = .slice t43_p_3 t43_l_3 t43_c_3 ∧
 a4_s_s_uint8.ST h_50 ⟨b_6, 0, none⟩ t28_p t28_l t28_c t33_p_1 t33_l_1 t33_c_1 t38_p_2 t38_l_2 t38_c_2 t43_p_3 t43_l_3 t43_c_3 fun h_51 =>
 J (some ⟨b_6, 0, none⟩) h_51) ∧
 True) ∧
 (NewP h_5 (.cells #[.slice none 0 0, .slice none 0 0, .slice none 0 0, .slice none 0 0] T.a4_s_s_uint8) fun b_7 h_52 =>
 hcell h_52 ⟨s, 3, none⟩ = some (.pointer t42) ∧
 hcell h_52 ⟨s, 2, none⟩ = some (.pointer t37) ∧
 hcell h_52 ⟨s, 1, none⟩ = some (.pointer t32) ∧
 hcell h_52 ⟨s, 0, none⟩ = some (.pointer t27) ∧
 Cl F.sessions_Table_Save #[.pointer t27] h_52 fun v_36 h_53 =>
 ∃ t28_p_1 t28_l_1 t28_c_1, v_36 = .slice t28_p_1 t28_l_1 t28_c_1 ∧
 hcell h_53 ⟨s, 3, none⟩ = some (.pointer t42) ∧
 hcell h_53 ⟨s, 2, none⟩ = some (.pointer t37) ∧
 hcell h_53 ⟨s, 1, none⟩ = some (.pointer t32) ∧
 Cl F.regs_Table_Save #[.pointer t32] h_53 fun v_37 h_54 =>
 ∃ t33_p_2 t33_l_2 t33_c_2, v_37 = .slice t33_p_2 t33_l_2 t33_c_2 ∧
 hcell h_54 ⟨s, 3, none⟩ = some (.pointer t42) ∧
 hcell h_54 ⟨s, 2, none⟩ = some (.pointer t37) ∧
 Cl F.copies_Table_Save #[.pointer t37] h_54 fun v_38 h_55 =>
 ∃ t38_p_3 t38_l_3 t38_c_3, v_38 = .slice t38_p_3 t38_l_3 t38_c_3 ∧
 hcell h_55 ⟨s, 3, none⟩ = some (.pointer t42) ∧
 Cl F.outbox_Box_Save #[.pointer t42] h_55 fun v_39 h_56 =>
 ∃ t43_p_4 t43_l_4 t43_c_4, v_39 = .slice t43_p_4 t43_l_4 t43_c_4 ∧
 a4_s_s_uint8.ST h_56 ⟨b_7, 0, none⟩ t28_p_1 t28_l_1 t28_c_1 t33_p_2 t33_l_2 t33_c_2 t38_p_3 t38_l_3 t38_c_3 t43_p_4 t43_l_4 t43_c_4 fun h_57 =>
 J (some ⟨b_7, 0, none⟩) h_57) ∧
 True)) : CallsH Tryz.prog F.state_State_Save #[.pointer (some ⟨s, 0, none⟩)] h R :=
 callsH_of_body (.seq .leaf (.seq (.seq .leaf (.cond (.seq .leaf .leaf) .leaf)) (.seq .leaf (.seq .leaf (.seq (.join [(6, .one (.ptr))] (.plan (.op 0 (.op 1 (.op 2 (.op 3 (.op 5 (.op 6 (.op 7 (.op 8 (.op 10 (.op 11 (.op 12 (.op 13 (.op 15 (.op 16 (.op 17 (.op 18 (.alts (.fork 4 (.alts (.fork 9 (.alts (.fork 14 (.alts (.fork 19 (.op 20 (.op 21 (.op 22 .done))) (.fork 21 (.op 19 (.op 20 (.op 22 .done))) .noalt))) (.fork 21 (.op 14 (.op 19 (.op 20 (.op 22 .done)))) .noalt))) (.fork 21 (.op 9 (.op 14 (.op 19 (.op 20 (.op 22 .done))))) .noalt))) (.fork 21 (.op 4 (.op 9 (.op 14 (.op 19 (.op 20 (.op 22 .done)))))) .noalt))))))))))))))))))))) (.seq (.join [(7, .one (.ptr))] (.plan (.op 1 (.op 4 (.op 5 (.op 6 (.op 7 (.op 9 (.op 10 (.op 11 (.op 12 (.op 14 (.op 15 (.op 17 (.op 18 (.alts (.fork 0 (.op 2 (.op 3 (.op 8 (.op 13 (.op 16 (.op 19 (.op 20 .done))))))) (.fork 2 (.op 0 (.op 3 (.op 8 (.op 13 (.op 16 (.op 19 (.op 20 .done))))))) .noalt)))))))))))))))))) (.seq (.seq .leaf (.block (.loop [(66, .one (.int .i64))] (.seq .leaf (.seq (.cond .leaf .leaf) (.seq (.block (.seq .leaf .leaf)) .leaf)))))) (.seq (.plan (.op 0 (.op 3 (.op 1 (.alts (.fork 2 (.op 4 (.op 5 (.op 6 .done))) (.fork 4 (.op 2 (.op 5 (.op 6 .done))) .noalt))))))) .leaf)))))))) Tryz.func50 rfl rfl (Eq.mp (by kernel_rfl) hv)
theorem ident_New.walk {source_0 : Bool} {source_1 : Int} {source_2 : Int} {source_3 : ByteArray} {source_4 : ByteArray} (hv :
 NewP h (.cells #[.bool source_0, .int .u64 source_1, .int .u64 source_2, .string source_3, .string source_4] T.eid_Eid) fun b h_1 =>
 JoinP (fun (t11 : Bool) (h_2 : Heap) =>
 if t11 = true then
 R (.tuple #[.pointer none, .int .i64 3]) h_2
 else
 eid_Eid.LD h_2 ⟨b, 0, none⟩ fun t12_0 t12_1 t12_2 t12_3 t12_4 =>
 NewP h_2 (.cells #[.bool t12_0, .int .u64 t12_1, .int .u64 t12_2, .string t12_3, .string t12_4, .int .u64 0, .int .u64 0, .bool true] T.ident_Maker) fun b_1 h_3 =>
 R (.tuple #[.pointer (some ⟨b_1, 0, none⟩), .int .i64 0]) h_3)
 (fun J =>
 eid_Eid.LD h_1 ⟨b, 0, none⟩ fun t4_0 t4_1 t4_2 t4_3 t4_4 =>
 Cl F.eid_Right #[.agg #[.bool t4_0, .int .u64 t4_1, .int .u64 t4_2, .string t4_3, .string t4_4]] h_1 fun v h_4 =>
 ∃ t5, v = .bool t5 ∧
 if (!t5) = true then
 J true h_4
 else
 eid_Eid.LD h_4 ⟨b, 0, none⟩ fun t8_0 t8_1 t8_2 t8_3 t8_4 =>
 ∃ (eq : Bool), EqV Tryz.prog T.eid_Eid (.agg #[.bool t8_0, .int .u64 t8_1, .int .u64 t8_2, .string t8_3, .string t8_4]) (.agg #[.bool false, .int .u64 0, .int .u64 0, .string (⟨#[]⟩ : ByteArray), .string (⟨#[]⟩ : ByteArray)]) eq ∧
 J eq h_4)) : CallsH Tryz.prog F.ident_New #[.agg #[.bool source_0, .int .u64 source_1, .int .u64 source_2, .string source_3, .string source_4]] h R :=
 callsH_of_body (.seq .leaf (.seq (.seq (.join [(11, .one (.bool))] .leaf) (.cond (.seq .leaf .leaf) .leaf)) (.seq .leaf .leaf))) Tryz.func104 rfl rfl (Eq.mp (by kernel_rfl) hv)
theorem ident_Maker_Last.walk {m : Nat} (hv :
 NewP h (.cells #[.bool false, .int .u64 0, .int .u64 0, .string (⟨#[]⟩ : ByteArray), .string (⟨#[]⟩ : ByteArray), .int .u64 0, .int .u64 0] T.ident_Ident) fun b h_1 =>
 JoinP (fun (t11 : Bool) (h_2 : Heap) =>
 if t11 = true then
 ident_Ident.ST h_2 ⟨b, 0, none⟩ false 0 0 (⟨#[]⟩ : ByteArray) (⟨#[]⟩ : ByteArray) 0 0 fun h_3 =>
 ident_Ident.LD h_3 ⟨b, 0, none⟩ fun r_0 r_1 r_2 r_3 r_4 r_5 r_6 =>
 R (.agg #[.bool r_0, .int .u64 r_1, .int .u64 r_2, .string r_3, .string r_4, .int .u64 r_5, .int .u64 r_6]) h_3
 else
 ident_Ident.LD h_2 ⟨m, 0, none⟩ fun t16_0 t16_1 t16_2 t16_3 t16_4 t16_5 t16_6 =>
 ident_Ident.ST h_2 ⟨b, 0, none⟩ t16_0 t16_1 t16_2 t16_3 t16_4 t16_5 t16_6 fun h_4 =>
 ident_Ident.LD h_4 ⟨b, 0, none⟩ fun r_0_1 r_1_1 r_2_1 r_3_1 r_4_1 r_5_1 r_6_1 =>
 R (.agg #[.bool r_0_1, .int .u64 r_1_1, .int .u64 r_2_1, .string r_3_1, .string r_4_1, .int .u64 r_5_1, .int .u64 r_6_1]) h_4)
 (fun J =>
 ∃ t9, hcell h_1 ⟨m, 7, none⟩ = some (.bool t9) ∧
 J (!t9) h_1)) : CallsH Tryz.prog F.ident_Maker_Last #[.pointer (some ⟨m, 0, none⟩)] h R :=
 callsH_of_body (.seq .leaf (.seq (.seq (.join [(11, .one (.bool))] .leaf) (.cond (.seq .leaf .leaf) .leaf)) (.seq .leaf .leaf))) Tryz.func129 rfl rfl (Eq.mp (by kernel_rfl) hv)
theorem slices_Concat_s_s_byte_s_byte.walk {slices_p : Option Addr} {slices_l slices_c : Nat} (hv :
 ∃ (I : Int → Int → Heap → Prop) (mu : Int → Int → Heap → Nat), I 0 0 h ∧ ∀ (size : Int) (t11 : Int) (h_1 : Heap), I size t11 h_1 →
 if (decide (t11 < ((slices_l : Nat) : Int))) = true then
 JoinP (fun (size_1 : Int) (h_2 : Heap) =>
 (I size_1 (IntKind.wrap .i64 (t11 + 1)) h_2 ∧ mu size_1 (IntKind.wrap .i64 (t11 + 1)) h_2 < mu size t11 h_1))
 (fun J =>
 ((0 : Int) ≤ t11 ∧ t11 < ((slices_l : Nat) : Int)) ∧
 onSome slices_p fun a =>
 ∃ t14_p t14_l t14_c, hcell h_1 (a.add (Int.toNat t11 * 1)) = some (.slice t14_p t14_l t14_c) ∧
 JoinP (fun (h_3 : Heap) =>
 J (IntKind.wrap .i64 (size + ((t14_l : Nat) : Int))) h_3)
 (fun J_1 =>
 if (decide ((IntKind.wrap .i64 (size + ((t14_l : Nat) : Int))) < 0)) = true then
 False
 else
 J_1 h_1))
 else
 Cl F.slices_Grow_s_s_byte_s_byte #[.slice none 0 0, .int .i64 size] h_1 fun v h_4 =>
 ∃ t24_p t24_l t24_c, v = .slice t24_p t24_l t24_c ∧
 ∃ (I_1 : Option Addr → Nat → Nat → Int → Heap → Prop) (mu_1 : Option Addr → Nat → Nat → Int → Heap → Nat), I_1 t24_p t24_l t24_c 0 h_4 ∧ ∀ (newslice_p : Option Addr) (newslice_l newslice_c : Nat) (t27 : Int) (h_5 : Heap), I_1 newslice_p newslice_l newslice_c t27 h_5 →
 if (decide (t27 < ((slices_l : Nat) : Int))) = true then
 ((0 : Int) ≤ t27 ∧ t27 < ((slices_l : Nat) : Int)) ∧
 onSome slices_p fun a_1 =>
 ∃ t30_p t30_l t30_c, hcell h_5 (a_1.add (Int.toNat t27 * 1)) = some (.slice t30_p t30_l t30_c) ∧
 denSem Tryz.prog (Builtin.append_ #[T.s_s_uint8, T.s_s_uint8] T.s_s_uint8 #[.slice newslice_p newslice_l newslice_c, .slice t30_p t30_l t30_c]) h_5 fun v_1 h_6 =>
 ∃ t33_p t33_l t33_c, v_1 = .slice t33_p t33_l t33_c ∧
 (I_1 t33_p t33_l t33_c (IntKind.wrap .i64 (t27 + 1)) h_6 ∧ mu_1 t33_p t33_l t33_c (IntKind.wrap .i64 (t27 + 1)) h_6 < mu_1 newslice_p newslice_l newslice_c t27 h_5)
 else
 R (.slice newslice_p newslice_l newslice_c) h_5) : CallsH Tryz.prog F.slices_Concat_s_s_byte_s_byte #[.slice slices_p slices_l slices_c] h R :=
 callsH_of_body (.seq .leaf (.seq .leaf (.seq (.seq .leaf (.block (.loop [(3, .one (.int .i64)), (11, .one (.int .i64))] (.seq .leaf (.seq (.cond .leaf .leaf) (.seq (.join [(3, .one (.int .i64))] (.block (.seq .leaf (.seq .leaf (.seq .leaf (.join [] (.cond .leaf .leaf))))))) .leaf)))))) (.seq .leaf (.seq (.seq .leaf (.block (.loop [(6, .one (.slice)), (27, .one (.int .i64))] (.seq .leaf (.seq (.cond .leaf .leaf) (.seq (.block (.seq .leaf .leaf)) .leaf)))))) (.seq .leaf .leaf)))))) Tryz.func135 rfl rfl (Eq.mp (by kernel_rfl) hv)
theorem slices_Grow_s_s_byte_s_byte.walk {s_p : Option Addr} {s_l s_c : Nat} {n : Int} (hv :
 JoinP (fun (h_1 : Heap) =>
 JoinP (fun (s_p_1 : Option Addr) (s_l_1 s_c_1 : Nat) (h_2 : Heap) =>
 R (.slice s_p_1 s_l_1 s_c_1) h_2)
 (fun J_1 =>
 if (decide ((IntKind.wrap .i64 (n - (IntKind.wrap .i64 (((s_c : Nat) : Int) - ((s_l : Nat) : Int))))) > 0)) = true then
 ((0 : Int) ≤ ((s_c : Nat) : Int) ∧ ((s_c : Nat) : Int) ≤ ((s_c : Nat) : Int)) ∧
 denSem Tryz.prog (Builtin.append_ #[T.s_s_uint8, T.int] T.s_s_uint8 #[.slice (slBase s_p s_c 0 1) ((Int.toNat ((s_c : Nat) : Int)) - 0) (s_c - 0), .int .i64 (IntKind.wrap .i64 (n - (IntKind.wrap .i64 (((s_c : Nat) : Int) - ((s_l : Nat) : Int)))))]) h_1 fun v h_3 =>
 ∃ t22_p t22_l t22_c, v = .slice t22_p t22_l t22_c ∧
 ((0 : Int) ≤ ((s_l : Nat) : Int) ∧ ((s_l : Nat) : Int) ≤ ((t22_c : Nat) : Int)) ∧
 J_1 (slBase t22_p t22_c 0 1) ((Int.toNat ((s_l : Nat) : Int)) - 0) (t22_c - 0) h_3
 else
 J_1 s_p s_l s_c h_1))
 (fun J =>
 if (decide (n < 0)) = true then
 False
 else
 J h)) : CallsH Tryz.prog F.slices_Grow_s_s_byte_s_byte #[.slice s_p s_l s_c, .int .i64 n] h R :=
 callsH_of_body (.seq .leaf (.seq (.seq .leaf (.join [] (.cond .leaf .leaf))) (.seq (.seq .leaf (.seq .leaf (.join [(0, .one (.slice))] (.cond .leaf .leaf)))) (.seq .leaf .leaf)))) Tryz.func180 rfl rfl (Eq.mp (by kernel_rfl) hv)
theorem slices_IndexFunc_s_outbox_Item_outbox_Item.cancel.walk {s_p : Option Addr} {s_l s_c : Nat} {f_c : Nat} (hv :
 ∃ (I : Int → Heap → Prop) (mu : Int → Heap → Nat), I 0 h ∧ ∀ (t8 : Int) (h_1 : Heap), I t8 h_1 →
 if (decide (t8 < ((s_l : Nat) : Int))) = true then
 ((0 : Int) ≤ t8 ∧ t8 < ((s_l : Nat) : Int)) ∧
 onSome s_p fun a =>
 outbox_Item.LD h_1 (a.add (Int.toNat t8 * 4)) fun t15_0 t15_1 t15_2_p t15_2_l t15_2_c t15_3 =>
 Cl F.state_State_Cancel_1 #[.agg #[.int .i64 t15_0, .int .i64 t15_1, .slice t15_2_p t15_2_l t15_2_c, .int .u64 t15_3], .pointer (some ⟨f_c, 0, none⟩)] h_1 fun v h_2 =>
 ∃ t16, v = .bool t16 ∧
 if t16 = true then
 R (.int .i64 t8) h_2
 else
 (I (IntKind.wrap .i64 (t8 + 1)) h_2 ∧ mu (IntKind.wrap .i64 (t8 + 1)) h_2 < mu t8 h_1)
 else
 R (.int .i64 (-1)) h_1) : CallsH Tryz.prog F.slices_IndexFunc_s_outbox_Item_outbox_Item #[.slice s_p s_l s_c, .func (.func F.state_State_Cancel_1) #[] #[.pointer (some ⟨f_c, 0, none⟩)]] h R :=
 callsH_of_body (.seq .leaf (.seq (.seq .leaf (.block (.loop [(8, .one (.int .i64))] (.seq .leaf (.seq (.cond .leaf .leaf) (.seq (.block (.seq .leaf (.seq .leaf (.cond (.seq .leaf .leaf) .leaf)))) .leaf)))))) (.seq .leaf .leaf))) Tryz.func127 rfl rfl (Eq.mp (by kernel_rfl) hv)
end Go.Proofs.YtgccegnmggjkjaaGreatDoor
set_option maxRecDepth 100000
namespace Go.Proofs.YtgccegnmggjkjaaGreatDoor
open Go.Den
namespace Stt
open Obx (It)
open Eid (Ev rightE ev5)
variable {h h' : Heap} {R : Value → Heap → Prop} {s k : Nat} {X : Ft} {I : Ids} {σ : SS}
theorem made_ok {n r:Nat} (B:Bk h s I n r) (hk:R (.bool true) h):CallsH Tryz.prog F.state_State_made #[pt s] h R:=by
 refine state_State_made.walk ?_
 repeat (first|exact hk|refine⟨_,cell_at B rfl, ?_⟩|rw[if_pos rfl])
theorem Pt.put {n r:Nat} (H:Pt h s X I σ) (b:Bk h' s I n r) (hs:h'.size=h.size) (ho: ∀x,x≠s→h'[x]? =h[x]?): ∃X',Pt h' s X' I { σ with now:=n,rf:=r } ∧StepF X h X' h':=by
 obtain⟨Z,⟨hb,on⟩,zm,zd,go⟩:=H.use 6
 obtain⟨X',H',st,_,_⟩:=go h' Z { σ with now:=n,rf:=r } ⟨b,on⟩ (StepF.of_fr (Fr.of_eq hs fun c hc=>ho c (fun e=>hc ((on c).1.2 e)))) (fun i hi=>part_n _ _ hi)
 exact⟨X',H',st⟩
theorem Pt.give {n o:Int} {x:It} {l:List It} (H:Pt h s X I σ) (e:σ.Q.Perm (x::l)) (ok:okQ σ.Q) (kx:okI x) (hn:n=(x.d.length:Int)) (ho:o=x.owner)
  (hk: ∀h' X',Pt h' s X' I { σ with Q:=l } →StepF X h X' h'→R (.int .i64 0) h'):CallsH Tryz.prog F.quota_Purse_Give #[pt I.p, .int .i64 o, .int .i64 n] h R:=by
 subst ho
 obtain⟨Z,⟨m,P,on⟩,zm,zd,go⟩:=H.use 4
 refine give1 (P.perm e) (okQ.perm ok e) kx hn fun h' P' f'=> ?_
 obtain⟨X',H',st,_,_⟩:=go h' Z { σ with Q:=l } ⟨m,P',on⟩ (StepF.of_fr (f'.mono fun y _ hy=>(on y).1.2 hy)) (fun i hi=>part_Q _ hi)
 exact hk h' X' H' st
theorem Pt.perm {l:List It} (H:Pt h s X I σ) (e:σ.Q.Perm l):Pt h s X I { σ with Q:=l } :=by
 obtain⟨Y,hp,r⟩:=H
 refine⟨Y,fun i=> ?_,r⟩
 by_cases hi:i=4
 ·subst hi
  obtain⟨m,P,on⟩:=hp 4
  exact⟨m,P.perm e,on⟩
 ·rw[part_Q _ hi];exact hp i
theorem okQ_drop {l r:List It} (ok:okQ (l++r)): ∀j,okQ (l.drop j++r)
 |0=>ok
 |j+1=>by
  have h:=okQ_drop ok j
  rcases Nat.lt_or_ge j l.length with q|q
  ·rw[List.drop_eq_getElem_cons q] at h;exact okQ.sub h
  ·rw[List.drop_eq_nil_of_le q] at h;rw[List.drop_eq_nil_of_le (by omega)];exact h
theorem Pt.okB (H:Pt h s X I σ): ∃L,Obx.okB σ.B L:=by
 obtain⟨Z,L,B,ok⟩:=H.box
 exact⟨L,ok⟩
theorem Pt.ord (H:Pt h s X I σ):Cps.Ord σ.C:=by
 obtain⟨Y,hp,_⟩:=H
 exact Cps.Ct.ord (hp 2)
theorem okI_of {L:List Go.Heapq.E} {B:Obx.BS} (ok:Obx.okB B L) {x:It} (hx:x∈B.items):okI x:=by
 have:=ok.it x hx
 exact⟨this.2.2.1,this.2.2.2.1,this.2.2.2.2.1,this.2.2.2.2.2.1⟩
theorem Good.small (G:Good σ k) (O:Cps.Ord σ.C) (hk:k≤40000):Cps.Small σ.C:=G.c.small O hk
theorem due_items {B:Obx.BS} {L:List Go.Heapq.E} (ok:Obx.okB B L) {P:It→Bool} {ys:List It} (hm: ∀y∈ys,y∈B.items) (hp:(ys.map It.kv).Perm ((B.items.filter P).map It.kv)):ys.Perm (B.items.filter P):=by
 have nd: ∀ {l:List It},l.Sublist B.items→(l.map It.num).Nodup:=fun hs=>((ok.inc.sublist (hs.map It.num))).imp fun h=>Nat.ne_of_lt h
 have n1:((ys.map It.kv).map (fun e=>e.1)).Nodup:=by
  refine(hp.map _).nodup_iff.2 ?_
  rw[List.map_map]
  have:=nd (List.filter_sublist (l:=B.items) (p:=P))
  unfold List.Nodup at this⊢
  rw[List.pairwise_map] at this⊢
  exact this.imp fun h e=>h (by have e:((_:Nat):Int)=((_:Nat):Int):=e;exact Int.ofNat.inj e)
 have n2:ys.Nodup:=by
  rw[List.map_map] at n1
  unfold List.Nodup at n1⊢
  rw[List.pairwise_map] at n1
  exact n1.imp fun h e=>h (by rw[e])
 have n3:(B.items.filter P).Nodup:=by
  have:=nd (List.filter_sublist (l:=B.items) (p:=P))
  unfold List.Nodup at this⊢
  rw[List.pairwise_map] at this
  exact this.imp fun h e=>h (by rw[e])
 rw[List.perm_ext_iff_of_nodup n2 n3]
 have inj: ∀x∈B.items,∀y∈B.items,x.kv=y.kv→x=y:=fun x hx y hy e=>Obx.uniq ok.inc hx hy (by have e:((x.num:Nat):Int)=((y.num:Nat):Int):=congrArg Prod.fst e;exact Int.ofNat.inj e)
 intro x
 constructor
 ·intro hx
  obtain⟨y,hy,e⟩:=List.mem_map.1 (hp.mem_iff.1 (List.mem_map.2 ⟨x,hx,rfl⟩))
  rw[inj x (hm x hx) y (List.mem_filter.1 hy).1 e.symm];exact hy
 ·intro hx
  obtain⟨y,hy,e⟩:=List.mem_map.1 (hp.mem_iff.2 (List.mem_map.2 ⟨x,hx,rfl⟩))
  rw[inj x (List.mem_filter.1 hx).1 y (hm y hy) e.symm];exact hy
theorem split_perm (l:List It) (now:Nat):l.Perm (l.filter (fun x=>decide ((x.till:Int)≤(now:Int)))++l.filter (fun x=>decide ((now:Int)<(x.till:Int)))):=by
 have h:=(List.filter_append_perm (fun x:It=>decide ((x.till:Int)≤(now:Int))) l).symm
 have e:(fun x:It=> !decide ((x.till:Int)≤(now:Int)))=fun x:It=>decide ((now:Int)<(x.till:Int)):=funext fun x=>by
  by_cases q:(x.till:Int)≤(now:Int)
  ·rw[decide_eq_true q,decide_eq_false (by omega)];rfl
  ·rw[decide_eq_false q,decide_eq_true (by omega)];rfl
 rw[e] at h
 exact h
theorem pass_ok {n:Int} (now:Nat) (hn:n=(now:Int)) (H:Pt h s X I σ) (G:Good σ k) (hk8:k≤30000)
  (hk: ∀h' X',Pt h' s X' I (passA σ now)→StepF X h X' h'→R (.int .i64 (passE σ now)) h'):CallsH Tryz.prog F.state_State_Pass #[pt s, .int .u64 n] h R:=by
 subst hn
 have B:=H.blk
 refine state_State_Pass.walk (made_ok B ⟨_,rfl, ?_⟩)
 rw[if_neg (by decide)]
 unfold passA at hk
 by_cases h1:now>1099511627776
 ·have e:passE σ now=1:=if_pos h1
  rw[e,if_neg (by decide)] at hk
  rw[if_pos (decide_eq_true (by omega))]
  exact hk h X H (StepF.refl _ _)
 rw[if_neg (fun e=>h1 (by have:=of_decide_eq_true e;omega))]
 refine⟨_,cell_at B rfl, ?_⟩
 by_cases h2:now<σ.now
 ·have e:passE σ now=18:=by unfold passE;rw[if_neg h1,if_pos h2]
  rw[e,if_neg (by decide)] at hk
  rw[if_pos (decide_eq_true (by omega))]
  exact hk h X H (StepF.refl _ _)
 rw[if_neg (fun e=>h2 (by have:=of_decide_eq_true e;omega))]
 have e:passE σ now=0:=by unfold passE;rw[if_neg h1,if_neg h2]
 rw[e,if_pos rfl] at hk
 refine storeP_blk B (by simp) fun h2 a1 a2 a3=> ?_
 obtain⟨X2,H2,st2⟩:=H.put (n:=now) (r:=σ.rf) a1 a2 a3
 have O:=H.ord
 have sm:=G.small O (by omega)
 obtain⟨Z,hz,zm,zd,go⟩:=H2.use 2
 refine⟨_,cell_at H2.blk rfl,Cps.pass_ok hz sm (by have:=G.c.L;show σ.C.over≤_;omega) (Cps.Good.held G.c) (now:Int) fun h3 Z3 p3 c3 C3 s3 N3 g3=>⟨_,_,_,rfl, ?_⟩⟩
 obtain⟨X3,H3,st3,_,_⟩:=go h3 Z3 { σ with now:=now,C:=Cps.passF σ.C (now:Int) } C3 s3 (fun i hi=>part_C (σ:= { σ with now:=now }) _ hi)
 obtain⟨Z,hz,zm,zd,go⟩:=H3.use 3
 obtain⟨L,okB⟩:=H.okB
 refine⟨_,cell_at H3.blk rfl,Obx.pass_ok now rfl hz (by have:=G.b;show σ.B.next≤_;omega) fun h4 Z4 p4 c4 ys D B4 s4 o4 d4 n4 e4 so4 pm4 m4=>⟨_,_,_,rfl, ?_⟩⟩
 have yp:(ys.map Obx.IV.abs).Perm (σ.B.items.filter (fun x=>decide ((x.till:Int)≤(now:Int)))):=due_items okB (fun y hy=>by obtain⟨z,hz,rfl⟩:=List.mem_map.1 hy;exact m4 z hz) (by rw[e4];exact pm4)
 have yl:ys.length=(σ.B.items.filter (fun x=>decide ((x.till:Int)≤(now:Int)))).length:=by rw[←yp.length_eq,List.length_map]
 have eB:({ σ.B with items:=σ.B.items.filter (fun x=>decide ((now:Int)<(x.till:Int))),over:=σ.B.over+ys.length } :Obx.BS)=passB σ.B now:=by unfold passB;rw[yl]
 rw[eB] at B4
 obtain⟨X4,H4,st4,dd4,nn4⟩:=go h4 Z4 { σ with now:=now,C:=Cps.passF σ.C (now:Int),B:=passB σ.B now } B4 s4 (fun i hi=>part_B (σ:= { σ with now:=now,C:=Cps.passF σ.C (now:Int) }) _ hi)
 have st:=st2.trans (st3.trans st4)
 have nX4: ∀y,inBlk p4 y→ ¬(X4.M y∨X4.D y)∧h3.size≤y:=fun y hy=>⟨fun hm=>(n4 y hy).2 (nn4 y (n4 y hy).1 hm),(n4 y hy).1⟩
 have hq:(σ.Q).Perm (ys.map Obx.IV.abs++(passB σ.B now).items):=by
  rw[G.q]
  exact(split_perm _ now).trans (yp.symm.append_right _)
 have okA:okQ (ys.map Obx.IV.abs++(passB σ.B now).items):=okQ.perm G.ok hq
 refine⟨fun i g=> ∃(j:Nat) (Xg:Ft),i=(j:Int)∧j≤ys.length∧Pt g s Xg I { σ with now:=now,C:=Cps.passF σ.C (now:Int),B:=passB σ.B now,Q:=(ys.map Obx.IV.abs).drop j++(passB σ.B now).items } ∧StepF X4 h4 Xg g∧Own g p4 ys.length c4 4 (ys.flatMap Obx.ienc),fun i _=>ys.length - i.toNat,
  ⟨0,X4,rfl,Nat.zero_le _,H4.perm hq,StepF.refl _ _,o4⟩, ?_⟩
 rintro _ g ⟨j,Xg,rfl,hj,Hg,sg,og⟩
 have l16:ys.length≤16:=by rw[yl];exact Nat.le_trans (List.length_filter_le _ _) okB.le
 by_cases hl:j<ys.length
 ·rw[if_pos (decide_eq_true (by omega))]
  have hy:ys[j]? =some ys[j]:=List.getElem?_eq_getElem hl
  obtain⟨pb,po,rfl⟩:=og.addr (by omega)
  refine⟨⟨by omega,by omega⟩,onSome_some.2 (outbox_Item.ldA (by rw[Int.toNat_natCast];exact og.heldAt Obx.ienc_len hy) (outbox_Item.new fun b g1 eb hb f1=> ?_))⟩
  have H1:=Hg.on f1
  have ed:(ys.map Obx.IV.abs).drop j=ys[j].abs::(ys.map Obx.IV.abs).drop (j+1):=by
   rw[List.drop_eq_getElem_cons (by rw[List.length_map];exact hl),List.getElem_map]
  have okj:=okQ_drop okA j
  refine⟨_,cell_at H1.blk rfl,_,cell_at hb rfl,_,_,_,cell_at hb rfl,H1.give (x:=ys[j].abs) (l:=(ys.map Obx.IV.abs).drop (j+1)++(passB σ.B now).items) (by show((ys.map Obx.IV.abs).drop j++_).Perm _;rw[ed];exact .refl _) okj (okI_of okB (m4 _ (List.getElem_mem hl))) rfl rfl fun g2 X2 H2 st2=>⟨_,rfl, ?_, ?_⟩⟩
  ·have lb:=lt_of_get hb
   exact st2.fr.cell (cell_at hb rfl) (fun hm=>by have:=Hg.lt b (.inl hm);omega)
  ·rw[wrap_id (by omega) (by omega)]
   have s2:=sg.on f1|>.trans st2
   refine⟨⟨j+1,X2,by omega,by omega,H2,s2,(og.frame f1 (fun _ _=>id)).frame st2.fr (fun y hy hm=> ?_)⟩,by show ys.length - Int.toNat ((j:Int)+1)<ys.length - Int.toNat (j:Int);omega⟩
   rcases sg.newM y hm with a|a
   ·exact(nX4 y hy).1 (.inl a)
   ·have:=o4.blk_lt hy;omega
 ·rw[if_neg (fun e=>hl (by have:=of_decide_eq_true e;omega))]
  refine hk g Xg ?_ (st.trans sg)
  rw[List.drop_eq_nil_of_le (by rw[List.length_map];omega)] at Hg
  exact Hg
end Stt
end Go.Proofs.YtgccegnmggjkjaaGreatDoor
