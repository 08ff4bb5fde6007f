/-
  What is proved here: parts of the proof, one behind the other (texts of this work, merged by a program; what the theorem does not use is left out). No condition.
-/
import Derived.Test.YtgccegnmggjkjaaGreatDoorProg
import Derived.Shelf.SortM.Plain
import Derived.Shelf.SortM.SortNone
import Derived.Ground.SlgmProg
import Derived.Test.YtgccegnmggjkjaaGreatDoorMStckb
set_option maxRecDepth 100000
set_option maxHeartbeats 4000000
namespace Go.Proofs.YtgccegnmggjkjaaGreatDoor
open Go.Den
variable {h : Heap} {R : Value → Heap → Prop}
theorem slices_DeleteFunc_s_sessions_Answer_sessions_Answer.keep.walk {s_p : Option Addr} {s_l s_c : Nat} {del_c : Nat} (hv :
 Cl F.slices_IndexFunc_s_sessions_Answer_sessions_Answer #[.slice s_p s_l s_c, .func (.func F.sessions_Table_Keep_1) #[] #[.pointer (some ⟨del_c, 0, none⟩)]] h fun v h_1 =>
 ∃ t10, v = .int .i64 t10 ∧
 if (t10 == (-1)) = true then
 R (.slice s_p s_l s_c) h_1
 else
 ∃ (I : Int → Int → Heap → Prop) (mu : Int → Int → Heap → Nat), I t10 (IntKind.wrap .i64 (t10 + 1)) h_1 ∧ ∀ (i : Int) (j : Int) (h_2 : Heap), I i j h_2 →
 if (decide (j < ((s_l : Nat) : Int))) = true then
 JoinP (fun (i_1 : Int) (h_3 : Heap) =>
 (I i_1 (IntKind.wrap .i64 (j + 1)) h_3 ∧ mu i_1 (IntKind.wrap .i64 (j + 1)) h_3 < mu i j h_2))
 (fun J =>
 ((0 : Int) ≤ j ∧ j < ((s_l : Nat) : Int)) ∧
 onSome s_p fun a =>
 sessions_Answer.LD h_2 (a.add (Int.toNat j * 2)) fun t25_0 t25_1_p t25_1_l t25_1_c =>
 NewP h_2 (.cells #[.int .u64 0, .slice none 0 0] T.sessions_Answer) fun b h_4 =>
 sessions_Answer.ST h_4 ⟨b, 0, none⟩ t25_0 t25_1_p t25_1_l t25_1_c fun h_5 =>
 sessions_Answer.LD h_5 ⟨b, 0, none⟩ fun t27_0 t27_1_p t27_1_l t27_1_c =>
 Cl F.sessions_Table_Keep_1 #[.agg #[.int .u64 t27_0, .slice t27_1_p t27_1_l t27_1_c], .pointer (some ⟨del_c, 0, none⟩)] h_5 fun v_1 h_6 =>
 ∃ t28, v_1 = .bool t28 ∧
 JoinP (fun (i_2 : Int) (h_7 : Heap) =>
 J i_2 h_7)
 (fun J_1 =>
 if (!t28) = true then
 sessions_Answer.LD h_6 ⟨b, 0, none⟩ fun t32_0 t32_1_p t32_1_l t32_1_c =>
 ((0 : Int) ≤ i ∧ i < ((s_l : Nat) : Int)) ∧
 onSome s_p fun a_1 =>
 sessions_Answer.ST h_6 (a_1.add (Int.toNat i * 2)) t32_0 t32_1_p t32_1_l t32_1_c fun h_8 =>
 J_1 (IntKind.wrap .i64 (i + 1)) h_8
 else
 J_1 i h_6))
 else
 ((0 : Int) ≤ i ∧ i ≤ ((s_l : Nat) : Int)) ∧
 denSem Tryz.prog (Builtin.clear_ #[T.s_sessions_Answer] T.tup_ #[.slice (slBase s_p s_c (Int.toNat i) 2) (s_l - (Int.toNat i)) (s_c - (Int.toNat i))]) h_2 fun v_2 h_9 =>
 v_2 = .tuple #[] ∧
 ((0 : Int) ≤ i ∧ i ≤ ((s_c : Nat) : Int)) ∧
 R (.slice (slBase s_p s_c 0 2) ((Int.toNat i) - 0) (s_c - 0)) h_9) : CallsH Tryz.prog F.slices_DeleteFunc_s_sessions_Answer_sessions_Answer #[.slice s_p s_l s_c, .func (.func F.sessions_Table_Keep_1) #[] #[.pointer (some ⟨del_c, 0, none⟩)]] h R :=
 callsH_of_body (.seq .leaf (.seq .leaf (.seq (.seq .leaf (.cond (.seq .leaf .leaf) .leaf)) (.seq (.seq .leaf (.block (.loop [(5, .one (.int .i64)), (6, .one (.int .i64))] (.seq (.seq .leaf (.cond .leaf .leaf)) (.seq (.join [(5, .one (.int .i64))] (.block (.seq .leaf (.seq .leaf (.join [(5, .one (.int .i64))] (.cond (.seq .leaf .leaf) .leaf)))))) .leaf))))) (.seq .leaf (.seq .leaf .leaf)))))) Tryz.func261 rfl rfl (Eq.mp (by kernel_rfl) hv)
theorem slices_IndexFunc_s_sessions_Answer_sessions_Answer.keep.walk {s_p : Option Addr} {s_l s_c : Nat} {f_c : Nat} (hv :
 ∃ (I : Int → Heap → Prop) (mu : Int → Heap → Nat), I 0 h ∧ ∀ (t8 : Int) (h_1 : Heap), I t8 h_1 →
 if (decide (t8 < ((s_l : Nat) : Int))) = true then
 ((0 : Int) ≤ t8 ∧ t8 < ((s_l : Nat) : Int)) ∧
 onSome s_p fun a =>
 sessions_Answer.LD h_1 (a.add (Int.toNat t8 * 2)) fun t15_0 t15_1_p t15_1_l t15_1_c =>
 Cl F.sessions_Table_Keep_1 #[.agg #[.int .u64 t15_0, .slice t15_1_p t15_1_l t15_1_c], .pointer (some ⟨f_c, 0, none⟩)] h_1 fun v h_2 =>
 ∃ t16, v = .bool t16 ∧
 if t16 = true then
 R (.int .i64 t8) h_2
 else
 (I (IntKind.wrap .i64 (t8 + 1)) h_2 ∧ mu (IntKind.wrap .i64 (t8 + 1)) h_2 < mu t8 h_1)
 else
 R (.int .i64 (-1)) h_1) : CallsH Tryz.prog F.slices_IndexFunc_s_sessions_Answer_sessions_Answer #[.slice s_p s_l s_c, .func (.func F.sessions_Table_Keep_1) #[] #[.pointer (some ⟨f_c, 0, none⟩)]] h R :=
 callsH_of_body (.seq .leaf (.seq (.seq .leaf (.block (.loop [(8, .one (.int .i64))] (.seq .leaf (.seq (.cond .leaf .leaf) (.seq (.block (.seq .leaf (.seq .leaf (.cond (.seq .leaf .leaf) .leaf)))) .leaf)))))) (.seq .leaf .leaf))) Tryz.func259 rfl rfl (Eq.mp (by kernel_rfl) hv)
theorem slices_IndexFunc_s_sessions_Answer_sessions_Answer.kept.walk {s_p : Option Addr} {s_l s_c : Nat} {f_c : Nat} (hv :
 ∃ (I : Int → Heap → Prop) (mu : Int → Heap → Nat), I 0 h ∧ ∀ (t8 : Int) (h_1 : Heap), I t8 h_1 →
 if (decide (t8 < ((s_l : Nat) : Int))) = true then
 ((0 : Int) ≤ t8 ∧ t8 < ((s_l : Nat) : Int)) ∧
 onSome s_p fun a =>
 sessions_Answer.LD h_1 (a.add (Int.toNat t8 * 2)) fun t15_0 t15_1_p t15_1_l t15_1_c =>
 Cl F.sessions_Table_Kept_1 #[.agg #[.int .u64 t15_0, .slice t15_1_p t15_1_l t15_1_c], .pointer (some ⟨f_c, 0, none⟩)] h_1 fun v h_2 =>
 ∃ t16, v = .bool t16 ∧
 if t16 = true then
 R (.int .i64 t8) h_2
 else
 (I (IntKind.wrap .i64 (t8 + 1)) h_2 ∧ mu (IntKind.wrap .i64 (t8 + 1)) h_2 < mu t8 h_1)
 else
 R (.int .i64 (-1)) h_1) : CallsH Tryz.prog F.slices_IndexFunc_s_sessions_Answer_sessions_Answer #[.slice s_p s_l s_c, .func (.func F.sessions_Table_Kept_1) #[] #[.pointer (some ⟨f_c, 0, none⟩)]] h R :=
 callsH_of_body (.seq .leaf (.seq (.seq .leaf (.block (.loop [(8, .one (.int .i64))] (.seq .leaf (.seq (.cond .leaf .leaf) (.seq (.block (.seq .leaf (.seq .leaf (.cond (.seq .leaf .leaf) .leaf)))) .leaf)))))) (.seq .leaf .leaf))) Tryz.func259 rfl rfl (Eq.mp (by kernel_rfl) hv)
theorem slices_Clone_s_sessions_Answer_sessions_Answer.walk {s_p : Option Addr} {s_l s_c : Nat} (hv :
 if s_p.isNone = true then
 R (.slice none 0 0) h
 else
 NewP h (.cells #[] T.sessions_Answer) fun b h_1 =>
 denSem Tryz.prog (Builtin.append_ #[T.s_sessions_Answer, T.s_sessions_Answer] T.s_sessions_Answer #[.slice (some ⟨b, 0, none⟩) 0 0, .slice s_p s_l s_c]) h_1 fun v h_2 =>
 ∃ t7_p t7_l t7_c, v = .slice t7_p t7_l t7_c ∧
 R (.slice t7_p t7_l t7_c) h_2) : CallsH Tryz.prog F.slices_Clone_s_sessions_Answer_sessions_Answer #[.slice s_p s_l s_c] h R :=
 callsH_of_body (.seq .leaf (.seq (.seq .leaf (.cond (.seq .leaf .leaf) .leaf)) (.seq .leaf .leaf))) Tryz.func263 rfl rfl (Eq.mp (by kernel_rfl) hv)
end Go.Proofs.YtgccegnmggjkjaaGreatDoor
set_option maxRecDepth 100000
namespace Go.Proofs.YtgccegnmggjkjaaGreatDoor
open Go.Den Go.Fields
namespace Ses
open Fld
variable {h h' h0 : Heap} {t : Nat} {X : Ft} {R : Value → Heap → Prop} {p q : Option Addr} {c d i : Nat}
structure AV where
 id:Nat
 v:BV
abbrev AV.enc (a:AV):List Value:= [.int .u64 (a.id:Int),a.v.val]
structure SC where
 b:Nat
 num:Nat
 token:Nat
 up:Bool
 watch:Bool
 kept:List AV
 kp:Option Addr
 kc:Nat
 notes:List BV
 np:Option Addr
 nc:Nat
structure Ses where
 num:Nat
 token:Nat
 up:Bool
 watch:Bool
 kept:List (Nat×List UInt8)
 notes:List (List UInt8)
def AV.abs (a:AV):Nat×List UInt8:=(a.id,a.v.b)
def SC.abs (s:SC):Ses:=⟨s.num,s.token,s.up,s.watch,s.kept.map AV.abs,s.notes.map BV.b⟩
theorem set_same {α:Type} {l:List α} {i:Nat} {v:α} (h:l[i]? =some v):l.set i v=l:=by
 apply List.ext_getElem?
 intro j
 rw[List.getElem?_set]
 split
 ·rename_i e;subst e;rw[if_pos (List.getElem?_eq_some_iff.1 h).1,h]
 ·rfl
abbrev Lab:=Nat→Option Nat
abbrev At (h:Heap) (s:SC):Prop:=sessions_Session.at h s.b (s.num:Int) (s.token:Int) s.up s.watch s.kp s.kept.length s.kc s.np s.notes.length s.nc
structure SesAt (h:Heap) (lab:Lab) (D:Nat→Prop) (i:Nat) (s:SC):Prop where
 blk:At h s
 lb:lab s.b=some (2+3*i)
 kown:Own h s.kp s.kept.length s.kc 2 (s.kept.flatMap AV.enc)
 kl: ∀c,inBlk s.kp c→lab c=some (3+3*i)
 nown:Own h s.np s.notes.length s.nc 1 (s.notes.flatMap nenc)
 nl: ∀c,inBlk s.np c→lab c=some (4+3*i)
 kd: ∀a∈s.kept,a.v.ok h D
 nd: ∀n∈s.notes,n.ok h D
structure Tab (h:Heap) (t:Nat) (lab:Lab) (D:Nat→Prop) (L:List SC):Prop where
 blk: ∃p c,h[t]? =some (.cells #[.bool true, .slice p L.length c] T.sessions_Table (0,0))∧Own h p L.length c 1 (L.map fun s=> .pointer (some ⟨s.b,0,none⟩))∧ ∀x,inBlk p x→lab x=some 1
 lt0:lab t=some 0
 ses: ∀i s,L[i]? =some s→SesAt h lab D i s
 llt: ∀c r,lab c=some r→c<h.size
 dlt: ∀c,D c→c<h.size
 ap: ∀c r,lab c=some r→ ¬D c
def HasB (h:Heap) (t:Nat) (X:Ft) (A:List Ses) (B:List Nat):Prop:=
 ∃lab L,Tab h t lab X.D L∧L.map SC.abs=A∧L.map SC.b=B∧ ∀c,X.M c↔ ∃r,lab c=some r
def Has (h:Heap) (t:Nat) (X:Ft) (A:List Ses):Prop:= ∃B,HasB h t X A B
variable {lab : Lab} {D : Nat → Prop} {L : List SC} {A : List Ses}
theorem SesAt.frame {Q:Nat→Prop} {s:SC} (H:SesAt h lab D i s) (f:Fr Q h h') (hq: ∀c r,lab c=some r→2+3*i≤r→r≤4+3*i→ ¬Q c) (hd: ∀c,D c→ ¬Q c):SesAt h' lab D i s:=
 ⟨f.get H.blk (hq _ _ H.lb (by omega) (by omega)),H.lb,H.kown.frame f (fun c hc=>hq c _ (H.kl c hc) (by omega) (by omega)),H.kl,H.nown.frame f (fun c hc=>hq c _ (H.nl c hc) (by omega) (by omega)),H.nl,fun a ha=>(H.kd a ha).frame f hd,fun n hn=>(H.nd n hn).frame f hd⟩
theorem SesAt.mono {lab':Lab} {D':Nat→Prop} {s:SC} (H:SesAt h lab D i s) (hl: ∀c r,lab c=some r→lab' c=some r) (hd: ∀c,D c→D' c):SesAt h lab' D' i s:=
 ⟨H.blk,hl _ _ H.lb,H.kown,fun c hc=>hl c _ (H.kl c hc),H.nown,fun c hc=>hl c _ (H.nl c hc),fun a ha=>(H.kd a ha).mono hd,fun n hn=>(H.nd n hn).mono hd⟩
theorem HasB.lt {B:List Nat} (H:HasB h t X A B): ∀x,X.M x∨X.D x→x<h.size:=by
 obtain⟨lab,L,T,_,_,hS⟩:=H
 rintro x (hx|hd)
 ·obtain⟨r,hr⟩:=(hS x).1 hx
  exact T.llt x r hr
 ·exact T.dlt x hd
theorem HasB.dis {B:List Nat} (H:HasB h t X A B): ∀x,X.M x→ ¬X.D x:=by
 obtain⟨lab,L,T,_,_,hS⟩:=H
 intro x hx
 obtain⟨r,hr⟩:=(hS x).1 hx
 exact T.ap x r hr
theorem HasB.frame {B:List Nat} {Q:Nat→Prop} (H:HasB h t X A B) (f:Fr Q h h') (hq: ∀x,X.M x∨X.D x→ ¬Q x):HasB h' t X A B:=by
 obtain⟨lab,L,T,e,eB,hS⟩:=H
 obtain⟨p,c,hb,own,hp⟩:=T.blk
 have hl: ∀c r,lab c=some r→ ¬Q c:=fun c r hr=>hq c (.inl ((hS c).2 ⟨r,hr⟩))
 refine⟨lab,L,⟨⟨p,c,f.get hb (hl t _ T.lt0),own.frame f (fun x hx=>hl x _ (hp x hx)),hp⟩,T.lt0,fun i s hs=>(T.ses i s hs).frame f (fun c r hr _ _=>hl c r hr) (fun c hd=>hq c (.inr hd)), ?_, ?_,T.ap⟩,e,eB,hS⟩
 ·intro c r hr;exact Nat.lt_of_lt_of_le (T.llt c r hr) f.1
 ·intro c hd;exact Nat.lt_of_lt_of_le (T.dlt c hd) f.1
theorem Has.lt (H:Has h t X A): ∀x,X.M x∨X.D x→x<h.size:=by obtain⟨B,H⟩:=H;exact H.lt
theorem Has.dis (H:Has h t X A): ∀x,X.M x→ ¬X.D x:=by obtain⟨B,H⟩:=H;exact H.dis
theorem Has.frame {Q:Nat→Prop} (H:Has h t X A) (f:Fr Q h h') (hq: ∀x,X.M x∨X.D x→ ¬Q x):Has h' t X A:=by obtain⟨B,H⟩:=H;exact⟨B,H.frame f hq⟩
open Classical in
theorem Tab.updG {s s':SC} {Q E:Nat→Prop} (T:Tab h t lab X.D L) (hS: ∀c,X.M c↔ ∃r,lab c=some r) (hs:L[i]? =some s) (hb:s'.b=s.b) (f:Fr Q h h') (hq: ∀c,Q c→ ∃r,lab c=some r∧2+3*i≤r∧r≤4+3*i)
  (blk:At h' s') (kown:Own h' s'.kp s'.kept.length s'.kc 2 (s'.kept.flatMap AV.enc)) (kn: ∀c,inBlk s'.kp c→lab c=some (3+3*i)∨h.size≤c)
  (nown:Own h' s'.np s'.notes.length s'.nc 1 (s'.notes.flatMap nenc)) (nn: ∀c,inBlk s'.np c→lab c=some (4+3*i)∨h.size≤c) (kn': ∀c,inBlk s'.kp c→inBlk s'.np c→False)
  (hE: ∀c,E c→lab c=none∧c<h'.size∧ ¬inBlk s'.kp c∧ ¬inBlk s'.np c) (kd: ∀a∈s'.kept,a.v.ok h' (fun c=>X.D c∨E c)) (nd: ∀n∈s'.notes,n.ok h' (fun c=>X.D c∨E c)):
  ∃X',HasB h' t X' ((L.map SC.abs).set i s'.abs) (L.map SC.b)∧Fr X.M h h'∧(∀c,X'.M c→X.M c∨h.size≤c)∧(∀c,X'.D c→X.D c∨E c)∧ ∀c,X.D c→X'.D c:=by
 let lab':Lab:=fun c=>if h.size≤c∧inBlk s'.kp c then some (3+3*i) else if h.size≤c∧inBlk s'.np c then some (4+3*i) else lab c
 have old: ∀c r,lab c=some r→lab' c=some r:=fun c r hr=>by
  have:=T.llt c r hr
  show(if h.size≤c∧inBlk s'.kp c then some (3+3*i) else if h.size≤c∧inBlk s'.np c then some (4+3*i) else lab c)=some r
  rw[if_neg (fun hh=>by omega),if_neg (fun hh=>by omega)];exact hr
 have new: ∀c r,lab' c=some r→lab c=some r∨(h.size≤c∧(inBlk s'.kp c∨inBlk s'.np c)):=fun c r hr=>by
  have hr:(if h.size≤c∧inBlk s'.kp c then some (3+3*i) else if h.size≤c∧inBlk s'.np c then some (4+3*i) else lab c)=some r:=hr
  split at hr
  ·rename_i hh;exact .inr ⟨hh.1, .inl hh.2⟩
  ·split at hr
   ·rename_i hh;exact .inr ⟨hh.1, .inr hh.2⟩
   ·exact .inl hr
 have nb: ∀c,inBlk s'.kp c∨inBlk s'.np c→c<h'.size:=fun c hc=>hc.elim (fun hc=>kown.blk_lt hc) (fun hc=>nown.blk_lt hc)
 have hd: ∀c,X.D c→ ¬Q c:=fun c hc hx=>by obtain⟨r,hr,_⟩:=hq c hx;exact T.ap c r hr hc
 obtain⟨p,c0,hbt,own,hp⟩:=T.blk
 have hil:i<L.length:=(List.getElem?_eq_some_iff.1 hs).1
 have nQ0: ¬Q t:=fun hx=>by obtain⟨r,hr,h1,h2⟩:=hq t hx;rw[T.lt0] at hr;cases hr;omega
 have nQ1: ∀x,inBlk p x→ ¬Q x:=fun x hx hq'=>by obtain⟨r,hr,h1,h2⟩:=hq x hq';rw[hp x hx] at hr;cases hr;omega
 have ptrs:(L.set i s').map (fun s=>Value.pointer (some ⟨s.b,0,none⟩))=L.map (fun s=>Value.pointer (some ⟨s.b,0,none⟩)):=by
  rw[List.map_set,hb]
  exact set_same (by rw[List.getElem?_map,hs];rfl)
 have blks:(L.set i s').map SC.b=L.map SC.b:=by
  rw[List.map_set,hb]
  exact set_same (by rw[List.getElem?_map,hs];rfl)
 refine⟨⟨fun c=> ∃r,lab' c=some r,fun c=>X.D c∨E c⟩,⟨lab',L.set i s',⟨⟨p,c0, ?_, ?_,fun x hx=>old x _ (hp x hx)⟩,old t 0 T.lt0, ?_, ?_, ?_, ?_⟩, ?_,blks,fun c=>Iff.rfl⟩, ?_, ?_,fun c h=>h,fun c=> .inl⟩
 ·rw[List.length_set];exact f.get hbt nQ0
 ·rw[ptrs,List.length_set];exact own.frame f nQ1
 ·intro j sj hj
  rw[List.getElem?_set] at hj
  by_cases e:i=j
  ·subst e
   rw[if_pos rfl,if_pos hil] at hj
   obtain rfl:=Option.some.inj hj
   refine⟨blk, ?_,kown,fun c hc=> ?_,nown,fun c hc=> ?_,kd,nd⟩
   ·rw[hb];exact old _ _ (T.ses i s hs).lb
   ·show(if h.size≤c∧inBlk s'.kp c then some (3+3*i) else if h.size≤c∧inBlk s'.np c then some (4+3*i) else lab c)=_
    rcases kn c hc with h1|h1
    ·have:=T.llt c _ h1
     rw[if_neg (fun hh=>by omega),if_neg (fun hh=>by omega)];exact h1
    ·rw[if_pos ⟨h1,hc⟩]
   ·show(if h.size≤c∧inBlk s'.kp c then some (3+3*i) else if h.size≤c∧inBlk s'.np c then some (4+3*i) else lab c)=_
    rw[if_neg (fun hh=>kn' c hh.2 hc)]
    rcases nn c hc with h1|h1
    ·have:=T.llt c _ h1
     rw[if_neg (fun hh=>by omega)];exact h1
    ·rw[if_pos ⟨h1,hc⟩]
  ·rw[if_neg e] at hj
   refine((T.ses j sj hj).frame f (fun c r hr h1 h2 hx=> ?_) hd).mono old (fun c=> .inl)
   obtain⟨r',hr',h3,h4⟩:=hq c hx
   rw[hr] at hr';cases hr'
   omega
 ·intro c r hr
  rcases new c r hr with h1|⟨_,h1⟩
  ·exact Nat.lt_of_lt_of_le (T.llt c r h1) f.1
  ·exact nb c h1
 ·rintro c (h1|h1)
  ·exact Nat.lt_of_lt_of_le (T.dlt c h1) f.1
  ·exact(hE c h1).2.1
 ·rintro c r hr (h1|h1)
  ·rcases new c r hr with h2|⟨h2,_⟩
   ·exact T.ap c r h2 h1
   ·have:=T.dlt c h1;omega
  ·rcases new c r hr with h2|⟨_,h2⟩
   ·rw[(hE c h1).1] at h2;cases h2
   ·exact h2.elim (hE c h1).2.2.1 (hE c h1).2.2.2
 ·rw[List.map_set]
 ·exact f.mono (fun c _ hx=>by obtain⟨r,hr,_⟩:=hq c hx;exact(hS c).2 ⟨r,hr⟩)
 ·rintro c ⟨r,hr⟩
  rcases new c r hr with h2|⟨h2,_⟩
  ·exact .inl ((hS c).2 ⟨r,h2⟩)
  ·exact .inr h2
theorem Tab.upd {s s':SC} {Q E:Nat→Prop} (T:Tab h t lab X.D L) (hS: ∀c,X.M c↔ ∃r,lab c=some r) (hs:L[i]? =some s) (hb:s'.b=s.b) (f:Fr Q h h') (hq: ∀c,Q c→ ∃r,lab c=some r∧2+3*i≤r∧r≤4+3*i)
  (blk:At h' s') (kown:Own h' s'.kp s'.kept.length s'.kc 2 (s'.kept.flatMap AV.enc)) (kn: ∀c,inBlk s'.kp c→lab c=some (3+3*i)∨h.size≤c)
  (nown:Own h' s'.np s'.notes.length s'.nc 1 (s'.notes.flatMap nenc)) (nn: ∀c,inBlk s'.np c→lab c=some (4+3*i)∨h.size≤c) (kn': ∀c,inBlk s'.kp c→inBlk s'.np c→False)
  (hE: ∀c,E c→h.size≤c∧c<h'.size∧ ¬inBlk s'.kp c∧ ¬inBlk s'.np c) (kd: ∀a∈s'.kept,a.v.ok h' (fun c=>X.D c∨E c)) (nd: ∀n∈s'.notes,n.ok h' (fun c=>X.D c∨E c)):
  ∃X',HasB h' t X' ((L.map SC.abs).set i s'.abs) (L.map SC.b)∧StepF X h X' h':=by
 obtain⟨X',H',f',m',d',o'⟩:=T.updG (Q:=Q) (E:=E) hS hs hb f hq blk kown kn nown nn kn' (fun c hc=>⟨by
  cases hl:lab c with
  |none=>rfl
  |some r=>have:=T.llt c r hl;have:=(hE c hc).1;omega,(hE c hc).2⟩) kd nd
 exact⟨X',H',f',m',fun c hc=>(d' c hc).imp (fun h=>h) (fun h=>(hE c h).1),o'⟩
theorem Tab.flag {s s':SC} (T:Tab h t lab X.D L) (hS: ∀c,X.M c↔ ∃r,lab c=some r) (hs:L[i]? =some s) (hb:s'.b=s.b) (hk:s'.kept=s.kept∧s'.kp=s.kp∧s'.kc=s.kc) (hn:s'.notes=s.notes∧s'.np=s.np∧s'.nc=s.nc)
  (blk:At h' s') (hsz:h'.size=h.size) (ho: ∀x,x≠s.b→h'[x]? =h[x]?): ∃X',HasB h' t X' ((L.map SC.abs).set i s'.abs) (L.map SC.b)∧StepF X h X' h':=by
 have H:=T.ses i s hs
 have f:Fr (fun x=>x=s.b) h h':=Fr.of_eq hsz ho
 have nk: ∀c,inBlk s.kp c→ ¬c=s.b:=fun c hc e=>by have h1:=H.kl c hc;rw[e,H.lb] at h1;simp at h1
 have nn: ∀c,inBlk s.np c→ ¬c=s.b:=fun c hc e=>by have h1:=H.nl c hc;rw[e,H.lb] at h1;simp at h1
 have nD: ∀c,X.D c→ ¬c=s.b:=fun c hc e=>T.ap c _ (e▸H.lb) hc
 refine T.upd (Q:=fun x=>x=s.b) (E:=fun _=>False) hS hs hb f (fun c e=>⟨_,e▸H.lb,by omega,by omega⟩) blk ?_ ?_ ?_ ?_ ?_ (fun c hc=>hc.elim) ?_ ?_
 ·rw[hk.1,hk.2.1,hk.2.2];exact H.kown.frame f nk
 ·rw[hk.2.1];exact fun c hc=> .inl (H.kl c hc)
 ·rw[hn.1,hn.2.1,hn.2.2];exact H.nown.frame f nn
 ·rw[hn.2.1];exact fun c hc=> .inl (H.nl c hc)
 ·rw[hk.2.1,hn.2.1];exact fun c h1 h2=>by have a:=H.kl c h1;have b:=H.nl c h2;rw[a] at b;simp at b
 ·rw[hk.1];exact fun a ha=>((H.kd a ha).frame f nD).mono (fun c=> .inl)
 ·rw[hn.1];exact fun n hn=>((H.nd n hn).frame f nD).mono (fun c=> .inl)
open Classical in
theorem Tab.add {s:SC} {p:Option Addr} {c0:Nat} {Q:Nat→Prop} (TB:Tab h t lab X.D L) (hS: ∀c,X.M c↔ ∃r,lab c=some r) (f:Fr Q h h') (hq: ∀c,Q c→lab c=some 0∨lab c=some 1)
  (hbt:h'[t]? =some (.cells #[.bool true, .slice p (L.length+1) c0] T.sessions_Table (0,0))) (own:Own h' p (L.length+1) c0 1 (L.map (fun s=> .pointer (some ⟨s.b,0,none⟩))++ [.pointer (some ⟨s.b,0,none⟩)]))
  (hp: ∀x,inBlk p x→lab x=some 1∨h.size≤x) (hpb: ¬inBlk p s.b) (blk:At h' s) (hsb:h.size≤s.b) (hk:s.kept= []∧s.kp=none∧s.kc=0) (hn:s.notes= []∧s.np=none∧s.nc=0):
  ∃X',HasB h' t X' (L.map SC.abs++ [s.abs]) (L.map SC.b++ [s.b])∧StepF X h X' h':=by
 have hsl:=lt_of_get blk
 let lab':Lab:=fun c=>if c=s.b then some (2+3*L.length) else if h.size≤c∧inBlk p c then some 1 else lab c
 have old: ∀c r,lab c=some r→lab' c=some r:=fun c r hr=>by
  have:=TB.llt c r hr
  show(if c=s.b then some (2+3*L.length) else if h.size≤c∧inBlk p c then some 1 else lab c)=some r
  rw[if_neg (fun hh=>by omega),if_neg (fun hh=>by omega)];exact hr
 have new: ∀c r,lab' c=some r→lab c=some r∨(h.size≤c∧(c=s.b∨inBlk p c)):=fun c r hr=>by
  have hr:(if c=s.b then some (2+3*L.length) else if h.size≤c∧inBlk p c then some 1 else lab c)=some r:=hr
  split at hr
  ·rename_i hh;exact .inr ⟨by omega, .inl hh⟩
  ·split at hr
   ·rename_i hh;exact .inr ⟨hh.1, .inr hh.2⟩
   ·exact .inl hr
 have hd: ∀c,X.D c→ ¬Q c:=fun c hc hx=>(hq c hx).elim (fun h1=>TB.ap c _ h1 hc) (fun h1=>TB.ap c _ h1 hc)
 refine⟨⟨fun c=> ∃r,lab' c=some r,X.D⟩,⟨lab',L++ [s],⟨⟨p,c0, ?_, ?_, ?_⟩,old t 0 TB.lt0, ?_, ?_, ?_, ?_⟩, ?_,by rw[List.map_append];rfl,fun c=>Iff.rfl⟩, ?_, ?_,fun c=> .inl,fun c=>id⟩
 ·rw[List.length_append];exact hbt
 ·rw[List.length_append,List.map_append];exact own
 ·intro x hx
  show(if x=s.b then some (2+3*L.length) else if h.size≤x∧inBlk p x then some 1 else lab x)=some 1
  rw[if_neg (fun e:x=s.b=>hpb (e▸hx))]
  rcases hp x hx with h1|h1
  ·have:=TB.llt x _ h1
   rw[if_neg (fun hh=>by omega)];exact h1
  ·rw[if_pos ⟨h1,hx⟩]
 ·intro j sj hj
  by_cases e:j<L.length
  ·rw[List.getElem?_append_left e] at hj
   refine((TB.ses j sj hj).frame f (fun c r hr h1 h2 hx=> ?_) hd).mono old (fun c h=>h)
   rcases hq c hx with h3|h3
   ·rw[hr] at h3;cases h3;omega
   ·rw[hr] at h3;cases h3;omega
  ·rw[List.getElem?_append_right (by omega)] at hj
   have e2:j=L.length:=by
    have:=(List.getElem?_eq_some_iff.1 hj).1;simp at this;omega
   subst e2
   simp at hj
   subst hj
   refine⟨blk, ?_, ?_, ?_, ?_, ?_, ?_, ?_⟩
   ·show(if s.b=s.b then some (2+3*L.length) else _)=_
    rw[if_pos rfl]
   ·rw[hk.1,hk.2.1,hk.2.2];exact .nil rfl rfl rfl rfl
   ·rw[hk.2.1];rintro c ⟨a,e,_⟩;cases e
   ·rw[hn.1,hn.2.1,hn.2.2];exact .nil rfl rfl rfl rfl
   ·rw[hn.2.1];rintro c ⟨a,e,_⟩;cases e
   ·rw[hk.1];intro a ha;cases ha
   ·rw[hn.1];intro a ha;cases ha
 ·intro c r hr
  rcases new c r hr with h1|⟨_,h1|h1⟩
  ·exact Nat.lt_of_lt_of_le (TB.llt c r h1) f.1
  ·omega
  ·exact own.blk_lt h1
 ·intro c h1;exact Nat.lt_of_lt_of_le (TB.dlt c h1) f.1
 ·intro c r hr h1
  rcases new c r hr with h2|⟨h2,_⟩
  ·exact TB.ap c r h2 h1
  ·have:=TB.dlt c h1;omega
 ·rw[List.map_append];rfl
 ·exact f.mono (fun c _ hx=>(hS c).2 ((hq c hx).elim (fun h1=>⟨_,h1⟩) (fun h1=>⟨_,h1⟩)))
 ·rintro c ⟨r,hr⟩
  rcases new c r hr with h2|⟨h2,_⟩
  ·exact .inl ((hS c).2 ⟨r,h2⟩)
  ·exact .inr h2
theorem tA:SlTy Tryz.prog T.s_sessions_Answer T.sessions_Answer 2 32 (.agg #[.int .u64 0, .slice none 0 0]):=⟨by kernel_rfl,by kernel_rfl,rfl⟩
theorem uA:Tryz.prog.underlying T.s_sessions_Answer=some (.slice T.sessions_Answer):=by kernel_rfl
theorem aenc_len (a:AV):a.enc.length=2:=rfl
theorem aenc_one (xs:List AV): ∀v∈xs.flatMap AV.enc,oneCell v=true:=by
 intro v hv
 obtain⟨a,_,ha⟩:=List.mem_flatMap.1 hv
 simp at ha
 rcases ha with rfl|rfl<;>rfl
theorem cloneA_ok {xs:List AV} {n m:Nat} (hr:Row h p (xs.flatMap AV.enc)) (hn:n=xs.length) (hl:xs.length≤1000000000)
  (hk: ∀p' c' h',Own h' p' xs.length c' 2 (xs.flatMap AV.enc)→Fr (fun _=>False) h h'→(∀x,inBlk p' x→h.size≤x)→R (.slice p' xs.length c') h'):
  CallsH Tryz.prog F.slices_Clone_s_sessions_Answer_sessions_Answer #[.slice p n m] h R:=by
 subst hn
 refine slices_Clone_s_sessions_Answer_sessions_Answer.walk ?_
 cases p with
 |none=>
  have:xs= []:=by
   rcases hr with hr|⟨a,e,_⟩
   ·cases xs with
    |nil=>rfl
    |cons b bs=>cases hr
   ·cases e
  subst this
  exact hk none 0 h (.nil rfl rfl rfl rfl) (Fr.refl _ _) (fun x ⟨a,e,_⟩=>by cases e)
 |some a=>
  simp only[Option.isNone_some,Bool.false_eq_true,if_false]
  exact den_clone tA uA hr (flat_len AV.enc 2 aenc_len xs) (aenc_one xs) (by omega) (by omega) fun p' c' h' o f g=>⟨_,_,_,rfl,hk p' c' h' o f g⟩
abbrev IdAt (h:Heap) (b:Nat) (id:Nat):Prop:=h[b]? =some (.cells #[.int .u64 (id:Int)] T.uint64 (0,0))
def idxA (xs:List AV) (id:Nat):Int:=match xs.findIdx? (fun a=>decide (a.id=id)) with|some k=>(k:Int)|none=> -1
theorem keep1_ok {b id:Nat} (a:AV) (hid:IdAt h b id) (hk: ∀h',Fr (fun _=>False) h h'→R (.bool (decide (a.id=id))) h'):CallsH Tryz.prog F.sessions_Table_Keep_1 #[.agg #[.int .u64 (a.id:Int),a.v.val], .pointer (some ⟨b,0,none⟩)] h R:=by
 refine sessions_Table_Keep_1.walk (sessions_Answer.box fun b1 h1 eb hb f1=>⟨_,cell_at hb rfl,_,cell_at (f1.get hid (fun x=>x)) rfl, ?_⟩)
 have e:(((a.id:Nat):Int)==((id:Nat):Int))=decide (a.id=id):=by
  by_cases q:a.id=id
  ·simp[q]
  ·have: ¬((a.id:Nat):Int)=(id:Int):=by omega
   simp[q,this]
 rw[e]
 exact hk h1 f1
theorem idxKeep_ok {xs:List AV} {n m b id:Nat} (hr:Row h p (xs.flatMap AV.enc)) (hn:n=xs.length) (hl:xs.length≤1000000000) (hid:IdAt h b id) (hk: ∀h',Fr (fun _=>False) h h'→R (.int .i64 (idxA xs id)) h'):
  CallsH Tryz.prog F.slices_IndexFunc_s_sessions_Answer_sessions_Answer #[.slice p n m, .func (.func F.sessions_Table_Keep_1) #[] #[.pointer (some ⟨b,0,none⟩)]] h R:=by
 subst hn
 refine slices_IndexFunc_s_sessions_Answer_sessions_Answer.keep.walk ?_
 refine⟨fun i h'=>Fr (fun _=>False) h h'∧ ∃k:Nat,i=(k:Int)∧k≤xs.length∧ ∀j (hj:j<xs.length),j<k→xs[j].id≠id,fun i _=>xs.length - i.toNat,⟨Fr.refl _ _,0,rfl,by omega,fun j _ hj=>by omega⟩, ?_⟩
 rintro _ h1 ⟨f1,k,rfl,hkn,hall⟩
 have hr1:=hr.frame f1 (fun _ _ x=>x)
 have hid1:IdAt h1 b id:=f1.get hid (fun x=>x)
 by_cases hlt:k<xs.length
 ·have q1:(k:Int)<(xs.length:Int):=by omega
  simp only[q1,decide_true,if_true,Int.toNat_natCast]
  have hx:xs[k]? =some xs[k]:=List.getElem?_eq_getElem hlt
  obtain⟨a,rfl⟩:=hr1.some (fun e=>by have:=congrArg List.length e;rw[flat_len AV.enc 2 aenc_len,List.length_nil] at this;omega)
  refine⟨⟨by omega,by first|trivial|omega⟩,onSome_some.2 (sessions_Answer.ldA (hr1.heldAt aenc_len hx) ?_)⟩
  refine keep1_ok xs[k] hid1 fun h2 f2=>⟨_,rfl, ?_⟩
  by_cases e:xs[k].id=id
  ·simp only[e,decide_true,if_true]
   have:idxA xs id=(k:Int):=by
    unfold idxA
    have:xs.findIdx? (fun a=>decide (a.id=id))=some k:=by
     rw[List.findIdx?_eq_some_iff_getElem]
     exact⟨hlt,by simpa using e,fun j hj=>by simpa using hall j (by omega) hj⟩
    rw[this]
   rw[this] at hk
   exact hk h2 (f1.tt f2)
  ·simp only[e,decide_false,Bool.false_eq_true,if_false]
   rw[wrap_id (by omega) (by omega)]
   refine⟨⟨f1.tt f2,k+1,by omega,by omega,fun j hj hjk=> ?_⟩, ?_⟩
   ·by_cases q:j=k
    ·subst q;exact e
    ·exact hall j hj (by omega)
   ·show xs.length - Int.toNat ((k:Int)+1)<xs.length - Int.toNat (k:Int);omega
 ·have q1: ¬(k:Int)<(xs.length:Int):=by omega
  simp only[q1,decide_false,Bool.false_eq_true,if_false]
  have:idxA xs id= -1:=by
   unfold idxA
   have:xs.findIdx? (fun a=>decide (a.id=id))=none:=by
    rw[List.findIdx?_eq_none_iff]
    intro a ha
    obtain⟨j,hj⟩:=List.getElem?_of_mem ha
    have hjl:=(List.getElem?_eq_some_iff.1 hj).1
    rw[List.getElem?_eq_getElem hjl] at hj
    obtain rfl:=Option.some.inj hj
    simpa using hall j hjl (by omega)
   rw[this]
  rw[this] at hk
  exact hk h1 f1
theorem kept1_ok {b id:Nat} (a:AV) (hid:IdAt h b id) (hk: ∀h',Fr (fun _=>False) h h'→R (.bool (decide (a.id=id))) h'):CallsH Tryz.prog F.sessions_Table_Kept_1 #[.agg #[.int .u64 (a.id:Int),a.v.val], .pointer (some ⟨b,0,none⟩)] h R:=by
 refine sessions_Table_Kept_1.walk (sessions_Answer.box fun b1 h1 eb hb f1=>⟨_,cell_at hb rfl,_,cell_at (f1.get hid (fun x=>x)) rfl, ?_⟩)
 have e:(((a.id:Nat):Int)==((id:Nat):Int))=decide (a.id=id):=by
  by_cases q:a.id=id
  ·simp[q]
  ·have: ¬((a.id:Nat):Int)=(id:Int):=by omega
   simp[q,this]
 rw[e]
 exact hk h1 f1
theorem idxKept_ok {xs:List AV} {n m b id:Nat} (hr:Row h p (xs.flatMap AV.enc)) (hn:n=xs.length) (hl:xs.length≤1000000000) (hid:IdAt h b id) (hk: ∀h',Fr (fun _=>False) h h'→R (.int .i64 (idxA xs id)) h'):
  CallsH Tryz.prog F.slices_IndexFunc_s_sessions_Answer_sessions_Answer #[.slice p n m, .func (.func F.sessions_Table_Kept_1) #[] #[.pointer (some ⟨b,0,none⟩)]] h R:=by
 subst hn
 refine slices_IndexFunc_s_sessions_Answer_sessions_Answer.kept.walk ?_
 refine⟨fun i h'=>Fr (fun _=>False) h h'∧ ∃k:Nat,i=(k:Int)∧k≤xs.length∧ ∀j (hj:j<xs.length),j<k→xs[j].id≠id,fun i _=>xs.length - i.toNat,⟨Fr.refl _ _,0,rfl,by omega,fun j _ hj=>by omega⟩, ?_⟩
 rintro _ h1 ⟨f1,k,rfl,hkn,hall⟩
 have hr1:=hr.frame f1 (fun _ _ x=>x)
 have hid1:IdAt h1 b id:=f1.get hid (fun x=>x)
 by_cases hlt:k<xs.length
 ·have q1:(k:Int)<(xs.length:Int):=by omega
  simp only[q1,decide_true,if_true,Int.toNat_natCast]
  have hx:xs[k]? =some xs[k]:=List.getElem?_eq_getElem hlt
  obtain⟨a,rfl⟩:=hr1.some (fun e=>by have:=congrArg List.length e;rw[flat_len AV.enc 2 aenc_len,List.length_nil] at this;omega)
  refine⟨⟨by omega,by first|trivial|omega⟩,onSome_some.2 (sessions_Answer.ldA (hr1.heldAt aenc_len hx) ?_)⟩
  refine kept1_ok xs[k] hid1 fun h2 f2=>⟨_,rfl, ?_⟩
  by_cases e:xs[k].id=id
  ·simp only[e,decide_true,if_true]
   have:idxA xs id=(k:Int):=by
    unfold idxA
    have:xs.findIdx? (fun a=>decide (a.id=id))=some k:=by
     rw[List.findIdx?_eq_some_iff_getElem]
     exact⟨hlt,by simpa using e,fun j hj=>by simpa using hall j (by omega) hj⟩
    rw[this]
   rw[this] at hk
   exact hk h2 (f1.tt f2)
  ·simp only[e,decide_false,Bool.false_eq_true,if_false]
   rw[wrap_id (by omega) (by omega)]
   refine⟨⟨f1.tt f2,k+1,by omega,by omega,fun j hj hjk=> ?_⟩, ?_⟩
   ·by_cases q:j=k
    ·subst q;exact e
    ·exact hall j hj (by omega)
   ·show xs.length - Int.toNat ((k:Int)+1)<xs.length - Int.toNat (k:Int);omega
 ·have q1: ¬(k:Int)<(xs.length:Int):=by omega
  simp only[q1,decide_false,Bool.false_eq_true,if_false]
  have:idxA xs id= -1:=by
   unfold idxA
   have:xs.findIdx? (fun a=>decide (a.id=id))=none:=by
    rw[List.findIdx?_eq_none_iff]
    intro a ha
    obtain⟨j,hj⟩:=List.getElem?_of_mem ha
    have hjl:=(List.getElem?_eq_some_iff.1 hj).1
    rw[List.getElem?_eq_getElem hjl] at hj
    obtain rfl:=Option.some.inj hj
    simpa using hall j hjl (by omega)
   rw[this]
  rw[this] at hk
  exact hk h1 f1
def delI (h0:Heap) (p:Option Addr) (cap b id:Nat) (xs:List AV) (i j:Int) (h:Heap):Prop:=
 ∃(a k:Nat) (zs:List AV),i=(a:Int)∧j=(k:Int)∧a<k∧k≤xs.length∧zs.length=xs.length∧zs.take a=(xs.take k).filter (fun x=>decide (x.id≠id))∧zs.drop k=xs.drop k∧Own h p xs.length cap 2 (zs.flatMap AV.enc)∧Fr (inBlk p) h0 h∧IdAt h b id
theorem del_ok {xs:List AV} {cap b id n:Nat} (own:Own h p xs.length cap 2 (xs.flatMap AV.enc)) (hn:n=xs.length) (hl:xs.length≤1000000000) (hid:IdAt h b id) (hb: ¬inBlk p b)
  (hk: ∀h',Own h' p (xs.filter (fun x=>decide (x.id≠id))).length cap 2 ((xs.filter (fun x=>decide (x.id≠id))).flatMap AV.enc)→Fr (inBlk p) h h'→IdAt h' b id→R (.slice p (xs.filter (fun x=>decide (x.id≠id))).length cap) h'):
  CallsH Tryz.prog F.slices_DeleteFunc_s_sessions_Answer_sessions_Answer #[.slice p n cap, .func (.func F.sessions_Table_Keep_1) #[] #[.pointer (some ⟨b,0,none⟩)]] h R:=by
 subst hn
 refine slices_DeleteFunc_s_sessions_Answer_sessions_Answer.keep.walk (idxKeep_ok own.row' rfl hl hid fun h1 f1=>⟨_,rfl, ?_⟩)
 have own1:=own.frame f1 (fun _ _ x=>x)
 have hid1:IdAt h1 b id:=f1.get hid (fun x=>x)
 have F1:Fr (inBlk p) h h1:=f1.mono (fun _ _=>False.elim)
 unfold idxA
 cases hf:xs.findIdx? (fun a=>decide (a.id=id)) with
 |none=>
  rw[if_pos (by rfl)]
  have hall:xs.filter (fun x=>decide (x.id≠id))=xs:=by
   rw[List.filter_eq_self]
   intro a ha
   have:=List.findIdx?_eq_none_iff.1 hf a ha
   simpa using this
  rw[hall] at hk
  exact hk h1 own1 F1 hid1
 |some k=>
  dsimp only
  rw[if_neg (by simp only[beq_iff_eq];omega)]
  obtain⟨hkl,hke,hkb⟩:=List.findIdx?_eq_some_iff_getElem.1 hf
  rw[wrap_id (by omega) (by omega)]
  have hpre:(xs.take (k+1)).filter (fun x=>decide (x.id≠id))=xs.take k:=by
   rw[List.take_add_one,List.getElem?_eq_getElem hkl,List.filter_append]
   have e1:(xs.take k).filter (fun x=>decide (x.id≠id))=xs.take k:=by
    rw[List.filter_eq_self]
    intro a ha
    obtain⟨j,hj⟩:=List.getElem?_of_mem ha
    rw[List.getElem?_take] at hj
    split at hj
    ·rename_i hjk
     have hjl:j<xs.length:=by omega
     rw[List.getElem?_eq_getElem hjl] at hj
     obtain rfl:=Option.some.inj hj
     simpa using hkb j hjk
    ·cases hj
   have e2: [xs[k]].filter (fun x=>decide (x.id≠id))= []:=by
    simp at hke;simp[hke]
   rw[e1]
   show xs.take k++ [xs[k]].filter (fun x=>decide (x.id≠id))=_
   rw[e2,List.append_nil]
  refine⟨delI h p cap b id xs,fun _ j _=>xs.length - j.toNat,⟨k,k+1,xs,rfl,by omega,by omega,by omega,rfl,hpre.symm,rfl,own1,F1,hid1⟩, ?_⟩
  clear own1 hid1 F1 f1 hpre hkb hke hkl hf
  rintro _ _ h2 ⟨a,j,zs,rfl,rfl,haj,hjn,hzl,hz1,hz2,own2,F2,hid2⟩
  by_cases hjl:j<xs.length
  ·have q1:(j:Int)<(xs.length:Int):=by omega
   simp only[q1,decide_true,if_true,Int.toNat_natCast]
   have hxj:xs[j]? =some xs[j]:=List.getElem?_eq_getElem hjl
   have hzj:zs[j]? =some xs[j]:=by
    have:=congrArg (·[0]?) hz2
    simpa[hxj] using this
   have e3:(xs.take (j+1)).filter (fun x=>decide (x.id≠id))=(xs.take j).filter (fun x=>decide (x.id≠id))++if xs[j].id=id then [] else [xs[j]]:=by
    rw[List.take_add_one,hxj,List.filter_append]
    congr 1
    by_cases e:xs[j].id=id<;>simp[e]
   generalize xs[j]=x at*
   obtain⟨ab,aoff,rfl⟩:=own2.addr (by omega)
   refine JoinP.of fun J hJ=>⟨⟨by omega,by first|trivial|omega⟩,onSome_some.2 (sessions_Answer.ldA (own2.heldAt aenc_len hzj) (sessions_Answer.new fun b6 h6 eb6 hb6 f6=>sessions_Answer.ld hb6 ?_))⟩
   have hid6:IdAt h6 b id:=f6.get hid2 (fun x=>x)
   refine keep1_ok x hid6 fun h7 f7=>⟨_,rfl, ?_⟩
   have f27:=f6.tt f7
   have own7:=own2.frame f27 (fun _ _ x=>x)
   have hid7:IdAt h7 b id:=f7.get hid6 (fun x=>x)
   have F7:=F2.on f27
   refine JoinP.of fun J1 hJ1=> ?_
   subst hJ1
   by_cases e:x.id=id
   ·simp only[e,decide_true,Bool.not_true,Bool.false_eq_true,if_false]
    subst hJ
    rw[wrap_id (by omega) (by omega)]
    rw[if_pos e,List.append_nil] at e3
    refine⟨⟨a,j+1,zs,rfl,by omega,by omega,by omega,hzl,by rw[e3];exact hz1, ?_,own7,F7,hid7⟩, ?_⟩
    ·have:=congrArg (List.drop 1) hz2;rw[List.drop_drop,List.drop_drop] at this;exact this
    ·show xs.length - Int.toNat ((j:Int)+1)<xs.length - Int.toNat (j:Int);omega
   ·simp only[e,decide_false,Bool.not_false,if_true]
    have hb7:=f7.get hb6 (fun x=>x)
    rw[if_neg e] at e3
    refine sessions_Answer.ld hb7 ⟨⟨by omega,by first|trivial|omega⟩,onSome_some.2 ?_⟩
    have hal:a<zs.length:=by omega
    have hfl:=flat_len AV.enc 2 aenc_len zs
    refine own7.store (by rw[hfl];omega) fun h9 own9 s9 o9=> ?_
    rw[add_add]
    refine own9.store (by rw[List.length_set,hfl];omega) fun h10 own10 s10 o10=> ?_
    rw[flat_set2 aenc_len hal rfl] at own10
    subst hJ
    rw[wrap_id (by omega) (by omega),wrap_id (by omega) (by omega)]
    have f10:Fr (inBlk (some ⟨ab,aoff,none⟩)) h7 h10:=(Fr.of_eq s9 o9).tt (Fr.of_eq s10 o10)
    refine⟨⟨a+1,j+1,zs.set a x,by omega,by omega,by omega,by omega,by rw[List.length_set];exact hzl, ?_, ?_,own10,F7.tt f10,f10.get hid7 hb⟩, ?_⟩
    ·rw[e3,←hz1,List.take_add_one,List.getElem?_set,if_pos rfl,if_pos hal,List.take_set_of_le (Nat.le_refl a)];rfl
    ·rw[List.drop_set_of_lt (by omega)]
     have:=congrArg (List.drop 1) hz2;rw[List.drop_drop,List.drop_drop] at this;exact this
    ·show xs.length - Int.toNat ((j:Int)+1)<xs.length - Int.toNat (j:Int);omega
  ·have q1: ¬(j:Int)<(xs.length:Int):=by omega
   simp only[q1,decide_false,Bool.false_eq_true,if_false]
   obtain rfl:j=xs.length:=by omega
   rw[List.take_length] at hz1
   have hlen:(xs.filter (fun x=>decide (x.id≠id))).length=a:=by rw[←hz1,List.length_take];omega
   refine⟨⟨by omega,by omega⟩, ?_⟩
   simp only[Int.toNat_natCast]
   refine den_clear tA (by intro v hv;simp[Value.cells] at hv;rcases hv with rfl|rfl<;>rfl) own2 (by omega) fun h3 own3 f3=>⟨rfl,⟨by omega,by have:=own.le;omega⟩, ?_⟩
   rw[flat_take AV.enc 2 aenc_len,hz1] at own3
   rw[slBase_zero,Nat.sub_zero,Nat.sub_zero]
   rw[hlen] at hk
   exact hk h3 own3 (F2.tt f3) (f3.get hid2 hb)
end Ses
end Go.Proofs.YtgccegnmggjkjaaGreatDoor
set_option maxRecDepth 100000
namespace Go.Proofs.YtgccegnmggjkjaaGreatDoor
namespace Ses
structure okS (i:Nat) (s:Ses):Prop where
 num:s.num=i+1
 tk:1≤s.token∧s.token≤2147483648
 kl:s.kept.length≤6
 nl:s.notes.length≤6
 kd: ∀a∈s.kept,a.1≤1099511627776∧a.2.length≤1000
 nd: ∀n∈s.notes,1≤n.length∧n.length≤600
 ki:(s.kept.map (·.1)).Nodup
structure okA (A:List Ses):Prop where
 le:A.length≤8
 at_: ∀i s,A[i]? =some s→okS i s
 tk:(A.map (·.token)).Nodup
def getA (A:List Ses) (num:Int):Option Ses:=if 1≤num then A[(num - 1).toNat]? else none
theorem getA_some {A:List Ses} {num:Int} {s:Ses} (h:getA A num=some s): ∃i:Nat,num=(i:Int)+1∧A[i]? =some s:=by
 unfold getA at h
 split at h
 ·exact⟨(num - 1).toNat,by omega,h⟩
 ·cases h
theorem getA_at {A:List Ses} {i:Nat} :getA A ((i:Int)+1)=A[i]? :=by
 unfold getA
 rw[if_pos (by omega),show((i:Int)+1 - 1).toNat=i by omega]
theorem getA_none {A:List Ses} {num:Int} (h:num<1∨num>(A.length:Int)):getA A num=none:=by
 unfold getA
 split
 ·rw[List.getElem?_eq_none (by omega)]
 ·rfl
def setA (A:List Ses) (num:Int) (s:Ses):List Ses:=A.set (num - 1).toNat s
def hasTk (A:List Ses) (token:Nat):Bool:=A.any fun s=>decide (s.token=token)
def openE (A:List Ses) (token:Nat):Int:=if token<1∨token>2147483648 then 1 else if hasTk A token=true then 12 else if A.length≥8 then 5 else 0
def openN (A:List Ses) (token:Nat):Int:=if openE A token=0 then(A.length:Int)+1 else 0
def openA (A:List Ses) (token:Nat):List Ses:=if openE A token=0 then A++ [⟨A.length+1,token,true,false, [], []⟩] else A
def downE (A:List Ses) (num:Int):Int:=match getA A num with|none=>4|some s=>if s.up=true then 0 else 7
def keepL (k:List (Nat×List UInt8)) (id:Nat) (d:List UInt8):List (Nat×List UInt8):=
 if(k.filter (fun a=>decide (a.1≠id))++ [(id,d)]).length>6 then(k.filter (fun a=>decide (a.1≠id))++ [(id,d)]).drop 1 else k.filter (fun a=>decide (a.1≠id))++ [(id,d)]
def keepE (A:List Ses) (num:Int) (id:Nat) (d:List UInt8):Int:=match getA A num with|none=>4|some _=>if id>1099511627776∨d.length>1000 then 1 else 0
def keepA (A:List Ses) (num:Int) (id:Nat) (d:List UInt8):List Ses:=match getA A num with|none=>A|some s=>if id>1099511627776∨d.length>1000 then A else setA A num { s with kept:=keepL s.kept id d }
def keptL (k:List (Nat×List UInt8)) (id:Nat):Option (List UInt8):=(k.find? (fun a=>decide (a.1=id))).map (·.2)
def keptA (A:List Ses) (num:Int) (id:Nat):Option (List UInt8):=match getA A num with|none=>none|some s=>keptL s.kept id
def isNoteB (d:List UInt8):Bool:=decide (1≤d.length∧d.length≤600)
theorem okA.set {A:List Ses} {i:Nat} {s s':Ses} (ok:okA A) (hs:A[i]? =some s) (ht:s'.token=s.token) (h':okS i s'):okA (A.set i s'):=by
 have hi:=(List.getElem?_eq_some_iff.1 hs).1
 refine⟨by rw[List.length_set];exact ok.le,fun j u hj=> ?_, ?_⟩
 ·rw[List.getElem?_set] at hj
  by_cases e:i=j
  ·subst e
   rw[if_pos rfl,if_pos hi] at hj
   obtain rfl:=Option.some.inj hj
   exact h'
  ·rw[if_neg e] at hj
   exact ok.at_ j u hj
 ·rw[List.map_set,ht,set_same (by rw[List.getElem?_map,hs];rfl)]
  exact ok.tk
theorem okA.setA {A:List Ses} {num:Int} {s s':Ses} (ok:okA A) (hs:getA A num=some s) (ht:s'.token=s.token) (h': ∀i,okS i s→okS i s'):okA (setA A num s'):=by
 obtain⟨i,rfl,hi⟩:=getA_some hs
 unfold Ses.setA
 rw[show((i:Int)+1 - 1).toNat=i by omega]
 exact ok.set hi ht (h' i (ok.at_ i s hi))
theorem okA.open {A:List Ses} (ok:okA A) (token:Nat):okA (openA A token):=by
 unfold openA
 split
 ·rename_i he
  unfold openE at he
  split at he
  ·cases he
  rename_i h1
  split at he
  ·cases he
  rename_i h2
  split at he
  ·cases he
  rename_i h3
  refine⟨by rw[List.length_append,List.length_singleton];omega,fun j u hj=> ?_, ?_⟩
  ·by_cases e:j<A.length
   ·rw[List.getElem?_append_left e] at hj;exact ok.at_ j u hj
   ·rw[List.getElem?_append_right (by omega)] at hj
    have e2:j=A.length:=by
     have:=(List.getElem?_eq_some_iff.1 hj).1;simp at this;omega
    subst e2
    simp at hj;subst hj
    exact⟨rfl,by show 1≤token∧token≤2147483648;omega,by simp,by simp,by simp,by simp,by simp⟩
  ·rw[List.map_append,List.nodup_append]
   refine⟨ok.tk,by simp,fun a ha b hb e=> ?_⟩
   simp at hb;subst hb;subst e
   apply h2
   unfold hasTk
   rw[List.any_eq_true]
   obtain⟨s,hs,e⟩:=List.mem_map.1 ha
   exact⟨s,hs,by simpa using e⟩
 ·exact ok
theorem keepL_ok {k:List (Nat×List UInt8)} {id:Nat} {d:List UInt8} (hk:k.length≤6) (hkd: ∀a∈k,a.1≤1099511627776∧a.2.length≤1000) (hki:(k.map (·.1)).Nodup) (h1:id≤1099511627776) (h2:d.length≤1000):
  (keepL k id d).length≤6∧(∀a∈keepL k id d,a.1≤1099511627776∧a.2.length≤1000)∧((keepL k id d).map (·.1)).Nodup:=by
 have hlen:(k.filter (fun a=>decide (a.1≠id))++ [(id,d)]).length≤7:=by
  have:=List.length_filter_le (fun a=>decide (a.1≠id)) k
  rw[List.length_append,List.length_singleton];omega
 have hall: ∀a∈k.filter (fun a=>decide (a.1≠id))++ [(id,d)],a.1≤1099511627776∧a.2.length≤1000:=by
  intro a ha
  rcases List.mem_append.1 ha with ha|ha
  ·exact hkd a (List.mem_filter.1 ha).1
  ·simp at ha;subst ha;exact⟨h1,h2⟩
 have hnd:((k.filter (fun a=>decide (a.1≠id))++ [(id,d)]).map (·.1)).Nodup:=by
  rw[List.map_append,List.nodup_append]
  refine⟨(List.filter_sublist.map _).nodup hki,by simp,fun a ha b hb e=> ?_⟩
  simp at hb;subst hb;subst e
  obtain⟨x,hx,e⟩:=List.mem_map.1 ha
  have:=(List.mem_filter.1 hx).2
  simp at this;exact this e
 unfold keepL
 split
 ·refine⟨by rw[List.length_drop];omega,fun a ha=>hall a (List.mem_of_mem_drop ha), ?_⟩
  rw[List.map_drop]
  exact(List.drop_sublist _ _).nodup hnd
 ·exact⟨by omega,hall,hnd⟩
theorem okA.keep {A:List Ses} (ok:okA A) (num:Int) (id:Nat) (d:List UInt8):okA (keepA A num id d):=by
 unfold keepA
 split
 ·exact ok
 ·rename_i s hs
  split
  ·exact ok
  ·rename_i hh
   refine ok.setA hs rfl fun i o=> ?_
   obtain⟨k1,k2,k3⟩:=keepL_ok (id:=id) (d:=d) o.kl o.kd o.ki (by omega) (by omega)
   exact⟨o.num,o.tk,k1,o.nl,k2,o.nd,k3⟩
theorem okA.nil:okA []:=⟨by simp,by simp,by simp⟩
end Ses
end Go.Proofs.YtgccegnmggjkjaaGreatDoor
set_option maxRecDepth 100000
namespace Go.Proofs.YtgccegnmggjkjaaGreatDoor
open Go.Den Go.Fields
namespace Ses
open Fld
variable {h h' h0 : Heap} {t : Nat} {X : Ft} {R : Value → Heap → Prop} {p q : Option Addr} {c d i : Nat} {lab : Lab} {D : Nat → Prop} {L : List SC} {A : List Ses}
theorem tP:SlTy Tryz.prog T.s_p_sessions_Session T.p_sessions_Session 1 8 (.pointer none):=⟨by kernel_rfl,by kernel_rfl,rfl⟩
theorem uP:Tryz.prog.underlying T.s_p_sessions_Session=some (.slice T.p_sessions_Session):=by kernel_rfl
theorem new_ok (hk: ∀h' t X,Has h' t X []→Fr (fun _=>False) h h'→(∀x,X.M x∨X.D x→h.size≤x)→R (.pointer (some ⟨t,0,none⟩)) h'):CallsH Tryz.prog F.sessions_New #[] h R:=by
 refine sessions_New.walk (newP_of ?_)
 refine hk _ _ ⟨fun x=>x=h.size,fun _=>False⟩ ⟨[],fun x=>if x=h.size then some 0 else none, [],⟨⟨none,0,push_new, .nil rfl rfl rfl rfl,fun x ⟨a,e,_⟩=>by cases e⟩,by simp,fun i s hs=>by simp at hs, ?_,fun _ h=>h.elim,fun _ _ _ h=>h⟩,rfl,rfl, ?_⟩ (Fr.push _ _) (fun x hx=>hx.elim (fun e=>by have e:x=h.size:=e;omega) False.elim)
 ·intro x r hr
  split at hr
  ·rename_i e;rw[Array.size_push];omega
  ·cases hr
 ·intro x
  constructor
  ·intro e
   have e:x=h.size:=e
   exact⟨0,by simp[e]⟩
  ·rintro⟨r,hr⟩
   dsimp only at hr
   split at hr
   ·assumption
   ·cases hr
theorem find_ok {num:Int} (TB:Tab h t lab D L) (k1: ∀i s,num=((i:Nat):Int)+1→L[i]? =some s→R (.tuple #[.pointer (some ⟨s.b,0,none⟩), .int .i64 0]) h) (k2:(num<1∨num>(L.length:Int))→R (.tuple #[.pointer none, .int .i64 4]) h) (hl:L.length≤1000000):
  CallsH Tryz.prog F.sessions_Table_find #[.pointer (some ⟨t,0,none⟩), .int .i64 num] h R:=by
 obtain⟨p,c,hb,own,hp⟩:=TB.blk
 refine sessions_Table_find.walk (JoinP.of fun J hJ=>⟨true,cell_at hb rfl, ?_⟩)
 subst hJ
 simp only[Bool.not_true,Bool.false_eq_true,if_false]
 refine JoinP.of fun J hJ=> ?_
 by_cases h1:num<1
 ·simp only[h1,decide_true,if_true]
  subst hJ
  simp only[if_true]
  exact k2 (.inl h1)
 ·simp only[h1,decide_false,Bool.false_eq_true,if_false]
  refine⟨_,_,_,cell_at hb rfl, ?_⟩
  by_cases h2:num>(L.length:Int)
  ·simp only[h2,decide_true]
   subst hJ
   simp only[if_true]
   exact k2 (.inr h2)
  ·simp only[h2,decide_false]
   subst hJ
   simp only[Bool.false_eq_true,if_false]
   obtain⟨i,rfl⟩: ∃i:Nat,num=(i:Int)+1:=⟨(num - 1).toNat,by omega⟩
   have hil:i<L.length:=by omega
   have hs:L[i]? =some L[i]:=List.getElem?_eq_getElem hil
   obtain⟨ab,aoff,rfl⟩:=own.addr (by omega)
   have e:IntKind.wrap .i64 ((i:Int)+1 - 1)=(i:Int):=by rw[wrap_id (by omega) (by omega)];omega
   rw[e]
   refine⟨_,_,_,cell_at hb rfl,⟨by omega,by omega⟩,onSome_some.2 ⟨_, ?_,k1 i _ rfl hs⟩⟩
   rw[Int.toNat_natCast,Nat.mul_one]
   exact own.cell (by rw[List.getElem?_map,hs];rfl)
theorem of_ok {k:Int} (token:Nat) (hk0:k=(token:Int)) (TB:Tab h t lab D L) (hl:L.length≤1000000) (k1: ∀i s,L[i]? =some s→s.token=token→L.findIdx? (fun s=>decide (s.token=token))=some i→R (.pointer (some ⟨s.b,0,none⟩)) h)
  (k2:L.findIdx? (fun s=>decide (s.token=token))=none→R (.pointer none) h):CallsH Tryz.prog F.sessions_Table_of #[.pointer (some ⟨t,0,none⟩), .int .u64 k] h R:=by
 subst hk0
 obtain⟨p,c,hb,own,hp⟩:=TB.blk
 refine sessions_Table_of.walk ⟨_,_,_,cell_at hb rfl, ?_⟩
 refine⟨fun i h'=>h'=h∧ ∃k:Nat,i=(k:Int)∧k≤L.length∧ ∀j (hj:j<L.length),j<k→L[j].token≠token,fun i _=>L.length - i.toNat,⟨rfl,0,rfl,by omega,fun j _ hj=>by omega⟩, ?_⟩
 rintro _ h1 ⟨rfl,k,rfl,hkn,hall⟩
 by_cases hlt:k<L.length
 ·have q1:(k:Int)<(L.length:Int):=by omega
  simp only[q1,decide_true,if_true,Int.toNat_natCast]
  have hs:L[k]? =some L[k]:=List.getElem?_eq_getElem hlt
  obtain⟨ab,aoff,rfl⟩:=own.addr (by omega)
  have hat:=(TB.ses k _ hs).blk
  refine⟨⟨by omega,by first|trivial|omega⟩,onSome_some.2 ⟨some ⟨L[k].b,0,none⟩, ?_,onSome_some.2 ⟨_,cell_at hat rfl, ?_⟩⟩⟩
  ·rw[Nat.mul_one];exact own.cell (by rw[List.getElem?_map,hs];rfl)
  by_cases e:L[k].token=token
  ·rw[if_pos (by rw[e];simp)]
   refine k1 k _ hs e ?_
   rw[List.findIdx?_eq_some_iff_getElem]
   exact⟨hlt,by simpa using e,fun j hj=>by simpa using hall j (by omega) hj⟩
  ·rw[if_neg (by simp only[beq_iff_eq];omega)]
   rw[wrap_id (by omega) (by omega)]
   refine⟨⟨trivial,k+1,by omega,by omega,fun j hj hjk=> ?_⟩, ?_⟩
   ·by_cases q:j=k
    ·subst q;exact e
    ·exact hall j hj (by omega)
   ·show L.length - Int.toNat ((k:Int)+1)<L.length - Int.toNat (k:Int);omega
 ·have q1: ¬(k:Int)<(L.length:Int):=by omega
  simp only[q1,decide_false,Bool.false_eq_true,if_false]
  refine k2 ?_
  rw[List.findIdx?_eq_none_iff]
  intro a ha
  obtain⟨j,hj⟩:=List.getElem?_of_mem ha
  have hjl:=(List.getElem?_eq_some_iff.1 hj).1
  rw[List.getElem?_eq_getElem hjl] at hj
  obtain rfl:=Option.some.inj hj
  simpa using hall j hjl (by omega)
theorem abs_at {s:SC} (hs:L[i]? =some s):(L.map SC.abs)[i]? =some s.abs:=by rw[List.getElem?_map,hs];rfl
theorem open_ok {k:Int} (token:Nat) (hk0:k=(token:Int)) (H:Has h t X A) (ok:okA A) (hk: ∀h' X',Has h' t X' (openA A token)→StepF X h X' h'→R (.tuple #[.int .i64 (openN A token), .int .i64 (openE A token)]) h'):
  CallsH Tryz.prog F.sessions_Table_Open #[.pointer (some ⟨t,0,none⟩), .int .u64 k] h R:=by
 subst hk0
 have H0:=H
 obtain⟨_,lab,L,TB,rfl,_,hS⟩:=H
 have hl:=ok.le
 rw[List.length_map] at hl
 obtain⟨p,c,hb,own,hp⟩:=TB.blk
 refine sessions_Table_Open.walk (JoinP.of fun J hJ=>⟨true,cell_at hb rfl, ?_⟩)
 subst hJ
 simp only[Bool.not_true,Bool.false_eq_true,if_false]
 refine JoinP.of fun J hJ=> ?_
 unfold openN openA at hk
 have jt:(token<1∨token>2147483648)→J true h:=by
  intro hh
  subst hJ
  simp only[if_true]
  have e:openE (L.map SC.abs) token=1:=by unfold openE;rw[if_pos hh]
  rw[e] at hk
  exact hk h X H0 (StepF.refl _ _)
 have jf: ¬(token<1∨token>2147483648)→J false h:=by
  intro hh
  subst hJ
  simp only[Bool.false_eq_true,if_false]
  refine of_ok token rfl TB (by omega) (fun i s hs ht hf=>⟨_,rfl, ?_⟩) (fun hf=>⟨_,rfl, ?_⟩)
  ·simp only[Option.isNone_some,Bool.not_false,if_true]
   have e:openE (L.map SC.abs) token=12:=by
    unfold openE
    rw[if_neg hh,if_pos]
    unfold hasTk
    rw[List.any_eq_true]
    exact⟨s.abs,List.mem_map_of_mem (List.mem_of_getElem? hs),by simp[SC.abs,ht]⟩
   rw[e] at hk
   exact hk h X H0 (StepF.refl _ _)
  ·simp only[Option.isNone_none,Bool.not_true,Bool.false_eq_true,if_false]
   have hno: ¬hasTk (L.map SC.abs) token=true:=by
    unfold hasTk
    rw[List.any_eq_true]
    rintro⟨x,hx,e⟩
    obtain⟨s,hs,rfl⟩:=List.mem_map.1 hx
    have:=List.findIdx?_eq_none_iff.1 hf s hs
    rw[show s.abs.token=s.token from rfl] at e
    rw[e] at this;cases this
   refine⟨_,_,_,cell_at hb rfl, ?_⟩
   by_cases h8:(L.length:Int)≥8
   ·simp only[h8,decide_true,if_true]
    have e:openE (L.map SC.abs) token=5:=by
     unfold openE
     rw[if_neg hh,if_neg hno,if_pos (by rw[List.length_map];omega)]
    rw[e] at hk
    exact hk h X H0 (StepF.refl _ _)
   ·simp only[h8,decide_false,Bool.false_eq_true,if_false]
    have e:openE (L.map SC.abs) token=0:=by
     unfold openE
     rw[if_neg hh,if_neg hno,if_neg (by rw[List.length_map];omega)]
    rw[e] at hk
    simp only[if_true] at hk
    refine⟨_,_,_,cell_at hb rfl, ?_⟩
    rw[wrap_id (n:=(L.length:Int)+1) (by omega) (by omega)]
    refine sessions_Session.box fun b h4 eb hb4 f4=> ?_
    have own4:=own.frame f4 (fun _ _=>id)
    refine⟨_,_,_,cell_at (f4.get hb id) rfl, ?_⟩
    refine den_append1 tP uP own4 rfl (fun v hv=>by simp at hv;subst hv;rfl) (by omega) (by omega) ?_
    intro p' c' h6 o6 f6 g6
    refine⟨_,_,_,rfl, ?_⟩
    have hbl:=lt_of_get hb
    have npt: ¬inBlk p t:=fun hx=>by have:=hp t hx;rw[TB.lt0] at this;cases this
    have hb6:=f6.get (f4.get hb id) npt
    have npb: ¬inBlk p b:=fun hx=>by have:=own.blk_lt hx;omega
    have hs6:=f6.get hb4 npb
    refine storeP_blk hb6 (by simp) fun h7 k1 k2 k3=> ?_
    have f7:Fr (fun x=>x=t) h6 h7:=Fr.of_eq k2 k3
    have ntb: ¬b=t:=fun e=>by omega
    have hs7:=f7.get hs6 ntb
    refine⟨_,cell_at hs7 rfl, ?_⟩
    have F:Fr (fun x=>x=t∨inBlk p x) h h7:=(f4.mono (fun _ _=>False.elim)).tt ((f6.mono (fun _ _ hx=> .inr hx)).tt (f7.mono (fun _ _ hx=> .inl hx)))
    have np't: ¬inBlk p' t:=fun hx=>(g6 t hx).elim npt (fun h2=>by have:=lt_of_get (f4.get hb id);omega)
    have a1: ∀x,x=t∨inBlk p x→lab x=some 0∨lab x=some 1:=by
     rintro x (rfl|hx)
     ·exact .inl TB.lt0
     ·exact .inr (hp x hx)
    have a2: ∀x,inBlk p' x→lab x=some 1∨h.size≤x:=by
     intro x hx
     rcases g6 x hx with h2|h2
     ·exact .inl (hp x h2)
     ·have:=f4.1;exact .inr (by omega)
    have a3: ¬inBlk p' b:=by
     intro hx
     rcases g6 b hx with h2|h2
     ·exact npb h2
     ·have:=lt_of_get hb4;omega
    obtain⟨X',HH,st⟩:=TB.add (s:=⟨b,L.length+1,token,true,false, [],none,0, [],none,0⟩) (p:=p') (c0:=c') hS F a1 k1 (o6.frame f7 (fun x hx e=>np't (e▸hx))) a2 a3 hs7 (by show h.size≤b;omega) ⟨rfl,rfl,rfl⟩ ⟨rfl,rfl,rfl⟩
    have:=hk h7 X' (by rw[List.length_map];exact⟨_,HH⟩) st
    rw[List.length_map] at this
    exact this
 clear hJ
 by_cases h1:token<1
 ·have:(token:Int)<1:=by omega
  simp only[this,decide_true,if_true]
  exact jt (.inl h1)
 ·have: ¬(token:Int)<1:=by omega
  simp only[this,decide_false,Bool.false_eq_true,if_false]
  by_cases h2:token>2147483648
  ·have:(token:Int)>2147483648:=by omega
   simp only[this,decide_true]
   exact jt (.inr h2)
  ·have: ¬(token:Int)>2147483648:=by omega
   simp only[this,decide_false]
   exact jf (by omega)
end Ses
end Go.Proofs.YtgccegnmggjkjaaGreatDoor
set_option maxRecDepth 100000
namespace Go.Proofs.YtgccegnmggjkjaaGreatDoor
open Go.Den Go.Fields Go.Heapq
namespace Obx
open Fld
variable {h h' h0 : Heap} {b : Nat} {X : Ft} {R : Value → Heap → Prop} {p q : Option Addr} {c d i : Nat} {L : List E} {s : BS}
def Box (h:Heap) (b:Nat) (X:Ft) (s:BS):Prop:= ∃L,Bx h b X s L∧okB s L
theorem Box.frame {Q:Nat→Prop} (H:Box h b X s) (f:Fr Q h h') (hq: ∀y,X.M y∨X.D y→ ¬Q y):Box h' b X s:=by
 obtain⟨L,H,ok⟩:=H
 exact⟨L,H.frame f hq,ok⟩
theorem Box.on (H:Box h b X s) (f:Fr (fun _=>False) h h'):Box h' b X s:=H.frame f (fun _ _=>id)
theorem Box.lt (H:Box h b X s) (y:Nat) (hy:X.M y∨X.D y):y<h.size:=by
 obtain⟨L,H,ok⟩:=H
 exact H.lt y hy
theorem Mm.okL {lp:Option Addr} {lc a:Nat} {xs:List IV} {S:Nat→Prop} (H:Mm h b X s L lp lc xs a S) (ok:okB s L):L.length<1000∧xs.length≤16:=by
 have h1:=ok.pm.length_eq
 rw[List.length_map] at h1
 have:=ok.le
 have:=H.len
 omega
def addE (s:BS) (owner:Int) (d:List UInt8) (till:Nat):Int:=if rightB owner d.length (till:Int)=true then(if s.items.length≥16 then 15 else 0) else 1
def addN (s:BS) (owner:Int) (d:List UInt8) (till:Nat):Int:=if addE s owner d till=0 then(s.next:Int) else 0
def addS (s:BS) (owner:Int) (d:List UInt8) (till:Nat):BS:=if addE s owner d till=0 then { s with items:=s.items++ [⟨s.next,owner,d,till⟩],next:=s.next+1 } else s
theorem add_ok {owner k:Int} {bs:List UInt8} {n m:Nat} (till:Nat) (hk0:k=(till:Int)) (H:Box h b X s) (hr:Row h p (bc bs)) (hn:n=bs.length) (hl:bs.length≤1000000) (hnx:s.next≤1000000000)
  (hk: ∀h' X',Box h' b X' (addS s owner bs till)→StepF X h X' h'→R (.tuple #[.int .i64 (addN s owner bs till), .int .i64 (addE s owner bs till)]) h'):
  CallsH Tryz.prog F.outbox_Box_Add #[.pointer (some ⟨b,0,none⟩), .int .i64 owner, .slice p n m, .int .u64 k] h R:=by
 subst hk0;subst hn
 obtain⟨L,⟨lp,lc,xs,a,S,H⟩,ok⟩:=H
 obtain⟨hL,hxl⟩:=H.okL ok
 have hlen:=H.len
 refine outbox_Box_Add.walk (made_ok H ⟨_,rfl, ?_⟩)
 simp only[Bool.not_true,Bool.false_eq_true,if_false]
 refine⟨_,cell_at H.blk rfl,copied_ok hr rfl (by omega) fun h2 p2 c2 o2 f2 g2=>⟨_,_,_,_,_,_,rfl, ?_⟩⟩
 refine outbox_Item.new fun b1 h7 eb1 hb1 f7=>outbox_Item.ld hb1 (right_ok fun h8 f8=>⟨_,rfl, ?_⟩)
 have F8:Fr (fun _=>False) h h8:=f2.tt (f7.tt f8)
 have H8:=H.on F8
 have z2:=f2.1
 have z7:=f7.1
 have z8:=f8.1
 have l1:=lt_of_get hb1
 unfold addS addN at hk
 cases hrt:rightB owner bs.length (till:Int) with
 |false=>
  have e:addE s owner bs till=1:=by unfold addE;rw[hrt];rfl
  rw[e] at hk
  simp only[Bool.not_false,if_true]
  exact hk h8 X ⟨L,⟨lp,lc,xs,a,S,H8⟩,ok⟩ (StepF.of_no F8)
 |true=>
  simp only[Bool.not_true,Bool.false_eq_true,if_false]
  refine⟨_,_,_,cell_at H8.blk rfl, ?_⟩
  by_cases hfull:s.items.length≥16
  ·have q:((xs.length:Nat):Int)≥16:=by omega
   have e:addE s owner bs till=15:=by unfold addE;rw[hrt,if_pos rfl,if_pos hfull]
   rw[e] at hk
   simp only[q,decide_true,if_true]
   exact hk h8 X ⟨L,⟨lp,lc,xs,a,S,H8⟩,ok⟩ (StepF.of_no F8)
  ·have q: ¬((xs.length:Nat):Int)≥16:=by omega
   have e:addE s owner bs till=0:=by unfold addE;rw[hrt,if_pos rfl,if_neg hfull]
   rw[e] at hk
   simp only[if_true] at hk
   simp only[q,decide_false,Bool.false_eq_true,if_false]
   have hb8:outbox_Item.at h8 b1 (s.next:Int) owner p2 bs.length c2 (till:Int):=f8.get hb1 id
   refine⟨_,_,_,cell_at H8.blk rfl,outbox_Item.ld hb8 ?_⟩
   refine newP_of ⟨cell_at (H8.on (Fr.push (S:=fun _=>False) h8 _)).blk rfl, ?_⟩
   have f9:Fr (fun _=>False) h8 (h8.push (.cells #[.int .i64 (s.next:Int), .int .i64 owner, .slice p2 bs.length c2, .int .u64 (till:Int)] T.outbox_Item)):=Fr.push _ _
   have r9:Row (h8.push (.cells #[.int .i64 (s.next:Int), .int .i64 owner, .slice p2 bs.length c2, .int .u64 (till:Int)] T.outbox_Item)) (some ⟨h8.size,0,none⟩) [.int .i64 (s.next:Int), .int .i64 owner, .slice p2 bs.length c2, .int .u64 (till:Int)]:=row_new
   generalize h8.push (.cells #[.int .i64 (s.next:Int), .int .i64 owner, .slice p2 bs.length c2, .int .u64 (till:Int)] T.outbox_Item)=h9 at f9 r9⊢
   have H9:=H8.on f9
   have hb9:outbox_Item.at h9 b1 (s.next:Int) owner p2 bs.length c2 (till:Int):=f9.get hb8 id
   refine den_append tI uI H9.own r9 rfl (fun v hv=>by simp at hv;rcases hv with rfl|rfl|rfl|rfl<;>rfl) (by omega) (by omega) fun p10 c10 h10 o10 _ f10 g10=>⟨_,_,_,rfl, ?_⟩
   have z9:=f9.1
   have z10:=f10.1
   have lb:=lt_of_get H.blk
   have k10:=f10.get H9.blk H.bl
   refine storeP_blk k10 (by simp) fun h11 a1 a2 a3=> ?_
   have f11:Fr (fun y=>y=b) h10 h11:=Fr.of_eq a2 a3
   refine⟨_,cell_at a1 rfl,storeP_blk a1 (by simp) fun h12 d1 d2 d3=> ?_⟩
   have f12:Fr (fun y=>y=b) h11 h12:=Fr.of_eq d2 d3
   have nlp: ∀y,h.size≤y→ ¬inBlk lp y:=fun y hy hx=>by have:=H.own.blk_lt hx;omega
   have hb10:outbox_Item.at h10 b1 (s.next:Int) owner p2 bs.length c2 (till:Int):=f10.get hb9 (nlp b1 (by omega))
   have hb12:outbox_Item.at h12 b1 (s.next:Int) owner p2 bs.length c2 (till:Int):=(d3 b1 (by omega)).trans ((a3 b1 (by omega)).trans hb10)
   have A12:Alarm.Al h12 a S L:=((H9.al.frame f10 (fun y hy hx=>H.ls y hx hy)).frame f11 (fun y hy e=>H.bs (e▸hy))).frame f12 (fun y hy e=>H.bs (e▸hy))
   refine⟨_,cell_at d1 rfl,_,cell_at hb12 rfl, ?_⟩
   rw[rightB_iff] at hrt
   have hmay:Alarm.may (s.next:Int) (till:Int)=true:=Alarm.may_iff.2 ⟨by have:=ok.cnt;omega,by omega,hrt.2.2.2.2⟩
   refine Alarm.set_ok A12 (by omega) _ _ (by omega) (fun _ h13 S13 A13 g13 f13=>⟨_,rfl, ?_⟩) (fun hf=>by rw[hmay] at hf;cases hf)
   have nS: ∀y,h.size≤y→ ¬S y:=fun y hy hs=>by have:=H.al.lt hs;omega
   refine⟨_,cell_at (f13.get hb12 (nS b1 (by omega))) rfl, ?_⟩
   have F9:Fr (fun _=>False) h h9:=F8.tt f9
   have z12:h10.size≤h12.size:=by omega
   have F10:Fr (inBlk lp) h h10:=Fr.no F9 f10
   have F12:Fr (fun y=>inBlk lp y∨y=b) h h12:=((F10.mono (fun _ _ hx=> .inl hx)).tt (f11.mono (fun _ _ hx=> .inr hx))).tt (f12.mono (fun _ _ hx=> .inr hx))
   have F13:Fr X.M h h13:=((F12.mono (fun y _ hx=>(H.m y).2 (hx.elim (fun h=> .inr (.inl h)) .inl))).tt (f13.mono (fun y _ hx=>(H.m y).2 (.inr (.inr hx)))))
   have p2y: ∀y,inBlk p2 y→h.size≤y∧y<h2.size:=fun y hy=>⟨g2 y hy,o2.blk_lt hy⟩
   have p10y: ∀y,inBlk p10 y→inBlk lp y∨h2.size≤y:=fun y hy=>(g10 y hy).imp id (fun h1=>by omega)
   have p10lt: ∀y,inBlk p10 y→y<h12.size:=fun y hy=>by have:=o10.blk_lt hy;omega
   have o13:Own h13 p2 bs.length c2 1 (bc bs):=by
    have F2_13:Fr X.M h2 h13:=by
     refine⟨by have:=F13.1;have:=f13.1;omega,fun y hy hn=> ?_⟩
     have e1:h13[y]? =h12[y]? :=f13.2 y (by omega) (fun hx=>hn ((H.m y).2 (.inr (.inr hx))))
     have e2:h12[y]? =h11[y]? :=f12.2 y (by omega) (fun e=>hn ((H.m y).2 (.inl e)))
     have e3:h11[y]? =h10[y]? :=f11.2 y (by omega) (fun e=>hn ((H.m y).2 (.inl e)))
     have e4:h10[y]? =h9[y]? :=f10.2 y (by omega) (fun e=>hn ((H.m y).2 (.inr (.inl e))))
     have e5:h9[y]? =h2[y]? :=(f7.tt (f8.tt f9)).2 y (by omega) id
     rw[e1,e2,e3,e4,e5]
    exact o2.frame F2_13 (fun y hy hm=>by have:=H.lt y (.inl hm);have:=p2y y hy;omega)
   have dlt13: ∀y,X.D y∨inBlk p2 y→y<h13.size:=fun y hy=>hy.elim (fun h1=>Nat.lt_of_lt_of_le (H.dlt y h1) F13.1) (fun h1=>by have:=p2y y h1;have:=f13.1;omega)
   have cat:xs.flatMap ienc++ [.int .i64 (s.next:Int), .int .i64 owner, .slice p2 bs.length c2, .int .u64 (till:Int)]=(xs++ [(⟨s.next,owner,⟨p2,c2,bs⟩,till⟩:IV)]).flatMap ienc:=by rw[List.flatMap_append];simp
   have ln:(xs++ [(⟨s.next,owner,⟨p2,c2,bs⟩,till⟩:IV)]).length=xs.length+1:=by rw[List.length_append];rfl
   have nb10: ∀y,inBlk p10 y→y≠b:=fun y hy e=>(p10y y hy).elim (fun h1=>H.bl (e▸h1)) (fun h1=>by omega)
   have S13M: ∀y,S13 y→X.M y∨h12.size≤y:=fun y hy=>(g13 y hy).imp (fun h1=>(H.m y).2 (.inr (.inr h1))) id
   refine hk h13 ⟨fun y=>y=b∨inBlk p10 y∨S13 y,fun y=>X.D y∨inBlk p2 y⟩ ⟨_,⟨p10,c10,xs++ [⟨s.next,owner,⟨p2,c2,bs⟩,till⟩],a,S13,⟨?_, ?_,A13, ?_, ?_,fun _=>Iff.rfl,fun hx=>nb10 b hx rfl, ?_, ?_, ?_,dlt13⟩⟩, ?_⟩ ⟨F13, ?_, ?_,fun _=> .inl⟩
   ·have k13:=f13.get d1 H.bs
    rw[k13]
    dsimp only
    rw[ln,wrap_id (by omega) (by omega)];rfl
   ·rw[ln,←cat]
    exact((o10.frame f11 nb10).frame f12 nb10).frame f13 (fun y hy hs=>(p10y y hy).elim (fun h1=>H.ls y h1 hs) (fun h1=>nS y (by omega) hs))
   ·rw[List.map_append,H.abs];rfl
   ·intro v hv
    rcases List.mem_append.1 hv with hv|hv
    ·exact((H.dat v hv).frame F13 (fun y hd hm=>H.dis y hm hd)).mono (fun y=> .inl)
    ·obtain rfl:=List.mem_singleton.1 hv
     exact BV.of_own o13 (fun y=> .inr)
   ·intro hs;exact(g13 b hs).elim H.bs (fun h1=>by omega)
   ·intro y hy hs
    rcases g13 y hs with h1|h1
    ·exact(p10y y hy).elim (fun h2=>H.ls y h2 h1) (fun h2=>nS y (by omega) h1)
    ·have:=p10lt y hy;omega
   ·rintro y hy (hd|hd)
    ·rcases hy with rfl|hy|hy
     ·exact H.dis _ ((H.m _).2 (.inl rfl)) hd
     ·exact(p10y y hy).elim (fun h1=>H.dis _ ((H.m _).2 (.inr (.inl h1))) hd) (fun h1=>by have:=H.dlt y hd;omega)
     ·exact(S13M y hy).elim (fun h1=>H.dis _ h1 hd) (fun h1=>by have:=H.dlt y hd;omega)
    ·have hp2:=p2y y hd
     rcases hy with rfl|hy|hy
     ·omega
     ·exact(p10y y hy).elim (fun h1=>nlp y hp2.1 h1) (fun h1=>by omega)
     ·exact(S13M y hy).elim (fun h1=>by have:=H.lt y (.inl h1);omega) (fun h1=>by omega)
   ·have hnk:(s.next:Int)∉keys L:=by
     intro hm
     obtain⟨e,he,ek⟩:=List.mem_map.1 hm
     obtain⟨x,hx,rfl⟩:=List.mem_map.1 (ok.pm.mem_iff.1 he)
     have:=(ok.it x hx).2.1
     have ek:(x.num:Int)=(s.next:Int):=ek
     omega
    refine⟨?_, ?_, ?_, ?_, ?_⟩
    ·show(s.items++ [_]).length≤16
     rw[List.length_append,List.length_singleton];omega
    ·unfold Alarm.setL
     rw[dropK_none hnk]
     refine(insertS_perm _ _).trans ?_
     show List.Perm (((s.next:Int),(till:Int))::L) ((s.items++ [(⟨s.next,owner,bs,till⟩:It)]).map It.kv)
     rw[List.map_append]
     exact(List.Perm.cons _ ok.pm).trans (List.perm_append_singleton _ _).symm
    ·intro x hx
     rcases List.mem_append.1 hx with hx|hx
     ·have:=ok.it x hx;exact⟨this.1,by show x.num<s.next+1;omega,this.2.2⟩
     ·obtain rfl:=List.mem_singleton.1 hx
      exact⟨by show 1≤s.next;have:=ok.cnt;omega,by show s.next<s.next+1;omega,hrt.2.2.1,hrt.2.2.2.1,hrt.1,hrt.2.1,by have:=hrt.2.2.2.2;show till≤_;omega⟩
    ·show((s.items++ [_]).map It.num).Pairwise (· < ·)
     rw[List.map_append,List.pairwise_append]
     refine⟨ok.inc,by simp,fun y hy z hz=> ?_⟩
     simp at hz
     subst hz
     obtain⟨x,hx,rfl⟩:=List.mem_map.1 hy
     exact(ok.it x hx).2.1
    ·show s.next+1=1+(s.items++ [_]).length+s.taken+s.canc+s.over
     rw[List.length_append,List.length_singleton]
     have:=ok.cnt;omega
   ·rintro y (rfl|hy|hy)
    ·exact .inl ((H.m _).2 (.inl rfl))
    ·exact(p10y y hy).imp (fun h1=>(H.m _).2 (.inr (.inl h1))) (fun h1=>by omega)
    ·exact(S13M y hy).imp id (fun h1=>by omega)
   ·rintro y (hy|hy)
    ·exact .inl hy
    ·exact .inr (p2y y hy).1
end Obx
end Go.Proofs.YtgccegnmggjkjaaGreatDoor
set_option maxRecDepth 100000
namespace Go.Proofs.YtgccegnmggjkjaaGreatDoor
open Go.Den Go.Fields Go.Heapq
namespace Obx
open Fld
variable {h h' h0 : Heap} {b : Nat} {X : Ft} {R : Value → Heap → Prop} {p q : Option Addr} {c d i : Nat} {L : List E} {s : BS}
def cancE (s:BS) (num owner:Int):Int:=match idxI s.items num with|none=>4|some i=>(match s.items[i]? with|some x=>if x.owner=owner then 0 else 13|none=>4)
def cancS (s:BS) (num owner:Int):BS:=if cancE s num owner=0 then { s with items:=delI s.items num,canc:=s.canc+1 } else s
theorem Mm.field {s':BS} {lp:Option Addr} {lc a:Nat} {xs:List IV} {S:Nat→Prop} (H:Mm h b X s L lp lc xs a S) (hi:s'.items=s.items)
  (hb:h'[b]? =some (.cells #[.slice lp xs.length lc, .int .i64 (s'.next:Int), .int .i64 (s'.taken:Int), .int .i64 (s'.canc:Int), .int .i64 (s'.over:Int), .pointer (some ⟨a,0,none⟩)] T.outbox_Box (0,0)))
  (f:Fr (fun y=>y=b) h h'):Mm h' b X s' L lp lc xs a S∧StepF X h X h':=by
 have hX: ∀y,X.D y→y≠b:=fun y hd e=>H.dis b ((H.m b).2 (.inl rfl)) (e▸hd)
 refine⟨⟨hb,H.own.frame f (fun y hy e=>H.bl (e▸hy)),H.al.frame f (fun y hy e=>H.bs (e▸hy)),H.abs.trans hi.symm,fun x hx=>(H.dat x hx).frame f (fun y hd e=>hX y hd e),H.m,H.bl,H.bs,H.ls,H.dis,fun y hy=>Nat.lt_of_lt_of_le (H.dlt y hy) f.1⟩,StepF.of_fr (f.mono (fun y _ e=>(H.m y).2 (.inl e)))⟩
theorem abs_get {lp:Option Addr} {lc a:Nat} {xs:List IV} {S:Nat→Prop} (H:Mm h b X s L lp lc xs a S) {x:It} (hx:s.items[i]? =some x): ∃v,xs[i]? =some v∧v.abs=x:=by
 rw[←H.abs,List.getElem?_map] at hx
 cases hv:xs[i]? with
 |none=>rw[hv] at hx;cases hx
 |some v=>rw[hv] at hx;exact⟨v,rfl,Option.some.inj hx⟩
theorem del_len {items:List It} {x:It} (hp:(items.map It.num).Pairwise (· < ·)) (hx:items[i]? =some x):(delI items (x.num:Int)).length+1=items.length:=by
 have hi:=(List.getElem?_eq_some_iff.1 hx).1
 rw[←cutI_del hp hx]
 unfold cutI
 rw[List.length_append,List.length_take,List.length_drop]
 omega
theorem okB.del {x:It} {t c o:Nat} (ok:okB s L) (hx:s.items[i]? =some x) (hc:t+c+o=s.taken+s.canc+s.over+1):okB ⟨delI s.items (x.num:Int),s.next,t,c,o⟩ (dropK L (x.num:Int)):=by
 refine ok.sub List.filter_sublist (del_perm ok.pm) ?_
 have:=del_len ok.inc hx
 have:=ok.cnt
 omega
theorem cancel_ok {num owner:Int} (H:Box h b X s) (hnx:s.next≤1000000000) (hk: ∀h' X',Box h' b X' (cancS s num owner)→StepF X h X' h'→R (.int .i64 (cancE s num owner)) h'):
  CallsH Tryz.prog F.outbox_Box_Cancel #[.pointer (some ⟨b,0,none⟩), .int .i64 num, .int .i64 owner] h R:=by
 obtain⟨L,⟨lp,lc,xs,a,S,H⟩,ok⟩:=H
 obtain⟨hL,hxl⟩:=H.okL ok
 have hlen:=H.len
 have hle:=ok.le
 refine outbox_Box_Cancel.walk (made_ok H ⟨_,rfl, ?_⟩)
 simp only[Bool.not_true,Bool.false_eq_true,if_false]
 refine find_ok H (by omega) fun h2 f2=>⟨_,rfl, ?_⟩
 have H2:=H.on f2
 unfold cancS at hk
 cases hidx:idxI s.items num with
 |none=>
  have e:cancE s num owner=4:=by unfold cancE;rw[hidx]
  rw[e] at hk
  have ev:idxV s.items num= -1:=by unfold idxV;rw[hidx]
  rw[ev,if_pos (by decide)]
  exact hk h2 X ⟨L,⟨lp,lc,xs,a,S,H2⟩,ok⟩ (StepF.of_no f2)
 |some i=>
  obtain⟨x,hx,hnum⟩:=idx_some hidx
  have ev:idxV s.items num=(i:Int):=by unfold idxV;rw[hidx]
  have hi:=(List.getElem?_eq_some_iff.1 hx).1
  obtain⟨v,hv,hva⟩:=abs_get H hx
  have q: ¬(i:Int)<0:=by omega
  rw[ev]
  simp only[q,decide_false,Bool.false_eq_true,if_false,Int.toNat_natCast]
  obtain⟨ab,aoff,rfl⟩:=H2.own.addr (by omega)
  have hc:=(H2.own.heldAt ienc_len hv).2.1
  refine⟨_,_,_,cell_at H2.blk rfl,⟨by omega,by omega⟩,onSome_some.2 ⟨v.owner,hc, ?_⟩⟩
  have hvo:v.owner=x.owner:=by rw[←hva];rfl
  by_cases ho:x.owner=owner
  ·have e:cancE s num owner=0:=by unfold cancE;rw[hidx];dsimp only;rw[hx];dsimp only;rw[if_pos ho]
   rw[e] at hk
   simp only[if_true] at hk
   rw[if_neg (by rw[hvo,ho];simp)]
   refine cut_ok H2 (by omega) hL hv fun h3 X3 B3 s3 _=>⟨_,_,_,_,_,_,rfl, ?_⟩
   obtain⟨lp3,lc3,xs3,a3,S3,H3⟩:=B3
   refine⟨_,cell_at H3.blk rfl,storeP_blk H3.blk (by simp) fun h4 a1 a2 a3'=> ?_⟩
   have f4:Fr (fun y=>y=b) h3 h4:=Fr.of_eq a2 a3'
   have hcnt:=ok.cnt
   have vn:(v.num:Int)=num:=by rw[←hnum,←hva];rfl
   have ec:cutI s.items i=delI s.items num:=by rw[←hnum];exact cutI_del ok.inc hx
   obtain⟨H4,s4⟩:=H3.field (s':=⟨delI s.items num,s.next,s.taken,s.canc+1,s.over⟩) (h':=h4) ec.symm (by
    rw[a1]
    dsimp only
    rw[wrap_id (by omega) (by omega)];rfl) f4
   rw[vn] at H4
   refine hk h4 X3 ⟨dropK L num,⟨lp3,lc3,xs3,a3,S3,H4⟩, ?_⟩ ((StepF.of_no f2).trans (s3.trans s4))
   have:=ok.del (t:=s.taken) (c:=s.canc+1) (o:=s.over) hx (by omega)
   rwa[hnum] at this
  ·have e:cancE s num owner=13:=by unfold cancE;rw[hidx];dsimp only;rw[hx];dsimp only;rw[if_neg ho]
   rw[e] at hk
   rw[if_pos (by rw[hvo];simpa using ho)]
   exact hk h2 X ⟨L,⟨_,lc,xs,a,S,H2⟩,ok⟩ (StepF.of_no f2)
theorem take_ok (H:Box h b X s) (hnx:s.next≤1000000000)
  (k1:s.items= []→ ∀h',Box h' b X s→Fr (fun _=>False) h h'→R (.tuple #[.agg #[.int .i64 0, .int .i64 0, .slice none 0 0, .int .u64 0], .int .i64 4]) h')
  (k2: ∀x r,s.items=x::r→ ∀h' X' (v:IV),v.abs=x→Box h' b X' { s with items:=r,taken:=s.taken+1 } →StepF X h X' h'→v.v.ok h' X'.D→R (.tuple #[v.agg, .int .i64 0]) h'):
  CallsH Tryz.prog F.outbox_Box_Take #[.pointer (some ⟨b,0,none⟩)] h R:=by
 obtain⟨L,⟨lp,lc,xs,a,S,H⟩,ok⟩:=H
 obtain⟨hL,hxl⟩:=H.okL ok
 have hlen:=H.len
 have hle:=ok.le
 have hcnt:=ok.cnt
 refine outbox_Box_Take.walk (outbox_Item.box fun b1 h1 eb1 hb1 f1=> ?_)
 have H1:=H.on f1
 refine made_ok H1 ⟨_,rfl, ?_⟩
 simp only[Bool.not_true,Bool.false_eq_true,if_false]
 refine⟨_,_,_,cell_at H1.blk rfl, ?_⟩
 cases hit:s.items with
 |nil=>
  have hx0:xs.length=0:=by rw[hlen,hit];rfl
  rw[if_pos (by rw[hx0];rfl)]
  refine outbox_Item.set hb1 fun h6 d1 d2 d3=>outbox_Item.ld d1 ?_
  have f6:Fr (fun y=>y=b1) h1 h6:=Fr.of_eq d2 d3
  have l1:=lt_of_get hb1
  have nX: ∀y,X.M y∨X.D y→y≠b1:=fun y hy e=>by have:=H.lt y hy;omega
  exact k1 hit h6 ⟨L,⟨lp,lc,xs,a,S,H1.frame f6 nX⟩,ok⟩ (f1.fresh f6 (fun y e=>by omega))
 |cons x r=>
  have hxp:0<xs.length:=by rw[hlen,hit];simp
  rw[if_neg (by simp only[beq_iff_eq];omega)]
  have hx:s.items[0]? =some x:=by rw[hit];rfl
  obtain⟨v,hv,hva⟩:=abs_get H1 hx
  refine⟨_,cell_at H1.blk rfl,storeP_blk H1.blk (by simp) fun h11 a1 a2 a3=> ?_⟩
  have f11:Fr (fun y=>y=b) h1 h11:=Fr.of_eq a2 a3
  obtain⟨H11,s11⟩:=H1.field (s':= { s with taken:=s.taken+1 }) (h':=h11) rfl (by
   rw[a1]
   dsimp only
   rw[wrap_id (by omega) (by omega)];rfl) f11
  refine cut_ok (i:=0) H11 (by show s.items.length≤100;omega) hL hv fun h12 X12 B12 s12 v12=>⟨_,_,_,_,_,_,rfl, ?_⟩
  have l1:=lt_of_get hb1
  have lb:=lt_of_get H.blk
  have i12:outbox_Item.at h12 b1 0 0 none 0 0 0:=s12.fr.get ((a3 b1 (by omega)).trans hb1) (fun hm=>by have:=H.lt b1 (.inl hm);omega)
  refine outbox_Item.set i12 fun h16 d1 d2 d3=>outbox_Item.ld d1 ?_
  have f16:Fr (fun y=>y=b1) h12 h16:=Fr.of_eq d2 d3
  have n12: ∀y,X12.M y∨X12.D y→y≠b1:=s12.apart (Q:=fun y=>y=b1) (fun y hy e=>by have:=H.lt y hy;omega) (fun y e=>by rw[e,a2];exact l1)
  have vn:(v.num:Int)=(x.num:Int):=by rw[←hva];rfl
  have ec:cutI s.items 0=r:=by unfold cutI;rw[hit];rfl
  have ed:delI s.items (x.num:Int)=r:=by rw[←cutI_del ok.inc hx];exact ec
  rw[vn] at B12
  have hok:=ok.del (t:=s.taken+1) (c:=s.canc) (o:=s.over) hx (by omega)
  rw[ed] at hok
  have B16:Bx h16 b X12 { s with items:=r,taken:=s.taken+1 } (dropK L (x.num:Int)):=by
   have:({ ({ s with taken:=s.taken+1 } :BS) with items:=cutI ({ s with taken:=s.taken+1 } :BS).items 0 } :BS)= { s with items:=r,taken:=s.taken+1 } :=by
    show(⟨cutI s.items 0,_,_,_,_⟩:BS)=_
    rw[ec]
   rw[this] at B12
   exact B12.frame f16 n12
  have st:StepF X h X12 h12:=(StepF.of_no f1).trans (s11.trans s12)
  have st16:StepF X h X12 h16:=by
   refine⟨⟨Nat.le_trans st.fr.1 f16.1,fun y hy hn=> ?_⟩,st.newM,st.newD,st.oldD⟩
   rw[f16.2 y (Nat.lt_of_lt_of_le hy st.fr.1) (fun e=>by omega)]
   exact st.fr.2 y hy hn
  exact k2 x r hit h16 X12 v hva ⟨_,B16,hok⟩ st16 (v12.frame f16 (fun y hd e=>n12 y (.inr hd) e))
theorem pass_ok {k:Int} (now:Nat) (hk0:k=(now:Int)) (H:Box h b X s) (hnx:s.next≤1000000000)
  (hk: ∀h' X' p' c' (ys:List IV) D,Box h' b X' { s with items:=s.items.filter (fun x=>decide ((now:Int)<(x.till:Int))),over:=s.over+ys.length } →StepF X h X' h'→Own h' p' ys.length c' 4 (ys.flatMap ienc)→(∀y∈ys,y.v.ok h' X'.D)→(∀y,inBlk p' y→h.size≤y∧ ¬(X'.M y∨X'.D y))→
   (ys.map IV.abs).map It.kv=D→Sorted D→D.Perm ((s.items.filter (fun x=>decide ((x.till:Int)≤(now:Int)))).map It.kv)→(∀y∈ys,y.abs∈s.items)→R (.slice p' ys.length c') h'):
  CallsH Tryz.prog F.outbox_Box_Pass #[.pointer (some ⟨b,0,none⟩), .int .u64 k] h R:=by
 subst hk0
 obtain⟨L,⟨lp,lc,xs,a,S,H⟩,ok⟩:=H
 obtain⟨hL,hxl⟩:=H.okL ok
 have hle:=ok.le
 have hcnt:=ok.cnt
 have so:=H.al.sorted
 have nd:=H.al.nodup
 refine outbox_Box_Pass.walk (made_ok H ⟨_,rfl,JoinP.of fun J hJ=> ?_⟩)
 simp only[if_true]
 refine⟨_,cell_at H.blk rfl,Alarm.ring_ok H.al (by omega) _ fun h3 p3 c3 A3 o3 g3 f3=>⟨_,_,_,rfl, ?_⟩⟩
 generalize hD:Alarm.due L (now:Int)=D at o3⊢
 have hLD:L=D++Alarm.rest L (now:Int):=by rw[←hD];exact(List.takeWhile_append_dropWhile).symm
 have M3:Mm h3 b X s (Alarm.rest L (now:Int)) lp lc xs a S:=by
  refine⟨f3.get H.blk H.bs,H.own.frame f3 (fun y hy hs=>H.ls y hy hs),A3,H.abs,fun x hx=>(H.dat x hx).frame f3 (fun y hd hs=>H.dis y ((H.m y).2 (.inr (.inr hs))) hd),H.m,H.bl,H.bs,H.ls,H.dis,fun y hy=>Nat.lt_of_lt_of_le (H.dlt y hy) f3.1⟩
 have s3:StepF X h X h3:=StepF.of_fr (f3.mono (fun y _ hs=>(H.m y).2 (.inr (.inr hs))))
 have Dl:D.length≤16:=by
  have h1:=congrArg List.length hLD
  rw[List.length_append] at h1
  have:=ok.pm.length_eq
  rw[List.length_map] at this
  omega
 have ndD:(keys D).Nodup:=by
  rw[hLD] at nd
  unfold keys at nd⊢
  rw[List.map_append,List.nodup_append] at nd
  exact nd.1
 have dr: ∀e∈D,e.1∉keys (Alarm.rest L (now:Int)):=by
  intro e he hm
  rw[hLD] at nd
  unfold keys at nd hm
  rw[List.map_append,List.nodup_append] at nd
  exact nd.2.2 e.1 (List.mem_map_of_mem he) e.1 hm rfl
 have restL:(Alarm.rest L (now:Int)).length<1000:=by
  have h1:=congrArg List.length hLD
  rw[List.length_append] at h1
  omega
 refine⟨fun op ol oc t g=> ∃(k:Nat) (X':Ft) (ys:List IV),t=(k:Int)∧k≤D.length∧ol=ys.length∧ys.length=k∧Bx g b X' { s with items:=remI s.items (keys (D.take k)),over:=s.over+k } (Alarm.rest L (now:Int))∧StepF X h X' g∧Fr (fun y=>h.size≤y∨X.M y) h3 g∧Own g op ol oc 4 (ys.flatMap ienc)∧(∀y∈ys,y.v.ok g X'.D)∧
   (∀y,inBlk op y→h.size≤y∧ ¬(X'.M y∨X'.D y)∧ ¬inBlk p3 y)∧(∀y,inBlk p3 y→ ¬(X'.M y∨X'.D y))∧Row g p3 (Alarm.kc D)∧(ys.map IV.abs).map It.kv=D.take k∧(∀y∈ys,y.abs∈s.items),fun _ _ _ t _=>D.length - t.toNat,
   ⟨0,X, [],rfl,by omega,rfl,rfl, ?_,s3,Fr.refl _ _, .nil rfl rfl rfl rfl,(fun y hy=>by cases hy),(fun y ⟨a,e,_⟩=>by cases e),(fun y hy hx=>by have:=g3 y hy;have:=H.lt y hx;omega),o3.row',rfl,fun y hy=>by cases hy⟩, ?_⟩
 ·have:({ s with items:=remI s.items (keys (D.take 0)),over:=s.over+0 } :BS)=s:=by
   show(⟨remI s.items [],_,_,_,_⟩:BS)=s
   rw[remI_nil];rfl
  rw[this]
  exact⟨lp,lc,xs,a,S,M3⟩
 clear M3 A3
 rintro op ol oc _ g ⟨k,X',ys,rfl,hkD,rfl,hys,B,st,fg,o,hd,hop,h3p,r3,hkv,hsub⟩
 by_cases hlt:k<D.length
 ·have q:(k:Int)<((D.length:Nat):Int):=by omega
  simp only[q,decide_true,if_true]
  have hDk:D[k]? =some D[k]:=List.getElem?_eq_getElem hlt
  generalize D[k]=e at hDk
  have heD:=List.mem_of_getElem? hDk
  have hcell:(Alarm.kc D)[k]? =some (.int .i64 e.1):=by
   unfold Alarm.kc keys
   rw[List.getElem?_map,List.getElem?_map,hDk];rfl
  obtain⟨pa,rfl⟩:=r3.some (fun e0=>by rw[e0] at hcell;cases hcell)
  have cell:=r3.cell hcell
  refine⟨⟨by first|trivial|omega,by first|trivial|omega⟩,onSome_some.2 ⟨e.1,by rw[Int.toNat_natCast,Nat.mul_one];exact cell, ?_⟩⟩
  obtain⟨lp',lc',xs',a',S',M⟩:=B
  have items':({ s with items:=remI s.items (keys (D.take k)),over:=s.over+k } :BS).items=remI s.items (keys (D.take k)):=rfl
  have rl:(remI s.items (keys (D.take k))).length≤16:=Nat.le_trans (List.length_filter_le _ _) hle
  refine find_ok M (by rw[items'];omega) fun h5 f5=>⟨_,rfl, ?_⟩
  rw[items']
  have M5:=M.on f5
  have heL:e∈L:=by rw[hLD];exact List.mem_append_left _ heD
  obtain⟨x,hx,hxe⟩:=List.mem_map.1 (ok.pm.mem_iff.1 heL)
  have hxn:(x.num:Int)=e.1:=by rw[←hxe];rfl
  have hnk:e.1∉keys (D.take k):=by
   intro hm
   obtain⟨e',he',ek⟩:=List.mem_map.1 hm
   obtain⟨j,hj⟩:=List.getElem?_of_mem he'
   rw[List.getElem?_take] at hj
   split at hj
   ·rename_i hjk
    have h1:(keys D)[j]? =some e.1:=by unfold keys;rw[List.getElem?_map,hj,←ek];rfl
    have h2:(keys D)[k]? =some e.1:=by unfold keys;rw[List.getElem?_map,hDk];rfl
    have:=(List.getElem?_inj (by unfold keys;rw[List.length_map];omega) ndD).1 (h1.trans h2.symm)
    omega
   ·cases hj
  have hxr:x∈remI s.items (keys (D.take k)):=List.mem_filter.2 ⟨hx,decide_eq_true (by rw[hxn];exact hnk)⟩
  cases hidx:idxI (remI s.items (keys (D.take k))) e.1 with
  |none=>exact absurd hxn (idx_none hidx x hxr)
  |some i=>
   obtain⟨x',hx',hn'⟩:=idx_some hidx
   have hx'm:x'∈s.items:=(List.mem_filter.1 (List.mem_of_getElem? hx')).1
   obtain rfl:x'=x:=uniq ok.inc hx'm hx (by omega)
   have ev:idxV (remI s.items (keys (D.take k))) e.1=(i:Int):=by unfold idxV;rw[hidx]
   rw[ev]
   obtain⟨v,hv,hva⟩:=abs_get M5 hx'
   refine cut_ok M5 (by rw[items'];omega) restL hv fun h6 X6 B6 s6 v6=>⟨_,_,_,_,_,_,rfl, ?_⟩
   have vn:(v.num:Int)=e.1:=by rw[←hxn,←hva];rfl
   rw[vn,dropK_none (dr e heD)] at B6
   have inc':((remI s.items (keys (D.take k))).map It.num).Pairwise (· < ·):=ok.inc.sublist (List.filter_sublist.map _)
   have htk:keys (D.take (k+1))=keys (D.take k)++ [e.1]:=by unfold keys;rw[List.take_add_one,hDk,List.map_append];rfl
   have eit:cutI (remI s.items (keys (D.take k))) i=remI s.items (keys (D.take (k+1))):=by
    rw[cutI_del inc' hx',hxn,remI_del,htk]
   have o5:=o.frame f5 (fun _ _=>id)
   have op6: ∀y,inBlk op y→ ¬(X6.M y∨X6.D y):=fun y hy=>fun hx=>s6.apart (Q:=inBlk op) (fun z hz hq=>(hop z hq).2.1 hz) (fun z hq=>o5.blk_lt hq) y hx hy
   have o6:=o5.frame s6.fr (fun y hy hm=>(hop y hy).2.1 (.inl hm))
   refine den_append1 tI uI o6 rfl (fun w hw=>by simp at hw;rcases hw with rfl|rfl|rfl|rfl<;>rfl) (by omega) (by omega) fun p8 c8 h8 o8 f8 g8=>⟨_,_,_,rfl, ?_⟩
   have B8:Bx h8 b X6 _ _:=B6.frame f8 (fun y hy hq=>op6 y hq hy)
   obtain⟨lp8,lc8,xs8,a8,S8,M8⟩:=B8
   refine⟨_,cell_at M8.blk rfl,storeP_blk M8.blk (by simp) fun h9 a1 a2 a3=> ?_⟩
   have f9:Fr (fun y=>y=b) h8 h9:=Fr.of_eq a2 a3
   obtain⟨M9,s9⟩:=M8.field (s':=⟨remI s.items (keys (D.take (k+1))),s.next,s.taken,s.canc,s.over+(k+1)⟩) (h':=h9) eit.symm (by
    rw[a1]
    dsimp only
    rw[wrap_id (by omega) (by omega)];rfl) f9
   have b6:X6.M b:=(M8.m b).2 (.inl rfl)
   have op8: ∀y,inBlk p8 y→h.size≤y∧ ¬(X6.M y∨X6.D y)∧ ¬inBlk (some pa) y:=by
    intro y hy
    rcases g8 y hy with h1|h1
    ·exact⟨(hop y h1).1,op6 y h1,(hop y h1).2.2⟩
    ·have z6:=s6.fr.1
     have z5:=f5.1
     have zg:=st.fr.1
     refine⟨by omega,fun hx=>by have:=B6.lt y hx;omega,fun hx=> ?_⟩
     have:=row_lt r3 (by intro e0;rw[e0] at hcell;cases hcell) hx
     omega
   have sg6:StepF X' g X6 h6:=(StepF.of_no f5).trans s6
   have h3p6: ∀y,inBlk (some pa) y→ ¬(X6.M y∨X6.D y):=fun y hy hx=>sg6.apart (Q:=inBlk (some pa)) (fun z hz hq=>h3p z hq hz) (fun z hq=>row_lt r3 (by intro e0;rw[e0] at hcell;cases hcell) hq) y hx hy
   have st6:StepF X h X6 h6:=st.trans sg6
   have fr89: ∀y,y<h.size→ ¬X.M y→h9[y]? =h6[y]? :=by
    intro y hy hm
    have zz:=st6.fr.1
    have zz8:=f8.1
    rw[f9.2 y (by omega) (fun e0=>(st6.newM b b6).elim (fun h1=>hm (e0▸h1)) (fun h1=>by omega)),f8.2 y (by omega) (fun hq=>by have:=(hop y hq).1;omega)]
   have st9:StepF X h X6 h9:=by
    refine⟨⟨by have:=st6.fr.1;have:=f8.1;omega,fun y hy hn=> ?_⟩,st6.newM,st6.newD,st6.oldD⟩
    rw[fr89 y hy hn]
    exact st6.fr.2 y hy hn
   have zb8: ∀y,inBlk p8 y→y≠b:=fun y hy e0=>(op8 y hy).2.1 (.inl (e0▸b6))
   have cat:ys.flatMap ienc++([.int .i64 (v.num:Int), .int .i64 v.owner, .slice v.v.p v.v.b.length v.v.c, .int .u64 (v.till:Int)]:List Value)=(ys++ [v]).flatMap ienc:=by rw[List.flatMap_append];simp
   have ln:(ys++ [v]).length=ys.length+1:=by rw[List.length_append];rfl
   rw[wrap_id (by omega) (by omega)]
   refine⟨⟨k+1,X6,ys++ [v],by omega,by omega,ln.symm,by rw[ln,hys],⟨lp8,lc8,xs8,a8,S8,M9⟩,st9, ?_, ?_, ?_,op8,h3p6, ?_, ?_, ?_⟩, ?_⟩
   ·refine⟨by have:=fg.1;have:=sg6.fr.1;have:=f8.1;omega,fun y hy hn=> ?_⟩
    have hylt:y<h.size:=Nat.lt_of_not_le (fun hx=>hn (.inl hx))
    have hnm: ¬X.M y:=fun hx=>hn (.inr hx)
    rw[fr89 y hylt hnm,st6.fr.2 y hylt hnm,s3.fr.2 y hylt hnm]
   ·rw[←cat];exact o8.frame f9 zb8
   ·intro w hw
    have key: ∀u:IV,u.v.ok h6 X6.D→u.v.ok h9 X6.D:=fun u hu=>(hu.frame f8 (fun y hy hq=>op6 y hq (.inr hy))).frame f9 (fun y hy e0=>M8.dis b b6 (e0▸hy))
    rcases List.mem_append.1 hw with hw|hw
    ·exact key w (((hd w hw).frame sg6.fr (fun y hy hm=>M.dis y hm hy)).mono (fun y hy=>sg6.oldD y hy))
    ·obtain rfl:=List.mem_singleton.1 hw
     exact key w v6
   ·refine((r3.frame sg6.fr (fun a' ea hm=>h3p _ ⟨a',ea,rfl⟩ (.inl hm))).frame f8 (fun a' ea hq=>(hop _ hq).2.2 ⟨a',ea,rfl⟩)).frame f9 (fun a' ea e0=>h3p6 _ ⟨a',ea,rfl⟩ (.inl (by have e0:a'.block=b:=e0;rw[e0];exact b6)))
   ·rw[List.map_append,List.map_append,hkv,List.take_add_one,hDk]
    simp[hva,hxe]
   ·intro w hw
    rcases List.mem_append.1 hw with hw|hw
    ·exact hsub w hw
    ·obtain rfl:=List.mem_singleton.1 hw
     rw[hva];exact hx
   ·show D.length - Int.toNat ((k:Int)+1)<D.length - Int.toNat (k:Int);omega
 ·have q: ¬(k:Int)<((D.length:Nat):Int):=by omega
  simp only[q,decide_false,Bool.false_eq_true,if_false]
  obtain rfl:k=D.length:=by omega
  subst hJ
  rw[List.take_length] at B hkv
  have e1:remI s.items (keys D)=s.items.filter (fun x=>decide ((now:Int)<(x.till:Int))):=by rw[←hD];exact remI_due ok so nd
  rw[e1] at B
  have hlen2:D.length+(s.items.filter (fun x=>decide ((now:Int)<(x.till:Int)))).length=s.items.length:=by
   have h1:=congrArg List.length hLD
   rw[List.length_append,(rest_perm (now:=(now:Int)) ok so).length_eq,List.length_map,ok.pm.length_eq,List.length_map] at h1
   omega
  refine hk g X' op oc ys D ⟨_,by rw[hys];exact B, ?_⟩ st o hd (fun y hy=>⟨(hop y hy).1,(hop y hy).2.1⟩) hkv ?_ ?_ hsub
  ·exact ok.sub List.filter_sublist (rest_perm ok so) (by omega)
  ·rw[←hD,(sorted_split so).1];exact List.Pairwise.filter _ so
  ·rw[←hD];exact due_perm ok so
end Obx
end Go.Proofs.YtgccegnmggjkjaaGreatDoor
set_option linter.unusedSectionVars false
namespace Go.Den
section
variable {P : Program} {α : Type} [DecidableEq α]
structure KeyOk (P:Program) (kt:TypeId) (enc:α→Value):Prop where
 eq: ∀(a b:α) (h:Heap),rd P (Op.equal kt (enc a) (enc b)) h=some (decide (a=b))
 chk: ∀(e:Bool) (a:α) (h:Heap),rd P (Instr.checkKey e 10000 kt (enc a)) h=some ()
 now: ∃d,P.underlying kt=some d∧ ∀a b,Instr.sameNow d (enc a) (enc b)=none∨Instr.sameNow d (enc a) (enc b)=some (decide (a=b))
 bits: ∀a,Instr.sameBits 10000 (enc a) (enc a)=true
abbrev ent (enc:α→Value) (t:α×Value×Nat):MapEntry:=⟨enc t.1,t.2.1,t.2.2⟩
abbrev pr (t:α×Value×Nat):α×Value:=(t.1,t.2.1)
structure MapT (h:Heap) (m:Nat) (enc:α→Value) (T:List (α×Value×Nat)) (clock:Nat):Prop where
 blk:h[m]? =some (.map (T.map (ent enc)).toArray clock)
 keys:(T.map (·.1)).Nodup
 old: ∀t∈T,t.2.2<clock
 born:(T.map (·.2.2)).Nodup
def MapP (h:Heap) (m:Nat) (enc:α→Value) (l:List (α×Value)):Prop:= ∃T clock,MapT h m enc T clock∧(T.map pr).Perm l
def gdel (l:List (α×Value)) (k:α):List (α×Value):=l.filter (fun e=> !decide (e.1=k))
def gput (l:List (α×Value)) (k:α) (v:Value):List (α×Value):=(k,v)::gdel l k
theorem MapP.perm {h:Heap} {m:Nat} {enc:α→Value} {l l':List (α×Value)} (H:MapP h m enc l) (p:l.Perm l'):MapP h m enc l':=by
 obtain⟨T,c,h1,h2⟩:=H
 exact⟨T,c,h1,h2.trans p⟩
theorem MapP.of_get {h h':Heap} {m:Nat} {enc:α→Value} {l:List (α×Value)} (H:MapP h m enc l) (he:h'[m]? =h[m]?):MapP h' m enc l:=by
 obtain⟨T,c,⟨a,b,d,e⟩,h2⟩:=H
 exact⟨T,c,⟨he.trans a,b,d,e⟩,h2⟩
theorem MapP.lt {h:Heap} {m:Nat} {enc:α→Value} {l:List (α×Value)} (H:MapP h m enc l):m<h.size:=by
 obtain⟨T,c,h1,_⟩:=H;exact lt_of_get h1.blk
theorem MapP.frame {S:Nat→Prop} {h h':Heap} {m:Nat} {enc:α→Value} {l:List (α×Value)} (H:MapP h m enc l) (hf:Fr S h h') (hn: ¬S m):MapP h' m enc l:=H.of_get (hf.2 m H.lt hn)
theorem MapP.push (h:Heap) (enc:α→Value):MapP (h.push (.map #[] 0)) h.size enc []:=⟨[],0,⟨push_new,by simp,by simp,by simp⟩, .refl _⟩
theorem MapP.nodup {h:Heap} {m:Nat} {enc:α→Value} {l:List (α×Value)} (H:MapP h m enc l):(l.map (·.1)).Nodup:=by
 obtain⟨T,c,h1,h2⟩:=H
 have h3:=h2.map (·.1)
 rw[List.map_map] at h3
 exact h3.nodup_iff.1 h1.keys
def findT (k:α):List (α×Value×Nat)→Nat→Option (Nat×Value)
 | [],_=>none
 |t::T,i=>if k=t.1 then some (i,t.2.1) else findT k T (i+1)
theorem findT_none {k:α} : ∀ {T:List (α×Value×Nat)} {i:Nat},findT k T i=none→ ∀t∈T,t.1≠k
 | [],_,_,_,ht=>by cases ht
 |u::T,i,h,t,ht=>by
  unfold findT at h
  split at h
  ·cases h
  ·rename_i hne
   rcases List.mem_cons.1 ht with rfl|ht
   ·exact fun e=>hne e.symm
   ·exact findT_none h t ht
theorem findT_some {k:α} : ∀ {T:List (α×Value×Nat)} {i j:Nat} {v:Value},findT k T i=some (j,v)→ ∃A B b,T=A++(k,v,b)::B∧j=i+A.length
 | [],_,_,_,h=>by cases h
 |u::T,i,j,v,h=>by
  unfold findT at h
  split at h
  ·rename_i he
   simp only[Option.some.injEq,Prod.mk.injEq] at h
   obtain⟨rfl,rfl⟩:=h
   subst he
   exact⟨[],T,u.2.2,rfl,rfl⟩
  ·obtain⟨A,B,b,rfl,rfl⟩:=findT_some h
   exact⟨u::A,B,b,rfl,by rw[List.length_cons];omega⟩
theorem findNow_ent {kt:TypeId} {enc:α→Value} {d:TypeDesc} (hd: ∀a b,Instr.sameNow d (enc a) (enc b)=none∨Instr.sameNow d (enc a) (enc b)=some (decide (a=b))) (k:α):
  ∀(T:List (α×Value×Nat)) (i:Nat),Instr.findNow d (enc k) (T.map (ent enc)) i=none∨Instr.findNow d (enc k) (T.map (ent enc)) i=some (findT k T i)
 | [],i=> .inr rfl
 |t::T,i=>by
  rw[List.map_cons]
  unfold Instr.findNow findT
  rcases hd k t.1 with e|e<;>rw[e]
  ·exact .inl rfl
  ·by_cases hk:k=t.1
   ·rw[decide_eq_true hk,if_pos hk];exact .inr rfl
   ·rw[decide_eq_false hk,if_neg hk];exact findNow_ent (kt:=kt) hd k T (i+1)
theorem rd_asking {kt:TypeId} {enc:α→Value} (K:KeyOk P kt enc) (k:α) (h:Heap): ∀(T:List (α×Value×Nat)) (i:Nat),rd P (Instr.findAsking kt (enc k) (T.map (ent enc)) i) h=some (findT k T i)
 | [],i=>rfl
 |t::T,i=>by
  rw[List.map_cons]
  unfold Instr.findAsking findT
  rw[rd_bind _ _ _ _ (K.eq k t.1 h)]
  by_cases hk:k=t.1
  ·rw[decide_eq_true hk,if_pos hk,if_pos rfl];rfl
  ·rw[decide_eq_false hk,if_neg hk,if_neg (by simp)];exact rd_asking K k h T (i+1)
theorem rd_find {kt:TypeId} {enc:α→Value} (K:KeyOk P kt enc) (k:α) (h:Heap) (T:List (α×Value×Nat)):rd P (Instr.findKey kt (enc k) (T.map (ent enc))) h=some (findT k T 0):=by
 obtain⟨d,h1,h2⟩:=K.now
 unfold Instr.findKey
 rw[rd_bind _ _ _ _ (rd_underlying h1)]
 rcases findNow_ent (kt:=kt) h2 k T 0 with e|e<;>rw[e]
 ·exact rd_asking K k h T 0
 ·rfl
structure MapKy (P:Program) (t:TypeId) (enc:α→Value) (z:Value):Prop where
 ty: ∃k e,P.underlying t=some (.map k e)∧KeyOk P k enc∧ ∃i,P.info? e=some i∧i.zero=some z
theorem MapKy.of {t:TypeId} {enc:α→Value} {z:Value} (k e:TypeId) (h1:P.underlying t=some (.map k e)) (h2:KeyOk P k enc) (h3:(P.info? e).bind (·.zero)=some z):MapKy P t enc z:=by
 cases hi:P.info? e with
 |none=>rw[hi] at h3;cases h3
 |some i=>exact⟨k,e,h1,h2,i,hi,by rw[hi] at h3;exact h3⟩
def gget (l:List (α×Value)) (k:α):Option Value:=(l.find? (fun e=>decide (e.1=k))).map (·.2)
theorem gget_none {l:List (α×Value)} {k:α} :gget l k=none↔ ∀e∈l,e.1≠k:=by
 unfold gget
 rw[Option.map_eq_none_iff,List.find?_eq_none]
 simp
theorem gget_some {l:List (α×Value)} {k:α} {v:Value} (hn:(l.map (·.1)).Nodup):gget l k=some v↔(k,v)∈l:=by
 induction l with
 |nil=>simp[gget]
 |cons e l ih=>
  rw[List.map_cons,List.nodup_cons] at hn
  unfold gget at ih⊢
  rw[List.find?_cons]
  by_cases h:e.1=k
  ·rw[decide_eq_true h]
   simp only[Option.map_some,Option.some.injEq,List.mem_cons]
   constructor
   ·rintro rfl;exact .inl (by rw[←h])
   ·rintro(rfl|hm)
    ·rfl
    ·exact absurd (List.mem_map_of_mem (f:=(·.1)) hm) (by rw[←h];exact hn.1)
  ·rw[decide_eq_false h]
   rw[ih hn.2,List.mem_cons]
   constructor
   ·exact .inr
   ·rintro(rfl|hm)
    ·exact absurd rfl h
    ·exact hm
theorem MapP.find {h:Heap} {m:Nat} {enc:α→Value} {l:List (α×Value)} (H:MapP h m enc l) {T:List (α×Value×Nat)} (hp:(T.map pr).Perm l) (k:α):(findT k T 0).map (·.2)=gget l k:=by
 have hn:=H.nodup
 cases e:findT k T 0 with
 |none=>
  symm
  rw[Option.map_none,gget_none]
  intro x hx
  obtain⟨t,ht,rfl⟩:=List.mem_map.1 (hp.mem_iff.2 hx)
  exact findT_none e t ht
 |some jv=>
  obtain⟨j,v⟩:=jv
  obtain⟨A,B,b,rfl,_⟩:=findT_some e
  symm
  rw[Option.map_some,gget_some hn]
  exact hp.mem_iff.1 (by simp)
theorem lookP {t:TypeId} {enc:α→Value} {z:Value} (K:MapKy P t enc z) {h:Heap} {m:Nat} {l:List (α×Value)} (H:MapP h m enc l) (k:α) (ok:Bool):
  rd P (Instr.lookup t (.map (some m)) (enc k) ok) h=some (if ok then .tuple #[(gget l k).getD z, .bool (gget l k).isSome] else(gget l k).getD z):=by
 obtain⟨kt,e,ht,hk,i,hi,hz⟩:=K.ty
 have H0:=H
 obtain⟨T,c,H,hp⟩:=H
 rw[←H0.find hp k]
 unfold Instr.lookup
 rw[rd_bind _ _ _ _ (rd_underlying ht)]
 simp only
 rw[rd_bind _ _ _ _ (rd_getObj H.blk)]
 simp only
 rw[rd_bind _ _ _ _ (rd_pure _),rd_bind _ _ _ _ (hk.chk _ k h),rd_bind _ _ _ _ (rd_find hk k h T)]
 cases hf:findT k T 0 with
 |none=>
  simp only
  rw[rd_bind _ _ _ _ (rd_zeroValue hi hz)]
  cases ok<;>rfl
 |some jv=>cases ok<;>rfl
theorem lookV_P {t:TypeId} {enc:α→Value} {z:Value} (K:MapKy P t enc z) {h:Heap} {m:Nat} {l:List (α×Value)} (H:MapP h m enc l) (k:α):LookV P t (.map (some m)) (enc k) false h ((gget l k).getD z):=fun h' hs=>by
 have:=lookP K (H.of_get (h':=h') hs) k false
 simpa using this
theorem lookV_Pok {t:TypeId} {enc:α→Value} {z:Value} (K:MapKy P t enc z) {h:Heap} {m:Nat} {l:List (α×Value)} (H:MapP h m enc l) (k:α):LookV P t (.map (some m)) (enc k) true h (.tuple #[(gget l k).getD z, .bool (gget l k).isSome]):=fun h' hs=>by
 have:=lookP K (H.of_get (h':=h') hs) k true
 simpa using this
theorem lenV_P {t ty:TypeId} {enc:α→Value} {z:Value} (K:MapKy P t enc z) {h:Heap} {m:Nat} {l:List (α×Value)} (H:MapP h m enc l):LenV P #[t] ty (.map (some m)) h (.int .i64 (l.length:Int)):=fun h' hs=>by
 obtain⟨kt,e,ht,_⟩:=K.ty
 obtain⟨T,c,H,hp⟩:=H
 have hb:h'[m]? =some (.map (T.map (ent enc)).toArray c):=Eq.trans hs H.blk
 have hl:T.length=l.length:=by rw[←hp.length_eq,List.length_map]
 unfold Builtin.len_
 show rd P (underlying t>>=_) h'=_
 rw[rd_bind _ _ _ _ (rd_underlying ht)]
 show rd P (getObj m>>=_) h'=_
 rw[rd_bind _ _ _ _ (rd_getObj hb)]
 show some (goInt _)=_
 simp[hl,goInt]
theorem modify_mid {β:Type} (A B:List β) (t:β) (f:β→β):(A++t::B).modify A.length f=A++f t::B:=by
 induction A with
 |nil=>rfl
 |cons a A ih=>simp only[List.cons_append,List.length_cons,List.modify_succ_cons,ih]
theorem erase_mid {β:Type} (A B:List β) (t:β):(A++t::B).eraseIdx A.length=A++B:=by
 induction A with
 |nil=>rfl
 |cons a A ih=>simp only[List.cons_append,List.length_cons,List.eraseIdx_cons_succ,ih]
theorem gdel_perm {l l':List (α×Value)} (p:l.Perm l') (k:α):(gdel l k).Perm (gdel l' k):=p.filter _
theorem gdel_mid {A B:List (α×Value×Nat)} {k:α} {v:Value} {b:Nat} (hn:((A++(k,v,b)::B).map (·.1)).Nodup):gdel ((A++(k,v,b)::B).map pr) k=(A++B).map pr:=by
 rw[List.map_append,List.map_cons,List.nodup_append] at hn
 obtain⟨_,h2,h3⟩:=hn
 rw[List.nodup_cons] at h2
 unfold gdel
 rw[List.map_append,List.map_cons,List.filter_append,List.filter_cons,if_neg (by simp),List.map_append]
 congr 1
 ·rw[List.filter_eq_self]
  intro e he
  obtain⟨t,ht,rfl⟩:=List.mem_map.1 he
  have:=h3 t.1 (List.mem_map_of_mem ht) k (by simp)
  simp[this]
 ·rw[List.filter_eq_self]
  intro e he
  obtain⟨t,ht,rfl⟩:=List.mem_map.1 he
  have:t.1≠k:=fun e=>h2.1 (List.mem_map.2 ⟨t,ht,e⟩)
  simp[this]
theorem gdel_none {l:List (α×Value)} {k:α} (hn: ∀e∈l,e.1≠k):gdel l k=l:=by
 unfold gdel
 rw[List.filter_eq_self]
 intro e he
 simp[hn e he]
theorem den_putP {t:TypeId} {enc:α→Value} {z:Value} (K:MapKy P t enc z) {h:Heap} {m:Nat} {l:List (α×Value)} (H:MapP h m enc l) {k:α} {v:Value} {Q:Unit→Heap→Prop}
  (hk: ∀h',MapP h' m enc (gput l k v)→h'.size=h.size→(∀c,c≠m→h'[c]? =h[c]?)→Q () h'):denSem P (Instr.mapUpdate t (.map (some m)) (enc k) v) h Q:=by
 obtain⟨kt,e,ht,hkt,_⟩:=K.ty
 obtain⟨T,c,H,hp⟩:=H
 have hlt:=lt_of_get H.blk
 unfold Instr.mapUpdate
 refine den_of_rd (rd_underlying ht) ?_
 simp only
 refine den_of_rd (rd_getObj H.blk) ?_
 simp only
 refine den_of_rd (hkt.chk _ k h) ?_
 have fin: ∀(T':List (α×Value×Nat)) (es':Array MapEntry) (c':Nat),es'.toList=T'.map (ent enc)→(T'.map (·.1)).Nodup→(∀t∈T',t.2.2<c')→(T'.map (·.2.2)).Nodup→(T'.map pr).Perm (gput l k v)→denSem P (setObj m (.map es' c')) h Q:=fun T' es' c' h0 h1 h2 h3 h4=>by
  refine⟨⟨_,H.blk,fun c e f he=>by cases he⟩, ?_⟩
  refine hk _ ⟨T',c',⟨?_,h1,h2,h3⟩,h4⟩ (by simp) (fun x hx=> ?_)
  ·rw[←h0];simp[hlt]
  ·rw[Array.getElem?_setIfInBounds,if_neg (Ne.symm hx)]
 refine den_of_rd (rd_find hkt k h T) ?_
 cases hf:findT k T 0 with
 |none=>
  simp only
  have hno:=findT_none hf
  refine fin (T++ [(k,v,c)]) _ _ (by simp) ?_ ?_ ?_ ?_
  ·rw[List.map_append,List.nodup_append]
   refine⟨H.keys,by simp,fun a ha b hb=> ?_⟩
   obtain⟨t,ht,rfl⟩:=List.mem_map.1 ha
   simp at hb;subst hb
   exact hno t ht
  ·intro t ht
   rcases List.mem_append.1 ht with ht|ht
   ·exact Nat.lt_succ_of_lt (H.old t ht)
   ·obtain rfl:=List.mem_singleton.1 ht;exact Nat.lt_succ_self _
  ·rw[List.map_append,List.nodup_append]
   refine⟨H.born,by simp,fun a ha b hb=> ?_⟩
   obtain⟨t,ht,rfl⟩:=List.mem_map.1 ha
   simp at hb;subst hb
   exact Nat.ne_of_lt (H.old t ht)
  ·unfold gput
   rw[gdel_none (fun e he=>by obtain⟨t,ht,rfl⟩:=List.mem_map.1 (hp.mem_iff.2 he);exact hno t ht),List.map_append]
   exact(List.perm_append_comm.trans (.refl _)).trans (List.Perm.cons _ hp)
 |some jv=>
  obtain⟨j,u⟩:=jv
  obtain⟨A,B,b,rfl,hj⟩:=findT_some hf
  rw[Nat.zero_add] at hj
  subst hj
  simp only
  have hst:rd P (Instr.keyThatStays (((((A++(k,u,b)::B).map (ent enc)).toArray[A.length]?).map (·.key)).getD (enc k)) (enc k)) h=some (enc k):=by
   have:((A++(k,u,b)::B).map (ent enc)).toArray[A.length]? =some (ent enc (k,u,b)):=by simp
   rw[this]
   simp only[Option.map_some,Option.getD_some]
   unfold Instr.keyThatStays
   rw[if_pos (hkt.bits k)];rfl
  refine den_of_rd hst ?_
  refine fin (A++(k,v,b)::B) _ _ ?_ ?_ ?_ ?_ ?_
  ·rw[Array.toList_modify,List.map_append,List.map_cons]
   have:=modify_mid (A.map (ent enc)) (B.map (ent enc)) (ent enc (k,u,b)) (fun e=> { e with key:=enc k,val:=v })
   rw[List.length_map] at this
   rw[this,List.map_append,List.map_cons]
  ·have:=H.keys;simpa using this
  ·intro t ht
   rcases List.mem_append.1 ht with ht|ht
   ·exact H.old t (List.mem_append_left _ ht)
   ·rcases List.mem_cons.1 ht with rfl|ht
    ·exact H.old (k,u,b) (by simp)
    ·exact H.old t (by simp[ht])
  ·have:=H.born;simpa using this
  ·unfold gput
   refine List.Perm.trans ?_ (List.Perm.cons _ ((gdel_mid H.keys▸gdel_perm hp k)))
   rw[List.map_append,List.map_cons,List.map_append]
   exact List.perm_middle
theorem den_delP {t kt' ty:TypeId} {enc:α→Value} {z:Value} (K:MapKy P t enc z) {h:Heap} {m:Nat} {l:List (α×Value)} (H:MapP h m enc l) {k:α} {Q:Value→Heap→Prop}
  (hk: ∀h',MapP h' m enc (gdel l k)→h'.size=h.size→(∀c,c≠m→h'[c]? =h[c]?)→Q (.tuple #[]) h'):denSem P (Builtin.delete_ #[t,kt'] ty #[.map (some m),enc k]) h Q:=by
 obtain⟨kt,e,ht,hkt,_⟩:=K.ty
 obtain⟨T,c,H,hp⟩:=H
 have hlt:=lt_of_get H.blk
 unfold Builtin.delete_
 refine den_of_rd (rd_underlying ht) ?_
 show denSem P (do
   let __x←getObj m
   match __x with
    |Obj.map es clock=>do
     Instr.checkKey es.isEmpty 10000 kt (enc k)
     let __do_lift←Instr.findKey kt (enc k) es.toList
     match __do_lift with
      |some (i,_)=>do
       setObj m (Obj.map (es.eraseIdxIfInBounds i) clock)
       pure (Value.tuple #[])
      |none=>do
       setObj m (Obj.map es clock)
       pure (Value.tuple #[])
    |_=>do
     stuck "delete: map expected"
     pure (Value.tuple #[])) h Q
 refine den_of_rd (rd_getObj H.blk) ?_
 simp only
 refine den_of_rd (hkt.chk _ k h) ?_
 have fin: ∀(T':List (α×Value×Nat)) (es':Array MapEntry),es'.toList=T'.map (ent enc)→(T'.map (·.1)).Nodup→(∀t∈T',t.2.2<c)→(T'.map (·.2.2)).Nodup→(T'.map pr).Perm (gdel l k)→denSem P (do setObj m (.map es' c);pure (Value.tuple #[])) h Q:=fun T' es' h0 h1 h2 h3 h4=>by
  rw[den_bind]
  refine⟨⟨_,H.blk,fun c e f he=>by cases he⟩, ?_⟩
  refine hk _ ⟨T',c,⟨?_,h1,h2,h3⟩,h4⟩ (by simp) (fun x hx=> ?_)
  ·rw[←h0];simp[hlt]
  ·rw[Array.getElem?_setIfInBounds,if_neg (Ne.symm hx)]
 refine den_of_rd (rd_find hkt k h T) ?_
 cases hf:findT k T 0 with
 |none=>
  have hno:=findT_none hf
  refine fin T _ rfl H.keys H.old H.born ?_
  rw[gdel_none (fun e he=>by obtain⟨t,ht,rfl⟩:=List.mem_map.1 (hp.mem_iff.2 he);exact hno t ht)]
  exact hp
 |some jv=>
  obtain⟨j,u⟩:=jv
  obtain⟨A,B,b,rfl,hj⟩:=findT_some hf
  rw[Nat.zero_add] at hj
  subst hj
  have hsub:List.Sublist (A++B) (A++(k,u,b)::B):=List.Sublist.append (List.Sublist.refl _) (List.sublist_cons_self _ _)
  refine fin (A++B) _ ?_ ((hsub.map _).nodup H.keys) (fun t ht=>H.old t (hsub.subset ht)) ((hsub.map _).nodup H.born) (gdel_mid H.keys▸gdel_perm hp k)
  rw[Array.toList_eraseIdxIfInBounds,List.map_append,List.map_cons]
  have:=erase_mid (A.map (ent enc)) (B.map (ent enc)) (ent enc (k,u,b))
  rw[List.length_map] at this
  rw[this,List.map_append]
def Iter (h:Heap) (r m:Nat) (enc:α→Value) (l done:List (α×Value)):Prop:=
 ∃T clock D last,MapT h m enc T clock∧(T.map pr).Perm l∧h[r]? =some (.mapIter (some m) clock (D.map (·.2.2)).toArray last)∧(D≠ []→last=clock)∧D.Nodup∧(∀t∈D,t∈T)∧D.map pr=done∧r≠m
theorem Iter.frame {S:Nat→Prop} {h h':Heap} {r m:Nat} {enc:α→Value} {l done:List (α×Value)} (H:Iter h r m enc l done) (f:Fr S h h') (h1: ¬S r) (h2: ¬S m):Iter h' r m enc l done:=by
 obtain⟨T,c,D,last,A,B,C,E⟩:=H
 exact⟨T,c,D,last,⟨f.get A.blk h2,A.keys,A.old,A.born⟩,B,f.get C h1,E⟩
theorem Iter.le {h:Heap} {r m:Nat} {enc:α→Value} {l done:List (α×Value)} (H:Iter h r m enc l done):done.length≤l.length:=by
 obtain⟨T,c,D,last,A,B,_,_,hn,hs,rfl,_⟩:=H
 rw[List.length_map,←B.length_eq,List.length_map]
 exact hn.length_le_of_subset (fun t ht=>hs t ht)
theorem den_rangeP {t:TypeId} {enc:α→Value} {z:Value} (K:MapKy P t enc z) {h:Heap} {m:Nat} {l:List (α×Value)} (H:MapP h m enc l) {Q:Value→Heap→Prop}
  (hk: ∀r h',r=h.size→Iter h' r m enc l []→Fr (fun _=>False) h h'→Q (.pointer (some ⟨r,0,none⟩)) h'):denSem P (Instr.range t (.map (some m))) h Q:=by
 obtain⟨kt,e,ht,hkt,_⟩:=K.ty
 obtain⟨T,c,H,hp⟩:=H
 unfold Instr.range
 refine den_of_rd (rd_underlying ht) ?_
 simp only
 show denSem P (getObj m>>=_) h Q
 refine den_of_rd (rd_getObj H.blk) ?_
 ·have f:Fr (fun _=>False) h (h.push (.mapIter (some m) c #[] c)):=Fr.push _ _
  exact hk h.size _ rfl ⟨T,c, [],c,⟨f.get H.blk id,H.keys,H.old,H.born⟩,hp,push_new,(fun e=>absurd rfl e), .nil,(fun t ht=>by cases ht),rfl,fun e=>by have:=lt_of_get H.blk;omega⟩ f
theorem choose_den {β:Type} {n:Nat} {g:Nat→Sem β} {h:Heap} {Q:β→Heap→Prop} (hn:0<n) (hk: ∀i,i<n→denSem P (g i) h Q):denSem P (choose (.mapNext n)>>=g) h Q:=by
 show(if(Question.mapNext n).forced=true then denSem P (g 0) h Q else∀t,denSem P (g ((Question.mapNext n).cut t)) h Q)
 split
 ·exact hk 0 hn
 ·intro t;exact hk _ (Nat.mod_lt _ hn)
theorem den_nextP {ty:TypeId} {enc:α→Value} {h:Heap} {r m:Nat} {l done:List (α×Value)} (I:Iter h r m enc l done) {Q:Value→Heap→Prop} (k1:done.Perm l→Q (.tuple #[.bool false]) h)
  (k2: ∀a v h',(a,v)∈l→(a,v)∉done→Iter h' r m enc l (done++ [(a,v)])→h'.size=h.size→(∀c,c≠r→h'[c]? =h[c]?)→Q (.tuple #[.bool true,enc a,v]) h'):
  denSem P (Instr.next (.pointer (some ⟨r,0,none⟩)) false ty) h Q:=by
 classical
 obtain⟨T,c,D,last,M,hp,hr,hlast,hn,hsub,rfl,hne⟩:=I
 have hlt:=lt_of_get hr
 have hTn:T.Nodup:=by
  have:=M.keys
  exact List.Pairwise.of_map (S:=(· ≠ ·)) (·.1) (fun a b hab e=>hab (by rw[e])) this
 unfold Instr.next
 simp only
 have hri:rd P (getObj r) h=some (.mapIter (some m) c (D.map (·.2.2)).toArray last):=by unfold getObj;simp only[rd,hr]
 refine den_of_rd hri ?_
 simp only
 refine den_of_rd (rd_getObj M.blk) ?_
 simp only
 have hq:(!(D.map (·.2.2)).toArray.isEmpty && !(T.map (ent enc)).toArray.isEmpty && (T.map (ent enc)).toArray.all (fun e=>decide (e.born≥last)))=false:=by
  cases hD:D with
  |nil=>rfl
  |cons d D'=>
   have hl:=hlast (by rw[hD];simp)
   have hd:d∈T:=hsub d (by rw[hD];simp)
   have:(T.map (ent enc)).toArray.all (fun e=>decide (e.born≥last))=false:=by
    rw[List.all_toArray,List.all_eq_false]
    exact⟨ent enc d,List.mem_map_of_mem hd,by simp;have:=M.old d hd;omega⟩
   rw[this];simp
 rw[if_neg (by rw[hq];simp)]
 have hleft:(T.map (ent enc)).toArray.filter (fun e=> !(D.map (·.2.2)).toArray.contains e.born)=((T.filter (fun t=> !decide (t∈D))).map (ent enc)).toArray:=by
  apply Array.ext'
  rw[Array.toList_filter]
  simp only[]
  rw[List.filter_map]
  congr 1
  apply List.filter_congr
  intro t ht
  have:(D.map (·.2.2)).toArray.contains (ent enc t).born=decide (t∈D):=by
   by_cases hm:t∈D
   ·rw[decide_eq_true hm];simp;exact⟨t.1,t.2.1,hm⟩
   ·rw[decide_eq_false hm]
    simp only[List.contains_toArray,List.contains_eq_mem,decide_eq_false_iff_not,List.mem_map,not_exists,not_and]
    intro u hu e
    have hinj:u=t:=by
     have hb:=M.born
     have hu':=hsub u hu
     obtain⟨i,hi⟩:=List.getElem?_of_mem hu'
     obtain⟨j,hj⟩:=List.getElem?_of_mem ht
     have hil:=(List.getElem?_eq_some_iff.1 hi).1
     have:=(List.getElem?_inj (l:=T.map (·.2.2)) (i:=i) (j:=j) (by simpa using hil) hb).1 (by rw[List.getElem?_map,List.getElem?_map,hi,hj];simp[e])
     subst this
     rw[hi] at hj
     exact Option.some.inj hj
    exact hm (hinj▸hu)
  simp only[Function.comp,this]
 have hold:(((T.filter (fun t=> !decide (t∈D))).map (ent enc)).toArray.filter (fun e=>decide (e.born<c)))=((T.filter (fun t=> !decide (t∈D))).map (ent enc)).toArray:=by
  rw[Array.filter_eq_self]
  intro e he
  obtain⟨t,ht,rfl⟩:=List.mem_map.1 (List.mem_toArray.1 he)
  exact decide_eq_true (M.old t (List.mem_filter.1 ht).1)
 have hnew:(((T.filter (fun t=> !decide (t∈D))).map (ent enc)).toArray.filter (fun e=>decide (e.born≥c)))= #[]:=by
  rw[Array.filter_eq_empty_iff]
  intro e he
  obtain⟨t,ht,rfl⟩:=List.mem_map.1 (List.mem_toArray.1 he)
  have:=M.old t (List.mem_filter.1 ht).1
  simp;omega
 rw[hleft,hold,hnew]
 simp only[Array.append_empty]
 cases hF:T.filter (fun t=> !decide (t∈D)) with
 |nil=>
  refine choose_den (by simp) fun i hi=> ?_
  have:i=0:=by simpa using hi
  subst this
  have e0:((if((([]:List (α×Value×Nat)).map (ent enc)).toArray.isEmpty=true) then #[none] else #[])++Array.map some (([]:List (α×Value×Nat)).map (ent enc)).toArray)[0]? =some none:=by simp
  rw[e0]
  show denSem P (pure (.tuple #[.bool false])) h Q
  refine k1 ?_
  refine List.Perm.trans (List.Perm.map _ ?_) hp
  rw[List.perm_ext_iff_of_nodup hn hTn]
  intro t
  refine⟨hsub t,fun ht=> ?_⟩
  have:=List.filter_eq_nil_iff.1 hF t ht
  simpa using this
 |cons f F=>
  refine choose_den (by simp) fun i hi=> ?_
  rw[←hF] at hi⊢
  have hne':(((T.filter (fun t=> !decide (t∈D))).map (ent enc)).toArray.isEmpty)=false:=by rw[hF];rfl
  rw[hne'] at hi⊢
  simp only[Bool.false_eq_true,if_false,Array.empty_append] at hi⊢
  have hi':i<(T.filter (fun t=> !decide (t∈D))).length:=by simpa using hi
  obtain⟨t,ht⟩: ∃t,(T.filter (fun t=> !decide (t∈D)))[i]? =some t:=⟨_,List.getElem?_eq_getElem hi'⟩
  have hget:(Array.map some ((T.filter (fun t=> !decide (t∈D))).map (ent enc)).toArray)[i]? =some (some (ent enc t)):=by simp[ht]
  rw[hget]
  have htm:=List.mem_filter.1 (List.mem_of_getElem? ht)
  have htD:t∉D:=by simpa using htm.2
  refine⟨⟨_,hr,fun _ _ _ e=>by cases e⟩, ?_⟩
  refine k2 t.1 t.2.1 _ (hp.mem_iff.1 (List.mem_map_of_mem (f:=pr) htm.1)) ?_ ⟨T,c,D++ [t],c,⟨?_,M.keys,M.old,M.born⟩,hp, ?_,(fun _=>rfl), ?_, ?_, ?_,hne⟩ (by simp) (fun x hx=> ?_)
  ·intro hmem
   obtain⟨u,hu,e⟩:=List.mem_map.1 hmem
   have h1:u.1=t.1:=congrArg (fun x:α×Value=>x.1) e
   have:u=t:=by
    obtain⟨i,hi⟩:=List.getElem?_of_mem (hsub u hu)
    obtain⟨j,hj⟩:=List.getElem?_of_mem htm.1
    have hil:=(List.getElem?_eq_some_iff.1 hi).1
    have:=(List.getElem?_inj (l:=T.map (·.1)) (i:=i) (j:=j) (by simpa using hil) M.keys).1 (by rw[List.getElem?_map,List.getElem?_map,hi,hj];simp[h1])
    subst this
    rw[hi] at hj
    exact Option.some.inj hj
   exact htD (this▸hu)
  ·rw[Array.getElem?_setIfInBounds,if_neg hne];exact M.blk
  ·simp[hlt]
  ·rw[List.nodup_append]
   exact⟨hn,by simp,fun a ha b hb=>by simp at hb;subst hb;exact fun e=>htD (e▸ha)⟩
  ·intro u hu
   rcases List.mem_append.1 hu with hu|hu
   ·exact hsub u hu
   ·obtain rfl:=List.mem_singleton.1 hu;exact htm.1
  ·rw[List.map_append];rfl
  ·rw[Array.getElem?_setIfInBounds,if_neg (Ne.symm hx)]
end
end Go.Den
namespace Go.Den
section
variable {P : Program} {α : Type}
theorem find_born (enc:α→Value) {t:α×Value×Nat} : ∀ {T:List (α×Value×Nat)},(T.map (·.2.2)).Nodup→t∈T→T.find? ((fun e:MapEntry=>e.born==t.2.2) ∘ ent enc)=some t
 | [],_,ht=>by cases ht
 |u::T,hn,ht=>by
  rw[List.map_cons,List.nodup_cons] at hn
  rw[List.find?_cons]
  by_cases hu:u.2.2=t.2.2
  ·have:((fun e:MapEntry=>e.born==t.2.2) ∘ ent enc) u=true:=by simp[hu]
   rw[this]
   rcases List.mem_cons.1 ht with e|e
   ·rw[e]
   ·exact absurd (List.mem_map.2 ⟨t,e,hu.symm⟩) hn.1
  ·have:((fun e:MapEntry=>e.born==t.2.2) ∘ ent enc) u=false:=by simp[hu]
   rw[this]
   rcases List.mem_cons.1 ht with e|e
   ·exact absurd (by rw[e]) hu
   ·exact find_born enc hn.2 e
theorem den_rangeS {t:TypeId} {s:ByteArray} {h:Heap} {Q:Value→Heap→Prop} (ht:P.underlying t=some .string) (hk: ∀r h',r=h.size→h'[r]? =some (.stringIter s 0)→Fr (fun _=>False) h h'→Q (.pointer (some ⟨r,0,none⟩)) h'):
  denSem P (Instr.range t (.string s)) h Q:=by
 unfold Instr.range
 refine den_of_rd (rd_underlying ht) ?_
 exact hk h.size _ rfl push_new (Fr.push _ _)
theorem den_nextS {ty:TypeId} {s:ByteArray} {h:Heap} {r pos:Nat} {Q:Value→Heap→Prop} (hr:h[r]? =some (.stringIter s pos)) (k1:s.size≤pos→Q (.tuple #[.bool false]) h)
  (k2:pos<s.size→ ∀h',h'[r]? =some (.stringIter s (pos+(Utf8.decode s pos).2))→h'.size=h.size→(∀c,c≠r→h'[c]? =h[c]?)→Q (.tuple #[.bool true, .int .i64 (pos:Int), .int .i32 ((Utf8.decode s pos).1:Int)]) h'):
  denSem P (Instr.next (.pointer (some ⟨r,0,none⟩)) true ty) h Q:=by
 have hlt:=lt_of_get hr
 unfold Instr.next
 simp only
 have hri:rd P (getObj r) h=some (.stringIter s pos):=by unfold getObj;simp only[rd,hr]
 refine den_of_rd hri ?_
 simp only
 by_cases hp:pos<s.size
 ·rw[if_pos hp]
  refine⟨⟨_,hr,fun _ _ _ e=>by cases e⟩, ?_⟩
  exact k2 hp _ (by simp[hlt]) (by simp) (fun c hc=>by rw[Array.getElem?_setIfInBounds,if_neg (Ne.symm hc)])
 ·rw[if_neg hp]
  exact k1 (by omega)
theorem den_entryP {enc:α→Value} {h:Heap} {r m:Nat} {l done:List (α×Value)} {a:α} {v:Value} (I:Iter h r m enc l (done++ [(a,v)])) {Q:Value→Heap→Prop} (hk:Q (.tuple #[enc a,v]) h):
  denSem P (Instr.entry (.pointer (some ⟨r,0,none⟩))) h Q:=by
 obtain⟨T,c,D,last,M,hp,hr,hlast,hn,hsub,hd,hne⟩:=I
 rcases List.eq_nil_or_concat D with rfl|⟨D',t,rfl⟩
 ·simp at hd
 rw[List.concat_eq_append] at*
 rw[List.map_append] at hd
 obtain⟨_,e2⟩:=List.append_inj' hd rfl
 have e2:pr t=(a,v):=by simpa using e2
 have e3:t.1=a:=congrArg (fun x:α×Value=>x.1) e2
 have e4:t.2.1=v:=congrArg (fun x:α×Value=>x.2) e2
 have ht:t∈T:=hsub t (by simp)
 have hl:=hlast (by simp)
 unfold Instr.entry
 simp only
 have hri:rd P (getObj r) h=some (.mapIter (some m) c ((D'++ [t]).map (·.2.2)).toArray last):=by unfold getObj;simp only[rd,hr]
 refine den_of_rd hri ?_
 simp only
 have hb:((D'++ [t]).map (·.2.2)).toArray.back? =some t.2.2:=by simp
 rw[hb]
 simp only
 refine den_of_rd (rd_getObj M.blk) ?_
 simp only
 rw[hl,if_neg (by simp)]
 have hf:(T.map (ent enc)).toArray.find? (fun e=>e.born==t.2.2)=some (ent enc t):=by
  rw[List.find?_toArray,List.find?_map]
  have:T.find? ((fun e:MapEntry=>e.born==t.2.2) ∘ ent enc)=some t:=find_born enc M.born ht
  rw[this];rfl
 rw[hf]
 show Q (.tuple #[enc t.1,t.2.1]) h
 rw[e3,e4];exact hk
end
end Go.Den
namespace Go.Den
section
variable {P : Program}
def eqStep (P:Program) (eq:TypeId→Value→Value→Option Bool) (xs ys:Array Value) (t:TypeId) (off:Nat) (acc:Option Bool):Option Bool:=
 match runPure P (part t xs off),runPure P (part t ys off) with
 |some u,some v=>(match eq t u v,acc with|some b,some c=>some (b && c)|_,_=>none)
 |_,_=>none
def eqT (P:Program):Nat→TypeId→Value→Value→Option Bool
 |0,_,_,_=>none
 |n+1,t,x,y=>
  match P.underlying t with
  |some .bool=>(match x,y with| .bool a, .bool b=>some (a==b)|_,_=>none)
  |some (.int _)=>(match x,y with| .int k a, .int k' b=>(match decide (k=k') with|true=>some (a==b)|false=>none)|_,_=>none)
  |some .string=>(match x,y with| .string a, .string b=>some (a==b)|_,_=>none)
  |some (.struct fs)=>(match x,y with
   | .agg xs, .agg ys=>(match P.stoodInHeld t with
    |true=>none
    |false=>fs.toList.foldr (fun f acc=>match decide (f.name= "_") with|true=>acc|false=>eqStep P (eqT P n) xs ys f.type f.offset acc) (some true))
   |_,_=>none)
  |some (.array len e)=>(match x,y,P.info? e with
   | .agg xs, .agg ys,some i=>(List.range len).foldr (fun k acc=>eqStep P (eqT P n) xs ys e (k*i.size) acc) (some true)
   |_,_,_=>none)
  |_=>none
theorem rd_forAll {β:Type} {h:Heap} {step:β→Option Bool→Option Bool} {body:β→Option Bool×Unit→Sem (ForInStep (Option Bool×Unit))} : ∀(l:List β) (b:Bool),l.foldr step (some true)=some b→
  (∀f acc b,step f acc=some b→(acc=some b∧rd P (body f (none,())) h=some (.yield (none,())))∨ ∃q c,acc=some c∧b=(q && c)∧rd P (body f (none,())) h=some (if q=true then .yield (none,()) else .done (some false,())))→
  rd P (forIn l (none,()) body) h=some (if b=true then(none,()) else(some false,()))
 | [],b,hb,_=>by
  cases Option.some.inj hb;rfl
 |f::l,b,hb,hs=>by
  rw[List.foldr_cons] at hb
  rw[List.forIn_cons]
  rcases hs f _ b hb with⟨h1,h2⟩|⟨q,c,h1,rfl,h2⟩
  ·rw[rd_bind _ _ _ _ h2]
   exact rd_forAll l b h1 hs
  ·rw[rd_bind _ _ _ _ h2]
   cases q with
   |true=>rw[Bool.true_and];exact rd_forAll l c h1 hs
   |false=>rfl
theorem eqStep_ok {eq:TypeId→Value→Value→Option Bool} {n:Nat} (heq: ∀t x y b,eq t x y=some b→ ∀h,rd P (Op.equalIn n t x y) h=some b) {xs ys:Array Value} {t:TypeId} {off:Nat} {acc:Option Bool} {b:Bool} {h:Heap} (hh:eqStep P eq xs ys t off acc=some b):
  ∃q c u v,acc=some c∧b=(q && c)∧rd P (part t xs off) h=some u∧rd P (part t ys off) h=some v∧rd P (Op.equalIn n t u v) h=some q:=by
 unfold eqStep at hh
 split at hh
 ·rename_i u v hu hv
  split at hh
  ·rename_i q c hq
   exact⟨q,c,u,v,rfl,(Option.some.inj hh).symm,runPure_rd _ _ hu h,runPure_rd _ _ hv h,heq _ _ _ _ hq h⟩
  ·cases hh
 ·cases hh
theorem eqT_ok : ∀ (n : Nat) (t : TypeId) (x y : Value) (b : Bool), eqT P n t x y = some b → ∀ h, rd P (Op.equalIn n t x y) h = some b
  | 0, _, _, _, _, hh => by cases hh
  | n + 1, t, x, y, b, hh => by
    intro h
    unfold eqT at hh
    unfold Op.equalIn
    split at hh
    · rename_i hu
      rw [rd_bind _ _ _ _ (rd_underlying hu)]
      split at hh
      · rw [← hh]; rfl
      · cases hh
    · rename_i d hu
      rw [rd_bind _ _ _ _ (rd_underlying hu)]
      split at hh
      · rename_i k a k' c
        split at hh
        · rename_i hk
          simp only [of_decide_eq_true hk, if_true]
          rw [← hh]; rfl
        · cases hh
      · cases hh
    · rename_i hu
      rw [rd_bind _ _ _ _ (rd_underlying hu)]
      split at hh
      · rw [← hh]; rfl
      · cases hh
    · rename_i fs hu
      rw [rd_bind _ _ _ _ (rd_underlying hu)]
      split at hh
      · rename_i xs ys
        split at hh
        · cases hh
        · rename_i hst
          dsimp only
          rw [rd_bind _ _ _ _ (show rd P program h = some P from rfl), hst]
          simp only [Bool.false_eq_true, if_false]
          rw [← Array.forIn_toList, rd_bind _ _ _ _ (rd_forAll (h := h) fs.toList b hh ?_)]
          · cases b <;> rfl
          · intro f acc b hs
            split at hs
            · rename_i he
              refine .inl ⟨hs, ?_⟩
              rw [if_neg (by simpa using he)]
              rfl
            · rename_i he
              obtain ⟨q, c, u, v, h1, h2, h3, h4, h5⟩ := eqStep_ok (h := h) (fun t x y b hb h => eqT_ok n t x y b hb h) hs
              refine .inr ⟨q, c, h1, h2, ?_⟩
              rw [if_pos (by simpa using he), rd_bind _ _ _ _ h3, rd_bind _ _ _ _ h4, rd_bind _ _ _ _ h5]
              cases q <;> rfl
      · cases hh
    · rename_i len e hu
      rw [rd_bind _ _ _ _ (rd_underlying hu)]
      split at hh
      · rename_i xs ys i hi
        dsimp only
        rw [rd_bind _ _ _ _ (rd_sizeOf hi), Std.Legacy.Range.forIn_eq_forIn_range']
        have hr : List.range' ([:len] : Std.Legacy.Range).start ([:len] : Std.Legacy.Range).size ([:len] : Std.Legacy.Range).step = List.range len := by
          simp [Std.Legacy.Range.size, List.range_eq_range']
        rw [hr, rd_bind _ _ _ _ (rd_forAll (h := h) (List.range len) b hh ?_)]
        · cases b <;> rfl
        · intro k acc b hs
          obtain ⟨q, c, u, v, h1, h2, h3, h4, h5⟩ := eqStep_ok (h := h) (fun t x y b hb h => eqT_ok n t x y b hb h) hs
          refine .inr ⟨q, c, h1, h2, ?_⟩
          rw [rd_bind _ _ _ _ h3, rd_bind _ _ _ _ h4, rd_bind _ _ _ _ h5]
          cases q <;> rfl
      · cases hh
    · cases hh
theorem EqV.of {t:TypeId} {x y:Value} {b:Bool} (hh:eqT P 10000 t x y=some b):EqV P t x y b:=fun h=>eqT_ok 10000 t x y b hh h
end
end Go.Den
set_option maxRecDepth 100000
set_option maxHeartbeats 4000000
namespace Go.Proofs.YtgccegnmggjkjaaGreatDoor
open Go.Den
variable {h : Heap} {R : Value → Heap → Prop}
theorem eid_plain.host.walk {s : ByteArray} (hv :
 denSem Tryz.prog (Instr.range T.string (.string s)) h fun v h_1 =>
 ∃ (it : Nat), v = .pointer (some ⟨it, 0, none⟩) ∧
 ∃ (I : Heap → Prop) (mu : Heap → Nat), I h_1 ∧ ∀ (h_2 : Heap), I h_2 →
 denSem Tryz.prog (Instr.next (.pointer (some ⟨it, 0, none⟩)) true T.tup_) h_2 fun v_1 h_3 =>
 (v_1 = .tuple #[.bool false] ∧
 R (.bool true) h_3) ∨
 (  ∃ (t9_k t9_v : Value), v_1 = .tuple #[.bool true, t9_k, t9_v] ∧
 ∃ t11, t9_v = .int .i32 t11 ∧
 JoinP (fun (t34 : Bool) (h_4 : Heap) =>
 if t34 = true then
 R (.bool false) h_4
 else
 (I h_4 ∧ mu h_4 < mu h_2))
 (fun J =>
 if (decide (t11 < 97)) = true then
 if (decide (t11 < 48)) = true then
 if (t11 != 45) = true then
 J (t11 != 45) h_3
 else
 J false h_3
 else
 if (decide (t11 > 57)) = true then
 if (t11 != 45) = true then
 J (t11 != 45) h_3
 else
 J false h_3
 else
 J false h_3
 else
 if (decide (t11 > 122)) = true then
 if (decide (t11 < 48)) = true then
 if (t11 != 45) = true then
 J (t11 != 45) h_3
 else
 J false h_3
 else
 if (decide (t11 > 57)) = true then
 if (t11 != 45) = true then
 J (t11 != 45) h_3
 else
 J false h_3
 else
 J false h_3
 else
 J false h_3))) : CallsH Tryz.prog F.eid_plain #[.string s, .int .i32 45] h R :=
 callsH_of_body (.seq .leaf (.seq (.seq .leaf (.block (.loop [] (.seq .leaf (.seq (.cond .leaf .leaf) (.block (.seq (.typed [(11, .one (.int .i32))]) (.seq (.join [(34, .one (.bool))] .leaf) (.cond (.seq .leaf .leaf) .leaf))))))))) (.seq .leaf .leaf))) Tryz.func187 rfl rfl (Eq.mp (by kernel_rfl) hv)
theorem eid_plain.demux.walk {s : ByteArray} (hv :
 denSem Tryz.prog (Instr.range T.string (.string s)) h fun v h_1 =>
 ∃ (it : Nat), v = .pointer (some ⟨it, 0, none⟩) ∧
 ∃ (I : Heap → Prop) (mu : Heap → Nat), I h_1 ∧ ∀ (h_2 : Heap), I h_2 →
 denSem Tryz.prog (Instr.next (.pointer (some ⟨it, 0, none⟩)) true T.tup_) h_2 fun v_1 h_3 =>
 (v_1 = .tuple #[.bool false] ∧
 R (.bool true) h_3) ∨
 (  ∃ (t9_k t9_v : Value), v_1 = .tuple #[.bool true, t9_k, t9_v] ∧
 ∃ t11, t9_v = .int .i32 t11 ∧
 JoinP (fun (t34 : Bool) (h_4 : Heap) =>
 if t34 = true then
 R (.bool false) h_4
 else
 (I h_4 ∧ mu h_4 < mu h_2))
 (fun J =>
 if (decide (t11 < 97)) = true then
 if (decide (t11 < 48)) = true then
 if (t11 != 45) = true then
 J (t11 != 47) h_3
 else
 J false h_3
 else
 if (decide (t11 > 57)) = true then
 if (t11 != 45) = true then
 J (t11 != 47) h_3
 else
 J false h_3
 else
 J false h_3
 else
 if (decide (t11 > 122)) = true then
 if (decide (t11 < 48)) = true then
 if (t11 != 45) = true then
 J (t11 != 47) h_3
 else
 J false h_3
 else
 if (decide (t11 > 57)) = true then
 if (t11 != 45) = true then
 J (t11 != 47) h_3
 else
 J false h_3
 else
 J false h_3
 else
 J false h_3))) : CallsH Tryz.prog F.eid_plain #[.string s, .int .i32 47] h R :=
 callsH_of_body (.seq .leaf (.seq (.seq .leaf (.block (.loop [] (.seq .leaf (.seq (.cond .leaf .leaf) (.block (.seq (.typed [(11, .one (.int .i32))]) (.seq (.join [(34, .one (.bool))] .leaf) (.cond (.seq .leaf .leaf) .leaf))))))))) (.seq .leaf .leaf))) Tryz.func187 rfl rfl (Eq.mp (by kernel_rfl) hv)
theorem eid_Right.walk {x_0 : Bool} {x_1 : Int} {x_2 : Int} {x_3 : ByteArray} {x_4 : ByteArray} (hv :
 NewP h (.cells #[.bool x_0, .int .u64 x_1, .int .u64 x_2, .string x_3, .string x_4] T.eid_Eid) fun b h_1 =>
 eid_Eid.LD h_1 ⟨b, 0, none⟩ fun t4_0 t4_1 t4_2 t4_3 t4_4 =>
 ∃ (eq : Bool), EqV Tryz.prog T.eid_Eid (.agg #[.bool t4_0, .int .u64 t4_1, .int .u64 t4_2, .string t4_3, .string t4_4]) (.agg #[.bool false, .int .u64 0, .int .u64 0, .string (⟨#[]⟩ : ByteArray), .string (⟨#[]⟩ : ByteArray)]) eq ∧
 if eq = true then
 R (.bool true) h_1
 else
 ∃ t9, hcell h_1 ⟨b, 0, none⟩ = some (.bool t9) ∧
 if t9 = true then
 eid_Eid.LD h_1 ⟨b, 0, none⟩ fun t10_0 t10_1 t10_2 t10_3 t10_4 =>
 ∃ t12, hcell h_1 ⟨b, 1, none⟩ = some (.int .u64 t12) ∧
 ∃ t14, hcell h_1 ⟨b, 2, none⟩ = some (.int .u64 t14) ∧
 ∃ (eq_1 : Bool), EqV Tryz.prog T.eid_Eid (.agg #[.bool t10_0, .int .u64 t10_1, .int .u64 t10_2, .string t10_3, .string t10_4]) (.agg #[.bool true, .int .u64 t12, .int .u64 t14, .string (⟨#[]⟩ : ByteArray), .string (⟨#[]⟩ : ByteArray)]) eq_1 ∧
 if eq_1 = true then
 ∃ t19, hcell h_1 ⟨b, 1, none⟩ = some (.int .u64 t19) ∧
 if (decide (t19 ≥ 1)) = true then
 ∃ t24, hcell h_1 ⟨b, 1, none⟩ = some (.int .u64 t24) ∧
 if (decide (t24 ≤ 4294967295)) = true then
 ∃ t29, hcell h_1 ⟨b, 2, none⟩ = some (.int .u64 t29) ∧
 R (.bool (decide (t29 ≤ 4294967295))) h_1
 else
 R (.bool false) h_1
 else
 R (.bool false) h_1
 else
 R (.bool false) h_1
 else
 eid_Eid.LD h_1 ⟨b, 0, none⟩ fun t32_0 t32_1 t32_2 t32_3 t32_4 =>
 ∃ t34, hcell h_1 ⟨b, 3, none⟩ = some (.string t34) ∧
 ∃ t36, hcell h_1 ⟨b, 4, none⟩ = some (.string t36) ∧
 ∃ (eq_2 : Bool), EqV Tryz.prog T.eid_Eid (.agg #[.bool t32_0, .int .u64 t32_1, .int .u64 t32_2, .string t32_3, .string t32_4]) (.agg #[.bool false, .int .u64 0, .int .u64 0, .string t34, .string t36]) eq_2 ∧
 if eq_2 = true then
 ∃ t41, hcell h_1 ⟨b, 3, none⟩ = some (.string t41) ∧
 if (decide (((t41.size : Nat) : Int) ≥ 1)) = true then
 ∃ t47, hcell h_1 ⟨b, 3, none⟩ = some (.string t47) ∧
 if (decide (((t47.size : Nat) : Int) ≤ 16)) = true then
 ∃ t53, hcell h_1 ⟨b, 4, none⟩ = some (.string t53) ∧
 if (decide (((t53.size : Nat) : Int) ≤ 24)) = true then
 ∃ t59, hcell h_1 ⟨b, 3, none⟩ = some (.string t59) ∧
 Cl F.eid_plain #[.string t59, .int .i32 45] h_1 fun v h_2 =>
 ∃ t60, v = .bool t60 ∧
 if t60 = true then
 ∃ t64, hcell h_2 ⟨b, 4, none⟩ = some (.string t64) ∧
 Cl F.eid_plain #[.string t64, .int .i32 47] h_2 fun v_1 h_3 =>
 ∃ t65, v_1 = .bool t65 ∧
 R (.bool t65) h_3
 else
 R (.bool false) h_2
 else
 R (.bool false) h_1
 else
 R (.bool false) h_1
 else
 R (.bool false) h_1
 else
 R (.bool false) h_1) : CallsH Tryz.prog F.eid_Right #[.agg #[.bool x_0, .int .u64 x_1, .int .u64 x_2, .string x_3, .string x_4]] h R :=
 callsH_of_body (.seq .leaf (.seq (.block (.seq .leaf (.cond (.seq .leaf .leaf) (.seq .leaf (.cond (.seq .leaf .leaf) .leaf))))) (.seq .leaf .leaf))) Tryz.func145 rfl rfl (Eq.mp (by kernel_rfl) hv)
theorem eid_class.walk {x_0 : Bool} {x_1 : Int} {x_2 : Int} {x_3 : ByteArray} {x_4 : ByteArray} (hv :
 NewP h (.cells #[.bool x_0, .int .u64 x_1, .int .u64 x_2, .string x_3, .string x_4] T.eid_Eid) fun b h_1 =>
 eid_Eid.LD h_1 ⟨b, 0, none⟩ fun t4_0 t4_1 t4_2 t4_3 t4_4 =>
 ∃ (eq : Bool), EqV Tryz.prog T.eid_Eid (.agg #[.bool t4_0, .int .u64 t4_1, .int .u64 t4_2, .string t4_3, .string t4_4]) (.agg #[.bool false, .int .u64 0, .int .u64 0, .string (⟨#[]⟩ : ByteArray), .string (⟨#[]⟩ : ByteArray)]) eq ∧
 if eq = true then
 R (.int .i64 0) h_1
 else
 ∃ t9, hcell h_1 ⟨b, 0, none⟩ = some (.bool t9) ∧
 if t9 = true then
 R (.int .i64 1) h_1
 else
 R (.int .i64 2) h_1) : CallsH Tryz.prog F.eid_class #[.agg #[.bool x_0, .int .u64 x_1, .int .u64 x_2, .string x_3, .string x_4]] h R :=
 callsH_of_body (.seq .leaf (.seq (.block (.seq .leaf (.cond (.seq .leaf .leaf) (.seq .leaf (.cond (.seq .leaf .leaf) .leaf))))) (.seq .leaf .leaf))) Tryz.func193 rfl rfl (Eq.mp (by kernel_rfl) hv)
theorem eid_Less.walk {a_0 : Bool} {a_1 : Int} {a_2 : Int} {a_3 : ByteArray} {a_4 : ByteArray} {b_0 : Bool} {b_1 : Int} {b_2 : Int} {b_3 : ByteArray} {b_4 : ByteArray} (hv :
 NewP h (.cells #[.bool a_0, .int .u64 a_1, .int .u64 a_2, .string a_3, .string a_4] T.eid_Eid) fun b h_1 =>
 NewP h_1 (.cells #[.bool b_0, .int .u64 b_1, .int .u64 b_2, .string b_3, .string b_4] T.eid_Eid) fun b_1 h_2 =>
 eid_Eid.LD h_2 ⟨b, 0, none⟩ fun t6_0 t6_1 t6_2 t6_3 t6_4 =>
 eid_Eid.LD h_2 ⟨b_1, 0, none⟩ fun t8_0 t8_1 t8_2 t8_3 t8_4 =>
 Cl F.eid_class #[.agg #[.bool t6_0, .int .u64 t6_1, .int .u64 t6_2, .string t6_3, .string t6_4]] h_2 fun v h_3 =>
 ∃ t7, v = .int .i64 t7 ∧
 heldL ⟨b_1, 0, none⟩ [.bool t8_0, .int .u64 t8_1, .int .u64 t8_2, .string t8_3, .string t8_4] 0 h_3 ∧
 Cl F.eid_class #[.agg #[.bool t8_0, .int .u64 t8_1, .int .u64 t8_2, .string t8_3, .string t8_4]] h_3 fun v_1 h_4 =>
 ∃ t9, v_1 = .int .i64 t9 ∧
 if (t7 != t9) = true then
 eid_Eid.LD h_4 ⟨b, 0, none⟩ fun t11_0 t11_1 t11_2 t11_3 t11_4 =>
 eid_Eid.LD h_4 ⟨b_1, 0, none⟩ fun t13_0 t13_1 t13_2 t13_3 t13_4 =>
 Cl F.eid_class #[.agg #[.bool t11_0, .int .u64 t11_1, .int .u64 t11_2, .string t11_3, .string t11_4]] h_4 fun v_2 h_5 =>
 ∃ t12, v_2 = .int .i64 t12 ∧
 heldL ⟨b_1, 0, none⟩ [.bool t13_0, .int .u64 t13_1, .int .u64 t13_2, .string t13_3, .string t13_4] 0 h_5 ∧
 Cl F.eid_class #[.agg #[.bool t13_0, .int .u64 t13_1, .int .u64 t13_2, .string t13_3, .string t13_4]] h_5 fun v_3 h_6 =>
 ∃ t14, v_3 = .int .i64 t14 ∧
 R (.bool (decide (t12 < t14))) h_6
 else
 ∃ t18, hcell h_4 ⟨b, 1, none⟩ = some (.int .u64 t18) ∧
 ∃ t20, hcell h_4 ⟨b_1, 1, none⟩ = some (.int .u64 t20) ∧
 if (t18 != t20) = true then
 ∃ t23, hcell h_4 ⟨b, 1, none⟩ = some (.int .u64 t23) ∧
 ∃ t25, hcell h_4 ⟨b_1, 1, none⟩ = some (.int .u64 t25) ∧
 R (.bool (decide (t23 < t25))) h_4
 else
 ∃ t29, hcell h_4 ⟨b, 2, none⟩ = some (.int .u64 t29) ∧
 ∃ t31, hcell h_4 ⟨b_1, 2, none⟩ = some (.int .u64 t31) ∧
 if (t29 != t31) = true then
 ∃ t34, hcell h_4 ⟨b, 2, none⟩ = some (.int .u64 t34) ∧
 ∃ t36, hcell h_4 ⟨b_1, 2, none⟩ = some (.int .u64 t36) ∧
 R (.bool (decide (t34 < t36))) h_4
 else
 ∃ t40, hcell h_4 ⟨b, 3, none⟩ = some (.string t40) ∧
 ∃ t42, hcell h_4 ⟨b_1, 3, none⟩ = some (.string t42) ∧
 if (!(t40.toList == t42.toList)) = true then
 ∃ t45, hcell h_4 ⟨b, 3, none⟩ = some (.string t45) ∧
 ∃ t47, hcell h_4 ⟨b_1, 3, none⟩ = some (.string t47) ∧
 R (.bool (Op.bytesLess t45.toList t47.toList)) h_4
 else
 ∃ t50, hcell h_4 ⟨b, 4, none⟩ = some (.string t50) ∧
 ∃ t52, hcell h_4 ⟨b_1, 4, none⟩ = some (.string t52) ∧
 R (.bool (Op.bytesLess t50.toList t52.toList)) h_4) : CallsH Tryz.prog F.eid_Less #[.agg #[.bool a_0, .int .u64 a_1, .int .u64 a_2, .string a_3, .string a_4], .agg #[.bool b_0, .int .u64 b_1, .int .u64 b_2, .string b_3, .string b_4]] h R :=
 callsH_of_body (.seq .leaf (.seq (.block (.seq (.plan (.op 0 (.op 2 (.op 1 (.op 3 (.op 4 (.op 5 .done))))))) (.cond (.seq (.plan (.op 0 (.op 2 (.op 1 (.op 3 (.op 4 (.op 5 .done))))))) .leaf) (.seq .leaf (.cond (.seq .leaf .leaf) (.seq .leaf (.cond (.seq .leaf .leaf) (.seq .leaf (.cond (.seq .leaf .leaf) .leaf))))))))) (.seq .leaf .leaf))) Tryz.func155 rfl rfl (Eq.mp (by kernel_rfl) hv)
end Go.Proofs.YtgccegnmggjkjaaGreatDoor
set_option maxRecDepth 100000
namespace Go.Proofs.YtgccegnmggjkjaaGreatDoor
open Go.Den
namespace Eid
theorem ba_beq {a b:ByteArray} :(a==b)=true↔a=b:=by
 obtain⟨a⟩:=a
 obtain⟨b⟩:=b
 constructor
 ·intro h
  have h:(a==b)=true:=h
  rw[eq_of_beq h]
 ·intro h
  cases h
  show(a==a)=true
  simp
structure Ev where
 ipn:Bool
 node:Int
 svc:Int
 host:ByteArray
 dem:ByteArray
theorem Ev.ext' {x y:Ev} (h0:x.ipn=y.ipn) (h1:x.node=y.node) (h2:x.svc=y.svc) (h3:x.host=y.host) (h4:x.dem=y.dem):x=y:=by
 cases x;cases y;simp at h0 h1 h2 h3 h4;simp[h0,h1,h2,h3,h4]
def eqB (x y:Ev):Bool:=x.ipn==y.ipn && (x.node==y.node && (x.svc==y.svc && (x.host==y.host && (x.dem==y.dem && true))))
theorem eqB_iff {x y:Ev} :eqB x y=true↔x=y:=by
 unfold eqB
 simp only[Bool.and_eq_true,beq_iff_eq,ba_beq,and_true]
 constructor
 ·rintro⟨h0,h1,h2,h3,h4⟩;exact Ev.ext' h0 h1 h2 h3 h4
 ·rintro rfl;simp
instance : DecidableEq Ev := fun x y => decidable_of_iff (eqB x y = true) eqB_iff
theorem eqB_dec (x y:Ev):eqB x y=decide (x=y):=by
 by_cases h:x=y
 ·rw[decide_eq_true h];exact eqB_iff.2 h
 ·rw[decide_eq_false h]
  cases hb:eqB x y
  ·rfl
  ·exact absurd (eqB_iff.1 hb) h
def ev5 (x:Ev):Value:= .agg #[.bool x.ipn, .int .u64 x.node, .int .u64 x.svc, .string x.host, .string x.dem]
def Ev.zero:Ev:=⟨false,0,0,⟨#[]⟩,⟨#[]⟩⟩
theorem eqv (x y:Ev):EqV Tryz.prog T.eid_Eid (ev5 x) (ev5 y) (decide (x=y)):=by
 rw[←eqB_dec]
 exact EqV.of (by unfold eqB;kernel_rfl)
theorem eqv' {x y:Ev} {a b:Value} (ha:a=ev5 x) (hb:b=ev5 y):EqV Tryz.prog T.eid_Eid a b (decide (x=y)):=by subst ha hb;exact eqv x y
theorem chk (e:Bool) (a:Ev) (h:Heap):rd Tryz.prog (Instr.checkKey e 10000 T.eid_Eid (ev5 a)) h=some ():=by kernel_rfl
theorem under:(Tryz.prog.underlying T.eid_Eid).isSome=true:=by kernel_rfl
theorem key:KeyOk Tryz.prog T.eid_Eid ev5:=⟨eqv,chk,by
 obtain⟨d,h⟩:=Option.isSome_iff_exists.1 under
 exact⟨d,h,fun a b=> .inl (by unfold ev5;cases d<;>rfl)⟩,fun a=>by unfold ev5;simp[Instr.sameBits,ba_beq.2]⟩
def pl (more c:UInt8):Bool:=(decide (97≤c) && decide (c≤122))||(decide (48≤c) && decide (c≤57))||c==45||c==more
def plainB (more:UInt8) (s:ByteArray):Bool:=s.data.toList.all (pl more)
def rightE (x:Ev):Bool:=
 if x= .zero then true
 else if x.ipn=true then decide (x.host=⟨#[]⟩∧x.dem=⟨#[]⟩∧1≤x.node∧x.node≤4294967295∧x.svc≤4294967295)
 else decide (x.node=0∧x.svc=0∧1≤x.host.size∧x.host.size≤16∧x.dem.size≤24) && (plainB 45 x.host && plainB 47 x.dem)
def classE (x:Ev):Int:=if x= .zero then 0 else if x.ipn=true then 1 else 2
def bl (a b:ByteArray):Bool:=Op.bytesLess a.toList b.toList
def lessE (x y:Ev):Bool:=
 if classE x≠classE y then decide (classE x<classE y)
 else if x.node≠y.node then decide (x.node<y.node)
 else if x.svc≠y.svc then decide (x.svc<y.svc)
 else if x.host≠y.host then bl x.host y.host
 else bl x.dem y.dem
theorem bytes_irrefl: ∀a:List UInt8,Op.bytesLess a a=false
 | []=>rfl
 |a::x=>by unfold Op.bytesLess;simp[bytes_irrefl x]
theorem bytes_trans: ∀ {a b c:List UInt8},Op.bytesLess a b=true→Op.bytesLess b c=true→Op.bytesLess a c=true
 |_, [],_,h,_=>by unfold Op.bytesLess at h;cases h
 |_,_::_, [],_,h=>by unfold Op.bytesLess at h;cases h
 | [],b::y,c::z,_,_=>rfl
 |a::x,b::y,c::z,h1,h2=>by
  unfold Op.bytesLess at h1 h2⊢
  simp only[Bool.or_eq_true,decide_eq_true_eq,Bool.and_eq_true,beq_iff_eq] at h1 h2⊢
  rcases h1 with h1|⟨rfl,h1⟩
  ·rcases h2 with h2|⟨rfl,h2⟩
   ·exact .inl (UInt8.lt_trans h1 h2)
   ·exact .inl h1
  ·rcases h2 with h2|⟨rfl,h2⟩
   ·exact .inl h2
   ·exact .inr ⟨rfl,bytes_trans h1 h2⟩
theorem bytes_total: ∀ {a b:List UInt8},a≠b→Op.bytesLess a b=true∨Op.bytesLess b a=true
 | [], [],h=>absurd rfl h
 | [],_::_,_=> .inl rfl
 |_::_, [],_=> .inr rfl
 |a::x,b::y,h=>by
  unfold Op.bytesLess
  simp only[Bool.or_eq_true,decide_eq_true_eq,Bool.and_eq_true,beq_iff_eq]
  by_cases e:a=b
  ·subst e
   rcases bytes_total (a:=x) (b:=y) (fun e=>h (by rw[e])) with h1|h1
   ·exact .inl (.inr ⟨rfl,h1⟩)
   ·exact .inr (.inr ⟨rfl,h1⟩)
  ·rcases UInt8.lt_or_lt_of_ne e with h1|h1
   ·exact .inl (.inl h1)
   ·exact .inr (.inl h1)
theorem bl_ne {a b:ByteArray} (h:a≠b):bl a b=true∨bl b a=true:=by
 refine bytes_total fun e=>h ?_
 rw[toList_data,toList_data] at e
 cases a;cases b
 simp only[ByteArray.mk.injEq]
 exact Array.ext' e
theorem bl_trans {a b c:ByteArray} (h1:bl a b=true) (h2:bl b c=true):bl a c=true:=bytes_trans h1 h2
theorem bl_irrefl (a:ByteArray):bl a a=false:=bytes_irrefl _
theorem less_iff {x y:Ev} :lessE x y=true↔classE x<classE y∨(classE x=classE y∧(x.node<y.node∨(x.node=y.node∧(x.svc<y.svc∨(x.svc=y.svc∧((x.host≠y.host∧bl x.host y.host=true)∨(x.host=y.host∧bl x.dem y.dem=true))))))):=by
 unfold lessE
 by_cases h0:classE x=classE y
 ·rw[if_neg (by simpa using h0)]
  by_cases h1:x.node=y.node
  ·rw[if_neg (by simpa using h1)]
   by_cases h2:x.svc=y.svc
   ·rw[if_neg (by simpa using h2)]
    by_cases h3:x.host=y.host
    ·rw[if_neg (by simpa using h3)];simp[h0,h1,h2,h3]
    ·rw[if_pos h3];simp[h0,h1,h2,h3]
   ·rw[if_pos h2];simp[h0,h1,h2]
  ·rw[if_pos h1];simp[h0,h1]
 ·rw[if_pos h0];simp[h0]
theorem less_irrefl (x:Ev):lessE x x=false:=by
 cases h:lessE x x
 ·rfl
 ·rw[less_iff] at h
  rcases h with h|⟨_,h|⟨_,h|⟨_,⟨h,_⟩|⟨_,h⟩⟩⟩⟩
  ·omega
  ·omega
  ·omega
  ·exact absurd rfl h
  ·rw[bl_irrefl] at h;cases h
theorem less_trans {x y z:Ev} (h1:lessE x y=true) (h2:lessE y z=true):lessE x z=true:=by
 rw[less_iff] at h1 h2⊢
 rcases h1 with h1|⟨c1,h1⟩
 ·rcases h2 with h2|⟨c2,_⟩
  ·exact .inl (by omega)
  ·exact .inl (by omega)
 rcases h2 with h2|⟨c2,h2⟩
 ·exact .inl (by omega)
 refine .inr ⟨by omega, ?_⟩
 rcases h1 with h1|⟨n1,h1⟩
 ·rcases h2 with h2|⟨n2,_⟩<;>exact .inl (by omega)
 rcases h2 with h2|⟨n2,h2⟩
 ·exact .inl (by omega)
 refine .inr ⟨by omega, ?_⟩
 rcases h1 with h1|⟨s1,h1⟩
 ·rcases h2 with h2|⟨s2,_⟩<;>exact .inl (by omega)
 rcases h2 with h2|⟨s2,h2⟩
 ·exact .inl (by omega)
 refine .inr ⟨by omega, ?_⟩
 rcases h1 with⟨e1,h1⟩|⟨e1,h1⟩
 ·rcases h2 with⟨e2,h2⟩|⟨e2,h2⟩
  ·refine .inl ⟨fun e=> ?_,bl_trans h1 h2⟩
   have:=bl_trans h1 (e▸h2)
   rw[bl_irrefl] at this;cases this
  ·exact .inl (by rw[←e2];exact⟨e1,h1⟩)
 ·rcases h2 with⟨e2,h2⟩|⟨e2,h2⟩
  ·exact .inl (by rw[e1];exact⟨e2,h2⟩)
  ·exact .inr ⟨e1.trans e2,bl_trans h1 h2⟩
theorem class_zero {x y:Ev} (h:classE x=classE y) (hx:x= .zero):y= .zero:=by
 unfold classE at h
 rw[if_pos hx] at h
 by_cases hy:y= .zero
 ·exact hy
 ·rw[if_neg hy] at h
  split at h<;>omega
theorem less_total {x y:Ev} (h:x≠y):lessE x y=true∨lessE y x=true:=by
 rw[less_iff,less_iff]
 by_cases h0:classE x=classE y
 ·by_cases h1:x.node=y.node
  ·by_cases h2:x.svc=y.svc
   ·by_cases h3:x.host=y.host
    ·have h4:x.dem≠y.dem:=fun e=>by
      have hx0:x≠ .zero:=fun e0=>h (e0.trans (class_zero h0 e0).symm)
      have hy0:y≠ .zero:=fun e0=>h ((class_zero h0.symm e0).trans e0.symm)
      unfold classE at h0
      rw[if_neg hx0,if_neg hy0] at h0
      have hi:x.ipn=y.ipn:=by
       cases ex:x.ipn<;>cases ey:y.ipn<;>simp[ex,ey] at h0⊢
      exact h (Ev.ext' hi h1 h2 h3 e)
     rcases bl_ne h4 with h5|h5
     ·exact .inl (.inr ⟨h0, .inr ⟨h1, .inr ⟨h2, .inr ⟨h3,h5⟩⟩⟩⟩)
     ·exact .inr (.inr ⟨h0.symm, .inr ⟨h1.symm, .inr ⟨h2.symm, .inr ⟨h3.symm,h5⟩⟩⟩⟩)
    ·rcases bl_ne h3 with h5|h5
     ·exact .inl (.inr ⟨h0, .inr ⟨h1, .inr ⟨h2, .inl ⟨h3,h5⟩⟩⟩⟩)
     ·exact .inr (.inr ⟨h0.symm, .inr ⟨h1.symm, .inr ⟨h2.symm, .inl ⟨Ne.symm h3,h5⟩⟩⟩⟩)
   ·rcases Int.lt_or_gt_of_ne h2 with h5|h5
    ·exact .inl (.inr ⟨h0, .inr ⟨h1, .inl h5⟩⟩)
    ·exact .inr (.inr ⟨h0.symm, .inr ⟨h1.symm, .inl h5⟩⟩)
  ·rcases Int.lt_or_gt_of_ne h1 with h5|h5
   ·exact .inl (.inr ⟨h0, .inl h5⟩)
   ·exact .inr (.inr ⟨h0.symm, .inl h5⟩)
 ·rcases Int.lt_or_gt_of_ne h0 with h5|h5
  ·exact .inl (.inl h5)
  ·exact .inr (.inl h5)
variable {h : Heap} {R : Value → Heap → Prop}
theorem get_at {s:ByteArray} {i:Nat} (hi:i<s.size):s.get! i=s.data.toList.getD i 0:=by
 have:i<s.data.size:=hi
 show s.data[i]! =_
 have e:s.data.toList[i]? =some s.data[i]:=by rw[Array.getElem?_toList];exact Array.getElem?_eq_getElem this
 rw[getElem!_pos s.data i this,List.getD_eq_getElem?_getD,e]
 rfl
theorem decode_at (s:ByteArray) (i:Nat) (hi:i<s.size):(s.data.toList.getD i 0<128→Utf8.decode s i=((s.data.toList.getD i 0).toNat,1))∧(¬s.data.toList.getD i 0<128→128≤(Utf8.decode s i).1):=by
 have e:=get_at hi
 have e0:(s.get! (i+0)).toNat=(s.data.toList.getD i 0).toNat:=by rw[Nat.add_zero,e]
 constructor
 ·intro h
  have h:(s.data.toList.getD i 0).toNat<128:=h
  unfold Utf8.decode
  simp only[e0]
  rw[if_pos h]
 ·intro h
  have h: ¬(s.data.toList.getD i 0).toNat<128:=h
  unfold Utf8.decode
  simp only[e0]
  rw[if_neg h]
  split
  ·split
   ·omega
   ·show 128≤Utf8.runeError;decide
  ·split
   ·split
    ·rename_i hc;simp only[Bool.and_eq_true,decide_eq_true_eq] at hc;show 128≤_;omega
    ·show 128≤Utf8.runeError;decide
   ·split
    ·split
     ·rename_i hc;simp only[Bool.and_eq_true,decide_eq_true_eq] at hc;show 128≤_;omega
     ·show 128≤Utf8.runeError;decide
    ·show 128≤Utf8.runeError;decide
def np (more:Int) (c:Int):Bool:=(decide (c<97)||decide (c>122)) && ((decide (c<48)||decide (c>57)) && ((c !=45) && (c !=more)))
theorem np_big {more c:Int} (hm:more<128) (h:128≤c):np more c=true:=by
 unfold np
 have h1:c>122:=by omega
 have h2:c>57:=by omega
 have h3:c≠45:=by omega
 have h4:c≠more:=by omega
 simp[h1,h2,h3,h4]
theorem np_pl (more:UInt8) (b:UInt8):np (more.toNat:Int) (b.toNat:Int)= !pl more b:=by
 have e1:(b=45)↔((b.toNat:Int)=45):=by
  constructor
  ·rintro rfl;rfl
  ·intro e;exact UInt8.toNat_inj.1 (by show b.toNat=45;omega)
 have e2:(b=more)↔((b.toNat:Int)=(more.toNat:Int)):=by
  constructor
  ·rintro rfl;rfl
  ·intro e;exact UInt8.toNat_inj.1 (by omega)
 have e3:(97≤b)↔ ¬((b.toNat:Int)<97):=by rw[UInt8.le_iff_toNat_le];show 97≤b.toNat↔_;omega
 have e4:(b≤122)↔ ¬((b.toNat:Int)>122):=by rw[UInt8.le_iff_toNat_le];show b.toNat≤122↔_;omega
 have e5:(48≤b)↔ ¬((b.toNat:Int)<48):=by rw[UInt8.le_iff_toNat_le];show 48≤b.toNat↔_;omega
 have e6:(b≤57)↔ ¬((b.toNat:Int)>57):=by rw[UInt8.le_iff_toNat_le];show b.toNat≤57↔_;omega
 unfold np pl
 have e7:(b==45)=decide ((b.toNat:Int)=45):=by by_cases q:b=45<;>simp[q,e1.symm]
 have e8:(b==more)=decide ((b.toNat:Int)=(more.toNat:Int)):=by
  by_cases q:b=more
  ·simp[q]
  ·have: ¬((b.toNat:Int)=(more.toNat:Int)):=fun e=>q (e2.2 e)
   rw[decide_eq_false this];simp[q]
 rw[e7,e8]
 simp only[e3,e4,e5,e6]
 by_cases q1:(b.toNat:Int)<97<;>by_cases q2:(b.toNat:Int)>122<;>by_cases q3:(b.toNat:Int)<48<;>by_cases q4:(b.toNat:Int)>57<;>by_cases q5:(b.toNat:Int)=45<;>by_cases q6:(b.toNat:Int)=(more.toNat:Int)<;>simp[q1,q2,q3,q4,q5,q6]
end Eid
end Go.Proofs.YtgccegnmggjkjaaGreatDoor
set_option maxRecDepth 100000
namespace Go.Proofs.YtgccegnmggjkjaaGreatDoor
open Go.Den
namespace Eid
variable {h h' : Heap} {R : Value → Heap → Prop}
theorem byte_at {s:ByteArray} {pos:Nat} (hp:pos<s.size):s.data.toList[pos]? =some (s.data.toList.getD pos 0):=by
 have:pos<s.data.toList.length:=hp
 rw[List.getD_eq_getElem?_getD,List.getElem?_eq_getElem this];rfl
theorem pl_lt {more b:UInt8} (hm:more.toNat<128) (h:pl more b=true):b<128:=by
 show b.toNat<128
 by_cases hb:b.toNat<128
 ·exact hb
 ·have h1:=np_big (more:=(more.toNat:Int)) (c:=(b.toNat:Int)) (by omega) (by omega)
  rw[np_pl,h] at h1;cases h1
theorem np_false {more:UInt8} {s:ByteArray} {pos:Nat} (hm:more.toNat<128) (hp:pos<s.size) (h:np (more.toNat:Int) ((Utf8.decode s pos).1:Int)=false):
  pl more (s.data.toList.getD pos 0)=true∧(Utf8.decode s pos).2=1:=by
 obtain⟨h1,h2⟩:=decode_at s pos hp
 by_cases hb:s.data.toList.getD pos 0<128
 ·rw[h1 hb] at h⊢
  rw[np_pl] at h
  exact⟨by simpa using h,rfl⟩
 ·have:=np_big (more:=(more.toNat:Int)) (c:=((Utf8.decode s pos).1:Int)) (by omega) (by have:=h2 hb;omega)
  rw[this] at h;cases h
theorem np_true {more:UInt8} {s:ByteArray} {pos:Nat} (hm:more.toNat<128) (hp:pos<s.size) (h:np (more.toNat:Int) ((Utf8.decode s pos).1:Int)=true):plainB more s=false:=by
 cases hb:plainB more s with
 |false=>rfl
 |true=>
  have hp2:=List.all_eq_true.1 hb _ (List.mem_of_getElem? (byte_at hp))
  obtain⟨h1,_⟩:=decode_at s pos hp
  rw[h1 (pl_lt hm hp2),np_pl,hp2] at h
  cases h
theorem plain_loop {more:UInt8} {s:ByteArray} {it:Nat} {ty:TypeId} {h0 h1:Heap} (hm:more.toNat<128) (hit:h1[it]? =some (.stringIter s 0)) (hge:h0.size≤it) (f1:Fr (fun _=>False) h0 h1) (hk: ∀h',Fr (fun _=>False) h0 h'→R (.bool (plainB more s)) h'):
  ∃(I:Heap→Prop) (mu:Heap→Nat),I h1∧ ∀g,I g→denSem Tryz.prog (Instr.next (.pointer (some ⟨it,0,none⟩)) true ty) g fun v g1=>
   (v= .tuple #[.bool false]∧R (.bool true) g1)∨ ∃(a b:Value),v= .tuple #[.bool true,a,b]∧ ∃(c:Int),b= .int .i32 c∧if np (more.toNat:Int) c=true then R (.bool false) g1 else(I g1∧mu g1<mu g):=by
 refine⟨fun g=> ∃pos,g[it]? =some (.stringIter s pos)∧Fr (fun _=>False) h0 g∧pos≤s.size∧(s.data.toList.take pos).all (pl more)=true,fun g=>(match g[it]? with|some (.stringIter _ p)=>s.size - p|_=>0),⟨0,hit,f1,Nat.zero_le _,by simp⟩, ?_⟩
 rintro g ⟨pos,hg,fg,hle,hall⟩
 refine den_nextS hg (fun hend=> .inl ⟨rfl, ?_⟩) (fun hlt g1 hg1 hs1 ho1=> .inr ⟨_,_,rfl,_,rfl, ?_⟩)
 ·have:plainB more s=true:=by
   unfold plainB
   rw[List.take_of_length_le (by show s.data.toList.length≤pos;exact hend)] at hall
   exact hall
  rw[←this];exact hk g fg
 ·have fg1:Fr (fun _=>False) h0 g1:=fg.fresh (S:=fun c=>c=it) ⟨by omega,fun c _ hn=>ho1 c hn⟩ (fun c e=>by omega)
  cases hn:np (more.toNat:Int) ((Utf8.decode s pos).1:Int) with
  |true=>
   rw[if_pos rfl,←np_true hm hlt hn];exact hk g1 fg1
  |false=>
   rw[if_neg (by simp)]
   obtain⟨h1,h2⟩:=np_false hm hlt hn
   rw[h2] at hg1
   refine⟨⟨pos+1,hg1,fg1,hlt, ?_⟩, ?_⟩
   ·rw[List.take_add_one,byte_at hlt,List.all_append,hall]
    show(true && (pl more (s.data.toList.getD pos 0) && true))=true
    rw[h1];rfl
   ·simp only[hg,hg1];omega
theorem plain_host {s:ByteArray} (hk: ∀h',Fr (fun _=>False) h h'→R (.bool (plainB 45 s)) h'):CallsH Tryz.prog F.eid_plain #[.string s, .int .i32 45] h R:=by
 refine eid_plain.host.walk (den_rangeS (by kernel_rfl) fun r h1 hr hit f1=>⟨_,rfl, ?_⟩)
 obtain⟨I,mu,h2,h3⟩:=plain_loop (more:=45) (ty:=T.tup_) (by decide) hit (by omega) f1 hk
 refine⟨I,mu,h2,fun g hg=>denSem_mono _ _ (fun v g1 hv=> ?_) (h3 g hg)⟩
 rcases hv with hv|⟨a,b,e,c,e2,hv⟩
 ·exact .inl hv
 ·refine .inr ⟨a,b,e,c,e2,JoinP.of fun J hJ=> ?_⟩
  have key:J (np 45 c) g1:=by subst hJ;exact hv
  clear hJ hv
  unfold np at key
  revert key
  generalize decide (c<97)=b1
  generalize decide (c>122)=b2
  generalize decide (c<48)=b3
  generalize decide (c>57)=b4
  generalize (c !=45)=b5
  intro key
  cases b1<;>cases b2<;>cases b3<;>cases b4<;>cases b5<;>exact key
theorem plain_demux {s:ByteArray} (hk: ∀h',Fr (fun _=>False) h h'→R (.bool (plainB 47 s)) h'):CallsH Tryz.prog F.eid_plain #[.string s, .int .i32 47] h R:=by
 refine eid_plain.demux.walk (den_rangeS (by kernel_rfl) fun r h1 hr hit f1=>⟨_,rfl, ?_⟩)
 obtain⟨I,mu,h2,h3⟩:=plain_loop (more:=47) (ty:=T.tup_) (by decide) hit (by omega) f1 hk
 refine⟨I,mu,h2,fun g hg=>denSem_mono _ _ (fun v g1 hv=> ?_) (h3 g hg)⟩
 rcases hv with hv|⟨a,b,e,c,e2,hv⟩
 ·exact .inl hv
 ·refine .inr ⟨a,b,e,c,e2,JoinP.of fun J hJ=> ?_⟩
  have key:J (np 47 c) g1:=by subst hJ;exact hv
  clear hJ hv
  unfold np at key
  revert key
  generalize decide (c<97)=b1
  generalize decide (c>122)=b2
  generalize decide (c<48)=b3
  generalize decide (c>57)=b4
  generalize (c !=45)=b5
  generalize (c !=47)=b6
  intro key
  cases b1<;>cases b2<;>cases b3<;>cases b4<;>cases b5<;>cases b6<;>exact key
abbrev Ev.at (h:Heap) (b:Nat) (x:Ev):Prop:=eid_Eid.at h b x.ipn x.node x.svc x.host x.dem
theorem right_ok (x : Ev) (hk : ∀ h', Fr (fun _ => False) h h' → R (.bool (rightE x)) h') : CallsH Tryz.prog F.eid_Right #[.agg #[.bool x.ipn, .int .u64 x.node, .int .u64 x.svc, .string x.host, .string x.dem]] h R := by
  refine eid_Right.walk (eid_Eid.box fun b h1 eb hb f1 => eid_Eid.ld hb ⟨_, eqv' (y := .zero) (x := x) rfl rfl, ?_⟩)
  have K := hk h1 f1
  unfold rightE at K
  by_cases h0 : x = .zero
  · rw [if_pos (decide_eq_true h0)]
    rw [if_pos h0] at K; exact K
  · rw [if_neg (by simpa using h0)]
    rw [if_neg h0] at K
    refine ⟨_, cell_at hb rfl, ?_⟩
    by_cases hi : x.ipn = true
    · rw [if_pos hi]
      rw [if_pos hi] at K
      refine eid_Eid.ld hb ⟨_, cell_at hb rfl, _, cell_at hb rfl, _, eqv' (y := ⟨true, x.node, x.svc, ⟨#[]⟩, ⟨#[]⟩⟩) (x := x) rfl rfl, ?_⟩
      by_cases he : x = ⟨true, x.node, x.svc, ⟨#[]⟩, ⟨#[]⟩⟩
      · have e1 : x.host = ⟨#[]⟩ := congrArg Ev.host he
        have e2 : x.dem = ⟨#[]⟩ := congrArg Ev.dem he
        rw [if_pos (decide_eq_true he)]
        refine ⟨_, cell_at hb rfl, ?_⟩
        by_cases q1 : x.node ≥ 1
        · rw [if_pos (decide_eq_true q1)]
          refine ⟨_, cell_at hb rfl, ?_⟩
          by_cases q2 : x.node ≤ 4294967295
          · rw [if_pos (decide_eq_true q2)]
            refine ⟨_, cell_at hb rfl, ?_⟩
            have q1' : 1 ≤ x.node := q1
            simp only [e1, e2, q1', q2, true_and] at K
            exact K
          · rw [if_neg (by simpa using q2)]
            simp only [q2, false_and, and_false, decide_false] at K; exact K
        · rw [if_neg (by simpa using q1)]
          have q1' : ¬ 1 ≤ x.node := q1
          simp only [q1', false_and, and_false, decide_false] at K; exact K
      · rw [if_neg (by simpa using he)]
        have : ¬ (x.host = ⟨#[]⟩ ∧ x.dem = ⟨#[]⟩ ∧ 1 ≤ x.node ∧ x.node ≤ 4294967295 ∧ x.svc ≤ 4294967295) := fun ⟨a, b, _⟩ => he (Ev.ext' hi rfl rfl a b)
        rw [decide_eq_false this] at K; exact K
    · have hi' : x.ipn = false := by simpa using hi
      rw [if_neg hi]
      rw [if_neg hi] at K
      refine eid_Eid.ld hb ⟨_, cell_at hb rfl, _, cell_at hb rfl, _, eqv' (y := ⟨false, 0, 0, x.host, x.dem⟩) (x := x) rfl rfl, ?_⟩
      by_cases he : x = ⟨false, 0, 0, x.host, x.dem⟩
      · have e1 : x.node = 0 := congrArg Ev.node he
        have e2 : x.svc = 0 := congrArg Ev.svc he
        rw [if_pos (decide_eq_true he)]
        refine ⟨_, cell_at hb rfl, ?_⟩
        simp only [e1, e2, true_and] at K
        by_cases q1 : 1 ≤ x.host.size
        · rw [if_pos (decide_eq_true (by omega))]
          refine ⟨_, cell_at hb rfl, ?_⟩
          by_cases q2 : x.host.size ≤ 16
          · rw [if_pos (decide_eq_true (by omega))]
            refine ⟨_, cell_at hb rfl, ?_⟩
            by_cases q3 : x.dem.size ≤ 24
            · rw [if_pos (decide_eq_true (by omega))]
              simp only [q1, q2, q3, and_self, decide_true, Bool.true_and] at K
              refine ⟨_, cell_at hb rfl, plain_host fun h2 f2 => ⟨_, rfl, ?_⟩⟩
              have hb2 := f2.get hb id
              by_cases q4 : plainB 45 x.host = true
              · rw [if_pos q4]
                refine ⟨_, cell_at hb2 rfl, plain_demux fun h3 f3 => ⟨_, rfl, ?_⟩⟩
                have := hk h3 (f1.tt (f2.tt f3))
                unfold rightE at this
                rw [if_neg h0, if_neg hi, q4] at this
                simp only [e1, e2, q1, q2, q3, and_self, decide_true, Bool.true_and] at this
                exact this
              · rw [if_neg q4]
                have := hk h2 (f1.tt f2)
                unfold rightE at this
                have q4 : plainB 45 x.host = false := by simpa using q4
                rw [if_neg h0, if_neg hi, q4] at this
                simp only [Bool.false_and, Bool.and_false] at this
                exact this
            · rw [if_neg (by simp; omega)]
              simp only [q3, and_false, decide_false, Bool.false_and] at K; exact K
          · rw [if_neg (by simp; omega)]
            simp only [q2, false_and, and_false, decide_false, Bool.false_and] at K; exact K
        · rw [if_neg (by simp; omega)]
          simp only [q1, false_and, and_false, decide_false, Bool.false_and] at K; exact K
      · rw [if_neg (by simpa using he)]
        have : ¬ (x.node = 0 ∧ x.svc = 0 ∧ 1 ≤ x.host.size ∧ x.host.size ≤ 16 ∧ x.dem.size ≤ 24) := fun ⟨a, b, _⟩ => he (Ev.ext' hi' a b rfl rfl)
        rw [decide_eq_false this, Bool.false_and] at K; exact K
theorem class_ok (x:Ev) (hk: ∀h',Fr (fun _=>False) h h'→R (.int .i64 (classE x)) h'):CallsH Tryz.prog F.eid_class #[.agg #[.bool x.ipn, .int .u64 x.node, .int .u64 x.svc, .string x.host, .string x.dem]] h R:=by
 refine eid_class.walk (eid_Eid.box fun b h1 eb hb f1=>eid_Eid.ld hb ⟨_,eqv' (y:= .zero) (x:=x) rfl rfl, ?_⟩)
 have K:=hk h1 f1
 unfold classE at K
 by_cases h0:x= .zero
 ·rw[if_pos (decide_eq_true h0)];rw[if_pos h0] at K;exact K
 ·rw[if_neg (by simpa using h0)]
  rw[if_neg h0] at K
  refine⟨_,cell_at hb rfl, ?_⟩
  by_cases hi:x.ipn=true
  ·rw[if_pos hi];rw[if_pos hi] at K;exact K
  ·rw[if_neg hi];rw[if_neg hi] at K;exact K
theorem bytes_eq {a b:ByteArray} :(a.toList==b.toList)=true↔a=b:=by
 rw[beq_iff_eq,toList_data,toList_data]
 constructor
 ·intro e;cases a;cases b;simp only[ByteArray.mk.injEq];exact Array.ext' e
 ·rintro rfl;rfl
theorem less_ok (x y:Ev) (hk: ∀h',Fr (fun _=>False) h h'→R (.bool (lessE x y)) h'):CallsH Tryz.prog F.eid_Less #[.agg #[.bool x.ipn, .int .u64 x.node, .int .u64 x.svc, .string x.host, .string x.dem], .agg #[.bool y.ipn, .int .u64 y.node, .int .u64 y.svc, .string y.host, .string y.dem]] h R:=by
 refine eid_Less.walk (eid_Eid.box fun b h1 eb hb f1=>eid_Eid.box fun c h2 ec hc f2=> ?_)
 have hb2:=f2.get hb id
 refine eid_Eid.ld hb2 (eid_Eid.ld hc (class_ok x fun h3 f3=>⟨_,rfl,eid_Eid.held (f3.get hc id),class_ok y fun h4 f4=>⟨_,rfl, ?_⟩⟩))
 have F4:=f3.tt f4
 have hb4:=F4.get hb2 id
 have hc4:=F4.get hc id
 have K:=hk h4 (f1.tt (f2.tt F4))
 unfold lessE at K
 by_cases q0:classE x=classE y
 ·rw[if_neg (by simpa using q0)]
  rw[if_neg (by simpa using q0)] at K
  refine⟨_,cell_at hb4 rfl,_,cell_at hc4 rfl, ?_⟩
  by_cases q1:x.node=y.node
  ·rw[if_neg (by simpa using q1)]
   rw[if_neg (by simpa using q1)] at K
   refine⟨_,cell_at hb4 rfl,_,cell_at hc4 rfl, ?_⟩
   by_cases q2:x.svc=y.svc
   ·rw[if_neg (by simpa using q2)]
    rw[if_neg (by simpa using q2)] at K
    refine⟨_,cell_at hb4 rfl,_,cell_at hc4 rfl, ?_⟩
    by_cases q3:x.host=y.host
    ·rw[if_neg (by simp[bytes_eq.2 q3])]
     rw[if_neg (by simpa using q3)] at K
     exact⟨_,cell_at hb4 rfl,_,cell_at hc4 rfl,K⟩
    ·have:(x.host.toList==y.host.toList)=false:=by
      cases e:x.host.toList==y.host.toList
      ·rfl
      ·exact absurd (bytes_eq.1 e) q3
     rw[if_pos (by simp[this])]
     rw[if_pos q3] at K
     exact⟨_,cell_at hb4 rfl,_,cell_at hc4 rfl,K⟩
   ·rw[if_pos (by simpa using q2)]
    rw[if_pos q2] at K
    exact⟨_,cell_at hb4 rfl,_,cell_at hc4 rfl,K⟩
  ·rw[if_pos (by simpa using q1)]
   rw[if_pos q1] at K
   exact⟨_,cell_at hb4 rfl,_,cell_at hc4 rfl,K⟩
 ·rw[if_pos (by simpa using q0)]
  refine eid_Eid.ld hb4 (eid_Eid.ld hc4 (class_ok x fun h5 f5=>⟨_,rfl,eid_Eid.held (f5.get hc4 id),class_ok y fun h6 f6=>⟨_,rfl, ?_⟩⟩))
  have K:=hk h6 (f1.tt (f2.tt (F4.tt (f5.tt f6))))
  unfold lessE at K
  rw[if_pos q0] at K;exact K
end Eid
end Go.Proofs.YtgccegnmggjkjaaGreatDoor
set_option maxRecDepth 100000
set_option maxHeartbeats 4000000
namespace Go.Proofs.YtgccegnmggjkjaaGreatDoor
open Go.Den
variable {h : Heap} {R : Value → Heap → Prop}
theorem regs_New.walk  (hv :
 NewP h (.map #[] 0) fun b h_1 =>
 NewP h_1 (.cells #[.map (some b)] T.regs_Table) fun b_1 h_2 =>
 R (.pointer (some ⟨b_1, 0, none⟩)) h_2) : CallsH Tryz.prog F.regs_New #[] h R :=
 callsH_of_body (.seq .leaf (.seq .leaf .leaf)) Tryz.func29 rfl rfl (Eq.mp (by kernel_rfl) hv)
theorem regs_Table_made.walk {t : Nat} (hv :
 ∃ t9, hcell h ⟨t, 0, none⟩ = some (.map t9) ∧
 R (.bool (!t9.isNone)) h) : CallsH Tryz.prog F.regs_Table_made #[.pointer (some ⟨t, 0, none⟩)] h R :=
 callsH_of_body (.seq .leaf (.seq .leaf .leaf)) Tryz.func89 rfl rfl (Eq.mp (by kernel_rfl) hv)
theorem regs_isPolicy.walk {n : Int} (hv :
 if (decide (n ≥ 0)) = true then
 R (.bool (decide (n ≤ 2))) h
 else
 R (.bool false) h) : CallsH Tryz.prog F.regs_isPolicy #[.int .i64 n] h R :=
 callsH_of_body (.seq .leaf (.seq .leaf .leaf)) Tryz.func92 rfl rfl (Eq.mp (by kernel_rfl) hv)
theorem regs_right.walk {r_0 : Bool} {r_1 : Int} {r_2 : Int} {r_3 : ByteArray} {r_4 : ByteArray} {r_5 : Int} {r_6 : Int} (hv :
 NewP h (.cells #[.bool r_0, .int .u64 r_1, .int .u64 r_2, .string r_3, .string r_4, .int .i64 r_5, .int .i64 r_6] T.regs_Reg) fun b h_1 =>
 eid_Eid.LD h_1 ⟨b, 0, none⟩ fun t4_0 t4_1 t4_2 t4_3 t4_4 =>
 Cl F.eid_Right #[.agg #[.bool t4_0, .int .u64 t4_1, .int .u64 t4_2, .string t4_3, .string t4_4]] h_1 fun v h_2 =>
 ∃ t5, v = .bool t5 ∧
 if t5 = true then
 eid_Eid.LD h_2 ⟨b, 0, none⟩ fun t8_0 t8_1 t8_2 t8_3 t8_4 =>
 ∃ (eq : Bool), EqV Tryz.prog T.eid_Eid (.agg #[.bool t8_0, .int .u64 t8_1, .int .u64 t8_2, .string t8_3, .string t8_4]) (.agg #[.bool false, .int .u64 0, .int .u64 0, .string (⟨#[]⟩ : ByteArray), .string (⟨#[]⟩ : ByteArray)]) eq ∧
 if (!eq) = true then
 ∃ t14, hcell h_2 ⟨b, 5, none⟩ = some (.int .i64 t14) ∧
 Cl F.regs_isPolicy #[.int .i64 t14] h_2 fun v_1 h_3 =>
 ∃ t15, v_1 = .bool t15 ∧
 if t15 = true then
 ∃ t19, hcell h_3 ⟨b, 6, none⟩ = some (.int .i64 t19) ∧
 if (decide (t19 ≥ 1)) = true then
 ∃ t24, hcell h_3 ⟨b, 6, none⟩ = some (.int .i64 t24) ∧
 R (.bool (decide (t24 ≤ 1099511627776))) h_3
 else
 R (.bool false) h_3
 else
 R (.bool false) h_3
 else
 R (.bool false) h_2
 else
 R (.bool false) h_2) : CallsH Tryz.prog F.regs_right #[.agg #[.bool r_0, .int .u64 r_1, .int .u64 r_2, .string r_3, .string r_4, .int .i64 r_5, .int .i64 r_6]] h R :=
 callsH_of_body (.seq .leaf (.seq .leaf .leaf)) Tryz.func90 rfl rfl (Eq.mp (by kernel_rfl) hv)
theorem regs_Table_Add.walk {t : Nat} {r_0 : Bool} {r_1 : Int} {r_2 : Int} {r_3 : ByteArray} {r_4 : ByteArray} {r_5 : Int} {r_6 : Int} (hv :
 NewP h (.cells #[.bool r_0, .int .u64 r_1, .int .u64 r_2, .string r_3, .string r_4, .int .i64 r_5, .int .i64 r_6] T.regs_Reg) fun b h_1 =>
 Cl F.regs_Table_made #[.pointer (some ⟨t, 0, none⟩)] h_1 fun v h_2 =>
 ∃ t8, v = .bool t8 ∧
 if (!t8) = true then
 R (.int .i64 6) h_2
 else
 ∃ t14, hcell h_2 ⟨t, 0, none⟩ = some (.map t14) ∧
 eid_Eid.LD h_2 ⟨b, 0, none⟩ fun t16_0 t16_1 t16_2 t16_3 t16_4 =>
 ∃ t17_0_0 t17_0_1 t17_0_2 t17_0_3 t17_0_4 t17_0_5 t17_0_6 t17_1, LookV Tryz.prog T.m_eid_Eid_regs_Reg (.map t14) (.agg #[.bool t16_0, .int .u64 t16_1, .int .u64 t16_2, .string t16_3, .string t16_4]) true h_2 (.tuple #[.agg #[.bool t17_0_0, .int .u64 t17_0_1, .int .u64 t17_0_2, .string t17_0_3, .string t17_0_4, .int .i64 t17_0_5, .int .i64 t17_0_6], .bool t17_1]) ∧
 NewP h_2 (.cells #[.bool false, .int .u64 0, .int .u64 0, .string (⟨#[]⟩ : ByteArray), .string (⟨#[]⟩ : ByteArray), .int .i64 0, .int .i64 0] T.regs_Reg) fun b_1 h_3 =>
 mapSame (.map t14) h_2 h_3 ∧
 heldL ⟨b, 0, none⟩ [.bool t16_0, .int .u64 t16_1, .int .u64 t16_2, .string t16_3, .string t16_4] 0 h_3 ∧
 hcell h_3 ⟨t, 0, none⟩ = some (.map t14) ∧
 regs_Reg.ST h_3 ⟨b_1, 0, none⟩ t17_0_0 t17_0_1 t17_0_2 t17_0_3 t17_0_4 t17_0_5 t17_0_6 fun h_4 =>
 regs_Reg.LD h_4 ⟨b, 0, none⟩ fun t21_0 t21_1 t21_2 t21_3 t21_4 t21_5 t21_6 =>
 Cl F.regs_right #[.agg #[.bool t21_0, .int .u64 t21_1, .int .u64 t21_2, .string t21_3, .string t21_4, .int .i64 t21_5, .int .i64 t21_6]] h_4 fun v_1 h_5 =>
 ∃ t22, v_1 = .bool t22 ∧
 if (!t22) = true then
 R (.int .i64 1) h_5
 else
 if t17_1 = true then
 R (.int .i64 11) h_5
 else
 ∃ t30, hcell h_5 ⟨t, 0, none⟩ = some (.map t30) ∧
 ∃ t31 : Int, LenV Tryz.prog #[T.m_eid_Eid_regs_Reg] T.int (.map t30) h_5 (.int .i64 t31) ∧
 if (decide (t31 ≥ 8)) = true then
 R (.int .i64 15) h_5
 else
 ∃ t36, hcell h_5 ⟨t, 0, none⟩ = some (.map t36) ∧
 eid_Eid.LD h_5 ⟨b, 0, none⟩ fun t38_0 t38_1 t38_2 t38_3 t38_4 =>
 regs_Reg.LD h_5 ⟨b, 0, none⟩ fun t39_0 t39_1 t39_2 t39_3 t39_4 t39_5 t39_6 =>
 denSem Tryz.prog (Instr.mapUpdate T.m_eid_Eid_regs_Reg (.map t36) (.agg #[.bool t38_0, .int .u64 t38_1, .int .u64 t38_2, .string t38_3, .string t38_4]) (.agg #[.bool t39_0, .int .u64 t39_1, .int .u64 t39_2, .string t39_3, .string t39_4, .int .i64 t39_5, .int .i64 t39_6])) h_5 fun _ h_6 =>
 R (.int .i64 0) h_6) : CallsH Tryz.prog F.regs_Table_Add #[.pointer (some ⟨t, 0, none⟩), .agg #[.bool r_0, .int .u64 r_1, .int .u64 r_2, .string r_3, .string r_4, .int .i64 r_5, .int .i64 r_6]] h R :=
 callsH_of_body (.seq .leaf (.seq (.seq .leaf (.cond (.seq .leaf .leaf) .leaf)) (.seq (.plan (.op 0 (.op 1 (.op 2 (.op 3 (.op 4 (.op 5 (.op 6 (.op 7 (.op 8 (.op 9 (.op 10 (.op 11 (.op 12 .done)))))))))))))) (.seq (.block (.seq .leaf (.cond (.seq .leaf .leaf) (.seq .leaf (.cond (.seq .leaf .leaf) (.seq .leaf (.cond (.seq .leaf .leaf) .leaf))))))) (.seq (.plan (.op 0 (.op 1 (.op 2 (.op 3 (.op 4 (.op 5 (.op 6 (.op 7 .done))))))))) (.seq .leaf .leaf)))))) Tryz.func32 rfl rfl (Eq.mp (by kernel_rfl) hv)
theorem regs_Table_All.walk {t : Nat} (hv :
 Cl F.regs_Table_made #[.pointer (some ⟨t, 0, none⟩)] h fun v h_1 =>
 ∃ t7, v = .bool t7 ∧
 JoinP (fun (out_p : Option Addr) (out_l out_c : Nat) (h_2 : Heap) =>
 Cl F.slices_SortFunc_s_regs_Reg_regs_Reg #[.slice out_p out_l out_c, .func (.func F.regs_Table_All_1) #[] #[]] h_2 fun v_1 h_3 =>
 v_1 = .tuple #[] ∧
 R (.slice out_p out_l out_c) h_3)
 (fun J =>
 if t7 = true then
 ∃ t11, hcell h_1 ⟨t, 0, none⟩ = some (.map t11) ∧
 denSem Tryz.prog (Instr.range T.m_eid_Eid_regs_Reg (.map t11)) h_1 fun v_2 h_4 =>
 ∃ (it : Nat), v_2 = .pointer (some ⟨it, 0, none⟩) ∧
 ∃ (I : Option Addr → Nat → Nat → Heap → Prop) (mu : Option Addr → Nat → Nat → Heap → Nat), I none 0 0 h_4 ∧ ∀ (out_p_1 : Option Addr) (out_l_1 out_c_1 : Nat) (h_5 : Heap), I out_p_1 out_l_1 out_c_1 h_5 →
 denSem Tryz.prog (Instr.next (.pointer (some ⟨it, 0, none⟩)) false T.tup_) h_5 fun v_3 h_6 =>
 (v_3 = .tuple #[.bool false] ∧
 J out_p_1 out_l_1 out_c_1 h_6) ∨
 (  ∃ (t13_k t13_v : Value), v_3 = .tuple #[.bool true, t13_k, t13_v] ∧
 denSem Tryz.prog (Instr.entry (.pointer (some ⟨it, 0, none⟩))) h_6 fun v_4 h_7 =>
 ∃ (t15_k t15_v : Value), v_4 = .tuple #[t15_k, t15_v] ∧
 ∃ t16_0 t16_1 t16_2 t16_3 t16_4 t16_5 t16_6, t15_v = .agg #[.bool t16_0, .int .u64 t16_1, .int .u64 t16_2, .string t16_3, .string t16_4, .int .i64 t16_5, .int .i64 t16_6] ∧
 NewP h_7 (.cells #[.bool false, .int .u64 0, .int .u64 0, .string (⟨#[]⟩ : ByteArray), .string (⟨#[]⟩ : ByteArray), .int .i64 0, .int .i64 0] T.regs_Reg) fun b h_8 =>
 regs_Reg.ST h_8 ⟨b, 0, none⟩ t16_0 t16_1 t16_2 t16_3 t16_4 t16_5 t16_6 fun h_9 =>
 regs_Reg.LD h_9 ⟨b, 0, none⟩ fun t18_0 t18_1 t18_2 t18_3 t18_4 t18_5 t18_6 =>
 NewP h_9 (.cells #[.bool t18_0, .int .u64 t18_1, .int .u64 t18_2, .string t18_3, .string t18_4, .int .i64 t18_5, .int .i64 t18_6] T.regs_Reg) fun b_1 h_10 =>
 denSem Tryz.prog (Builtin.append_ #[T.s_regs_Reg, T.s_regs_Reg] T.s_regs_Reg #[.slice out_p_1 out_l_1 out_c_1, .slice (some ⟨b_1, 0, none⟩) 1 1]) h_10 fun v_5 h_11 =>
 ∃ t20_p t20_l t20_c, v_5 = .slice t20_p t20_l t20_c ∧
 (I t20_p t20_l t20_c h_11 ∧ mu t20_p t20_l t20_c h_11 < mu out_p_1 out_l_1 out_c_1 h_5))
 else
 J none 0 0 h_1)) : CallsH Tryz.prog F.regs_Table_All #[.pointer (some ⟨t, 0, none⟩)] h R :=
 callsH_of_body (.seq .leaf (.seq .leaf (.seq (.seq .leaf (.join [(3, .one (.slice))] (.cond (.seq .leaf (.block (.loop [(3, .one (.slice))] (.seq .leaf (.seq (.cond .leaf .leaf) (.block (.seq (.typed [(16, .agg [.bool, .int .u64, .int .u64, .str, .str, .int .i64, .int .i64])]) .leaf))))))) .leaf))) (.seq .leaf (.seq .leaf .leaf))))) Tryz.func93 rfl rfl (Eq.mp (by kernel_rfl) hv)
theorem regs_Table_All_1.walk {a_0 : Bool} {a_1 : Int} {a_2 : Int} {a_3 : ByteArray} {a_4 : ByteArray} {a_5 : Int} {a_6 : Int} {b_0 : Bool} {b_1 : Int} {b_2 : Int} {b_3 : ByteArray} {b_4 : ByteArray} {b_5 : Int} {b_6 : Int} (hv :
 NewP h (.cells #[.bool a_0, .int .u64 a_1, .int .u64 a_2, .string a_3, .string a_4, .int .i64 a_5, .int .i64 a_6] T.regs_Reg) fun b h_1 =>
 NewP h_1 (.cells #[.bool b_0, .int .u64 b_1, .int .u64 b_2, .string b_3, .string b_4, .int .i64 b_5, .int .i64 b_6] T.regs_Reg) fun b_1 h_2 =>
 eid_Eid.LD h_2 ⟨b, 0, none⟩ fun t6_0 t6_1 t6_2 t6_3 t6_4 =>
 eid_Eid.LD h_2 ⟨b_1, 0, none⟩ fun t8_0 t8_1 t8_2 t8_3 t8_4 =>
 Cl F.eid_Less #[.agg #[.bool t6_0, .int .u64 t6_1, .int .u64 t6_2, .string t6_3, .string t6_4], .agg #[.bool t8_0, .int .u64 t8_1, .int .u64 t8_2, .string t8_3, .string t8_4]] h_2 fun v h_3 =>
 ∃ t9, v = .bool t9 ∧
 if t9 = true then
 R (.int .i64 (-1)) h_3
 else
 R (.int .i64 1) h_3) : CallsH Tryz.prog F.regs_Table_All_1 #[.agg #[.bool a_0, .int .u64 a_1, .int .u64 a_2, .string a_3, .string a_4, .int .i64 a_5, .int .i64 a_6], .agg #[.bool b_0, .int .u64 b_1, .int .u64 b_2, .string b_3, .string b_4, .int .i64 b_5, .int .i64 b_6]] h R :=
 callsH_of_body (.seq .leaf (.seq (.seq .leaf (.cond (.seq .leaf .leaf) .leaf)) (.seq .leaf .leaf))) Tryz.func154 rfl rfl (Eq.mp (by kernel_rfl) hv)
theorem slices_SortFunc_s_regs_Reg_regs_Reg.reg.walk {x_p : Option Addr} {x_l x_c : Nat} (hv :
 Cl F.math_bits_Len #[.int .u64 (IntKind.wrap .u64 ((x_l : Nat) : Int))] h fun v h_1 =>
 ∃ t11, v = .int .i64 t11 ∧
 Cl F.slices_pdqsortCmpFunc_regs_Reg #[.slice x_p x_l x_c, .int .i64 0, .int .i64 ((x_l : Nat) : Int), .int .i64 t11, .func (.func F.regs_Table_All_1) #[] #[]] h_1 fun v_1 h_2 =>
 v_1 = .tuple #[] ∧
 R (.tuple #[]) h_2) : CallsH Tryz.prog F.slices_SortFunc_s_regs_Reg_regs_Reg #[.slice x_p x_l x_c, .func (.func F.regs_Table_All_1) #[] #[]] h R :=
 callsH_of_body (.seq .leaf .leaf) Tryz.func153 rfl rfl (Eq.mp (by kernel_rfl) hv)
theorem slices_pdqsortCmpFunc_regs_Reg.reg.walk {data_p : Option Addr} {data_l data_c : Nat} {a : Int} {b : Int} {limit : Int} (hv :
 ∃ (I : Int → Int → Int → Bool → Bool → Heap → Prop) (mu : Int → Int → Int → Bool → Bool → Heap → Nat), I a b limit true true h ∧ ∀ (a_1 : Int) (b_1 : Int) (limit_1 : Int) (wasBalanced : Bool) (wasPartitioned : Bool) (h_1 : Heap), I a_1 b_1 limit_1 wasBalanced wasPartitioned h_1 →
 JoinP (fun (a_2 : Int) (b_2 : Int) (limit_2 : Int) (wasBalanced_1 : Bool) (wasPartitioned_1 : Bool) (h_2 : Heap) =>
 (I a_2 b_2 limit_2 wasBalanced_1 wasPartitioned_1 h_2 ∧ mu a_2 b_2 limit_2 wasBalanced_1 wasPartitioned_1 h_2 < mu a_1 b_1 limit_1 wasBalanced wasPartitioned h_1))
 (fun J =>
 if (decide ((IntKind.wrap .i64 (b_1 - a_1)) ≤ 12)) = true then
 Cl F.slices_insertionSortCmpFunc_regs_Reg #[.slice data_p data_l data_c, .int .i64 a_1, .int .i64 b_1, .func (.func F.regs_Table_All_1) #[] #[]] h_1 fun v h_3 =>
 v = .tuple #[] ∧
 R (.tuple #[]) h_3
 else
 if (limit_1 == 0) = true then
 Cl F.slices_heapSortCmpFunc_regs_Reg #[.slice data_p data_l data_c, .int .i64 a_1, .int .i64 b_1, .func (.func F.regs_Table_All_1) #[] #[]] h_1 fun v_1 h_4 =>
 v_1 = .tuple #[] ∧
 R (.tuple #[]) h_4
 else
 JoinP (fun (limit_3 : Int) (h_5 : Heap) =>
 Cl F.slices_choosePivotCmpFunc_regs_Reg #[.slice data_p data_l data_c, .int .i64 a_1, .int .i64 b_1, .func (.func F.regs_Table_All_1) #[] #[]] h_5 fun v_2 h_6 =>
 ∃ t52_0 t52_1, v_2 = .tuple #[.int .i64 t52_0, .int .i64 t52_1] ∧
 JoinP (fun (pivot : Int) (hint : Int) (h_7 : Heap) =>
 JoinP (fun (t75 : Bool) (h_8 : Heap) =>
 JoinP (fun (h_9 : Heap) =>
 JoinP (fun (t97 : Bool) (h_10 : Heap) =>
 if t97 = true then
 Cl F.slices_partitionEqualCmpFunc_regs_Reg #[.slice data_p data_l data_c, .int .i64 a_1, .int .i64 b_1, .int .i64 pivot, .func (.func F.regs_Table_All_1) #[] #[]] h_10 fun v_3 h_11 =>
 ∃ t103, v_3 = .int .i64 t103 ∧
 J t103 b_1 limit_3 wasBalanced wasPartitioned h_11
 else
 Cl F.slices_partitionCmpFunc_regs_Reg #[.slice data_p data_l data_c, .int .i64 a_1, .int .i64 b_1, .int .i64 pivot, .func (.func F.regs_Table_All_1) #[] #[]] h_10 fun v_4 h_12 =>
 ∃ t111_0 t111_1, v_4 = .tuple #[.int .i64 t111_0, .bool t111_1] ∧
 JoinP (fun (a_3 : Int) (b_3 : Int) (wasBalanced_2 : Bool) (h_13 : Heap) =>
 J a_3 b_3 limit_3 wasBalanced_2 t111_1 h_13)
 (fun J_6 =>
 if (decide ((IntKind.wrap .i64 (t111_0 - a_1)) < (IntKind.wrap .i64 (b_1 - t111_0)))) = true then
 Cl F.slices_pdqsortCmpFunc_regs_Reg #[.slice data_p data_l data_c, .int .i64 a_1, .int .i64 t111_0, .int .i64 limit_3, .func (.func F.regs_Table_All_1) #[] #[]] h_12 fun v_5 h_14 =>
 v_5 = .tuple #[] ∧
 J_6 (IntKind.wrap .i64 (t111_0 + 1)) b_1 (decide ((IntKind.wrap .i64 (t111_0 - a_1)) ≥ (IntKind.wrap .i64 (Int.tdiv (IntKind.wrap .i64 (b_1 - a_1)) 8)))) h_14
 else
 Cl F.slices_pdqsortCmpFunc_regs_Reg #[.slice data_p data_l data_c, .int .i64 (IntKind.wrap .i64 (t111_0 + 1)), .int .i64 b_1, .int .i64 limit_3, .func (.func F.regs_Table_All_1) #[] #[]] h_12 fun v_6 h_15 =>
 v_6 = .tuple #[] ∧
 J_6 a_1 t111_0 (decide ((IntKind.wrap .i64 (b_1 - t111_0)) ≥ (IntKind.wrap .i64 (Int.tdiv (IntKind.wrap .i64 (b_1 - a_1)) 8)))) h_15))
 (fun J_5 =>
 if (decide (a_1 > 0)) = true then
 ((0 : Int) ≤ IntKind.wrap .i64 (a_1 - 1) ∧ IntKind.wrap .i64 (a_1 - 1) < ((data_l : Nat) : Int)) ∧
 onSome data_p fun a_4 =>
 regs_Reg.LD h_9 (a_4.add (Int.toNat (IntKind.wrap .i64 (a_1 - 1)) * 7)) fun t89_0 t89_1 t89_2 t89_3 t89_4 t89_5 t89_6 =>
 ((0 : Int) ≤ pivot ∧ pivot < ((data_l : Nat) : Int)) ∧
 onSome data_p fun a_5 =>
 regs_Reg.LD h_9 (a_5.add (Int.toNat pivot * 7)) fun t93_0 t93_1 t93_2 t93_3 t93_4 t93_5 t93_6 =>
 Cl F.regs_Table_All_1 #[.agg #[.bool t89_0, .int .u64 t89_1, .int .u64 t89_2, .string t89_3, .string t89_4, .int .i64 t89_5, .int .i64 t89_6], .agg #[.bool t93_0, .int .u64 t93_1, .int .u64 t93_2, .string t93_3, .string t93_4, .int .i64 t93_5, .int .i64 t93_6]] h_9 fun v_7 h_16 =>
 ∃ t94, v_7 = .int .i64 t94 ∧
 J_5 (!(decide (t94 < 0))) h_16
 else
 J_5 false h_9))
 (fun J_4 =>
 if t75 = true then
 Cl F.slices_partialInsertionSortCmpFunc_regs_Reg #[.slice data_p data_l data_c, .int .i64 a_1, .int .i64 b_1, .func (.func F.regs_Table_All_1) #[] #[]] h_8 fun v_8 h_17 =>
 ∃ t80, v_8 = .bool t80 ∧
 if t80 = true then
 R (.tuple #[]) h_17
 else
 J_4 h_17
 else
 J_4 h_8))
 (fun J_3 =>
 if wasBalanced = true then
 if wasPartitioned = true then
 J_3 (hint == 1) h_7
 else
 J_3 false h_7
 else
 J_3 false h_7))
 (fun J_2 =>
 if (t52_1 == 2) = true then
 Cl F.slices_reverseRangeCmpFunc_regs_Reg #[.slice data_p data_l data_c, .int .i64 a_1, .int .i64 b_1, .func (.func F.regs_Table_All_1) #[] #[]] h_6 fun v_9 h_18 =>
 v_9 = .tuple #[] ∧
 J_2 (IntKind.wrap .i64 ((IntKind.wrap .i64 (b_1 - 1)) - (IntKind.wrap .i64 (t52_0 - a_1)))) 1 h_18
 else
 J_2 t52_0 t52_1 h_6))
 (fun J_1 =>
 if (!wasBalanced) = true then
 Cl F.slices_breakPatternsCmpFunc_regs_Reg #[.slice data_p data_l data_c, .int .i64 a_1, .int .i64 b_1, .func (.func F.regs_Table_All_1) #[] #[]] h_1 fun v_10 h_19 =>
 v_10 = .tuple #[] ∧
 J_1 (IntKind.wrap .i64 (limit_1 - 1)) h_19
 else
 J_1 limit_1 h_1))) : CallsH Tryz.prog F.slices_pdqsortCmpFunc_regs_Reg #[.slice data_p data_l data_c, .int .i64 a, .int .i64 b, .int .i64 limit, .func (.func F.regs_Table_All_1) #[] #[]] h R :=
 callsH_of_body (.seq .leaf (.seq .leaf (.block (.loop [(1, .one (.int .i64)), (2, .one (.int .i64)), (3, .one (.int .i64)), (10, .one (.bool)), (11, .one (.bool))] (.join [(1, .one (.int .i64)), (2, .one (.int .i64)), (3, .one (.int .i64)), (10, .one (.bool)), (11, .one (.bool))] (.block (.seq .leaf (.seq (.seq .leaf (.cond (.seq .leaf .leaf) .leaf)) (.seq (.seq .leaf (.cond (.seq .leaf .leaf) .leaf)) (.seq (.seq .leaf (.join [(3, .one (.int .i64))] (.cond (.seq .leaf .leaf) .leaf))) (.seq .leaf (.seq (.seq .leaf (.join [(13, .one (.int .i64)), (14, .one (.int .i64))] (.cond (.seq .leaf (.seq .leaf .leaf)) .leaf))) (.seq (.seq (.join [(75, .one (.bool))] .leaf) (.join [] (.cond (.seq .leaf (.cond .leaf .leaf)) .leaf))) (.seq (.seq (.join [(97, .one (.bool))] (.plan (.op 0 (.op 1 (.op 2 (.op 3 (.op 4 (.op 5 (.op 6 (.op 7 (.op 8 (.op 9 (.op 10 (.op 11 (.op 12 (.op 13 (.op 14 (.op 15 (.op 16 .done))))))))))))))))))) (.cond (.seq .leaf (.seq .leaf .leaf)) .leaf)) (.seq .leaf (.seq .leaf (.seq .leaf (.seq .leaf (.seq .leaf (.join [(1, .one (.int .i64)), (2, .one (.int .i64)), (10, .one (.bool))] (.cond (.seq .leaf (.seq .leaf .leaf)) (.seq .leaf (.seq .leaf .leaf))))))))))))))))))))))) Tryz.func192 rfl rfl (Eq.mp (by kernel_rfl) hv)
theorem slices_insertionSortCmpFunc_regs_Reg.reg.walk {data_p : Option Addr} {data_l data_c : Nat} {a : Int} {b : Int} (hv :
 ∃ (I : Int → Heap → Prop) (mu : Int → Heap → Nat), I (IntKind.wrap .i64 (a + 1)) h ∧ ∀ (i : Int) (h_1 : Heap), I i h_1 →
 if (decide (i < b)) = true then
 ∃ (I_1 : Int → Heap → Prop) (mu_1 : Int → Heap → Nat), I_1 i h_1 ∧ ∀ (j : Int) (h_2 : Heap), I_1 j h_2 →
 JoinP (fun (t34 : Bool) (h_3 : Heap) =>
 if t34 = true then
 ((0 : Int) ≤ IntKind.wrap .i64 (j - 1) ∧ IntKind.wrap .i64 (j - 1) < ((data_l : Nat) : Int)) ∧
 onSome data_p fun a_1 =>
 regs_Reg.LD h_3 (a_1.add (Int.toNat (IntKind.wrap .i64 (j - 1)) * 7)) fun t46_0 t46_1 t46_2 t46_3 t46_4 t46_5 t46_6 =>
 ((0 : Int) ≤ j ∧ j < ((data_l : Nat) : Int)) ∧
 onSome data_p fun a_2 =>
 regs_Reg.LD h_3 (a_2.add (Int.toNat j * 7)) fun t50_0 t50_1 t50_2 t50_3 t50_4 t50_5 t50_6 =>
 ((0 : Int) ≤ j ∧ j < ((data_l : Nat) : Int)) ∧
 onSome data_p fun a_3 =>
 regs_Reg.ST h_3 (a_3.add (Int.toNat j * 7)) t46_0 t46_1 t46_2 t46_3 t46_4 t46_5 t46_6 fun h_4 =>
 ((0 : Int) ≤ IntKind.wrap .i64 (j - 1) ∧ IntKind.wrap .i64 (j - 1) < ((data_l : Nat) : Int)) ∧
 onSome data_p fun a_4 =>
 regs_Reg.ST h_4 (a_4.add (Int.toNat (IntKind.wrap .i64 (j - 1)) * 7)) t50_0 t50_1 t50_2 t50_3 t50_4 t50_5 t50_6 fun h_5 =>
 (I_1 (IntKind.wrap .i64 (j - 1)) h_5 ∧ mu_1 (IntKind.wrap .i64 (j - 1)) h_5 < mu_1 j h_2)
 else
 (I (IntKind.wrap .i64 (i + 1)) h_3 ∧ mu (IntKind.wrap .i64 (i + 1)) h_3 < mu i h_1))
 (fun J =>
 if (decide (j > a)) = true then
 ((0 : Int) ≤ j ∧ j < ((data_l : Nat) : Int)) ∧
 onSome data_p fun a_5 =>
 regs_Reg.LD h_2 (a_5.add (Int.toNat j * 7)) fun t26_0 t26_1 t26_2 t26_3 t26_4 t26_5 t26_6 =>
 ((0 : Int) ≤ IntKind.wrap .i64 (j - 1) ∧ IntKind.wrap .i64 (j - 1) < ((data_l : Nat) : Int)) ∧
 onSome data_p fun a_6 =>
 regs_Reg.LD h_2 (a_6.add (Int.toNat (IntKind.wrap .i64 (j - 1)) * 7)) fun t31_0 t31_1 t31_2 t31_3 t31_4 t31_5 t31_6 =>
 Cl F.regs_Table_All_1 #[.agg #[.bool t26_0, .int .u64 t26_1, .int .u64 t26_2, .string t26_3, .string t26_4, .int .i64 t26_5, .int .i64 t26_6], .agg #[.bool t31_0, .int .u64 t31_1, .int .u64 t31_2, .string t31_3, .string t31_4, .int .i64 t31_5, .int .i64 t31_6]] h_2 fun v h_6 =>
 ∃ t32, v = .int .i64 t32 ∧
 J (decide (t32 < 0)) h_6
 else
 J false h_2)
 else
 R (.tuple #[]) h_1) : CallsH Tryz.prog F.slices_insertionSortCmpFunc_regs_Reg #[.slice data_p data_l data_c, .int .i64 a, .int .i64 b, .func (.func F.regs_Table_All_1) #[] #[]] h R :=
 callsH_of_body (.seq .leaf (.block (.loop [(8, .one (.int .i64))] (.seq (.seq .leaf (.cond .leaf .leaf)) (.seq (.block (.seq .leaf (.block (.loop [(9, .one (.int .i64))] (.seq (.seq (.join [(34, .one (.bool))] (.plan (.op 0 (.op 1 (.op 2 (.op 3 (.op 4 (.op 5 (.op 6 (.op 7 (.op 8 (.op 9 (.op 10 (.op 11 (.op 12 (.op 13 (.op 14 (.op 15 (.op 16 .done))))))))))))))))))) (.cond .leaf .leaf)) (.seq (.block (.plan (.op 0 (.op 1 (.op 2 (.op 3 (.op 4 (.op 5 (.op 6 (.op 7 (.op 8 (.op 9 (.op 10 (.op 11 (.op 12 (.op 13 (.op 14 (.op 15 (.op 16 (.op 17 .done)))))))))))))))))))) .leaf)))))) .leaf))))) Tryz.func215 rfl rfl (Eq.mp (by kernel_rfl) hv)
end Go.Proofs.YtgccegnmggjkjaaGreatDoor
set_option maxRecDepth 100000
namespace Go.Proofs.YtgccegnmggjkjaaGreatDoor
open Go.Den
namespace Regs
open Eid
variable {h h' : Heap} {R : Value → Heap → Prop} {b : Nat} {X : Ft}
structure Rg where
 e:Ev
 pol:Int
 own:Int
abbrev Rg.zero:Rg:=⟨.zero,0,0⟩
abbrev Rg.val (r:Rg):Value:= .agg #[.bool r.e.ipn, .int .u64 r.e.node, .int .u64 r.e.svc, .string r.e.host, .string r.e.dem, .int .i64 r.pol, .int .i64 r.own]
abbrev Rg.at (h:Heap) (b:Nat) (r:Rg):Prop:=regs_Reg.at h b r.e.ipn r.e.node r.e.svc r.e.host r.e.dem r.pol r.own
abbrev genc (r:Rg):List Value:= [.bool r.e.ipn, .int .u64 r.e.node, .int .u64 r.e.svc, .string r.e.host, .string r.e.dem, .int .i64 r.pol, .int .i64 r.own]
theorem genc_len (r:Rg):(genc r).length=7:=rfl
abbrev Rg.pair (r:Rg):Ev×Value:=(r.e,r.val)
abbrev rless (x y:Rg):Prop:=lessE x.e y.e=true
theorem mapTy:MapKy Tryz.prog T.m_eid_Eid_regs_Reg ev5 Rg.zero.val:=MapKy.of T.eid_Eid T.regs_Reg (by kernel_rfl) key (by kernel_rfl)
structure Tbm (h:Heap) (b:Nat) (X:Ft) (L:List Rg) (m:Nat):Prop where
 blk:h[b]? =some (.cells #[.map (some m)] T.regs_Table (0,0))
 map:MapP h m ev5 (L.map Rg.pair)
 fm: ∀c,X.M c↔c=b∨c=m
 d: ∀c,¬X.D c
 ne:b≠m
 so:L.Pairwise rless
def Tb (h:Heap) (b:Nat) (X:Ft) (L:List Rg):Prop:= ∃m,Tbm h b X L m
variable {L : List Rg} {m : Nat}
theorem Tbm.frame {Q:Nat→Prop} (H:Tbm h b X L m) (f:Fr Q h h') (hq: ∀y,X.M y∨X.D y→ ¬Q y):Tbm h' b X L m:=
 ⟨f.get H.blk (hq b (.inl ((H.fm b).2 (.inl rfl)))),H.map.frame f (hq m (.inl ((H.fm m).2 (.inr rfl)))),H.fm,H.d,H.ne,H.so⟩
theorem Tbm.on (H:Tbm h b X L m) (f:Fr (fun _=>False) h h'):Tbm h' b X L m:=H.frame f (fun _ _=>id)
theorem Tb.frame {Q:Nat→Prop} (H:Tb h b X L) (f:Fr Q h h') (hq: ∀y,X.M y∨X.D y→ ¬Q y):Tb h' b X L:=by
 obtain⟨m,H⟩:=H;exact⟨m,H.frame f hq⟩
theorem Tb.on (H:Tb h b X L) (f:Fr (fun _=>False) h h'):Tb h' b X L:=H.frame f (fun _ _=>id)
theorem Tb.lt (H:Tb h b X L) (y:Nat) (hy:X.M y∨X.D y):y<h.size:=by
 obtain⟨m,H⟩:=H
 rcases hy with hy|hy
 ·rcases(H.fm y).1 hy with rfl|rfl
  ·exact lt_of_get H.blk
  ·exact H.map.lt
 ·exact absurd hy (H.d y)
def findR (L:List Rg) (x:Ev):Option Rg:=L.find? (fun r=>decide (r.e=x))
theorem findR_none {x:Ev} :findR L x=none↔ ∀r∈L,r.e≠x:=by unfold findR;simp
theorem gget_find (L:List Rg) (x:Ev):gget (L.map Rg.pair) x=(findR L x).map Rg.val:=by
 unfold gget findR
 rw[List.find?_map]
 cases h:L.find? ((fun e:Ev×Value=>decide (e.1=x)) ∘ Rg.pair) with
 |none=>have:L.find? (fun r=>decide (r.e=x))=none:=h;rw[this];rfl
 |some r=>have:L.find? (fun r=>decide (r.e=x))=some r:=h;rw[this];rfl
def insR (r:Rg):List Rg→List Rg
 | []=> [r]
 |x::l=>if lessE x.e r.e=true then x::insR r l else r::x::l
theorem insR_perm (r:Rg): ∀L:List Rg,(insR r L).Perm (r::L)
 | []=> .refl _
 |x::l=>by
  unfold insR
  split
  ·exact((insR_perm r l).cons x).trans (List.Perm.swap r x l)
  ·exact .refl _
theorem insR_mem {r x:Rg} :x∈insR r L↔x=r∨x∈L:=by rw[(insR_perm r L).mem_iff,List.mem_cons]
theorem insR_len (r:Rg) (L:List Rg):(insR r L).length=L.length+1:=by rw[(insR_perm r L).length_eq];rfl
theorem insR_so {r:Rg} : ∀ {L:List Rg},L.Pairwise rless→(∀x∈L,x.e≠r.e)→(insR r L).Pairwise rless
 | [],_,_=>List.pairwise_singleton _ _
 |x::l,h,hn=>by
  obtain⟨h1,h2⟩:=List.pairwise_cons.1 h
  unfold insR
  split
  ·rename_i hx
   refine List.pairwise_cons.2 ⟨fun y hy=> ?_,insR_so h2 (fun y hy=>hn y (List.mem_cons_of_mem _ hy))⟩
   rcases insR_mem.1 hy with rfl|hy
   ·exact hx
   ·exact h1 y hy
  ·rename_i hx
   have hrx:lessE r.e x.e=true:=(less_total (hn x (by simp))).resolve_left hx
   refine List.pairwise_cons.2 ⟨fun y hy=> ?_,h⟩
   rcases List.mem_cons.1 hy with rfl|hy
   ·exact hrx
   ·exact less_trans hrx (h1 y hy)
def rightR (r:Rg):Bool:=rightE r.e && (!decide (r.e=Ev.zero) && (decide (r.pol≥0) && decide (r.pol≤2) && (decide (r.own≥1) && decide (r.own≤1099511627776))))
def addE (L:List Rg) (r:Rg):Int:=if rightR r=false then 1 else if(findR L r.e).isSome=true then 11 else if L.length≥8 then 15 else 0
def addL (L:List Rg) (r:Rg):List Rg:=if addE L r=0 then insR r L else L
def askE (L:List Rg) (x:Ev) (owner:Int):Int:=match findR L x with|none=>4|some r=>if r.own=owner then 0 else 13
theorem addE_cases (L:List Rg) (r:Rg):(rightR r=false∧addE L r=1)∨(rightR r=true∧(findR L r.e).isSome=true∧addE L r=11)∨(rightR r=true∧findR L r.e=none∧L.length≥8∧addE L r=15)∨(rightR r=true∧findR L r.e=none∧L.length<8∧addE L r=0):=by
 unfold addE
 cases h1:rightR r with
 |false=>exact .inl ⟨rfl,by simp⟩
 |true=>
  cases h2:findR L r.e with
  |some x=>exact .inr (.inl ⟨rfl,rfl,by simp⟩)
  |none=>
   by_cases h3:L.length≥8
   ·exact .inr (.inr (.inl ⟨rfl,rfl,h3,by simp[h3]⟩))
   ·exact .inr (.inr (.inr ⟨rfl,rfl,by omega,by simp[h3]⟩))
theorem made_ok (H:Tbm h b X L m) (hk:R (.bool true) h):CallsH Tryz.prog F.regs_Table_made #[.pointer (some ⟨b,0,none⟩)] h R:=regs_Table_made.walk ⟨_,cell_at H.blk rfl,hk⟩
theorem new_ok (hk: ∀h' b X,Tb h' b X []→UpF h X h'→R (.pointer (some ⟨b,0,none⟩)) h'):CallsH Tryz.prog F.regs_New #[] h R:=by
 refine regs_New.walk (newP_of (newP_of ?_))
 have f1:Fr (fun _=>False) h (h.push (.map #[] 0)):=Fr.push _ _
 have M1:=MapP.push (α:=Ev) h ev5
 have z1:(h.push (.map #[] 0)).size=h.size+1:=Array.size_push _
 generalize h.push (.map #[] 0)=h1 at f1 M1 z1⊢
 have f2:Fr (fun _=>False) h1 (h1.push (.cells #[.map (some h.size)] T.regs_Table)):=Fr.push _ _
 refine hk _ h1.size ⟨fun c=>c=h1.size∨c=h.size,fun _=>False⟩ ⟨h.size,push_new,M1.frame f2 id,fun c=>Iff.rfl,fun _=>id,by omega, .nil⟩ ⟨f1.tt f2,fun c hc=> ?_⟩
 rcases hc with hc|hc
 ·rcases hc with rfl|rfl<;>omega
 ·exact hc.elim
theorem isPolicy_ok {n:Int} (hk:R (.bool (decide (n≥0) && decide (n≤2))) h):CallsH Tryz.prog F.regs_isPolicy #[.int .i64 n] h R:=by
 refine regs_isPolicy.walk ?_
 by_cases q:n≥0
 ·simp only[q,decide_true,if_true,Bool.true_and] at hk⊢;exact hk
 ·simp only[q,decide_false,Bool.false_eq_true,if_false,Bool.false_and] at hk⊢;exact hk
theorem right_ok (r:Rg) (hk: ∀h',Fr (fun _=>False) h h'→R (.bool (rightR r)) h'):CallsH Tryz.prog F.regs_right #[r.val] h R:=by
 refine regs_right.walk (regs_Reg.box fun b h1 eb hb f1=> ?_)
 have lde: ∀ {g:Heap} {K:Bool→Int→Int→ByteArray→ByteArray→Prop},r.at g b→K r.e.ipn r.e.node r.e.svc r.e.host r.e.dem→eid_Eid.LD g ⟨b,0,none⟩ K:=fun hg hk=>⟨_,cell_at hg rfl,_,cell_at hg rfl,_,cell_at hg rfl,_,cell_at hg rfl,_,cell_at hg rfl,hk⟩
 refine lde hb (Eid.right_ok r.e fun h2 f2=>⟨_,rfl, ?_⟩)
 have hb2:=f2.get hb id
 have K:=hk h2 (f1.tt f2)
 unfold rightR at K
 by_cases q0:rightE r.e=true
 ·rw[if_pos q0]
  rw[q0,Bool.true_and] at K
  refine lde hb2 ⟨_,eqv' (y:= .zero) (x:=r.e) rfl rfl, ?_⟩
  by_cases q1:r.e= .zero
  ·rw[decide_eq_true q1,if_neg (by decide)]
   rw[decide_eq_true q1] at K;exact K
  ·rw[decide_eq_false q1,if_pos (by decide)]
   rw[decide_eq_false q1,Bool.not_false,Bool.true_and] at K
   refine⟨_,cell_at hb2 rfl,isPolicy_ok ⟨_,rfl, ?_⟩⟩
   by_cases q2:(decide (r.pol≥0) && decide (r.pol≤2))=true
   ·rw[if_pos q2]
    rw[q2,Bool.true_and] at K
    refine⟨_,cell_at hb2 rfl, ?_⟩
    by_cases q3:r.own≥1
    ·rw[if_pos (decide_eq_true q3)]
     rw[decide_eq_true q3,Bool.true_and] at K
     exact⟨_,cell_at hb2 rfl,K⟩
    ·rw[if_neg (by simpa using q3)]
     rw[decide_eq_false q3,Bool.false_and] at K;exact K
   ·rw[if_neg q2]
    have q2:(decide (r.pol≥0) && decide (r.pol≤2))=false:=by simpa using q2
    rw[q2,Bool.false_and] at K;exact K
 ·rw[if_neg q0]
  have q0:rightE r.e=false:=by simpa using q0
  rw[q0,Bool.false_and] at K;exact K
theorem ld_e {g:Heap} {b:Nat} {r:Rg} {K:Bool→Int→Int→ByteArray→ByteArray→Prop} (hg:r.at g b) (hk:K r.e.ipn r.e.node r.e.svc r.e.host r.e.dem):eid_Eid.LD g ⟨b,0,none⟩ K:=
 ⟨_,cell_at hg rfl,_,cell_at hg rfl,_,cell_at hg rfl,_,cell_at hg rfl,_,cell_at hg rfl,hk⟩
theorem look (H:Tbm h b X L m) (x:Ev):LookV Tryz.prog T.m_eid_Eid_regs_Reg (.map (some m)) (ev5 x) true h (.tuple #[((findR L x).getD .zero).val, .bool (findR L x).isSome]):=by
 have:=lookV_Pok mapTy H.map x
 rw[gget_find] at this
 cases hf:findR L x with
 |none=>rw[hf] at this;exact this
 |some r=>rw[hf] at this;exact this
theorem Fr.put {h0 h1 h2:Heap} {c:Nat} (f:Fr (fun _=>False) h0 h1) (hs:h2.size=h1.size) (ho: ∀x,x≠c→h2[x]? =h1[x]?) (hc:h0.size≤c):Fr (fun _=>False) h0 h2:=
 f.fresh (S:=fun y=>y=c) ⟨by omega,fun y _ hn=>ho y hn⟩ (fun y e=>by omega)
theorem Tbm.put {L':List Rg} {h1:Heap} (H:Tbm h b X L m) (M:MapP h1 m ev5 (L'.map Rg.pair)) (hs:h1.size=h.size) (ho: ∀c,c≠m→h1[c]? =h[c]?) (so:L'.Pairwise rless):Tbm h1 b X L' m∧StepF X h X h1:=by
 have f:Fr X.M h h1:=⟨by omega,fun c _ hn=>ho c (fun e=>hn ((H.fm c).2 (.inr e)))⟩
 refine⟨⟨?_,M,H.fm,H.d,H.ne,so⟩,StepF.of_fr f⟩
 rw[ho b H.ne];exact H.blk
theorem keys_nodup {L:List Rg} (so:L.Pairwise rless):(L.map Rg.e).Nodup:=by
 unfold List.Nodup
 rw[List.pairwise_map]
 refine so.imp fun {x y} hxy e=> ?_
 rw[rless,e,less_irrefl] at hxy;cases hxy
theorem add_ok (H:Tb h b X L) (r:Rg) (hl:L.length≤8) (hk: ∀h',Tb h' b X (addL L r)→StepF X h X h'→R (.int .i64 (addE L r)) h'):
  CallsH Tryz.prog F.regs_Table_Add #[.pointer (some ⟨b,0,none⟩),r.val] h R:=by
 obtain⟨m,H⟩:=H
 refine regs_Table_Add.walk (regs_Reg.box fun b1 h1 e1 hb1 f1=> ?_)
 have H1:=H.on f1
 refine made_ok H1 ⟨_,rfl, ?_⟩
 rw[if_neg (by decide)]
 refine⟨_,cell_at H1.blk rfl,ld_e (r:=r) hb1 ⟨_,_,_,_,_,_,_,_,look H1 r.e,regs_Reg.box fun b3 h3 e3 hb3 f3=> ?_⟩⟩
 have hb13:=f3.get hb1 id
 refine⟨f3.2 m H1.map.lt id,heldL_blk hb13 (fun j v hj=> ?_),cell_at (f3.get H1.blk id) rfl,regs_Reg.set hb3 fun h4 a4 s4 o4=> ?_⟩
 ·rw[Nat.zero_add]
  match j,hj with
  |0,hj=>simpa using hj
  |1,hj=>simpa using hj
  |2,hj=>simpa using hj
  |3,hj=>simpa using hj
  |4,hj=>simpa using hj
 have z1:=f1.1
 have F4:=Fr.put (f1.tt f3) s4 o4 (by omega)
 have hb14:r.at h4 b1:=by
  have hne:b1≠b3:=by have:=lt_of_get hb1;omega
  unfold Rg.at regs_Reg.at
  rw[o4 b1 hne];exact hb13
 refine regs_Reg.ld hb14 (right_ok r fun h5 f5=>⟨_,rfl, ?_⟩)
 have F5:=F4.tt f5
 have H5:=H.on F5
 have hb15:=f5.get hb14 id
 have keep:addL L r=L→R (.int .i64 (addE L r)) h5:=fun e=>hk h5 (by rw[e];exact⟨m,H5⟩) (StepF.of_no F5)
 rcases addE_cases L r with⟨q1,q2⟩|⟨q1,q3,q2⟩|⟨q1,q3,q4,q2⟩|⟨q1,q3,q4,q2⟩
 ·rw[q1,if_pos (by decide)]
  rw[q2] at keep
  exact keep (by unfold addL;rw[q2];rfl)
 ·rw[q1,if_neg (by decide),if_pos q3]
  rw[q2] at keep
  exact keep (by unfold addL;rw[q2];rfl)
 ·rw[q1,if_neg (by decide),if_neg (by rw[q3];simp)]
  refine⟨_,cell_at H5.blk rfl,_,lenV_P mapTy H5.map, ?_⟩
  rw[List.length_map,if_pos (decide_eq_true (by omega))]
  rw[q2] at keep
  exact keep (by unfold addL;rw[q2];rfl)
 ·rw[q1,if_neg (by decide),if_neg (by rw[q3];simp)]
  refine⟨_,cell_at H5.blk rfl,_,lenV_P mapTy H5.map, ?_⟩
  rw[List.length_map,if_neg (by simp;omega)]
  refine⟨_,cell_at H5.blk rfl,ld_e (r:=r) hb15 (regs_Reg.ld hb15 (den_putP mapTy H5.map (k:=r.e) fun h6 M6 s6 o6=> ?_))⟩
  have eL:addL L r=insR r L:=if_pos q2
  have hno:=findR_none.1 q3
  have M6:MapP h6 m ev5 ((insR r L).map Rg.pair):=by
   refine M6.perm ?_
   unfold gput
   rw[gdel_none (fun e he=>by obtain⟨y,hy,rfl⟩:=List.mem_map.1 he;exact hno y hy)]
   exact((insR_perm r L).map Rg.pair).symm
  obtain⟨H6,st⟩:=H5.put M6 s6 o6 (insR_so H5.so hno)
  rw[eL,q2] at hk
  exact hk h6 ⟨m,H6⟩ (StepF.no F5 st)
end Regs
end Go.Proofs.YtgccegnmggjkjaaGreatDoor
set_option maxRecDepth 100000
set_option maxHeartbeats 4000000
namespace Go.Proofs.YtgccegnmggjkjaaGreatDoor
open Go.Den
variable {h : Heap} {R : Value → Heap → Prop}
theorem copies_New.walk  (hv :
 NewP h (.map #[] 0) fun b h_1 =>
 Cl F.alarm_New #[] h_1 fun v h_2 =>
 ∃ t2, v = .pointer t2 ∧
 Cl F.alarm_New #[] h_2 fun v_1 h_3 =>
 ∃ t3, v_1 = .pointer t3 ∧
 NewP h_3 (.cells #[.map (some b), .int .i64 1, .int .i64 0, .int .i64 0, .int .i64 0, .pointer t2, .pointer t3] T.copies_Table) fun b_1 h_4 =>
 R (.pointer (some ⟨b_1, 0, none⟩)) h_4) : CallsH Tryz.prog F.copies_New #[] h R :=
 callsH_of_body (.seq .leaf (.seq .leaf .leaf)) Tryz.func9 rfl rfl (Eq.mp (by kernel_rfl) hv)
theorem copies_Table_made.walk {t : Nat} (hv :
 ∃ t9, hcell h ⟨t, 0, none⟩ = some (.map t9) ∧
 R (.bool (!t9.isNone)) h) : CallsH Tryz.prog F.copies_Table_made #[.pointer (some ⟨t, 0, none⟩)] h R :=
 callsH_of_body (.seq .leaf (.seq .leaf .leaf)) Tryz.func69 rfl rfl (Eq.mp (by kernel_rfl) hv)
theorem copies_Table_numbers.walk {t : Nat} (hv :
 Cl F.copies_Table_made #[.pointer (some ⟨t, 0, none⟩)] h fun v h_1 =>
 ∃ t6, v = .bool t6 ∧
 JoinP (fun (out_p : Option Addr) (out_l out_c : Nat) (h_2 : Heap) =>
 Cl F.slices_Sort_s_int_int #[.slice out_p out_l out_c] h_2 fun v_1 h_3 =>
 v_1 = .tuple #[] ∧
 R (.slice out_p out_l out_c) h_3)
 (fun J =>
 if t6 = true then
 ∃ t10, hcell h_1 ⟨t, 0, none⟩ = some (.map t10) ∧
 denSem Tryz.prog (Instr.range T.m_int_p_copies_Copy (.map t10)) h_1 fun v_2 h_4 =>
 ∃ (it : Nat), v_2 = .pointer (some ⟨it, 0, none⟩) ∧
 ∃ (I : Option Addr → Nat → Nat → Heap → Prop) (mu : Option Addr → Nat → Nat → Heap → Nat), I none 0 0 h_4 ∧ ∀ (out_p_1 : Option Addr) (out_l_1 out_c_1 : Nat) (h_5 : Heap), I out_p_1 out_l_1 out_c_1 h_5 →
 denSem Tryz.prog (Instr.next (.pointer (some ⟨it, 0, none⟩)) false T.tup_) h_5 fun v_3 h_6 =>
 (v_3 = .tuple #[.bool false] ∧
 J out_p_1 out_l_1 out_c_1 h_6) ∨
 (  ∃ (t12_k t12_v : Value), v_3 = .tuple #[.bool true, t12_k, t12_v] ∧
 denSem Tryz.prog (Instr.entry (.pointer (some ⟨it, 0, none⟩))) h_6 fun v_4 h_7 =>
 ∃ (t14_k t14_v : Value), v_4 = .tuple #[t14_k, t14_v] ∧
 ∃ t15, t14_k = .int .i64 t15 ∧
 NewP h_7 (.cells #[.int .i64 t15] T.int) fun b h_8 =>
 denSem Tryz.prog (Builtin.append_ #[T.s_int, T.s_int] T.s_int #[.slice out_p_1 out_l_1 out_c_1, .slice (some ⟨b, 0, none⟩) 1 1]) h_8 fun v_5 h_9 =>
 ∃ t19_p t19_l t19_c, v_5 = .slice t19_p t19_l t19_c ∧
 (I t19_p t19_l t19_c h_9 ∧ mu t19_p t19_l t19_c h_9 < mu out_p_1 out_l_1 out_c_1 h_5))
 else
 J none 0 0 h_1)) : CallsH Tryz.prog F.copies_Table_numbers #[.pointer (some ⟨t, 0, none⟩)] h R :=
 callsH_of_body (.seq .leaf (.seq .leaf (.seq (.seq .leaf (.join [(3, .one (.slice))] (.cond (.seq .leaf (.block (.loop [(3, .one (.slice))] (.seq .leaf (.seq (.cond .leaf .leaf) (.block (.seq (.typed [(15, .one (.int .i64))]) .leaf))))))) .leaf))) (.seq .leaf (.seq .leaf .leaf))))) Tryz.func77 rfl rfl (Eq.mp (by kernel_rfl) hv)
theorem copies_Table_of_1.walk {n : Int} {c0 : Nat} {c1 : Nat} (hv :
 ∃ t5, hcell h ⟨c0, 0, none⟩ = some (.pointer t5) ∧
 onSome t5 fun a =>
 ∃ t8, hcell h a = some (.map t8) ∧
 ∃ t10, LookV Tryz.prog T.m_int_p_copies_Copy (.map t8) (.int .i64 n) false h (.pointer t10) ∧
 onSome t10 fun a_1 =>
 eid_Eid.LD h (a_1.add 1) fun t13_0 t13_1 t13_2 t13_3 t13_4 =>
 eid_Eid.LD h ⟨c1, 0, none⟩ fun t14_0 t14_1 t14_2 t14_3 t14_4 =>
 ∃ (eq : Bool), EqV Tryz.prog T.eid_Eid (.agg #[.bool t13_0, .int .u64 t13_1, .int .u64 t13_2, .string t13_3, .string t13_4]) (.agg #[.bool t14_0, .int .u64 t14_1, .int .u64 t14_2, .string t14_3, .string t14_4]) eq ∧
 R (.bool (!eq)) h) : CallsH Tryz.prog F.copies_Table_of_1 #[.int .i64 n, .pointer (some ⟨c0, 0, none⟩), .pointer (some ⟨c1, 0, none⟩)] h R :=
 callsH_of_body (.seq .leaf (.seq (.plan (.op 0 (.op 1 (.op 2 (.op 3 (.op 4 (.op 5 (.op 6 (.op 7 (.op 8 (.op 9 (.op 10 (.op 11 .done))))))))))))) .leaf)) Tryz.func144 rfl rfl (Eq.mp (by kernel_rfl) hv)
theorem slices_DeleteFunc_s_int_int.of.walk {s_p : Option Addr} {s_l s_c : Nat} {del_c : Nat} {del_c_1 : Nat} (hv :
 Cl F.slices_IndexFunc_s_int_int #[.slice s_p s_l s_c, .func (.func F.copies_Table_of_1) #[] #[.pointer (some ⟨del_c, 0, none⟩), .pointer (some ⟨del_c_1, 0, none⟩)]] h fun v h_1 =>
 ∃ t10, v = .int .i64 t10 ∧
 if (t10 == (-1)) = true then
 R (.slice s_p s_l s_c) h_1
 else
 ∃ (I : Int → Int → Heap → Prop) (mu : Int → Int → Heap → Nat), I t10 (IntKind.wrap .i64 (t10 + 1)) h_1 ∧ ∀ (i : Int) (j : Int) (h_2 : Heap), I i j h_2 →
 if (decide (j < ((s_l : Nat) : Int))) = true then
 JoinP (fun (i_1 : Int) (h_3 : Heap) =>
 (I i_1 (IntKind.wrap .i64 (j + 1)) h_3 ∧ mu i_1 (IntKind.wrap .i64 (j + 1)) h_3 < mu i j h_2))
 (fun J =>
 ((0 : Int) ≤ j ∧ j < ((s_l : Nat) : Int)) ∧
 onSome s_p fun a =>
 ∃ t25, hcell h_2 (a.add (Int.toNat j * 1)) = some (.int .i64 t25) ∧
 Cl F.copies_Table_of_1 #[.int .i64 t25, .pointer (some ⟨del_c, 0, none⟩), .pointer (some ⟨del_c_1, 0, none⟩)] h_2 fun v_1 h_4 =>
 ∃ t28, v_1 = .bool t28 ∧
 JoinP (fun (i_2 : Int) (h_5 : Heap) =>
 J i_2 h_5)
 (fun J_1 =>
 if (!t28) = true then
 ((0 : Int) ≤ i ∧ i < ((s_l : Nat) : Int)) ∧
 onSome s_p fun a_1 =>
 StoreP h_4 (a_1.add (Int.toNat i * 1)) (.int .i64 t25) fun h_6 =>
 J_1 (IntKind.wrap .i64 (i + 1)) h_6
 else
 J_1 i h_4))
 else
 ((0 : Int) ≤ i ∧ i ≤ ((s_l : Nat) : Int)) ∧
 denSem Tryz.prog (Builtin.clear_ #[T.s_int] T.tup_ #[.slice (slBase s_p s_c (Int.toNat i) 1) (s_l - (Int.toNat i)) (s_c - (Int.toNat i))]) h_2 fun v_2 h_7 =>
 v_2 = .tuple #[] ∧
 ((0 : Int) ≤ i ∧ i ≤ ((s_c : Nat) : Int)) ∧
 R (.slice (slBase s_p s_c 0 1) ((Int.toNat i) - 0) (s_c - 0)) h_7) : CallsH Tryz.prog F.slices_DeleteFunc_s_int_int #[.slice s_p s_l s_c, .func (.func F.copies_Table_of_1) #[] #[.pointer (some ⟨del_c, 0, none⟩), .pointer (some ⟨del_c_1, 0, none⟩)]] h R :=
 callsH_of_body (.seq .leaf (.seq .leaf (.seq (.seq .leaf (.cond (.seq .leaf .leaf) .leaf)) (.seq (.seq .leaf (.block (.loop [(5, .one (.int .i64)), (6, .one (.int .i64))] (.seq (.seq .leaf (.cond .leaf .leaf)) (.seq (.join [(5, .one (.int .i64))] (.block (.seq .leaf (.seq .leaf (.join [(5, .one (.int .i64))] (.cond (.seq .leaf .leaf) .leaf)))))) .leaf))))) (.seq .leaf (.seq .leaf .leaf)))))) Tryz.func143 rfl rfl (Eq.mp (by kernel_rfl) hv)
theorem slices_IndexFunc_s_int_int.of.walk {s_p : Option Addr} {s_l s_c : Nat} {f_c : Nat} {f_c_1 : Nat} (hv :
 ∃ (I : Int → Heap → Prop) (mu : Int → Heap → Nat), I 0 h ∧ ∀ (t8 : Int) (h_1 : Heap), I t8 h_1 →
 if (decide (t8 < ((s_l : Nat) : Int))) = true then
 ((0 : Int) ≤ t8 ∧ t8 < ((s_l : Nat) : Int)) ∧
 onSome s_p fun a =>
 ∃ t15, hcell h_1 (a.add (Int.toNat t8 * 1)) = some (.int .i64 t15) ∧
 Cl F.copies_Table_of_1 #[.int .i64 t15, .pointer (some ⟨f_c, 0, none⟩), .pointer (some ⟨f_c_1, 0, none⟩)] h_1 fun v h_2 =>
 ∃ t16, v = .bool t16 ∧
 if t16 = true then
 R (.int .i64 t8) h_2
 else
 (I (IntKind.wrap .i64 (t8 + 1)) h_2 ∧ mu (IntKind.wrap .i64 (t8 + 1)) h_2 < mu t8 h_1)
 else
 R (.int .i64 (-1)) h_1) : CallsH Tryz.prog F.slices_IndexFunc_s_int_int #[.slice s_p s_l s_c, .func (.func F.copies_Table_of_1) #[] #[.pointer (some ⟨f_c, 0, none⟩), .pointer (some ⟨f_c_1, 0, none⟩)]] h R :=
 callsH_of_body (.seq .leaf (.seq (.seq .leaf (.block (.loop [(8, .one (.int .i64))] (.seq .leaf (.seq (.cond .leaf .leaf) (.seq (.block (.seq .leaf (.seq .leaf (.cond (.seq .leaf .leaf) .leaf)))) .leaf)))))) (.seq .leaf .leaf))) Tryz.func186 rfl rfl (Eq.mp (by kernel_rfl) hv)
theorem copies_Table_of.walk {t : Nat} {endpoint_0 : Bool} {endpoint_1 : Int} {endpoint_2 : Int} {endpoint_3 : ByteArray} {endpoint_4 : ByteArray} (hv :
 NewP h (.cells #[.pointer (some ⟨t, 0, none⟩)] T.p_copies_Table) fun b h_1 =>
 NewP h_1 (.cells #[.bool endpoint_0, .int .u64 endpoint_1, .int .u64 endpoint_2, .string endpoint_3, .string endpoint_4] T.eid_Eid) fun b_1 h_2 =>
 ∃ t5, hcell h_2 ⟨b, 0, none⟩ = some (.pointer t5) ∧
 Cl F.copies_Table_numbers #[.pointer t5] h_2 fun v h_3 =>
 ∃ t6_p t6_l t6_c, v = .slice t6_p t6_l t6_c ∧
 Cl F.slices_DeleteFunc_s_int_int #[.slice t6_p t6_l t6_c, .func (.func F.copies_Table_of_1) #[] #[.pointer (some ⟨b, 0, none⟩), .pointer (some ⟨b_1, 0, none⟩)]] h_3 fun v_1 h_4 =>
 ∃ t8_p t8_l t8_c, v_1 = .slice t8_p t8_l t8_c ∧
 R (.slice t8_p t8_l t8_c) h_4) : CallsH Tryz.prog F.copies_Table_of #[.pointer (some ⟨t, 0, none⟩), .agg #[.bool endpoint_0, .int .u64 endpoint_1, .int .u64 endpoint_2, .string endpoint_3, .string endpoint_4]] h R :=
 callsH_of_body (.seq .leaf (.seq .leaf .leaf)) Tryz.func67 rfl rfl (Eq.mp (by kernel_rfl) hv)
theorem copies_isCopy.walk {endpoint_0 : Bool} {endpoint_1 : Int} {endpoint_2 : Int} {endpoint_3 : ByteArray} {endpoint_4 : ByteArray} {data_p : Option Addr} {data_l data_c : Nat} {v_until : Int} (hv :
 NewP h (.cells #[.bool endpoint_0, .int .u64 endpoint_1, .int .u64 endpoint_2, .string endpoint_3, .string endpoint_4] T.eid_Eid) fun b h_1 =>
 eid_Eid.LD h_1 ⟨b, 0, none⟩ fun t7_0 t7_1 t7_2 t7_3 t7_4 =>
 Cl F.eid_Right #[.agg #[.bool t7_0, .int .u64 t7_1, .int .u64 t7_2, .string t7_3, .string t7_4]] h_1 fun v h_2 =>
 ∃ t8, v = .bool t8 ∧
 if t8 = true then
 eid_Eid.LD h_2 ⟨b, 0, none⟩ fun t10_0 t10_1 t10_2 t10_3 t10_4 =>
 ∃ (eq : Bool), EqV Tryz.prog T.eid_Eid (.agg #[.bool t10_0, .int .u64 t10_1, .int .u64 t10_2, .string t10_3, .string t10_4]) (.agg #[.bool false, .int .u64 0, .int .u64 0, .string (⟨#[]⟩ : ByteArray), .string (⟨#[]⟩ : ByteArray)]) eq ∧
 if (!eq) = true then
 if (decide (((data_l : Nat) : Int) ≥ 1)) = true then
 if (decide (((data_l : Nat) : Int) ≤ 600)) = true then
 R (.bool (decide (v_until ≤ 1099511627776))) h_2
 else
 R (.bool false) h_2
 else
 R (.bool false) h_2
 else
 R (.bool false) h_2
 else
 R (.bool false) h_2) : CallsH Tryz.prog F.copies_isCopy #[.agg #[.bool endpoint_0, .int .u64 endpoint_1, .int .u64 endpoint_2, .string endpoint_3, .string endpoint_4], .slice data_p data_l data_c, .int .u64 v_until] h R :=
 callsH_of_body (.seq .leaf (.seq .leaf .leaf)) Tryz.func70 rfl rfl (Eq.mp (by kernel_rfl) hv)
theorem copies_Table_Add.walk {t : Nat} {endpoint_0 : Bool} {endpoint_1 : Int} {endpoint_2 : Int} {endpoint_3 : ByteArray} {endpoint_4 : ByteArray} {data_p : Option Addr} {data_l data_c : Nat} {v_until : Int} (hv :
 NewP h (.cells #[.bool endpoint_0, .int .u64 endpoint_1, .int .u64 endpoint_2, .string endpoint_3, .string endpoint_4] T.eid_Eid) fun b h_1 =>
 Cl F.copies_Table_made #[.pointer (some ⟨t, 0, none⟩)] h_1 fun v h_2 =>
 ∃ t13, v = .bool t13 ∧
 if (!t13) = true then
 R (.tuple #[.int .i64 0, .int .i64 6]) h_2
 else
 eid_Eid.LD h_2 ⟨b, 0, none⟩ fun t16_0 t16_1 t16_2 t16_3 t16_4 =>
 Cl F.copies_isCopy #[.agg #[.bool t16_0, .int .u64 t16_1, .int .u64 t16_2, .string t16_3, .string t16_4], .slice data_p data_l data_c, .int .u64 v_until] h_2 fun v_1 h_3 =>
 ∃ t19, v_1 = .bool t19 ∧
 if (!t19) = true then
 R (.tuple #[.int .i64 0, .int .i64 1]) h_3
 else
 eid_Eid.LD h_3 ⟨b, 0, none⟩ fun t23_0 t23_1 t23_2 t23_3 t23_4 =>
 Cl F.copies_Table_of #[.pointer (some ⟨t, 0, none⟩), .agg #[.bool t23_0, .int .u64 t23_1, .int .u64 t23_2, .string t23_3, .string t23_4]] h_3 fun v_2 h_4 =>
 ∃ t24_p t24_l t24_c, v_2 = .slice t24_p t24_l t24_c ∧
 if (decide (((t24_l : Nat) : Int) ≥ 16)) = true then
 R (.tuple #[.int .i64 0, .int .i64 15]) h_4
 else
 ∃ t30, hcell h_4 ⟨t, 1, none⟩ = some (.int .i64 t30) ∧
 ∃ t34, hcell h_4 ⟨t, 1, none⟩ = some (.int .i64 t34) ∧
 StoreP h_4 ⟨t, 1, none⟩ (.int .i64 (IntKind.wrap .i64 (t34 + 1))) fun h_5 =>
 ∃ t41, hcell h_5 ⟨t, 0, none⟩ = some (.map t41) ∧
 eid_Eid.LD h_5 ⟨b, 0, none⟩ fun t44_0 t44_1 t44_2 t44_3 t44_4 =>
 Cl F.slices_Clone_s_byte_byte #[.slice data_p data_l data_c] h_5 fun v_3 h_6 =>
 ∃ t46_p t46_l t46_c, v_3 = .slice t46_p t46_l t46_c ∧
 heldL ⟨b, 0, none⟩ [.bool t44_0, .int .u64 t44_1, .int .u64 t44_2, .string t44_3, .string t44_4] 0 h_6 ∧
 hcell h_6 ⟨t, 0, none⟩ = some (.map t41) ∧
 NewP h_6 (.cells #[.int .i64 t30, .bool t44_0, .int .u64 t44_1, .int .u64 t44_2, .string t44_3, .string t44_4, .slice t46_p t46_l t46_c, .int .u64 v_until, .int .i64 0, .int .u64 0] T.copies_Copy) fun b_1 h_7 =>
 heldL ⟨b, 0, none⟩ [.bool t44_0, .int .u64 t44_1, .int .u64 t44_2, .string t44_3, .string t44_4] 0 h_7 ∧
 hcell h_7 ⟨t, 0, none⟩ = some (.map t41) ∧
 denSem Tryz.prog (Instr.mapUpdate T.m_int_p_copies_Copy (.map t41) (.int .i64 t30) (.pointer (some ⟨b_1, 0, none⟩))) h_7 fun _ h_8 =>
 ∃ t53, hcell h_8 ⟨t, 5, none⟩ = some (.pointer t53) ∧
 Cl F.alarm_Alarm_Set #[.pointer t53, .int .i64 t30, .int .u64 v_until] h_8 fun v_4 h_9 =>
 ∃ t56, v_4 = .int .i64 t56 ∧
 R (.tuple #[.int .i64 t30, .int .i64 0]) h_9) : CallsH Tryz.prog F.copies_Table_Add #[.pointer (some ⟨t, 0, none⟩), .agg #[.bool endpoint_0, .int .u64 endpoint_1, .int .u64 endpoint_2, .string endpoint_3, .string endpoint_4], .slice data_p data_l data_c, .int .u64 v_until] h R :=
 callsH_of_body (.seq .leaf (.seq (.block (.seq .leaf (.cond (.seq .leaf .leaf) (.seq .leaf (.cond (.seq .leaf .leaf) (.seq .leaf (.cond (.seq .leaf .leaf) .leaf))))))) (.seq .leaf (.seq .leaf (.seq (.plan (.op 0 (.op 1 (.op 2 (.op 3 (.op 4 (.op 5 (.op 6 (.op 7 (.op 9 (.op 8 (.op 10 (.op 11 (.op 12 .done)))))))))))))) (.seq .leaf (.seq .leaf .leaf))))))) Tryz.func17 rfl rfl (Eq.mp (by kernel_rfl) hv)
theorem copies_Table_free.walk {t : Nat} {n : Int} (hv :
 ∃ t7, hcell h ⟨t, 6, none⟩ = some (.pointer t7) ∧
 Cl F.alarm_Alarm_Drop #[.pointer t7, .int .i64 n] h fun v h_1 =>
 ∃ t9, v = .int .i64 t9 ∧
 ∃ t13, hcell h_1 ⟨t, 0, none⟩ = some (.map t13) ∧
 ∃ t15, LookV Tryz.prog T.m_int_p_copies_Copy (.map t13) (.int .i64 n) false h_1 (.pointer t15) ∧
 ∃ t19, hcell h_1 ⟨t, 0, none⟩ = some (.map t19) ∧
 ∃ t21, LookV Tryz.prog T.m_int_p_copies_Copy (.map t19) (.int .i64 n) false h_1 (.pointer t21) ∧
 onSome t15 fun a =>
 StoreP h_1 (a.add 8) (.int .i64 0) fun h_2 =>
 onSome t21 fun a_1 =>
 StoreP h_2 (a_1.add 9) (.int .u64 0) fun h_3 =>
 R (.tuple #[]) h_3) : CallsH Tryz.prog F.copies_Table_free #[.pointer (some ⟨t, 0, none⟩), .int .i64 n] h R :=
 callsH_of_body (.seq .leaf (.plan (.op 0 (.op 1 (.op 2 (.op 3 (.op 4 (.op 5 (.op 6 (.op 7 (.op 8 (.op 9 (.op 10 (.op 11 (.op 12 (.op 13 (.op 14 (.op 15 (.op 16 (.op 17 .done)))))))))))))))))))) Tryz.func85 rfl rfl (Eq.mp (by kernel_rfl) hv)
theorem copies_Table_remove.walk {t : Nat} {n : Int} (hv :
 ∃ t7, hcell h ⟨t, 6, none⟩ = some (.pointer t7) ∧
 Cl F.alarm_Alarm_Drop #[.pointer t7, .int .i64 n] h fun v h_1 =>
 ∃ t9, v = .int .i64 t9 ∧
 ∃ t13, hcell h_1 ⟨t, 5, none⟩ = some (.pointer t13) ∧
 Cl F.alarm_Alarm_Drop #[.pointer t13, .int .i64 n] h_1 fun v_1 h_2 =>
 ∃ t15, v_1 = .int .i64 t15 ∧
 ∃ t19, hcell h_2 ⟨t, 0, none⟩ = some (.map t19) ∧
 denSem Tryz.prog (Builtin.delete_ #[T.m_int_p_copies_Copy, T.int] T.tup_ #[.map t19, .int .i64 n]) h_2 fun v_2 h_3 =>
 v_2 = .tuple #[] ∧
 R (.tuple #[]) h_3) : CallsH Tryz.prog F.copies_Table_remove #[.pointer (some ⟨t, 0, none⟩), .int .i64 n] h R :=
 callsH_of_body (.seq .leaf (.seq .leaf .leaf)) Tryz.func84 rfl rfl (Eq.mp (by kernel_rfl) hv)
theorem copies_Table_Pass.walk {t : Nat} {now : Int} (hv :
 Cl F.copies_Table_made #[.pointer (some ⟨t, 0, none⟩)] h fun v h_1 =>
 ∃ t11, v = .bool t11 ∧
 if (!t11) = true then
 R (.slice none 0 0) h_1
 else
 ∃ t16, hcell h_1 ⟨t, 5, none⟩ = some (.pointer t16) ∧
 Cl F.alarm_Alarm_Ring #[.pointer t16, .int .u64 now] h_1 fun v_1 h_2 =>
 ∃ t18_p t18_l t18_c, v_1 = .slice t18_p t18_l t18_c ∧
 ∃ (I : Int → Heap → Prop) (mu : Int → Heap → Nat), I 0 h_2 ∧ ∀ (t21 : Int) (h_3 : Heap), I t21 h_3 →
 if (decide (t21 < ((t18_l : Nat) : Int))) = true then
 ((0 : Int) ≤ t21 ∧ t21 < ((t18_l : Nat) : Int)) ∧
 onSome t18_p fun a =>
 ∃ t24, hcell h_3 (a.add (Int.toNat t21 * 1)) = some (.int .i64 t24) ∧
 Cl F.copies_Table_remove #[.pointer (some ⟨t, 0, none⟩), .int .i64 t24] h_3 fun v_2 h_4 =>
 v_2 = .tuple #[] ∧
 ∃ t31, hcell h_4 ⟨t, 3, none⟩ = some (.int .i64 t31) ∧
 StoreP h_4 ⟨t, 3, none⟩ (.int .i64 (IntKind.wrap .i64 (t31 + 1))) fun h_5 =>
 (I (IntKind.wrap .i64 (t21 + 1)) h_5 ∧ mu (IntKind.wrap .i64 (t21 + 1)) h_5 < mu t21 h_3)
 else
 ∃ t39, hcell h_3 ⟨t, 6, none⟩ = some (.pointer t39) ∧
 Cl F.alarm_Alarm_Ring #[.pointer t39, .int .u64 now] h_3 fun v_3 h_6 =>
 ∃ t41_p t41_l t41_c, v_3 = .slice t41_p t41_l t41_c ∧
 ∃ (I_1 : Int → Heap → Prop) (mu_1 : Int → Heap → Nat), I_1 0 h_6 ∧ ∀ (t43 : Int) (h_7 : Heap), I_1 t43 h_7 →
 if (decide (t43 < ((t41_l : Nat) : Int))) = true then
 ((0 : Int) ≤ t43 ∧ t43 < ((t41_l : Nat) : Int)) ∧
 onSome t41_p fun a_1 =>
 ∃ t46, hcell h_7 (a_1.add (Int.toNat t43 * 1)) = some (.int .i64 t46) ∧
 Cl F.copies_Table_free #[.pointer (some ⟨t, 0, none⟩), .int .i64 t46] h_7 fun v_4 h_8 =>
 v_4 = .tuple #[] ∧
 (I_1 (IntKind.wrap .i64 (t43 + 1)) h_8 ∧ mu_1 (IntKind.wrap .i64 (t43 + 1)) h_8 < mu_1 t43 h_7)
 else
 R (.slice t18_p t18_l t18_c) h_7) : CallsH Tryz.prog F.copies_Table_Pass #[.pointer (some ⟨t, 0, none⟩), .int .u64 now] h R :=
 callsH_of_body (.seq .leaf (.seq (.seq .leaf (.cond (.seq .leaf .leaf) .leaf)) (.seq .leaf (.seq (.seq .leaf (.block (.loop [(21, .one (.int .i64))] (.seq .leaf (.seq (.cond .leaf .leaf) (.seq (.block (.seq .leaf (.seq .leaf .leaf))) .leaf)))))) (.seq (.seq .leaf (.block (.loop [(43, .one (.int .i64))] (.seq .leaf (.seq (.cond .leaf .leaf) (.seq (.block (.seq .leaf .leaf)) .leaf)))))) (.seq .leaf .leaf)))))) Tryz.func25 rfl rfl (Eq.mp (by kernel_rfl) hv)
theorem copies_Table_All.walk {t : Nat} (hv :
 Cl F.copies_Table_numbers #[.pointer (some ⟨t, 0, none⟩)] h fun v h_1 =>
 ∃ t8_p t8_l t8_c, v = .slice t8_p t8_l t8_c ∧
 ∃ (I : Option Addr → Nat → Nat → Int → Heap → Prop) (mu : Option Addr → Nat → Nat → Int → Heap → Nat), I none 0 0 0 h_1 ∧ ∀ (out_p : Option Addr) (out_l out_c : Nat) (t10 : Int) (h_2 : Heap), I out_p out_l out_c t10 h_2 →
 if (decide (t10 < ((t8_l : Nat) : Int))) = true then
 ((0 : Int) ≤ t10 ∧ t10 < ((t8_l : Nat) : Int)) ∧
 onSome t8_p fun a =>
 ∃ t13, hcell h_2 (a.add (Int.toNat t10 * 1)) = some (.int .i64 t13) ∧
 ∃ t17, hcell h_2 ⟨t, 0, none⟩ = some (.map t17) ∧
 ∃ t19, LookV Tryz.prog T.m_int_p_copies_Copy (.map t17) (.int .i64 t13) false h_2 (.pointer t19) ∧
 onSome t19 fun a_1 =>
 copies_Copy.LD h_2 a_1 fun t21_0 t21_1 t21_2 t21_3 t21_4 t21_5 t21_6_p t21_6_l t21_6_c t21_7 t21_8 t21_9 =>
 NewP h_2 (.cells #[.int .i64 0, .bool false, .int .u64 0, .int .u64 0, .string (⟨#[]⟩ : ByteArray), .string (⟨#[]⟩ : ByteArray), .slice none 0 0, .int .u64 0, .int .i64 0, .int .u64 0] T.copies_Copy) fun b h_3 =>
 copies_Copy.ST h_3 ⟨b, 0, none⟩ t21_0 t21_1 t21_2 t21_3 t21_4 t21_5 t21_6_p t21_6_l t21_6_c t21_7 t21_8 t21_9 fun h_4 =>
 ∃ t23_p t23_l t23_c, hcell h_4 ⟨b, 6, none⟩ = some (.slice t23_p t23_l t23_c) ∧
 Cl F.slices_Clone_s_byte_byte #[.slice t23_p t23_l t23_c] h_4 fun v_1 h_5 =>
 ∃ t24_p t24_l t24_c, v_1 = .slice t24_p t24_l t24_c ∧
 StoreP h_5 ⟨b, 6, none⟩ (.slice t24_p t24_l t24_c) fun h_6 =>
 copies_Copy.LD h_6 ⟨b, 0, none⟩ fun t27_0 t27_1 t27_2 t27_3 t27_4 t27_5 t27_6_p t27_6_l t27_6_c t27_7 t27_8 t27_9 =>
 NewP h_6 (.cells #[.int .i64 t27_0, .bool t27_1, .int .u64 t27_2, .int .u64 t27_3, .string t27_4, .string t27_5, .slice t27_6_p t27_6_l t27_6_c, .int .u64 t27_7, .int .i64 t27_8, .int .u64 t27_9] T.copies_Copy) fun b_1 h_7 =>
 denSem Tryz.prog (Builtin.append_ #[T.s_copies_Copy, T.s_copies_Copy] T.s_copies_Copy #[.slice out_p out_l out_c, .slice (some ⟨b_1, 0, none⟩) 1 1]) h_7 fun v_2 h_8 =>
 ∃ t29_p t29_l t29_c, v_2 = .slice t29_p t29_l t29_c ∧
 (I t29_p t29_l t29_c (IntKind.wrap .i64 (t10 + 1)) h_8 ∧ mu t29_p t29_l t29_c (IntKind.wrap .i64 (t10 + 1)) h_8 < mu out_p out_l out_c t10 h_2)
 else
 R (.slice out_p out_l out_c) h_2) : CallsH Tryz.prog F.copies_Table_All #[.pointer (some ⟨t, 0, none⟩)] h R :=
 callsH_of_body (.seq .leaf (.seq .leaf (.seq (.seq .leaf (.block (.loop [(3, .one (.slice)), (10, .one (.int .i64))] (.seq .leaf (.seq (.cond .leaf .leaf) (.seq (.block (.seq .leaf (.seq .leaf (.seq .leaf .leaf)))) .leaf)))))) (.seq .leaf .leaf)))) Tryz.func27 rfl rfl (Eq.mp (by kernel_rfl) hv)
end Go.Proofs.YtgccegnmggjkjaaGreatDoor
set_option maxRecDepth 100000
namespace Go.Proofs.YtgccegnmggjkjaaGreatDoor
open Go.Den Go.Heapq
namespace Cps
open Eid Alarm
variable {h h' : Heap} {R : Value → Heap → Prop} {t : Nat} {X : Ft}
structure Cp where
 num:Nat
 e:Ev
 d:List UInt8
 till:Nat
 ses:Int
 dl:Nat
structure CV where
 num:Nat
 b:Nat
 e:Ev
 v:BV
 till:Nat
 ses:Int
 dl:Nat
def CV.abs (x:CV):Cp:=⟨x.num,x.e,x.v.b,x.till,x.ses,x.dl⟩
abbrev CV.at (h:Heap) (b:Nat) (x:CV):Prop:=copies_Copy.at h b (x.num:Int) x.e.ipn x.e.node x.e.svc x.e.host x.e.dem x.v.p x.v.b.length x.v.c (x.till:Int) x.ses (x.dl:Int)
structure CF where
 L:List Cp
 next:Nat
 acked:Nat
 over:Nat
 gone:Nat
 E1:List E
 E2:List E
abbrev ienc (n:Int):Value:= .int .i64 n
theorem ikey:KeyOk Tryz.prog T.int ienc:=⟨fun a b h=>by kernel_rfl,fun e a h=>by kernel_rfl,by
 have hu:Tryz.prog.underlying T.int=some (.int .i64):=by kernel_rfl
 exact⟨_,hu,fun a b=> .inr rfl⟩,fun a=>by simp[Instr.sameBits]⟩
theorem mapTy:MapKy Tryz.prog T.m_int_p_copies_Copy ienc (.pointer none):=MapKy.of T.int T.p_copies_Copy (by kernel_rfl) ikey (by kernel_rfl)
abbrev CV.pair (x:CV):Int×Value:=((x.num:Int), .pointer (some ⟨x.b,0,none⟩))
structure Cm (h:Heap) (t:Nat) (X:Ft) (s:CF) (m:Nat) (xs:List CV) (a1:Nat) (S1:Nat→Prop) (a2:Nat) (S2:Nat→Prop) (lab:Nat→Option Nat):Prop where
 blk:h[t]? =some (.cells #[.map (some m), .int .i64 (s.next:Int), .int .i64 (s.acked:Int), .int .i64 (s.over:Int), .int .i64 (s.gone:Int), .pointer (some ⟨a1,0,none⟩), .pointer (some ⟨a2,0,none⟩)] T.copies_Table (0,0))
 map:MapP h m ienc (xs.map CV.pair)
 cps: ∀x∈xs,x.at h x.b
 abs:xs.map CV.abs=s.L
 dat: ∀x∈xs,x.v.ok h X.D
 al1:Al h a1 S1 s.E1
 al2:Al h a2 S2 s.E2
 l0:lab t=some 0
 l1:lab m=some 1
 l2: ∀c,S1 c→lab c=some 2
 l3: ∀c,S2 c→lab c=some 3
 l4: ∀x∈xs,lab x.b=some (4+x.num)
 mm: ∀c,X.M c↔lab c≠none
 dd: ∀c,X.D c→lab c=none∧c<h.size
 lsz: ∀c,lab c≠none→c<h.size
 so:(xs.map CV.num).Pairwise (· < ·)
def Ct (h:Heap) (t:Nat) (X:Ft) (s:CF):Prop:= ∃m xs a1 S1 a2 S2 lab,Cm h t X s m xs a1 S1 a2 S2 lab
variable {s s' : CF} {m a1 a2 : Nat} {xs : List CV} {S1 S2 S1' S2' : Nat → Prop} {lab : Nat → Option Nat}
structure Kept (h':Heap) (t:Nat) (X:Ft) (s:CF) (m:Nat) (xs:List CV) (a1:Nat) (S1:Nat→Prop) (a2:Nat) (S2:Nat→Prop) (k:Nat):Prop where
 blk:k≠0→h'[t]? =some (.cells #[.map (some m), .int .i64 (s.next:Int), .int .i64 (s.acked:Int), .int .i64 (s.over:Int), .int .i64 (s.gone:Int), .pointer (some ⟨a1,0,none⟩), .pointer (some ⟨a2,0,none⟩)] T.copies_Table (0,0))
 map:k≠1→MapP h' m ienc (xs.map CV.pair)
 al1:k≠2→Al h' a1 S1 s.E1
 al2:k≠3→Al h' a2 S2 s.E2
 cps: ∀x∈xs,k≠4+x.num→x.at h' x.b
 dat: ∀x∈xs,x.v.ok h' X.D
theorem Cm.keep {Q:Nat→Prop} {k:Nat} (H:Cm h t X s m xs a1 S1 a2 S2 lab) (f:Fr Q h h') (hq: ∀c,Q c→c<h.size→lab c=some k):Kept h' t X s m xs a1 S1 a2 S2 k:=by
 have no: ∀ {c j:Nat},c<h.size→lab c=some j→k≠j→ ¬Q c:=fun hc hl hk hQ=>hk (by have:=hq _ hQ hc;rw[hl] at this;exact(Option.some.inj this).symm)
 refine⟨fun hk=>f.get H.blk (no (lt_of_get H.blk) H.l0 hk),fun hk=>H.map.frame f (no H.map.lt H.l1 hk),fun hk=> ?_,fun hk=> ?_,fun x hx hk=>f.get (H.cps x hx) (no (lt_of_get (H.cps x hx)) (H.l4 x hx) hk),fun x hx=> ?_⟩
 ·exact H.al1.frame f (fun c hc=>no (H.al1.lt hc) (H.l2 c hc) hk)
 ·exact H.al2.frame f (fun c hc=>no (H.al2.lt hc) (H.l3 c hc) hk)
 ·refine(H.dat x hx).frame f (fun c hc hQ=> ?_)
  have:=H.dd c hc
  have h2:=hq c hQ this.2
  rw[this.1] at h2;cases h2
theorem Cm.frame {Q:Nat→Prop} (H:Cm h t X s m xs a1 S1 a2 S2 lab) (f:Fr Q h h') (hq: ∀y,X.M y∨X.D y→ ¬Q y):Cm h' t X s m xs a1 S1 a2 S2 lab:=by
 have no: ∀ {c j:Nat},lab c=some j→ ¬Q c:=fun hl=>hq _ (.inl ((H.mm _).2 (by rw[hl];simp)))
 exact⟨f.get H.blk (no H.l0),H.map.frame f (no H.l1),fun x hx=>f.get (H.cps x hx) (no (H.l4 x hx)),H.abs,fun x hx=>(H.dat x hx).frame f (fun c hc=>hq c (.inr hc)),
  H.al1.frame f (fun c hc=>no (H.l2 c hc)),H.al2.frame f (fun c hc=>no (H.l3 c hc)),H.l0,H.l1,H.l2,H.l3,H.l4,H.mm,fun c hc=>⟨(H.dd c hc).1,Nat.lt_of_lt_of_le (H.dd c hc).2 f.1⟩,fun c hc=>Nat.lt_of_lt_of_le (H.lsz c hc) f.1,H.so⟩
theorem Cm.on (H:Cm h t X s m xs a1 S1 a2 S2 lab) (f:Fr (fun _=>False) h h'):Cm h' t X s m xs a1 S1 a2 S2 lab:=H.frame f (fun _ _=>id)
theorem Ct.frame {Q:Nat→Prop} (H:Ct h t X s) (f:Fr Q h h') (hq: ∀y,X.M y∨X.D y→ ¬Q y):Ct h' t X s:=by
 obtain⟨m,xs,a1,S1,a2,S2,lab,H⟩:=H;exact⟨m,xs,a1,S1,a2,S2,lab,H.frame f hq⟩
theorem Ct.on (H:Ct h t X s) (f:Fr (fun _=>False) h h'):Ct h' t X s:=H.frame f (fun _ _=>id)
theorem Ct.lt (H:Ct h t X s) (y:Nat) (hy:X.M y∨X.D y):y<h.size:=by
 obtain⟨m,xs,a1,S1,a2,S2,lab,H⟩:=H
 rcases hy with hy|hy
 ·exact H.lsz y ((H.mm y).1 hy)
 ·exact(H.dd y hy).2
theorem Cm.step {Q:Nat→Prop} {k:Nat} (H:Cm h t X s m xs a1 S1 a2 S2 lab) (f:Fr Q h h') (hq: ∀c,Q c→c<h.size→lab c=some k):StepF X h X h':=
 StepF.of_fr (f.mono fun c hc hQ=>(H.mm c).2 (by rw[hq c hQ hc];simp))
theorem Cm.field (H:Cm h t X s m xs a1 S1 a2 S2 lab) (hL:s'.L=s.L) (h1:s'.E1=s.E1) (h2:s'.E2=s.E2)
  (hb:h'[t]? =some (.cells #[.map (some m), .int .i64 (s'.next:Int), .int .i64 (s'.acked:Int), .int .i64 (s'.over:Int), .int .i64 (s'.gone:Int), .pointer (some ⟨a1,0,none⟩), .pointer (some ⟨a2,0,none⟩)] T.copies_Table (0,0)))
  (hs:h'.size=h.size) (ho: ∀x,x≠t→h'[x]? =h[x]?):Cm h' t X s' m xs a1 S1 a2 S2 lab∧StepF X h X h':=by
 have f:Fr (fun c=>c=t) h h':=⟨by omega,fun c _ hn=>ho c hn⟩
 have hq: ∀c,c=t→c<h.size→lab c=some 0:=fun c e _=>by rw[e];exact H.l0
 have K:=H.keep f hq
 refine⟨⟨hb,K.map (by omega),fun x hx=>K.cps x hx (by omega),H.abs.trans hL.symm,K.dat,by rw[h1];exact K.al1 (by omega),by rw[h2];exact K.al2 (by omega),H.l0,H.l1,H.l2,H.l3,H.l4,H.mm,fun c hc=>by rw[hs];exact H.dd c hc,fun c hc=>by rw[hs];exact H.lsz c hc,H.so⟩,H.step f hq⟩
def relab (lab:Nat→Option Nat) (S:Nat→Prop) [DecidablePred S] (k:Nat):Nat→Option Nat:=fun c=>if S c then some k else lab c
theorem Cm.alarm2 {E':List E} (H:Cm h t X s m xs a1 S1 a2 S2 lab) (A:Al h' a2 S2' E') (hS: ∀c,S2' c→S2 c∨h.size≤c) (f:Fr S2 h h') (hL:s'.L=s.L) (h1:s'.E1=s.E1) (h2:s'.E2=E') (hn:s'.next=s.next∧s'.acked=s.acked∧s'.over=s.over∧s'.gone=s.gone):
  ∃X' lab',Cm h' t X' s' m xs a1 S1 a2 S2' lab'∧StepF X h X' h'∧ ∀c,X'.M c→X.M c∨S2' c:=by
 classical
 have hq: ∀c,S2 c→c<h.size→lab c=some 3:=fun c hc _=>H.l3 c hc
 have K:=H.keep f hq
 have z:=f.1
 let lab':=relab lab S2' 3
 have keepL: ∀ {c j:Nat},lab c=some j→j≠3→lab' c=some j:=fun {c j} hl hj=>by
  show(if S2' c then some 3 else lab c)=some j
  rw[if_neg]
  ·exact hl
  ·intro hc
   rcases hS c hc with h3|h3
   ·rw[H.l3 c h3] at hl;exact hj (Option.some.inj hl).symm
   ·have:=H.lsz c (by rw[hl];simp);omega
 have lab_none: ∀c,lab' c≠none→lab c≠none∨S2' c:=fun c hc=>by
  by_cases hx:S2' c
  ·exact .inr hx
  ·refine .inl ?_
   have e:lab' c=lab c:=if_neg hx
   rwa[e] at hc
 have none_lab: ∀c,lab c≠none→lab' c≠none:=fun c hc=>by
  by_cases hx:S2' c
  ·have e:lab' c=some 3:=if_pos hx
   rw[e];simp
  ·have e:lab' c=lab c:=if_neg hx
   rwa[e]
 have st:StepF X h ⟨fun c=>lab' c≠none,X.D⟩ h':=by
  refine⟨f.mono (fun c hc hx=>(H.mm c).2 (by rw[H.l3 c hx];simp)),fun c hc=> ?_,fun c hc=> .inl hc,fun c hc=>hc⟩
  rcases lab_none c hc with h3|h3
  ·exact .inl ((H.mm c).2 h3)
  ·rcases hS c h3 with h4|h4
   ·exact .inl ((H.mm c).2 (by rw[H.l3 c h4];simp))
   ·exact .inr h4
 refine⟨⟨fun c=>lab' c≠none,X.D⟩,lab',⟨?_,K.map (by omega),fun x hx=>K.cps x hx (by omega),H.abs.trans hL.symm,K.dat,by rw[h1];exact K.al1 (by omega),by rw[h2];exact A,keepL H.l0 (by omega),keepL H.l1 (by omega),fun c hc=>keepL (H.l2 c hc) (by omega),fun c hc=>if_pos hc,fun x hx=>keepL (H.l4 x hx) (by omega),fun c=>Iff.rfl,fun c hc=> ?_,fun c hc=> ?_,H.so⟩,st,fun c hc=>(lab_none c hc).imp (fun h=>(H.mm c).2 h) id⟩
 ·rw[hn.1,hn.2.1,hn.2.2.1,hn.2.2.2];exact K.blk (by omega)
 ·have:=H.dd c hc
  refine⟨?_,by omega⟩
  show(if S2' c then some 3 else lab c)=none
  rw[if_neg]
  ·exact this.1
  ·intro hx
   rcases hS c hx with h3|h3
   ·rw[H.l3 c h3] at this;cases this.1
   ·omega
 ·rcases lab_none c hc with h3|h3
  ·have:=H.lsz c h3;omega
  ·exact A.lt h3
theorem Cm.alarm1 {E':List E} (H:Cm h t X s m xs a1 S1 a2 S2 lab) (A:Al h' a1 S1' E') (hS: ∀c,S1' c→S1 c∨h.size≤c) (f:Fr S1 h h') (hL:s'.L=s.L) (h1:s'.E1=E') (h2:s'.E2=s.E2) (hn:s'.next=s.next∧s'.acked=s.acked∧s'.over=s.over∧s'.gone=s.gone):
  ∃X' lab',Cm h' t X' s' m xs a1 S1' a2 S2 lab'∧StepF X h X' h'∧ ∀c,X'.M c→X.M c∨S1' c:=by
 classical
 have hq: ∀c,S1 c→c<h.size→lab c=some 2:=fun c hc _=>H.l2 c hc
 have K:=H.keep f hq
 have z:=f.1
 let lab':=relab lab S1' 2
 have keepL: ∀ {c j:Nat},lab c=some j→j≠2→lab' c=some j:=fun {c j} hl hj=>by
  show(if S1' c then some 2 else lab c)=some j
  rw[if_neg]
  ·exact hl
  ·intro hc
   rcases hS c hc with h3|h3
   ·rw[H.l2 c h3] at hl;exact hj (Option.some.inj hl).symm
   ·have:=H.lsz c (by rw[hl];simp);omega
 have lab_none: ∀c,lab' c≠none→lab c≠none∨S1' c:=fun c hc=>by
  by_cases hx:S1' c
  ·exact .inr hx
  ·refine .inl ?_
   have e:lab' c=lab c:=if_neg hx
   rwa[e] at hc
 have st:StepF X h ⟨fun c=>lab' c≠none,X.D⟩ h':=by
  refine⟨f.mono (fun c hc hx=>(H.mm c).2 (by rw[H.l2 c hx];simp)),fun c hc=> ?_,fun c hc=> .inl hc,fun c hc=>hc⟩
  rcases lab_none c hc with h3|h3
  ·exact .inl ((H.mm c).2 h3)
  ·rcases hS c h3 with h4|h4
   ·exact .inl ((H.mm c).2 (by rw[H.l2 c h4];simp))
   ·exact .inr h4
 refine⟨⟨fun c=>lab' c≠none,X.D⟩,lab',⟨?_,K.map (by omega),fun x hx=>K.cps x hx (by omega),H.abs.trans hL.symm,K.dat,by rw[h1];exact A,by rw[h2];exact K.al2 (by omega),keepL H.l0 (by omega),keepL H.l1 (by omega),fun c hc=>if_pos hc,fun c hc=>keepL (H.l3 c hc) (by omega),fun x hx=>keepL (H.l4 x hx) (by omega),fun c=>Iff.rfl,fun c hc=> ?_,fun c hc=> ?_,H.so⟩,st,fun c hc=>(lab_none c hc).imp (fun h=>(H.mm c).2 h) id⟩
 ·rw[hn.1,hn.2.1,hn.2.2.1,hn.2.2.2];exact K.blk (by omega)
 ·have:=H.dd c hc
  refine⟨?_,by omega⟩
  show(if S1' c then some 2 else lab c)=none
  rw[if_neg]
  ·exact this.1
  ·intro hx
   rcases hS c hx with h3|h3
   ·rw[H.l2 c h3] at this;cases this.1
   ·omega
 ·rcases lab_none c hc with h3|h3
  ·have:=H.lsz c h3;omega
  ·exact A.lt h3
theorem Cm.del {n:Int} (H:Cm h t X s m xs a1 S1 a2 S2 lab) (M:MapP h' m ienc (gdel (xs.map CV.pair) n)) (hs:h'.size=h.size) (ho: ∀c,c≠m→h'[c]? =h[c]?) (hL:s'.L=s.L.filter (fun x=> !decide ((x.num:Int)=n))) (h1:s'.E1=s.E1) (h2:s'.E2=s.E2) (hn:s'.next=s.next∧s'.acked=s.acked∧s'.over=s.over∧s'.gone=s.gone):
  Cm h' t X s' m (xs.filter (fun x=> !decide ((x.num:Int)=n))) a1 S1 a2 S2 lab∧StepF X h X h':=by
 have f:Fr (fun c=>c=m) h h':=⟨by omega,fun c _ hn=>ho c hn⟩
 have hq: ∀c,c=m→c<h.size→lab c=some 1:=fun c e _=>by rw[e];exact H.l1
 have K:=H.keep f hq
 have sub: ∀x∈xs.filter (fun x=> !decide ((x.num:Int)=n)),x∈xs:=fun x hx=>(List.mem_filter.1 hx).1
 refine⟨⟨?_, ?_,fun x hx=>K.cps x (sub x hx) (by omega), ?_,fun x hx=>K.dat x (sub x hx),by rw[h1];exact K.al1 (by omega),by rw[h2];exact K.al2 (by omega),H.l0,H.l1,H.l2,H.l3,fun x hx=>H.l4 x (sub x hx),H.mm,fun c hc=>by rw[hs];exact H.dd c hc,fun c hc=>by rw[hs];exact H.lsz c hc,H.so.sublist (List.filter_sublist.map _)⟩,H.step f hq⟩
 ·rw[hn.1,hn.2.1,hn.2.2.1,hn.2.2.2];exact K.blk (by omega)
 ·unfold gdel at M
  rw[List.filter_map] at M
  exact M
 ·rw[hL,←H.abs,List.filter_map];rfl
theorem Cm.change {x y:CV} (H:Cm h t X s m xs a1 S1 a2 S2 lab) (hx:x∈xs) (hb:y.b=x.b) (hnum:y.num=x.num) (hv:y.v=x.v) (hy:y.at h' x.b) (hs:h'.size=h.size) (ho: ∀c,c≠x.b→h'[c]? =h[c]?)
  (hL:s'.L=s.L.map (fun z=>if z.num=x.num then y.abs else z)) (h1:s'.E1=s.E1) (h2:s'.E2=s.E2) (hn:s'.next=s.next∧s'.acked=s.acked∧s'.over=s.over∧s'.gone=s.gone):
  Cm h' t X s' m (xs.map (fun z=>if z.num=x.num then y else z)) a1 S1 a2 S2 lab∧StepF X h X h':=by
 have f:Fr (fun c=>c=x.b) h h':=⟨by omega,fun c _ hn=>ho c hn⟩
 have hq: ∀c,c=x.b→c<h.size→lab c=some (4+x.num):=fun c e _=>by rw[e];exact H.l4 x hx
 have K:=H.keep f hq
 have mem: ∀z∈xs.map (fun z=>if z.num=x.num then y else z),(z=y)∨(z∈xs∧z.num≠x.num):=fun z hz=>by
  obtain⟨u,hu,rfl⟩:=List.mem_map.1 hz
  by_cases e:u.num=x.num
  ·rw[if_pos e];exact .inl rfl
  ·rw[if_neg e];exact .inr ⟨hu,e⟩
 have pe:(xs.map (fun z=>if z.num=x.num then y else z)).map CV.pair=xs.map CV.pair:=by
  rw[List.map_map]
  refine List.map_congr_left fun z hz=> ?_
  show CV.pair (if z.num=x.num then y else z)=z.pair
  by_cases e:z.num=x.num
  ·rw[if_pos e]
   have:z=x:=by
    obtain⟨i,hi⟩:=List.getElem?_of_mem hz
    obtain⟨j,hj⟩:=List.getElem?_of_mem hx
    have hnd:(xs.map CV.num).Nodup:=H.so.imp (fun h=>Nat.ne_of_lt h)
    have hil:=(List.getElem?_eq_some_iff.1 hi).1
    have:=(List.getElem?_inj (l:=xs.map CV.num) (i:=i) (j:=j) (by simpa using hil) hnd).1 (by rw[List.getElem?_map,List.getElem?_map,hi,hj];simp[e])
    subst this
    rw[hi] at hj;exact Option.some.inj hj
   subst this
   unfold CV.pair
   rw[hnum,hb]
  ·rw[if_neg e]
 refine⟨⟨?_, ?_,fun z hz=> ?_, ?_,fun z hz=> ?_,by rw[h1];exact K.al1 (by omega),by rw[h2];exact K.al2 (by omega),H.l0,H.l1,H.l2,H.l3,fun z hz=> ?_,H.mm,fun c hc=>by rw[hs];exact H.dd c hc,fun c hc=>by rw[hs];exact H.lsz c hc, ?_⟩,H.step f hq⟩
 ·rw[hn.1,hn.2.1,hn.2.2.1,hn.2.2.2];exact K.blk (by omega)
 ·rw[pe];exact K.map (by omega)
 ·rcases mem z hz with rfl|⟨hz,e⟩
  ·rw[hb];exact hy
  ·exact K.cps z hz (by omega)
 ·rw[hL,←H.abs,List.map_map,List.map_map]
  refine List.map_congr_left fun z _=> ?_
  show CV.abs (if z.num=x.num then y else z)=if z.num=x.num then y.abs else z.abs
  split<;>rfl
 ·rcases mem z hz with rfl|⟨hz,_⟩
  ·rw[hv];exact K.dat x hx
  ·exact K.dat z hz
 ·rcases mem z hz with rfl|⟨hz,_⟩
  ·rw[hb,hnum];exact H.l4 x hx
  ·exact H.l4 z hz
 ·have:(xs.map (fun z=>if z.num=x.num then y else z)).map CV.num=xs.map CV.num:=by
   rw[List.map_map]
   refine List.map_congr_left fun z _=> ?_
   show CV.num (if z.num=x.num then y else z)=z.num
   split
   ·rename_i e;rw[hnum,e]
   ·rfl
  rw[this];exact H.so
theorem Cm.add {y:CV} {h1 h2:Heap} (H:Cm h t X s m xs a1 S1 a2 S2 lab) (f1:Fr (fun _=>False) h h1) (hy:y.at h1 y.b) (hyb:h.size≤y.b) (hdat:Row h1 y.v.p (bc y.v.b)) (hcap:y.v.b.length≤y.v.c) (hdn: ∀c,inBlk y.v.p c→h.size≤c∧c≠y.b∧c<h1.size) (hnum: ∀x∈xs,x.num<y.num)
  (M:MapP h2 m ienc (gput (xs.map CV.pair) (y.num:Int) (.pointer (some ⟨y.b,0,none⟩)))) (hs:h2.size=h1.size) (ho: ∀c,c≠m→h2[c]? =h1[c]?)
  (hL:s'.L=s.L++ [y.abs]) (e1:s'.E1=s.E1) (e2:s'.E2=s.E2) (hn:s'.next=s.next∧s'.acked=s.acked∧s'.over=s.over∧s'.gone=s.gone):
  ∃X' lab',Cm h2 t X' s' m (xs++ [y]) a1 S1 a2 S2 lab'∧StepF X h X' h2:=by
 classical
 have z1:=f1.1
 have H1:=H.on f1
 have f2:Fr (fun c=>c=m) h1 h2:=⟨by omega,fun c _ hn=>ho c hn⟩
 have hq: ∀c,c=m→c<h1.size→lab c=some 1:=fun c e _=>by rw[e];exact H.l1
 have K:=H1.keep f2 hq
 have yb1:=lt_of_get hy
 let lab':=relab lab (fun c=>c=y.b) (4+y.num)
 have lold: ∀c,c≠y.b→lab' c=lab c:=fun c hc=>if_neg hc
 have lnew:lab' y.b=some (4+y.num):=if_pos rfl
 have ynl: ∀ {c:Nat},lab c≠none→c≠y.b:=fun {c} hc e=>by have:=H.lsz c hc;omega
 have keepL: ∀ {c j:Nat},lab c=some j→lab' c=some j:=fun {c j} hl=>by rw[lold c (ynl (by rw[hl];simp))];exact hl
 let D':=fun c=>X.D c∨(y.v.b≠ []∧inBlk y.v.p c)
 have ymn:y.b≠m:=fun e=>by have:=H.map.lt;omega
 have K2: ∀c,D' c→lab' c=none∧c<h2.size:=fun c hc=>by
  rcases hc with hc|⟨_,hc⟩
  ·have:=H.dd c hc
   rw[lold c (by omega)]
   exact⟨this.1,by omega⟩
  ·have:=hdn c hc
   rw[lold c this.2.1]
   refine⟨?_,by omega⟩
   cases e:lab c with
   |none=>rfl
   |some j=>have:=H.lsz c (by rw[e];simp);omega
 refine⟨⟨fun c=>lab' c≠none,D'⟩,lab',⟨?_, ?_,fun x hx=> ?_, ?_,fun x hx=> ?_,by rw[e1];exact K.al1 (by omega),by rw[e2];exact K.al2 (by omega),keepL H.l0,keepL H.l1,fun c hc=>keepL (H.l2 c hc),fun c hc=>keepL (H.l3 c hc),fun x hx=> ?_,fun c=>Iff.rfl,K2,fun c hc=> ?_, ?_⟩, ?_⟩
 ·rw[hn.1,hn.2.1,hn.2.2.1,hn.2.2.2];exact K.blk (by omega)
 ·refine M.perm ?_
  unfold gput
  rw[gdel_none (fun e he=>by obtain⟨x,hx,rfl⟩:=List.mem_map.1 he;have:=hnum x hx;show¬((x.num:Int)=(y.num:Int));omega),List.map_append]
  exact(List.perm_append_comm (l₁:= [CV.pair y]) (l₂:=xs.map CV.pair))
 ·rcases List.mem_append.1 hx with hx|hx
  ·exact K.cps x hx (by omega)
  ·obtain rfl:=List.mem_singleton.1 hx
   exact f2.get hy ymn
 ·rw[hL,←H.abs,List.map_append];rfl
 ·rcases List.mem_append.1 hx with hx|hx
  ·exact(K.dat x hx).mono (fun c hc=> .inl hc)
  ·obtain rfl:=List.mem_singleton.1 hx
   refine⟨hdat.frame f2 (fun a e hm=> ?_),fun hne c hc=> .inr ⟨hne,hc⟩,hcap⟩
   have h1:=(hdn a.block ⟨a,e,rfl⟩).1
   have h2:=H.map.lt
   have h3:a.block=m:=hm
   omega
 ·rcases List.mem_append.1 hx with hx|hx
  ·exact keepL (H.l4 x hx)
  ·obtain rfl:=List.mem_singleton.1 hx;exact lnew
 ·by_cases e:c=y.b
  ·subst e;omega
  ·rw[lold c e] at hc;have:=H.lsz c hc;omega
 ·rw[List.map_append,List.pairwise_append]
  refine⟨H.so,by simp,fun a ha b hb=> ?_⟩
  obtain⟨x,hx,rfl⟩:=List.mem_map.1 ha
  simp at hb;subst hb
  exact hnum x hx
 ·refine⟨?_,fun c hc=> ?_,fun c hc=> ?_,fun c hc=> .inl hc⟩
  ·have f12:Fr (fun c=>c=m) h h2:=Fr.no f1 f2
   exact f12.mono (fun c _ e=>(H.mm c).2 (by rw[e,H.l1];simp))
  ·by_cases e:c=y.b
   ·exact .inr (by omega)
   ·have hc:lab' c≠none:=hc
    rw[lold c e] at hc
    exact .inl ((H.mm c).2 hc)
  ·rcases hc with hc|⟨_,hc⟩
   ·exact .inl hc
   ·exact .inr (hdn c hc).1
end Cps
end Go.Proofs.YtgccegnmggjkjaaGreatDoor
set_option maxRecDepth 100000
namespace Go.Proofs
open Go.Shelf
def Tryz.laysS_ren:Go.Shelf.Ren:=⟨fun|5=>150|8=>191|7=>190|19=>213|20=>214|10=>204|11=>205|12=>206|13=>207|14=>208|15=>209|16=>210|17=>211|18=>212|30=>238|31=>239|32=>240|33=>241|34=>242|35=>243|40=>264|n=>n,fun|23=>59|25=>3|3=>3|32=>271|22=>59|0=>0|44=>314|46=>23|4=>4|36=>308|35=>307|41=>162|5=>5|9=>9|53=>335|57=>338|63=>358|64=>359|n=>n,fun|n=>n⟩
theorem Tryz.laysS:Go.Proofs.SlLaysM.n5 Tryz.prog Tryz.laysS_ren:= {
 mixed:=by kernel_rfl
 f5:=⟨Tryz.f150.name,by decide,Tryz.func150.trans (congrArg some (by kernel_rfl))⟩
 f7:=⟨Tryz.f190.name,by decide,Tryz.func190.trans (congrArg some (by kernel_rfl))⟩
 f8:=Tryz.func191.trans (congrArg some (by kernel_rfl))
 f10:=⟨Tryz.f204.name,by decide,Tryz.func204.trans (congrArg some (by kernel_rfl))⟩
 f11:=⟨Tryz.f205.name,by decide,Tryz.func205.trans (congrArg some (by kernel_rfl))⟩
 f12:=⟨Tryz.f206.name,by decide,Tryz.func206.trans (congrArg some (by kernel_rfl))⟩
 f13:=⟨Tryz.f207.name,by decide,Tryz.func207.trans (congrArg some (by kernel_rfl))⟩
 f14:=⟨Tryz.f208.name,by decide,Tryz.func208.trans (congrArg some (by kernel_rfl))⟩
 f15:=⟨Tryz.f209.name,by decide,Tryz.func209.trans (congrArg some (by kernel_rfl))⟩
 f16:=⟨Tryz.f210.name,by decide,Tryz.func210.trans (congrArg some (by kernel_rfl))⟩
 f17:=⟨Tryz.f211.name,by decide,Tryz.func211.trans (congrArg some (by kernel_rfl))⟩
 f18:=⟨Tryz.f212.name,by decide,Tryz.func212.trans (congrArg some (by kernel_rfl))⟩
 f19:=Tryz.func213.trans (congrArg some (by kernel_rfl))
 f20:=Tryz.func214.trans (congrArg some (by kernel_rfl))
 f30:=⟨Tryz.f238.name,by decide,Tryz.func238.trans (congrArg some (by kernel_rfl))⟩
 f31:=Tryz.func239.trans (congrArg some (by kernel_rfl))
 f32:=Tryz.func240.trans (congrArg some (by kernel_rfl))
 f33:=⟨Tryz.f241.name,by decide,Tryz.func241.trans (congrArg some (by kernel_rfl))⟩
 f34:=⟨Tryz.f242.name,by decide,Tryz.func242.trans (congrArg some (by kernel_rfl))⟩
 f35:=⟨Tryz.f243.name,by decide,Tryz.func243.trans (congrArg some (by kernel_rfl))⟩
 f40:=⟨Tryz.f264.name,by decide,Tryz.func264.trans (congrArg some (by kernel_rfl))⟩
 t0:=Tryz.underlying0
 a0:=Tryz.isAgg0
 z0:=Tryz.sizeOf0
 v0:=Tryz.zeroValue0
 t3:=Tryz.underlying3
 a3:=Tryz.isAgg3
 z3:=Tryz.sizeOf3
 v3:=Tryz.zeroValue3
 t4:=Tryz.underlying4
 a4:=Tryz.isAgg4
 z4:=Tryz.sizeOf4
 v4:=Tryz.zeroValue4
 t5:=Tryz.underlying5
 a5:=Tryz.isAgg5
 z5:=Tryz.sizeOf5
 v5:=Tryz.zeroValue5
 t9:=Tryz.underlying9
 a9:=Tryz.isAgg9
 z9:=Tryz.sizeOf9
 v9:=Tryz.zeroValue9
 t22:=Tryz.underlying59
 a22:=Tryz.isAgg59
 z22:=Tryz.sizeOf59
 v22:=Tryz.zeroValue59
 t23:=Tryz.underlying59
 a23:=Tryz.isAgg59
 z23:=Tryz.sizeOf59
 v23:=Tryz.zeroValue59
 t25:=Tryz.underlying3
 a25:=Tryz.isAgg3
 z25:=Tryz.sizeOf3
 v25:=Tryz.zeroValue3
 t32:=Tryz.underlying271
 a32:=Tryz.isAgg271
 z32:=Tryz.sizeOf271
 v32:=Tryz.zeroValue271
 t35:=Tryz.underlying307
 a35:=Tryz.isAgg307
 z35:=Tryz.sizeOf307
 v35:=Tryz.zeroValue307
 t36:=Tryz.underlying308
 a36:=Tryz.isAgg308
 z36:=Tryz.sizeOf308
 v36:=Tryz.zeroValue308
 t41:=Tryz.underlying162
 a41:=Tryz.isAgg162
 z41:=Tryz.sizeOf162
 v41:=Tryz.zeroValue162
 t44:=Tryz.underlying314
 a44:=Tryz.isAgg314
 z44:=Tryz.sizeOf314
 v44:=Tryz.zeroValue314
 t46:=Tryz.underlying23
 a46:=Tryz.isAgg23
 z46:=Tryz.sizeOf23
 v46:=Tryz.zeroValue23
 t53:=Tryz.underlying335
 a53:=Tryz.isAgg335
 z53:=Tryz.sizeOf335
 v53:=Tryz.zeroValue335
 t57:=Tryz.underlying338
 a57:=Tryz.isAgg338
 z57:=Tryz.sizeOf338
 v57:=Tryz.zeroValue338
 t63:=Tryz.underlying358
 a63:=Tryz.isAgg358
 z63:=Tryz.sizeOf358
 v63:=Tryz.zeroValue358
 t64:=Tryz.underlying359
 a64:=Tryz.isAgg359
 z64:=Tryz.sizeOf359
 v64:=Tryz.zeroValue359 }
end Go.Proofs
set_option maxRecDepth 100000
namespace Go.Proofs.YtgccegnmggjkjaaGreatDoor
open Go.Den Go.Sort
namespace Srt
variable {h : Heap} {R : Value → Heap → Prop} {p : Option Addr} {n c : Nat} {xs : List Int}
abbrev iv (x:Int):Value:= .int .i64 x
theorem sort_ok (o:Own h p n c 1 (xs.map iv)) (hl:n=xs.length) (nd:xs.Nodup) (hn:n≤60000) (hk: ∀h' (zs:List Int),Own h' p n c 1 (zs.map iv)→zs.Perm xs→zs.Pairwise (· < ·)→Fr (inBlk p) h h'→R (.tuple #[]) h'):
  CallsH Tryz.prog F.slices_Sort_s_int_int #[.slice p n c] h R:=by
 subst hl
 intro w hw
 cases o with
 |nil hp h0 hc hcs=>
  obtain rfl:=List.eq_nil_of_length_eq_zero h0
  refine(AnyM.slices_Sort_int_none Tryz.laysS p c w).mono ?_
  rintro e w' ⟨rfl,rfl⟩
  exact⟨_,rfl,hk _ [] (by rw[hw];exact .nil hp rfl hc rfl) (.refl _) .nil (by rw[hw];exact Fr.refl _ _),Same.refl _⟩
 |row b off ca t hp hb h1 hc h2 hcs=>
  subst hp;subst hw
  have hat: ∀(zs:List Int) (j:Nat),j<zs.length→zs.toArray[j]! =zs.getD j 0:=fun zs j hj=>by
   simp[getElem!_pos,hj]
  refine(AnyM.slices_Sort_int Tryz.laysS b off c xs w (fun j hj=> ?_) (lt_of_get hb) (by omega)).mono ?_
  ·have hj:j<xs.length:=by simpa using hj
   refine⟨?_,by rw[frozen_eq];exact hfrozen_blk hb⟩
   rw[cell_eq,hcell_blk hb,hat xs j hj]
   exact hcs j _ (by rw[List.getElem?_map,List.getElem?_eq_getElem hj,List.getD_eq_getElem?_getD,List.getElem?_eq_getElem hj];rfl)
  ·rintro e w' ⟨rfl,k,os,rfl⟩
   have pm:=List.mergeSort_perm xs fun x y=>decide (x≤y)
   have so:(xs.mergeSort fun x y=>decide (x≤y)).Pairwise (· < ·):=by
    have s1:=List.pairwise_mergeSort (le:=fun(x y:Int)=>decide (x≤y)) (fun a b c h1 h2=>by simp at h1 h2⊢;omega) (fun a b=>by simp;omega) xs
    have s2:(xs.mergeSort fun x y=>decide (x≤y)).Nodup:=pm.nodup_iff.2 nd
    exact(s1.and s2).imp fun {a b} h=>by have:=of_decide_eq_true h.1;have:=h.2;omega
   generalize (xs.mergeSort fun x y=>decide (x≤y))=zs at pm so⊢
   have hz:zs.length=xs.length:=pm.length_eq
   have hold: ∀x,x<w.heap.size→x≠b→(w.heap.modify b (onCells (putCells (Value.int .i64) off zs.toArray))++os)[x]? =w.heap[x]? :=fun x hx hne=>by
    rw[Array.getElem?_append_left (by simpa using hx),Array.getElem?_modify,if_neg (fun e=>hne e.symm)]
   have hnew:(w.heap.modify b (onCells (putCells (Value.int .i64) off zs.toArray))++os)[b]? =some (.cells (putCells (Value.int .i64) off zs.toArray ca) t (0,0)):=by
    rw[Array.getElem?_append_left (by simpa using lt_of_get hb),Array.getElem?_modify,if_pos rfl,hb];rfl
   refine⟨_,rfl,hk _ zs (.row b off _ t rfl hnew h1 (by unfold putCells;rw[Array.size_mapIdx];exact hc) (by simp[hz]) fun j v hj=> ?_) pm so ?_,⟨rfl,rfl,rfl⟩⟩
   ·rw[List.getElem?_map] at hj
    have hjl:j<zs.length:=by
     rcases Nat.lt_or_ge j zs.length with q|q
     ·exact q
     ·rw[List.getElem?_eq_none q] at hj;cases hj
    rw[List.getElem?_eq_getElem hjl] at hj
    obtain rfl:=Option.some.inj hj
    unfold putCells
    have hs:off+j<ca.size:=by omega
    rw[Array.getElem?_mapIdx,Array.getElem?_eq_getElem hs,Option.map_some,if_pos ⟨by omega,by simp;omega⟩,show off+j - off=j by omega,hat zs j hjl,List.getD_eq_getElem?_getD,List.getElem?_eq_getElem hjl];rfl
   ·refine⟨by show _≤(w.heap.modify b _++os).size;simp,fun x hx hn=>hold x hx (fun e=>hn ⟨_,rfl,e.symm⟩)⟩
end Srt
end Go.Proofs.YtgccegnmggjkjaaGreatDoor
set_option maxRecDepth 100000
namespace Go.Proofs.YtgccegnmggjkjaaGreatDoor
open Go.Den Go.Heapq
namespace Cps
open Eid Alarm
variable {h h' : Heap} {R : Value → Heap → Prop} {t : Nat} {X : Ft} {s s' : CF} {m a1 a2 : Nat} {xs : List CV} {S1 S2 S1' S2' : Nat → Prop} {lab : Nat → Option Nat} {p : Option Addr} {n c : Nat}
theorem uSI:Tryz.prog.underlying T.s_int=some (.slice T.int):=by kernel_rfl
theorem made_ok (H:Cm h t X s m xs a1 S1 a2 S2 lab) (hk:R (.bool true) h):CallsH Tryz.prog F.copies_Table_made #[.pointer (some ⟨t,0,none⟩)] h R:=copies_Table_made.walk ⟨_,cell_at H.blk rfl,hk⟩
def nums (xs:List CV):List Int:=xs.map (fun x=>(x.num:Int))
theorem nums_so (H:Cm h t X s m xs a1 S1 a2 S2 lab):(nums xs).Pairwise (· < ·):=by
 have:=H.so
 rw[List.pairwise_map] at this
 unfold nums
 rw[List.pairwise_map]
 exact this.imp (fun h=>by omega)
theorem numbers_ok (H:Cm h t X s m xs a1 S1 a2 S2 lab) (hl:xs.length≤60000) (hk: ∀h' p' c',Own h' p' xs.length c' 1 ((nums xs).map ienc)→(∀y,inBlk p' y→h.size≤y)→Fr (fun _=>False) h h'→R (.slice p' xs.length c') h'):
  CallsH Tryz.prog F.copies_Table_numbers #[.pointer (some ⟨t,0,none⟩)] h R:=by
 refine copies_Table_numbers.walk (made_ok H ⟨_,rfl,JoinP.of fun J hJ=> ?_⟩)
 rw[if_pos rfl]
 refine⟨_,cell_at H.blk rfl,den_rangeP mapTy H.map fun it h1 e1 I1 f1=>⟨_,rfl, ?_⟩⟩
 refine⟨fun op ol oc g=> ∃ds:List (Int×Value),ol=ds.length∧Own g op ol oc 1 ((ds.map (·.1)).map ienc)∧(∀y,inBlk op y→h.size≤y∧y≠it)∧Iter g it m ienc (xs.map CV.pair) ds∧Fr (fun _=>False) h g,fun _ ol _ _=>xs.length - ol,
  ⟨[],rfl, .nil rfl rfl rfl rfl,(fun y ⟨a,e,_⟩=>by cases e),I1,f1⟩, ?_⟩
 rintro op ol oc g ⟨ds,rfl,oy,gy,Iy,fy⟩
 have hle:=Iy.le
 rw[List.length_map] at hle
 refine den_nextP Iy (fun hp=> .inl ⟨rfl, ?_⟩) (fun a v g1 hm hnm I1 s1 o1=> .inr ⟨_,_,rfl, ?_⟩)
 ·subst hJ
  dsimp only
  have hperm:(ds.map (·.1)).Perm (nums xs):=by
   have:=hp.map (·.1)
   rw[List.map_map] at this
   exact this
  have so:=nums_so H
  have nd:(ds.map (·.1)).Nodup:=hperm.nodup_iff.2 (so.imp (fun h=>by omega))
  have hlen:ds.length=xs.length:=by rw[hp.length_eq,List.length_map]
  refine Srt.sort_ok oy (by rw[List.length_map]) nd (by omega) fun h3 zs o3 p3 s3 f3=>⟨rfl, ?_⟩
  have:zs=nums xs:=List.Perm.eq_of_pairwise (le:=(· < ·)) (fun a b _ _ h1 h2=>by omega) s3 so (p3.trans hperm)
  subst this
  rw[hlen] at o3⊢
  exact hk h3 op oc o3 (fun y hy=>(gy y hy).1) (fy.fresh f3 (fun y hy=>(gy y hy).1))
 ·refine den_entryP I1 ⟨_,_,rfl,_,rfl,newP_of ?_⟩
  have f3:Fr (fun _=>False) g1 (g1.push (.cells #[.int .i64 a] T.int)):=Fr.push _ _
  have r3:Row (g1.push (.cells #[.int .i64 a] T.int)) (some ⟨g1.size,0,none⟩) [ienc a]:=row_new (cs:= [ienc a])
  have z3:(g1.push (.cells #[.int .i64 a] T.int)).size=g1.size+1:=Array.size_push _
  generalize g1.push (.cells #[.int .i64 a] T.int)=g3 at f3 r3 z3⊢
  have fit:Fr (fun y=>y=it) g g1:=⟨by omega,fun y _ hn=>o1 y hn⟩
  have oy1:=(oy.frame fit (fun y hy e=>(gy y hy).2 e)).frame f3 (fun _ _=>id)
  have zf:=f1.1
  have F1:Fr (fun _=>False) h g1:=fy.fresh fit (fun y e=>by omega)
  have F3:=F1.tt f3
  have itlt:it<g1.size:=by
   obtain⟨_,_,_,_,_,_,hr,_⟩:=I1
   exact lt_of_get hr
  refine den_append (cs:=(ds.map (·.1)).map ienc) (ds:= [ienc a]) tI uSI oy1 r3 rfl (fun v hv=>by simp at hv;subst hv;rfl) (by omega) (by omega) fun p4 c4 g4 o4 _ f4 k4=>⟨_,_,_,rfl, ?_⟩
  have hp4: ∀y,inBlk p4 y→h.size≤y∧y≠it:=by
   intro y hy
   rcases k4 y hy with h5|h5
   ·exact gy y h5
   ·have:=F1.1;exact⟨by omega,by omega⟩
  refine⟨⟨ds++ [(a,v)],by simp, ?_,hp4, ?_,F3.fresh f4 (fun y hy=>(gy y hy).1)⟩, ?_⟩
  ·rw[List.map_append,List.map_append];exact o4
  ·have hmb:m<h.size:=H.map.lt
   exact(I1.frame f3 id id).frame f4 (fun hy=>(gy it hy).2 rfl) (fun hy=>by have:=(gy m hy).1;omega)
  ·have:=I1.le
   rw[List.length_append,List.length_map,List.length_singleton] at this
   show xs.length - (ds.length+1)<xs.length - ds.length
   omega
theorem look (H:Cm h t X s m xs a1 S1 a2 S2 lab) {x:CV} (hx:x∈xs):LookV Tryz.prog T.m_int_p_copies_Copy (.map (some m)) (.int .i64 (x.num:Int)) false h (.pointer (some ⟨x.b,0,none⟩)):=by
 have:=lookV_P mapTy H.map (x.num:Int)
 have e:gget (xs.map CV.pair) (x.num:Int)=some (.pointer (some ⟨x.b,0,none⟩)):=(gget_some H.map.nodup).2 (List.mem_map.2 ⟨x,hx,rfl⟩)
 rw[e] at this
 exact this
structure Env (h:Heap) (t:Nat) (m:Nat) (xs:List CV) (c0 c1:Nat) (x:Ev):Prop where
 b0:h[c0]? =some (.cells #[.pointer (some ⟨t,0,none⟩)] T.p_copies_Table (0,0))
 b1:Ev.at h c1 x
 cm: ∃X s a1 S1 a2 S2 lab,Cm h t X s m xs a1 S1 a2 S2 lab
variable {c0 c1 : Nat} {x : Ev}
theorem of1_ok (V:Env h t m xs c0 c1 x) {y:CV} (hy:y∈xs) (hk:R (.bool (!decide (y.e=x))) h):CallsH Tryz.prog F.copies_Table_of_1 #[.int .i64 (y.num:Int), .pointer (some ⟨c0,0,none⟩), .pointer (some ⟨c1,0,none⟩)] h R:=by
 obtain⟨X,s,a1,S1,a2,S2,lab,H⟩:=V.cm
 have ca:=H.cps y hy
 refine copies_Table_of_1.walk ⟨_,cell_at V.b0 rfl,onSome_some.2 ⟨_,cell_at H.blk rfl,_,look H hy,onSome_some.2 ⟨_,cell_at ca rfl,_,cell_at ca rfl,_,cell_at ca rfl,_,cell_at ca rfl,_,cell_at ca rfl, ?_⟩⟩⟩
 exact eid_Eid.ld V.b1 ⟨_,eqv' (x:=y.e) (y:=x) rfl rfl,hk⟩
def keepN (xs:List CV) (x:Ev) (n:Int):Bool:=xs.any (fun y=>decide ((y.num:Int)=n) && decide (y.e=x))
theorem keepN_mem (so:(nums xs).Pairwise (· < ·)) {y:CV} (hy:y∈xs):keepN xs x (y.num:Int)=decide (y.e=x):=by
 unfold keepN
 by_cases e:y.e=x
 ·rw[decide_eq_true e,List.any_eq_true];exact⟨y,hy,by simp[e]⟩
 ·rw[decide_eq_false e,List.any_eq_false]
  intro z hz
  simp only[Bool.and_eq_true,decide_eq_true_eq,not_and]
  intro hn
  have:z=y:=by
   obtain⟨i,hi⟩:=List.getElem?_of_mem hz
   obtain⟨j,hj⟩:=List.getElem?_of_mem hy
   have hnd:(nums xs).Nodup:=so.imp (fun h=>by omega)
   have hil:=(List.getElem?_eq_some_iff.1 hi).1
   have:=(List.getElem?_inj (l:=nums xs) (i:=i) (j:=j) (by simpa[nums] using hil) hnd).1 (by unfold nums;rw[List.getElem?_map,List.getElem?_map,hi,hj];simp[hn])
   subst this
   rw[hi] at hj;exact Option.some.inj hj
  rw[this];exact e
theorem idx_ok {ns:List Int} (V:Env h t m xs c0 c1 x) (o:Own h p n c 1 (ns.map ienc)) (hn:n=ns.length) (hb:n≤60000) (hs: ∀k∈ns,∃y∈xs,k=(y.num:Int))
  (k1: ∀i,i<n→(∀j,j<i→ ∀k,ns[j]? =some k→keepN xs x k=true)→(∀k,ns[i]? =some k→keepN xs x k=false)→R (.int .i64 (i:Int)) h) (k2:(∀k∈ns,keepN xs x k=true)→R (.int .i64 (-1)) h):
  CallsH Tryz.prog F.slices_IndexFunc_s_int_int #[.slice p n c, .func (.func F.copies_Table_of_1) #[] #[.pointer (some ⟨c0,0,none⟩), .pointer (some ⟨c1,0,none⟩)]] h R:=by
 subst hn
 have so:(nums xs).Pairwise (· < ·):=by obtain⟨X,s,a1,S1,a2,S2,lab,H⟩:=V.cm;exact nums_so H
 refine slices_IndexFunc_s_int_int.of.walk ?_
 refine⟨fun u g=>g=h∧ ∃i:Nat,u=(i:Int)∧i≤ns.length∧ ∀j,j<i→ ∀k,ns[j]? =some k→keepN xs x k=true,fun u _=>ns.length - u.toNat,⟨rfl,0,rfl,Nat.zero_le _,fun j hj=>by omega⟩, ?_⟩
 rintro _ g ⟨rfl,i,rfl,hi,hall⟩
 by_cases hlt:i<ns.length
 ·rw[if_pos (decide_eq_true (by omega))]
  have hk:ns[i]? =some ns[i]:=List.getElem?_eq_getElem hlt
  generalize ns[i]=k at hk
  obtain⟨y,hy,rfl⟩:=hs k (List.mem_of_getElem? hk)
  obtain⟨ab,ao,rfl⟩:=o.addr (by omega)
  have cc:=o.cell (j:=i) (v:=ienc (y.num:Int)) (by rw[List.getElem?_map,hk];rfl)
  simp only[Int.toNat_natCast,Nat.mul_one]
  refine⟨⟨by omega,by omega⟩,onSome_some.2 ⟨_,cc,of1_ok V hy ⟨_,rfl, ?_⟩⟩⟩
  have kn:=keepN_mem (x:=x) so hy
  by_cases e:y.e=x
  ·rw[decide_eq_true e,if_neg (by decide),wrap_id (by omega) (by omega)]
   rw[decide_eq_true e] at kn
   refine⟨⟨rfl,i+1,by omega,by omega,fun j hj k hk2=> ?_⟩,by show ns.length - Int.toNat ((i:Int)+1)<ns.length - i;omega⟩
   by_cases ej:j=i
   ·subst ej;rw[hk] at hk2;cases hk2;exact kn
   ·exact hall j (by omega) k hk2
  ·rw[decide_eq_false e,if_pos (by decide)]
   rw[decide_eq_false e] at kn
   exact k1 i hlt hall (fun k hk2=>by rw[hk] at hk2;cases hk2;exact kn)
 ·rw[if_neg (by simp;omega)]
  exact k2 (fun k hk=>by
   obtain⟨j,hj⟩:=List.getElem?_of_mem hk
   exact hall j (by have:=(List.getElem?_eq_some_iff.1 hj).1;omega) k hj)
theorem del_ok {ns:List Int} (V:Env h t m xs c0 c1 x) (o:Own h p n c 1 (ns.map ienc)) (hn:n=ns.length) (hb:n≤60000) (hs: ∀k∈ns,∃y∈xs,k=(y.num:Int))
  (hV: ∀g,Fr (inBlk p) h g→Env g t m xs c0 c1 x)
  (hk: ∀h' c',Own h' p (ns.filter (keepN xs x)).length c' 1 ((ns.filter (keepN xs x)).map ienc)→Fr (inBlk p) h h'→R (.slice p (ns.filter (keepN xs x)).length c') h'):
  CallsH Tryz.prog F.slices_DeleteFunc_s_int_int #[.slice p n c, .func (.func F.copies_Table_of_1) #[] #[.pointer (some ⟨c0,0,none⟩), .pointer (some ⟨c1,0,none⟩)]] h R:=by
 subst hn
 have so:(nums xs).Pairwise (· < ·):=by obtain⟨X,s,a1,S1,a2,S2,lab,H⟩:=V.cm;exact nums_so H
 have one: ∀v∈((.int .i64 0:Value)).cells.toList,oneCell v=true:=fun v hv=>by
  have:v= .int .i64 0:=by simpa[Value.cells] using hv
  subst this;rfl
 refine slices_DeleteFunc_s_int_int.of.walk (idx_ok V o rfl hb hs (fun i hi hall hno=>⟨_,rfl, ?_⟩) (fun hall=>⟨_,rfl, ?_⟩))
 ·rw[if_neg (by intro h;have h:=eq_of_beq h;omega),wrap_id (by omega) (by omega)]
  have take_all:(ns.take i).filter (keepN xs x)=ns.take i:=by
   rw[List.filter_eq_self]
   intro k hk2
   obtain⟨j,hj⟩:=List.getElem?_of_mem hk2
   rw[List.getElem?_take] at hj
   split at hj
   ·rename_i hji;exact hall j hji k hj
   ·cases hj
  have step0:(ns.take (i+1)).filter (keepN xs x)=ns.take i:=by
   have hk:ns[i]? =some ns[i]:=List.getElem?_eq_getElem hi
   rw[List.take_add_one,hk,List.filter_append,take_all]
   simp[hno _ hk]
  refine⟨fun u w g=> ∃(i j:Nat) (vs:List Int),u=(i:Int)∧w=(j:Int)∧i≤j∧j≤ns.length∧vs.length=ns.length∧Own g p ns.length c 1 (vs.map ienc)∧vs.take i=(ns.take j).filter (keepN xs x)∧(∀q,j≤q→vs[q]? =ns[q]?)∧Fr (inBlk p) h g,fun _ w _=>ns.length - w.toNat,
   ⟨i,i+1,ns,rfl,by omega,by omega,by omega,rfl,o,step0.symm,fun _ _=>rfl,Fr.refl _ _⟩, ?_⟩
  clear take_all step0 hall hno
  rintro _ _ g ⟨i,j,vs,rfl,rfl,hij,hj,hl,ov,hta,hdr,fg⟩
  have hil:((ns.take j).filter (keepN xs x)).length=i:=by rw[←hta,List.length_take];omega
  by_cases hlt:j<ns.length
  ·rw[if_pos (decide_eq_true (by omega))]
   refine JoinP.of fun J hJ=> ?_
   have hnj:ns[j]? =some ns[j]:=List.getElem?_eq_getElem hlt
   generalize ns[j]=k at hnj
   obtain⟨y,hy,rfl⟩:=hs k (List.mem_of_getElem? hnj)
   obtain⟨ab,ao,rfl⟩:=ov.addr (by omega)
   have hkv:vs[j]? =some (y.num:Int):=by rw[hdr j (Nat.le_refl _)];exact hnj
   have cc:=ov.cell (j:=j) (v:=ienc (y.num:Int)) (by rw[List.getElem?_map,hkv];rfl)
   simp only[Int.toNat_natCast,Nat.mul_one]
   have kn:=keepN_mem (x:=x) so hy
   have tk:(ns.take (j+1)).filter (keepN xs x)=(ns.take j).filter (keepN xs x)++(if y.e=x then [(y.num:Int)] else []):=by
    rw[List.take_add_one,hnj,List.filter_append]
    congr 1
    show [(y.num:Int)].filter (keepN xs x)=_
    rw[List.filter_cons,kn]
    by_cases e:y.e=x<;>simp[e]
   refine⟨⟨by omega,by omega⟩,onSome_some.2 ⟨_,cc,of1_ok (hV g fg) hy ⟨_,rfl,JoinP.of fun J1 hJ1=> ?_⟩⟩⟩
   by_cases e:y.e=x
   ·rw[decide_eq_true e,if_pos (by decide)]
    rw[if_pos e] at tk
    refine⟨⟨by omega,by omega⟩,onSome_some.2 (ov.store (by rw[List.length_map];omega) fun g2 o2 s2 q2=> ?_)⟩
    subst hJ1
    subst hJ
    have e2:(vs.map ienc).set i (.int .i64 (y.num:Int))=(vs.set i (y.num:Int)).map ienc:=by rw[List.map_set]
    rw[e2] at o2
    dsimp only
    rw[wrap_id (n:=(i:Int)+1) (by omega) (by omega),wrap_id (n:=(j:Int)+1) (by omega) (by omega)]
    refine⟨⟨i+1,j+1,_,by omega,by omega,by omega,by omega,by rw[List.length_set];exact hl,o2, ?_,fun q hq=> ?_,fg.tt ⟨by omega,fun z _ hn=>q2 z hn⟩⟩,by show ns.length - Int.toNat ((j:Int)+1)<ns.length - j;omega⟩
    ·rw[tk,←hta,List.take_add_one,List.getElem?_set_self (by omega)]
     congr 1
     apply List.ext_getElem?
     intro q
     rw[List.getElem?_take,List.getElem?_take]
     split
     ·rw[List.getElem?_set_ne (by omega)]
     ·rfl
    ·rw[List.getElem?_set_ne (by omega)];exact hdr q (by omega)
   ·rw[decide_eq_false e,if_neg (by decide)]
    rw[if_neg e,List.append_nil] at tk
    subst hJ1
    subst hJ
    dsimp only
    rw[wrap_id (n:=(j:Int)+1) (by omega) (by omega)]
    exact⟨⟨i,j+1,vs,rfl,by omega,by omega,by omega,hl,ov,by rw[tk,hta],fun q hq=>hdr q (by omega),fg⟩,by show ns.length - Int.toNat ((j:Int)+1)<ns.length - j;omega⟩
  ·rw[if_neg (by simp;omega)]
   obtain rfl:j=ns.length:=by omega
   rw[List.take_length] at hta hil
   simp only[Int.toNat_natCast,Nat.sub_zero]
   refine⟨⟨by omega,by omega⟩,den_clear tI one ov (by omega) fun g2 o2 f2=>⟨rfl,⟨by omega,by have:=ov.le;omega⟩, ?_⟩⟩
   rw[slBase_zero]
   rw[Nat.mul_one,←List.map_take,hta] at o2
   have:=hk g2 c (by rw[hil];exact o2) (fg.tt f2)
   rw[hil] at this
   exact this
 ·rw[if_pos (by rfl)]
  have e:ns.filter (keepN xs x)=ns:=by rw[List.filter_eq_self];exact hall
  have:=hk h c (by rw[e];exact o) (Fr.refl _ _)
  rw[e] at this
  exact this
theorem keep_nums (so:(nums xs).Pairwise (· < ·)):(nums xs).filter (keepN xs x)=nums (xs.filter (fun y=>decide (y.e=x))):=by
 unfold nums
 rw[List.filter_map]
 congr 1
 exact List.filter_congr (fun y hy=>keepN_mem so hy)
theorem of_ok (H:Cm h t X s m xs a1 S1 a2 S2 lab) (x:Ev) (hl:xs.length≤60000) (hk: ∀h' p' c',Own h' p' (xs.filter (fun y=>decide (y.e=x))).length c' 1 ((nums (xs.filter (fun y=>decide (y.e=x)))).map ienc)→(∀y,inBlk p' y→h.size≤y)→Fr (fun _=>False) h h'→R (.slice p' (xs.filter (fun y=>decide (y.e=x))).length c') h'):
  CallsH Tryz.prog F.copies_Table_of #[.pointer (some ⟨t,0,none⟩),ev5 x] h R:=by
 refine copies_Table_of.walk (newP_of ?_)
 have f1:Fr (fun _=>False) h (h.push (.cells #[.pointer (some ⟨t,0,none⟩)] T.p_copies_Table)):=Fr.push _ _
 have b1:(h.push (.cells #[.pointer (some ⟨t,0,none⟩)] T.p_copies_Table))[h.size]? =some (.cells #[.pointer (some ⟨t,0,none⟩)] T.p_copies_Table (0,0)):=push_new
 have z1:(h.push (.cells #[.pointer (some ⟨t,0,none⟩)] T.p_copies_Table)).size=h.size+1:=Array.size_push _
 generalize h.push (.cells #[.pointer (some ⟨t,0,none⟩)] T.p_copies_Table)=h1 at f1 b1 z1⊢
 refine eid_Eid.box fun c1 h2 e2 hb2 f2=>⟨_,cell_at (f2.get b1 id) rfl, ?_⟩
 have z2:=lt_of_get hb2
 refine numbers_ok (H.on (f1.tt f2)) hl fun h3 p3 l3 o3 g3 f3=>⟨_,_,_,rfl, ?_⟩
 have F3:=f1.tt (f2.tt f3)
 have H3:=H.on F3
 have zf:=f2.1
 have V3:Env h3 t m xs h.size c1 x:=⟨(f2.tt f3).get b1 id,f3.get hb2 id,X,s,a1,S1,a2,S2,lab,H3⟩
 have hV: ∀g,Fr (inBlk p3) h3 g→Env g t m xs h.size c1 x:=fun g fg=>
  ⟨fg.get V3.b0 (fun hy=>by have:=g3 _ hy;omega),fg.get V3.b1 (fun hy=>by have:=g3 _ hy;omega),X,s,a1,S1,a2,S2,lab,H3.frame fg (fun y hy hin=>by
   have h1:=g3 y hin
   have h2:y<h.size:=(Ct.lt (s:=s) ⟨m,xs,a1,S1,a2,S2,lab,H⟩ y hy)
   omega)⟩
 have nl:(nums xs).length=xs.length:=by unfold nums;rw[List.length_map]
 refine del_ok V3 o3 nl.symm hl (fun k hk2=>by
  obtain⟨y,hy,rfl⟩:=List.mem_map.1 hk2
  exact⟨y,hy,rfl⟩) hV fun h4 c4 o4 f4=>⟨_,_,_,rfl, ?_⟩
 have en:=keep_nums (x:=x) (nums_so H)
 have el:((nums xs).filter (keepN xs x)).length=(xs.filter (fun y=>decide (y.e=x))).length:=by rw[en];unfold nums;rw[List.length_map]
 rw[el] at o4⊢
 rw[en] at o4
 exact hk h4 p3 c4 o4 (fun y hy=>by have:=g3 y hy;omega) (F3.fresh f4 (fun y hy=>by have:=g3 y hy;omega))
end Cps
end Go.Proofs.YtgccegnmggjkjaaGreatDoor
