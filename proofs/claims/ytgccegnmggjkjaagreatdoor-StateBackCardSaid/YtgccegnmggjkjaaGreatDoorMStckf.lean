/-
  What is proved here: parts of the proof, one behind the other (texts of this work, merged by a program; what the theorem does not use is left out). No condition.
-/
import Derived.Handed
import Derived.Shelf.Vars
import Derived.Lib.LaidU8
import Derived.Lib.LaidTab
import Derived.Test.YtgccegnmggjkjaaGreatDoorMStcke
set_option maxRecDepth 100000
namespace Go.Proofs.YtgccegnmggjkjaaGreatDoor
open Go.Den
namespace Stt
open Eid (Ev rightE ev5)
variable {h h' : Heap} {R : Value → Heap → Prop} {s k : Nat} {X : Ft} {I : Ids} {σ : SS}
def mayE (x:Ev):Prop:=rightE x=true∧x≠Ev.zero
instance (x : Ev) : Decidable (mayE x) := by unfold mayE; infer_instance
theorem identNew_ok (x:Ev) (k1:mayE x→ ∀h' b,Mk h' b x 0 0→h.size≤b→Fr (fun _=>False) h h'→R (.tuple #[pt b, .int .i64 0]) h')
  (k2: ¬mayE x→ ∀h',Fr (fun _=>False) h h'→R (.tuple #[.pointer none, .int .i64 3]) h'):CallsH Tryz.prog F.ident_New #[ev5 x] h R:=by
 refine ident_New.walk (eid_Eid.box fun b h1 eb hb f1=>JoinP.of fun J hJ=>eid_Eid.ld hb (Eid.right_ok x fun h2 f2=>⟨_,rfl, ?_⟩))
 have hb2:=f2.get hb id
 cases hr:rightE x with
 |false=>
  rw[if_pos (by decide)]
  subst hJ
  exact k2 (fun m=>by rw[m.1] at hr;cases hr) h2 (f1.tt f2)
 |true=>
  rw[if_neg (by decide)]
  refine eid_Eid.ld hb2 ⟨_,Eid.eqv' (y:=Ev.zero) rfl rfl, ?_⟩
  subst hJ
  by_cases hz:x=Ev.zero
  ·rw[decide_eq_true hz]
   dsimp only
   rw[if_pos rfl]
   exact k2 (fun m=>m.2 hz) h2 (f1.tt f2)
  ·rw[decide_eq_false hz]
   dsimp only
   rw[if_neg (by decide)]
   refine eid_Eid.ld hb2 (newP_of (k1 ⟨hr,hz⟩ _ _ push_new (Nat.le_trans f1.1 f2.1) ((f1.tt f2).tt (Fr.push _ _))))
theorem new_ok (x:Ev) (k1:mayE x→ ∀h' s X I,Pt h' s X I (newS x)→UpF h X h'→R (.tuple #[pt s, .int .i64 0]) h')
  (k2: ¬mayE x→ ∀h',Fr (fun _=>False) h h'→R (.tuple #[.pointer none, .int .i64 3]) h'):CallsH Tryz.prog F.state_New #[ev5 x] h R:=by
 refine state_New.walk (eid_Eid.box fun b h1 eb hb f1=>eid_Eid.ld hb (identNew_ok x (fun hm h2 k M2 g2 f2=>⟨_,_,rfl, ?_⟩) (fun hm h2 f2=>⟨_,_,rfl, ?_⟩)))
 ·rw[if_neg (by decide)]
  refine Quota.new_ok 4800 1600 (fun _ h3 p m P3 g3 g3' f3=>⟨_,_,rfl, ?_⟩) (fun e=>absurd e (by decide))
  rw[if_neg (by decide)]
  refine Ses.new_ok fun h4 t X0 H4 f4 u4=>⟨_,rfl,Regs.new_ok fun h5 r X1 H5 u5=>⟨_,rfl,Cps.new_ok fun h6 c X2 H6 u6=>⟨_,rfl,Obx.new_ok fun h7 o X3 H7 f7 u7=>⟨_,rfl,newP_of ?_⟩⟩⟩⟩
  have f8:Fr (fun _=>False) h7 (h7.push (.cells #[.pointer (some ⟨t,0,none⟩), .pointer (some ⟨r,0,none⟩), .pointer (some ⟨c,0,none⟩), .pointer (some ⟨o,0,none⟩), .pointer (some ⟨p,0,none⟩), .pointer (some ⟨k,0,none⟩), .int .u64 0, .int .i64 0] T.state_State)):=Fr.push _ _
  have B8:(h7.push (.cells #[.pointer (some ⟨t,0,none⟩), .pointer (some ⟨r,0,none⟩), .pointer (some ⟨c,0,none⟩), .pointer (some ⟨o,0,none⟩), .pointer (some ⟨p,0,none⟩), .pointer (some ⟨k,0,none⟩), .int .u64 0, .int .i64 0] T.state_State))[h7.size]? =_:=push_new
  have z8:(h7.push (.cells #[.pointer (some ⟨t,0,none⟩), .pointer (some ⟨r,0,none⟩), .pointer (some ⟨c,0,none⟩), .pointer (some ⟨o,0,none⟩), .pointer (some ⟨p,0,none⟩), .pointer (some ⟨k,0,none⟩), .int .u64 0, .int .i64 0] T.state_State)).size=h7.size+1:=Array.size_push _
  generalize h7.push (.cells #[.pointer (some ⟨t,0,none⟩), .pointer (some ⟨r,0,none⟩), .pointer (some ⟨c,0,none⟩), .pointer (some ⟨o,0,none⟩), .pointer (some ⟨p,0,none⟩), .pointer (some ⟨k,0,none⟩), .int .u64 0, .int .i64 0] T.state_State)=h8 at f8 B8 z8⊢
  have F7:=f7.tt f8
  have F6:=u6.fr.tt F7
  have F5:=u5.fr.tt F6
  have F4:=f4.tt F5
  have F3:=f3.tt F4
  have F8:=f1.tt (f2.tt F3)
  have z1:=f1.1
  have z2:=f2.1
  have z3:=f3.1
  have z4:=f4.1
  have z5:=u5.fr.1
  have z6:=u6.fr.1
  have z7:=f7.1
  have lp:=P3.lt
  have lk:=lt_of_get M2
  let Y:Nat→Ft:=fun i=>match i with
   |0=>X0|1=>X1|2=>X2|3=>X3
   |4=>⟨fun y=>y=p∨y=m,fun _=>False⟩
   |5=>⟨fun y=>y=k,fun _=>False⟩
   |6=>⟨fun y=>y=h7.size,fun _=>False⟩
   |_=>⟨fun _=>False,fun _=>False⟩
  let lo:Nat→Nat:=fun i=> [h3.size,h4.size,h5.size,h6.size,h2.size,h1.size].getD i h7.size
  let hi:Nat→Nat:=fun i=> [h4.size,h5.size,h6.size,h7.size,h3.size,h2.size].getD i h8.size
  have bd: ∀i y,In (Y i) y→lo i≤y∧y<hi i:=fun i y hy=>by
   rcases i with _|_|_|_|_|_|_|i
   ·exact⟨u4 y hy,H4.lt y hy⟩
   ·exact⟨u5.ge y hy,H5.lt y hy⟩
   ·exact⟨u6.ge y hy,H6.lt y hy⟩
   ·exact⟨u7 y hy,H7.lt y hy⟩
   ·rcases hy with hy|hy
    ·rcases hy with rfl|rfl
     ·exact⟨g3,lp.1⟩
     ·exact⟨g3',lp.2⟩
    ·exact hy.elim
   ·rcases hy with hy|hy
    ·have hy:y=k:=hy
     exact⟨hy▸g2,hy▸lk⟩
    ·exact hy.elim
   ·rcases hy with hy|hy
    ·have hy:y=h7.size:=hy
     exact⟨by show h7.size≤y;omega,by show y<h8.size;omega⟩
    ·exact hy.elim
   ·rcases hy with hy|hy<;>exact hy.elim
  refine k1 hm h8 h7.size ⟨fun y=> ∃i,(Y i).M y,fun y=> ∃i,(Y i).D y⟩ ⟨t,r,c,o,p,k⟩ ⟨Y,fun i=> ?_,fun i j y hij hy hz=> ?_,fun _=>Iff.rfl,fun _=>Iff.rfl⟩ ⟨F8,fun y hy=> ?_⟩
  ·rcases i with _|_|_|_|_|_|_|i
   ·exact H4.frame F5 (fun _ _=>id)
   ·exact H5.on F6
   ·exact H6.on F7
   ·exact Obx.Box.on ⟨[],H7,Obx.okB.nil⟩ f8
   ·exact⟨m,P3.frame F4 id id,fun y=>⟨Iff.rfl,id⟩⟩
   ·exact⟨F3.get M2 id,fun y=>⟨Iff.rfl,id⟩⟩
   ·exact⟨B8,fun y=>⟨Iff.rfl,id⟩⟩
   ·exact fun y hy=>hy.elim id id
  ·have h1:=bd i y hy
   have h2:=bd j y hz
   have e7: ∀i,¬In (Y (i+7)) y:=fun i hy=>hy.elim id id
   rcases i with _|_|_|_|_|_|_|i<;>first|exact e7 i hy|(rcases j with _|_|_|_|_|_|_|j<;>first|exact e7 j hz|exact hij rfl|(simp only[lo,hi,List.getD_cons_zero,List.getD_cons_succ,List.getD_nil] at h1 h2;omega))
  ·have key: ∀i,In (Y i) y→h.size≤y:=fun i a=>by
    have h1:=(bd i y a).1
    rcases i with _|_|_|_|_|_|_|i<;>(simp only[lo,List.getD_cons_zero,List.getD_cons_succ,List.getD_nil] at h1;omega)
   rcases hy with⟨i,a⟩|⟨i,a⟩
   ·exact key i (.inl a)
   ·exact key i (.inr a)
 ·rw[if_pos (by decide)]
  exact k2 hm h2 (f1.tt f2)
end Stt
end Go.Proofs.YtgccegnmggjkjaaGreatDoor
namespace Go.Den
variable {h : Heap}
def idxOf {α:Type} (P:α→Bool) (xs:List α):Int:=match xs.findIdx? P with|some k=>(k:Int)|none=> -1
theorem idx_loop {α:Type} (P:α→Bool) {xs:List α} {n:Nat} {R:Value→Heap→Prop} (B:Int→Heap→(Bool→Heap→Prop)→Prop) (hn:n=xs.length) (hl:xs.length≤1000000000)
  (hb: ∀(k:Nat) g x K,xs[k]? =some x→Fr (fun _=>False) h g→(∀g',Fr (fun _=>False) h g'→K (P x) g')→B (k:Int) g K)
  (hk: ∀g,Fr (fun _=>False) h g→R (.int .i64 (idxOf P xs)) g):
  ∃(I:Int→Heap→Prop) (mu:Int→Heap→Nat),I 0 h∧ ∀(t:Int) (g:Heap),I t g→if(decide (t<((n:Nat):Int)))=true then B t g (fun q g2=>if q=true then R (.int .i64 t) g2 else(I (IntKind.wrap .i64 (t+1)) g2∧mu (IntKind.wrap .i64 (t+1)) g2<mu t g)) else R (.int .i64 (-1)) g:=by
 subst hn
 refine⟨fun i g=>Fr (fun _=>False) h g∧ ∃k:Nat,i=(k:Int)∧k≤xs.length∧ ∀j (hj:j<xs.length),j<k→ ¬P xs[j]=true,fun i _=>xs.length - i.toNat,⟨Fr.refl _ _,0,rfl,by omega,fun j _ hj=>by omega⟩, ?_⟩
 rintro _ g ⟨f,k,rfl,hkn,hall⟩
 by_cases hlt:k<xs.length
 ·rw[if_pos (decide_eq_true (by omega))]
  refine hb k g xs[k] _ (List.getElem?_eq_getElem hlt) f fun g' f'=> ?_
  by_cases e:P xs[k]=true
  ·rw[if_pos e]
   have:idxOf P xs=(k:Int):=by
    unfold idxOf
    rw[show xs.findIdx? P=some k from List.findIdx?_eq_some_iff_getElem.2 ⟨hlt,e,fun j hj=>hall j (by omega) hj⟩]
   rw[this] at hk
   exact hk g' f'
  ·rw[if_neg e,wrap_id (by omega) (by omega)]
   refine⟨⟨f',k+1,by omega,by omega,fun j hj hjk=> ?_⟩,by show xs.length - Int.toNat ((k:Int)+1)<xs.length - Int.toNat (k:Int);omega⟩
   by_cases q:j=k
   ·subst q;exact e
   ·exact hall j hj (by omega)
 ·rw[if_neg (fun q=>hlt (by have:=of_decide_eq_true q;omega))]
  have:idxOf P xs= -1:=by
   unfold idxOf
   rw[show xs.findIdx? P=none from List.findIdx?_eq_none_iff.2 fun x hx=> ?_]
   obtain⟨j,hj,rfl⟩:=List.getElem_of_mem hx
   exact Bool.not_eq_true _▸hall j hj (by omega)
  rw[this] at hk
  exact hk g f
end Go.Den
set_option maxRecDepth 100000
namespace Go.Proofs.YtgccegnmggjkjaaGreatDoor
open Go.Den
namespace Stt
open Obx (It IV ienc ienc_len)
open Eid (Ev rightE ev5)
variable {h h' : Heap} {R : Value → Heap → Prop} {s k : Nat} {X : Ft} {I : Ids} {σ : SS} {p : Option Addr}
theorem Pt.takeQ {n o:Int} {x:It} (H:Pt h s X I σ) (ok:okQ σ.Q) (hf:fitsQ σ.Q x.owner x.d.length=true) (hn:n=(x.d.length:Int)) (ho:o=x.owner)
  (hk: ∀h' X',Pt h' s X' I { σ with Q:=σ.Q++ [x] } →StepF X h X' h'→R (.int .i64 0) h'):CallsH Tryz.prog F.quota_Purse_Take #[pt I.p, .int .i64 o, .int .i64 n] h R:=by
 subst ho;subst hn
 obtain⟨Z,⟨m,P,on⟩,zm,zd,go⟩:=H.use 4
 refine Quota.take_ok P ok _ _ (fun _ h' P' f'=> ?_) (fun e=>by unfold fitsQ at hf;rw[hf] at e;cases e)
 rw[own_add,show tot σ.Q+(x.d.length:Int)=tot (x::σ.Q) by rw[tot_cons];omega] at P'
 obtain⟨X',H',st,_,_⟩:=go h' Z { σ with Q:=σ.Q++ [x] } ⟨m,Pu.perm P' (List.perm_append_singleton _ _).symm,on⟩ (StepF.of_fr (f'.mono fun y _ hy=>(on y).1.2 hy)) (fun i hi=>part_Q _ hi)
 exact hk h' X' H' st
theorem put_ok {owner n:Int} {bs:List UInt8} {l c:Nat} (till:Nat) (hn:n=(till:Int)) (H:Pt h s X I σ) (G:Good σ k) (hk8:k≤30000) (hr:Row h p (bc bs)) (hl:l=bs.length) (hb:bs.length≤1000000)
  (hk: ∀h' X',Pt h' s X' I (putS σ owner bs till)→StepF X h X' h'→R (.tuple #[.int .i64 (putN σ owner bs till), .int .i64 (putE σ owner bs till)]) h'):
  CallsH Tryz.prog F.state_State_Put #[pt s, .int .i64 owner, .slice p l c, .int .u64 n] h R:=by
 subst hn;subst hl
 refine state_State_Put.walk (made_ok H.blk ⟨_,rfl, ?_⟩)
 rw[if_neg (by decide)]
 obtain⟨Z,hz⟩:=H.box
 refine JoinP.of fun J hJ=>⟨_,cell_at H.blk rfl,Obx.all_ok hz fun h2 p2 l2 c2 L2 f2=>⟨_,_,_,rfl, ?_⟩⟩
 have ln:=L2.len
 have H2:=H.on f2
 have no:σ.B.items.length≥16∨fitsQ σ.Q owner bs.length=false→ ∀g,Fr (fun _=>False) h g→R (.tuple #[.int .i64 0, .int .i64 15]) g:=fun c g f=>by
  have e1:putE σ owner bs till=15:=if_pos c
  have e2:putN σ owner bs till=0:=if_pos c
  have e3:putS σ owner bs till=σ:=if_neg (by rw[e1];decide)
  rw[e1,e2,e3] at hk
  exact hk g X (H.on f) (StepF.of_no f)
 by_cases h16:σ.B.items.length≥16
 ·rw[if_pos (decide_eq_true (by omega))]
  subst hJ
  dsimp only
  rw[if_pos rfl]
  exact no (.inl h16) h2 f2
 rw[if_neg (fun e=>h16 (by have:=of_decide_eq_true e;omega))]
 obtain⟨Z4,⟨m4,P4,on4⟩,_⟩:=H2.use 4
 refine⟨_,cell_at H2.blk rfl,Quota.fits_ok P4 G.ok owner _ ⟨_,rfl, ?_⟩⟩
 subst hJ
 dsimp only
 cases hf:fitsQ σ.Q owner bs.length with
 |false=>
  rw[if_pos (show(!fitsQ σ.Q owner bs.length)=true by rw[hf];rfl)]
  exact no (.inr hf) h2 f2
 |true=>
  rw[if_neg (show¬(!fitsQ σ.Q owner bs.length)=true by rw[hf];decide)]
  have hno: ¬(σ.B.items.length≥16∨fitsQ σ.Q owner bs.length=false):=fun c=>c.elim h16 (fun e=>by rw[hf] at e;cases e)
  have eE:putE σ owner bs till=Obx.addE σ.B owner bs till:=if_neg hno
  have eN:putN σ owner bs till=Obx.addN σ.B owner bs till:=if_neg hno
  obtain⟨Z,hz,zm,zd,go⟩:=H2.use 3
  refine⟨_,cell_at H2.blk rfl,Obx.add_ok till rfl hz (hr.frame f2 (fun _ _=>id)) rfl hb (by have:=G.b;omega) fun h3 Z3 B3 s3=>⟨_,_,rfl, ?_⟩⟩
  obtain⟨X3,H3,st3,_,_⟩:=go h3 Z3 { σ with B:=Obx.addS σ.B owner bs till } B3 s3 (fun i hi=>part_B _ hi)
  have st:=StepF.no f2 st3
  refine JoinP.of fun J2 hJ2=> ?_
  rw[eE,eN] at hk
  unfold putS at hk
  rw[eE] at hk
  by_cases he:Obx.addE σ.B owner bs till=0
  ·rw[if_pos he] at hk
   rw[if_pos (by rw[he];rfl)]
   refine⟨_,cell_at H3.blk rfl,H3.takeQ (x:=⟨σ.B.next,owner,bs,till⟩) G.ok hf rfl rfl fun h4 X4 H4 st4=>⟨_,rfl, ?_⟩⟩
   subst hJ2
   refine hk h4 X4 ?_ (st.trans st4)
   have e:Obx.addS σ.B owner bs till= { σ.B with items:=σ.B.items++ [⟨σ.B.next,owner,bs,till⟩],next:=σ.B.next+1 } :=if_pos he
   rw[e] at H4⊢
   have H4:Pt h4 s X4 I { σ with B:= { σ.B with items:=σ.B.items++ [⟨σ.B.next,owner,bs,till⟩],next:=σ.B.next+1 },Q:=σ.Q++ [⟨σ.B.next,owner,bs,till⟩] } :=H4
   rw[G.q] at H4
   exact H4
  ·rw[if_neg he] at hk
   rw[if_neg (by simpa using he)]
   subst hJ2
   refine hk h3 X3 ?_ st
   have e:Obx.addS σ.B owner bs till=σ.B:=if_neg he
   rw[e] at H3
   exact H3
theorem cancel1_ok {b:Nat} {num:Int} (x:IV) (hid:Obx.NumAt h b num) (hk: ∀h',Fr (fun _=>False) h h'→R (.bool (decide ((x.num:Int)=num))) h'):CallsH Tryz.prog F.state_State_Cancel_1 #[x.agg, .pointer (some ⟨b,0,none⟩)] h R:=by
 refine state_State_Cancel_1.walk (outbox_Item.box fun b1 h1 eb hb f1=>⟨_,cell_at hb rfl,_,cell_at (f1.get hid id) rfl, ?_⟩)
 rw[show(((x.num:Nat):Int)==num)=decide ((x.num:Int)=num) by by_cases q:(x.num:Int)=num<;>simp[q]]
 exact hk h1 f1
theorem idxOf_abs (xs:List IV) (num:Int):idxOf (fun x:IV=>decide ((x.num:Int)=num)) xs=Obx.idxV (xs.map IV.abs) num:=by
 unfold idxOf Obx.idxV Obx.idxI
 rw[List.findIdx?_map];rfl
theorem index_ok {xs:List IV} {n m b:Nat} {num:Int} (hr:Row h p (xs.flatMap ienc)) (hn:n=xs.length) (hl:xs.length≤1000000000) (hid:Obx.NumAt h b num) (hk: ∀h',Fr (fun _=>False) h h'→R (.int .i64 (Obx.idxV (xs.map IV.abs) num)) h'):
  CallsH Tryz.prog F.slices_IndexFunc_s_outbox_Item_outbox_Item #[.slice p n m, .func (.func F.state_State_Cancel_1) #[] #[.pointer (some ⟨b,0,none⟩)]] h R:=by
 refine slices_IndexFunc_s_outbox_Item_outbox_Item.cancel.walk (idx_loop (fun x:IV=>decide ((x.num:Int)=num)) (fun t g K=>((0:Int)≤t∧t<((n:Nat):Int))∧onSome p fun a=>outbox_Item.LD g (a.add (Int.toNat t*4)) fun t0 t1 t2 t3 t4 t5=>
  Cl F.state_State_Cancel_1 #[.agg #[.int .i64 t0, .int .i64 t1, .slice t2 t3 t4, .int .u64 t5], .pointer (some ⟨b,0,none⟩)] g fun v g2=> ∃q,v= .bool q∧K q g2) hn hl (fun k g x K hx f hK=> ?_) (fun g f=>by rw[idxOf_abs];exact hk g f))
 have lt:=(List.getElem?_eq_some_iff.1 hx).1
 have hr1:=hr.frame f (fun _ _=>id)
 obtain⟨a,rfl⟩:=hr1.some (fun e=>by have:=congrArg List.length e;rw[flat_len ienc 4 ienc_len,List.length_nil] at this;omega)
 exact⟨⟨by omega,by omega⟩,onSome_some.2 (outbox_Item.ldA (by rw[Int.toNat_natCast];exact hr1.heldAt ienc_len hx) (cancel1_ok x (f.get hid id) fun h2 f2=>⟨_,rfl,hK h2 (f.tt f2)⟩))⟩
theorem del_perm {l:List It} {i:Nat} {x:It} (hp:(l.map It.num).Pairwise (· < ·)) (hx:l[i]? =some x):l.Perm (x::Obx.delI l (x.num:Int)):=by
 rw[←Obx.cutI_del hp hx]
 unfold Obx.cutI
 obtain⟨h1,h2⟩:=List.getElem?_eq_some_iff.1 hx
 have e:l=l.take i++x::l.drop (i+1):=by rw[←h2,←List.drop_eq_getElem_cons h1,List.take_append_drop]
 exact(List.Perm.of_eq e).trans List.perm_middle
theorem cancel_ok {num owner:Int} (H:Pt h s X I σ) (G:Good σ k) (hk8:k≤30000)
  (hk: ∀h' X',Pt h' s X' I (cancA σ num owner)→StepF X h X' h'→R (.int .i64 (Obx.cancE σ.B num owner)) h'):CallsH Tryz.prog F.state_State_Cancel #[pt s, .int .i64 num, .int .i64 owner] h R:=by
 refine state_State_Cancel.walk (newP_of ?_)
 have f1:Fr (fun _=>False) h (h.push (.cells #[.int .i64 num] T.int)):=Fr.push _ _
 have hb1:Obx.NumAt (h.push (.cells #[.int .i64 num] T.int)) h.size num:=push_new
 generalize h.push (.cells #[.int .i64 num] T.int)=h1 at f1 hb1⊢
 have H1:=H.on f1
 obtain⟨Z0,hz0⟩:=H1.box
 obtain⟨L,ok⟩:=H.okB
 refine made_ok H1.blk ⟨_,rfl, ?_⟩
 rw[if_neg (by decide)]
 refine⟨_,cell_at H1.blk rfl,Obx.all_ok hz0 fun h2 p2 l2 c2 L2 f2=>⟨_,_,_,rfl, ?_⟩⟩
 have H2:=H1.on f2
 have hb2:=f2.get hb1 id
 obtain⟨xs,D,rfl,ox,ax,hxd,hD,hpx⟩:=L2
 obtain⟨Z,hz,zm,zd,go⟩:=H2.use 3
 refine⟨_,cell_at H2.blk rfl,_,cell_at hb2 rfl,Obx.cancel_ok hz (by have:=G.b;omega) fun h3 Z3 B3 s3=>⟨_,rfl, ?_⟩⟩
 obtain⟨X3,H3,st3,_,_⟩:=go h3 Z3 { σ with B:=Obx.cancS σ.B num owner } B3 s3 (fun i hi=>part_B _ hi)
 have z1:=f1.1
 have z2:=f2.1
 have zl: ∀y,Z.M y→y<h.size:=fun y hy=>H.lt y (.inl (zm y hy))
 have ln:xs.length=σ.B.items.length:=by rw[←ax,List.length_map]
 have hb3:Obx.NumAt h3 h.size num:=s3.fr.get hb2 (fun hm=>by have:=zl _ hm;omega)
 have o3:=ox.frame s3.fr (fun y hy hm=>by have:=zl y hm;have:=hpx y hy;omega)
 have le:=ok.le
 refine index_ok o3.row' rfl (by omega) hb3 fun h4 f4=> ?_
 have st:=StepF.no (f1.tt f2) (st3.on f4)
 have H4:=H3.on f4
 have o4:=o3.frame f4 (fun _ _=>id)
 rw[ax]
 refine⟨_,rfl,JoinP.of fun J hJ=> ?_⟩
 cases hidx:Obx.idxI σ.B.items num with
 |none=>
  have e:Obx.cancE σ.B num owner=4:=by unfold Obx.cancE;rw[hidx]
  have es:Obx.cancS σ.B num owner=σ.B:=if_neg (by rw[e];decide)
  unfold cancA at hk
  rw[e,es,←G.q] at hk
  rw[e] at hJ⊢
  rw[if_neg (by decide)]
  subst hJ
  refine JoinP.of fun J1 hJ1=> ?_
  rw[if_neg (by decide)]
  subst hJ1
  rw[es] at H4
  exact hk h4 X3 H4 st
 |some i=>
  obtain⟨x,hx,hnum⟩:=Obx.idx_some hidx
  have ev:Obx.idxV σ.B.items num=(i:Int):=by unfold Obx.idxV;rw[hidx]
  rw[ev] at hJ⊢
  have e:Obx.cancE σ.B num owner=if x.owner=owner then 0 else 13:=by unfold Obx.cancE;rw[hidx];dsimp only;rw[hx]
  by_cases ho:x.owner=owner
  ·rw[if_pos ho] at e
   have es:Obx.cancS σ.B num owner= { σ.B with items:=Obx.delI σ.B.items num,canc:=σ.B.canc+1 } :=if_pos e
   unfold cancA at hk
   rw[e] at hk
   rw[e] at hJ⊢
   rw[if_pos (by decide),decide_eq_true (by omega)]
   subst hJ
   refine JoinP.of fun J1 hJ1=> ?_
   rw[if_pos rfl]
   have hi:=(List.getElem?_eq_some_iff.1 hx).1
   have hv:xs[i]? =some xs[i]:=List.getElem?_eq_getElem (by omega)
   have hva:xs[i].abs=x:=by
    rw[←ax,List.getElem?_map,hv] at hx
    exact Option.some.inj hx
   obtain⟨pb,po,rfl⟩:=o4.addr (by omega)
   have hh:=o4.heldAt ienc_len hv
   have c2: ∀g,heldL ((⟨pb,po,none⟩:Addr).add (i*4)) (ienc xs[i]) 0 g→hcell g (((⟨pb,po,none⟩:Addr).add (Int.toNat (i:Int)*4)).add 2)=some xs[i].v.val:=fun g hg=>by
    rw[Int.toNat_natCast];exact hg.2.2.1
   refine⟨_,cell_at H4.blk rfl,⟨by omega,by omega⟩,onSome_some.2 ⟨_,_,_,c2 _ hh, ?_⟩⟩
   have vl:xs[i].v.b=x.d:=by rw[←hva];rfl
   rw[vl]
   refine H4.give (x:=x) (l:=Obx.delI σ.B.items num) (by show σ.Q.Perm _;rw[G.q,←hnum];exact del_perm ok.inc hx) (show okQ σ.Q from G.ok) (okI_of ok (List.mem_of_getElem? hx)) rfl ho.symm fun h5 X5 H5 st5=>⟨_,rfl, ?_, ?_⟩
   ·have o5:=o4.frame st5.fr (fun y hy hm=>by
     rcases st3.newM y hm with a|a
     ·have:=H.lt y (.inl a);have:=hpx y hy;omega
     ·have:=ox.blk_lt hy;omega)
    rw[←vl]
    exact c2 _ (o5.heldAt ienc_len hv)
   ·subst hJ1
    refine hk h5 X5 ?_ (st.trans st5)
    rw[es] at H5⊢
    exact H5
  ·rw[if_neg ho] at e
   have es:Obx.cancS σ.B num owner=σ.B:=if_neg (by rw[e];decide)
   unfold cancA at hk
   rw[e,es,←G.q] at hk
   rw[e] at hJ⊢
   rw[if_neg (by decide)]
   subst hJ
   refine JoinP.of fun J1 hJ1=> ?_
   rw[if_neg (by decide)]
   subst hJ1
   rw[es] at H4
   exact hk h4 X3 H4 st
theorem take_ok (H:Pt h s X I σ) (G:Good σ k) (hk8:k≤30000)
  (k1:σ.B.items= []→ ∀h',Fr (fun _=>False) h h'→R (.tuple #[.agg #[.int .i64 0, .int .i64 0, .slice none 0 0, .int .u64 0], .int .i64 4]) h')
  (k2: ∀x r,σ.B.items=x::r→ ∀h' X' (v:IV),v.abs=x→Pt h' s X' I (takeA σ)→StepF X h X' h'→v.v.ok h' X'.D→R (.tuple #[v.agg, .int .i64 0]) h'):
  CallsH Tryz.prog F.state_State_Take #[pt s] h R:=by
 refine state_State_Take.walk (outbox_Item.box fun b h1 eb hb f1=> ?_)
 have H1:=H.on f1
 refine made_ok H1.blk ⟨_,rfl, ?_⟩
 rw[if_neg (by decide)]
 obtain⟨Z,hz,zm,zd,go⟩:=H1.use 3
 obtain⟨L,ok⟩:=H.okB
 have lb:=lt_of_get hb
 refine⟨_,cell_at H1.blk rfl,Obx.take_ok hz (by have:=G.b;omega) (fun hit h2 B2 f2=>⟨_,_,_,_,_,_,_,rfl,outbox_Item.new fun b1 h3 eb1 hb1 f3=>JoinP.of fun J hJ=> ?_⟩) (fun x r hit h2 Z2 v hva B2 s2 hd=>⟨_,_,_,_,_,_,_,rfl,outbox_Item.new fun b1 h3 eb1 hb1 f3=>JoinP.of fun J hJ=> ?_⟩)⟩
 ·rw[if_neg (by decide)]
  subst hJ
  have hb3:=(f2.tt f3).get hb id
  refine outbox_Item.ld hb1 (outbox_Item.set hb3 fun h4 d1 d2 d3=>outbox_Item.ld d1 (k1 hit h4 ((f1.tt (f2.tt f3)).fresh (Fr.of_eq (S:=fun y=>y=b) d2 d3) (fun y e=>by omega))))
 ·obtain⟨X2,H2,st2,dd2,_⟩:=go h2 Z2 { σ with B:= { σ.B with items:=r,taken:=σ.B.taken+1 } } B2 s2 (fun i hi=>part_B _ hi)
  rw[if_pos (by decide)]
  have H3:=H2.on f3
  have xin:x∈σ.B.items:=by rw[hit];simp
  have ex:x.owner=v.owner:=by rw[←hva];rfl
  have ed:x.d=v.v.b:=by rw[←hva];rfl
  refine⟨_,cell_at H3.blk rfl,_,cell_at hb1 rfl,_,_,_,cell_at hb1 rfl,H3.give (x:=x) (l:=r) (.of_eq (show σ.Q=x::r by rw[G.q,hit])) (show okQ σ.Q from G.ok) (okI_of ok xin) (by rw[ed]) ex.symm fun h4 X4 H4 st4=>⟨_,rfl, ?_, ?_⟩⟩
  ·exact st4.fr.cell (cell_at hb1 rfl) (fun hm=>by have:=H2.lt b1 (.inl hm);omega)
  ·subst hJ
   have z1:=f1.1
   have z2:=s2.fr.1
   have z3:=f3.1
   have z4:=st4.fr.1
   have nX2: ∀y,h.size≤y→y<h1.size→ ¬(X2.M y∨X2.D y):=fun y hy hl hm=>by
    rcases hm with a|a
    ·rcases st2.newM y a with a|a
     ·have:=H.lt y (.inl a);omega
     ·omega
    ·rcases st2.newD y a with a|a
     ·have:=H.lt y (.inr a);omega
     ·omega
   have nX4: ∀y,h.size≤y→y<h1.size→ ¬(X4.M y∨X4.D y):=fun y hy hl hm=>by
    rcases hm with a|a
    ·rcases st4.newM y a with a|a
     ·exact nX2 y hy hl (.inl a)
     ·omega
    ·rcases st4.newD y a with a|a
     ·exact nX2 y hy hl (.inr a)
     ·omega
   have hb1':outbox_Item.at h4 b1 (v.num:Int) v.owner v.v.p v.v.b.length v.v.c (v.till:Int):=st4.fr.get hb1 (fun hm=>by have:=H2.lt b1 (.inl hm);omega)
   have hb2:=st2.fr.get hb (fun hm=>by have:=H.lt b (.inl hm);omega)
   have hb4:outbox_Item.at h4 b 0 0 none 0 0 0:=st4.fr.get (f3.get hb2 id) (fun hm=>nX2 b (by omega) (by omega) (.inl hm))
   refine outbox_Item.ld hb1' (outbox_Item.set hb4 fun h5 d1 d2 d3=>outbox_Item.ld d1 ?_)
   have f5:Fr (fun y=>y=b) h4 h5:=Fr.of_eq d2 d3
   have st:=(StepF.no f1 (st2.on f3)).trans st4
   have et:takeA σ= { σ with B:= { σ.B with items:=r,taken:=σ.B.taken+1 },Q:=r } :=by unfold takeA;rw[hit]
   refine k2 x r hit h5 X4 v hva ?_ ⟨⟨by have:=f5.1;omega,fun y hy hn=>by rw[f5.2 y (by omega) (fun e=>by omega)];exact st.fr.2 y hy hn⟩,fun y hy=>(st.newM y hy),fun y hy=>(st.newD y hy),st.oldD⟩ ?_
   ·rw[et]
    exact Pt.frame H4 f5 (fun y hy e=>nX4 y (by omega) (by omega) hy)
   ·refine(((hd.mono dd2).frame f3 (fun _ _=>id)).frame st4.fr (fun y hy hm=> ?_)).mono st4.oldD|>.frame f5 (fun y hy e=>nX4 y (by omega) (by omega) (.inr hy))
    exact H2.dis y hm hy
end Stt
end Go.Proofs.YtgccegnmggjkjaaGreatDoor
set_option maxRecDepth 100000
namespace Go.Proofs.YtgccegnmggjkjaaGreatDoor
open Go.Den Go.Fields
namespace Fld
variable {h h' h0 : Heap} {R : Value → Heap → Prop} {p q : Option Addr} {l c : Nat} {bs : List (List UInt8)}
structure RS where
 p:Option Addr
 c:Nat
 xs:List BV
abbrev RS.val (t:RS):Value:= .slice t.p t.xs.length t.c
theorem nflat_len (xs:List BV):(xs.flatMap nenc).length=xs.length:=by
 rw[flat_len nenc 1 nenc_len,Nat.mul_one]
theorem growN_ok {n:Nat} (hn:n≤1000000) (hk: ∀p' c' h',Own h' p' 0 c' 1 []→Fr (fun _=>False) h h'→(∀y,inBlk p' y→h.size≤y)→R (.slice p' 0 c') h'):
  CallsH Tryz.prog F.slices_Grow_s_s_byte_s_byte #[.slice none 0 0, .int .i64 (n:Int)] h R:=by
 refine slices_Grow_s_s_byte_s_byte.walk (JoinP.of fun J hJ=> ?_)
 have e2:IntKind.wrap .i64 ((n:Int) - (IntKind.wrap .i64 (((0:Nat):Int) - ((0:Nat):Int))))=(n:Int):=by
  rw[show IntKind.wrap .i64 (((0:Nat):Int) - ((0:Nat):Int))=0 from rfl,wrap_id (by omega) (by omega)];omega
 rw[if_neg (fun e=>by have:=of_decide_eq_true e;omega)]
 subst hJ
 refine JoinP.of fun J1 hJ1=> ?_
 rw[e2]
 by_cases hz:n=0
 ·subst hz
  rw[if_neg (by simp)]
  subst hJ1
  exact hk none 0 h (.nil rfl rfl rfl rfl) (Fr.refl _ _) (fun y ⟨a,e,_⟩=>by cases e)
 ·rw[if_pos (decide_eq_true (by omega))]
  refine⟨⟨by omega,by omega⟩, ?_⟩
  rw[slBase_zero]
  refine den_grow tN (by kernel_rfl) (by omega) (by omega) (by omega) fun cap' h' o hc f=>⟨_,_,_,rfl,⟨by omega,by omega⟩, ?_⟩
  rw[slBase_zero]
  subst hJ1
  exact hk _ cap' h' o f (fun y ⟨a,e,e2⟩=>by cases e;exact Nat.le_of_eq e2)
theorem take_flat {ts:List RS} {j:Nat} {t:RS} (ht:ts[j]? =some t):(ts.take (j+1)).flatMap RS.xs=(ts.take j).flatMap RS.xs++t.xs:=by
 rw[List.take_add_one,ht,List.flatMap_append];simp
theorem concatN_ok {a:Addr} {ts:List RS} {n m:Nat} (hh:Row h (some a) (ts.map RS.val)) (hr: ∀t∈ts,Row h t.p (t.xs.flatMap nenc)) (hn:n=ts.length) (ht:ts.length≤1000) (hl:(ts.flatMap RS.xs).length≤1000000)
  (hk: ∀h' p' c',Own h' p' (ts.flatMap RS.xs).length c' 1 ((ts.flatMap RS.xs).flatMap nenc)→Fr (fun _=>False) h h'→(∀y,inBlk p' y→h.size≤y)→R (.slice p' (ts.flatMap RS.xs).length c') h'):
  CallsH Tryz.prog F.slices_Concat_s_s_byte_s_byte #[.slice (some a) n m] h R:=by
 subst hn
 have tl: ∀j,((ts.take j).flatMap RS.xs).length≤(ts.flatMap RS.xs).length:=fun j=>by
  conv=>rhs;rw[←List.take_append_drop j ts]
  rw[List.flatMap_append,List.length_append];omega
 have at_: ∀ {g:Heap} {j:Nat} {t:RS},Fr (fun _=>False) h g→ts[j]? =some t→hcell g (a.add (Int.toNat (j:Int)*1))=some t.val:=fun f ht=>by
  rw[Int.toNat_natCast,Nat.mul_one]
  exact(hh.frame f (fun _ _=>id)).cell (by rw[List.getElem?_map,ht];rfl)
 refine slices_Concat_s_s_byte_s_byte.walk ⟨fun size i g=>g=h∧ ∃j:Nat,i=(j:Int)∧j≤ts.length∧size=((((ts.take j).flatMap RS.xs).length:Nat):Int),fun _ i _=>ts.length - i.toNat,⟨rfl,0,rfl,Nat.zero_le _,rfl⟩, ?_⟩
 rintro _ _ g ⟨rfl,j,rfl,hj,rfl⟩
 by_cases hlt:j<ts.length
 ·rw[if_pos (decide_eq_true (by omega))]
  have hg:=List.getElem?_eq_getElem hlt
  have e1:=congrArg List.length (take_flat hg)
  rw[List.length_append] at e1
  have t1:=tl (j+1)
  refine JoinP.of fun J hJ=>⟨⟨by omega,by omega⟩,onSome_some.2 ⟨_,_,_,at_ (Fr.refl _ _) hg,JoinP.of fun J1 hJ1=> ?_⟩⟩
  have e:IntKind.wrap .i64 (((((ts.take j).flatMap RS.xs).length:Nat):Int)+((ts[j].xs.length:Nat):Int))=((((ts.take (j+1)).flatMap RS.xs).length:Nat):Int):=by rw[wrap_id (by omega) (by omega)];omega
  rw[e] at hJ1⊢
  rw[if_neg (fun e=>by have:=of_decide_eq_true e;omega)]
  subst hJ1;subst hJ
  dsimp only
  rw[wrap_id (by omega) (by omega)]
  exact⟨⟨rfl,j+1,by omega,by omega,rfl⟩,by show ts.length - Int.toNat ((j:Int)+1)<ts.length - Int.toNat (j:Int);omega⟩
 ·rw[if_neg (fun e=>by have:=of_decide_eq_true e;omega)]
  have ej:j=ts.length:=by omega
  subst ej
  rw[List.take_length]
  refine growN_ok (by omega) fun p4 c4 h4 o4 f4 g4=>⟨_,_,_,rfl, ?_⟩
  refine⟨fun np nl nc i g'=>Fr (fun _=>False) g g'∧(∀y,inBlk np y→g.size≤y)∧ ∃j:Nat,i=(j:Int)∧j≤ts.length∧nl=((ts.take j).flatMap RS.xs).length∧Own g' np nl nc 1 (((ts.take j).flatMap RS.xs).flatMap nenc),fun _ _ _ i _=>ts.length - i.toNat,⟨f4,g4,0,rfl,Nat.zero_le _,rfl,o4⟩, ?_⟩
  rintro np nl nc i g' ⟨fg,gg,j,rfl,hj,rfl,o⟩
  by_cases hlt:j<ts.length
  ·rw[if_pos (decide_eq_true (by omega))]
   have hg:=List.getElem?_eq_getElem hlt
   have e1:=congrArg List.length (take_flat hg)
   rw[List.length_append] at e1
   have t1:=tl (j+1)
   refine⟨⟨by omega,by omega⟩,onSome_some.2 ⟨_,_,_,at_ fg hg, ?_⟩⟩
   refine den_append tN uN o ((hr _ (List.getElem_mem hlt)).frame fg (fun _ _=>id)) (by rw[nflat_len,Nat.mul_one]) (nenc_one _) (by omega) (by omega) fun p6 c6 h6 o6 _ f6 g6=>⟨_,_,_,rfl, ?_⟩
   rw[←List.flatMap_append,←take_flat hg,←e1] at o6
   rw[←e1,wrap_id (by omega) (by omega)]
   have z:=fg.1
   exact⟨⟨fg.fresh f6 gg,(fun y hy=>(g6 y hy).elim (gg y) (fun h2=>by omega)),j+1,by omega,by omega,rfl,o6⟩,by show ts.length - Int.toNat ((j:Int)+1)<ts.length - Int.toNat (j:Int);omega⟩
  ·rw[if_neg (fun e=>by have:=of_decide_eq_true e;omega)]
   have ej:j=ts.length:=by omega
   subst ej
   rw[List.take_length] at o⊢
   exact hk g' np nc o fg gg
theorem BL.frame {Q:Nat→Prop} (H:BL h0 h p l c bs) (f:Fr Q h h') (hq: ∀y,h0.size≤y→ ¬Q y):BL h0 h' p l c bs:=by
 obtain⟨xs,D,h1,h2,h3,h4,h5,h6⟩:=H
 exact⟨xs,D,h1,h2.frame f (fun y hy=>hq y (h6 y hy)),h3,fun x hx=>(h4 x hx).frame f (fun y hy=>hq y (h5 y hy).1),fun y hy=>⟨(h5 y hy).1,Nat.lt_of_lt_of_le (h5 y hy).2.1 f.1,(h5 y hy).2.2⟩,h6⟩
theorem join_ok {g g4:Heap} {xs1 xs2 xs3 xs4:List BV} {D1 D2 D3 D4:Nat→Prop} {p5 p':Option Addr} {c5 c' n:Nat} {hd:List UInt8} {e1 e2 e3 e4:List (List UInt8)}
  (d1: ∀x∈xs1,x.ok g D1) (d2: ∀x∈xs2,x.ok g D2) (d3: ∀x∈xs3,x.ok g D3) (d4: ∀x∈xs4,x.ok g D4) (q1:xs1.map BV.b=e1) (q2:xs2.map BV.b=e2) (q3:xs3.map BV.b=e3) (q4:xs4.map BV.b=e4)
  (all: ∀y,D1 y∨D2 y∨D3 y∨D4 y→h.size≤y∧y<g.size) (F:Fr (fun _=>False) g h') (zg:g.size≤g4.size) (z4:g4.size≤h'.size) (zh:h.size≤g4.size)
  (o5:Own h' p5 hd.length c5 1 (bc hd)) (i5: ∀y,inBlk p5 y→h.size≤y∧y<g4.size) (hn:n=1+(xs1++(xs2++(xs3++xs4))).length)
  (o':Own h' p' n c' 1 ((⟨p5,c5,hd⟩::(xs1++(xs2++(xs3++xs4)))).flatMap nenc)) (lo: ∀y,inBlk p' y→g4.size≤y):BL h h' p' n c' (hd::(e1++(e2++(e3++e4)))):=by
 subst q1 q2 q3 q4
 refine⟨⟨p5,c5,hd⟩::(xs1++(xs2++(xs3++xs4))),fun y=>(D1 y∨D2 y∨D3 y∨D4 y)∨inBlk p5 y,by rw[List.length_cons];omega,o',by simp,fun x hx=> ?_,fun y hy=> ?_,fun y hy=> ?_⟩
 ·rcases List.mem_cons.1 hx with rfl|hx
  ·exact BV.of_own o5 (fun y hy=> .inr hy)
  rcases List.mem_append.1 hx with hx|hx
  ·exact((d1 x hx).frame F (fun _ _=>id)).mono fun y a=> .inl (.inl a)
  rcases List.mem_append.1 hx with hx|hx
  ·exact((d2 x hx).frame F (fun _ _=>id)).mono fun y a=> .inl (.inr (.inl a))
  rcases List.mem_append.1 hx with hx|hx
  ·exact((d3 x hx).frame F (fun _ _=>id)).mono fun y a=> .inl (.inr (.inr (.inl a)))
  ·exact((d4 x hx).frame F (fun _ _=>id)).mono fun y a=> .inl (.inr (.inr (.inr a)))
 ·rcases hy with hy|hy
  ·have:=all y hy
   exact⟨by omega,by omega,fun q=>by have:=lo y q;omega⟩
  ·have:=i5 y hy
   exact⟨by omega,by omega,fun q=>by have:=lo y q;omega⟩
 ·have:=lo y hy;omega
end Fld
end Go.Proofs.YtgccegnmggjkjaaGreatDoor
set_option maxRecDepth 100000
namespace Go.Proofs.YtgccegnmggjkjaaGreatDoor
open Go.Den Go.Fields
namespace Stt
open Eid (Ev rightE ev5 textE)
open Fld
variable {h h' : Heap} {R : Value → Heap → Prop} {s k : Nat} {X : Ft} {I : Ids} {σ : SS} {p : Option Addr}
theorem last_ok {e:Ev} {tm sq:Nat} (M:Mk h k e tm sq) (hk: ∀h',Fr (fun _=>False) h h'→R (.agg #[.bool e.ipn, .int .u64 e.node, .int .u64 e.svc, .string e.host, .string e.dem, .int .u64 (tm:Int), .int .u64 (sq:Int)]) h'):
  CallsH Tryz.prog F.ident_Maker_Last #[pt k] h R:=by
 refine ident_Maker_Last.walk (ident_Ident.box fun b h1 eb hb f1=> ?_)
 have M1:=f1.get M id
 refine JoinP.of fun J hJ=>⟨_,cell_at M1 rfl, ?_⟩
 subst hJ
 dsimp only
 rw[if_neg (by decide)]
 refine⟨_,cell_at M1 rfl,_,cell_at M1 rfl,_,cell_at M1 rfl,_,cell_at M1 rfl,_,cell_at M1 rfl,_,cell_at M1 rfl,_,cell_at M1 rfl,ident_Ident.set hb fun h2 a1 a2 a3=>ident_Ident.ld a1 (hk h2 (f1.fresh (Fr.of_eq (S:=fun y=>y=b) a2 a3) (fun y e=>by omega)))⟩
def recsS (σ:SS):List (List UInt8):=Ses.recs σ.A++(σ.G.map Regs.recR++(Cps.recsC σ.C++Obx.recsB σ.B))
def headS (σ:SS):List UInt8:=encText (textE σ.e)++encNum σ.now++encNum σ.rf++encNum σ.tm++encNum σ.sq++encNum (Ses.recs σ.A).length++encNum (σ.G.map Regs.recR).length++encNum (Cps.recsC σ.C).length++encNum (Obx.recsB σ.B).length
theorem head_ok {w b:Nat} {S:Nat→Prop} {t:List UInt8} {tl c:Nat} {e:Ev} {now rf tm sq:Nat} {K:Option Addr→Heap→Prop} (W:Wr h w S []) (r:Row h p (bc t)) (ht:tl=t.length) (hl:t.length≤100000000) (hn:now<18446744073709551616∧rf≤1000000000∧tm<18446744073709551616∧sq<18446744073709551616) (hp: ∀y,inBlk p y→t≠ []→ ¬S y) (B:Bk h s I now rf)
  (hb:ident_Ident.at h b e.ipn e.node e.svc e.host e.dem (tm:Int) (sq:Int)) (nb: ¬S b) (ns: ¬S s) (hk: ∀g S',Wr g w S' (encText t++encNum now++encNum rf++encNum tm++encNum sq)→Step S h S' g→K (some ⟨w,0,none⟩) g):
  Cl F.fields_Writer_Text #[.pointer (some ⟨w,0,none⟩), .slice p tl c] h fun v_14 h_28=>
   ∃t48,v_14= .pointer t48∧
   hcell h_28 ⟨b,6,none⟩=some (.int .u64 (sq:Int))∧
   hcell h_28 ⟨b,5,none⟩=some (.int .u64 (tm:Int))∧
   hcell h_28 ⟨s,7,none⟩=some (.int .i64 (rf:Int))∧
   hcell h_28 ⟨s,6,none⟩=some (.int .u64 (now:Int))∧
   Cl F.fields_Writer_Num #[.pointer t48, .int .u64 (now:Int)] h_28 fun v_15 h_29=>
   ∃t53,v_15= .pointer t53∧
   hcell h_29 ⟨b,6,none⟩=some (.int .u64 (sq:Int))∧
   hcell h_29 ⟨b,5,none⟩=some (.int .u64 (tm:Int))∧
   hcell h_29 ⟨s,7,none⟩=some (.int .i64 (rf:Int))∧
   Cl F.fields_Writer_Int #[.pointer t53, .int .i64 (rf:Int)] h_29 fun v_16 h_30=>
   ∃t58,v_16= .pointer t58∧
   hcell h_30 ⟨b,6,none⟩=some (.int .u64 (sq:Int))∧
   hcell h_30 ⟨b,5,none⟩=some (.int .u64 (tm:Int))∧
   Cl F.fields_Writer_Num #[.pointer t58, .int .u64 (tm:Int)] h_30 fun v_17 h_31=>
   ∃t61,v_17= .pointer t61∧
   hcell h_31 ⟨b,6,none⟩=some (.int .u64 (sq:Int))∧
   Cl F.fields_Writer_Num #[.pointer t61, .int .u64 (sq:Int)] h_31 fun v_18 h_32=>
   ∃t64,v_18= .pointer t64∧K t64 h_32:=by
 subst ht
 have cb: ∀ {g S'} (i:Nat) (v:Value),Step S h S' g→(#[Value.bool e.ipn, .int .u64 e.node, .int .u64 e.svc, .string e.host, .string e.dem, .int .u64 (tm:Int), .int .u64 (sq:Int)])[i]? =some v→hcell g ⟨b,i,none⟩=some v:=fun i v st hv=>st.fr.cell (cell_at hb hv) nb
 have cs: ∀ {g S'} (i:Nat) (v:Value),Step S h S' g→(#[pt I.t,pt I.r,pt I.c,pt I.o,pt I.p,pt I.k, .int .u64 (now:Int), .int .i64 (rf:Int)])[i]? =some v→hcell g ⟨s,i,none⟩=some v:=fun i v st hv=>st.fr.cell (cell_at B hv) ns
 have l0:(encText t).length≤200000000:=by unfold encText;rw[List.length_append];have:=encNum_len t.length;omega
 have ln:=encNum_len now
 have lr:=encNum_len rf
 have lt:=encNum_len tm
 refine text_ok' W (by simp) r rfl (by omega) hp fun g1 S1 W1 s1=>⟨_,rfl,cb _ _ s1 rfl,cb _ _ s1 rfl,cs _ _ s1 rfl,cs _ _ s1 rfl, ?_⟩
 rw[List.nil_append] at W1
 refine num_ok now W1 (by omega) rfl hn.1 fun g2 S2 W2 s2=>⟨_,rfl, ?_⟩
 have s2:=s1.trans s2
 refine⟨cb _ _ s2 rfl,cb _ _ s2 rfl,cs _ _ s2 rfl,int_ok W2 (by rw[List.length_append];omega) (by omega) fun g3 S3 W3 s3=>⟨_,rfl, ?_⟩⟩
 have s3:=s2.trans s3
 have W3:Wr g3 w S3 (encText t++encNum now++encNum rf):=W3
 refine⟨cb _ _ s3 rfl,cb _ _ s3 rfl,num_ok tm W3 (by simp only[List.length_append];omega) rfl hn.2.2.1 fun g4 S4 W4 s4=>⟨_,rfl, ?_⟩⟩
 have s4:=s3.trans s4
 refine⟨cb _ _ s4 rfl,num_ok sq W4 (by simp only[List.length_append];omega) rfl hn.2.2.2 fun g5 S5 W5 s5=>⟨_,rfl,hk g5 S5 W5 (s4.trans s5)⟩⟩
set_option maxHeartbeats 2000000 in
theorem save_ok (H:Pt h s X I σ) (G:Good σ k) (hk8:k≤30000) (tb:Num.Tab h) (hk: ∀h' p' l' c',BL h h' p' l' c' (headS σ::recsS σ)→Fr (fun _=>False) h h'→R (.slice p' l' c') h'):
  CallsH Tryz.prog F.state_State_Save #[pt s] h R:=by
 refine state_State_Save.walk (made_ok H.blk ⟨_,rfl, ?_⟩)
 rw[if_neg (by decide)]
 obtain⟨Y,hp,_⟩:=id H
 obtain⟨M,_⟩:=hp 5
 refine⟨_,cell_at H.blk rfl,last_ok M fun h2 f2=>⟨_,_,_,_,_,_,_,rfl,ident_Ident.new fun b h10 eb hb f10=>⟨_,cell_at hb rfl,_,cell_at hb rfl,_,cell_at hb rfl,_,cell_at hb rfl,_,cell_at hb rfl, ?_⟩⟩⟩
 have F10:=f2.tt f10
 refine Eid.text_ok σ.e (tb.on F10) G.e.2.2 fun h11 f11=>⟨_,_,rfl,JoinP.of fun J hJ=> ?_⟩
 rw[if_pos G.e.1] at hJ
 have F11:=F10.tt f11
 have hb11:=f11.get hb id
 have B: ∀ {g},Fr (fun _=>False) h11 g→Bk g s I σ.now σ.rf:=fun f=>f.get (F11.get H.blk id) id
 have O:=H.ord
 have sm:=G.small O (by omega)
 have gl:=G.c.L
 obtain⟨Lb,okb⟩:=H.okB
 have s0: ∀ {g:Heap} {K:Option Addr→Nat→Nat→Heap→Prop},Fr (fun _=>False) h11 g→(∀g' p l c,BL g g' p l c (Ses.recs σ.A)→Fr (fun _=>False) g g'→K p l c g')→Cl F.sessions_Table_Save #[pt I.t] g fun v g'=> ∃p l c,v= .slice p l c∧K p l c g':=fun f hK=>
  Ses.save_ok (Ses.Has.frame (hp 0) (F11.tt f) (fun _ _=>id)) G.a fun g' p l c L f'=>⟨p,l,c,rfl,hK g' p l c L f'⟩
 have s1: ∀ {g:Heap} {K:Option Addr→Nat→Nat→Heap→Prop},Fr (fun _=>False) h11 g→(∀g' p l c,BL g g' p l c (σ.G.map Regs.recR)→Fr (fun _=>False) g g'→K p l c g')→Cl F.regs_Table_Save #[pt I.r] g fun v g'=> ∃p l c,v= .slice p l c∧K p l c g':=fun f hK=>
  Regs.save_ok (Regs.Tb.on (hp 1) (F11.tt f)) (by have:=G.g.len;omega) G.g.all (tb.on (F11.tt f)) fun g' p l c L f'=>⟨p,l,c,rfl,hK g' p l c L f'⟩
 have s2: ∀ {g:Heap} {K:Option Addr→Nat→Nat→Heap→Prop},Fr (fun _=>False) h11 g→(∀g' p l c,BL g g' p l c (Cps.recsC σ.C)→Fr (fun _=>False) g g'→K p l c g')→Cl F.copies_Table_Save #[pt I.c] g fun v g'=> ∃p l c,v= .slice p l c∧K p l c g':=fun f hK=>
  Cps.save_ok (Cps.Ct.on (hp 2) (F11.tt f)) sm (by omega) G.c.all (tb.on (F11.tt f)) fun g' p l c L f'=>⟨p,l,c,rfl,hK g' p l c L f'⟩
 have s3: ∀ {g:Heap} {K:Option Addr→Nat→Nat→Heap→Prop},Fr (fun _=>False) h11 g→(∀g' p l c,BL g g' p l c (Obx.recsB σ.B)→Fr (fun _=>False) g g'→K p l c g')→Cl F.outbox_Box_Save #[pt I.o] g fun v g'=> ∃p l c,v= .slice p l c∧K p l c g':=fun f hK=>
  Obx.save_ok (Obx.Box.on (hp 3) (F11.tt f)) (by have:=G.b;omega) fun g' p l c L f'=>⟨p,l,c,rfl,hK g' p l c L f'⟩
 have fin: ∀ {g:Heap} {b4:Nat} {p1 p2 p3 p4:Option Addr} {l1 c1 l2 c2 l3 c3 l4 c4:Nat},a4_s_s_uint8.at g b4 p1 l1 c1 p2 l2 c2 p3 l3 c3 p4 l4 c4→BL h11 g p1 l1 c1 (Ses.recs σ.A)→BL h11 g p2 l2 c2 (σ.G.map Regs.recR)→BL h11 g p3 l3 c3 (Cps.recsC σ.C)→BL h11 g p4 l4 c4 (Obx.recsB σ.B)→Fr (fun _=>False) h11 g→J (some ⟨b4,0,none⟩) g:=by
  intro g b4 p1 p2 p3 p4 l1 c1 l2 c2 l3 c3 l4 c4 ha L1 L2 L3 L4 fg
  subst hJ
  dsimp only
  have hbg:=fg.get hb11 id
  have lb:=lt_of_get hbg
  have ls:=lt_of_get (B fg)
  refine JoinP.of fun J1 hJ1=> ?_
  have tl:(textE σ.e).length≤100000000:=Nat.le_trans (Eid.text_len G.e.1 G.e.2.2) (by omega)
  have W: ∀ {g2:Heap} {w:Nat} {S:Nat→Prop},Wr g2 w S (encText (textE σ.e)++encNum σ.now++encNum σ.rf++encNum σ.tm++encNum σ.sq)→Fr (fun _=>False) g g2→(∀y,S y→g.size≤y)→J1 (some ⟨w,0,none⟩) g2:=by
   intro g2 w S W2 fg2 gS
   subst hJ1
   dsimp only
   have hag:=fg2.get ha id
   obtain⟨q0,q1,q2,q3,_⟩:=a4_s_s_uint8.held hag
   rw[add_zero_addr] at q0
   refine onSome_some.2 ⟨_,_,_,q0,_,_,_,q1,_,_,_,q2,_,_,_,q3, ?_⟩
   obtain⟨xs1,D1,rfl,o1,e1,d1,b1,i1⟩:=L1
   obtain⟨xs2,D2,rfl,o2,e2,d2,b2,i2⟩:=L2
   obtain⟨xs3,D3,rfl,o3,e3,d3,b3,i3⟩:=L3
   obtain⟨xs4,D4,rfl,o4,e4,d4,b4',i4⟩:=L4
   have n1:=congrArg List.length e1
   have n2:=congrArg List.length e2
   have n3:=congrArg List.length e3
   have n4:=congrArg List.length e4
   rw[List.length_map] at n1 n2 n3 n4
   have m1:=Ses.recs_le G.a
   have m1':=G.a.le
   have m2:=G.g.len
   have m3:(Cps.recsC σ.C).length=σ.C.L.length+1:=by unfold Cps.recsC;simp
   have m4:(Obx.recsB σ.B).length=σ.B.items.length+1:=by unfold Obx.recsB;simp
   have m4':=okb.le
   rw[List.length_map] at n2
   let cs:List Nat:= [xs1.length,xs2.length,xs3.length,xs4.length]
   have hl0:(encText (textE σ.e)++encNum σ.now++encNum σ.rf++encNum σ.tm++encNum σ.sq).length≤1000000000:=by
    have:=encNum_len σ.now;have:=encNum_len σ.rf;have:=encNum_len σ.tm;have:=encNum_len σ.sq;have:=encNum_len (textE σ.e).length
    simp only[List.length_append,encText];omega
   generalize hh0:encText (textE σ.e)++encNum σ.now++encNum σ.rf++encNum σ.tm++encNum σ.sq=hd0 at W2 hl0
   have fl: ∀l:List Nat,(l.flatMap encNum).length≤10*l.length:=fun l=>by
    induction l with
    |nil=>exact Nat.le_refl _
    |cons n l ih=>rw[List.flatMap_cons,List.length_append,List.length_cons];have:=encNum_len n;omega
   refine⟨fun i g3=> ∃(j:Nat) (S':Nat→Prop),i=(j:Int)∧j≤4∧Wr g3 w S' (hd0++(cs.take j).flatMap encNum)∧Step S g2 S' g3,fun i _=>4 - i.toNat,⟨0,S,rfl,by omega,by simpa using W2,Step.refl _ _⟩, ?_⟩
   rintro _ g3 ⟨j,S',rfl,hj,W3,st3⟩
   have lj:(hd0++(cs.take j).flatMap encNum).length≤1000000100:=by
    have:=fl (cs.take j)
    rw[List.length_take] at this
    rw[List.length_append]
    have:min j cs.length≤4:=by omega
    omega
   have one: ∀(n:Nat),cs[j]? =some n→n≤40000→Cl F.fields_Writer_Int #[.pointer (some ⟨w,0,none⟩), .int .i64 (n:Int)] g3 fun v h15=> ∃t72,v= .pointer t72∧((∃(j':Nat) (S':Nat→Prop),IntKind.wrap .i64 ((j:Int)+1)=(j':Int)∧j'≤4∧Wr h15 w S' (hd0++(cs.take j').flatMap encNum)∧Step S g2 S' h15)∧4 - (IntKind.wrap .i64 ((j:Int)+1)).toNat<4 - Int.toNat (j:Int)):=by
    intro n hn hb
    have hj4:j<4:=(List.getElem?_eq_some_iff.1 hn).1
    refine int_ok W3 (by omega) (by omega) fun g4 S4 W4 st4=>⟨_,rfl, ?_⟩
    have W4:Wr g4 w S4 ((hd0++(cs.take j).flatMap encNum)++encNum n):=W4
    rw[wrap_id (by omega) (by omega)]
    refine⟨⟨j+1,S4,by omega,by omega, ?_,st3.trans st4⟩,by omega⟩
    rw[List.take_add_one,hn,List.flatMap_append,←List.append_assoc]
    simpa using W4
   by_cases hlt:j<4
   ·rw[if_pos (decide_eq_true (by omega))]
    refine⟨⟨by omega,by omega⟩,fun e=> ?_,fun e=> ?_,fun e=> ?_,fun e=> ?_,trivial⟩
    ·obtain rfl:j=0:=by omega
     exact one xs1.length rfl (by omega)
    ·obtain rfl:j=1:=by omega
     exact one xs2.length rfl (by omega)
    ·obtain rfl:j=2:=by omega
     exact one xs3.length rfl (by omega)
    ·obtain rfl:j=3:=by omega
     exact one xs4.length rfl (by omega)
   ·rw[if_neg (fun e=>hlt (by have:=of_decide_eq_true e;omega))]
    obtain rfl:j=4:=by omega
    clear one
    have eh:headS σ=hd0++(cs.take 4).flatMap encNum:=by
     unfold headS
     rw[hh0,←n1,List.length_map,←n2,←n3,←n4]
     simp[cs]
    rw[eh] at hk
    generalize hd0++(cs.take 4).flatMap encNum=hd at W3 hk lj
    refine onSome_some.2 (bytes_ok W3 (by omega) fun p5 c5 g4 o5 f5 i5=>⟨_,_,_,rfl, ?_⟩)
    have fg3:Fr (fun _=>False) g g3:=fg2.fresh st3.fr gS
    have fg4:=fg3.tt f5
    let ts:List RS:= [⟨p1,c1,xs1⟩,⟨p2,c2,xs2⟩,⟨p3,c3,xs3⟩,⟨p4,c4,xs4⟩]
    have et:ts.flatMap RS.xs=xs1++(xs2++(xs3++xs4)):=by simp[ts]
    have lt:(ts.flatMap RS.xs).length≤40000:=by rw[et];simp only[List.length_append];omega
    have con: ∀ {g':Heap} {K:Value→Heap→Prop},Fr (fun _=>False) g4 g'→(∀h' p' c',Own h' p' (ts.flatMap RS.xs).length c' 1 ((ts.flatMap RS.xs).flatMap nenc)→Fr (fun _=>False) g' h'→(∀y,inBlk p' y→g'.size≤y)→K (.slice p' (ts.flatMap RS.xs).length c') h')→Cl F.slices_Concat_s_s_byte_s_byte #[.slice (slBase (some ⟨b4,0,none⟩) 4 0 1) (4 - 0) (4 - 0)] g' K:=by
     intro g' K f hK
     rw[slBase_zero]
     have F:=fg4.tt f
     refine concatN_ok (ts:=ts) (.inr ⟨_,rfl,a4_s_s_uint8.held (F.get ha id)⟩) (fun t ht=> ?_) rfl (by show 4≤1000;omega) (by omega) hK
     rcases List.mem_cons.1 ht with rfl|ht
     ·exact o1.row'.frame F (fun _ _=>id)
     rcases List.mem_cons.1 ht with rfl|ht
     ·exact o2.row'.frame F (fun _ _=>id)
     rcases List.mem_cons.1 ht with rfl|ht
     ·exact o3.row'.frame F (fun _ _=>id)
     ·obtain rfl:=List.mem_singleton.1 ht
      exact o4.row'.frame F (fun _ _=>id)
    have done: ∀ {g':Heap} {b5 cc:Nat} {pc:Option Addr},Fr (fun _=>False) g4 g'→Own g' (some ⟨b5,0,none⟩) 1 1 1 [.slice p5 hd.length c5]→g4.size≤b5→Own g' pc (ts.flatMap RS.xs).length cc 1 ((ts.flatMap RS.xs).flatMap nenc)→
      denSem Tryz.prog (Builtin.append_ #[T.s_s_uint8,T.s_s_uint8] T.s_s_uint8 #[.slice (some ⟨b5,0,none⟩) 1 1, .slice pc (ts.flatMap RS.xs).length cc]) g' fun v h'=> ∃p l c,v= .slice p l c∧R (.slice p l c) h':=by
     intro g' b5 cc pc f ol lb5 oc
     refine den_append tN uN ol oc.row' (by rw[nflat_len,Nat.mul_one]) (nenc_one _) (by omega) (by omega) fun p' c' h' o' _ f' g''=>⟨_,_,_,rfl, ?_⟩
     have fF:=f.fresh f' (fun y ⟨a,e,e2⟩=>by cases e;rw[←e2];exact lb5)
     have F:=fg4.tt fF
     have lo: ∀y,inBlk p' y→g4.size≤y:=fun y hy=>(g'' y hy).elim (fun⟨a,e,e2⟩=>by cases e;rw[←e2];exact lb5) (fun q=>Nat.le_trans f.1 q)
     have z11:=F11.1
     have z3:=fg3.1
     have z4:=fg4.1
     have zF:=fF.1
     have zg:=fg.1
     rw[et] at o'⊢
     refine hk h' p' _ c' (join_ok (g4:=g4) d1 d2 d3 d4 e1 e2 e3 e4 (fun y hy=> ?_) F (by omega) (by omega) (by omega) (o5.frame fF (fun _ _=>id)) (fun y hy=>⟨by have:=i5 y hy;omega,o5.blk_lt hy⟩) rfl o' lo) ((F11.tt fg).tt F)
     rcases hy with hy|hy|hy|hy
     ·exact⟨Nat.le_trans z11 (b1 y hy).1,(b1 y hy).2.1⟩
     ·exact⟨Nat.le_trans z11 (b2 y hy).1,(b2 y hy).2.1⟩
     ·exact⟨Nat.le_trans z11 (b3 y hy).1,(b3 y hy).2.1⟩
     ·exact⟨Nat.le_trans z11 (b4' y hy).1,(b4' y hy).2.1⟩
    have lit: ∀(g':Heap),Own (g'.push (.cells #[.slice p5 hd.length c5] T.s_uint8)) (some ⟨g'.size,0,none⟩) 1 1 1 [.slice p5 hd.length c5]:=fun g'=> .row _ 0 _ _ rfl push_new (by omega) (by simp) rfl (fun j v hj=>by rw[Nat.zero_add];simpa using hj)
    refine⟨newP_of (con (Fr.push _ _) fun g6 p6 c6 o6 f6 i6=>⟨_,_,_,rfl,done ((Fr.push _ _).tt f6) ((lit g4).frame f6 (fun _ _=>id)) (Nat.le_refl _) o6⟩),con (Fr.refl _ _) fun g5 p6 c6 o6 f6 i6=>⟨_,_,_,rfl,newP_of (done (f6.tt (Fr.push _ _)) (lit g5) f6.1 (o6.frame (Fr.push (S:=fun _=>False) _ _) (fun _ _=>id)))⟩,trivial⟩
  have bS: ∀ {S:Nat→Prop},(∀y,S y→g.size≤y)→ ¬S b∧ ¬S s:=fun gS=>⟨fun e=>by have:=gS _ e;omega,fun e=>by have:=gS _ e;omega⟩
  have nn:σ.now<18446744073709551616∧σ.rf≤1000000000∧σ.tm<18446744073709551616∧σ.sq<18446744073709551616:=by
   have:=G.n;have:=G.t;have:=G.r;omega
  have tx:(str (textE σ.e)).data.toList=textE σ.e:=rfl
  refine⟨_,cell_at (B fg) rfl,_,cell_at (B fg) rfl,_,cell_at hbg rfl,_,cell_at hbg rfl, ?_, ?_,trivial⟩
  ·refine Fld.new_ok fun h26 w S W6 f26 g26=>⟨_,rfl, ?_⟩
   have F6:=fg.tt f26
   have hb6:=f26.get hbg id
   refine⟨cell_at hb6 rfl,cell_at hb6 rfl,cell_at (B F6) rfl,cell_at (B F6) rfl,s2b fun p7 c7 h27 r7 ic f27 g27=>⟨_,_,_,rfl, ?_⟩⟩
   have F7:=F6.tt f27
   have hb7:=f27.get hb6 id
   refine⟨cell_at hb7 rfl,cell_at hb7 rfl,cell_at (B F7) rfl,cell_at (B F7) rfl,head_ok (W6.frame f27 (fun _ _=>id)) r7 (by rw[tx];rfl) tl nn (fun y hy _ hs=>by have:=g27 y hy;have:=W6.lt y hs;omega) (B F7) hb7 (bS g26).1 (bS g26).2 fun g2 S2 W2 st2=>W W2 ((f26.tt f27).fresh st2.fr g26) (fun y hy=>(st2.new y hy).elim (g26 y) (fun q=>by have:=f26.1;have:=f27.1;omega))⟩
  ·refine s2b fun p7 c7 h26 r7 ic f26 g26=>⟨_,_,_,rfl, ?_⟩
   have F6:=fg.tt f26
   have hb6:=f26.get hbg id
   refine⟨cell_at hb6 rfl,cell_at hb6 rfl,cell_at (B F6) rfl,cell_at (B F6) rfl,Fld.new_ok fun h27 w S W7 f27 g27=>⟨_,rfl, ?_⟩⟩
   have F7:=F6.tt f27
   have hb7:=f27.get hb6 id
   have g27': ∀y,S y→g.size≤y:=fun y hy=>Nat.le_trans f26.1 (g27 y hy)
   refine⟨cell_at hb7 rfl,cell_at hb7 rfl,cell_at (B F7) rfl,cell_at (B F7) rfl,head_ok W7 (r7.frame f27 (fun _ _=>id)) (by rw[tx];rfl) tl nn (fun y hy hne hs=>by have:=row_lt r7 (by rw[tx];intro e;exact hne (by cases ht:textE σ.e with|nil=>rfl|cons=>rw[ht] at e;simp[bc] at e)) hy;have:=g27 y hs;omega) (B F7) hb7 (bS g27').1 (bS g27').2 fun g2 S2 W2 st2=>W W2 ((f26.tt f27).fresh st2.fr g27') (fun y hy=>(st2.new y hy).elim (g27' y) (fun q=>by have:=f26.1;have:=f27.1;omega))⟩
 refine⟨_,cell_at (B (Fr.refl _ _)) rfl,_,cell_at (B (Fr.refl _ _)) rfl,_,cell_at (B (Fr.refl _ _)) rfl,_,cell_at (B (Fr.refl _ _)) rfl, ?_, ?_,trivial⟩
 ·refine s0 (Fr.refl _ _) fun g1 p1 l1 c1 L1 f1=>⟨cell_at (B f1) rfl,cell_at (B f1) rfl,cell_at (B f1) rfl, ?_, ?_,trivial⟩
  ·refine s1 f1 fun g2 p2 l2 c2 L2 f2=>⟨cell_at (B (f1.tt f2)) rfl,cell_at (B (f1.tt f2)) rfl, ?_, ?_,trivial⟩
   ·have F2:=f1.tt f2
    refine s2 F2 fun g3 p3 l3 c3 L3 f3=>⟨cell_at (B (F2.tt f3)) rfl, ?_, ?_,trivial⟩
    ·have F3:=F2.tt f3
     refine s3 F3 fun g4 p4 l4 c4 L4 f4=>a4_s_s_uint8.new fun b4 g5 eb hb5 f5=> ?_
     exact fin hb5 (L1.on (f2.tt (f3.tt (f4.tt f5)))) ((L2.mono f1.1).on (f3.tt (f4.tt f5))) ((L3.mono F2.1).on (f4.tt f5)) ((L4.mono F3.1).on f5) (F3.tt (f4.tt f5))
    ·have F3:=F2.tt f3
     refine a4_s_s_uint8.box fun b4 g4 eb hb4 f4=>⟨cell_at (B (F3.tt f4)) rfl, ?_⟩
     have F4:=F3.tt f4
     refine s3 F4 fun g5 p4 l4 c4 L4 f5=>a4_s_s_uint8.set (f5.get hb4 id) fun g6 hb6 z6 o6=> ?_
     have f6:Fr (fun y=>y=b4) g5 g6:=Fr.of_eq z6 o6
     have T3:Fr (fun _=>False) g3 g6:=(f4.tt f5).fresh f6 (fun y e=>by omega)
     exact fin hb6 (L1.on (f2.tt (f3.tt T3))) ((L2.mono f1.1).on (f3.tt T3)) ((L3.mono F2.1).on T3) ((L4.frame f6 (fun y hy e=>by have:=lt_of_get hb4;omega)).mono F4.1) (F3.tt T3)
   ·have F2:=f1.tt f2
    refine a4_s_s_uint8.box fun b4 g3 eb hb3 f3=>⟨cell_at (B (F2.tt f3)) rfl,cell_at (B (F2.tt f3)) rfl, ?_⟩
    have F3:=F2.tt f3
    have lb:=lt_of_get hb3
    refine s2 F3 fun g4 p3 l3 c3 L3 f4=>⟨cell_at (B (F3.tt f4)) rfl,s3 (F3.tt f4) fun g5 p4 l4 c4 L4 f5=>a4_s_s_uint8.set ((f4.tt f5).get hb3 id) fun g6 hb6 z6 o6=> ?_⟩
    have F4:=F3.tt f4
    have f6:Fr (fun y=>y=b4) g5 g6:=Fr.of_eq z6 o6
    have z4:=f4.1
    have T2:Fr (fun _=>False) g2 g6:=(f3.tt (f4.tt f5)).fresh f6 (fun y e=>by omega)
    exact fin hb6 (L1.on (f2.tt T2)) ((L2.mono f1.1).on T2) (((L3.on f5).frame f6 (fun y hy e=>by omega)).mono F3.1) ((L4.frame f6 (fun y hy e=>by omega)).mono F4.1) (F2.tt T2)
  ·refine a4_s_s_uint8.box fun b4 g2 eb hb2 f2=>⟨cell_at (B (f1.tt f2)) rfl,cell_at (B (f1.tt f2)) rfl,cell_at (B (f1.tt f2)) rfl, ?_⟩
   have F2:=f1.tt f2
   have lb:=lt_of_get hb2
   refine s1 F2 fun g3 p2 l2 c2 L2 f3=>⟨cell_at (B (F2.tt f3)) rfl,cell_at (B (F2.tt f3)) rfl,s2 (F2.tt f3) fun g4 p3 l3 c3 L3 f4=>⟨cell_at (B (F2.tt (f3.tt f4))) rfl,s3 (F2.tt (f3.tt f4)) fun g5 p4 l4 c4 L4 f5=>a4_s_s_uint8.set ((f3.tt (f4.tt f5)).get hb2 id) fun g6 hb6 z6 o6=> ?_⟩⟩
   have F3:=F2.tt f3
   have F4:=F3.tt f4
   have f6:Fr (fun y=>y=b4) g5 g6:=Fr.of_eq z6 o6
   have z3:=f3.1
   have z4:=f4.1
   have T1:Fr (fun _=>False) g1 g6:=(f2.tt (f3.tt (f4.tt f5))).fresh f6 (fun y e=>by omega)
   exact fin hb6 (L1.on T1) (((L2.on (f4.tt f5)).frame f6 (fun y hy e=>by omega)).mono F2.1) (((L3.on f5).frame f6 (fun y hy e=>by omega)).mono F3.1) ((L4.frame f6 (fun y hy e=>by omega)).mono F4.1) (f1.tt T1)
 ·refine a4_s_s_uint8.box fun b4 g1 eb hb1 f1=>⟨cell_at (B f1) rfl,cell_at (B f1) rfl,cell_at (B f1) rfl,cell_at (B f1) rfl, ?_⟩
  have lb:=lt_of_get hb1
  refine s0 f1 fun g2 p1 l1 c1 L1 f2=>⟨cell_at (B (f1.tt f2)) rfl,cell_at (B (f1.tt f2)) rfl,cell_at (B (f1.tt f2)) rfl,s1 (f1.tt f2) fun g3 p2 l2 c2 L2 f3=>⟨cell_at (B (f1.tt (f2.tt f3))) rfl,cell_at (B (f1.tt (f2.tt f3))) rfl,s2 (f1.tt (f2.tt f3)) fun g4 p3 l3 c3 L3 f4=>⟨cell_at (B (f1.tt (f2.tt (f3.tt f4)))) rfl,s3 (f1.tt (f2.tt (f3.tt f4))) fun g5 p4 l4 c4 L4 f5=>a4_s_s_uint8.set ((f2.tt (f3.tt (f4.tt f5))).get hb1 id) fun g6 hb6 z6 o6=> ?_⟩⟩⟩
  have F2:=f1.tt f2
  have F3:=F2.tt f3
  have F4:=F3.tt f4
  have f6:Fr (fun y=>y=b4) g5 g6:=Fr.of_eq z6 o6
  have z2:=f2.1
  have z3:=f3.1
  have z4:=f4.1
  exact fin hb6 (((L1.on (f3.tt (f4.tt f5))).frame f6 (fun y hy e=>by omega)).mono f1.1) (((L2.on (f4.tt f5)).frame f6 (fun y hy e=>by omega)).mono F2.1) (((L3.on f5).frame f6 (fun y hy e=>by omega)).mono F3.1) ((L4.frame f6 (fun y hy e=>by omega)).mono F4.1) ((f1.tt (f2.tt (f3.tt (f4.tt f5)))).fresh f6 (fun y e=>by omega))
end Stt
end Go.Proofs.YtgccegnmggjkjaaGreatDoor
set_option maxRecDepth 100000
set_option maxHeartbeats 4000000
namespace Go.Proofs.YtgccegnmggjkjaaGreatDoor
open Go.Den
variable {h : Heap} {R : Value → Heap → Prop}
theorem law26_Self.walk  (hv :
 NewP h (.cells #[.bool false, .int .u64 0, .int .u64 0, .string (⟨#[]⟩ : ByteArray), .string (⟨#[]⟩ : ByteArray)] T.eid_Eid) fun b h_1 =>
 eid_Eid.ST h_1 ⟨b, 0, none⟩ true 7 0 (⟨#[]⟩ : ByteArray) (⟨#[]⟩ : ByteArray) fun h_2 =>
 eid_Eid.LD h_2 ⟨b, 0, none⟩ fun r_0 r_1 r_2 r_3 r_4 =>
 R (.agg #[.bool r_0, .int .u64 r_1, .int .u64 r_2, .string r_3, .string r_4]) h_2) : CallsH Tryz.prog F.law26_Self #[] h R :=
 callsH_of_body (.seq .leaf (.seq .leaf .leaf)) Tryz.func51 rfl rfl (Eq.mp (by kernel_rfl) hv)
theorem law26_home.walk  (hv :
 NewP h (.cells #[.bool false, .int .u64 0, .int .u64 0, .string (⟨#[]⟩ : ByteArray), .string (⟨#[]⟩ : ByteArray)] T.eid_Eid) fun b h_1 =>
 eid_Eid.ST h_1 ⟨b, 0, none⟩ true 7 1 (⟨#[]⟩ : ByteArray) (⟨#[]⟩ : ByteArray) fun h_2 =>
 eid_Eid.LD h_2 ⟨b, 0, none⟩ fun r_0 r_1 r_2 r_3 r_4 =>
 R (.agg #[.bool r_0, .int .u64 r_1, .int .u64 r_2, .string r_3, .string r_4]) h_2) : CallsH Tryz.prog F.law26_home #[] h R :=
 callsH_of_body (.seq .leaf (.seq .leaf .leaf)) Tryz.func115 rfl rfl (Eq.mp (by kernel_rfl) hv)
theorem law26_alive.walk  (hv :
 Cl F.law26_Self #[] h fun v h_1 =>
 ∃ t13_0 t13_1 t13_2 t13_3 t13_4, v = .agg #[.bool t13_0, .int .u64 t13_1, .int .u64 t13_2, .string t13_3, .string t13_4] ∧
 Cl F.state_New #[.agg #[.bool t13_0, .int .u64 t13_1, .int .u64 t13_2, .string t13_3, .string t13_4]] h_1 fun v_1 h_2 =>
 ∃ t14_0 t14_1, v_1 = .tuple #[.pointer t14_0, .int .i64 t14_1] ∧
 Cl F.state_New #[.agg #[.bool false, .int .u64 0, .int .u64 0, .string (⟨#[]⟩ : ByteArray), .string (⟨#[]⟩ : ByteArray)]] h_2 fun v_2 h_3 =>
 ∃ t19_0 t19_1, v_2 = .tuple #[.pointer t19_0, .int .i64 t19_1] ∧
 JoinP (fun (t41 : Bool) (h_4 : Heap) =>
 if t41 = true then
 R (.bool false) h_4
 else
 NewP h_4 (.cells #[.int .u8 97, .int .u8 98, .int .u8 99] T.uint8) fun b h_5 =>
 denSem Tryz.prog (convert T.s_uint8 T.s_uint8 (.slice (some ⟨b, 0, none⟩) 3 3)) h_5 fun v_3 h_6 =>
 ∃ t45_p t45_l t45_c, v_3 = .slice t45_p t45_l t45_c ∧
 Cl F.state_State_Put #[.pointer t14_0, .int .i64 3, .slice t45_p t45_l t45_c, .int .u64 50] h_6 fun v_4 h_7 =>
 ∃ t46_0 t46_1, v_4 = .tuple #[.int .i64 t46_0, .int .i64 t46_1] ∧
 onSome t14_0 fun a =>
 ∃ t52, hcell h_7 (a.add 4) = some (.pointer t52) ∧
 Cl F.quota_Purse_Used #[.pointer t52, .int .i64 3] h_7 fun v_5 h_8 =>
 ∃ t53, v_5 = .int .i64 t53 ∧
 Cl F.state_State_Pass #[.pointer t14_0, .int .u64 9] h_8 fun v_6 h_9 =>
 ∃ t55, v_6 = .int .i64 t55 ∧
 Cl F.state_State_Pass #[.pointer t14_0, .int .u64 8] h_9 fun v_7 h_10 =>
 ∃ t57, v_7 = .int .i64 t57 ∧
 Cl F.state_State_Take #[.pointer t14_0] h_10 fun v_8 h_11 =>
 ∃ t60_0_0 t60_0_1 t60_0_2_p t60_0_2_l t60_0_2_c t60_0_3 t60_1, v_8 = .tuple #[.agg #[.int .i64 t60_0_0, .int .i64 t60_0_1, .slice t60_0_2_p t60_0_2_l t60_0_2_c, .int .u64 t60_0_3], .int .i64 t60_1] ∧
 NewP h_11 (.cells #[.int .i64 0, .int .i64 0, .slice none 0 0, .int .u64 0] T.outbox_Item) fun b_1 h_12 =>
 outbox_Item.ST h_12 ⟨b_1, 0, none⟩ t60_0_0 t60_0_1 t60_0_2_p t60_0_2_l t60_0_2_c t60_0_3 fun h_13 =>
 if (t19_1 == 3) = true then
 if (t46_0 == 1) = true then
 if (t46_1 == 0) = true then
 if (t53 == 3) = true then
 if (t55 == 0) = true then
 if (t57 == 18) = true then
 ∃ t87_p t87_l t87_c, hcell h_13 ⟨b_1, 2, none⟩ = some (.slice t87_p t87_l t87_c) ∧
 ∃ (t88 : ByteArray), ConvV Tryz.prog T.s_uint8 T.string (.slice t87_p t87_l t87_c) h_13 t88 ∧
 if (t88.toList == (⟨#[97, 98, 99]⟩ : ByteArray).toList) = true then
 if (t60_1 == 0) = true then
 onSome t14_0 fun a_1 =>
 ∃ t99, hcell h_13 (a_1.add 4) = some (.pointer t99) ∧
 Cl F.quota_Purse_All #[.pointer t99] h_13 fun v_9 h_14 =>
 ∃ t100, v_9 = .int .i64 t100 ∧
 if (t100 == 0) = true then
 onSome t14_0 fun a_2 =>
 ∃ t107, hcell h_14 (a_2.add 6) = some (.int .u64 t107) ∧
 if (t107 == 9) = true then
 Cl F.state_State_Save #[.pointer t14_0] h_14 fun v_10 h_15 =>
 ∃ t112_p t112_l t112_c, v_10 = .slice t112_p t112_l t112_c ∧
 R (.bool (((t112_l : Nat) : Int) == 3)) h_15
 else
 R (.bool false) h_14
 else
 R (.bool false) h_14
 else
 R (.bool false) h_13
 else
 R (.bool false) h_13
 else
 R (.bool false) h_13
 else
 R (.bool false) h_13
 else
 R (.bool false) h_13
 else
 R (.bool false) h_13
 else
 R (.bool false) h_13
 else
 R (.bool false) h_13)
 (fun J =>
 if (t14_1 != 0) = true then
 J true h_3
 else
 if t14_0.isNone = true then
 J true h_3
 else
 onSome t14_0 fun a_3 =>
 ∃ t32, hcell h_3 (a_3.add 3) = some (.pointer t32) ∧
 if t32.isNone = true then
 J true h_3
 else
 onSome t14_0 fun a_4 =>
 ∃ t39, hcell h_3 (a_4.add 4) = some (.pointer t39) ∧
 J t39.isNone h_3)) : CallsH Tryz.prog F.law26_alive #[] h R :=
 callsH_of_body (.seq .leaf (.seq .leaf (.seq .leaf (.seq (.seq (.join [(41, .one (.bool))] .leaf) (.cond (.seq .leaf .leaf) .leaf)) (.seq .leaf (.seq .leaf (.seq .leaf (.seq .leaf (.seq .leaf (.seq .leaf .leaf)))))))))) Tryz.func39 rfl rfl (Eq.mp (by kernel_rfl) hv)
theorem law26_whole.walk {s : Nat} (hv :
 ∃ t9, hcell h ⟨s, 0, none⟩ = some (.pointer t9) ∧
 if (!t9.isNone) = true then
 ∃ t16, hcell h ⟨s, 1, none⟩ = some (.pointer t16) ∧
 if (!t16.isNone) = true then
 ∃ t23, hcell h ⟨s, 2, none⟩ = some (.pointer t23) ∧
 if (!t23.isNone) = true then
 ∃ t30, hcell h ⟨s, 3, none⟩ = some (.pointer t30) ∧
 if (!t30.isNone) = true then
 ∃ t37, hcell h ⟨s, 4, none⟩ = some (.pointer t37) ∧
 if (!t37.isNone) = true then
 ∃ t44, hcell h ⟨s, 5, none⟩ = some (.pointer t44) ∧
 R (.bool (!t44.isNone)) h
 else
 R (.bool false) h
 else
 R (.bool false) h
 else
 R (.bool false) h
 else
 R (.bool false) h
 else
 R (.bool false) h) : CallsH Tryz.prog F.law26_whole #[.pointer (some ⟨s, 0, none⟩)] h R :=
 callsH_of_body (.seq .leaf (.seq .leaf .leaf)) Tryz.func42 rfl rfl (Eq.mp (by kernel_rfl) hv)
theorem law26_pure.walk {s : Nat} (hv :
 ∃ t11, hcell h ⟨s, 3, none⟩ = some (.pointer t11) ∧
 Cl F.outbox_Box_All #[.pointer t11] h fun v h_1 =>
 ∃ t12_p t12_l t12_c, v = .slice t12_p t12_l t12_c ∧
 ∃ (I : Int → Int → Heap → Prop) (mu : Int → Int → Heap → Nat), I 0 0 h_1 ∧ ∀ (all : Int) (i : Int) (h_2 : Heap), I all i h_2 →
 if (decide (i < ((t12_l : Nat) : Int))) = true then
 ∃ (I_1 : Int → Int → Heap → Prop) (mu_1 : Int → Int → Heap → Nat), I_1 0 0 h_2 ∧ ∀ (n : Int) (k : Int) (h_3 : Heap), I_1 n k h_3 →
 if (decide (k < ((t12_l : Nat) : Int))) = true then
 JoinP (fun (n_1 : Int) (h_4 : Heap) =>
 (I_1 n_1 (IntKind.wrap .i64 (k + 1)) h_4 ∧ mu_1 n_1 (IntKind.wrap .i64 (k + 1)) h_4 < mu_1 n k h_3))
 (fun J =>
 ((0 : Int) ≤ k ∧ k < ((t12_l : Nat) : Int)) ∧
 onSome t12_p fun a =>
 ∃ t29, hcell h_3 ((a.add (Int.toNat k * 4)).add 1) = some (.int .i64 t29) ∧
 ((0 : Int) ≤ i ∧ i < ((t12_l : Nat) : Int)) ∧
 onSome t12_p fun a_1 =>
 ∃ t34, hcell h_3 ((a_1.add (Int.toNat i * 4)).add 1) = some (.int .i64 t34) ∧
 JoinP (fun (n_2 : Int) (h_5 : Heap) =>
 J n_2 h_5)
 (fun J_1 =>
 if (t29 == t34) = true then
 ((0 : Int) ≤ k ∧ k < ((t12_l : Nat) : Int)) ∧
 onSome t12_p fun a_2 =>
 ∃ t41_p t41_l t41_c, hcell h_3 ((a_2.add (Int.toNat k * 4)).add 2) = some (.slice t41_p t41_l t41_c) ∧
 J_1 (IntKind.wrap .i64 (n + ((t41_l : Nat) : Int))) h_3
 else
 J_1 n h_3))
 else
 ∃ t47, hcell h_3 ⟨s, 4, none⟩ = some (.pointer t47) ∧
 ((0 : Int) ≤ i ∧ i < ((t12_l : Nat) : Int)) ∧
 onSome t12_p fun a_3 =>
 ∃ t52, hcell h_3 ((a_3.add (Int.toNat i * 4)).add 1) = some (.int .i64 t52) ∧
 Cl F.quota_Purse_Used #[.pointer t47, .int .i64 t52] h_3 fun v_1 h_6 =>
 ∃ t53, v_1 = .int .i64 t53 ∧
 if (t53 != n) = true then
 R (.bool false) h_6
 else
 ((0 : Int) ≤ i ∧ i < ((t12_l : Nat) : Int)) ∧
 onSome t12_p fun a_4 =>
 ∃ t61_p t61_l t61_c, hcell h_6 ((a_4.add (Int.toNat i * 4)).add 2) = some (.slice t61_p t61_l t61_c) ∧
 (I (IntKind.wrap .i64 (all + ((t61_l : Nat) : Int))) (IntKind.wrap .i64 (i + 1)) h_6 ∧ mu (IntKind.wrap .i64 (all + ((t61_l : Nat) : Int))) (IntKind.wrap .i64 (i + 1)) h_6 < mu all i h_2)
 else
 ∃ t67, hcell h_2 ⟨s, 4, none⟩ = some (.pointer t67) ∧
 Cl F.quota_Purse_All #[.pointer t67] h_2 fun v_2 h_7 =>
 ∃ t68, v_2 = .int .i64 t68 ∧
 R (.bool (t68 == all)) h_7) : CallsH Tryz.prog F.law26_pure #[.pointer (some ⟨s, 0, none⟩)] h R :=
 callsH_of_body (.seq .leaf (.seq .leaf (.seq .leaf (.seq (.seq .leaf (.block (.loop [(4, .one (.int .i64)), (5, .one (.int .i64))] (.seq (.seq .leaf (.cond .leaf .leaf)) (.seq (.block (.seq .leaf (.seq (.seq .leaf (.block (.loop [(6, .one (.int .i64)), (7, .one (.int .i64))] (.seq (.seq .leaf (.cond .leaf .leaf)) (.seq (.join [(6, .one (.int .i64))] (.block (.seq (.plan (.op 0 (.op 1 (.op 2 (.op 3 (.op 4 (.op 5 (.op 6 (.op 7 (.op 8 (.op 9 (.op 10 .done)))))))))))) (.join [(6, .one (.int .i64))] (.cond .leaf .leaf))))) .leaf))))) (.seq (.seq (.plan (.op 0 (.op 1 (.op 2 (.op 3 (.op 4 (.op 5 (.op 6 (.op 7 (.op 8 (.op 10 (.op 9 (.op 11 .done))))))))))))) (.cond (.seq .leaf .leaf) .leaf)) .leaf)))) .leaf))))) (.seq .leaf .leaf))))) Tryz.func55 rfl rfl (Eq.mp (by kernel_rfl) hv)
theorem law26_do.walk {s : Nat} {o_0 : Int} {o_1 : Int} {o_2 : Int} {o_3_p : Option Addr} {o_3_l o_3_c : Nat} {o_4 : Int} (hv :
 NewP h (.cells #[.int .i64 o_0, .int .i64 o_1, .int .i64 o_2, .slice o_3_p o_3_l o_3_c, .int .u64 o_4] T.law26_Op) fun b h_1 =>
 ∃ t10, hcell h_1 ⟨b, 0, none⟩ = some (.int .i64 t10) ∧
 JoinP (fun (e : Int) (n : Int) (h_2 : Heap) =>
 R (.int .i64 (IntKind.wrap .i64 ((IntKind.wrap .i64 (100 * n)) + e))) h_2)
 (fun J =>
 JoinP (fun (e_1 : Int) (n_1 : Int) (h_3 : Heap) =>
 J e_1 n_1 h_3)
 (fun J_1 =>
 if (t10 == 0) = true then
 ∃ t15, hcell h_1 ⟨b, 4, none⟩ = some (.int .u64 t15) ∧
 Cl F.state_State_Pass #[.pointer (some ⟨s, 0, none⟩), .int .u64 t15] h_1 fun v h_4 =>
 ∃ t16, v = .int .i64 t16 ∧
 J_1 t16 0 h_4
 else
 JoinP (fun (e_2 : Int) (n_2 : Int) (h_5 : Heap) =>
 J_1 e_2 n_2 h_5)
 (fun J_2 =>
 if (t10 == 1) = true then
 ∃ t22, hcell h_1 ⟨b, 2, none⟩ = some (.int .i64 t22) ∧
 ∃ t24_p t24_l t24_c, hcell h_1 ⟨b, 3, none⟩ = some (.slice t24_p t24_l t24_c) ∧
 ∃ t26, hcell h_1 ⟨b, 4, none⟩ = some (.int .u64 t26) ∧
 Cl F.state_State_Put #[.pointer (some ⟨s, 0, none⟩), .int .i64 t22, .slice t24_p t24_l t24_c, .int .u64 t26] h_1 fun v_1 h_6 =>
 ∃ t27_0 t27_1, v_1 = .tuple #[.int .i64 t27_0, .int .i64 t27_1] ∧
 J_2 t27_1 t27_0 h_6
 else
 JoinP (fun (e_3 : Int) (n_3 : Int) (h_7 : Heap) =>
 J_2 e_3 n_3 h_7)
 (fun J_3 =>
 if (t10 == 2) = true then
 ∃ t34, hcell h_1 ⟨b, 1, none⟩ = some (.int .i64 t34) ∧
 ∃ t36, hcell h_1 ⟨b, 2, none⟩ = some (.int .i64 t36) ∧
 Cl F.state_State_Cancel #[.pointer (some ⟨s, 0, none⟩), .int .i64 t34, .int .i64 t36] h_1 fun v_2 h_8 =>
 ∃ t37, v_2 = .int .i64 t37 ∧
 J_3 t37 0 h_8
 else
 JoinP (fun (e_4 : Int) (n_4 : Int) (h_9 : Heap) =>
 J_3 e_4 n_4 h_9)
 (fun J_4 =>
 if (t10 == 3) = true then
 Cl F.state_State_Take #[.pointer (some ⟨s, 0, none⟩)] h_1 fun v_3 h_10 =>
 ∃ t42_0_0 t42_0_1 t42_0_2_p t42_0_2_l t42_0_2_c t42_0_3 t42_1, v_3 = .tuple #[.agg #[.int .i64 t42_0_0, .int .i64 t42_0_1, .slice t42_0_2_p t42_0_2_l t42_0_2_c, .int .u64 t42_0_3], .int .i64 t42_1] ∧
 NewP h_10 (.cells #[.int .i64 0, .int .i64 0, .slice none 0 0, .int .u64 0] T.outbox_Item) fun b_1 h_11 =>
 outbox_Item.ST h_11 ⟨b_1, 0, none⟩ t42_0_0 t42_0_1 t42_0_2_p t42_0_2_l t42_0_2_c t42_0_3 fun h_12 =>
 ∃ t46, hcell h_12 ⟨b_1, 0, none⟩ = some (.int .i64 t46) ∧
 J_4 t42_1 t46 h_12
 else
 JoinP (fun (e_5 : Int) (n_5 : Int) (h_13 : Heap) =>
 J_4 e_5 n_5 h_13)
 (fun J_5 =>
 if (t10 == 4) = true then
 ∃ t54, hcell h_1 ⟨s, 0, none⟩ = some (.pointer t54) ∧
 ∃ t56, hcell h_1 ⟨b, 4, none⟩ = some (.int .u64 t56) ∧
 Cl F.sessions_Table_Open #[.pointer t54, .int .u64 t56] h_1 fun v_4 h_14 =>
 ∃ t57_0 t57_1, v_4 = .tuple #[.int .i64 t57_0, .int .i64 t57_1] ∧
 J_5 t57_1 t57_0 h_14
 else
 JoinP (fun (e_6 : Int) (n_6 : Int) (h_15 : Heap) =>
 J_5 e_6 n_6 h_15)
 (fun J_6 =>
 if (t10 == 5) = true then
 ∃ t66, hcell h_1 ⟨s, 2, none⟩ = some (.pointer t66) ∧
 ∃ t69_p t69_l t69_c, hcell h_1 ⟨b, 3, none⟩ = some (.slice t69_p t69_l t69_c) ∧
 ∃ t71, hcell h_1 ⟨b, 4, none⟩ = some (.int .u64 t71) ∧
 Cl F.law26_home #[] h_1 fun v_5 h_16 =>
 ∃ t67_0 t67_1 t67_2 t67_3 t67_4, v_5 = .agg #[.bool t67_0, .int .u64 t67_1, .int .u64 t67_2, .string t67_3, .string t67_4] ∧
 hcell h_16 ⟨b, 4, none⟩ = some (.int .u64 t71) ∧
 hcell h_16 ⟨b, 3, none⟩ = some (.slice t69_p t69_l t69_c) ∧
 hcell h_16 ⟨s, 2, none⟩ = some (.pointer t66) ∧
 Cl F.copies_Table_Add #[.pointer t66, .agg #[.bool t67_0, .int .u64 t67_1, .int .u64 t67_2, .string t67_3, .string t67_4], .slice t69_p t69_l t69_c, .int .u64 t71] h_16 fun v_6 h_17 =>
 ∃ t72_0 t72_1, v_6 = .tuple #[.int .i64 t72_0, .int .i64 t72_1] ∧
 J_6 t72_1 t72_0 h_17
 else
 J_6 0 0 h_1)))))))) : CallsH Tryz.prog F.law26_do #[.pointer (some ⟨s, 0, none⟩), .agg #[.int .i64 o_0, .int .i64 o_1, .int .i64 o_2, .slice o_3_p o_3_l o_3_c, .int .u64 o_4]] h R :=
 callsH_of_body (.seq .leaf (.seq .leaf (.seq .leaf (.seq (.seq .leaf (.join [(5, .one (.int .i64)), (6, .one (.int .i64))] (.block (.seq .leaf (.join [(5, .one (.int .i64)), (6, .one (.int .i64))] (.cond .leaf (.seq .leaf (.join [(5, .one (.int .i64)), (6, .one (.int .i64))] (.cond .leaf (.seq .leaf (.join [(5, .one (.int .i64)), (6, .one (.int .i64))] (.cond .leaf (.seq .leaf (.join [(5, .one (.int .i64)), (6, .one (.int .i64))] (.cond (.seq .leaf .leaf) (.seq .leaf (.join [(5, .one (.int .i64)), (6, .one (.int .i64))] (.cond (.plan (.op 0 (.op 1 (.op 2 (.op 3 (.op 4 (.op 5 (.op 6 (.op 7 (.op 8 (.op 9 (.op 10 (.op 11 .done))))))))))))) (.seq .leaf (.join [(5, .one (.int .i64)), (6, .one (.int .i64))] (.cond (.plan (.op 0 (.op 1 (.op 2 (.op 3 (.op 5 (.op 6 (.op 7 (.op 8 (.op 4 (.op 9 (.op 10 (.op 11 (.op 12 (.op 13 (.op 14 .done)))))))))))))))) .leaf))))))))))))))))))))) (.seq .leaf .leaf))))) Tryz.func52 rfl rfl (Eq.mp (by kernel_rfl) hv)
end Go.Proofs.YtgccegnmggjkjaaGreatDoor
set_option maxRecDepth 100000
namespace Go.Proofs.YtgccegnmggjkjaaGreatDoor
open Go.Den Go.Fields
namespace Stt
open Obx (It IV ienc ienc_len)
open Eid (Ev rightE ev5)
open Fld
variable {h h' : Heap} {R : Value → Heap → Prop} {s k : Nat} {X : Ft} {I : Ids} {σ : SS} {p : Option Addr}
abbrev e70:Ev:=⟨true,7,0,⟨#[]⟩,⟨#[]⟩⟩
abbrev e71:Ev:=⟨true,7,1,⟨#[]⟩,⟨#[]⟩⟩
theorem self_ok (hk: ∀h',Fr (fun _=>False) h h'→R (ev5 e70) h'):CallsH Tryz.prog F.law26_Self #[] h R:=
 law26_Self.walk (eid_Eid.new fun _ h1 _ hb f1=>eid_Eid.ld hb (hk h1 f1))
theorem home_ok (hk: ∀h',Fr (fun _=>False) h h'→R (ev5 e71) h'):CallsH Tryz.prog F.law26_home #[] h R:=
 law26_home.walk (eid_Eid.new fun _ h1 _ hb f1=>eid_Eid.ld hb (hk h1 f1))
theorem may70:mayE e70:=⟨by kernel_rfl,fun e=>by cases congrArg Ev.ipn e⟩
theorem whole_ok {n r:Nat} (B:Bk h s I n r) (hk:R (.bool true) h):CallsH Tryz.prog F.law26_whole #[pt s] h R:=by
 refine law26_whole.walk ?_
 repeat (first|exact hk|refine⟨_,cell_at B rfl, ?_⟩|rw[if_pos rfl])
theorem pure_ok (H:Pt h s X I σ) (G:Good σ k) (hk: ∀h',Fr (fun _=>False) h h'→R (.bool true) h'):CallsH Tryz.prog F.law26_pure #[pt s] h R:=by
 obtain⟨Z,hz⟩:=H.box
 obtain⟨L,okb⟩:=H.okB
 refine law26_pure.walk ⟨_,cell_at H.blk rfl,Obx.all_ok hz fun h1 p1 l1 c1 L1 f1=>⟨_,_,_,rfl, ?_⟩⟩
 obtain⟨xs,D,rfl,ox,ax,_⟩:=L1
 have H1:=H.on f1
 have le:=okb.le
 have ln:xs.length=σ.B.items.length:=by rw[←ax,List.length_map]
 obtain⟨Z4,⟨m,P,on⟩,_⟩:=H1.use 4
 have okq:=G.ok
 have at_: ∀ {j:Nat},j<xs.length→ ∃x:IV,xs[j]? =some x∧σ.B.items[j]? =some x.abs:=fun {j} hj=>⟨xs[j],List.getElem?_eq_getElem hj,by rw[←ax,List.getElem?_map,List.getElem?_eq_getElem hj];rfl⟩
 have q:=G.q
 obtain⟨_,_,_,_,q1,q2⟩:=okq
 refine⟨fun all i g=>g=h1∧ ∃j:Nat,i=(j:Int)∧j≤xs.length∧all=tot (σ.B.items.take j),fun _ i _=>xs.length - i.toNat,⟨rfl,0,rfl,Nat.zero_le _,rfl⟩, ?_⟩
 rintro _ _ g ⟨rfl,i,rfl,hi,rfl⟩
 by_cases hlt:i<xs.length
 ·rw[if_pos (decide_eq_true (by omega))]
  obtain⟨x,hx,hxi⟩:=at_ hlt
  obtain⟨pb,po,rfl⟩:=ox.addr (by omega)
  have hh:=ox.heldAt ienc_len hx
  have ci1:hcell g (((⟨pb,po,none⟩:Addr).add (Int.toNat (i:Int)*4)).add 1)=some (.int .i64 x.owner):=by rw[Int.toNat_natCast];exact hh.2.1
  have ci2:hcell g (((⟨pb,po,none⟩:Addr).add (Int.toNat (i:Int)*4)).add 2)=some x.v.val:=by rw[Int.toNat_natCast];exact hh.2.2.1
  refine⟨fun n i g'=>g'=g∧ ∃j:Nat,i=(j:Int)∧j≤xs.length∧n=own (σ.B.items.take j) x.owner,fun _ i _=>xs.length - i.toNat,⟨rfl,0,rfl,Nat.zero_le _,rfl⟩, ?_⟩
  rintro _ _ g' ⟨rfl,j,rfl,hj,rfl⟩
  by_cases hlt2:j<xs.length
  ·rw[if_pos (decide_eq_true (by omega))]
   obtain⟨y,hy,hyi⟩:=at_ hlt2
   have hh2:=ox.heldAt ienc_len hy
   have cj1:hcell g' (((⟨pb,po,none⟩:Addr).add (Int.toNat (j:Int)*4)).add 1)=some (.int .i64 y.owner):=by rw[Int.toNat_natCast];exact hh2.2.1
   have cj2:hcell g' (((⟨pb,po,none⟩:Addr).add (Int.toNat (j:Int)*4)).add 2)=some y.v.val:=by rw[Int.toNat_natCast];exact hh2.2.2.1
   have t1:=take_own hyi x.owner
   have t2:=(take_le σ.B.items (j+1)).2 x.owner
   have t3:=own_nn (l:=σ.B.items.take j) (o:=x.owner)
   have t4:=(q2 x.owner).2
   have t5:(y.abs.d.length:Int)=(y.v.b.length:Int):=rfl
   have t6:y.abs.owner=y.owner:=rfl
   rw[q] at t4
   refine JoinP.of fun J hJ=>⟨⟨by omega,by omega⟩,onSome_some.2 ⟨_,cj1,⟨by omega,by omega⟩,onSome_some.2 ⟨_,ci1,JoinP.of fun J1 hJ1=> ?_⟩⟩⟩
   have fin: ∀n,n=own (σ.B.items.take (j+1)) x.owner→J1 n g':=fun n hn=>by
    subst hJ1;subst hJ
    dsimp only
    rw[wrap_id (by omega) (by omega)]
    exact⟨⟨rfl,j+1,by omega,by omega,hn⟩,by show xs.length - Int.toNat ((j:Int)+1)<xs.length - Int.toNat (j:Int);omega⟩
   by_cases e:y.owner=x.owner
   ·rw[if_pos (by simpa using e)]
    refine⟨⟨by omega,by omega⟩,onSome_some.2 ⟨_,_,_,cj2, ?_⟩⟩
    rw[t6,if_pos e] at t1
    rw[wrap_id (by omega) (by omega)]
    exact fin _ (by omega)
   ·rw[if_neg (by simpa using e)]
    rw[t6,if_neg e] at t1
    exact fin _ (by omega)
  ·rw[if_neg (fun e=>hlt2 (by have:=of_decide_eq_true e;omega))]
   have ej:σ.B.items.take j=σ.B.items:=List.take_of_length_le (by omega)
   rw[ej]
   refine⟨_,cell_at H1.blk rfl,⟨by omega,by omega⟩,onSome_some.2 ⟨_,ci1,Quota.used_ok P _ ⟨_,rfl, ?_⟩⟩⟩
   rw[q,if_neg (by simp)]
   have t1:=take_tot hxi
   have t2:=(take_le σ.B.items (i+1)).1
   have t3:=tot_nn (l:=σ.B.items.take i)
   have t5:(x.abs.d.length:Int)=(x.v.b.length:Int):=rfl
   rw[q] at q1
   refine⟨⟨by omega,by omega⟩,onSome_some.2 ⟨_,_,_,ci2, ?_⟩⟩
   rw[wrap_id (by omega) (by omega),wrap_id (by omega) (by omega)]
   exact⟨⟨rfl,i+1,by omega,by omega,by omega⟩,by show xs.length - Int.toNat ((i:Int)+1)<xs.length - Int.toNat (i:Int);omega⟩
 ·rw[if_neg (fun e=>hlt (by have:=of_decide_eq_true e;omega))]
  refine⟨_,cell_at H1.blk rfl,Quota.all_ok P ⟨_,rfl, ?_⟩⟩
  rw[q,List.take_of_length_le (show σ.B.items.length≤i by omega)]
  rw[show(tot σ.B.items==tot σ.B.items)=true by simp]
  exact hk g f1
structure OP where
 kind:Int
 num:Int
 owner:Int
 p:Option Addr
 c:Nat
 b:List UInt8
 til:Nat
abbrev oenc (f:OP):List Value:= [.int .i64 f.kind, .int .i64 f.num, .int .i64 f.owner, .slice f.p f.b.length f.c, .int .u64 (f.til:Int)]
theorem oenc_len (f:OP):(oenc f).length=5:=rfl
theorem op_tl:tleaves Tryz.prog 5 T.law26_Op=some [T.int,T.int,T.int,T.s_uint8,T.uint64]:=by kernel_rfl
theorem op_dec (n:Nat) (cs:List Value) (hl:cs.length=5) (hr:Rok Tryz.prog h n T.law26_Op cs): ∃f:OP,cs=oenc f∧Row h f.p (bc f.b)∧f.til<18446744073709551616:=by
 have L:=tleaves_ok 5 n _ _ cs op_tl (by rw[hl];rfl) hr
 match cs,hl with
 | [a,b,c,d,e],_=>
  obtain⟨k0,rfl,_⟩:=L.int 0 rfl rfl (k:= .i64) (by kernel_rfl)
  obtain⟨k1,rfl,_⟩:=L.int 1 rfl rfl (k:= .i64) (by kernel_rfl)
  obtain⟨k2,rfl,_⟩:=L.int 2 rfl rfl (k:= .i64) (by kernel_rfl)
  obtain⟨m,hm⟩:=L.get 3 rfl rfl
  obtain⟨p,q,bs,rfl,hrow⟩:=Rok.bytes (by kernel_rfl) u8 uU hm
  obtain⟨x,rfl,w1⟩:=L.int 4 rfl rfl (k:= .u64) (by kernel_rfl)
  have w1:=wf_u64 w1
  obtain⟨x,rfl⟩:=Int.eq_ofNat_of_zero_le w1.1
  exact⟨⟨k0,k1,k2,p,q,bs,x⟩,rfl,hrow,by show x<_;omega⟩
theorem ops_read {l c:Nat} (hv:RokV Tryz.prog h T.s_law26_Op (.slice p l c)): ∃fs:List OP,fs.length=l∧Row h p (fs.flatMap oenc)∧ ∀f∈fs,Row h f.p (bc f.b)∧f.til<18446744073709551616:=by
 obtain⟨xs,h1,_,_,h2,h3⟩:=RokV.slice (e:=T.law26_Op) oenc 5 (fun f=>Row h f.p (bc f.b)∧f.til<18446744073709551616) (by kernel_rfl) (fun _=>rfl) (fun n cs hl hr=>op_dec n cs hl hr) (by kernel_rfl) hv
 exact⟨xs,h1,h2,h3⟩
def doS (f:OP) (σ:SS):SS:=
 if f.kind=0 then passA σ f.til else if f.kind=1 then putS σ f.owner f.b f.til else if f.kind=2 then cancA σ f.num f.owner else if f.kind=3 then takeA σ
 else if f.kind=4 then { σ with A:=Ses.openA σ.A f.til } else if f.kind=5 then { σ with C:=Cps.addF σ.C e71 f.b f.til } else σ
def doE (f:OP) (σ:SS):Int×Int:=
 if f.kind=0 then(passE σ f.til,0) else if f.kind=1 then(putE σ f.owner f.b f.til,putN σ f.owner f.b f.til) else if f.kind=2 then(Obx.cancE σ.B f.num f.owner,0)
 else if f.kind=3 then(match σ.B.items with| []=>(4,0)|x::_=>(0,(x.num:Int))) else if f.kind=4 then(Ses.openE σ.A f.til,Ses.openN σ.A f.til)
 else if f.kind=5 then(Cps.addE σ.C e71 f.b f.til,Cps.addN σ.C e71 f.b f.til) else(0,0)
def doR (f:OP) (σ:SS):Int:=IntKind.wrap .i64 (IntKind.wrap .i64 (100*(doE f σ).2)+(doE f σ).1)
theorem Good.do (G:Good σ k) (H:Pt h s X I σ) (hk:k≤30000) (f:OP):Good (doS f σ) (k+1):=by
 obtain⟨L,okb⟩:=H.okB
 have O:=H.ord
 unfold doS
 split
 ·exact G.pass O L okb hk _
 split
 ·exact G.put _ _ _
 split
 ·exact G.canc _ _
 split
 ·exact G.take
 split
 ·exact G.openA _
 split
 ·exact G.addC O hk _ (by decide) _ _
 ·exact G.more
theorem do_ok (H:Pt h s X I σ) (G:Good σ k) (hk8:k≤30000) (f:OP) (rowf:Row h f.p (bc f.b)) (hb:f.b.length≤1000000) (hpm:f.b≠ []→ ∀a,f.p=some a→ ¬X.M a.block)
  (hk: ∀h' X',Pt h' s X' I (doS f σ)→StepF X h X' h'→R (.int .i64 (doR f σ)) h'):CallsH Tryz.prog F.law26_do #[pt s, .agg (oenc f).toArray] h R:=by
 refine law26_do.walk (law26_Op.box fun b h1 eb hb1 f1=>⟨_,cell_at hb1 rfl,JoinP.of fun J hJ=> ?_⟩)
 have H1:=H.on f1
 have row1:=rowf.frame f1 (fun _ _=>id)
 have fin: ∀g X',Pt g s X' I (doS f σ)→StepF X h1 X' g→J (doE f σ).1 (doE f σ).2 g:=by
  intro g X' H' st
  subst hJ
  exact hk g X' H' (StepF.no f1 st)
 clear hJ hk
 refine JoinP.of fun J1 hJ1=> ?_
 subst hJ1
 by_cases k0:f.kind=0
 ·have eS:doS f σ=passA σ f.til:=if_pos k0
  have eE:doE f σ=(passE σ f.til,0):=if_pos k0
  rw[eS,eE] at fin
  rw[if_pos (by simpa using k0)]
  exact⟨_,cell_at hb1 rfl,pass_ok f.til rfl H1 G hk8 fun g X' H' st=>⟨_,rfl,fin g X' H' st⟩⟩
 rw[if_neg (by simpa using k0)]
 refine JoinP.of fun J2 hJ2=> ?_
 subst hJ2
 by_cases k1:f.kind=1
 ·have eS:doS f σ=putS σ f.owner f.b f.til:=(if_neg k0).trans (if_pos k1)
  have eE:doE f σ=(putE σ f.owner f.b f.til,putN σ f.owner f.b f.til):=(if_neg k0).trans (if_pos k1)
  rw[eS,eE] at fin
  rw[if_pos (by simpa using k1)]
  exact⟨_,cell_at hb1 rfl,_,_,_,cell_at hb1 rfl,_,cell_at hb1 rfl,put_ok f.til rfl H1 G hk8 row1 rfl hb fun g X' H' st=>⟨_,_,rfl,fin g X' H' st⟩⟩
 rw[if_neg (by simpa using k1)]
 refine JoinP.of fun J3 hJ3=> ?_
 subst hJ3
 by_cases k2:f.kind=2
 ·have eS:doS f σ=cancA σ f.num f.owner:=(if_neg k0).trans ((if_neg k1).trans (if_pos k2))
  have eE:doE f σ=(Obx.cancE σ.B f.num f.owner,0):=(if_neg k0).trans ((if_neg k1).trans (if_pos k2))
  rw[eS,eE] at fin
  rw[if_pos (by simpa using k2)]
  exact⟨_,cell_at hb1 rfl,_,cell_at hb1 rfl,cancel_ok H1 G hk8 fun g X' H' st=>⟨_,rfl,fin g X' H' st⟩⟩
 rw[if_neg (by simpa using k2)]
 refine JoinP.of fun J4 hJ4=> ?_
 subst hJ4
 by_cases k3:f.kind=3
 ·have eS:doS f σ=takeA σ:=(if_neg k0).trans ((if_neg k1).trans ((if_neg k2).trans (if_pos k3)))
  have eE:doE f σ=(match σ.B.items with| []=>((4,0):Int×Int)|x::_=>(0,(x.num:Int))):=(if_neg k0).trans ((if_neg k1).trans ((if_neg k2).trans (if_pos k3)))
  rw[eS,eE] at fin
  rw[if_pos (by simpa using k3)]
  refine take_ok H1 G hk8 (fun hit g fg=>⟨_,_,_,_,_,_,_,rfl,outbox_Item.new fun b2 g2 eb2 hb2 f2=>⟨_,cell_at hb2 rfl, ?_⟩⟩) (fun x r hit g X' v hva H' st hd=>⟨_,_,_,_,_,_,_,rfl,outbox_Item.new fun b2 g2 eb2 hb2 f2=>⟨_,cell_at hb2 rfl, ?_⟩⟩)
  ·have et:takeA σ=σ:=by unfold takeA;rw[hit]
   rw[hit,et] at fin
   exact fin g2 X (H1.on (fg.tt f2)) (StepF.of_no (fg.tt f2))
  ·rw[hit] at fin
   have ev:(x.num:Int)=(v.num:Int):=by rw[←hva];rfl
   dsimp only at fin
   rw[ev] at fin
   exact fin g2 X' (H'.on f2) (st.on f2)
 rw[if_neg (by simpa using k3)]
 refine JoinP.of fun J5 hJ5=> ?_
 subst hJ5
 by_cases k4:f.kind=4
 ·have eS:doS f σ= { σ with A:=Ses.openA σ.A f.til } :=(if_neg k0).trans ((if_neg k1).trans ((if_neg k2).trans ((if_neg k3).trans (if_pos k4))))
  have eE:doE f σ=(Ses.openE σ.A f.til,Ses.openN σ.A f.til):=(if_neg k0).trans ((if_neg k1).trans ((if_neg k2).trans ((if_neg k3).trans (if_pos k4))))
  rw[eS,eE] at fin
  rw[if_pos (by simpa using k4)]
  obtain⟨Z,hz,zm,zd,go⟩:=H1.use 0
  refine⟨_,cell_at H1.blk rfl,_,cell_at hb1 rfl,Ses.open_ok f.til rfl hz G.a fun g Z' A' st=>⟨_,_,rfl, ?_⟩⟩
  obtain⟨X',H',st',_⟩:=go g Z' { σ with A:=Ses.openA σ.A f.til } A' st (fun i hi=>part_A _ hi)
  exact fin g X' H' st'
 rw[if_neg (by simpa using k4)]
 refine JoinP.of fun J6 hJ6=> ?_
 subst hJ6
 by_cases k5:f.kind=5
 ·have eS:doS f σ= { σ with C:=Cps.addF σ.C e71 f.b f.til } :=(if_neg k0).trans ((if_neg k1).trans ((if_neg k2).trans ((if_neg k3).trans ((if_neg k4).trans (if_pos k5)))))
  have eE:doE f σ=(Cps.addE σ.C e71 f.b f.til,Cps.addN σ.C e71 f.b f.til):=(if_neg k0).trans ((if_neg k1).trans ((if_neg k2).trans ((if_neg k3).trans ((if_neg k4).trans (if_pos k5)))))
  rw[eS,eE] at fin
  rw[if_pos (by simpa using k5)]
  refine⟨_,cell_at H1.blk rfl,_,_,_,cell_at hb1 rfl,_,cell_at hb1 rfl,home_ok fun h2 f2=>⟨_,_,_,_,_,rfl, ?_⟩⟩
  have H2:=H1.on f2
  have hb2:=f2.get hb1 id
  obtain⟨Z,hz,zm,zd,go⟩:=H2.use 2
  have hc:=G.c.ok.cnt
  refine⟨cell_at hb2 rfl,cell_at hb2 rfl,cell_at H2.blk rfl,Cps.add_ok hz (G.small H.ord (by omega)) (fun z hz=>(G.c.ok.bd z hz).2.1) (by show 1≤σ.C.next;omega) e71 f.til rfl (row1.frame f2 (fun _ _=>id)) rfl (fun hne a ea hm=>hpm hne a ea (zm _ hm)) fun g Z' C' st=>⟨_,_,rfl, ?_⟩⟩
  obtain⟨X',H',st',_⟩:=go g Z' { σ with C:=Cps.addF σ.C e71 f.b f.til } C' st (fun i hi=>part_C _ hi)
  exact fin g X' H' (StepF.no f2 st')
 rw[if_neg (by simpa using k5)]
 have eS:doS f σ=σ:=(if_neg k0).trans ((if_neg k1).trans ((if_neg k2).trans ((if_neg k3).trans ((if_neg k4).trans (if_neg k5)))))
 have eE:doE f σ=(0,0):=(if_neg k0).trans ((if_neg k1).trans ((if_neg k2).trans ((if_neg k3).trans ((if_neg k4).trans (if_neg k5)))))
 rw[eS,eE] at fin
 exact fin h1 X H1 (StepF.refl _ _)
abbrev a1:SS:=putS (newS e70) 3 [97,98,99] 50
abbrev a2:SS:=passA a1 9
theorem alive_ok (tb:Num.Tab h) (hk: ∀h',Fr (fun _=>False) h h'→R (.bool true) h'):CallsH Tryz.prog F.law26_alive #[] h R:=by
 refine law26_alive.walk (self_ok fun h1 f1=>⟨_,_,_,_,_,rfl,new_ok e70 (fun _ h2 s X I H2 u2=>⟨_,_,rfl,new_ok Ev.zero (fun m=>absurd rfl m.2) fun _ h3 f3=>⟨_,_,rfl,JoinP.of fun J hJ=> ?_⟩⟩) (fun n=>absurd may70 n)⟩)
 have H3:=H2.on f3
 have u3:=u2.on f3
 rw[if_neg (by decide),if_neg (by simp)]
 refine onSome_some.2 ⟨_,cell_at H3.blk rfl, ?_⟩
 rw[if_neg (by simp)]
 refine onSome_some.2 ⟨_,cell_at H3.blk rfl, ?_⟩
 subst hJ
 dsimp only
 rw[if_neg (by simp)]
 refine lit_ok (bs:= [97,98,99]) rfl fun h4 r4 f4=> ?_
 have G0:Good (newS e70) 0:=Good.new may70.1 may70.2 (by decide)
 refine put_ok 50 rfl (H3.on f4) G0 (by decide) r4 rfl (by decide) fun h5 X5 H5 s5=>⟨_,_,rfl,onSome_some.2 ⟨_,cell_at H5.blk rfl, ?_⟩⟩
 have u5:=(u3.on f4).step s5
 obtain⟨Z4,⟨m4,P4,_⟩,_⟩:=H5.use 4
 refine Quota.used_ok P4 3 ⟨_,rfl, ?_⟩
 have G1:Good a1 1:=G0.put _ _ _
 refine pass_ok 9 rfl H5 G1 (by decide) fun h6 X6 H6 s6=>⟨_,rfl, ?_⟩
 obtain⟨L5,okb5⟩:=H5.okB
 have G2:Good a2 2:=G1.pass H5.ord L5 okb5 (by decide) _
 refine pass_ok 8 rfl H6 G2 (by decide) fun h7 X7 H7 s7=>⟨_,rfl, ?_⟩
 have e8:passA a2 8=a2:=if_neg (fun e=>absurd (show passE a2 8=18 by kernel_rfl) (by rw[e];decide))
 rw[e8] at H7
 have it:a2.B.items= [⟨1,3, [97,98,99],50⟩]:=by kernel_rfl
 refine take_ok H7 G2 (by decide) (fun e=>by rw[it] at e;cases e) fun x r hit h8 X8 v hva H8 s8 hd=>⟨_,_,_,_,_,_,_,rfl,outbox_Item.new fun b h9 eb hb f9=> ?_⟩
 rw[it] at hit
 obtain⟨rfl,rfl⟩:=List.cons.inj hit
 rw[if_pos (by kernel_rfl),if_pos (by kernel_rfl),if_pos (by kernel_rfl),if_pos (by kernel_rfl),if_pos (by kernel_rfl),if_pos (by kernel_rfl)]
 have vb:v.v.b= [97,98,99]:=by rw[show v.v.b=v.abs.d from rfl,hva]
 have hd9:=hd.frame f9 (fun _ _=>id)
 refine⟨_,_,_,cell_at hb rfl,_,conv hd9.row rfl, ?_⟩
 rw[str_list,vb,if_pos (by rw[toList_data];decide),if_pos (by decide)]
 have H9:=H8.on f9
 have et:takeA a2= { a2 with B:= { a2.B with items:= [],taken:=a2.B.taken+1 },Q:= [] } :=by unfold takeA;rw[it]
 rw[et] at H9
 obtain⟨Z5,⟨m5,P5,_⟩,_⟩:=H9.use 4
 refine onSome_some.2 ⟨_,cell_at H9.blk rfl,Quota.all_ok P5 ⟨_,rfl, ?_⟩⟩
 rw[if_pos (by kernel_rfl)]
 refine onSome_some.2 ⟨_,cell_at H9.blk rfl, ?_⟩
 rw[if_pos (by kernel_rfl)]
 have u9:=((((u5.step s6).step s7).step s8).on f9).fr
 have F9:=f1.tt u9
 have G3:Good (takeA a2) 3:=G2.take
 rw[et] at G3
 refine save_ok H9 G3 (by decide) (tb.on F9) fun h10 p10 l10 c10 L10 f10=>⟨_,_,_,rfl, ?_⟩
 have ln:=L10.len
 have l3:l10=3:=by rw[ln];kernel_rfl
 rw[l3]
 exact hk h10 (F9.tt f10)
end Stt
end Go.Proofs.YtgccegnmggjkjaaGreatDoor
set_option maxRecDepth 100000
set_option maxHeartbeats 4000000
namespace Go.Proofs.YtgccegnmggjkjaaGreatDoor
open Go.Den
variable {h : Heap} {R : Value → Heap → Prop}
end Go.Proofs.YtgccegnmggjkjaaGreatDoor
set_option maxRecDepth 100000
namespace Go.Proofs.YtgccegnmggjkjaaGreatDoor
open Go.Den Go.Heapq
namespace Cps
open Eid Alarm Fld
variable {h h' : Heap} {R : Value → Heap → Prop} {t : Nat} {X X' : Ft} {s s' : CF} {p : Option Addr} {n c : Nat}
abbrev hm:Ev:=⟨true,7,1,⟨#[]⟩,⟨#[]⟩⟩
def a1:CF:=⟨[⟨1,hm, [97],50,0,0⟩],2,0,0,0, [(1,50)], []⟩
def a2:CF:=⟨[⟨1,hm, [97],50,0,0⟩,⟨2,hm, [98],9,0,0⟩],3,0,0,0, [(2,9),(1,50)], []⟩
def a3:CF:=⟨[⟨1,hm, [97],50,3,20⟩,⟨2,hm, [98],9,0,0⟩],3,0,0,0, [(2,9),(1,50)], [(1,20)]⟩
end Cps
end Go.Proofs.YtgccegnmggjkjaaGreatDoor
set_option maxRecDepth 100000
namespace Go.Proofs.YtgccegnmggjkjaaGreatDoor
open Go.Den Go.Heapq
namespace Cps
open Eid Alarm Fld
variable {h h' : Heap} {R : Value → Heap → Prop} {t : Nat} {X X' : Ft} {s s' : CF} {p : Option Addr} {n c : Nat}
theorem Rok.str {m:Nat} {v:Value} (hr:Rok Tryz.prog h m T.string [v]): ∃s,v= .string s:=by
 cases m with
 |zero=>exact hr.elim
 |succ m=>
  unfold Rok at hr
  rw[uS] at hr
  obtain⟨s,e,_⟩:=hr
  exact⟨s,by simpa using e⟩
end Cps
end Go.Proofs.YtgccegnmggjkjaaGreatDoor
set_option maxRecDepth 100000
set_option maxHeartbeats 4000000
namespace Go.Proofs.YtgccegnmggjkjaaGreatDoor
open Go.Den
variable {h : Heap} {R : Value → Heap → Prop}
end Go.Proofs.YtgccegnmggjkjaaGreatDoor
set_option maxRecDepth 100000
namespace Go.Proofs.YtgccegnmggjkjaaGreatDoor
open Go.Den Go.Fields Go.Heapq
namespace Cps
open Eid Alarm Fld
variable {h h' : Heap} {R : Value → Heap → Prop} {t : Nat} {X X' : Ft} {s s' : CF} {k : Nat}
abbrev e71:Ev:=⟨true,7,1,⟨#[]⟩,⟨#[]⟩⟩
end Cps
end Go.Proofs.YtgccegnmggjkjaaGreatDoor
set_option maxRecDepth 100000
namespace Go.Proofs.YtgccegnmggjkjaaGreatDoor
open Go.Den Go.Fields Go.Heapq
namespace Cps
open Eid Alarm Fld
variable {h h' h0 : Heap} {R : Value → Heap → Prop} {t : Nat} {X : Ft} {s s1 : CF} {p q : Option Addr} {n m c d l k j : Nat} {xs ys : List BV} {D : Nat → Prop}
structure RowsD (h:Heap) (p:Option Addr) (l c:Nat) (xs:List BV) (D:Nat→Prop):Prop where
 rows:Fld.Rows h p l c xs
 inp: ∀y,inBlk p y→D y
 ind: ∀x∈xs,x.b≠ []→ ∀y,inBlk x.p y→D y
theorem RowsD.frame {Q : Nat → Prop} (H : RowsD h p l c xs D) (f : Fr Q h h') (hq : ∀ y, D y → ¬ Q y) : RowsD h' p l c xs D :=
  ⟨⟨H.rows.len, H.rows.row.frame f (fun a e => hq _ (H.inp _ ⟨a, e, rfl⟩)), H.rows.cap, fun x hx => by
    by_cases hb : x.b = []
    · rw [hb]; exact Row.nil
    · exact (H.rows.each x hx).frame f (fun a e => hq _ (H.ind x hx hb _ ⟨a, e, rfl⟩))⟩, H.inp, H.ind⟩
theorem BL.to_rowsD {bs:List (List UInt8)} (H:Fld.BL h0 h p l c bs): ∃xs D,RowsD h p l c xs D∧xs.map BV.b=bs∧ ∀y,D y→h0.size≤y∧y<h.size:=by
 have lt: ∀ {y},inBlk p y→y<h.size:=fun hy=>H.lt hy
 obtain⟨xs,D,e1,o,e2,ok,hD,hp⟩:=H
 refine⟨xs,fun y=>D y∨inBlk p y,⟨⟨e1,o.row',o.le,fun x hx=>(ok x hx).row⟩,fun y hy=> .inr hy,fun x hx hb y hy=> .inl ((ok x hx).own hb y hy)⟩,e2,fun y hy=> ?_⟩
 rcases hy with hy|hy
 ·exact⟨(hD y hy).1,(hD y hy).2.1⟩
 ·exact⟨hp y hy,lt hy⟩
theorem fl (xs:List BV):(xs.flatMap nenc).length=xs.length:=by induction xs with|nil=>rfl|cons _ _ ih=>simp[ih]
theorem app_rows {K:Value→Heap→Prop} (H:Fld.Rows h p l c xs) (hl:l≤1000) (hk: ∀h' p' l' c' xs',Fld.Rows h' p' l' c' xs'→xs'.map BV.b=xs.map BV.b++ [[1]]→Fr (fun _=>False) h h'→K (.slice p' l' c') h'):
  NewP h (.cells #[] T.s_uint8) fun b h1=>denSem Tryz.prog (Builtin.append_ #[T.s_s_uint8,T.s_s_uint8] T.s_s_uint8 #[.slice (some ⟨b,0,none⟩) 0 0, .slice p l c]) h1 fun v h2=> ∃(p':Option Addr) (l' c':Nat),v= .slice p' l' c'∧
   NewP h2 (.cells #[.int .u8 1] T.uint8) fun b1 h3=>NewP h3 (.cells #[.slice (some ⟨b1,0,none⟩) 1 1] T.s_uint8) fun b2 h4=>denSem Tryz.prog (Builtin.append_ #[T.s_s_uint8,T.s_s_uint8] T.s_s_uint8 #[.slice p' l' c', .slice (some ⟨b2,0,none⟩) 1 1]) h4 K:=by
 refine newP_of ?_
 have f0:Fr (fun _=>False) h (h.push (.cells #[] T.s_uint8)):=Fr.push _ _
 have o0:Own (h.push (.cells #[] T.s_uint8)) (some ⟨h.size,0,none⟩) 0 0 1 []:= .row h.size 0 #[] T.s_uint8 rfl push_new (by omega) (by simp) (by simp) (fun j v hj=>by simp at hj)
 have hlen:=H.len
 refine den_append Fld.tN Fld.uN o0 (H.row.frame f0 (fun _ _=>id)) (by rw[fl];omega) (nenc_one xs) (by omega) (by omega) fun p1 c1 h1 o1 _ f1 g1=>⟨_,_,_,rfl,newP_of ?_⟩
 have F1:=f0.fresh f1 (fun y ⟨a,e,e'⟩=>by cases e;rw[←e'];exact Nat.le_refl _)
 have f2:Fr (fun _=>False) h1 (h1.push (.cells #[.int .u8 1] T.uint8)):=Fr.push _ _
 have r2:Row (h1.push (.cells #[.int .u8 1] T.uint8)) (some ⟨h1.size,0,none⟩) (bc [1]):=row_new (cs:= [.int .u8 1])
 have b1: ∀y,inBlk p1 y→h.size≤y∧y<h1.size:=fun y hy=>⟨by
  rcases g1 y hy with⟨a,e,e'⟩|h2
  ·cases e;rw[←e'];exact Nat.le_refl _
  ·have:=f0.1;omega,o1.blk_lt hy⟩
 rw[List.nil_append] at o1
 refine den_append1 Fld.tN Fld.uN (o1.frame f2 (fun _ _=>id)) rfl (fun v hv=>by simp at hv;rw[hv];rfl) (by omega) (by omega) fun p3 c3 h3 o3 f3 g3=> ?_
 have F3:=(F1.tt f2).fresh f3 (fun y hy=>(b1 y hy).1)
 refine hk h3 p3 (0+l+1) c3 (xs++ [⟨some ⟨h1.size,0,none⟩,1, [1]⟩]) ⟨by rw[List.length_append];simp;omega,by rw[List.flatMap_append];exact o3.row',o3.le,fun x hx=> ?_⟩ (by simp) F3
 rcases List.mem_append.1 hx with hx|hx
 ·exact(H.each x hx).frame F3 (fun _ _=>id)
 ·obtain rfl:=List.mem_singleton.1 hx
  exact r2.frame f3 (fun a ea hy=>by cases ea;have:=(b1 _ hy).2;simp at this)
end Cps
end Go.Proofs.YtgccegnmggjkjaaGreatDoor
set_option maxRecDepth 100000
namespace Go.Proofs.YtgccegnmggjkjaaGreatDoor
open Go.Den
theorem handed_shaped {H:Type} {enc:TypeId×Value→H} {C:Checked} {os:Os} {f:FuncId} {fn:Func} {s:ChangeSpec} {conds:List PathCond} {apart fresh handsOn again:Bool} {a:Assume} {X:World→Array Value→Prop}
  (hX: ∀(w w':World) (args:Array Value),w.heap=w'.heap→X w args→X w' args) (own:ownKnob C.prog.godebug=none) (started:os.Started) (noInit:C.prog.inits.idxOf? f=none) (hfn:C.prog.funcs[f]? =some fn)
  (witness: ∃(w:World) (tape:Tape) (i:Input),w.os=os∧(w.forCall tape i).Shaped C.prog∧i.vars= []∧Input.okWide C.prog (w.forCall tape i) .any w.heap.size f i∧
   ((s.pre enc C.prog fn conds apart (w.forCall tape i).memory i.args∧X (w.forCall tape i).memory i.args)∧sizedMet enc C.prog fn (OpenSpec.ofChange s) apart (w.forCall tape i).memory i.args)∧a.holds C.prog (lone (Frame.enter C.prog f i.args .normal) [] (w.forCall tape i)))
  (con: ∀(W:World) (base:Nat) (args:Array Value) (ds gs:List (DataW H)) (before:List MemPlace),W.ShapedOpen C.prog→(∀(j:Nat) t v,fn.params[j]? =some t→args[j]? =some v→Value.okWide C.prog W .any base t v)→
   DataW.Whole enc C.prog fn.params.toList s.vars apart W args.toList ds gs before→X W args→Calls C.prog f args W fun e W'=> ∃v,e= .returned v∧s.post enc C.prog fn apart fresh handsOn again W args v W'):
  ReturnsInHanded a C os f .any (fun w args=>(s.pre enc C.prog fn conds apart w args∧X w args)∧sizedMet enc C.prog fn (OpenSpec.ofChange s) apart w args) (s.post enc C.prog fn apart fresh handsOn again):=
 returnsInHanded_of_calls own started noInit witness fun w tape i _ sh _ ok pre _=>by
  obtain⟨_,_,_,g,hg,_,_,_,_,val⟩:=ok
  cases Option.some.inj (hg.symm.trans hfn)
  obtain⟨⟨⟨ds,gs,before,hw,_⟩,hx⟩,_⟩:=pre
  refine(con (w.forCall tape i) w.heap.size i.args ds gs before sh val (DataW.Whole.of_heap (w':=w.forCall tape i) (by rfl) hw) (hX _ _ _ (by rfl) hx)).mono fun e W' hp=> ?_
  obtain⟨v,rfl,hp⟩:=hp
  exact ChangeSpec.post_blind hp
theorem Num.Mx.of_shaped {W:World} (h:W.ShapedOpen Tryz.prog):Num.Mx W.heap:=by
 obtain⟨m,hm⟩:=cell_of_shapedOpen_int (g:=1) (t:=T.int) (zero:= #[.int .i64 0]) (k:= .i64) h (of_decide_eq_true (by kernel_rfl)) (by kernel_rfl) rfl (by kernel_rfl) (by kernel_rfl) (by kernel_rfl)
 rw[cell_eq] at hm
 exact⟨m,hm⟩
end Go.Proofs.YtgccegnmggjkjaaGreatDoor
set_option maxRecDepth 100000
namespace Go.Proofs.YtgccegnmggjkjaaGreatDoor
open Go.Den
namespace Num
theorem Tab.of_laid {W:World} {l:List (String×DataW Unit)} {s:String} (hs:Tryz.prog.globalNamed s=some 0) (h:laidMet Tryz.prog l W) (hm:(s,Lib.tabData .u64 Lib.pow10Tab)∈l):Tab W.heap:=by
 obtain⟨g,t,cs,fuel,p,hg,ht,hv,hd⟩:=Lib.laidMet.reads h hm
 have hg:Tryz.prog.globalNamed s=some g:=hg
 unfold World.var? at hv
 rw[hg] at hv
 have hv':(match W.heap[g]? with|some (.cells cs _ _)=>some cs|_=>none)=some cs:=hv
 cases hh:W.heap[g]? with
 |none=>rw[hh] at hv';cases hv'
 |some o=>
  rw[hh] at hv'
  cases o with
  |cells c ty fz=>
   obtain rfl:c=cs:=Option.some.inj hv'
   have eg:g=0:=Option.some.inj (hg.symm.trans hs)
   subst eg
   refine⟨ty,fz, ?_⟩
   have htt:t=T.a20_uint64:=by
    have e:(Tryz.prog.globals[(0:Nat)]?).map (·.type)=some T.a20_uint64:=by kernel_rfl
    exact Option.some.inj (ht.symm.trans e)
   subst htt
   have:=Lib.cells_of_tab (n:=20) (e:=T.uint64) (by kernel_rfl) (by kernel_rfl) (by kernel_rfl) (by kernel_rfl) hd
   rw[hh,←this]
  |_=>cases hv'
end Num
end Go.Proofs.YtgccegnmggjkjaaGreatDoor
