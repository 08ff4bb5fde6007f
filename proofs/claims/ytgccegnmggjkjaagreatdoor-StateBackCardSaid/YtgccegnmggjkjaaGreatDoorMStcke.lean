/-
  What is proved here: parts of the proof, one behind the other (texts of this work, merged by a program; what the theorem does not use is left out). No condition.
-/
import Derived.Test.YtgccegnmggjkjaaGreatDoorProg
import Derived.Shelf.Strings.Cut
import Derived.Shelf.Strconv.Itoa4
import Derived.Ground.NamesProg
import Derived.Shelf.Small.Wraps
import Derived.Shelf.Pu.ParseUintPublic10
import Derived.Ground.MpProg
import Derived.Test.YtgccegnmggjkjaaGreatDoorMStckd
set_option maxRecDepth 100000
namespace Go.Proofs.YtgccegnmggjkjaaGreatDoor
open Go.Den Go.Fields
namespace Ses
open Fld
variable {h h' h0 : Heap} {t : Nat} {X : Ft} {R : Value → Heap → Prop} {p q : Option Addr} {c d i : Nat} {lab : Lab} {D : Nat → Prop} {L : List SC} {A : List Ses}
theorem Tab.on (TB:Tab h t lab D L) (f:Fr (fun _=>False) h h'):Tab h' t lab D L:=by
 obtain⟨p,c,hb,own,hp⟩:=TB.blk
 refine⟨⟨p,c,f.get hb id,own.frame f (fun _ _=>id),hp⟩,TB.lt0,fun i s hs=>(TB.ses i s hs).frame f (fun _ _ _ _ _=>id) (fun _ _=>id), ?_, ?_,TB.ap⟩
 ·intro c r hr;exact Nat.lt_of_lt_of_le (TB.llt c r hr) f.1
 ·intro c hd;exact Nat.lt_of_lt_of_le (TB.dlt c hd) f.1
theorem abs_filter (xs:List AV) (id:Nat):(xs.filter (fun x=>decide (x.id≠id))).map AV.abs=(xs.map AV.abs).filter (fun a=>decide (a.1≠id)):=by
 rw[List.filter_map];rfl
theorem keep_okB {B:List Nat} {num:Int} {k:Int} (id:Nat) (hk0:k=(id:Int)) {b:List UInt8} {n m:Nat} (H:HasB h t X A B) (ok:okA A) (hr:Row h p (bc b)) (hn:n=b.length) (hp:b≠ []→ ∀x,inBlk p x→ ¬X.M x)
  (hk: ∀h' X',HasB h' t X' (keepA A num id b) B→StepF X h X' h'→R (.int .i64 (keepE A num id b)) h'):
  CallsH Tryz.prog F.sessions_Table_Keep #[.pointer (some ⟨t,0,none⟩), .int .i64 num, .int .u64 k, .slice p n m] h R:=by
 subst hk0 hn
 have H0:=H
 obtain⟨lab,L,TB,rfl,rfl,hS⟩:=H
 have hl:=ok.le
 rw[List.length_map] at hl
 refine sessions_Table_Keep.walk (newP_of ?_)
 have f1:Fr (fun _=>False) h (h.push (.cells #[.int .u64 (id:Int)] T.uint64)):=Fr.push _ _
 have id1:IdAt (h.push (.cells #[.int .u64 (id:Int)] T.uint64)) h.size id:=push_new
 have sz1:(h.push (.cells #[.int .u64 (id:Int)] T.uint64)).size=h.size+1:=Array.size_push _
 generalize h.push (.cells #[.int .u64 (id:Int)] T.uint64)=h1 at f1 id1 sz1⊢
 have TB1:=TB.on f1
 have st1:StepF X h X h1:=StepF.of_no f1
 unfold keepA keepE at hk
 refine find_ok TB1 (fun i s e hs=>⟨_,_,rfl, ?_⟩) (fun hn=>⟨_,_,rfl, ?_⟩) (by omega)
 ·rw[if_neg (by simp)]
  subst e
  rw[getA_at,abs_at hs] at hk
  dsimp only at hk
  refine JoinP.of fun J hJ=> ?_
  have jt:(id>1099511627776∨b.length>1000)→J true h1:=by
   intro hh
   subst hJ
   simp only[if_true]
   simp only[hh,if_true] at hk
   exact hk h1 X (H0.frame f1 (fun _ _ x=>x)) st1
  have jf: ¬(id>1099511627776∨b.length>1000)→J false h1:=by
   intro hh
   subst hJ
   simp only[Bool.false_eq_true,if_false]
   simp only[hh,if_false] at hk
   have SA:=TB1.ses i s hs
   have okS:=ok.at_ i _ (abs_at hs)
   have kl:s.kept.length≤6:=by have:=okS.kl;rwa[show s.abs.kept.length=s.kept.length from List.length_map _] at this
   have nbk: ∀c,inBlk s.kp c→c≠s.b:=fun c hc e=>by have h1:=SA.kl c hc;rw[e,SA.lb] at h1;simp at h1
   have nbn: ∀c,inBlk s.np c→c≠s.b:=fun c hc e=>by have h1:=SA.nl c hc;rw[e,SA.lb] at h1;simp at h1
   have nkn: ∀c,inBlk s.kp c→ ¬inBlk s.np c:=fun c hc h2=>by have h1:=SA.kl c hc;rw[SA.nl c h2] at h1;simp at h1
   have kS: ∀c,inBlk s.kp c→X.M c:=fun c hc=>(hS c).2 ⟨_,SA.kl c hc⟩
   have bS:X.M s.b:=(hS s.b).2 ⟨_,SA.lb⟩
   have idb: ¬inBlk s.kp h.size:=fun hx=>by have:=(H0.lt _ (.inl (kS _ hx)));omega
   have idb':h.size≠s.b:=fun e=>by have:=H0.lt _ (.inl bS);omega
   have kD: ∀c,X.D c→ ¬(c=s.b∨inBlk s.kp c):=fun c hc hx=>hx.elim (fun e=>TB.ap c _ (e▸SA.lb) hc) (fun hx=>TB.ap c _ (SA.kl c hx) hc)
   refine onSome_some.2 ⟨_,_,_,cell_at SA.blk rfl,del_ok SA.kown rfl (by omega) id1 idb fun h4 o4 f4 id4=>⟨_,_,_,rfl,onSome_some.2 ?_⟩⟩
   have hat4:=f4.get SA.blk (fun hx=>nbk _ hx rfl)
   refine storeP_blk hat4 (by simp) fun h5 k1 k2 k3=>onSome_some.2 ?_
   have f5:Fr (fun x=>x=s.b) h4 h5:=Fr.of_eq k2 k3
   have id5:IdAt h5 h.size id:=f5.get id4 idb'
   have F5:Fr (fun x=>x=s.b∨inBlk s.kp x) h1 h5:=(f4.mono (fun _ _ hx=> .inr hx)).tt (f5.mono (fun _ _ hx=> .inl hx))
   have row5:Row h5 p (bc b):=by
    by_cases hb:b= []
    ·rw[hb];exact .inl rfl
    ·refine(hr.frame f1 (fun _ _ x=>x)).frame F5 (fun a e hx=> ?_)
     have:=hp hb a.block ⟨a,e,rfl⟩
     exact hx.elim (fun e=>this (e▸bS)) (fun hx=>this (kS _ hx))
   refine⟨_,_,_,cell_at k1 rfl,_,cell_at id5 rfl,clone_ok row5 rfl (by omega) fun p6 c6 h6 o6 f6 g6=>⟨_,_,_,rfl,cell_at (f6.get id5 (fun x=>x)) rfl,cell_at (f6.get k1 (fun x=>x)) rfl, ?_⟩⟩
   refine newP_of ?_
   have f7:Fr (fun _=>False) h6 (h6.push (.cells #[.int .u64 (id:Int), .slice p6 b.length c6] T.sessions_Answer)):=Fr.push _ _
   have row7:Row (h6.push (.cells #[.int .u64 (id:Int), .slice p6 b.length c6] T.sessions_Answer)) (some ⟨h6.size,0,none⟩) (AV.enc ⟨id,⟨p6,c6,b⟩⟩):=row_new (cs:=AV.enc ⟨id,⟨p6,c6,b⟩⟩)
   have sz7:(h6.push (.cells #[.int .u64 (id:Int), .slice p6 b.length c6] T.sessions_Answer)).size=h6.size+1:=Array.size_push _
   generalize h6.push (.cells #[.int .u64 (id:Int), .slice p6 b.length c6] T.sessions_Answer)=h7 at f7 row7 sz7⊢
   have f67:=f6.tt f7
   have id7:IdAt h7 h.size id:=f67.get id5 (fun x=>x)
   have k17:=f67.get k1 (fun x=>x)
   refine⟨cell_at id7 rfl,cell_at k17 rfl, ?_⟩
   have o5:=o4.frame f5 (fun x hx e=>nbk x hx e)
   have o7:=o5.frame f67 (fun _ _ x=>x)
   have fl:=List.length_filter_le (fun x:AV=>decide (x.id≠id)) s.kept
   refine den_append tA uA o7 row7 rfl (fun v hv=>by simp at hv;rcases hv with rfl|rfl<;>rfl) (by omega) (by omega) ?_
   intro p8 c8 h8 o8 _ f8 g8
   have id8:IdAt h8 h.size id:=f8.get id7 idb
   have k18:=f8.get k17 (fun hx=>nbk _ hx rfl)
   refine⟨_,_,_,rfl,cell_at id8 rfl,onSome_some.2 ?_⟩
   refine storeP_blk k18 (by simp) fun h9 q1 q2 q3=>onSome_some.2 ⟨_,_,_,cell_at q1 rfl, ?_⟩
   have f9:Fr (fun x=>x=s.b) h8 h9:=Fr.of_eq q2 q3
   have z5:h1.size≤h5.size:=F5.1
   have z6:=f6.1
   have z8:=f8.1
   have sb1:s.b<h1.size:=lt_of_get SA.blk
   have kb1: ∀c,inBlk s.kp c→c<h1.size:=fun c hc=>SA.kown.blk_lt hc
   have np8: ∀c,inBlk p8 c→inBlk s.kp c∨h7.size≤c:=g8
   have n8b: ∀c,inBlk p8 c→c≠s.b:=fun c hc e=>(np8 c hc).elim (fun hx=>nbk c hx e) (fun hx=>by omega)
   have o9:=o8.frame f9 (fun x hx e=>n8b x hx e)
   have F9:Fr (fun x=>x=s.b∨inBlk s.kp x) h1 h9:=F5.tt ((f67.mono (fun _ _=>False.elim)).tt ((f8.mono (fun _ _ hx=> .inr hx)).tt (f9.mono (fun _ _ hx=> .inl hx))))
   have b6: ∀c,inBlk p6 c→h5.size≤c∧c<h6.size:=fun c hc=>⟨g6 c hc,o6.blk_lt hc⟩
   have o69:Own h9 p6 b.length c6 1 (bc b):=((o6.frame f7 (fun _ _ x=>x)).frame f8 (fun c hc hx=>by have:=b6 c hc;have:=kb1 c hx;omega)).frame f9 (fun c hc e=>by have:=b6 c hc;omega)
   have cat:(s.kept.filter (fun x:AV=>decide (x.id≠id))).flatMap AV.enc++AV.enc ⟨id,⟨p6,c6,b⟩⟩=(s.kept.filter (fun x:AV=>decide (x.id≠id))++ [(⟨id,⟨p6,c6,b⟩⟩:AV)]).flatMap AV.enc:=by rw[List.flatMap_append];simp
   rw[cat] at o9
   have kabs:(s.kept.filter (fun x:AV=>decide (x.id≠id))++ [(⟨id,⟨p6,c6,b⟩⟩:AV)]).map AV.abs=s.abs.kept.filter (fun a=>decide (a.1≠id))++ [(id,b)]:=by
    rw[List.map_append,abs_filter];rfl
   have klen:(s.kept.filter (fun x:AV=>decide (x.id≠id))++ [(⟨id,⟨p6,c6,b⟩⟩:AV)]).length=(s.kept.filter (fun x:AV=>decide (x.id≠id))).length+1:=by rw[List.length_append];rfl
   have kdat: ∀a∈s.kept.filter (fun x:AV=>decide (x.id≠id))++ [(⟨id,⟨p6,c6,b⟩⟩:AV)],a.v.ok h9 (fun c=>X.D c∨inBlk p6 c):=by
    intro a ha
    rcases List.mem_append.1 ha with ha|ha
    ·exact((SA.kd a (List.mem_filter.1 ha).1).frame F9 kD).mono (fun c=> .inl)
    ·simp at ha;subst ha;exact BV.of_own o69 (fun c=> .inr)
   generalize s.kept.filter (fun x:AV=>decide (x.id≠id))++ [(⟨id,⟨p6,c6,b⟩⟩:AV)]=K at*
   generalize (s.kept.filter (fun x:AV=>decide (x.id≠id))).length=fl0 at*
   refine JoinP.of fun J1 hJ1=> ?_
   have fin: ∀(h12:Heap) (K':List AV) (kp':Option Addr) (kc':Nat),(∃j,K'=K.drop j)→K'.map AV.abs=keepL s.abs.kept id b→At h12 { s with kept:=K',kp:=kp',kc:=kc' } →Own h12 kp' K'.length kc' 2 (K'.flatMap AV.enc)→
     (∀c,inBlk kp' c→inBlk s.kp c∨h7.size≤c)→Fr (fun x=>x=s.b) h9 h12→J1 h12:=by
    intro h12 K' kp' kc' ⟨j,hj⟩ hK hat hown hkp f12
    subst hJ1
    have F12:Fr (fun x=>x=s.b∨inBlk s.kp x) h1 h12:=F9.tt (f12.mono (fun _ _ hx=> .inl hx))
    obtain⟨X',HH,st⟩:=TB1.upd (s':= { s with kept:=K',kp:=kp',kc:=kc' }) (E:=inBlk p6) hS hs rfl F12 (fun c hx=>hx.elim (fun e=>⟨_,e▸SA.lb,by omega,by omega⟩) (fun hx=>⟨_,SA.kl c hx,by omega,by omega⟩)) hat hown
     (fun c hc=>(hkp c hc).imp (SA.kl c) (fun hx=>by omega)) (SA.nown.frame F12 (fun c hc hx=>hx.elim (nbn c hc) (fun hx=>nkn c hx hc))) (fun c hc=> .inl (SA.nl c hc))
     (fun c hc h2=>(hkp c hc).elim (fun hx=>nkn c hx h2) (fun hx=>by have:=SA.nown.blk_lt h2;omega))
     (fun c hc=>⟨by have:=(b6 c hc).1;omega,by have:=(b6 c hc).2;have:=f9.1;have:=f12.1;omega,fun hx=>(hkp c hx).elim (fun h2=>by have:=kb1 c h2;have:=b6 c hc;omega) (fun h2=>by have:=b6 c hc;omega),fun hx=>by have:=SA.nown.blk_lt hx;have:=b6 c hc;omega⟩)
     (fun a ha=>(kdat a (by rw[hj] at ha;exact List.mem_of_mem_drop ha)).frame f12 (fun c hc e=>hc.elim (fun hc=>kD c hc (.inl e)) (fun hc=>by have:=b6 c hc;omega)))
     (fun n hn=>((SA.nd n hn).frame F12 kD).mono (fun c=> .inl))
    refine hk h12 X' ?_ (st1.trans st)
    unfold setA
    rw[show((i:Int)+1 - 1).toNat=i by omega]
    have:({ s with kept:=K',kp:=kp',kc:=kc' } :SC).abs= { s.abs with kept:=keepL s.abs.kept id b } :=by
     unfold SC.abs
     dsimp only
     rw[hK];rfl
    rw[this] at HH
    exact HH
   clear hJ1
   unfold keepL at fin
   rw[←kabs,List.length_map,klen] at fin
   by_cases h6':((fl0+1:Nat):Int)>6
   ·simp only[h6',decide_true,if_true]
    rw[if_pos (by omega)] at fin
    refine onSome_some.2 ⟨_,_,_,cell_at q1 rfl,⟨by omega,by omega⟩, ?_⟩
    rw[←klen] at o9
    have osub:=o9.sub (l:=1) (u:=K.length) (by omega) (Nat.le_refl _)
    rw[←flat_len AV.enc 2 aenc_len K,List.take_length,flat_drop AV.enc 2 aenc_len] at osub
    refine cloneA_ok osub.row' (by rw[List.length_drop,←klen];rfl) (by rw[List.length_drop];omega) fun p11 c11 h11 o11 f11 g11=>⟨_,_,_,rfl,onSome_some.2 ?_⟩
    have q11:=f11.get q1 (fun x=>x)
    refine storeP_blk q11 (by simp) fun h12 r1 r2 r3=> ?_
    have f12:Fr (fun x=>x=s.b) h11 h12:=Fr.of_eq r2 r3
    have z9:=f9.1
    refine fin h12 (K.drop 1) p11 c11 ⟨1,rfl⟩ List.map_drop ?_ (o11.frame f12 (fun c hc e=>by have:=g11 c hc;omega)) (fun c hc=> .inr (by have:=g11 c hc;omega)) ((f11.mono (fun _ _=>False.elim)).tt f12)
    exact r1
   ·simp only[h6',decide_false,Bool.false_eq_true,if_false]
    rw[if_neg (by omega)] at fin
    refine fin h9 K p8 c8 ⟨0,rfl⟩ rfl ?_ (by rw[klen];exact o9) np8 (Fr.refl _ _)
    show h9[s.b]? =_
    rw[q1]
    dsimp only
    rw[klen];rfl
  clear hJ
  refine⟨_,cell_at id1 rfl, ?_⟩
  by_cases c1:(id:Int)>1099511627776
  ·simp only[c1,decide_true,if_true]
   exact jt (.inl (by omega))
  ·simp only[c1,decide_false,Bool.false_eq_true,if_false]
   by_cases c2:((b.length:Nat):Int)>1000
   ·simp only[c2,decide_true]
    exact jt (.inr (by omega))
   ·simp only[c2,decide_false]
    exact jf (by omega)
 ·rw[if_pos (by rfl)]
  rw[getA_none (by rw[List.length_map];exact hn)] at hk
  exact hk h1 X (H0.frame f1 (fun _ _ x=>x)) st1
theorem kept_find (xs:List AV) (id:Nat):keptL (xs.map AV.abs) id=(xs.find? (fun a=>decide (a.id=id))).map (fun a=>a.v.b):=by
 unfold keptL
 rw[List.find?_map,Option.map_map]
 rfl
theorem kept_ok {num:Int} {k:Int} (id:Nat) (hk0:k=(id:Int)) (H:Has h t X A) (ok:okA A)
  (k1: ∀b,keptA A num id=some b→ ∀h' p' c',Own h' p' b.length c' 1 (bc b)→Fr (fun _=>False) h h'→(∀x,inBlk p' x→h.size≤x)→R (.tuple #[.slice p' b.length c', .bool true]) h')
  (k2:keptA A num id=none→ ∀h',Fr (fun _=>False) h h'→R (.tuple #[.slice none 0 0, .bool false]) h'):
  CallsH Tryz.prog F.sessions_Table_Kept #[.pointer (some ⟨t,0,none⟩), .int .i64 num, .int .u64 k] h R:=by
 subst hk0
 obtain⟨_,lab,L,TB,rfl,_,hS⟩:=H
 have hl:=ok.le
 rw[List.length_map] at hl
 refine sessions_Table_Kept.walk (newP_of ?_)
 have f1:Fr (fun _=>False) h (h.push (.cells #[.int .u64 (id:Int)] T.uint64)):=Fr.push _ _
 have id1:IdAt (h.push (.cells #[.int .u64 (id:Int)] T.uint64)) h.size id:=push_new
 generalize h.push (.cells #[.int .u64 (id:Int)] T.uint64)=h1 at f1 id1⊢
 have TB1:=TB.on f1
 unfold keptA at k1 k2
 refine find_ok TB1 (fun i s e hs=>⟨_,_,rfl, ?_⟩) (fun hn=>⟨_,_,rfl, ?_⟩) (by omega)
 ·rw[if_neg (by simp)]
  subst e
  rw[getA_at,abs_at hs] at k1 k2
  dsimp only at k1 k2
  rw[show s.abs.kept=s.kept.map AV.abs from rfl,kept_find] at k1 k2
  have SA:=TB1.ses i s hs
  have okS:=ok.at_ i _ (abs_at hs)
  have kl:s.kept.length≤6:=by have:=okS.kl;rwa[show s.abs.kept.length=s.kept.length from List.length_map _] at this
  refine onSome_some.2 ⟨_,_,_,cell_at SA.blk rfl,idxKept_ok SA.kown.row' rfl (by omega) id1 fun h3 f3=>⟨_,rfl, ?_⟩⟩
  unfold idxA
  cases hf:s.kept.findIdx? (fun a=>decide (a.id=id)) with
  |none=>
   rw[if_pos (by rfl)]
   have:s.kept.find? (fun a=>decide (a.id=id))=none:=by
    rw[List.find?_eq_none]
    intro a ha
    have:=List.findIdx?_eq_none_iff.1 hf a ha
    simpa using this
   rw[this] at k2
   exact k2 rfl h3 (f1.tt f3)
  |some j=>
   dsimp only
   obtain⟨hjl,hje,hjb⟩:=List.findIdx?_eq_some_iff_getElem.1 hf
   rw[if_neg (by simp only[decide_eq_true_eq];omega)]
   have hsj:s.kept[j]? =some s.kept[j]:=List.getElem?_eq_getElem hjl
   have hfind:s.kept.find? (fun a=>decide (a.id=id))=some s.kept[j]:=by
    rw[List.find?_eq_some_iff_getElem]
    exact⟨hje,j,hjl,rfl,fun i hi=>by have:=hjb i hi;simpa using this⟩
   rw[hfind] at k1
   have hat3:=f3.get SA.blk (fun x=>x)
   have own3:=SA.kown.frame f3 (fun _ _ x=>x)
   have av:=SA.kd _ (List.mem_of_getElem? hsj)
   have lenb:s.kept[j].v.b.length≤1000:=(okS.kd (AV.abs s.kept[j]) (List.mem_map_of_mem (List.mem_of_getElem? hsj))).2
   generalize s.kept[j]=a at*
   obtain⟨ab,aoff,hkp⟩:=own3.addr (by omega)
   have own3':=own3
   rw[hkp] at own3'
   have hh:=own3'.heldAt aenc_len hsj
   refine onSome_some.2 ⟨_,_,_,cell_at hat3 rfl,⟨by omega,by omega⟩, ?_⟩
   rw[hkp]
   refine onSome_some.2 ⟨a.v.p,a.v.b.length,a.v.c, ?_, ?_⟩
   ·rw[Int.toNat_natCast];exact hh.2.1
   refine clone_ok (av.row.frame f3 (fun _ _ x=>x)) rfl (by omega) fun p4 c4 h4 o4 f4 g4=>⟨_,_,_,rfl, ?_⟩
   exact k1 a.v.b rfl h4 p4 c4 o4 (f1.tt (f3.tt f4)) (fun x hx=>by have:=g4 x hx;have:=(f1.tt f3).1;omega)
 ·rw[if_pos (by rfl)]
  rw[getA_none (by rw[List.length_map];exact hn)] at k2
  exact k2 rfl h1 f1
end Ses
end Go.Proofs.YtgccegnmggjkjaaGreatDoor
set_option maxRecDepth 100000
namespace Go.Proofs.YtgccegnmggjkjaaGreatDoor
open Go.Den Go.Fields
namespace Ses
open Fld
variable {h h' h0 : Heap} {t : Nat} {X : Ft} {R : Value → Heap → Prop} {p q : Option Addr} {c d i : Nat} {lab : Lab} {D : Nat → Prop} {L : List SC} {A : List Ses}
theorem isNote_ok {b:List UInt8} {n m:Nat} (hn:n=b.length) (hk:R (.bool (isNoteB b)) h):CallsH Tryz.prog F.sessions_isNote #[.slice p n m] h R:=by
 subst hn
 refine sessions_isNote.walk ?_
 unfold isNoteB at hk
 by_cases h1:((b.length:Nat):Int)≥1
 ·by_cases h2:((b.length:Nat):Int)≤600
  ·simpa[h1,h2,show 1≤b.length by omega,show b.length≤600 by omega] using hk
  ·simpa[h1,h2,show 1≤b.length by omega,show¬b.length≤600 by omega] using hk
 ·simpa[h1,show¬1≤b.length by omega] using hk
theorem Tab.notesG {s:SC} {h1 h12:Heap} {K':List BV} {np':Option Addr} {nc':Nat} {E:Nat→Prop} (TB1:Tab h1 t lab X.D L) (hS: ∀c,X.M c↔ ∃r,lab c=some r) (hs:L[i]? =some s) (hat:At h12 { s with notes:=K',np:=np',nc:=nc' })
  (hown:Own h12 np' K'.length nc' 1 (K'.flatMap nenc)) (hnp: ∀c,inBlk np' c→inBlk s.np c∨h1.size≤c) (f:Fr (fun x=>x=s.b∨inBlk s.np x) h1 h12) (hE: ∀c,E c→lab c=none∧c<h12.size∧ ¬inBlk np' c) (hd: ∀n∈K',n.ok h12 (fun c=>X.D c∨E c)):
  ∃X',HasB h12 t X' ((L.map SC.abs).set i { s.abs with notes:=K'.map BV.b }) (L.map SC.b)∧Fr X.M h1 h12∧(∀c,X'.M c→X.M c∨h1.size≤c)∧(∀c,X'.D c→X.D c∨E c)∧ ∀c,X.D c→X'.D c:=by
 have SA:=TB1.ses i s hs
 have nbk: ∀c,inBlk s.kp c→c≠s.b:=fun c hc e=>by have h1:=SA.kl c hc;rw[e,SA.lb] at h1;simp at h1
 have nkn: ∀c,inBlk s.kp c→ ¬inBlk s.np c:=fun c hc h2=>by have h1:=SA.kl c hc;rw[SA.nl c h2] at h1;simp at h1
 have kD: ∀c,X.D c→ ¬(c=s.b∨inBlk s.np c):=fun c hc hx=>hx.elim (fun e=>TB1.ap c _ (e▸SA.lb) hc) (fun hx=>TB1.ap c _ (SA.nl c hx) hc)
 exact TB1.updG (s':= { s with notes:=K',np:=np',nc:=nc' }) (E:=E) hS hs rfl f (fun c hx=>hx.elim (fun e=>⟨_,e▸SA.lb,by omega,by omega⟩) (fun hx=>⟨_,SA.nl c hx,by omega,by omega⟩)) hat
  (SA.kown.frame f (fun c hc hx=>hx.elim (nbk c hc) (nkn c hc))) (fun c hc=> .inl (SA.kl c hc)) hown (fun c hc=>(hnp c hc).imp (SA.nl c) id)
  (fun c h2 hc=>(hnp c hc).elim (fun hx=>nkn c h2 hx) (fun hx=>by have:=SA.kown.blk_lt h2;omega))
  (fun c hc=>⟨(hE c hc).1,(hE c hc).2.1,(fun hx=>by have a:=SA.kl c hx;rw[(hE c hc).1] at a;cases a),(hE c hc).2.2⟩)
  (fun a ha=>((SA.kd a ha).frame f kD).mono (fun c=> .inl)) hd
end Ses
end Go.Proofs.YtgccegnmggjkjaaGreatDoor
set_option maxRecDepth 100000
set_option maxHeartbeats 4000000
namespace Go.Proofs.YtgccegnmggjkjaaGreatDoor
open Go.Den
variable {h : Heap} {R : Value → Heap → Prop}
theorem sessions_Table_All.walk {t : Nat} (hv :
 ∃ t16_p t16_l t16_c, hcell h ⟨t, 1, none⟩ = some (.slice t16_p t16_l t16_c) ∧
 ∃ (I : Option Addr → Nat → Nat → Int → Heap → Prop) (mu : Option Addr → Nat → Nat → Int → Heap → Nat), I none 0 0 0 h ∧ ∀ (out_p : Option Addr) (out_l out_c : Nat) (t18 : Int) (h_1 : Heap), I out_p out_l out_c t18 h_1 →
 if (decide (t18 < ((t16_l : Nat) : Int))) = true then
 ((0 : Int) ≤ t18 ∧ t18 < ((t16_l : Nat) : Int)) ∧
 onSome t16_p fun a =>
 ∃ t21, hcell h_1 (a.add (Int.toNat t18 * 1)) = some (.pointer t21) ∧
 onSome t21 fun a_1 =>
 sessions_Session.LD h_1 a_1 fun t24_0 t24_1 t24_2 t24_3 t24_4_p t24_4_l t24_4_c t24_5_p t24_5_l t24_5_c =>
 NewP h_1 (.cells #[.int .i64 0, .int .u64 0, .bool false, .bool false, .slice none 0 0, .slice none 0 0] T.sessions_Session) fun b h_2 =>
 sessions_Session.ST h_2 ⟨b, 0, none⟩ t24_0 t24_1 t24_2 t24_3 t24_4_p t24_4_l t24_4_c t24_5_p t24_5_l t24_5_c fun h_3 =>
 StoreP h_3 ⟨b, 4, none⟩ (.slice none 0 0) fun h_4 =>
 StoreP h_4 ⟨b, 5, none⟩ (.slice none 0 0) fun h_5 =>
 onSome t21 fun a_2 =>
 ∃ t30_p t30_l t30_c, hcell h_5 (a_2.add 4) = some (.slice t30_p t30_l t30_c) ∧
 ∃ (I_1 : Int → Heap → Prop) (mu_1 : Int → Heap → Nat), I_1 0 h_5 ∧ ∀ (t32 : Int) (h_6 : Heap), I_1 t32 h_6 →
 if (decide (t32 < ((t30_l : Nat) : Int))) = true then
 ((0 : Int) ≤ t32 ∧ t32 < ((t30_l : Nat) : Int)) ∧
 onSome t30_p fun a_3 =>
 sessions_Answer.LD h_6 (a_3.add (Int.toNat t32 * 2)) fun t35_0 t35_1_p t35_1_l t35_1_c =>
 NewP h_6 (.cells #[.int .u64 0, .slice none 0 0] T.sessions_Answer) fun b_1 h_7 =>
 sessions_Answer.ST h_7 ⟨b_1, 0, none⟩ t35_0 t35_1_p t35_1_l t35_1_c fun h_8 =>
 ∃ t37_p t37_l t37_c, hcell h_8 ⟨b, 4, none⟩ = some (.slice t37_p t37_l t37_c) ∧
 ∃ t39, hcell h_8 ⟨b_1, 0, none⟩ = some (.int .u64 t39) ∧
 ∃ t41_p t41_l t41_c, hcell h_8 ⟨b_1, 1, none⟩ = some (.slice t41_p t41_l t41_c) ∧
 Cl F.slices_Clone_s_byte_byte #[.slice t41_p t41_l t41_c] h_8 fun v h_9 =>
 ∃ t42_p t42_l t42_c, v = .slice t42_p t42_l t42_c ∧
 hcell h_9 ⟨b_1, 0, none⟩ = some (.int .u64 t39) ∧
 hcell h_9 ⟨b, 4, none⟩ = some (.slice t37_p t37_l t37_c) ∧
 NewP h_9 (.cells #[.int .u64 t39, .slice t42_p t42_l t42_c] T.sessions_Answer) fun b_2 h_10 =>
 hcell h_10 ⟨b_1, 0, none⟩ = some (.int .u64 t39) ∧
 hcell h_10 ⟨b, 4, none⟩ = some (.slice t37_p t37_l t37_c) ∧
 denSem Tryz.prog (Builtin.append_ #[T.s_sessions_Answer, T.s_sessions_Answer] T.s_sessions_Answer #[.slice t37_p t37_l t37_c, .slice (some ⟨b_2, 0, none⟩) 1 1]) h_10 fun v_1 h_11 =>
 ∃ t45_p t45_l t45_c, v_1 = .slice t45_p t45_l t45_c ∧
 hcell h_11 ⟨b_1, 0, none⟩ = some (.int .u64 t39) ∧
 StoreP h_11 ⟨b, 4, none⟩ (.slice t45_p t45_l t45_c) fun h_12 =>
 (I_1 (IntKind.wrap .i64 (t32 + 1)) h_12 ∧ mu_1 (IntKind.wrap .i64 (t32 + 1)) h_12 < mu_1 t32 h_6)
 else
 onSome t21 fun a_4 =>
 ∃ t51_p t51_l t51_c, hcell h_6 (a_4.add 5) = some (.slice t51_p t51_l t51_c) ∧
 ∃ (I_2 : Int → Heap → Prop) (mu_2 : Int → Heap → Nat), I_2 0 h_6 ∧ ∀ (t53 : Int) (h_13 : Heap), I_2 t53 h_13 →
 if (decide (t53 < ((t51_l : Nat) : Int))) = true then
 ((0 : Int) ≤ t53 ∧ t53 < ((t51_l : Nat) : Int)) ∧
 onSome t51_p fun a_5 =>
 ∃ t56_p t56_l t56_c, hcell h_13 (a_5.add (Int.toNat t53 * 1)) = some (.slice t56_p t56_l t56_c) ∧
 ∃ t58_p t58_l t58_c, hcell h_13 ⟨b, 5, none⟩ = some (.slice t58_p t58_l t58_c) ∧
 Cl F.slices_Clone_s_byte_byte #[.slice t56_p t56_l t56_c] h_13 fun v_2 h_14 =>
 ∃ t60_p t60_l t60_c, v_2 = .slice t60_p t60_l t60_c ∧
 hcell h_14 ⟨b, 5, none⟩ = some (.slice t58_p t58_l t58_c) ∧
 NewP h_14 (.cells #[.slice t60_p t60_l t60_c] T.s_uint8) fun b_3 h_15 =>
 hcell h_15 ⟨b, 5, none⟩ = some (.slice t58_p t58_l t58_c) ∧
 denSem Tryz.prog (Builtin.append_ #[T.s_s_uint8, T.s_s_uint8] T.s_s_uint8 #[.slice t58_p t58_l t58_c, .slice (some ⟨b_3, 0, none⟩) 1 1]) h_15 fun v_3 h_16 =>
 ∃ t62_p t62_l t62_c, v_3 = .slice t62_p t62_l t62_c ∧
 StoreP h_16 ⟨b, 5, none⟩ (.slice t62_p t62_l t62_c) fun h_17 =>
 (I_2 (IntKind.wrap .i64 (t53 + 1)) h_17 ∧ mu_2 (IntKind.wrap .i64 (t53 + 1)) h_17 < mu_2 t53 h_13)
 else
 sessions_Session.LD h_13 ⟨b, 0, none⟩ fun t66_0 t66_1 t66_2 t66_3 t66_4_p t66_4_l t66_4_c t66_5_p t66_5_l t66_5_c =>
 NewP h_13 (.cells #[.int .i64 t66_0, .int .u64 t66_1, .bool t66_2, .bool t66_3, .slice t66_4_p t66_4_l t66_4_c, .slice t66_5_p t66_5_l t66_5_c] T.sessions_Session) fun b_4 h_18 =>
 denSem Tryz.prog (Builtin.append_ #[T.s_sessions_Session, T.s_sessions_Session] T.s_sessions_Session #[.slice out_p out_l out_c, .slice (some ⟨b_4, 0, none⟩) 1 1]) h_18 fun v_4 h_19 =>
 ∃ t68_p t68_l t68_c, v_4 = .slice t68_p t68_l t68_c ∧
 (I t68_p t68_l t68_c (IntKind.wrap .i64 (t18 + 1)) h_19 ∧ mu t68_p t68_l t68_c (IntKind.wrap .i64 (t18 + 1)) h_19 < mu out_p out_l out_c t18 h_1)
 else
 R (.slice out_p out_l out_c) h_1) : CallsH Tryz.prog F.sessions_Table_All #[.pointer (some ⟨t, 0, none⟩)] h R :=
 callsH_of_body (.seq .leaf (.seq .leaf (.seq (.seq .leaf (.cond (.seq .leaf .leaf) .leaf)) (.seq (.seq .leaf (.block (.loop [(3, .one (.slice)), (18, .one (.int .i64))] (.seq .leaf (.seq (.cond .leaf .leaf) (.seq (.block (.seq .leaf (.seq .leaf (.seq .leaf (.seq (.seq .leaf (.block (.loop [(32, .one (.int .i64))] (.seq .leaf (.seq (.cond .leaf .leaf) (.seq (.block (.seq .leaf (.plan (.op 0 (.op 1 (.op 2 (.op 3 (.op 4 (.op 5 (.op 6 (.op 7 (.op 8 (.op 9 (.op 10 (.op 11 .done))))))))))))))) .leaf)))))) (.seq (.seq .leaf (.block (.loop [(53, .one (.int .i64))] (.seq .leaf (.seq (.cond .leaf .leaf) (.seq (.block (.seq .leaf (.plan (.op 0 (.op 1 (.op 2 (.op 3 (.op 4 (.op 5 (.op 6 (.op 7 .done))))))))))) .leaf)))))) .leaf)))))) .leaf)))))) (.seq .leaf .leaf))))) Tryz.func178 rfl rfl (Eq.mp (by kernel_rfl) hv)
theorem sessions_Table_Save.walk {t : Nat} (hv :
 Cl F.sessions_Table_All #[.pointer (some ⟨t, 0, none⟩)] h fun v h_1 =>
 ∃ t11_p t11_l t11_c, v = .slice t11_p t11_l t11_c ∧
 ∃ (I : Option Addr → Nat → Nat → Int → Heap → Prop) (mu : Option Addr → Nat → Nat → Int → Heap → Nat), I none 0 0 0 h_1 ∧ ∀ (out_p : Option Addr) (out_l out_c : Nat) (t13 : Int) (h_2 : Heap), I out_p out_l out_c t13 h_2 →
 if (decide (t13 < ((t11_l : Nat) : Int))) = true then
 ((0 : Int) ≤ t13 ∧ t13 < ((t11_l : Nat) : Int)) ∧
 onSome t11_p fun a =>
 sessions_Session.LD h_2 (a.add (Int.toNat t13 * 6)) fun t16_0 t16_1 t16_2 t16_3 t16_4_p t16_4_l t16_4_c t16_5_p t16_5_l t16_5_c =>
 NewP h_2 (.cells #[.int .i64 0, .int .u64 0, .bool false, .bool false, .slice none 0 0, .slice none 0 0] T.sessions_Session) fun b h_3 =>
 sessions_Session.ST h_3 ⟨b, 0, none⟩ t16_0 t16_1 t16_2 t16_3 t16_4_p t16_4_l t16_4_c t16_5_p t16_5_l t16_5_c fun h_4 =>
 ∃ t20, hcell h_4 ⟨b, 0, none⟩ = some (.int .i64 t20) ∧
 ∃ t23, hcell h_4 ⟨b, 1, none⟩ = some (.int .u64 t23) ∧
 ∃ t26, hcell h_4 ⟨b, 2, none⟩ = some (.bool t26) ∧
 ∃ t29, hcell h_4 ⟨b, 3, none⟩ = some (.bool t29) ∧
 ∃ t32_p t32_l t32_c, hcell h_4 ⟨b, 4, none⟩ = some (.slice t32_p t32_l t32_c) ∧
 ∃ t36_p t36_l t36_c, hcell h_4 ⟨b, 5, none⟩ = some (.slice t36_p t36_l t36_c) ∧
 Cl F.fields_New #[] h_4 fun v_1 h_5 =>
 ∃ t18, v_1 = .pointer t18 ∧
 hcell h_5 ⟨b, 5, none⟩ = some (.slice t36_p t36_l t36_c) ∧
 hcell h_5 ⟨b, 4, none⟩ = some (.slice t32_p t32_l t32_c) ∧
 hcell h_5 ⟨b, 3, none⟩ = some (.bool t29) ∧
 hcell h_5 ⟨b, 2, none⟩ = some (.bool t26) ∧
 hcell h_5 ⟨b, 1, none⟩ = some (.int .u64 t23) ∧
 hcell h_5 ⟨b, 0, none⟩ = some (.int .i64 t20) ∧
 Cl F.fields_Writer_Int #[.pointer t18, .int .i64 t20] h_5 fun v_2 h_6 =>
 ∃ t21, v_2 = .pointer t21 ∧
 hcell h_6 ⟨b, 5, none⟩ = some (.slice t36_p t36_l t36_c) ∧
 hcell h_6 ⟨b, 4, none⟩ = some (.slice t32_p t32_l t32_c) ∧
 hcell h_6 ⟨b, 3, none⟩ = some (.bool t29) ∧
 hcell h_6 ⟨b, 2, none⟩ = some (.bool t26) ∧
 hcell h_6 ⟨b, 1, none⟩ = some (.int .u64 t23) ∧
 Cl F.fields_Writer_Num #[.pointer t21, .int .u64 t23] h_6 fun v_3 h_7 =>
 ∃ t24, v_3 = .pointer t24 ∧
 hcell h_7 ⟨b, 5, none⟩ = some (.slice t36_p t36_l t36_c) ∧
 hcell h_7 ⟨b, 4, none⟩ = some (.slice t32_p t32_l t32_c) ∧
 hcell h_7 ⟨b, 3, none⟩ = some (.bool t29) ∧
 hcell h_7 ⟨b, 2, none⟩ = some (.bool t26) ∧
 Cl F.fields_Writer_Bool #[.pointer t24, .bool t26] h_7 fun v_4 h_8 =>
 ∃ t27, v_4 = .pointer t27 ∧
 hcell h_8 ⟨b, 5, none⟩ = some (.slice t36_p t36_l t36_c) ∧
 hcell h_8 ⟨b, 4, none⟩ = some (.slice t32_p t32_l t32_c) ∧
 hcell h_8 ⟨b, 3, none⟩ = some (.bool t29) ∧
 Cl F.fields_Writer_Bool #[.pointer t27, .bool t29] h_8 fun v_5 h_9 =>
 ∃ t30, v_5 = .pointer t30 ∧
 hcell h_9 ⟨b, 5, none⟩ = some (.slice t36_p t36_l t36_c) ∧
 hcell h_9 ⟨b, 4, none⟩ = some (.slice t32_p t32_l t32_c) ∧
 Cl F.fields_Writer_Int #[.pointer t30, .int .i64 ((t32_l : Nat) : Int)] h_9 fun v_6 h_10 =>
 ∃ t34, v_6 = .pointer t34 ∧
 hcell h_10 ⟨b, 5, none⟩ = some (.slice t36_p t36_l t36_c) ∧
 hcell h_10 ⟨b, 4, none⟩ = some (.slice t32_p t32_l t32_c) ∧
 Cl F.fields_Writer_Int #[.pointer t34, .int .i64 ((t36_l : Nat) : Int)] h_10 fun v_7 h_11 =>
 ∃ t38, v_7 = .pointer t38 ∧
 hcell h_11 ⟨b, 5, none⟩ = some (.slice t36_p t36_l t36_c) ∧
 hcell h_11 ⟨b, 4, none⟩ = some (.slice t32_p t32_l t32_c) ∧
 Cl F.fields_Writer_Bytes #[.pointer t38] h_11 fun v_8 h_12 =>
 ∃ t39_p t39_l t39_c, v_8 = .slice t39_p t39_l t39_c ∧
 hcell h_12 ⟨b, 5, none⟩ = some (.slice t36_p t36_l t36_c) ∧
 hcell h_12 ⟨b, 4, none⟩ = some (.slice t32_p t32_l t32_c) ∧
 NewP h_12 (.cells #[.slice t39_p t39_l t39_c] T.s_uint8) fun b_1 h_13 =>
 hcell h_13 ⟨b, 5, none⟩ = some (.slice t36_p t36_l t36_c) ∧
 hcell h_13 ⟨b, 4, none⟩ = some (.slice t32_p t32_l t32_c) ∧
 denSem Tryz.prog (Builtin.append_ #[T.s_s_uint8, T.s_s_uint8] T.s_s_uint8 #[.slice out_p out_l out_c, .slice (some ⟨b_1, 0, none⟩) 1 1]) h_13 fun v_9 h_14 =>
 ∃ t41_p t41_l t41_c, v_9 = .slice t41_p t41_l t41_c ∧
 hcell h_14 ⟨b, 5, none⟩ = some (.slice t36_p t36_l t36_c) ∧
 hcell h_14 ⟨b, 4, none⟩ = some (.slice t32_p t32_l t32_c) ∧
 ∃ t43_p t43_l t43_c, hcell h_14 ⟨b, 4, none⟩ = some (.slice t43_p t43_l t43_c) ∧
 ∃ (I_1 : Option Addr → Nat → Nat → Int → Heap → Prop) (mu_1 : Option Addr → Nat → Nat → Int → Heap → Nat), I_1 t41_p t41_l t41_c 0 h_14 ∧ ∀ (out_p_1 : Option Addr) (out_l_1 out_c_1 : Nat) (t45 : Int) (h_15 : Heap), I_1 out_p_1 out_l_1 out_c_1 t45 h_15 →
 if (decide (t45 < ((t43_l : Nat) : Int))) = true then
 ((0 : Int) ≤ t45 ∧ t45 < ((t43_l : Nat) : Int)) ∧
 onSome t43_p fun a_1 =>
 sessions_Answer.LD h_15 (a_1.add (Int.toNat t45 * 2)) fun t48_0 t48_1_p t48_1_l t48_1_c =>
 NewP h_15 (.cells #[.int .u64 0, .slice none 0 0] T.sessions_Answer) fun b_2 h_16 =>
 sessions_Answer.ST h_16 ⟨b_2, 0, none⟩ t48_0 t48_1_p t48_1_l t48_1_c fun h_17 =>
 ∃ t52, hcell h_17 ⟨b_2, 0, none⟩ = some (.int .u64 t52) ∧
 ∃ t55_p t55_l t55_c, hcell h_17 ⟨b_2, 1, none⟩ = some (.slice t55_p t55_l t55_c) ∧
 Cl F.fields_New #[] h_17 fun v_10 h_18 =>
 ∃ t50, v_10 = .pointer t50 ∧
 hcell h_18 ⟨b_2, 1, none⟩ = some (.slice t55_p t55_l t55_c) ∧
 hcell h_18 ⟨b_2, 0, none⟩ = some (.int .u64 t52) ∧
 Cl F.fields_Writer_Num #[.pointer t50, .int .u64 t52] h_18 fun v_11 h_19 =>
 ∃ t53, v_11 = .pointer t53 ∧
 hcell h_19 ⟨b_2, 1, none⟩ = some (.slice t55_p t55_l t55_c) ∧
 Cl F.fields_Writer_Text #[.pointer t53, .slice t55_p t55_l t55_c] h_19 fun v_12 h_20 =>
 ∃ t56, v_12 = .pointer t56 ∧
 Cl F.fields_Writer_Bytes #[.pointer t56] h_20 fun v_13 h_21 =>
 ∃ t57_p t57_l t57_c, v_13 = .slice t57_p t57_l t57_c ∧
 NewP h_21 (.cells #[.slice t57_p t57_l t57_c] T.s_uint8) fun b_3 h_22 =>
 denSem Tryz.prog (Builtin.append_ #[T.s_s_uint8, T.s_s_uint8] T.s_s_uint8 #[.slice out_p_1 out_l_1 out_c_1, .slice (some ⟨b_3, 0, none⟩) 1 1]) h_22 fun v_14 h_23 =>
 ∃ t59_p t59_l t59_c, v_14 = .slice t59_p t59_l t59_c ∧
 (I_1 t59_p t59_l t59_c (IntKind.wrap .i64 (t45 + 1)) h_23 ∧ mu_1 t59_p t59_l t59_c (IntKind.wrap .i64 (t45 + 1)) h_23 < mu_1 out_p_1 out_l_1 out_c_1 t45 h_15)
 else
 ∃ t62_p t62_l t62_c, hcell h_15 ⟨b, 5, none⟩ = some (.slice t62_p t62_l t62_c) ∧
 ∃ (I_2 : Option Addr → Nat → Nat → Int → Heap → Prop) (mu_2 : Option Addr → Nat → Nat → Int → Heap → Nat), I_2 out_p_1 out_l_1 out_c_1 0 h_15 ∧ ∀ (out_p_2 : Option Addr) (out_l_2 out_c_2 : Nat) (t64 : Int) (h_24 : Heap), I_2 out_p_2 out_l_2 out_c_2 t64 h_24 →
 if (decide (t64 < ((t62_l : Nat) : Int))) = true then
 ((0 : Int) ≤ t64 ∧ t64 < ((t62_l : Nat) : Int)) ∧
 onSome t62_p fun a_2 =>
 ∃ t67_p t67_l t67_c, hcell h_24 (a_2.add (Int.toNat t64 * 1)) = some (.slice t67_p t67_l t67_c) ∧
 Cl F.fields_New #[] h_24 fun v_15 h_25 =>
 ∃ t69, v_15 = .pointer t69 ∧
 Cl F.fields_Writer_Text #[.pointer t69, .slice t67_p t67_l t67_c] h_25 fun v_16 h_26 =>
 ∃ t71, v_16 = .pointer t71 ∧
 Cl F.fields_Writer_Bytes #[.pointer t71] h_26 fun v_17 h_27 =>
 ∃ t72_p t72_l t72_c, v_17 = .slice t72_p t72_l t72_c ∧
 NewP h_27 (.cells #[.slice t72_p t72_l t72_c] T.s_uint8) fun b_4 h_28 =>
 denSem Tryz.prog (Builtin.append_ #[T.s_s_uint8, T.s_s_uint8] T.s_s_uint8 #[.slice out_p_2 out_l_2 out_c_2, .slice (some ⟨b_4, 0, none⟩) 1 1]) h_28 fun v_18 h_29 =>
 ∃ t74_p t74_l t74_c, v_18 = .slice t74_p t74_l t74_c ∧
 (I_2 t74_p t74_l t74_c (IntKind.wrap .i64 (t64 + 1)) h_29 ∧ mu_2 t74_p t74_l t74_c (IntKind.wrap .i64 (t64 + 1)) h_29 < mu_2 out_p_2 out_l_2 out_c_2 t64 h_24)
 else
 (I out_p_2 out_l_2 out_c_2 (IntKind.wrap .i64 (t13 + 1)) h_24 ∧ mu out_p_2 out_l_2 out_c_2 (IntKind.wrap .i64 (t13 + 1)) h_24 < mu out_p out_l out_c t13 h_2)
 else
 R (.slice out_p out_l out_c) h_2) : CallsH Tryz.prog F.sessions_Table_Save #[.pointer (some ⟨t, 0, none⟩)] h R :=
 callsH_of_body (.seq .leaf (.seq .leaf (.seq (.seq .leaf (.block (.loop [(3, .one (.slice)), (13, .one (.int .i64))] (.seq .leaf (.seq (.cond .leaf .leaf) (.seq (.block (.seq .leaf (.seq (.plan (.op 0 (.op 2 (.op 3 (.op 5 (.op 6 (.op 8 (.op 9 (.op 11 (.op 12 (.op 14 (.op 15 (.op 16 (.op 18 (.op 19 (.op 20 (.op 1 (.op 4 (.op 7 (.op 10 (.op 13 (.op 17 (.op 21 (.op 22 (.op 23 (.op 24 (.op 25 .done))))))))))))))))))))))))))) (.seq (.seq .leaf (.block (.loop [(3, .one (.slice)), (45, .one (.int .i64))] (.seq .leaf (.seq (.cond .leaf .leaf) (.seq (.block (.seq .leaf (.plan (.op 0 (.op 2 (.op 3 (.op 5 (.op 6 (.op 1 (.op 4 (.op 7 (.op 8 (.op 9 (.op 10 (.op 11 .done))))))))))))))) .leaf)))))) (.seq .leaf (.block (.loop [(3, .one (.slice)), (64, .one (.int .i64))] (.seq .leaf (.seq (.cond .leaf .leaf) (.seq (.block (.seq .leaf .leaf)) .leaf)))))))))) .leaf)))))) (.seq .leaf .leaf)))) Tryz.func131 rfl rfl (Eq.mp (by kernel_rfl) hv)
theorem sessions_loader_next.walk {x : Nat} (hv :
 ∃ t7_p t7_l t7_c, hcell h ⟨x, 0, none⟩ = some (.slice t7_p t7_l t7_c) ∧
 if (((t7_l : Nat) : Int) == 0) = true then
 StoreP h ⟨x, 1, none⟩ (.bool true) fun h_1 =>
 Cl F.fields_Read #[.slice none 0 0] h_1 fun v h_2 =>
 ∃ t13, v = .pointer t13 ∧
 R (.pointer t13) h_2
 else
 ∃ t17_p t17_l t17_c, hcell h ⟨x, 0, none⟩ = some (.slice t17_p t17_l t17_c) ∧
 ((0 : Int) ≤ 0 ∧ 0 < ((t17_l : Nat) : Int)) ∧
 onSome t17_p fun a =>
 ∃ t19_p t19_l t19_c, hcell h (a.add (Int.toNat 0 * 1)) = some (.slice t19_p t19_l t19_c) ∧
 Cl F.fields_Read #[.slice t19_p t19_l t19_c] h fun v_1 h_3 =>
 ∃ t20, v_1 = .pointer t20 ∧
 ∃ t25_p t25_l t25_c, hcell h_3 ⟨x, 0, none⟩ = some (.slice t25_p t25_l t25_c) ∧
 ((0 : Int) ≤ 1 ∧ 1 ≤ ((t25_l : Nat) : Int)) ∧
 StoreP h_3 ⟨x, 0, none⟩ (.slice (slBase t25_p t25_c (Int.toNat 1) 1) (t25_l - (Int.toNat 1)) (t25_c - (Int.toNat 1))) fun h_4 =>
 R (.pointer t20) h_4) : CallsH Tryz.prog F.sessions_loader_next #[.pointer (some ⟨x, 0, none⟩)] h R :=
 callsH_of_body (.seq .leaf (.seq (.seq .leaf (.cond (.seq .leaf (.seq .leaf .leaf)) .leaf)) (.seq .leaf (.seq .leaf (.seq .leaf .leaf))))) Tryz.func232 rfl rfl (Eq.mp (by kernel_rfl) hv)
theorem sessions_loader_need.walk {x : Nat} {is : Bool} (hv :
 ∃ t8, hcell h ⟨x, 1, none⟩ = some (.bool t8) ∧
 if t8 = true then
 StoreP h ⟨x, 1, none⟩ (.bool true) fun h_1 =>
 R (.tuple #[]) h_1
 else
 StoreP h ⟨x, 1, none⟩ (.bool (!is)) fun h_2 =>
 R (.tuple #[]) h_2) : CallsH Tryz.prog F.sessions_loader_need #[.pointer (some ⟨x, 0, none⟩), .bool is] h R :=
 callsH_of_body .leaf Tryz.func234 rfl rfl (Eq.mp (by kernel_rfl) hv)
theorem sessions_loader_session.walk {x : Nat} {t : Nat} (hv :
 Cl F.sessions_loader_next #[.pointer (some ⟨x, 0, none⟩)] h fun v h_1 =>
 ∃ t21, v = .pointer t21 ∧
 Cl F.fields_Reader_Int #[.pointer t21] h_1 fun v_1 h_2 =>
 ∃ t23, v_1 = .int .i64 t23 ∧
 Cl F.fields_Reader_Num #[.pointer t21] h_2 fun v_2 h_3 =>
 ∃ t25, v_2 = .int .u64 t25 ∧
 Cl F.fields_Reader_Bool #[.pointer t21] h_3 fun v_3 h_4 =>
 ∃ t27, v_3 = .bool t27 ∧
 Cl F.fields_Reader_Bool #[.pointer t21] h_4 fun v_4 h_5 =>
 ∃ t29, v_4 = .bool t29 ∧
 Cl F.fields_Reader_Int #[.pointer t21] h_5 fun v_5 h_6 =>
 ∃ t31, v_5 = .int .i64 t31 ∧
 Cl F.fields_Reader_Int #[.pointer t21] h_6 fun v_6 h_7 =>
 ∃ t33, v_6 = .int .i64 t33 ∧
 JoinP (fun (h_8 : Heap) =>
 Cl F.sessions_Table_Open #[.pointer (some ⟨t, 0, none⟩), .int .u64 t25] h_8 fun v_7 h_9 =>
 ∃ t50_0 t50_1, v_7 = .tuple #[.int .i64 t50_0, .int .i64 t50_1] ∧
 JoinP (fun (h_10 : Heap) =>
 ∃ t65, hcell h_10 ⟨x, 1, none⟩ = some (.bool t65) ∧
 if t65 = true then
 R (.tuple #[]) h_10
 else
 ∃ t69_p t69_l t69_c, hcell h_10 ⟨t, 1, none⟩ = some (.slice t69_p t69_l t69_c) ∧
 ((0 : Int) ≤ IntKind.wrap .i64 (t50_0 - 1) ∧ IntKind.wrap .i64 (t50_0 - 1) < ((t69_l : Nat) : Int)) ∧
 onSome t69_p fun a =>
 ∃ t73, hcell h_10 (a.add (Int.toNat (IntKind.wrap .i64 (t50_0 - 1)) * 1)) = some (.pointer t73) ∧
 onSome t73 fun a_1 =>
 StoreP h_10 (a_1.add 2) (.bool t27) fun h_11 =>
 onSome t73 fun a_2 =>
 StoreP h_11 (a_2.add 3) (.bool t29) fun h_12 =>
 ∃ (I : Int → Heap → Prop) (mu : Int → Heap → Nat), I 0 h_12 ∧ ∀ (t83 : Int) (h_13 : Heap), I t83 h_13 →
 if (decide (t83 < t31)) = true then
 JoinP (fun (h_14 : Heap) =>
 (I (IntKind.wrap .i64 (t83 + 1)) h_14 ∧ mu (IntKind.wrap .i64 (t83 + 1)) h_14 < mu t83 h_13))
 (fun J_2 =>
 Cl F.sessions_loader_next #[.pointer (some ⟨x, 0, none⟩)] h_13 fun v_8 h_15 =>
 ∃ t86, v_8 = .pointer t86 ∧
 Cl F.fields_Reader_Num #[.pointer t86] h_15 fun v_9 h_16 =>
 ∃ t88, v_9 = .int .u64 t88 ∧
 Cl F.fields_Reader_Text #[.pointer t86] h_16 fun v_10 h_17 =>
 ∃ t90_p t90_l t90_c, v_10 = .slice t90_p t90_l t90_c ∧
 NewP h_17 (.cells #[.int .u64 0, .slice none 0 0] T.sessions_Answer) fun b h_18 =>
 sessions_Answer.ST h_18 ⟨b, 0, none⟩ t88 t90_p t90_l t90_c fun h_19 =>
 ∃ t96, hcell h_19 ⟨b, 0, none⟩ = some (.int .u64 t96) ∧
 Cl F.sessions_Table_Kept #[.pointer (some ⟨t, 0, none⟩), .int .i64 t50_0, .int .u64 t96] h_19 fun v_11 h_20 =>
 ∃ t97_0_p t97_0_l t97_0_c t97_1, v_11 = .tuple #[.slice t97_0_p t97_0_l t97_0_c, .bool t97_1] ∧
 JoinP (fun (h_21 : Heap) =>
 J_2 h_21)
 (fun J_3 =>
 Cl F.fields_Reader_End #[.pointer t86] h_20 fun v_12 h_22 =>
 ∃ t102, v_12 = .int .i64 t102 ∧
 if (t102 == 0) = true then
 if (!t97_1) = true then
 ∃ t112, hcell h_22 ⟨b, 0, none⟩ = some (.int .u64 t112) ∧
 ∃ t114_p t114_l t114_c, hcell h_22 ⟨b, 1, none⟩ = some (.slice t114_p t114_l t114_c) ∧
 Cl F.sessions_Table_Keep #[.pointer (some ⟨t, 0, none⟩), .int .i64 t50_0, .int .u64 t112, .slice t114_p t114_l t114_c] h_22 fun v_13 h_23 =>
 ∃ t115, v_13 = .int .i64 t115 ∧
 Cl F.sessions_loader_need #[.pointer (some ⟨x, 0, none⟩), .bool (t115 == 0)] h_23 fun v_14 h_24 =>
 v_14 = .tuple #[] ∧
 J_3 h_24
 else
 Cl F.sessions_loader_need #[.pointer (some ⟨x, 0, none⟩), .bool false] h_22 fun v_15 h_25 =>
 v_15 = .tuple #[] ∧
 J_3 h_25
 else
 Cl F.sessions_loader_need #[.pointer (some ⟨x, 0, none⟩), .bool false] h_22 fun v_16 h_26 =>
 v_16 = .tuple #[] ∧
 J_3 h_26))
 else
 ∃ (I_1 : Int → Heap → Prop) (mu_1 : Int → Heap → Nat), I_1 0 h_13 ∧ ∀ (t121 : Int) (h_27 : Heap), I_1 t121 h_27 →
 if (decide (t121 < t33)) = true then
 Cl F.sessions_loader_next #[.pointer (some ⟨x, 0, none⟩)] h_27 fun v_17 h_28 =>
 ∃ t124, v_17 = .pointer t124 ∧
 Cl F.fields_Reader_Text #[.pointer t124] h_28 fun v_18 h_29 =>
 ∃ t126_p t126_l t126_c, v_18 = .slice t126_p t126_l t126_c ∧
 JoinP (fun (h_30 : Heap) =>
 onSome t73 fun a_3 =>
 ∃ t140_p t140_l t140_c, hcell h_30 (a_3.add 5) = some (.slice t140_p t140_l t140_c) ∧
 NewP h_30 (.cells #[.slice t126_p t126_l t126_c] T.s_uint8) fun b_1 h_31 =>
 denSem Tryz.prog (Builtin.append_ #[T.s_s_uint8, T.s_s_uint8] T.s_s_uint8 #[.slice t140_p t140_l t140_c, .slice (some ⟨b_1, 0, none⟩) 1 1]) h_31 fun v_19 h_32 =>
 ∃ t143_p t143_l t143_c, v_19 = .slice t143_p t143_l t143_c ∧
 onSome t73 fun a_4 =>
 StoreP h_32 (a_4.add 5) (.slice t143_p t143_l t143_c) fun h_33 =>
 (I_1 (IntKind.wrap .i64 (t121 + 1)) h_33 ∧ mu_1 (IntKind.wrap .i64 (t121 + 1)) h_33 < mu_1 t121 h_27))
 (fun J_4 =>
 Cl F.fields_Reader_End #[.pointer t124] h_29 fun v_20 h_34 =>
 ∃ t129, v_20 = .int .i64 t129 ∧
 if (t129 == 0) = true then
 Cl F.sessions_isNote #[.slice t126_p t126_l t126_c] h_34 fun v_21 h_35 =>
 ∃ t133, v_21 = .bool t133 ∧
 Cl F.sessions_loader_need #[.pointer (some ⟨x, 0, none⟩), .bool t133] h_35 fun v_22 h_36 =>
 v_22 = .tuple #[] ∧
 J_4 h_36
 else
 Cl F.sessions_loader_need #[.pointer (some ⟨x, 0, none⟩), .bool false] h_34 fun v_23 h_37 =>
 v_23 = .tuple #[] ∧
 J_4 h_37)
 else
 R (.tuple #[]) h_27)
 (fun J_1 =>
 if (t50_1 == 0) = true then
 Cl F.sessions_loader_need #[.pointer (some ⟨x, 0, none⟩), .bool (t50_0 == t23)] h_9 fun v_24 h_38 =>
 v_24 = .tuple #[] ∧
 J_1 h_38
 else
 Cl F.sessions_loader_need #[.pointer (some ⟨x, 0, none⟩), .bool false] h_9 fun v_25 h_39 =>
 v_25 = .tuple #[] ∧
 J_1 h_39))
 (fun J =>
 Cl F.fields_Reader_End #[.pointer t21] h_7 fun v_26 h_40 =>
 ∃ t36, v_26 = .int .i64 t36 ∧
 if (t36 == 0) = true then
 if (decide (t31 ≤ 6)) = true then
 Cl F.sessions_loader_need #[.pointer (some ⟨x, 0, none⟩), .bool (decide (t33 ≤ 6))] h_40 fun v_27 h_41 =>
 v_27 = .tuple #[] ∧
 J h_41
 else
 Cl F.sessions_loader_need #[.pointer (some ⟨x, 0, none⟩), .bool false] h_40 fun v_28 h_42 =>
 v_28 = .tuple #[] ∧
 J h_42
 else
 Cl F.sessions_loader_need #[.pointer (some ⟨x, 0, none⟩), .bool false] h_40 fun v_29 h_43 =>
 v_29 = .tuple #[] ∧
 J h_43)) : CallsH Tryz.prog F.sessions_loader_session #[.pointer (some ⟨x, 0, none⟩), .pointer (some ⟨t, 0, none⟩)] h R :=
 callsH_of_body (.seq .leaf (.seq .leaf (.seq (.join [] .leaf) (.seq .leaf (.seq (.join [] .leaf) (.seq (.seq .leaf (.cond .leaf .leaf)) (.seq .leaf (.seq .leaf (.seq (.seq .leaf (.block (.loop [(83, .one (.int .i64))] (.seq .leaf (.seq (.cond .leaf .leaf) (.seq (.join [] (.block (.seq .leaf (.seq .leaf (.seq .leaf (.join [] .leaf)))))) .leaf)))))) (.seq .leaf (.block (.loop [(121, .one (.int .i64))] (.seq .leaf (.seq (.cond .leaf .leaf) (.seq (.block (.seq .leaf (.seq .leaf (.seq (.join [] .leaf) .leaf)))) .leaf))))))))))))))) Tryz.func203 rfl rfl (Eq.mp (by kernel_rfl) hv)
theorem sessions_Load.walk {l_p : Option Addr} {l_l l_c : Nat} (hv :
 Cl F.sessions_New #[] h fun v h_1 =>
 ∃ t6, v = .pointer t6 ∧
 NewP h_1 (.cells #[.slice l_p l_l l_c, .bool false] T.sessions_loader) fun b h_2 =>
 ∃ (I : Heap → Prop) (mu : Heap → Nat), I h_2 ∧ ∀ (h_3 : Heap), I h_3 →
 JoinP (fun (t22 : Bool) (h_4 : Heap) =>
 if t22 = true then
 Cl F.sessions_loader_session #[.pointer (some ⟨b, 0, none⟩), .pointer t6] h_4 fun v_1 h_5 =>
 v_1 = .tuple #[] ∧
 (I h_5 ∧ mu h_5 < mu h_3)
 else
 ∃ t29, hcell h_4 ⟨b, 1, none⟩ = some (.bool t29) ∧
 if t29 = true then
 R (.tuple #[.pointer none, .int .i64 3]) h_4
 else
 R (.tuple #[.pointer t6, .int .i64 0]) h_4)
 (fun J =>
 ∃ t13_p t13_l t13_c, hcell h_3 ⟨b, 0, none⟩ = some (.slice t13_p t13_l t13_c) ∧
 if (decide (((t13_l : Nat) : Int) > 0)) = true then
 ∃ t20, hcell h_3 ⟨b, 1, none⟩ = some (.bool t20) ∧
 J (!t20) h_3
 else
 J false h_3)) : CallsH Tryz.prog F.sessions_Load #[.slice l_p l_l l_c] h R :=
 callsH_of_body (.seq .leaf (.seq .leaf (.seq (.block (.loop [] (.seq (.seq (.join [(22, .one (.bool))] .leaf) (.cond .leaf .leaf)) (.block .leaf)))) (.seq (.seq .leaf (.cond (.seq .leaf .leaf) .leaf)) (.seq .leaf .leaf))))) Tryz.func184 rfl rfl (Eq.mp (by kernel_rfl) hv)
end Go.Proofs.YtgccegnmggjkjaaGreatDoor
set_option maxRecDepth 100000
namespace Go.Proofs.YtgccegnmggjkjaaGreatDoor
open Go.Den Go.Fields
namespace Ses
open Fld
variable {h h' h0 : Heap} {t : Nat} {X : Ft} {R : Value → Heap → Prop} {p q : Option Addr} {c d i : Nat} {lab : Lab} {D : Nat → Prop} {L : List SC} {A : List Ses}
abbrev senc (s:SC):List Value:= [.int .i64 (s.num:Int), .int .u64 (s.token:Int), .bool s.up, .bool s.watch, .slice s.kp s.kept.length s.kc, .slice s.np s.notes.length s.nc]
theorem senc_len (s:SC):(senc s).length=6:=rfl
theorem tS:SlTy Tryz.prog T.s_sessions_Session T.sessions_Session 6 72 (.agg #[.int .i64 0, .int .u64 0, .bool false, .bool false, .slice none 0 0, .slice none 0 0]):=⟨by kernel_rfl,by kernel_rfl,rfl⟩
theorem uSe:Tryz.prog.underlying T.s_sessions_Session=some (.slice T.sessions_Session):=by kernel_rfl
structure SRow (h:Heap) (D:Nat→Prop) (s:SC):Prop where
 k:Row h s.kp (s.kept.flatMap AV.enc)
 kD:s.kept≠ []→ ∀y,inBlk s.kp y→D y
 kd: ∀a∈s.kept,a.v.ok h D
 n:Row h s.np (s.notes.flatMap nenc)
 nD:s.notes≠ []→ ∀y,inBlk s.np y→D y
 nd: ∀n∈s.notes,n.ok h D
theorem SRow.frame {Q:Nat→Prop} {s:SC} (H:SRow h D s) (f:Fr Q h h') (hq: ∀y,D y→ ¬Q y):SRow h' D s:=by
 refine⟨?_,H.kD,fun a ha=>(H.kd a ha).frame f hq, ?_,H.nD,fun a ha=>(H.nd a ha).frame f hq⟩
 ·by_cases e:s.kept= []
  ·rw[e];exact .inl rfl
  ·exact H.k.frame f (fun a ea=>hq _ (H.kD e _ ⟨a,ea,rfl⟩))
 ·by_cases e:s.notes= []
  ·rw[e];exact .inl rfl
  ·exact H.n.frame f (fun a ea=>hq _ (H.nD e _ ⟨a,ea,rfl⟩))
theorem SRow.mono {D':Nat→Prop} {s:SC} (H:SRow h D s) (hd: ∀y,D y→D' y):SRow h D' s:=
 ⟨H.k,fun e y hy=>hd y (H.kD e y hy),fun a ha=>(H.kd a ha).mono hd,H.n,fun e y hy=>hd y (H.nD e y hy),fun a ha=>(H.nd a ha).mono hd⟩
def SL (h0 h:Heap) (p:Option Addr) (l c:Nat) (A:List Ses):Prop:=
 ∃(xs:List SC) (D:Nat→Prop),l=xs.length∧Own h p l c 6 (xs.flatMap senc)∧xs.map SC.abs=A∧(∀x∈xs,SRow h D x)∧(∀y,D y→h0.size≤y∧y<h.size∧ ¬inBlk p y)∧ ∀y,inBlk p y→h0.size≤y
theorem SL.len {l:Nat} (H:SL h0 h p l c A):l=A.length:=by
 obtain⟨xs,D,h1,_,h3,_⟩:=H
 rw[h1,←h3,List.length_map]
structure Cp (g h:Heap) (b:Nat) (s:SC) (E:Nat→Prop):Prop where
 fr:Fr (fun _=>False) g h
 blk:sessions_Session.at h b (s.num:Int) (s.token:Int) s.up s.watch s.kp s.kept.length s.kc s.np s.notes.length s.nc
 gb:g.size≤b
 ko:Own h s.kp s.kept.length s.kc 2 (s.kept.flatMap AV.enc)
 kg: ∀y,inBlk s.kp y→g.size≤y∧y≠b∧ ¬E y
 no:Own h s.np s.notes.length s.nc 1 (s.notes.flatMap nenc)
 ng: ∀y,inBlk s.np y→g.size≤y∧y≠b∧ ¬E y∧ ¬inBlk s.kp y
 kd: ∀a∈s.kept,a.v.ok h E
 nd: ∀n∈s.notes,n.ok h E
 eg: ∀y,E y→g.size≤y∧y<h.size∧y≠b
theorem Cp.answer {g:Heap} {b:Nat} {s:SC} {E:Nat→Prop} {a:AV} {K:Heap→Prop} (C:Cp g h b s E) (hr:Row h a.v.p (bc a.v.b)) (hlb:a.v.b.length≤1000) (hkl:s.kept.length≤1000)
  (hk: ∀h' s' E',Cp g h' b s' E'→s'.abs= { s.abs with kept:=s.abs.kept++ [a.abs] } →K h'):
  NewP h (.cells #[.int .u64 0, .slice none 0 0] T.sessions_Answer) fun b_1 h_12=>
     StoreP h_12 ⟨b_1,0,none⟩ (.int .u64 (a.id:Int)) fun h_13=>
     StoreP h_13 ⟨b_1,1,none⟩ (.slice a.v.p a.v.b.length a.v.c) fun h_14=>
     ∃(t37_p:Option Addr) (t37_l t37_c:Nat),hcell h_14 ⟨b,4,none⟩=some (.slice t37_p t37_l t37_c)∧
     ∃(t39:Int),hcell h_14 ⟨b_1,0,none⟩=some (.int .u64 t39)∧
     ∃(t41_p:Option Addr) (t41_l t41_c:Nat),hcell h_14 ⟨b_1,1,none⟩=some (.slice t41_p t41_l t41_c)∧
     CallsH Tryz.prog F.slices_Clone_s_byte_byte #[.slice t41_p t41_l t41_c] h_14 fun v h_15=>
     ∃(t42_p:Option Addr) (t42_l t42_c:Nat),v= .slice t42_p t42_l t42_c∧
     hcell h_15 ⟨b_1,0,none⟩=some (.int .u64 t39)∧
     hcell h_15 ⟨b,4,none⟩=some (.slice t37_p t37_l t37_c)∧
     NewP h_15 (.cells #[.int .u64 t39, .slice t42_p t42_l t42_c] T.sessions_Answer) fun b_2 h_16=>
     hcell h_16 ⟨b_1,0,none⟩=some (.int .u64 t39)∧
     hcell h_16 ⟨b,4,none⟩=some (.slice t37_p t37_l t37_c)∧
     denSem Tryz.prog (Builtin.append_ #[T.s_sessions_Answer,T.s_sessions_Answer] T.s_sessions_Answer #[.slice t37_p t37_l t37_c, .slice (some ⟨b_2,0,none⟩) 1 1]) h_16 fun v_1 h_17=>
     ∃(t45_p:Option Addr) (t45_l t45_c:Nat),v_1= .slice t45_p t45_l t45_c∧
     hcell h_17 ⟨b_1,0,none⟩=some (.int .u64 t39)∧
     StoreP h_17 ⟨b,4,none⟩ (.slice t45_p t45_l t45_c) fun h_18=>K h_18:=by
 refine sessions_Answer.new fun b1 h14 eb1 hb1 f14=> ?_
 have k14:=f14.get C.blk id
 have zb:b<h.size:=lt_of_get C.blk
 refine⟨_,_,_,cell_at k14 rfl,_,cell_at hb1 rfl,_,_,_,cell_at hb1 rfl,clone_ok (hr.frame f14 (fun _ _=>id)) rfl (by omega) fun p15 c15 h15 o15 f15 g15=>⟨_,_,_,rfl,cell_at (f15.get hb1 id) rfl,cell_at (f15.get k14 id) rfl,newP_of ?_⟩⟩
 have f16:Fr (fun _=>False) h15 (h15.push (.cells #[.int .u64 (a.id:Int), .slice p15 a.v.b.length c15] T.sessions_Answer)):=Fr.push _ _
 have row16:Row (h15.push (.cells #[.int .u64 (a.id:Int), .slice p15 a.v.b.length c15] T.sessions_Answer)) (some ⟨h15.size,0,none⟩) (AV.enc ⟨a.id,⟨p15,c15,a.v.b⟩⟩):=row_new (cs:=AV.enc ⟨a.id,⟨p15,c15,a.v.b⟩⟩)
 have sz16:(h15.push (.cells #[.int .u64 (a.id:Int), .slice p15 a.v.b.length c15] T.sessions_Answer)).size=h15.size+1:=Array.size_push _
 generalize h15.push (.cells #[.int .u64 (a.id:Int), .slice p15 a.v.b.length c15] T.sessions_Answer)=h16 at f16 row16 sz16⊢
 have f1416:=f15.tt f16
 have f016:=f14.tt f1416
 have k16:=f1416.get k14 id
 have b116:=f1416.get hb1 id
 refine⟨cell_at b116 rfl,cell_at k16 rfl, ?_⟩
 have zh14:=f14.1
 have zh15:=f15.1
 have zg:=C.fr.1
 have nkb: ∀y,inBlk s.kp y→y≠b:=fun y hy=>(C.kg y hy).2.1
 have lk: ∀y,inBlk s.kp y→y<h.size:=fun y hy=>C.ko.blk_lt hy
 refine den_append tA uA (C.ko.frame f016 (fun _ _=>id)) row16 rfl (fun v hv=>by simp at hv;rcases hv with rfl|rfl<;>rfl) (by omega) (by omega) ?_
 intro p17 c17 h17 o17 _ f17 g17
 have b117:=f17.get b116 (fun hx=>by have:=lk _ hx;omega)
 refine⟨_,_,_,rfl,cell_at b117 rfl, ?_⟩
 have k17:=f17.get k16 (fun hx=>nkb _ hx rfl)
 refine storeP_blk k17 (by simp) fun h18 q1 q2 q3=> ?_
 have f18:Fr (fun x=>x=b) h17 h18:=Fr.of_eq q2 q3
 have F18:Fr (fun x=>x=b∨inBlk s.kp x) h h18:=(f016.mono (fun _ _=>False.elim)).tt ((f17.mono (fun _ _ hx=> .inr hx)).tt (f18.mono (fun _ _ hx=> .inl hx)))
 have z17:=f17.1
 have z18:=f18.1
 have n17: ∀y,inBlk p17 y→inBlk s.kp y∨h16.size≤y:=g17
 have b15: ∀y,inBlk p15 y→h.size≤y∧y<h15.size:=fun y hy=>⟨by have:=g15 y hy;omega,o15.blk_lt hy⟩
 have o1518:Own h18 p15 a.v.b.length c15 1 (bc a.v.b):=((o15.frame f16 (fun _ _=>id)).frame f17 (fun y hy hx=>by have:=b15 y hy;have:=lk y hx;omega)).frame f18 (fun y hy e=>by have:=b15 y hy;omega)
 have eQ: ∀y,E y→ ¬(y=b∨inBlk s.kp y):=fun y hy hx=>hx.elim (C.eg y hy).2.2 (fun hx=>(C.kg y hx).2.2 hy)
 have o18:=o17.frame f18 (fun y hy e=>(n17 y hy).elim (fun hx=>nkb y hx e) (fun hx=>by omega))
 refine hk h18 { s with kept:=s.kept++ [⟨a.id,⟨p15,c15,a.v.b⟩⟩],kp:=p17,kc:=c17 } (fun y=>E y∨inBlk p15 y) ⟨?_, ?_,C.gb, ?_, ?_, ?_, ?_, ?_, ?_, ?_⟩ ?_
 ·exact C.fr.step F18 (fun y hy hx=>hx.elim (fun e=>by have:=C.gb;omega) (fun hx=>by have:=(C.kg y hx).1;omega))
 ·show h18[b]? =_
  rw[q1]
  dsimp only
  rw[List.length_append];rfl
 ·show Own h18 p17 (s.kept++ [_]).length c17 2 ((s.kept++ [_]).flatMap AV.enc)
  rw[List.length_append,List.flatMap_append]
  simpa using o18
 ·intro y hy
  rcases n17 y hy with hx|hx
  ·exact⟨(C.kg y hx).1,(C.kg y hx).2.1,fun he=>he.elim (C.kg y hx).2.2 (fun h2=>by have:=b15 y h2;have:=lk y hx;omega)⟩
  ·exact⟨by omega,by omega,fun he=>he.elim (fun h2=>by have:=(C.eg y h2).2.1;omega) (fun h2=>by have:=b15 y h2;omega)⟩
 ·exact C.no.frame F18 (fun y hy hx=>hx.elim (C.ng y hy).2.1 (C.ng y hy).2.2.2)
 ·intro y hy
  have hy':=C.ng y hy
  have ly:y<h.size:=C.no.blk_lt hy
  exact⟨hy'.1,hy'.2.1,fun he=>he.elim hy'.2.2.1 (fun h2=>by have:=b15 y h2;omega),fun hx=>(n17 y hx).elim hy'.2.2.2 (fun h2=>by omega)⟩
 ·intro x hx
  rcases List.mem_append.1 hx with hx|hx
  ·exact((C.kd x hx).frame F18 eQ).mono (fun y=> .inl)
  ·simp at hx;subst hx;exact BV.of_own o1518 (fun y=> .inr)
 ·intro x hx
  exact((C.nd x hx).frame F18 eQ).mono (fun y=> .inl)
 ·rintro y (hy|hy)
  ·exact⟨(C.eg y hy).1,by have:=(C.eg y hy).2.1;omega,(C.eg y hy).2.2⟩
  ·exact⟨by have:=b15 y hy;omega,by have:=b15 y hy;omega,by have:=b15 y hy;omega⟩
 ·unfold SC.abs
  dsimp only
  rw[List.map_append];rfl
theorem Cp.note {g:Heap} {b:Nat} {s:SC} {E:Nat→Prop} {n:BV} {K:Heap→Prop} (C:Cp g h b s E) (hr:Row h n.p (bc n.b)) (hlb:n.b.length≤1000) (hkl:s.notes.length≤1000)
  (hk: ∀h' s' E',Cp g h' b s' E'→s'.abs= { s.abs with notes:=s.abs.notes++ [n.b] } →K h'):
  ∃(t58_p:Option Addr) (t58_l t58_c:Nat),hcell h ⟨b,5,none⟩=some (.slice t58_p t58_l t58_c)∧
       CallsH Tryz.prog F.slices_Clone_s_byte_byte #[.slice n.p n.b.length n.c] h fun v_2 h_20=>
       ∃(t60_p:Option Addr) (t60_l t60_c:Nat),v_2= .slice t60_p t60_l t60_c∧
       hcell h_20 ⟨b,5,none⟩=some (.slice t58_p t58_l t58_c)∧
       NewP h_20 (.cells #[.slice t60_p t60_l t60_c] T.s_uint8) fun b_3 h_21=>
       hcell h_21 ⟨b,5,none⟩=some (.slice t58_p t58_l t58_c)∧
       denSem Tryz.prog (Builtin.append_ #[T.s_s_uint8,T.s_s_uint8] T.s_s_uint8 #[.slice t58_p t58_l t58_c, .slice (some ⟨b_3,0,none⟩) 1 1]) h_21 fun v_3 h_22=>
       ∃(t62_p:Option Addr) (t62_l t62_c:Nat),v_3= .slice t62_p t62_l t62_c∧
       StoreP h_22 ⟨b,5,none⟩ (.slice t62_p t62_l t62_c) fun h_23=>K h_23:=by
 have zb:b<h.size:=lt_of_get C.blk
 refine⟨_,_,_,cell_at C.blk rfl,clone_ok hr rfl (by omega) fun p15 c15 h15 o15 f15 g15=>⟨_,_,_,rfl,cell_at (f15.get C.blk id) rfl,newP_of ?_⟩⟩
 have f16:Fr (fun _=>False) h15 (h15.push (.cells #[.slice p15 n.b.length c15] T.s_uint8)):=Fr.push _ _
 have row16:Row (h15.push (.cells #[.slice p15 n.b.length c15] T.s_uint8)) (some ⟨h15.size,0,none⟩) (nenc ⟨p15,c15,n.b⟩):=row_new (cs:=nenc ⟨p15,c15,n.b⟩)
 have sz16:(h15.push (.cells #[.slice p15 n.b.length c15] T.s_uint8)).size=h15.size+1:=Array.size_push _
 generalize h15.push (.cells #[.slice p15 n.b.length c15] T.s_uint8)=h16 at f16 row16 sz16⊢
 have f016:=f15.tt f16
 have k16:=f016.get C.blk id
 refine⟨cell_at k16 rfl, ?_⟩
 have zh15:=f15.1
 have zg:=C.fr.1
 have nkb: ∀y,inBlk s.np y→y≠b:=fun y hy=>(C.ng y hy).2.1
 have lk: ∀y,inBlk s.np y→y<h.size:=fun y hy=>C.no.blk_lt hy
 refine den_append tN uN (C.no.frame f016 (fun _ _=>id)) row16 rfl (fun v hv=>by simp at hv;subst hv;rfl) (by omega) (by omega) ?_
 intro p17 c17 h17 o17 _ f17 g17
 refine⟨_,_,_,rfl, ?_⟩
 have k17:=f17.get k16 (fun hx=>nkb _ hx rfl)
 refine storeP_blk k17 (by simp) fun h18 q1 q2 q3=> ?_
 have f18:Fr (fun x=>x=b) h17 h18:=Fr.of_eq q2 q3
 have F18:Fr (fun x=>x=b∨inBlk s.np x) h h18:=(f016.mono (fun _ _=>False.elim)).tt ((f17.mono (fun _ _ hx=> .inr hx)).tt (f18.mono (fun _ _ hx=> .inl hx)))
 have z17:=f17.1
 have z18:=f18.1
 have n17: ∀y,inBlk p17 y→inBlk s.np y∨h16.size≤y:=g17
 have b15: ∀y,inBlk p15 y→h.size≤y∧y<h15.size:=fun y hy=>⟨g15 y hy,o15.blk_lt hy⟩
 have o1518:Own h18 p15 n.b.length c15 1 (bc n.b):=((o15.frame f16 (fun _ _=>id)).frame f17 (fun y hy hx=>by have:=b15 y hy;have:=lk y hx;omega)).frame f18 (fun y hy e=>by have:=b15 y hy;omega)
 have eQ: ∀y,E y→ ¬(y=b∨inBlk s.np y):=fun y hy hx=>hx.elim (C.eg y hy).2.2 (fun hx=>(C.ng y hx).2.2.1 hy)
 have o18:=o17.frame f18 (fun y hy e=>(n17 y hy).elim (fun hx=>nkb y hx e) (fun hx=>by omega))
 refine hk h18 { s with notes:=s.notes++ [⟨p15,c15,n.b⟩],np:=p17,nc:=c17 } (fun y=>E y∨inBlk p15 y) ⟨?_, ?_,C.gb, ?_, ?_, ?_, ?_, ?_, ?_, ?_⟩ ?_
 ·exact C.fr.step F18 (fun y hy hx=>hx.elim (fun e=>by have:=C.gb;omega) (fun hx=>by have:=(C.ng y hx).1;omega))
 ·show h18[b]? =_
  rw[q1]
  dsimp only
  rw[List.length_append];rfl
 ·exact C.ko.frame F18 (fun y hy hx=>hx.elim (C.kg y hy).2.1 (fun h2=>(C.ng y h2).2.2.2 hy))
 ·intro y hy
  have hy':=C.kg y hy
  have ly:y<h.size:=C.ko.blk_lt hy
  exact⟨hy'.1,hy'.2.1,fun he=>he.elim hy'.2.2 (fun h2=>by have:=b15 y h2;omega)⟩
 ·show Own h18 p17 (s.notes++ [_]).length c17 1 ((s.notes++ [_]).flatMap nenc)
  rw[List.length_append,List.flatMap_append]
  simpa using o18
 ·intro y hy
  rcases n17 y hy with hx|hx
  ·exact⟨(C.ng y hx).1,(C.ng y hx).2.1,fun he=>he.elim (C.ng y hx).2.2.1 (fun h2=>by have:=b15 y h2;have:=lk y hx;omega),(C.ng y hx).2.2.2⟩
  ·exact⟨by omega,by omega,fun he=>he.elim (fun h2=>by have:=(C.eg y h2).2.1;omega) (fun h2=>by have:=b15 y h2;omega),fun h2=>by have:=C.ko.blk_lt h2;omega⟩
 ·intro x hx
  exact((C.kd x hx).frame F18 eQ).mono (fun y=> .inl)
 ·intro x hx
  rcases List.mem_append.1 hx with hx|hx
  ·exact((C.nd x hx).frame F18 eQ).mono (fun y=> .inl)
  ·simp at hx;subst hx;exact BV.of_own o1518 (fun y=> .inr)
 ·rintro y (hy|hy)
  ·exact⟨(C.eg y hy).1,by have:=(C.eg y hy).2.1;omega,(C.eg y hy).2.2⟩
  ·exact⟨by have:=b15 y hy;omega,by have:=b15 y hy;omega,by have:=b15 y hy;omega⟩
 ·unfold SC.abs
  dsimp only
  rw[List.map_append];rfl
theorem all_ok (H:Has h t X A) (ok:okA A) (hk: ∀h' p' l' c',SL h h' p' l' c' A→Fr (fun _=>False) h h'→R (.slice p' l' c') h'):CallsH Tryz.prog F.sessions_Table_All #[.pointer (some ⟨t,0,none⟩)] h R:=by
 obtain⟨_,lab,L,TB,rfl,_,hS⟩:=H
 have hl:=ok.le
 rw[List.length_map] at hl
 obtain⟨tp,tc,htb,town,_⟩:=TB.blk
 refine sessions_Table_All.walk ⟨_,_,_,cell_at htb rfl, ?_⟩
 refine⟨fun op ol oc i h1=> ∃k:Nat,i=(k:Int)∧k≤L.length∧SL h h1 op ol oc ((L.map SC.abs).take k)∧Fr (fun _=>False) h h1,fun _ _ _ i _=>L.length - i.toNat,⟨0,rfl,by omega,⟨[],fun _=>False,rfl, .nil rfl rfl rfl rfl,rfl,(fun x hx=>by cases hx),(fun y hy=>hy.elim),fun y ⟨a,e,_⟩=>by cases e⟩,Fr.refl _ _⟩, ?_⟩
 rintro op ol oc _ g ⟨k,rfl,hkn,O,fg⟩
 have TBg:=TB.on fg
 have htg:=fg.get htb id
 have owng:=town.frame fg (fun _ _=>id)
 have olen:=O.len
 rw[List.length_take,List.length_map] at olen
 by_cases hlt:k<L.length
 ·have q1:(k:Int)<(L.length:Int):=by omega
  simp only[q1,decide_true,if_true,Int.toNat_natCast]
  have hs:L[k]? =some L[k]:=List.getElem?_eq_getElem hlt
  generalize L[k]=s at hs
  have SA:=TBg.ses k s hs
  have okS:=ok.at_ k _ (abs_at hs)
  have kl:s.kept.length≤6:=by have:=okS.kl;rwa[show s.abs.kept.length=s.kept.length from List.length_map _] at this
  have nl:s.notes.length≤6:=by have:=okS.nl;rwa[show s.abs.notes.length=s.notes.length from List.length_map _] at this
  have kb: ∀a∈s.kept,a.v.b.length≤1000:=fun a ha=>(okS.kd a.abs (List.mem_map_of_mem ha)).2
  have nb: ∀a∈s.notes,a.b.length≤1000:=fun a ha=>by have:=(okS.nd a.b (List.mem_map_of_mem ha)).2;omega
  obtain⟨ab,aoff,rfl⟩:=owng.addr (by omega)
  refine⟨⟨by first|trivial|omega,by first|trivial|omega⟩,onSome_some.2 ⟨some ⟨s.b,0,none⟩, ?_,onSome_some.2 ?_⟩⟩
  ·rw[Nat.mul_one];exact owng.cell (by rw[List.getElem?_map,hs];rfl)
  refine sessions_Session.ld SA.blk (sessions_Session.new fun b h8 eb hb8 f8=> ?_)
  refine storeP_blk hb8 (by simp) fun h9 a1 a2 a3=>storeP_blk a1 (by simp) fun h10 b1 b2 b3=>onSome_some.2 ?_
  have f10:Fr (fun _=>False) g h10:=f8.step ((Fr.of_eq (S:=fun x=>x=b) a2 a3).tt (Fr.of_eq b2 b3)) (fun y hy e=>by omega)
  have SA10:=SA.frame f10 (fun _ _ _ _ _=>id) (fun _ _=>id)
  refine⟨_,_,_,cell_at SA10.blk rfl, ?_⟩
  have C10:Cp g h10 b ⟨b,s.num,s.token,s.up,s.watch, [],none,0, [],none,0⟩ (fun _=>False):=
   ⟨f10,b1,by omega, .nil rfl rfl rfl rfl,(fun y ⟨a,e,_⟩=>by cases e), .nil rfl rfl rfl rfl,(fun y ⟨a,e,_⟩=>by cases e),(fun a ha=>by cases ha),(fun a ha=>by cases ha),fun y hy=>hy.elim⟩
  refine⟨fun i h'=> ∃(j:Nat) (s':SC) (E:Nat→Prop),i=(j:Int)∧j≤s.kept.length∧Cp g h' b s' E∧s'.abs=⟨s.num,s.token,s.up,s.watch,s.abs.kept.take j, []⟩,fun i _=>s.kept.length - i.toNat,⟨0,_,_,rfl,by omega,C10,rfl⟩, ?_⟩
  clear C10 SA10 f10 b1 b2 b3 a1 a2 a3 hb8 f8
  rintro _ h11 ⟨j,s',E,rfl,hj,C,hab⟩
  have SA11:=SA.frame C.fr (fun _ _ _ _ _=>id) (fun _ _=>id)
  by_cases hjl:j<s.kept.length
  ·have q2:(j:Int)<(s.kept.length:Int):=by omega
   simp only[q2,decide_true,if_true,Int.toNat_natCast]
   have ha:s.kept[j]? =some s.kept[j]:=List.getElem?_eq_getElem hjl
   generalize s.kept[j]=a at ha
   have own11:=SA11.kown
   obtain⟨kb',koff,hkp⟩:=own11.addr (by omega)
   rw[hkp] at own11
   refine⟨⟨by first|trivial|omega,by first|trivial|omega⟩, ?_⟩
   rw[hkp]
   refine onSome_some.2 (sessions_Answer.ldA (own11.heldAt aenc_len ha) ?_)
   have s'l:s'.kept.length=j:=by
    have:=congrArg (fun x=>x.kept.length) hab
    have e1:s'.abs.kept.length=s'.kept.length:=List.length_map _
    dsimp only at this
    rw[e1,List.length_take] at this
    have e2:s.abs.kept.length=s.kept.length:=List.length_map _
    omega
   refine C.answer (SA11.kd a (List.mem_of_getElem? ha)).row (kb a (List.mem_of_getElem? ha)) (by omega) fun h18 s18 E18 C18 hab18=> ?_
   rw[wrap_id (by omega) (by omega)]
   refine⟨⟨j+1,s18,E18,by omega,by omega,C18, ?_⟩, ?_⟩
   ·rw[hab18,hab]
    dsimp only
    congr 1
    rw[List.take_add_one,show s.abs.kept[j]? =some a.abs by show(s.kept.map AV.abs)[j]? =_;rw[List.getElem?_map,ha];rfl];rfl
   ·show s.kept.length - Int.toNat ((j:Int)+1)<s.kept.length - Int.toNat (j:Int);omega
  ·have q2: ¬(j:Int)<(s.kept.length:Int):=by omega
   simp only[q2,decide_false,Bool.false_eq_true,if_false]
   refine onSome_some.2 ⟨_,_,_,cell_at SA11.blk rfl, ?_⟩
   have hab0:s'.abs=⟨s.num,s.token,s.up,s.watch,s.abs.kept,s.abs.notes.take 0⟩:=by
    rw[hab,List.take_of_length_le (by have:s.abs.kept.length=s.kept.length:=List.length_map _;omega)];rfl
   refine⟨fun i h'=> ∃(j:Nat) (s':SC) (E:Nat→Prop),i=(j:Int)∧j≤s.notes.length∧Cp g h' b s' E∧s'.abs=⟨s.num,s.token,s.up,s.watch,s.abs.kept,s.abs.notes.take j⟩,fun i _=>s.notes.length - i.toNat,⟨0,s',E,rfl,by omega,C,hab0⟩, ?_⟩
   clear C SA11 hab hab0 hj hjl q2
   rintro _ h19 ⟨j,s',E,rfl,hj,C,hab⟩
   have SA19:=SA.frame C.fr (fun _ _ _ _ _=>id) (fun _ _=>id)
   by_cases hjl:j<s.notes.length
   ·have q2:(j:Int)<(s.notes.length:Int):=by omega
    simp only[q2,decide_true,if_true,Int.toNat_natCast]
    have ha:s.notes[j]? =some s.notes[j]:=List.getElem?_eq_getElem hjl
    generalize s.notes[j]=a at ha
    have own19:=SA19.nown
    obtain⟨nb',noff,hnp⟩:=own19.addr (by omega)
    rw[hnp] at own19
    refine⟨⟨by first|trivial|omega,by first|trivial|omega⟩, ?_⟩
    rw[hnp]
    refine onSome_some.2 ⟨a.p,a.b.length,a.c, ?_, ?_⟩
    ·have:=(own19.heldAt nenc_len ha).1
     rwa[add_zero_addr] at this
    have s'l:s'.notes.length=j:=by
     have:=congrArg (fun x=>x.notes.length) hab
     have e1:s'.abs.notes.length=s'.notes.length:=List.length_map _
     dsimp only at this
     rw[e1,List.length_take] at this
     have e2:s.abs.notes.length=s.notes.length:=List.length_map _
     omega
    refine C.note (SA19.nd a (List.mem_of_getElem? ha)).row (nb a (List.mem_of_getElem? ha)) (by omega) fun h18 s18 E18 C18 hab18=> ?_
    rw[wrap_id (by omega) (by omega)]
    refine⟨⟨j+1,s18,E18,by omega,by omega,C18, ?_⟩, ?_⟩
    ·rw[hab18,hab]
     dsimp only
     congr 1
     rw[List.take_add_one,show s.abs.notes[j]? =some a.b by show(s.notes.map BV.b)[j]? =_;rw[List.getElem?_map,ha];rfl];rfl
    ·show s.notes.length - Int.toNat ((j:Int)+1)<s.notes.length - Int.toNat (j:Int);omega
   ·have q2: ¬(j:Int)<(s.notes.length:Int):=by omega
    simp only[q2,decide_false,Bool.false_eq_true,if_false]
    have hab1:s'.abs=s.abs:=by
     rw[hab,List.take_of_length_le (by have:s.abs.notes.length=s.notes.length:=List.length_map _;omega)];rfl
    refine sessions_Session.ld C.blk ?_
    obtain⟨xs,D,hx1,hx2,hx3,hx4,hx5,hx6⟩:=O
    have own19:=hx2.frame C.fr (fun _ _=>id)
    refine den_append1 tS uSe own19 rfl (fun v hv=>by simp at hv;rcases hv with rfl|rfl|rfl|rfl|rfl|rfl<;>rfl) (by omega) (by omega) ?_
    intro p25 c25 h25 o25 f25 g25
    refine⟨_,_,_,rfl, ?_⟩
    rw[wrap_id (by omega) (by omega)]
    have z19:=C.fr.1
    have zg:=fg.1
    have opg: ∀y,inBlk op y→y<g.size:=fun y hy=>hx2.blk_lt hy
    refine⟨⟨k+1,by omega,by omega,⟨xs++ [s'],fun y=>D y∨E y∨inBlk s'.kp y∨inBlk s'.np y,by rw[List.length_append,hx1];rfl, ?_, ?_, ?_, ?_, ?_⟩, ?_⟩, ?_⟩
    ·rw[List.flatMap_append];simpa using o25
    ·rw[List.map_append,hx3,List.take_add_one,List.getElem?_map,hs]
     show _++ [s'.abs]=_++ [s.abs]
     rw[hab1]
    ·intro x hx
     rcases List.mem_append.1 hx with hx|hx
     ·refine(((hx4 x hx).frame C.fr (fun _ _=>id)).frame f25 (fun y hy=>(hx5 y hy).2.2)).mono (fun y=> .inl)
     ·simp at hx;subst hx
      refine SRow.frame (h:=h19) ⟨C.ko.row',fun _ y hy=> .inr (.inr (.inl hy)),fun a ha=>(C.kd a ha).mono (fun y hy=> .inr (.inl hy)),C.no.row',fun _ y hy=> .inr (.inr (.inr hy)),fun a ha=>(C.nd a ha).mono (fun y hy=> .inr (.inl hy))⟩ f25 ?_
      rintro y (hy|hy|hy|hy) ho
      ·exact(hx5 y hy).2.2 ho
      ·have:=opg y ho;have:=(C.eg y hy).1;omega
      ·have:=opg y ho;have:=(C.kg y hy).1;omega
      ·have:=opg y ho;have:=(C.ng y hy).1;omega
    ·have z25:=f25.1
     rintro y (hy|hy|hy|hy)
     ·exact⟨(hx5 y hy).1,by have:=(hx5 y hy).2.1;omega,fun ho=>(g25 y ho).elim (hx5 y hy).2.2 (fun h2=>by have:=(hx5 y hy).2.1;omega)⟩
     ·have a:=C.eg y hy
      exact⟨by omega,by omega,fun ho=>(g25 y ho).elim (fun h2=>by have:=opg y h2;omega) (fun h2=>by omega)⟩
     ·have a:=C.kg y hy
      have b:=C.ko.blk_lt hy
      exact⟨by omega,by omega,fun ho=>(g25 y ho).elim (fun h2=>by have:=opg y h2;omega) (fun h2=>by omega)⟩
     ·have a:=C.ng y hy
      have b:=C.no.blk_lt hy
      exact⟨by omega,by omega,fun ho=>(g25 y ho).elim (fun h2=>by have:=opg y h2;omega) (fun h2=>by omega)⟩
    ·intro y hy
     rcases g25 y hy with h2|h2
     ·exact hx6 y h2
     ·omega
    ·exact(fg.tt C.fr).step f25 (fun y hy ho=>by have:=hx6 y ho;omega)
    ·show L.length - Int.toNat ((k:Int)+1)<L.length - Int.toNat (k:Int);omega
 ·have q1: ¬(k:Int)<(L.length:Int):=by omega
  simp only[q1,decide_false,Bool.false_eq_true,if_false]
  rw[List.take_of_length_le (by rw[List.length_map];omega)] at O
  exact hk g op ol oc O fg
end Ses
end Go.Proofs.YtgccegnmggjkjaaGreatDoor
set_option maxRecDepth 100000
namespace Go.Proofs.YtgccegnmggjkjaaGreatDoor
open Go.Den Go.Fields
namespace Ses
open Fld
variable {h h' h0 : Heap} {t : Nat} {X : Ft} {R : Value → Heap → Prop} {p q : Option Addr} {c d i : Nat} {A : List Ses}
def headR (s:Ses):List UInt8:=encNum s.num++encNum s.token++encNum (bit s.up)++encNum (bit s.watch)++encNum s.kept.length++encNum s.notes.length
def ansR (a:Nat×List UInt8):List UInt8:=encNum a.1++encText a.2
def recS (s:Ses):List (List UInt8):=headR s::(s.kept.map ansR++s.notes.map encText)
def recs (A:List Ses):List (List UInt8):=A.flatMap recS
theorem recS_len (s:Ses):(recS s).length=1+s.kept.length+s.notes.length:=by unfold recS;simp;omega
theorem recs_le (ok:okA A):(recs A).length≤13*A.length:=by
 have key: ∀B:List Ses,(∀s∈B,s.kept.length≤6∧s.notes.length≤6)→(recs B).length≤13*B.length:=by
  intro B
  induction B with
  |nil=>intro _;simp[recs]
  |cons s B ih=>
   intro hB
   have h1:=hB s List.mem_cons_self
   have h2:=ih (fun x hx=>hB x (List.mem_cons_of_mem _ hx))
   unfold recs at*
   rw[List.flatMap_cons,List.length_append,recS_len,List.length_cons]
   omega
 refine key A fun s hs=> ?_
 obtain⟨i,hi⟩:=List.getElem?_of_mem hs
 exact⟨(ok.at_ i s hi).kl,(ok.at_ i s hi).nl⟩
theorem save_ok (H:Has h t X A) (ok:okA A) (hk: ∀h' p' l' c',BL h h' p' l' c' (recs A)→Fr (fun _=>False) h h'→R (.slice p' l' c') h'):CallsH Tryz.prog F.sessions_Table_Save #[.pointer (some ⟨t,0,none⟩)] h R:=by
 refine sessions_Table_Save.walk (all_ok H ok fun h1 p1 l1 c1 O1 f1=>⟨_,_,_,rfl, ?_⟩)
 obtain⟨xs,D,rfl,hx2,rfl,hx4,hx5,hx6⟩:=O1
 have hxl:=ok.le
 rw[List.length_map] at hxl
 refine⟨fun op ol oc i h2=> ∃k:Nat,i=(k:Int)∧k≤xs.length∧BL h1 h2 op ol oc (recs ((xs.map SC.abs).take k))∧ol≤13*k∧Fr (fun _=>False) h1 h2,fun _ _ _ i _=>xs.length - i.toNat,⟨0,rfl,by omega,BL.nil,by omega,Fr.refl _ _⟩, ?_⟩
 rintro op ol oc _ g ⟨k,rfl,hkn,B,hol,fg⟩
 by_cases hlt:k<xs.length
 ·have q1:(k:Int)<(xs.length:Int):=by omega
  simp only[q1,decide_true,if_true,Int.toNat_natCast]
  have hs:xs[k]? =some xs[k]:=List.getElem?_eq_getElem hlt
  generalize xs[k]=s at hs
  have hsA:(xs.map SC.abs)[k]? =some s.abs:=by rw[List.getElem?_map,hs];rfl
  have okS:=ok.at_ k _ hsA
  have kl:s.kept.length≤6:=by have:=okS.kl;rwa[show s.abs.kept.length=s.kept.length from List.length_map _] at this
  have nl:s.notes.length≤6:=by have:=okS.nl;rwa[show s.abs.notes.length=s.notes.length from List.length_map _] at this
  have onum:s.num=k+1:=okS.num
  have otk:s.token≤2147483648:=okS.tk.2
  have kb: ∀a∈s.kept,a.id≤1099511627776∧a.v.b.length≤1000:=fun a ha=>okS.kd a.abs (List.mem_map_of_mem ha)
  have nb: ∀a∈s.notes,a.b.length≤600:=fun a ha=>(okS.nd a.b (List.mem_map_of_mem ha)).2
  have owng:=hx2.frame fg (fun _ _=>id)
  have SRg: ∀ {h':Heap},Fr (fun _=>False) g h'→SRow h' D s:=fun f=>(hx4 s (List.mem_of_getElem? hs)).frame (fg.tt f) (fun _ _=>id)
  obtain⟨ab,aoff,rfl⟩:=owng.addr (by omega)
  have zg:=fg.1
  have zh:=f1.1
  refine⟨⟨by first|trivial|omega,by first|trivial|omega⟩,onSome_some.2 (sessions_Session.ldA (owng.heldAt senc_len hs) (sessions_Session.new fun b h9 eb hb9 f9=> ?_))⟩
  refine⟨_,cell_at hb9 rfl,_,cell_at hb9 rfl,_,cell_at hb9 rfl,_,cell_at hb9 rfl,_,_,_,cell_at hb9 rfl,_,_,_,cell_at hb9 rfl, ?_⟩
  refine Fld.new_ok fun h10 w S10 W10 f10 g10=>⟨_,rfl, ?_⟩
  have u10:Up h9 S10 h10:=⟨f10,g10⟩
  have nbS: ∀ {S:Nat→Prop} {h':Heap},Up h9 S h'→ ¬S b:=fun u hx=>by have:=u.ge b hx;have:=lt_of_get hb9;omega
  have b10:=f10.get hb9 id
  refine⟨cell_at b10 rfl,cell_at b10 rfl,cell_at b10 rfl,cell_at b10 rfl,cell_at b10 rfl,cell_at b10 rfl, ?_⟩
  refine int_ok W10 (by simp) (by omega) fun h11 S11 W11 s11=>⟨_,rfl, ?_⟩
  have b11:=s11.fr.get b10 (nbS u10)
  have u11:=u10.step s11
  have e1:natOf (s.num:Int)=s.num:=by unfold natOf;omega
  rw[e1,List.nil_append] at W11
  have l1:=(encNum_len s.num).2
  refine⟨cell_at b11 rfl,cell_at b11 rfl,cell_at b11 rfl,cell_at b11 rfl,cell_at b11 rfl, ?_⟩
  refine num_ok s.token W11 (by omega) rfl (by omega) fun h12 S12 W12 s12=>⟨_,rfl, ?_⟩
  have b12:=s12.fr.get b11 (nbS u11)
  have u12:=u11.step s12
  have l2:=(encNum_len s.token).2
  refine⟨cell_at b12 rfl,cell_at b12 rfl,cell_at b12 rfl,cell_at b12 rfl, ?_⟩
  refine bool_ok W12 (by rw[List.length_append];omega) fun h13 S13 W13 s13=>⟨_,rfl, ?_⟩
  have b13:=s13.fr.get b12 (nbS u12)
  have u13:=u12.step s13
  have l3:=(encNum_len (bit s.up)).2
  refine⟨cell_at b13 rfl,cell_at b13 rfl,cell_at b13 rfl, ?_⟩
  refine bool_ok W13 (by simp only[List.length_append];omega) fun h14 S14 W14 s14=>⟨_,rfl, ?_⟩
  have b14:=s14.fr.get b13 (nbS u13)
  have u14:=u13.step s14
  have l4:=(encNum_len (bit s.watch)).2
  refine⟨cell_at b14 rfl,cell_at b14 rfl, ?_⟩
  refine int_ok W14 (by simp only[List.length_append];omega) (by omega) fun h15 S15 W15 s15=>⟨_,rfl, ?_⟩
  have b15:=s15.fr.get b14 (nbS u14)
  have u15:=u14.step s15
  have e5:natOf ((s.kept.length:Nat):Int)=s.kept.length:=by unfold natOf;omega
  rw[e5] at W15
  have l5:=(encNum_len s.kept.length).2
  refine⟨cell_at b15 rfl,cell_at b15 rfl, ?_⟩
  refine int_ok W15 (by simp only[List.length_append];omega) (by omega) fun h16 S16 W16 s16=>⟨_,rfl, ?_⟩
  have b16:=s16.fr.get b15 (nbS u15)
  have u16:=u15.step s16
  have e6:natOf ((s.notes.length:Nat):Int)=s.notes.length:=by unfold natOf;omega
  rw[e6] at W16
  have l6:=(encNum_len s.notes.length).2
  refine⟨cell_at b16 rfl,cell_at b16 rfl, ?_⟩
  have eh:encNum s.num++encNum s.token++encNum (bit s.up)++encNum (bit s.watch)++encNum s.kept.length++encNum s.notes.length=headR s.abs:=by
   unfold headR
   rw[show s.abs.kept.length=s.kept.length from List.length_map _,show s.abs.notes.length=s.notes.length from List.length_map _];rfl
  have hl6:(headR s.abs).length≤60:=by rw[←eh];simp only[List.length_append];omega
  rw[eh] at W16
  refine bytes_ok W16 (by omega) fun q17 d17 h17 o17 f17 g17=>⟨_,_,_,rfl, ?_⟩
  have b17:=f17.get b16 id
  refine⟨cell_at b17 rfl,cell_at b17 rfl, ?_⟩
  have F17:Fr (fun _=>False) g h17:=f9.tt (u16.fr.tt f17)
  have z9:=f9.1
  have z16:=u16.fr.1
  have zF17:=F17.1
  obtain⟨ys,DB,hy1,hy2,hy3,hy4,hy5,hy6⟩:=B
  refine newP_of ?_
  have f18:Fr (fun _=>False) h17 (h17.push (.cells #[.slice q17 (headR s.abs).length d17] T.s_uint8)):=Fr.push _ _
  have row18:Row (h17.push (.cells #[.slice q17 (headR s.abs).length d17] T.s_uint8)) (some ⟨h17.size,0,none⟩) (nenc ⟨q17,d17,headR s.abs⟩):=row_new (cs:=nenc ⟨q17,d17,headR s.abs⟩)
  have sz18:(h17.push (.cells #[.slice q17 (headR s.abs).length d17] T.s_uint8)).size=h17.size+1:=Array.size_push _
  generalize h17.push (.cells #[.slice q17 (headR s.abs).length d17] T.s_uint8)=h18 at f18 row18 sz18⊢
  have b18:=f18.get b17 id
  refine⟨cell_at b18 rfl,cell_at b18 rfl, ?_⟩
  have opg: ∀y,inBlk op y→y<g.size:=fun y hy=>hy2.blk_lt hy
  have nbo: ¬inBlk op b:=fun hx=>by have:=opg b hx;omega
  refine den_append tN uN ((hy2.frame F17 (fun _ _=>id)).frame f18 (fun _ _=>id)) row18 rfl (fun v hv=>by simp at hv;subst hv;rfl) (by omega) (by omega) ?_
  intro p19 c19 h19 o19 _ f19 g19
  have b19:=f19.get b18 nbo
  refine⟨_,_,_,rfl,cell_at b19 rfl,cell_at b19 rfl, ?_⟩
  have z19:=f19.1
  have b17': ∀y,inBlk q17 y→h16.size≤y∧y<h17.size:=fun y hy=>⟨g17 y hy,o17.blk_lt hy⟩
  have B19:BL h1 h19 p19 (ol+1) c19 (recs ((xs.map SC.abs).take k)++ [headR s.abs]):=by
   refine⟨ys++ [⟨q17,d17,headR s.abs⟩],fun y=>DB y∨inBlk q17 y,by rw[List.length_append,hy1];rfl, ?_, ?_, ?_, ?_, ?_⟩
   ·rw[List.flatMap_append];simpa using o19
   ·rw[List.map_append,hy3];rfl
   ·intro x hx
    rcases List.mem_append.1 hx with hx|hx
    ·exact((((hy4 x hx).frame F17 (fun _ _=>id)).frame f18 (fun _ _=>id)).frame f19 (fun y hy=>(hy5 y hy).2.2)).mono (fun y=> .inl)
    ·simp at hx;subst hx
     exact BV.of_own ((o17.frame f18 (fun _ _=>id)).frame f19 (fun y hy ho=>by have:=b17' y hy;have:=opg y ho;omega)) (fun y=> .inr)
   ·rintro y (hy|hy)
    ·have a:=hy5 y hy
     exact⟨a.1,by omega,fun ho=>(g19 y ho).elim a.2.2 (fun h2=>by omega)⟩
    ·have a:=b17' y hy
     exact⟨by omega,by omega,fun ho=>(g19 y ho).elim (fun h2=>by have:=opg y h2;omega) (fun h2=>by omega)⟩
   ·intro y hy
    rcases g19 y hy with h2|h2
    ·exact hy6 y h2
    ·omega
  have F19:Fr (fun _=>False) h1 h19:=(fg.tt (F17.tt f18)).step f19 (fun y hy ho=>by have:=hy6 y ho;omega)
  have zb19:b<h19.size:=lt_of_get b19
  have hb1:h1.size≤b:=by omega
  have npb: ¬inBlk p19 b:=fun ho=>(g19 b ho).elim nbo (fun h2=>by omega)
  have SR: ∀ {h':Heap},Fr (fun _=>False) h1 h'→SRow h' D s:=fun f=>(hx4 s (List.mem_of_getElem? hs)).frame f (fun _ _=>id)
  clear o19 f19 g19 row18 sz18 f18 b18 b17 o17 f17 g17 W16 b16 W15 b15 W14 b14 W13 b13 W12 b12 W11 b11 W10 b10 hb9 s16 s15 s14 s13 s12 s11 f10 g10 u10 u11 u12 u13 u14 u15 u16 b17' hy2 hy4 hy5 F17 f9
  refine⟨_,_,_,cell_at b19 rfl, ?_⟩
  refine⟨fun op' ol' oc' i h'=> ∃j:Nat,i=(j:Int)∧j≤s.kept.length∧BL h1 h' op' ol' oc' (recs ((xs.map SC.abs).take k)++ [headR s.abs]++(s.abs.kept.map ansR).take j)∧ol'≤ol+1+j∧Fr (fun _=>False) h1 h'∧
   sessions_Session.at h' b (s.num:Int) (s.token:Int) s.up s.watch s.kp s.kept.length s.kc s.np s.notes.length s.nc∧ ¬inBlk op' b,fun _ _ _ i _=>s.kept.length - i.toNat,⟨0,rfl,by omega,by simpa using B19,by omega,F19,b19,npb⟩, ?_⟩
  clear B19 F19 b19 npb
  rintro op' ol' oc' _ h20 ⟨j,rfl,hj,B20,hol',F20,b20,nb20⟩
  have z20:=F20.1
  by_cases hjl:j<s.kept.length
  ·have q2:(j:Int)<(s.kept.length:Int):=by omega
   simp only[q2,decide_true,if_true,Int.toNat_natCast]
   have ha:s.kept[j]? =some s.kept[j]:=List.getElem?_eq_getElem hjl
   generalize s.kept[j]=a at ha
   have row20:=(SR F20).k
   obtain⟨ka,hkp⟩:=row20.some (fun e=>by have:=congrArg List.length e;rw[flat_len AV.enc 2 aenc_len,List.length_nil] at this;omega)
   rw[hkp] at row20
   refine⟨⟨by first|trivial|omega,by first|trivial|omega⟩, ?_⟩
   rw[hkp]
   have kba:=kb a (List.mem_of_getElem? ha)
   refine onSome_some.2 (sessions_Answer.ldA (row20.heldAt aenc_len ha) (sessions_Answer.new fun b2 h23 eb2 hb2 f23=>⟨_,cell_at hb2 rfl,_,_,_,cell_at hb2 rfl, ?_⟩))
   refine Fld.new_ok fun h24 w S24 W24 f24 g24=>⟨_,rfl, ?_⟩
   have u24:Up h23 S24 h24:=⟨f24,g24⟩
   have b24:=f24.get hb2 id
   refine⟨cell_at b24 rfl,cell_at b24 rfl, ?_⟩
   refine num_ok a.id W24 (by simp) rfl (by omega) fun h25 S25 W25 s25=>⟨_,rfl, ?_⟩
   rw[List.nil_append] at W25
   have u25:=u24.step s25
   have b25:=s25.fr.get b24 (fun hx=>by have:=u24.ge b2 hx;have:=lt_of_get hb2;omega)
   refine⟨cell_at b25 rfl, ?_⟩
   have F25:Fr (fun _=>False) h1 h25:=F20.tt (f23.tt u25.fr)
   have l7:=(encNum_len a.id).2
   have rowa:=((SR F25).kd a (List.mem_of_getElem? ha)).row
   refine text_ok' W25 (by omega) rowa rfl (by omega) (fun y hy hne hS=> ?_) fun h26 S26 W26 s26=>⟨_,rfl, ?_⟩
   ·have a1:=(hx4 s (List.mem_of_getElem? hs)).kd a (List.mem_of_getElem? ha)
    have a2:=(hx5 y (a1.own hne y hy)).2.1
    have a3:=u25.ge y hS
    have a4:=f23.1
    omega
   have u26:=u25.step s26
   have l8:=(encNum_len a.v.b.length).2
   have el:(encText a.v.b).length=(encNum a.v.b.length).length+a.v.b.length:=by unfold encText;rw[List.length_append]
   refine bytes_ok W26 (by rw[List.length_append];omega) fun q27 d27 h27 o27 f27 g27=>⟨_,_,_,rfl, ?_⟩
   have F27:Fr (fun _=>False) h20 h27:=f23.tt (u26.fr.tt f27)
   have z27:=F27.1
   have zu:=(f23.tt u26.fr).1
   have er:encNum a.id++encText a.v.b=ansR a.abs:=rfl
   rw[er] at o27⊢
   refine(B20.on F27).push (by omega) o27 (fun y hy=>⟨by have:=g27 y hy;omega,fun ho=>by have:=B20.lt ho;have:=g27 y hy;omega⟩) (by omega) ?_
   intro p29 c29 h29 B29 f29 g29
   refine⟨_,_,_,rfl, ?_⟩
   rw[wrap_id (by omega) (by omega)]
   refine⟨⟨j+1,by omega,by omega, ?_,by omega, ?_,(by rw[←hkp];exact f29.get (F27.get b20 id) nb20), ?_⟩, ?_⟩
   ·rw[List.append_assoc] at B29
    rw[List.take_add_one,show(s.abs.kept.map ansR)[j]? =some (ansR a.abs) by show((s.kept.map AV.abs).map ansR)[j]? =_;rw[List.getElem?_map,List.getElem?_map,ha];rfl]
    rw[←List.append_assoc] at B29⊢
    exact B29
   ·refine(F20.tt F27).step f29 (fun y hy ho=> ?_)
    obtain⟨_,_,_,_,_,_,_,h6'⟩:=B20
    have:=h6' y ho;omega
   ·intro ho
    rcases g29 b ho with h2|h2
    ·exact nb20 h2
    ·have:=lt_of_get (F27.get b20 id);omega
   ·show s.kept.length - Int.toNat ((j:Int)+1)<s.kept.length - Int.toNat (j:Int);omega
  ·have q2: ¬(j:Int)<(s.kept.length:Int):=by omega
   simp only[q2,decide_false,Bool.false_eq_true,if_false]
   rw[List.take_of_length_le (l:=s.abs.kept.map ansR) (by rw[List.length_map,show s.abs.kept.length=s.kept.length from List.length_map _];omega)] at B20
   refine⟨_,_,_,cell_at b20 rfl, ?_⟩
   refine⟨fun op' ol' oc' i h'=> ∃j:Nat,i=(j:Int)∧j≤s.notes.length∧BL h1 h' op' ol' oc' (recs ((xs.map SC.abs).take k)++ [headR s.abs]++s.abs.kept.map ansR++(s.abs.notes.map encText).take j)∧ol'≤ol+7+j∧Fr (fun _=>False) h1 h',fun _ _ _ i _=>s.notes.length - i.toNat,⟨0,rfl,by omega,by simpa using B20,by omega,F20⟩, ?_⟩
   clear B20 F20 b20 nb20 z20 hol' hjl hj q2
   rintro op' ol' oc' _ h30 ⟨j,rfl,hj,B30,hol',F30⟩
   have z30:=F30.1
   by_cases hjl:j<s.notes.length
   ·have q2:(j:Int)<(s.notes.length:Int):=by omega
    simp only[q2,decide_true,if_true,Int.toNat_natCast]
    have ha:s.notes[j]? =some s.notes[j]:=List.getElem?_eq_getElem hjl
    generalize s.notes[j]=a at ha
    have row30:=(SR F30).n
    obtain⟨ka,hnp⟩:=row30.some (fun e=>by have:=congrArg List.length e;rw[flat_len nenc 1 nenc_len,List.length_nil] at this;omega)
    rw[hnp] at row30
    refine⟨⟨by first|trivial|omega,by first|trivial|omega⟩, ?_⟩
    rw[hnp]
    have nba:=nb a (List.mem_of_getElem? ha)
    refine onSome_some.2 ⟨a.p,a.b.length,a.c, ?_, ?_⟩
    ·have:=(row30.heldAt nenc_len ha).1
     rwa[add_zero_addr] at this
    refine Fld.new_ok fun h31 w S31 W31 f31 g31=>⟨_,rfl, ?_⟩
    have u31:Up h30 S31 h31:=⟨f31,g31⟩
    have rowa:=((SR (F30.tt f31)).nd a (List.mem_of_getElem? ha)).row
    refine text_ok' W31 (by simp) rowa rfl (by omega) (fun y hy hne hS=> ?_) fun h32 S32 W32 s32=>⟨_,rfl, ?_⟩
    ·have a1:=(hx4 s (List.mem_of_getElem? hs)).nd a (List.mem_of_getElem? ha)
     have a2:=(hx5 y (a1.own hne y hy)).2.1
     have a3:=u31.ge y hS
     omega
    rw[List.nil_append] at W32
    have u32:=u31.step s32
    have l8:=(encNum_len a.b.length).2
    have el:(encText a.b).length=(encNum a.b.length).length+a.b.length:=by unfold encText;rw[List.length_append]
    refine bytes_ok W32 (by omega) fun q33 d33 h33 o33 f33 g33=>⟨_,_,_,rfl, ?_⟩
    have F33:Fr (fun _=>False) h30 h33:=u32.fr.tt f33
    have z33:=F33.1
    have zu:=u32.fr.1
    refine(B30.on F33).push (by omega) o33 (fun y hy=>⟨by have:=g33 y hy;omega,fun ho=>by have:=B30.lt ho;have:=g33 y hy;omega⟩) (by omega) ?_
    intro p35 c35 h35 B35 f35 g35
    refine⟨_,_,_,rfl, ?_⟩
    rw[wrap_id (by omega) (by omega)]
    refine⟨⟨j+1,by omega,by omega, ?_,by omega, ?_⟩, ?_⟩
    ·rw[List.append_assoc] at B35
     rw[List.take_add_one,show(s.abs.notes.map encText)[j]? =some (encText a.b) by show((s.notes.map BV.b).map encText)[j]? =_;rw[List.getElem?_map,List.getElem?_map,ha];rfl]
     rw[←List.append_assoc] at B35⊢
     exact B35
    ·refine(F30.tt F33).step f35 (fun y hy ho=> ?_)
     obtain⟨_,_,_,_,_,_,_,h6'⟩:=B30
     have:=h6' y ho;omega
    ·show s.notes.length - Int.toNat ((j:Int)+1)<s.notes.length - Int.toNat (j:Int);omega
   ·have q2: ¬(j:Int)<(s.notes.length:Int):=by omega
    simp only[q2,decide_false,Bool.false_eq_true,if_false]
    rw[List.take_of_length_le (l:=s.abs.notes.map encText) (by rw[List.length_map,show s.abs.notes.length=s.notes.length from List.length_map _];omega)] at B30
    rw[wrap_id (by omega) (by omega)]
    refine⟨⟨k+1,by omega,by omega, ?_,by omega,F30⟩, ?_⟩
    ·have e:recs ((xs.map SC.abs).take (k+1))=recs ((xs.map SC.abs).take k)++ [headR s.abs]++s.abs.kept.map ansR++s.abs.notes.map encText:=by
      unfold recs
      rw[List.take_add_one,hsA,List.flatMap_append]
      simp[recS]
     rw[e];exact B30
    ·show xs.length - Int.toNat ((k:Int)+1)<xs.length - Int.toNat (k:Int);omega
 ·have q1: ¬(k:Int)<(xs.length:Int):=by omega
  simp only[q1,decide_false,Bool.false_eq_true,if_false]
  rw[List.take_of_length_le (by rw[List.length_map];omega)] at B
  exact hk g op ol oc (B.mono f1.1) (f1.tt fg)
end Ses
end Go.Proofs.YtgccegnmggjkjaaGreatDoor
set_option maxRecDepth 100000
namespace Go.Proofs.YtgccegnmggjkjaaGreatDoor
open Go.Den Go.Fields
namespace Ses
open Fld
variable {A : List Ses}
abbrev Recs:=List (List UInt8)
structure HD where
 num:Nat
 token:Nat
 up:Bool
 watch:Bool
 k:Nat
 n:Nat
 e:Int
def rdHead (b:List UInt8):HD:=
 let a:=readInt 0 b
 let t:=readNum a.2.1 a.2.2
 let u:=readMost 1 t.2.1 t.2.2
 let w:=readMost 1 u.2.1 u.2.2
 let k:=readInt w.2.1 w.2.2
 let n:=readInt k.2.1 k.2.2
 ⟨a.1,t.1,decide (u.1=1),decide (w.1=1),k.1,n.1,readEnd n.2.1 n.2.2⟩
def headOK (A:List Ses) (b:List UInt8):Prop:=(rdHead b).e=0∧(rdHead b).k≤6∧(rdHead b).n≤6∧openE A (rdHead b).token=0∧openN A (rdHead b).token=((rdHead b).num:Int)
instance (A : List Ses) (b : List UInt8) : Decidable (headOK A b) := by unfold headOK; infer_instance
def ansI (b:List UInt8):Nat:=(readNum 0 b).1
def ansD (b:List UInt8):List UInt8:=(readText (readNum 0 b).2.1 (readNum 0 b).2.2).1
def ansE (b:List UInt8):Int:=readEnd (readText (readNum 0 b).2.1 (readNum 0 b).2.2).2.1 (readText (readNum 0 b).2.1 (readNum 0 b).2.2).2.2
def ansOK (K:List (Nat×List UInt8)) (b:List UInt8):Prop:=ansE b=0∧keptL K (ansI b)=none∧ansI b≤1099511627776∧(ansD b).length≤1000
instance (K : List (Nat × List UInt8)) (b : List UInt8) : Decidable (ansOK K b) := by unfold ansOK; infer_instance
def keptN (ls:Recs):Nat→Option (List (Nat×List UInt8)×Recs)
 |0=>some ([],ls)
 |j+1=>match keptN ls j with
  |none=>none
  |some (_, [])=>none
  |some (K,b::rest)=>if ansOK K b then some (K++ [(ansI b,ansD b)],rest) else none
def noteOK (b:List UInt8):Prop:=readEnd (readText 0 b).2.1 (readText 0 b).2.2=0∧isNoteB (readText 0 b).1=true
instance (b : List UInt8) : Decidable (noteOK b) := by unfold noteOK; infer_instance
def notesN (ls:Recs):Nat→Option (List (List UInt8)×Recs)
 |0=>some ([],ls)
 |j+1=>match notesN ls j with
  |none=>none
  |some (_, [])=>none
  |some (N,b::rest)=>if noteOK b then some (N++ [(readText 0 b).1],rest) else none
def loadS (A:List Ses):Recs→Option (List Ses×Recs)
 | []=>none
 |b::l1=>if headOK A b then(match keptN l1 (rdHead b).k with
  |none=>none
  |some (K,l2)=>(match notesN l2 (rdHead b).n with
   |none=>none
   |some (N,l3)=>some (A++ [⟨(rdHead b).num,(rdHead b).token,(rdHead b).up,(rdHead b).watch,K,N⟩],l3))) else none
inductive Reach (ls0:Recs):List Ses→Recs→Prop
 |start:Reach ls0 [] ls0
 |step {A A':List Ses} {ls ls':Recs} (h:Reach ls0 A ls) (hs:loadS A ls=some (A',ls')):Reach ls0 A' ls'
theorem keptN_len (ls:Recs): ∀(j:Nat) (K:List (Nat×List UInt8)) (r:Recs),keptN ls j=some (K,r)→j≤ls.length∧r=ls.drop j∧K.length=j
 |0,K,r,h=>by simp[keptN] at h;obtain⟨rfl,rfl⟩:=h;simp
 |j+1,K,r,h=>by
  rw[keptN] at h
  split at h
  ·cases h
  ·cases h
  ·rename_i K' b rest hj
   obtain⟨h1,h2,h3⟩:=keptN_len ls j K' _ hj
   split at h
   ·simp at h
    obtain⟨rfl,rfl⟩:=h
    have hl:(ls.drop j).length=rest.length+1:=by rw[←h2];rfl
    rw[List.length_drop] at hl
    refine⟨by omega, ?_,by rw[List.length_append,h3];rfl⟩
    have:(ls.drop j).drop 1=rest:=by rw[←h2];rfl
    rw[←this,List.drop_drop]
   ·cases h
theorem rdHead_enc {s:Ses} {i:Nat} (ok:okS i s) (hi:i<8):rdHead (headR s)=⟨s.num,s.token,s.up,s.watch,s.kept.length,s.notes.length,0⟩:=by
 have h1:=ok.num
 have h2:=ok.tk
 have h3:=ok.kl
 have h4:=ok.nl
 unfold rdHead headR readInt
 simp only[List.append_assoc]
 rw[readMost_enc (by omega) (by omega)]
 dsimp only
 rw[readNum_enc (by omega)]
 dsimp only
 rw[readMost_enc (bit_le _) (by omega)]
 dsimp only
 rw[readMost_enc (bit_le _) (by omega)]
 dsimp only
 rw[readMost_enc (by omega) (by omega)]
 dsimp only
 have:=readMost_enc (top:=1099511627776) (n:=s.notes.length) (by omega) (by omega) []
 rw[List.append_nil] at this
 rw[this]
 dsimp only
 have eb: ∀b:Bool,decide (bit b=1)=b:=fun b=>by cases b<;>rfl
 rw[eb,eb];rfl
theorem ansR_dec {a:Nat×List UInt8} (h1:a.1≤1099511627776) (h2:a.2.length≤1000):ansI (ansR a)=a.1∧ansD (ansR a)=a.2∧ansE (ansR a)=0:=by
 have e1:readNum 0 (ansR a)=(a.1,0,encText a.2):=by unfold ansR;exact readNum_enc (by omega) _
 have e2:readText 0 (encText a.2)=(a.2,0, []):=by have:=readText_enc (t:=a.2) (by omega) [];rwa[List.append_nil] at this
 unfold ansI ansD ansE
 rw[e1]
 dsimp only
 rw[e2]
 exact⟨rfl,rfl,rfl⟩
theorem note_dec {n:List UInt8} (h:n.length≤600):readText 0 (encText n)=(n,0, []):=by
 have:=readText_enc (t:=n) (by omega) [];rwa[List.append_nil] at this
theorem keptN_enc {kept:List (Nat×List UInt8)} (hd: ∀a∈kept,a.1≤1099511627776∧a.2.length≤1000) (hn:(kept.map (·.1)).Nodup) (rest:Recs): ∀j,j≤kept.length→keptN (kept.map ansR++rest) j=some (kept.take j,(kept.drop j).map ansR++rest)
 |0,_=>by simp[keptN]
 |j+1,hj=>by
  have hjl:j<kept.length:=by omega
  have ha:kept[j]? =some kept[j]:=List.getElem?_eq_getElem hjl
  have hdj:=hd _ (List.mem_of_getElem? ha)
  rw[keptN,keptN_enc hd hn rest j (by omega),List.drop_eq_getElem_cons hjl]
  rw[List.map_cons,List.cons_append]
  dsimp only
  obtain⟨e1,e2,e3⟩:=ansR_dec hdj.1 hdj.2
  have hok:ansOK (kept.take j) (ansR kept[j]):=by
   refine⟨e3, ?_,by rw[e1];exact hdj.1,by rw[e2];exact hdj.2⟩
   rw[e1]
   unfold keptL
   have:(kept.take j).find? (fun a=>decide (a.1=kept[j].1))=none:=by
    rw[List.find?_eq_none]
    intro y hy e
    have e:y.1=kept[j].1:=by simpa using e
    obtain⟨m,hm⟩:=List.getElem?_of_mem hy
    rw[List.getElem?_take] at hm
    split at hm
    ·rename_i hmj
     have hml:m<(kept.map (·.1)).length:=by rw[List.length_map];omega
     have e1:(kept.map (·.1))[m]? =some y.1:=by rw[List.getElem?_map,hm];rfl
     have e2:(kept.map (·.1))[j]? =some y.1:=by rw[List.getElem?_map,ha,e];rfl
     have:=(List.getElem?_inj hml hn).1 (e1.trans e2.symm)
     omega
    ·cases hm
   rw[this];rfl
  rw[if_pos hok,e1,e2,List.take_add_one,ha];rfl
theorem notesN_enc {notes:List (List UInt8)} (hd: ∀n∈notes,1≤n.length∧n.length≤600) (rest:Recs): ∀j,j≤notes.length→notesN (notes.map encText++rest) j=some (notes.take j,(notes.drop j).map encText++rest)
 |0,_=>by simp[notesN]
 |j+1,hj=>by
  have hjl:j<notes.length:=by omega
  have ha:notes[j]? =some notes[j]:=List.getElem?_eq_getElem hjl
  have hdj:=hd _ (List.mem_of_getElem? ha)
  rw[notesN,notesN_enc hd rest j (by omega),List.drop_eq_getElem_cons hjl]
  rw[List.map_cons,List.cons_append]
  dsimp only
  have e1:=note_dec hdj.2
  have hok:noteOK (encText notes[j]):=by
   unfold noteOK
   rw[e1]
   exact⟨rfl,by unfold isNoteB;simpa using hdj⟩
  rw[if_pos hok,e1,List.take_add_one,ha];rfl
theorem head_open {s:Ses} (ok:okA (A++ [s])):openE A s.token=0∧openN A s.token=(s.num:Int):=by
 have o:=ok.at_ A.length s (by simp)
 have hle:=ok.le
 rw[List.length_append,List.length_singleton] at hle
 have e:openE A s.token=0:=by
  unfold openE
  have:=o.tk
  rw[if_neg (by omega),if_neg,if_neg (by omega)]
  intro hh
  unfold hasTk at hh
  rw[List.any_eq_true] at hh
  obtain⟨x,hx,e⟩:=hh
  have htk:=ok.tk
  rw[List.map_append,List.nodup_append] at htk
  exact htk.2.2 x.token (List.mem_map_of_mem hx) s.token (by simp) (by simpa using e)
 refine⟨e, ?_⟩
 unfold openN
 rw[if_pos e,o.num];rfl
theorem okA.pre {B:List Ses} (ok:okA (A++B)):okA A:=by
 refine⟨?_,fun i s hs=>ok.at_ i s ?_, ?_⟩
 ·have:=ok.le;rw[List.length_append] at this;omega
 ·rw[List.getElem?_append_left (List.getElem?_eq_some_iff.1 hs).1];exact hs
 ·have:=ok.tk;rw[List.map_append,List.nodup_append] at this;exact this.1
theorem loadS_enc {s:Ses} (ok:okA (A++ [s])) (rest:Recs):loadS A (recS s++rest)=some (A++ [s],rest):=by
 have o:=ok.at_ A.length s (by simp)
 have hle:=ok.le
 rw[List.length_append,List.length_singleton] at hle
 have eh:=rdHead_enc o (by omega)
 obtain⟨o1,o2⟩:=head_open ok
 unfold recS
 rw[List.cons_append,loadS,if_pos (by unfold headOK;rw[eh];exact⟨rfl,o.kl,o.nl,o1,o2⟩),eh]
 dsimp only
 rw[List.append_assoc,keptN_enc o.kd o.ki _ _ (Nat.le_refl _)]
 dsimp only
 rw[List.drop_length,List.map_nil,List.nil_append,notesN_enc o.nd rest _ (Nat.le_refl _)]
 dsimp only
 rw[List.take_length,List.take_length,List.drop_length]
 simp
theorem reach_recs {A0:List Ses} (ok:okA A0) (tail:Recs): ∀ {A:List Ses} {ls:Recs},Reach (recs A0++tail) A ls→(∀k,k≤A0.length→loadS A0 tail=none∨tail= [])→ ∃k,k≤A0.length∧A=A0.take k∧ls=recs (A0.drop k)++tail:=by
 intro A ls hr hend
 induction hr with
 |start=>exact⟨0,Nat.zero_le _,by simp,by simp⟩
 |step h hs ih=>
  obtain⟨k,hk,rfl,rfl⟩:=ih
  by_cases hlt:k<A0.length
  ·have ha:A0[k]? =some A0[k]:=List.getElem?_eq_getElem hlt
   have e1:A0.take (k+1)=A0.take k++ [A0[k]]:=by rw[List.take_add_one,ha];rfl
   have ok1:okA (A0.take k++ [A0[k]]):=by
    rw[←e1]
    have:A0=A0.take (k+1)++A0.drop (k+1):=(List.take_append_drop _ _).symm
    rw[this] at ok
    exact ok.pre
   have e2:recs (A0.drop k)++tail=recS A0[k]++(recs (A0.drop (k+1))++tail):=by
    rw[List.drop_eq_getElem_cons hlt]
    unfold recs
    rw[List.flatMap_cons,List.append_assoc]
   rw[e2,loadS_enc ok1] at hs
   simp at hs
   obtain⟨rfl,rfl⟩:=hs
   exact⟨k+1,by omega,by rw[e1],rfl⟩
  ·have:k=A0.length:=by omega
   subst this
   rw[List.take_length,List.drop_length] at hs
   have e0:recs []++tail=tail:=rfl
   rw[e0] at hs
   rcases hend A0.length (Nat.le_refl _) with h1|h1
   ·rw[h1] at hs;cases hs
   ·rw[h1] at hs;cases hs
theorem recs_nil {B:List Ses} (h:recs B= []):B= []:=by
 cases B with
 |nil=>rfl
 |cons s B=>unfold recs at h;rw[List.flatMap_cons] at h;unfold recS at h;simp at h
end Ses
end Go.Proofs.YtgccegnmggjkjaaGreatDoor
namespace Go.Proofs.YtgccegnmggjkjaaGreatDoor
open Go.Den Go.Fields
namespace Ses
open Fld
variable {h h' h0 : Heap} {t x : Nat} {X : Ft} {R : Value → Heap → Prop} {p q : Option Addr} {c d i : Nat} {A : List Ses} {G : Nat → Prop} {B : List Nat} {ls : Recs} {bad : Bool}
def Ld (h:Heap) (x:Nat) (G:Nat→Prop) (ls:Recs) (bad:Bool):Prop:=
 ∃(p:Option Addr) (c:Nat) (xs:List BV),h[x]? =some (.cells #[.slice p xs.length c, .bool bad] T.sessions_loader (0,0))∧Row h p (xs.flatMap nenc)∧xs.length≤c∧xs.map BV.b=ls∧(xs≠ []→ ∀y,inBlk p y→G y)∧ ∀v∈xs,Row h v.p (bc v.b)∧(v.b≠ []→ ∀y,inBlk v.p y→G y)
theorem Ld.frame {Q:Nat→Prop} (H:Ld h x G ls bad) (f:Fr Q h h') (hx: ¬Q x) (hG: ∀y,G y→ ¬Q y):Ld h' x G ls bad:=by
 obtain⟨p,c,xs,h1,h2,h3,h4,h5,h6⟩:=H
 refine⟨p,c,xs,f.get h1 hx, ?_,h3,h4,h5,fun v hv=>⟨?_,(h6 v hv).2⟩⟩
 ·by_cases e:xs= []
  ·rw[e];exact .inl rfl
  ·exact h2.frame f (fun a ea=>hG _ (h5 e _ ⟨a,ea,rfl⟩))
 ·by_cases e:v.b= []
  ·rw[e];exact .inl rfl
  ·exact(h6 v hv).1.frame f (fun a ea=>hG _ ((h6 v hv).2 e _ ⟨a,ea,rfl⟩))
structure LS (h0 h:Heap) (t x:Nat) (X:Ft) (G:Nat→Prop) (A:List Ses) (B:List Nat) (ls:Recs) (bad:Bool):Prop where
 has:HasB h t X A B
 ld:Ld h x G ls bad
 up:UpF h0 X h
 gx:h0.size≤x
 lx:x<h.size
 sep: ∀y,X.M y∨X.D y→y≠x
 gl: ∀y,G y→y<h0.size
 le: ∀b∈ls,b.length≤1099511627776
theorem LS.other {Q:Nat→Prop} (H:LS h0 h t x X G A B ls bad) (f:Fr Q h h') (hq: ∀y,Q y→y≠x∧ ¬(X.M y∨X.D y)∧h0.size≤y):LS h0 h' t x X G A B ls bad:=
 ⟨H.has.frame f (fun y hy hx=>(hq y hx).2.1 hy),H.ld.frame f (fun hx=>(hq x hx).1 rfl) (fun y hy hx=>by have:=H.gl y hy;have:=(hq y hx).2.2;omega),⟨H.up.fr.fresh f (fun y hy=>(hq y hy).2.2),H.up.ge⟩,H.gx,Nat.lt_of_lt_of_le H.lx f.1,H.sep,H.gl,H.le⟩
theorem LS.on (H:LS h0 h t x X G A B ls bad) (f:Fr (fun _=>False) h h'):LS h0 h' t x X G A B ls bad:=H.other f (fun _ hy=>hy.elim)
theorem LS.tab {X':Ft} {A':List Ses} {B':List Nat} (H:LS h0 h t x X G A B ls bad) (T:HasB h' t X' A' B') (st:StepF X h X' h'):LS h0 h' t x X' G A' B' ls bad:=by
 have u:=H.up.step st
 have s:=st.apart (Q:=fun y=>y=x) (fun y hy e=>H.sep y hy e) (fun y e=>e▸H.lx)
 refine⟨T,H.ld.frame st.fr (fun hx=>H.sep x (.inl hx) rfl) (fun y hy hx=>by have:=H.gl y hy;have:=H.up.ge y (.inl hx);omega),u,H.gx,Nat.lt_of_lt_of_le H.lx st.fr.1,s,H.gl,H.le⟩
theorem LS.tabE {X':Ft} {E:Nat→Prop} {A':List Ses} {B':List Nat} (H:LS h0 h t x X G A B ls bad) (T:HasB h' t X' A' B') (f:Fr X.M h h') (m: ∀c,X'.M c→X.M c∨h.size≤c) (d: ∀c,X'.D c→X.D c∨E c) (hE: ∀c,E c→h0.size≤c∧c≠x):LS h0 h' t x X' G A' B' ls bad:=by
 have z:=H.up.fr.1
 have lx:=H.lx
 refine⟨T,H.ld.frame f (fun hx=>H.sep x (.inl hx) rfl) (fun y hy hx=>by have:=H.gl y hy;have:=H.up.ge y (.inl hx);omega),⟨H.up.fr.fresh f (fun y hy=>H.up.ge y (.inl hy)), ?_⟩,H.gx,Nat.lt_of_lt_of_le H.lx f.1, ?_,H.gl,H.le⟩
 ·rintro y (hy|hy)
  ·rcases m y hy with h1|h1
   ·exact H.up.ge y (.inl h1)
   ·omega
  ·rcases d y hy with h1|h1
   ·exact H.up.ge y (.inr h1)
   ·exact(hE y h1).1
 ·rintro y (hy|hy)
  ·rcases m y hy with h1|h1
   ·exact H.sep y (.inl h1)
   ·omega
  ·rcases d y hy with h1|h1
   ·exact H.sep y (.inr h1)
   ·exact(hE y h1).2
theorem LS.loader {ls':Recs} {bad':Bool} (H:LS h0 h t x X G A B ls bad) (L:Ld h' x G ls' bad') (f:Fr (fun y=>y=x) h h') (hle: ∀b∈ls',b∈ls):LS h0 h' t x X G A B ls' bad':=
 ⟨H.has.frame f (fun y hy e=>H.sep y hy e),L,⟨H.up.fr.fresh f (fun y e=>e▸H.gx),H.up.ge⟩,H.gx,Nat.lt_of_lt_of_le H.lx f.1,H.sep,H.gl,fun b hb=>H.le b (hle b hb)⟩
theorem need_ok {is:Bool} (H:LS h0 h t x X G A B ls bad) (hk: ∀h',LS h0 h' t x X G A B ls (bad|| !is)→Fr (fun y=>y=x) h h'→R (.tuple #[]) h'):CallsH Tryz.prog F.sessions_loader_need #[.pointer (some ⟨x,0,none⟩), .bool is] h R:=by
 obtain⟨p,c,xs,h1,h2,h3,h4,h5,h6⟩:=id H.ld
 have fin: ∀h' b',h'[x]? =some (.cells #[.slice p xs.length c, .bool b'] T.sessions_loader (0,0))→h'.size=h.size→(∀y,y≠x→h'[y]? =h[y]?)→LS h0 h' t x X G A B ls b'∧Fr (fun y=>y=x) h h':=by
  intro h' b' k1 k2 k3
  have f:Fr (fun y=>y=x) h h':=Fr.of_eq k2 k3
  have nG: ¬G x:=fun hg=>by have:=H.gl x hg;have:=H.gx;omega
  have base:Ld h x G ls bad:=H.ld
  refine⟨H.loader ⟨p,c,xs,k1, ?_,h3,h4,h5,fun v hv=>⟨?_,(h6 v hv).2⟩⟩ f (fun _ hb=>hb),f⟩
  ·by_cases e:xs= []
   ·rw[e];exact .inl rfl
   ·exact h2.frame f (fun a ea e2=>nG (e2▸h5 e _ ⟨a,ea,rfl⟩))
  ·by_cases e:v.b= []
   ·rw[e];exact .inl rfl
   ·exact(h6 v hv).1.frame f (fun a ea e2=>nG (e2▸(h6 v hv).2 e _ ⟨a,ea,rfl⟩))
 refine sessions_loader_need.walk ⟨_,cell_at h1 rfl, ?_⟩
 cases bad with
 |true=>
  simp only[if_true]
  refine storeP_blk h1 (by simp) fun h' k1 k2 k3=> ?_
  obtain⟨a,b⟩:=fin h' true k1 k2 k3
  exact hk h' a b
 |false=>
  simp only[Bool.false_eq_true,if_false]
  refine storeP_blk h1 (by simp) fun h' k1 k2 k3=> ?_
  obtain⟨a,b⟩:=fin h' (!is) k1 k2 k3
  rw[Bool.false_or] at hk
  exact hk h' a b
theorem next_ok (H:LS h0 h t x X G A B ls bad) (hk: ∀h' r S,LS h0 h' t x X G A B ls.tail (bad||ls.isEmpty)→Rd h' r S 0 (ls.headD [])→(∀y,S y→h.size≤y)→Fr (fun y=>y=x) h h'→R (.pointer (some ⟨r,0,none⟩)) h'):
  CallsH Tryz.prog F.sessions_loader_next #[.pointer (some ⟨x,0,none⟩)] h R:=by
 obtain⟨p,c,xs,h1,h2,h3,h4,h5,h6⟩:=id H.ld
 have nG: ¬G x:=fun hg=>by have:=H.gl x hg;have:=H.gx;omega
 refine sessions_loader_next.walk ⟨_,_,_,cell_at h1 rfl, ?_⟩
 cases xs with
 |nil=>
  rw[if_pos (by rfl)]
  subst h4
  refine storeP_blk h1 (by simp) fun h' k1 k2 k3=> ?_
  have f:Fr (fun y=>y=x) h h':=Fr.of_eq k2 k3
  have L1:LS h0 h' t x X G A B [] true:=H.loader ⟨p,c, [],k1, .inl rfl,h3,rfl,(fun hne=>absurd rfl hne),fun v hv=>by cases hv⟩ f (fun _ hb=>hb)
  refine Fld.read_ok (bs:= []) Row.nil rfl (by simp) fun h2 r S D f2 g2=>⟨_,rfl, ?_⟩
  refine hk h2 r S ?_ D (fun y hy=>by have:=g2 y hy;omega) (Fr.on f f2)
  have:(bad||([]:Recs).isEmpty)=true:=by simp
  rw[show(List.map BV.b ([]:List BV))= [] from rfl,this]
  exact L1.on f2
 |cons v xs=>
  have hne:((((v::xs).length:Nat):Int)==0)=false:=by simp only[List.length_cons,beq_eq_false_iff_ne,ne_eq];omega
  rw[if_neg (by rw[hne];simp)]
  subst h4
  obtain⟨a,rfl⟩:=h2.some (by simp)
  have hv0:=(h2.heldAt nenc_len (i:=0) (x:=v) rfl).1
  rw[Nat.zero_mul,add_zero_addr,add_zero_addr] at hv0
  have hle:=H.le v.b (by simp)
  refine⟨_,_,_,cell_at h1 rfl,⟨by omega,by simp only[List.length_cons];omega⟩,onSome_some.2 ⟨v.p,v.b.length,v.c, ?_, ?_⟩⟩
  ·rw[show Int.toNat 0*1=0 from rfl,add_zero_addr];exact hv0
  refine Fld.read_ok (h6 v List.mem_cons_self).1 rfl (by omega) fun h3' r S D f2 g2=>⟨_,rfl, ?_⟩
  have h13:=f2.get h1 id
  refine⟨_,_,_,cell_at h13 rfl,⟨by omega,by simp only[List.length_cons];omega⟩, ?_⟩
  refine storeP_blk h13 (by simp) fun h4 k1 k2 k3=> ?_
  have f4:Fr (fun y=>y=x) h3' h4:=Fr.of_eq k2 k3
  have f04:Fr (fun y=>y=x) h h4:=Fr.no f2 f4
  have rows:Row h4 (slBase (some a) c 1 1) (xs.flatMap nenc):=by
   have rs:=(h2.frame f04 (fun b eb e2=>nG (e2▸h5 (by simp) _ ⟨b,eb,rfl⟩))).sub (cap:=c) (l:=1) (u:=(v::xs).length) (sz:=1) (by simp) (by simpa using h3)
   rw[←flat_len nenc 1 nenc_len (v::xs),List.take_length,flat_drop nenc 1 nenc_len] at rs
   exact rs
  have lx:=H.lx
  refine hk h4 r S (H.loader (ls':=xs.map BV.b) ⟨slBase (some a) c 1 1,c - 1,xs, ?_,rows,by simp only[List.length_cons] at h3;omega,rfl, ?_, ?_⟩ f04 (fun b hb=>List.mem_cons_of_mem _ hb)) (D.frame f4 (fun y hy e=>by have:=g2 y hy;omega)) g2 f04
  ·rw[k1];simp
  ·intro _ y hy;exact h5 (by simp) y (inBlk_sub hy)
  ·intro w hw
   refine⟨?_,(h6 w (List.mem_cons_of_mem _ hw)).2⟩
   by_cases e:w.b= []
   ·rw[e];exact .inl rfl
   ·exact(h6 w (List.mem_cons_of_mem _ hw)).1.frame f04 (fun b eb e2=>nG (e2▸(h6 w (List.mem_cons_of_mem _ hw)).2 e _ ⟨b,eb,rfl⟩))
def ldLen (x:Nat) (h:Heap):Nat:=match h[x]? with
 |some (.cells c _ _)=>(match (c[0]? :Option Value) with|some (.slice _ n _)=>n|_=>0)
 |_=>0
theorem LS.ldLen (H:LS h0 h t x X G A B ls bad):Ses.ldLen x h=ls.length:=by
 obtain⟨p,c,xs,h1,h2,h3,h4,_⟩:=H.ld
 unfold Ses.ldLen
 rw[h1,←h4,List.length_map];rfl
theorem LS.rd {r:Nat} {S:Nat→Prop} {h1:Heap} (H:LS h0 h t x X G A B ls bad) (f:Fr (fun y=>y=r) h h') (hS:S r) (g: ∀y,S y→h1.size≤y) (hx:x<h1.size) (hX: ∀y,X.M y∨X.D y→y<h1.size) (hz:h0.size≤h1.size):LS h0 h' t x X G A B ls bad:=by
 have:=g r hS
 exact H.other f (fun y e=>⟨by omega,fun hy=>by have:=hX y hy;omega,by omega⟩)
set_option maxRecDepth 100000 in
theorem session_ok (H : LS h0 h t x X G A B ls false) (ok : okA A) (hne : ls ≠ [])
    (k1 : ∀ A' ls', loadS A ls = some (A', ls') → ∀ h' X' B', LS h0 h' t x X' G A' B' ls' false → okA A' → ls'.length < ls.length → R (.tuple #[]) h')
    (k2 : loadS A ls = none → ∀ h' X' A' B' ls', LS h0 h' t x X' G A' B' ls' true → ls'.length < ls.length → R (.tuple #[]) h') :
    CallsH Tryz.prog F.sessions_loader_session #[.pointer (some ⟨x, 0, none⟩), .pointer (some ⟨t, 0, none⟩)] h R := by
  obtain ⟨b0, l1, rfl⟩ := List.exists_cons_of_ne_nil hne
  have hb0 := H.le b0 (by simp)
  refine sessions_loader_session.walk (next_ok H fun h1 r S L1 D1 g1 f1 => ⟨_, rfl, ?_⟩)
  have e1 : (false || (b0 :: l1).isEmpty) = false := rfl
  rw [e1] at L1
  have zx := H.lx
  have hX := H.has.lt
  have hz := H.up.fr.1
  have z1 := f1.1
  show CallsH _ _ _ _ _
  simp only [List.headD_cons, List.tail_cons] at D1 L1
  refine rint_ok D1 fun h2 D2 f2 => ⟨_, rfl, ?_⟩
  have L2 := L1.rd f2 D1.self g1 zx hX hz
  have hnum : (readInt 0 b0).1 ≤ 1099511627776 := readMost_le _ _ _
  generalize hA : readInt 0 b0 = Ra at D2 hnum ⊢
  obtain ⟨num, ae, ar⟩ := Ra
  dsimp only at D2 hnum ⊢
  refine rnum_ok D2 fun h3 D3 f3 => ⟨_, rfl, ?_⟩
  have L3 := L2.rd f3 D1.self g1 zx hX hz
  have htk := readNum_lt ae ar
  generalize hT : readNum ae ar = Rt at D3 htk ⊢
  obtain ⟨token, te, tr⟩ := Rt
  dsimp only at D3 htk ⊢
  refine rbool_ok D3 fun h4 D4 f4 => ⟨_, rfl, ?_⟩
  have L4 := L3.rd f4 D1.self g1 zx hX hz
  generalize hU : readMost 1 te tr = Ru at D4 ⊢
  obtain ⟨upn, ue, ur⟩ := Ru
  dsimp only at D4 ⊢
  refine rbool_ok D4 fun h5 D5 f5 => ⟨_, rfl, ?_⟩
  have L5 := L4.rd f5 D1.self g1 zx hX hz
  generalize hW : readMost 1 ue ur = Rw at D5 ⊢
  obtain ⟨wan, we, wr⟩ := Rw
  dsimp only at D5 ⊢
  refine rint_ok D5 fun h6 D6 f6 => ⟨_, rfl, ?_⟩
  have L6 := L5.rd f6 D1.self g1 zx hX hz
  have hkle : (readInt we wr).1 ≤ 1099511627776 := readMost_le _ _ _
  generalize hK : readInt we wr = Rk at D6 hkle ⊢
  obtain ⟨kn, ke, kr⟩ := Rk
  dsimp only at D6 hkle ⊢
  refine rint_ok D6 fun h7 D7 f7 => ⟨_, rfl, ?_⟩
  have L7 := L6.rd f7 D1.self g1 zx hX hz
  have hnle : (readInt ke kr).1 ≤ 1099511627776 := readMost_le _ _ _
  generalize hN : readInt ke kr = Rn at D7 hnle ⊢
  obtain ⟨nn, ne, nr⟩ := Rn
  dsimp only at D7 hnle ⊢
  have hHead : rdHead b0 = ⟨num, token, decide (upn = 1), decide (wan = 1), kn, nn, readEnd ne nr⟩ := by
    unfold rdHead
    simp only [hA, hT, hU, hW, hK, hN]
  generalize decide (upn = 1) = up at hHead ⊢
  generalize decide (wan = 1) = wa at hHead ⊢
  clear hA hT hU hW hK hN D2 D3 D4 D5 D6 L1 L2 L3 L4 L5 L6 f2 f3 f4 f5 f6 f7
  have hll : l1.length < (b0 :: l1).length := by simp
  refine JoinP.of fun J hJ => ?_
  have afterHead : ∀ (h8 : Heap) (bad : Bool), LS h0 h8 t x X G A B l1 bad → (bad = false ↔ (readEnd ne nr = 0 ∧ kn ≤ 6 ∧ nn ≤ 6)) → J h8 := by
    intro h8 bad L8 hbad
    subst hJ
    obtain ⟨lab8, LL8, TB8, hA8, hB8, hS8⟩ := id L8.has
    refine open_ok token rfl ⟨B, L8.has⟩ ok fun h9 X9 H9 s9 => ⟨_, _, rfl, ?_⟩
    obtain ⟨B9, H9⟩ := H9
    have L9 := L8.tab H9 s9
    have ok9 := ok.open token
    refine JoinP.of fun J1 hJ1 => ?_
    have afterOpen : ∀ (h10 : Heap) (bad' : Bool), LS h0 h10 t x X9 G (openA A token) B9 l1 bad' → (bad' = false ↔ headOK A b0) → J1 h10 := by
      intro h10 bad' L10 hbad'
      subst hJ1
      obtain ⟨p10, c10, xs10, hx1, _⟩ := id L10.ld
      refine ⟨_, cell_at hx1 rfl, ?_⟩
      cases bad' with
      | true =>
        simp only [if_true]
        have hno : ¬ headOK A b0 := fun hh => by have := hbad'.2 hh; cases this
        refine k2 (by rw [loadS, if_neg hno]) h10 X9 _ B9 l1 L10 hll
      | false =>
        simp only [Bool.false_eq_true, if_false]
        have hok := hbad'.1 rfl
        obtain ⟨o1, o2, o3, o4, o5⟩ := id hok
        rw [hHead] at o1 o2 o3 o4 o5
        dsimp only at o1 o2 o3 o4 o5
        have eN : openN A token = (A.length : Int) + 1 := by unfold openN; rw [if_pos o4]
        have eA : openA A token = A ++ [⟨A.length + 1, token, true, false, [], []⟩] := by unfold openA; rw [if_pos o4]
        have hnumA : num = A.length + 1 := by rw [eN] at o5; omega
        have hle8 := ok9.le
        rw [eA] at L10 ok9 hle8
        rw [List.length_append, List.length_singleton] at hle8
        rw [eN]
        obtain ⟨lab, LL, TB, hLA, hLB, hS⟩ := id L10.has
        have hLLl : LL.length = A.length + 1 := by
          have := congrArg List.length hLA; rwa [List.length_map, List.length_append, List.length_singleton] at this
        have hsl : LL[A.length]? = some (LL[A.length]'(by omega)) := List.getElem?_eq_getElem _
        generalize LL[A.length]'(by omega) = s at hsl
        have hsabs : s.abs = ⟨A.length + 1, token, true, false, [], []⟩ := by
          have h1 : (LL.map SC.abs)[A.length]? = some s.abs := by rw [List.getElem?_map, hsl]; rfl
          rw [hLA] at h1; simpa using h1.symm
        have hBs : B9[A.length]? = some s.b := by rw [← hLB, List.getElem?_map, hsl]; rfl
        obtain ⟨tp, tc, htb, town, _⟩ := TB.blk
        have SA := TB.ses _ s hsl
        have ew : IntKind.wrap .i64 ((A.length : Int) + 1 - 1) = (A.length : Int) := by rw [wrap_id (by omega) (by omega)]; omega
        rw [ew]
        obtain ⟨ab, aoff, rfl⟩ := town.addr (by omega)
        refine ⟨_, _, _, cell_at htb rfl, ⟨by omega, by omega⟩, onSome_some.2 ⟨some ⟨s.b, 0, none⟩, ?_, onSome_some.2 ?_⟩⟩
        · rw [Int.toNat_natCast, Nat.mul_one]; exact town.cell (by rw [List.getElem?_map, hsl]; rfl)
        refine storeP_blk SA.blk (by simp) fun h11 a1 a2 a3 => onSome_some.2 (storeP_blk a1 (by simp) fun h12 b1 b2 b3 => ?_)
        obtain ⟨X12, H12, s12⟩ := TB.flag (s' := { s with up := up, watch := wa }) hS hsl rfl ⟨rfl, rfl, rfl⟩ ⟨rfl, rfl, rfl⟩ b1 (by omega) (fun y hy => by rw [b3 y hy, a3 y hy])
        have L12 := L10.tab H12 s12
        have eset : (LL.map SC.abs).set A.length ({ s with up := up, watch := wa } : SC).abs = A ++ [⟨A.length + 1, token, up, wa, [], []⟩] := by
          rw [hLA]
          have : ({ s with up := up, watch := wa } : SC).abs = ⟨A.length + 1, token, up, wa, [], []⟩ := by
            have e : ({ s with up := up, watch := wa } : SC).abs = { s.abs with up := up, watch := wa } := rfl
            rw [e, hsabs]
          rw [this]
          simp
        rw [eset, hLB] at L12
        have ok12 : okA (A ++ [⟨A.length + 1, token, up, wa, [], []⟩]) := by
          have o := ok9.at_ A.length ⟨A.length + 1, token, true, false, [], []⟩ (by simp)
          have := ok9.set (i := A.length) (s := ⟨A.length + 1, token, true, false, [], []⟩) (s' := ⟨A.length + 1, token, up, wa, [], []⟩) (by simp) rfl ⟨o.num, o.tk, o.kl, o.nl, o.kd, o.nd, o.ki⟩
          simpa using this
        have hloadS : loadS A (b0 :: l1) = (match keptN l1 kn with
          | none => none
          | some (K, l2) => (match notesN l2 nn with
            | none => none
            | some (N, l3) => some (A ++ [⟨A.length + 1, token, up, wa, K, N⟩], l3))) := by
          rw [loadS, if_pos hok, hHead, hnumA] <;> rfl
        have gS : ∀ K N, getA (A ++ [(⟨A.length + 1, token, up, wa, K, N⟩ : Ses)]) ((A.length : Int) + 1) = some ⟨A.length + 1, token, up, wa, K, N⟩ := fun K N => by rw [getA_at]; simp
        have setS : ∀ K N K' N', setA (A ++ [(⟨A.length + 1, token, up, wa, K, N⟩ : Ses)]) ((A.length : Int) + 1) ⟨A.length + 1, token, up, wa, K', N'⟩ = A ++ [⟨A.length + 1, token, up, wa, K', N'⟩] := fun K N K' N' => by
          unfold setA
          rw [show ((A.length : Int) + 1 - 1).toNat = A.length by omega]; simp
        clear L10 TB hLA hLB hS hsl hsabs htb town SA H12 s12 L9 H9 s9 a1 a2 a3 b1 b2 b3 eset L8 TB8 hA8 hB8 hS8 hx1 L7 D7 D1 hLLl ok9 eA
        refine ⟨fun i h' => ∃ (j : Nat) (X' : Ft) (A' : List Ses) (ls' : Recs) (bad : Bool), i = (j : Int) ∧ j ≤ kn ∧ LS h0 h' t x X' G A' B9 ls' bad ∧ okA A' ∧ A'.length = A.length + 1 ∧ ls'.length ≤ l1.length ∧
          (bad = false → ∃ K, keptN l1 j = some (K, ls') ∧ A' = A ++ [⟨A.length + 1, token, up, wa, K, []⟩]) ∧ (bad = true → keptN l1 j = none) ∧ (∃ s', A'[A.length]? = some s' ∧ s'.notes = []), fun i _ => kn - i.toNat,
          ⟨0, X12, _, l1, false, rfl, by omega, L12, ok12, by simp, Nat.le_refl _, fun _ => ⟨[], rfl, rfl⟩, (fun e => by cases e), ⟨⟨A.length + 1, token, up, wa, [], []⟩, by simp, rfl⟩⟩, ?_⟩
        clear L12 ok12
        rintro _ h13 ⟨j, X13, A13, ls13, bd, rfl, hj, L13, ok13, hA13, hls13, hgood, hbadk, s13, hs13, hn13⟩
        have le13 := L13.le
        by_cases hjl : j < kn
        · have q1 : (j : Int) < (kn : Int) := by omega
          simp only [q1, decide_true, if_true]
          refine JoinP.of fun J2 hJ2 => ?_
          have hb1 : (ls13.headD []).length ≤ 1099511627776 := by
            cases hl : ls13 with
            | nil => simp
            | cons b r => exact le13 b (by rw [hl]; simp)
          have fin : ∀ (h' : Heap) (X' : Ft) (A' : List Ses) (bd' : Bool), LS h0 h' t x X' G A' B9 ls13.tail bd' → okA A' → A'.length = A.length + 1 → (∃ s', A'[A.length]? = some s' ∧ s'.notes = []) →
              (bd' = false → bd = false ∧ ls13 ≠ [] ∧ ansE (ls13.headD []) = 0 ∧ keptA A13 ((A.length : Int) + 1) (ansI (ls13.headD [])) = none ∧ keepE A13 ((A.length : Int) + 1) (ansI (ls13.headD [])) (ansD (ls13.headD [])) = 0 ∧ A' = keepA A13 ((A.length : Int) + 1) (ansI (ls13.headD [])) (ansD (ls13.headD []))) →
              (bd' = true → ¬ (bd = false ∧ ls13 ≠ [] ∧ ansE (ls13.headD []) = 0 ∧ keptA A13 ((A.length : Int) + 1) (ansI (ls13.headD [])) = none ∧ keepE A13 ((A.length : Int) + 1) (ansI (ls13.headD [])) (ansD (ls13.headD [])) = 0)) → J2 h' := by
            intro h' X' A' bd' L' ok' hA' hs' hg hb
            subst hJ2
            rw [wrap_id (by omega) (by omega)]
            refine ⟨⟨j + 1, X', A', ls13.tail, bd', by omega, by omega, L', ok', hA', by rw [List.length_tail]; omega, fun e => ?_, fun e => ?_, hs'⟩, ?_⟩
            · obtain ⟨c1, c2, c3, c4, c5, c6⟩ := hg e
              obtain ⟨K, hK1, hK2⟩ := hgood c1
              obtain ⟨b, rest, hbr⟩ := List.exists_cons_of_ne_nil c2
              rw [hbr] at c3 c4 c5 c6 hK1 ⊢
              simp only [List.headD_cons, List.tail_cons] at c3 c4 c5 c6 ⊢
              have hKl := (keptN_len l1 j K _ hK1).2.2
              unfold keptA at c4
              unfold keepE at c5
              unfold keepA at c6
              rw [hK2, gS] at c4 c5 c6
              dsimp only at c4 c5 c6
              have c5' : ¬ (ansI b > 1099511627776 ∨ (ansD b).length > 1000) := fun hh => by rw [if_pos hh] at c5; cases c5
              rw [if_neg c5', setS] at c6
              have hkeep : keepL K (ansI b) (ansD b) = K ++ [(ansI b, ansD b)] := by
                have hf : K.filter (fun a => decide (a.1 ≠ ansI b)) = K := by
                  rw [List.filter_eq_self]
                  intro a ha
                  unfold keptL at c4
                  have c4 := Option.map_eq_none_iff.1 c4
                  have := List.find?_eq_none.1 c4 a ha
                  simpa using this
                unfold keepL
                rw [hf, if_neg (by rw [List.length_append, List.length_singleton]; omega)]
              refine ⟨K ++ [(ansI b, ansD b)], ?_, by rw [c6, hkeep]⟩
              rw [keptN, hK1]
              dsimp only
              rw [if_pos ⟨c3, c4, by omega, by omega⟩]
            · rw [keptN]
              cases hbd : bd with
              | true => rw [hbadk hbd]
              | false =>
                obtain ⟨K, hK1, hK2⟩ := hgood hbd
                rw [hK1]
                cases hl : ls13 with
                | nil => rfl
                | cons b rest =>
                  dsimp only
                  rw [if_neg]
                  rintro ⟨c3, c4, c5, c6⟩
                  have hb := hb e
                  rw [hl] at hb
                  simp only [List.headD_cons] at hb
                  refine hb ⟨hbd, by simp, c3, ?_, ?_⟩
                  · unfold keptA; rw [hK2, gS]; exact c4
                  · unfold keepE; rw [hK2, gS]; dsimp only; rw [if_neg (by omega)]
            · show kn - Int.toNat ((j : Int) + 1) < kn - Int.toNat (j : Int); omega
          clear hJ2
          have hX13 := L13.has.lt
          have z13 := L13.up.fr.1
          have lx13 := L13.lx
          refine next_ok L13 fun h15 r S L15 D15 g15 f15 => ⟨_, rfl, ?_⟩
          have z15 := f15.1
          refine rnum_ok D15 fun h16 D16 f16 => ⟨_, rfl, ?_⟩
          have L16 := L15.rd f16 D15.self g15 lx13 hX13 z13
          have hl16 := readNum_len 0 (ls13.headD [])
          refine rtext_ok D16 (by omega) fun h17 p17 c17 D17 o17 g17 f17 => ⟨_, _, _, rfl, ?_⟩
          have L17 := L16.rd f17 D15.self g15 lx13 hX13 z13
          have e1 : (readNum 0 (ls13.headD [])).1 = ansI (ls13.headD []) := rfl
          have e2 : (readText (readNum 0 (ls13.headD [])).2.1 (readNum 0 (ls13.headD [])).2.2).1 = ansD (ls13.headD []) := rfl
          have e3 : readEnd (readText (readNum 0 (ls13.headD [])).2.1 (readNum 0 (ls13.headD [])).2.2).2.1 (readText (readNum 0 (ls13.headD [])).2.1 (readNum 0 (ls13.headD [])).2.2).2.2 = ansE (ls13.headD []) := rfl
          rw [e1, e2]
          rw [e2] at o17
          have hD1 : (ansD (ls13.headD [])).length ≤ 1099511627776 := by
            have := (readText_len (readNum 0 (ls13.headD [])).2.1 (readNum 0 (ls13.headD [])).2.2).2
            rw [e2] at this; omega
          have hI1 : ansI (ls13.headD []) < 18446744073709551616 := by rw [← e1]; exact readNum_lt _ _
          refine sessions_Answer.new fun b20 h20 eb20 hb20 f20 => ⟨_, cell_at hb20 rfl, ?_⟩
          have L20 := L17.on f20
          have z16 := f16.1
          have z17 := f17.1
          have p17M : ∀ y, inBlk p17 y → h13.size ≤ y := fun y hy => by have := g17 y hy; omega
          have go : ∀ (tw : Bool) (h21 : Heap), (tw = (keptA A13 ((A.length : Int) + 1) (ansI (ls13.headD []))).isSome) → Fr (fun _ => False) h20 h21 → JoinP (fun (h_22 : Heap) => J2 h_22) (fun J_3 =>
                CallsH Tryz.prog F.fields_Reader_End #[.pointer (some ⟨r, 0, none⟩)] h21 fun v_12 h_23 =>
                ∃ (t102 : Int), v_12 = .int .i64 t102 ∧
                if (t102 == 0) = true then
                  if (!tw) = true then
                    ∃ (t112 : Int), hcell h_23 ⟨b20, 0, none⟩ = some (.int .u64 t112) ∧
                    ∃ (t114_p : Option Addr) (t114_l t114_c : Nat), hcell h_23 ⟨b20, 1, none⟩ = some (.slice t114_p t114_l t114_c) ∧
                    CallsH Tryz.prog F.sessions_Table_Keep #[.pointer (some ⟨t, 0, none⟩), .int .i64 ((A.length : Int) + 1), .int .u64 t112, .slice t114_p t114_l t114_c] h_23 fun v_13 h_24 =>
                    ∃ (t115 : Int), v_13 = .int .i64 t115 ∧
                    CallsH Tryz.prog F.sessions_loader_need #[.pointer (some ⟨x, 0, none⟩), .bool (t115 == 0)] h_24 fun v_14 h_25 =>
                    v_14 = .tuple #[] ∧
                    J_3 h_25
                  else
                    CallsH Tryz.prog F.sessions_loader_need #[.pointer (some ⟨x, 0, none⟩), .bool false] h_23 fun v_15 h_26 =>
                    v_15 = .tuple #[] ∧
                    J_3 h_26
                else
                  CallsH Tryz.prog F.sessions_loader_need #[.pointer (some ⟨x, 0, none⟩), .bool false] h_23 fun v_16 h_27 =>
                  v_16 = .tuple #[] ∧
                  J_3 h_27) := by
            intro tw h21 htw f21
            refine JoinP.of fun J3 hJ3 => ?_
            subst hJ3
            have L21 := L20.on f21
            refine rend_ok ((D17.frame f20 (fun _ _ => id)).frame f21 (fun _ _ => id)) ⟨_, rfl, ?_⟩
            rw [e3]
            have badNo : ¬ (bd = false ∧ ls13 ≠ [] ∧ ansE (ls13.headD []) = 0 ∧ keptA A13 ((A.length : Int) + 1) (ansI (ls13.headD [])) = none ∧ keepE A13 ((A.length : Int) + 1) (ansI (ls13.headD [])) (ansD (ls13.headD [])) = 0) → CallsH Tryz.prog F.sessions_loader_need #[.pointer (some ⟨x, 0, none⟩), .bool false] h21 fun v h_27 => v = .tuple #[] ∧ J2 h_27 := by
              intro hno
              refine need_ok L21 fun h26 L26 f26 => ⟨rfl, fin h26 X13 A13 _ L26 ok13 hA13 ⟨s13, hs13, hn13⟩ (fun e => ?_) (fun _ => hno)⟩
              simp at e
            by_cases hE : ansE (ls13.headD []) = 0
            · rw [if_pos (by rw [hE]; rfl)]
              cases htw' : (keptA A13 ((A.length : Int) + 1) (ansI (ls13.headD []))) with
              | some w =>
                rw [htw'] at htw
                rw [htw]
                rw [if_neg (by simp)]
                exact badNo (fun hh => by rw [htw'] at hh; cases hh.2.2.2.1)
              | none =>
                rw [htw'] at htw
                rw [htw]
                rw [if_pos (by rfl)]
                have b21 := f21.get hb20 id
                refine ⟨_, cell_at b21 rfl, _, _, _, cell_at b21 rfl, ?_⟩
                have row21 := ((o17.frame f20 (fun _ _ => id)).frame f21 (fun _ _ => id)).row'
                refine keep_okB (ansI (ls13.headD [])) rfl L21.has ok13 row21 rfl (fun _ y hy hM => by have := p17M y hy; have := hX13 y (.inl hM); omega) fun h24 X24 H24 s24 => ⟨_, rfl, ?_⟩
                have L24 := L21.tab H24 s24
                refine need_ok L24 fun h25 L25 f25 => ⟨rfl, ?_⟩
                have ok25 := ok13.keep ((A.length : Int) + 1) (ansI (ls13.headD [])) (ansD (ls13.headD []))
                refine fin h25 X24 _ _ L25 ok25 ?_ ?_ (fun e => ?_) (fun e => ?_)
                · unfold keepA
                  split
                  · exact hA13
                  · split
                    · exact hA13
                    · unfold setA; rw [List.length_set]; exact hA13
                · unfold keepA
                  have hg : getA A13 ((A.length : Int) + 1) = some s13 := by rw [getA_at]; exact hs13
                  rw [hg]
                  dsimp only
                  split
                  · exact ⟨s13, hs13, hn13⟩
                  · refine ⟨{ s13 with kept := keepL s13.kept (ansI (ls13.headD [])) (ansD (ls13.headD [])) }, ?_, hn13⟩
                    unfold setA
                    rw [show ((A.length : Int) + 1 - 1).toNat = A.length by omega, List.getElem?_set, if_pos rfl, if_pos (by omega)]
                · simp only [Bool.or_eq_false_iff, Bool.not_eq_false', beq_iff_eq] at e
                  obtain ⟨⟨e4, e5⟩, e6⟩ := e
                  exact ⟨e4, (fun hh => by rw [hh] at e5; cases e5), hE, htw', e6, rfl⟩
                · rintro ⟨c1, c2, c3, c4, c5⟩
                  rw [c1, c5] at e
                  have : ls13.isEmpty = false := by
                    cases hl : ls13 with
                    | nil => exact absurd hl c2
                    | cons _ _ => rfl
                  rw [this] at e
                  simp at e
            · rw [if_neg (by simpa using hE)]
              exact badNo (fun hh => hE hh.2.2.1)
          refine kept_ok (ansI (ls13.headD [])) rfl ⟨B9, L20.has⟩ ok13 (fun w hw h21 p21 c21 o21 f21 g21 => ⟨_, _, _, _, rfl, ?_⟩) (fun hw h21 f21 => ⟨_, _, _, _, rfl, ?_⟩)
          · exact go true h21 (by rw [hw]; rfl) f21
          · exact go false h21 (by rw [hw]; rfl) f21
        · have q1 : ¬ (j : Int) < (kn : Int) := by omega
          simp only [q1, decide_false, Bool.false_eq_true, if_false]
          obtain rfl : j = kn := by omega
          refine ⟨fun i h' => ∃ (m : Nat) (X' : Ft) (A' : List Ses) (ls' : Recs) (bad : Bool), i = (m : Int) ∧ m ≤ nn ∧ LS h0 h' t x X' G A' B9 ls' bad ∧ ls'.length ≤ l1.length ∧
            (bad = false → ∃ K l2 N, keptN l1 j = some (K, l2) ∧ notesN l2 m = some (N, ls') ∧ A' = A ++ [⟨A.length + 1, token, up, wa, K, N⟩] ∧ okA A') ∧ (bad = true → loadS A (b0 :: l1) = none) ∧ (∃ s', A'[A.length]? = some s' ∧ s'.notes.length = m), fun i _ => nn - i.toNat,
            ⟨0, X13, A13, ls13, bd, rfl, by omega, L13, hls13, fun e => ?_, fun e => by rw [hloadS, hbadk e], ⟨s13, hs13, by rw [hn13]; rfl⟩⟩, ?_⟩
          · obtain ⟨K, hK1, hK2⟩ := hgood e
            exact ⟨K, ls13, [], hK1, rfl, hK2, ok13⟩
          clear L13 ok13 hgood hbadk hs13 hn13 hls13 hA13 le13
          rintro _ h28 ⟨m, X28, A28, ls28, bd28, rfl, hm, L28, hls28, hgood, hbad, s28, hs28, hn28⟩
          have le28 := L28.le
          by_cases hml : m < nn
          · have q2 : (m : Int) < (nn : Int) := by omega
            simp only [q2, decide_true, if_true]
            have hb1 : (ls28.headD []).length ≤ 1099511627776 := by
              cases hl : ls28 with
              | nil => simp
              | cons b r => exact le28 b (by rw [hl]; simp)
            have hX28 := L28.has.lt
            have z28 := L28.up.fr.1
            have lx28 := L28.lx
            refine next_ok L28 fun h29 r S L29 D29 g29 f29 => ⟨_, rfl, ?_⟩
            refine rtext_ok D29 (by omega) fun h30 p30 c30 D30 o30 g30 f30 => ⟨_, _, _, rfl, ?_⟩
            have L30 := L29.rd f30 D29.self g29 lx28 hX28 z28
            have z29 := f29.1
            have z30 := f30.1
            have htl := (readText_len 0 (ls28.headD [])).2
            refine JoinP.of fun J4 hJ4 => ?_
            have app : ∀ (h31 : Heap) (bd' : Bool), LS h0 h31 t x X28 G A28 B9 ls28.tail bd' → Fr (fun y => y = x) h30 h31 → (bd' = false ↔ (bd28 = false ∧ ls28 ≠ [] ∧ noteOK (ls28.headD []))) → J4 h31 := by
              intro h31 bd' L31 f31 hbd'
              subst hJ4
              obtain ⟨lab, LL, TB, hLA, hLB, hS⟩ := id L31.has
              have hsl : ∃ s', LL[A.length]? = some s' ∧ s'.b = s.b ∧ s'.abs = s28 := by
                have h1 : (LL.map SC.b)[A.length]? = some s.b := by rw [hLB]; exact hBs
                have h2 : (LL.map SC.abs)[A.length]? = some s28 := by rw [hLA]; exact hs28
                rw [List.getElem?_map] at h1 h2
                cases hq : LL[A.length]? with
                | none => rw [hq] at h1; cases h1
                | some s =>
                  rw [hq] at h1 h2
                  exact ⟨s, rfl, Option.some.inj h1, Option.some.inj h2⟩
              obtain ⟨s', hs', hsb, hsa⟩ := hsl
              have SA := TB.ses _ s' hs'
              have nlen : s'.notes.length = m := by rw [← hn28, ← hsa]; exact (List.length_map _).symm
              rw [← hsb]
              refine onSome_some.2 ⟨_, _, _, cell_at SA.blk rfl, ?_⟩
              refine den_append1 tN uN SA.nown rfl (fun v hv => by simp at hv; subst hv; rfl) (by omega) (by omega) ?_
              intro p33 c33 h33 o33 f33 g33
              refine ⟨_, _, _, rfl, onSome_some.2 ?_⟩
              have nbn : ∀ c, inBlk s'.np c → c ≠ s'.b := fun c hc e => by have h1 := SA.nl c hc; rw [e, SA.lb] at h1; simp at h1
              have k33 := f33.get SA.blk (fun hx => nbn _ hx rfl)
              refine storeP_blk k33 (by simp) fun h34 q1 q2 q3 => ?_
              have f34 : Fr (fun y => y = s'.b) h33 h34 := Fr.of_eq q2 q3
              have z31 := f31.1
              have z33 := f33.1
              have sb31 : s'.b < h31.size := lt_of_get SA.blk
              have nl31 : ∀ c, inBlk s'.np c → c < h31.size := fun c hc => SA.nown.blk_lt hc
              have F34 : Fr (fun y => y = s'.b ∨ inBlk s'.np y) h31 h34 := (f33.mono (fun _ _ hx => .inr hx)).tt (f34.mono (fun _ _ hx => .inl hx))
              have M1 : ∀ y, inBlk s'.np y ∨ y = s'.b → X28.M y := fun y hy => (hS y).2 (hy.elim (fun hy => ⟨_, SA.nl y hy⟩) (fun e => ⟨_, e ▸ SA.lb⟩))
              have p30y : ∀ y, inBlk p30 y → h28.size ≤ y ∧ y < h30.size := fun y hy => ⟨by have := g30 y hy; omega, o30.blk_lt hy⟩
              have p30n : ∀ y, inBlk p30 y → ¬ (y = s'.b ∨ inBlk s'.np y) := fun y hy hx => by
                have := hX28 y (.inl (M1 y hx.symm)); have := p30y y hy; omega
              have p30x : ∀ y, inBlk p30 y → y ≠ x := fun y hy e => by have := p30y y hy; omega
              have o34 : Own h34 p30 (readText 0 (ls28.headD [])).1.length c30 1 (bc (readText 0 (ls28.headD [])).1) := (o30.frame f31 p30x).frame F34 p30n
              have kD : ∀ c, X28.D c → ¬ (c = s'.b ∨ inBlk s'.np c) := fun c hc hx => L31.has.dis c (M1 c hx.symm) hc
              have cat : s'.notes.flatMap nenc ++ [.slice p30 (readText 0 (ls28.headD [])).1.length c30] = (s'.notes ++ [(⟨p30, c30, (readText 0 (ls28.headD [])).1⟩ : BV)]).flatMap nenc := by rw [List.flatMap_append]; simp
              have klen : (s'.notes ++ [(⟨p30, c30, (readText 0 (ls28.headD [])).1⟩ : BV)]).length = s'.notes.length + 1 := by rw [List.length_append]; rfl
              have n33b : ∀ c, inBlk p33 c → c ≠ s'.b := fun c hc e => (g33 c hc).elim (fun hx => nbn c hx e) (fun hx => by omega)
              have lnone : ∀ c, inBlk p30 c → lab c = none := fun c hc => by
                cases hl : lab c with
                | none => rfl
                | some r => have := hX28 c (.inl ((hS c).2 ⟨r, hl⟩)); have := p30y c hc; omega
              obtain ⟨X34, H34, f34', m34, d34, o34'⟩ := TB.notesG (K' := s'.notes ++ [⟨p30, c30, (readText 0 (ls28.headD [])).1⟩]) (np' := p33) (nc' := c33) (E := inBlk p30) hS hs' (by
                show h34[s'.b]? = _
                rw [q1]
                dsimp only
                rw [klen]; rfl)
                (by rw [klen, ← cat]; exact o33.frame f34 (fun c hc e => n33b c hc e)) g33 F34 (fun c hc => ⟨lnone c hc, by have := (p30y c hc).2; have := f34.1; omega, fun hx => (g33 c hx).elim (fun h2 => p30n c hc (.inr h2)) (fun h2 => by have := p30y c hc; omega)⟩)
                (fun n hn => by
                  rcases List.mem_append.1 hn with hn | hn
                  · exact ((SA.nd n hn).frame F34 kD).mono (fun c => .inl)
                  · obtain rfl := List.mem_singleton.1 hn; exact BV.of_own o34 (fun c => .inr))
              have L34 := L31.tabE H34 f34' m34 d34 (fun c hc => ⟨by have := (p30y c hc).1; omega, p30x c hc⟩)
              rw [hLB] at L34
              have eK : (s'.notes ++ [(⟨p30, c30, (readText 0 (ls28.headD [])).1⟩ : BV)]).map BV.b = s28.notes ++ [(readText 0 (ls28.headD [])).1] := by rw [List.map_append, ← hsa]; rfl
              rw [eK, hsa, hLA] at L34
              have hAl : A.length < A28.length := (List.getElem?_eq_some_iff.1 hs28).1
              rw [wrap_id (by omega) (by omega)]
              refine ⟨⟨m + 1, X34, _, ls28.tail, bd', by omega, by omega, L34, by rw [List.length_tail]; omega, fun e => ?_, fun e => ?_, ⟨{ s28 with notes := s28.notes ++ [(readText 0 (ls28.headD [])).1] }, by rw [List.getElem?_set, if_pos rfl, if_pos hAl], by show (s28.notes ++ [_]).length = _; rw [List.length_append, hn28]; rfl⟩⟩, ?_⟩
              · obtain ⟨c1, c2, c3⟩ := hbd'.1 e
                obtain ⟨K, l2, N, hK, hN', hA28, ok28⟩ := hgood c1
                obtain ⟨b, rest, hbr⟩ := List.exists_cons_of_ne_nil c2
                rw [hbr] at hN' c3 ⊢
                simp only [List.headD_cons, List.tail_cons] at c3 ⊢
                have hs28' : s28 = ⟨A.length + 1, token, up, wa, K, N⟩ := by
                  rw [hA28] at hs28; simp at hs28; exact hs28.symm
                have eset : A28.set A.length { s28 with notes := s28.notes ++ [(readText 0 b).1] } = A ++ [⟨A.length + 1, token, up, wa, K, N ++ [(readText 0 b).1]⟩] := by
                  rw [hs28', hA28]; simp
                refine ⟨K, l2, N ++ [(readText 0 b).1], hK, ?_, eset, ?_⟩
                · rw [notesN, hN']
                  dsimp only
                  rw [if_pos c3]
                · have o := ok28.at_ A.length s28 hs28
                  have hnote : 1 ≤ (readText 0 b).1.length ∧ (readText 0 b).1.length ≤ 600 := by have := c3.2; unfold isNoteB at this; simpa using this
                  refine ok28.set hs28 rfl ⟨o.num, o.tk, o.kl, ?_, o.kd, ?_, o.ki⟩
                  · show (s28.notes ++ [_]).length ≤ 6
                    rw [List.length_append, hn28, List.length_singleton]; omega
                  · intro n hn
                    rcases List.mem_append.1 hn with hn | hn
                    · exact o.nd n hn
                    · simp at hn; subst hn; exact hnote
              · have hno : ¬ (bd28 = false ∧ ls28 ≠ [] ∧ noteOK (ls28.headD [])) := fun hh => by have := hbd'.2 hh; rw [e] at this; cases this
                cases hbd : bd28 with
                | true => exact hbad hbd
                | false =>
                  obtain ⟨K, l2, N, hK, hN', hA28, ok28⟩ := hgood hbd
                  rw [hloadS, hK]
                  dsimp only
                  have hnone : notesN l2 (m + 1) = none := by
                    rw [notesN, hN']
                    cases hl : ls28 with
                    | nil => rfl
                    | cons b rest =>
                      dsimp only
                      rw [if_neg]
                      intro hh
                      exact hno ⟨hbd, by rw [hl]; simp, by rw [hl]; exact hh⟩
                  have hall : ∀ i, notesN l2 (m + 1 + i) = none := by
                    intro i
                    induction i with
                    | zero => exact hnone
                    | succ i ih => rw [show m + 1 + (i + 1) = (m + 1 + i) + 1 by omega, notesN, ih]
                  rw [show nn = m + 1 + (nn - (m + 1)) by omega, hall]
              · show nn - Int.toNat ((m : Int) + 1) < nn - Int.toNat (m : Int); omega
            clear hJ4
            have e3 : readEnd (readText 0 (ls28.headD [])).2.1 (readText 0 (ls28.headD [])).2.2 = readEnd (readText 0 (ls28.headD [])).2.1 (readText 0 (ls28.headD [])).2.2 := rfl
            have hemp : (ls28.isEmpty = false) ↔ ls28 ≠ [] := by cases ls28 <;> simp
            refine rend_ok D30 ⟨_, rfl, ?_⟩
            by_cases hE : readEnd (readText 0 (ls28.headD [])).2.1 (readText 0 (ls28.headD [])).2.2 = 0
            · rw [if_pos (by rw [hE]; rfl)]
              refine isNote_ok rfl ⟨_, rfl, need_ok L30 fun h37 L37 f37 => ⟨rfl, app h37 _ L37 f37 ?_⟩⟩
              unfold noteOK
              simp only [Bool.or_eq_false_iff, Bool.not_eq_false', hemp, hE, true_and, and_assoc]
            · rw [if_neg (by simpa using hE)]
              refine need_ok L30 fun h37 L37 f37 => ⟨rfl, app h37 _ L37 f37 ?_⟩
              simp only [Bool.not_false, Bool.or_true, Bool.true_eq_false, false_iff]
              rintro ⟨_, _, hh, _⟩
              exact hE hh
          · have q2 : ¬ (m : Int) < (nn : Int) := by omega
            simp only [q2, decide_false, Bool.false_eq_true, if_false]
            obtain rfl : m = nn := by omega
            cases bd28 with
            | true => exact k2 (hbad rfl) h28 X28 A28 B9 ls28 L28 (by omega)
            | false =>
              obtain ⟨K, l2, N, hK, hN', hA28, ok28⟩ := hgood rfl
              refine k1 A28 ls28 ?_ h28 X28 B9 L28 ok28 (by omega)
              rw [hloadS, hK]
              dsimp only
              rw [hN', hA28]
    clear hJ1
    by_cases he : openE A token = 0
    · rw [if_pos (by rw [he]; rfl)]
      refine need_ok L9 fun h39 L39 f39 => ⟨rfl, afterOpen h39 _ L39 ?_⟩
      unfold headOK
      rw [hHead]
      dsimp only
      have e1 : ((openN A token == (num : Int)) = true) ↔ openN A token = (num : Int) := beq_iff_eq
      cases bad with
      | true =>
        have : ¬ (readEnd ne nr = 0 ∧ kn ≤ 6 ∧ nn ≤ 6) := fun hh => by have := hbad.2 hh; cases this
        simp only [Bool.true_or, Bool.true_eq_false, false_iff]
        rintro ⟨q1, q2, q3, _⟩
        exact this ⟨q1, q2, q3⟩
      | false =>
        have := hbad.1 rfl
        simp only [Bool.false_or, Bool.not_eq_false', e1]
        exact ⟨fun q => ⟨this.1, this.2.1, this.2.2, he, q⟩, fun q => q.2.2.2.2⟩
    · rw [if_neg (by simpa using he)]
      refine need_ok L9 fun h39 L39 f39 => ⟨rfl, afterOpen h39 _ L39 ?_⟩
      unfold headOK
      rw [hHead]
      dsimp only
      simp only [Bool.not_false, Bool.or_true, Bool.true_eq_false, false_iff]
      rintro ⟨_, _, _, q, _⟩
      exact he q
  clear hJ
  refine rend_ok D7 ⟨_, rfl, ?_⟩
  by_cases he : readEnd ne nr = 0
  · rw [if_pos (by rw [he]; rfl)]
    by_cases hk6 : kn ≤ 6
    · rw [if_pos (by simp; omega)]
      refine need_ok L7 fun h42 L42 f42 => ⟨rfl, afterHead h42 _ L42 ?_⟩
      by_cases hn6 : nn ≤ 6
      · have : decide ((nn : Int) ≤ 6) = true := by simp; omega
        simp [this, he, hk6, hn6]
      · have : decide ((nn : Int) ≤ 6) = false := by simp; omega
        simp [this, hn6]
    · rw [if_neg (by simp; omega)]
      refine need_ok L7 fun h42 L42 f42 => ⟨rfl, afterHead h42 _ L42 ?_⟩
      simp [hk6]
  · rw [if_neg (by simpa using he)]
    refine need_ok L7 fun h42 L42 f42 => ⟨rfl, afterHead h42 _ L42 ?_⟩
    simp [he]
structure Rows (h:Heap) (p:Option Addr) (l c:Nat) (xs:List BV):Prop where
 len:l=xs.length
 row:Row h p (xs.flatMap nenc)
 cap:l≤c
 each: ∀x∈xs,Row h x.p (bc x.b)
theorem load_ok {xs:List BV} {l c:Nat} (H:Rows h p l c xs) (hsz: ∀b∈xs.map BV.b,b.length≤1099511627776)
  (k1: ∀A,Reach (xs.map BV.b) A []→ ∀h' t X,Has h' t X A→okA A→UpF h X h'→R (.tuple #[.pointer (some ⟨t,0,none⟩), .int .i64 0]) h')
  (k2:(∃A ls,Reach (xs.map BV.b) A ls∧ls≠ []∧loadS A ls=none)→ ∀h',Fr (fun _=>False) h h'→R (.tuple #[.pointer none, .int .i64 3]) h'):
  CallsH Tryz.prog F.sessions_Load #[.slice p l c] h R:=by
 obtain⟨rfl,hr,hc,he⟩:=H
 refine sessions_Load.walk (new_ok fun h1 t X H1 f1 g1=>⟨_,rfl,newP_of ?_⟩)
 have f2:Fr (fun _=>False) h (h1.push (.cells #[.slice p xs.length c, .bool false] T.sessions_loader)):=f1.tt (Fr.push _ _)
 obtain⟨B,H1⟩:=H1
 have z1:=f1.1
 have L2:LS h (h1.push (.cells #[.slice p xs.length c, .bool false] T.sessions_loader)) t h1.size X (fun y=>y<h.size) [] B (xs.map BV.b) false:=by
  refine⟨H1.frame (Fr.push (S:=fun _=>False) _ _) (fun _ _=>id),⟨p,c,xs,push_new,hr.frame f2 (fun _ _=>id),hc,rfl,fun hn y hy=>row_lt hr ?_ hy,fun v hv=>⟨(he v hv).frame f2 (fun _ _=>id),fun hn y hy=>row_lt (he v hv) ?_ hy⟩⟩,⟨f2,g1⟩,z1,by rw[Array.size_push];omega,fun y hy e=>by have:=H1.lt y hy;omega,fun _=>id,hsz⟩
  ·intro e;exact hn (by cases xs with|nil=>rfl|cons=>simp at e)
  ·intro e;exact hn (by cases hb:v.b with|nil=>rfl|cons=>rw[hb] at e;simp[bc] at e)
 generalize h1.push (.cells #[.slice p xs.length c, .bool false] T.sessions_loader)=h2 at L2⊢
 generalize h1.size=x at L2⊢
 clear f2 H1 z1 g1 f1
 refine⟨fun g=> ∃X A B ls bad,LS h g t x X (fun y=>y<h.size) A B ls bad∧(bad=false→Reach (xs.map BV.b) A ls∧okA A)∧(bad=true→ ∃A ls,Reach (xs.map BV.b) A ls∧ls≠ []∧loadS A ls=none),ldLen x,⟨X, [],B,_,false,L2,fun _=>⟨.start,okA.nil⟩,fun e=>by cases e⟩, ?_⟩
 clear L2
 rintro g ⟨X,A,B,ls,bad,L,hg,hb⟩
 obtain⟨p',c',ys,a1,a2,a3,a4,a5⟩:=id L.ld
 refine JoinP.of fun J hJ=>⟨_,_,_,cell_at a1 rfl, ?_⟩
 have fin:bad=true∨ls= []→J false g:=by
  intro hor
  subst hJ
  simp only[Bool.false_eq_true,if_false]
  refine⟨_,cell_at a1 rfl, ?_⟩
  cases bad with
  |true=>
   simp only[if_true]
   exact k2 (hb rfl) g L.up.fr
  |false=>
   simp only[Bool.false_eq_true,if_false]
   rcases hor with hor|hor
   ·cases hor
   ·obtain⟨r,ok⟩:=hg rfl
    rw[hor] at r
    exact k1 A r g t X ⟨B,L.has⟩ ok L.up
 by_cases hl:ls= []
 ·have: ¬((ys.length:Nat):Int)>0:=by
   have:=congrArg List.length a4;rw[List.length_map,hl] at this;simp at this;simp[this]
  simp only[this,decide_false,Bool.false_eq_true,if_false]
  exact fin (.inr hl)
 ·have:((ys.length:Nat):Int)>0:=by
   have h1:=congrArg List.length a4;rw[List.length_map] at h1
   have:=List.length_pos_iff.2 hl;omega
  simp only[this,decide_true,if_true]
  refine⟨_,cell_at a1 rfl, ?_⟩
  cases bad with
  |true=>exact fin (.inl rfl)
  |false=>
   subst hJ
   simp only[Bool.not_false,if_true]
   obtain⟨r,ok⟩:=hg rfl
   have ml:=L.ldLen
   refine session_ok L ok hl (fun A' ls' hs h' X' B' L' ok' hlt=>⟨rfl,⟨X',A',B',ls',false,L',fun _=>⟨.step r hs,ok'⟩,fun e=>by cases e⟩,by rw[ml,L'.ldLen];exact hlt⟩) (fun hn h' X' A' B' ls' L' hlt=>⟨rfl,⟨X',A',B',ls',true,L',(fun e=>by cases e),fun _=>⟨A,ls,r,hl,hn⟩⟩,by rw[ml,L'.ldLen];exact hlt⟩)
end Ses
end Go.Proofs.YtgccegnmggjkjaaGreatDoor
set_option maxRecDepth 100000
namespace Go.Proofs.YtgccegnmggjkjaaGreatDoor
open Go.Den Go.Fields
namespace Ses
open Fld
variable {h h' h0 : Heap} {t : Nat} {X : Ft} {R : Value → Heap → Prop} {p q : Option Addr} {A : List Ses}
theorem reach_end {A0:List Ses} (ok:okA A0) {tail:Recs} (ht:tail= []∨loadS A0 tail=none) (r:Reach (recs A0++tail) A []):tail= []∧A=A0:=by
 obtain⟨k,hk,rfl,e⟩:=reach_recs ok tail r (fun _ _=>ht.symm)
 have e1:=List.append_eq_nil_iff.1 e.symm
 have e2:=recs_nil e1.1
 have:=congrArg List.length e2
 rw[List.length_drop,List.length_nil] at this
 exact⟨e1.2,List.take_of_length_le (by omega)⟩
theorem reach_bad {A0:List Ses} (ok:okA A0) {tail:Recs} (ht:tail= []∨loadS A0 tail=none) (r: ∃A ls,Reach (recs A0++tail) A ls∧ls≠ []∧loadS A ls=none):tail≠ []:=by
 obtain⟨A,ls,r,hn,hb⟩:=r
 obtain⟨k,hk,rfl,rfl⟩:=reach_recs ok tail r (fun _ _=>ht.symm)
 by_cases hlt:k<A0.length
 ·exfalso
  have ha:A0[k]? =some A0[k]:=List.getElem?_eq_getElem hlt
  have e1:A0.take (k+1)=A0.take k++ [A0[k]]:=by rw[List.take_add_one,ha];rfl
  have ok1:okA (A0.take k++ [A0[k]]):=by
   rw[←e1]
   have:A0=A0.take (k+1)++A0.drop (k+1):=(List.take_append_drop _ _).symm
   rw[this] at ok
   exact ok.pre
  have e2:recs (A0.drop k)++tail=recS A0[k]++(recs (A0.drop (k+1))++tail):=by
   rw[List.drop_eq_getElem_cons hlt]
   unfold recs
   rw[List.flatMap_cons,List.append_assoc]
  rw[e2,loadS_enc ok1] at hb
  cases hb
 ·obtain rfl:k=A0.length:=by omega
  rw[List.drop_length] at hn
  exact hn
theorem recs_small (ok:okA A): ∀b∈recs A,b.length≤2000:=by
 intro b hb
 obtain⟨s,hs,hb⟩:=List.mem_flatMap.1 hb
 obtain⟨i,hi⟩:=List.getElem?_of_mem hs
 have o:=ok.at_ i s hi
 unfold recS at hb
 rcases List.mem_cons.1 hb with rfl|hb
 ·unfold headR
  simp only[List.length_append]
  have a1:=(encNum_len s.num).2
  have a2:=(encNum_len s.token).2
  have a3:=(encNum_len (bit s.up)).2
  have a4:=(encNum_len (bit s.watch)).2
  have a5:=(encNum_len s.kept.length).2
  have a6:=(encNum_len s.notes.length).2
  omega
 ·rcases List.mem_append.1 hb with hb|hb
  ·obtain⟨a,ha,rfl⟩:=List.mem_map.1 hb
   have h1:=(o.kd a ha).2
   have a1:=(encNum_len a.1).2
   have a2:=(encNum_len a.2.length).2
   unfold ansR encText
   simp only[List.length_append]
   omega
  ·obtain⟨a,ha,rfl⟩:=List.mem_map.1 hb
   have h1:=(o.nd a ha).2
   have a2:=(encNum_len a.length).2
   unfold encText
   simp only[List.length_append]
   omega
theorem loadA_ok {xs:List BV} {l c:Nat} (H:Rows h p l c xs) (ok:okA A) (hx:xs.map BV.b=recs A)
  (hk: ∀h' t X,Has h' t X A→UpF h X h'→R (.tuple #[.pointer (some ⟨t,0,none⟩), .int .i64 0]) h'):CallsH Tryz.prog F.sessions_Load #[.slice p l c] h R:=by
 refine load_ok H (by rw[hx];exact fun b hb=>Nat.le_trans (recs_small ok b hb) (by decide)) (fun A' r h' t X H' _ u=> ?_) (fun r h' f=>absurd rfl (reach_bad ok (tail:= []) (.inl rfl) (by rw[List.append_nil,←hx];exact r)))
 obtain rfl:=(reach_end ok (.inl rfl) (by rw[List.append_nil,←hx];exact r)).2
 exact hk h' t X H' u
end Ses
end Go.Proofs.YtgccegnmggjkjaaGreatDoor
set_option maxRecDepth 100000
namespace Go.Proofs.YtgccegnmggjkjaaGreatDoor
open Go.Den Go.Fields Go.Heapq
namespace Obx
open Fld
variable {h h' h0 : Heap} {b : Nat} {X : Ft} {R : Value → Heap → Prop} {p q : Option Addr} {c d i : Nat} {L : List E} {s : BS}
theorem int_enc {n:Nat} (hn:n≤1099511627776) (y:List UInt8):readInt 0 (encNum n++y)=(n,0,y):=readMost_enc hn (by omega) y
theorem load_ok {xs:List BV} {l c:Nat} (H:Fld.Rows h p l c xs) (ok:okB s L) (hnx:s.next≤1000000000) (hl:l≤100)
  (hx:(∃r,xs.map BV.b=headB s::r∧r.length≠s.items.length)∨xs= []∨xs.map BV.b=recsB s)
  (k1:xs.map BV.b=recsB s→ ∀h' b X,Box h' b X s→UpF h X h'→R (.tuple #[.pointer (some ⟨b,0,none⟩), .int .i64 0]) h')
  (k2:xs.map BV.b≠recsB s→ ∀h',Fr (fun _=>False) h h'→R (.tuple #[.pointer none, .int .i64 3]) h'):
  CallsH Tryz.prog F.outbox_Load #[.slice p l c] h R:=by
 have hcnt:=ok.cnt
 have hle:=ok.le
 refine outbox_Load.walk ?_
 by_cases h0:xs= []
 ·have hl0:l=0:=by rw[H.len,h0];rfl
  rw[if_pos (by rw[hl0];rfl)]
  exact k2 (by rw[h0];intro e;cases e) h (Fr.refl _ _)
 obtain⟨x0,xr,rfl⟩:=List.exists_cons_of_ne_nil h0
 have hlen:l=xr.length+1:=H.len
 have hhead:x0.b=headB s:=by
  rcases hx with⟨r,e,_⟩|e|e
  ·exact(List.cons.inj e).1
  ·cases e
  ·exact(List.cons.inj e).1
 rw[if_neg (by simp only[beq_iff_eq];omega)]
 obtain⟨pa,rfl⟩:=H.row.some (by simp)
 refine new_ok fun h1 b X1 B1 f1 g1=>⟨_,rfl,⟨by omega,by omega⟩,onSome_some.2 ⟨x0.p,x0.b.length,x0.c, ?_, ?_⟩⟩
 ·have:=((H.on f1).row.heldAt nenc_len (i:=0) (x:=x0) rfl).1
  rw[Nat.zero_mul,add_zero_addr,add_zero_addr] at this
  rw[show Int.toNat 0*1=0 from rfl,add_zero_addr];exact this
 have hb0:=headB_len s
 refine Fld.read_ok ((H.on f1).each x0 (by simp)) rfl (by rw[hhead];omega) fun h2 r S2 D2 f2 g2=>⟨_,rfl, ?_⟩
 obtain⟨lp,lc,ys,a,S,M1⟩:=B1
 have hys:ys= []:=List.map_eq_nil_iff.1 M1.abs
 subst hys
 have z1:=f1.1
 have z2:=f2.1
 have ltX: ∀y,X1.M y∨X1.D y→y<h1.size:=fun y hy=>M1.lt y hy
 have lb:=lt_of_get M1.blk
 rw[hhead] at D2
 have e0:headB s=encNum s.next++(encNum s.taken++(encNum s.canc++(encNum s.over++(encNum s.items.length++ [])))):=by unfold headB;simp
 rw[e0] at D2
 have rS:=g2 r D2.self
 have frr: ∀ {g g':Heap},Fr (fun _=>False) h1 g→Fr (fun y=>y=r) g g'→Fr (fun _=>False) h1 g':=fun f1 f2=>f1.fresh f2 (fun y e=>by omega)
 refine rint_ok D2 fun h3 D3 f3=> ?_
 rw[int_enc (by omega)] at D3⊢
 refine⟨_,rfl,rint_ok D3 fun h4 D4 f4=> ?_⟩
 rw[int_enc (by omega)] at D4⊢
 refine⟨_,rfl,rint_ok D4 fun h5 D5 f5=> ?_⟩
 rw[int_enc (by omega)] at D5⊢
 refine⟨_,rfl,rint_ok D5 fun h6 D6 f6=> ?_⟩
 rw[int_enc (by omega)] at D6⊢
 refine⟨_,rfl, ?_⟩
 dsimp only at D6⊢
 have F6:Fr (fun _=>False) h1 h6:=frr (frr (frr (frr f2 f3) f4) f5) f6
 have M6:=M1.on F6
 refine onSome_some.2 (storeP_blk M6.blk (by simp) fun h7 a1 a2 a3=>onSome_some.2 (storeP_blk a1 (by simp) fun h8 b1 b2 b3=>onSome_some.2 (storeP_blk b1 (by simp) fun h9 c1 c2 c3=>onSome_some.2 (storeP_blk c1 (by simp) fun h10 d1 d2 d3=> ?_))))
 have f10:Fr (fun y=>y=b) h6 h10:=⟨by omega,fun y hy hn=>by rw[d3 y hn,c3 y hn,b3 y hn,a3 y hn]⟩
 obtain⟨M10,s10⟩:=M6.field (s':=⟨[],s.next,s.taken,s.canc,s.over⟩) (h':=h10) rfl (by rw[d1];rfl) f10
 have D10:=D6.frame f10 (fun y hy e=>by have:=g2 y hy;omega)
 refine rint_ok D10 fun h11 D11 f11=> ?_
 rw[int_enc (by omega)] at D11⊢
 refine⟨_,rfl, ?_⟩
 dsimp only at D11⊢
 have M11:Mm h11 b X1 ⟨[],s.next,s.taken,s.canc,s.over⟩ [] lp lc [] a S:=M10.frame f11 (fun y hy e=>by have:=ltX y hy;omega)
 have U11:UpF h X1 h11:=by
  have u1:UpF h X1 h1:=⟨f1,g1⟩
  have u10:=(u1.on F6).step s10
  exact⟨u10.fr.fresh f11 (fun y e=>by omega),u10.ge⟩
 clear M1 M6 M10 D2 D3 D4 D5 D6 D10 a1 a2 a3 b1 b2 b3 c1 c2 c3 d1 d2 d3 s10
 refine JoinP.of fun J hJ=>rend_ok D11 ⟨_,rfl, ?_⟩
 have er:readEnd 0 []=0:=rfl
 rw[er,if_neg (by decide)]
 have wl:IntKind.wrap .i64 (((l:Nat):Int) - 1)=(xr.length:Int):=by rw[wrap_id (by omega) (by omega)];omega
 rw[wl]
 by_cases hn:s.items.length=xr.length
 ·
  have hrec:(x0::xr).map BV.b=recsB s:=by
   rcases hx with⟨r',e,hne⟩|e|e
   ·exfalso
    have:=congrArg List.length (List.cons.inj e).2
    rw[List.length_map] at this
    omega
   ·cases e
   ·exact e
  have hxr:xr.map BV.b=s.items.map recI:=(List.cons.inj hrec).2
  have q1:(((s.items.length:Nat):Int) !=(xr.length:Int))=false:=by rw[hn];simp
  rw[q1,if_neg (by simp),if_neg (by simp;omega)]
  refine onSome_some.2 ⟨_,cell_at M11.blk rfl, ?_⟩
  rw[if_neg (by simp;omega)]
  refine onSome_some.2 ⟨_,cell_at M11.blk rfl,onSome_some.2 ⟨_,cell_at M11.blk rfl,onSome_some.2 ⟨_,cell_at M11.blk rfl,onSome_some.2 ⟨_,cell_at M11.blk rfl, ?_⟩⟩⟩⟩
  have q2:((IntKind.wrap .i64 ((s.next:Int) - 1)) !=(IntKind.wrap .i64 ((IntKind.wrap .i64 ((IntKind.wrap .i64 ((s.taken:Int)+(s.canc:Int)))+(s.over:Int)))+((s.items.length:Nat):Int))))=false:=by
   rw[wrap_id (n:=(s.next:Int) - 1) (by omega) (by omega),wrap_id (n:=(s.taken:Int)+(s.canc:Int)) (by omega) (by omega),wrap_id (n:=(s.taken:Int)+(s.canc:Int)+(s.over:Int)) (by omega) (by omega),wrap_id (by omega) (by omega)]
   simp only[bne_eq_false_iff_eq]
   omega
  dsimp only
  rw[q2]
  subst hJ
  simp only[Bool.false_eq_true,if_false]
  have t1:Int.toNat 1=1:=rfl
  rw[t1]
  have cap:=H.cap
  refine⟨⟨by omega,by omega⟩, ?_⟩
  have rowS:Row h (slBase (some pa) c 1 1) (xr.flatMap nenc):=by
   have rs:=H.row.sub (cap:=c) (l:=1) (u:=l) (sz:=1) (by omega) (by omega)
   rw[flat_take nenc 1 nenc_len,flat_drop nenc 1 nenc_len,List.take_of_length_le (by rw[List.length_cons];omega)] at rs
   exact rs
  refine⟨fun last t g=> ∃(k:Nat) (X:Ft) (L':List E),t=(k:Int)∧k≤xr.length∧Bx g b X ⟨s.items.take k,s.next,s.taken,s.canc,s.over⟩ L'∧UpF h X g∧L'.Perm ((s.items.take k).map It.kv)∧(∀x,s.items[k]? =some x→last<(x.num:Int)),fun _ t _=>xr.length - t.toNat,
   ⟨0,X1, [],rfl,by omega,⟨lp,lc, [],a,S,M11⟩,U11, .refl _,fun x hx0=>by have:=(ok.it x (List.mem_of_getElem? hx0)).1;omega⟩, ?_⟩
  clear M11 U11 D11 f11 f10 F6
  rintro last _ g ⟨k,X,L',rfl,hkn,⟨lp,lc,ys,a,S,M⟩,U,pm,hlast⟩
  have ylen:=M.len
  have ylen:ys.length=k:=by
   rw[ylen]
   show(s.items.take k).length=k
   rw[List.length_take];omega
  by_cases hlt:k<xr.length
  ·have q3:(k:Int)<((l - 1:Nat):Int):=by omega
   simp only[q3,decide_true,if_true,Int.toNat_natCast]
   have hxk:xr[k]? =some xr[k]:=List.getElem?_eq_getElem hlt
   generalize xr[k]=v at hxk
   have hik:s.items[k]? =some (s.items[k]'(by omega)):=List.getElem?_eq_getElem _
   generalize s.items[k]'(by omega)=x at hik
   have hvb:v.b=recI x:=by
    have h1:(xr.map BV.b)[k]? =some v.b:=by rw[List.getElem?_map,hxk];rfl
    rw[hxr,List.getElem?_map,hik] at h1
    exact(Option.some.inj h1).symm
   have hxm:=List.mem_of_getElem? hik
   have hit:=ok.it x hxm
   have rlen:=recI_len (x:=x) hit.2.2.2.1
   have rg:=rowS.frame U.fr (fun _ _=>id)
   obtain⟨sa,hsa⟩:=rg.some (fun e=>by have:=congrArg List.length e;rw[flat_len nenc 1 nenc_len,List.length_nil] at this;omega)
   rw[hsa] at rg⊢
   have cv:=(rg.heldAt nenc_len hxk).1
   rw[add_zero_addr] at cv
   refine⟨⟨by first|trivial|omega,by first|trivial|omega⟩,onSome_some.2 ⟨_,_,_,cv, ?_⟩⟩
   have rowv:=(H.each v (List.mem_cons_of_mem _ (List.mem_of_getElem? hxk))).frame U.fr (fun _ _=>id)
   refine Fld.read_ok rowv rfl (by rw[hvb];omega) fun h14 r S14 D14 f14 g14=>⟨_,rfl, ?_⟩
   rw[hvb] at D14
   have ei:recI x=encNum x.num++(encNum x.owner.toNat++(encText x.d++(encNum x.till++ []))):=by unfold recI;simp
   rw[ei] at D14
   have rS:=g14 r D14.self
   have rlt:=D14.lt r D14.self
   refine rint_ok D14 fun h15 D15 f15=> ?_
   rw[int_enc (by omega)] at D15⊢
   refine⟨_,rfl,rint_ok D15 fun h16 D16 f16=> ?_⟩
   rw[int_enc (by omega)] at D16⊢
   refine⟨_,rfl, ?_⟩
   dsimp only at D16⊢
   have et:=readText_enc (t:=x.d) (by omega) (encNum x.till++ [])
   have lrest:(encText x.d++(encNum x.till++ [])).length≤1000:=by
    have:=congrArg List.length ei
    simp only[List.length_append] at this⊢
    omega
   refine rtext_ok D16 (by omega) fun h17 p17 c17 D17 o17 g17 f17=> ?_
   rw[et] at D17 o17⊢
   refine⟨_,_,_,rfl,rnum_ok D17 fun h18 D18 f18=> ?_⟩
   dsimp only at D18 o17
   rw[readNum_enc (by omega)] at D18⊢
   refine⟨_,rfl, ?_⟩
   dsimp only at D18⊢
   have z14:=f14.1
   have z15:=f15.1
   have z16:=f16.1
   have z17:=f17.1
   have z18:=f18.1
   have ey:((x.owner.toNat:Nat):Int)=x.owner:=by omega
   rw[ey]
   refine outbox_Item.new fun b1 h23 eb1 hb1 f23=>JoinP.of fun J1 hJ1=> ?_
   have z23:=f23.1
   have l1:=lt_of_get hb1
   have F23:Fr (fun _=>False) g h23:=(((f14.fresh f15 (fun y e=>by omega)).fresh f16 (fun y e=>by omega)).fresh f17 (fun y e=>by omega)).fresh f18 (fun y e=>by omega)|>.tt f23
   refine rend_ok (D18.frame f23 (fun _ _=>id)) ⟨_,rfl, ?_⟩
   rw[er,if_neg (by decide)]
   refine outbox_Item.ld hb1 (right_ok fun h30 f30=>⟨_,rfl, ?_⟩)
   have hrt:rightB x.owner x.d.length (x.till:Int)=true:=rightB_iff.2 ⟨hit.2.2.2.2.1,hit.2.2.2.2.2.1,hit.2.2.1,hit.2.2.2.1,by have:=hit.2.2.2.2.2.2;omega⟩
   rw[hrt]
   simp only[Bool.not_true,Bool.false_eq_true,if_false]
   have F30:Fr (fun _=>False) g h30:=F23.tt f30
   have z30:=f30.1
   have M30:=M.on F30
   have hb30:outbox_Item.at h30 b1 (x.num:Int) x.owner p17 x.d.length c17 (x.till:Int):=f30.get hb1 id
   refine⟨_,cell_at hb30 rfl, ?_⟩
   have hla:=hlast x hik
   have q5: ¬(x.num:Int)≤last:=by omega
   simp only[q5,decide_false,Bool.false_eq_true,if_false]
   refine⟨_,cell_at hb30 rfl,onSome_some.2 ⟨_,cell_at M30.blk rfl, ?_⟩⟩
   have q6:decide ((x.num:Int)≥(s.next:Int))=false:=decide_eq_false (by have:=hit.2.1;omega)
   dsimp only
   rw[q6]
   subst hJ1
   simp only[Bool.false_eq_true,if_false]
   have o30:Own h30 p17 x.d.length c17 1 (bc x.d):=((o17.frame f18 (fun y hy e=>by have:=g17 y hy;omega)).frame f23 (fun _ _=>id)).frame f30 (fun _ _=>id)
   have p17y: ∀y,inBlk p17 y→g.size≤y∧y<h30.size:=fun y hy=>⟨by have:=g17 y hy;omega,o30.blk_lt hy⟩
   clear D14 D15 D16 D17 D18 o17
   refine onSome_some.2 ⟨_,_,_,cell_at M30.blk rfl,outbox_Item.ld hb30 ?_⟩
   refine newP_of ⟨cell_at (M30.on (Fr.push (S:=fun _=>False) h30 _)).blk rfl, ?_⟩
   have f9:Fr (fun _=>False) h30 (h30.push (.cells #[.int .i64 (x.num:Int), .int .i64 x.owner, .slice p17 x.d.length c17, .int .u64 (x.till:Int)] T.outbox_Item)):=Fr.push _ _
   have r9:Row (h30.push (.cells #[.int .i64 (x.num:Int), .int .i64 x.owner, .slice p17 x.d.length c17, .int .u64 (x.till:Int)] T.outbox_Item)) (some ⟨h30.size,0,none⟩) [.int .i64 (x.num:Int), .int .i64 x.owner, .slice p17 x.d.length c17, .int .u64 (x.till:Int)]:=row_new
   generalize h30.push (.cells #[.int .i64 (x.num:Int), .int .i64 x.owner, .slice p17 x.d.length c17, .int .u64 (x.till:Int)] T.outbox_Item)=h31 at f9 r9⊢
   have M31:=M30.on f9
   have hb31:outbox_Item.at h31 b1 (x.num:Int) x.owner p17 x.d.length c17 (x.till:Int):=f9.get hb30 id
   refine den_append tI uI M31.own r9 rfl (fun w hw=>by simp at hw;rcases hw with rfl|rfl|rfl|rfl<;>rfl) (by omega) (by omega) fun p10 c10 h10 o10 _ f10 g10=>⟨_,_,_,rfl, ?_⟩
   have z9:=f9.1
   have z10:=f10.1
   have lb:=lt_of_get M.blk
   have k10:=f10.get M31.blk M.bl
   refine onSome_some.2 (storeP_blk k10 (by simp) fun h11 a1 a2 a3=>onSome_some.2 ?_)
   have f11:Fr (fun y=>y=b) h10 h11:=Fr.of_eq a2 a3
   have nlp: ∀y,g.size≤y→ ¬inBlk lp y:=fun y hy hx=>by have:=M.own.blk_lt hx;omega
   have hb10:outbox_Item.at h10 b1 (x.num:Int) x.owner p17 x.d.length c17 (x.till:Int):=f10.get hb31 (nlp b1 (by omega))
   have hb11:outbox_Item.at h11 b1 (x.num:Int) x.owner p17 x.d.length c17 (x.till:Int):=(a3 b1 (by omega)).trans hb10
   have A11:Alarm.Al h11 a S L':=(M31.al.frame f10 (fun y hy hx=>M.ls y hx hy)).frame f11 (fun y hy e=>M.bs (e▸hy))
   refine⟨_,cell_at a1 rfl,_,cell_at hb11 rfl,_,cell_at hb11 rfl, ?_⟩
   have Ll:L'.length≤16:=by have:=pm.length_eq;rw[List.length_map,List.length_take] at this;omega
   have hmay:Alarm.may (x.num:Int) (x.till:Int)=true:=Alarm.may_iff.2 ⟨by have:=hit.1;omega,by have:=hit.2.1;omega,by have:=hit.2.2.2.2.2.2;omega⟩
   refine Alarm.set_ok A11 (by omega) _ _ (by omega) (fun _ h13 S13 A13 g13 f13=>⟨_,rfl, ?_⟩) (fun hf=>by rw[hmay] at hf;cases hf)
   have nS: ∀y,g.size≤y→ ¬S y:=fun y hy hs=>by have:=M.al.lt hs;omega
   refine⟨_,cell_at (f13.get hb11 (nS b1 (by omega))) rfl, ?_⟩
   have F9:Fr (fun _=>False) g h31:=F30.tt f9
   have F10:Fr (inBlk lp) g h10:=Fr.no F9 f10
   have F11:Fr (fun y=>inBlk lp y∨y=b) g h11:=(F10.mono (fun _ _ hx=> .inl hx)).tt (f11.mono (fun _ _ hx=> .inr hx))
   have F13:Fr X.M g h13:=((F11.mono (fun y _ hx=>(M.m y).2 (hx.elim (fun h=> .inr (.inl h)) .inl))).tt (f13.mono (fun y _ hx=>(M.m y).2 (.inr (.inr hx)))))
   have p10y: ∀y,inBlk p10 y→inBlk lp y∨h30.size≤y:=fun y hy=>(g10 y hy).imp id (fun h1=>by omega)
   have p10lt: ∀y,inBlk p10 y→y<h11.size:=fun y hy=>by have:=o10.blk_lt hy;omega
   have o13:Own h13 p17 x.d.length c17 1 (bc x.d):=by
    have F30_13:Fr X.M h30 h13:=by
     refine⟨by have:=f13.1;omega,fun y hy hn=> ?_⟩
     have e1:h13[y]? =h11[y]? :=f13.2 y (by omega) (fun hx=>hn ((M.m y).2 (.inr (.inr hx))))
     have e3:h11[y]? =h10[y]? :=f11.2 y (by omega) (fun e=>hn ((M.m y).2 (.inl e)))
     have e4:h10[y]? =h31[y]? :=f10.2 y (by omega) (fun e=>hn ((M.m y).2 (.inr (.inl e))))
     have e5:h31[y]? =h30[y]? :=f9.2 y (by omega) id
     rw[e1,e3,e4,e5]
    exact o30.frame F30_13 (fun y hy hm=>by have:=M.lt y (.inl hm);have:=p17y y hy;omega)
   have dlt13: ∀y,X.D y∨inBlk p17 y→y<h13.size:=fun y hy=>hy.elim (fun h1=>Nat.lt_of_lt_of_le (M.dlt y h1) F13.1) (fun h1=>by have:=p17y y h1;have:=f13.1;omega)
   have cat:ys.flatMap ienc++ [.int .i64 (x.num:Int), .int .i64 x.owner, .slice p17 x.d.length c17, .int .u64 (x.till:Int)]=(ys++ [(⟨x.num,x.owner,⟨p17,c17,x.d⟩,x.till⟩:IV)]).flatMap ienc:=by rw[List.flatMap_append];simp
   have ln:(ys++ [(⟨x.num,x.owner,⟨p17,c17,x.d⟩,x.till⟩:IV)]).length=ys.length+1:=by rw[List.length_append];rfl
   have nb10: ∀y,inBlk p10 y→y≠b:=fun y hy e=>(p10y y hy).elim (fun h1=>M.bl (e▸h1)) (fun h1=>by omega)
   have S13M: ∀y,S13 y→X.M y∨h11.size≤y:=fun y hy=>(g13 y hy).imp (fun h1=>(M.m y).2 (.inr (.inr h1))) id
   have tk:s.items.take (k+1)=s.items.take k++ [x]:=by rw[List.take_add_one,hik];rfl
   rw[wrap_id (by omega) (by omega)]
   have st:StepF X g ⟨fun y=>y=b∨inBlk p10 y∨S13 y,fun y=>X.D y∨inBlk p17 y⟩ h13:=by
    refine⟨F13, ?_, ?_,fun _=> .inl⟩
    ·rintro y (rfl|hy|hy)
     ·exact .inl ((M.m _).2 (.inl rfl))
     ·exact(p10y y hy).imp (fun h1=>(M.m _).2 (.inr (.inl h1))) (fun h1=>by omega)
     ·exact(S13M y hy).imp id (fun h1=>by omega)
    ·rintro y (hy|hy)
     ·exact .inl hy
     ·exact .inr (p17y y hy).1
   refine⟨⟨k+1,⟨fun y=>y=b∨inBlk p10 y∨S13 y,fun y=>X.D y∨inBlk p17 y⟩,_,by omega,by omega,⟨p10,c10,ys++ [⟨x.num,x.owner,⟨p17,c17,x.d⟩,x.till⟩],a,S13,⟨?_, ?_,A13, ?_, ?_,fun _=>Iff.rfl,fun hx=>nb10 b hx rfl, ?_, ?_, ?_,dlt13⟩⟩,U.step st, ?_, ?_⟩, ?_⟩
   ·have k13:=f13.get a1 M.bs
    rw[k13]
    dsimp only
    rw[ln];rfl
   ·rw[ln,←cat]
    exact(o10.frame f11 nb10).frame f13 (fun y hy hs=>(p10y y hy).elim (fun h1=>M.ls y h1 hs) (fun h1=>nS y (by omega) hs))
   ·rw[List.map_append,M.abs]
    show s.items.take k++ [x]=s.items.take (k+1)
    rw[tk]
   ·intro w hw
    rcases List.mem_append.1 hw with hw|hw
    ·exact((M.dat w hw).frame F13 (fun y hd hm=>M.dis y hm hd)).mono (fun y=> .inl)
    ·obtain rfl:=List.mem_singleton.1 hw
     exact BV.of_own o13 (fun y=> .inr)
   ·intro hs;exact(g13 b hs).elim M.bs (fun h1=>by omega)
   ·intro y hy hs
    rcases g13 y hs with h1|h1
    ·exact(p10y y hy).elim (fun h2=>M.ls y h2 h1) (fun h2=>nS y (by omega) h1)
    ·have:=p10lt y hy;omega
   ·rintro y hy (hd|hd)
    ·rcases hy with rfl|hy|hy
     ·exact M.dis _ ((M.m _).2 (.inl rfl)) hd
     ·exact(p10y y hy).elim (fun h1=>M.dis _ ((M.m _).2 (.inr (.inl h1))) hd) (fun h1=>by have:=M.dlt y hd;omega)
     ·exact(S13M y hy).elim (fun h1=>M.dis _ h1 hd) (fun h1=>by have:=M.dlt y hd;omega)
    ·have hp2:=p17y y hd
     rcases hy with rfl|hy|hy
     ·omega
     ·exact(p10y y hy).elim (fun h1=>nlp y hp2.1 h1) (fun h1=>by omega)
     ·exact(S13M y hy).elim (fun h1=>by have:=M.lt y (.inl h1);omega) (fun h1=>by omega)
   ·have hnk:(x.num:Int)∉keys L':=by
     intro hm
     obtain⟨e,he,ek⟩:=List.mem_map.1 hm
     obtain⟨z,hz,rfl⟩:=List.mem_map.1 (pm.mem_iff.1 he)
     have ek:(z.num:Int)=(x.num:Int):=ek
     obtain⟨j,hj⟩:=List.getElem?_of_mem hz
     rw[List.getElem?_take] at hj
     split at hj
     ·rename_i hjk
      have hp:=List.pairwise_iff_getElem.1 ok.inc j k (by rw[List.length_map];omega) (by rw[List.length_map];omega) hjk
      rw[List.getElem_map,List.getElem_map] at hp
      have e1:s.items[j]'(by omega)=z:=Option.some.inj ((List.getElem?_eq_getElem _).symm.trans hj)
      have e2:s.items[k]'(by omega)=x:=Option.some.inj ((List.getElem?_eq_getElem _).symm.trans hik)
      rw[e1,e2] at hp
      omega
     ·cases hj
    unfold Alarm.setL
    rw[dropK_none hnk,tk,List.map_append]
    exact(insertS_perm _ _).trans ((List.Perm.cons _ pm).trans (List.perm_append_singleton _ _).symm)
   ·intro z hz
    have hk1:=(List.getElem?_eq_some_iff.1 hz).1
    have hp:=List.pairwise_iff_getElem.1 ok.inc k (k+1) (by rw[List.length_map];omega) (by rw[List.length_map];omega) (by omega)
    rw[List.getElem_map,List.getElem_map] at hp
    have e1:s.items[k+1]'hk1=z:=Option.some.inj ((List.getElem?_eq_getElem _).symm.trans hz)
    have e2:s.items[k]'(by omega)=x:=Option.some.inj ((List.getElem?_eq_getElem _).symm.trans hik)
    rw[e1,e2] at hp
    omega
   ·show xr.length - Int.toNat ((k:Int)+1)<xr.length - k;omega
  ·have q3: ¬(k:Int)<((l - 1:Nat):Int):=by omega
   simp only[q3,decide_false,Bool.false_eq_true,if_false]
   have e1:s.items.take k=s.items:=List.take_of_length_le (by omega)
   rw[e1] at M pm
   exact k1 hrec g b X ⟨L',⟨lp,lc,ys,a,S,M⟩,⟨ok.le,pm,ok.it,ok.inc,ok.cnt⟩⟩ U
 ·
  have q1:(((s.items.length:Nat):Int) !=(xr.length:Int))=true:=by simp;omega
  rw[if_pos q1]
  subst hJ
  simp only[if_true]
  refine k2 (fun e=> ?_) h11 U11.fr
  have:=congrArg List.length e
  unfold recsB at this
  simp at this
  omega
end Obx
end Go.Proofs.YtgccegnmggjkjaaGreatDoor
set_option maxRecDepth 100000
namespace Go.Proofs.YtgccegnmggjkjaaGreatDoor
open Go.Den Go.Fields
namespace Fld
variable {h h' h0 : Heap} {R : Value → Heap → Prop} {p q : Option Addr} {n m c d i : Nat}
theorem equal_ok {a b:List UInt8} (ra:Row h p (bc a)) (hn:n=a.length) (rb:Row h q (bc b)) (hm:m=b.length) (hk:R (.bool (decide (a=b))) h):CallsH Tryz.prog F.bytes_Equal #[.slice p n c, .slice q m d] h R:=by
 refine bytes_Equal.walk ⟨_,conv ra hn,_,conv rb hm, ?_⟩
 rw[str_list,str_list]
 have e:(a==b)=decide (a=b):=by rw[Bool.eq_iff_iff];simp
 rw[e];exact hk
theorem equalFunc_ok {l:Nat} {xs ys:List BV} (H1:Rows h p l c xs) (H2:Rows h q m d ys) (hm:l≤1000000000) (hk:R (.bool (decide (xs.map BV.b=ys.map BV.b))) h):CallsH Tryz.prog F.slices_EqualFunc_s_s_byte_s_s_byte_s_byte_s_byte #[.slice p l c, .slice q m d, .func (.func F.bytes_Equal) #[] #[]] h R:=by
 obtain⟨rfl,r1,_,e1⟩:=H1
 obtain⟨rfl,r2,_,e2⟩:=H2
 refine slices_EqualFunc_s_s_byte_s_s_byte_s_byte_s_byte.eq.walk ?_
 by_cases hl:xs.length=ys.length
 ·have:(((xs.length:Nat):Int) !=((ys.length:Nat):Int))=false:=by rw[hl];simp
  rw[this]
  simp only[Bool.false_eq_true,if_false]
  refine⟨fun i g=>g=h∧ ∃k:Nat,i=(k:Int)∧k≤xs.length∧(xs.take k).map BV.b=(ys.take k).map BV.b,fun i _=>xs.length - i.toNat,⟨rfl,0,rfl,by omega,by simp⟩, ?_⟩
  rintro _ _ ⟨rfl,k,rfl,hk1,hk2⟩
  by_cases hlt:k<xs.length
  ·have q1:(k:Int)<((xs.length:Nat):Int):=by omega
   simp only[q1,decide_true,if_true,Int.toNat_natCast]
   have gx:xs[k]? =some xs[k]:=List.getElem?_eq_getElem hlt
   have gy:ys[k]? =some (ys[k]'(by omega)):=List.getElem?_eq_getElem _
   generalize xs[k]=x at gx
   generalize ys[k]'(by omega)=y at gy
   obtain⟨a,rfl⟩:=r1.some (by intro e;cases xs with|nil=>simp at hlt|cons=>simp at e)
   obtain⟨b,rfl⟩:=r2.some (by intro e;cases ys with|nil=>simp at gy|cons=>simp at e)
   have cx:=(r1.heldAt nenc_len gx).1
   have cy:=(r2.heldAt nenc_len gy).1
   rw[add_zero_addr] at cx cy
   refine⟨⟨by first|trivial|omega,by first|trivial|omega⟩,onSome_some.2 ⟨_,_,_,cx,⟨by first|trivial|omega,by first|trivial|omega⟩,onSome_some.2 ⟨_,_,_,cy, ?_⟩⟩⟩
   refine equal_ok (e1 x (List.mem_of_getElem? gx)) rfl (e2 y (List.mem_of_getElem? gy)) rfl ⟨_,rfl, ?_⟩
   by_cases hxy:x.b=y.b
   ·rw[hxy]
    simp only[decide_true,Bool.not_true,Bool.false_eq_true,if_false]
    rw[wrap_id (by omega) (by omega)]
    refine⟨⟨by first|trivial|rfl,k+1,by omega,by omega, ?_⟩,by show _ - Int.toNat ((k:Int)+1)<_;omega⟩
    rw[List.take_add_one,List.take_add_one,gx,gy,List.map_append,List.map_append,hk2]
    simp[hxy]
   ·simp only[hxy,decide_false,Bool.not_false,if_true]
    have hne:xs.map BV.b≠ys.map BV.b:=fun e=>by
     have h1:(xs.map BV.b)[k]? =(ys.map BV.b)[k]? :=by rw[e]
     rw[List.getElem?_map,List.getElem?_map,gx,gy] at h1
     exact hxy (Option.some.inj h1)
    rw[decide_eq_false hne] at hk
    exact hk
  ·have q1: ¬(k:Int)<((xs.length:Nat):Int):=by omega
   simp only[q1,decide_false,Bool.false_eq_true,if_false]
   rw[List.take_of_length_le (by omega),List.take_of_length_le (by omega)] at hk2
   rw[decide_eq_true hk2] at hk
   exact hk
 ·have:(((xs.length:Nat):Int) !=((ys.length:Nat):Int))=true:=by simp;omega
  rw[this]
  simp only[if_true]
  have hne:xs.map BV.b≠ys.map BV.b:=fun e=>hl (by have:=congrArg List.length e;simpa using this)
  rw[decide_eq_false hne] at hk
  exact hk
end Fld
end Go.Proofs.YtgccegnmggjkjaaGreatDoor
set_option maxRecDepth 100000
namespace Go.Proofs
open Go.Shelf
def Tryz.lays145_ren:Go.Shelf.Ren:=⟨fun|145=>195|220=>224|219=>247|217=>266|225=>267|224=>268|267=>269|266=>275|314=>276|n=>n,fun|9=>9|4=>4|59=>288|3=>3|5=>5|46=>271|146=>367|51=>314|n=>n,fun|1=>1|n=>n⟩
theorem Tryz.lays145:Go.Proofs.Lays.n145 Tryz.prog Tryz.lays145_ren:= {
 mixed:=by kernel_rfl
 f145:=Tryz.func195.trans (congrArg some (by kernel_rfl))
 f217:=Tryz.func266.trans (congrArg some (by kernel_rfl))
 f219:=Tryz.func247.trans (congrArg some (by kernel_rfl))
 f220:=Tryz.func224.trans (congrArg some (by kernel_rfl))
 f224:=Tryz.func268.trans (congrArg some (by kernel_rfl))
 f225:=Tryz.func267.trans (congrArg some (by kernel_rfl))
 f266:=Tryz.func275.trans (congrArg some (by kernel_rfl))
 f267:=Tryz.func269.trans (congrArg some (by kernel_rfl))
 f314:=Tryz.func276.trans (congrArg some (by kernel_rfl))
 t3:=Tryz.underlying3
 a3:=Tryz.isAgg3
 z3:=Tryz.sizeOf3
 v3:=Tryz.zeroValue3
 t4:=Tryz.underlying4
 a4:=Tryz.isAgg4
 z4:=Tryz.sizeOf4
 v4:=Tryz.zeroValue4
 t5:=Tryz.underlying5
 a5:=Tryz.isAgg5
 z5:=Tryz.sizeOf5
 v5:=Tryz.zeroValue5
 t9:=Tryz.underlying9
 a9:=Tryz.isAgg9
 z9:=Tryz.sizeOf9
 v9:=Tryz.zeroValue9
 t46:=Tryz.underlying271
 a46:=Tryz.isAgg271
 z46:=Tryz.sizeOf271
 v46:=Tryz.zeroValue271
 t51:=Tryz.underlying314
 a51:=Tryz.isAgg314
 z51:=Tryz.sizeOf314
 v51:=Tryz.zeroValue314
 t59:=Tryz.underlying288
 a59:=Tryz.isAgg288
 z59:=Tryz.sizeOf288
 v59:=Tryz.zeroValue288
 t146:=Tryz.underlying367
 a146:=Tryz.isAgg367
 z146:=Tryz.sizeOf367
 v146:=Tryz.zeroValue367
 g1:=by kernel_rfl }
def Tryz.lays103_ren:Go.Shelf.Ren:=⟨fun|103=>156|210=>194|206=>223|n=>n,fun|9=>9|4=>4|24=>240|3=>3|n=>n,fun|n=>n⟩
theorem Tryz.lays103:Go.Proofs.Lays.n103 Tryz.prog Tryz.lays103_ren:= {
 mixed:=by kernel_rfl
 f103:=Tryz.func156.trans (congrArg some (by kernel_rfl))
 f206:=Tryz.func223.trans (congrArg some (by kernel_rfl))
 f210:=Tryz.func194.trans (congrArg some (by kernel_rfl))
 t3:=Tryz.underlying3
 a3:=Tryz.isAgg3
 z3:=Tryz.sizeOf3
 v3:=Tryz.zeroValue3
 t4:=Tryz.underlying4
 a4:=Tryz.isAgg4
 z4:=Tryz.sizeOf4
 v4:=Tryz.zeroValue4
 t9:=Tryz.underlying9
 a9:=Tryz.isAgg9
 z9:=Tryz.sizeOf9
 v9:=Tryz.zeroValue9
 t24:=Tryz.underlying240
 a24:=Tryz.isAgg240
 z24:=Tryz.sizeOf240
 v24:=Tryz.zeroValue240 }
def Tryz.lays14_ren:Go.Shelf.Ren:=⟨fun|14=>196|16=>225|17=>226|19=>248|20=>249|21=>250|22=>251|23=>252|24=>253|25=>270|27=>272|26=>271|28=>277|29=>278|30=>228|31=>229|32=>230|33=>231|35=>214|34=>254|36=>255|37=>256|38=>257|39=>273|40=>274|n=>n,fun|9=>9|3=>3|22=>23|24=>291|25=>292|4=>4|34=>343|5=>5|36=>271|37=>34|0=>0|39=>346|21=>21|44=>365|47=>369|50=>372|48=>370|2=>2|52=>325|55=>327|59=>350|60=>314|20=>20|61=>351|65=>373|66=>374|67=>376|n=>n,fun|0=>2|1=>3|2=>0|3=>4|4=>5|n=>n⟩
theorem Tryz.lays14:Go.Proofs.LaysPu.n14 Tryz.prog Tryz.lays14_ren:= {
 mixed:=by kernel_rfl
 f14:=Tryz.func196.trans (congrArg some (by kernel_rfl))
 f16:=Tryz.func225.trans (congrArg some (by kernel_rfl))
 f17:=Tryz.func226.trans (congrArg some (by kernel_rfl))
 f19:=Tryz.func248.trans (congrArg some (by kernel_rfl))
 f20:=Tryz.func249.trans (congrArg some (by kernel_rfl))
 f21:=Tryz.func250.trans (congrArg some (by kernel_rfl))
 f22:=Tryz.func251.trans (congrArg some (by kernel_rfl))
 f23:=Tryz.func252.trans (congrArg some (by kernel_rfl))
 f24:=Tryz.func253.trans (congrArg some (by kernel_rfl))
 f25:=Tryz.func270.trans (congrArg some (by kernel_rfl))
 f26:=Tryz.func271.trans (congrArg some (by kernel_rfl))
 f27:=Tryz.func272.trans (congrArg some (by kernel_rfl))
 f28:=Tryz.func277.trans (congrArg some (by kernel_rfl))
 f29:=Tryz.func278.trans (congrArg some (by kernel_rfl))
 f30:=Tryz.func228.trans (congrArg some (by kernel_rfl))
 f31:=Tryz.func229.trans (congrArg some (by kernel_rfl))
 f32:=Tryz.func230.trans (congrArg some (by kernel_rfl))
 f33:=Tryz.func231.trans (congrArg some (by kernel_rfl))
 f34:=Tryz.func254.trans (congrArg some (by kernel_rfl))
 f35:=Tryz.func214.trans (congrArg some (by kernel_rfl))
 f36:=Tryz.func255.trans (congrArg some (by kernel_rfl))
 f37:=Tryz.func256.trans (congrArg some (by kernel_rfl))
 f38:=Tryz.func257.trans (congrArg some (by kernel_rfl))
 f39:=Tryz.func273.trans (congrArg some (by kernel_rfl))
 f40:=Tryz.func274.trans (congrArg some (by kernel_rfl))
 t0:=Tryz.underlying0
 a0:=Tryz.isAgg0
 z0:=Tryz.sizeOf0
 v0:=Tryz.zeroValue0
 i0:=by kernel_rfl
 t2:=Tryz.underlying2
 a2:=Tryz.isAgg2
 z2:=Tryz.sizeOf2
 v2:=Tryz.zeroValue2
 i2:=by kernel_rfl
 t3:=Tryz.underlying3
 a3:=Tryz.isAgg3
 z3:=Tryz.sizeOf3
 v3:=Tryz.zeroValue3
 i3:=by kernel_rfl
 t4:=Tryz.underlying4
 a4:=Tryz.isAgg4
 z4:=Tryz.sizeOf4
 v4:=Tryz.zeroValue4
 i4:=by kernel_rfl
 t5:=Tryz.underlying5
 a5:=Tryz.isAgg5
 z5:=Tryz.sizeOf5
 v5:=Tryz.zeroValue5
 i5:=by kernel_rfl
 t9:=Tryz.underlying9
 a9:=Tryz.isAgg9
 z9:=Tryz.sizeOf9
 v9:=Tryz.zeroValue9
 i9:=by kernel_rfl
 t20:=Tryz.underlying20
 a20:=Tryz.isAgg20
 z20:=Tryz.sizeOf20
 v20:=Tryz.zeroValue20
 i20:=by kernel_rfl
 t21:=Tryz.underlying21
 a21:=Tryz.isAgg21
 z21:=Tryz.sizeOf21
 v21:=Tryz.zeroValue21
 i21:=by kernel_rfl
 t22:=Tryz.underlying23
 a22:=Tryz.isAgg23
 z22:=Tryz.sizeOf23
 v22:=Tryz.zeroValue23
 i22:=by kernel_rfl
 t24:=Tryz.underlying291
 a24:=Tryz.isAgg291
 z24:=Tryz.sizeOf291
 v24:=Tryz.zeroValue291
 i24:=by kernel_rfl
 t25:=Tryz.underlying292
 a25:=Tryz.isAgg292
 z25:=Tryz.sizeOf292
 v25:=Tryz.zeroValue292
 i25:=by kernel_rfl
 t34:=Tryz.underlying343
 a34:=Tryz.isAgg343
 z34:=Tryz.sizeOf343
 v34:=Tryz.zeroValue343
 i34:=by kernel_rfl
 c34:=by kernel_rfl
 t36:=Tryz.underlying271
 a36:=Tryz.isAgg271
 z36:=Tryz.sizeOf271
 v36:=Tryz.zeroValue271
 i36:=by kernel_rfl
 t37:=Tryz.underlying34
 a37:=Tryz.isAgg34
 z37:=Tryz.sizeOf34
 v37:=Tryz.zeroValue34
 i37:=by kernel_rfl
 t39:=Tryz.underlying346
 a39:=Tryz.isAgg346
 z39:=Tryz.sizeOf346
 v39:=Tryz.zeroValue346
 i39:=by kernel_rfl
 t44:=Tryz.underlying365
 a44:=Tryz.isAgg365
 z44:=Tryz.sizeOf365
 v44:=Tryz.zeroValue365
 i44:=by kernel_rfl
 t47:=Tryz.underlying369
 a47:=Tryz.isAgg369
 z47:=Tryz.sizeOf369
 v47:=Tryz.zeroValue369
 i47:=by kernel_rfl
 t48:=Tryz.underlying370
 a48:=Tryz.isAgg370
 z48:=Tryz.sizeOf370
 v48:=Tryz.zeroValue370
 i48:=by kernel_rfl
 t50:=Tryz.underlying372
 a50:=Tryz.isAgg372
 z50:=Tryz.sizeOf372
 v50:=Tryz.zeroValue372
 i50:=by kernel_rfl
 t52:=Tryz.underlying325
 a52:=Tryz.isAgg325
 z52:=Tryz.sizeOf325
 v52:=Tryz.zeroValue325
 i52:=by kernel_rfl
 t55:=Tryz.underlying327
 a55:=Tryz.isAgg327
 z55:=Tryz.sizeOf327
 v55:=Tryz.zeroValue327
 i55:=by kernel_rfl
 t59:=Tryz.underlying350
 a59:=Tryz.isAgg350
 z59:=Tryz.sizeOf350
 v59:=Tryz.zeroValue350
 i59:=by kernel_rfl
 t60:=Tryz.underlying314
 a60:=Tryz.isAgg314
 z60:=Tryz.sizeOf314
 v60:=Tryz.zeroValue314
 i60:=by kernel_rfl
 t61:=Tryz.underlying351
 a61:=Tryz.isAgg351
 z61:=Tryz.sizeOf351
 t65:=Tryz.underlying373
 a65:=Tryz.isAgg373
 z65:=Tryz.sizeOf373
 v65:=Tryz.zeroValue373
 i65:=by kernel_rfl
 t66:=Tryz.underlying374
 a66:=Tryz.isAgg374
 z66:=Tryz.sizeOf374
 v66:=Tryz.zeroValue374
 i66:=by kernel_rfl
 t67:=Tryz.underlying376
 a67:=Tryz.isAgg376
 z67:=Tryz.sizeOf376
 v67:=Tryz.zeroValue376
 i67:=by kernel_rfl
 g0:=by kernel_rfl
 m0:=by kernel_rfl
 g1:=by kernel_rfl
 m1:=by kernel_rfl
 g2:=by kernel_rfl
 m2:=by kernel_rfl
 g3:=by kernel_rfl
 m3:=by kernel_rfl
 g4:=by kernel_rfl
 m4:=by kernel_rfl }
end Go.Proofs
set_option maxRecDepth 100000
namespace Go.Proofs.YtgccegnmggjkjaaGreatDoor
open Go.Den
namespace Num
variable {h h' : Heap} {R : Value → Heap → Prop}
def Mx (h:Heap):Prop:= ∃m,hcell h ⟨1,0,none⟩=some (.int .i64 m)
theorem Mx.on (M:Mx h) (f:Fr (fun _=>False) h h'):Mx h':=by
 obtain⟨m,hm⟩:=M
 exact⟨m,f.cell hm id⟩
theorem cut_ok {s sep:ByteArray} (M:Mx h) (hs:s.size<4294967281) (hk:R (.tuple #[.string ⟨(Lib.cut s.data.toList sep.data.toList).1.toArray⟩, .string ⟨(Lib.cut s.data.toList sep.data.toList).2.1.toArray⟩, .bool (Lib.cut s.data.toList sep.data.toList).2.2]) h):CallsH Tryz.prog F.strings_Cut #[.string s, .string sep] h R:=fun w hw=>by
 subst hw
 obtain⟨m,hm⟩:=M
 refine(Any.strings_Cut Tryz.lays145 s sep m w hs (by rw[cell_eq];exact hm)).mono fun e w' ⟨he,n,hw'⟩=>⟨_,he, ?_, ?_⟩
 ·rw[hw'];exact hk
 ·rw[hw'];exact⟨rfl,rfl,rfl⟩
theorem prefix_ok {s p:ByteArray} (hk:R (.tuple #[.string ⟨(Lib.trimPrefix s.data.toList p.data.toList).toArray⟩, .bool (Lib.hasPrefix s.data.toList p.data.toList)]) h):CallsH Tryz.prog F.strings_CutPrefix #[.string s, .string p] h R:=fun w hw=>
 (Any.strings_CutPrefix Tryz.lays103 s p w).mono fun e w' ⟨he,hw'⟩=>⟨_,he,by rw[hw',hw];exact hk,by rw[hw'];exact Same.refl _⟩
theorem parse_ok {s:ByteArray} {u:Nat} (hs:s.size≤1000) (hu:Lib.parseUintB 32 s.data.toList= .ok u) (hk: ∀h',Fr (fun _=>False) h h'→R (.tuple #[.int .u64 (u:Int), .nilIface]) h'):CallsH Tryz.prog F.strconv_ParseUint #[.string s, .int .i64 10, .int .i64 32] h R:=fun w hw=>by
 subst hw
 refine(Any.strconv_ParseUint_10_at32_ok Tryz.lays14 s (by omega) u hu w).mono fun e w' ⟨he,hw'⟩=>⟨_,he, ?_, ?_⟩
 ·rcases hw' with rfl|rfl
  ·exact hk _ (Fr.refl _ _)
  ·refine hk _ ?_
   unfold Lib.bytesWorld
   rw[freeze_eq]
   have e1:(w.drew.alloc (.cells (Lib.bytesCells w (Tryz.lays14_ren.t 5) s) (Tryz.lays14_ren.t 5))).heap=w.heap.push (.cells (Lib.bytesCells w (Tryz.lays14_ren.t 5) s) (Tryz.lays14_ren.t 5)):=rfl
   rw[e1]
   unfold hfreeze
   rw[if_neg (by omega)]
   refine⟨by simp,fun c hc _=> ?_⟩
   rw[Array.getElem?_modify,if_neg (by simp;omega),Array.getElem?_push,if_neg (by omega)]
 ·rcases hw' with rfl|rfl
  ·exact Same.refl _
  ·unfold Lib.bytesWorld World.freeze;split<;>exact⟨rfl,rfl,rfl⟩
end Num
end Go.Proofs.YtgccegnmggjkjaaGreatDoor
set_option maxRecDepth 100000
set_option maxHeartbeats 4000000
namespace Go.Proofs.YtgccegnmggjkjaaGreatDoor
open Go.Den
variable {h : Heap} {R : Value → Heap → Prop}
theorem eid_Parse.walk {s : ByteArray} (hv :
 NewP h (.cells #[.bool false, .int .u64 0, .int .u64 0, .string (⟨#[]⟩ : ByteArray), .string (⟨#[]⟩ : ByteArray)] T.eid_Eid) fun b h_1 =>
 if (s.toList == (⟨#[100, 116, 110, 58, 110, 111, 110, 101]⟩ : ByteArray).toList) = true then
 eid_Eid.ST h_1 ⟨b, 0, none⟩ false 0 0 (⟨#[]⟩ : ByteArray) (⟨#[]⟩ : ByteArray) fun h_2 =>
 eid_Eid.LD h_2 ⟨b, 0, none⟩ fun r_0 r_1 r_2 r_3 r_4 =>
 R (.tuple #[.agg #[.bool r_0, .int .u64 r_1, .int .u64 r_2, .string r_3, .string r_4], .int .i64 0]) h_2
 else
 NewP h_1 (.cells #[.bool false, .int .u64 0, .int .u64 0, .string (⟨#[]⟩ : ByteArray), .string (⟨#[]⟩ : ByteArray)] T.eid_Eid) fun b_1 h_3 =>
 Cl F.strings_CutPrefix #[.string s, .string (⟨#[105, 112, 110, 58]⟩ : ByteArray)] h_3 fun v h_4 =>
 ∃ t15_0 t15_1, v = .tuple #[.string t15_0, .bool t15_1] ∧
 JoinP (fun (ok : Bool) (h_5 : Heap) =>
 if (!ok) = true then
 eid_Eid.ST h_5 ⟨b, 0, none⟩ false 0 0 (⟨#[]⟩ : ByteArray) (⟨#[]⟩ : ByteArray) fun h_6 =>
 eid_Eid.LD h_6 ⟨b, 0, none⟩ fun r_0_1 r_1_1 r_2_1 r_3_1 r_4_1 =>
 R (.tuple #[.agg #[.bool r_0_1, .int .u64 r_1_1, .int .u64 r_2_1, .string r_3_1, .string r_4_1], .int .i64 3]) h_6
 else
 eid_Eid.LD h_5 ⟨b_1, 0, none⟩ fun t38_0 t38_1 t38_2 t38_3 t38_4 =>
 eid_Eid.ST h_5 ⟨b, 0, none⟩ t38_0 t38_1 t38_2 t38_3 t38_4 fun h_7 =>
 eid_Eid.LD h_7 ⟨b, 0, none⟩ fun r_0_2 r_1_2 r_2_2 r_3_2 r_4_2 =>
 R (.tuple #[.agg #[.bool r_0_2, .int .u64 r_1_2, .int .u64 r_2_2, .string r_3_2, .string r_4_2], .int .i64 0]) h_7)
 (fun J =>
 if t15_1 = true then
 Cl F.eid_parseNumbers #[.string t15_0] h_4 fun v_1 h_8 =>
 ∃ t21_0_0 t21_0_1 t21_0_2 t21_0_3 t21_0_4 t21_1, v_1 = .tuple #[.agg #[.bool t21_0_0, .int .u64 t21_0_1, .int .u64 t21_0_2, .string t21_0_3, .string t21_0_4], .bool t21_1] ∧
 eid_Eid.ST h_8 ⟨b_1, 0, none⟩ t21_0_0 t21_0_1 t21_0_2 t21_0_3 t21_0_4 fun h_9 =>
 J t21_1 h_9
 else
 Cl F.strings_CutPrefix #[.string s, .string (⟨#[100, 116, 110, 58]⟩ : ByteArray)] h_4 fun v_2 h_10 =>
 ∃ t26_0 t26_1, v_2 = .tuple #[.string t26_0, .bool t26_1] ∧
 JoinP (fun (ok_1 : Bool) (h_11 : Heap) =>
 J ok_1 h_11)
 (fun J_1 =>
 if t26_1 = true then
 Cl F.eid_parsePath #[.string t26_0] h_10 fun v_3 h_12 =>
 ∃ t32_0_0 t32_0_1 t32_0_2 t32_0_3 t32_0_4 t32_1, v_3 = .tuple #[.agg #[.bool t32_0_0, .int .u64 t32_0_1, .int .u64 t32_0_2, .string t32_0_3, .string t32_0_4], .bool t32_1] ∧
 eid_Eid.ST h_12 ⟨b_1, 0, none⟩ t32_0_0 t32_0_1 t32_0_2 t32_0_3 t32_0_4 fun h_13 =>
 J_1 t32_1 h_13
 else
 J_1 false h_10))) : CallsH Tryz.prog F.eid_Parse #[.string s] h R :=
 callsH_of_body (.seq .leaf (.seq (.seq .leaf (.cond (.seq .leaf .leaf) .leaf)) (.seq .leaf (.seq .leaf (.seq (.seq .leaf (.seq .leaf (.join [(5, .one (.bool))] (.cond .leaf (.seq .leaf (.seq .leaf (.join [(5, .one (.bool))] (.cond .leaf .leaf)))))))) (.seq (.seq .leaf (.cond (.seq .leaf .leaf) .leaf)) (.seq .leaf .leaf))))))) Tryz.func96 rfl rfl (Eq.mp (by kernel_rfl) hv)
theorem eid_parseNumbers.walk {s : ByteArray} (hv :
 NewP h (.cells #[.bool false, .int .u64 0, .int .u64 0, .string (⟨#[]⟩ : ByteArray), .string (⟨#[]⟩ : ByteArray)] T.eid_Eid) fun b h_1 =>
 Cl F.strings_Cut #[.string s, .string (⟨#[46]⟩ : ByteArray)] h_1 fun v h_2 =>
 ∃ t14_0 t14_1 t14_2, v = .tuple #[.string t14_0, .string t14_1, .bool t14_2] ∧
 Cl F.strconv_ParseUint #[.string t14_0, .int .i64 10, .int .i64 32] h_2 fun v_1 h_3 =>
 ∃ t20_0 t20_1, v_1 = .tuple #[.int .u64 t20_0, t20_1] ∧
 Cl F.strconv_ParseUint #[.string t14_1, .int .i64 10, .int .i64 32] h_3 fun v_2 h_4 =>
 ∃ t25_0 t25_1, v_2 = .tuple #[.int .u64 t25_0, t25_1] ∧
 NewP h_4 (.cells #[.bool false, .int .u64 0, .int .u64 0, .string (⟨#[]⟩ : ByteArray), .string (⟨#[]⟩ : ByteArray)] T.eid_Eid) fun b_1 h_5 =>
 eid_Eid.ST h_5 ⟨b_1, 0, none⟩ true t20_0 t25_0 (⟨#[]⟩ : ByteArray) (⟨#[]⟩ : ByteArray) fun h_6 =>
 eid_Eid.LD h_6 ⟨b_1, 0, none⟩ fun t31_0 t31_1 t31_2 t31_3 t31_4 =>
 if t14_2 = true then
 ∃ (eq : Bool), EqV Tryz.prog T.error (t20_1) (.nilIface) eq ∧
 if eq = true then
 ∃ (eq_1 : Bool), EqV Tryz.prog T.error (t25_1) (.nilIface) eq_1 ∧
 if eq_1 = true then
 eid_Eid.LD h_6 ⟨b_1, 0, none⟩ fun t42_0 t42_1 t42_2 t42_3 t42_4 =>
 Cl F.eid_Right #[.agg #[.bool t42_0, .int .u64 t42_1, .int .u64 t42_2, .string t42_3, .string t42_4]] h_6 fun v_3 h_7 =>
 ∃ t43, v_3 = .bool t43 ∧
 heldL ⟨b_1, 0, none⟩ [.bool t31_0, .int .u64 t31_1, .int .u64 t31_2, .string t31_3, .string t31_4] 0 h_7 ∧
 if t43 = true then
 Cl F.strconv_FormatUint #[.int .u64 t20_0, .int .i64 10] h_7 fun v_4 h_8 =>
 ∃ t47, v_4 = .string t47 ∧
 heldL ⟨b_1, 0, none⟩ [.bool t31_0, .int .u64 t31_1, .int .u64 t31_2, .string t31_3, .string t31_4] 0 h_8 ∧
 if (t47.toList == t14_0.toList) = true then
 Cl F.strconv_FormatUint #[.int .u64 t25_0, .int .i64 10] h_8 fun v_5 h_9 =>
 ∃ t53, v_5 = .string t53 ∧
 heldL ⟨b_1, 0, none⟩ [.bool t31_0, .int .u64 t31_1, .int .u64 t31_2, .string t31_3, .string t31_4] 0 h_9 ∧
 eid_Eid.ST h_9 ⟨b, 0, none⟩ t31_0 t31_1 t31_2 t31_3 t31_4 fun h_10 =>
 eid_Eid.LD h_10 ⟨b, 0, none⟩ fun r_0 r_1 r_2 r_3 r_4 =>
 R (.tuple #[.agg #[.bool r_0, .int .u64 r_1, .int .u64 r_2, .string r_3, .string r_4], .bool (t53.toList == t14_1.toList)]) h_10
 else
 eid_Eid.ST h_8 ⟨b, 0, none⟩ t31_0 t31_1 t31_2 t31_3 t31_4 fun h_11 =>
 eid_Eid.LD h_11 ⟨b, 0, none⟩ fun r_0_1 r_1_1 r_2_1 r_3_1 r_4_1 =>
 R (.tuple #[.agg #[.bool r_0_1, .int .u64 r_1_1, .int .u64 r_2_1, .string r_3_1, .string r_4_1], .bool false]) h_11
 else
 eid_Eid.ST h_7 ⟨b, 0, none⟩ t31_0 t31_1 t31_2 t31_3 t31_4 fun h_12 =>
 eid_Eid.LD h_12 ⟨b, 0, none⟩ fun r_0_2 r_1_2 r_2_2 r_3_2 r_4_2 =>
 R (.tuple #[.agg #[.bool r_0_2, .int .u64 r_1_2, .int .u64 r_2_2, .string r_3_2, .string r_4_2], .bool false]) h_12
 else
 eid_Eid.ST h_6 ⟨b, 0, none⟩ t31_0 t31_1 t31_2 t31_3 t31_4 fun h_13 =>
 eid_Eid.LD h_13 ⟨b, 0, none⟩ fun r_0_3 r_1_3 r_2_3 r_3_3 r_4_3 =>
 R (.tuple #[.agg #[.bool r_0_3, .int .u64 r_1_3, .int .u64 r_2_3, .string r_3_3, .string r_4_3], .bool false]) h_13
 else
 eid_Eid.ST h_6 ⟨b, 0, none⟩ t31_0 t31_1 t31_2 t31_3 t31_4 fun h_14 =>
 eid_Eid.LD h_14 ⟨b, 0, none⟩ fun r_0_4 r_1_4 r_2_4 r_3_4 r_4_4 =>
 R (.tuple #[.agg #[.bool r_0_4, .int .u64 r_1_4, .int .u64 r_2_4, .string r_3_4, .string r_4_4], .bool false]) h_14
 else
 eid_Eid.ST h_6 ⟨b, 0, none⟩ t31_0 t31_1 t31_2 t31_3 t31_4 fun h_15 =>
 eid_Eid.LD h_15 ⟨b, 0, none⟩ fun r_0_5 r_1_5 r_2_5 r_3_5 r_4_5 =>
 R (.tuple #[.agg #[.bool r_0_5, .int .u64 r_1_5, .int .u64 r_2_5, .string r_3_5, .string r_4_5], .bool false]) h_15) : CallsH Tryz.prog F.eid_parseNumbers #[.string s] h R :=
 callsH_of_body (.seq .leaf (.seq .leaf (.seq .leaf (.seq .leaf (.seq .leaf (.seq (.plan (.op 0 (.op 1 (.op 2 (.op 3 (.op 4 (.op 5 (.op 6 (.op 7 (.op 8 (.op 9 (.op 10 (.op 11 (.op 12 (.op 13 (.op 14 (.op 15 (.op 17 (.op 16 (.op 18 (.op 19 (.op 20 (.op 21 (.op 23 (.op 22 (.op 24 (.op 25 (.op 26 (.op 27 .done))))))))))))))))))))))))))))) .leaf)))))) Tryz.func157 rfl rfl (Eq.mp (by kernel_rfl) hv)
theorem eid_parsePath.walk {s : ByteArray} (hv :
 NewP h (.cells #[.bool false, .int .u64 0, .int .u64 0, .string (⟨#[]⟩ : ByteArray), .string (⟨#[]⟩ : ByteArray)] T.eid_Eid) fun b h_1 =>
 Cl F.strings_CutPrefix #[.string s, .string (⟨#[47, 47]⟩ : ByteArray)] h_1 fun v h_2 =>
 ∃ t12_0 t12_1, v = .tuple #[.string t12_0, .bool t12_1] ∧
 Cl F.strings_Cut #[.string t12_0, .string (⟨#[47]⟩ : ByteArray)] h_2 fun v_1 h_3 =>
 ∃ t17_0 t17_1 t17_2, v_1 = .tuple #[.string t17_0, .string t17_1, .bool t17_2] ∧
 NewP h_3 (.cells #[.bool false, .int .u64 0, .int .u64 0, .string (⟨#[]⟩ : ByteArray), .string (⟨#[]⟩ : ByteArray)] T.eid_Eid) fun b_1 h_4 =>
 eid_Eid.ST h_4 ⟨b_1, 0, none⟩ false 0 0 t17_0 t17_1 fun h_5 =>
 eid_Eid.LD h_5 ⟨b_1, 0, none⟩ fun t24_0 t24_1 t24_2 t24_3 t24_4 =>
 if t12_1 = true then
 if t17_2 = true then
 if (!(t17_0.toList == (⟨#[]⟩ : ByteArray).toList)) = true then
 eid_Eid.LD h_5 ⟨b_1, 0, none⟩ fun t34_0 t34_1 t34_2 t34_3 t34_4 =>
 Cl F.eid_Right #[.agg #[.bool t34_0, .int .u64 t34_1, .int .u64 t34_2, .string t34_3, .string t34_4]] h_5 fun v_2 h_6 =>
 ∃ t35, v_2 = .bool t35 ∧
 heldL ⟨b_1, 0, none⟩ [.bool t24_0, .int .u64 t24_1, .int .u64 t24_2, .string t24_3, .string t24_4] 0 h_6 ∧
 eid_Eid.ST h_6 ⟨b, 0, none⟩ t24_0 t24_1 t24_2 t24_3 t24_4 fun h_7 =>
 eid_Eid.LD h_7 ⟨b, 0, none⟩ fun r_0 r_1 r_2 r_3 r_4 =>
 R (.tuple #[.agg #[.bool r_0, .int .u64 r_1, .int .u64 r_2, .string r_3, .string r_4], .bool t35]) h_7
 else
 eid_Eid.ST h_5 ⟨b, 0, none⟩ t24_0 t24_1 t24_2 t24_3 t24_4 fun h_8 =>
 eid_Eid.LD h_8 ⟨b, 0, none⟩ fun r_0_1 r_1_1 r_2_1 r_3_1 r_4_1 =>
 R (.tuple #[.agg #[.bool r_0_1, .int .u64 r_1_1, .int .u64 r_2_1, .string r_3_1, .string r_4_1], .bool false]) h_8
 else
 eid_Eid.ST h_5 ⟨b, 0, none⟩ t24_0 t24_1 t24_2 t24_3 t24_4 fun h_9 =>
 eid_Eid.LD h_9 ⟨b, 0, none⟩ fun r_0_2 r_1_2 r_2_2 r_3_2 r_4_2 =>
 R (.tuple #[.agg #[.bool r_0_2, .int .u64 r_1_2, .int .u64 r_2_2, .string r_3_2, .string r_4_2], .bool false]) h_9
 else
 eid_Eid.ST h_5 ⟨b, 0, none⟩ t24_0 t24_1 t24_2 t24_3 t24_4 fun h_10 =>
 eid_Eid.LD h_10 ⟨b, 0, none⟩ fun r_0_3 r_1_3 r_2_3 r_3_3 r_4_3 =>
 R (.tuple #[.agg #[.bool r_0_3, .int .u64 r_1_3, .int .u64 r_2_3, .string r_3_3, .string r_4_3], .bool false]) h_10) : CallsH Tryz.prog F.eid_parsePath #[.string s] h R :=
 callsH_of_body (.seq .leaf (.seq .leaf (.seq .leaf (.seq .leaf (.seq (.plan (.op 0 (.op 1 (.op 2 (.op 3 (.op 4 (.op 5 (.op 6 (.op 7 (.op 8 (.op 9 (.op 10 (.op 11 (.op 12 (.op 13 (.op 14 .done)))))))))))))))) .leaf))))) Tryz.func158 rfl rfl (Eq.mp (by kernel_rfl) hv)
end Go.Proofs.YtgccegnmggjkjaaGreatDoor
set_option maxRecDepth 100000
namespace Go.Proofs.YtgccegnmggjkjaaGreatDoor
open Go.Den
namespace Eid
variable {h h' : Heap} {R : Value → Heap → Prop}
theorem index_one (c:UInt8) (b:List UInt8): ∀a:List UInt8,c∉a→Lib.index (a++c::b) [c]=(a.length:Int)
 | [],_=>by
  show Lib.index (c::b) [c]=0
  unfold Lib.index
  simp[List.isPrefixOf]
 |x::a,h=>by
  have hx: ¬c=x:=fun e=>h (by rw[e];simp)
  have ih:=index_one c b a (fun hh=>h (List.mem_cons_of_mem _ hh))
  show Lib.index (x::(a++c::b)) [c]=_
  unfold Lib.index
  rw[ih]
  have h1: [c].isPrefixOf (x::(a++c::b))=false:=by simp[List.isPrefixOf,hx]
  rw[h1]
  simp only[Bool.false_eq_true,if_false]
  rw[if_neg (by simp only[beq_iff_eq];omega),List.length_cons];omega
theorem cut_one (c:UInt8) (a b:List UInt8) (h:c∉a):Lib.cut (a++c::b) [c]=(a,b,true):=by
 unfold Lib.cut
 rw[index_one c b a h,if_pos (by omega),Int.toNat_natCast,List.take_left]
 congr 2
 show(a++c::b).drop (a.length+1)=b
 rw[←List.drop_drop,List.drop_left];rfl
theorem dec_digits: ∀(u:Nat),∀c∈Lib.decDigits u,48≤c.toNat∧c.toNat≤57:=by
 intro u
 induction u using Nat.strongRecOn with
 |_ u ih=>
  intro c hc
  rw[Lib.decDigits] at hc
  split at hc
  ·rw[List.mem_singleton] at hc
   subst hc
   rw[UInt8.toNat_ofNat'];omega
  ·rcases List.mem_append.1 hc with hc|hc
   ·exact ih (u/10) (by omega) c hc
   ·rw[List.mem_singleton] at hc
    subst hc
    rw[UInt8.toNat_ofNat'];omega
theorem parse_snoc {M a:Nat} {c:UInt8} : ∀(l:List UInt8) (acc:Nat),Lib.parseUintM M acc l= .ok a→Lib.parseUintM M acc (l++ [c])=Lib.parseUintM M a [c]
 | [],acc,h=>by
  unfold Lib.parseUintM at h
  cases h;rfl
 |x::l,acc,h=>by
  rw[List.cons_append]
  unfold Lib.parseUintM at h
  conv=>lhs;unfold Lib.parseUintM
  split at h
  ·rename_i hx
   rw[if_pos hx]
   split at h
   ·cases h
   ·rename_i h1
    rw[if_neg h1]
    split at h
    ·cases h
    ·rename_i h2
     rw[if_neg h2]
     exact parse_snoc l _ h
  ·cases h
theorem parse_dec {M:Nat} (hM:M≤4294967295): ∀u,u≤M→Lib.parseUintM M 0 (Lib.decDigits u)= .ok u:=by
 intro u
 induction u using Nat.strongRecOn with
 |_ u ih=>
  intro hu
  have one: ∀(a d:Nat),d<10→a*10+d≤M→Lib.parseUintM M a [UInt8.ofNat (48+d)]= .ok (a*10+d):=fun a d hd ha=>by
   have e:(UInt8.ofNat (48+d)).toNat=48+d:=by rw[UInt8.toNat_ofNat'];omega
   unfold Lib.parseUintM
   rw[e,if_pos (by omega),if_neg (by omega),if_neg (by omega)]
   unfold Lib.parseUintM
   congr 1
   omega
  rw[Lib.decDigits]
  split
  ·rename_i h
   have:=one 0 u h (by omega)
   simpa using this
  ·rw[parse_snoc _ 0 (ih (u/10) (by omega) (by omega)),one (u/10) (u%10) (by omega) (by omega)]
   congr 1
   omega
theorem parseB_dec {u:Nat} (hu:u≤4294967295):Lib.parseUintB 32 (Lib.decDigits u)= .ok u:=by
 unfold Lib.parseUintB
 rw[if_neg (by intro e;have:=congrArg List.length e;rw[Lib.decDigits_length] at this;have:=Lib.nDigits_pos u;simp at*;omega)]
 exact parse_dec (by decide) u hu
theorem data_str (l:List UInt8):(str l).data.toList=l:=by unfold str;simp
theorem eta_str (l:List UInt8):(⟨l.toArray⟩:ByteArray)=str l:=rfl
theorem dec_str (u:Nat):(⟨(Lib.decDigits u).toArray⟩:ByteArray)=str (Lib.decDigits u):=rfl
theorem nilI:EqV Tryz.prog T.error .nilIface .nilIface true:=fun h=>by kernel_rfl
theorem trim_app (p r:List UInt8):Lib.trimPrefix (p++r) p=r∧Lib.hasPrefix (p++r) p=true:=by
 have h1:Lib.hasPrefix (p++r) p=true:=by
  unfold Lib.hasPrefix
  rw[List.isPrefixOf_iff_prefix];exact List.prefix_append p r
 refine⟨?_,h1⟩
 unfold Lib.trimPrefix
 rw[if_pos h1,List.drop_left]
theorem numbers_ok {x:Ev} (hi:x.ipn=true) (hr:rightE x=true) (w1:0≤x.svc) (tb:Num.Tab h) (mx:Num.Mx h) (hk: ∀h',Fr (fun _=>False) h h'→R (.tuple #[ev5 x, .bool true]) h'):CallsH Tryz.prog F.eid_parseNumbers #[.string (str (Lib.decDigits x.node.toNat++ [46]++Lib.decDigits x.svc.toNat))] h R:=by
 have hz:x≠ .zero:=fun e=>by rw[e] at hi;cases hi
 have hr':=hr
 unfold rightE at hr'
 rw[if_neg hz,if_pos hi] at hr'
 have hr':=of_decide_eq_true hr'
 have l1:=dec_len (u:=x.node.toNat) (by omega)
 have l2:=dec_len (u:=x.svc.toNat) (by omega)
 have hd:(46:UInt8)∉Lib.decDigits x.node.toNat:=fun hm=>by
  have:=dec_digits _ _ hm
  have e:(46:UInt8).toNat=46:=rfl
  omega
 have ec:Lib.cut (str (Lib.decDigits x.node.toNat++ [46]++Lib.decDigits x.svc.toNat)).data.toList (⟨#[46]⟩:ByteArray).data.toList=(Lib.decDigits x.node.toNat,Lib.decDigits x.svc.toNat,true):=by
  rw[data_str,List.append_assoc]
  exact cut_one 46 _ _ hd
 refine eid_parseNumbers.walk (newP_of ?_)
 have f1:Fr (fun _=>False) h (h.push (.cells #[.bool false, .int .u64 0, .int .u64 0, .string ⟨#[]⟩, .string ⟨#[]⟩] T.eid_Eid)):=Fr.push _ _
 have hb1:eid_Eid.at (h.push (.cells #[.bool false, .int .u64 0, .int .u64 0, .string ⟨#[]⟩, .string ⟨#[]⟩] T.eid_Eid)) h.size false 0 0 ⟨#[]⟩ ⟨#[]⟩:=push_new
 generalize h.push (.cells #[.bool false, .int .u64 0, .int .u64 0, .string ⟨#[]⟩, .string ⟨#[]⟩] T.eid_Eid)=h1 at f1 hb1⊢
 refine Num.cut_ok (mx.on f1) (by rw[str_size];simp;omega) ⟨_,_,_,rfl, ?_⟩
 rw[ec]
 dsimp only
 rw[dec_str,dec_str]
 refine Num.parse_ok (u:=x.node.toNat) (by rw[str_size];omega) (by rw[data_str];exact parseB_dec (by omega)) fun h2 f2=>⟨_,_,rfl,Num.parse_ok (u:=x.svc.toNat) (by rw[str_size];omega) (by rw[data_str];exact parseB_dec (by omega)) fun h3 f3=>⟨_,_,rfl,eid_Eid.new fun b4 h4 e4 hb4 f4=>eid_Eid.ld hb4 ?_⟩⟩
 have n1:((x.node.toNat:Nat):Int)=x.node:=by omega
 have n2:((x.svc.toNat:Nat):Int)=x.svc:=by omega
 rw[n1,n2] at hb4
 rw[n1,n2,if_pos rfl]
 refine⟨true,nilI, ?_⟩
 rw[if_pos rfl]
 refine⟨true,nilI, ?_⟩
 rw[if_pos rfl]
 have ex:(⟨true,x.node,x.svc,⟨#[]⟩,⟨#[]⟩⟩:Ev)=x:=Ev.ext' hi.symm rfl rfl hr'.1.symm hr'.2.1.symm
 have F3:=f1.tt (f2.tt (f3.tt f4))
 refine eid_Eid.ld hb4 (right_ok ⟨true,x.node,x.svc,⟨#[]⟩,⟨#[]⟩⟩ fun h5 f5=>⟨_,rfl,eid_Eid.held (f5.get hb4 id), ?_⟩)
 rw[ex,if_pos hr]
 have fm:=Num.formatUint_ok (R:=fun v_4 h_8=> ∃(t47:ByteArray),v_4= .string t47∧
  heldL ⟨b4,0,none⟩ [.bool true, .int .u64 x.node, .int .u64 x.svc, .string ⟨#[]⟩, .string ⟨#[]⟩] 0 h_8∧
  if(t47.toList==(str (Lib.decDigits x.node.toNat)).toList)=true then
   CallsH Tryz.prog F.strconv_FormatUint #[.int .u64 x.svc, .int .i64 10] h_8 fun v_5 h_9=>
   ∃(t53:ByteArray),v_5= .string t53∧
   heldL ⟨b4,0,none⟩ [.bool true, .int .u64 x.node, .int .u64 x.svc, .string ⟨#[]⟩, .string ⟨#[]⟩] 0 h_9∧
   eid_Eid.ST h_9 ⟨h.size,0,none⟩ true x.node x.svc ⟨#[]⟩ ⟨#[]⟩ fun h_10=>
   eid_Eid.LD h_10 ⟨h.size,0,none⟩ fun r_0 r_1 r_2 r_3 r_4=>
   R (.tuple #[.agg #[.bool r_0, .int .u64 r_1, .int .u64 r_2, .string r_3, .string r_4], .bool (t53.toList==(str (Lib.decDigits x.svc.toNat)).toList)]) h_10
  else
   eid_Eid.ST h_8 ⟨h.size,0,none⟩ true x.node x.svc ⟨#[]⟩ ⟨#[]⟩ fun h_11=>
   eid_Eid.LD h_11 ⟨h.size,0,none⟩ fun r_0_1 r_1_1 r_2_1 r_3_1 r_4_1=>
   R (.tuple #[.agg #[.bool r_0_1, .int .u64 r_1_1, .int .u64 r_2_1, .string r_3_1, .string r_4_1], .bool false]) h_11) (h:=h5) (u:=x.node.toNat) (tb.on (F3.tt f5)) (by omega) fun h6 f6=>by
  refine⟨_,rfl,eid_Eid.held ((f5.tt f6).get hb4 id), ?_⟩
  rw[dec_str,if_pos (by simp)]
  have hb6:=((f2.tt (f3.tt f4)).tt (f5.tt f6)).get hb1 id
  have fm2:=Num.formatUint_ok (R:=fun v_5 h_9=> ∃(t53:ByteArray),v_5= .string t53∧
   heldL ⟨b4,0,none⟩ [.bool true, .int .u64 x.node, .int .u64 x.svc, .string ⟨#[]⟩, .string ⟨#[]⟩] 0 h_9∧
   eid_Eid.ST h_9 ⟨h.size,0,none⟩ true x.node x.svc ⟨#[]⟩ ⟨#[]⟩ fun h_10=>
   eid_Eid.LD h_10 ⟨h.size,0,none⟩ fun r_0 r_1 r_2 r_3 r_4=>
   R (.tuple #[.agg #[.bool r_0, .int .u64 r_1, .int .u64 r_2, .string r_3, .string r_4], .bool (t53.toList==(str (Lib.decDigits x.svc.toNat)).toList)]) h_10) (h:=h6) (u:=x.svc.toNat) (tb.on (F3.tt (f5.tt f6))) (by omega) fun h7 f7=>by
   refine⟨_,rfl,eid_Eid.held ((f5.tt (f6.tt f7)).get hb4 id),eid_Eid.set (f7.get hb6 id) fun h8 a8 s8 o8=>eid_Eid.ld a8 ?_⟩
   rw[dec_str]
   have eb:((str (Lib.decDigits x.svc.toNat)).toList==(str (Lib.decDigits x.svc.toNat)).toList)=true:=by simp
   rw[eb]
   have K:=hk h8 ((F3.tt (f5.tt (f6.tt f7))).fresh (S:=fun y=>y=h.size) ⟨by omega,fun y _ hn=>o8 y hn⟩ (fun y e=>Nat.le_of_eq e.symm))
   unfold ev5 at K
   rw[←ex] at K
   exact K
  rw[n2] at fm2
  exact fm2
 rw[n1] at fm
 exact fm
theorem plain_no {s:ByteArray} (hp:plainB 45 s=true):(47:UInt8)∉s.data.toList:=fun hm=>by
 have:=List.all_eq_true.1 hp _ hm
 revert this
 decide
theorem parsePath_ok {x:Ev} (hi:x.ipn=false) (hz:x≠ .zero) (hr:rightE x=true) (mx:Num.Mx h) (hk: ∀h',Fr (fun _=>False) h h'→R (.tuple #[ev5 x, .bool true]) h'):CallsH Tryz.prog F.eid_parsePath #[.string (str ([47,47]++x.host.data.toList++ [47]++x.dem.data.toList))] h R:=by
 have hr':=hr
 unfold rightE at hr'
 rw[if_neg hz,if_neg (by rw[hi];decide)] at hr'
 simp only[Bool.and_eq_true,decide_eq_true_eq] at hr'
 obtain⟨⟨n0,s0,q1,q2,q3⟩,p1,p2⟩:=hr'
 have l1:=data_len x.host
 have l2:=data_len x.dem
 have et:Lib.trimPrefix (str ([47,47]++x.host.data.toList++ [47]++x.dem.data.toList)).data.toList (⟨#[47,47]⟩:ByteArray).data.toList=x.host.data.toList++ [47]++x.dem.data.toList∧Lib.hasPrefix (str ([47,47]++x.host.data.toList++ [47]++x.dem.data.toList)).data.toList (⟨#[47,47]⟩:ByteArray).data.toList=true:=by
  rw[data_str,List.append_assoc,List.append_assoc]
  have:=trim_app [47,47] (x.host.data.toList++([47]++x.dem.data.toList))
  rw[←List.append_assoc x.host.data.toList] at this⊢
  exact this
 have ec:Lib.cut (x.host.data.toList++ [47]++x.dem.data.toList) (⟨#[47]⟩:ByteArray).data.toList=(x.host.data.toList,x.dem.data.toList,true):=by
  rw[List.append_assoc];exact cut_one 47 _ _ (plain_no p1)
 refine eid_parsePath.walk (newP_of ?_)
 have f1:Fr (fun _=>False) h (h.push (.cells #[.bool false, .int .u64 0, .int .u64 0, .string ⟨#[]⟩, .string ⟨#[]⟩] T.eid_Eid)):=Fr.push _ _
 have hb1:eid_Eid.at (h.push (.cells #[.bool false, .int .u64 0, .int .u64 0, .string ⟨#[]⟩, .string ⟨#[]⟩] T.eid_Eid)) h.size false 0 0 ⟨#[]⟩ ⟨#[]⟩:=push_new
 generalize h.push (.cells #[.bool false, .int .u64 0, .int .u64 0, .string ⟨#[]⟩, .string ⟨#[]⟩] T.eid_Eid)=h1 at f1 hb1⊢
 refine Num.prefix_ok ⟨_,_,rfl, ?_⟩
 rw[et.1,et.2,eta_str]
 refine Num.cut_ok (mx.on f1) (by rw[str_size];simp;omega) ⟨_,_,_,rfl, ?_⟩
 rw[data_str,ec]
 dsimp only
 have ea:(⟨x.host.data.toList.toArray⟩:ByteArray)=x.host:=rfl
 have ed:(⟨x.dem.data.toList.toArray⟩:ByteArray)=x.dem:=rfl
 rw[ea,ed]
 refine eid_Eid.new fun b4 h4 e4 hb4 f4=>eid_Eid.ld hb4 ?_
 have hne: ¬x.host=⟨#[]⟩:=fun e=>by rw[e] at q1;revert q1;decide
 rw[if_pos rfl,if_pos rfl,nil_eq,if_pos (by simpa using hne)]
 have ex:(⟨false,0,0,x.host,x.dem⟩:Ev)=x:=Ev.ext' hi.symm n0.symm s0.symm rfl rfl
 refine eid_Eid.ld hb4 (right_ok ⟨false,0,0,x.host,x.dem⟩ fun h5 f5=>⟨_,rfl,eid_Eid.held (f5.get hb4 id),eid_Eid.set ((f4.tt f5).get hb1 id) fun h8 a8 s8 o8=>eid_Eid.ld a8 ?_⟩)
 rw[ex,hr]
 have K:=hk h8 ((f1.tt (f4.tt f5)).fresh (S:=fun y=>y=h.size) ⟨by omega,fun y _ hn=>o8 y hn⟩ (fun y e=>Nat.le_of_eq e.symm))
 unfold ev5 at K
 rw[←ex] at K
 exact K
theorem parse_ok {x:Ev} (hr:rightE x=true) (w1:0≤x.svc) (hz:x≠ .zero) (tb:Num.Tab h) (mx:Num.Mx h) (hk: ∀h',Fr (fun _=>False) h h'→R (.tuple #[ev5 x, .int .i64 0]) h'):CallsH Tryz.prog F.eid_Parse #[.string (str (textE x))] h R:=by
 refine eid_Parse.walk (newP_of ?_)
 have f1:Fr (fun _=>False) h (h.push (.cells #[.bool false, .int .u64 0, .int .u64 0, .string ⟨#[]⟩, .string ⟨#[]⟩] T.eid_Eid)):=Fr.push _ _
 have hb1:eid_Eid.at (h.push (.cells #[.bool false, .int .u64 0, .int .u64 0, .string ⟨#[]⟩, .string ⟨#[]⟩] T.eid_Eid)) h.size false 0 0 ⟨#[]⟩ ⟨#[]⟩:=push_new
 generalize h.push (.cells #[.bool false, .int .u64 0, .int .u64 0, .string ⟨#[]⟩, .string ⟨#[]⟩] T.eid_Eid)=h1 at f1 hb1⊢
 have lb1:=lt_of_get hb1
 have tne: ¬((str (textE x)).toList==(⟨#[100,116,110,58,110,111,110,101]⟩:ByteArray).toList)=true:=by
  rw[beq_iff_eq,str_list,toList_data]
  unfold textE
  rw[if_neg hz]
  split
  ·intro e;simp at e
  ·intro e;simp at e
 rw[if_neg tne]
 refine newP_of ?_
 have f2:Fr (fun _=>False) h1 (h1.push (.cells #[.bool false, .int .u64 0, .int .u64 0, .string ⟨#[]⟩, .string ⟨#[]⟩] T.eid_Eid)):=Fr.push _ _
 have hb2:eid_Eid.at (h1.push (.cells #[.bool false, .int .u64 0, .int .u64 0, .string ⟨#[]⟩, .string ⟨#[]⟩] T.eid_Eid)) h1.size false 0 0 ⟨#[]⟩ ⟨#[]⟩:=push_new
 generalize h1.push (.cells #[.bool false, .int .u64 0, .int .u64 0, .string ⟨#[]⟩, .string ⟨#[]⟩] T.eid_Eid)=h2 at f2 hb2⊢
 have lb2:=lt_of_get hb2
 have F2:=f1.tt f2
 have hb12:=f2.get hb1 id
 refine Num.prefix_ok ⟨_,_,rfl,JoinP.of fun J hJ=> ?_⟩
 have done: ∀g,Fr (fun _=>False) h2 g→ ∀g',eid_Eid.at g' h1.size x.ipn x.node x.svc x.host x.dem→g'.size=g.size→(∀y,y≠h1.size→g'[y]? =g[y]?)→J true g':=fun g fg g' ag sg og=>by
  subst hJ
  dsimp only
  rw[if_neg (by decide)]
  have z1:=f1.1
  have Fg:Fr (fun _=>False) h g':=(F2.tt fg).fresh (S:=fun y=>y=h1.size) ⟨by omega,fun y _ hn=>og y hn⟩ (fun y e=>by omega)
  have hbg:eid_Eid.at g' h.size false 0 0 ⟨#[]⟩ ⟨#[]⟩:=by
   have:=fg.get hb12 id
   show g'[h.size]? =_
   rw[og h.size (by omega)];exact this
  refine eid_Eid.ld ag (eid_Eid.set hbg fun h8 a8 s8 o8=>eid_Eid.ld a8 ?_)
  exact hk h8 (Fg.fresh (S:=fun y=>y=h.size) ⟨by omega,fun y _ hn=>o8 y hn⟩ (fun y e=>Nat.le_of_eq e.symm))
 rw[data_str]
 by_cases hi:x.ipn=true
 ·have ht:textE x= [105,112,110,58]++(Lib.decDigits x.node.toNat++ [46]++Lib.decDigits x.svc.toNat):=by
   unfold textE;rw[if_neg hz,if_pos hi];simp
  have tr:=trim_app [105,112,110,58] (Lib.decDigits x.node.toNat++ [46]++Lib.decDigits x.svc.toNat)
  rw[←ht] at tr
  have e1:(⟨#[105,112,110,58]⟩:ByteArray).data.toList= [105,112,110,58]:=rfl
  rw[e1,tr.1,tr.2,if_pos rfl,eta_str]
  refine numbers_ok hi hr w1 (tb.on F2) (mx.on F2) fun h3 f3=>⟨_,_,_,_,_,_,rfl,eid_Eid.set (f3.get hb2 id) fun h4 a4 s4 o4=> ?_⟩
  exact done h3 f3 h4 a4 s4 o4
 ·have hi':x.ipn=false:=by simpa using hi
  have ht:textE x= [100,116,110,58]++([47,47]++x.host.data.toList++ [47]++x.dem.data.toList):=by
   unfold textE;rw[if_neg hz,if_neg hi]
  have hp:Lib.hasPrefix (textE x) (⟨#[105,112,110,58]⟩:ByteArray).data.toList=false:=by
   rw[ht];unfold Lib.hasPrefix;rfl
  rw[hp,if_neg (by decide)]
  refine Num.prefix_ok ⟨_,_,rfl,JoinP.of fun J1 hJ1=> ?_⟩
  have tr:=trim_app [100,116,110,58] ([47,47]++x.host.data.toList++ [47]++x.dem.data.toList)
  rw[←ht] at tr
  have e1:(⟨#[100,116,110,58]⟩:ByteArray).data.toList= [100,116,110,58]:=rfl
  rw[data_str,e1,tr.1,tr.2,if_pos rfl,eta_str]
  refine parsePath_ok hi' hz hr (mx.on F2) fun h3 f3=>⟨_,_,_,_,_,_,rfl,eid_Eid.set (f3.get hb2 id) fun h4 a4 s4 o4=> ?_⟩
  subst hJ1
  exact done h3 f3 h4 a4 s4 o4
end Eid
end Go.Proofs.YtgccegnmggjkjaaGreatDoor
set_option maxRecDepth 100000
set_option maxHeartbeats 4000000
namespace Go.Proofs.YtgccegnmggjkjaaGreatDoor
open Go.Den
variable {h : Heap} {R : Value → Heap → Prop}
end Go.Proofs.YtgccegnmggjkjaaGreatDoor
set_option maxRecDepth 100000
namespace Go.Proofs.YtgccegnmggjkjaaGreatDoor
open Go.Den
namespace Regs
open Eid
variable {h h' : Heap} {R : Value → Heap → Prop} {b : Nat} {X : Ft} {L : List Rg}
end Regs
end Go.Proofs.YtgccegnmggjkjaaGreatDoor
set_option maxRecDepth 100000
namespace Go.Proofs.YtgccegnmggjkjaaGreatDoor
open Go.Den Go.Fields
namespace Regs
open Eid Fld
variable {h h' : Heap} {R : Value → Heap → Prop} {b x : Nat} {X Y : Ft} {L L' : List Rg} {p : Option Addr} {c n i l : Nat} {r : Rg}
def loadL (L:List Rg):List Rg→Option (List Rg)
 | []=>some L
 |r::rs=>if addE L r=0 then loadL (insR r L) rs else none
theorem okR.ne (k:okR r):r.e≠Ev.zero:=by
 have:=k.rt
 unfold rightR at this
 simp only[Bool.and_eq_true,Bool.not_eq_true',decide_eq_true_eq,decide_eq_false_iff_not] at this
 exact this.2.1
theorem read1 (k:okR r):readText 0 (recR r)=(textE r.e,0,encNum (natOf r.pol)++encNum (natOf r.own)):=by
 have:=text_len k.e.1 k.sv
 unfold recR;rw[List.append_assoc];exact readText_enc (by omega) _
theorem read2 (k:okR r) (y:List UInt8):readInt 0 (encNum (natOf r.pol)++y)=(natOf r.pol,0,y):=by
 have:=k.e
 exact readMost_enc (by unfold natOf;omega) (by decide) y
theorem read3 (k:okR r):readInt 0 (encNum (natOf r.own))=(natOf r.own,0, []):=by
 have:=k.e
 have h1:=readMost_enc (top:=1099511627776) (n:=natOf r.own) (by unfold natOf;omega) (by decide) []
 rw[List.append_nil] at h1
 exact h1
theorem load_ok {xs:List BV} {rs:List Rg} (H:Fld.Rows h p l c xs) (e:xs.map BV.b=rs.map recR) (ok: ∀r∈rs,okR r) (hl:rs.length≤100) (tb:Num.Tab h) (mx:Num.Mx h)
  (k1: ∀L,loadL [] rs=some L→L.map recR=rs.map recR→ ∀h' b X,Tb h' b X L→UpF h X h'→R (.tuple #[.pointer (some ⟨b,0,none⟩), .int .i64 0]) h')
  (k2:(∀L,loadL [] rs=some L→L.map recR≠rs.map recR)→ ∀h',Fr (fun _=>False) h h'→R (.tuple #[.pointer none, .int .i64 3]) h'):CallsH Tryz.prog F.regs_Load #[.slice p l c] h R:=by
 have ln:xs.length=rs.length:=by have:=congrArg List.length e;simpa using this
 have hlen:=H.len
 subst hlen
 refine regs_Load.walk (new_ok fun h1 b X H1 u1=>⟨_,rfl, ?_⟩)
 refine⟨fun t g=> ∃(k:Nat) (L:List Rg),t=(k:Int)∧k≤xs.length∧loadL L (rs.drop k)=loadL [] rs∧Tb g b X L∧UpF h X g∧L.length≤8∧ ∀r∈L,okR r,fun t _=>xs.length - t.toNat,⟨0, [],rfl,by omega,by simp,H1,u1,by simp,by simp⟩, ?_⟩
 rintro _ g ⟨k,L,rfl,hk1,hL,Hg,ug,l8,okL⟩
 have Hr:=H.on ug.fr
 have tg:=tb.on ug.fr
 have mg:=mx.on ug.fr
 by_cases hlt:k<xs.length
 ·have q1:(k:Int)<((xs.length:Nat):Int):=by omega
  simp only[q1,decide_true,if_true,Int.toNat_natCast]
  have gx:xs[k]? =some xs[k]:=List.getElem?_eq_getElem hlt
  generalize xs[k]=x at gx
  have gr:rs[k]? =some (rs[k]'(by omega)):=List.getElem?_eq_getElem _
  have dr:rs.drop k=rs[k]'(by omega)::rs.drop (k+1):=List.drop_eq_getElem_cons _
  generalize rs[k]'(by omega)=r at gr dr
  have exr:x.b=recR r:=by
   have h1:(xs.map BV.b)[k]? =(rs.map recR)[k]? :=by rw[e]
   rw[List.getElem?_map,List.getElem?_map,gx,gr] at h1
   exact Option.some.inj h1
  have kr:=ok r (List.mem_of_getElem? gr)
  have rl:=recR_len kr
  have ke:=kr.e
  obtain⟨a,rfl⟩:=Hr.row.some (by intro e;cases xs with|nil=>simp at hlt|cons=>simp at e)
  have cx:=(Hr.row.heldAt nenc_len gx).1
  rw[add_zero_addr] at cx
  have rx:=Hr.each x (List.mem_of_getElem? gx)
  rw[exr] at rx
  refine⟨⟨by first|trivial|omega,by first|trivial|omega⟩,onSome_some.2 ⟨_,_,_,cx,Fld.read_ok (bs:=recR r) rx (by rw[exr]) (by omega) fun h3 f S D3 f3 n3=>⟨_,rfl,Fld.rtext_ok D3 (by omega) fun h4 p4 c4 D4 o4 n4 f4=> ?_⟩⟩⟩
  have nf:g.size≤f:=n3 f D3.self
  have F4:=f3.fresh f4 (fun y e=>by rw[e];exact nf)
  rw[read1 kr] at D4 o4⊢
  dsimp only at D4 o4⊢
  refine⟨_,_,_,rfl,_,conv o4.row' rfl,Eid.parse_ok ke.1 kr.sv kr.ne (tg.on F4) (mg.on F4) fun h5 f5=>⟨_,_,_,_,_,_,rfl,eid_Eid.new fun b6 h6 e6 hb6 f6=> ?_⟩⟩
  have F6:=F4.tt (f5.tt f6)
  have D6:=D4.frame (f5.tt f6) (fun _ _=>id)
  have nb6: ¬S b6:=fun hs=>by have:=(D4.frame f5 (fun _ _=>id)).lt b6 hs;omega
  refine JoinP.of fun J hJ=>eid_Eid.ld hb6 ?_
  have n1:((natOf r.pol:Nat):Int)=r.pol:=by unfold natOf;omega
  have n2:((natOf r.own:Nat):Int)=r.own:=by unfold natOf;omega
  have s6:=F6.1
  have fin: ∀(g1:Heap) (b1:Nat),Fr (fun _=>False) g g1→Rd g1 f S 0 []→r.at g1 b1→(¬S b1∧g.size≤b1)→J (some ⟨b1,0,none⟩) g1:=by
   intro g1 b1 fg Dg hb1 nb1
   subst hJ
   refine JoinP.of fun J1 hJ1=>Fld.rend_ok Dg ⟨_,rfl, ?_⟩
   have e0:(readEnd 0 [] !=0)=false:=by decide
   rw[e0,if_neg (by decide)]
   refine onSome_some.2 (regs_Reg.ld hb1 (add_ok (Hg.on fg) r l8 fun h8 H8 s8=>⟨_,rfl, ?_⟩))
   have u8:=(ug.on fg).step s8
   by_cases ha:addE L r=0
   ·have e1:(addE L r !=0)=false:=by rw[ha];rfl
    rw[e1,if_neg (by decide)]
    have hb8:r.at h8 b1:=s8.fr.get hb1 (fun hm=>by have:=Hg.lt b1 (.inl hm);omega)
    refine onSome_some.2 (regs_Reg.ld hb8 (record_ok (r:=r) kr (tb.on u8.fr) fun p9 c9 h9 o9 f9 n9=>⟨_,_,_,rfl, ?_⟩))
    have rx9:Row h9 x.p (bc (recR r)):=by
     have:=(H.on (u8.fr.tt f9)).each x (List.mem_of_getElem? gx)
     rwa[exr] at this
    refine Fld.equal_ok o9.row' rfl rx9 (by rw[exr]) ⟨_,rfl, ?_⟩
    subst hJ1
    simp only[decide_true,Bool.not_true,Bool.false_eq_true,if_false]
    rw[wrap_id (by omega) (by omega)]
    have eL:addL L r=insR r L:=by unfold addL;rw[if_pos ha]
    rw[eL] at H8
    refine⟨⟨k+1,insR r L,by omega,by omega, ?_,H8.on f9,u8.on f9, ?_,fun y hy=> ?_⟩,by show _ - Int.toNat ((k:Int)+1)<_;omega⟩
    ·rw[←hL,dr]
     show _=(if addE L r=0 then loadL (insR r L) (rs.drop (k+1)) else none)
     rw[if_pos ha]
    ·rw[insR_len]
     rcases addE_cases L r with h1|h1|h1|h1<;>omega
    ·rcases insR_mem.1 hy with rfl|hy
     ·exact kr
     ·exact okL y hy
   ·have e1:(addE L r !=0)=true:=by simpa using ha
    rw[e1,if_pos rfl]
    subst hJ1
    simp only[if_true]
    refine k2 (fun L' hL'=> ?_) h8 u8.fr
    rw[←hL,dr] at hL'
    unfold loadL at hL'
    rw[if_neg ha] at hL'
    cases hL'
  have zr:regs_Reg.at (h6.push (.cells #[.bool false, .int .u64 0, .int .u64 0, .string ⟨#[]⟩, .string ⟨#[]⟩, .int .i64 0, .int .i64 0] T.regs_Reg)) h6.size false 0 0 ⟨#[]⟩ ⟨#[]⟩ 0 0:=push_new
  have lt6:=lt_of_get hb6
  refine⟨Fld.rint_ok D6 fun h7 D7 f7=> ?_,newP_of ?_,trivial⟩
  ·rw[read2 kr] at D7⊢
   dsimp only at D7⊢
   have F7:=F6.fresh f7 (fun y e=>by rw[e];exact nf)
   have hb7:=f7.get hb6 (fun e=>nb6 (by rw[e];exact D6.self))
   refine⟨_,rfl,eid_Eid.held hb7,⟨Fld.rint_ok D7 fun h8 D8 f8=> ?_,newP_of ?_,trivial⟩⟩
   ·rw[read3 kr] at D8⊢
    dsimp only at D8⊢
    have hb8:=f8.get hb7 (fun e=>nb6 (by rw[e];exact D6.self))
    have f9:Fr (fun _=>False) h8 (h8.push (.cells #[.bool false, .int .u64 0, .int .u64 0, .string ⟨#[]⟩, .string ⟨#[]⟩, .int .i64 0, .int .i64 0] T.regs_Reg)):=Fr.push _ _
    have zr9:regs_Reg.at (h8.push (.cells #[.bool false, .int .u64 0, .int .u64 0, .string ⟨#[]⟩, .string ⟨#[]⟩, .int .i64 0, .int .i64 0] T.regs_Reg)) h8.size false 0 0 ⟨#[]⟩ ⟨#[]⟩ 0 0:=push_new
    refine⟨_,rfl,eid_Eid.held hb8,newP_of ⟨eid_Eid.held (f9.get hb8 id),regs_Reg.set zr9 fun h10 a10 s10 o10=> ?_⟩⟩
    rw[n1,n2] at a10
    have F8:=F7.fresh f8 (fun y e=>by rw[e];exact nf)
    have z8:=F8.1
    have nS: ¬S h8.size:=fun hs=>by have:=D8.lt _ hs;omega
    have f10:Fr (fun y=>y=h8.size) (h8.push (.cells #[.bool false, .int .u64 0, .int .u64 0, .string ⟨#[]⟩, .string ⟨#[]⟩, .int .i64 0, .int .i64 0] T.regs_Reg)) h10:=⟨by omega,fun y _ hn=>o10 y hn⟩
    exact fin h10 _ ((F8.tt f9).fresh f10 (fun y e=>by omega)) ((D8.frame f9 (fun _ _=>id)).frame f10 (fun y hy e=>nS (e▸hy))) a10 ⟨nS,z8⟩
   ·have f9:Fr (fun _=>False) h7 (h7.push (.cells #[.bool false, .int .u64 0, .int .u64 0, .string ⟨#[]⟩, .string ⟨#[]⟩, .int .i64 0, .int .i64 0] T.regs_Reg)):=Fr.push _ _
    have zr9:regs_Reg.at (h7.push (.cells #[.bool false, .int .u64 0, .int .u64 0, .string ⟨#[]⟩, .string ⟨#[]⟩, .int .i64 0, .int .i64 0] T.regs_Reg)) h7.size false 0 0 ⟨#[]⟩ ⟨#[]⟩ 0 0:=push_new
    have nS: ¬S h7.size:=fun hs=>by have:=D7.lt _ hs;omega
    refine⟨eid_Eid.held (f9.get hb7 id),Fld.rint_ok (D7.frame f9 (fun _ _=>id)) fun h8 D8 f8=> ?_⟩
    rw[read3 kr] at D8⊢
    dsimp only at D8⊢
    have hb8:=f8.get (f9.get hb7 id) (fun e=>nb6 (by rw[e];exact D6.self))
    have zr8:=f8.get zr9 (fun e=>nS (by rw[e];exact D6.self))
    refine⟨_,rfl,eid_Eid.held hb8,regs_Reg.set zr8 fun h10 a10 s10 o10=> ?_⟩
    rw[n1,n2] at a10
    have F8:=(F7.tt f9).fresh f8 (fun y e=>by rw[e];exact nf)
    have z8:=F7.1
    have f10:Fr (fun y=>y=h7.size) h8 h10:=⟨by omega,fun y _ hn=>o10 y hn⟩
    exact fin h10 _ (F8.fresh f10 (fun y e=>by omega)) (D8.frame f10 (fun y hy e=>nS (e▸hy))) a10 ⟨nS,z8⟩
  ·have f9:Fr (fun _=>False) h6 (h6.push (.cells #[.bool false, .int .u64 0, .int .u64 0, .string ⟨#[]⟩, .string ⟨#[]⟩, .int .i64 0, .int .i64 0] T.regs_Reg)):=Fr.push _ _
   have nS: ¬S h6.size:=fun hs=>by have:=D6.lt _ hs;omega
   refine⟨eid_Eid.held (f9.get hb6 id),Fld.rint_ok (D6.frame f9 (fun _ _=>id)) fun h7 D7 f7=> ?_⟩
   rw[read2 kr] at D7⊢
   dsimp only at D7⊢
   have hb7:=f7.get (f9.get hb6 id) (fun e=>nb6 (by rw[e];exact D6.self))
   have zr7:=f7.get zr (fun e=>nS (by rw[e];exact D6.self))
   refine⟨_,rfl,eid_Eid.held hb7,Fld.rint_ok D7 fun h8 D8 f8=> ?_⟩
   rw[read3 kr] at D8⊢
   dsimp only at D8⊢
   have hb8:=f8.get hb7 (fun e=>nb6 (by rw[e];exact D6.self))
   have zr8:=f8.get zr7 (fun e=>nS (by rw[e];exact D6.self))
   refine⟨_,rfl,eid_Eid.held hb8,regs_Reg.set zr8 fun h10 a10 s10 o10=> ?_⟩
   rw[n1,n2] at a10
   have F8:=((F6.tt f9).fresh f7 (fun y e=>by rw[e];exact nf)).fresh f8 (fun y e=>by rw[e];exact nf)
   have f10:Fr (fun y=>y=h6.size) h8 h10:=⟨by omega,fun y _ hn=>o10 y hn⟩
   exact fin h10 _ (F8.fresh f10 (fun y e=>by omega)) (D8.frame f10 (fun y hy e=>nS (e▸hy))) a10 ⟨nS,s6⟩
 ·have q1: ¬(k:Int)<((xs.length:Nat):Int):=by omega
  simp only[q1,decide_false,Bool.false_eq_true,if_false]
  rw[List.drop_eq_nil_of_le (by omega)] at hL
  refine save_ok Hg (by omega) okL tg fun h2 p2 l2 c2 B2 f2=>⟨_,_,_,rfl, ?_⟩
  obtain⟨ys,Y,eY⟩:=B2.to_rows
  have bl:=B2.len
  rw[List.length_map] at bl
  refine Fld.equalFunc_ok Y (Hr.on f2) (by omega) ⟨_,rfl, ?_⟩
  rw[eY,e]
  by_cases hs:L.map recR=rs.map recR
  ·simp only[hs,decide_true,Bool.not_true,Bool.false_eq_true,if_false]
   exact k1 L hL.symm hs h2 b X (Hg.on f2) (ug.on f2)
  ·simp only[hs,decide_false,Bool.not_false,if_true]
   refine k2 (fun L' hL'=> ?_) h2 (ug.fr.tt f2)
   rw[←hL] at hL'
   cases hL'
   exact hs
end Regs
end Go.Proofs.YtgccegnmggjkjaaGreatDoor
set_option maxRecDepth 100000
set_option maxHeartbeats 4000000
namespace Go.Proofs.YtgccegnmggjkjaaGreatDoor
open Go.Den
variable {h : Heap} {R : Value → Heap → Prop}
theorem copies_Load.walk {l_p : Option Addr} {l_l l_c : Nat} (hv :
 if (((l_l : Nat) : Int) == 0) = true then
 R (.tuple #[.pointer none, .int .i64 3]) h
 else
 Cl F.copies_New #[] h fun v h_1 =>
 ∃ t15, v = .pointer t15 ∧
 ((0 : Int) ≤ 0 ∧ 0 < ((l_l : Nat) : Int)) ∧
 onSome l_p fun a =>
 ∃ t18_p t18_l t18_c, hcell h_1 (a.add (Int.toNat 0 * 1)) = some (.slice t18_p t18_l t18_c) ∧
 Cl F.fields_Read #[.slice t18_p t18_l t18_c] h_1 fun v_1 h_2 =>
 ∃ t19, v_1 = .pointer t19 ∧
 Cl F.fields_Reader_Int #[.pointer t19] h_2 fun v_2 h_3 =>
 ∃ t25, v_2 = .int .i64 t25 ∧
 Cl F.fields_Reader_Int #[.pointer t19] h_3 fun v_3 h_4 =>
 ∃ t27, v_3 = .int .i64 t27 ∧
 Cl F.fields_Reader_Int #[.pointer t19] h_4 fun v_4 h_5 =>
 ∃ t29, v_4 = .int .i64 t29 ∧
 Cl F.fields_Reader_Int #[.pointer t19] h_5 fun v_5 h_6 =>
 ∃ t31, v_5 = .int .i64 t31 ∧
 onSome t15 fun a_1 =>
 StoreP h_6 (a_1.add 1) (.int .i64 t25) fun h_7 =>
 onSome t15 fun a_2 =>
 StoreP h_7 (a_2.add 2) (.int .i64 t27) fun h_8 =>
 onSome t15 fun a_3 =>
 StoreP h_8 (a_3.add 3) (.int .i64 t29) fun h_9 =>
 onSome t15 fun a_4 =>
 StoreP h_9 (a_4.add 4) (.int .i64 t31) fun h_10 =>
 Cl F.fields_Reader_Int #[.pointer t19] h_10 fun v_6 h_11 =>
 ∃ t41, v_6 = .int .i64 t41 ∧
 JoinP (fun (t82 : Bool) (h_12 : Heap) =>
 if t82 = true then
 R (.tuple #[.pointer none, .int .i64 3]) h_12
 else
 ((0 : Int) ≤ 1 ∧ 1 ≤ ((l_l : Nat) : Int)) ∧
 ∃ (I : Int → Int → Heap → Prop) (mu : Int → Int → Heap → Nat), I 0 0 h_12 ∧ ∀ (last : Int) (t86 : Int) (h_13 : Heap), I last t86 h_13 →
 if (decide (t86 < ((l_l - (Int.toNat 1) : Nat) : Int))) = true then
 ((0 : Int) ≤ t86 ∧ t86 < ((l_l - (Int.toNat 1) : Nat) : Int)) ∧
 onSome (slBase l_p l_c (Int.toNat 1) 1) fun a_5 =>
 ∃ t89_p t89_l t89_c, hcell h_13 (a_5.add (Int.toNat t86 * 1)) = some (.slice t89_p t89_l t89_c) ∧
 Cl F.copies_Table_load #[.pointer t15, .slice t89_p t89_l t89_c, .int .i64 last] h_13 fun v_7 h_14 =>
 ∃ t94_0 t94_1, v_7 = .tuple #[.int .i64 t94_0, .bool t94_1] ∧
 if (!t94_1) = true then
 R (.tuple #[.pointer none, .int .i64 3]) h_14
 else
 (I t94_0 (IntKind.wrap .i64 (t86 + 1)) h_14 ∧ mu t94_0 (IntKind.wrap .i64 (t86 + 1)) h_14 < mu last t86 h_13)
 else
 R (.tuple #[.pointer t15, .int .i64 0]) h_13)
 (fun J =>
 Cl F.fields_Reader_End #[.pointer t19] h_11 fun v_8 h_15 =>
 ∃ t43, v_8 = .int .i64 t43 ∧
 if (t43 != 0) = true then
 J true h_15
 else
 if (t41 != (IntKind.wrap .i64 (((l_l : Nat) : Int) - 1))) = true then
 J true h_15
 else
 onSome t15 fun a_6 =>
 ∃ t56, hcell h_15 (a_6.add 1) = some (.int .i64 t56) ∧
 if (decide (t56 < 1)) = true then
 J true h_15
 else
 onSome t15 fun a_7 =>
 ∃ t63, hcell h_15 (a_7.add 1) = some (.int .i64 t63) ∧
 onSome t15 fun a_8 =>
 ∃ t68, hcell h_15 (a_8.add 2) = some (.int .i64 t68) ∧
 onSome t15 fun a_9 =>
 ∃ t72, hcell h_15 (a_9.add 3) = some (.int .i64 t72) ∧
 onSome t15 fun a_10 =>
 ∃ t77, hcell h_15 (a_10.add 4) = some (.int .i64 t77) ∧
 J ((IntKind.wrap .i64 (t63 - 1)) != (IntKind.wrap .i64 ((IntKind.wrap .i64 ((IntKind.wrap .i64 (t68 + t72)) + t77)) + t41))) h_15)) : CallsH Tryz.prog F.copies_Load #[.slice l_p l_l l_c] h R :=
 callsH_of_body (.seq .leaf (.seq (.seq .leaf (.cond (.seq .leaf .leaf) .leaf)) (.seq .leaf (.seq .leaf (.seq .leaf (.seq .leaf (.seq (.seq (.join [(82, .one (.bool))] (.plan (.op 0 (.op 1 (.op 2 (.op 3 (.op 4 (.op 5 (.op 6 (.op 7 (.op 8 (.op 9 (.op 10 (.op 11 (.op 12 (.op 13 (.op 14 (.op 15 (.op 16 (.op 17 (.op 18 (.op 19 (.op 20 (.op 21 (.op 22 (.op 23 (.op 24 (.op 25 (.op 26 (.op 27 (.op 28 (.op 29 (.op 30 (.op 31 (.op 32 (.op 33 (.op 34 (.op 35 (.op 36 (.op 37 (.op 38 (.op 39 (.op 40 .done))))))))))))))))))))))))))))))))))))))))))) (.cond (.seq .leaf .leaf) .leaf)) (.seq .leaf (.seq (.seq .leaf (.block (.loop [(7, .one (.int .i64)), (86, .one (.int .i64))] (.seq .leaf (.seq (.cond .leaf .leaf) (.seq (.block (.seq .leaf (.seq .leaf (.seq (.seq .leaf (.cond (.seq .leaf .leaf) .leaf)) .leaf)))) .leaf)))))) (.seq .leaf .leaf)))))))))) Tryz.func38 rfl rfl (Eq.mp (by kernel_rfl) hv)
theorem copies_Table_load.walk {t : Nat} {b_p : Option Addr} {b_l b_c : Nat} {last : Int} (hv :
 Cl F.fields_Read #[.slice b_p b_l b_c] h fun v h_1 =>
 ∃ t12, v = .pointer t12 ∧
 Cl F.fields_Reader_Int #[.pointer t12] h_1 fun v_1 h_2 =>
 ∃ t14, v_1 = .int .i64 t14 ∧
 NewP h_2 (.cells #[.int .i64 t14, .bool false, .int .u64 0, .int .u64 0, .string (⟨#[]⟩ : ByteArray), .string (⟨#[]⟩ : ByteArray), .slice none 0 0, .int .u64 0, .int .i64 0, .int .u64 0] T.copies_Copy) fun b h_3 =>
 Cl F.fields_Reader_Text #[.pointer t12] h_3 fun v_2 h_4 =>
 ∃ t20_p t20_l t20_c, v_2 = .slice t20_p t20_l t20_c ∧
 ∃ (t21 : ByteArray), ConvV Tryz.prog T.s_uint8 T.string (.slice t20_p t20_l t20_c) h_4 t21 ∧
 Cl F.eid_Parse #[.string t21] h_4 fun v_3 h_5 =>
 ∃ t22_0_0 t22_0_1 t22_0_2 t22_0_3 t22_0_4 t22_1, v_3 = .tuple #[.agg #[.bool t22_0_0, .int .u64 t22_0_1, .int .u64 t22_0_2, .string t22_0_3, .string t22_0_4], .int .i64 t22_1] ∧
 eid_Eid.ST h_5 ⟨b, 1, none⟩ t22_0_0 t22_0_1 t22_0_2 t22_0_3 t22_0_4 fun h_6 =>
 Cl F.fields_Reader_Text #[.pointer t12] h_6 fun v_4 h_7 =>
 ∃ t32_p t32_l t32_c, v_4 = .slice t32_p t32_l t32_c ∧
 Cl F.fields_Reader_Num #[.pointer t12] h_7 fun v_5 h_8 =>
 ∃ t34, v_5 = .int .u64 t34 ∧
 Cl F.fields_Reader_Int #[.pointer t12] h_8 fun v_6 h_9 =>
 ∃ t36, v_6 = .int .i64 t36 ∧
 Cl F.fields_Reader_Num #[.pointer t12] h_9 fun v_7 h_10 =>
 ∃ t38, v_7 = .int .u64 t38 ∧
 StoreP h_10 ⟨b, 6, none⟩ (.slice t32_p t32_l t32_c) fun h_11 =>
 StoreP h_11 ⟨b, 7, none⟩ (.int .u64 t34) fun h_12 =>
 StoreP h_12 ⟨b, 8, none⟩ (.int .i64 t36) fun h_13 =>
 StoreP h_13 ⟨b, 9, none⟩ (.int .u64 t38) fun h_14 =>
 ∃ t50, hcell h_14 ⟨b, 8, none⟩ = some (.int .i64 t50) ∧
 JoinP (fun (t124 : Bool) (h_15 : Heap) =>
 if t124 = true then
 R (.tuple #[.int .i64 0, .bool false]) h_15
 else
 ∃ t128, hcell h_15 ⟨t, 0, none⟩ = some (.map t128) ∧
 ∃ t132, hcell h_15 ⟨b, 0, none⟩ = some (.int .i64 t132) ∧
 denSem Tryz.prog (Instr.mapUpdate T.m_int_p_copies_Copy (.map t128) (.int .i64 t132) (.pointer (some ⟨b, 0, none⟩))) h_15 fun _ h_16 =>
 ∃ t137, hcell h_16 ⟨t, 5, none⟩ = some (.pointer t137) ∧
 ∃ t141, hcell h_16 ⟨b, 0, none⟩ = some (.int .i64 t141) ∧
 ∃ t145, hcell h_16 ⟨b, 7, none⟩ = some (.int .u64 t145) ∧
 Cl F.alarm_Alarm_Set #[.pointer t137, .int .i64 t141, .int .u64 t145] h_16 fun v_8 h_17 =>
 ∃ t146, v_8 = .int .i64 t146 ∧
 JoinP (fun (h_18 : Heap) =>
 ∃ t164, hcell h_18 ⟨b, 0, none⟩ = some (.int .i64 t164) ∧
 R (.tuple #[.int .i64 t164, .bool true]) h_18)
 (fun J_1 =>
 if (decide (t50 > 0)) = true then
 ∃ t151, hcell h_17 ⟨t, 6, none⟩ = some (.pointer t151) ∧
 ∃ t155, hcell h_17 ⟨b, 0, none⟩ = some (.int .i64 t155) ∧
 ∃ t159, hcell h_17 ⟨b, 9, none⟩ = some (.int .u64 t159) ∧
 Cl F.alarm_Alarm_Set #[.pointer t151, .int .i64 t155, .int .u64 t159] h_17 fun v_9 h_19 =>
 ∃ t160, v_9 = .int .i64 t160 ∧
 J_1 h_19
 else
 J_1 h_17))
 (fun J =>
 Cl F.fields_Reader_End #[.pointer t12] h_14 fun v_10 h_20 =>
 ∃ t53, v_10 = .int .i64 t53 ∧
 if (t53 != 0) = true then
 J true h_20
 else
 ∃ t59, hcell h_20 ⟨b, 0, none⟩ = some (.int .i64 t59) ∧
 if (decide (t59 ≤ last)) = true then
 J true h_20
 else
 ∃ t67, hcell h_20 ⟨b, 0, none⟩ = some (.int .i64 t67) ∧
 ∃ t71, hcell h_20 ⟨t, 1, none⟩ = some (.int .i64 t71) ∧
 if (decide (t67 ≥ t71)) = true then
 J true h_20
 else
 eid_Eid.LD h_20 ⟨b, 1, none⟩ fun t78_0 t78_1 t78_2 t78_3 t78_4 =>
 ∃ t82_p t82_l t82_c, hcell h_20 ⟨b, 6, none⟩ = some (.slice t82_p t82_l t82_c) ∧
 ∃ t86, hcell h_20 ⟨b, 7, none⟩ = some (.int .u64 t86) ∧
 Cl F.copies_isCopy #[.agg #[.bool t78_0, .int .u64 t78_1, .int .u64 t78_2, .string t78_3, .string t78_4], .slice t82_p t82_l t82_c, .int .u64 t86] h_20 fun v_11 h_21 =>
 ∃ t87, v_11 = .bool t87 ∧
 hcell h_21 ⟨t, 1, none⟩ = some (.int .i64 t71) ∧
 hcell h_21 ⟨b, 0, none⟩ = some (.int .i64 t67) ∧
 hcell h_21 ⟨b, 0, none⟩ = some (.int .i64 t59) ∧
 if (!t87) = true then
 J true h_21
 else
 ∃ t94, hcell h_21 ⟨b, 9, none⟩ = some (.int .u64 t94) ∧
 if (decide (t94 > 1099511627776)) = true then
 J true h_21
 else
 if (!(decide (t50 > 0))) = true then
 ∃ t104, hcell h_21 ⟨b, 9, none⟩ = some (.int .u64 t104) ∧
 if (decide (t104 > 0)) = true then
 J true h_21
 else
 eid_Eid.LD h_21 ⟨b, 1, none⟩ fun t113_0 t113_1 t113_2 t113_3 t113_4 =>
 Cl F.copies_Table_of #[.pointer (some ⟨t, 0, none⟩), .agg #[.bool t113_0, .int .u64 t113_1, .int .u64 t113_2, .string t113_3, .string t113_4]] h_21 fun v_12 h_22 =>
 ∃ t114_p t114_l t114_c, v_12 = .slice t114_p t114_l t114_c ∧
 hcell h_22 ⟨b, 9, none⟩ = some (.int .u64 t104) ∧
 hcell h_22 ⟨b, 9, none⟩ = some (.int .u64 t94) ∧
 hcell h_22 ⟨t, 1, none⟩ = some (.int .i64 t71) ∧
 hcell h_22 ⟨b, 0, none⟩ = some (.int .i64 t67) ∧
 hcell h_22 ⟨b, 0, none⟩ = some (.int .i64 t59) ∧
 if (decide (((t114_l : Nat) : Int) ≥ 16)) = true then
 J true h_22
 else
 Cl F.copies_record #[.pointer (some ⟨b, 0, none⟩)] h_22 fun v_13 h_23 =>
 ∃ t120_p t120_l t120_c, v_13 = .slice t120_p t120_l t120_c ∧
 hcell h_23 ⟨b, 9, none⟩ = some (.int .u64 t104) ∧
 hcell h_23 ⟨b, 9, none⟩ = some (.int .u64 t94) ∧
 hcell h_23 ⟨t, 1, none⟩ = some (.int .i64 t71) ∧
 hcell h_23 ⟨b, 0, none⟩ = some (.int .i64 t67) ∧
 hcell h_23 ⟨b, 0, none⟩ = some (.int .i64 t59) ∧
 Cl F.bytes_Equal #[.slice t120_p t120_l t120_c, .slice b_p b_l b_c] h_23 fun v_14 h_24 =>
 ∃ t122, v_14 = .bool t122 ∧
 hcell h_24 ⟨b, 9, none⟩ = some (.int .u64 t104) ∧
 hcell h_24 ⟨b, 9, none⟩ = some (.int .u64 t94) ∧
 hcell h_24 ⟨t, 1, none⟩ = some (.int .i64 t71) ∧
 hcell h_24 ⟨b, 0, none⟩ = some (.int .i64 t67) ∧
 hcell h_24 ⟨b, 0, none⟩ = some (.int .i64 t59) ∧
 J (!t122) h_24
 else
 eid_Eid.LD h_21 ⟨b, 1, none⟩ fun t113_0_1 t113_1_1 t113_2_1 t113_3_1 t113_4_1 =>
 Cl F.copies_Table_of #[.pointer (some ⟨t, 0, none⟩), .agg #[.bool t113_0_1, .int .u64 t113_1_1, .int .u64 t113_2_1, .string t113_3_1, .string t113_4_1]] h_21 fun v_15 h_25 =>
 ∃ t114_p_1 t114_l_1 t114_c_1, v_15 = .slice t114_p_1 t114_l_1 t114_c_1 ∧
 hcell h_25 ⟨b, 9, none⟩ = some (.int .u64 t94) ∧
 hcell h_25 ⟨t, 1, none⟩ = some (.int .i64 t71) ∧
 hcell h_25 ⟨b, 0, none⟩ = some (.int .i64 t67) ∧
 hcell h_25 ⟨b, 0, none⟩ = some (.int .i64 t59) ∧
 if (decide (((t114_l_1 : Nat) : Int) ≥ 16)) = true then
 J true h_25
 else
 Cl F.copies_record #[.pointer (some ⟨b, 0, none⟩)] h_25 fun v_16 h_26 =>
 ∃ t120_p_1 t120_l_1 t120_c_1, v_16 = .slice t120_p_1 t120_l_1 t120_c_1 ∧
 hcell h_26 ⟨b, 9, none⟩ = some (.int .u64 t94) ∧
 hcell h_26 ⟨t, 1, none⟩ = some (.int .i64 t71) ∧
 hcell h_26 ⟨b, 0, none⟩ = some (.int .i64 t67) ∧
 hcell h_26 ⟨b, 0, none⟩ = some (.int .i64 t59) ∧
 Cl F.bytes_Equal #[.slice t120_p_1 t120_l_1 t120_c_1, .slice b_p b_l b_c] h_26 fun v_17 h_27 =>
 ∃ t122_1, v_17 = .bool t122_1 ∧
 hcell h_27 ⟨b, 9, none⟩ = some (.int .u64 t94) ∧
 hcell h_27 ⟨t, 1, none⟩ = some (.int .i64 t71) ∧
 hcell h_27 ⟨b, 0, none⟩ = some (.int .i64 t67) ∧
 hcell h_27 ⟨b, 0, none⟩ = some (.int .i64 t59) ∧
 J (!t122_1) h_27)) : CallsH Tryz.prog F.copies_Table_load #[.pointer (some ⟨t, 0, none⟩), .slice b_p b_l b_c, .int .i64 last] h R :=
 callsH_of_body (.seq .leaf (.seq .leaf (.seq .leaf (.seq .leaf (.seq .leaf (.seq .leaf (.seq (.seq (.join [(124, .one (.bool))] (.plan (.op 0 (.op 1 (.op 2 (.op 3 (.op 4 (.op 5 (.op 6 (.op 7 (.op 8 (.op 9 (.op 10 (.op 11 (.op 12 (.op 13 (.op 14 (.op 15 (.op 16 (.op 17 (.op 18 (.op 19 (.op 20 (.op 21 (.op 22 (.op 23 (.op 24 (.op 25 (.op 26 (.op 27 (.op 28 (.op 29 (.op 30 (.op 31 (.op 32 (.op 33 (.op 34 (.op 35 (.op 36 (.op 37 (.op 38 (.op 39 (.op 40 (.op 41 (.op 42 (.op 43 (.op 44 (.op 45 (.op 46 (.op 47 (.op 48 (.op 49 (.op 50 (.op 51 (.op 52 (.op 53 (.op 54 (.op 55 (.op 56 (.op 57 (.op 58 (.op 59 (.op 60 (.op 61 (.op 62 (.op 63 (.op 64 (.op 65 (.op 66 (.op 67 (.op 69 (.op 68 (.op 70 (.op 71 (.op 72 .done))))))))))))))))))))))))))))))))))))))))))))))))))))))))))))))))))))))))))) (.cond (.seq .leaf .leaf) .leaf)) (.seq (.plan (.op 0 (.op 1 (.op 2 (.op 3 (.op 4 (.op 5 (.op 6 (.op 7 (.op 8 (.op 9 .done))))))))))) (.seq (.plan (.op 0 (.op 1 (.op 2 (.op 3 (.op 4 (.op 5 (.op 6 (.op 7 (.op 8 (.op 9 (.op 10 (.op 11 (.op 12 .done)))))))))))))) (.seq (.seq .leaf (.join [] (.cond (.plan (.op 0 (.op 1 (.op 2 (.op 3 (.op 4 (.op 5 (.op 6 (.op 7 (.op 8 (.op 9 (.op 10 (.op 11 (.op 12 .done)))))))))))))) .leaf))) (.seq .leaf .leaf))))))))))) Tryz.func102 rfl rfl (Eq.mp (by kernel_rfl) hv)
end Go.Proofs.YtgccegnmggjkjaaGreatDoor
set_option maxRecDepth 100000
namespace Go.Den
theorem storeL_part {h:Heap} {b i:Nat} {c lit:Array Value} {t:TypeId} {vs:List Value} {K:Heap→Prop} (hb:h[b]? =some (.cells c t (0,0))) (hl:i+vs.length≤c.size) (hv:vs.all oneCell=true)
  (hlit:lit=(c.toList.take i++(vs++c.toList.drop (i+vs.length))).toArray)
  (hk: ∀h',h'[b]? =some (.cells lit t (0,0))→h'.size=h.size→(∀x,x≠b→h'[x]? =h[x]?)→K h'):storeL ⟨b,0,none⟩ vs i h K:=by
 refine storeL_from vs i h c K hb hl hv fun h' c' b' z r1 r2 s o=>hk h' ?_ s o
 have:c'=lit:=by
  subst hlit
  apply Array.ext'
  apply List.ext_getElem?
  intro j
  have hc:i≤c.toList.length:=by simp;omega
  have ht:(c.toList.take i).length=i:=by rw[List.length_take];omega
  rw[Array.getElem?_toList]
  by_cases h1:j<i
  ·rw[r1 j (.inl h1),List.getElem?_append_left (by omega),List.getElem?_take_of_lt h1,Array.getElem?_toList]
  ·rw[List.getElem?_append_right (by omega),ht]
   by_cases h2:j<i+vs.length
   ·have hk:vs[j - i]? =some (vs[j - i]'(by omega)):=List.getElem?_eq_getElem _
    have:=r2 (j - i) _ hk
    rw[show i+(j - i)=j by omega] at this
    rw[this,List.getElem?_append_left (by omega),hk]
   ·rw[r1 j (.inr (by omega)),List.getElem?_append_right (by omega),List.getElem?_drop,Array.getElem?_toList]
    congr 1;omega
 rw[←this];exact b'
end Go.Den
namespace Go.Proofs.YtgccegnmggjkjaaGreatDoor
open Go.Den Go.Fields Go.Heapq
namespace Cps
open Eid Alarm Fld
variable {h h' : Heap} {R : Value → Heap → Prop} {t : Nat} {X : Ft} {s s' : CF} {m a1 a2 : Nat} {xs : List CV} {S1 S2 S1' S2' : Nat → Prop} {lab : Nat → Option Nat} {p : Option Addr} {n c : Nat}
theorem st_e {g:Heap} {b:Nat} {y:CV} {K:Heap→Prop} (e:Ev) (hy:y.at g b) (hk: ∀h',CV.at h' b { y with e:=e } →h'.size=g.size→(∀x,x≠b→h'[x]? =g[x]?)→K h'):eid_Eid.ST g ⟨b,1,none⟩ e.ipn e.node e.svc e.host e.dem K:=
 storeL_part (i:=1) (vs:= [.bool e.ipn, .int .u64 e.node, .int .u64 e.svc, .string e.host, .string e.dem]) hy (by simp) rfl rfl hk
theorem st_4 {g:Heap} {b:Nat} {y:CV} {K:Heap→Prop} (v:BV) (till:Nat) (ses:Int) (dl:Nat) (hy:y.at g b) (hk: ∀h',CV.at h' b { y with v:=v,till:=till,ses:=ses,dl:=dl } →h'.size=g.size→(∀x,x≠b→h'[x]? =g[x]?)→K h'):
  StoreP g ⟨b,6,none⟩ (.slice v.p v.b.length v.c) fun h1=>StoreP h1 ⟨b,7,none⟩ (.int .u64 (till:Int)) fun h2=>StoreP h2 ⟨b,8,none⟩ (.int .i64 ses) fun h3=>StoreP h3 ⟨b,9,none⟩ (.int .u64 (dl:Int)) K:=
 storeL_part (i:=6) (vs:= [.slice v.p v.b.length v.c, .int .u64 (till:Int), .int .i64 ses, .int .u64 (dl:Int)]) hy (by simp) rfl rfl hk
def loadF (s:CF) (z:Cp):CF:= { s with L:=s.L++ [z],E1:=setL s.E1 (z.num:Int) (z.till:Int),E2:=if z.ses=0 then s.E2 else setL s.E2 (z.num:Int) (z.dl:Int) }
section
variable {z : Cp}
theorem rd1 (k:okZ z):readInt 0 (recC z)=(z.num,0,encText (textE z.e)++(encText z.d++(encNum z.till++(encNum (natOf z.ses)++encNum z.dl)))):=by
 have:=k.n
 unfold recC
 simp only[List.append_assoc]
 exact readMost_enc (by omega) (by decide) _
theorem rd2 (k:okZ z) (y:List UInt8):readText 0 (encText (textE z.e)++y)=(textE z.e,0,y):=by
 have:=text_len k.r k.v
 exact readText_enc (by omega) _
theorem rd3 (k:okZ z) (y:List UInt8):readText 0 (encText z.d++y)=(z.d,0,y):=by
 have:=k.d
 exact readText_enc (by omega) _
theorem rd4 (k:okZ z) (y:List UInt8):readNum 0 (encNum z.till++y)=(z.till,0,y):=by
 have:=k.t
 exact readNum_enc (by omega) _
theorem rd5 (k:okZ z) (y:List UInt8):readInt 0 (encNum (natOf z.ses)++y)=(natOf z.ses,0,y):=by
 have:=k.s1
 exact readMost_enc (by unfold natOf;omega) (by decide) _
theorem rd6 (k:okZ z):readNum 0 (encNum z.dl)=(z.dl,0, []):=by
 have:=k.l
 have h:=readNum_enc (n:=z.dl) (by omega) []
 rwa[List.append_nil] at h
end
set_option maxHeartbeats 1000000 in
theorem load1_ok (H:Ct h t X s) (sm:Small s) {z:Cp} (kz:okZ z) (hm:mayC z.e z.d.length (z.till:Int)=true) (hfr:z.ses=0→z.dl=0) {last:Int} (hl:last<(z.num:Int)) (h1: ∀y∈s.L,y.num<z.num) (hpos:1≤z.num) (hn:z.num<s.next) (hfull:(ofL s.L z.e).length<16)
  (row:Row h p (bc (recC z))) (hnl:n=(recC z).length) (tb:Num.Tab h) (mx:Num.Mx h)
  (hk: ∀h' X',Ct h' t X' (loadF s z)→StepF X h X' h'→R (.tuple #[.int .i64 (z.num:Int), .bool true]) h'):
  CallsH Tryz.prog F.copies_Table_load #[.pointer (some ⟨t,0,none⟩), .slice p n c, .int .i64 last] h R:=by
 obtain⟨m,xs,a1,S1,a2,S2,lab,H⟩:=H
 have rl:=recC_len kz
 have sl:=sm.l
 have xl:=H.len
 have hz0:z.e≠Ev.zero:=by
  have:=hm
  unfold mayC at this
  simp only[Bool.and_eq_true,Bool.not_eq_true',decide_eq_true_eq,decide_eq_false_iff_not] at this
  exact this.2.1
 refine copies_Table_load.walk (Fld.read_ok row hnl (by omega) fun g1 f S D1 f1 n1=>⟨_,rfl,Fld.rint_ok D1 fun g2 D2 f2=> ?_⟩)
 have nf:h.size≤f:=n1 f D1.self
 have F2:=f1.fresh f2 (fun y e=>by rw[e];exact nf)
 rw[rd1 kz] at D2⊢
 dsimp only at D2⊢
 refine⟨_,rfl,newP_of ?_⟩
 have f3:Fr (fun _=>False) g2 (g2.push (.cells #[.int .i64 (z.num:Int), .bool false, .int .u64 0, .int .u64 0, .string ⟨#[]⟩, .string ⟨#[]⟩, .slice none 0 0, .int .u64 0, .int .i64 0, .int .u64 0] T.copies_Copy)):=Fr.push _ _
 have y3:CV.at (g2.push (.cells #[.int .i64 (z.num:Int), .bool false, .int .u64 0, .int .u64 0, .string ⟨#[]⟩, .string ⟨#[]⟩, .slice none 0 0, .int .u64 0, .int .i64 0, .int .u64 0] T.copies_Copy)) g2.size ⟨z.num,g2.size, .zero,⟨none,0, []⟩,0,0,0⟩:=push_new
 generalize g2.push (.cells #[.int .i64 (z.num:Int), .bool false, .int .u64 0, .int .u64 0, .string ⟨#[]⟩, .string ⟨#[]⟩, .slice none 0 0, .int .u64 0, .int .i64 0, .int .u64 0] T.copies_Copy)=g3 at f3 y3⊢
 have nS: ¬S g2.size:=fun hs=>by have:=D2.lt _ hs;omega
 have hb0:h.size≤g2.size:=F2.1
 generalize g2.size=b at y3 nS hb0⊢
 have bf: ¬b=f:=fun e=>nS (by rw[e];exact D2.self)
 have D3:=D2.frame f3 (fun _ _=>id)
 have tl:=text_len kz.r kz.v
 have e1:=encText_len (textE z.e)
 have e2:=encText_len z.d
 have dl:=kz.d
 have e3:=(encNum_len z.till).2
 have e4:=(encNum_len (natOf z.ses)).2
 have e5:=(encNum_len z.dl).2
 refine Fld.rtext_ok D3 (by simp only[List.length_append];omega) fun g4 p4 c4 D4 o4 n4 f4=> ?_
 rw[rd2 kz] at D4 o4⊢
 dsimp only at D4 o4⊢
 have F4:=(F2.tt f3).fresh f4 (fun y e=>by rw[e];exact nf)
 have y4:=f4.get y3 bf
 refine⟨_,_,_,rfl,_,conv o4.row' rfl,Eid.parse_ok kz.r kz.v hz0 (tb.on F4) (mx.on F4) fun g5 f5=>⟨_,_,_,_,_,_,rfl,st_e z.e (f5.get y4 id) fun g6 y6 s6 o6=> ?_⟩⟩
 have f6:Fr (fun y=>y=b) g5 g6:=⟨by omega,fun y _ hn=>o6 y hn⟩
 have F6:=(F4.tt f5).fresh f6 (fun y e=>by rw[e];exact hb0)
 have D6:=(D4.frame f5 (fun _ _=>id)).frame f6 (fun y hy e=>nS (e▸hy))
 refine Fld.rtext_ok D6 (by simp only[List.length_append];omega) fun g7 p7 c7 D7 o7 n7 f7=> ?_
 rw[rd3 kz] at D7 o7⊢
 dsimp only at D7 o7⊢
 have F7:=F6.fresh f7 (fun y e=>by rw[e];exact nf)
 refine⟨_,_,_,rfl,Fld.rnum_ok D7 fun g8 D8 f8=> ?_⟩
 rw[rd4 kz] at D8⊢
 dsimp only at D8⊢
 refine⟨_,rfl,Fld.rint_ok D8 fun g9 D9 f9=> ?_⟩
 rw[rd5 kz] at D9⊢
 dsimp only at D9⊢
 refine⟨_,rfl,Fld.rnum_ok D9 fun g10 D10 f10=> ?_⟩
 rw[rd6 kz] at D10⊢
 dsimp only at D10⊢
 have ns:((natOf z.ses:Nat):Int)=z.ses:=by have:=kz.s0;unfold natOf;omega
 rw[ns]
 have F10:=((F7.fresh f8 (fun y e=>by rw[e];exact nf)).fresh f9 (fun y e=>by rw[e];exact nf)).fresh f10 (fun y e=>by rw[e];exact nf)
 have y10:=f10.get (f9.get (f8.get (f7.get y6 bf) bf) bf) bf
 have n7': ∀y,inBlk p7 y→ ¬y=f:=fun y hy e=>by
  have h1:=n7 y hy
  have h2:=D6.lt f D6.self
  omega
 have o10:=((o7.frame f8 n7').frame f9 n7').frame f10 n7'
 refine⟨_,rfl,st_4 ⟨p7,c7,z.d⟩ z.till z.ses z.dl y10 fun g11 y11 s11 o11=>⟨_,cell_at y11 rfl, ?_⟩⟩
 have f11:Fr (fun y=>y=b) g10 g11:=⟨by omega,fun y _ hn=>o11 y hn⟩
 have F11:=F10.fresh f11 (fun y e=>by rw[e];exact hb0)
 have D11:=D10.frame f11 (fun y hy e=>nS (e▸hy))
 have lb6:=lt_of_get y6
 have n7b: ∀y,inBlk p7 y→y≠b:=fun y hy e=>by have:=n7 y hy;omega
 have w11:=o10.frame f11 n7b
 have lt7: ∀y,inBlk p7 y→h.size≤y:=fun y hy=>by have:=n7 y hy;have:=F6.1;omega
 clear o10 y10 D10 D9 D8 D7 D6 D4 D3 D2 D1 y6 y4 y3 o7 o4 o6 o11 f10 f9 f8 f7 f6 f5 f4 f3 f2 f1
 refine JoinP.of fun J hJ=>Fld.rend_ok D11 ⟨_,rfl, ?_⟩
 have fin: ∀g,Fr (fun _=>False) g11 g→J false g:=by
  intro g fg
  subst hJ
  dsimp only
  rw[if_neg (by decide)]
  have Fg:=F11.tt fg
  have Hg:=H.on Fg
  have yg:=fg.get y11 id
  have wg:=w11.frame fg (fun _ _=>id)
  refine⟨_,cell_at Hg.blk rfl,_,cell_at yg rfl,den_putP mapTy Hg.map (k:=(z.num:Int)) fun g13 M13 s13 o13=> ?_⟩
  obtain⟨X13,lab13,H13,st13⟩:=H.add (s':= { s with L:=s.L++ [z] }) (y:=⟨z.num,b,z.e,⟨p7,c7,z.d⟩,z.till,z.ses,z.dl⟩) Fg yg hb0 wg.row' wg.le (fun c hc=>⟨lt7 c hc,n7b c hc,wg.blk_lt hc⟩)
   (fun u hu=>by
    have:u.abs∈s.L:=by rw[←H.abs];exact List.mem_map_of_mem hu
    exact h1 _ this) M13 s13 o13 rfl rfl rfl ⟨rfl,rfl,rfl,rfl⟩
  have y13:=H13.cps _ (List.mem_append_right _ (List.mem_singleton.2 rfl))
  have hm1:may (z.num:Int) (z.till:Int)=true:=may_iff.2 ⟨by omega,by have:=kz.n;omega,by have:=kz.t;omega⟩
  have hm2:may (z.num:Int) (z.dl:Int)=true:=may_iff.2 ⟨by omega,by have:=kz.n;omega,by have:=kz.l;omega⟩
  refine⟨_,cell_at H13.blk rfl,_,cell_at y13 rfl,_,cell_at y13 rfl,Alarm.set_ok H13.al1 (by have:=sm.e1;show s.E1.length<_;omega) (z.num:Int) (z.till:Int) (by omega) (fun _ g14 S14 A14 q14 f14=>⟨_,rfl, ?_⟩) (fun hm=>absurd hm1 (by rw[hm];simp))⟩
  obtain⟨X14,lab14,H14,st14,_⟩:=H13.alarm1 (s':= { s with L:=s.L++ [z],E1:=setL s.E1 (z.num:Int) (z.till:Int) }) A14 q14 f14 rfl rfl rfl ⟨rfl,rfl,rfl,rfl⟩
  have y14:=H14.cps _ (List.mem_append_right _ (List.mem_singleton.2 rfl))
  refine JoinP.of fun J1 hJ1=> ?_
  subst hJ1
  by_cases hs:z.ses=0
  ·rw[if_neg (by show¬decide (z.ses>0)=true;rw[hs];simp)]
   have eF:loadF s z= { s with L:=s.L++ [z],E1:=setL s.E1 (z.num:Int) (z.till:Int) } :=by unfold loadF;rw[if_pos hs]
   rw[eF] at hk
   exact⟨_,cell_at y14 rfl,hk g14 X14 ⟨_,_,_,_,_,_,_,H14⟩ (st13.trans st14)⟩
  ·rw[if_pos (by have:=kz.s0;simp;omega)]
   have eF:loadF s z= { s with L:=s.L++ [z],E1:=setL s.E1 (z.num:Int) (z.till:Int),E2:=setL s.E2 (z.num:Int) (z.dl:Int) } :=by unfold loadF;rw[if_neg hs]
   rw[eF] at hk
   refine⟨_,cell_at H14.blk rfl,_,cell_at y14 rfl,_,cell_at y14 rfl,Alarm.set_ok H14.al2 (by have:=sm.e2;show s.E2.length<_;omega) (z.num:Int) (z.dl:Int) (by omega) (fun _ g15 S15 A15 q15 f15=>⟨_,rfl, ?_⟩) (fun hm=>absurd hm2 (by rw[hm];simp))⟩
   obtain⟨X15,lab15,H15,st15,_⟩:=H14.alarm2 (s':= { s with L:=s.L++ [z],E1:=setL s.E1 (z.num:Int) (z.till:Int),E2:=setL s.E2 (z.num:Int) (z.dl:Int) }) A15 q15 f15 rfl rfl rfl ⟨rfl,rfl,rfl,rfl⟩
   have y15:=H15.cps _ (List.mem_append_right _ (List.mem_singleton.2 rfl))
   exact⟨_,cell_at y15 rfl,hk g15 X15 ⟨_,_,_,_,_,_,_,H15⟩ (st13.trans (st14.trans st15))⟩
 clear hJ hk
 have H11:=H.on F11
 have e0:(readEnd 0 [] !=0)=false:=by decide
 rw[e0,if_neg (by decide)]
 refine⟨_,cell_at y11 rfl, ?_⟩
 rw[if_neg (by simp;omega)]
 refine⟨_,cell_at y11 rfl,_,cell_at H11.blk rfl, ?_⟩
 rw[if_neg (by simp;omega)]
 refine ld_e y11 ⟨_,_,_,cell_at y11 rfl,_,cell_at y11 rfl,isCopy_ok z.e fun g12 f12=>⟨_,rfl,cell_at (f12.get H11.blk id) rfl,cell_at (f12.get y11 id) rfl,cell_at (f12.get y11 id) rfl, ?_⟩⟩
 rw[hm,if_neg (by decide)]
 have y12:=f12.get y11 id
 have H12:=H11.on f12
 refine⟨_,cell_at y12 rfl, ?_⟩
 have lz:=kz.l
 rw[if_neg (by simp;omega)]
 have go: ∀g,Fr (fun _=>False) g12 g→(xs.filter (fun y=>decide (y.e=z.e))).length<16:=fun _ _=>by rw[of_len H z.e];exact hfull
 by_cases hs:z.ses=0
 ·rw[if_pos (by show(!decide (z.ses>0))=true;rw[hs];rfl)]
  refine⟨_,cell_at y12 rfl, ?_⟩
  rw[if_neg (by simp;exact hfr hs)]
  refine ld_e y12 (of_ok H12 z.e (by omega) fun g13 p13 c13 o13 n13 f13=>⟨_,_,_,rfl,cell_at (f13.get y12 id) rfl,cell_at (f13.get y12 id) rfl,cell_at (f13.get H12.blk id) rfl,cell_at (f13.get y12 id) rfl,cell_at (f13.get y12 id) rfl, ?_⟩)
  rw[if_neg (by have:=go g13 f13;simp;omega)]
  have F13:=f12.tt f13
  have y13:=F13.get y11 id
  refine record_ok (z:=⟨z.num,b,z.e,⟨p7,c7,z.d⟩,z.till,z.ses,z.dl⟩) y13 ((w11.frame F13 (fun _ _=>id)).row') kz (tb.on (F11.tt F13)) fun p14 c14 g14 o14 f14 n14=> ?_
  have F14:=F13.tt f14
  have y14:=F14.get y11 id
  have H14:=H11.on F14
  refine⟨_,_,_,rfl,cell_at y14 rfl,cell_at y14 rfl,cell_at H14.blk rfl,cell_at y14 rfl,cell_at y14 rfl,Fld.equal_ok o14.row' rfl (row.frame (F11.tt F14) (fun _ _=>id)) hnl ⟨_,rfl,cell_at y14 rfl,cell_at y14 rfl,cell_at H14.blk rfl,cell_at y14 rfl,cell_at y14 rfl, ?_⟩⟩
  have e:(!decide (recC (CV.abs ⟨z.num,b,z.e,⟨p7,c7,z.d⟩,z.till,z.ses,z.dl⟩)=recC z))=false:=by simp[CV.abs]
  rw[e]
  exact fin g14 F14
 ·rw[if_neg (by have:=kz.s0;simp;omega)]
  refine ld_e y12 (of_ok H12 z.e (by omega) fun g13 p13 c13 o13 n13 f13=>⟨_,_,_,rfl,cell_at (f13.get y12 id) rfl,cell_at (f13.get H12.blk id) rfl,cell_at (f13.get y12 id) rfl,cell_at (f13.get y12 id) rfl, ?_⟩)
  rw[if_neg (by have:=go g13 f13;simp;omega)]
  have F13:=f12.tt f13
  have y13:=F13.get y11 id
  refine record_ok (z:=⟨z.num,b,z.e,⟨p7,c7,z.d⟩,z.till,z.ses,z.dl⟩) y13 ((w11.frame F13 (fun _ _=>id)).row') kz (tb.on (F11.tt F13)) fun p14 c14 g14 o14 f14 n14=> ?_
  have F14:=F13.tt f14
  have y14:=F14.get y11 id
  have H14:=H11.on F14
  refine⟨_,_,_,rfl,cell_at y14 rfl,cell_at H14.blk rfl,cell_at y14 rfl,cell_at y14 rfl,Fld.equal_ok o14.row' rfl (row.frame (F11.tt F14) (fun _ _=>id)) hnl ⟨_,rfl,cell_at y14 rfl,cell_at H14.blk rfl,cell_at y14 rfl,cell_at y14 rfl, ?_⟩⟩
  have e:(!decide (recC (CV.abs ⟨z.num,b,z.e,⟨p7,c7,z.d⟩,z.till,z.ses,z.dl⟩)=recC z))=false:=by simp[CV.abs]
  rw[e]
  exact fin g14 F14
end Cps
end Go.Proofs.YtgccegnmggjkjaaGreatDoor
set_option maxRecDepth 100000
namespace Go.Proofs.YtgccegnmggjkjaaGreatDoor
open Go.Den Go.Fields Go.Heapq
namespace Cps
open Eid Alarm Fld
variable {h h' : Heap} {R : Value → Heap → Prop} {t : Nat} {X : Ft} {s s1 : CF} {p : Option Addr} {n c l k j : Nat}
structure Part (s:CF) (j:Nat) (s1:CF):Prop where
 L:s1.L=s.L.take j
 next:s1.next=s.next
 acked:s1.acked=s.acked
 over:s1.over=s.over
 gone:s1.gone=s.gone
 e1: ∀e,e∈s1.E1↔ ∃z∈s1.L,e=((z.num:Int),(z.till:Int))
 e2: ∀e,e∈s1.E2↔ ∃z∈s1.L,z.ses≠0∧e=((z.num:Int),(z.dl:Int))
theorem Part.nil:Part s 0 ⟨[],s.next,s.acked,s.over,s.gone, [], []⟩:=⟨rfl,rfl,rfl,rfl,rfl,fun e=>by simp,fun e=>by simp⟩
theorem lt_of_so (so:(s.L.map Cp.num).Pairwise (· < ·)) {z:Cp} (hz:s.L[j]? =some z) {y:Cp} (hy:y∈s.L.take j):y.num<z.num:=by
 obtain⟨i,hi⟩:=List.getElem?_of_mem hy
 have hij:i<j:=by
  have:=(List.getElem?_eq_some_iff.1 hi).1
  rw[List.length_take] at this;omega
 rw[List.getElem?_take_of_lt hij] at hi
 have h1:=List.pairwise_map.1 so
 rw[List.pairwise_iff_getElem] at h1
 obtain⟨a1,rfl⟩:=List.getElem?_eq_some_iff.1 hi
 obtain⟨a2,rfl⟩:=List.getElem?_eq_some_iff.1 hz
 exact h1 i j a1 a2 hij
theorem Part.step (P:Part s j s1) (so:(s.L.map Cp.num).Pairwise (· < ·)) {z:Cp} (hz:s.L[j]? =some z):Part s (j+1) (loadF s1 z):=by
 have hlt: ∀y∈s1.L,y.num<z.num:=fun y hy=>by rw[P.L] at hy;exact lt_of_so so hz hy
 refine⟨?_,P.next,P.acked,P.over,P.gone,fun e=> ?_,fun e=> ?_⟩
 ·show s1.L++ [z]=_
  rw[P.L,List.take_add_one,hz];rfl
 ·show e∈setL s1.E1 (z.num:Int) (z.till:Int)↔ ∃y∈s1.L++ [z],_
  rw[setL_mem,P.e1]
  constructor
  ·rintro(rfl|⟨⟨y,hy,rfl⟩,_⟩)
   ·exact⟨z,by simp,rfl⟩
   ·exact⟨y,by simp[hy],rfl⟩
  ·rintro⟨y,hy,rfl⟩
   rcases List.mem_append.1 hy with hy|hy
   ·refine .inr ⟨⟨y,hy,rfl⟩, ?_⟩
    have:=hlt y hy
    show(y.num:Int)≠(z.num:Int);omega
   ·obtain rfl:=List.mem_singleton.1 hy;exact .inl rfl
 ·show e∈(if z.ses=0 then s1.E2 else setL s1.E2 (z.num:Int) (z.dl:Int))↔ ∃y∈s1.L++ [z],_
  by_cases h0:z.ses=0
  ·rw[if_pos h0,P.e2]
   constructor
   ·rintro⟨y,hy,h1,h2⟩;exact⟨y,by simp[hy],h1,h2⟩
   ·rintro⟨y,hy,h1,h2⟩
    rcases List.mem_append.1 hy with hy|hy
    ·exact⟨y,hy,h1,h2⟩
    ·obtain rfl:=List.mem_singleton.1 hy;exact absurd h0 h1
  ·rw[if_neg h0,setL_mem,P.e2]
   constructor
   ·rintro(rfl|⟨⟨y,hy,h1,rfl⟩,_⟩)
    ·exact⟨z,by simp,h0,rfl⟩
    ·exact⟨y,by simp[hy],h1,rfl⟩
   ·rintro⟨y,hy,h1,rfl⟩
    rcases List.mem_append.1 hy with hy|hy
    ·refine .inr ⟨⟨y,hy,h1,rfl⟩, ?_⟩
     have:=hlt y hy
     show(y.num:Int)≠(z.num:Int);omega
    ·obtain rfl:=List.mem_singleton.1 hy;exact .inl rfl
theorem Part.small (P:Part s j s1) (G:Good s k) (O:Ord s1) (hk:k≤40000):Small s1:=by
 have h1:=G.L
 have h2:=G.len
 have hL:s1.L.length≤s.L.length:=by rw[P.L,List.length_take];omega
 have nd: ∀ {l:List E},(keys l).Nodup→l.Nodup:=fun {l} hn=>(List.pairwise_map.1 hn).imp (fun h e=>h (congrArg _ e))
 have e1:s1.E1.length≤s1.L.length:=by
  have:=nd_le (l2:=s1.L.map (fun z=>(((z.num:Int),(z.till:Int)):E))) (nd O.n1) (fun e he=>by
   obtain⟨z,hz,rfl⟩:=(P.e1 e).1 he
   exact List.mem_map.2 ⟨z,hz,rfl⟩)
  rwa[List.length_map] at this
 have e2:s1.E2.length≤s1.L.length:=by
  have:=nd_le (l2:=s1.L.map (fun z=>(((z.num:Int),(z.dl:Int)):E))) (nd O.n2) (fun e he=>by
   obtain⟨z,hz,_,rfl⟩:=(P.e2 e).1 he
   exact List.mem_map.2 ⟨z,hz,rfl⟩)
  rwa[List.length_map] at this
 have:=P.next
 exact⟨by omega,by omega,by omega,by omega⟩
theorem Part.all (P:Part s s.L.length s1) (G:Good s k) (O:Ord s) (O1:Ord s1):s1=s:=by
 have hL:s1.L=s.L:=by rw[P.L,List.take_length]
 refine state_ext G.ok O ⟨?_, ?_,P.e1,P.e2, ?_⟩ O1 hL P.next P.acked P.over P.gone
 ·rw[hL,P.next];exact G.ok.bd
 ·rw[hL];exact G.ok.sp
 ·rw[hL,P.next,P.acked,P.over,P.gone];exact G.ok.cnt
theorem Ct.so (H:Ct h t X s):(s.L.map Cp.num).Pairwise (· < ·):=by
 obtain⟨m,xs,a1,S1,a2,S2,lab,H⟩:=H
 rw[←H.abs,List.map_map]
 exact H.so
theorem hd (G:Good s k) (hk:k≤30000):readInt 0 (headC s)=(s.next,0,encNum s.acked++(encNum s.over++(encNum s.gone++encNum s.L.length))):=by
 have:=G.len
 unfold headC
 simp only[List.append_assoc]
 exact readMost_enc (by omega) (by decide) _
theorem hd' {n:Nat} (hn:n≤40000) (y:List UInt8):readInt 0 (encNum n++y)=(n,0,y):=readMost_enc (by omega) (by decide) _
theorem hd0 {n:Nat} (hn:n≤40000):readInt 0 (encNum n)=(n,0, []):=by
 have:=hd' hn []
 rwa[List.append_nil] at this
theorem st_t {g:Heap} {b0 b5 b6 v1 v2 v3 v4 w1 w2 w3 w4:Value} {K:Heap→Prop} (hb:g[t]? =some (.cells #[b0,v1,v2,v3,v4,b5,b6] T.copies_Table (0,0))) (hv: [w1,w2,w3,w4].all oneCell=true)
  (hk: ∀h',h'[t]? =some (.cells #[b0,w1,w2,w3,w4,b5,b6] T.copies_Table (0,0))→h'.size=g.size→(∀x,x≠t→h'[x]? =g[x]?)→K h'):
  onSome (some (⟨t,0,none⟩:Addr)) fun a1=>StoreP g (a1.add 1) w1 fun h1=>onSome (some (⟨t,0,none⟩:Addr)) fun a2=>StoreP h1 (a2.add 2) w2 fun h2=>onSome (some (⟨t,0,none⟩:Addr)) fun a3=>StoreP h2 (a3.add 3) w3 fun h3=>onSome (some (⟨t,0,none⟩:Addr)) fun a4=>StoreP h3 (a4.add 4) w4 K:=by
 have:=storeL_part (i:=1) (vs:= [w1,w2,w3,w4]) (lit:= #[b0,w1,w2,w3,w4,b5,b6]) (K:=K) hb (by simp) hv rfl hk
 simp only[List.all_cons,Bool.and_eq_true] at hv
 obtain⟨q1,q2,q3,q4,_⟩:=hv
 unfold storeL at this
 rw[q1] at this
 refine onSome_some.2 ⟨this.1,this.2.1,fun h1 e1=> ?_⟩
 have this:=this.2.2 h1 e1
 unfold storeL at this
 rw[q2] at this
 refine onSome_some.2 ⟨this.1,this.2.1,fun h2 e2=> ?_⟩
 have this:=this.2.2 h2 e2
 unfold storeL at this
 rw[q3] at this
 refine onSome_some.2 ⟨this.1,this.2.1,fun h3 e3=> ?_⟩
 have this:=this.2.2 h3 e3
 unfold storeL at this
 rw[q4] at this
 exact onSome_some.2 this
set_option maxHeartbeats 1000000 in
theorem load_ok {vs:List BV} {bs:List (List UInt8)} (H:Fld.Rows h p l c vs) (e:vs.map BV.b=headC s::bs) (G:Good s k) (so:(s.L.map Cp.num).Pairwise (· < ·)) (O:Ord s) (hk8:k≤30000) (hl:l≤100000) (tb:Num.Tab h) (mx:Num.Mx h) (hb:bs=s.L.map recC∨bs.length≠s.L.length)
  (k1:bs=s.L.map recC→ ∀h' t X,Ct h' t X s→UpF h X h'→R (.tuple #[.pointer (some ⟨t,0,none⟩), .int .i64 0]) h')
  (k2:bs.length≠s.L.length→ ∀h',Fr (fun _=>False) h h'→R (.tuple #[.pointer none, .int .i64 3]) h'):CallsH Tryz.prog F.copies_Load #[.slice p l c] h R:=by
 obtain⟨v,vs,rfl⟩: ∃v vs',vs=v::vs':=by
  cases vs with
  |nil=>simp at e
  |cons v vs=>exact⟨v,vs,rfl⟩
 rw[List.map_cons,List.cons.injEq] at e
 obtain⟨ev,es⟩:=e
 have ll:=H.len
 rw[List.length_cons] at ll
 have lb:bs.length=vs.length:=by rw[←es,List.length_map]
 have GL:=G.L
 have gl:=G.len
 obtain⟨a,rfl⟩:=H.row.some (by simp)
 refine copies_Load.walk ?_
 rw[if_neg (by simp;omega)]
 refine new_ok fun h1 t X H1 u1=>⟨_,rfl,⟨by first|trivial|omega,by first|trivial|omega⟩,onSome_some.2 ?_⟩
 have Hr1:=H.on u1.fr
 have c0:=(Hr1.row.heldAt nenc_len (i:=0) rfl).1
 rw[add_zero_addr] at c0
 have rv:=Hr1.each v (by simp)
 rw[ev] at rv
 have hdl:(headC s).length≤100:=by
  unfold headC
  have e1:=(encNum_len s.next).2
  have e2:=(encNum_len s.acked).2
  have e3:=(encNum_len s.over).2
  have e4:=(encNum_len s.gone).2
  have e5:=(encNum_len s.L.length).2
  simp only[List.length_append];omega
 refine⟨_,_,_,c0,Fld.read_ok rv (by rw[ev]) (by omega) fun h2 f S D2 f2 n2=>⟨_,rfl,Fld.rint_ok D2 fun h3 D3 f3=> ?_⟩⟩
 rw[hd G hk8] at D3⊢
 dsimp only at D3⊢
 refine⟨_,rfl,Fld.rint_ok D3 fun h4 D4 f4=> ?_⟩
 rw[hd' (by omega)] at D4⊢
 dsimp only at D4⊢
 refine⟨_,rfl,Fld.rint_ok D4 fun h5 D5 f5=> ?_⟩
 rw[hd' (by omega)] at D5⊢
 dsimp only at D5⊢
 refine⟨_,rfl,Fld.rint_ok D5 fun h6 D6 f6=> ?_⟩
 rw[hd' (by omega)] at D6⊢
 dsimp only at D6⊢
 refine⟨_,rfl, ?_⟩
 have nf:h1.size≤f:=n2 f D2.self
 have F6:=(((f2.fresh f3 (fun y e=>by rw[e];exact nf)).fresh f4 (fun y e=>by rw[e];exact nf)).fresh f5 (fun y e=>by rw[e];exact nf)).fresh f6 (fun y e=>by rw[e];exact nf)
 have H6:=H1.on F6
 have u6:=u1.on F6
 obtain⟨m,xs,a1,S1,a2,S2,lab,H6⟩:=H6
 have nt: ¬S t:=fun hs=>by
  have h1:=n2 t hs
  have h2:=H1.lt t (.inl ((H6.mm t).2 (by rw[H6.l0];simp)))
  omega
 refine st_t H6.blk rfl fun h7 b7 s7 o7=> ?_
 obtain⟨H7,st7⟩:=H6.field (s':=⟨[],s.next,s.acked,s.over,s.gone, [], []⟩) rfl rfl rfl b7 s7 o7
 have f7:Fr (fun y=>y=t) h6 h7:=⟨by omega,fun y _ hn=>o7 y hn⟩
 have D7:=D6.frame f7 (fun y hy e=>nt (e▸hy))
 refine Fld.rint_ok D7 fun h8 D8 f8=> ?_
 rw[hd0 (by omega)] at D8⊢
 dsimp only at D8⊢
 refine⟨_,rfl, ?_⟩
 have u7:=u6.step st7
 have z1:=u1.fr.1
 have u8:UpF h X h8:=⟨u7.fr.fresh f8 (fun y e=>by rw[e];omega),u7.ge⟩
 have H8:Ct h8 t X ⟨[],s.next,s.acked,s.over,s.gone, [], []⟩:=Ct.frame ⟨_,_,_,_,_,_,_,H7⟩ f8 (fun y hy e=>by
  have:=H1.lt y hy
  omega)
 clear H7 b7 o7 H6 D7 D6 D5 D4 D3 D2
 refine JoinP.of fun J hJ=>Fld.rend_ok D8 ⟨_,rfl, ?_⟩
 have e0:(readEnd 0 [] !=0)=false:=by decide
 rw[e0,if_neg (by decide),wrap_id (by omega) (by omega)]
 by_cases hn:bs.length=s.L.length
 ·have eb:=hb.resolve_right (fun h=>h hn)
  rw[if_neg (by simp;omega)]
  obtain⟨m,xs,a1,S1,a2,S2,lab,H8m⟩:=id H8
  have q1:=G.ok.cnt
  refine onSome_some.2 ⟨_,cell_at H8m.blk rfl, ?_⟩
  rw[if_neg (by simp;omega)]
  refine onSome_some.2 ⟨_,cell_at H8m.blk rfl,onSome_some.2 ⟨_,cell_at H8m.blk rfl,onSome_some.2 ⟨_,cell_at H8m.blk rfl,onSome_some.2 ⟨_,cell_at H8m.blk rfl, ?_⟩⟩⟩⟩
  have ef:(IntKind.wrap .i64 ((s.next:Int) - 1) !=IntKind.wrap .i64 (IntKind.wrap .i64 (IntKind.wrap .i64 ((s.acked:Int)+(s.over:Int))+(s.gone:Int))+(s.L.length:Int)))=false:=by
   rw[wrap_id (by omega) (by omega),wrap_id (n:=(s.acked:Int)+(s.over:Int)) (by omega) (by omega),wrap_id (n:=(s.acked:Int)+(s.over:Int)+(s.gone:Int)) (by omega) (by omega),wrap_id (by omega) (by omega)]
   simp;omega
  rw[ef]
  subst hJ
  dsimp only
  rw[if_neg (by decide)]
  refine⟨⟨by first|trivial|omega,by first|trivial|omega⟩, ?_⟩
  refine⟨fun last i g=> ∃(j:Nat) (s1:CF) (X':Ft),i=(j:Int)∧j≤s.L.length∧Part s j s1∧Ct g t X' s1∧UpF h X' g∧ ∀z,s.L[j]? =some z→last<(z.num:Int),fun _ i _=>s.L.length - i.toNat,⟨0,_,X,rfl,by omega,Part.nil,H8,u8,fun z hz=> ?_⟩, ?_⟩
  ·have:=(G.ok.bd z (List.mem_of_getElem? hz)).1
   omega
  rintro last _ g ⟨j,s1,X',rfl,hj,P,Hg,ug,hlast⟩
  have el:(l - Int.toNat 1:Nat)=s.L.length:=by show l - 1=_;omega
  by_cases hlt:j<s.L.length
  ·rw[if_pos (by rw[el];simp;omega)]
   refine⟨⟨by first|trivial|omega,by rw[el];omega⟩, ?_⟩
   have hz:s.L[j]? =some s.L[j]:=List.getElem?_eq_getElem hlt
   generalize s.L[j]=z at hz
   have hv:vs[j]? =some (vs[j]'(by omega)):=List.getElem?_eq_getElem _
   generalize vs[j]'(by omega)=w at hv
   have ew:w.b=recC z:=by
    have h1:(vs.map BV.b)[j]? =(s.L.map recC)[j]? :=by rw[es,eb]
    rw[List.getElem?_map,List.getElem?_map,hv,hz] at h1
    exact Option.some.inj h1
   have Hr:=H.on ug.fr
   have sub:Row g (slBase (some a) c (Int.toNat 1) 1) (vs.flatMap nenc):=by
    have h1:=Hr.row.sub (cap:=c) (l:=1) (u:=l) (sz:=1) (by omega) Hr.cap
    have e1:((v::vs).flatMap nenc).take (l*1)=(v::vs).flatMap nenc:=List.take_of_length_le (by
     have fl: ∀xs:List BV,(xs.flatMap nenc).length=xs.length:=fun xs=>by induction xs with|nil=>rfl|cons _ _ ih=>simp[ih]
     rw[fl];simp;omega)
    rw[e1] at h1
    exact h1
   obtain⟨a5,ha5⟩:=sub.some (by intro e;cases vs with|nil=>simp at hv|cons=>simp at e)
   rw[ha5] at sub⊢
   have cw:=(sub.heldAt nenc_len hv).1
   rw[add_zero_addr] at cw
   have rw':=Hr.each w (List.mem_cons_of_mem _ (List.mem_of_getElem? hv))
   rw[ew] at rw'
   have zm:=List.mem_of_getElem? hz
   have bz:=G.ok.bd z zm
   refine onSome_some.2 ⟨_,_,_,cw,load1_ok Hg (P.small G Hg.ord (by omega)) (G.all z zm) (G.may z zm) (G.fr z zm) (hlast z hz) (fun y hy=>by rw[P.L] at hy;exact lt_of_so so hz hy) bz.1 (by rw[P.next];exact bz.2.1) ?_ rw' (by rw[ew]) (tb.on ug.fr) (mx.on ug.fr) fun g2 X2 H2 st2=>⟨_,_,rfl, ?_⟩⟩
   ·have h1:=G.full z.e
    have h2:(ofL s.L z.e).length=(ofL (s.L.take j) z.e).length+(ofL (s.L.drop j) z.e).length:=by
     unfold ofL
     rw[←List.length_append,←List.filter_append,List.take_append_drop]
    have h3:0<(ofL (s.L.drop j) z.e).length:=by
     refine List.length_pos_iff.2 (List.ne_nil_of_mem (a:=z) (List.mem_filter.2 ⟨?_,by simp⟩))
     have:(s.L.drop j)[0]? =some z:=by rw[List.getElem?_drop];exact hz
     exact List.mem_of_getElem? this
    rw[P.L];omega
   ·rw[if_neg (by decide),wrap_id (by omega) (by omega)]
    refine⟨⟨j+1,loadF s1 z,X2,by omega,by omega,P.step so hz,H2,ug.step st2,fun y hy=> ?_⟩,by show s.L.length - Int.toNat ((j:Int)+1)<s.L.length - Int.toNat (j:Int);omega⟩
    have:z∈s.L.take (j+1):=by rw[List.take_add_one,hz];simp
    have:=lt_of_so so hy this
    omega
  ·rw[if_neg (by rw[el];simp;omega)]
   obtain rfl:j=s.L.length:=by omega
   have:=P.all G O Hg.ord
   subst this
   exact k1 eb g t X' Hg ug
 ·rw[if_pos (by simp;omega)]
  subst hJ
  dsimp only
  rw[if_pos rfl]
  exact k2 hn h8 u8.fr
end Cps
end Go.Proofs.YtgccegnmggjkjaaGreatDoor
