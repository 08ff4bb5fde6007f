/-
  What is proved here: parts of the proof, one behind the other (texts of this work, merged by a program; what the theorem does not use is left out). No condition.
-/
import Derived.Test.YtgccegnmggjkjaaGreatDoorMStesd
set_option maxRecDepth 100000
namespace Go.Proofs.YtgccegnmggjkjaaGreatDoor
open Go.Den Go.Fields
namespace Ses
open Fld
variable {h h' h0 : Heap} {t : Nat} {X : Ft} {R : Value → Heap → Prop} {p q : Option Addr} {c d i : Nat} {A : List Ses}
def headR (s:Ses):List UInt8:=encNum s.num++encNum s.token++encNum (bit s.up)++encNum (bit s.watch)++encNum s.kept.length++encNum s.notes.length
def ansR (a:Nat×List UInt8):List UInt8:=encNum a.1++encText a.2
def recS (s:Ses):List (List UInt8):=headR s::(s.kept.map ansR++s.notes.map encText)
def recs (A:List Ses):List (List UInt8):=A.flatMap recS
theorem recS_len (s:Ses):(recS s).length=1+s.kept.length+s.notes.length:=by unfold recS;simp;omega
theorem recs_le (ok:okA A):(recs A).length≤13*A.length:=by
 have key: ∀B:List Ses,(∀s∈B,s.kept.length≤6∧s.notes.length≤6)→(recs B).length≤13*B.length:=by
  intro B
  induction B with
  |nil=>intro _;simp[recs]
  |cons s B ih=>
   intro hB
   have h1:=hB s List.mem_cons_self
   have h2:=ih (fun x hx=>hB x (List.mem_cons_of_mem _ hx))
   unfold recs at*
   rw[List.flatMap_cons,List.length_append,recS_len,List.length_cons]
   omega
 refine key A fun s hs=> ?_
 obtain⟨i,hi⟩:=List.getElem?_of_mem hs
 exact⟨(ok.at_ i s hi).kl,(ok.at_ i s hi).nl⟩
theorem save_ok (H:Has h t X A) (ok:okA A) (hk: ∀h' p' l' c',BL h h' p' l' c' (recs A)→Fr (fun _=>False) h h'→R (.slice p' l' c') h'):CallsH Tryz.prog F.sessions_Table_Save #[.pointer (some ⟨t,0,none⟩)] h R:=by
 refine sessions_Table_Save.walk (all_ok H ok fun h1 p1 l1 c1 O1 f1=>⟨_,_,_,rfl, ?_⟩)
 obtain⟨xs,D,rfl,hx2,rfl,hx4,hx5,hx6⟩:=O1
 have hxl:=ok.le
 rw[List.length_map] at hxl
 refine⟨fun op ol oc i h2=> ∃k:Nat,i=(k:Int)∧k≤xs.length∧BL h1 h2 op ol oc (recs ((xs.map SC.abs).take k))∧ol≤13*k∧Fr (fun _=>False) h1 h2,fun _ _ _ i _=>xs.length - i.toNat,⟨0,rfl,by omega,BL.nil,by omega,Fr.refl _ _⟩, ?_⟩
 rintro op ol oc _ g ⟨k,rfl,hkn,B,hol,fg⟩
 by_cases hlt:k<xs.length
 ·have q1:(k:Int)<(xs.length:Int):=by omega
  simp only[q1,decide_true,if_true,Int.toNat_natCast]
  have hs:xs[k]? =some xs[k]:=List.getElem?_eq_getElem hlt
  generalize xs[k]=s at hs
  have hsA:(xs.map SC.abs)[k]? =some s.abs:=by rw[List.getElem?_map,hs];rfl
  have okS:=ok.at_ k _ hsA
  have kl:s.kept.length≤6:=by have:=okS.kl;rwa[show s.abs.kept.length=s.kept.length from List.length_map _] at this
  have nl:s.notes.length≤6:=by have:=okS.nl;rwa[show s.abs.notes.length=s.notes.length from List.length_map _] at this
  have onum:s.num=k+1:=okS.num
  have otk:s.token≤2147483648:=okS.tk.2
  have kb: ∀a∈s.kept,a.id≤1099511627776∧a.v.b.length≤1000:=fun a ha=>okS.kd a.abs (List.mem_map_of_mem ha)
  have nb: ∀a∈s.notes,a.b.length≤600:=fun a ha=>(okS.nd a.b (List.mem_map_of_mem ha)).2
  have owng:=hx2.frame fg (fun _ _=>id)
  have SRg: ∀ {h':Heap},Fr (fun _=>False) g h'→SRow h' D s:=fun f=>(hx4 s (List.mem_of_getElem? hs)).frame (fg.tt f) (fun _ _=>id)
  obtain⟨ab,aoff,rfl⟩:=owng.addr (by omega)
  have zg:=fg.1
  have zh:=f1.1
  refine⟨⟨by first|trivial|omega,by first|trivial|omega⟩,onSome_some.2 (sessions_Session.ldA (owng.heldAt senc_len hs) (sessions_Session.new fun b h9 eb hb9 f9=> ?_))⟩
  refine⟨_,cell_at hb9 rfl,_,cell_at hb9 rfl,_,cell_at hb9 rfl,_,cell_at hb9 rfl,_,_,_,cell_at hb9 rfl,_,_,_,cell_at hb9 rfl, ?_⟩
  refine Fld.new_ok fun h10 w S10 W10 f10 g10=>⟨_,rfl, ?_⟩
  have u10:Up h9 S10 h10:=⟨f10,g10⟩
  have nbS: ∀ {S:Nat→Prop} {h':Heap},Up h9 S h'→ ¬S b:=fun u hx=>by have:=u.ge b hx;have:=lt_of_get hb9;omega
  have b10:=f10.get hb9 id
  refine⟨cell_at b10 rfl,cell_at b10 rfl,cell_at b10 rfl,cell_at b10 rfl,cell_at b10 rfl,cell_at b10 rfl, ?_⟩
  refine int_ok W10 (by simp) (by omega) fun h11 S11 W11 s11=>⟨_,rfl, ?_⟩
  have b11:=s11.fr.get b10 (nbS u10)
  have u11:=u10.step s11
  have e1:natOf (s.num:Int)=s.num:=by unfold natOf;omega
  rw[e1,List.nil_append] at W11
  have l1:=(encNum_len s.num).2
  refine⟨cell_at b11 rfl,cell_at b11 rfl,cell_at b11 rfl,cell_at b11 rfl,cell_at b11 rfl, ?_⟩
  refine num_ok s.token W11 (by omega) rfl (by omega) fun h12 S12 W12 s12=>⟨_,rfl, ?_⟩
  have b12:=s12.fr.get b11 (nbS u11)
  have u12:=u11.step s12
  have l2:=(encNum_len s.token).2
  refine⟨cell_at b12 rfl,cell_at b12 rfl,cell_at b12 rfl,cell_at b12 rfl, ?_⟩
  refine bool_ok W12 (by rw[List.length_append];omega) fun h13 S13 W13 s13=>⟨_,rfl, ?_⟩
  have b13:=s13.fr.get b12 (nbS u12)
  have u13:=u12.step s13
  have l3:=(encNum_len (bit s.up)).2
  refine⟨cell_at b13 rfl,cell_at b13 rfl,cell_at b13 rfl, ?_⟩
  refine bool_ok W13 (by simp only[List.length_append];omega) fun h14 S14 W14 s14=>⟨_,rfl, ?_⟩
  have b14:=s14.fr.get b13 (nbS u13)
  have u14:=u13.step s14
  have l4:=(encNum_len (bit s.watch)).2
  refine⟨cell_at b14 rfl,cell_at b14 rfl, ?_⟩
  refine int_ok W14 (by simp only[List.length_append];omega) (by omega) fun h15 S15 W15 s15=>⟨_,rfl, ?_⟩
  have b15:=s15.fr.get b14 (nbS u14)
  have u15:=u14.step s15
  have e5:natOf ((s.kept.length:Nat):Int)=s.kept.length:=by unfold natOf;omega
  rw[e5] at W15
  have l5:=(encNum_len s.kept.length).2
  refine⟨cell_at b15 rfl,cell_at b15 rfl, ?_⟩
  refine int_ok W15 (by simp only[List.length_append];omega) (by omega) fun h16 S16 W16 s16=>⟨_,rfl, ?_⟩
  have b16:=s16.fr.get b15 (nbS u15)
  have u16:=u15.step s16
  have e6:natOf ((s.notes.length:Nat):Int)=s.notes.length:=by unfold natOf;omega
  rw[e6] at W16
  have l6:=(encNum_len s.notes.length).2
  refine⟨cell_at b16 rfl,cell_at b16 rfl, ?_⟩
  have eh:encNum s.num++encNum s.token++encNum (bit s.up)++encNum (bit s.watch)++encNum s.kept.length++encNum s.notes.length=headR s.abs:=by
   unfold headR
   rw[show s.abs.kept.length=s.kept.length from List.length_map _,show s.abs.notes.length=s.notes.length from List.length_map _];rfl
  have hl6:(headR s.abs).length≤60:=by rw[←eh];simp only[List.length_append];omega
  rw[eh] at W16
  refine bytes_ok W16 (by omega) fun q17 d17 h17 o17 f17 g17=>⟨_,_,_,rfl, ?_⟩
  have b17:=f17.get b16 id
  refine⟨cell_at b17 rfl,cell_at b17 rfl, ?_⟩
  have F17:Fr (fun _=>False) g h17:=f9.tt (u16.fr.tt f17)
  have z9:=f9.1
  have z16:=u16.fr.1
  have zF17:=F17.1
  obtain⟨ys,DB,hy1,hy2,hy3,hy4,hy5,hy6⟩:=B
  refine newP_of ?_
  have f18:Fr (fun _=>False) h17 (h17.push (.cells #[.slice q17 (headR s.abs).length d17] T.s_uint8)):=Fr.push _ _
  have row18:Row (h17.push (.cells #[.slice q17 (headR s.abs).length d17] T.s_uint8)) (some ⟨h17.size,0,none⟩) (nenc ⟨q17,d17,headR s.abs⟩):=row_new (cs:=nenc ⟨q17,d17,headR s.abs⟩)
  have sz18:(h17.push (.cells #[.slice q17 (headR s.abs).length d17] T.s_uint8)).size=h17.size+1:=Array.size_push _
  generalize h17.push (.cells #[.slice q17 (headR s.abs).length d17] T.s_uint8)=h18 at f18 row18 sz18⊢
  have b18:=f18.get b17 id
  refine⟨cell_at b18 rfl,cell_at b18 rfl, ?_⟩
  have opg: ∀y,inBlk op y→y<g.size:=fun y hy=>hy2.blk_lt hy
  have nbo: ¬inBlk op b:=fun hx=>by have:=opg b hx;omega
  refine den_append tN uN ((hy2.frame F17 (fun _ _=>id)).frame f18 (fun _ _=>id)) row18 rfl (fun v hv=>by simp at hv;subst hv;rfl) (by omega) (by omega) ?_
  intro p19 c19 h19 o19 _ f19 g19
  have b19:=f19.get b18 nbo
  refine⟨_,_,_,rfl,cell_at b19 rfl,cell_at b19 rfl, ?_⟩
  have z19:=f19.1
  have b17': ∀y,inBlk q17 y→h16.size≤y∧y<h17.size:=fun y hy=>⟨g17 y hy,o17.blk_lt hy⟩
  have B19:BL h1 h19 p19 (ol+1) c19 (recs ((xs.map SC.abs).take k)++ [headR s.abs]):=by
   refine⟨ys++ [⟨q17,d17,headR s.abs⟩],fun y=>DB y∨inBlk q17 y,by rw[List.length_append,hy1];rfl, ?_, ?_, ?_, ?_, ?_⟩
   ·rw[List.flatMap_append];simpa using o19
   ·rw[List.map_append,hy3];rfl
   ·intro x hx
    rcases List.mem_append.1 hx with hx|hx
    ·exact((((hy4 x hx).frame F17 (fun _ _=>id)).frame f18 (fun _ _=>id)).frame f19 (fun y hy=>(hy5 y hy).2.2)).mono (fun y=> .inl)
    ·simp at hx;subst hx
     exact BV.of_own ((o17.frame f18 (fun _ _=>id)).frame f19 (fun y hy ho=>by have:=b17' y hy;have:=opg y ho;omega)) (fun y=> .inr)
   ·rintro y (hy|hy)
    ·have a:=hy5 y hy
     exact⟨a.1,by omega,fun ho=>(g19 y ho).elim a.2.2 (fun h2=>by omega)⟩
    ·have a:=b17' y hy
     exact⟨by omega,by omega,fun ho=>(g19 y ho).elim (fun h2=>by have:=opg y h2;omega) (fun h2=>by omega)⟩
   ·intro y hy
    rcases g19 y hy with h2|h2
    ·exact hy6 y h2
    ·omega
  have F19:Fr (fun _=>False) h1 h19:=(fg.tt (F17.tt f18)).step f19 (fun y hy ho=>by have:=hy6 y ho;omega)
  have zb19:b<h19.size:=lt_of_get b19
  have hb1:h1.size≤b:=by omega
  have npb: ¬inBlk p19 b:=fun ho=>(g19 b ho).elim nbo (fun h2=>by omega)
  have SR: ∀ {h':Heap},Fr (fun _=>False) h1 h'→SRow h' D s:=fun f=>(hx4 s (List.mem_of_getElem? hs)).frame f (fun _ _=>id)
  clear o19 f19 g19 row18 sz18 f18 b18 b17 o17 f17 g17 W16 b16 W15 b15 W14 b14 W13 b13 W12 b12 W11 b11 W10 b10 hb9 s16 s15 s14 s13 s12 s11 f10 g10 u10 u11 u12 u13 u14 u15 u16 b17' hy2 hy4 hy5 F17 f9
  refine⟨_,_,_,cell_at b19 rfl, ?_⟩
  refine⟨fun op' ol' oc' i h'=> ∃j:Nat,i=(j:Int)∧j≤s.kept.length∧BL h1 h' op' ol' oc' (recs ((xs.map SC.abs).take k)++ [headR s.abs]++(s.abs.kept.map ansR).take j)∧ol'≤ol+1+j∧Fr (fun _=>False) h1 h'∧
   sessions_Session.at h' b (s.num:Int) (s.token:Int) s.up s.watch s.kp s.kept.length s.kc s.np s.notes.length s.nc∧ ¬inBlk op' b,fun _ _ _ i _=>s.kept.length - i.toNat,⟨0,rfl,by omega,by simpa using B19,by omega,F19,b19,npb⟩, ?_⟩
  clear B19 F19 b19 npb
  rintro op' ol' oc' _ h20 ⟨j,rfl,hj,B20,hol',F20,b20,nb20⟩
  have z20:=F20.1
  by_cases hjl:j<s.kept.length
  ·have q2:(j:Int)<(s.kept.length:Int):=by omega
   simp only[q2,decide_true,if_true,Int.toNat_natCast]
   have ha:s.kept[j]? =some s.kept[j]:=List.getElem?_eq_getElem hjl
   generalize s.kept[j]=a at ha
   have row20:=(SR F20).k
   obtain⟨ka,hkp⟩:=row20.some (fun e=>by have:=congrArg List.length e;rw[flat_len AV.enc 2 aenc_len,List.length_nil] at this;omega)
   rw[hkp] at row20
   refine⟨⟨by first|trivial|omega,by first|trivial|omega⟩, ?_⟩
   rw[hkp]
   have kba:=kb a (List.mem_of_getElem? ha)
   refine onSome_some.2 (sessions_Answer.ldA (row20.heldAt aenc_len ha) (sessions_Answer.new fun b2 h23 eb2 hb2 f23=>⟨_,cell_at hb2 rfl,_,_,_,cell_at hb2 rfl, ?_⟩))
   refine Fld.new_ok fun h24 w S24 W24 f24 g24=>⟨_,rfl, ?_⟩
   have u24:Up h23 S24 h24:=⟨f24,g24⟩
   have b24:=f24.get hb2 id
   refine⟨cell_at b24 rfl,cell_at b24 rfl, ?_⟩
   refine num_ok a.id W24 (by simp) rfl (by omega) fun h25 S25 W25 s25=>⟨_,rfl, ?_⟩
   rw[List.nil_append] at W25
   have u25:=u24.step s25
   have b25:=s25.fr.get b24 (fun hx=>by have:=u24.ge b2 hx;have:=lt_of_get hb2;omega)
   refine⟨cell_at b25 rfl, ?_⟩
   have F25:Fr (fun _=>False) h1 h25:=F20.tt (f23.tt u25.fr)
   have l7:=(encNum_len a.id).2
   have rowa:=((SR F25).kd a (List.mem_of_getElem? ha)).row
   refine text_ok' W25 (by omega) rowa rfl (by omega) (fun y hy hne hS=> ?_) fun h26 S26 W26 s26=>⟨_,rfl, ?_⟩
   ·have a1:=(hx4 s (List.mem_of_getElem? hs)).kd a (List.mem_of_getElem? ha)
    have a2:=(hx5 y (a1.own hne y hy)).2.1
    have a3:=u25.ge y hS
    have a4:=f23.1
    omega
   have u26:=u25.step s26
   have l8:=(encNum_len a.v.b.length).2
   have el:(encText a.v.b).length=(encNum a.v.b.length).length+a.v.b.length:=by unfold encText;rw[List.length_append]
   refine bytes_ok W26 (by rw[List.length_append];omega) fun q27 d27 h27 o27 f27 g27=>⟨_,_,_,rfl, ?_⟩
   have F27:Fr (fun _=>False) h20 h27:=f23.tt (u26.fr.tt f27)
   have z27:=F27.1
   have zu:=(f23.tt u26.fr).1
   have er:encNum a.id++encText a.v.b=ansR a.abs:=rfl
   rw[er] at o27⊢
   refine(B20.on F27).push (by omega) o27 (fun y hy=>⟨by have:=g27 y hy;omega,fun ho=>by have:=B20.lt ho;have:=g27 y hy;omega⟩) (by omega) ?_
   intro p29 c29 h29 B29 f29 g29
   refine⟨_,_,_,rfl, ?_⟩
   rw[wrap_id (by omega) (by omega)]
   refine⟨⟨j+1,by omega,by omega, ?_,by omega, ?_,(by rw[←hkp];exact f29.get (F27.get b20 id) nb20), ?_⟩, ?_⟩
   ·rw[List.append_assoc] at B29
    rw[List.take_add_one,show(s.abs.kept.map ansR)[j]? =some (ansR a.abs) by show((s.kept.map AV.abs).map ansR)[j]? =_;rw[List.getElem?_map,List.getElem?_map,ha];rfl]
    rw[←List.append_assoc] at B29⊢
    exact B29
   ·refine(F20.tt F27).step f29 (fun y hy ho=> ?_)
    obtain⟨_,_,_,_,_,_,_,h6'⟩:=B20
    have:=h6' y ho;omega
   ·intro ho
    rcases g29 b ho with h2|h2
    ·exact nb20 h2
    ·have:=lt_of_get (F27.get b20 id);omega
   ·show s.kept.length - Int.toNat ((j:Int)+1)<s.kept.length - Int.toNat (j:Int);omega
  ·have q2: ¬(j:Int)<(s.kept.length:Int):=by omega
   simp only[q2,decide_false,Bool.false_eq_true,if_false]
   rw[List.take_of_length_le (l:=s.abs.kept.map ansR) (by rw[List.length_map,show s.abs.kept.length=s.kept.length from List.length_map _];omega)] at B20
   refine⟨_,_,_,cell_at b20 rfl, ?_⟩
   refine⟨fun op' ol' oc' i h'=> ∃j:Nat,i=(j:Int)∧j≤s.notes.length∧BL h1 h' op' ol' oc' (recs ((xs.map SC.abs).take k)++ [headR s.abs]++s.abs.kept.map ansR++(s.abs.notes.map encText).take j)∧ol'≤ol+7+j∧Fr (fun _=>False) h1 h',fun _ _ _ i _=>s.notes.length - i.toNat,⟨0,rfl,by omega,by simpa using B20,by omega,F20⟩, ?_⟩
   clear B20 F20 b20 nb20 z20 hol' hjl hj q2
   rintro op' ol' oc' _ h30 ⟨j,rfl,hj,B30,hol',F30⟩
   have z30:=F30.1
   by_cases hjl:j<s.notes.length
   ·have q2:(j:Int)<(s.notes.length:Int):=by omega
    simp only[q2,decide_true,if_true,Int.toNat_natCast]
    have ha:s.notes[j]? =some s.notes[j]:=List.getElem?_eq_getElem hjl
    generalize s.notes[j]=a at ha
    have row30:=(SR F30).n
    obtain⟨ka,hnp⟩:=row30.some (fun e=>by have:=congrArg List.length e;rw[flat_len nenc 1 nenc_len,List.length_nil] at this;omega)
    rw[hnp] at row30
    refine⟨⟨by first|trivial|omega,by first|trivial|omega⟩, ?_⟩
    rw[hnp]
    have nba:=nb a (List.mem_of_getElem? ha)
    refine onSome_some.2 ⟨a.p,a.b.length,a.c, ?_, ?_⟩
    ·have:=(row30.heldAt nenc_len ha).1
     rwa[add_zero_addr] at this
    refine Fld.new_ok fun h31 w S31 W31 f31 g31=>⟨_,rfl, ?_⟩
    have u31:Up h30 S31 h31:=⟨f31,g31⟩
    have rowa:=((SR (F30.tt f31)).nd a (List.mem_of_getElem? ha)).row
    refine text_ok' W31 (by simp) rowa rfl (by omega) (fun y hy hne hS=> ?_) fun h32 S32 W32 s32=>⟨_,rfl, ?_⟩
    ·have a1:=(hx4 s (List.mem_of_getElem? hs)).nd a (List.mem_of_getElem? ha)
     have a2:=(hx5 y (a1.own hne y hy)).2.1
     have a3:=u31.ge y hS
     omega
    rw[List.nil_append] at W32
    have u32:=u31.step s32
    have l8:=(encNum_len a.b.length).2
    have el:(encText a.b).length=(encNum a.b.length).length+a.b.length:=by unfold encText;rw[List.length_append]
    refine bytes_ok W32 (by omega) fun q33 d33 h33 o33 f33 g33=>⟨_,_,_,rfl, ?_⟩
    have F33:Fr (fun _=>False) h30 h33:=u32.fr.tt f33
    have z33:=F33.1
    have zu:=u32.fr.1
    refine(B30.on F33).push (by omega) o33 (fun y hy=>⟨by have:=g33 y hy;omega,fun ho=>by have:=B30.lt ho;have:=g33 y hy;omega⟩) (by omega) ?_
    intro p35 c35 h35 B35 f35 g35
    refine⟨_,_,_,rfl, ?_⟩
    rw[wrap_id (by omega) (by omega)]
    refine⟨⟨j+1,by omega,by omega, ?_,by omega, ?_⟩, ?_⟩
    ·rw[List.append_assoc] at B35
     rw[List.take_add_one,show(s.abs.notes.map encText)[j]? =some (encText a.b) by show((s.notes.map BV.b).map encText)[j]? =_;rw[List.getElem?_map,List.getElem?_map,ha];rfl]
     rw[←List.append_assoc] at B35⊢
     exact B35
    ·refine(F30.tt F33).step f35 (fun y hy ho=> ?_)
     obtain⟨_,_,_,_,_,_,_,h6'⟩:=B30
     have:=h6' y ho;omega
    ·show s.notes.length - Int.toNat ((j:Int)+1)<s.notes.length - Int.toNat (j:Int);omega
   ·have q2: ¬(j:Int)<(s.notes.length:Int):=by omega
    simp only[q2,decide_false,Bool.false_eq_true,if_false]
    rw[List.take_of_length_le (l:=s.abs.notes.map encText) (by rw[List.length_map,show s.abs.notes.length=s.notes.length from List.length_map _];omega)] at B30
    rw[wrap_id (by omega) (by omega)]
    refine⟨⟨k+1,by omega,by omega, ?_,by omega,F30⟩, ?_⟩
    ·have e:recs ((xs.map SC.abs).take (k+1))=recs ((xs.map SC.abs).take k)++ [headR s.abs]++s.abs.kept.map ansR++s.abs.notes.map encText:=by
      unfold recs
      rw[List.take_add_one,hsA,List.flatMap_append]
      simp[recS]
     rw[e];exact B30
    ·show xs.length - Int.toNat ((k:Int)+1)<xs.length - Int.toNat (k:Int);omega
 ·have q1: ¬(k:Int)<(xs.length:Int):=by omega
  simp only[q1,decide_false,Bool.false_eq_true,if_false]
  rw[List.take_of_length_le (by rw[List.length_map];omega)] at B
  exact hk g op ol oc (B.mono f1.1) (f1.tt fg)
end Ses
end Go.Proofs.YtgccegnmggjkjaaGreatDoor
set_option maxRecDepth 100000
namespace Go.Proofs.YtgccegnmggjkjaaGreatDoor
open Go.Den Go.Fields
namespace Fld
variable {h h' h0 : Heap} {R : Value → Heap → Prop} {p q : Option Addr} {l c : Nat} {bs : List (List UInt8)}
structure RS where
 p:Option Addr
 c:Nat
 xs:List BV
abbrev RS.val (t:RS):Value:= .slice t.p t.xs.length t.c
theorem nflat_len (xs:List BV):(xs.flatMap nenc).length=xs.length:=by
 rw[flat_len nenc 1 nenc_len,Nat.mul_one]
theorem growN_ok {n:Nat} (hn:n≤1000000) (hk: ∀p' c' h',Own h' p' 0 c' 1 []→Fr (fun _=>False) h h'→(∀y,inBlk p' y→h.size≤y)→R (.slice p' 0 c') h'):
  CallsH Tryz.prog F.slices_Grow_s_s_byte_s_byte #[.slice none 0 0, .int .i64 (n:Int)] h R:=by
 refine slices_Grow_s_s_byte_s_byte.walk (JoinP.of fun J hJ=> ?_)
 have e2:IntKind.wrap .i64 ((n:Int) - (IntKind.wrap .i64 (((0:Nat):Int) - ((0:Nat):Int))))=(n:Int):=by
  rw[show IntKind.wrap .i64 (((0:Nat):Int) - ((0:Nat):Int))=0 from rfl,wrap_id (by omega) (by omega)];omega
 rw[if_neg (fun e=>by have:=of_decide_eq_true e;omega)]
 subst hJ
 refine JoinP.of fun J1 hJ1=> ?_
 rw[e2]
 by_cases hz:n=0
 ·subst hz
  rw[if_neg (by simp)]
  subst hJ1
  exact hk none 0 h (.nil rfl rfl rfl rfl) (Fr.refl _ _) (fun y ⟨a,e,_⟩=>by cases e)
 ·rw[if_pos (decide_eq_true (by omega))]
  refine⟨⟨by omega,by omega⟩, ?_⟩
  rw[slBase_zero]
  refine den_grow tN (by kernel_rfl) (by omega) (by omega) (by omega) fun cap' h' o hc f=>⟨_,_,_,rfl,⟨by omega,by omega⟩, ?_⟩
  rw[slBase_zero]
  subst hJ1
  exact hk _ cap' h' o f (fun y ⟨a,e,e2⟩=>by cases e;exact Nat.le_of_eq e2)
theorem take_flat {ts:List RS} {j:Nat} {t:RS} (ht:ts[j]? =some t):(ts.take (j+1)).flatMap RS.xs=(ts.take j).flatMap RS.xs++t.xs:=by
 rw[List.take_add_one,ht,List.flatMap_append];simp
theorem concatN_ok {a:Addr} {ts:List RS} {n m:Nat} (hh:Row h (some a) (ts.map RS.val)) (hr: ∀t∈ts,Row h t.p (t.xs.flatMap nenc)) (hn:n=ts.length) (ht:ts.length≤1000) (hl:(ts.flatMap RS.xs).length≤1000000)
  (hk: ∀h' p' c',Own h' p' (ts.flatMap RS.xs).length c' 1 ((ts.flatMap RS.xs).flatMap nenc)→Fr (fun _=>False) h h'→(∀y,inBlk p' y→h.size≤y)→R (.slice p' (ts.flatMap RS.xs).length c') h'):
  CallsH Tryz.prog F.slices_Concat_s_s_byte_s_byte #[.slice (some a) n m] h R:=by
 subst hn
 have tl: ∀j,((ts.take j).flatMap RS.xs).length≤(ts.flatMap RS.xs).length:=fun j=>by
  conv=>rhs;rw[←List.take_append_drop j ts]
  rw[List.flatMap_append,List.length_append];omega
 have at_: ∀ {g:Heap} {j:Nat} {t:RS},Fr (fun _=>False) h g→ts[j]? =some t→hcell g (a.add (Int.toNat (j:Int)*1))=some t.val:=fun f ht=>by
  rw[Int.toNat_natCast,Nat.mul_one]
  exact(hh.frame f (fun _ _=>id)).cell (by rw[List.getElem?_map,ht];rfl)
 refine slices_Concat_s_s_byte_s_byte.walk ⟨fun size i g=>g=h∧ ∃j:Nat,i=(j:Int)∧j≤ts.length∧size=((((ts.take j).flatMap RS.xs).length:Nat):Int),fun _ i _=>ts.length - i.toNat,⟨rfl,0,rfl,Nat.zero_le _,rfl⟩, ?_⟩
 rintro _ _ g ⟨rfl,j,rfl,hj,rfl⟩
 by_cases hlt:j<ts.length
 ·rw[if_pos (decide_eq_true (by omega))]
  have hg:=List.getElem?_eq_getElem hlt
  have e1:=congrArg List.length (take_flat hg)
  rw[List.length_append] at e1
  have t1:=tl (j+1)
  refine JoinP.of fun J hJ=>⟨⟨by omega,by omega⟩,onSome_some.2 ⟨_,_,_,at_ (Fr.refl _ _) hg,JoinP.of fun J1 hJ1=> ?_⟩⟩
  have e:IntKind.wrap .i64 (((((ts.take j).flatMap RS.xs).length:Nat):Int)+((ts[j].xs.length:Nat):Int))=((((ts.take (j+1)).flatMap RS.xs).length:Nat):Int):=by rw[wrap_id (by omega) (by omega)];omega
  rw[e] at hJ1⊢
  rw[if_neg (fun e=>by have:=of_decide_eq_true e;omega)]
  subst hJ1;subst hJ
  dsimp only
  rw[wrap_id (by omega) (by omega)]
  exact⟨⟨rfl,j+1,by omega,by omega,rfl⟩,by show ts.length - Int.toNat ((j:Int)+1)<ts.length - Int.toNat (j:Int);omega⟩
 ·rw[if_neg (fun e=>by have:=of_decide_eq_true e;omega)]
  have ej:j=ts.length:=by omega
  subst ej
  rw[List.take_length]
  refine growN_ok (by omega) fun p4 c4 h4 o4 f4 g4=>⟨_,_,_,rfl, ?_⟩
  refine⟨fun np nl nc i g'=>Fr (fun _=>False) g g'∧(∀y,inBlk np y→g.size≤y)∧ ∃j:Nat,i=(j:Int)∧j≤ts.length∧nl=((ts.take j).flatMap RS.xs).length∧Own g' np nl nc 1 (((ts.take j).flatMap RS.xs).flatMap nenc),fun _ _ _ i _=>ts.length - i.toNat,⟨f4,g4,0,rfl,Nat.zero_le _,rfl,o4⟩, ?_⟩
  rintro np nl nc i g' ⟨fg,gg,j,rfl,hj,rfl,o⟩
  by_cases hlt:j<ts.length
  ·rw[if_pos (decide_eq_true (by omega))]
   have hg:=List.getElem?_eq_getElem hlt
   have e1:=congrArg List.length (take_flat hg)
   rw[List.length_append] at e1
   have t1:=tl (j+1)
   refine⟨⟨by omega,by omega⟩,onSome_some.2 ⟨_,_,_,at_ fg hg, ?_⟩⟩
   refine den_append tN uN o ((hr _ (List.getElem_mem hlt)).frame fg (fun _ _=>id)) (by rw[nflat_len,Nat.mul_one]) (nenc_one _) (by omega) (by omega) fun p6 c6 h6 o6 _ f6 g6=>⟨_,_,_,rfl, ?_⟩
   rw[←List.flatMap_append,←take_flat hg,←e1] at o6
   rw[←e1,wrap_id (by omega) (by omega)]
   have z:=fg.1
   exact⟨⟨fg.fresh f6 gg,(fun y hy=>(g6 y hy).elim (gg y) (fun h2=>by omega)),j+1,by omega,by omega,rfl,o6⟩,by show ts.length - Int.toNat ((j:Int)+1)<ts.length - Int.toNat (j:Int);omega⟩
  ·rw[if_neg (fun e=>by have:=of_decide_eq_true e;omega)]
   have ej:j=ts.length:=by omega
   subst ej
   rw[List.take_length] at o⊢
   exact hk g' np nc o fg gg
theorem BL.frame {Q:Nat→Prop} (H:BL h0 h p l c bs) (f:Fr Q h h') (hq: ∀y,h0.size≤y→ ¬Q y):BL h0 h' p l c bs:=by
 obtain⟨xs,D,h1,h2,h3,h4,h5,h6⟩:=H
 exact⟨xs,D,h1,h2.frame f (fun y hy=>hq y (h6 y hy)),h3,fun x hx=>(h4 x hx).frame f (fun y hy=>hq y (h5 y hy).1),fun y hy=>⟨(h5 y hy).1,Nat.lt_of_lt_of_le (h5 y hy).2.1 f.1,(h5 y hy).2.2⟩,h6⟩
theorem join_ok {g g4:Heap} {xs1 xs2 xs3 xs4:List BV} {D1 D2 D3 D4:Nat→Prop} {p5 p':Option Addr} {c5 c' n:Nat} {hd:List UInt8} {e1 e2 e3 e4:List (List UInt8)}
  (d1: ∀x∈xs1,x.ok g D1) (d2: ∀x∈xs2,x.ok g D2) (d3: ∀x∈xs3,x.ok g D3) (d4: ∀x∈xs4,x.ok g D4) (q1:xs1.map BV.b=e1) (q2:xs2.map BV.b=e2) (q3:xs3.map BV.b=e3) (q4:xs4.map BV.b=e4)
  (all: ∀y,D1 y∨D2 y∨D3 y∨D4 y→h.size≤y∧y<g.size) (F:Fr (fun _=>False) g h') (zg:g.size≤g4.size) (z4:g4.size≤h'.size) (zh:h.size≤g4.size)
  (o5:Own h' p5 hd.length c5 1 (bc hd)) (i5: ∀y,inBlk p5 y→h.size≤y∧y<g4.size) (hn:n=1+(xs1++(xs2++(xs3++xs4))).length)
  (o':Own h' p' n c' 1 ((⟨p5,c5,hd⟩::(xs1++(xs2++(xs3++xs4)))).flatMap nenc)) (lo: ∀y,inBlk p' y→g4.size≤y):BL h h' p' n c' (hd::(e1++(e2++(e3++e4)))):=by
 subst q1 q2 q3 q4
 refine⟨⟨p5,c5,hd⟩::(xs1++(xs2++(xs3++xs4))),fun y=>(D1 y∨D2 y∨D3 y∨D4 y)∨inBlk p5 y,by rw[List.length_cons];omega,o',by simp,fun x hx=> ?_,fun y hy=> ?_,fun y hy=> ?_⟩
 ·rcases List.mem_cons.1 hx with rfl|hx
  ·exact BV.of_own o5 (fun y hy=> .inr hy)
  rcases List.mem_append.1 hx with hx|hx
  ·exact((d1 x hx).frame F (fun _ _=>id)).mono fun y a=> .inl (.inl a)
  rcases List.mem_append.1 hx with hx|hx
  ·exact((d2 x hx).frame F (fun _ _=>id)).mono fun y a=> .inl (.inr (.inl a))
  rcases List.mem_append.1 hx with hx|hx
  ·exact((d3 x hx).frame F (fun _ _=>id)).mono fun y a=> .inl (.inr (.inr (.inl a)))
  ·exact((d4 x hx).frame F (fun _ _=>id)).mono fun y a=> .inl (.inr (.inr (.inr a)))
 ·rcases hy with hy|hy
  ·have:=all y hy
   exact⟨by omega,by omega,fun q=>by have:=lo y q;omega⟩
  ·have:=i5 y hy
   exact⟨by omega,by omega,fun q=>by have:=lo y q;omega⟩
 ·have:=lo y hy;omega
end Fld
end Go.Proofs.YtgccegnmggjkjaaGreatDoor
set_option maxRecDepth 100000
namespace Go.Proofs.YtgccegnmggjkjaaGreatDoor
open Go.Den Go.Fields
namespace Stt
open Eid (Ev rightE ev5 textE)
open Fld
variable {h h' : Heap} {R : Value → Heap → Prop} {s k : Nat} {X : Ft} {I : Ids} {σ : SS} {p : Option Addr}
theorem last_ok {e:Ev} {tm sq:Nat} (M:Mk h k e tm sq) (hk: ∀h',Fr (fun _=>False) h h'→R (.agg #[.bool e.ipn, .int .u64 e.node, .int .u64 e.svc, .string e.host, .string e.dem, .int .u64 (tm:Int), .int .u64 (sq:Int)]) h'):
  CallsH Tryz.prog F.ident_Maker_Last #[pt k] h R:=by
 refine ident_Maker_Last.walk (ident_Ident.box fun b h1 eb hb f1=> ?_)
 have M1:=f1.get M id
 refine JoinP.of fun J hJ=>⟨_,cell_at M1 rfl, ?_⟩
 subst hJ
 dsimp only
 rw[if_neg (by decide)]
 refine⟨_,cell_at M1 rfl,_,cell_at M1 rfl,_,cell_at M1 rfl,_,cell_at M1 rfl,_,cell_at M1 rfl,_,cell_at M1 rfl,_,cell_at M1 rfl,ident_Ident.set hb fun h2 a1 a2 a3=>ident_Ident.ld a1 (hk h2 (f1.fresh (Fr.of_eq (S:=fun y=>y=b) a2 a3) (fun y e=>by omega)))⟩
def recsS (σ:SS):List (List UInt8):=Ses.recs σ.A++(σ.G.map Regs.recR++(Cps.recsC σ.C++Obx.recsB σ.B))
def headS (σ:SS):List UInt8:=encText (textE σ.e)++encNum σ.now++encNum σ.rf++encNum σ.tm++encNum σ.sq++encNum (Ses.recs σ.A).length++encNum (σ.G.map Regs.recR).length++encNum (Cps.recsC σ.C).length++encNum (Obx.recsB σ.B).length
theorem head_ok {w b:Nat} {S:Nat→Prop} {t:List UInt8} {tl c:Nat} {e:Ev} {now rf tm sq:Nat} {K:Option Addr→Heap→Prop} (W:Wr h w S []) (r:Row h p (bc t)) (ht:tl=t.length) (hl:t.length≤100000000) (hn:now<18446744073709551616∧rf≤1000000000∧tm<18446744073709551616∧sq<18446744073709551616) (hp: ∀y,inBlk p y→t≠ []→ ¬S y) (B:Bk h s I now rf)
  (hb:ident_Ident.at h b e.ipn e.node e.svc e.host e.dem (tm:Int) (sq:Int)) (nb: ¬S b) (ns: ¬S s) (hk: ∀g S',Wr g w S' (encText t++encNum now++encNum rf++encNum tm++encNum sq)→Step S h S' g→K (some ⟨w,0,none⟩) g):
  Cl F.fields_Writer_Text #[.pointer (some ⟨w,0,none⟩), .slice p tl c] h fun v_14 h_28=>
   ∃t48,v_14= .pointer t48∧
   hcell h_28 ⟨b,6,none⟩=some (.int .u64 (sq:Int))∧
   hcell h_28 ⟨b,5,none⟩=some (.int .u64 (tm:Int))∧
   hcell h_28 ⟨s,7,none⟩=some (.int .i64 (rf:Int))∧
   hcell h_28 ⟨s,6,none⟩=some (.int .u64 (now:Int))∧
   Cl F.fields_Writer_Num #[.pointer t48, .int .u64 (now:Int)] h_28 fun v_15 h_29=>
   ∃t53,v_15= .pointer t53∧
   hcell h_29 ⟨b,6,none⟩=some (.int .u64 (sq:Int))∧
   hcell h_29 ⟨b,5,none⟩=some (.int .u64 (tm:Int))∧
   hcell h_29 ⟨s,7,none⟩=some (.int .i64 (rf:Int))∧
   Cl F.fields_Writer_Int #[.pointer t53, .int .i64 (rf:Int)] h_29 fun v_16 h_30=>
   ∃t58,v_16= .pointer t58∧
   hcell h_30 ⟨b,6,none⟩=some (.int .u64 (sq:Int))∧
   hcell h_30 ⟨b,5,none⟩=some (.int .u64 (tm:Int))∧
   Cl F.fields_Writer_Num #[.pointer t58, .int .u64 (tm:Int)] h_30 fun v_17 h_31=>
   ∃t61,v_17= .pointer t61∧
   hcell h_31 ⟨b,6,none⟩=some (.int .u64 (sq:Int))∧
   Cl F.fields_Writer_Num #[.pointer t61, .int .u64 (sq:Int)] h_31 fun v_18 h_32=>
   ∃t64,v_18= .pointer t64∧K t64 h_32:=by
 subst ht
 have cb: ∀ {g S'} (i:Nat) (v:Value),Step S h S' g→(#[Value.bool e.ipn, .int .u64 e.node, .int .u64 e.svc, .string e.host, .string e.dem, .int .u64 (tm:Int), .int .u64 (sq:Int)])[i]? =some v→hcell g ⟨b,i,none⟩=some v:=fun i v st hv=>st.fr.cell (cell_at hb hv) nb
 have cs: ∀ {g S'} (i:Nat) (v:Value),Step S h S' g→(#[pt I.t,pt I.r,pt I.c,pt I.o,pt I.p,pt I.k, .int .u64 (now:Int), .int .i64 (rf:Int)])[i]? =some v→hcell g ⟨s,i,none⟩=some v:=fun i v st hv=>st.fr.cell (cell_at B hv) ns
 have l0:(encText t).length≤200000000:=by unfold encText;rw[List.length_append];have:=encNum_len t.length;omega
 have ln:=encNum_len now
 have lr:=encNum_len rf
 have lt:=encNum_len tm
 refine text_ok' W (by simp) r rfl (by omega) hp fun g1 S1 W1 s1=>⟨_,rfl,cb _ _ s1 rfl,cb _ _ s1 rfl,cs _ _ s1 rfl,cs _ _ s1 rfl, ?_⟩
 rw[List.nil_append] at W1
 refine num_ok now W1 (by omega) rfl hn.1 fun g2 S2 W2 s2=>⟨_,rfl, ?_⟩
 have s2:=s1.trans s2
 refine⟨cb _ _ s2 rfl,cb _ _ s2 rfl,cs _ _ s2 rfl,int_ok W2 (by rw[List.length_append];omega) (by omega) fun g3 S3 W3 s3=>⟨_,rfl, ?_⟩⟩
 have s3:=s2.trans s3
 have W3:Wr g3 w S3 (encText t++encNum now++encNum rf):=W3
 refine⟨cb _ _ s3 rfl,cb _ _ s3 rfl,num_ok tm W3 (by simp only[List.length_append];omega) rfl hn.2.2.1 fun g4 S4 W4 s4=>⟨_,rfl, ?_⟩⟩
 have s4:=s3.trans s4
 refine⟨cb _ _ s4 rfl,num_ok sq W4 (by simp only[List.length_append];omega) rfl hn.2.2.2 fun g5 S5 W5 s5=>⟨_,rfl,hk g5 S5 W5 (s4.trans s5)⟩⟩
set_option maxHeartbeats 2000000 in
theorem save_ok (H:Pt h s X I σ) (G:Good σ k) (hk8:k≤30000) (tb:Num.Tab h) (hk: ∀h' p' l' c',BL h h' p' l' c' (headS σ::recsS σ)→Fr (fun _=>False) h h'→R (.slice p' l' c') h'):
  CallsH Tryz.prog F.state_State_Save #[pt s] h R:=by
 refine state_State_Save.walk (made_ok H.blk ⟨_,rfl, ?_⟩)
 rw[if_neg (by decide)]
 obtain⟨Y,hp,_⟩:=id H
 obtain⟨M,_⟩:=hp 5
 refine⟨_,cell_at H.blk rfl,last_ok M fun h2 f2=>⟨_,_,_,_,_,_,_,rfl,ident_Ident.new fun b h10 eb hb f10=>⟨_,cell_at hb rfl,_,cell_at hb rfl,_,cell_at hb rfl,_,cell_at hb rfl,_,cell_at hb rfl, ?_⟩⟩⟩
 have F10:=f2.tt f10
 refine Eid.text_ok σ.e (tb.on F10) G.e.2.2 fun h11 f11=>⟨_,_,rfl,JoinP.of fun J hJ=> ?_⟩
 rw[if_pos G.e.1] at hJ
 have F11:=F10.tt f11
 have hb11:=f11.get hb id
 have B: ∀ {g},Fr (fun _=>False) h11 g→Bk g s I σ.now σ.rf:=fun f=>f.get (F11.get H.blk id) id
 have O:=H.ord
 have sm:=G.small O (by omega)
 have gl:=G.c.L
 obtain⟨Lb,okb⟩:=H.okB
 have s0: ∀ {g:Heap} {K:Option Addr→Nat→Nat→Heap→Prop},Fr (fun _=>False) h11 g→(∀g' p l c,BL g g' p l c (Ses.recs σ.A)→Fr (fun _=>False) g g'→K p l c g')→Cl F.sessions_Table_Save #[pt I.t] g fun v g'=> ∃p l c,v= .slice p l c∧K p l c g':=fun f hK=>
  Ses.save_ok (Ses.Has.frame (hp 0) (F11.tt f) (fun _ _=>id)) G.a fun g' p l c L f'=>⟨p,l,c,rfl,hK g' p l c L f'⟩
 have s1: ∀ {g:Heap} {K:Option Addr→Nat→Nat→Heap→Prop},Fr (fun _=>False) h11 g→(∀g' p l c,BL g g' p l c (σ.G.map Regs.recR)→Fr (fun _=>False) g g'→K p l c g')→Cl F.regs_Table_Save #[pt I.r] g fun v g'=> ∃p l c,v= .slice p l c∧K p l c g':=fun f hK=>
  Regs.save_ok (Regs.Tb.on (hp 1) (F11.tt f)) (by have:=G.g.len;omega) G.g.all (tb.on (F11.tt f)) fun g' p l c L f'=>⟨p,l,c,rfl,hK g' p l c L f'⟩
 have s2: ∀ {g:Heap} {K:Option Addr→Nat→Nat→Heap→Prop},Fr (fun _=>False) h11 g→(∀g' p l c,BL g g' p l c (Cps.recsC σ.C)→Fr (fun _=>False) g g'→K p l c g')→Cl F.copies_Table_Save #[pt I.c] g fun v g'=> ∃p l c,v= .slice p l c∧K p l c g':=fun f hK=>
  Cps.save_ok (Cps.Ct.on (hp 2) (F11.tt f)) sm (by omega) G.c.all (tb.on (F11.tt f)) fun g' p l c L f'=>⟨p,l,c,rfl,hK g' p l c L f'⟩
 have s3: ∀ {g:Heap} {K:Option Addr→Nat→Nat→Heap→Prop},Fr (fun _=>False) h11 g→(∀g' p l c,BL g g' p l c (Obx.recsB σ.B)→Fr (fun _=>False) g g'→K p l c g')→Cl F.outbox_Box_Save #[pt I.o] g fun v g'=> ∃p l c,v= .slice p l c∧K p l c g':=fun f hK=>
  Obx.save_ok (Obx.Box.on (hp 3) (F11.tt f)) (by have:=G.b;omega) fun g' p l c L f'=>⟨p,l,c,rfl,hK g' p l c L f'⟩
 have fin: ∀ {g:Heap} {b4:Nat} {p1 p2 p3 p4:Option Addr} {l1 c1 l2 c2 l3 c3 l4 c4:Nat},a4_s_s_uint8.at g b4 p1 l1 c1 p2 l2 c2 p3 l3 c3 p4 l4 c4→BL h11 g p1 l1 c1 (Ses.recs σ.A)→BL h11 g p2 l2 c2 (σ.G.map Regs.recR)→BL h11 g p3 l3 c3 (Cps.recsC σ.C)→BL h11 g p4 l4 c4 (Obx.recsB σ.B)→Fr (fun _=>False) h11 g→J (some ⟨b4,0,none⟩) g:=by
  intro g b4 p1 p2 p3 p4 l1 c1 l2 c2 l3 c3 l4 c4 ha L1 L2 L3 L4 fg
  subst hJ
  dsimp only
  have hbg:=fg.get hb11 id
  have lb:=lt_of_get hbg
  have ls:=lt_of_get (B fg)
  refine JoinP.of fun J1 hJ1=> ?_
  have tl:(textE σ.e).length≤100000000:=Nat.le_trans (Eid.text_len G.e.1 G.e.2.2) (by omega)
  have W: ∀ {g2:Heap} {w:Nat} {S:Nat→Prop},Wr g2 w S (encText (textE σ.e)++encNum σ.now++encNum σ.rf++encNum σ.tm++encNum σ.sq)→Fr (fun _=>False) g g2→(∀y,S y→g.size≤y)→J1 (some ⟨w,0,none⟩) g2:=by
   intro g2 w S W2 fg2 gS
   subst hJ1
   dsimp only
   have hag:=fg2.get ha id
   obtain⟨q0,q1,q2,q3,_⟩:=a4_s_s_uint8.held hag
   rw[add_zero_addr] at q0
   refine onSome_some.2 ⟨_,_,_,q0,_,_,_,q1,_,_,_,q2,_,_,_,q3, ?_⟩
   obtain⟨xs1,D1,rfl,o1,e1,d1,b1,i1⟩:=L1
   obtain⟨xs2,D2,rfl,o2,e2,d2,b2,i2⟩:=L2
   obtain⟨xs3,D3,rfl,o3,e3,d3,b3,i3⟩:=L3
   obtain⟨xs4,D4,rfl,o4,e4,d4,b4',i4⟩:=L4
   have n1:=congrArg List.length e1
   have n2:=congrArg List.length e2
   have n3:=congrArg List.length e3
   have n4:=congrArg List.length e4
   rw[List.length_map] at n1 n2 n3 n4
   have m1:=Ses.recs_le G.a
   have m1':=G.a.le
   have m2:=G.g.len
   have m3:(Cps.recsC σ.C).length=σ.C.L.length+1:=by unfold Cps.recsC;simp
   have m4:(Obx.recsB σ.B).length=σ.B.items.length+1:=by unfold Obx.recsB;simp
   have m4':=okb.le
   rw[List.length_map] at n2
   let cs:List Nat:= [xs1.length,xs2.length,xs3.length,xs4.length]
   have hl0:(encText (textE σ.e)++encNum σ.now++encNum σ.rf++encNum σ.tm++encNum σ.sq).length≤1000000000:=by
    have:=encNum_len σ.now;have:=encNum_len σ.rf;have:=encNum_len σ.tm;have:=encNum_len σ.sq;have:=encNum_len (textE σ.e).length
    simp only[List.length_append,encText];omega
   generalize hh0:encText (textE σ.e)++encNum σ.now++encNum σ.rf++encNum σ.tm++encNum σ.sq=hd0 at W2 hl0
   have fl: ∀l:List Nat,(l.flatMap encNum).length≤10*l.length:=fun l=>by
    induction l with
    |nil=>exact Nat.le_refl _
    |cons n l ih=>rw[List.flatMap_cons,List.length_append,List.length_cons];have:=encNum_len n;omega
   refine⟨fun i g3=> ∃(j:Nat) (S':Nat→Prop),i=(j:Int)∧j≤4∧Wr g3 w S' (hd0++(cs.take j).flatMap encNum)∧Step S g2 S' g3,fun i _=>4 - i.toNat,⟨0,S,rfl,by omega,by simpa using W2,Step.refl _ _⟩, ?_⟩
   rintro _ g3 ⟨j,S',rfl,hj,W3,st3⟩
   have lj:(hd0++(cs.take j).flatMap encNum).length≤1000000100:=by
    have:=fl (cs.take j)
    rw[List.length_take] at this
    rw[List.length_append]
    have:min j cs.length≤4:=by omega
    omega
   have one: ∀(n:Nat),cs[j]? =some n→n≤40000→Cl F.fields_Writer_Int #[.pointer (some ⟨w,0,none⟩), .int .i64 (n:Int)] g3 fun v h15=> ∃t72,v= .pointer t72∧((∃(j':Nat) (S':Nat→Prop),IntKind.wrap .i64 ((j:Int)+1)=(j':Int)∧j'≤4∧Wr h15 w S' (hd0++(cs.take j').flatMap encNum)∧Step S g2 S' h15)∧4 - (IntKind.wrap .i64 ((j:Int)+1)).toNat<4 - Int.toNat (j:Int)):=by
    intro n hn hb
    have hj4:j<4:=(List.getElem?_eq_some_iff.1 hn).1
    refine int_ok W3 (by omega) (by omega) fun g4 S4 W4 st4=>⟨_,rfl, ?_⟩
    have W4:Wr g4 w S4 ((hd0++(cs.take j).flatMap encNum)++encNum n):=W4
    rw[wrap_id (by omega) (by omega)]
    refine⟨⟨j+1,S4,by omega,by omega, ?_,st3.trans st4⟩,by omega⟩
    rw[List.take_add_one,hn,List.flatMap_append,←List.append_assoc]
    simpa using W4
   by_cases hlt:j<4
   ·rw[if_pos (decide_eq_true (by omega))]
    refine⟨⟨by omega,by omega⟩,fun e=> ?_,fun e=> ?_,fun e=> ?_,fun e=> ?_,trivial⟩
    ·obtain rfl:j=0:=by omega
     exact one xs1.length rfl (by omega)
    ·obtain rfl:j=1:=by omega
     exact one xs2.length rfl (by omega)
    ·obtain rfl:j=2:=by omega
     exact one xs3.length rfl (by omega)
    ·obtain rfl:j=3:=by omega
     exact one xs4.length rfl (by omega)
   ·rw[if_neg (fun e=>hlt (by have:=of_decide_eq_true e;omega))]
    obtain rfl:j=4:=by omega
    clear one
    have eh:headS σ=hd0++(cs.take 4).flatMap encNum:=by
     unfold headS
     rw[hh0,←n1,List.length_map,←n2,←n3,←n4]
     simp[cs]
    rw[eh] at hk
    generalize hd0++(cs.take 4).flatMap encNum=hd at W3 hk lj
    refine onSome_some.2 (bytes_ok W3 (by omega) fun p5 c5 g4 o5 f5 i5=>⟨_,_,_,rfl, ?_⟩)
    have fg3:Fr (fun _=>False) g g3:=fg2.fresh st3.fr gS
    have fg4:=fg3.tt f5
    let ts:List RS:= [⟨p1,c1,xs1⟩,⟨p2,c2,xs2⟩,⟨p3,c3,xs3⟩,⟨p4,c4,xs4⟩]
    have et:ts.flatMap RS.xs=xs1++(xs2++(xs3++xs4)):=by simp[ts]
    have lt:(ts.flatMap RS.xs).length≤40000:=by rw[et];simp only[List.length_append];omega
    have con: ∀ {g':Heap} {K:Value→Heap→Prop},Fr (fun _=>False) g4 g'→(∀h' p' c',Own h' p' (ts.flatMap RS.xs).length c' 1 ((ts.flatMap RS.xs).flatMap nenc)→Fr (fun _=>False) g' h'→(∀y,inBlk p' y→g'.size≤y)→K (.slice p' (ts.flatMap RS.xs).length c') h')→Cl F.slices_Concat_s_s_byte_s_byte #[.slice (slBase (some ⟨b4,0,none⟩) 4 0 1) (4 - 0) (4 - 0)] g' K:=by
     intro g' K f hK
     rw[slBase_zero]
     have F:=fg4.tt f
     refine concatN_ok (ts:=ts) (.inr ⟨_,rfl,a4_s_s_uint8.held (F.get ha id)⟩) (fun t ht=> ?_) rfl (by show 4≤1000;omega) (by omega) hK
     rcases List.mem_cons.1 ht with rfl|ht
     ·exact o1.row'.frame F (fun _ _=>id)
     rcases List.mem_cons.1 ht with rfl|ht
     ·exact o2.row'.frame F (fun _ _=>id)
     rcases List.mem_cons.1 ht with rfl|ht
     ·exact o3.row'.frame F (fun _ _=>id)
     ·obtain rfl:=List.mem_singleton.1 ht
      exact o4.row'.frame F (fun _ _=>id)
    have done: ∀ {g':Heap} {b5 cc:Nat} {pc:Option Addr},Fr (fun _=>False) g4 g'→Own g' (some ⟨b5,0,none⟩) 1 1 1 [.slice p5 hd.length c5]→g4.size≤b5→Own g' pc (ts.flatMap RS.xs).length cc 1 ((ts.flatMap RS.xs).flatMap nenc)→
      denSem Tryz.prog (Builtin.append_ #[T.s_s_uint8,T.s_s_uint8] T.s_s_uint8 #[.slice (some ⟨b5,0,none⟩) 1 1, .slice pc (ts.flatMap RS.xs).length cc]) g' fun v h'=> ∃p l c,v= .slice p l c∧R (.slice p l c) h':=by
     intro g' b5 cc pc f ol lb5 oc
     refine den_append tN uN ol oc.row' (by rw[nflat_len,Nat.mul_one]) (nenc_one _) (by omega) (by omega) fun p' c' h' o' _ f' g''=>⟨_,_,_,rfl, ?_⟩
     have fF:=f.fresh f' (fun y ⟨a,e,e2⟩=>by cases e;rw[←e2];exact lb5)
     have F:=fg4.tt fF
     have lo: ∀y,inBlk p' y→g4.size≤y:=fun y hy=>(g'' y hy).elim (fun⟨a,e,e2⟩=>by cases e;rw[←e2];exact lb5) (fun q=>Nat.le_trans f.1 q)
     have z11:=F11.1
     have z3:=fg3.1
     have z4:=fg4.1
     have zF:=fF.1
     have zg:=fg.1
     rw[et] at o'⊢
     refine hk h' p' _ c' (join_ok (g4:=g4) d1 d2 d3 d4 e1 e2 e3 e4 (fun y hy=> ?_) F (by omega) (by omega) (by omega) (o5.frame fF (fun _ _=>id)) (fun y hy=>⟨by have:=i5 y hy;omega,o5.blk_lt hy⟩) rfl o' lo) ((F11.tt fg).tt F)
     rcases hy with hy|hy|hy|hy
     ·exact⟨Nat.le_trans z11 (b1 y hy).1,(b1 y hy).2.1⟩
     ·exact⟨Nat.le_trans z11 (b2 y hy).1,(b2 y hy).2.1⟩
     ·exact⟨Nat.le_trans z11 (b3 y hy).1,(b3 y hy).2.1⟩
     ·exact⟨Nat.le_trans z11 (b4' y hy).1,(b4' y hy).2.1⟩
    have lit: ∀(g':Heap),Own (g'.push (.cells #[.slice p5 hd.length c5] T.s_uint8)) (some ⟨g'.size,0,none⟩) 1 1 1 [.slice p5 hd.length c5]:=fun g'=> .row _ 0 _ _ rfl push_new (by omega) (by simp) rfl (fun j v hj=>by rw[Nat.zero_add];simpa using hj)
    refine⟨newP_of (con (Fr.push _ _) fun g6 p6 c6 o6 f6 i6=>⟨_,_,_,rfl,done ((Fr.push _ _).tt f6) ((lit g4).frame f6 (fun _ _=>id)) (Nat.le_refl _) o6⟩),con (Fr.refl _ _) fun g5 p6 c6 o6 f6 i6=>⟨_,_,_,rfl,newP_of (done (f6.tt (Fr.push _ _)) (lit g5) f6.1 (o6.frame (Fr.push (S:=fun _=>False) _ _) (fun _ _=>id)))⟩,trivial⟩
  have bS: ∀ {S:Nat→Prop},(∀y,S y→g.size≤y)→ ¬S b∧ ¬S s:=fun gS=>⟨fun e=>by have:=gS _ e;omega,fun e=>by have:=gS _ e;omega⟩
  have nn:σ.now<18446744073709551616∧σ.rf≤1000000000∧σ.tm<18446744073709551616∧σ.sq<18446744073709551616:=by
   have:=G.n;have:=G.t;have:=G.r;omega
  have tx:(str (textE σ.e)).data.toList=textE σ.e:=rfl
  refine⟨_,cell_at (B fg) rfl,_,cell_at (B fg) rfl,_,cell_at hbg rfl,_,cell_at hbg rfl, ?_, ?_,trivial⟩
  ·refine Fld.new_ok fun h26 w S W6 f26 g26=>⟨_,rfl, ?_⟩
   have F6:=fg.tt f26
   have hb6:=f26.get hbg id
   refine⟨cell_at hb6 rfl,cell_at hb6 rfl,cell_at (B F6) rfl,cell_at (B F6) rfl,s2b fun p7 c7 h27 r7 ic f27 g27=>⟨_,_,_,rfl, ?_⟩⟩
   have F7:=F6.tt f27
   have hb7:=f27.get hb6 id
   refine⟨cell_at hb7 rfl,cell_at hb7 rfl,cell_at (B F7) rfl,cell_at (B F7) rfl,head_ok (W6.frame f27 (fun _ _=>id)) r7 (by rw[tx];rfl) tl nn (fun y hy _ hs=>by have:=g27 y hy;have:=W6.lt y hs;omega) (B F7) hb7 (bS g26).1 (bS g26).2 fun g2 S2 W2 st2=>W W2 ((f26.tt f27).fresh st2.fr g26) (fun y hy=>(st2.new y hy).elim (g26 y) (fun q=>by have:=f26.1;have:=f27.1;omega))⟩
  ·refine s2b fun p7 c7 h26 r7 ic f26 g26=>⟨_,_,_,rfl, ?_⟩
   have F6:=fg.tt f26
   have hb6:=f26.get hbg id
   refine⟨cell_at hb6 rfl,cell_at hb6 rfl,cell_at (B F6) rfl,cell_at (B F6) rfl,Fld.new_ok fun h27 w S W7 f27 g27=>⟨_,rfl, ?_⟩⟩
   have F7:=F6.tt f27
   have hb7:=f27.get hb6 id
   have g27': ∀y,S y→g.size≤y:=fun y hy=>Nat.le_trans f26.1 (g27 y hy)
   refine⟨cell_at hb7 rfl,cell_at hb7 rfl,cell_at (B F7) rfl,cell_at (B F7) rfl,head_ok W7 (r7.frame f27 (fun _ _=>id)) (by rw[tx];rfl) tl nn (fun y hy hne hs=>by have:=row_lt r7 (by rw[tx];intro e;exact hne (by cases ht:textE σ.e with|nil=>rfl|cons=>rw[ht] at e;simp[bc] at e)) hy;have:=g27 y hs;omega) (B F7) hb7 (bS g27').1 (bS g27').2 fun g2 S2 W2 st2=>W W2 ((f26.tt f27).fresh st2.fr g27') (fun y hy=>(st2.new y hy).elim (g27' y) (fun q=>by have:=f26.1;have:=f27.1;omega))⟩
 refine⟨_,cell_at (B (Fr.refl _ _)) rfl,_,cell_at (B (Fr.refl _ _)) rfl,_,cell_at (B (Fr.refl _ _)) rfl,_,cell_at (B (Fr.refl _ _)) rfl, ?_, ?_,trivial⟩
 ·refine s0 (Fr.refl _ _) fun g1 p1 l1 c1 L1 f1=>⟨cell_at (B f1) rfl,cell_at (B f1) rfl,cell_at (B f1) rfl, ?_, ?_,trivial⟩
  ·refine s1 f1 fun g2 p2 l2 c2 L2 f2=>⟨cell_at (B (f1.tt f2)) rfl,cell_at (B (f1.tt f2)) rfl, ?_, ?_,trivial⟩
   ·have F2:=f1.tt f2
    refine s2 F2 fun g3 p3 l3 c3 L3 f3=>⟨cell_at (B (F2.tt f3)) rfl, ?_, ?_,trivial⟩
    ·have F3:=F2.tt f3
     refine s3 F3 fun g4 p4 l4 c4 L4 f4=>a4_s_s_uint8.new fun b4 g5 eb hb5 f5=> ?_
     exact fin hb5 (L1.on (f2.tt (f3.tt (f4.tt f5)))) ((L2.mono f1.1).on (f3.tt (f4.tt f5))) ((L3.mono F2.1).on (f4.tt f5)) ((L4.mono F3.1).on f5) (F3.tt (f4.tt f5))
    ·have F3:=F2.tt f3
     refine a4_s_s_uint8.box fun b4 g4 eb hb4 f4=>⟨cell_at (B (F3.tt f4)) rfl, ?_⟩
     have F4:=F3.tt f4
     refine s3 F4 fun g5 p4 l4 c4 L4 f5=>a4_s_s_uint8.set (f5.get hb4 id) fun g6 hb6 z6 o6=> ?_
     have f6:Fr (fun y=>y=b4) g5 g6:=Fr.of_eq z6 o6
     have T3:Fr (fun _=>False) g3 g6:=(f4.tt f5).fresh f6 (fun y e=>by omega)
     exact fin hb6 (L1.on (f2.tt (f3.tt T3))) ((L2.mono f1.1).on (f3.tt T3)) ((L3.mono F2.1).on T3) ((L4.frame f6 (fun y hy e=>by have:=lt_of_get hb4;omega)).mono F4.1) (F3.tt T3)
   ·have F2:=f1.tt f2
    refine a4_s_s_uint8.box fun b4 g3 eb hb3 f3=>⟨cell_at (B (F2.tt f3)) rfl,cell_at (B (F2.tt f3)) rfl, ?_⟩
    have F3:=F2.tt f3
    have lb:=lt_of_get hb3
    refine s2 F3 fun g4 p3 l3 c3 L3 f4=>⟨cell_at (B (F3.tt f4)) rfl,s3 (F3.tt f4) fun g5 p4 l4 c4 L4 f5=>a4_s_s_uint8.set ((f4.tt f5).get hb3 id) fun g6 hb6 z6 o6=> ?_⟩
    have F4:=F3.tt f4
    have f6:Fr (fun y=>y=b4) g5 g6:=Fr.of_eq z6 o6
    have z4:=f4.1
    have T2:Fr (fun _=>False) g2 g6:=(f3.tt (f4.tt f5)).fresh f6 (fun y e=>by omega)
    exact fin hb6 (L1.on (f2.tt T2)) ((L2.mono f1.1).on T2) (((L3.on f5).frame f6 (fun y hy e=>by omega)).mono F3.1) ((L4.frame f6 (fun y hy e=>by omega)).mono F4.1) (F2.tt T2)
  ·refine a4_s_s_uint8.box fun b4 g2 eb hb2 f2=>⟨cell_at (B (f1.tt f2)) rfl,cell_at (B (f1.tt f2)) rfl,cell_at (B (f1.tt f2)) rfl, ?_⟩
   have F2:=f1.tt f2
   have lb:=lt_of_get hb2
   refine s1 F2 fun g3 p2 l2 c2 L2 f3=>⟨cell_at (B (F2.tt f3)) rfl,cell_at (B (F2.tt f3)) rfl,s2 (F2.tt f3) fun g4 p3 l3 c3 L3 f4=>⟨cell_at (B (F2.tt (f3.tt f4))) rfl,s3 (F2.tt (f3.tt f4)) fun g5 p4 l4 c4 L4 f5=>a4_s_s_uint8.set ((f3.tt (f4.tt f5)).get hb2 id) fun g6 hb6 z6 o6=> ?_⟩⟩
   have F3:=F2.tt f3
   have F4:=F3.tt f4
   have f6:Fr (fun y=>y=b4) g5 g6:=Fr.of_eq z6 o6
   have z3:=f3.1
   have z4:=f4.1
   have T1:Fr (fun _=>False) g1 g6:=(f2.tt (f3.tt (f4.tt f5))).fresh f6 (fun y e=>by omega)
   exact fin hb6 (L1.on T1) (((L2.on (f4.tt f5)).frame f6 (fun y hy e=>by omega)).mono F2.1) (((L3.on f5).frame f6 (fun y hy e=>by omega)).mono F3.1) ((L4.frame f6 (fun y hy e=>by omega)).mono F4.1) (f1.tt T1)
 ·refine a4_s_s_uint8.box fun b4 g1 eb hb1 f1=>⟨cell_at (B f1) rfl,cell_at (B f1) rfl,cell_at (B f1) rfl,cell_at (B f1) rfl, ?_⟩
  have lb:=lt_of_get hb1
  refine s0 f1 fun g2 p1 l1 c1 L1 f2=>⟨cell_at (B (f1.tt f2)) rfl,cell_at (B (f1.tt f2)) rfl,cell_at (B (f1.tt f2)) rfl,s1 (f1.tt f2) fun g3 p2 l2 c2 L2 f3=>⟨cell_at (B (f1.tt (f2.tt f3))) rfl,cell_at (B (f1.tt (f2.tt f3))) rfl,s2 (f1.tt (f2.tt f3)) fun g4 p3 l3 c3 L3 f4=>⟨cell_at (B (f1.tt (f2.tt (f3.tt f4)))) rfl,s3 (f1.tt (f2.tt (f3.tt f4))) fun g5 p4 l4 c4 L4 f5=>a4_s_s_uint8.set ((f2.tt (f3.tt (f4.tt f5))).get hb1 id) fun g6 hb6 z6 o6=> ?_⟩⟩⟩
  have F2:=f1.tt f2
  have F3:=F2.tt f3
  have F4:=F3.tt f4
  have f6:Fr (fun y=>y=b4) g5 g6:=Fr.of_eq z6 o6
  have z2:=f2.1
  have z3:=f3.1
  have z4:=f4.1
  exact fin hb6 (((L1.on (f3.tt (f4.tt f5))).frame f6 (fun y hy e=>by omega)).mono f1.1) (((L2.on (f4.tt f5)).frame f6 (fun y hy e=>by omega)).mono F2.1) (((L3.on f5).frame f6 (fun y hy e=>by omega)).mono F3.1) ((L4.frame f6 (fun y hy e=>by omega)).mono F4.1) ((f1.tt (f2.tt (f3.tt (f4.tt f5)))).fresh f6 (fun y e=>by omega))
end Stt
end Go.Proofs.YtgccegnmggjkjaaGreatDoor
set_option maxRecDepth 100000
set_option maxHeartbeats 4000000
namespace Go.Proofs.YtgccegnmggjkjaaGreatDoor
open Go.Den
variable {h : Heap} {R : Value → Heap → Prop}
theorem law26_Self.walk  (hv :
 NewP h (.cells #[.bool false, .int .u64 0, .int .u64 0, .string (⟨#[]⟩ : ByteArray), .string (⟨#[]⟩ : ByteArray)] T.eid_Eid) fun b h_1 =>
 eid_Eid.ST h_1 ⟨b, 0, none⟩ true 7 0 (⟨#[]⟩ : ByteArray) (⟨#[]⟩ : ByteArray) fun h_2 =>
 eid_Eid.LD h_2 ⟨b, 0, none⟩ fun r_0 r_1 r_2 r_3 r_4 =>
 R (.agg #[.bool r_0, .int .u64 r_1, .int .u64 r_2, .string r_3, .string r_4]) h_2) : CallsH Tryz.prog F.law26_Self #[] h R :=
 callsH_of_body (.seq .leaf (.seq .leaf .leaf)) Tryz.func51 rfl rfl (Eq.mp (by kernel_rfl) hv)
theorem law26_home.walk  (hv :
 NewP h (.cells #[.bool false, .int .u64 0, .int .u64 0, .string (⟨#[]⟩ : ByteArray), .string (⟨#[]⟩ : ByteArray)] T.eid_Eid) fun b h_1 =>
 eid_Eid.ST h_1 ⟨b, 0, none⟩ true 7 1 (⟨#[]⟩ : ByteArray) (⟨#[]⟩ : ByteArray) fun h_2 =>
 eid_Eid.LD h_2 ⟨b, 0, none⟩ fun r_0 r_1 r_2 r_3 r_4 =>
 R (.agg #[.bool r_0, .int .u64 r_1, .int .u64 r_2, .string r_3, .string r_4]) h_2) : CallsH Tryz.prog F.law26_home #[] h R :=
 callsH_of_body (.seq .leaf (.seq .leaf .leaf)) Tryz.func115 rfl rfl (Eq.mp (by kernel_rfl) hv)
theorem law26_alive.walk  (hv :
 Cl F.law26_Self #[] h fun v h_1 =>
 ∃ t13_0 t13_1 t13_2 t13_3 t13_4, v = .agg #[.bool t13_0, .int .u64 t13_1, .int .u64 t13_2, .string t13_3, .string t13_4] ∧
 Cl F.state_New #[.agg #[.bool t13_0, .int .u64 t13_1, .int .u64 t13_2, .string t13_3, .string t13_4]] h_1 fun v_1 h_2 =>
 ∃ t14_0 t14_1, v_1 = .tuple #[.pointer t14_0, .int .i64 t14_1] ∧
 Cl F.state_New #[.agg #[.bool false, .int .u64 0, .int .u64 0, .string (⟨#[]⟩ : ByteArray), .string (⟨#[]⟩ : ByteArray)]] h_2 fun v_2 h_3 =>
 ∃ t19_0 t19_1, v_2 = .tuple #[.pointer t19_0, .int .i64 t19_1] ∧
 JoinP (fun (t41 : Bool) (h_4 : Heap) =>
 if t41 = true then
 R (.bool false) h_4
 else
 NewP h_4 (.cells #[.int .u8 97, .int .u8 98, .int .u8 99] T.uint8) fun b h_5 =>
 denSem Tryz.prog (convert T.s_uint8 T.s_uint8 (.slice (some ⟨b, 0, none⟩) 3 3)) h_5 fun v_3 h_6 =>
 ∃ t45_p t45_l t45_c, v_3 = .slice t45_p t45_l t45_c ∧
 Cl F.state_State_Put #[.pointer t14_0, .int .i64 3, .slice t45_p t45_l t45_c, .int .u64 50] h_6 fun v_4 h_7 =>
 ∃ t46_0 t46_1, v_4 = .tuple #[.int .i64 t46_0, .int .i64 t46_1] ∧
 onSome t14_0 fun a =>
 ∃ t52, hcell h_7 (a.add 4) = some (.pointer t52) ∧
 Cl F.quota_Purse_Used #[.pointer t52, .int .i64 3] h_7 fun v_5 h_8 =>
 ∃ t53, v_5 = .int .i64 t53 ∧
 Cl F.state_State_Pass #[.pointer t14_0, .int .u64 9] h_8 fun v_6 h_9 =>
 ∃ t55, v_6 = .int .i64 t55 ∧
 Cl F.state_State_Pass #[.pointer t14_0, .int .u64 8] h_9 fun v_7 h_10 =>
 ∃ t57, v_7 = .int .i64 t57 ∧
 Cl F.state_State_Take #[.pointer t14_0] h_10 fun v_8 h_11 =>
 ∃ t60_0_0 t60_0_1 t60_0_2_p t60_0_2_l t60_0_2_c t60_0_3 t60_1, v_8 = .tuple #[.agg #[.int .i64 t60_0_0, .int .i64 t60_0_1, .slice t60_0_2_p t60_0_2_l t60_0_2_c, .int .u64 t60_0_3], .int .i64 t60_1] ∧
 NewP h_11 (.cells #[.int .i64 0, .int .i64 0, .slice none 0 0, .int .u64 0] T.outbox_Item) fun b_1 h_12 =>
 outbox_Item.ST h_12 ⟨b_1, 0, none⟩ t60_0_0 t60_0_1 t60_0_2_p t60_0_2_l t60_0_2_c t60_0_3 fun h_13 =>
 if (t19_1 == 3) = true then
 if (t46_0 == 1) = true then
 if (t46_1 == 0) = true then
 if (t53 == 3) = true then
 if (t55 == 0) = true then
 if (t57 == 18) = true then
 ∃ t87_p t87_l t87_c, hcell h_13 ⟨b_1, 2, none⟩ = some (.slice t87_p t87_l t87_c) ∧
 ∃ (t88 : ByteArray), ConvV Tryz.prog T.s_uint8 T.string (.slice t87_p t87_l t87_c) h_13 t88 ∧
 if (t88.toList == (⟨#[97, 98, 99]⟩ : ByteArray).toList) = true then
 if (t60_1 == 0) = true then
 onSome t14_0 fun a_1 =>
 ∃ t99, hcell h_13 (a_1.add 4) = some (.pointer t99) ∧
 Cl F.quota_Purse_All #[.pointer t99] h_13 fun v_9 h_14 =>
 ∃ t100, v_9 = .int .i64 t100 ∧
 if (t100 == 0) = true then
 onSome t14_0 fun a_2 =>
 ∃ t107, hcell h_14 (a_2.add 6) = some (.int .u64 t107) ∧
 if (t107 == 9) = true then
 Cl F.state_State_Save #[.pointer t14_0] h_14 fun v_10 h_15 =>
 ∃ t112_p t112_l t112_c, v_10 = .slice t112_p t112_l t112_c ∧
 R (.bool (((t112_l : Nat) : Int) == 3)) h_15
 else
 R (.bool false) h_14
 else
 R (.bool false) h_14
 else
 R (.bool false) h_13
 else
 R (.bool false) h_13
 else
 R (.bool false) h_13
 else
 R (.bool false) h_13
 else
 R (.bool false) h_13
 else
 R (.bool false) h_13
 else
 R (.bool false) h_13
 else
 R (.bool false) h_13)
 (fun J =>
 if (t14_1 != 0) = true then
 J true h_3
 else
 if t14_0.isNone = true then
 J true h_3
 else
 onSome t14_0 fun a_3 =>
 ∃ t32, hcell h_3 (a_3.add 3) = some (.pointer t32) ∧
 if t32.isNone = true then
 J true h_3
 else
 onSome t14_0 fun a_4 =>
 ∃ t39, hcell h_3 (a_4.add 4) = some (.pointer t39) ∧
 J t39.isNone h_3)) : CallsH Tryz.prog F.law26_alive #[] h R :=
 callsH_of_body (.seq .leaf (.seq .leaf (.seq .leaf (.seq (.seq (.join [(41, .one (.bool))] .leaf) (.cond (.seq .leaf .leaf) .leaf)) (.seq .leaf (.seq .leaf (.seq .leaf (.seq .leaf (.seq .leaf (.seq .leaf .leaf)))))))))) Tryz.func39 rfl rfl (Eq.mp (by kernel_rfl) hv)
theorem law26_whole.walk {s : Nat} (hv :
 ∃ t9, hcell h ⟨s, 0, none⟩ = some (.pointer t9) ∧
 if (!t9.isNone) = true then
 ∃ t16, hcell h ⟨s, 1, none⟩ = some (.pointer t16) ∧
 if (!t16.isNone) = true then
 ∃ t23, hcell h ⟨s, 2, none⟩ = some (.pointer t23) ∧
 if (!t23.isNone) = true then
 ∃ t30, hcell h ⟨s, 3, none⟩ = some (.pointer t30) ∧
 if (!t30.isNone) = true then
 ∃ t37, hcell h ⟨s, 4, none⟩ = some (.pointer t37) ∧
 if (!t37.isNone) = true then
 ∃ t44, hcell h ⟨s, 5, none⟩ = some (.pointer t44) ∧
 R (.bool (!t44.isNone)) h
 else
 R (.bool false) h
 else
 R (.bool false) h
 else
 R (.bool false) h
 else
 R (.bool false) h
 else
 R (.bool false) h) : CallsH Tryz.prog F.law26_whole #[.pointer (some ⟨s, 0, none⟩)] h R :=
 callsH_of_body (.seq .leaf (.seq .leaf .leaf)) Tryz.func42 rfl rfl (Eq.mp (by kernel_rfl) hv)
end Go.Proofs.YtgccegnmggjkjaaGreatDoor
set_option maxRecDepth 100000
namespace Go.Proofs.YtgccegnmggjkjaaGreatDoor
open Go.Den Go.Fields
namespace Stt
open Obx (It IV ienc ienc_len)
open Eid (Ev rightE ev5)
open Fld
variable {h h' : Heap} {R : Value → Heap → Prop} {s k : Nat} {X : Ft} {I : Ids} {σ : SS} {p : Option Addr}
abbrev e70:Ev:=⟨true,7,0,⟨#[]⟩,⟨#[]⟩⟩
abbrev e71:Ev:=⟨true,7,1,⟨#[]⟩,⟨#[]⟩⟩
theorem self_ok (hk: ∀h',Fr (fun _=>False) h h'→R (ev5 e70) h'):CallsH Tryz.prog F.law26_Self #[] h R:=
 law26_Self.walk (eid_Eid.new fun _ h1 _ hb f1=>eid_Eid.ld hb (hk h1 f1))
theorem home_ok (hk: ∀h',Fr (fun _=>False) h h'→R (ev5 e71) h'):CallsH Tryz.prog F.law26_home #[] h R:=
 law26_home.walk (eid_Eid.new fun _ h1 _ hb f1=>eid_Eid.ld hb (hk h1 f1))
theorem may70:mayE e70:=⟨by kernel_rfl,fun e=>by cases congrArg Ev.ipn e⟩
theorem whole_ok {n r:Nat} (B:Bk h s I n r) (hk:R (.bool true) h):CallsH Tryz.prog F.law26_whole #[pt s] h R:=by
 refine law26_whole.walk ?_
 repeat (first|exact hk|refine⟨_,cell_at B rfl, ?_⟩|rw[if_pos rfl])
structure OP where
 kind:Int
 num:Int
 owner:Int
 p:Option Addr
 c:Nat
 b:List UInt8
 til:Nat
abbrev oenc (f:OP):List Value:= [.int .i64 f.kind, .int .i64 f.num, .int .i64 f.owner, .slice f.p f.b.length f.c, .int .u64 (f.til:Int)]
theorem oenc_len (f:OP):(oenc f).length=5:=rfl
theorem op_tl:tleaves Tryz.prog 5 T.law26_Op=some [T.int,T.int,T.int,T.s_uint8,T.uint64]:=by kernel_rfl
theorem op_dec (n:Nat) (cs:List Value) (hl:cs.length=5) (hr:Rok Tryz.prog h n T.law26_Op cs): ∃f:OP,cs=oenc f∧Row h f.p (bc f.b)∧f.til<18446744073709551616:=by
 have L:=tleaves_ok 5 n _ _ cs op_tl (by rw[hl];rfl) hr
 match cs,hl with
 | [a,b,c,d,e],_=>
  obtain⟨k0,rfl,_⟩:=L.int 0 rfl rfl (k:= .i64) (by kernel_rfl)
  obtain⟨k1,rfl,_⟩:=L.int 1 rfl rfl (k:= .i64) (by kernel_rfl)
  obtain⟨k2,rfl,_⟩:=L.int 2 rfl rfl (k:= .i64) (by kernel_rfl)
  obtain⟨m,hm⟩:=L.get 3 rfl rfl
  obtain⟨p,q,bs,rfl,hrow⟩:=Rok.bytes (by kernel_rfl) u8 uU hm
  obtain⟨x,rfl,w1⟩:=L.int 4 rfl rfl (k:= .u64) (by kernel_rfl)
  have w1:=wf_u64 w1
  obtain⟨x,rfl⟩:=Int.eq_ofNat_of_zero_le w1.1
  exact⟨⟨k0,k1,k2,p,q,bs,x⟩,rfl,hrow,by show x<_;omega⟩
theorem ops_read {l c:Nat} (hv:RokV Tryz.prog h T.s_law26_Op (.slice p l c)): ∃fs:List OP,fs.length=l∧Row h p (fs.flatMap oenc)∧ ∀f∈fs,Row h f.p (bc f.b)∧f.til<18446744073709551616:=by
 obtain⟨xs,h1,_,_,h2,h3⟩:=RokV.slice (e:=T.law26_Op) oenc 5 (fun f=>Row h f.p (bc f.b)∧f.til<18446744073709551616) (by kernel_rfl) (fun _=>rfl) (fun n cs hl hr=>op_dec n cs hl hr) (by kernel_rfl) hv
 exact⟨xs,h1,h2,h3⟩
def doS (f:OP) (σ:SS):SS:=
 if f.kind=0 then passA σ f.til else if f.kind=1 then putS σ f.owner f.b f.til else if f.kind=2 then cancA σ f.num f.owner else if f.kind=3 then takeA σ
 else if f.kind=4 then { σ with A:=Ses.openA σ.A f.til } else if f.kind=5 then { σ with C:=Cps.addF σ.C e71 f.b f.til } else σ
theorem Good.do (G:Good σ k) (H:Pt h s X I σ) (hk:k≤30000) (f:OP):Good (doS f σ) (k+1):=by
 obtain⟨L,okb⟩:=H.okB
 have O:=H.ord
 unfold doS
 split
 ·exact G.pass O L okb hk _
 split
 ·exact G.put _ _ _
 split
 ·exact G.canc _ _
 split
 ·exact G.take
 split
 ·exact G.openA _
 split
 ·exact G.addC O hk _ (by decide) _ _
 ·exact G.more
abbrev a1:SS:=putS (newS e70) 3 [97,98,99] 50
abbrev a2:SS:=passA a1 9
theorem alive_ok (tb:Num.Tab h) (hk: ∀h',Fr (fun _=>False) h h'→R (.bool true) h'):CallsH Tryz.prog F.law26_alive #[] h R:=by
 refine law26_alive.walk (self_ok fun h1 f1=>⟨_,_,_,_,_,rfl,new_ok e70 (fun _ h2 s X I H2 u2=>⟨_,_,rfl,new_ok Ev.zero (fun m=>absurd rfl m.2) fun _ h3 f3=>⟨_,_,rfl,JoinP.of fun J hJ=> ?_⟩⟩) (fun n=>absurd may70 n)⟩)
 have H3:=H2.on f3
 have u3:=u2.on f3
 rw[if_neg (by decide),if_neg (by simp)]
 refine onSome_some.2 ⟨_,cell_at H3.blk rfl, ?_⟩
 rw[if_neg (by simp)]
 refine onSome_some.2 ⟨_,cell_at H3.blk rfl, ?_⟩
 subst hJ
 dsimp only
 rw[if_neg (by simp)]
 refine lit_ok (bs:= [97,98,99]) rfl fun h4 r4 f4=> ?_
 have G0:Good (newS e70) 0:=Good.new may70.1 may70.2 (by decide)
 refine put_ok 50 rfl (H3.on f4) G0 (by decide) r4 rfl (by decide) fun h5 X5 H5 s5=>⟨_,_,rfl,onSome_some.2 ⟨_,cell_at H5.blk rfl, ?_⟩⟩
 have u5:=(u3.on f4).step s5
 obtain⟨Z4,⟨m4,P4,_⟩,_⟩:=H5.use 4
 refine Quota.used_ok P4 3 ⟨_,rfl, ?_⟩
 have G1:Good a1 1:=G0.put _ _ _
 refine pass_ok 9 rfl H5 G1 (by decide) fun h6 X6 H6 s6=>⟨_,rfl, ?_⟩
 obtain⟨L5,okb5⟩:=H5.okB
 have G2:Good a2 2:=G1.pass H5.ord L5 okb5 (by decide) _
 refine pass_ok 8 rfl H6 G2 (by decide) fun h7 X7 H7 s7=>⟨_,rfl, ?_⟩
 have e8:passA a2 8=a2:=if_neg (fun e=>absurd (show passE a2 8=18 by kernel_rfl) (by rw[e];decide))
 rw[e8] at H7
 have it:a2.B.items= [⟨1,3, [97,98,99],50⟩]:=by kernel_rfl
 refine take_ok H7 G2 (by decide) (fun e=>by rw[it] at e;cases e) fun x r hit h8 X8 v hva H8 s8 hd=>⟨_,_,_,_,_,_,_,rfl,outbox_Item.new fun b h9 eb hb f9=> ?_⟩
 rw[it] at hit
 obtain⟨rfl,rfl⟩:=List.cons.inj hit
 rw[if_pos (by kernel_rfl),if_pos (by kernel_rfl),if_pos (by kernel_rfl),if_pos (by kernel_rfl),if_pos (by kernel_rfl),if_pos (by kernel_rfl)]
 have vb:v.v.b= [97,98,99]:=by rw[show v.v.b=v.abs.d from rfl,hva]
 have hd9:=hd.frame f9 (fun _ _=>id)
 refine⟨_,_,_,cell_at hb rfl,_,conv hd9.row rfl, ?_⟩
 rw[str_list,vb,if_pos (by rw[toList_data];decide),if_pos (by decide)]
 have H9:=H8.on f9
 have et:takeA a2= { a2 with B:= { a2.B with items:= [],taken:=a2.B.taken+1 },Q:= [] } :=by unfold takeA;rw[it]
 rw[et] at H9
 obtain⟨Z5,⟨m5,P5,_⟩,_⟩:=H9.use 4
 refine onSome_some.2 ⟨_,cell_at H9.blk rfl,Quota.all_ok P5 ⟨_,rfl, ?_⟩⟩
 rw[if_pos (by kernel_rfl)]
 refine onSome_some.2 ⟨_,cell_at H9.blk rfl, ?_⟩
 rw[if_pos (by kernel_rfl)]
 have u9:=((((u5.step s6).step s7).step s8).on f9).fr
 have F9:=f1.tt u9
 have G3:Good (takeA a2) 3:=G2.take
 rw[et] at G3
 refine save_ok H9 G3 (by decide) (tb.on F9) fun h10 p10 l10 c10 L10 f10=>⟨_,_,_,rfl, ?_⟩
 have ln:=L10.len
 have l3:l10=3:=by rw[ln];kernel_rfl
 rw[l3]
 exact hk h10 (F9.tt f10)
end Stt
end Go.Proofs.YtgccegnmggjkjaaGreatDoor
set_option maxRecDepth 100000
set_option maxHeartbeats 4000000
namespace Go.Proofs.YtgccegnmggjkjaaGreatDoor
open Go.Den
variable {h : Heap} {R : Value → Heap → Prop}
theorem ref21_Table_There.walk {t : Nat} (hv :
 ∃ (I : Option Addr → Nat → Nat → Int → Heap → Prop) (mu : Option Addr → Nat → Nat → Int → Heap → Nat), I none 0 0 0 h ∧ ∀ (out_p : Option Addr) (out_l out_c : Nat) (i : Int) (h_1 : Heap), I out_p out_l out_c i h_1 →
 ∃ t9_p t9_l t9_c, hcell h_1 ⟨t, 0, none⟩ = some (.slice t9_p t9_l t9_c) ∧
 if (decide (i < ((t9_l : Nat) : Int))) = true then
 JoinP (fun (out_p_1 : Option Addr) (out_l_1 out_c_1 : Nat) (h_2 : Heap) =>
 (I out_p_1 out_l_1 out_c_1 (IntKind.wrap .i64 (i + 1)) h_2 ∧ mu out_p_1 out_l_1 out_c_1 (IntKind.wrap .i64 (i + 1)) h_2 < mu out_p out_l out_c i h_1))
 (fun J =>
 ∃ t17_p t17_l t17_c, hcell h_1 ⟨t, 0, none⟩ = some (.slice t17_p t17_l t17_c) ∧
 ((0 : Int) ≤ i ∧ i < ((t17_l : Nat) : Int)) ∧
 onSome t17_p fun a =>
 ∃ t21, hcell h_1 ((a.add (Int.toNat i * 11)).add 10) = some (.int .i64 t21) ∧
 JoinP (fun (out_p_2 : Option Addr) (out_l_2 out_c_2 : Nat) (h_3 : Heap) =>
 J out_p_2 out_l_2 out_c_2 h_3)
 (fun J_1 =>
 if (t21 == 0) = true then
 ∃ t27_p t27_l t27_c, hcell h_1 ⟨t, 0, none⟩ = some (.slice t27_p t27_l t27_c) ∧
 ((0 : Int) ≤ i ∧ i < ((t27_l : Nat) : Int)) ∧
 onSome t27_p fun a_1 =>
 ref21_Copy.LD h_1 (a_1.add (Int.toNat i * 11)) fun t30_0 t30_1 t30_2 t30_3 t30_4 t30_5 t30_6_p t30_6_l t30_6_c t30_7 t30_8 t30_9 t30_10 =>
 NewP h_1 (.cells #[.int .i64 t30_0, .bool t30_1, .int .u64 t30_2, .int .u64 t30_3, .string t30_4, .string t30_5, .slice t30_6_p t30_6_l t30_6_c, .int .u64 t30_7, .int .i64 t30_8, .int .u64 t30_9, .int .i64 t30_10] T.ref21_Copy) fun b h_4 =>
 denSem Tryz.prog (Builtin.append_ #[T.s_ref21_Copy, T.s_ref21_Copy] T.s_ref21_Copy #[.slice out_p out_l out_c, .slice (some ⟨b, 0, none⟩) 1 1]) h_4 fun v h_5 =>
 ∃ t32_p t32_l t32_c, v = .slice t32_p t32_l t32_c ∧
 J_1 t32_p t32_l t32_c h_5
 else
 J_1 out_p out_l out_c h_1))
 else
 R (.slice out_p out_l out_c) h_1) : CallsH Tryz.prog F.ref21_Table_There #[.pointer (some ⟨t, 0, none⟩)] h R :=
 callsH_of_body (.seq .leaf (.seq .leaf (.seq (.seq .leaf (.block (.loop [(3, .one (.slice)), (4, .one (.int .i64))] (.seq (.seq .leaf (.cond .leaf .leaf)) (.seq (.join [(3, .one (.slice))] (.block (.seq .leaf (.join [(3, .one (.slice))] (.cond .leaf .leaf))))) .leaf))))) (.seq .leaf .leaf)))) Tryz.func65 rfl rfl (Eq.mp (by kernel_rfl) hv)
theorem ref21_Table_is.walk {t : Nat} {i : Int} {x_0 : Bool} {x_1 : Int} {x_2 : Int} {x_3 : ByteArray} {x_4 : ByteArray} (hv :
 NewP h (.cells #[.bool x_0, .int .u64 x_1, .int .u64 x_2, .string x_3, .string x_4] T.ref04_Eid) fun b h_1 =>
 ∃ t10_p t10_l t10_c, hcell h_1 ⟨t, 0, none⟩ = some (.slice t10_p t10_l t10_c) ∧
 ((0 : Int) ≤ i ∧ i < ((t10_l : Nat) : Int)) ∧
 onSome t10_p fun a =>
 ∃ t14, hcell h_1 ((a.add (Int.toNat i * 11)).add 10) = some (.int .i64 t14) ∧
 if (t14 == 0) = true then
 ∃ t20_p t20_l t20_c, hcell h_1 ⟨t, 0, none⟩ = some (.slice t20_p t20_l t20_c) ∧
 ((0 : Int) ≤ i ∧ i < ((t20_l : Nat) : Int)) ∧
 onSome t20_p fun a_1 =>
 ref04_Eid.LD h_1 ((a_1.add (Int.toNat i * 11)).add 1) fun t24_0 t24_1 t24_2 t24_3 t24_4 =>
 ref04_Eid.LD h_1 ⟨b, 0, none⟩ fun t25_0 t25_1 t25_2 t25_3 t25_4 =>
 ∃ (eq : Bool), EqV Tryz.prog T.ref04_Eid (.agg #[.bool t24_0, .int .u64 t24_1, .int .u64 t24_2, .string t24_3, .string t24_4]) (.agg #[.bool t25_0, .int .u64 t25_1, .int .u64 t25_2, .string t25_3, .string t25_4]) eq ∧
 R (.bool eq) h_1
 else
 R (.bool false) h_1) : CallsH Tryz.prog F.ref21_Table_is #[.pointer (some ⟨t, 0, none⟩), .int .i64 i, .agg #[.bool x_0, .int .u64 x_1, .int .u64 x_2, .string x_3, .string x_4]] h R :=
 callsH_of_body (.seq .leaf (.seq (.plan (.op 0 (.op 1 (.op 2 (.op 3 (.op 4 (.op 5 (.op 6 (.op 7 (.op 8 (.op 9 (.op 10 (.op 11 (.op 12 (.op 13 (.op 14 (.op 15 (.op 16 (.op 17 (.op 18 (.op 19 (.op 20 (.op 21 .done))))))))))))))))))))))) .leaf)) Tryz.func142 rfl rfl (Eq.mp (by kernel_rfl) hv)
theorem ref21_Table_count.walk {t : Nat} {x_0 : Bool} {x_1 : Int} {x_2 : Int} {x_3 : ByteArray} {x_4 : ByteArray} {ready : Bool} (hv :
 NewP h (.cells #[.bool x_0, .int .u64 x_1, .int .u64 x_2, .string x_3, .string x_4] T.ref04_Eid) fun b h_1 =>
 ∃ (I : Int → Int → Heap → Prop) (mu : Int → Int → Heap → Nat), I 0 0 h_1 ∧ ∀ (n : Int) (i : Int) (h_2 : Heap), I n i h_2 →
 ∃ t13_p t13_l t13_c, hcell h_2 ⟨t, 0, none⟩ = some (.slice t13_p t13_l t13_c) ∧
 if (decide (i < ((t13_l : Nat) : Int))) = true then
 JoinP (fun (n_1 : Int) (h_3 : Heap) =>
 (I n_1 (IntKind.wrap .i64 (i + 1)) h_3 ∧ mu n_1 (IntKind.wrap .i64 (i + 1)) h_3 < mu n i h_2))
 (fun J =>
 JoinP (fun (t36 : Bool) (h_4 : Heap) =>
 JoinP (fun (n_2 : Int) (h_5 : Heap) =>
 J n_2 h_5)
 (fun J_2 =>
 if t36 = true then
 J_2 (IntKind.wrap .i64 (n + 1)) h_4
 else
 J_2 n h_4))
 (fun J_1 =>
 ref04_Eid.LD h_2 ⟨b, 0, none⟩ fun t20_0 t20_1 t20_2 t20_3 t20_4 =>
 Cl F.ref21_Table_is #[.pointer (some ⟨t, 0, none⟩), .int .i64 i, .agg #[.bool t20_0, .int .u64 t20_1, .int .u64 t20_2, .string t20_3, .string t20_4]] h_2 fun v h_6 =>
 ∃ t21, v = .bool t21 ∧
 if t21 = true then
 if (!ready) = true then
 J_1 true h_6
 else
 ∃ t29_p t29_l t29_c, hcell h_6 ⟨t, 0, none⟩ = some (.slice t29_p t29_l t29_c) ∧
 ((0 : Int) ≤ i ∧ i < ((t29_l : Nat) : Int)) ∧
 onSome t29_p fun a =>
 ∃ t33, hcell h_6 ((a.add (Int.toNat i * 11)).add 8) = some (.int .i64 t33) ∧
 J_1 (t33 == 0) h_6
 else
 J_1 false h_6))
 else
 R (.int .i64 n) h_2) : CallsH Tryz.prog F.ref21_Table_count #[.pointer (some ⟨t, 0, none⟩), .agg #[.bool x_0, .int .u64 x_1, .int .u64 x_2, .string x_3, .string x_4], .bool ready] h R :=
 callsH_of_body (.seq .leaf (.seq .leaf (.seq (.seq .leaf (.block (.loop [(7, .one (.int .i64)), (8, .one (.int .i64))] (.seq (.seq .leaf (.cond .leaf .leaf)) (.seq (.join [(7, .one (.int .i64))] (.block (.seq (.join [(36, .one (.bool))] .leaf) (.join [(7, .one (.int .i64))] (.cond .leaf .leaf))))) .leaf))))) (.seq .leaf .leaf)))) Tryz.func68 rfl rfl (Eq.mp (by kernel_rfl) hv)
theorem ref21_Table_Counts.walk {t : Nat} (hv :
 NewP h (.cells #[.int .i64 0, .int .i64 0, .int .i64 0, .int .i64 0, .int .i64 0, .int .i64 0] T.a6_int) fun b h_1 =>
 ∃ t9_p t9_l t9_c, hcell h_1 ⟨t, 0, none⟩ = some (.slice t9_p t9_l t9_c) ∧
 NewP h_1 (.cells #[.int .i64 0, .int .i64 0, .int .i64 0, .int .i64 0, .int .i64 0, .int .i64 0] T.a6_int) fun b_1 h_2 =>
 a6_int.ST h_2 ⟨b_1, 0, none⟩ ((t9_l : Nat) : Int) 0 0 0 0 0 fun h_3 =>
 ∃ (I : Int → Heap → Prop) (mu : Int → Heap → Nat), I 0 h_3 ∧ ∀ (i : Int) (h_4 : Heap), I i h_4 →
 ∃ t16_p t16_l t16_c, hcell h_4 ⟨t, 0, none⟩ = some (.slice t16_p t16_l t16_c) ∧
 if (decide (i < ((t16_l : Nat) : Int))) = true then
 ∃ t24_p t24_l t24_c, hcell h_4 ⟨t, 0, none⟩ = some (.slice t24_p t24_l t24_c) ∧
 ((0 : Int) ≤ i ∧ i < ((t24_l : Nat) : Int)) ∧
 onSome t24_p fun a =>
 ∃ t28, hcell h_4 ((a.add (Int.toNat i * 11)).add 10) = some (.int .i64 t28) ∧
 JoinP (fun (t42 : Bool) (h_5 : Heap) =>
 JoinP (fun (k : Int) (h_6 : Heap) =>
 ((0 : Int) ≤ k ∧ k < ((6 : Nat) : Int)) ∧
 ∃ t45, hcell h_6 ((⟨b_1, 0, none⟩ : Addr).add (Int.toNat k * 1)) = some (.int .i64 t45) ∧
 ((0 : Int) ≤ k ∧ k < ((6 : Nat) : Int)) ∧
 StoreP h_6 ((⟨b_1, 0, none⟩ : Addr).add (Int.toNat k * 1)) (.int .i64 (IntKind.wrap .i64 (t45 + 1))) fun h_7 =>
 (I (IntKind.wrap .i64 (i + 1)) h_7 ∧ mu (IntKind.wrap .i64 (i + 1)) h_7 < mu i h_4))
 (fun J_1 =>
 if t42 = true then
 J_1 1 h_5
 else
 J_1 (IntKind.wrap .i64 (t28 + 2)) h_5))
 (fun J =>
 if ((IntKind.wrap .i64 (t28 + 2)) == 2) = true then
 ∃ t36_p t36_l t36_c, hcell h_4 ⟨t, 0, none⟩ = some (.slice t36_p t36_l t36_c) ∧
 ((0 : Int) ≤ i ∧ i < ((t36_l : Nat) : Int)) ∧
 onSome t36_p fun a_1 =>
 ∃ t40, hcell h_4 ((a_1.add (Int.toNat i * 11)).add 8) = some (.int .i64 t40) ∧
 J (t40 == 0) h_4
 else
 J false h_4)
 else
 a6_int.LD h_4 ⟨b_1, 0, none⟩ fun t48_0 t48_1 t48_2 t48_3 t48_4 t48_5 =>
 a6_int.ST h_4 ⟨b, 0, none⟩ t48_0 t48_1 t48_2 t48_3 t48_4 t48_5 fun h_8 =>
 a6_int.LD h_8 ⟨b, 0, none⟩ fun r_0 r_1 r_2 r_3 r_4 r_5 =>
 R (.agg #[.int .i64 r_0, .int .i64 r_1, .int .i64 r_2, .int .i64 r_3, .int .i64 r_4, .int .i64 r_5]) h_8) : CallsH Tryz.prog F.ref21_Table_Counts #[.pointer (some ⟨t, 0, none⟩)] h R :=
 callsH_of_body (.seq .leaf (.seq .leaf (.seq (.seq .leaf (.block (.loop [(4, .one (.int .i64))] (.seq (.seq .leaf (.cond .leaf .leaf)) (.seq (.block (.seq .leaf (.seq (.seq (.join [(42, .one (.bool))] .leaf) (.join [(5, .one (.int .i64))] (.cond .leaf .leaf))) .leaf))) .leaf))))) (.seq .leaf .leaf)))) Tryz.func66 rfl rfl (Eq.mp (by kernel_rfl) hv)
theorem ref21_May.walk {x_0 : Bool} {x_1 : Int} {x_2 : Int} {x_3 : ByteArray} {x_4 : ByteArray} {data_p : Option Addr} {data_l data_c : Nat} {v_until : Int} (hv :
 NewP h (.cells #[.bool x_0, .int .u64 x_1, .int .u64 x_2, .string x_3, .string x_4] T.ref04_Eid) fun b h_1 =>
 ref04_Eid.LD h_1 ⟨b, 0, none⟩ fun t7_0 t7_1 t7_2 t7_3 t7_4 =>
 Cl F.ref04_Kind #[.agg #[.bool t7_0, .int .u64 t7_1, .int .u64 t7_2, .string t7_3, .string t7_4]] h_1 fun v h_2 =>
 ∃ t8, v = .int .i64 t8 ∧
 if (decide (t8 > 0)) = true then
 if (decide (((data_l : Nat) : Int) > 0)) = true then
 if (decide (((data_l : Nat) : Int) ≤ 600)) = true then
 R (.bool (decide (v_until ≤ 1099511627776))) h_2
 else
 R (.bool false) h_2
 else
 R (.bool false) h_2
 else
 R (.bool false) h_2) : CallsH Tryz.prog F.ref21_May #[.agg #[.bool x_0, .int .u64 x_1, .int .u64 x_2, .string x_3, .string x_4], .slice data_p data_l data_c, .int .u64 v_until] h R :=
 callsH_of_body (.seq .leaf (.seq .leaf .leaf)) Tryz.func141 rfl rfl (Eq.mp (by kernel_rfl) hv)
theorem ref21_Table_Add.walk {t : Nat} {x_0 : Bool} {x_1 : Int} {x_2 : Int} {x_3 : ByteArray} {x_4 : ByteArray} {data_p : Option Addr} {data_l data_c : Nat} {v_until : Int} (hv :
 NewP h (.cells #[.bool x_0, .int .u64 x_1, .int .u64 x_2, .string x_3, .string x_4] T.ref04_Eid) fun b h_1 =>
 ref04_Eid.LD h_1 ⟨b, 0, none⟩ fun t11_0 t11_1 t11_2 t11_3 t11_4 =>
 Cl F.ref21_May #[.agg #[.bool t11_0, .int .u64 t11_1, .int .u64 t11_2, .string t11_3, .string t11_4], .slice data_p data_l data_c, .int .u64 v_until] h_1 fun v h_2 =>
 ∃ t14, v = .bool t14 ∧
 if (!t14) = true then
 R (.tuple #[.int .i64 0, .int .i64 1]) h_2
 else
 ref04_Eid.LD h_2 ⟨b, 0, none⟩ fun t17_0 t17_1 t17_2 t17_3 t17_4 =>
 Cl F.ref21_Table_count #[.pointer (some ⟨t, 0, none⟩), .agg #[.bool t17_0, .int .u64 t17_1, .int .u64 t17_2, .string t17_3, .string t17_4], .bool false] h_2 fun v_1 h_3 =>
 ∃ t18, v_1 = .int .i64 t18 ∧
 if (decide (t18 ≥ 16)) = true then
 R (.tuple #[.int .i64 0, .int .i64 15]) h_3
 else
 ∃ t23_p t23_l t23_c, hcell h_3 ⟨t, 0, none⟩ = some (.slice t23_p t23_l t23_c) ∧
 ref04_Eid.LD h_3 ⟨b, 0, none⟩ fun t26_0 t26_1 t26_2 t26_3 t26_4 =>
 NewP h_3 (.cells #[.int .i64 0, .bool false, .int .u64 0, .int .u64 0, .string (⟨#[]⟩ : ByteArray), .string (⟨#[]⟩ : ByteArray), .slice none 0 0, .int .u64 0, .int .i64 0, .int .u64 0, .int .i64 0] T.ref21_Copy) fun b_1 h_4 =>
 heldL ⟨b, 0, none⟩ [.bool t26_0, .int .u64 t26_1, .int .u64 t26_2, .string t26_3, .string t26_4] 0 h_4 ∧
 hcell h_4 ⟨t, 0, none⟩ = some (.slice t23_p t23_l t23_c) ∧
 ref21_Copy.ST h_4 ⟨b_1, 0, none⟩ (IntKind.wrap .i64 (((t23_l : Nat) : Int) + 1)) t26_0 t26_1 t26_2 t26_3 t26_4 none 0 0 v_until 0 0 0 fun h_5 =>
 ∃ t30_p t30_l t30_c, hcell h_5 ⟨b_1, 6, none⟩ = some (.slice t30_p t30_l t30_c) ∧
 denSem Tryz.prog (Builtin.append_ #[T.s_uint8, T.s_uint8] T.s_uint8 #[.slice t30_p t30_l t30_c, .slice data_p data_l data_c]) h_5 fun v_2 h_6 =>
 ∃ t32_p t32_l t32_c, v_2 = .slice t32_p t32_l t32_c ∧
 StoreP h_6 ⟨b_1, 6, none⟩ (.slice t32_p t32_l t32_c) fun h_7 =>
 ∃ t38_p t38_l t38_c, hcell h_7 ⟨t, 0, none⟩ = some (.slice t38_p t38_l t38_c) ∧
 ref21_Copy.LD h_7 ⟨b_1, 0, none⟩ fun t39_0 t39_1 t39_2 t39_3 t39_4 t39_5 t39_6_p t39_6_l t39_6_c t39_7 t39_8 t39_9 t39_10 =>
 NewP h_7 (.cells #[.int .i64 t39_0, .bool t39_1, .int .u64 t39_2, .int .u64 t39_3, .string t39_4, .string t39_5, .slice t39_6_p t39_6_l t39_6_c, .int .u64 t39_7, .int .i64 t39_8, .int .u64 t39_9, .int .i64 t39_10] T.ref21_Copy) fun b_2 h_8 =>
 hcell h_8 ⟨t, 0, none⟩ = some (.slice t38_p t38_l t38_c) ∧
 denSem Tryz.prog (Builtin.append_ #[T.s_ref21_Copy, T.s_ref21_Copy] T.s_ref21_Copy #[.slice t38_p t38_l t38_c, .slice (some ⟨b_2, 0, none⟩) 1 1]) h_8 fun v_3 h_9 =>
 ∃ t41_p t41_l t41_c, v_3 = .slice t41_p t41_l t41_c ∧
 StoreP h_9 ⟨t, 0, none⟩ (.slice t41_p t41_l t41_c) fun h_10 =>
 ∃ t45, hcell h_10 ⟨b_1, 0, none⟩ = some (.int .i64 t45) ∧
 R (.tuple #[.int .i64 t45, .int .i64 0]) h_10) : CallsH Tryz.prog F.ref21_Table_Add #[.pointer (some ⟨t, 0, none⟩), .agg #[.bool x_0, .int .u64 x_1, .int .u64 x_2, .string x_3, .string x_4], .slice data_p data_l data_c, .int .u64 v_until] h R :=
 callsH_of_body (.seq .leaf (.seq (.seq .leaf (.cond (.seq .leaf .leaf) .leaf)) (.seq (.seq .leaf (.cond (.seq .leaf .leaf) .leaf)) (.seq (.plan (.op 0 (.op 1 (.op 2 (.op 3 (.op 4 (.op 5 (.op 6 (.op 7 (.op 8 (.op 9 (.op 10 .done)))))))))))) (.seq .leaf (.seq (.plan (.op 0 (.op 1 (.op 2 (.op 3 (.op 4 (.op 5 (.op 6 (.op 7 (.op 8 (.op 9 (.op 10 .done)))))))))))) (.seq .leaf .leaf))))))) Tryz.func58 rfl rfl (Eq.mp (by kernel_rfl) hv)
theorem ref21_Table_Pass.walk {t : Nat} {now : Int} (hv :
 ∃ (I : Option Addr → Nat → Nat → Heap → Prop) (mu : Option Addr → Nat → Nat → Heap → Nat), I none 0 0 h ∧ ∀ (out_p : Option Addr) (out_l out_c : Nat) (h_1 : Heap), I out_p out_l out_c h_1 →
 ∃ (I_1 : Int → Int → Heap → Prop) (mu_1 : Int → Int → Heap → Nat), I_1 (-1) 0 h_1 ∧ ∀ (best : Int) (i : Int) (h_2 : Heap), I_1 best i h_2 →
 ∃ t13_p t13_l t13_c, hcell h_2 ⟨t, 0, none⟩ = some (.slice t13_p t13_l t13_c) ∧
 if (decide (i < ((t13_l : Nat) : Int))) = true then
 JoinP (fun (best_1 : Int) (h_3 : Heap) =>
 (I_1 best_1 (IntKind.wrap .i64 (i + 1)) h_3 ∧ mu_1 best_1 (IntKind.wrap .i64 (i + 1)) h_3 < mu_1 best i h_2))
 (fun J =>
 JoinP (fun (t61 : Bool) (h_4 : Heap) =>
 JoinP (fun (best_2 : Int) (h_5 : Heap) =>
 J best_2 h_5)
 (fun J_2 =>
 if t61 = true then
 J_2 i h_4
 else
 J_2 best h_4))
 (fun J_1 =>
 ∃ t21_p t21_l t21_c, hcell h_2 ⟨t, 0, none⟩ = some (.slice t21_p t21_l t21_c) ∧
 ((0 : Int) ≤ i ∧ i < ((t21_l : Nat) : Int)) ∧
 onSome t21_p fun a =>
 ∃ t25, hcell h_2 ((a.add (Int.toNat i * 11)).add 10) = some (.int .i64 t25) ∧
 if (t25 == 0) = true then
 ∃ t31_p t31_l t31_c, hcell h_2 ⟨t, 0, none⟩ = some (.slice t31_p t31_l t31_c) ∧
 ((0 : Int) ≤ i ∧ i < ((t31_l : Nat) : Int)) ∧
 onSome t31_p fun a_1 =>
 ∃ t35, hcell h_2 ((a_1.add (Int.toNat i * 11)).add 7) = some (.int .u64 t35) ∧
 if (decide (t35 ≤ now)) = true then
 if (decide (best < 0)) = true then
 J_1 true h_2
 else
 ∃ t46_p t46_l t46_c, hcell h_2 ⟨t, 0, none⟩ = some (.slice t46_p t46_l t46_c) ∧
 ((0 : Int) ≤ i ∧ i < ((t46_l : Nat) : Int)) ∧
 onSome t46_p fun a_2 =>
 ∃ t50, hcell h_2 ((a_2.add (Int.toNat i * 11)).add 7) = some (.int .u64 t50) ∧
 ∃ t54_p t54_l t54_c, hcell h_2 ⟨t, 0, none⟩ = some (.slice t54_p t54_l t54_c) ∧
 ((0 : Int) ≤ best ∧ best < ((t54_l : Nat) : Int)) ∧
 onSome t54_p fun a_3 =>
 ∃ t58, hcell h_2 ((a_3.add (Int.toNat best * 11)).add 7) = some (.int .u64 t58) ∧
 J_1 (decide (t50 < t58)) h_2
 else
 J_1 false h_2
 else
 J_1 false h_2))
 else
 if (decide (best < 0)) = true then
 ∃ (I_2 : Int → Heap → Prop) (mu_2 : Int → Heap → Nat), I_2 0 h_2 ∧ ∀ (i_1 : Int) (h_6 : Heap), I_2 i_1 h_6 →
 ∃ t95_p t95_l t95_c, hcell h_6 ⟨t, 0, none⟩ = some (.slice t95_p t95_l t95_c) ∧
 if (decide (i_1 < ((t95_l : Nat) : Int))) = true then
 JoinP (fun (h_7 : Heap) =>
 (I_2 (IntKind.wrap .i64 (i_1 + 1)) h_7 ∧ mu_2 (IntKind.wrap .i64 (i_1 + 1)) h_7 < mu_2 i_1 h_6))
 (fun J_3 =>
 JoinP (fun (t131 : Bool) (h_8 : Heap) =>
 JoinP (fun (h_9 : Heap) =>
 J_3 h_9)
 (fun J_5 =>
 if t131 = true then
 ∃ t135_p t135_l t135_c, hcell h_8 ⟨t, 0, none⟩ = some (.slice t135_p t135_l t135_c) ∧
 ∃ t140_p t140_l t140_c, hcell h_8 ⟨t, 0, none⟩ = some (.slice t140_p t140_l t140_c) ∧
 ((0 : Int) ≤ i_1 ∧ i_1 < ((t135_l : Nat) : Int)) ∧
 onSome t135_p fun a_4 =>
 StoreP h_8 ((a_4.add (Int.toNat i_1 * 11)).add 8) (.int .i64 0) fun h_10 =>
 ((0 : Int) ≤ i_1 ∧ i_1 < ((t140_l : Nat) : Int)) ∧
 onSome t140_p fun a_5 =>
 StoreP h_10 ((a_5.add (Int.toNat i_1 * 11)).add 9) (.int .u64 0) fun h_11 =>
 J_5 h_11
 else
 J_5 h_8))
 (fun J_4 =>
 ∃ t103_p t103_l t103_c, hcell h_6 ⟨t, 0, none⟩ = some (.slice t103_p t103_l t103_c) ∧
 ((0 : Int) ≤ i_1 ∧ i_1 < ((t103_l : Nat) : Int)) ∧
 onSome t103_p fun a_6 =>
 ∃ t107, hcell h_6 ((a_6.add (Int.toNat i_1 * 11)).add 10) = some (.int .i64 t107) ∧
 if (t107 == 0) = true then
 ∃ t113_p t113_l t113_c, hcell h_6 ⟨t, 0, none⟩ = some (.slice t113_p t113_l t113_c) ∧
 ((0 : Int) ≤ i_1 ∧ i_1 < ((t113_l : Nat) : Int)) ∧
 onSome t113_p fun a_7 =>
 ∃ t117, hcell h_6 ((a_7.add (Int.toNat i_1 * 11)).add 8) = some (.int .i64 t117) ∧
 if (decide (t117 > 0)) = true then
 ∃ t124_p t124_l t124_c, hcell h_6 ⟨t, 0, none⟩ = some (.slice t124_p t124_l t124_c) ∧
 ((0 : Int) ≤ i_1 ∧ i_1 < ((t124_l : Nat) : Int)) ∧
 onSome t124_p fun a_8 =>
 ∃ t128, hcell h_6 ((a_8.add (Int.toNat i_1 * 11)).add 9) = some (.int .u64 t128) ∧
 J_4 (decide (t128 ≤ now)) h_6
 else
 J_4 false h_6
 else
 J_4 false h_6))
 else
 R (.slice out_p out_l out_c) h_6
 else
 NewP h_2 (.cells #[.int .i64 (IntKind.wrap .i64 (best + 1))] T.int) fun b h_12 =>
 denSem Tryz.prog (Builtin.append_ #[T.s_int, T.s_int] T.s_int #[.slice out_p out_l out_c, .slice (some ⟨b, 0, none⟩) 1 1]) h_12 fun v h_13 =>
 ∃ t69_p t69_l t69_c, v = .slice t69_p t69_l t69_c ∧
 ∃ t73_p t73_l t73_c, hcell h_13 ⟨t, 0, none⟩ = some (.slice t73_p t73_l t73_c) ∧
 ∃ t78_p t78_l t78_c, hcell h_13 ⟨t, 0, none⟩ = some (.slice t78_p t78_l t78_c) ∧
 ∃ t83_p t83_l t83_c, hcell h_13 ⟨t, 0, none⟩ = some (.slice t83_p t83_l t83_c) ∧
 ((0 : Int) ≤ best ∧ best < ((t73_l : Nat) : Int)) ∧
 onSome t73_p fun a_9 =>
 StoreP h_13 ((a_9.add (Int.toNat best * 11)).add 10) (.int .i64 2) fun h_14 =>
 ((0 : Int) ≤ best ∧ best < ((t78_l : Nat) : Int)) ∧
 onSome t78_p fun a_10 =>
 StoreP h_14 ((a_10.add (Int.toNat best * 11)).add 8) (.int .i64 0) fun h_15 =>
 ((0 : Int) ≤ best ∧ best < ((t83_l : Nat) : Int)) ∧
 onSome t83_p fun a_11 =>
 StoreP h_15 ((a_11.add (Int.toNat best * 11)).add 9) (.int .u64 0) fun h_16 =>
 (I t69_p t69_l t69_c h_16 ∧ mu t69_p t69_l t69_c h_16 < mu out_p out_l out_c h_1)) : CallsH Tryz.prog F.ref21_Table_Pass #[.pointer (some ⟨t, 0, none⟩), .int .u64 now] h R :=
 callsH_of_body (.seq .leaf (.seq .leaf (.seq (.block (.loop [(5, .one (.slice))] (.block (.seq .leaf (.seq (.seq .leaf (.block (.loop [(6, .one (.int .i64)), (7, .one (.int .i64))] (.seq (.seq .leaf (.cond .leaf .leaf)) (.seq (.join [(6, .one (.int .i64))] (.block (.seq (.join [(61, .one (.bool))] (.plan (.op 0 (.op 1 (.op 2 (.op 3 (.op 4 (.op 5 (.op 6 (.op 7 (.op 8 (.op 9 (.op 10 (.op 11 (.op 12 (.op 13 (.op 14 (.op 15 (.op 16 (.op 17 (.op 18 (.op 19 (.op 20 (.op 21 (.op 22 (.op 23 (.op 24 (.op 25 (.op 26 (.op 27 (.op 28 (.op 29 (.op 30 (.op 31 (.op 32 (.op 33 (.op 34 (.op 35 (.op 36 (.op 37 (.op 38 (.op 39 (.op 40 (.op 41 (.op 42 (.op 43 .done)))))))))))))))))))))))))))))))))))))))))))))) (.join [(6, .one (.int .i64))] (.cond .leaf .leaf))))) .leaf))))) (.seq (.seq .leaf (.cond .leaf .leaf)) (.seq .leaf (.plan (.op 0 (.op 1 (.op 2 (.op 3 (.op 4 (.op 5 (.op 6 (.op 7 (.op 8 (.op 9 (.op 10 (.op 11 (.op 12 (.op 13 (.op 14 (.op 15 (.op 16 (.op 17 (.op 18 (.op 19 (.op 20 (.op 21 (.op 22 (.op 23 .done)))))))))))))))))))))))))))))))) (.seq (.seq .leaf (.block (.loop [(8, .one (.int .i64))] (.seq (.seq .leaf (.cond .leaf .leaf)) (.seq (.join [] (.block (.seq (.join [(131, .one (.bool))] .leaf) (.join [] (.cond (.plan (.op 0 (.op 1 (.op 2 (.op 3 (.op 4 (.op 5 (.op 6 (.op 7 (.op 8 (.op 9 (.op 10 (.op 11 (.op 12 (.op 13 (.op 14 (.op 15 .done))))))))))))))))) .leaf))))) .leaf))))) (.seq .leaf .leaf))))) Tryz.func63 rfl rfl (Eq.mp (by kernel_rfl) hv)
theorem ref21_numbers.walk {l_p : Option Addr} {l_l l_c : Nat} (hv :
 ∃ (I : Option Addr → Nat → Nat → Int → Heap → Prop) (mu : Option Addr → Nat → Nat → Int → Heap → Nat), I none 0 0 0 h ∧ ∀ (out_p : Option Addr) (out_l out_c : Nat) (i : Int) (h_1 : Heap), I out_p out_l out_c i h_1 →
 if (decide (i < ((l_l : Nat) : Int))) = true then
 ((0 : Int) ≤ i ∧ i < ((l_l : Nat) : Int)) ∧
 onSome l_p fun a =>
 ∃ t15, hcell h_1 (a.add (Int.toNat i * 1)) = some (.int .i64 t15) ∧
 Cl F.ref15_Num #[.int .u64 (IntKind.wrap .u64 t15)] h_1 fun v h_2 =>
 ∃ t17_p t17_l t17_c, v = .slice t17_p t17_l t17_c ∧
 denSem Tryz.prog (Builtin.append_ #[T.s_uint8, T.s_uint8] T.s_uint8 #[.slice out_p out_l out_c, .slice t17_p t17_l t17_c]) h_2 fun v_1 h_3 =>
 ∃ t18_p t18_l t18_c, v_1 = .slice t18_p t18_l t18_c ∧
 (I t18_p t18_l t18_c (IntKind.wrap .i64 (i + 1)) h_3 ∧ mu t18_p t18_l t18_c (IntKind.wrap .i64 (i + 1)) h_3 < mu out_p out_l out_c i h_1)
 else
 R (.slice out_p out_l out_c) h_1) : CallsH Tryz.prog F.ref21_numbers #[.slice l_p l_l l_c] h R :=
 callsH_of_body (.seq .leaf (.seq .leaf (.seq (.seq .leaf (.block (.loop [(3, .one (.slice)), (4, .one (.int .i64))] (.seq (.seq .leaf (.cond .leaf .leaf)) (.seq (.block .leaf) .leaf))))) (.seq .leaf .leaf)))) Tryz.func79 rfl rfl (Eq.mp (by kernel_rfl) hv)
theorem ref21_Table_Save.walk {t : Nat} (hv :
 Cl F.ref21_Table_Counts #[.pointer (some ⟨t, 0, none⟩)] h fun v h_1 =>
 ∃ t9_0 t9_1 t9_2 t9_3 t9_4 t9_5, v = .agg #[.int .i64 t9_0, .int .i64 t9_1, .int .i64 t9_2, .int .i64 t9_3, .int .i64 t9_4, .int .i64 t9_5] ∧
 NewP h_1 (.cells #[.int .i64 0, .int .i64 0, .int .i64 0, .int .i64 0, .int .i64 0, .int .i64 0] T.a6_int) fun b h_2 =>
 a6_int.ST h_2 ⟨b, 0, none⟩ t9_0 t9_1 t9_2 t9_3 t9_4 t9_5 fun h_3 =>
 Cl F.ref21_Table_There #[.pointer (some ⟨t, 0, none⟩)] h_3 fun v_1 h_4 =>
 ∃ t11_p t11_l t11_c, v_1 = .slice t11_p t11_l t11_c ∧
 ∃ t15_p t15_l t15_c, hcell h_4 ⟨t, 0, none⟩ = some (.slice t15_p t15_l t15_c) ∧
 ((0 : Int) ≤ 3 ∧ 3 < ((6 : Nat) : Int)) ∧
 ∃ t19, hcell h_4 ((⟨b, 0, none⟩ : Addr).add (Int.toNat 3 * 1)) = some (.int .i64 t19) ∧
 ((0 : Int) ≤ 4 ∧ 4 < ((6 : Nat) : Int)) ∧
 ∃ t21, hcell h_4 ((⟨b, 0, none⟩ : Addr).add (Int.toNat 4 * 1)) = some (.int .i64 t21) ∧
 ((0 : Int) ≤ 5 ∧ 5 < ((6 : Nat) : Int)) ∧
 ∃ t23, hcell h_4 ((⟨b, 0, none⟩ : Addr).add (Int.toNat 5 * 1)) = some (.int .i64 t23) ∧
 NewP h_4 (.cells #[.int .i64 (IntKind.wrap .i64 (((t15_l : Nat) : Int) + 1)), .int .i64 t19, .int .i64 t21, .int .i64 t23, .int .i64 ((t11_l : Nat) : Int)] T.int) fun b_1 h_5 =>
 hcell h_5 ⟨t, 0, none⟩ = some (.slice t15_p t15_l t15_c) ∧
 Cl F.ref21_numbers #[.slice (some ⟨b_1, 0, none⟩) 5 5] h_5 fun v_2 h_6 =>
 ∃ t27_p t27_l t27_c, v_2 = .slice t27_p t27_l t27_c ∧
 hcell h_6 ⟨t, 0, none⟩ = some (.slice t15_p t15_l t15_c) ∧
 NewP h_6 (.cells #[.slice t27_p t27_l t27_c] T.s_uint8) fun b_2 h_7 =>
 hcell h_7 ⟨t, 0, none⟩ = some (.slice t15_p t15_l t15_c) ∧
 ∃ (I : Option Addr → Nat → Nat → Int → Heap → Prop) (mu : Option Addr → Nat → Nat → Int → Heap → Nat), I (some ⟨b_2, 0, none⟩) 1 1 0 h_7 ∧ ∀ (out_p : Option Addr) (out_l out_c : Nat) (i : Int) (h_8 : Heap), I out_p out_l out_c i h_8 →
 if (decide (i < ((t11_l : Nat) : Int))) = true then
 ((0 : Int) ≤ i ∧ i < ((t11_l : Nat) : Int)) ∧
 onSome t11_p fun a =>
 ∃ t39, hcell h_8 (a.add (Int.toNat i * 11)) = some (.int .i64 t39) ∧
 NewP h_8 (.cells #[.int .i64 t39] T.int) fun b_3 h_9 =>
 Cl F.ref21_numbers #[.slice (some ⟨b_3, 0, none⟩) 1 1] h_9 fun v_3 h_10 =>
 ∃ t41_p t41_l t41_c, v_3 = .slice t41_p t41_l t41_c ∧
 ((0 : Int) ≤ i ∧ i < ((t11_l : Nat) : Int)) ∧
 onSome t11_p fun a_1 =>
 ref04_Eid.LD h_10 ((a_1.add (Int.toNat i * 11)).add 1) fun t47_0 t47_1 t47_2 t47_3 t47_4 =>
 Cl F.ref04_Text #[.agg #[.bool t47_0, .int .u64 t47_1, .int .u64 t47_2, .string t47_3, .string t47_4]] h_10 fun v_4 h_11 =>
 ∃ t48, v_4 = .string t48 ∧
 denSem Tryz.prog (convert T.string T.s_uint8 (.string t48)) h_11 fun v_5 h_12 =>
 ∃ t49_p t49_l t49_c, v_5 = .slice t49_p t49_l t49_c ∧
 Cl F.ref15_Text #[.slice t49_p t49_l t49_c] h_12 fun v_6 h_13 =>
 ∃ t50_p t50_l t50_c, v_6 = .slice t50_p t50_l t50_c ∧
 denSem Tryz.prog (Builtin.append_ #[T.s_uint8, T.s_uint8] T.s_uint8 #[.slice t41_p t41_l t41_c, .slice t50_p t50_l t50_c]) h_13 fun v_7 h_14 =>
 ∃ t51_p t51_l t51_c, v_7 = .slice t51_p t51_l t51_c ∧
 ((0 : Int) ≤ i ∧ i < ((t11_l : Nat) : Int)) ∧
 onSome t11_p fun a_2 =>
 ∃ t57_p t57_l t57_c, hcell h_14 ((a_2.add (Int.toNat i * 11)).add 6) = some (.slice t57_p t57_l t57_c) ∧
 Cl F.ref15_Text #[.slice t57_p t57_l t57_c] h_14 fun v_8 h_15 =>
 ∃ t58_p t58_l t58_c, v_8 = .slice t58_p t58_l t58_c ∧
 denSem Tryz.prog (Builtin.append_ #[T.s_uint8, T.s_uint8] T.s_uint8 #[.slice t51_p t51_l t51_c, .slice t58_p t58_l t58_c]) h_15 fun v_9 h_16 =>
 ∃ t59_p t59_l t59_c, v_9 = .slice t59_p t59_l t59_c ∧
 ((0 : Int) ≤ i ∧ i < ((t11_l : Nat) : Int)) ∧
 onSome t11_p fun a_3 =>
 ∃ t65, hcell h_16 ((a_3.add (Int.toNat i * 11)).add 7) = some (.int .u64 t65) ∧
 Cl F.ref15_Num #[.int .u64 t65] h_16 fun v_10 h_17 =>
 ∃ t66_p t66_l t66_c, v_10 = .slice t66_p t66_l t66_c ∧
 denSem Tryz.prog (Builtin.append_ #[T.s_uint8, T.s_uint8] T.s_uint8 #[.slice t59_p t59_l t59_c, .slice t66_p t66_l t66_c]) h_17 fun v_11 h_18 =>
 ∃ t67_p t67_l t67_c, v_11 = .slice t67_p t67_l t67_c ∧
 ((0 : Int) ≤ i ∧ i < ((t11_l : Nat) : Int)) ∧
 onSome t11_p fun a_4 =>
 ∃ t73, hcell h_18 ((a_4.add (Int.toNat i * 11)).add 8) = some (.int .i64 t73) ∧
 NewP h_18 (.cells #[.int .i64 t73] T.int) fun b_4 h_19 =>
 Cl F.ref21_numbers #[.slice (some ⟨b_4, 0, none⟩) 1 1] h_19 fun v_12 h_20 =>
 ∃ t75_p t75_l t75_c, v_12 = .slice t75_p t75_l t75_c ∧
 denSem Tryz.prog (Builtin.append_ #[T.s_uint8, T.s_uint8] T.s_uint8 #[.slice t67_p t67_l t67_c, .slice t75_p t75_l t75_c]) h_20 fun v_13 h_21 =>
 ∃ t76_p t76_l t76_c, v_13 = .slice t76_p t76_l t76_c ∧
 ((0 : Int) ≤ i ∧ i < ((t11_l : Nat) : Int)) ∧
 onSome t11_p fun a_5 =>
 ∃ t83, hcell h_21 ((a_5.add (Int.toNat i * 11)).add 9) = some (.int .u64 t83) ∧
 Cl F.ref15_Num #[.int .u64 t83] h_21 fun v_14 h_22 =>
 ∃ t84_p t84_l t84_c, v_14 = .slice t84_p t84_l t84_c ∧
 denSem Tryz.prog (Builtin.append_ #[T.s_uint8, T.s_uint8] T.s_uint8 #[.slice t76_p t76_l t76_c, .slice t84_p t84_l t84_c]) h_22 fun v_15 h_23 =>
 ∃ t85_p t85_l t85_c, v_15 = .slice t85_p t85_l t85_c ∧
 NewP h_23 (.cells #[.slice t85_p t85_l t85_c] T.s_uint8) fun b_5 h_24 =>
 denSem Tryz.prog (Builtin.append_ #[T.s_s_uint8, T.s_s_uint8] T.s_s_uint8 #[.slice out_p out_l out_c, .slice (some ⟨b_5, 0, none⟩) 1 1]) h_24 fun v_16 h_25 =>
 ∃ t87_p t87_l t87_c, v_16 = .slice t87_p t87_l t87_c ∧
 (I t87_p t87_l t87_c (IntKind.wrap .i64 (i + 1)) h_25 ∧ mu t87_p t87_l t87_c (IntKind.wrap .i64 (i + 1)) h_25 < mu out_p out_l out_c i h_8)
 else
 R (.slice out_p out_l out_c) h_8) : CallsH Tryz.prog F.ref21_Table_Save #[.pointer (some ⟨t, 0, none⟩)] h R :=
 callsH_of_body (.seq .leaf (.seq .leaf (.seq .leaf (.seq (.plan (.op 0 (.op 1 (.op 2 (.op 3 (.op 4 (.op 5 (.op 6 (.op 7 (.op 8 (.op 9 (.op 10 (.op 11 (.op 12 (.op 13 (.op 14 (.op 15 (.op 16 (.op 17 .done))))))))))))))))))) (.seq (.seq .leaf (.block (.loop [(5, .one (.slice)), (6, .one (.int .i64))] (.seq (.seq .leaf (.cond .leaf .leaf)) (.seq (.block (.seq .leaf (.seq .leaf (.seq .leaf (.seq .leaf (.seq .leaf .leaf)))))) .leaf))))) (.seq .leaf .leaf)))))) Tryz.func22 rfl rfl (Eq.mp (by kernel_rfl) hv)
end Go.Proofs.YtgccegnmggjkjaaGreatDoor
set_option maxRecDepth 100000
namespace Go.Proofs.YtgccegnmggjkjaaGreatDoor
open Go.Den Go.Fields
namespace Rcp
open Eid Cps Fld
variable {h h' h0 : Heap} {x : Nat} {X : Ft} {R : Value → Heap → Prop} {p q : Option Addr} {c d i : Nat}
structure RC where
 c:Cp
 fate:Nat
structure RW where
 num:Nat
 e:Ev
 v:BV
 till:Nat
 ses:Int
 dl:Nat
 fate:Nat
def RW.abs (y:RW):RC:=⟨⟨y.num,y.e,y.v.b,y.till,y.ses,y.dl⟩,y.fate⟩
abbrev cenc (y:RW):List Value:= [.int .i64 (y.num:Int), .bool y.e.ipn, .int .u64 y.e.node, .int .u64 y.e.svc, .string y.e.host, .string y.e.dem,y.v.val, .int .u64 (y.till:Int), .int .i64 y.ses, .int .u64 (y.dl:Int), .int .i64 (y.fate:Int)]
theorem cenc_len (y:RW):(cenc y).length=11:=rfl
theorem cenc_1 (y:RW): ∀v∈cenc y,oneCell v=true:=by
 intro v hv
 simp only[cenc,List.mem_cons,List.not_mem_nil,or_false] at hv
 rcases hv with rfl|rfl|rfl|rfl|rfl|rfl|rfl|rfl|rfl|rfl|rfl<;>rfl
theorem tC:SlTy Tryz.prog T.s_ref21_Copy T.ref21_Copy 11 120 (.agg #[.int .i64 0, .bool false, .int .u64 0, .int .u64 0, .string ⟨#[]⟩, .string ⟨#[]⟩, .slice none 0 0, .int .u64 0, .int .i64 0, .int .u64 0, .int .i64 0]):=⟨by kernel_rfl,by kernel_rfl,rfl⟩
theorem uC:Tryz.prog.underlying T.s_ref21_Copy=some (.slice T.ref21_Copy):=by kernel_rfl
structure Rm (h:Heap) (x:Nat) (X:Ft) (Ls:List RC) (lp:Option Addr) (lc:Nat) (xs:List RW):Prop where
 blk:h[x]? =some (.cells #[.slice lp xs.length lc] T.ref21_Table (0,0))
 own:Own h lp xs.length lc 11 (xs.flatMap cenc)
 abs:xs.map RW.abs=Ls
 dat: ∀y∈xs,y.v.ok h X.D
 m: ∀c,X.M c↔c=x∨inBlk lp c
 bl: ¬inBlk lp x
 dis: ∀c,X.M c→ ¬X.D c
 dlt: ∀c,X.D c→c<h.size
def Rb (h:Heap) (x:Nat) (X:Ft) (Ls:List RC):Prop:= ∃lp lc xs,Rm h x X Ls lp lc xs
variable {Ls : List RC} {lp : Option Addr} {lc : Nat} {xs : List RW}
theorem Rm.lt (H:Rm h x X Ls lp lc xs) (y:Nat) (hy:X.M y∨X.D y):y<h.size:=by
 rcases hy with hy|hy
 ·rcases(H.m y).1 hy with rfl|h1
  ·exact lt_of_get H.blk
  ·exact H.own.blk_lt h1
 ·exact H.dlt y hy
theorem Rb.lt (H:Rb h x X Ls) (y:Nat) (hy:X.M y∨X.D y):y<h.size:=by
 obtain⟨lp,lc,xs,H⟩:=H
 exact H.lt y hy
theorem Rm.frame {Q:Nat→Prop} (H:Rm h x X Ls lp lc xs) (f:Fr Q h h') (hq: ∀y,X.M y∨X.D y→ ¬Q y):Rm h' x X Ls lp lc xs:=
 have hm: ∀y,X.M y→ ¬Q y:=fun y hy=>hq y (.inl hy)
 ⟨f.get H.blk (hm x ((H.m x).2 (.inl rfl))),H.own.frame f (fun y hy=>hm y ((H.m y).2 (.inr hy))),H.abs,fun y hy=>(H.dat y hy).frame f (fun z hz=>hq z (.inr hz)),H.m,H.bl,H.dis,fun y hy=>Nat.lt_of_lt_of_le (H.dlt y hy) f.1⟩
theorem Rb.frame {Q:Nat→Prop} (H:Rb h x X Ls) (f:Fr Q h h') (hq: ∀y,X.M y∨X.D y→ ¬Q y):Rb h' x X Ls:=by
 obtain⟨lp,lc,xs,H⟩:=H
 exact⟨lp,lc,xs,H.frame f hq⟩
theorem Rm.on (H:Rm h x X Ls lp lc xs) (f:Fr (fun _=>False) h h'):Rm h' x X Ls lp lc xs:=H.frame f (fun _ _=>id)
theorem Rb.on (H:Rb h x X Ls) (f:Fr (fun _=>False) h h'):Rb h' x X Ls:=H.frame f (fun _ _=>id)
theorem Rm.len (H:Rm h x X Ls lp lc xs):xs.length=Ls.length:=by rw[←H.abs,List.length_map]
theorem Rm.get (H:Rm h x X Ls lp lc xs) {y:RC} (hy:Ls[i]? =some y): ∃v,xs[i]? =some v∧v.abs=y:=by
 rw[←H.abs,List.getElem?_map] at hy
 cases hv:xs[i]? with
 |none=>rw[hv] at hy;cases hy
 |some v=>rw[hv] at hy;exact⟨v,rfl,Option.some.inj hy⟩
theorem Rm.at (H:Rm h x X Ls lp lc xs) {v:RW} (hv:xs[i]? =some v):Ls[i]? =some v.abs:=by rw[←H.abs,List.getElem?_map,hv];rfl
theorem cel {a:Addr} {y:RW} (hh:heldL a (cenc y) 0 h) (j:Nat) {w:Value} (hj:(cenc y)[j]? =some w):hcell h (a.add j)=some w:=by
 have:=heldL_at.1 hh j w hj
 rwa[Nat.zero_add] at this
theorem lde {g:Heap} {a:Addr} {y:RW} {K:Bool→Int→Int→ByteArray→ByteArray→Prop} (hh:heldL a (cenc y) 0 g) (hk:K y.e.ipn y.e.node y.e.svc y.e.host y.e.dem):ref04_Eid.LD g (a.add 1) K:=
 ⟨_,cel hh 1 rfl,_,by rw[add_add];exact cel hh 2 rfl,_,by rw[add_add];exact cel hh 3 rfl,_,by rw[add_add];exact cel hh 4 rfl,_,by rw[add_add];exact cel hh 5 rfl,hk⟩
theorem Rm.upd {K:Heap→Prop} {a:Addr} {y y':RW} {j:Nat} {w:Value} (H:Rm h x X Ls (some a) lc xs) (hy:xs[i]? =some y) (hj:j<11) (he:cenc y'=(cenc y).set j w) (hv:y'.v=y.v)
  (hk: ∀h',Rm h' x X (Ls.set i y'.abs) (some a) lc (xs.set i y')→StepF X h X h'→K h'):StoreP h ((a.add (i*11)).add j) w K:=by
 have hi:=(List.getElem?_eq_some_iff.1 hy).1
 rw[add_add]
 have hl:(xs.flatMap cenc).length=xs.length*11:=flat_len cenc 11 cenc_len xs
 refine H.own.store (by omega) ?_
 intro h' o' hs hoth
 have e:(xs.flatMap cenc).set (i*11+j) w=(xs.set i y').flatMap cenc:=by
  refine flat_set cenc 11 cenc_len xs i y' hi _ (by rw[List.length_set]) ?_ ?_
  ·intro k hk
   rw[List.getElem?_set_ne]
   intro e0
   subst e0
   rcases hk with hk|hk<;>omega
  ·intro k u hk hu
   rw[he] at hu
   by_cases ek:k=j
   ·subst ek
    rw[List.getElem?_set_self (by rw[cenc_len];exact hk)] at hu
    rw[List.getElem?_set_self (by omega)];exact hu
   ·rw[List.getElem?_set_ne (by omega)] at hu
    rw[List.getElem?_set_ne (by omega)]
    exact flat_at cenc 11 cenc_len xs i y hy k u hu
 rw[e] at o'
 have fr:Fr (inBlk (some a)) h h':=⟨by omega,fun y _ hn=>hoth y hn⟩
 have hD: ∀y,X.D y→ ¬inBlk (some a) y:=fun y hd hb=>H.dis y ((H.m y).2 (.inr hb)) hd
 refine hk h' ⟨by rw[List.length_set];exact fr.get H.blk H.bl,by rw[List.length_set];exact o', ?_, ?_,H.m,H.bl,H.dis,fun y hy=>Nat.lt_of_lt_of_le (H.dlt y hy) fr.1⟩ (StepF.of_fr (fr.mono (fun y _ hb=>(H.m y).2 (.inr hb))))
 ·rw[List.map_set,H.abs]
 ·intro z hz
  rcases List.mem_or_eq_of_mem_set hz with hz|rfl
  ·exact(H.dat z hz).frame fr hD
  ·rw[hv];exact(H.dat y (List.mem_of_getElem? hy)).frame fr hD
theorem there_ok (H:Rb h x X Ls) (hl:Ls.length≤1000000)
  (hk: ∀h' p' c' (ys:List RW),Own h' p' ys.length c' 11 (ys.flatMap cenc)→(∀y,inBlk p' y→h.size≤y)→ys.map RW.abs=Ls.filter (fun y=>decide (y.fate=0))→(∀y∈ys,y.v.ok h' X.D)→Fr (fun _=>False) h h'→R (.slice p' ys.length c') h'):
  CallsH Tryz.prog F.ref21_Table_There #[.pointer (some ⟨x,0,none⟩)] h R:=by
 obtain⟨lp,lc,xs,H⟩:=H
 have hlen:=H.len
 refine ref21_Table_There.walk ?_
 refine⟨fun op ol oc t g=> ∃(k:Nat) (ys:List RW),t=(k:Int)∧k≤xs.length∧ol=ys.length∧ys.length≤k∧Own g op ol oc 11 (ys.flatMap cenc)∧(∀y,inBlk op y→h.size≤y)∧ys.map RW.abs=(Ls.take k).filter (fun y=>decide (y.fate=0))∧(∀y∈ys,y∈xs)∧Fr (fun _=>False) h g,fun _ _ _ t _=>xs.length - t.toNat,
  ⟨0, [],rfl,by omega,rfl,by simp, .nil rfl rfl rfl rfl,(fun y ⟨a,e,_⟩=>by cases e),by simp,(fun y hy=>by cases hy),Fr.refl _ _⟩, ?_⟩
 rintro op ol oc _ g ⟨k,ys,rfl,hkn,rfl,hyk,o,hop,hab,hsub,fg⟩
 have Mg:=H.on fg
 refine⟨_,_,_,cell_at Mg.blk rfl, ?_⟩
 by_cases hlt:k<xs.length
 ·have q1:(k:Int)<((xs.length:Nat):Int):=by omega
  simp only[q1,decide_true,if_true,Int.toNat_natCast]
  have hx:xs[k]? =some xs[k]:=List.getElem?_eq_getElem hlt
  generalize xs[k]=v at hx
  have hLk:=H.at hx
  obtain⟨ab,aoff,rfl⟩:=Mg.own.addr (by omega)
  have held:=Mg.own.heldAt cenc_len hx
  refine JoinP.of fun J hJ=>⟨_,_,_,cell_at Mg.blk rfl,⟨by first|trivial|omega,by first|trivial|omega⟩,onSome_some.2 ⟨(v.fate:Int),cel held 10 rfl,JoinP.of fun J1 hJ1=> ?_⟩⟩
  subst hJ1;subst hJ
  have wr:IntKind.wrap .i64 ((k:Int)+1)=(k:Int)+1:=wrap_id (by omega) (by omega)
  by_cases hf:v.fate=0
  ·rw[if_pos (by rw[hf];rfl)]
   refine⟨_,_,_,cell_at Mg.blk rfl,⟨by first|trivial|omega,by first|trivial|omega⟩,onSome_some.2 (ref21_Copy.ldA held ?_)⟩
   refine den_append1 tC uC o rfl (fun w hw=>cenc_1 v w (by simpa using hw)) (by omega) (by omega) fun p5 c5 h5 o5 f5 g5=>⟨_,_,_,rfl, ?_⟩
   have zg:=fg.1
   have cat:ys.flatMap cenc++cenc v=(ys++ [v]).flatMap cenc:=by rw[List.flatMap_append];simp
   have ln:(ys++ [v]).length=ys.length+1:=by rw[List.length_append];rfl
   dsimp only
   rw[wr]
   refine⟨⟨k+1,ys++ [v],by omega,by omega,ln.symm,by omega,by rw[←cat];exact o5,fun y hy=>(g5 y hy).elim (hop y) (fun h2=>by omega), ?_,fun y hy=> ?_,fg.fresh f5 hop⟩,by show xs.length - Int.toNat ((k:Int)+1)<xs.length - k;omega⟩
   ·rw[List.map_append,hab,List.take_add_one,hLk,List.filter_append]
    have:decide (v.abs.fate=0)=true:=decide_eq_true hf
    simp[List.filter_cons,this]
   ·rcases List.mem_append.1 hy with hy|hy
    ·exact hsub y hy
    ·obtain rfl:=List.mem_singleton.1 hy
     exact List.mem_of_getElem? hx
  ·have hfi: ¬((v.fate:Int)==0)=true:=by simp only[beq_iff_eq];omega
   rw[if_neg hfi]
   rw[wr]
   refine⟨⟨k+1,ys,by omega,by omega,rfl,by omega,o,hop, ?_,hsub,fg⟩,by show xs.length - Int.toNat ((k:Int)+1)<xs.length - k;omega⟩
   rw[hab,List.take_add_one,hLk,List.filter_append]
   have:decide (v.abs.fate=0)=false:=decide_eq_false hf
   simp[List.filter_cons,this]
 ·have q1: ¬(k:Int)<((xs.length:Nat):Int):=by omega
  simp only[q1,decide_false,Bool.false_eq_true,if_false]
  rw[List.take_of_length_le (by omega)] at hab
  exact hk g op oc ys o hop hab (fun y hy=>Mg.dat y (hsub y hy)) fg
def isE (e:Ev) (y:RC):Bool:=decide (y.fate=0) && decide (y.c.e=e)
theorem is_ok (H:Rm h x X Ls lp lc xs) {y:RW} (hy:xs[i]? =some y) (e:Ev) (hk: ∀h',Fr (fun _=>False) h h'→R (.bool (isE e y.abs)) h'):CallsH Tryz.prog F.ref21_Table_is #[.pointer (some ⟨x,0,none⟩), .int .i64 (i:Int),ev5 e] h R:=by
 refine ref21_Table_is.walk (ref04_Eid.box fun b h1 eb hb f1=> ?_)
 have H1:=H.on f1
 have K:=hk h1 f1
 unfold isE at K
 have hi:=(List.getElem?_eq_some_iff.1 hy).1
 obtain⟨ab,aoff,rfl⟩:=H1.own.addr (by omega)
 have held:=H1.own.heldAt cenc_len hy
 simp only[Int.toNat_natCast]
 refine⟨_,_,_,cell_at H1.blk rfl,⟨by first|trivial|omega,by first|trivial|omega⟩,onSome_some.2 ⟨(y.fate:Int),cel held 10 rfl, ?_⟩⟩
 by_cases hf:y.fate=0
 ·rw[if_pos (by rw[hf];rfl)]
  refine⟨_,_,_,cell_at H1.blk rfl,⟨by first|trivial|omega,by first|trivial|omega⟩,onSome_some.2 (lde held (ref04_Eid.ld hb ⟨_,eqv04' (x:=y.e) (y:=e) rfl rfl, ?_⟩))⟩
  have e1:decide (y.abs.fate=0)=true:=decide_eq_true hf
  rw[e1,Bool.true_and] at K
  exact K
 ·rw[if_neg (by simp only[beq_iff_eq];omega)]
  have e1:decide (y.abs.fate=0)=false:=decide_eq_false hf
  rw[e1,Bool.false_and] at K
  exact K
def cntE (Ls:List RC) (e:Ev) (ready:Bool):Nat:=(Ls.filter (fun y=>isE e y && (!ready||decide (y.c.ses=0)))).length
theorem cnt_take {P:RC→Bool} {y:RC} {k:Nat} (hy:Ls[k]? =some y):((Ls.take (k+1)).filter P).length=((Ls.take k).filter P).length+if P y=true then 1 else 0:=by
 rw[List.take_add_one,hy,List.filter_append,List.length_append]
 cases hp:P y<;>simp[hp]
theorem count_ok (H:Rb h x X Ls) (hl:Ls.length≤1000000) (e:Ev) (ready:Bool) (hk: ∀h',Fr (fun _=>False) h h'→R (.int .i64 (cntE Ls e ready:Int)) h'):CallsH Tryz.prog F.ref21_Table_count #[.pointer (some ⟨x,0,none⟩),ev5 e, .bool ready] h R:=by
 obtain⟨lp,lc,xs,H⟩:=H
 have hlen:=H.len
 refine ref21_Table_count.walk (ref04_Eid.box fun b h1 eb hb f1=> ?_)
 refine⟨fun n t g=> ∃k:Nat,t=(k:Int)∧k≤xs.length∧n=(cntE (Ls.take k) e ready:Int)∧Fr (fun _=>False) h1 g,fun _ t _=>xs.length - t.toNat,⟨0,rfl,by omega,by simp[cntE],Fr.refl _ _⟩, ?_⟩
 rintro _ _ g ⟨k,rfl,hkn,rfl,fg⟩
 have Mg:=H.on (f1.tt fg)
 have hle:cntE (Ls.take k) e ready≤k:=by unfold cntE;exact Nat.le_trans (List.length_filter_le _ _) (by rw[List.length_take];omega)
 refine⟨_,_,_,cell_at Mg.blk rfl, ?_⟩
 by_cases hlt:k<xs.length
 ·have q1:(k:Int)<((xs.length:Nat):Int):=by omega
  simp only[q1,decide_true,if_true,Int.toNat_natCast]
  have hx:xs[k]? =some xs[k]:=List.getElem?_eq_getElem hlt
  generalize xs[k]=v at hx
  have hLk:=H.at hx
  refine JoinP.of fun J hJ=>JoinP.of fun J1 hJ1=> ?_
  have done: ∀(q:Bool) g',Fr (fun _=>False) g g'→q=(isE e v.abs && (!ready||decide (v.abs.c.ses=0)))→J1 q g':=fun q g' fg' hq=>by
   subst hJ1
   refine JoinP.of fun J2 hJ2=> ?_
   have ek:cntE (Ls.take (k+1)) e ready=cntE (Ls.take k) e ready+if q=true then 1 else 0:=by unfold cntE;rw[cnt_take hLk,hq]
   subst hJ2;subst hJ
   dsimp only
   rw[wrap_id (n:=(k:Int)+1) (by omega) (by omega)]
   cases q with
   |true=>
    rw[if_pos rfl,wrap_id (by omega) (by omega)]
    rw[if_pos rfl] at ek
    exact⟨⟨k+1,by omega,by omega,by omega,fg.tt fg'⟩,by show xs.length - Int.toNat ((k:Int)+1)<xs.length - k;omega⟩
   |false=>
    rw[if_neg (by decide)]
    rw[if_neg (by decide)] at ek
    exact⟨⟨k+1,by omega,by omega,by omega,fg.tt fg'⟩,by show xs.length - Int.toNat ((k:Int)+1)<xs.length - k;omega⟩
  refine ref04_Eid.ld (fg.get hb id) (is_ok Mg hx e fun g2 f2=>⟨_,rfl, ?_⟩)
  by_cases hi:isE e v.abs=true
  ·rw[if_pos hi]
   cases ready with
   |false=>rw[if_pos (by decide)];exact done _ g2 f2 (by rw[hi];rfl)
   |true=>
    rw[if_neg (by decide)]
    have M2:=Mg.on f2
    obtain⟨ab,aoff,rfl⟩:=M2.own.addr (by omega)
    refine⟨_,_,_,cell_at M2.blk rfl,⟨by first|trivial|omega,by first|trivial|omega⟩,onSome_some.2 ⟨v.ses,cel (M2.own.heldAt cenc_len hx) 8 rfl,done _ g2 f2 ?_⟩⟩
    rw[hi]
    show(v.ses==0)=(true && (false||decide (v.ses=0)))
    rw[Bool.eq_iff_iff];simp
  ·rw[if_neg hi]
   refine done _ g2 f2 ?_
   have:isE e v.abs=false:=by simpa using hi
   rw[this];rfl
 ·have q1: ¬(k:Int)<((xs.length:Nat):Int):=by omega
  simp only[q1,decide_false,Bool.false_eq_true,if_false]
  rw[List.take_of_length_le (by omega)]
  exact hk g (f1.tt fg)
def kx (y:RC):Nat:=if y.fate=0∧y.c.ses=0 then 1 else y.fate+2
def cntK (Ls:List RC) (j:Nat):Nat:=(Ls.filter (fun y=>decide (kx y=j))).length
theorem cntK_le (Ls:List RC) (j k:Nat):cntK (Ls.take k) j≤k:=by unfold cntK;exact Nat.le_trans (List.length_filter_le _ _) (by rw[List.length_take];omega)
theorem counts_ok (H:Rb h x X Ls) (hl:Ls.length≤1000000) (hf: ∀y∈Ls,y.fate≤3)
  (hk: ∀h',Fr (fun _=>False) h h'→R (.agg #[.int .i64 ((Ls.length:Nat):Int), .int .i64 (cntK Ls 1:Int), .int .i64 (cntK Ls 2:Int), .int .i64 (cntK Ls 3:Int), .int .i64 (cntK Ls 4:Int), .int .i64 (cntK Ls 5:Int)]) h'):
  CallsH Tryz.prog F.ref21_Table_Counts #[.pointer (some ⟨x,0,none⟩)] h R:=by
 obtain⟨lp,lc,xs,H⟩:=H
 have hlen:=H.len
 refine ref21_Table_Counts.walk (newP_of ?_)
 have f1:Fr (fun _=>False) h (h.push (.cells #[.int .i64 0, .int .i64 0, .int .i64 0, .int .i64 0, .int .i64 0, .int .i64 0] T.a6_int)):=Fr.push _ _
 have hb1:a6_int.at (h.push (.cells #[.int .i64 0, .int .i64 0, .int .i64 0, .int .i64 0, .int .i64 0, .int .i64 0] T.a6_int)) h.size 0 0 0 0 0 0:=push_new
 generalize h.push (.cells #[.int .i64 0, .int .i64 0, .int .i64 0, .int .i64 0, .int .i64 0, .int .i64 0] T.a6_int)=h1 at f1 hb1⊢
 refine⟨_,_,_,cell_at (H.on f1).blk rfl,a6_int.new fun b2 h2 e2 hb2 f2=> ?_⟩
 have F2:=f1.tt f2
 have z1:=lt_of_get hb1
 rw[hlen] at hb2
 refine⟨fun t g=> ∃k:Nat,t=(k:Int)∧k≤Ls.length∧a6_int.at g b2 ((Ls.length:Nat):Int) (cntK (Ls.take k) 1:Int) (cntK (Ls.take k) 2:Int) (cntK (Ls.take k) 3:Int) (cntK (Ls.take k) 4:Int) (cntK (Ls.take k) 5:Int)∧Fr (fun y=>y=b2) h2 g,fun t _=>Ls.length - t.toNat,⟨0,rfl,by omega,by simpa[cntK] using hb2,Fr.refl _ _⟩, ?_⟩
 rintro _ g ⟨k,rfl,hkn,hbg,fg⟩
 have nb: ∀y,X.M y∨X.D y→ ¬y=b2:=fun y hy e=>by have:=H.lt y hy;have:=f1.1;omega
 have Mg:Rm g x X Ls lp lc xs:=(H.on F2).frame fg nb
 refine⟨_,_,_,cell_at Mg.blk rfl, ?_⟩
 by_cases hlt:k<Ls.length
 ·have q1:(k:Int)<((xs.length:Nat):Int):=by omega
  simp only[q1,decide_true,if_true,Int.toNat_natCast]
  have hx:xs[k]? =some (xs[k]'(by omega)):=List.getElem?_eq_getElem _
  generalize xs[k]'(by omega)=v at hx
  have hLk:=H.at hx
  have hvf:v.fate≤3:=hf v.abs (List.mem_of_getElem? hLk)
  obtain⟨ab,aoff,rfl⟩:=Mg.own.addr (by omega)
  have held:=Mg.own.heldAt cenc_len hx
  have c1:=cntK_le Ls 1 k
  have c2:=cntK_le Ls 2 k
  have c3:=cntK_le Ls 3 k
  have c4:=cntK_le Ls 4 k
  have c5:=cntK_le Ls 5 k
  have ek: ∀j,cntK (Ls.take (k+1)) j=cntK (Ls.take k) j+if kx v.abs=j then 1 else 0:=fun j=>by
   unfold cntK
   rw[cnt_take hLk];simp only[decide_eq_true_eq]
  refine⟨_,_,_,cell_at Mg.blk rfl,⟨by first|trivial|omega,by first|trivial|omega⟩,onSome_some.2 ⟨(v.fate:Int),cel held 10 rfl,JoinP.of fun J hJ=> ?_⟩⟩
  have w2:IntKind.wrap .i64 ((v.fate:Int)+2)=((v.fate+2:Nat):Int):=by rw[wrap_id (by omega) (by omega)];omega
  rw[w2]
  rw[w2] at hJ
  have go: ∀t:Bool,(t=true↔v.fate=0∧v.ses=0)→J t g:=fun t ht=>by
   subst hJ
   dsimp only
   refine JoinP.of fun J1 hJ1=> ?_
   have fin: ∀n:Nat,n=kx v.abs→J1 (n:Int) g:=fun n hn=>by
    subst hJ1
    dsimp only
    rw[wrap_id (n:=(k:Int)+1) (by omega) (by omega)]
    have hn15:1≤n∧n≤5:=by rw[hn];unfold kx;split;omega;show 1≤v.fate+2∧v.fate+2≤5;omega
    have emeas: ∀g':Heap,(fun(t:Int) (_:Heap)=>Ls.length - t.toNat) ((k:Int)+1) g'<(fun(t:Int) (_:Heap)=>Ls.length - t.toNat) (k:Int) g:=fun g'=>by show Ls.length - Int.toNat ((k:Int)+1)<Ls.length - k;omega
    rw[←hn] at ek
    simp only[Int.toNat_natCast,Nat.mul_one]
    have hlt6:((0:Int)≤(n:Int)∧(n:Int)<((6:Nat):Int)):=⟨by omega,by omega⟩
    refine⟨hlt6, ?_⟩
    have st: ∀g':Heap,g'.size=g.size→(∀y,y≠b2→g'[y]? =g[y]?)→Fr (fun y=>y=b2) h2 g':=fun g' hs ho=>fg.tt ⟨by omega,fun y _ hn=>ho y hn⟩
    rcases(show n=1∨n=2∨n=3∨n=4∨n=5 by omega) with e|e|e|e|e<;>subst e
    all_goals
     refine⟨_,cell_at hbg rfl,hlt6,storeP_blk hbg (by simp) fun g' a' s' o'=>⟨⟨k+1,by omega,by omega, ?_,st g' s' o'⟩,emeas g'⟩⟩
     rw[wrap_id (by omega) (by omega)] at a'
     rw[ek 1,ek 2,ek 3,ek 4,ek 5]
     simpa[a6_int.at] using a'
   cases t with
   |true=>
    rw[if_pos rfl]
    exact fin 1 (by unfold kx;exact(if_pos (ht.1 rfl)).symm)
   |false=>
    rw[if_neg (by decide)]
    refine fin (v.fate+2) ?_
    unfold kx
    exact(if_neg (c:=v.fate=0∧v.ses=0) (fun hh=>by have:=ht.2 hh;cases this)).symm
  by_cases hz:v.fate=0
  ·rw[if_pos (by rw[hz];rfl)]
   refine⟨_,_,_,cell_at Mg.blk rfl,⟨by first|trivial|omega,by first|trivial|omega⟩,onSome_some.2 ⟨v.ses,cel held 8 rfl,go _ ?_⟩⟩
   simp[hz]
  ·rw[if_neg (by simp only[beq_iff_eq];omega)]
   exact go _ (by simp[hz])
 ·have q1: ¬(k:Int)<((xs.length:Nat):Int):=by omega
  simp only[q1,decide_false,Bool.false_eq_true,if_false]
  rw[List.take_of_length_le (by omega)] at hbg
  have hb1g:=fg.get (f2.get hb1 id) (by omega)
  refine a6_int.ld hbg (a6_int.set hb1g fun g2 a2 s2 o2=>a6_int.ld a2 ?_)
  refine hk g2 ((F2.fresh fg (fun y e=>by have:=f1.1;omega)).fresh (S:=fun y=>y=h.size) ⟨by omega,fun y _ hn=>o2 y hn⟩ (fun y e=>Nat.le_of_eq e.symm))
end Rcp
end Go.Proofs.YtgccegnmggjkjaaGreatDoor
set_option maxRecDepth 100000
namespace Go.Proofs.YtgccegnmggjkjaaGreatDoor
open Go.Den Go.Fields
namespace Rcp
open Eid Cps Fld
variable {h h' h0 : Heap} {x : Nat} {X : Ft} {R : Value → Heap → Prop} {p q : Option Addr} {c d i : Nat} {Ls : List RC} {lp : Option Addr} {lc : Nat} {xs : List RW}
def mayC (e:Ev) (n till:Nat):Bool:=decide (¬kindE e<1) && (decide (0<n) && (decide (n≤600) && decide (till≤1099511627776)))
theorem may_ok {k:Int} (e:Ev) {n cap:Nat} (till:Nat) (hk0:k=(till:Int)) (hk: ∀h',Fr (fun _=>False) h h'→R (.bool (mayC e n till)) h'):CallsH Tryz.prog F.ref21_May #[ev5 e, .slice p n cap, .int .u64 k] h R:=by
 subst hk0
 refine ref21_May.walk (ref04_Eid.box fun b h1 eb hb f1=>ref04_Eid.ld hb (rkind_ok e fun h2 f2=>⟨_,rfl, ?_⟩))
 have K:=hk h2 (f1.tt f2)
 unfold mayC at K
 by_cases q1:kindE e>0
 ·rw[if_pos (decide_eq_true q1)]
  rw[decide_eq_true (p:= ¬kindE e<1) (by omega),Bool.true_and] at K
  by_cases q2:0<n
  ·rw[if_pos (decide_eq_true (by omega))]
   rw[decide_eq_true q2,Bool.true_and] at K
   by_cases q3:n≤600
   ·rw[if_pos (decide_eq_true (by omega))]
    rw[decide_eq_true q3,Bool.true_and] at K
    have:decide ((till:Int)≤1099511627776)=decide (till≤1099511627776):=decide_eq_decide.2 ⟨by omega,by omega⟩
    rw[this];exact K
   ·rw[if_neg (by simp;omega)]
    rw[decide_eq_false q3] at K;exact K
  ·rw[if_neg (by simp;omega)]
   rw[decide_eq_false q2] at K;exact K
 ·rw[if_neg (by simpa using q1)]
  rw[decide_eq_false (p:= ¬kindE e<1) (by omega)] at K;exact K
def addE (Ls:List RC) (e:Ev) (n till:Nat):Int:=if mayC e n till=false then 1 else if cntE Ls e false≥16 then 15 else 0
theorem radd_ok {k : Int} {n cap : Nat} {t : List UInt8} (H : Rb h x X Ls) (hl : Ls.length ≤ 1000000) (e : Ev) (till : Nat) (hk0 : k = (till : Int)) (hr : Row h p (bc t)) (hn : n = t.length)
    (k1 : addE Ls e t.length till ≠ 0 → ∀ h', Fr (fun _ => False) h h' → R (.tuple #[.int .i64 0, .int .i64 (addE Ls e t.length till)]) h')
    (k2 : addE Ls e t.length till = 0 → ∀ h' X', Rb h' x X' (Ls ++ [⟨⟨Ls.length + 1, e, t, till, 0, 0⟩, 0⟩]) → StepF X h X' h' → R (.tuple #[.int .i64 ((Ls.length : Int) + 1), .int .i64 0]) h') :
    CallsH Tryz.prog F.ref21_Table_Add #[.pointer (some ⟨x, 0, none⟩), ev5 e, .slice p n cap, .int .u64 k] h R := by
  subst hn
  refine ref21_Table_Add.walk (ref04_Eid.box fun b h1 eb hb f1 => ref04_Eid.ld hb (may_ok e till hk0 fun h2 f2 => ⟨_, rfl, ?_⟩))
  have F2 := f1.tt f2
  by_cases q1 : mayC e t.length till = true
  · rw [if_neg (by simpa using q1)]
    refine ref04_Eid.ld (f2.get hb id) (count_ok (H.on F2) hl e false fun h3 f3 => ⟨_, rfl, ?_⟩)
    have F3 := F2.tt f3
    by_cases q2 : cntE Ls e false ≥ 16
    · have ea : addE Ls e t.length till = 15 := by unfold addE; rw [q1]; simp [q2]
      rw [if_pos (decide_eq_true (by omega))]
      rw [ea] at k1
      exact k1 (by decide) h3 F3
    · have ea : addE Ls e t.length till = 0 := by unfold addE; rw [q1]; simp [q2]
      rw [if_neg (by simp; omega)]
      have K := k2 ea
      clear k1 k2
      obtain ⟨lp, lc, xs, H⟩ := H
      have hlen := H.len
      have H3 := H.on F3
      have hm6 : t.length ≤ 600 := by
        unfold mayC at q1
        simp only [Bool.and_eq_true, decide_eq_true_eq] at q1
        exact q1.2.2.1
      have hb3 := (f2.tt f3).get hb id
      refine ⟨_, _, _, cell_at H3.blk rfl, ref04_Eid.ld hb3 (newP_of ?_)⟩
      have f4 : Fr (fun _ => False) h3 (h3.push (.cells #[.int .i64 0, .bool false, .int .u64 0, .int .u64 0, .string ⟨#[]⟩, .string ⟨#[]⟩, .slice none 0 0, .int .u64 0, .int .i64 0, .int .u64 0, .int .i64 0] T.ref21_Copy)) := Fr.push _ _
      have hb4 : ref21_Copy.at (h3.push (.cells #[.int .i64 0, .bool false, .int .u64 0, .int .u64 0, .string ⟨#[]⟩, .string ⟨#[]⟩, .slice none 0 0, .int .u64 0, .int .i64 0, .int .u64 0, .int .i64 0] T.ref21_Copy)) h3.size 0 false 0 0 ⟨#[]⟩ ⟨#[]⟩ none 0 0 0 0 0 0 := push_new
      generalize h3.push (.cells #[.int .i64 0, .bool false, .int .u64 0, .int .u64 0, .string ⟨#[]⟩, .string ⟨#[]⟩, .slice none 0 0, .int .u64 0, .int .i64 0, .int .u64 0, .int .i64 0] T.ref21_Copy) = h4 at f4 hb4 ⊢
      have z4 := lt_of_get hb4
      refine ⟨ref04_Eid.held (f4.get hb3 id), cell_at (H3.on f4).blk rfl, ref21_Copy.set hb4 fun h5 a5 s5 o5 => ?_⟩
      have F5 : Fr (fun _ => False) h h5 := (F3.tt f4).fresh (S := fun y => y = h3.size) ⟨by omega, fun y _ hn => o5 y hn⟩ (fun y e => by have := F3.1; omega)
      have F35 : Fr (fun _ => False) h3 h5 := f4.fresh (S := fun y => y = h3.size) ⟨by omega, fun y _ hn => o5 y hn⟩ (fun y e => Nat.le_of_eq e.symm)
      refine ⟨_, _, _, cell_at a5 rfl, den_append (cs := []) tU uU (.nil rfl rfl rfl rfl) (hr.frame F5 (fun _ _ => id)) (by rw [bc_len, Nat.mul_one]) (bc_one t) (by omega) (by omega) fun p6 c6 h6 o6 _ f6 g6 => ⟨_, _, _, rfl, ?_⟩⟩
      have f6 : Fr (fun _ => False) h5 h6 := f6.mono (fun y _ ⟨a, ea, _⟩ => by cases ea)
      have g6 : ∀ y, inBlk p6 y → h5.size ≤ y := fun y hy => (g6 y hy).elim (fun ⟨a, ea, _⟩ => by cases ea) id
      rw [Nat.zero_add, List.nil_append] at o6
      have a6 := f6.get a5 id
      refine storeP_blk a6 (by simp) fun h7 a7 s7 o7 => ?_
      have f7 : Fr (fun y => y = h3.size) h6 h7 := ⟨by omega, fun y _ hn => o7 y hn⟩
      have F7 : Fr (fun _ => False) h h7 := (F5.tt f6).fresh f7 (fun y e => by have := F3.1; omega)
      have H7 := H.on F7
      have o7' : Own h7 p6 t.length c6 1 (bc t) := o6.frame f7 (fun y hy e => by have := g6 y hy; omega)
      have wn : IntKind.wrap .i64 (((xs.length : Nat) : Int) + 1) = ((Ls.length + 1 : Nat) : Int) := by rw [hlen, wrap_id (by omega) (by omega)]; omega
      refine ⟨_, _, _, cell_at H7.blk rfl, ?_⟩
      have a7' : ref21_Copy.at h7 h3.size (IntKind.wrap .i64 (((xs.length : Nat) : Int) + 1)) e.ipn e.node e.svc e.host e.dem p6 (0 + t.length) c6 k 0 0 0 := a7
      refine ref21_Copy.ld a7' ?_
      subst hk0
      rw [wn, Nat.zero_add]
      rw [wn, Nat.zero_add] at a7'
      have nv : ∀ w ∈ (#[.int .i64 ((Ls.length + 1 : Nat) : Int), .bool e.ipn, .int .u64 e.node, .int .u64 e.svc, .string e.host, .string e.dem, .slice p6 t.length c6, .int .u64 (till : Int), .int .i64 0, .int .u64 0, .int .i64 0] : Array Value).toList, oneCell w = true := fun w hw => cenc_1 (⟨Ls.length + 1, e, ⟨p6, c6, t⟩, till, 0, 0, 0⟩ : RW) w (by simpa using hw)
      refine newP_of ⟨cell_at (H7.on (Fr.push _ _)).blk rfl, ?_⟩
      have app := den_append1 (P := Tryz.prog) (t := T.ref21_Copy) (ty := T.s_ref21_Copy) (K := fun v_3 h_9 => ∃ (t41_p : Option Addr) (t41_l t41_c : Nat), v_3 = .slice t41_p t41_l t41_c ∧
        StoreP h_9 ⟨x, 0, none⟩ (.slice t41_p t41_l t41_c) fun h_10 =>
        ∃ (t45 : Int), hcell h_10 ⟨h3.size, 0, none⟩ = some (.int .i64 t45) ∧
        R (.tuple #[.int .i64 t45, .int .i64 0]) h_10) tC uC H7.own (xs := #[.int .i64 ((Ls.length + 1 : Nat) : Int), .bool e.ipn, .int .u64 e.node, .int .u64 e.svc, .string e.host, .string e.dem, .slice p6 t.length c6, .int .u64 (till : Int), .int .i64 0, .int .u64 0, .int .i64 0]) rfl nv (by omega) (by omega) (fun p9 c9 h9 o9 f9 g9 => by
          have xl := lt_of_get H7.blk
          refine ⟨_, _, _, rfl, storeP_blk (f9.get H7.blk H7.bl) (by simp) fun h10 a10 s10 o10 => ?_⟩
          have hx9 : ¬ inBlk p9 x := fun hb => by
            rcases g9 x hb with h1 | h1
            · exact H7.bl h1
            · omega
          have f10 : Fr (fun y => y = x) h9 h10 := ⟨by omega, fun y _ hn => o10 y hn⟩
          have n3 : ∀ y, X.M y ∨ X.D y → y ≠ h3.size := fun y hy e => by have := H.lt y hy; have := F3.1; omega
          have b9 : ¬ inBlk lp h3.size := fun hb => n3 _ (.inl ((H7.m _).2 (.inr hb))) rfl
          have xn : x ≠ h3.size := n3 _ (.inl ((H7.m _).2 (.inl rfl)))
          have a9 := f10.get (f9.get a7' b9) (fun e => xn e.symm)
          refine ⟨_, cell_at a9 rfl, ?_⟩
          have e1 : ((Ls.length + 1 : Nat) : Int) = (Ls.length : Int) + 1 := by omega
          rw [e1]
          have zF := F7.1
          have z9 := f9.1
          have hcat : xs.flatMap cenc ++ cenc (⟨Ls.length + 1, e, ⟨p6, c6, t⟩, till, 0, 0, 0⟩ : RW) = (xs ++ [(⟨Ls.length + 1, e, ⟨p6, c6, t⟩, till, 0, 0, 0⟩ : RW)]).flatMap cenc := by rw [List.flatMap_append]; simp
          have o9' : Own h9 p9 (xs.length + 1) c9 11 ((xs ++ [(⟨Ls.length + 1, e, ⟨p6, c6, t⟩, till, 0, 0, 0⟩ : RW)]).flatMap cenc) := by rw [← hcat]; exact o9
          have z5 := F5.1
          have lpn : ∀ y, X.D y → ¬ inBlk lp y := fun y hd hb => H7.dis y ((H7.m y).2 (.inr hb)) hd
          have g6lp : ∀ y, inBlk p6 y → ¬ inBlk lp y := fun y hy hb => by have := g6 y hy; have := H.lt y (.inl ((H.m y).2 (.inr hb))); omega
          have g6x : ∀ y, inBlk p6 y → y ≠ x := fun y hy e => by have := g6 y hy; have := H.lt x (.inl ((H.m x).2 (.inl rfl))); omega
          have l7 : ∀ y, inBlk p6 y → y < h7.size := fun y hy => o7'.blk_lt hy
          refine K h10 ⟨fun y => y = x ∨ inBlk p9 y, fun y => X.D y ∨ inBlk p6 y⟩ ⟨p9, c9, xs ++ [⟨Ls.length + 1, e, ⟨p6, c6, t⟩, till, 0, 0, 0⟩], ⟨by rw [List.length_append]; exact a10, by rw [List.length_append]; exact o9'.frame f10 (fun y hy e => hx9 (e ▸ hy)), ?_, ?_, fun y => Iff.rfl, hx9, ?_, ?_⟩⟩ ⟨?_, ?_, ?_, fun y hy => .inl hy⟩
          · rw [List.map_append, H.abs]; rfl
          · intro z hz
            rcases List.mem_append.1 hz with hz | hz
            · exact (((H7.dat z hz).frame f9 lpn).frame f10 (fun y hd e => H7.dis y ((H7.m y).2 (.inl e)) hd)).mono (fun y => .inl)
            · obtain rfl := List.mem_singleton.1 hz
              exact BV.of_own ((o7'.frame f9 g6lp).frame f10 g6x) (fun y => .inr)
          · rintro y (rfl | hy) hd
            · rcases hd with hd | hd
              · exact H7.dis _ ((H7.m _).2 (.inl rfl)) hd
              · exact g6x _ hd rfl
            · rcases g9 y hy with h1 | h1
              · rcases hd with hd | hd
                · exact lpn y hd h1
                · exact g6lp y hd h1
              · rcases hd with hd | hd
                · have := H7.dlt y hd; omega
                · have := l7 y hd; omega
          · rintro y (hd | hd)
            · have := H7.dlt y hd; omega
            · have := l7 y hd; omega
          · refine ⟨by omega, fun y hy hn => ?_⟩
            rw [o10 y (fun e => hn ((H.m y).2 (.inl e))), f9.2 y (by omega) (fun hb => hn ((H.m y).2 (.inr hb)))]
            exact F7.2 y hy id
          · rintro y (rfl | hy)
            · exact .inl ((H.m _).2 (.inl rfl))
            · rcases g9 y hy with h1 | h1
              · exact .inl ((H.m y).2 (.inr h1))
              · exact .inr (by omega)
          · rintro y (hd | hd)
            · exact .inl hd
            · have := g6 y hd; exact .inr (by omega))
      exact app _ _ rfl rfl
  · have ea : addE Ls e t.length till = 1 := by unfold addE; rw [if_pos (by simpa using q1)]
    rw [if_pos (by simpa using q1)]
    rw [ea] at k1
    exact k1 (by decide) h2 F2
theorem uSI:Tryz.prog.underlying T.s_int=some (.slice T.int):=by kernel_rfl
end Rcp
end Go.Proofs.YtgccegnmggjkjaaGreatDoor
set_option maxRecDepth 100000
namespace Go.Proofs.YtgccegnmggjkjaaGreatDoor
open Go.Den Go.Fields
namespace Rcp
open Eid Cps Fld
variable {h h' h0 : Heap} {x b : Nat} {X Y : Ft} {R : Value → Heap → Prop} {p q : Option Addr} {c d i : Nat} {Ls : List RC}
def overC (y:RC):RC:=⟨{ y.c with ses:=0,dl:=0 },2⟩
def overL (Ls:List RC) (ms:List Nat):List RC:=Ls.mapIdx (fun i y=>if i∈ms then overC y else y)
theorem overL_nil:overL Ls []=Ls:=by
 unfold overL
 apply List.ext_getElem?
 intro i
 rw[List.getElem?_mapIdx]
 cases Ls[i]? <;>simp
theorem overL_len (ms:List Nat):(overL Ls ms).length=Ls.length:=by unfold overL;rw[List.length_mapIdx]
theorem overL_at {ms:List Nat} {i:Nat} :(overL Ls ms)[i]? =(Ls[i]?).map (fun y=>if i∈ms then overC y else y):=by unfold overL;rw[List.getElem?_mapIdx]
theorem overL_set {ms:List Nat} {j:Nat} {y:RC} (hy:(overL Ls ms)[j]? =some y):(overL Ls ms).set j (overC y)=overL Ls (ms++ [j]):=by
 apply List.ext_getElem?
 intro i
 rw[List.getElem?_set,overL_at,overL_at]
 rw[overL_at] at hy
 by_cases e:j=i
 ·subst e
  cases hL:Ls[j]? with
  |none=>rw[hL] at hy;cases hy
  |some z=>
   rw[hL] at hy
   have hy:=Option.some.inj hy
   have hlt:j<(overL Ls ms).length:=by rw[overL_len];exact(List.getElem?_eq_some_iff.1 hL).1
   rw[if_pos rfl,if_pos hlt]
   simp only[Option.map_some,List.mem_append,List.mem_singleton,or_true,if_true]
   rw[←hy]
   split<;>rfl
 ·rw[if_neg e]
  cases hL:Ls[i]? with
  |none=>rfl
  |some z=>
   have: ¬i=j:=fun h=>e h.symm
   simp[this]
def dueR (now:Int) (y:RC):Prop:=y.fate=0∧(y.c.till:Int)≤now
def least (Ls:List RC) (now:Int) (k:Nat) (m:Nat):Prop:= ∃y,Ls[m]? =some y∧m<k∧dueR now y∧ ∀j z,j<k→Ls[j]? =some z→dueR now z→y.c.till<z.c.till∨(y.c.till=z.c.till∧m≤j)
theorem pick_ok {now : Int} {K : Int → Heap → Prop} (H : Rb h x X Ls) (hl : Ls.length ≤ 1000000)
    (k1 : ∀ m, least Ls now Ls.length m → K (m : Int) h) (k2 : (∀ z ∈ Ls, ¬ dueR now z) → K (-1) h) :
    ∃ (I_1 : Int → Int → Heap → Prop) (mu_1 : Int → Int → Heap → Nat), I_1 (-1) 0 h ∧ ∀ (best : Int) (i : Int) (h_2 : Heap), I_1 best i h_2 →
      ∃ (t12_p : Option Addr) (t12_l t12_c : Nat), hcell h_2 ⟨x, 0, none⟩ = some (.slice t12_p t12_l t12_c) ∧
      if (decide (i < ((t12_l : Nat) : Int))) = true then
        JoinP (fun (best_1 : Int) (h_3 : Heap) =>
          (I_1 best_1 (IntKind.wrap .i64 (i + 1)) h_3 ∧ mu_1 best_1 (IntKind.wrap .i64 (i + 1)) h_3 < mu_1 best i h_2))
        (fun J =>
          JoinP (fun (t60 : Bool) (h_4 : Heap) =>
            JoinP (fun (best_2 : Int) (h_5 : Heap) =>
              J best_2 h_5)
            (fun J_2 =>
              if t60 = true then
                J_2 i h_4
              else
                J_2 best h_4))
          (fun J_1 =>
            ∃ (t20_p : Option Addr) (t20_l t20_c : Nat), hcell h_2 ⟨x, 0, none⟩ = some (.slice t20_p t20_l t20_c) ∧
            ((0 : Int) ≤ i ∧ i < ((t20_l : Nat) : Int)) ∧
            onSome t20_p fun a =>
            ∃ (t24 : Int), hcell h_2 ((a.add (Int.toNat i * 11)).add 10) = some (.int .i64 t24) ∧
            if (t24 == 0) = true then
              ∃ (t30_p : Option Addr) (t30_l t30_c : Nat), hcell h_2 ⟨x, 0, none⟩ = some (.slice t30_p t30_l t30_c) ∧
              ((0 : Int) ≤ i ∧ i < ((t30_l : Nat) : Int)) ∧
              onSome t30_p fun a_1 =>
              ∃ (t34 : Int), hcell h_2 ((a_1.add (Int.toNat i * 11)).add 7) = some (.int .u64 t34) ∧
              if (decide (t34 ≤ now)) = true then
                if (decide (best < 0)) = true then
                  J_1 true h_2
                else
                  ∃ (t45_p : Option Addr) (t45_l t45_c : Nat), hcell h_2 ⟨x, 0, none⟩ = some (.slice t45_p t45_l t45_c) ∧
                  ((0 : Int) ≤ i ∧ i < ((t45_l : Nat) : Int)) ∧
                  onSome t45_p fun a_2 =>
                  ∃ (t49 : Int), hcell h_2 ((a_2.add (Int.toNat i * 11)).add 7) = some (.int .u64 t49) ∧
                  ∃ (t53_p : Option Addr) (t53_l t53_c : Nat), hcell h_2 ⟨x, 0, none⟩ = some (.slice t53_p t53_l t53_c) ∧
                  ((0 : Int) ≤ best ∧ best < ((t53_l : Nat) : Int)) ∧
                  onSome t53_p fun a_3 =>
                  ∃ (t57 : Int), hcell h_2 ((a_3.add (Int.toNat best * 11)).add 7) = some (.int .u64 t57) ∧
                  J_1 (decide (t49 < t57)) h_2
              else
                J_1 false h_2
            else
              J_1 false h_2))
      else
        K best h_2 := by
  obtain ⟨lp, lc, xs, H⟩ := H
  have hlen := H.len
  refine ⟨fun best i g => g = h ∧ ∃ k : Nat, i = (k : Int) ∧ k ≤ xs.length ∧ ((best = -1 ∧ ∀ j z, j < k → Ls[j]? = some z → ¬ dueR now z) ∨ ∃ m : Nat, best = (m : Int) ∧ least Ls now k m), fun _ i _ => xs.length - i.toNat, ⟨rfl, 0, rfl, by omega, .inl ⟨rfl, fun j z hj => by omega⟩⟩, ?_⟩
  rintro best _ g ⟨rfl, k, rfl, hkn, hbest⟩
  refine ⟨_, _, _, cell_at H.blk rfl, ?_⟩
  by_cases hlt : k < xs.length
  · have q1 : (k : Int) < ((xs.length : Nat) : Int) := by omega
    simp only [q1, decide_true, if_true, Int.toNat_natCast]
    have hx : xs[k]? = some xs[k] := List.getElem?_eq_getElem hlt
    generalize xs[k] = v at hx
    have hLk := H.at hx
    obtain ⟨ab, aoff, rfl⟩ := H.own.addr (by omega)
    have held := H.own.heldAt cenc_len hx
    refine JoinP.of fun J hJ => JoinP.of fun J1 hJ1 => ?_
    have wr : IntKind.wrap .i64 ((k : Int) + 1) = (k : Int) + 1 := wrap_id (by omega) (by omega)
    have go : ∀ best' : Int, ((best' = -1 ∧ ∀ j z, j < k + 1 → Ls[j]? = some z → ¬ dueR now z) ∨ ∃ m : Nat, best' = (m : Int) ∧ least Ls now (k + 1) m) → J best' g := by
      intro best' hb'
      subst hJ
      try dsimp only
      rw [wr]
      exact ⟨⟨by first | trivial | rfl, k + 1, by omega, by omega, hb'⟩, by show xs.length - Int.toNat ((k : Int) + 1) < xs.length - k; omega⟩
    have stay : ¬ dueR now v.abs → J1 false g := by
      intro hnd
      subst hJ1
      refine JoinP.of fun J2 hJ2 => ?_
      subst hJ2
      simp only [Bool.false_eq_true, if_false]
      refine go best ?_
      rcases hbest with ⟨e, hno⟩ | ⟨m, e, y, hy, hm, hd, hmin⟩
      · refine .inl ⟨e, fun j z hj hz => ?_⟩
        by_cases ej : j = k
        · subst ej; rw [hLk] at hz; obtain rfl := Option.some.inj hz; exact hnd
        · exact hno j z (by omega) hz
      · refine .inr ⟨m, e, y, hy, by omega, hd, fun j z hj hz hdz => ?_⟩
        by_cases ej : j = k
        · subst ej; rw [hLk] at hz; obtain rfl := Option.some.inj hz; exact absurd hdz hnd
        · exact hmin j z (by omega) hz hdz
    refine ⟨_, _, _, cell_at H.blk rfl, ⟨by first | trivial | omega, by first | trivial | omega⟩, onSome_some.2 ⟨(v.fate : Int), cel held 10 rfl, ?_⟩⟩
    by_cases hf : v.fate = 0
    · rw [if_pos (by rw [hf]; rfl)]
      refine ⟨_, _, _, cell_at H.blk rfl, ⟨by first | trivial | omega, by first | trivial | omega⟩, onSome_some.2 ⟨(v.till : Int), cel held 7 rfl, ?_⟩⟩
      by_cases ht : (v.till : Int) ≤ now
      · have hdv : dueR now v.abs := ⟨hf, ht⟩
        simp only [ht, decide_true, if_true]
        rcases hbest with ⟨e, hno⟩ | ⟨m, e, y, hy, hm, hd, hmin⟩
        · rw [if_pos (by rw [e]; decide)]
          subst hJ1
          refine JoinP.of fun J2 hJ2 => ?_
          subst hJ2
          simp only [if_true]
          refine go (k : Int) (.inr ⟨k, rfl, v.abs, hLk, by omega, hdv, fun j z hj hz hdz => ?_⟩)
          by_cases ej : j = k
          · subst ej; rw [hLk] at hz; obtain rfl := Option.some.inj hz; exact .inr ⟨rfl, Nat.le_refl _⟩
          · exact absurd hdz (hno j z (by omega) hz)
        · have q2 : ¬ best < 0 := by omega
          simp only [q2, decide_false, Bool.false_eq_true, if_false]
          obtain ⟨w, hw, hwa⟩ := H.get hy
          have heldw := H.own.heldAt cenc_len hw
          refine ⟨_, _, _, cell_at H.blk rfl, ⟨by first | trivial | omega, by first | trivial | omega⟩, onSome_some.2 ⟨(v.till : Int), cel held 7 rfl, _, _, _, cell_at H.blk rfl, ⟨by omega, by omega⟩, onSome_some.2 ⟨(w.till : Int), by rw [e, Int.toNat_natCast]; exact cel heldw 7 rfl, ?_⟩⟩⟩
          have hwt : w.till = y.c.till := congrArg (fun r : RC => r.c.till) hwa
          subst hJ1
          refine JoinP.of fun J2 hJ2 => ?_
          subst hJ2
          by_cases hlt2 : v.till < w.till
          · have : (v.till : Int) < (w.till : Int) := by omega
            simp only [this, decide_true, if_true]
            refine go (k : Int) (.inr ⟨k, rfl, v.abs, hLk, by omega, hdv, fun j z hj hz hdz => ?_⟩)
            have hvt : v.abs.c.till = v.till := rfl
            by_cases ej : j = k
            · subst ej; rw [hLk] at hz; obtain rfl := Option.some.inj hz; exact .inr ⟨rfl, Nat.le_refl _⟩
            · rcases hmin j z (by omega) hz hdz with h1 | h1
              · left; omega
              · left; omega
          · have : ¬ (v.till : Int) < (w.till : Int) := by omega
            simp only [this, decide_false, Bool.false_eq_true, if_false]
            refine go best (.inr ⟨m, e, y, hy, by omega, hd, fun j z hj hz hdz => ?_⟩)
            by_cases ej : j = k
            · subst ej
              rw [hLk] at hz
              obtain rfl := Option.some.inj hz
              have hvt : v.abs.c.till = v.till := rfl
              rcases Nat.lt_or_ge y.c.till v.till with h1 | h1
              · left; omega
              · right; exact ⟨by omega, by omega⟩
            · exact hmin j z (by omega) hz hdz
      · simp only [ht, decide_false, Bool.false_eq_true, if_false]
        exact stay (fun hd => ht hd.2)
    · have hfi : ¬ ((v.fate : Int) == 0) = true := by simp only [beq_iff_eq]; omega
      rw [if_neg hfi]
      exact stay (fun hd => hf hd.1)
  · have q1 : ¬ (k : Int) < ((xs.length : Nat) : Int) := by omega
    simp only [q1, decide_false, Bool.false_eq_true, if_false]
    obtain rfl : k = xs.length := by omega
    rcases hbest with ⟨rfl, hno⟩ | ⟨m, rfl, hm⟩
    · refine k2 fun z hz => ?_
      obtain ⟨j, hj⟩ := List.getElem?_of_mem hz
      exact hno j z (by have := (List.getElem?_eq_some_iff.1 hj).1; omega) hj
    · rw [hlen] at hm
      exact k1 m hm
def kvR (Ls:List RC) (i:Nat):Heapq.E:=(((i+1:Nat):Int),(((Ls[i]?).map (fun y=>(y.c.till:Int))).getD 0))
theorem nodup_le: ∀ {n:Nat} {ms:List Nat},ms.Nodup→(∀i∈ms,i<n)→ms.length≤n
 |0,ms,_,hb=>by
  cases ms with
  |nil=>simp
  |cons a r=>have:=hb a (by simp);omega
 |n+1,ms,hn,hb=>by
  have h1:=nodup_le (n:=n) (ms:=ms.erase n) (hn.erase n) (fun i hi=>by
   have h2:=(List.Nodup.mem_erase_iff hn).1 hi
   have:=hb i h2.2
   omega)
  have h3:(ms.erase n).length=if n∈ms then ms.length - 1 else ms.length:=List.length_erase ..
  split at h3<;>omega
def freeR (now:Nat) (y:RC):RC:=if y.fate=0∧y.c.ses>0∧y.c.dl≤now then⟨{ y.c with ses:=0,dl:=0 },y.fate⟩ else y
theorem rpass_ok {k:Int} (now:Nat) (hk0:k=(now:Int)) (H:Rb h x X Ls) (hl:Ls.length≤1000000)
  (hk: ∀h' p' c' (ms:List Nat),Own h' p' ms.length c' 1 (ms.map fun(i:Nat)=> .int .i64 ((i:Int)+1))→(∀y,inBlk p' y→h.size≤y)→Rb h' x X ((overL Ls ms).map (freeR now))→StepF X h X h'→
   (ms.map (kvR Ls)).Pairwise Heapq.lt→(∀i,i∈ms↔ ∃y,Ls[i]? =some y∧dueR (now:Int) y)→R (.slice p' ms.length c') h'):
  CallsH Tryz.prog F.ref21_Table_Pass #[.pointer (some ⟨x,0,none⟩), .int .u64 k] h R:=by
 subst hk0
 refine ref21_Table_Pass.walk ?_
 refine⟨fun op ol oc g=> ∃ms:List Nat,ol=ms.length∧Own g op ol oc 1 (ms.map fun(i:Nat)=> .int .i64 ((i:Int)+1))∧(∀y,inBlk op y→h.size≤y)∧Rb g x X (overL Ls ms)∧StepF X h X g∧(ms.map (kvR Ls)).Pairwise Heapq.lt∧ms.Nodup∧(∀i∈ms,∃y,Ls[i]? =some y∧dueR (now:Int) y)∧(∀m∈ms,∀i y,i∉ms→Ls[i]? =some y→dueR (now:Int) y→Heapq.lt (kvR Ls m) (kvR Ls i)),fun _ ol _ _=>Ls.length - ol,
  ⟨[],rfl, .nil rfl rfl rfl rfl,(fun y ⟨a,e,_⟩=>by cases e),by rw[overL_nil];exact H,StepF.refl _ _, .nil, .nil,(fun i hi=>by cases hi),fun m hm=>by cases hm⟩, ?_⟩
 rintro op ol oc g ⟨ms,rfl,o,hop,B,st,hs,hnd,hdue,hmin⟩
 have hlen:(overL Ls ms).length=Ls.length:=overL_len ms
 have mlt: ∀i∈ms,i<Ls.length:=fun i hi=>by
  obtain⟨y,hy,_⟩:=hdue i hi
  exact(List.getElem?_eq_some_iff.1 hy).1
 have hml:=nodup_le hnd mlt
 have nop: ∀y,X.M y∨X.D y→ ¬inBlk op y:=fun y hy hq=>by have:=H.lt y hy;have:=hop y hq;omega
 refine pick_ok (now:=(now:Int)) B (by omega) (fun m hm=> ?_) (fun hno=> ?_)
 ·obtain⟨y,hy,hmk,hd,hleast⟩:=hm
  have q: ¬(m:Int)<0:=by omega
  simp only[q,decide_false,Bool.false_eq_true,if_false,Int.toNat_natCast]
  have hold:m∉ms∧Ls[m]? =some y:=by
   rw[overL_at] at hy
   cases hL:Ls[m]? with
   |none=>rw[hL] at hy;cases hy
   |some z=>
    rw[hL] at hy
    have hy:=Option.some.inj hy
    dsimp only at hy
    by_cases hmem:m∈ms
    ·rw[if_pos hmem] at hy
     have:=hd.1
     rw[←hy] at this
     cases this
    ·rw[if_neg hmem] at hy
     exact⟨hmem,by rw[hy]⟩
  have hml2:=nodup_le (n:=Ls.length) (ms:=ms++ [m]) (List.nodup_append.2 ⟨hnd,by simp,fun a ha b hb e=>by simp at hb;subst hb;exact hold.1 (e▸ha)⟩) (fun i hi=>by
   rcases List.mem_append.1 hi with hi|hi
   ·exact mlt i hi
   ·obtain rfl:=List.mem_singleton.1 hi
    exact(List.getElem?_eq_some_iff.1 hold.2).1)
  rw[List.length_append,List.length_singleton] at hml2
  have wm:IntKind.wrap .i64 ((m:Int)+1)=(m:Int)+1:=by rw[hlen] at hmk;exact wrap_id (by omega) (by omega)
  rw[wm]
  refine den_append1 Alarm.tI uSI o rfl (fun v hv=>by simp at hv;subst hv;rfl) (by omega) (by omega) fun p7 c7 h7 o7 f7 g7=>⟨_,_,_,rfl, ?_⟩
  obtain⟨lp,lc,xs,M⟩:=B
  have zz:=st.fr.1
  have M7:=M.frame f7 nop
  have hxl:=M7.len
  rw[hlen] at hmk
  obtain⟨v,hv,hva⟩:=M7.get hy
  obtain⟨ab,aoff,rfl⟩:=M7.own.addr (by omega)
  refine⟨_,_,_,cell_at M7.blk rfl,_,_,_,cell_at M7.blk rfl,_,_,_,cell_at M7.blk rfl,⟨by first|trivial|omega,by first|trivial|omega⟩,onSome_some.2 (M7.upd (y':= { v with fate:=2 }) hv (by decide) rfl rfl fun h8 M8 s8=>⟨⟨by first|trivial|omega,by first|trivial|omega⟩,onSome_some.2 (M8.upd (y':= { v with fate:=2,ses:=0 }) (List.getElem?_set_self (by omega)) (by decide) rfl rfl fun h9 M9 s9=>⟨⟨by first|trivial|omega,by first|trivial|omega⟩,onSome_some.2 (M9.upd (y':= { v with fate:=2,ses:=0,dl:=0 }) (List.getElem?_set_self (by rw[List.length_set];omega)) (by decide) rfl rfl fun h10 M10 s10=> ?_)⟩)⟩)⟩
  rw[List.set_set,List.set_set,List.set_set,List.set_set] at M10
  have S10:=(s8.trans s9).trans s10
  have B8:Rb h10 x X (overL Ls (ms++ [m])):=by
   rw[←overL_set hy]
   have e1:overC y=RW.abs { v with fate:=2,ses:=0,dl:=0 } :=by rw[←hva];rfl
   rw[e1]
   exact⟨_,_,_,M10⟩
  have hop7: ∀y,inBlk p7 y→h.size≤y:=fun y hy=>(g7 y hy).elim (hop y) (fun h2=>by omega)
  have s7:StepF X h X h7:=by
   refine⟨⟨Nat.le_trans st.fr.1 f7.1,fun y hy hn=> ?_⟩,st.newM,st.newD,st.oldD⟩
   rw[f7.2 y (by omega) (fun hq=>by have:=hop y hq;omega)]
   exact st.fr.2 y hy hn
  have ltm: ∀j z,j∉ms→j≠m→Ls[j]? =some z→dueR (now:Int) z→Heapq.lt (kvR Ls m) (kvR Ls j):=by
   intro j z hj hjm hz hdz
   have h1:(overL Ls ms)[j]? =some z:=by rw[overL_at,hz,Option.map_some,if_neg hj]
   have hjl:=(List.getElem?_eq_some_iff.1 hz).1
   have h2:=hleast j z (by omega) h1 hdz
   unfold kvR Heapq.lt
   rw[hold.2,hz]
   simp only[Option.map_some,Option.getD_some]
   rcases h2 with h2|h2
   ·left;omega
   ·right;omega
  refine⟨⟨ms++ [m],by rw[List.length_append];rfl, ?_,hop7,B8,s7.trans S10, ?_, ?_, ?_, ?_⟩,by show Ls.length - (ms.length+1)<Ls.length - ms.length;omega⟩
  ·rw[List.map_append]
   exact o7.frame S10.fr (fun y hy hm=>by have:=H.lt y (.inl hm);have:=hop7 y hy;omega)
  ·rw[List.map_append,List.pairwise_append]
   refine⟨hs,by simp,fun a ha b hb=> ?_⟩
   simp at hb
   subst hb
   obtain⟨m',hm',rfl⟩:=List.mem_map.1 ha
   exact hmin m' hm' m y hold.1 hold.2 hd
  ·exact List.nodup_append.2 ⟨hnd,by simp,fun a ha b hb e=>by simp at hb;subst hb;exact hold.1 (e▸ha)⟩
  ·intro i hi
   rcases List.mem_append.1 hi with hi|hi
   ·exact hdue i hi
   ·obtain rfl:=List.mem_singleton.1 hi
    exact⟨y,hold.2,hd⟩
  ·intro m' hm' i z hi hz hdz
   have hi1:i∉ms:=fun h=>hi (List.mem_append_left _ h)
   have hi2:i≠m:=fun h=>hi (by rw[h];simp)
   rcases List.mem_append.1 hm' with hm'|hm'
   ·exact hmin m' hm' i z hi1 hz hdz
   ·obtain rfl:=List.mem_singleton.1 hm'
    exact ltm i z hi1 hi2 hz hdz
 ·rw[if_pos (by decide)]
  have hmem: ∀i,i∈ms↔ ∃y,Ls[i]? =some y∧dueR (now:Int) y:=fun i=>⟨hdue i,fun⟨y,hy,hdy⟩=>by
   apply Classical.byContradiction
   intro hni
   have h1:(overL Ls ms)[i]? =some y:=by rw[overL_at,hy,Option.map_some,if_neg hni]
   exact hno y (List.mem_of_getElem? h1) hdy⟩
  have zz:=st.fr.1
  generalize hO:overL Ls ms=Os at B hlen hk
  refine⟨fun t g'=> ∃k:Nat,t=(k:Int)∧k≤Os.length∧Rb g' x X ((Os.take k).map (freeR now)++Os.drop k)∧StepF X g X g',fun t _=>Os.length - t.toNat,⟨0,rfl,by omega,by simpa using B,StepF.refl _ _⟩, ?_⟩
  rintro _ g' ⟨k,rfl,hkn,B',st'⟩
  obtain⟨lp,lc,xs,M⟩:=B'
  have hxl:xs.length=Os.length:=by rw[M.len,List.length_append,List.length_map,List.length_take,List.length_drop];omega
  refine⟨_,_,_,cell_at M.blk rfl, ?_⟩
  by_cases hlt:k<Os.length
  ·have q1:(k:Int)<((xs.length:Nat):Int):=by omega
   simp only[q1,decide_true,if_true,Int.toNat_natCast]
   have hx:xs[k]? =some (xs[k]'(by omega)):=List.getElem?_eq_getElem _
   generalize xs[k]'(by omega)=v at hx
   have e1:((Os.take k).map (freeR now)).length=k:=by rw[List.length_map,List.length_take];omega
   have e2:((Os.take (k+1)).map (freeR now)).length=k+1:=by rw[List.length_map,List.length_take];omega
   have hOk:Os[k]? =some v.abs:=by
    have:=M.at hx
    rw[List.getElem?_append_right (by omega),List.getElem?_drop,e1] at this
    rw[←this];congr 1;omega
   have ll:(Os.take (k+1)).map (freeR now)++Os.drop (k+1)=((Os.take k).map (freeR now)++Os.drop k).set k (freeR now v.abs):=by
    apply List.ext_getElem?
    intro j
    rw[List.getElem?_set]
    by_cases ej:k=j
    ·subst ej
     rw[if_pos rfl,if_pos (by rw[List.length_append,e1,List.length_drop];omega),List.getElem?_append_left (by omega),List.getElem?_map,List.getElem?_take,if_pos (by omega),hOk];rfl
    ·rw[if_neg ej]
     by_cases hj:j<k
     ·rw[List.getElem?_append_left (by omega),List.getElem?_append_left (by omega),List.getElem?_map,List.getElem?_map,List.getElem?_take,List.getElem?_take,if_pos (by omega),if_pos hj]
     ·rw[List.getElem?_append_right (by omega),List.getElem?_append_right (by omega),e1,e2,List.getElem?_drop,List.getElem?_drop];congr 1;omega
   have stay: ¬(v.fate=0∧v.ses>0∧v.dl≤now)→(Os.take (k+1)).map (freeR now)++Os.drop (k+1)=(Os.take k).map (freeR now)++Os.drop k:=fun hn=>by
    rw[ll]
    have e3:freeR now v.abs=v.abs:=if_neg hn
    rw[e3]
    have hk:=M.at hx
    apply List.ext_getElem?
    intro j
    rw[List.getElem?_set]
    split
    ·rename_i ej
     subst ej
     rw[if_pos (List.getElem?_eq_some_iff.1 hk).1,hk]
    ·rfl
   obtain⟨ab,aoff,rfl⟩:=M.own.addr (by omega)
   have held:=M.own.heldAt cenc_len hx
   have wr:IntKind.wrap .i64 ((k:Int)+1)=(k:Int)+1:=wrap_id (by omega) (by omega)
   rw[wr]
   refine JoinP.of fun J hJ=>JoinP.of fun J1 hJ1=> ?_
   have no: ¬(v.fate=0∧v.ses>0∧v.dl≤now)→J1 false g':=fun hn=>by
    subst hJ1
    refine JoinP.of fun J2 hJ2=> ?_
    rw[if_neg (by decide)]
    subst hJ2;subst hJ
    exact⟨⟨k+1,by omega,by omega,by rw[stay hn];exact⟨_,_,_,M⟩,st'⟩,by show Os.length - Int.toNat ((k:Int)+1)<Os.length - k;omega⟩
   refine⟨_,_,_,cell_at M.blk rfl,⟨by first|trivial|omega,by first|trivial|omega⟩,onSome_some.2 ⟨(v.fate:Int),cel held 10 rfl, ?_⟩⟩
   by_cases hf:v.fate=0
   ·rw[if_pos (by rw[hf];rfl)]
    refine⟨_,_,_,cell_at M.blk rfl,⟨by first|trivial|omega,by first|trivial|omega⟩,onSome_some.2 ⟨v.ses,cel held 8 rfl, ?_⟩⟩
    by_cases hse:v.ses>0
    ·rw[if_pos (decide_eq_true hse)]
     refine⟨_,_,_,cell_at M.blk rfl,⟨by first|trivial|omega,by first|trivial|omega⟩,onSome_some.2 ⟨(v.dl:Int),cel held 9 rfl, ?_⟩⟩
     by_cases hdl:v.dl≤now
     ·have:decide ((v.dl:Int)≤(now:Int))=true:=decide_eq_true (by omega)
      rw[this]
      clear no
      subst hJ1
      refine JoinP.of fun J2 hJ2=> ?_
      rw[if_pos rfl]
      refine⟨_,_,_,cell_at M.blk rfl,_,_,_,cell_at M.blk rfl,⟨by first|trivial|omega,by first|trivial|omega⟩,onSome_some.2 (M.upd (y':= { v with ses:=0 }) hx (by decide) rfl rfl fun h8 M8 s8=>⟨⟨by first|trivial|omega,by first|trivial|omega⟩,onSome_some.2 (M8.upd (y':= { v with ses:=0,dl:=0 }) (List.getElem?_set_self (by omega)) (by decide) rfl rfl fun h9 M9 s9=> ?_)⟩)⟩
      rw[List.set_set,List.set_set] at M9
      subst hJ2;subst hJ
      refine⟨⟨k+1,by omega,by omega, ?_,st'.trans (s8.trans s9)⟩,by show Os.length - Int.toNat ((k:Int)+1)<Os.length - k;omega⟩
      rw[ll]
      have e3:freeR now v.abs=RW.abs { v with ses:=0,dl:=0 } :=if_pos ⟨hf,hse,hdl⟩
      rw[e3]
      exact⟨_,_,_,M9⟩
     ·have:decide ((v.dl:Int)≤(now:Int))=false:=decide_eq_false (by omega)
      rw[this];exact no (fun hh=>hdl hh.2.2)
    ·rw[if_neg (by simpa using hse)];exact no (fun hh=>hse hh.2.1)
   ·rw[if_neg (by simp only[beq_iff_eq];omega)];exact no (fun hh=>hf hh.1)
  ·have q1: ¬(k:Int)<((xs.length:Nat):Int):=by omega
   simp only[q1,decide_false,Bool.false_eq_true,if_false]
   obtain rfl:k=Os.length:=by omega
   have e1:(Os.take Os.length).map (freeR now)++Os.drop Os.length=Os.map (freeR now):=by simp
   rw[e1] at M
   rw[←hO] at M
   refine hk g' op oc ms (o.frame st'.fr (fun y hy hm=>nop y (.inl hm) hy)) hop ⟨_,_,_,M⟩ (st.trans st') hs hmem
end Rcp
end Go.Proofs.YtgccegnmggjkjaaGreatDoor
set_option maxRecDepth 100000
namespace Go.Proofs.YtgccegnmggjkjaaGreatDoor
open Go.Den Go.Fields
namespace Rcp
open Eid Cps Fld
variable {h h' h0 g g0 g' : Heap} {x : Nat} {X : Ft} {R : Value → Heap → Prop} {p q : Option Addr} {c d i n : Nat} {Ls : List RC} {bs cs : List UInt8}
structure Acc (g0 g:Heap) (p:Option Addr) (c:Nat) (bs:List UInt8):Prop where
 own:Own g p bs.length c 1 (bc bs)
 new: ∀y,inBlk p y→g0.size≤y
 fr:Fr (fun _=>False) g0 g
theorem Acc.on (A:Acc g0 g p c bs) (f:Fr (fun _=>False) g g'):Acc g0 g' p c bs:=⟨A.own.frame f (fun _ _=>id),A.new,A.fr.tt f⟩
theorem Acc.back {g1:Heap} (A:Acc g1 g p c bs) (f:Fr (fun _=>False) g0 g1):Acc g0 g p c bs:=⟨A.own,fun y hy=>Nat.le_trans f.1 (A.new y hy),f.tt A.fr⟩
theorem Acc.app {K:Value→Heap→Prop} {cq m k:Nat} (A:Acc g0 g p c bs) (o:Row g q (bc cs)) (hm:m=bs.length) (hk0:k=cs.length) (hl:bs.length+cs.length≤1000000) (hk: ∀p' c' g',Acc g0 g' p' c' (bs++cs)→K (.slice p' (bs++cs).length c') g'):
  denSem Tryz.prog (Builtin.append_ #[T.s_uint8,T.s_uint8] T.s_uint8 #[.slice p m c, .slice q k cq]) g K:=by
 subst hm hk0
 refine den_append tU uU A.own o (by rw[bc_len,Nat.mul_one]) (bc_one _) (by omega) (by omega) fun p' c' g' o' _ f' n'=> ?_
 have z:=A.fr.1
 have:=hk p' c' g' ⟨by rw[bc_append,List.length_append];exact o',fun y hy=>(n' y hy).elim (A.new y) (fun h1=>by omega),A.fr.fresh f' A.new⟩
 rw[List.length_append] at this
 exact this
abbrev nats (ns:List Nat):List Value:=ns.map fun(k:Nat)=> .int .i64 (k:Int)
theorem numbers_ok {ns:List Nat} {cap:Nat} (hr:Row h p (nats ns)) (hn:n=ns.length) (hb: ∀k∈ns,k<9223372036854775808) (hl:ns.length≤1000) (hk: ∀p' c' h',Acc h h' p' c' (ns.flatMap encNum)→R (.slice p' (ns.flatMap encNum).length c') h'):CallsH Tryz.prog F.ref21_numbers #[.slice p n cap] h R:=by
 subst hn
 refine ref21_numbers.walk ⟨fun op ol oc t g=> ∃k:Nat,t=(k:Int)∧k≤ns.length∧ol=((ns.take k).flatMap encNum).length∧ol≤10*k∧Acc h g op oc ((ns.take k).flatMap encNum),fun _ _ _ t _=>ns.length - t.toNat,⟨0,rfl,by omega,rfl,by omega,⟨.nil rfl rfl rfl rfl,fun y ⟨a,e,_⟩=>(by cases e),Fr.refl _ _⟩⟩, ?_⟩
 rintro op _ oc _ g ⟨k,rfl,hkn,rfl,hlen,A⟩
 by_cases hlt:k<ns.length
 ·have q1:(k:Int)<((ns.length:Nat):Int):=by omega
  simp only[q1,decide_true,if_true,Int.toNat_natCast]
  have hx:ns[k]? =some ns[k]:=List.getElem?_eq_getElem hlt
  generalize ns[k]=v at hx
  have hv:=hb v (List.mem_of_getElem? hx)
  have rg:=hr.frame A.fr (fun _ _=>id)
  obtain⟨a,rfl⟩:=rg.some (by intro e;cases ns with|nil=>simp at hlt|cons=>simp at e)
  refine⟨⟨by first|trivial|omega,by first|trivial|omega⟩,onSome_some.2 ⟨(v:Int),by rw[Nat.mul_one];exact rg.cell (by rw[List.getElem?_map,hx];rfl), ?_⟩⟩
  refine refNum_ok v (wrap_u64_nat (by omega)) (by omega) fun p2 c2 g2 o2 u2=>⟨_,_,_,rfl, ?_⟩
  have ln:=(encNum_len v).2
  refine(A.on u2.fr).app o2.row' rfl rfl (by omega) fun p3 c3 g3 A3=>⟨_,_,_,rfl, ?_⟩
  have e1:(ns.take (k+1)).flatMap encNum=(ns.take k).flatMap encNum++encNum v:=by rw[List.take_add_one,hx,List.flatMap_append];simp
  rw[wrap_id (by omega) (by omega),←e1]
  rw[←e1] at A3
  exact⟨⟨k+1,by omega,by omega,rfl,by rw[e1,List.length_append];omega,A3⟩,by show ns.length - Int.toNat ((k:Int)+1)<ns.length - k;omega⟩
 ·have q1: ¬(k:Int)<((ns.length:Nat):Int):=by omega
  simp only[q1,decide_false,Bool.false_eq_true,if_false]
  rw[List.take_of_length_le (by omega)] at A⊢
  exact hk op oc g A
def headR (Ls:List RC):List UInt8:= [Ls.length+1,cntK Ls 3,cntK Ls 4,cntK Ls 5,(Ls.filter (fun y=>decide (y.fate=0))).length].flatMap encNum
def thereL (Ls:List RC):List Cp:=(Ls.filter (fun y=>decide (y.fate=0))).map RC.c
theorem rsave_ok (B:Rb h x X Ls) (hl:Ls.length≤50000) (hf: ∀y∈Ls,y.fate≤3) (ok: ∀z∈thereL Ls,okZ z)
  (hk: ∀h' p' l' c',BL h h' p' l' c' (headR Ls::(thereL Ls).map recC)→Fr (fun _=>False) h h'→R (.slice p' l' c') h'):
  CallsH Tryz.prog F.ref21_Table_Save #[.pointer (some ⟨x,0,none⟩)] h R:=by
 refine ref21_Table_Save.walk (counts_ok B (by omega) hf fun h1 f1=>⟨_,_,_,_,_,_,rfl,a6_int.new fun b2 h2 e2 hb2 f2=> ?_⟩)
 have F2:=f1.tt f2
 refine there_ok (B.on F2) (by omega) fun h3 p3 c3 ys o3 n3 hab hdat f3=>⟨_,_,_,rfl, ?_⟩
 have F3:=F2.tt f3
 obtain⟨lp,lc,xs,M⟩:=B
 have hlen:=M.len
 have M3:=M.on F3
 have hb3:=f3.get hb2 id
 have cl: ∀j,cntK Ls j≤Ls.length:=fun j=>by have:=cntK_le Ls j Ls.length;rwa[List.take_length] at this
 have hyl:ys.length=(Ls.filter (fun y=>decide (y.fate=0))).length:=by rw[←hab,List.length_map]
 have yle:ys.length≤Ls.length:=by rw[hyl];exact List.length_filter_le _ _
 have hit:(ys.map RW.abs).map RC.c=thereL Ls:=by rw[hab];rfl
 have c3':=cl 3
 have c4':=cl 4
 have c5':=cl 5
 refine⟨_,_,_,cell_at M3.blk rfl,⟨by omega,by omega⟩,_,cell_at hb3 rfl,⟨by omega,by omega⟩,_,cell_at hb3 rfl,⟨by omega,by omega⟩,_,cell_at hb3 rfl,newP_of ?_⟩
 have hw:IntKind.wrap .i64 (((xs.length:Nat):Int)+1)=((Ls.length+1:Nat):Int):=by rw[hlen,wrap_id (by omega) (by omega)];omega
 rw[hw]
 have f4:Fr (fun _=>False) h3 (h3.push (.cells #[.int .i64 ((Ls.length+1:Nat):Int), .int .i64 (cntK Ls 3:Int), .int .i64 (cntK Ls 4:Int), .int .i64 (cntK Ls 5:Int), .int .i64 ((ys.length:Nat):Int)] T.int)):=Fr.push _ _
 have r4:Row (h3.push (.cells #[.int .i64 ((Ls.length+1:Nat):Int), .int .i64 (cntK Ls 3:Int), .int .i64 (cntK Ls 4:Int), .int .i64 (cntK Ls 5:Int), .int .i64 ((ys.length:Nat):Int)] T.int)) (some ⟨h3.size,0,none⟩) (nats [Ls.length+1,cntK Ls 3,cntK Ls 4,cntK Ls 5,ys.length]):=row_new
 generalize h3.push (.cells #[.int .i64 ((Ls.length+1:Nat):Int), .int .i64 (cntK Ls 3:Int), .int .i64 (cntK Ls 4:Int), .int .i64 (cntK Ls 5:Int), .int .i64 ((ys.length:Nat):Int)] T.int)=h4 at f4 r4⊢
 have F4:=F3.tt f4
 refine⟨cell_at (M.on F4).blk rfl,numbers_ok r4 rfl (fun k hk=>by simp at hk;omega) (by simp) fun p5 c5 h5 A5=>⟨_,_,_,rfl, ?_⟩⟩
 have eh:([Ls.length+1,cntK Ls 3,cntK Ls 4,cntK Ls 5,ys.length]:List Nat).flatMap encNum=headR Ls:=by unfold headR;rw[hyl]
 rw[eh] at A5⊢
 have F5:=F4.tt A5.fr
 have z4:=F4.1
 refine⟨cell_at (M.on F5).blk rfl,newP_of ?_⟩
 have f6:Fr (fun _=>False) h5 (h5.push (.cells #[.slice p5 (headR Ls).length c5] T.s_uint8)):=Fr.push _ _
 have o6:Own (h5.push (.cells #[.slice p5 (headR Ls).length c5] T.s_uint8)) (some ⟨h5.size,0,none⟩) 1 1 1 (nenc ⟨p5,c5,headR Ls⟩):= .row h5.size 0 _ _ rfl push_new (Nat.le_refl _) (by simp) rfl (fun j v hj=>by rw[Nat.zero_add];simpa using hj)
 have B6:BL h (h5.push (.cells #[.slice p5 (headR Ls).length c5] T.s_uint8)) (some ⟨h5.size,0,none⟩) 1 1 [headR Ls]:=by
  refine⟨[⟨p5,c5,headR Ls⟩],inBlk p5,rfl,by simpa using o6,rfl, ?_, ?_,fun y ⟨a,e,e2⟩=>by cases e;rw[←e2];exact F5.1⟩
  ·intro v hv
   obtain rfl:=List.mem_singleton.1 hv
   exact BV.of_own (A5.own.frame f6 (fun _ _=>id)) (fun _=>id)
  ·intro y hy
   have h1:=A5.new y hy
   have h2:=A5.own.blk_lt hy
   exact⟨by omega,by rw[Array.size_push];omega,fun⟨a,e,e2⟩=>by cases e;have e2:h5.size=y:=e2;omega⟩
 generalize h5.push (.cells #[.slice p5 (headR Ls).length c5] T.s_uint8)=h6 at f6 B6⊢
 have hp6: ∀y,inBlk (some (⟨h5.size,0,none⟩:Addr)) y→h3.size≤y:=fun y ⟨a,e,e2⟩=>by cases e;rw[←e2];exact(f4.tt A5.fr).1
 generalize (some ⟨h5.size,0,none⟩:Option Addr)=p6 at B6 hp6⊢
 clear o6
 have F6:=F5.tt f6
 have F36:=f4.tt (A5.fr.tt f6)
 refine⟨cell_at (M.on F6).blk rfl,fun op ol oc t g=> ∃k:Nat,t=(k:Int)∧k≤ys.length∧BL h g op ol oc (headR Ls::((thereL Ls).take k).map recC)∧Fr (fun _=>False) h g∧Fr (fun _=>False) h3 g∧ ∀y,inBlk op y→h3.size≤y,fun _ _ _ t _=>ys.length - t.toNat,⟨0,rfl,by omega,by simpa using B6,F6,F36,hp6⟩, ?_⟩
 rintro op ol oc _ g ⟨k,rfl,hkn,Bg,Fg,F3g,hop3⟩
 by_cases hlt:k<ys.length
 ·have q1:(k:Int)<((ys.length:Nat):Int):=by omega
  simp only[q1,decide_true,if_true,Int.toNat_natCast]
  have hy:ys[k]? =some ys[k]:=List.getElem?_eq_getElem hlt
  generalize ys[k]=v at hy
  have hik:(thereL Ls)[k]? =some v.abs.c:=by rw[←hit,List.getElem?_map,List.getElem?_map,hy];rfl
  have kz:=ok v.abs.c (List.mem_of_getElem? hik)
  have kr:rightE v.e=true:=kz.r
  have kv:0≤v.e.svc:=kz.v
  have kd:v.v.b.length≤600:=kz.d
  have kn:v.num≤1000000:=kz.n
  have kt:v.till≤1099511627776:=kz.t
  have k0:0≤v.ses:=kz.s0
  have k1:v.ses≤1099511627776:=kz.s1
  have kl:v.dl≤1099511627776:=kz.l
  have lr:=recC_len kz
  have l0:=text_len kr kv
  have lt1:=encText_len (textE v.e)
  have lt2:=encText_len v.v.b
  have e1:=(encNum_len v.num).2
  have e2:=(encNum_len v.till).2
  have e3:=(encNum_len v.ses.toNat).2
  have e4:=(encNum_len v.dl).2
  have oy: ∀ {g':Heap},Fr (fun _=>False) g g'→Own g' p3 ys.length c3 11 (ys.flatMap cenc):=fun f=>o3.frame (F3g.tt f) (fun _ _=>id)
  obtain⟨ab,aoff,rfl⟩:=(oy (Fr.refl _ _)).addr (by omega)
  have hel: ∀ {g':Heap},Fr (fun _=>False) g g'→heldL ((⟨ab,aoff,none⟩:Addr).add (k*11)) (cenc v) 0 g':=fun f=>(oy f).heldAt cenc_len hy
  have bnd:((0:Int)≤(k:Int)∧(k:Int)<((ys.length:Nat):Int)):=⟨by omega,by omega⟩
  have dt:(str (textE v.e)).data.toList=textE v.e:=by unfold str;simp
  have c0:=cel (hel (Fr.refl _ _)) 0 rfl
  rw[add_zero_addr] at c0
  have fb1:Fr (fun _=>False) g (g.push (.cells #[.int .i64 (v.num:Int)] T.int)):=Fr.push _ _
  refine⟨⟨by first|trivial|omega,by first|trivial|omega⟩,onSome_some.2 ⟨(v.num:Int),c0,newP_of (numbers_ok (ns:= [v.num]) row_new rfl (fun k hk=>by simp at hk;omega) (by simp) fun q1 d1 g1 A1=>⟨_,_,_,rfl,⟨by first|trivial|omega,by first|trivial|omega⟩,onSome_some.2 ?_⟩)⟩⟩
  rw[List.flatMap_cons,List.flatMap_nil,List.append_nil] at A1
  have A1:=A1.back fb1
  refine lde (hel A1.fr) (rtext_ok v.e kr kv fun g2 f2=>⟨_,rfl,s2b fun q3 d3 g3 r3 _ f3 n3'=>⟨_,_,_,rfl, ?_⟩⟩)
  rw[dt] at r3
  have A3:=A1.on (f2.tt f3)
  refine refText_ok r3 (str_size _) (by omega) fun q4 d4 g4 o4 u4=>⟨_,_,_,rfl, ?_⟩
  refine(A3.on u4.fr).app o4.row' (by simp) rfl (by omega) fun q5 d5 g5 A5=>⟨_,_,_,rfl,⟨by first|trivial|omega,by first|trivial|omega⟩,onSome_some.2 ⟨_,_,_,cel (hel A5.fr) 6 rfl, ?_⟩⟩
  have rv:Row g5 v.v.p (bc v.v.b):=((hdat v (List.mem_of_getElem? hy)).row).frame (F3g.tt A5.fr) (fun _ _=>id)
  refine refText_ok rv rfl (by omega) fun q6 d6 g6 o6 u6=>⟨_,_,_,rfl, ?_⟩
  refine(A5.on u6.fr).app o6.row' rfl rfl (by simp only[List.length_append];omega) fun q7 d7 g7 A7=>⟨_,_,_,rfl,⟨by first|trivial|omega,by first|trivial|omega⟩,onSome_some.2 ⟨_,cel (hel A7.fr) 7 rfl, ?_⟩⟩
  refine refNum_ok v.till rfl (by omega) fun q8 d8 g8 o8 u8=>⟨_,_,_,rfl, ?_⟩
  refine(A7.on u8.fr).app o8.row' rfl rfl (by simp only[List.length_append];omega) fun q9 d9 g9 A9=>⟨_,_,_,rfl,⟨by first|trivial|omega,by first|trivial|omega⟩,onSome_some.2 ⟨_,cel (hel A9.fr) 8 rfl,newP_of ?_⟩⟩
  have es:v.ses=((v.ses.toNat:Nat):Int):=by omega
  have f10:Fr (fun _=>False) g9 (g9.push (.cells #[.int .i64 v.ses] T.int)):=Fr.push _ _
  have r10:Row (g9.push (.cells #[.int .i64 v.ses] T.int)) (some ⟨g9.size,0,none⟩) (nats [v.ses.toNat]):=by
   have:nats [v.ses.toNat]= [.int .i64 v.ses]:=by show [Value.int .i64 ((v.ses.toNat:Nat):Int)]=_;rw[←es]
   rw[this];exact row_new
  refine numbers_ok r10 rfl (fun k hk=>by simp at hk;omega) (by simp) fun q11 d11 g11 A11=>⟨_,_,_,rfl, ?_⟩
  rw[List.flatMap_cons,List.flatMap_nil,List.append_nil] at A11
  have x11:([v.ses.toNat]:List Nat).flatMap encNum=encNum v.ses.toNat:=by simp
  refine(A9.on (f10.tt A11.fr)).app A11.own.row' rfl (by rw[x11]) (by simp only[List.length_append];omega) fun q12 d12 g12 A12=>⟨_,_,_,rfl,⟨by first|trivial|omega,by first|trivial|omega⟩,onSome_some.2 ⟨_,cel (hel A12.fr) 9 rfl, ?_⟩⟩
  refine refNum_ok v.dl rfl (by omega) fun q13 d13 g13 o13 u13=>⟨_,_,_,rfl, ?_⟩
  refine(A12.on u13.fr).app o13.row' rfl rfl (by simp only[List.length_append];omega) fun q14 d14 g14 A14=>⟨_,_,_,rfl, ?_⟩
  have er:encNum v.num++encText (textE v.e)++encText v.v.b++encNum v.till++encNum v.ses.toNat++encNum v.dl=recC v.abs.c:=rfl
  rw[er] at A14⊢
  have zg:=Fg.1
  have bl:=Bg.len
  rw[List.length_cons,List.length_map,List.length_take] at bl
  refine(Bg.on A14.fr).push (by have:=A14.fr.1;omega) A14.own (fun y hy=>⟨by have:=A14.new y hy;omega,fun ho=>by have:=Bg.lt ho;have:=A14.new y hy;omega⟩) (by omega) fun p15 c15 h15 B15 f15 g15=>⟨_,_,_,rfl, ?_⟩
  rw[wrap_id (by omega) (by omega)]
  have hge: ∀y,inBlk op y→h.size≤y:=by obtain⟨_,_,_,_,_,_,_,h6'⟩:=Bg;exact h6'
  refine⟨⟨k+1,by omega,by omega, ?_,(Fg.tt A14.fr).fresh f15 hge,(F3g.tt A14.fr).fresh f15 hop3,fun y hy=>(g15 y hy).elim (hop3 y) (fun h1=>by have:=F3g.1;have:=A14.fr.1;omega)⟩,by show ys.length - Int.toNat ((k:Int)+1)<ys.length - k;omega⟩
  rw[List.take_add_one,hik,List.map_append]
  rw[List.cons_append] at B15
  exact B15
 ·have q1: ¬(k:Int)<((ys.length:Nat):Int):=by omega
  simp only[q1,decide_false,Bool.false_eq_true,if_false]
  have htl:(thereL Ls).length=ys.length:=by rw[←hit,List.length_map,List.length_map]
  rw[List.take_of_length_le (by omega)] at Bg
  exact hk g op ol oc Bg Fg
end Rcp
end Go.Proofs.YtgccegnmggjkjaaGreatDoor
set_option maxRecDepth 100000
set_option maxHeartbeats 4000000
namespace Go.Proofs.YtgccegnmggjkjaaGreatDoor
open Go.Den
variable {h : Heap} {R : Value → Heap → Prop}
theorem ref24_Table_of.walk {t : Nat} {token : Int} (hv :
 ∃ (I : Int → Heap → Prop) (mu : Int → Heap → Nat), I 0 h ∧ ∀ (i : Int) (h_1 : Heap), I i h_1 →
 ∃ t10_p t10_l t10_c, hcell h_1 ⟨t, 0, none⟩ = some (.slice t10_p t10_l t10_c) ∧
 if (decide (i < ((t10_l : Nat) : Int))) = true then
 ∃ t18_p t18_l t18_c, hcell h_1 ⟨t, 0, none⟩ = some (.slice t18_p t18_l t18_c) ∧
 ((0 : Int) ≤ i ∧ i < ((t18_l : Nat) : Int)) ∧
 onSome t18_p fun a =>
 ∃ t22, hcell h_1 ((a.add (Int.toNat i * 6)).add 1) = some (.int .u64 t22) ∧
 if (t22 == token) = true then
 R (.int .i64 i) h_1
 else
 (I (IntKind.wrap .i64 (i + 1)) h_1 ∧ mu (IntKind.wrap .i64 (i + 1)) h_1 < mu i h_1)
 else
 R (.int .i64 (-1)) h_1) : CallsH Tryz.prog F.ref24_Table_of #[.pointer (some ⟨t, 0, none⟩), .int .u64 token] h R :=
 callsH_of_body (.seq .leaf (.seq (.seq .leaf (.block (.loop [(5, .one (.int .i64))] (.seq (.seq .leaf (.cond .leaf .leaf)) (.seq (.block (.seq .leaf (.cond (.seq .leaf .leaf) .leaf))) .leaf))))) (.seq .leaf .leaf))) Tryz.func167 rfl rfl (Eq.mp (by kernel_rfl) hv)
theorem ref24_Table_Open.walk {t : Nat} {token : Int} (hv :
 JoinP (fun (t11 : Bool) (h_1 : Heap) =>
 if t11 = true then
 R (.tuple #[.int .i64 0, .int .i64 1]) h_1
 else
 Cl F.ref24_Table_of #[.pointer (some ⟨t, 0, none⟩), .int .u64 token] h_1 fun v h_2 =>
 ∃ t14, v = .int .i64 t14 ∧
 if (decide (t14 ≥ 0)) = true then
 R (.tuple #[.int .i64 0, .int .i64 12]) h_2
 else
 ∃ t19_p t19_l t19_c, hcell h_2 ⟨t, 0, none⟩ = some (.slice t19_p t19_l t19_c) ∧
 if (decide (((t19_l : Nat) : Int) ≥ 8)) = true then
 R (.tuple #[.int .i64 0, .int .i64 5]) h_2
 else
 ∃ t26_p t26_l t26_c, hcell h_2 ⟨t, 0, none⟩ = some (.slice t26_p t26_l t26_c) ∧
 ∃ t30_p t30_l t30_c, hcell h_2 ⟨t, 0, none⟩ = some (.slice t30_p t30_l t30_c) ∧
 NewP h_2 (.cells #[.int .i64 (IntKind.wrap .i64 (((t30_l : Nat) : Int) + 1)), .int .u64 token, .bool true, .bool false, .slice none 0 0, .slice none 0 0] T.ref24_Session) fun b h_3 =>
 hcell h_3 ⟨t, 0, none⟩ = some (.slice t30_p t30_l t30_c) ∧
 hcell h_3 ⟨t, 0, none⟩ = some (.slice t26_p t26_l t26_c) ∧
 denSem Tryz.prog (Builtin.append_ #[T.s_ref24_Session, T.s_ref24_Session] T.s_ref24_Session #[.slice t26_p t26_l t26_c, .slice (some ⟨b, 0, none⟩) 1 1]) h_3 fun v_1 h_4 =>
 ∃ t36_p t36_l t36_c, v_1 = .slice t36_p t36_l t36_c ∧
 hcell h_4 ⟨t, 0, none⟩ = some (.slice t30_p t30_l t30_c) ∧
 StoreP h_4 ⟨t, 0, none⟩ (.slice t36_p t36_l t36_c) fun h_5 =>
 ∃ t42_p t42_l t42_c, hcell h_5 ⟨t, 0, none⟩ = some (.slice t42_p t42_l t42_c) ∧
 R (.tuple #[.int .i64 ((t42_l : Nat) : Int), .int .i64 0]) h_5)
 (fun J =>
 if (decide (token < 1)) = true then
 J true h
 else
 J (decide (token > 2147483648)) h)) : CallsH Tryz.prog F.ref24_Table_Open #[.pointer (some ⟨t, 0, none⟩), .int .u64 token] h R :=
 callsH_of_body (.seq .leaf (.seq (.seq (.join [(11, .one (.bool))] .leaf) (.cond (.seq .leaf .leaf) .leaf)) (.seq (.seq .leaf (.cond (.seq .leaf .leaf) .leaf)) (.seq (.seq .leaf (.cond (.seq .leaf .leaf) .leaf)) (.seq (.plan (.op 0 (.op 1 (.op 2 (.op 3 (.op 4 (.op 5 (.op 6 (.op 7 (.op 8 (.op 9 (.op 10 (.op 11 (.op 12 (.op 13 (.op 14 (.op 15 (.op 16 (.op 17 .done))))))))))))))))))) (.seq .leaf .leaf)))))) Tryz.func114 rfl rfl (Eq.mp (by kernel_rfl) hv)
theorem ref24_bit.walk {is : Bool} (hv :
 if is = true then
 R (.int .u64 1) h
 else
 R (.int .u64 0) h) : CallsH Tryz.prog F.ref24_bit #[.bool is] h R :=
 callsH_of_body (.seq .leaf (.seq (.seq .leaf (.cond (.seq .leaf .leaf) .leaf)) (.seq .leaf .leaf))) Tryz.func197 rfl rfl (Eq.mp (by kernel_rfl) hv)
theorem ref24_Table_Save.walk {t : Nat} (hv :
 ∃ (I : Option Addr → Nat → Nat → Int → Heap → Prop) (mu : Option Addr → Nat → Nat → Int → Heap → Nat), I none 0 0 0 h ∧ ∀ (out_p : Option Addr) (out_l out_c : Nat) (i : Int) (h_1 : Heap), I out_p out_l out_c i h_1 →
 ∃ t15_p t15_l t15_c, hcell h_1 ⟨t, 0, none⟩ = some (.slice t15_p t15_l t15_c) ∧
 if (decide (i < ((t15_l : Nat) : Int))) = true then
 ∃ t23_p t23_l t23_c, hcell h_1 ⟨t, 0, none⟩ = some (.slice t23_p t23_l t23_c) ∧
 ((0 : Int) ≤ i ∧ i < ((t23_l : Nat) : Int)) ∧
 onSome t23_p fun a =>
 ref24_Session.LD h_1 (a.add (Int.toNat i * 6)) fun t26_0 t26_1 t26_2 t26_3 t26_4_p t26_4_l t26_4_c t26_5_p t26_5_l t26_5_c =>
 NewP h_1 (.cells #[.int .i64 0, .int .u64 0, .bool false, .bool false, .slice none 0 0, .slice none 0 0] T.ref24_Session) fun b h_2 =>
 ref24_Session.ST h_2 ⟨b, 0, none⟩ t26_0 t26_1 t26_2 t26_3 t26_4_p t26_4_l t26_4_c t26_5_p t26_5_l t26_5_c fun h_3 =>
 ∃ t28, hcell h_3 ⟨b, 0, none⟩ = some (.int .i64 t28) ∧
 ∃ t31, hcell h_3 ⟨b, 1, none⟩ = some (.int .u64 t31) ∧
 ∃ t33, hcell h_3 ⟨b, 2, none⟩ = some (.bool t33) ∧
 ∃ t36, hcell h_3 ⟨b, 3, none⟩ = some (.bool t36) ∧
 ∃ t39_p t39_l t39_c, hcell h_3 ⟨b, 4, none⟩ = some (.slice t39_p t39_l t39_c) ∧
 ∃ t43_p t43_l t43_c, hcell h_3 ⟨b, 5, none⟩ = some (.slice t43_p t43_l t43_c) ∧
 Cl F.ref24_bit #[.bool t33] h_3 fun v h_4 =>
 ∃ t34, v = .int .u64 t34 ∧
 hcell h_4 ⟨b, 5, none⟩ = some (.slice t43_p t43_l t43_c) ∧
 hcell h_4 ⟨b, 4, none⟩ = some (.slice t39_p t39_l t39_c) ∧
 hcell h_4 ⟨b, 3, none⟩ = some (.bool t36) ∧
 hcell h_4 ⟨b, 1, none⟩ = some (.int .u64 t31) ∧
 hcell h_4 ⟨b, 0, none⟩ = some (.int .i64 t28) ∧
 Cl F.ref24_bit #[.bool t36] h_4 fun v_1 h_5 =>
 ∃ t37, v_1 = .int .u64 t37 ∧
 hcell h_5 ⟨b, 5, none⟩ = some (.slice t43_p t43_l t43_c) ∧
 hcell h_5 ⟨b, 4, none⟩ = some (.slice t39_p t39_l t39_c) ∧
 hcell h_5 ⟨b, 1, none⟩ = some (.int .u64 t31) ∧
 hcell h_5 ⟨b, 0, none⟩ = some (.int .i64 t28) ∧
 NewP h_5 (.cells #[.int .u64 (IntKind.wrap .u64 t28), .int .u64 t31, .int .u64 t34, .int .u64 t37, .int .u64 (IntKind.wrap .u64 ((t39_l : Nat) : Int)), .int .u64 (IntKind.wrap .u64 ((t43_l : Nat) : Int))] T.uint64) fun b_1 h_6 =>
 hcell h_6 ⟨b, 5, none⟩ = some (.slice t43_p t43_l t43_c) ∧
 hcell h_6 ⟨b, 4, none⟩ = some (.slice t39_p t39_l t39_c) ∧
 hcell h_6 ⟨b, 0, none⟩ = some (.int .i64 t28) ∧
 ∃ (I_1 : Option Addr → Nat → Nat → Int → Heap → Prop) (mu_1 : Option Addr → Nat → Nat → Int → Heap → Nat), I_1 none 0 0 0 h_6 ∧ ∀ (head_p : Option Addr) (head_l head_c : Nat) (k : Int) (h_7 : Heap), I_1 head_p head_l head_c k h_7 →
 if (decide (k < 6)) = true then
 ((0 : Int) ≤ k ∧ k < ((6 : Nat) : Int)) ∧
 ∃ t55, hcell h_7 ((⟨b_1, 0, none⟩ : Addr).add (Int.toNat k * 1)) = some (.int .u64 t55) ∧
 Cl F.ref15_Num #[.int .u64 t55] h_7 fun v_2 h_8 =>
 ∃ t56_p t56_l t56_c, v_2 = .slice t56_p t56_l t56_c ∧
 denSem Tryz.prog (Builtin.append_ #[T.s_uint8, T.s_uint8] T.s_uint8 #[.slice head_p head_l head_c, .slice t56_p t56_l t56_c]) h_8 fun v_3 h_9 =>
 ∃ t57_p t57_l t57_c, v_3 = .slice t57_p t57_l t57_c ∧
 (I_1 t57_p t57_l t57_c (IntKind.wrap .i64 (k + 1)) h_9 ∧ mu_1 t57_p t57_l t57_c (IntKind.wrap .i64 (k + 1)) h_9 < mu_1 head_p head_l head_c k h_7)
 else
 NewP h_7 (.cells #[.slice head_p head_l head_c] T.s_uint8) fun b_2 h_10 =>
 denSem Tryz.prog (Builtin.append_ #[T.s_s_uint8, T.s_s_uint8] T.s_s_uint8 #[.slice out_p out_l out_c, .slice (some ⟨b_2, 0, none⟩) 1 1]) h_10 fun v_4 h_11 =>
 ∃ t61_p t61_l t61_c, v_4 = .slice t61_p t61_l t61_c ∧
 ∃ (I_2 : Option Addr → Nat → Nat → Int → Heap → Prop) (mu_2 : Option Addr → Nat → Nat → Int → Heap → Nat), I_2 t61_p t61_l t61_c 0 h_11 ∧ ∀ (out_p_1 : Option Addr) (out_l_1 out_c_1 : Nat) (k_1 : Int) (h_12 : Heap), I_2 out_p_1 out_l_1 out_c_1 k_1 h_12 →
 ∃ t64_p t64_l t64_c, hcell h_12 ⟨b, 4, none⟩ = some (.slice t64_p t64_l t64_c) ∧
 if (decide (k_1 < ((t64_l : Nat) : Int))) = true then
 ∃ t71_p t71_l t71_c, hcell h_12 ⟨b, 4, none⟩ = some (.slice t71_p t71_l t71_c) ∧
 ((0 : Int) ≤ k_1 ∧ k_1 < ((t71_l : Nat) : Int)) ∧
 onSome t71_p fun a_1 =>
 ∃ t75, hcell h_12 (a_1.add (Int.toNat k_1 * 2)) = some (.int .u64 t75) ∧
 ∃ t78_p t78_l t78_c, hcell h_12 ⟨b, 4, none⟩ = some (.slice t78_p t78_l t78_c) ∧
 ((0 : Int) ≤ k_1 ∧ k_1 < ((t78_l : Nat) : Int)) ∧
 onSome t78_p fun a_2 =>
 ∃ t82_p t82_l t82_c, hcell h_12 ((a_2.add (Int.toNat k_1 * 2)).add 1) = some (.slice t82_p t82_l t82_c) ∧
 Cl F.ref15_Num #[.int .u64 t75] h_12 fun v_5 h_13 =>
 ∃ t76_p t76_l t76_c, v_5 = .slice t76_p t76_l t76_c ∧
 hcell h_13 ((a_2.add (Int.toNat k_1 * 2)).add 1) = some (.slice t82_p t82_l t82_c) ∧
 hcell h_13 ⟨b, 4, none⟩ = some (.slice t78_p t78_l t78_c) ∧
 hcell h_13 ⟨b, 4, none⟩ = some (.slice t71_p t71_l t71_c) ∧
 Cl F.ref15_Text #[.slice t82_p t82_l t82_c] h_13 fun v_6 h_14 =>
 ∃ t83_p t83_l t83_c, v_6 = .slice t83_p t83_l t83_c ∧
 hcell h_14 ⟨b, 4, none⟩ = some (.slice t78_p t78_l t78_c) ∧
 hcell h_14 ⟨b, 4, none⟩ = some (.slice t71_p t71_l t71_c) ∧
 denSem Tryz.prog (Builtin.append_ #[T.s_uint8, T.s_uint8] T.s_uint8 #[.slice t76_p t76_l t76_c, .slice t83_p t83_l t83_c]) h_14 fun v_7 h_15 =>
 ∃ t84_p t84_l t84_c, v_7 = .slice t84_p t84_l t84_c ∧
 hcell h_15 ⟨b, 4, none⟩ = some (.slice t78_p t78_l t78_c) ∧
 hcell h_15 ⟨b, 4, none⟩ = some (.slice t71_p t71_l t71_c) ∧
 NewP h_15 (.cells #[.slice t84_p t84_l t84_c] T.s_uint8) fun b_3 h_16 =>
 hcell h_16 ⟨b, 4, none⟩ = some (.slice t78_p t78_l t78_c) ∧
 hcell h_16 ⟨b, 4, none⟩ = some (.slice t71_p t71_l t71_c) ∧
 denSem Tryz.prog (Builtin.append_ #[T.s_s_uint8, T.s_s_uint8] T.s_s_uint8 #[.slice out_p_1 out_l_1 out_c_1, .slice (some ⟨b_3, 0, none⟩) 1 1]) h_16 fun v_8 h_17 =>
 ∃ t86_p t86_l t86_c, v_8 = .slice t86_p t86_l t86_c ∧
 hcell h_17 ⟨b, 4, none⟩ = some (.slice t78_p t78_l t78_c) ∧
 hcell h_17 ⟨b, 4, none⟩ = some (.slice t71_p t71_l t71_c) ∧
 (I_2 t86_p t86_l t86_c (IntKind.wrap .i64 (k_1 + 1)) h_17 ∧ mu_2 t86_p t86_l t86_c (IntKind.wrap .i64 (k_1 + 1)) h_17 < mu_2 out_p_1 out_l_1 out_c_1 k_1 h_12)
 else
 ∃ (I_3 : Option Addr → Nat → Nat → Int → Heap → Prop) (mu_3 : Option Addr → Nat → Nat → Int → Heap → Nat), I_3 out_p_1 out_l_1 out_c_1 0 h_12 ∧ ∀ (out_p_2 : Option Addr) (out_l_2 out_c_2 : Nat) (k_2 : Int) (h_18 : Heap), I_3 out_p_2 out_l_2 out_c_2 k_2 h_18 →
 ∃ t89_p t89_l t89_c, hcell h_18 ⟨b, 5, none⟩ = some (.slice t89_p t89_l t89_c) ∧
 if (decide (k_2 < ((t89_l : Nat) : Int))) = true then
 ∃ t96_p t96_l t96_c, hcell h_18 ⟨b, 5, none⟩ = some (.slice t96_p t96_l t96_c) ∧
 ((0 : Int) ≤ k_2 ∧ k_2 < ((t96_l : Nat) : Int)) ∧
 onSome t96_p fun a_3 =>
 ∃ t99_p t99_l t99_c, hcell h_18 (a_3.add (Int.toNat k_2 * 1)) = some (.slice t99_p t99_l t99_c) ∧
 Cl F.ref15_Text #[.slice t99_p t99_l t99_c] h_18 fun v_9 h_19 =>
 ∃ t100_p t100_l t100_c, v_9 = .slice t100_p t100_l t100_c ∧
 NewP h_19 (.cells #[.slice t100_p t100_l t100_c] T.s_uint8) fun b_4 h_20 =>
 denSem Tryz.prog (Builtin.append_ #[T.s_s_uint8, T.s_s_uint8] T.s_s_uint8 #[.slice out_p_2 out_l_2 out_c_2, .slice (some ⟨b_4, 0, none⟩) 1 1]) h_20 fun v_10 h_21 =>
 ∃ t102_p t102_l t102_c, v_10 = .slice t102_p t102_l t102_c ∧
 (I_3 t102_p t102_l t102_c (IntKind.wrap .i64 (k_2 + 1)) h_21 ∧ mu_3 t102_p t102_l t102_c (IntKind.wrap .i64 (k_2 + 1)) h_21 < mu_3 out_p_2 out_l_2 out_c_2 k_2 h_18)
 else
 (I out_p_2 out_l_2 out_c_2 (IntKind.wrap .i64 (i + 1)) h_18 ∧ mu out_p_2 out_l_2 out_c_2 (IntKind.wrap .i64 (i + 1)) h_18 < mu out_p out_l out_c i h_1)
 else
 R (.slice out_p out_l out_c) h_1) : CallsH Tryz.prog F.ref24_Table_Save #[.pointer (some ⟨t, 0, none⟩)] h R :=
 callsH_of_body (.seq .leaf (.seq .leaf (.seq (.seq .leaf (.block (.loop [(3, .one (.slice)), (4, .one (.int .i64))] (.seq (.seq .leaf (.cond .leaf .leaf)) (.seq (.block (.seq .leaf (.seq (.plan (.op 0 (.op 1 (.op 2 (.op 3 (.op 4 (.op 5 (.op 6 (.op 8 (.op 9 (.op 11 (.op 12 (.op 13 (.op 14 (.op 15 (.op 16 (.op 17 (.op 18 (.op 7 (.op 10 (.op 19 (.op 20 .done)))))))))))))))))))))) (.seq .leaf (.seq (.seq .leaf (.block (.loop [(7, .one (.slice)), (8, .one (.int .i64))] (.seq (.seq .leaf (.cond .leaf .leaf)) (.seq (.block .leaf) .leaf))))) (.seq .leaf (.seq (.seq .leaf (.block (.loop [(3, .one (.slice)), (9, .one (.int .i64))] (.seq (.seq .leaf (.cond .leaf .leaf)) (.seq (.block (.plan (.op 0 (.op 1 (.op 2 (.op 3 (.op 4 (.op 5 (.op 6 (.op 8 (.op 9 (.op 10 (.op 11 (.op 12 (.op 13 (.op 7 (.op 14 (.op 15 (.op 16 (.op 17 (.op 18 .done))))))))))))))))))))) .leaf))))) (.seq .leaf (.block (.loop [(3, .one (.slice)), (10, .one (.int .i64))] (.seq (.seq .leaf (.cond .leaf .leaf)) (.seq (.block .leaf) .leaf)))))))))))) .leaf))))) (.seq .leaf .leaf)))) Tryz.func168 rfl rfl (Eq.mp (by kernel_rfl) hv)
theorem ref26_New.walk {self_0 : Bool} {self_1 : Int} {self_2 : Int} {self_3 : ByteArray} {self_4 : ByteArray} (hv :
 NewP h (.cells #[.bool self_0, .int .u64 self_1, .int .u64 self_2, .string self_3, .string self_4] T.ref04_Eid) fun b h_1 =>
 NewP h_1 (.cells #[.slice none 0 0] T.ref24_Table) fun b_1 h_2 =>
 NewP h_2 (.cells #[.slice none 0 0] T.ref22_Table) fun b_2 h_3 =>
 NewP h_3 (.cells #[.slice none 0 0] T.ref21_Table) fun b_3 h_4 =>
 NewP h_4 (.cells #[.slice none 0 0] T.ref23_Box) fun b_4 h_5 =>
 ref04_Eid.LD h_5 ⟨b, 0, none⟩ fun t11_0 t11_1 t11_2 t11_3 t11_4 =>
 NewP h_5 (.cells #[.pointer (some ⟨b_1, 0, none⟩), .pointer (some ⟨b_2, 0, none⟩), .pointer (some ⟨b_3, 0, none⟩), .pointer (some ⟨b_4, 0, none⟩), .bool t11_0, .int .u64 t11_1, .int .u64 t11_2, .string t11_3, .string t11_4, .int .u64 0, .int .u64 0, .int .u64 0, .int .i64 0] T.ref26_State) fun b_5 h_6 =>
 R (.pointer (some ⟨b_5, 0, none⟩)) h_6) : CallsH Tryz.prog F.ref26_New #[.agg #[.bool self_0, .int .u64 self_1, .int .u64 self_2, .string self_3, .string self_4]] h R :=
 callsH_of_body (.seq .leaf (.seq .leaf .leaf)) Tryz.func43 rfl rfl (Eq.mp (by kernel_rfl) hv)
theorem ref26_State_Pass.walk {s : Nat} {now : Int} (hv :
 if (decide (now > 1099511627776)) = true then
 R (.int .i64 1) h
 else
 ∃ t11, hcell h ⟨s, 11, none⟩ = some (.int .u64 t11) ∧
 if (decide (now < t11)) = true then
 R (.int .i64 18) h
 else
 StoreP h ⟨s, 11, none⟩ (.int .u64 now) fun h_1 =>
 ∃ t20, hcell h_1 ⟨s, 2, none⟩ = some (.pointer t20) ∧
 Cl F.ref21_Table_Pass #[.pointer t20, .int .u64 now] h_1 fun v h_2 =>
 ∃ t22_p t22_l t22_c, v = .slice t22_p t22_l t22_c ∧
 ∃ t26, hcell h_2 ⟨s, 3, none⟩ = some (.pointer t26) ∧
 Cl F.ref23_Box_Pass #[.pointer t26, .int .u64 now] h_2 fun v_1 h_3 =>
 ∃ t28_p t28_l t28_c, v_1 = .slice t28_p t28_l t28_c ∧
 R (.int .i64 0) h_3) : CallsH Tryz.prog F.ref26_State_Pass #[.pointer (some ⟨s, 0, none⟩), .int .u64 now] h R :=
 callsH_of_body (.seq .leaf (.seq (.seq .leaf (.cond (.seq .leaf .leaf) .leaf)) (.seq (.seq .leaf (.cond (.seq .leaf .leaf) .leaf)) (.seq .leaf (.seq .leaf (.seq .leaf (.seq .leaf .leaf))))))) Tryz.func109 rfl rfl (Eq.mp (by kernel_rfl) hv)
theorem ref26_State_Used.walk {s : Nat} {owner : Int} (hv :
 ∃ t11, hcell h ⟨s, 3, none⟩ = some (.pointer t11) ∧
 Cl F.ref23_Box_There #[.pointer t11] h fun v h_1 =>
 ∃ t12_p t12_l t12_c, v = .slice t12_p t12_l t12_c ∧
 ∃ (I : Int → Int → Heap → Prop) (mu : Int → Int → Heap → Nat), I 0 0 h_1 ∧ ∀ (n : Int) (i : Int) (h_2 : Heap), I n i h_2 →
 if (decide (i < ((t12_l : Nat) : Int))) = true then
 JoinP (fun (n_1 : Int) (h_3 : Heap) =>
 (I n_1 (IntKind.wrap .i64 (i + 1)) h_3 ∧ mu n_1 (IntKind.wrap .i64 (i + 1)) h_3 < mu n i h_2))
 (fun J =>
 JoinP (fun (t29 : Bool) (h_4 : Heap) =>
 JoinP (fun (n_2 : Int) (h_5 : Heap) =>
 J n_2 h_5)
 (fun J_2 =>
 if t29 = true then
 ((0 : Int) ≤ i ∧ i < ((t12_l : Nat) : Int)) ∧
 onSome t12_p fun a =>
 ∃ t35_p t35_l t35_c, hcell h_4 ((a.add (Int.toNat i * 5)).add 2) = some (.slice t35_p t35_l t35_c) ∧
 J_2 (IntKind.wrap .i64 (n + ((t35_l : Nat) : Int))) h_4
 else
 J_2 n h_4))
 (fun J_1 =>
 if (owner == 0) = true then
 J_1 true h_2
 else
 ((0 : Int) ≤ i ∧ i < ((t12_l : Nat) : Int)) ∧
 onSome t12_p fun a_1 =>
 ∃ t26, hcell h_2 ((a_1.add (Int.toNat i * 5)).add 1) = some (.int .i64 t26) ∧
 J_1 (t26 == owner) h_2))
 else
 R (.int .i64 n) h_2) : CallsH Tryz.prog F.ref26_State_Used #[.pointer (some ⟨s, 0, none⟩), .int .i64 owner] h R :=
 callsH_of_body (.seq .leaf (.seq .leaf (.seq .leaf (.seq (.seq .leaf (.block (.loop [(6, .one (.int .i64)), (7, .one (.int .i64))] (.seq (.seq .leaf (.cond .leaf .leaf)) (.seq (.join [(6, .one (.int .i64))] (.block (.seq (.join [(29, .one (.bool))] .leaf) (.join [(6, .one (.int .i64))] (.cond .leaf .leaf))))) .leaf))))) (.seq .leaf .leaf))))) Tryz.func116 rfl rfl (Eq.mp (by kernel_rfl) hv)
theorem ref26_State_Fits.walk {s : Nat} {owner : Int} {n : Int} (hv :
 if (decide (owner ≥ 1)) = true then
 if (decide (owner ≤ 1099511627776)) = true then
 Cl F.ref26_State_Used #[.pointer (some ⟨s, 0, none⟩), .int .i64 owner] h fun v h_1 =>
 ∃ t17, v = .int .i64 t17 ∧
 if (decide (n ≤ (IntKind.wrap .i64 (1600 - t17)))) = true then
 Cl F.ref26_State_Used #[.pointer (some ⟨s, 0, none⟩), .int .i64 0] h_1 fun v_1 h_2 =>
 ∃ t24, v_1 = .int .i64 t24 ∧
 R (.bool (decide (n ≤ (IntKind.wrap .i64 (4800 - t24))))) h_2
 else
 R (.bool false) h_1
 else
 R (.bool false) h
 else
 R (.bool false) h) : CallsH Tryz.prog F.ref26_State_Fits #[.pointer (some ⟨s, 0, none⟩), .int .i64 owner, .int .i64 n] h R :=
 callsH_of_body (.seq .leaf (.seq .leaf .leaf)) Tryz.func164 rfl rfl (Eq.mp (by kernel_rfl) hv)
theorem ref26_State_Put.walk {s : Nat} {owner : Int} {data_p : Option Addr} {data_l data_c : Nat} {v_until : Int} (hv :
 JoinP (fun (t24 : Bool) (h_1 : Heap) =>
 if t24 = true then
 R (.tuple #[.int .i64 0, .int .i64 15]) h_1
 else
 ∃ t28, hcell h_1 ⟨s, 3, none⟩ = some (.pointer t28) ∧
 Cl F.ref23_Box_Add #[.pointer t28, .int .i64 owner, .slice data_p data_l data_c, .int .u64 v_until] h_1 fun v h_2 =>
 ∃ t32_0 t32_1, v = .tuple #[.int .i64 t32_0, .int .i64 t32_1] ∧
 R (.tuple #[.int .i64 t32_0, .int .i64 t32_1]) h_2)
 (fun J =>
 ∃ t13, hcell h ⟨s, 3, none⟩ = some (.pointer t13) ∧
 Cl F.ref23_Box_There #[.pointer t13] h fun v_1 h_3 =>
 ∃ t14_p t14_l t14_c, v_1 = .slice t14_p t14_l t14_c ∧
 if (decide (((t14_l : Nat) : Int) ≥ 16)) = true then
 J true h_3
 else
 Cl F.ref26_State_Fits #[.pointer (some ⟨s, 0, none⟩), .int .i64 owner, .int .i64 ((data_l : Nat) : Int)] h_3 fun v_2 h_4 =>
 ∃ t22, v_2 = .bool t22 ∧
 J (!t22) h_4)) : CallsH Tryz.prog F.ref26_State_Put #[.pointer (some ⟨s, 0, none⟩), .int .i64 owner, .slice data_p data_l data_c, .int .u64 v_until] h R :=
 callsH_of_body (.seq .leaf (.seq (.seq (.join [(24, .one (.bool))] .leaf) (.cond (.seq .leaf .leaf) .leaf)) (.seq .leaf .leaf))) Tryz.func110 rfl rfl (Eq.mp (by kernel_rfl) hv)
theorem ref26_State_Save.walk {s : Nat} (hv :
 JoinP (fun (l : Option Addr) (h_1 : Heap) =>
 ref04_Eid.LD h_1 ⟨s, 4, none⟩ fun t35_0 t35_1 t35_2 t35_3 t35_4 =>
 Cl F.ref04_Text #[.agg #[.bool t35_0, .int .u64 t35_1, .int .u64 t35_2, .string t35_3, .string t35_4]] h_1 fun v h_2 =>
 ∃ t36, v = .string t36 ∧
 denSem Tryz.prog (convert T.string T.s_uint8 (.string t36)) h_2 fun v_1 h_3 =>
 ∃ t37_p t37_l t37_c, v_1 = .slice t37_p t37_l t37_c ∧
 Cl F.ref15_Text #[.slice t37_p t37_l t37_c] h_3 fun v_2 h_4 =>
 ∃ t38_p t38_l t38_c, v_2 = .slice t38_p t38_l t38_c ∧
 ∃ t42, hcell h_4 ⟨s, 11, none⟩ = some (.int .u64 t42) ∧
 ∃ t46, hcell h_4 ⟨s, 12, none⟩ = some (.int .i64 t46) ∧
 ∃ t52, hcell h_4 ⟨s, 9, none⟩ = some (.int .u64 t52) ∧
 ∃ t57, hcell h_4 ⟨s, 10, none⟩ = some (.int .u64 t57) ∧
 NewP h_4 (.cells #[.int .u64 t42, .int .u64 (IntKind.wrap .u64 t46), .int .u64 t52, .int .u64 t57] T.uint64) fun b h_5 =>
 hcell h_5 ⟨s, 12, none⟩ = some (.int .i64 t46) ∧
 ∃ (I : Option Addr → Nat → Nat → Int → Heap → Prop) (mu : Option Addr → Nat → Nat → Int → Heap → Nat), I t38_p t38_l t38_c 0 h_5 ∧ ∀ (head_p : Option Addr) (head_l head_c : Nat) (i : Int) (h_6 : Heap), I head_p head_l head_c i h_6 →
 if (decide (i < 4)) = true then
 ((0 : Int) ≤ i ∧ i < ((4 : Nat) : Int)) ∧
 ∃ t67, hcell h_6 ((⟨b, 0, none⟩ : Addr).add (Int.toNat i * 1)) = some (.int .u64 t67) ∧
 Cl F.ref15_Num #[.int .u64 t67] h_6 fun v_3 h_7 =>
 ∃ t68_p t68_l t68_c, v_3 = .slice t68_p t68_l t68_c ∧
 denSem Tryz.prog (Builtin.append_ #[T.s_uint8, T.s_uint8] T.s_uint8 #[.slice head_p head_l head_c, .slice t68_p t68_l t68_c]) h_7 fun v_4 h_8 =>
 ∃ t69_p t69_l t69_c, v_4 = .slice t69_p t69_l t69_c ∧
 (I t69_p t69_l t69_c (IntKind.wrap .i64 (i + 1)) h_8 ∧ mu t69_p t69_l t69_c (IntKind.wrap .i64 (i + 1)) h_8 < mu head_p head_l head_c i h_6)
 else
 ∃ (I_1 : Option Addr → Nat → Nat → Int → Heap → Prop) (mu_1 : Option Addr → Nat → Nat → Int → Heap → Nat), I_1 head_p head_l head_c 0 h_6 ∧ ∀ (head_p_1 : Option Addr) (head_l_1 head_c_1 : Nat) (i_1 : Int) (h_9 : Heap), I_1 head_p_1 head_l_1 head_c_1 i_1 h_9 →
 if (decide (i_1 < 4)) = true then
 ((0 : Int) ≤ i_1 ∧ i_1 < ((4 : Nat) : Int)) ∧
 onSome l fun a =>
 ∃ t77_p t77_l t77_c, hcell h_9 (a.add (Int.toNat i_1 * 1)) = some (.slice t77_p t77_l t77_c) ∧
 Cl F.ref15_Num #[.int .u64 (IntKind.wrap .u64 ((t77_l : Nat) : Int))] h_9 fun v_5 h_10 =>
 ∃ t80_p t80_l t80_c, v_5 = .slice t80_p t80_l t80_c ∧
 denSem Tryz.prog (Builtin.append_ #[T.s_uint8, T.s_uint8] T.s_uint8 #[.slice head_p_1 head_l_1 head_c_1, .slice t80_p t80_l t80_c]) h_10 fun v_6 h_11 =>
 ∃ t81_p t81_l t81_c, v_6 = .slice t81_p t81_l t81_c ∧
 (I_1 t81_p t81_l t81_c (IntKind.wrap .i64 (i_1 + 1)) h_11 ∧ mu_1 t81_p t81_l t81_c (IntKind.wrap .i64 (i_1 + 1)) h_11 < mu_1 head_p_1 head_l_1 head_c_1 i_1 h_9)
 else
 NewP h_9 (.cells #[.slice head_p_1 head_l_1 head_c_1] T.s_uint8) fun b_1 h_12 =>
 ∃ (I_2 : Option Addr → Nat → Nat → Int → Heap → Prop) (mu_2 : Option Addr → Nat → Nat → Int → Heap → Nat), I_2 (some ⟨b_1, 0, none⟩) 1 1 0 h_12 ∧ ∀ (out_p : Option Addr) (out_l out_c : Nat) (i_2 : Int) (h_13 : Heap), I_2 out_p out_l out_c i_2 h_13 →
 if (decide (i_2 < 4)) = true then
 ((0 : Int) ≤ i_2 ∧ i_2 < ((4 : Nat) : Int)) ∧
 onSome l fun a_1 =>
 ∃ t91_p t91_l t91_c, hcell h_13 (a_1.add (Int.toNat i_2 * 1)) = some (.slice t91_p t91_l t91_c) ∧
 denSem Tryz.prog (Builtin.append_ #[T.s_s_uint8, T.s_s_uint8] T.s_s_uint8 #[.slice out_p out_l out_c, .slice t91_p t91_l t91_c]) h_13 fun v_7 h_14 =>
 ∃ t92_p t92_l t92_c, v_7 = .slice t92_p t92_l t92_c ∧
 (I_2 t92_p t92_l t92_c (IntKind.wrap .i64 (i_2 + 1)) h_14 ∧ mu_2 t92_p t92_l t92_c (IntKind.wrap .i64 (i_2 + 1)) h_14 < mu_2 out_p out_l out_c i_2 h_13)
 else
 R (.slice out_p out_l out_c) h_13)
 (fun J =>
 ∃ t13, hcell h ⟨s, 0, none⟩ = some (.pointer t13) ∧
 ∃ t18, hcell h ⟨s, 1, none⟩ = some (.pointer t18) ∧
 ∃ t23, hcell h ⟨s, 2, none⟩ = some (.pointer t23) ∧
 ∃ t28, hcell h ⟨s, 3, none⟩ = some (.pointer t28) ∧
 (Cl F.ref24_Table_Save #[.pointer t13] h fun v_8 h_15 =>
 ∃ t14_p t14_l t14_c, v_8 = .slice t14_p t14_l t14_c ∧
 hcell h_15 ⟨s, 3, none⟩ = some (.pointer t28) ∧
 hcell h_15 ⟨s, 2, none⟩ = some (.pointer t23) ∧
 hcell h_15 ⟨s, 1, none⟩ = some (.pointer t18) ∧
 (Cl F.ref22_Table_Save #[.pointer t18] h_15 fun v_9 h_16 =>
 ∃ t19_p t19_l t19_c, v_9 = .slice t19_p t19_l t19_c ∧
 hcell h_16 ⟨s, 3, none⟩ = some (.pointer t28) ∧
 hcell h_16 ⟨s, 2, none⟩ = some (.pointer t23) ∧
 (Cl F.ref21_Table_Save #[.pointer t23] h_16 fun v_10 h_17 =>
 ∃ t24_p t24_l t24_c, v_10 = .slice t24_p t24_l t24_c ∧
 hcell h_17 ⟨s, 3, none⟩ = some (.pointer t28) ∧
 (Cl F.ref23_Box_Save #[.pointer t28] h_17 fun v_11 h_18 =>
 ∃ t29_p t29_l t29_c, v_11 = .slice t29_p t29_l t29_c ∧
 NewP h_18 (.cells #[.slice none 0 0, .slice none 0 0, .slice none 0 0, .slice none 0 0] T.a4_s_s_uint8) fun b_2 h_19 =>
 a4_s_s_uint8.ST h_19 ⟨b_2, 0, none⟩ t14_p t14_l t14_c t19_p t19_l t19_c t24_p t24_l t24_c t29_p t29_l t29_c fun h_20 =>
 J (some ⟨b_2, 0, none⟩) h_20) ∧
 (NewP h_17 (.cells #[.slice none 0 0, .slice none 0 0, .slice none 0 0, .slice none 0 0] T.a4_s_s_uint8) fun b_3 h_21 =>
 hcell h_21 ⟨s, 3, none⟩ = some (.pointer t28) ∧
 Cl F.ref23_Box_Save #[.pointer t28] h_21 fun v_12 h_22 =>
 ∃ t29_p_1 t29_l_1 t29_c_1, v_12 = .slice t29_p_1 t29_l_1 t29_c_1 ∧
 a4_s_s_uint8.ST h_22 ⟨b_3, 0, none⟩ t14_p t14_l t14_c t19_p t19_l t19_c t24_p t24_l t24_c t29_p_1 t29_l_1 t29_c_1 fun h_23 =>
 J (some ⟨b_3, 0, none⟩) h_23) ∧
 True) ∧
 (NewP h_16 (.cells #[.slice none 0 0, .slice none 0 0, .slice none 0 0, .slice none 0 0] T.a4_s_s_uint8) fun b_4 h_24 =>
 hcell h_24 ⟨s, 3, none⟩ = some (.pointer t28) ∧
 hcell h_24 ⟨s, 2, none⟩ = some (.pointer t23) ∧
 Cl F.ref21_Table_Save #[.pointer t23] h_24 fun v_13 h_25 =>
 ∃ t24_p_1 t24_l_1 t24_c_1, v_13 = .slice t24_p_1 t24_l_1 t24_c_1 ∧
 hcell h_25 ⟨s, 3, none⟩ = some (.pointer t28) ∧
 Cl F.ref23_Box_Save #[.pointer t28] h_25 fun v_14 h_26 =>
 ∃ t29_p_2 t29_l_2 t29_c_2, v_14 = .slice t29_p_2 t29_l_2 t29_c_2 ∧
 a4_s_s_uint8.ST h_26 ⟨b_4, 0, none⟩ t14_p t14_l t14_c t19_p t19_l t19_c t24_p_1 t24_l_1 t24_c_1 t29_p_2 t29_l_2 t29_c_2 fun h_27 =>
 J (some ⟨b_4, 0, none⟩) h_27) ∧
 True) ∧
 (NewP h_15 (.cells #[.slice none 0 0, .slice none 0 0, .slice none 0 0, .slice none 0 0] T.a4_s_s_uint8) fun b_5 h_28 =>
 hcell h_28 ⟨s, 3, none⟩ = some (.pointer t28) ∧
 hcell h_28 ⟨s, 2, none⟩ = some (.pointer t23) ∧
 hcell h_28 ⟨s, 1, none⟩ = some (.pointer t18) ∧
 Cl F.ref22_Table_Save #[.pointer t18] h_28 fun v_15 h_29 =>
 ∃ t19_p_1 t19_l_1 t19_c_1, v_15 = .slice t19_p_1 t19_l_1 t19_c_1 ∧
 hcell h_29 ⟨s, 3, none⟩ = some (.pointer t28) ∧
 hcell h_29 ⟨s, 2, none⟩ = some (.pointer t23) ∧
 Cl F.ref21_Table_Save #[.pointer t23] h_29 fun v_16 h_30 =>
 ∃ t24_p_2 t24_l_2 t24_c_2, v_16 = .slice t24_p_2 t24_l_2 t24_c_2 ∧
 hcell h_30 ⟨s, 3, none⟩ = some (.pointer t28) ∧
 Cl F.ref23_Box_Save #[.pointer t28] h_30 fun v_17 h_31 =>
 ∃ t29_p_3 t29_l_3 t29_c_3, v_17 = .slice t29_p_3 t29_l_3 t29_c_3 ∧
 a4_s_s_uint8.ST h_31 ⟨b_5, 0, none⟩ t14_p t14_l t14_c t19_p_1 t19_l_1 t19_c_1 t24_p_2 t24_l_2 t24_c_2 t29_p_3 t29_l_3 t29_c_3 fun h_32 =>
 J (some ⟨b_5, 0, none⟩) h_32) ∧
 True) ∧
 (NewP h (.cells #[.slice none 0 0, .slice none 0 0, .slice none 0 0, .slice none 0 0] T.a4_s_s_uint8) fun b_6 h_33 =>
 hcell h_33 ⟨s, 3, none⟩ = some (.pointer t28) ∧
 hcell h_33 ⟨s, 2, none⟩ = some (.pointer t23) ∧
 hcell h_33 ⟨s, 1, none⟩ = some (.pointer t18) ∧
 hcell h_33 ⟨s, 0, none⟩ = some (.pointer t13) ∧
 Cl F.ref24_Table_Save #[.pointer t13] h_33 fun v_18 h_34 =>
 ∃ t14_p_1 t14_l_1 t14_c_1, v_18 = .slice t14_p_1 t14_l_1 t14_c_1 ∧
 hcell h_34 ⟨s, 3, none⟩ = some (.pointer t28) ∧
 hcell h_34 ⟨s, 2, none⟩ = some (.pointer t23) ∧
 hcell h_34 ⟨s, 1, none⟩ = some (.pointer t18) ∧
 Cl F.ref22_Table_Save #[.pointer t18] h_34 fun v_19 h_35 =>
 ∃ t19_p_2 t19_l_2 t19_c_2, v_19 = .slice t19_p_2 t19_l_2 t19_c_2 ∧
 hcell h_35 ⟨s, 3, none⟩ = some (.pointer t28) ∧
 hcell h_35 ⟨s, 2, none⟩ = some (.pointer t23) ∧
 Cl F.ref21_Table_Save #[.pointer t23] h_35 fun v_20 h_36 =>
 ∃ t24_p_3 t24_l_3 t24_c_3, v_20 = .slice t24_p_3 t24_l_3 t24_c_3 ∧
 hcell h_36 ⟨s, 3, none⟩ = some (.pointer t28) ∧
 Cl F.ref23_Box_Save #[.pointer t28] h_36 fun v_21 h_37 =>
 ∃ t29_p_4 t29_l_4 t29_c_4, v_21 = .slice t29_p_4 t29_l_4 t29_c_4 ∧
 a4_s_s_uint8.ST h_37 ⟨b_6, 0, none⟩ t14_p_1 t14_l_1 t14_c_1 t19_p_2 t19_l_2 t19_c_2 t24_p_3 t24_l_3 t24_c_3 t29_p_4 t29_l_4 t29_c_4 fun h_38 =>
 J (some ⟨b_6, 0, none⟩) h_38) ∧
 True)) : CallsH Tryz.prog F.ref26_State_Save #[.pointer (some ⟨s, 0, none⟩)] h R :=
 callsH_of_body (.seq .leaf (.seq (.join [(3, .one (.ptr))] (.plan (.op 0 (.op 1 (.op 2 (.op 3 (.op 5 (.op 6 (.op 7 (.op 8 (.op 10 (.op 11 (.op 12 (.op 13 (.op 15 (.op 16 (.op 17 (.op 18 (.alts (.fork 4 (.alts (.fork 9 (.alts (.fork 14 (.alts (.fork 19 (.op 20 (.op 21 (.op 22 .done))) (.fork 21 (.op 19 (.op 20 (.op 22 .done))) .noalt))) (.fork 21 (.op 14 (.op 19 (.op 20 (.op 22 .done)))) .noalt))) (.fork 21 (.op 9 (.op 14 (.op 19 (.op 20 (.op 22 .done))))) .noalt))) (.fork 21 (.op 4 (.op 9 (.op 14 (.op 19 (.op 20 (.op 22 .done)))))) .noalt))))))))))))))))))))) (.seq .leaf (.seq (.plan (.op 0 (.op 1 (.op 2 (.op 3 (.op 4 (.op 5 (.op 6 (.op 7 (.op 8 (.op 9 (.op 10 (.op 11 (.op 12 (.op 13 (.op 14 (.op 15 (.op 16 (.op 17 (.op 18 (.op 19 (.op 20 .done)))))))))))))))))))))) (.seq (.seq .leaf (.block (.loop [(4, .one (.slice)), (6, .one (.int .i64))] (.seq (.seq .leaf (.cond .leaf .leaf)) (.seq (.block .leaf) .leaf))))) (.seq (.seq .leaf (.block (.loop [(4, .one (.slice)), (7, .one (.int .i64))] (.seq (.seq .leaf (.cond .leaf .leaf)) (.seq (.block .leaf) .leaf))))) (.seq .leaf (.seq (.seq .leaf (.block (.loop [(8, .one (.slice)), (9, .one (.int .i64))] (.seq (.seq .leaf (.cond .leaf .leaf)) (.seq (.block .leaf) .leaf))))) (.seq .leaf .leaf))))))))) Tryz.func117 rfl rfl (Eq.mp (by kernel_rfl) hv)
theorem law26_Same.walk {s : Nat} {x : Nat} (hv :
 JoinP (fun (t39 : Bool) (h_1 : Heap) =>
 if t39 = true then
 R (.bool false) h_1
 else
 Cl F.state_State_Save #[.pointer (some ⟨s, 0, none⟩)] h_1 fun v h_2 =>
 ∃ t41_p t41_l t41_c, v = .slice t41_p t41_l t41_c ∧
 Cl F.ref26_State_Save #[.pointer (some ⟨x, 0, none⟩)] h_2 fun v_1 h_3 =>
 ∃ t43_p t43_l t43_c, v_1 = .slice t43_p t43_l t43_c ∧
 Cl F.law19_Same #[.slice t41_p t41_l t41_c, .slice t43_p t43_l t43_c] h_3 fun v_2 h_4 =>
 ∃ t44, v_2 = .bool t44 ∧
 R (.bool t44) h_4)
 (fun J =>
 Cl F.law26_whole #[.pointer (some ⟨s, 0, none⟩)] h fun v_3 h_5 =>
 ∃ t6, v_3 = .bool t6 ∧
 if (!t6) = true then
 J true h_5
 else
 ∃ t12, hcell h_5 ⟨s, 6, none⟩ = some (.int .u64 t12) ∧
 ∃ t16, hcell h_5 ⟨x, 11, none⟩ = some (.int .u64 t16) ∧
 if (t12 != t16) = true then
 J true h_5
 else
 ∃ t23, hcell h_5 ⟨s, 7, none⟩ = some (.int .i64 t23) ∧
 ∃ t27, hcell h_5 ⟨x, 12, none⟩ = some (.int .i64 t27) ∧
 if (t23 != t27) = true then
 J true h_5
 else
 ∃ t34, hcell h_5 ⟨s, 4, none⟩ = some (.pointer t34) ∧
 Cl F.quota_Purse_All #[.pointer t34] h_5 fun v_4 h_6 =>
 ∃ t35, v_4 = .int .i64 t35 ∧
 hcell h_6 ⟨x, 12, none⟩ = some (.int .i64 t27) ∧
 hcell h_6 ⟨s, 7, none⟩ = some (.int .i64 t23) ∧
 hcell h_6 ⟨x, 11, none⟩ = some (.int .u64 t16) ∧
 hcell h_6 ⟨s, 6, none⟩ = some (.int .u64 t12) ∧
 Cl F.ref26_State_Used #[.pointer (some ⟨x, 0, none⟩), .int .i64 0] h_6 fun v_5 h_7 =>
 ∃ t37, v_5 = .int .i64 t37 ∧
 hcell h_7 ⟨x, 12, none⟩ = some (.int .i64 t27) ∧
 hcell h_7 ⟨s, 7, none⟩ = some (.int .i64 t23) ∧
 hcell h_7 ⟨x, 11, none⟩ = some (.int .u64 t16) ∧
 hcell h_7 ⟨s, 6, none⟩ = some (.int .u64 t12) ∧
 J (t35 != t37) h_7)) : CallsH Tryz.prog F.law26_Same #[.pointer (some ⟨s, 0, none⟩), .pointer (some ⟨x, 0, none⟩)] h R :=
 callsH_of_body (.seq .leaf (.seq (.seq (.join [(39, .one (.bool))] (.plan (.op 0 (.op 1 (.op 2 (.op 3 (.op 4 (.op 5 (.op 6 (.op 7 (.op 8 (.op 9 (.op 10 (.op 11 (.op 12 (.op 13 (.op 14 (.op 15 (.op 16 (.op 17 (.op 18 (.op 19 (.op 20 (.op 21 (.op 22 (.op 23 (.op 24 (.op 25 (.op 26 (.op 27 (.op 28 (.op 29 (.op 31 (.op 30 (.op 32 (.op 33 (.op 34 .done))))))))))))))))))))))))))))))))))))) (.cond (.seq .leaf .leaf) .leaf)) (.seq .leaf .leaf))) Tryz.func45 rfl rfl (Eq.mp (by kernel_rfl) hv)
theorem law26_Do.walk {s : Nat} {x : Nat} {o_0 : Int} {o_1 : Int} {o_2 : Int} {o_3_p : Option Addr} {o_3_l o_3_c : Nat} {o_4 : Int} (hv :
 NewP h (.cells #[.int .i64 o_0, .int .i64 o_1, .int .i64 o_2, .slice o_3_p o_3_l o_3_c, .int .u64 o_4] T.law26_Op) fun b h_1 =>
 ∃ t23, hcell h_1 ⟨b, 0, none⟩ = some (.int .i64 t23) ∧
 if (t23 == 0) = true then
 ∃ t28, hcell h_1 ⟨b, 4, none⟩ = some (.int .u64 t28) ∧
 ∃ t32, hcell h_1 ⟨b, 4, none⟩ = some (.int .u64 t32) ∧
 Cl F.state_State_Pass #[.pointer (some ⟨s, 0, none⟩), .int .u64 t28] h_1 fun v h_2 =>
 ∃ t29, v = .int .i64 t29 ∧
 hcell h_2 ⟨b, 4, none⟩ = some (.int .u64 t32) ∧
 Cl F.ref26_State_Pass #[.pointer (some ⟨x, 0, none⟩), .int .u64 t32] h_2 fun v_1 h_3 =>
 ∃ t33, v_1 = .int .i64 t33 ∧
 R (.bool (t29 == t33)) h_3
 else
 if (t23 == 1) = true then
 ∃ t40, hcell h_1 ⟨b, 2, none⟩ = some (.int .i64 t40) ∧
 ∃ t42_p t42_l t42_c, hcell h_1 ⟨b, 3, none⟩ = some (.slice t42_p t42_l t42_c) ∧
 ∃ t44, hcell h_1 ⟨b, 4, none⟩ = some (.int .u64 t44) ∧
 Cl F.state_State_Put #[.pointer (some ⟨s, 0, none⟩), .int .i64 t40, .slice t42_p t42_l t42_c, .int .u64 t44] h_1 fun v_2 h_4 =>
 ∃ t45_0 t45_1, v_2 = .tuple #[.int .i64 t45_0, .int .i64 t45_1] ∧
 ∃ t51, hcell h_4 ⟨b, 2, none⟩ = some (.int .i64 t51) ∧
 ∃ t53_p t53_l t53_c, hcell h_4 ⟨b, 3, none⟩ = some (.slice t53_p t53_l t53_c) ∧
 ∃ t55, hcell h_4 ⟨b, 4, none⟩ = some (.int .u64 t55) ∧
 Cl F.ref26_State_Put #[.pointer (some ⟨x, 0, none⟩), .int .i64 t51, .slice t53_p t53_l t53_c, .int .u64 t55] h_4 fun v_3 h_5 =>
 ∃ t56_0 t56_1, v_3 = .tuple #[.int .i64 t56_0, .int .i64 t56_1] ∧
 if (t45_0 == t56_0) = true then
 R (.bool (t45_1 == t56_1)) h_5
 else
 R (.bool false) h_5
 else
 if (t23 == 2) = true then
 ∃ t71, hcell h_1 ⟨b, 1, none⟩ = some (.int .i64 t71) ∧
 ∃ t73, hcell h_1 ⟨b, 2, none⟩ = some (.int .i64 t73) ∧
 ∃ t78, hcell h_1 ⟨x, 3, none⟩ = some (.pointer t78) ∧
 ∃ t80, hcell h_1 ⟨b, 1, none⟩ = some (.int .i64 t80) ∧
 ∃ t82, hcell h_1 ⟨b, 2, none⟩ = some (.int .i64 t82) ∧
 Cl F.state_State_Cancel #[.pointer (some ⟨s, 0, none⟩), .int .i64 t71, .int .i64 t73] h_1 fun v_4 h_6 =>
 ∃ t74, v_4 = .int .i64 t74 ∧
 hcell h_6 ⟨b, 2, none⟩ = some (.int .i64 t82) ∧
 hcell h_6 ⟨b, 1, none⟩ = some (.int .i64 t80) ∧
 hcell h_6 ⟨x, 3, none⟩ = some (.pointer t78) ∧
 Cl F.ref23_Box_Cancel #[.pointer t78, .int .i64 t80, .int .i64 t82] h_6 fun v_5 h_7 =>
 ∃ t83, v_5 = .int .i64 t83 ∧
 R (.bool (t74 == t83)) h_7
 else
 if (t23 == 3) = true then
 Cl F.state_State_Take #[.pointer (some ⟨s, 0, none⟩)] h_1 fun v_6 h_8 =>
 ∃ t89_0_0 t89_0_1 t89_0_2_p t89_0_2_l t89_0_2_c t89_0_3 t89_1, v_6 = .tuple #[.agg #[.int .i64 t89_0_0, .int .i64 t89_0_1, .slice t89_0_2_p t89_0_2_l t89_0_2_c, .int .u64 t89_0_3], .int .i64 t89_1] ∧
 NewP h_8 (.cells #[.int .i64 0, .int .i64 0, .slice none 0 0, .int .u64 0] T.outbox_Item) fun b_1 h_9 =>
 outbox_Item.ST h_9 ⟨b_1, 0, none⟩ t89_0_0 t89_0_1 t89_0_2_p t89_0_2_l t89_0_2_c t89_0_3 fun h_10 =>
 ∃ t95, hcell h_10 ⟨x, 3, none⟩ = some (.pointer t95) ∧
 Cl F.ref23_Box_Take #[.pointer t95] h_10 fun v_7 h_11 =>
 ∃ t96, v_7 = .int .i64 t96 ∧
 if (decide (t96 < 0)) = true then
 if (t89_1 == 4) = true then
 ∃ t103, hcell h_11 ⟨b_1, 0, none⟩ = some (.int .i64 t103) ∧
 R (.bool (t103 == 0)) h_11
 else
 R (.bool false) h_11
 else
 if (t89_1 == 0) = true then
 ∃ t110, hcell h_11 ⟨b_1, 0, none⟩ = some (.int .i64 t110) ∧
 ∃ t114, hcell h_11 ⟨x, 3, none⟩ = some (.pointer t114) ∧
 onSome t114 fun a =>
 ∃ t117_p t117_l t117_c, hcell h_11 a = some (.slice t117_p t117_l t117_c) ∧
 ((0 : Int) ≤ t96 ∧ t96 < ((t117_l : Nat) : Int)) ∧
 onSome t117_p fun a_1 =>
 ∃ t121, hcell h_11 (a_1.add (Int.toNat t96 * 5)) = some (.int .i64 t121) ∧
 if (t110 == t121) = true then
 ∃ t126_p t126_l t126_c, hcell h_11 ⟨b_1, 2, none⟩ = some (.slice t126_p t126_l t126_c) ∧
 ∃ (t127 : ByteArray), ConvV Tryz.prog T.s_uint8 T.string (.slice t126_p t126_l t126_c) h_11 t127 ∧
 ∃ t131, hcell h_11 ⟨x, 3, none⟩ = some (.pointer t131) ∧
 onSome t131 fun a_2 =>
 ∃ t134_p t134_l t134_c, hcell h_11 a_2 = some (.slice t134_p t134_l t134_c) ∧
 ((0 : Int) ≤ t96 ∧ t96 < ((t134_l : Nat) : Int)) ∧
 onSome t134_p fun a_3 =>
 ∃ t138_p t138_l t138_c, hcell h_11 ((a_3.add (Int.toNat t96 * 5)).add 2) = some (.slice t138_p t138_l t138_c) ∧
 ∃ (t139 : ByteArray), ConvV Tryz.prog T.s_uint8 T.string (.slice t138_p t138_l t138_c) h_11 t139 ∧
 R (.bool (t127.toList == t139.toList)) h_11
 else
 R (.bool false) h_11
 else
 R (.bool false) h_11
 else
 if (t23 == 4) = true then
 ∃ t148, hcell h_1 ⟨s, 0, none⟩ = some (.pointer t148) ∧
 ∃ t150, hcell h_1 ⟨b, 4, none⟩ = some (.int .u64 t150) ∧
 Cl F.sessions_Table_Open #[.pointer t148, .int .u64 t150] h_1 fun v_8 h_12 =>
 ∃ t151_0 t151_1, v_8 = .tuple #[.int .i64 t151_0, .int .i64 t151_1] ∧
 ∃ t158, hcell h_12 ⟨x, 0, none⟩ = some (.pointer t158) ∧
 ∃ t160, hcell h_12 ⟨b, 4, none⟩ = some (.int .u64 t160) ∧
 Cl F.ref24_Table_Open #[.pointer t158, .int .u64 t160] h_12 fun v_9 h_13 =>
 ∃ t161_0 t161_1, v_9 = .tuple #[.int .i64 t161_0, .int .i64 t161_1] ∧
 if (t151_0 == t161_0) = true then
 R (.bool (t151_1 == t161_1)) h_13
 else
 R (.bool false) h_13
 else
 if (t23 == 5) = true then
 ∃ t178, hcell h_1 ⟨s, 2, none⟩ = some (.pointer t178) ∧
 ∃ t181_p t181_l t181_c, hcell h_1 ⟨b, 3, none⟩ = some (.slice t181_p t181_l t181_c) ∧
 ∃ t183, hcell h_1 ⟨b, 4, none⟩ = some (.int .u64 t183) ∧
 Cl F.law26_home #[] h_1 fun v_10 h_14 =>
 ∃ t179_0 t179_1 t179_2 t179_3 t179_4, v_10 = .agg #[.bool t179_0, .int .u64 t179_1, .int .u64 t179_2, .string t179_3, .string t179_4] ∧
 hcell h_14 ⟨b, 4, none⟩ = some (.int .u64 t183) ∧
 hcell h_14 ⟨b, 3, none⟩ = some (.slice t181_p t181_l t181_c) ∧
 hcell h_14 ⟨s, 2, none⟩ = some (.pointer t178) ∧
 Cl F.copies_Table_Add #[.pointer t178, .agg #[.bool t179_0, .int .u64 t179_1, .int .u64 t179_2, .string t179_3, .string t179_4], .slice t181_p t181_l t181_c, .int .u64 t183] h_14 fun v_11 h_15 =>
 ∃ t184_0 t184_1, v_11 = .tuple #[.int .i64 t184_0, .int .i64 t184_1] ∧
 ∃ t191, hcell h_15 ⟨x, 2, none⟩ = some (.pointer t191) ∧
 ∃ t195_p t195_l t195_c, hcell h_15 ⟨b, 3, none⟩ = some (.slice t195_p t195_l t195_c) ∧
 ∃ t197, hcell h_15 ⟨b, 4, none⟩ = some (.int .u64 t197) ∧
 Cl F.law26_home #[] h_15 fun v_12 h_16 =>
 ∃ t192_0 t192_1 t192_2 t192_3 t192_4, v_12 = .agg #[.bool t192_0, .int .u64 t192_1, .int .u64 t192_2, .string t192_3, .string t192_4] ∧
 hcell h_16 ⟨b, 4, none⟩ = some (.int .u64 t197) ∧
 hcell h_16 ⟨b, 3, none⟩ = some (.slice t195_p t195_l t195_c) ∧
 hcell h_16 ⟨x, 2, none⟩ = some (.pointer t191) ∧
 Cl F.law04_As #[.agg #[.bool t192_0, .int .u64 t192_1, .int .u64 t192_2, .string t192_3, .string t192_4]] h_16 fun v_13 h_17 =>
 ∃ t193_0 t193_1 t193_2 t193_3 t193_4, v_13 = .agg #[.bool t193_0, .int .u64 t193_1, .int .u64 t193_2, .string t193_3, .string t193_4] ∧
 hcell h_17 ⟨b, 4, none⟩ = some (.int .u64 t197) ∧
 hcell h_17 ⟨b, 3, none⟩ = some (.slice t195_p t195_l t195_c) ∧
 hcell h_17 ⟨x, 2, none⟩ = some (.pointer t191) ∧
 Cl F.ref21_Table_Add #[.pointer t191, .agg #[.bool t193_0, .int .u64 t193_1, .int .u64 t193_2, .string t193_3, .string t193_4], .slice t195_p t195_l t195_c, .int .u64 t197] h_17 fun v_14 h_18 =>
 ∃ t198_0 t198_1, v_14 = .tuple #[.int .i64 t198_0, .int .i64 t198_1] ∧
 if (t184_0 == t198_0) = true then
 R (.bool (t184_1 == t198_1)) h_18
 else
 R (.bool false) h_18
 else
 R (.bool true) h_1) : CallsH Tryz.prog F.law26_Do #[.pointer (some ⟨s, 0, none⟩), .pointer (some ⟨x, 0, none⟩), .agg #[.int .i64 o_0, .int .i64 o_1, .int .i64 o_2, .slice o_3_p o_3_l o_3_c, .int .u64 o_4]] h R :=
 callsH_of_body (.seq .leaf (.seq (.seq .leaf (.block (.seq .leaf (.cond (.seq (.plan (.op 0 (.op 1 (.op 2 (.op 4 (.op 5 (.op 6 (.op 3 (.op 7 (.op 8 (.op 9 .done))))))))))) .leaf) (.seq .leaf (.cond (.seq .leaf (.seq .leaf (.seq .leaf .leaf))) (.seq .leaf (.cond (.seq (.plan (.op 0 (.op 1 (.op 2 (.op 3 (.op 4 (.op 6 (.op 7 (.op 8 (.op 9 (.op 10 (.op 11 (.op 12 (.op 13 (.op 5 (.op 14 (.op 15 (.op 16 .done)))))))))))))))))) .leaf) (.seq .leaf (.cond (.seq .leaf (.seq .leaf (.seq (.seq .leaf (.cond (.seq .leaf .leaf) .leaf)) (.seq (.plan (.op 0 (.op 1 (.op 2 (.op 3 (.op 4 (.op 5 (.op 6 (.op 7 (.op 8 (.op 9 (.op 10 (.op 11 (.op 12 (.op 13 (.op 14 (.op 15 (.op 16 (.op 17 (.op 18 (.op 19 (.op 20 (.op 21 (.op 22 (.op 23 (.op 24 (.op 25 (.op 26 (.op 27 (.op 28 (.op 29 (.op 30 (.op 31 (.op 32 (.op 33 (.op 34 (.op 35 (.op 36 .done)))))))))))))))))))))))))))))))))))))) .leaf)))) (.seq .leaf (.cond (.seq (.plan (.op 0 (.op 1 (.op 2 (.op 3 (.op 4 (.op 5 (.op 6 (.op 7 (.op 8 (.op 9 (.op 10 (.op 11 .done))))))))))))) (.seq (.plan (.op 0 (.op 1 (.op 2 (.op 3 (.op 4 (.op 5 (.op 6 (.op 7 (.op 8 (.op 9 (.op 10 (.op 11 .done))))))))))))) (.seq .leaf .leaf))) (.seq .leaf (.cond (.seq (.plan (.op 0 (.op 1 (.op 2 (.op 3 (.op 5 (.op 6 (.op 7 (.op 8 (.op 4 (.op 9 (.op 10 (.op 11 (.op 12 (.op 13 (.op 14 .done)))))))))))))))) (.seq (.plan (.op 0 (.op 1 (.op 2 (.op 3 (.op 6 (.op 7 (.op 8 (.op 9 (.op 4 (.op 5 (.op 10 (.op 11 (.op 12 (.op 13 (.op 14 (.op 15 .done))))))))))))))))) (.seq .leaf .leaf))) .leaf)))))))))))))) (.seq .leaf .leaf))) Tryz.func44 rfl rfl (Eq.mp (by kernel_rfl) hv)
theorem law26_StateLives.walk {self_0 : Bool} {self_1 : Int} {self_2 : Int} {self_3 : ByteArray} {self_4 : ByteArray} {ops_p : Option Addr} {ops_l ops_c : Nat} (hv :
 NewP h (.cells #[.bool self_0, .int .u64 self_1, .int .u64 self_2, .string self_3, .string self_4] T.eid_Eid) fun b h_1 =>
 ∃ t16, hcell h_1 ⟨b, 3, none⟩ = some (.string t16) ∧
 ∃ t19, hcell h_1 ⟨b, 4, none⟩ = some (.string t19) ∧
 if (decide ((IntKind.wrap .i64 (((t16.size : Nat) : Int) + ((t19.size : Nat) : Int))) > 300)) = true then
 Cl F.law26_alive #[] h_1 fun v h_2 =>
 ∃ t23, v = .bool t23 ∧
 R (.bool t23) h_2
 else
 eid_Eid.LD h_1 ⟨b, 0, none⟩ fun t25_0 t25_1 t25_2 t25_3 t25_4 =>
 Cl F.state_New #[.agg #[.bool t25_0, .int .u64 t25_1, .int .u64 t25_2, .string t25_3, .string t25_4]] h_1 fun v_1 h_3 =>
 ∃ t26_0 t26_1, v_1 = .tuple #[.pointer t26_0, .int .i64 t26_1] ∧
 eid_Eid.LD h_3 ⟨b, 0, none⟩ fun t29_0 t29_1 t29_2 t29_3 t29_4 =>
 Cl F.law04_As #[.agg #[.bool t29_0, .int .u64 t29_1, .int .u64 t29_2, .string t29_3, .string t29_4]] h_3 fun v_2 h_4 =>
 ∃ t30_0 t30_1 t30_2 t30_3 t30_4, v_2 = .agg #[.bool t30_0, .int .u64 t30_1, .int .u64 t30_2, .string t30_3, .string t30_4] ∧
 Cl F.ref04_Kind #[.agg #[.bool t30_0, .int .u64 t30_1, .int .u64 t30_2, .string t30_3, .string t30_4]] h_4 fun v_3 h_5 =>
 ∃ t31, v_3 = .int .i64 t31 ∧
 if (decide (t31 < 1)) = true then
 Cl F.law26_alive #[] h_5 fun v_4 h_6 =>
 ∃ t33, v_4 = .bool t33 ∧
 if t33 = true then
 if t26_0.isNone = true then
 R (.bool (t26_1 == 3)) h_6
 else
 R (.bool false) h_6
 else
 R (.bool false) h_6
 else
 JoinP (fun (t48 : Bool) (h_7 : Heap) =>
 if t48 = true then
 R (.bool false) h_7
 else
 eid_Eid.LD h_7 ⟨b, 0, none⟩ fun t49_0 t49_1 t49_2 t49_3 t49_4 =>
 Cl F.law04_As #[.agg #[.bool t49_0, .int .u64 t49_1, .int .u64 t49_2, .string t49_3, .string t49_4]] h_7 fun v_5 h_8 =>
 ∃ t50_0 t50_1 t50_2 t50_3 t50_4, v_5 = .agg #[.bool t50_0, .int .u64 t50_1, .int .u64 t50_2, .string t50_3, .string t50_4] ∧
 Cl F.ref26_New #[.agg #[.bool t50_0, .int .u64 t50_1, .int .u64 t50_2, .string t50_3, .string t50_4]] h_8 fun v_6 h_9 =>
 ∃ t51, v_6 = .pointer t51 ∧
 ∃ (I : Int → Heap → Prop) (mu : Int → Heap → Nat), I 0 h_9 ∧ ∀ (i : Int) (h_10 : Heap), I i h_10 →
 JoinP (fun (t59 : Bool) (h_11 : Heap) =>
 if t59 = true then
 ((0 : Int) ≤ i ∧ i < ((ops_l : Nat) : Int)) ∧
 onSome ops_p fun a =>
 ∃ t66_p t66_l t66_c, hcell h_11 ((a.add (Int.toNat i * 5)).add 3) = some (.slice t66_p t66_l t66_c) ∧
 if (decide (((t66_l : Nat) : Int) > 700)) = true then
 Cl F.law26_alive #[] h_11 fun v_7 h_12 =>
 ∃ t69, v_7 = .bool t69 ∧
 R (.bool t69) h_12
 else
 JoinP (fun (t83 : Bool) (h_13 : Heap) =>
 if t83 = true then
 R (.bool false) h_13
 else
 (I (IntKind.wrap .i64 (i + 1)) h_13 ∧ mu (IntKind.wrap .i64 (i + 1)) h_13 < mu i h_10))
 (fun J_2 =>
 ((0 : Int) ≤ i ∧ i < ((ops_l : Nat) : Int)) ∧
 onSome ops_p fun a_1 =>
 law26_Op.LD h_11 (a_1.add (Int.toNat i * 5)) fun t75_0 t75_1 t75_2 t75_3_p t75_3_l t75_3_c t75_4 =>
 Cl F.law26_Do #[.pointer t26_0, .pointer t51, .agg #[.int .i64 t75_0, .int .i64 t75_1, .int .i64 t75_2, .slice t75_3_p t75_3_l t75_3_c, .int .u64 t75_4]] h_11 fun v_8 h_14 =>
 ∃ t76, v_8 = .bool t76 ∧
 if (!t76) = true then
 J_2 true h_14
 else
 Cl F.law26_Same #[.pointer t26_0, .pointer t51] h_14 fun v_9 h_15 =>
 ∃ t81, v_9 = .bool t81 ∧
 J_2 (!t81) h_15)
 else
 NewP h_11 (.cells #[.pointer none, .pointer none, .pointer none, .pointer none, .pointer none, .pointer none, .int .u64 0, .int .i64 0] T.state_State) fun b_1 h_16 =>
 Cl F.state_State_Put #[.pointer none, .int .i64 1, .slice none 0 0, .int .u64 1] h_16 fun v_10 h_17 =>
 ∃ t88_0 t88_1, v_10 = .tuple #[.int .i64 t88_0, .int .i64 t88_1] ∧
 Cl F.state_State_Take #[.pointer (some ⟨b_1, 0, none⟩)] h_17 fun v_11 h_18 =>
 ∃ t93_0_0 t93_0_1 t93_0_2_p t93_0_2_l t93_0_2_c t93_0_3 t93_1, v_11 = .tuple #[.agg #[.int .i64 t93_0_0, .int .i64 t93_0_1, .slice t93_0_2_p t93_0_2_l t93_0_2_c, .int .u64 t93_0_3], .int .i64 t93_1] ∧
 NewP h_18 (.cells #[.int .i64 0, .int .i64 0, .slice none 0 0, .int .u64 0] T.outbox_Item) fun b_2 h_19 =>
 outbox_Item.ST h_19 ⟨b_2, 0, none⟩ t93_0_0 t93_0_1 t93_0_2_p t93_0_2_l t93_0_2_c t93_0_3 fun h_20 =>
 Cl F.law26_alive #[] h_20 fun v_12 h_21 =>
 ∃ t96, v_12 = .bool t96 ∧
 if t96 = true then
 if (t88_1 == 6) = true then
 if (t93_1 == 6) = true then
 Cl F.state_State_Pass #[.pointer none, .int .u64 1] h_21 fun v_13 h_22 =>
 ∃ t107, v_13 = .int .i64 t107 ∧
 if (t107 == 6) = true then
 Cl F.state_State_Pass #[.pointer (some ⟨b_1, 0, none⟩), .int .u64 1] h_22 fun v_14 h_23 =>
 ∃ t112, v_14 = .int .i64 t112 ∧
 if (t112 == 6) = true then
 Cl F.state_State_Cancel #[.pointer (some ⟨b_1, 0, none⟩), .int .i64 1, .int .i64 1] h_23 fun v_15 h_24 =>
 ∃ t117, v_15 = .int .i64 t117 ∧
 if (t117 == 6) = true then
 Cl F.state_State_Save #[.pointer none] h_24 fun v_16 h_25 =>
 ∃ t122_p t122_l t122_c, v_16 = .slice t122_p t122_l t122_c ∧
 Cl F.state_State_Save #[.pointer (some ⟨b_1, 0, none⟩)] h_25 fun v_17 h_26 =>
 ∃ t125_p t125_l t125_c, v_17 = .slice t125_p t125_l t125_c ∧
 R (.bool ((IntKind.wrap .i64 (((t122_l : Nat) : Int) + ((t125_l : Nat) : Int))) == 0)) h_26
 else
 R (.bool false) h_24
 else
 R (.bool false) h_23
 else
 R (.bool false) h_22
 else
 R (.bool false) h_21
 else
 R (.bool false) h_21
 else
 R (.bool false) h_21)
 (fun J_1 =>
 if (decide (i < ((ops_l : Nat) : Int))) = true then
 J_1 (decide (i < 60)) h_10
 else
 J_1 false h_10))
 (fun J =>
 if (t26_1 != 0) = true then
 J true h_5
 else
 Cl F.law26_whole #[.pointer t26_0] h_5 fun v_18 h_27 =>
 ∃ t46, v_18 = .bool t46 ∧
 J (!t46) h_27)) : CallsH Tryz.prog F.law26_StateLives #[.agg #[.bool self_0, .int .u64 self_1, .int .u64 self_2, .string self_3, .string self_4], .slice ops_p ops_l ops_c] h R :=
 callsH_of_body (.seq .leaf (.seq (.seq .leaf (.cond (.seq .leaf .leaf) .leaf)) (.seq .leaf (.seq (.seq .leaf (.cond (.seq .leaf .leaf) .leaf)) (.seq (.seq (.join [(48, .one (.bool))] .leaf) (.cond (.seq .leaf .leaf) .leaf)) (.seq .leaf (.seq (.seq .leaf (.block (.loop [(8, .one (.int .i64))] (.seq (.seq (.join [(59, .one (.bool))] .leaf) (.cond .leaf .leaf)) (.seq (.block (.seq (.seq .leaf (.cond (.seq .leaf .leaf) .leaf)) (.seq (.join [(83, .one (.bool))] .leaf) (.cond (.seq .leaf .leaf) .leaf)))) .leaf))))) (.seq .leaf (.seq .leaf (.seq .leaf (.seq .leaf (.seq .leaf .leaf)))))))))))) Tryz.func6 rfl rfl (Eq.mp (by kernel_rfl) hv)
end Go.Proofs.YtgccegnmggjkjaaGreatDoor
set_option maxRecDepth 100000
namespace Go.Proofs.YtgccegnmggjkjaaGreatDoor
open Go.Den Go.Fields
namespace Rse
open Ses Fld
variable {h h' : Heap} {x i : Nat} {X : Ft} {R : Value → Heap → Prop} {p q : Option Addr} {c : Nat} {A : List Ses}
def bare (s:Ses):Prop:=s.kept= []∧s.notes= []
abbrev senc (s:Ses):List Value:= [.int .i64 (s.num:Int), .int .u64 (s.token:Int), .bool s.up, .bool s.watch, .slice none 0 0, .slice none 0 0]
theorem senc_len (s:Ses):(senc s).length=6:=rfl
theorem tS:SlTy Tryz.prog T.s_ref24_Session T.ref24_Session 6 72 (.agg #[.int .i64 0, .int .u64 0, .bool false, .bool false, .slice none 0 0, .slice none 0 0]):=⟨by kernel_rfl,by kernel_rfl,rfl⟩
theorem uS':Tryz.prog.underlying T.s_ref24_Session=some (.slice T.ref24_Session):=by kernel_rfl
structure Rm (h:Heap) (x:Nat) (X:Ft) (A:List Ses) (p:Option Addr) (c:Nat):Prop where
 blk:h[x]? =some (.cells #[.slice p A.length c] T.ref24_Table (0,0))
 own:Own h p A.length c 6 (A.flatMap senc)
 m: ∀y,X.M y↔y=x∨inBlk p y
 d: ∀y,¬X.D y
 bl: ¬inBlk p x
 bare: ∀s∈A,bare s
def Rt (h:Heap) (x:Nat) (X:Ft) (A:List Ses):Prop:= ∃p c,Rm h x X A p c
theorem Rm.frame {Q:Nat→Prop} (H:Rm h x X A p c) (f:Fr Q h h') (hq: ∀y,X.M y∨X.D y→ ¬Q y):Rm h' x X A p c:=
 ⟨f.get H.blk (hq x (.inl ((H.m x).2 (.inl rfl)))),H.own.frame f (fun y hy=>hq y (.inl ((H.m y).2 (.inr hy)))),H.m,H.d,H.bl,H.bare⟩
theorem Rt.frame {Q:Nat→Prop} (H:Rt h x X A) (f:Fr Q h h') (hq: ∀y,X.M y∨X.D y→ ¬Q y):Rt h' x X A:=by
 obtain⟨p,c,H⟩:=H
 exact⟨p,c,H.frame f hq⟩
theorem Rt.lt (H:Rt h x X A) (y:Nat) (hy:X.M y∨X.D y):y<h.size:=by
 obtain⟨p,c,H⟩:=H
 rcases hy with hy|hy
 ·rcases(H.m y).1 hy with rfl|h1
  ·exact lt_of_get H.blk
  ·exact H.own.blk_lt h1
 ·exact absurd hy (H.d y)
theorem of_ok (token:Nat) (H:Rm h x X A p c) (hl:A.length≤1000) (k1:hasTk A token=true→ ∀i:Nat,R (.int .i64 (i:Int)) h) (k2:hasTk A token=false→R (.int .i64 (-1)) h):
  CallsH Tryz.prog F.ref24_Table_of #[pt x, .int .u64 (token:Int)] h R:=by
 refine ref24_Table_of.walk ⟨fun i g=>g=h∧ ∃k:Nat,i=(k:Int)∧k≤A.length∧ ∀(j:Nat) s,j<k→A[j]? =some s→s.token≠token,fun i _=>A.length - i.toNat,⟨rfl,0,rfl,Nat.zero_le _,fun j s hj=>by omega⟩, ?_⟩
 rintro _ g ⟨rfl,k,rfl,hk,hno⟩
 refine⟨_,_,_,cell_at H.blk rfl, ?_⟩
 by_cases hlt:k<A.length
 ·rw[if_pos (decide_eq_true (by omega))]
  have hs:=List.getElem?_eq_getElem hlt
  have own:=H.own
  have blk:=H.blk
  obtain⟨pb,po,rfl⟩:=own.addr (by omega)
  have hh:=own.heldAt senc_len hs
  refine⟨_,_,_,cell_at blk rfl,⟨by omega,by omega⟩,onSome_some.2 ⟨_,by rw[Int.toNat_natCast];exact hh.2.1, ?_⟩⟩
  by_cases e:A[k].token=token
  ·rw[if_pos (by rw[e];simp)]
   exact k1 (List.any_eq_true.2 ⟨_,List.getElem_mem hlt,decide_eq_true e⟩) k
  ·rw[if_neg (by simp;omega),wrap_id (by omega) (by omega)]
   refine⟨⟨rfl,k+1,by omega,by omega,fun j s hj hjs=> ?_⟩,by show A.length - Int.toNat ((k:Int)+1)<A.length - Int.toNat (k:Int);omega⟩
   by_cases q:j=k
   ·subst q
    rw[hs] at hjs
    exact Option.some.inj hjs▸e
   ·exact hno j s (by omega) hjs
 ·rw[if_neg (fun e=>hlt (by have:=of_decide_eq_true e;omega))]
  refine k2 ?_
  unfold hasTk
  rw[List.any_eq_false]
  intro s hs
  obtain⟨j,hj⟩:=List.getElem?_of_mem hs
  simpa using hno j s (by have:=(List.getElem?_eq_some_iff.1 hj).1;omega) hj
theorem ropen_ok (token:Nat) (H:Rt h x X A) (hl:A.length≤8) (hk: ∀h' X',Rt h' x X' (openA A token)→StepF X h X' h'→R (.tuple #[.int .i64 (openN A token), .int .i64 (openE A token)]) h'):
  CallsH Tryz.prog F.ref24_Table_Open #[pt x, .int .u64 (token:Int)] h R:=by
 have H0:=H
 obtain⟨p,c,H⟩:=H
 have no: ∀e:Int,e≠0→openE A token=e→R (.tuple #[.int .i64 0, .int .i64 e]) h:=fun e he h0=>by
  have e1:openN A token=0:=if_neg (by rw[h0];exact he)
  have e2:openA A token=A:=if_neg (by rw[h0];exact he)
  have:=hk h X (by rw[e2];exact H0) (StepF.refl _ _)
  rw[e1,h0] at this
  exact this
 refine ref24_Table_Open.walk (JoinP.of fun J hJ=> ?_)
 by_cases h1:token<1∨token>2147483648
 ·have e0:openE A token=1:=if_pos h1
  have fin:J true h:=by
   subst hJ
   dsimp only
   rw[if_pos rfl]
   exact no 1 (by decide) e0
  rcases h1 with h1|h1
  ·rw[if_pos (decide_eq_true (by omega))];exact fin
  ·rw[if_neg (fun e=>by have:=of_decide_eq_true e;omega),decide_eq_true (by omega)];exact fin
 rw[if_neg (fun e=>by have:=of_decide_eq_true e;omega),decide_eq_false (by omega)]
 subst hJ
 dsimp only
 rw[if_neg (by decide)]
 refine of_ok token H (by omega) (fun ht i=>⟨_,rfl, ?_⟩) (fun ht=>⟨_,rfl, ?_⟩)
 ·rw[if_pos (decide_eq_true (by omega))]
  exact no 12 (by decide) (by unfold openE;rw[if_neg h1,if_pos ht])
 rw[if_neg (by decide)]
 refine⟨_,_,_,cell_at H.blk rfl, ?_⟩
 by_cases h8:A.length≥8
 ·rw[if_pos (decide_eq_true (by omega))]
  exact no 5 (by decide) (by unfold openE;rw[if_neg h1,if_neg (by rw[ht];decide),if_pos h8])
 rw[if_neg (fun e=>h8 (by have:=of_decide_eq_true e;omega))]
 have e0:openE A token=0:=by unfold openE;rw[if_neg h1,if_neg (by rw[ht];decide),if_neg h8]
 have e1:openN A token=(A.length:Int)+1:=if_pos e0
 have e2:openA A token=A++ [⟨A.length+1,token,true,false, [], []⟩]:=if_pos e0
 rw[e0,e1,e2] at hk
 refine⟨_,_,_,cell_at H.blk rfl,_,_,_,cell_at H.blk rfl,newP_of ?_⟩
 rw[wrap_id (by omega) (by omega)]
 have f1:Fr (fun _=>False) h (h.push (.cells #[.int .i64 ((A.length:Int)+1), .int .u64 (token:Int), .bool true, .bool false, .slice none 0 0, .slice none 0 0] T.ref24_Session)):=Fr.push _ _
 have r1:Row (h.push (.cells #[.int .i64 ((A.length:Int)+1), .int .u64 (token:Int), .bool true, .bool false, .slice none 0 0, .slice none 0 0] T.ref24_Session)) (some ⟨h.size,0,none⟩) (senc ⟨A.length+1,token,true,false, [], []⟩):=row_new
 generalize h.push (.cells #[.int .i64 ((A.length:Int)+1), .int .u64 (token:Int), .bool true, .bool false, .slice none 0 0, .slice none 0 0] T.ref24_Session)=h1' at f1 r1⊢
 have H1:=H.frame f1 (fun _ _=>id)
 refine⟨cell_at H1.blk rfl,cell_at H1.blk rfl, ?_⟩
 refine den_append tS uS' H1.own r1 rfl (fun v hv=>by simp at hv;rcases hv with rfl|rfl|rfl|rfl|rfl<;>rfl) (by omega) (by omega) fun p' c' h2 o2 _ f2 g2=>⟨_,_,_,rfl, ?_⟩
 have b2:=f2.get H1.blk H1.bl
 refine⟨cell_at b2 rfl,storeP_blk b2 (by simp) fun h3 a3 z3 o3=>⟨_,_,_,cell_at a3 rfl, ?_⟩⟩
 have z1:=f1.1
 have z2:=f2.1
 have lx:=lt_of_get H.blk
 have nx: ∀y,inBlk p' y→y≠x:=fun y hy e=>(g2 y hy).elim (fun q=>H.bl (e▸q)) (fun q=>by omega)
 rw[show(((A.length+1:Nat):Nat):Int)=(A.length:Int)+1 by omega]
 refine hk h3 ⟨fun y=>y=x∨inBlk p' y,fun _=>False⟩ ⟨p',c', ?_, ?_,fun _=>Iff.rfl,fun _=>id,fun e=>nx x e rfl,fun s hs=> ?_⟩ ⟨⟨by omega,fun y hy hn=> ?_⟩,fun y hy=> ?_,fun _ h=>h.elim,fun y hy=>absurd hy (H.d y)⟩
 ·rw[List.length_append,List.length_singleton];exact a3
 ·rw[List.length_append,List.length_singleton,List.flatMap_append]
  exact o2.frame (Fr.of_eq (S:=fun y=>y=x) z3 o3) (fun y hy e=>nx y hy e)
 ·rcases List.mem_append.1 hs with hs|hs
  ·exact H.bare s hs
  ·obtain rfl:=List.mem_singleton.1 hs;exact⟨rfl,rfl⟩
 ·rw[o3 y (fun e=>hn ((H.m y).2 (.inl e))),f2.2 y (by omega) (fun e=>hn ((H.m y).2 (.inr e))),f1.2 y hy id]
 ·rcases hy with rfl|hy
  ·exact .inl ((H.m _).2 (.inl rfl))
  ·exact(g2 y hy).imp (fun q=>(H.m y).2 (.inr q)) (fun q=>by omega)
theorem bit_ok {b:Bool} (hk:R (.int .u64 ((bit b:Nat):Int)) h):CallsH Tryz.prog F.ref24_bit #[.bool b] h R:=by
 refine ref24_bit.walk ?_
 cases b
 ·rw[if_neg (by decide)];exact hk
 ·rw[if_pos rfl];exact hk
def numS (s:Ses):List Nat:= [s.num,s.token,bit s.up,bit s.watch,0,0]
theorem num_rec {s:Ses} (b:bare s):recS s= [(numS s).flatMap encNum]:=by
 unfold recS headR numS
 rw[b.1,b.2]
 simp[List.append_assoc]
theorem rsave_ok (H:Rt h x X A) (hl:A.length≤8) (hs: ∀s∈A,s.num≤8∧s.token≤2147483648) (hk: ∀h' p' l' c',BL h h' p' l' c' (recs A)→Fr (fun _=>False) h h'→R (.slice p' l' c') h'):
  CallsH Tryz.prog F.ref24_Table_Save #[pt x] h R:=by
 obtain⟨p,c,H⟩:=H
 refine ref24_Table_Save.walk ⟨fun op ol oc i g=> ∃k:Nat,i=(k:Int)∧k≤A.length∧BL h g op ol oc (recs (A.take k))∧ol≤k∧Fr (fun _=>False) h g,fun _ _ _ i _=>A.length - i.toNat,⟨0,rfl,Nat.zero_le _,BL.nil,Nat.le_refl _,Fr.refl _ _⟩, ?_⟩
 rintro op ol oc _ g ⟨k,rfl,hk1,L,lo,fg⟩
 have Hg:=H.frame fg (fun _ _=>id)
 refine⟨_,_,_,cell_at Hg.blk rfl, ?_⟩
 by_cases hlt:k<A.length
 ·rw[if_pos (decide_eq_true (by omega))]
  have hsk:=List.getElem?_eq_getElem hlt
  have hb:=H.bare _ (List.getElem_mem hlt)
  have hn:=hs _ (List.getElem_mem hlt)
  have own:=Hg.own
  have blk:=Hg.blk
  generalize A[k]=s at hsk hb hn
  obtain⟨pb,po,rfl⟩:=own.addr (by omega)
  refine⟨_,_,_,cell_at blk rfl,⟨by omega,by omega⟩,onSome_some.2 (ref24_Session.ldA (by rw[Int.toNat_natCast];exact own.heldAt senc_len hsk) (ref24_Session.new fun b h3 eb hb3 f3=> ?_))⟩
  refine⟨_,cell_at hb3 rfl,_,cell_at hb3 rfl,_,cell_at hb3 rfl,_,cell_at hb3 rfl,_,_,_,cell_at hb3 rfl,_,_,_,cell_at hb3 rfl,bit_ok ⟨_,rfl,cell_at hb3 rfl,cell_at hb3 rfl,cell_at hb3 rfl,cell_at hb3 rfl,cell_at hb3 rfl,bit_ok ⟨_,rfl,cell_at hb3 rfl,cell_at hb3 rfl,cell_at hb3 rfl,cell_at hb3 rfl,newP_of ?_⟩⟩⟩
  rw[wrap_u64 (n:=(s.num:Int)) (by omega) (by omega),show IntKind.wrap .u64 (((0:Nat):Nat):Int)=0 from rfl]
  have f4:Fr (fun _=>False) h3 (h3.push (.cells #[.int .u64 (s.num:Int), .int .u64 (s.token:Int), .int .u64 ((bit s.up:Nat):Int), .int .u64 ((bit s.watch:Nat):Int), .int .u64 0, .int .u64 0] T.uint64)):=Fr.push _ _
  have b4:(h3.push (.cells #[.int .u64 (s.num:Int), .int .u64 (s.token:Int), .int .u64 ((bit s.up:Nat):Int), .int .u64 ((bit s.watch:Nat):Int), .int .u64 0, .int .u64 0] T.uint64))[h3.size]? =some (.cells #[.int .u64 (s.num:Int), .int .u64 (s.token:Int), .int .u64 ((bit s.up:Nat):Int), .int .u64 ((bit s.watch:Nat):Int), .int .u64 0, .int .u64 0] T.uint64 (0,0)):=push_new
  generalize h3.push (.cells #[.int .u64 (s.num:Int), .int .u64 (s.token:Int), .int .u64 ((bit s.up:Nat):Int), .int .u64 ((bit s.watch:Nat):Int), .int .u64 0, .int .u64 0] T.uint64)=h4 at f4 b4⊢
  have hb4:=f4.get hb3 id
  refine⟨cell_at hb4 rfl,cell_at hb4 rfl,cell_at hb4 rfl,fun hp hl' hc t g'=> ∃j:Nat,t=(j:Int)∧j≤6∧hl'=(((numS s).take j).flatMap encNum).length∧Rcp.Acc h4 g' hp hc (((numS s).take j).flatMap encNum),fun _ _ _ t _=>6 - t.toNat,⟨0,rfl,by omega,rfl,⟨.nil rfl rfl rfl rfl,(fun y ⟨a,e,_⟩=>by cases e),Fr.refl _ _⟩⟩, ?_⟩
  rintro hp _ hc _ g5 ⟨j,rfl,hj,rfl,Ac⟩
  have f5:=Ac.fr
  have b5:=f5.get b4 id
  have ten: ∀l:List Nat,(l.flatMap encNum).length≤10*l.length:=fun l=>by
   induction l with
   |nil=>exact Nat.le_refl _
   |cons n l ih=>rw[List.flatMap_cons,List.length_append,List.length_cons];have:=encNum_len n;omega
  have tj:=ten ((numS s).take j)
  rw[List.length_take] at tj
  have tj6:min j (numS s).length≤6:=by omega
  by_cases hlt6:j<6
  ·rw[if_pos (decide_eq_true (by omega))]
   have bt: ∀b,bit b≤1:=fun b=>by cases b<;>decide
   have hcell: ∃n:Nat,(numS s)[j]? =some n∧n<18446744073709551616∧hcell g5 ((⟨h3.size,0,none⟩:Addr).add (Int.toNat (j:Int)*1))=some (.int .u64 (n:Int)):=by
    have b1:=bt s.up
    have b2:=bt s.watch
    rw[Int.toNat_natCast]
    match j,hlt6 with
    |0,_=>exact⟨_,rfl,by omega,cell_at b5 rfl⟩
    |1,_=>exact⟨_,rfl,by omega,cell_at b5 rfl⟩
    |2,_=>exact⟨_,rfl,by omega,cell_at b5 rfl⟩
    |3,_=>exact⟨_,rfl,by omega,cell_at b5 rfl⟩
    |4,_=>exact⟨0,rfl,by omega,cell_at b5 rfl⟩
    |5,_=>exact⟨0,rfl,by omega,cell_at b5 rfl⟩
   obtain⟨n,hnj,hnb,hcj⟩:=hcell
   refine⟨⟨by omega,by omega⟩,_,hcj,refNum_ok n rfl hnb fun p6 c6 h6 o6 u6=>⟨_,_,_,rfl, ?_⟩⟩
   have ln:=encNum_len n
   refine Rcp.Acc.app (Rcp.Acc.on Ac (u6.fr)) o6.row' rfl rfl (by omega) fun p7 c7 h7 A7=>⟨_,_,_,rfl, ?_⟩
   rw[wrap_id (by omega) (by omega)]
   have ej:((numS s).take (j+1)).flatMap encNum=((numS s).take j).flatMap encNum++encNum n:=by rw[List.take_add_one,hnj,List.flatMap_append];simp
   rw[←ej] at A7⊢
   exact⟨⟨j+1,by omega,by omega,rfl,A7⟩,by show 6 - Int.toNat ((j:Int)+1)<6 - Int.toNat (j:Int);omega⟩
  ·rw[if_neg (fun e=>hlt6 (by have:=of_decide_eq_true e;omega))]
   obtain rfl:j=6:=by omega
   have e6:(numS s).take 6=numS s:=rfl
   rw[e6] at Ac⊢
   have z3:=f3.1
   have z4:=f4.1
   have z5:=f5.1
   have zg:=fg.1
   have F5:=f3.tt (f4.tt f5)
   refine BL.push (L.on F5) (Nat.le_trans zg F5.1) Ac.own (fun y hy=>⟨by have:=Ac.new y hy;omega,fun q=>by have:=L.lt q;have:=Ac.new y hy;omega⟩) (by omega) fun p8 c8 h8 L8 f8 i8=>⟨_,_,_,rfl, ?_⟩
   have hb8:ref24_Session.at h8 b (s.num:Int) (s.token:Int) s.up s.watch none 0 0 none 0 0:=f8.get (f5.get hb4 id) (fun q=>by have:=L.lt q;omega)
   have er:recs (A.take (k+1))=recs (A.take k)++ [(numS s).flatMap encNum]:=by
    unfold recs
    rw[List.take_add_one,hsk,List.flatMap_append]
    show _++List.flatMap recS [s]=_
    rw[List.flatMap_cons,num_rec hb];rfl
   rw[←er] at L8
   have F8:Fr (fun _=>False) h h8:=by
    have:=(fg.tt F5)
    refine this.fresh f8 (fun y hy=> ?_)
    obtain⟨xs,D,_,_,_,_,_,i6⟩:=L
    exact i6 y hy
   have fin: ∀ {op':Option Addr} {ol' oc':Nat},op'=p8→ol'=ol+1→oc'=c8→((∃k':Nat,IntKind.wrap .i64 ((k:Int)+1)=(k':Int)∧k'≤A.length∧BL h h8 op' ol' oc' (recs (A.take k'))∧ol'≤k'∧Fr (fun _=>False) h h8)∧A.length - (IntKind.wrap .i64 ((k:Int)+1)).toNat<A.length - Int.toNat (k:Int)):=by
    rintro _ _ _ rfl rfl rfl
    rw[wrap_id (by omega) (by omega)]
    exact⟨⟨k+1,by omega,by omega,L8,by omega,F8⟩,by omega⟩
   refine⟨fun op' ol' oc' t g'=>op'=p8∧ol'=ol+1∧oc'=c8∧t=0∧g'=h8,fun _ _ _ _ _=>0,⟨rfl,rfl,rfl,rfl,rfl⟩, ?_⟩
   rintro op1 _ oc1 _ g1 ⟨rfl,rfl,rfl,rfl,rfl⟩
   refine⟨_,_,_,cell_at hb8 rfl, ?_⟩
   rw[if_neg (by decide)]
   refine⟨fun op' ol' oc' t g''=>op'=op1∧ol'=ol+1∧oc'=oc1∧t=0∧g''=g1,fun _ _ _ _ _=>0,⟨rfl,rfl,rfl,rfl,rfl⟩, ?_⟩
   rintro _ _ _ _ _ ⟨rfl,rfl,rfl,rfl,rfl⟩
   refine⟨_,_,_,cell_at hb8 rfl, ?_⟩
   rw[if_neg (by decide)]
   exact fin rfl rfl rfl
 ·rw[if_neg (fun e=>hlt (by have:=of_decide_eq_true e;omega))]
  obtain rfl:k=A.length:=by omega
  rw[List.take_length] at L
  exact hk g op ol oc L fg
end Rse
end Go.Proofs.YtgccegnmggjkjaaGreatDoor
set_option maxRecDepth 100000
namespace Go.Proofs.YtgccegnmggjkjaaGreatDoor
open Go.Den
namespace Regs
open Eid
variable {h h' : Heap} {R : Value → Heap → Prop} {x : Nat} {Y : Ft} {L L' : List Rg} {p : Option Addr} {c n i : Nat} {r : Rg}
structure Rtm (h:Heap) (x:Nat) (Y:Ft) (L:List Rg) (p:Option Addr) (c:Nat):Prop where
 blk:h[x]? =some (.cells #[.slice p L.length c] T.ref22_Table (0,0))
 own:Own h p L.length c 7 (L.flatMap genc)
 m: ∀y,Y.M y↔y=x∨inBlk p y
 d: ∀y,¬Y.D y
 bl: ¬inBlk p x
def Rt (h:Heap) (x:Nat) (Y:Ft) (L:List Rg):Prop:= ∃p c,Rtm h x Y L p c
theorem Rtm.frame {Q:Nat→Prop} (H:Rtm h x Y L p c) (f:Fr Q h h') (hq: ∀y,Y.M y∨Y.D y→ ¬Q y):Rtm h' x Y L p c:=
 have hm: ∀y,Y.M y→ ¬Q y:=fun y hy=>hq y (.inl hy)
 ⟨f.get H.blk (hm x ((H.m x).2 (.inl rfl))),H.own.frame f (fun y hy=>hm y ((H.m y).2 (.inr hy))),H.m,H.d,H.bl⟩
theorem Rtm.on (H:Rtm h x Y L p c) (f:Fr (fun _=>False) h h'):Rtm h' x Y L p c:=H.frame f (fun _ _=>id)
theorem Rt.frame {Q:Nat→Prop} (H:Rt h x Y L) (f:Fr Q h h') (hq: ∀y,Y.M y∨Y.D y→ ¬Q y):Rt h' x Y L:=by
 obtain⟨p,c,H⟩:=H
 exact⟨p,c,H.frame f hq⟩
theorem Rt.on (H:Rt h x Y L) (f:Fr (fun _=>False) h h'):Rt h' x Y L:=H.frame f (fun _ _=>id)
theorem Rt.lt (H:Rt h x Y L) (y:Nat) (hy:Y.M y∨Y.D y):y<h.size:=by
 obtain⟨p,c,H⟩:=H
 rcases hy with hy|hy
 ·rcases(H.m y).1 hy with rfl|h1
  ·exact lt_of_get H.blk
  ·exact H.own.blk_lt h1
 ·exact absurd hy (H.d y)
theorem lde {g:Heap} {a:Addr} {K:Bool→Int→Int→ByteArray→ByteArray→Prop} (hh:heldL a (genc r) 0 g) (hk:K r.e.ipn r.e.node r.e.svc r.e.host r.e.dem):ref04_Eid.LD g a K:=
 ref04_Eid.ldA ⟨hh.1,hh.2.1,hh.2.2.1,hh.2.2.2.1,hh.2.2.2.2.1,trivial⟩ hk
end Regs
end Go.Proofs.YtgccegnmggjkjaaGreatDoor
set_option maxRecDepth 100000
namespace Go.Proofs.YtgccegnmggjkjaaGreatDoor
open Go.Den Go.Fields Go.Heapq
namespace Rcp
open Eid Cps Fld Alarm
variable {Ls : List RC} {s : CF} {i : Nat} {y y' : RC}
def cntF (Ls:List RC) (f:Nat):Nat:=(Ls.filter (fun y=>decide (y.fate=f))).length
structure Rel (s:CF) (Ls:List RC):Prop where
 there:s.L=thereL Ls
 next:s.next=Ls.length+1
 acked:s.acked=cntF Ls 1
 over:s.over=cntF Ls 2
 gone:s.gone=cntF Ls 3
 fates: ∀y∈Ls,y.fate≤3
 nums: ∀(i:Nat) y,Ls[i]? =some y→y.c.num=i+1
theorem Rel.nil:Rel ⟨[],1,0,0,0, [], []⟩ []:=⟨rfl,rfl,rfl,rfl,rfl,(fun y hy=>by cases hy),fun i y h=>by simp at h⟩
theorem Rel.mem (r:Rel s Ls) {z:Cp} :z∈s.L↔ ∃(i:Nat) (y:RC),Ls[i]? =some y∧y.fate=0∧y.c=z:=by
 rw[r.there]
 unfold thereL
 rw[List.mem_map]
 constructor
 ·rintro⟨y,hy,rfl⟩
  obtain⟨h1,h2⟩:=List.mem_filter.1 hy
  obtain⟨i,hi⟩:=List.getElem?_of_mem h1
  exact⟨i,y,hi,of_decide_eq_true h2,rfl⟩
 ·rintro⟨i,y,hi,hf,rfl⟩
  exact⟨y,List.mem_filter.2 ⟨List.mem_of_getElem? hi,decide_eq_true hf⟩,rfl⟩
theorem cntK_fate (Ls:List RC) (f:Nat) (hf:1≤f):cntK Ls (f+2)=cntF Ls f:=by
 unfold cntK cntF
 congr 1
 refine List.filter_congr fun y _=> ?_
 unfold kx
 by_cases h:y.fate=0∧y.c.ses=0
 ·rw[if_pos h,decide_eq_false (by omega),decide_eq_false (by have:=h.1;omega)]
 ·rw[if_neg h]
  exact decide_eq_decide.2 ⟨by omega,by omega⟩
theorem cntK_ready (Ls:List RC):cntK Ls 1=((thereL Ls).filter (fun z=>decide (z.ses=0))).length:=by
 unfold cntK thereL
 rw[List.filter_map,List.length_map,List.filter_filter]
 congr 1
 refine List.filter_congr fun y _=> ?_
 unfold kx
 by_cases h:y.fate=0∧y.c.ses=0
 ·rw[if_pos h];simp[h.1,h.2]
 ·rw[if_neg h,decide_eq_false (by omega)]
  symm
  simp only[Function.comp,Bool.and_eq_false_iff,decide_eq_false_iff_not]
  by_cases q:y.fate=0
  ·exact .inl (fun e=>h ⟨q,e⟩)
  ·exact .inr q
theorem Rel.head (r:Rel s Ls):headR Ls=headC s:=by
 unfold headR headC
 have h1:=cntK_fate Ls 1 (by omega)
 have h2:=cntK_fate Ls 2 (by omega)
 have h3:=cntK_fate Ls 3 (by omega)
 have h4:(Ls.filter (fun y=>decide (y.fate=0))).length=s.L.length:=by rw[r.there];unfold thereL;rw[List.length_map]
 rw[h4,h1,h2,h3,r.next,r.acked,r.over,r.gone]
 simp
theorem Rel.recs (r:Rel s Ls):headR Ls::(thereL Ls).map recC=recsC s:=by
 unfold recsC
 rw[r.head,r.there]
theorem Rel.of (r:Rel s Ls) (e:Ev):ofL s.L e=(Ls.filter (isE e)).map RC.c:=by
 unfold ofL
 rw[r.there]
 unfold thereL
 rw[List.filter_map,List.filter_filter]
 congr 1
 refine List.filter_congr fun y _=> ?_
 unfold isE
 rw[Bool.and_comm];rfl
theorem Rel.cnt (r:Rel s Ls) (e:Ev):cntE Ls e false=(ofL s.L e).length:=by
 rw[r.of,List.length_map]
 unfold cntE
 congr 1
 refine List.filter_congr fun y _=> ?_
 simp
theorem may_eq (e:Ev) (n till:Nat):Cps.mayC e n (till:Int)=Rcp.mayC e n till:=by
 unfold Cps.mayC Rcp.mayC
 have h1:decide (¬kindE e<1)=(rightE e && !decide (e=Ev.zero)):=by
  rw[Bool.eq_iff_iff]
  simp only[decide_eq_true_eq,Bool.and_eq_true,Bool.not_eq_true',decide_eq_false_iff_not]
  rw[kind_lt];simp
 have h2:decide ((till:Int)≤1099511627776)=decide (till≤1099511627776):=decide_eq_decide.2 ⟨by omega,by omega⟩
 have h3:decide (1≤n)=decide (0<n):=decide_eq_decide.2 ⟨by omega,by omega⟩
 rw[h1,h2,h3,Bool.and_assoc]
theorem Rel.addE (r:Rel s Ls) (e:Ev) (d:List UInt8) (till:Nat):Cps.addE s e d till=Rcp.addE Ls e d.length till:=by
 unfold Cps.addE Rcp.addE
 rw[may_eq,r.cnt]
 cases Rcp.mayC e d.length till<;>simp
theorem cntF_app (A B:List RC) (f:Nat):cntF (A++B) f=cntF A f+cntF B f:=by unfold cntF;rw[List.filter_append,List.length_append]
theorem there_app (A B:List RC):thereL (A++B)=thereL A++thereL B:=by unfold thereL;rw[List.filter_append,List.map_append]
theorem Rel.add (r:Rel s Ls) (e:Ev) (d:List UInt8) (till:Nat) (h0:Cps.addE s e d till=0):Rel (addF s e d till) (Ls++ [⟨⟨Ls.length+1,e,d,till,0,0⟩,0⟩])∧addN s e d till=(Ls.length:Int)+1:=by
 have hn:=r.next
 refine⟨?_,by unfold addN;rw[if_pos h0];omega⟩
 unfold addF
 rw[if_pos h0]
 refine⟨?_, ?_, ?_, ?_, ?_, ?_, ?_⟩
 ·show s.L++ [_]=_
  rw[there_app,←r.there,r.next];rfl
 ·show s.next+1=_
  rw[List.length_append,r.next];rfl
 ·show s.acked=_
  rw[cntF_app,r.acked];simp[cntF,List.filter_cons]
 ·show s.over=_
  rw[cntF_app,r.over];simp[cntF,List.filter_cons]
 ·show s.gone=_
  rw[cntF_app,r.gone];simp[cntF,List.filter_cons]
 ·intro y hy
  rcases List.mem_append.1 hy with hy|hy
  ·exact r.fates y hy
  ·obtain rfl:=List.mem_singleton.1 hy
   exact Nat.zero_le _
 ·intro i y hy
  by_cases hi:i<Ls.length
  ·rw[List.getElem?_append_left hi] at hy
   exact r.nums i y hy
  ·rw[List.getElem?_append_right (by omega)] at hy
   have:i - Ls.length=0:=by
    have:=(List.getElem?_eq_some_iff.1 hy).1
    simp at this
    omega
   rw[this] at hy
   simp at hy
   subst hy
   show Ls.length+1=i+1
   omega
theorem there_cons (y:RC) (L:List RC):thereL (y::L)=(if y.fate=0 then [y.c] else [])++thereL L:=by
 unfold thereL
 rw[List.filter_cons]
 by_cases h:y.fate=0<;>simp[h]
theorem Rel.leaseC (r:Rel s Ls) (e:Ev):leaseC s.L e=(Ls.find? (fun y=>isE e y && decide (y.c.ses=0))).map RC.c:=by
 unfold Cps.leaseC
 rw[r.of,List.find?_map,List.find?_filter]
 congr 1
 congr 1
 funext y
 rw[Bool.eq_iff_iff]
 simp
theorem Rel.due (r:Rel s Ls) (ok:okC s) (O:Ord s) {now:Nat} {ms:List Nat} (hm: ∀i,i∈ms↔ ∃y,Ls[i]? =some y∧dueR (now:Int) y) (hs:(ms.map (kvR Ls)).Pairwise Heapq.lt):Alarm.due s.E1 (now:Int)=ms.map (kvR Ls):=by
 have so:Sorted (Alarm.due s.E1 (now:Int)):=by rw[(sorted_split O.o1).1];exact List.Pairwise.filter _ O.o1
 refine sorted_ext so hs fun e=> ?_
 rw[due_mem O,List.mem_map,ok.e1]
 constructor
 ·rintro⟨⟨z,hz,rfl⟩,ht⟩
  obtain⟨i,y,hi,hf,rfl⟩:=r.mem.1 hz
  refine⟨i,(hm i).2 ⟨y,hi,hf,ht⟩, ?_⟩
  unfold kvR
  rw[hi,r.nums i y hi];rfl
 ·rintro⟨i,hi,rfl⟩
  obtain⟨y,hy,hf,ht⟩:=(hm i).1 hi
  unfold kvR
  rw[hy]
  exact⟨⟨y.c,r.mem.2 ⟨i,y,hy,hf,rfl⟩,by rw[r.nums i y hy];rfl⟩,ht⟩
def dueB (now:Nat) (y:RC):Bool:=decide (y.fate=0) && decide ((y.c.till:Int)≤(now:Int))
def overM (now:Nat) (y:RC):RC:=if dueB now y=true then overC y else y
theorem over_map {now:Nat} {ms:List Nat} (hm: ∀i,i∈ms↔ ∃y,Ls[i]? =some y∧dueR (now:Int) y):overL Ls ms=Ls.map (overM now):=by
 apply List.ext_getElem?
 intro i
 rw[overL_at,List.getElem?_map]
 cases e:Ls[i]? with
 |none=>rfl
 |some y=>
  simp only[Option.map_some,Option.some.injEq]
  unfold overM dueB
  by_cases hd:dueR (now:Int) y
  ·rw[if_pos ((hm i).2 ⟨y,e,hd⟩),if_pos (by rw[decide_eq_true hd.1,decide_eq_true hd.2];rfl)]
  ·rw[if_neg,if_neg]
   ·intro h
    rw[Bool.and_eq_true,decide_eq_true_eq,decide_eq_true_eq] at h
    exact hd h
   ·intro h
    obtain⟨y',e',hd'⟩:=(hm i).1 h
    rw[e] at e'
    exact hd (Option.some.inj e'▸hd')
theorem pass_there (now:Nat): ∀(Ls:List RC),(∀y∈Ls,0≤y.c.ses)→thereL ((Ls.map (overM now)).map (freeR now))=((thereL Ls).filter (fun z=>decide ((now:Int)<(z.till:Int)))).map (freeZ (now:Int))
 | [],_=>rfl
 |y::L,hp=>by
  have ih:=pass_there now L (fun z hz=>hp z (List.mem_cons_of_mem _ hz))
  have hy:=hp y (by simp)
  rw[List.map_cons,List.map_cons,there_cons,there_cons,ih,List.filter_append,List.map_append]
  congr 1
  unfold overM dueB
  by_cases hf:y.fate=0
  ·rw[if_pos (c:=y.fate=0) hf]
   by_cases ht:(y.c.till:Int)≤(now:Int)
   ·have h1:(decide (y.fate=0) && decide ((y.c.till:Int)≤(now:Int)))=true:=by rw[decide_eq_true hf,decide_eq_true ht];rfl
    rw[if_pos h1]
    have h2:freeR now (overC y)=overC y:=by unfold freeR;rw[if_neg (fun hh=>by have:(2:Nat)=0:=hh.1;omega)]
    rw[h2,if_neg (show¬(overC y).fate=0 by show¬(2:Nat)=0;omega),List.filter_cons,if_neg (by simpa using ht)];rfl
   ·have h1: ¬(decide (y.fate=0) && decide ((y.c.till:Int)≤(now:Int)))=true:=by rw[decide_eq_false ht];simp
    have e1: [y.c].filter (fun z=>decide ((now:Int)<(z.till:Int)))= [y.c]:=by rw[List.filter_cons,if_pos (by simp;omega)];rfl
    rw[if_neg h1,e1]
    by_cases q:y.c.ses≠0∧(y.c.dl:Int)≤(now:Int)
    ·have e2:freeR now y=⟨{ y.c with ses:=0,dl:=0 },y.fate⟩:=if_pos ⟨hf,by omega,by omega⟩
     have e3:freeZ (now:Int) y.c= { y.c with ses:=0,dl:=0 } :=if_pos q
     rw[e2,if_pos (show(⟨{ y.c with ses:=0,dl:=0 },y.fate⟩:RC).fate=0 from hf),List.map_cons,e3];rfl
    ·have e2:freeR now y=y:=if_neg (fun hh=>q ⟨by omega,by omega⟩)
     have e3:freeZ (now:Int) y.c=y.c:=if_neg q
     rw[e2,if_pos hf,List.map_cons,e3];rfl
  ·have h1: ¬(decide (y.fate=0) && decide ((y.c.till:Int)≤(now:Int)))=true:=by rw[decide_eq_false hf];simp
   rw[if_neg h1,if_neg (c:=y.fate=0) hf]
   have h2:freeR now y=y:=by unfold freeR;rw[if_neg (fun hh=>hf hh.1)]
   rw[h2,if_neg hf];rfl
theorem free_fate (now:Nat) (y:RC):(freeR now y).fate=y.fate∧(freeR now y).c.num=y.c.num:=by unfold freeR;split<;>exact⟨rfl,rfl⟩
theorem pass_cnt (now f:Nat) (hf:f≠0): ∀Ls:List RC,cntF ((Ls.map (overM now)).map (freeR now)) f=cntF Ls f+if f=2 then(Ls.filter (dueB now)).length else 0
 | []=>by unfold cntF;simp
 |y::L=>by
  have ih:=pass_cnt now f hf L
  unfold cntF at ih⊢
  rw[List.map_cons,List.map_cons,List.filter_cons,List.filter_cons,List.filter_cons,(free_fate now _).1]
  by_cases hd:dueB now y=true
  ·have h0:y.fate=0:=by unfold dueB at hd;simp only[Bool.and_eq_true,decide_eq_true_eq] at hd;exact hd.1
   have eo:overM now y=overC y:=if_pos hd
   rw[eo,if_pos hd,if_neg (c:=decide (y.fate=f)=true) (by simp;omega),List.length_cons]
   by_cases h2:f=2
   ·subst h2
    rw[if_pos (by rfl),List.length_cons,ih];simp;omega
   ·have: ¬(overC y).fate=f:=fun e=>h2 e.symm
    rw[if_neg (by simpa using this),ih,if_neg h2,if_neg h2]
  ·have eo:overM now y=y:=if_neg hd
   rw[eo,if_neg hd]
   split
   ·rw[List.length_cons,List.length_cons,ih];omega
   ·exact ih
theorem Rel.pass (r:Rel s Ls) (ok:okC s) (O:Ord s) {now:Nat} {ms:List Nat} (hses: ∀y∈Ls,0≤y.c.ses) (hm: ∀i,i∈ms↔ ∃y,Ls[i]? =some y∧dueR (now:Int) y) (hs:(ms.map (kvR Ls)).Pairwise Heapq.lt):Rel (passF s (now:Int)) ((overL Ls ms).map (freeR now)):=by
 obtain⟨_,_,h3,_,_,h6,h7,h8,h9⟩:=pass_all2 ok O (now:Int)
 have hl:(Alarm.due s.E1 (now:Int)).length=(Ls.filter (dueB now)).length:=by
  rw[r.due ok O hm hs,List.length_map]
  have e:ms.length=((List.range Ls.length).filter (fun i=>match Ls[i]? with|some y=>dueB now y|none=>false)).length:=by
   refine nd_len ?_ (List.Pairwise.filter _ List.nodup_range) fun i=> ?_
   ·have:=hs
    rw[List.pairwise_map] at this
    exact this.imp (fun h e=>by subst e;exact Heapq.lt_irrefl _ h)
   ·rw[hm,List.mem_filter,List.mem_range]
    constructor
    ·rintro⟨y,hy,h1,h2⟩
     refine⟨(List.getElem?_eq_some_iff.1 hy).1, ?_⟩
     rw[hy]
     show dueB now y=true
     unfold dueB;rw[decide_eq_true h1,decide_eq_true h2];rfl
    ·rintro⟨h1,h2⟩
     have hy:Ls[i]? =some Ls[i]:=List.getElem?_eq_getElem h1
     rw[hy] at h2
     have h2:dueB now Ls[i]=true:=h2
     unfold dueB at h2
     simp only[Bool.and_eq_true,decide_eq_true_eq] at h2
     exact⟨_,hy,h2⟩
  rw[e]
  have gen: ∀(L:List RC) (P:RC→Bool),((List.range L.length).filter (fun i=>match L[i]? with|some y=>P y|none=>false)).length=(L.filter P).length:=fun L P=>by
   induction L with
   |nil=>rfl
   |cons a l ih=>
    rw[List.length_cons,List.range_succ_eq_map,List.filter_cons,List.filter_map,List.filter_cons]
    have e2:(l.length|>List.range).filter ((fun i=>match (a::l)[i]? with|some y=>P y|none=>false) ∘ Nat.succ)=(List.range l.length).filter (fun i=>match l[i]? with|some y=>P y|none=>false):=List.filter_congr fun i _=>by simp
    have e2':(List.range l.length).filter ((fun i=>match (a::l)[i]? with|some y=>P y|none=>false) ∘ Nat.succ)=(List.range l.length).filter (fun i=>match l[i]? with|some y=>P y|none=>false):=e2
    rw[e2']
    have e3:(match (a::l)[0]? with|some y=>P y|none=>false)=P a:=rfl
    rw[e3]
    cases hp:P a
    ·simp only[Bool.false_eq_true,if_false,List.length_map];exact ih
    ·simp only[if_true,List.length_cons,List.length_map];rw[ih]
  exact gen Ls (dueB now)
 rw[over_map hm]
 refine⟨?_, ?_, ?_, ?_, ?_, ?_, ?_⟩
 ·rw[h6,pass_there now Ls hses,r.there]
 ·rw[h3,List.length_map,List.length_map];exact r.next
 ·rw[h7,pass_cnt now 1 (by omega),r.acked];rfl
 ·rw[h8,pass_cnt now 2 (by omega),r.over,hl];rfl
 ·rw[h9,pass_cnt now 3 (by omega),r.gone];rfl
 ·intro y hy
  obtain⟨z,hz,rfl⟩:=List.mem_map.1 hy
  obtain⟨w,hw,rfl⟩:=List.mem_map.1 hz
  rw[(free_fate now _).1]
  unfold overM
  split
  ·show(2:Nat)≤3;omega
  ·exact r.fates w hw
 ·intro i y hy
  rw[List.getElem?_map,List.getElem?_map] at hy
  cases e:Ls[i]? with
  |none=>rw[e] at hy;cases hy
  |some z=>
   rw[e] at hy
   obtain rfl:=Option.some.inj hy
   rw[(free_fate now _).2]
   unfold overM
   split
   ·exact r.nums i z e
   ·exact r.nums i z e
end Rcp
end Go.Proofs.YtgccegnmggjkjaaGreatDoor
set_option maxRecDepth 100000
set_option maxHeartbeats 4000000
namespace Go.Proofs.YtgccegnmggjkjaaGreatDoor
open Go.Den
variable {h : Heap} {R : Value → Heap → Prop}
theorem ref23_Box_There.walk {b : Nat} (hv :
 ∃ (I : Option Addr → Nat → Nat → Int → Heap → Prop) (mu : Option Addr → Nat → Nat → Int → Heap → Nat), I none 0 0 0 h ∧ ∀ (out_p : Option Addr) (out_l out_c : Nat) (i : Int) (h_1 : Heap), I out_p out_l out_c i h_1 →
 ∃ t9_p t9_l t9_c, hcell h_1 ⟨b, 0, none⟩ = some (.slice t9_p t9_l t9_c) ∧
 if (decide (i < ((t9_l : Nat) : Int))) = true then
 JoinP (fun (out_p_1 : Option Addr) (out_l_1 out_c_1 : Nat) (h_2 : Heap) =>
 (I out_p_1 out_l_1 out_c_1 (IntKind.wrap .i64 (i + 1)) h_2 ∧ mu out_p_1 out_l_1 out_c_1 (IntKind.wrap .i64 (i + 1)) h_2 < mu out_p out_l out_c i h_1))
 (fun J =>
 ∃ t17_p t17_l t17_c, hcell h_1 ⟨b, 0, none⟩ = some (.slice t17_p t17_l t17_c) ∧
 ((0 : Int) ≤ i ∧ i < ((t17_l : Nat) : Int)) ∧
 onSome t17_p fun a =>
 ∃ t21, hcell h_1 ((a.add (Int.toNat i * 5)).add 4) = some (.int .i64 t21) ∧
 JoinP (fun (out_p_2 : Option Addr) (out_l_2 out_c_2 : Nat) (h_3 : Heap) =>
 J out_p_2 out_l_2 out_c_2 h_3)
 (fun J_1 =>
 if (t21 == 1) = true then
 ∃ t27_p t27_l t27_c, hcell h_1 ⟨b, 0, none⟩ = some (.slice t27_p t27_l t27_c) ∧
 ((0 : Int) ≤ i ∧ i < ((t27_l : Nat) : Int)) ∧
 onSome t27_p fun a_1 =>
 ref23_Item.LD h_1 (a_1.add (Int.toNat i * 5)) fun t30_0 t30_1 t30_2_p t30_2_l t30_2_c t30_3 t30_4 =>
 NewP h_1 (.cells #[.int .i64 t30_0, .int .i64 t30_1, .slice t30_2_p t30_2_l t30_2_c, .int .u64 t30_3, .int .i64 t30_4] T.ref23_Item) fun b_1 h_4 =>
 denSem Tryz.prog (Builtin.append_ #[T.s_ref23_Item, T.s_ref23_Item] T.s_ref23_Item #[.slice out_p out_l out_c, .slice (some ⟨b_1, 0, none⟩) 1 1]) h_4 fun v h_5 =>
 ∃ t32_p t32_l t32_c, v = .slice t32_p t32_l t32_c ∧
 J_1 t32_p t32_l t32_c h_5
 else
 J_1 out_p out_l out_c h_1))
 else
 R (.slice out_p out_l out_c) h_1) : CallsH Tryz.prog F.ref23_Box_There #[.pointer (some ⟨b, 0, none⟩)] h R :=
 callsH_of_body (.seq .leaf (.seq .leaf (.seq (.seq .leaf (.block (.loop [(3, .one (.slice)), (4, .one (.int .i64))] (.seq (.seq .leaf (.cond .leaf .leaf)) (.seq (.join [(3, .one (.slice))] (.block (.seq .leaf (.join [(3, .one (.slice))] (.cond .leaf .leaf))))) .leaf))))) (.seq .leaf .leaf)))) Tryz.func163 rfl rfl (Eq.mp (by kernel_rfl) hv)
theorem ref23_Box_Counts.walk {b : Nat} (hv :
 NewP h (.cells #[.int .i64 0, .int .i64 0, .int .i64 0, .int .i64 0, .int .i64 0] T.a5_int) fun b_1 h_1 =>
 ∃ t8_p t8_l t8_c, hcell h_1 ⟨b, 0, none⟩ = some (.slice t8_p t8_l t8_c) ∧
 NewP h_1 (.cells #[.int .i64 0, .int .i64 0, .int .i64 0, .int .i64 0, .int .i64 0] T.a5_int) fun b_2 h_2 =>
 StoreP h_2 ⟨b_2, 0, none⟩ (.int .i64 ((t8_l : Nat) : Int)) fun h_3 =>
 StoreP h_3 ⟨b_2, 1, none⟩ (.int .i64 0) fun h_4 =>
 StoreP h_4 ⟨b_2, 2, none⟩ (.int .i64 0) fun h_5 =>
 StoreP h_5 ⟨b_2, 3, none⟩ (.int .i64 0) fun h_6 =>
 StoreP h_6 ⟨b_2, 4, none⟩ (.int .i64 0) fun h_7 =>
 ∃ (I : Int → Heap → Prop) (mu : Int → Heap → Nat), I 0 h_7 ∧ ∀ (i : Int) (h_8 : Heap), I i h_8 →
 ∃ t15_p t15_l t15_c, hcell h_8 ⟨b, 0, none⟩ = some (.slice t15_p t15_l t15_c) ∧
 if (decide (i < ((t15_l : Nat) : Int))) = true then
 ∃ t23_p t23_l t23_c, hcell h_8 ⟨b, 0, none⟩ = some (.slice t23_p t23_l t23_c) ∧
 ((0 : Int) ≤ i ∧ i < ((t23_l : Nat) : Int)) ∧
 onSome t23_p fun a =>
 ∃ t27, hcell h_8 ((a.add (Int.toNat i * 5)).add 4) = some (.int .i64 t27) ∧
 ((0 : Int) ≤ t27 ∧ t27 < ((5 : Nat) : Int)) ∧
 ∃ t29, hcell h_8 ((⟨b_2, 0, none⟩ : Addr).add (Int.toNat t27 * 1)) = some (.int .i64 t29) ∧
 ((0 : Int) ≤ t27 ∧ t27 < ((5 : Nat) : Int)) ∧
 StoreP h_8 ((⟨b_2, 0, none⟩ : Addr).add (Int.toNat t27 * 1)) (.int .i64 (IntKind.wrap .i64 (t29 + 1))) fun h_9 =>
 (I (IntKind.wrap .i64 (i + 1)) h_9 ∧ mu (IntKind.wrap .i64 (i + 1)) h_9 < mu i h_8)
 else
 ∃ t32_0, hcell h_8 ⟨b_2, 0, none⟩ = some (.int .i64 t32_0) ∧ ∃ t32_1, hcell h_8 ⟨b_2, 1, none⟩ = some (.int .i64 t32_1) ∧ ∃ t32_2, hcell h_8 ⟨b_2, 2, none⟩ = some (.int .i64 t32_2) ∧ ∃ t32_3, hcell h_8 ⟨b_2, 3, none⟩ = some (.int .i64 t32_3) ∧ ∃ t32_4, hcell h_8 ⟨b_2, 4, none⟩ = some (.int .i64 t32_4) ∧
 StoreP h_8 ⟨b_1, 0, none⟩ (.int .i64 t32_0) fun h_10 =>
 StoreP h_10 ⟨b_1, 1, none⟩ (.int .i64 t32_1) fun h_11 =>
 StoreP h_11 ⟨b_1, 2, none⟩ (.int .i64 t32_2) fun h_12 =>
 StoreP h_12 ⟨b_1, 3, none⟩ (.int .i64 t32_3) fun h_13 =>
 StoreP h_13 ⟨b_1, 4, none⟩ (.int .i64 t32_4) fun h_14 =>
 ∃ r_0, hcell h_14 ⟨b_1, 0, none⟩ = some (.int .i64 r_0) ∧ ∃ r_1, hcell h_14 ⟨b_1, 1, none⟩ = some (.int .i64 r_1) ∧ ∃ r_2, hcell h_14 ⟨b_1, 2, none⟩ = some (.int .i64 r_2) ∧ ∃ r_3, hcell h_14 ⟨b_1, 3, none⟩ = some (.int .i64 r_3) ∧ ∃ r_4, hcell h_14 ⟨b_1, 4, none⟩ = some (.int .i64 r_4) ∧
 R (.agg #[.int .i64 r_0, .int .i64 r_1, .int .i64 r_2, .int .i64 r_3, .int .i64 r_4]) h_14) : CallsH Tryz.prog F.ref23_Box_Counts #[.pointer (some ⟨b, 0, none⟩)] h R :=
 callsH_of_body (.seq .leaf (.seq .leaf (.seq (.seq .leaf (.block (.loop [(4, .one (.int .i64))] (.seq (.seq .leaf (.cond .leaf .leaf)) (.seq (.block .leaf) .leaf))))) (.seq .leaf .leaf)))) Tryz.func198 rfl rfl (Eq.mp (by kernel_rfl) hv)
theorem ref23_Box_Add.walk {b : Nat} {owner : Int} {data_p : Option Addr} {data_l data_c : Nat} {v_until : Int} (hv :
 JoinP (fun (t30 : Bool) (h_1 : Heap) =>
 if t30 = true then
 R (.tuple #[.int .i64 0, .int .i64 1]) h_1
 else
 Cl F.ref23_Box_There #[.pointer (some ⟨b, 0, none⟩)] h_1 fun v h_2 =>
 ∃ t32_p t32_l t32_c, v = .slice t32_p t32_l t32_c ∧
 if (decide (((t32_l : Nat) : Int) ≥ 16)) = true then
 R (.tuple #[.int .i64 0, .int .i64 15]) h_2
 else
 ∃ t38_p t38_l t38_c, hcell h_2 ⟨b, 0, none⟩ = some (.slice t38_p t38_l t38_c) ∧
 NewP h_2 (.cells #[.int .i64 0, .int .i64 0, .slice none 0 0, .int .u64 0, .int .i64 0] T.ref23_Item) fun b_1 h_3 =>
 ref23_Item.ST h_3 ⟨b_1, 0, none⟩ (IntKind.wrap .i64 (((t38_l : Nat) : Int) + 1)) owner none 0 0 v_until 1 fun h_4 =>
 ∃ t45_p t45_l t45_c, hcell h_4 ⟨b_1, 2, none⟩ = some (.slice t45_p t45_l t45_c) ∧
 denSem Tryz.prog (Builtin.append_ #[T.s_uint8, T.s_uint8] T.s_uint8 #[.slice t45_p t45_l t45_c, .slice data_p data_l data_c]) h_4 fun v_1 h_5 =>
 ∃ t47_p t47_l t47_c, v_1 = .slice t47_p t47_l t47_c ∧
 StoreP h_5 ⟨b_1, 2, none⟩ (.slice t47_p t47_l t47_c) fun h_6 =>
 ∃ t53_p t53_l t53_c, hcell h_6 ⟨b, 0, none⟩ = some (.slice t53_p t53_l t53_c) ∧
 ref23_Item.LD h_6 ⟨b_1, 0, none⟩ fun t54_0 t54_1 t54_2_p t54_2_l t54_2_c t54_3 t54_4 =>
 NewP h_6 (.cells #[.int .i64 t54_0, .int .i64 t54_1, .slice t54_2_p t54_2_l t54_2_c, .int .u64 t54_3, .int .i64 t54_4] T.ref23_Item) fun b_2 h_7 =>
 hcell h_7 ⟨b, 0, none⟩ = some (.slice t53_p t53_l t53_c) ∧
 denSem Tryz.prog (Builtin.append_ #[T.s_ref23_Item, T.s_ref23_Item] T.s_ref23_Item #[.slice t53_p t53_l t53_c, .slice (some ⟨b_2, 0, none⟩) 1 1]) h_7 fun v_2 h_8 =>
 ∃ t56_p t56_l t56_c, v_2 = .slice t56_p t56_l t56_c ∧
 StoreP h_8 ⟨b, 0, none⟩ (.slice t56_p t56_l t56_c) fun h_9 =>
 ∃ t60, hcell h_9 ⟨b_1, 0, none⟩ = some (.int .i64 t60) ∧
 R (.tuple #[.int .i64 t60, .int .i64 0]) h_9)
 (fun J =>
 if (decide (owner < 1)) = true then
 J true h
 else
 if (decide (owner > 1099511627776)) = true then
 J true h
 else
 if (decide (((data_l : Nat) : Int) < 1)) = true then
 J true h
 else
 if (decide (((data_l : Nat) : Int) > 600)) = true then
 J true h
 else
 J (decide (v_until > 1099511627776)) h)) : CallsH Tryz.prog F.ref23_Box_Add #[.pointer (some ⟨b, 0, none⟩), .int .i64 owner, .slice data_p data_l data_c, .int .u64 v_until] h R :=
 callsH_of_body (.seq .leaf (.seq (.seq (.join [(30, .one (.bool))] .leaf) (.cond (.seq .leaf .leaf) .leaf)) (.seq (.seq .leaf (.cond (.seq .leaf .leaf) .leaf)) (.seq .leaf (.seq .leaf (.seq (.plan (.op 0 (.op 1 (.op 2 (.op 3 (.op 4 (.op 5 (.op 6 (.op 7 (.op 8 (.op 9 (.op 10 .done)))))))))))) (.seq .leaf .leaf))))))) Tryz.func165 rfl rfl (Eq.mp (by kernel_rfl) hv)
theorem ref23_Box_Cancel.walk {b : Nat} {num : Int} {owner : Int} (hv :
 JoinP (fun (t29 : Bool) (h_1 : Heap) =>
 if t29 = true then
 R (.int .i64 4) h_1
 else
 ∃ t33_p t33_l t33_c, hcell h_1 ⟨b, 0, none⟩ = some (.slice t33_p t33_l t33_c) ∧
 ((0 : Int) ≤ IntKind.wrap .i64 (num - 1) ∧ IntKind.wrap .i64 (num - 1) < ((t33_l : Nat) : Int)) ∧
 onSome t33_p fun a =>
 ∃ t38, hcell h_1 ((a.add (Int.toNat (IntKind.wrap .i64 (num - 1)) * 5)).add 1) = some (.int .i64 t38) ∧
 if (t38 != owner) = true then
 R (.int .i64 13) h_1
 else
 ∃ t44_p t44_l t44_c, hcell h_1 ⟨b, 0, none⟩ = some (.slice t44_p t44_l t44_c) ∧
 ((0 : Int) ≤ IntKind.wrap .i64 (num - 1) ∧ IntKind.wrap .i64 (num - 1) < ((t44_l : Nat) : Int)) ∧
 onSome t44_p fun a_1 =>
 StoreP h_1 ((a_1.add (Int.toNat (IntKind.wrap .i64 (num - 1)) * 5)).add 4) (.int .i64 3) fun h_2 =>
 R (.int .i64 0) h_2)
 (fun J =>
 if (decide (num < 1)) = true then
 J true h
 else
 ∃ t14_p t14_l t14_c, hcell h ⟨b, 0, none⟩ = some (.slice t14_p t14_l t14_c) ∧
 if (decide (num > ((t14_l : Nat) : Int))) = true then
 J true h
 else
 ∃ t22_p t22_l t22_c, hcell h ⟨b, 0, none⟩ = some (.slice t22_p t22_l t22_c) ∧
 ((0 : Int) ≤ IntKind.wrap .i64 (num - 1) ∧ IntKind.wrap .i64 (num - 1) < ((t22_l : Nat) : Int)) ∧
 onSome t22_p fun a_2 =>
 ∃ t27, hcell h ((a_2.add (Int.toNat (IntKind.wrap .i64 (num - 1)) * 5)).add 4) = some (.int .i64 t27) ∧
 J (t27 != 1) h)) : CallsH Tryz.prog F.ref23_Box_Cancel #[.pointer (some ⟨b, 0, none⟩), .int .i64 num, .int .i64 owner] h R :=
 callsH_of_body (.seq .leaf (.seq (.seq (.join [(29, .one (.bool))] .leaf) (.cond (.seq .leaf .leaf) .leaf)) (.seq (.seq .leaf (.cond (.seq .leaf .leaf) .leaf)) (.seq .leaf (.seq .leaf .leaf))))) Tryz.func111 rfl rfl (Eq.mp (by kernel_rfl) hv)
theorem ref23_Box_Take.walk {b : Nat} (hv :
 ∃ (I : Int → Heap → Prop) (mu : Int → Heap → Nat), I 0 h ∧ ∀ (i : Int) (h_1 : Heap), I i h_1 →
 ∃ t8_p t8_l t8_c, hcell h_1 ⟨b, 0, none⟩ = some (.slice t8_p t8_l t8_c) ∧
 if (decide (i < ((t8_l : Nat) : Int))) = true then
 ∃ t16_p t16_l t16_c, hcell h_1 ⟨b, 0, none⟩ = some (.slice t16_p t16_l t16_c) ∧
 ((0 : Int) ≤ i ∧ i < ((t16_l : Nat) : Int)) ∧
 onSome t16_p fun a =>
 ∃ t20, hcell h_1 ((a.add (Int.toNat i * 5)).add 4) = some (.int .i64 t20) ∧
 if (t20 == 1) = true then
 ∃ t25_p t25_l t25_c, hcell h_1 ⟨b, 0, none⟩ = some (.slice t25_p t25_l t25_c) ∧
 ((0 : Int) ≤ i ∧ i < ((t25_l : Nat) : Int)) ∧
 onSome t25_p fun a_1 =>
 StoreP h_1 ((a_1.add (Int.toNat i * 5)).add 4) (.int .i64 2) fun h_2 =>
 R (.int .i64 i) h_2
 else
 (I (IntKind.wrap .i64 (i + 1)) h_1 ∧ mu (IntKind.wrap .i64 (i + 1)) h_1 < mu i h_1)
 else
 R (.int .i64 (-1)) h_1) : CallsH Tryz.prog F.ref23_Box_Take #[.pointer (some ⟨b, 0, none⟩)] h R :=
 callsH_of_body (.seq .leaf (.seq (.seq .leaf (.block (.loop [(3, .one (.int .i64))] (.seq (.seq .leaf (.cond .leaf .leaf)) (.seq (.block (.seq .leaf (.cond (.seq .leaf (.seq .leaf .leaf)) .leaf))) .leaf))))) (.seq .leaf .leaf))) Tryz.func112 rfl rfl (Eq.mp (by kernel_rfl) hv)
theorem ref23_Box_Pass.walk {b : Nat} {now : Int} (hv :
 ∃ (I : Option Addr → Nat → Nat → Heap → Prop) (mu : Option Addr → Nat → Nat → Heap → Nat), I none 0 0 h ∧ ∀ (out_p : Option Addr) (out_l out_c : Nat) (h_1 : Heap), I out_p out_l out_c h_1 →
 ∃ (I_1 : Int → Int → Heap → Prop) (mu_1 : Int → Int → Heap → Nat), I_1 (-1) 0 h_1 ∧ ∀ (best : Int) (i : Int) (h_2 : Heap), I_1 best i h_2 →
 ∃ t12_p t12_l t12_c, hcell h_2 ⟨b, 0, none⟩ = some (.slice t12_p t12_l t12_c) ∧
 if (decide (i < ((t12_l : Nat) : Int))) = true then
 JoinP (fun (best_1 : Int) (h_3 : Heap) =>
 (I_1 best_1 (IntKind.wrap .i64 (i + 1)) h_3 ∧ mu_1 best_1 (IntKind.wrap .i64 (i + 1)) h_3 < mu_1 best i h_2))
 (fun J =>
 JoinP (fun (t60 : Bool) (h_4 : Heap) =>
 JoinP (fun (best_2 : Int) (h_5 : Heap) =>
 J best_2 h_5)
 (fun J_2 =>
 if t60 = true then
 J_2 i h_4
 else
 J_2 best h_4))
 (fun J_1 =>
 ∃ t20_p t20_l t20_c, hcell h_2 ⟨b, 0, none⟩ = some (.slice t20_p t20_l t20_c) ∧
 ((0 : Int) ≤ i ∧ i < ((t20_l : Nat) : Int)) ∧
 onSome t20_p fun a =>
 ∃ t24, hcell h_2 ((a.add (Int.toNat i * 5)).add 4) = some (.int .i64 t24) ∧
 if (t24 == 1) = true then
 ∃ t30_p t30_l t30_c, hcell h_2 ⟨b, 0, none⟩ = some (.slice t30_p t30_l t30_c) ∧
 ((0 : Int) ≤ i ∧ i < ((t30_l : Nat) : Int)) ∧
 onSome t30_p fun a_1 =>
 ∃ t34, hcell h_2 ((a_1.add (Int.toNat i * 5)).add 3) = some (.int .u64 t34) ∧
 if (decide (t34 ≤ now)) = true then
 if (decide (best < 0)) = true then
 J_1 true h_2
 else
 ∃ t45_p t45_l t45_c, hcell h_2 ⟨b, 0, none⟩ = some (.slice t45_p t45_l t45_c) ∧
 ((0 : Int) ≤ i ∧ i < ((t45_l : Nat) : Int)) ∧
 onSome t45_p fun a_2 =>
 ∃ t49, hcell h_2 ((a_2.add (Int.toNat i * 5)).add 3) = some (.int .u64 t49) ∧
 ∃ t53_p t53_l t53_c, hcell h_2 ⟨b, 0, none⟩ = some (.slice t53_p t53_l t53_c) ∧
 ((0 : Int) ≤ best ∧ best < ((t53_l : Nat) : Int)) ∧
 onSome t53_p fun a_3 =>
 ∃ t57, hcell h_2 ((a_3.add (Int.toNat best * 5)).add 3) = some (.int .u64 t57) ∧
 J_1 (decide (t49 < t57)) h_2
 else
 J_1 false h_2
 else
 J_1 false h_2))
 else
 if (decide (best < 0)) = true then
 R (.slice out_p out_l out_c) h_2
 else
 NewP h_2 (.cells #[.int .i64 best] T.int) fun b_1 h_6 =>
 denSem Tryz.prog (Builtin.append_ #[T.s_int, T.s_int] T.s_int #[.slice out_p out_l out_c, .slice (some ⟨b_1, 0, none⟩) 1 1]) h_6 fun v h_7 =>
 ∃ t68_p t68_l t68_c, v = .slice t68_p t68_l t68_c ∧
 ∃ t72_p t72_l t72_c, hcell h_7 ⟨b, 0, none⟩ = some (.slice t72_p t72_l t72_c) ∧
 ((0 : Int) ≤ best ∧ best < ((t72_l : Nat) : Int)) ∧
 onSome t72_p fun a_4 =>
 StoreP h_7 ((a_4.add (Int.toNat best * 5)).add 4) (.int .i64 4) fun h_8 =>
 (I t68_p t68_l t68_c h_8 ∧ mu t68_p t68_l t68_c h_8 < mu out_p out_l out_c h_1)) : CallsH Tryz.prog F.ref23_Box_Pass #[.pointer (some ⟨b, 0, none⟩), .int .u64 now] h R :=
 callsH_of_body (.seq .leaf (.seq .leaf (.block (.loop [(5, .one (.slice))] (.block (.seq .leaf (.seq (.seq .leaf (.block (.loop [(6, .one (.int .i64)), (7, .one (.int .i64))] (.seq (.seq .leaf (.cond .leaf .leaf)) (.seq (.join [(6, .one (.int .i64))] (.block (.seq (.join [(60, .one (.bool))] (.plan (.op 0 (.op 1 (.op 2 (.op 3 (.op 4 (.op 5 (.op 6 (.op 7 (.op 8 (.op 9 (.op 10 (.op 11 (.op 12 (.op 13 (.op 14 (.op 15 (.op 16 (.op 17 (.op 18 (.op 19 (.op 20 (.op 21 (.op 22 (.op 23 (.op 24 (.op 25 (.op 26 (.op 27 (.op 28 (.op 29 (.op 30 (.op 31 (.op 32 (.op 33 (.op 34 (.op 35 (.op 36 (.op 37 (.op 38 (.op 39 (.op 40 (.op 41 (.op 42 (.op 43 .done)))))))))))))))))))))))))))))))))))))))))))))) (.join [(6, .one (.int .i64))] (.cond .leaf .leaf))))) .leaf))))) (.seq (.seq .leaf (.cond (.seq .leaf .leaf) .leaf)) (.seq .leaf .leaf))))))))) Tryz.func162 rfl rfl (Eq.mp (by kernel_rfl) hv)
theorem ref23_Box_Save.walk {b : Nat} (hv :
 Cl F.ref23_Box_Counts #[.pointer (some ⟨b, 0, none⟩)] h fun v h_1 =>
 ∃ t12_0 t12_1 t12_2 t12_3 t12_4, v = .agg #[.int .i64 t12_0, .int .i64 t12_1, .int .i64 t12_2, .int .i64 t12_3, .int .i64 t12_4] ∧
 NewP h_1 (.cells #[.int .i64 0, .int .i64 0, .int .i64 0, .int .i64 0, .int .i64 0] T.a5_int) fun b_1 h_2 =>
 StoreP h_2 ⟨b_1, 0, none⟩ (.int .i64 t12_0) fun h_3 =>
 StoreP h_3 ⟨b_1, 1, none⟩ (.int .i64 t12_1) fun h_4 =>
 StoreP h_4 ⟨b_1, 2, none⟩ (.int .i64 t12_2) fun h_5 =>
 StoreP h_5 ⟨b_1, 3, none⟩ (.int .i64 t12_3) fun h_6 =>
 StoreP h_6 ⟨b_1, 4, none⟩ (.int .i64 t12_4) fun h_7 =>
 Cl F.ref23_Box_There #[.pointer (some ⟨b, 0, none⟩)] h_7 fun v_1 h_8 =>
 ∃ t14_p t14_l t14_c, v_1 = .slice t14_p t14_l t14_c ∧
 ∃ t18_p t18_l t18_c, hcell h_8 ⟨b, 0, none⟩ = some (.slice t18_p t18_l t18_c) ∧
 ((0 : Int) ≤ 2 ∧ 2 < ((5 : Nat) : Int)) ∧
 ∃ t22, hcell h_8 ((⟨b_1, 0, none⟩ : Addr).add (Int.toNat 2 * 1)) = some (.int .i64 t22) ∧
 ((0 : Int) ≤ 3 ∧ 3 < ((5 : Nat) : Int)) ∧
 ∃ t24, hcell h_8 ((⟨b_1, 0, none⟩ : Addr).add (Int.toNat 3 * 1)) = some (.int .i64 t24) ∧
 ((0 : Int) ≤ 4 ∧ 4 < ((5 : Nat) : Int)) ∧
 ∃ t26, hcell h_8 ((⟨b_1, 0, none⟩ : Addr).add (Int.toNat 4 * 1)) = some (.int .i64 t26) ∧
 NewP h_8 (.cells #[.int .i64 (IntKind.wrap .i64 (((t18_l : Nat) : Int) + 1)), .int .i64 t22, .int .i64 t24, .int .i64 t26, .int .i64 ((t14_l : Nat) : Int)] T.int) fun b_2 h_9 =>
 hcell h_9 ⟨b, 0, none⟩ = some (.slice t18_p t18_l t18_c) ∧
 ∃ (I : Option Addr → Nat → Nat → Int → Heap → Prop) (mu : Option Addr → Nat → Nat → Int → Heap → Nat), I none 0 0 0 h_9 ∧ ∀ (head_p : Option Addr) (head_l head_c : Nat) (i : Int) (h_10 : Heap), I head_p head_l head_c i h_10 →
 if (decide (i < 5)) = true then
 ((0 : Int) ≤ i ∧ i < ((5 : Nat) : Int)) ∧
 ∃ t38, hcell h_10 ((⟨b_2, 0, none⟩ : Addr).add (Int.toNat i * 1)) = some (.int .i64 t38) ∧
 Cl F.ref15_Num #[.int .u64 (IntKind.wrap .u64 t38)] h_10 fun v_2 h_11 =>
 ∃ t40_p t40_l t40_c, v_2 = .slice t40_p t40_l t40_c ∧
 denSem Tryz.prog (Builtin.append_ #[T.s_uint8, T.s_uint8] T.s_uint8 #[.slice head_p head_l head_c, .slice t40_p t40_l t40_c]) h_11 fun v_3 h_12 =>
 ∃ t41_p t41_l t41_c, v_3 = .slice t41_p t41_l t41_c ∧
 (I t41_p t41_l t41_c (IntKind.wrap .i64 (i + 1)) h_12 ∧ mu t41_p t41_l t41_c (IntKind.wrap .i64 (i + 1)) h_12 < mu head_p head_l head_c i h_10)
 else
 NewP h_10 (.cells #[.slice head_p head_l head_c] T.s_uint8) fun b_3 h_13 =>
 ∃ (I_1 : Option Addr → Nat → Nat → Int → Heap → Prop) (mu_1 : Option Addr → Nat → Nat → Int → Heap → Nat), I_1 (some ⟨b_3, 0, none⟩) 1 1 0 h_13 ∧ ∀ (out_p : Option Addr) (out_l out_c : Nat) (i_1 : Int) (h_14 : Heap), I_1 out_p out_l out_c i_1 h_14 →
 if (decide (i_1 < ((t14_l : Nat) : Int))) = true then
 ((0 : Int) ≤ i_1 ∧ i_1 < ((t14_l : Nat) : Int)) ∧
 onSome t14_p fun a =>
 ∃ t54, hcell h_14 (a.add (Int.toNat i_1 * 5)) = some (.int .i64 t54) ∧
 Cl F.ref15_Num #[.int .u64 (IntKind.wrap .u64 t54)] h_14 fun v_4 h_15 =>
 ∃ t56_p t56_l t56_c, v_4 = .slice t56_p t56_l t56_c ∧
 ((0 : Int) ≤ i_1 ∧ i_1 < ((t14_l : Nat) : Int)) ∧
 onSome t14_p fun a_1 =>
 ∃ t62, hcell h_15 ((a_1.add (Int.toNat i_1 * 5)).add 1) = some (.int .i64 t62) ∧
 Cl F.ref15_Num #[.int .u64 (IntKind.wrap .u64 t62)] h_15 fun v_5 h_16 =>
 ∃ t64_p t64_l t64_c, v_5 = .slice t64_p t64_l t64_c ∧
 denSem Tryz.prog (Builtin.append_ #[T.s_uint8, T.s_uint8] T.s_uint8 #[.slice t56_p t56_l t56_c, .slice t64_p t64_l t64_c]) h_16 fun v_6 h_17 =>
 ∃ t65_p t65_l t65_c, v_6 = .slice t65_p t65_l t65_c ∧
 ((0 : Int) ≤ i_1 ∧ i_1 < ((t14_l : Nat) : Int)) ∧
 onSome t14_p fun a_2 =>
 ∃ t71_p t71_l t71_c, hcell h_17 ((a_2.add (Int.toNat i_1 * 5)).add 2) = some (.slice t71_p t71_l t71_c) ∧
 Cl F.ref15_Text #[.slice t71_p t71_l t71_c] h_17 fun v_7 h_18 =>
 ∃ t72_p t72_l t72_c, v_7 = .slice t72_p t72_l t72_c ∧
 denSem Tryz.prog (Builtin.append_ #[T.s_uint8, T.s_uint8] T.s_uint8 #[.slice t65_p t65_l t65_c, .slice t72_p t72_l t72_c]) h_18 fun v_8 h_19 =>
 ∃ t73_p t73_l t73_c, v_8 = .slice t73_p t73_l t73_c ∧
 ((0 : Int) ≤ i_1 ∧ i_1 < ((t14_l : Nat) : Int)) ∧
 onSome t14_p fun a_3 =>
 ∃ t80, hcell h_19 ((a_3.add (Int.toNat i_1 * 5)).add 3) = some (.int .u64 t80) ∧
 Cl F.ref15_Num #[.int .u64 t80] h_19 fun v_9 h_20 =>
 ∃ t81_p t81_l t81_c, v_9 = .slice t81_p t81_l t81_c ∧
 denSem Tryz.prog (Builtin.append_ #[T.s_uint8, T.s_uint8] T.s_uint8 #[.slice t73_p t73_l t73_c, .slice t81_p t81_l t81_c]) h_20 fun v_10 h_21 =>
 ∃ t82_p t82_l t82_c, v_10 = .slice t82_p t82_l t82_c ∧
 NewP h_21 (.cells #[.slice t82_p t82_l t82_c] T.s_uint8) fun b_4 h_22 =>
 denSem Tryz.prog (Builtin.append_ #[T.s_s_uint8, T.s_s_uint8] T.s_s_uint8 #[.slice out_p out_l out_c, .slice (some ⟨b_4, 0, none⟩) 1 1]) h_22 fun v_11 h_23 =>
 ∃ t84_p t84_l t84_c, v_11 = .slice t84_p t84_l t84_c ∧
 (I_1 t84_p t84_l t84_c (IntKind.wrap .i64 (i_1 + 1)) h_23 ∧ mu_1 t84_p t84_l t84_c (IntKind.wrap .i64 (i_1 + 1)) h_23 < mu_1 out_p out_l out_c i_1 h_14)
 else
 R (.slice out_p out_l out_c) h_14) : CallsH Tryz.prog F.ref23_Box_Save #[.pointer (some ⟨b, 0, none⟩)] h R :=
 callsH_of_body (.seq .leaf (.seq .leaf (.seq .leaf (.seq (.plan (.op 0 (.op 1 (.op 2 (.op 3 (.op 4 (.op 5 (.op 6 (.op 7 (.op 8 (.op 9 (.op 10 (.op 11 (.op 12 (.op 13 (.op 14 (.op 15 .done))))))))))))))))) (.seq .leaf (.seq (.seq .leaf (.block (.loop [(6, .one (.slice)), (7, .one (.int .i64))] (.seq (.seq .leaf (.cond .leaf .leaf)) (.seq (.block .leaf) .leaf))))) (.seq .leaf (.seq (.seq .leaf (.block (.loop [(8, .one (.slice)), (9, .one (.int .i64))] (.seq (.seq .leaf (.cond .leaf .leaf)) (.seq (.block (.seq .leaf (.seq .leaf (.seq .leaf .leaf)))) .leaf))))) (.seq .leaf .leaf))))))))) Tryz.func170 rfl rfl (Eq.mp (by kernel_rfl) hv)
end Go.Proofs.YtgccegnmggjkjaaGreatDoor
