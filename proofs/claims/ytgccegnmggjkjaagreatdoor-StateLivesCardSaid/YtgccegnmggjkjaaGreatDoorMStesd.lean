/-
  What is proved here: parts of the proof, one behind the other (texts of this work, merged by a program; what the theorem does not use is left out). No condition.
-/
import Derived.Test.YtgccegnmggjkjaaGreatDoorMStesc
set_option maxRecDepth 100000
set_option maxHeartbeats 4000000
namespace Go.Proofs.YtgccegnmggjkjaaGreatDoor
open Go.Den
variable {h : Heap} {R : Value → Heap → Prop}
theorem internal_strconv_FormatUint.walk {i : Int} {base : Int} (hv :
 if (base == 10) = true then
 if (decide (i < 100)) = true then
 Cl F.internal_strconv_small #[.int .i64 (IntKind.wrap .i64 i)] h fun v h_1 =>
 ∃ t15, v = .string t15 ∧
 R (.string t15) h_1
 else
 NewP h (.cells #[.int .u8 0, .int .u8 0, .int .u8 0, .int .u8 0, .int .u8 0, .int .u8 0, .int .u8 0, .int .u8 0, .int .u8 0, .int .u8 0, .int .u8 0, .int .u8 0, .int .u8 0, .int .u8 0, .int .u8 0, .int .u8 0, .int .u8 0, .int .u8 0, .int .u8 0, .int .u8 0, .int .u8 0, .int .u8 0, .int .u8 0, .int .u8 0] T.a24_uint8) fun b h_2 =>
 Cl F.internal_strconv_numDigits #[.int .u64 i] h_2 fun v_1 h_3 =>
 ∃ t17, v_1 = .int .i64 t17 ∧
 ((0 : Int) ≤ t17 ∧ t17 ≤ ((24 : Nat) : Int)) ∧
 Cl F.internal_strconv_formatBase10 #[.slice (slBase (some ⟨b, 0, none⟩) 24 0 1) ((Int.toNat t17) - 0) (24 - 0), .int .u64 i] h_3 fun v_2 h_4 =>
 v_2 = .tuple #[] ∧
 ((0 : Int) ≤ t17 ∧ t17 ≤ ((24 : Nat) : Int)) ∧
 ∃ (t24 : ByteArray), ConvV Tryz.prog T.s_uint8 T.string (.slice (slBase (some ⟨b, 0, none⟩) 24 0 1) ((Int.toNat t17) - 0) (24 - 0)) h_4 t24 ∧
 R (.string t24) h_4
 else
 Cl F.internal_strconv_formatBits #[.slice none 0 0, .int .u64 i, .int .i64 base, .bool false, .bool false] h fun v_3 h_5 =>
 ∃ t28_0_p t28_0_l t28_0_c t28_1, v_3 = .tuple #[.slice t28_0_p t28_0_l t28_0_c, .string t28_1] ∧
 R (.string t28_1) h_5) : CallsH Tryz.prog F.internal_strconv_FormatUint #[.int .u64 i, .int .i64 base] h R :=
 callsH_of_body (.seq .leaf (.seq (.seq .leaf (.cond (.seq (.seq .leaf (.cond (.seq .leaf .leaf) .leaf)) (.seq .leaf (.seq .leaf (.seq .leaf (.seq .leaf .leaf))))) .leaf)) (.seq .leaf (.seq .leaf .leaf)))) Tryz.func201 rfl rfl (Eq.mp (by kernel_rfl) hv)
theorem strconv_FormatUint.walk {i : Int} {base : Int} (hv :
 Cl F.internal_strconv_FormatUint #[.int .u64 i, .int .i64 base] h fun v h_1 =>
 ∃ t7, v = .string t7 ∧
 R (.string t7) h_1) : CallsH Tryz.prog F.strconv_FormatUint #[.int .u64 i, .int .i64 base] h R :=
 callsH_of_body (.seq .leaf (.seq .leaf .leaf)) Tryz.func176 rfl rfl (Eq.mp (by kernel_rfl) hv)
end Go.Proofs.YtgccegnmggjkjaaGreatDoor
set_option maxRecDepth 100000
namespace Go.Proofs.YtgccegnmggjkjaaGreatDoor
open Go.Den
namespace Num
variable {h h' : Heap} {R : Value → Heap → Prop}
theorem base10_ok {blk n u cap:Nat} {c:Array Value} {t:TypeId} (hb:h[blk]? =some (.cells c t (0,0))) (hz: ∀j,j<n→c[j]? =some (.int .u8 0)) (hu:u<10 ^ n) (hu64:u<18446744073709551616) (hn:n<100)
  (hk: ∀h' c' dk v',h'[blk]? =some (.cells c' t (0,0))→Lib.FmtInv n u 0 v' dk→(∀j,j<n→c'[j]? =some (.int .u8 ((dk[j]!).toNat:Int)))→h'.size=h.size→(∀x,x≠blk→h'[x]? =h[x]?)→R (.tuple #[]) h'):
  CallsH Tryz.prog F.internal_strconv_formatBase10 #[.slice (some ⟨blk,0,none⟩) n cap, .int .u64 u] h R:=fun w hw=>by
 subst hw
 have hH:Sort.Holds (fun(b:UInt8)=>Value.int .u8 (b.toNat:Int)) w blk 0 (Array.replicate n 0):=fun j hj=>by
  rw[Array.size_replicate] at hj
  refine⟨?_, ?_⟩
  ·rw[cell_eq,hcell_blk hb,Nat.zero_add,hz j hj]
   have:(Array.replicate n (0:UInt8))[j]! =0:=by simp[hj]
   rw[this];rfl
  ·rw[frozen_eq];exact hfrozen_blk hb
 have key:=Any.internal_strconv_formatBase10 Tryz.lays285 blk 0 cap u (Array.replicate n 0) w hH (by rw[Array.size_replicate];exact hu) hu64 (by rw[Array.size_replicate];omega)
 rw[Array.size_replicate] at key
 refine Calls.mono key fun e w' ⟨he,k,v',dk,hw',hF⟩=>⟨_,he, ?_, ?_⟩
 ·subst hw'
  have hh:((Sort.putRow (fun(b:UInt8)=>Value.int .u8 (b.toNat:Int)) w blk 0 dk).drewN k).heap=w.heap.modify blk (Sort.onCells (Sort.putCells (fun(b:UInt8)=>Value.int .u8 (b.toNat:Int)) 0 dk)):=rfl
  rw[hh]
  refine hk _ (Sort.putCells (fun(b:UInt8)=>Value.int .u8 (b.toNat:Int)) 0 dk c) dk v' ?_ hF (fun j hj=> ?_) (by simp) (fun x hx=>by rw[Array.getElem?_modify,if_neg (fun e=>hx e.symm)])
  ·rw[Array.getElem?_modify,if_pos rfl,hb];rfl
  ·unfold Sort.putCells
   rw[Array.getElem?_mapIdx,hz j hj,Option.map_some,if_pos ⟨Nat.zero_le _,by rw[hF.size];omega⟩,Nat.sub_zero]
 ·subst hw';exact⟨rfl,rfl,rfl⟩
theorem tS:Tryz.prog.underlying T.s_uint8=some (.slice T.uint8):=by kernel_rfl
theorem t8:Tryz.prog.underlying T.uint8=some (.int .u8):=by kernel_rfl
theorem tT:Tryz.prog.underlying T.string=some .string:=by kernel_rfl
theorem format_ok {u:Nat} (tb:Tab h) (hu:u<18446744073709551616) (hk: ∀h',Fr (fun _=>False) h h'→R (.string ⟨(Lib.decDigits u).toArray⟩) h'):CallsH Tryz.prog F.internal_strconv_FormatUint #[.int .u64 u, .int .i64 10] h R:=by
 refine internal_strconv_FormatUint.walk ?_
 rw[if_pos (by rfl)]
 by_cases h1:u<100
 ·rw[if_pos (decide_eq_true (by omega)),wrap_id (by omega) (by omega)]
  exact small_ok h1 ⟨_,rfl,hk h (Fr.refl _ _)⟩
 ·rw[if_neg (by simp;omega)]
  refine newP_of ?_
  generalize hcs:(#[.int .u8 0, .int .u8 0, .int .u8 0, .int .u8 0, .int .u8 0, .int .u8 0, .int .u8 0, .int .u8 0, .int .u8 0, .int .u8 0, .int .u8 0, .int .u8 0, .int .u8 0, .int .u8 0, .int .u8 0, .int .u8 0, .int .u8 0, .int .u8 0, .int .u8 0, .int .u8 0, .int .u8 0, .int .u8 0, .int .u8 0, .int .u8 0]:Array Value)=cs
  have hc0: ∀j,j<24→cs[j]? =some (.int .u8 0):=by
   have:cs=Array.replicate 24 (.int .u8 0):=by rw[←hcs];rfl
   intro j hj
   rw[this];simp[hj]
  have f1:Fr (fun _=>False) h (h.push (.cells cs T.a24_uint8)):=Fr.push _ _
  have hb1:(h.push (.cells cs T.a24_uint8))[h.size]? =some (.cells cs T.a24_uint8 (0,0)):=push_new
  have hnd:Lib.nDigits u≤20:=by have:=Lib.numDigits_eq u (by omega) hu;split at this<;>omega
  refine digits_ok (tb.on f1) (by omega) hu ⟨_,rfl,⟨by omega,by omega⟩, ?_⟩
  have es:slBase (some (⟨h.size,0,none⟩:Addr)) 24 0 1=some ⟨h.size,0,none⟩:=rfl
  rw[es,Int.toNat_natCast,Nat.sub_zero]
  refine base10_ok hb1 (fun j hj=>hc0 j (by omega)) (Lib.lt_pow_nDigits u) hu (by omega) fun h2 c2 dk v2 hb2 hF hc2 s2 o2=>⟨rfl,⟨by omega,by omega⟩,str (Lib.decDigits u), ?_, ?_⟩
  ·refine conv_str tS t8 tT (.inr ⟨_,rfl,heldL_blk hb2 (fun j v hj=> ?_)⟩) (Lib.decDigits_length u).symm
   rw[Nat.zero_add]
   have hjl:j<(Lib.decDigits u).length:=by have:=(List.getElem?_eq_some_iff.1 hj).1;rwa[bc_len] at this
   have hjn:j<Lib.nDigits u:=by rwa[Lib.decDigits_length] at hjl
   rw[hc2 j hjn,←Lib.row_is_numeral hF j hjl,←hj]
   unfold bc
   rw[List.getElem?_map,List.getElem?_eq_getElem hjl];rfl
  ·exact hk h2 (f1.fresh (S:=fun y=>y=h.size) ⟨by omega,fun y _ hn=>o2 y hn⟩ (fun y e=>Nat.le_of_eq e.symm))
theorem formatUint_ok {u:Nat} (tb:Tab h) (hu:u<18446744073709551616) (hk: ∀h',Fr (fun _=>False) h h'→R (.string ⟨(Lib.decDigits u).toArray⟩) h'):CallsH Tryz.prog F.strconv_FormatUint #[.int .u64 u, .int .i64 10] h R:=
 strconv_FormatUint.walk (format_ok tb hu fun h1 f1=>⟨_,rfl,hk h1 f1⟩)
end Num
end Go.Proofs.YtgccegnmggjkjaaGreatDoor
set_option maxRecDepth 100000
namespace Go.Proofs.YtgccegnmggjkjaaGreatDoor
open Go.Den
namespace Eid
variable {h h' : Heap} {R : Value → Heap → Prop}
theorem str_app (a b:List UInt8):str a++str b=str (a++b):=by
 unfold str
 apply ByteArray.ext
 rw[ByteArray.data_append]
 simp
theorem str_size (a:List UInt8):(str a).size=a.length:=by unfold str;rfl
theorem str_self (s:ByteArray):s=str s.data.toList:=(str_data s).symm
theorem data_len (s:ByteArray):s.data.toList.length=s.size:=by rw[Array.length_toList];rfl
def textE (x:Ev):List UInt8:=
 if x= .zero then [100,116,110,58,110,111,110,101]
 else if x.ipn=true then [105,112,110,58]++Lib.decDigits x.node.toNat++ [46]++Lib.decDigits x.svc.toNat
 else [100,116,110,58]++([47,47]++x.host.data.toList++ [47]++x.dem.data.toList)
theorem maxi:IntKind.max .i64=9223372036854775807:=rfl
theorem dec_len {u:Nat} (hu:u<18446744073709551616):(Lib.decDigits u).length≤20:=by
 rw[Lib.decDigits_length]
 by_cases h0:u<10
 ·rw[Lib.nDigits_small h0];omega
 ·have:=Lib.numDigits_eq u (by omega) hu
  split at this<;>omega
theorem text_len {x:Ev} (hr:rightE x=true) (h1:0≤x.svc):(textE x).length≤100:=by
 unfold textE
 unfold rightE at hr
 by_cases z:x= .zero
 ·rw[if_pos z];simp
 rw[if_neg z] at hr⊢
 by_cases hi:x.ipn=true
 ·rw[if_pos hi] at hr⊢
  have hr:=of_decide_eq_true hr
  have l1:=dec_len (u:=x.node.toNat) (by omega)
  have l2:=dec_len (u:=x.svc.toNat) (by omega)
  simp only[List.length_append,List.length_cons,List.length_nil];omega
 ·rw[if_neg hi] at hr⊢
  simp only[Bool.and_eq_true,decide_eq_true_eq] at hr
  simp only[List.length_append,List.length_cons,List.length_nil,data_len];omega
theorem rdigits_ok {n:Int} (k:Nat) (e:n=(k:Int)) (hu:k<18446744073709551616) (hk: ∀h',Fr (fun _=>False) h h'→R (.string (str (Lib.decDigits k))) h'):CallsH Tryz.prog F.ref04_Digits #[.int .u64 n] h R:=by
 have hl:=dec_len hu
 refine ref04_Digits.walk ⟨fun n1 out g=> ∃(m:Nat) (d:List UInt8),n1=(m:Int)∧out=str d∧Fr (fun _=>False) h g∧m<18446744073709551616∧d.length≤20∧((m=0∧d≠ []∧d=Lib.decDigits k)∨(¬(m=0∧d≠ [])∧Lib.decDigits m++d=Lib.decDigits k)),fun n1 out _=>2*n1.toNat+(if out.size=0 then 1 else 0),⟨k, [],e,rfl,Fr.refl _ _,hu,by simp, .inr ⟨by simp,by simp⟩⟩, ?_⟩
 rintro _ _ g ⟨m,d,rfl,rfl,fg,hm,hd,hinv⟩
 refine JoinP.of fun J hJ=> ?_
 have more: ¬(m=0∧d≠ [])→J true g:=fun hgo=>by
  subst hJ
  dsimp only
  rw[if_pos rfl]
  have hdec:Lib.decDigits m++d=Lib.decDigits k:=by
   rcases hinv with⟨h1,h2,_⟩|⟨_,h2⟩
   ·exact absurd ⟨h1,h2⟩ hgo
   ·exact h2
  have em:Int.tmod (m:Int) 10=((m%10:Nat):Int):=by rw[Int.tmod_eq_emod_of_nonneg (by omega)];omega
  have ed:Int.tdiv (m:Int) 10=((m/10:Nat):Int):=by rw[Int.tdiv_eq_ediv_of_nonneg (by omega)];omega
  rw[em,ed,wrap_u64_nat (by omega)]
  have eb:IntKind.wrap .u8 (IntKind.wrap .u64 (48+((m%10:Nat):Int)))=((UInt8.ofNat (48+m%10)).toNat:Int):=by
   rw[wrap_u64 (by omega) (by omega),wrap_u8 (by omega) (by omega)]
   have:(UInt8.ofNat (48+m%10)).toNat=48+m%10:=by rw[UInt8.toNat_ofNat'];omega
   rw[this];omega
  rw[eb]
  refine newP_of ⟨str [UInt8.ofNat (48+m%10)],conv_str Num.tS Num.t8 Num.tT (bs:= [UInt8.ofNat (48+m%10)]) row_new rfl, ?_, ?_, ?_⟩
  ·rw[str_size,str_size,maxi];simp only[List.length_cons,List.length_nil];omega
  ·have hd':([UInt8.ofNat (48+m%10)]++d).length≤20:=by
    have:=congrArg List.length hdec
    rw[List.length_append] at this
    have h1:1≤(Lib.decDigits m).length:=by rw[Lib.decDigits_length];exact Lib.nDigits_pos m
    rw[List.length_append,List.length_cons,List.length_nil];omega
   refine⟨m/10, [UInt8.ofNat (48+m%10)]++d,rfl,str_app _ _,fg.tt (Fr.push _ _),by omega,hd', ?_⟩
   by_cases hs:m<10
   ·rw[Lib.decDigits_one hs] at hdec
    refine .inl ⟨by omega,by simp, ?_⟩
    rw[←hdec,Nat.mod_eq_of_lt hs]
   ·rw[Lib.decDigits,dif_neg hs,List.append_assoc] at hdec
    exact .inr ⟨fun q=>by omega,hdec⟩
  ·rw[str_app,str_size,str_size,if_neg (by simp)]
   simp only[Int.toNat_natCast]
   by_cases hm0:m=0
   ·have:d= []:=by
     cases d with
     |nil=>rfl
     |cons a l=>exact absurd ⟨hm0,by simp⟩ hgo
    subst this;subst hm0;simp
   ·split<;>omega
 by_cases hm0:m=0
 ·subst hm0
  rw[if_neg (by simp)]
  rw[nil_eq]
  by_cases hd0:d= []
  ·subst hd0;exact more (by simp)
  ·have hne: ¬str d=⟨#[]⟩:=fun e=>hd0 (by have:=congrArg (fun s=>s.data.toList) e;simpa[str] using this)
   rw[decide_eq_false hne]
   clear more
   subst hJ
   have:d=Lib.decDigits k:=by
    rcases hinv with⟨_,_,h3⟩|⟨h1,_⟩
    ·exact h3
    ·exact absurd ⟨rfl,hd0⟩ h1
   rw[this]
   exact hk g fg
 ·rw[if_pos (decide_eq_true (by omega))]
  exact more (by omega)
theorem path_ok (x:Ev) (h1:x.host.size≤1000) (h2:x.dem.size≤1000) (hk: ∀h',Fr (fun _=>False) h h'→R (.string (str ([47,47]++x.host.data.toList++ [47]++x.dem.data.toList))) h'):CallsH Tryz.prog F.eid_path #[ev5 x] h R:=by
 refine eid_path.walk (eid_Eid.box fun b h3 eb hb f3=>⟨_,cell_at hb rfl, ?_⟩)
 have e1:(⟨#[47,47]⟩:ByteArray)=str [47,47]:=rfl
 have e2:(⟨#[47]⟩:ByteArray)=str [47]:=rfl
 have l1:=data_len x.host
 have l2:=data_len x.dem
 have K:=hk h3 f3
 rw[e1,e2,maxi]
 refine⟨?_, ?_,_,cell_at hb rfl, ?_, ?_⟩
 ·rw[str_size];simp;omega
 ·rw[str_self x.host,str_app,str_size,str_size];simp;omega
 ·rw[str_self x.host,str_app,str_app,str_size];simp;omega
 ·rw[str_self x.host,str_self x.dem,str_app,str_app,str_app];exact K
theorem text_ok (x:Ev) (tb:Num.Tab h) (w1:0≤x.svc) (hk: ∀h',Fr (fun _=>False) h h'→R (.tuple #[.string (if rightE x=true then str (textE x) else⟨#[]⟩), .int .i64 (if rightE x=true then 0 else 3)]) h'):CallsH Tryz.prog F.eid_Text #[ev5 x] h R:=by
 refine eid_Text.walk (eid_Eid.box fun b h1 eb hb f1=>eid_Eid.ld hb (right_ok x fun h2 f2=>⟨_,rfl, ?_⟩))
 by_cases hr:rightE x=true
 ·simp only[hr,if_true] at hk
  rw[if_neg (by simpa using hr)]
  have hb2:=f2.get hb id
  have F2:=f1.tt f2
  have tb2:=tb.on F2
  refine eid_Eid.ld hb2 ⟨_,eqv' (y:= .zero) (x:=x) rfl rfl, ?_⟩
  unfold textE at hk
  unfold rightE at hr
  by_cases z:x= .zero
  ·rw[if_pos (decide_eq_true z)]
   rw[if_pos z] at hk
   exact hk h2 F2
  rw[if_neg (by simpa using z)]
  rw[if_neg z] at hr
  simp only[if_neg z] at hk
  refine⟨_,cell_at hb2 rfl, ?_⟩
  have e1:(⟨#[105,112,110,58]⟩:ByteArray)=str [105,112,110,58]:=rfl
  have e2:(⟨#[46]⟩:ByteArray)=str [46]:=rfl
  have e3:(⟨#[100,116,110,58]⟩:ByteArray)=str [100,116,110,58]:=rfl
  by_cases hi:x.ipn=true
  ·rw[if_pos hi] at hr⊢
   simp only[if_pos hi] at hk
   have hr:=of_decide_eq_true hr
   have l1:=dec_len (u:=x.node.toNat) (by omega)
   have l2:=dec_len (u:=x.svc.toNat) (by omega)
   have n1:x.node=((x.node.toNat:Nat):Int):=by omega
   have n2:x.svc=((x.svc.toNat:Nat):Int):=by omega
   rw[e1,e2,maxi]
   refine⟨_,cell_at hb2 rfl,_,cell_at hb2 rfl, ?_⟩
   rw[n1]
   refine Num.formatUint_ok tb2 (by omega) fun h3 f3=>⟨_,rfl,cell_at (f3.get hb2 id) rfl, ?_⟩
   have c1:(⟨(Lib.decDigits x.node.toNat).toArray⟩:ByteArray)=str (Lib.decDigits x.node.toNat):=rfl
   have c2:(⟨(Lib.decDigits x.svc.toNat).toArray⟩:ByteArray)=str (Lib.decDigits x.svc.toNat):=rfl
   rw[c1]
   refine⟨?_, ?_, ?_⟩
   ·rw[str_size,str_size];simp;omega
   ·rw[str_app,str_size,str_size];simp;omega
   rw[n2]
   refine Num.formatUint_ok (tb2.on f3) (by omega) fun h4 f4=>⟨_,rfl, ?_⟩
   rw[c2]
   refine⟨?_, ?_⟩
   ·rw[str_app,str_app,str_size,str_size];simp;omega
   ·rw[str_app,str_app,str_app];exact hk h4 (F2.tt (f3.tt f4))
  ·rw[if_neg hi] at hr⊢
   simp only[if_neg hi] at hk
   simp only[Bool.and_eq_true,decide_eq_true_eq] at hr
   refine eid_Eid.ld hb2 (path_ok x (by omega) (by omega) fun h3 f3=>⟨_,rfl, ?_⟩)
   have l1:=data_len x.host
   have l2:=data_len x.dem
   rw[e3,maxi]
   refine⟨?_, ?_⟩
   ·rw[str_size,str_size];simp;omega
   ·rw[str_app];exact hk h3 (F2.tt f3)
 ·simp only[hr,Bool.false_eq_true,if_false] at hk
  rw[if_pos (by simpa using hr)]
  exact hk h2 (f1.tt f2)
theorem rtext_ok (x:Ev) (hr:rightE x=true) (w1:0≤x.svc) (hk: ∀h',Fr (fun _=>False) h h'→R (.string (str (textE x))) h'):CallsH Tryz.prog F.ref04_Text #[ev5 x] h R:=by
 refine ref04_Text.walk (ref04_Eid.box fun b h1 eb hb f1=>ref04_Eid.ld hb (rkind_ok x fun h2 f2=>⟨_,rfl, ?_⟩))
 have hb2:=f2.get hb id
 have F2:=f1.tt f2
 have ek:kindE x=classE x:=by unfold kindE;rw[if_pos hr]
 rw[ek]
 unfold classE
 unfold textE at hk
 unfold rightE at hr
 by_cases z:x= .zero
 ·rw[if_pos z,if_pos (by decide)]
  rw[if_pos z] at hk
  exact hk h2 F2
 rw[if_neg z] at hr⊢
 simp only[if_neg z] at hk
 have e1:(⟨#[105,112,110,58]⟩:ByteArray)=str [105,112,110,58]:=rfl
 have e2:(⟨#[46]⟩:ByteArray)=str [46]:=rfl
 have e3:(⟨#[100,116,110,58,47,47]⟩:ByteArray)=str [100,116,110,58,47,47]:=rfl
 have e4:(⟨#[47]⟩:ByteArray)=str [47]:=rfl
 by_cases hi:x.ipn=true
 ·rw[if_pos hi] at hr⊢
  simp only[if_pos hi] at hk
  have hr:=of_decide_eq_true hr
  have l1:=dec_len (u:=x.node.toNat) (by omega)
  have l2:=dec_len (u:=x.svc.toNat) (by omega)
  rw[if_neg (by decide),if_pos (by decide),e1,e2,maxi]
  refine⟨_,cell_at hb2 rfl,_,cell_at hb2 rfl, ?_⟩
  refine rdigits_ok x.node.toNat (by omega) (by omega) fun h3 f3=>⟨_,rfl,cell_at (f3.get hb2 id) rfl, ?_, ?_, ?_⟩
  ·rw[str_size,str_size];simp;omega
  ·rw[str_app,str_size,str_size];simp;omega
  refine rdigits_ok x.svc.toNat (by omega) (by omega) fun h4 f4=>⟨_,rfl, ?_, ?_⟩
  ·rw[str_app,str_app,str_size,str_size];simp;omega
  ·rw[str_app,str_app,str_app];exact hk h4 (F2.tt (f3.tt f4))
 ·rw[if_neg hi] at hr⊢
  simp only[if_neg hi] at hk
  simp only[Bool.and_eq_true,decide_eq_true_eq] at hr
  have l1:=data_len x.host
  have l2:=data_len x.dem
  rw[if_neg (by decide),if_neg (by decide),e3,e4,maxi]
  refine⟨_,cell_at hb2 rfl, ?_, ?_,_,cell_at hb2 rfl, ?_, ?_⟩
  ·rw[str_size];simp;omega
  ·rw[str_self x.host,str_app,str_size,str_size];simp;omega
  ·rw[str_self x.host,str_app,str_app,str_size];simp;omega
  ·rw[str_self x.host,str_self x.dem,str_app,str_app,str_app]
   have:=hk h2 F2
   simpa using this
end Eid
end Go.Proofs.YtgccegnmggjkjaaGreatDoor
set_option maxRecDepth 100000
set_option maxHeartbeats 4000000
namespace Go.Proofs.YtgccegnmggjkjaaGreatDoor
open Go.Den
variable {h : Heap} {R : Value → Heap → Prop}
theorem law19_Same.walk {a_p : Option Addr} {a_l a_c : Nat} {b_p : Option Addr} {b_l b_c : Nat} (hv :
 if (((a_l : Nat) : Int) != ((b_l : Nat) : Int)) = true then
 R (.bool false) h
 else
 ∃ (I : Int → Heap → Prop) (mu : Int → Heap → Nat), I 0 h ∧ ∀ (i : Int) (h_1 : Heap), I i h_1 →
 if (decide (i < ((a_l : Nat) : Int))) = true then
 ((0 : Int) ≤ i ∧ i < ((a_l : Nat) : Int)) ∧
 onSome a_p fun a =>
 ∃ t20_p t20_l t20_c, hcell h_1 (a.add (Int.toNat i * 1)) = some (.slice t20_p t20_l t20_c) ∧
 ∃ (t21 : ByteArray), ConvV Tryz.prog T.s_uint8 T.string (.slice t20_p t20_l t20_c) h_1 t21 ∧
 ((0 : Int) ≤ i ∧ i < ((b_l : Nat) : Int)) ∧
 onSome b_p fun a_1 =>
 ∃ t25_p t25_l t25_c, hcell h_1 (a_1.add (Int.toNat i * 1)) = some (.slice t25_p t25_l t25_c) ∧
 ∃ (t26 : ByteArray), ConvV Tryz.prog T.s_uint8 T.string (.slice t25_p t25_l t25_c) h_1 t26 ∧
 if (!(t21.toList == t26.toList)) = true then
 R (.bool false) h_1
 else
 (I (IntKind.wrap .i64 (i + 1)) h_1 ∧ mu (IntKind.wrap .i64 (i + 1)) h_1 < mu i h_1)
 else
 R (.bool true) h_1) : CallsH Tryz.prog F.law19_Same #[.slice a_p a_l a_c, .slice b_p b_l b_c] h R :=
 callsH_of_body (.seq .leaf (.seq (.seq .leaf (.cond (.seq .leaf .leaf) .leaf)) (.seq (.seq .leaf (.block (.loop [(5, .one (.int .i64))] (.seq (.seq .leaf (.cond .leaf .leaf)) (.seq (.block (.seq (.plan (.op 0 (.op 1 (.op 2 (.op 3 (.op 4 (.op 5 (.op 6 (.op 7 (.op 8 (.op 9 (.op 10 .done)))))))))))) (.cond (.seq .leaf .leaf) .leaf))) .leaf))))) (.seq .leaf .leaf)))) Tryz.func20 rfl rfl (Eq.mp (by kernel_rfl) hv)
end Go.Proofs.YtgccegnmggjkjaaGreatDoor
set_option maxRecDepth 100000
namespace Go.Proofs.YtgccegnmggjkjaaGreatDoor
open Go.Den Go.Fields
namespace Fld
variable {h h' h0 : Heap} {R : Value → Heap → Prop} {p q : Option Addr} {c d i : Nat}
structure Rows (h:Heap) (p:Option Addr) (l c:Nat) (xs:List BV):Prop where
 len:l=xs.length
 row:Row h p (xs.flatMap nenc)
 cap:l≤c
 each: ∀x∈xs,Row h x.p (bc x.b)
theorem BL.to_rows {h0:Heap} {l c:Nat} {bs:List (List UInt8)} (H:BL h0 h p l c bs): ∃xs,Rows h p l c xs∧xs.map BV.b=bs:=by
 obtain⟨xs,e1,e2,e3,e4,e5⟩:=H.rows
 exact⟨xs,⟨e1,e2,e4,e5⟩,e3⟩
theorem same_ok {l c m d:Nat} {xs ys:List BV} (H1:Rows h p l c xs) (H2:Rows h q m d ys) (hm:l≤1000000000) (hk:R (.bool (decide (xs.map BV.b=ys.map BV.b))) h):CallsH Tryz.prog F.law19_Same #[.slice p l c, .slice q m d] h R:=by
 obtain⟨rfl,r1,_,e1⟩:=H1
 obtain⟨rfl,r2,_,e2⟩:=H2
 refine law19_Same.walk ?_
 by_cases hl:xs.length=ys.length
 ·have:(((xs.length:Nat):Int) !=((ys.length:Nat):Int))=false:=by rw[hl];simp
  rw[this]
  simp only[Bool.false_eq_true,if_false]
  refine⟨fun i g=>g=h∧ ∃k:Nat,i=(k:Int)∧k≤xs.length∧(xs.take k).map BV.b=(ys.take k).map BV.b,fun i _=>xs.length - i.toNat,⟨rfl,0,rfl,by omega,by simp⟩, ?_⟩
  rintro _ _ ⟨rfl,k,rfl,hk1,hk2⟩
  by_cases hlt:k<xs.length
  ·have q1:(k:Int)<((xs.length:Nat):Int):=by omega
   simp only[q1,decide_true,if_true,Int.toNat_natCast]
   have gx:xs[k]? =some xs[k]:=List.getElem?_eq_getElem hlt
   have gy:ys[k]? =some (ys[k]'(by omega)):=List.getElem?_eq_getElem _
   generalize xs[k]=x at gx
   generalize ys[k]'(by omega)=y at gy
   obtain⟨a,rfl⟩:=r1.some (by intro e;cases xs with|nil=>simp at hlt|cons=>simp at e)
   obtain⟨b,rfl⟩:=r2.some (by intro e;cases ys with|nil=>simp at gy|cons=>simp at e)
   have cx:=(r1.heldAt nenc_len gx).1
   have cy:=(r2.heldAt nenc_len gy).1
   rw[add_zero_addr] at cx cy
   refine⟨⟨by first|trivial|omega,by first|trivial|omega⟩,onSome_some.2 ⟨_,_,_,cx,_,conv (e1 x (List.mem_of_getElem? gx)) rfl,⟨by first|trivial|omega,by first|trivial|omega⟩,onSome_some.2 ⟨_,_,_,cy,_,conv (e2 y (List.mem_of_getElem? gy)) rfl, ?_⟩⟩⟩
   rw[str_list,str_list]
   by_cases hxy:x.b=y.b
   ·rw[hxy]
    simp only[beq_self_eq_true,Bool.not_true,Bool.false_eq_true,if_false]
    rw[wrap_id (by omega) (by omega)]
    refine⟨⟨by first|trivial|rfl,k+1,by omega,by omega, ?_⟩,by show _ - Int.toNat ((k:Int)+1)<_;omega⟩
    rw[List.take_add_one,List.take_add_one,gx,gy,List.map_append,List.map_append,hk2]
    simp[hxy]
   ·have:(x.b==y.b)=false:=by simpa using hxy
    simp only[this,Bool.not_false,if_true]
    have hne:xs.map BV.b≠ys.map BV.b:=fun e=>by
     have h1:(xs.map BV.b)[k]? =(ys.map BV.b)[k]? :=by rw[e]
     rw[List.getElem?_map,List.getElem?_map,gx,gy] at h1
     exact hxy (Option.some.inj h1)
    rw[decide_eq_false hne] at hk
    exact hk
  ·have q1: ¬(k:Int)<((xs.length:Nat):Int):=by omega
   simp only[q1,decide_false,Bool.false_eq_true,if_false]
   obtain rfl:k=xs.length:=by omega
   rw[List.take_length,hl,List.take_length] at hk2
   rw[decide_eq_true hk2] at hk
   exact hk
 ·have:(((xs.length:Nat):Int) !=((ys.length:Nat):Int))=true:=by simp;omega
  rw[if_pos this]
  have hne:xs.map BV.b≠ys.map BV.b:=fun e=>hl (by have:=congrArg List.length e;simpa using this)
  rw[decide_eq_false hne] at hk
  exact hk
end Fld
end Go.Proofs.YtgccegnmggjkjaaGreatDoor
set_option maxRecDepth 100000
set_option maxHeartbeats 4000000
namespace Go.Proofs.YtgccegnmggjkjaaGreatDoor
open Go.Den
variable {h : Heap} {R : Value → Heap → Prop}
theorem copies_record.walk {c : Nat} (hv :
 eid_Eid.LD h ⟨c, 1, none⟩ fun t9_0 t9_1 t9_2 t9_3 t9_4 =>
 Cl F.eid_Text #[.agg #[.bool t9_0, .int .u64 t9_1, .int .u64 t9_2, .string t9_3, .string t9_4]] h fun v h_1 =>
 ∃ t10_0 t10_1, v = .tuple #[.string t10_0, .int .i64 t10_1] ∧
 ∃ t17, hcell h_1 ⟨c, 0, none⟩ = some (.int .i64 t17) ∧
 ∃ t25_p t25_l t25_c, hcell h_1 ⟨c, 6, none⟩ = some (.slice t25_p t25_l t25_c) ∧
 ∃ t30, hcell h_1 ⟨c, 7, none⟩ = some (.int .u64 t30) ∧
 ∃ t35, hcell h_1 ⟨c, 8, none⟩ = some (.int .i64 t35) ∧
 ∃ t40, hcell h_1 ⟨c, 9, none⟩ = some (.int .u64 t40) ∧
 (Cl F.fields_New #[] h_1 fun v_1 h_2 =>
 ∃ t13, v_1 = .pointer t13 ∧
 hcell h_2 ⟨c, 9, none⟩ = some (.int .u64 t40) ∧
 hcell h_2 ⟨c, 8, none⟩ = some (.int .i64 t35) ∧
 hcell h_2 ⟨c, 7, none⟩ = some (.int .u64 t30) ∧
 hcell h_2 ⟨c, 6, none⟩ = some (.slice t25_p t25_l t25_c) ∧
 hcell h_2 ⟨c, 0, none⟩ = some (.int .i64 t17) ∧
 (Cl F.fields_Writer_Int #[.pointer t13, .int .i64 t17] h_2 fun v_2 h_3 =>
 ∃ t18, v_2 = .pointer t18 ∧
 hcell h_3 ⟨c, 9, none⟩ = some (.int .u64 t40) ∧
 hcell h_3 ⟨c, 8, none⟩ = some (.int .i64 t35) ∧
 hcell h_3 ⟨c, 7, none⟩ = some (.int .u64 t30) ∧
 hcell h_3 ⟨c, 6, none⟩ = some (.slice t25_p t25_l t25_c) ∧
 denSem Tryz.prog (convert T.string T.s_uint8 (.string t10_0)) h_3 fun v_3 h_4 =>
 ∃ t20_p t20_l t20_c, v_3 = .slice t20_p t20_l t20_c ∧
 hcell h_4 ⟨c, 9, none⟩ = some (.int .u64 t40) ∧
 hcell h_4 ⟨c, 8, none⟩ = some (.int .i64 t35) ∧
 hcell h_4 ⟨c, 7, none⟩ = some (.int .u64 t30) ∧
 hcell h_4 ⟨c, 6, none⟩ = some (.slice t25_p t25_l t25_c) ∧
 Cl F.fields_Writer_Text #[.pointer t18, .slice t20_p t20_l t20_c] h_4 fun v_4 h_5 =>
 ∃ t21, v_4 = .pointer t21 ∧
 hcell h_5 ⟨c, 9, none⟩ = some (.int .u64 t40) ∧
 hcell h_5 ⟨c, 8, none⟩ = some (.int .i64 t35) ∧
 hcell h_5 ⟨c, 7, none⟩ = some (.int .u64 t30) ∧
 hcell h_5 ⟨c, 6, none⟩ = some (.slice t25_p t25_l t25_c) ∧
 Cl F.fields_Writer_Text #[.pointer t21, .slice t25_p t25_l t25_c] h_5 fun v_5 h_6 =>
 ∃ t26, v_5 = .pointer t26 ∧
 hcell h_6 ⟨c, 9, none⟩ = some (.int .u64 t40) ∧
 hcell h_6 ⟨c, 8, none⟩ = some (.int .i64 t35) ∧
 hcell h_6 ⟨c, 7, none⟩ = some (.int .u64 t30) ∧
 Cl F.fields_Writer_Num #[.pointer t26, .int .u64 t30] h_6 fun v_6 h_7 =>
 ∃ t31, v_6 = .pointer t31 ∧
 hcell h_7 ⟨c, 9, none⟩ = some (.int .u64 t40) ∧
 hcell h_7 ⟨c, 8, none⟩ = some (.int .i64 t35) ∧
 Cl F.fields_Writer_Int #[.pointer t31, .int .i64 t35] h_7 fun v_7 h_8 =>
 ∃ t36, v_7 = .pointer t36 ∧
 hcell h_8 ⟨c, 9, none⟩ = some (.int .u64 t40) ∧
 Cl F.fields_Writer_Num #[.pointer t36, .int .u64 t40] h_8 fun v_8 h_9 =>
 ∃ t41, v_8 = .pointer t41 ∧
 Cl F.fields_Writer_Bytes #[.pointer t41] h_9 fun v_9 h_10 =>
 ∃ t42_p t42_l t42_c, v_9 = .slice t42_p t42_l t42_c ∧
 R (.slice t42_p t42_l t42_c) h_10) ∧
 (denSem Tryz.prog (convert T.string T.s_uint8 (.string t10_0)) h_2 fun v_10 h_11 =>
 ∃ t20_p_1 t20_l_1 t20_c_1, v_10 = .slice t20_p_1 t20_l_1 t20_c_1 ∧
 hcell h_11 ⟨c, 9, none⟩ = some (.int .u64 t40) ∧
 hcell h_11 ⟨c, 8, none⟩ = some (.int .i64 t35) ∧
 hcell h_11 ⟨c, 7, none⟩ = some (.int .u64 t30) ∧
 hcell h_11 ⟨c, 6, none⟩ = some (.slice t25_p t25_l t25_c) ∧
 hcell h_11 ⟨c, 0, none⟩ = some (.int .i64 t17) ∧
 Cl F.fields_Writer_Int #[.pointer t13, .int .i64 t17] h_11 fun v_11 h_12 =>
 ∃ t18_1, v_11 = .pointer t18_1 ∧
 hcell h_12 ⟨c, 9, none⟩ = some (.int .u64 t40) ∧
 hcell h_12 ⟨c, 8, none⟩ = some (.int .i64 t35) ∧
 hcell h_12 ⟨c, 7, none⟩ = some (.int .u64 t30) ∧
 hcell h_12 ⟨c, 6, none⟩ = some (.slice t25_p t25_l t25_c) ∧
 Cl F.fields_Writer_Text #[.pointer t18_1, .slice t20_p_1 t20_l_1 t20_c_1] h_12 fun v_12 h_13 =>
 ∃ t21_1, v_12 = .pointer t21_1 ∧
 hcell h_13 ⟨c, 9, none⟩ = some (.int .u64 t40) ∧
 hcell h_13 ⟨c, 8, none⟩ = some (.int .i64 t35) ∧
 hcell h_13 ⟨c, 7, none⟩ = some (.int .u64 t30) ∧
 hcell h_13 ⟨c, 6, none⟩ = some (.slice t25_p t25_l t25_c) ∧
 Cl F.fields_Writer_Text #[.pointer t21_1, .slice t25_p t25_l t25_c] h_13 fun v_13 h_14 =>
 ∃ t26_1, v_13 = .pointer t26_1 ∧
 hcell h_14 ⟨c, 9, none⟩ = some (.int .u64 t40) ∧
 hcell h_14 ⟨c, 8, none⟩ = some (.int .i64 t35) ∧
 hcell h_14 ⟨c, 7, none⟩ = some (.int .u64 t30) ∧
 Cl F.fields_Writer_Num #[.pointer t26_1, .int .u64 t30] h_14 fun v_14 h_15 =>
 ∃ t31_1, v_14 = .pointer t31_1 ∧
 hcell h_15 ⟨c, 9, none⟩ = some (.int .u64 t40) ∧
 hcell h_15 ⟨c, 8, none⟩ = some (.int .i64 t35) ∧
 Cl F.fields_Writer_Int #[.pointer t31_1, .int .i64 t35] h_15 fun v_15 h_16 =>
 ∃ t36_1, v_15 = .pointer t36_1 ∧
 hcell h_16 ⟨c, 9, none⟩ = some (.int .u64 t40) ∧
 Cl F.fields_Writer_Num #[.pointer t36_1, .int .u64 t40] h_16 fun v_16 h_17 =>
 ∃ t41_1, v_16 = .pointer t41_1 ∧
 Cl F.fields_Writer_Bytes #[.pointer t41_1] h_17 fun v_17 h_18 =>
 ∃ t42_p_1 t42_l_1 t42_c_1, v_17 = .slice t42_p_1 t42_l_1 t42_c_1 ∧
 R (.slice t42_p_1 t42_l_1 t42_c_1) h_18) ∧
 True) ∧
 (denSem Tryz.prog (convert T.string T.s_uint8 (.string t10_0)) h_1 fun v_18 h_19 =>
 ∃ t20_p_2 t20_l_2 t20_c_2, v_18 = .slice t20_p_2 t20_l_2 t20_c_2 ∧
 hcell h_19 ⟨c, 9, none⟩ = some (.int .u64 t40) ∧
 hcell h_19 ⟨c, 8, none⟩ = some (.int .i64 t35) ∧
 hcell h_19 ⟨c, 7, none⟩ = some (.int .u64 t30) ∧
 hcell h_19 ⟨c, 6, none⟩ = some (.slice t25_p t25_l t25_c) ∧
 hcell h_19 ⟨c, 0, none⟩ = some (.int .i64 t17) ∧
 Cl F.fields_New #[] h_19 fun v_19 h_20 =>
 ∃ t13_1, v_19 = .pointer t13_1 ∧
 hcell h_20 ⟨c, 9, none⟩ = some (.int .u64 t40) ∧
 hcell h_20 ⟨c, 8, none⟩ = some (.int .i64 t35) ∧
 hcell h_20 ⟨c, 7, none⟩ = some (.int .u64 t30) ∧
 hcell h_20 ⟨c, 6, none⟩ = some (.slice t25_p t25_l t25_c) ∧
 hcell h_20 ⟨c, 0, none⟩ = some (.int .i64 t17) ∧
 Cl F.fields_Writer_Int #[.pointer t13_1, .int .i64 t17] h_20 fun v_20 h_21 =>
 ∃ t18_2, v_20 = .pointer t18_2 ∧
 hcell h_21 ⟨c, 9, none⟩ = some (.int .u64 t40) ∧
 hcell h_21 ⟨c, 8, none⟩ = some (.int .i64 t35) ∧
 hcell h_21 ⟨c, 7, none⟩ = some (.int .u64 t30) ∧
 hcell h_21 ⟨c, 6, none⟩ = some (.slice t25_p t25_l t25_c) ∧
 Cl F.fields_Writer_Text #[.pointer t18_2, .slice t20_p_2 t20_l_2 t20_c_2] h_21 fun v_21 h_22 =>
 ∃ t21_2, v_21 = .pointer t21_2 ∧
 hcell h_22 ⟨c, 9, none⟩ = some (.int .u64 t40) ∧
 hcell h_22 ⟨c, 8, none⟩ = some (.int .i64 t35) ∧
 hcell h_22 ⟨c, 7, none⟩ = some (.int .u64 t30) ∧
 hcell h_22 ⟨c, 6, none⟩ = some (.slice t25_p t25_l t25_c) ∧
 Cl F.fields_Writer_Text #[.pointer t21_2, .slice t25_p t25_l t25_c] h_22 fun v_22 h_23 =>
 ∃ t26_2, v_22 = .pointer t26_2 ∧
 hcell h_23 ⟨c, 9, none⟩ = some (.int .u64 t40) ∧
 hcell h_23 ⟨c, 8, none⟩ = some (.int .i64 t35) ∧
 hcell h_23 ⟨c, 7, none⟩ = some (.int .u64 t30) ∧
 Cl F.fields_Writer_Num #[.pointer t26_2, .int .u64 t30] h_23 fun v_23 h_24 =>
 ∃ t31_2, v_23 = .pointer t31_2 ∧
 hcell h_24 ⟨c, 9, none⟩ = some (.int .u64 t40) ∧
 hcell h_24 ⟨c, 8, none⟩ = some (.int .i64 t35) ∧
 Cl F.fields_Writer_Int #[.pointer t31_2, .int .i64 t35] h_24 fun v_24 h_25 =>
 ∃ t36_2, v_24 = .pointer t36_2 ∧
 hcell h_25 ⟨c, 9, none⟩ = some (.int .u64 t40) ∧
 Cl F.fields_Writer_Num #[.pointer t36_2, .int .u64 t40] h_25 fun v_25 h_26 =>
 ∃ t41_2, v_25 = .pointer t41_2 ∧
 Cl F.fields_Writer_Bytes #[.pointer t41_2] h_26 fun v_26 h_27 =>
 ∃ t42_p_2 t42_l_2 t42_c_2, v_26 = .slice t42_p_2 t42_l_2 t42_c_2 ∧
 R (.slice t42_p_2 t42_l_2 t42_c_2) h_27) ∧
 True) : CallsH Tryz.prog F.copies_record #[.pointer (some ⟨c, 0, none⟩)] h R :=
 callsH_of_body (.seq .leaf (.seq .leaf (.seq (.plan (.op 1 (.op 2 (.op 3 (.op 4 (.op 6 (.op 9 (.op 10 (.op 11 (.op 12 (.op 14 (.op 15 (.op 16 (.op 17 (.op 19 (.op 20 (.op 21 (.op 22 (.op 24 (.op 25 (.op 26 (.op 27 (.alts (.fork 0 (.alts (.fork 5 (.op 7 (.op 8 (.op 13 (.op 18 (.op 23 (.op 28 (.op 29 (.op 30 .done)))))))) (.fork 7 (.op 5 (.op 8 (.op 13 (.op 18 (.op 23 (.op 28 (.op 29 (.op 30 .done)))))))) .noalt))) (.fork 7 (.op 0 (.op 5 (.op 8 (.op 13 (.op 18 (.op 23 (.op 28 (.op 29 (.op 30 .done))))))))) .noalt))))))))))))))))))))))))) .leaf))) Tryz.func78 rfl rfl (Eq.mp (by kernel_rfl) hv)
theorem copies_Table_Save.walk {t : Nat} (hv :
 Cl F.copies_Table_made #[.pointer (some ⟨t, 0, none⟩)] h fun v h_1 =>
 ∃ t7, v = .bool t7 ∧
 if (!t7) = true then
 R (.slice none 0 0) h_1
 else
 ∃ t13, hcell h_1 ⟨t, 1, none⟩ = some (.int .i64 t13) ∧
 ∃ t18, hcell h_1 ⟨t, 2, none⟩ = some (.int .i64 t18) ∧
 ∃ t23, hcell h_1 ⟨t, 3, none⟩ = some (.int .i64 t23) ∧
 ∃ t28, hcell h_1 ⟨t, 4, none⟩ = some (.int .i64 t28) ∧
 ∃ t33, hcell h_1 ⟨t, 0, none⟩ = some (.map t33) ∧
 Cl F.fields_New #[] h_1 fun v_1 h_2 =>
 ∃ t9, v_1 = .pointer t9 ∧
 hcell h_2 ⟨t, 0, none⟩ = some (.map t33) ∧
 hcell h_2 ⟨t, 4, none⟩ = some (.int .i64 t28) ∧
 hcell h_2 ⟨t, 3, none⟩ = some (.int .i64 t23) ∧
 hcell h_2 ⟨t, 2, none⟩ = some (.int .i64 t18) ∧
 hcell h_2 ⟨t, 1, none⟩ = some (.int .i64 t13) ∧
 Cl F.fields_Writer_Int #[.pointer t9, .int .i64 t13] h_2 fun v_2 h_3 =>
 ∃ t14, v_2 = .pointer t14 ∧
 hcell h_3 ⟨t, 0, none⟩ = some (.map t33) ∧
 hcell h_3 ⟨t, 4, none⟩ = some (.int .i64 t28) ∧
 hcell h_3 ⟨t, 3, none⟩ = some (.int .i64 t23) ∧
 hcell h_3 ⟨t, 2, none⟩ = some (.int .i64 t18) ∧
 Cl F.fields_Writer_Int #[.pointer t14, .int .i64 t18] h_3 fun v_3 h_4 =>
 ∃ t19, v_3 = .pointer t19 ∧
 hcell h_4 ⟨t, 0, none⟩ = some (.map t33) ∧
 hcell h_4 ⟨t, 4, none⟩ = some (.int .i64 t28) ∧
 hcell h_4 ⟨t, 3, none⟩ = some (.int .i64 t23) ∧
 Cl F.fields_Writer_Int #[.pointer t19, .int .i64 t23] h_4 fun v_4 h_5 =>
 ∃ t24, v_4 = .pointer t24 ∧
 hcell h_5 ⟨t, 0, none⟩ = some (.map t33) ∧
 hcell h_5 ⟨t, 4, none⟩ = some (.int .i64 t28) ∧
 Cl F.fields_Writer_Int #[.pointer t24, .int .i64 t28] h_5 fun v_5 h_6 =>
 ∃ t29, v_5 = .pointer t29 ∧
 hcell h_6 ⟨t, 0, none⟩ = some (.map t33) ∧
 ∃ t34 : Int, LenV Tryz.prog #[T.m_int_p_copies_Copy] T.int (.map t33) h_6 (.int .i64 t34) ∧
 Cl F.fields_Writer_Int #[.pointer t29, .int .i64 t34] h_6 fun v_6 h_7 =>
 ∃ t35, v_6 = .pointer t35 ∧
 hcell h_7 ⟨t, 0, none⟩ = some (.map t33) ∧
 Cl F.fields_Writer_Bytes #[.pointer t35] h_7 fun v_7 h_8 =>
 ∃ t36_p t36_l t36_c, v_7 = .slice t36_p t36_l t36_c ∧
 hcell h_8 ⟨t, 0, none⟩ = some (.map t33) ∧
 NewP h_8 (.cells #[.slice t36_p t36_l t36_c] T.s_uint8) fun b h_9 =>
 hcell h_9 ⟨t, 0, none⟩ = some (.map t33) ∧
 Cl F.copies_Table_numbers #[.pointer (some ⟨t, 0, none⟩)] h_9 fun v_8 h_10 =>
 ∃ t39_p t39_l t39_c, v_8 = .slice t39_p t39_l t39_c ∧
 ∃ (I : Option Addr → Nat → Nat → Int → Heap → Prop) (mu : Option Addr → Nat → Nat → Int → Heap → Nat), I (some ⟨b, 0, none⟩) 1 1 0 h_10 ∧ ∀ (out_p : Option Addr) (out_l out_c : Nat) (t41 : Int) (h_11 : Heap), I out_p out_l out_c t41 h_11 →
 if (decide (t41 < ((t39_l : Nat) : Int))) = true then
 ((0 : Int) ≤ t41 ∧ t41 < ((t39_l : Nat) : Int)) ∧
 onSome t39_p fun a =>
 ∃ t44, hcell h_11 (a.add (Int.toNat t41 * 1)) = some (.int .i64 t44) ∧
 ∃ t49, hcell h_11 ⟨t, 0, none⟩ = some (.map t49) ∧
 ∃ t51, LookV Tryz.prog T.m_int_p_copies_Copy (.map t49) (.int .i64 t44) false h_11 (.pointer t51) ∧
 Cl F.copies_record #[.pointer t51] h_11 fun v_9 h_12 =>
 ∃ t52_p t52_l t52_c, v_9 = .slice t52_p t52_l t52_c ∧
 NewP h_12 (.cells #[.slice t52_p t52_l t52_c] T.s_uint8) fun b_1 h_13 =>
 denSem Tryz.prog (Builtin.append_ #[T.s_s_uint8, T.s_s_uint8] T.s_s_uint8 #[.slice out_p out_l out_c, .slice (some ⟨b_1, 0, none⟩) 1 1]) h_13 fun v_10 h_14 =>
 ∃ t54_p t54_l t54_c, v_10 = .slice t54_p t54_l t54_c ∧
 (I t54_p t54_l t54_c (IntKind.wrap .i64 (t41 + 1)) h_14 ∧ mu t54_p t54_l t54_c (IntKind.wrap .i64 (t41 + 1)) h_14 < mu out_p out_l out_c t41 h_11)
 else
 R (.slice out_p out_l out_c) h_11) : CallsH Tryz.prog F.copies_Table_Save #[.pointer (some ⟨t, 0, none⟩)] h R :=
 callsH_of_body (.seq .leaf (.seq (.seq .leaf (.cond (.seq .leaf .leaf) .leaf)) (.seq (.plan (.op 1 (.op 2 (.op 3 (.op 4 (.op 6 (.op 7 (.op 8 (.op 9 (.op 11 (.op 12 (.op 13 (.op 14 (.op 16 (.op 17 (.op 18 (.op 19 (.op 21 (.op 22 (.op 23 (.op 24 (.op 0 (.op 5 (.op 10 (.op 15 (.op 20 (.op 25 (.op 26 (.op 27 (.op 28 (.op 29 .done))))))))))))))))))))))))))))))) (.seq (.seq .leaf (.block (.loop [(3, .one (.slice)), (41, .one (.int .i64))] (.seq .leaf (.seq (.cond .leaf .leaf) (.seq (.block (.seq .leaf .leaf)) .leaf)))))) (.seq .leaf .leaf))))) Tryz.func21 rfl rfl (Eq.mp (by kernel_rfl) hv)
end Go.Proofs.YtgccegnmggjkjaaGreatDoor
set_option maxRecDepth 100000
namespace Go.Proofs.YtgccegnmggjkjaaGreatDoor
open Go.Den Go.Fields Go.Heapq
namespace Cps
open Eid Alarm Fld
variable {h h' : Heap} {R : Value → Heap → Prop} {t : Nat} {X : Ft} {s s' : CF} {m a1 a2 : Nat} {xs : List CV} {S1 S2 S1' S2' : Nat → Prop} {lab : Nat → Option Nat} {p : Option Addr} {n c : Nat}
def recC (z:Cp):List UInt8:=encNum z.num++encText (textE z.e)++encText z.d++encNum z.till++encNum (natOf z.ses)++encNum z.dl
structure okZ (z:Cp):Prop where
 r:rightE z.e=true
 v:0≤z.e.svc
 d:z.d.length≤600
 n:z.num≤1000000
 t:z.till≤1099511627776
 s0:0≤z.ses
 s1:z.ses≤1099511627776
 l:z.dl≤1099511627776
theorem encText_len (t:List UInt8):(encText t).length≤t.length+10:=by
 have:=(encNum_len t.length).2
 unfold encText
 rw[List.length_append];omega
theorem recC_len {z:Cp} (k:okZ z):(recC z).length≤1000:=by
 have l0:=text_len k.r k.v
 have l1:=encText_len (textE z.e)
 have l2:=encText_len z.d
 have l3:=k.d
 have e1:=(encNum_len z.num).2
 have e2:=(encNum_len z.till).2
 have e3:=(encNum_len (natOf z.ses)).2
 have e4:=(encNum_len z.dl).2
 unfold recC
 simp only[List.length_append];omega
theorem ld_e {g:Heap} {b:Nat} {x:CV} {K:Bool→Int→Int→ByteArray→ByteArray→Prop} (hg:x.at g b) (hk:K x.e.ipn x.e.node x.e.svc x.e.host x.e.dem):eid_Eid.LD g ⟨b,1,none⟩ K:=
 ⟨_,cell_at hg rfl,_,cell_at hg rfl,_,cell_at hg rfl,_,cell_at hg rfl,_,cell_at hg rfl,hk⟩
theorem rec_tail {z:CV} {b:Nat} {g h1:Heap} {w:Nat} {S:Nat→Prop} {q:Option Addr} {dq:Nat} (k:okZ z.abs) (hb1:z.at h1 b) (hrow:Row h1 z.v.p (bc z.v.b)) (fg:Fr (fun _=>False) h1 g) (W:Wr g w S (encNum z.num)) (hS: ∀y,S y→h1.size≤y) (row:Row g q (bc (textE z.e))) (hq: ∀y,inBlk q y→ ¬S y)
  (hk: ∀p' c' h',Own h' p' (recC z.abs).length c' 1 (bc (recC z.abs))→Fr (fun _=>False) h1 h'→(∀y,inBlk p' y→h1.size≤y)→R (.slice p' (recC z.abs).length c') h'):
  hcell g ⟨b,9,none⟩=some (.int .u64 (z.dl:Int))∧hcell g ⟨b,8,none⟩=some (.int .i64 z.ses)∧hcell g ⟨b,7,none⟩=some (.int .u64 (z.till:Int))∧hcell g ⟨b,6,none⟩=some (.slice z.v.p z.v.b.length z.v.c)∧
  CallsH Tryz.prog F.fields_Writer_Text #[.pointer (some ⟨w,0,none⟩), .slice q (str (textE z.e)).size dq] g fun v_4 h_5=>
  ∃(t21:Option Addr),v_4= .pointer t21∧
  hcell h_5 ⟨b,9,none⟩=some (.int .u64 (z.dl:Int))∧
  hcell h_5 ⟨b,8,none⟩=some (.int .i64 z.ses)∧
  hcell h_5 ⟨b,7,none⟩=some (.int .u64 (z.till:Int))∧
  hcell h_5 ⟨b,6,none⟩=some (.slice z.v.p z.v.b.length z.v.c)∧
  CallsH Tryz.prog F.fields_Writer_Text #[.pointer t21, .slice z.v.p z.v.b.length z.v.c] h_5 fun v_5 h_6=>
  ∃(t26:Option Addr),v_5= .pointer t26∧
  hcell h_6 ⟨b,9,none⟩=some (.int .u64 (z.dl:Int))∧
  hcell h_6 ⟨b,8,none⟩=some (.int .i64 z.ses)∧
  hcell h_6 ⟨b,7,none⟩=some (.int .u64 (z.till:Int))∧
  CallsH Tryz.prog F.fields_Writer_Num #[.pointer t26, .int .u64 (z.till:Int)] h_6 fun v_6 h_7=>
  ∃(t31:Option Addr),v_6= .pointer t31∧
  hcell h_7 ⟨b,9,none⟩=some (.int .u64 (z.dl:Int))∧
  hcell h_7 ⟨b,8,none⟩=some (.int .i64 z.ses)∧
  CallsH Tryz.prog F.fields_Writer_Int #[.pointer t31, .int .i64 z.ses] h_7 fun v_7 h_8=>
  ∃(t36:Option Addr),v_7= .pointer t36∧
  hcell h_8 ⟨b,9,none⟩=some (.int .u64 (z.dl:Int))∧
  CallsH Tryz.prog F.fields_Writer_Num #[.pointer t36, .int .u64 (z.dl:Int)] h_8 fun v_8 h_9=>
  ∃(t41:Option Addr),v_8= .pointer t41∧
  CallsH Tryz.prog F.fields_Writer_Bytes #[.pointer t41] h_9 fun v_9 h_10=>
  ∃(t42_p:Option Addr) (t42_l t42_c:Nat),v_9= .slice t42_p t42_l t42_c∧
  R (.slice t42_p t42_l t42_c) h_10:=by
 have kr:rightE z.e=true:=k.r
 have kv:0≤z.e.svc:=k.v
 have kd:z.v.b.length≤600:=k.d
 have kt:z.till≤1099511627776:=k.t
 have k0:0≤z.ses:=k.s0
 have k1:z.ses≤1099511627776:=k.s1
 have kl:z.dl≤1099511627776:=k.l
 have lb:=lt_of_get hb1
 have bS: ∀ {S':Nat→Prop},(∀y,S' y→h1.size≤y)→ ¬S' b:=fun hh hn=>by have:=hh b hn;omega
 have l0:=text_len kr kv
 have lt1:=encText_len (textE z.e)
 have lt2:=encText_len z.v.b
 have e1:=(encNum_len z.num).2
 have e2:=(encNum_len z.till).2
 have e3:=(encNum_len (natOf z.ses)).2
 have hbg:z.at g b:=fg.get hb1 id
 have zg:=fg.1
 refine⟨cell_at hbg rfl,cell_at hbg rfl,cell_at hbg rfl,cell_at hbg rfl,Fld.text_ok W (by omega) row (str_size _) (by omega) hq fun g1 S1 W1 st1=> ?_⟩
 have hS1: ∀y,S1 y→h1.size≤y:=fun y hy=>(st1.new y hy).elim (hS y) (fun h1=>by omega)
 have F1:=fg.fresh st1.fr hS
 have b1:z.at g1 b:=F1.get hb1 id
 have z1:=F1.1
 refine⟨_,rfl,cell_at b1 rfl,cell_at b1 rfl,cell_at b1 rfl,cell_at b1 rfl,Fld.text_ok' W1 (by simp only[List.length_append];omega) (hrow.frame F1 (fun _ _=>id)) rfl (by omega) (fun y hy hne hs=>by have:=row_lt hrow (by intro e;apply hne;have:=congrArg List.length e;rw[bc_len] at this;exact List.length_eq_zero_iff.1 this) hy;have:=hS1 y hs;omega) fun g2 S2 W2 st2=> ?_⟩
 have hS2: ∀y,S2 y→h1.size≤y:=fun y hy=>(st2.new y hy).elim (hS1 y) (fun h1=>by omega)
 have F2:=F1.fresh st2.fr hS1
 have b2:z.at g2 b:=F2.get hb1 id
 have z2:=F2.1
 refine⟨_,rfl,cell_at b2 rfl,cell_at b2 rfl,cell_at b2 rfl,Fld.num_ok z.till W2 (by simp only[List.length_append];omega) rfl (by omega) fun g3 S3 W3 st3=> ?_⟩
 have hS3: ∀y,S3 y→h1.size≤y:=fun y hy=>(st3.new y hy).elim (hS2 y) (fun h1=>by omega)
 have F3:=F2.fresh st3.fr hS2
 have b3:z.at g3 b:=F3.get hb1 id
 have z3:=F3.1
 refine⟨_,rfl,cell_at b3 rfl,cell_at b3 rfl,Fld.int_ok W3 (by simp only[List.length_append];omega) (by omega) fun g4 S4 W4 st4=> ?_⟩
 have hS4: ∀y,S4 y→h1.size≤y:=fun y hy=>(st4.new y hy).elim (hS3 y) (fun h1=>by omega)
 have F4:=F3.fresh st4.fr hS3
 have b4:z.at g4 b:=F4.get hb1 id
 have z4:=F4.1
 refine⟨_,rfl,cell_at b4 rfl,Fld.num_ok z.dl W4 (by simp only[List.length_append];omega) rfl (by omega) fun g5 S5 W5 st5=> ?_⟩
 have F5:=F4.fresh st5.fr hS4
 have er:encNum z.num++encText (textE z.e)++encText z.v.b++encNum z.till++encNum (natOf z.ses)++encNum z.dl=recC z.abs:=rfl
 rw[er] at W5
 have lr:=recC_len k
 refine⟨_,rfl,Fld.bytes_ok W5 (by omega) fun p6 c6 g6 o6 f6 n6=>⟨_,_,_,rfl, ?_⟩⟩
 have z5:=F5.1
 exact hk p6 c6 g6 o6 (F5.tt f6) (fun y hy=>by have:=n6 y hy;omega)
theorem record_ok {z:CV} {b:Nat} (hb:z.at h b) (hrow:Row h z.v.p (bc z.v.b)) (k:okZ z.abs) (tb:Num.Tab h) (hk: ∀p' c' h',Own h' p' (recC z.abs).length c' 1 (bc (recC z.abs))→Fr (fun _=>False) h h'→(∀y,inBlk p' y→h.size≤y)→R (.slice p' (recC z.abs).length c') h'):CallsH Tryz.prog F.copies_record #[.pointer (some ⟨b,0,none⟩)] h R:=by
 have kr:rightE z.e=true:=k.r
 have kn:z.num≤1000000:=k.n
 refine copies_record.walk (ld_e hb (Eid.text_ok z.e tb k.v fun h1 f1=> ?_))
 simp only[kr,if_true]
 have hb1:z.at h1 b:=f1.get hb id
 have z0:=f1.1
 have hrow1:=hrow.frame f1 (fun _ _=>id)
 have hk1: ∀p' c' h',Own h' p' (recC z.abs).length c' 1 (bc (recC z.abs))→Fr (fun _=>False) h1 h'→(∀y,inBlk p' y→h1.size≤y)→R (.slice p' (recC z.abs).length c') h':=fun p' c' h' o f g=>hk p' c' h' o (f1.tt f) (fun y hy=>by have:=g y hy;omega)
 clear hk
 have dt:(str (textE z.e)).data.toList=textE z.e:=by unfold str;simp
 have tne:bc (textE z.e)≠ []:=by
  intro e
  have:=congrArg List.length e
  rw[bc_len] at this
  revert this
  unfold textE
  split<;>(try split)<;>simp
 have nz:encNum (natOf (z.num:Int))=encNum z.num:=by unfold natOf;rw[Int.toNat_natCast]
 refine⟨_,_,rfl,_,cell_at hb1 rfl,_,_,_,cell_at hb1 rfl,_,cell_at hb1 rfl,_,cell_at hb1 rfl,_,cell_at hb1 rfl, ?_, ?_,trivial⟩
 ·refine Fld.new_ok fun h2 w S W f2 n2=> ?_
  have b2:z.at h2 b:=f2.get hb1 id
  refine⟨_,rfl,cell_at b2 rfl,cell_at b2 rfl,cell_at b2 rfl,cell_at b2 rfl,cell_at b2 rfl, ?_, ?_,trivial⟩
  ·refine Fld.int_ok W (by simp) (by omega) fun h3 S3 W3 st3=> ?_
   rw[nz,List.nil_append] at W3
   have z2:=f2.1
   have F3:=f2.fresh st3.fr n2
   have b3:z.at h3 b:=F3.get hb1 id
   have n3: ∀y,S3 y→h1.size≤y:=fun y hy=>(st3.new y hy).elim (n2 y) (fun h1=>by omega)
   refine⟨_,rfl,cell_at b3 rfl,cell_at b3 rfl,cell_at b3 rfl,cell_at b3 rfl,s2b fun q d h4 row cq f4 n4=>⟨_,_,_,rfl, ?_⟩⟩
   rw[dt] at row
   exact rec_tail k hb1 hrow1 (F3.tt f4) (W3.frame f4 (fun _ _=>id)) n3 row (fun y hy hs=>by have:=n4 y hy;have:=W3.lt y hs;omega) hk1
  ·refine s2b fun q d h3 row cq f3 n3=>⟨_,_,_,rfl, ?_⟩
   have b3:z.at h3 b:=(f2.tt f3).get hb1 id
   have W3:=W.frame f3 (fun _ _=>id)
   refine⟨cell_at b3 rfl,cell_at b3 rfl,cell_at b3 rfl,cell_at b3 rfl,cell_at b3 rfl,Fld.int_ok W3 (by simp) (by omega) fun h4 S4 W4 st4=>⟨_,rfl, ?_⟩⟩
   rw[nz,List.nil_append] at W4
   have z2:=(f2.tt f3).1
   have n4: ∀y,S4 y→h1.size≤y:=fun y hy=>(st4.new y hy).elim (n2 y) (fun h1=>by omega)
   rw[dt] at row
   refine rec_tail k hb1 hrow1 ((f2.tt f3).fresh st4.fr n2) W4 n4 (row.frame st4.fr (fun a ea hs=>by have:=n3 a.block ⟨a,ea,rfl⟩;have:=W.lt _ hs;omega)) (fun y hy hs=> ?_) hk1
   have h1:=row_lt row tne hy
   have h2:=n3 y hy
   rcases st4.new y hs with h3|h3
   ·have:=W.lt y h3;omega
   ·omega
 ·refine s2b fun q d h2 row cq f2 n2=>⟨_,_,_,rfl, ?_⟩
  have b2:z.at h2 b:=f2.get hb1 id
  refine⟨cell_at b2 rfl,cell_at b2 rfl,cell_at b2 rfl,cell_at b2 rfl,cell_at b2 rfl,Fld.new_ok fun h3 w S W f3 n3=> ?_⟩
  have b3:z.at h3 b:=(f2.tt f3).get hb1 id
  have z2:=f2.1
  have z3:=f3.1
  refine⟨_,rfl,cell_at b3 rfl,cell_at b3 rfl,cell_at b3 rfl,cell_at b3 rfl,cell_at b3 rfl,Fld.int_ok W (by simp) (by omega) fun h4 S4 W4 st4=>⟨_,rfl, ?_⟩⟩
  rw[nz,List.nil_append] at W4
  rw[dt] at row
  have hrl: ∀y,inBlk q y→y<h2.size:=fun y hy=>row_lt row tne hy
  refine rec_tail k hb1 hrow1 ((f2.tt f3).fresh st4.fr (fun y hy=>by have:=n3 y hy;omega)) W4 (fun y hy=>(st4.new y hy).elim (fun h1=>by have:=n3 y h1;omega) (fun h1=>by omega)) ((row.frame f3 (fun _ _=>id)).frame st4.fr (fun a ea hs=>by have:=hrl a.block ⟨a,ea,rfl⟩;have:=n3 _ hs;omega)) (fun y hy hs=> ?_) hk1
  have h1:=hrl y hy
  rcases st4.new y hs with h3|h3
  ·have:=n3 y h3;omega
  ·omega
def headC (s:CF):List UInt8:=encNum s.next++encNum s.acked++encNum s.over++encNum s.gone++encNum s.L.length
def recsC (s:CF):List (List UInt8):=headC s::s.L.map recC
theorem save_ok (H:Ct h t X s) (sm:Small s) (hc:s.acked≤50000∧s.over≤50000∧s.gone≤50000) (ok: ∀z∈s.L,okZ z) (tb:Num.Tab h) (hk: ∀h' p' l' c',BL h h' p' l' c' (recsC s)→Fr (fun _=>False) h h'→R (.slice p' l' c') h'):CallsH Tryz.prog F.copies_Table_Save #[.pointer (some ⟨t,0,none⟩)] h R:=by
 obtain⟨m,xs,a1,S1,a2,S2,lab,H⟩:=H
 have sn:=sm.n
 have sl:=sm.l
 have xl:=H.len
 refine copies_Table_Save.walk (made_ok H ⟨_,rfl, ?_⟩)
 rw[if_neg (by decide)]
 refine⟨_,cell_at H.blk rfl,_,cell_at H.blk rfl,_,cell_at H.blk rfl,_,cell_at H.blk rfl,_,cell_at H.blk rfl,Fld.new_ok fun h1 w S W f1 n1=> ?_⟩
 have nn: ∀k:Nat,natOf (k:Int)=k:=fun k=>by unfold natOf;rw[Int.toNat_natCast]
 have l1:=(encNum_len s.next).2
 have l2:=(encNum_len s.acked).2
 have l3:=(encNum_len s.over).2
 have l4:=(encNum_len s.gone).2
 have l5:=(encNum_len s.L.length).2
 have G1:=H.on f1
 refine⟨_,rfl,cell_at G1.blk rfl,cell_at G1.blk rfl,cell_at G1.blk rfl,cell_at G1.blk rfl,cell_at G1.blk rfl,Fld.int_ok W (by simp) (by omega) fun h2 S2 W2 st2=> ?_⟩
 rw[nn,List.nil_append] at W2
 have z1:=f1.1
 have F2:=f1.fresh st2.fr n1
 have n2: ∀y,S2 y→h.size≤y:=fun y hy=>(st2.new y hy).elim (n1 y) (fun h1=>by omega)
 have G2:=H.on F2
 have z2:=F2.1
 refine⟨_,rfl,cell_at G2.blk rfl,cell_at G2.blk rfl,cell_at G2.blk rfl,cell_at G2.blk rfl,Fld.int_ok W2 (by omega) (by omega) fun h3 S3 W3 st3=> ?_⟩
 rw[nn] at W3
 have F3:=F2.fresh st3.fr n2
 have n3: ∀y,S3 y→h.size≤y:=fun y hy=>(st3.new y hy).elim (n2 y) (fun h1=>by omega)
 have G3:=H.on F3
 have z3:=F3.1
 refine⟨_,rfl,cell_at G3.blk rfl,cell_at G3.blk rfl,cell_at G3.blk rfl,Fld.int_ok W3 (by simp only[List.length_append];omega) (by omega) fun h4 S4 W4 st4=> ?_⟩
 rw[nn] at W4
 have F4:=F3.fresh st4.fr n3
 have n4: ∀y,S4 y→h.size≤y:=fun y hy=>(st4.new y hy).elim (n3 y) (fun h1=>by omega)
 have G4:=H.on F4
 have z4:=F4.1
 refine⟨_,rfl,cell_at G4.blk rfl,cell_at G4.blk rfl,Fld.int_ok W4 (by simp only[List.length_append];omega) (by omega) fun h5 S5 W5 st5=> ?_⟩
 rw[nn] at W5
 have F5:=F4.fresh st5.fr n4
 have n5: ∀y,S5 y→h.size≤y:=fun y hy=>(st5.new y hy).elim (n4 y) (fun h1=>by omega)
 have G5:=H.on F5
 have z5:=F5.1
 refine⟨_,rfl,cell_at G5.blk rfl,_,lenV_P mapTy G5.map, ?_⟩
 rw[List.length_map,xl]
 refine Fld.int_ok W5 (by simp only[List.length_append];omega) (by omega) fun h6 S6 W6 st6=> ?_
 rw[nn] at W6
 have F6:=F5.fresh st6.fr n5
 have G6:=H.on F6
 have z6:=F6.1
 have er:encNum s.next++encNum s.acked++encNum s.over++encNum s.gone++encNum s.L.length=headC s:=rfl
 rw[er] at W6
 have lh:(headC s).length≤50:=by unfold headC;simp only[List.length_append];omega
 refine⟨_,rfl,cell_at G6.blk rfl,Fld.bytes_ok W6 (by omega) fun p7 c7 h7 o7 f7 n7=>⟨_,_,_,rfl, ?_⟩⟩
 have F7:=F6.tt f7
 have z7:=F7.1
 have B7:BL h h7 none 0 0 []:=BL.nil
 refine⟨cell_at (H.on F7).blk rfl,newP_of ?_⟩
 have f8:Fr (fun _=>False) h7 (h7.push (.cells #[.slice p7 (headC s).length c7] T.s_uint8)):=Fr.push _ _
 have o8:Own (h7.push (.cells #[.slice p7 (headC s).length c7] T.s_uint8)) (some ⟨h7.size,0,none⟩) 1 1 1 (nenc ⟨p7,c7,headC s⟩):= .row h7.size 0 _ _ rfl push_new (Nat.le_refl _) (by simp) rfl (fun j v hj=>by rw[Nat.zero_add];simpa using hj)
 have B8:BL h (h7.push (.cells #[.slice p7 (headC s).length c7] T.s_uint8)) (some ⟨h7.size,0,none⟩) 1 1 [headC s]:=by
  refine⟨[⟨p7,c7,headC s⟩],inBlk p7,rfl,by simpa using o8,rfl, ?_, ?_,fun y ⟨a,e,e2⟩=>by cases e;rw[←e2];exact z7⟩
  ·intro v hv
   obtain rfl:=List.mem_singleton.1 hv
   exact BV.of_own (o7.frame f8 (fun _ _=>id)) (fun _=>id)
  ·intro y hy
   have h1:=n7 y hy
   have h2:=o7.blk_lt hy
   exact⟨by omega,by rw[Array.size_push];omega,fun⟨a,e,e2⟩=>by cases e;have e2:h7.size=y:=e2;omega⟩
 generalize h7.push (.cells #[.slice p7 (headC s).length c7] T.s_uint8)=h8 at f8 B8⊢
 generalize (some ⟨h7.size,0,none⟩:Option Addr)=p8 at B8⊢
 clear o8
 have F8:=F7.tt f8
 have G8:=H.on F8
 refine⟨cell_at G8.blk rfl,numbers_ok G8 (by omega) fun h9 p9 c9 o9 n9 f9=>⟨_,_,_,rfl, ?_⟩⟩
 have F9:=F8.tt f9
 have z8:=F8.1
 refine⟨fun op ol oc q g=> ∃k:Nat,q=(k:Int)∧k≤xs.length∧BL h g op ol oc (headC s::(s.L.take k).map recC)∧Fr (fun _=>False) h g∧Own g p9 xs.length c9 1 ((nums xs).map ienc)∧(∀y,inBlk op y→ ¬inBlk p9 y),fun _ _ _ q _=>xs.length - q.toNat,⟨0,rfl,by omega,by simpa using B8.on f9,F9,o9,fun y hy hq=>by have:=B8.lt hy;have:=n9 y hq;omega⟩, ?_⟩
 rintro op ol oc _ g ⟨k,rfl,hkn,B,fg,og,hdis⟩
 by_cases hlt:k<xs.length
 ·have q1:(k:Int)<((xs.length:Nat):Int):=by omega
  simp only[q1,decide_true,if_true,Int.toNat_natCast]
  have hx:xs[k]? =some xs[k]:=List.getElem?_eq_getElem hlt
  generalize xs[k]=v at hx
  have hLk:s.L[k]? =some v.abs:=by rw[←H.abs,List.getElem?_map,hx];rfl
  have hv:=List.mem_of_getElem? hx
  have Gg:=H.on fg
  obtain⟨ab,aoff,rfl⟩:=og.addr (by omega)
  have cn:=og.cell (j:=k) (v:=ienc (v.num:Int)) (by unfold nums;rw[List.map_map,List.getElem?_map,hx];rfl)
  refine⟨⟨by first|trivial|omega,by first|trivial|omega⟩,onSome_some.2 ⟨_,by rw[Nat.mul_one];exact cn,_,cell_at Gg.blk rfl,_,look Gg hv,record_ok (Gg.cps v hv) (Gg.dat v hv).row (ok v.abs (List.mem_of_getElem? hLk)) (tb.on fg) fun p10 c10 h10 o10 f10 n10=>⟨_,_,_,rfl, ?_⟩⟩⟩
  have zg:=fg.1
  have bl:=B.len
  rw[List.length_cons,List.length_map,List.length_take] at bl
  have ogl: ∀y,inBlk (some (⟨ab,aoff,none⟩:Addr)) y→y<g.size:=fun y hy=>og.blk_lt hy
  have bbl: ∀y,inBlk op y→y<g.size:=fun y hy=>B.lt hy
  have z10:=f10.1
  refine(B.on f10).push (by omega) o10 (fun y hy=>⟨by have:=n10 y hy;omega,fun ho=>by have:=bbl y ho;have:=n10 y hy;omega⟩) (by omega) fun p11 c11 h11 B11 f11 g11=>⟨_,_,_,rfl, ?_⟩
  rw[wrap_id (by omega) (by omega)]
  refine⟨⟨k+1,by omega,by omega, ?_, ?_,(og.frame f10 (fun _ _=>id)).frame f11 (fun y hy hq=>hdis y hq hy),fun y hy hq=>(g11 y hy).elim (fun h1=>hdis y h1 hq) (fun h1=>by have:=ogl y hq;omega)⟩,by show xs.length - Int.toNat ((k:Int)+1)<xs.length - k;omega⟩
  ·rw[List.take_add_one,hLk,List.map_append]
   rw[List.cons_append] at B11
   exact B11
  ·obtain⟨_,_,_,_,_,_,_,h6'⟩:=B
   exact(fg.tt f10).fresh f11 h6'
 ·have q1: ¬(k:Int)<((xs.length:Nat):Int):=by omega
  simp only[q1,decide_false,Bool.false_eq_true,if_false]
  rw[List.take_of_length_le (by omega)] at B
  exact hk g op ol oc B fg
abbrev aenc (y:CV):List Value:= [.int .i64 (y.num:Int), .bool y.e.ipn, .int .u64 y.e.node, .int .u64 y.e.svc, .string y.e.host, .string y.e.dem,y.v.val, .int .u64 (y.till:Int), .int .i64 y.ses, .int .u64 (y.dl:Int)]
theorem aenc_len (y:CV):(aenc y).length=10:=rfl
end Cps
end Go.Proofs.YtgccegnmggjkjaaGreatDoor
set_option maxRecDepth 100000
namespace Go.Proofs.YtgccegnmggjkjaaGreatDoor
open Go.Den Go.Heapq
namespace Cps
open Eid
structure OP where
 kind:Int
 num:Int
 ses:Int
 e:Ev
 p:Option Addr
 c:Nat
 b:List UInt8
 till:Nat
abbrev oenc (f:OP):List Value:= [.int .i64 f.kind, .int .i64 f.num, .int .i64 f.ses, .bool f.e.ipn, .int .u64 f.e.node, .int .u64 f.e.svc, .string f.e.host, .string f.e.dem, .slice f.p f.b.length f.c, .int .u64 (f.till:Int)]
end Cps
end Go.Proofs.YtgccegnmggjkjaaGreatDoor
set_option maxRecDepth 100000
namespace Go.Proofs.YtgccegnmggjkjaaGreatDoor
open Go.Den Go.Fields Go.Heapq
namespace Cps
open Eid Alarm Fld
variable {s s' : CF} {k : Nat} {f : OP}
theorem nd_le {α:Type} [DecidableEq α]: ∀ {l1 l2:List α},l1.Nodup→(∀a∈l1,a∈l2)→l1.length≤l2.length
 | [],_,_,_=>Nat.zero_le _
 |a::l,l2,h,hs=>by
  obtain⟨h1,h2⟩:=List.nodup_cons.1 h
  have:=nd_le (l1:=l) (l2:=l2.erase a) h2 (fun b hb=>(List.mem_erase_of_ne (fun e=>h1 (by rw[←e];exact hb))).2 (hs b (List.mem_cons_of_mem _ hb)))
  have h3:=List.length_erase_of_mem (hs a (by simp))
  have h4:0<l2.length:=List.length_pos_of_mem (hs a (by simp))
  rw[List.length_cons];omega
theorem nd_len {α:Type} [DecidableEq α] {l1 l2:List α} (h1:l1.Nodup) (h2:l2.Nodup) (hs: ∀a,a∈l1↔a∈l2):l1.length=l2.length:=
 Nat.le_antisymm (nd_le h1 (fun a ha=>(hs a).1 ha)) (nd_le h2 (fun a ha=>(hs a).2 ha))
theorem leased_len (ok:okC s) (O:Ord s):s.E2.length=(s.L.filter (fun z=>decide (z.ses≠0))).length:=by
 have e:((s.L.filter (fun z=>decide (z.ses≠0))).map (fun z=>(((z.num:Int),(z.dl:Int)):E))).length=(s.L.filter (fun z=>decide (z.ses≠0))).length:=List.length_map ..
 rw[←e]
 refine nd_len ?_ ?_ fun a=> ?_
 ·have:=O.n2
  unfold keys at this
  exact(List.pairwise_map.1 this).imp (fun h e=>h (congrArg _ e))
 ·have h1:((s.L.filter (fun z=>decide (z.ses≠0))).map Cp.num).Nodup:=List.Pairwise.sublist (List.Sublist.map _ List.filter_sublist) O.nd
  exact List.pairwise_map.2 ((List.pairwise_map.1 h1).imp (fun h e=>h (Int.ofNat.inj (congrArg Prod.fst e))))
 ·rw[ok.e2,List.mem_map]
  constructor
  ·rintro⟨z,hz,hs,rfl⟩;exact⟨z,List.mem_filter.2 ⟨hz,decide_eq_true hs⟩,rfl⟩
  ·rintro⟨z,hz,rfl⟩
   obtain⟨h1,h2⟩:=List.mem_filter.1 hz
   exact⟨z,h1,of_decide_eq_true h2,rfl⟩
theorem sorted_ext: ∀ {l l':List E},Sorted l→Sorted l'→(∀e,e∈l↔e∈l')→l=l'
 | [], [],_,_,_=>rfl
 | [],a::_,_,_,hm=>by have:=(hm a).2 (by simp);cases this
 |a::_, [],_,_,hm=>by have:=(hm a).1 (by simp);cases this
 |a::l,b::l',h,h',hm=>by
  obtain⟨h1,h2⟩:=List.pairwise_cons.1 h
  obtain⟨g1,g2⟩:=List.pairwise_cons.1 h'
  have e:a=b:=by
   rcases List.mem_cons.1 ((hm a).1 (by simp)) with e|e
   ·exact e
   ·rcases List.mem_cons.1 ((hm b).2 (by simp)) with e2|e2
    ·exact e2.symm
    ·exact absurd (Heapq.lt_trans (h1 b e2) (g1 a e)) (Heapq.lt_irrefl a)
  subst e
  rw[sorted_ext h2 g2 fun x=>⟨fun hx=> ?_,fun hx=> ?_⟩]
  ·rcases List.mem_cons.1 ((hm x).1 (List.mem_cons_of_mem _ hx)) with e|e
   ·subst e;exact absurd (h1 x hx) (Heapq.lt_irrefl x)
   ·exact e
  ·rcases List.mem_cons.1 ((hm x).2 (List.mem_cons_of_mem _ hx)) with e|e
   ·subst e;exact absurd (g1 x hx) (Heapq.lt_irrefl x)
   ·exact e
theorem okZ.free {z:Cp} (k:okZ z):okZ { z with ses:=0,dl:=0 } :=⟨k.r,k.v,k.d,k.n,k.t,by show(0:Int)≤0;omega,by show(0:Int)≤1099511627776;omega,by show 0≤1099511627776;omega⟩
theorem okZ.lease {z:Cp} (k:okZ z) {ses:Int} {dl:Nat} (hm:mayS ses dl):okZ { z with ses:=ses,dl:=dl } :=⟨k.r,k.v,k.d,k.n,k.t,by have:=hm.1;show 0≤ses;omega,hm.2.1,hm.2.2⟩
structure Good (s:CF) (k:Nat):Prop where
 ok:okC s
 all: ∀z∈s.L,okZ z
 may: ∀z∈s.L,mayC z.e z.d.length (z.till:Int)=true
 fr: ∀z∈s.L,z.ses=0→z.dl=0
 full: ∀e,(ofL s.L e).length≤16
 len:s.next≤k+1
theorem Good.nil:Good ⟨[],1,0,0,0, [], []⟩ 0:=⟨⟨(fun z hz=>by cases hz),(fun z hz=>by cases hz),(fun e=>by simp),(fun e=>by simp),rfl⟩,(fun z hz=>by cases hz),(fun z hz=>by cases hz),(fun z hz=>by cases hz),fun _=>Nat.zero_le _,Nat.le_refl _⟩
theorem Good.L (G:Good s k):s.L.length≤k∧s.acked≤k∧s.over≤k∧s.gone≤k:=by
 have:=G.ok.cnt
 have:=G.len
 omega
theorem Good.small (G:Good s k) (O:Ord s) (hk:k≤40000):Small s:=by
 have h1:=G.L
 have h2:=G.len
 have nd: ∀ {l:List E},(keys l).Nodup→l.Nodup:=fun {l} hn=>(List.pairwise_map.1 hn).imp (fun h e=>h (congrArg _ e))
 have e1:s.E1.length≤s.L.length:=by
  have:=nd_le (l2:=s.L.map (fun z=>(((z.num:Int),(z.till:Int)):E))) (nd O.n1) (fun e he=>by
   obtain⟨z,hz,rfl⟩:=(G.ok.e1 e).1 he
   exact List.mem_map.2 ⟨z,hz,rfl⟩)
  rwa[List.length_map] at this
 have e2:s.E2.length≤s.L.length:=by
  rw[leased_len G.ok O];exact List.length_filter_le _ _
 exact⟨by omega,by omega,by omega,by omega⟩
theorem Good.held (G:Good s k):Held s:=fun j hj=>by
 unfold keys at hj
 obtain⟨e,he,rfl⟩:=List.mem_map.1 hj
 obtain⟨z,hz,_,rfl⟩:=(G.ok.e2 e).1 he
 exact⟨z,hz,rfl⟩
theorem Good.more (G:Good s k):Good s (k+1):=⟨G.ok,G.all,G.may,G.fr,G.full,by have:=G.len;omega⟩
theorem Good.sub (G:Good s k) (ok':okC s') (P:Cp→Bool) (g:Cp→Cp) (hg: ∀z,(g z).e=z.e∧(g z).d=z.d∧(g z).till=z.till) (hz: ∀z∈s.L,okZ (g z)∧((g z).ses=0→(g z).dl=0)) (hL:s'.L=(s.L.filter P).map g) (hn:s'.next=s.next):Good s' (k+1):=by
 have mem: ∀z∈s'.L,∃y∈s.L,z=g y:=fun z hz=>by
  rw[hL] at hz
  obtain⟨y,hy,rfl⟩:=List.mem_map.1 hz
  exact⟨y,(List.mem_filter.1 hy).1,rfl⟩
 refine⟨ok',fun z h=> ?_,fun z h=> ?_,fun z h=> ?_,fun e=> ?_,by have:=G.len;omega⟩
 ·obtain⟨y,hy,rfl⟩:=mem z h;exact(hz y hy).1
 ·obtain⟨y,hy,rfl⟩:=mem z h
  rw[(hg y).1,(hg y).2.1,(hg y).2.2];exact G.may y hy
 ·obtain⟨y,hy,rfl⟩:=mem z h;exact(hz y hy).2
 ·have h1:ofL s'.L e=(ofL (s.L.filter P) e).map g:=by
   rw[hL];unfold ofL
   rw[List.filter_map]
   congr 1
   refine List.filter_congr fun z _=> ?_
   show decide ((g z).e=e)=decide (z.e=e)
   rw[(hg z).1]
  rw[h1,List.length_map]
  exact Nat.le_trans ((List.Sublist.filter _ List.filter_sublist).length_le) (G.full e)
theorem filter_tt (L:List Cp):L.filter (fun _=>true)=L:=List.filter_eq_self.2 fun _ _=>rfl
theorem Good.set (G:Good s k) (ok':okC s') {n:Nat} {ses:Int} {dl:Nat} (h0:mayS ses dl∨(ses=0∧dl=0)) (hL:s'.L=setC s.L n ses dl) (hn:s'.next=s.next):Good s' (k+1):=by
 refine G.sub ok' (fun _=>true) (fun x=>if x.num=n then { x with ses:=ses,dl:=dl } else x) (fun z=>by split<;>exact⟨rfl,rfl,rfl⟩) (fun z hz=> ?_) (by rw[filter_tt];exact hL) hn
 split
 ·rcases h0 with h0|⟨rfl,rfl⟩
  ·exact⟨(G.all z hz).lease h0,fun e=>by have:=h0.1;dsimp only at e;omega⟩
  ·exact⟨(G.all z hz).free,fun _=>rfl⟩
 ·exact⟨G.all z hz,G.fr z hz⟩
theorem Good.out (G:Good s k) (ok':okC s') {P:Cp→Bool} (hL:s'.L=s.L.filter P) (hn:s'.next=s.next):Good s' (k+1):=
 G.sub ok' P id (fun _=>⟨rfl,rfl,rfl⟩) (fun z hz=>⟨G.all z hz,G.fr z hz⟩) (by rw[List.map_id];exact hL) hn
instance (ses : Int) (dl : Nat) : Decidable (mayS ses dl) := by unfold mayS; infer_instance
def doS (f:OP) (s:CF):CF:=
 if f.kind=0 then addF s f.e f.b f.till
 else if f.kind=1 then(if mayS f.ses f.till then(match leaseC s.L f.e with|none=>s|some z=>leaseF s z f.ses f.till) else s)
 else if f.kind=2 then ackF s f.num f.ses
 else if f.kind=3 then relF s f.num f.ses
 else if f.kind=4 then passF s (f.till:Int)
 else if f.kind=5 then dropF s f.e
 else s
theorem Good.do (G:Good s k) (O:Ord s) (hsv:0≤f.e.svc) (hk:k≤30000):Good (doS f s) (k+1):=by
 unfold doS
 split
 ·
  have ok':=G.ok.add f.e f.b f.till
  by_cases h0:addE s f.e f.b f.till=0
  ·have eF:addF s f.e f.b f.till= { s with L:=s.L++ [⟨s.next,f.e,f.b,f.till,0,0⟩],next:=s.next+1,E1:=setL s.E1 (s.next:Int) (f.till:Int) } :=if_pos h0
   have hm:mayC f.e f.b.length (f.till:Int)=true∧(ofL s.L f.e).length<16:=by
    unfold addE at h0
    split at h0
    ·rename_i hm
     refine⟨hm, ?_⟩
     split at h0
     ·cases h0
     ·omega
    ·cases h0
   have hp:rightE f.e=true∧f.b.length≤600∧f.till≤1099511627776:=by
    have:=hm.1
    unfold mayC at this
    simp only[Bool.and_eq_true,Bool.not_eq_true',decide_eq_true_eq,decide_eq_false_iff_not] at this
    exact⟨this.1,by omega,by omega⟩
   have ln:=G.len
   rw[eF] at ok'⊢
   have mem: ∀ {Q:Cp→Prop},(∀z∈s.L,Q z)→Q ⟨s.next,f.e,f.b,f.till,0,0⟩→ ∀z∈s.L++ [⟨s.next,f.e,f.b,f.till,0,0⟩],Q z:=fun h1 h2 z hz=>by
    rcases List.mem_append.1 hz with hz|hz
    ·exact h1 z hz
    ·obtain rfl:=List.mem_singleton.1 hz;exact h2
   refine⟨ok',mem G.all ⟨hp.1,hsv,hp.2.1,by show s.next≤1000000;omega,hp.2.2,by show(0:Int)≤0;omega,by show(0:Int)≤1099511627776;omega,by show 0≤1099511627776;omega⟩,mem G.may hm.1,mem G.fr (fun _=>rfl),fun e=> ?_,by show s.next+1≤_;omega⟩
   show(ofL (s.L++ [⟨s.next,f.e,f.b,f.till,0,0⟩]) e).length≤16
   unfold ofL
   rw[List.filter_append,List.length_append]
   have g1:=G.full e
   have g2:=hm.2
   unfold ofL at g1 g2
   by_cases he:f.e=e
   ·subst he
    simp
    omega
   ·simp[he]
    exact g1
  ·have eF:addF s f.e f.b f.till=s:=if_neg h0
   rw[eF];exact G.more
 split
 ·
  split
  ·rename_i hm
   cases hl:leaseC s.L f.e with
   |none=>exact G.more
   |some z=>exact G.set (G.ok.lease O (leaseC_mem hl).1 hm) (.inl hm) rfl rfl
  ·exact G.more
 split
 ·
  have ok':=G.ok.ack O f.num f.ses
  unfold ackF at ok'⊢
  split
  ·rename_i h0
   rw[if_pos h0] at ok'
   exact G.out ok' (P:=fun x=> !decide ((x.num:Int)=f.num)) rfl rfl
  ·exact G.more
 split
 ·
  have ok':=G.ok.rel O f.num f.ses
  unfold relF at ok'⊢
  split
  ·rename_i h0
   rw[if_pos h0] at ok'
   exact G.set ok' (.inr ⟨rfl,rfl⟩) rfl rfl
  ·exact G.more
 split
 ·
  obtain⟨h1,_,h3,_,_,h6,_⟩:=pass_all2 G.ok O (f.till:Int)
  refine G.sub h1 _ (freeZ (f.till:Int)) (fun z=>by unfold freeZ;split<;>exact⟨rfl,rfl,rfl⟩) (fun z hz=> ?_) h6 h3
  unfold freeZ
  split
  ·exact⟨(G.all z hz).free,fun _=>rfl⟩
  ·exact⟨G.all z hz,G.fr z hz⟩
 split
 ·
  have e:=fold_gone ((ofL s.L f.e).map (fun z=>(z.num:Int))) s
  refine G.out (G.ok.drop O f.e) (P:=fun z=> !decide ((z.num:Int)∈(ofL s.L f.e).map (fun z=>(z.num:Int)))) ?_ ?_
  ·unfold dropF;rw[e];rfl
  ·unfold dropF;rw[e]
 ·exact G.more
end Cps
end Go.Proofs.YtgccegnmggjkjaaGreatDoor
namespace Go.Den
def writeAt:List Value→Nat→List Value→List Value
 |cs,_, []=>cs
 |cs,p,v::vs=>writeAt (cs.set p v) (p+1) vs
theorem writeAt_len: ∀(vs cs:List Value) (p:Nat),(writeAt cs p vs).length=cs.length
 | [],cs,p=>rfl
 |v::vs,cs,p=>by unfold writeAt;rw[writeAt_len vs,List.length_set]
theorem writeAt_at: ∀(vs cs:List Value) (p:Nat),p+vs.length≤cs.length→ ∀j,(writeAt cs p vs)[j]? =if p≤j∧j<p+vs.length then vs[j - p]? else cs[j]?
 | [],cs,p,_,j=>by unfold writeAt;rw[if_neg (by rw[List.length_nil];omega)]
 |v::vs,cs,p,hl,j=>by
  unfold writeAt
  rw[List.length_cons] at hl⊢
  rw[writeAt_at vs _ (p+1) (by rw[List.length_set];omega) j,List.getElem?_set]
  by_cases h1:p+1≤j∧j<p+1+vs.length
  ·rw[if_pos h1,if_pos (by omega),show j - p=(j - (p+1))+1 by omega,List.getElem?_cons_succ]
  ·rw[if_neg h1]
   by_cases h2:p=j
   ·subst h2
    rw[if_pos rfl,if_pos (by omega),if_pos (by omega),Nat.sub_self];rfl
   ·rw[if_neg h2,if_neg (by omega)]
theorem Own.storeL {a:Addr} {len cap sz p:Nat} {K:Heap→Prop} : ∀(vs:List Value) (k:Nat) (h:Heap) (cs:List Value),Own h (.some a) len cap sz cs→(∀v∈vs,oneCell v=true)→p+k+vs.length≤cs.length→
  (∀h',Own h' (.some a) len cap sz (writeAt cs (p+k) vs)→h'.size=h.size→(∀x,¬inBlk (.some a) x→h'[x]? =h[x]?)→K h')→Den.storeL (a.add p) vs k h K
 | [],k,h,cs,o,_,_,hk=>hk h o rfl (fun _ _=>rfl)
 |v::vs,k,h,cs,o,hv,hl,hk=>by
  rw[List.length_cons] at hl
  unfold Den.storeL
  rw[hv v List.mem_cons_self]
  dsimp only
  rw[add_add]
  refine o.store (by omega) fun h1 o1 s1 q1=> ?_
  refine Own.storeL vs (k+1) h1 _ o1 (fun u hu=>hv u (List.mem_cons_of_mem _ hu)) (by rw[List.length_set];omega) fun h2 o2 s2 q2=>hk h2 ?_ (by omega) (fun x hx=>by rw[q2 x hx,q1 x hx])
  unfold writeAt
  rw[show p+k+1=p+(k+1) by omega]
  exact o2
theorem Own.storeRow {h:Heap} {a:Addr} {len cap sz:Nat} {α:Type} {enc:α→List Value} {xs:List α} {i:Nat} {y:α} {K:Heap→Prop} (o:Own h (.some a) len cap sz (xs.flatMap enc)) (henc: ∀x,(enc x).length=sz) (hone: ∀v∈enc y,oneCell v=true) (hi:i<xs.length)
  (hk: ∀h',Own h' (.some a) len cap sz ((xs.set i y).flatMap enc)→h'.size=h.size→(∀x,¬inBlk (.some a) x→h'[x]? =h[x]?)→K h'):Den.storeL (a.add (i*sz)) (enc y) 0 h K:=by
 have hl:=flat_len enc sz henc xs
 have hb:i*sz+sz≤xs.length*sz:=by
  have:=Nat.mul_le_mul_right sz (show i+1≤xs.length by omega)
  rwa[Nat.add_mul,Nat.one_mul] at this
 refine Own.storeL (enc y) 0 h _ o hone (by rw[henc,hl];omega) fun h' o' s' q'=>hk h' ?_ s' q'
 have e:writeAt (xs.flatMap enc) (i*sz+0) (enc y)=(xs.set i y).flatMap enc:=by
  refine flat_set enc sz henc xs i y hi _ (writeAt_len _ _ _) ?_ ?_
  ·intro j hj
   rw[writeAt_at _ _ _ (by rw[henc,hl];omega),henc]
   rw[if_neg]
   rintro⟨h1,h2⟩
   rcases hj with hj|hj
   ·apply hj
    have hz:0<sz:=by omega
    rw[Nat.div_eq_iff hz]
    constructor
    ·omega
    ·omega
   ·omega
  ·intro j v hj hv
   rw[writeAt_at _ _ _ (by rw[henc,hl];omega),henc,if_pos (by omega),show i*sz+j - (i*sz+0)=j by omega]
   exact hv
 rw[e] at o'
 exact o'
def swp {α:Type} (xs:List α) (i j:Nat):List α:=
 match xs[i]?,xs[j]? with
 |some x,some y=>(xs.set i y).set j x
 |_,_=>xs
theorem swp_eq {α:Type} {xs:List α} {i j:Nat} {x y:α} (hx:xs[i]? =some x) (hy:xs[j]? =some y):(xs.set i y).set j x=swp xs i j:=by unfold swp;rw[hx,hy]
theorem swp_at {α:Type} {xs:List α} {i j:Nat} (hi:i<xs.length) (hj:j<xs.length) (k:Nat):(swp xs i j)[k]? =if k=j then xs[i]? else if k=i then xs[j]? else xs[k]? :=by
 have e1:xs[i]? =some xs[i]:=List.getElem?_eq_getElem hi
 have e2:xs[j]? =some xs[j]:=List.getElem?_eq_getElem hj
 unfold swp
 rw[e1,e2]
 dsimp only
 rw[List.getElem?_set,List.getElem?_set,List.length_set]
 by_cases h1:j=k
 ·subst h1;rw[if_pos rfl,if_pos hj,if_pos rfl]
 ·rw[if_neg h1,if_neg (Ne.symm h1)]
  by_cases h2:i=k
  ·subst h2;rw[if_pos rfl,if_pos hi,if_pos rfl]
  ·rw[if_neg h2,if_neg (Ne.symm h2)]
theorem swp_perm {α:Type} {xs:List α} {i j:Nat} (hi:i<xs.length) (hj:j<xs.length):(swp xs i j).Perm xs:=by
 unfold swp
 rw[List.getElem?_eq_getElem hi,List.getElem?_eq_getElem hj]
 dsimp only
 exact List.set_set_perm hi hj
end Go.Den
namespace Go.Den
section
variable {α : Type} {lt : α → α → Prop} {xs ys : List α} {a b i j : Nat}
def SortedOn (lt:α→α→Prop) (xs:List α) (a b:Nat):Prop:= ∀(p q:Nat) x y,a≤p→p<q→q<b→xs[p]? =some x→xs[q]? =some y→lt x y
theorem SortedOn.pair (h:SortedOn lt xs 0 xs.length):xs.Pairwise lt:=by
 rw[List.pairwise_iff_getElem]
 intro i j hi hj hij
 exact h i j _ _ (Nat.zero_le _) hij hj (List.getElem?_eq_getElem hi) (List.getElem?_eq_getElem hj)
theorem SortedOn.small (h:b≤a+1):SortedOn lt xs a b:=fun p q _ _ h1 h2 h3=>by omega
structure InsI (lt:α→α→Prop) (xs ys:List α) (a i j:Nat):Prop where
 perm:ys.Perm xs
 out: ∀k,k<a∨i<k→ys[k]? =xs[k]?
 so: ∀(p q:Nat) x y,a≤p→p<q→q≤i→p≠j→q≠j→ys[p]? =some x→ys[q]? =some y→lt x y
 up: ∀(q:Nat) x y,j<q→q≤i→ys[j]? =some x→ys[q]? =some y→lt x y
theorem InsI.start (h:SortedOn lt xs a i):InsI lt xs xs a i i:=
 ⟨.refl _,fun _ _=>rfl,fun p q x y h1 h2 h3 _ h5=>h p q x y h1 h2 (by omega),fun q x y h1 h2=>by omega⟩
theorem InsI.swap {x y:α} (H:InsI lt xs ys a i j) (hj:a<j) (hji:j≤i) (hi:i<ys.length) (hx:ys[j]? =some x) (hy:ys[j - 1]? =some y) (hl:lt x y):InsI lt xs (swp ys j (j - 1)) a i (j - 1):=by
 have at_: ∀k:Nat,(swp ys j (j - 1))[k]? =if k=j - 1 then ys[j]? else if k=j then ys[j - 1]? else ys[k]? :=swp_at (by omega) (by omega)
 refine⟨(swp_perm (by omega) (by omega)).trans H.perm,fun k hk=> ?_,fun p q u v h1 h2 h3 h4 h5 hu hv=> ?_,fun q u v h1 h2 hu hv=> ?_⟩
 ·rw[at_,if_neg (by omega),if_neg (by omega)];exact H.out k hk
 ·rw[at_,if_neg h4] at hu
  rw[at_,if_neg h5] at hv
  by_cases p0:p=j
  ·rw[if_pos p0] at hu
   rw[if_neg (by omega)] at hv
   exact H.so (j - 1) q u v (by omega) (by omega) h3 (by omega) (by omega) hu hv
  ·rw[if_neg p0] at hu
   by_cases q0:q=j
   ·rw[if_pos q0] at hv
    exact H.so p (j - 1) u v h1 (by omega) (by omega) p0 (by omega) hu hv
   ·rw[if_neg q0] at hv
    exact H.so p q u v h1 h2 h3 p0 q0 hu hv
 ·rw[at_,if_pos rfl] at hu
  rw[at_,if_neg (by omega)] at hv
  by_cases q0:q=j
  ·rw[if_pos q0] at hv
   rw[hx] at hu;rw[hy] at hv
   cases hu;cases hv;exact hl
  ·rw[if_neg q0] at hv
   exact H.up q u v (by omega) h2 hu hv
theorem InsI.stop (htr: ∀ {x y z},lt x y→lt y z→lt x z) (H:InsI lt xs ys a i j) (hj:a≤j) (hji:j≤i) (hi:i<ys.length) (he:j=a∨ ∀x y,ys[j]? =some x→ys[j - 1]? =some y→lt y x):SortedOn lt ys a (i+1):=by
 intro p q u v h1 h2 h3 hu hv
 by_cases p0:p=j
 ·subst p0;exact H.up q u v h2 (by omega) hu hv
 ·by_cases q0:q=j
  ·subst q0
   rcases he with he|he
   ·omega
   ·have hw:ys[q - 1]? =some (ys[q - 1]'(by omega)):=List.getElem?_eq_getElem _
    have hl:=he _ _ hv hw
    by_cases p1:p=q - 1
    ·subst p1;rw[hw] at hu;cases hu;exact hl
    ·exact htr (H.so p (q - 1) _ _ h1 (by omega) (by omega) p0 (by omega) hu hw) hl
  ·exact H.so p q u v h1 h2 (by omega) p0 q0 hu hv
end
end Go.Den
set_option maxRecDepth 100000
set_option maxHeartbeats 4000000
namespace Go.Proofs.YtgccegnmggjkjaaGreatDoor
open Go.Den
variable {h : Heap} {R : Value → Heap → Prop}
theorem math_bits_Len.walk {x : Int} (hv :
 Cl F.math_bits_Len64 #[.int .u64 x] h fun v h_1 =>
 ∃ t7, v = .int .i64 t7 ∧
 R (.int .i64 t7) h_1) : CallsH Tryz.prog F.math_bits_Len #[.int .u64 x] h R :=
 callsH_of_body (.seq .leaf (.seq (.cond (.seq .leaf .leaf) .leaf) (.seq .leaf .leaf))) Tryz.func191 rfl rfl (Eq.mp (by kernel_rfl) hv)
theorem math_bits_Len64.walk {x : Int} (hv :
 JoinP (fun (x_1 : Int) (n : Int) (h_1 : Heap) =>
 JoinP (fun (x_2 : Int) (n_1 : Int) (h_2 : Heap) =>
 JoinP (fun (x_3 : Int) (n_2 : Int) (h_3 : Heap) =>
 ((0 : Int) ≤ IntKind.wrap .u8 x_3 ∧ IntKind.wrap .u8 x_3 < (((⟨#[0, 1, 2, 2, 3, 3, 3, 3, 4, 4, 4, 4, 4, 4, 4, 4, 5, 5, 5, 5, 5, 5, 5, 5, 5, 5, 5, 5, 5, 5, 5, 5, 6, 6, 6, 6, 6, 6, 6, 6, 6, 6, 6, 6, 6, 6, 6, 6, 6, 6, 6, 6, 6, 6, 6, 6, 6, 6, 6, 6, 6, 6, 6, 6, 7, 7, 7, 7, 7, 7, 7, 7, 7, 7, 7, 7, 7, 7, 7, 7, 7, 7, 7, 7, 7, 7, 7, 7, 7, 7, 7, 7, 7, 7, 7, 7, 7, 7, 7, 7, 7, 7, 7, 7, 7, 7, 7, 7, 7, 7, 7, 7, 7, 7, 7, 7, 7, 7, 7, 7, 7, 7, 7, 7, 7, 7, 7, 7, 8, 8, 8, 8, 8, 8, 8, 8, 8, 8, 8, 8, 8, 8, 8, 8, 8, 8, 8, 8, 8, 8, 8, 8, 8, 8, 8, 8, 8, 8, 8, 8, 8, 8, 8, 8, 8, 8, 8, 8, 8, 8, 8, 8, 8, 8, 8, 8, 8, 8, 8, 8, 8, 8, 8, 8, 8, 8, 8, 8, 8, 8, 8, 8, 8, 8, 8, 8, 8, 8, 8, 8, 8, 8, 8, 8, 8, 8, 8, 8, 8, 8, 8, 8, 8, 8, 8, 8, 8, 8, 8, 8, 8, 8, 8, 8, 8, 8, 8, 8, 8, 8, 8, 8, 8, 8, 8, 8, 8, 8, 8, 8, 8, 8, 8, 8, 8, 8, 8, 8, 8, 8, 8, 8, 8, 8, 8, 8]⟩ : ByteArray).size : Nat) : Int)) ∧
 R (.int .i64 (IntKind.wrap .i64 (n_2 + (IntKind.wrap .i64 ((((⟨#[0, 1, 2, 2, 3, 3, 3, 3, 4, 4, 4, 4, 4, 4, 4, 4, 5, 5, 5, 5, 5, 5, 5, 5, 5, 5, 5, 5, 5, 5, 5, 5, 6, 6, 6, 6, 6, 6, 6, 6, 6, 6, 6, 6, 6, 6, 6, 6, 6, 6, 6, 6, 6, 6, 6, 6, 6, 6, 6, 6, 6, 6, 6, 6, 7, 7, 7, 7, 7, 7, 7, 7, 7, 7, 7, 7, 7, 7, 7, 7, 7, 7, 7, 7, 7, 7, 7, 7, 7, 7, 7, 7, 7, 7, 7, 7, 7, 7, 7, 7, 7, 7, 7, 7, 7, 7, 7, 7, 7, 7, 7, 7, 7, 7, 7, 7, 7, 7, 7, 7, 7, 7, 7, 7, 7, 7, 7, 7, 8, 8, 8, 8, 8, 8, 8, 8, 8, 8, 8, 8, 8, 8, 8, 8, 8, 8, 8, 8, 8, 8, 8, 8, 8, 8, 8, 8, 8, 8, 8, 8, 8, 8, 8, 8, 8, 8, 8, 8, 8, 8, 8, 8, 8, 8, 8, 8, 8, 8, 8, 8, 8, 8, 8, 8, 8, 8, 8, 8, 8, 8, 8, 8, 8, 8, 8, 8, 8, 8, 8, 8, 8, 8, 8, 8, 8, 8, 8, 8, 8, 8, 8, 8, 8, 8, 8, 8, 8, 8, 8, 8, 8, 8, 8, 8, 8, 8, 8, 8, 8, 8, 8, 8, 8, 8, 8, 8, 8, 8, 8, 8, 8, 8, 8, 8, 8, 8, 8, 8, 8, 8, 8, 8, 8, 8, 8, 8]⟩ : ByteArray).data.toList.getD (Int.toNat (IntKind.wrap .u8 x_3)) 0).toNat : Nat) : Int))))) h_3)
 (fun J_2 =>
 if (decide (x_2 ≥ 256)) = true then
 J_2 (Int.fdiv x_2 (2 ^ min (Int.toNat 8) (IntKind.bits .u64))) (IntKind.wrap .i64 (n_1 + 8)) h_2
 else
 J_2 x_2 n_1 h_2))
 (fun J_1 =>
 if (decide (x_1 ≥ 65536)) = true then
 J_1 (Int.fdiv x_1 (2 ^ min (Int.toNat 16) (IntKind.bits .u64))) (IntKind.wrap .i64 (n + 16)) h_1
 else
 J_1 x_1 n h_1))
 (fun J =>
 if (decide (x ≥ 4294967296)) = true then
 J (Int.fdiv x (2 ^ min (Int.toNat 32) (IntKind.bits .u64))) 32 h
 else
 J x 0 h)) : CallsH Tryz.prog F.math_bits_Len64 #[.int .u64 x] h R :=
 callsH_of_body (.seq .leaf (.seq (.seq .leaf (.join [(0, .one (.int .u64)), (2, .one (.int .i64))] (.cond (.seq .leaf .leaf) .leaf))) (.seq (.seq .leaf (.join [(0, .one (.int .u64)), (2, .one (.int .i64))] (.cond (.seq .leaf .leaf) .leaf))) (.seq (.seq .leaf (.join [(0, .one (.int .u64)), (2, .one (.int .i64))] (.cond (.seq .leaf .leaf) .leaf))) (.seq .leaf .leaf))))) Tryz.func214 rfl rfl (Eq.mp (by kernel_rfl) hv)
end Go.Proofs.YtgccegnmggjkjaaGreatDoor
set_option maxRecDepth 100000
namespace Go.Proofs.YtgccegnmggjkjaaGreatDoor
open Go.Den
namespace Regs
open Eid
variable {h h' : Heap} {R : Value → Heap → Prop} {b : Nat} {X : Ft} {L xs : List Rg} {m n c : Nat} {p : Option Addr}
theorem genc_one (r:Rg): ∀v∈genc r,oneCell v=true:=by
 intro v hv
 simp only[List.mem_cons,List.not_mem_nil,or_false] at hv
 rcases hv with rfl|rfl|rfl|rfl|rfl|rfl|rfl<;>rfl
theorem cmp_ok (x y:Rg) (hk: ∀h',Fr (fun _=>False) h h'→R (.int .i64 (if lessE x.e y.e=true then -1 else 1)) h'):CallsH Tryz.prog F.regs_Table_All_1 #[x.val,y.val] h R:=by
 refine regs_Table_All_1.walk (regs_Reg.box fun b1 h1 e1 hb1 f1=>regs_Reg.box fun b2 h2 e2 hb2 f2=>ld_e (r:=x) (f2.get hb1 id) (ld_e (r:=y) hb2 (less_ok x.e y.e fun h3 f3=>⟨_,rfl, ?_⟩)))
 have K:=hk h3 (f1.tt (f2.tt f3))
 by_cases q:lessE x.e y.e=true
 ·rw[if_pos q];rw[if_pos q] at K;exact K
 ·rw[if_neg q];rw[if_neg q] at K;exact K
theorem tG:SlTy Tryz.prog T.s_regs_Reg T.regs_Reg 7 72 (Rg.zero).val:=⟨by kernel_rfl,by kernel_rfl,rfl⟩
theorem uG:Tryz.prog.underlying T.s_regs_Reg=some (.slice T.regs_Reg):=by kernel_rfl
def unp (x:Ev×Value):Rg:=
 match x.2 with
 | .agg ⟨[_,_,_,_,_, .int _ a, .int _ b]⟩=>⟨x.1,a,b⟩
 |_=> .zero
abbrev KeysNd (xs:List Rg):Prop:=(xs.map Rg.e).Nodup
theorem KeysNd.ne {i j:Nat} {x y:Rg} (hn:KeysNd xs) (hx:xs[i]? =some x) (hy:xs[j]? =some y) (hij:i≠j):x.e≠y.e:=fun e=>by
 apply hij
 have hi:=(List.getElem?_eq_some_iff.1 hx).1
 exact(List.getElem?_inj (l:=xs.map Rg.e) (by simpa using hi) hn).1 (by rw[List.getElem?_map,List.getElem?_map,hx,hy];simp[e])
theorem insertion_ok (o:Own h p n c 7 (xs.flatMap genc)) (hn:n=xs.length) (hl:xs.length≤1000) (nd:KeysNd xs)
  (hk: ∀h' (ys:List Rg),Own h' p n c 7 (ys.flatMap genc)→ys.Perm xs→ys.Pairwise rless→Fr (inBlk p) h h'→R (.tuple #[]) h'):
  CallsH Tryz.prog F.slices_insertionSortCmpFunc_regs_Reg #[.slice p n c, .int .i64 0, .int .i64 (n:Int), .func (.func F.regs_Table_All_1) #[] #[]] h R:=by
 subst hn
 refine slices_insertionSortCmpFunc_regs_Reg.reg.walk ?_
 have plen: ∀ {ys:List Rg},ys.Perm xs→ys.length=xs.length:=fun hp=>hp.length_eq
 refine⟨fun t g=> ∃(i:Nat) (ys:List Rg),t=(i:Int)∧1≤i∧(i≤xs.length∨i=1)∧Own g p xs.length c 7 (ys.flatMap genc)∧ys.Perm xs∧SortedOn rless ys 0 i∧Fr (inBlk p) h g,fun t _=>xs.length - t.toNat,⟨1,xs,by rw[wrap_id (by omega) (by omega)];rfl,by omega, .inr rfl,o, .refl _,SortedOn.small (by omega),Fr.refl _ _⟩, ?_⟩
 rintro _ g ⟨i,ys,rfl,h1,h2,oy,py,sy,fy⟩
 have ly:=plen py
 by_cases hi:i<xs.length
 ·have q1:(i:Int)<((xs.length:Nat):Int):=by omega
  simp only[q1,decide_true,if_true]
  refine⟨fun t g'=> ∃(j:Nat) (zs:List Rg),t=(j:Int)∧j≤i∧Own g' p xs.length c 7 (zs.flatMap genc)∧InsI rless ys zs 0 i j∧Fr (inBlk p) h g',fun t _=>t.toNat,⟨i,ys,rfl,Nat.le_refl _,oy,InsI.start sy,fy⟩, ?_⟩
  rintro _ g2 ⟨j,zs,rfl,hj,oz,Iz,fz⟩
  have pz:=Iz.perm.trans py
  have lz:=plen pz
  have ndz:KeysNd zs:=(pz.map Rg.e).nodup_iff.2 nd
  obtain⟨ab,ao,rfl⟩:=oz.addr (by omega)
  refine JoinP.of fun J hJ=> ?_
  have stop:(j=0∨ ∀x y,zs[j]? =some x→zs[j - 1]? =some y→rless y x)→ ∀g3,Fr (fun _=>False) g2 g3→J false g3:=by
   intro he g3 f3
   subst hJ
   simp only[Bool.false_eq_true,if_false]
   rw[wrap_id (by omega) (by omega)]
   refine⟨⟨i+1,zs,by omega,by omega, .inl (by omega),oz.frame f3 (fun _ _=>id),pz,Iz.stop less_trans (Nat.zero_le _) hj (by omega) he,fz.on f3⟩,by show xs.length - Int.toNat ((i:Int)+1)<xs.length - i;omega⟩
  by_cases hj0:0<j
  ·have q2:(j:Int)>0:=by omega
   have e1:IntKind.wrap .i64 ((j:Int) - 1)=((j - 1:Nat):Int):=by rw[wrap_id (by omega) (by omega)];omega
   have hx:zs[j]? =some (zs[j]'(by omega)):=List.getElem?_eq_getElem _
   have hy:zs[j - 1]? =some (zs[j - 1]'(by omega)):=List.getElem?_eq_getElem _
   generalize zs[j]'(by omega)=x at hx
   generalize zs[j - 1]'(by omega)=y at hy
   simp only[q2,decide_true,if_true,e1,Int.toNat_natCast] at hJ⊢
   refine⟨⟨by omega,by omega⟩,onSome_some.2 (regs_Reg.ldA (oz.heldAt genc_len hx) ⟨⟨by omega,by omega⟩,onSome_some.2 (regs_Reg.ldA (oz.heldAt genc_len hy) (cmp_ok x y fun g3 f3=>⟨_,rfl, ?_⟩))⟩)⟩
   by_cases hl:lessE x.e y.e=true
   ·rw[if_pos hl,decide_eq_true (by omega)]
    have oz3:=oz.frame f3 (fun _ _=>id)
    subst hJ
    simp only[if_true]
    refine⟨⟨by omega,by omega⟩,onSome_some.2 (regs_Reg.ldA (oz3.heldAt genc_len hy) ⟨⟨by omega,by omega⟩,onSome_some.2 (regs_Reg.ldA (oz3.heldAt genc_len hx) ⟨⟨by omega,by omega⟩,onSome_some.2 (regs_Reg.stA (oz3.storeRow genc_len (genc_one y) (by omega) fun g4 o4 s4 q4=>⟨⟨by omega,by omega⟩,onSome_some.2 (regs_Reg.stA (o4.storeRow genc_len (genc_one x) (by rw[List.length_set];omega) fun g5 o5 s5 q5=> ?_))⟩))⟩)⟩)⟩
    have e5:(zs.set j y).set (j - 1) x=swp zs j (j - 1):=swp_eq hx hy
    rw[e5] at o5
    have f5:Fr (inBlk (some ⟨ab,ao,none⟩)) g3 g5:=⟨by omega,fun z _ hn=>by rw[q5 z hn,q4 z hn]⟩
    exact⟨⟨j - 1,_,rfl,by omega,o5,Iz.swap hj0 hj (by omega) hx hy hl,(fz.on f3).tt f5⟩,by show Int.toNat ((j - 1:Nat):Int)<j;omega⟩
   ·rw[if_neg hl,decide_eq_false (by omega)]
    refine stop (.inr fun x' y' hx' hy'=> ?_) g3 f3
    rw[hx] at hx';rw[hy] at hy'
    cases hx';cases hy'
    exact(less_total (ndz.ne hx hy (by omega))).resolve_left hl
  ·have q2: ¬(j:Int)>0:=by omega
   simp only[q2,decide_false,Bool.false_eq_true,if_false]
   exact stop (.inl (by omega)) g2 (Fr.refl _ _)
 ·have q1: ¬(i:Int)<((xs.length:Nat):Int):=by omega
  simp only[q1,decide_false,Bool.false_eq_true,if_false]
  have:SortedOn rless ys 0 ys.length:=by
   rcases h2 with h2|h2
   ·have:i=ys.length:=by omega
    rw[←this];exact sy
   ·exact SortedOn.small (by omega)
  exact hk g ys oy py this.pair fy
theorem len_ok {x:Int} (hk: ∀n:Int,R (.int .i64 n) h):CallsH Tryz.prog F.math_bits_Len #[.int .u64 x] h R:=by
 refine math_bits_Len.walk (math_bits_Len64.walk (JoinP.of fun J hJ=> ?_))
 have w8: ∀n:Int,0≤IntKind.wrap .u8 n∧IntKind.wrap .u8 n<256:=fun n=>by rw[IntKind.wrap_u8];omega
 have k1: ∀y n,J y n h:=by
  intro y n
  subst hJ
  refine JoinP.of fun J hJ=> ?_
  have k2: ∀y n,J y n h:=by
   intro y n
   subst hJ
   refine JoinP.of fun J hJ=> ?_
   have k3: ∀y n,J y n h:=by
    intro y n
    subst hJ
    exact⟨w8 y,_,rfl,hk _⟩
   split
   ·exact k3 _ _
   ·exact k3 _ _
  split
  ·exact k2 _ _
  ·exact k2 _ _
 split
 ·exact k1 _ _
 ·exact k1 _ _
theorem sort_ok (o:Own h p n c 7 (xs.flatMap genc)) (hn:n=xs.length) (hl:xs.length≤12) (nd:KeysNd xs)
  (hk: ∀h' (ys:List Rg),Own h' p n c 7 (ys.flatMap genc)→ys.Perm xs→ys.Pairwise rless→Fr (inBlk p) h h'→R (.tuple #[]) h'):
  CallsH Tryz.prog F.slices_SortFunc_s_regs_Reg_regs_Reg #[.slice p n c, .func (.func F.regs_Table_All_1) #[] #[]] h R:=by
 subst hn
 refine slices_SortFunc_s_regs_Reg_regs_Reg.reg.walk (len_ok fun lim=>⟨_,rfl,slices_pdqsortCmpFunc_regs_Reg.reg.walk ?_⟩)
 refine⟨fun a b l _ _ g=>a=0∧b=((xs.length:Nat):Int)∧l=lim∧g=h,fun _ _ _ _ _ _=>0,⟨rfl,rfl,rfl,rfl⟩, ?_⟩
 rintro _ _ _ wb wp _ ⟨rfl,rfl,rfl,rfl⟩
 refine JoinP.of fun J hJ=> ?_
 rw[wrap_id (by omega) (by omega),if_pos (by simp;omega)]
 exact insertion_ok o rfl (by omega) nd fun h' ys o' p' s' f'=>⟨rfl,rfl,hk h' ys o' p' s' f'⟩
theorem all_ok (H:Tb h b X L) (hl:L.length≤12) (hk: ∀h' p' c',Own h' p' L.length c' 7 (L.flatMap genc)→(∀y,inBlk p' y→h.size≤y)→Fr (fun _=>False) h h'→R (.slice p' L.length c') h'):
  CallsH Tryz.prog F.regs_Table_All #[.pointer (some ⟨b,0,none⟩)] h R:=by
 obtain⟨m,H⟩:=H
 refine regs_Table_All.walk (made_ok H ⟨_,rfl,JoinP.of fun J hJ=> ?_⟩)
 rw[if_pos rfl]
 refine⟨_,cell_at H.blk rfl,den_rangeP mapTy H.map fun it h1 e1 I1 f1=>⟨_,rfl, ?_⟩⟩
 refine⟨fun op ol oc g=> ∃ys:List Rg,ol=ys.length∧Own g op ol oc 7 (ys.flatMap genc)∧(∀y,inBlk op y→h.size≤y∧y≠it)∧Iter g it m ev5 (L.map Rg.pair) (ys.map Rg.pair)∧Fr (fun _=>False) h g,fun _ ol _ _=>L.length - ol,
  ⟨[],rfl, .nil rfl rfl rfl rfl,(fun y ⟨a,e,_⟩=>by cases e),I1,f1⟩, ?_⟩
 rintro op ol oc g ⟨ys,rfl,oy,gy,Iy,fy⟩
 have zy:=fy.1
 have hle:=Iy.le
 rw[List.length_map,List.length_map] at hle
 refine den_nextP Iy (fun hp=> .inl ⟨rfl, ?_⟩) (fun a v g1 hm hnm I1 s1 o1=> .inr ⟨_,_,rfl, ?_⟩)
 ·subst hJ
  dsimp only
  have hperm:ys.Perm L:=by
   have e: ∀l:List Rg,(l.map Rg.pair).map unp=l:=fun l=>by
    rw[List.map_map]
    conv=>rhs;rw[←List.map_id l]
    exact List.map_congr_left (fun r _=>rfl)
   have:=hp.map unp
   rwa[e,e] at this
  have nd:KeysNd ys:=(hperm.map Rg.e).nodup_iff.2 (keys_nodup H.so)
  have hlen:=hperm.length_eq
  refine sort_ok oy rfl (by omega) nd fun h3 zs o3 p3 s3 f3=>⟨rfl, ?_⟩
  have:zs=L:=(List.Perm.eq_of_pairwise (le:=rless) (fun a b _ _ h1 h2=>by have:=less_trans h1 h2;rw[less_irrefl] at this;cases this) s3 H.so (p3.trans hperm))
  subst this
  rw[hlen] at o3⊢
  exact hk h3 op oc o3 (fun y hy=>(gy y hy).1) (fy.fresh f3 (fun y hy=>(gy y hy).1))
 ·obtain⟨r,hr,e⟩:=List.mem_map.1 hm
  have ea:a=r.e:=(congrArg Prod.fst e).symm
  have ev:v=r.val:=(congrArg Prod.snd e).symm
  subst ea ev
  refine den_entryP I1 ⟨_,_,rfl,_,_,_,_,_,_,_,rfl,regs_Reg.new fun b2 g2 e2 hb2 f2=>regs_Reg.ld hb2 (newP_of ?_)⟩
  have f3:Fr (fun _=>False) g2 (g2.push (.cells #[.bool r.e.ipn, .int .u64 r.e.node, .int .u64 r.e.svc, .string r.e.host, .string r.e.dem, .int .i64 r.pol, .int .i64 r.own] T.regs_Reg)):=Fr.push _ _
  have r3:Row (g2.push (.cells #[.bool r.e.ipn, .int .u64 r.e.node, .int .u64 r.e.svc, .string r.e.host, .string r.e.dem, .int .i64 r.pol, .int .i64 r.own] T.regs_Reg)) (some ⟨g2.size,0,none⟩) (genc r):=row_new (cs:=genc r)
  generalize g2.push (.cells #[.bool r.e.ipn, .int .u64 r.e.node, .int .u64 r.e.svc, .string r.e.host, .string r.e.dem, .int .i64 r.pol, .int .i64 r.own] T.regs_Reg)=g3 at f3 r3⊢
  have fit:Fr (fun y=>y=it) g g1:=⟨by omega,fun y _ hn=>o1 y hn⟩
  have oy1:=(oy.frame fit (fun y hy e=>(gy y hy).2 e)).frame (f2.tt f3) (fun _ _=>id)
  have F1:Fr (fun _=>False) h g1:=fy.fresh fit (fun y e=>by have:=f1.1;omega)
  have F3:=F1.tt (f2.tt f3)
  have hsz:g1.size≤g3.size:=(f2.tt f3).1
  have itlt:it<g1.size:=by
   obtain⟨_,_,_,_,_,_,hr,_⟩:=I1
   exact lt_of_get hr
  refine den_append (cs:=ys.flatMap genc) (ds:=genc r) tG uG oy1 r3 rfl (genc_one r) (by omega) (by omega) fun p4 c4 g4 o4 _ f4 k4=>⟨_,_,_,rfl, ?_⟩
  have hp4: ∀y,inBlk p4 y→h.size≤y∧y≠it:=by
   intro y hy
   rcases k4 y hy with h5|h5
   ·exact gy y h5
   ·have:=F1.1;exact⟨by omega,by omega⟩
  refine⟨⟨ys++ [r],by simp, ?_,hp4, ?_,F3.fresh f4 (fun y hy=>(gy y hy).1)⟩, ?_⟩
  ·rw[List.flatMap_append,List.flatMap_singleton];exact o4
  ·rw[List.map_append]
   have hmb:m<h.size:=H.map.lt
   exact(I1.frame (f2.tt f3) id id).frame f4 (fun hy=>(gy it hy).2 rfl) (fun hy=>by have:=(gy m hy).1;omega)
  ·have:=I1.le
   rw[List.length_append,List.length_map,List.length_map,List.length_singleton] at this
   show L.length - (ys.length+1)<L.length - ys.length
   omega
end Regs
end Go.Proofs.YtgccegnmggjkjaaGreatDoor
set_option maxRecDepth 100000
set_option maxHeartbeats 4000000
namespace Go.Proofs.YtgccegnmggjkjaaGreatDoor
open Go.Den
variable {h : Heap} {R : Value → Heap → Prop}
theorem ref15_Num.walk {n : Int} (hv :
 ∃ (I : Int → Option Addr → Nat → Nat → Heap → Prop) (mu : Int → Option Addr → Nat → Nat → Heap → Nat), I n none 0 0 h ∧ ∀ (n_1 : Int) (out_p : Option Addr) (out_l out_c : Nat) (h_1 : Heap), I n_1 out_p out_l out_c h_1 →
 if (decide (n_1 > 127)) = true then
 NewP h_1 (.cells #[.int .u8 (IntKind.wrap .u8 (IntKind.wrap .u64 (128 + (Int.tmod n_1 128))))] T.uint8) fun b h_2 =>
 denSem Tryz.prog (Builtin.append_ #[T.s_uint8, T.s_uint8] T.s_uint8 #[.slice out_p out_l out_c, .slice (some ⟨b, 0, none⟩) 1 1]) h_2 fun v h_3 =>
 ∃ t12_p t12_l t12_c, v = .slice t12_p t12_l t12_c ∧
 (I (IntKind.wrap .u64 (Int.tdiv n_1 128)) t12_p t12_l t12_c h_3 ∧ mu (IntKind.wrap .u64 (Int.tdiv n_1 128)) t12_p t12_l t12_c h_3 < mu n_1 out_p out_l out_c h_1)
 else
 NewP h_1 (.cells #[.int .u8 (IntKind.wrap .u8 n_1)] T.uint8) fun b_1 h_4 =>
 denSem Tryz.prog (Builtin.append_ #[T.s_uint8, T.s_uint8] T.s_uint8 #[.slice out_p out_l out_c, .slice (some ⟨b_1, 0, none⟩) 1 1]) h_4 fun v_1 h_5 =>
 ∃ t19_p t19_l t19_c, v_1 = .slice t19_p t19_l t19_c ∧
 R (.slice t19_p t19_l t19_c) h_5) : CallsH Tryz.prog F.ref15_Num #[.int .u64 n] h R :=
 callsH_of_body (.seq .leaf (.seq .leaf (.seq (.block (.loop [(0, .one (.int .u64)), (3, .one (.slice))] (.seq (.seq .leaf (.cond .leaf .leaf)) (.block (.seq .leaf .leaf))))) (.seq .leaf .leaf)))) Tryz.func82 rfl rfl (Eq.mp (by kernel_rfl) hv)
theorem ref15_Text.walk {b_p : Option Addr} {b_l b_c : Nat} (hv :
 Cl F.ref15_Num #[.int .u64 (IntKind.wrap .u64 ((b_l : Nat) : Int))] h fun v h_1 =>
 ∃ t6_p t6_l t6_c, v = .slice t6_p t6_l t6_c ∧
 denSem Tryz.prog (Builtin.append_ #[T.s_uint8, T.s_uint8] T.s_uint8 #[.slice t6_p t6_l t6_c, .slice b_p b_l b_c]) h_1 fun v_1 h_2 =>
 ∃ t8_p t8_l t8_c, v_1 = .slice t8_p t8_l t8_c ∧
 R (.slice t8_p t8_l t8_c) h_2) : CallsH Tryz.prog F.ref15_Text #[.slice b_p b_l b_c] h R :=
 callsH_of_body (.seq .leaf (.seq .leaf .leaf)) Tryz.func80 rfl rfl (Eq.mp (by kernel_rfl) hv)
end Go.Proofs.YtgccegnmggjkjaaGreatDoor
set_option maxRecDepth 100000
namespace Go.Proofs.YtgccegnmggjkjaaGreatDoor
open Go.Den Go.Fields
namespace Fld
variable {h h0 : Heap} {w r : Nat} {S : Nat → Prop} {bs : List UInt8} {e : Int} {R : Value → Heap → Prop}
def refI (h0:Heap) (n0:Nat) (n:Int) (p:Option Addr) (l c:Nat) (h:Heap):Prop:=
 ∃(m:Nat) (d:List UInt8),n=(m:Int)∧m<18446744073709551616∧l=d.length∧Own h p l c 1 (bc d)∧d++encNum m=encNum n0∧Up h0 (inBlk p) h
theorem refByte (m:Nat):IntKind.wrap .u8 (IntKind.wrap .u64 (128+(Int.tmod (m:Int) 128)))=((UInt8.ofNat (m%128+128)).toNat:Int):=by
 have e1:Int.tmod (m:Int) 128=((m%128:Nat):Int):=by rw[Int.tmod_eq_emod_of_nonneg (by omega)];omega
 rw[e1,wrap_u64 (by omega) (by omega),UInt8.toNat_ofNat',wrap_u8 (by omega) (by omega)];omega
theorem Up.app {h0 h h':Heap} {p p':Option Addr} (u:Up h0 (inBlk p) h) (f:Fr (inBlk p) h h') (g: ∀c,inBlk p' c→inBlk p c∨h.size≤c):Up h0 (inBlk p') h':=
 u.step ⟨f,g⟩
theorem refNum_ok {n:Int} (k:Nat) (e:n=(k:Int)) (hn:k<18446744073709551616) (hk: ∀p c h',Own h' p (encNum k).length c 1 (bc (encNum k))→Up h (inBlk p) h'→R (.slice p (encNum k).length c) h'):
  CallsH Tryz.prog F.ref15_Num #[.int .u64 n] h R:=by
 subst e
 refine ref15_Num.walk ⟨refI h k,fun n _ _ _ _=>n.toNat,⟨k, [],rfl,hn,rfl, .nil rfl rfl rfl rfl,rfl,⟨Fr.refl _ _,fun c ⟨a,e,_⟩=>by cases e⟩⟩, ?_⟩
 rintro _ p _ c h1 ⟨m,d,rfl,hm,rfl,o,hd,u⟩
 have hdl:d.length≤10:=by
  have:=congrArg List.length hd
  rw[List.length_append] at this
  have:=(encNum_len k).2
  omega
 by_cases hgt:(m:Int)>127
 ·simp only[hgt,decide_true,if_true]
  rw[refByte]
  refine den_append1 tU uU o rfl (fun v hv=>by simp at hv;subst hv;rfl) (by omega) (by omega) ?_
  intro p' c' h2 o2 f2 g2
  have e2:IntKind.wrap .u64 (Int.tdiv (m:Int) 128)=((m/128:Nat):Int):=by
   rw[Int.tdiv_eq_ediv_of_nonneg (by omega),wrap_u64 (by omega) (by omega)];omega
  rw[e2]
  refine⟨_,_,_,rfl,⟨m/128,d++ [UInt8.ofNat (m%128+128)],rfl,by omega,by simp,by rw[bc_append];exact o2, ?_,Up.app u f2 g2⟩, ?_⟩
  ·rw[←hd,encNum_step hm,if_pos (by omega)];simp
  ·show Int.toNat ((m/128:Nat):Int)<Int.toNat (m:Int)
   omega
 ·simp only[hgt,decide_false,Bool.false_eq_true,if_false]
  have e3:IntKind.wrap .u8 (m:Int)=((UInt8.ofNat m).toNat:Int):=by rw[wrap_u8_nat,UInt8.toNat_ofNat']
  rw[e3]
  refine den_append1 tU uU o rfl (fun v hv=>by simp at hv;subst hv;rfl) (by omega) (by omega) ?_
  intro p' c' h2 o2 f2 g2
  have e4:d++ [UInt8.ofNat m]=encNum k:=by rw[←hd,encNum_step hm,if_neg (by omega)]
  have e5:d.length+1=(encNum k).length:=by rw[←e4];simp
  rw[e5] at o2⊢
  refine⟨_,_,_,rfl,hk p' c' h2 ?_ (Up.app u f2 g2)⟩
  rw[←e4,bc_append,e4];exact o2
theorem refText_ok {p:Option Addr} {n c:Nat} {t:List UInt8} (hr:Row h p (bc t)) (hn:n=t.length) (ht:t.length≤1099511627776) (hk: ∀p c h',Own h' p (encText t).length c 1 (bc (encText t))→Up h (inBlk p) h'→R (.slice p (encText t).length c) h'):
  CallsH Tryz.prog F.ref15_Text #[.slice p n c] h R:=by
 subst hn
 refine ref15_Text.walk (refNum_ok t.length (wrap_u64 (by omega) (by omega)) (by omega) fun q d h1 o1 u1=>⟨_,_,_,rfl, ?_⟩)
 have hlen:=(encNum_len t.length).2
 refine den_append tU uU o1 (hr.frame u1.fr (fun _ _=>id)) (by rw[bc_len,Nat.mul_one]) (bc_one t) (by omega) (by omega) ?_
 intro p' c' h' o2 _ f2 g
 have e:(encNum t.length).length+t.length=(encText t).length:=by unfold encText;rw[List.length_append]
 rw[e] at o2⊢
 refine⟨_,_,_,rfl,hk p' c' h' ?_ (Up.app u1 f2 g)⟩
 unfold encText;rw[bc_append];exact o2
end Fld
end Go.Proofs.YtgccegnmggjkjaaGreatDoor
set_option maxRecDepth 100000
set_option maxHeartbeats 4000000
namespace Go.Proofs.YtgccegnmggjkjaaGreatDoor
open Go.Den
variable {h : Heap} {R : Value → Heap → Prop}
theorem regs_Table_Save.walk {t : Nat} (hv :
 Cl F.regs_Table_All #[.pointer (some ⟨t, 0, none⟩)] h fun v h_1 =>
 ∃ t7_p t7_l t7_c, v = .slice t7_p t7_l t7_c ∧
 ∃ (I : Option Addr → Nat → Nat → Int → Heap → Prop) (mu : Option Addr → Nat → Nat → Int → Heap → Nat), I none 0 0 0 h_1 ∧ ∀ (out_p : Option Addr) (out_l out_c : Nat) (t9 : Int) (h_2 : Heap), I out_p out_l out_c t9 h_2 →
 if (decide (t9 < ((t7_l : Nat) : Int))) = true then
 ((0 : Int) ≤ t9 ∧ t9 < ((t7_l : Nat) : Int)) ∧
 onSome t7_p fun a =>
 regs_Reg.LD h_2 (a.add (Int.toNat t9 * 7)) fun t12_0 t12_1 t12_2 t12_3 t12_4 t12_5 t12_6 =>
 NewP h_2 (.cells #[.bool false, .int .u64 0, .int .u64 0, .string (⟨#[]⟩ : ByteArray), .string (⟨#[]⟩ : ByteArray), .int .i64 0, .int .i64 0] T.regs_Reg) fun b h_3 =>
 regs_Reg.ST h_3 ⟨b, 0, none⟩ t12_0 t12_1 t12_2 t12_3 t12_4 t12_5 t12_6 fun h_4 =>
 regs_Reg.LD h_4 ⟨b, 0, none⟩ fun t14_0 t14_1 t14_2 t14_3 t14_4 t14_5 t14_6 =>
 Cl F.regs_record #[.agg #[.bool t14_0, .int .u64 t14_1, .int .u64 t14_2, .string t14_3, .string t14_4, .int .i64 t14_5, .int .i64 t14_6]] h_4 fun v_1 h_5 =>
 ∃ t15_p t15_l t15_c, v_1 = .slice t15_p t15_l t15_c ∧
 NewP h_5 (.cells #[.slice t15_p t15_l t15_c] T.s_uint8) fun b_1 h_6 =>
 denSem Tryz.prog (Builtin.append_ #[T.s_s_uint8, T.s_s_uint8] T.s_s_uint8 #[.slice out_p out_l out_c, .slice (some ⟨b_1, 0, none⟩) 1 1]) h_6 fun v_2 h_7 =>
 ∃ t17_p t17_l t17_c, v_2 = .slice t17_p t17_l t17_c ∧
 (I t17_p t17_l t17_c (IntKind.wrap .i64 (t9 + 1)) h_7 ∧ mu t17_p t17_l t17_c (IntKind.wrap .i64 (t9 + 1)) h_7 < mu out_p out_l out_c t9 h_2)
 else
 R (.slice out_p out_l out_c) h_2) : CallsH Tryz.prog F.regs_Table_Save #[.pointer (some ⟨t, 0, none⟩)] h R :=
 callsH_of_body (.seq .leaf (.seq .leaf (.seq (.seq .leaf (.block (.loop [(3, .one (.slice)), (9, .one (.int .i64))] (.seq .leaf (.seq (.cond .leaf .leaf) (.seq (.block (.seq .leaf .leaf)) .leaf)))))) (.seq .leaf .leaf)))) Tryz.func35 rfl rfl (Eq.mp (by kernel_rfl) hv)
theorem ref22_Table_Save.walk {t : Nat} (hv :
 ∃ (I : Option Addr → Nat → Nat → Int → Heap → Prop) (mu : Option Addr → Nat → Nat → Int → Heap → Nat), I none 0 0 0 h ∧ ∀ (out_p : Option Addr) (out_l out_c : Nat) (i : Int) (h_1 : Heap), I out_p out_l out_c i h_1 →
 ∃ t10_p t10_l t10_c, hcell h_1 ⟨t, 0, none⟩ = some (.slice t10_p t10_l t10_c) ∧
 if (decide (i < ((t10_l : Nat) : Int))) = true then
 ∃ t18_p t18_l t18_c, hcell h_1 ⟨t, 0, none⟩ = some (.slice t18_p t18_l t18_c) ∧
 ((0 : Int) ≤ i ∧ i < ((t18_l : Nat) : Int)) ∧
 onSome t18_p fun a =>
 ref04_Eid.LD h_1 (a.add (Int.toNat i * 7)) fun t22_0 t22_1 t22_2 t22_3 t22_4 =>
 Cl F.ref04_Text #[.agg #[.bool t22_0, .int .u64 t22_1, .int .u64 t22_2, .string t22_3, .string t22_4]] h_1 fun v h_2 =>
 ∃ t23, v = .string t23 ∧
 denSem Tryz.prog (convert T.string T.s_uint8 (.string t23)) h_2 fun v_1 h_3 =>
 ∃ t24_p t24_l t24_c, v_1 = .slice t24_p t24_l t24_c ∧
 Cl F.ref15_Text #[.slice t24_p t24_l t24_c] h_3 fun v_2 h_4 =>
 ∃ t25_p t25_l t25_c, v_2 = .slice t25_p t25_l t25_c ∧
 ∃ t30_p t30_l t30_c, hcell h_4 ⟨t, 0, none⟩ = some (.slice t30_p t30_l t30_c) ∧
 ((0 : Int) ≤ i ∧ i < ((t30_l : Nat) : Int)) ∧
 onSome t30_p fun a_1 =>
 ∃ t34, hcell h_4 ((a_1.add (Int.toNat i * 7)).add 5) = some (.int .i64 t34) ∧
 Cl F.ref15_Num #[.int .u64 (IntKind.wrap .u64 t34)] h_4 fun v_3 h_5 =>
 ∃ t36_p t36_l t36_c, v_3 = .slice t36_p t36_l t36_c ∧
 denSem Tryz.prog (Builtin.append_ #[T.s_uint8, T.s_uint8] T.s_uint8 #[.slice t25_p t25_l t25_c, .slice t36_p t36_l t36_c]) h_5 fun v_4 h_6 =>
 ∃ t37_p t37_l t37_c, v_4 = .slice t37_p t37_l t37_c ∧
 ∃ t43_p t43_l t43_c, hcell h_6 ⟨t, 0, none⟩ = some (.slice t43_p t43_l t43_c) ∧
 ((0 : Int) ≤ i ∧ i < ((t43_l : Nat) : Int)) ∧
 onSome t43_p fun a_2 =>
 ∃ t47, hcell h_6 ((a_2.add (Int.toNat i * 7)).add 6) = some (.int .i64 t47) ∧
 Cl F.ref15_Num #[.int .u64 (IntKind.wrap .u64 t47)] h_6 fun v_5 h_7 =>
 ∃ t49_p t49_l t49_c, v_5 = .slice t49_p t49_l t49_c ∧
 denSem Tryz.prog (Builtin.append_ #[T.s_uint8, T.s_uint8] T.s_uint8 #[.slice t37_p t37_l t37_c, .slice t49_p t49_l t49_c]) h_7 fun v_6 h_8 =>
 ∃ t50_p t50_l t50_c, v_6 = .slice t50_p t50_l t50_c ∧
 NewP h_8 (.cells #[.slice t50_p t50_l t50_c] T.s_uint8) fun b h_9 =>
 denSem Tryz.prog (Builtin.append_ #[T.s_s_uint8, T.s_s_uint8] T.s_s_uint8 #[.slice out_p out_l out_c, .slice (some ⟨b, 0, none⟩) 1 1]) h_9 fun v_7 h_10 =>
 ∃ t52_p t52_l t52_c, v_7 = .slice t52_p t52_l t52_c ∧
 (I t52_p t52_l t52_c (IntKind.wrap .i64 (i + 1)) h_10 ∧ mu t52_p t52_l t52_c (IntKind.wrap .i64 (i + 1)) h_10 < mu out_p out_l out_c i h_1)
 else
 R (.slice out_p out_l out_c) h_1) : CallsH Tryz.prog F.ref22_Table_Save #[.pointer (some ⟨t, 0, none⟩)] h R :=
 callsH_of_body (.seq .leaf (.seq .leaf (.seq (.seq .leaf (.block (.loop [(3, .one (.slice)), (4, .one (.int .i64))] (.seq (.seq .leaf (.cond .leaf .leaf)) (.seq (.block (.seq .leaf (.seq .leaf .leaf))) .leaf))))) (.seq .leaf .leaf)))) Tryz.func169 rfl rfl (Eq.mp (by kernel_rfl) hv)
theorem regs_record.walk {r_0 : Bool} {r_1 : Int} {r_2 : Int} {r_3 : ByteArray} {r_4 : ByteArray} {r_5 : Int} {r_6 : Int} (hv :
 NewP h (.cells #[.bool r_0, .int .u64 r_1, .int .u64 r_2, .string r_3, .string r_4, .int .i64 r_5, .int .i64 r_6] T.regs_Reg) fun b h_1 =>
 eid_Eid.LD h_1 ⟨b, 0, none⟩ fun t7_0 t7_1 t7_2 t7_3 t7_4 =>
 Cl F.eid_Text #[.agg #[.bool t7_0, .int .u64 t7_1, .int .u64 t7_2, .string t7_3, .string t7_4]] h_1 fun v h_2 =>
 ∃ t8_0 t8_1, v = .tuple #[.string t8_0, .int .i64 t8_1] ∧
 ∃ t16, hcell h_2 ⟨b, 5, none⟩ = some (.int .i64 t16) ∧
 ∃ t19, hcell h_2 ⟨b, 6, none⟩ = some (.int .i64 t19) ∧
 (Cl F.fields_New #[] h_2 fun v_1 h_3 =>
 ∃ t11, v_1 = .pointer t11 ∧
 hcell h_3 ⟨b, 6, none⟩ = some (.int .i64 t19) ∧
 hcell h_3 ⟨b, 5, none⟩ = some (.int .i64 t16) ∧
 denSem Tryz.prog (convert T.string T.s_uint8 (.string t8_0)) h_3 fun v_2 h_4 =>
 ∃ t13_p t13_l t13_c, v_2 = .slice t13_p t13_l t13_c ∧
 hcell h_4 ⟨b, 6, none⟩ = some (.int .i64 t19) ∧
 hcell h_4 ⟨b, 5, none⟩ = some (.int .i64 t16) ∧
 Cl F.fields_Writer_Text #[.pointer t11, .slice t13_p t13_l t13_c] h_4 fun v_3 h_5 =>
 ∃ t14, v_3 = .pointer t14 ∧
 hcell h_5 ⟨b, 6, none⟩ = some (.int .i64 t19) ∧
 hcell h_5 ⟨b, 5, none⟩ = some (.int .i64 t16) ∧
 Cl F.fields_Writer_Int #[.pointer t14, .int .i64 t16] h_5 fun v_4 h_6 =>
 ∃ t17, v_4 = .pointer t17 ∧
 hcell h_6 ⟨b, 6, none⟩ = some (.int .i64 t19) ∧
 Cl F.fields_Writer_Int #[.pointer t17, .int .i64 t19] h_6 fun v_5 h_7 =>
 ∃ t20, v_5 = .pointer t20 ∧
 Cl F.fields_Writer_Bytes #[.pointer t20] h_7 fun v_6 h_8 =>
 ∃ t21_p t21_l t21_c, v_6 = .slice t21_p t21_l t21_c ∧
 R (.slice t21_p t21_l t21_c) h_8) ∧
 (denSem Tryz.prog (convert T.string T.s_uint8 (.string t8_0)) h_2 fun v_7 h_9 =>
 ∃ t13_p_1 t13_l_1 t13_c_1, v_7 = .slice t13_p_1 t13_l_1 t13_c_1 ∧
 hcell h_9 ⟨b, 6, none⟩ = some (.int .i64 t19) ∧
 hcell h_9 ⟨b, 5, none⟩ = some (.int .i64 t16) ∧
 Cl F.fields_New #[] h_9 fun v_8 h_10 =>
 ∃ t11_1, v_8 = .pointer t11_1 ∧
 hcell h_10 ⟨b, 6, none⟩ = some (.int .i64 t19) ∧
 hcell h_10 ⟨b, 5, none⟩ = some (.int .i64 t16) ∧
 Cl F.fields_Writer_Text #[.pointer t11_1, .slice t13_p_1 t13_l_1 t13_c_1] h_10 fun v_9 h_11 =>
 ∃ t14_1, v_9 = .pointer t14_1 ∧
 hcell h_11 ⟨b, 6, none⟩ = some (.int .i64 t19) ∧
 hcell h_11 ⟨b, 5, none⟩ = some (.int .i64 t16) ∧
 Cl F.fields_Writer_Int #[.pointer t14_1, .int .i64 t16] h_11 fun v_10 h_12 =>
 ∃ t17_1, v_10 = .pointer t17_1 ∧
 hcell h_12 ⟨b, 6, none⟩ = some (.int .i64 t19) ∧
 Cl F.fields_Writer_Int #[.pointer t17_1, .int .i64 t19] h_12 fun v_11 h_13 =>
 ∃ t20_1, v_11 = .pointer t20_1 ∧
 Cl F.fields_Writer_Bytes #[.pointer t20_1] h_13 fun v_12 h_14 =>
 ∃ t21_p_1 t21_l_1 t21_c_1, v_12 = .slice t21_p_1 t21_l_1 t21_c_1 ∧
 R (.slice t21_p_1 t21_l_1 t21_c_1) h_14) ∧
 True) : CallsH Tryz.prog F.regs_record #[.agg #[.bool r_0, .int .u64 r_1, .int .u64 r_2, .string r_3, .string r_4, .int .i64 r_5, .int .i64 r_6]] h R :=
 callsH_of_body (.seq .leaf (.seq .leaf (.seq (.plan (.op 1 (.op 4 (.op 5 (.op 7 (.op 8 (.alts (.fork 0 (.op 2 (.op 3 (.op 6 (.op 9 (.op 10 (.op 11 .done)))))) (.fork 2 (.op 0 (.op 3 (.op 6 (.op 9 (.op 10 (.op 11 .done)))))) .noalt))))))))) .leaf))) Tryz.func94 rfl rfl (Eq.mp (by kernel_rfl) hv)
end Go.Proofs.YtgccegnmggjkjaaGreatDoor
set_option maxRecDepth 100000
namespace Go.Proofs.YtgccegnmggjkjaaGreatDoor
open Go.Den Go.Fields
namespace Regs
open Eid Fld
variable {h h' : Heap} {R : Value → Heap → Prop} {b x : Nat} {X Y : Ft} {L L' : List Rg} {p : Option Addr} {c n i : Nat} {r : Rg}
def recR (r:Rg):List UInt8:=encText (textE r.e)++encNum (natOf r.pol)++encNum (natOf r.own)
structure okR (r:Rg):Prop where
 rt:rightR r=true
 sv:0≤r.e.svc
theorem okR.e (k:okR r):rightE r.e=true∧0≤r.pol∧r.pol≤2∧1≤r.own∧r.own≤1099511627776:=by
 have:=k.rt
 unfold rightR at this
 simp only[Bool.and_eq_true,Bool.not_eq_true',decide_eq_true_eq,decide_eq_false_iff_not] at this
 exact⟨this.1,this.2.2.1.1,this.2.2.1.2,this.2.2.2.1,this.2.2.2.2⟩
theorem recR_len (k:okR r):(recR r).length≤200:=by
 have l0:=text_len k.e.1 k.sv
 have l1:=(encNum_len (textE r.e).length).2
 have l2:=(encNum_len (natOf r.pol)).2
 have l3:=(encNum_len (natOf r.own)).2
 unfold recR encText
 simp only[List.length_append];omega
theorem record_ok (k:okR r) (tb:Num.Tab h) (hk: ∀p' c' h',Own h' p' (recR r).length c' 1 (bc (recR r))→Fr (fun _=>False) h h'→(∀y,inBlk p' y→h.size≤y)→R (.slice p' (recR r).length c') h'):CallsH Tryz.prog F.regs_record #[r.val] h R:=by
 have ke:=k.e
 refine regs_record.walk (regs_Reg.box fun b h1 eb hb f1=>ld_e hb (Eid.text_ok r.e (tb.on f1) k.sv fun h2 f2=> ?_))
 simp only[ke.1,if_true]
 refine⟨_,_,rfl, ?_⟩
 have hb2:r.at h2 b:=f2.get hb id
 have F2:=f1.tt f2
 have l0:=text_len ke.1 k.sv
 have sz:(str (textE r.e)).size=(textE r.e).length:=str_size _
 have dt:(str (textE r.e)).data.toList=textE r.e:=by unfold str;simp
 have tail: ∀g (w:Nat) (S:Nat→Prop) q d,Fr (fun _=>False) h2 g→Wr g w S []→(∀y,S y→h2.size≤y)→Row g q (bc (textE r.e))→(∀y,inBlk q y→ ¬S y)→hcell g ⟨b,6,none⟩=some (.int .i64 r.own)∧hcell g ⟨b,5,none⟩=some (.int .i64 r.pol)∧CallsH Tryz.prog F.fields_Writer_Text #[.pointer (some ⟨w,0,none⟩), .slice q (str (textE r.e)).size d] g fun v_3 h_5=>
   ∃(t14:Option Addr),v_3= .pointer t14∧
   hcell h_5 ⟨b,6,none⟩=some (.int .i64 r.own)∧
   hcell h_5 ⟨b,5,none⟩=some (.int .i64 r.pol)∧
   CallsH Tryz.prog F.fields_Writer_Int #[.pointer t14, .int .i64 r.pol] h_5 fun v_4 h_6=>
   ∃(t17:Option Addr),v_4= .pointer t17∧
   hcell h_6 ⟨b,6,none⟩=some (.int .i64 r.own)∧
   CallsH Tryz.prog F.fields_Writer_Int #[.pointer t17, .int .i64 r.own] h_6 fun v_5 h_7=>
   ∃(t20:Option Addr),v_5= .pointer t20∧
   CallsH Tryz.prog F.fields_Writer_Bytes #[.pointer t20] h_7 fun v_6 h_8=>
   ∃(t21_p:Option Addr) (t21_l t21_c:Nat),v_6= .slice t21_p t21_l t21_c∧
   R (.slice t21_p t21_l t21_c) h_8:=by
  intro g w S q d fg W hS row hq
  have bS: ∀ {S':Nat→Prop},(∀y,S' y→h2.size≤y)→ ¬S' b:=fun hh hn=>by have:=hh b hn;have:=lt_of_get hb2;omega
  have hbg:r.at g b:=fg.get hb2 id
  have zg:=fg.1
  refine⟨cell_at hbg rfl,cell_at hbg rfl,Fld.text_ok W (by simp) row sz (by omega) hq fun g1 S1 W1 st1=> ?_⟩
  have hS1: ∀y,S1 y→h2.size≤y:=fun y hy=>(st1.new y hy).elim (hS y) (fun h1=>by omega)
  have hb1:r.at g1 b:=st1.fr.get hbg (bS hS)
  have z1:=st1.fr.1
  have lt:=text_len ke.1 k.sv
  have l1:=(encNum_len (textE r.e).length).2
  have l2:=(encNum_len (natOf r.pol)).2
  have l3:=(encNum_len (natOf r.own)).2
  have el:(encText (textE r.e)).length=(encNum (textE r.e).length).length+(textE r.e).length:=by unfold encText;rw[List.length_append]
  refine⟨_,rfl,cell_at hb1 rfl,cell_at hb1 rfl,int_ok W1 (by rw[List.nil_append];omega) (by omega) fun g2 S2 W2 st2=>⟨_,rfl, ?_⟩⟩
  have hS2: ∀y,S2 y→h2.size≤y:=fun y hy=>(st2.new y hy).elim (hS1 y) (fun h1=>by omega)
  have hb2':r.at g2 b:=st2.fr.get hb1 (bS hS1)
  have z2:=st2.fr.1
  refine⟨cell_at hb2' rfl,int_ok W2 (by rw[List.nil_append,List.length_append];omega) (by omega) fun g3 S3 W3 st3=>⟨_,rfl, ?_⟩⟩
  have hS3: ∀y,S3 y→h2.size≤y:=fun y hy=>(st3.new y hy).elim (hS2 y) (fun h1=>by omega)
  have er: []++encText (textE r.e)++encNum (natOf r.pol)++encNum (natOf r.own)=recR r:=by unfold recR;rw[List.nil_append]
  rw[er] at W3
  have lr:=recR_len k
  refine bytes_ok W3 (by omega) fun p4 c4 g4 o4 f4 n4=>⟨_,_,_,rfl, ?_⟩
  have F3:Fr (fun _=>False) h2 g3:=((fg.fresh st1.fr hS).fresh st2.fr hS1).fresh st3.fr hS2
  have z3:=F3.1
  have zz:=F2.1
  exact hk p4 c4 g4 o4 (F2.tt (F3.tt f4)) (fun y hy=>by have:=n4 y hy;omega)
 refine⟨_,cell_at hb2 rfl,_,cell_at hb2 rfl,Fld.new_ok fun h3 w S W f3 n3=>⟨_,rfl,cell_at (f3.get hb2 id) rfl,cell_at (f3.get hb2 id) rfl,s2b fun q d h4 row cq f4 n4=>⟨_,_,_,rfl, ?_⟩⟩,s2b fun q d h3 row cq f3 n3=>⟨_,_,_,rfl,cell_at (f3.get hb2 id) rfl,cell_at (f3.get hb2 id) rfl,Fld.new_ok fun h4 w S W f4 n4=>⟨_,rfl, ?_⟩⟩,trivial⟩
 ·rw[dt] at row
  exact tail h4 w S q d (f3.tt f4) (W.frame f4 (fun _ _=>id)) n3 row (fun y hy hs=>by have:=n4 y hy;have:=W.lt y hs;omega)
 ·rw[dt] at row
  have z3:=f3.1
  refine tail h4 w S q d (f3.tt f4) W (fun y hy=>by have:=n4 y hy;omega) (row.frame f4 (fun _ _=>id)) (fun y hy hs=> ?_)
  have h1:=n4 y hs
  have h2:=row_lt row (by unfold textE;intro e;have:=congrArg List.length e;rw[bc_len] at this;revert this;split<;>(try split)<;>simp) hy
  omega
theorem save_ok (H:Tb h b X L) (hl:L.length≤12) (ok: ∀r∈L,okR r) (tb:Num.Tab h) (hk: ∀h' p' l' c',BL h h' p' l' c' (L.map recR)→Fr (fun _=>False) h h'→R (.slice p' l' c') h'):CallsH Tryz.prog F.regs_Table_Save #[.pointer (some ⟨b,0,none⟩)] h R:=by
 refine regs_Table_Save.walk (all_ok H hl fun h1 p1 c1 o1 n1 f1=>⟨_,_,_,rfl, ?_⟩)
 refine⟨fun op ol oc t g=> ∃k:Nat,t=(k:Int)∧k≤L.length∧BL h1 g op ol oc ((L.take k).map recR)∧Fr (fun _=>False) h1 g,fun _ _ _ t _=>L.length - t.toNat,⟨0,rfl,by omega,by simpa using BL.nil,Fr.refl _ _⟩, ?_⟩
 rintro op ol oc _ g ⟨k,rfl,hkn,B,fg⟩
 by_cases hlt:k<L.length
 ·have q1:(k:Int)<((L.length:Nat):Int):=by omega
  simp only[q1,decide_true,if_true,Int.toNat_natCast]
  have hx:L[k]? =some L[k]:=List.getElem?_eq_getElem hlt
  generalize L[k]=v at hx
  have og:=o1.frame fg (fun _ _=>id)
  obtain⟨ab,aoff,rfl⟩:=og.addr (by omega)
  refine⟨⟨by first|trivial|omega,by first|trivial|omega⟩,onSome_some.2 (regs_Reg.ldA (og.heldAt genc_len hx) (regs_Reg.new fun b2 h2 e2 hb2 f2=>regs_Reg.ld hb2 ?_))⟩
  have F2:=f1.tt (fg.tt f2)
  refine record_ok (r:=v) (ok v (List.mem_of_getElem? hx)) (tb.on F2) fun p3 c3 h3 o3 f3 n3=>⟨_,_,_,rfl, ?_⟩
  have z1:=fg.1
  have z2:=f2.1
  have bl:=B.len
  rw[List.length_map,List.length_take] at bl
  have F3:=f2.tt f3
  refine(B.on F3).push (by have:=F3.1;omega) o3 (fun y hy=>⟨by have:=n3 y hy;omega,fun ho=>by have:=B.lt ho;have:=n3 y hy;omega⟩) (by omega) fun p4 c4 h4 B4 f4 g4=>⟨_,_,_,rfl, ?_⟩
  rw[wrap_id (by omega) (by omega)]
  refine⟨⟨k+1,by omega,by omega, ?_, ?_⟩,by show L.length - Int.toNat ((k:Int)+1)<L.length - k;omega⟩
  ·rw[List.take_add_one,hx,List.map_append]
   exact B4
  ·obtain⟨_,_,_,_,_,_,_,h6'⟩:=B
   exact(fg.tt F3).fresh f4 h6'
 ·have q1: ¬(k:Int)<((L.length:Nat):Int):=by omega
  simp only[q1,decide_false,Bool.false_eq_true,if_false]
  rw[List.take_of_length_le (by omega)] at B
  exact hk g op ol oc (B.mono f1.1) (f1.tt fg)
end Regs
end Go.Proofs.YtgccegnmggjkjaaGreatDoor
set_option maxRecDepth 100000
namespace Go.Proofs.YtgccegnmggjkjaaGreatDoor
open Go.Den Go.Fields
namespace Regs
open Eid Fld
variable {L : List Rg}
structure okL (L:List Rg):Prop where
 len:L.length≤8
 all: ∀r∈L,okR r
end Regs
end Go.Proofs.YtgccegnmggjkjaaGreatDoor
set_option maxRecDepth 100000
namespace Go.Proofs.YtgccegnmggjkjaaGreatDoor
open Go.Den
namespace Stt
open Obx (It)
open Eid (Ev rightE)
variable {σ : SS} {k : Nat}
structure Good (σ:SS) (k:Nat):Prop where
 a:Ses.okA σ.A
 g:Regs.okL σ.G
 c:Cps.Good σ.C k
 b:σ.B.next≤k+1
 v:σ.B.over≤k
 q:σ.Q=σ.B.items
 ok:okQ σ.Q
 n:σ.now≤1099511627776
 e:rightE σ.e=true∧σ.e≠Ev.zero∧0≤σ.e.svc
 t:σ.tm≤1099511627776∧σ.sq≤1099511627776
 r:σ.rf≤k
def newS (e:Ev):SS:=⟨[], [],⟨[],1,0,0,0, [], []⟩,⟨[],1,0,0,0⟩, [],e,0,0,0,0⟩
theorem Good.new {e:Ev} (h1:rightE e=true) (h2:e≠Ev.zero) (h3:0≤e.svc):Good (newS e) 0:=
 ⟨Ses.okA.nil,⟨Nat.zero_le _,fun _ h=>(by cases h)⟩,Cps.Good.nil,Nat.le_refl _,Nat.le_refl _,rfl,okQ.nil,Nat.zero_le _,⟨h1,h2,h3⟩,⟨Nat.zero_le _,Nat.zero_le _⟩,Nat.le_refl _⟩
def passB (s:Obx.BS) (now:Nat):Obx.BS:= { s with items:=s.items.filter (fun x=>decide ((now:Int)<(x.till:Int))),over:=s.over+(s.items.filter (fun x=>decide ((x.till:Int)≤(now:Int)))).length }
def passE (σ:SS) (now:Nat):Int:=if now>1099511627776 then 1 else if now<σ.now then 18 else 0
def passS (σ:SS) (now:Nat):SS:= { σ with C:=Cps.passF σ.C (now:Int),B:=passB σ.B now,Q:=(passB σ.B now).items,now:=now }
def passA (σ:SS) (now:Nat):SS:=if passE σ now=0 then passS σ now else σ
theorem okQ.filter {l:List It} (ok:okQ l) (P:It→Bool):okQ (l.filter P):=by
 induction l with
 |nil=>exact ok
 |cons x l ih=>
  rw[List.filter_cons]
  split
  ·obtain⟨a,b,c,d,e,f⟩:=ok
   have t1:tot (l.filter P)≤tot l:=by
    clear ih f e d
    induction l with
    |nil=>exact Int.le_refl _
    |cons y l ih=>rw[List.filter_cons,tot_cons];split<;>(try rw[tot_cons])<;>omega
   have t2: ∀o,own (l.filter P) o≤own l o:=fun o=>by
    clear ih f e d t1
    induction l with
    |nil=>exact Int.le_refl _
    |cons y l ih=>rw[List.filter_cons,own_cons];split<;>(try rw[own_cons])<;>(try split)<;>omega
   rw[tot_cons] at d e
   have n1:=tot_nn (l:=l.filter P)
   refine⟨a,b,c,by rw[tot_cons];omega,by rw[tot_cons];omega,fun k=>⟨own_nn, ?_⟩⟩
   have:=(f k).2
   have:=t2 k
   rw[own_cons] at*
   omega
  ·exact ih ok.sub
theorem Cps_pass {s:Cps.CF} (G:Cps.Good s k) (O:Cps.Ord s) (hk:k≤30000) (now:Nat):Cps.Good (Cps.passF s (now:Int)) (k+1):=by
 have h:=G.do (f:=⟨4,0,0,Ev.zero,none,0, [],now⟩) O (Int.le_refl 0) hk
 unfold Cps.doS at h
 exact h
theorem Cps_add {s:Cps.CF} (G:Cps.Good s k) (O:Cps.Ord s) (hk:k≤30000) (e:Ev) (he:0≤e.svc) (d:List UInt8) (till:Nat):Cps.Good (Cps.addF s e d till) (k+1):=by
 have h:=G.do (f:=⟨0,0,0,e,none,0,d,till⟩) O he hk
 unfold Cps.doS at h
 exact h
theorem Good.more (G:Good σ k):Good σ (k+1):=⟨G.a,G.g,G.c.more,by have:=G.b;omega,by have:=G.v;omega,G.q,G.ok,G.n,G.e,G.t,by have:=G.r;omega⟩
theorem Good.pass (G:Good σ k) (O:Cps.Ord σ.C) (L:List Go.Heapq.E) (ok:Obx.okB σ.B L) (hk:k≤30000) (now:Nat):Good (passA σ now) (k+1):=by
 unfold passA
 split
 ·rename_i h
  have hn:now≤1099511627776:=by
   unfold passE at h
   split at h
   ·cases h
   ·omega
  have hc:=ok.cnt
  have hb:=G.b
  have hl:(σ.B.items.filter (fun x=>decide ((x.till:Int)≤(now:Int)))).length≤σ.B.items.length:=List.length_filter_le _ _
  refine⟨G.a,G.g,Cps_pass G.c O hk now,by show σ.B.next≤_;omega,by show σ.B.over+_≤_;omega,rfl, ?_,hn,G.e,G.t,by have:=G.r;show σ.rf≤_;omega⟩
  show okQ (σ.B.items.filter _)
  rw[←G.q]
  exact G.ok.filter _
 ·exact G.more
abbrev fitsQ (l:List It) (owner:Int) (n:Nat):Bool:=Quota.fits 4800 1600 (tot l) (own l) owner (n:Int)
def putE (σ:SS) (owner:Int) (d:List UInt8) (till:Nat):Int:=if σ.B.items.length≥16∨fitsQ σ.Q owner d.length=false then 15 else Obx.addE σ.B owner d till
def putN (σ:SS) (owner:Int) (d:List UInt8) (till:Nat):Int:=if σ.B.items.length≥16∨fitsQ σ.Q owner d.length=false then 0 else Obx.addN σ.B owner d till
def putS (σ:SS) (owner:Int) (d:List UInt8) (till:Nat):SS:=if putE σ owner d till=0 then { σ with B:=Obx.addS σ.B owner d till,Q:=(Obx.addS σ.B owner d till).items } else σ
def cancA (σ:SS) (num owner:Int):SS:= { σ with B:=Obx.cancS σ.B num owner,Q:=(Obx.cancS σ.B num owner).items }
def takeA (σ:SS):SS:=match σ.B.items with| []=>σ|_::r=> { σ with B:= { σ.B with items:=r,taken:=σ.B.taken+1 },Q:=r }
theorem okQ.add {l:List It} {x:It} (ok:okQ l) (hf:fitsQ l x.owner x.d.length=true):okQ (l++ [x]):=by
 have h:=Quota.Ok.take ok hf
 rw[own_add,show tot l+(x.d.length:Int)=tot (x::l) by rw[tot_cons];omega] at h
 exact okQ.perm h (List.perm_append_singleton _ _).symm
theorem putE_zero {owner:Int} {d:List UInt8} {till:Nat} (h:putE σ owner d till=0):fitsQ σ.Q owner d.length=true∧Obx.addE σ.B owner d till=0:=by
 unfold putE at h
 split at h
 ·cases h
 ·rename_i h1
  cases hf:fitsQ σ.Q owner d.length with
  |false=>exact absurd (.inr hf) h1
  |true=>exact⟨rfl,h⟩
theorem Good.put (G:Good σ k) (owner:Int) (d:List UInt8) (till:Nat):Good (putS σ owner d till) (k+1):=by
 unfold putS
 split
 ·rename_i h
  obtain⟨h1,h2⟩:=putE_zero h
  have e:Obx.addS σ.B owner d till= { σ.B with items:=σ.B.items++ [⟨σ.B.next,owner,d,till⟩],next:=σ.B.next+1 } :=if_pos h2
  rw[e]
  refine⟨G.a,G.g,G.c.more,by show σ.B.next+1≤_;have:=G.b;omega,by show σ.B.over≤_;have:=G.v;omega,rfl, ?_,G.n,G.e,G.t,by show σ.rf≤_;have:=G.r;omega⟩
  show okQ (σ.B.items++ [_])
  rw[←G.q]
  exact okQ.add G.ok h1
 ·exact G.more
theorem canc_items {s:Obx.BS} {num owner:Int} : ∃P:It→Bool,(Obx.cancS s num owner).items=s.items.filter P∧(Obx.cancS s num owner).next=s.next∧(Obx.cancS s num owner).over=s.over:=by
 unfold Obx.cancS
 split
 ·exact⟨_,rfl,rfl,rfl⟩
 ·exact⟨fun _=>true,(List.filter_eq_self.2 fun _ _=>rfl).symm,rfl,rfl⟩
theorem Good.canc (G:Good σ k) (num owner:Int):Good (cancA σ num owner) (k+1):=by
 obtain⟨P,h1,h2,h3⟩:=canc_items (s:=σ.B) (num:=num) (owner:=owner)
 refine⟨G.a,G.g,G.c.more,by show(Obx.cancS σ.B num owner).next≤_;rw[h2];have:=G.b;omega,by show(Obx.cancS σ.B num owner).over≤_;rw[h3];have:=G.v;omega,rfl, ?_,G.n,G.e,G.t,by show σ.rf≤_;have:=G.r;omega⟩
 show okQ (Obx.cancS σ.B num owner).items
 rw[h1,←G.q]
 exact G.ok.filter _
theorem Good.take (G:Good σ k):Good (takeA σ) (k+1):=by
 unfold takeA
 split
 ·exact G.more
 ·rename_i x r h
  refine⟨G.a,G.g,G.c.more,by show σ.B.next≤_;have:=G.b;omega,by show σ.B.over≤_;have:=G.v;omega,rfl, ?_,G.n,G.e,G.t,by show σ.rf≤_;have:=G.r;omega⟩
  have ok:=G.ok
  rw[G.q,h] at ok
  exact ok.sub
theorem Good.openA (G:Good σ k) (token:Nat):Good { σ with A:=Ses.openA σ.A token } (k+1):=
 ⟨G.a.open token,G.g,G.c.more,by show σ.B.next≤_;have:=G.b;omega,by show σ.B.over≤_;have:=G.v;omega,G.q,G.ok,G.n,G.e,G.t,by show σ.rf≤_;have:=G.r;omega⟩
theorem Good.addC (G:Good σ k) (O:Cps.Ord σ.C) (hk:k≤30000) (e:Ev) (he:0≤e.svc) (d:List UInt8) (till:Nat):Good { σ with C:=Cps.addF σ.C e d till } (k+1):=
 ⟨G.a,G.g,Cps_add G.c O hk e he d till,by show σ.B.next≤_;have:=G.b;omega,by show σ.B.over≤_;have:=G.v;omega,G.q,G.ok,G.n,G.e,G.t,by show σ.rf≤_;have:=G.r;omega⟩
end Stt
end Go.Proofs.YtgccegnmggjkjaaGreatDoor
set_option maxRecDepth 100000
set_option maxHeartbeats 4000000
namespace Go.Proofs.YtgccegnmggjkjaaGreatDoor
open Go.Den
variable {h : Heap} {R : Value → Heap → Prop}
theorem outbox_Box_Save.walk {b : Nat} (hv :
 Cl F.outbox_Box_made #[.pointer (some ⟨b, 0, none⟩)] h fun v h_1 =>
 ∃ t7, v = .bool t7 ∧
 if (!t7) = true then
 R (.slice none 0 0) h_1
 else
 ∃ t13, hcell h_1 ⟨b, 1, none⟩ = some (.int .i64 t13) ∧
 ∃ t18, hcell h_1 ⟨b, 2, none⟩ = some (.int .i64 t18) ∧
 ∃ t23, hcell h_1 ⟨b, 3, none⟩ = some (.int .i64 t23) ∧
 ∃ t28, hcell h_1 ⟨b, 4, none⟩ = some (.int .i64 t28) ∧
 ∃ t33_p t33_l t33_c, hcell h_1 ⟨b, 0, none⟩ = some (.slice t33_p t33_l t33_c) ∧
 Cl F.fields_New #[] h_1 fun v_1 h_2 =>
 ∃ t9, v_1 = .pointer t9 ∧
 hcell h_2 ⟨b, 0, none⟩ = some (.slice t33_p t33_l t33_c) ∧
 hcell h_2 ⟨b, 4, none⟩ = some (.int .i64 t28) ∧
 hcell h_2 ⟨b, 3, none⟩ = some (.int .i64 t23) ∧
 hcell h_2 ⟨b, 2, none⟩ = some (.int .i64 t18) ∧
 hcell h_2 ⟨b, 1, none⟩ = some (.int .i64 t13) ∧
 Cl F.fields_Writer_Int #[.pointer t9, .int .i64 t13] h_2 fun v_2 h_3 =>
 ∃ t14, v_2 = .pointer t14 ∧
 hcell h_3 ⟨b, 0, none⟩ = some (.slice t33_p t33_l t33_c) ∧
 hcell h_3 ⟨b, 4, none⟩ = some (.int .i64 t28) ∧
 hcell h_3 ⟨b, 3, none⟩ = some (.int .i64 t23) ∧
 hcell h_3 ⟨b, 2, none⟩ = some (.int .i64 t18) ∧
 Cl F.fields_Writer_Int #[.pointer t14, .int .i64 t18] h_3 fun v_3 h_4 =>
 ∃ t19, v_3 = .pointer t19 ∧
 hcell h_4 ⟨b, 0, none⟩ = some (.slice t33_p t33_l t33_c) ∧
 hcell h_4 ⟨b, 4, none⟩ = some (.int .i64 t28) ∧
 hcell h_4 ⟨b, 3, none⟩ = some (.int .i64 t23) ∧
 Cl F.fields_Writer_Int #[.pointer t19, .int .i64 t23] h_4 fun v_4 h_5 =>
 ∃ t24, v_4 = .pointer t24 ∧
 hcell h_5 ⟨b, 0, none⟩ = some (.slice t33_p t33_l t33_c) ∧
 hcell h_5 ⟨b, 4, none⟩ = some (.int .i64 t28) ∧
 Cl F.fields_Writer_Int #[.pointer t24, .int .i64 t28] h_5 fun v_5 h_6 =>
 ∃ t29, v_5 = .pointer t29 ∧
 hcell h_6 ⟨b, 0, none⟩ = some (.slice t33_p t33_l t33_c) ∧
 Cl F.fields_Writer_Int #[.pointer t29, .int .i64 ((t33_l : Nat) : Int)] h_6 fun v_6 h_7 =>
 ∃ t35, v_6 = .pointer t35 ∧
 hcell h_7 ⟨b, 0, none⟩ = some (.slice t33_p t33_l t33_c) ∧
 Cl F.fields_Writer_Bytes #[.pointer t35] h_7 fun v_7 h_8 =>
 ∃ t36_p t36_l t36_c, v_7 = .slice t36_p t36_l t36_c ∧
 hcell h_8 ⟨b, 0, none⟩ = some (.slice t33_p t33_l t33_c) ∧
 NewP h_8 (.cells #[.slice t36_p t36_l t36_c] T.s_uint8) fun b_1 h_9 =>
 hcell h_9 ⟨b, 0, none⟩ = some (.slice t33_p t33_l t33_c) ∧
 ∃ t41_p t41_l t41_c, hcell h_9 ⟨b, 0, none⟩ = some (.slice t41_p t41_l t41_c) ∧
 ∃ (I : Option Addr → Nat → Nat → Int → Heap → Prop) (mu : Option Addr → Nat → Nat → Int → Heap → Nat), I (some ⟨b_1, 0, none⟩) 1 1 0 h_9 ∧ ∀ (out_p : Option Addr) (out_l out_c : Nat) (t43 : Int) (h_10 : Heap), I out_p out_l out_c t43 h_10 →
 if (decide (t43 < ((t41_l : Nat) : Int))) = true then
 ((0 : Int) ≤ t43 ∧ t43 < ((t41_l : Nat) : Int)) ∧
 onSome t41_p fun a =>
 outbox_Item.LD h_10 (a.add (Int.toNat t43 * 4)) fun t46_0 t46_1 t46_2_p t46_2_l t46_2_c t46_3 =>
 NewP h_10 (.cells #[.int .i64 0, .int .i64 0, .slice none 0 0, .int .u64 0] T.outbox_Item) fun b_2 h_11 =>
 outbox_Item.ST h_11 ⟨b_2, 0, none⟩ t46_0 t46_1 t46_2_p t46_2_l t46_2_c t46_3 fun h_12 =>
 ∃ t50, hcell h_12 ⟨b_2, 0, none⟩ = some (.int .i64 t50) ∧
 ∃ t53, hcell h_12 ⟨b_2, 1, none⟩ = some (.int .i64 t53) ∧
 ∃ t56_p t56_l t56_c, hcell h_12 ⟨b_2, 2, none⟩ = some (.slice t56_p t56_l t56_c) ∧
 ∃ t59, hcell h_12 ⟨b_2, 3, none⟩ = some (.int .u64 t59) ∧
 Cl F.fields_New #[] h_12 fun v_8 h_13 =>
 ∃ t48, v_8 = .pointer t48 ∧
 hcell h_13 ⟨b_2, 3, none⟩ = some (.int .u64 t59) ∧
 hcell h_13 ⟨b_2, 2, none⟩ = some (.slice t56_p t56_l t56_c) ∧
 hcell h_13 ⟨b_2, 1, none⟩ = some (.int .i64 t53) ∧
 hcell h_13 ⟨b_2, 0, none⟩ = some (.int .i64 t50) ∧
 Cl F.fields_Writer_Int #[.pointer t48, .int .i64 t50] h_13 fun v_9 h_14 =>
 ∃ t51, v_9 = .pointer t51 ∧
 hcell h_14 ⟨b_2, 3, none⟩ = some (.int .u64 t59) ∧
 hcell h_14 ⟨b_2, 2, none⟩ = some (.slice t56_p t56_l t56_c) ∧
 hcell h_14 ⟨b_2, 1, none⟩ = some (.int .i64 t53) ∧
 Cl F.fields_Writer_Int #[.pointer t51, .int .i64 t53] h_14 fun v_10 h_15 =>
 ∃ t54, v_10 = .pointer t54 ∧
 hcell h_15 ⟨b_2, 3, none⟩ = some (.int .u64 t59) ∧
 hcell h_15 ⟨b_2, 2, none⟩ = some (.slice t56_p t56_l t56_c) ∧
 Cl F.fields_Writer_Text #[.pointer t54, .slice t56_p t56_l t56_c] h_15 fun v_11 h_16 =>
 ∃ t57, v_11 = .pointer t57 ∧
 hcell h_16 ⟨b_2, 3, none⟩ = some (.int .u64 t59) ∧
 Cl F.fields_Writer_Num #[.pointer t57, .int .u64 t59] h_16 fun v_12 h_17 =>
 ∃ t60, v_12 = .pointer t60 ∧
 Cl F.fields_Writer_Bytes #[.pointer t60] h_17 fun v_13 h_18 =>
 ∃ t61_p t61_l t61_c, v_13 = .slice t61_p t61_l t61_c ∧
 NewP h_18 (.cells #[.slice t61_p t61_l t61_c] T.s_uint8) fun b_3 h_19 =>
 denSem Tryz.prog (Builtin.append_ #[T.s_s_uint8, T.s_s_uint8] T.s_s_uint8 #[.slice out_p out_l out_c, .slice (some ⟨b_3, 0, none⟩) 1 1]) h_19 fun v_14 h_20 =>
 ∃ t63_p t63_l t63_c, v_14 = .slice t63_p t63_l t63_c ∧
 (I t63_p t63_l t63_c (IntKind.wrap .i64 (t43 + 1)) h_20 ∧ mu t63_p t63_l t63_c (IntKind.wrap .i64 (t43 + 1)) h_20 < mu out_p out_l out_c t43 h_10)
 else
 R (.slice out_p out_l out_c) h_10) : CallsH Tryz.prog F.outbox_Box_Save #[.pointer (some ⟨b, 0, none⟩)] h R :=
 callsH_of_body (.seq .leaf (.seq (.seq .leaf (.cond (.seq .leaf .leaf) .leaf)) (.seq (.plan (.op 1 (.op 2 (.op 3 (.op 4 (.op 6 (.op 7 (.op 8 (.op 9 (.op 11 (.op 12 (.op 13 (.op 14 (.op 16 (.op 17 (.op 18 (.op 19 (.op 21 (.op 22 (.op 23 (.op 24 (.op 25 (.op 0 (.op 5 (.op 10 (.op 15 (.op 20 (.op 26 (.op 27 (.op 28 (.op 29 .done))))))))))))))))))))))))))))))) (.seq (.seq .leaf (.block (.loop [(3, .one (.slice)), (43, .one (.int .i64))] (.seq .leaf (.seq (.cond .leaf .leaf) (.seq (.block (.seq .leaf (.plan (.op 0 (.op 2 (.op 3 (.op 5 (.op 6 (.op 8 (.op 9 (.op 11 (.op 12 (.op 1 (.op 4 (.op 7 (.op 10 (.op 13 (.op 14 (.op 15 (.op 16 (.op 17 .done))))))))))))))))))))) .leaf)))))) (.seq .leaf .leaf))))) Tryz.func132 rfl rfl (Eq.mp (by kernel_rfl) hv)
end Go.Proofs.YtgccegnmggjkjaaGreatDoor
set_option maxRecDepth 100000
namespace Go.Proofs.YtgccegnmggjkjaaGreatDoor
open Go.Den Go.Fields Go.Heapq
namespace Obx
open Fld
variable {h h' h0 : Heap} {b : Nat} {X : Ft} {R : Value → Heap → Prop} {p q : Option Addr} {c d i : Nat} {L : List E} {s : BS}
def IL (h0 h:Heap) (p:Option Addr) (l c:Nat) (items:List It):Prop:=
 ∃(ys:List IV) (D:Nat→Prop),l=ys.length∧Own h p l c 4 (ys.flatMap ienc)∧ys.map IV.abs=items∧(∀y∈ys,y.v.ok h D)∧(∀y,D y→h0.size≤y∧y<h.size∧ ¬inBlk p y)∧ ∀y,inBlk p y→h0.size≤y
theorem IL.len {l:Nat} {items:List It} (H:IL h0 h p l c items):l=items.length:=by
 obtain⟨ys,D,h1,_,h3,_⟩:=H
 rw[h1,←h3,List.length_map]
theorem all_ok (H:Box h b X s) (hk: ∀h' p' l' c',IL h h' p' l' c' s.items→Fr (fun _=>False) h h'→R (.slice p' l' c') h'):CallsH Tryz.prog F.outbox_Box_All #[.pointer (some ⟨b,0,none⟩)] h R:=by
 obtain⟨L,⟨lp,lc,xs,a,S,H⟩,ok⟩:=H
 obtain⟨hL,hxl⟩:=H.okL ok
 refine outbox_Box_All.walk (made_ok H ⟨_,rfl,JoinP.of fun J hJ=> ?_⟩)
 simp only[if_true]
 refine⟨_,_,_,cell_at H.blk rfl, ?_⟩
 refine⟨fun op ol oc t g=> ∃k:Nat,t=(k:Int)∧k≤xs.length∧IL h g op ol oc (s.items.take k)∧Fr (fun _=>False) h g,fun _ _ _ t _=>xs.length - t.toNat,⟨0,rfl,by omega,⟨[],fun _=>False,rfl, .nil rfl rfl rfl rfl,by simp,(fun y hy=>by cases hy),(fun y hy=>hy.elim),fun y ⟨a,e,_⟩=>by cases e⟩,Fr.refl _ _⟩, ?_⟩
 rintro op ol oc _ g ⟨k,rfl,hkn,I,fg⟩
 have Mg:=H.on fg
 by_cases hlt:k<xs.length
 ·have q1:(k:Int)<((xs.length:Nat):Int):=by omega
  simp only[q1,decide_true,if_true,Int.toNat_natCast]
  have hx:xs[k]? =some xs[k]:=List.getElem?_eq_getElem hlt
  generalize xs[k]=x at hx
  obtain⟨ab,aoff,rfl⟩:=Mg.own.addr (by omega)
  refine⟨⟨by first|trivial|omega,by first|trivial|omega⟩,onSome_some.2 (outbox_Item.ldA (Mg.own.heldAt ienc_len hx) (outbox_Item.new fun b1 h8 eb1 hb1 f8=>outbox_Item.ld hb1 ?_))⟩
  have xit:s.items[k]? =some x.abs:=by rw[←H.abs,List.getElem?_map,hx];rfl
  have hxd:=ok.it x.abs (List.mem_of_getElem? xit)
  have dl:x.v.b.length≤600:=hxd.2.2.2.1
  have row8:=((Mg.dat x (List.mem_of_getElem? hx)).row).frame f8 (fun _ _=>id)
  refine copied_ok row8 rfl (by omega) fun h9 p9 c9 o9 f9 g9=>⟨_,_,_,_,_,_,rfl, ?_⟩
  have F9:Fr (fun _=>False) g h9:=f8.tt f9
  obtain⟨ys,D,y1,y2,y3,y4,y5,y6⟩:=I
  have yl:ys.length≤16:=by
   have:=congrArg List.length y3
   rw[List.length_map,List.length_take] at this
   omega
  have z9:=F9.1
  have zg:=fg.1
  have z8:=f8.1
  refine den_append1 tI uI (y2.frame F9 (fun _ _=>id)) rfl (fun w hw=>by simp at hw;rcases hw with rfl|rfl|rfl|rfl<;>rfl) (by omega) (by omega) fun p11 c11 h11 o11 f11 g11=>⟨_,_,_,rfl, ?_⟩
  rw[wrap_id (by omega) (by omega)]
  have p9y: ∀y,inBlk p9 y→g.size≤y∧y<h9.size:=fun y hy=>⟨by have:=g9 y hy;omega,o9.blk_lt hy⟩
  have z11:=f11.1
  refine⟨⟨k+1,by omega,by omega,⟨ys++ [⟨x.num,x.owner,⟨p9,c9,x.v.b⟩,x.till⟩],fun y=>D y∨inBlk p9 y,by rw[List.length_append,y1];rfl, ?_, ?_, ?_, ?_, ?_⟩, ?_⟩,by show xs.length - Int.toNat ((k:Int)+1)<xs.length - k;omega⟩
  ·rw[List.flatMap_append];simpa using o11
  ·rw[List.map_append,y3,List.take_add_one,xit];rfl
  ·intro w hw
   rcases List.mem_append.1 hw with hw|hw
   ·exact(((y4 w hw).frame F9 (fun _ _=>id)).frame f11 (fun y hy=>(y5 y hy).2.2)).mono (fun y=> .inl)
   ·obtain rfl:=List.mem_singleton.1 hw
    exact BV.of_own (o9.frame f11 (fun y hy hq=>by have:=p9y y hy;have:=y2.blk_lt hq;omega)) (fun y=> .inr)
  ·rintro y (hy|hy)
   ·have a:=y5 y hy
    exact⟨a.1,by omega,fun hq=>(g11 y hq).elim a.2.2 (fun h2=>by omega)⟩
   ·have a:=p9y y hy
    exact⟨by omega,by omega,fun hq=>(g11 y hq).elim (fun h2=>by have:=y2.blk_lt h2;omega) (fun h2=>by omega)⟩
  ·intro y hy
   rcases g11 y hy with h2|h2
   ·exact y6 y h2
   ·omega
  ·exact(fg.tt F9).fresh f11 y6
 ·have q1: ¬(k:Int)<((xs.length:Nat):Int):=by omega
  simp only[q1,decide_false,Bool.false_eq_true,if_false]
  subst hJ
  have hlen:=H.len
  rw[List.take_of_length_le (by omega)] at I
  exact hk g op ol oc I fg
def headB (s:BS):List UInt8:=encNum s.next++encNum s.taken++encNum s.canc++encNum s.over++encNum s.items.length
def recI (x:It):List UInt8:=encNum x.num++encNum x.owner.toNat++encText x.d++encNum x.till
def recsB (s:BS):List (List UInt8):=headB s::s.items.map recI
theorem headB_len (s:BS):(headB s).length≤60:=by
 unfold headB
 simp only[List.length_append]
 have a1:=(encNum_len s.next).2
 have a2:=(encNum_len s.taken).2
 have a3:=(encNum_len s.canc).2
 have a4:=(encNum_len s.over).2
 have a5:=(encNum_len s.items.length).2
 omega
theorem recI_len {x:It} (h:x.d.length≤600):(recI x).length≤700:=by
 unfold recI encText
 simp only[List.length_append]
 have a1:=(encNum_len x.num).2
 have a2:=(encNum_len x.owner.toNat).2
 have a3:=(encNum_len x.d.length).2
 have a4:=(encNum_len x.till).2
 omega
theorem save_ok (H:Box h b X s) (hnx:s.next≤1000000000) (hk: ∀h' p' l' c',BL h h' p' l' c' (recsB s)→Fr (fun _=>False) h h'→R (.slice p' l' c') h'):CallsH Tryz.prog F.outbox_Box_Save #[.pointer (some ⟨b,0,none⟩)] h R:=by
 obtain⟨L,⟨lp,lc,xs,a,S,H⟩,ok⟩:=H
 obtain⟨hL,hxl⟩:=H.okL ok
 have hcnt:=ok.cnt
 have hlen:=H.len
 have nb: ∀(n:Nat),natOf (n:Int)=n:=fun n=>by unfold natOf;omega
 refine outbox_Box_Save.walk (made_ok H ⟨_,rfl, ?_⟩)
 simp only[Bool.not_true,Bool.false_eq_true,if_false]
 refine⟨_,cell_at H.blk rfl,_,cell_at H.blk rfl,_,cell_at H.blk rfl,_,cell_at H.blk rfl,_,_,_,cell_at H.blk rfl, ?_⟩
 refine Fld.new_ok fun h2 w S2 W2 f2 g2=>⟨_,rfl, ?_⟩
 have u2:Up h S2 h2:=⟨f2,g2⟩
 have lb:=lt_of_get H.blk
 have nbS: ∀ {S:Nat→Prop} {h':Heap},Up h S h'→ ¬S b:=fun u hx=>by have:=u.ge b hx;omega
 have b2:=f2.get H.blk id
 refine⟨cell_at b2 rfl,cell_at b2 rfl,cell_at b2 rfl,cell_at b2 rfl,cell_at b2 rfl, ?_⟩
 refine int_ok W2 (by simp) (by omega) fun h3 S3 W3 s3=>⟨_,rfl, ?_⟩
 have b3:=s3.fr.get b2 (nbS u2)
 have u3:=u2.step s3
 rw[nb,List.nil_append] at W3
 have l1:=(encNum_len s.next).2
 refine⟨cell_at b3 rfl,cell_at b3 rfl,cell_at b3 rfl,cell_at b3 rfl, ?_⟩
 refine int_ok W3 (by omega) (by omega) fun h4 S4 W4 s4=>⟨_,rfl, ?_⟩
 have b4:=s4.fr.get b3 (nbS u3)
 have u4:=u3.step s4
 rw[nb] at W4
 have l2:=(encNum_len s.taken).2
 refine⟨cell_at b4 rfl,cell_at b4 rfl,cell_at b4 rfl, ?_⟩
 refine int_ok W4 (by simp only[List.length_append];omega) (by omega) fun h5 S5 W5 s5=>⟨_,rfl, ?_⟩
 have b5:=s5.fr.get b4 (nbS u4)
 have u5:=u4.step s5
 rw[nb] at W5
 have l3:=(encNum_len s.canc).2
 refine⟨cell_at b5 rfl,cell_at b5 rfl, ?_⟩
 refine int_ok W5 (by simp only[List.length_append];omega) (by omega) fun h6 S6 W6 s6=>⟨_,rfl, ?_⟩
 have b6:=s6.fr.get b5 (nbS u5)
 have u6:=u5.step s6
 rw[nb] at W6
 have l4:=(encNum_len s.over).2
 refine⟨cell_at b6 rfl, ?_⟩
 refine int_ok W6 (by simp only[List.length_append];omega) (by omega) fun h7 S7 W7 s7=>⟨_,rfl, ?_⟩
 have b7:=s7.fr.get b6 (nbS u6)
 have u7:=u6.step s7
 rw[nb,hlen] at W7
 refine⟨cell_at b7 rfl, ?_⟩
 have hh:=headB_len s
 refine bytes_ok (bs:=headB s) W7 (by omega) fun q8 d8 h8 o8 f8 g8=>⟨_,_,_,rfl, ?_⟩
 have b8:=f8.get b7 id
 refine⟨cell_at b8 rfl,newP_of ?_⟩
 have f9:Fr (fun _=>False) h8 (h8.push (.cells #[.slice q8 (headB s).length d8] T.s_uint8)):=Fr.push _ _
 have o9:Own (h8.push (.cells #[.slice q8 (headB s).length d8] T.s_uint8)) (some ⟨h8.size,0,none⟩) 1 1 1 (nenc ⟨q8,d8,headB s⟩):= .row h8.size 0 _ _ rfl push_new (Nat.le_refl _) (by simp) rfl (fun j v hj=>by rw[Nat.zero_add];simpa using hj)
 have F8:Fr (fun _=>False) h h8:=u7.fr.tt f8
 have z8:=F8.1
 have z7:=u7.fr.1
 have B9:BL h (h8.push (.cells #[.slice q8 (headB s).length d8] T.s_uint8)) (some ⟨h8.size,0,none⟩) 1 1 [headB s]:=by
  refine⟨[⟨q8,d8,headB s⟩],inBlk q8,rfl,by simpa using o9,rfl, ?_, ?_,fun y ⟨a,e,e2⟩=>by cases e;rw[←e2];exact z8⟩
  ·intro x hx
   obtain rfl:=List.mem_singleton.1 hx
   exact BV.of_own (o8.frame f9 (fun _ _=>id)) (fun _=>id)
  ·intro y hy
   have h1:=g8 y hy
   have h2:=o8.blk_lt hy
   exact⟨by omega,by rw[Array.size_push];omega,fun⟨a,e,e2⟩=>by cases e;have e2:h8.size=y:=e2;omega⟩
 have F9:Fr (fun _=>False) h (h8.push (.cells #[.slice q8 (headB s).length d8] T.s_uint8)):=F8.tt f9
 generalize h8.push (.cells #[.slice q8 (headB s).length d8] T.s_uint8)=h9 at B9 F9⊢
 generalize (some ⟨h8.size,0,none⟩:Option Addr)=p9 at B9⊢
 have M9:=H.on F9
 refine⟨cell_at M9.blk rfl,_,_,_,cell_at M9.blk rfl, ?_⟩
 refine⟨fun op ol oc t g=> ∃k:Nat,t=(k:Int)∧k≤xs.length∧BL h g op ol oc (headB s::(s.items.take k).map recI)∧Fr (fun _=>False) h g,fun _ _ _ t _=>xs.length - t.toNat,⟨0,rfl,by omega,by simpa using B9,F9⟩, ?_⟩
 rintro op ol oc _ g ⟨k,rfl,hkn,B,fg⟩
 have Mg:=H.on fg
 by_cases hlt:k<xs.length
 ·have q1:(k:Int)<((xs.length:Nat):Int):=by omega
  simp only[q1,decide_true,if_true,Int.toNat_natCast]
  have hx:xs[k]? =some xs[k]:=List.getElem?_eq_getElem hlt
  generalize xs[k]=x at hx
  obtain⟨ab,aoff,rfl⟩:=Mg.own.addr (by omega)
  refine⟨⟨by first|trivial|omega,by first|trivial|omega⟩,onSome_some.2 (outbox_Item.ldA (Mg.own.heldAt ienc_len hx) (outbox_Item.new fun b1 h15 eb1 hb1 f15=> ?_))⟩
  have xit:s.items[k]? =some x.abs:=by rw[←H.abs,List.getElem?_map,hx];rfl
  have hxd:=ok.it x.abs (List.mem_of_getElem? xit)
  have dl:x.v.b.length≤600:=hxd.2.2.2.1
  have xo:1≤x.owner∧x.owner≤1099511627776:=⟨hxd.2.2.2.2.1,hxd.2.2.2.2.2.1⟩
  have xt:x.till≤1099511627776:=hxd.2.2.2.2.2.2
  have xn:x.num<s.next:=hxd.2.1
  refine⟨_,cell_at hb1 rfl,_,cell_at hb1 rfl,_,_,_,cell_at hb1 rfl,_,cell_at hb1 rfl, ?_⟩
  refine Fld.new_ok fun h16 w S16 W16 f16 g16=>⟨_,rfl, ?_⟩
  have u16:Up h15 S16 h16:=⟨f16,g16⟩
  have l1':=lt_of_get hb1
  have nbS': ∀ {S:Nat→Prop} {h':Heap},Up h15 S h'→ ¬S b1:=fun u hx=>by have:=u.ge b1 hx;omega
  have c16:=f16.get hb1 id
  refine⟨cell_at c16 rfl,cell_at c16 rfl,cell_at c16 rfl,cell_at c16 rfl, ?_⟩
  refine int_ok W16 (by simp) (by omega) fun h17 S17 W17 s17=>⟨_,rfl, ?_⟩
  have c17:=s17.fr.get c16 (nbS' u16)
  have u17:=u16.step s17
  rw[nb,List.nil_append] at W17
  have l5:=(encNum_len x.num).2
  refine⟨cell_at c17 rfl,cell_at c17 rfl,cell_at c17 rfl, ?_⟩
  refine int_ok W17 (by omega) (by omega) fun h18 S18 W18 s18=>⟨_,rfl, ?_⟩
  have c18:=s18.fr.get c17 (nbS' u17)
  have u18:=u17.step s18
  have eo:natOf x.owner=x.owner.toNat:=by unfold natOf;omega
  rw[eo] at W18
  have l6:=(encNum_len x.owner.toNat).2
  refine⟨cell_at c18 rfl,cell_at c18 rfl, ?_⟩
  have row18:=((Mg.dat x (List.mem_of_getElem? hx)).row).frame (f15.tt u18.fr) (fun _ _=>id)
  refine text_ok' W18 (by simp only[List.length_append];omega) row18 rfl (by omega) (fun y hy hne hS=> ?_) fun h19 S19 W19 s19=>⟨_,rfl, ?_⟩
  ·have a1:=(Mg.dat x (List.mem_of_getElem? hx)).own hne y hy
   have a2:=Mg.dlt y a1
   have a3:=u18.ge y hS
   have a4:=f15.1
   omega
  have c19:=s19.fr.get c18 (nbS' u18)
  have u19:=u18.step s19
  have el:(encText x.v.b).length=(encNum x.v.b.length).length+x.v.b.length:=by unfold encText;rw[List.length_append]
  have l7:=(encNum_len x.v.b.length).2
  refine⟨cell_at c19 rfl, ?_⟩
  refine num_ok x.till W19 (by simp only[List.length_append];omega) rfl (by omega) fun h20 S20 W20 s20=>⟨_,rfl, ?_⟩
  have u20:=u19.step s20
  have rl:=recI_len (x:=x.abs) dl
  refine bytes_ok (bs:=recI x.abs) W20 (by omega) fun q21 d21 h21 o21 f21 g21=>⟨_,_,_,rfl, ?_⟩
  have F21:Fr (fun _=>False) g h21:=f15.tt (u20.fr.tt f21)
  have z21:=F21.1
  have zg:=fg.1
  have z20:=(f15.tt u20.fr).1
  have bl:=B.len
  rw[List.length_cons,List.length_map,List.length_take] at bl
  refine(B.on F21).push (by omega) o21 (fun y hy=>⟨by have:=g21 y hy;omega,fun ho=>by have:=B.lt ho;have:=g21 y hy;omega⟩) (by omega) ?_
  intro p23 c23 h23 B23 f23 g23
  refine⟨_,_,_,rfl, ?_⟩
  rw[wrap_id (by omega) (by omega)]
  refine⟨⟨k+1,by omega,by omega, ?_, ?_⟩,by show xs.length - Int.toNat ((k:Int)+1)<xs.length - k;omega⟩
  ·rw[List.take_add_one,xit,List.map_append]
   rw[List.cons_append] at B23
   exact B23
  ·obtain⟨_,_,_,_,_,_,_,h6'⟩:=B
   exact(fg.tt F21).fresh f23 h6'
 ·have q1: ¬(k:Int)<((xs.length:Nat):Int):=by omega
  simp only[q1,decide_false,Bool.false_eq_true,if_false]
  rw[List.take_of_length_le (by omega)] at B
  exact hk g op ol oc B fg
end Obx
end Go.Proofs.YtgccegnmggjkjaaGreatDoor
set_option maxRecDepth 100000
set_option maxHeartbeats 4000000
namespace Go.Proofs.YtgccegnmggjkjaaGreatDoor
open Go.Den
variable {h : Heap} {R : Value → Heap → Prop}
theorem state_New.walk {self_0 : Bool} {self_1 : Int} {self_2 : Int} {self_3 : ByteArray} {self_4 : ByteArray} (hv :
 NewP h (.cells #[.bool self_0, .int .u64 self_1, .int .u64 self_2, .string self_3, .string self_4] T.eid_Eid) fun b h_1 =>
 eid_Eid.LD h_1 ⟨b, 0, none⟩ fun t8_0 t8_1 t8_2 t8_3 t8_4 =>
 Cl F.ident_New #[.agg #[.bool t8_0, .int .u64 t8_1, .int .u64 t8_2, .string t8_3, .string t8_4]] h_1 fun v h_2 =>
 ∃ t9_0 t9_1, v = .tuple #[.pointer t9_0, .int .i64 t9_1] ∧
 if (t9_1 != 0) = true then
 R (.tuple #[.pointer none, .int .i64 t9_1]) h_2
 else
 Cl F.quota_New #[.int .i64 4800, .int .i64 1600] h_2 fun v_1 h_3 =>
 ∃ t16_0 t16_1, v_1 = .tuple #[.pointer t16_0, .int .i64 t16_1] ∧
 if (t16_1 != 0) = true then
 R (.tuple #[.pointer none, .int .i64 t16_1]) h_3
 else
 Cl F.sessions_New #[] h_3 fun v_2 h_4 =>
 ∃ t22, v_2 = .pointer t22 ∧
 Cl F.regs_New #[] h_4 fun v_3 h_5 =>
 ∃ t23, v_3 = .pointer t23 ∧
 Cl F.copies_New #[] h_5 fun v_4 h_6 =>
 ∃ t24, v_4 = .pointer t24 ∧
 Cl F.outbox_New #[] h_6 fun v_5 h_7 =>
 ∃ t25, v_5 = .pointer t25 ∧
 NewP h_7 (.cells #[.pointer t22, .pointer t23, .pointer t24, .pointer t25, .pointer t16_0, .pointer t9_0, .int .u64 0, .int .i64 0] T.state_State) fun b_1 h_8 =>
 R (.tuple #[.pointer (some ⟨b_1, 0, none⟩), .int .i64 0]) h_8) : CallsH Tryz.prog F.state_New #[.agg #[.bool self_0, .int .u64 self_1, .int .u64 self_2, .string self_3, .string self_4]] h R :=
 callsH_of_body (.seq .leaf (.seq .leaf (.seq (.seq .leaf (.cond (.seq .leaf .leaf) .leaf)) (.seq .leaf (.seq (.seq .leaf (.cond (.seq .leaf .leaf) .leaf)) (.seq .leaf .leaf)))))) Tryz.func40 rfl rfl (Eq.mp (by kernel_rfl) hv)
theorem state_State_made.walk {s : Nat} (hv :
 ∃ t9, hcell h ⟨s, 0, none⟩ = some (.pointer t9) ∧
 if (!t9.isNone) = true then
 ∃ t16, hcell h ⟨s, 1, none⟩ = some (.pointer t16) ∧
 if (!t16.isNone) = true then
 ∃ t23, hcell h ⟨s, 2, none⟩ = some (.pointer t23) ∧
 if (!t23.isNone) = true then
 ∃ t30, hcell h ⟨s, 3, none⟩ = some (.pointer t30) ∧
 if (!t30.isNone) = true then
 ∃ t37, hcell h ⟨s, 4, none⟩ = some (.pointer t37) ∧
 if (!t37.isNone) = true then
 ∃ t44, hcell h ⟨s, 5, none⟩ = some (.pointer t44) ∧
 R (.bool (!t44.isNone)) h
 else
 R (.bool false) h
 else
 R (.bool false) h
 else
 R (.bool false) h
 else
 R (.bool false) h
 else
 R (.bool false) h) : CallsH Tryz.prog F.state_State_made #[.pointer (some ⟨s, 0, none⟩)] h R :=
 callsH_of_body (.seq .leaf (.seq .leaf .leaf)) Tryz.func118 rfl rfl (Eq.mp (by kernel_rfl) hv)
theorem state_State_made.nil.walk  (hv :
 R (.bool false) h) : CallsH Tryz.prog F.state_State_made #[.pointer none] h R :=
 callsH_of_body (.seq .leaf (.seq .leaf .leaf)) Tryz.func118 rfl rfl (Eq.mp (by kernel_rfl) hv)
theorem state_State_Pass.walk {s : Nat} {now : Int} (hv :
 Cl F.state_State_made #[.pointer (some ⟨s, 0, none⟩)] h fun v h_1 =>
 ∃ t9, v = .bool t9 ∧
 if (!t9) = true then
 R (.int .i64 6) h_1
 else
 if (decide (now > 1099511627776)) = true then
 R (.int .i64 1) h_1
 else
 ∃ t19, hcell h_1 ⟨s, 6, none⟩ = some (.int .u64 t19) ∧
 if (decide (now < t19)) = true then
 R (.int .i64 18) h_1
 else
 StoreP h_1 ⟨s, 6, none⟩ (.int .u64 now) fun h_2 =>
 ∃ t28, hcell h_2 ⟨s, 2, none⟩ = some (.pointer t28) ∧
 Cl F.copies_Table_Pass #[.pointer t28, .int .u64 now] h_2 fun v_1 h_3 =>
 ∃ t30_p t30_l t30_c, v_1 = .slice t30_p t30_l t30_c ∧
 ∃ t34, hcell h_3 ⟨s, 3, none⟩ = some (.pointer t34) ∧
 Cl F.outbox_Box_Pass #[.pointer t34, .int .u64 now] h_3 fun v_2 h_4 =>
 ∃ t36_p t36_l t36_c, v_2 = .slice t36_p t36_l t36_c ∧
 ∃ (I : Int → Heap → Prop) (mu : Int → Heap → Nat), I 0 h_4 ∧ ∀ (t38 : Int) (h_5 : Heap), I t38 h_5 →
 if (decide (t38 < ((t36_l : Nat) : Int))) = true then
 ((0 : Int) ≤ t38 ∧ t38 < ((t36_l : Nat) : Int)) ∧
 onSome t36_p fun a =>
 outbox_Item.LD h_5 (a.add (Int.toNat t38 * 4)) fun t41_0 t41_1 t41_2_p t41_2_l t41_2_c t41_3 =>
 NewP h_5 (.cells #[.int .i64 0, .int .i64 0, .slice none 0 0, .int .u64 0] T.outbox_Item) fun b h_6 =>
 outbox_Item.ST h_6 ⟨b, 0, none⟩ t41_0 t41_1 t41_2_p t41_2_l t41_2_c t41_3 fun h_7 =>
 ∃ t45, hcell h_7 ⟨s, 4, none⟩ = some (.pointer t45) ∧
 ∃ t47, hcell h_7 ⟨b, 1, none⟩ = some (.int .i64 t47) ∧
 ∃ t49_p t49_l t49_c, hcell h_7 ⟨b, 2, none⟩ = some (.slice t49_p t49_l t49_c) ∧
 Cl F.quota_Purse_Give #[.pointer t45, .int .i64 t47, .int .i64 ((t49_l : Nat) : Int)] h_7 fun v_3 h_8 =>
 ∃ t51, v_3 = .int .i64 t51 ∧
 hcell h_8 ⟨b, 2, none⟩ = some (.slice t49_p t49_l t49_c) ∧
 (I (IntKind.wrap .i64 (t38 + 1)) h_8 ∧ mu (IntKind.wrap .i64 (t38 + 1)) h_8 < mu t38 h_5)
 else
 R (.int .i64 0) h_5) : CallsH Tryz.prog F.state_State_Pass #[.pointer (some ⟨s, 0, none⟩), .int .u64 now] h R :=
 callsH_of_body (.seq .leaf (.seq (.block (.seq .leaf (.cond (.seq .leaf .leaf) (.seq .leaf (.cond (.seq .leaf .leaf) (.seq .leaf (.cond (.seq .leaf .leaf) .leaf))))))) (.seq .leaf (.seq .leaf (.seq (.seq .leaf (.block (.loop [(38, .one (.int .i64))] (.seq .leaf (.seq (.cond .leaf .leaf) (.seq (.block (.seq .leaf (.plan (.op 0 (.op 1 (.op 2 (.op 3 (.op 4 (.op 5 (.op 6 (.op 7 (.op 8 (.op 9 .done))))))))))))) .leaf)))))) (.seq .leaf .leaf)))))) Tryz.func48 rfl rfl (Eq.mp (by kernel_rfl) hv)
theorem state_State_Pass.nil.walk {now : Int} (hv :
 Cl F.state_State_made #[.pointer none] h fun v h_1 =>
 ∃ t9, v = .bool t9 ∧
 if (!t9) = true then
 R (.int .i64 6) h_1
 else
 if (decide (now > 1099511627776)) = true then
 R (.int .i64 1) h_1
 else
 False) : CallsH Tryz.prog F.state_State_Pass #[.pointer none, .int .u64 now] h R :=
 callsH_of_body (.seq .leaf (.seq (.block (.seq .leaf (.cond (.seq .leaf .leaf) (.seq .leaf (.cond (.seq .leaf .leaf) (.seq .leaf (.cond (.seq .leaf .leaf) .leaf))))))) (.seq .leaf (.seq .leaf (.seq (.seq .leaf (.block (.loop [(38, .one (.int .i64))] (.seq .leaf (.seq (.cond .leaf .leaf) (.seq (.block (.seq .leaf (.plan (.op 0 (.op 1 (.op 2 (.op 3 (.op 4 (.op 5 (.op 6 (.op 7 (.op 8 (.op 9 .done))))))))))))) .leaf)))))) (.seq .leaf .leaf)))))) Tryz.func48 rfl rfl (Eq.mp (by kernel_rfl) hv)
theorem state_State_Put.walk {s : Nat} {owner : Int} {data_p : Option Addr} {data_l data_c : Nat} {v_until : Int} (hv :
 Cl F.state_State_made #[.pointer (some ⟨s, 0, none⟩)] h fun v h_1 =>
 ∃ t14, v = .bool t14 ∧
 if (!t14) = true then
 R (.tuple #[.int .i64 0, .int .i64 6]) h_1
 else
 JoinP (fun (t16 : Bool) (h_2 : Heap) =>
 if t16 = true then
 R (.tuple #[.int .i64 0, .int .i64 15]) h_2
 else
 ∃ t39, hcell h_2 ⟨s, 3, none⟩ = some (.pointer t39) ∧
 Cl F.outbox_Box_Add #[.pointer t39, .int .i64 owner, .slice data_p data_l data_c, .int .u64 v_until] h_2 fun v_1 h_3 =>
 ∃ t43_0 t43_1, v_1 = .tuple #[.int .i64 t43_0, .int .i64 t43_1] ∧
 JoinP (fun (h_4 : Heap) =>
 R (.tuple #[.int .i64 t43_0, .int .i64 t43_1]) h_4)
 (fun J_1 =>
 if (t43_1 == 0) = true then
 ∃ t51, hcell h_3 ⟨s, 4, none⟩ = some (.pointer t51) ∧
 Cl F.quota_Purse_Take #[.pointer t51, .int .i64 owner, .int .i64 ((data_l : Nat) : Int)] h_3 fun v_2 h_5 =>
 ∃ t55, v_2 = .int .i64 t55 ∧
 J_1 h_5
 else
 J_1 h_3))
 (fun J =>
 ∃ t20, hcell h_1 ⟨s, 3, none⟩ = some (.pointer t20) ∧
 Cl F.outbox_Box_All #[.pointer t20] h_1 fun v_3 h_6 =>
 ∃ t21_p t21_l t21_c, v_3 = .slice t21_p t21_l t21_c ∧
 if (decide (((t21_l : Nat) : Int) ≥ 16)) = true then
 J true h_6
 else
 ∃ t28, hcell h_6 ⟨s, 4, none⟩ = some (.pointer t28) ∧
 Cl F.quota_Purse_Fits #[.pointer t28, .int .i64 owner, .int .i64 ((data_l : Nat) : Int)] h_6 fun v_4 h_7 =>
 ∃ t32, v_4 = .bool t32 ∧
 J (!t32) h_7)) : CallsH Tryz.prog F.state_State_Put #[.pointer (some ⟨s, 0, none⟩), .int .i64 owner, .slice data_p data_l data_c, .int .u64 v_until] h R :=
 callsH_of_body (.seq .leaf (.seq (.block (.seq .leaf (.cond (.seq .leaf .leaf) (.seq (.join [(16, .one (.bool))] .leaf) (.cond (.seq .leaf .leaf) .leaf))))) (.seq .leaf (.seq (.seq .leaf (.join [] (.cond .leaf .leaf))) (.seq .leaf .leaf))))) Tryz.func46 rfl rfl (Eq.mp (by kernel_rfl) hv)
theorem state_State_Put.nil.walk {owner : Int} {data_p : Option Addr} {data_l data_c : Nat} {v_until : Int} (hv :
 Cl F.state_State_made #[.pointer none] h fun v h_1 =>
 ∃ t14, v = .bool t14 ∧
 if (!t14) = true then
 R (.tuple #[.int .i64 0, .int .i64 6]) h_1
 else
 JoinP (fun (t16 : Bool) (h_2 : Heap) =>
 if t16 = true then
 R (.tuple #[.int .i64 0, .int .i64 15]) h_2
 else
 False)
 (fun J =>
 False)) : CallsH Tryz.prog F.state_State_Put #[.pointer none, .int .i64 owner, .slice data_p data_l data_c, .int .u64 v_until] h R :=
 callsH_of_body (.seq .leaf (.seq (.block (.seq .leaf (.cond (.seq .leaf .leaf) (.seq (.join [(16, .one (.bool))] .leaf) (.cond (.seq .leaf .leaf) .leaf))))) (.seq .leaf (.seq (.seq .leaf (.join [] (.cond .leaf .leaf))) (.seq .leaf .leaf))))) Tryz.func46 rfl rfl (Eq.mp (by kernel_rfl) hv)
theorem state_State_Cancel.walk {s : Nat} {num : Int} {owner : Int} (hv :
 NewP h (.cells #[.int .i64 num] T.int) fun b h_1 =>
 Cl F.state_State_made #[.pointer (some ⟨s, 0, none⟩)] h_1 fun v h_2 =>
 ∃ t11, v = .bool t11 ∧
 if (!t11) = true then
 R (.int .i64 6) h_2
 else
 ∃ t16, hcell h_2 ⟨s, 3, none⟩ = some (.pointer t16) ∧
 Cl F.outbox_Box_All #[.pointer t16] h_2 fun v_1 h_3 =>
 ∃ t17_p t17_l t17_c, v_1 = .slice t17_p t17_l t17_c ∧
 ∃ t21, hcell h_3 ⟨s, 3, none⟩ = some (.pointer t21) ∧
 ∃ t22, hcell h_3 ⟨b, 0, none⟩ = some (.int .i64 t22) ∧
 Cl F.outbox_Box_Cancel #[.pointer t21, .int .i64 t22, .int .i64 owner] h_3 fun v_2 h_4 =>
 ∃ t24, v_2 = .int .i64 t24 ∧
 Cl F.slices_IndexFunc_s_outbox_Item_outbox_Item #[.slice t17_p t17_l t17_c, .func (.func F.state_State_Cancel_1) #[] #[.pointer (some ⟨b, 0, none⟩)]] h_4 fun v_3 h_5 =>
 ∃ t27, v_3 = .int .i64 t27 ∧
 JoinP (fun (t33 : Bool) (h_6 : Heap) =>
 JoinP (fun (h_7 : Heap) =>
 R (.int .i64 t24) h_7)
 (fun J_1 =>
 if t33 = true then
 ∃ t37, hcell h_6 ⟨s, 4, none⟩ = some (.pointer t37) ∧
 ((0 : Int) ≤ t27 ∧ t27 < ((t17_l : Nat) : Int)) ∧
 onSome t17_p fun a =>
 ∃ t43_p t43_l t43_c, hcell h_6 ((a.add (Int.toNat t27 * 4)).add 2) = some (.slice t43_p t43_l t43_c) ∧
 Cl F.quota_Purse_Give #[.pointer t37, .int .i64 owner, .int .i64 ((t43_l : Nat) : Int)] h_6 fun v_4 h_8 =>
 ∃ t45, v_4 = .int .i64 t45 ∧
 hcell h_8 ((a.add (Int.toNat t27 * 4)).add 2) = some (.slice t43_p t43_l t43_c) ∧
 J_1 h_8
 else
 J_1 h_6))
 (fun J =>
 if (t24 == 0) = true then
 J (decide (t27 ≥ 0)) h_5
 else
 J false h_5)) : CallsH Tryz.prog F.state_State_Cancel #[.pointer (some ⟨s, 0, none⟩), .int .i64 num, .int .i64 owner] h R :=
 callsH_of_body (.seq .leaf (.seq (.seq .leaf (.cond (.seq .leaf .leaf) .leaf)) (.seq .leaf (.seq (.plan (.op 0 (.op 1 (.op 2 (.op 3 (.op 4 (.op 5 (.op 6 (.op 7 .done))))))))) (.seq (.seq .leaf (.seq (.join [(33, .one (.bool))] .leaf) (.join [] (.cond (.plan (.op 0 (.op 1 (.op 2 (.op 3 (.op 4 (.op 5 (.op 6 (.op 7 (.op 8 (.op 9 (.op 10 (.op 11 .done))))))))))))) .leaf)))) (.seq .leaf .leaf)))))) Tryz.func49 rfl rfl (Eq.mp (by kernel_rfl) hv)
theorem state_State_Cancel_1.walk {x_0 : Int} {x_1 : Int} {x_2_p : Option Addr} {x_2_l x_2_c : Nat} {x_3 : Int} {c0 : Nat} (hv :
 NewP h (.cells #[.int .i64 x_0, .int .i64 x_1, .slice x_2_p x_2_l x_2_c, .int .u64 x_3] T.outbox_Item) fun b h_1 =>
 ∃ t5, hcell h_1 ⟨b, 0, none⟩ = some (.int .i64 t5) ∧
 ∃ t6, hcell h_1 ⟨c0, 0, none⟩ = some (.int .i64 t6) ∧
 R (.bool (t5 == t6)) h_1) : CallsH Tryz.prog F.state_State_Cancel_1 #[.agg #[.int .i64 x_0, .int .i64 x_1, .slice x_2_p x_2_l x_2_c, .int .u64 x_3], .pointer (some ⟨c0, 0, none⟩)] h R :=
 callsH_of_body (.seq .leaf (.seq .leaf .leaf)) Tryz.func128 rfl rfl (Eq.mp (by kernel_rfl) hv)
theorem state_State_Take.walk {s : Nat} (hv :
 NewP h (.cells #[.int .i64 0, .int .i64 0, .slice none 0 0, .int .u64 0] T.outbox_Item) fun b h_1 =>
 Cl F.state_State_made #[.pointer (some ⟨s, 0, none⟩)] h_1 fun v h_2 =>
 ∃ t7, v = .bool t7 ∧
 if (!t7) = true then
 outbox_Item.ST h_2 ⟨b, 0, none⟩ 0 0 none 0 0 0 fun h_3 =>
 outbox_Item.LD h_3 ⟨b, 0, none⟩ fun r_0 r_1 r_2_p r_2_l r_2_c r_3 =>
 R (.tuple #[.agg #[.int .i64 r_0, .int .i64 r_1, .slice r_2_p r_2_l r_2_c, .int .u64 r_3], .int .i64 6]) h_3
 else
 ∃ t14, hcell h_2 ⟨s, 3, none⟩ = some (.pointer t14) ∧
 Cl F.outbox_Box_Take #[.pointer t14] h_2 fun v_1 h_4 =>
 ∃ t15_0_0 t15_0_1 t15_0_2_p t15_0_2_l t15_0_2_c t15_0_3 t15_1, v_1 = .tuple #[.agg #[.int .i64 t15_0_0, .int .i64 t15_0_1, .slice t15_0_2_p t15_0_2_l t15_0_2_c, .int .u64 t15_0_3], .int .i64 t15_1] ∧
 NewP h_4 (.cells #[.int .i64 0, .int .i64 0, .slice none 0 0, .int .u64 0] T.outbox_Item) fun b_1 h_5 =>
 outbox_Item.ST h_5 ⟨b_1, 0, none⟩ t15_0_0 t15_0_1 t15_0_2_p t15_0_2_l t15_0_2_c t15_0_3 fun h_6 =>
 JoinP (fun (h_7 : Heap) =>
 outbox_Item.LD h_7 ⟨b_1, 0, none⟩ fun t30_0 t30_1 t30_2_p t30_2_l t30_2_c t30_3 =>
 outbox_Item.ST h_7 ⟨b, 0, none⟩ t30_0 t30_1 t30_2_p t30_2_l t30_2_c t30_3 fun h_8 =>
 outbox_Item.LD h_8 ⟨b, 0, none⟩ fun r_0_1 r_1_1 r_2_p_1 r_2_l_1 r_2_c_1 r_3_1 =>
 R (.tuple #[.agg #[.int .i64 r_0_1, .int .i64 r_1_1, .slice r_2_p_1 r_2_l_1 r_2_c_1, .int .u64 r_3_1], .int .i64 t15_1]) h_8)
 (fun J =>
 if (t15_1 == 0) = true then
 ∃ t23, hcell h_6 ⟨s, 4, none⟩ = some (.pointer t23) ∧
 ∃ t25, hcell h_6 ⟨b_1, 1, none⟩ = some (.int .i64 t25) ∧
 ∃ t27_p t27_l t27_c, hcell h_6 ⟨b_1, 2, none⟩ = some (.slice t27_p t27_l t27_c) ∧
 Cl F.quota_Purse_Give #[.pointer t23, .int .i64 t25, .int .i64 ((t27_l : Nat) : Int)] h_6 fun v_2 h_9 =>
 ∃ t29, v_2 = .int .i64 t29 ∧
 hcell h_9 ⟨b_1, 2, none⟩ = some (.slice t27_p t27_l t27_c) ∧
 J h_9
 else
 J h_6)) : CallsH Tryz.prog F.state_State_Take #[.pointer (some ⟨s, 0, none⟩)] h R :=
 callsH_of_body (.seq .leaf (.seq (.seq .leaf (.cond (.seq .leaf .leaf) .leaf)) (.seq .leaf (.seq (.seq .leaf (.join [] (.cond (.plan (.op 0 (.op 1 (.op 2 (.op 3 (.op 4 (.op 5 (.op 6 (.op 7 (.op 8 (.op 9 .done))))))))))) .leaf))) (.seq .leaf .leaf))))) Tryz.func47 rfl rfl (Eq.mp (by kernel_rfl) hv)
theorem state_State_Save.walk {s : Nat} (hv :
 Cl F.state_State_made #[.pointer (some ⟨s, 0, none⟩)] h fun v h_1 =>
 ∃ t11, v = .bool t11 ∧
 if (!t11) = true then
 R (.slice none 0 0) h_1
 else
 ∃ t16, hcell h_1 ⟨s, 5, none⟩ = some (.pointer t16) ∧
 Cl F.ident_Maker_Last #[.pointer t16] h_1 fun v_1 h_2 =>
 ∃ t17_0 t17_1 t17_2 t17_3 t17_4 t17_5 t17_6, v_1 = .agg #[.bool t17_0, .int .u64 t17_1, .int .u64 t17_2, .string t17_3, .string t17_4, .int .u64 t17_5, .int .u64 t17_6] ∧
 NewP h_2 (.cells #[.bool false, .int .u64 0, .int .u64 0, .string (⟨#[]⟩ : ByteArray), .string (⟨#[]⟩ : ByteArray), .int .u64 0, .int .u64 0] T.ident_Ident) fun b h_3 =>
 ident_Ident.ST h_3 ⟨b, 0, none⟩ t17_0 t17_1 t17_2 t17_3 t17_4 t17_5 t17_6 fun h_4 =>
 eid_Eid.LD h_4 ⟨b, 0, none⟩ fun t20_0 t20_1 t20_2 t20_3 t20_4 =>
 Cl F.eid_Text #[.agg #[.bool t20_0, .int .u64 t20_1, .int .u64 t20_2, .string t20_3, .string t20_4]] h_4 fun v_2 h_5 =>
 ∃ t21_0 t21_1, v_2 = .tuple #[.string t21_0, .int .i64 t21_1] ∧
 JoinP (fun (l : Option Addr) (h_6 : Heap) =>
 JoinP (fun (w : Option Addr) (h_7 : Heap) =>
 onSome l fun a =>
 a4_s_s_uint8.LD h_7 a fun t65_0_p t65_0_l t65_0_c t65_1_p t65_1_l t65_1_c t65_2_p t65_2_l t65_2_c t65_3_p t65_3_l t65_3_c =>
 ∃ (I : Int → Heap → Prop) (mu : Int → Heap → Nat), I 0 h_7 ∧ ∀ (t66 : Int) (h_8 : Heap), I t66 h_8 →
 if (decide (t66 < 4)) = true then
 ((0 : Int) ≤ t66 ∧ t66 < ((4 : Nat) : Int)) ∧
 (t66 = ((0 : Nat) : Int) →
 Cl F.fields_Writer_Int #[.pointer w, .int .i64 ((t65_0_l : Nat) : Int)] h_8 fun v_3 h_9 =>
 ∃ t72, v_3 = .pointer t72 ∧
 (I (IntKind.wrap .i64 (t66 + 1)) h_9 ∧ mu (IntKind.wrap .i64 (t66 + 1)) h_9 < mu t66 h_8)) ∧
 (t66 = ((1 : Nat) : Int) →
 Cl F.fields_Writer_Int #[.pointer w, .int .i64 ((t65_1_l : Nat) : Int)] h_8 fun v_4 h_10 =>
 ∃ t72_1, v_4 = .pointer t72_1 ∧
 (I (IntKind.wrap .i64 (t66 + 1)) h_10 ∧ mu (IntKind.wrap .i64 (t66 + 1)) h_10 < mu t66 h_8)) ∧
 (t66 = ((2 : Nat) : Int) →
 Cl F.fields_Writer_Int #[.pointer w, .int .i64 ((t65_2_l : Nat) : Int)] h_8 fun v_5 h_11 =>
 ∃ t72_2, v_5 = .pointer t72_2 ∧
 (I (IntKind.wrap .i64 (t66 + 1)) h_11 ∧ mu (IntKind.wrap .i64 (t66 + 1)) h_11 < mu t66 h_8)) ∧
 (t66 = ((3 : Nat) : Int) →
 Cl F.fields_Writer_Int #[.pointer w, .int .i64 ((t65_3_l : Nat) : Int)] h_8 fun v_6 h_12 =>
 ∃ t72_3, v_6 = .pointer t72_3 ∧
 (I (IntKind.wrap .i64 (t66 + 1)) h_12 ∧ mu (IntKind.wrap .i64 (t66 + 1)) h_12 < mu t66 h_8)) ∧
 True
 else
 onSome l fun a_1 =>
 Cl F.fields_Writer_Bytes #[.pointer w] h_8 fun v_7 h_13 =>
 ∃ t75_p t75_l t75_c, v_7 = .slice t75_p t75_l t75_c ∧
 (NewP h_13 (.cells #[.slice t75_p t75_l t75_c] T.s_uint8) fun b_1 h_14 =>
 Cl F.slices_Concat_s_s_byte_s_byte #[.slice (slBase (some a_1) 4 0 1) (4 - 0) (4 - 0)] h_14 fun v_8 h_15 =>
 ∃ t78_p t78_l t78_c, v_8 = .slice t78_p t78_l t78_c ∧
 denSem Tryz.prog (Builtin.append_ #[T.s_s_uint8, T.s_s_uint8] T.s_s_uint8 #[.slice (some ⟨b_1, 0, none⟩) 1 1, .slice t78_p t78_l t78_c]) h_15 fun v_9 h_16 =>
 ∃ t79_p t79_l t79_c, v_9 = .slice t79_p t79_l t79_c ∧
 R (.slice t79_p t79_l t79_c) h_16) ∧
 (Cl F.slices_Concat_s_s_byte_s_byte #[.slice (slBase (some a_1) 4 0 1) (4 - 0) (4 - 0)] h_13 fun v_10 h_17 =>
 ∃ t78_p_1 t78_l_1 t78_c_1, v_10 = .slice t78_p_1 t78_l_1 t78_c_1 ∧
 NewP h_17 (.cells #[.slice t75_p t75_l t75_c] T.s_uint8) fun b_2 h_18 =>
 denSem Tryz.prog (Builtin.append_ #[T.s_s_uint8, T.s_s_uint8] T.s_s_uint8 #[.slice (some ⟨b_2, 0, none⟩) 1 1, .slice t78_p_1 t78_l_1 t78_c_1]) h_18 fun v_11 h_19 =>
 ∃ t79_p_1 t79_l_1 t79_c_1, v_11 = .slice t79_p_1 t79_l_1 t79_c_1 ∧
 R (.slice t79_p_1 t79_l_1 t79_c_1) h_19) ∧
 True)
 (fun J_1 =>
 ∃ t52, hcell h_6 ⟨s, 6, none⟩ = some (.int .u64 t52) ∧
 ∃ t57, hcell h_6 ⟨s, 7, none⟩ = some (.int .i64 t57) ∧
 ∃ t60, hcell h_6 ⟨b, 5, none⟩ = some (.int .u64 t60) ∧
 ∃ t63, hcell h_6 ⟨b, 6, none⟩ = some (.int .u64 t63) ∧
 (Cl F.fields_New #[] h_6 fun v_12 h_20 =>
 ∃ t45, v_12 = .pointer t45 ∧
 hcell h_20 ⟨b, 6, none⟩ = some (.int .u64 t63) ∧
 hcell h_20 ⟨b, 5, none⟩ = some (.int .u64 t60) ∧
 hcell h_20 ⟨s, 7, none⟩ = some (.int .i64 t57) ∧
 hcell h_20 ⟨s, 6, none⟩ = some (.int .u64 t52) ∧
 denSem Tryz.prog (convert T.string T.s_uint8 (.string t21_0)) h_20 fun v_13 h_21 =>
 ∃ t47_p t47_l t47_c, v_13 = .slice t47_p t47_l t47_c ∧
 hcell h_21 ⟨b, 6, none⟩ = some (.int .u64 t63) ∧
 hcell h_21 ⟨b, 5, none⟩ = some (.int .u64 t60) ∧
 hcell h_21 ⟨s, 7, none⟩ = some (.int .i64 t57) ∧
 hcell h_21 ⟨s, 6, none⟩ = some (.int .u64 t52) ∧
 Cl F.fields_Writer_Text #[.pointer t45, .slice t47_p t47_l t47_c] h_21 fun v_14 h_22 =>
 ∃ t48, v_14 = .pointer t48 ∧
 hcell h_22 ⟨b, 6, none⟩ = some (.int .u64 t63) ∧
 hcell h_22 ⟨b, 5, none⟩ = some (.int .u64 t60) ∧
 hcell h_22 ⟨s, 7, none⟩ = some (.int .i64 t57) ∧
 hcell h_22 ⟨s, 6, none⟩ = some (.int .u64 t52) ∧
 Cl F.fields_Writer_Num #[.pointer t48, .int .u64 t52] h_22 fun v_15 h_23 =>
 ∃ t53, v_15 = .pointer t53 ∧
 hcell h_23 ⟨b, 6, none⟩ = some (.int .u64 t63) ∧
 hcell h_23 ⟨b, 5, none⟩ = some (.int .u64 t60) ∧
 hcell h_23 ⟨s, 7, none⟩ = some (.int .i64 t57) ∧
 Cl F.fields_Writer_Int #[.pointer t53, .int .i64 t57] h_23 fun v_16 h_24 =>
 ∃ t58, v_16 = .pointer t58 ∧
 hcell h_24 ⟨b, 6, none⟩ = some (.int .u64 t63) ∧
 hcell h_24 ⟨b, 5, none⟩ = some (.int .u64 t60) ∧
 Cl F.fields_Writer_Num #[.pointer t58, .int .u64 t60] h_24 fun v_17 h_25 =>
 ∃ t61, v_17 = .pointer t61 ∧
 hcell h_25 ⟨b, 6, none⟩ = some (.int .u64 t63) ∧
 Cl F.fields_Writer_Num #[.pointer t61, .int .u64 t63] h_25 fun v_18 h_26 =>
 ∃ t64, v_18 = .pointer t64 ∧
 J_1 t64 h_26) ∧
 (denSem Tryz.prog (convert T.string T.s_uint8 (.string t21_0)) h_6 fun v_19 h_27 =>
 ∃ t47_p_1 t47_l_1 t47_c_1, v_19 = .slice t47_p_1 t47_l_1 t47_c_1 ∧
 hcell h_27 ⟨b, 6, none⟩ = some (.int .u64 t63) ∧
 hcell h_27 ⟨b, 5, none⟩ = some (.int .u64 t60) ∧
 hcell h_27 ⟨s, 7, none⟩ = some (.int .i64 t57) ∧
 hcell h_27 ⟨s, 6, none⟩ = some (.int .u64 t52) ∧
 Cl F.fields_New #[] h_27 fun v_20 h_28 =>
 ∃ t45_1, v_20 = .pointer t45_1 ∧
 hcell h_28 ⟨b, 6, none⟩ = some (.int .u64 t63) ∧
 hcell h_28 ⟨b, 5, none⟩ = some (.int .u64 t60) ∧
 hcell h_28 ⟨s, 7, none⟩ = some (.int .i64 t57) ∧
 hcell h_28 ⟨s, 6, none⟩ = some (.int .u64 t52) ∧
 Cl F.fields_Writer_Text #[.pointer t45_1, .slice t47_p_1 t47_l_1 t47_c_1] h_28 fun v_21 h_29 =>
 ∃ t48_1, v_21 = .pointer t48_1 ∧
 hcell h_29 ⟨b, 6, none⟩ = some (.int .u64 t63) ∧
 hcell h_29 ⟨b, 5, none⟩ = some (.int .u64 t60) ∧
 hcell h_29 ⟨s, 7, none⟩ = some (.int .i64 t57) ∧
 hcell h_29 ⟨s, 6, none⟩ = some (.int .u64 t52) ∧
 Cl F.fields_Writer_Num #[.pointer t48_1, .int .u64 t52] h_29 fun v_22 h_30 =>
 ∃ t53_1, v_22 = .pointer t53_1 ∧
 hcell h_30 ⟨b, 6, none⟩ = some (.int .u64 t63) ∧
 hcell h_30 ⟨b, 5, none⟩ = some (.int .u64 t60) ∧
 hcell h_30 ⟨s, 7, none⟩ = some (.int .i64 t57) ∧
 Cl F.fields_Writer_Int #[.pointer t53_1, .int .i64 t57] h_30 fun v_23 h_31 =>
 ∃ t58_1, v_23 = .pointer t58_1 ∧
 hcell h_31 ⟨b, 6, none⟩ = some (.int .u64 t63) ∧
 hcell h_31 ⟨b, 5, none⟩ = some (.int .u64 t60) ∧
 Cl F.fields_Writer_Num #[.pointer t58_1, .int .u64 t60] h_31 fun v_24 h_32 =>
 ∃ t61_1, v_24 = .pointer t61_1 ∧
 hcell h_32 ⟨b, 6, none⟩ = some (.int .u64 t63) ∧
 Cl F.fields_Writer_Num #[.pointer t61_1, .int .u64 t63] h_32 fun v_25 h_33 =>
 ∃ t64_1, v_25 = .pointer t64_1 ∧
 J_1 t64_1 h_33) ∧
 True))
 (fun J =>
 ∃ t27, hcell h_5 ⟨s, 0, none⟩ = some (.pointer t27) ∧
 ∃ t32, hcell h_5 ⟨s, 1, none⟩ = some (.pointer t32) ∧
 ∃ t37, hcell h_5 ⟨s, 2, none⟩ = some (.pointer t37) ∧
 ∃ t42, hcell h_5 ⟨s, 3, none⟩ = some (.pointer t42) ∧
 (Cl F.sessions_Table_Save #[.pointer t27] h_5 fun v_26 h_34 =>
 ∃ t28_p t28_l t28_c, v_26 = .slice t28_p t28_l t28_c ∧
 hcell h_34 ⟨s, 3, none⟩ = some (.pointer t42) ∧
 hcell h_34 ⟨s, 2, none⟩ = some (.pointer t37) ∧
 hcell h_34 ⟨s, 1, none⟩ = some (.pointer t32) ∧
 (Cl F.regs_Table_Save #[.pointer t32] h_34 fun v_27 h_35 =>
 ∃ t33_p t33_l t33_c, v_27 = .slice t33_p t33_l t33_c ∧
 hcell h_35 ⟨s, 3, none⟩ = some (.pointer t42) ∧
 hcell h_35 ⟨s, 2, none⟩ = some (.pointer t37) ∧
 (Cl F.copies_Table_Save #[.pointer t37] h_35 fun v_28 h_36 =>
 ∃ t38_p t38_l t38_c, v_28 = .slice t38_p t38_l t38_c ∧
 hcell h_36 ⟨s, 3, none⟩ = some (.pointer t42) ∧
 (Cl F.outbox_Box_Save #[.pointer t42] h_36 fun v_29 h_37 =>
 ∃ t43_p t43_l t43_c, v_29 = .slice t43_p t43_l t43_c ∧
 NewP h_37 (.cells #[.slice none 0 0, .slice none 0 0, .slice none 0 0, .slice none 0 0] T.a4_s_s_uint8) fun b_3 h_38 =>
 a4_s_s_uint8.ST h_38 ⟨b_3, 0, none⟩ t28_p t28_l t28_c t33_p t33_l t33_c t38_p t38_l t38_c t43_p t43_l t43_c fun h_39 =>
 J (some ⟨b_3, 0, none⟩) h_39) ∧
 (NewP h_36 (.cells #[.slice none 0 0, .slice none 0 0, .slice none 0 0, .slice none 0 0] T.a4_s_s_uint8) fun b_4 h_40 =>
 hcell h_40 ⟨s, 3, none⟩ = some (.pointer t42) ∧
 Cl F.outbox_Box_Save #[.pointer t42] h_40 fun v_30 h_41 =>
 ∃ t43_p_1 t43_l_1 t43_c_1, v_30 = .slice t43_p_1 t43_l_1 t43_c_1 ∧
 a4_s_s_uint8.ST h_41 ⟨b_4, 0, none⟩ t28_p t28_l t28_c t33_p t33_l t33_c t38_p t38_l t38_c t43_p_1 t43_l_1 t43_c_1 fun h_42 =>
 J (some ⟨b_4, 0, none⟩) h_42) ∧
 True) ∧
 (NewP h_35 (.cells #[.slice none 0 0, .slice none 0 0, .slice none 0 0, .slice none 0 0] T.a4_s_s_uint8) fun b_5 h_43 =>
 hcell h_43 ⟨s, 3, none⟩ = some (.pointer t42) ∧
 hcell h_43 ⟨s, 2, none⟩ = some (.pointer t37) ∧
 Cl F.copies_Table_Save #[.pointer t37] h_43 fun v_31 h_44 =>
 ∃ t38_p_1 t38_l_1 t38_c_1, v_31 = .slice t38_p_1 t38_l_1 t38_c_1 ∧
 hcell h_44 ⟨s, 3, none⟩ = some (.pointer t42) ∧
 Cl F.outbox_Box_Save #[.pointer t42] h_44 fun v_32 h_45 =>
 ∃ t43_p_2 t43_l_2 t43_c_2, v_32 = .slice t43_p_2 t43_l_2 t43_c_2 ∧
 a4_s_s_uint8.ST h_45 ⟨b_5, 0, none⟩ t28_p t28_l t28_c t33_p t33_l t33_c t38_p_1 t38_l_1 t38_c_1 t43_p_2 t43_l_2 t43_c_2 fun h_46 =>
 J (some ⟨b_5, 0, none⟩) h_46) ∧
 True) ∧
 (NewP h_34 (.cells #[.slice none 0 0, .slice none 0 0, .slice none 0 0, .slice none 0 0] T.a4_s_s_uint8) fun b_6 h_47 =>
 hcell h_47 ⟨s, 3, none⟩ = some (.pointer t42) ∧
 hcell h_47 ⟨s, 2, none⟩ = some (.pointer t37) ∧
 hcell h_47 ⟨s, 1, none⟩ = some (.pointer t32) ∧
 Cl F.regs_Table_Save #[.pointer t32] h_47 fun v_33 h_48 =>
 ∃ t33_p_1 t33_l_1 t33_c_1, v_33 = .slice t33_p_1 t33_l_1 t33_c_1 ∧
 hcell h_48 ⟨s, 3, none⟩ = some (.pointer t42) ∧
 hcell h_48 ⟨s, 2, none⟩ = some (.pointer t37) ∧
 Cl F.copies_Table_Save #[.pointer t37] h_48 fun v_34 h_49 =>
 ∃ t38_p_2 t38_l_2 t38_c_2, v_34 = .slice t38_p_2 t38_l_2 t38_c_2 ∧
 hcell h_49 ⟨s, 3, none⟩ = some (.pointer t42) ∧
 Cl F.outbox_Box_Save #[.pointer t42] h_49 fun v_35 h_50 =>
 ∃ t43_p_3 t43_l_3 t43_c_3, v_35 = .slice t43_p_3 t43_l_3 t43_c_3 ∧
 a4_s_s_uint8.ST h_50 ⟨b_6, 0, none⟩ t28_p t28_l t28_c t33_p_1 t33_l_1 t33_c_1 t38_p_2 t38_l_2 t38_c_2 t43_p_3 t43_l_3 t43_c_3 fun h_51 =>
 J (some ⟨b_6, 0, none⟩) h_51) ∧
 True) ∧
 (NewP h_5 (.cells #[.slice none 0 0, .slice none 0 0, .slice none 0 0, .slice none 0 0] T.a4_s_s_uint8) fun b_7 h_52 =>
 hcell h_52 ⟨s, 3, none⟩ = some (.pointer t42) ∧
 hcell h_52 ⟨s, 2, none⟩ = some (.pointer t37) ∧
 hcell h_52 ⟨s, 1, none⟩ = some (.pointer t32) ∧
 hcell h_52 ⟨s, 0, none⟩ = some (.pointer t27) ∧
 Cl F.sessions_Table_Save #[.pointer t27] h_52 fun v_36 h_53 =>
 ∃ t28_p_1 t28_l_1 t28_c_1, v_36 = .slice t28_p_1 t28_l_1 t28_c_1 ∧
 hcell h_53 ⟨s, 3, none⟩ = some (.pointer t42) ∧
 hcell h_53 ⟨s, 2, none⟩ = some (.pointer t37) ∧
 hcell h_53 ⟨s, 1, none⟩ = some (.pointer t32) ∧
 Cl F.regs_Table_Save #[.pointer t32] h_53 fun v_37 h_54 =>
 ∃ t33_p_2 t33_l_2 t33_c_2, v_37 = .slice t33_p_2 t33_l_2 t33_c_2 ∧
 hcell h_54 ⟨s, 3, none⟩ = some (.pointer t42) ∧
 hcell h_54 ⟨s, 2, none⟩ = some (.pointer t37) ∧
 Cl F.copies_Table_Save #[.pointer t37] h_54 fun v_38 h_55 =>
 ∃ t38_p_3 t38_l_3 t38_c_3, v_38 = .slice t38_p_3 t38_l_3 t38_c_3 ∧
 hcell h_55 ⟨s, 3, none⟩ = some (.pointer t42) ∧
 Cl F.outbox_Box_Save #[.pointer t42] h_55 fun v_39 h_56 =>
 ∃ t43_p_4 t43_l_4 t43_c_4, v_39 = .slice t43_p_4 t43_l_4 t43_c_4 ∧
 a4_s_s_uint8.ST h_56 ⟨b_7, 0, none⟩ t28_p_1 t28_l_1 t28_c_1 t33_p_2 t33_l_2 t33_c_2 t38_p_3 t38_l_3 t38_c_3 t43_p_4 t43_l_4 t43_c_4 fun h_57 =>
 J (some ⟨b_7, 0, none⟩) h_57) ∧
 True)) : CallsH Tryz.prog F.state_State_Save #[.pointer (some ⟨s, 0, none⟩)] h R :=
 callsH_of_body (.seq .leaf (.seq (.seq .leaf (.cond (.seq .leaf .leaf) .leaf)) (.seq .leaf (.seq .leaf (.seq (.join [(6, .one (.ptr))] (.plan (.op 0 (.op 1 (.op 2 (.op 3 (.op 5 (.op 6 (.op 7 (.op 8 (.op 10 (.op 11 (.op 12 (.op 13 (.op 15 (.op 16 (.op 17 (.op 18 (.alts (.fork 4 (.alts (.fork 9 (.alts (.fork 14 (.alts (.fork 19 (.op 20 (.op 21 (.op 22 .done))) (.fork 21 (.op 19 (.op 20 (.op 22 .done))) .noalt))) (.fork 21 (.op 14 (.op 19 (.op 20 (.op 22 .done)))) .noalt))) (.fork 21 (.op 9 (.op 14 (.op 19 (.op 20 (.op 22 .done))))) .noalt))) (.fork 21 (.op 4 (.op 9 (.op 14 (.op 19 (.op 20 (.op 22 .done)))))) .noalt))))))))))))))))))))) (.seq (.join [(7, .one (.ptr))] (.plan (.op 1 (.op 4 (.op 5 (.op 6 (.op 7 (.op 9 (.op 10 (.op 11 (.op 12 (.op 14 (.op 15 (.op 17 (.op 18 (.alts (.fork 0 (.op 2 (.op 3 (.op 8 (.op 13 (.op 16 (.op 19 (.op 20 .done))))))) (.fork 2 (.op 0 (.op 3 (.op 8 (.op 13 (.op 16 (.op 19 (.op 20 .done))))))) .noalt)))))))))))))))))) (.seq (.seq .leaf (.block (.loop [(66, .one (.int .i64))] (.seq .leaf (.seq (.cond .leaf .leaf) (.seq (.block (.seq .leaf .leaf)) .leaf)))))) (.seq (.plan (.op 0 (.op 3 (.op 1 (.alts (.fork 2 (.op 4 (.op 5 (.op 6 .done))) (.fork 4 (.op 2 (.op 5 (.op 6 .done))) .noalt))))))) .leaf)))))))) Tryz.func50 rfl rfl (Eq.mp (by kernel_rfl) hv)
theorem state_State_Save.nil.walk  (hv :
 Cl F.state_State_made #[.pointer none] h fun v h_1 =>
 ∃ t11, v = .bool t11 ∧
 if (!t11) = true then
 R (.slice none 0 0) h_1
 else
 False) : CallsH Tryz.prog F.state_State_Save #[.pointer none] h R :=
 callsH_of_body (.seq .leaf (.seq (.seq .leaf (.cond (.seq .leaf .leaf) .leaf)) (.seq .leaf (.seq .leaf (.seq (.join [(6, .one (.ptr))] (.plan (.op 0 (.op 1 (.op 2 (.op 3 (.op 5 (.op 6 (.op 7 (.op 8 (.op 10 (.op 11 (.op 12 (.op 13 (.op 15 (.op 16 (.op 17 (.op 18 (.alts (.fork 4 (.alts (.fork 9 (.alts (.fork 14 (.alts (.fork 19 (.op 20 (.op 21 (.op 22 .done))) (.fork 21 (.op 19 (.op 20 (.op 22 .done))) .noalt))) (.fork 21 (.op 14 (.op 19 (.op 20 (.op 22 .done)))) .noalt))) (.fork 21 (.op 9 (.op 14 (.op 19 (.op 20 (.op 22 .done))))) .noalt))) (.fork 21 (.op 4 (.op 9 (.op 14 (.op 19 (.op 20 (.op 22 .done)))))) .noalt))))))))))))))))))))) (.seq (.join [(7, .one (.ptr))] (.plan (.op 1 (.op 4 (.op 5 (.op 6 (.op 7 (.op 9 (.op 10 (.op 11 (.op 12 (.op 14 (.op 15 (.op 17 (.op 18 (.alts (.fork 0 (.op 2 (.op 3 (.op 8 (.op 13 (.op 16 (.op 19 (.op 20 .done))))))) (.fork 2 (.op 0 (.op 3 (.op 8 (.op 13 (.op 16 (.op 19 (.op 20 .done))))))) .noalt)))))))))))))))))) (.seq (.seq .leaf (.block (.loop [(66, .one (.int .i64))] (.seq .leaf (.seq (.cond .leaf .leaf) (.seq (.block (.seq .leaf .leaf)) .leaf)))))) (.seq (.plan (.op 0 (.op 3 (.op 1 (.alts (.fork 2 (.op 4 (.op 5 (.op 6 .done))) (.fork 4 (.op 2 (.op 5 (.op 6 .done))) .noalt))))))) .leaf)))))))) Tryz.func50 rfl rfl (Eq.mp (by kernel_rfl) hv)
theorem ident_New.walk {source_0 : Bool} {source_1 : Int} {source_2 : Int} {source_3 : ByteArray} {source_4 : ByteArray} (hv :
 NewP h (.cells #[.bool source_0, .int .u64 source_1, .int .u64 source_2, .string source_3, .string source_4] T.eid_Eid) fun b h_1 =>
 JoinP (fun (t11 : Bool) (h_2 : Heap) =>
 if t11 = true then
 R (.tuple #[.pointer none, .int .i64 3]) h_2
 else
 eid_Eid.LD h_2 ⟨b, 0, none⟩ fun t12_0 t12_1 t12_2 t12_3 t12_4 =>
 NewP h_2 (.cells #[.bool t12_0, .int .u64 t12_1, .int .u64 t12_2, .string t12_3, .string t12_4, .int .u64 0, .int .u64 0, .bool true] T.ident_Maker) fun b_1 h_3 =>
 R (.tuple #[.pointer (some ⟨b_1, 0, none⟩), .int .i64 0]) h_3)
 (fun J =>
 eid_Eid.LD h_1 ⟨b, 0, none⟩ fun t4_0 t4_1 t4_2 t4_3 t4_4 =>
 Cl F.eid_Right #[.agg #[.bool t4_0, .int .u64 t4_1, .int .u64 t4_2, .string t4_3, .string t4_4]] h_1 fun v h_4 =>
 ∃ t5, v = .bool t5 ∧
 if (!t5) = true then
 J true h_4
 else
 eid_Eid.LD h_4 ⟨b, 0, none⟩ fun t8_0 t8_1 t8_2 t8_3 t8_4 =>
 ∃ (eq : Bool), EqV Tryz.prog T.eid_Eid (.agg #[.bool t8_0, .int .u64 t8_1, .int .u64 t8_2, .string t8_3, .string t8_4]) (.agg #[.bool false, .int .u64 0, .int .u64 0, .string (⟨#[]⟩ : ByteArray), .string (⟨#[]⟩ : ByteArray)]) eq ∧
 J eq h_4)) : CallsH Tryz.prog F.ident_New #[.agg #[.bool source_0, .int .u64 source_1, .int .u64 source_2, .string source_3, .string source_4]] h R :=
 callsH_of_body (.seq .leaf (.seq (.seq (.join [(11, .one (.bool))] .leaf) (.cond (.seq .leaf .leaf) .leaf)) (.seq .leaf .leaf))) Tryz.func104 rfl rfl (Eq.mp (by kernel_rfl) hv)
theorem ident_Maker_Last.walk {m : Nat} (hv :
 NewP h (.cells #[.bool false, .int .u64 0, .int .u64 0, .string (⟨#[]⟩ : ByteArray), .string (⟨#[]⟩ : ByteArray), .int .u64 0, .int .u64 0] T.ident_Ident) fun b h_1 =>
 JoinP (fun (t11 : Bool) (h_2 : Heap) =>
 if t11 = true then
 ident_Ident.ST h_2 ⟨b, 0, none⟩ false 0 0 (⟨#[]⟩ : ByteArray) (⟨#[]⟩ : ByteArray) 0 0 fun h_3 =>
 ident_Ident.LD h_3 ⟨b, 0, none⟩ fun r_0 r_1 r_2 r_3 r_4 r_5 r_6 =>
 R (.agg #[.bool r_0, .int .u64 r_1, .int .u64 r_2, .string r_3, .string r_4, .int .u64 r_5, .int .u64 r_6]) h_3
 else
 ident_Ident.LD h_2 ⟨m, 0, none⟩ fun t16_0 t16_1 t16_2 t16_3 t16_4 t16_5 t16_6 =>
 ident_Ident.ST h_2 ⟨b, 0, none⟩ t16_0 t16_1 t16_2 t16_3 t16_4 t16_5 t16_6 fun h_4 =>
 ident_Ident.LD h_4 ⟨b, 0, none⟩ fun r_0_1 r_1_1 r_2_1 r_3_1 r_4_1 r_5_1 r_6_1 =>
 R (.agg #[.bool r_0_1, .int .u64 r_1_1, .int .u64 r_2_1, .string r_3_1, .string r_4_1, .int .u64 r_5_1, .int .u64 r_6_1]) h_4)
 (fun J =>
 ∃ t9, hcell h_1 ⟨m, 7, none⟩ = some (.bool t9) ∧
 J (!t9) h_1)) : CallsH Tryz.prog F.ident_Maker_Last #[.pointer (some ⟨m, 0, none⟩)] h R :=
 callsH_of_body (.seq .leaf (.seq (.seq (.join [(11, .one (.bool))] .leaf) (.cond (.seq .leaf .leaf) .leaf)) (.seq .leaf .leaf))) Tryz.func129 rfl rfl (Eq.mp (by kernel_rfl) hv)
theorem slices_Concat_s_s_byte_s_byte.walk {slices_p : Option Addr} {slices_l slices_c : Nat} (hv :
 ∃ (I : Int → Int → Heap → Prop) (mu : Int → Int → Heap → Nat), I 0 0 h ∧ ∀ (size : Int) (t11 : Int) (h_1 : Heap), I size t11 h_1 →
 if (decide (t11 < ((slices_l : Nat) : Int))) = true then
 JoinP (fun (size_1 : Int) (h_2 : Heap) =>
 (I size_1 (IntKind.wrap .i64 (t11 + 1)) h_2 ∧ mu size_1 (IntKind.wrap .i64 (t11 + 1)) h_2 < mu size t11 h_1))
 (fun J =>
 ((0 : Int) ≤ t11 ∧ t11 < ((slices_l : Nat) : Int)) ∧
 onSome slices_p fun a =>
 ∃ t14_p t14_l t14_c, hcell h_1 (a.add (Int.toNat t11 * 1)) = some (.slice t14_p t14_l t14_c) ∧
 JoinP (fun (h_3 : Heap) =>
 J (IntKind.wrap .i64 (size + ((t14_l : Nat) : Int))) h_3)
 (fun J_1 =>
 if (decide ((IntKind.wrap .i64 (size + ((t14_l : Nat) : Int))) < 0)) = true then
 False
 else
 J_1 h_1))
 else
 Cl F.slices_Grow_s_s_byte_s_byte #[.slice none 0 0, .int .i64 size] h_1 fun v h_4 =>
 ∃ t24_p t24_l t24_c, v = .slice t24_p t24_l t24_c ∧
 ∃ (I_1 : Option Addr → Nat → Nat → Int → Heap → Prop) (mu_1 : Option Addr → Nat → Nat → Int → Heap → Nat), I_1 t24_p t24_l t24_c 0 h_4 ∧ ∀ (newslice_p : Option Addr) (newslice_l newslice_c : Nat) (t27 : Int) (h_5 : Heap), I_1 newslice_p newslice_l newslice_c t27 h_5 →
 if (decide (t27 < ((slices_l : Nat) : Int))) = true then
 ((0 : Int) ≤ t27 ∧ t27 < ((slices_l : Nat) : Int)) ∧
 onSome slices_p fun a_1 =>
 ∃ t30_p t30_l t30_c, hcell h_5 (a_1.add (Int.toNat t27 * 1)) = some (.slice t30_p t30_l t30_c) ∧
 denSem Tryz.prog (Builtin.append_ #[T.s_s_uint8, T.s_s_uint8] T.s_s_uint8 #[.slice newslice_p newslice_l newslice_c, .slice t30_p t30_l t30_c]) h_5 fun v_1 h_6 =>
 ∃ t33_p t33_l t33_c, v_1 = .slice t33_p t33_l t33_c ∧
 (I_1 t33_p t33_l t33_c (IntKind.wrap .i64 (t27 + 1)) h_6 ∧ mu_1 t33_p t33_l t33_c (IntKind.wrap .i64 (t27 + 1)) h_6 < mu_1 newslice_p newslice_l newslice_c t27 h_5)
 else
 R (.slice newslice_p newslice_l newslice_c) h_5) : CallsH Tryz.prog F.slices_Concat_s_s_byte_s_byte #[.slice slices_p slices_l slices_c] h R :=
 callsH_of_body (.seq .leaf (.seq .leaf (.seq (.seq .leaf (.block (.loop [(3, .one (.int .i64)), (11, .one (.int .i64))] (.seq .leaf (.seq (.cond .leaf .leaf) (.seq (.join [(3, .one (.int .i64))] (.block (.seq .leaf (.seq .leaf (.seq .leaf (.join [] (.cond .leaf .leaf))))))) .leaf)))))) (.seq .leaf (.seq (.seq .leaf (.block (.loop [(6, .one (.slice)), (27, .one (.int .i64))] (.seq .leaf (.seq (.cond .leaf .leaf) (.seq (.block (.seq .leaf .leaf)) .leaf)))))) (.seq .leaf .leaf)))))) Tryz.func135 rfl rfl (Eq.mp (by kernel_rfl) hv)
theorem slices_Grow_s_s_byte_s_byte.walk {s_p : Option Addr} {s_l s_c : Nat} {n : Int} (hv :
 JoinP (fun (h_1 : Heap) =>
 JoinP (fun (s_p_1 : Option Addr) (s_l_1 s_c_1 : Nat) (h_2 : Heap) =>
 R (.slice s_p_1 s_l_1 s_c_1) h_2)
 (fun J_1 =>
 if (decide ((IntKind.wrap .i64 (n - (IntKind.wrap .i64 (((s_c : Nat) : Int) - ((s_l : Nat) : Int))))) > 0)) = true then
 ((0 : Int) ≤ ((s_c : Nat) : Int) ∧ ((s_c : Nat) : Int) ≤ ((s_c : Nat) : Int)) ∧
 denSem Tryz.prog (Builtin.append_ #[T.s_s_uint8, T.int] T.s_s_uint8 #[.slice (slBase s_p s_c 0 1) ((Int.toNat ((s_c : Nat) : Int)) - 0) (s_c - 0), .int .i64 (IntKind.wrap .i64 (n - (IntKind.wrap .i64 (((s_c : Nat) : Int) - ((s_l : Nat) : Int)))))]) h_1 fun v h_3 =>
 ∃ t22_p t22_l t22_c, v = .slice t22_p t22_l t22_c ∧
 ((0 : Int) ≤ ((s_l : Nat) : Int) ∧ ((s_l : Nat) : Int) ≤ ((t22_c : Nat) : Int)) ∧
 J_1 (slBase t22_p t22_c 0 1) ((Int.toNat ((s_l : Nat) : Int)) - 0) (t22_c - 0) h_3
 else
 J_1 s_p s_l s_c h_1))
 (fun J =>
 if (decide (n < 0)) = true then
 False
 else
 J h)) : CallsH Tryz.prog F.slices_Grow_s_s_byte_s_byte #[.slice s_p s_l s_c, .int .i64 n] h R :=
 callsH_of_body (.seq .leaf (.seq (.seq .leaf (.join [] (.cond .leaf .leaf))) (.seq (.seq .leaf (.seq .leaf (.join [(0, .one (.slice))] (.cond .leaf .leaf)))) (.seq .leaf .leaf)))) Tryz.func180 rfl rfl (Eq.mp (by kernel_rfl) hv)
theorem slices_IndexFunc_s_outbox_Item_outbox_Item.cancel.walk {s_p : Option Addr} {s_l s_c : Nat} {f_c : Nat} (hv :
 ∃ (I : Int → Heap → Prop) (mu : Int → Heap → Nat), I 0 h ∧ ∀ (t8 : Int) (h_1 : Heap), I t8 h_1 →
 if (decide (t8 < ((s_l : Nat) : Int))) = true then
 ((0 : Int) ≤ t8 ∧ t8 < ((s_l : Nat) : Int)) ∧
 onSome s_p fun a =>
 outbox_Item.LD h_1 (a.add (Int.toNat t8 * 4)) fun t15_0 t15_1 t15_2_p t15_2_l t15_2_c t15_3 =>
 Cl F.state_State_Cancel_1 #[.agg #[.int .i64 t15_0, .int .i64 t15_1, .slice t15_2_p t15_2_l t15_2_c, .int .u64 t15_3], .pointer (some ⟨f_c, 0, none⟩)] h_1 fun v h_2 =>
 ∃ t16, v = .bool t16 ∧
 if t16 = true then
 R (.int .i64 t8) h_2
 else
 (I (IntKind.wrap .i64 (t8 + 1)) h_2 ∧ mu (IntKind.wrap .i64 (t8 + 1)) h_2 < mu t8 h_1)
 else
 R (.int .i64 (-1)) h_1) : CallsH Tryz.prog F.slices_IndexFunc_s_outbox_Item_outbox_Item #[.slice s_p s_l s_c, .func (.func F.state_State_Cancel_1) #[] #[.pointer (some ⟨f_c, 0, none⟩)]] h R :=
 callsH_of_body (.seq .leaf (.seq (.seq .leaf (.block (.loop [(8, .one (.int .i64))] (.seq .leaf (.seq (.cond .leaf .leaf) (.seq (.block (.seq .leaf (.seq .leaf (.cond (.seq .leaf .leaf) .leaf)))) .leaf)))))) (.seq .leaf .leaf))) Tryz.func127 rfl rfl (Eq.mp (by kernel_rfl) hv)
end Go.Proofs.YtgccegnmggjkjaaGreatDoor
set_option maxRecDepth 100000
namespace Go.Proofs.YtgccegnmggjkjaaGreatDoor
open Go.Den
namespace Stt
open Obx (It)
open Eid (Ev rightE ev5)
variable {h h' : Heap} {R : Value → Heap → Prop} {s k : Nat} {X : Ft} {I : Ids} {σ : SS}
theorem made_ok {n r:Nat} (B:Bk h s I n r) (hk:R (.bool true) h):CallsH Tryz.prog F.state_State_made #[pt s] h R:=by
 refine state_State_made.walk ?_
 repeat (first|exact hk|refine⟨_,cell_at B rfl, ?_⟩|rw[if_pos rfl])
theorem Pt.put {n r:Nat} (H:Pt h s X I σ) (b:Bk h' s I n r) (hs:h'.size=h.size) (ho: ∀x,x≠s→h'[x]? =h[x]?): ∃X',Pt h' s X' I { σ with now:=n,rf:=r } ∧StepF X h X' h':=by
 obtain⟨Z,⟨hb,on⟩,zm,zd,go⟩:=H.use 6
 obtain⟨X',H',st,_,_⟩:=go h' Z { σ with now:=n,rf:=r } ⟨b,on⟩ (StepF.of_fr (Fr.of_eq hs fun c hc=>ho c (fun e=>hc ((on c).1.2 e)))) (fun i hi=>part_n _ _ hi)
 exact⟨X',H',st⟩
theorem Pt.give {n o:Int} {x:It} {l:List It} (H:Pt h s X I σ) (e:σ.Q.Perm (x::l)) (ok:okQ σ.Q) (kx:okI x) (hn:n=(x.d.length:Int)) (ho:o=x.owner)
  (hk: ∀h' X',Pt h' s X' I { σ with Q:=l } →StepF X h X' h'→R (.int .i64 0) h'):CallsH Tryz.prog F.quota_Purse_Give #[pt I.p, .int .i64 o, .int .i64 n] h R:=by
 subst ho
 obtain⟨Z,⟨m,P,on⟩,zm,zd,go⟩:=H.use 4
 refine give1 (P.perm e) (okQ.perm ok e) kx hn fun h' P' f'=> ?_
 obtain⟨X',H',st,_,_⟩:=go h' Z { σ with Q:=l } ⟨m,P',on⟩ (StepF.of_fr (f'.mono fun y _ hy=>(on y).1.2 hy)) (fun i hi=>part_Q _ hi)
 exact hk h' X' H' st
theorem Pt.perm {l:List It} (H:Pt h s X I σ) (e:σ.Q.Perm l):Pt h s X I { σ with Q:=l } :=by
 obtain⟨Y,hp,r⟩:=H
 refine⟨Y,fun i=> ?_,r⟩
 by_cases hi:i=4
 ·subst hi
  obtain⟨m,P,on⟩:=hp 4
  exact⟨m,P.perm e,on⟩
 ·rw[part_Q _ hi];exact hp i
theorem okQ_drop {l r:List It} (ok:okQ (l++r)): ∀j,okQ (l.drop j++r)
 |0=>ok
 |j+1=>by
  have h:=okQ_drop ok j
  rcases Nat.lt_or_ge j l.length with q|q
  ·rw[List.drop_eq_getElem_cons q] at h;exact okQ.sub h
  ·rw[List.drop_eq_nil_of_le q] at h;rw[List.drop_eq_nil_of_le (by omega)];exact h
theorem Pt.okB (H:Pt h s X I σ): ∃L,Obx.okB σ.B L:=by
 obtain⟨Z,L,B,ok⟩:=H.box
 exact⟨L,ok⟩
theorem Pt.ord (H:Pt h s X I σ):Cps.Ord σ.C:=by
 obtain⟨Y,hp,_⟩:=H
 exact Cps.Ct.ord (hp 2)
theorem okI_of {L:List Go.Heapq.E} {B:Obx.BS} (ok:Obx.okB B L) {x:It} (hx:x∈B.items):okI x:=by
 have:=ok.it x hx
 exact⟨this.2.2.1,this.2.2.2.1,this.2.2.2.2.1,this.2.2.2.2.2.1⟩
theorem Good.small (G:Good σ k) (O:Cps.Ord σ.C) (hk:k≤40000):Cps.Small σ.C:=G.c.small O hk
theorem due_items {B:Obx.BS} {L:List Go.Heapq.E} (ok:Obx.okB B L) {P:It→Bool} {ys:List It} (hm: ∀y∈ys,y∈B.items) (hp:(ys.map It.kv).Perm ((B.items.filter P).map It.kv)):ys.Perm (B.items.filter P):=by
 have nd: ∀ {l:List It},l.Sublist B.items→(l.map It.num).Nodup:=fun hs=>((ok.inc.sublist (hs.map It.num))).imp fun h=>Nat.ne_of_lt h
 have n1:((ys.map It.kv).map (fun e=>e.1)).Nodup:=by
  refine(hp.map _).nodup_iff.2 ?_
  rw[List.map_map]
  have:=nd (List.filter_sublist (l:=B.items) (p:=P))
  unfold List.Nodup at this⊢
  rw[List.pairwise_map] at this⊢
  exact this.imp fun h e=>h (by have e:((_:Nat):Int)=((_:Nat):Int):=e;exact Int.ofNat.inj e)
 have n2:ys.Nodup:=by
  rw[List.map_map] at n1
  unfold List.Nodup at n1⊢
  rw[List.pairwise_map] at n1
  exact n1.imp fun h e=>h (by rw[e])
 have n3:(B.items.filter P).Nodup:=by
  have:=nd (List.filter_sublist (l:=B.items) (p:=P))
  unfold List.Nodup at this⊢
  rw[List.pairwise_map] at this
  exact this.imp fun h e=>h (by rw[e])
 rw[List.perm_ext_iff_of_nodup n2 n3]
 have inj: ∀x∈B.items,∀y∈B.items,x.kv=y.kv→x=y:=fun x hx y hy e=>Obx.uniq ok.inc hx hy (by have e:((x.num:Nat):Int)=((y.num:Nat):Int):=congrArg Prod.fst e;exact Int.ofNat.inj e)
 intro x
 constructor
 ·intro hx
  obtain⟨y,hy,e⟩:=List.mem_map.1 (hp.mem_iff.1 (List.mem_map.2 ⟨x,hx,rfl⟩))
  rw[inj x (hm x hx) y (List.mem_filter.1 hy).1 e.symm];exact hy
 ·intro hx
  obtain⟨y,hy,e⟩:=List.mem_map.1 (hp.mem_iff.2 (List.mem_map.2 ⟨x,hx,rfl⟩))
  rw[inj x (List.mem_filter.1 hx).1 y (hm y hy) e.symm];exact hy
theorem split_perm (l:List It) (now:Nat):l.Perm (l.filter (fun x=>decide ((x.till:Int)≤(now:Int)))++l.filter (fun x=>decide ((now:Int)<(x.till:Int)))):=by
 have h:=(List.filter_append_perm (fun x:It=>decide ((x.till:Int)≤(now:Int))) l).symm
 have e:(fun x:It=> !decide ((x.till:Int)≤(now:Int)))=fun x:It=>decide ((now:Int)<(x.till:Int)):=funext fun x=>by
  by_cases q:(x.till:Int)≤(now:Int)
  ·rw[decide_eq_true q,decide_eq_false (by omega)];rfl
  ·rw[decide_eq_false q,decide_eq_true (by omega)];rfl
 rw[e] at h
 exact h
theorem pass_ok {n:Int} (now:Nat) (hn:n=(now:Int)) (H:Pt h s X I σ) (G:Good σ k) (hk8:k≤30000)
  (hk: ∀h' X',Pt h' s X' I (passA σ now)→StepF X h X' h'→R (.int .i64 (passE σ now)) h'):CallsH Tryz.prog F.state_State_Pass #[pt s, .int .u64 n] h R:=by
 subst hn
 have B:=H.blk
 refine state_State_Pass.walk (made_ok B ⟨_,rfl, ?_⟩)
 rw[if_neg (by decide)]
 unfold passA at hk
 by_cases h1:now>1099511627776
 ·have e:passE σ now=1:=if_pos h1
  rw[e,if_neg (by decide)] at hk
  rw[if_pos (decide_eq_true (by omega))]
  exact hk h X H (StepF.refl _ _)
 rw[if_neg (fun e=>h1 (by have:=of_decide_eq_true e;omega))]
 refine⟨_,cell_at B rfl, ?_⟩
 by_cases h2:now<σ.now
 ·have e:passE σ now=18:=by unfold passE;rw[if_neg h1,if_pos h2]
  rw[e,if_neg (by decide)] at hk
  rw[if_pos (decide_eq_true (by omega))]
  exact hk h X H (StepF.refl _ _)
 rw[if_neg (fun e=>h2 (by have:=of_decide_eq_true e;omega))]
 have e:passE σ now=0:=by unfold passE;rw[if_neg h1,if_neg h2]
 rw[e,if_pos rfl] at hk
 refine storeP_blk B (by simp) fun h2 a1 a2 a3=> ?_
 obtain⟨X2,H2,st2⟩:=H.put (n:=now) (r:=σ.rf) a1 a2 a3
 have O:=H.ord
 have sm:=G.small O (by omega)
 obtain⟨Z,hz,zm,zd,go⟩:=H2.use 2
 refine⟨_,cell_at H2.blk rfl,Cps.pass_ok hz sm (by have:=G.c.L;show σ.C.over≤_;omega) (Cps.Good.held G.c) (now:Int) fun h3 Z3 p3 c3 C3 s3 N3 g3=>⟨_,_,_,rfl, ?_⟩⟩
 obtain⟨X3,H3,st3,_,_⟩:=go h3 Z3 { σ with now:=now,C:=Cps.passF σ.C (now:Int) } C3 s3 (fun i hi=>part_C (σ:= { σ with now:=now }) _ hi)
 obtain⟨Z,hz,zm,zd,go⟩:=H3.use 3
 obtain⟨L,okB⟩:=H.okB
 refine⟨_,cell_at H3.blk rfl,Obx.pass_ok now rfl hz (by have:=G.b;show σ.B.next≤_;omega) fun h4 Z4 p4 c4 ys D B4 s4 o4 d4 n4 e4 so4 pm4 m4=>⟨_,_,_,rfl, ?_⟩⟩
 have yp:(ys.map Obx.IV.abs).Perm (σ.B.items.filter (fun x=>decide ((x.till:Int)≤(now:Int)))):=due_items okB (fun y hy=>by obtain⟨z,hz,rfl⟩:=List.mem_map.1 hy;exact m4 z hz) (by rw[e4];exact pm4)
 have yl:ys.length=(σ.B.items.filter (fun x=>decide ((x.till:Int)≤(now:Int)))).length:=by rw[←yp.length_eq,List.length_map]
 have eB:({ σ.B with items:=σ.B.items.filter (fun x=>decide ((now:Int)<(x.till:Int))),over:=σ.B.over+ys.length } :Obx.BS)=passB σ.B now:=by unfold passB;rw[yl]
 rw[eB] at B4
 obtain⟨X4,H4,st4,dd4,nn4⟩:=go h4 Z4 { σ with now:=now,C:=Cps.passF σ.C (now:Int),B:=passB σ.B now } B4 s4 (fun i hi=>part_B (σ:= { σ with now:=now,C:=Cps.passF σ.C (now:Int) }) _ hi)
 have st:=st2.trans (st3.trans st4)
 have nX4: ∀y,inBlk p4 y→ ¬(X4.M y∨X4.D y)∧h3.size≤y:=fun y hy=>⟨fun hm=>(n4 y hy).2 (nn4 y (n4 y hy).1 hm),(n4 y hy).1⟩
 have hq:(σ.Q).Perm (ys.map Obx.IV.abs++(passB σ.B now).items):=by
  rw[G.q]
  exact(split_perm _ now).trans (yp.symm.append_right _)
 have okA:okQ (ys.map Obx.IV.abs++(passB σ.B now).items):=okQ.perm G.ok hq
 refine⟨fun i g=> ∃(j:Nat) (Xg:Ft),i=(j:Int)∧j≤ys.length∧Pt g s Xg I { σ with now:=now,C:=Cps.passF σ.C (now:Int),B:=passB σ.B now,Q:=(ys.map Obx.IV.abs).drop j++(passB σ.B now).items } ∧StepF X4 h4 Xg g∧Own g p4 ys.length c4 4 (ys.flatMap Obx.ienc),fun i _=>ys.length - i.toNat,
  ⟨0,X4,rfl,Nat.zero_le _,H4.perm hq,StepF.refl _ _,o4⟩, ?_⟩
 rintro _ g ⟨j,Xg,rfl,hj,Hg,sg,og⟩
 have l16:ys.length≤16:=by rw[yl];exact Nat.le_trans (List.length_filter_le _ _) okB.le
 by_cases hl:j<ys.length
 ·rw[if_pos (decide_eq_true (by omega))]
  have hy:ys[j]? =some ys[j]:=List.getElem?_eq_getElem hl
  obtain⟨pb,po,rfl⟩:=og.addr (by omega)
  refine⟨⟨by omega,by omega⟩,onSome_some.2 (outbox_Item.ldA (by rw[Int.toNat_natCast];exact og.heldAt Obx.ienc_len hy) (outbox_Item.new fun b g1 eb hb f1=> ?_))⟩
  have H1:=Hg.on f1
  have ed:(ys.map Obx.IV.abs).drop j=ys[j].abs::(ys.map Obx.IV.abs).drop (j+1):=by
   rw[List.drop_eq_getElem_cons (by rw[List.length_map];exact hl),List.getElem_map]
  have okj:=okQ_drop okA j
  refine⟨_,cell_at H1.blk rfl,_,cell_at hb rfl,_,_,_,cell_at hb rfl,H1.give (x:=ys[j].abs) (l:=(ys.map Obx.IV.abs).drop (j+1)++(passB σ.B now).items) (by show((ys.map Obx.IV.abs).drop j++_).Perm _;rw[ed];exact .refl _) okj (okI_of okB (m4 _ (List.getElem_mem hl))) rfl rfl fun g2 X2 H2 st2=>⟨_,rfl, ?_, ?_⟩⟩
  ·have lb:=lt_of_get hb
   exact st2.fr.cell (cell_at hb rfl) (fun hm=>by have:=Hg.lt b (.inl hm);omega)
  ·rw[wrap_id (by omega) (by omega)]
   have s2:=sg.on f1|>.trans st2
   refine⟨⟨j+1,X2,by omega,by omega,H2,s2,(og.frame f1 (fun _ _=>id)).frame st2.fr (fun y hy hm=> ?_)⟩,by show ys.length - Int.toNat ((j:Int)+1)<ys.length - Int.toNat (j:Int);omega⟩
   rcases sg.newM y hm with a|a
   ·exact(nX4 y hy).1 (.inl a)
   ·have:=o4.blk_lt hy;omega
 ·rw[if_neg (fun e=>hl (by have:=of_decide_eq_true e;omega))]
  refine hk g Xg ?_ (st.trans sg)
  rw[List.drop_eq_nil_of_le (by rw[List.length_map];omega)] at Hg
  exact Hg
end Stt
end Go.Proofs.YtgccegnmggjkjaaGreatDoor
set_option maxRecDepth 100000
namespace Go.Proofs.YtgccegnmggjkjaaGreatDoor
open Go.Den
namespace Stt
open Eid (Ev rightE ev5)
variable {h h' : Heap} {R : Value → Heap → Prop} {s k : Nat} {X : Ft} {I : Ids} {σ : SS}
def mayE (x:Ev):Prop:=rightE x=true∧x≠Ev.zero
instance (x : Ev) : Decidable (mayE x) := by unfold mayE; infer_instance
theorem identNew_ok (x:Ev) (k1:mayE x→ ∀h' b,Mk h' b x 0 0→h.size≤b→Fr (fun _=>False) h h'→R (.tuple #[pt b, .int .i64 0]) h')
  (k2: ¬mayE x→ ∀h',Fr (fun _=>False) h h'→R (.tuple #[.pointer none, .int .i64 3]) h'):CallsH Tryz.prog F.ident_New #[ev5 x] h R:=by
 refine ident_New.walk (eid_Eid.box fun b h1 eb hb f1=>JoinP.of fun J hJ=>eid_Eid.ld hb (Eid.right_ok x fun h2 f2=>⟨_,rfl, ?_⟩))
 have hb2:=f2.get hb id
 cases hr:rightE x with
 |false=>
  rw[if_pos (by decide)]
  subst hJ
  exact k2 (fun m=>by rw[m.1] at hr;cases hr) h2 (f1.tt f2)
 |true=>
  rw[if_neg (by decide)]
  refine eid_Eid.ld hb2 ⟨_,Eid.eqv' (y:=Ev.zero) rfl rfl, ?_⟩
  subst hJ
  by_cases hz:x=Ev.zero
  ·rw[decide_eq_true hz]
   dsimp only
   rw[if_pos rfl]
   exact k2 (fun m=>m.2 hz) h2 (f1.tt f2)
  ·rw[decide_eq_false hz]
   dsimp only
   rw[if_neg (by decide)]
   refine eid_Eid.ld hb2 (newP_of (k1 ⟨hr,hz⟩ _ _ push_new (Nat.le_trans f1.1 f2.1) ((f1.tt f2).tt (Fr.push _ _))))
theorem new_ok (x:Ev) (k1:mayE x→ ∀h' s X I,Pt h' s X I (newS x)→UpF h X h'→R (.tuple #[pt s, .int .i64 0]) h')
  (k2: ¬mayE x→ ∀h',Fr (fun _=>False) h h'→R (.tuple #[.pointer none, .int .i64 3]) h'):CallsH Tryz.prog F.state_New #[ev5 x] h R:=by
 refine state_New.walk (eid_Eid.box fun b h1 eb hb f1=>eid_Eid.ld hb (identNew_ok x (fun hm h2 k M2 g2 f2=>⟨_,_,rfl, ?_⟩) (fun hm h2 f2=>⟨_,_,rfl, ?_⟩)))
 ·rw[if_neg (by decide)]
  refine Quota.new_ok 4800 1600 (fun _ h3 p m P3 g3 g3' f3=>⟨_,_,rfl, ?_⟩) (fun e=>absurd e (by decide))
  rw[if_neg (by decide)]
  refine Ses.new_ok fun h4 t X0 H4 f4 u4=>⟨_,rfl,Regs.new_ok fun h5 r X1 H5 u5=>⟨_,rfl,Cps.new_ok fun h6 c X2 H6 u6=>⟨_,rfl,Obx.new_ok fun h7 o X3 H7 f7 u7=>⟨_,rfl,newP_of ?_⟩⟩⟩⟩
  have f8:Fr (fun _=>False) h7 (h7.push (.cells #[.pointer (some ⟨t,0,none⟩), .pointer (some ⟨r,0,none⟩), .pointer (some ⟨c,0,none⟩), .pointer (some ⟨o,0,none⟩), .pointer (some ⟨p,0,none⟩), .pointer (some ⟨k,0,none⟩), .int .u64 0, .int .i64 0] T.state_State)):=Fr.push _ _
  have B8:(h7.push (.cells #[.pointer (some ⟨t,0,none⟩), .pointer (some ⟨r,0,none⟩), .pointer (some ⟨c,0,none⟩), .pointer (some ⟨o,0,none⟩), .pointer (some ⟨p,0,none⟩), .pointer (some ⟨k,0,none⟩), .int .u64 0, .int .i64 0] T.state_State))[h7.size]? =_:=push_new
  have z8:(h7.push (.cells #[.pointer (some ⟨t,0,none⟩), .pointer (some ⟨r,0,none⟩), .pointer (some ⟨c,0,none⟩), .pointer (some ⟨o,0,none⟩), .pointer (some ⟨p,0,none⟩), .pointer (some ⟨k,0,none⟩), .int .u64 0, .int .i64 0] T.state_State)).size=h7.size+1:=Array.size_push _
  generalize h7.push (.cells #[.pointer (some ⟨t,0,none⟩), .pointer (some ⟨r,0,none⟩), .pointer (some ⟨c,0,none⟩), .pointer (some ⟨o,0,none⟩), .pointer (some ⟨p,0,none⟩), .pointer (some ⟨k,0,none⟩), .int .u64 0, .int .i64 0] T.state_State)=h8 at f8 B8 z8⊢
  have F7:=f7.tt f8
  have F6:=u6.fr.tt F7
  have F5:=u5.fr.tt F6
  have F4:=f4.tt F5
  have F3:=f3.tt F4
  have F8:=f1.tt (f2.tt F3)
  have z1:=f1.1
  have z2:=f2.1
  have z3:=f3.1
  have z4:=f4.1
  have z5:=u5.fr.1
  have z6:=u6.fr.1
  have z7:=f7.1
  have lp:=P3.lt
  have lk:=lt_of_get M2
  let Y:Nat→Ft:=fun i=>match i with
   |0=>X0|1=>X1|2=>X2|3=>X3
   |4=>⟨fun y=>y=p∨y=m,fun _=>False⟩
   |5=>⟨fun y=>y=k,fun _=>False⟩
   |6=>⟨fun y=>y=h7.size,fun _=>False⟩
   |_=>⟨fun _=>False,fun _=>False⟩
  let lo:Nat→Nat:=fun i=> [h3.size,h4.size,h5.size,h6.size,h2.size,h1.size].getD i h7.size
  let hi:Nat→Nat:=fun i=> [h4.size,h5.size,h6.size,h7.size,h3.size,h2.size].getD i h8.size
  have bd: ∀i y,In (Y i) y→lo i≤y∧y<hi i:=fun i y hy=>by
   rcases i with _|_|_|_|_|_|_|i
   ·exact⟨u4 y hy,H4.lt y hy⟩
   ·exact⟨u5.ge y hy,H5.lt y hy⟩
   ·exact⟨u6.ge y hy,H6.lt y hy⟩
   ·exact⟨u7 y hy,H7.lt y hy⟩
   ·rcases hy with hy|hy
    ·rcases hy with rfl|rfl
     ·exact⟨g3,lp.1⟩
     ·exact⟨g3',lp.2⟩
    ·exact hy.elim
   ·rcases hy with hy|hy
    ·have hy:y=k:=hy
     exact⟨hy▸g2,hy▸lk⟩
    ·exact hy.elim
   ·rcases hy with hy|hy
    ·have hy:y=h7.size:=hy
     exact⟨by show h7.size≤y;omega,by show y<h8.size;omega⟩
    ·exact hy.elim
   ·rcases hy with hy|hy<;>exact hy.elim
  refine k1 hm h8 h7.size ⟨fun y=> ∃i,(Y i).M y,fun y=> ∃i,(Y i).D y⟩ ⟨t,r,c,o,p,k⟩ ⟨Y,fun i=> ?_,fun i j y hij hy hz=> ?_,fun _=>Iff.rfl,fun _=>Iff.rfl⟩ ⟨F8,fun y hy=> ?_⟩
  ·rcases i with _|_|_|_|_|_|_|i
   ·exact H4.frame F5 (fun _ _=>id)
   ·exact H5.on F6
   ·exact H6.on F7
   ·exact Obx.Box.on ⟨[],H7,Obx.okB.nil⟩ f8
   ·exact⟨m,P3.frame F4 id id,fun y=>⟨Iff.rfl,id⟩⟩
   ·exact⟨F3.get M2 id,fun y=>⟨Iff.rfl,id⟩⟩
   ·exact⟨B8,fun y=>⟨Iff.rfl,id⟩⟩
   ·exact fun y hy=>hy.elim id id
  ·have h1:=bd i y hy
   have h2:=bd j y hz
   have e7: ∀i,¬In (Y (i+7)) y:=fun i hy=>hy.elim id id
   rcases i with _|_|_|_|_|_|_|i<;>first|exact e7 i hy|(rcases j with _|_|_|_|_|_|_|j<;>first|exact e7 j hz|exact hij rfl|(simp only[lo,hi,List.getD_cons_zero,List.getD_cons_succ,List.getD_nil] at h1 h2;omega))
  ·have key: ∀i,In (Y i) y→h.size≤y:=fun i a=>by
    have h1:=(bd i y a).1
    rcases i with _|_|_|_|_|_|_|i<;>(simp only[lo,List.getD_cons_zero,List.getD_cons_succ,List.getD_nil] at h1;omega)
   rcases hy with⟨i,a⟩|⟨i,a⟩
   ·exact key i (.inl a)
   ·exact key i (.inr a)
 ·rw[if_pos (by decide)]
  exact k2 hm h2 (f1.tt f2)
end Stt
end Go.Proofs.YtgccegnmggjkjaaGreatDoor
namespace Go.Den
variable {h : Heap}
def idxOf {α:Type} (P:α→Bool) (xs:List α):Int:=match xs.findIdx? P with|some k=>(k:Int)|none=> -1
theorem idx_loop {α:Type} (P:α→Bool) {xs:List α} {n:Nat} {R:Value→Heap→Prop} (B:Int→Heap→(Bool→Heap→Prop)→Prop) (hn:n=xs.length) (hl:xs.length≤1000000000)
  (hb: ∀(k:Nat) g x K,xs[k]? =some x→Fr (fun _=>False) h g→(∀g',Fr (fun _=>False) h g'→K (P x) g')→B (k:Int) g K)
  (hk: ∀g,Fr (fun _=>False) h g→R (.int .i64 (idxOf P xs)) g):
  ∃(I:Int→Heap→Prop) (mu:Int→Heap→Nat),I 0 h∧ ∀(t:Int) (g:Heap),I t g→if(decide (t<((n:Nat):Int)))=true then B t g (fun q g2=>if q=true then R (.int .i64 t) g2 else(I (IntKind.wrap .i64 (t+1)) g2∧mu (IntKind.wrap .i64 (t+1)) g2<mu t g)) else R (.int .i64 (-1)) g:=by
 subst hn
 refine⟨fun i g=>Fr (fun _=>False) h g∧ ∃k:Nat,i=(k:Int)∧k≤xs.length∧ ∀j (hj:j<xs.length),j<k→ ¬P xs[j]=true,fun i _=>xs.length - i.toNat,⟨Fr.refl _ _,0,rfl,by omega,fun j _ hj=>by omega⟩, ?_⟩
 rintro _ g ⟨f,k,rfl,hkn,hall⟩
 by_cases hlt:k<xs.length
 ·rw[if_pos (decide_eq_true (by omega))]
  refine hb k g xs[k] _ (List.getElem?_eq_getElem hlt) f fun g' f'=> ?_
  by_cases e:P xs[k]=true
  ·rw[if_pos e]
   have:idxOf P xs=(k:Int):=by
    unfold idxOf
    rw[show xs.findIdx? P=some k from List.findIdx?_eq_some_iff_getElem.2 ⟨hlt,e,fun j hj=>hall j (by omega) hj⟩]
   rw[this] at hk
   exact hk g' f'
  ·rw[if_neg e,wrap_id (by omega) (by omega)]
   refine⟨⟨f',k+1,by omega,by omega,fun j hj hjk=> ?_⟩,by show xs.length - Int.toNat ((k:Int)+1)<xs.length - Int.toNat (k:Int);omega⟩
   by_cases q:j=k
   ·subst q;exact e
   ·exact hall j hj (by omega)
 ·rw[if_neg (fun q=>hlt (by have:=of_decide_eq_true q;omega))]
  have:idxOf P xs= -1:=by
   unfold idxOf
   rw[show xs.findIdx? P=none from List.findIdx?_eq_none_iff.2 fun x hx=> ?_]
   obtain⟨j,hj,rfl⟩:=List.getElem_of_mem hx
   exact Bool.not_eq_true _▸hall j hj (by omega)
  rw[this] at hk
  exact hk g f
end Go.Den
set_option maxRecDepth 100000
namespace Go.Proofs.YtgccegnmggjkjaaGreatDoor
open Go.Den
namespace Stt
open Obx (It IV ienc ienc_len)
open Eid (Ev rightE ev5)
variable {h h' : Heap} {R : Value → Heap → Prop} {s k : Nat} {X : Ft} {I : Ids} {σ : SS} {p : Option Addr}
theorem Pt.takeQ {n o:Int} {x:It} (H:Pt h s X I σ) (ok:okQ σ.Q) (hf:fitsQ σ.Q x.owner x.d.length=true) (hn:n=(x.d.length:Int)) (ho:o=x.owner)
  (hk: ∀h' X',Pt h' s X' I { σ with Q:=σ.Q++ [x] } →StepF X h X' h'→R (.int .i64 0) h'):CallsH Tryz.prog F.quota_Purse_Take #[pt I.p, .int .i64 o, .int .i64 n] h R:=by
 subst ho;subst hn
 obtain⟨Z,⟨m,P,on⟩,zm,zd,go⟩:=H.use 4
 refine Quota.take_ok P ok _ _ (fun _ h' P' f'=> ?_) (fun e=>by unfold fitsQ at hf;rw[hf] at e;cases e)
 rw[own_add,show tot σ.Q+(x.d.length:Int)=tot (x::σ.Q) by rw[tot_cons];omega] at P'
 obtain⟨X',H',st,_,_⟩:=go h' Z { σ with Q:=σ.Q++ [x] } ⟨m,Pu.perm P' (List.perm_append_singleton _ _).symm,on⟩ (StepF.of_fr (f'.mono fun y _ hy=>(on y).1.2 hy)) (fun i hi=>part_Q _ hi)
 exact hk h' X' H' st
theorem put_ok {owner n:Int} {bs:List UInt8} {l c:Nat} (till:Nat) (hn:n=(till:Int)) (H:Pt h s X I σ) (G:Good σ k) (hk8:k≤30000) (hr:Row h p (bc bs)) (hl:l=bs.length) (hb:bs.length≤1000000)
  (hk: ∀h' X',Pt h' s X' I (putS σ owner bs till)→StepF X h X' h'→R (.tuple #[.int .i64 (putN σ owner bs till), .int .i64 (putE σ owner bs till)]) h'):
  CallsH Tryz.prog F.state_State_Put #[pt s, .int .i64 owner, .slice p l c, .int .u64 n] h R:=by
 subst hn;subst hl
 refine state_State_Put.walk (made_ok H.blk ⟨_,rfl, ?_⟩)
 rw[if_neg (by decide)]
 obtain⟨Z,hz⟩:=H.box
 refine JoinP.of fun J hJ=>⟨_,cell_at H.blk rfl,Obx.all_ok hz fun h2 p2 l2 c2 L2 f2=>⟨_,_,_,rfl, ?_⟩⟩
 have ln:=L2.len
 have H2:=H.on f2
 have no:σ.B.items.length≥16∨fitsQ σ.Q owner bs.length=false→ ∀g,Fr (fun _=>False) h g→R (.tuple #[.int .i64 0, .int .i64 15]) g:=fun c g f=>by
  have e1:putE σ owner bs till=15:=if_pos c
  have e2:putN σ owner bs till=0:=if_pos c
  have e3:putS σ owner bs till=σ:=if_neg (by rw[e1];decide)
  rw[e1,e2,e3] at hk
  exact hk g X (H.on f) (StepF.of_no f)
 by_cases h16:σ.B.items.length≥16
 ·rw[if_pos (decide_eq_true (by omega))]
  subst hJ
  dsimp only
  rw[if_pos rfl]
  exact no (.inl h16) h2 f2
 rw[if_neg (fun e=>h16 (by have:=of_decide_eq_true e;omega))]
 obtain⟨Z4,⟨m4,P4,on4⟩,_⟩:=H2.use 4
 refine⟨_,cell_at H2.blk rfl,Quota.fits_ok P4 G.ok owner _ ⟨_,rfl, ?_⟩⟩
 subst hJ
 dsimp only
 cases hf:fitsQ σ.Q owner bs.length with
 |false=>
  rw[if_pos (show(!fitsQ σ.Q owner bs.length)=true by rw[hf];rfl)]
  exact no (.inr hf) h2 f2
 |true=>
  rw[if_neg (show¬(!fitsQ σ.Q owner bs.length)=true by rw[hf];decide)]
  have hno: ¬(σ.B.items.length≥16∨fitsQ σ.Q owner bs.length=false):=fun c=>c.elim h16 (fun e=>by rw[hf] at e;cases e)
  have eE:putE σ owner bs till=Obx.addE σ.B owner bs till:=if_neg hno
  have eN:putN σ owner bs till=Obx.addN σ.B owner bs till:=if_neg hno
  obtain⟨Z,hz,zm,zd,go⟩:=H2.use 3
  refine⟨_,cell_at H2.blk rfl,Obx.add_ok till rfl hz (hr.frame f2 (fun _ _=>id)) rfl hb (by have:=G.b;omega) fun h3 Z3 B3 s3=>⟨_,_,rfl, ?_⟩⟩
  obtain⟨X3,H3,st3,_,_⟩:=go h3 Z3 { σ with B:=Obx.addS σ.B owner bs till } B3 s3 (fun i hi=>part_B _ hi)
  have st:=StepF.no f2 st3
  refine JoinP.of fun J2 hJ2=> ?_
  rw[eE,eN] at hk
  unfold putS at hk
  rw[eE] at hk
  by_cases he:Obx.addE σ.B owner bs till=0
  ·rw[if_pos he] at hk
   rw[if_pos (by rw[he];rfl)]
   refine⟨_,cell_at H3.blk rfl,H3.takeQ (x:=⟨σ.B.next,owner,bs,till⟩) G.ok hf rfl rfl fun h4 X4 H4 st4=>⟨_,rfl, ?_⟩⟩
   subst hJ2
   refine hk h4 X4 ?_ (st.trans st4)
   have e:Obx.addS σ.B owner bs till= { σ.B with items:=σ.B.items++ [⟨σ.B.next,owner,bs,till⟩],next:=σ.B.next+1 } :=if_pos he
   rw[e] at H4⊢
   have H4:Pt h4 s X4 I { σ with B:= { σ.B with items:=σ.B.items++ [⟨σ.B.next,owner,bs,till⟩],next:=σ.B.next+1 },Q:=σ.Q++ [⟨σ.B.next,owner,bs,till⟩] } :=H4
   rw[G.q] at H4
   exact H4
  ·rw[if_neg he] at hk
   rw[if_neg (by simpa using he)]
   subst hJ2
   refine hk h3 X3 ?_ st
   have e:Obx.addS σ.B owner bs till=σ.B:=if_neg he
   rw[e] at H3
   exact H3
theorem cancel1_ok {b:Nat} {num:Int} (x:IV) (hid:Obx.NumAt h b num) (hk: ∀h',Fr (fun _=>False) h h'→R (.bool (decide ((x.num:Int)=num))) h'):CallsH Tryz.prog F.state_State_Cancel_1 #[x.agg, .pointer (some ⟨b,0,none⟩)] h R:=by
 refine state_State_Cancel_1.walk (outbox_Item.box fun b1 h1 eb hb f1=>⟨_,cell_at hb rfl,_,cell_at (f1.get hid id) rfl, ?_⟩)
 rw[show(((x.num:Nat):Int)==num)=decide ((x.num:Int)=num) by by_cases q:(x.num:Int)=num<;>simp[q]]
 exact hk h1 f1
theorem idxOf_abs (xs:List IV) (num:Int):idxOf (fun x:IV=>decide ((x.num:Int)=num)) xs=Obx.idxV (xs.map IV.abs) num:=by
 unfold idxOf Obx.idxV Obx.idxI
 rw[List.findIdx?_map];rfl
theorem index_ok {xs:List IV} {n m b:Nat} {num:Int} (hr:Row h p (xs.flatMap ienc)) (hn:n=xs.length) (hl:xs.length≤1000000000) (hid:Obx.NumAt h b num) (hk: ∀h',Fr (fun _=>False) h h'→R (.int .i64 (Obx.idxV (xs.map IV.abs) num)) h'):
  CallsH Tryz.prog F.slices_IndexFunc_s_outbox_Item_outbox_Item #[.slice p n m, .func (.func F.state_State_Cancel_1) #[] #[.pointer (some ⟨b,0,none⟩)]] h R:=by
 refine slices_IndexFunc_s_outbox_Item_outbox_Item.cancel.walk (idx_loop (fun x:IV=>decide ((x.num:Int)=num)) (fun t g K=>((0:Int)≤t∧t<((n:Nat):Int))∧onSome p fun a=>outbox_Item.LD g (a.add (Int.toNat t*4)) fun t0 t1 t2 t3 t4 t5=>
  Cl F.state_State_Cancel_1 #[.agg #[.int .i64 t0, .int .i64 t1, .slice t2 t3 t4, .int .u64 t5], .pointer (some ⟨b,0,none⟩)] g fun v g2=> ∃q,v= .bool q∧K q g2) hn hl (fun k g x K hx f hK=> ?_) (fun g f=>by rw[idxOf_abs];exact hk g f))
 have lt:=(List.getElem?_eq_some_iff.1 hx).1
 have hr1:=hr.frame f (fun _ _=>id)
 obtain⟨a,rfl⟩:=hr1.some (fun e=>by have:=congrArg List.length e;rw[flat_len ienc 4 ienc_len,List.length_nil] at this;omega)
 exact⟨⟨by omega,by omega⟩,onSome_some.2 (outbox_Item.ldA (by rw[Int.toNat_natCast];exact hr1.heldAt ienc_len hx) (cancel1_ok x (f.get hid id) fun h2 f2=>⟨_,rfl,hK h2 (f.tt f2)⟩))⟩
theorem del_perm {l:List It} {i:Nat} {x:It} (hp:(l.map It.num).Pairwise (· < ·)) (hx:l[i]? =some x):l.Perm (x::Obx.delI l (x.num:Int)):=by
 rw[←Obx.cutI_del hp hx]
 unfold Obx.cutI
 obtain⟨h1,h2⟩:=List.getElem?_eq_some_iff.1 hx
 have e:l=l.take i++x::l.drop (i+1):=by rw[←h2,←List.drop_eq_getElem_cons h1,List.take_append_drop]
 exact(List.Perm.of_eq e).trans List.perm_middle
theorem cancel_ok {num owner:Int} (H:Pt h s X I σ) (G:Good σ k) (hk8:k≤30000)
  (hk: ∀h' X',Pt h' s X' I (cancA σ num owner)→StepF X h X' h'→R (.int .i64 (Obx.cancE σ.B num owner)) h'):CallsH Tryz.prog F.state_State_Cancel #[pt s, .int .i64 num, .int .i64 owner] h R:=by
 refine state_State_Cancel.walk (newP_of ?_)
 have f1:Fr (fun _=>False) h (h.push (.cells #[.int .i64 num] T.int)):=Fr.push _ _
 have hb1:Obx.NumAt (h.push (.cells #[.int .i64 num] T.int)) h.size num:=push_new
 generalize h.push (.cells #[.int .i64 num] T.int)=h1 at f1 hb1⊢
 have H1:=H.on f1
 obtain⟨Z0,hz0⟩:=H1.box
 obtain⟨L,ok⟩:=H.okB
 refine made_ok H1.blk ⟨_,rfl, ?_⟩
 rw[if_neg (by decide)]
 refine⟨_,cell_at H1.blk rfl,Obx.all_ok hz0 fun h2 p2 l2 c2 L2 f2=>⟨_,_,_,rfl, ?_⟩⟩
 have H2:=H1.on f2
 have hb2:=f2.get hb1 id
 obtain⟨xs,D,rfl,ox,ax,hxd,hD,hpx⟩:=L2
 obtain⟨Z,hz,zm,zd,go⟩:=H2.use 3
 refine⟨_,cell_at H2.blk rfl,_,cell_at hb2 rfl,Obx.cancel_ok hz (by have:=G.b;omega) fun h3 Z3 B3 s3=>⟨_,rfl, ?_⟩⟩
 obtain⟨X3,H3,st3,_,_⟩:=go h3 Z3 { σ with B:=Obx.cancS σ.B num owner } B3 s3 (fun i hi=>part_B _ hi)
 have z1:=f1.1
 have z2:=f2.1
 have zl: ∀y,Z.M y→y<h.size:=fun y hy=>H.lt y (.inl (zm y hy))
 have ln:xs.length=σ.B.items.length:=by rw[←ax,List.length_map]
 have hb3:Obx.NumAt h3 h.size num:=s3.fr.get hb2 (fun hm=>by have:=zl _ hm;omega)
 have o3:=ox.frame s3.fr (fun y hy hm=>by have:=zl y hm;have:=hpx y hy;omega)
 have le:=ok.le
 refine index_ok o3.row' rfl (by omega) hb3 fun h4 f4=> ?_
 have st:=StepF.no (f1.tt f2) (st3.on f4)
 have H4:=H3.on f4
 have o4:=o3.frame f4 (fun _ _=>id)
 rw[ax]
 refine⟨_,rfl,JoinP.of fun J hJ=> ?_⟩
 cases hidx:Obx.idxI σ.B.items num with
 |none=>
  have e:Obx.cancE σ.B num owner=4:=by unfold Obx.cancE;rw[hidx]
  have es:Obx.cancS σ.B num owner=σ.B:=if_neg (by rw[e];decide)
  unfold cancA at hk
  rw[e,es,←G.q] at hk
  rw[e] at hJ⊢
  rw[if_neg (by decide)]
  subst hJ
  refine JoinP.of fun J1 hJ1=> ?_
  rw[if_neg (by decide)]
  subst hJ1
  rw[es] at H4
  exact hk h4 X3 H4 st
 |some i=>
  obtain⟨x,hx,hnum⟩:=Obx.idx_some hidx
  have ev:Obx.idxV σ.B.items num=(i:Int):=by unfold Obx.idxV;rw[hidx]
  rw[ev] at hJ⊢
  have e:Obx.cancE σ.B num owner=if x.owner=owner then 0 else 13:=by unfold Obx.cancE;rw[hidx];dsimp only;rw[hx]
  by_cases ho:x.owner=owner
  ·rw[if_pos ho] at e
   have es:Obx.cancS σ.B num owner= { σ.B with items:=Obx.delI σ.B.items num,canc:=σ.B.canc+1 } :=if_pos e
   unfold cancA at hk
   rw[e] at hk
   rw[e] at hJ⊢
   rw[if_pos (by decide),decide_eq_true (by omega)]
   subst hJ
   refine JoinP.of fun J1 hJ1=> ?_
   rw[if_pos rfl]
   have hi:=(List.getElem?_eq_some_iff.1 hx).1
   have hv:xs[i]? =some xs[i]:=List.getElem?_eq_getElem (by omega)
   have hva:xs[i].abs=x:=by
    rw[←ax,List.getElem?_map,hv] at hx
    exact Option.some.inj hx
   obtain⟨pb,po,rfl⟩:=o4.addr (by omega)
   have hh:=o4.heldAt ienc_len hv
   have c2: ∀g,heldL ((⟨pb,po,none⟩:Addr).add (i*4)) (ienc xs[i]) 0 g→hcell g (((⟨pb,po,none⟩:Addr).add (Int.toNat (i:Int)*4)).add 2)=some xs[i].v.val:=fun g hg=>by
    rw[Int.toNat_natCast];exact hg.2.2.1
   refine⟨_,cell_at H4.blk rfl,⟨by omega,by omega⟩,onSome_some.2 ⟨_,_,_,c2 _ hh, ?_⟩⟩
   have vl:xs[i].v.b=x.d:=by rw[←hva];rfl
   rw[vl]
   refine H4.give (x:=x) (l:=Obx.delI σ.B.items num) (by show σ.Q.Perm _;rw[G.q,←hnum];exact del_perm ok.inc hx) (show okQ σ.Q from G.ok) (okI_of ok (List.mem_of_getElem? hx)) rfl ho.symm fun h5 X5 H5 st5=>⟨_,rfl, ?_, ?_⟩
   ·have o5:=o4.frame st5.fr (fun y hy hm=>by
     rcases st3.newM y hm with a|a
     ·have:=H.lt y (.inl a);have:=hpx y hy;omega
     ·have:=ox.blk_lt hy;omega)
    rw[←vl]
    exact c2 _ (o5.heldAt ienc_len hv)
   ·subst hJ1
    refine hk h5 X5 ?_ (st.trans st5)
    rw[es] at H5⊢
    exact H5
  ·rw[if_neg ho] at e
   have es:Obx.cancS σ.B num owner=σ.B:=if_neg (by rw[e];decide)
   unfold cancA at hk
   rw[e,es,←G.q] at hk
   rw[e] at hJ⊢
   rw[if_neg (by decide)]
   subst hJ
   refine JoinP.of fun J1 hJ1=> ?_
   rw[if_neg (by decide)]
   subst hJ1
   rw[es] at H4
   exact hk h4 X3 H4 st
theorem take_ok (H:Pt h s X I σ) (G:Good σ k) (hk8:k≤30000)
  (k1:σ.B.items= []→ ∀h',Fr (fun _=>False) h h'→R (.tuple #[.agg #[.int .i64 0, .int .i64 0, .slice none 0 0, .int .u64 0], .int .i64 4]) h')
  (k2: ∀x r,σ.B.items=x::r→ ∀h' X' (v:IV),v.abs=x→Pt h' s X' I (takeA σ)→StepF X h X' h'→v.v.ok h' X'.D→R (.tuple #[v.agg, .int .i64 0]) h'):
  CallsH Tryz.prog F.state_State_Take #[pt s] h R:=by
 refine state_State_Take.walk (outbox_Item.box fun b h1 eb hb f1=> ?_)
 have H1:=H.on f1
 refine made_ok H1.blk ⟨_,rfl, ?_⟩
 rw[if_neg (by decide)]
 obtain⟨Z,hz,zm,zd,go⟩:=H1.use 3
 obtain⟨L,ok⟩:=H.okB
 have lb:=lt_of_get hb
 refine⟨_,cell_at H1.blk rfl,Obx.take_ok hz (by have:=G.b;omega) (fun hit h2 B2 f2=>⟨_,_,_,_,_,_,_,rfl,outbox_Item.new fun b1 h3 eb1 hb1 f3=>JoinP.of fun J hJ=> ?_⟩) (fun x r hit h2 Z2 v hva B2 s2 hd=>⟨_,_,_,_,_,_,_,rfl,outbox_Item.new fun b1 h3 eb1 hb1 f3=>JoinP.of fun J hJ=> ?_⟩)⟩
 ·rw[if_neg (by decide)]
  subst hJ
  have hb3:=(f2.tt f3).get hb id
  refine outbox_Item.ld hb1 (outbox_Item.set hb3 fun h4 d1 d2 d3=>outbox_Item.ld d1 (k1 hit h4 ((f1.tt (f2.tt f3)).fresh (Fr.of_eq (S:=fun y=>y=b) d2 d3) (fun y e=>by omega))))
 ·obtain⟨X2,H2,st2,dd2,_⟩:=go h2 Z2 { σ with B:= { σ.B with items:=r,taken:=σ.B.taken+1 } } B2 s2 (fun i hi=>part_B _ hi)
  rw[if_pos (by decide)]
  have H3:=H2.on f3
  have xin:x∈σ.B.items:=by rw[hit];simp
  have ex:x.owner=v.owner:=by rw[←hva];rfl
  have ed:x.d=v.v.b:=by rw[←hva];rfl
  refine⟨_,cell_at H3.blk rfl,_,cell_at hb1 rfl,_,_,_,cell_at hb1 rfl,H3.give (x:=x) (l:=r) (.of_eq (show σ.Q=x::r by rw[G.q,hit])) (show okQ σ.Q from G.ok) (okI_of ok xin) (by rw[ed]) ex.symm fun h4 X4 H4 st4=>⟨_,rfl, ?_, ?_⟩⟩
  ·exact st4.fr.cell (cell_at hb1 rfl) (fun hm=>by have:=H2.lt b1 (.inl hm);omega)
  ·subst hJ
   have z1:=f1.1
   have z2:=s2.fr.1
   have z3:=f3.1
   have z4:=st4.fr.1
   have nX2: ∀y,h.size≤y→y<h1.size→ ¬(X2.M y∨X2.D y):=fun y hy hl hm=>by
    rcases hm with a|a
    ·rcases st2.newM y a with a|a
     ·have:=H.lt y (.inl a);omega
     ·omega
    ·rcases st2.newD y a with a|a
     ·have:=H.lt y (.inr a);omega
     ·omega
   have nX4: ∀y,h.size≤y→y<h1.size→ ¬(X4.M y∨X4.D y):=fun y hy hl hm=>by
    rcases hm with a|a
    ·rcases st4.newM y a with a|a
     ·exact nX2 y hy hl (.inl a)
     ·omega
    ·rcases st4.newD y a with a|a
     ·exact nX2 y hy hl (.inr a)
     ·omega
   have hb1':outbox_Item.at h4 b1 (v.num:Int) v.owner v.v.p v.v.b.length v.v.c (v.till:Int):=st4.fr.get hb1 (fun hm=>by have:=H2.lt b1 (.inl hm);omega)
   have hb2:=st2.fr.get hb (fun hm=>by have:=H.lt b (.inl hm);omega)
   have hb4:outbox_Item.at h4 b 0 0 none 0 0 0:=st4.fr.get (f3.get hb2 id) (fun hm=>nX2 b (by omega) (by omega) (.inl hm))
   refine outbox_Item.ld hb1' (outbox_Item.set hb4 fun h5 d1 d2 d3=>outbox_Item.ld d1 ?_)
   have f5:Fr (fun y=>y=b) h4 h5:=Fr.of_eq d2 d3
   have st:=(StepF.no f1 (st2.on f3)).trans st4
   have et:takeA σ= { σ with B:= { σ.B with items:=r,taken:=σ.B.taken+1 },Q:=r } :=by unfold takeA;rw[hit]
   refine k2 x r hit h5 X4 v hva ?_ ⟨⟨by have:=f5.1;omega,fun y hy hn=>by rw[f5.2 y (by omega) (fun e=>by omega)];exact st.fr.2 y hy hn⟩,fun y hy=>(st.newM y hy),fun y hy=>(st.newD y hy),st.oldD⟩ ?_
   ·rw[et]
    exact Pt.frame H4 f5 (fun y hy e=>nX4 y (by omega) (by omega) hy)
   ·refine(((hd.mono dd2).frame f3 (fun _ _=>id)).frame st4.fr (fun y hy hm=> ?_)).mono st4.oldD|>.frame f5 (fun y hy e=>nX4 y (by omega) (by omega) (.inr hy))
    exact H2.dis y hm hy
end Stt
end Go.Proofs.YtgccegnmggjkjaaGreatDoor
set_option maxRecDepth 100000
namespace Go.Proofs.YtgccegnmggjkjaaGreatDoor
open Go.Den Go.Fields
namespace Ses
open Fld
variable {h h' h0 : Heap} {t : Nat} {X : Ft} {R : Value → Heap → Prop} {p q : Option Addr} {c d i : Nat} {lab : Lab} {D : Nat → Prop} {L : List SC} {A : List Ses}
theorem Tab.on (TB:Tab h t lab D L) (f:Fr (fun _=>False) h h'):Tab h' t lab D L:=by
 obtain⟨p,c,hb,own,hp⟩:=TB.blk
 refine⟨⟨p,c,f.get hb id,own.frame f (fun _ _=>id),hp⟩,TB.lt0,fun i s hs=>(TB.ses i s hs).frame f (fun _ _ _ _ _=>id) (fun _ _=>id), ?_, ?_,TB.ap⟩
 ·intro c r hr;exact Nat.lt_of_lt_of_le (TB.llt c r hr) f.1
 ·intro c hd;exact Nat.lt_of_lt_of_le (TB.dlt c hd) f.1
end Ses
end Go.Proofs.YtgccegnmggjkjaaGreatDoor
set_option maxRecDepth 100000
namespace Go.Proofs.YtgccegnmggjkjaaGreatDoor
open Go.Den Go.Fields
namespace Ses
open Fld
variable {h h' h0 : Heap} {t : Nat} {X : Ft} {R : Value → Heap → Prop} {p q : Option Addr} {c d i : Nat} {lab : Lab} {D : Nat → Prop} {L : List SC} {A : List Ses}
end Ses
end Go.Proofs.YtgccegnmggjkjaaGreatDoor
set_option maxRecDepth 100000
set_option maxHeartbeats 4000000
namespace Go.Proofs.YtgccegnmggjkjaaGreatDoor
open Go.Den
variable {h : Heap} {R : Value → Heap → Prop}
theorem sessions_Table_All.walk {t : Nat} (hv :
 ∃ t16_p t16_l t16_c, hcell h ⟨t, 1, none⟩ = some (.slice t16_p t16_l t16_c) ∧
 ∃ (I : Option Addr → Nat → Nat → Int → Heap → Prop) (mu : Option Addr → Nat → Nat → Int → Heap → Nat), I none 0 0 0 h ∧ ∀ (out_p : Option Addr) (out_l out_c : Nat) (t18 : Int) (h_1 : Heap), I out_p out_l out_c t18 h_1 →
 if (decide (t18 < ((t16_l : Nat) : Int))) = true then
 ((0 : Int) ≤ t18 ∧ t18 < ((t16_l : Nat) : Int)) ∧
 onSome t16_p fun a =>
 ∃ t21, hcell h_1 (a.add (Int.toNat t18 * 1)) = some (.pointer t21) ∧
 onSome t21 fun a_1 =>
 sessions_Session.LD h_1 a_1 fun t24_0 t24_1 t24_2 t24_3 t24_4_p t24_4_l t24_4_c t24_5_p t24_5_l t24_5_c =>
 NewP h_1 (.cells #[.int .i64 0, .int .u64 0, .bool false, .bool false, .slice none 0 0, .slice none 0 0] T.sessions_Session) fun b h_2 =>
 sessions_Session.ST h_2 ⟨b, 0, none⟩ t24_0 t24_1 t24_2 t24_3 t24_4_p t24_4_l t24_4_c t24_5_p t24_5_l t24_5_c fun h_3 =>
 StoreP h_3 ⟨b, 4, none⟩ (.slice none 0 0) fun h_4 =>
 StoreP h_4 ⟨b, 5, none⟩ (.slice none 0 0) fun h_5 =>
 onSome t21 fun a_2 =>
 ∃ t30_p t30_l t30_c, hcell h_5 (a_2.add 4) = some (.slice t30_p t30_l t30_c) ∧
 ∃ (I_1 : Int → Heap → Prop) (mu_1 : Int → Heap → Nat), I_1 0 h_5 ∧ ∀ (t32 : Int) (h_6 : Heap), I_1 t32 h_6 →
 if (decide (t32 < ((t30_l : Nat) : Int))) = true then
 ((0 : Int) ≤ t32 ∧ t32 < ((t30_l : Nat) : Int)) ∧
 onSome t30_p fun a_3 =>
 sessions_Answer.LD h_6 (a_3.add (Int.toNat t32 * 2)) fun t35_0 t35_1_p t35_1_l t35_1_c =>
 NewP h_6 (.cells #[.int .u64 0, .slice none 0 0] T.sessions_Answer) fun b_1 h_7 =>
 sessions_Answer.ST h_7 ⟨b_1, 0, none⟩ t35_0 t35_1_p t35_1_l t35_1_c fun h_8 =>
 ∃ t37_p t37_l t37_c, hcell h_8 ⟨b, 4, none⟩ = some (.slice t37_p t37_l t37_c) ∧
 ∃ t39, hcell h_8 ⟨b_1, 0, none⟩ = some (.int .u64 t39) ∧
 ∃ t41_p t41_l t41_c, hcell h_8 ⟨b_1, 1, none⟩ = some (.slice t41_p t41_l t41_c) ∧
 Cl F.slices_Clone_s_byte_byte #[.slice t41_p t41_l t41_c] h_8 fun v h_9 =>
 ∃ t42_p t42_l t42_c, v = .slice t42_p t42_l t42_c ∧
 hcell h_9 ⟨b_1, 0, none⟩ = some (.int .u64 t39) ∧
 hcell h_9 ⟨b, 4, none⟩ = some (.slice t37_p t37_l t37_c) ∧
 NewP h_9 (.cells #[.int .u64 t39, .slice t42_p t42_l t42_c] T.sessions_Answer) fun b_2 h_10 =>
 hcell h_10 ⟨b_1, 0, none⟩ = some (.int .u64 t39) ∧
 hcell h_10 ⟨b, 4, none⟩ = some (.slice t37_p t37_l t37_c) ∧
 denSem Tryz.prog (Builtin.append_ #[T.s_sessions_Answer, T.s_sessions_Answer] T.s_sessions_Answer #[.slice t37_p t37_l t37_c, .slice (some ⟨b_2, 0, none⟩) 1 1]) h_10 fun v_1 h_11 =>
 ∃ t45_p t45_l t45_c, v_1 = .slice t45_p t45_l t45_c ∧
 hcell h_11 ⟨b_1, 0, none⟩ = some (.int .u64 t39) ∧
 StoreP h_11 ⟨b, 4, none⟩ (.slice t45_p t45_l t45_c) fun h_12 =>
 (I_1 (IntKind.wrap .i64 (t32 + 1)) h_12 ∧ mu_1 (IntKind.wrap .i64 (t32 + 1)) h_12 < mu_1 t32 h_6)
 else
 onSome t21 fun a_4 =>
 ∃ t51_p t51_l t51_c, hcell h_6 (a_4.add 5) = some (.slice t51_p t51_l t51_c) ∧
 ∃ (I_2 : Int → Heap → Prop) (mu_2 : Int → Heap → Nat), I_2 0 h_6 ∧ ∀ (t53 : Int) (h_13 : Heap), I_2 t53 h_13 →
 if (decide (t53 < ((t51_l : Nat) : Int))) = true then
 ((0 : Int) ≤ t53 ∧ t53 < ((t51_l : Nat) : Int)) ∧
 onSome t51_p fun a_5 =>
 ∃ t56_p t56_l t56_c, hcell h_13 (a_5.add (Int.toNat t53 * 1)) = some (.slice t56_p t56_l t56_c) ∧
 ∃ t58_p t58_l t58_c, hcell h_13 ⟨b, 5, none⟩ = some (.slice t58_p t58_l t58_c) ∧
 Cl F.slices_Clone_s_byte_byte #[.slice t56_p t56_l t56_c] h_13 fun v_2 h_14 =>
 ∃ t60_p t60_l t60_c, v_2 = .slice t60_p t60_l t60_c ∧
 hcell h_14 ⟨b, 5, none⟩ = some (.slice t58_p t58_l t58_c) ∧
 NewP h_14 (.cells #[.slice t60_p t60_l t60_c] T.s_uint8) fun b_3 h_15 =>
 hcell h_15 ⟨b, 5, none⟩ = some (.slice t58_p t58_l t58_c) ∧
 denSem Tryz.prog (Builtin.append_ #[T.s_s_uint8, T.s_s_uint8] T.s_s_uint8 #[.slice t58_p t58_l t58_c, .slice (some ⟨b_3, 0, none⟩) 1 1]) h_15 fun v_3 h_16 =>
 ∃ t62_p t62_l t62_c, v_3 = .slice t62_p t62_l t62_c ∧
 StoreP h_16 ⟨b, 5, none⟩ (.slice t62_p t62_l t62_c) fun h_17 =>
 (I_2 (IntKind.wrap .i64 (t53 + 1)) h_17 ∧ mu_2 (IntKind.wrap .i64 (t53 + 1)) h_17 < mu_2 t53 h_13)
 else
 sessions_Session.LD h_13 ⟨b, 0, none⟩ fun t66_0 t66_1 t66_2 t66_3 t66_4_p t66_4_l t66_4_c t66_5_p t66_5_l t66_5_c =>
 NewP h_13 (.cells #[.int .i64 t66_0, .int .u64 t66_1, .bool t66_2, .bool t66_3, .slice t66_4_p t66_4_l t66_4_c, .slice t66_5_p t66_5_l t66_5_c] T.sessions_Session) fun b_4 h_18 =>
 denSem Tryz.prog (Builtin.append_ #[T.s_sessions_Session, T.s_sessions_Session] T.s_sessions_Session #[.slice out_p out_l out_c, .slice (some ⟨b_4, 0, none⟩) 1 1]) h_18 fun v_4 h_19 =>
 ∃ t68_p t68_l t68_c, v_4 = .slice t68_p t68_l t68_c ∧
 (I t68_p t68_l t68_c (IntKind.wrap .i64 (t18 + 1)) h_19 ∧ mu t68_p t68_l t68_c (IntKind.wrap .i64 (t18 + 1)) h_19 < mu out_p out_l out_c t18 h_1)
 else
 R (.slice out_p out_l out_c) h_1) : CallsH Tryz.prog F.sessions_Table_All #[.pointer (some ⟨t, 0, none⟩)] h R :=
 callsH_of_body (.seq .leaf (.seq .leaf (.seq (.seq .leaf (.cond (.seq .leaf .leaf) .leaf)) (.seq (.seq .leaf (.block (.loop [(3, .one (.slice)), (18, .one (.int .i64))] (.seq .leaf (.seq (.cond .leaf .leaf) (.seq (.block (.seq .leaf (.seq .leaf (.seq .leaf (.seq (.seq .leaf (.block (.loop [(32, .one (.int .i64))] (.seq .leaf (.seq (.cond .leaf .leaf) (.seq (.block (.seq .leaf (.plan (.op 0 (.op 1 (.op 2 (.op 3 (.op 4 (.op 5 (.op 6 (.op 7 (.op 8 (.op 9 (.op 10 (.op 11 .done))))))))))))))) .leaf)))))) (.seq (.seq .leaf (.block (.loop [(53, .one (.int .i64))] (.seq .leaf (.seq (.cond .leaf .leaf) (.seq (.block (.seq .leaf (.plan (.op 0 (.op 1 (.op 2 (.op 3 (.op 4 (.op 5 (.op 6 (.op 7 .done))))))))))) .leaf)))))) .leaf)))))) .leaf)))))) (.seq .leaf .leaf))))) Tryz.func178 rfl rfl (Eq.mp (by kernel_rfl) hv)
theorem sessions_Table_Save.walk {t : Nat} (hv :
 Cl F.sessions_Table_All #[.pointer (some ⟨t, 0, none⟩)] h fun v h_1 =>
 ∃ t11_p t11_l t11_c, v = .slice t11_p t11_l t11_c ∧
 ∃ (I : Option Addr → Nat → Nat → Int → Heap → Prop) (mu : Option Addr → Nat → Nat → Int → Heap → Nat), I none 0 0 0 h_1 ∧ ∀ (out_p : Option Addr) (out_l out_c : Nat) (t13 : Int) (h_2 : Heap), I out_p out_l out_c t13 h_2 →
 if (decide (t13 < ((t11_l : Nat) : Int))) = true then
 ((0 : Int) ≤ t13 ∧ t13 < ((t11_l : Nat) : Int)) ∧
 onSome t11_p fun a =>
 sessions_Session.LD h_2 (a.add (Int.toNat t13 * 6)) fun t16_0 t16_1 t16_2 t16_3 t16_4_p t16_4_l t16_4_c t16_5_p t16_5_l t16_5_c =>
 NewP h_2 (.cells #[.int .i64 0, .int .u64 0, .bool false, .bool false, .slice none 0 0, .slice none 0 0] T.sessions_Session) fun b h_3 =>
 sessions_Session.ST h_3 ⟨b, 0, none⟩ t16_0 t16_1 t16_2 t16_3 t16_4_p t16_4_l t16_4_c t16_5_p t16_5_l t16_5_c fun h_4 =>
 ∃ t20, hcell h_4 ⟨b, 0, none⟩ = some (.int .i64 t20) ∧
 ∃ t23, hcell h_4 ⟨b, 1, none⟩ = some (.int .u64 t23) ∧
 ∃ t26, hcell h_4 ⟨b, 2, none⟩ = some (.bool t26) ∧
 ∃ t29, hcell h_4 ⟨b, 3, none⟩ = some (.bool t29) ∧
 ∃ t32_p t32_l t32_c, hcell h_4 ⟨b, 4, none⟩ = some (.slice t32_p t32_l t32_c) ∧
 ∃ t36_p t36_l t36_c, hcell h_4 ⟨b, 5, none⟩ = some (.slice t36_p t36_l t36_c) ∧
 Cl F.fields_New #[] h_4 fun v_1 h_5 =>
 ∃ t18, v_1 = .pointer t18 ∧
 hcell h_5 ⟨b, 5, none⟩ = some (.slice t36_p t36_l t36_c) ∧
 hcell h_5 ⟨b, 4, none⟩ = some (.slice t32_p t32_l t32_c) ∧
 hcell h_5 ⟨b, 3, none⟩ = some (.bool t29) ∧
 hcell h_5 ⟨b, 2, none⟩ = some (.bool t26) ∧
 hcell h_5 ⟨b, 1, none⟩ = some (.int .u64 t23) ∧
 hcell h_5 ⟨b, 0, none⟩ = some (.int .i64 t20) ∧
 Cl F.fields_Writer_Int #[.pointer t18, .int .i64 t20] h_5 fun v_2 h_6 =>
 ∃ t21, v_2 = .pointer t21 ∧
 hcell h_6 ⟨b, 5, none⟩ = some (.slice t36_p t36_l t36_c) ∧
 hcell h_6 ⟨b, 4, none⟩ = some (.slice t32_p t32_l t32_c) ∧
 hcell h_6 ⟨b, 3, none⟩ = some (.bool t29) ∧
 hcell h_6 ⟨b, 2, none⟩ = some (.bool t26) ∧
 hcell h_6 ⟨b, 1, none⟩ = some (.int .u64 t23) ∧
 Cl F.fields_Writer_Num #[.pointer t21, .int .u64 t23] h_6 fun v_3 h_7 =>
 ∃ t24, v_3 = .pointer t24 ∧
 hcell h_7 ⟨b, 5, none⟩ = some (.slice t36_p t36_l t36_c) ∧
 hcell h_7 ⟨b, 4, none⟩ = some (.slice t32_p t32_l t32_c) ∧
 hcell h_7 ⟨b, 3, none⟩ = some (.bool t29) ∧
 hcell h_7 ⟨b, 2, none⟩ = some (.bool t26) ∧
 Cl F.fields_Writer_Bool #[.pointer t24, .bool t26] h_7 fun v_4 h_8 =>
 ∃ t27, v_4 = .pointer t27 ∧
 hcell h_8 ⟨b, 5, none⟩ = some (.slice t36_p t36_l t36_c) ∧
 hcell h_8 ⟨b, 4, none⟩ = some (.slice t32_p t32_l t32_c) ∧
 hcell h_8 ⟨b, 3, none⟩ = some (.bool t29) ∧
 Cl F.fields_Writer_Bool #[.pointer t27, .bool t29] h_8 fun v_5 h_9 =>
 ∃ t30, v_5 = .pointer t30 ∧
 hcell h_9 ⟨b, 5, none⟩ = some (.slice t36_p t36_l t36_c) ∧
 hcell h_9 ⟨b, 4, none⟩ = some (.slice t32_p t32_l t32_c) ∧
 Cl F.fields_Writer_Int #[.pointer t30, .int .i64 ((t32_l : Nat) : Int)] h_9 fun v_6 h_10 =>
 ∃ t34, v_6 = .pointer t34 ∧
 hcell h_10 ⟨b, 5, none⟩ = some (.slice t36_p t36_l t36_c) ∧
 hcell h_10 ⟨b, 4, none⟩ = some (.slice t32_p t32_l t32_c) ∧
 Cl F.fields_Writer_Int #[.pointer t34, .int .i64 ((t36_l : Nat) : Int)] h_10 fun v_7 h_11 =>
 ∃ t38, v_7 = .pointer t38 ∧
 hcell h_11 ⟨b, 5, none⟩ = some (.slice t36_p t36_l t36_c) ∧
 hcell h_11 ⟨b, 4, none⟩ = some (.slice t32_p t32_l t32_c) ∧
 Cl F.fields_Writer_Bytes #[.pointer t38] h_11 fun v_8 h_12 =>
 ∃ t39_p t39_l t39_c, v_8 = .slice t39_p t39_l t39_c ∧
 hcell h_12 ⟨b, 5, none⟩ = some (.slice t36_p t36_l t36_c) ∧
 hcell h_12 ⟨b, 4, none⟩ = some (.slice t32_p t32_l t32_c) ∧
 NewP h_12 (.cells #[.slice t39_p t39_l t39_c] T.s_uint8) fun b_1 h_13 =>
 hcell h_13 ⟨b, 5, none⟩ = some (.slice t36_p t36_l t36_c) ∧
 hcell h_13 ⟨b, 4, none⟩ = some (.slice t32_p t32_l t32_c) ∧
 denSem Tryz.prog (Builtin.append_ #[T.s_s_uint8, T.s_s_uint8] T.s_s_uint8 #[.slice out_p out_l out_c, .slice (some ⟨b_1, 0, none⟩) 1 1]) h_13 fun v_9 h_14 =>
 ∃ t41_p t41_l t41_c, v_9 = .slice t41_p t41_l t41_c ∧
 hcell h_14 ⟨b, 5, none⟩ = some (.slice t36_p t36_l t36_c) ∧
 hcell h_14 ⟨b, 4, none⟩ = some (.slice t32_p t32_l t32_c) ∧
 ∃ t43_p t43_l t43_c, hcell h_14 ⟨b, 4, none⟩ = some (.slice t43_p t43_l t43_c) ∧
 ∃ (I_1 : Option Addr → Nat → Nat → Int → Heap → Prop) (mu_1 : Option Addr → Nat → Nat → Int → Heap → Nat), I_1 t41_p t41_l t41_c 0 h_14 ∧ ∀ (out_p_1 : Option Addr) (out_l_1 out_c_1 : Nat) (t45 : Int) (h_15 : Heap), I_1 out_p_1 out_l_1 out_c_1 t45 h_15 →
 if (decide (t45 < ((t43_l : Nat) : Int))) = true then
 ((0 : Int) ≤ t45 ∧ t45 < ((t43_l : Nat) : Int)) ∧
 onSome t43_p fun a_1 =>
 sessions_Answer.LD h_15 (a_1.add (Int.toNat t45 * 2)) fun t48_0 t48_1_p t48_1_l t48_1_c =>
 NewP h_15 (.cells #[.int .u64 0, .slice none 0 0] T.sessions_Answer) fun b_2 h_16 =>
 sessions_Answer.ST h_16 ⟨b_2, 0, none⟩ t48_0 t48_1_p t48_1_l t48_1_c fun h_17 =>
 ∃ t52, hcell h_17 ⟨b_2, 0, none⟩ = some (.int .u64 t52) ∧
 ∃ t55_p t55_l t55_c, hcell h_17 ⟨b_2, 1, none⟩ = some (.slice t55_p t55_l t55_c) ∧
 Cl F.fields_New #[] h_17 fun v_10 h_18 =>
 ∃ t50, v_10 = .pointer t50 ∧
 hcell h_18 ⟨b_2, 1, none⟩ = some (.slice t55_p t55_l t55_c) ∧
 hcell h_18 ⟨b_2, 0, none⟩ = some (.int .u64 t52) ∧
 Cl F.fields_Writer_Num #[.pointer t50, .int .u64 t52] h_18 fun v_11 h_19 =>
 ∃ t53, v_11 = .pointer t53 ∧
 hcell h_19 ⟨b_2, 1, none⟩ = some (.slice t55_p t55_l t55_c) ∧
 Cl F.fields_Writer_Text #[.pointer t53, .slice t55_p t55_l t55_c] h_19 fun v_12 h_20 =>
 ∃ t56, v_12 = .pointer t56 ∧
 Cl F.fields_Writer_Bytes #[.pointer t56] h_20 fun v_13 h_21 =>
 ∃ t57_p t57_l t57_c, v_13 = .slice t57_p t57_l t57_c ∧
 NewP h_21 (.cells #[.slice t57_p t57_l t57_c] T.s_uint8) fun b_3 h_22 =>
 denSem Tryz.prog (Builtin.append_ #[T.s_s_uint8, T.s_s_uint8] T.s_s_uint8 #[.slice out_p_1 out_l_1 out_c_1, .slice (some ⟨b_3, 0, none⟩) 1 1]) h_22 fun v_14 h_23 =>
 ∃ t59_p t59_l t59_c, v_14 = .slice t59_p t59_l t59_c ∧
 (I_1 t59_p t59_l t59_c (IntKind.wrap .i64 (t45 + 1)) h_23 ∧ mu_1 t59_p t59_l t59_c (IntKind.wrap .i64 (t45 + 1)) h_23 < mu_1 out_p_1 out_l_1 out_c_1 t45 h_15)
 else
 ∃ t62_p t62_l t62_c, hcell h_15 ⟨b, 5, none⟩ = some (.slice t62_p t62_l t62_c) ∧
 ∃ (I_2 : Option Addr → Nat → Nat → Int → Heap → Prop) (mu_2 : Option Addr → Nat → Nat → Int → Heap → Nat), I_2 out_p_1 out_l_1 out_c_1 0 h_15 ∧ ∀ (out_p_2 : Option Addr) (out_l_2 out_c_2 : Nat) (t64 : Int) (h_24 : Heap), I_2 out_p_2 out_l_2 out_c_2 t64 h_24 →
 if (decide (t64 < ((t62_l : Nat) : Int))) = true then
 ((0 : Int) ≤ t64 ∧ t64 < ((t62_l : Nat) : Int)) ∧
 onSome t62_p fun a_2 =>
 ∃ t67_p t67_l t67_c, hcell h_24 (a_2.add (Int.toNat t64 * 1)) = some (.slice t67_p t67_l t67_c) ∧
 Cl F.fields_New #[] h_24 fun v_15 h_25 =>
 ∃ t69, v_15 = .pointer t69 ∧
 Cl F.fields_Writer_Text #[.pointer t69, .slice t67_p t67_l t67_c] h_25 fun v_16 h_26 =>
 ∃ t71, v_16 = .pointer t71 ∧
 Cl F.fields_Writer_Bytes #[.pointer t71] h_26 fun v_17 h_27 =>
 ∃ t72_p t72_l t72_c, v_17 = .slice t72_p t72_l t72_c ∧
 NewP h_27 (.cells #[.slice t72_p t72_l t72_c] T.s_uint8) fun b_4 h_28 =>
 denSem Tryz.prog (Builtin.append_ #[T.s_s_uint8, T.s_s_uint8] T.s_s_uint8 #[.slice out_p_2 out_l_2 out_c_2, .slice (some ⟨b_4, 0, none⟩) 1 1]) h_28 fun v_18 h_29 =>
 ∃ t74_p t74_l t74_c, v_18 = .slice t74_p t74_l t74_c ∧
 (I_2 t74_p t74_l t74_c (IntKind.wrap .i64 (t64 + 1)) h_29 ∧ mu_2 t74_p t74_l t74_c (IntKind.wrap .i64 (t64 + 1)) h_29 < mu_2 out_p_2 out_l_2 out_c_2 t64 h_24)
 else
 (I out_p_2 out_l_2 out_c_2 (IntKind.wrap .i64 (t13 + 1)) h_24 ∧ mu out_p_2 out_l_2 out_c_2 (IntKind.wrap .i64 (t13 + 1)) h_24 < mu out_p out_l out_c t13 h_2)
 else
 R (.slice out_p out_l out_c) h_2) : CallsH Tryz.prog F.sessions_Table_Save #[.pointer (some ⟨t, 0, none⟩)] h R :=
 callsH_of_body (.seq .leaf (.seq .leaf (.seq (.seq .leaf (.block (.loop [(3, .one (.slice)), (13, .one (.int .i64))] (.seq .leaf (.seq (.cond .leaf .leaf) (.seq (.block (.seq .leaf (.seq (.plan (.op 0 (.op 2 (.op 3 (.op 5 (.op 6 (.op 8 (.op 9 (.op 11 (.op 12 (.op 14 (.op 15 (.op 16 (.op 18 (.op 19 (.op 20 (.op 1 (.op 4 (.op 7 (.op 10 (.op 13 (.op 17 (.op 21 (.op 22 (.op 23 (.op 24 (.op 25 .done))))))))))))))))))))))))))) (.seq (.seq .leaf (.block (.loop [(3, .one (.slice)), (45, .one (.int .i64))] (.seq .leaf (.seq (.cond .leaf .leaf) (.seq (.block (.seq .leaf (.plan (.op 0 (.op 2 (.op 3 (.op 5 (.op 6 (.op 1 (.op 4 (.op 7 (.op 8 (.op 9 (.op 10 (.op 11 .done))))))))))))))) .leaf)))))) (.seq .leaf (.block (.loop [(3, .one (.slice)), (64, .one (.int .i64))] (.seq .leaf (.seq (.cond .leaf .leaf) (.seq (.block (.seq .leaf .leaf)) .leaf)))))))))) .leaf)))))) (.seq .leaf .leaf)))) Tryz.func131 rfl rfl (Eq.mp (by kernel_rfl) hv)
end Go.Proofs.YtgccegnmggjkjaaGreatDoor
set_option maxRecDepth 100000
namespace Go.Proofs.YtgccegnmggjkjaaGreatDoor
open Go.Den Go.Fields
namespace Ses
open Fld
variable {h h' h0 : Heap} {t : Nat} {X : Ft} {R : Value → Heap → Prop} {p q : Option Addr} {c d i : Nat} {lab : Lab} {D : Nat → Prop} {L : List SC} {A : List Ses}
abbrev senc (s:SC):List Value:= [.int .i64 (s.num:Int), .int .u64 (s.token:Int), .bool s.up, .bool s.watch, .slice s.kp s.kept.length s.kc, .slice s.np s.notes.length s.nc]
theorem senc_len (s:SC):(senc s).length=6:=rfl
theorem tS:SlTy Tryz.prog T.s_sessions_Session T.sessions_Session 6 72 (.agg #[.int .i64 0, .int .u64 0, .bool false, .bool false, .slice none 0 0, .slice none 0 0]):=⟨by kernel_rfl,by kernel_rfl,rfl⟩
theorem uSe:Tryz.prog.underlying T.s_sessions_Session=some (.slice T.sessions_Session):=by kernel_rfl
structure SRow (h:Heap) (D:Nat→Prop) (s:SC):Prop where
 k:Row h s.kp (s.kept.flatMap AV.enc)
 kD:s.kept≠ []→ ∀y,inBlk s.kp y→D y
 kd: ∀a∈s.kept,a.v.ok h D
 n:Row h s.np (s.notes.flatMap nenc)
 nD:s.notes≠ []→ ∀y,inBlk s.np y→D y
 nd: ∀n∈s.notes,n.ok h D
theorem SRow.frame {Q:Nat→Prop} {s:SC} (H:SRow h D s) (f:Fr Q h h') (hq: ∀y,D y→ ¬Q y):SRow h' D s:=by
 refine⟨?_,H.kD,fun a ha=>(H.kd a ha).frame f hq, ?_,H.nD,fun a ha=>(H.nd a ha).frame f hq⟩
 ·by_cases e:s.kept= []
  ·rw[e];exact .inl rfl
  ·exact H.k.frame f (fun a ea=>hq _ (H.kD e _ ⟨a,ea,rfl⟩))
 ·by_cases e:s.notes= []
  ·rw[e];exact .inl rfl
  ·exact H.n.frame f (fun a ea=>hq _ (H.nD e _ ⟨a,ea,rfl⟩))
theorem SRow.mono {D':Nat→Prop} {s:SC} (H:SRow h D s) (hd: ∀y,D y→D' y):SRow h D' s:=
 ⟨H.k,fun e y hy=>hd y (H.kD e y hy),fun a ha=>(H.kd a ha).mono hd,H.n,fun e y hy=>hd y (H.nD e y hy),fun a ha=>(H.nd a ha).mono hd⟩
def SL (h0 h:Heap) (p:Option Addr) (l c:Nat) (A:List Ses):Prop:=
 ∃(xs:List SC) (D:Nat→Prop),l=xs.length∧Own h p l c 6 (xs.flatMap senc)∧xs.map SC.abs=A∧(∀x∈xs,SRow h D x)∧(∀y,D y→h0.size≤y∧y<h.size∧ ¬inBlk p y)∧ ∀y,inBlk p y→h0.size≤y
theorem SL.len {l:Nat} (H:SL h0 h p l c A):l=A.length:=by
 obtain⟨xs,D,h1,_,h3,_⟩:=H
 rw[h1,←h3,List.length_map]
structure Cp (g h:Heap) (b:Nat) (s:SC) (E:Nat→Prop):Prop where
 fr:Fr (fun _=>False) g h
 blk:sessions_Session.at h b (s.num:Int) (s.token:Int) s.up s.watch s.kp s.kept.length s.kc s.np s.notes.length s.nc
 gb:g.size≤b
 ko:Own h s.kp s.kept.length s.kc 2 (s.kept.flatMap AV.enc)
 kg: ∀y,inBlk s.kp y→g.size≤y∧y≠b∧ ¬E y
 no:Own h s.np s.notes.length s.nc 1 (s.notes.flatMap nenc)
 ng: ∀y,inBlk s.np y→g.size≤y∧y≠b∧ ¬E y∧ ¬inBlk s.kp y
 kd: ∀a∈s.kept,a.v.ok h E
 nd: ∀n∈s.notes,n.ok h E
 eg: ∀y,E y→g.size≤y∧y<h.size∧y≠b
theorem Cp.answer {g:Heap} {b:Nat} {s:SC} {E:Nat→Prop} {a:AV} {K:Heap→Prop} (C:Cp g h b s E) (hr:Row h a.v.p (bc a.v.b)) (hlb:a.v.b.length≤1000) (hkl:s.kept.length≤1000)
  (hk: ∀h' s' E',Cp g h' b s' E'→s'.abs= { s.abs with kept:=s.abs.kept++ [a.abs] } →K h'):
  NewP h (.cells #[.int .u64 0, .slice none 0 0] T.sessions_Answer) fun b_1 h_12=>
     StoreP h_12 ⟨b_1,0,none⟩ (.int .u64 (a.id:Int)) fun h_13=>
     StoreP h_13 ⟨b_1,1,none⟩ (.slice a.v.p a.v.b.length a.v.c) fun h_14=>
     ∃(t37_p:Option Addr) (t37_l t37_c:Nat),hcell h_14 ⟨b,4,none⟩=some (.slice t37_p t37_l t37_c)∧
     ∃(t39:Int),hcell h_14 ⟨b_1,0,none⟩=some (.int .u64 t39)∧
     ∃(t41_p:Option Addr) (t41_l t41_c:Nat),hcell h_14 ⟨b_1,1,none⟩=some (.slice t41_p t41_l t41_c)∧
     CallsH Tryz.prog F.slices_Clone_s_byte_byte #[.slice t41_p t41_l t41_c] h_14 fun v h_15=>
     ∃(t42_p:Option Addr) (t42_l t42_c:Nat),v= .slice t42_p t42_l t42_c∧
     hcell h_15 ⟨b_1,0,none⟩=some (.int .u64 t39)∧
     hcell h_15 ⟨b,4,none⟩=some (.slice t37_p t37_l t37_c)∧
     NewP h_15 (.cells #[.int .u64 t39, .slice t42_p t42_l t42_c] T.sessions_Answer) fun b_2 h_16=>
     hcell h_16 ⟨b_1,0,none⟩=some (.int .u64 t39)∧
     hcell h_16 ⟨b,4,none⟩=some (.slice t37_p t37_l t37_c)∧
     denSem Tryz.prog (Builtin.append_ #[T.s_sessions_Answer,T.s_sessions_Answer] T.s_sessions_Answer #[.slice t37_p t37_l t37_c, .slice (some ⟨b_2,0,none⟩) 1 1]) h_16 fun v_1 h_17=>
     ∃(t45_p:Option Addr) (t45_l t45_c:Nat),v_1= .slice t45_p t45_l t45_c∧
     hcell h_17 ⟨b_1,0,none⟩=some (.int .u64 t39)∧
     StoreP h_17 ⟨b,4,none⟩ (.slice t45_p t45_l t45_c) fun h_18=>K h_18:=by
 refine sessions_Answer.new fun b1 h14 eb1 hb1 f14=> ?_
 have k14:=f14.get C.blk id
 have zb:b<h.size:=lt_of_get C.blk
 refine⟨_,_,_,cell_at k14 rfl,_,cell_at hb1 rfl,_,_,_,cell_at hb1 rfl,clone_ok (hr.frame f14 (fun _ _=>id)) rfl (by omega) fun p15 c15 h15 o15 f15 g15=>⟨_,_,_,rfl,cell_at (f15.get hb1 id) rfl,cell_at (f15.get k14 id) rfl,newP_of ?_⟩⟩
 have f16:Fr (fun _=>False) h15 (h15.push (.cells #[.int .u64 (a.id:Int), .slice p15 a.v.b.length c15] T.sessions_Answer)):=Fr.push _ _
 have row16:Row (h15.push (.cells #[.int .u64 (a.id:Int), .slice p15 a.v.b.length c15] T.sessions_Answer)) (some ⟨h15.size,0,none⟩) (AV.enc ⟨a.id,⟨p15,c15,a.v.b⟩⟩):=row_new (cs:=AV.enc ⟨a.id,⟨p15,c15,a.v.b⟩⟩)
 have sz16:(h15.push (.cells #[.int .u64 (a.id:Int), .slice p15 a.v.b.length c15] T.sessions_Answer)).size=h15.size+1:=Array.size_push _
 generalize h15.push (.cells #[.int .u64 (a.id:Int), .slice p15 a.v.b.length c15] T.sessions_Answer)=h16 at f16 row16 sz16⊢
 have f1416:=f15.tt f16
 have f016:=f14.tt f1416
 have k16:=f1416.get k14 id
 have b116:=f1416.get hb1 id
 refine⟨cell_at b116 rfl,cell_at k16 rfl, ?_⟩
 have zh14:=f14.1
 have zh15:=f15.1
 have zg:=C.fr.1
 have nkb: ∀y,inBlk s.kp y→y≠b:=fun y hy=>(C.kg y hy).2.1
 have lk: ∀y,inBlk s.kp y→y<h.size:=fun y hy=>C.ko.blk_lt hy
 refine den_append tA uA (C.ko.frame f016 (fun _ _=>id)) row16 rfl (fun v hv=>by simp at hv;rcases hv with rfl|rfl<;>rfl) (by omega) (by omega) ?_
 intro p17 c17 h17 o17 _ f17 g17
 have b117:=f17.get b116 (fun hx=>by have:=lk _ hx;omega)
 refine⟨_,_,_,rfl,cell_at b117 rfl, ?_⟩
 have k17:=f17.get k16 (fun hx=>nkb _ hx rfl)
 refine storeP_blk k17 (by simp) fun h18 q1 q2 q3=> ?_
 have f18:Fr (fun x=>x=b) h17 h18:=Fr.of_eq q2 q3
 have F18:Fr (fun x=>x=b∨inBlk s.kp x) h h18:=(f016.mono (fun _ _=>False.elim)).tt ((f17.mono (fun _ _ hx=> .inr hx)).tt (f18.mono (fun _ _ hx=> .inl hx)))
 have z17:=f17.1
 have z18:=f18.1
 have n17: ∀y,inBlk p17 y→inBlk s.kp y∨h16.size≤y:=g17
 have b15: ∀y,inBlk p15 y→h.size≤y∧y<h15.size:=fun y hy=>⟨by have:=g15 y hy;omega,o15.blk_lt hy⟩
 have o1518:Own h18 p15 a.v.b.length c15 1 (bc a.v.b):=((o15.frame f16 (fun _ _=>id)).frame f17 (fun y hy hx=>by have:=b15 y hy;have:=lk y hx;omega)).frame f18 (fun y hy e=>by have:=b15 y hy;omega)
 have eQ: ∀y,E y→ ¬(y=b∨inBlk s.kp y):=fun y hy hx=>hx.elim (C.eg y hy).2.2 (fun hx=>(C.kg y hx).2.2 hy)
 have o18:=o17.frame f18 (fun y hy e=>(n17 y hy).elim (fun hx=>nkb y hx e) (fun hx=>by omega))
 refine hk h18 { s with kept:=s.kept++ [⟨a.id,⟨p15,c15,a.v.b⟩⟩],kp:=p17,kc:=c17 } (fun y=>E y∨inBlk p15 y) ⟨?_, ?_,C.gb, ?_, ?_, ?_, ?_, ?_, ?_, ?_⟩ ?_
 ·exact C.fr.step F18 (fun y hy hx=>hx.elim (fun e=>by have:=C.gb;omega) (fun hx=>by have:=(C.kg y hx).1;omega))
 ·show h18[b]? =_
  rw[q1]
  dsimp only
  rw[List.length_append];rfl
 ·show Own h18 p17 (s.kept++ [_]).length c17 2 ((s.kept++ [_]).flatMap AV.enc)
  rw[List.length_append,List.flatMap_append]
  simpa using o18
 ·intro y hy
  rcases n17 y hy with hx|hx
  ·exact⟨(C.kg y hx).1,(C.kg y hx).2.1,fun he=>he.elim (C.kg y hx).2.2 (fun h2=>by have:=b15 y h2;have:=lk y hx;omega)⟩
  ·exact⟨by omega,by omega,fun he=>he.elim (fun h2=>by have:=(C.eg y h2).2.1;omega) (fun h2=>by have:=b15 y h2;omega)⟩
 ·exact C.no.frame F18 (fun y hy hx=>hx.elim (C.ng y hy).2.1 (C.ng y hy).2.2.2)
 ·intro y hy
  have hy':=C.ng y hy
  have ly:y<h.size:=C.no.blk_lt hy
  exact⟨hy'.1,hy'.2.1,fun he=>he.elim hy'.2.2.1 (fun h2=>by have:=b15 y h2;omega),fun hx=>(n17 y hx).elim hy'.2.2.2 (fun h2=>by omega)⟩
 ·intro x hx
  rcases List.mem_append.1 hx with hx|hx
  ·exact((C.kd x hx).frame F18 eQ).mono (fun y=> .inl)
  ·simp at hx;subst hx;exact BV.of_own o1518 (fun y=> .inr)
 ·intro x hx
  exact((C.nd x hx).frame F18 eQ).mono (fun y=> .inl)
 ·rintro y (hy|hy)
  ·exact⟨(C.eg y hy).1,by have:=(C.eg y hy).2.1;omega,(C.eg y hy).2.2⟩
  ·exact⟨by have:=b15 y hy;omega,by have:=b15 y hy;omega,by have:=b15 y hy;omega⟩
 ·unfold SC.abs
  dsimp only
  rw[List.map_append];rfl
theorem Cp.note {g:Heap} {b:Nat} {s:SC} {E:Nat→Prop} {n:BV} {K:Heap→Prop} (C:Cp g h b s E) (hr:Row h n.p (bc n.b)) (hlb:n.b.length≤1000) (hkl:s.notes.length≤1000)
  (hk: ∀h' s' E',Cp g h' b s' E'→s'.abs= { s.abs with notes:=s.abs.notes++ [n.b] } →K h'):
  ∃(t58_p:Option Addr) (t58_l t58_c:Nat),hcell h ⟨b,5,none⟩=some (.slice t58_p t58_l t58_c)∧
       CallsH Tryz.prog F.slices_Clone_s_byte_byte #[.slice n.p n.b.length n.c] h fun v_2 h_20=>
       ∃(t60_p:Option Addr) (t60_l t60_c:Nat),v_2= .slice t60_p t60_l t60_c∧
       hcell h_20 ⟨b,5,none⟩=some (.slice t58_p t58_l t58_c)∧
       NewP h_20 (.cells #[.slice t60_p t60_l t60_c] T.s_uint8) fun b_3 h_21=>
       hcell h_21 ⟨b,5,none⟩=some (.slice t58_p t58_l t58_c)∧
       denSem Tryz.prog (Builtin.append_ #[T.s_s_uint8,T.s_s_uint8] T.s_s_uint8 #[.slice t58_p t58_l t58_c, .slice (some ⟨b_3,0,none⟩) 1 1]) h_21 fun v_3 h_22=>
       ∃(t62_p:Option Addr) (t62_l t62_c:Nat),v_3= .slice t62_p t62_l t62_c∧
       StoreP h_22 ⟨b,5,none⟩ (.slice t62_p t62_l t62_c) fun h_23=>K h_23:=by
 have zb:b<h.size:=lt_of_get C.blk
 refine⟨_,_,_,cell_at C.blk rfl,clone_ok hr rfl (by omega) fun p15 c15 h15 o15 f15 g15=>⟨_,_,_,rfl,cell_at (f15.get C.blk id) rfl,newP_of ?_⟩⟩
 have f16:Fr (fun _=>False) h15 (h15.push (.cells #[.slice p15 n.b.length c15] T.s_uint8)):=Fr.push _ _
 have row16:Row (h15.push (.cells #[.slice p15 n.b.length c15] T.s_uint8)) (some ⟨h15.size,0,none⟩) (nenc ⟨p15,c15,n.b⟩):=row_new (cs:=nenc ⟨p15,c15,n.b⟩)
 have sz16:(h15.push (.cells #[.slice p15 n.b.length c15] T.s_uint8)).size=h15.size+1:=Array.size_push _
 generalize h15.push (.cells #[.slice p15 n.b.length c15] T.s_uint8)=h16 at f16 row16 sz16⊢
 have f016:=f15.tt f16
 have k16:=f016.get C.blk id
 refine⟨cell_at k16 rfl, ?_⟩
 have zh15:=f15.1
 have zg:=C.fr.1
 have nkb: ∀y,inBlk s.np y→y≠b:=fun y hy=>(C.ng y hy).2.1
 have lk: ∀y,inBlk s.np y→y<h.size:=fun y hy=>C.no.blk_lt hy
 refine den_append tN uN (C.no.frame f016 (fun _ _=>id)) row16 rfl (fun v hv=>by simp at hv;subst hv;rfl) (by omega) (by omega) ?_
 intro p17 c17 h17 o17 _ f17 g17
 refine⟨_,_,_,rfl, ?_⟩
 have k17:=f17.get k16 (fun hx=>nkb _ hx rfl)
 refine storeP_blk k17 (by simp) fun h18 q1 q2 q3=> ?_
 have f18:Fr (fun x=>x=b) h17 h18:=Fr.of_eq q2 q3
 have F18:Fr (fun x=>x=b∨inBlk s.np x) h h18:=(f016.mono (fun _ _=>False.elim)).tt ((f17.mono (fun _ _ hx=> .inr hx)).tt (f18.mono (fun _ _ hx=> .inl hx)))
 have z17:=f17.1
 have z18:=f18.1
 have n17: ∀y,inBlk p17 y→inBlk s.np y∨h16.size≤y:=g17
 have b15: ∀y,inBlk p15 y→h.size≤y∧y<h15.size:=fun y hy=>⟨g15 y hy,o15.blk_lt hy⟩
 have o1518:Own h18 p15 n.b.length c15 1 (bc n.b):=((o15.frame f16 (fun _ _=>id)).frame f17 (fun y hy hx=>by have:=b15 y hy;have:=lk y hx;omega)).frame f18 (fun y hy e=>by have:=b15 y hy;omega)
 have eQ: ∀y,E y→ ¬(y=b∨inBlk s.np y):=fun y hy hx=>hx.elim (C.eg y hy).2.2 (fun hx=>(C.ng y hx).2.2.1 hy)
 have o18:=o17.frame f18 (fun y hy e=>(n17 y hy).elim (fun hx=>nkb y hx e) (fun hx=>by omega))
 refine hk h18 { s with notes:=s.notes++ [⟨p15,c15,n.b⟩],np:=p17,nc:=c17 } (fun y=>E y∨inBlk p15 y) ⟨?_, ?_,C.gb, ?_, ?_, ?_, ?_, ?_, ?_, ?_⟩ ?_
 ·exact C.fr.step F18 (fun y hy hx=>hx.elim (fun e=>by have:=C.gb;omega) (fun hx=>by have:=(C.ng y hx).1;omega))
 ·show h18[b]? =_
  rw[q1]
  dsimp only
  rw[List.length_append];rfl
 ·exact C.ko.frame F18 (fun y hy hx=>hx.elim (C.kg y hy).2.1 (fun h2=>(C.ng y h2).2.2.2 hy))
 ·intro y hy
  have hy':=C.kg y hy
  have ly:y<h.size:=C.ko.blk_lt hy
  exact⟨hy'.1,hy'.2.1,fun he=>he.elim hy'.2.2 (fun h2=>by have:=b15 y h2;omega)⟩
 ·show Own h18 p17 (s.notes++ [_]).length c17 1 ((s.notes++ [_]).flatMap nenc)
  rw[List.length_append,List.flatMap_append]
  simpa using o18
 ·intro y hy
  rcases n17 y hy with hx|hx
  ·exact⟨(C.ng y hx).1,(C.ng y hx).2.1,fun he=>he.elim (C.ng y hx).2.2.1 (fun h2=>by have:=b15 y h2;have:=lk y hx;omega),(C.ng y hx).2.2.2⟩
  ·exact⟨by omega,by omega,fun he=>he.elim (fun h2=>by have:=(C.eg y h2).2.1;omega) (fun h2=>by have:=b15 y h2;omega),fun h2=>by have:=C.ko.blk_lt h2;omega⟩
 ·intro x hx
  exact((C.kd x hx).frame F18 eQ).mono (fun y=> .inl)
 ·intro x hx
  rcases List.mem_append.1 hx with hx|hx
  ·exact((C.nd x hx).frame F18 eQ).mono (fun y=> .inl)
  ·simp at hx;subst hx;exact BV.of_own o1518 (fun y=> .inr)
 ·rintro y (hy|hy)
  ·exact⟨(C.eg y hy).1,by have:=(C.eg y hy).2.1;omega,(C.eg y hy).2.2⟩
  ·exact⟨by have:=b15 y hy;omega,by have:=b15 y hy;omega,by have:=b15 y hy;omega⟩
 ·unfold SC.abs
  dsimp only
  rw[List.map_append];rfl
theorem all_ok (H:Has h t X A) (ok:okA A) (hk: ∀h' p' l' c',SL h h' p' l' c' A→Fr (fun _=>False) h h'→R (.slice p' l' c') h'):CallsH Tryz.prog F.sessions_Table_All #[.pointer (some ⟨t,0,none⟩)] h R:=by
 obtain⟨_,lab,L,TB,rfl,_,hS⟩:=H
 have hl:=ok.le
 rw[List.length_map] at hl
 obtain⟨tp,tc,htb,town,_⟩:=TB.blk
 refine sessions_Table_All.walk ⟨_,_,_,cell_at htb rfl, ?_⟩
 refine⟨fun op ol oc i h1=> ∃k:Nat,i=(k:Int)∧k≤L.length∧SL h h1 op ol oc ((L.map SC.abs).take k)∧Fr (fun _=>False) h h1,fun _ _ _ i _=>L.length - i.toNat,⟨0,rfl,by omega,⟨[],fun _=>False,rfl, .nil rfl rfl rfl rfl,rfl,(fun x hx=>by cases hx),(fun y hy=>hy.elim),fun y ⟨a,e,_⟩=>by cases e⟩,Fr.refl _ _⟩, ?_⟩
 rintro op ol oc _ g ⟨k,rfl,hkn,O,fg⟩
 have TBg:=TB.on fg
 have htg:=fg.get htb id
 have owng:=town.frame fg (fun _ _=>id)
 have olen:=O.len
 rw[List.length_take,List.length_map] at olen
 by_cases hlt:k<L.length
 ·have q1:(k:Int)<(L.length:Int):=by omega
  simp only[q1,decide_true,if_true,Int.toNat_natCast]
  have hs:L[k]? =some L[k]:=List.getElem?_eq_getElem hlt
  generalize L[k]=s at hs
  have SA:=TBg.ses k s hs
  have okS:=ok.at_ k _ (abs_at hs)
  have kl:s.kept.length≤6:=by have:=okS.kl;rwa[show s.abs.kept.length=s.kept.length from List.length_map _] at this
  have nl:s.notes.length≤6:=by have:=okS.nl;rwa[show s.abs.notes.length=s.notes.length from List.length_map _] at this
  have kb: ∀a∈s.kept,a.v.b.length≤1000:=fun a ha=>(okS.kd a.abs (List.mem_map_of_mem ha)).2
  have nb: ∀a∈s.notes,a.b.length≤1000:=fun a ha=>by have:=(okS.nd a.b (List.mem_map_of_mem ha)).2;omega
  obtain⟨ab,aoff,rfl⟩:=owng.addr (by omega)
  refine⟨⟨by first|trivial|omega,by first|trivial|omega⟩,onSome_some.2 ⟨some ⟨s.b,0,none⟩, ?_,onSome_some.2 ?_⟩⟩
  ·rw[Nat.mul_one];exact owng.cell (by rw[List.getElem?_map,hs];rfl)
  refine sessions_Session.ld SA.blk (sessions_Session.new fun b h8 eb hb8 f8=> ?_)
  refine storeP_blk hb8 (by simp) fun h9 a1 a2 a3=>storeP_blk a1 (by simp) fun h10 b1 b2 b3=>onSome_some.2 ?_
  have f10:Fr (fun _=>False) g h10:=f8.step ((Fr.of_eq (S:=fun x=>x=b) a2 a3).tt (Fr.of_eq b2 b3)) (fun y hy e=>by omega)
  have SA10:=SA.frame f10 (fun _ _ _ _ _=>id) (fun _ _=>id)
  refine⟨_,_,_,cell_at SA10.blk rfl, ?_⟩
  have C10:Cp g h10 b ⟨b,s.num,s.token,s.up,s.watch, [],none,0, [],none,0⟩ (fun _=>False):=
   ⟨f10,b1,by omega, .nil rfl rfl rfl rfl,(fun y ⟨a,e,_⟩=>by cases e), .nil rfl rfl rfl rfl,(fun y ⟨a,e,_⟩=>by cases e),(fun a ha=>by cases ha),(fun a ha=>by cases ha),fun y hy=>hy.elim⟩
  refine⟨fun i h'=> ∃(j:Nat) (s':SC) (E:Nat→Prop),i=(j:Int)∧j≤s.kept.length∧Cp g h' b s' E∧s'.abs=⟨s.num,s.token,s.up,s.watch,s.abs.kept.take j, []⟩,fun i _=>s.kept.length - i.toNat,⟨0,_,_,rfl,by omega,C10,rfl⟩, ?_⟩
  clear C10 SA10 f10 b1 b2 b3 a1 a2 a3 hb8 f8
  rintro _ h11 ⟨j,s',E,rfl,hj,C,hab⟩
  have SA11:=SA.frame C.fr (fun _ _ _ _ _=>id) (fun _ _=>id)
  by_cases hjl:j<s.kept.length
  ·have q2:(j:Int)<(s.kept.length:Int):=by omega
   simp only[q2,decide_true,if_true,Int.toNat_natCast]
   have ha:s.kept[j]? =some s.kept[j]:=List.getElem?_eq_getElem hjl
   generalize s.kept[j]=a at ha
   have own11:=SA11.kown
   obtain⟨kb',koff,hkp⟩:=own11.addr (by omega)
   rw[hkp] at own11
   refine⟨⟨by first|trivial|omega,by first|trivial|omega⟩, ?_⟩
   rw[hkp]
   refine onSome_some.2 (sessions_Answer.ldA (own11.heldAt aenc_len ha) ?_)
   have s'l:s'.kept.length=j:=by
    have:=congrArg (fun x=>x.kept.length) hab
    have e1:s'.abs.kept.length=s'.kept.length:=List.length_map _
    dsimp only at this
    rw[e1,List.length_take] at this
    have e2:s.abs.kept.length=s.kept.length:=List.length_map _
    omega
   refine C.answer (SA11.kd a (List.mem_of_getElem? ha)).row (kb a (List.mem_of_getElem? ha)) (by omega) fun h18 s18 E18 C18 hab18=> ?_
   rw[wrap_id (by omega) (by omega)]
   refine⟨⟨j+1,s18,E18,by omega,by omega,C18, ?_⟩, ?_⟩
   ·rw[hab18,hab]
    dsimp only
    congr 1
    rw[List.take_add_one,show s.abs.kept[j]? =some a.abs by show(s.kept.map AV.abs)[j]? =_;rw[List.getElem?_map,ha];rfl];rfl
   ·show s.kept.length - Int.toNat ((j:Int)+1)<s.kept.length - Int.toNat (j:Int);omega
  ·have q2: ¬(j:Int)<(s.kept.length:Int):=by omega
   simp only[q2,decide_false,Bool.false_eq_true,if_false]
   refine onSome_some.2 ⟨_,_,_,cell_at SA11.blk rfl, ?_⟩
   have hab0:s'.abs=⟨s.num,s.token,s.up,s.watch,s.abs.kept,s.abs.notes.take 0⟩:=by
    rw[hab,List.take_of_length_le (by have:s.abs.kept.length=s.kept.length:=List.length_map _;omega)];rfl
   refine⟨fun i h'=> ∃(j:Nat) (s':SC) (E:Nat→Prop),i=(j:Int)∧j≤s.notes.length∧Cp g h' b s' E∧s'.abs=⟨s.num,s.token,s.up,s.watch,s.abs.kept,s.abs.notes.take j⟩,fun i _=>s.notes.length - i.toNat,⟨0,s',E,rfl,by omega,C,hab0⟩, ?_⟩
   clear C SA11 hab hab0 hj hjl q2
   rintro _ h19 ⟨j,s',E,rfl,hj,C,hab⟩
   have SA19:=SA.frame C.fr (fun _ _ _ _ _=>id) (fun _ _=>id)
   by_cases hjl:j<s.notes.length
   ·have q2:(j:Int)<(s.notes.length:Int):=by omega
    simp only[q2,decide_true,if_true,Int.toNat_natCast]
    have ha:s.notes[j]? =some s.notes[j]:=List.getElem?_eq_getElem hjl
    generalize s.notes[j]=a at ha
    have own19:=SA19.nown
    obtain⟨nb',noff,hnp⟩:=own19.addr (by omega)
    rw[hnp] at own19
    refine⟨⟨by first|trivial|omega,by first|trivial|omega⟩, ?_⟩
    rw[hnp]
    refine onSome_some.2 ⟨a.p,a.b.length,a.c, ?_, ?_⟩
    ·have:=(own19.heldAt nenc_len ha).1
     rwa[add_zero_addr] at this
    have s'l:s'.notes.length=j:=by
     have:=congrArg (fun x=>x.notes.length) hab
     have e1:s'.abs.notes.length=s'.notes.length:=List.length_map _
     dsimp only at this
     rw[e1,List.length_take] at this
     have e2:s.abs.notes.length=s.notes.length:=List.length_map _
     omega
    refine C.note (SA19.nd a (List.mem_of_getElem? ha)).row (nb a (List.mem_of_getElem? ha)) (by omega) fun h18 s18 E18 C18 hab18=> ?_
    rw[wrap_id (by omega) (by omega)]
    refine⟨⟨j+1,s18,E18,by omega,by omega,C18, ?_⟩, ?_⟩
    ·rw[hab18,hab]
     dsimp only
     congr 1
     rw[List.take_add_one,show s.abs.notes[j]? =some a.b by show(s.notes.map BV.b)[j]? =_;rw[List.getElem?_map,ha];rfl];rfl
    ·show s.notes.length - Int.toNat ((j:Int)+1)<s.notes.length - Int.toNat (j:Int);omega
   ·have q2: ¬(j:Int)<(s.notes.length:Int):=by omega
    simp only[q2,decide_false,Bool.false_eq_true,if_false]
    have hab1:s'.abs=s.abs:=by
     rw[hab,List.take_of_length_le (by have:s.abs.notes.length=s.notes.length:=List.length_map _;omega)];rfl
    refine sessions_Session.ld C.blk ?_
    obtain⟨xs,D,hx1,hx2,hx3,hx4,hx5,hx6⟩:=O
    have own19:=hx2.frame C.fr (fun _ _=>id)
    refine den_append1 tS uSe own19 rfl (fun v hv=>by simp at hv;rcases hv with rfl|rfl|rfl|rfl|rfl|rfl<;>rfl) (by omega) (by omega) ?_
    intro p25 c25 h25 o25 f25 g25
    refine⟨_,_,_,rfl, ?_⟩
    rw[wrap_id (by omega) (by omega)]
    have z19:=C.fr.1
    have zg:=fg.1
    have opg: ∀y,inBlk op y→y<g.size:=fun y hy=>hx2.blk_lt hy
    refine⟨⟨k+1,by omega,by omega,⟨xs++ [s'],fun y=>D y∨E y∨inBlk s'.kp y∨inBlk s'.np y,by rw[List.length_append,hx1];rfl, ?_, ?_, ?_, ?_, ?_⟩, ?_⟩, ?_⟩
    ·rw[List.flatMap_append];simpa using o25
    ·rw[List.map_append,hx3,List.take_add_one,List.getElem?_map,hs]
     show _++ [s'.abs]=_++ [s.abs]
     rw[hab1]
    ·intro x hx
     rcases List.mem_append.1 hx with hx|hx
     ·refine(((hx4 x hx).frame C.fr (fun _ _=>id)).frame f25 (fun y hy=>(hx5 y hy).2.2)).mono (fun y=> .inl)
     ·simp at hx;subst hx
      refine SRow.frame (h:=h19) ⟨C.ko.row',fun _ y hy=> .inr (.inr (.inl hy)),fun a ha=>(C.kd a ha).mono (fun y hy=> .inr (.inl hy)),C.no.row',fun _ y hy=> .inr (.inr (.inr hy)),fun a ha=>(C.nd a ha).mono (fun y hy=> .inr (.inl hy))⟩ f25 ?_
      rintro y (hy|hy|hy|hy) ho
      ·exact(hx5 y hy).2.2 ho
      ·have:=opg y ho;have:=(C.eg y hy).1;omega
      ·have:=opg y ho;have:=(C.kg y hy).1;omega
      ·have:=opg y ho;have:=(C.ng y hy).1;omega
    ·have z25:=f25.1
     rintro y (hy|hy|hy|hy)
     ·exact⟨(hx5 y hy).1,by have:=(hx5 y hy).2.1;omega,fun ho=>(g25 y ho).elim (hx5 y hy).2.2 (fun h2=>by have:=(hx5 y hy).2.1;omega)⟩
     ·have a:=C.eg y hy
      exact⟨by omega,by omega,fun ho=>(g25 y ho).elim (fun h2=>by have:=opg y h2;omega) (fun h2=>by omega)⟩
     ·have a:=C.kg y hy
      have b:=C.ko.blk_lt hy
      exact⟨by omega,by omega,fun ho=>(g25 y ho).elim (fun h2=>by have:=opg y h2;omega) (fun h2=>by omega)⟩
     ·have a:=C.ng y hy
      have b:=C.no.blk_lt hy
      exact⟨by omega,by omega,fun ho=>(g25 y ho).elim (fun h2=>by have:=opg y h2;omega) (fun h2=>by omega)⟩
    ·intro y hy
     rcases g25 y hy with h2|h2
     ·exact hx6 y h2
     ·omega
    ·exact(fg.tt C.fr).step f25 (fun y hy ho=>by have:=hx6 y ho;omega)
    ·show L.length - Int.toNat ((k:Int)+1)<L.length - Int.toNat (k:Int);omega
 ·have q1: ¬(k:Int)<(L.length:Int):=by omega
  simp only[q1,decide_false,Bool.false_eq_true,if_false]
  rw[List.take_of_length_le (by rw[List.length_map];omega)] at O
  exact hk g op ol oc O fg
end Ses
end Go.Proofs.YtgccegnmggjkjaaGreatDoor
