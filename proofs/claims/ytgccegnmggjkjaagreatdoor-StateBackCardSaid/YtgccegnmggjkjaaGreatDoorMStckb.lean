/-
  What is proved here: parts of the proof, one behind the other (texts of this work, merged by a program; what the theorem does not use is left out). No condition.
-/
import Derived.Test.YtgccegnmggjkjaaGreatDoorMStcka
set_option maxRecDepth 100000
namespace Go.Proofs.YtgccegnmggjkjaaGreatDoor
open Go.Den Go.Fields
namespace Fld
variable {h h0 : Heap} {w r : Nat} {S : Nat → Prop} {bs : List UInt8} {e : Int} {R : Value → Heap → Prop}
def Wr (h:Heap) (w:Nat) (S:Nat→Prop) (bs:List UInt8):Prop:=
 ∃p c,h[w]? =some (.cells #[.bool true, .slice p bs.length c] T.fields_Writer (0,0))∧Own h p bs.length c 1 (bc bs)∧ ¬inBlk p w∧ ∀x,S x↔x=w∨inBlk p x
theorem Wr.lt (H:Wr h w S bs): ∀x,S x→x<h.size:=by
 obtain⟨p,c,hb,o,_,hs⟩:=H
 intro x hx
 rcases(hs x).1 hx with rfl|hx
 ·exact lt_of_get hb
 ·exact o.blk_lt hx
theorem Wr.frame {Q:Nat→Prop} {h':Heap} (H:Wr h w S bs) (hf:Fr Q h h') (hn: ∀x,S x→ ¬Q x):Wr h' w S bs:=by
 obtain⟨p,c,hb,o,hw,hs⟩:=H
 exact⟨p,c,hf.get hb (hn w ((hs w).2 (.inl rfl))),o.frame hf (fun x hx=>hn x ((hs x).2 (.inr hx))),hw,hs⟩
theorem new_ok (hk: ∀h' w S,Wr h' w S []→Fr (fun _=>False) h h'→(∀x,S x→h.size≤x)→R (.pointer (some ⟨w,0,none⟩)) h'):CallsH Tryz.prog F.fields_New #[] h R:=by
 refine fields_New.walk (newP_of ?_)
 refine hk _ _ (fun x=>x=h.size) ⟨none,0,push_new, .nil rfl rfl rfl rfl,(fun⟨a,e,_⟩=>by cases e),fun x=> ?_⟩ (Fr.push _ _) (fun x hx=>by omega)
 constructor
 ·exact .inl
 ·rintro(hx|⟨a,e,_⟩)
  ·exact hx
  ·cases e
theorem Wr.store {p p':Option Addr} {c c' n:Nat} {h1:Heap} {cs:List UInt8} {K:Heap→Prop} (hb:h[w]? =some (.cells #[.bool true, .slice p bs.length c] T.fields_Writer (0,0))) (hw: ¬inBlk p w) (hs: ∀x,S x↔x=w∨inBlk p x)
  (o:Own h1 p' (bs.length+n) c' 1 (bc bs++bc cs)) (f:Fr (inBlk p) h h1) (g: ∀x,inBlk p' x→inBlk p x∨h.size≤x) (hn:n=cs.length)
  (hk: ∀h' S',Wr h' w S' (bs++cs)→Step S h S' h'→K h'):StoreP h1 ⟨w,1,none⟩ (.slice p' (bs.length+n) c') K:=by
 subst hn
 have hb1:=f.get hb hw
 have hlt:=lt_of_get hb
 have hw': ¬inBlk p' w:=fun hx=>(g w hx).elim hw (fun h2=>by omega)
 refine storeP_blk hb1 (by simp) fun h' k1 k2 k3=> ?_
 have f2:Fr (fun x=>x=w) h1 h':=Fr.of_eq k2 k3
 refine hk h' (fun x=>x=w∨inBlk p' x) ⟨p',c', ?_, ?_,hw',fun x=>Iff.rfl⟩ ⟨?_, ?_⟩
 ·rw[k1,List.length_append];rfl
 ·rw[List.length_append,bc_append]
  exact o.frame f2 (fun x hx e=>hw' (e▸hx))
 ·exact f.trans f2 (fun x _ hx=>(hs x).2 (.inr hx)) (fun x _ hx=>(hs x).2 (.inl hx))
 ·rintro x (hx|hx)
  ·exact .inl ((hs x).2 (.inl hx))
  ·exact(g x hx).imp (fun h2=>(hs x).2 (.inr h2)) id
theorem Wr.push {x:Int} {b:UInt8} {K:Heap→Prop} (H:Wr h w S bs) (hl:bs.length≤1099511627786) (hx:x=(b.toNat:Int)) (hk: ∀h' S',Wr h' w S' (bs++ [b])→Step S h S' h'→K h'):
  ∃(p:Option Addr) (l c:Nat),hcell h ⟨w,1,none⟩=some (.slice p l c)∧
  NewP h (.cells #[.int .u8 x] T.uint8) fun b h_1=>
  denSem Tryz.prog (Builtin.append_ #[T.s_uint8,T.s_uint8] T.s_uint8 #[.slice p l c, .slice (some ⟨b,0,none⟩) 1 1]) h_1 fun v h_2=>
  ∃(q:Option Addr) (m d:Nat),v= .slice q m d∧StoreP h_2 ⟨w,1,none⟩ (.slice q m d) K:=by
 obtain⟨p,c,hb,o,hw,hs⟩:=H
 refine⟨p,bs.length,c,cell_at hb rfl, ?_⟩
 refine den_append1 tU uU o rfl (fun v hv=>by simp at hv;subst hv;rfl) (by omega) (by omega) ?_
 intro p' c' h1 o1 f1 g1
 subst hx
 exact⟨_,_,_,rfl,Wr.store (cs:= [b]) hb hw hs o1 f1 g1 rfl hk⟩
def numI (h0:Heap) (w:Nat) (S0:Nat→Prop) (bs:List UInt8) (n0:Nat) (n:Int) (h:Heap):Prop:=
 ∃(m:Nat) (S:Nat→Prop) (d:List UInt8),n=(m:Int)∧m<18446744073709551616∧Wr h w S (bs++d)∧d++encNum m=encNum n0∧Step S0 h0 S h
theorem num_ok {n:Int} (k:Nat) (H:Wr h w S bs) (hl:bs.length≤1099511627776) (e:n=(k:Int)) (hn:k<18446744073709551616)
  (hk: ∀h' S',Wr h' w S' (bs++encNum k)→Step S h S' h'→R (.pointer (some ⟨w,0,none⟩)) h'):CallsH Tryz.prog F.fields_Writer_Num #[.pointer (some ⟨w,0,none⟩), .int .u64 n] h R:=by
 subst e
 refine fields_Writer_Num.walk ?_
 obtain⟨p,c,hb,_⟩:=id H
 refine JoinP.of fun J hJ=>⟨true,cell_at hb rfl, ?_⟩
 subst hJ
 simp only[Bool.not_true,Bool.false_eq_true,if_false]
 clear hb
 refine⟨numI h w S bs k,fun n _=>n.toNat,⟨k,S, [],rfl,hn,by simpa using H,rfl,Step.refl _ _⟩, ?_⟩
 rintro _ h2 ⟨m,S2,d,rfl,hm,H2,hd,st⟩
 have hdl:d.length≤10:=by
  have:=congrArg List.length hd
  rw[List.length_append] at this
  have:=(encNum_len k).2
  omega
 by_cases hgt:(m:Int)>127
 ·simp only[hgt,decide_true,if_true]
  refine H2.push (by rw[List.length_append];omega) (or128 m) fun h5 S5 H5 st5=> ?_
  rw[shr7]
  refine⟨⟨m/128,S5,d++ [UInt8.ofNat (m%128+128)],rfl,by omega,by rwa[List.append_assoc] at H5, ?_,st.trans st5⟩, ?_⟩
  ·rw[←hd,encNum_step hm,if_pos (by omega)];simp
  ·show Int.toNat ((m/128:Nat):Int)<Int.toNat (m:Int)
   omega
 ·simp only[hgt,decide_false,Bool.false_eq_true,if_false]
  refine H2.push (by rw[List.length_append];omega) (b:=UInt8.ofNat m) (by rw[wrap_u8_nat,UInt8.toNat_ofNat']) fun h5 S5 H5 st5=> ?_
  refine hk h5 S5 ?_ (st.trans st5)
  rwa[←hd,encNum_step hm,if_neg (by omega),←List.append_assoc]
theorem max0 (n:Int) (h2:n≤9223372036854775807):IntKind.wrap .u64 (if 0>n then 0 else n)=((natOf n:Nat):Int):=by
 unfold natOf
 split
 ·rw[wrap_u64 (by omega) (by omega)];omega
 ·rw[wrap_u64 (by omega) (by omega)];omega
theorem int_ok {n:Int} (H:Wr h w S bs) (hl:bs.length≤1099511627776) (hn:n≤9223372036854775807)
  (hk: ∀h' S',Wr h' w S' (bs++encNum (natOf n))→Step S h S' h'→R (.pointer (some ⟨w,0,none⟩)) h'):CallsH Tryz.prog F.fields_Writer_Int #[.pointer (some ⟨w,0,none⟩), .int .i64 n] h R:=
 fields_Writer_Int.walk (num_ok (natOf n) H hl (max0 n hn) (by unfold natOf;omega) fun h' S' H' st=>⟨_,rfl,hk h' S' H' st⟩)
theorem bool_ok {b:Bool} (H:Wr h w S bs) (hl:bs.length≤1099511627776)
  (hk: ∀h' S',Wr h' w S' (bs++encNum (bit b))→Step S h S' h'→R (.pointer (some ⟨w,0,none⟩)) h'):CallsH Tryz.prog F.fields_Writer_Bool #[.pointer (some ⟨w,0,none⟩), .bool b] h R:=by
 refine fields_Writer_Bool.walk ?_
 cases b
 all_goals simp only[if_true,Bool.false_eq_true,if_false]
 ·exact num_ok 0 H hl rfl (by omega) fun h' S' H' st=>⟨_,rfl,hk h' S' H' st⟩
 ·exact num_ok 1 H hl rfl (by omega) fun h' S' H' st=>⟨_,rfl,hk h' S' H' st⟩
theorem text_ok' {p:Option Addr} {n c:Nat} {t:List UInt8} (H:Wr h w S bs) (hl:bs.length≤1099511627776) (hr:Row h p (bc t)) (hn:n=t.length) (ht:t.length≤1099511627776) (hp: ∀x,inBlk p x→t≠ []→ ¬S x)
  (hk: ∀h' S',Wr h' w S' (bs++encText t)→Step S h S' h'→R (.pointer (some ⟨w,0,none⟩)) h'):CallsH Tryz.prog F.fields_Writer_Text #[.pointer (some ⟨w,0,none⟩), .slice p n c] h R:=by
 subst hn
 refine fields_Writer_Text.walk (num_ok t.length H hl (wrap_u64 (by omega) (by omega)) (by omega) fun h1 S1 H1 st1=>⟨_,rfl, ?_⟩)
 obtain⟨q,d,hb,o,hw,hs⟩:=H1
 refine JoinP.of fun J hJ=>⟨true,cell_at hb rfl, ?_⟩
 subst hJ
 refine JoinP.of fun J hJ=> ?_
 simp only[if_true]
 subst hJ
 refine⟨q,_,d,cell_at hb rfl, ?_⟩
 have hlen:=(encNum_len t.length).2
 rw[List.length_append]
 rw[List.length_append] at o
 refine den_append tU uU o (by
  by_cases hne:t= []
  ·rw[hne];exact .inl rfl
  ·exact hr.frame st1.fr (fun a e hx=>hp _ ⟨a,e,rfl⟩ hne hx)) (by rw[bc_len,Nat.mul_one]) (bc_one t) (by omega) (by omega) ?_
 intro p' c' h' o1 _ f2 g
 refine⟨_,_,_,rfl, ?_⟩
 rw[List.length_append] at hb
 have:=Wr.store (n:=t.length) (cs:=t) (K:=fun h_5=>R (Value.pointer (some { block:=w,off:=0 })) h_5) (bs:=bs++encNum t.length) (by rw[List.length_append];exact hb) hw hs (by rw[List.length_append];exact o1) f2 g rfl fun h2 S2 H2 st2=> ?_
 ·rw[List.length_append] at this
  exact this
 ·exact hk h2 S2 (by unfold encText;rwa[List.append_assoc] at H2) (st1.trans st2)
theorem text_ok {p:Option Addr} {n c:Nat} {t:List UInt8} (H:Wr h w S bs) (hl:bs.length≤1099511627776) (hr:Row h p (bc t)) (hn:n=t.length) (ht:t.length≤1099511627776) (hp: ∀x,inBlk p x→ ¬S x)
  (hk: ∀h' S',Wr h' w S' (bs++encText t)→Step S h S' h'→R (.pointer (some ⟨w,0,none⟩)) h'):CallsH Tryz.prog F.fields_Writer_Text #[.pointer (some ⟨w,0,none⟩), .slice p n c] h R:=
 text_ok' H hl hr hn ht (fun x hx _=>hp x hx) hk
theorem bytes_ok (H:Wr h w S bs) (hl:bs.length≤70368744177664)
  (hk: ∀p' c' h',Own h' p' bs.length c' 1 (bc bs)→Fr (fun _=>False) h h'→(∀x,inBlk p' x→h.size≤x)→R (.slice p' bs.length c') h'):CallsH Tryz.prog F.fields_Writer_Bytes #[.pointer (some ⟨w,0,none⟩)] h R:=by
 obtain⟨p,c,hb,o,hw,hs⟩:=H
 exact fields_Writer_Bytes.walk ⟨p,_,c,cell_at hb rfl,clone_ok o.row' rfl hl fun p' c' h' o1 f1 g1=>⟨_,_,_,rfl,hk p' c' h' o1 f1 g1⟩⟩
def Rd (h:Heap) (r:Nat) (S:Nat→Prop) (e:Int) (bs:List UInt8):Prop:=
 ∃p c,h[r]? =some (.cells #[.int .i64 e, .bool true, .slice p bs.length c] T.fields_Reader (0,0))∧Own h p bs.length c 1 (bc bs)∧ ¬inBlk p r∧S r∧(∀x,inBlk p x→S x)∧ ∀x,S x→x<h.size
theorem Rd.lt (H:Rd h r S e bs): ∀x,S x→x<h.size:=by
 obtain⟨p,c,_,_,_,_,_,hs⟩:=H;exact hs
theorem Rd.self (H:Rd h r S e bs):S r:=by
 obtain⟨p,c,_,_,_,hs,_,_⟩:=H;exact hs
theorem Rd.frame {Q:Nat→Prop} {h':Heap} (H:Rd h r S e bs) (hf:Fr Q h h') (hn: ∀x,S x→ ¬Q x):Rd h' r S e bs:=by
 obtain⟨p,c,hb,o,hr,h1,h2,h3⟩:=H
 exact⟨p,c,hf.get hb (hn r h1),o.frame hf (fun x hx=>hn x (h2 x hx)),hr,h1,h2,fun x hx=>Nat.lt_of_lt_of_le (h3 x hx) hf.1⟩
theorem read_ok {p:Option Addr} {n c:Nat} (hr:Row h p (bc bs)) (hn:n=bs.length) (hl:bs.length≤70368744177664)
  (hk: ∀h' r S,Rd h' r S 0 bs→Fr (fun _=>False) h h'→(∀x,S x→h.size≤x)→R (.pointer (some ⟨r,0,none⟩)) h'):CallsH Tryz.prog F.fields_Read #[.slice p n c] h R:=by
 refine fields_Read.walk (clone_ok hr hn hl fun p' c' h1 o1 f1 g1=>⟨_,_,_,rfl,newP_of ?_⟩)
 refine hk _ _ (fun x=>h.size≤x∧x≤h1.size) ⟨p',c',push_new,o1.frame (Fr.push (S:=fun _=>False) _ _) (fun _ _=>id), ?_,⟨f1.1,Nat.le_refl _⟩, ?_, ?_⟩ (Fr.on f1 (Fr.push _ _)) (fun x hx=>hx.1)
 ·intro hx;have:=o1.blk_lt hx;omega
 ·intro x hx;have:=o1.blk_lt hx;exact⟨g1 x hx,by omega⟩
 ·intro x hx;rw[Array.size_push];omega
theorem fail_ok {e':Int} (H:Rd h r S e bs) (hk: ∀h',Rd h' r S (failE e e') bs→Fr (fun x=>x=r) h h'→R (.tuple #[]) h'):CallsH Tryz.prog F.fields_fault_fail #[.pointer (some ⟨r,0,none⟩), .int .i64 e'] h R:=by
 obtain⟨p,c,hb,o,hr,h1,h2,h3⟩:=id H
 refine fields_fault_fail.walk ⟨e,cell_at hb rfl, ?_⟩
 unfold failE at hk
 by_cases h0:e=0
 ·subst h0
  simp only[beq_self_eq_true,if_true]
  refine storeP_blk hb (by simp) fun h' k1 k2 k3=> ?_
  have f:Fr (fun x=>x=r) h h':=Fr.of_eq k2 k3
  exact hk h' ⟨p,c,k1,o.frame f (fun x hx e=>hr (e▸hx)),hr,h1,h2,fun x hx=>by rw[k2];exact h3 x hx⟩ f
 ·simp only[beq_iff_eq,h0,if_false]
  simp only[h0,if_false] at hk
  exact hk h H (Fr.refl _ _)
theorem fine_ok (H:Rd h r S e bs) (hk:R (.bool (e==0)) h):CallsH Tryz.prog F.fields_Reader_fine #[.pointer (some ⟨r,0,none⟩)] h R:=by
 obtain⟨p,c,hb,o,hr,h1,h2,h3⟩:=H
 exact fields_Reader_fine.walk ⟨true,cell_at hb rfl,e,cell_at hb rfl,hk⟩
def rnumI (h0:Heap) (r:Nat) (S:Nat→Prop) (bs:List UInt8) (n i:Int) (h:Heap):Prop:=
 ∃(k a:Nat) (rest:List UInt8),i=(k:Int)∧n=(a:Int)∧k≤10∧a<2 ^ (7*k)∧a<18446744073709551616∧Rd h r S 0 rest∧Fr (fun x=>x=r) h0 h∧rdN k a rest=rdN 0 0 bs
theorem rnum_ok (H:Rd h r S e bs) (hk: ∀h',Rd h' r S (readNum e bs).2.1 (readNum e bs).2.2→Fr (fun x=>x=r) h h'→R (.int .u64 ((readNum e bs).1:Int)) h'):
  CallsH Tryz.prog F.fields_Reader_Num #[.pointer (some ⟨r,0,none⟩)] h R:=by
 refine fields_Reader_Num.walk (JoinP.of fun J hJ=> ?_)
 by_cases he:e=0
 ·subst he
  unfold readNum at hk
  rw[if_pos rfl] at hk
  refine⟨rnumI h r S bs,fun _ i _=>11 - i.toNat,⟨0,0,bs,rfl,rfl,by omega,by simp,by omega,H,Fr.refl _ _,rfl⟩, ?_⟩
  rintro _ _ h2 ⟨k,a,rest,rfl,rfl,hk10,ha,ha2,H2,f2,hrd⟩
  refine fine_ok H2 ⟨_,rfl, ?_⟩
  simp only[beq_self_eq_true,if_true]
  obtain⟨p,c,hb,o,hr,h1,hsub,h3⟩:=id H2
  refine⟨p,_,c,cell_at hb rfl, ?_⟩
  cases rest with
  |nil=>
   simp only[List.length_nil,Int.natCast_zero,beq_self_eq_true,if_true]
   refine fail_ok H2 fun h4 H4 f4=>⟨rfl, ?_⟩
   subst hJ
   rw[rdN] at hrd
   rw[←hrd] at hk
   exact hk h4 H4 (f2.tt f4)
  |cons b rest=>
   have hne:((((b::rest).length:Nat):Int)==0)=false:=by simp only[List.length_cons,beq_eq_false_iff_ne,ne_eq];omega
   simp only[hne,Bool.false_eq_true,if_false]
   refine⟨p,_,c,cell_at hb rfl,⟨by omega,by simp only[List.length_cons];omega⟩, ?_⟩
   obtain⟨ab,aoff,rfl⟩:=o.some (by rw[bc_len];simp)
   refine onSome_some.2 ⟨(b.toNat:Int),o.cell rfl,some ⟨ab,aoff,none⟩,_,c,cell_at hb rfl,⟨by omega,by simp only[List.length_cons];omega⟩, ?_⟩
   have o2:=o.sub (l:=1) (u:=(b::rest).length) (by simp) (Nat.le_refl _)
   have er:((bc (b::rest)).take ((b::rest).length*1)).drop (1*1)=bc rest:=by
    simp only[Nat.mul_one]
    rw[List.take_of_length_le (by rw[bc_len];exact Nat.le_refl _)];rfl
   rw[er] at o2
   have el:(b::rest).length - Int.toNat 1=rest.length:=by simp
   rw[el]
   have el2:(b::rest).length - 1=rest.length:=by simp
   rw[el2] at o2
   refine storeP_blk hb (by simp) fun h5 k1 k2 k3=> ?_
   have f5:Fr (fun x=>x=r) h2 h5:=Fr.of_eq k2 k3
   have H5:Rd h5 r S 0 rest:=⟨_,_,k1,o2.frame f5 (fun x hx e=>hr (e▸inBlk_sub hx)),fun hx=>hr (inBlk_sub hx),h1,fun x hx=>hsub x (inBlk_sub hx),fun x hx=>by rw[k2];exact h3 x hx⟩
   have f25:=f2.tt f5
   clear o2 k1 k2 k3 f5 er el el2 hne o hb hsub h3 hr
   have w1:IntKind.wrap .i64 ((k:Int)*7)=((7*k:Nat):Int):=by rw[wrap_id (by omega) (by omega)];omega
   have w2:IntKind.wrap .i64 (7*(k:Int))=((7*k:Nat):Int):=by rw[wrap_id (by omega) (by omega)];omega
   have w3:IntKind.wrap .i64 ((k:Int)+1)=((k+1:Nat):Int):=by rw[wrap_id (by omega) (by omega)];omega
   have hb:=b.toNat_lt
   rw[rdN] at hrd
   refine JoinP.of fun J1 hJ1=> ?_
   have fin:J1 (decide (k=10∨(k=9∧b.toNat>1)∨(b.toNat=0∧k>0))) h5:=by
    subst hJ1
    by_cases hbad:k=10∨(k=9∧b.toNat>1)∨(b.toNat=0∧k>0)
    ·simp only[hbad,decide_true,if_true]
     rw[if_pos hbad] at hrd
     refine fail_ok H5 fun h7 H7 f7=>⟨rfl, ?_⟩
     subst hJ
     rw[←hrd] at hk
     exact hk h7 H7 (f25.tt f7)
    ·simp only[hbad,decide_false,Bool.false_eq_true,if_false]
     rw[if_neg hbad] at hrd
     rw[w2,w3,if_neg (by omega),and128,and127]
     have hd:b.toNat%128*2 ^ (7*k)<18446744073709551616:=by
      by_cases h9:k=9
      ·subst h9
       have:b.toNat%128≤1:=by omega
       have:=Nat.mul_le_mul_right (2 ^ (7*9)) this
       omega
      ·have h8:k≤8:=by omega
       have p1:(2:Nat) ^ (7*k)≤2 ^ 56:=Nat.pow_le_pow_right (by omega) (by omega)
       have p2:b.toNat%128≤127:=by omega
       have:=Nat.mul_le_mul p2 p1
       omega
     have key:IntKind.wrap .u64 ((b.toNat%128:Nat):Int)=((b.toNat%128:Nat):Int):=wrap_u64_nat (by omega)
     have k64:7*k≤64:=by omega
     rw[key,or_shl ha hd k64]
     by_cases hlt:b.toNat<128
     ·simp only[hlt,decide_true,if_true]
      rw[if_pos hlt] at hrd
      rw[←hrd] at hk
      exact hk h5 H5 f25
     ·simp only[hlt,decide_false,Bool.false_eq_true,if_false]
      rw[if_neg hlt] at hrd
      have h9:k≤8:=by omega
      have p3:(2:Nat) ^ (7*(k+1))=128*2 ^ (7*k):=by rw[Nat.mul_add,Nat.pow_add,Nat.mul_comm]
      have p4:b.toNat%128+1≤128:=by omega
      have p5:=Nat.mul_le_mul_right (2 ^ (7*k)) p4
      rw[Nat.add_mul] at p5
      have p6:(2:Nat) ^ (7*(k+1))≤2 ^ 63:=Nat.pow_le_pow_right (by omega) (by omega)
      refine⟨⟨k+1,_,rest,rfl,rfl,by omega,by omega,by omega,H5,f25,hrd⟩, ?_⟩
      show 11 - Int.toNat ((k+1:Nat):Int)<11 - Int.toNat (k:Int)
      omega
   rw[w1]
   by_cases c1:k=10
   ·subst c1;simpa using fin
   ·have c1':((k:Int)==10)=false:=by simp only[beq_eq_false_iff_ne,ne_eq];omega
    simp only[c1',Bool.false_eq_true,if_false]
    by_cases c2:k=9
    ·subst c2
     by_cases c3:b.toNat>1
     ·have c3':(b.toNat:Int)>1:=by omega
      have c4: ¬b.toNat=0:=by omega
      simpa[c3,c3',c4] using fin
     ·have c3': ¬(b.toNat:Int)>1:=by omega
      by_cases c4:b.toNat=0
      ·simpa[c3,c3',c4] using fin
      ·simpa[c3,c3',c4] using fin
    ·have c2':(((7*k:Nat):Int)==63)=false:=by simp only[beq_eq_false_iff_ne,ne_eq];omega
     simp only[c2',Bool.false_eq_true,if_false]
     by_cases c4:b.toNat=0
     ·have c5:decide ((k:Int)>0)=decide (k>0):=by simp
      simp only[c4,Int.natCast_zero,beq_self_eq_true,if_true,c5]
      simpa[c1,c2,c4] using fin
     ·have c4':((b.toNat:Int)==0)=false:=by simp only[beq_eq_false_iff_ne,ne_eq];omega
      simp only[c4',Bool.false_eq_true,if_false]
      simpa[c1,c2,c4] using fin
 ·refine⟨fun _ _ h2=>h2=h,fun _ _ _=>0,rfl, ?_⟩
  rintro _ _ h2 rfl
  refine fine_ok H ⟨_,rfl, ?_⟩
  have:(e==0)=false:=by simpa using he
  simp only[this,Bool.false_eq_true,if_false]
  subst hJ
  unfold readNum at hk
  rw[if_neg he] at hk
  exact hk _ H (Fr.refl _ _)
theorem most_ok (top:Nat) {t:Int} (ht:t=(top:Int)) (H:Rd h r S e bs) (hk: ∀h',Rd h' r S (readMost top e bs).2.1 (readMost top e bs).2.2→Fr (fun x=>x=r) h h'→R (.int .u64 ((readMost top e bs).1:Int)) h'):
  CallsH Tryz.prog F.fields_Reader_atMost #[.pointer (some ⟨r,0,none⟩), .int .u64 t] h R:=by
 subst ht
 refine fields_Reader_atMost.walk (rnum_ok H fun h1 H1 f1=>⟨_,rfl, ?_⟩)
 unfold readMost at hk
 by_cases hgt:(readNum e bs).1>top
 ·have:((readNum e bs).1:Int)>(top:Int):=by omega
  simp only[this,decide_true,if_true]
  rw[if_pos hgt] at hk
  exact fail_ok H1 fun h2 H2 f2=>⟨rfl,hk h2 H2 (f1.tt f2)⟩
 ·have: ¬((readNum e bs).1:Int)>(top:Int):=by omega
  simp only[this,decide_false,Bool.false_eq_true,if_false]
  rw[if_neg hgt] at hk
  exact hk h1 H1 f1
theorem rint_ok (H:Rd h r S e bs) (hk: ∀h',Rd h' r S (readInt e bs).2.1 (readInt e bs).2.2→Fr (fun x=>x=r) h h'→R (.int .i64 ((readInt e bs).1:Int)) h'):
  CallsH Tryz.prog F.fields_Reader_Int #[.pointer (some ⟨r,0,none⟩)] h R:=
 fields_Reader_Int.walk (most_ok 1099511627776 rfl H fun h1 H1 f1=>⟨_,rfl,by
  have:=readMost_le 1099511627776 e bs
  rw[wrap_id (by omega) (by omega)]
  exact hk h1 H1 f1⟩)
theorem rbool_ok (H:Rd h r S e bs) (hk: ∀h',Rd h' r S (readMost 1 e bs).2.1 (readMost 1 e bs).2.2→Fr (fun x=>x=r) h h'→R (.bool (decide ((readMost 1 e bs).1=1))) h'):
  CallsH Tryz.prog F.fields_Reader_Bool #[.pointer (some ⟨r,0,none⟩)] h R:=
 fields_Reader_Bool.walk (most_ok 1 rfl H fun h1 H1 f1=>⟨_,rfl,by
  have:=hk h1 H1 f1
  have e:(((readMost 1 e bs).1:Int)==1)=decide ((readMost 1 e bs).1=1):=by
   by_cases q:(readMost 1 e bs).1=1
   ·simp[q]
   ·have: ¬((readMost 1 e bs).1:Int)=1:=by omega
    simp[q,this]
  rw[e];exact this⟩)
theorem rtext_ok (H:Rd h r S e bs) (hl:bs.length≤70368744177664)
  (hk: ∀h' p c,Rd h' r S (readText e bs).2.1 (readText e bs).2.2→Own h' p (readText e bs).1.length c 1 (bc (readText e bs).1)→(∀x,inBlk p x→h.size≤x)→Fr (fun x=>x=r) h h'→R (.slice p (readText e bs).1.length c) h'):
  CallsH Tryz.prog F.fields_Reader_Text #[.pointer (some ⟨r,0,none⟩)] h R:=by
 refine fields_Reader_Text.walk (rnum_ok H fun h1 H1 f1=>⟨_,rfl,fine_ok H1 ⟨_,rfl, ?_⟩⟩)
 unfold readText at hk
 have hlt:=readNum_lt e bs
 have hlen:(readNum e bs).2.2.length≤bs.length:=by
  unfold readNum;split
  ·exact rdN_len bs 0 0
  ·exact Nat.le_refl _
 generalize readNum e bs=N at*
 obtain⟨n,e',rest⟩:=N
 dsimp only at*
 by_cases h0:e'=0
 ·subst h0
  simp only[beq_self_eq_true,Bool.not_true,Bool.false_eq_true,if_false]
  obtain⟨p,c,hb,o,hr,k1,k2,k3⟩:=id H1
  refine⟨p,_,c,cell_at hb rfl, ?_⟩
  rw[if_pos rfl] at hk
  rw[wrap_u64 (n:=((rest.length:Nat):Int)) (by omega) (by omega)]
  by_cases hgt:n>rest.length
  ·have:(n:Int)>(rest.length:Int):=by omega
   simp only[this,decide_true,if_true]
   rw[if_pos hgt] at hk
   exact fail_ok H1 fun h2 H2 f2=>⟨rfl,hk h2 none 0 H2 (.nil rfl rfl rfl rfl) (fun x ⟨a,e,_⟩=>by cases e) (f1.tt f2)⟩
  ·have: ¬(n:Int)>(rest.length:Int):=by omega
   simp only[this,decide_false,Bool.false_eq_true,if_false]
   rw[if_neg hgt] at hk
   have hc:=o.le
   refine⟨p,_,c,cell_at hb rfl,⟨by omega,by omega⟩, ?_⟩
   have oc:=o.sub (l:=0) (u:=n) (by omega) (by omega)
   simp only[Nat.mul_one,List.drop_zero,bc_take] at oc
   have etl:(rest.take n).length=n:=by rw[List.length_take];omega
   refine clone_ok oc.row' (by rw[etl];omega) (by omega) fun p' c' h4 o4 f4 g4=>⟨_,_,_,rfl, ?_⟩
   have H4:=H1.frame f4 (fun _ _=>id)
   obtain⟨p2,c2,hb2,o2,hr2,k1',k2',k3'⟩:=H4
   refine⟨p2,_,c2,cell_at hb2 rfl,⟨by omega,by omega⟩, ?_⟩
   refine storeP_blk hb2 (by simp) fun h5 q1 q2 q3=> ?_
   have f5:Fr (fun x=>x=r) h4 h5:=Fr.of_eq q2 q3
   have os:=o2.sub (l:=n) (u:=rest.length) (by omega) (Nat.le_refl _)
   rw[Nat.mul_one,Nat.mul_one,←bc_len rest,List.take_length,bc_len,bc_drop] at os
   have edl:(rest.drop n).length=rest.length - n:=by simp
   refine hk h5 p' c' ⟨slBase p2 c2 n 1,c2 - n, ?_, ?_,fun hx=>hr2 (inBlk_sub hx),k1',fun x hx=>k2' x (inBlk_sub hx),fun x hx=>by rw[q2];exact k3' x hx⟩ (o4.frame f5 (fun x hx e=> ?_)) (fun x hx=> ?_) (f1.tt ((f4.mono fun _ _=>False.elim).tt f5))
   ·rw[edl]
    simpa using q1
   ·rw[edl]
    exact os.frame f5 (fun x hx e=>hr2 (e▸inBlk_sub hx))
   ·have:=g4 x hx;have:=lt_of_get hb;omega
   ·have:=g4 x hx;have:=f1.1;omega
 ·have:(e'==0)=false:=by simpa using h0
  simp only[this,Bool.not_false,if_true]
  rw[if_neg h0] at hk
  exact hk h1 none 0 H1 (.nil rfl rfl rfl rfl) (fun x ⟨a,e,_⟩=>by cases e) f1
theorem rend_ok (H:Rd h r S e bs) (hk:R (.int .i64 (readEnd e bs)) h):CallsH Tryz.prog F.fields_Reader_End #[.pointer (some ⟨r,0,none⟩)] h R:=by
 obtain⟨p,c,hb,o,hr,k1,k2,k3⟩:=H
 refine fields_Reader_End.walk (JoinP.of fun J hJ=>⟨true,cell_at hb rfl, ?_⟩)
 subst hJ
 simp only[Bool.not_true,Bool.false_eq_true,if_false]
 refine⟨e,cell_at hb rfl, ?_⟩
 unfold readEnd at hk
 by_cases h0:e=0
 ·subst h0
  simp only[bne_self_eq_false,Bool.false_eq_true,if_false]
  refine⟨p,_,c,cell_at hb rfl, ?_⟩
  rw[if_pos rfl] at hk
  cases bs with
  |nil=>exact hk
  |cons b bs=>
   have:(((b::bs).length:Nat):Int)>0:=by simp only[List.length_cons];omega
   simp only[this,decide_true,if_true]
   rwa[if_neg (by simp)] at hk
 ·have:(e !=0)=true:=by simpa using h0
  simp only[this,if_true]
  rw[if_neg h0] at hk
  exact⟨e,cell_at hb rfl,hk⟩
end Fld
end Go.Proofs.YtgccegnmggjkjaaGreatDoor
namespace Go.Den
structure BV where
 p:Option Addr
 c:Nat
 b:List UInt8
abbrev BV.val (x:BV):Value:= .slice x.p x.b.length x.c
structure BV.ok (h:Heap) (D:Nat→Prop) (x:BV):Prop where
 row:Row h x.p (bc x.b)
 own:x.b≠ []→ ∀c,inBlk x.p c→D c
 cap:x.b.length≤x.c
theorem BV.ok.frame {h h':Heap} {D Q:Nat→Prop} {x:BV} (H:x.ok h D) (f:Fr Q h h') (hn: ∀c,D c→ ¬Q c):x.ok h' D:=by
 refine⟨?_,H.own,H.cap⟩
 by_cases hc:x.b= []
 ·rw[hc];exact .inl rfl
 ·exact H.row.frame f (fun a e=>hn a.block (H.own hc a.block ⟨a,e,rfl⟩))
theorem BV.ok.mono {h:Heap} {D D':Nat→Prop} {x:BV} (H:x.ok h D) (hd: ∀c,D c→D' c):x.ok h D':=⟨H.row,fun hc c hx=>hd c (H.own hc c hx),H.cap⟩
theorem BV.of_own {h:Heap} {D:Nat→Prop} {p:Option Addr} {c:Nat} {b:List UInt8} (o:Own h p b.length c 1 (bc b)) (hd: ∀x,inBlk p x→D x):BV.ok h D ⟨p,c,b⟩:=⟨o.row',fun _=>hd,o.le⟩
theorem slBase_zero (p:Option Addr) (m sz:Nat):slBase p m 0 sz=p:=by
 unfold slBase
 split
 ·rfl
 ·cases p with
  |none=>rfl
  |some a=>simp[Addr.add]
theorem Own.heldAt {h:Heap} {a:Addr} {len cap sz:Nat} {α:Type} {enc:α→List Value} {xs:List α} (own:Own h (.some a) len cap sz (xs.flatMap enc)) (henc: ∀x,(enc x).length=sz) {i:Nat} {x:α} (hi:xs[i]? = .some x):heldL (a.add (i*sz)) (enc x) 0 h:=by
 refine heldL_at.2 fun j v hj=> ?_
 rw[Nat.zero_add,add_add]
 exact own.cell (flat_at enc sz henc xs i x hi j v hj)
theorem Row.heldAt {h:Heap} {a:Addr} {sz:Nat} {α:Type} {enc:α→List Value} {xs:List α} (own:Row h (.some a) (xs.flatMap enc)) (henc: ∀x,(enc x).length=sz) {i:Nat} {x:α} (hi:xs[i]? = .some x):heldL (a.add (i*sz)) (enc x) 0 h:=by
 refine heldL_at.2 fun j v hj=> ?_
 rw[Nat.zero_add,add_add]
 exact own.cell (flat_at enc sz henc xs i x hi j v hj)
theorem Own.addr {h:Heap} {p:Option Addr} {len cap sz:Nat} {cs:List Value} (own:Own h p len cap sz cs) (hl:0<len): ∃b off,p= .some ⟨b,off,none⟩:=by
 cases own with
 |nil _ h2 _ _=>omega
 |row b off c t hp _ _ _ _ _=>exact⟨b,off,hp⟩
theorem Own.pre {h:Heap} {p:Option Addr} {len cap sz:Nat} {cs:List Value} (own:Own h p len cap sz cs) {i:Nat} (hi:i≤len):Own h p i cap sz (cs.take (i*sz)):=by
 have:=own.sub (l:=0) (u:=i) (Nat.zero_le _) hi
 rwa[slBase_zero,Nat.zero_mul,List.drop_zero] at this
theorem flat_take {α:Type} (enc:α→List Value) (sz:Nat) (henc: ∀x,(enc x).length=sz): ∀(xs:List α) (i:Nat),(xs.flatMap enc).take (i*sz)=(xs.take i).flatMap enc
 | [],i=>by simp
 |x::xs,0=>by simp
 |x::xs,i+1=>by
  rw[List.flatMap_cons,List.take_succ_cons,List.flatMap_cons,List.take_append,henc,List.take_of_length_le (by rw[henc,Nat.add_mul];omega),show(i+1)*sz - sz=i*sz by rw[Nat.add_mul];omega,flat_take enc sz henc xs i]
theorem flat_drop {α:Type} (enc:α→List Value) (sz:Nat) (henc: ∀x,(enc x).length=sz): ∀(xs:List α) (i:Nat),(xs.flatMap enc).drop (i*sz)=(xs.drop i).flatMap enc
 | [],i=>by simp
 |x::xs,0=>by simp
 |x::xs,i+1=>by
  rw[List.flatMap_cons,List.drop_succ_cons,List.drop_append,henc,List.drop_of_length_le (by rw[henc,Nat.add_mul];omega),List.nil_append,show(i+1)*sz - sz=i*sz by rw[Nat.add_mul];omega,flat_drop enc sz henc xs i]
theorem flat_set {α:Type} (enc:α→List Value) (sz:Nat) (henc: ∀x,(enc x).length=sz): ∀(xs:List α) (i:Nat) (y:α),i<xs.length→ ∀(cs:List Value),cs.length=(xs.flatMap enc).length→(∀j,j/sz≠i∨sz=0→cs[j]? =(xs.flatMap enc)[j]?)→(∀j v,j<sz→(enc y)[j]? =some v→cs[i*sz+j]? =some v)→cs=(xs.set i y).flatMap enc:=by
 intro xs i y hi cs hl h1 h2
 apply List.ext_getElem?
 intro j
 by_cases hsz:sz=0
 ·rw[h1 j (.inr hsz)]
  have e1: ∀zs:List α,zs.flatMap enc= []:=fun zs=>by
   have:=flat_len enc sz henc zs;rw[hsz,Nat.mul_zero] at this;exact List.eq_nil_of_length_eq_zero this
  rw[e1,e1]
 have hpos:0<sz:=by omega
 by_cases hj:j/sz=i
 ·have hjm:j=i*sz+j%sz:=by rw[←hj,Nat.mul_comm];exact(Nat.div_add_mod j sz).symm
  have hm:=Nat.mod_lt j hpos
  have hy:(enc y)[j%sz]? =some ((enc y)[j%sz]'(by rw[henc];exact hm)):=List.getElem?_eq_getElem _
  have a:=h2 _ _ hm hy
  have b:=flat_at enc sz henc (xs.set i y) i y (by simp[hi]) _ _ hy
  rw[←hjm] at a b
  rw[a,b]
 ·rw[h1 j (.inl hj)]
  by_cases hjl:j/sz<xs.length
  ·have hjm:j=(j/sz)*sz+j%sz:=by rw[Nat.mul_comm];exact(Nat.div_add_mod j sz).symm
   have hm:=Nat.mod_lt j hpos
   have hx:xs[j/sz]? =some (xs[j/sz]):=List.getElem?_eq_getElem hjl
   have hx':(xs.set i y)[j/sz]? =some (xs[j/sz]):=by rw[List.getElem?_set,if_neg (fun e=>hj e.symm)];exact hx
   have hy:(enc xs[j/sz])[j%sz]? =some ((enc xs[j/sz])[j%sz]'(by rw[henc];exact hm)):=List.getElem?_eq_getElem _
   have a:=flat_at enc sz henc xs _ _ hx _ _ hy
   have b:=flat_at enc sz henc (xs.set i y) _ _ hx' _ _ hy
   rw[←hjm] at a b
   rw[a,b]
  ·have hge:xs.length*sz≤j:=by
    have:=(Nat.le_div_iff_mul_le hpos).1 (Nat.le_of_not_lt hjl);exact this
   rw[List.getElem?_eq_none (by rw[flat_len enc sz henc];exact hge),List.getElem?_eq_none (by rw[flat_len enc sz henc,List.length_set];exact hge)]
section
variable {P : Program}
theorem den_clear {sT elem ty:TypeId} {sz bytes:Nat} {z:Value} {h:Heap} {p:Option Addr} {len cap i:Nat} {cs:List Value} {K:Value→Heap→Prop} (T:SlTy P sT elem sz bytes z) (hone: ∀v∈z.cells.toList,oneCell v=true)
  (own:Own h p len cap sz cs) (hi:i≤len) (hk: ∀h',Own h' p i cap sz (cs.take (i*sz))→Fr (inBlk p) h h'→K (.tuple #[]) h'):denSem P (Builtin.clear_ #[sT] ty #[.slice (slBase p cap i sz) (len - i) (cap - i)]) h K:=by
 have fin:K (.tuple #[]) h:=hk h (own.pre hi) (Fr.refl _ _)
 obtain⟨inf,hinf,hsz,_,hz⟩:=T.i
 unfold Builtin.clear_
 show denSem P (underlying sT>>=_) h K
 refine den_of_rd (s:=underlying sT) (rd_underlying T.u) ?_
 cases own with
 |nil hp hl hc hcs=>
  subst hp
  have:slBase none cap i sz=none:=by unfold slBase;split<;>rfl
  rw[this]
  exact fin
 |row b off c t hp hb hl hc hlen hcs=>
  subst hp
  by_cases hil:len - i=0
  ·rw[hil]
   cases hq:slBase (some ⟨b,off,none⟩) cap i sz with
   |none=>exact fin
   |some a=>exact fin
  ·obtain⟨n,hn⟩: ∃n,len - i=n+1:=⟨len - i - 1,by omega⟩
   have hci:cap≠i:=by omega
   have hb0:slBase (some ⟨b,off,none⟩) cap i sz=some ⟨b,off+i*sz,none⟩:=by
    unfold slBase;rw[if_neg hci];show some ((⟨b,off,none⟩:Addr).add (i*sz))=_;rw[add_blk]
   rw[hb0,hn]
   show denSem P (zeroValue elem>>=fun z=>storeCells ⟨b,off+i*sz,none⟩ (Builtin.zeroCells z.cells (n+1)).toList>>=fun _=>pure (Value.tuple #[])) h K
   refine den_of_rd (s:=zeroValue elem) (rd_zeroValue hinf hz) ?_
   rw[den_bind]
   have hzs:=T.zs
   have hzl:(Builtin.zeroCells z.cells (n+1)).toList.length=(n+1)*sz:=by simp[Builtin.zeroCells,hzs]
   have hin:off+i*sz+(n+1)*sz≤off+cap*sz:=by
    rw[←hn,Nat.sub_mul]
    have m1:i*sz≤len*sz:=Nat.mul_le_mul_right _ hi
    have m2:len*sz≤cap*sz:=Nat.mul_le_mul_right _ hl
    omega
   refine splice_set (c:=c) (off:=off+i*sz) _ 0 h b t _ ?_ hb (by rw[hzl];omega) ?_
   ·intro v hv
    simp only[Builtin.zeroCells,Array.toList_map,List.mem_map] at hv
    obtain⟨k,hk1,rfl⟩:=hv
    have hpos:0<z.cells.size:=by
     rcases Nat.eq_zero_or_pos z.cells.size with e|e
     ·simp[e] at hk1
     ·exact e
    have hm:=Nat.mod_lt k hpos
    rw[getElem!_pos z.cells _ hm]
    exact hone _ (by simp)
   ·intro h' c' hb' hs' ho' hn' hsz' hoth
    refine hk h' (.row b off c' t rfl hb' (by omega) (by omega) ?_ ?_) (Fr.of_eq hsz' fun x hx=>hoth x (fun e=>hx ⟨_,rfl,e.symm⟩))
    ·rw[List.length_take,hlen]
     have m1:i*sz≤len*sz:=Nat.mul_le_mul_right _ hi
     omega
    ·intro j v hj
     rw[List.getElem?_take] at hj
     split at hj
     ·rename_i hji
      rw[ho' (off+j) (by omega)]
      exact hcs j v hj
     ·cases hj
theorem den_clone {sT xT ty elem eT t:TypeId} {sz bytes:Nat} {z:Value} {h:Heap} {q:Option Addr} {n cq:Nat} {ds:List Value} {K:Value→Heap→Prop}
  (T:SlTy P sT elem sz bytes z) (hx:P.underlying xT=some (.slice eT)) (hq:Row h q ds) (hd:ds.length=n*sz) (hone: ∀v∈ds,oneCell v=true) (hb:n*bytes≤70368744177664) (hb2:n≤9223372036854775807)
  (hk: ∀p' cap' h',Own h' p' n cap' sz ds→Fr (fun _=>False) h h'→(∀c,inBlk p' c→h.size≤c)→K (.slice p' n cap') h'):
  NewP h (.cells #[] t) fun b h1=>denSem P (Builtin.append_ #[sT,xT] ty #[.slice (some ⟨b,0,none⟩) 0 0, .slice q n cq]) h1 K:=by
 refine newP_of ?_
 have f1:Fr (fun _=>False) h (h.push (.cells #[] t)):=Fr.push _ _
 refine den_append (cs:= []) T hx (.row h.size 0 #[] t rfl push_new (Nat.le_refl _) (by simp) (by simp) (fun j v hj=>by cases hj)) (hq.frame f1 (fun _ _=>id)) hd hone (by simpa using hb) (by omega) ?_
 intro p' c' h' o1 _ f2 g
 rw[Nat.zero_add,List.nil_append] at o1
 rw[Nat.zero_add]
 refine hk p' c' h' o1 (f1.step f2 (fun c hc ⟨a,e,e2⟩=>by cases e;simp at e2;omega)) (fun x hx=> ?_)
 rcases g x hx with⟨a,e,rfl⟩|h2
 ·cases e;exact Nat.le_refl _
 ·simp at h2;omega
end
theorem flat_set2 {α:Type} {enc:α→List Value} (henc: ∀x,(enc x).length=2) {xs:List α} {i:Nat} {y:α} {v0 v1:Value} (hi:i<xs.length) (hy:enc y= [v0,v1]):((xs.flatMap enc).set (i*2) v0).set (i*2+1) v1=(xs.set i y).flatMap enc:=by
 have hl:=flat_len enc 2 henc xs
 refine flat_set enc 2 henc xs i y hi _ (by simp) (fun j hj=> ?_) (fun j v hj hv=> ?_)
 ·have hj:j/2≠i:=by omega
  rw[List.getElem?_set,List.getElem?_set,if_neg (by omega),if_neg (by omega)]
 ·rw[hy] at hv
  match j,hj with
  |0,_=>
   simp only[List.getElem?_cons_zero,Option.some.injEq] at hv
   rw[List.getElem?_set,if_neg (by omega),List.getElem?_set,if_pos (by omega),if_pos (by omega),hv]
  |1,_=>
   simp only[List.getElem?_cons_succ,List.getElem?_cons_zero,Option.some.injEq] at hv
   rw[List.getElem?_set,if_pos rfl,if_pos (by rw[List.length_set];omega),hv]
end Go.Den
set_option maxRecDepth 100000
namespace Go.Den
theorem den_s2b {P:Program} {sT dT e:TypeId} {h:Heap} {s:ByteArray} {K:Value→Heap→Prop} (hs:P.underlying sT=some .string) (hd:P.underlying dT=some (.slice e)) (he:P.underlying e=some (.int .u8))
  (hk: ∀p c h',Row h' p (bc s.data.toList)→s.size≤c→Fr (fun _=>False) h h'→(∀y,inBlk p y→h.size≤y)→K (.slice p s.size c) h'):denSem P (convert sT dT (.string s)) h K:=by
 unfold convert
 refine den_of_rd (s:=underlying sT) (rd_underlying hs) ?_
 refine den_of_rd (s:=underlying dT) (rd_underlying hd) ?_
 show denSem P (underlying e>>=_) h K
 refine den_of_rd (s:=underlying e) (rd_underlying he) ?_
 show denSem P (Conv.stringToBytes e s) h K
 unfold Conv.stringToBytes
 rw[den_bind]
 unfold choose
 simp only[denSem,Question.forced,Bool.false_eq_true,if_false,Question.cut]
 intro tq
 generalize hcap:s.size+tq%(2 ^ 63 - s.size)=cap
 have hle:s.size≤cap:=by omega
 generalize hcs:(s.data.map fun b=>Value.int .u8 (b.toNat:Int))++Array.replicate (cap - s.size) (Value.int .u8 0)=cs
 have hrow: ∀j v,(bc s.data.toList)[j]? =some v→cs[0+j]? =some v:=fun j v hj=>by
  have hjl:=(List.getElem?_eq_some_iff.1 hj).1
  rw[bc_len,Array.length_toList] at hjl
  rw[←hcs,Nat.zero_add,Array.getElem?_append_left (by simpa using hjl),Array.getElem?_map,←hj]
  unfold bc
  rw[List.getElem?_map,Array.getElem?_toList]
 show denSem P (newRow e cs>>=_) h K
 rw[den_bind]
 show denSem P (markStringish ⟨h.size,0,none⟩>>=fun _=>pure (.slice (some ⟨h.size,0,none⟩) s.size cap)) (h.push (.cells cs e)) K
 rw[den_bind]
 unfold markStringish shape
 have hsh:hshape (h.push (.cells cs e)) h.size=some (e,cs.size):=by simp[hshape]
 show denSem P (match hshape (h.push (.cells cs e)) h.size with|some (_,n)=>freeze { block:=h.size,off:=n } 1|_=>pure ()) (h.push (.cells cs e)) _
 rw[hsh]
 show K (.slice (some ⟨h.size,0,none⟩) s.size cap) (hfreeze (h.push (.cells cs e)) { block:=h.size,off:=cs.size } 1)
 unfold hfreeze
 rw[if_neg (by omega)]
 refine hk _ _ _ (.inr ⟨_,rfl,heldL_blk (c:=cs) (t:=e) (f:=if(0:Nat)==0 then(cs.size,cs.size+1) else(min 0 cs.size,max 0 (cs.size+1))) ?_ hrow⟩) hle ⟨by simp,fun c hc _=> ?_⟩ (fun y ⟨a,ea,ey⟩=>by cases ea;exact Nat.le_of_eq ey)
 ·rw[Array.getElem?_modify,if_pos rfl,push_new];rfl
 ·rw[Array.getElem?_modify,if_neg (by simp;omega),Array.getElem?_push,if_neg (by omega)]
end Go.Den
namespace Go.Proofs.YtgccegnmggjkjaaGreatDoor
open Go.Den Go.Fields
namespace Fld
variable {h h' h0 : Heap} {R : Value → Heap → Prop} {p q : Option Addr} {l c : Nat} {bs : List (List UInt8)}
theorem s2b {s:ByteArray} {K:Value→Heap→Prop} (hk: ∀p c h',Row h' p (bc s.data.toList)→s.size≤c→Fr (fun _=>False) h h'→(∀y,inBlk p y→h.size≤y)→K (.slice p s.size c) h'):denSem Tryz.prog (convert T.string T.s_uint8 (.string s)) h K:=den_s2b uS uU u8 hk
abbrev nenc (n:BV):List Value:= [n.val]
theorem tN:SlTy Tryz.prog T.s_s_uint8 T.s_uint8 1 24 (.slice none 0 0):=⟨by kernel_rfl,by kernel_rfl,rfl⟩
theorem uN:Tryz.prog.underlying T.s_s_uint8=some (.slice T.s_uint8):=by kernel_rfl
theorem nenc_len (n:BV):(nenc n).length=1:=rfl
theorem nenc_one (xs:List BV): ∀v∈xs.flatMap nenc,oneCell v=true:=by
 intro v hv
 obtain⟨a,_,ha⟩:=List.mem_flatMap.1 hv
 simp at ha
 subst ha;rfl
def BL (h0 h:Heap) (p:Option Addr) (l c:Nat) (bs:List (List UInt8)):Prop:=
 ∃(xs:List BV) (D:Nat→Prop),l=xs.length∧Own h p l c 1 (xs.flatMap nenc)∧xs.map BV.b=bs∧(∀x∈xs,x.ok h D)∧(∀y,D y→h0.size≤y∧y<h.size∧ ¬inBlk p y)∧ ∀y,inBlk p y→h0.size≤y
theorem BL.nil:BL h0 h none 0 0 []:=⟨[],fun _=>False,rfl, .nil rfl rfl rfl rfl,rfl,(fun x hx=>by cases hx),(fun y hy=>hy.elim),fun y ⟨a,e,_⟩=>by cases e⟩
theorem BL.on (H:BL h0 h p l c bs) (f:Fr (fun _=>False) h h'):BL h0 h' p l c bs:=by
 obtain⟨xs,D,h1,h2,h3,h4,h5,h6⟩:=H
 exact⟨xs,D,h1,h2.frame f (fun _ _=>id),h3,fun x hx=>(h4 x hx).frame f (fun _ _=>id),fun y hy=>⟨(h5 y hy).1,Nat.lt_of_lt_of_le (h5 y hy).2.1 f.1,(h5 y hy).2.2⟩,h6⟩
theorem BL.len (H:BL h0 h p l c bs):l=bs.length:=by
 obtain⟨xs,D,h1,_,h3,_⟩:=H
 rw[h1,←h3,List.length_map]
theorem BL.lt (H:BL h0 h p l c bs) {y:Nat} (hy:inBlk p y):y<h.size:=by
 obtain⟨xs,D,_,h2,_⟩:=H
 exact h2.blk_lt hy
theorem BL.mono {h1:Heap} (H:BL h1 h p l c bs) (hz:h0.size≤h1.size):BL h0 h p l c bs:=by
 obtain⟨xs,D,h1,h2,h3,h4,h5,h6⟩:=H
 exact⟨xs,D,h1,h2,h3,h4,fun y hy=>⟨Nat.le_trans hz (h5 y hy).1,(h5 y hy).2⟩,fun y hy=>Nat.le_trans hz (h6 y hy)⟩
theorem BL.push {b:List UInt8} {q':Option Addr} {d:Nat} {K:Value→Heap→Prop} (H:BL h0 h p l c bs) (up:h0.size≤h.size) (o:Own h q' b.length d 1 (bc b)) (hq: ∀y,inBlk q' y→h0.size≤y∧ ¬inBlk p y) (hl:l≤1000000)
  (hk: ∀p' c' h',BL h0 h' p' (l+1) c' (bs++ [b])→Fr (inBlk p) h h'→(∀y,inBlk p' y→inBlk p y∨h.size≤y)→K (.slice p' (l+1) c') h'):
  NewP h (.cells #[.slice q' b.length d] T.s_uint8) fun b' h1=>denSem Tryz.prog (Builtin.append_ #[T.s_s_uint8,T.s_s_uint8] T.s_s_uint8 #[.slice p l c, .slice (some ⟨b',0,none⟩) 1 1]) h1 K:=by
 obtain⟨xs,D,h1,h2,h3,h4,h5,h6⟩:=H
 refine den_append1 tN uN h2 rfl (fun v hv=>by simp at hv;subst hv;rfl) (by omega) (by omega) ?_
 intro p' c' h' o' f' g'
 have lt: ∀y,inBlk q' y→y<h.size:=fun y hy=>o.blk_lt hy
 refine hk p' c' h' ⟨xs++ [⟨q',d,b⟩],fun y=>D y∨inBlk q' y,by rw[List.length_append,h1];rfl, ?_, ?_, ?_, ?_, ?_⟩ f' g'
 ·rw[List.flatMap_append];simpa using o'
 ·rw[List.map_append,h3];rfl
 ·intro x hx
  rcases List.mem_append.1 hx with hx|hx
  ·exact((h4 x hx).frame f' (fun y hy=>(h5 y hy).2.2)).mono (fun y=> .inl)
  ·simp at hx;subst hx
   exact BV.of_own (o.frame f' (fun y hy=>(hq y hy).2)) (fun y=> .inr)
 ·have z:=f'.1
  rintro y (hy|hy)
  ·exact⟨(h5 y hy).1,by have:=(h5 y hy).2.1;omega,fun hx=>(g' y hx).elim (h5 y hy).2.2 (fun h2=>by have:=(h5 y hy).2.1;omega)⟩
  ·exact⟨(hq y hy).1,by have:=lt y hy;omega,fun hx=>(g' y hx).elim (hq y hy).2 (fun h2=>by have:=lt y hy;omega)⟩
 ·intro y hy
  rcases g' y hy with h2|h2
  ·exact h6 y h2
  ·omega
theorem BL.rows (H:BL h0 h p l c bs): ∃xs:List BV,l=xs.length∧Row h p (xs.flatMap nenc)∧xs.map BV.b=bs∧l≤c∧ ∀x∈xs,Row h x.p (bc x.b):=by
 obtain⟨xs,D,h1,h2,h3,h4,h5,h6⟩:=H
 exact⟨xs,h1,h2.row',h3,h2.le,fun x hx=>(h4 x hx).row⟩
end Fld
end Go.Proofs.YtgccegnmggjkjaaGreatDoor
set_option maxRecDepth 100000
set_option maxHeartbeats 4000000
namespace Go.Proofs.YtgccegnmggjkjaaGreatDoor
open Go.Den
variable {h : Heap} {R : Value → Heap → Prop}
theorem alarm_New.walk  (hv :
 NewP h (.map #[] 0) fun b h_1 =>
 NewP h_1 (.cells #[.slice none 0 0, .map (some b)] T.alarm_Alarm) fun b_1 h_2 =>
 R (.pointer (some ⟨b_1, 0, none⟩)) h_2) : CallsH Tryz.prog F.alarm_New #[] h R :=
 callsH_of_body (.seq .leaf (.seq .leaf .leaf)) Tryz.func57 rfl rfl (Eq.mp (by kernel_rfl) hv)
theorem alarm_Alarm_made.walk {a : Nat} (hv :
 ∃ t9, hcell h ⟨a, 1, none⟩ = some (.map t9) ∧
 R (.bool (!t9.isNone)) h) : CallsH Tryz.prog F.alarm_Alarm_made #[.pointer (some ⟨a, 0, none⟩)] h R :=
 callsH_of_body (.seq .leaf (.seq .leaf .leaf)) Tryz.func146 rfl rfl (Eq.mp (by kernel_rfl) hv)
theorem alarm_Alarm_Len.walk {a : Nat} (hv :
 ∃ t8_p t8_l t8_c, hcell h ⟨a, 0, none⟩ = some (.slice t8_p t8_l t8_c) ∧
 R (.int .i64 ((t8_l : Nat) : Int)) h) : CallsH Tryz.prog F.alarm_Alarm_Len #[.pointer (some ⟨a, 0, none⟩)] h R :=
 callsH_of_body (.seq .leaf (.seq (.seq .leaf (.cond (.seq .leaf .leaf) .leaf)) (.seq .leaf .leaf))) Tryz.func87 rfl rfl (Eq.mp (by kernel_rfl) hv)
theorem alarm_ahead.walk {x_0 : Int} {x_1 : Int} {y_0 : Int} {y_1 : Int} (hv :
 NewP h (.cells #[.int .i64 x_0, .int .u64 x_1] T.alarm_entry) fun b h_1 =>
 NewP h_1 (.cells #[.int .i64 y_0, .int .u64 y_1] T.alarm_entry) fun b_1 h_2 =>
 ∃ t6, hcell h_2 ⟨b, 1, none⟩ = some (.int .u64 t6) ∧
 ∃ t8, hcell h_2 ⟨b_1, 1, none⟩ = some (.int .u64 t8) ∧
 if (decide (t6 < t8)) = true then
 R (.bool true) h_2
 else
 ∃ t12, hcell h_2 ⟨b, 1, none⟩ = some (.int .u64 t12) ∧
 ∃ t14, hcell h_2 ⟨b_1, 1, none⟩ = some (.int .u64 t14) ∧
 if (t12 == t14) = true then
 ∃ t18, hcell h_2 ⟨b, 0, none⟩ = some (.int .i64 t18) ∧
 ∃ t20, hcell h_2 ⟨b_1, 0, none⟩ = some (.int .i64 t20) ∧
 R (.bool (decide (t18 < t20))) h_2
 else
 R (.bool false) h_2) : CallsH Tryz.prog F.alarm_ahead #[.agg #[.int .i64 x_0, .int .u64 x_1], .agg #[.int .i64 y_0, .int .u64 y_1]] h R :=
 callsH_of_body (.seq .leaf (.seq .leaf .leaf)) Tryz.func189 rfl rfl (Eq.mp (by kernel_rfl) hv)
theorem alarm_Alarm_put.walk {a : Nat} {i : Int} {x_0 : Int} {x_1 : Int} (hv :
 NewP h (.cells #[.int .i64 x_0, .int .u64 x_1] T.alarm_entry) fun b h_1 =>
 ∃ t9_p t9_l t9_c, hcell h_1 ⟨a, 0, none⟩ = some (.slice t9_p t9_l t9_c) ∧
 ∃ t11_0, hcell h_1 ⟨b, 0, none⟩ = some (.int .i64 t11_0) ∧ ∃ t11_1, hcell h_1 ⟨b, 1, none⟩ = some (.int .u64 t11_1) ∧
 ((0 : Int) ≤ i ∧ i < ((t9_l : Nat) : Int)) ∧
 onSome t9_p fun a_1 =>
 StoreP h_1 (a_1.add (Int.toNat i * 2)) (.int .i64 t11_0) fun h_2 =>
 StoreP h_2 ((a_1.add (Int.toNat i * 2)).add 1) (.int .u64 t11_1) fun h_3 =>
 ∃ t16, hcell h_3 ⟨a, 1, none⟩ = some (.map t16) ∧
 ∃ t18, hcell h_3 ⟨b, 0, none⟩ = some (.int .i64 t18) ∧
 denSem Tryz.prog (Instr.mapUpdate T.m_int_int (.map t16) (.int .i64 t18) (.int .i64 i)) h_3 fun _ h_4 =>
 R (.tuple #[]) h_4) : CallsH Tryz.prog F.alarm_Alarm_put #[.pointer (some ⟨a, 0, none⟩), .int .i64 i, .agg #[.int .i64 x_0, .int .u64 x_1]] h R :=
 callsH_of_body (.seq .leaf (.seq (.plan (.op 0 (.op 1 (.op 2 (.op 3 (.op 4 (.op 5 (.op 6 (.op 7 .done))))))))) (.plan (.op 0 (.op 1 (.op 2 (.op 3 (.op 4 (.op 5 (.op 6 (.op 7 .done))))))))))) Tryz.func148 rfl rfl (Eq.mp (by kernel_rfl) hv)
theorem alarm_Alarm_up.walk {a : Nat} {i : Int} (hv :
 ∃ (I : Int → Heap → Prop) (mu : Int → Heap → Nat), (
 I i h) ∧ ∀ (i_1 : Int) (h_1 : Heap), I i_1 h_1 →
 JoinP (fun (t28 : Bool) (h_2 : Heap) =>
 if t28 = true then
 JoinP (fun (x : Option Addr) (y : Option Addr) (h_3 : Heap) =>
 onSome x fun a_1 =>
 ∃ t45_0, hcell h_3 a_1 = some (.int .i64 t45_0) ∧ ∃ t45_1, hcell h_3 (a_1.add 1) = some (.int .u64 t45_1) ∧
 Cl F.alarm_Alarm_put #[.pointer (some ⟨a, 0, none⟩), .int .i64 (IntKind.wrap .i64 (Int.tdiv (IntKind.wrap .i64 (i_1 - 1)) 2)), .agg #[.int .i64 t45_0, .int .u64 t45_1]] h_3 fun v h_4 =>
 v = .tuple #[] ∧
 onSome y fun a_2 =>
 ∃ t49_0, hcell h_4 a_2 = some (.int .i64 t49_0) ∧ ∃ t49_1, hcell h_4 (a_2.add 1) = some (.int .u64 t49_1) ∧
 Cl F.alarm_Alarm_put #[.pointer (some ⟨a, 0, none⟩), .int .i64 i_1, .agg #[.int .i64 t49_0, .int .u64 t49_1]] h_4 fun v_1 h_5 =>
 v_1 = .tuple #[] ∧
 (I (IntKind.wrap .i64 (Int.tdiv (IntKind.wrap .i64 (i_1 - 1)) 2)) h_5 ∧ mu (IntKind.wrap .i64 (Int.tdiv (IntKind.wrap .i64 (i_1 - 1)) 2)) h_5 < mu i_1 h_1))
 (fun J_1 =>
 ∃ t32_p t32_l t32_c, hcell h_2 ⟨a, 0, none⟩ = some (.slice t32_p t32_l t32_c) ∧
 ((0 : Int) ≤ i_1 ∧ i_1 < ((t32_l : Nat) : Int)) ∧
 onSome t32_p fun a_3 =>
 ∃ t35_0, hcell h_2 (a_3.add (Int.toNat i_1 * 2)) = some (.int .i64 t35_0) ∧ ∃ t35_1, hcell h_2 ((a_3.add (Int.toNat i_1 * 2)).add 1) = some (.int .u64 t35_1) ∧
 ∃ t39_p t39_l t39_c, hcell h_2 ⟨a, 0, none⟩ = some (.slice t39_p t39_l t39_c) ∧
 ((0 : Int) ≤ IntKind.wrap .i64 (Int.tdiv (IntKind.wrap .i64 (i_1 - 1)) 2) ∧ IntKind.wrap .i64 (Int.tdiv (IntKind.wrap .i64 (i_1 - 1)) 2) < ((t39_l : Nat) : Int)) ∧
 onSome t39_p fun a_4 =>
 ∃ t42_0, hcell h_2 (a_4.add (Int.toNat (IntKind.wrap .i64 (Int.tdiv (IntKind.wrap .i64 (i_1 - 1)) 2)) * 2)) = some (.int .i64 t42_0) ∧ ∃ t42_1, hcell h_2 ((a_4.add (Int.toNat (IntKind.wrap .i64 (Int.tdiv (IntKind.wrap .i64 (i_1 - 1)) 2)) * 2)).add 1) = some (.int .u64 t42_1) ∧
 (NewP h_2 (.cells #[.int .i64 0, .int .u64 0] T.alarm_entry) fun b h_6 =>
 heldL (a_4.add (Int.toNat (IntKind.wrap .i64 (Int.tdiv (IntKind.wrap .i64 (i_1 - 1)) 2)) * 2)) [.int .i64 t42_0, .int .u64 t42_1] 0 h_6 ∧
 hcell h_6 ⟨a, 0, none⟩ = some (.slice t39_p t39_l t39_c) ∧
 heldL (a_3.add (Int.toNat i_1 * 2)) [.int .i64 t35_0, .int .u64 t35_1] 0 h_6 ∧
 hcell h_6 ⟨a, 0, none⟩ = some (.slice t32_p t32_l t32_c) ∧
 NewP h_6 (.cells #[.int .i64 0, .int .u64 0] T.alarm_entry) fun b_1 h_7 =>
 heldL (a_4.add (Int.toNat (IntKind.wrap .i64 (Int.tdiv (IntKind.wrap .i64 (i_1 - 1)) 2)) * 2)) [.int .i64 t42_0, .int .u64 t42_1] 0 h_7 ∧
 hcell h_7 ⟨a, 0, none⟩ = some (.slice t39_p t39_l t39_c) ∧
 heldL (a_3.add (Int.toNat i_1 * 2)) [.int .i64 t35_0, .int .u64 t35_1] 0 h_7 ∧
 hcell h_7 ⟨a, 0, none⟩ = some (.slice t32_p t32_l t32_c) ∧
 StoreP h_7 ⟨b, 0, none⟩ (.int .i64 t35_0) fun h_8 =>
 StoreP h_8 ⟨b, 1, none⟩ (.int .u64 t35_1) fun h_9 =>
 heldL (a_4.add (Int.toNat (IntKind.wrap .i64 (Int.tdiv (IntKind.wrap .i64 (i_1 - 1)) 2)) * 2)) [.int .i64 t42_0, .int .u64 t42_1] 0 h_9 ∧
 hcell h_9 ⟨a, 0, none⟩ = some (.slice t39_p t39_l t39_c) ∧
 StoreP h_9 ⟨b_1, 0, none⟩ (.int .i64 t42_0) fun h_10 =>
 StoreP h_10 ⟨b_1, 1, none⟩ (.int .u64 t42_1) fun h_11 =>
 J_1 (some ⟨b, 0, none⟩) (some ⟨b_1, 0, none⟩) h_11) ∧
 (NewP h_2 (.cells #[.int .i64 0, .int .u64 0] T.alarm_entry) fun b_2 h_12 =>
 heldL (a_4.add (Int.toNat (IntKind.wrap .i64 (Int.tdiv (IntKind.wrap .i64 (i_1 - 1)) 2)) * 2)) [.int .i64 t42_0, .int .u64 t42_1] 0 h_12 ∧
 hcell h_12 ⟨a, 0, none⟩ = some (.slice t39_p t39_l t39_c) ∧
 heldL (a_3.add (Int.toNat i_1 * 2)) [.int .i64 t35_0, .int .u64 t35_1] 0 h_12 ∧
 hcell h_12 ⟨a, 0, none⟩ = some (.slice t32_p t32_l t32_c) ∧
 NewP h_12 (.cells #[.int .i64 0, .int .u64 0] T.alarm_entry) fun b_3 h_13 =>
 heldL (a_4.add (Int.toNat (IntKind.wrap .i64 (Int.tdiv (IntKind.wrap .i64 (i_1 - 1)) 2)) * 2)) [.int .i64 t42_0, .int .u64 t42_1] 0 h_13 ∧
 hcell h_13 ⟨a, 0, none⟩ = some (.slice t39_p t39_l t39_c) ∧
 heldL (a_3.add (Int.toNat i_1 * 2)) [.int .i64 t35_0, .int .u64 t35_1] 0 h_13 ∧
 hcell h_13 ⟨a, 0, none⟩ = some (.slice t32_p t32_l t32_c) ∧
 StoreP h_13 ⟨b_3, 0, none⟩ (.int .i64 t35_0) fun h_14 =>
 StoreP h_14 ⟨b_3, 1, none⟩ (.int .u64 t35_1) fun h_15 =>
 heldL (a_4.add (Int.toNat (IntKind.wrap .i64 (Int.tdiv (IntKind.wrap .i64 (i_1 - 1)) 2)) * 2)) [.int .i64 t42_0, .int .u64 t42_1] 0 h_15 ∧
 hcell h_15 ⟨a, 0, none⟩ = some (.slice t39_p t39_l t39_c) ∧
 StoreP h_15 ⟨b_2, 0, none⟩ (.int .i64 t42_0) fun h_16 =>
 StoreP h_16 ⟨b_2, 1, none⟩ (.int .u64 t42_1) fun h_17 =>
 J_1 (some ⟨b_3, 0, none⟩) (some ⟨b_2, 0, none⟩) h_17) ∧
 True)
 else
 R (.tuple #[]) h_2)
 (fun J =>
 if (decide (i_1 > 0)) = true then
 ∃ t16_p t16_l t16_c, hcell h_1 ⟨a, 0, none⟩ = some (.slice t16_p t16_l t16_c) ∧
 ((0 : Int) ≤ i_1 ∧ i_1 < ((t16_l : Nat) : Int)) ∧
 onSome t16_p fun a_5 =>
 ∃ t19_0, hcell h_1 (a_5.add (Int.toNat i_1 * 2)) = some (.int .i64 t19_0) ∧ ∃ t19_1, hcell h_1 ((a_5.add (Int.toNat i_1 * 2)).add 1) = some (.int .u64 t19_1) ∧
 ∃ t23_p t23_l t23_c, hcell h_1 ⟨a, 0, none⟩ = some (.slice t23_p t23_l t23_c) ∧
 ((0 : Int) ≤ IntKind.wrap .i64 (Int.tdiv (IntKind.wrap .i64 (i_1 - 1)) 2) ∧ IntKind.wrap .i64 (Int.tdiv (IntKind.wrap .i64 (i_1 - 1)) 2) < ((t23_l : Nat) : Int)) ∧
 onSome t23_p fun a_6 =>
 ∃ t26_0, hcell h_1 (a_6.add (Int.toNat (IntKind.wrap .i64 (Int.tdiv (IntKind.wrap .i64 (i_1 - 1)) 2)) * 2)) = some (.int .i64 t26_0) ∧ ∃ t26_1, hcell h_1 ((a_6.add (Int.toNat (IntKind.wrap .i64 (Int.tdiv (IntKind.wrap .i64 (i_1 - 1)) 2)) * 2)).add 1) = some (.int .u64 t26_1) ∧
 Cl F.alarm_ahead #[.agg #[.int .i64 t19_0, .int .u64 t19_1], .agg #[.int .i64 t26_0, .int .u64 t26_1]] h_1 fun v_2 h_18 =>
 ∃ t27, v_2 = .bool t27 ∧
 hcell h_18 ⟨a, 0, none⟩ = some (.slice t23_p t23_l t23_c) ∧
 hcell h_18 ⟨a, 0, none⟩ = some (.slice t16_p t16_l t16_c) ∧
 J t27 h_18
 else
 J false h_1)) : CallsH Tryz.prog F.alarm_Alarm_up #[.pointer (some ⟨a, 0, none⟩), .int .i64 i] h R :=
 callsH_of_body (.scope 0 [(1, .one (.int .i64))] (.seq .leaf .leaf) (.seq .leaf (.seq .leaf (.seq (.join [(28, .one (.bool))] (.plan (.op 0 (.op 1 (.op 2 (.op 3 (.op 4 (.op 5 (.op 6 (.op 7 (.op 8 (.op 9 (.op 10 (.op 11 (.op 12 (.op 13 (.op 14 (.op 15 (.op 16 (.op 17 (.op 18 .done))))))))))))))))))))) (.cond (.seq (.join [(5, .one (.ptr)), (6, .one (.ptr))] (.plan (.op 0 (.op 1 (.op 2 (.op 3 (.op 4 (.op 5 (.op 6 (.op 7 (.op 8 (.op 9 (.op 10 (.op 11 (.op 12 (.op 13 (.alts (.fork 14 (.op 15 (.op 16 (.op 17 .done))) (.fork 15 (.op 14 (.op 16 (.op 17 .done))) .noalt))))))))))))))))))) (.seq .leaf (.seq .leaf (.seq .leaf .leaf)))) .leaf))))) Tryz.func149 rfl rfl (Eq.mp (by kernel_rfl) hv)
theorem alarm_Alarm_down.walk {a : Nat} {i : Int} (hv :
 ∃ (I : Int → Heap → Prop) (mu : Int → Heap → Nat), (
 I i h) ∧ ∀ (i_1 : Int) (h_1 : Heap), I i_1 h_1 →
 ∃ (I_1 : Int → Int → Heap → Prop) (mu_1 : Int → Int → Heap → Nat), I_1 i_1 0 h_1 ∧ ∀ (best : Int) (t17 : Int) (h_2 : Heap), I_1 best t17 h_2 →
 if (decide (t17 < 2)) = true then
 JoinP (fun (best_1 : Int) (h_3 : Heap) =>
 (I_1 best_1 (IntKind.wrap .i64 (t17 + 1)) h_3 ∧ mu_1 best_1 (IntKind.wrap .i64 (t17 + 1)) h_3 < mu_1 best t17 h_2))
 (fun J =>
 ((0 : Int) ≤ t17 ∧ t17 < ((2 : Nat) : Int)) ∧
 (t17 = ((0 : Nat) : Int) →
 JoinP (fun (t43 : Bool) (h_4 : Heap) =>
 JoinP (fun (best_2 : Int) (h_5 : Heap) =>
 J best_2 h_5)
 (fun J_2 =>
 if t43 = true then
 J_2 (IntKind.wrap .i64 ((IntKind.wrap .i64 (2 * i_1)) + 1)) h_4
 else
 J_2 best h_4))
 (fun J_1 =>
 ∃ t24_p t24_l t24_c, hcell h_2 ⟨a, 0, none⟩ = some (.slice t24_p t24_l t24_c) ∧
 if (decide ((IntKind.wrap .i64 ((IntKind.wrap .i64 (2 * i_1)) + 1)) < ((t24_l : Nat) : Int))) = true then
 ∃ t31_p t31_l t31_c, hcell h_2 ⟨a, 0, none⟩ = some (.slice t31_p t31_l t31_c) ∧
 ((0 : Int) ≤ IntKind.wrap .i64 ((IntKind.wrap .i64 (2 * i_1)) + 1) ∧ IntKind.wrap .i64 ((IntKind.wrap .i64 (2 * i_1)) + 1) < ((t31_l : Nat) : Int)) ∧
 onSome t31_p fun a_1 =>
 ∃ t34_0, hcell h_2 (a_1.add (Int.toNat (IntKind.wrap .i64 ((IntKind.wrap .i64 (2 * i_1)) + 1)) * 2)) = some (.int .i64 t34_0) ∧ ∃ t34_1, hcell h_2 ((a_1.add (Int.toNat (IntKind.wrap .i64 ((IntKind.wrap .i64 (2 * i_1)) + 1)) * 2)).add 1) = some (.int .u64 t34_1) ∧
 ∃ t38_p t38_l t38_c, hcell h_2 ⟨a, 0, none⟩ = some (.slice t38_p t38_l t38_c) ∧
 ((0 : Int) ≤ best ∧ best < ((t38_l : Nat) : Int)) ∧
 onSome t38_p fun a_2 =>
 ∃ t41_0, hcell h_2 (a_2.add (Int.toNat best * 2)) = some (.int .i64 t41_0) ∧ ∃ t41_1, hcell h_2 ((a_2.add (Int.toNat best * 2)).add 1) = some (.int .u64 t41_1) ∧
 Cl F.alarm_ahead #[.agg #[.int .i64 t34_0, .int .u64 t34_1], .agg #[.int .i64 t41_0, .int .u64 t41_1]] h_2 fun v h_6 =>
 ∃ t42, v = .bool t42 ∧
 hcell h_6 ⟨a, 0, none⟩ = some (.slice t38_p t38_l t38_c) ∧
 hcell h_6 ⟨a, 0, none⟩ = some (.slice t31_p t31_l t31_c) ∧
 hcell h_6 ⟨a, 0, none⟩ = some (.slice t24_p t24_l t24_c) ∧
 J_1 t42 h_6
 else
 J_1 false h_2)) ∧
 (t17 = ((1 : Nat) : Int) →
 JoinP (fun (t43_1 : Bool) (h_7 : Heap) =>
 JoinP (fun (best_3 : Int) (h_8 : Heap) =>
 J best_3 h_8)
 (fun J_4 =>
 if t43_1 = true then
 J_4 (IntKind.wrap .i64 ((IntKind.wrap .i64 (2 * i_1)) + 2)) h_7
 else
 J_4 best h_7))
 (fun J_3 =>
 ∃ t24_p_1 t24_l_1 t24_c_1, hcell h_2 ⟨a, 0, none⟩ = some (.slice t24_p_1 t24_l_1 t24_c_1) ∧
 if (decide ((IntKind.wrap .i64 ((IntKind.wrap .i64 (2 * i_1)) + 2)) < ((t24_l_1 : Nat) : Int))) = true then
 ∃ t31_p_1 t31_l_1 t31_c_1, hcell h_2 ⟨a, 0, none⟩ = some (.slice t31_p_1 t31_l_1 t31_c_1) ∧
 ((0 : Int) ≤ IntKind.wrap .i64 ((IntKind.wrap .i64 (2 * i_1)) + 2) ∧ IntKind.wrap .i64 ((IntKind.wrap .i64 (2 * i_1)) + 2) < ((t31_l_1 : Nat) : Int)) ∧
 onSome t31_p_1 fun a_3 =>
 ∃ t34_0_1, hcell h_2 (a_3.add (Int.toNat (IntKind.wrap .i64 ((IntKind.wrap .i64 (2 * i_1)) + 2)) * 2)) = some (.int .i64 t34_0_1) ∧ ∃ t34_1_1, hcell h_2 ((a_3.add (Int.toNat (IntKind.wrap .i64 ((IntKind.wrap .i64 (2 * i_1)) + 2)) * 2)).add 1) = some (.int .u64 t34_1_1) ∧
 ∃ t38_p_1 t38_l_1 t38_c_1, hcell h_2 ⟨a, 0, none⟩ = some (.slice t38_p_1 t38_l_1 t38_c_1) ∧
 ((0 : Int) ≤ best ∧ best < ((t38_l_1 : Nat) : Int)) ∧
 onSome t38_p_1 fun a_4 =>
 ∃ t41_0_1, hcell h_2 (a_4.add (Int.toNat best * 2)) = some (.int .i64 t41_0_1) ∧ ∃ t41_1_1, hcell h_2 ((a_4.add (Int.toNat best * 2)).add 1) = some (.int .u64 t41_1_1) ∧
 Cl F.alarm_ahead #[.agg #[.int .i64 t34_0_1, .int .u64 t34_1_1], .agg #[.int .i64 t41_0_1, .int .u64 t41_1_1]] h_2 fun v_1 h_9 =>
 ∃ t42_1, v_1 = .bool t42_1 ∧
 hcell h_9 ⟨a, 0, none⟩ = some (.slice t38_p_1 t38_l_1 t38_c_1) ∧
 hcell h_9 ⟨a, 0, none⟩ = some (.slice t31_p_1 t31_l_1 t31_c_1) ∧
 hcell h_9 ⟨a, 0, none⟩ = some (.slice t24_p_1 t24_l_1 t24_c_1) ∧
 J_3 t42_1 h_9
 else
 J_3 false h_2)) ∧
 True)
 else
 if (best != i_1) = true then
 JoinP (fun (x : Option Addr) (y : Option Addr) (h_10 : Heap) =>
 onSome x fun a_5 =>
 ∃ t65_0, hcell h_10 a_5 = some (.int .i64 t65_0) ∧ ∃ t65_1, hcell h_10 (a_5.add 1) = some (.int .u64 t65_1) ∧
 Cl F.alarm_Alarm_put #[.pointer (some ⟨a, 0, none⟩), .int .i64 best, .agg #[.int .i64 t65_0, .int .u64 t65_1]] h_10 fun v_2 h_11 =>
 v_2 = .tuple #[] ∧
 onSome y fun a_6 =>
 ∃ t69_0, hcell h_11 a_6 = some (.int .i64 t69_0) ∧ ∃ t69_1, hcell h_11 (a_6.add 1) = some (.int .u64 t69_1) ∧
 Cl F.alarm_Alarm_put #[.pointer (some ⟨a, 0, none⟩), .int .i64 i_1, .agg #[.int .i64 t69_0, .int .u64 t69_1]] h_11 fun v_3 h_12 =>
 v_3 = .tuple #[] ∧
 (I best h_12 ∧ mu best h_12 < mu i_1 h_1))
 (fun J_5 =>
 ∃ t52_p t52_l t52_c, hcell h_2 ⟨a, 0, none⟩ = some (.slice t52_p t52_l t52_c) ∧
 ((0 : Int) ≤ i_1 ∧ i_1 < ((t52_l : Nat) : Int)) ∧
 onSome t52_p fun a_7 =>
 ∃ t55_0, hcell h_2 (a_7.add (Int.toNat i_1 * 2)) = some (.int .i64 t55_0) ∧ ∃ t55_1, hcell h_2 ((a_7.add (Int.toNat i_1 * 2)).add 1) = some (.int .u64 t55_1) ∧
 ∃ t59_p t59_l t59_c, hcell h_2 ⟨a, 0, none⟩ = some (.slice t59_p t59_l t59_c) ∧
 ((0 : Int) ≤ best ∧ best < ((t59_l : Nat) : Int)) ∧
 onSome t59_p fun a_8 =>
 ∃ t62_0, hcell h_2 (a_8.add (Int.toNat best * 2)) = some (.int .i64 t62_0) ∧ ∃ t62_1, hcell h_2 ((a_8.add (Int.toNat best * 2)).add 1) = some (.int .u64 t62_1) ∧
 (NewP h_2 (.cells #[.int .i64 0, .int .u64 0] T.alarm_entry) fun b h_13 =>
 heldL (a_8.add (Int.toNat best * 2)) [.int .i64 t62_0, .int .u64 t62_1] 0 h_13 ∧
 hcell h_13 ⟨a, 0, none⟩ = some (.slice t59_p t59_l t59_c) ∧
 heldL (a_7.add (Int.toNat i_1 * 2)) [.int .i64 t55_0, .int .u64 t55_1] 0 h_13 ∧
 hcell h_13 ⟨a, 0, none⟩ = some (.slice t52_p t52_l t52_c) ∧
 NewP h_13 (.cells #[.int .i64 0, .int .u64 0] T.alarm_entry) fun b_1 h_14 =>
 heldL (a_8.add (Int.toNat best * 2)) [.int .i64 t62_0, .int .u64 t62_1] 0 h_14 ∧
 hcell h_14 ⟨a, 0, none⟩ = some (.slice t59_p t59_l t59_c) ∧
 heldL (a_7.add (Int.toNat i_1 * 2)) [.int .i64 t55_0, .int .u64 t55_1] 0 h_14 ∧
 hcell h_14 ⟨a, 0, none⟩ = some (.slice t52_p t52_l t52_c) ∧
 StoreP h_14 ⟨b, 0, none⟩ (.int .i64 t55_0) fun h_15 =>
 StoreP h_15 ⟨b, 1, none⟩ (.int .u64 t55_1) fun h_16 =>
 heldL (a_8.add (Int.toNat best * 2)) [.int .i64 t62_0, .int .u64 t62_1] 0 h_16 ∧
 hcell h_16 ⟨a, 0, none⟩ = some (.slice t59_p t59_l t59_c) ∧
 StoreP h_16 ⟨b_1, 0, none⟩ (.int .i64 t62_0) fun h_17 =>
 StoreP h_17 ⟨b_1, 1, none⟩ (.int .u64 t62_1) fun h_18 =>
 J_5 (some ⟨b, 0, none⟩) (some ⟨b_1, 0, none⟩) h_18) ∧
 (NewP h_2 (.cells #[.int .i64 0, .int .u64 0] T.alarm_entry) fun b_2 h_19 =>
 heldL (a_8.add (Int.toNat best * 2)) [.int .i64 t62_0, .int .u64 t62_1] 0 h_19 ∧
 hcell h_19 ⟨a, 0, none⟩ = some (.slice t59_p t59_l t59_c) ∧
 heldL (a_7.add (Int.toNat i_1 * 2)) [.int .i64 t55_0, .int .u64 t55_1] 0 h_19 ∧
 hcell h_19 ⟨a, 0, none⟩ = some (.slice t52_p t52_l t52_c) ∧
 NewP h_19 (.cells #[.int .i64 0, .int .u64 0] T.alarm_entry) fun b_3 h_20 =>
 heldL (a_8.add (Int.toNat best * 2)) [.int .i64 t62_0, .int .u64 t62_1] 0 h_20 ∧
 hcell h_20 ⟨a, 0, none⟩ = some (.slice t59_p t59_l t59_c) ∧
 heldL (a_7.add (Int.toNat i_1 * 2)) [.int .i64 t55_0, .int .u64 t55_1] 0 h_20 ∧
 hcell h_20 ⟨a, 0, none⟩ = some (.slice t52_p t52_l t52_c) ∧
 StoreP h_20 ⟨b_3, 0, none⟩ (.int .i64 t55_0) fun h_21 =>
 StoreP h_21 ⟨b_3, 1, none⟩ (.int .u64 t55_1) fun h_22 =>
 heldL (a_8.add (Int.toNat best * 2)) [.int .i64 t62_0, .int .u64 t62_1] 0 h_22 ∧
 hcell h_22 ⟨a, 0, none⟩ = some (.slice t59_p t59_l t59_c) ∧
 StoreP h_22 ⟨b_2, 0, none⟩ (.int .i64 t62_0) fun h_23 =>
 StoreP h_23 ⟨b_2, 1, none⟩ (.int .u64 t62_1) fun h_24 =>
 J_5 (some ⟨b_3, 0, none⟩) (some ⟨b_2, 0, none⟩) h_24) ∧
 True)
 else
 R (.tuple #[]) h_2) : CallsH Tryz.prog F.alarm_Alarm_down #[.pointer (some ⟨a, 0, none⟩), .int .i64 i] h R :=
 callsH_of_body (.scope 0 [(1, .one (.int .i64))] (.seq .leaf .leaf) (.seq .leaf (.seq .leaf (.seq (.seq .leaf (.block (.loop [(4, .one (.int .i64)), (17, .one (.int .i64))] (.seq .leaf (.seq (.cond .leaf .leaf) (.seq (.join [(4, .one (.int .i64))] (.block (.seq .leaf (.seq (.join [(43, .one (.bool))] (.plan (.op 0 (.op 1 (.op 2 (.op 3 (.op 4 (.op 5 (.op 6 (.op 7 (.op 8 (.op 9 (.op 10 (.op 11 (.op 12 (.op 13 (.op 14 (.op 15 (.op 16 (.op 17 (.op 18 (.op 19 (.op 20 (.op 21 (.op 22 (.op 23 .done)))))))))))))))))))))))))) (.join [(4, .one (.int .i64))] (.cond .leaf .leaf)))))) .leaf)))))) (.seq .leaf (.cond (.seq (.join [(7, .one (.ptr)), (8, .one (.ptr))] (.plan (.op 0 (.op 1 (.op 2 (.op 3 (.op 4 (.op 5 (.op 6 (.op 7 (.op 8 (.op 9 (.op 10 (.op 11 (.op 12 (.op 13 (.alts (.fork 14 (.op 15 (.op 16 (.op 17 .done))) (.fork 15 (.op 14 (.op 16 (.op 17 .done))) .noalt))))))))))))))))))) (.seq .leaf (.seq .leaf (.seq .leaf .leaf)))) .leaf)))))) Tryz.func188 rfl rfl (Eq.mp (by kernel_rfl) hv)
theorem alarm_Alarm_Set.walk {a : Nat} {key : Int} {v_at : Int} (hv :
 Cl F.alarm_Alarm_made #[.pointer (some ⟨a, 0, none⟩)] h fun v h_1 =>
 ∃ t10, v = .bool t10 ∧
 if (!t10) = true then
 R (.int .i64 6) h_1
 else
 JoinP (fun (t12 : Bool) (h_2 : Heap) =>
 if t12 = true then
 R (.int .i64 1) h_2
 else
 Cl F.alarm_Alarm_Drop #[.pointer (some ⟨a, 0, none⟩), .int .i64 key] h_2 fun v_1 h_3 =>
 ∃ t25, v_1 = .int .i64 t25 ∧
 ∃ t30_p t30_l t30_c, hcell h_3 ⟨a, 0, none⟩ = some (.slice t30_p t30_l t30_c) ∧
 NewP h_3 (.cells #[.int .i64 0, .int .u64 0] T.alarm_entry) fun b h_4 =>
 denSem Tryz.prog (Builtin.append_ #[T.s_alarm_entry, T.s_alarm_entry] T.s_alarm_entry #[.slice t30_p t30_l t30_c, .slice (some ⟨b, 0, none⟩) 1 1]) h_4 fun v_2 h_5 =>
 ∃ t33_p t33_l t33_c, v_2 = .slice t33_p t33_l t33_c ∧
 StoreP h_5 ⟨a, 0, none⟩ (.slice t33_p t33_l t33_c) fun h_6 =>
 ∃ t39_p t39_l t39_c, hcell h_6 ⟨a, 0, none⟩ = some (.slice t39_p t39_l t39_c) ∧
 Cl F.alarm_Alarm_put #[.pointer (some ⟨a, 0, none⟩), .int .i64 (IntKind.wrap .i64 (((t39_l : Nat) : Int) - 1)), .agg #[.int .i64 key, .int .u64 v_at]] h_6 fun v_3 h_7 =>
 v_3 = .tuple #[] ∧
 Cl F.alarm_Alarm_up #[.pointer (some ⟨a, 0, none⟩), .int .i64 (IntKind.wrap .i64 (((t39_l : Nat) : Int) - 1))] h_7 fun v_4 h_8 =>
 v_4 = .tuple #[] ∧
 R (.int .i64 0) h_8)
 (fun J =>
 if (decide (key < 1)) = true then
 J true h_1
 else
 if (decide (key > 1099511627776)) = true then
 J true h_1
 else
 J (decide (v_at > 1099511627776)) h_1)) : CallsH Tryz.prog F.alarm_Alarm_Set #[.pointer (some ⟨a, 0, none⟩), .int .i64 key, .int .u64 v_at] h R :=
 callsH_of_body (.seq .leaf (.seq (.block (.seq .leaf (.cond (.seq .leaf .leaf) (.seq (.join [(12, .one (.bool))] .leaf) (.cond (.seq .leaf .leaf) .leaf))))) (.seq .leaf (.seq .leaf (.seq .leaf (.seq .leaf (.seq .leaf (.seq .leaf .leaf)))))))) Tryz.func72 rfl rfl (Eq.mp (by kernel_rfl) hv)
theorem alarm_Alarm_Drop.walk {a : Nat} {key : Int} (hv :
 Cl F.alarm_Alarm_made #[.pointer (some ⟨a, 0, none⟩)] h fun v h_1 =>
 ∃ t10, v = .bool t10 ∧
 if (!t10) = true then
 R (.int .i64 6) h_1
 else
 ∃ t16, hcell h_1 ⟨a, 1, none⟩ = some (.map t16) ∧
 ∃ t18_0 t18_1, LookV Tryz.prog T.m_int_int (.map t16) (.int .i64 key) true h_1 (.tuple #[.int .i64 t18_0, .bool t18_1]) ∧
 if (!t18_1) = true then
 R (.int .i64 4) h_1
 else
 ∃ t26_p t26_l t26_c, hcell h_1 ⟨a, 0, none⟩ = some (.slice t26_p t26_l t26_c) ∧
 ∃ t32_p t32_l t32_c, hcell h_1 ⟨a, 0, none⟩ = some (.slice t32_p t32_l t32_c) ∧
 ((0 : Int) ≤ IntKind.wrap .i64 (((t26_l : Nat) : Int) - 1) ∧ IntKind.wrap .i64 (((t26_l : Nat) : Int) - 1) < ((t32_l : Nat) : Int)) ∧
 onSome t32_p fun a_1 =>
 ∃ t35_0, hcell h_1 (a_1.add (Int.toNat (IntKind.wrap .i64 (((t26_l : Nat) : Int) - 1)) * 2)) = some (.int .i64 t35_0) ∧ ∃ t35_1, hcell h_1 ((a_1.add (Int.toNat (IntKind.wrap .i64 (((t26_l : Nat) : Int) - 1)) * 2)).add 1) = some (.int .u64 t35_1) ∧
 NewP h_1 (.cells #[.int .i64 0, .int .u64 0] T.alarm_entry) fun b h_2 =>
 StoreP h_2 ⟨b, 0, none⟩ (.int .i64 t35_0) fun h_3 =>
 StoreP h_3 ⟨b, 1, none⟩ (.int .u64 t35_1) fun h_4 =>
 ∃ t40_p t40_l t40_c, hcell h_4 ⟨a, 0, none⟩ = some (.slice t40_p t40_l t40_c) ∧
 ((0 : Int) ≤ IntKind.wrap .i64 (((t26_l : Nat) : Int) - 1) ∧ IntKind.wrap .i64 (((t26_l : Nat) : Int) - 1) ≤ ((t40_c : Nat) : Int)) ∧
 StoreP h_4 ⟨a, 0, none⟩ (.slice (slBase t40_p t40_c 0 2) ((Int.toNat (IntKind.wrap .i64 (((t26_l : Nat) : Int) - 1))) - 0) (t40_c - 0)) fun h_5 =>
 ∃ t48, hcell h_5 ⟨a, 1, none⟩ = some (.map t48) ∧
 denSem Tryz.prog (Builtin.delete_ #[T.m_int_int, T.int] T.tup_ #[.map t48, .int .i64 key]) h_5 fun v_1 h_6 =>
 v_1 = .tuple #[] ∧
 JoinP (fun (h_7 : Heap) =>
 R (.int .i64 0) h_7)
 (fun J =>
 if (decide (t18_0 < (IntKind.wrap .i64 (((t26_l : Nat) : Int) - 1)))) = true then
 ∃ t55_0, hcell h_6 ⟨b, 0, none⟩ = some (.int .i64 t55_0) ∧ ∃ t55_1, hcell h_6 ⟨b, 1, none⟩ = some (.int .u64 t55_1) ∧
 Cl F.alarm_Alarm_put #[.pointer (some ⟨a, 0, none⟩), .int .i64 t18_0, .agg #[.int .i64 t55_0, .int .u64 t55_1]] h_6 fun v_2 h_8 =>
 v_2 = .tuple #[] ∧
 Cl F.alarm_Alarm_up #[.pointer (some ⟨a, 0, none⟩), .int .i64 t18_0] h_8 fun v_3 h_9 =>
 v_3 = .tuple #[] ∧
 ∃ t64, hcell h_9 ⟨a, 1, none⟩ = some (.map t64) ∧
 ∃ t66, hcell h_9 ⟨b, 0, none⟩ = some (.int .i64 t66) ∧
 ∃ t67, LookV Tryz.prog T.m_int_int (.map t64) (.int .i64 t66) false h_9 (.int .i64 t67) ∧
 Cl F.alarm_Alarm_down #[.pointer (some ⟨a, 0, none⟩), .int .i64 t67] h_9 fun v_4 h_10 =>
 v_4 = .tuple #[] ∧
 hcell h_10 ⟨b, 0, none⟩ = some (.int .i64 t66) ∧
 hcell h_10 ⟨a, 1, none⟩ = some (.map t64) ∧
 J h_10
 else
 J h_6)) : CallsH Tryz.prog F.alarm_Alarm_Drop #[.pointer (some ⟨a, 0, none⟩), .int .i64 key] h R :=
 callsH_of_body (.seq .leaf (.seq (.seq .leaf (.cond (.seq .leaf .leaf) .leaf)) (.seq .leaf (.seq (.seq .leaf (.cond (.seq .leaf .leaf) .leaf)) (.seq .leaf (.seq .leaf (.seq .leaf (.seq .leaf (.seq (.seq .leaf (.join [] (.cond (.seq .leaf (.seq .leaf (.plan (.op 0 (.op 1 (.op 2 (.op 3 (.op 4 (.op 5 (.op 6 (.op 7 (.op 8 .done)))))))))))) .leaf))) (.seq .leaf .leaf)))))))))) Tryz.func147 rfl rfl (Eq.mp (by kernel_rfl) hv)
theorem alarm_Alarm_Next.walk {a : Nat} (hv :
 Cl F.alarm_Alarm_Len #[.pointer (some ⟨a, 0, none⟩)] h fun v h_1 =>
 ∃ t6, v = .int .i64 t6 ∧
 if (t6 == 0) = true then
 R (.tuple #[.int .i64 0, .int .u64 0, .bool false]) h_1
 else
 ∃ t11_p t11_l t11_c, hcell h_1 ⟨a, 0, none⟩ = some (.slice t11_p t11_l t11_c) ∧
 ((0 : Int) ≤ 0 ∧ 0 < ((t11_l : Nat) : Int)) ∧
 onSome t11_p fun a_1 =>
 ∃ t14, hcell h_1 (a_1.add (Int.toNat 0 * 2)) = some (.int .i64 t14) ∧
 ∃ t18_p t18_l t18_c, hcell h_1 ⟨a, 0, none⟩ = some (.slice t18_p t18_l t18_c) ∧
 ((0 : Int) ≤ 0 ∧ 0 < ((t18_l : Nat) : Int)) ∧
 onSome t18_p fun a_2 =>
 ∃ t21, hcell h_1 ((a_2.add (Int.toNat 0 * 2)).add 1) = some (.int .u64 t21) ∧
 R (.tuple #[.int .i64 t14, .int .u64 t21, .bool true]) h_1) : CallsH Tryz.prog F.alarm_Alarm_Next #[.pointer (some ⟨a, 0, none⟩)] h R :=
 callsH_of_body (.seq .leaf (.seq (.seq .leaf (.cond (.seq .leaf .leaf) .leaf)) (.seq (.plan (.op 0 (.op 1 (.op 2 (.op 3 (.op 4 (.op 5 (.op 6 (.op 7 (.op 8 (.op 9 (.op 10 (.op 11 (.op 12 (.op 13 (.op 14 (.op 15 (.op 16 .done)))))))))))))))))) .leaf))) Tryz.func152 rfl rfl (Eq.mp (by kernel_rfl) hv)
theorem alarm_Alarm_Ring.walk {a : Nat} {now : Int} (hv :
 Cl F.alarm_Alarm_Next #[.pointer (some ⟨a, 0, none⟩)] h fun v h_1 =>
 ∃ t11_0 t11_1 t11_2, v = .tuple #[.int .i64 t11_0, .int .u64 t11_1, .bool t11_2] ∧
 ∃ (I : Option Addr → Nat → Nat → Int → Int → Bool → Heap → Prop) (mu : Option Addr → Nat → Nat → Int → Int → Bool → Heap → Nat), I none 0 0 t11_0 t11_1 t11_2 h_1 ∧ ∀ (out_p : Option Addr) (out_l out_c : Nat) (key : Int) (v_at : Int) (is : Bool) (h_2 : Heap), I out_p out_l out_c key v_at is h_2 →
 JoinP (fun (t20 : Bool) (h_3 : Heap) =>
 if t20 = true then
 NewP h_3 (.cells #[.int .i64 key] T.int) fun b h_4 =>
 denSem Tryz.prog (Builtin.append_ #[T.s_int, T.s_int] T.s_int #[.slice out_p out_l out_c, .slice (some ⟨b, 0, none⟩) 1 1]) h_4 fun v_1 h_5 =>
 ∃ t30_p t30_l t30_c, v_1 = .slice t30_p t30_l t30_c ∧
 Cl F.alarm_Alarm_Drop #[.pointer (some ⟨a, 0, none⟩), .int .i64 key] h_5 fun v_2 h_6 =>
 ∃ t33, v_2 = .int .i64 t33 ∧
 Cl F.alarm_Alarm_Next #[.pointer (some ⟨a, 0, none⟩)] h_6 fun v_3 h_7 =>
 ∃ t23_0 t23_1 t23_2, v_3 = .tuple #[.int .i64 t23_0, .int .u64 t23_1, .bool t23_2] ∧
 (I t30_p t30_l t30_c t23_0 t23_1 t23_2 h_7 ∧ mu t30_p t30_l t30_c t23_0 t23_1 t23_2 h_7 < mu out_p out_l out_c key v_at is h_2)
 else
 R (.slice out_p out_l out_c) h_3)
 (fun J =>
 if is = true then
 J (decide (v_at ≤ now)) h_2
 else
 J false h_2)) : CallsH Tryz.prog F.alarm_Alarm_Ring #[.pointer (some ⟨a, 0, none⟩), .int .u64 now] h R :=
 callsH_of_body (.seq .leaf (.seq .leaf (.seq (.seq .leaf (.block (.loop [(5, .one (.slice)), (6, .one (.int .i64)), (7, .one (.int .u64)), (8, .one (.bool))] (.seq (.seq (.join [(20, .one (.bool))] .leaf) (.cond .leaf .leaf)) (.seq (.block (.seq .leaf .leaf)) .leaf))))) (.seq .leaf .leaf)))) Tryz.func86 rfl rfl (Eq.mp (by kernel_rfl) hv)
end Go.Proofs.YtgccegnmggjkjaaGreatDoor
set_option maxRecDepth 100000
namespace Go.Heapq
abbrev E:=Int×Int
def lt (x y:E):Prop:=x.2<y.2∨(x.2=y.2∧x.1<y.1)
def le (x y:E):Prop:= ¬lt y x
theorem lt_irrefl (x:E): ¬lt x x:=by unfold lt;omega
theorem lt_trans {x y z:E} (h:lt x y) (h':lt y z):lt x z:=by unfold lt at*;omega
theorem le_refl (x:E):le x x:=lt_irrefl x
theorem le_trans {x y z:E} (h:le x y) (h':le y z):le x z:=by unfold le lt at*;omega
theorem le_of_lt {x y:E} (h:lt x y):le x y:=by unfold le lt at*;omega
theorem lt_of_le_ne {x y:E} (h:le x y) (h':x.1≠y.1):lt x y:=by unfold le lt at*;omega
instance (x y : E) : Decidable (lt x y) := inferInstanceAs (Decidable (_ ∨ _))
def HeapO (f:Nat→E) (n:Nat):Prop:= ∀j,0<j→j<n→le (f ((j - 1)/2)) (f j)
def ExBoth (f:Nat→E) (n i:Nat):Prop:=
 (∀j,0<j→j<n→j≠i→(j - 1)/2≠i→le (f ((j - 1)/2)) (f j))∧(0<i→ ∀j,0<j→j<n→(j - 1)/2=i→le (f ((i - 1)/2)) (f j))
def ExDown (f:Nat→E) (n i:Nat):Prop:=
 (∀j,0<j→j<n→(j - 1)/2≠i→le (f ((j - 1)/2)) (f j))∧(0<i→ ∀j,0<j→j<n→(j - 1)/2=i→le (f ((i - 1)/2)) (f j))
def KidsOk (f:Nat→E) (n i:Nat):Prop:= ∀j,0<j→j<n→(j - 1)/2=i→le (f i) (f j)
def swapf (f:Nat→E) (i j:Nat):Nat→E:=fun k=>if k=i then f j else if k=j then f i else f k
theorem up_stay {f:Nat→E} {n i:Nat} (h:ExBoth f n i) (hi:i=0∨le (f ((i - 1)/2)) (f i)):ExDown f n i:=by
 refine⟨fun j h1 h2 h3=> ?_,h.2⟩
 by_cases hj:j=i
 ·subst hj
  rcases hi with h0|h0
  ·omega
  ·exact h0
 ·exact h.1 j h1 h2 hj h3
theorem heap_of_down {f:Nat→E} {n i:Nat} (h:ExDown f n i) (hk:KidsOk f n i):HeapO f n:=by
 intro j h1 h2
 by_cases hj:(j - 1)/2=i
 ·have:=hk j h1 h2 hj;rw[hj];exact this
 ·exact h.1 j h1 h2 hj
theorem up_move {f:Nat→E} {n i p:Nat} (h:ExBoth f n i) (h0:0<i) (hn:i<n) (hp:p=(i - 1)/2) (hl:lt (f i) (f p)):ExBoth (swapf f i p) n p∧KidsOk (swapf f i p) n p:=by
 have hpi:p≠i:=by omega
 refine⟨⟨fun j h1 h2 h3 h4=> ?_,fun hp0 j h1 h2 h3=> ?_⟩,fun j h1 h2 h3=> ?_⟩
 ·
  have hji:j≠i:=by omega
  unfold swapf
  rw[if_neg hji,if_neg h3]
  by_cases hpj:(j - 1)/2=i
  ·rw[if_pos hpj,hp]
   exact h.2 h0 j h1 h2 hpj
  ·rw[if_neg hpj,if_neg h4]
   exact h.1 j h1 h2 hji hpj
 ·have hpp:=h.1 p hp0 (by omega) hpi (by omega)
  unfold swapf
  rw[if_neg (show(p - 1)/2≠i by omega),if_neg (show(p - 1)/2≠p by omega)]
  by_cases hji:j=i
  ·rw[if_pos hji];exact hpp
  ·rw[if_neg hji,if_neg (by omega)]
   have:=h.1 j h1 h2 hji (by omega)
   rw[h3] at this
   exact le_trans hpp this
 ·unfold swapf
  rw[if_neg hpi,if_pos rfl]
  by_cases hji:j=i
  ·rw[if_pos hji];exact le_of_lt hl
  ·rw[if_neg hji,if_neg (by omega)]
   have:=h.1 j h1 h2 hji (by omega)
   rw[h3] at this
   exact le_trans (le_of_lt hl) this
theorem down_move {f:Nat→E} {n i c:Nat} (h:ExDown f n i) (hc:(c - 1)/2=i) (h0:0<c) (hn:c<n) (hl:lt (f c) (f i)) (hm: ∀j,0<j→j<n→(j - 1)/2=i→le (f c) (f j)):ExDown (swapf f i c) n c:=by
 have hci:c≠i:=by omega
 refine⟨fun j h1 h2 h3=> ?_,fun _ j h1 h2 h3=> ?_⟩
 ·unfold swapf
  by_cases hji:j=i
  ·subst hji
   rw[if_neg (show(j - 1)/2≠j by omega),if_neg (show(j - 1)/2≠c by omega),if_pos rfl]
   exact h.2 h1 c h0 hn hc
  ·by_cases hpj:(j - 1)/2=i
   ·rw[if_pos hpj,if_neg hji]
    by_cases hjc:j=c
    ·rw[if_pos hjc];exact le_of_lt hl
    ·rw[if_neg hjc];exact hm j h1 h2 hpj
   ·have hjc:j≠c:=by intro e;subst e;exact hpj hc
    rw[if_neg hpj,if_neg h3,if_neg hji,if_neg hjc]
    exact h.1 j h1 h2 hpj
 ·unfold swapf
  rw[hc,if_pos rfl,if_neg (show j≠i by omega),if_neg (show j≠c by omega)]
  have:=h.1 j h1 h2 (by omega)
  rw[h3] at this
  exact this
theorem root_min {f:Nat→E} {n:Nat} (h:HeapO f n): ∀j,j<n→le (f 0) (f j):=by
 intro j
 induction j using Nat.strongRecOn with
 |_ j ih=>
  intro hj
  by_cases h0:j=0
  ·subst h0;exact le_refl _
  ·exact le_trans (ih ((j - 1)/2) (by omega) (by omega)) (h j (by omega) hj)
def at_ (es:List E) (i:Nat):E:=es.getD i (0,0)
theorem at_get {es:List E} {i:Nat} (h:i<es.length):at_ es i=es[i]:=by simp[at_,h]
theorem at_some {es:List E} {i:Nat} (h:i<es.length):es[i]? =some (at_ es i):=by simp[at_,h]
theorem at_set {es:List E} {i j:Nat} {x:E} (h:i<es.length):at_ (es.set i x) j=if j=i then x else at_ es j:=by
 unfold at_
 by_cases e:j=i
 ·subst e;simp[h]
 ·simp[e,Ne.symm e]
def swapL (es:List E) (i j:Nat):List E:=(es.set j (at_ es i)).set i (at_ es j)
theorem swapL_len {es:List E} {i j:Nat} :(swapL es i j).length=es.length:=by simp[swapL]
theorem swapL_at {es:List E} {i j:Nat} (hi:i<es.length) (hj:j<es.length) (k:Nat):at_ (swapL es i j) k=swapf (at_ es) i j k:=by
 unfold swapL swapf
 rw[at_set (by simpa using hi),at_set hj]
theorem swapL_fun {es:List E} {i j:Nat} (hi:i<es.length) (hj:j<es.length):at_ (swapL es i j)=swapf (at_ es) i j:=funext (swapL_at hi hj)
theorem swapL_perm {es:List E} {i j:Nat} (hi:i<es.length) (hj:j<es.length):(swapL es i j).Perm es:=by
 unfold swapL
 rw[at_get hi,at_get hj]
 exact List.set_set_perm hj hi
def PlaceOk (es:List E) (g:Int→Option Value):Prop:=
 (es.map (·.1)).Nodup∧(∀j,j<es.length→g (at_ es j).1=some (.int .i64 j))∧ ∀k,k∉es.map (·.1)→g k=none
theorem key_inj {es:List E} (h:(es.map (·.1)).Nodup) {i j:Nat} (hi:i<es.length) (hj:j<es.length) (he:(at_ es i).1=(at_ es j).1):i=j:=by
 rw[at_get hi,at_get hj] at he
 have h1:=List.getElem?_inj (i:=i) (j:=j) (by simpa using hi) h
 exact h1.1 (by simp[hi,hj,he])
theorem PlaceOk.swap {es:List E} {g:Int→Option Value} (h:PlaceOk es g) {i j:Nat} (hi:i<es.length) (hj:j<es.length) (hne:i≠j):
  PlaceOk (swapL es i j) (fun k=>if k=(at_ es j).1 then some (.int .i64 i) else if k=(at_ es i).1 then some (.int .i64 j) else g k):=by
 obtain⟨h1,h2,h3⟩:=h
 have hp:=(swapL_perm hi hj).map (·.1)
 refine⟨hp.nodup_iff.2 h1,fun k hk=> ?_,fun k hk=> ?_⟩
 ·rw[swapL_len] at hk
  rw[swapL_at hi hj]
  unfold swapf
  by_cases e1:k=i
  ·subst e1;simp
  ·by_cases e2:k=j
   ·subst e2
    rw[if_neg e1,if_pos rfl]
    have:(at_ es i).1≠(at_ es k).1:=fun e=>hne (key_inj h1 hi hj e)
    simp[this]
   ·rw[if_neg e1,if_neg e2]
    have n1:(at_ es k).1≠(at_ es j).1:=fun e=>e2 (key_inj h1 hk hj e)
    have n2:(at_ es k).1≠(at_ es i).1:=fun e=>e1 (key_inj h1 hk hi e)
    simp[n1,n2,h2 k hk]
 ·have hk':k∉es.map (·.1):=fun hm=>hk (hp.mem_iff.2 hm)
  have m1:(at_ es j).1∈es.map (·.1):=by rw[at_get hj];exact List.mem_map_of_mem (List.getElem_mem hj)
  have m2:(at_ es i).1∈es.map (·.1):=by rw[at_get hi];exact List.mem_map_of_mem (List.getElem_mem hi)
  simp only[]
  rw[if_neg (show k≠_ from fun e=>hk' (e.symm▸m1)),if_neg (show k≠_ from fun e=>hk' (e.symm▸m2))]
  exact h3 k hk'
def Sorted (l:List E):Prop:=l.Pairwise lt
def keys (l:List E):List Int:=l.map (·.1)
def dropK (l:List E) (k:Int):List E:=l.filter (fun e=> !(e.1==k))
def insertS (l:List E) (x:E):List E:=l.filter (fun e=>decide (lt e x))++x::l.filter (fun e=> !decide (lt e x))
theorem insertS_perm (l:List E) (x:E):(insertS l x).Perm (x::l):=by
 unfold insertS
 refine(List.perm_middle).trans (List.Perm.cons x ?_)
 exact List.filter_append_perm _ _
theorem Sorted.drop {l:List E} (h:Sorted l) (k:Int):Sorted (dropK l k):=List.Pairwise.filter _ h
theorem Sorted.insert {l:List E} (h:Sorted l) (x:E) (hk:x.1∉keys l):Sorted (insertS l x):=by
 unfold Sorted insertS
 rw[List.pairwise_append]
 refine⟨List.Pairwise.filter _ h, ?_, ?_⟩
 ·rw[List.pairwise_cons]
  refine⟨fun y hy=> ?_,List.Pairwise.filter _ h⟩
  obtain⟨hm,hq⟩:=List.mem_filter.1 hy
  have hn: ¬lt y x:=by simpa using hq
  exact lt_of_le_ne hn (fun e=>hk (by rw[e];exact List.mem_map_of_mem hm))
 ·intro y hy z hz
  obtain⟨_,hq⟩:=List.mem_filter.1 hy
  have hyx:lt y x:=by simpa using hq
  rcases List.mem_cons.1 hz with rfl|hz
  ·exact hyx
  ·obtain⟨_,hq2⟩:=List.mem_filter.1 hz
   have hn: ¬lt z x:=by simpa using hq2
   unfold lt at*;omega
theorem dropK_keys (l:List E) (k:Int):k∉keys (dropK l k):=by
 intro h
 obtain⟨e,he,rfl⟩:=List.mem_map.1 h
 have:=(List.mem_filter.1 he).2
 simp at this
theorem dropK_none {l:List E} {k:Int} (h:k∉keys l):dropK l k=l:=by
 unfold dropK
 rw[List.filter_eq_self]
 intro e he
 have:e.1≠k:=fun e'=>h (e'▸List.mem_map_of_mem he)
 simp[this]
theorem dropK_perm {l l':List E} (h:l.Perm l') (k:Int):(dropK l k).Perm (dropK l' k):=h.filter _
theorem head_min {es l:List E} (hp:es.Perm l) (hs:Sorted l) (hh:HeapO (at_ es) es.length) (h0:0<es.length): ∃r,l=at_ es 0::r:=by
 cases l with
 |nil=>have:=hp.length_eq;simp only[List.length_nil] at this;omega
 |cons x r=>
  refine⟨r, ?_⟩
  have hx:x∈es:=hp.mem_iff.2 List.mem_cons_self
  obtain⟨j,hj⟩:=List.getElem?_of_mem hx
  have hjl:j<es.length:=(List.getElem?_eq_some_iff.1 hj).1
  have hmin:=root_min hh j hjl
  rw[at_some hjl] at hj
  have e1:at_ es j=x:=Option.some.inj hj
  rw[e1] at hmin
  have hm:at_ es 0∈x::r:=hp.mem_iff.1 (by rw[at_get h0];exact List.getElem_mem h0)
  rcases List.mem_cons.1 hm with e|e
  ·rw[e]
  ·have:=(List.pairwise_cons.1 hs).1 _ e
   exact absurd this hmin
end Go.Heapq
set_option maxRecDepth 100000
namespace Go.Proofs.YtgccegnmggjkjaaGreatDoor
open Go.Den Go.Heapq
namespace Alarm
theorem tm:MapTy Tryz.prog T.m_int_int (.int .i64 0):= .of T.int T.int .i64 (by kernel_rfl) (by kernel_rfl) (by kernel_rfl)
def enc (es:List E):List Value:=es.flatMap fun e=> [.int .i64 e.1, .int .u64 e.2]
theorem enc_cons (e:E) (es:List E):enc (e::es)= .int .i64 e.1:: .int .u64 e.2::enc es:=rfl
theorem enc_len: ∀es:List E,(enc es).length=es.length*2
 | []=>rfl
 |e::es=>by rw[enc_cons];simp only[List.length_cons,enc_len es];omega
theorem enc_append (es fs:List E):enc (es++fs)=enc es++enc fs:=by simp[enc]
theorem enc_0: ∀ {es:List E} {i:Nat},i<es.length→(enc es)[i*2]? =some (.int .i64 (at_ es i).1)
 | [],_,h=>by simp at h
 |e::es,0,_=>rfl
 |e::es,i+1,h=>by
  rw[enc_cons,show(i+1)*2=i*2+1+1 by omega,List.getElem?_cons_succ,List.getElem?_cons_succ,enc_0 (by simpa using h)]
  rfl
theorem enc_1: ∀ {es:List E} {i:Nat},i<es.length→(enc es)[i*2+1]? =some (.int .u64 (at_ es i).2)
 | [],_,h=>by simp at h
 |e::es,0,_=>rfl
 |e::es,i+1,h=>by
  rw[enc_cons,show(i+1)*2+1=i*2+1+1+1 by omega,List.getElem?_cons_succ,List.getElem?_cons_succ,enc_1 (by simpa using h)]
  rfl
theorem enc_set: ∀(es:List E) (i:Nat) (x:E),((enc es).set (i*2) (.int .i64 x.1)).set (i*2+1) (.int .u64 x.2)=enc (es.set i x)
 | [],_,_=>by simp[enc]
 |e::es,0,x=>rfl
 |e::es,i+1,x=>by
  rw[enc_cons,show(i+1)*2=i*2+1+1 by omega,List.set_cons_succ,List.set_cons_succ,List.set_cons_succ,List.set_cons_succ,enc_set es i x]
  rfl
theorem enc_take: ∀(es:List E) (n:Nat),(enc es).take (n*2)=enc (es.take n)
 | [],n=>by simp[enc]
 |e::es,0=>by simp[enc]
 |e::es,n+1=>by
  rw[enc_cons,show(n+1)*2=n*2+1+1 by omega,List.take_succ_cons,List.take_succ_cons,enc_take es n]
  rfl
theorem enc_one: ∀(es:List E),∀v∈enc es,oneCell v=true
 | [],_,h=>by cases h
 |e::es,v,h=>by
  rw[enc_cons] at h
  rcases List.mem_cons.1 h with rfl|h
  ·rfl
  ·rcases List.mem_cons.1 h with rfl|h
   ·rfl
   ·exact enc_one es v h
structure Mem (h:Heap) (a:Nat) (p:Option Addr) (cap m:Nat) (es:List E) (g:Int→Option Value):Prop where
 blk:h[a]? =some (.cells #[.slice p es.length cap, .map (some m)] T.alarm_Alarm (0,0))
 own:Own h p es.length cap 2 (enc es)
 map:MapF h m g
 ne: ¬inBlk p a
def foot (a:Nat) (p:Option Addr) (m:Nat) (c:Nat):Prop:=c=a∨c=m∨inBlk p c
def inner (p:Option Addr) (m:Nat) (c:Nat):Prop:=c=m∨inBlk p c
variable {h : Heap} {a m cap : Nat} {p : Option Addr} {es : List E} {g : Int → Option Value} {R : Value → Heap → Prop}
theorem Mem.am (M:Mem h a p cap m es g):a≠m:=by
 rintro rfl
 obtain⟨x,c,hm⟩:=M.map.map
 rw[M.blk] at hm;cases hm
theorem Mem.pm (M:Mem h a p cap m es g): ¬inBlk p m:=fun hb=>by
 obtain⟨x,c,hm⟩:=M.map.map
 obtain⟨y,t,hc⟩:=M.own.cells hb
 rw[hc] at hm;cases hm
theorem Mem.lt (M:Mem h a p cap m es g) {c:Nat} (hc:foot a p m c):c<h.size:=by
 rcases hc with rfl|rfl|hc
 ·exact lt_of_get M.blk
 ·exact M.map.lt
 ·exact M.own.blk_lt hc
theorem Mem.frame {S:Nat→Prop} {h':Heap} (M:Mem h a p cap m es g) (hf:Fr S h h') (hn: ∀c,foot a p m c→ ¬S c):Mem h' a p cap m es g:=
 ⟨hf.get M.blk (hn a (.inl rfl)),M.own.frame hf fun c hc=>hn c (.inr (.inr hc)),M.map.frame hf (hn m (.inr (.inl rfl))),M.ne⟩
theorem Mem.calm {h':Heap} (M:Mem h a p cap m es g) (hf:Fr (fun _=>False) h h'):Mem h' a p cap m es g:=M.frame hf fun _ _=>id
theorem Mem.hd (M:Mem h a p cap m es g):hcell h ⟨a,0,none⟩=some (.slice p es.length cap):=cell_at M.blk rfl
theorem Mem.mp (M:Mem h a p cap m es g):hcell h ⟨a,1,none⟩=some (.map (some m)):=cell_at M.blk rfl
theorem Mem.some (M:Mem h a p cap m es g) (hn:0<es.length): ∃ad,p=some ad:=by
 obtain⟨b,off,hp⟩:=M.own.some (by rw[enc_len];omega)
 exact⟨_,hp⟩
theorem Mem.c0 {ad:Addr} (M:Mem h a (.some ad) cap m es g) {i:Nat} (hi:i<es.length):hcell h (ad.add (i*2))= .some (.int .i64 (at_ es i).1):=M.own.cell (enc_0 hi)
theorem Mem.c1 {ad:Addr} (M:Mem h a (.some ad) cap m es g) {i:Nat} (hi:i<es.length):hcell h ((ad.add (i*2)).add 1)= .some (.int .u64 (at_ es i).2):=by
 rw[add_add];exact M.own.cell (enc_1 hi)
theorem ahead_ok {x0 x1 y0 y1:Int} (hk: ∀h',Fr (fun _=>False) h h'→R (.bool (decide (lt (x0,x1) (y0,y1)))) h'):
  CallsH Tryz.prog F.alarm_ahead #[.agg #[.int .i64 x0, .int .u64 x1], .agg #[.int .i64 y0, .int .u64 y1]] h R:=by
 refine alarm_ahead.walk ?_
 rintro b h1 rfl rfl b1 h2 rfl rfl
 have f:Fr (fun _=>False) h ((h.push (.cells #[.int .i64 x0, .int .u64 x1] T.alarm_entry)).push (.cells #[.int .i64 y0, .int .u64 y1] T.alarm_entry)):=Fr.tt (Fr.push _ _) (Fr.push _ _)
 have hx:=push_old (x:= .cells #[.int .i64 y0, .int .u64 y1] T.alarm_entry) (push_new (h:=h) (x:= .cells #[.int .i64 x0, .int .u64 x1] T.alarm_entry))
 have hy:=push_new (h:=h.push (.cells #[.int .i64 x0, .int .u64 x1] T.alarm_entry)) (x:= .cells #[.int .i64 y0, .int .u64 y1] T.alarm_entry)
 have hr:=hk _ f
 refine⟨x1,cell_at hx rfl,y1,cell_at hy rfl, ?_⟩
 by_cases h1:x1<y1
 ·have e:decide (lt (x0,x1) (y0,y1))=true:=by simp[lt,h1]
  rw[e] at hr
  simpa only[h1,decide_true,if_true] using hr
 ·simp only[h1,decide_false,Bool.false_eq_true,if_false]
  refine⟨x1,cell_at hx rfl,y1,cell_at hy rfl, ?_⟩
  by_cases h2:x1=y1
  ·subst h2
   simp only[beq_self_eq_true,if_true]
   refine⟨x0,cell_at hx rfl,y0,cell_at hy rfl, ?_⟩
   have e:decide (lt (x0,x1) (y0,x1))=decide (x0<y0):=by simp[lt]
   rw[e] at hr
   exact hr
  ·have e:decide (lt (x0,x1) (y0,y1))=false:=by simp[lt,h1,h2]
   rw[e] at hr
   simpa only[beq_eq_false_iff_ne.2 h2,Bool.false_eq_true,if_false] using hr
theorem put_ok (M:Mem h a p cap m es g) {i:Nat} (hi:i<es.length) {x0 x1:Int}
  (hk: ∀h',Mem h' a p cap m (es.set i (x0,x1)) (fun k=>if k=x0 then some (.int .i64 i) else g k)→Fr (inner p m) h h'→R (.tuple #[]) h'):
  CallsH Tryz.prog F.alarm_Alarm_put #[.pointer (some ⟨a,0,none⟩), .int .i64 i, .agg #[.int .i64 x0, .int .u64 x1]] h R:=by
 obtain⟨ad,rfl⟩:=M.some (by omega)
 refine alarm_Alarm_put.walk ?_
 rintro b h1 hb rfl
 have f1:Fr (fun _=>False) h (h.push (.cells #[.int .i64 x0, .int .u64 x1] T.alarm_entry)):=Fr.push _ _
 have M1:=M.calm f1
 have hx:=push_new (h:=h) (x:= .cells #[.int .i64 x0, .int .u64 x1] T.alarm_entry)
 rw[←hb] at hx
 generalize h.push (.cells #[.int .i64 x0, .int .u64 x1] T.alarm_entry)=h1 at f1 M1 hx
 have hbn: ∀c,foot a (some ad) m c→b≠c:=fun c hc e=>by have:=M.lt hc;omega
 refine⟨_,_,_,M1.hd,x0,cell_at hx rfl,x1,cell_at hx rfl,⟨by omega,by omega⟩,onSome_some.2 ?_⟩
 rw[Int.toNat_natCast,add_add]
 have hl:=enc_len es
 refine M1.own.store (by omega) fun h2 o2 s2 k2=>o2.store (by rw[List.length_set];omega) fun h3 o3 s3 k3=> ?_
 rw[enc_set es i (x0,x1)] at o3
 have f2:Fr (inBlk (some ad)) h1 h3:=Fr.tt (Fr.of_eq s2 k2) (Fr.of_eq s3 k3)
 have hx3:=f2.get hx (fun hc=>hbn b (.inr (.inr hc)) rfl)
 have hb3:=f2.get M1.blk M.ne
 refine⟨_,cell_at hb3 rfl,x0,cell_at hx3 rfl, ?_⟩
 refine den_mapUpdateF tm (M1.map.frame f2 M.pm) fun h4 m4 s4 k4=>hk h4 ⟨?_, ?_,m4,M.ne⟩ ?_
 ·rw[k4 a M.am,hb3,List.length_set]
 ·rw[List.length_set]
  exact o3.frame (Fr.of_eq (S:=fun c=>c=m) s4 k4) (fun c hc e=>M.pm (e▸hc))
 ·exact Fr.no f1 ((f2.mono fun c _ hc=> .inr hc).trans (Fr.of_eq (S:=fun c=>c=m) s4 k4) (fun _ _=>id) (fun _ _ hc=> .inl hc))
theorem fork2 {h:Heap} {t:TypeId} {z0 z1 x0 x1 y0 y1:Value} {G1 G2 G3 G4:Heap→Prop} {J:Option Addr→Option Addr→Heap→Prop}
  (hG: ∀h',Fr (fun _=>False) h h'→G1 h'∧G2 h'∧G3 h'∧G4 h')
  (hJ: ∀b b' h',h'[b]? =some (.cells #[x0,x1] t (0,0))→h'[b']? =some (.cells #[y0,y1] t (0,0))→h.size≤b→h.size≤b'→Fr (fun _=>False) h h'→J (some ⟨b,0,none⟩) (some ⟨b',0,none⟩) h'):
  (NewP h (.cells #[z0,z1] t) fun b h_6=>G1 h_6∧G2 h_6∧G3 h_6∧G4 h_6∧NewP h_6 (.cells #[z0,z1] t) fun b_1 h_7=>G1 h_7∧G2 h_7∧G3 h_7∧G4 h_7∧
   StoreP h_7 ⟨b,0,none⟩ x0 fun h_8=>StoreP h_8 ⟨b,1,none⟩ x1 fun h_9=>G1 h_9∧G2 h_9∧StoreP h_9 ⟨b_1,0,none⟩ y0 fun h_10=>StoreP h_10 ⟨b_1,1,none⟩ y1 fun h_11=>J (some ⟨b,0,none⟩) (some ⟨b_1,0,none⟩) h_11)∧
  (NewP h (.cells #[z0,z1] t) fun b h_6=>G1 h_6∧G2 h_6∧G3 h_6∧G4 h_6∧NewP h_6 (.cells #[z0,z1] t) fun b_1 h_7=>G1 h_7∧G2 h_7∧G3 h_7∧G4 h_7∧
   StoreP h_7 ⟨b_1,0,none⟩ x0 fun h_8=>StoreP h_8 ⟨b_1,1,none⟩ x1 fun h_9=>G1 h_9∧G2 h_9∧StoreP h_9 ⟨b,0,none⟩ y0 fun h_10=>StoreP h_10 ⟨b,1,none⟩ y1 fun h_11=>J (some ⟨b_1,0,none⟩) (some ⟨b,0,none⟩) h_11)∧True:=by
 have key: ∀(b b':Nat) (h7:Heap),b≠b'→h.size≤b→h.size≤b'→Fr (fun _=>False) h h7→h7[b]? =some (.cells #[z0,z1] t (0,0))→h7[b']? =some (.cells #[z0,z1] t (0,0))→
   StoreP h7 ⟨b,0,none⟩ x0 fun h_8=>StoreP h_8 ⟨b,1,none⟩ x1 fun h_9=>G1 h_9∧G2 h_9∧StoreP h_9 ⟨b',0,none⟩ y0 fun h_10=>StoreP h_10 ⟨b',1,none⟩ y1 fun h_11=>J (some ⟨b,0,none⟩) (some ⟨b',0,none⟩) h_11:=by
  intro b b' h7 hne hb hb' f7 c7 c7'
  have fr: ∀ {h1 h2:Heap} {x:Nat},Fr (fun _=>False) h h1→h.size≤x→h2.size=h1.size→(∀y,y≠x→h2[y]? =h1[y]?)→Fr (fun _=>False) h h2:=fun f hx hs ho=>
   ⟨by have:=f.1;omega,fun c hc hn=>by rw[ho c (by omega)];exact f.2 c hc hn⟩
  refine storeP_blk c7 (by simp) fun h8 c8 s8 k8=>storeP_blk c8 (by simp) fun h9 c9 s9 k9=> ?_
  have f9:=fr (fr f7 hb s8 k8) hb s9 k9
  have c9':h9[b']? =some (.cells #[z0,z1] t (0,0)):=by rw[k9 _ hne.symm,k8 _ hne.symm];exact c7'
  refine⟨(hG _ f9).1,(hG _ f9).2.1,storeP_blk c9' (by simp) fun h10 c10 s10 k10=>storeP_blk c10 (by simp) fun h11 c11 s11 k11=> ?_⟩
  refine hJ b b' h11 ?_ c11 hb hb' (fr (fr f9 hb' s10 k10) hb' s11 k11)
  rw[k11 _ hne,k10 _ hne];exact c9
 have f1: ∀o,Fr (fun _=>False) h (h.push o):=fun o=>Fr.push _ _
 refine⟨?_, ?_,trivial⟩
 ·rintro b h1 rfl rfl
  obtain⟨g1,g2,g3,g4⟩:=hG _ (f1 _)
  refine⟨g1,g2,g3,g4, ?_⟩
  rintro b' h2 rfl rfl
  have f2:=Fr.tt (f1 (.cells #[z0,z1] t)) (Fr.push (h.push (.cells #[z0,z1] t)) (.cells #[z0,z1] t))
  obtain⟨g1,g2,g3,g4⟩:=hG _ f2
  exact⟨g1,g2,g3,g4,key _ _ _ (by simp) (by simp) (by simp) f2 (push_old push_new) push_new⟩
 ·rintro b h1 rfl rfl
  obtain⟨g1,g2,g3,g4⟩:=hG _ (f1 _)
  refine⟨g1,g2,g3,g4, ?_⟩
  rintro b' h2 rfl rfl
  have f2:=Fr.tt (f1 (.cells #[z0,z1] t)) (Fr.push (h.push (.cells #[z0,z1] t)) (.cells #[z0,z1] t))
  obtain⟨g1,g2,g3,g4⟩:=hG _ f2
  exact⟨g1,g2,g3,g4,key _ _ _ (by simp) (by simp) (by simp) f2 push_new (push_old push_new)⟩
end Alarm
end Go.Proofs.YtgccegnmggjkjaaGreatDoor
set_option maxRecDepth 100000
namespace Go.Proofs.YtgccegnmggjkjaaGreatDoor
open Go.Den Go.Heapq
namespace Alarm
variable {h : Heap} {a m cap : Nat} {p : Option Addr} {es : List E} {g : Int → Option Value} {R : Value → Heap → Prop}
theorem par_eq {q:Nat} (hq:q<1000000):IntKind.wrap .i64 (Int.tdiv (IntKind.wrap .i64 ((q:Int) - 1)) 2)=(((q - 1)/2:Nat):Int):=by
 rw[wrap_id (n:=(q:Int) - 1) (by omega) (by omega)]
 cases q with
 |zero=>decide
 |succ n=>
  rw[show((n+1:Nat):Int) - 1=(n:Int) by omega,show n+1 - 1=n from rfl]
  have:Int.tdiv (n:Int) 2=((n/2:Nat):Int):=by
   rw[Int.tdiv_eq_ediv_of_nonneg (by omega)]
   omega
  rw[this]
  exact wrap_id (by omega) (by omega)
theorem kid1_eq {q:Nat} (hq:q<1000000):IntKind.wrap .i64 (IntKind.wrap .i64 (2*(q:Int))+1)=((2*q+1:Nat):Int):=by
 rw[wrap_id (n:=2*(q:Int)) (by omega) (by omega),wrap_id (by omega) (by omega)];omega
theorem kid2_eq {q:Nat} (hq:q<1000000):IntKind.wrap .i64 (IntKind.wrap .i64 (2*(q:Int))+2)=((2*q+2:Nat):Int):=by
 rw[wrap_id (n:=2*(q:Int)) (by omega) (by omega),wrap_id (by omega) (by omega)];omega
theorem swap_ok {K:Heap→Prop} (M:Mem h a p cap m es g) (hP:PlaceOk es g) {i j b b':Nat} (hi:i<es.length) (hj:j<es.length) (hne:i≠j)
  (hb:h[b]? =some (.cells #[.int .i64 (at_ es i).1, .int .u64 (at_ es i).2] T.alarm_entry (0,0))) (hb':h[b']? =some (.cells #[.int .i64 (at_ es j).1, .int .u64 (at_ es j).2] T.alarm_entry (0,0)))
  (nb': ¬inner p m b')
  (hk: ∀h' g',Mem h' a p cap m (swapL es i j) g'→PlaceOk (swapL es i j) g'→Fr (inner p m) h h'→K h'):
  onSome (some (⟨b,0,none⟩:Addr)) fun a_1=>
   ∃(t45_0:Int),hcell h a_1=some (.int .i64 t45_0)∧ ∃(t45_1:Int),hcell h (a_1.add 1)=some (.int .u64 t45_1)∧
   CallsH Tryz.prog F.alarm_Alarm_put #[.pointer (some ⟨a,0,none⟩), .int .i64 (j:Int), .agg #[.int .i64 t45_0, .int .u64 t45_1]] h fun v h_4=>
   v= .tuple #[]∧
   onSome (some (⟨b',0,none⟩:Addr)) fun a_2=>
   ∃(t49_0:Int),hcell h_4 a_2=some (.int .i64 t49_0)∧ ∃(t49_1:Int),hcell h_4 (a_2.add 1)=some (.int .u64 t49_1)∧
   CallsH Tryz.prog F.alarm_Alarm_put #[.pointer (some ⟨a,0,none⟩), .int .i64 (i:Int), .agg #[.int .i64 t49_0, .int .u64 t49_1]] h_4 fun v_1 h_5=>
   v_1= .tuple #[]∧K h_5:=by
 refine onSome_some.2 ⟨_,cell_at hb rfl,_,by rw[add_blk];exact cell_at hb rfl, ?_⟩
 refine put_ok M hj fun h4 M4 f4=>⟨rfl,onSome_some.2 ?_⟩
 have hb4:=f4.get hb' nb'
 refine⟨_,cell_at hb4 rfl,_,by rw[add_blk];exact cell_at hb4 rfl, ?_⟩
 refine put_ok M4 (by rw[List.length_set];exact hi) fun h5 M5 f5=>⟨rfl,hk h5 _ M5 (hP.swap hi hj hne) (Fr.tt f4 f5)⟩
def upI (h0:Heap) (a:Nat) (p:Option Addr) (cap m:Nat) (es0:List E) (i0:Nat) (i:Int) (h:Heap):Prop:=
 ∃es g q,i=((q:Nat):Int)∧q<es0.length∧es.length=es0.length∧Mem h a p cap m es g∧PlaceOk es g∧es.Perm es0∧ExBoth (at_ es) es0.length q∧
  ((q=i0∧es=es0)∨KidsOk (at_ es) es0.length q)∧at_ es q=at_ es0 i0∧Fr (inner p m) h0 h
theorem up_ok (M:Mem h a p cap m es g) (hP:PlaceOk es g) {i:Nat} (hi:i<es.length) (hn:es.length<1000000) (ex:ExBoth (at_ es) es.length i)
  (hk: ∀h' es' g' q,Mem h' a p cap m es' g'→PlaceOk es' g'→es'.Perm es→es'.length=es.length→q<es.length→at_ es' q=at_ es i→ExDown (at_ es') es.length q→(KidsOk (at_ es) es.length i→HeapO (at_ es') es.length)→Fr (inner p m) h h'→R (.tuple #[]) h'):
  CallsH Tryz.prog F.alarm_Alarm_up #[.pointer (some ⟨a,0,none⟩), .int .i64 (i:Int)] h R:=by
 refine alarm_Alarm_up.walk ⟨upI h a p cap m es i,fun i _=>i.toNat,⟨es,g,i,rfl,hi,rfl,M,hP, .refl _,ex, .inl ⟨rfl,rfl⟩,rfl,Fr.refl _ _⟩, ?_⟩
 rintro i1 h1 ⟨es1,g1,q,rfl,hq,hl,M1,P1,pm1,ex1,kd,hat,fr⟩
 rw[par_eq (by omega)]
 refine JoinP.of fun J hJ=> ?_
 have hq1:q<es1.length:=by omega
 have hp1:(q - 1)/2<es1.length:=by omega
 have stay: ∀h2,Fr (fun _=>False) h1 h2→(q=0∨le (at_ es1 ((q - 1)/2)) (at_ es1 q))→J false h2:=by
  intro h2 f hle
  subst hJ
  simp only[Bool.false_eq_true,if_false]
  have hd:=up_stay ex1 hle
  refine hk h2 es1 g1 q (M1.calm f) P1 pm1 hl hq hat hd (fun k0=> ?_) (Fr.on fr f)
  rcases kd with⟨e1,e2⟩|kd
  ·subst e1 e2;exact heap_of_down hd k0
  ·exact heap_of_down hd kd
 by_cases h0:q=0
 ·subst h0
  exact stay h1 (Fr.refl _ _) (.inl rfl)
 ·have hgt:(q:Int)>0:=by omega
  simp only[hgt,decide_true,if_true,Int.toNat_natCast]
  obtain⟨ad,rfl⟩:=M1.some (by omega)
  refine⟨_,_,_,M1.hd,⟨by omega,by omega⟩,onSome_some.2 ⟨_,M1.c0 hq1,_,M1.c1 hq1,_,_,_,M1.hd,⟨by omega,by omega⟩,onSome_some.2 ⟨_,M1.c0 hp1,_,M1.c1 hp1,ahead_ok fun h2 f=>⟨_,rfl,(M1.calm f).hd,(M1.calm f).hd, ?_⟩⟩⟩⟩
  by_cases hlt:lt (at_ es1 q) (at_ es1 ((q - 1)/2))
  ·rw[show decide (lt ((at_ es1 q).1,(at_ es1 q).2) ((at_ es1 ((q - 1)/2)).1,(at_ es1 ((q - 1)/2)).2))=true from decide_eq_true hlt]
   subst hJ
   simp only[if_true,Int.toNat_natCast]
   have M2:=M1.calm f
   refine JoinP.of fun J1 hJ1=> ?_
   refine⟨_,_,_,M2.hd,⟨by omega,by omega⟩,onSome_some.2 ⟨_,M2.c0 hq1,_,M2.c1 hq1,_,_,_,M2.hd,⟨by omega,by omega⟩,onSome_some.2 ⟨_,M2.c0 hp1,_,M2.c1 hp1, ?_⟩⟩⟩
   refine fork2 (fun h' f'=> ?_) (fun b b' h' hb hb' sb sb' f'=> ?_)
   ·have M':=M2.calm f'
    exact⟨⟨M'.c0 hp1,M'.c1 hp1,trivial⟩,M'.hd,⟨M'.c0 hq1,M'.c1 hq1,trivial⟩,M'.hd⟩
   ·subst hJ1
    have M3:=M2.calm f'
    refine swap_ok M3 P1 hq1 hp1 (by omega) hb hb' (fun hc=> ?_) fun h5 g5 M5 P5 f5=>⟨⟨swapL es1 q ((q - 1)/2),g5,(q - 1)/2,rfl,by omega,by rw[swapL_len];exact hl,M5,P5,(swapL_perm hq1 hp1).trans pm1, ?_⟩, ?_⟩
    ·have:=M2.lt (.inr hc);omega
    ·have mv:=up_move ex1 (by omega) hq rfl hlt
     rw[swapL_fun hq1 hp1]
     refine⟨mv.1, .inr mv.2, ?_,Fr.tt fr (Fr.no f (Fr.no f' f5))⟩
     rw[←hat];unfold swapf;rw[if_neg (by omega),if_pos rfl]
    ·show Int.toNat (((q - 1)/2:Nat):Int)<Int.toNat (q:Int)
     rw[Int.toNat_natCast,Int.toNat_natCast];omega
  ·rw[show decide (lt ((at_ es1 q).1,(at_ es1 q).2) ((at_ es1 ((q - 1)/2)).1,(at_ es1 ((q - 1)/2)).2))=false from decide_eq_false hlt]
   exact stay h2 f (.inr hlt)
theorem kid_ok {J:Int→Heap→Prop} (M:Mem h a p cap m es g) {b c:Nat} (hb:b<es.length)
  (k1:es.length≤c→J b h) (k2:c<es.length→lt (at_ es c) (at_ es b)→ ∀h',Fr (fun _=>False) h h'→J c h') (k3:c<es.length→ ¬lt (at_ es c) (at_ es b)→ ∀h',Fr (fun _=>False) h h'→J b h'):
  JoinP (fun(t43:Bool) (h_4:Heap)=>
   JoinP (fun(best_2:Int) (h_5:Heap)=>
    J best_2 h_5)
   (fun J_2=>
    if t43=true then
     J_2 (c:Int) h_4
    else
     J_2 (b:Int) h_4))
  (fun J_1=>
   ∃(t24_p:Option Addr) (t24_l t24_c:Nat),hcell h ⟨a,0,none⟩=some (.slice t24_p t24_l t24_c)∧
   if(decide ((c:Int)<((t24_l:Nat):Int)))=true then
    ∃(t31_p:Option Addr) (t31_l t31_c:Nat),hcell h ⟨a,0,none⟩=some (.slice t31_p t31_l t31_c)∧
    ((0:Int)≤(c:Int)∧(c:Int)<((t31_l:Nat):Int))∧
    onSome t31_p fun a_1=>
    ∃(t34_0:Int),hcell h (a_1.add (Int.toNat (c:Int)*2))=some (.int .i64 t34_0)∧ ∃(t34_1:Int),hcell h ((a_1.add (Int.toNat (c:Int)*2)).add 1)=some (.int .u64 t34_1)∧
    ∃(t38_p:Option Addr) (t38_l t38_c:Nat),hcell h ⟨a,0,none⟩=some (.slice t38_p t38_l t38_c)∧
    ((0:Int)≤(b:Int)∧(b:Int)<((t38_l:Nat):Int))∧
    onSome t38_p fun a_2=>
    ∃(t41_0:Int),hcell h (a_2.add (Int.toNat (b:Int)*2))=some (.int .i64 t41_0)∧ ∃(t41_1:Int),hcell h ((a_2.add (Int.toNat (b:Int)*2)).add 1)=some (.int .u64 t41_1)∧
    CallsH Tryz.prog F.alarm_ahead #[.agg #[.int .i64 t34_0, .int .u64 t34_1], .agg #[.int .i64 t41_0, .int .u64 t41_1]] h fun v h_6=>
    ∃(t42:Bool),v= .bool t42∧
    hcell h_6 ⟨a,0,none⟩=some (.slice t38_p t38_l t38_c)∧
    hcell h_6 ⟨a,0,none⟩=some (.slice t31_p t31_l t31_c)∧
    hcell h_6 ⟨a,0,none⟩=some (.slice t24_p t24_l t24_c)∧
    J_1 t42 h_6
   else
    J_1 false h):=by
 refine JoinP.of fun J1 hJ1=>⟨_,_,_,M.hd, ?_⟩
 by_cases hc:c<es.length
 ·have hc':(c:Int)<(es.length:Int):=by omega
  simp only[hc',decide_true,if_true,Int.toNat_natCast]
  obtain⟨ad,rfl⟩:=M.some (by omega)
  refine⟨_,_,_,M.hd,⟨by omega,by omega⟩,onSome_some.2 ⟨_,M.c0 hc,_,M.c1 hc,_,_,_,M.hd,⟨by omega,by omega⟩,onSome_some.2 ⟨_,M.c0 hb,_,M.c1 hb,ahead_ok fun h2 f=>⟨_,rfl,(M.calm f).hd,(M.calm f).hd,(M.calm f).hd, ?_⟩⟩⟩⟩
  subst hJ1
  by_cases hlt:lt (at_ es c) (at_ es b)
  ·rw[show decide (lt ((at_ es c).1,(at_ es c).2) ((at_ es b).1,(at_ es b).2))=true from decide_eq_true hlt]
   simp only[if_true,JoinP]
   exact k2 hc hlt h2 f
  ·rw[show decide (lt ((at_ es c).1,(at_ es c).2) ((at_ es b).1,(at_ es b).2))=false from decide_eq_false hlt]
   simp only[Bool.false_eq_true,if_false,JoinP]
   exact k3 hc hlt h2 f
 ·have hc': ¬(c:Int)<(es.length:Int):=by omega
  subst hJ1
  simp only[hc',decide_false,Bool.false_eq_true,if_false,JoinP]
  exact k1 (by omega)
def dnI (h0:Heap) (a:Nat) (p:Option Addr) (cap m:Nat) (es0:List E) (i:Int) (h:Heap):Prop:=
 ∃es g q,i=((q:Nat):Int)∧q<es0.length∧es.length=es0.length∧Mem h a p cap m es g∧PlaceOk es g∧es.Perm es0∧ExDown (at_ es) es0.length q∧Fr (inner p m) h0 h
def kidI (h1:Heap) (es:List E) (q:Nat) (best t:Int) (h:Heap):Prop:=
 ∃b k:Nat,best=b∧t=k∧k≤2∧b<es.length∧Fr (fun _=>False) h1 h∧(b≠q→(b - 1)/2=q∧0<b∧lt (at_ es b) (at_ es q))∧ ∀c,0<c→c<es.length→c≤2*q+k→(c - 1)/2=q→le (at_ es b) (at_ es c)
theorem down_ok (M:Mem h a p cap m es g) (hP:PlaceOk es g) {i:Nat} (hi:i<es.length) (hn:es.length<1000000) (ex:ExDown (at_ es) es.length i)
  (hk: ∀h' es' g',Mem h' a p cap m es' g'→PlaceOk es' g'→es'.Perm es→es'.length=es.length→HeapO (at_ es') es.length→Fr (inner p m) h h'→R (.tuple #[]) h'):
  CallsH Tryz.prog F.alarm_Alarm_down #[.pointer (some ⟨a,0,none⟩), .int .i64 (i:Int)] h R:=by
 refine alarm_Alarm_down.walk ⟨dnI h a p cap m es,fun i _=>es.length - i.toNat,⟨es,g,i,rfl,hi,rfl,M,hP, .refl _,ex,Fr.refl _ _⟩, ?_⟩
 rintro i1 h1 ⟨es1,g1,q,rfl,hq,hl,M1,P1,pm1,ex1,fr⟩
 have hq1:q<es1.length:=by omega
 rw[kid1_eq (by omega),kid2_eq (by omega)]
 refine⟨kidI h1 es1 q,fun _ t _=>2 - t.toNat,⟨q,0,rfl,rfl,by omega,hq1,Fr.refl _ _,fun hne=>absurd rfl hne,fun c h1 h2 h3 h4=>by omega⟩, ?_⟩
 rintro best t h2 ⟨b,k,rfl,rfl,hk2,hb,f2,hbq,hall⟩
 have M2:=M1.calm f2
 by_cases hkk:k<2
 ·have hkk':(k:Int)<2:=by omega
  simp only[hkk',decide_true,if_true]
  rw[wrap_id (n:=(k:Int)+1) (by omega) (by omega)]
  refine JoinP.of fun J hJ=>⟨⟨by omega,by omega⟩,fun hk0=> ?_,fun hk1=> ?_,trivial⟩
  ·obtain rfl:k=0:=by omega
   refine kid_ok M2 hb (fun hc=> ?_) (fun hc hlt h3 f3=> ?_) (fun hc hlt h3 f3=> ?_)<;>subst hJ<;>refine⟨?_,by simp⟩
   ·exact⟨b,1,rfl,rfl,by omega,hb,f2,hbq,fun c c1 c2 c3 c4=>by omega⟩
   ·refine⟨2*q+1,1,rfl,rfl,by omega,hc,Fr.tt f2 f3,fun _=>⟨by omega,by omega, ?_⟩,fun c c1 c2 c3 c4=> ?_⟩
    ·by_cases e:b=q
     ·rw[←e];exact e▸hlt
     ·exact lt_trans hlt (hbq e).2.2
    ·have:c=2*q+1:=by omega
     subst this;exact le_refl _
   ·refine⟨b,1,rfl,rfl,by omega,hb,Fr.tt f2 f3,hbq,fun c c1 c2 c3 c4=> ?_⟩
    have:c=2*q+1:=by omega
    subst this;exact hlt
  ·obtain rfl:k=1:=by omega
   refine kid_ok M2 hb (fun hc=> ?_) (fun hc hlt h3 f3=> ?_) (fun hc hlt h3 f3=> ?_)<;>subst hJ<;>refine⟨?_,by simp⟩
   ·exact⟨b,2,rfl,rfl,by omega,hb,f2,hbq,fun c c1 c2 c3 c4=>hall c c1 c2 (by omega) c4⟩
   ·refine⟨2*q+2,2,rfl,rfl,by omega,hc,Fr.tt f2 f3,fun _=>⟨by omega,by omega, ?_⟩,fun c c1 c2 c3 c4=> ?_⟩
    ·by_cases e:b=q
     ·rw[←e];exact e▸hlt
     ·exact lt_trans hlt (hbq e).2.2
    ·by_cases e:c=2*q+2
     ·subst e;exact le_refl _
     ·exact le_trans (le_of_lt hlt) (hall c c1 c2 (by omega) c4)
   ·refine⟨b,2,rfl,rfl,by omega,hb,Fr.tt f2 f3,hbq,fun c c1 c2 c3 c4=> ?_⟩
    by_cases e:c=2*q+2
    ·subst e;exact hlt
    ·exact hall c c1 c2 (by omega) c4
 ·obtain rfl:k=2:=by omega
  simp only[show¬((2:Nat):Int)<2 by omega,decide_false,Bool.false_eq_true,if_false]
  by_cases e:b=q
  ·subst e
   simp only[bne_self_eq_false,Bool.false_eq_true,if_false]
   refine hk h2 es1 g1 M2 P1 pm1 hl (heap_of_down ex1 fun j j1 j2 j3=>hall j j1 (by omega) (by omega) j3) (Fr.on fr f2)
  ·obtain⟨b1,b2,b3⟩:=hbq e
   have hne:((b:Int) !=(q:Int))=true:=by simp;omega
   simp only[hne,if_true,Int.toNat_natCast]
   obtain⟨ad,rfl⟩:=M2.some (by omega)
   refine JoinP.of fun J1 hJ1=> ?_
   refine⟨_,_,_,M2.hd,⟨by omega,by omega⟩,onSome_some.2 ⟨_,M2.c0 hq1,_,M2.c1 hq1,_,_,_,M2.hd,⟨by omega,by omega⟩,onSome_some.2 ⟨_,M2.c0 hb,_,M2.c1 hb, ?_⟩⟩⟩
   refine fork2 (fun h' f'=> ?_) (fun x x' h' hx hx' sx sx' f'=> ?_)
   ·have M':=M2.calm f'
    exact⟨⟨M'.c0 hb,M'.c1 hb,trivial⟩,M'.hd,⟨M'.c0 hq1,M'.c1 hq1,trivial⟩,M'.hd⟩
   ·subst hJ1
    have M3:=M2.calm f'
    refine swap_ok M3 P1 hq1 hb (fun x=>e x.symm) hx hx' (fun hc=> ?_) fun h5 g5 M5 P5 f5=>⟨⟨swapL es1 q b,g5,b,rfl,by omega,by rw[swapL_len];exact hl,M5,P5,(swapL_perm hq1 hb).trans pm1, ?_,Fr.tt fr (Fr.no f2 (Fr.no f' f5))⟩, ?_⟩
    ·have:=M2.lt (.inr hc);omega
    ·rw[swapL_fun hq1 hb]
     exact down_move ex1 b1 b2 (by omega) b3 fun j j1 j2 j3=>hall j j1 (by omega) (by omega) j3
    ·show es.length - Int.toNat (b:Int)<es.length - Int.toNat (q:Int)
     rw[Int.toNat_natCast,Int.toNat_natCast];omega
end Alarm
end Go.Proofs.YtgccegnmggjkjaaGreatDoor
set_option maxRecDepth 100000
namespace Go.Heapq
theorem take_last {es:List E} {n:Nat} (hn:es.length=n+1):es=es.take n++ [at_ es n]:=by
 have h:n<es.length:=by omega
 rw[at_get h]
 have:=List.take_append_getElem h
 rw[this,List.take_of_length_le (by omega)]
theorem at_take {es:List E} {n i:Nat} (hi:i<n):at_ (es.take n) i=at_ es i:=by
 unfold at_
 rw[List.getD_eq_getElem?_getD,List.getD_eq_getElem?_getD,List.getElem?_take,if_pos hi]
theorem at_append {es:List E} {x:E} {i:Nat} :at_ (es++ [x]) i=if i<es.length then at_ es i else if i=es.length then x else(0,0):=by
 unfold at_
 rw[List.getD_eq_getElem?_getD,List.getD_eq_getElem?_getD]
 by_cases h:i<es.length
 ·rw[List.getElem?_append_left h,if_pos h]
 ·rw[List.getElem?_append_right (by omega),if_neg h]
  by_cases e:i=es.length
  ·subst e;simp
  ·rw[if_neg e,List.getElem?_eq_none (by simp;omega)];rfl
theorem mem_keys {es:List E} {k:Int} (h:k∈keys es): ∃j,j<es.length∧(at_ es j).1=k:=by
 obtain⟨e,he,rfl⟩:=List.mem_map.1 h
 obtain⟨j,hj⟩:=List.getElem?_of_mem he
 have hl:=(List.getElem?_eq_some_iff.1 hj).1
 rw[at_some hl] at hj
 exact⟨j,hl,congrArg Prod.fst (Option.some.inj hj)⟩
theorem at_mem {es:List E} {j:Nat} (h:j<es.length):at_ es j∈es:=by rw[at_get h];exact List.getElem_mem h
theorem keys_perm {l l':List E} (h:l.Perm l'):(keys l).Perm (keys l'):=h.map _
def cut (es:List E) (n j:Nat):List E:=if j<n then(es.take n).set j (at_ es n) else es.take n
theorem cut_perm {es:List E} {n j:Nat} (hn:es.length=n+1) (hj:j<es.length):es.Perm (at_ es j::cut es n j):=by
 unfold cut
 have hlen:(es.take n).length=n:=by rw[List.length_take];omega
 split
 ·rename_i h
  have hT:j<(es.take n).length:=by omega
  have e1:at_ es j=(es.take n)[j]:=by rw[←at_take h,at_get hT]
  have p1:es.Perm (at_ es n::es.take n):=by
   have:es.Perm (es.take n++ [at_ es n]):=by rw[←take_last hn]
   exact this.trans (List.perm_append_singleton _ _)
  have p2:(es.take n).Perm (at_ es j::((es.take n).take j++(es.take n).drop (j+1))):=by
   rw[e1]
   have e2:es.take n=(es.take n).take j++(es.take n)[j]::(es.take n).drop (j+1):=by rw[←List.drop_eq_getElem_cons hT,List.take_append_drop]
   have e3:(es.take n).Perm ((es.take n).take j++(es.take n)[j]::(es.take n).drop (j+1)):=List.Perm.of_eq e2
   exact e3.trans List.perm_middle
  have p3:((es.take n).set j (at_ es n)).Perm (at_ es n::((es.take n).take j++(es.take n).drop (j+1))):=by
   rw[List.set_eq_take_append_cons_drop,if_pos hT]
   exact List.perm_middle
  exact p1.trans ((p2.cons _).trans ((List.Perm.swap _ _ _).trans (p3.symm.cons _)))
 ·have:j=n:=by omega
  subst this
  have:es.Perm (es.take j++ [at_ es j]):=by rw[←take_last hn]
  exact this.trans (List.perm_append_singleton _ _)
theorem cut_drop {es l:List E} {n j:Nat} (hn:es.length=n+1) (hj:j<es.length) (hd:(keys es).Nodup) (hp:es.Perm l):(cut es n j).Perm (dropK l (at_ es j).1):=by
 have h1:=cut_perm hn hj
 have hk:(at_ es j).1∉keys (cut es n j):=by
  have:=(keys_perm h1).nodup_iff.1 hd
  exact(List.nodup_cons.1 this).1
 have h2:=dropK_perm (h1.symm.trans hp) (at_ es j).1
 have h3:dropK (at_ es j::cut es n j) (at_ es j).1=cut es n j:=by
  have:dropK (at_ es j::cut es n j) (at_ es j).1=dropK (cut es n j) (at_ es j).1:=by
   unfold dropK;rw[List.filter_cons];simp
  rw[this,dropK_none hk]
 rw[h3] at h2
 exact h2
theorem cut_len {es:List E} {n j:Nat} (hn:es.length=n+1):(cut es n j).length=n:=by
 unfold cut
 split
 ·rw[List.length_set,List.length_take];omega
 ·rw[List.length_take];omega
theorem cut_at {es:List E} {n j i:Nat} (hn:es.length=n+1) (hi:i<n):at_ (cut es n j) i=if i=j then at_ es n else at_ es i:=by
 have hlen:(es.take n).length=n:=by rw[List.length_take];omega
 unfold cut
 split
 ·rw[at_set (by omega),at_take hi]
 ·rw[at_take hi,if_neg (by omega)]
theorem cut_place {es:List E} {g:Int→Option Value} {n j:Nat} (h:PlaceOk es g) (hn:es.length=n+1) (hj:j<es.length):
  PlaceOk (cut es n j) (fun k=>if j<n then(if k=(at_ es n).1 then some (.int .i64 j) else if k=(at_ es j).1 then none else g k) else if k=(at_ es j).1 then none else g k):=by
 obtain⟨h1,h2,h3⟩:=h
 have hp:=keys_perm (cut_perm hn hj)
 have hnd:=hp.nodup_iff.1 h1
 refine⟨(List.nodup_cons.1 hnd).2,fun i hi=> ?_,fun k hk=> ?_⟩
 ·rw[cut_len hn] at hi
  rw[cut_at hn hi]
  by_cases e:i=j
  ·subst e
   simp[hi]
  ·rw[if_neg e]
   have n1:(at_ es i).1≠(at_ es n).1:=fun x=>by have:=key_inj h1 (by omega) (by omega) x;omega
   have n2:(at_ es i).1≠(at_ es j).1:=fun x=>e (key_inj h1 (by omega) hj x)
   simp[n1,n2,h2 i (by omega)]
 ·have hgo: ∀k,k∉(cut es n j).map (·.1)→k≠(at_ es j).1→g k=none:=fun k hk hne=>by
   refine h3 k fun hm=> ?_
   rcases List.mem_cons.1 (hp.mem_iff.1 hm) with e|e
   ·exact hne e
   ·exact hk e
  by_cases hjn:j<n
  ·have hl:(at_ es n).1∈(cut es n j).map (·.1):=by
    have:=at_mem (es:=cut es n j) (j:=j) (by rw[cut_len hn];exact hjn)
    rw[cut_at hn hjn,if_pos rfl] at this
    exact List.mem_map_of_mem this
   have n1:k≠(at_ es n).1:=fun e=>hk (e▸hl)
   by_cases e:k=(at_ es j).1
   ·subst e;simp[hjn,n1]
   ·simp[hjn,n1,e,hgo k hk e]
  ·by_cases e:k=(at_ es j).1
   ·subst e;simp[hjn]
   ·simp[hjn,e,hgo k hk e]
theorem cut_both {es:List E} {n j:Nat} (hn:es.length=n+1) (hj:j<n) (hh:HeapO (at_ es) es.length):ExBoth (at_ (cut es n j)) n j:=by
 refine⟨fun c h1 h2 h3 h4=> ?_,fun h0 c h1 h2 h3=> ?_⟩
 ·rw[cut_at hn h2,cut_at hn (by omega),if_neg h3,if_neg h4]
  exact hh c h1 (by omega)
 ·rw[cut_at hn h2,cut_at hn (by omega),if_neg (by omega),if_neg (by omega)]
  have:=hh c h1 (by omega)
  rw[h3] at this
  exact le_trans (hh j h0 (by omega)) this
theorem cut_heap {es:List E} {n j:Nat} (hn:es.length=n+1) (hj: ¬j<n) (hh:HeapO (at_ es) es.length):HeapO (at_ (cut es n j)) n:=fun c h1 h2=>by
 rw[cut_at hn h2,cut_at hn (by omega),if_neg (by omega),if_neg (by omega)]
 exact hh c h1 (by omega)
theorem add_both {es:List E} {x:E} (hh:HeapO (at_ es) es.length):ExBoth (at_ (es++ [x])) (es.length+1) es.length∧KidsOk (at_ (es++ [x])) (es.length+1) es.length:=by
 refine⟨⟨fun c h1 h2 h3 h4=> ?_,fun h0 c h1 h2 h3=>by omega⟩,fun c h1 h2 h3=>by omega⟩
 rw[at_append,at_append,if_pos (by omega),if_pos (by omega)]
 exact hh c h1 (by omega)
theorem add_place {es:List E} {g:Int→Option Value} {x:E} (h:PlaceOk es g) (hx:x.1∉keys es):PlaceOk (es++ [x]) (fun k=>if k=x.1 then some (.int .i64 es.length) else g k):=by
 obtain⟨h1,h2,h3⟩:=h
 refine⟨?_,fun i hi=> ?_,fun k hk=> ?_⟩
 ·have:((es++ [x]).map (·.1)).Perm (x.1::es.map (·.1)):=by
   rw[List.map_append];exact List.perm_append_singleton _ _
  exact this.nodup_iff.2 (List.nodup_cons.2 ⟨hx,h1⟩)
 ·rw[List.length_append,List.length_singleton] at hi
  rw[at_append]
  by_cases e:i<es.length
  ·rw[if_pos e]
   have:(at_ es i).1≠x.1:=fun q=>hx (q▸List.mem_map_of_mem (at_mem e))
   simp[this,h2 i e]
  ·have:i=es.length:=by omega
   subst this;simp
 ·rw[List.map_append,List.mem_append] at hk
  have n1:k≠x.1:=fun e=>hk (.inr (by simp[e]))
  simp[n1,h3 k (fun hm=>hk (.inl hm))]
theorem dropK_head {e:E} {l:List E} (hd:(keys (e::l)).Nodup):dropK (e::l) e.1=l:=by
 have h1:dropK (e::l) e.1=dropK l e.1:=by unfold dropK;rw[List.filter_cons];simp
 rw[h1,dropK_none (List.nodup_cons.1 hd).1]
end Go.Heapq
set_option maxRecDepth 100000
namespace Go.Proofs.YtgccegnmggjkjaaGreatDoor
open Go.Den Go.Heapq
namespace Alarm
variable {h : Heap} {a m cap : Nat} {p : Option Addr} {es : List E} {g : Int → Option Value} {R : Value → Heap → Prop} {S : Nat → Prop} {L : List E}
theorem tE:SlTy Tryz.prog T.s_alarm_entry T.alarm_entry 2 16 (.agg #[.int .i64 0, .int .u64 0]):=⟨by kernel_rfl,by kernel_rfl,rfl⟩
theorem tI:SlTy Tryz.prog T.s_int T.int 1 8 (.int .i64 0):=⟨by kernel_rfl,by kernel_rfl,rfl⟩
def Good (L:List E):Prop:= ∀e∈L,1≤e.1∧e.1≤1099511627776∧0≤e.2∧e.2≤1099511627776
def Al (h:Heap) (a:Nat) (S:Nat→Prop) (L:List E):Prop:=
 ∃p cap m es g,Mem h a p cap m es g∧PlaceOk es g∧HeapO (at_ es) es.length∧es.Perm L∧Sorted L∧Good L∧ ∀c,S c↔foot a p m c
theorem Al.lt (A:Al h a S L) {c:Nat} (hc:S c):c<h.size:=by
 obtain⟨p,cap,m,es,g,M,_,_,_,_,_,hS⟩:=A
 exact M.lt ((hS c).1 hc)
theorem Al.frame {Q:Nat→Prop} {h':Heap} (A:Al h a S L) (hf:Fr Q h h') (hn: ∀c,S c→ ¬Q c):Al h' a S L:=by
 obtain⟨p,cap,m,es,g,M,P,H,pm,so,gd,hS⟩:=A
 exact⟨p,cap,m,es,g,M.frame hf fun c hc=>hn c ((hS c).2 hc),P,H,pm,so,gd,hS⟩
theorem Al.sorted (A:Al h a S L):Sorted L:=by
 obtain⟨p,cap,m,es,g,M,P,H,pm,so,gd,hS⟩:=A;exact so
theorem Al.nodup (A:Al h a S L):(keys L).Nodup:=by
 obtain⟨p,cap,m,es,g,M,P,H,pm,so,gd,hS⟩:=A
 exact(keys_perm pm).nodup_iff.1 P.1
theorem made_ok (M:Mem h a p cap m es g) (hk:R (.bool true) h):CallsH Tryz.prog F.alarm_Alarm_made #[.pointer (some ⟨a,0,none⟩)] h R:=
 alarm_Alarm_made.walk ⟨some m,M.mp,hk⟩
theorem new_ok (hk: ∀a S h',Al h' a S []→(∀c,S c→h.size≤c)→Fr (fun _=>False) h h'→R (.pointer (some ⟨a,0,none⟩)) h'):CallsH Tryz.prog F.alarm_New #[] h R:=by
 refine alarm_New.walk ?_
 rintro b h1 rfl rfl b1 h2 rfl rfl
 have f:Fr (fun _=>False) (h.push (.map #[] 0)) ((h.push (.map #[] 0)).push (.cells #[.slice none 0 0, .map (some h.size)] T.alarm_Alarm)):=Fr.push _ _
 refine hk _ (foot (h.push (.map #[] 0)).size none h.size) _ ⟨none,0,h.size, [],fun _=>none,⟨push_new, .nil rfl rfl rfl rfl,(MapF.push h).frame f id, ?_⟩,⟨.nil, ?_,fun _ _=>rfl⟩, ?_, .refl _, .nil, ?_,fun _=>Iff.rfl⟩ ?_ (Fr.tt (Fr.push _ _) f)
 ·rintro⟨_,e,_⟩;cases e
 ·intro j hj;simp at hj
 ·intro j _ hj;simp at hj
 ·intro e he;cases he
 ·rintro c (rfl|rfl|⟨_,e,_⟩)
  ·simp
  ·exact Nat.le_refl _
  ·cases e
theorem len_ok (A:Al h a S L) (hk:R (.int .i64 (L.length:Int)) h):CallsH Tryz.prog F.alarm_Alarm_Len #[.pointer (some ⟨a,0,none⟩)] h R:=by
 obtain⟨p,cap,m,es,g,M,P,H,pm,so,gd,hS⟩:=A
 refine alarm_Alarm_Len.walk ⟨_,_,_,M.hd, ?_⟩
 rw[pm.length_eq];exact hk
def hd (L:List E):E:=L.headD (0,0)
theorem next_ok (A:Al h a S L) (hk:R (.tuple #[.int .i64 (hd L).1, .int .u64 (hd L).2, .bool (!L.isEmpty)]) h):CallsH Tryz.prog F.alarm_Alarm_Next #[.pointer (some ⟨a,0,none⟩)] h R:=by
 refine alarm_Alarm_Next.walk (len_ok A ⟨_,rfl, ?_⟩)
 obtain⟨p,cap,m,es,g,M,P,H,pm,so,gd,hS⟩:=A
 cases L with
 |nil=>exact hk
 |cons e r=>
  have hl:=pm.length_eq
  simp only[List.length_cons] at hl
  have hne:(((e::r).length:Int)==0)=false:=by simp only[List.length_cons,beq_eq_false_iff_ne];omega
  simp only[hne,Bool.false_eq_true,if_false]
  obtain⟨ad,rfl⟩:=M.some (by omega)
  obtain⟨r',hr⟩:=head_min pm so H (by omega)
  have he:at_ es 0=e:=(List.cons.inj hr).1.symm
  have c0:=M.c0 (i:=0) (by omega)
  have c1:=M.c1 (i:=0) (by omega)
  rw[he] at c0 c1
  refine⟨_,_,_,M.hd,⟨by omega,by omega⟩,onSome_some.2 ⟨_,c0,_,_,_,M.hd,⟨by omega,by omega⟩,onSome_some.2 ⟨_,c1,hk⟩⟩⟩
theorem local1 {t:TypeId} {z0 z1 x0 x1:Value} {K:Nat→Heap→Prop} (hk: ∀b h',h'[b]? =some (.cells #[x0,x1] t (0,0))→h.size≤b→Fr (fun _=>False) h h'→K b h'):
  NewP h (.cells #[z0,z1] t) fun b h2=>StoreP h2 ⟨b,0,none⟩ x0 fun h3=>StoreP h3 ⟨b,1,none⟩ x1 fun h4=>K b h4:=by
 rintro b h2 rfl rfl
 refine storeP_blk push_new (by simp) fun h3 c3 s3 k3=>storeP_blk c3 (by simp) fun h4 c4 s4 k4=>hk _ h4 c4 (Nat.le_refl _) ⟨?_,fun c hc _=> ?_⟩
 ·rw[s4,s3];simp
 ·rw[k4 c (by omega),k3 c (by omega)];exact(Fr.push (S:=fun _=>False) h _).2 c hc id
theorem drop_ok (A:Al h a S L) (hn:L.length<1000000) (key:Int)
  (k1:key∈keys L→ ∀h',Al h' a S (dropK L key)→Fr S h h'→R (.int .i64 0) h')
  (k2:key∉keys L→R (.int .i64 4) h):CallsH Tryz.prog F.alarm_Alarm_Drop #[.pointer (some ⟨a,0,none⟩), .int .i64 key] h R:=by
 obtain⟨p,cap,m,es,g,M,P,H,pm,so,gd,hS⟩:=A
 have hlen:=pm.length_eq
 refine alarm_Alarm_Drop.walk (made_ok M ⟨true,rfl, ?_⟩)
 simp only[Bool.not_true,Bool.false_eq_true,if_false]
 have lk:=lookV_map_ok tm M.map key
 by_cases hm:key∈keys es
 ·have k1:=k1 ((keys_perm pm).mem_iff.1 hm)
  clear k2
  obtain⟨j,hj,rfl⟩:=mem_keys hm
  obtain⟨n,hn1⟩: ∃n,es.length=n+1:=⟨es.length - 1,by omega⟩
  rw[P.2.1 j hj] at lk
  refine⟨some m,M.mp,(j:Int),true,lk, ?_⟩
  simp only[Bool.not_true,Bool.false_eq_true,if_false]
  obtain⟨b0,off,rfl⟩:=M.own.some (by rw[enc_len];omega)
  refine⟨_,_,_,M.hd,_,_,_,M.hd, ?_⟩
  rw[show IntKind.wrap .i64 ((es.length:Int) - 1)=(n:Int) by rw[wrap_id (by omega) (by omega)];omega]
  simp only[Int.toNat_natCast]
  refine⟨⟨by omega,by omega⟩,onSome_some.2 ⟨_,M.c0 (i:=n) (by omega),_,M.c1 (i:=n) (by omega),local1 fun b h4 hb sb f4=> ?_⟩⟩
  have M4:=M.calm f4
  have hle:=M.own.le
  have hsl:slBase (some (⟨b0,off,none⟩:Addr)) cap 0 2=some ⟨b0,off,none⟩:=by
   unfold slBase;split
   ·rfl
   ·simp[add_blk]
  refine⟨_,_,_,M4.hd,⟨by omega,by omega⟩,storeP_blk M4.blk (by simp) fun h5 c5 s5 k5=> ?_⟩
  have f5:Fr (fun c=>c=a) h4 h5:=Fr.of_eq s5 k5
  have tl:(es.take n).length=n:=by rw[List.length_take];omega
  have M5:Mem h5 a (some ⟨b0,off,none⟩) cap m (es.take n) g:=by
   refine⟨?_, ?_,M4.map.frame f5 (fun e=>M.am e.symm),M.ne⟩
   ·rw[c5,hsl,tl];rfl
   ·have o:=(M4.own.frame f5 (fun c hc e=>M.ne (e▸hc))).sub (l:=0) (u:=n) (by omega) (by omega)
    rw[hsl,enc_take,Nat.zero_mul,List.drop_zero] at o
    rw[tl];exact o
  refine⟨some m,M5.mp,den_deleteF tm M5.map fun h6 m6 s6 k6=>⟨rfl, ?_⟩⟩
  have f6:Fr (fun c=>c=m) h5 h6:=Fr.of_eq s6 k6
  have M6:Mem h6 a (some ⟨b0,off,none⟩) cap m (es.take n) (fun x=>if x=(at_ es j).1 then none else g x):=
   ⟨f6.get M5.blk M.am,M5.own.frame f6 (fun c hc e=>M.pm (e▸hc)),m6,M.ne⟩
  have fh6:Fr (foot a (some ⟨b0,off,none⟩) m) h h6:=Fr.no f4 (f5.trans f6 (fun _ _ e=> .inl e) (fun _ _ e=> .inr (.inl e)))
  have hbn: ∀c,foot a (some ⟨b0,off,none⟩) m c→b≠c:=fun c hc e=>by have:=M.lt hc;omega
  have hb6:=f6.get (f5.get hb (hbn a (.inl rfl))) (hbn m (.inr (.inl rfl)))
  refine JoinP.of fun J hJ=> ?_
  have done: ∀h' es' g',Mem h' a (some ⟨b0,off,none⟩) cap m es' g'→PlaceOk es' g'→HeapO (at_ es') es'.length→es'.Perm (cut es n j)→Fr (foot a (some ⟨b0,off,none⟩) m) h h'→J h':=by
   intro h' es' g' M' P' H' pm' f'
   subst hJ
   exact k1 h' ⟨_,_,_,es',g',M',P',H',pm'.trans (cut_drop hn1 hj P.1 pm),so.drop _,fun e he=>gd e (List.mem_filter.1 he).1,hS⟩ (f'.mono fun c _ hc=>(hS c).2 hc)
  have pc:=cut_place P hn1 hj
  have cl:=cut_len (j:=j) hn1
  by_cases hjn:j<n
  ·have hjn':(j:Int)<(n:Int):=by omega
   simp only[hjn,if_true] at pc
   simp only[hjn',decide_true,if_true]
   have ecut:(es.take n).set j ((at_ es n).1,(at_ es n).2)=cut es n j:=by unfold cut;rw[if_pos hjn]
   refine⟨_,cell_at hb6 rfl,_,cell_at hb6 rfl,put_ok M6 (by omega) fun h8 M8 f8=>⟨rfl, ?_⟩⟩
   rw[ecut] at M8
   have ex:=cut_both hn1 hjn H
   refine up_ok M8 pc (by omega) (by omega) (by rw[cl];exact ex) fun h9 es9 g9 q M9 P9 pm9 l9 q9 at9 ex9 _ f9=>⟨rfl,some m,M9.mp, ?_⟩
   have nin: ¬inner (some ⟨b0,off,none⟩) m b:=fun hc=>hbn b (.inr hc) rfl
   have hb9:=f9.get (f8.get hb6 nin) nin
   have lk9:=lookV_map tm M9.map (at_ es n).1
   have e9:at_ es9 q=at_ es n:=by rw[at9,cut_at hn1 hjn,if_pos rfl]
   have g9':=P9.2.1 q (by omega)
   rw[e9] at g9'
   rw[g9'] at lk9
   refine⟨_,cell_at hb9 rfl,(q:Int),lk9, ?_⟩
   rw[←l9] at ex9
   refine down_ok M9 P9 (by omega) (by omega) ex9 fun h10 es10 g10 M10 P10 pm10 l10 H10 f10=>⟨rfl,cell_at (f10.get hb9 nin) rfl,M10.mp, ?_⟩
   rw[←l10] at H10
   exact done h10 es10 g10 M10 P10 H10 (pm10.trans pm9) (fh6.trans (Fr.tt f8 (Fr.tt f9 f10)) (fun _ _=>id) (fun _ _ hc=> .inr hc))
  ·have hjn': ¬(j:Int)<(n:Int):=by omega
   simp only[hjn,if_false] at pc
   simp only[hjn',decide_false,Bool.false_eq_true,if_false]
   have ecut:es.take n=cut es n j:=by unfold cut;rw[if_neg hjn]
   rw[ecut] at M6
   have H':=cut_heap hn1 hjn H
   exact done h6 _ _ M6 pc (by rw[cl];exact H') (.refl _) fh6
 ·rw[P.2.2 key hm] at lk
  exact⟨some m,M.mp,0,false,lk,k2 fun hx=>hm ((keys_perm pm).mem_iff.2 hx)⟩
def may (key t:Int):Bool:=decide (1≤key) && decide (key≤1099511627776) && decide (t≤1099511627776)
theorem may_iff {key t:Int} :may key t=true↔1≤key∧key≤1099511627776∧t≤1099511627776:=by simp[may,and_assoc]
def setL (L:List E) (key t:Int):List E:=insertS (dropK L key) (key,t)
theorem dropK_len (L:List E) (key:Int):(dropK L key).length≤L.length:=List.length_filter_le _ _
theorem set_ok (A:Al h a S L) (hn:L.length<999999) (key t:Int) (ht:0≤t)
  (k1:may key t=true→ ∀h' S',Al h' a S' (setL L key t)→(∀c,S' c→S c∨h.size≤c)→Fr S h h'→R (.int .i64 0) h')
  (k2:may key t=false→R (.int .i64 1) h):CallsH Tryz.prog F.alarm_Alarm_Set #[.pointer (some ⟨a,0,none⟩), .int .i64 key, .int .u64 t] h R:=by
 have A0:=A
 obtain⟨p,cap,m,es,g,M, -, -, -, -, -, -⟩:=A
 refine alarm_Alarm_Set.walk (made_ok M ⟨true,rfl, ?_⟩)
 clear M
 simp only[Bool.not_true,Bool.false_eq_true,if_false]
 refine JoinP.of fun J hJ=> ?_
 have no:may key t=false→J true h:=fun hm=>by subst hJ;exact k2 hm
 by_cases h1:key<1
 ·simp only[h1,decide_true,if_true]
  exact no (by simp[may,show¬1≤key by omega])
 simp only[h1,decide_false,Bool.false_eq_true,if_false]
 by_cases h2:key>1099511627776
 ·simp only[h2,decide_true,if_true]
  exact no (by simp[may,show¬key≤1099511627776 by omega])
 simp only[h2,decide_false,Bool.false_eq_true,if_false]
 by_cases h3:t>1099511627776
 ·simp only[h3,decide_true]
  exact no (by simp[may,show¬t≤1099511627776 by omega])
 simp only[h3,decide_false]
 clear no k2
 have k1:=k1 (may_iff.2 ⟨by omega,by omega,by omega⟩)
 subst hJ
 simp only[Bool.false_eq_true,if_false]
 have rest: ∀h1 e,Al h1 a S (dropK L key)→Fr S h h1→(∃(t25:Int),Value.int .i64 e= .int .i64 t25∧
    ∃(t30_p:Option Addr) (t30_l t30_c:Nat),hcell h1 ⟨a,0,none⟩=some (.slice t30_p t30_l t30_c)∧
    NewP h1 (.cells #[.int .i64 0, .int .u64 0] T.alarm_entry) fun b h_4=>
    denSem Tryz.prog (Builtin.append_ #[T.s_alarm_entry,T.s_alarm_entry] T.s_alarm_entry #[.slice t30_p t30_l t30_c, .slice (some ⟨b,0,none⟩) 1 1]) h_4 fun v_2 h_5=>
    ∃(t33_p:Option Addr) (t33_l t33_c:Nat),v_2= .slice t33_p t33_l t33_c∧
    StoreP h_5 ⟨a,0,none⟩ (.slice t33_p t33_l t33_c) fun h_6=>
    ∃(t39_p:Option Addr) (t39_l t39_c:Nat),hcell h_6 ⟨a,0,none⟩=some (.slice t39_p t39_l t39_c)∧
    CallsH Tryz.prog F.alarm_Alarm_put #[.pointer (some ⟨a,0,none⟩), .int .i64 (IntKind.wrap .i64 (((t39_l:Nat):Int) - 1)), .agg #[.int .i64 key, .int .u64 t]] h_6 fun v_3 h_7=>
    v_3= .tuple #[]∧
    CallsH Tryz.prog F.alarm_Alarm_up #[.pointer (some ⟨a,0,none⟩), .int .i64 (IntKind.wrap .i64 (((t39_l:Nat):Int) - 1))] h_7 fun v_4 h_8=>
    v_4= .tuple #[]∧
    R (.int .i64 0) h_8):=by
  intro h1 e A1 f1
  refine⟨e,rfl, ?_⟩
  have kn:=dropK_keys L key
  have dl:=dropK_len L key
  obtain⟨p,cap,m,es,g,M,P,H,pm,so,gd,hS⟩:=A1
  have hlen:=pm.length_eq
  refine⟨_,_,_,M.hd, ?_⟩
  rintro b h4 rfl rfl
  have fp:Fr (fun _=>False) h1 (h1.push (.cells #[.int .i64 0, .int .u64 0] T.alarm_entry)):=Fr.push _ _
  have row:Row (h1.push (.cells #[.int .i64 0, .int .u64 0] T.alarm_entry)) (some ⟨h1.size,0,none⟩) (enc [(0,0)]):= .inr ⟨_,rfl,heldL_blk push_new fun j v hj=>by rw[Nat.zero_add];simpa[enc] using hj⟩
  have sz4:h1.size≤(h1.push (.cells #[.int .i64 0, .int .u64 0] T.alarm_entry)).size:=fp.1
  have M4:=M.calm fp
  refine den_append tE (eT:=T.alarm_entry) (by kernel_rfl) M4.own row rfl (enc_one _) (by omega) (by omega) fun p' cap' h5 o5 _ f5 gr=>⟨_,_,_,rfl, ?_⟩
  rw[←enc_append] at o5
  have b5:=f5.get M4.blk M.ne
  have ne': ¬inBlk p' a:=fun hc=>by
   rcases gr a hc with hx|hx
   ·exact M.ne hx
   ·have:=lt_of_get M4.blk;omega
  have pm': ¬inBlk p' m:=fun hc=>by
   rcases gr m hc with hx|hx
   ·exact M.pm hx
   ·have:=M4.map.lt;omega
  refine storeP_blk b5 (by simp) fun h6 c6 s6 k6=> ?_
  have f6:Fr (fun c=>c=a) h5 h6:=Fr.of_eq s6 k6
  have M6:Mem h6 a p' cap' m (es++ [(0,0)]) g:=by
   refine⟨?_, ?_,(M4.map.frame f5 M.pm).frame f6 (fun e=>M.am e.symm),ne'⟩
   ·rw[c6,List.length_append];rfl
   ·rw[List.length_append]
    exact o5.frame f6 (fun c hc e=>ne' (e▸hc))
  refine⟨_,_,_,M6.hd, ?_⟩
  have ew:IntKind.wrap .i64 ((((es++ [((0,0):E)]).length:Nat):Int) - 1)=(es.length:Int):=by
   rw[List.length_append,List.length_singleton,wrap_id (by omega) (by omega)];omega
  rw[ew]
  refine put_ok M6 (by rw[List.length_append,List.length_singleton];omega) fun h7 M7 f7=>⟨rfl, ?_⟩
  have es7:(es++ [((0,0):E)]).set es.length (key,t)=es++ [(key,t)]:=by
   rw[List.set_append_right _ _ (Nat.le_refl _)];simp
  rw[es7] at M7
  have kn':key∉keys es:=fun hx=>kn ((keys_perm pm).mem_iff.1 hx)
  have P7:=add_place (x:=(key,t)) P kn'
  obtain⟨ex,kd⟩:=add_both (x:=(key,t)) H
  have l7:(es++ [(key,t)]).length=es.length+1:=by simp
  rw[←l7] at ex kd
  refine up_ok M7 P7 (by omega) (by omega) ex fun h8 es8 g8 q M8 P8 pm8 l8 _ _ _ H8 f8=>⟨rfl, ?_⟩
  have H8:=H8 kd
  rw[←l8] at H8
  have gf: ∀c,foot a p' m c→S c∨h.size≤c:=by
   rintro c (rfl|rfl|hc)
   ·exact .inl ((hS _).2 (.inl rfl))
   ·exact .inl ((hS _).2 (.inr (.inl rfl)))
   ·rcases gr c hc with hx|hx
    ·exact .inl ((hS _).2 (.inr (.inr hx)))
    ·have:=f1.1;exact .inr (by omega)
  refine k1 h8 (foot a p' m) ⟨p',cap',m,es8,g8,M8,P8,H8, ?_,so.insert _ kn, ?_,fun _=>Iff.rfl⟩ gf ?_
  ·exact pm8.trans ((List.perm_append_singleton _ _).trans ((pm.cons _).trans (insertS_perm _ _).symm))
  ·intro e he
   rcases List.mem_cons.1 ((insertS_perm _ _).mem_iff.1 he) with rfl|hx
   ·exact⟨by simp only;omega,by simp only;omega,ht,by simp only;omega⟩
   ·exact gd e hx
  ·have in_S: ∀c,c<h1.size→foot a p' m c→S c:=fun c hc hx=>by
    rcases hx with rfl|rfl|hx
    ·exact(hS _).2 (.inl rfl)
    ·exact(hS _).2 (.inr (.inl rfl))
    ·rcases gr c hx with hy|hy
     ·exact(hS _).2 (.inr (.inr hy))
     ·omega
   have g1:Fr S h1 h5:=Fr.no fp (f5.mono fun c _ hc=>(hS c).2 (.inr (.inr hc)))
   have g2:Fr S h1 h6:=g1.trans f6 (fun _ _=>id) (fun c _ e=>(hS c).2 (.inl e))
   have g3:Fr S h1 h8:=g2.trans (Fr.tt f7 f8) (fun _ _=>id) (fun c hc hx=>in_S c hc (.inr hx))
   exact Fr.tt f1 g3
 refine drop_ok A0 (by omega) key (fun hm h1 A1 f1=>rest h1 0 A1 f1) (fun hm=> ?_)
 refine rest h 4 ?_ (Fr.refl _ _)
 rw[dropK_none hm]
 exact A0
end Alarm
end Go.Proofs.YtgccegnmggjkjaaGreatDoor
set_option maxRecDepth 100000
namespace Go.Proofs.YtgccegnmggjkjaaGreatDoor
open Go.Den Go.Heapq
namespace Alarm
variable {h : Heap} {a m cap : Nat} {p : Option Addr} {es : List E} {g : Int → Option Value} {R : Value → Heap → Prop} {S : Nat → Prop} {L : List E}
def isDue (now:Int) (e:E):Bool:=decide (e.2≤now)
def due (L:List E) (now:Int):List E:=L.takeWhile (isDue now)
def rest (L:List E) (now:Int):List E:=L.dropWhile (isDue now)
def kc (L:List E):List Value:=(keys L).map (.int .i64 ·)
theorem due_split {D T:List E} {now:Int} (hd: ∀e∈D,isDue now e=true) (ht: ∀e r,T=e::r→isDue now e=false):due (D++T) now=D∧rest (D++T) now=T:=by
 unfold due rest
 induction D with
 |nil=>
  cases T with
  |nil=>exact⟨rfl,rfl⟩
  |cons e r=>simp[List.takeWhile,List.dropWhile,ht e r rfl]
 |cons d D ih=>
  have h1:=hd d List.mem_cons_self
  obtain⟨i1,i2⟩:=ih fun e he=>hd e (List.mem_cons_of_mem _ he)
  simp only[List.cons_append,List.takeWhile_cons,List.dropWhile_cons,h1,if_true]
  exact⟨by rw[i1],i2⟩
def ringI (h0:Heap) (a:Nat) (S:Nat→Prop) (L:List E) (now:Int) (out:Option Addr) (l c:Nat) (key t:Int) (is:Bool) (h:Heap):Prop:=
 ∃D T,L=D++T∧(∀e∈D,isDue now e=true)∧Al h a S T∧key=(hd T).1∧t=(hd T).2∧is= !T.isEmpty∧l=D.length∧Own h out l c 1 (kc D)∧(∀x,inBlk out x→h0.size≤x)∧Fr S h0 h
theorem ring_ok (A:Al h a S L) (hn:L.length<999999) (now:Int)
  (hk: ∀h' p' cap',Al h' a S (rest L now)→Own h' p' (due L now).length cap' 1 (kc (due L now))→(∀c,inBlk p' c→h.size≤c)→Fr S h h'→R (.slice p' (due L now).length cap') h'):
  CallsH Tryz.prog F.alarm_Alarm_Ring #[.pointer (some ⟨a,0,none⟩), .int .u64 now] h R:=by
 refine alarm_Alarm_Ring.walk (next_ok A ⟨_,_,_,rfl, ?_⟩)
 refine⟨ringI h a S L now,fun _ l _ _ _ _ _=>L.length - l,⟨[],L,rfl,(fun _ he=>by cases he),A,rfl,rfl,rfl,rfl, .nil rfl rfl rfl rfl,(fun c ⟨_,e,_⟩=>by cases e),Fr.refl _ _⟩, ?_⟩
 rintro out l c key t is h2 ⟨D,U,eL,hD,A2,rfl,rfl,rfl,rfl,o2,ob,f2⟩
 refine JoinP.of fun J hJ=> ?_
 have stop:(∀e r,U=e::r→isDue now e=false)→J false h2:=fun ht=>by
  subst hJ
  simp only[Bool.false_eq_true,if_false]
  obtain⟨e1,e2⟩:=due_split hD ht
  rw[←eL] at e1 e2
  rw[←e1]
  rw[←e1] at o2
  exact hk h2 out c (by rw[e2];exact A2) o2 ob f2
 cases U with
 |nil=>exact stop (fun e r x=>by cases x)
 |cons e U=>
  simp only[List.isEmpty_cons,Bool.not_false,if_true]
  by_cases hdue:e.2≤now
  ·rw[show decide ((hd (e::U)).2≤now)=true from decide_eq_true hdue]
   subst hJ
   simp only[if_true]
   rintro b h4 rfl rfl
   have hlen:L.length=D.length+(U.length+1):=by rw[eL];simp
   have fp:Fr (fun _=>False) h2 (h2.push (.cells #[.int .i64 (hd (e::U)).1] T.int)):=Fr.push _ _
   have row:Row (h2.push (.cells #[.int .i64 (hd (e::U)).1] T.int)) (some ⟨h2.size,0,none⟩) (kc [e]):= .inr ⟨_,rfl,heldL_blk push_new fun j v hj=>by rw[Nat.zero_add];simpa[kc,keys,hd] using hj⟩
   have sz:h2.size≤(h2.push (.cells #[.int .i64 (hd (e::U)).1] T.int)).size:=fp.1
   refine den_append tI (eT:=T.int) (by kernel_rfl) (o2.frame fp fun _ _=>id) row rfl (fun v hv=>by simp[kc,keys] at hv;subst hv;rfl) (by omega) (by omega) fun p' cap' h5 o5 _ f5 gr=>⟨_,_,_,rfl, ?_⟩
   have ekc:kc D++kc [e]=kc (D++ [e]):=by simp[kc,keys]
   rw[ekc] at o5
   have hSlt: ∀ {c},S c→c<h.size:=fun hc=>A.lt hc
   have A5:=(A2.frame fp fun _ _=>id).frame f5 (fun c hc hx=>by have:=ob c hx;have:=hSlt hc;omega)
   have ob5: ∀c,inBlk p' c→h.size≤c:=fun c hc=>by
    rcases gr c hc with hx|hx
    ·exact ob c hx
    ·have:=f2.1;omega
   have f25:Fr S h h5:=f2.trans (Fr.no fp f5) (fun _ _=>id) (fun c hc hx=>by have:=ob c hx;omega)
   refine drop_ok A5 (by simp;omega) _ (fun _ h6 A6 f6=>⟨_,rfl, ?_⟩) (fun hno=>absurd (by exact List.mem_cons_self) hno)
   rw[show dropK (e::U) (hd (e::U)).1=U from dropK_head A5.nodup] at A6
   refine next_ok A6 ⟨_,_,_,rfl,⟨D++ [e],U,by rw[eL];simp, ?_,A6,rfl,rfl,rfl,by simp, ?_,ob5,Fr.tt f25 f6⟩, ?_⟩
   ·intro x hx
    rcases List.mem_append.1 hx with hx|hx
    ·exact hD x hx
    ·simp at hx;subst hx;exact decide_eq_true hdue
   ·exact o5.frame f6 fun c hc hx=>by have:=ob5 c hc;have:=hSlt hx;omega
   ·show L.length - (D.length+1)<L.length - D.length
    omega
  ·rw[show decide ((hd (e::U)).2≤now)=false from decide_eq_false hdue]
   exact stop fun e' r x=>by cases x;exact decide_eq_false hdue
end Alarm
end Go.Proofs.YtgccegnmggjkjaaGreatDoor
namespace Go.Den
section
variable {P : Program}
theorem den_grow {sT xT ty elem:TypeId} {sz bytes:Nat} {z:Value} {h:Heap} {n:Nat} {K:Value→Heap→Prop}
  (T:SlTy P sT elem sz bytes z) (hx:P.underlying xT=some (.int .i64)) (hn:0<n) (hb:n*bytes≤70368744177664) (hb2:n≤4611686018427387904)
  (hk: ∀cap' h',Own h' (some ⟨h.size,0,none⟩) 0 cap' sz []→n≤cap'→Fr (fun _=>False) h h'→K (.slice (some ⟨h.size,0,none⟩) n cap') h'):
  denSem P (Builtin.append_ #[sT,xT] ty #[.slice none 0 0, .int .i64 (n:Int)]) h K:=by
 obtain⟨i,hi,rfl,rfl,hz⟩:=T.i
 have hsz:=T.zs
 unfold Builtin.append_
 refine den_of_rd (s:=underlying sT) (rd_underlying T.u) ?_
 refine den_of_rd (s:=sizeOf elem) (rd_sizeOf hi) ?_
 refine den_of_rd (s:=underlying xT) (rd_underlying hx) ?_
 refine den_of_rd (s:=(pure true:Sem Bool)) (a:=true) rfl ?_
 have hw:IntKind.wrap .i64 (n:Int)=(n:Int):=wrap_id (by omega) (by omega)
 refine den_of_rd (s:=asInt (.int .i64 (n:Int))) (a:=(n:Int)) rfl ?_
 show denSem P (if IntKind.wrap .i64 (n:Int)<0 then _ else _) h K
 rw[if_neg (by rw[hw];omega)]
 refine den_of_rd (s:=typeInfo elem) (rd_typeInfo hi) ?_
 show denSem P (if IntKind.wrap .i64 (n:Int)*(i.bytes:Int)>2 ^ 48 then _ else _) h K
 have hbi:(n:Int)*(i.bytes:Int)=((n*i.bytes:Nat):Int):=by simp
 rw[if_neg (by rw[hw,hbi];omega)]
 refine den_of_rd (s:=(pure (IntKind.wrap .i64 (n:Int)).toNat:Sem Nat)) (a:=n) (by rw[hw];rfl) ?_
 show denSem P (if 0+n≤0 then _ else _) h K
 rw[if_neg (by omega)]
 refine den_of_rd (s:=typeInfo elem) (rd_typeInfo hi) ?_
 show denSem P (if(((0+n:Nat):Int)>IntKind.max .i64∧(true=true∨i.bytes=0)) then _ else _) h K
 have hmax:IntKind.max .i64=9223372036854775807:=rfl
 rw[if_neg (by rw[hmax];omega)]
 refine den_of_rd (s:=typeInfo elem) (rd_typeInfo hi) ?_
 have hle:=nextslicecap_le (need:=0+n) (cap:=0) (by omega)
 have hnext: ¬(Builtin.nextslicecap (0+n) 0*i.bytes>2 ^ 48):=by
  have h1:Builtin.nextslicecap (0+n) 0*i.bytes≤2*(0+n)*i.bytes:=Nat.mul_le_mul_right _ hle
  rw[Nat.mul_assoc,Nat.zero_add] at h1
  rw[Nat.zero_add]
  omega
 show denSem P (if Builtin.nextslicecap (0+n) 0*i.bytes>2 ^ 48 then _ else _) h K
 rw[if_neg hnext]
 show denSem P (choose (.appendCap (0+n) 0 elem)>>=_) h K
 rw[den_bind]
 unfold choose
 simp only[denSem,Question.forced,Bool.false_eq_true,if_false,Question.cut]
 intro tq
 refine den_of_rd (s:=typeInfo elem) (rd_typeInfo hi) ?_
 rw[den_bind]
 have hroom: ∀(m:Nat) (K':Unit→Heap→Prop),K' () h→denSem P (askRoom m) h K':=fun m K' hk'=>by
  unfold askRoom
  split
  ·exact hk'
  ·exact hk'
 refine hroom _ _ ?_
 refine den_of_rd (s:=Builtin.firstCells i.size 0 (.slice none 0 0)) (a:= #[]) (rd_firstCells (ds:= []) (.inl rfl) (by simp)) ?_
 have rz:=rd_zeroValue (h:=h) hi hz
 refine den_of_rd (a:=if n*i.size=0 then #[] else Builtin.zeroCells z.cells n) ?_ ?_
 ·show rd P (if n*i.size=0 then pure #[] else _) h=_
  by_cases hz0:n*i.size=0
  ·rw[if_pos hz0,if_pos hz0];rfl
  ·rw[if_neg hz0,if_neg hz0,rd_bind _ _ _ _ rz];rfl
 refine den_of_rd (s:=zeroValue elem) (rd_zeroValue hi hz) ?_
 generalize hcap':0+n+tq%(2 ^ 63 - (0+n))=cap'
 have hge:n≤cap':=by omega
 have h1: ∀m,(Builtin.zeroCells z.cells m).size=m*i.size:=fun m=>by simp[Builtin.zeroCells,hsz]
 show K (.slice (some ⟨h.size,0,none⟩) (0+n) cap') (h.push (.cells (#[]++(if n*i.size=0 then #[] else Builtin.zeroCells z.cells n)++Builtin.zeroCells z.cells (cap' - (0+n))) elem))
 rw[Nat.zero_add]
 refine hk cap' _ (.row h.size 0 _ elem rfl push_new (Nat.zero_le _) ?_ (by simp) (fun j v hj=>by cases hj)) hge (Fr.push _ _)
 rw[Array.size_append,h1]
 have:(#[]++(if n*i.size=0 then #[] else Builtin.zeroCells z.cells n):Array Value).size=n*i.size:=by
  by_cases hz0:n*i.size=0
  ·rw[if_pos hz0,hz0];rfl
  ·rw[if_neg hz0,Array.size_append,h1];simp
 rw[this,←Nat.add_mul,Nat.zero_add,show n+(cap' - n)=cap' by omega]
 omega
end
end Go.Den
set_option maxRecDepth 100000
set_option maxHeartbeats 4000000
namespace Go.Proofs.YtgccegnmggjkjaaGreatDoor
open Go.Den
variable {h : Heap} {R : Value → Heap → Prop}
theorem outbox_New.walk  (hv :
 Cl F.alarm_New #[] h fun v h_1 =>
 ∃ t1, v = .pointer t1 ∧
 NewP h_1 (.cells #[.slice none 0 0, .int .i64 1, .int .i64 0, .int .i64 0, .int .i64 0, .pointer t1] T.outbox_Box) fun b h_2 =>
 R (.pointer (some ⟨b, 0, none⟩)) h_2) : CallsH Tryz.prog F.outbox_New #[] h R :=
 callsH_of_body (.seq .leaf (.seq .leaf .leaf)) Tryz.func107 rfl rfl (Eq.mp (by kernel_rfl) hv)
theorem outbox_Box_made.walk {b : Nat} (hv :
 ∃ t9, hcell h ⟨b, 5, none⟩ = some (.pointer t9) ∧
 R (.bool (!t9.isNone)) h) : CallsH Tryz.prog F.outbox_Box_made #[.pointer (some ⟨b, 0, none⟩)] h R :=
 callsH_of_body (.seq .leaf (.seq .leaf .leaf)) Tryz.func136 rfl rfl (Eq.mp (by kernel_rfl) hv)
theorem outbox_copied.walk {x_0 : Int} {x_1 : Int} {x_2_p : Option Addr} {x_2_l x_2_c : Nat} {x_3 : Int} (hv :
 NewP h (.cells #[.int .i64 x_0, .int .i64 x_1, .slice x_2_p x_2_l x_2_c, .int .u64 x_3] T.outbox_Item) fun b h_1 =>
 NewP h_1 (.cells #[.int .i64 0, .int .i64 0, .slice none 0 0, .int .u64 0] T.outbox_Item) fun b_1 h_2 =>
 ∃ t4_p t4_l t4_c, hcell h_2 ⟨b, 2, none⟩ = some (.slice t4_p t4_l t4_c) ∧
 Cl F.slices_Clone_s_byte_byte #[.slice t4_p t4_l t4_c] h_2 fun v h_3 =>
 ∃ t5_p t5_l t5_c, v = .slice t5_p t5_l t5_c ∧
 StoreP h_3 ⟨b, 2, none⟩ (.slice t5_p t5_l t5_c) fun h_4 =>
 outbox_Item.LD h_4 ⟨b, 0, none⟩ fun t7_0 t7_1 t7_2_p t7_2_l t7_2_c t7_3 =>
 outbox_Item.ST h_4 ⟨b_1, 0, none⟩ t7_0 t7_1 t7_2_p t7_2_l t7_2_c t7_3 fun h_5 =>
 outbox_Item.LD h_5 ⟨b_1, 0, none⟩ fun r_0 r_1 r_2_p r_2_l r_2_c r_3 =>
 R (.agg #[.int .i64 r_0, .int .i64 r_1, .slice r_2_p r_2_l r_2_c, .int .u64 r_3]) h_5) : CallsH Tryz.prog F.outbox_copied #[.agg #[.int .i64 x_0, .int .i64 x_1, .slice x_2_p x_2_l x_2_c, .int .u64 x_3]] h R :=
 callsH_of_body (.seq .leaf (.seq .leaf (.seq .leaf .leaf))) Tryz.func171 rfl rfl (Eq.mp (by kernel_rfl) hv)
theorem outbox_right.walk {x_0 : Int} {x_1 : Int} {x_2_p : Option Addr} {x_2_l x_2_c : Nat} {x_3 : Int} (hv :
 NewP h (.cells #[.int .i64 x_0, .int .i64 x_1, .slice x_2_p x_2_l x_2_c, .int .u64 x_3] T.outbox_Item) fun b h_1 =>
 ∃ t4, hcell h_1 ⟨b, 1, none⟩ = some (.int .i64 t4) ∧
 if (decide (t4 ≥ 1)) = true then
 ∃ t8, hcell h_1 ⟨b, 1, none⟩ = some (.int .i64 t8) ∧
 if (decide (t8 ≤ 1099511627776)) = true then
 ∃ t13_p t13_l t13_c, hcell h_1 ⟨b, 2, none⟩ = some (.slice t13_p t13_l t13_c) ∧
 if (decide (((t13_l : Nat) : Int) ≥ 1)) = true then
 ∃ t19_p t19_l t19_c, hcell h_1 ⟨b, 2, none⟩ = some (.slice t19_p t19_l t19_c) ∧
 if (decide (((t19_l : Nat) : Int) ≤ 600)) = true then
 ∃ t25, hcell h_1 ⟨b, 3, none⟩ = some (.int .u64 t25) ∧
 R (.bool (decide (t25 ≤ 1099511627776))) h_1
 else
 R (.bool false) h_1
 else
 R (.bool false) h_1
 else
 R (.bool false) h_1
 else
 R (.bool false) h_1) : CallsH Tryz.prog F.outbox_right #[.agg #[.int .i64 x_0, .int .i64 x_1, .slice x_2_p x_2_l x_2_c, .int .u64 x_3]] h R :=
 callsH_of_body (.seq .leaf (.seq .leaf .leaf)) Tryz.func173 rfl rfl (Eq.mp (by kernel_rfl) hv)
theorem outbox_Box_find.walk {b : Nat} {num : Int} (hv :
 NewP h (.cells #[.int .i64 num] T.int) fun b_1 h_1 =>
 ∃ t8_p t8_l t8_c, hcell h_1 ⟨b, 0, none⟩ = some (.slice t8_p t8_l t8_c) ∧
 Cl F.slices_IndexFunc_s_outbox_Item_outbox_Item #[.slice t8_p t8_l t8_c, .func (.func F.outbox_Box_find_1) #[] #[.pointer (some ⟨b_1, 0, none⟩)]] h_1 fun v h_2 =>
 ∃ t10, v = .int .i64 t10 ∧
 R (.int .i64 t10) h_2) : CallsH Tryz.prog F.outbox_Box_find #[.pointer (some ⟨b, 0, none⟩), .int .i64 num] h R :=
 callsH_of_body (.seq .leaf (.seq .leaf .leaf)) Tryz.func175 rfl rfl (Eq.mp (by kernel_rfl) hv)
theorem outbox_Box_find_1.walk {x_0 : Int} {x_1 : Int} {x_2_p : Option Addr} {x_2_l x_2_c : Nat} {x_3 : Int} {c0 : Nat} (hv :
 NewP h (.cells #[.int .i64 x_0, .int .i64 x_1, .slice x_2_p x_2_l x_2_c, .int .u64 x_3] T.outbox_Item) fun b h_1 =>
 ∃ t5, hcell h_1 ⟨b, 0, none⟩ = some (.int .i64 t5) ∧
 ∃ t6, hcell h_1 ⟨c0, 0, none⟩ = some (.int .i64 t6) ∧
 R (.bool (t5 == t6)) h_1) : CallsH Tryz.prog F.outbox_Box_find_1 #[.agg #[.int .i64 x_0, .int .i64 x_1, .slice x_2_p x_2_l x_2_c, .int .u64 x_3], .pointer (some ⟨c0, 0, none⟩)] h R :=
 callsH_of_body (.seq .leaf (.seq .leaf .leaf)) Tryz.func200 rfl rfl (Eq.mp (by kernel_rfl) hv)
theorem outbox_Box_cut.walk {b : Nat} {i : Int} (hv :
 NewP h (.cells #[.int .i64 0, .int .i64 0, .slice none 0 0, .int .u64 0] T.outbox_Item) fun b_1 h_1 =>
 ∃ t9_p t9_l t9_c, hcell h_1 ⟨b, 0, none⟩ = some (.slice t9_p t9_l t9_c) ∧
 ((0 : Int) ≤ i ∧ i < ((t9_l : Nat) : Int)) ∧
 onSome t9_p fun a =>
 outbox_Item.LD h_1 (a.add (Int.toNat i * 4)) fun t12_0 t12_1 t12_2_p t12_2_l t12_2_c t12_3 =>
 NewP h_1 (.cells #[.int .i64 0, .int .i64 0, .slice none 0 0, .int .u64 0] T.outbox_Item) fun b_2 h_2 =>
 outbox_Item.ST h_2 ⟨b_2, 0, none⟩ t12_0 t12_1 t12_2_p t12_2_l t12_2_c t12_3 fun h_3 =>
 ∃ t16, hcell h_3 ⟨b, 5, none⟩ = some (.pointer t16) ∧
 ∃ t18, hcell h_3 ⟨b_2, 0, none⟩ = some (.int .i64 t18) ∧
 Cl F.alarm_Alarm_Drop #[.pointer t16, .int .i64 t18] h_3 fun v h_4 =>
 ∃ t19, v = .int .i64 t19 ∧
 ∃ t24_p t24_l t24_c, hcell h_4 ⟨b, 0, none⟩ = some (.slice t24_p t24_l t24_c) ∧
 ((0 : Int) ≤ i ∧ i ≤ ((t24_c : Nat) : Int)) ∧
 ∃ t30_p t30_l t30_c, hcell h_4 ⟨b, 0, none⟩ = some (.slice t30_p t30_l t30_c) ∧
 ((0 : Int) ≤ IntKind.wrap .i64 (i + 1) ∧ IntKind.wrap .i64 (i + 1) ≤ ((t30_l : Nat) : Int)) ∧
 NewP h_4 (.cells #[.slice (slBase t24_p t24_c 0 4) ((Int.toNat i) - 0) (t24_c - 0), .slice (slBase t30_p t30_c (Int.toNat (IntKind.wrap .i64 (i + 1))) 4) (t30_l - (Int.toNat (IntKind.wrap .i64 (i + 1)))) (t30_c - (Int.toNat (IntKind.wrap .i64 (i + 1))))] T.s_outbox_Item) fun b_3 h_5 =>
 hcell h_5 ⟨b, 0, none⟩ = some (.slice t30_p t30_l t30_c) ∧
 hcell h_5 ⟨b, 0, none⟩ = some (.slice t24_p t24_l t24_c) ∧
 Cl F.slices_Concat_s_outbox_Item_outbox_Item #[.slice (some ⟨b_3, 0, none⟩) 2 2] h_5 fun v_1 h_6 =>
 ∃ t35_p t35_l t35_c, v_1 = .slice t35_p t35_l t35_c ∧
 hcell h_6 ⟨b, 0, none⟩ = some (.slice t30_p t30_l t30_c) ∧
 hcell h_6 ⟨b, 0, none⟩ = some (.slice t24_p t24_l t24_c) ∧
 StoreP h_6 ⟨b, 0, none⟩ (.slice t35_p t35_l t35_c) fun h_7 =>
 outbox_Item.LD h_7 ⟨b_2, 0, none⟩ fun t38_0 t38_1 t38_2_p t38_2_l t38_2_c t38_3 =>
 outbox_Item.ST h_7 ⟨b_1, 0, none⟩ t38_0 t38_1 t38_2_p t38_2_l t38_2_c t38_3 fun h_8 =>
 outbox_Item.LD h_8 ⟨b_1, 0, none⟩ fun r_0 r_1 r_2_p r_2_l r_2_c r_3 =>
 R (.agg #[.int .i64 r_0, .int .i64 r_1, .slice r_2_p r_2_l r_2_c, .int .u64 r_3]) h_8) : CallsH Tryz.prog F.outbox_Box_cut #[.pointer (some ⟨b, 0, none⟩), .int .i64 i] h R :=
 callsH_of_body (.seq .leaf (.seq .leaf (.seq (.plan (.op 0 (.op 1 (.op 2 (.op 3 (.op 4 (.op 5 (.op 6 .done)))))))) (.seq (.plan (.op 0 (.op 1 (.op 2 (.op 3 (.op 4 (.op 5 (.op 6 (.op 7 (.op 8 (.op 9 (.op 10 (.op 11 (.op 12 (.op 13 (.op 14 (.op 15 (.op 16 (.op 17 (.op 18 .done)))))))))))))))))))) (.seq .leaf .leaf))))) Tryz.func174 rfl rfl (Eq.mp (by kernel_rfl) hv)
theorem outbox_Box_All.walk {b : Nat} (hv :
 Cl F.outbox_Box_made #[.pointer (some ⟨b, 0, none⟩)] h fun v h_1 =>
 ∃ t7, v = .bool t7 ∧
 JoinP (fun (out_p : Option Addr) (out_l out_c : Nat) (h_2 : Heap) =>
 R (.slice out_p out_l out_c) h_2)
 (fun J =>
 if t7 = true then
 ∃ t11_p t11_l t11_c, hcell h_1 ⟨b, 0, none⟩ = some (.slice t11_p t11_l t11_c) ∧
 ∃ (I : Option Addr → Nat → Nat → Int → Heap → Prop) (mu : Option Addr → Nat → Nat → Int → Heap → Nat), I none 0 0 0 h_1 ∧ ∀ (out_p_1 : Option Addr) (out_l_1 out_c_1 : Nat) (t13 : Int) (h_3 : Heap), I out_p_1 out_l_1 out_c_1 t13 h_3 →
 if (decide (t13 < ((t11_l : Nat) : Int))) = true then
 ((0 : Int) ≤ t13 ∧ t13 < ((t11_l : Nat) : Int)) ∧
 onSome t11_p fun a =>
 outbox_Item.LD h_3 (a.add (Int.toNat t13 * 4)) fun t16_0 t16_1 t16_2_p t16_2_l t16_2_c t16_3 =>
 NewP h_3 (.cells #[.int .i64 0, .int .i64 0, .slice none 0 0, .int .u64 0] T.outbox_Item) fun b_1 h_4 =>
 outbox_Item.ST h_4 ⟨b_1, 0, none⟩ t16_0 t16_1 t16_2_p t16_2_l t16_2_c t16_3 fun h_5 =>
 outbox_Item.LD h_5 ⟨b_1, 0, none⟩ fun t18_0 t18_1 t18_2_p t18_2_l t18_2_c t18_3 =>
 Cl F.outbox_copied #[.agg #[.int .i64 t18_0, .int .i64 t18_1, .slice t18_2_p t18_2_l t18_2_c, .int .u64 t18_3]] h_5 fun v_1 h_6 =>
 ∃ t19_0 t19_1 t19_2_p t19_2_l t19_2_c t19_3, v_1 = .agg #[.int .i64 t19_0, .int .i64 t19_1, .slice t19_2_p t19_2_l t19_2_c, .int .u64 t19_3] ∧
 NewP h_6 (.cells #[.int .i64 t19_0, .int .i64 t19_1, .slice t19_2_p t19_2_l t19_2_c, .int .u64 t19_3] T.outbox_Item) fun b_2 h_7 =>
 denSem Tryz.prog (Builtin.append_ #[T.s_outbox_Item, T.s_outbox_Item] T.s_outbox_Item #[.slice out_p_1 out_l_1 out_c_1, .slice (some ⟨b_2, 0, none⟩) 1 1]) h_7 fun v_2 h_8 =>
 ∃ t21_p t21_l t21_c, v_2 = .slice t21_p t21_l t21_c ∧
 (I t21_p t21_l t21_c (IntKind.wrap .i64 (t13 + 1)) h_8 ∧ mu t21_p t21_l t21_c (IntKind.wrap .i64 (t13 + 1)) h_8 < mu out_p_1 out_l_1 out_c_1 t13 h_3)
 else
 J out_p_1 out_l_1 out_c_1 h_3
 else
 J none 0 0 h_1)) : CallsH Tryz.prog F.outbox_Box_All #[.pointer (some ⟨b, 0, none⟩)] h R :=
 callsH_of_body (.seq .leaf (.seq .leaf (.seq (.seq .leaf (.join [(3, .one (.slice))] (.cond (.seq .leaf (.block (.loop [(3, .one (.slice)), (13, .one (.int .i64))] (.seq .leaf (.seq (.cond .leaf .leaf) (.seq (.block (.seq .leaf .leaf)) .leaf)))))) .leaf))) (.seq .leaf .leaf)))) Tryz.func119 rfl rfl (Eq.mp (by kernel_rfl) hv)
theorem outbox_Box_Add.walk {b : Nat} {owner : Int} {data_p : Option Addr} {data_l data_c : Nat} {v_until : Int} (hv :
 Cl F.outbox_Box_made #[.pointer (some ⟨b, 0, none⟩)] h fun v h_1 =>
 ∃ t12, v = .bool t12 ∧
 if (!t12) = true then
 R (.tuple #[.int .i64 0, .int .i64 6]) h_1
 else
 ∃ t17, hcell h_1 ⟨b, 1, none⟩ = some (.int .i64 t17) ∧
 Cl F.outbox_copied #[.agg #[.int .i64 t17, .int .i64 owner, .slice data_p data_l data_c, .int .u64 v_until]] h_1 fun v_1 h_2 =>
 ∃ t22_0 t22_1 t22_2_p t22_2_l t22_2_c t22_3, v_1 = .agg #[.int .i64 t22_0, .int .i64 t22_1, .slice t22_2_p t22_2_l t22_2_c, .int .u64 t22_3] ∧
 NewP h_2 (.cells #[.int .i64 0, .int .i64 0, .slice none 0 0, .int .u64 0] T.outbox_Item) fun b_1 h_3 =>
 outbox_Item.ST h_3 ⟨b_1, 0, none⟩ t22_0 t22_1 t22_2_p t22_2_l t22_2_c t22_3 fun h_4 =>
 outbox_Item.LD h_4 ⟨b_1, 0, none⟩ fun t24_0 t24_1 t24_2_p t24_2_l t24_2_c t24_3 =>
 Cl F.outbox_right #[.agg #[.int .i64 t24_0, .int .i64 t24_1, .slice t24_2_p t24_2_l t24_2_c, .int .u64 t24_3]] h_4 fun v_2 h_5 =>
 ∃ t25, v_2 = .bool t25 ∧
 if (!t25) = true then
 R (.tuple #[.int .i64 0, .int .i64 1]) h_5
 else
 ∃ t31_p t31_l t31_c, hcell h_5 ⟨b, 0, none⟩ = some (.slice t31_p t31_l t31_c) ∧
 if (decide (((t31_l : Nat) : Int) ≥ 16)) = true then
 R (.tuple #[.int .i64 0, .int .i64 15]) h_5
 else
 ∃ t38_p t38_l t38_c, hcell h_5 ⟨b, 0, none⟩ = some (.slice t38_p t38_l t38_c) ∧
 outbox_Item.LD h_5 ⟨b_1, 0, none⟩ fun t39_0 t39_1 t39_2_p t39_2_l t39_2_c t39_3 =>
 NewP h_5 (.cells #[.int .i64 t39_0, .int .i64 t39_1, .slice t39_2_p t39_2_l t39_2_c, .int .u64 t39_3] T.outbox_Item) fun b_2 h_6 =>
 hcell h_6 ⟨b, 0, none⟩ = some (.slice t38_p t38_l t38_c) ∧
 denSem Tryz.prog (Builtin.append_ #[T.s_outbox_Item, T.s_outbox_Item] T.s_outbox_Item #[.slice t38_p t38_l t38_c, .slice (some ⟨b_2, 0, none⟩) 1 1]) h_6 fun v_3 h_7 =>
 ∃ t41_p t41_l t41_c, v_3 = .slice t41_p t41_l t41_c ∧
 StoreP h_7 ⟨b, 0, none⟩ (.slice t41_p t41_l t41_c) fun h_8 =>
 ∃ t47, hcell h_8 ⟨b, 1, none⟩ = some (.int .i64 t47) ∧
 StoreP h_8 ⟨b, 1, none⟩ (.int .i64 (IntKind.wrap .i64 (t47 + 1))) fun h_9 =>
 ∃ t54, hcell h_9 ⟨b, 5, none⟩ = some (.pointer t54) ∧
 ∃ t56, hcell h_9 ⟨b_1, 0, none⟩ = some (.int .i64 t56) ∧
 Cl F.alarm_Alarm_Set #[.pointer t54, .int .i64 t56, .int .u64 v_until] h_9 fun v_4 h_10 =>
 ∃ t58, v_4 = .int .i64 t58 ∧
 ∃ t60, hcell h_10 ⟨b_1, 0, none⟩ = some (.int .i64 t60) ∧
 R (.tuple #[.int .i64 t60, .int .i64 0]) h_10) : CallsH Tryz.prog F.outbox_Box_Add #[.pointer (some ⟨b, 0, none⟩), .int .i64 owner, .slice data_p data_l data_c, .int .u64 v_until] h R :=
 callsH_of_body (.seq .leaf (.seq (.seq .leaf (.cond (.seq .leaf .leaf) .leaf)) (.seq .leaf (.seq (.block (.seq .leaf (.cond (.seq .leaf .leaf) (.seq .leaf (.cond (.seq .leaf .leaf) .leaf))))) (.seq (.plan (.op 0 (.op 1 (.op 2 (.op 3 (.op 4 (.op 5 (.op 6 (.op 7 (.op 8 (.op 9 (.op 10 .done)))))))))))) (.seq .leaf (.seq (.plan (.op 0 (.op 1 (.op 2 (.op 3 (.op 4 (.op 5 (.op 6 (.op 7 .done))))))))) (.seq .leaf .leaf)))))))) Tryz.func121 rfl rfl (Eq.mp (by kernel_rfl) hv)
theorem outbox_Box_Cancel.walk {b : Nat} {num : Int} {owner : Int} (hv :
 Cl F.outbox_Box_made #[.pointer (some ⟨b, 0, none⟩)] h fun v h_1 =>
 ∃ t9, v = .bool t9 ∧
 if (!t9) = true then
 R (.int .i64 6) h_1
 else
 Cl F.outbox_Box_find #[.pointer (some ⟨b, 0, none⟩), .int .i64 num] h_1 fun v_1 h_2 =>
 ∃ t13, v_1 = .int .i64 t13 ∧
 if (decide (t13 < 0)) = true then
 R (.int .i64 4) h_2
 else
 ∃ t21_p t21_l t21_c, hcell h_2 ⟨b, 0, none⟩ = some (.slice t21_p t21_l t21_c) ∧
 ((0 : Int) ≤ t13 ∧ t13 < ((t21_l : Nat) : Int)) ∧
 onSome t21_p fun a =>
 ∃ t25, hcell h_2 ((a.add (Int.toNat t13 * 4)).add 1) = some (.int .i64 t25) ∧
 if (t25 != owner) = true then
 R (.int .i64 13) h_2
 else
 Cl F.outbox_Box_cut #[.pointer (some ⟨b, 0, none⟩), .int .i64 t13] h_2 fun v_2 h_3 =>
 ∃ t30_0 t30_1 t30_2_p t30_2_l t30_2_c t30_3, v_2 = .agg #[.int .i64 t30_0, .int .i64 t30_1, .slice t30_2_p t30_2_l t30_2_c, .int .u64 t30_3] ∧
 ∃ t34, hcell h_3 ⟨b, 3, none⟩ = some (.int .i64 t34) ∧
 StoreP h_3 ⟨b, 3, none⟩ (.int .i64 (IntKind.wrap .i64 (t34 + 1))) fun h_4 =>
 R (.int .i64 0) h_4) : CallsH Tryz.prog F.outbox_Box_Cancel #[.pointer (some ⟨b, 0, none⟩), .int .i64 num, .int .i64 owner] h R :=
 callsH_of_body (.seq .leaf (.seq (.seq .leaf (.cond (.seq .leaf .leaf) .leaf)) (.seq .leaf (.seq (.block (.seq .leaf (.cond (.seq .leaf .leaf) (.seq .leaf (.cond (.seq .leaf .leaf) .leaf))))) (.seq .leaf (.seq .leaf (.seq .leaf .leaf))))))) Tryz.func126 rfl rfl (Eq.mp (by kernel_rfl) hv)
theorem outbox_Box_Take.walk {b : Nat} (hv :
 NewP h (.cells #[.int .i64 0, .int .i64 0, .slice none 0 0, .int .u64 0] T.outbox_Item) fun b_1 h_1 =>
 Cl F.outbox_Box_made #[.pointer (some ⟨b, 0, none⟩)] h_1 fun v h_2 =>
 ∃ t6, v = .bool t6 ∧
 if (!t6) = true then
 outbox_Item.ST h_2 ⟨b_1, 0, none⟩ 0 0 none 0 0 0 fun h_3 =>
 outbox_Item.LD h_3 ⟨b_1, 0, none⟩ fun r_0 r_1 r_2_p r_2_l r_2_c r_3 =>
 R (.tuple #[.agg #[.int .i64 r_0, .int .i64 r_1, .slice r_2_p r_2_l r_2_c, .int .u64 r_3], .int .i64 6]) h_3
 else
 ∃ t13_p t13_l t13_c, hcell h_2 ⟨b, 0, none⟩ = some (.slice t13_p t13_l t13_c) ∧
 if (((t13_l : Nat) : Int) == 0) = true then
 outbox_Item.ST h_2 ⟨b_1, 0, none⟩ 0 0 none 0 0 0 fun h_4 =>
 outbox_Item.LD h_4 ⟨b_1, 0, none⟩ fun r_0_1 r_1_1 r_2_p_1 r_2_l_1 r_2_c_1 r_3_1 =>
 R (.tuple #[.agg #[.int .i64 r_0_1, .int .i64 r_1_1, .slice r_2_p_1 r_2_l_1 r_2_c_1, .int .u64 r_3_1], .int .i64 4]) h_4
 else
 ∃ t20, hcell h_2 ⟨b, 2, none⟩ = some (.int .i64 t20) ∧
 StoreP h_2 ⟨b, 2, none⟩ (.int .i64 (IntKind.wrap .i64 (t20 + 1))) fun h_5 =>
 Cl F.outbox_Box_cut #[.pointer (some ⟨b, 0, none⟩), .int .i64 0] h_5 fun v_1 h_6 =>
 ∃ t25_0 t25_1 t25_2_p t25_2_l t25_2_c t25_3, v_1 = .agg #[.int .i64 t25_0, .int .i64 t25_1, .slice t25_2_p t25_2_l t25_2_c, .int .u64 t25_3] ∧
 outbox_Item.ST h_6 ⟨b_1, 0, none⟩ t25_0 t25_1 t25_2_p t25_2_l t25_2_c t25_3 fun h_7 =>
 outbox_Item.LD h_7 ⟨b_1, 0, none⟩ fun r_0_2 r_1_2 r_2_p_2 r_2_l_2 r_2_c_2 r_3_2 =>
 R (.tuple #[.agg #[.int .i64 r_0_2, .int .i64 r_1_2, .slice r_2_p_2 r_2_l_2 r_2_c_2, .int .u64 r_3_2], .int .i64 0]) h_7) : CallsH Tryz.prog F.outbox_Box_Take #[.pointer (some ⟨b, 0, none⟩)] h R :=
 callsH_of_body (.seq .leaf (.seq (.block (.seq .leaf (.cond (.seq .leaf .leaf) (.seq .leaf (.cond (.seq .leaf .leaf) .leaf))))) (.seq .leaf (.seq .leaf .leaf)))) Tryz.func123 rfl rfl (Eq.mp (by kernel_rfl) hv)
theorem outbox_Box_Pass.walk {b : Nat} {now : Int} (hv :
 Cl F.outbox_Box_made #[.pointer (some ⟨b, 0, none⟩)] h fun v h_1 =>
 ∃ t9, v = .bool t9 ∧
 JoinP (fun (out_p : Option Addr) (out_l out_c : Nat) (h_2 : Heap) =>
 R (.slice out_p out_l out_c) h_2)
 (fun J =>
 if t9 = true then
 ∃ t13, hcell h_1 ⟨b, 5, none⟩ = some (.pointer t13) ∧
 Cl F.alarm_Alarm_Ring #[.pointer t13, .int .u64 now] h_1 fun v_1 h_3 =>
 ∃ t15_p t15_l t15_c, v_1 = .slice t15_p t15_l t15_c ∧
 ∃ (I : Option Addr → Nat → Nat → Int → Heap → Prop) (mu : Option Addr → Nat → Nat → Int → Heap → Nat), I none 0 0 0 h_3 ∧ ∀ (out_p_1 : Option Addr) (out_l_1 out_c_1 : Nat) (t17 : Int) (h_4 : Heap), I out_p_1 out_l_1 out_c_1 t17 h_4 →
 if (decide (t17 < ((t15_l : Nat) : Int))) = true then
 ((0 : Int) ≤ t17 ∧ t17 < ((t15_l : Nat) : Int)) ∧
 onSome t15_p fun a =>
 ∃ t20, hcell h_4 (a.add (Int.toNat t17 * 1)) = some (.int .i64 t20) ∧
 Cl F.outbox_Box_find #[.pointer (some ⟨b, 0, none⟩), .int .i64 t20] h_4 fun v_2 h_5 =>
 ∃ t25, v_2 = .int .i64 t25 ∧
 Cl F.outbox_Box_cut #[.pointer (some ⟨b, 0, none⟩), .int .i64 t25] h_5 fun v_3 h_6 =>
 ∃ t26_0 t26_1 t26_2_p t26_2_l t26_2_c t26_3, v_3 = .agg #[.int .i64 t26_0, .int .i64 t26_1, .slice t26_2_p t26_2_l t26_2_c, .int .u64 t26_3] ∧
 NewP h_6 (.cells #[.int .i64 t26_0, .int .i64 t26_1, .slice t26_2_p t26_2_l t26_2_c, .int .u64 t26_3] T.outbox_Item) fun b_1 h_7 =>
 denSem Tryz.prog (Builtin.append_ #[T.s_outbox_Item, T.s_outbox_Item] T.s_outbox_Item #[.slice out_p_1 out_l_1 out_c_1, .slice (some ⟨b_1, 0, none⟩) 1 1]) h_7 fun v_4 h_8 =>
 ∃ t28_p t28_l t28_c, v_4 = .slice t28_p t28_l t28_c ∧
 ∃ t32, hcell h_8 ⟨b, 4, none⟩ = some (.int .i64 t32) ∧
 StoreP h_8 ⟨b, 4, none⟩ (.int .i64 (IntKind.wrap .i64 (t32 + 1))) fun h_9 =>
 (I t28_p t28_l t28_c (IntKind.wrap .i64 (t17 + 1)) h_9 ∧ mu t28_p t28_l t28_c (IntKind.wrap .i64 (t17 + 1)) h_9 < mu out_p_1 out_l_1 out_c_1 t17 h_4)
 else
 J out_p_1 out_l_1 out_c_1 h_4
 else
 J none 0 0 h_1)) : CallsH Tryz.prog F.outbox_Box_Pass #[.pointer (some ⟨b, 0, none⟩), .int .u64 now] h R :=
 callsH_of_body (.seq .leaf (.seq .leaf (.seq (.seq .leaf (.join [(5, .one (.slice))] (.cond (.seq .leaf (.block (.loop [(5, .one (.slice)), (17, .one (.int .i64))] (.seq .leaf (.seq (.cond .leaf .leaf) (.seq (.block (.seq .leaf (.seq .leaf .leaf))) .leaf)))))) .leaf))) (.seq .leaf .leaf)))) Tryz.func125 rfl rfl (Eq.mp (by kernel_rfl) hv)
end Go.Proofs.YtgccegnmggjkjaaGreatDoor
set_option maxRecDepth 100000
set_option maxHeartbeats 4000000
namespace Go.Proofs.YtgccegnmggjkjaaGreatDoor
open Go.Den
variable {h : Heap} {R : Value → Heap → Prop}
theorem slices_IndexFunc_s_outbox_Item_outbox_Item.find.walk {s_p : Option Addr} {s_l s_c : Nat} {f_c : Nat} (hv :
 ∃ (I : Int → Heap → Prop) (mu : Int → Heap → Nat), I 0 h ∧ ∀ (t8 : Int) (h_1 : Heap), I t8 h_1 →
 if (decide (t8 < ((s_l : Nat) : Int))) = true then
 ((0 : Int) ≤ t8 ∧ t8 < ((s_l : Nat) : Int)) ∧
 onSome s_p fun a =>
 outbox_Item.LD h_1 (a.add (Int.toNat t8 * 4)) fun t15_0 t15_1 t15_2_p t15_2_l t15_2_c t15_3 =>
 Cl F.outbox_Box_find_1 #[.agg #[.int .i64 t15_0, .int .i64 t15_1, .slice t15_2_p t15_2_l t15_2_c, .int .u64 t15_3], .pointer (some ⟨f_c, 0, none⟩)] h_1 fun v h_2 =>
 ∃ t16, v = .bool t16 ∧
 if t16 = true then
 R (.int .i64 t8) h_2
 else
 (I (IntKind.wrap .i64 (t8 + 1)) h_2 ∧ mu (IntKind.wrap .i64 (t8 + 1)) h_2 < mu t8 h_1)
 else
 R (.int .i64 (-1)) h_1) : CallsH Tryz.prog F.slices_IndexFunc_s_outbox_Item_outbox_Item #[.slice s_p s_l s_c, .func (.func F.outbox_Box_find_1) #[] #[.pointer (some ⟨f_c, 0, none⟩)]] h R :=
 callsH_of_body (.seq .leaf (.seq (.seq .leaf (.block (.loop [(8, .one (.int .i64))] (.seq .leaf (.seq (.cond .leaf .leaf) (.seq (.block (.seq .leaf (.seq .leaf (.cond (.seq .leaf .leaf) .leaf)))) .leaf)))))) (.seq .leaf .leaf))) Tryz.func127 rfl rfl (Eq.mp (by kernel_rfl) hv)
theorem slices_Concat_s_outbox_Item_outbox_Item.walk {slices_p : Option Addr} {slices_l slices_c : Nat} (hv :
 ∃ (I : Int → Int → Heap → Prop) (mu : Int → Int → Heap → Nat), I 0 0 h ∧ ∀ (size : Int) (t11 : Int) (h_1 : Heap), I size t11 h_1 →
 if (decide (t11 < ((slices_l : Nat) : Int))) = true then
 JoinP (fun (size_1 : Int) (h_2 : Heap) =>
 (I size_1 (IntKind.wrap .i64 (t11 + 1)) h_2 ∧ mu size_1 (IntKind.wrap .i64 (t11 + 1)) h_2 < mu size t11 h_1))
 (fun J =>
 ((0 : Int) ≤ t11 ∧ t11 < ((slices_l : Nat) : Int)) ∧
 onSome slices_p fun a =>
 ∃ t14_p t14_l t14_c, hcell h_1 (a.add (Int.toNat t11 * 1)) = some (.slice t14_p t14_l t14_c) ∧
 JoinP (fun (h_3 : Heap) =>
 J (IntKind.wrap .i64 (size + ((t14_l : Nat) : Int))) h_3)
 (fun J_1 =>
 if (decide ((IntKind.wrap .i64 (size + ((t14_l : Nat) : Int))) < 0)) = true then
 False
 else
 J_1 h_1))
 else
 Cl F.slices_Grow_s_outbox_Item_outbox_Item #[.slice none 0 0, .int .i64 size] h_1 fun v h_4 =>
 ∃ t24_p t24_l t24_c, v = .slice t24_p t24_l t24_c ∧
 ∃ (I_1 : Option Addr → Nat → Nat → Int → Heap → Prop) (mu_1 : Option Addr → Nat → Nat → Int → Heap → Nat), I_1 t24_p t24_l t24_c 0 h_4 ∧ ∀ (newslice_p : Option Addr) (newslice_l newslice_c : Nat) (t27 : Int) (h_5 : Heap), I_1 newslice_p newslice_l newslice_c t27 h_5 →
 if (decide (t27 < ((slices_l : Nat) : Int))) = true then
 ((0 : Int) ≤ t27 ∧ t27 < ((slices_l : Nat) : Int)) ∧
 onSome slices_p fun a_1 =>
 ∃ t30_p t30_l t30_c, hcell h_5 (a_1.add (Int.toNat t27 * 1)) = some (.slice t30_p t30_l t30_c) ∧
 denSem Tryz.prog (Builtin.append_ #[T.s_outbox_Item, T.s_outbox_Item] T.s_outbox_Item #[.slice newslice_p newslice_l newslice_c, .slice t30_p t30_l t30_c]) h_5 fun v_1 h_6 =>
 ∃ t33_p t33_l t33_c, v_1 = .slice t33_p t33_l t33_c ∧
 (I_1 t33_p t33_l t33_c (IntKind.wrap .i64 (t27 + 1)) h_6 ∧ mu_1 t33_p t33_l t33_c (IntKind.wrap .i64 (t27 + 1)) h_6 < mu_1 newslice_p newslice_l newslice_c t27 h_5)
 else
 R (.slice newslice_p newslice_l newslice_c) h_5) : CallsH Tryz.prog F.slices_Concat_s_outbox_Item_outbox_Item #[.slice slices_p slices_l slices_c] h R :=
 callsH_of_body (.seq .leaf (.seq .leaf (.seq (.seq .leaf (.block (.loop [(3, .one (.int .i64)), (11, .one (.int .i64))] (.seq .leaf (.seq (.cond .leaf .leaf) (.seq (.join [(3, .one (.int .i64))] (.block (.seq .leaf (.seq .leaf (.seq .leaf (.join [] (.cond .leaf .leaf))))))) .leaf)))))) (.seq .leaf (.seq (.seq .leaf (.block (.loop [(6, .one (.slice)), (27, .one (.int .i64))] (.seq .leaf (.seq (.cond .leaf .leaf) (.seq (.block (.seq .leaf .leaf)) .leaf)))))) (.seq .leaf .leaf)))))) Tryz.func199 rfl rfl (Eq.mp (by kernel_rfl) hv)
theorem slices_Grow_s_outbox_Item_outbox_Item.walk {s_p : Option Addr} {s_l s_c : Nat} {n : Int} (hv :
 JoinP (fun (h_1 : Heap) =>
 JoinP (fun (s_p_1 : Option Addr) (s_l_1 s_c_1 : Nat) (h_2 : Heap) =>
 R (.slice s_p_1 s_l_1 s_c_1) h_2)
 (fun J_1 =>
 if (decide ((IntKind.wrap .i64 (n - (IntKind.wrap .i64 (((s_c : Nat) : Int) - ((s_l : Nat) : Int))))) > 0)) = true then
 ((0 : Int) ≤ ((s_c : Nat) : Int) ∧ ((s_c : Nat) : Int) ≤ ((s_c : Nat) : Int)) ∧
 denSem Tryz.prog (Builtin.append_ #[T.s_outbox_Item, T.int] T.s_outbox_Item #[.slice (slBase s_p s_c 0 4) ((Int.toNat ((s_c : Nat) : Int)) - 0) (s_c - 0), .int .i64 (IntKind.wrap .i64 (n - (IntKind.wrap .i64 (((s_c : Nat) : Int) - ((s_l : Nat) : Int)))))]) h_1 fun v h_3 =>
 ∃ t22_p t22_l t22_c, v = .slice t22_p t22_l t22_c ∧
 ((0 : Int) ≤ ((s_l : Nat) : Int) ∧ ((s_l : Nat) : Int) ≤ ((t22_c : Nat) : Int)) ∧
 J_1 (slBase t22_p t22_c 0 4) ((Int.toNat ((s_l : Nat) : Int)) - 0) (t22_c - 0) h_3
 else
 J_1 s_p s_l s_c h_1))
 (fun J =>
 if (decide (n < 0)) = true then
 False
 else
 J h)) : CallsH Tryz.prog F.slices_Grow_s_outbox_Item_outbox_Item #[.slice s_p s_l s_c, .int .i64 n] h R :=
 callsH_of_body (.seq .leaf (.seq (.seq .leaf (.join [] (.cond .leaf .leaf))) (.seq (.seq .leaf (.seq .leaf (.join [(0, .one (.slice))] (.cond .leaf .leaf)))) (.seq .leaf .leaf)))) Tryz.func227 rfl rfl (Eq.mp (by kernel_rfl) hv)
end Go.Proofs.YtgccegnmggjkjaaGreatDoor
set_option maxRecDepth 100000
set_option maxHeartbeats 4000000
namespace Go.Proofs.YtgccegnmggjkjaaGreatDoor
open Go.Den
variable {h : Heap} {R : Value → Heap → Prop}
def ident_Ident.at (h:Heap) (b:Nat) (f0:Bool) (f1:Int) (f2:Int) (f3:ByteArray) (f4:ByteArray) (f5:Int) (f6:Int):Prop:=h[b]? =some (.cells #[.bool f0, .int .u64 f1, .int .u64 f2, .string f3, .string f4, .int .u64 f5, .int .u64 f6] T.ident_Ident (0,0))
theorem ident_Ident.ld {h:Heap} {b:Nat} {f0:Bool} {f1:Int} {f2:Int} {f3:ByteArray} {f4:ByteArray} {f5:Int} {f6:Int} {K:Bool→Int→Int→ByteArray→ByteArray→Int→Int→Prop} (hb:ident_Ident.at h b f0 f1 f2 f3 f4 f5 f6) (hk:K f0 f1 f2 f3 f4 f5 f6):ident_Ident.LD h ⟨b,0,none⟩ K:=
 ⟨_,cell_at hb rfl,_,cell_at hb rfl,_,cell_at hb rfl,_,cell_at hb rfl,_,cell_at hb rfl,_,cell_at hb rfl,_,cell_at hb rfl,hk⟩
theorem ident_Ident.held {h:Heap} {b:Nat} {f0:Bool} {f1:Int} {f2:Int} {f3:ByteArray} {f4:ByteArray} {f5:Int} {f6:Int} (hb:ident_Ident.at h b f0 f1 f2 f3 f4 f5 f6):heldL ⟨b,0,none⟩ [.bool f0, .int .u64 f1, .int .u64 f2, .string f3, .string f4, .int .u64 f5, .int .u64 f6] 0 h:=
 heldL_blk hb (fun j v hj=>by rw[Nat.zero_add];simpa using hj)
theorem ident_Ident.stA {h:Heap} {a:Addr} {f0:Bool} {f1:Int} {f2:Int} {f3:ByteArray} {f4:ByteArray} {f5:Int} {f6:Int} {K:Heap→Prop} (hk:storeL a [.bool f0, .int .u64 f1, .int .u64 f2, .string f3, .string f4, .int .u64 f5, .int .u64 f6] 0 h K):ident_Ident.ST h a f0 f1 f2 f3 f4 f5 f6 K:=hk
theorem ident_Ident.new {h:Heap} {f0:Bool} {f1:Int} {f2:Int} {f3:ByteArray} {f4:ByteArray} {f5:Int} {f6:Int} {K:Nat→Heap→Prop} (hk: ∀b h',b=h.size→ident_Ident.at h' b f0 f1 f2 f3 f4 f5 f6→Fr (fun _=>False) h h'→K b h'):NewP h (.cells #[.bool false, .int .u64 0, .int .u64 0, .string (⟨#[]⟩:ByteArray), .string (⟨#[]⟩:ByteArray), .int .u64 0, .int .u64 0] T.ident_Ident) fun b h_0=>ident_Ident.ST h_0 ⟨b,0,none⟩ f0 f1 f2 f3 f4 f5 f6 (K b):=
 new_full (vs:= [.bool f0, .int .u64 f1, .int .u64 f2, .string f3, .string f4, .int .u64 f5, .int .u64 f6]) rfl rfl hk
theorem ident_Ident.box {h:Heap} {f0:Bool} {f1:Int} {f2:Int} {f3:ByteArray} {f4:ByteArray} {f5:Int} {f6:Int} {K:Nat→Heap→Prop} (hk: ∀b h',b=h.size→ident_Ident.at h' b f0 f1 f2 f3 f4 f5 f6→Fr (fun _=>False) h h'→K b h'):NewP h (.cells #[.bool f0, .int .u64 f1, .int .u64 f2, .string f3, .string f4, .int .u64 f5, .int .u64 f6] T.ident_Ident) fun b h_0=>K b h_0:=
 newP_of (hk _ _ rfl push_new (Fr.push _ _))
theorem ident_Ident.set {h:Heap} {b:Nat} {g0:Bool} {g1:Int} {g2:Int} {g3:ByteArray} {g4:ByteArray} {g5:Int} {g6:Int} {f0:Bool} {f1:Int} {f2:Int} {f3:ByteArray} {f4:ByteArray} {f5:Int} {f6:Int} {K:Heap→Prop} (a0:ident_Ident.at h b g0 g1 g2 g3 g4 g5 g6) (hk: ∀h',ident_Ident.at h' b f0 f1 f2 f3 f4 f5 f6→h'.size=h.size→(∀x,x≠b→h'[x]? =h[x]?)→K h'):ident_Ident.ST h ⟨b,0,none⟩ f0 f1 f2 f3 f4 f5 f6 K:=
 ident_Ident.stA (storeL_full a0 rfl rfl hk)
def a4_s_s_uint8.at (h:Heap) (b:Nat) (f0p:Option Addr) (f0l f0c:Nat) (f1p:Option Addr) (f1l f1c:Nat) (f2p:Option Addr) (f2l f2c:Nat) (f3p:Option Addr) (f3l f3c:Nat):Prop:=h[b]? =some (.cells #[.slice f0p f0l f0c, .slice f1p f1l f1c, .slice f2p f2l f2c, .slice f3p f3l f3c] T.a4_s_s_uint8 (0,0))
theorem a4_s_s_uint8.held {h:Heap} {b:Nat} {f0p:Option Addr} {f0l f0c:Nat} {f1p:Option Addr} {f1l f1c:Nat} {f2p:Option Addr} {f2l f2c:Nat} {f3p:Option Addr} {f3l f3c:Nat} (hb:a4_s_s_uint8.at h b f0p f0l f0c f1p f1l f1c f2p f2l f2c f3p f3l f3c):heldL ⟨b,0,none⟩ [.slice f0p f0l f0c, .slice f1p f1l f1c, .slice f2p f2l f2c, .slice f3p f3l f3c] 0 h:=
 heldL_blk hb (fun j v hj=>by rw[Nat.zero_add];simpa using hj)
theorem a4_s_s_uint8.stA {h:Heap} {a:Addr} {f0p:Option Addr} {f0l f0c:Nat} {f1p:Option Addr} {f1l f1c:Nat} {f2p:Option Addr} {f2l f2c:Nat} {f3p:Option Addr} {f3l f3c:Nat} {K:Heap→Prop} (hk:storeL a [.slice f0p f0l f0c, .slice f1p f1l f1c, .slice f2p f2l f2c, .slice f3p f3l f3c] 0 h K):a4_s_s_uint8.ST h a f0p f0l f0c f1p f1l f1c f2p f2l f2c f3p f3l f3c K:=hk
theorem a4_s_s_uint8.new {h:Heap} {f0p:Option Addr} {f0l f0c:Nat} {f1p:Option Addr} {f1l f1c:Nat} {f2p:Option Addr} {f2l f2c:Nat} {f3p:Option Addr} {f3l f3c:Nat} {K:Nat→Heap→Prop} (hk: ∀b h',b=h.size→a4_s_s_uint8.at h' b f0p f0l f0c f1p f1l f1c f2p f2l f2c f3p f3l f3c→Fr (fun _=>False) h h'→K b h'):NewP h (.cells #[.slice none 0 0, .slice none 0 0, .slice none 0 0, .slice none 0 0] T.a4_s_s_uint8) fun b h_0=>a4_s_s_uint8.ST h_0 ⟨b,0,none⟩ f0p f0l f0c f1p f1l f1c f2p f2l f2c f3p f3l f3c (K b):=
 new_full (vs:= [.slice f0p f0l f0c, .slice f1p f1l f1c, .slice f2p f2l f2c, .slice f3p f3l f3c]) rfl rfl hk
theorem a4_s_s_uint8.box {h:Heap} {f0p:Option Addr} {f0l f0c:Nat} {f1p:Option Addr} {f1l f1c:Nat} {f2p:Option Addr} {f2l f2c:Nat} {f3p:Option Addr} {f3l f3c:Nat} {K:Nat→Heap→Prop} (hk: ∀b h',b=h.size→a4_s_s_uint8.at h' b f0p f0l f0c f1p f1l f1c f2p f2l f2c f3p f3l f3c→Fr (fun _=>False) h h'→K b h'):NewP h (.cells #[.slice f0p f0l f0c, .slice f1p f1l f1c, .slice f2p f2l f2c, .slice f3p f3l f3c] T.a4_s_s_uint8) fun b h_0=>K b h_0:=
 newP_of (hk _ _ rfl push_new (Fr.push _ _))
theorem a4_s_s_uint8.set {h:Heap} {b:Nat} {g0p:Option Addr} {g0l g0c:Nat} {g1p:Option Addr} {g1l g1c:Nat} {g2p:Option Addr} {g2l g2c:Nat} {g3p:Option Addr} {g3l g3c:Nat} {f0p:Option Addr} {f0l f0c:Nat} {f1p:Option Addr} {f1l f1c:Nat} {f2p:Option Addr} {f2l f2c:Nat} {f3p:Option Addr} {f3l f3c:Nat} {K:Heap→Prop} (a0:a4_s_s_uint8.at h b g0p g0l g0c g1p g1l g1c g2p g2l g2c g3p g3l g3c) (hk: ∀h',a4_s_s_uint8.at h' b f0p f0l f0c f1p f1l f1c f2p f2l f2c f3p f3l f3c→h'.size=h.size→(∀x,x≠b→h'[x]? =h[x]?)→K h'):a4_s_s_uint8.ST h ⟨b,0,none⟩ f0p f0l f0c f1p f1l f1c f2p f2l f2c f3p f3l f3c K:=
 a4_s_s_uint8.stA (storeL_full a0 rfl rfl hk)
def outbox_Item.at (h:Heap) (b:Nat) (f0:Int) (f1:Int) (f2p:Option Addr) (f2l f2c:Nat) (f3:Int):Prop:=h[b]? =some (.cells #[.int .i64 f0, .int .i64 f1, .slice f2p f2l f2c, .int .u64 f3] T.outbox_Item (0,0))
theorem outbox_Item.ld {h:Heap} {b:Nat} {f0:Int} {f1:Int} {f2p:Option Addr} {f2l f2c:Nat} {f3:Int} {K:Int→Int→Option Addr→Nat→Nat→Int→Prop} (hb:outbox_Item.at h b f0 f1 f2p f2l f2c f3) (hk:K f0 f1 f2p f2l f2c f3):outbox_Item.LD h ⟨b,0,none⟩ K:=
 ⟨_,cell_at hb rfl,_,cell_at hb rfl,_,_,_,cell_at hb rfl,_,cell_at hb rfl,hk⟩
theorem outbox_Item.ldA {h:Heap} {a:Addr} {f0:Int} {f1:Int} {f2p:Option Addr} {f2l f2c:Nat} {f3:Int} {K:Int→Int→Option Addr→Nat→Nat→Int→Prop} (hb:heldL a [.int .i64 f0, .int .i64 f1, .slice f2p f2l f2c, .int .u64 f3] 0 h) (hk:K f0 f1 f2p f2l f2c f3):outbox_Item.LD h a K:=by
 obtain⟨q0,q1,q2,q3,_⟩:=hb
 rw[add_zero_addr] at q0
 exact⟨_,q0,_,q1,_,_,_,q2,_,q3,hk⟩
theorem outbox_Item.stA {h:Heap} {a:Addr} {f0:Int} {f1:Int} {f2p:Option Addr} {f2l f2c:Nat} {f3:Int} {K:Heap→Prop} (hk:storeL a [.int .i64 f0, .int .i64 f1, .slice f2p f2l f2c, .int .u64 f3] 0 h K):outbox_Item.ST h a f0 f1 f2p f2l f2c f3 K:=hk
theorem outbox_Item.new {h:Heap} {f0:Int} {f1:Int} {f2p:Option Addr} {f2l f2c:Nat} {f3:Int} {K:Nat→Heap→Prop} (hk: ∀b h',b=h.size→outbox_Item.at h' b f0 f1 f2p f2l f2c f3→Fr (fun _=>False) h h'→K b h'):NewP h (.cells #[.int .i64 0, .int .i64 0, .slice none 0 0, .int .u64 0] T.outbox_Item) fun b h_0=>outbox_Item.ST h_0 ⟨b,0,none⟩ f0 f1 f2p f2l f2c f3 (K b):=
 new_full (vs:= [.int .i64 f0, .int .i64 f1, .slice f2p f2l f2c, .int .u64 f3]) rfl rfl hk
theorem outbox_Item.box {h:Heap} {f0:Int} {f1:Int} {f2p:Option Addr} {f2l f2c:Nat} {f3:Int} {K:Nat→Heap→Prop} (hk: ∀b h',b=h.size→outbox_Item.at h' b f0 f1 f2p f2l f2c f3→Fr (fun _=>False) h h'→K b h'):NewP h (.cells #[.int .i64 f0, .int .i64 f1, .slice f2p f2l f2c, .int .u64 f3] T.outbox_Item) fun b h_0=>K b h_0:=
 newP_of (hk _ _ rfl push_new (Fr.push _ _))
theorem outbox_Item.set {h:Heap} {b:Nat} {g0:Int} {g1:Int} {g2p:Option Addr} {g2l g2c:Nat} {g3:Int} {f0:Int} {f1:Int} {f2p:Option Addr} {f2l f2c:Nat} {f3:Int} {K:Heap→Prop} (a0:outbox_Item.at h b g0 g1 g2p g2l g2c g3) (hk: ∀h',outbox_Item.at h' b f0 f1 f2p f2l f2c f3→h'.size=h.size→(∀x,x≠b→h'[x]? =h[x]?)→K h'):outbox_Item.ST h ⟨b,0,none⟩ f0 f1 f2p f2l f2c f3 K:=
 outbox_Item.stA (storeL_full a0 rfl rfl hk)
def sessions_Answer.at (h:Heap) (b:Nat) (f0:Int) (f1p:Option Addr) (f1l f1c:Nat):Prop:=h[b]? =some (.cells #[.int .u64 f0, .slice f1p f1l f1c] T.sessions_Answer (0,0))
theorem sessions_Answer.ld {h:Heap} {b:Nat} {f0:Int} {f1p:Option Addr} {f1l f1c:Nat} {K:Int→Option Addr→Nat→Nat→Prop} (hb:sessions_Answer.at h b f0 f1p f1l f1c) (hk:K f0 f1p f1l f1c):sessions_Answer.LD h ⟨b,0,none⟩ K:=
 ⟨_,cell_at hb rfl,_,_,_,cell_at hb rfl,hk⟩
theorem sessions_Answer.ldA {h:Heap} {a:Addr} {f0:Int} {f1p:Option Addr} {f1l f1c:Nat} {K:Int→Option Addr→Nat→Nat→Prop} (hb:heldL a [.int .u64 f0, .slice f1p f1l f1c] 0 h) (hk:K f0 f1p f1l f1c):sessions_Answer.LD h a K:=by
 obtain⟨q0,q1,_⟩:=hb
 rw[add_zero_addr] at q0
 exact⟨_,q0,_,_,_,q1,hk⟩
theorem sessions_Answer.new {h:Heap} {f0:Int} {f1p:Option Addr} {f1l f1c:Nat} {K:Nat→Heap→Prop} (hk: ∀b h',b=h.size→sessions_Answer.at h' b f0 f1p f1l f1c→Fr (fun _=>False) h h'→K b h'):NewP h (.cells #[.int .u64 0, .slice none 0 0] T.sessions_Answer) fun b h_0=>sessions_Answer.ST h_0 ⟨b,0,none⟩ f0 f1p f1l f1c (K b):=
 new_full (vs:= [.int .u64 f0, .slice f1p f1l f1c]) rfl rfl hk
theorem sessions_Answer.box {h:Heap} {f0:Int} {f1p:Option Addr} {f1l f1c:Nat} {K:Nat→Heap→Prop} (hk: ∀b h',b=h.size→sessions_Answer.at h' b f0 f1p f1l f1c→Fr (fun _=>False) h h'→K b h'):NewP h (.cells #[.int .u64 f0, .slice f1p f1l f1c] T.sessions_Answer) fun b h_0=>K b h_0:=
 newP_of (hk _ _ rfl push_new (Fr.push _ _))
def sessions_Session.at (h:Heap) (b:Nat) (f0:Int) (f1:Int) (f2:Bool) (f3:Bool) (f4p:Option Addr) (f4l f4c:Nat) (f5p:Option Addr) (f5l f5c:Nat):Prop:=h[b]? =some (.cells #[.int .i64 f0, .int .u64 f1, .bool f2, .bool f3, .slice f4p f4l f4c, .slice f5p f5l f5c] T.sessions_Session (0,0))
theorem sessions_Session.ld {h:Heap} {b:Nat} {f0:Int} {f1:Int} {f2:Bool} {f3:Bool} {f4p:Option Addr} {f4l f4c:Nat} {f5p:Option Addr} {f5l f5c:Nat} {K:Int→Int→Bool→Bool→Option Addr→Nat→Nat→Option Addr→Nat→Nat→Prop} (hb:sessions_Session.at h b f0 f1 f2 f3 f4p f4l f4c f5p f5l f5c) (hk:K f0 f1 f2 f3 f4p f4l f4c f5p f5l f5c):sessions_Session.LD h ⟨b,0,none⟩ K:=
 ⟨_,cell_at hb rfl,_,cell_at hb rfl,_,cell_at hb rfl,_,cell_at hb rfl,_,_,_,cell_at hb rfl,_,_,_,cell_at hb rfl,hk⟩
theorem sessions_Session.ldA {h:Heap} {a:Addr} {f0:Int} {f1:Int} {f2:Bool} {f3:Bool} {f4p:Option Addr} {f4l f4c:Nat} {f5p:Option Addr} {f5l f5c:Nat} {K:Int→Int→Bool→Bool→Option Addr→Nat→Nat→Option Addr→Nat→Nat→Prop} (hb:heldL a [.int .i64 f0, .int .u64 f1, .bool f2, .bool f3, .slice f4p f4l f4c, .slice f5p f5l f5c] 0 h) (hk:K f0 f1 f2 f3 f4p f4l f4c f5p f5l f5c):sessions_Session.LD h a K:=by
 obtain⟨q0,q1,q2,q3,q4,q5,_⟩:=hb
 rw[add_zero_addr] at q0
 exact⟨_,q0,_,q1,_,q2,_,q3,_,_,_,q4,_,_,_,q5,hk⟩
theorem sessions_Session.new {h:Heap} {f0:Int} {f1:Int} {f2:Bool} {f3:Bool} {f4p:Option Addr} {f4l f4c:Nat} {f5p:Option Addr} {f5l f5c:Nat} {K:Nat→Heap→Prop} (hk: ∀b h',b=h.size→sessions_Session.at h' b f0 f1 f2 f3 f4p f4l f4c f5p f5l f5c→Fr (fun _=>False) h h'→K b h'):NewP h (.cells #[.int .i64 0, .int .u64 0, .bool false, .bool false, .slice none 0 0, .slice none 0 0] T.sessions_Session) fun b h_0=>sessions_Session.ST h_0 ⟨b,0,none⟩ f0 f1 f2 f3 f4p f4l f4c f5p f5l f5c (K b):=
 new_full (vs:= [.int .i64 f0, .int .u64 f1, .bool f2, .bool f3, .slice f4p f4l f4c, .slice f5p f5l f5c]) rfl rfl hk
theorem sessions_Session.box {h:Heap} {f0:Int} {f1:Int} {f2:Bool} {f3:Bool} {f4p:Option Addr} {f4l f4c:Nat} {f5p:Option Addr} {f5l f5c:Nat} {K:Nat→Heap→Prop} (hk: ∀b h',b=h.size→sessions_Session.at h' b f0 f1 f2 f3 f4p f4l f4c f5p f5l f5c→Fr (fun _=>False) h h'→K b h'):NewP h (.cells #[.int .i64 f0, .int .u64 f1, .bool f2, .bool f3, .slice f4p f4l f4c, .slice f5p f5l f5c] T.sessions_Session) fun b h_0=>K b h_0:=
 newP_of (hk _ _ rfl push_new (Fr.push _ _))
def law26_Op.at (h:Heap) (b:Nat) (f0:Int) (f1:Int) (f2:Int) (f3p:Option Addr) (f3l f3c:Nat) (f4:Int):Prop:=h[b]? =some (.cells #[.int .i64 f0, .int .i64 f1, .int .i64 f2, .slice f3p f3l f3c, .int .u64 f4] T.law26_Op (0,0))
theorem law26_Op.ldA {h:Heap} {a:Addr} {f0:Int} {f1:Int} {f2:Int} {f3p:Option Addr} {f3l f3c:Nat} {f4:Int} {K:Int→Int→Int→Option Addr→Nat→Nat→Int→Prop} (hb:heldL a [.int .i64 f0, .int .i64 f1, .int .i64 f2, .slice f3p f3l f3c, .int .u64 f4] 0 h) (hk:K f0 f1 f2 f3p f3l f3c f4):law26_Op.LD h a K:=by
 obtain⟨q0,q1,q2,q3,q4,_⟩:=hb
 rw[add_zero_addr] at q0
 exact⟨_,q0,_,q1,_,q2,_,_,_,q3,_,q4,hk⟩
theorem law26_Op.box {h:Heap} {f0:Int} {f1:Int} {f2:Int} {f3p:Option Addr} {f3l f3c:Nat} {f4:Int} {K:Nat→Heap→Prop} (hk: ∀b h',b=h.size→law26_Op.at h' b f0 f1 f2 f3p f3l f3c f4→Fr (fun _=>False) h h'→K b h'):NewP h (.cells #[.int .i64 f0, .int .i64 f1, .int .i64 f2, .slice f3p f3l f3c, .int .u64 f4] T.law26_Op) fun b h_0=>K b h_0:=
 newP_of (hk _ _ rfl push_new (Fr.push _ _))
def eid_Eid.at (h:Heap) (b:Nat) (f0:Bool) (f1:Int) (f2:Int) (f3:ByteArray) (f4:ByteArray):Prop:=h[b]? =some (.cells #[.bool f0, .int .u64 f1, .int .u64 f2, .string f3, .string f4] T.eid_Eid (0,0))
theorem eid_Eid.ld {h:Heap} {b:Nat} {f0:Bool} {f1:Int} {f2:Int} {f3:ByteArray} {f4:ByteArray} {K:Bool→Int→Int→ByteArray→ByteArray→Prop} (hb:eid_Eid.at h b f0 f1 f2 f3 f4) (hk:K f0 f1 f2 f3 f4):eid_Eid.LD h ⟨b,0,none⟩ K:=
 ⟨_,cell_at hb rfl,_,cell_at hb rfl,_,cell_at hb rfl,_,cell_at hb rfl,_,cell_at hb rfl,hk⟩
theorem eid_Eid.held {h:Heap} {b:Nat} {f0:Bool} {f1:Int} {f2:Int} {f3:ByteArray} {f4:ByteArray} (hb:eid_Eid.at h b f0 f1 f2 f3 f4):heldL ⟨b,0,none⟩ [.bool f0, .int .u64 f1, .int .u64 f2, .string f3, .string f4] 0 h:=
 heldL_blk hb (fun j v hj=>by rw[Nat.zero_add];simpa using hj)
theorem eid_Eid.stA {h:Heap} {a:Addr} {f0:Bool} {f1:Int} {f2:Int} {f3:ByteArray} {f4:ByteArray} {K:Heap→Prop} (hk:storeL a [.bool f0, .int .u64 f1, .int .u64 f2, .string f3, .string f4] 0 h K):eid_Eid.ST h a f0 f1 f2 f3 f4 K:=hk
theorem eid_Eid.new {h:Heap} {f0:Bool} {f1:Int} {f2:Int} {f3:ByteArray} {f4:ByteArray} {K:Nat→Heap→Prop} (hk: ∀b h',b=h.size→eid_Eid.at h' b f0 f1 f2 f3 f4→Fr (fun _=>False) h h'→K b h'):NewP h (.cells #[.bool false, .int .u64 0, .int .u64 0, .string (⟨#[]⟩:ByteArray), .string (⟨#[]⟩:ByteArray)] T.eid_Eid) fun b h_0=>eid_Eid.ST h_0 ⟨b,0,none⟩ f0 f1 f2 f3 f4 (K b):=
 new_full (vs:= [.bool f0, .int .u64 f1, .int .u64 f2, .string f3, .string f4]) rfl rfl hk
theorem eid_Eid.box {h:Heap} {f0:Bool} {f1:Int} {f2:Int} {f3:ByteArray} {f4:ByteArray} {K:Nat→Heap→Prop} (hk: ∀b h',b=h.size→eid_Eid.at h' b f0 f1 f2 f3 f4→Fr (fun _=>False) h h'→K b h'):NewP h (.cells #[.bool f0, .int .u64 f1, .int .u64 f2, .string f3, .string f4] T.eid_Eid) fun b h_0=>K b h_0:=
 newP_of (hk _ _ rfl push_new (Fr.push _ _))
theorem eid_Eid.set {h:Heap} {b:Nat} {g0:Bool} {g1:Int} {g2:Int} {g3:ByteArray} {g4:ByteArray} {f0:Bool} {f1:Int} {f2:Int} {f3:ByteArray} {f4:ByteArray} {K:Heap→Prop} (a0:eid_Eid.at h b g0 g1 g2 g3 g4) (hk: ∀h',eid_Eid.at h' b f0 f1 f2 f3 f4→h'.size=h.size→(∀x,x≠b→h'[x]? =h[x]?)→K h'):eid_Eid.ST h ⟨b,0,none⟩ f0 f1 f2 f3 f4 K:=
 eid_Eid.stA (storeL_full a0 rfl rfl hk)
def regs_Reg.at (h:Heap) (b:Nat) (f0:Bool) (f1:Int) (f2:Int) (f3:ByteArray) (f4:ByteArray) (f5:Int) (f6:Int):Prop:=h[b]? =some (.cells #[.bool f0, .int .u64 f1, .int .u64 f2, .string f3, .string f4, .int .i64 f5, .int .i64 f6] T.regs_Reg (0,0))
theorem regs_Reg.ld {h:Heap} {b:Nat} {f0:Bool} {f1:Int} {f2:Int} {f3:ByteArray} {f4:ByteArray} {f5:Int} {f6:Int} {K:Bool→Int→Int→ByteArray→ByteArray→Int→Int→Prop} (hb:regs_Reg.at h b f0 f1 f2 f3 f4 f5 f6) (hk:K f0 f1 f2 f3 f4 f5 f6):regs_Reg.LD h ⟨b,0,none⟩ K:=
 ⟨_,cell_at hb rfl,_,cell_at hb rfl,_,cell_at hb rfl,_,cell_at hb rfl,_,cell_at hb rfl,_,cell_at hb rfl,_,cell_at hb rfl,hk⟩
theorem regs_Reg.ldA {h:Heap} {a:Addr} {f0:Bool} {f1:Int} {f2:Int} {f3:ByteArray} {f4:ByteArray} {f5:Int} {f6:Int} {K:Bool→Int→Int→ByteArray→ByteArray→Int→Int→Prop} (hb:heldL a [.bool f0, .int .u64 f1, .int .u64 f2, .string f3, .string f4, .int .i64 f5, .int .i64 f6] 0 h) (hk:K f0 f1 f2 f3 f4 f5 f6):regs_Reg.LD h a K:=by
 obtain⟨q0,q1,q2,q3,q4,q5,q6,_⟩:=hb
 rw[add_zero_addr] at q0
 exact⟨_,q0,_,q1,_,q2,_,q3,_,q4,_,q5,_,q6,hk⟩
theorem regs_Reg.stA {h:Heap} {a:Addr} {f0:Bool} {f1:Int} {f2:Int} {f3:ByteArray} {f4:ByteArray} {f5:Int} {f6:Int} {K:Heap→Prop} (hk:storeL a [.bool f0, .int .u64 f1, .int .u64 f2, .string f3, .string f4, .int .i64 f5, .int .i64 f6] 0 h K):regs_Reg.ST h a f0 f1 f2 f3 f4 f5 f6 K:=hk
theorem regs_Reg.new {h:Heap} {f0:Bool} {f1:Int} {f2:Int} {f3:ByteArray} {f4:ByteArray} {f5:Int} {f6:Int} {K:Nat→Heap→Prop} (hk: ∀b h',b=h.size→regs_Reg.at h' b f0 f1 f2 f3 f4 f5 f6→Fr (fun _=>False) h h'→K b h'):NewP h (.cells #[.bool false, .int .u64 0, .int .u64 0, .string (⟨#[]⟩:ByteArray), .string (⟨#[]⟩:ByteArray), .int .i64 0, .int .i64 0] T.regs_Reg) fun b h_0=>regs_Reg.ST h_0 ⟨b,0,none⟩ f0 f1 f2 f3 f4 f5 f6 (K b):=
 new_full (vs:= [.bool f0, .int .u64 f1, .int .u64 f2, .string f3, .string f4, .int .i64 f5, .int .i64 f6]) rfl rfl hk
theorem regs_Reg.box {h:Heap} {f0:Bool} {f1:Int} {f2:Int} {f3:ByteArray} {f4:ByteArray} {f5:Int} {f6:Int} {K:Nat→Heap→Prop} (hk: ∀b h',b=h.size→regs_Reg.at h' b f0 f1 f2 f3 f4 f5 f6→Fr (fun _=>False) h h'→K b h'):NewP h (.cells #[.bool f0, .int .u64 f1, .int .u64 f2, .string f3, .string f4, .int .i64 f5, .int .i64 f6] T.regs_Reg) fun b h_0=>K b h_0:=
 newP_of (hk _ _ rfl push_new (Fr.push _ _))
theorem regs_Reg.set {h:Heap} {b:Nat} {g0:Bool} {g1:Int} {g2:Int} {g3:ByteArray} {g4:ByteArray} {g5:Int} {g6:Int} {f0:Bool} {f1:Int} {f2:Int} {f3:ByteArray} {f4:ByteArray} {f5:Int} {f6:Int} {K:Heap→Prop} (a0:regs_Reg.at h b g0 g1 g2 g3 g4 g5 g6) (hk: ∀h',regs_Reg.at h' b f0 f1 f2 f3 f4 f5 f6→h'.size=h.size→(∀x,x≠b→h'[x]? =h[x]?)→K h'):regs_Reg.ST h ⟨b,0,none⟩ f0 f1 f2 f3 f4 f5 f6 K:=
 regs_Reg.stA (storeL_full a0 rfl rfl hk)
def copies_Copy.at (h:Heap) (b:Nat) (f0:Int) (f1:Bool) (f2:Int) (f3:Int) (f4:ByteArray) (f5:ByteArray) (f6p:Option Addr) (f6l f6c:Nat) (f7:Int) (f8:Int) (f9:Int):Prop:=h[b]? =some (.cells #[.int .i64 f0, .bool f1, .int .u64 f2, .int .u64 f3, .string f4, .string f5, .slice f6p f6l f6c, .int .u64 f7, .int .i64 f8, .int .u64 f9] T.copies_Copy (0,0))
theorem copies_Copy.ld {h:Heap} {b:Nat} {f0:Int} {f1:Bool} {f2:Int} {f3:Int} {f4:ByteArray} {f5:ByteArray} {f6p:Option Addr} {f6l f6c:Nat} {f7:Int} {f8:Int} {f9:Int} {K:Int→Bool→Int→Int→ByteArray→ByteArray→Option Addr→Nat→Nat→Int→Int→Int→Prop} (hb:copies_Copy.at h b f0 f1 f2 f3 f4 f5 f6p f6l f6c f7 f8 f9) (hk:K f0 f1 f2 f3 f4 f5 f6p f6l f6c f7 f8 f9):copies_Copy.LD h ⟨b,0,none⟩ K:=
 ⟨_,cell_at hb rfl,_,cell_at hb rfl,_,cell_at hb rfl,_,cell_at hb rfl,_,cell_at hb rfl,_,cell_at hb rfl,_,_,_,cell_at hb rfl,_,cell_at hb rfl,_,cell_at hb rfl,_,cell_at hb rfl,hk⟩
theorem copies_Copy.new {h:Heap} {f0:Int} {f1:Bool} {f2:Int} {f3:Int} {f4:ByteArray} {f5:ByteArray} {f6p:Option Addr} {f6l f6c:Nat} {f7:Int} {f8:Int} {f9:Int} {K:Nat→Heap→Prop} (hk: ∀b h',b=h.size→copies_Copy.at h' b f0 f1 f2 f3 f4 f5 f6p f6l f6c f7 f8 f9→Fr (fun _=>False) h h'→K b h'):NewP h (.cells #[.int .i64 0, .bool false, .int .u64 0, .int .u64 0, .string (⟨#[]⟩:ByteArray), .string (⟨#[]⟩:ByteArray), .slice none 0 0, .int .u64 0, .int .i64 0, .int .u64 0] T.copies_Copy) fun b h_0=>copies_Copy.ST h_0 ⟨b,0,none⟩ f0 f1 f2 f3 f4 f5 f6p f6l f6c f7 f8 f9 (K b):=
 new_full (vs:= [.int .i64 f0, .bool f1, .int .u64 f2, .int .u64 f3, .string f4, .string f5, .slice f6p f6l f6c, .int .u64 f7, .int .i64 f8, .int .u64 f9]) rfl rfl hk
theorem copies_Copy.box {h:Heap} {f0:Int} {f1:Bool} {f2:Int} {f3:Int} {f4:ByteArray} {f5:ByteArray} {f6p:Option Addr} {f6l f6c:Nat} {f7:Int} {f8:Int} {f9:Int} {K:Nat→Heap→Prop} (hk: ∀b h',b=h.size→copies_Copy.at h' b f0 f1 f2 f3 f4 f5 f6p f6l f6c f7 f8 f9→Fr (fun _=>False) h h'→K b h'):NewP h (.cells #[.int .i64 f0, .bool f1, .int .u64 f2, .int .u64 f3, .string f4, .string f5, .slice f6p f6l f6c, .int .u64 f7, .int .i64 f8, .int .u64 f9] T.copies_Copy) fun b h_0=>K b h_0:=
 newP_of (hk _ _ rfl push_new (Fr.push _ _))
end Go.Proofs.YtgccegnmggjkjaaGreatDoor
set_option maxRecDepth 100000
namespace Go.Proofs.YtgccegnmggjkjaaGreatDoor
open Go.Den Go.Fields Go.Heapq
namespace Obx
open Fld
variable {h h' h0 : Heap} {b : Nat} {X : Ft} {R : Value → Heap → Prop} {p q : Option Addr} {c d i : Nat} {L : List E}
structure It where
 num:Nat
 owner:Int
 d:List UInt8
 till:Nat
structure IV where
 num:Nat
 owner:Int
 v:BV
 till:Nat
def IV.abs (x:IV):It:=⟨x.num,x.owner,x.v.b,x.till⟩
abbrev ienc (x:IV):List Value:= [.int .i64 (x.num:Int), .int .i64 x.owner,x.v.val, .int .u64 (x.till:Int)]
theorem ienc_len (x:IV):(ienc x).length=4:=rfl
theorem ienc_one (xs:List IV): ∀v∈xs.flatMap ienc,oneCell v=true:=by
 intro v hv
 obtain⟨a,_,ha⟩:=List.mem_flatMap.1 hv
 simp at ha
 rcases ha with rfl|rfl|rfl|rfl<;>rfl
abbrev IV.agg (x:IV):Value:= .agg #[.int .i64 (x.num:Int), .int .i64 x.owner,x.v.val, .int .u64 (x.till:Int)]
theorem tI:SlTy Tryz.prog T.s_outbox_Item T.outbox_Item 4 48 (.agg #[.int .i64 0, .int .i64 0, .slice none 0 0, .int .u64 0]):=⟨by kernel_rfl,by kernel_rfl,rfl⟩
theorem uI:Tryz.prog.underlying T.s_outbox_Item=some (.slice T.outbox_Item):=by kernel_rfl
theorem uInt:Tryz.prog.underlying T.int=some (.int .i64):=by kernel_rfl
structure BS where
 items:List It
 next:Nat
 taken:Nat
 canc:Nat
 over:Nat
structure Mm (h:Heap) (b:Nat) (X:Ft) (s:BS) (L:List E) (lp:Option Addr) (lc:Nat) (xs:List IV) (a:Nat) (S:Nat→Prop):Prop where
 blk:h[b]? =some (.cells #[.slice lp xs.length lc, .int .i64 (s.next:Int), .int .i64 (s.taken:Int), .int .i64 (s.canc:Int), .int .i64 (s.over:Int), .pointer (some ⟨a,0,none⟩)] T.outbox_Box (0,0))
 own:Own h lp xs.length lc 4 (xs.flatMap ienc)
 al:Alarm.Al h a S L
 abs:xs.map IV.abs=s.items
 dat: ∀x∈xs,x.v.ok h X.D
 m: ∀c,X.M c↔c=b∨inBlk lp c∨S c
 bl: ¬inBlk lp b
 bs: ¬S b
 ls: ∀c,inBlk lp c→ ¬S c
 dis: ∀c,X.M c→ ¬X.D c
 dlt: ∀c,X.D c→c<h.size
def Bx (h:Heap) (b:Nat) (X:Ft) (s:BS) (L:List E):Prop:= ∃lp lc xs a S,Mm h b X s L lp lc xs a S
variable {s : BS} {lp : Option Addr} {lc a : Nat} {xs : List IV} {S : Nat → Prop}
theorem Mm.lt (H:Mm h b X s L lp lc xs a S) (y:Nat) (hy:X.M y∨X.D y):y<h.size:=by
 rcases hy with hy|hy
 ·rcases(H.m y).1 hy with rfl|h1|h1
  ·exact lt_of_get H.blk
  ·exact H.own.blk_lt h1
  ·exact H.al.lt h1
 ·exact H.dlt y hy
theorem Bx.lt (H:Bx h b X s L) (y:Nat) (hy:X.M y∨X.D y):y<h.size:=by
 obtain⟨lp,lc,xs,a,S,H⟩:=H
 exact H.lt y hy
theorem Mm.frame {Q:Nat→Prop} (H:Mm h b X s L lp lc xs a S) (f:Fr Q h h') (hq: ∀y,X.M y∨X.D y→ ¬Q y):Mm h' b X s L lp lc xs a S:=
 have hm: ∀y,X.M y→ ¬Q y:=fun y hy=>hq y (.inl hy)
 ⟨f.get H.blk (hm b ((H.m b).2 (.inl rfl))),H.own.frame f (fun y hy=>hm y ((H.m y).2 (.inr (.inl hy)))),H.al.frame f (fun y hy=>hm y ((H.m y).2 (.inr (.inr hy)))),H.abs,fun x hx=>(H.dat x hx).frame f (fun y hy=>hq y (.inr hy)),H.m,H.bl,H.bs,H.ls,H.dis,fun y hy=>Nat.lt_of_lt_of_le (H.dlt y hy) f.1⟩
theorem Bx.frame {Q:Nat→Prop} (H:Bx h b X s L) (f:Fr Q h h') (hq: ∀y,X.M y∨X.D y→ ¬Q y):Bx h' b X s L:=by
 obtain⟨lp,lc,xs,a,S,H⟩:=H
 exact⟨lp,lc,xs,a,S,H.frame f hq⟩
theorem Mm.on (H:Mm h b X s L lp lc xs a S) (f:Fr (fun _=>False) h h'):Mm h' b X s L lp lc xs a S:=H.frame f (fun _ _=>id)
theorem Mm.len (H:Mm h b X s L lp lc xs a S):xs.length=s.items.length:=by rw[←H.abs,List.length_map]
theorem made_ok (H:Mm h b X s L lp lc xs a S) (hk:R (.bool true) h):CallsH Tryz.prog F.outbox_Box_made #[.pointer (some ⟨b,0,none⟩)] h R:=
 outbox_Box_made.walk ⟨_,cell_at H.blk rfl,hk⟩
theorem new_ok (hk: ∀h' b X,Bx h' b X ⟨[],1,0,0,0⟩ []→Fr (fun _=>False) h h'→(∀y,X.M y∨X.D y→h.size≤y)→R (.pointer (some ⟨b,0,none⟩)) h'):CallsH Tryz.prog F.outbox_New #[] h R:=by
 refine outbox_New.walk (Alarm.new_ok fun a S h1 A1 g1 f1=>⟨_,rfl,newP_of ?_⟩)
 have f2:Fr (fun _=>False) h1 (h1.push (.cells #[.slice none 0 0, .int .i64 1, .int .i64 0, .int .i64 0, .int .i64 0, .pointer (some ⟨a,0,none⟩)] T.outbox_Box)):=Fr.push _ _
 have z:=f1.1
 refine hk _ h1.size ⟨fun y=>y=h1.size∨inBlk none y∨S y,fun _=>False⟩ ⟨none,0, [],a,S,⟨push_new, .nil rfl rfl rfl rfl,A1.frame f2 (fun _ _=>id),rfl,(fun x hx=>by cases hx),fun _=>Iff.rfl,(fun⟨a,e,_⟩=>by cases e),fun hs=> ?_,(fun y ⟨a,e,_⟩=>by cases e),fun _ _=>id,fun _ hy=>hy.elim⟩⟩ (f1.tt f2) ?_
 ·have:=A1.lt hs;omega
 ·rintro y ((rfl|⟨a,e,_⟩|hs)|hy)
  ·exact z
  ·cases e
  ·exact g1 y hs
  ·exact hy.elim
theorem copied_ok {x0 x1 x3:Int} {bs:List UInt8} {n m:Nat} (hr:Row h p (bc bs)) (hn:n=bs.length) (hl:bs.length≤70368744177664)
  (hk: ∀h' p' c',Own h' p' bs.length c' 1 (bc bs)→Fr (fun _=>False) h h'→(∀y,inBlk p' y→h.size≤y)→R (.agg #[.int .i64 x0, .int .i64 x1, .slice p' bs.length c', .int .u64 x3]) h'):
  CallsH Tryz.prog F.outbox_copied #[.agg #[.int .i64 x0, .int .i64 x1, .slice p n m, .int .u64 x3]] h R:=by
 subst hn
 refine outbox_copied.walk (outbox_Item.box fun b1 h1 eb1 hb1 f1=>outbox_Item.box fun b2 h2 eb2 hb2 f2=> ?_)
 have hb1':=f2.get hb1 id
 refine⟨_,_,_,cell_at hb1' rfl,clone_ok (hr.frame (f1.tt f2) (fun _ _=>id)) rfl hl fun p3 c3 h3 o3 f3 g3=>⟨_,_,_,rfl, ?_⟩⟩
 have l1:=lt_of_get hb1
 have l2:=lt_of_get hb2
 have k1:=f3.get hb1' id
 have k2:outbox_Item.at h3 b2 0 0 none 0 0 0:=f3.get hb2 id
 have z1:=f1.1
 have z2:=f2.1
 have ne:b2≠b1:=by omega
 refine storeP_blk k1 (by simp) fun h4 a1 a2 a3=> ?_
 have k4:outbox_Item.at h4 b1 x0 x1 p3 bs.length c3 x3:=a1
 refine outbox_Item.ld k4 ?_
 have k5:outbox_Item.at h4 b2 0 0 none 0 0 0:=(a3 b2 ne).trans k2
 refine outbox_Item.set k5 fun h8 d1 d2 d3=>outbox_Item.ld d1 ?_
 have f4:Fr (fun y=>y=b1∨y=b2) h3 h8:=⟨by omega,fun y hy hn=>by rw[d3 y (fun e=>hn (.inr e)),a3 y (fun e=>hn (.inl e))]⟩
 have F3:Fr (fun _=>False) h h3:=f1.tt (f2.tt f3)
 refine hk h8 p3 c3 (o3.frame f4 (fun y hy e=>by have:=g3 y hy;omega)) (F3.fresh f4 (fun y hy=>by omega)) (fun y hy=>by have:=g3 y hy;omega)
def rightB (owner:Int) (n:Nat) (till:Int):Bool:=decide (1≤owner) && decide (owner≤1099511627776) && decide (1≤n) && decide (n≤600) && decide (till≤1099511627776)
theorem rightB_iff {owner till:Int} {n:Nat} :rightB owner n till=true↔1≤owner∧owner≤1099511627776∧1≤n∧n≤600∧till≤1099511627776:=by simp[rightB,and_assoc]
theorem right_ok {x0 x1 x3:Int} {n m:Nat} (hk: ∀h',Fr (fun _=>False) h h'→R (.bool (rightB x1 n x3)) h'):
  CallsH Tryz.prog F.outbox_right #[.agg #[.int .i64 x0, .int .i64 x1, .slice p n m, .int .u64 x3]] h R:=by
 refine outbox_right.walk (outbox_Item.box fun b1 h1 eb1 hb1 f1=>⟨_,cell_at hb1 rfl, ?_⟩)
 have hk:=hk h1 f1
 unfold rightB at hk
 by_cases h1:1≤x1
 ·rw[if_pos (by simpa using h1)]
  refine⟨_,cell_at hb1 rfl, ?_⟩
  by_cases h2:x1≤1099511627776
  ·rw[if_pos (by simpa using h2)]
   refine⟨_,_,_,cell_at hb1 rfl, ?_⟩
   by_cases h3:1≤n
   ·rw[if_pos (by simp;omega)]
    refine⟨_,_,_,cell_at hb1 rfl, ?_⟩
    by_cases h4:n≤600
    ·rw[if_pos (by simp;omega)]
     refine⟨_,cell_at hb1 rfl, ?_⟩
     simpa[h1,h2,h3,h4] using hk
    ·rw[if_neg (by simp;omega)]
     simpa[h4] using hk
   ·rw[if_neg (by simp;omega)]
    simpa[h3] using hk
  ·rw[if_neg (by simpa using h2)]
   simpa[h2] using hk
 ·rw[if_neg (by simpa using h1)]
  simpa[h1] using hk
def idxI (xs:List It) (num:Int):Option Nat:=xs.findIdx? (fun a=>decide ((a.num:Int)=num))
def idxV (xs:List It) (num:Int):Int:=match idxI xs num with|some k=>(k:Int)|none=> -1
abbrev NumAt (h:Heap) (b:Nat) (num:Int):Prop:=h[b]? =some (.cells #[.int .i64 num] T.int (0,0))
theorem find1_ok {b:Nat} {num:Int} (x:IV) (hid:NumAt h b num) (hk: ∀h',Fr (fun _=>False) h h'→R (.bool (decide ((x.num:Int)=num))) h'):CallsH Tryz.prog F.outbox_Box_find_1 #[x.agg, .pointer (some ⟨b,0,none⟩)] h R:=by
 refine outbox_Box_find_1.walk (outbox_Item.box fun b1 h1 eb hb f1=>⟨_,cell_at hb rfl,_,cell_at (f1.get hid (fun x=>x)) rfl, ?_⟩)
 have e:(((x.num:Nat):Int)==num)=decide ((x.num:Int)=num):=by
  by_cases q:(x.num:Int)=num<;>simp[q]
 rw[e]
 exact hk h1 f1
theorem index_ok {xs:List IV} {n m b:Nat} {num:Int} (hr:Row h p (xs.flatMap ienc)) (hn:n=xs.length) (hl:xs.length≤1000000000) (hid:NumAt h b num) (hk: ∀h',Fr (fun _=>False) h h'→R (.int .i64 (idxV (xs.map IV.abs) num)) h'):
  CallsH Tryz.prog F.slices_IndexFunc_s_outbox_Item_outbox_Item #[.slice p n m, .func (.func F.outbox_Box_find_1) #[] #[.pointer (some ⟨b,0,none⟩)]] h R:=by
 subst hn
 refine slices_IndexFunc_s_outbox_Item_outbox_Item.find.walk ?_
 refine⟨fun i h'=>Fr (fun _=>False) h h'∧ ∃k:Nat,i=(k:Int)∧k≤xs.length∧ ∀j (hj:j<xs.length),j<k→(xs[j].num:Int)≠num,fun i _=>xs.length - i.toNat,⟨Fr.refl _ _,0,rfl,by omega,fun j _ hj=>by omega⟩, ?_⟩
 rintro _ h1 ⟨f1,k,rfl,hkn,hall⟩
 have hr1:=hr.frame f1 (fun _ _ x=>x)
 have hid1:NumAt h1 b num:=f1.get hid (fun x=>x)
 by_cases hlt:k<xs.length
 ·have q1:(k:Int)<(xs.length:Int):=by omega
  simp only[q1,decide_true,if_true,Int.toNat_natCast]
  have hx:xs[k]? =some xs[k]:=List.getElem?_eq_getElem hlt
  obtain⟨a,rfl⟩:=hr1.some (fun e=>by have:=congrArg List.length e;rw[flat_len ienc 4 ienc_len,List.length_nil] at this;omega)
  refine⟨⟨by omega,by first|trivial|omega⟩,onSome_some.2 (outbox_Item.ldA (hr1.heldAt ienc_len hx) ?_)⟩
  refine find1_ok xs[k] hid1 fun h2 f2=>⟨_,rfl, ?_⟩
  by_cases e:(xs[k].num:Int)=num
  ·simp only[e,decide_true,if_true]
   have:idxV (xs.map IV.abs) num=(k:Int):=by
    unfold idxV idxI
    have:(xs.map IV.abs).findIdx? (fun a=>decide ((a.num:Int)=num))=some k:=by
     rw[List.findIdx?_eq_some_iff_getElem]
     refine⟨by rw[List.length_map];exact hlt, ?_,fun j hj=> ?_⟩
     ·rw[List.getElem_map];exact decide_eq_true e
     ·rw[List.getElem_map,Bool.not_eq_true];exact decide_eq_false (hall j (by omega) hj)
    rw[this]
   rw[this] at hk
   exact hk h2 (f1.tt f2)
  ·simp only[e,decide_false,Bool.false_eq_true,if_false]
   rw[wrap_id (by omega) (by omega)]
   refine⟨⟨f1.tt f2,k+1,by omega,by omega,fun j hj hjk=> ?_⟩, ?_⟩
   ·by_cases q:j=k
    ·subst q;exact e
    ·exact hall j hj (by omega)
   ·show xs.length - Int.toNat ((k:Int)+1)<xs.length - Int.toNat (k:Int);omega
 ·have q1: ¬(k:Int)<(xs.length:Int):=by omega
  simp only[q1,decide_false,Bool.false_eq_true,if_false]
  have:idxV (xs.map IV.abs) num= -1:=by
   unfold idxV idxI
   have:(xs.map IV.abs).findIdx? (fun a=>decide ((a.num:Int)=num))=none:=by
    rw[List.findIdx?_eq_none_iff]
    intro a ha
    obtain⟨x,hx,rfl⟩:=List.mem_map.1 ha
    obtain⟨j,hj,rfl⟩:=List.mem_iff_getElem.1 hx
    exact decide_eq_false (hall j hj (by omega))
   rw[this]
  rw[this] at hk
  exact hk h1 f1
theorem find_ok {num:Int} (H:Mm h b X s L lp lc xs a S) (hl:s.items.length≤1000000000) (hk: ∀h',Fr (fun _=>False) h h'→R (.int .i64 (idxV s.items num)) h'):CallsH Tryz.prog F.outbox_Box_find #[.pointer (some ⟨b,0,none⟩), .int .i64 num] h R:=by
 refine outbox_Box_find.walk (newP_of ?_)
 have f1:Fr (fun _=>False) h (h.push (.cells #[.int .i64 num] T.int)):=Fr.push _ _
 have H1:=H.on f1
 have hl':=H.len
 refine⟨_,_,_,cell_at H1.blk rfl,index_ok H1.own.row' rfl (by omega) push_new fun h2 f2=>⟨_,rfl, ?_⟩⟩
 rw[H.abs]
 exact hk h2 (f1.tt f2)
theorem grow_ok {n:Nat} (hn:n≤1000000) (hk: ∀p' c' h',Own h' p' 0 c' 4 []→Fr (fun _=>False) h h'→(∀y,inBlk p' y→h.size≤y)→R (.slice p' 0 c') h'):
  CallsH Tryz.prog F.slices_Grow_s_outbox_Item_outbox_Item #[.slice none 0 0, .int .i64 (n:Int)] h R:=by
 refine slices_Grow_s_outbox_Item_outbox_Item.walk ?_
 simp only[JoinP]
 have q0: ¬(n:Int)<0:=by omega
 have e1:IntKind.wrap .i64 (((0:Nat):Int) - ((0:Nat):Int))=0:=rfl
 have e2:IntKind.wrap .i64 ((n:Int) - 0)=(n:Int):=by rw[wrap_id (by omega) (by omega)];omega
 rw[e1,e2]
 simp only[q0,decide_false,Bool.false_eq_true,if_false]
 by_cases hz:n=0
 ·subst hz
  rw[if_neg (by simp)]
  exact hk none 0 h (.nil rfl rfl rfl rfl) (Fr.refl _ _) (fun y ⟨a,e,_⟩=>by cases e)
 ·have q1:(n:Int)>0:=by omega
  simp only[q1,decide_true,if_true]
  refine⟨⟨by omega,by omega⟩, ?_⟩
  have e3:slBase none 0 0 4=none:=slBase_zero _ _ _
  rw[e3]
  refine den_grow tI uInt (by omega) (by omega) (by omega) fun cap' h' o hc f=>⟨_,_,_,rfl,⟨by omega,by omega⟩, ?_⟩
  rw[slBase_zero]
  exact hk _ cap' h' o f (fun y ⟨a,e,e2⟩=>by cases e;exact Nat.le_of_eq e2)
theorem concat_ok {p1 p2:Option Addr} {n1 c1 n2 c2:Nat} {us ws:List IV} (hh:Row h (some ⟨c,0,none⟩) [.slice p1 n1 c1, .slice p2 n2 c2]) (r1:Row h p1 (us.flatMap ienc)) (e1:n1=us.length) (r2:Row h p2 (ws.flatMap ienc)) (e2:n2=ws.length) (hl:us.length+ws.length≤1000)
  (hk: ∀p' c' h',Own h' p' (us++ws).length c' 4 ((us++ws).flatMap ienc)→Fr (fun _=>False) h h'→(∀y,inBlk p' y→h.size≤y)→R (.slice p' (us++ws).length c') h'):
  CallsH Tryz.prog F.slices_Concat_s_outbox_Item_outbox_Item #[.slice (some ⟨c,0,none⟩) 2 2] h R:=by
 subst e1 e2
 have c0: ∀ {g:Heap},Fr (fun _=>False) h g→hcell g ((⟨c,0,none⟩:Addr).add (0*1))=some (.slice p1 us.length c1):=fun f=>(hh.frame f (fun _ _=>id)).cell (j:=0) rfl
 have c1': ∀ {g:Heap},Fr (fun _=>False) h g→hcell g ((⟨c,0,none⟩:Addr).add (1*1))=some (.slice p2 ws.length c2):=fun f=>(hh.frame f (fun _ _=>id)).cell (j:=1) rfl
 refine slices_Concat_s_outbox_Item_outbox_Item.walk ?_
 refine⟨fun size i g=>g=h∧((i=0∧size=0)∨(i=1∧size=(us.length:Int))∨(i=2∧size=((us.length+ws.length:Nat):Int))),fun _ i _=>2 - i.toNat,⟨rfl, .inl ⟨rfl,rfl⟩⟩, ?_⟩
 rintro size i g ⟨rfl,hi⟩
 rcases hi with⟨rfl,rfl⟩|⟨rfl,rfl⟩|⟨rfl,rfl⟩
 ·rw[if_pos (by rfl)]
  refine JoinP.of fun J hJ=>⟨⟨by omega,by omega⟩,onSome_some.2 ⟨_,_,_,c0 (Fr.refl _ _),JoinP.of fun J1 hJ1=> ?_⟩⟩
  have e:IntKind.wrap .i64 (0+((us.length:Nat):Int))=(us.length:Int):=by rw[wrap_id (by omega) (by omega)];omega
  rw[e] at hJ1
  rw[e,if_neg (by simp<;>omega)]
  subst hJ1;subst hJ
  exact⟨⟨rfl, .inr (.inl ⟨rfl,rfl⟩)⟩,by show 2 - Int.toNat 1<2 - Int.toNat 0;decide⟩
 ·rw[if_pos (by rfl)]
  refine JoinP.of fun J hJ=>⟨⟨by omega,by omega⟩,onSome_some.2 ⟨_,_,_,c1' (Fr.refl _ _),JoinP.of fun J1 hJ1=> ?_⟩⟩
  have e:IntKind.wrap .i64 ((us.length:Int)+((ws.length:Nat):Int))=((us.length+ws.length:Nat):Int):=by rw[wrap_id (by omega) (by omega)];omega
  rw[e] at hJ1
  rw[e,if_neg (by simp<;>omega)]
  subst hJ1;subst hJ
  exact⟨⟨rfl, .inr (.inr ⟨rfl,rfl⟩)⟩,by show 2 - Int.toNat 2<2 - Int.toNat 1;decide⟩
 ·rw[if_neg (by decide)]
  refine grow_ok (by omega) fun p4 c4 h4 o4 f4 g4=>⟨_,_,_,rfl, ?_⟩
  refine⟨fun np nl nc i g'=>Fr (fun _=>False) g g'∧(∀y,inBlk np y→g.size≤y)∧((i=0∧nl=0∧Own g' np nl nc 4 [])∨(i=1∧nl=us.length∧Own g' np nl nc 4 (us.flatMap ienc))∨(i=2∧nl=(us++ws).length∧Own g' np nl nc 4 ((us++ws).flatMap ienc))),fun _ _ _ i _=>2 - i.toNat,⟨f4,g4, .inl ⟨rfl,rfl,o4⟩⟩, ?_⟩
  rintro np nl nc i g' ⟨fg,gg,hi⟩
  rcases hi with⟨rfl,rfl,o⟩|⟨rfl,rfl,o⟩|⟨rfl,rfl,o⟩
  ·rw[if_pos (by rfl)]
   refine⟨⟨by omega,by omega⟩,onSome_some.2 ⟨_,_,_,c0 fg, ?_⟩⟩
   refine den_append tI uI o (r1.frame fg (fun _ _=>id)) (flat_len ienc 4 ienc_len us) (ienc_one us) (by omega) (by omega) fun p6 c6 h6 o6 _ f6 g6=>⟨_,_,_,rfl, ?_⟩
   rw[List.nil_append,Nat.zero_add] at o6
   rw[Nat.zero_add]
   have z:=fg.1
   exact⟨⟨fg.fresh f6 gg,(fun y hy=>(g6 y hy).elim (gg y) (fun h2=>by omega)), .inr (.inl ⟨rfl,rfl,o6⟩)⟩,by show 2 - Int.toNat 1<2 - Int.toNat 0;decide⟩
  ·rw[if_pos (by rfl)]
   refine⟨⟨by omega,by omega⟩,onSome_some.2 ⟨_,_,_,c1' fg, ?_⟩⟩
   refine den_append tI uI o (r2.frame fg (fun _ _=>id)) (flat_len ienc 4 ienc_len ws) (ienc_one ws) (by omega) (by omega) fun p6 c6 h6 o6 _ f6 g6=>⟨_,_,_,rfl, ?_⟩
   rw[←List.flatMap_append,←List.length_append] at o6
   rw[←List.length_append]
   have z:=fg.1
   exact⟨⟨fg.fresh f6 gg,(fun y hy=>(g6 y hy).elim (gg y) (fun h2=>by omega)), .inr (.inr ⟨rfl,rfl,o6⟩)⟩,by show 2 - Int.toNat 2<2 - Int.toNat 1;decide⟩
  ·rw[if_neg (by decide)]
   exact hk np nc g' o fg gg
theorem dropK_not {L:List E} {k:Int} (hk:k∉keys L):dropK L k=L:=by
 unfold dropK
 rw[List.filter_eq_self]
 intro e he
 have:e.1≠k:=fun e2=>hk (e2▸List.mem_map_of_mem he)
 simpa using this
theorem Own.row_sub {h:Heap} {p:Option Addr} {xs:List IV} {cap l u:Nat} (hr:Row h p (xs.flatMap ienc)) (h1:l≤u) (h2:u≤cap):Row h (slBase p cap l 4) (((xs.take u).drop l).flatMap ienc):=by
 have:=hr.sub (cap:=cap) (l:=l) (u:=u) (sz:=4) h1 h2
 rwa[flat_take ienc 4 ienc_len,flat_drop ienc 4 ienc_len] at this
def cutI (xs:List It) (i:Nat):List It:=xs.take i++xs.drop (i+1)
theorem cut_ok {x:IV} (H:Mm h b X s L lp lc xs a S) (hl:s.items.length≤100) (hL:L.length<1000) (hx:xs[i]? =some x)
  (hk: ∀h' X',Bx h' b X' { s with items:=cutI s.items i } (dropK L (x.num:Int))→StepF X h X' h'→x.v.ok h' X'.D→R x.agg h'):
  CallsH Tryz.prog F.outbox_Box_cut #[.pointer (some ⟨b,0,none⟩), .int .i64 (i:Int)] h R:=by
 have hlen:=H.len
 have hi:=(List.getElem?_eq_some_iff.1 hx).1
 refine outbox_Box_cut.walk (outbox_Item.box fun b1 h1 eb1 hb1 f1=> ?_)
 have H1:=H.on f1
 obtain⟨ab,aoff,rfl⟩:=H.own.addr (by omega)
 refine⟨_,_,_,cell_at H1.blk rfl,⟨by omega,by omega⟩,onSome_some.2 (outbox_Item.ldA (by rw[Int.toNat_natCast];exact H1.own.heldAt ienc_len hx) (outbox_Item.new fun b2 h2 eb2 hb2 f2=> ?_))⟩
 have H2:=H1.on f2
 have hb1':outbox_Item.at h2 b1 0 0 none 0 0 0:=f2.get hb1 id
 have z1:=f1.1
 have z2:=f2.1
 have l1:=lt_of_get hb1
 have l2:=lt_of_get hb2
 have ne:b2≠b1:=by omega
 have nX: ∀y,h.size≤y→ ¬(X.M y∨X.D y):=fun y hy hx=>by have:=H.lt y hx;omega
 refine⟨_,cell_at H2.blk rfl,_,cell_at hb2 rfl, ?_⟩
 have rest: ∀h7,Alarm.Al h7 a S (dropK L (x.num:Int))→Fr S h2 h7→
   h7[b]? =some (.cells #[.slice (some ⟨ab,aoff,none⟩) xs.length lc, .int .i64 (s.next:Int), .int .i64 (s.taken:Int), .int .i64 (s.canc:Int), .int .i64 (s.over:Int), .pointer (some ⟨a,0,none⟩)] T.outbox_Box (0,0))∧
   Row h7 (some ⟨ab,aoff,none⟩) (xs.flatMap ienc)∧outbox_Item.at h7 b1 0 0 none 0 0 0∧outbox_Item.at h7 b2 (x.num:Int) x.owner x.v.p x.v.b.length x.v.c (x.till:Int):=by
  intro h7 A7 f7
  have nS: ∀y,h.size≤y→ ¬S y:=fun y hy hs=>by have:=H.al.lt hs;omega
  exact⟨f7.get H2.blk H.bs,H2.own.row'.frame f7 (fun a' ea hs=>H.ls _ ⟨a',ea,rfl⟩ hs),f7.get hb1' (nS b1 (by omega)),f7.get hb2 (nS b2 (by omega))⟩
 have fin: ∀h7,Alarm.Al h7 a S (dropK L (x.num:Int))→Fr S h2 h7→ ∀p9 c9 h9,Fr (fun _=>False) h7 h9→Own h9 p9 (xs.take i++xs.drop (i+1)).length c9 4 ((xs.take i++xs.drop (i+1)).flatMap ienc)→(∀y,inBlk p9 y→h7.size≤y)→
   StoreP h9 ⟨b,0,none⟩ (.slice p9 (xs.take i++xs.drop (i+1)).length c9) fun h_10=>
    ∃(t38_0:Int),hcell h_10 ⟨b2,0,none⟩=some (.int .i64 t38_0)∧ ∃(t38_1:Int),hcell h_10 ⟨b2,1,none⟩=some (.int .i64 t38_1)∧ ∃(t38_2_p:Option Addr) (t38_2_l t38_2_c:Nat),hcell h_10 ⟨b2,2,none⟩=some (.slice t38_2_p t38_2_l t38_2_c)∧ ∃(t38_3:Int),hcell h_10 ⟨b2,3,none⟩=some (.int .u64 t38_3)∧
    StoreP h_10 ⟨b1,0,none⟩ (.int .i64 t38_0) fun h_11=>
    StoreP h_11 ⟨b1,1,none⟩ (.int .i64 t38_1) fun h_12=>
    StoreP h_12 ⟨b1,2,none⟩ (.slice t38_2_p t38_2_l t38_2_c) fun h_13=>
    StoreP h_13 ⟨b1,3,none⟩ (.int .u64 t38_3) fun h_14=>
    ∃(r_0:Int),hcell h_14 ⟨b1,0,none⟩=some (.int .i64 r_0)∧ ∃(r_1:Int),hcell h_14 ⟨b1,1,none⟩=some (.int .i64 r_1)∧ ∃(r_2_p:Option Addr) (r_2_l r_2_c:Nat),hcell h_14 ⟨b1,2,none⟩=some (.slice r_2_p r_2_l r_2_c)∧ ∃(r_3:Int),hcell h_14 ⟨b1,3,none⟩=some (.int .u64 r_3)∧
    R (.agg #[.int .i64 r_0, .int .i64 r_1, .slice r_2_p r_2_l r_2_c, .int .u64 r_3]) h_14:=by
  intro h7 A7 f7 p9 c9 h9 f9 o9 g9
  obtain⟨k1,_,k3,k4⟩:=rest h7 A7 f7
  have lb:=lt_of_get H.blk
  have z7:=f7.1
  have z9:=f9.1
  refine storeP_blk (f9.get k1 id) (by simp) fun h10 a1 a2 a3=> ?_
  have i2:outbox_Item.at h10 b2 (x.num:Int) x.owner x.v.p x.v.b.length x.v.c (x.till:Int):=(a3 b2 (by omega)).trans (f9.get k4 id)
  refine outbox_Item.ld i2 ?_
  have i1:outbox_Item.at h10 b1 0 0 none 0 0 0:=(a3 b1 (by omega)).trans (f9.get k3 id)
  refine outbox_Item.set i1 fun h14 d1 d2 d3=>outbox_Item.ld d1 ?_
  have f10:Fr (fun y=>y=b) h9 h10:=Fr.of_eq a2 a3
  have f14:Fr (fun y=>y=b1) h10 h14:=Fr.of_eq d2 d3
  have F2:Fr (fun _=>False) h h2:=f1.tt f2
  have F7:Fr S h h7:=Fr.no F2 f7
  have F9:Fr S h h9:=F7.tt (f9.mono (fun _ _ hx=>hx.elim))
  have F10:Fr (fun y=>S y∨y=b) h h10:=(F9.mono (fun _ _ hx=> .inl hx)).tt (f10.mono (fun _ _ hx=> .inr hx))
  have F14:Fr X.M h h14:=by
   refine⟨Nat.le_trans F10.1 f14.1,fun y hy hn=> ?_⟩
   rw[f14.2 y (Nat.lt_of_lt_of_le hy F10.1) (fun e=>by omega),F10.2 y hy (fun hx=>hn ((H.m y).2 (hx.elim (fun h=> .inr (.inr h)) .inl)))]
  have lpS: ∀y,inBlk p9 y→ ¬S y:=fun y hy hs=>by have:=g9 y hy;have:=H.al.lt hs;omega
  have lpb: ∀y,inBlk p9 y→y≠b:=fun y hy e=>by have:=g9 y hy;omega
  have lpb1: ∀y,inBlk p9 y→y≠b1:=fun y hy e=>by have:=g9 y hy;omega
  have D14: ∀v:IV,v∈xs→v.v.ok h14 X.D:=fun v hv=>(H.dat v hv).frame F14 (fun y hd hm=>H.dis y hm hd)
  refine hk h14 ⟨fun y=>y=b∨inBlk p9 y∨S y,X.D⟩ ⟨p9,c9,xs.take i++xs.drop (i+1),a,S,⟨?_,(o9.frame f10 lpb).frame f14 lpb1, ?_, ?_, ?_,fun _=>Iff.rfl,fun hx=>lpb b hx rfl,H.bs,lpS, ?_,fun y hy=>Nat.lt_of_lt_of_le (H.dlt y hy) F14.1⟩⟩ ⟨F14, ?_,fun _=> .inl,fun _=>id⟩ (D14 x (List.mem_of_getElem? hx))
  ·rw[d3 b (by omega),a1];simp
  ·have A9:=A7.frame f9 (fun _ _=>id)
   exact(A9.frame f10 (fun y hy e=>H.bs (e▸hy))).frame f14 (fun y hy e=>by have:=H.al.lt hy;omega)
  ·show _=cutI s.items i
   unfold cutI
   rw[←H.abs,List.map_append,List.map_take,List.map_drop]
  ·intro v hv
   refine D14 v ?_
   rcases List.mem_append.1 hv with hv|hv
   ·exact List.mem_of_mem_take hv
   ·exact List.mem_of_mem_drop hv
  ·rintro y (rfl|hy|hy) hd
   ·exact H.dis _ ((H.m _).2 (.inl rfl)) hd
   ·have:=g9 y hy;have:=H.dlt y hd;omega
   ·exact H.dis _ ((H.m _).2 (.inr (.inr hy))) hd
  ·rintro y (rfl|hy|hy)
   ·exact .inl ((H.m _).2 (.inl rfl))
   ·right;have:=g9 y hy;omega
   ·exact .inl ((H.m _).2 (.inr (.inr hy)))
 have ew:IntKind.wrap .i64 ((i:Int)+1)=((i+1:Nat):Int):=by rw[wrap_id (by omega) (by omega)];omega
 have cap:=H.own.le
 rw[ew]
 simp only[Int.toNat_natCast,Nat.sub_zero]
 refine Alarm.drop_ok H2.al (by omega) _ (fun hm h7 A7 f7=>⟨_,rfl, ?_⟩) (fun hm=>⟨_,rfl, ?_⟩)
 ·obtain⟨k1,k2,k3,k4⟩:=rest h7 A7 f7
  refine⟨_,_,_,cell_at k1 rfl,⟨by omega,by omega⟩,_,_,_,cell_at k1 rfl,⟨by omega,by omega⟩,newP_of ?_⟩
  have f8:Fr (fun _=>False) h7 (h7.push (.cells #[.slice (slBase (some ⟨ab,aoff,none⟩) lc 0 4) i lc, .slice (slBase (some ⟨ab,aoff,none⟩) lc (i+1) 4) (xs.length - (i+1)) (lc - (i+1))] T.s_outbox_Item)):=Fr.push _ _
  have k8:=f8.get k1 id
  refine⟨cell_at k8 rfl,cell_at k8 rfl, ?_⟩
  have r8:=k2.frame f8 (fun _ _=>id)
  have ra:=Own.row_sub (l:=0) (u:=i) (cap:=lc) r8 (by omega) (by omega)
  have rb:=Own.row_sub (l:=i+1) (u:=xs.length) (cap:=lc) r8 (by omega) (by omega)
  rw[List.drop_zero] at ra
  rw[List.take_length] at rb
  refine concat_ok row_new ra (by rw[List.length_take];omega) rb (by rw[List.length_drop]) (by rw[List.length_take,List.length_drop];omega) fun p9 c9 h9 o9 f9 g9=>⟨_,_,_,rfl, ?_⟩
  have k9:=f9.get k8 id
  exact⟨cell_at k9 rfl,cell_at k9 rfl,fin h7 A7 f7 p9 c9 h9 (f8.tt f9) o9 (fun y hy=>by have:=g9 y hy;rw[Array.size_push] at this;omega)⟩
 ·have A7:Alarm.Al h2 a S (dropK L (x.num:Int)):=by
   rw[dropK_not hm];exact H2.al
  have f7:Fr S h2 h2:=Fr.refl _ _
  obtain⟨k1,k2,k3,k4⟩:=rest h2 A7 f7
  refine⟨_,_,_,cell_at k1 rfl,⟨by omega,by omega⟩,_,_,_,cell_at k1 rfl,⟨by omega,by omega⟩,newP_of ?_⟩
  have f8:Fr (fun _=>False) h2 (h2.push (.cells #[.slice (slBase (some ⟨ab,aoff,none⟩) lc 0 4) i lc, .slice (slBase (some ⟨ab,aoff,none⟩) lc (i+1) 4) (xs.length - (i+1)) (lc - (i+1))] T.s_outbox_Item)):=Fr.push _ _
  have k8:=f8.get k1 id
  refine⟨cell_at k8 rfl,cell_at k8 rfl, ?_⟩
  have r8:=k2.frame f8 (fun _ _=>id)
  have ra:=Own.row_sub (l:=0) (u:=i) (cap:=lc) r8 (by omega) (by omega)
  have rb:=Own.row_sub (l:=i+1) (u:=xs.length) (cap:=lc) r8 (by omega) (by omega)
  rw[List.drop_zero] at ra
  rw[List.take_length] at rb
  refine concat_ok row_new ra (by rw[List.length_take];omega) rb (by rw[List.length_drop]) (by rw[List.length_take,List.length_drop];omega) fun p9 c9 h9 o9 f9 g9=>⟨_,_,_,rfl, ?_⟩
  have k9:=f9.get k8 id
  exact⟨cell_at k9 rfl,cell_at k9 rfl,fin h2 A7 f7 p9 c9 h9 (f8.tt f9) o9 (fun y hy=>by have:=g9 y hy;rw[Array.size_push] at this;omega)⟩
end Obx
end Go.Proofs.YtgccegnmggjkjaaGreatDoor
set_option maxRecDepth 100000
namespace Go.Proofs.YtgccegnmggjkjaaGreatDoor
open Go.Den Go.Fields Go.Heapq
namespace Obx
open Alarm (isDue)
variable {L : List E} {s : BS} {items : List It} {now : Int}
def It.kv (x:It):E:=((x.num:Int),(x.till:Int))
structure okB (s:BS) (L:List E):Prop where
 le:s.items.length≤16
 pm:L.Perm (s.items.map It.kv)
 it: ∀x∈s.items,1≤x.num∧x.num<s.next∧1≤x.d.length∧x.d.length≤600∧1≤x.owner∧x.owner≤1099511627776∧x.till≤1099511627776
 inc:(s.items.map It.num).Pairwise (· < ·)
 cnt:s.next=1+s.items.length+s.taken+s.canc+s.over
theorem okB.nil:okB ⟨[],1,0,0,0⟩ []:=⟨by simp, .refl _,by simp, .nil,rfl⟩
def delI (items:List It) (num:Int):List It:=items.filter (fun y=> !decide ((y.num:Int)=num))
theorem cutI_del: ∀ {items:List It} {i:Nat} {x:It},(items.map It.num).Pairwise (· < ·)→items[i]? =some x→cutI items i=delI items (x.num:Int)
 | [],i,x,_,h=>by simp at h
 |y::r,0,x,hp,h=>by
  simp at h
  subst h
  rw[List.map_cons,List.pairwise_cons] at hp
  unfold cutI delI
  rw[List.filter_cons]
  simp only[decide_true,Bool.not_true,Bool.false_eq_true,if_false,List.take_zero,List.nil_append,List.drop_succ_cons,List.drop_zero]
  symm
  rw[List.filter_eq_self]
  intro z hz
  have:=hp.1 z.num (List.mem_map_of_mem hz)
  have: ¬(z.num:Int)=(y.num:Int):=by omega
  simp[this]
 |y::r,i+1,x,hp,h=>by
  rw[List.map_cons,List.pairwise_cons] at hp
  rw[List.getElem?_cons_succ] at h
  have ih:=cutI_del hp.2 h
  have hx:=hp.1 x.num (List.mem_map_of_mem (List.mem_of_getElem? h))
  have hne: ¬(y.num:Int)=(x.num:Int):=by omega
  unfold cutI delI at ih⊢
  rw[List.filter_cons]
  simp only[hne,decide_false,Bool.not_false,if_true,List.take_succ_cons,List.drop_succ_cons,List.cons_append]
  rw[ih]
theorem del_perm {num:Int} (h:L.Perm (items.map It.kv)):(dropK L num).Perm ((delI items num).map It.kv):=by
 have:=h.filter (fun e=> !(e.1==num))
 unfold dropK
 refine this.trans ?_
 rw[List.filter_map]
 refine List.Perm.of_eq ?_
 unfold delI
 refine congrArg _ (List.filter_congr ?_)
 intro x _
 show(!((x.num:Int)==num))=_
 by_cases q:(x.num:Int)=num<;>simp[q]
theorem okB.sub {items':List It} {L':List E} {t c o:Nat} (ok:okB s L) (hs:items'.Sublist s.items) (hp:L'.Perm (items'.map It.kv)) (hc:s.next=1+items'.length+t+c+o):okB ⟨items',s.next,t,c,o⟩ L':=
 ⟨Nat.le_trans hs.length_le ok.le,hp,fun x hx=>ok.it x (hs.subset hx),ok.inc.sublist (hs.map _),hc⟩
theorem idx_some {num:Int} {i:Nat} (h:idxI items num=some i): ∃x,items[i]? =some x∧(x.num:Int)=num:=by
 unfold idxI at h
 rw[List.findIdx?_eq_some_iff_getElem] at h
 obtain⟨h1,h2,_⟩:=h
 exact⟨_,List.getElem?_eq_getElem h1,by simpa using h2⟩
theorem idx_none {num:Int} (h:idxI items num=none): ∀x∈items,(x.num:Int)≠num:=by
 unfold idxI at h
 rw[List.findIdx?_eq_none_iff] at h
 intro x hx
 simpa using h x hx
theorem uniq (h:(items.map It.num).Pairwise (· < ·)) {x y:It} (hx:x∈items) (hy:y∈items) (e:x.num=y.num):x=y:=by
 induction items with
 |nil=>cases hx
 |cons z r ih=>
  rw[List.map_cons,List.pairwise_cons] at h
  rcases List.mem_cons.1 hx with e1|hx1
  ·rcases List.mem_cons.1 hy with e2|hy1
   ·rw[e1,e2]
   ·have:=h.1 y.num (List.mem_map_of_mem hy1);rw[e1] at e;omega
  ·rcases List.mem_cons.1 hy with e2|hy1
   ·have:=h.1 x.num (List.mem_map_of_mem hx1);rw[e2] at e;omega
   ·exact ih h.2 hx1 hy1
theorem sorted_split: ∀ {L:List E},Sorted L→Alarm.due L now=L.filter (isDue now)∧Alarm.rest L now=L.filter (fun e=> !isDue now e)
 | [],_=>⟨rfl,rfl⟩
 |e::r,hs=>by
  have hs':=List.pairwise_cons.1 hs
  obtain⟨i1,i2⟩:=sorted_split (L:=r) hs'.2
  unfold Alarm.due at i1⊢
  unfold Alarm.rest at i2⊢
  by_cases he:isDue now e=true
  ·rw[List.takeWhile_cons,List.dropWhile_cons,List.filter_cons,List.filter_cons,he]
   simp only[if_true,Bool.not_true,Bool.false_eq_true,if_false]
   rw[i1,i2]
   exact⟨rfl,rfl⟩
  ·have he':isDue now e=false:=by simpa using he
   have all: ∀x∈r,isDue now x=false:=by
    intro x hx
    have h1:=hs'.1 x hx
    unfold isDue at he'⊢
    have h2:=of_decide_eq_false he'
    apply decide_eq_false
    rcases h1 with h1|h1<;>omega
   rw[List.takeWhile_cons,List.dropWhile_cons,List.filter_cons,List.filter_cons,he']
   simp only[Bool.false_eq_true,if_false,Bool.not_false,if_true]
   refine⟨?_, ?_⟩
   ·symm;rw[List.filter_eq_nil_iff];intro x hx;rw[all x hx];simp
   ·congr 1;symm;rw[List.filter_eq_self];intro x hx;rw[all x hx];rfl
def remI (items:List It) (K:List Int):List It:=items.filter (fun x=>decide ((x.num:Int)∉K))
theorem remI_nil:remI items []=items:=by unfold remI;simp
theorem remI_del {K:List Int} {k:Int} :delI (remI items K) k=remI items (K++ [k]):=by
 unfold delI remI
 rw[List.filter_filter]
 apply List.filter_congr
 intro x _
 by_cases h1:(x.num:Int)=k
 ·simp[h1]
 ·by_cases h2:(x.num:Int)∈K<;>simp[h1,h2]
theorem remI_due (ok:okB s L) (so:Sorted L) (nd:(keys L).Nodup):remI s.items (keys (Alarm.due L now))=s.items.filter (fun x=>decide (now<(x.till:Int))):=by
 obtain⟨e1,_⟩:=sorted_split (now:=now) so
 unfold remI
 apply List.filter_congr
 intro x hx
 have hm:x.kv∈L:=ok.pm.mem_iff.2 (List.mem_map_of_mem hx)
 by_cases ht:now<(x.till:Int)
 ·simp only[ht,decide_true,decide_eq_true_eq]
  intro hk
  rw[e1] at hk
  obtain⟨e,he,ek⟩:=List.mem_map.1 hk
  have h2:=List.mem_filter.1 he
  obtain⟨y,hy,rfl⟩:=List.mem_map.1 (ok.pm.mem_iff.1 h2.1)
  have:y=x:=uniq ok.inc hy hx (by have:(y.num:Int)=(x.num:Int):=ek;omega)
  subst this
  have:=of_decide_eq_true h2.2
  unfold It.kv at this
  dsimp only at this
  omega
 ·simp only[ht,decide_false,decide_eq_false_iff_not,Classical.not_not]
  rw[e1]
  refine List.mem_map.2 ⟨x.kv,List.mem_filter.2 ⟨hm,decide_eq_true ?_⟩,rfl⟩
  unfold It.kv;dsimp only;omega
theorem rest_perm (ok:okB s L) (so:Sorted L):(Alarm.rest L now).Perm ((s.items.filter (fun x=>decide (now<(x.till:Int)))).map It.kv):=by
 rw[(sorted_split (now:=now) so).2]
 refine(ok.pm.filter _).trans (List.Perm.of_eq ?_)
 rw[List.filter_map]
 congr 1
 apply List.filter_congr
 intro x _
 show(!decide ((x.till:Int)≤now))=_
 by_cases q:now<(x.till:Int)
 ·simp[q]
 ·simp[q];omega
theorem due_perm (ok:okB s L) (so:Sorted L):(Alarm.due L now).Perm ((s.items.filter (fun x=>decide ((x.till:Int)≤now))).map It.kv):=by
 rw[(sorted_split (now:=now) so).1]
 refine(ok.pm.filter _).trans (List.Perm.of_eq ?_)
 rw[List.filter_map]
 rfl
end Obx
end Go.Proofs.YtgccegnmggjkjaaGreatDoor
set_option maxRecDepth 100000
set_option maxHeartbeats 4000000
namespace Go.Proofs.YtgccegnmggjkjaaGreatDoor
open Go.Den
variable {h : Heap} {R : Value → Heap → Prop}
theorem quota_Purse_made.walk {p : Nat} (hv :
 ∃ t9, hcell h ⟨p, 2, none⟩ = some (.map t9) ∧
 R (.bool (!t9.isNone)) h) : CallsH Tryz.prog F.quota_Purse_made #[.pointer (some ⟨p, 0, none⟩)] h R :=
 callsH_of_body (.seq .leaf (.seq .leaf .leaf)) Tryz.func137 rfl rfl (Eq.mp (by kernel_rfl) hv)
theorem quota_New.walk {whole : Int} {share : Int} (hv :
 JoinP (fun (t20 : Bool) (h_1 : Heap) =>
 if t20 = true then
 R (.tuple #[.pointer none, .int .i64 1]) h_1
 else
 NewP h_1 (.map #[] 0) fun b h_2 =>
 NewP h_2 (.cells #[.int .i64 whole, .int .i64 share, .map (some b), .int .i64 0] T.quota_Purse) fun b_1 h_3 =>
 R (.tuple #[.pointer (some ⟨b_1, 0, none⟩), .int .i64 0]) h_3)
 (fun J =>
 if (decide (whole < 1)) = true then
 J true h
 else
 if (decide (whole > 1048576)) = true then
 J true h
 else
 if (decide (share < 1)) = true then
 J true h
 else
 J (decide (share > whole)) h)) : CallsH Tryz.prog F.quota_New #[.int .i64 whole, .int .i64 share] h R :=
 callsH_of_body (.seq .leaf (.seq (.seq (.join [(20, .one (.bool))] .leaf) (.cond (.seq .leaf .leaf) .leaf)) (.seq .leaf .leaf))) Tryz.func105 rfl rfl (Eq.mp (by kernel_rfl) hv)
theorem quota_Purse_Used.walk {p : Nat} {owner : Int} (hv :
 Cl F.quota_Purse_made #[.pointer (some ⟨p, 0, none⟩)] h fun v h_1 =>
 ∃ t6, v = .bool t6 ∧
 if (!t6) = true then
 R (.int .i64 0) h_1
 else
 ∃ t11, hcell h_1 ⟨p, 2, none⟩ = some (.map t11) ∧
 ∃ t13, LookV Tryz.prog T.m_int_int (.map t11) (.int .i64 owner) false h_1 (.int .i64 t13) ∧
 R (.int .i64 t13) h_1) : CallsH Tryz.prog F.quota_Purse_Used #[.pointer (some ⟨p, 0, none⟩), .int .i64 owner] h R :=
 callsH_of_body (.seq .leaf (.seq (.seq .leaf (.cond (.seq .leaf .leaf) .leaf)) (.seq .leaf .leaf))) Tryz.func103 rfl rfl (Eq.mp (by kernel_rfl) hv)
theorem quota_Purse_All.walk {p : Nat} (hv :
 Cl F.quota_Purse_made #[.pointer (some ⟨p, 0, none⟩)] h fun v h_1 =>
 ∃ t4, v = .bool t4 ∧
 if (!t4) = true then
 R (.int .i64 0) h_1
 else
 ∃ t9, hcell h_1 ⟨p, 3, none⟩ = some (.int .i64 t9) ∧
 R (.int .i64 t9) h_1) : CallsH Tryz.prog F.quota_Purse_All #[.pointer (some ⟨p, 0, none⟩)] h R :=
 callsH_of_body (.seq .leaf (.seq (.seq .leaf (.cond (.seq .leaf .leaf) .leaf)) (.seq .leaf .leaf))) Tryz.func54 rfl rfl (Eq.mp (by kernel_rfl) hv)
theorem quota_Purse_ask.walk {p : Nat} {owner : Int} {n : Int} (hv :
 Cl F.quota_Purse_made #[.pointer (some ⟨p, 0, none⟩)] h fun v h_1 =>
 ∃ t9, v = .bool t9 ∧
 if (!t9) = true then
 R (.int .i64 6) h_1
 else
 JoinP (fun (t11 : Bool) (h_2 : Heap) =>
 if t11 = true then
 R (.int .i64 1) h_2
 else
 R (.int .i64 0) h_2)
 (fun J =>
 if (decide (owner < 1)) = true then
 J true h_1
 else
 if (decide (owner > 1099511627776)) = true then
 J true h_1
 else
 J (decide (n < 0)) h_1)) : CallsH Tryz.prog F.quota_Purse_ask #[.pointer (some ⟨p, 0, none⟩), .int .i64 owner, .int .i64 n] h R :=
 callsH_of_body (.seq .leaf (.seq (.block (.seq .leaf (.cond (.seq .leaf .leaf) (.seq (.join [(11, .one (.bool))] .leaf) (.cond (.seq .leaf .leaf) .leaf))))) (.seq .leaf .leaf))) Tryz.func172 rfl rfl (Eq.mp (by kernel_rfl) hv)
theorem quota_Purse_Take.walk {p : Nat} {owner : Int} {n : Int} (hv :
 Cl F.quota_Purse_ask #[.pointer (some ⟨p, 0, none⟩), .int .i64 owner, .int .i64 n] h fun v h_1 =>
 ∃ t11, v = .int .i64 t11 ∧
 if (t11 != 0) = true then
 R (.int .i64 t11) h_1
 else
 JoinP (fun (t40 : Bool) (h_2 : Heap) =>
 if t40 = true then
 R (.int .i64 15) h_2
 else
 JoinP (fun (h_3 : Heap) =>
 R (.int .i64 0) h_3)
 (fun J_1 =>
 if (decide (n > 0)) = true then
 ∃ t46, hcell h_2 ⟨p, 2, none⟩ = some (.map t46) ∧
 ∃ t48, LookV Tryz.prog T.m_int_int (.map t46) (.int .i64 owner) false h_2 (.int .i64 t48) ∧
 denSem Tryz.prog (Instr.mapUpdate T.m_int_int (.map t46) (.int .i64 owner) (.int .i64 (IntKind.wrap .i64 (t48 + n)))) h_2 fun _ h_4 =>
 ∃ t54, hcell h_4 ⟨p, 3, none⟩ = some (.int .i64 t54) ∧
 StoreP h_4 ⟨p, 3, none⟩ (.int .i64 (IntKind.wrap .i64 (t54 + n))) fun h_5 =>
 J_1 h_5
 else
 J_1 h_2))
 (fun J =>
 ∃ t19, hcell h_1 ⟨p, 1, none⟩ = some (.int .i64 t19) ∧
 ∃ t23, hcell h_1 ⟨p, 2, none⟩ = some (.map t23) ∧
 ∃ t25, LookV Tryz.prog T.m_int_int (.map t23) (.int .i64 owner) false h_1 (.int .i64 t25) ∧
 if (decide (n > (IntKind.wrap .i64 (t19 - t25)))) = true then
 J true h_1
 else
 ∃ t33, hcell h_1 ⟨p, 0, none⟩ = some (.int .i64 t33) ∧
 ∃ t37, hcell h_1 ⟨p, 3, none⟩ = some (.int .i64 t37) ∧
 J (decide (n > (IntKind.wrap .i64 (t33 - t37)))) h_1)) : CallsH Tryz.prog F.quota_Purse_Take #[.pointer (some ⟨p, 0, none⟩), .int .i64 owner, .int .i64 n] h R :=
 callsH_of_body (.seq .leaf (.seq (.seq .leaf (.seq .leaf (.cond (.seq .leaf .leaf) .leaf))) (.seq (.seq (.join [(40, .one (.bool))] (.plan (.op 0 (.op 1 (.op 2 (.op 3 (.op 4 (.op 5 (.op 6 (.op 7 (.op 8 (.op 9 (.op 10 (.op 11 (.op 12 (.op 13 (.op 14 (.op 15 (.op 16 (.op 17 (.op 18 (.op 19 (.op 20 (.op 21 (.op 22 (.op 23 (.op 24 (.op 25 .done)))))))))))))))))))))))))))) (.cond (.seq .leaf .leaf) .leaf)) (.seq (.seq .leaf (.join [] (.cond (.seq .leaf .leaf) .leaf))) (.seq .leaf .leaf))))) Tryz.func122 rfl rfl (Eq.mp (by kernel_rfl) hv)
theorem quota_Purse_Fits.walk {p : Nat} {owner : Int} {n : Int} (hv :
 Cl F.quota_Purse_ask #[.pointer (some ⟨p, 0, none⟩), .int .i64 owner, .int .i64 n] h fun v h_1 =>
 ∃ t10, v = .int .i64 t10 ∧
 if (t10 == 0) = true then
 ∃ t17, hcell h_1 ⟨p, 1, none⟩ = some (.int .i64 t17) ∧
 ∃ t21, hcell h_1 ⟨p, 2, none⟩ = some (.map t21) ∧
 ∃ t23, LookV Tryz.prog T.m_int_int (.map t21) (.int .i64 owner) false h_1 (.int .i64 t23) ∧
 if (decide (n ≤ (IntKind.wrap .i64 (t17 - t23)))) = true then
 ∃ t32, hcell h_1 ⟨p, 0, none⟩ = some (.int .i64 t32) ∧
 ∃ t36, hcell h_1 ⟨p, 3, none⟩ = some (.int .i64 t36) ∧
 R (.bool (decide (n ≤ (IntKind.wrap .i64 (t32 - t36))))) h_1
 else
 R (.bool false) h_1
 else
 R (.bool false) h_1) : CallsH Tryz.prog F.quota_Purse_Fits #[.pointer (some ⟨p, 0, none⟩), .int .i64 owner, .int .i64 n] h R :=
 callsH_of_body (.seq .leaf (.seq (.plan (.op 0 (.op 1 (.op 2 (.op 3 (.op 4 (.op 5 (.op 6 (.op 7 (.op 8 (.op 9 (.op 10 (.op 11 (.op 12 (.op 13 (.op 14 (.op 15 (.op 16 (.op 17 (.op 18 (.op 19 (.op 20 (.op 21 (.op 22 (.op 23 (.op 24 (.op 25 (.op 26 (.op 27 (.op 28 (.op 29 (.op 30 (.op 31 (.op 32 (.op 33 .done))))))))))))))))))))))))))))))))))) .leaf)) Tryz.func120 rfl rfl (Eq.mp (by kernel_rfl) hv)
theorem quota_Purse_Give.walk {p : Nat} {owner : Int} {n : Int} (hv :
 Cl F.quota_Purse_ask #[.pointer (some ⟨p, 0, none⟩), .int .i64 owner, .int .i64 n] h fun v h_1 =>
 ∃ t11, v = .int .i64 t11 ∧
 if (t11 != 0) = true then
 R (.int .i64 t11) h_1
 else
 ∃ t19, hcell h_1 ⟨p, 2, none⟩ = some (.map t19) ∧
 ∃ t21, LookV Tryz.prog T.m_int_int (.map t19) (.int .i64 owner) false h_1 (.int .i64 t21) ∧
 if (decide (n > t21)) = true then
 R (.int .i64 7) h_1
 else
 ∃ t26, hcell h_1 ⟨p, 3, none⟩ = some (.int .i64 t26) ∧
 StoreP h_1 ⟨p, 3, none⟩ (.int .i64 (IntKind.wrap .i64 (t26 - n))) fun h_2 =>
 ∃ t34, hcell h_2 ⟨p, 2, none⟩ = some (.map t34) ∧
 ∃ t36, LookV Tryz.prog T.m_int_int (.map t34) (.int .i64 owner) false h_2 (.int .i64 t36) ∧
 denSem Tryz.prog (Instr.mapUpdate T.m_int_int (.map t34) (.int .i64 owner) (.int .i64 (IntKind.wrap .i64 (t36 - n)))) h_2 fun _ h_3 =>
 ∃ t42, hcell h_3 ⟨p, 2, none⟩ = some (.map t42) ∧
 ∃ t44, LookV Tryz.prog T.m_int_int (.map t42) (.int .i64 owner) false h_3 (.int .i64 t44) ∧
 JoinP (fun (h_4 : Heap) =>
 R (.int .i64 0) h_4)
 (fun J =>
 if (t44 == 0) = true then
 ∃ t49, hcell h_3 ⟨p, 2, none⟩ = some (.map t49) ∧
 denSem Tryz.prog (Builtin.delete_ #[T.m_int_int, T.int] T.tup_ #[.map t49, .int .i64 owner]) h_3 fun v_1 h_5 =>
 v_1 = .tuple #[] ∧
 J h_5
 else
 J h_3)) : CallsH Tryz.prog F.quota_Purse_Give #[.pointer (some ⟨p, 0, none⟩), .int .i64 owner, .int .i64 n] h R :=
 callsH_of_body (.seq .leaf (.seq (.seq .leaf (.seq .leaf (.cond (.seq .leaf .leaf) .leaf))) (.seq (.seq .leaf (.cond (.seq .leaf .leaf) .leaf)) (.seq .leaf (.seq .leaf (.seq (.seq .leaf (.join [] (.cond .leaf .leaf))) (.seq .leaf .leaf))))))) Tryz.func124 rfl rfl (Eq.mp (by kernel_rfl) hv)
end Go.Proofs.YtgccegnmggjkjaaGreatDoor
set_option maxRecDepth 100000
namespace Go.Proofs.YtgccegnmggjkjaaGreatDoor
open Go.Den
namespace Quota
theorem tm:MapTy Tryz.prog T.m_int_int (.int .i64 0):= .of T.int T.int .i64 (by kernel_rfl) (by kernel_rfl) (by kernel_rfl)
def PurseAt (h:Heap) (p m:Nat) (W S A:Int) (f:Int→Int):Prop:=
 h[p]? =some (.cells #[.int .i64 W, .int .i64 S, .map (some m), .int .i64 A] T.quota_Purse (0,0))∧
 ∃g:Int→Option Value,MapF h m g∧ ∀k,(g k).getD (.int .i64 0)= .int .i64 (f k)
def Ok (W S A:Int) (f:Int→Int):Prop:=1≤S∧S≤W∧W≤1048576∧ -2000000000000≤A∧A≤W∧ ∀k,0≤f k∧f k≤S
variable {h : Heap} {p m : Nat} {W S A : Int} {f : Int → Int} {R : Value → Heap → Prop}
theorem PurseAt.frame {Q:Nat→Prop} {h':Heap} (hp:PurseAt h p m W S A f) (hf:Fr Q h h') (h1: ¬Q p) (h2: ¬Q m):PurseAt h' p m W S A f:=by
 obtain⟨hb,g,hg,hgf⟩:=hp
 exact⟨hf.get hb h1,g,hg.frame hf h2,hgf⟩
theorem PurseAt.ne (hp:PurseAt h p m W S A f):p≠m:=by
 obtain⟨hb,g,hg,_⟩:=hp
 obtain⟨es,c,hm⟩:=hg.map
 rintro rfl
 rw[hb] at hm;cases hm
theorem PurseAt.lt (hp:PurseAt h p m W S A f):p<h.size∧m<h.size:=⟨lt_of_get hp.1,by obtain⟨_,g,hg,_⟩:=hp;exact hg.lt⟩
theorem PurseAt.ext {f':Int→Int} (hp:PurseAt h p m W S A f) (he: ∀k,f' k=f k):PurseAt h p m W S A f':=by
 obtain⟨hb,g,hg,hgf⟩:=hp
 exact⟨hb,g,hg,fun k=>by rw[he];exact hgf k⟩
theorem made_ok (hp:PurseAt h p m W S A f) (hk:R (.bool true) h):CallsH Tryz.prog F.quota_Purse_made #[.pointer (some ⟨p,0,none⟩)] h R:=
 quota_Purse_made.walk ⟨some m,cell_at hp.1 rfl,hk⟩
theorem look (hp:PurseAt h p m W S A f) (o:Int):LookV Tryz.prog T.m_int_int (.map (some m)) (.int .i64 o) false h (.int .i64 (f o)):=by
 obtain⟨_,g,hg,hgf⟩:=hp
 have:=lookV_map tm hg o
 rw[hgf] at this
 exact this
theorem used_ok (hp:PurseAt h p m W S A f) (o:Int) (hk:R (.int .i64 (f o)) h):CallsH Tryz.prog F.quota_Purse_Used #[.pointer (some ⟨p,0,none⟩), .int .i64 o] h R:=
 quota_Purse_Used.walk (made_ok hp ⟨true,rfl,some m,cell_at hp.1 rfl,f o,look hp o,hk⟩)
theorem all_ok (hp:PurseAt h p m W S A f) (hk:R (.int .i64 A) h):CallsH Tryz.prog F.quota_Purse_All #[.pointer (some ⟨p,0,none⟩)] h R:=
 quota_Purse_All.walk (made_ok hp ⟨true,rfl,A,cell_at hp.1 rfl,hk⟩)
def may (o n:Int):Bool:=decide (1≤o) && decide (o≤1099511627776) && decide (0≤n)
def askE (o n:Int):Int:=if may o n=true then 0 else 1
theorem may_iff {o n:Int} :may o n=true↔1≤o∧o≤1099511627776∧0≤n:=by simp[may,and_assoc]
theorem ask_ok (hp:PurseAt h p m W S A f) (o n:Int) (hk:R (.int .i64 (askE o n)) h):CallsH Tryz.prog F.quota_Purse_ask #[.pointer (some ⟨p,0,none⟩), .int .i64 o, .int .i64 n] h R:=by
 refine quota_Purse_ask.walk (made_ok hp ⟨true,rfl, ?_⟩)
 simp only[JoinP]
 unfold askE may at hk
 by_cases h1:o<1
 ·simpa[h1,show¬1≤o by omega] using hk
 ·by_cases h2:o>1099511627776
  ·simpa[h1,h2,show¬o≤1099511627776 by omega] using hk
  ·by_cases h3:n<0
   ·simpa[h1,h2,h3,show¬0≤n by omega] using hk
   ·simpa[h1,h2,h3,show 1≤o by omega,show o≤1099511627776 by omega,show 0≤n by omega] using hk
def fits (W S A:Int) (f:Int→Int) (o n:Int):Bool:=may o n && decide (n≤S - f o) && decide (n≤W - A)
def takeE (W S A:Int) (f:Int→Int) (o n:Int):Int:=if may o n=true then(if fits W S A f o n=true then 0 else 15) else 1
def addF (f:Int→Int) (o n:Int):Int→Int:=fun k=>if k=o then f k+n else f k
theorem fits_iff {o n:Int} :fits W S A f o n=true↔(1≤o∧o≤1099511627776∧0≤n)∧n≤S - f o∧n≤W - A:=by
 simp[fits,may_iff,and_assoc]
theorem Ok.take {o n:Int} (ok:Ok W S A f) (hf:fits W S A f o n=true):Ok W S (A+n) (addF f o n):=by
 obtain⟨o1,o2,o3,o4,o5,o6⟩:=ok
 obtain⟨⟨h1,h2,h3⟩,h4,h5⟩:=fits_iff.1 hf
 refine⟨o1,o2,o3,by omega,by omega,fun k=> ?_⟩
 have:=o6 k
 unfold addF
 split
 ·rename_i e;subst e;omega
 ·exact this
theorem take_ok (hp:PurseAt h p m W S A f) (ok:Ok W S A f) (o n:Int)
  (k1:fits W S A f o n=true→ ∀h',PurseAt h' p m W S (A+n) (addF f o n)→Fr (fun c=>c=p∨c=m) h h'→R (.int .i64 0) h')
  (k2:fits W S A f o n=false→R (.int .i64 (takeE W S A f o n)) h):
  CallsH Tryz.prog F.quota_Purse_Take #[.pointer (some ⟨p,0,none⟩), .int .i64 o, .int .i64 n] h R:=by
 obtain⟨o1,o2,o3,o4,o5,o6⟩:=ok
 have of:=o6 o
 refine quota_Purse_Take.walk (ask_ok hp o n ⟨_,rfl, ?_⟩)
 unfold takeE at k2
 unfold askE
 cases hm:may o n with
 |false=>
  have:=k2 (by simp[fits,hm])
  simpa[hm] using this
 |true=>
  have hm':=may_iff.1 hm
  simp only[if_true,bne_self_eq_false,Bool.false_eq_true,if_false,JoinP]
  refine⟨S,cell_at hp.1 rfl,some m,cell_at hp.1 rfl,f o,look hp o, ?_⟩
  rw[wrap_id (by omega) (by omega)]
  by_cases h1:n>S - f o
  ·have hf:fits W S A f o n=false:=by simp[fits,show¬n≤S - f o by omega]
   have:=k2 hf
   simpa[h1,hm,hf] using this
  ·simp only[h1,decide_false,Bool.false_eq_true,if_false]
   refine⟨W,cell_at hp.1 rfl,A,cell_at hp.1 rfl, ?_⟩
   rw[wrap_id (by omega) (by omega)]
   by_cases h2:n>W - A
   ·have hf:fits W S A f o n=false:=by simp[fits,show¬n≤W - A by omega]
    have:=k2 hf
    simpa[h2,hm,hf] using this
   ·have hf:fits W S A f o n=true:=by simp[fits,hm,show n≤S - f o by omega,show n≤W - A by omega]
    simp only[h2,decide_false,Bool.false_eq_true,if_false]
    by_cases h3:n>0
    ·simp only[h3,decide_true,if_true]
     refine⟨some m,cell_at hp.1 rfl,f o,look hp o, ?_⟩
     rw[wrap_id (by omega) (by omega)]
     have hne:=hp.ne
     obtain⟨hb,g,hg,hgf⟩:=hp
     refine den_mapUpdateF tm hg ?_
     intro h4 hg4 hs4 ho4
     have hb4:=(ho4 p hne).trans hb
     refine⟨A,cell_at hb4 rfl, ?_⟩
     rw[wrap_id (by omega) (by omega)]
     refine storeP_blk hb4 (by simp) ?_
     intro h5 hb5 hs5 ho5
     refine k1 hf h5 ⟨hb5,_,hg4.of_get (ho5 m (Ne.symm hne)),fun k=> ?_⟩ (Fr.of_eq (by omega) fun c hc=> ?_)
     ·unfold addF
      by_cases hk:k=o
      ·simp[hk]
      ·simp[hk,hgf]
     ·rw[ho5 c (fun e=>hc (.inl e)),ho4 c (fun e=>hc (.inr e))]
    ·have hn0:n=0:=by omega
     simp only[h3,decide_false,Bool.false_eq_true,if_false]
     refine k1 hf h ?_ (Fr.refl _ _)
     subst hn0
     rw[Int.add_zero]
     exact hp.ext fun k=>by unfold addF;split<;>omega
theorem fits_ok (hp:PurseAt h p m W S A f) (ok:Ok W S A f) (o n:Int) (hk:R (.bool (fits W S A f o n)) h):CallsH Tryz.prog F.quota_Purse_Fits #[.pointer (some ⟨p,0,none⟩), .int .i64 o, .int .i64 n] h R:=by
 obtain⟨o1,o2,o3,o4,o5,o6⟩:=ok
 have of:=o6 o
 refine quota_Purse_Fits.walk (ask_ok hp o n ⟨_,rfl, ?_⟩)
 unfold askE
 unfold fits at hk
 cases hm:may o n with
 |false=>simpa[hm] using hk
 |true=>
  simp only[if_true,beq_self_eq_true]
  refine⟨S,cell_at hp.1 rfl,some m,cell_at hp.1 rfl,f o,look hp o, ?_⟩
  rw[wrap_id (by omega) (by omega)]
  by_cases h1:n≤S - f o
  ·simp only[h1,decide_true,if_true]
   refine⟨W,cell_at hp.1 rfl,A,cell_at hp.1 rfl, ?_⟩
   rw[wrap_id (by omega) (by omega)]
   simpa[hm,h1] using hk
  ·simpa[hm,h1] using hk
def gives (f:Int→Int) (o n:Int):Bool:=may o n && decide (n≤f o)
def giveE (f:Int→Int) (o n:Int):Int:=if may o n=true then(if gives f o n=true then 0 else 7) else 1
theorem gives_iff {o n:Int} :gives f o n=true↔(1≤o∧o≤1099511627776∧0≤n)∧n≤f o:=by simp[gives,may_iff,and_assoc]
theorem give_ok (hp:PurseAt h p m W S A f) (ok:Ok W S A f) (o n:Int)
  (k1:gives f o n=true→ ∀h',PurseAt h' p m W S (A - n) (addF f o (-n))→Fr (fun c=>c=p∨c=m) h h'→R (.int .i64 0) h')
  (k2:gives f o n=false→R (.int .i64 (giveE f o n)) h):
  CallsH Tryz.prog F.quota_Purse_Give #[.pointer (some ⟨p,0,none⟩), .int .i64 o, .int .i64 n] h R:=by
 obtain⟨o1,o2,o3,o4,o5,o6⟩:=ok
 have of:=o6 o
 refine quota_Purse_Give.walk (ask_ok hp o n ⟨_,rfl, ?_⟩)
 unfold giveE at k2
 unfold askE
 cases hm:may o n with
 |false=>
  have:=k2 (by simp[gives,hm])
  simpa[hm] using this
 |true=>
  have hm':=may_iff.1 hm
  simp only[if_true,bne_self_eq_false,Bool.false_eq_true,if_false]
  refine⟨some m,cell_at hp.1 rfl,f o,look hp o, ?_⟩
  by_cases h1:n>f o
  ·have hf:gives f o n=false:=by simp[gives,show¬n≤f o by omega]
   have:=k2 hf
   simpa[h1,hm,hf] using this
  ·have hf:gives f o n=true:=by simp[gives,hm,show n≤f o by omega]
   simp only[h1,decide_false,Bool.false_eq_true,if_false]
   have hne:=hp.ne
   obtain⟨hb,g,hg,hgf⟩:=hp
   refine⟨A,cell_at hb rfl, ?_⟩
   rw[wrap_id (by omega) (by omega)]
   refine storeP_blk hb (by simp) ?_
   intro h2 hb2 hs2 ho2
   have hg2:=hg.of_get (ho2 m (Ne.symm hne))
   have hp2:PurseAt h2 p m W S (A - n) f:=⟨hb2,g,hg2,hgf⟩
   refine⟨some m,cell_at hb2 rfl,f o,look hp2 o, ?_⟩
   rw[wrap_id (by omega) (by omega)]
   refine den_mapUpdateF tm hg2 ?_
   intro h3 hg3 hs3 ho3
   have hb3:=(ho3 p hne).trans hb2
   have hp3:PurseAt h3 p m W S (A - n) (addF f o (-n)):=⟨hb3,_,hg3,fun k=>by
    unfold addF
    by_cases hk:k=o
    ·simp[hk,Int.sub_eq_add_neg]
    ·simp[hk,hgf]⟩
   have hfr3:Fr (fun c=>c=p∨c=m) h h3:=Fr.of_eq (by omega) fun c hc=>by rw[ho3 c (fun e=>hc (.inr e)),ho2 c (fun e=>hc (.inl e))]
   have hl:=look hp3 o
   refine⟨some m,cell_at hb3 rfl,addF f o (-n) o,hl, ?_⟩
   simp only[JoinP]
   by_cases hz:addF f o (-n) o=0
   ·simp only[hz,beq_self_eq_true,if_true]
    refine⟨some m,cell_at hb3 rfl, ?_⟩
    refine den_deleteF tm hg3 ?_
    intro h5 hg5 hs5 ho5
    refine⟨rfl,k1 hf h5 ⟨(ho5 p hne).trans hb3,_,hg5,fun k=> ?_⟩ (Fr.of_eq (by omega) fun c hc=> ?_)⟩
    ·by_cases hk:k=o
     ·subst hk;simp[hz]
     ·simp[hk,hgf,addF]
    ·rw[ho5 c (fun e=>hc (.inr e)),ho3 c (fun e=>hc (.inr e)),ho2 c (fun e=>hc (.inl e))]
   ·have hz':(addF f o (-n) o==0)=false:=by simpa using hz
    simp only[hz',Bool.false_eq_true,if_false]
    exact k1 hf h3 hp3 hfr3
def newOk (W S:Int):Bool:=decide (1≤W) && decide (W≤1048576) && decide (1≤S) && decide (S≤W)
theorem newOk_iff:newOk W S=true↔1≤W∧W≤1048576∧1≤S∧S≤W:=by simp[newOk,and_assoc]
theorem new_ok (W S:Int) {h:Heap}
  (k1:newOk W S=true→ ∀h' p m,PurseAt h' p m W S 0 (fun _=>0)→h.size≤p→h.size≤m→Fr (fun _=>False) h h'→R (.tuple #[.pointer (some ⟨p,0,none⟩), .int .i64 0]) h')
  (k2:newOk W S=false→R (.tuple #[.pointer none, .int .i64 1]) h):CallsH Tryz.prog F.quota_New #[.int .i64 W, .int .i64 S] h R:=by
 refine quota_New.walk ?_
 simp only[JoinP]
 by_cases h1:W<1
 ·simpa only[h1,decide_true,if_true] using k2 (by simp[newOk,show¬1≤W by omega])
 ·simp only[h1,decide_false,Bool.false_eq_true,if_false]
  by_cases h2:W>1048576
  ·simpa only[h2,decide_true,if_true] using k2 (by simp[newOk,show¬W≤1048576 by omega])
  ·simp only[h2,decide_false,Bool.false_eq_true,if_false]
   by_cases h3:S<1
   ·simpa only[h3,decide_true,if_true] using k2 (by simp[newOk,show¬1≤S by omega])
   ·simp only[h3,decide_false,Bool.false_eq_true,if_false]
    by_cases h4:S>W
    ·simpa only[h4,decide_true,if_true] using k2 (by simp[newOk,show¬S≤W by omega])
    ·simp only[h4,decide_false,Bool.false_eq_true,if_false]
     rintro b h2' rfl rfl b1 h3' rfl rfl
     refine k1 (newOk_iff.2 (by omega)) _ _ h.size ⟨push_new,fun _=>none, ?_,fun _=>rfl⟩ (by simp) (by simp) ?_
     ·exact(MapF.push h).frame (Fr.push (S:=fun _=>False) _ _) (by simp)
     ·exact(Fr.push (S:=fun _=>False) h _).trans (Fr.push (S:=fun _=>False) _ _) (fun _ _ hx=>hx) (fun _ _ hx=>hx)
end Quota
end Go.Proofs.YtgccegnmggjkjaaGreatDoor
set_option maxRecDepth 100000
namespace Go.Proofs.YtgccegnmggjkjaaGreatDoor
open Go.Den
namespace Stt
open Obx (It)
variable {l l' : List It} {x : It} {o : Int}
def tot (l:List It):Int:=(l.map (fun x=>(x.d.length:Int))).sum
def own (l:List It) (o:Int):Int:=tot (l.filter (fun x=>decide (x.owner=o)))
theorem tot_perm (p:l.Perm l'):tot l=tot l':=by
 induction p with
 |nil=>rfl
 |cons x _ ih=>unfold tot at ih⊢;simp only[List.map_cons,List.sum_cons];omega
 |swap x y l=>unfold tot;simp only[List.map_cons,List.sum_cons];omega
 |trans _ _ h1 h2=>exact h1.trans h2
theorem own_perm (p:l.Perm l'):own l=own l':=funext fun o=>tot_perm (p.filter _)
theorem tot_cons:tot (x::l)=x.d.length+tot l:=by unfold tot;rw[List.map_cons,List.sum_cons]
theorem own_cons:own (x::l) o=(if x.owner=o then(x.d.length:Int) else 0)+own l o:=by
 unfold own
 rw[List.filter_cons]
 split<;>rename_i h
 ·rw[tot_cons,if_pos (of_decide_eq_true h)]
 ·rw[if_neg (fun e=>h (decide_eq_true e))];omega
theorem tot_nn:0≤tot l:=by
 induction l with
 |nil=>exact Int.le_refl _
 |cons x l ih=>rw[tot_cons];omega
theorem own_nn:0≤own l o:=tot_nn
theorem own_le (hx:x∈l):(x.d.length:Int)≤own l x.owner:=by
 obtain⟨a,b,rfl⟩:=List.append_of_mem hx
 rw[own_perm List.perm_middle,own_cons,if_pos rfl]
 have:=own_nn (l:=a++b) (o:=x.owner);omega
abbrev okQ (l:List It):Prop:=Quota.Ok 4800 1600 (tot l) (own l)
theorem okQ.perm (ok:okQ l) (p:l.Perm l'):okQ l':=by
 unfold okQ;rw[←tot_perm p,←own_perm p];exact ok
theorem okQ.sub (ok:okQ (x::l)):okQ l:=by
 obtain⟨a,b,c,d,e,f⟩:=ok
 rw[tot_cons] at d e
 have:=tot_nn (l:=l)
 refine⟨a,b,c,by omega,by omega,fun k=>⟨own_nn, ?_⟩⟩
 have:=(f k).2
 rw[own_cons] at this
 split at this<;>omega
theorem okQ.nil:okQ []:=⟨by decide,by decide,by decide,by decide,by decide,fun _=>⟨Int.le_refl 0,show(0:Int)≤1600 by decide⟩⟩
theorem own_add:Quota.addF (own l) x.owner (x.d.length:Int)=own (x::l):=by
 funext k
 unfold Quota.addF
 rw[own_cons]
 by_cases e:k=x.owner
 ·rw[if_pos e,if_pos e.symm];omega
 ·rw[if_neg e,if_neg (fun q=>e q.symm)];omega
theorem own_give:Quota.addF (own (x::l)) x.owner (-(x.d.length:Int))=own l:=by
 funext k
 unfold Quota.addF
 rw[own_cons]
 by_cases e:k=x.owner
 ·rw[if_pos e,if_pos e.symm];omega
 ·rw[if_neg e,if_neg (fun q=>e q.symm)];omega
theorem tot_append {a b:List It} :tot (a++b)=tot a+tot b:=by
 induction a with
 |nil=>show tot b=0+tot b;omega
 |cons x a ih=>rw[List.cons_append,tot_cons,tot_cons,ih];omega
theorem own_append {a b:List It} {o:Int} :own (a++b) o=own a o+own b o:=by unfold own;rw[List.filter_append,tot_append]
theorem take_own {l:List It} {j:Nat} {x:It} (hx:l[j]? =some x) (o:Int):own (l.take (j+1)) o=own (l.take j) o+(if x.owner=o then(x.d.length:Int) else 0):=by
 rw[List.take_add_one,hx,own_append]
 show _+own [x] o=_
 rw[own_cons];show _+(_+0)=_;omega
theorem take_tot {l:List It} {j:Nat} {x:It} (hx:l[j]? =some x):tot (l.take (j+1))=tot (l.take j)+(x.d.length:Int):=by
 rw[List.take_add_one,hx,tot_append]
 show _+tot [x]=_
 rw[tot_cons];show _+(_+0)=_;omega
theorem take_le (l:List It) (j:Nat):tot (l.take j)≤tot l∧ ∀o,own (l.take j) o≤own l o:=by
 refine⟨?_,fun o=> ?_⟩
 ·conv=>rhs;rw[←List.take_append_drop j l]
  rw[tot_append];have:=tot_nn (l:=l.drop j);omega
 ·conv=>rhs;rw[←List.take_append_drop j l]
  rw[own_append];have:=own_nn (l:=l.drop j) (o:=o);omega
def okI (x:It):Prop:=1≤x.d.length∧x.d.length≤600∧1≤x.owner∧x.owner≤1099511627776
section
variable {h h' : Heap} {R : Value → Heap → Prop} {p m : Nat}
abbrev Pu (h:Heap) (p m:Nat) (l:List It):Prop:=Quota.PurseAt h p m 4800 1600 (tot l) (own l)
theorem Pu.perm (H:Pu h p m l) (q:l.Perm l'):Pu h p m l':=by
 unfold Pu;rw[←tot_perm q,←own_perm q];exact H
theorem give1 {n:Int} (H:Pu h p m (x::l)) (ok:okQ (x::l)) (k:okI x) (hn:n=(x.d.length:Int)) (hk: ∀h',Pu h' p m l→Fr (fun c=>c=p∨c=m) h h'→R (.int .i64 0) h'):
  CallsH Tryz.prog F.quota_Purse_Give #[.pointer (some ⟨p,0,none⟩), .int .i64 x.owner, .int .i64 n] h R:=by
 subst hn
 have g:Quota.gives (own (x::l)) x.owner (x.d.length:Int)=true:=Quota.gives_iff.2 ⟨⟨k.2.2.1,k.2.2.2,by omega⟩,own_le (by simp)⟩
 refine Quota.give_ok H ok _ _ (fun _ h' H' f'=>hk h' ?_ f') (fun e=>by rw[g] at e;cases e)
 rw[own_give,tot_cons,show(x.d.length:Int)+tot l - x.d.length=tot l by omega] at H'
 exact H'
end
end Stt
end Go.Proofs.YtgccegnmggjkjaaGreatDoor
namespace Go.Den
variable {h h' : Heap} {X : Ft} {j : Nat}
def In (X:Ft) (y:Nat):Prop:=X.M y∨X.D y
abbrev only (X:Ft) (P:Nat→Prop):Prop:= ∀y,(X.M y↔P y)∧ ¬X.D y
abbrev pt (b:Nat):Value:= .pointer (some ⟨b,0,none⟩)
structure Stable (P:Nat→Heap→Ft→Prop):Prop where
 lt: ∀ {i h X},P i h X→ ∀y,In X y→y<h.size
 frame: ∀ {i h h' X} {Q:Nat→Prop},P i h X→Fr Q h h'→(∀y,In X y→ ¬Q y)→P i h' X
 dis: ∀ {i h X},P i h X→ ∀y,X.M y→X.D y→False
def Fam (P:Nat→Heap→Ft→Prop) (h:Heap) (X:Ft):Prop:= ∃Y:Nat→Ft,(∀i,P i h (Y i))∧(∀i j y,i≠j→In (Y i) y→ ¬In (Y j) y)∧(∀y,X.M y↔ ∃i,(Y i).M y)∧ ∀y,X.D y↔ ∃i,(Y i).D y
variable {P P' : Nat → Heap → Ft → Prop}
theorem Fam.lt (S:Stable P) (H:Fam P h X) (y:Nat) (hy:X.M y∨X.D y):y<h.size:=by
 obtain⟨Y,hp,_,hm,hd⟩:=H
 rcases hy with hy|hy
 ·obtain⟨i,hi⟩:=(hm y).1 hy;exact S.lt (hp i) y (.inl hi)
 ·obtain⟨i,hi⟩:=(hd y).1 hy;exact S.lt (hp i) y (.inr hi)
theorem Fam.dis (S:Stable P) (H:Fam P h X) (y:Nat) (a:X.M y) (b:X.D y):False:=by
 obtain⟨Y,hp,ap,hm,hd⟩:=H
 obtain⟨i,hi⟩:=(hm y).1 a
 obtain⟨j,hj⟩:=(hd y).1 b
 by_cases e:i=j
 ·subst e;exact S.dis (hp i) y hi hj
 ·exact ap i j y e (.inl hi) (.inr hj)
theorem Fam.frame {Q:Nat→Prop} (S:Stable P) (H:Fam P h X) (f:Fr Q h h') (hq: ∀y,X.M y∨X.D y→ ¬Q y):Fam P h' X:=by
 obtain⟨Y,hp,ap,hm,hd⟩:=H
 exact⟨Y,fun i=>S.frame (hp i) f (fun y hy=>hq y (hy.imp (fun a=>(hm y).2 ⟨i,a⟩) (fun a=>(hd y).2 ⟨i,a⟩))),ap,hm,hd⟩
theorem Fam.use (S:Stable P) (H:Fam P h X) (j:Nat): ∃Z,P j h Z∧(∀y,Z.M y→X.M y)∧(∀y,Z.D y→X.D y)∧ ∀h' Z' P',P' j h' Z'→StepF Z h Z' h'→(∀i,i≠j→P' i=P i)→
  ∃X',Fam P' h' X'∧StepF X h X' h'∧(∀y,Z'.D y→X'.D y)∧ ∀y,h.size≤y→X'.M y∨X'.D y→Z'.M y∨Z'.D y:=by
 obtain⟨Y,hp,ap,hm,hd⟩:=H
 refine⟨Y j,hp j,fun y a=>(hm y).2 ⟨j,a⟩,fun y a=>(hd y).2 ⟨j,a⟩,fun h' Z' P' hj st hs=> ?_⟩
 have old: ∀i y,i≠j→In (Y i) y→ ¬In Z' y:=fun i y hi hy hz=>by
  have l:=S.lt (hp i) y hy
  rcases hz with hz|hz
  ·rcases st.newM y hz with a|a
   ·exact ap i j y hi hy (.inl a)
   ·omega
  ·rcases st.newD y hz with a|a
   ·exact ap i j y hi hy (.inr a)
   ·omega
 refine⟨⟨fun y=> ∃i,(if i=j then Z' else Y i).M y,fun y=> ∃i,(if i=j then Z' else Y i).D y⟩,⟨fun i=>if i=j then Z' else Y i,fun i=> ?_,fun i k y hik hy hz=> ?_,fun _=>Iff.rfl,fun _=>Iff.rfl⟩,⟨st.fr.mono (fun y _ a=>(hm y).2 ⟨j,a⟩), ?_, ?_, ?_⟩,fun y a=>⟨j,by rw[if_pos rfl];exact a⟩, ?_⟩
 ·show P' i h' (if i=j then Z' else Y i)
  by_cases e:i=j
  ·rw[if_pos e,e];exact hj
  ·rw[if_neg e,hs i e]
   exact S.frame (hp i) st.fr (fun y hy a=>ap i j y e hy (.inl a))
 ·dsimp only at hy hz
  by_cases e:i=j
  ·rw[if_pos e] at hy;rw[if_neg (fun q=>hik (e.trans q.symm))] at hz
   exact old k y (fun q=>hik (e.trans q.symm)) hz hy
  ·rw[if_neg e] at hy
   by_cases e2:k=j
   ·rw[if_pos e2] at hz;exact old i y e hy hz
   ·rw[if_neg e2] at hz;exact ap i k y hik hy hz
 ·rintro y ⟨i,a⟩
  by_cases e:i=j
  ·rw[if_pos e] at a;exact(st.newM y a).imp (fun b=>(hm y).2 ⟨j,b⟩) id
  ·rw[if_neg e] at a;exact .inl ((hm y).2 ⟨i,a⟩)
 ·rintro y ⟨i,a⟩
  by_cases e:i=j
  ·rw[if_pos e] at a;exact(st.newD y a).imp (fun b=>(hd y).2 ⟨j,b⟩) id
  ·rw[if_neg e] at a;exact .inl ((hd y).2 ⟨i,a⟩)
 ·intro y a
  obtain⟨i,a⟩:=(hd y).1 a
  by_cases e:i=j
  ·exact⟨j,by rw[if_pos rfl];exact st.oldD y (e▸a)⟩
  ·exact⟨i,by rw[if_neg e];exact a⟩
 ·intro y hy a
  have key: ∀i,In (if i=j then Z' else Y i) y→Z'.M y∨Z'.D y:=fun i a=>by
   by_cases e:i=j
   ·rw[if_pos e] at a;exact a
   ·rw[if_neg e] at a;have:=S.lt (hp i) y a;omega
  rcases a with⟨i,a⟩|⟨i,a⟩
  ·exact key i (.inl a)
  ·exact key i (.inr a)
end Go.Den
set_option maxRecDepth 100000
set_option maxHeartbeats 4000000
namespace Go.Proofs.YtgccegnmggjkjaaGreatDoor
open Go.Den
variable {h : Heap} {R : Value → Heap → Prop}
theorem sessions_New.walk  (hv :
 NewP h (.cells #[.bool true, .slice none 0 0] T.sessions_Table) fun b h_1 =>
 R (.pointer (some ⟨b, 0, none⟩)) h_1) : CallsH Tryz.prog F.sessions_New #[] h R :=
 callsH_of_body (.seq .leaf (.seq .leaf .leaf)) Tryz.func106 rfl rfl (Eq.mp (by kernel_rfl) hv)
theorem sessions_Table_find.walk {t : Nat} {num : Int} (hv :
 JoinP (fun (t6 : Bool) (h_1 : Heap) =>
 if t6 = true then
 R (.tuple #[.pointer none, .int .i64 6]) h_1
 else
 JoinP (fun (t16 : Bool) (h_2 : Heap) =>
 if t16 = true then
 R (.tuple #[.pointer none, .int .i64 4]) h_2
 else
 ∃ t31_p t31_l t31_c, hcell h_2 ⟨t, 1, none⟩ = some (.slice t31_p t31_l t31_c) ∧
 ((0 : Int) ≤ IntKind.wrap .i64 (num - 1) ∧ IntKind.wrap .i64 (num - 1) < ((t31_l : Nat) : Int)) ∧
 onSome t31_p fun a =>
 ∃ t35, hcell h_2 (a.add (Int.toNat (IntKind.wrap .i64 (num - 1)) * 1)) = some (.pointer t35) ∧
 R (.tuple #[.pointer t35, .int .i64 0]) h_2)
 (fun J_1 =>
 if (decide (num < 1)) = true then
 J_1 true h_1
 else
 ∃ t24_p t24_l t24_c, hcell h_1 ⟨t, 1, none⟩ = some (.slice t24_p t24_l t24_c) ∧
 J_1 (decide (num > ((t24_l : Nat) : Int))) h_1))
 (fun J =>
 ∃ t13, hcell h ⟨t, 0, none⟩ = some (.bool t13) ∧
 J (!t13) h)) : CallsH Tryz.prog F.sessions_Table_find #[.pointer (some ⟨t, 0, none⟩), .int .i64 num] h R :=
 callsH_of_body (.seq .leaf (.seq (.block (.seq (.join [(6, .one (.bool))] .leaf) (.cond (.seq .leaf .leaf) (.seq (.join [(16, .one (.bool))] .leaf) (.cond (.seq .leaf .leaf) .leaf))))) (.seq .leaf .leaf))) Tryz.func258 rfl rfl (Eq.mp (by kernel_rfl) hv)
theorem sessions_Table_of.walk {t : Nat} {token : Int} (hv :
 ∃ t10_p t10_l t10_c, hcell h ⟨t, 1, none⟩ = some (.slice t10_p t10_l t10_c) ∧
 ∃ (I : Int → Heap → Prop) (mu : Int → Heap → Nat), I 0 h ∧ ∀ (t12 : Int) (h_1 : Heap), I t12 h_1 →
 if (decide (t12 < ((t10_l : Nat) : Int))) = true then
 ((0 : Int) ≤ t12 ∧ t12 < ((t10_l : Nat) : Int)) ∧
 onSome t10_p fun a =>
 ∃ t15, hcell h_1 (a.add (Int.toNat t12 * 1)) = some (.pointer t15) ∧
 onSome t15 fun a_1 =>
 ∃ t19, hcell h_1 (a_1.add 1) = some (.int .u64 t19) ∧
 if (t19 == token) = true then
 R (.pointer t15) h_1
 else
 (I (IntKind.wrap .i64 (t12 + 1)) h_1 ∧ mu (IntKind.wrap .i64 (t12 + 1)) h_1 < mu t12 h_1)
 else
 R (.pointer none) h_1) : CallsH Tryz.prog F.sessions_Table_of #[.pointer (some ⟨t, 0, none⟩), .int .u64 token] h R :=
 callsH_of_body (.seq .leaf (.seq (.seq .leaf (.block (.loop [(12, .one (.int .i64))] (.seq .leaf (.seq (.cond .leaf .leaf) (.seq (.block (.seq .leaf (.seq .leaf (.cond (.seq .leaf .leaf) .leaf)))) .leaf)))))) (.seq .leaf .leaf))) Tryz.func166 rfl rfl (Eq.mp (by kernel_rfl) hv)
theorem sessions_Table_Open.walk {t : Nat} {token : Int} (hv :
 JoinP (fun (t7 : Bool) (h_1 : Heap) =>
 if t7 = true then
 R (.tuple #[.int .i64 0, .int .i64 6]) h_1
 else
 JoinP (fun (t17 : Bool) (h_2 : Heap) =>
 if t17 = true then
 R (.tuple #[.int .i64 0, .int .i64 1]) h_2
 else
 Cl F.sessions_Table_of #[.pointer (some ⟨t, 0, none⟩), .int .u64 token] h_2 fun v h_3 =>
 ∃ t27, v = .pointer t27 ∧
 if (!t27.isNone) = true then
 R (.tuple #[.int .i64 0, .int .i64 12]) h_3
 else
 ∃ t33_p t33_l t33_c, hcell h_3 ⟨t, 1, none⟩ = some (.slice t33_p t33_l t33_c) ∧
 if (decide (((t33_l : Nat) : Int) ≥ 8)) = true then
 R (.tuple #[.int .i64 0, .int .i64 5]) h_3
 else
 ∃ t39_p t39_l t39_c, hcell h_3 ⟨t, 1, none⟩ = some (.slice t39_p t39_l t39_c) ∧
 NewP h_3 (.cells #[.int .i64 (IntKind.wrap .i64 (((t39_l : Nat) : Int) + 1)), .int .u64 token, .bool true, .bool false, .slice none 0 0, .slice none 0 0] T.sessions_Session) fun b h_4 =>
 ∃ t49_p t49_l t49_c, hcell h_4 ⟨t, 1, none⟩ = some (.slice t49_p t49_l t49_c) ∧
 NewP h_4 (.cells #[.pointer (some ⟨b, 0, none⟩)] T.p_sessions_Session) fun b_1 h_5 =>
 denSem Tryz.prog (Builtin.append_ #[T.s_p_sessions_Session, T.s_p_sessions_Session] T.s_p_sessions_Session #[.slice t49_p t49_l t49_c, .slice (some ⟨b_1, 0, none⟩) 1 1]) h_5 fun v_1 h_6 =>
 ∃ t52_p t52_l t52_c, v_1 = .slice t52_p t52_l t52_c ∧
 StoreP h_6 ⟨t, 1, none⟩ (.slice t52_p t52_l t52_c) fun h_7 =>
 ∃ t58, hcell h_7 ⟨b, 0, none⟩ = some (.int .i64 t58) ∧
 R (.tuple #[.int .i64 t58, .int .i64 0]) h_7)
 (fun J_1 =>
 if (decide (token < 1)) = true then
 J_1 true h_1
 else
 J_1 (decide (token > 2147483648)) h_1))
 (fun J =>
 ∃ t14, hcell h ⟨t, 0, none⟩ = some (.bool t14) ∧
 J (!t14) h)) : CallsH Tryz.prog F.sessions_Table_Open #[.pointer (some ⟨t, 0, none⟩), .int .u64 token] h R :=
 callsH_of_body (.seq .leaf (.seq (.block (.seq (.join [(7, .one (.bool))] .leaf) (.cond (.seq .leaf .leaf) (.seq (.join [(17, .one (.bool))] .leaf) (.cond (.seq .leaf .leaf) (.seq .leaf (.cond (.seq .leaf .leaf) (.seq .leaf (.cond (.seq .leaf .leaf) .leaf))))))))) (.seq .leaf (.seq .leaf (.seq .leaf .leaf))))) Tryz.func113 rfl rfl (Eq.mp (by kernel_rfl) hv)
theorem sessions_Table_Keep.walk {t : Nat} {num : Int} {id : Int} {data_p : Option Addr} {data_l data_c : Nat} (hv :
 NewP h (.cells #[.int .u64 id] T.uint64) fun b h_1 =>
 Cl F.sessions_Table_find #[.pointer (some ⟨t, 0, none⟩), .int .i64 num] h_1 fun v h_2 =>
 ∃ t14_0 t14_1, v = .tuple #[.pointer t14_0, .int .i64 t14_1] ∧
 if (t14_1 != 0) = true then
 R (.int .i64 t14_1) h_2
 else
 JoinP (fun (t21 : Bool) (h_3 : Heap) =>
 if t21 = true then
 R (.int .i64 1) h_3
 else
 onSome t14_0 fun a =>
 ∃ t33_p t33_l t33_c, hcell h_3 (a.add 4) = some (.slice t33_p t33_l t33_c) ∧
 Cl F.slices_DeleteFunc_s_sessions_Answer_sessions_Answer #[.slice t33_p t33_l t33_c, .func (.func F.sessions_Table_Keep_1) #[] #[.pointer (some ⟨b, 0, none⟩)]] h_3 fun v_1 h_4 =>
 ∃ t35_p t35_l t35_c, v_1 = .slice t35_p t35_l t35_c ∧
 onSome t14_0 fun a_1 =>
 StoreP h_4 (a_1.add 4) (.slice t35_p t35_l t35_c) fun h_5 =>
 onSome t14_0 fun a_2 =>
 ∃ t42_p t42_l t42_c, hcell h_5 (a_2.add 4) = some (.slice t42_p t42_l t42_c) ∧
 ∃ t43, hcell h_5 ⟨b, 0, none⟩ = some (.int .u64 t43) ∧
 Cl F.slices_Clone_s_byte_byte #[.slice data_p data_l data_c] h_5 fun v_2 h_6 =>
 ∃ t45_p t45_l t45_c, v_2 = .slice t45_p t45_l t45_c ∧
 hcell h_6 ⟨b, 0, none⟩ = some (.int .u64 t43) ∧
 hcell h_6 (a_2.add 4) = some (.slice t42_p t42_l t42_c) ∧
 NewP h_6 (.cells #[.int .u64 t43, .slice t45_p t45_l t45_c] T.sessions_Answer) fun b_1 h_7 =>
 hcell h_7 ⟨b, 0, none⟩ = some (.int .u64 t43) ∧
 hcell h_7 (a_2.add 4) = some (.slice t42_p t42_l t42_c) ∧
 denSem Tryz.prog (Builtin.append_ #[T.s_sessions_Answer, T.s_sessions_Answer] T.s_sessions_Answer #[.slice t42_p t42_l t42_c, .slice (some ⟨b_1, 0, none⟩) 1 1]) h_7 fun v_3 h_8 =>
 ∃ t48_p t48_l t48_c, v_3 = .slice t48_p t48_l t48_c ∧
 hcell h_8 ⟨b, 0, none⟩ = some (.int .u64 t43) ∧
 onSome t14_0 fun a_3 =>
 StoreP h_8 (a_3.add 4) (.slice t48_p t48_l t48_c) fun h_9 =>
 onSome t14_0 fun a_4 =>
 ∃ t54_p t54_l t54_c, hcell h_9 (a_4.add 4) = some (.slice t54_p t54_l t54_c) ∧
 JoinP (fun (h_10 : Heap) =>
 R (.int .i64 0) h_10)
 (fun J_1 =>
 if (decide (((t54_l : Nat) : Int) > 6)) = true then
 onSome t14_0 fun a_5 =>
 ∃ t61_p t61_l t61_c, hcell h_9 (a_5.add 4) = some (.slice t61_p t61_l t61_c) ∧
 ((0 : Int) ≤ 1 ∧ 1 ≤ ((t61_l : Nat) : Int)) ∧
 Cl F.slices_Clone_s_sessions_Answer_sessions_Answer #[.slice (slBase t61_p t61_c (Int.toNat 1) 2) (t61_l - (Int.toNat 1)) (t61_c - (Int.toNat 1))] h_9 fun v_4 h_11 =>
 ∃ t63_p t63_l t63_c, v_4 = .slice t63_p t63_l t63_c ∧
 onSome t14_0 fun a_6 =>
 StoreP h_11 (a_6.add 4) (.slice t63_p t63_l t63_c) fun h_12 =>
 J_1 h_12
 else
 J_1 h_9))
 (fun J =>
 ∃ t22, hcell h_2 ⟨b, 0, none⟩ = some (.int .u64 t22) ∧
 if (decide (t22 > 1099511627776)) = true then
 J true h_2
 else
 J (decide (((data_l : Nat) : Int) > 1000)) h_2)) : CallsH Tryz.prog F.sessions_Table_Keep #[.pointer (some ⟨t, 0, none⟩), .int .i64 num, .int .u64 id, .slice data_p data_l data_c] h R :=
 callsH_of_body (.seq .leaf (.seq .leaf (.seq (.block (.seq .leaf (.cond (.seq .leaf .leaf) (.seq (.join [(21, .one (.bool))] .leaf) (.cond (.seq .leaf .leaf) .leaf))))) (.seq .leaf (.seq (.plan (.op 0 (.op 1 (.op 2 (.op 3 (.op 4 (.op 5 (.op 6 (.op 7 (.op 8 (.op 9 (.op 10 (.op 11 (.op 12 (.op 13 .done))))))))))))))) (.seq (.seq .leaf (.join [] (.cond .leaf .leaf))) (.seq .leaf .leaf))))))) Tryz.func236 rfl rfl (Eq.mp (by kernel_rfl) hv)
theorem sessions_Table_Keep_1.walk {a_0 : Int} {a_1_p : Option Addr} {a_1_l a_1_c : Nat} {c0 : Nat} (hv :
 NewP h (.cells #[.int .u64 a_0, .slice a_1_p a_1_l a_1_c] T.sessions_Answer) fun b h_1 =>
 ∃ t5, hcell h_1 ⟨b, 0, none⟩ = some (.int .u64 t5) ∧
 ∃ t6, hcell h_1 ⟨c0, 0, none⟩ = some (.int .u64 t6) ∧
 R (.bool (t5 == t6)) h_1) : CallsH Tryz.prog F.sessions_Table_Keep_1 #[.agg #[.int .u64 a_0, .slice a_1_p a_1_l a_1_c], .pointer (some ⟨c0, 0, none⟩)] h R :=
 callsH_of_body (.seq .leaf (.seq .leaf .leaf)) Tryz.func262 rfl rfl (Eq.mp (by kernel_rfl) hv)
theorem sessions_Table_Kept.walk {t : Nat} {num : Int} {id : Int} (hv :
 NewP h (.cells #[.int .u64 id] T.uint64) fun b h_1 =>
 Cl F.sessions_Table_find #[.pointer (some ⟨t, 0, none⟩), .int .i64 num] h_1 fun v h_2 =>
 ∃ t14_0 t14_1, v = .tuple #[.pointer t14_0, .int .i64 t14_1] ∧
 if (t14_1 != 0) = true then
 R (.tuple #[.slice none 0 0, .bool false]) h_2
 else
 onSome t14_0 fun a =>
 ∃ t22_p t22_l t22_c, hcell h_2 (a.add 4) = some (.slice t22_p t22_l t22_c) ∧
 Cl F.slices_IndexFunc_s_sessions_Answer_sessions_Answer #[.slice t22_p t22_l t22_c, .func (.func F.sessions_Table_Kept_1) #[] #[.pointer (some ⟨b, 0, none⟩)]] h_2 fun v_1 h_3 =>
 ∃ t24, v_1 = .int .i64 t24 ∧
 if (decide (t24 < 0)) = true then
 R (.tuple #[.slice none 0 0, .bool false]) h_3
 else
 onSome t14_0 fun a_1 =>
 ∃ t30_p t30_l t30_c, hcell h_3 (a_1.add 4) = some (.slice t30_p t30_l t30_c) ∧
 ((0 : Int) ≤ t24 ∧ t24 < ((t30_l : Nat) : Int)) ∧
 onSome t30_p fun a_2 =>
 ∃ t34_p t34_l t34_c, hcell h_3 ((a_2.add (Int.toNat t24 * 2)).add 1) = some (.slice t34_p t34_l t34_c) ∧
 Cl F.slices_Clone_s_byte_byte #[.slice t34_p t34_l t34_c] h_3 fun v_2 h_4 =>
 ∃ t35_p t35_l t35_c, v_2 = .slice t35_p t35_l t35_c ∧
 R (.tuple #[.slice t35_p t35_l t35_c, .bool true]) h_4) : CallsH Tryz.prog F.sessions_Table_Kept #[.pointer (some ⟨t, 0, none⟩), .int .i64 num, .int .u64 id] h R :=
 callsH_of_body (.seq .leaf (.seq .leaf (.seq (.seq .leaf (.cond (.seq .leaf .leaf) .leaf)) (.seq .leaf (.seq (.seq .leaf (.cond (.seq .leaf .leaf) .leaf)) (.seq .leaf .leaf)))))) Tryz.func235 rfl rfl (Eq.mp (by kernel_rfl) hv)
theorem sessions_Table_Kept_1.walk {a_0 : Int} {a_1_p : Option Addr} {a_1_l a_1_c : Nat} {c0 : Nat} (hv :
 NewP h (.cells #[.int .u64 a_0, .slice a_1_p a_1_l a_1_c] T.sessions_Answer) fun b h_1 =>
 ∃ t5, hcell h_1 ⟨b, 0, none⟩ = some (.int .u64 t5) ∧
 ∃ t6, hcell h_1 ⟨c0, 0, none⟩ = some (.int .u64 t6) ∧
 R (.bool (t5 == t6)) h_1) : CallsH Tryz.prog F.sessions_Table_Kept_1 #[.agg #[.int .u64 a_0, .slice a_1_p a_1_l a_1_c], .pointer (some ⟨c0, 0, none⟩)] h R :=
 callsH_of_body (.seq .leaf (.seq .leaf .leaf)) Tryz.func260 rfl rfl (Eq.mp (by kernel_rfl) hv)
theorem sessions_isNote.walk {b_p : Option Addr} {b_l b_c : Nat} (hv :
 if (decide (((b_l : Nat) : Int) ≥ 1)) = true then
 R (.bool (decide (((b_l : Nat) : Int) ≤ 600))) h
 else
 R (.bool false) h) : CallsH Tryz.prog F.sessions_isNote #[.slice b_p b_l b_c] h R :=
 callsH_of_body (.seq .leaf (.seq .leaf .leaf)) Tryz.func237 rfl rfl (Eq.mp (by kernel_rfl) hv)
end Go.Proofs.YtgccegnmggjkjaaGreatDoor
