/-
  Printed by a program of this work (vc.py): the verification conditions of functions, and that each is enough for the call. No condition.
-/
import Derived.Test.YtopoaalbfdblnaaNames
import Derived.Test.YtopoaalbfdblnaaStep
set_option maxRecDepth 100000
set_option maxHeartbeats 4000000
namespace Go.Proofs.Ytopoaalbfdblnaa
open Go.Den
def reply_Reply.at (h : Heap) (b : Nat) (f0 : Int) (f1 : Int) (f2 : Int) (f3 : Int) (f4 : Int) (f5p : Option Addr) (f5l f5c : Nat) : Prop := h[b]? = some (.cells #[.int .u64 f0, .int .i64 f1, .int .i64 f2, .int .i64 f3, .int .u64 f4, .slice f5p f5l f5c] T.reply_Reply (0, 0))
theorem reply_Reply.ld {h : Heap} {b : Nat} {f0 : Int} {f1 : Int} {f2 : Int} {f3 : Int} {f4 : Int} {f5p : Option Addr} {f5l f5c : Nat} {K : Int → Int → Int → Int → Int → Option Addr → Nat → Nat → Prop} (hb : reply_Reply.at h b f0 f1 f2 f3 f4 f5p f5l f5c) (hk : K f0 f1 f2 f3 f4 f5p f5l f5c) : ∃ (t0 : Int), hcell h ⟨b, 0, none⟩ = some (.int .u64 t0) ∧ ∃ (t1 : Int), hcell h ⟨b, 1, none⟩ = some (.int .i64 t1) ∧ ∃ (t2 : Int), hcell h ⟨b, 2, none⟩ = some (.int .i64 t2) ∧ ∃ (t3 : Int), hcell h ⟨b, 3, none⟩ = some (.int .i64 t3) ∧ ∃ (t4 : Int), hcell h ⟨b, 4, none⟩ = some (.int .u64 t4) ∧ ∃ (t5p : Option Addr) (t5l t5c : Nat), hcell h ⟨b, 5, none⟩ = some (.slice t5p t5l t5c) ∧ K t0 t1 t2 t3 t4 t5p t5l t5c :=
  ⟨_, cell_at hb rfl, _, cell_at hb rfl, _, cell_at hb rfl, _, cell_at hb rfl, _, cell_at hb rfl, _, _, _, cell_at hb rfl, hk⟩
theorem reply_Reply.ldA {h : Heap} {a : Addr} {f0 : Int} {f1 : Int} {f2 : Int} {f3 : Int} {f4 : Int} {f5p : Option Addr} {f5l f5c : Nat} {K : Int → Int → Int → Int → Int → Option Addr → Nat → Nat → Prop} (hb : heldL a [.int .u64 f0, .int .i64 f1, .int .i64 f2, .int .i64 f3, .int .u64 f4, .slice f5p f5l f5c] 0 h) (hk : K f0 f1 f2 f3 f4 f5p f5l f5c) : ∃ (t0 : Int), hcell h a = some (.int .u64 t0) ∧ ∃ (t1 : Int), hcell h (a.add 1) = some (.int .i64 t1) ∧ ∃ (t2 : Int), hcell h (a.add 2) = some (.int .i64 t2) ∧ ∃ (t3 : Int), hcell h (a.add 3) = some (.int .i64 t3) ∧ ∃ (t4 : Int), hcell h (a.add 4) = some (.int .u64 t4) ∧ ∃ (t5p : Option Addr) (t5l t5c : Nat), hcell h (a.add 5) = some (.slice t5p t5l t5c) ∧ K t0 t1 t2 t3 t4 t5p t5l t5c := by
  obtain ⟨q0, q1, q2, q3, q4, q5, _⟩ := hb
  rw [add_zero_addr] at q0
  exact ⟨_, q0, _, q1, _, q2, _, q3, _, q4, _, _, _, q5, hk⟩
theorem reply_Reply.held {h : Heap} {b : Nat} {f0 : Int} {f1 : Int} {f2 : Int} {f3 : Int} {f4 : Int} {f5p : Option Addr} {f5l f5c : Nat} (hb : reply_Reply.at h b f0 f1 f2 f3 f4 f5p f5l f5c) : heldL ⟨b, 0, none⟩ [.int .u64 f0, .int .i64 f1, .int .i64 f2, .int .i64 f3, .int .u64 f4, .slice f5p f5l f5c] 0 h :=
  heldL_blk hb (fun j v hj => by rw [Nat.zero_add]; simpa using hj)
theorem reply_Reply.new {h : Heap} {f0 : Int} {f1 : Int} {f2 : Int} {f3 : Int} {f4 : Int} {f5p : Option Addr} {f5l f5c : Nat} {K : Nat → Heap → Prop} (hk : ∀ b h', b = h.size → reply_Reply.at h' b f0 f1 f2 f3 f4 f5p f5l f5c → Fr (fun _ => False) h h' → K b h') : NewP h (.cells #[.int .u64 0, .int .i64 0, .int .i64 0, .int .i64 0, .int .u64 0, .slice none 0 0] T.reply_Reply) fun b h_0 => StoreP h_0 ⟨b, 0, none⟩ (.int .u64 f0) fun h_1 => StoreP h_1 ⟨b, 1, none⟩ (.int .i64 f1) fun h_2 => StoreP h_2 ⟨b, 2, none⟩ (.int .i64 f2) fun h_3 => StoreP h_3 ⟨b, 3, none⟩ (.int .i64 f3) fun h_4 => StoreP h_4 ⟨b, 4, none⟩ (.int .u64 f4) fun h_5 => StoreP h_5 ⟨b, 5, none⟩ (.slice f5p f5l f5c) fun h_6 => K b h_6 :=
  newP_of (storeP_push (by simp) (storeP_push (by simp) (storeP_push (by simp) (storeP_push (by simp) (storeP_push (by simp) (storeP_push (by simp) ((hk _ _ rfl push_new (Fr.push _ _)))))))))
theorem reply_Reply.box {h : Heap} {f0 : Int} {f1 : Int} {f2 : Int} {f3 : Int} {f4 : Int} {f5p : Option Addr} {f5l f5c : Nat} {K : Nat → Heap → Prop} (hk : ∀ b h', b = h.size → reply_Reply.at h' b f0 f1 f2 f3 f4 f5p f5l f5c → Fr (fun _ => False) h h' → K b h') : NewP h (.cells #[.int .u64 f0, .int .i64 f1, .int .i64 f2, .int .i64 f3, .int .u64 f4, .slice f5p f5l f5c] T.reply_Reply) fun b h_0 => K b h_0 :=
  newP_of (hk _ _ rfl push_new (Fr.push _ _))
theorem reply_Reply.set {h : Heap} {b : Nat} {g0 : Int} {g1 : Int} {g2 : Int} {g3 : Int} {g4 : Int} {g5p : Option Addr} {g5l g5c : Nat} {f0 : Int} {f1 : Int} {f2 : Int} {f3 : Int} {f4 : Int} {f5p : Option Addr} {f5l f5c : Nat} {K : Heap → Prop} (a0 : reply_Reply.at h b g0 g1 g2 g3 g4 g5p g5l g5c) (hk : ∀ h', reply_Reply.at h' b f0 f1 f2 f3 f4 f5p f5l f5c → h'.size = h.size → (∀ x, x ≠ b → h'[x]? = h[x]?) → K h') : StoreP h ⟨b, 0, none⟩ (.int .u64 f0) fun h_1 => StoreP h_1 ⟨b, 1, none⟩ (.int .i64 f1) fun h_2 => StoreP h_2 ⟨b, 2, none⟩ (.int .i64 f2) fun h_3 => StoreP h_3 ⟨b, 3, none⟩ (.int .i64 f3) fun h_4 => StoreP h_4 ⟨b, 4, none⟩ (.int .u64 f4) fun h_5 => StoreP h_5 ⟨b, 5, none⟩ (.slice f5p f5l f5c) fun h_6 => K h_6 := by
  refine storeP_blk a0 (by simp) fun h1 a1 s1 o1 => ?_
  refine storeP_blk a1 (by simp) fun h2 a2 s2 o2 => ?_
  refine storeP_blk a2 (by simp) fun h3 a3 s3 o3 => ?_
  refine storeP_blk a3 (by simp) fun h4 a4 s4 o4 => ?_
  refine storeP_blk a4 (by simp) fun h5 a5 s5 o5 => ?_
  refine storeP_blk a5 (by simp) fun h6 a6 s6 o6 => ?_
  exact hk h6 a6 (by omega) (fun x hx => by rw [o6 x hx, o5 x hx, o4 x hx, o3 x hx, o2 x hx, o1 x hx])

def ref17_Reply.at (h : Heap) (b : Nat) (f0 : Int) (f1 : Int) (f2 : Int) (f3 : Int) (f4 : Int) (f5p : Option Addr) (f5l f5c : Nat) : Prop := h[b]? = some (.cells #[.int .u64 f0, .int .i64 f1, .int .i64 f2, .int .i64 f3, .int .u64 f4, .slice f5p f5l f5c] T.ref17_Reply (0, 0))
theorem ref17_Reply.ld {h : Heap} {b : Nat} {f0 : Int} {f1 : Int} {f2 : Int} {f3 : Int} {f4 : Int} {f5p : Option Addr} {f5l f5c : Nat} {K : Int → Int → Int → Int → Int → Option Addr → Nat → Nat → Prop} (hb : ref17_Reply.at h b f0 f1 f2 f3 f4 f5p f5l f5c) (hk : K f0 f1 f2 f3 f4 f5p f5l f5c) : ∃ (t0 : Int), hcell h ⟨b, 0, none⟩ = some (.int .u64 t0) ∧ ∃ (t1 : Int), hcell h ⟨b, 1, none⟩ = some (.int .i64 t1) ∧ ∃ (t2 : Int), hcell h ⟨b, 2, none⟩ = some (.int .i64 t2) ∧ ∃ (t3 : Int), hcell h ⟨b, 3, none⟩ = some (.int .i64 t3) ∧ ∃ (t4 : Int), hcell h ⟨b, 4, none⟩ = some (.int .u64 t4) ∧ ∃ (t5p : Option Addr) (t5l t5c : Nat), hcell h ⟨b, 5, none⟩ = some (.slice t5p t5l t5c) ∧ K t0 t1 t2 t3 t4 t5p t5l t5c :=
  ⟨_, cell_at hb rfl, _, cell_at hb rfl, _, cell_at hb rfl, _, cell_at hb rfl, _, cell_at hb rfl, _, _, _, cell_at hb rfl, hk⟩
theorem ref17_Reply.ldA {h : Heap} {a : Addr} {f0 : Int} {f1 : Int} {f2 : Int} {f3 : Int} {f4 : Int} {f5p : Option Addr} {f5l f5c : Nat} {K : Int → Int → Int → Int → Int → Option Addr → Nat → Nat → Prop} (hb : heldL a [.int .u64 f0, .int .i64 f1, .int .i64 f2, .int .i64 f3, .int .u64 f4, .slice f5p f5l f5c] 0 h) (hk : K f0 f1 f2 f3 f4 f5p f5l f5c) : ∃ (t0 : Int), hcell h a = some (.int .u64 t0) ∧ ∃ (t1 : Int), hcell h (a.add 1) = some (.int .i64 t1) ∧ ∃ (t2 : Int), hcell h (a.add 2) = some (.int .i64 t2) ∧ ∃ (t3 : Int), hcell h (a.add 3) = some (.int .i64 t3) ∧ ∃ (t4 : Int), hcell h (a.add 4) = some (.int .u64 t4) ∧ ∃ (t5p : Option Addr) (t5l t5c : Nat), hcell h (a.add 5) = some (.slice t5p t5l t5c) ∧ K t0 t1 t2 t3 t4 t5p t5l t5c := by
  obtain ⟨q0, q1, q2, q3, q4, q5, _⟩ := hb
  rw [add_zero_addr] at q0
  exact ⟨_, q0, _, q1, _, q2, _, q3, _, q4, _, _, _, q5, hk⟩
theorem ref17_Reply.held {h : Heap} {b : Nat} {f0 : Int} {f1 : Int} {f2 : Int} {f3 : Int} {f4 : Int} {f5p : Option Addr} {f5l f5c : Nat} (hb : ref17_Reply.at h b f0 f1 f2 f3 f4 f5p f5l f5c) : heldL ⟨b, 0, none⟩ [.int .u64 f0, .int .i64 f1, .int .i64 f2, .int .i64 f3, .int .u64 f4, .slice f5p f5l f5c] 0 h :=
  heldL_blk hb (fun j v hj => by rw [Nat.zero_add]; simpa using hj)
theorem ref17_Reply.new {h : Heap} {f0 : Int} {f1 : Int} {f2 : Int} {f3 : Int} {f4 : Int} {f5p : Option Addr} {f5l f5c : Nat} {K : Nat → Heap → Prop} (hk : ∀ b h', b = h.size → ref17_Reply.at h' b f0 f1 f2 f3 f4 f5p f5l f5c → Fr (fun _ => False) h h' → K b h') : NewP h (.cells #[.int .u64 0, .int .i64 0, .int .i64 0, .int .i64 0, .int .u64 0, .slice none 0 0] T.ref17_Reply) fun b h_0 => StoreP h_0 ⟨b, 0, none⟩ (.int .u64 f0) fun h_1 => StoreP h_1 ⟨b, 1, none⟩ (.int .i64 f1) fun h_2 => StoreP h_2 ⟨b, 2, none⟩ (.int .i64 f2) fun h_3 => StoreP h_3 ⟨b, 3, none⟩ (.int .i64 f3) fun h_4 => StoreP h_4 ⟨b, 4, none⟩ (.int .u64 f4) fun h_5 => StoreP h_5 ⟨b, 5, none⟩ (.slice f5p f5l f5c) fun h_6 => K b h_6 :=
  newP_of (storeP_push (by simp) (storeP_push (by simp) (storeP_push (by simp) (storeP_push (by simp) (storeP_push (by simp) (storeP_push (by simp) ((hk _ _ rfl push_new (Fr.push _ _)))))))))
theorem ref17_Reply.box {h : Heap} {f0 : Int} {f1 : Int} {f2 : Int} {f3 : Int} {f4 : Int} {f5p : Option Addr} {f5l f5c : Nat} {K : Nat → Heap → Prop} (hk : ∀ b h', b = h.size → ref17_Reply.at h' b f0 f1 f2 f3 f4 f5p f5l f5c → Fr (fun _ => False) h h' → K b h') : NewP h (.cells #[.int .u64 f0, .int .i64 f1, .int .i64 f2, .int .i64 f3, .int .u64 f4, .slice f5p f5l f5c] T.ref17_Reply) fun b h_0 => K b h_0 :=
  newP_of (hk _ _ rfl push_new (Fr.push _ _))
theorem ref17_Reply.set {h : Heap} {b : Nat} {g0 : Int} {g1 : Int} {g2 : Int} {g3 : Int} {g4 : Int} {g5p : Option Addr} {g5l g5c : Nat} {f0 : Int} {f1 : Int} {f2 : Int} {f3 : Int} {f4 : Int} {f5p : Option Addr} {f5l f5c : Nat} {K : Heap → Prop} (a0 : ref17_Reply.at h b g0 g1 g2 g3 g4 g5p g5l g5c) (hk : ∀ h', ref17_Reply.at h' b f0 f1 f2 f3 f4 f5p f5l f5c → h'.size = h.size → (∀ x, x ≠ b → h'[x]? = h[x]?) → K h') : StoreP h ⟨b, 0, none⟩ (.int .u64 f0) fun h_1 => StoreP h_1 ⟨b, 1, none⟩ (.int .i64 f1) fun h_2 => StoreP h_2 ⟨b, 2, none⟩ (.int .i64 f2) fun h_3 => StoreP h_3 ⟨b, 3, none⟩ (.int .i64 f3) fun h_4 => StoreP h_4 ⟨b, 4, none⟩ (.int .u64 f4) fun h_5 => StoreP h_5 ⟨b, 5, none⟩ (.slice f5p f5l f5c) fun h_6 => K h_6 := by
  refine storeP_blk a0 (by simp) fun h1 a1 s1 o1 => ?_
  refine storeP_blk a1 (by simp) fun h2 a2 s2 o2 => ?_
  refine storeP_blk a2 (by simp) fun h3 a3 s3 o3 => ?_
  refine storeP_blk a3 (by simp) fun h4 a4 s4 o4 => ?_
  refine storeP_blk a4 (by simp) fun h5 a5 s5 o5 => ?_
  refine storeP_blk a5 (by simp) fun h6 a6 s6 o6 => ?_
  exact hk h6 a6 (by omega) (fun x hx => by rw [o6 x hx, o5 x hx, o4 x hx, o3 x hx, o2 x hx, o1 x hx])

end Go.Proofs.Ytopoaalbfdblnaa
