/-
  Printed by a program of this work (vc.py): the verification conditions of functions, and that each is enough for the call. No condition.
-/
import Derived.Test.YtlonfpolnmiglaaNames
import Derived.Test.YtlonfpolnmiglaaStep
set_option maxRecDepth 100000
set_option maxHeartbeats 4000000
namespace Go.Proofs.Ytlonfpolnmiglaa
open Go.Den
def outbox_Item.at (h : Heap) (b : Nat) (f0 : Int) (f1 : Int) (f2p : Option Addr) (f2l f2c : Nat) (f3 : Int) : Prop := h[b]? = some (.cells #[.int .i64 f0, .int .i64 f1, .slice f2p f2l f2c, .int .u64 f3] T.outbox_Item (0, 0))
theorem outbox_Item.ld {h : Heap} {b : Nat} {f0 : Int} {f1 : Int} {f2p : Option Addr} {f2l f2c : Nat} {f3 : Int} {K : Int → Int → Option Addr → Nat → Nat → Int → Prop} (hb : outbox_Item.at h b f0 f1 f2p f2l f2c f3) (hk : K f0 f1 f2p f2l f2c f3) : ∃ (t0 : Int), hcell h ⟨b, 0, none⟩ = some (.int .i64 t0) ∧ ∃ (t1 : Int), hcell h ⟨b, 1, none⟩ = some (.int .i64 t1) ∧ ∃ (t2p : Option Addr) (t2l t2c : Nat), hcell h ⟨b, 2, none⟩ = some (.slice t2p t2l t2c) ∧ ∃ (t3 : Int), hcell h ⟨b, 3, none⟩ = some (.int .u64 t3) ∧ K t0 t1 t2p t2l t2c t3 :=
  ⟨_, cell_at hb rfl, _, cell_at hb rfl, _, _, _, cell_at hb rfl, _, cell_at hb rfl, hk⟩
theorem outbox_Item.ldA {h : Heap} {a : Addr} {f0 : Int} {f1 : Int} {f2p : Option Addr} {f2l f2c : Nat} {f3 : Int} {K : Int → Int → Option Addr → Nat → Nat → Int → Prop} (hb : heldL a [.int .i64 f0, .int .i64 f1, .slice f2p f2l f2c, .int .u64 f3] 0 h) (hk : K f0 f1 f2p f2l f2c f3) : ∃ (t0 : Int), hcell h a = some (.int .i64 t0) ∧ ∃ (t1 : Int), hcell h (a.add 1) = some (.int .i64 t1) ∧ ∃ (t2p : Option Addr) (t2l t2c : Nat), hcell h (a.add 2) = some (.slice t2p t2l t2c) ∧ ∃ (t3 : Int), hcell h (a.add 3) = some (.int .u64 t3) ∧ K t0 t1 t2p t2l t2c t3 := by
  obtain ⟨q0, q1, q2, q3, _⟩ := hb
  rw [add_zero_addr] at q0
  exact ⟨_, q0, _, q1, _, _, _, q2, _, q3, hk⟩
theorem outbox_Item.held {h : Heap} {b : Nat} {f0 : Int} {f1 : Int} {f2p : Option Addr} {f2l f2c : Nat} {f3 : Int} (hb : outbox_Item.at h b f0 f1 f2p f2l f2c f3) : heldL ⟨b, 0, none⟩ [.int .i64 f0, .int .i64 f1, .slice f2p f2l f2c, .int .u64 f3] 0 h :=
  heldL_blk hb (fun j v hj => by rw [Nat.zero_add]; simpa using hj)
theorem outbox_Item.new {h : Heap} {f0 : Int} {f1 : Int} {f2p : Option Addr} {f2l f2c : Nat} {f3 : Int} {K : Nat → Heap → Prop} (hk : ∀ b h', b = h.size → outbox_Item.at h' b f0 f1 f2p f2l f2c f3 → Fr (fun _ => False) h h' → K b h') : NewP h (.cells #[.int .i64 0, .int .i64 0, .slice none 0 0, .int .u64 0] T.outbox_Item) fun b h_0 => StoreP h_0 ⟨b, 0, none⟩ (.int .i64 f0) fun h_1 => StoreP h_1 ⟨b, 1, none⟩ (.int .i64 f1) fun h_2 => StoreP h_2 ⟨b, 2, none⟩ (.slice f2p f2l f2c) fun h_3 => StoreP h_3 ⟨b, 3, none⟩ (.int .u64 f3) fun h_4 => K b h_4 :=
  newP_of (storeP_push (by simp) (storeP_push (by simp) (storeP_push (by simp) (storeP_push (by simp) ((hk _ _ rfl push_new (Fr.push _ _)))))))
theorem outbox_Item.box {h : Heap} {f0 : Int} {f1 : Int} {f2p : Option Addr} {f2l f2c : Nat} {f3 : Int} {K : Nat → Heap → Prop} (hk : ∀ b h', b = h.size → outbox_Item.at h' b f0 f1 f2p f2l f2c f3 → Fr (fun _ => False) h h' → K b h') : NewP h (.cells #[.int .i64 f0, .int .i64 f1, .slice f2p f2l f2c, .int .u64 f3] T.outbox_Item) fun b h_0 => K b h_0 :=
  newP_of (hk _ _ rfl push_new (Fr.push _ _))
theorem outbox_Item.set {h : Heap} {b : Nat} {g0 : Int} {g1 : Int} {g2p : Option Addr} {g2l g2c : Nat} {g3 : Int} {f0 : Int} {f1 : Int} {f2p : Option Addr} {f2l f2c : Nat} {f3 : Int} {K : Heap → Prop} (a0 : outbox_Item.at h b g0 g1 g2p g2l g2c g3) (hk : ∀ h', outbox_Item.at h' b f0 f1 f2p f2l f2c f3 → h'.size = h.size → (∀ x, x ≠ b → h'[x]? = h[x]?) → K h') : StoreP h ⟨b, 0, none⟩ (.int .i64 f0) fun h_1 => StoreP h_1 ⟨b, 1, none⟩ (.int .i64 f1) fun h_2 => StoreP h_2 ⟨b, 2, none⟩ (.slice f2p f2l f2c) fun h_3 => StoreP h_3 ⟨b, 3, none⟩ (.int .u64 f3) fun h_4 => K h_4 := by
  refine storeP_blk a0 (by simp) fun h1 a1 s1 o1 => ?_
  refine storeP_blk a1 (by simp) fun h2 a2 s2 o2 => ?_
  refine storeP_blk a2 (by simp) fun h3 a3 s3 o3 => ?_
  refine storeP_blk a3 (by simp) fun h4 a4 s4 o4 => ?_
  exact hk h4 a4 (by omega) (fun x hx => by rw [o4 x hx, o3 x hx, o2 x hx, o1 x hx])

def law23_Op.at (h : Heap) (b : Nat) (f0 : Int) (f1 : Int) (f2 : Int) (f3p : Option Addr) (f3l f3c : Nat) (f4 : Int) : Prop := h[b]? = some (.cells #[.int .i64 f0, .int .i64 f1, .int .i64 f2, .slice f3p f3l f3c, .int .u64 f4] T.law23_Op (0, 0))
theorem law23_Op.ld {h : Heap} {b : Nat} {f0 : Int} {f1 : Int} {f2 : Int} {f3p : Option Addr} {f3l f3c : Nat} {f4 : Int} {K : Int → Int → Int → Option Addr → Nat → Nat → Int → Prop} (hb : law23_Op.at h b f0 f1 f2 f3p f3l f3c f4) (hk : K f0 f1 f2 f3p f3l f3c f4) : ∃ (t0 : Int), hcell h ⟨b, 0, none⟩ = some (.int .i64 t0) ∧ ∃ (t1 : Int), hcell h ⟨b, 1, none⟩ = some (.int .i64 t1) ∧ ∃ (t2 : Int), hcell h ⟨b, 2, none⟩ = some (.int .i64 t2) ∧ ∃ (t3p : Option Addr) (t3l t3c : Nat), hcell h ⟨b, 3, none⟩ = some (.slice t3p t3l t3c) ∧ ∃ (t4 : Int), hcell h ⟨b, 4, none⟩ = some (.int .u64 t4) ∧ K t0 t1 t2 t3p t3l t3c t4 :=
  ⟨_, cell_at hb rfl, _, cell_at hb rfl, _, cell_at hb rfl, _, _, _, cell_at hb rfl, _, cell_at hb rfl, hk⟩
theorem law23_Op.ldA {h : Heap} {a : Addr} {f0 : Int} {f1 : Int} {f2 : Int} {f3p : Option Addr} {f3l f3c : Nat} {f4 : Int} {K : Int → Int → Int → Option Addr → Nat → Nat → Int → Prop} (hb : heldL a [.int .i64 f0, .int .i64 f1, .int .i64 f2, .slice f3p f3l f3c, .int .u64 f4] 0 h) (hk : K f0 f1 f2 f3p f3l f3c f4) : ∃ (t0 : Int), hcell h a = some (.int .i64 t0) ∧ ∃ (t1 : Int), hcell h (a.add 1) = some (.int .i64 t1) ∧ ∃ (t2 : Int), hcell h (a.add 2) = some (.int .i64 t2) ∧ ∃ (t3p : Option Addr) (t3l t3c : Nat), hcell h (a.add 3) = some (.slice t3p t3l t3c) ∧ ∃ (t4 : Int), hcell h (a.add 4) = some (.int .u64 t4) ∧ K t0 t1 t2 t3p t3l t3c t4 := by
  obtain ⟨q0, q1, q2, q3, q4, _⟩ := hb
  rw [add_zero_addr] at q0
  exact ⟨_, q0, _, q1, _, q2, _, _, _, q3, _, q4, hk⟩
theorem law23_Op.held {h : Heap} {b : Nat} {f0 : Int} {f1 : Int} {f2 : Int} {f3p : Option Addr} {f3l f3c : Nat} {f4 : Int} (hb : law23_Op.at h b f0 f1 f2 f3p f3l f3c f4) : heldL ⟨b, 0, none⟩ [.int .i64 f0, .int .i64 f1, .int .i64 f2, .slice f3p f3l f3c, .int .u64 f4] 0 h :=
  heldL_blk hb (fun j v hj => by rw [Nat.zero_add]; simpa using hj)
theorem law23_Op.new {h : Heap} {f0 : Int} {f1 : Int} {f2 : Int} {f3p : Option Addr} {f3l f3c : Nat} {f4 : Int} {K : Nat → Heap → Prop} (hk : ∀ b h', b = h.size → law23_Op.at h' b f0 f1 f2 f3p f3l f3c f4 → Fr (fun _ => False) h h' → K b h') : NewP h (.cells #[.int .i64 0, .int .i64 0, .int .i64 0, .slice none 0 0, .int .u64 0] T.law23_Op) fun b h_0 => StoreP h_0 ⟨b, 0, none⟩ (.int .i64 f0) fun h_1 => StoreP h_1 ⟨b, 1, none⟩ (.int .i64 f1) fun h_2 => StoreP h_2 ⟨b, 2, none⟩ (.int .i64 f2) fun h_3 => StoreP h_3 ⟨b, 3, none⟩ (.slice f3p f3l f3c) fun h_4 => StoreP h_4 ⟨b, 4, none⟩ (.int .u64 f4) fun h_5 => K b h_5 :=
  newP_of (storeP_push (by simp) (storeP_push (by simp) (storeP_push (by simp) (storeP_push (by simp) (storeP_push (by simp) ((hk _ _ rfl push_new (Fr.push _ _))))))))
theorem law23_Op.box {h : Heap} {f0 : Int} {f1 : Int} {f2 : Int} {f3p : Option Addr} {f3l f3c : Nat} {f4 : Int} {K : Nat → Heap → Prop} (hk : ∀ b h', b = h.size → law23_Op.at h' b f0 f1 f2 f3p f3l f3c f4 → Fr (fun _ => False) h h' → K b h') : NewP h (.cells #[.int .i64 f0, .int .i64 f1, .int .i64 f2, .slice f3p f3l f3c, .int .u64 f4] T.law23_Op) fun b h_0 => K b h_0 :=
  newP_of (hk _ _ rfl push_new (Fr.push _ _))
theorem law23_Op.set {h : Heap} {b : Nat} {g0 : Int} {g1 : Int} {g2 : Int} {g3p : Option Addr} {g3l g3c : Nat} {g4 : Int} {f0 : Int} {f1 : Int} {f2 : Int} {f3p : Option Addr} {f3l f3c : Nat} {f4 : Int} {K : Heap → Prop} (a0 : law23_Op.at h b g0 g1 g2 g3p g3l g3c g4) (hk : ∀ h', law23_Op.at h' b f0 f1 f2 f3p f3l f3c f4 → h'.size = h.size → (∀ x, x ≠ b → h'[x]? = h[x]?) → K h') : StoreP h ⟨b, 0, none⟩ (.int .i64 f0) fun h_1 => StoreP h_1 ⟨b, 1, none⟩ (.int .i64 f1) fun h_2 => StoreP h_2 ⟨b, 2, none⟩ (.int .i64 f2) fun h_3 => StoreP h_3 ⟨b, 3, none⟩ (.slice f3p f3l f3c) fun h_4 => StoreP h_4 ⟨b, 4, none⟩ (.int .u64 f4) fun h_5 => K h_5 := by
  refine storeP_blk a0 (by simp) fun h1 a1 s1 o1 => ?_
  refine storeP_blk a1 (by simp) fun h2 a2 s2 o2 => ?_
  refine storeP_blk a2 (by simp) fun h3 a3 s3 o3 => ?_
  refine storeP_blk a3 (by simp) fun h4 a4 s4 o4 => ?_
  refine storeP_blk a4 (by simp) fun h5 a5 s5 o5 => ?_
  exact hk h5 a5 (by omega) (fun x hx => by rw [o5 x hx, o4 x hx, o3 x hx, o2 x hx, o1 x hx])

def ref23_Item.at (h : Heap) (b : Nat) (f0 : Int) (f1 : Int) (f2p : Option Addr) (f2l f2c : Nat) (f3 : Int) (f4 : Int) : Prop := h[b]? = some (.cells #[.int .i64 f0, .int .i64 f1, .slice f2p f2l f2c, .int .u64 f3, .int .i64 f4] T.ref23_Item (0, 0))
theorem ref23_Item.ld {h : Heap} {b : Nat} {f0 : Int} {f1 : Int} {f2p : Option Addr} {f2l f2c : Nat} {f3 : Int} {f4 : Int} {K : Int → Int → Option Addr → Nat → Nat → Int → Int → Prop} (hb : ref23_Item.at h b f0 f1 f2p f2l f2c f3 f4) (hk : K f0 f1 f2p f2l f2c f3 f4) : ∃ (t0 : Int), hcell h ⟨b, 0, none⟩ = some (.int .i64 t0) ∧ ∃ (t1 : Int), hcell h ⟨b, 1, none⟩ = some (.int .i64 t1) ∧ ∃ (t2p : Option Addr) (t2l t2c : Nat), hcell h ⟨b, 2, none⟩ = some (.slice t2p t2l t2c) ∧ ∃ (t3 : Int), hcell h ⟨b, 3, none⟩ = some (.int .u64 t3) ∧ ∃ (t4 : Int), hcell h ⟨b, 4, none⟩ = some (.int .i64 t4) ∧ K t0 t1 t2p t2l t2c t3 t4 :=
  ⟨_, cell_at hb rfl, _, cell_at hb rfl, _, _, _, cell_at hb rfl, _, cell_at hb rfl, _, cell_at hb rfl, hk⟩
theorem ref23_Item.ldA {h : Heap} {a : Addr} {f0 : Int} {f1 : Int} {f2p : Option Addr} {f2l f2c : Nat} {f3 : Int} {f4 : Int} {K : Int → Int → Option Addr → Nat → Nat → Int → Int → Prop} (hb : heldL a [.int .i64 f0, .int .i64 f1, .slice f2p f2l f2c, .int .u64 f3, .int .i64 f4] 0 h) (hk : K f0 f1 f2p f2l f2c f3 f4) : ∃ (t0 : Int), hcell h a = some (.int .i64 t0) ∧ ∃ (t1 : Int), hcell h (a.add 1) = some (.int .i64 t1) ∧ ∃ (t2p : Option Addr) (t2l t2c : Nat), hcell h (a.add 2) = some (.slice t2p t2l t2c) ∧ ∃ (t3 : Int), hcell h (a.add 3) = some (.int .u64 t3) ∧ ∃ (t4 : Int), hcell h (a.add 4) = some (.int .i64 t4) ∧ K t0 t1 t2p t2l t2c t3 t4 := by
  obtain ⟨q0, q1, q2, q3, q4, _⟩ := hb
  rw [add_zero_addr] at q0
  exact ⟨_, q0, _, q1, _, _, _, q2, _, q3, _, q4, hk⟩
theorem ref23_Item.held {h : Heap} {b : Nat} {f0 : Int} {f1 : Int} {f2p : Option Addr} {f2l f2c : Nat} {f3 : Int} {f4 : Int} (hb : ref23_Item.at h b f0 f1 f2p f2l f2c f3 f4) : heldL ⟨b, 0, none⟩ [.int .i64 f0, .int .i64 f1, .slice f2p f2l f2c, .int .u64 f3, .int .i64 f4] 0 h :=
  heldL_blk hb (fun j v hj => by rw [Nat.zero_add]; simpa using hj)
theorem ref23_Item.new {h : Heap} {f0 : Int} {f1 : Int} {f2p : Option Addr} {f2l f2c : Nat} {f3 : Int} {f4 : Int} {K : Nat → Heap → Prop} (hk : ∀ b h', b = h.size → ref23_Item.at h' b f0 f1 f2p f2l f2c f3 f4 → Fr (fun _ => False) h h' → K b h') : NewP h (.cells #[.int .i64 0, .int .i64 0, .slice none 0 0, .int .u64 0, .int .i64 0] T.ref23_Item) fun b h_0 => StoreP h_0 ⟨b, 0, none⟩ (.int .i64 f0) fun h_1 => StoreP h_1 ⟨b, 1, none⟩ (.int .i64 f1) fun h_2 => StoreP h_2 ⟨b, 2, none⟩ (.slice f2p f2l f2c) fun h_3 => StoreP h_3 ⟨b, 3, none⟩ (.int .u64 f3) fun h_4 => StoreP h_4 ⟨b, 4, none⟩ (.int .i64 f4) fun h_5 => K b h_5 :=
  newP_of (storeP_push (by simp) (storeP_push (by simp) (storeP_push (by simp) (storeP_push (by simp) (storeP_push (by simp) ((hk _ _ rfl push_new (Fr.push _ _))))))))
theorem ref23_Item.box {h : Heap} {f0 : Int} {f1 : Int} {f2p : Option Addr} {f2l f2c : Nat} {f3 : Int} {f4 : Int} {K : Nat → Heap → Prop} (hk : ∀ b h', b = h.size → ref23_Item.at h' b f0 f1 f2p f2l f2c f3 f4 → Fr (fun _ => False) h h' → K b h') : NewP h (.cells #[.int .i64 f0, .int .i64 f1, .slice f2p f2l f2c, .int .u64 f3, .int .i64 f4] T.ref23_Item) fun b h_0 => K b h_0 :=
  newP_of (hk _ _ rfl push_new (Fr.push _ _))
theorem ref23_Item.set {h : Heap} {b : Nat} {g0 : Int} {g1 : Int} {g2p : Option Addr} {g2l g2c : Nat} {g3 : Int} {g4 : Int} {f0 : Int} {f1 : Int} {f2p : Option Addr} {f2l f2c : Nat} {f3 : Int} {f4 : Int} {K : Heap → Prop} (a0 : ref23_Item.at h b g0 g1 g2p g2l g2c g3 g4) (hk : ∀ h', ref23_Item.at h' b f0 f1 f2p f2l f2c f3 f4 → h'.size = h.size → (∀ x, x ≠ b → h'[x]? = h[x]?) → K h') : StoreP h ⟨b, 0, none⟩ (.int .i64 f0) fun h_1 => StoreP h_1 ⟨b, 1, none⟩ (.int .i64 f1) fun h_2 => StoreP h_2 ⟨b, 2, none⟩ (.slice f2p f2l f2c) fun h_3 => StoreP h_3 ⟨b, 3, none⟩ (.int .u64 f3) fun h_4 => StoreP h_4 ⟨b, 4, none⟩ (.int .i64 f4) fun h_5 => K h_5 := by
  refine storeP_blk a0 (by simp) fun h1 a1 s1 o1 => ?_
  refine storeP_blk a1 (by simp) fun h2 a2 s2 o2 => ?_
  refine storeP_blk a2 (by simp) fun h3 a3 s3 o3 => ?_
  refine storeP_blk a3 (by simp) fun h4 a4 s4 o4 => ?_
  refine storeP_blk a4 (by simp) fun h5 a5 s5 o5 => ?_
  exact hk h5 a5 (by omega) (fun x hx => by rw [o5 x hx, o4 x hx, o3 x hx, o2 x hx, o1 x hx])

end Go.Proofs.Ytlonfpolnmiglaa
