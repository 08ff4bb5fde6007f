/-
  Printed by a program of this work (vc.py): the verification conditions of functions, and that each is enough for the call. No condition.
-/
import Derived.Test.YtlnofnmdiddmkaaNames
import Derived.Test.YtlnofnmdiddmkaaStep
set_option maxRecDepth 100000
set_option maxHeartbeats 4000000
namespace Go.Proofs.Ytlnofnmdiddmkaa
open Go.Den
def sessions_Answer.at (h : Heap) (b : Nat) (f0 : Int) (f1p : Option Addr) (f1l f1c : Nat) : Prop := h[b]? = some (.cells #[.int .u64 f0, .slice f1p f1l f1c] T.sessions_Answer (0, 0))
theorem sessions_Answer.ld {h : Heap} {b : Nat} {f0 : Int} {f1p : Option Addr} {f1l f1c : Nat} {K : Int → Option Addr → Nat → Nat → Prop} (hb : sessions_Answer.at h b f0 f1p f1l f1c) (hk : K f0 f1p f1l f1c) : ∃ (t0 : Int), hcell h ⟨b, 0, none⟩ = some (.int .u64 t0) ∧ ∃ (t1p : Option Addr) (t1l t1c : Nat), hcell h ⟨b, 1, none⟩ = some (.slice t1p t1l t1c) ∧ K t0 t1p t1l t1c :=
  ⟨_, cell_at hb rfl, _, _, _, cell_at hb rfl, hk⟩
theorem sessions_Answer.ldA {h : Heap} {a : Addr} {f0 : Int} {f1p : Option Addr} {f1l f1c : Nat} {K : Int → Option Addr → Nat → Nat → Prop} (hb : heldL a [.int .u64 f0, .slice f1p f1l f1c] 0 h) (hk : K f0 f1p f1l f1c) : ∃ (t0 : Int), hcell h a = some (.int .u64 t0) ∧ ∃ (t1p : Option Addr) (t1l t1c : Nat), hcell h (a.add 1) = some (.slice t1p t1l t1c) ∧ K t0 t1p t1l t1c := by
  obtain ⟨q0, q1, _⟩ := hb
  rw [add_zero_addr] at q0
  exact ⟨_, q0, _, _, _, q1, hk⟩
theorem sessions_Answer.held {h : Heap} {b : Nat} {f0 : Int} {f1p : Option Addr} {f1l f1c : Nat} (hb : sessions_Answer.at h b f0 f1p f1l f1c) : heldL ⟨b, 0, none⟩ [.int .u64 f0, .slice f1p f1l f1c] 0 h :=
  heldL_blk hb (fun j v hj => by rw [Nat.zero_add]; simpa using hj)
theorem sessions_Answer.new {h : Heap} {f0 : Int} {f1p : Option Addr} {f1l f1c : Nat} {K : Nat → Heap → Prop} (hk : ∀ b h', b = h.size → sessions_Answer.at h' b f0 f1p f1l f1c → Fr (fun _ => False) h h' → K b h') : NewP h (.cells #[.int .u64 0, .slice none 0 0] T.sessions_Answer) fun b h_0 => StoreP h_0 ⟨b, 0, none⟩ (.int .u64 f0) fun h_1 => StoreP h_1 ⟨b, 1, none⟩ (.slice f1p f1l f1c) fun h_2 => K b h_2 :=
  newP_of (storeP_push (by simp) (storeP_push (by simp) ((hk _ _ rfl push_new (Fr.push _ _)))))
theorem sessions_Answer.box {h : Heap} {f0 : Int} {f1p : Option Addr} {f1l f1c : Nat} {K : Nat → Heap → Prop} (hk : ∀ b h', b = h.size → sessions_Answer.at h' b f0 f1p f1l f1c → Fr (fun _ => False) h h' → K b h') : NewP h (.cells #[.int .u64 f0, .slice f1p f1l f1c] T.sessions_Answer) fun b h_0 => K b h_0 :=
  newP_of (hk _ _ rfl push_new (Fr.push _ _))
theorem sessions_Answer.set {h : Heap} {b : Nat} {g0 : Int} {g1p : Option Addr} {g1l g1c : Nat} {f0 : Int} {f1p : Option Addr} {f1l f1c : Nat} {K : Heap → Prop} (a0 : sessions_Answer.at h b g0 g1p g1l g1c) (hk : ∀ h', sessions_Answer.at h' b f0 f1p f1l f1c → h'.size = h.size → (∀ x, x ≠ b → h'[x]? = h[x]?) → K h') : StoreP h ⟨b, 0, none⟩ (.int .u64 f0) fun h_1 => StoreP h_1 ⟨b, 1, none⟩ (.slice f1p f1l f1c) fun h_2 => K h_2 := by
  refine storeP_blk a0 (by simp) fun h1 a1 s1 o1 => ?_
  refine storeP_blk a1 (by simp) fun h2 a2 s2 o2 => ?_
  exact hk h2 a2 (by omega) (fun x hx => by rw [o2 x hx, o1 x hx])

def sessions_Session.at (h : Heap) (b : Nat) (f0 : Int) (f1 : Int) (f2 : Bool) (f3 : Bool) (f4p : Option Addr) (f4l f4c : Nat) (f5p : Option Addr) (f5l f5c : Nat) : Prop := h[b]? = some (.cells #[.int .i64 f0, .int .u64 f1, .bool f2, .bool f3, .slice f4p f4l f4c, .slice f5p f5l f5c] T.sessions_Session (0, 0))
theorem sessions_Session.ld {h : Heap} {b : Nat} {f0 : Int} {f1 : Int} {f2 : Bool} {f3 : Bool} {f4p : Option Addr} {f4l f4c : Nat} {f5p : Option Addr} {f5l f5c : Nat} {K : Int → Int → Bool → Bool → Option Addr → Nat → Nat → Option Addr → Nat → Nat → Prop} (hb : sessions_Session.at h b f0 f1 f2 f3 f4p f4l f4c f5p f5l f5c) (hk : K f0 f1 f2 f3 f4p f4l f4c f5p f5l f5c) : ∃ (t0 : Int), hcell h ⟨b, 0, none⟩ = some (.int .i64 t0) ∧ ∃ (t1 : Int), hcell h ⟨b, 1, none⟩ = some (.int .u64 t1) ∧ ∃ (t2 : Bool), hcell h ⟨b, 2, none⟩ = some (.bool t2) ∧ ∃ (t3 : Bool), hcell h ⟨b, 3, none⟩ = some (.bool t3) ∧ ∃ (t4p : Option Addr) (t4l t4c : Nat), hcell h ⟨b, 4, none⟩ = some (.slice t4p t4l t4c) ∧ ∃ (t5p : Option Addr) (t5l t5c : Nat), hcell h ⟨b, 5, none⟩ = some (.slice t5p t5l t5c) ∧ K t0 t1 t2 t3 t4p t4l t4c t5p t5l t5c :=
  ⟨_, cell_at hb rfl, _, cell_at hb rfl, _, cell_at hb rfl, _, cell_at hb rfl, _, _, _, cell_at hb rfl, _, _, _, cell_at hb rfl, hk⟩
theorem sessions_Session.ldA {h : Heap} {a : Addr} {f0 : Int} {f1 : Int} {f2 : Bool} {f3 : Bool} {f4p : Option Addr} {f4l f4c : Nat} {f5p : Option Addr} {f5l f5c : Nat} {K : Int → Int → Bool → Bool → Option Addr → Nat → Nat → Option Addr → Nat → Nat → Prop} (hb : heldL a [.int .i64 f0, .int .u64 f1, .bool f2, .bool f3, .slice f4p f4l f4c, .slice f5p f5l f5c] 0 h) (hk : K f0 f1 f2 f3 f4p f4l f4c f5p f5l f5c) : ∃ (t0 : Int), hcell h a = some (.int .i64 t0) ∧ ∃ (t1 : Int), hcell h (a.add 1) = some (.int .u64 t1) ∧ ∃ (t2 : Bool), hcell h (a.add 2) = some (.bool t2) ∧ ∃ (t3 : Bool), hcell h (a.add 3) = some (.bool t3) ∧ ∃ (t4p : Option Addr) (t4l t4c : Nat), hcell h (a.add 4) = some (.slice t4p t4l t4c) ∧ ∃ (t5p : Option Addr) (t5l t5c : Nat), hcell h (a.add 5) = some (.slice t5p t5l t5c) ∧ K t0 t1 t2 t3 t4p t4l t4c t5p t5l t5c := by
  obtain ⟨q0, q1, q2, q3, q4, q5, _⟩ := hb
  rw [add_zero_addr] at q0
  exact ⟨_, q0, _, q1, _, q2, _, q3, _, _, _, q4, _, _, _, q5, hk⟩
theorem sessions_Session.held {h : Heap} {b : Nat} {f0 : Int} {f1 : Int} {f2 : Bool} {f3 : Bool} {f4p : Option Addr} {f4l f4c : Nat} {f5p : Option Addr} {f5l f5c : Nat} (hb : sessions_Session.at h b f0 f1 f2 f3 f4p f4l f4c f5p f5l f5c) : heldL ⟨b, 0, none⟩ [.int .i64 f0, .int .u64 f1, .bool f2, .bool f3, .slice f4p f4l f4c, .slice f5p f5l f5c] 0 h :=
  heldL_blk hb (fun j v hj => by rw [Nat.zero_add]; simpa using hj)
theorem sessions_Session.new {h : Heap} {f0 : Int} {f1 : Int} {f2 : Bool} {f3 : Bool} {f4p : Option Addr} {f4l f4c : Nat} {f5p : Option Addr} {f5l f5c : Nat} {K : Nat → Heap → Prop} (hk : ∀ b h', b = h.size → sessions_Session.at h' b f0 f1 f2 f3 f4p f4l f4c f5p f5l f5c → Fr (fun _ => False) h h' → K b h') : NewP h (.cells #[.int .i64 0, .int .u64 0, .bool false, .bool false, .slice none 0 0, .slice none 0 0] T.sessions_Session) fun b h_0 => StoreP h_0 ⟨b, 0, none⟩ (.int .i64 f0) fun h_1 => StoreP h_1 ⟨b, 1, none⟩ (.int .u64 f1) fun h_2 => StoreP h_2 ⟨b, 2, none⟩ (.bool f2) fun h_3 => StoreP h_3 ⟨b, 3, none⟩ (.bool f3) fun h_4 => StoreP h_4 ⟨b, 4, none⟩ (.slice f4p f4l f4c) fun h_5 => StoreP h_5 ⟨b, 5, none⟩ (.slice f5p f5l f5c) fun h_6 => K b h_6 :=
  newP_of (storeP_push (by simp) (storeP_push (by simp) (storeP_push (by simp) (storeP_push (by simp) (storeP_push (by simp) (storeP_push (by simp) ((hk _ _ rfl push_new (Fr.push _ _)))))))))
theorem sessions_Session.box {h : Heap} {f0 : Int} {f1 : Int} {f2 : Bool} {f3 : Bool} {f4p : Option Addr} {f4l f4c : Nat} {f5p : Option Addr} {f5l f5c : Nat} {K : Nat → Heap → Prop} (hk : ∀ b h', b = h.size → sessions_Session.at h' b f0 f1 f2 f3 f4p f4l f4c f5p f5l f5c → Fr (fun _ => False) h h' → K b h') : NewP h (.cells #[.int .i64 f0, .int .u64 f1, .bool f2, .bool f3, .slice f4p f4l f4c, .slice f5p f5l f5c] T.sessions_Session) fun b h_0 => K b h_0 :=
  newP_of (hk _ _ rfl push_new (Fr.push _ _))
theorem sessions_Session.set {h : Heap} {b : Nat} {g0 : Int} {g1 : Int} {g2 : Bool} {g3 : Bool} {g4p : Option Addr} {g4l g4c : Nat} {g5p : Option Addr} {g5l g5c : Nat} {f0 : Int} {f1 : Int} {f2 : Bool} {f3 : Bool} {f4p : Option Addr} {f4l f4c : Nat} {f5p : Option Addr} {f5l f5c : Nat} {K : Heap → Prop} (a0 : sessions_Session.at h b g0 g1 g2 g3 g4p g4l g4c g5p g5l g5c) (hk : ∀ h', sessions_Session.at h' b f0 f1 f2 f3 f4p f4l f4c f5p f5l f5c → h'.size = h.size → (∀ x, x ≠ b → h'[x]? = h[x]?) → K h') : StoreP h ⟨b, 0, none⟩ (.int .i64 f0) fun h_1 => StoreP h_1 ⟨b, 1, none⟩ (.int .u64 f1) fun h_2 => StoreP h_2 ⟨b, 2, none⟩ (.bool f2) fun h_3 => StoreP h_3 ⟨b, 3, none⟩ (.bool f3) fun h_4 => StoreP h_4 ⟨b, 4, none⟩ (.slice f4p f4l f4c) fun h_5 => StoreP h_5 ⟨b, 5, none⟩ (.slice f5p f5l f5c) fun h_6 => K h_6 := by
  refine storeP_blk a0 (by simp) fun h1 a1 s1 o1 => ?_
  refine storeP_blk a1 (by simp) fun h2 a2 s2 o2 => ?_
  refine storeP_blk a2 (by simp) fun h3 a3 s3 o3 => ?_
  refine storeP_blk a3 (by simp) fun h4 a4 s4 o4 => ?_
  refine storeP_blk a4 (by simp) fun h5 a5 s5 o5 => ?_
  refine storeP_blk a5 (by simp) fun h6 a6 s6 o6 => ?_
  exact hk h6 a6 (by omega) (fun x hx => by rw [o6 x hx, o5 x hx, o4 x hx, o3 x hx, o2 x hx, o1 x hx])

def law24_Op.at (h : Heap) (b : Nat) (f0 : Int) (f1 : Int) (f2 : Int) (f3p : Option Addr) (f3l f3c : Nat) (f4 : Bool) : Prop := h[b]? = some (.cells #[.int .i64 f0, .int .i64 f1, .int .u64 f2, .slice f3p f3l f3c, .bool f4] T.law24_Op (0, 0))
theorem law24_Op.ld {h : Heap} {b : Nat} {f0 : Int} {f1 : Int} {f2 : Int} {f3p : Option Addr} {f3l f3c : Nat} {f4 : Bool} {K : Int → Int → Int → Option Addr → Nat → Nat → Bool → Prop} (hb : law24_Op.at h b f0 f1 f2 f3p f3l f3c f4) (hk : K f0 f1 f2 f3p f3l f3c f4) : ∃ (t0 : Int), hcell h ⟨b, 0, none⟩ = some (.int .i64 t0) ∧ ∃ (t1 : Int), hcell h ⟨b, 1, none⟩ = some (.int .i64 t1) ∧ ∃ (t2 : Int), hcell h ⟨b, 2, none⟩ = some (.int .u64 t2) ∧ ∃ (t3p : Option Addr) (t3l t3c : Nat), hcell h ⟨b, 3, none⟩ = some (.slice t3p t3l t3c) ∧ ∃ (t4 : Bool), hcell h ⟨b, 4, none⟩ = some (.bool t4) ∧ K t0 t1 t2 t3p t3l t3c t4 :=
  ⟨_, cell_at hb rfl, _, cell_at hb rfl, _, cell_at hb rfl, _, _, _, cell_at hb rfl, _, cell_at hb rfl, hk⟩
theorem law24_Op.ldA {h : Heap} {a : Addr} {f0 : Int} {f1 : Int} {f2 : Int} {f3p : Option Addr} {f3l f3c : Nat} {f4 : Bool} {K : Int → Int → Int → Option Addr → Nat → Nat → Bool → Prop} (hb : heldL a [.int .i64 f0, .int .i64 f1, .int .u64 f2, .slice f3p f3l f3c, .bool f4] 0 h) (hk : K f0 f1 f2 f3p f3l f3c f4) : ∃ (t0 : Int), hcell h a = some (.int .i64 t0) ∧ ∃ (t1 : Int), hcell h (a.add 1) = some (.int .i64 t1) ∧ ∃ (t2 : Int), hcell h (a.add 2) = some (.int .u64 t2) ∧ ∃ (t3p : Option Addr) (t3l t3c : Nat), hcell h (a.add 3) = some (.slice t3p t3l t3c) ∧ ∃ (t4 : Bool), hcell h (a.add 4) = some (.bool t4) ∧ K t0 t1 t2 t3p t3l t3c t4 := by
  obtain ⟨q0, q1, q2, q3, q4, _⟩ := hb
  rw [add_zero_addr] at q0
  exact ⟨_, q0, _, q1, _, q2, _, _, _, q3, _, q4, hk⟩
theorem law24_Op.held {h : Heap} {b : Nat} {f0 : Int} {f1 : Int} {f2 : Int} {f3p : Option Addr} {f3l f3c : Nat} {f4 : Bool} (hb : law24_Op.at h b f0 f1 f2 f3p f3l f3c f4) : heldL ⟨b, 0, none⟩ [.int .i64 f0, .int .i64 f1, .int .u64 f2, .slice f3p f3l f3c, .bool f4] 0 h :=
  heldL_blk hb (fun j v hj => by rw [Nat.zero_add]; simpa using hj)
theorem law24_Op.new {h : Heap} {f0 : Int} {f1 : Int} {f2 : Int} {f3p : Option Addr} {f3l f3c : Nat} {f4 : Bool} {K : Nat → Heap → Prop} (hk : ∀ b h', b = h.size → law24_Op.at h' b f0 f1 f2 f3p f3l f3c f4 → Fr (fun _ => False) h h' → K b h') : NewP h (.cells #[.int .i64 0, .int .i64 0, .int .u64 0, .slice none 0 0, .bool false] T.law24_Op) fun b h_0 => StoreP h_0 ⟨b, 0, none⟩ (.int .i64 f0) fun h_1 => StoreP h_1 ⟨b, 1, none⟩ (.int .i64 f1) fun h_2 => StoreP h_2 ⟨b, 2, none⟩ (.int .u64 f2) fun h_3 => StoreP h_3 ⟨b, 3, none⟩ (.slice f3p f3l f3c) fun h_4 => StoreP h_4 ⟨b, 4, none⟩ (.bool f4) fun h_5 => K b h_5 :=
  newP_of (storeP_push (by simp) (storeP_push (by simp) (storeP_push (by simp) (storeP_push (by simp) (storeP_push (by simp) ((hk _ _ rfl push_new (Fr.push _ _))))))))
theorem law24_Op.box {h : Heap} {f0 : Int} {f1 : Int} {f2 : Int} {f3p : Option Addr} {f3l f3c : Nat} {f4 : Bool} {K : Nat → Heap → Prop} (hk : ∀ b h', b = h.size → law24_Op.at h' b f0 f1 f2 f3p f3l f3c f4 → Fr (fun _ => False) h h' → K b h') : NewP h (.cells #[.int .i64 f0, .int .i64 f1, .int .u64 f2, .slice f3p f3l f3c, .bool f4] T.law24_Op) fun b h_0 => K b h_0 :=
  newP_of (hk _ _ rfl push_new (Fr.push _ _))
theorem law24_Op.set {h : Heap} {b : Nat} {g0 : Int} {g1 : Int} {g2 : Int} {g3p : Option Addr} {g3l g3c : Nat} {g4 : Bool} {f0 : Int} {f1 : Int} {f2 : Int} {f3p : Option Addr} {f3l f3c : Nat} {f4 : Bool} {K : Heap → Prop} (a0 : law24_Op.at h b g0 g1 g2 g3p g3l g3c g4) (hk : ∀ h', law24_Op.at h' b f0 f1 f2 f3p f3l f3c f4 → h'.size = h.size → (∀ x, x ≠ b → h'[x]? = h[x]?) → K h') : StoreP h ⟨b, 0, none⟩ (.int .i64 f0) fun h_1 => StoreP h_1 ⟨b, 1, none⟩ (.int .i64 f1) fun h_2 => StoreP h_2 ⟨b, 2, none⟩ (.int .u64 f2) fun h_3 => StoreP h_3 ⟨b, 3, none⟩ (.slice f3p f3l f3c) fun h_4 => StoreP h_4 ⟨b, 4, none⟩ (.bool f4) fun h_5 => K h_5 := by
  refine storeP_blk a0 (by simp) fun h1 a1 s1 o1 => ?_
  refine storeP_blk a1 (by simp) fun h2 a2 s2 o2 => ?_
  refine storeP_blk a2 (by simp) fun h3 a3 s3 o3 => ?_
  refine storeP_blk a3 (by simp) fun h4 a4 s4 o4 => ?_
  refine storeP_blk a4 (by simp) fun h5 a5 s5 o5 => ?_
  exact hk h5 a5 (by omega) (fun x hx => by rw [o5 x hx, o4 x hx, o3 x hx, o2 x hx, o1 x hx])

end Go.Proofs.Ytlnofnmdiddmkaa
