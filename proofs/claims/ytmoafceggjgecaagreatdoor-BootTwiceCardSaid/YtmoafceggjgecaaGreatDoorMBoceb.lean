/-
  What is proved here: parts of the proof, one behind the other (texts of this work, merged by a program; what the theorem does not use is left out). No condition.
-/
import Derived.Test.YtmoafceggjgecaaGreatDoorProg
import Derived.Test.YtmoafceggjgecaaGreatDoorMBocea
set_option linter.defProp false
set_option maxRecDepth 100000
set_option maxHeartbeats 4000000
namespace Go.Den
section
variable {P : Program} {ty : TypeId}
theorem den_append_new_i {sT xT elem eT : TypeId} {i : TypeInfo} {z : Value} {h : Heap} {p q : Option Addr} {len cap n cq : Nat} {cs ds : List Value} {K : Value → Heap → Prop}
    (hs : P.underlying sT = some (.slice elem)) (hx : P.underlying xT = some (.slice eT)) (hi : P.info? elem = some i) (hz : i.zero = some z) (hsz : z.cells.size = i.size)
    (hr : Row h p cs) (hcl : cs.length = len * i.size) (hcap : ¬ len + n ≤ cap) (hq : Row h q ds) (hd : ds.length = n * i.size) (hb : (len + n) * i.bytes ≤ 70368744177664) (hb2 : len + n ≤ 9223372036854775807)
    (hk : ∀ p' cap' h', Own h' p' (len + n) cap' i.size (cs ++ ds) → Fr (fun _ => False) h h' → (∀ c, inBlk p' c → h.size ≤ c) → K (.slice p' (len + n) cap') h') :
    denSem P (Builtin.append_ #[sT, xT] ty #[.slice p len cap, .slice q n cq]) h K := by
  unfold Builtin.append_
  refine den_of_rd (s := underlying sT) (rd_underlying hs) ?_
  refine den_of_rd (s := sizeOf elem) (rd_sizeOf hi) ?_
  refine den_of_rd (s := underlying xT) (rd_underlying hx) ?_
  refine den_of_rd (s := (pure false : Sem Bool)) (a := false) rfl ?_
  refine den_of_rd (s := Builtin.lenOf (.slice q n cq)) (a := n) rfl ?_
  show denSem P (if len + n ≤ cap then _ else _) h K
  rw [if_neg hcap]
  have hle := nextslicecap_le (need := len + n) (cap := cap) (by omega)
  refine den_of_rd (s := typeInfo elem) (rd_typeInfo hi) ?_
  have hmax : ¬ (((len + n : Nat) : Int) > IntKind.max .i64 ∧ (False ∨ i.bytes = 0)) := fun hc => by
    have : IntKind.max .i64 = 9223372036854775807 := rfl
    rw [this] at hc; omega
  show denSem P (if (((len + n : Nat) : Int) > IntKind.max .i64 ∧ (false = true ∨ i.bytes = 0)) then _ else _) h K
  rw [if_neg (by simpa using hmax)]
  refine den_of_rd (s := typeInfo elem) (rd_typeInfo hi) ?_
  have hnext : ¬ (Builtin.nextslicecap (len + n) cap * i.bytes > 2 ^ 48) := by
    have h1 : Builtin.nextslicecap (len + n) cap * i.bytes ≤ 2 * (len + n) * i.bytes := Nat.mul_le_mul_right _ hle
    rw [Nat.mul_assoc] at h1
    omega
  show denSem P (if Builtin.nextslicecap (len + n) cap * i.bytes > 2 ^ 48 then _ else _) h K
  rw [if_neg hnext]
  show denSem P (choose (.appendCap (len + n) cap elem) >>= _) h K
  rw [den_bind]
  unfold choose
  simp only [denSem, Question.forced, Bool.false_eq_true, if_false, Question.cut]
  intro tq
  refine den_of_rd (s := typeInfo elem) (rd_typeInfo hi) ?_
  rw [den_bind]
  have hroom : ∀ (m : Nat) (K' : Unit → Heap → Prop), K' () h → denSem P (askRoom m) h K' := fun m K' hk' => by
    unfold askRoom
    split
    · exact hk'
    · exact hk'
  refine hroom _ _ ?_
  refine den_of_rd (s := Builtin.firstCells i.size len (.slice p len cap)) (a := cs.toArray) (rd_firstCells hr hcl) ?_
  refine den_of_rd (s := Builtin.firstCells i.size n (.slice q n cq)) (a := ds.toArray) (rd_firstCells hq hd) ?_
  refine den_of_rd (s := zeroValue elem) (rd_zeroValue hi hz) ?_
  generalize hcap' : len + n + tq % (2 ^ 63 - (len + n)) = cap'
  have hge : len + n ≤ cap' := by omega
  show K (.slice (some ⟨h.size, 0, none⟩) (len + n) cap') (h.push (.cells (cs.toArray ++ ds.toArray ++ Builtin.zeroCells z.cells (cap' - (len + n))) elem))
  have hsize : (cs.toArray ++ ds.toArray ++ Builtin.zeroCells z.cells (cap' - (len + n))).size = cap' * i.size := by
    have h1 : (Builtin.zeroCells z.cells (cap' - (len + n))).size = (cap' - (len + n)) * i.size := by simp [Builtin.zeroCells, hsz]
    have h2 := hcl
    rw [Array.size_append, Array.size_append, h1]
    simp only [List.size_toArray]
    rw [h2, hd, ← Nat.add_mul, ← Nat.add_mul]
    congr 1; omega
  refine hk _ cap' _ (.row h.size 0 _ elem rfl push_new hge (by rw [hsize]; omega) (by rw [List.length_append, hcl, hd, Nat.add_mul]) ?_) (Fr.push _ _) ?_
  · intro j v hj
    rw [Nat.zero_add]
    have hjl : j < (cs ++ ds).length := (List.getElem?_eq_some_iff.1 hj).1
    rw [Array.getElem?_append_left (by simpa using hjl)]
    simpa using hj
  · rintro c ⟨a, e, rfl⟩
    cases e
    exact Nat.le_refl _
theorem den_append_new {sT xT elem eT : TypeId} {sz bytes : Nat} {z : Value} {h : Heap} {p q : Option Addr} {len cap n cq : Nat} {cs ds : List Value} {K : Value → Heap → Prop}
    (T : SlTy P sT elem sz bytes z) (hx : P.underlying xT = some (.slice eT))
    (hr : Row h p cs) (hcl : cs.length = len * sz) (hcap : ¬ len + n ≤ cap) (hq : Row h q ds) (hd : ds.length = n * sz) (hb : (len + n) * bytes ≤ 70368744177664) (hb2 : len + n ≤ 9223372036854775807)
    (hk : ∀ p' cap' h', Own h' p' (len + n) cap' sz (cs ++ ds) → Fr (fun _ => False) h h' → (∀ c, inBlk p' c → h.size ≤ c) → K (.slice p' (len + n) cap') h') :
    denSem P (Builtin.append_ #[sT, xT] ty #[.slice p len cap, .slice q n cq]) h K := by
  obtain ⟨i, hi, rfl, rfl, hz⟩ := T.i
  exact den_append_new_i T.u hx hi hz T.zs hr hcl hcap hq hd hb hb2 hk
end
def Src (h : Heap) (p : Option Addr) (l c : Nat) (bs : List UInt8) : Prop := l = bs.length ∧ (Own h p l c 1 (bc bs) ∨ (Row h p (bc bs) ∧ c = l))
theorem Src.frame {h h' : Heap} {p : Option Addr} {l c : Nat} {bs : List UInt8} {S : Nat → Prop} (H : Src h p l c bs) (f : Fr S h h') (hn : ∀ y, inBlk p y → ¬ S y) : Src h' p l c bs :=
  ⟨H.1, H.2.imp (fun o => o.frame f hn) (fun r => ⟨r.1.frame f (fun a e => hn _ ⟨a, e, rfl⟩), r.2⟩)⟩
theorem Src.own {h : Heap} {p : Option Addr} {l c : Nat} {bs : List UInt8} (o : Own h p bs.length c 1 (bc bs)) (hl : l = bs.length) : Src h p l c bs := by subst hl; exact ⟨rfl, .inl o⟩
theorem den_appendS {P : Program} {ty sT xT elem eT : TypeId} {z : Value} {h : Heap} {p q : Option Addr} {len cap n cq : Nat} {bs ds : List UInt8} {K : Value → Heap → Prop}
    (T : SlTy P sT elem 1 1 z) (hx : P.underlying xT = some (.slice eT)) (H : Src h p len cap bs) (hq : Row h q (bc ds)) (hd : n = ds.length) (hn : 0 < n) (hb : len + n ≤ 70368744177664)
    (hk : ∀ p' cap' h', Own h' p' (bs ++ ds).length cap' 1 (bc (bs ++ ds)) → Fr (inBlk p) h h' → (∀ c, inBlk p' c → inBlk p c ∨ h.size ≤ c) → K (.slice p' (bs ++ ds).length cap') h') :
    denSem P (Builtin.append_ #[sT, xT] ty #[.slice p len cap, .slice q n cq]) h K := by
  obtain ⟨rfl, o | ⟨r, rfl⟩⟩ := H
  · subst hd
    refine den_append T hx o hq (by rw [bc_len, Nat.mul_one]) (bc_one _) (by omega) (by omega) fun p' c' h' o' _ f g => ?_
    rw [← List.length_append] at o' ⊢
    rw [← bc_append] at o'
    exact hk p' c' h' o' f g
  · subst hd
    refine den_append_new T hx r (by rw [bc_len, Nat.mul_one]) (by omega) hq (by rw [bc_len, Nat.mul_one]) (by omega) (by omega) fun p' c' h' o' f g => ?_
    rw [← List.length_append] at o' ⊢
    rw [← bc_append] at o'
    exact hk p' c' h' o' (f.mono fun _ _ => False.elim) (fun c hc => .inr (g c hc))
theorem den_append1S {P : Program} {ty sT xT elem eT ct : TypeId} {z : Value} {h : Heap} {p : Option Addr} {len cap : Nat} {bs : List UInt8} {x : Int} {K : Value → Heap → Prop} (c : UInt8) (hc : x = (c.toNat : Int))
    (T : SlTy P sT elem 1 1 z) (hx : P.underlying xT = some (.slice eT)) (H : Src h p len cap bs) (hb : len + 1 ≤ 70368744177664)
    (hk : ∀ p' cap' h', Own h' p' (bs ++ [c]).length cap' 1 (bc (bs ++ [c])) → Fr (inBlk p) h h' → (∀ y, inBlk p' y → inBlk p y ∨ h.size ≤ y) → K (.slice p' (bs ++ [c]).length cap') h') :
    NewP h (.cells #[.int .u8 x] ct) fun b h1 => denSem P (Builtin.append_ #[sT, xT] ty #[.slice p len cap, .slice (some ⟨b, 0, none⟩) 1 1]) h1 K := by
  subst hc
  refine newP_of ?_
  have f1 : Fr (fun _ => False) h (h.push (.cells #[.int .u8 (c.toNat : Int)] ct)) := Fr.push _ _
  have r : Row (h.push (.cells #[.int .u8 (c.toNat : Int)] ct)) (some ⟨h.size, 0, none⟩) (bc [c]) := row_new (cs := bc [c])
  refine den_appendS T hx (H.frame f1 (fun _ _ => id)) r rfl (by omega) hb fun p' c' h' o f g => hk p' c' h' o (Fr.no f1 f) fun y hy => (g y hy).imp id fun q => by have := f1.1; omega
theorem den_zeros {P : Program} {ty sT xT elem : TypeId} {h : Heap} {p : Option Addr} {len cap n : Nat} {bs : List UInt8} {K : Value → Heap → Prop}
    (T : SlTy P sT elem 1 1 (.int .u8 0)) (hx : P.underlying xT = some (.int .i64)) (own : Own h p len cap 1 (bc bs)) (hl : len = bs.length) (hn : 0 < n) (hb : len + n ≤ 70368744177664)
    (hk : ∀ p' cap' h', Own h' p' (len + n) cap' 1 (bc (bs ++ List.replicate n 0)) → Fr (inBlk p) h h' → (∀ c, inBlk p' c → inBlk p c ∨ h.size ≤ c) → K (.slice p' (len + n) cap') h') :
    denSem P (Builtin.append_ #[sT, xT] ty #[.slice p len cap, .int .i64 (n : Int)]) h K := by
  obtain ⟨i, hi, hsz, hby, hz⟩ := T.i
  have zc : ∀ m, Builtin.zeroCells (Value.int .u8 0).cells m = (List.replicate m (.int .u8 0)).toArray := fun m => by
    apply Array.ext_getElem?
    intro j
    by_cases hj : j < m
    · simp [Builtin.zeroCells, Value.cells, hj, Nat.mod_one]
    · rw [Array.getElem?_eq_none (by simp [Builtin.zeroCells, Value.cells]; omega), Array.getElem?_eq_none (by simp; omega)]
  have ez : bc (List.replicate n 0) = List.replicate n (.int .u8 0) := by unfold bc; rw [List.map_replicate]; rfl
  have hone : ∀ v ∈ List.replicate n (Value.int .u8 0), oneCell v = true := fun v hv => by rw [(List.mem_replicate.1 hv).2]; rfl
  refine den_of_rd (rd_underlying T.u) ?_
  refine den_of_rd (rd_sizeOf hi) ?_
  refine den_of_rd (rd_underlying hx) ?_
  refine den_of_rd rfl ?_
  have hw : IntKind.wrap .i64 (n : Int) = (n : Int) := wrap_id (by omega) (by omega)
  refine den_of_rd (a := (n : Int)) rfl ?_
  rw [hw]
  rw [if_neg (by omega)]
  refine den_of_rd (rd_typeInfo hi) ?_
  rw [if_neg (by rw [hby]; omega)]
  refine den_of_rd (a := n) rfl ?_
  have ra : ∀ g, rd P (if n * i.size = 0 then pure #[] else do pure (Builtin.zeroCells (← zeroValue elem).cells n) : Sem (Array Value)) g = some (List.replicate n (Value.int .u8 0)).toArray := fun g => by
    rw [hsz, if_neg (by omega), rd_bind _ _ _ _ (rd_zeroValue hi hz)]
    show some (Builtin.zeroCells (Value.int .u8 0).cells n) = _
    rw [zc]
  show denSem P (if len + n ≤ cap then _ else _) h K
  by_cases hcap : len + n ≤ cap
  · rw [if_pos hcap]
    refine den_of_rd (ra h) ?_
    cases own with
    | nil hp hl hc hcs => omega
    | row b off c t hp hbk hll hc hlen hcs =>
      subst hp
      show denSem P (storeCells ((⟨b, off, none⟩ : Addr).add (len * i.size)) (List.replicate n (Value.int .u8 0)) >>= fun _ => pure (.slice (some ⟨b, off, none⟩) (len + n) cap)) h K
      rw [add_blk, den_bind, hsz, Nat.mul_one]
      refine splice_set (c := c) (off := off + len) _ 0 h b t _ hone hbk (by simp; omega) ?_
      intro h' c' hb' hs' ho' hn' hsz' hoth
      show K (.slice (some ⟨b, off, none⟩) (len + n) cap) h'
      rw [Nat.mul_one] at hlen
      refine hk _ cap h' (.row b off c' t rfl hb' hcap (by omega) (by rw [bc_len, List.length_append, List.length_replicate]; omega) ?_) (Fr.of_eq hsz' fun x hx => hoth x (fun e => hx ⟨_, rfl, e.symm⟩)) (fun c hc => .inl hc)
      intro j v hj
      rw [bc_append, ez] at hj
      by_cases hjl : j < (bc bs).length
      · rw [List.getElem?_append_left hjl] at hj
        rw [ho' _ (by rw [hlen] at hjl; omega)]; exact hcs j v hj
      · rw [List.getElem?_append_right (by omega)] at hj
        have := hn' _ v hj
        rw [hlen] at this hjl
        rwa [show off + len + 0 + (j - len) = off + j by omega] at this
  · rw [if_neg hcap]
    have hle := nextslicecap_le (need := len + n) (cap := cap) (by omega)
    refine den_of_rd (rd_typeInfo hi) ?_
    have hmax : IntKind.max .i64 = 9223372036854775807 := rfl
    rw [if_neg (by omega)]
    refine den_of_rd (rd_typeInfo hi) ?_
    rw [if_neg (by rw [hby]; omega)]
    rw [den_bind]
    unfold choose
    simp only [denSem, Question.forced, Bool.false_eq_true, if_false, Question.cut]
    intro tq
    refine den_of_rd (rd_typeInfo hi) ?_
    rw [den_bind]
    have hroom : ∀ (m : Nat) (K' : Unit → Heap → Prop), K' () h → denSem P (askRoom m) h K' := fun m K' hk' => by
      unfold askRoom
      split
      · exact hk'
      · exact hk'
    refine hroom _ _ ?_
    refine den_of_rd (rd_firstCells own.row' (by rw [hsz]; exact own.length)) ?_
    refine den_of_rd (ra h) ?_
    refine den_of_rd (rd_zeroValue hi hz) ?_
    generalize hcap' : len + n + tq % (2 ^ 63 - (len + n)) = cap'
    have hge : len + n ≤ cap' := by omega
    have lo := own.length
    rw [bc_len, Nat.mul_one] at lo
    refine hk _ cap' _ (.row h.size 0 _ elem rfl push_new hge ?_ (by rw [bc_len, List.length_append, List.length_replicate]; omega) ?_) (Fr.push _ _) ?_
    · rw [zc]; simp [bc_len]; omega
    · intro j v hj
      rw [Nat.zero_add]
      rw [bc_append, ez] at hj
      have hjl : j < (bc bs ++ List.replicate n (Value.int .u8 0)).length := (List.getElem?_eq_some_iff.1 hj).1
      rw [Array.getElem?_append_left (by simpa using hjl), show ((bc bs).toArray ++ (List.replicate n (Value.int .u8 0)).toArray) = (bc bs ++ List.replicate n (Value.int .u8 0)).toArray from List.append_toArray _ _, List.getElem?_toArray]
      exact hj
    · rintro c ⟨a, e, rfl⟩
      cases e
      exact .inr (Nat.le_refl _)
section
variable {P:Program} {h:Heap}
variable {a:Addr} {i:Nat} {v:Value}
abbrev u8s (bs : List UInt8) : List Value := bs.map fun b => .int .u8 (b.toNat : Int)
theorem loadL_bytes : ∀ (bs : List UInt8) (i : Nat) (F : List Value → Prop), heldL a (u8s bs) i h → F (u8s bs) → loadL h a (List.replicate bs.length (.int .u8)) i F
  | [], _, _, _, hF => hF
  | b :: bs, i, F, hh, hF => by
    rw [List.length_cons, List.replicate_succ]
    exact ⟨_, hh.1, loadL_bytes bs (i + 1) _ hh.2 hF⟩
theorem loadL_u8 {bs : List UInt8} {n:Nat} {F : List Value → Prop} (hn : bs.length = n) (hh : heldL a (u8s bs) i h) (hF : F (u8s bs)) : loadL h a (List.replicate n (.int .u8)) i F := by
  subst hn; exact loadL_bytes bs i F hh hF
theorem exs_u8 : ∀ (bs : List UInt8) (F : List Value → Prop), F (u8s bs) → exs (List.replicate bs.length (.int .u8)) F
  | [], _, hF => hF
  | b :: bs, F, hF => by
    rw [List.length_cons, List.replicate_succ]
    exact ⟨_, exs_u8 bs _ hF⟩
theorem fold_set : ∀ (us : List Value) (k : Nat) (c : Array Value) (off : Nat), off + k + us.length ≤ c.size →
    ∃ c', ((us.zipIdx k).foldl (fun cs (x : Value × Nat) => cs.setIfInBounds (off + x.2) x.1) c) = c' ∧ c'.size = c.size ∧ (∀ j, j < us.length → c'[off + k + j]? = us[j]?) ∧ ∀ j, (j < off + k ∨ off + k + us.length ≤ j) → c'[j]? = c[j]?
  | [], k, c, off, _ => ⟨c, rfl, rfl, fun j hj => by simp at hj, fun _ _ => rfl⟩
  | u :: us, k, c, off, hl => by
    rw [List.length_cons] at hl
    obtain ⟨c', h1, h2, h3, h4⟩ := fold_set us (k + 1) (c.setIfInBounds (off + k) u) off (by simp; omega)
    refine ⟨c', by rw [List.zipIdx_cons, List.foldl_cons]; exact h1, by rw [h2]; simp, fun j hj => ?_, fun j hj => ?_⟩
    · cases j with
      | zero =>
        rw [h4 _ (.inl (by omega))]
        show (c.setIfInBounds (off + k) u)[off + k]? = _
        rw [Array.getElem?_setIfInBounds_self_of_lt (by omega)]; rfl
      | succ j =>
        rw [show off + k + (j + 1) = off + (k + 1) + j by omega, h3 j (by simpa using hj)]; rfl
    · rw [List.length_cons] at hj
      rw [h4 j (by omega), Array.getElem?_setIfInBounds_ne (by omega)]
theorem fill_cons {place : Nat → Option (Nat × Nat)} {cells : Array Value} {off size:Nat} {rest : List (Nat × Value)} (hp : place i = some (off, size)) (hs : v.cells.size = size) (hb : off + v.cells.size ≤ cells.size) :
    Instr.fill place cells ((i, v) :: rest) = Instr.fill place (v.cells.zipIdx.foldl (fun cs (x : Value × Nat) => cs.setIfInBounds (off + x.2) x.1) cells) rest := by
  rw [Instr.fill, hp]
  dsimp only
  rw [if_neg (by simp [hs]; omega)]
theorem buildV_pair {t : TypeId} {fs : Array Field} {i0 i1 it : TypeInfo} {f0 f1 : Field} {us : List Value} {z : Value} (hu : P.underlying t = some (.struct fs)) (hfs : fs = #[f0, f1]) (h0 : P.info? f0.type = some i0) (h1 : P.info? f1.type = some i1) (o0 : f0.offset = 0) (o1 : f1.offset = 1)
    (s0 : i0.size = 1) (s1 : i1.size = us.length) (ht : P.info? t = some it) (hz : it.zero = some z) (zs : z.cells.size = us.length + 1) (hv : oneCell v = true) : BuildV P t #[(0, v), (1, .agg us.toArray)] (.agg (v :: us).toArray) := fun h' => by
  subst hfs
  unfold Instr.build
  have e1 : rd P (zeroValue t) h' = some z := by
    unfold zeroValue
    rw [rd_bind _ _ _ _ (rd_typeInfo ht), hz]; rfl
  rw [rd_bind _ _ _ _ e1, rd_bind _ _ _ _ (rd_underlying hu)]
  have e3 : ∀ (f : Field) (i : TypeInfo), P.info? f.type = some i → rd P (do pure (f.offset, ← sizeOf f.type) : Sem (Nat × Nat)) h' = some (f.offset, i.size) := fun f i hi => by
    rw [rd_bind _ _ _ _ (rd_sizeOf hi)]; rfl
  have e2 : rd P ((#[f0, f1] : Array Field).mapM fun f => do pure (f.offset, ← sizeOf f.type)) h' = some #[(0, 1), (1, us.length)] := by
    simp only [Array.mapM_eq_mapM_toList, List.mapM_cons, List.mapM_nil]
    show rd P (Bind.bind _ (fun l => pure (List.toArray l))) h' = _
    refine (rd_bind _ _ _ [(0, 1), (1, us.length)] ?_).trans rfl
    refine (rd_bind _ _ _ _ (e3 f0 i0 h0)).trans ((rd_bind _ _ _ [(1, us.length)] ((rd_bind _ _ _ _ (e3 f1 i1 h1)).trans ?_)).trans ?_)
    · rw [o1, s1]; rfl
    · rw [o0, s0]; rfl
  rw [rd_bind _ _ _ _ e2]
  have e4 : v.cells = #[v] := by cases v <;> first | rfl | cases hv
  obtain ⟨c', d1, d2, d3, d4⟩ := fold_set us 0 (z.cells.setIfInBounds 0 v) 1 (by simp; omega)
  have e5 : Instr.fill (fun x => #[(0, 1), (1, us.length)][x]?) z.cells [(0, v), (1, .agg us.toArray)] = some (v :: us).toArray := by
    rw [fill_cons (off := 0) (size := 1) rfl (by rw [e4]; rfl) (by rw [e4]; show 0 + 1 ≤ _; omega), e4]
    have e6 : (Array.foldl (fun cs (x : Value × Nat) => cs.setIfInBounds (0 + x.2) x.1) z.cells (#[v] : Array Value).zipIdx) = z.cells.setIfInBounds 0 v := rfl
    rw [e6, fill_cons (off := 1) (size := us.length) rfl (by show us.toArray.size = _; simp) (by show 1 + us.toArray.size ≤ _; simp; omega)]
    show some (Array.foldl (fun cs (x : Value × Nat) => cs.setIfInBounds (1 + x.2) x.1) (z.cells.setIfInBounds 0 v) us.toArray.zipIdx) = _
    rw [← Array.foldl_toList, Array.toList_zipIdx, d1]
    congr 1
    refine Array.ext_getElem? fun j => ?_
    rcases j with _ | j
    · rw [d4 0 (.inl (by omega)), Array.getElem?_setIfInBounds_self_of_lt (by omega)]; simp
    · by_cases hj : j < us.length
      · have := d3 j hj
        rw [show 1 + 0 + j = j + 1 by omega] at this
        rw [this]; simp
      · rw [Array.getElem?_eq_none (by rw [d2]; simp; omega), Array.getElem?_eq_none (by simp; omega)]
  show rd P (match Instr.fill _ z.cells [(0, v), (1, Value.agg us.toArray)] with | some cells => pure (Value.agg cells) | _ => _) h' = _
  rw [e5]
  rfl

end
section
variable {P : Program}
theorem den_makeN {t elem : TypeId} {sz bytes : Nat} {z z0 : Value} {h : Heap} {K : Value → Heap → Prop} (T : SlTy P t elem sz bytes z) (hz0 : z.cells = Array.replicate sz z0) (hsz0 : 0 < sz) (n : Nat) (hb : n * bytes ≤ 70368744177664) (hn : n ≤ 9223372036854775807)
    (hk : ∀ h' p', Own h' p' n n sz (List.replicate (n * sz) z0) → Fr (fun _ => False) h h' → (∀ c, inBlk p' c → h.size ≤ c) → K (.slice p' n n) h') :
    denSem P (Instr.makeSlice t (.int .i64 (n : Int)) (.int .i64 (n : Int))) h K := by
  obtain ⟨i, hi, hsz, rfl, hz⟩ := T.i
  unfold Instr.makeSlice
  refine den_of_rd (s := underlying t) (rd_underlying T.u) ?_
  refine den_of_rd (s := asInt (.int .i64 (n : Int))) (a := (n : Int)) rfl ?_
  refine den_of_rd (s := asInt (.int .i64 (n : Int))) (a := (n : Int)) rfl ?_
  refine den_of_rd (s := typeInfo elem) (rd_typeInfo hi) ?_
  simp only []
  rw [wrap_id (n := (n : Int)) (by omega) (by omega)]
  have hm : (i.bytes : Int) * (n : Int) = ((n * i.bytes : Nat) : Int) := by rw [Nat.mul_comm]; simp
  have hl : (decide ((n : Int) < 0) || decide ((i.bytes : Int) * (n : Int) > 2 ^ 48)) = false := by
    rw [hm]
    have h1 : ¬ (n : Int) < 0 := by omega
    have h2 : ¬ ((n * i.bytes : Nat) : Int) > 2 ^ 48 := by omega
    rw [decide_eq_false h1, decide_eq_false h2]; rfl
  have hc : (((decide ((n : Int) < 0) || decide ((i.bytes : Int) * (n : Int) > 2 ^ 48)) || decide ((n : Int) < 0)) || decide ((n : Int) > (n : Int))) = false := by
    rw [hl]; simp
  rw [if_neg (by rw [hc]; simp)]
  have hroom : ∀ (m : Nat) (K' : Unit → Heap → Prop), K' () h → denSem P (askRoom m) h K' := fun m K' hk' => by
    unfold askRoom
    split
    · exact hk'
    · exact hk'
  rw [den_bind]
  refine hroom _ _ ?_
  refine den_of_rd (s := sizeOf elem) (rd_sizeOf hi) ?_
  rw [Int.toNat_natCast, hsz]
  have fin : ∀ zs : Array Value, (n = 0 ∨ zs = Array.replicate sz z0) → denSem P (newRow elem ((Array.range (n * sz)).map (zs[· % zs.size]!)) >>= fun a => pure (.slice (some a) n n)) h K := by
    intro zs hzs
    show K (.slice (some ⟨h.size, 0, none⟩) n n) (h.push (.cells ((Array.range (n * sz)).map (zs[· % zs.size]!)) elem))
    refine hk _ _ (.row h.size 0 _ elem rfl push_new (Nat.le_refl _) (by simp) (by simp) ?_) (Fr.push _ _) ?_
    · intro j v hj
      have hjn : j < n * sz := by have := (List.getElem?_eq_some_iff.1 hj).1; simpa using this
      have hv : v = z0 := by
        rw [List.getElem?_replicate, if_pos hjn] at hj; exact (Option.some.inj hj).symm
      subst hv
      rcases hzs with hz | rfl
      · rw [hz, Nat.zero_mul] at hjn; omega
      · have hlt : j % sz < sz := Nat.mod_lt _ hsz0
        rw [Nat.zero_add]; simp [hjn, hlt]
    · rintro c ⟨a, e, rfl⟩; cases e; exact Nat.le_refl _
  by_cases h0 : n = 0
  · rw [if_pos (by rw [h0, Nat.zero_mul])]
    exact fin #[] (.inl h0)
  · rw [if_neg (fun e => by rcases Nat.mul_eq_zero.1 e with a | a <;> omega)]
    refine den_of_rd (s := zeroValue elem) (rd_zeroValue hi hz) ?_
    refine den_of_rd (s := (pure z.cells : Sem (Array Value))) (a := z.cells) rfl ?_
    rw [hz0]
    exact fin _ (.inr rfl)
end
section
variable {a:Addr} {len cap sz i j:Nat} {K:Heap→Prop}
def writeAt : List Value → Nat → List Value → List Value
  | cs, _, [] => cs
  | cs, p, v :: vs => writeAt (cs.set p v) (p + 1) vs
theorem writeAt_len : ∀ (vs cs : List Value) (p : Nat), (writeAt cs p vs).length = cs.length
  | [], cs, p => rfl
  | v :: vs, cs, p => by unfold writeAt; rw [writeAt_len vs, List.length_set]
theorem writeAt_at : ∀ (vs cs : List Value) (p : Nat), p + vs.length ≤ cs.length → ∀ j, (writeAt cs p vs)[j]? = if p ≤ j ∧ j < p + vs.length then vs[j - p]? else cs[j]?
  | [], cs, p, _, j => by unfold writeAt; rw [if_neg (by simp)]
  | v :: vs, cs, p, hl, j => by
    unfold writeAt
    rw [writeAt_at vs _ (p + 1) (by grind) j, List.getElem?_set]
    by_cases h1 : p + 1 ≤ j ∧ j < p + 1 + vs.length
    · grind
    · grind
theorem Own.storeL {p:Nat} : ∀ (vs : List Value) (k : Nat) (h : Heap) (cs : List Value), Own h (.some a) len cap sz cs → (∀ v ∈ vs, oneCell v = true) → p + k + vs.length ≤ cs.length →
    (∀ h', Own h' (.some a) len cap sz (writeAt cs (p + k) vs) → h'.size = h.size → (∀ x, ¬ inBlk (.some a) x → h'[x]? = h[x]?) → K h') → Den.storeL (a.add p) vs k h K
  | [], k, h, cs, o, _, _, hk => hk h o rfl (fun _ _ => rfl)
  | v :: vs, k, h, cs, o, hv, hl, hk => by
    rw [List.length_cons] at hl
    unfold Den.storeL
    rw [hv v List.mem_cons_self]
    rw [add_add]
    refine o.store (by omega) fun h1 o1 s1 q1 => (Own.storeL vs (k + 1) h1 _ o1 (fun u hu => hv u (List.mem_cons_of_mem _ hu)) (by grind) fun h2 o2 s2 q2 => hk h2 ?_ (by omega) (fun x hx => by grind))
    unfold writeAt
    exact o2
theorem Own.storeRow {h : Heap} {α : Type} {enc : α → List Value} {xs : List α} {y : α} (o : Own h (.some a) len cap sz (xs.flatMap enc)) (henc : ∀ x, (enc x).length = sz) (hone : ∀ v ∈ enc y, oneCell v = true) (hi : i < xs.length)
    (hk : ∀ h', Own h' (.some a) len cap sz ((xs.set i y).flatMap enc) → h'.size = h.size → (∀ x, ¬ inBlk (.some a) x → h'[x]? = h[x]?) → K h') : Den.storeL (a.add (i * sz)) (enc y) 0 h K := by
  have hl := flat_len enc sz henc xs
  have hb  := by
    have := Nat.mul_le_mul_right sz (show i + 1 ≤ xs.length by omega)
    rwa [Nat.add_mul, Nat.one_mul] at this
  refine Own.storeL (enc y) 0 h _ o hone (by grind) fun h' o' s' q' => hk h' ?_ s' q'
  have e : writeAt (xs.flatMap enc) (i * sz + 0) (enc y) = (xs.set i y).flatMap enc := by
    refine flat_set enc sz henc xs i y hi _ (writeAt_len _ _ _) ?_ ?_
    · intro j hj
      rw [writeAt_at _ _ _ (by rw [henc, hl]; omega), henc,if_neg]
      rintro ⟨h1, h2⟩
      rcases hj with hj | hj
      · apply hj
        have hz : 0 < sz := by omega
        rw [Nat.div_eq_iff hz]
        constructor
        · omega
        · omega
      · omega
    · intro j v hj hv
      rw [writeAt_at _ _ _ (by rw [henc, hl]; omega), henc, if_pos (by omega), show i * sz + j - (i * sz + 0) = j by omega]
      exact hv
  rw [e] at o'
  exact o'
def swp {α : Type} (xs : List α) (i j : Nat) : List α :=
  match xs[i]?, xs[j]? with
  | some x, some y => (xs.set i y).set j x
  | _, _ => xs
theorem swp_eq {α : Type} {xs : List α} {x y : α} (hx : xs[i]? = some x) (hy : xs[j]? = some y) : (xs.set i y).set j x = swp xs i j := by unfold swp; rw [hx, hy]
theorem swp_at {α : Type} {xs : List α} (hi : i < xs.length) (hj : j < xs.length) (k : Nat) : (swp xs i j)[k]? = if k = j then xs[i]? else if k = i then xs[j]? else xs[k]? := by
  unfold swp
  by_cases h1 : j = k
  · grind
  · grind
theorem swp_perm {α : Type} {xs : List α} (hi : i < xs.length) (hj : j < xs.length) : (swp xs i j).Perm xs := by
  unfold swp
  rw [List.getElem?_eq_getElem hi, List.getElem?_eq_getElem hj]
  exact List.set_set_perm hi hj

end
section
variable {h h':Heap} {X:Ft} {j:Nat}
def In (X : Ft) (y : Nat) : Prop := X.M y ∨ X.D y
abbrev only (X : Ft) (P : Nat → Prop) : Prop := ∀ y, (X.M y ↔ P y) ∧ ¬ X.D y
abbrev pt (b : Nat) : Value := .pointer (some ⟨b, 0, none⟩)
structure Stable (P : Nat → Heap → Ft → Prop) : Prop where
  lt : ∀ {i h X}, P i h X → ∀ y, In X y → y < h.size
  frame : ∀ {i h h' X} {Q : Nat → Prop}, P i h X → Fr Q h h' → (∀ y, In X y → ¬ Q y) → P i h' X
  dis : ∀ {i h X}, P i h X → ∀ y, X.M y → X.D y → False
def Fam (P : Nat → Heap → Ft → Prop) (h : Heap) (X : Ft) : Prop := ∃ Y : Nat → Ft, (∀ i, P i h (Y i)) ∧ (∀ i j y, i ≠ j → In (Y i) y → ¬ In (Y j) y) ∧ (∀ y, X.M y ↔ ∃ i, (Y i).M y) ∧ ∀ y, X.D y ↔ ∃ i, (Y i).D y
variable {P P' : Nat → Heap → Ft → Prop}
theorem Fam.lt (S : Stable P) (H : Fam P h X) (y : Nat) (hy : X.M y ∨ X.D y) : y < h.size := by
  have ⟨Y, hp, _, hm, hd⟩ := H
  rcases hy with hy | hy
  · have ⟨i, hi⟩ := (hm y).1 hy; exact S.lt (hp i) y (.inl hi)
  · have ⟨i, hi⟩ := (hd y).1 hy; exact S.lt (hp i) y (.inr hi)
theorem Fam.frame {Q : Nat → Prop} (S : Stable P) (H : Fam P h X) (f : Fr Q h h') (hq : ∀ y, X.M y ∨ X.D y → ¬ Q y) : Fam P h' X := by
  have ⟨Y, hp, ap, hm, hd⟩ := H
  exact ⟨Y, fun i => S.frame (hp i) f (fun y hy => hq y (hy.imp (fun a => (hm y).2 ⟨i, a⟩) (fun a => (hd y).2 ⟨i, a⟩))), ap, hm, hd⟩
end
end Go.Den
namespace Go.Fields
def encN : Nat → Nat → List UInt8
  | 0, n => [UInt8.ofNat n]
  | f + 1, n => if n > 127 then UInt8.ofNat (n % 128 + 128) :: encN f (n / 128) else [UInt8.ofNat n]
def encNum (n : Nat) : List UInt8 := encN 9 n
theorem encN_mono : ∀ (f n : Nat), n < 128 ^ (f + 1) → encN (f + 1) n = encN f n
  | 0, n, h => by
    unfold encN
    rw [if_neg (by omega)]
  | f + 1, n, h => by
    rw [show encN (f + 1 + 1) n = if n > 127 then UInt8.ofNat (n % 128 + 128) :: encN (f + 1) (n / 128) else [UInt8.ofNat n] from rfl,
      show encN (f + 1) n = if n > 127 then UInt8.ofNat (n % 128 + 128) :: encN f (n / 128) else [UInt8.ofNat n] from rfl]
    split
    · rw [encN_mono f (n / 128) (by omega)]
    · rfl
theorem encNum_step {n : Nat} (h : n < 18446744073709551616) : encNum n = if n > 127 then UInt8.ofNat (n % 128 + 128) :: encNum (n / 128) else [UInt8.ofNat n] := by
  unfold encNum
  rw [encN]
  split
  · rw [← encN_mono 8 (n / 128) (by omega)]
  · rfl
theorem encN_len : ∀ (f n : Nat), 1 ≤ (encN f n).length ∧ (encN f n).length ≤ f + 1
  | 0, n => by simp [encN]
  | f + 1, n => by
    have := encN_len f (n / 128)
    rw [encN]; split
    · grind
    · simp
theorem encNum_len (n : Nat) : 1 ≤ (encNum n).length ∧ (encNum n).length ≤ 10 := encN_len 9 n
def natOf (n : Int) : Nat := n.toNat
def bit (b : Bool) : Nat := if b = true then 1 else 0
def encText (t : List UInt8) : List UInt8 := encNum t.length ++ t

end Go.Fields
namespace Go.Heapq
abbrev E := Int × Int
def lt (x y : E) : Prop := x.2 < y.2 ∨ (x.2 = y.2 ∧ x.1 < y.1)
def le (x y : E) : Prop := ¬ lt y x
instance (x y : E) : Decidable (lt x y) := inferInstanceAs (Decidable (_ ∨ _))
def HeapO (f : Nat → E) (n : Nat) : Prop := ∀ j, 0 < j → j < n → le (f ((j - 1) / 2)) (f j)
def at_ (es : List E) (i : Nat) : E := es.getD i (0, 0)
def PlaceOk (es : List E) (g : Int → Option Value) : Prop :=
  (es.map (·.1)).Nodup ∧ (∀ j, j < es.length → g (at_ es j).1 = some (.int .i64 j)) ∧ ∀ k, k ∉ es.map (·.1) → g k = none
def Sorted (l : List E) : Prop := l.Pairwise lt
def keys (l : List E) : List Int := l.map (·.1)
def dropK (l : List E) (k : Int) : List E := l.filter (fun e => !(e.1 == k))
def insertS (l : List E) (x : E) : List E := l.filter (fun e => decide (lt e x)) ++ x :: l.filter (fun e => !decide (lt e x))
theorem keys_perm {l l' : List E} (h : l.Perm l') : (keys l).Perm (keys l') := h.map _

end Go.Heapq
namespace Go.Den
section
variable {P : Program}
theorem den_grow {sT xT ty elem : TypeId} {sz bytes : Nat} {z : Value} {h : Heap} {n : Nat} {K : Value → Heap → Prop}
    (T : SlTy P sT elem sz bytes z) (hx : P.underlying xT = some (.int .i64)) (hn : 0 < n) (hb : n * bytes ≤ 70368744177664) (hb2 : n ≤ 4611686018427387904)
    (hk : ∀ cap' h', Own h' (some ⟨h.size, 0, none⟩) 0 cap' sz [] → n ≤ cap' → Fr (fun _ => False) h h' → K (.slice (some ⟨h.size, 0, none⟩) n cap') h') :
    denSem P (Builtin.append_ #[sT, xT] ty #[.slice none 0 0, .int .i64 (n : Int)]) h K := by
  obtain ⟨i, hi, rfl, rfl, hz⟩ := T.i
  have hsz := T.zs
  refine den_of_rd (rd_underlying T.u) ?_
  refine den_of_rd (rd_sizeOf hi) ?_
  refine den_of_rd (rd_underlying hx) ?_
  refine den_of_rd rfl ?_
  have hw : IntKind.wrap .i64 (n) = (n) := wrap_id (by omega) (by omega)
  refine den_of_rd (a := (n : Int)) rfl ?_
  rw [if_neg (by omega)]
  refine den_of_rd (rd_typeInfo hi) ?_
  have hbi : (n) * (i.bytes) = ((n * i.bytes : Nat)) := by simp
  rw [if_neg (by grind)]
  refine den_of_rd (a := n) (by rw [hw]; rfl) ?_
  show denSem P (if 0 + n ≤ 0 then _ else _) h K
  rw [if_neg (by omega)]
  refine den_of_rd (rd_typeInfo hi) ?_
  have hmax : IntKind.max .i64 = 9223372036854775807 := rfl
  rw [if_neg (by omega)]
  refine den_of_rd (rd_typeInfo hi) ?_
  have hle := nextslicecap_le (need := 0 + n) (cap := 0) (by omega)
  have hnext : ¬ (Builtin.nextslicecap (0 + n) 0 * i.bytes > 2 ^ 48) := by
    have h1 : Builtin.nextslicecap (0 + n) 0 * i.bytes ≤ 2 * (0 + n) * i.bytes := Nat.mul_le_mul_right _ hle
    rw [Nat.mul_assoc, Nat.zero_add] at h1
    rw [Nat.zero_add]
    omega
  rw [if_neg hnext]
  rw [den_bind]
  unfold choose
  simp only [denSem, Question.forced, Bool.false_eq_true, if_false, Question.cut]
  intro tq
  refine den_of_rd (rd_typeInfo hi) ?_
  rw [den_bind]
  have hroom : ∀ (m : Nat) (K' : Unit → Heap → Prop), K' () h → denSem P (askRoom m) h K' := fun m K' hk' => by
    unfold askRoom
    split
    · exact hk'
    · exact hk'
  refine hroom _ _ ?_
  refine den_of_rd (rd_firstCells (.inl rfl) (by simp)) ?_
  have rz := rd_zeroValue (h := h) hi hz
  refine den_of_rd (a := if n * i.size = 0 then #[] else Builtin.zeroCells z.cells n) ?_ ?_
  · show rd P (if n * i.size = 0 then pure #[] else _) h = _
    by_cases hz0 : n * i.size = 0
    · rw [if_pos hz0, if_pos hz0]; rfl
    · rw [if_neg hz0, if_neg hz0, rd_bind _ _ _ _ rz]; rfl
  refine den_of_rd (rd_zeroValue hi hz) ?_
  generalize hcap' : 0 + n + tq % (2 ^ 63 - (0 + n)) = cap'
  have hge : n ≤ cap' := by omega
  have h1 : ∀ m, (Builtin.zeroCells z.cells m).size = m * i.size := fun m => by simp [Builtin.zeroCells, hsz]
  rw [Nat.zero_add]
  refine hk cap' _ (.row h.size 0 _ elem rfl push_new (Nat.zero_le _) ?_ (by simp) (fun j v hj => by cases hj)) hge (Fr.push _ _)
  rw [Array.size_append, h1]
  have : (#[] ++ (if n * i.size = 0 then #[] else Builtin.zeroCells z.cells n)).size = n * i.size := by
    grind
  rw [this, ← Nat.add_mul, Nat.zero_add, show n + (cap' - n) = cap' by omega]
  omega
end
section
variable {α : Type} {lt : α → α → Prop} {xs ys : List α} {a b i j : Nat}
def SortedOn (lt : α → α → Prop) (xs : List α) (a b : Nat) : Prop := ∀ (p q : Nat) x y, a ≤ p → p < q → q < b → xs[p]? = some x → xs[q]? = some y → lt x y
theorem SortedOn.pair (h : SortedOn lt xs 0 xs.length) : xs.Pairwise lt := by
  rw [List.pairwise_iff_getElem]
  intro i j hi hj hij
  exact h i j _ _ (Nat.zero_le _) hij hj (List.getElem?_eq_getElem hi) (List.getElem?_eq_getElem hj)
theorem SortedOn.small (h : b ≤ a + 1) : SortedOn lt xs a b := fun p q _ _ h1 h2 h3 => by omega
structure InsI (lt : α → α → Prop) (xs ys : List α) (a i j : Nat) : Prop where
  perm : ys.Perm xs
  out : ∀ k, k < a ∨ i < k → ys[k]? = xs[k]?
  so : ∀ (p q : Nat) x y, a ≤ p → p < q → q ≤ i → p ≠ j → q ≠ j → ys[p]? = some x → ys[q]? = some y → lt x y
  up : ∀ (q : Nat) x y, j < q → q ≤ i → ys[j]? = some x → ys[q]? = some y → lt x y
theorem InsI.start (h : SortedOn lt xs a i) : InsI lt xs xs a i i :=
  ⟨.refl _, fun _ _ => rfl, fun p q x y h1 h2 h3 _ h5 => h p q x y h1 h2 (by omega), fun q x y h1 h2 => by omega⟩
theorem InsI.swap {x y : α} (H : InsI lt xs ys a i j) (hj : a < j) (hji : j ≤ i) (hi : i < ys.length) (hx : ys[j]? = some x) (hy : ys[j - 1]? = some y) (hl : lt x y) : InsI lt xs (swp ys j (j - 1)) a i (j - 1) := by
  have at_ : ∀ k , (swp ys j (j - 1))[k]? = if k = j - 1 then ys[j]? else if k = j then ys[j - 1]? else ys[k]? := swp_at (by omega) (by omega)
  refine ⟨(swp_perm (by omega) (by omega)).trans H.perm, fun k hk => ?_, fun p q u v h1 h2 h3 h4 h5 hu hv => ?_, fun q u v h1 h2 hu hv => ?_⟩
  · rw [at_, if_neg (by omega), if_neg (by omega)]; exact H.out k hk
  · rw [at_, if_neg h4] at hu
    rw [at_, if_neg h5] at hv
    by_cases p0 : p = j
    · rw [if_pos p0] at hu
      rw [if_neg (by omega)] at hv
      exact H.so (j - 1) q u v (by omega) (by omega) h3 (by omega) (by omega) hu hv
    · rw [if_neg p0] at hu
      by_cases q0 : q = j
      · rw [if_pos q0] at hv
        exact H.so p (j - 1) u v h1 (by omega) (by omega) p0 (by omega) hu hv
      · rw [if_neg q0] at hv
        exact H.so p q u v h1 h2 h3 p0 q0 hu hv
  · rw [at_, if_pos rfl] at hu
    rw [at_, if_neg (by omega)] at hv
    by_cases q0 : q = j
    · grind
    · rw [if_neg q0] at hv
      exact H.up q u v (by omega) h2 hu hv
theorem InsI.stop (htr : ∀ {x y z}, lt x y → lt y z → lt x z) (H : InsI lt xs ys a i j) (hj : a ≤ j) (hji : j ≤ i) (hi : i < ys.length) (he : j = a ∨ ∀ x y, ys[j]? = some x → ys[j - 1]? = some y → lt y x) : SortedOn lt ys a (i + 1) := by
  intro p q u v h1 h2 h3 hu hv
  by_cases p0 : p = j
  · subst p0; exact H.up q u v h2 (by omega) hu hv
  · by_cases q0 : q = j
    · subst q0
      rcases he with he | he
      · omega
      · have hw : ys[q - 1]? = some (ys[q - 1]'(by omega)) := List.getElem?_eq_getElem _
        by_cases p1 : p = q - 1
        · grind
        · exact htr (H.so p (q - 1) _ _ h1 (by omega) (by omega) p0 (by omega) hu hw) (he _ _ hv hw)
    · exact H.so p q u v h1 h2 (by omega) p0 q0 hu hv
end
end Go.Den
namespace Go.Proofs.YtmoafceggjgecaaGreatDoor
open Go.Den
open IntKind (wrap)
open Int (toNat)
abbrev Cl := CallsH Tryz.prog
abbrev Dsz {α : Type} := @denSem Tryz.prog α
abbrev Lkz := LookV Tryz.prog
abbrev Eqz := EqV Tryz.prog
abbrev a4_s_s_uint8.LD (h : Heap) (a : Addr) (K : Option Addr → Nat → Nat → Option Addr → Nat → Nat → Option Addr → Nat → Nat → Option Addr → Nat → Nat → Prop) : Prop := ∃ (t0p : Option Addr) (t0l t0c : Nat), hcell h a = some (.slice t0p t0l t0c) ∧ ∃ (t1p : Option Addr) (t1l t1c : Nat), hcell h (a.add 1) = some (.slice t1p t1l t1c) ∧ ∃ (t2p : Option Addr) (t2l t2c : Nat), hcell h (a.add 2) = some (.slice t2p t2l t2c) ∧ ∃ (t3p : Option Addr) (t3l t3c : Nat), hcell h (a.add 3) = some (.slice t3p t3l t3c) ∧ K t0p t0l t0c t1p t1l t1c t2p t2l t2c t3p t3l t3c
abbrev a4_s_s_uint8.ST (h : Heap) (a : Addr) (f0p : Option Addr) (f0l f0c : Nat) (f1p : Option Addr) (f1l f1c : Nat) (f2p : Option Addr) (f2l f2c : Nat) (f3p : Option Addr) (f3l f3c : Nat) (K : Heap → Prop) : Prop := StoreP h a (.slice f0p f0l f0c) fun h_1 => StoreP h_1 (a.add 1) (.slice f1p f1l f1c) fun h_2 => StoreP h_2 (a.add 2) (.slice f2p f2l f2c) fun h_3 => StoreP h_3 (a.add 3) (.slice f3p f3l f3c) fun h_4 => K h_4
abbrev eid_Eid.LD (h : Heap) (a : Addr) (K : Bool → Int → Int → ByteArray → ByteArray → Prop) : Prop := ∃ (t0 : Bool), hcell h a = some (.bool t0) ∧ ∃ (t1 : Int), hcell h (a.add 1) = some (.int .u64 t1) ∧ ∃ (t2 : Int), hcell h (a.add 2) = some (.int .u64 t2) ∧ ∃ (t3 : ByteArray), hcell h (a.add 3) = some (.string t3) ∧ ∃ (t4 : ByteArray), hcell h (a.add 4) = some (.string t4) ∧ K t0 t1 t2 t3 t4
abbrev ident_Ident.LD (h : Heap) (a : Addr) (K : Bool → Int → Int → ByteArray → ByteArray → Int → Int → Prop) : Prop := ∃ (t0 : Bool), hcell h a = some (.bool t0) ∧ ∃ (t1 : Int), hcell h (a.add 1) = some (.int .u64 t1) ∧ ∃ (t2 : Int), hcell h (a.add 2) = some (.int .u64 t2) ∧ ∃ (t3 : ByteArray), hcell h (a.add 3) = some (.string t3) ∧ ∃ (t4 : ByteArray), hcell h (a.add 4) = some (.string t4) ∧ ∃ (t5 : Int), hcell h (a.add 5) = some (.int .u64 t5) ∧ ∃ (t6 : Int), hcell h (a.add 6) = some (.int .u64 t6) ∧ K t0 t1 t2 t3 t4 t5 t6
abbrev ident_Ident.ST (h : Heap) (a : Addr) (f0 : Bool) (f1 : Int) (f2 : Int) (f3 : ByteArray) (f4 : ByteArray) (f5 : Int) (f6 : Int) (K : Heap → Prop) : Prop := StoreP h a (.bool f0) fun h_1 => StoreP h_1 (a.add 1) (.int .u64 f1) fun h_2 => StoreP h_2 (a.add 2) (.int .u64 f2) fun h_3 => StoreP h_3 (a.add 3) (.string f3) fun h_4 => StoreP h_4 (a.add 4) (.string f4) fun h_5 => StoreP h_5 (a.add 5) (.int .u64 f5) fun h_6 => StoreP h_6 (a.add 6) (.int .u64 f6) fun h_7 => K h_7
abbrev outbox_Item.LD (h : Heap) (a : Addr) (K : Int → Int → Option Addr → Nat → Nat → Int → Prop) : Prop := ∃ (t0 : Int), hcell h a = some (.int .i64 t0) ∧ ∃ (t1 : Int), hcell h (a.add 1) = some (.int .i64 t1) ∧ ∃ (t2p : Option Addr) (t2l t2c : Nat), hcell h (a.add 2) = some (.slice t2p t2l t2c) ∧ ∃ (t3 : Int), hcell h (a.add 3) = some (.int .u64 t3) ∧ K t0 t1 t2p t2l t2c t3
abbrev outbox_Item.ST (h : Heap) (a : Addr) (f0 : Int) (f1 : Int) (f2p : Option Addr) (f2l f2c : Nat) (f3 : Int) (K : Heap → Prop) : Prop := StoreP h a (.int .i64 f0) fun h_1 => StoreP h_1 (a.add 1) (.int .i64 f1) fun h_2 => StoreP h_2 (a.add 2) (.slice f2p f2l f2c) fun h_3 => StoreP h_3 (a.add 3) (.int .u64 f3) fun h_4 => K h_4
abbrev regs_Reg.LD (h : Heap) (a : Addr) (K : Bool → Int → Int → ByteArray → ByteArray → Int → Int → Prop) : Prop := ∃ (t0 : Bool), hcell h a = some (.bool t0) ∧ ∃ (t1 : Int), hcell h (a.add 1) = some (.int .u64 t1) ∧ ∃ (t2 : Int), hcell h (a.add 2) = some (.int .u64 t2) ∧ ∃ (t3 : ByteArray), hcell h (a.add 3) = some (.string t3) ∧ ∃ (t4 : ByteArray), hcell h (a.add 4) = some (.string t4) ∧ ∃ (t5 : Int), hcell h (a.add 5) = some (.int .i64 t5) ∧ ∃ (t6 : Int), hcell h (a.add 6) = some (.int .i64 t6) ∧ K t0 t1 t2 t3 t4 t5 t6
abbrev regs_Reg.ST (h : Heap) (a : Addr) (f0 : Bool) (f1 : Int) (f2 : Int) (f3 : ByteArray) (f4 : ByteArray) (f5 : Int) (f6 : Int) (K : Heap → Prop) : Prop := StoreP h a (.bool f0) fun h_1 => StoreP h_1 (a.add 1) (.int .u64 f1) fun h_2 => StoreP h_2 (a.add 2) (.int .u64 f2) fun h_3 => StoreP h_3 (a.add 3) (.string f3) fun h_4 => StoreP h_4 (a.add 4) (.string f4) fun h_5 => StoreP h_5 (a.add 5) (.int .i64 f5) fun h_6 => StoreP h_6 (a.add 6) (.int .i64 f6) fun h_7 => K h_7
abbrev sessions_Answer.LD (h : Heap) (a : Addr) (K : Int → Option Addr → Nat → Nat → Prop) : Prop := ∃ (t0 : Int), hcell h a = some (.int .u64 t0) ∧ ∃ (t1p : Option Addr) (t1l t1c : Nat), hcell h (a.add 1) = some (.slice t1p t1l t1c) ∧ K t0 t1p t1l t1c
abbrev sessions_Answer.ST (h : Heap) (a : Addr) (f0 : Int) (f1p : Option Addr) (f1l f1c : Nat) (K : Heap → Prop) : Prop := StoreP h a (.int .u64 f0) fun h_1 => StoreP h_1 (a.add 1) (.slice f1p f1l f1c) fun h_2 => K h_2
abbrev sessions_Session.LD (h : Heap) (a : Addr) (K : Int → Int → Bool → Bool → Option Addr → Nat → Nat → Option Addr → Nat → Nat → Prop) : Prop := ∃ (t0 : Int), hcell h a = some (.int .i64 t0) ∧ ∃ (t1 : Int), hcell h (a.add 1) = some (.int .u64 t1) ∧ ∃ (t2 : Bool), hcell h (a.add 2) = some (.bool t2) ∧ ∃ (t3 : Bool), hcell h (a.add 3) = some (.bool t3) ∧ ∃ (t4p : Option Addr) (t4l t4c : Nat), hcell h (a.add 4) = some (.slice t4p t4l t4c) ∧ ∃ (t5p : Option Addr) (t5l t5c : Nat), hcell h (a.add 5) = some (.slice t5p t5l t5c) ∧ K t0 t1 t2 t3 t4p t4l t4c t5p t5l t5c
abbrev sessions_Session.ST (h : Heap) (a : Addr) (f0 : Int) (f1 : Int) (f2 : Bool) (f3 : Bool) (f4p : Option Addr) (f4l f4c : Nat) (f5p : Option Addr) (f5l f5c : Nat) (K : Heap → Prop) : Prop := StoreP h a (.int .i64 f0) fun h_1 => StoreP h_1 (a.add 1) (.int .u64 f1) fun h_2 => StoreP h_2 (a.add 2) (.bool f2) fun h_3 => StoreP h_3 (a.add 3) (.bool f3) fun h_4 => StoreP h_4 (a.add 4) (.slice f4p f4l f4c) fun h_5 => StoreP h_5 (a.add 5) (.slice f5p f5l f5c) fun h_6 => K h_6
structure area_Area.S where
  f0 : Int
  f1 : Int
abbrev area_Area.S.l (x : area_Area.S) : List Value := [.int .i64 x.f0, .int .i64 x.f1]
abbrev area_Area.S.arr (x : area_Area.S) : Array Value := x.l.toArray
abbrev area_Area.S.agg (x : area_Area.S) : Value := .agg x.arr
abbrev area_Area.S.z : area_Area.S := ⟨0, 0⟩
abbrev area_Area.EX (K : area_Area.S → Prop) : Prop := ∃ (t0 : Int), ∃ (t1 : Int), K ⟨t0, t1⟩
abbrev area_Area.LDp (h : Heap) (a : Addr) (K : area_Area.S → Prop) : Prop := ∃ (t0 : Int), hcell h a = some (.int .i64 t0) ∧ ∃ (t1 : Int), hcell h (a.add 1) = some (.int .i64 t1) ∧ K ⟨t0, t1⟩
abbrev area_Area.STp (h : Heap) (a : Addr) (x : area_Area.S) (K : Heap → Prop) : Prop := storeL a x.l 0 h K
structure daemon_Daemon.S where
  f0 : Option Addr
  f1 : Option Nat
  f2 : Int
  f3 : Option Addr
  f4 : Int
abbrev daemon_Daemon.S.l (x : daemon_Daemon.S) : List Value := [.pointer x.f0, .map x.f1, .int .i64 x.f2, .pointer x.f3, .int .u64 x.f4]
abbrev daemon_Daemon.S.arr (x : daemon_Daemon.S) : Array Value := x.l.toArray
abbrev daemon_Daemon.S.agg (x : daemon_Daemon.S) : Value := .agg x.arr
abbrev daemon_Daemon.S.z : daemon_Daemon.S := ⟨none, none, 0, none, 0⟩
structure disk_Disk.S where
  f0p : Option Addr
  f0l : Nat
  f0c : Nat
  f1p : Option Addr
  f1l : Nat
  f1c : Nat
  f2 : Int
  f3 : Int
abbrev disk_Disk.S.l (x : disk_Disk.S) : List Value := [.slice x.f0p x.f0l x.f0c, .slice x.f1p x.f1l x.f1c, .int .i64 x.f2, .int .i64 x.f3]
abbrev disk_Disk.S.arr (x : disk_Disk.S) : Array Value := x.l.toArray
abbrev disk_Disk.S.agg (x : disk_Disk.S) : Value := .agg x.arr
abbrev disk_Disk.S.z : disk_Disk.S := ⟨none, 0, 0, none, 0, 0, 0, 0⟩
structure eid_Eid.S where
  f0 : Bool
  f1 : Int
  f2 : Int
  f3 : ByteArray
  f4 : ByteArray
abbrev eid_Eid.S.l (x : eid_Eid.S) : List Value := [.bool x.f0, .int .u64 x.f1, .int .u64 x.f2, .string x.f3, .string x.f4]
abbrev eid_Eid.S.arr (x : eid_Eid.S) : Array Value := x.l.toArray
abbrev eid_Eid.S.agg (x : eid_Eid.S) : Value := .agg x.arr
abbrev eid_Eid.S.z : eid_Eid.S := ⟨false, 0, 0, (⟨#[]⟩ : ByteArray), (⟨#[]⟩ : ByteArray)⟩
abbrev eid_Eid.EX (K : eid_Eid.S → Prop) : Prop := ∃ (t0 : Bool), ∃ (t1 : Int), ∃ (t2 : Int), ∃ (t3 : ByteArray), ∃ (t4 : ByteArray), K ⟨t0, t1, t2, t3, t4⟩
abbrev eid_Eid.LDp (h : Heap) (a : Addr) (K : eid_Eid.S → Prop) : Prop := ∃ (t0 : Bool), hcell h a = some (.bool t0) ∧ ∃ (t1 : Int), hcell h (a.add 1) = some (.int .u64 t1) ∧ ∃ (t2 : Int), hcell h (a.add 2) = some (.int .u64 t2) ∧ ∃ (t3 : ByteArray), hcell h (a.add 3) = some (.string t3) ∧ ∃ (t4 : ByteArray), hcell h (a.add 4) = some (.string t4) ∧ K ⟨t0, t1, t2, t3, t4⟩
abbrev eid_Eid.STp (h : Heap) (a : Addr) (x : eid_Eid.S) (K : Heap → Prop) : Prop := storeL a x.l 0 h K
structure event_Event.S where
  f0 : Int
  f1 : Int
  f2 : Int
  f3 : Int
  f4 : Int
  f5 : Int
  f6 : Bool
  f7 : Int
  f8 : Int
  f9 : ByteArray
  f10 : ByteArray
  f11 : Bool
  f12 : Int
  f13 : Int
  f14 : ByteArray
  f15 : ByteArray
  f16 : Int
  f17 : Int
  f18 : Int
  f19p : Option Addr
  f19l : Nat
  f19c : Nat
  f20 : Int
  f21 : Int
  f22 : Bool
  f23p : Option Addr
  f23l : Nat
  f23c : Nat
abbrev event_Event.S.l (x : event_Event.S) : List Value := [.int .u64 x.f0, .int .i64 x.f1, .int .u64 x.f2, .int .i64 x.f3, .int .u64 x.f4, .int .i64 x.f5, .bool x.f6, .int .u64 x.f7, .int .u64 x.f8, .string x.f9, .string x.f10, .bool x.f11, .int .u64 x.f12, .int .u64 x.f13, .string x.f14, .string x.f15, .int .i64 x.f16, .int .i64 x.f17, .int .i64 x.f18, .slice x.f19p x.f19l x.f19c, .int .u64 x.f20, .int .u64 x.f21, .bool x.f22, .slice x.f23p x.f23l x.f23c]
abbrev event_Event.S.arr (x : event_Event.S) : Array Value := x.l.toArray
abbrev event_Event.S.agg (x : event_Event.S) : Value := .agg x.arr
abbrev event_Event.S.z : event_Event.S := ⟨0, 0, 0, 0, 0, 0, false, 0, 0, (⟨#[]⟩ : ByteArray), (⟨#[]⟩ : ByteArray), false, 0, 0, (⟨#[]⟩ : ByteArray), (⟨#[]⟩ : ByteArray), 0, 0, 0, none, 0, 0, 0, 0, false, none, 0, 0⟩
abbrev event_Event.EX (K : event_Event.S → Prop) : Prop := ∃ (t0 : Int), ∃ (t1 : Int), ∃ (t2 : Int), ∃ (t3 : Int), ∃ (t4 : Int), ∃ (t5 : Int), ∃ (t6 : Bool), ∃ (t7 : Int), ∃ (t8 : Int), ∃ (t9 : ByteArray), ∃ (t10 : ByteArray), ∃ (t11 : Bool), ∃ (t12 : Int), ∃ (t13 : Int), ∃ (t14 : ByteArray), ∃ (t15 : ByteArray), ∃ (t16 : Int), ∃ (t17 : Int), ∃ (t18 : Int), ∃ (t19p : Option Addr) (t19l t19c : Nat), ∃ (t20 : Int), ∃ (t21 : Int), ∃ (t22 : Bool), ∃ (t23p : Option Addr) (t23l t23c : Nat), K ⟨t0, t1, t2, t3, t4, t5, t6, t7, t8, t9, t10, t11, t12, t13, t14, t15, t16, t17, t18, t19p, t19l, t19c, t20, t21, t22, t23p, t23l, t23c⟩
abbrev event_Event.LDp (h : Heap) (a : Addr) (K : event_Event.S → Prop) : Prop := ∃ (t0 : Int), hcell h a = some (.int .u64 t0) ∧ ∃ (t1 : Int), hcell h (a.add 1) = some (.int .i64 t1) ∧ ∃ (t2 : Int), hcell h (a.add 2) = some (.int .u64 t2) ∧ ∃ (t3 : Int), hcell h (a.add 3) = some (.int .i64 t3) ∧ ∃ (t4 : Int), hcell h (a.add 4) = some (.int .u64 t4) ∧ ∃ (t5 : Int), hcell h (a.add 5) = some (.int .i64 t5) ∧ ∃ (t6 : Bool), hcell h (a.add 6) = some (.bool t6) ∧ ∃ (t7 : Int), hcell h (a.add 7) = some (.int .u64 t7) ∧ ∃ (t8 : Int), hcell h (a.add 8) = some (.int .u64 t8) ∧ ∃ (t9 : ByteArray), hcell h (a.add 9) = some (.string t9) ∧ ∃ (t10 : ByteArray), hcell h (a.add 10) = some (.string t10) ∧ ∃ (t11 : Bool), hcell h (a.add 11) = some (.bool t11) ∧ ∃ (t12 : Int), hcell h (a.add 12) = some (.int .u64 t12) ∧ ∃ (t13 : Int), hcell h (a.add 13) = some (.int .u64 t13) ∧ ∃ (t14 : ByteArray), hcell h (a.add 14) = some (.string t14) ∧ ∃ (t15 : ByteArray), hcell h (a.add 15) = some (.string t15) ∧ ∃ (t16 : Int), hcell h (a.add 16) = some (.int .i64 t16) ∧ ∃ (t17 : Int), hcell h (a.add 17) = some (.int .i64 t17) ∧ ∃ (t18 : Int), hcell h (a.add 18) = some (.int .i64 t18) ∧ ∃ (t19p : Option Addr) (t19l t19c : Nat), hcell h (a.add 19) = some (.slice t19p t19l t19c) ∧ ∃ (t20 : Int), hcell h (a.add 20) = some (.int .u64 t20) ∧ ∃ (t21 : Int), hcell h (a.add 21) = some (.int .u64 t21) ∧ ∃ (t22 : Bool), hcell h (a.add 22) = some (.bool t22) ∧ ∃ (t23p : Option Addr) (t23l t23c : Nat), hcell h (a.add 23) = some (.slice t23p t23l t23c) ∧ K ⟨t0, t1, t2, t3, t4, t5, t6, t7, t8, t9, t10, t11, t12, t13, t14, t15, t16, t17, t18, t19p, t19l, t19c, t20, t21, t22, t23p, t23l, t23c⟩
abbrev event_Event.STp (h : Heap) (a : Addr) (x : event_Event.S) (K : Heap → Prop) : Prop := storeL a x.l 0 h K
structure flush_Log.S where
  f0 : Option Addr
  f1 : Option Addr
  f2 : Int
abbrev flush_Log.S.l (x : flush_Log.S) : List Value := [.pointer x.f0, .pointer x.f1, .int .i64 x.f2]
abbrev flush_Log.S.arr (x : flush_Log.S) : Array Value := x.l.toArray
abbrev flush_Log.S.agg (x : flush_Log.S) : Value := .agg x.arr
abbrev flush_Log.S.z : flush_Log.S := ⟨none, none, 0⟩
structure journal_Journal.S where
  f0 : Option Addr
  f1 : Int
  f2 : Int
  f3 : Int
  f4 : Int
  f5 : Int
  f6 : Int
  f7 : Int
  f8p : Option Addr
  f8l : Nat
  f8c : Nat
  f9 : Int
  f10 : Int
  f11 : Int
  f12 : Int
  f13 : Int
  f14 : Int
  f15 : Int
abbrev journal_Journal.S.l (x : journal_Journal.S) : List Value := [.pointer x.f0, .int .i64 x.f1, .int .i64 x.f2, .int .i64 x.f3, .int .i64 x.f4, .int .u64 x.f5, .int .i64 x.f6, .int .i64 x.f7, .slice x.f8p x.f8l x.f8c, .int .i64 x.f9, .int .i64 x.f10, .int .i64 x.f11, .int .i64 x.f12, .int .i64 x.f13, .int .i64 x.f14, .int .i64 x.f15]
abbrev journal_Journal.S.arr (x : journal_Journal.S) : Array Value := x.l.toArray
abbrev journal_Journal.S.agg (x : journal_Journal.S) : Value := .agg x.arr
abbrev journal_Journal.S.z : journal_Journal.S := ⟨none, 0, 0, 0, 0, 0, 0, 0, none, 0, 0, 0, 0, 0, 0, 0, 0, 0⟩
structure journal_plan.S where
  f0 : Int
  f1 : Int
  f2 : Int
  f3 : Int
abbrev journal_plan.S.l (x : journal_plan.S) : List Value := [.int .i64 x.f0, .int .i64 x.f1, .int .i64 x.f2, .int .i64 x.f3]
abbrev journal_plan.S.arr (x : journal_plan.S) : Array Value := x.l.toArray
abbrev journal_plan.S.agg (x : journal_plan.S) : Value := .agg x.arr
abbrev journal_plan.S.z : journal_plan.S := ⟨0, 0, 0, 0⟩
structure pend_Queue.S where
  f0 : Bool
  f1p : Option Addr
  f1l : Nat
  f1c : Nat
abbrev pend_Queue.S.l (x : pend_Queue.S) : List Value := [.bool x.f0, .slice x.f1p x.f1l x.f1c]
abbrev pend_Queue.S.arr (x : pend_Queue.S) : Array Value := x.l.toArray
abbrev pend_Queue.S.agg (x : pend_Queue.S) : Value := .agg x.arr
abbrev pend_Queue.S.z : pend_Queue.S := ⟨false, none, 0, 0⟩
structure reply_Reply.S where
  f0 : Int
  f1 : Int
  f2 : Int
  f3 : Int
  f4 : Int
  f5p : Option Addr
  f5l : Nat
  f5c : Nat
abbrev reply_Reply.S.l (x : reply_Reply.S) : List Value := [.int .u64 x.f0, .int .i64 x.f1, .int .i64 x.f2, .int .i64 x.f3, .int .u64 x.f4, .slice x.f5p x.f5l x.f5c]
abbrev reply_Reply.S.arr (x : reply_Reply.S) : Array Value := x.l.toArray
abbrev reply_Reply.S.agg (x : reply_Reply.S) : Value := .agg x.arr
abbrev reply_Reply.S.z : reply_Reply.S := ⟨0, 0, 0, 0, 0, none, 0, 0⟩
abbrev reply_Reply.EX (K : reply_Reply.S → Prop) : Prop := ∃ (t0 : Int), ∃ (t1 : Int), ∃ (t2 : Int), ∃ (t3 : Int), ∃ (t4 : Int), ∃ (t5p : Option Addr) (t5l t5c : Nat), K ⟨t0, t1, t2, t3, t4, t5p, t5l, t5c⟩
abbrev reply_Reply.STp (h : Heap) (a : Addr) (x : reply_Reply.S) (K : Heap → Prop) : Prop := storeL a x.l 0 h K
structure super_Super.S where
  f0 : Int
  f1 : Int
  f2 : Int
abbrev super_Super.S.l (x : super_Super.S) : List Value := [.int .u64 x.f0, .int .i64 x.f1, .int .i64 x.f2]
abbrev super_Super.S.arr (x : super_Super.S) : Array Value := x.l.toArray
abbrev super_Super.S.agg (x : super_Super.S) : Value := .agg x.arr
abbrev super_Super.S.z : super_Super.S := ⟨0, 0, 0⟩
abbrev super_Super.EX (K : super_Super.S → Prop) : Prop := ∃ (t0 : Int), ∃ (t1 : Int), ∃ (t2 : Int), K ⟨t0, t1, t2⟩
abbrev super_Super.LDp (h : Heap) (a : Addr) (K : super_Super.S → Prop) : Prop := ∃ (t0 : Int), hcell h a = some (.int .u64 t0) ∧ ∃ (t1 : Int), hcell h (a.add 1) = some (.int .i64 t1) ∧ ∃ (t2 : Int), hcell h (a.add 2) = some (.int .i64 t2) ∧ K ⟨t0, t1, t2⟩
abbrev super_Super.STp (h : Heap) (a : Addr) (x : super_Super.S) (K : Heap → Prop) : Prop := storeL a x.l 0 h K

section
variable {h:Heap} {R:TyP}
variable {d j b f2l f2c f1l f1c f4l f4c f5l f5c f0l f0c f3l f3c:Nat} {s f3 f4 x_3 x_4:ByteArray} {a:Addr} {f0 x_0:Bool} {f1 f2 f5 f6 x_1 x_2:Int} {K:Nat→Heap→Prop} {f2p f1p f4p f5p f0p f3p:TyO}
theorem bytes_Equal.walk {a_p : Option Addr} {a_l a_c : Nat} {b_p : Option Addr} {b_l b_c : Nat} (hv :
 ∃ (t6 : ByteArray), ConvV Tryz.prog 48 9 (.slice a_p a_l a_c) h t6 ∧
 ∃ (t8 : ByteArray), ConvV Tryz.prog 48 9 (.slice b_p b_l b_c) h t8 ∧
 R (.bool (t6.toList == t8.toList)) h) : Cl 168 #[.slice a_p a_l a_c, .slice b_p b_l b_c] h R :=
 callsN [] hv
abbrev journal_Journal.atp (h : Heap) (b : Nat) (x : journal_Journal.S) : Prop := h[b]? = some (.cells x.arr 144 (0, 0))
theorem journal_made.walk {s : super_Super.S} (hv :
 NewP h (.cells s.arr 140) fun b h_1 =>
 Cl 117 #[.pointer (some ⟨d, 0, none⟩)] h_1 fun v h_2 =>
 area_Area.EX fun t10_0 =>
 area_Area.EX fun t10_1 =>
 ∃ t10_2, v = .tuple #[t10_0.agg, t10_1.agg, .int .i64 t10_2] ∧
 NewP h_2 (.cells area_Area.S.z.arr 137) fun b_1 h_3 =>
 NewP h_3 (.cells area_Area.S.z.arr 137) fun b_2 h_4 =>
 area_Area.STp h_4 ⟨b_1, 0, none⟩ t10_0 fun h_5 =>
 area_Area.STp h_5 ⟨b_2, 0, none⟩ t10_1 fun h_6 =>
 area_Area.LDp h_6 ⟨b_1, 0, none⟩ fun t15 =>
 area_Area.LDp h_6 ⟨b_2, 0, none⟩ fun t16 =>
 super_Super.LDp h_6 ⟨b, 0, none⟩ fun t18 =>
 NewP h_6 (.cells #[.pointer (some ⟨d, 0, none⟩), .int .i64 t15.f0, .int .i64 t15.f1, .int .i64 t16.f0, .int .i64 t16.f1, .int .u64 t18.f0, .int .i64 t18.f1, .int .i64 t18.f2, .slice none 0 0, .int .i64 0, .int .i64 0, .int .i64 0, .int .i64 0, .int .i64 0, .int .i64 0, .int .i64 0] 144) fun b_3 h_7 =>
 R (.pointer (some ⟨b_3, 0, none⟩)) h_7) : Cl 109 #[.pointer (some ⟨d, 0, none⟩), s.agg] h R :=
 callsN [] hv
theorem journal_Format.walk (hv :
 Cl 17 #[.pointer (some ⟨d, 0, none⟩)] h fun v h_1 =>
 ∃ t7, v = .int .i64 t7 ∧
 ite (t7 == 0)
 (  R (.tuple #[.pointer none, .int .i64 6]) h_1)
 (  Cl 109 #[.pointer (some ⟨d, 0, none⟩), .agg #[.int .u64 1, .int .i64 0, .int .i64 0]] h_1 fun v_1 h_2 =>
 ∃ t11, v_1 = .pointer t11 ∧
 onSome t11 fun a =>
 super_Super.LDp h_2 (a.add 5) fun t16 =>
 Cl 119 #[.pointer (some ⟨d, 0, none⟩), t16.agg] h_2 fun v_2 h_3 =>
 ∃ t17, v_2 = .int .i64 t17 ∧
 ite (t17 != 0)
 (  R (.tuple #[.pointer none, .int .i64 t17]) h_3)
 (  Cl 120 #[.pointer (some ⟨d, 0, none⟩)] h_3 fun v_3 h_4 =>
 ∃ t23, v_3 = .int .i64 t23 ∧
 R (.tuple #[.pointer t11, .int .i64 t23]) h_4))) : Cl 72 #[.pointer (some ⟨d, 0, none⟩)] h R :=
 callsN [] hv
theorem journal_Journal_made.walk (hv :
 ∃ t9, hcell h ⟨j, 0, none⟩ = some (.pointer t9) ∧
 R (.bool (!t9.isNone)) h) : Cl 57 #[.pointer (some ⟨j, 0, none⟩)] h R :=
 callsN [] hv
theorem journal_Journal_Done.walk (hv :
 Cl 57 #[.pointer (some ⟨j, 0, none⟩)] h fun v h_1 =>
 ∃ t4, v = .bool t4 ∧
 ite (!t4)
 (  R (.int .i64 0) h_1)
 (  ∃ t9, hcell h_1 ⟨j, 15, none⟩ = some (.int .i64 t9) ∧
 R (.int .i64 t9) h_1)) : Cl 84 #[.pointer (some ⟨j, 0, none⟩)] h R :=
 callsN [] hv
def ident_Ident.at (h : Heap) (b : Nat) (f0 : Bool) (f1 : Int) (f2 : Int) (f3 : ByteArray) (f4 : ByteArray) (f5 : Int) (f6 : Int) : Prop := h[b]? = some (.cells #[.bool f0, .int .u64 f1, .int .u64 f2, .string f3, .string f4, .int .u64 f5, .int .u64 f6] 98 (0, 0))
theorem ident_Ident.ldA {K : Bool → Int → Int → ByteArray → ByteArray → Int → Int → Prop} (hb : heldL a [.bool f0, .int .u64 f1, .int .u64 f2, .string f3, .string f4, .int .u64 f5, .int .u64 f6] 0 h) (hk : K f0 f1 f2 f3 f4 f5 f6) : ident_Ident.LD h a K := by
  obtain ⟨q0, q1, q2, q3, q4, q5, q6, _⟩ := hb
  rw [add_zero_addr] at q0
  exact ⟨_, q0, _, q1, _, q2, _, q3, _, q4, _, q5, _, q6, hk⟩
theorem ident_Ident.held (hb : ident_Ident.at h b f0 f1 f2 f3 f4 f5 f6) : heldL ⟨b, 0, none⟩ [.bool f0, .int .u64 f1, .int .u64 f2, .string f3, .string f4, .int .u64 f5, .int .u64 f6] 0 h :=
  heldL_blk hb (fun j v hj => by rw [Nat.zero_add]; simpa using hj)
theorem ident_Ident.ld {K : Bool → Int → Int → ByteArray → ByteArray → Int → Int → Prop} (hb : ident_Ident.at h b f0 f1 f2 f3 f4 f5 f6) (hk : K f0 f1 f2 f3 f4 f5 f6) : ident_Ident.LD h ⟨b, 0, none⟩ K := ldA (held hb) hk
theorem ident_Ident.stA {K : Heap → Prop} (hk : storeL a [.bool f0, .int .u64 f1, .int .u64 f2, .string f3, .string f4, .int .u64 f5, .int .u64 f6] 0 h K) : ident_Ident.ST h a f0 f1 f2 f3 f4 f5 f6 K := hk
theorem ident_Ident.new (hk : ∀ b h', b = h.size → ident_Ident.at h' b f0 f1 f2 f3 f4 f5 f6 → Fr No h h' → K b h') : NewP h (.cells #[.bool false, .int .u64 0, .int .u64 0, .string (⟨#[]⟩ : ByteArray), .string (⟨#[]⟩ : ByteArray), .int .u64 0, .int .u64 0] 98) fun b h_0 => ident_Ident.ST h_0 ⟨b, 0, none⟩ f0 f1 f2 f3 f4 f5 f6 (K b) :=
  new_full (vs := [.bool f0, .int .u64 f1, .int .u64 f2, .string f3, .string f4, .int .u64 f5, .int .u64 f6]) rfl rfl hk
theorem ident_Ident.box (hk : ∀ b h', b = h.size → ident_Ident.at h' b f0 f1 f2 f3 f4 f5 f6 → Fr No h h' → K b h') : NewP h (.cells #[.bool f0, .int .u64 f1, .int .u64 f2, .string f3, .string f4, .int .u64 f5, .int .u64 f6] 98) fun b h_0 => K b h_0 :=
  newP_of (hk _ _ rfl push_new (Fr.push _ _))
theorem ident_Ident.set {g0 : Bool} {g1 : Int} {g2 : Int} {g3 : ByteArray} {g4 : ByteArray} {g5 : Int} {g6 : Int} {K : Heap → Prop} (a0 : ident_Ident.at h b g0 g1 g2 g3 g4 g5 g6) (hk : ∀ h', ident_Ident.at h' b f0 f1 f2 f3 f4 f5 f6 → h'.size = h.size → (∀ x, x ≠ b → h'[x]? = h[x]?) → K h') : ident_Ident.ST h ⟨b, 0, none⟩ f0 f1 f2 f3 f4 f5 f6 K :=
  ident_Ident.stA (storeL_full a0 rfl rfl hk)
def outbox_Item.at (h : Heap) (b : Nat) (f0 : Int) (f1 : Int) (f2p : Option Addr) (f2l f2c : Nat) (f3 : Int) : Prop := h[b]? = some (.cells #[.int .i64 f0, .int .i64 f1, .slice f2p f2l f2c, .int .u64 f3] 165 (0, 0))
theorem outbox_Item.ldA {f0 : Int} {f3 : Int} {K : Int → Int → Option Addr → Nat → Nat → Int → Prop} (hb : heldL a [.int .i64 f0, .int .i64 f1, .slice f2p f2l f2c, .int .u64 f3] 0 h) (hk : K f0 f1 f2p f2l f2c f3) : outbox_Item.LD h a K := by
  obtain ⟨q0, q1, q2, q3, _⟩ := hb
  rw [add_zero_addr] at q0
  exact ⟨_, q0, _, q1, _, _, _, q2, _, q3, hk⟩
theorem outbox_Item.new {f0 : Int} {f3 : Int} (hk : ∀ b h', b = h.size → outbox_Item.at h' b f0 f1 f2p f2l f2c f3 → Fr No h h' → K b h') : NewP h (.cells #[.int .i64 0, .int .i64 0, .slice none 0 0, .int .u64 0] 165) fun b h_0 => outbox_Item.ST h_0 ⟨b, 0, none⟩ f0 f1 f2p f2l f2c f3 (K b) :=
  new_full (vs := [.int .i64 f0, .int .i64 f1, .slice f2p f2l f2c, .int .u64 f3]) rfl rfl hk
def sessions_Answer.at (h : Heap) (b : Nat) (f0 : Int) (f1p : Option Addr) (f1l f1c : Nat) : Prop := h[b]? = some (.cells #[.int .u64 f0, .slice f1p f1l f1c] 122 (0, 0))
theorem sessions_Answer.ldA {f0 : Int} {K : Int → Option Addr → Nat → Nat → Prop} (hb : heldL a [.int .u64 f0, .slice f1p f1l f1c] 0 h) (hk : K f0 f1p f1l f1c) : sessions_Answer.LD h a K := by
  obtain ⟨q0, q1, _⟩ := hb
  rw [add_zero_addr] at q0
  exact ⟨_, q0, _, _, _, q1, hk⟩
theorem sessions_Answer.new {f0 : Int} (hk : ∀ b h', b = h.size → sessions_Answer.at h' b f0 f1p f1l f1c → Fr No h h' → K b h') : NewP h (.cells #[.int .u64 0, .slice none 0 0] 122) fun b h_0 => sessions_Answer.ST h_0 ⟨b, 0, none⟩ f0 f1p f1l f1c (K b) :=
  new_full (vs := [.int .u64 f0, .slice f1p f1l f1c]) rfl rfl hk
def sessions_Session.at (h : Heap) (b : Nat) (f0 : Int) (f1 : Int) (f2 : Bool) (f3 : Bool) (f4p : Option Addr) (f4l f4c : Nat) (f5p : Option Addr) (f5l f5c : Nat) : Prop := h[b]? = some (.cells #[.int .i64 f0, .int .u64 f1, .bool f2, .bool f3, .slice f4p f4l f4c, .slice f5p f5l f5c] 74 (0, 0))
theorem sessions_Session.ldA {f0 : Int} {f2 : Bool} {f3 : Bool} {K : Int → Int → Bool → Bool → Option Addr → Nat → Nat → Option Addr → Nat → Nat → Prop} (hb : heldL a [.int .i64 f0, .int .u64 f1, .bool f2, .bool f3, .slice f4p f4l f4c, .slice f5p f5l f5c] 0 h) (hk : K f0 f1 f2 f3 f4p f4l f4c f5p f5l f5c) : sessions_Session.LD h a K := by
  obtain ⟨q0, q1, q2, q3, q4, q5, _⟩ := hb
  rw [add_zero_addr] at q0
  exact ⟨_, q0, _, q1, _, q2, _, q3, _, _, _, q4, _, _, _, q5, hk⟩
theorem sessions_Session.held {f0 : Int} {f2 : Bool} {f3 : Bool} (hb : sessions_Session.at h b f0 f1 f2 f3 f4p f4l f4c f5p f5l f5c) : heldL ⟨b, 0, none⟩ [.int .i64 f0, .int .u64 f1, .bool f2, .bool f3, .slice f4p f4l f4c, .slice f5p f5l f5c] 0 h :=
  heldL_blk hb (fun j v hj => by rw [Nat.zero_add]; simpa using hj)
theorem sessions_Session.ld {f0 : Int} {f2 : Bool} {f3 : Bool} {K : Int → Int → Bool → Bool → Option Addr → Nat → Nat → Option Addr → Nat → Nat → Prop} (hb : sessions_Session.at h b f0 f1 f2 f3 f4p f4l f4c f5p f5l f5c) (hk : K f0 f1 f2 f3 f4p f4l f4c f5p f5l f5c) : sessions_Session.LD h ⟨b, 0, none⟩ K := ldA (held hb) hk
theorem sessions_Session.new {f0 : Int} {f2 : Bool} {f3 : Bool} (hk : ∀ b h', b = h.size → sessions_Session.at h' b f0 f1 f2 f3 f4p f4l f4c f5p f5l f5c → Fr No h h' → K b h') : NewP h (.cells #[.int .i64 0, .int .u64 0, .bool false, .bool false, .slice none 0 0, .slice none 0 0] 74) fun b h_0 => sessions_Session.ST h_0 ⟨b, 0, none⟩ f0 f1 f2 f3 f4p f4l f4c f5p f5l f5c (K b) :=
  new_full (vs := [.int .i64 f0, .int .u64 f1, .bool f2, .bool f3, .slice f4p f4l f4c, .slice f5p f5l f5c]) rfl rfl hk
def eid_Eid.at (h : Heap) (b : Nat) (f0 : Bool) (f1 : Int) (f2 : Int) (f3 : ByteArray) (f4 : ByteArray) : Prop := h[b]? = some (.cells #[.bool f0, .int .u64 f1, .int .u64 f2, .string f3, .string f4] 34 (0, 0))
theorem eid_Eid.ldA {K : Bool → Int → Int → ByteArray → ByteArray → Prop} (hb : heldL a [.bool f0, .int .u64 f1, .int .u64 f2, .string f3, .string f4] 0 h) (hk : K f0 f1 f2 f3 f4) : eid_Eid.LD h a K := by
  obtain ⟨q0, q1, q2, q3, q4, _⟩ := hb
  rw [add_zero_addr] at q0
  exact ⟨_, q0, _, q1, _, q2, _, q3, _, q4, hk⟩
theorem eid_Eid.held (hb : eid_Eid.at h b f0 f1 f2 f3 f4) : heldL ⟨b, 0, none⟩ [.bool f0, .int .u64 f1, .int .u64 f2, .string f3, .string f4] 0 h :=
  heldL_blk hb (fun j v hj => by rw [Nat.zero_add]; simpa using hj)
theorem eid_Eid.ld {K : Bool → Int → Int → ByteArray → ByteArray → Prop} (hb : eid_Eid.at h b f0 f1 f2 f3 f4) (hk : K f0 f1 f2 f3 f4) : eid_Eid.LD h ⟨b, 0, none⟩ K := ldA (held hb) hk
theorem eid_Eid.box (hk : ∀ b h', b = h.size → eid_Eid.at h' b f0 f1 f2 f3 f4 → Fr No h h' → K b h') : NewP h (.cells #[.bool f0, .int .u64 f1, .int .u64 f2, .string f3, .string f4] 34) fun b h_0 => K b h_0 :=
  newP_of (hk _ _ rfl push_new (Fr.push _ _))
def regs_Reg.at (h : Heap) (b : Nat) (f0 : Bool) (f1 : Int) (f2 : Int) (f3 : ByteArray) (f4 : ByteArray) (f5 : Int) (f6 : Int) : Prop := h[b]? = some (.cells #[.bool f0, .int .u64 f1, .int .u64 f2, .string f3, .string f4, .int .i64 f5, .int .i64 f6] 153 (0, 0))
theorem regs_Reg.ldA {K : Bool → Int → Int → ByteArray → ByteArray → Int → Int → Prop} (hb : heldL a [.bool f0, .int .u64 f1, .int .u64 f2, .string f3, .string f4, .int .i64 f5, .int .i64 f6] 0 h) (hk : K f0 f1 f2 f3 f4 f5 f6) : regs_Reg.LD h a K := by
  obtain ⟨q0, q1, q2, q3, q4, q5, q6, _⟩ := hb
  rw [add_zero_addr] at q0
  exact ⟨_, q0, _, q1, _, q2, _, q3, _, q4, _, q5, _, q6, hk⟩
theorem regs_Reg.held (hb : regs_Reg.at h b f0 f1 f2 f3 f4 f5 f6) : heldL ⟨b, 0, none⟩ [.bool f0, .int .u64 f1, .int .u64 f2, .string f3, .string f4, .int .i64 f5, .int .i64 f6] 0 h :=
  heldL_blk hb (fun j v hj => by rw [Nat.zero_add]; simpa using hj)
theorem regs_Reg.ld {K : Bool → Int → Int → ByteArray → ByteArray → Int → Int → Prop} (hb : regs_Reg.at h b f0 f1 f2 f3 f4 f5 f6) (hk : K f0 f1 f2 f3 f4 f5 f6) : regs_Reg.LD h ⟨b, 0, none⟩ K := ldA (held hb) hk
theorem regs_Reg.stA {K : Heap → Prop} (hk : storeL a [.bool f0, .int .u64 f1, .int .u64 f2, .string f3, .string f4, .int .i64 f5, .int .i64 f6] 0 h K) : regs_Reg.ST h a f0 f1 f2 f3 f4 f5 f6 K := hk
theorem regs_Reg.new (hk : ∀ b h', b = h.size → regs_Reg.at h' b f0 f1 f2 f3 f4 f5 f6 → Fr No h h' → K b h') : NewP h (.cells #[.bool false, .int .u64 0, .int .u64 0, .string (⟨#[]⟩ : ByteArray), .string (⟨#[]⟩ : ByteArray), .int .i64 0, .int .i64 0] 153) fun b h_0 => regs_Reg.ST h_0 ⟨b, 0, none⟩ f0 f1 f2 f3 f4 f5 f6 (K b) :=
  new_full (vs := [.bool f0, .int .u64 f1, .int .u64 f2, .string f3, .string f4, .int .i64 f5, .int .i64 f6]) rfl rfl hk
theorem regs_Reg.box (hk : ∀ b h', b = h.size → regs_Reg.at h' b f0 f1 f2 f3 f4 f5 f6 → Fr No h h' → K b h') : NewP h (.cells #[.bool f0, .int .u64 f1, .int .u64 f2, .string f3, .string f4, .int .i64 f5, .int .i64 f6] 153) fun b h_0 => K b h_0 :=
  newP_of (hk _ _ rfl push_new (Fr.push _ _))
def copies_Copy.at (h : Heap) (b : Nat) (f0 : Int) (f1 : Bool) (f2 : Int) (f3 : Int) (f4 : ByteArray) (f5 : ByteArray) (f6p : Option Addr) (f6l f6c : Nat) (f7 : Int) (f8 : Int) (f9 : Int) : Prop := h[b]? = some (.cells #[.int .i64 f0, .bool f1, .int .u64 f2, .int .u64 f3, .string f4, .string f5, .slice f6p f6l f6c, .int .u64 f7, .int .i64 f8, .int .u64 f9] 210 (0, 0))
def a4_s_s_uint8.at (h : Heap) (b : Nat) (f0p : Option Addr) (f0l f0c : Nat) (f1p : Option Addr) (f1l f1c : Nat) (f2p : Option Addr) (f2l f2c : Nat) (f3p : Option Addr) (f3l f3c : Nat) : Prop := h[b]? = some (.cells #[.slice f0p f0l f0c, .slice f1p f1l f1c, .slice f2p f2l f2c, .slice f3p f3l f3c] 102 (0, 0))
theorem a4_s_s_uint8.held (hb : a4_s_s_uint8.at h b f0p f0l f0c f1p f1l f1c f2p f2l f2c f3p f3l f3c) : heldL ⟨b, 0, none⟩ [.slice f0p f0l f0c, .slice f1p f1l f1c, .slice f2p f2l f2c, .slice f3p f3l f3c] 0 h :=
  heldL_blk hb (fun j v hj => by rw [Nat.zero_add]; simpa using hj)
theorem a4_s_s_uint8.stA {K : Heap → Prop} (hk : storeL a [.slice f0p f0l f0c, .slice f1p f1l f1c, .slice f2p f2l f2c, .slice f3p f3l f3c] 0 h K) : a4_s_s_uint8.ST h a f0p f0l f0c f1p f1l f1c f2p f2l f2c f3p f3l f3c K := hk
theorem a4_s_s_uint8.new (hk : ∀ b h', b = h.size → a4_s_s_uint8.at h' b f0p f0l f0c f1p f1l f1c f2p f2l f2c f3p f3l f3c → Fr No h h' → K b h') : NewP h (.cells #[.slice none 0 0, .slice none 0 0, .slice none 0 0, .slice none 0 0] 102) fun b h_0 => a4_s_s_uint8.ST h_0 ⟨b, 0, none⟩ f0p f0l f0c f1p f1l f1c f2p f2l f2c f3p f3l f3c (K b) :=
  new_full (vs := [.slice f0p f0l f0c, .slice f1p f1l f1c, .slice f2p f2l f2c, .slice f3p f3l f3c]) rfl rfl hk
theorem a4_s_s_uint8.box (hk : ∀ b h', b = h.size → a4_s_s_uint8.at h' b f0p f0l f0c f1p f1l f1c f2p f2l f2c f3p f3l f3c → Fr No h h' → K b h') : NewP h (.cells #[.slice f0p f0l f0c, .slice f1p f1l f1c, .slice f2p f2l f2c, .slice f3p f3l f3c] 102) fun b h_0 => K b h_0 :=
  newP_of (hk _ _ rfl push_new (Fr.push _ _))
theorem a4_s_s_uint8.set {g0p : Option Addr} {g0l g0c : Nat} {g1p : Option Addr} {g1l g1c : Nat} {g2p : Option Addr} {g2l g2c : Nat} {g3p : Option Addr} {g3l g3c : Nat} {K : Heap → Prop} (a0 : a4_s_s_uint8.at h b g0p g0l g0c g1p g1l g1c g2p g2l g2c g3p g3l g3c) (hk : ∀ h', a4_s_s_uint8.at h' b f0p f0l f0c f1p f1l f1c f2p f2l f2c f3p f3l f3c → h'.size = h.size → (∀ x, x ≠ b → h'[x]? = h[x]?) → K h') : a4_s_s_uint8.ST h ⟨b, 0, none⟩ f0p f0l f0c f1p f1l f1c f2p f2l f2c f3p f3l f3c K :=
  a4_s_s_uint8.stA (storeL_full a0 rfl rfl hk)
theorem eid_plain.host.walk (hv :
 Dsz (Instr.range 9 (.string s)) h fun v h_1 =>
 ∃ (it : Nat), v = .pointer (some ⟨it, 0, none⟩) ∧
 ∃ (I : Heap → Prop) (mu : Heap → Nat), I h_1 ∧ ∀ h_2, I h_2 →
 Dsz (Instr.next (.pointer (some ⟨it, 0, none⟩)) true 0) h_2 fun v_1 h_3 =>
 (v_1 = .tuple #[.bool false] ∧
 R (.bool true) h_3) ∨
 (  ∃ (t9_k t9_v : Value), v_1 = .tuple #[.bool true, t9_k, t9_v] ∧
 ∃ t11, t9_v = .int .i32 t11 ∧
 JoinP (fun (t34 : Bool) h_4 =>
 ite t34
 (  R (.bool false) h_4)
 (  (I h_4 ∧ mu h_4 < mu h_2)))
 (fun J =>
 ite (decide (t11 < 97))
 (  ite (decide (t11 < 48))
 (  ite (t11 != 45)
 (  J (t11 != 45) h_3)
 (  J false h_3))
 (  ite (decide (t11 > 57))
 (  ite (t11 != 45)
 (  J (t11 != 45) h_3)
 (  J false h_3))
 (  J false h_3)))
 (  ite (decide (t11 > 122))
 (  ite (decide (t11 < 48))
 (  ite (t11 != 45)
 (  J (t11 != 45) h_3)
 (  J false h_3))
 (  ite (decide (t11 > 57))
 (  ite (t11 != 45)
 (  J (t11 != 45) h_3)
 (  J false h_3))
 (  J false h_3)))
 (  J false h_3))))) : Cl 43 #[.string s, .int .i32 45] h R :=
 callsN [(6, .loop []), (15, fun _ => .typed [(11, .one (.int .i32))]), (17, .join [(34, sB)])] hv
theorem eid_plain.demux.walk (hv :
 Dsz (Instr.range 9 (.string s)) h fun v h_1 =>
 ∃ (it : Nat), v = .pointer (some ⟨it, 0, none⟩) ∧
 ∃ (I : Heap → Prop) (mu : Heap → Nat), I h_1 ∧ ∀ h_2, I h_2 →
 Dsz (Instr.next (.pointer (some ⟨it, 0, none⟩)) true 0) h_2 fun v_1 h_3 =>
 (v_1 = .tuple #[.bool false] ∧
 R (.bool true) h_3) ∨
 (  ∃ (t9_k t9_v : Value), v_1 = .tuple #[.bool true, t9_k, t9_v] ∧
 ∃ t11, t9_v = .int .i32 t11 ∧
 JoinP (fun (t34 : Bool) h_4 =>
 ite t34
 (  R (.bool false) h_4)
 (  (I h_4 ∧ mu h_4 < mu h_2)))
 (fun J =>
 ite (decide (t11 < 97))
 (  ite (decide (t11 < 48))
 (  ite (t11 != 45)
 (  J (t11 != 47) h_3)
 (  J false h_3))
 (  ite (decide (t11 > 57))
 (  ite (t11 != 45)
 (  J (t11 != 47) h_3)
 (  J false h_3))
 (  J false h_3)))
 (  ite (decide (t11 > 122))
 (  ite (decide (t11 < 48))
 (  ite (t11 != 45)
 (  J (t11 != 47) h_3)
 (  J false h_3))
 (  ite (decide (t11 > 57))
 (  ite (t11 != 45)
 (  J (t11 != 47) h_3)
 (  J false h_3))
 (  J false h_3)))
 (  J false h_3))))) : Cl 43 #[.string s, .int .i32 47] h R :=
 callsN [(6, .loop []), (15, fun _ => .typed [(11, .one (.int .i32))]), (17, .join [(34, sB)])] hv
theorem eid_Right.walk (hv :
 NewP h (.cells #[.bool x_0, .int .u64 x_1, .int .u64 x_2, .string x_3, .string x_4] 34) fun b h_1 =>
 eid_Eid.LD h_1 ⟨b, 0, none⟩ fun t4_0 t4_1 t4_2 t4_3 t4_4 =>
 ∃ (eq : Bool), Eqz 34 (.agg #[.bool t4_0, .int .u64 t4_1, .int .u64 t4_2, .string t4_3, .string t4_4]) (.agg #[.bool false, .int .u64 0, .int .u64 0, .string (⟨#[]⟩ : ByteArray), .string (⟨#[]⟩ : ByteArray)]) eq ∧
 ite eq
 (  R (.bool true) h_1)
 (  ∃ t9, hcell h_1 ⟨b, 0, none⟩ = some (.bool t9) ∧
 ite t9
 (  eid_Eid.LD h_1 ⟨b, 0, none⟩ fun t10_0 t10_1 t10_2 t10_3 t10_4 =>
 ∃ t12, hcell h_1 ⟨b, 1, none⟩ = some (.int .u64 t12) ∧
 ∃ t14, hcell h_1 ⟨b, 2, none⟩ = some (.int .u64 t14) ∧
 ∃ (eq_1 : Bool), Eqz 34 (.agg #[.bool t10_0, .int .u64 t10_1, .int .u64 t10_2, .string t10_3, .string t10_4]) (.agg #[.bool true, .int .u64 t12, .int .u64 t14, .string (⟨#[]⟩ : ByteArray), .string (⟨#[]⟩ : ByteArray)]) eq_1 ∧
 ite eq_1
 (  ∃ t19, hcell h_1 ⟨b, 1, none⟩ = some (.int .u64 t19) ∧
 ite (decide (t19 ≥ 1))
 (  ∃ t24, hcell h_1 ⟨b, 1, none⟩ = some (.int .u64 t24) ∧
 ite (decide (t24 ≤ 4294967295))
 (  ∃ t29, hcell h_1 ⟨b, 2, none⟩ = some (.int .u64 t29) ∧
 R (.bool (decide (t29 ≤ 4294967295))) h_1)
 (  R (.bool false) h_1))
 (  R (.bool false) h_1))
 (  R (.bool false) h_1))
 (  eid_Eid.LD h_1 ⟨b, 0, none⟩ fun t32_0 t32_1 t32_2 t32_3 t32_4 =>
 ∃ t34, hcell h_1 ⟨b, 3, none⟩ = some (.string t34) ∧
 ∃ t36, hcell h_1 ⟨b, 4, none⟩ = some (.string t36) ∧
 ∃ (eq_2 : Bool), Eqz 34 (.agg #[.bool t32_0, .int .u64 t32_1, .int .u64 t32_2, .string t32_3, .string t32_4]) (.agg #[.bool false, .int .u64 0, .int .u64 0, .string t34, .string t36]) eq_2 ∧
 ite eq_2
 (  ∃ t41, hcell h_1 ⟨b, 3, none⟩ = some (.string t41) ∧
 ite (decide (((t41.size : Nat) : Int) ≥ 1))
 (  ∃ t47, hcell h_1 ⟨b, 3, none⟩ = some (.string t47) ∧
 ite (decide (((t47.size : Nat) : Int) ≤ 16))
 (  ∃ t53, hcell h_1 ⟨b, 4, none⟩ = some (.string t53) ∧
 ite (decide (((t53.size : Nat) : Int) ≤ 24))
 (  ∃ t59, hcell h_1 ⟨b, 3, none⟩ = some (.string t59) ∧
 Cl 43 #[.string t59, .int .i32 45] h_1 fun v h_2 =>
 ∃ t60, v = .bool t60 ∧
 ite t60
 (  ∃ t64, hcell h_2 ⟨b, 4, none⟩ = some (.string t64) ∧
 Cl 43 #[.string t64, .int .i32 47] h_2 fun v_1 h_3 =>
 ∃ t65, v_1 = .bool t65 ∧
 R (.bool t65) h_3)
 (  R (.bool false) h_2))
 (  R (.bool false) h_1))
 (  R (.bool false) h_1))
 (  R (.bool false) h_1))
 (  R (.bool false) h_1)))) : Cl 18 #[.agg #[.bool x_0, .int .u64 x_1, .int .u64 x_2, .string x_3, .string x_4]] h R :=
 callsN [] hv
theorem eid_class.walk (hv :
 NewP h (.cells #[.bool x_0, .int .u64 x_1, .int .u64 x_2, .string x_3, .string x_4] 34) fun b h_1 =>
 eid_Eid.LD h_1 ⟨b, 0, none⟩ fun t4_0 t4_1 t4_2 t4_3 t4_4 =>
 ∃ (eq : Bool), Eqz 34 (.agg #[.bool t4_0, .int .u64 t4_1, .int .u64 t4_2, .string t4_3, .string t4_4]) (.agg #[.bool false, .int .u64 0, .int .u64 0, .string (⟨#[]⟩ : ByteArray), .string (⟨#[]⟩ : ByteArray)]) eq ∧
 ite eq
 (  R (.int .i64 0) h_1)
 (  ∃ t9, hcell h_1 ⟨b, 0, none⟩ = some (.bool t9) ∧
 ite t9
 (  R (.int .i64 1) h_1)
 (  R (.int .i64 2) h_1))) : Cl 150 #[.agg #[.bool x_0, .int .u64 x_1, .int .u64 x_2, .string x_3, .string x_4]] h R :=
 callsN [] hv
theorem eid_Less.walk {a_0 : Bool} {a_1 : Int} {a_2 : Int} {a_3 : ByteArray} {a_4 : ByteArray} {b_0 : Bool} {b_1 : Int} {b_2 : Int} {b_3 : ByteArray} {b_4 : ByteArray} (hv :
 NewP h (.cells #[.bool a_0, .int .u64 a_1, .int .u64 a_2, .string a_3, .string a_4] 34) fun b h_1 =>
 NewP h_1 (.cells #[.bool b_0, .int .u64 b_1, .int .u64 b_2, .string b_3, .string b_4] 34) fun b_1 h_2 =>
 eid_Eid.LD h_2 ⟨b, 0, none⟩ fun t6_0 t6_1 t6_2 t6_3 t6_4 =>
 eid_Eid.LD h_2 ⟨b_1, 0, none⟩ fun t8_0 t8_1 t8_2 t8_3 t8_4 =>
 Cl 150 #[.agg #[.bool t6_0, .int .u64 t6_1, .int .u64 t6_2, .string t6_3, .string t6_4]] h_2 fun v h_3 =>
 ∃ t7, v = .int .i64 t7 ∧
 heldL ⟨b_1, 0, none⟩ [.bool t8_0, .int .u64 t8_1, .int .u64 t8_2, .string t8_3, .string t8_4] 0 h_3 ∧
 Cl 150 #[.agg #[.bool t8_0, .int .u64 t8_1, .int .u64 t8_2, .string t8_3, .string t8_4]] h_3 fun v_1 h_4 =>
 ∃ t9, v_1 = .int .i64 t9 ∧
 ite (t7 != t9)
 (  eid_Eid.LD h_4 ⟨b, 0, none⟩ fun t11_0 t11_1 t11_2 t11_3 t11_4 =>
 eid_Eid.LD h_4 ⟨b_1, 0, none⟩ fun t13_0 t13_1 t13_2 t13_3 t13_4 =>
 Cl 150 #[.agg #[.bool t11_0, .int .u64 t11_1, .int .u64 t11_2, .string t11_3, .string t11_4]] h_4 fun v_2 h_5 =>
 ∃ t12, v_2 = .int .i64 t12 ∧
 heldL ⟨b_1, 0, none⟩ [.bool t13_0, .int .u64 t13_1, .int .u64 t13_2, .string t13_3, .string t13_4] 0 h_5 ∧
 Cl 150 #[.agg #[.bool t13_0, .int .u64 t13_1, .int .u64 t13_2, .string t13_3, .string t13_4]] h_5 fun v_3 h_6 =>
 ∃ t14, v_3 = .int .i64 t14 ∧
 R (.bool (decide (t12 < t14))) h_6)
 (  ∃ t18, hcell h_4 ⟨b, 1, none⟩ = some (.int .u64 t18) ∧
 ∃ t20, hcell h_4 ⟨b_1, 1, none⟩ = some (.int .u64 t20) ∧
 ite (t18 != t20)
 (  ∃ t23, hcell h_4 ⟨b, 1, none⟩ = some (.int .u64 t23) ∧
 ∃ t25, hcell h_4 ⟨b_1, 1, none⟩ = some (.int .u64 t25) ∧
 R (.bool (decide (t23 < t25))) h_4)
 (  ∃ t29, hcell h_4 ⟨b, 2, none⟩ = some (.int .u64 t29) ∧
 ∃ t31, hcell h_4 ⟨b_1, 2, none⟩ = some (.int .u64 t31) ∧
 ite (t29 != t31)
 (  ∃ t34, hcell h_4 ⟨b, 2, none⟩ = some (.int .u64 t34) ∧
 ∃ t36, hcell h_4 ⟨b_1, 2, none⟩ = some (.int .u64 t36) ∧
 R (.bool (decide (t34 < t36))) h_4)
 (  ∃ t40, hcell h_4 ⟨b, 3, none⟩ = some (.string t40) ∧
 ∃ t42, hcell h_4 ⟨b_1, 3, none⟩ = some (.string t42) ∧
 ite (!(t40.toList == t42.toList))
 (  ∃ t45, hcell h_4 ⟨b, 3, none⟩ = some (.string t45) ∧
 ∃ t47, hcell h_4 ⟨b_1, 3, none⟩ = some (.string t47) ∧
 R (.bool (Op.bytesLess t45.toList t47.toList)) h_4)
 (  ∃ t50, hcell h_4 ⟨b, 4, none⟩ = some (.string t50) ∧
 ∃ t52, hcell h_4 ⟨b_1, 4, none⟩ = some (.string t52) ∧
 R (.bool (Op.bytesLess t50.toList t52.toList)) h_4))))) : Cl 101 #[.agg #[.bool a_0, .int .u64 a_1, .int .u64 a_2, .string a_3, .string a_4], .agg #[.bool b_0, .int .u64 b_1, .int .u64 b_2, .string b_3, .string b_4]] h R :=
 callsN [(5, fun _ => .plan (opL [0,2,1,3,4,5] .done)), (8, fun _ => .plan (opL [0,2,1,3,4,5] .done))] hv

end
section
namespace Eid
theorem ba_beq {a b : ByteArray} : (a == b) = true ↔ a = b := by
  have ⟨a⟩ := a
  have ⟨b⟩ := b
  constructor
  · intro h
    have h : (a == b) = true := h
    rw [eq_of_beq h]
  · intro h
    cases h
    show (a == a) = true
    simp
structure Ev where
  ipn : Bool
  node : Int
  svc : Int
  host : ByteArray
  dem : ByteArray
theorem Ev.ext' {x y : Ev} (h0 : x.ipn = y.ipn) (h1 : x.node = y.node) (h2 : x.svc = y.svc) (h3 : x.host = y.host) (h4 : x.dem = y.dem) : x = y := by
  cases x; cases y; simp at h0 h1 h2 h3 h4; simp [h0, h1, h2, h3, h4]
def eqB (x y : Ev) : Bool := x.ipn == y.ipn && (x.node == y.node && (x.svc == y.svc && (x.host == y.host && (x.dem == y.dem && true))))
theorem eqB_iff {x y : Ev} : eqB x y = true ↔ x = y := by
  unfold eqB
  simp only [Bool.and_eq_true, beq_iff_eq, ba_beq, and_true]
  constructor
  · rintro ⟨h0, h1, h2, h3, h4⟩; exact Ev.ext' h0 h1 h2 h3 h4
  · grind
instance : DecidableEq Ev := fun x y => decidable_of_iff (eqB x y = true) eqB_iff
theorem eqB_dec (x y : Ev) : eqB x y = decide (x = y) := by
  by_cases h : x = y
  · rw [decide_eq_true h]; exact eqB_iff.2 h
  · rw [decide_eq_false h]
    cases hb : eqB x y
    · rfl
    · exact absurd (eqB_iff.1 hb) h
def ev5 (x : Ev) : Value := .agg #[.bool x.ipn, .int .u64 x.node, .int .u64 x.svc, .string x.host, .string x.dem]
def Ev.zero : Ev := ⟨false, 0, 0, ⟨#[]⟩, ⟨#[]⟩⟩
theorem eqv (x y : Ev) : EqV Tryz.prog 34 (ev5 x) (ev5 y) (decide (x = y)) := by
  rw [← eqB_dec]
  exact EqV.of (by rfl)
theorem eqv' {x y : Ev} {a b : Value} (ha : a = ev5 x) (hb : b = ev5 y) : EqV Tryz.prog 34 a b (decide (x = y)) := by subst ha hb; exact eqv x y
theorem chk (e : Bool) (a : Ev) (h : Heap) : rd Tryz.prog (Instr.checkKey e 10000 34 (ev5 a)) h = some () := by kernel_rfl
theorem under : (Tryz.prog.underlying 34).isSome = true := by kernel_rfl
theorem key : KeyOk Tryz.prog 34 ev5 := ⟨eqv, chk, by
  have ⟨d, h⟩ := Option.isSome_iff_exists.1 under
  exact ⟨d, h, fun a b => .inl (by cases d <;> rfl)⟩, fun a => by unfold ev5; simp [Instr.sameBits, ba_beq.2]⟩
def pl (more c : UInt8) : Bool := (decide (97 ≤ c) && decide (c ≤ 122)) || (decide (48 ≤ c) && decide (c ≤ 57)) || c == 45 || c == more
def plainB (more : UInt8) (s : ByteArray) : Bool := s.data.toList.all (pl more)
def rightE (x : Ev) : Bool :=
  if x = .zero then true
  else if x.ipn = true then decide (x.host = ⟨#[]⟩ ∧ x.dem = ⟨#[]⟩ ∧ 1 ≤ x.node ∧ x.node ≤ 4294967295 ∧ x.svc ≤ 4294967295)
  else decide (x.node = 0 ∧ x.svc = 0 ∧ 1 ≤ x.host.size ∧ x.host.size ≤ 16 ∧ x.dem.size ≤ 24) && (plainB 45 x.host && plainB 47 x.dem)
def classE (x : Ev) : Int := if x = .zero then 0 else if x.ipn = true then 1 else 2
def bl (a b : ByteArray) : Bool := Op.bytesLess a.toList b.toList
def lessE (x y : Ev) : Bool :=
  if classE x ≠ classE y then decide (classE x < classE y)
  else if x.node ≠ y.node then decide (x.node < y.node)
  else if x.svc ≠ y.svc then decide (x.svc < y.svc)
  else if x.host ≠ y.host then bl x.host y.host
  else bl x.dem y.dem
theorem bytes_irrefl : ∀ a : List UInt8, Op.bytesLess a a = false
  | [] => rfl
  | a :: x => by unfold Op.bytesLess; simp [bytes_irrefl x]
theorem bytes_trans : ∀ {a b c : List UInt8}, Op.bytesLess a b = true → Op.bytesLess b c = true → Op.bytesLess a c = true
  | _, [], _, h, _ => by unfold Op.bytesLess at h; cases h
  | _, _ :: _, [], _, h => by cases h
  | [], b :: y, c :: z, _, _ => rfl
  | a :: x, b :: y, c :: z, h1, h2 => by
    unfold Op.bytesLess at h1 h2 ⊢
    simp only [Bool.or_eq_true, decide_eq_true_eq, Bool.and_eq_true, beq_iff_eq] at h1 h2 ⊢
    rcases h1 with h1 | ⟨rfl, h1⟩
    · grind
    · rcases h2 with h2 | ⟨rfl, h2⟩
      · grind
      · exact .inr ⟨rfl, bytes_trans h1 h2⟩
theorem bytes_total : ∀ {a b : List UInt8}, a ≠ b → Op.bytesLess a b = true ∨ Op.bytesLess b a = true
  | [], [], h => absurd rfl h
  | [], _ :: _, _ => .inl rfl
  | _ :: _, [], _ => .inr rfl
  | a :: x, b :: y, h => by
    unfold Op.bytesLess
    by_cases e : a = b
    · subst e
      rcases bytes_total (a := x) (fun e => h (by rw [e])) with h1 | h1
      · grind
      · grind
    · grind
theorem bl_ne {a b : ByteArray} (h : a ≠ b) : bl a b = true ∨ bl b a = true := by
  refine bytes_total fun e => h ?_
  rw [toList_data, toList_data] at e
  cases a; cases b
  simp only [ByteArray.mk.injEq]
  exact Array.ext' e
theorem bl_trans {a b c : ByteArray} (h1 : bl a b = true) (h2 : bl b c = true) : bl a c = true := bytes_trans h1 h2
theorem bl_irrefl (a : ByteArray) : bl a a = false := bytes_irrefl _
theorem less_iff {x y : Ev} : lessE x y = true ↔ classE x < classE y ∨ (classE x = classE y ∧ (x.node < y.node ∨ (x.node = y.node ∧ (x.svc < y.svc ∨ (x.svc = y.svc ∧ ((x.host ≠ y.host ∧ bl x.host y.host = true) ∨ (x.host = y.host ∧ bl x.dem y.dem = true))))))) := by
  unfold lessE
  by_cases h0 : classE x = classE y
  · rw [if_neg (by simpa using h0)]
    by_cases h1 : x.node = y.node
    · rw [if_neg (by simpa using h1)]
      by_cases h2 : x.svc = y.svc
      · rw [if_neg (by simpa using h2)]
        by_cases h3 : x.host = y.host
        · rw [if_neg (by simpa using h3)]; simp [h0, h1, h2, h3]
        · rw [if_pos h3]; simp [h0, h1, h2, h3]
      · rw [if_pos h2]; simp [h0, h1, h2]
    · rw [if_pos h1]; simp [h0, h1]
  · rw [if_pos h0]; simp [h0]
theorem less_irrefl (x : Ev) : lessE x x = false := by
  cases h : lessE x x
  · rfl
  · rw [less_iff] at h
    rcases h with h | ⟨_, h | ⟨_, h | ⟨_, ⟨h, _⟩ | ⟨_, h⟩⟩⟩⟩
    · omega
    · omega
    · omega
    · grind
    · rw [bl_irrefl] at h; cases h
theorem less_trans {x y z : Ev} (h1 : lessE x y = true) (h2 : lessE y z = true) : lessE x z = true := by
  rw [less_iff] at h1 h2 ⊢
  rcases h1 with h1 | ⟨c1, h1⟩
  · grind
  rcases h2 with h2 | ⟨c2, h2⟩
  · exact .inl (by omega)
  refine .inr ⟨by omega, ?_⟩
  rcases h1 with h1 | ⟨n1, h1⟩
  · omega
  rcases h2 with h2 | ⟨n2, h2⟩
  · exact .inl (by omega)
  refine .inr ⟨by omega, ?_⟩
  rcases h1 with h1 | ⟨s1, h1⟩
  · omega
  rcases h2 with h2 | ⟨s2, h2⟩
  · omega
  refine .inr ⟨by omega, ?_⟩
  rcases h1 with ⟨e1, h1⟩ | ⟨e1, h1⟩
  · rcases h2 with ⟨e2, h2⟩ | ⟨e2, h2⟩
    · refine .inl ⟨fun e => ?_, bl_trans h1 h2⟩
      have := bl_trans h1 (e ▸ h2)
      rw [bl_irrefl] at this; cases this
    · grind
  · rcases h2 with ⟨e2, h2⟩ | ⟨e2, h2⟩
    · grind
    · exact .inr ⟨e1.trans e2, bl_trans h1 h2⟩
theorem less_total {x y : Ev} (h : x ≠ y) : lessE x y = true ∨ lessE y x = true := by
  rw [less_iff, less_iff]
  by_cases h0 : classE x = classE y
  · by_cases h1 : x.node = y.node
    · by_cases h2 : x.svc = y.svc
      · by_cases h3 : x.host = y.host
        · rcases bl_ne (fun e => by
            unfold classE at h0
            have hi : x.ipn = y.ipn := by
              grind
            exact h (Ev.ext' hi h1 h2 h3 e)) with h5 | h5
          · grind
          · grind
        · rcases bl_ne h3 with h5 | h5
          · grind
          · grind
      · grind
    · grind
  · grind
variable {h : Heap} {R : Value → Heap → Prop}
theorem get_at {s : ByteArray} {i : Nat} (hi : i < s.size) : s.get! i = s.data.toList.getD i 0 := by
  have  := hi
  show s.data[i]! = _
  have e : s.data.toList[i]? = some s.data[i] := by simp
  rw [getElem!_pos s.data i this, List.getD_eq_getElem?_getD, e]
  rfl
theorem decode_at (s : ByteArray) (i : Nat) (hi : i < s.size) : (s.data.toList.getD i 0 < 128 → Utf8.decode s i = ((s.data.toList.getD i 0).toNat, 1)) ∧ (¬ s.data.toList.getD i 0 < 128 → 128 ≤ (Utf8.decode s i).1) := by
  have e := get_at hi
  have e0 : (s.get! (i + 0)).toNat = (s.data.toList.getD i 0).toNat := by grind
  constructor
  · intro h
    have h : (s.data.toList.getD i 0).toNat < 128 := h
    unfold Utf8.decode
    simp only [e0]
    rw [if_pos h]
  · intro h
    have h : ¬ (s.data.toList.getD i 0).toNat < 128 := h
    unfold Utf8.decode
    simp only [e0]
    rw [if_neg h]
    split
    · split
      · omega
      · decide
    · split
      · split
        · grind
        · decide
      · split
        · split
          · rename_i hc; simp only [Bool.and_eq_true, decide_eq_true_eq] at hc; omega
          · decide
        · decide
def np (more : Int) (c : Int) : Bool := (decide (c < 97) || decide (c > 122)) && ((decide (c < 48) || decide (c > 57)) && ((c != 45) && (c != more)))
theorem np_big {more c : Int} (hm : more < 128) (h : 128 ≤ c) : np more c = true := by
  unfold np
  have h1 : c > 122 := by omega
  have h2 : c > 57 := by omega
  have h3 : c ≠ 45 := by omega
  have h4 : c ≠ more := by omega
  simp [h1, h2, h3, h4]
theorem np_pl (more : UInt8) (b : UInt8) : np (more.toNat : Int) (b.toNat : Int) = !pl more b := by
  have e1 : (b = 45) ↔ ((b.toNat : Int) = 45) := by
    constructor
    · simp_all
    · intro e; exact UInt8.toNat_inj.1 (by grind)
  have e2 : (b = more) ↔ ((b.toNat : Int) = (more.toNat : Int)) := by
    constructor
    · rintro rfl; rfl
    · intro e; exact UInt8.toNat_inj.1 (by omega)
  have e3 : (97 ≤ b) ↔ ¬ ((b.toNat : Int) < 97) := by rw [UInt8.le_iff_toNat_le]; show 97 ≤ b.toNat ↔ _; omega
  have e4 : (b ≤ 122) ↔ ¬ ((b.toNat : Int) > 122) := by rw [UInt8.le_iff_toNat_le]; show b.toNat ≤ 122 ↔ _; omega
  have e5 : (48 ≤ b) ↔ ¬ ((b.toNat : Int) < 48) := by rw [UInt8.le_iff_toNat_le]; show 48 ≤ b.toNat ↔ _; omega
  have e6 : (b ≤ 57) ↔ ¬ ((b.toNat : Int) > 57) := by rw [UInt8.le_iff_toNat_le]; show b.toNat ≤ 57 ↔ _; omega
  unfold np pl
  have e7 : (b == 45) = decide ((b.toNat : Int) = 45) := by grind
  have e8 : (b == more) = decide ((b.toNat : Int) = (more.toNat : Int)) := by
    grind
  rw [e7, e8]
  simp only [e3, e4, e5, e6]
  by_cases q1 : (b.toNat : Int) < 97 <;> by_cases q2 : (b.toNat : Int) > 122 <;> by_cases q3 : (b.toNat : Int) < 48 <;> by_cases q4 : (b.toNat : Int) > 57 <;> by_cases q5 : (b.toNat : Int) = 45 <;> by_cases q6 : (b.toNat) = (more.toNat : Int) <;> simp [q1, q2, q3, q4, q5, q6]
end Eid
end
section
namespace Eid
variable {h h':Heap} {R:TyP}
variable {s:ByteArray} {pos:Nat} {more:UInt8}
theorem byte_at (hp : pos < s.size) : s.data.toList[pos]? = some (s.data.toList.getD pos 0) := by
  simp_all
theorem pl_lt {b:UInt8} (hm : more.toNat < 128) (h : pl more b = true) : b < 128 := by
  by_cases hb : b.toNat < 128
  · exact hb
  · have h1 := np_big (more := (more.toNat)) (c := (b.toNat)) (by omega) (by omega)
    rw [np_pl, h] at h1; cases h1
theorem np_false (hm : more.toNat < 128) (hp : pos < s.size) (h : np (more.toNat : Int) ((Utf8.decode s pos).1 : Int) = false) :
    pl more (s.data.toList.getD pos 0) = true ∧ (Utf8.decode s pos).2 = 1 := by
  have ⟨h1, h2⟩ := decode_at s pos hp
  by_cases hb : s.data.toList.getD pos 0 < 128
  · rw [h1 hb] at h ⊢
    rw [np_pl] at h
    exact ⟨by grind, rfl⟩
  · have := np_big (more := (more.toNat)) (c := ((Utf8.decode s pos).1)) (by omega) (by grind)
    rw [this] at h; cases h
theorem np_true (hm : more.toNat < 128) (hp : pos < s.size) (h : np (more.toNat : Int) ((Utf8.decode s pos).1 : Int) = true) : plainB more s = false := by
  cases hb : plainB more s with
  | false => rfl
  | true =>
    have hp2 := List.all_eq_true.1 hb _ (List.mem_of_getElem? (byte_at hp))
    have ⟨h1, _⟩ := decode_at s pos hp
    rw [h1 (pl_lt hm hp2), np_pl, hp2] at h
    cases h
theorem plain_loop {it : Nat} {ty : TypeId} {h0 h1 : Heap} (hm : more.toNat < 128) (hit : h1[it]? = some (.stringIter s 0)) (hge : h0.size ≤ it) (f1 : Fr No h0 h1) (hk : ∀ h', Fr No h0 h' → R (.bool (plainB more s)) h') :
    ∃ (I : Heap → Prop) (mu : Heap → Nat), I h1 ∧ ∀ g, I g → denSem Tryz.prog (Instr.next (.pointer (some ⟨it, 0, none⟩)) true ty) g fun v g1 =>
      (v = .tuple #[.bool false] ∧ R (.bool true) g1) ∨ ∃ (a b : Value), v = .tuple #[.bool true, a, b] ∧ ∃ (c : Int), b = .int .i32 c ∧ if np (more.toNat : Int) c = true then R (.bool false) g1 else (I g1 ∧ mu g1 < mu g) := by
  refine ⟨fun g => ∃ pos, g[it]? = some (.stringIter s pos) ∧ Fr No h0 g ∧ pos ≤ s.size ∧ (s.data.toList.take pos).all (pl more) = true, fun g => (match g[it]? with | some (.stringIter _ p) => s.size - p | _ => 0), ⟨0, hit, f1, Nat.zero_le _, by simp⟩, ?_⟩
  rintro g ⟨pos, hg, fg, hle, hall⟩
  refine den_nextS hg (fun hend => .inl ⟨rfl, ?_⟩) (fun hlt g1 hg1 hs1 ho1 => .inr ⟨_, _, rfl, _, rfl, ?_⟩)
  · have : plainB more s = true := by
      unfold plainB
      rw [List.take_of_length_le (by show s.data.toList.length ≤ pos; exact hend)] at hall
      exact hall
    rw [← this]; exact hk g fg
  · have fg1 : Fr No h0 g1 := fg.fresh (S := fun c => c = it) ⟨by omega, fun c _ hn => ho1 c hn⟩ (fun c e => by omega)
    cases hn : np (more.toNat : Int) ((Utf8.decode s pos).1 : Int) with
    | true =>
      rw [if_pos rfl, ← np_true hm hlt hn]; exact hk g1 fg1
    | false =>
      rw [if_neg (by simp)]
      obtain ⟨h1, h2⟩ := np_false hm hlt hn
      rw [h2] at hg1
      refine ⟨⟨pos + 1, hg1, fg1, hlt, ?_⟩, ?_⟩
      · rw [List.take_add_one, byte_at hlt, List.all_append, hall]
        show (true && (pl more (s.data.toList.getD pos 0) && true)) = true
        rw [h1]; rfl
      · simp only [hg, hg1]; omega
theorem plain_host (hk : ∀ h', Fr No h h' → R (.bool (plainB 45 s)) h') : Cl 43 #[.string s, .int .i32 45] h R := by
  refine eid_plain.host.walk (den_rangeS (by kernel_rfl) fun r h1 hr hit f1 => ⟨_, rfl, ?_⟩)
  have ⟨I, mu, h2, h3⟩ := plain_loop (ty := 0) (by decide) hit (by omega) f1 hk
  refine ⟨I, mu, h2, fun g hg => denSem_mono _ _ (fun v g1 hv => ?_) (h3 g hg)⟩
  rcases hv with hv | ⟨a, b, e, c, e2, hv⟩
  · grind
  · refine .inr ⟨a, b, e, c, e2, JoinP.of fun J hJ => ?_⟩
    have key : J (np 45 c) g1 := by grind
    unfold np at key
    revert key
    generalize decide (c < 97) = b1
    generalize decide (c > 122) = b2
    generalize decide (c < 48) = b3
    generalize decide (c > 57) = b4
    generalize (c != 45) = b5
    intro key
    cases b1 <;> cases b2 <;> cases b3 <;> cases b4 <;> cases b5 <;> exact key
theorem plain_demux (hk : ∀ h', Fr No h h' → R (.bool (plainB 47 s)) h') : Cl 43 #[.string s, .int .i32 47] h R := by
  refine eid_plain.demux.walk (den_rangeS (by kernel_rfl) fun r h1 hr hit f1 => ⟨_, rfl, ?_⟩)
  have ⟨I, mu, h2, h3⟩ := plain_loop (ty := 0) (by decide) hit (by omega) f1 hk
  refine ⟨I, mu, h2, fun g hg => denSem_mono _ _ (fun v g1 hv => ?_) (h3 g hg)⟩
  rcases hv with hv | ⟨a, b, e, c, e2, hv⟩
  · grind
  · refine .inr ⟨a, b, e, c, e2, JoinP.of fun J hJ => ?_⟩
    have key : J (np 47 c) g1 := by grind
    unfold np at key
    revert key
    generalize decide (c < 97) = b1
    generalize decide (c > 122) = b2
    generalize decide (c < 48) = b3
    generalize decide (c > 57) = b4
    generalize (c != 45) = b5
    generalize (c != 47) = b6
    intro key
    cases b1 <;> cases b2 <;> cases b3 <;> cases b4 <;> cases b5 <;> cases b6 <;> exact key
theorem right_ok (x : Ev) (hk : ∀ h', Fr No h h' → R (.bool (rightE x)) h') : Cl 18 #[.agg #[.bool x.ipn, .int .u64 x.node, .int .u64 x.svc, .string x.host, .string x.dem]] h R := by
  refine eid_Right.walk (eid_Eid.box fun b h1 eb hb f1 => eid_Eid.ld hb ⟨_, eqv' (y := .zero) (x := x) rfl rfl, ?_⟩)
  have K := hk h1 f1
  unfold rightE at K
  by_cases h0 : x = .zero
  · rw [if_pos (decide_eq_true h0)]
    rw [if_pos h0] at K; exact K
  · rw [if_neg (by simpa using h0)]
    rw [if_neg h0] at K
    refine ⟨_, cell_at hb rfl, ?_⟩
    by_cases hi : x.ipn = true
    · rw [if_pos hi]
      rw [if_pos hi] at K
      refine eid_Eid.ld hb ⟨_, cell_at hb rfl, _, cell_at hb rfl, _, eqv' (y := ⟨true, x.node, x.svc, ⟨#[]⟩, ⟨#[]⟩⟩) (x := x) rfl rfl, ?_⟩
      by_cases he : x = ⟨true, x.node, x.svc, ⟨#[]⟩, ⟨#[]⟩⟩
      · have e1 : x.host = ⟨#[]⟩ := congrArg Ev.host he
        have e2 : x.dem = ⟨#[]⟩ := congrArg Ev.dem he
        rw [if_pos (decide_eq_true he)]
        refine ⟨_, cell_at hb rfl, ?_⟩
        by_cases q1 : x.node ≥ 1
        · rw [if_pos (decide_eq_true q1)]
          refine ⟨_, cell_at hb rfl, ?_⟩
          by_cases q2 : x.node ≤ 4294967295
          · rw [if_pos (decide_eq_true q2)]
            refine ⟨_, cell_at hb rfl, ?_⟩
            have q1' : 1 ≤ x.node := q1
            simp only [e1, e2, q1', q2, true_and] at K
            exact K
          · grind
        · grind
      · rw [if_neg (by simpa using he)]
        have : ¬ (x.host = ⟨#[]⟩ ∧ x.dem = ⟨#[]⟩ ∧ 1 ≤ x.node ∧ x.node ≤ 4294967295 ∧ x.svc ≤ 4294967295) := fun ⟨a, b, _⟩ => he (Ev.ext' hi rfl rfl a b)
        rw [decide_eq_false this] at K; exact K
    · have hi' : x.ipn = false := by simpa using hi
      rw [if_neg hi]
      rw [if_neg hi] at K
      refine eid_Eid.ld hb ⟨_, cell_at hb rfl, _, cell_at hb rfl, _, eqv' (y := ⟨false, 0, 0, x.host, x.dem⟩) (x := x) rfl rfl, ?_⟩
      by_cases he : x = ⟨false, 0, 0, x.host, x.dem⟩
      · have e1 : x.node = 0 := congrArg Ev.node he
        have e2 : x.svc = 0 := congrArg Ev.svc he
        rw [if_pos (decide_eq_true he)]
        refine ⟨_, cell_at hb rfl, ?_⟩
        simp only [e1, e2, true_and] at K
        by_cases q1 : 1 ≤ x.host.size
        · rw [if_pos (decide_eq_true (by omega))]
          refine ⟨_, cell_at hb rfl, ?_⟩
          by_cases q2 : x.host.size ≤ 16
          · rw [if_pos (decide_eq_true (by omega))]
            refine ⟨_, cell_at hb rfl, ?_⟩
            by_cases q3 : x.dem.size ≤ 24
            · rw [if_pos (decide_eq_true (by omega))]
              simp only [q1, q2, q3, and_self, decide_true, Bool.true_and] at K
              refine ⟨_, cell_at hb rfl, plain_host fun h2 f2 => ⟨_, rfl, ?_⟩⟩
              have hb2 := f2.get hb id
              by_cases q4 : plainB 45 x.host = true
              · rw [if_pos q4]
                refine ⟨_, cell_at hb2 rfl, plain_demux fun h3 f3 => ⟨_, rfl, ?_⟩⟩
                have := hk h3 (f1.tt (f2.tt f3))
                unfold rightE at this
                rw [if_neg h0, if_neg hi, q4] at this
                simp only [e1, e2, q1, q2, q3, and_self, decide_true, Bool.true_and] at this
                exact this
              · rw [if_neg q4]
                have := hk h2 (f1.tt f2)
                unfold rightE at this
                have q4 : plainB 45 x.host = false := by simpa using q4
                rw [if_neg h0, if_neg hi, q4] at this
                simp only [Bool.false_and, Bool.and_false] at this
                exact this
            · grind
          · grind
        · grind
      · rw [if_neg (by simpa using he)]
        have : ¬ (x.node = 0 ∧ x.svc = 0 ∧ 1 ≤ x.host.size ∧ x.host.size ≤ 16 ∧ x.dem.size ≤ 24) := fun ⟨a, b, _⟩ => he (Ev.ext' hi' a b rfl rfl)
        rw [decide_eq_false this, Bool.false_and] at K; exact K
theorem class_ok (x : Ev) (hk : ∀ h', Fr No h h' → R (.int .i64 (classE x)) h') : Cl 150 #[.agg #[.bool x.ipn, .int .u64 x.node, .int .u64 x.svc, .string x.host, .string x.dem]] h R := by
  refine eid_class.walk (eid_Eid.box fun b h1 eb hb f1 => eid_Eid.ld hb ⟨_, eqv' (y := .zero) rfl rfl, ?_⟩)
  have K := hk h1 f1
  unfold classE at K
  by_cases h0 : x = .zero
  · grind
  · rw [if_neg (by grind)]
    refine ⟨_, cell_at hb rfl, ?_⟩
    by_cases hi : x.ipn = true
    · grind
    · grind
theorem bytes_eq {a b : ByteArray} : (a.toList == b.toList) = true ↔ a = b := by
  rw [beq_iff_eq, toList_data, toList_data]
  constructor
  · intro e; cases a; cases b; simp only [ByteArray.mk.injEq]; exact Array.ext' e
  · grind
theorem less_ok (x y : Ev) (hk : ∀ h', Fr No h h' → R (.bool (lessE x y)) h') : Cl 101 #[.agg #[.bool x.ipn, .int .u64 x.node, .int .u64 x.svc, .string x.host, .string x.dem], .agg #[.bool y.ipn, .int .u64 y.node, .int .u64 y.svc, .string y.host, .string y.dem]] h R := by
  refine eid_Less.walk (eid_Eid.box fun b h1 eb hb f1 => eid_Eid.box fun c h2 ec hc f2 => ?_)
  have hb2 := f2.get hb id
  refine eid_Eid.ld hb2 (eid_Eid.ld hc (class_ok x fun h3 f3 => ⟨_, rfl, eid_Eid.held (f3.get hc id), class_ok y fun h4 f4 => ⟨_, rfl, ?_⟩⟩))
  have F4 := f3.tt f4
  have hb4 := F4.get hb2 id
  have hc4 := F4.get hc id
  have K := hk h4 (f1.tt (f2.tt F4))
  unfold lessE at K
  by_cases q0 : classE x = classE y
  · rw [if_neg (by simpa using q0)]
    rw [if_neg (by simpa using q0)] at K
    refine ⟨_, cell_at hb4 rfl, _, cell_at hc4 rfl, ?_⟩
    by_cases q1 : x.node = y.node
    · rw [if_neg (by simpa using q1)]
      rw [if_neg (by omega)] at K
      refine ⟨_, cell_at hb4 rfl, _, cell_at hc4 rfl, ?_⟩
      by_cases q2 : x.svc = y.svc
      · rw [if_neg (by simpa using q2)]
        rw [if_neg (by simpa using q2)] at K
        refine ⟨_, cell_at hb4 rfl, _, cell_at hc4 rfl, ?_⟩
        by_cases q3 : x.host = y.host
        · rw [if_neg (by grind)]
          rw [if_neg (by grind)] at K
          exact ⟨_, cell_at hb4 rfl, _, cell_at hc4 rfl, K⟩
        · have : (x.host.toList == y.host.toList) = false := by
            cases e : x.host.toList == y.host.toList
            · rfl
            · exact absurd (bytes_eq.1 e) q3
          rw [if_pos (by simp [this])]
          rw [if_pos q3] at K
          exact ⟨_, cell_at hb4 rfl, _, cell_at hc4 rfl, K⟩
      · rw [if_pos (by simpa using q2)]
        rw [if_pos q2] at K
        exact ⟨_, cell_at hb4 rfl, _, cell_at hc4 rfl, K⟩
    · rw [if_pos (by simpa using q1)]
      rw [if_pos q1] at K
      exact ⟨_, cell_at hb4 rfl, _, cell_at hc4 rfl, K⟩
  · rw [if_pos (by grind)]
    refine eid_Eid.ld hb4 (eid_Eid.ld hc4 (class_ok x fun h5 f5 => ⟨_, rfl, eid_Eid.held (f5.get hc4 id), class_ok y fun h6 f6 => ⟨_, rfl, ?_⟩⟩))
    have K := hk h6 (f1.tt (f2.tt (F4.tt (f5.tt f6))))
    unfold lessE at K
    rw [if_pos q0] at K; exact K

end Eid
end
section
variable {h:Heap} {R:TyP}
variable {b b_l b_c:Nat} {poly:Int} {b_p:TyO}
abbrev super_Super.atp (h : Heap) (b : Nat) (x : super_Super.S) : Prop := h[b]? = some (.cells x.arr 140 (0, 0))
theorem super_Super.ex {K : super_Super.S → Prop} (x : super_Super.S) (hk : K x) : super_Super.EX K := ⟨_, _, _, hk⟩
theorem super_Super.ldAp {a : Addr} {x : super_Super.S} {K : super_Super.S → Prop} (hb : heldL a x.l 0 h) (hk : K x) : super_Super.LDp h a K := by
  obtain ⟨q0, q1, q2, _⟩ := hb
  rw [add_zero_addr] at q0
  exact ⟨_, q0, _, q1, _, q2, hk⟩
theorem super_Super.heldp {x : super_Super.S} (hb : super_Super.atp h b x) : heldL ⟨b, 0, none⟩ x.l 0 h :=
  heldL_blk hb (fun j v hj => by rw [Nat.zero_add]; simpa using hj)
theorem super_Super.ldp {x : super_Super.S} {K : super_Super.S → Prop} (hb : super_Super.atp h b x) (hk : K x) : super_Super.LDp h ⟨b, 0, none⟩ K := ldAp (heldp hb) hk
theorem super_Super.newp {x : super_Super.S} {K : Nat → Heap → Prop} (hk : ∀ b h', b = h.size → super_Super.atp h' b x → Fr No h h' → K b h') : NewP h (.cells super_Super.S.z.arr 140) fun b h_0 => super_Super.STp h_0 ⟨b, 0, none⟩ x (K b) :=
  new_full (vs := x.l) rfl rfl hk
theorem super_Super.boxp {x : super_Super.S} {K : Nat → Heap → Prop} (hk : ∀ b h', b = h.size → super_Super.atp h' b x → Fr No h h' → K b h') : NewP h (.cells x.arr 140) fun b h_0 => K b h_0 :=
  newP_of (hk _ _ rfl push_new (Fr.push _ _))
theorem super_Super.setp {y x : super_Super.S} {K : Heap → Prop} (a0 : super_Super.atp h b y) (hk : ∀ h', super_Super.atp h' b x → Fr (fun y => y = b) h h' → h'.size = h.size → K h') : super_Super.STp h ⟨b, 0, none⟩ x K :=
  (show storeL ⟨b, 0, none⟩ x.l 0 h K from storeL_full a0 rfl rfl fun h1 d1 d2 d3 => hk h1 d1 (Fr.of_eq d2 fun c hc => d3 c hc) d2)
variable {K:super_Super.S→Prop} {x s:super_Super.S}
theorem super_Right.walk (hv :
 NewP h (.cells s.arr 140) fun b h_1 =>
 ∃ t4, hcell h_1 ⟨b, 0, none⟩ = some (.int .u64 t4) ∧
 ite (decide (t4 ≥ 1))
 (  ∃ t8, hcell h_1 ⟨b, 0, none⟩ = some (.int .u64 t8) ∧
 ite (decide (t8 ≤ 1099511627776))
 (  ∃ t13, hcell h_1 ⟨b, 1, none⟩ = some (.int .i64 t13) ∧
 ite (t13 == 0)
 (  ∃ t23, hcell h_1 ⟨b, 2, none⟩ = some (.int .i64 t23) ∧
 ite (decide (t23 ≥ 0))
 (  ∃ t28, hcell h_1 ⟨b, 2, none⟩ = some (.int .i64 t28) ∧
 R (.bool (decide (t28 ≤ 1048576))) h_1)
 (  R (.bool false) h_1))
 (  ∃ t17, hcell h_1 ⟨b, 1, none⟩ = some (.int .i64 t17) ∧
 ite (t17 == 1)
 (  ∃ t23_1, hcell h_1 ⟨b, 2, none⟩ = some (.int .i64 t23_1) ∧
 ite (decide (t23_1 ≥ 0))
 (  ∃ t28_1, hcell h_1 ⟨b, 2, none⟩ = some (.int .i64 t28_1) ∧
 R (.bool (decide (t28_1 ≤ 1048576))) h_1)
 (  R (.bool false) h_1))
 (  R (.bool false) h_1)))
 (  R (.bool false) h_1))
 (  R (.bool false) h_1)) : Cl 227 #[s.agg] h R :=
 callsN [] hv
theorem super_put.walk {out_p : Option Addr} {out_l out_c : Nat} {n : Int} {size : Int} (hv :
 ∃ (I : Option Addr → Nat → Nat → Int → Heap → Prop) (mu : Option Addr → Nat → Nat → Int → Heap → Nat), I out_p out_l out_c 0 h ∧ ∀ out_p_1 out_l_1 out_c_1 t9 h_1, I out_p_1 out_l_1 out_c_1 t9 h_1 →
 ite (decide (t9 < size))
 (  if IntKind.wrap .i64 (8 * (IntKind.wrap .i64 ((IntKind.wrap .i64 (size - 1)) - t9))) < 0 then False else
 NewP h_1 (.cells #[.int .u8 (IntKind.wrap .u8 (Int.fdiv n (2 ^ min (Int.toNat (IntKind.wrap .i64 (8 * (IntKind.wrap .i64 ((IntKind.wrap .i64 (size - 1)) - t9))))) (IntKind.bits .u64))))] 5) fun b h_2 =>
 Dsz (Builtin.append_ #[48, 48] 48 #[.slice out_p_1 out_l_1 out_c_1, .slice (some ⟨b, 0, none⟩) 1 1]) h_2 fun v h_3 =>
 ∃ t22_p t22_l t22_c, v = .slice t22_p t22_l t22_c ∧
 (I t22_p t22_l t22_c (IntKind.wrap .i64 (t9 + 1)) h_3 ∧ mu t22_p t22_l t22_c (IntKind.wrap .i64 (t9 + 1)) h_3 < mu out_p_1 out_l_1 out_c_1 t9 h_1))
 (  R (.slice out_p_1 out_l_1 out_c_1) h_1)) : Cl 228 #[.slice out_p out_l out_c, .int .u64 n, .int .i64 size] h R :=
 callsN [(6, .loop [(0, sS), (9, sI)])] hv
theorem super_Write.walk (hv :
 NewP h (.cells s.arr 140) fun b h_1 =>
 super_Super.LDp h_1 ⟨b, 0, none⟩ fun t5 =>
 Cl 227 #[t5.agg] h_1 fun v h_2 =>
 ∃ t6, v = .bool t6 ∧
 ite (!t6)
 (  R (.tuple #[.slice none 0 0, .int .i64 3]) h_2)
 (  NewP h_2 (.cells #[.int .u8 80, .int .u8 76, .int .u8 70, .int .u8 84] 5) fun b_1 h_3 =>
 Dsz (convert 48 48 (.slice (some ⟨b_1, 0, none⟩) 4 4)) h_3 fun v_1 h_4 =>
 ∃ t9_p t9_l t9_c, v_1 = .slice t9_p t9_l t9_c ∧
 ∃ t11, hcell h_4 ⟨b, 0, none⟩ = some (.int .u64 t11) ∧
 Cl 228 #[.slice t9_p t9_l t9_c, .int .u64 t11, .int .i64 8] h_4 fun v_2 h_5 =>
 ∃ t12_p t12_l t12_c, v_2 = .slice t12_p t12_l t12_c ∧
 ∃ t15, hcell h_5 ⟨b, 1, none⟩ = some (.int .i64 t15) ∧
 NewP h_5 (.cells #[.int .u8 (IntKind.wrap .u8 t15)] 5) fun b_2 h_6 =>
 Dsz (Builtin.append_ #[48, 48] 48 #[.slice t12_p t12_l t12_c, .slice (some ⟨b_2, 0, none⟩) 1 1]) h_6 fun v_3 h_7 =>
 ∃ t18_p t18_l t18_c, v_3 = .slice t18_p t18_l t18_c ∧
 ∃ t21, hcell h_7 ⟨b, 2, none⟩ = some (.int .i64 t21) ∧
 Cl 228 #[.slice t18_p t18_l t18_c, .int .u64 (IntKind.wrap .u64 t21), .int .i64 4] h_7 fun v_4 h_8 =>
 ∃ t23_p t23_l t23_c, v_4 = .slice t23_p t23_l t23_c ∧
 Cl 229 #[.slice t23_p t23_l t23_c] h_8 fun v_5 h_9 =>
 ∃ t26, v_5 = .int .u32 t26 ∧
 Cl 228 #[.slice t23_p t23_l t23_c, .int .u64 (IntKind.wrap .u64 t26), .int .i64 4] h_9 fun v_6 h_10 =>
 ∃ t28_p t28_l t28_c, v_6 = .slice t28_p t28_l t28_c ∧
 Dsz (Builtin.append_ #[48, 3] 48 #[.slice t28_p t28_l t28_c, .int .i64 (IntKind.wrap .i64 (128 - ((t28_l : Nat) : Int)))]) h_10 fun v_7 h_11 =>
 ∃ t33_p t33_l t33_c, v_7 = .slice t33_p t33_l t33_c ∧
 R (.tuple #[.slice t33_p t33_l t33_c, .int .i64 0]) h_11)) : Cl 170 #[s.agg] h R :=
 callsN [] hv
theorem super_slot.walk (hv :
 NewP h (.cells s.arr 140) fun b h_1 =>
 ∃ t4, hcell h_1 ⟨b, 0, none⟩ = some (.int .u64 t4) ∧
 R (.int .i64 (IntKind.wrap .i64 (Int.tmod t4 2))) h_1) : Cl 154 #[s.agg] h R :=
 callsN [] hv
theorem super_Put.walk {d : Nat} (hv :
 NewP h (.cells s.arr 140) fun b h_1 =>
 super_Super.LDp h_1 ⟨b, 0, none⟩ fun t8 =>
 Cl 170 #[t8.agg] h_1 fun v h_2 =>
 ∃ t9_0_p t9_0_l t9_0_c t9_1, v = .tuple #[.slice t9_0_p t9_0_l t9_0_c, .int .i64 t9_1] ∧
 ite (t9_1 != 0)
 (  R (.int .i64 t9_1) h_2)
 (  super_Super.LDp h_2 ⟨b, 0, none⟩ fun t16 =>
 Cl 154 #[t16.agg] h_2 fun v_1 h_3 =>
 ∃ t17, v_1 = .int .i64 t17 ∧
 Cl 171 #[.pointer (some ⟨d, 0, none⟩), .int .i64 t17, .slice t9_0_p t9_0_l t9_0_c] h_3 fun v_2 h_4 =>
 ∃ t19, v_2 = .int .i64 t19 ∧
 R (.int .i64 t19) h_4)) : Cl 119 #[.pointer (some ⟨d, 0, none⟩), s.agg] h R :=
 callsN [] hv
theorem sums_halve.walk {s : Int} (hv :
 ite ((IntKind.wrap .u32 ((BitVec.ofInt (IntKind.bits .u32) s &&& BitVec.ofInt (IntKind.bits .u32) 1).toNat : Int)) == 1)
 (  R (.int .u32 (IntKind.wrap .u32 ((BitVec.ofInt (IntKind.bits .u32) (Int.fdiv s (2 ^ min (Int.toNat 1) (IntKind.bits .u32))) ^^^ BitVec.ofInt (IntKind.bits .u32) poly).toNat : Int))) h)
 (  R (.int .u32 (Int.fdiv s (2 ^ min (Int.toNat 1) (IntKind.bits .u32)))) h)) : Cl 376 #[.int .u32 s, .int .u32 poly] h R :=
 callsN [] hv
theorem sums_byteOn.walk {s : Int} {c : Int} (hv :
 ∃ (I : Int → Int → Heap → Prop) (mu : Int → Int → Heap → Nat), I (IntKind.wrap .u32 ((BitVec.ofInt (IntKind.bits .u32) s ^^^ BitVec.ofInt (IntKind.bits .u32) (IntKind.wrap .u32 c)).toNat : Int)) 0 h ∧ ∀ s_1 t11 h_1, I s_1 t11 h_1 →
 ite (decide (t11 < 8))
 (  Cl 376 #[.int .u32 s_1, .int .u32 poly] h_1 fun v h_2 =>
 ∃ t15, v = .int .u32 t15 ∧
 (I t15 (IntKind.wrap .i64 (t11 + 1)) h_2 ∧ mu t15 (IntKind.wrap .i64 (t11 + 1)) h_2 < mu s_1 t11 h_1))
 (  R (.int .u32 s_1) h_1)) : Cl 334 #[.int .u32 s, .int .u8 c, .int .u32 poly] h R :=
 callsN [(8, .loop [(0, .one (.int .u32)), (11, sI)])] hv
theorem sums_run.walk {s : Int} (hv :
 ∃ (I : Int → Int → Heap → Prop) (mu : Int → Int → Heap → Nat), I s 0 h ∧ ∀ s_1 t11 h_1, I s_1 t11 h_1 →
 ite (decide (t11 < ((b_l : Nat) : Int)))
 (  ((0 : Int) ≤ t11 ∧ t11 < ((b_l : Nat) : Int)) ∧
 onSome b_p fun a =>
 ∃ t14, hcell h_1 (a.add (Int.toNat t11 * 1)) = some (.int .u8 t14) ∧
 Cl 334 #[.int .u32 s_1, .int .u8 t14, .int .u32 poly] h_1 fun v h_2 =>
 ∃ t18, v = .int .u32 t18 ∧
 (I t18 (IntKind.wrap .i64 (t11 + 1)) h_2 ∧ mu t18 (IntKind.wrap .i64 (t11 + 1)) h_2 < mu s_1 t11 h_1))
 (  R (.int .u32 s_1) h_1)) : Cl 281 #[.int .u32 s, .slice b_p b_l b_c, .int .u32 poly] h R :=
 callsN [(6, .loop [(0, .one (.int .u32)), (11, sI)])] hv
theorem sums_Long.walk (hv :
 Cl 281 #[.int .u32 4294967295, .slice b_p b_l b_c, .int .u32 2197175160] h fun v h_1 =>
 ∃ t4, v = .int .u32 t4 ∧
 R (.int .u32 (IntKind.wrap .u32 ((BitVec.ofInt (IntKind.bits .u32) (IntKind.max .u32) ^^^ BitVec.ofInt (IntKind.bits .u32) t4).toNat : Int))) h_1) : Cl 229 #[.slice b_p b_l b_c] h R :=
 callsN [] hv

end
section
namespace Bt
variable {h:Heap} {R:TyP}
variable {p:TyO} {bs:TyL} {n s q c l:Nat}
theorem byte_at (hr : Row h p (bc bs)) {i : Nat} (hi : i < bs.length) : ∃ a, p = some a ∧ hcell h (a.add (i * 1)) = some (.int .u8 ((bs[i]).toNat : Int)) := by
  obtain ⟨a, rfl⟩ := hr.some (by cases bs with | nil => simp at hi | cons => simp [bc])
  exact ⟨a, rfl, by rw [Nat.mul_one]; exact hr.cell (by unfold bc; rw [List.getElem?_map, List.getElem?_eq_getElem hi]; rfl)⟩
def halveN (s q : Nat) : Nat := if s % 2 = 1 then (s / 2) ^^^ q else s / 2
def stepsN (q : Nat) : Nat → Nat → Nat
  | 0, s => s
  | k + 1, s => stepsN q k (halveN s q)
def byteN (s c q : Nat) : Nat := stepsN q 8 (s ^^^ c)
def runN (s : Nat) (b : List UInt8) (q : Nat) : Nat := b.foldl (fun s c => byteN s c.toNat q) s
def longN (b : List UInt8) : Nat := 4294967295 ^^^ runN 4294967295 b 2197175160
theorem fdiv2 (n k : Nat) : Int.fdiv (n : Int) (2 ^ k) = ((n / 2 ^ k : Nat) : Int) := by
  rw [Int.fdiv_eq_ediv_of_nonneg _ (by exact_mod_cast Nat.zero_le (2 ^ k))]
  exact_mod_cast rfl
theorem wu32 (hn : n < 4294967296) : IntKind.wrap .u32 (n : Int) = (n : Int) := by
  have e : IntKind.wrap .u32 (n : Int) = (n : Int) % 4294967296 := by simp [IntKind.wrap, IntKind.bits, IntKind.signed]
  rw [e]; omega
theorem b32 (hn : n < 4294967296) : (BitVec.ofInt (IntKind.bits .u32) (n : Int)).toNat = n := by
  rw [BitVec.ofInt_natCast, BitVec.toNat_ofNat]; exact Nat.mod_eq_of_lt hn
theorem xor32 {a b : Nat} (ha : a < 4294967296) (hb : b < 4294967296) : IntKind.wrap .u32 ((BitVec.ofInt (IntKind.bits .u32) (a : Int) ^^^ BitVec.ofInt (IntKind.bits .u32) (b : Int)).toNat : Int) = ((a ^^^ b : Nat) : Int) := by
  rw [BitVec.toNat_xor, b32 ha, b32 hb]
  exact wu32 (Nat.xor_lt_two_pow (n := 32) ha hb)
theorem odd32 (hs : s < 4294967296) : IntKind.wrap .u32 ((BitVec.ofInt (IntKind.bits .u32) (s : Int) &&& BitVec.ofInt (IntKind.bits .u32) 1).toNat : Int) = ((s % 2 : Nat) : Int) := by
  rw [BitVec.toNat_and, b32 hs, show (BitVec.ofInt (IntKind.bits .u32) 1).toNat = 1 from rfl, Nat.and_one_is_mod]
  exact wu32 (by omega)
theorem half32 (s : Nat) : Int.fdiv (s : Int) (2 ^ min (Int.toNat 1) (IntKind.bits .u32)) = ((s / 2 : Nat) : Int) := fdiv2 s 1
theorem halveN_lt (hs : s < 4294967296) (hq : q < 4294967296) : halveN s q < 4294967296 := by
  unfold halveN
  split
  · exact Nat.xor_lt_two_pow (n := 32) (show s / 2 < 2 ^ 32 by omega) hq
  · omega
theorem halve_ok (hs : s < 4294967296) (hq : q < 4294967296) (hk : R (.int .u32 (halveN s q : Int)) h) : Cl 376 #[.int .u32 (s : Int), .int .u32 (q : Int)] h R := by
  refine sums_halve.walk ?_
  unfold halveN at hk
  rw [odd32 hs, half32, xor32 (by omega) hq]
  by_cases c : s % 2 = 1
  · rw [if_pos (by rw [c]; rfl)]; rw [if_pos c] at hk; exact hk
  · rw [if_neg (fun e => c (by have := eq_of_beq e; omega))]; rw [if_neg c] at hk; exact hk
theorem steps_succ (q : Nat) : ∀ (k s : Nat), stepsN q (k + 1) s = halveN (stepsN q k s) q
  | 0, _ => rfl
  | k + 1, s => by
    show stepsN q (k + 1) (halveN s q) = halveN (stepsN q k (halveN s q)) q
    exact steps_succ q k _
theorem steps_lt (hq : q < 4294967296) : ∀ (k s : Nat), s < 4294967296 → stepsN q k s < 4294967296
  | 0, _, hs => hs
  | k + 1, s, hs => steps_lt hq k _ (halveN_lt hs hq)
theorem byteOn_ok (hs : s < 4294967296) (hc : c < 256) (hq : q < 4294967296) (hk : R (.int .u32 (byteN s c q : Int)) h) : Cl 334 #[.int .u32 (s : Int), .int .u8 (c : Int), .int .u32 (q : Int)] h R := by
  have hx := Nat.xor_lt_two_pow (n := 32) (x := s) (y := c) hs (by omega)
  refine sums_byteOn.walk ⟨fun z t g => g = h ∧ ∃ i : Nat, t = (i : Int) ∧ i ≤ 8 ∧ z = (stepsN q i (s ^^^ c) : Int), fun _ t _ => 8 - t.toNat, ⟨rfl, 0, rfl, by omega, ?_⟩, ?_⟩
  · rw [wu32 (n := c) (by omega), xor32 hs (by omega)]; rfl
  rintro _ _ _ ⟨rfl, i, rfl, hi, rfl⟩
  have hl := steps_lt hq i (s ^^^ c) hx
  by_cases c1 : i < 8
  · rw [if_pos (decide_eq_true (by omega))]
    refine halve_ok hl hq ⟨_, rfl, ?_⟩
    rw [wrap_id (by omega) (by omega), ← steps_succ]
    exact ⟨⟨rfl, i + 1, by omega, by omega, rfl⟩, by show 8 - Int.toNat ((i : Int) + 1) < 8 - Int.toNat (i : Int); omega⟩
  · rw [if_neg (fun e => c1 (by have := of_decide_eq_true e; omega))]
    obtain rfl : i = 8 := by omega
    exact hk
theorem runN_lt (hq : q < 4294967296) : ∀ (b : List UInt8) (s : Nat), s < 4294967296 → runN s b q < 4294967296
  | [], _, hs => hs
  | c :: b, s, hs => runN_lt hq b _ (steps_lt hq 8 _ (Nat.xor_lt_two_pow (n := 32) hs (by have := c.toNat_lt; omega)))
theorem run_ok (hs : s < 4294967296) (hq : q < 4294967296) (row : Row h p (bc bs)) (hl : l = bs.length) (hlen : bs.length ≤ 100000000) (hk : R (.int .u32 (runN s bs q : Int)) h) : Cl 281 #[.int .u32 (s : Int), .slice p l c, .int .u32 (q : Int)] h R := by
  subst hl
  refine sums_run.walk ⟨fun z t g => g = h ∧ ∃ i : Nat, t = (i : Int) ∧ i ≤ bs.length ∧ z = (runN s (bs.take i) q : Int), fun _ t _ => bs.length - t.toNat, ⟨rfl, 0, rfl, by omega, by rw [List.take_zero]; rfl⟩, ?_⟩
  rintro _ _ _ ⟨rfl, i, rfl, hi, rfl⟩
  by_cases c1 : i < bs.length
  · rw [if_pos (decide_eq_true (by omega))]
    obtain ⟨a, rfl, cx⟩ := byte_at row c1
    refine ⟨⟨by omega, by omega⟩, onSome_some.2 ⟨_, by rw [Int.toNat_natCast]; exact cx, byteOn_ok (runN_lt hq _ _ hs) (bs[i]).toNat_lt hq ⟨_, rfl, ?_⟩⟩⟩
    rw [wrap_id (by omega) (by omega)]
    refine ⟨⟨rfl, i + 1, by omega, by omega, ?_⟩, by show bs.length - Int.toNat ((i : Int) + 1) < bs.length - Int.toNat (i : Int); omega⟩
    rw [List.take_add_one, List.getElem?_eq_getElem c1]
    unfold runN
    rw [List.foldl_append]; rfl
  · rw [if_neg (fun e => c1 (by have := of_decide_eq_true e; omega))]
    rw [List.take_of_length_le (by omega)]
    exact hk
theorem long_ok (row : Row h p (bc bs)) (hl : l = bs.length) (hlen : bs.length ≤ 100000000) (hk : R (.int .u32 (longN bs : Int)) h) : Cl 229 #[.slice p l c] h R := by
  refine sums_Long.walk (run_ok (s := 4294967295) (q := 2197175160) (by decide) (by decide) row hl hlen ⟨_, rfl, ?_⟩)
  have := xor32 (a := 4294967295) (b := runN 4294967295 bs 2197175160) (by decide) (runN_lt (by decide) _ _ (by decide))
  rw [show (IntKind.max .u32) = ((4294967295 : Nat) : Int) from rfl, this]
  exact hk
theorem longN_lt (b : List UInt8) : longN b < 4294967296 := Nat.xor_lt_two_pow (n := 32) (by decide) (runN_lt (by decide) _ _ (by decide))

end Bt
end
section
namespace Dsk
structure DS where
  L : List (List UInt8)
  W : List (Nat × List UInt8)
structure DS.ok (s : DS) (m : Nat) : Prop where
  n : s.L.length = m
  l : ∀ b ∈ s.L, b.length = 128
  w : ∀ x ∈ s.W, x.1 < m ∧ x.2.length = 128
def lastW (i : Nat) : List (Nat × List UInt8) → List UInt8 → List UInt8
  | [], b => b
  | w :: W, b => lastW i W (if w.1 = i then w.2 else b)
def DS.get (s : DS) (i : Nat) : List UInt8 := lastW i s.W (s.L.getD i [])
def DS.put (s : DS) (i : Nat) (b : List UInt8) : DS := ⟨s.L, s.W ++ [(i, b)]⟩
def DS.sync (s : DS) : DS := ⟨s.W.foldl (fun L w => L.set w.1 w.2) s.L, []⟩
def zeroS : List UInt8 := List.replicate 128 0
def newD (n : Nat) : DS := ⟨List.replicate n zeroS, []⟩
variable {s : DS} {n i : Nat} {b : List UInt8}
theorem newD_ok (n : Nat) : (newD n).ok n := ⟨by simp [newD], fun b hb => by rw [(List.mem_replicate.1 hb).2]; simp [zeroS], fun x hx => by cases hx⟩
theorem DS.ok.put (H : s.ok n) (hi : i < n) (hb : b.length = 128) : (s.put i b).ok n := ⟨H.n, H.l, fun x hx => by
  rcases List.mem_append.1 hx with a | a
  · exact H.w x a
  · rw [List.mem_singleton.1 a]; exact ⟨hi, hb⟩⟩
theorem sync_ok : ∀ (W : List (Nat × List UInt8)) (L : List (List UInt8)), (⟨L, W⟩ : DS).ok n → (∀ b ∈ W.foldl (fun L w => L.set w.1 w.2) L, b.length = 128) ∧ (W.foldl (fun L w => L.set w.1 w.2) L).length = n
  | [], L, H => ⟨H.l, H.n⟩
  | w :: W, L, H => sync_ok W (L.set w.1 w.2) ⟨by rw [List.length_set]; exact H.n, fun b hb => by
      rcases List.mem_or_eq_of_mem_set hb with a | a
      · exact H.l b a
      · rw [a]; exact (H.w w List.mem_cons_self).2, fun x hx => H.w x (List.mem_cons_of_mem _ hx)⟩
theorem DS.ok.sync (H : s.ok n) : s.sync.ok n := ⟨(sync_ok s.W s.L H).2, (sync_ok s.W s.L H).1, fun x hx => by cases hx⟩
theorem lastW_snoc {i : Nat} {w : Nat × List UInt8} : ∀ (W : List (Nat × List UInt8)) (b : List UInt8), lastW i (W ++ [w]) b = if w.1 = i then w.2 else lastW i W b
  | [], b => rfl
  | v :: W, b => by
    rw [List.cons_append]
    unfold lastW
    exact lastW_snoc W _
def fit (b : List UInt8) : List UInt8 := (b ++ zeroS).take 128
theorem fit_len (b : List UInt8) : (fit b).length = 128 := by
  unfold fit zeroS
  rw [List.length_take, List.length_append, List.length_replicate]
  omega
theorem fit_id (h : b.length = 128) : fit b = b := by
  unfold fit
  rw [List.take_append, List.take_of_length_le (by omega), show 128 - b.length = 0 by omega, List.take_zero, List.append_nil]
def senc (b : List UInt8) : List Value := bc (fit b)
def wenc (w : Nat × List UInt8) : List Value := .int .i64 (w.1 : Int) :: bc (fit w.2)
theorem senc_len (b : List UInt8) : (senc b).length = 128 := by unfold senc; rw [bc_len, fit_len]
theorem wenc_len (w : Nat × List UInt8) : (wenc w).length = 129 := by unfold wenc; rw [List.length_cons, bc_len, fit_len]
theorem wenc_one (w : Nat × List UInt8) : ∀ v ∈ wenc w, oneCell v = true := fun v hv => by
  rcases List.mem_cons.1 hv with rfl | a
  · rfl
  · exact bc_one _ v a
theorem flat_zero (n : Nat) : (List.replicate n zeroS).flatMap senc = List.replicate (n * 128) (.int .u8 0) := by
  have e : senc zeroS = List.replicate 128 (.int .u8 0) := by kernel_rfl
  induction n with
  | zero => simp
  | succ n ih => rw [List.replicate_succ, List.flatMap_cons, ih, e, List.replicate_append_replicate]; congr 1; omega
end Dsk
end
section
variable {h:Heap} {R:TyP}
variable {d:Nat} {n i:Int} {a:Addr}
abbrev disk_Disk.atp (h : Heap) (b : Nat) (x : disk_Disk.S) : Prop := h[b]? = some (.cells x.arr 59 (0, 0))
theorem disk_Disk.boxp {x : disk_Disk.S} {K : Nat → Heap → Prop} (hk : ∀ b h', b = h.size → disk_Disk.atp h' b x → Fr No h h' → K b h') : NewP h (.cells x.arr 59) fun b h_0 => K b h_0 :=
  newP_of (hk _ _ rfl push_new (Fr.push _ _))
theorem disk_Disk_Sectors.walk (hv :
 ∃ t8_p t8_l t8_c, hcell h ⟨d, 0, none⟩ = some (.slice t8_p t8_l t8_c) ∧
 R (.int .i64 ((t8_l : Nat) : Int)) h) : Cl 17 #[.pointer (some ⟨d, 0, none⟩)] h R :=
 callsN [] hv
theorem disk_Disk_Sectors.nil.walk  (hv :
 R (.int .i64 0) h) : Cl 17 #[.pointer none] h R :=
 callsN [] hv
theorem disk_New.walk (hv :
 JoinP (fun (t9 : Bool) h_1 =>
 ite t9
 (  R (.tuple #[.pointer none, .int .i64 1]) h_1)
 (  Dsz (Instr.makeSlice 51 (.int .i64 n) (.int .i64 n)) h_1 fun v h_2 =>
 ∃ t11_p t11_l t11_c, v = .slice t11_p t11_l t11_c ∧
 NewP h_2 (.cells #[.slice t11_p t11_l t11_c, .slice none 0 0, .int .i64 0, .int .i64 0] 59) fun b h_3 =>
 R (.tuple #[.pointer (some ⟨b, 0, none⟩), .int .i64 0]) h_3))
 (fun J =>
 ite (decide (n < 4))
 (  J true h)
 (  J (decide (n > 4096)) h))) : Cl 4 #[.int .i64 n] h R :=
 callsN [(4, .join [(9, sB)])] hv
theorem disk_Disk_ask.walk (hv :
 Cl 17 #[.pointer (some ⟨d, 0, none⟩)] h fun v h_1 =>
 ∃ t7, v = .int .i64 t7 ∧
 ite (t7 == 0)
 (  R (.int .i64 6) h_1)
 (  JoinP (fun (t9 : Bool) h_2 =>
 ite t9
 (  R (.int .i64 1) h_2)
 (  R (.int .i64 0) h_2))
 (fun J =>
 ite (decide (i < 0))
 (  J true h_1)
 (  ∃ t17_p t17_l t17_c, hcell h_1 ⟨d, 0, none⟩ = some (.slice t17_p t17_l t17_c) ∧
 J (decide (i ≥ ((t17_l : Nat) : Int))) h_1)))) : Cl 209 #[.pointer (some ⟨d, 0, none⟩), .int .i64 i] h R :=
 callsN [(11, .join [(9, sB)])] hv
theorem disk_Disk_Write.walk {b_p : Option Addr} {b_l b_c : Nat} (hv :
 Cl 209 #[.pointer (some ⟨d, 0, none⟩), .int .i64 i] h fun v h_1 =>
 ∃ t10, v = .int .i64 t10 ∧
 ite (t10 != 0)
 (  R (.int .i64 t10) h_1)
 (  ite (((b_l : Nat) : Int) != 128)
 (  R (.int .i64 3) h_1)
 (  ∃ t21_p t21_l t21_c, hcell h_1 ⟨d, 1, none⟩ = some (.slice t21_p t21_l t21_c) ∧
 128 ≤ b_l ∧
 onSome b_p fun a =>
 LoadB h_1 a (List.replicate 128 (.int .u8)) fun t25 =>
 exs ([.int .i64] ++ List.replicate 128 (.int .u8)) fun t26 =>
 BuildV Tryz.prog 114 #[(0, .int .i64 i), (1, .agg t25.toArray)] (.agg t26.toArray) ∧
 Dsz (Instr.buildSlice 52 1 #[(0, .agg t26.toArray)]) h_1 fun v_1 h_2 =>
 ∃ t27_p t27_l t27_c, v_1 = .slice t27_p t27_l t27_c ∧
 Kp h_1 h_2 [b_p, (some ⟨d, 1, none⟩)] ∧
 Dsz (Builtin.append_ #[52, 52] 52 #[.slice t21_p t21_l t21_c, .slice t27_p t27_l t27_c]) h_2 fun v_2 h_3 =>
 ∃ t28_p t28_l t28_c, v_2 = .slice t28_p t28_l t28_c ∧
 Kp h_2 h_3 [b_p] ∧
 StoreP h_3 ⟨d, 1, none⟩ (.slice t28_p t28_l t28_c) fun h_4 =>
 Cl 172 #[.pointer (some ⟨d, 2, none⟩), .int .i64 1] h_4 fun v_3 h_5 =>
 ∃ t34, v_3 = .int .i64 t34 ∧
 R (.int .i64 0) h_5))) : Cl 171 #[.pointer (some ⟨d, 0, none⟩), .int .i64 i, .slice b_p b_l b_c] h R :=
 callsN [(21, fun _ => .planK (runP 15 0 .done))] hv
theorem disk_Disk_Read.walk (hv :
 Cl 209 #[.pointer (some ⟨d, 0, none⟩), .int .i64 i] h fun v h_1 =>
 ∃ t12, v = .int .i64 t12 ∧
 ite (t12 != 0)
 (  R (.tuple #[.slice none 0 0, .int .i64 t12]) h_1)
 (  ∃ t19_p t19_l t19_c, hcell h_1 ⟨d, 0, none⟩ = some (.slice t19_p t19_l t19_c) ∧
 ((0 : Int) ≤ i ∧ i < ((t19_l : Nat) : Int)) ∧
 onSome t19_p fun a =>
 LoadB h_1 (a.add (Int.toNat i * 128)) (List.replicate 128 (.int .u8)) fun t22 =>
 NewP h_1 (.cells ((List.replicate 128 (.int .u8 0) : List Value)).toArray 112) fun b h_2 =>
 t22.length = 128 ∧ storeL ⟨b, 0, none⟩ t22 0 h_2 fun h_3 =>
 ∃ t26_p t26_l t26_c, hcell h_3 ⟨d, 1, none⟩ = some (.slice t26_p t26_l t26_c) ∧
 ∃ (I : Int → Heap → Prop) (mu : Int → Heap → Nat), I 0 h_3 ∧ ∀ t28 h_4, I t28 h_4 →
 ite (decide (t28 < ((t26_l : Nat) : Int)))
 (  JoinP (fun h_5 =>
 (I (IntKind.wrap .i64 (t28 + 1)) h_5 ∧ mu (IntKind.wrap .i64 (t28 + 1)) h_5 < mu t28 h_4))
 (fun J =>
 ((0 : Int) ≤ t28 ∧ t28 < ((t26_l : Nat) : Int)) ∧
 onSome t26_p fun a_1 =>
 LoadB h_4 (a_1.add (Int.toNat t28 * 129)) ([.int .i64] ++ List.replicate 128 (.int .u8)) fun t31 =>
 NewP h_4 (.cells (([.int .i64 0] ++ List.replicate 128 (.int .u8 0) : List Value)).toArray 114) fun b_1 h_6 =>
 t31.length = 129 ∧ storeL ⟨b_1, 0, none⟩ t31 0 h_6 fun h_7 =>
 ∃ t33, hcell h_7 ⟨b_1, 0, none⟩ = some (.int .i64 t33) ∧
 JoinP (fun h_8 =>
 J h_8)
 (fun J_1 =>
 ite (t33 == i)
 (  LoadB h_7 ⟨b_1, 1, none⟩ (List.replicate 128 (.int .u8)) fun t37 =>
 t37.length = 128 ∧ storeL ⟨b, 0, none⟩ t37 0 h_7 fun h_9 =>
 J_1 h_9)
 (  J_1 h_7))))
 (  R (.tuple #[.slice (slBase (some ⟨b, 0, none⟩) 128 0 1) (128 - 0) (128 - 0), .int .i64 0]) h_4))) : Cl 152 #[.pointer (some ⟨d, 0, none⟩), .int .i64 i] h R :=
 callsN [(18, .loop [(28, sI)]), (26, .join []), (31, .join [])] hv
theorem disk_Disk_Sync.walk (hv :
 Cl 17 #[.pointer (some ⟨d, 0, none⟩)] h fun v h_1 =>
 ∃ t6, v = .int .i64 t6 ∧
 ite (t6 == 0)
 (  R (.int .i64 6) h_1)
 (  ∃ t11_p t11_l t11_c, hcell h_1 ⟨d, 1, none⟩ = some (.slice t11_p t11_l t11_c) ∧
 ∃ (I : Int → Heap → Prop) (mu : Int → Heap → Nat), I 0 h_1 ∧ ∀ t13 h_2, I t13 h_2 →
 ite (decide (t13 < ((t11_l : Nat) : Int)))
 (  ((0 : Int) ≤ t13 ∧ t13 < ((t11_l : Nat) : Int)) ∧
 onSome t11_p fun a =>
 LoadB h_2 (a.add (Int.toNat t13 * 129)) ([.int .i64] ++ List.replicate 128 (.int .u8)) fun t16 =>
 NewP h_2 (.cells (([.int .i64 0] ++ List.replicate 128 (.int .u8 0) : List Value)).toArray 114) fun b h_3 =>
 t16.length = 129 ∧ storeL ⟨b, 0, none⟩ t16 0 h_3 fun h_4 =>
 ∃ t20_p t20_l t20_c, hcell h_4 ⟨d, 0, none⟩ = some (.slice t20_p t20_l t20_c) ∧
 ∃ t22, hcell h_4 ⟨b, 0, none⟩ = some (.int .i64 t22) ∧
 LoadB h_4 ⟨b, 1, none⟩ (List.replicate 128 (.int .u8)) fun t24 =>
 ((0 : Int) ≤ t22 ∧ t22 < ((t20_l : Nat) : Int)) ∧
 onSome t20_p fun a_1 =>
 t24.length = 128 ∧ storeL (a_1.add (Int.toNat t22 * 128)) t24 0 h_4 fun h_5 =>
 (I (IntKind.wrap .i64 (t13 + 1)) h_5 ∧ mu (IntKind.wrap .i64 (t13 + 1)) h_5 < mu t13 h_2))
 (  StoreP h_2 ⟨d, 1, none⟩ (.slice none 0 0) fun h_6 =>
 Cl 172 #[.pointer (some ⟨d, 3, none⟩), .int .i64 1] h_6 fun v_1 h_7 =>
 ∃ t33, v_1 = .int .i64 t33 ∧
 R (.int .i64 0) h_7))) : Cl 120 #[.pointer (some ⟨d, 0, none⟩)] h R :=
 callsN [(14, .loop [(13, sI)]), (25, fun _ => .planK (runP 10 0 .done))] hv
theorem sync_atomic_Int64_Add.a.walk {x : Addr} {delta : Int} (hv :
 Dsz (callFunc 230 #[.pointer (some x), .int .i64 delta]) h fun nx h_1 =>
 onVal nx fun v =>
 ∃ t9, v = .int .i64 t9 ∧
 R (.int .i64 t9) h_1) : Cl 172 #[.pointer (some x), .int .i64 delta] h R :=
 callsN [] hv
theorem find_add : Extern.find Tryz.f230 = some (Extern.Atomic.update (Op.intArith .add) .i64 true) := by kernel_rfl
theorem findNext_add : (Extern.findNext Tryz.f230).isNone = true := by kernel_rfl
theorem den_add {δ:Int} {K : Next → Heap → Prop} (hc : hcell h a = some (.int .i64 n))
    (hk : StoreP h a (.int .i64 (IntKind.wrap .i64 (n + δ))) fun h' => K (.value (.int .i64 (IntKind.wrap .i64 (n + δ)))) h') :
    denSem Tryz.prog (callFunc 230 #[.pointer (some a), .int .i64 δ]) h K := by
  have e1 : Tryz.prog.funcs[230]? = some Tryz.f230 := Tryz.func230
  have e2 : Extern.findNext Tryz.f230 = none := Option.isNone_iff_eq_none.1 findNext_add
  have ⟨k1, k2, k3⟩ := hk
  unfold callFunc
  refine den_of_rd (s := program) (a := Tryz.prog) rfl ?_
  rw [e1]
  dsimp only
  rw [if_neg (by decide +kernel), if_pos (by kernel_rfl)]
  refine den_of_rd (s := mark (Mark.extern 230)) (a := ()) rfl ?_
  rw [e2, find_add]
  dsimp only
  rw [den_bind]
  refine ⟨.int .i64 n, hc, ?_⟩
  exact ⟨rfl, k1, k2, k3 _ rfl⟩
theorem add_ok {δ:Int} (hc : hcell h a = some (.int .i64 n)) (hk : StoreP h a (.int .i64 (IntKind.wrap .i64 (n + δ))) fun h' => R (.int .i64 (IntKind.wrap .i64 (n + δ))) h') :
    Cl 172 #[.pointer (some a), .int .i64 δ] h R :=
  sync_atomic_Int64_Add.a.walk (den_add hc (by
    obtain ⟨k1, k2, k3⟩ := hk
    exact ⟨k1, k2, fun h' e => ⟨_, rfl, k3 h' e⟩⟩))

end
end Go.Proofs.YtmoafceggjgecaaGreatDoor
namespace Go.Den
section
variable {P : Program}
def fsOf (P : Program) (t : TypeId) : Array Field := match P.underlying t with | some (.struct fs) => fs | _ => #[]
theorem loadB_bc {h : Heap} {a : Addr} {bs : List UInt8} {n : Nat} {F : List Value → Prop} (hn : bs.length = n) (hh : heldL a (bc bs) 0 h) (hF : F (bc bs)) : LoadB h a (List.replicate n (.int .u8)) F := ⟨loadL_u8 hn hh hF⟩
theorem den_buildOne {t elem : TypeId} {sz bytes : Nat} {z v : Value} {h : Heap} {K : Value → Heap → Prop} (T : SlTy P t elem sz bytes z) (h0 : 0 < sz) (hz : sz ≤ 16777216) (hv : v.cells.size = sz)
    (hk : ∀ b h', b = h.size → h'[b]? = some (.cells v.cells elem (0, 0)) → Fr No h h' → K (.slice (some ⟨b, 0, none⟩) 1 1) h') : denSem P (Instr.buildSlice t 1 #[(0, v)]) h K := by
  obtain ⟨i, hi, hsz, rfl, hzz⟩ := T.i
  unfold Instr.buildSlice
  refine den_of_rd (s := underlying t) (rd_underlying T.u) ?_
  simp only []
  refine den_of_rd (s := sizeOf elem) (rd_sizeOf hi) ?_
  rw [hsz]
  rw [if_neg (by omega)]
  rw [if_neg (by omega)]
  refine den_of_rd (s := zeroValue elem) (rd_zeroValue hi hzz) ?_
  refine den_of_rd (s := (pure z.cells : Sem (Array Value))) (a := z.cells) rfl ?_
  obtain ⟨c', d1, d2, d3, d4⟩ := fold_set v.cells.toList 0 ((Array.range (1 * sz)).map fun x => z.cells[x % z.cells.size]!) 0 (by simp; omega)
  have e5 : Instr.fill (fun i => some (i * sz, sz)) ((Array.range (1 * sz)).map fun x => z.cells[x % z.cells.size]!) [(0, v)] = some v.cells := by
    rw [fill_cons (off := 0) (size := sz) (by simp) hv (by simp; omega)]
    show some (Array.foldl (fun (cs : Array Value) (x : Value × Nat) => cs.setIfInBounds (0 + x.2) x.1) ((Array.range (1 * sz)).map fun x => z.cells[x % z.cells.size]!) v.cells.zipIdx) = _
    rw [← Array.foldl_toList, Array.toList_zipIdx, d1]
    congr 1
    refine Array.ext_getElem? fun j => ?_
    by_cases hj : j < v.cells.toList.length
    · have := d3 j hj
      rw [show 0 + 0 + j = j by omega] at this
      rw [this]; simp
    · rw [Array.getElem?_eq_none (by rw [d2]; simp at hj ⊢; omega), Array.getElem?_eq_none (by simpa using hj)]
  show denSem P (match Instr.fill _ _ [(0, v)] with | some cells => _ | _ => _) h K
  rw [e5]
  exact hk _ _ rfl push_new (Fr.push _ _)
theorem exs_w {w : Nat × List UInt8} {F : List Value → Prop} {vs : List Value} (e : vs = .int .i64 (w.1 : Int) :: bc w.2) (hl : w.2.length = 128) (hF : F vs) : exs ([.int .i64] ++ List.replicate 128 (.int .u8)) F := by
  subst e
  refine ⟨(w.1 : Int), ?_⟩
  have := exs_u8 w.2 (fun vs => F (.int .i64 (w.1 : Int) :: vs)) hF
  rw [hl] at this
  exact this
theorem newB {h : Heap} {c : Array Value} {t : TypeId} {vs : List Value} {m : Nat} {K : Nat → Heap → Prop} (hm : vs.length = m) (hl : vs.length = c.size) (hv : ∀ v ∈ vs, oneCell v = true)
    (hk : ∀ b h', b = h.size → h'[b]? = some (.cells vs.toArray t (0, 0)) → Fr No h h' → K b h') : NewP h (.cells c t) fun b h0 => vs.length = m ∧ storeL ⟨b, 0, none⟩ vs 0 h0 (K b) := fun b h' e1 e2 => ⟨hm, new_full hl (List.all_eq_true.2 hv) hk b h' e1 e2⟩
end
end Go.Den
namespace Go.Proofs.YtmoafceggjgecaaGreatDoor
open Go.Den
namespace Dsk
variable {h h' : Heap} {R : Value → Heap → Prop} {d n i : Nat} {X : Ft} {s : DS}
structure DkA (h : Heap) (d : Nat) (X : Ft) (n : Nat) (s : DS) (lp wp : Option Addr) (wc : Nat) (a b : Int) : Prop where
  blk : disk_Disk.atp h d ⟨lp, n, n, wp, s.W.length, wc, a, b⟩
  l : Own h lp n n 128 (s.L.flatMap senc)
  w : Own h wp s.W.length wc 129 (s.W.flatMap wenc)
  ok : s.ok n
  m : ∀ y, X.M y ↔ y = d ∨ inBlk lp y ∨ inBlk wp y
  dd : ∀ y, ¬ X.D y
  d1 : ¬ inBlk lp d
  d2 : ¬ inBlk wp d
  lw : ∀ y, inBlk lp y → ¬ inBlk wp y
def Dk (h : Heap) (d : Nat) (X : Ft) (n : Nat) (s : DS) : Prop := ∃ lp wp wc a b, DkA h d X n s lp wp wc a b
theorem Dk.lt (H : Dk h d X n s) (y : Nat) (hy : X.M y) : y < h.size := by
  obtain ⟨lp, wp, wc, a, b, A⟩ := H
  rcases (A.m y).1 hy with rfl | q | q
  · exact lt_of_get A.blk
  · exact A.l.blk_lt q
  · exact A.w.blk_lt q
theorem Dk.frame {Q : Nat → Prop} (H : Dk h d X n s) (f : Fr Q h h') (hq : ∀ y, X.M y → ¬ Q y) : Dk h' d X n s := by
  obtain ⟨lp, wp, wc, a, b, A⟩ := H
  exact ⟨lp, wp, wc, a, b, f.get A.blk (hq d ((A.m d).2 (.inl rfl))), A.l.frame f (fun y q => hq y ((A.m y).2 (.inr (.inl q)))), A.w.frame f (fun y q => hq y ((A.m y).2 (.inr (.inr q)))), A.ok, A.m, A.dd, A.d1, A.d2, A.lw⟩
theorem Dk.on (H : Dk h d X n s) (f : Fr No h h') : Dk h' d X n s := H.frame f (fun _ _ => id)
theorem Dk.ok (H : Dk h d X n s) : s.ok n := by obtain ⟨_, _, _, _, _, A⟩ := H; exact A.ok
theorem Dk.nd (H : Dk h d X n s) (y : Nat) : ¬ X.D y := by obtain ⟨_, _, _, _, _, A⟩ := H; exact A.dd y
theorem tS : SlTy Tryz.prog 51 112 128 128 (.agg (Array.replicate 128 (.int .u8 0))) := ⟨by kernel_rfl, by kernel_rfl, by simp [Value.cells]⟩
theorem tW : SlTy Tryz.prog 52 114 129 136 (.agg (((.int .i64 0 : Value) :: List.replicate 128 (.int .u8 0)).toArray)) := ⟨by kernel_rfl, by kernel_rfl, by simp [Value.cells]⟩
theorem uW : Tryz.prog.underlying 52 = some (.slice 114) := by kernel_rfl
theorem new_ok (h4 : 4 ≤ n) (h5 : n ≤ 4096) (hk : ∀ h' d X, Dk h' d X n (newD n) → UpF h X h' → R (.tuple #[pt d, .int .i64 0]) h') : Cl 4 #[.int .i64 (n : Int)] h R := by
  refine disk_New.walk (JoinP.of fun J hJ => ?_)
  rw [if_neg (by simp; omega), decide_eq_false (by omega)]
  subst hJ
  dsimp only
  rw [if_neg (by decide)]
  refine den_makeN tS rfl (by omega) n (by omega) (by omega) fun h1 p o f g => ⟨_, _, _, rfl, disk_Disk.boxp (x := ⟨p, n, n, none, 0, 0, 0, 0⟩) fun b h2 eb hb f2 => ?_⟩
  have np : ¬ inBlk p b := fun q => by have := o.blk_lt q; omega
  refine hk h2 b ⟨fun y => y = b ∨ inBlk p y, fun _ => False⟩ ⟨p, none, 0, 0, 0, hb, ?_, .nil rfl rfl rfl rfl, newD_ok n, fun y => ⟨fun q => q.imp id .inl, fun q => q.imp id fun q => q.resolve_right fun ⟨a, e, _⟩ => by cases e⟩, fun _ => id, np, (fun ⟨a, e, _⟩ => by cases e), (fun y _ ⟨a, e, _⟩ => by cases e)⟩ ⟨f.tt f2, fun y hy => ?_⟩
  · show Own h2 p n n 128 ((List.replicate n zeroS).flatMap senc)
    rw [flat_zero]
    exact o.frame f2 (fun _ _ => id)
  · have z := f.1
    rcases hy with (rfl | q) | q
    · omega
    · exact g y q
    · exact q.elim
theorem sectors_ok (H : Dk h d X n s) (hk : R (.int .i64 (n : Int)) h) : Cl 17 #[pt d] h R := by
  obtain ⟨lp, wp, wc, a, b, A⟩ := H
  exact disk_Disk_Sectors.walk ⟨_, _, _, cell_at A.blk rfl, hk⟩
theorem ask_ok (H : Dk h d X n s) (hi : i < n) (hk : R (.int .i64 0) h) : Cl 209 #[pt d, .int .i64 (i : Int)] h R := by
  refine disk_Disk_ask.walk (sectors_ok H ⟨_, rfl, ?_⟩)
  rw [if_neg (by simp; omega)]
  refine JoinP.of fun J hJ => ?_
  rw [if_neg (by simp)]
  obtain ⟨lp, wp, wc, a, b, A⟩ := H
  refine ⟨_, _, _, cell_at A.blk rfl, ?_⟩
  rw [decide_eq_false (by show ¬ ((i : Int) ≥ ((n : Nat) : Int)); omega)]
  subst hJ
  dsimp only
  rw [if_neg (by decide)]
  exact hk
theorem sec_at {L : List (List UInt8)} (ok : ∀ b ∈ L, b.length = 128) (hi : i < L.length) : ∃ b, L[i]? = some b ∧ L.getD i [] = b ∧ b.length = 128 ∧ senc b = bc b := by
  refine ⟨L[i], List.getElem?_eq_getElem hi, ?_, ok _ (List.getElem_mem _), ?_⟩
  · rw [List.getD_eq_getElem?_getD, List.getElem?_eq_getElem hi]; rfl
  · unfold senc; rw [fit_id (ok _ (List.getElem_mem _))]
theorem wait_at {W : List (Nat × List UInt8)} (ok : ∀ x ∈ W, x.1 < n ∧ x.2.length = 128) (hi : i < W.length) : ∃ w, W[i]? = some w ∧ w.1 < n ∧ w.2.length = 128 ∧ wenc w = .int .i64 (w.1 : Int) :: bc w.2 := by
  have h1 := ok _ (List.getElem_mem hi)
  exact ⟨W[i], List.getElem?_eq_getElem hi, h1.1, h1.2, by unfold wenc; rw [fit_id h1.2]⟩
theorem loadB_w {a : Addr} {w : Nat × List UInt8} {F : List Value → Prop} (e : wenc w = .int .i64 (w.1 : Int) :: bc w.2) (hl : w.2.length = 128) (hh : heldL a (wenc w) 0 h) (hF : F (wenc w)) : LoadB h a ([.int .i64] ++ List.replicate 128 (.int .u8)) F := by
  rw [e] at hh hF
  refine ⟨⟨_, hh.1, ?_⟩⟩
  have := loadL_bytes w.2 1 (fun vs => F (.int .i64 (w.1 : Int) :: vs)) hh.2 hF
  rw [hl] at this
  exact this
theorem wblk {g : Heap} {b1 : Nat} {w : Nat × List UInt8} {t : TypeId} (e : wenc w = .int .i64 (w.1 : Int) :: bc w.2) (hb : g[b1]? = some (.cells (wenc w).toArray t (0, 0))) : hcell g ⟨b1, 0, none⟩ = some (.int .i64 (w.1 : Int)) ∧ heldL ⟨b1, 1, none⟩ (bc w.2) 0 g := by
  rw [e] at hb
  refine ⟨cell_at hb rfl, heldL_blk hb fun j v hj => ?_⟩
  rw [Nat.add_comm]
  simpa using hj
theorem read_ok (H : Dk h d X n s) (hi : i < n) (hw : s.W.length ≤ 1000000) (hk : ∀ h' p, Own h' p 128 128 1 (bc (s.get i)) → (∀ y, inBlk p y → h.size ≤ y) → Fr No h h' → R (.tuple #[.slice p 128 128, .int .i64 0]) h') :
    Cl 152 #[pt d, .int .i64 (i : Int)] h R := by
  refine disk_Disk_Read.walk (ask_ok H hi ⟨_, rfl, ?_⟩)
  rw [if_neg (by decide)]
  obtain ⟨lp, wp, wc, a, b, A⟩ := H
  obtain ⟨lb, lo, rfl⟩ := A.l.addr (by omega)
  obtain ⟨sec, e1, e2, e3, e4⟩ := sec_at A.ok.l (i := i) (by rw [A.ok.n]; exact hi)
  have hh := A.l.heldAt senc_len e1
  rw [e4] at hh
  refine ⟨_, n, n, cell_at A.blk rfl, ⟨by omega, by omega⟩, onSome_some.2 (loadB_bc e3 (by rw [Int.toNat_natCast]; exact hh) (newB (by rw [bc_len, e3]) (by rw [bc_len, e3]; simp) (bc_one _) fun b1 h1 eb hb f1 => ⟨wp, s.W.length, wc, cell_at (f1.get A.blk id) rfl, ?_⟩))⟩
  refine ⟨fun t g => ∃ j : Nat, t = (j : Int) ∧ j ≤ s.W.length ∧ (lastW i (s.W.take j) sec).length = 128 ∧ g[b1]? = some (.cells (bc (lastW i (s.W.take j) sec)).toArray 112 (0, 0)) ∧ Fr No h g, fun t _ => s.W.length - t.toNat, ⟨0, rfl, Nat.zero_le _, e3, hb, f1⟩, ?_⟩
  rintro _ g ⟨j, rfl, hj, hl, hg, fg⟩
  by_cases hlt : j < s.W.length
  · rw [if_pos (decide_eq_true (by omega))]
    refine JoinP.of fun J hJ => ⟨⟨by omega, by omega⟩, ?_⟩
    obtain ⟨w, w1, w2, w3, w4⟩ := wait_at A.ok.w hlt
    have ow := A.w.frame fg (fun _ _ => id)
    obtain ⟨wb, wo, rfl⟩ := ow.addr (by omega)
    have hw' := ow.heldAt wenc_len w1
    refine onSome_some.2 (loadB_w w4 w3 (by rw [Int.toNat_natCast]; exact hw') (newB (wenc_len w) (by rw [wenc_len]; simp) (wenc_one w) fun b2 h2 eb2 hb2 f2 => ?_))
    obtain ⟨c0, c1⟩ := wblk w4 hb2
    have hg2 := f2.get hg id
    have fin : ∀ g', g'[b1]? = some (.cells (bc (lastW i (s.W.take (j + 1)) sec)).toArray 112 (0, 0)) → (lastW i (s.W.take (j + 1)) sec).length = 128 → Fr No h g' → J g' := fun g' q1 q2 q3 => by
      subst hJ
      dsimp only
      rw [wrap_id (by omega) (by omega)]
      exact ⟨⟨j + 1, rfl, by omega, q2, q1, q3⟩, by show s.W.length - Int.toNat ((j : Int) + 1) < s.W.length - Int.toNat (j : Int); omega⟩
    have el : lastW i (s.W.take (j + 1)) sec = if w.1 = i then w.2 else lastW i (s.W.take j) sec := by rw [List.take_add_one, w1]; exact lastW_snoc _ _
    rw [el] at fin
    refine ⟨_, c0, JoinP.of fun J1 hJ1 => ?_⟩
    have e : J1 = J := hJ1
    subst e
    by_cases he : w.1 = i
    · rw [if_pos he] at fin
      rw [if_pos (beq_iff_eq.2 (by omega))]
      refine loadB_bc w3 c1 ⟨by rw [bc_len, w3], storeL_full hg2 (by rw [bc_len, w3]; simp [bc_len, hl]) (List.all_eq_true.2 (bc_one _)) fun h3 d1 d2 d3 => ?_⟩
      exact fin h3 d1 w3 ((fg.tt f2).fresh (Fr.of_eq (S := fun y => y = b1) d2 d3) (fun y e => by omega))
    · rw [if_neg he] at fin
      rw [if_neg (fun e => he (by have := beq_iff_eq.1 e; omega))]
      exact fin h2 hg2 hl (fg.tt f2)
  rw [if_neg (fun e => hlt (by have := of_decide_eq_true e; omega))]
  obtain rfl : j = s.W.length := by omega
  rw [List.take_length] at hl hg
  rw [slBase_zero]
  have eg : s.get i = lastW i s.W sec := by unfold DS.get; rw [e2]
  refine hk g _ (.row b1 0 _ _ rfl hg (Nat.le_refl _) (by simp [bc_len, hl]) (by rw [bc_len, eg, hl]) (fun k v hv => ?_)) (fun y ⟨a, ea, e⟩ => ?_) fg
  · rw [eg] at hv; rw [Nat.zero_add]; simpa using hv
  · cases ea; exact e ▸ Nat.le_of_eq eb.symm
theorem write_ok {b : List UInt8} {p : Option Addr} {c l : Nat} (H : Dk h d X n s) (hi : i < n) (row : Row h p (bc b)) (hl : l = b.length) (hb : b.length = 128) (hw : s.W.length ≤ 100000) (ap : ∀ y, inBlk p y → ¬ X.M y)
    (hk : ∀ h' X', Dk h' d X' n (s.put i b) → StepF X h X' h' → R (.int .i64 0) h') : Cl 171 #[pt d, .int .i64 (i : Int), .slice p l c] h R := by
  subst hl
  refine disk_Disk_Write.walk (ask_ok H hi ⟨_, rfl, ?_⟩)
  rw [if_neg (by decide), if_neg (by simp [hb])]
  obtain ⟨lp, wp, wc, x, y, A⟩ := H
  obtain ⟨a, rfl⟩ := row.some (by cases b with | nil => cases hb | cons u v => simp [bc])
  have rh : heldL a (bc b) 0 h := by
    rcases row with e | ⟨a', e, q⟩
    · cases b with | nil => cases hb | cons u v => cases e
    · cases e; exact q
  have ew : wenc (i, b) = .int .i64 (i : Int) :: bc b := by unfold wenc; rw [fit_id hb]
  refine ⟨wp, s.W.length, wc, cell_at A.blk rfl, by omega, onSome_some.2 (loadB_bc hb rh (exs_w (w := (i, b)) ew hb ⟨?_, ?_⟩))⟩
  · rw [ew]
    exact buildV_pair (fs := fsOf Tryz.prog 114) (f0 := (((fsOf Tryz.prog 114)[0]?).get (by kernel_rfl))) (f1 := (((fsOf Tryz.prog 114)[1]?).get (by kernel_rfl))) (i0 := (Tryz.prog.info? 3).get (by kernel_rfl)) (i1 := (Tryz.prog.info? 112).get (by kernel_rfl)) (it := (Tryz.prog.info? 114).get (by kernel_rfl)) (z := (((Tryz.prog.info? 114).bind (·.zero)).get (by kernel_rfl))) (by kernel_rfl) (by kernel_rfl) (by kernel_rfl) (by kernel_rfl) (by kernel_rfl) (by kernel_rfl) (by kernel_rfl) (by rw [bc_len, hb]; kernel_rfl) (by kernel_rfl) (by kernel_rfl) (by rw [bc_len, hb]; kernel_rfl) rfl
  refine den_buildOne tW (by omega) (by omega) (by simp [Value.cells, wenc_len]) fun b1 h1 eb hb1 f1 => ⟨_, _, _, rfl, ?_⟩
  refine ⟨f1.kp, den_append tW uW (A.w.frame f1 (fun _ _ => id)) (ds := wenc (i, b)) (.inr ⟨_, rfl, heldL_blk hb1 (fun j v hj => by rw [Nat.zero_add]; simpa [Value.cells] using hj)⟩) (by rw [wenc_len]) (wenc_one _) (by omega) (by omega) fun p' c' h2 o2 _ f2 g2 => ⟨_, _, _, rfl, ?_⟩⟩
  have z1 := f1.1
  have z2 := f2.1
  have nd : ∀ y, X.M y → y < h.size := fun y hy => Dk.lt ⟨lp, wp, wc, _, _, A⟩ y hy
  have hd := nd d ((A.m d).2 (.inl rfl))
  have b2 := f2.get (f1.get A.blk id) A.d2
  refine ⟨f2.kps (fun q hq u e hx => ?_), storeP_blk b2 (by show 1 < 4; omega) fun h3 d1 d2 d3 => ?_⟩
  · rw [List.mem_singleton] at hq
    subst hq
    cases e
    exact ap _ ⟨_, rfl, rfl⟩ ((A.m _).2 (.inr (.inr hx)))
  have f3 : Fr (fun y => y = d) h2 h3 := Fr.of_eq d2 d3
  have np : ∀ y, inBlk p' y → y ≠ d := fun y hy e => by
    rcases g2 y hy with q | q
    · exact A.d2 (e ▸ q)
    · omega
  refine add_ok (n := x) (δ := 1) (cell_at (show h3[d]? = some (.cells _ _ _) from d1) rfl) (storeP_blk d1 (by show 2 < 4; omega) fun h4 q1 q2 q3 => ⟨_, rfl, ?_⟩)
  have f4 : Fr (fun y => y = d) h2 h4 := f3.tt (Fr.of_eq q2 q3)
  have ll : ∀ y, inBlk lp y → y < h.size := fun y hy => A.l.blk_lt hy
  refine hk h4 ⟨fun y => y = d ∨ inBlk lp y ∨ inBlk p' y, fun _ => False⟩ ⟨lp, p', c', IntKind.wrap .i64 (x + 1), y, ?_, ?_, ?_, A.ok.put hi hb, fun y => Iff.rfl, fun _ => id, A.d1, fun q => np d q rfl, fun y q1 q2 => ?_⟩ ⟨?_, ?_, fun y hy => hy.elim, fun y hy => (A.dd y hy).elim⟩
  · show h4[d]? = some (.cells (disk_Disk.S.arr ⟨lp, n, n, p', (s.W ++ [(i, b)]).length, c', IntKind.wrap .i64 (x + 1), y⟩) _ _)
    rw [List.length_append]
    exact q1
  · refine ((A.l.frame f1 (fun _ _ => id)).frame f2 (fun y hy hq => A.lw y hy hq)).frame f4 (fun y hy e => A.d1 (e ▸ hy))
  · show Own h4 p' (s.W ++ [(i, b)]).length c' 129 ((s.W ++ [(i, b)]).flatMap wenc)
    rw [List.length_append, List.flatMap_append]
    have e : [(i, b)].flatMap wenc = wenc (i, b) := by simp
    rw [e]
    exact o2.frame f4 (fun y hy e => np y hy e)
  · rcases g2 y q2 with q | q
    · exact A.lw y q1 q
    · have := ll y q1; omega
  · refine (Fr.no f1 f2).trans f4 (fun y _ hy => (A.m y).2 (.inr (.inr hy))) (fun y _ hy => (A.m y).2 (.inl hy))
  · intro y hy
    rcases hy with q | q | q
    · exact .inl ((A.m y).2 (.inl q))
    · exact .inl ((A.m y).2 (.inr (.inl q)))
    · rcases g2 y q with q | q
      · exact .inl ((A.m y).2 (.inr (.inr q)))
      · exact .inr (by omega)
theorem DkA.fr {Q : Nat → Prop} {lp wp : Option Addr} {wc : Nat} {a b : Int} (A : DkA h d X n s lp wp wc a b) (f : Fr Q h h') (hq : ∀ y, X.M y → ¬ Q y) : DkA h' d X n s lp wp wc a b :=
  ⟨f.get A.blk (hq d ((A.m d).2 (.inl rfl))), A.l.frame f (fun y q => hq y ((A.m y).2 (.inr (.inl q)))), A.w.frame f (fun y q => hq y ((A.m y).2 (.inr (.inr q)))), A.ok, A.m, A.dd, A.d1, A.d2, A.lw⟩
theorem dsync_ok (H : Dk h d X n s) (hn : 0 < n) (hw : s.W.length ≤ 1000000) (hk : ∀ h' X', Dk h' d X' n s.sync → StepF X h X' h' → R (.int .i64 0) h') : Cl 120 #[pt d] h R := by
  refine disk_Disk_Sync.walk (sectors_ok H ⟨_, rfl, ?_⟩)
  rw [if_neg (by simp; omega)]
  obtain ⟨lp, wp, wc, x, y, A⟩ := H
  refine ⟨wp, s.W.length, wc, cell_at A.blk rfl, ?_⟩
  let fo : Nat → List (List UInt8) := fun j => (s.W.take j).foldl (fun L w => L.set w.1 w.2) s.L
  have A0 : DkA h d X n ⟨fo 0, s.W⟩ lp wp wc x y := A
  refine ⟨fun t g => ∃ j : Nat, t = (j : Int) ∧ j ≤ s.W.length ∧ DkA g d X n ⟨fo j, s.W⟩ lp wp wc x y ∧ Fr X.M h g, fun t _ => s.W.length - t.toNat, ⟨0, rfl, Nat.zero_le _, A0, Fr.refl _ _⟩, ?_⟩
  rintro _ g ⟨j, rfl, hj, B, fg⟩
  have zlt : ∀ z, X.M z → z < g.size := fun z hz => Dk.lt ⟨lp, wp, wc, _, _, B⟩ z hz
  by_cases hlt : j < s.W.length
  · rw [if_pos (decide_eq_true (by omega))]
    refine ⟨⟨by omega, by omega⟩, ?_⟩
    obtain ⟨w, w1, w2, w3, w4⟩ := wait_at A.ok.w hlt
    have ow : Own g wp s.W.length wc 129 (s.W.flatMap wenc) := B.w
    obtain ⟨wb, wo, rfl⟩ := ow.addr (by omega)
    have hw' := ow.heldAt wenc_len w1
    refine onSome_some.2 (loadB_w w4 w3 (by rw [Int.toNat_natCast]; exact hw') (newB (wenc_len w) (by rw [wenc_len]; simp) (wenc_one w) fun b2 h2 eb2 hb2 f2 => ?_))
    obtain ⟨c0, c1⟩ := wblk w4 hb2
    have B2 := B.fr f2 (fun _ _ => id)
    have ol : Own h2 lp n n 128 ((fo j).flatMap senc) := B2.l
    have ln : (fo j).length = n := B2.ok.n
    obtain ⟨lb, lo, rfl⟩ := ol.addr hn
    refine ⟨_, n, n, cell_at B2.blk rfl, _, c0, loadB_bc w3 c1 ⟨⟨by omega, by omega⟩, onSome_some.2 ⟨by rw [bc_len, w3], ?_⟩⟩⟩
    have es : senc w.2 = bc w.2 := by unfold senc; rw [fit_id w3]
    rw [← es, Int.toNat_natCast]
    refine ol.storeRow senc_len (fun v hv => by rw [es] at hv; exact bc_one _ v hv) (by omega) fun h3 o3 s3 q3 => ?_
    have f3 : Fr (inBlk (some ⟨lb, lo, none⟩)) h2 h3 := Fr.of_eq s3 q3
    have ef : fo (j + 1) = (fo j).set w.1 w.2 := by
      show (s.W.take (j + 1)).foldl _ _ = _
      rw [List.take_add_one, w1, List.foldl_append]; rfl
    rw [wrap_id (by omega) (by omega)]
    refine ⟨⟨j + 1, rfl, by omega, ⟨f3.get B2.blk B2.d1, ?_, B2.w.frame f3 (fun z q1 q2 => B2.lw z q2 q1), ⟨?_, fun b hb => ?_, A.ok.w⟩, B2.m, B2.dd, B2.d1, B2.d2, B2.lw⟩, (fg.on f2).trans f3 (fun z _ q => q) (fun z _ q => (B2.m z).2 (.inr (.inl q)))⟩, by show s.W.length - Int.toNat ((j : Int) + 1) < s.W.length - Int.toNat (j : Int); omega⟩
    · show Own h3 _ n n 128 ((fo (j + 1)).flatMap senc)
      rw [ef]; exact o3
    · show (fo (j + 1)).length = n
      rw [ef, List.length_set]; exact ln
    · have hb : b ∈ fo (j + 1) := hb
      rw [ef] at hb
      rcases List.mem_or_eq_of_mem_set hb with q | q
      · exact B2.ok.l b q
      · rw [q]; exact w3
  rw [if_neg (fun e => hlt (by have := of_decide_eq_true e; omega))]
  obtain rfl : j = s.W.length := by omega
  have e1 : fo s.W.length = s.sync.L := by show (s.W.take s.W.length).foldl _ _ = _; rw [List.take_length]; rfl
  rw [e1] at B
  refine storeP_blk B.blk (by show 1 < 4; omega) fun h3 d1 d2 d3 => ?_
  refine add_ok (n := y) (δ := 1) (cell_at (show h3[d]? = some (.cells _ _ _) from d1) rfl) (storeP_blk d1 (by show 3 < 4; omega) fun h4 q1 q2 q3 => ⟨_, rfl, ?_⟩)
  have f4 : Fr (fun y => y = d) g h4 := (Fr.of_eq (S := fun y => y = d) d2 d3).tt (Fr.of_eq q2 q3)
  have np : ∀ y, ¬ inBlk none y := fun y ⟨a, e, _⟩ => by cases e
  refine hk h4 ⟨fun y => y = d ∨ inBlk lp y ∨ inBlk none y, fun _ => False⟩ ⟨lp, none, 0, x, IntKind.wrap .i64 (y + 1), q1, B.l.frame f4 (fun z q e => B.d1 (e ▸ q)), .nil rfl rfl rfl rfl, A.ok.sync, fun y => Iff.rfl, fun _ => id, B.d1, np d, fun y _ => np y⟩ ⟨?_, fun z q => .inl ?_, fun z q => q.elim, fun z q => (A.dd z q).elim⟩
  · exact fg.trans f4 (fun z _ q => q) (fun z _ q => (A.m z).2 (.inl q))
  · rcases q with q | q | q
    · exact (A.m z).2 (.inl q)
    · exact (A.m z).2 (.inr (.inl q))
    · exact (np z q).elim
end Dsk
end Go.Proofs.YtmoafceggjgecaaGreatDoor
namespace Go.Proofs.YtmoafceggjgecaaGreatDoor
open Go.Den
open IntKind (wrap)
open Int (toNat)
section
variable {h:Heap} {R:TyP}
variable {w:Nat} {n:Int}
theorem slices_Clone_s_byte_byte.walk {s_p : Option Addr} {s_l s_c : Nat} (hv :
 ite s_p.isNone
 (  R (.slice none 0 0) h)
 (  NewP h (.cells #[] 5) fun b h_1 =>
 Dsz (Builtin.append_ #[48, 48] 48 #[.slice (some ⟨b, 0, none⟩) 0 0, .slice s_p s_l s_c]) h_1 fun v h_2 =>
 ∃ t7_p t7_l t7_c, v = .slice t7_p t7_l t7_c ∧
 R (.slice t7_p t7_l t7_c) h_2)) : Cl 47 #[.slice s_p s_l s_c] h R :=
 callsN [] hv
theorem fields_New.walk  (hv :
 NewP h (.cells #[.bool true, .slice none 0 0] 167) fun b h_1 =>
 R (.pointer (some ⟨b, 0, none⟩)) h_1) : Cl 37 #[] h R :=
 callsN [] hv
theorem fields_Writer_Num.walk (hv :
 JoinP (fun (t13 : Bool) h_1 =>
 ite t13
 (  R (.pointer (some ⟨w, 0, none⟩)) h_1)
 (  ∃ (I : Int → Heap → Prop) (mu : Int → Heap → Nat), I n h_1 ∧ ∀ n_1 h_2, I n_1 h_2 →
 ite (decide (n_1 > 127))
 (  ∃ t21_p t21_l t21_c, hcell h_2 ⟨w, 1, none⟩ = some (.slice t21_p t21_l t21_c) ∧
 NewP h_2 (.cells #[.int .u8 (IntKind.wrap .u8 ((BitVec.ofInt (IntKind.bits .u8) (IntKind.wrap .u8 n_1) ||| BitVec.ofInt (IntKind.bits .u8) 128).toNat : Int))] 5) fun b h_3 =>
 Dsz (Builtin.append_ #[48, 48] 48 #[.slice t21_p t21_l t21_c, .slice (some ⟨b, 0, none⟩) 1 1]) h_3 fun v h_4 =>
 ∃ t26_p t26_l t26_c, v = .slice t26_p t26_l t26_c ∧
 StoreP h_4 ⟨w, 1, none⟩ (.slice t26_p t26_l t26_c) fun h_5 =>
 (I (Int.fdiv n_1 (2 ^ min (Int.toNat 7) (IntKind.bits .u64))) h_5 ∧ mu (Int.fdiv n_1 (2 ^ min (Int.toNat 7) (IntKind.bits .u64))) h_5 < mu n_1 h_2))
 (  ∃ t35_p t35_l t35_c, hcell h_2 ⟨w, 1, none⟩ = some (.slice t35_p t35_l t35_c) ∧
 NewP h_2 (.cells #[.int .u8 (IntKind.wrap .u8 n_1)] 5) fun b_1 h_6 =>
 Dsz (Builtin.append_ #[48, 48] 48 #[.slice t35_p t35_l t35_c, .slice (some ⟨b_1, 0, none⟩) 1 1]) h_6 fun v_1 h_7 =>
 ∃ t39_p t39_l t39_c, v_1 = .slice t39_p t39_l t39_c ∧
 StoreP h_7 ⟨w, 1, none⟩ (.slice t39_p t39_l t39_c) fun h_8 =>
 R (.pointer (some ⟨w, 0, none⟩)) h_8)))
 (fun J =>
 ∃ t11, hcell h ⟨w, 0, none⟩ = some (.bool t11) ∧
 J (!t11) h)) : Cl 39 #[.pointer (some ⟨w, 0, none⟩), .int .u64 n] h R :=
 callsN [(4, .join [(13, sB)]), (12, .loop [(1, sU)])] hv
theorem fields_Writer_Int.walk (hv :
 Cl 39 #[.pointer (some ⟨w, 0, none⟩), .int .u64 (IntKind.wrap .u64 (if 0 > n then 0 else n))] h fun v h_1 =>
 ∃ t9, v = .pointer t9 ∧
 R (.pointer t9) h_1) : Cl 40 #[.pointer (some ⟨w, 0, none⟩), .int .i64 n] h R :=
 callsN [] hv
theorem fields_Writer_Bool.walk {is : Bool} (hv :
 ite is
 (  Cl 39 #[.pointer (some ⟨w, 0, none⟩), .int .u64 1] h fun v h_1 =>
 ∃ t7, v = .pointer t7 ∧
 R (.pointer t7) h_1)
 (  Cl 39 #[.pointer (some ⟨w, 0, none⟩), .int .u64 0] h fun v_1 h_2 =>
 ∃ t9, v_1 = .pointer t9 ∧
 R (.pointer t9) h_2)) : Cl 60 #[.pointer (some ⟨w, 0, none⟩), .bool is] h R :=
 callsN [] hv
theorem fields_Writer_Text.walk {b_p : Option Addr} {b_l b_c : Nat} (hv :
 Cl 39 #[.pointer (some ⟨w, 0, none⟩), .int .u64 (IntKind.wrap .u64 ((b_l : Nat) : Int))] h fun v h_1 =>
 ∃ t9, v = .pointer t9 ∧
 JoinP (fun (t17 : Bool) h_2 =>
 JoinP (fun h_3 =>
 R (.pointer (some ⟨w, 0, none⟩)) h_3)
 (fun J_1 =>
 ite t17
 (  ∃ t22_p t22_l t22_c, hcell h_2 ⟨w, 1, none⟩ = some (.slice t22_p t22_l t22_c) ∧
 Dsz (Builtin.append_ #[48, 48] 48 #[.slice t22_p t22_l t22_c, .slice b_p b_l b_c]) h_2 fun v_1 h_4 =>
 ∃ t24_p t24_l t24_c, v_1 = .slice t24_p t24_l t24_c ∧
 StoreP h_4 ⟨w, 1, none⟩ (.slice t24_p t24_l t24_c) fun h_5 =>
 J_1 h_5)
 (  J_1 h_2)))
 (fun J =>
 ∃ t16, hcell h_1 ⟨w, 0, none⟩ = some (.bool t16) ∧
 J t16 h_1)) : Cl 38 #[.pointer (some ⟨w, 0, none⟩), .slice b_p b_l b_c] h R :=
 callsN [(6, .join [(17, sB)]), (7, .join [])] hv
theorem fields_Writer_Bytes.walk (hv :
 ∃ t8_p t8_l t8_c, hcell h ⟨w, 1, none⟩ = some (.slice t8_p t8_l t8_c) ∧
 Cl 47 #[.slice t8_p t8_l t8_c] h fun v h_1 =>
 ∃ t9_p t9_l t9_c, v = .slice t9_p t9_l t9_c ∧
 R (.slice t9_p t9_l t9_c) h_1) : Cl 41 #[.pointer (some ⟨w, 0, none⟩)] h R :=
 callsN [] hv

end
section
namespace Fld
variable {h:Heap} {bs:TyL} {R:TyP}
variable {p:TyO} {n c:Nat}
theorem tU : SlTy Tryz.prog 48 5 1 1 (.int .u8 0) := ⟨by kernel_rfl, by kernel_rfl, rfl⟩
theorem uU : Tryz.prog.underlying 48 = some (.slice 5) := by kernel_rfl
theorem u8 : Tryz.prog.underlying 5 = some (.int .u8) := by kernel_rfl
theorem uS : Tryz.prog.underlying 9 = some .string := by kernel_rfl
theorem conv (hr : Row h p (bc bs)) (hn : n = bs.length) : ConvV Tryz.prog 48 9 (.slice p n c) h (str bs) := conv_str uU u8 uS hr hn
theorem clone_ok (hr : Row h p (bc bs)) (hn : n = bs.length) (hl : bs.length ≤ 70368744177664)
    (hk : ∀ p' c' h', Own h' p' bs.length c' 1 (bc bs) → Fr No h h' → (∀ x, inBlk p' x → h.size ≤ x) → R (.slice p' bs.length c') h') :
    Cl 47 #[.slice p n c] h R := by
  subst hn
  exact slices_Clone_s_byte_byte.walk (clone_all tU uU (by decide) hr (by rw [bc_len, Nat.mul_one]) (bc_one bs) (by omega) (by omega) hk)
theorem lit_ok {cs : Array Value} {K : Option Addr → Nat → Nat → Heap → Prop} (hc : cs = (bc bs).toArray) (hk : ∀ h', Row h' (some ⟨h.size, 0, none⟩) (bc bs) → Fr No h h' → K (some ⟨h.size, 0, none⟩) n n h') :
    NewP h (.cells cs 5) fun b h_4 => denSem Tryz.prog (convert 48 48 (.slice (some ⟨b, 0, none⟩) n n)) h_4 fun v h_5 => ∃ (p : Option Addr) (l c : Nat), v = .slice p l c ∧ K p l c h_5 := by
  subst hc
  refine newP_of (den_lit uU u8 (a := ⟨h.size, 0, none⟩) push_new fun h4 fz4 hb4 sz4 ot4 => ⟨_, _, _, rfl, ?_⟩)
  refine hk h4 (.inr ⟨_, rfl, heldL_blk hb4 (fun j v hj => by rw [Nat.zero_add]; simpa using hj)⟩) ⟨by rw [sz4]; simp, fun c hc _ => by rw [ot4 c (by simp; omega), Array.getElem?_push, if_neg (by omega)]⟩

end Fld
end
section
namespace Sup
variable {h h':Heap} {R:TyP} {d n:Nat} {X:Ft} {s:Dsk.DS}
structure SU where
  gen : Nat
  area : Nat
  len : Nat
abbrev SU.S (x : SU) : super_Super.S := ⟨x.gen, x.area, x.len⟩
def SU.ok (x : SU) : Prop := 1 ≤ x.gen ∧ x.gen ≤ 1099511627776 ∧ x.area ≤ 1 ∧ x.len ≤ 1048576
variable {x:SU}
def beP (k i n : Nat) : List UInt8 := (List.range i).map fun j => UInt8.ofNat (n / 2 ^ (8 * (k - 1 - j)))
def beB (k n : Nat) : List UInt8 := beP k k n
theorem beP_len (k i n : Nat) : (beP k i n).length = i := by simp [beP]
theorem beB_len (k n : Nat) : (beB k n).length = k := beP_len k k n
theorem beP_succ (k i n : Nat) : beP k (i + 1) n = beP k i n ++ [UInt8.ofNat (n / 2 ^ (8 * (k - 1 - i)))] := by simp [beP, List.range_succ]
def supM (x : SU) : List UInt8 := [80, 76, 70, 84] ++ beB 8 x.gen ++ [UInt8.ofNat x.area] ++ beB 4 x.len
theorem supM_len (x : SU) : (supM x).length = 17 := by simp [supM, beB_len]
def supB (x : SU) : List UInt8 := supM x ++ beB 4 (Bt.longN (supM x)) ++ List.replicate 107 0
theorem supB_len (x : SU) : (supB x).length = 128 := by simp [supB, beB_len, supM_len]
theorem wu8n (n : Nat) : IntKind.wrap .u8 (n : Int) = ((UInt8.ofNat n).toNat : Int) := by rw [wrap_u8_nat, UInt8.toNat_ofNat']
theorem put_ok {p : Option Addr} {l c k m : Nat} {bs : List UInt8} (H : Src h p l c bs) (k0 : 0 < k) (k8 : k ≤ 8) (hb : bs.length ≤ 1000000)
    (hk : ∀ p' c' h', Own h' p' (bs ++ beB k m).length c' 1 (bc (bs ++ beB k m)) → Fr (inBlk p) h h' → (∀ y, inBlk p' y → inBlk p y ∨ h.size ≤ y) → R (.slice p' (bs ++ beB k m).length c') h') :
    Cl 228 #[.slice p l c, .int .u64 (m : Int), .int .i64 (k : Int)] h R := by
  refine super_put.walk ⟨fun q lq cq t g => ∃ i : Nat, t = (i : Int) ∧ i ≤ k ∧ Src g q lq cq (bs ++ beP k i m) ∧ (0 < i → Own g q (bs ++ beP k i m).length cq 1 (bc (bs ++ beP k i m))) ∧ Fr (inBlk p) h g ∧ (∀ y, inBlk q y → inBlk p y ∨ h.size ≤ y),
    fun _ _ _ t _ => k - t.toNat, ⟨0, rfl, by omega, by rw [show beP k 0 m = [] from rfl, List.append_nil]; exact H, fun q => absurd q (by omega), Fr.refl _ _, fun _ => .inl⟩, ?_⟩
  rintro q lq cq _ g ⟨i, rfl, hi, S, o, f, gr⟩
  by_cases c1 : i < k
  · rw [if_pos (decide_eq_true (by omega))]
    rw [wrap_id (n := (k : Int) - 1) (by omega) (by omega), wrap_id (n := (k : Int) - 1 - i) (by omega) (by omega), wrap_id (n := 8 * ((k : Int) - 1 - i)) (by omega) (by omega), if_neg (by omega)]
    have l1 : lq = bs.length + i := by rw [S.1, List.length_append, beP_len]
    have e8 : min (Int.toNat (8 * ((k : Int) - 1 - i))) (IntKind.bits .u64) = 8 * (k - 1 - i) := by
      rw [show IntKind.bits .u64 = 64 from rfl]; omega
    refine den_append1S (UInt8.ofNat (m / 2 ^ (8 * (k - 1 - i)))) (by rw [e8, Bt.fdiv2, wu8n]) Fld.tU Fld.uU S (by omega) fun p' c' g' o' f' gr' => ⟨_, _, _, rfl, ?_⟩
    have z1 := f.1
    rw [wrap_id (by omega) (by omega)]
    refine ⟨⟨i + 1, by omega, by omega, ?_, fun _ => ?_, f.trans f' (fun _ _ => id) (fun y hy hq => (gr y hq).elim id (fun e => absurd e (by omega))), fun y hy => (gr' y hy).elim (gr y) (fun e => .inr (by omega))⟩, by show k - Int.toNat ((i : Int) + 1) < k - Int.toNat (i : Int); omega⟩
    · rw [beP_succ, ← List.append_assoc]; exact Src.own o' rfl
    · rw [beP_succ, ← List.append_assoc]; exact o'
  · rw [if_neg (fun e => c1 (by have := of_decide_eq_true e; omega))]
    obtain rfl : i = k := by omega
    have l1 := S.1
    subst l1
    exact hk q cq g (o k0) f gr
theorem right_ok (ok : x.ok) (hk : ∀ g, Fr No h g → R (.bool true) g) : Cl 227 #[x.S.agg] h R := by
  obtain ⟨o1, o2, o3, o4⟩ := ok
  refine super_Right.walk (super_Super.boxp fun b g e b0 f => ⟨_, cell_at b0 rfl, ?_⟩)
  rw [if_pos (decide_eq_true (by show (x.gen : Int) ≥ 1; omega))]
  refine ⟨_, cell_at b0 rfl, ?_⟩
  rw [if_pos (decide_eq_true (by show (x.gen : Int) ≤ 1099511627776; omega))]
  refine ⟨_, cell_at b0 rfl, ?_⟩
  have r := hk g f
  have e3 : decide ((x.len : Int) ≤ 1048576) = true := decide_eq_true (by omega)
  by_cases c : x.area = 0
  · rw [if_pos (by show ((x.area : Int) == 0) = true; rw [c]; rfl)]
    refine ⟨_, cell_at b0 rfl, ?_⟩
    rw [if_pos (decide_eq_true (by show (x.len : Int) ≥ 0; omega))]
    refine ⟨_, cell_at b0 rfl, ?_⟩
    show R (.bool (decide ((x.len : Int) ≤ 1048576))) g
    rw [e3]; exact r
  · have c1 : x.area = 1 := by omega
    rw [if_neg (by show ¬ ((x.area : Int) == 0) = true; rw [c1]; decide)]
    refine ⟨_, cell_at b0 rfl, ?_⟩
    rw [if_pos (by show ((x.area : Int) == 1) = true; rw [c1]; rfl)]
    refine ⟨_, cell_at b0 rfl, ?_⟩
    rw [if_pos (decide_eq_true (by show (x.len : Int) ≥ 0; omega))]
    refine ⟨_, cell_at b0 rfl, ?_⟩
    show R (.bool (decide ((x.len : Int) ≤ 1048576))) g
    rw [e3]; exact r
theorem tI : Tryz.prog.underlying 3 = some (.int .i64) := by kernel_rfl
theorem write_ok (ok : x.ok) (hk : ∀ p c g, Own g p 128 c 1 (bc (supB x)) → Fr No h g → (∀ y, inBlk p y → h.size ≤ y) → R (.tuple #[.slice p 128 c, .int .i64 0]) g) :
    Cl 170 #[x.S.agg] h R := by
  refine super_Write.walk (super_Super.boxp fun b h1 e1 b0 f1 => super_Super.ldp b0 (right_ok ok fun h2 f2 => ⟨_, rfl, ?_⟩))
  rw [if_neg (by decide)]
  have z1 := f1.1
  have z2 := f2.1
  refine Fld.lit_ok (bs := [80, 76, 70, 84]) rfl fun h4 r4 f4 => ?_
  have z4 := f4.1
  have F4 : Fr No h1 h4 := f2.tt f4
  have b4 := F4.get b0 id
  have bl : b < h1.size := (Array.getElem?_eq_some_iff.1 b0).1
  refine ⟨_, cell_at b4 rfl, put_ok (k := 8) (bs := [80, 76, 70, 84]) ⟨rfl, .inr ⟨r4, rfl⟩⟩ (by omega) (by omega) (by decide) fun p5 c5 h5 o5 f5 g5 => ⟨_, _, _, rfl, ?_⟩⟩
  have z5 := f5.1
  have n5 : ∀ y, inBlk p5 y → h2.size ≤ y := fun y hy => by
    rcases g5 y hy with ⟨_, e, rfl⟩ | q
    · cases e; exact Nat.le_refl _
    · omega
  have F5 : Fr No h2 h5 := f4.fresh f5 fun y ⟨_, e, hy⟩ => by cases e; subst hy; exact Nat.le_refl _
  have b5 := F5.get (f2.get b0 id) id
  refine ⟨_, cell_at b5 rfl, ?_⟩
  refine den_append1S (UInt8.ofNat x.area) (wu8n _) Fld.tU Fld.uU (Src.own o5 rfl) (by rw [List.length_append, beB_len]; simp) fun p7 c7 h7 o7 f7 g7 => ⟨_, _, _, rfl, ?_⟩
  have z7 := f7.1
  have n7 : ∀ y, inBlk p7 y → h2.size ≤ y := fun y hy => (g7 y hy).elim (n5 y) (fun q => by omega)
  have F7 : Fr No h2 h7 := F5.fresh f7 n5
  have b7 := F7.get (f2.get b0 id) id
  refine ⟨_, cell_at b7 rfl, ?_⟩
  rw [show IntKind.wrap .u64 (x.S.f2) = (x.len : Int) from wrap_u64 (by show (0 : Int) ≤ x.len; omega) (by have := ok.2.2.2; show (x.len : Int) ≤ _; omega)]
  refine put_ok (k := 4) (m := x.len) (Src.own o7 rfl) (by omega) (by omega) (by simp [beB_len]) fun p8 c8 h8 o8 f8 g8 => ⟨_, _, _, rfl, ?_⟩
  have z8 := f8.1
  have n8 : ∀ y, inBlk p8 y → h2.size ≤ y := fun y hy => (g8 y hy).elim (n7 y) (fun q => by omega)
  have F8 : Fr No h2 h8 := F7.fresh f8 n7
  change Own h8 p8 (supM x).length c8 1 (bc (supM x)) at o8
  refine Bt.long_ok o8.row' rfl (by rw [supM_len]; omega) ⟨_, rfl, ?_⟩
  have hl := Bt.longN_lt (supM x)
  rw [show IntKind.wrap .u64 ((Bt.longN (supM x) : Nat) : Int) = (Bt.longN (supM x) : Int) from wrap_u64 (by omega) (by omega)]
  refine put_ok (k := 4) (m := Bt.longN (supM x)) (Src.own (bs := supM x) o8 rfl) (by omega) (by omega) (by rw [supM_len]; omega) fun p9 c9 h9 o9 f9 g9 => ⟨_, _, _, rfl, ?_⟩
  have z9 := f9.1
  have n9 : ∀ y, inBlk p9 y → h2.size ≤ y := fun y hy => (g9 y hy).elim (n8 y) (fun q => by omega)
  have F9 : Fr No h2 h9 := F8.fresh f9 n8
  have l9 : (supM x ++ beB 4 (Bt.longN (supM x))).length = 21 := by simp [supM_len, beB_len]
  rw [l9] at o9 ⊢
  rw [show IntKind.wrap .i64 (128 - ((21 : Nat) : Int)) = ((107 : Nat) : Int) from rfl]
  refine den_zeros Fld.tU tI o9 l9.symm (by omega) (by omega) fun pA cA hA oA fA gA => ⟨_, _, _, rfl, ?_⟩
  have nA : ∀ y, inBlk pA y → h2.size ≤ y := fun y hy => (gA y hy).elim (n9 y) (fun q => by omega)
  exact hk pA cA hA oA ((f1.tt f2).tt (F9.fresh fA n9)) fun y hy => by have := nA y hy; omega
theorem slot_ok (hg : x.gen ≤ 1099511627776) (hk : ∀ g, Fr No h g → R (.int .i64 ((x.gen % 2 : Nat) : Int)) g) : Cl 154 #[x.S.agg] h R := by
  refine super_slot.walk (super_Super.boxp fun b g e b0 f => ⟨_, cell_at b0 rfl, ?_⟩)
  have e2 : Int.tmod (x.gen : Int) 2 = ((x.gen % 2 : Nat) : Int) := rfl
  show R (.int .i64 (IntKind.wrap .i64 (Int.tmod (x.gen : Int) 2))) g
  rw [e2, wrap_id (by omega) (by omega)]
  exact hk g f
theorem Put_ok (H : Dsk.Dk h d X n s) (n2 : 2 ≤ n) (ok : x.ok) (hw : s.W.length ≤ 100000)
    (hk : ∀ h' X', Dsk.Dk h' d X' n (s.put (x.gen % 2) (supB x)) → StepF X h X' h' → R (.int .i64 0) h') : Cl 119 #[.pointer (some ⟨d, 0, none⟩), x.S.agg] h R := by
  refine super_Put.walk (super_Super.boxp fun b h1 e1 b0 f1 => super_Super.ldp b0 (write_ok ok fun p c h2 o2 f2 g2 => ⟨_, _, _, _, rfl, ?_⟩))
  rw [if_neg (by decide)]
  refine super_Super.ldp (f2.get b0 id) (slot_ok ok.2.1 fun h3 f3 => ⟨_, rfl, ?_⟩)
  have F3 := (f1.tt f2).tt f3
  have z1 := f1.1
  refine Dsk.write_ok (H.on F3) (by omega) (o2.row'.frame f3 (fun _ _ => id)) (supB_len x).symm (supB_len x) hw (fun y hy hx => by have := g2 y hy; have := H.lt y hx; omega) fun h4 X' D4 st => ⟨_, rfl, ?_⟩
  exact hk h4 X' D4 (.no F3 st)

end Sup
end
section
variable {h:Heap} {R:TyP}
variable {b d:Nat}
abbrev area_Area.atp (h : Heap) (b : Nat) (x : area_Area.S) : Prop := h[b]? = some (.cells x.arr 137 (0, 0))
theorem area_Area.ex {K : area_Area.S → Prop} (x : area_Area.S) (hk : K x) : area_Area.EX K := ⟨_, _, hk⟩
theorem area_Area.ldAp {a : Addr} {x : area_Area.S} {K : area_Area.S → Prop} (hb : heldL a x.l 0 h) (hk : K x) : area_Area.LDp h a K := by
  obtain ⟨q0, q1, _⟩ := hb
  rw [add_zero_addr] at q0
  exact ⟨_, q0, _, q1, hk⟩
theorem area_Area.heldp {x : area_Area.S} (hb : area_Area.atp h b x) : heldL ⟨b, 0, none⟩ x.l 0 h :=
  heldL_blk hb (fun j v hj => by rw [Nat.zero_add]; simpa using hj)
theorem area_Area.ldp {x : area_Area.S} {K : area_Area.S → Prop} (hb : area_Area.atp h b x) (hk : K x) : area_Area.LDp h ⟨b, 0, none⟩ K := ldAp (heldp hb) hk
theorem area_Area.boxp {x : area_Area.S} {K : Nat → Heap → Prop} (hk : ∀ b h', b = h.size → area_Area.atp h' b x → Fr No h h' → K b h') : NewP h (.cells x.arr 137) fun b h_0 => K b h_0 :=
  newP_of (hk _ _ rfl push_new (Fr.push _ _))
theorem area_Area.setp {y x : area_Area.S} {K : Heap → Prop} (a0 : area_Area.atp h b y) (hk : ∀ h', area_Area.atp h' b x → Fr (fun y => y = b) h h' → h'.size = h.size → K h') : area_Area.STp h ⟨b, 0, none⟩ x K :=
  (show storeL ⟨b, 0, none⟩ x.l 0 h K from storeL_full a0 rfl rfl fun h1 d1 d2 d3 => hk h1 d1 (Fr.of_eq d2 fun c hc => d3 c hc) d2)
variable {K:area_Area.S→Prop} {a x:area_Area.S}
theorem area_Right.walk (hv :
 NewP h (.cells a.arr 137) fun b h_1 =>
 Cl 17 #[.pointer (some ⟨d, 0, none⟩)] h_1 fun v h_2 =>
 ∃ t7, v = .int .i64 t7 ∧
 ∃ t9, hcell h_2 ⟨b, 0, none⟩ = some (.int .i64 t9) ∧
 ite (decide (t9 ≥ 2))
 (  ∃ t13, hcell h_2 ⟨b, 0, none⟩ = some (.int .i64 t13) ∧
 ite (decide (t13 < t7))
 (  ∃ t19, hcell h_2 ⟨b, 1, none⟩ = some (.int .i64 t19) ∧
 ite (decide (t19 ≥ 1))
 (  ∃ t24, hcell h_2 ⟨b, 1, none⟩ = some (.int .i64 t24) ∧
 ∃ t27, hcell h_2 ⟨b, 0, none⟩ = some (.int .i64 t27) ∧
 R (.bool (decide (t24 ≤ (IntKind.wrap .i64 (t7 - t27))))) h_2)
 (  R (.bool false) h_2))
 (  R (.bool false) h_2))
 (  R (.bool false) h_2)) : Cl 211 #[.pointer (some ⟨d, 0, none⟩), a.agg] h R :=
 callsN [] hv
theorem area_Room.walk (hv :
 NewP h (.cells a.arr 137) fun b h_1 =>
 JoinP (fun (t10 : Bool) h_2 =>
 ite t10
 (  R (.int .i64 0) h_2)
 (  ∃ t12, hcell h_2 ⟨b, 1, none⟩ = some (.int .i64 t12) ∧
 R (.int .i64 (IntKind.wrap .i64 (t12 * 128))) h_2))
 (fun J =>
 ∃ t4, hcell h_1 ⟨b, 1, none⟩ = some (.int .i64 t4) ∧
 ite (decide (t4 < 1))
 (  J true h_1)
 (  ∃ t8, hcell h_1 ⟨b, 1, none⟩ = some (.int .i64 t8) ∧
 J (decide (t8 > 4096)) h_1))) : Cl 118 #[a.agg] h R :=
 callsN [(4, .join [(10, sB)])] hv
theorem area_Halves.walk (hv :
 NewP h (.cells area_Area.S.z.arr 137) fun b h_1 =>
 NewP h_1 (.cells area_Area.S.z.arr 137) fun b_1 h_2 =>
 Cl 17 #[.pointer (some ⟨d, 0, none⟩)] h_2 fun v h_3 =>
 ∃ t7, v = .int .i64 t7 ∧
 ite (t7 == 0)
 (  area_Area.STp h_3 ⟨b, 0, none⟩ area_Area.S.z fun h_4 =>
 area_Area.STp h_4 ⟨b_1, 0, none⟩ area_Area.S.z fun h_5 =>
 area_Area.LDp h_5 ⟨b, 0, none⟩ fun r0 =>
 area_Area.LDp h_5 ⟨b_1, 0, none⟩ fun r1 =>
 R (.tuple #[r0.agg, r1.agg, .int .i64 6]) h_5)
 (  Cl 17 #[.pointer (some ⟨d, 0, none⟩)] h_3 fun v_1 h_6 =>
 ∃ t12, v_1 = .int .i64 t12 ∧
 area_Area.STp h_6 ⟨b, 0, none⟩ ⟨2, (IntKind.wrap .i64 (Int.tdiv (IntKind.wrap .i64 (t12 - 2)) 2))⟩ fun h_7 =>
 area_Area.STp h_7 ⟨b_1, 0, none⟩ ⟨(IntKind.wrap .i64 (2 + (IntKind.wrap .i64 (Int.tdiv (IntKind.wrap .i64 (t12 - 2)) 2)))), (IntKind.wrap .i64 (Int.tdiv (IntKind.wrap .i64 (t12 - 2)) 2))⟩ fun h_8 =>
 area_Area.LDp h_8 ⟨b, 0, none⟩ fun r0_1 =>
 area_Area.LDp h_8 ⟨b_1, 0, none⟩ fun r1_1 =>
 R (.tuple #[r0_1.agg, r1_1.agg, .int .i64 0]) h_8)) : Cl 117 #[.pointer (some ⟨d, 0, none⟩)] h R :=
 callsN [] hv
theorem area_ask.walk {v_at : Int} {n : Int} (hv :
 NewP h (.cells a.arr 137) fun b h_1 =>
 area_Area.LDp h_1 ⟨b, 0, none⟩ fun t11 =>
 Cl 211 #[.pointer (some ⟨d, 0, none⟩), t11.agg] h_1 fun v h_2 =>
 ∃ t12, v = .bool t12 ∧
 ite (!t12)
 (  R (.int .i64 3) h_2)
 (  JoinP (fun (t14 : Bool) h_3 =>
 ite t14
 (  R (.int .i64 1) h_3)
 (  R (.int .i64 0) h_3))
 (fun J =>
 ite (decide (v_at < 0))
 (  J true h_2)
 (  ite (decide (n < 0))
 (  J true h_2)
 (  area_Area.LDp h_2 ⟨b, 0, none⟩ fun t23 =>
 Cl 118 #[t23.agg] h_2 fun v_1 h_4 =>
 ∃ t24, v_1 = .int .i64 t24 ∧
 ite (decide (v_at > t24))
 (  J true h_4)
 (  area_Area.LDp h_4 ⟨b, 0, none⟩ fun t29 =>
 Cl 118 #[t29.agg] h_4 fun v_2 h_5 =>
 ∃ t30, v_2 = .int .i64 t30 ∧
 J (decide (n > (IntKind.wrap .i64 (t30 - v_at)))) h_5)))))) : Cl 155 #[.pointer (some ⟨d, 0, none⟩), a.agg, .int .i64 v_at, .int .i64 n] h R :=
 callsN [(11, .join [(14, sB)])] hv

end
section
namespace Area
variable {h:Heap} {R:TyP} {d n:Nat} {X:Ft} {s:Dsk.DS}
structure AR where
  first : Nat
  count : Nat
abbrev AR.S (x : AR) : area_Area.S := ⟨x.first, x.count⟩
def AR.ok (x : AR) (n : Nat) : Prop := 2 ≤ x.first ∧ x.first < n ∧ 1 ≤ x.count ∧ x.count + x.first ≤ n
variable {x:AR}
def halves (n : Nat) : AR × AR := (⟨2, (n - 2) / 2⟩, ⟨2 + (n - 2) / 2, (n - 2) / 2⟩)
theorem halves_ok (h4 : 4 ≤ n) : (halves n).1.ok n ∧ (halves n).2.ok n := by unfold halves AR.ok; dsimp only; omega
theorem right_ok (H : Dsk.Dk h d X n s) (ok : x.ok n) (n5 : n ≤ 4096) (hk : ∀ g, Fr No h g → R (.bool true) g) : Cl 211 #[.pointer (some ⟨d, 0, none⟩), x.S.agg] h R := by
  obtain ⟨o1, o2, o3, o4⟩ := ok
  refine area_Right.walk (area_Area.boxp fun b g e b0 f => Dsk.sectors_ok (H.on f) ⟨_, rfl, _, cell_at b0 rfl, ?_⟩)
  rw [if_pos (decide_eq_true (by show (x.first : Int) ≥ 2; omega))]
  refine ⟨_, cell_at b0 rfl, ?_⟩
  rw [if_pos (decide_eq_true (by show (x.first : Int) < n; omega))]
  refine ⟨_, cell_at b0 rfl, ?_⟩
  rw [if_pos (decide_eq_true (by show (x.count : Int) ≥ 1; omega))]
  refine ⟨_, cell_at b0 rfl, _, cell_at b0 rfl, ?_⟩
  show R (.bool (decide ((x.count : Int) ≤ IntKind.wrap .i64 ((n : Int) - x.first)))) g
  rw [wrap_id (by omega) (by omega), decide_eq_true (by omega)]
  exact hk g f
theorem room_ok (h1 : 1 ≤ x.count) (h2 : x.count ≤ 4096) (hk : ∀ g, Fr No h g → R (.int .i64 ((x.count * 128 : Nat) : Int)) g) : Cl 118 #[x.S.agg] h R := by
  refine area_Room.walk (area_Area.boxp fun b g e b0 f => JoinP.of fun J hJ => ⟨_, cell_at b0 rfl, ?_⟩)
  rw [if_neg (by simp; show (1 : Int) ≤ x.count; omega)]
  refine ⟨_, cell_at b0 rfl, ?_⟩
  subst hJ
  dsimp only
  rw [if_neg (by simp; show (x.count : Int) ≤ 4096; omega)]
  refine ⟨_, cell_at b0 rfl, ?_⟩
  show R (.int .i64 (IntKind.wrap .i64 ((x.count : Int) * 128))) g
  rw [wrap_id (by omega) (by omega)]
  exact hk g f
theorem halves_call (H : Dsk.Dk h d X n s) (h4 : 4 ≤ n) (n5 : n ≤ 4096) (hk : ∀ g, Fr No h g → R (.tuple #[(halves n).1.S.agg, (halves n).2.S.agg, .int .i64 0]) g) : Cl 117 #[.pointer (some ⟨d, 0, none⟩)] h R := by
  refine area_Halves.walk (newP_of (newP_of ?_))
  have f1 : Fr No h (h.push (.cells area_Area.S.z.arr 137)) := Fr.push _ _
  generalize hg1 : h.push (.cells area_Area.S.z.arr 137) = g1 at f1 ⊢
  have a1 : area_Area.atp g1 h.size area_Area.S.z := hg1 ▸ push_new
  have f2 : Fr No g1 (g1.push (.cells area_Area.S.z.arr 137)) := Fr.push _ _
  generalize hg2 : g1.push (.cells area_Area.S.z.arr 137) = g2 at f2 ⊢
  have a2 : area_Area.atp g2 g1.size area_Area.S.z := hg2 ▸ push_new
  have ne : h.size < g1.size := by rw [← hg1]; simp
  have H2 := H.on (f1.tt f2)
  refine Dsk.sectors_ok H2 ⟨_, rfl, ?_⟩
  rw [if_neg (by simp; omega)]
  refine Dsk.sectors_ok H2 ⟨_, rfl, ?_⟩
  have e1 : IntKind.wrap .i64 (Int.tdiv (IntKind.wrap .i64 ((n : Int) - 2)) 2) = (((n - 2) / 2 : Nat) : Int) := by
    rw [wrap_id (n := (n : Int) - 2) (by omega) (by omega), show (n : Int) - 2 = ((n - 2 : Nat) : Int) by omega, show Int.tdiv ((n - 2 : Nat) : Int) 2 = (((n - 2) / 2 : Nat) : Int) from rfl, wrap_id (by omega) (by omega)]
  rw [e1, wrap_id (n := 2 + (((n - 2) / 2 : Nat) : Int)) (by omega) (by omega)]
  refine area_Area.setp (x := (halves n).1.S) (f2.get a1 id) fun g3 a3 f3 z3 => ?_
  refine area_Area.setp (x := (halves n).2.S) (f3.get a2 (by omega)) fun g4 a4 f4 z4 => ?_
  refine area_Area.ldp (f4.get a3 (by omega)) (area_Area.ldp a4 (hk g4 ?_))
  have u1 := f2.1
  exact ((f1.tt f2).fresh (S := fun y => y = h.size) f3 (fun y hy => by omega)).fresh f4 fun y hy => by omega
theorem ask_ok {a m : Nat} (H : Dsk.Dk h d X n s) (ok : x.ok n) (n5 : n ≤ 4096) (hr : a + m ≤ x.count * 128) (hk : ∀ g, Fr No h g → R (.int .i64 0) g) :
    Cl 155 #[.pointer (some ⟨d, 0, none⟩), x.S.agg, .int .i64 (a : Int), .int .i64 (m : Int)] h R := by
  have o := ok
  obtain ⟨o1, o2, o3, o4⟩ := o
  refine area_ask.walk (area_Area.boxp fun b h1 e1 b0 f1 => area_Area.ldp b0 (right_ok (H.on f1) ok n5 fun h2 f2 => ⟨_, rfl, ?_⟩))
  rw [if_neg (by decide)]
  refine JoinP.of fun J hJ => ?_
  rw [if_neg (by simp), if_neg (by simp)]
  have b2 := f2.get b0 id
  refine area_Area.ldp b2 (room_ok o3 (by omega) fun h3 f3 => ⟨_, rfl, ?_⟩)
  rw [if_neg (by simp; omega)]
  refine area_Area.ldp (f3.get b2 id) (room_ok o3 (by omega) fun h4 f4 => ⟨_, rfl, ?_⟩)
  rw [wrap_id (by omega) (by omega), decide_eq_false (by omega)]
  subst hJ
  dsimp only
  rw [if_neg (by decide)]
  exact hk h4 (((f1.tt f2).tt f3).tt f4)

end Area
end
end Go.Proofs.YtmoafceggjgecaaGreatDoor
namespace Go.Den
end Go.Den
namespace Go.Proofs.YtmoafceggjgecaaGreatDoor
open Go.Den
namespace Jnl
open Dsk Area Sup
variable {h h0 h' : Heap} {R : Value → Heap → Prop} {d n j : Nat} {X XD : Ft} {s : DS}
structure JN where
  gen : Nat
  area : Nat
  len : Nat
  next : List UInt8
  half : Nat
  at_ : Nat
  plen : Nat
  pdone : Nat
  stage : Nat
  all : Nat
  done : Nat
def room (n : Nat) : Nat := (n - 2) / 2 * 128
def hv (n k : Nat) : AR := if k = 0 then (halves n).1 else (halves n).2
def JN.tl (x : JN) : Nat × Nat := if x.stage = 0 then (x.area, x.len + x.next.length) else (x.half, x.plen + x.next.length)
structure JN.ok (x : JN) (n : Nat) : Prop where
  n4 : 4 ≤ n
  n5 : n ≤ 4096
  g1 : 1 ≤ x.gen
  ar : x.area ≤ 1
  hf : x.half ≤ 1
  le : x.len ≤ room n
  pl : x.plen ≤ room n
  nx : x.tl.2 ≤ room n
  st : x.stage ≤ 3
abbrev JN.S (x : JN) (d n : Nat) (p : Option Addr) (c : Nat) : journal_Journal.S := ⟨some ⟨d, 0, none⟩, ((halves n).1.first : Int), ((halves n).1.count : Int), ((halves n).2.first : Int), ((halves n).2.count : Int), x.gen, x.area, x.len, p, x.next.length, c, x.half, x.at_, x.plen, x.pdone, x.stage, x.all, x.done⟩
structure JnA (h : Heap) (j d : Nat) (X XD : Ft) (n : Nat) (x : JN) (s : DS) (p : Option Addr) (c : Nat) : Prop where
  blk : journal_Journal.atp h j (x.S d n p c)
  own : Own h p x.next.length c 1 (bc x.next)
  dk : Dk h d XD n s
  ok : x.ok n
  m : ∀ y, X.M y ↔ y = j ∨ inBlk p y ∨ XD.M y
  dd : ∀ y, ¬ X.D y
  j1 : ¬ inBlk p j
  j2 : ¬ XD.M j
  jp : ∀ y, inBlk p y → ¬ XD.M y
def Jn (h : Heap) (j d : Nat) (X : Ft) (n : Nat) (x : JN) (s : DS) : Prop := ∃ XD p c, JnA h j d X XD n x s p c
theorem Jn.lt {x : JN} (H : Jn h j d X n x s) (y : Nat) (hy : X.M y) : y < h.size := by
  obtain ⟨XD, p, c, A⟩ := H
  rcases (A.m y).1 hy with rfl | q | q
  · exact (Array.getElem?_eq_some_iff.1 A.blk).1
  · exact A.own.blk_lt q
  · exact A.dk.lt y q
theorem Jn.frame {x : JN} {Q : Nat → Prop} (H : Jn h j d X n x s) (f : Fr Q h h') (hq : ∀ y, X.M y → ¬ Q y) : Jn h' j d X n x s := by
  obtain ⟨XD, p, c, A⟩ := H
  exact ⟨XD, p, c, f.get A.blk (hq j ((A.m j).2 (.inl rfl))), A.own.frame f (fun y q => hq y ((A.m y).2 (.inr (.inl q)))), A.dk.frame f (fun y q => hq y ((A.m y).2 (.inr (.inr q)))), A.ok, A.m, A.dd, A.j1, A.j2, A.jp⟩
theorem Jn.on {x : JN} (H : Jn h j d X n x s) (f : Fr No h h') : Jn h' j d X n x s := H.frame f (fun _ _ => id)
theorem Jn.ok {x : JN} (H : Jn h j d X n x s) : x.ok n := by obtain ⟨_, _, _, A⟩ := H; exact A.ok
theorem Jn.nd {x : JN} (H : Jn h j d X n x s) (y : Nat) : ¬ X.D y := by obtain ⟨_, _, _, A⟩ := H; exact A.dd y
theorem JnA.put {G : Prop} {x x1 : JN} {s1 : DS} {p p1 : Option Addr} {c c1 : Nat} {XD1 : Ft} {h1 h2 : Heap} (A : JnA h j d X XD n x s p c) (D1 : Dk h1 d XD1 n s1) (st : StepF XD h XD1 h1) (f : Fr (fun y => y = j) h1 h2)
    (b2 : journal_Journal.atp h2 j (x1.S d n p1 c1)) (hp : (p1 = p ∧ c1 = c ∧ x1.next = x.next) ∨ (p1 = none ∧ c1 = 0 ∧ x1.next = [])) (ok : x1.ok n) (hk : ∀ X', Jn h2 j d X' n x1 s1 → StepF X h X' h2 → G) : G := by
  have jl : j < h.size := (Array.getElem?_eq_some_iff.1 A.blk).1
  have j2 : ¬ XD1.M j := fun q => st.apartM (Q := fun y => y = j) (fun c hc e => A.j2 (e ▸ hc)) (fun c e => e ▸ jl) j q rfl
  have D2 := D1.frame f (fun y hy e => j2 (e ▸ hy))
  have pl : ∀ y, inBlk p y → y < h.size := fun y hy => A.own.blk_lt hy
  have jp : ∀ y, inBlk p y → ¬ XD1.M y := fun y hy q => st.apartM (Q := fun y => inBlk p y) (fun c hc e => A.jp c e hc) pl y q hy
  have o2 : Own h2 p x.next.length c 1 (bc x.next) := (A.own.frame st.fr (fun y hy q => A.jp y hy q)).frame f (fun y hy e => A.j1 (e ▸ hy))
  have fr : Fr X.M h h2 := st.fr.trans f (fun y _ hy => (A.m y).2 (.inr (.inr hy))) (fun y _ e => (A.m y).2 (.inl e))
  refine hk ⟨fun y => y = j ∨ inBlk p1 y ∨ XD1.M y, fun _ => False⟩ ⟨XD1, p1, c1, b2, ?_, D2, ok, fun y => Iff.rfl, fun _ => id, ?_, j2, ?_⟩ ⟨fr, ?_, fun y hy => hy.elim, fun y hy => (A.dd y hy).elim⟩
  · rcases hp with ⟨rfl, rfl, e⟩ | ⟨rfl, rfl, e⟩
    · rw [e]; exact o2
    · rw [e]; exact .nil rfl rfl rfl rfl
  · rcases hp with ⟨rfl, rfl, e⟩ | ⟨rfl, rfl, e⟩
    · exact A.j1
    · rintro ⟨a, e, _⟩; cases e
  · rcases hp with ⟨rfl, rfl, e⟩ | ⟨rfl, rfl, e⟩
    · exact jp
    · rintro y ⟨a, e, _⟩; cases e
  · rintro y (q | q | q)
    · exact .inl ((A.m y).2 (.inl q))
    · rcases hp with ⟨rfl, rfl, e⟩ | ⟨rfl, rfl, e⟩
      · exact .inl ((A.m y).2 (.inr (.inl q)))
      · obtain ⟨a, e, _⟩ := q; cases e
    · exact (st.newM y q).imp (fun q => (A.m y).2 (.inr (.inr q))) id
def jn0 : JN := ⟨1, 0, 0, [], 0, 0, 0, 0, 0, 0, 0⟩
theorem jn0_ok (h4 : 4 ≤ n) (h5 : n ≤ 4096) : jn0.ok n := ⟨h4, h5, Nat.le_refl _, by decide, by decide, Nat.zero_le _, Nat.zero_le _, Nat.zero_le _, by decide⟩
theorem made_ok (H : Dk h d XD n s) (h4 : 4 ≤ n) (h5 : n ≤ 4096) (hk : ∀ g j X, JnA g j d X XD n jn0 s none 0 → Fr No h g → h.size ≤ j → R (pt j) g) :
    Cl 109 #[.pointer (some ⟨d, 0, none⟩), .agg #[.int .u64 1, .int .i64 0, .int .i64 0]] h R := by
  refine journal_made.walk (s := ⟨1, 0, 0⟩) (super_Super.boxp fun b h1 e1 b0 f1 => halves_call (H.on f1) h4 h5 fun h2 f2 => area_Area.ex (halves n).1.S (area_Area.ex (halves n).2.S ⟨_, rfl, newP_of (newP_of ?_)⟩))
  have f3 : Fr No h2 (h2.push (.cells area_Area.S.z.arr 137)) := Fr.push _ _
  generalize hg3 : h2.push (.cells area_Area.S.z.arr 137) = g3 at f3 ⊢
  have a3 : area_Area.atp g3 h2.size area_Area.S.z := hg3 ▸ push_new
  have f4 : Fr No g3 (g3.push (.cells area_Area.S.z.arr 137)) := Fr.push _ _
  generalize hg4 : g3.push (.cells area_Area.S.z.arr 137) = g4 at f4 ⊢
  have a4 : area_Area.atp g4 g3.size area_Area.S.z := hg4 ▸ push_new
  have ne : h2.size < g3.size := by rw [← hg3]; simp
  have z1 := f1.1
  have z2 := f2.1
  have z4 := f4.1
  have lb : b < h1.size := (Array.getElem?_eq_some_iff.1 b0).1
  refine area_Area.setp (x := (halves n).1.S) (f4.get a3 id) fun g5 a5 f5 z5 => ?_
  refine area_Area.setp (x := (halves n).2.S) (f5.get a4 (by omega)) fun g6 a6 f6 z6 => ?_
  have b6 : super_Super.atp g6 b ⟨1, 0, 0⟩ := f6.get (f5.get (f4.get (f3.get (f2.get b0 id) id) id) (by omega)) (by omega)
  refine area_Area.ldp (f6.get a5 (by omega)) (area_Area.ldp a6 (super_Super.ldp b6 (newP_of ?_)))
  have F6 : Fr No h g6 := (((((f1.tt f2).tt f3).tt f4).fresh (S := fun y => y = h2.size) f5 (fun y hy => by omega)).fresh f6 fun y hy => by omega)
  have f7 : Fr No g6 (g6.push (.cells ((jn0).S d n none 0).arr 144)) := Fr.push _ _
  have u6 := F6.1
  have F7 := F6.tt f7
  have D7 := H.on F7
  refine hk _ g6.size ⟨fun y => y = g6.size ∨ inBlk none y ∨ XD.M y, fun _ => False⟩ ⟨push_new, .nil rfl rfl rfl rfl, D7, jn0_ok h4 h5, fun y => Iff.rfl, fun _ => id, ?_, ?_, ?_⟩ F7 u6
  · rintro ⟨a, e, _⟩; cases e
  · intro q; have := H.lt _ q; omega
  · rintro y ⟨a, e, _⟩; cases e
theorem Format_ok (H : Dk h d XD n s) (h4 : 4 ≤ n) (h5 : n ≤ 4096) (hw : s.W.length ≤ 1000)
    (hk : ∀ g j X, Jn g j d X n jn0 (s.put 1 (supB ⟨1, 0, 0⟩)).sync → StepF XD h X g → R (.tuple #[pt j, .int .i64 0]) g) : Cl 72 #[.pointer (some ⟨d, 0, none⟩)] h R := by
  refine journal_Format.walk (sectors_ok H ⟨_, rfl, ?_⟩)
  rw [if_neg (by simp; omega)]
  refine made_ok H h4 h5 fun h1 j X A f1 lj => ⟨_, rfl, onSome_some.2 ?_⟩
  have jl : j < h1.size := (Array.getElem?_eq_some_iff.1 A.blk).1
  refine super_Super.ldAp (x := ⟨1, 0, 0⟩) ⟨cell_at A.blk rfl, cell_at A.blk rfl, cell_at A.blk rfl, trivial⟩ (Put_ok (x := ⟨1, 0, 0⟩) A.dk (by omega) ⟨by decide, by decide, by decide, by decide⟩ (by omega) fun h2 X2 D2 st2 => ⟨_, rfl, ?_⟩)
  rw [if_neg (by decide)]
  refine dsync_ok D2 (by omega) (by show (s.W ++ _).length ≤ _; simp; omega) fun h3 X3 D3 st3 => ⟨_, rfl, ?_⟩
  have st := st2.trans st3
  refine A.put D3 st (Fr.refl _ h3) (st.fr.get A.blk A.j2) (.inl ⟨rfl, rfl, rfl⟩) A.ok fun X' J' st' => hk h3 j X' J' ?_
  have u1 := f1.1
  refine ⟨f1.no st.fr, fun y hy => ?_, fun y hy => (J'.nd y hy).elim, fun y hy => (H.nd y hy).elim⟩
  rcases st'.newM y hy with q | q
  · rcases (A.m y).1 q with rfl | ⟨a, e, _⟩ | q
    · exact .inr lj
    · cases e
    · exact .inl q
  · exact .inr (by omega)
theorem amade {p : Option Addr} {c : Nat} {x : JN} (A : JnA h j d X XD n x s p c) (hk : R (.bool true) h) : Cl 57 #[.pointer (some ⟨j, 0, none⟩)] h R :=
  journal_Journal_made.walk ⟨_, cell_at A.blk rfl, hk⟩
theorem Done_ok {x : JN} (H : Jn h j d X n x s) (hk : R (.int .i64 x.done) h) : Cl 84 #[.pointer (some ⟨j, 0, none⟩)] h R := by
  obtain ⟨XD, p, c, A⟩ := H
  refine journal_Journal_Done.walk (amade A ⟨_, rfl, ?_⟩)
  rw [if_neg (by decide)]
  exact ⟨_, cell_at A.blk rfl, hk⟩
theorem area_ld {p : Option Addr} {c k : Nat} {x : JN} {K : area_Area.S → Prop} (A : JnA h j d X XD n x s p c) (hk1 : k ≤ 1) (hk : K (hv n k).S) : area_Area.LDp h ((⟨j, 1, none⟩ : Addr).add (Int.toNat (k : Int) * 2)) K := by
  unfold hv at hk
  by_cases c0 : k = 0
  · subst c0
    exact area_Area.ldAp (x := (halves n).1.S) ⟨cell_at A.blk rfl, cell_at A.blk rfl, trivial⟩ hk
  · obtain rfl : k = 1 := by omega
    exact area_Area.ldAp (x := (halves n).2.S) ⟨cell_at A.blk rfl, cell_at A.blk rfl, trivial⟩ hk
theorem hv_ok (h4 : 4 ≤ n) (k : Nat) : (hv n k).ok n ∧ (hv n k).count * 128 = room n := by
  unfold hv
  have := halves_ok h4
  split
  · exact ⟨this.1, rfl⟩
  · exact ⟨this.2, rfl⟩
def JN.fits (x : JN) (n m : Nat) : Prop := 1 ≤ m ∧ m ≤ 2000 ∧ m + 2 + x.tl.2 ≤ room n
end Jnl
end Go.Proofs.YtmoafceggjgecaaGreatDoor
namespace Go.Proofs.YtmoafceggjgecaaGreatDoor
open Go.Den
open IntKind (wrap)
open Int (toNat)
section
variable {h:Heap} {R:TyP}
variable {d l l_l l_c s:Nat} {self:eid_Eid.S} {l_p:TyO}
theorem flush_half.walk (hv :
 Cl 117 #[.pointer (some ⟨d, 0, none⟩)] h fun v h_1 =>
 area_Area.EX fun t8_0 =>
 area_Area.EX fun t8_1 =>
 ∃ t8_2, v = .tuple #[t8_0.agg, t8_1.agg, .int .i64 t8_2] ∧
 NewP h_1 (.cells area_Area.S.z.arr 137) fun b h_2 =>
 NewP h_2 (.cells area_Area.S.z.arr 137) fun b_1 h_3 =>
 area_Area.STp h_3 ⟨b, 0, none⟩ t8_0 fun h_4 =>
 area_Area.STp h_4 ⟨b_1, 0, none⟩ t8_1 fun h_5 =>
 area_Area.LDp h_5 ⟨b, 0, none⟩ fun t12 =>
 Cl 118 #[t12.agg] h_5 fun v_1 h_6 =>
 ∃ t13, v_1 = .int .i64 t13 ∧
 R (.int .i64 t13) h_6) : Cl 71 #[.pointer (some ⟨d, 0, none⟩)] h R :=
 callsN [] hv
theorem flush_Format.walk (hv :
 NewP h (.cells self.arr 34) fun b h_1 =>
 eid_Eid.LDp h_1 ⟨b, 0, none⟩ fun t10 =>
 Cl 68 #[t10.agg] h_1 fun v h_2 =>
 ∃ t11_0 t11_1, v = .tuple #[.pointer t11_0, .int .i64 t11_1] ∧
 ite (t11_1 != 0)
 (  R (.tuple #[.pointer none, .int .i64 t11_1]) h_2)
 (  Cl 72 #[.pointer (some ⟨d, 0, none⟩)] h_2 fun v_1 h_3 =>
 ∃ t19_0 t19_1, v_1 = .tuple #[.pointer t19_0, .int .i64 t19_1] ∧
 ite (t19_1 != 0)
 (  R (.tuple #[.pointer none, .int .i64 t19_1]) h_3)
 (  Cl 71 #[.pointer (some ⟨d, 0, none⟩)] h_3 fun v_2 h_4 =>
 ∃ t28, v_2 = .int .i64 t28 ∧
 NewP h_4 (.cells #[.pointer t19_0, .pointer t11_0, .int .i64 t28] 96) fun b_1 h_5 =>
 R (.tuple #[.pointer (some ⟨b_1, 0, none⟩), .int .i64 0]) h_5))) : Cl 45 #[.pointer (some ⟨d, 0, none⟩), self.agg] h R :=
 callsN [] hv
theorem flush_Log_made.walk (hv :
 ∃ t9, hcell h ⟨l, 1, none⟩ = some (.pointer t9) ∧
 R (.bool (!t9.isNone)) h) : Cl 28 #[.pointer (some ⟨l, 0, none⟩)] h R :=
 callsN [] hv
theorem flush_Log_State.walk (hv :
 ∃ t8, hcell h ⟨l, 1, none⟩ = some (.pointer t8) ∧
 R (.pointer t8) h) : Cl 13 #[.pointer (some ⟨l, 0, none⟩)] h R :=
 callsN [] hv
theorem flush_Log_Done.walk (hv :
 Cl 28 #[.pointer (some ⟨l, 0, none⟩)] h fun v h_1 =>
 ∃ t4, v = .bool t4 ∧
 ite (!t4)
 (  R (.int .i64 0) h_1)
 (  ∃ t9, hcell h_1 ⟨l, 0, none⟩ = some (.pointer t9) ∧
 Cl 84 #[.pointer t9] h_1 fun v_1 h_2 =>
 ∃ t10, v_1 = .int .i64 t10 ∧
 R (.int .i64 t10) h_2)) : Cl 52 #[.pointer (some ⟨l, 0, none⟩)] h R :=
 callsN [] hv
theorem flush_Log_All.walk (hv :
 Cl 28 #[.pointer (some ⟨l, 0, none⟩)] h fun v h_1 =>
 ∃ t4, v = .bool t4 ∧
 ite (!t4)
 (  R (.int .i64 0) h_1)
 (  ∃ t9, hcell h_1 ⟨l, 0, none⟩ = some (.pointer t9) ∧
 Cl 29 #[.pointer t9] h_1 fun v_1 h_2 =>
 ∃ t10, v_1 = .int .i64 t10 ∧
 R (.int .i64 t10) h_2)) : Cl 12 #[.pointer (some ⟨l, 0, none⟩)] h R :=
 callsN [] hv
theorem slices_IndexFunc_s_s_byte_s_byte.other.walk {s_p : Option Addr} {s_l s_c : Nat} (hv :
 ∃ (I : Int → Heap → Prop) (mu : Int → Heap → Nat), I 0 h ∧ ∀ t8 h_1, I t8 h_1 →
 ite (decide (t8 < ((s_l : Nat) : Int)))
 (  ((0 : Int) ≤ t8 ∧ t8 < ((s_l : Nat) : Int)) ∧
 onSome s_p fun a =>
 ∃ t15_p t15_l t15_c, hcell h_1 (a.add (Int.toNat t8 * 1)) = some (.slice t15_p t15_l t15_c) ∧
 Cl 112 #[.slice t15_p t15_l t15_c] h_1 fun v h_2 =>
 ∃ t16, v = .bool t16 ∧
 ite t16
 (  R (.int .i64 t8) h_2)
 (  (I (IntKind.wrap .i64 (t8 + 1)) h_2 ∧ mu (IntKind.wrap .i64 (t8 + 1)) h_2 < mu t8 h_1)))
 (  R (.int .i64 (-1)) h_1)) : Cl 113 #[.slice s_p s_l s_c, .func (.func 112) #[] #[]] h R :=
 callsN [(6, .loop [(8, sI)])] hv
theorem flush_events.walk (hv :
 ∃ (I : Option Addr → Nat → Nat → Int → Heap → Prop) (mu : Option Addr → Nat → Nat → Int → Heap → Nat), I none 0 0 0 h ∧ ∀ out_p out_l out_c t11 h_1, I out_p out_l out_c t11 h_1 →
 ite (decide (t11 < ((l_l : Nat) : Int)))
 (  ((0 : Int) ≤ t11 ∧ t11 < ((l_l : Nat) : Int)) ∧
 onSome l_p fun a =>
 ∃ t14_p t14_l t14_c, hcell h_1 (a.add (Int.toNat t11 * 1)) = some (.slice t14_p t14_l t14_c) ∧
 ((0 : Int) ≤ 1 ∧ 1 ≤ ((t14_l : Nat) : Int)) ∧
 Cl 169 #[.slice (slBase t14_p t14_c (Int.toNat 1) 1) (t14_l - (Int.toNat 1)) (t14_c - (Int.toNat 1))] h_1 fun v h_2 =>
 event_Event.EX fun t18_0 =>
 ∃ t18_1, v = .tuple #[t18_0.agg, .int .i64 t18_1] ∧
 NewP h_2 (.cells event_Event.S.z.arr 86) fun b h_3 =>
 event_Event.STp h_3 ⟨b, 0, none⟩ t18_0 fun h_4 =>
 JoinP (fun (t28 : Bool) h_5 =>
 ite t28
 (  R (.tuple #[.slice none 0 0, .bool false]) h_5)
 (  event_Event.LDp h_5 ⟨b, 0, none⟩ fun t30 =>
 NewP h_5 (.cells t30.arr 86) fun b_1 h_6 =>
 Dsz (Builtin.append_ #[228, 228] 228 #[.slice out_p out_l out_c, .slice (some ⟨b_1, 0, none⟩) 1 1]) h_6 fun v_1 h_7 =>
 ∃ t32_p t32_l t32_c, v_1 = .slice t32_p t32_l t32_c ∧
 (I t32_p t32_l t32_c (IntKind.wrap .i64 (t11 + 1)) h_7 ∧ mu t32_p t32_l t32_c (IntKind.wrap .i64 (t11 + 1)) h_7 < mu out_p out_l out_c t11 h_1)))
 (fun J =>
 ite (t18_1 != 0)
 (  J true h_4)
 (  ((0 : Int) ≤ 0 ∧ 0 < ((t14_l : Nat) : Int)) ∧
 onSome t14_p fun a_1 =>
 ∃ t26, hcell h_4 (a_1.add (Int.toNat 0 * 1)) = some (.int .u8 t26) ∧
 J (t26 != 69) h_4)))
 (  R (.tuple #[.slice out_p out_l out_c, .bool true]) h_1)) : Cl 115 #[.slice l_p l_l l_c] h R :=
 callsN [(8, .loop [(4, sS), (11, sI)]), (23, .join [(28, sB)])] hv
theorem flush_said.walk (hv :
 Cl 113 #[.slice l_p l_l l_c, .func (.func 112) #[] #[]] h fun v h_1 =>
 ∃ t19, v = .int .i64 t19 ∧
 JoinP (fun (n : Int) h_2 =>
 JoinP (fun (s_1 : Option Addr) h_3 =>
 ((0 : Int) ≤ n ∧ n ≤ ((l_l : Nat) : Int)) ∧
 Cl 115 #[.slice (slBase l_p l_c (Int.toNat n) 1) (l_l - (Int.toNat n)) (l_c - (Int.toNat n))] h_3 fun v_1 h_4 =>
 ∃ t52_0_p t52_0_l t52_0_c t52_1, v_1 = .tuple #[.slice t52_0_p t52_0_l t52_0_c, .bool t52_1] ∧
 ite (!t52_1)
 (  R (.tuple #[.pointer none, .int .i64 3]) h_4)
 (  Cl 116 #[.pointer s_1, .slice t52_0_p t52_0_l t52_0_c] h_4 fun v_2 h_5 =>
 ∃ t60_0 t60_1, v_2 = .tuple #[.int .i64 t60_0, .int .i64 t60_1] ∧
 ite (t60_1 != 0)
 (  R (.tuple #[.pointer none, .int .i64 3]) h_5)
 (  R (.tuple #[.pointer s_1, .int .i64 0]) h_5)))
 (fun J_1 =>
 ite (decide (n > 0))
 (  ((0 : Int) ≤ n ∧ n ≤ ((l_c : Nat) : Int)) ∧
 ∃ (I : Option Addr → Nat → Nat → Int → Heap → Prop) (mu : Option Addr → Nat → Nat → Int → Heap → Nat), I none 0 0 0 h_2 ∧ ∀ first_p first_l first_c t30 h_6, I first_p first_l first_c t30 h_6 →
 ite (decide (t30 < (((Int.toNat n) - 0 : Nat) : Int)))
 (  ((0 : Int) ≤ t30 ∧ t30 < (((Int.toNat n) - 0 : Nat) : Int)) ∧
 onSome (slBase l_p l_c 0 1) fun a =>
 ∃ t33_p t33_l t33_c, hcell h_6 (a.add (Int.toNat t30 * 1)) = some (.slice t33_p t33_l t33_c) ∧
 ((0 : Int) ≤ 1 ∧ 1 ≤ ((t33_l : Nat) : Int)) ∧
 NewP h_6 (.cells #[.slice (slBase t33_p t33_c (Int.toNat 1) 1) (t33_l - (Int.toNat 1)) (t33_c - (Int.toNat 1))] 48) fun b h_7 =>
 Dsz (Builtin.append_ #[44, 44] 44 #[.slice first_p first_l first_c, .slice (some ⟨b, 0, none⟩) 1 1]) h_7 fun v_3 h_8 =>
 ∃ t38_p t38_l t38_c, v_3 = .slice t38_p t38_l t38_c ∧
 (I t38_p t38_l t38_c (IntKind.wrap .i64 (t30 + 1)) h_8 ∧ mu t38_p t38_l t38_c (IntKind.wrap .i64 (t30 + 1)) h_8 < mu first_p first_l first_c t30 h_6))
 (  Cl 114 #[.slice first_p first_l first_c] h_6 fun v_4 h_9 =>
 ∃ t42_0 t42_1, v_4 = .tuple #[.pointer t42_0, .int .i64 t42_1] ∧
 ite (t42_1 != 0)
 (  R (.tuple #[.pointer none, .int .i64 3]) h_9)
 (  J_1 t42_0 h_9)))
 (  J_1 (some ⟨s, 0, none⟩) h_2)))
 (fun J =>
 ite (decide (t19 < 0))
 (  J ((l_l : Nat) : Int) h_1)
 (  J t19 h_1))) : Cl 70 #[.slice l_p l_l l_c, .pointer (some ⟨s, 0, none⟩)] h R :=
 callsN [(9, .join [(7, sI)]), (15, .join [(1, sP)]), (22, .loop [(8, sS), (30, sI)])] hv
theorem flush_Open.walk (hv :
 NewP h (.cells self.arr 34) fun b h_1 =>
 eid_Eid.LDp h_1 ⟨b, 0, none⟩ fun t11 =>
 Cl 68 #[t11.agg] h_1 fun v h_2 =>
 ∃ t12_0 t12_1, v = .tuple #[.pointer t12_0, .int .i64 t12_1] ∧
 ite (t12_1 != 0)
 (  R (.tuple #[.pointer none, .int .i64 t12_1]) h_2)
 (  Cl 69 #[.pointer (some ⟨d, 0, none⟩)] h_2 fun v_1 h_3 =>
 ∃ t20_0 t20_1_p t20_1_l t20_1_c t20_2, v_1 = .tuple #[.pointer t20_0, .slice t20_1_p t20_1_l t20_1_c, .int .i64 t20_2] ∧
 ite (t20_2 != 0)
 (  R (.tuple #[.pointer none, .int .i64 t20_2]) h_3)
 (  Cl 70 #[.slice t20_1_p t20_1_l t20_1_c, .pointer t12_0] h_3 fun v_2 h_4 =>
 ∃ t30_0 t30_1, v_2 = .tuple #[.pointer t30_0, .int .i64 t30_1] ∧
 ite (t30_1 != 0)
 (  R (.tuple #[.pointer none, .int .i64 t30_1]) h_4)
 (  Cl 71 #[.pointer (some ⟨d, 0, none⟩)] h_4 fun v_3 h_5 =>
 ∃ t39, v_3 = .int .i64 t39 ∧
 NewP h_5 (.cells #[.pointer t20_0, .pointer t30_0, .int .i64 t39] 96) fun b_1 h_6 =>
 R (.tuple #[.pointer (some ⟨b_1, 0, none⟩), .int .i64 0]) h_6)))) : Cl 44 #[.pointer (some ⟨d, 0, none⟩), self.agg] h R :=
 callsN [] hv
theorem arrive_Replay.walk (hv :
 ∃ (I : Int → Heap → Prop) (mu : Int → Heap → Nat), I 0 h ∧ ∀ t12 h_1, I t12 h_1 →
 ite (decide (t12 < ((l_l : Nat) : Int)))
 (  ((0 : Int) ≤ t12 ∧ t12 < ((l_l : Nat) : Int)) ∧
 onSome l_p fun a =>
 event_Event.LDp h_1 (a.add (Int.toNat t12 * 24)) fun t16 =>
 NewP h_1 (.cells event_Event.S.z.arr 86) fun b h_2 =>
 event_Event.STp h_2 ⟨b, 0, none⟩ t16 fun h_3 =>
 event_Event.LDp h_3 ⟨b, 0, none⟩ fun t19 =>
 Cl 51 #[.pointer (some ⟨s, 0, none⟩), t19.agg] h_3 fun v h_4 =>
 reply_Reply.EX fun t20_0 =>
 ∃ t20_1, v = .tuple #[t20_0.agg, .int .i64 t20_1] ∧
 NewP h_4 (.cells reply_Reply.S.z.arr 80) fun b_1 h_5 =>
 reply_Reply.STp h_5 ⟨b_1, 0, none⟩ t20_0 fun h_6 =>
 ite (t20_1 != 0)
 (  R (.tuple #[.int .i64 t12, .int .i64 t20_1]) h_6)
 (  (I (IntKind.wrap .i64 (t12 + 1)) h_6 ∧ mu (IntKind.wrap .i64 (t12 + 1)) h_6 < mu t12 h_1)))
 (  R (.tuple #[.int .i64 ((l_l : Nat) : Int), .int .i64 0]) h_1)) : Cl 116 #[.pointer (some ⟨s, 0, none⟩), .slice l_p l_l l_c] h R :=
 callsN [(6, .loop [(12, sI)])] hv

end
section
namespace Flu
open Dsk Area Sup Jnl
variable {h:Heap} {R:TyP} {d n:Nat} {X:Ft} {s:DS}
theorem half_ok (H : Dk h d X n s) (h4 : 4 ≤ n) (h5 : n ≤ 4096) (hk : ∀ g, Fr No h g → R (.int .i64 (room n : Int)) g) : Cl 71 #[.pointer (some ⟨d, 0, none⟩)] h R := by
  refine flush_half.walk (halves_call H h4 h5 fun h2 f2 => area_Area.ex (halves n).1.S (area_Area.ex (halves n).2.S ⟨_, rfl, newP_of (newP_of ?_)⟩))
  have f3 : Fr No h2 (h2.push (.cells area_Area.S.z.arr 137)) := Fr.push _ _
  generalize hg3 : h2.push (.cells area_Area.S.z.arr 137) = g3 at f3 ⊢
  have a3 : area_Area.atp g3 h2.size area_Area.S.z := hg3 ▸ push_new
  have f4 : Fr No g3 (g3.push (.cells area_Area.S.z.arr 137)) := Fr.push _ _
  generalize hg4 : g3.push (.cells area_Area.S.z.arr 137) = g4 at f4 ⊢
  have a4 : area_Area.atp g4 g3.size area_Area.S.z := hg4 ▸ push_new
  have ne : h2.size < g3.size := by rw [← hg3]; simp
  have z2 := f2.1
  refine area_Area.setp (x := (halves n).1.S) (f4.get a3 id) fun g5 a5 f5 z5 => ?_
  refine area_Area.setp (x := (halves n).2.S) (f5.get a4 (by omega)) fun g6 a6 f6 z6 => ?_
  have F6 : Fr No h g6 := ((((f2.tt f3).tt f4).fresh (S := fun y => y = h2.size) f5 (fun y hy => by omega)).fresh f6 fun y hy => by omega)
  have hh := (halves_ok h4).1
  refine area_Area.ldp (f6.get a5 (by omega)) (room_ok hh.2.2.1 (by have := hh.2.2.2; omega) fun g7 f7 => ⟨_, rfl, ?_⟩)
  exact hk g7 (F6.tt f7)

end Flu
end
section
open Go.Fields
namespace Fld
variable {h h0:Heap} {w:Nat} {S:Nat→Prop} {bs:TyL} {e:Int} {R:TyP}
variable {p:TyO} {c n:Nat} {K:Heap→Prop} {t:TyL}
def Wr (h : Heap) (w : Nat) (S : Nat → Prop) (bs : List UInt8) : Prop :=
  ∃ p c, h[w]? = some (.cells #[.bool true, .slice p bs.length c] 167 (0, 0)) ∧ Own h p bs.length c 1 (bc bs) ∧ ¬ inBlk p w ∧ ∀ x, S x ↔ x = w ∨ inBlk p x
theorem Wr.lt (H : Wr h w S bs) : ∀ x, S x → x < h.size := by
  have ⟨p, c, hb, o, _, hs⟩ := H
  intro x hx
  rcases (hs x).1 hx with rfl | hx
  · grind
  · exact o.blk_lt hx
theorem Wr.frame {Q : Nat → Prop} {h' : Heap} (H : Wr h w S bs) (hf : Fr Q h h') (hn : ∀ x, S x → ¬ Q x) : Wr h' w S bs := by
  have ⟨p, c, hb, o, hw, hs⟩ := H
  exact ⟨p, c, hf.get hb (hn w ((hs w).2 (.inl rfl))), o.frame hf (fun x hx => hn x ((hs x).2 (.inr hx))), hw, hs⟩
theorem new_ok (hk : ∀ h' w S, Wr h' w S [] → Fr No h h' → (∀ x, S x → h.size ≤ x) → R (.pointer (some ⟨w, 0, none⟩)) h') : Cl 37 #[] h R := by
  refine fields_New.walk (newP_of (hk _ _ (fun x => x = h.size) ⟨none, 0, push_new, .nil rfl rfl rfl rfl, (fun ⟨a, e, _⟩ => by cases e), fun x => ?_⟩ (Fr.push _ _) (fun x hx => by omega)))
  constructor
  · exact .inl
  · rintro (hx | ⟨a, e, _⟩)
    · exact hx
    · cases e
theorem Wr.store {p':TyO} {c':Nat} {h1 : Heap} {cs : List UInt8} (hb : h[w]? = some (.cells #[.bool true, .slice p bs.length c] 167 (0, 0))) (hw : ¬ inBlk p w) (hs : ∀ x, S x ↔ x = w ∨ inBlk p x)
    (o : Own h1 p' (bs.length + n) c' 1 (bc bs ++ bc cs)) (f : Fr (inBlk p) h h1) (g : ∀ x, inBlk p' x → inBlk p x ∨ h.size ≤ x) (hn : n = cs.length)
    (hk : ∀ h' S', Wr h' w S' (bs ++ cs) → Step S h S' h' → K h') : StoreP h1 ⟨w, 1, none⟩ (.slice p' (bs.length + n) c') K := by
  subst hn
  have hlt := lt_of_get hb
  have hw'  := fun hx => (g w hx).elim hw (fun h2 => by omega)
  refine storeP_blk (f.get hb hw) (by simp) fun h' k1 k2 k3 => ?_
  have f2  := Fr.of_eq k2 k3
  refine hk h' (fun x => x = w ∨ inBlk p' x) ⟨p', c', ?_, ?_, hw', fun x => Iff.rfl⟩ ⟨?_, ?_⟩
  · grind
  · rw [List.length_append, bc_append]
    exact o.frame f2 (fun x hx e => hw' (e ▸ hx))
  · exact f.trans f2 (fun x _ hx => (hs x).2 (.inr hx)) (fun x _ hx => (hs x).2 (.inl hx))
  · grind
theorem Wr.push {x : Int} {b : UInt8} (H : Wr h w S bs) (hl : bs.length ≤ 1099511627786) (hx : x = (b.toNat : Int)) (hk : ∀ h' S', Wr h' w S' (bs ++ [b]) → Step S h S' h' → K h') :
    ∃ (p : Option Addr) (l c : Nat), hcell h ⟨w, 1, none⟩ = some (.slice p l c) ∧
    NewP h (.cells #[.int .u8 x] 5) fun b h_1 =>
    denSem Tryz.prog (Builtin.append_ #[48, 48] 48 #[.slice p l c, .slice (some ⟨b, 0, none⟩) 1 1]) h_1 fun v h_2 =>
    ∃ (q : Option Addr) (m d : Nat), v = .slice q m d ∧ StoreP h_2 ⟨w, 1, none⟩ (.slice q m d) K := by
  have ⟨p, c, hb, o, hw, hs⟩ := H
  refine ⟨p, bs.length, c, cell_at hb rfl, (den_append1 tU uU o rfl (fun v hv => by simp at hv; subst hv; rfl) (by omega) (by omega) ?_)⟩
  intro p' c' h1 o1 f1 g1
  subst hx
  exact ⟨_, _, _, rfl, Wr.store (cs := [b]) hb hw hs o1 f1 g1 rfl hk⟩
def numI (h0 : Heap) (w : Nat) (S0 : Nat → Prop) (bs : List UInt8) (n0 : Nat) (n : Int) (h : Heap) : Prop :=
  ∃ (m : Nat) (S : Nat → Prop) (d : List UInt8), n = (m : Int) ∧ m < 18446744073709551616 ∧ Wr h w S (bs ++ d) ∧ d ++ encNum m = encNum n0 ∧ Step S0 h0 S h
theorem num_ok {n : Int} (k : Nat) (H : Wr h w S bs) (hl : bs.length ≤ 1099511627776) (e : n = (k : Int)) (hn : k < 18446744073709551616)
    (hk : ∀ h' S', Wr h' w S' (bs ++ encNum k) → Step S h S' h' → R (.pointer (some ⟨w, 0, none⟩)) h') : Cl 39 #[.pointer (some ⟨w, 0, none⟩), .int .u64 n] h R := by
  subst e
  refine fields_Writer_Num.walk ?_
  have ⟨p, c, hb, _⟩ := id H
  refine JoinP.of fun J hJ => ⟨true, cell_at hb rfl, ?_⟩
  subst hJ
  refine ⟨numI h w S bs k, fun n _ => n.toNat, ⟨k, S, [], rfl, hn, by grind, rfl, Step.refl _ _⟩, ?_⟩
  rintro _ h2 ⟨m, S2, d, rfl, hm, H2, hd, st⟩
  have hdl  := by
    have := (encNum_len k).2
    omega
  by_cases hgt : (m : Int) > 127
  · simp only [hgt, decide_true, if_true]
    refine H2.push (by grind) (or128 m) fun h5 S5 H5 st5 => ?_
    rw [shr7]
    refine ⟨⟨m / 128, S5, d ++ [UInt8.ofNat (m % 128 + 128)], rfl, by omega, by grind, ?_, st.trans st5⟩, ?_⟩
    · rw [← hd, encNum_step hm, if_pos (by omega)]; simp
    · omega
  · rw [if_neg (by simp only [decide_eq_true_eq]; omega)]
    refine H2.push (by grind) (b := UInt8.ofNat m) (by rfl) fun h5 S5 H5 st5 => (hk h5 S5 ?_ (st.trans st5))
    rwa [← hd, encNum_step hm, if_neg (by omega), ← List.append_assoc]
theorem max0 (n : Int) (h2 : n ≤ 9223372036854775807) : IntKind.wrap .u64 (if 0 > n then 0 else n) = ((natOf n : Nat) : Int) := by
  unfold natOf
  split
  · rw [wrap_u64 (by omega) (by omega)]; omega
  · rw [wrap_u64 (by omega) (by omega)]; omega
theorem int_ok {n : Int} (H : Wr h w S bs) (hl : bs.length ≤ 1099511627776) (hn : n ≤ 9223372036854775807)
    (hk : ∀ h' S', Wr h' w S' (bs ++ encNum (natOf n)) → Step S h S' h' → R (.pointer (some ⟨w, 0, none⟩)) h') : Cl 40 #[.pointer (some ⟨w, 0, none⟩), .int .i64 n] h R :=
  fields_Writer_Int.walk (num_ok (natOf n) H hl (max0 n hn) (by unfold natOf; omega) fun h' S' H' st => ⟨_, rfl, hk h' S' H' st⟩)
theorem bool_ok {b : Bool} (H : Wr h w S bs) (hl : bs.length ≤ 1099511627776)
    (hk : ∀ h' S', Wr h' w S' (bs ++ encNum (bit b)) → Step S h S' h' → R (.pointer (some ⟨w, 0, none⟩)) h') : Cl 60 #[.pointer (some ⟨w, 0, none⟩), .bool b] h R := by
  refine fields_Writer_Bool.walk ?_
  cases b
  all_goals simp
  · exact num_ok 0 H hl rfl (by omega) fun h' S' H' st => ⟨_, rfl, hk h' S' H' st⟩
  · exact num_ok 1 H hl rfl (by omega) fun h' S' H' st => ⟨_, rfl, hk h' S' H' st⟩
theorem text_ok' (H : Wr h w S bs) (hl : bs.length ≤ 1099511627776) (hr : Row h p (bc t)) (hn : n = t.length) (ht : t.length ≤ 1099511627776) (hp : ∀ x, inBlk p x → t ≠ [] → ¬ S x)
    (hk : ∀ h' S', Wr h' w S' (bs ++ encText t) → Step S h S' h' → R (.pointer (some ⟨w, 0, none⟩)) h') : Cl 38 #[.pointer (some ⟨w, 0, none⟩), .slice p n c] h R := by
  subst hn
  refine fields_Writer_Text.walk (num_ok t.length H hl (wrap_u64 (by omega) (by omega)) (by omega) fun h1 S1 H1 st1 => ⟨_, rfl, ?_⟩)
  have ⟨q, d, hb, o, hw, hs⟩ := H1
  refine JoinP.of fun J hJ => ⟨true, cell_at hb rfl, ?_⟩
  subst hJ
  refine JoinP.of fun J hJ => ⟨q, _, d, cell_at hb rfl, ?_⟩
  have hlen := (encNum_len t.length).2
  rw [List.length_append]
  rw [List.length_append] at o
  refine den_append tU uU o (by
    by_cases hne : t = []
    · rw [hne]; exact .inl rfl
    · exact hr.frame st1.fr (fun a e hx => hp _ ⟨a, e, rfl⟩ hne hx)) (by rw [bc_len, Nat.mul_one]) (bc_one t) (by omega) (by omega) ?_
  intro p' c' h' o1 _ f2 g
  refine ⟨_, _, _, rfl, ?_⟩
  rw [List.length_append] at hb
  have := Wr.store (K := fun h_5 => R (Value.pointer (some { block := w, off := 0 })) h_5) (bs := bs ++ encNum t.length) (by simp;omega) hw hs (by simp;omega) f2 g rfl fun h2 S2 H2 st2 => ?_
  · grind
  · exact hk h2 S2 (by rwa [List.append_assoc] at H2) (st1.trans st2)
theorem text_ok (H : Wr h w S bs) (hl : bs.length ≤ 1099511627776) (hr : Row h p (bc t)) (hn : n = t.length) (ht : t.length ≤ 1099511627776) (hp : ∀ x, inBlk p x → ¬ S x)
    (hk : ∀ h' S', Wr h' w S' (bs ++ encText t) → Step S h S' h' → R (.pointer (some ⟨w, 0, none⟩)) h') : Cl 38 #[.pointer (some ⟨w, 0, none⟩), .slice p n c] h R :=
  text_ok' H hl hr hn ht (fun x hx _ => hp x hx) hk
theorem bytes_ok (H : Wr h w S bs) (hl : bs.length ≤ 70368744177664)
    (hk : ∀ p' c' h', Own h' p' bs.length c' 1 (bc bs) → Fr No h h' → (∀ x, inBlk p' x → h.size ≤ x) → R (.slice p' bs.length c') h') : Cl 41 #[.pointer (some ⟨w, 0, none⟩)] h R := by
  have ⟨p, c, hb, o, hw, hs⟩ := H
  exact fields_Writer_Bytes.walk ⟨p, _, c, cell_at hb rfl, clone_ok o.row' rfl hl fun p' c' h' o1 f1 g1 => ⟨_, _, _, rfl, hk p' c' h' o1 f1 g1⟩⟩

end Fld
end
end Go.Proofs.YtmoafceggjgecaaGreatDoor
namespace Go.Den
theorem den_s2b {P : Program} {sT dT e : TypeId} {h : Heap} {s : ByteArray} {K : Value → Heap → Prop} (hs : P.underlying sT = some .string) (hd : P.underlying dT = some (.slice e)) (he : P.underlying e = some (.int .u8))
    (hk : ∀ p c h', Row h' p (bc s.data.toList) → s.size ≤ c → Fr No h h' → (∀ y, inBlk p y → h.size ≤ y) → K (.slice p s.size c) h') : denSem P (convert sT dT (.string s)) h K := by
  unfold convert
  refine den_of_rd (s := underlying sT) (rd_underlying hs) ?_
  refine den_of_rd (s := underlying dT) (rd_underlying hd) ?_
  show denSem P (underlying e >>= _) h K
  refine den_of_rd (s := underlying e) (rd_underlying he) ?_
  show denSem P (Conv.stringToBytes e s) h K
  unfold Conv.stringToBytes
  rw [den_bind]
  unfold choose
  simp only [denSem, Question.forced, Bool.false_eq_true, if_false, Question.cut]
  intro tq
  generalize hcap : s.size + tq % (2 ^ 63 - s.size) = cap
  have hle : s.size ≤ cap := by omega
  generalize hcs : (s.data.map fun b => Value.int .u8 (b.toNat : Int)) ++ Array.replicate (cap - s.size) (Value.int .u8 0) = cs
  have hrow : ∀ j v, (bc s.data.toList)[j]? = some v → cs[0 + j]? = some v := fun j v hj => by
    have hjl := (List.getElem?_eq_some_iff.1 hj).1
    rw [bc_len, Array.length_toList] at hjl
    rw [← hcs, Nat.zero_add, Array.getElem?_append_left (by simpa using hjl), Array.getElem?_map, ← hj]
    unfold bc
    rw [List.getElem?_map, Array.getElem?_toList]
  show denSem P (newRow e cs >>= _) h K
  rw [den_bind]
  show denSem P (markStringish ⟨h.size, 0, none⟩ >>= fun _ => pure (.slice (some ⟨h.size, 0, none⟩) s.size cap)) (h.push (.cells cs e)) K
  rw [den_bind]
  unfold markStringish shape
  have hsh : hshape (h.push (.cells cs e)) h.size = some (e, cs.size) := by simp [hshape]
  show denSem P (match hshape (h.push (.cells cs e)) h.size with | some (_, n) => freeze { block := h.size, off := n } 1 | _ => pure ()) (h.push (.cells cs e)) _
  rw [hsh]
  show K (.slice (some ⟨h.size, 0, none⟩) s.size cap) (hfreeze (h.push (.cells cs e)) { block := h.size, off := cs.size } 1)
  unfold hfreeze
  rw [if_neg (by omega)]
  refine hk _ _ _ (.inr ⟨_, rfl, heldL_blk (c := cs) (t := e) (f := if (0 : Nat) == 0 then (cs.size, cs.size + 1) else (min 0 cs.size, max 0 (cs.size + 1))) ?_ hrow⟩) hle ⟨by simp, fun c hc _ => ?_⟩ (fun y ⟨a, ea, ey⟩ => by cases ea; exact Nat.le_of_eq ey)
  · rw [Array.getElem?_modify, if_pos rfl, push_new]; rfl
  · rw [Array.getElem?_modify, if_neg (by simp; omega), Array.getElem?_push, if_neg (by omega)]
end Go.Den
namespace Go.Proofs.YtmoafceggjgecaaGreatDoor
open Go.Den
namespace Fld
variable {h h' h0 : Heap} {R : Value → Heap → Prop}
theorem s2b {s : ByteArray} {K : Value → Heap → Prop} (hk : ∀ p c h', Row h' p (bc s.data.toList) → s.size ≤ c → Fr No h h' → (∀ y, inBlk p y → h.size ≤ y) → K (.slice p s.size c) h') : denSem Tryz.prog (convert 9 48 (.string s)) h K := den_s2b uS uU u8 hk
end Fld
end Go.Proofs.YtmoafceggjgecaaGreatDoor
namespace Go.Proofs.YtmoafceggjgecaaGreatDoor
open Go.Den
open IntKind (wrap)
open Int (toNat)
section
open Go.Fields
namespace Fld
variable {h h' h0:Heap} {p:TyO} {l c:Nat} {bs:List (TyL)}
abbrev nenc (n : BV) : List Value := [n.val]
theorem tN : SlTy Tryz.prog 44 48 1 24 (.slice none 0 0) := ⟨by kernel_rfl, by kernel_rfl, rfl⟩
theorem uN : Tryz.prog.underlying 44 = some (.slice 48) := by kernel_rfl
theorem nenc_len (n : BV) : (nenc n).length = 1 := rfl
theorem nenc_one (xs : List BV) : ∀ v ∈ xs.flatMap nenc, oneCell v = true := by
  intro v hv
  have ⟨a, _, ha⟩ := List.mem_flatMap.1 hv
  simp at ha
  subst ha; rfl
def BL (h0 h : Heap) (p : Option Addr) (l c : Nat) (bs : List (List UInt8)) : Prop :=
  ∃ (xs : List BV) (D : Nat → Prop), l = xs.length ∧ Own h p l c 1 (xs.flatMap nenc) ∧ xs.map BV.b = bs ∧ (∀ x ∈ xs, x.ok h D) ∧ (∀ y, D y → h0.size ≤ y ∧ y < h.size ∧ ¬ inBlk p y) ∧ ∀ y, inBlk p y → h0.size ≤ y
theorem BL.nil : BL h0 h none 0 0 [] := ⟨[], fun _ => False, rfl, .nil rfl rfl rfl rfl, rfl, (fun x hx => by cases hx), (fun y hy => hy.elim), fun y ⟨a, e, _⟩ => by cases e⟩
theorem BL.on (H : BL h0 h p l c bs) (f : Fr No h h') : BL h0 h' p l c bs := by
  have ⟨xs, D, h1, h2, h3, h4, h5, h6⟩ := H
  exact ⟨xs, D, h1, h2.frame f (fun _ _ => id), h3, fun x hx => (h4 x hx).frame f (fun _ _ => id), fun y hy => ⟨(h5 y hy).1, Nat.lt_of_lt_of_le (h5 y hy).2.1 f.1, (h5 y hy).2.2⟩, h6⟩
theorem BL.len (H : BL h0 h p l c bs) : l = bs.length := by
  have ⟨xs, D, h1, _, h3, _⟩ := H
  rw [h1, ← h3, List.length_map]
theorem BL.lt (H : BL h0 h p l c bs) {y : Nat} (hy : inBlk p y) : y < h.size := by
  have ⟨xs, D, _, h2, _⟩ := H
  exact h2.blk_lt hy
theorem BL.mono {h1 : Heap} (H : BL h1 h p l c bs) (hz : h0.size ≤ h1.size) : BL h0 h p l c bs := by
  have ⟨xs, D, h1, h2, h3, h4, h5, h6⟩ := H
  exact ⟨xs, D, h1, h2, h3, h4, fun y hy => ⟨Nat.le_trans hz (h5 y hy).1, (h5 y hy).2⟩, fun y hy => Nat.le_trans hz (h6 y hy)⟩
theorem BL.push {b : List UInt8} {q' : Option Addr} {d : Nat} {K : Value → Heap → Prop} (H : BL h0 h p l c bs) (up : h0.size ≤ h.size) (o : Own h q' b.length d 1 (bc b)) (hq : ∀ y, inBlk q' y → h0.size ≤ y ∧ ¬ inBlk p y) (hl : l ≤ 1000000)
    (hk : ∀ p' c' h', BL h0 h' p' (l + 1) c' (bs ++ [b]) → Fr (inBlk p) h h' → (∀ y, inBlk p' y → inBlk p y ∨ h.size ≤ y) → K (.slice p' (l + 1) c') h') :
    NewP h (.cells #[.slice q' b.length d] 48) fun b' h1 => denSem Tryz.prog (Builtin.append_ #[44, 44] 44 #[.slice p l c, .slice (some ⟨b', 0, none⟩) 1 1]) h1 K := by
  obtain ⟨xs, D, h1, h2, h3, h4, h5, h6⟩ := H
  refine den_append1 tN uN h2 rfl (fun v hv => by simp at hv; subst hv; rfl) (by omega) (by omega) ?_
  intro p' c' h' o' f' g'
  have lt : ∀ y, inBlk q' y → y < h.size := fun y hy => o.blk_lt hy
  refine hk p' c' h' ⟨xs ++ [⟨q', d, b⟩], fun y => D y ∨ inBlk q' y, by rw [List.length_append, h1]; rfl, ?_, ?_, ?_, ?_, ?_⟩ f' g'
  · rw [List.flatMap_append]; simpa using o'
  · rw [List.map_append, h3]; rfl
  · intro x hx
    rcases List.mem_append.1 hx with hx | hx
    · exact ((h4 x hx).frame f' (fun y hy => (h5 y hy).2.2)).mono (fun y => .inl)
    · simp at hx; subst hx
      exact BV.of_own (o.frame f' (fun y hy => (hq y hy).2)) (fun y => .inr)
  · have z := f'.1
    rintro y (hy | hy)
    · exact ⟨(h5 y hy).1, by have := (h5 y hy).2.1; omega, fun hx => (g' y hx).elim (h5 y hy).2.2 (fun h2 => by have := (h5 y hy).2.1; omega)⟩
    · exact ⟨(hq y hy).1, by have := lt y hy; omega, fun hx => (g' y hx).elim (hq y hy).2 (fun h2 => by have := lt y hy; omega)⟩
  · intro y hy
    rcases g' y hy with h2 | h2
    · exact h6 y h2
    · omega
theorem BL.frame {Q : Nat → Prop} (H : BL h0 h p l c bs) (f : Fr Q h h') (hq : ∀ y, h0.size ≤ y → ¬ Q y) : BL h0 h' p l c bs := by
  have ⟨xs, D, h1, h2, h3, h4, h5, h6⟩ := H
  exact ⟨xs, D, h1, h2.frame f (fun y hy => hq y (h6 y hy)), h3, fun x hx => (h4 x hx).frame f (fun y hy => hq y (h5 y hy).1), fun y hy => ⟨(h5 y hy).1, Nat.lt_of_lt_of_le (h5 y hy).2.1 f.1, (h5 y hy).2.2⟩, h6⟩

end Fld
end
section
variable {h:Heap} {R:TyP}
theorem alarm_New.walk  (hv :
 NewP h (.map #[] 0) fun b h_1 =>
 NewP h_1 (.cells #[.slice none 0 0, .map (some b)] 326) fun b_1 h_2 =>
 R (.pointer (some ⟨b_1, 0, none⟩)) h_2) : Cl 151 #[] h R :=
 callsN [] hv

end
section
open Go.Heapq
namespace Alarm
def enc (es : List E) : List Value := es.flatMap fun e => [.int .i64 e.1, .int .u64 e.2]
theorem enc_cons (e : E) (es : List E) : enc (e :: es) = .int .i64 e.1 :: .int .u64 e.2 :: enc es := rfl
theorem enc_len : ∀ es : List E, (enc es).length = es.length * 2
  | [] => rfl
  | e :: es => by rw [enc_cons]; simp only [List.length_cons, enc_len es]; omega
theorem enc_0 : ∀ {es : List E} {i : Nat}, i < es.length → (enc es)[i * 2]? = some (.int .i64 (at_ es i).1)
  | [], _, h => by simp at h
  | e :: es, 0, _ => rfl
  | e :: es, i + 1, h => by
    rw [enc_cons, show (i + 1) * 2 = i * 2 + 1 + 1 by omega, List.getElem?_cons_succ, List.getElem?_cons_succ, enc_0 (by grind)]
    rfl
theorem enc_1 : ∀ {es : List E} {i : Nat}, i < es.length → (enc es)[i * 2 + 1]? = some (.int .u64 (at_ es i).2)
  | [], _, h => by simp at h
  | e :: es, 0, _ => rfl
  | e :: es, i + 1, h => by
    rw [enc_cons, show (i + 1) * 2 + 1 = i * 2 + 1 + 1 + 1 by omega, List.getElem?_cons_succ, List.getElem?_cons_succ, enc_1 (by grind)]
    rfl
structure Mem (h : Heap) (a : Nat) (p : Option Addr) (cap m : Nat) (es : List E) (g : Int → Option Value) : Prop where
  blk : h[a]? = some (.cells #[.slice p es.length cap, .map (some m)] 326 (0, 0))
  own : Own h p es.length cap 2 (enc es)
  map : MapF h m g
  ne : ¬ inBlk p a
def foot (a : Nat) (p : Option Addr) (m : Nat) (c : Nat) : Prop := c = a ∨ c = m ∨ inBlk p c
variable {h : Heap} {a m cap : Nat} {p : Option Addr} {es : List E} {g : Int → Option Value} {R : Value → Heap → Prop}
theorem Mem.lt (M : Mem h a p cap m es g) {c : Nat} (hc : foot a p m c) : c < h.size := by
  rcases hc with rfl | rfl | hc
  · exact lt_of_get M.blk
  · exact M.map.lt
  · exact M.own.blk_lt hc
theorem Mem.frame {S : Nat → Prop} {h' : Heap} (M : Mem h a p cap m es g) (hf : Fr S h h') (hn : ∀ c, foot a p m c → ¬ S c) : Mem h' a p cap m es g :=
  ⟨hf.get M.blk (hn a (.inl rfl)), M.own.frame hf fun c hc => hn c (.inr (.inr hc)), M.map.frame hf (hn m (.inr (.inl rfl))), M.ne⟩
theorem Mem.hd (M : Mem h a p cap m es g) : hcell h ⟨a, 0, none⟩ = some (.slice p es.length cap) := cell_at M.blk rfl
theorem Mem.some (M : Mem h a p cap m es g) (hn : 0 < es.length) : ∃ ad, p = some ad := by
  have ⟨b, off, hp⟩ := M.own.some (by rw [enc_len]; omega)
  exact ⟨_, hp⟩
theorem Mem.c0 {ad : Addr} (M : Mem h a (.some ad) cap m es g) {i : Nat} (hi : i < es.length) : hcell h (ad.add (i * 2)) = .some (.int .i64 (at_ es i).1) := M.own.cell (enc_0 hi)
theorem Mem.c1 {ad : Addr} (M : Mem h a (.some ad) cap m es g) {i : Nat} (hi : i < es.length) : hcell h ((ad.add (i * 2)).add 1) = .some (.int .u64 (at_ es i).2) := by
  rw [add_add]; exact M.own.cell (enc_1 hi)
end Alarm
end
section
open Go.Heapq
namespace Alarm
variable {h:Heap} {a m cap:Nat} {p:TyO} {es:List E} {g:Int→Option Value} {R:TyP} {S:Nat→Prop} {L:List E}
theorem tI : SlTy Tryz.prog 39 3 1 8 (.int .i64 0) := ⟨by kernel_rfl, by kernel_rfl, rfl⟩
def Good (L : List E) : Prop := ∀ e ∈ L, 1 ≤ e.1 ∧ e.1 ≤ 1099511627776 ∧ 0 ≤ e.2 ∧ e.2 ≤ 1099511627776
def Al (h : Heap) (a : Nat) (S : Nat → Prop) (L : List E) : Prop :=
  ∃ p cap m es g, Mem h a p cap m es g ∧ PlaceOk es g ∧ HeapO (at_ es) es.length ∧ es.Perm L ∧ Sorted L ∧ Good L ∧ ∀ c, S c ↔ foot a p m c
theorem Al.lt (A : Al h a S L) {c : Nat} (hc : S c) : c < h.size := by
  have ⟨p, cap, m, es, g, M, _, _, _, _, _, hS⟩ := A
  exact M.lt ((hS c).1 hc)
theorem Al.frame {Q : Nat → Prop} {h' : Heap} (A : Al h a S L) (hf : Fr Q h h') (hn : ∀ c, S c → ¬ Q c) : Al h' a S L := by
  have ⟨p, cap, m, es, g, M, P, H, pm, so, gd, hS⟩ := A
  exact ⟨p, cap, m, es, g, M.frame hf fun c hc => hn c ((hS c).2 hc), P, H, pm, so, gd, hS⟩
theorem Al.sorted (A : Al h a S L) : Sorted L := by
  have ⟨p, cap, m, es, g, M, P, H, pm, so, gd, hS⟩ := A; exact so
theorem Al.nodup (A : Al h a S L) : (keys L).Nodup := by
  have ⟨p, cap, m, es, g, M, P, H, pm, so, gd, hS⟩ := A
  exact (keys_perm pm).nodup_iff.1 P.1
theorem new_ok (hk : ∀ a S h', Al h' a S [] → (∀ c, S c → h.size ≤ c) → Fr No h h' → R (.pointer (some ⟨a, 0, none⟩)) h') : Cl 151 #[] h R := by
  refine alarm_New.walk ?_
  rintro b h1 rfl rfl b1 h2 rfl rfl
  have f : Fr No (h.push (.map #[] 0)) ((h.push (.map #[] 0)).push (.cells #[.slice none 0 0, .map (some h.size)] 326)) := Fr.push _ _
  refine hk _ (foot (h.push (.map #[] 0)).size none h.size) _ ⟨none, 0, h.size, [], fun _ => none, ⟨push_new, .nil rfl rfl rfl rfl, (MapF.push h).frame f id, ?_⟩, ⟨.nil, ?_, fun _ _ => rfl⟩, ?_, .refl _, .nil, ?_, fun _ => Iff.rfl⟩ ?_ (Fr.tt (Fr.push _ _) f)
  · rintro ⟨_, e, _⟩; cases e
  · simp
  · intro j _ hj; simp at hj
  · intro e he; cases he
  · rintro c (rfl | rfl | ⟨_, e, _⟩)
    · simp
    · omega
    · cases e
def hd (L : List E) : E := L.headD (0, 0)
def may (key t : Int) : Bool := decide (1 ≤ key) && decide (key ≤ 1099511627776) && decide (t ≤ 1099511627776)
theorem may_iff {key t : Int} : may key t = true ↔ 1 ≤ key ∧ key ≤ 1099511627776 ∧ t ≤ 1099511627776 := by simp [may, and_assoc]
def setL (L : List E) (key t : Int) : List E := insertS (dropK L key) (key, t)
def isDue (now : Int) (e : E) : Bool := decide (e.2 ≤ now)

end Alarm
end
section
variable {h:Heap} {R:TyP}
theorem outbox_New.walk  (hv :
 Cl 151 #[] h fun v h_1 =>
 ∃ t1, v = .pointer t1 ∧
 NewP h_1 (.cells #[.slice none 0 0, .int .i64 1, .int .i64 0, .int .i64 0, .int .i64 0, .pointer t1] 163) fun b h_2 =>
 R (.pointer (some ⟨b, 0, none⟩)) h_2) : Cl 107 #[] h R :=
 callsN [] hv
theorem outbox_Box_made.walk {b : Nat} (hv :
 ∃ t9, hcell h ⟨b, 5, none⟩ = some (.pointer t9) ∧
 R (.bool (!t9.isNone)) h) : Cl 66 #[.pointer (some ⟨b, 0, none⟩)] h R :=
 callsN [] hv

end
section
open Go.Fields Go.Heapq
namespace Obx
open Fld
variable {h h':Heap} {b:Nat} {X:Ft} {R:TyP} {c d i:Nat} {L:List E}
structure It where
  num : Nat
  owner : Int
  d : List UInt8
  till : Nat
structure IV where
  num : Nat
  owner : Int
  v : BV
  till : Nat
def IV.abs (x : IV) : It := ⟨x.num, x.owner, x.v.b, x.till⟩
abbrev ienc (x : IV) : List Value := [.int .i64 (x.num : Int), .int .i64 x.owner, x.v.val, .int .u64 (x.till : Int)]
theorem ienc_len (x : IV) : (ienc x).length = 4 := rfl
abbrev IV.agg (x : IV) : Value := .agg #[.int .i64 (x.num : Int), .int .i64 x.owner, x.v.val, .int .u64 (x.till : Int)]
structure BS where
  items : List It
  next : Nat
  taken : Nat
  canc : Nat
  over : Nat
structure Mm (h : Heap) (b : Nat) (X : Ft) (s : BS) (L : List E) (lp : Option Addr) (lc : Nat) (xs : List IV) (a : Nat) (S : Nat → Prop) : Prop where
  blk : h[b]? = some (.cells #[.slice lp xs.length lc, .int .i64 (s.next : Int), .int .i64 (s.taken : Int), .int .i64 (s.canc : Int), .int .i64 (s.over : Int), .pointer (some ⟨a, 0, none⟩)] 163 (0, 0))
  own : Own h lp xs.length lc 4 (xs.flatMap ienc)
  al : Alarm.Al h a S L
  abs : xs.map IV.abs = s.items
  dat : ∀ x ∈ xs, x.v.ok h X.D
  m : ∀ c, X.M c ↔ c = b ∨ inBlk lp c ∨ S c
  bl : ¬ inBlk lp b
  bs : ¬ S b
  ls : ∀ c, inBlk lp c → ¬ S c
  dis : ∀ c, X.M c → ¬ X.D c
  dlt : ∀ c, X.D c → c < h.size
def Bx (h : Heap) (b : Nat) (X : Ft) (s : BS) (L : List E) : Prop := ∃ lp lc xs a S, Mm h b X s L lp lc xs a S
variable {s : BS} {lp : Option Addr} {lc a : Nat} {xs : List IV} {S : Nat → Prop}
theorem Mm.lt (H : Mm h b X s L lp lc xs a S) (y : Nat) (hy : X.M y ∨ X.D y) : y < h.size := by
  rcases hy with hy | hy
  · rcases (H.m y).1 hy with rfl | h1 | h1
    · exact lt_of_get H.blk
    · exact H.own.blk_lt h1
    · exact H.al.lt h1
  · exact H.dlt y hy
theorem Bx.lt (H : Bx h b X s L) (y : Nat) (hy : X.M y ∨ X.D y) : y < h.size := by
  have ⟨lp, lc, xs, a, S, H⟩ := H
  exact H.lt y hy
theorem Mm.frame {Q : Nat → Prop} (H : Mm h b X s L lp lc xs a S) (f : Fr Q h h') (hq : ∀ y, X.M y ∨ X.D y → ¬ Q y) : Mm h' b X s L lp lc xs a S :=
  have hm  := fun y hy => hq y (.inl hy)
  ⟨f.get H.blk (hm b ((H.m b).2 (.inl rfl))), H.own.frame f (fun y hy => hm y ((H.m y).2 (.inr (.inl hy)))), H.al.frame f (fun y hy => hm y ((H.m y).2 (.inr (.inr hy)))), H.abs, fun x hx => (H.dat x hx).frame f (fun y hy => hq y (.inr hy)), H.m, H.bl, H.bs, H.ls, H.dis, fun y hy => Nat.lt_of_lt_of_le (H.dlt y hy) f.1⟩
theorem Bx.frame {Q : Nat → Prop} (H : Bx h b X s L) (f : Fr Q h h') (hq : ∀ y, X.M y ∨ X.D y → ¬ Q y) : Bx h' b X s L := by
  have ⟨lp, lc, xs, a, S, H⟩ := H
  exact ⟨lp, lc, xs, a, S, H.frame f hq⟩
theorem Mm.on (H : Mm h b X s L lp lc xs a S) (f : Fr No h h') : Mm h' b X s L lp lc xs a S := H.frame f (fun _ _ => id)
theorem Mm.len (H : Mm h b X s L lp lc xs a S) : xs.length = s.items.length := by rw [← H.abs, List.length_map]
theorem made_ok (H : Mm h b X s L lp lc xs a S) (hk : R (.bool true) h) : Cl 66 #[.pointer (some ⟨b, 0, none⟩)] h R :=
  outbox_Box_made.walk ⟨_, cell_at H.blk rfl, hk⟩
theorem new_ok (hk : ∀ h' b X, Bx h' b X ⟨[], 1, 0, 0, 0⟩ [] → Fr No h h' → (∀ y, X.M y ∨ X.D y → h.size ≤ y) → R (.pointer (some ⟨b, 0, none⟩)) h') : Cl 107 #[] h R := by
  refine outbox_New.walk (Alarm.new_ok fun a S h1 A1 g1 f1 => ⟨_, rfl, newP_of ?_⟩)
  have f2 : Fr No h1 (h1.push (.cells #[.slice none 0 0, .int .i64 1, .int .i64 0, .int .i64 0, .int .i64 0, .pointer (some ⟨a, 0, none⟩)] 163)) := Fr.push _ _
  refine hk _ h1.size ⟨fun y => y = h1.size ∨ inBlk none y ∨ S y, fun _ => False⟩ ⟨none, 0, [], a, S, ⟨push_new, .nil rfl rfl rfl rfl, A1.frame f2 (fun _ _ => id), rfl, (fun x hx => by cases hx), fun _ => Iff.rfl, (fun ⟨a, e, _⟩ => by cases e), fun hs => ?_, (fun y ⟨a, e, _⟩ => by cases e), fun _ _ => id, fun _ hy => hy.elim⟩⟩ (f1.tt f2) ?_
  · have := A1.lt hs; omega
  · rintro y ((rfl | ⟨a, e, _⟩ | hs) | hy)
    · exact f1.1
    · cases e
    · grind
    · grind
def rightB (owner : Int) (n : Nat) (till : Int) : Bool := decide (1 ≤ owner) && decide (owner ≤ 1099511627776) && decide (1 ≤ n) && decide (n ≤ 600) && decide (till ≤ 1099511627776)
def cutI (xs : List It) (i : Nat) : List It := xs.take i ++ xs.drop (i + 1)
end Obx
end
section
open Go.Fields Go.Heapq
namespace Obx
open Alarm (isDue)
variable {L:List E} {s:BS} {items:List It}
def It.kv (x : It) : E := ((x.num : Int), (x.till : Int))
structure okB (s : BS) (L : List E) : Prop where
  le : s.items.length ≤ 16
  pm : L.Perm (s.items.map It.kv)
  it : ∀ x ∈ s.items, 1 ≤ x.num ∧ x.num < s.next ∧ 1 ≤ x.d.length ∧ x.d.length ≤ 600 ∧ 1 ≤ x.owner ∧ x.owner ≤ 1099511627776 ∧ x.till ≤ 1099511627776
  inc : (s.items.map It.num).Pairwise (· < ·)
  cnt : s.next = 1 + s.items.length + s.taken + s.canc + s.over
theorem okB.nil : okB ⟨[], 1, 0, 0, 0⟩ [] := ⟨by simp, .refl _, by simp, .nil, rfl⟩
def delI (items : List It) (num : Int) : List It := items.filter (fun y => !decide ((y.num : Int) = num))
theorem cutI_del : ∀ {items : List It} {i : Nat} {x : It}, (items.map It.num).Pairwise (· < ·) → items[i]? = some x → cutI items i = delI items (x.num : Int)
  | [], i, x, _, h => by simp at h
  | y :: r, 0, x, hp, h => by
    simp at h
    subst h
    rw [List.map_cons, List.pairwise_cons] at hp
    unfold cutI delI
    rw [List.filter_cons]
    simp only [decide_true, Bool.not_true, Bool.false_eq_true, if_false, List.take_zero, List.nil_append, List.drop_succ_cons, List.drop_zero]
    symm
    rw [List.filter_eq_self]
    intro z hz
    have := hp.1 z.num (List.mem_map_of_mem hz)
    have : ¬ (z.num) = (y.num : Int) := by omega
    simp [this]
  | y :: r, i + 1, x, hp, h => by
    rw [List.map_cons, List.pairwise_cons] at hp
    have ih := cutI_del hp.2 h
    have hx := hp.1 x.num (List.mem_map_of_mem (List.mem_of_getElem? h))
    have hne : ¬ (y.num) = (x.num : Int) := by omega
    unfold cutI delI at ih ⊢
    rw [List.filter_cons]
    simp only [hne, decide_false, Bool.not_false, if_true, List.take_succ_cons, List.drop_succ_cons, List.cons_append]
    rw [ih]

end Obx
end
section
variable {h:Heap} {R:TyP}
theorem quota_New.walk {whole : Int} {share : Int} (hv :
 JoinP (fun (t20 : Bool) h_1 =>
 ite t20
 (  R (.tuple #[.pointer none, .int .i64 1]) h_1)
 (  NewP h_1 (.map #[] 0) fun b h_2 =>
 NewP h_2 (.cells #[.int .i64 whole, .int .i64 share, .map (some b), .int .i64 0] 266) fun b_1 h_3 =>
 R (.tuple #[.pointer (some ⟨b_1, 0, none⟩), .int .i64 0]) h_3))
 (fun J =>
 ite (decide (whole < 1))
 (  J true h)
 (  ite (decide (whole > 1048576))
 (  J true h)
 (  ite (decide (share < 1))
 (  J true h)
 (  J (decide (share > whole)) h))))) : Cl 103 #[.int .i64 whole, .int .i64 share] h R :=
 callsN [(4, .join [(20, sB)])] hv

end
section
namespace Quota
def PurseAt (h : Heap) (p m : Nat) (W S A : Int) (f : Int → Int) : Prop :=
  h[p]? = some (.cells #[.int .i64 W, .int .i64 S, .map (some m), .int .i64 A] 266 (0, 0)) ∧
  ∃ g : Int → Option Value, MapF h m g ∧ ∀ k, (g k).getD (.int .i64 0) = .int .i64 (f k)
def Ok (W S A : Int) (f : Int → Int) : Prop := 1 ≤ S ∧ S ≤ W ∧ W ≤ 1048576 ∧ -2000000000000 ≤ A ∧ A ≤ W ∧ ∀ k, 0 ≤ f k ∧ f k ≤ S
variable {h : Heap} {p m : Nat} {W S A : Int} {f : Int → Int} {R : Value → Heap → Prop}
theorem PurseAt.frame {Q : Nat → Prop} {h' : Heap} (hp : PurseAt h p m W S A f) (hf : Fr Q h h') (h1 : ¬ Q p) (h2 : ¬ Q m) : PurseAt h' p m W S A f := by
  have ⟨hb, g, hg, hgf⟩ := hp
  exact ⟨hf.get hb h1, g, hg.frame hf h2, hgf⟩
theorem PurseAt.lt (hp : PurseAt h p m W S A f) : p < h.size ∧ m < h.size := ⟨lt_of_get hp.1, by have ⟨_, g, hg, _⟩ := hp; exact hg.lt⟩
def may (o n : Int) : Bool := decide (1 ≤ o) && decide (o ≤ 1099511627776) && decide (0 ≤ n)
theorem may_iff {o n : Int} : may o n = true ↔ 1 ≤ o ∧ o ≤ 1099511627776 ∧ 0 ≤ n := by simp [may, and_assoc]
def fits (W S A : Int) (f : Int → Int) (o n : Int) : Bool := may o n && decide (n ≤ S - f o) && decide (n ≤ W - A)
theorem fits_iff {o n : Int} : fits W S A f o n = true ↔ (1 ≤ o ∧ o ≤ 1099511627776 ∧ 0 ≤ n) ∧ n ≤ S - f o ∧ n ≤ W - A := by
  simp [fits, may_iff, and_assoc]
def newOk (W S : Int) : Bool := decide (1 ≤ W) && decide (W ≤ 1048576) && decide (1 ≤ S) && decide (S ≤ W)
theorem newOk_iff : newOk W S = true ↔ 1 ≤ W ∧ W ≤ 1048576 ∧ 1 ≤ S ∧ S ≤ W := by simp [newOk, and_assoc]
theorem new_ok (W S : Int) {h : Heap}
    (k1 : newOk W S = true → ∀ h' p m, PurseAt h' p m W S 0 (fun _ => 0) → h.size ≤ p → h.size ≤ m → Fr No h h' → R (.tuple #[.pointer (some ⟨p, 0, none⟩), .int .i64 0]) h')
    (k2 : newOk W S = false → R (.tuple #[.pointer none, .int .i64 1]) h) : Cl 103 #[.int .i64 W, .int .i64 S] h R := by
  refine quota_New.walk ?_
  simp only [JoinP]
  by_cases h1 : W < 1
  · simpa only [h1, decide_true, if_true] using k2 (by simp [newOk, show ¬ 1 ≤ W by omega])
  · rw [if_neg (by simp only [decide_eq_true_eq]; omega)]
    by_cases h2 : W > 1048576
    · simpa only [h2, decide_true, if_true] using k2 (by simp [newOk, show ¬ W ≤ 1048576 by omega])
    · rw [if_neg (by simp only [decide_eq_true_eq]; omega)]
      by_cases h3 : S < 1
      · simpa only [h3, decide_true, if_true] using k2 (by simp [newOk, show ¬ 1 ≤ S by omega])
      · rw [if_neg (by simp only [decide_eq_true_eq]; omega)]
        by_cases h4 : S > W
        · simpa only [h4, decide_true, if_true] using k2 (by simp [newOk, show ¬ S ≤ W by omega])
        · rw [if_neg (by simp only [decide_eq_true_eq]; omega)]
          rintro b h2' rfl rfl b1 h3' rfl rfl
          refine k1 (newOk_iff.2 (by omega)) _ _ h.size ⟨push_new, fun _ => none, ?_, fun _ => rfl⟩ (by simp) (by simp) ?_
          · exact (MapF.push h).frame (Fr.push (S := fun _ => False) _ _) (by simp)
          · exact (Fr.push h _).trans (Fr.push _ _) (fun _ _ hx => hx) (fun _ _ hx => hx)
end Quota
end
section
namespace Stt
open Obx (It)
variable {l:List It} {x:It} {o:Int}
def tot (l : List It) : Int := (l.map (fun x => (x.d.length : Int))).sum
def own (l : List It) (o : Int) : Int := tot (l.filter (fun x => decide (x.owner = o)))
abbrev okQ (l : List It) : Prop := Quota.Ok 4800 1600 (tot l) (own l)
theorem okQ.nil : okQ [] := ⟨by decide, by decide, by decide, by decide, by decide, fun _ => ⟨Int.le_refl 0, show (0) ≤ 1600 by decide⟩⟩
section
variable {h h' : Heap} {R : Value → Heap → Prop} {p m : Nat}
abbrev Pu (h : Heap) (p m : Nat) (l : List It) : Prop := Quota.PurseAt h p m 4800 1600 (tot l) (own l)
end
end Stt
end
section
variable {h:Heap} {R:TyP}
theorem sessions_New.walk  (hv :
 NewP h (.cells #[.bool true, .slice none 0 0] 119) fun b h_1 =>
 R (.pointer (some ⟨b, 0, none⟩)) h_1) : Cl 104 #[] h R :=
 callsN [] hv

end
section
open Go.Fields
namespace Ses
open Fld
variable {h h' h0:Heap} {t:Nat} {X:Ft} {p:TyO} {c i:Nat}
structure AV where
  id : Nat
  v : BV
abbrev AV.enc (a : AV) : List Value := [.int .u64 (a.id : Int), a.v.val]
structure SC where
  b : Nat
  num : Nat
  token : Nat
  up : Bool
  watch : Bool
  kept : List AV
  kp : Option Addr
  kc : Nat
  notes : List BV
  np : Option Addr
  nc : Nat
structure Ses where
  num : Nat
  token : Nat
  up : Bool
  watch : Bool
  kept : List (Nat × List UInt8)
  notes : List (List UInt8)
def AV.abs (a : AV) : Nat × List UInt8 := (a.id, a.v.b)
def SC.abs (s : SC) : Ses := ⟨s.num, s.token, s.up, s.watch, s.kept.map AV.abs, s.notes.map BV.b⟩
theorem set_same {α : Type} {l : List α} {i : Nat} {v : α} (h : l[i]? = some v) : l.set i v = l := by
  apply List.ext_getElem?
  intro j
  rw [List.getElem?_set]
  split
  · grind
  · rfl
abbrev Lab := Nat → Option Nat
abbrev At (h : Heap) (s : SC) : Prop := sessions_Session.at h s.b (s.num : Int) (s.token : Int) s.up s.watch s.kp s.kept.length s.kc s.np s.notes.length s.nc
structure SesAt (h : Heap) (lab : Lab) (D : Nat → Prop) (i : Nat) (s : SC) : Prop where
  blk : At h s
  lb : lab s.b = some (2 + 3 * i)
  kown : Own h s.kp s.kept.length s.kc 2 (s.kept.flatMap AV.enc)
  kl : ∀ c, inBlk s.kp c → lab c = some (3 + 3 * i)
  nown : Own h s.np s.notes.length s.nc 1 (s.notes.flatMap nenc)
  nl : ∀ c, inBlk s.np c → lab c = some (4 + 3 * i)
  kd : ∀ a ∈ s.kept, a.v.ok h D
  nd : ∀ n ∈ s.notes, n.ok h D
structure Tab (h : Heap) (t : Nat) (lab : Lab) (D : Nat → Prop) (L : List SC) : Prop where
  blk : ∃ p c, h[t]? = some (.cells #[.bool true, .slice p L.length c] 119 (0, 0)) ∧ Own h p L.length c 1 (L.map fun s => .pointer (some ⟨s.b, 0, none⟩)) ∧ ∀ x, inBlk p x → lab x = some 1
  lt0 : lab t = some 0
  ses : ∀ i s, L[i]? = some s → SesAt h lab D i s
  llt : ∀ c r, lab c = some r → c < h.size
  dlt : ∀ c, D c → c < h.size
  ap : ∀ c r, lab c = some r → ¬ D c
def HasB (h : Heap) (t : Nat) (X : Ft) (A : List Ses) (B : List Nat) : Prop :=
  ∃ lab L, Tab h t lab X.D L ∧ L.map SC.abs = A ∧ L.map SC.b = B ∧ ∀ c, X.M c ↔ ∃ r, lab c = some r
def Has (h : Heap) (t : Nat) (X : Ft) (A : List Ses) : Prop := ∃ B, HasB h t X A B
variable {lab : Lab} {D : Nat → Prop} {L : List SC} {A : List Ses}
theorem SesAt.frame {Q : Nat → Prop} {s : SC} (H : SesAt h lab D i s) (f : Fr Q h h') (hq : ∀ c r, lab c = some r → 2 + 3 * i ≤ r → r ≤ 4 + 3 * i → ¬ Q c) (hd : ∀ c, D c → ¬ Q c) : SesAt h' lab D i s :=
  ⟨f.get H.blk (hq _ _ H.lb (by omega) (by omega)), H.lb, H.kown.frame f (fun c hc => hq c _ (H.kl c hc) (by omega) (by omega)), H.kl, H.nown.frame f (fun c hc => hq c _ (H.nl c hc) (by omega) (by omega)), H.nl, fun a ha => (H.kd a ha).frame f hd, fun n hn => (H.nd n hn).frame f hd⟩
theorem HasB.lt {B : List Nat} (H : HasB h t X A B) : ∀ x, X.M x ∨ X.D x → x < h.size := by
  have ⟨lab, L, T, _, _, hS⟩ := H
  rintro x (hx | hd)
  · have ⟨r, hr⟩ := (hS x).1 hx
    exact T.llt x r hr
  · exact T.dlt x hd
theorem HasB.dis {B : List Nat} (H : HasB h t X A B) : ∀ x, X.M x → ¬ X.D x := by
  have ⟨lab, L, T, _, _, hS⟩ := H
  intro x hx
  have ⟨r, hr⟩ := (hS x).1 hx
  exact T.ap x r hr
theorem HasB.frame {B : List Nat} {Q : Nat → Prop} (H : HasB h t X A B) (f : Fr Q h h') (hq : ∀ x, X.M x ∨ X.D x → ¬ Q x) : HasB h' t X A B := by
  have ⟨lab, L, T, e, eB, hS⟩ := H
  have ⟨p, c, hb, own, hp⟩ := T.blk
  have hl  := fun c r hr => hq c (.inl ((hS c).2 ⟨r, hr⟩))
  refine ⟨lab, L, ⟨⟨p, c, f.get hb (hl t _ T.lt0), own.frame f (fun x hx => hl x _ (hp x hx)), hp⟩, T.lt0, fun i s hs => (T.ses i s hs).frame f (fun c r hr _ _ => hl c r hr) (fun c hd => hq c (.inr hd)), ?_, ?_, T.ap⟩, e, eB, hS⟩
  · intro c r hr; exact Nat.lt_of_lt_of_le (T.llt c r hr) f.1
  · intro c hd; exact Nat.lt_of_lt_of_le (T.dlt c hd) f.1
theorem Has.lt (H : Has h t X A) : ∀ x, X.M x ∨ X.D x → x < h.size := by have ⟨B, H⟩ := H; exact H.lt
theorem Has.dis (H : Has h t X A) : ∀ x, X.M x → ¬ X.D x := by have ⟨B, H⟩ := H; exact H.dis
theorem Has.frame {Q : Nat → Prop} (H : Has h t X A) (f : Fr Q h h') (hq : ∀ x, X.M x ∨ X.D x → ¬ Q x) : Has h' t X A := by have ⟨B, H⟩ := H; exact ⟨B, H.frame f hq⟩
open Classical in
open Classical in
theorem tA : SlTy Tryz.prog 72 122 2 32 (.agg #[.int .u64 0, .slice none 0 0]) := ⟨by kernel_rfl, by kernel_rfl, rfl⟩
theorem uA : Tryz.prog.underlying 72 = some (.slice 122) := by kernel_rfl
theorem aenc_len (a : AV) : a.enc.length = 2 := rfl
abbrev IdAt (h : Heap) (b : Nat) (id : Nat) : Prop := h[b]? = some (.cells #[.int .u64 (id : Int)] 32 (0, 0))
def delI (h0 : Heap) (p : Option Addr) (cap b id : Nat) (xs : List AV) (i j : Int) (h : Heap) : Prop :=
  ∃ (a k : Nat) (zs : List AV), i = (a : Int) ∧ j = (k : Int) ∧ a < k ∧ k ≤ xs.length ∧ zs.length = xs.length ∧ zs.take a = (xs.take k).filter (fun x => decide (x.id ≠ id)) ∧ zs.drop k = xs.drop k ∧ Own h p xs.length cap 2 (zs.flatMap AV.enc) ∧ Fr (inBlk p) h0 h ∧ IdAt h b id
end Ses
end
section
namespace Ses
variable {A:List Ses} {s:Ses}
structure okS (i : Nat) (s : Ses) : Prop where
  num : s.num = i + 1
  tk : 1 ≤ s.token ∧ s.token ≤ 2147483648
  kl : s.kept.length ≤ 6
  nl : s.notes.length ≤ 6
  kd : ∀ a ∈ s.kept, a.1 ≤ 1099511627776 ∧ a.2.length ≤ 1000
  nd : ∀ n ∈ s.notes, 1 ≤ n.length ∧ n.length ≤ 600
  ki : (s.kept.map (·.1)).Nodup
structure okA (A : List Ses) : Prop where
  le : A.length ≤ 8
  at_ : ∀ i s, A[i]? = some s → okS i s
  tk : (A.map (·.token)).Nodup
def getA (A : List Ses) (num : Int) : Option Ses := if 1 ≤ num then A[(num - 1).toNat]? else none
theorem getA_some {num : Int} (h : getA A num = some s) : ∃ i : Nat, num = (i : Int) + 1 ∧ A[i]? = some s := by
  unfold getA at h
  split at h
  · exact ⟨(num - 1).toNat, by omega, h⟩
  · cases h
theorem okA.set {i : Nat} {s':Ses} (ok : okA A) (hs : A[i]? = some s) (ht : s'.token = s.token) (h' : okS i s') : okA (A.set i s') := by
  refine ⟨by rw [List.length_set]; exact ok.le, fun j u hj => ?_, ?_⟩
  · rw [List.getElem?_set] at hj
    by_cases e : i = j
    · grind
    · rw [if_neg e] at hj
      exact ok.at_ j u hj
  · rw [List.map_set, ht, set_same (by grind)]
    exact ok.tk
theorem okA.nil : okA [] := ⟨by simp, by simp, by simp⟩

end Ses
end
section
open Go.Fields
namespace Ses
open Fld
variable {h h':Heap} {t:Nat} {X:Ft} {R:TyP} {i:Nat} {D:Nat→Prop} {L:List SC}
theorem new_ok (hk : ∀ h' t X, Has h' t X [] → Fr No h h' → (∀ x, X.M x ∨ X.D x → h.size ≤ x) → R (.pointer (some ⟨t, 0, none⟩)) h') : Cl 104 #[] h R := by
  refine sessions_New.walk (newP_of (hk _ _ ⟨fun x => x = h.size, fun _ => False⟩ ⟨[], fun x => if x = h.size then some 0 else none, [], ⟨⟨none, 0, push_new, .nil rfl rfl rfl rfl, fun x ⟨a, e, _⟩ => by cases e⟩, by simp, fun i s hs => by simp at hs, ?_, fun _ h => h.elim, fun _ _ _ h => h⟩, rfl, rfl, ?_⟩ (Fr.push _ _) (fun x hx => hx.elim (fun e => by omega) False.elim)))
  · grind
  · simp
theorem abs_at {s : SC} (hs : L[i]? = some s) : (L.map SC.abs)[i]? = some s.abs := by grind

end Ses
end
section
open Go.Fields Go.Heapq
namespace Obx
open Fld
variable {h h':Heap} {b:Nat} {X:Ft} {d i:Nat} {L:List E} {s:BS}
def Box (h : Heap) (b : Nat) (X : Ft) (s : BS) : Prop := ∃ L, Bx h b X s L ∧ okB s L
theorem Box.frame {Q : Nat → Prop} (H : Box h b X s) (f : Fr Q h h') (hq : ∀ y, X.M y ∨ X.D y → ¬ Q y) : Box h' b X s := by
  have ⟨L, H, ok⟩ := H
  exact ⟨L, H.frame f hq, ok⟩
theorem Box.on (H : Box h b X s) (f : Fr No h h') : Box h' b X s := H.frame f (fun _ _ => id)
theorem Box.lt (H : Box h b X s) (y : Nat) (hy : X.M y ∨ X.D y) : y < h.size := by
  have ⟨L, H, ok⟩ := H
  exact H.lt y hy
theorem Mm.okL {lp : Option Addr} {lc a : Nat} {xs : List IV} {S : Nat → Prop} (H : Mm h b X s L lp lc xs a S) (ok : okB s L) : L.length < 1000 ∧ xs.length ≤ 16 := by
  have h1 := ok.pm.length_eq
  rw [List.length_map] at h1
  have := ok.le
  have := H.len
  omega
def addE (s : BS) (owner : Int) (d : List UInt8) (till : Nat) : Int := if rightB owner d.length (till : Int) = true then (if s.items.length ≥ 16 then 15 else 0) else 1
theorem del_len {items : List It} {x : It} (hp : (items.map It.num).Pairwise (· < ·)) (hx : items[i]? = some x) : (delI items (x.num : Int)).length + 1 = items.length := by
  have hi := (List.getElem?_eq_some_iff.1 hx).1
  rw [← cutI_del hp hx]
  unfold cutI
  rw [List.length_append, List.length_take, List.length_drop]
  omega

end Obx
end
end Go.Proofs.YtmoafceggjgecaaGreatDoor
