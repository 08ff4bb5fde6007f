/-
  What is proved here: parts of the proof, one behind the other (texts of this work, merged by a program; what the theorem does not use is left out). No condition.
-/
import Derived.Test.YticlajoleibdnaaGreatDoorProg
import Derived.Shelf.Strings.Cut
import Derived.Shelf.Strconv.Itoa4
import Derived.Ground.NamesProg
import Derived.Shelf.Small.Wraps
import Derived.Shelf.Pu.ParseUintPublic10
import Derived.Ground.MpProg
import Derived.Shelf.Strings.Split
import Derived.Shelf.Strconv.Itoa3
import Derived.Shelf.LaysM
import Derived.Shelf.Small.Strs
import Derived.Shelf.Strings.OnBuilder
import Derived.Shelf.Strings.SlTrimAscii
import Derived.Shelf.Strconv.AtoiAll
import Derived.Shelf.LaysC
import Derived.Test.YticlajoleibdnaaGreatDoorMAudya
set_option linter.defProp false
set_option maxRecDepth 100000
set_option maxHeartbeats 4000000
namespace Go.Den
section
variable {P : Program} {ty : TypeId}
theorem den_append_new_i {sT xT elem eT : TypeId} {i : TypeInfo} {z : Value} {h : Heap} {p q : Option Addr} {len cap n cq : Nat} {cs ds : List Value} {K : Value → Heap → Prop}
    (hs : P.underlying sT = some (.slice elem)) (hx : P.underlying xT = some (.slice eT)) (hi : P.info? elem = some i) (hz : i.zero = some z) (hsz : z.cells.size = i.size)
    (hr : Row h p cs) (hcl : cs.length = len * i.size) (hcap : ¬ len + n ≤ cap) (hq : Row h q ds) (hd : ds.length = n * i.size) (hb : (len + n) * i.bytes ≤ 70368744177664) (hb2 : len + n ≤ 9223372036854775807)
    (hk : ∀ p' cap' h', Own h' p' (len + n) cap' i.size (cs ++ ds) → Fr (fun _ => False) h h' → (∀ c, inBlk p' c → h.size ≤ c) → K (.slice p' (len + n) cap') h') :
    denSem P (Builtin.append_ #[sT, xT] ty #[.slice p len cap, .slice q n cq]) h K := by
  unfold Builtin.append_
  refine den_of_rd (s := underlying sT) (rd_underlying hs) ?_
  refine den_of_rd (s := sizeOf elem) (rd_sizeOf hi) ?_
  refine den_of_rd (s := underlying xT) (rd_underlying hx) ?_
  refine den_of_rd (s := (pure false : Sem Bool)) (a := false) rfl ?_
  refine den_of_rd (s := Builtin.lenOf (.slice q n cq)) (a := n) rfl ?_
  show denSem P (if len + n ≤ cap then _ else _) h K
  rw [if_neg hcap]
  have hle := nextslicecap_le (need := len + n) (cap := cap) (by omega)
  refine den_of_rd (s := typeInfo elem) (rd_typeInfo hi) ?_
  have hmax : ¬ (((len + n : Nat) : Int) > IntKind.max .i64 ∧ (False ∨ i.bytes = 0)) := fun hc => by
    have : IntKind.max .i64 = 9223372036854775807 := rfl
    rw [this] at hc; omega
  show denSem P (if (((len + n : Nat) : Int) > IntKind.max .i64 ∧ (false = true ∨ i.bytes = 0)) then _ else _) h K
  rw [if_neg (by simpa using hmax)]
  refine den_of_rd (s := typeInfo elem) (rd_typeInfo hi) ?_
  have hnext : ¬ (Builtin.nextslicecap (len + n) cap * i.bytes > 2 ^ 48) := by
    have h1 : Builtin.nextslicecap (len + n) cap * i.bytes ≤ 2 * (len + n) * i.bytes := Nat.mul_le_mul_right _ hle
    rw [Nat.mul_assoc] at h1
    omega
  show denSem P (if Builtin.nextslicecap (len + n) cap * i.bytes > 2 ^ 48 then _ else _) h K
  rw [if_neg hnext]
  show denSem P (choose (.appendCap (len + n) cap elem) >>= _) h K
  rw [den_bind]
  unfold choose
  simp only [denSem, Question.forced, Bool.false_eq_true, if_false, Question.cut]
  intro tq
  refine den_of_rd (s := typeInfo elem) (rd_typeInfo hi) ?_
  rw [den_bind]
  have hroom : ∀ (m : Nat) (K' : Unit → Heap → Prop), K' () h → denSem P (askRoom m) h K' := fun m K' hk' => by
    unfold askRoom
    split
    · exact hk'
    · exact hk'
  refine hroom _ _ ?_
  refine den_of_rd (s := Builtin.firstCells i.size len (.slice p len cap)) (a := cs.toArray) (rd_firstCells hr hcl) ?_
  refine den_of_rd (s := Builtin.firstCells i.size n (.slice q n cq)) (a := ds.toArray) (rd_firstCells hq hd) ?_
  refine den_of_rd (s := zeroValue elem) (rd_zeroValue hi hz) ?_
  generalize hcap' : len + n + tq % (2 ^ 63 - (len + n)) = cap'
  have hge : len + n ≤ cap' := by omega
  show K (.slice (some ⟨h.size, 0, none⟩) (len + n) cap') (h.push (.cells (cs.toArray ++ ds.toArray ++ Builtin.zeroCells z.cells (cap' - (len + n))) elem))
  have hsize : (cs.toArray ++ ds.toArray ++ Builtin.zeroCells z.cells (cap' - (len + n))).size = cap' * i.size := by
    have h1 : (Builtin.zeroCells z.cells (cap' - (len + n))).size = (cap' - (len + n)) * i.size := by simp [Builtin.zeroCells, hsz]
    have h2 := hcl
    rw [Array.size_append, Array.size_append, h1]
    simp only [List.size_toArray]
    rw [h2, hd, ← Nat.add_mul, ← Nat.add_mul]
    congr 1; omega
  refine hk _ cap' _ (.row h.size 0 _ elem rfl push_new hge (by rw [hsize]; omega) (by rw [List.length_append, hcl, hd, Nat.add_mul]) ?_) (Fr.push _ _) ?_
  · intro j v hj
    rw [Nat.zero_add]
    have hjl : j < (cs ++ ds).length := (List.getElem?_eq_some_iff.1 hj).1
    rw [Array.getElem?_append_left (by simpa using hjl)]
    simpa using hj
  · rintro c ⟨a, e, rfl⟩
    cases e
    exact Nat.le_refl _
theorem den_append_new {sT xT elem eT : TypeId} {sz bytes : Nat} {z : Value} {h : Heap} {p q : Option Addr} {len cap n cq : Nat} {cs ds : List Value} {K : Value → Heap → Prop}
    (T : SlTy P sT elem sz bytes z) (hx : P.underlying xT = some (.slice eT))
    (hr : Row h p cs) (hcl : cs.length = len * sz) (hcap : ¬ len + n ≤ cap) (hq : Row h q ds) (hd : ds.length = n * sz) (hb : (len + n) * bytes ≤ 70368744177664) (hb2 : len + n ≤ 9223372036854775807)
    (hk : ∀ p' cap' h', Own h' p' (len + n) cap' sz (cs ++ ds) → Fr (fun _ => False) h h' → (∀ c, inBlk p' c → h.size ≤ c) → K (.slice p' (len + n) cap') h') :
    denSem P (Builtin.append_ #[sT, xT] ty #[.slice p len cap, .slice q n cq]) h K := by
  obtain ⟨i, hi, rfl, rfl, hz⟩ := T.i
  exact den_append_new_i T.u hx hi hz T.zs hr hcl hcap hq hd hb hb2 hk
end
def Src (h : Heap) (p : Option Addr) (l c : Nat) (bs : List UInt8) : Prop := l = bs.length ∧ (Own h p l c 1 (bc bs) ∨ (Row h p (bc bs) ∧ c = l))
theorem Src.frame {h h' : Heap} {p : Option Addr} {l c : Nat} {bs : List UInt8} {S : Nat → Prop} (H : Src h p l c bs) (f : Fr S h h') (hn : ∀ y, inBlk p y → ¬ S y) : Src h' p l c bs :=
  ⟨H.1, H.2.imp (fun o => o.frame f hn) (fun r => ⟨r.1.frame f (fun a e => hn _ ⟨a, e, rfl⟩), r.2⟩)⟩
theorem Src.own {h : Heap} {p : Option Addr} {l c : Nat} {bs : List UInt8} (o : Own h p bs.length c 1 (bc bs)) (hl : l = bs.length) : Src h p l c bs := by subst hl; exact ⟨rfl, .inl o⟩
theorem den_appendS {P : Program} {ty sT xT elem eT : TypeId} {z : Value} {h : Heap} {p q : Option Addr} {len cap n cq : Nat} {bs ds : List UInt8} {K : Value → Heap → Prop}
    (T : SlTy P sT elem 1 1 z) (hx : P.underlying xT = some (.slice eT)) (H : Src h p len cap bs) (hq : Row h q (bc ds)) (hd : n = ds.length) (hn : 0 < n) (hb : len + n ≤ 70368744177664)
    (hk : ∀ p' cap' h', Own h' p' (bs ++ ds).length cap' 1 (bc (bs ++ ds)) → Fr (inBlk p) h h' → (∀ c, inBlk p' c → inBlk p c ∨ h.size ≤ c) → K (.slice p' (bs ++ ds).length cap') h') :
    denSem P (Builtin.append_ #[sT, xT] ty #[.slice p len cap, .slice q n cq]) h K := by
  obtain ⟨rfl, o | ⟨r, rfl⟩⟩ := H
  · subst hd
    refine den_append T hx o hq (by rw [bc_len, Nat.mul_one]) (bc_one _) (by omega) (by omega) fun p' c' h' o' _ f g => ?_
    rw [← List.length_append] at o' ⊢
    rw [← bc_append] at o'
    exact hk p' c' h' o' f g
  · subst hd
    refine den_append_new T hx r (by rw [bc_len, Nat.mul_one]) (by omega) hq (by rw [bc_len, Nat.mul_one]) (by omega) (by omega) fun p' c' h' o' f g => ?_
    rw [← List.length_append] at o' ⊢
    rw [← bc_append] at o'
    exact hk p' c' h' o' (f.mono fun _ _ => False.elim) (fun c hc => .inr (g c hc))
theorem den_append1S {P : Program} {ty sT xT elem eT ct : TypeId} {z : Value} {h : Heap} {p : Option Addr} {len cap : Nat} {bs : List UInt8} {x : Int} {K : Value → Heap → Prop} (c : UInt8) (hc : x = (c.toNat : Int))
    (T : SlTy P sT elem 1 1 z) (hx : P.underlying xT = some (.slice eT)) (H : Src h p len cap bs) (hb : len + 1 ≤ 70368744177664)
    (hk : ∀ p' cap' h', Own h' p' (bs ++ [c]).length cap' 1 (bc (bs ++ [c])) → Fr (inBlk p) h h' → (∀ y, inBlk p' y → inBlk p y ∨ h.size ≤ y) → K (.slice p' (bs ++ [c]).length cap') h') :
    NewP h (.cells #[.int .u8 x] ct) fun b h1 => denSem P (Builtin.append_ #[sT, xT] ty #[.slice p len cap, .slice (some ⟨b, 0, none⟩) 1 1]) h1 K := by
  subst hc
  refine newP_of ?_
  have f1 : Fr (fun _ => False) h (h.push (.cells #[.int .u8 (c.toNat : Int)] ct)) := Fr.push _ _
  have r : Row (h.push (.cells #[.int .u8 (c.toNat : Int)] ct)) (some ⟨h.size, 0, none⟩) (bc [c]) := row_new (cs := bc [c])
  refine den_appendS T hx (H.frame f1 (fun _ _ => id)) r rfl (by omega) hb fun p' c' h' o f g => hk p' c' h' o (Fr.no f1 f) fun y hy => (g y hy).imp id fun q => by have := f1.1; omega
theorem den_zeros {P : Program} {ty sT xT elem : TypeId} {h : Heap} {p : Option Addr} {len cap n : Nat} {bs : List UInt8} {K : Value → Heap → Prop}
    (T : SlTy P sT elem 1 1 (.int .u8 0)) (hx : P.underlying xT = some (.int .i64)) (own : Own h p len cap 1 (bc bs)) (hl : len = bs.length) (hn : 0 < n) (hb : len + n ≤ 70368744177664)
    (hk : ∀ p' cap' h', Own h' p' (len + n) cap' 1 (bc (bs ++ List.replicate n 0)) → Fr (inBlk p) h h' → (∀ c, inBlk p' c → inBlk p c ∨ h.size ≤ c) → K (.slice p' (len + n) cap') h') :
    denSem P (Builtin.append_ #[sT, xT] ty #[.slice p len cap, .int .i64 (n : Int)]) h K := by
  obtain ⟨i, hi, hsz, hby, hz⟩ := T.i
  have zc : ∀ m, Builtin.zeroCells (Value.int .u8 0).cells m = (List.replicate m (.int .u8 0)).toArray := fun m => by
    apply Array.ext_getElem?
    intro j
    by_cases hj : j < m
    · simp [Builtin.zeroCells, Value.cells, hj, Nat.mod_one]
    · rw [Array.getElem?_eq_none (by simp [Builtin.zeroCells, Value.cells]; omega), Array.getElem?_eq_none (by simp; omega)]
  have ez : bc (List.replicate n 0) = List.replicate n (.int .u8 0) := by unfold bc; rw [List.map_replicate]; rfl
  have hone : ∀ v ∈ List.replicate n (Value.int .u8 0), oneCell v = true := fun v hv => by rw [(List.mem_replicate.1 hv).2]; rfl
  refine den_of_rd (rd_underlying T.u) ?_
  refine den_of_rd (rd_sizeOf hi) ?_
  refine den_of_rd (rd_underlying hx) ?_
  refine den_of_rd rfl ?_
  have hw : IntKind.wrap .i64 (n : Int) = (n : Int) := wrap_id (by omega) (by omega)
  refine den_of_rd (a := (n : Int)) rfl ?_
  rw [hw]
  rw [if_neg (by omega)]
  refine den_of_rd (rd_typeInfo hi) ?_
  rw [if_neg (by rw [hby]; omega)]
  refine den_of_rd (a := n) rfl ?_
  have ra : ∀ g, rd P (if n * i.size = 0 then pure #[] else do pure (Builtin.zeroCells (← zeroValue elem).cells n) : Sem (Array Value)) g = some (List.replicate n (Value.int .u8 0)).toArray := fun g => by
    rw [hsz, if_neg (by omega), rd_bind _ _ _ _ (rd_zeroValue hi hz)]
    show some (Builtin.zeroCells (Value.int .u8 0).cells n) = _
    rw [zc]
  show denSem P (if len + n ≤ cap then _ else _) h K
  by_cases hcap : len + n ≤ cap
  · rw [if_pos hcap]
    refine den_of_rd (ra h) ?_
    cases own with
    | nil hp hl hc hcs => omega
    | row b off c t hp hbk hll hc hlen hcs =>
      subst hp
      show denSem P (storeCells ((⟨b, off, none⟩ : Addr).add (len * i.size)) (List.replicate n (Value.int .u8 0)) >>= fun _ => pure (.slice (some ⟨b, off, none⟩) (len + n) cap)) h K
      rw [add_blk, den_bind, hsz, Nat.mul_one]
      refine splice_set (c := c) (off := off + len) _ 0 h b t _ hone hbk (by simp; omega) ?_
      intro h' c' hb' hs' ho' hn' hsz' hoth
      show K (.slice (some ⟨b, off, none⟩) (len + n) cap) h'
      rw [Nat.mul_one] at hlen
      refine hk _ cap h' (.row b off c' t rfl hb' hcap (by omega) (by rw [bc_len, List.length_append, List.length_replicate]; omega) ?_) (Fr.of_eq hsz' fun x hx => hoth x (fun e => hx ⟨_, rfl, e.symm⟩)) (fun c hc => .inl hc)
      intro j v hj
      rw [bc_append, ez] at hj
      by_cases hjl : j < (bc bs).length
      · rw [List.getElem?_append_left hjl] at hj
        rw [ho' _ (by rw [hlen] at hjl; omega)]; exact hcs j v hj
      · rw [List.getElem?_append_right (by omega)] at hj
        have := hn' _ v hj
        rw [hlen] at this hjl
        rwa [show off + len + 0 + (j - len) = off + j by omega] at this
  · rw [if_neg hcap]
    have hle := nextslicecap_le (need := len + n) (cap := cap) (by omega)
    refine den_of_rd (rd_typeInfo hi) ?_
    have hmax : IntKind.max .i64 = 9223372036854775807 := rfl
    rw [if_neg (by omega)]
    refine den_of_rd (rd_typeInfo hi) ?_
    rw [if_neg (by rw [hby]; omega)]
    rw [den_bind]
    unfold choose
    simp only [denSem, Question.forced, Bool.false_eq_true, if_false, Question.cut]
    intro tq
    refine den_of_rd (rd_typeInfo hi) ?_
    rw [den_bind]
    have hroom : ∀ (m : Nat) (K' : Unit → Heap → Prop), K' () h → denSem P (askRoom m) h K' := fun m K' hk' => by
      unfold askRoom
      split
      · exact hk'
      · exact hk'
    refine hroom _ _ ?_
    refine den_of_rd (rd_firstCells own.row' (by rw [hsz]; exact own.length)) ?_
    refine den_of_rd (ra h) ?_
    refine den_of_rd (rd_zeroValue hi hz) ?_
    generalize hcap' : len + n + tq % (2 ^ 63 - (len + n)) = cap'
    have hge : len + n ≤ cap' := by omega
    have lo := own.length
    rw [bc_len, Nat.mul_one] at lo
    refine hk _ cap' _ (.row h.size 0 _ elem rfl push_new hge ?_ (by rw [bc_len, List.length_append, List.length_replicate]; omega) ?_) (Fr.push _ _) ?_
    · rw [zc]; simp [bc_len]; omega
    · intro j v hj
      rw [Nat.zero_add]
      rw [bc_append, ez] at hj
      have hjl : j < (bc bs ++ List.replicate n (Value.int .u8 0)).length := (List.getElem?_eq_some_iff.1 hj).1
      rw [Array.getElem?_append_left (by simpa using hjl), show ((bc bs).toArray ++ (List.replicate n (Value.int .u8 0)).toArray) = (bc bs ++ List.replicate n (Value.int .u8 0)).toArray from List.append_toArray _ _, List.getElem?_toArray]
      exact hj
    · rintro c ⟨a, e, rfl⟩
      cases e
      exact .inr (Nat.le_refl _)
section
variable {P:Program} {h:Heap}
variable {a:Addr} {i:Nat} {v:Value}
abbrev u8s (bs : List UInt8) : List Value := bs.map fun b => .int .u8 (b.toNat : Int)
theorem loadL_bytes : ∀ (bs : List UInt8) (i : Nat) (F : List Value → Prop), heldL a (u8s bs) i h → F (u8s bs) → loadL h a (List.replicate bs.length (.int .u8)) i F
  | [], _, _, _, hF => hF
  | b :: bs, i, F, hh, hF => by
    rw [List.length_cons, List.replicate_succ]
    exact ⟨_, hh.1, loadL_bytes bs (i + 1) _ hh.2 hF⟩
theorem loadL_u8 {bs : List UInt8} {n:Nat} {F : List Value → Prop} (hn : bs.length = n) (hh : heldL a (u8s bs) i h) (hF : F (u8s bs)) : loadL h a (List.replicate n (.int .u8)) i F := by
  subst hn; exact loadL_bytes bs i F hh hF
theorem exs_u8 : ∀ (bs : List UInt8) (F : List Value → Prop), F (u8s bs) → exs (List.replicate bs.length (.int .u8)) F
  | [], _, hF => hF
  | b :: bs, F, hF => by
    rw [List.length_cons, List.replicate_succ]
    exact ⟨_, exs_u8 bs _ hF⟩
theorem fold_set : ∀ (us : List Value) (k : Nat) (c : Array Value) (off : Nat), off + k + us.length ≤ c.size →
    ∃ c', ((us.zipIdx k).foldl (fun cs (x : Value × Nat) => cs.setIfInBounds (off + x.2) x.1) c) = c' ∧ c'.size = c.size ∧ (∀ j, j < us.length → c'[off + k + j]? = us[j]?) ∧ ∀ j, (j < off + k ∨ off + k + us.length ≤ j) → c'[j]? = c[j]?
  | [], k, c, off, _ => ⟨c, rfl, rfl, fun j hj => by simp at hj, fun _ _ => rfl⟩
  | u :: us, k, c, off, hl => by
    rw [List.length_cons] at hl
    obtain ⟨c', h1, h2, h3, h4⟩ := fold_set us (k + 1) (c.setIfInBounds (off + k) u) off (by simp; omega)
    refine ⟨c', by rw [List.zipIdx_cons, List.foldl_cons]; exact h1, by rw [h2]; simp, fun j hj => ?_, fun j hj => ?_⟩
    · cases j with
      | zero =>
        rw [h4 _ (.inl (by omega))]
        show (c.setIfInBounds (off + k) u)[off + k]? = _
        rw [Array.getElem?_setIfInBounds_self_of_lt (by omega)]; rfl
      | succ j =>
        rw [show off + k + (j + 1) = off + (k + 1) + j by omega, h3 j (by simpa using hj)]; rfl
    · rw [List.length_cons] at hj
      rw [h4 j (by omega), Array.getElem?_setIfInBounds_ne (by omega)]
theorem fill_cons {place : Nat → Option (Nat × Nat)} {cells : Array Value} {off size:Nat} {rest : List (Nat × Value)} (hp : place i = some (off, size)) (hs : v.cells.size = size) (hb : off + v.cells.size ≤ cells.size) :
    Instr.fill place cells ((i, v) :: rest) = Instr.fill place (v.cells.zipIdx.foldl (fun cs (x : Value × Nat) => cs.setIfInBounds (off + x.2) x.1) cells) rest := by
  rw [Instr.fill, hp]
  dsimp only
  rw [if_neg (by simp [hs]; omega)]
theorem buildV_pair {t : TypeId} {fs : Array Field} {i0 i1 it : TypeInfo} {f0 f1 : Field} {us : List Value} {z : Value} (hu : P.underlying t = some (.struct fs)) (hfs : fs = #[f0, f1]) (h0 : P.info? f0.type = some i0) (h1 : P.info? f1.type = some i1) (o0 : f0.offset = 0) (o1 : f1.offset = 1)
    (s0 : i0.size = 1) (s1 : i1.size = us.length) (ht : P.info? t = some it) (hz : it.zero = some z) (zs : z.cells.size = us.length + 1) (hv : oneCell v = true) : BuildV P t #[(0, v), (1, .agg us.toArray)] (.agg (v :: us).toArray) := fun h' => by
  subst hfs
  unfold Instr.build
  have e1 : rd P (zeroValue t) h' = some z := by
    unfold zeroValue
    rw [rd_bind _ _ _ _ (rd_typeInfo ht), hz]; rfl
  rw [rd_bind _ _ _ _ e1, rd_bind _ _ _ _ (rd_underlying hu)]
  have e3 : ∀ (f : Field) (i : TypeInfo), P.info? f.type = some i → rd P (do pure (f.offset, ← sizeOf f.type) : Sem (Nat × Nat)) h' = some (f.offset, i.size) := fun f i hi => by
    rw [rd_bind _ _ _ _ (rd_sizeOf hi)]; rfl
  have e2 : rd P ((#[f0, f1] : Array Field).mapM fun f => do pure (f.offset, ← sizeOf f.type)) h' = some #[(0, 1), (1, us.length)] := by
    simp only [Array.mapM_eq_mapM_toList, List.mapM_cons, List.mapM_nil]
    show rd P (Bind.bind _ (fun l => pure (List.toArray l))) h' = _
    refine (rd_bind _ _ _ [(0, 1), (1, us.length)] ?_).trans rfl
    refine (rd_bind _ _ _ _ (e3 f0 i0 h0)).trans ((rd_bind _ _ _ [(1, us.length)] ((rd_bind _ _ _ _ (e3 f1 i1 h1)).trans ?_)).trans ?_)
    · rw [o1, s1]; rfl
    · rw [o0, s0]; rfl
  rw [rd_bind _ _ _ _ e2]
  have e4 : v.cells = #[v] := by cases v <;> first | rfl | cases hv
  obtain ⟨c', d1, d2, d3, d4⟩ := fold_set us 0 (z.cells.setIfInBounds 0 v) 1 (by simp; omega)
  have e5 : Instr.fill (fun x => #[(0, 1), (1, us.length)][x]?) z.cells [(0, v), (1, .agg us.toArray)] = some (v :: us).toArray := by
    rw [fill_cons (off := 0) (size := 1) rfl (by rw [e4]; rfl) (by rw [e4]; show 0 + 1 ≤ _; omega), e4]
    have e6 : (Array.foldl (fun cs (x : Value × Nat) => cs.setIfInBounds (0 + x.2) x.1) z.cells (#[v] : Array Value).zipIdx) = z.cells.setIfInBounds 0 v := rfl
    rw [e6, fill_cons (off := 1) (size := us.length) rfl (by show us.toArray.size = _; simp) (by show 1 + us.toArray.size ≤ _; simp; omega)]
    show some (Array.foldl (fun cs (x : Value × Nat) => cs.setIfInBounds (1 + x.2) x.1) (z.cells.setIfInBounds 0 v) us.toArray.zipIdx) = _
    rw [← Array.foldl_toList, Array.toList_zipIdx, d1]
    congr 1
    refine Array.ext_getElem? fun j => ?_
    rcases j with _ | j
    · rw [d4 0 (.inl (by omega)), Array.getElem?_setIfInBounds_self_of_lt (by omega)]; simp
    · by_cases hj : j < us.length
      · have := d3 j hj
        rw [show 1 + 0 + j = j + 1 by omega] at this
        rw [this]; simp
      · rw [Array.getElem?_eq_none (by rw [d2]; simp; omega), Array.getElem?_eq_none (by simp; omega)]
  show rd P (match Instr.fill _ z.cells [(0, v), (1, Value.agg us.toArray)] with | some cells => pure (Value.agg cells) | _ => _) h' = _
  rw [e5]
  rfl

end
section
variable {P : Program}
theorem den_makeN {t elem : TypeId} {sz bytes : Nat} {z z0 : Value} {h : Heap} {K : Value → Heap → Prop} (T : SlTy P t elem sz bytes z) (hz0 : z.cells = Array.replicate sz z0) (hsz0 : 0 < sz) (n : Nat) (hb : n * bytes ≤ 70368744177664) (hn : n ≤ 9223372036854775807)
    (hk : ∀ h' p', Own h' p' n n sz (List.replicate (n * sz) z0) → Fr (fun _ => False) h h' → (∀ c, inBlk p' c → h.size ≤ c) → K (.slice p' n n) h') :
    denSem P (Instr.makeSlice t (.int .i64 (n : Int)) (.int .i64 (n : Int))) h K := by
  obtain ⟨i, hi, hsz, rfl, hz⟩ := T.i
  unfold Instr.makeSlice
  refine den_of_rd (s := underlying t) (rd_underlying T.u) ?_
  refine den_of_rd (s := asInt (.int .i64 (n : Int))) (a := (n : Int)) rfl ?_
  refine den_of_rd (s := asInt (.int .i64 (n : Int))) (a := (n : Int)) rfl ?_
  refine den_of_rd (s := typeInfo elem) (rd_typeInfo hi) ?_
  simp only []
  rw [wrap_id (n := (n : Int)) (by omega) (by omega)]
  have hm : (i.bytes : Int) * (n : Int) = ((n * i.bytes : Nat) : Int) := by rw [Nat.mul_comm]; simp
  have hl : (decide ((n : Int) < 0) || decide ((i.bytes : Int) * (n : Int) > 2 ^ 48)) = false := by
    rw [hm]
    have h1 : ¬ (n : Int) < 0 := by omega
    have h2 : ¬ ((n * i.bytes : Nat) : Int) > 2 ^ 48 := by omega
    rw [decide_eq_false h1, decide_eq_false h2]; rfl
  have hc : (((decide ((n : Int) < 0) || decide ((i.bytes : Int) * (n : Int) > 2 ^ 48)) || decide ((n : Int) < 0)) || decide ((n : Int) > (n : Int))) = false := by
    rw [hl]; simp
  rw [if_neg (by rw [hc]; simp)]
  have hroom : ∀ (m : Nat) (K' : Unit → Heap → Prop), K' () h → denSem P (askRoom m) h K' := fun m K' hk' => by
    unfold askRoom
    split
    · exact hk'
    · exact hk'
  rw [den_bind]
  refine hroom _ _ ?_
  refine den_of_rd (s := sizeOf elem) (rd_sizeOf hi) ?_
  rw [Int.toNat_natCast, hsz]
  have fin : ∀ zs : Array Value, (n = 0 ∨ zs = Array.replicate sz z0) → denSem P (newRow elem ((Array.range (n * sz)).map (zs[· % zs.size]!)) >>= fun a => pure (.slice (some a) n n)) h K := by
    intro zs hzs
    show K (.slice (some ⟨h.size, 0, none⟩) n n) (h.push (.cells ((Array.range (n * sz)).map (zs[· % zs.size]!)) elem))
    refine hk _ _ (.row h.size 0 _ elem rfl push_new (Nat.le_refl _) (by simp) (by simp) ?_) (Fr.push _ _) ?_
    · intro j v hj
      have hjn : j < n * sz := by have := (List.getElem?_eq_some_iff.1 hj).1; simpa using this
      have hv : v = z0 := by
        rw [List.getElem?_replicate, if_pos hjn] at hj; exact (Option.some.inj hj).symm
      subst hv
      rcases hzs with hz | rfl
      · rw [hz, Nat.zero_mul] at hjn; omega
      · have hlt : j % sz < sz := Nat.mod_lt _ hsz0
        rw [Nat.zero_add]; simp [hjn, hlt]
    · rintro c ⟨a, e, rfl⟩; cases e; exact Nat.le_refl _
  by_cases h0 : n = 0
  · rw [if_pos (by rw [h0, Nat.zero_mul])]
    exact fin #[] (.inl h0)
  · rw [if_neg (fun e => by rcases Nat.mul_eq_zero.1 e with a | a <;> omega)]
    refine den_of_rd (s := zeroValue elem) (rd_zeroValue hi hz) ?_
    refine den_of_rd (s := (pure z.cells : Sem (Array Value))) (a := z.cells) rfl ?_
    rw [hz0]
    exact fin _ (.inr rfl)
end
section
variable {a:Addr} {len cap sz:Nat} {K:Heap→Prop}
def writeAt : List Value → Nat → List Value → List Value
  | cs, _, [] => cs
  | cs, p, v :: vs => writeAt (cs.set p v) (p + 1) vs
theorem writeAt_len : ∀ (vs cs : List Value) (p : Nat), (writeAt cs p vs).length = cs.length
  | [], cs, p => rfl
  | v :: vs, cs, p => by unfold writeAt; rw [writeAt_len vs, List.length_set]
theorem writeAt_at : ∀ (vs cs : List Value) (p : Nat), p + vs.length ≤ cs.length → ∀ j, (writeAt cs p vs)[j]? = if p ≤ j ∧ j < p + vs.length then vs[j - p]? else cs[j]?
  | [], cs, p, _, j => by unfold writeAt; rw [if_neg (by simp)]
  | v :: vs, cs, p, hl, j => by
    unfold writeAt
    rw [writeAt_at vs _ (p + 1) (by grind) j, List.getElem?_set]
    by_cases h1 : p + 1 ≤ j ∧ j < p + 1 + vs.length
    · grind
    · grind
theorem Own.storeL {p:Nat} : ∀ (vs : List Value) (k : Nat) (h : Heap) (cs : List Value), Own h (.some a) len cap sz cs → (∀ v ∈ vs, oneCell v = true) → p + k + vs.length ≤ cs.length →
    (∀ h', Own h' (.some a) len cap sz (writeAt cs (p + k) vs) → h'.size = h.size → (∀ x, ¬ inBlk (.some a) x → h'[x]? = h[x]?) → K h') → Den.storeL (a.add p) vs k h K
  | [], k, h, cs, o, _, _, hk => hk h o rfl (fun _ _ => rfl)
  | v :: vs, k, h, cs, o, hv, hl, hk => by
    rw [List.length_cons] at hl
    unfold Den.storeL
    rw [hv v List.mem_cons_self]
    rw [add_add]
    refine o.store (by omega) fun h1 o1 s1 q1 => (Own.storeL vs (k + 1) h1 _ o1 (fun u hu => hv u (List.mem_cons_of_mem _ hu)) (by grind) fun h2 o2 s2 q2 => hk h2 ?_ (by omega) (fun x hx => by grind))
    unfold writeAt
    exact o2
theorem Own.storeRow {h : Heap} {α : Type} {enc : α → List Value} {xs : List α} {i : Nat} {y : α} (o : Own h (.some a) len cap sz (xs.flatMap enc)) (henc : ∀ x, (enc x).length = sz) (hone : ∀ v ∈ enc y, oneCell v = true) (hi : i < xs.length)
    (hk : ∀ h', Own h' (.some a) len cap sz ((xs.set i y).flatMap enc) → h'.size = h.size → (∀ x, ¬ inBlk (.some a) x → h'[x]? = h[x]?) → K h') : Den.storeL (a.add (i * sz)) (enc y) 0 h K := by
  have hl := flat_len enc sz henc xs
  have hb  := by
    have := Nat.mul_le_mul_right sz (show i + 1 ≤ xs.length by omega)
    rwa [Nat.add_mul, Nat.one_mul] at this
  refine Own.storeL (enc y) 0 h _ o hone (by grind) fun h' o' s' q' => hk h' ?_ s' q'
  have e : writeAt (xs.flatMap enc) (i * sz + 0) (enc y) = (xs.set i y).flatMap enc := by
    refine flat_set enc sz henc xs i y hi _ (writeAt_len _ _ _) ?_ ?_
    · intro j hj
      rw [writeAt_at _ _ _ (by rw [henc, hl]; omega), henc,if_neg]
      rintro ⟨h1, h2⟩
      rcases hj with hj | hj
      · apply hj
        have hz : 0 < sz := by omega
        rw [Nat.div_eq_iff hz]
        constructor
        · omega
        · omega
      · omega
    · intro j v hj hv
      rw [writeAt_at _ _ _ (by rw [henc, hl]; omega), henc, if_pos (by omega), show i * sz + j - (i * sz + 0) = j by omega]
      exact hv
  rw [e] at o'
  exact o'

end
section
variable {h h':Heap} {X:Ft} {j:Nat}
def In (X : Ft) (y : Nat) : Prop := X.M y ∨ X.D y
abbrev only (X : Ft) (P : Nat → Prop) : Prop := ∀ y, (X.M y ↔ P y) ∧ ¬ X.D y
abbrev pt (b : Nat) : Value := .pointer (some ⟨b, 0, none⟩)
structure Stable (P : Nat → Heap → Ft → Prop) : Prop where
  lt : ∀ {i h X}, P i h X → ∀ y, In X y → y < h.size
  frame : ∀ {i h h' X} {Q : Nat → Prop}, P i h X → Fr Q h h' → (∀ y, In X y → ¬ Q y) → P i h' X
  dis : ∀ {i h X}, P i h X → ∀ y, X.M y → X.D y → False
def Fam (P : Nat → Heap → Ft → Prop) (h : Heap) (X : Ft) : Prop := ∃ Y : Nat → Ft, (∀ i, P i h (Y i)) ∧ (∀ i j y, i ≠ j → In (Y i) y → ¬ In (Y j) y) ∧ (∀ y, X.M y ↔ ∃ i, (Y i).M y) ∧ ∀ y, X.D y ↔ ∃ i, (Y i).D y
variable {P P' : Nat → Heap → Ft → Prop}
theorem Fam.lt (S : Stable P) (H : Fam P h X) (y : Nat) (hy : X.M y ∨ X.D y) : y < h.size := by
  have ⟨Y, hp, _, hm, hd⟩ := H
  rcases hy with hy | hy
  · have ⟨i, hi⟩ := (hm y).1 hy; exact S.lt (hp i) y (.inl hi)
  · have ⟨i, hi⟩ := (hd y).1 hy; exact S.lt (hp i) y (.inr hi)
theorem Fam.frame {Q : Nat → Prop} (S : Stable P) (H : Fam P h X) (f : Fr Q h h') (hq : ∀ y, X.M y ∨ X.D y → ¬ Q y) : Fam P h' X := by
  have ⟨Y, hp, ap, hm, hd⟩ := H
  exact ⟨Y, fun i => S.frame (hp i) f (fun y hy => hq y (hy.imp (fun a => (hm y).2 ⟨i, a⟩) (fun a => (hd y).2 ⟨i, a⟩))), ap, hm, hd⟩
end
end Go.Den
namespace Go.Fields
def natOf (n : Int) : Nat := n.toNat

end Go.Fields
namespace Go.Heapq
abbrev E := Int × Int
def lt (x y : E) : Prop := x.2 < y.2 ∨ (x.2 = y.2 ∧ x.1 < y.1)
def le (x y : E) : Prop := ¬ lt y x
instance (x y : E) : Decidable (lt x y) := inferInstanceAs (Decidable (_ ∨ _))
def HeapO (f : Nat → E) (n : Nat) : Prop := ∀ j, 0 < j → j < n → le (f ((j - 1) / 2)) (f j)
def at_ (es : List E) (i : Nat) : E := es.getD i (0, 0)
def PlaceOk (es : List E) (g : Int → Option Value) : Prop :=
  (es.map (·.1)).Nodup ∧ (∀ j, j < es.length → g (at_ es j).1 = some (.int .i64 j)) ∧ ∀ k, k ∉ es.map (·.1) → g k = none
def Sorted (l : List E) : Prop := l.Pairwise lt
def keys (l : List E) : List Int := l.map (·.1)
def dropK (l : List E) (k : Int) : List E := l.filter (fun e => !(e.1 == k))
def insertS (l : List E) (x : E) : List E := l.filter (fun e => decide (lt e x)) ++ x :: l.filter (fun e => !decide (lt e x))

end Go.Heapq
namespace Go.Proofs.YticlajoleibdnaaGreatDoor
open Go.Den
open IntKind (wrap)
open Int (toNat)
abbrev Cl := CallsH Tryz.prog
abbrev Dsz {α : Type} := @denSem Tryz.prog α
abbrev Lkz := LookV Tryz.prog
abbrev Eqz := EqV Tryz.prog
abbrev eid_Eid.LD (h : Heap) (a : Addr) (K : Bool → Int → Int → ByteArray → ByteArray → Prop) : Prop := ∃ (t0 : Bool), hcell h a = some (.bool t0) ∧ ∃ (t1 : Int), hcell h (a.add 1) = some (.int .u64 t1) ∧ ∃ (t2 : Int), hcell h (a.add 2) = some (.int .u64 t2) ∧ ∃ (t3 : ByteArray), hcell h (a.add 3) = some (.string t3) ∧ ∃ (t4 : ByteArray), hcell h (a.add 4) = some (.string t4) ∧ K t0 t1 t2 t3 t4
abbrev sessions_Answer.LD (h : Heap) (a : Addr) (K : Int → Option Addr → Nat → Nat → Prop) : Prop := ∃ (t0 : Int), hcell h a = some (.int .u64 t0) ∧ ∃ (t1p : Option Addr) (t1l t1c : Nat), hcell h (a.add 1) = some (.slice t1p t1l t1c) ∧ K t0 t1p t1l t1c
abbrev sessions_Answer.ST (h : Heap) (a : Addr) (f0 : Int) (f1p : Option Addr) (f1l f1c : Nat) (K : Heap → Prop) : Prop := StoreP h a (.int .u64 f0) fun h_1 => StoreP h_1 (a.add 1) (.slice f1p f1l f1c) fun h_2 => K h_2
abbrev sessions_Session.LD (h : Heap) (a : Addr) (K : Int → Int → Bool → Bool → Option Addr → Nat → Nat → Option Addr → Nat → Nat → Prop) : Prop := ∃ (t0 : Int), hcell h a = some (.int .i64 t0) ∧ ∃ (t1 : Int), hcell h (a.add 1) = some (.int .u64 t1) ∧ ∃ (t2 : Bool), hcell h (a.add 2) = some (.bool t2) ∧ ∃ (t3 : Bool), hcell h (a.add 3) = some (.bool t3) ∧ ∃ (t4p : Option Addr) (t4l t4c : Nat), hcell h (a.add 4) = some (.slice t4p t4l t4c) ∧ ∃ (t5p : Option Addr) (t5l t5c : Nat), hcell h (a.add 5) = some (.slice t5p t5l t5c) ∧ K t0 t1 t2 t3 t4p t4l t4c t5p t5l t5c
abbrev sessions_Session.ST (h : Heap) (a : Addr) (f0 : Int) (f1 : Int) (f2 : Bool) (f3 : Bool) (f4p : Option Addr) (f4l f4c : Nat) (f5p : Option Addr) (f5l f5c : Nat) (K : Heap → Prop) : Prop := StoreP h a (.int .i64 f0) fun h_1 => StoreP h_1 (a.add 1) (.int .u64 f1) fun h_2 => StoreP h_2 (a.add 2) (.bool f2) fun h_3 => StoreP h_3 (a.add 3) (.bool f3) fun h_4 => StoreP h_4 (a.add 4) (.slice f4p f4l f4c) fun h_5 => StoreP h_5 (a.add 5) (.slice f5p f5l f5c) fun h_6 => K h_6
structure area_Area.S where
  f0 : Int
  f1 : Int
abbrev area_Area.S.l (x : area_Area.S) : List Value := [.int .i64 x.f0, .int .i64 x.f1]
abbrev area_Area.S.arr (x : area_Area.S) : Array Value := x.l.toArray
abbrev area_Area.S.agg (x : area_Area.S) : Value := .agg x.arr
abbrev area_Area.S.z : area_Area.S := ⟨0, 0⟩
abbrev area_Area.EX (K : area_Area.S → Prop) : Prop := ∃ (t0 : Int), ∃ (t1 : Int), K ⟨t0, t1⟩
abbrev area_Area.LDp (h : Heap) (a : Addr) (K : area_Area.S → Prop) : Prop := ∃ (t0 : Int), hcell h a = some (.int .i64 t0) ∧ ∃ (t1 : Int), hcell h (a.add 1) = some (.int .i64 t1) ∧ K ⟨t0, t1⟩
abbrev area_Area.STp (h : Heap) (a : Addr) (x : area_Area.S) (K : Heap → Prop) : Prop := storeL a x.l 0 h K
structure audit_Book.S where
  f0 : Bool
  f1 : Bool
  f2 : Int
  f3 : Int
  f4 : Int
  f5 : Int
  f6 : Int
  f7 : Int
abbrev audit_Book.S.l (x : audit_Book.S) : List Value := [.bool x.f0, .bool x.f1, .int .i64 x.f2, .int .i64 x.f3, .int .i64 x.f4, .int .i64 x.f5, .int .i64 x.f6, .int .i64 x.f7]
abbrev audit_Book.S.arr (x : audit_Book.S) : Array Value := x.l.toArray
abbrev audit_Book.S.agg (x : audit_Book.S) : Value := .agg x.arr
abbrev audit_Book.S.z : audit_Book.S := ⟨false, false, 0, 0, 0, 0, 0, 0⟩
abbrev audit_Book.EX (K : audit_Book.S → Prop) : Prop := ∃ (t0 : Bool), ∃ (t1 : Bool), ∃ (t2 : Int), ∃ (t3 : Int), ∃ (t4 : Int), ∃ (t5 : Int), ∃ (t6 : Int), ∃ (t7 : Int), K ⟨t0, t1, t2, t3, t4, t5, t6, t7⟩
structure conn_Conn.S where
  f0 : Option Addr
  f1p : Option Addr
  f1l : Nat
  f1c : Nat
  f2 : Int
  f3p : Option Addr
  f3l : Nat
  f3c : Nat
  f4 : Int
abbrev conn_Conn.S.l (x : conn_Conn.S) : List Value := [.pointer x.f0, .slice x.f1p x.f1l x.f1c, .int .i64 x.f2, .slice x.f3p x.f3l x.f3c, .int .i64 x.f4]
abbrev conn_Conn.S.arr (x : conn_Conn.S) : Array Value := x.l.toArray
abbrev conn_Conn.S.agg (x : conn_Conn.S) : Value := .agg x.arr
abbrev conn_Conn.EX (K : conn_Conn.S → Prop) : Prop := ∃ (t0 : Option Addr), ∃ (t1p : Option Addr) (t1l t1c : Nat), ∃ (t2 : Int), ∃ (t3p : Option Addr) (t3l t3c : Nat), ∃ (t4 : Int), K ⟨t0, t1p, t1l, t1c, t2, t3p, t3l, t3c, t4⟩
structure daemon_Daemon.S where
  f0 : Option Addr
  f1 : Option Nat
  f2 : Int
  f3 : Option Addr
  f4 : Int
abbrev daemon_Daemon.S.l (x : daemon_Daemon.S) : List Value := [.pointer x.f0, .map x.f1, .int .i64 x.f2, .pointer x.f3, .int .u64 x.f4]
abbrev daemon_Daemon.S.arr (x : daemon_Daemon.S) : Array Value := x.l.toArray
abbrev daemon_Daemon.S.agg (x : daemon_Daemon.S) : Value := .agg x.arr
abbrev daemon_Daemon.EX (K : daemon_Daemon.S → Prop) : Prop := ∃ (t0 : Option Addr), ∃ (t1 : Option Nat), ∃ (t2 : Int), ∃ (t3 : Option Addr), ∃ (t4 : Int), K ⟨t0, t1, t2, t3, t4⟩
structure daemon_Deed.S where
  f0 : Int
  f1 : Int
  f2 : Int
  f3 : Bool
  f4 : Int
  f5 : Int
  f6 : ByteArray
  f7 : ByteArray
  f8 : Bool
  f9 : Int
  f10 : Int
  f11 : ByteArray
  f12 : ByteArray
  f13 : Int
  f14 : Int
  f15 : Int
  f16p : Option Addr
  f16l : Nat
  f16c : Nat
  f17 : Int
  f18 : Int
  f19 : Bool
  f20 : Int
  f21 : Int
  f22 : Int
  f23 : Int
  f24 : Int
  f25 : Int
  f26 : Bool
  f27 : Int
  f28 : Int
  f29 : ByteArray
  f30 : ByteArray
  f31 : Bool
  f32 : Int
  f33 : Int
  f34 : ByteArray
  f35 : ByteArray
  f36 : Int
  f37 : Int
  f38 : Int
  f39p : Option Addr
  f39l : Nat
  f39c : Nat
  f40 : Int
  f41 : Int
  f42 : Bool
  f43p : Option Addr
  f43l : Nat
  f43c : Nat
  f44 : Int
  f45 : Int
  f46 : Int
  f47 : Int
  f48 : Int
  f49p : Option Addr
  f49l : Nat
  f49c : Nat
  f50 : Int
abbrev daemon_Deed.S.l (x : daemon_Deed.S) : List Value := [.int .i64 x.f0, .int .u64 x.f1, .int .i64 x.f2, .bool x.f3, .int .u64 x.f4, .int .u64 x.f5, .string x.f6, .string x.f7, .bool x.f8, .int .u64 x.f9, .int .u64 x.f10, .string x.f11, .string x.f12, .int .i64 x.f13, .int .i64 x.f14, .int .i64 x.f15, .slice x.f16p x.f16l x.f16c, .int .u64 x.f17, .int .u64 x.f18, .bool x.f19, .int .u64 x.f20, .int .i64 x.f21, .int .u64 x.f22, .int .i64 x.f23, .int .u64 x.f24, .int .i64 x.f25, .bool x.f26, .int .u64 x.f27, .int .u64 x.f28, .string x.f29, .string x.f30, .bool x.f31, .int .u64 x.f32, .int .u64 x.f33, .string x.f34, .string x.f35, .int .i64 x.f36, .int .i64 x.f37, .int .i64 x.f38, .slice x.f39p x.f39l x.f39c, .int .u64 x.f40, .int .u64 x.f41, .bool x.f42, .slice x.f43p x.f43l x.f43c, .int .u64 x.f44, .int .i64 x.f45, .int .i64 x.f46, .int .i64 x.f47, .int .u64 x.f48, .slice x.f49p x.f49l x.f49c, .int .i64 x.f50]
abbrev daemon_Deed.S.arr (x : daemon_Deed.S) : Array Value := x.l.toArray
abbrev daemon_Deed.S.agg (x : daemon_Deed.S) : Value := .agg x.arr
abbrev daemon_Deed.S.z : daemon_Deed.S := ⟨0, 0, 0, false, 0, 0, (⟨#[]⟩ : ByteArray), (⟨#[]⟩ : ByteArray), false, 0, 0, (⟨#[]⟩ : ByteArray), (⟨#[]⟩ : ByteArray), 0, 0, 0, none, 0, 0, 0, 0, false, 0, 0, 0, 0, 0, 0, false, 0, 0, (⟨#[]⟩ : ByteArray), (⟨#[]⟩ : ByteArray), false, 0, 0, (⟨#[]⟩ : ByteArray), (⟨#[]⟩ : ByteArray), 0, 0, 0, none, 0, 0, 0, 0, false, none, 0, 0, 0, 0, 0, 0, 0, none, 0, 0, 0⟩
abbrev daemon_Deed.EX (K : daemon_Deed.S → Prop) : Prop := ∃ (t0 : Int), ∃ (t1 : Int), ∃ (t2 : Int), ∃ (t3 : Bool), ∃ (t4 : Int), ∃ (t5 : Int), ∃ (t6 : ByteArray), ∃ (t7 : ByteArray), ∃ (t8 : Bool), ∃ (t9 : Int), ∃ (t10 : Int), ∃ (t11 : ByteArray), ∃ (t12 : ByteArray), ∃ (t13 : Int), ∃ (t14 : Int), ∃ (t15 : Int), ∃ (t16p : Option Addr) (t16l t16c : Nat), ∃ (t17 : Int), ∃ (t18 : Int), ∃ (t19 : Bool), ∃ (t20 : Int), ∃ (t21 : Int), ∃ (t22 : Int), ∃ (t23 : Int), ∃ (t24 : Int), ∃ (t25 : Int), ∃ (t26 : Bool), ∃ (t27 : Int), ∃ (t28 : Int), ∃ (t29 : ByteArray), ∃ (t30 : ByteArray), ∃ (t31 : Bool), ∃ (t32 : Int), ∃ (t33 : Int), ∃ (t34 : ByteArray), ∃ (t35 : ByteArray), ∃ (t36 : Int), ∃ (t37 : Int), ∃ (t38 : Int), ∃ (t39p : Option Addr) (t39l t39c : Nat), ∃ (t40 : Int), ∃ (t41 : Int), ∃ (t42 : Bool), ∃ (t43p : Option Addr) (t43l t43c : Nat), ∃ (t44 : Int), ∃ (t45 : Int), ∃ (t46 : Int), ∃ (t47 : Int), ∃ (t48 : Int), ∃ (t49p : Option Addr) (t49l t49c : Nat), ∃ (t50 : Int), K ⟨t0, t1, t2, t3, t4, t5, t6, t7, t8, t9, t10, t11, t12, t13, t14, t15, t16p, t16l, t16c, t17, t18, t19, t20, t21, t22, t23, t24, t25, t26, t27, t28, t29, t30, t31, t32, t33, t34, t35, t36, t37, t38, t39p, t39l, t39c, t40, t41, t42, t43p, t43l, t43c, t44, t45, t46, t47, t48, t49p, t49l, t49c, t50⟩
abbrev daemon_Deed.LDp (h : Heap) (a : Addr) (K : daemon_Deed.S → Prop) : Prop := ∃ (t0 : Int), hcell h a = some (.int .i64 t0) ∧ ∃ (t1 : Int), hcell h (a.add 1) = some (.int .u64 t1) ∧ ∃ (t2 : Int), hcell h (a.add 2) = some (.int .i64 t2) ∧ ∃ (t3 : Bool), hcell h (a.add 3) = some (.bool t3) ∧ ∃ (t4 : Int), hcell h (a.add 4) = some (.int .u64 t4) ∧ ∃ (t5 : Int), hcell h (a.add 5) = some (.int .u64 t5) ∧ ∃ (t6 : ByteArray), hcell h (a.add 6) = some (.string t6) ∧ ∃ (t7 : ByteArray), hcell h (a.add 7) = some (.string t7) ∧ ∃ (t8 : Bool), hcell h (a.add 8) = some (.bool t8) ∧ ∃ (t9 : Int), hcell h (a.add 9) = some (.int .u64 t9) ∧ ∃ (t10 : Int), hcell h (a.add 10) = some (.int .u64 t10) ∧ ∃ (t11 : ByteArray), hcell h (a.add 11) = some (.string t11) ∧ ∃ (t12 : ByteArray), hcell h (a.add 12) = some (.string t12) ∧ ∃ (t13 : Int), hcell h (a.add 13) = some (.int .i64 t13) ∧ ∃ (t14 : Int), hcell h (a.add 14) = some (.int .i64 t14) ∧ ∃ (t15 : Int), hcell h (a.add 15) = some (.int .i64 t15) ∧ ∃ (t16p : Option Addr) (t16l t16c : Nat), hcell h (a.add 16) = some (.slice t16p t16l t16c) ∧ ∃ (t17 : Int), hcell h (a.add 17) = some (.int .u64 t17) ∧ ∃ (t18 : Int), hcell h (a.add 18) = some (.int .u64 t18) ∧ ∃ (t19 : Bool), hcell h (a.add 19) = some (.bool t19) ∧ ∃ (t20 : Int), hcell h (a.add 20) = some (.int .u64 t20) ∧ ∃ (t21 : Int), hcell h (a.add 21) = some (.int .i64 t21) ∧ ∃ (t22 : Int), hcell h (a.add 22) = some (.int .u64 t22) ∧ ∃ (t23 : Int), hcell h (a.add 23) = some (.int .i64 t23) ∧ ∃ (t24 : Int), hcell h (a.add 24) = some (.int .u64 t24) ∧ ∃ (t25 : Int), hcell h (a.add 25) = some (.int .i64 t25) ∧ ∃ (t26 : Bool), hcell h (a.add 26) = some (.bool t26) ∧ ∃ (t27 : Int), hcell h (a.add 27) = some (.int .u64 t27) ∧ ∃ (t28 : Int), hcell h (a.add 28) = some (.int .u64 t28) ∧ ∃ (t29 : ByteArray), hcell h (a.add 29) = some (.string t29) ∧ ∃ (t30 : ByteArray), hcell h (a.add 30) = some (.string t30) ∧ ∃ (t31 : Bool), hcell h (a.add 31) = some (.bool t31) ∧ ∃ (t32 : Int), hcell h (a.add 32) = some (.int .u64 t32) ∧ ∃ (t33 : Int), hcell h (a.add 33) = some (.int .u64 t33) ∧ ∃ (t34 : ByteArray), hcell h (a.add 34) = some (.string t34) ∧ ∃ (t35 : ByteArray), hcell h (a.add 35) = some (.string t35) ∧ ∃ (t36 : Int), hcell h (a.add 36) = some (.int .i64 t36) ∧ ∃ (t37 : Int), hcell h (a.add 37) = some (.int .i64 t37) ∧ ∃ (t38 : Int), hcell h (a.add 38) = some (.int .i64 t38) ∧ ∃ (t39p : Option Addr) (t39l t39c : Nat), hcell h (a.add 39) = some (.slice t39p t39l t39c) ∧ ∃ (t40 : Int), hcell h (a.add 40) = some (.int .u64 t40) ∧ ∃ (t41 : Int), hcell h (a.add 41) = some (.int .u64 t41) ∧ ∃ (t42 : Bool), hcell h (a.add 42) = some (.bool t42) ∧ ∃ (t43p : Option Addr) (t43l t43c : Nat), hcell h (a.add 43) = some (.slice t43p t43l t43c) ∧ ∃ (t44 : Int), hcell h (a.add 44) = some (.int .u64 t44) ∧ ∃ (t45 : Int), hcell h (a.add 45) = some (.int .i64 t45) ∧ ∃ (t46 : Int), hcell h (a.add 46) = some (.int .i64 t46) ∧ ∃ (t47 : Int), hcell h (a.add 47) = some (.int .i64 t47) ∧ ∃ (t48 : Int), hcell h (a.add 48) = some (.int .u64 t48) ∧ ∃ (t49p : Option Addr) (t49l t49c : Nat), hcell h (a.add 49) = some (.slice t49p t49l t49c) ∧ ∃ (t50 : Int), hcell h (a.add 50) = some (.int .i64 t50) ∧ K ⟨t0, t1, t2, t3, t4, t5, t6, t7, t8, t9, t10, t11, t12, t13, t14, t15, t16p, t16l, t16c, t17, t18, t19, t20, t21, t22, t23, t24, t25, t26, t27, t28, t29, t30, t31, t32, t33, t34, t35, t36, t37, t38, t39p, t39l, t39c, t40, t41, t42, t43p, t43l, t43c, t44, t45, t46, t47, t48, t49p, t49l, t49c, t50⟩
abbrev daemon_Deed.STp (h : Heap) (a : Addr) (x : daemon_Deed.S) (K : Heap → Prop) : Prop := storeL a x.l 0 h K
structure desk_ask.S where
  f0 : ByteArray
  f1p : Option Addr
  f1l : Nat
  f1c : Nat
  f2p : Option Addr
  f2l : Nat
  f2c : Nat
  f3p : Option Addr
  f3l : Nat
  f3c : Nat
abbrev desk_ask.S.l (x : desk_ask.S) : List Value := [.string x.f0, .slice x.f1p x.f1l x.f1c, .slice x.f2p x.f2l x.f2c, .slice x.f3p x.f3l x.f3c]
abbrev desk_ask.S.arr (x : desk_ask.S) : Array Value := x.l.toArray
abbrev desk_ask.S.agg (x : desk_ask.S) : Value := .agg x.arr
abbrev desk_ask.S.z : desk_ask.S := ⟨(⟨#[]⟩ : ByteArray), none, 0, 0, none, 0, 0, none, 0, 0⟩
abbrev desk_ask.EX (K : desk_ask.S → Prop) : Prop := ∃ (t0 : ByteArray), ∃ (t1p : Option Addr) (t1l t1c : Nat), ∃ (t2p : Option Addr) (t2l t2c : Nat), ∃ (t3p : Option Addr) (t3l t3c : Nat), K ⟨t0, t1p, t1l, t1c, t2p, t2l, t2c, t3p, t3l, t3c⟩
abbrev desk_ask.LDp (h : Heap) (a : Addr) (K : desk_ask.S → Prop) : Prop := ∃ (t0 : ByteArray), hcell h a = some (.string t0) ∧ ∃ (t1p : Option Addr) (t1l t1c : Nat), hcell h (a.add 1) = some (.slice t1p t1l t1c) ∧ ∃ (t2p : Option Addr) (t2l t2c : Nat), hcell h (a.add 2) = some (.slice t2p t2l t2c) ∧ ∃ (t3p : Option Addr) (t3l t3c : Nat), hcell h (a.add 3) = some (.slice t3p t3l t3c) ∧ K ⟨t0, t1p, t1l, t1c, t2p, t2l, t2c, t3p, t3l, t3c⟩
abbrev desk_ask.STp (h : Heap) (a : Addr) (x : desk_ask.S) (K : Heap → Prop) : Prop := storeL a x.l 0 h K
structure disk_Disk.S where
  f0p : Option Addr
  f0l : Nat
  f0c : Nat
  f1p : Option Addr
  f1l : Nat
  f1c : Nat
  f2 : Int
  f3 : Int
abbrev disk_Disk.S.l (x : disk_Disk.S) : List Value := [.slice x.f0p x.f0l x.f0c, .slice x.f1p x.f1l x.f1c, .int .i64 x.f2, .int .i64 x.f3]
abbrev disk_Disk.S.arr (x : disk_Disk.S) : Array Value := x.l.toArray
abbrev disk_Disk.S.agg (x : disk_Disk.S) : Value := .agg x.arr
abbrev disk_Disk.EX (K : disk_Disk.S → Prop) : Prop := ∃ (t0p : Option Addr) (t0l t0c : Nat), ∃ (t1p : Option Addr) (t1l t1c : Nat), ∃ (t2 : Int), ∃ (t3 : Int), K ⟨t0p, t0l, t0c, t1p, t1l, t1c, t2, t3⟩
structure eid_Eid.S where
  f0 : Bool
  f1 : Int
  f2 : Int
  f3 : ByteArray
  f4 : ByteArray
abbrev eid_Eid.S.l (x : eid_Eid.S) : List Value := [.bool x.f0, .int .u64 x.f1, .int .u64 x.f2, .string x.f3, .string x.f4]
abbrev eid_Eid.S.arr (x : eid_Eid.S) : Array Value := x.l.toArray
abbrev eid_Eid.S.agg (x : eid_Eid.S) : Value := .agg x.arr
abbrev eid_Eid.S.z : eid_Eid.S := ⟨false, 0, 0, (⟨#[]⟩ : ByteArray), (⟨#[]⟩ : ByteArray)⟩
abbrev eid_Eid.EX (K : eid_Eid.S → Prop) : Prop := ∃ (t0 : Bool), ∃ (t1 : Int), ∃ (t2 : Int), ∃ (t3 : ByteArray), ∃ (t4 : ByteArray), K ⟨t0, t1, t2, t3, t4⟩
abbrev eid_Eid.LDp (h : Heap) (a : Addr) (K : eid_Eid.S → Prop) : Prop := ∃ (t0 : Bool), hcell h a = some (.bool t0) ∧ ∃ (t1 : Int), hcell h (a.add 1) = some (.int .u64 t1) ∧ ∃ (t2 : Int), hcell h (a.add 2) = some (.int .u64 t2) ∧ ∃ (t3 : ByteArray), hcell h (a.add 3) = some (.string t3) ∧ ∃ (t4 : ByteArray), hcell h (a.add 4) = some (.string t4) ∧ K ⟨t0, t1, t2, t3, t4⟩
abbrev eid_Eid.STp (h : Heap) (a : Addr) (x : eid_Eid.S) (K : Heap → Prop) : Prop := storeL a x.l 0 h K
structure event_Event.S where
  f0 : Int
  f1 : Int
  f2 : Int
  f3 : Int
  f4 : Int
  f5 : Int
  f6 : Bool
  f7 : Int
  f8 : Int
  f9 : ByteArray
  f10 : ByteArray
  f11 : Bool
  f12 : Int
  f13 : Int
  f14 : ByteArray
  f15 : ByteArray
  f16 : Int
  f17 : Int
  f18 : Int
  f19p : Option Addr
  f19l : Nat
  f19c : Nat
  f20 : Int
  f21 : Int
  f22 : Bool
  f23p : Option Addr
  f23l : Nat
  f23c : Nat
abbrev event_Event.S.l (x : event_Event.S) : List Value := [.int .u64 x.f0, .int .i64 x.f1, .int .u64 x.f2, .int .i64 x.f3, .int .u64 x.f4, .int .i64 x.f5, .bool x.f6, .int .u64 x.f7, .int .u64 x.f8, .string x.f9, .string x.f10, .bool x.f11, .int .u64 x.f12, .int .u64 x.f13, .string x.f14, .string x.f15, .int .i64 x.f16, .int .i64 x.f17, .int .i64 x.f18, .slice x.f19p x.f19l x.f19c, .int .u64 x.f20, .int .u64 x.f21, .bool x.f22, .slice x.f23p x.f23l x.f23c]
abbrev event_Event.S.arr (x : event_Event.S) : Array Value := x.l.toArray
abbrev event_Event.S.agg (x : event_Event.S) : Value := .agg x.arr
abbrev event_Event.S.z : event_Event.S := ⟨0, 0, 0, 0, 0, 0, false, 0, 0, (⟨#[]⟩ : ByteArray), (⟨#[]⟩ : ByteArray), false, 0, 0, (⟨#[]⟩ : ByteArray), (⟨#[]⟩ : ByteArray), 0, 0, 0, none, 0, 0, 0, 0, false, none, 0, 0⟩
abbrev event_Event.EX (K : event_Event.S → Prop) : Prop := ∃ (t0 : Int), ∃ (t1 : Int), ∃ (t2 : Int), ∃ (t3 : Int), ∃ (t4 : Int), ∃ (t5 : Int), ∃ (t6 : Bool), ∃ (t7 : Int), ∃ (t8 : Int), ∃ (t9 : ByteArray), ∃ (t10 : ByteArray), ∃ (t11 : Bool), ∃ (t12 : Int), ∃ (t13 : Int), ∃ (t14 : ByteArray), ∃ (t15 : ByteArray), ∃ (t16 : Int), ∃ (t17 : Int), ∃ (t18 : Int), ∃ (t19p : Option Addr) (t19l t19c : Nat), ∃ (t20 : Int), ∃ (t21 : Int), ∃ (t22 : Bool), ∃ (t23p : Option Addr) (t23l t23c : Nat), K ⟨t0, t1, t2, t3, t4, t5, t6, t7, t8, t9, t10, t11, t12, t13, t14, t15, t16, t17, t18, t19p, t19l, t19c, t20, t21, t22, t23p, t23l, t23c⟩
abbrev event_Event.LDp (h : Heap) (a : Addr) (K : event_Event.S → Prop) : Prop := ∃ (t0 : Int), hcell h a = some (.int .u64 t0) ∧ ∃ (t1 : Int), hcell h (a.add 1) = some (.int .i64 t1) ∧ ∃ (t2 : Int), hcell h (a.add 2) = some (.int .u64 t2) ∧ ∃ (t3 : Int), hcell h (a.add 3) = some (.int .i64 t3) ∧ ∃ (t4 : Int), hcell h (a.add 4) = some (.int .u64 t4) ∧ ∃ (t5 : Int), hcell h (a.add 5) = some (.int .i64 t5) ∧ ∃ (t6 : Bool), hcell h (a.add 6) = some (.bool t6) ∧ ∃ (t7 : Int), hcell h (a.add 7) = some (.int .u64 t7) ∧ ∃ (t8 : Int), hcell h (a.add 8) = some (.int .u64 t8) ∧ ∃ (t9 : ByteArray), hcell h (a.add 9) = some (.string t9) ∧ ∃ (t10 : ByteArray), hcell h (a.add 10) = some (.string t10) ∧ ∃ (t11 : Bool), hcell h (a.add 11) = some (.bool t11) ∧ ∃ (t12 : Int), hcell h (a.add 12) = some (.int .u64 t12) ∧ ∃ (t13 : Int), hcell h (a.add 13) = some (.int .u64 t13) ∧ ∃ (t14 : ByteArray), hcell h (a.add 14) = some (.string t14) ∧ ∃ (t15 : ByteArray), hcell h (a.add 15) = some (.string t15) ∧ ∃ (t16 : Int), hcell h (a.add 16) = some (.int .i64 t16) ∧ ∃ (t17 : Int), hcell h (a.add 17) = some (.int .i64 t17) ∧ ∃ (t18 : Int), hcell h (a.add 18) = some (.int .i64 t18) ∧ ∃ (t19p : Option Addr) (t19l t19c : Nat), hcell h (a.add 19) = some (.slice t19p t19l t19c) ∧ ∃ (t20 : Int), hcell h (a.add 20) = some (.int .u64 t20) ∧ ∃ (t21 : Int), hcell h (a.add 21) = some (.int .u64 t21) ∧ ∃ (t22 : Bool), hcell h (a.add 22) = some (.bool t22) ∧ ∃ (t23p : Option Addr) (t23l t23c : Nat), hcell h (a.add 23) = some (.slice t23p t23l t23c) ∧ K ⟨t0, t1, t2, t3, t4, t5, t6, t7, t8, t9, t10, t11, t12, t13, t14, t15, t16, t17, t18, t19p, t19l, t19c, t20, t21, t22, t23p, t23l, t23c⟩
abbrev event_Event.STp (h : Heap) (a : Addr) (x : event_Event.S) (K : Heap → Prop) : Prop := storeL a x.l 0 h K
structure flush_Log.S where
  f0 : Option Addr
  f1 : Option Addr
  f2 : Int
abbrev flush_Log.S.l (x : flush_Log.S) : List Value := [.pointer x.f0, .pointer x.f1, .int .i64 x.f2]
abbrev flush_Log.S.arr (x : flush_Log.S) : Array Value := x.l.toArray
abbrev flush_Log.S.agg (x : flush_Log.S) : Value := .agg x.arr
abbrev flush_Log.EX (K : flush_Log.S → Prop) : Prop := ∃ (t0 : Option Addr), ∃ (t1 : Option Addr), ∃ (t2 : Int), K ⟨t0, t1, t2⟩
structure frame_Decoder.S where
  f0 : Bool
  f1p : Option Addr
  f1l : Nat
  f1c : Nat
  f2 : Int
abbrev frame_Decoder.S.l (x : frame_Decoder.S) : List Value := [.bool x.f0, .slice x.f1p x.f1l x.f1c, .int .i64 x.f2]
abbrev frame_Decoder.S.arr (x : frame_Decoder.S) : Array Value := x.l.toArray
abbrev frame_Decoder.S.agg (x : frame_Decoder.S) : Value := .agg x.arr
abbrev frame_Decoder.EX (K : frame_Decoder.S → Prop) : Prop := ∃ (t0 : Bool), ∃ (t1p : Option Addr) (t1l t1c : Nat), ∃ (t2 : Int), K ⟨t0, t1p, t1l, t1c, t2⟩
structure history_History.S where
  f0 : Bool
  f1p : Option Addr
  f1l : Nat
  f1c : Nat
  f2 : Int
abbrev history_History.S.l (x : history_History.S) : List Value := [.bool x.f0, .slice x.f1p x.f1l x.f1c, .int .i64 x.f2]
abbrev history_History.S.arr (x : history_History.S) : Array Value := x.l.toArray
abbrev history_History.S.agg (x : history_History.S) : Value := .agg x.arr
abbrev history_History.EX (K : history_History.S → Prop) : Prop := ∃ (t0 : Bool), ∃ (t1p : Option Addr) (t1l t1c : Nat), ∃ (t2 : Int), K ⟨t0, t1p, t1l, t1c, t2⟩
structure journal_Journal.S where
  f0 : Option Addr
  f1 : Int
  f2 : Int
  f3 : Int
  f4 : Int
  f5 : Int
  f6 : Int
  f7 : Int
  f8p : Option Addr
  f8l : Nat
  f8c : Nat
  f9 : Int
  f10 : Int
  f11 : Int
  f12 : Int
  f13 : Int
  f14 : Int
  f15 : Int
abbrev journal_Journal.S.l (x : journal_Journal.S) : List Value := [.pointer x.f0, .int .i64 x.f1, .int .i64 x.f2, .int .i64 x.f3, .int .i64 x.f4, .int .u64 x.f5, .int .i64 x.f6, .int .i64 x.f7, .slice x.f8p x.f8l x.f8c, .int .i64 x.f9, .int .i64 x.f10, .int .i64 x.f11, .int .i64 x.f12, .int .i64 x.f13, .int .i64 x.f14, .int .i64 x.f15]
abbrev journal_Journal.S.arr (x : journal_Journal.S) : Array Value := x.l.toArray
abbrev journal_Journal.S.agg (x : journal_Journal.S) : Value := .agg x.arr
abbrev journal_Journal.EX (K : journal_Journal.S → Prop) : Prop := ∃ (t0 : Option Addr), ∃ (t1 : Int), ∃ (t2 : Int), ∃ (t3 : Int), ∃ (t4 : Int), ∃ (t5 : Int), ∃ (t6 : Int), ∃ (t7 : Int), ∃ (t8p : Option Addr) (t8l t8c : Nat), ∃ (t9 : Int), ∃ (t10 : Int), ∃ (t11 : Int), ∃ (t12 : Int), ∃ (t13 : Int), ∃ (t14 : Int), ∃ (t15 : Int), K ⟨t0, t1, t2, t3, t4, t5, t6, t7, t8p, t8l, t8c, t9, t10, t11, t12, t13, t14, t15⟩
structure journal_plan.S where
  f0 : Int
  f1 : Int
  f2 : Int
  f3 : Int
abbrev journal_plan.S.l (x : journal_plan.S) : List Value := [.int .i64 x.f0, .int .i64 x.f1, .int .i64 x.f2, .int .i64 x.f3]
abbrev journal_plan.S.arr (x : journal_plan.S) : Array Value := x.l.toArray
abbrev journal_plan.S.agg (x : journal_plan.S) : Value := .agg x.arr
abbrev journal_plan.EX (K : journal_plan.S → Prop) : Prop := ∃ (t0 : Int), ∃ (t1 : Int), ∃ (t2 : Int), ∃ (t3 : Int), K ⟨t0, t1, t2, t3⟩
structure pend_Queue.S where
  f0 : Bool
  f1p : Option Addr
  f1l : Nat
  f1c : Nat
abbrev pend_Queue.S.l (x : pend_Queue.S) : List Value := [.bool x.f0, .slice x.f1p x.f1l x.f1c]
abbrev pend_Queue.S.arr (x : pend_Queue.S) : Array Value := x.l.toArray
abbrev pend_Queue.S.agg (x : pend_Queue.S) : Value := .agg x.arr
abbrev pend_Queue.EX (K : pend_Queue.S → Prop) : Prop := ∃ (t0 : Bool), ∃ (t1p : Option Addr) (t1l t1c : Nat), K ⟨t0, t1p, t1l, t1c⟩
structure reply_Reply.S where
  f0 : Int
  f1 : Int
  f2 : Int
  f3 : Int
  f4 : Int
  f5p : Option Addr
  f5l : Nat
  f5c : Nat
abbrev reply_Reply.S.l (x : reply_Reply.S) : List Value := [.int .u64 x.f0, .int .i64 x.f1, .int .i64 x.f2, .int .i64 x.f3, .int .u64 x.f4, .slice x.f5p x.f5l x.f5c]
abbrev reply_Reply.S.arr (x : reply_Reply.S) : Array Value := x.l.toArray
abbrev reply_Reply.S.agg (x : reply_Reply.S) : Value := .agg x.arr
abbrev reply_Reply.S.z : reply_Reply.S := ⟨0, 0, 0, 0, 0, none, 0, 0⟩
abbrev reply_Reply.EX (K : reply_Reply.S → Prop) : Prop := ∃ (t0 : Int), ∃ (t1 : Int), ∃ (t2 : Int), ∃ (t3 : Int), ∃ (t4 : Int), ∃ (t5p : Option Addr) (t5l t5c : Nat), K ⟨t0, t1, t2, t3, t4, t5p, t5l, t5c⟩
abbrev reply_Reply.LDp (h : Heap) (a : Addr) (K : reply_Reply.S → Prop) : Prop := ∃ (t0 : Int), hcell h a = some (.int .u64 t0) ∧ ∃ (t1 : Int), hcell h (a.add 1) = some (.int .i64 t1) ∧ ∃ (t2 : Int), hcell h (a.add 2) = some (.int .i64 t2) ∧ ∃ (t3 : Int), hcell h (a.add 3) = some (.int .i64 t3) ∧ ∃ (t4 : Int), hcell h (a.add 4) = some (.int .u64 t4) ∧ ∃ (t5p : Option Addr) (t5l t5c : Nat), hcell h (a.add 5) = some (.slice t5p t5l t5c) ∧ K ⟨t0, t1, t2, t3, t4, t5p, t5l, t5c⟩
abbrev reply_Reply.STp (h : Heap) (a : Addr) (x : reply_Reply.S) (K : Heap → Prop) : Prop := storeL a x.l 0 h K
structure request_Request.S where
  f0 : Int
  f1 : Int
  f2 : Bool
  f3 : Int
  f4 : Int
  f5 : ByteArray
  f6 : ByteArray
  f7 : Bool
  f8 : Int
  f9 : Int
  f10 : ByteArray
  f11 : ByteArray
  f12 : Int
  f13 : Int
  f14 : Int
  f15p : Option Addr
  f15l : Nat
  f15c : Nat
  f16 : Int
  f17 : Int
  f18 : Bool
abbrev request_Request.S.l (x : request_Request.S) : List Value := [.int .u64 x.f0, .int .i64 x.f1, .bool x.f2, .int .u64 x.f3, .int .u64 x.f4, .string x.f5, .string x.f6, .bool x.f7, .int .u64 x.f8, .int .u64 x.f9, .string x.f10, .string x.f11, .int .i64 x.f12, .int .i64 x.f13, .int .i64 x.f14, .slice x.f15p x.f15l x.f15c, .int .u64 x.f16, .int .u64 x.f17, .bool x.f18]
abbrev request_Request.S.arr (x : request_Request.S) : Array Value := x.l.toArray
abbrev request_Request.S.agg (x : request_Request.S) : Value := .agg x.arr
abbrev request_Request.S.z : request_Request.S := ⟨0, 0, false, 0, 0, (⟨#[]⟩ : ByteArray), (⟨#[]⟩ : ByteArray), false, 0, 0, (⟨#[]⟩ : ByteArray), (⟨#[]⟩ : ByteArray), 0, 0, 0, none, 0, 0, 0, 0, false⟩
abbrev request_Request.EX (K : request_Request.S → Prop) : Prop := ∃ (t0 : Int), ∃ (t1 : Int), ∃ (t2 : Bool), ∃ (t3 : Int), ∃ (t4 : Int), ∃ (t5 : ByteArray), ∃ (t6 : ByteArray), ∃ (t7 : Bool), ∃ (t8 : Int), ∃ (t9 : Int), ∃ (t10 : ByteArray), ∃ (t11 : ByteArray), ∃ (t12 : Int), ∃ (t13 : Int), ∃ (t14 : Int), ∃ (t15p : Option Addr) (t15l t15c : Nat), ∃ (t16 : Int), ∃ (t17 : Int), ∃ (t18 : Bool), K ⟨t0, t1, t2, t3, t4, t5, t6, t7, t8, t9, t10, t11, t12, t13, t14, t15p, t15l, t15c, t16, t17, t18⟩
abbrev request_Request.LDp (h : Heap) (a : Addr) (K : request_Request.S → Prop) : Prop := ∃ (t0 : Int), hcell h a = some (.int .u64 t0) ∧ ∃ (t1 : Int), hcell h (a.add 1) = some (.int .i64 t1) ∧ ∃ (t2 : Bool), hcell h (a.add 2) = some (.bool t2) ∧ ∃ (t3 : Int), hcell h (a.add 3) = some (.int .u64 t3) ∧ ∃ (t4 : Int), hcell h (a.add 4) = some (.int .u64 t4) ∧ ∃ (t5 : ByteArray), hcell h (a.add 5) = some (.string t5) ∧ ∃ (t6 : ByteArray), hcell h (a.add 6) = some (.string t6) ∧ ∃ (t7 : Bool), hcell h (a.add 7) = some (.bool t7) ∧ ∃ (t8 : Int), hcell h (a.add 8) = some (.int .u64 t8) ∧ ∃ (t9 : Int), hcell h (a.add 9) = some (.int .u64 t9) ∧ ∃ (t10 : ByteArray), hcell h (a.add 10) = some (.string t10) ∧ ∃ (t11 : ByteArray), hcell h (a.add 11) = some (.string t11) ∧ ∃ (t12 : Int), hcell h (a.add 12) = some (.int .i64 t12) ∧ ∃ (t13 : Int), hcell h (a.add 13) = some (.int .i64 t13) ∧ ∃ (t14 : Int), hcell h (a.add 14) = some (.int .i64 t14) ∧ ∃ (t15p : Option Addr) (t15l t15c : Nat), hcell h (a.add 15) = some (.slice t15p t15l t15c) ∧ ∃ (t16 : Int), hcell h (a.add 16) = some (.int .u64 t16) ∧ ∃ (t17 : Int), hcell h (a.add 17) = some (.int .u64 t17) ∧ ∃ (t18 : Bool), hcell h (a.add 18) = some (.bool t18) ∧ K ⟨t0, t1, t2, t3, t4, t5, t6, t7, t8, t9, t10, t11, t12, t13, t14, t15p, t15l, t15c, t16, t17, t18⟩
abbrev request_Request.STp (h : Heap) (a : Addr) (x : request_Request.S) (K : Heap → Prop) : Prop := storeL a x.l 0 h K
structure super_Super.S where
  f0 : Int
  f1 : Int
  f2 : Int
abbrev super_Super.S.l (x : super_Super.S) : List Value := [.int .u64 x.f0, .int .i64 x.f1, .int .i64 x.f2]
abbrev super_Super.S.arr (x : super_Super.S) : Array Value := x.l.toArray
abbrev super_Super.S.agg (x : super_Super.S) : Value := .agg x.arr
abbrev super_Super.S.z : super_Super.S := ⟨0, 0, 0⟩
abbrev super_Super.EX (K : super_Super.S → Prop) : Prop := ∃ (t0 : Int), ∃ (t1 : Int), ∃ (t2 : Int), K ⟨t0, t1, t2⟩
abbrev super_Super.LDp (h : Heap) (a : Addr) (K : super_Super.S → Prop) : Prop := ∃ (t0 : Int), hcell h a = some (.int .u64 t0) ∧ ∃ (t1 : Int), hcell h (a.add 1) = some (.int .i64 t1) ∧ ∃ (t2 : Int), hcell h (a.add 2) = some (.int .i64 t2) ∧ K ⟨t0, t1, t2⟩
abbrev super_Super.STp (h : Heap) (a : Addr) (x : super_Super.S) (K : Heap → Prop) : Prop := storeL a x.l 0 h K

end Go.Proofs.YticlajoleibdnaaGreatDoor
namespace Go.Proofs
open Go.Den
open IntKind (wrap)
open Int (toNat)
section
open Go.Shelf
def Tryz.lays14_ren : Go.Shelf.Ren := ⟨fun | 14 => 93 | 16 => 138 | 17 => 37 | 19 => 204 | 20 => 205 | 21 => 70 | 22 => 71 | 23 => 72 | 24 => 73 | 25 => 139 | 27 => 24 | 26 => 140 | 28 => 38 | 29 => 74 | 30 => 141 | 31 => 142 | 32 => 143 | 33 => 144 | 35 => 207 | 34 => 206 | 36 => 208 | 37 => 209 | 38 => 210 | 39 => 282 | 40 => 283 | n => n, fun | 9 => 9 | 3 => 3 | 22 => 62 | 24 => 54 | 25 => 182 | 4 => 4 | 34 => 125 | 5 => 5 | 36 => 185 | 37 => 69 | 0 => 0 | 39 => 128 | 21 => 21 | 44 => 222 | 47 => 270 | 50 => 312 | 48 => 310 | 2 => 2 | 52 => 224 | 55 => 227 | 59 => 314 | 60 => 306 | 20 => 20 | 61 => 315 | 65 => 499 | 66 => 500 | 67 => 205 | n => n, fun | 0 => 1 | 1 => 2 | 2 => 5 | 3 => 6 | 4 => 7 | n => n⟩
theorem Tryz.lays14 : Go.Proofs.LaysPu.n14 Tryz.prog Tryz.lays14_ren := by
  constructor; all_goals first | kernel_rfl | (intro _; kernel_rfl)

end
end Go.Proofs
namespace Go.Proofs.YticlajoleibdnaaGreatDoor
open Go.Den
open IntKind (wrap)
open Int (toNat)
section
namespace Num
variable {h h':Heap}
def Mx (h : Heap) : Prop := ∃ m, hcell h ⟨0, 0, none⟩ = some (.int .i64 m)
theorem Mx.on (M : Mx h) (f : Fr No h h') : Mx h' := by
  have ⟨m, hm⟩ := M
  exact ⟨m, f.cell hm id⟩

end Num
end
end Go.Proofs.YticlajoleibdnaaGreatDoor
namespace Go.Proofs
open Go.Den
open IntKind (wrap)
open Int (toNat)
section
open Go.Shelf
def Tryz.lays284_ren : Go.Shelf.Ren := ⟨fun | 284 => 142 | 129 => 207 | 317 => 206 | 318 => 208 | n => n, fun | 53 => 62 | 3 => 3 | 212 => 314 | 0 => 0 | 4 => 4 | 46 => 185 | 5 => 5 | 9 => 9 | n => n, fun | 17 => 5 | n => n⟩
theorem Tryz.lays284 : Go.Proofs.LaysM.n284 Tryz.prog Tryz.lays284_ren := by
  constructor; constructor; all_goals first | kernel_rfl | (intro _; kernel_rfl)
def Tryz.lays285_ren : Go.Shelf.Ren := ⟨fun | 285 => 143 | n => n, fun | 37 => 69 | 53 => 62 | 3 => 3 | 4 => 4 | 51 => 306 | 9 => 9 | 5 => 5 | 0 => 0 | n => n, fun | n => n⟩
theorem Tryz.lays285 : Go.Proofs.Lays.n285 Tryz.prog Tryz.lays285_ren := by
  constructor; all_goals first | kernel_rfl | (intro _; kernel_rfl)
def Tryz.lays283_ren : Go.Shelf.Ren := ⟨fun | 283 => 141 | n => n, fun | 3 => 3 | 9 => 9 | 4 => 4 | n => n, fun | n => n⟩
theorem Tryz.lays283 : Go.Proofs.Lays.n283 Tryz.prog Tryz.lays283_ren := by
  constructor; all_goals first | kernel_rfl | (intro _; kernel_rfl)

end
end Go.Proofs
namespace Go.Proofs.YticlajoleibdnaaGreatDoor
open Go.Den
open IntKind (wrap)
open Int (toNat)
section
namespace Num
variable {h h':Heap} {R:TyP}
def Tab (h : Heap) : Prop := ∃ t f, h[(5 : Nat)]? = some (.cells (Lib.pow10Tab.map fun z => Value.int .u64 z).toArray t f)
theorem Tab.frame {S : Nat → Prop} (T : Tab h) (f : Fr S h h') (hn : ∀ c, c < h.size → ¬ S c) : Tab h' := by
  obtain ⟨t, fr, h2⟩ := T
  exact ⟨t, fr, f.get h2 (hn _ (lt_of_get h2))⟩
theorem Tab.on (T : Tab h) (f : Fr No h h') : Tab h' := T.frame f (fun _ _ => id)
theorem Tab.is {w : World} {s : String} (hs : Tryz.prog.globalNamed s = some 5) (T : Tab w.heap) : Lib.TabIs Tryz.prog w s .u64 Lib.pow10Tab := by
  obtain ⟨t, fr, h2⟩ := T
  unfold Lib.TabIs World.var?
  rw [hs]
  show (match w.heap[(5 : Nat)]? with | some (.cells cs _ _) => some cs | _ => none) = _
  rw [h2]
theorem small_ok {i : Nat} (hi : i < 100) (hk : R (.string ⟨(Lib.decDigits i).toArray⟩) h) : Cl 141 #[.int .i64 i] h R := fun w hw =>
  (Any.internal_strconv_small Tryz.lays283 i hi w).mono fun e w' ⟨he, hw'⟩ => ⟨_, he, by rw [hw', hw]; exact hk, by rw [hw']; exact Same.refl _⟩
theorem digits_ok {u : Nat} (T : Tab h) (h1 : 1 ≤ u) (h2 : u < 18446744073709551616) (hk : R (.int .i64 (Lib.nDigits u)) h) : Cl 142 #[.int .u64 u] h R := fun w hw =>
  (Any.internal_strconv_numDigits Tryz.lays284 u h1 h2 w (by rw [← hw] at T; exact T.is (by kernel_rfl))).mono fun e w' ⟨he, hw'⟩ => ⟨_, he, by rw [hw', hw]; exact hk, by rw [hw']; exact Same.refl _⟩

end Num
end
section
variable {h:Heap} {R:TyP}
variable {i base:Int}
theorem internal_strconv_FormatUint.walk (hv :
 ite (base == 10)
 (  ite (decide (i < 100))
 (  Cl 141 #[.int .i64 (IntKind.wrap .i64 i)] h fun v h_1 =>
 ∃ t15, v = .string t15 ∧
 R (.string t15) h_1)
 (  NewP h (.cells #[.int .u8 0, .int .u8 0, .int .u8 0, .int .u8 0, .int .u8 0, .int .u8 0, .int .u8 0, .int .u8 0, .int .u8 0, .int .u8 0, .int .u8 0, .int .u8 0, .int .u8 0, .int .u8 0, .int .u8 0, .int .u8 0, .int .u8 0, .int .u8 0, .int .u8 0, .int .u8 0, .int .u8 0, .int .u8 0, .int .u8 0, .int .u8 0] 224) fun b h_2 =>
 Cl 142 #[.int .u64 i] h_2 fun v_1 h_3 =>
 ∃ t17, v_1 = .int .i64 t17 ∧
 ((0 : Int) ≤ t17 ∧ t17 ≤ ((24 : Nat) : Int)) ∧
 Cl 143 #[.slice (slBase (some ⟨b, 0, none⟩) 24 0 1) ((Int.toNat t17) - 0) (24 - 0), .int .u64 i] h_3 fun v_2 h_4 =>
 v_2 = .tuple #[] ∧
 ((0 : Int) ≤ t17 ∧ t17 ≤ ((24 : Nat) : Int)) ∧
 ∃ (t24 : ByteArray), ConvV Tryz.prog 69 9 (.slice (slBase (some ⟨b, 0, none⟩) 24 0 1) ((Int.toNat t17) - 0) (24 - 0)) h_4 t24 ∧
 R (.string t24) h_4))
 (  Cl 144 #[.slice none 0 0, .int .u64 i, .int .i64 base, .bool false, .bool false] h fun v_3 h_5 =>
 ∃ t28_0_p t28_0_l t28_0_c t28_1, v_3 = .tuple #[.slice t28_0_p t28_0_l t28_0_c, .string t28_1] ∧
 R (.string t28_1) h_5)) : Cl 161 #[.int .u64 i, .int .i64 base] h R :=
 callsN [] hv
theorem strconv_FormatUint.walk (hv :
 Cl 161 #[.int .u64 i, .int .i64 base] h fun v h_1 =>
 ∃ t7, v = .string t7 ∧
 R (.string t7) h_1) : Cl 94 #[.int .u64 i, .int .i64 base] h R :=
 callsN [] hv

end
section
namespace Num
variable {h h':Heap} {R:TyP}
variable {u:Nat}
theorem base10_ok {blk n cap:Nat} {c : Array Value} {t : TypeId} (hb : h[blk]? = some (.cells c t (0, 0))) (hz : ∀ j, j < n → c[j]? = some (.int .u8 0)) (hu : u < 10 ^ n) (hu64 : u < 18446744073709551616) (hn : n < 100)
    (hk : ∀ h' c' dk v', h'[blk]? = some (.cells c' t (0, 0)) → Lib.FmtInv n u 0 v' dk → (∀ j, j < n → c'[j]? = some (.int .u8 ((dk[j]!).toNat : Int))) → h'.size = h.size → (∀ x, x ≠ blk → h'[x]? = h[x]?) → R (.tuple #[]) h') :
    Cl 143 #[.slice (some ⟨blk, 0, none⟩) n cap, .int .u64 u] h R := fun w hw => by
  subst hw
  have hH : Sort.Holds (fun (b : UInt8) => Value.int .u8 (b.toNat : Int)) w blk 0 (Array.replicate n 0) := fun j hj => by
    rw [Array.size_replicate] at hj
    refine ⟨?_, ?_⟩
    · rw [cell_eq, hcell_blk hb, Nat.zero_add, hz j hj]
      have : (Array.replicate n (0 : UInt8))[j]! = 0 := by simp [hj]
      rw [this]; rfl
    · rw [frozen_eq]; exact hfrozen_blk hb
  have key := Any.internal_strconv_formatBase10 Tryz.lays285 blk 0 cap u (Array.replicate n 0) w hH (by rw [Array.size_replicate]; exact hu) hu64 (by rw [Array.size_replicate]; omega)
  rw [Array.size_replicate] at key
  refine Calls.mono key fun e w' ⟨he, k, v', dk, hw', hF⟩ => ⟨_, he, ?_, ?_⟩
  · subst hw'
    have hh : ((Sort.putRow (fun (b : UInt8) => Value.int .u8 (b.toNat : Int)) w blk 0 dk).drewN k).heap = w.heap.modify blk (Sort.onCells (Sort.putCells (fun (b : UInt8) => Value.int .u8 (b.toNat : Int)) 0 dk)) := rfl
    rw [hh]
    refine hk _ (Sort.putCells (fun (b : UInt8) => Value.int .u8 (b.toNat : Int)) 0 dk c) dk v' ?_ hF (fun j hj => ?_) (by simp) (fun x hx => by rw [Array.getElem?_modify, if_neg (fun e => hx e.symm)])
    · rw [Array.getElem?_modify, if_pos rfl, hb]; rfl
    · unfold Sort.putCells
      rw [Array.getElem?_mapIdx, hz j hj, Option.map_some, if_pos ⟨Nat.zero_le _, by rw [hF.size]; omega⟩, Nat.sub_zero]
  · subst hw'; exact ⟨rfl, rfl, rfl⟩
theorem tS : Tryz.prog.underlying 69 = some (.slice 5) := by kernel_rfl
theorem t8 : Tryz.prog.underlying 5 = some (.int .u8) := by kernel_rfl
theorem tT : Tryz.prog.underlying 9 = some .string := by kernel_rfl
theorem format_ok (tb : Tab h) (hu : u < 18446744073709551616) (hk : ∀ h', Fr No h h' → R (.string ⟨(Lib.decDigits u).toArray⟩) h') : Cl 161 #[.int .u64 u, .int .i64 10] h R := by
  refine internal_strconv_FormatUint.walk ?_
  rw [if_pos (by rfl)]
  by_cases h1 : u < 100
  · rw [if_pos (decide_eq_true (by omega)), wrap_id (by omega) (by omega)]
    exact small_ok h1 ⟨_, rfl, hk h (Fr.refl _ _)⟩
  · rw [if_neg (by simp; omega)]
    refine newP_of ?_
    generalize hcs : (#[.int .u8 0, .int .u8 0, .int .u8 0, .int .u8 0, .int .u8 0, .int .u8 0, .int .u8 0, .int .u8 0, .int .u8 0, .int .u8 0, .int .u8 0, .int .u8 0, .int .u8 0, .int .u8 0, .int .u8 0, .int .u8 0, .int .u8 0, .int .u8 0, .int .u8 0, .int .u8 0, .int .u8 0, .int .u8 0, .int .u8 0, .int .u8 0] : Array Value) = cs
    have hc0 : ∀ j, j < 24 → cs[j]? = some (.int .u8 0) := by
      have : cs = Array.replicate 24 (.int .u8 0) := by rw [← hcs]; rfl
      intro j hj
      rw [this]; simp [hj]
    have f1 : Fr No h (h.push (.cells cs 224)) := Fr.push _ _
    have hb1 : (h.push (.cells cs 224))[h.size]? = some (.cells cs 224 (0, 0)) := push_new
    have hnd : Lib.nDigits u ≤ 20 := by have := Lib.numDigits_eq u (by omega) hu; split at this <;> omega
    refine digits_ok (tb.on f1) (by omega) hu ⟨_, rfl, ⟨by omega, by omega⟩, ?_⟩
    have es : slBase (some (⟨h.size, 0, none⟩ : Addr)) 24 0 1 = some ⟨h.size, 0, none⟩ := rfl
    rw [es, Int.toNat_natCast, Nat.sub_zero]
    refine base10_ok hb1 (fun j hj => hc0 j (by omega)) (Lib.lt_pow_nDigits u) hu (by omega) fun h2 c2 dk v2 hb2 hF hc2 s2 o2 => ⟨rfl, ⟨by omega, by omega⟩, str (Lib.decDigits u), ?_, ?_⟩
    · refine conv_str tS t8 tT (.inr ⟨_, rfl, heldL_blk hb2 (fun j v hj => ?_)⟩) (Lib.decDigits_length u).symm
      rw [Nat.zero_add]
      have hjl : j < (Lib.decDigits u).length := by have := (List.getElem?_eq_some_iff.1 hj).1; rwa [bc_len] at this
      have hjn : j < Lib.nDigits u := by rwa [Lib.decDigits_length] at hjl
      rw [hc2 j hjn, ← Lib.row_is_numeral hF j hjl, ← hj]
      unfold bc
      rw [List.getElem?_map, List.getElem?_eq_getElem hjl]; rfl
    · exact hk h2 (f1.fresh (S := fun y => y = h.size) ⟨by omega, fun y _ hn => o2 y hn⟩ (fun y e => Nat.le_of_eq e.symm))
theorem formatUint_ok (tb : Tab h) (hu : u < 18446744073709551616) (hk : ∀ h', Fr No h h' → R (.string ⟨(Lib.decDigits u).toArray⟩) h') : Cl 94 #[.int .u64 u, .int .i64 10] h R :=
  strconv_FormatUint.walk (format_ok tb hu fun h1 f1 => ⟨_, rfl, hk h1 f1⟩)

end Num
end
end Go.Proofs.YticlajoleibdnaaGreatDoor
namespace Go.Proofs
open Go.Den
open IntKind (wrap)
open Int (toNat)
section
open Go.Shelf
def Tryz.lays146_ren : Go.Shelf.Ren := ⟨fun | 146 => 13 | 221 => 19 | 268 => 33 | 138 => 34 | 143 => 35 | 195 => 65 | 197 => 66 | 218 => 67 | 219 => 68 | 260 => 133 | 217 => 134 | 225 => 135 | 224 => 136 | 267 => 137 | 266 => 202 | 314 => 203 | n => n, fun | 9 => 9 | 31 => 40 | 3 => 3 | 4 => 4 | 0 => 0 | 105 => 122 | 21 => 21 | 5 => 5 | 46 => 185 | 119 => 302 | 139 => 305 | 138 => 304 | 146 => 307 | 51 => 306 | n => n, fun | 1 => 0 | 3 => 3 | 4 => 4 | n => n⟩
theorem Tryz.lays146 : Go.Proofs.Lays.n146 Tryz.prog Tryz.lays146_ren := by
  constructor; all_goals first | kernel_rfl | (intro _; kernel_rfl)
def Tryz.lays171_ren : Go.Shelf.Ren := ⟨fun | 171 => 24 | 243 => 38 | 246 => 74 | 283 => 141 | 284 => 142 | 285 => 143 | 286 => 144 | 129 => 207 | 317 => 206 | 318 => 208 | 319 => 209 | 320 => 210 | 337 => 282 | 338 => 283 | n => n, fun | 3 => 3 | 9 => 9 | 2 => 2 | 4 => 4 | 171 => 224 | 0 => 0 | 53 => 62 | 37 => 69 | 5 => 5 | 173 => 227 | 212 => 314 | 51 => 306 | 20 => 20 | 213 => 315 | 46 => 185 | 232 => 499 | 233 => 500 | n => n, fun | 17 => 5 | 18 => 6 | 19 => 7 | n => n⟩
theorem Tryz.lays171 : Go.Proofs.LaysM.n171 Tryz.prog Tryz.lays171_ren := by
  constructor; constructor; all_goals first | kernel_rfl | (intro _; kernel_rfl)
def Tryz.lays137_ren : Go.Shelf.Ren := ⟨fun | 137 => 95 | 217 => 134 | 266 => 202 | n => n, fun | 9 => 9 | 5 => 5 | 3 => 3 | n => n, fun | n => n⟩
theorem Tryz.lays137 : Go.Proofs.Lays.n137 Tryz.prog Tryz.lays137_ren := by
  constructor; all_goals first | kernel_rfl | (intro _; kernel_rfl)
def Tryz.lays156_ren : Go.Shelf.Ren := ⟨fun | 156 => 98 | 165 => 164 | 166 => 165 | 169 => 114 | 240 => 183 | 241 => 235 | 276 => 252 | 277 => 314 | n => n, fun | 31 => 40 | 9 => 9 | 3 => 3 | 4 => 4 | 0 => 0 | 20 => 20 | 72 => 203 | 76 => 55 | 70 => 201 | 37 => 69 | 75 => 54 | 127 => 270 | 164 => 364 | 5 => 5 | 80 => 205 | n => n, fun | n => n⟩
theorem Tryz.lays156 : Go.Proofs.Lays.n156 Tryz.prog Tryz.lays156_ren := by
  constructor; all_goals first | kernel_rfl | (intro _; kernel_rfl)
def Tryz.lays160_ren : Go.Shelf.Ren := ⟨fun | 160 => 39 | 232 => 76 | 231 => 75 | 227 => 77 | 234 => 79 | 233 => 78 | 236 => 81 | 235 => 80 | 228 => 145 | 271 => 147 | 151 => 146 | 197 => 66 | 120 => 212 | 152 => 211 | 260 => 133 | 137 => 95 | 119 => 284 | 224 => 136 | 225 => 135 | 217 => 134 | 266 => 202 | n => n, fun | 9 => 9 | 4 => 4 | 3 => 3 | 5 => 5 | 117 => 135 | 116 => 134 | 0 => 0 | 124 => 138 | 21 => 21 | 105 => 122 | 46 => 185 | 119 => 302 | 139 => 305 | 138 => 304 | n => n, fun | 3 => 3 | 4 => 4 | n => n⟩
theorem Tryz.lays160 : Go.Proofs.Lays.n160 Tryz.prog Tryz.lays160_ren := by
  constructor; all_goals first | kernel_rfl | (intro _; kernel_rfl)
def Tryz.lays172_ren : Go.Shelf.Ren := ⟨fun | 172 => 23 | 244 => 36 | 245 => 37 | 247 => 69 | 279 => 70 | 280 => 71 | 281 => 72 | 282 => 73 | 287 => 138 | 316 => 139 | 171 => 24 | 205 => 140 | 321 => 204 | 322 => 205 | 243 => 38 | 246 => 74 | 283 => 141 | 284 => 142 | 285 => 143 | 286 => 144 | 129 => 207 | 317 => 206 | 318 => 208 | 319 => 209 | 320 => 210 | 337 => 282 | 338 => 283 | n => n, fun | 9 => 9 | 3 => 3 | 75 => 54 | 76 => 55 | 4 => 4 | 5 => 5 | 167 => 125 | 37 => 69 | 0 => 0 | 85 => 126 | 2 => 2 | 168 => 128 | 53 => 62 | 175 => 182 | 46 => 185 | 210 => 222 | 127 => 270 | 145 => 312 | 143 => 310 | 21 => 21 | 171 => 224 | 173 => 227 | 212 => 314 | 51 => 306 | 20 => 20 | 213 => 315 | 232 => 499 | 233 => 500 | 80 => 205 | n => n, fun | 15 => 1 | 16 => 2 | 17 => 5 | 18 => 6 | 19 => 7 | n => n⟩
theorem Tryz.lays172 : Go.Proofs.LaysC.n172 Tryz.prog Tryz.lays172_ren := by
  constructor; constructor; constructor; all_goals first | kernel_rfl | (intro _; kernel_rfl)

end
end Go.Proofs
namespace Go.Proofs.YticlajoleibdnaaGreatDoor
open Go.Den
open IntKind (wrap)
open Int (toNat)
section
open Go.Shelf Go.RowKit
namespace Num
variable {h h':Heap} {R:TyP}
variable {w w':World} {s:ByteArray} {c:Nat}
theorem of_below (b : Below w.heap.size w w') : Fr No w.heap w'.heap ∧ Same w w' := ⟨⟨b.size, fun c hc _ => b.block c hc⟩, b.os, b.output, b.tape⟩
abbrev sp : ByteArray := ⟨#[32]⟩
def words (s : ByteArray) : List ByteArray := Lib.splitB sp 0 (Lib.countB s sp) s
theorem words_len (s : ByteArray) : (words s).length = Lib.countB s sp + 1 := Lib.splitB_all sp (by decide) 0 _ s rfl
theorem splitB_size (sep : ByteArray) : ∀ (k : Nat) (s w : ByteArray), w ∈ Lib.splitB sep 0 k s → w.size ≤ s.size
  | 0, s, w, hw => by
    rw [Lib.splitB_zero, List.mem_singleton] at hw
    subst hw
    exact Nat.le_refl _
  | k + 1, s, w, hw => by
    unfold Lib.splitB at hw
    split at hw
    · rw [List.mem_singleton] at hw
      subst hw
      exact Nat.le_refl _
    · rcases List.mem_cons.1 hw with e | e
      · subst e
        simp [ByteArray.size_extract]
        omega
      · have := splitB_size sep k _ w e
        simp [ByteArray.size_extract] at this
        omega
theorem words_mem {w:ByteArray} (hw : w ∈ words s) : w.size ≤ s.size := splitB_size sp _ s w hw
theorem words_size (i : Nat) : ((words s).getD i ⟨#[]⟩).size ≤ s.size := by
  rw [List.getD_eq_getElem?_getD]
  cases e : (words s)[i]? with
  | none => exact Nat.zero_le _
  | some w => exact words_mem (List.mem_of_getElem? e)
theorem words_le (s : ByteArray) : (words s).length ≤ s.size + 1 := by
  rw [words_len]
  have := Lib.countB_le sp (by decide) s.size s (Nat.le_refl _)
  omega
theorem split_ok (M : Mx h) (hs : s.size < 4294967281) (hk : ∀ g, Fr No h g → Row g (some ⟨h.size, 0, none⟩) ((words s).map Value.string) → R (.slice (some ⟨h.size, 0, none⟩) (words s).length (words s).length) g) :
    Cl 13 #[.string s, .string sp] h R := fun w hw => by
  subst hw
  have ⟨m, hm⟩ := M
  refine (Any.strings_Split Tryz.lays146 (by kernel_rfl) s sp m w hs (by exact hm) (by decide)).mono fun e w' ⟨he, hw'⟩ => ⟨_, he, ?_, ?_⟩
  · rw [← words_len, hw']
    exact hk _ (Fr.push _ _) row_new
  · rw [hw']; exact ⟨rfl, rfl, rfl⟩
theorem itoa_ok {n : Int} (tb : Tab h) (h0 : -9223372036854775808 ≤ n) (h1 : n ≤ 9223372036854775807) (hk : ∀ g, Fr No h g → R (.string (str (Lib.itoa n))) g) : Cl 24 #[.int .i64 n] h R := fun w hw => by
  subst hw
  refine (Any.strconv_Itoa Tryz.lays171 n h0 h1 w (tb.is (by kernel_rfl))).mono fun e w' ⟨he, k, os, hw'⟩ => ⟨_, he, ?_, ?_⟩
  · rw [hw']
    refine hk _ ⟨by simp [Sort.grow, World.drewN], fun c hc _ => ?_⟩
    show (w.heap ++ os)[c]? = _
    rw [Array.getElem?_append_left hc]
  · rw [hw']; exact ⟨rfl, rfl, rfl⟩
theorem idxB_ok (hc : c < 256) (hk : R (.int .i64 (Lib.indexByte s.data.toList (UInt8.ofNat c))) h) : Cl 95 #[.string s, .int .u8 (c : Int)] h R := fun w hw => by
  subst hw
  refine (Any.strings_IndexByte Tryz.lays137 s c w).mono fun e w' ⟨he, hw'⟩ => ⟨_, he, ?_, ?_⟩
  · rw [hw']; exact hk
  · rw [hw']; exact Same.refl _
theorem Builder_Extra_156 : Builder.Extra Tryz.prog Tryz.lays156_ren :=
  { sizeBuilder := by kernel_rfl, liesBuilder := by kernel_rfl, t5 := by kernel_rfl, a5 := fun w => by kernel_rfl, z5 := fun w => by kernel_rfl, v5 := fun w => by kernel_rfl, infoByte := by kernel_rfl, cellsByte := by kernel_rfl, sizeByte := by kernel_rfl, neB5 := by decide }
theorem join_ok {xs : List ByteArray} {b o l:Nat} (hr : Row h (some ⟨b, o, none⟩) (xs.map Value.string)) (hl : l = xs.length) (hb : b < h.size) (hn : xs.length ≤ 1000) (hc : l ≤ c)
    (ht : (Lib.join (xs.map (·.data.toList)) [32]).length ≤ 140737488355328) (hk : ∀ g, Fr No h g → R (.string (str (Lib.join (xs.map (·.data.toList)) [32]))) g) : Cl 98 #[.slice (some ⟨b, o, none⟩) l c, .string sp] h R := fun w hw => by
  subst hw hl
  refine (Any.strings_Join Tryz.lays156 Builder_Extra_156 b o c xs sp w (fun j x hx => ?_) hb (by omega) hc ht).mono fun e w' ⟨he, hw'⟩ => ⟨_, he, hk _ (of_below hw').1, (of_below hw').2⟩
  rw [cell_eq]
  have := hr.cell (j := j) (by rw [List.getElem?_map, hx]; rfl)
  unfold Addr.add at this
  by_cases e : j = 0
  · subst e; exact this
  · rw [if_neg e] at this; exact this
abbrev hexs : List UInt8 := [48, 49, 50, 51, 52, 53, 54, 55, 56, 57, 97, 98, 99, 100, 101, 102]
theorem trim_ok (hs : s.size ≤ 100000) (hk : ∀ g, Fr No h g → R (.string (str (Lib.trimS s.data.toList hexs))) g) : Cl 39 #[.string s, .string ⟨#[48, 49, 50, 51, 52, 53, 54, 55, 56, 57, 97, 98, 99, 100, 101, 102]⟩] h R := fun w hw => by
  subst hw
  exact (Any.strings_Trim_laid Tryz.lays160 (by kernel_rfl) s _ w (by omega) (by decide) (ascii_of_all (by decide))).mono fun e w' ⟨he, hw'⟩ => ⟨_, he, hk _ (of_below hw').1, (of_below hw').2⟩
def isErr (v : Value) : Prop := v = .nilIface ∨ ∃ t p, v = .iface t p
structure Er (h : Heap) : Prop where
  s : ∃ v, hcell h ⟨1, 0, none⟩ = some v ∧ isErr v
  r : ∃ v, hcell h ⟨2, 0, none⟩ = some v ∧ isErr v
theorem Er.on (E : Er h) (f : Fr No h h') : Er h' := by
  obtain ⟨⟨v, hv, e⟩, ⟨u, hu, e'⟩⟩ := E
  exact ⟨⟨v, f.cell hv id, e⟩, ⟨u, f.cell hu id, e'⟩⟩
def erV (v : Value) (b : Bool) : Prop := (b = true ∧ v = .nilIface) ∨ (b = false ∧ ∃ t N, v = .iface t (.pointer (some ⟨N, 0, none⟩)))
theorem world_of {t : TypeId} (e : w' = Lib.bytesWorld w t s) : Fr No w.heap w'.heap ∧ Same w w' := by
  subst e
  refine ⟨?_, by unfold Lib.bytesWorld World.freeze; split <;> exact ⟨rfl, rfl, rfl⟩⟩
  unfold Lib.bytesWorld
  rw [freeze_eq]
  have e1 : (w.drew.alloc (.cells (Lib.bytesCells w t s) t)).heap = w.heap.push (.cells (Lib.bytesCells w t s) t) := rfl
  rw [e1]
  unfold hfreeze
  split
  · exact Fr.push _ _
  · refine ⟨by simp, fun c hc _ => ?_⟩
    rw [Array.getElem?_modify, if_neg (by simp; omega), Array.getElem?_push, if_neg (by omega)]
def atoiV (s : ByteArray) : Int := match Lib.atoiAll s.data.toList with | .ok v => v | .range => Lib.atoiSat s.data.toList | _ => 0
def atoiOk (s : ByteArray) : Bool := match Lib.atoiAll s.data.toList with | .ok _ => true | _ => false
theorem atoi_ok (E : Er h) (hs : s.size ≤ 100000) (hk : ∀ g v, Fr No h g → erV v (atoiOk s) → R (.tuple #[.int .i64 (atoiV s), v]) g) : Cl 23 #[.string s] h R := fun w hw => by
  subst hw
  unfold atoiV atoiOk at hk
  cases q : Lib.atoiAll s.data.toList with
  | ok v =>
    rw [q] at hk
    refine (Any.strconv_Atoi_ok Tryz.lays172 s (by omega) v q w).mono fun e w' ⟨he, hw'⟩ => ?_
    rcases hw' with rfl | ⟨t, e⟩
    · exact ⟨_, he, hk _ _ (Fr.refl _ _) (.inl ⟨rfl, rfl⟩), Same.refl _⟩
    · exact ⟨_, he, hk _ _ (world_of e).1 (.inl ⟨rfl, rfl⟩), (world_of e).2⟩
  | range =>
    rw [q] at hk
    obtain ⟨_, ⟨ev, hv, ee⟩⟩ := E
    exact (Any.strconv_Atoi_range Tryz.lays172 s (by omega) q ev w (by exact hv) ee).mono fun e w' ⟨N, he, _, _, hw'⟩ => ⟨_, he, hk _ _ (of_below hw').1 (.inr ⟨rfl, _, _, rfl⟩), (of_below hw').2⟩
  | _ =>
    rw [q] at hk
    obtain ⟨⟨ev, hv, ee⟩, _⟩ := E
    exact (Any.strconv_Atoi_syntax Tryz.lays172 s (by omega) q ev w (by exact hv) ee).mono fun e w' ⟨N, he, _, _, hw'⟩ => ⟨_, he, hk _ _ (of_below hw').1 (.inr ⟨rfl, _, _, rfl⟩), (of_below hw').2⟩
def p64V (s : ByteArray) : Nat := match Lib.parseUintB 64 s.data.toList with | .ok v => v | .range => 18446744073709551615 | _ => 0
def p64Ok (s : ByteArray) : Bool := match Lib.parseUintB 64 s.data.toList with | .ok _ => true | _ => false
theorem p64_ok (E : Er h) (hs : s.size ≤ 100000) (hk : ∀ g v, Fr No h g → erV v (p64Ok s) → R (.tuple #[.int .u64 (p64V s : Int), v]) g) : Cl 93 #[.string s, .int .i64 10, .int .i64 64] h R := fun w hw => by
  subst hw
  unfold p64V p64Ok at hk
  cases q : Lib.parseUintB 64 s.data.toList with
  | ok v =>
    rw [q] at hk
    refine (Any.strconv_ParseUint_10_at64_ok Tryz.lays14 s (by omega) v q w).mono fun e w' ⟨he, hw'⟩ => ?_
    rcases hw' with rfl | e
    · exact ⟨_, he, hk _ _ (Fr.refl _ _) (.inl ⟨rfl, rfl⟩), Same.refl _⟩
    · exact ⟨_, he, hk _ _ (world_of e).1 (.inl ⟨rfl, rfl⟩), (world_of e).2⟩
  | range =>
    rw [q] at hk
    obtain ⟨_, ⟨ev, hv, ee⟩⟩ := E
    exact (Any.strconv_ParseUint_10_at64_range Tryz.lays14 s (by omega) q ev w (by exact hv) ee).mono fun e w' ⟨N, he, _, _, hw'⟩ => ⟨_, he, hk _ _ (of_below hw').1 (.inr ⟨rfl, _, _, rfl⟩), (of_below hw').2⟩
  | _ =>
    rw [q] at hk
    obtain ⟨⟨ev, hv, ee⟩, _⟩ := E
    exact (Any.strconv_ParseUint_10_at64_syntax Tryz.lays14 s (by omega) q ev w (by exact hv) ee).mono fun e w' ⟨N, he, _, _, hw'⟩ => ⟨_, he, hk _ _ (of_below hw').1 (.inr ⟨rfl, _, _, rfl⟩), (of_below hw').2⟩
theorem p64M_lt : ∀ (l : List UInt8) (a u : Nat), a < 18446744073709551616 → Lib.parseUintM (2 ^ 64 - 1) a l = .ok u → u < 18446744073709551616
  | [], a, u, ha, h => by
    simp only [Lib.parseUintM] at h
    injection h with h
    omega
  | c :: r, a, u, ha, h => by
    simp only [Lib.parseUintM] at h
    split at h
    · split at h
      · cases h
      · split at h
        · cases h
        · exact p64M_lt r _ u (by omega) h
    · cases h
theorem p64_lt (s : ByteArray) : p64V s < 18446744073709551616 := by
  unfold p64V
  split
  · rename_i v e
    unfold Lib.parseUintB at e
    split at e
    · cases e
    · exact p64M_lt _ 0 v (by decide) e
  · decide
  · decide
theorem atoiV_in (s : ByteArray) : -9223372036854775808 ≤ atoiV s ∧ atoiV s ≤ 9223372036854775807 := by
  unfold atoiV
  split
  · rename_i v e
    unfold Lib.atoiAll at e
    split at e
    · cases e
    · dsimp only at e
      split at e
      · cases e
      · cases e
      · split at e
        · cases e
        · split at e
          · cases e
          · injection e with e
            subst e
            split <;> constructor <;> omega
  · unfold Lib.atoiSat
    split <;> decide
  · decide
theorem erV.eq {v : Value} {b : Bool} (e : erV v b) : EqV Tryz.prog 54 v .nilIface b := by
  rcases e with ⟨rfl, rfl⟩ | ⟨rfl, t, N, rfl⟩
  · exact fun h => by kernel_rfl
  · exact fun h => by kernel_rfl

end Num
end
section
namespace Aud
open Num
variable {n:Nat} {P:Nat→Bool}
def isS (s : ByteArray) (l : List UInt8) : Bool := s.data.toList == l
theorem eqs (s : ByteArray) (l : List UInt8) : (s.toList == (⟨l.toArray⟩ : ByteArray).toList) = isS s l := by rw [toList_data, toList_data]; rfl
theorem eqs2 (s t : ByteArray) : (s.toList == t.toList) = isS s t.data.toList := by rw [toList_data, toList_data]; rfl
def kindsQ (v : ByteArray) : List UInt8 × Bool :=
  if (isS v [99, 111, 110, 110, 101, 99, 116] || (isS v [115, 116, 101, 112] || (isS v [97, 110, 115, 119, 101, 114] || (isS v [116, 97, 107, 101] || (isS v [110, 111, 119] || (isS v [108, 105, 110, 101, 115] || isS v [106, 117, 100, 103, 101])))))) = true then ([], true)
  else if (isS v [99, 108, 111, 115, 101] || (isS v [111, 117, 116] || (isS v [116, 105, 99, 107] || isS v [119, 97, 105, 116, 115]))) = true then ([110], true)
  else if isS v [114, 117, 110] = true then ([110, 110], true)
  else if isS v [102, 101, 101, 100] = true then ([110, 98], true)
  else if isS v [97, 114, 114, 105, 118, 101] = true then ([98], true)
  else if isS v [99, 114, 97, 115, 104] = true then ([107], true)
  else ([], false)
def numB (s : ByteArray) : Bool := p64Ok s && (decide (p64V s ≤ 2147483648) && isS (str (Lib.decDigits (p64V s))) s.data.toList)
def hexB (c : UInt8) : Bool := !decide (Lib.indexByte hexs c < 0)
def chr (s : ByteArray) (i : Nat) : UInt8 := s.data.toList.getD i 0
def pairB (s : ByteArray) (k : Nat) : Bool := hexB (chr s (2 * k)) && hexB (chr s (2 * k + 1))
def bytesB (s : ByteArray) : Bool := isS s [45] || ((List.range (s.size / 2)).all (pairB s) && (!isS s [] && decide (s.size % 2 = 0)))
def bitB (s : ByteArray) (k : Nat) : Bool := chr s k == 48 || chr s k == 49
def bitsB (s : ByteArray) : Bool := isS s [45] || ((List.range s.size).all (bitB s) && (!isS s [] && decide (s.size ≤ 64)))
def okW (k : UInt8) (w : ByteArray) : Bool := if k = 110 then numB w else if k = 98 then bytesB w else bitsB w
def wordAt (s : ByteArray) (i : Nat) : ByteArray := (words s).getD i ⟨#[]⟩
def readB (s : ByteArray) : Bool := (kindsQ (wordAt s 0)).2 && (decide ((words s).length = (kindsQ (wordAt s 0)).1.length + 1) && (List.range (kindsQ (wordAt s 0)).1.length).all fun i => okW ((kindsQ (wordAt s 0)).1.getD i 0) (wordAt s (i + 1)))
def lineB (s : ByteArray) : Bool := decide (s.size ≤ 4096) && readB s
theorem all_true (h : ∀ j, j < n → P j = true) : (List.range n).all P = true := List.all_eq_true.2 fun j hj => h j (List.mem_range.1 hj)
theorem all_false {k:Nat} (hk : k < n) (h : P k = false) : (List.range n).all P = false := by
  cases e : (List.range n).all P with
  | false => rfl
  | true => rw [List.all_eq_true.1 e k (List.mem_range.2 hk)] at h; cases h
theorem kinds_le (v : ByteArray) : (kindsQ v).1.length ≤ 2 := by
  unfold kindsQ
  split <;> first | decide | skip
  split <;> first | decide | skip
  split <;> first | decide | skip
  split <;> first | decide | skip
  split <;> first | decide | skip
  split <;> decide
structure BK where
  wrong : Bool
  heard : Int
  now : Int
  conns : Int
  l0 : Int
  l1 : Int
  l2 : Int
def bk0 : BK := ⟨false, 0, 0, 0, 0, 0, 0⟩
def intB (s : ByteArray) : Bool := atoiOk s && (!decide (atoiV s < 0) && (isS (str (Lib.itoa (atoiV s))) s.data.toList && !decide (s.size > 18)))
def intsQ (l : List ByteArray) : Option (List Int) := if l.all intB = true then some (l.map atoiV) else none
def isWordB (s : ByteArray) : Bool := isS s [45] || (!isS s [] && (decide (s.size % 2 = 0) && (Lib.trimS s.data.toList hexs == [])))
def sureB (v : ByteArray) : Bool := isS v [97, 110, 115, 119, 101, 114] || (isS v [119, 97, 105, 116, 115] || (isS v [110, 111, 119] || (isS v [108, 105, 110, 101, 115] || isS v [106, 117, 100, 103, 101])))
def oneB (l : List ByteArray) (most : Int) : Bool := match intsQ l with | some [n] => decide (n ≤ most) | _ => false
def replyB (l : List ByteArray) (numbered : Bool) : Bool :=
  match l with
  | [a, b, c, d, e, w] => isWordB w && match intsQ [a, b, c, d, e] with
    | some [x0, x1, x2, x3, x4] => !decide (x1 > 99) && ((numbered || decide (x0 = 0)) && (decide (x1 = 0) || (!(decide (x2 > 0) || (decide (x3 > 0) || decide (x4 > 0))) && isS w [45])))
    | _ => false
  | _ => false
def wr (n : Int) : Int := IntKind.wrap .i64 n
def okQ (b : BK) (l told : List ByteArray) : BK × Bool :=
  let v := l.getD 0 ⟨#[]⟩
  if isS v [99, 111, 110, 110, 101, 99, 116] = true then ({ b with conns := wr (b.conns + 1) }, oneB told (wr (b.conns + 1)) && isS (told.getD 0 ⟨#[]⟩) (Lib.itoa (wr (b.conns + 1))))
  else if isS v [99, 114, 97, 115, 104] = true then ({ b with conns := 0 }, (intsQ told).isSome && decide (told.length = 1))
  else if isS v [116, 105, 99, 107] = true then ({ b with now := wr (b.now + atoiV (l.getD 1 ⟨#[]⟩)) }, decide (told.length = 0))
  else if isS v [115, 116, 101, 112] = true then (b, oneB told 3)
  else if isS v [97, 110, 115, 119, 101, 114] = true then (b, oneB told 64)
  else if isS v [119, 97, 105, 116, 115] = true then (b, oneB told 8)
  else if isS v [110, 111, 119] = true then (b, decide (told.length = 1) && isS (told.getD 0 ⟨#[]⟩) (Lib.itoa b.now))
  else if isS v [111, 117, 116] = true then (b, decide (told.length = 1) && isWordB (told.getD 0 ⟨#[]⟩))
  else if (isS v [114, 117, 110] || (isS v [97, 114, 114, 105, 118, 101] || isS v [116, 97, 107, 101])) = true then (b, replyB told (isS v [114, 117, 110]))
  else if isS v [108, 105, 110, 101, 115] = true then
    match intsQ told with
    | some [x0, x1, x2] => if (decide (x1 > x0) || (decide (x2 > x1) || (decide (x0 < b.l0) || decide (x2 < b.l2)))) = true then (b, false) else ({ b with l0 := x0, l1 := x1, l2 := x2 }, true)
    | _ => (b, false)
  else if isS v [106, 117, 100, 103, 101] = true then (b, match intsQ told with | some [n] => decide (n ≥ b.l0) | _ => false)
  else (b, decide (told.length = 0))
def fitsQ (b : BK) (line told : ByteArray) : BK × Bool :=
  if lineB line = true then
    let t := words told
    if isS (t.getD 0 ⟨#[]⟩) [101, 114, 114] = true then (b, oneB (t.drop 1) 99 && (!isS (t.getD 1 ⟨#[]⟩) [48] && !sureB (wordAt line 0)))
    else if isS (t.getD 0 ⟨#[]⟩) [111, 107] = true then okQ b (words line) (t.drop 1)
    else (b, false)
  else (b, isS told [98, 97, 100])
def hearQ (b : BK) (x : ByteArray × ByteArray) : BK × Bool × Int :=
  if b.wrong = true then (b, false, 7)
  else
    let r := fitsQ { b with heard := wr (b.heard + 1) } x.1 x.2
    ({ r.1 with wrong := !r.2 }, r.2, 0)
def judgeQ : BK → List (ByteArray × ByteArray) → Nat
  | _, [] => 0
  | b, x :: l => if (hearQ b x).2.1 = true then judgeQ (hearQ b x).1 l + 1 else 0

end Aud
end
section
variable {h:Heap} {R:TyP}
theorem slices_Clone_s_byte_byte.walk {s_p : Option Addr} {s_l s_c : Nat} (hv :
 ite s_p.isNone
 (  R (.slice none 0 0) h)
 (  NewP h (.cells #[] 5) fun b h_1 =>
 Dsz (Builtin.append_ #[69, 69] 69 #[.slice (some ⟨b, 0, none⟩) 0 0, .slice s_p s_l s_c]) h_1 fun v h_2 =>
 ∃ t7_p t7_l t7_c, v = .slice t7_p t7_l t7_c ∧
 R (.slice t7_p t7_l t7_c) h_2)) : Cl 152 #[.slice s_p s_l s_c] h R :=
 callsN [] hv

end
section
namespace Fld
variable {h:Heap} {bs:TyL} {R:TyP}
variable {p:TyO} {n c:Nat}
theorem tU : SlTy Tryz.prog 69 5 1 1 (.int .u8 0) := ⟨by kernel_rfl, by kernel_rfl, rfl⟩
theorem uU : Tryz.prog.underlying 69 = some (.slice 5) := by kernel_rfl
theorem u8 : Tryz.prog.underlying 5 = some (.int .u8) := by kernel_rfl
theorem uS : Tryz.prog.underlying 9 = some .string := by kernel_rfl
theorem conv (hr : Row h p (bc bs)) (hn : n = bs.length) : ConvV Tryz.prog 69 9 (.slice p n c) h (str bs) := conv_str uU u8 uS hr hn
theorem clone_ok (hr : Row h p (bc bs)) (hn : n = bs.length) (hl : bs.length ≤ 70368744177664)
    (hk : ∀ p' c' h', Own h' p' bs.length c' 1 (bc bs) → Fr No h h' → (∀ x, inBlk p' x → h.size ≤ x) → R (.slice p' bs.length c') h') :
    Cl 152 #[.slice p n c] h R := by
  subst hn
  exact slices_Clone_s_byte_byte.walk (clone_all tU uU (by decide) hr (by rw [bc_len, Nat.mul_one]) (bc_one bs) (by omega) (by omega) hk)
theorem lit_ok {cs : Array Value} {K : Option Addr → Nat → Nat → Heap → Prop} (hc : cs = (bc bs).toArray) (hk : ∀ h', Row h' (some ⟨h.size, 0, none⟩) (bc bs) → Fr No h h' → K (some ⟨h.size, 0, none⟩) n n h') :
    NewP h (.cells cs 5) fun b h_4 => denSem Tryz.prog (convert 69 69 (.slice (some ⟨b, 0, none⟩) n n)) h_4 fun v h_5 => ∃ (p : Option Addr) (l c : Nat), v = .slice p l c ∧ K p l c h_5 := by
  subst hc
  refine newP_of (den_lit uU u8 (a := ⟨h.size, 0, none⟩) push_new fun h4 fz4 hb4 sz4 ot4 => ⟨_, _, _, rfl, ?_⟩)
  refine hk h4 (.inr ⟨_, rfl, heldL_blk hb4 (fun j v hj => by rw [Nat.zero_add]; simpa using hj)⟩) ⟨by rw [sz4]; simp, fun c hc _ => by rw [ot4 c (by simp; omega), Array.getElem?_push, if_neg (by omega)]⟩

end Fld
end
section
variable {h:Heap} {R:TyP}
variable {K:Nat→Heap→Prop} {d j f1l f1c f4l f4c f5l f5c b:Nat} {s f4:ByteArray} {a:Addr} {f0 f1:Int} {f1p f4p f5p:TyO} {f2 f3:Bool}
theorem bytes_Equal.walk {a_p : Option Addr} {a_l a_c : Nat} {b_p : Option Addr} {b_l b_c : Nat} (hv :
 ∃ (t6 : ByteArray), ConvV Tryz.prog 69 9 (.slice a_p a_l a_c) h t6 ∧
 ∃ (t8 : ByteArray), ConvV Tryz.prog 69 9 (.slice b_p b_l b_c) h t8 ∧
 R (.bool (t6.toList == t8.toList)) h) : Cl 194 #[.slice a_p a_l a_c, .slice b_p b_l b_c] h R :=
 callsN [] hv
theorem journal_plan.ex {K : journal_plan.S → Prop} (x : journal_plan.S) (hk : K x) : journal_plan.EX K := ⟨_, _, _, _, hk⟩
abbrev journal_Journal.atp (h : Heap) (b : Nat) (x : journal_Journal.S) : Prop := h[b]? = some (.cells x.arr 341 (0, 0))
theorem journal_Journal.ex {K : journal_Journal.S → Prop} (x : journal_Journal.S) (hk : K x) : journal_Journal.EX K := ⟨_, _, _, _, _, _, _, _, _, _, _, _, _, _, _, _, _, _, hk⟩
theorem journal_made.walk {s : super_Super.S} (hv :
 NewP h (.cells s.arr 337) fun b h_1 =>
 Cl 294 #[.pointer (some ⟨d, 0, none⟩)] h_1 fun v h_2 =>
 area_Area.EX fun t10_0 =>
 area_Area.EX fun t10_1 =>
 ∃ t10_2, v = .tuple #[t10_0.agg, t10_1.agg, .int .i64 t10_2] ∧
 NewP h_2 (.cells area_Area.S.z.arr 334) fun b_1 h_3 =>
 NewP h_3 (.cells area_Area.S.z.arr 334) fun b_2 h_4 =>
 area_Area.STp h_4 ⟨b_1, 0, none⟩ t10_0 fun h_5 =>
 area_Area.STp h_5 ⟨b_2, 0, none⟩ t10_1 fun h_6 =>
 area_Area.LDp h_6 ⟨b_1, 0, none⟩ fun t15 =>
 area_Area.LDp h_6 ⟨b_2, 0, none⟩ fun t16 =>
 super_Super.LDp h_6 ⟨b, 0, none⟩ fun t18 =>
 NewP h_6 (.cells #[.pointer (some ⟨d, 0, none⟩), .int .i64 t15.f0, .int .i64 t15.f1, .int .i64 t16.f0, .int .i64 t16.f1, .int .u64 t18.f0, .int .i64 t18.f1, .int .i64 t18.f2, .slice none 0 0, .int .i64 0, .int .i64 0, .int .i64 0, .int .i64 0, .int .i64 0, .int .i64 0, .int .i64 0] 341) fun b_3 h_7 =>
 R (.pointer (some ⟨b_3, 0, none⟩)) h_7) : Cl 286 #[.pointer (some ⟨d, 0, none⟩), s.agg] h R :=
 callsN [] hv
theorem journal_Format.walk (hv :
 Cl 83 #[.pointer (some ⟨d, 0, none⟩)] h fun v h_1 =>
 ∃ t7, v = .int .i64 t7 ∧
 ite (t7 == 0)
 (  R (.tuple #[.pointer none, .int .i64 6]) h_1)
 (  Cl 286 #[.pointer (some ⟨d, 0, none⟩), .agg #[.int .u64 1, .int .i64 0, .int .i64 0]] h_1 fun v_1 h_2 =>
 ∃ t11, v_1 = .pointer t11 ∧
 onSome t11 fun a =>
 super_Super.LDp h_2 (a.add 5) fun t16 =>
 Cl 296 #[.pointer (some ⟨d, 0, none⟩), t16.agg] h_2 fun v_2 h_3 =>
 ∃ t17, v_2 = .int .i64 t17 ∧
 ite (t17 != 0)
 (  R (.tuple #[.pointer none, .int .i64 t17]) h_3)
 (  Cl 297 #[.pointer (some ⟨d, 0, none⟩)] h_3 fun v_3 h_4 =>
 ∃ t23, v_3 = .int .i64 t23 ∧
 R (.tuple #[.pointer t11, .int .i64 t23]) h_4))) : Cl 216 #[.pointer (some ⟨d, 0, none⟩)] h R :=
 callsN [] hv
theorem journal_Journal_made.walk (hv :
 ∃ t9, hcell h ⟨j, 0, none⟩ = some (.pointer t9) ∧
 R (.bool (!t9.isNone)) h) : Cl 226 #[.pointer (some ⟨j, 0, none⟩)] h R :=
 callsN [] hv
theorem journal_Journal_Done.walk (hv :
 Cl 226 #[.pointer (some ⟨j, 0, none⟩)] h fun v h_1 =>
 ∃ t4, v = .bool t4 ∧
 ite (!t4)
 (  R (.int .i64 0) h_1)
 (  ∃ t9, hcell h_1 ⟨j, 15, none⟩ = some (.int .i64 t9) ∧
 R (.int .i64 t9) h_1)) : Cl 180 #[.pointer (some ⟨j, 0, none⟩)] h R :=
 callsN [] hv
def sessions_Answer.at (h : Heap) (b : Nat) (f0 : Int) (f1p : Option Addr) (f1l f1c : Nat) : Prop := h[b]? = some (.cells #[.int .u64 f0, .slice f1p f1l f1c] 240 (0, 0))
theorem sessions_Answer.ldA {K : Int → Option Addr → Nat → Nat → Prop} (hb : heldL a [.int .u64 f0, .slice f1p f1l f1c] 0 h) (hk : K f0 f1p f1l f1c) : sessions_Answer.LD h a K := by
  obtain ⟨q0, q1, _⟩ := hb
  rw [add_zero_addr] at q0
  exact ⟨_, q0, _, _, _, q1, hk⟩
theorem sessions_Answer.new (hk : ∀ b h', b = h.size → sessions_Answer.at h' b f0 f1p f1l f1c → Fr No h h' → K b h') : NewP h (.cells #[.int .u64 0, .slice none 0 0] 240) fun b h_0 => sessions_Answer.ST h_0 ⟨b, 0, none⟩ f0 f1p f1l f1c (K b) :=
  new_full (vs := [.int .u64 f0, .slice f1p f1l f1c]) rfl rfl hk
def sessions_Session.at (h : Heap) (b : Nat) (f0 : Int) (f1 : Int) (f2 : Bool) (f3 : Bool) (f4p : Option Addr) (f4l f4c : Nat) (f5p : Option Addr) (f5l f5c : Nat) : Prop := h[b]? = some (.cells #[.int .i64 f0, .int .u64 f1, .bool f2, .bool f3, .slice f4p f4l f4c, .slice f5p f5l f5c] 166 (0, 0))
theorem sessions_Session.ldA {K : Int → Int → Bool → Bool → Option Addr → Nat → Nat → Option Addr → Nat → Nat → Prop} (hb : heldL a [.int .i64 f0, .int .u64 f1, .bool f2, .bool f3, .slice f4p f4l f4c, .slice f5p f5l f5c] 0 h) (hk : K f0 f1 f2 f3 f4p f4l f4c f5p f5l f5c) : sessions_Session.LD h a K := by
  obtain ⟨q0, q1, q2, q3, q4, q5, _⟩ := hb
  rw [add_zero_addr] at q0
  exact ⟨_, q0, _, q1, _, q2, _, q3, _, _, _, q4, _, _, _, q5, hk⟩
theorem sessions_Session.held (hb : sessions_Session.at h b f0 f1 f2 f3 f4p f4l f4c f5p f5l f5c) : heldL ⟨b, 0, none⟩ [.int .i64 f0, .int .u64 f1, .bool f2, .bool f3, .slice f4p f4l f4c, .slice f5p f5l f5c] 0 h :=
  heldL_blk hb (fun j v hj => by rw [Nat.zero_add]; simpa using hj)
theorem sessions_Session.ld {K : Int → Int → Bool → Bool → Option Addr → Nat → Nat → Option Addr → Nat → Nat → Prop} (hb : sessions_Session.at h b f0 f1 f2 f3 f4p f4l f4c f5p f5l f5c) (hk : K f0 f1 f2 f3 f4p f4l f4c f5p f5l f5c) : sessions_Session.LD h ⟨b, 0, none⟩ K := ldA (held hb) hk
theorem sessions_Session.new (hk : ∀ b h', b = h.size → sessions_Session.at h' b f0 f1 f2 f3 f4p f4l f4c f5p f5l f5c → Fr No h h' → K b h') : NewP h (.cells #[.int .i64 0, .int .u64 0, .bool false, .bool false, .slice none 0 0, .slice none 0 0] 166) fun b h_0 => sessions_Session.ST h_0 ⟨b, 0, none⟩ f0 f1 f2 f3 f4p f4l f4c f5p f5l f5c (K b) :=
  new_full (vs := [.int .i64 f0, .int .u64 f1, .bool f2, .bool f3, .slice f4p f4l f4c, .slice f5p f5l f5c]) rfl rfl hk
def eid_Eid.at (h : Heap) (b : Nat) (f0 : Bool) (f1 : Int) (f2 : Int) (f3 : ByteArray) (f4 : ByteArray) : Prop := h[b]? = some (.cells #[.bool f0, .int .u64 f1, .int .u64 f2, .string f3, .string f4] 64 (0, 0))
theorem eid_Eid.ldA {f0 : Bool} {f2 : Int} {f3 : ByteArray} {K : Bool → Int → Int → ByteArray → ByteArray → Prop} (hb : heldL a [.bool f0, .int .u64 f1, .int .u64 f2, .string f3, .string f4] 0 h) (hk : K f0 f1 f2 f3 f4) : eid_Eid.LD h a K := by
  obtain ⟨q0, q1, q2, q3, q4, _⟩ := hb
  rw [add_zero_addr] at q0
  exact ⟨_, q0, _, q1, _, q2, _, q3, _, q4, hk⟩
theorem eid_Eid.held {f0 : Bool} {f2 : Int} {f3 : ByteArray} (hb : eid_Eid.at h b f0 f1 f2 f3 f4) : heldL ⟨b, 0, none⟩ [.bool f0, .int .u64 f1, .int .u64 f2, .string f3, .string f4] 0 h :=
  heldL_blk hb (fun j v hj => by rw [Nat.zero_add]; simpa using hj)
theorem eid_Eid.ld {f0 : Bool} {f2 : Int} {f3 : ByteArray} {K : Bool → Int → Int → ByteArray → ByteArray → Prop} (hb : eid_Eid.at h b f0 f1 f2 f3 f4) (hk : K f0 f1 f2 f3 f4) : eid_Eid.LD h ⟨b, 0, none⟩ K := ldA (held hb) hk
theorem eid_Eid.box {f0 : Bool} {f2 : Int} {f3 : ByteArray} (hk : ∀ b h', b = h.size → eid_Eid.at h' b f0 f1 f2 f3 f4 → Fr No h h' → K b h') : NewP h (.cells #[.bool f0, .int .u64 f1, .int .u64 f2, .string f3, .string f4] 64) fun b h_0 => K b h_0 :=
  newP_of (hk _ _ rfl push_new (Fr.push _ _))
def copies_Copy.at (h : Heap) (b : Nat) (f0 : Int) (f1 : Bool) (f2 : Int) (f3 : Int) (f4 : ByteArray) (f5 : ByteArray) (f6p : Option Addr) (f6l f6c : Nat) (f7 : Int) (f8 : Int) (f9 : Int) : Prop := h[b]? = some (.cells #[.int .i64 f0, .bool f1, .int .u64 f2, .int .u64 f3, .string f4, .string f5, .slice f6p f6l f6c, .int .u64 f7, .int .i64 f8, .int .u64 f9] 560 (0, 0))
theorem eid_plain.host.walk (hv :
 Dsz (Instr.range 9 (.string s)) h fun v h_1 =>
 ∃ (it : Nat), v = .pointer (some ⟨it, 0, none⟩) ∧
 ∃ (I : Heap → Prop) (mu : Heap → Nat), I h_1 ∧ ∀ h_2, I h_2 →
 Dsz (Instr.next (.pointer (some ⟨it, 0, none⟩)) true 0) h_2 fun v_1 h_3 =>
 (v_1 = .tuple #[.bool false] ∧
 R (.bool true) h_3) ∨
 (  ∃ (t9_k t9_v : Value), v_1 = .tuple #[.bool true, t9_k, t9_v] ∧
 ∃ t11, t9_v = .int .i32 t11 ∧
 JoinP (fun (t34 : Bool) h_4 =>
 ite t34
 (  R (.bool false) h_4)
 (  (I h_4 ∧ mu h_4 < mu h_2)))
 (fun J =>
 ite (decide (t11 < 97))
 (  ite (decide (t11 < 48))
 (  ite (t11 != 45)
 (  J (t11 != 45) h_3)
 (  J false h_3))
 (  ite (decide (t11 > 57))
 (  ite (t11 != 45)
 (  J (t11 != 45) h_3)
 (  J false h_3))
 (  J false h_3)))
 (  ite (decide (t11 > 122))
 (  ite (decide (t11 < 48))
 (  ite (t11 != 45)
 (  J (t11 != 45) h_3)
 (  J false h_3))
 (  ite (decide (t11 > 57))
 (  ite (t11 != 45)
 (  J (t11 != 45) h_3)
 (  J false h_3))
 (  J false h_3)))
 (  J false h_3))))) : Cl 148 #[.string s, .int .i32 45] h R :=
 callsN [(6, .loop []), (15, fun _ => .typed [(11, .one (.int .i32))]), (17, .join [(34, sB)])] hv
theorem eid_plain.demux.walk (hv :
 Dsz (Instr.range 9 (.string s)) h fun v h_1 =>
 ∃ (it : Nat), v = .pointer (some ⟨it, 0, none⟩) ∧
 ∃ (I : Heap → Prop) (mu : Heap → Nat), I h_1 ∧ ∀ h_2, I h_2 →
 Dsz (Instr.next (.pointer (some ⟨it, 0, none⟩)) true 0) h_2 fun v_1 h_3 =>
 (v_1 = .tuple #[.bool false] ∧
 R (.bool true) h_3) ∨
 (  ∃ (t9_k t9_v : Value), v_1 = .tuple #[.bool true, t9_k, t9_v] ∧
 ∃ t11, t9_v = .int .i32 t11 ∧
 JoinP (fun (t34 : Bool) h_4 =>
 ite t34
 (  R (.bool false) h_4)
 (  (I h_4 ∧ mu h_4 < mu h_2)))
 (fun J =>
 ite (decide (t11 < 97))
 (  ite (decide (t11 < 48))
 (  ite (t11 != 45)
 (  J (t11 != 47) h_3)
 (  J false h_3))
 (  ite (decide (t11 > 57))
 (  ite (t11 != 45)
 (  J (t11 != 47) h_3)
 (  J false h_3))
 (  J false h_3)))
 (  ite (decide (t11 > 122))
 (  ite (decide (t11 < 48))
 (  ite (t11 != 45)
 (  J (t11 != 47) h_3)
 (  J false h_3))
 (  ite (decide (t11 > 57))
 (  ite (t11 != 45)
 (  J (t11 != 47) h_3)
 (  J false h_3))
 (  J false h_3)))
 (  J false h_3))))) : Cl 148 #[.string s, .int .i32 47] h R :=
 callsN [(6, .loop []), (15, fun _ => .typed [(11, .one (.int .i32))]), (17, .join [(34, sB)])] hv
theorem eid_Right.walk {x_0 : Bool} {x_1 : Int} {x_2 : Int} {x_3 : ByteArray} {x_4 : ByteArray} (hv :
 NewP h (.cells #[.bool x_0, .int .u64 x_1, .int .u64 x_2, .string x_3, .string x_4] 64) fun b h_1 =>
 eid_Eid.LD h_1 ⟨b, 0, none⟩ fun t4_0 t4_1 t4_2 t4_3 t4_4 =>
 ∃ (eq : Bool), Eqz 64 (.agg #[.bool t4_0, .int .u64 t4_1, .int .u64 t4_2, .string t4_3, .string t4_4]) (.agg #[.bool false, .int .u64 0, .int .u64 0, .string (⟨#[]⟩ : ByteArray), .string (⟨#[]⟩ : ByteArray)]) eq ∧
 ite eq
 (  R (.bool true) h_1)
 (  ∃ t9, hcell h_1 ⟨b, 0, none⟩ = some (.bool t9) ∧
 ite t9
 (  eid_Eid.LD h_1 ⟨b, 0, none⟩ fun t10_0 t10_1 t10_2 t10_3 t10_4 =>
 ∃ t12, hcell h_1 ⟨b, 1, none⟩ = some (.int .u64 t12) ∧
 ∃ t14, hcell h_1 ⟨b, 2, none⟩ = some (.int .u64 t14) ∧
 ∃ (eq_1 : Bool), Eqz 64 (.agg #[.bool t10_0, .int .u64 t10_1, .int .u64 t10_2, .string t10_3, .string t10_4]) (.agg #[.bool true, .int .u64 t12, .int .u64 t14, .string (⟨#[]⟩ : ByteArray), .string (⟨#[]⟩ : ByteArray)]) eq_1 ∧
 ite eq_1
 (  ∃ t19, hcell h_1 ⟨b, 1, none⟩ = some (.int .u64 t19) ∧
 ite (decide (t19 ≥ 1))
 (  ∃ t24, hcell h_1 ⟨b, 1, none⟩ = some (.int .u64 t24) ∧
 ite (decide (t24 ≤ 4294967295))
 (  ∃ t29, hcell h_1 ⟨b, 2, none⟩ = some (.int .u64 t29) ∧
 R (.bool (decide (t29 ≤ 4294967295))) h_1)
 (  R (.bool false) h_1))
 (  R (.bool false) h_1))
 (  R (.bool false) h_1))
 (  eid_Eid.LD h_1 ⟨b, 0, none⟩ fun t32_0 t32_1 t32_2 t32_3 t32_4 =>
 ∃ t34, hcell h_1 ⟨b, 3, none⟩ = some (.string t34) ∧
 ∃ t36, hcell h_1 ⟨b, 4, none⟩ = some (.string t36) ∧
 ∃ (eq_2 : Bool), Eqz 64 (.agg #[.bool t32_0, .int .u64 t32_1, .int .u64 t32_2, .string t32_3, .string t32_4]) (.agg #[.bool false, .int .u64 0, .int .u64 0, .string t34, .string t36]) eq_2 ∧
 ite eq_2
 (  ∃ t41, hcell h_1 ⟨b, 3, none⟩ = some (.string t41) ∧
 ite (decide (((t41.size : Nat) : Int) ≥ 1))
 (  ∃ t47, hcell h_1 ⟨b, 3, none⟩ = some (.string t47) ∧
 ite (decide (((t47.size : Nat) : Int) ≤ 16))
 (  ∃ t53, hcell h_1 ⟨b, 4, none⟩ = some (.string t53) ∧
 ite (decide (((t53.size : Nat) : Int) ≤ 24))
 (  ∃ t59, hcell h_1 ⟨b, 3, none⟩ = some (.string t59) ∧
 Cl 148 #[.string t59, .int .i32 45] h_1 fun v h_2 =>
 ∃ t60, v = .bool t60 ∧
 ite t60
 (  ∃ t64, hcell h_2 ⟨b, 4, none⟩ = some (.string t64) ∧
 Cl 148 #[.string t64, .int .i32 47] h_2 fun v_1 h_3 =>
 ∃ t65, v_1 = .bool t65 ∧
 R (.bool t65) h_3)
 (  R (.bool false) h_2))
 (  R (.bool false) h_1))
 (  R (.bool false) h_1))
 (  R (.bool false) h_1))
 (  R (.bool false) h_1)))) : Cl 84 #[.agg #[.bool x_0, .int .u64 x_1, .int .u64 x_2, .string x_3, .string x_4]] h R :=
 callsN [] hv

end
section
namespace Eid
theorem ba_beq {a b : ByteArray} : (a == b) = true ↔ a = b := by
  have ⟨a⟩ := a
  have ⟨b⟩ := b
  constructor
  · intro h
    have h : (a == b) = true := h
    rw [eq_of_beq h]
  · intro h
    cases h
    show (a == a) = true
    simp
structure Ev where
  ipn : Bool
  node : Int
  svc : Int
  host : ByteArray
  dem : ByteArray
theorem Ev.ext' {x y : Ev} (h0 : x.ipn = y.ipn) (h1 : x.node = y.node) (h2 : x.svc = y.svc) (h3 : x.host = y.host) (h4 : x.dem = y.dem) : x = y := by
  cases x; cases y; simp at h0 h1 h2 h3 h4; simp [h0, h1, h2, h3, h4]
def eqB (x y : Ev) : Bool := x.ipn == y.ipn && (x.node == y.node && (x.svc == y.svc && (x.host == y.host && (x.dem == y.dem && true))))
theorem eqB_iff {x y : Ev} : eqB x y = true ↔ x = y := by
  unfold eqB
  simp only [Bool.and_eq_true, beq_iff_eq, ba_beq, and_true]
  constructor
  · rintro ⟨h0, h1, h2, h3, h4⟩; exact Ev.ext' h0 h1 h2 h3 h4
  · grind
instance : DecidableEq Ev := fun x y => decidable_of_iff (eqB x y = true) eqB_iff
theorem eqB_dec (x y : Ev) : eqB x y = decide (x = y) := by
  by_cases h : x = y
  · rw [decide_eq_true h]; exact eqB_iff.2 h
  · rw [decide_eq_false h]
    cases hb : eqB x y
    · rfl
    · exact absurd (eqB_iff.1 hb) h
def ev5 (x : Ev) : Value := .agg #[.bool x.ipn, .int .u64 x.node, .int .u64 x.svc, .string x.host, .string x.dem]
def Ev.zero : Ev := ⟨false, 0, 0, ⟨#[]⟩, ⟨#[]⟩⟩
theorem eqv (x y : Ev) : EqV Tryz.prog 64 (ev5 x) (ev5 y) (decide (x = y)) := by
  rw [← eqB_dec]
  exact EqV.of (by rfl)
theorem eqv' {x y : Ev} {a b : Value} (ha : a = ev5 x) (hb : b = ev5 y) : EqV Tryz.prog 64 a b (decide (x = y)) := by subst ha hb; exact eqv x y
theorem chk (e : Bool) (a : Ev) (h : Heap) : rd Tryz.prog (Instr.checkKey e 10000 64 (ev5 a)) h = some () := by kernel_rfl
theorem under : (Tryz.prog.underlying 64).isSome = true := by kernel_rfl
def pl (more c : UInt8) : Bool := (decide (97 ≤ c) && decide (c ≤ 122)) || (decide (48 ≤ c) && decide (c ≤ 57)) || c == 45 || c == more
def plainB (more : UInt8) (s : ByteArray) : Bool := s.data.toList.all (pl more)
def rightE (x : Ev) : Bool :=
  if x = .zero then true
  else if x.ipn = true then decide (x.host = ⟨#[]⟩ ∧ x.dem = ⟨#[]⟩ ∧ 1 ≤ x.node ∧ x.node ≤ 4294967295 ∧ x.svc ≤ 4294967295)
  else decide (x.node = 0 ∧ x.svc = 0 ∧ 1 ≤ x.host.size ∧ x.host.size ≤ 16 ∧ x.dem.size ≤ 24) && (plainB 45 x.host && plainB 47 x.dem)
def classE (x : Ev) : Int := if x = .zero then 0 else if x.ipn = true then 1 else 2
def bl (a b : ByteArray) : Bool := Op.bytesLess a.toList b.toList
def lessE (x y : Ev) : Bool :=
  if classE x ≠ classE y then decide (classE x < classE y)
  else if x.node ≠ y.node then decide (x.node < y.node)
  else if x.svc ≠ y.svc then decide (x.svc < y.svc)
  else if x.host ≠ y.host then bl x.host y.host
  else bl x.dem y.dem
variable {h : Heap} {R : Value → Heap → Prop}
theorem get_at {s : ByteArray} {i : Nat} (hi : i < s.size) : s.get! i = s.data.toList.getD i 0 := by
  have  := hi
  show s.data[i]! = _
  have e : s.data.toList[i]? = some s.data[i] := by simp
  rw [getElem!_pos s.data i this, List.getD_eq_getElem?_getD, e]
  rfl
theorem decode_at (s : ByteArray) (i : Nat) (hi : i < s.size) : (s.data.toList.getD i 0 < 128 → Utf8.decode s i = ((s.data.toList.getD i 0).toNat, 1)) ∧ (¬ s.data.toList.getD i 0 < 128 → 128 ≤ (Utf8.decode s i).1) := by
  have e := get_at hi
  have e0 : (s.get! (i + 0)).toNat = (s.data.toList.getD i 0).toNat := by grind
  constructor
  · intro h
    have h : (s.data.toList.getD i 0).toNat < 128 := h
    unfold Utf8.decode
    simp only [e0]
    rw [if_pos h]
  · intro h
    have h : ¬ (s.data.toList.getD i 0).toNat < 128 := h
    unfold Utf8.decode
    simp only [e0]
    rw [if_neg h]
    split
    · split
      · omega
      · decide
    · split
      · split
        · grind
        · decide
      · split
        · split
          · rename_i hc; simp only [Bool.and_eq_true, decide_eq_true_eq] at hc; omega
          · decide
        · decide
def np (more : Int) (c : Int) : Bool := (decide (c < 97) || decide (c > 122)) && ((decide (c < 48) || decide (c > 57)) && ((c != 45) && (c != more)))
theorem np_big {more c : Int} (hm : more < 128) (h : 128 ≤ c) : np more c = true := by
  unfold np
  have h1 : c > 122 := by omega
  have h2 : c > 57 := by omega
  have h3 : c ≠ 45 := by omega
  have h4 : c ≠ more := by omega
  simp [h1, h2, h3, h4]
theorem np_pl (more : UInt8) (b : UInt8) : np (more.toNat : Int) (b.toNat : Int) = !pl more b := by
  have e1 : (b = 45) ↔ ((b.toNat : Int) = 45) := by
    constructor
    · simp_all
    · intro e; exact UInt8.toNat_inj.1 (by grind)
  have e2 : (b = more) ↔ ((b.toNat : Int) = (more.toNat : Int)) := by
    constructor
    · rintro rfl; rfl
    · intro e; exact UInt8.toNat_inj.1 (by omega)
  have e3 : (97 ≤ b) ↔ ¬ ((b.toNat : Int) < 97) := by rw [UInt8.le_iff_toNat_le]; show 97 ≤ b.toNat ↔ _; omega
  have e4 : (b ≤ 122) ↔ ¬ ((b.toNat : Int) > 122) := by rw [UInt8.le_iff_toNat_le]; show b.toNat ≤ 122 ↔ _; omega
  have e5 : (48 ≤ b) ↔ ¬ ((b.toNat : Int) < 48) := by rw [UInt8.le_iff_toNat_le]; show 48 ≤ b.toNat ↔ _; omega
  have e6 : (b ≤ 57) ↔ ¬ ((b.toNat : Int) > 57) := by rw [UInt8.le_iff_toNat_le]; show b.toNat ≤ 57 ↔ _; omega
  unfold np pl
  have e7 : (b == 45) = decide ((b.toNat : Int) = 45) := by grind
  have e8 : (b == more) = decide ((b.toNat : Int) = (more.toNat : Int)) := by
    grind
  rw [e7, e8]
  simp only [e3, e4, e5, e6]
  by_cases q1 : (b.toNat : Int) < 97 <;> by_cases q2 : (b.toNat : Int) > 122 <;> by_cases q3 : (b.toNat : Int) < 48 <;> by_cases q4 : (b.toNat : Int) > 57 <;> by_cases q5 : (b.toNat : Int) = 45 <;> by_cases q6 : (b.toNat) = (more.toNat : Int) <;> simp [q1, q2, q3, q4, q5, q6]
end Eid
end
section
namespace Eid
variable {h h':Heap} {R:TyP}
variable {s:ByteArray} {pos:Nat} {more:UInt8}
theorem byte_at (hp : pos < s.size) : s.data.toList[pos]? = some (s.data.toList.getD pos 0) := by
  simp_all
theorem pl_lt {b:UInt8} (hm : more.toNat < 128) (h : pl more b = true) : b < 128 := by
  by_cases hb : b.toNat < 128
  · exact hb
  · have h1 := np_big (more := (more.toNat)) (c := (b.toNat)) (by omega) (by omega)
    rw [np_pl, h] at h1; cases h1
theorem np_false (hm : more.toNat < 128) (hp : pos < s.size) (h : np (more.toNat : Int) ((Utf8.decode s pos).1 : Int) = false) :
    pl more (s.data.toList.getD pos 0) = true ∧ (Utf8.decode s pos).2 = 1 := by
  have ⟨h1, h2⟩ := decode_at s pos hp
  by_cases hb : s.data.toList.getD pos 0 < 128
  · rw [h1 hb] at h ⊢
    rw [np_pl] at h
    exact ⟨by grind, rfl⟩
  · have := np_big (more := (more.toNat)) (c := ((Utf8.decode s pos).1)) (by omega) (by grind)
    rw [this] at h; cases h
theorem np_true (hm : more.toNat < 128) (hp : pos < s.size) (h : np (more.toNat : Int) ((Utf8.decode s pos).1 : Int) = true) : plainB more s = false := by
  cases hb : plainB more s with
  | false => rfl
  | true =>
    have hp2 := List.all_eq_true.1 hb _ (List.mem_of_getElem? (byte_at hp))
    have ⟨h1, _⟩ := decode_at s pos hp
    rw [h1 (pl_lt hm hp2), np_pl, hp2] at h
    cases h
theorem plain_loop {it : Nat} {ty : TypeId} {h0 h1 : Heap} (hm : more.toNat < 128) (hit : h1[it]? = some (.stringIter s 0)) (hge : h0.size ≤ it) (f1 : Fr No h0 h1) (hk : ∀ h', Fr No h0 h' → R (.bool (plainB more s)) h') :
    ∃ (I : Heap → Prop) (mu : Heap → Nat), I h1 ∧ ∀ g, I g → denSem Tryz.prog (Instr.next (.pointer (some ⟨it, 0, none⟩)) true ty) g fun v g1 =>
      (v = .tuple #[.bool false] ∧ R (.bool true) g1) ∨ ∃ (a b : Value), v = .tuple #[.bool true, a, b] ∧ ∃ (c : Int), b = .int .i32 c ∧ if np (more.toNat : Int) c = true then R (.bool false) g1 else (I g1 ∧ mu g1 < mu g) := by
  refine ⟨fun g => ∃ pos, g[it]? = some (.stringIter s pos) ∧ Fr No h0 g ∧ pos ≤ s.size ∧ (s.data.toList.take pos).all (pl more) = true, fun g => (match g[it]? with | some (.stringIter _ p) => s.size - p | _ => 0), ⟨0, hit, f1, Nat.zero_le _, by simp⟩, ?_⟩
  rintro g ⟨pos, hg, fg, hle, hall⟩
  refine den_nextS hg (fun hend => .inl ⟨rfl, ?_⟩) (fun hlt g1 hg1 hs1 ho1 => .inr ⟨_, _, rfl, _, rfl, ?_⟩)
  · have : plainB more s = true := by
      unfold plainB
      rw [List.take_of_length_le (by show s.data.toList.length ≤ pos; exact hend)] at hall
      exact hall
    rw [← this]; exact hk g fg
  · have fg1 : Fr No h0 g1 := fg.fresh (S := fun c => c = it) ⟨by omega, fun c _ hn => ho1 c hn⟩ (fun c e => by omega)
    cases hn : np (more.toNat : Int) ((Utf8.decode s pos).1 : Int) with
    | true =>
      rw [if_pos rfl, ← np_true hm hlt hn]; exact hk g1 fg1
    | false =>
      rw [if_neg (by simp)]
      obtain ⟨h1, h2⟩ := np_false hm hlt hn
      rw [h2] at hg1
      refine ⟨⟨pos + 1, hg1, fg1, hlt, ?_⟩, ?_⟩
      · rw [List.take_add_one, byte_at hlt, List.all_append, hall]
        show (true && (pl more (s.data.toList.getD pos 0) && true)) = true
        rw [h1]; rfl
      · simp only [hg, hg1]; omega
theorem plain_host (hk : ∀ h', Fr No h h' → R (.bool (plainB 45 s)) h') : Cl 148 #[.string s, .int .i32 45] h R := by
  refine eid_plain.host.walk (den_rangeS (by kernel_rfl) fun r h1 hr hit f1 => ⟨_, rfl, ?_⟩)
  have ⟨I, mu, h2, h3⟩ := plain_loop (ty := 0) (by decide) hit (by omega) f1 hk
  refine ⟨I, mu, h2, fun g hg => denSem_mono _ _ (fun v g1 hv => ?_) (h3 g hg)⟩
  rcases hv with hv | ⟨a, b, e, c, e2, hv⟩
  · grind
  · refine .inr ⟨a, b, e, c, e2, JoinP.of fun J hJ => ?_⟩
    have key : J (np 45 c) g1 := by grind
    unfold np at key
    revert key
    generalize decide (c < 97) = b1
    generalize decide (c > 122) = b2
    generalize decide (c < 48) = b3
    generalize decide (c > 57) = b4
    generalize (c != 45) = b5
    intro key
    cases b1 <;> cases b2 <;> cases b3 <;> cases b4 <;> cases b5 <;> exact key
theorem plain_demux (hk : ∀ h', Fr No h h' → R (.bool (plainB 47 s)) h') : Cl 148 #[.string s, .int .i32 47] h R := by
  refine eid_plain.demux.walk (den_rangeS (by kernel_rfl) fun r h1 hr hit f1 => ⟨_, rfl, ?_⟩)
  have ⟨I, mu, h2, h3⟩ := plain_loop (ty := 0) (by decide) hit (by omega) f1 hk
  refine ⟨I, mu, h2, fun g hg => denSem_mono _ _ (fun v g1 hv => ?_) (h3 g hg)⟩
  rcases hv with hv | ⟨a, b, e, c, e2, hv⟩
  · grind
  · refine .inr ⟨a, b, e, c, e2, JoinP.of fun J hJ => ?_⟩
    have key : J (np 47 c) g1 := by grind
    unfold np at key
    revert key
    generalize decide (c < 97) = b1
    generalize decide (c > 122) = b2
    generalize decide (c < 48) = b3
    generalize decide (c > 57) = b4
    generalize (c != 45) = b5
    generalize (c != 47) = b6
    intro key
    cases b1 <;> cases b2 <;> cases b3 <;> cases b4 <;> cases b5 <;> cases b6 <;> exact key
theorem right_ok (x : Ev) (hk : ∀ h', Fr No h h' → R (.bool (rightE x)) h') : Cl 84 #[.agg #[.bool x.ipn, .int .u64 x.node, .int .u64 x.svc, .string x.host, .string x.dem]] h R := by
  refine eid_Right.walk (eid_Eid.box fun b h1 eb hb f1 => eid_Eid.ld hb ⟨_, eqv' (y := .zero) (x := x) rfl rfl, ?_⟩)
  have K := hk h1 f1
  unfold rightE at K
  by_cases h0 : x = .zero
  · rw [if_pos (decide_eq_true h0)]
    rw [if_pos h0] at K; exact K
  · rw [if_neg (by simpa using h0)]
    rw [if_neg h0] at K
    refine ⟨_, cell_at hb rfl, ?_⟩
    by_cases hi : x.ipn = true
    · rw [if_pos hi]
      rw [if_pos hi] at K
      refine eid_Eid.ld hb ⟨_, cell_at hb rfl, _, cell_at hb rfl, _, eqv' (y := ⟨true, x.node, x.svc, ⟨#[]⟩, ⟨#[]⟩⟩) (x := x) rfl rfl, ?_⟩
      by_cases he : x = ⟨true, x.node, x.svc, ⟨#[]⟩, ⟨#[]⟩⟩
      · have e1 : x.host = ⟨#[]⟩ := congrArg Ev.host he
        have e2 : x.dem = ⟨#[]⟩ := congrArg Ev.dem he
        rw [if_pos (decide_eq_true he)]
        refine ⟨_, cell_at hb rfl, ?_⟩
        by_cases q1 : x.node ≥ 1
        · rw [if_pos (decide_eq_true q1)]
          refine ⟨_, cell_at hb rfl, ?_⟩
          by_cases q2 : x.node ≤ 4294967295
          · rw [if_pos (decide_eq_true q2)]
            refine ⟨_, cell_at hb rfl, ?_⟩
            have q1' : 1 ≤ x.node := q1
            simp only [e1, e2, q1', q2, true_and] at K
            exact K
          · grind
        · grind
      · rw [if_neg (by simpa using he)]
        have : ¬ (x.host = ⟨#[]⟩ ∧ x.dem = ⟨#[]⟩ ∧ 1 ≤ x.node ∧ x.node ≤ 4294967295 ∧ x.svc ≤ 4294967295) := fun ⟨a, b, _⟩ => he (Ev.ext' hi rfl rfl a b)
        rw [decide_eq_false this] at K; exact K
    · have hi' : x.ipn = false := by simpa using hi
      rw [if_neg hi]
      rw [if_neg hi] at K
      refine eid_Eid.ld hb ⟨_, cell_at hb rfl, _, cell_at hb rfl, _, eqv' (y := ⟨false, 0, 0, x.host, x.dem⟩) (x := x) rfl rfl, ?_⟩
      by_cases he : x = ⟨false, 0, 0, x.host, x.dem⟩
      · have e1 : x.node = 0 := congrArg Ev.node he
        have e2 : x.svc = 0 := congrArg Ev.svc he
        rw [if_pos (decide_eq_true he)]
        refine ⟨_, cell_at hb rfl, ?_⟩
        simp only [e1, e2, true_and] at K
        by_cases q1 : 1 ≤ x.host.size
        · rw [if_pos (decide_eq_true (by omega))]
          refine ⟨_, cell_at hb rfl, ?_⟩
          by_cases q2 : x.host.size ≤ 16
          · rw [if_pos (decide_eq_true (by omega))]
            refine ⟨_, cell_at hb rfl, ?_⟩
            by_cases q3 : x.dem.size ≤ 24
            · rw [if_pos (decide_eq_true (by omega))]
              simp only [q1, q2, q3, and_self, decide_true, Bool.true_and] at K
              refine ⟨_, cell_at hb rfl, plain_host fun h2 f2 => ⟨_, rfl, ?_⟩⟩
              have hb2 := f2.get hb id
              by_cases q4 : plainB 45 x.host = true
              · rw [if_pos q4]
                refine ⟨_, cell_at hb2 rfl, plain_demux fun h3 f3 => ⟨_, rfl, ?_⟩⟩
                have := hk h3 (f1.tt (f2.tt f3))
                unfold rightE at this
                rw [if_neg h0, if_neg hi, q4] at this
                simp only [e1, e2, q1, q2, q3, and_self, decide_true, Bool.true_and] at this
                exact this
              · rw [if_neg q4]
                have := hk h2 (f1.tt f2)
                unfold rightE at this
                have q4 : plainB 45 x.host = false := by simpa using q4
                rw [if_neg h0, if_neg hi, q4] at this
                simp only [Bool.false_and, Bool.and_false] at this
                exact this
            · grind
          · grind
        · grind
      · rw [if_neg (by simpa using he)]
        have : ¬ (x.node = 0 ∧ x.svc = 0 ∧ 1 ≤ x.host.size ∧ x.host.size ≤ 16 ∧ x.dem.size ≤ 24) := fun ⟨a, b, _⟩ => he (Ev.ext' hi' a b rfl rfl)
        rw [decide_eq_false this, Bool.false_and] at K; exact K

end Eid
end
section
variable {h:Heap} {R:TyP}
variable {b b_l b_c:Nat} {poly:Int} {b_p:TyO}
abbrev super_Super.atp (h : Heap) (b : Nat) (x : super_Super.S) : Prop := h[b]? = some (.cells x.arr 337 (0, 0))
theorem super_Super.ex {K : super_Super.S → Prop} (x : super_Super.S) (hk : K x) : super_Super.EX K := ⟨_, _, _, hk⟩
theorem super_Super.ldAp {a : Addr} {x : super_Super.S} {K : super_Super.S → Prop} (hb : heldL a x.l 0 h) (hk : K x) : super_Super.LDp h a K := by
  obtain ⟨q0, q1, q2, _⟩ := hb
  rw [add_zero_addr] at q0
  exact ⟨_, q0, _, q1, _, q2, hk⟩
theorem super_Super.heldp {x : super_Super.S} (hb : super_Super.atp h b x) : heldL ⟨b, 0, none⟩ x.l 0 h :=
  heldL_blk hb (fun j v hj => by rw [Nat.zero_add]; simpa using hj)
theorem super_Super.ldp {x : super_Super.S} {K : super_Super.S → Prop} (hb : super_Super.atp h b x) (hk : K x) : super_Super.LDp h ⟨b, 0, none⟩ K := ldAp (heldp hb) hk
theorem super_Super.newp {x : super_Super.S} {K : Nat → Heap → Prop} (hk : ∀ b h', b = h.size → super_Super.atp h' b x → Fr No h h' → K b h') : NewP h (.cells super_Super.S.z.arr 337) fun b h_0 => super_Super.STp h_0 ⟨b, 0, none⟩ x (K b) :=
  new_full (vs := x.l) rfl rfl hk
theorem super_Super.boxp {x : super_Super.S} {K : Nat → Heap → Prop} (hk : ∀ b h', b = h.size → super_Super.atp h' b x → Fr No h h' → K b h') : NewP h (.cells x.arr 337) fun b h_0 => K b h_0 :=
  newP_of (hk _ _ rfl push_new (Fr.push _ _))
theorem super_Super.setp {y x : super_Super.S} {K : Heap → Prop} (a0 : super_Super.atp h b y) (hk : ∀ h', super_Super.atp h' b x → Fr (fun y => y = b) h h' → h'.size = h.size → K h') : super_Super.STp h ⟨b, 0, none⟩ x K :=
  (show storeL ⟨b, 0, none⟩ x.l 0 h K from storeL_full a0 rfl rfl fun h1 d1 d2 d3 => hk h1 d1 (Fr.of_eq d2 fun c hc => d3 c hc) d2)
variable {K:super_Super.S→Prop} {x s:super_Super.S}
theorem super_Right.walk (hv :
 NewP h (.cells s.arr 337) fun b h_1 =>
 ∃ t4, hcell h_1 ⟨b, 0, none⟩ = some (.int .u64 t4) ∧
 ite (decide (t4 ≥ 1))
 (  ∃ t8, hcell h_1 ⟨b, 0, none⟩ = some (.int .u64 t8) ∧
 ite (decide (t8 ≤ 1099511627776))
 (  ∃ t13, hcell h_1 ⟨b, 1, none⟩ = some (.int .i64 t13) ∧
 ite (t13 == 0)
 (  ∃ t23, hcell h_1 ⟨b, 2, none⟩ = some (.int .i64 t23) ∧
 ite (decide (t23 ≥ 0))
 (  ∃ t28, hcell h_1 ⟨b, 2, none⟩ = some (.int .i64 t28) ∧
 R (.bool (decide (t28 ≤ 1048576))) h_1)
 (  R (.bool false) h_1))
 (  ∃ t17, hcell h_1 ⟨b, 1, none⟩ = some (.int .i64 t17) ∧
 ite (t17 == 1)
 (  ∃ t23_1, hcell h_1 ⟨b, 2, none⟩ = some (.int .i64 t23_1) ∧
 ite (decide (t23_1 ≥ 0))
 (  ∃ t28_1, hcell h_1 ⟨b, 2, none⟩ = some (.int .i64 t28_1) ∧
 R (.bool (decide (t28_1 ≤ 1048576))) h_1)
 (  R (.bool false) h_1))
 (  R (.bool false) h_1)))
 (  R (.bool false) h_1))
 (  R (.bool false) h_1)) : Cl 421 #[s.agg] h R :=
 callsN [] hv
theorem super_put.walk {out_p : Option Addr} {out_l out_c : Nat} {n : Int} {size : Int} (hv :
 ∃ (I : Option Addr → Nat → Nat → Int → Heap → Prop) (mu : Option Addr → Nat → Nat → Int → Heap → Nat), I out_p out_l out_c 0 h ∧ ∀ out_p_1 out_l_1 out_c_1 t9 h_1, I out_p_1 out_l_1 out_c_1 t9 h_1 →
 ite (decide (t9 < size))
 (  if IntKind.wrap .i64 (8 * (IntKind.wrap .i64 ((IntKind.wrap .i64 (size - 1)) - t9))) < 0 then False else
 NewP h_1 (.cells #[.int .u8 (IntKind.wrap .u8 (Int.fdiv n (2 ^ min (Int.toNat (IntKind.wrap .i64 (8 * (IntKind.wrap .i64 ((IntKind.wrap .i64 (size - 1)) - t9))))) (IntKind.bits .u64))))] 5) fun b h_2 =>
 Dsz (Builtin.append_ #[69, 69] 69 #[.slice out_p_1 out_l_1 out_c_1, .slice (some ⟨b, 0, none⟩) 1 1]) h_2 fun v h_3 =>
 ∃ t22_p t22_l t22_c, v = .slice t22_p t22_l t22_c ∧
 (I t22_p t22_l t22_c (IntKind.wrap .i64 (t9 + 1)) h_3 ∧ mu t22_p t22_l t22_c (IntKind.wrap .i64 (t9 + 1)) h_3 < mu out_p_1 out_l_1 out_c_1 t9 h_1))
 (  R (.slice out_p_1 out_l_1 out_c_1) h_1)) : Cl 422 #[.slice out_p out_l out_c, .int .u64 n, .int .i64 size] h R :=
 callsN [(6, .loop [(0, sS), (9, sI)])] hv
theorem super_Write.walk (hv :
 NewP h (.cells s.arr 337) fun b h_1 =>
 super_Super.LDp h_1 ⟨b, 0, none⟩ fun t5 =>
 Cl 421 #[t5.agg] h_1 fun v h_2 =>
 ∃ t6, v = .bool t6 ∧
 ite (!t6)
 (  R (.tuple #[.slice none 0 0, .int .i64 3]) h_2)
 (  NewP h_2 (.cells #[.int .u8 80, .int .u8 76, .int .u8 70, .int .u8 84] 5) fun b_1 h_3 =>
 Dsz (convert 69 69 (.slice (some ⟨b_1, 0, none⟩) 4 4)) h_3 fun v_1 h_4 =>
 ∃ t9_p t9_l t9_c, v_1 = .slice t9_p t9_l t9_c ∧
 ∃ t11, hcell h_4 ⟨b, 0, none⟩ = some (.int .u64 t11) ∧
 Cl 422 #[.slice t9_p t9_l t9_c, .int .u64 t11, .int .i64 8] h_4 fun v_2 h_5 =>
 ∃ t12_p t12_l t12_c, v_2 = .slice t12_p t12_l t12_c ∧
 ∃ t15, hcell h_5 ⟨b, 1, none⟩ = some (.int .i64 t15) ∧
 NewP h_5 (.cells #[.int .u8 (IntKind.wrap .u8 t15)] 5) fun b_2 h_6 =>
 Dsz (Builtin.append_ #[69, 69] 69 #[.slice t12_p t12_l t12_c, .slice (some ⟨b_2, 0, none⟩) 1 1]) h_6 fun v_3 h_7 =>
 ∃ t18_p t18_l t18_c, v_3 = .slice t18_p t18_l t18_c ∧
 ∃ t21, hcell h_7 ⟨b, 2, none⟩ = some (.int .i64 t21) ∧
 Cl 422 #[.slice t18_p t18_l t18_c, .int .u64 (IntKind.wrap .u64 t21), .int .i64 4] h_7 fun v_4 h_8 =>
 ∃ t23_p t23_l t23_c, v_4 = .slice t23_p t23_l t23_c ∧
 Cl 423 #[.slice t23_p t23_l t23_c] h_8 fun v_5 h_9 =>
 ∃ t26, v_5 = .int .u32 t26 ∧
 Cl 422 #[.slice t23_p t23_l t23_c, .int .u64 (IntKind.wrap .u64 t26), .int .i64 4] h_9 fun v_6 h_10 =>
 ∃ t28_p t28_l t28_c, v_6 = .slice t28_p t28_l t28_c ∧
 Dsz (Builtin.append_ #[69, 3] 69 #[.slice t28_p t28_l t28_c, .int .i64 (IntKind.wrap .i64 (128 - ((t28_l : Nat) : Int)))]) h_10 fun v_7 h_11 =>
 ∃ t33_p t33_l t33_c, v_7 = .slice t33_p t33_l t33_c ∧
 R (.tuple #[.slice t33_p t33_l t33_c, .int .i64 0]) h_11)) : Cl 358 #[s.agg] h R :=
 callsN [] hv
theorem super_slot.walk (hv :
 NewP h (.cells s.arr 337) fun b h_1 =>
 ∃ t4, hcell h_1 ⟨b, 0, none⟩ = some (.int .u64 t4) ∧
 R (.int .i64 (IntKind.wrap .i64 (Int.tmod t4 2))) h_1) : Cl 349 #[s.agg] h R :=
 callsN [] hv
theorem super_Put.walk {d : Nat} (hv :
 NewP h (.cells s.arr 337) fun b h_1 =>
 super_Super.LDp h_1 ⟨b, 0, none⟩ fun t8 =>
 Cl 358 #[t8.agg] h_1 fun v h_2 =>
 ∃ t9_0_p t9_0_l t9_0_c t9_1, v = .tuple #[.slice t9_0_p t9_0_l t9_0_c, .int .i64 t9_1] ∧
 ite (t9_1 != 0)
 (  R (.int .i64 t9_1) h_2)
 (  super_Super.LDp h_2 ⟨b, 0, none⟩ fun t16 =>
 Cl 349 #[t16.agg] h_2 fun v_1 h_3 =>
 ∃ t17, v_1 = .int .i64 t17 ∧
 Cl 359 #[.pointer (some ⟨d, 0, none⟩), .int .i64 t17, .slice t9_0_p t9_0_l t9_0_c] h_3 fun v_2 h_4 =>
 ∃ t19, v_2 = .int .i64 t19 ∧
 R (.int .i64 t19) h_4)) : Cl 296 #[.pointer (some ⟨d, 0, none⟩), s.agg] h R :=
 callsN [] hv
theorem sums_halve.walk {s : Int} (hv :
 ite ((IntKind.wrap .u32 ((BitVec.ofInt (IntKind.bits .u32) s &&& BitVec.ofInt (IntKind.bits .u32) 1).toNat : Int)) == 1)
 (  R (.int .u32 (IntKind.wrap .u32 ((BitVec.ofInt (IntKind.bits .u32) (Int.fdiv s (2 ^ min (Int.toNat 1) (IntKind.bits .u32))) ^^^ BitVec.ofInt (IntKind.bits .u32) poly).toNat : Int))) h)
 (  R (.int .u32 (Int.fdiv s (2 ^ min (Int.toNat 1) (IntKind.bits .u32)))) h)) : Cl 567 #[.int .u32 s, .int .u32 poly] h R :=
 callsN [] hv
theorem sums_byteOn.walk {s : Int} {c : Int} (hv :
 ∃ (I : Int → Int → Heap → Prop) (mu : Int → Int → Heap → Nat), I (IntKind.wrap .u32 ((BitVec.ofInt (IntKind.bits .u32) s ^^^ BitVec.ofInt (IntKind.bits .u32) (IntKind.wrap .u32 c)).toNat : Int)) 0 h ∧ ∀ s_1 t11 h_1, I s_1 t11 h_1 →
 ite (decide (t11 < 8))
 (  Cl 567 #[.int .u32 s_1, .int .u32 poly] h_1 fun v h_2 =>
 ∃ t15, v = .int .u32 t15 ∧
 (I t15 (IntKind.wrap .i64 (t11 + 1)) h_2 ∧ mu t15 (IntKind.wrap .i64 (t11 + 1)) h_2 < mu s_1 t11 h_1))
 (  R (.int .u32 s_1) h_1)) : Cl 544 #[.int .u32 s, .int .u8 c, .int .u32 poly] h R :=
 callsN [(8, .loop [(0, .one (.int .u32)), (11, sI)])] hv
theorem sums_run.walk {s : Int} (hv :
 ∃ (I : Int → Int → Heap → Prop) (mu : Int → Int → Heap → Nat), I s 0 h ∧ ∀ s_1 t11 h_1, I s_1 t11 h_1 →
 ite (decide (t11 < ((b_l : Nat) : Int)))
 (  ((0 : Int) ≤ t11 ∧ t11 < ((b_l : Nat) : Int)) ∧
 onSome b_p fun a =>
 ∃ t14, hcell h_1 (a.add (Int.toNat t11 * 1)) = some (.int .u8 t14) ∧
 Cl 544 #[.int .u32 s_1, .int .u8 t14, .int .u32 poly] h_1 fun v h_2 =>
 ∃ t18, v = .int .u32 t18 ∧
 (I t18 (IntKind.wrap .i64 (t11 + 1)) h_2 ∧ mu t18 (IntKind.wrap .i64 (t11 + 1)) h_2 < mu s_1 t11 h_1))
 (  R (.int .u32 s_1) h_1)) : Cl 480 #[.int .u32 s, .slice b_p b_l b_c, .int .u32 poly] h R :=
 callsN [(6, .loop [(0, .one (.int .u32)), (11, sI)])] hv
theorem sums_Long.walk (hv :
 Cl 480 #[.int .u32 4294967295, .slice b_p b_l b_c, .int .u32 2197175160] h fun v h_1 =>
 ∃ t4, v = .int .u32 t4 ∧
 R (.int .u32 (IntKind.wrap .u32 ((BitVec.ofInt (IntKind.bits .u32) (IntKind.max .u32) ^^^ BitVec.ofInt (IntKind.bits .u32) t4).toNat : Int))) h_1) : Cl 423 #[.slice b_p b_l b_c] h R :=
 callsN [] hv

end
section
namespace Bt
variable {h:Heap} {R:TyP}
variable {p:TyO} {bs:TyL} {n s q c l:Nat}
theorem byte_at (hr : Row h p (bc bs)) {i : Nat} (hi : i < bs.length) : ∃ a, p = some a ∧ hcell h (a.add (i * 1)) = some (.int .u8 ((bs[i]).toNat : Int)) := by
  obtain ⟨a, rfl⟩ := hr.some (by cases bs with | nil => simp at hi | cons => simp [bc])
  exact ⟨a, rfl, by rw [Nat.mul_one]; exact hr.cell (by unfold bc; rw [List.getElem?_map, List.getElem?_eq_getElem hi]; rfl)⟩
def halveN (s q : Nat) : Nat := if s % 2 = 1 then (s / 2) ^^^ q else s / 2
def stepsN (q : Nat) : Nat → Nat → Nat
  | 0, s => s
  | k + 1, s => stepsN q k (halveN s q)
def byteN (s c q : Nat) : Nat := stepsN q 8 (s ^^^ c)
def runN (s : Nat) (b : List UInt8) (q : Nat) : Nat := b.foldl (fun s c => byteN s c.toNat q) s
def longN (b : List UInt8) : Nat := 4294967295 ^^^ runN 4294967295 b 2197175160
theorem fdiv2 (n k : Nat) : Int.fdiv (n : Int) (2 ^ k) = ((n / 2 ^ k : Nat) : Int) := by
  rw [Int.fdiv_eq_ediv_of_nonneg _ (by exact_mod_cast Nat.zero_le (2 ^ k))]
  exact_mod_cast rfl
theorem wu32 (hn : n < 4294967296) : IntKind.wrap .u32 (n : Int) = (n : Int) := by
  have e : IntKind.wrap .u32 (n : Int) = (n : Int) % 4294967296 := by simp [IntKind.wrap, IntKind.bits, IntKind.signed]
  rw [e]; omega
theorem b32 (hn : n < 4294967296) : (BitVec.ofInt (IntKind.bits .u32) (n : Int)).toNat = n := by
  rw [BitVec.ofInt_natCast, BitVec.toNat_ofNat]; exact Nat.mod_eq_of_lt hn
theorem xor32 {a b : Nat} (ha : a < 4294967296) (hb : b < 4294967296) : IntKind.wrap .u32 ((BitVec.ofInt (IntKind.bits .u32) (a : Int) ^^^ BitVec.ofInt (IntKind.bits .u32) (b : Int)).toNat : Int) = ((a ^^^ b : Nat) : Int) := by
  rw [BitVec.toNat_xor, b32 ha, b32 hb]
  exact wu32 (Nat.xor_lt_two_pow (n := 32) ha hb)
theorem odd32 (hs : s < 4294967296) : IntKind.wrap .u32 ((BitVec.ofInt (IntKind.bits .u32) (s : Int) &&& BitVec.ofInt (IntKind.bits .u32) 1).toNat : Int) = ((s % 2 : Nat) : Int) := by
  rw [BitVec.toNat_and, b32 hs, show (BitVec.ofInt (IntKind.bits .u32) 1).toNat = 1 from rfl, Nat.and_one_is_mod]
  exact wu32 (by omega)
theorem half32 (s : Nat) : Int.fdiv (s : Int) (2 ^ min (Int.toNat 1) (IntKind.bits .u32)) = ((s / 2 : Nat) : Int) := fdiv2 s 1
theorem halveN_lt (hs : s < 4294967296) (hq : q < 4294967296) : halveN s q < 4294967296 := by
  unfold halveN
  split
  · exact Nat.xor_lt_two_pow (n := 32) (show s / 2 < 2 ^ 32 by omega) hq
  · omega
theorem halve_ok (hs : s < 4294967296) (hq : q < 4294967296) (hk : R (.int .u32 (halveN s q : Int)) h) : Cl 567 #[.int .u32 (s : Int), .int .u32 (q : Int)] h R := by
  refine sums_halve.walk ?_
  unfold halveN at hk
  rw [odd32 hs, half32, xor32 (by omega) hq]
  by_cases c : s % 2 = 1
  · rw [if_pos (by rw [c]; rfl)]; rw [if_pos c] at hk; exact hk
  · rw [if_neg (fun e => c (by have := eq_of_beq e; omega))]; rw [if_neg c] at hk; exact hk
theorem steps_succ (q : Nat) : ∀ (k s : Nat), stepsN q (k + 1) s = halveN (stepsN q k s) q
  | 0, _ => rfl
  | k + 1, s => by
    show stepsN q (k + 1) (halveN s q) = halveN (stepsN q k (halveN s q)) q
    exact steps_succ q k _
theorem steps_lt (hq : q < 4294967296) : ∀ (k s : Nat), s < 4294967296 → stepsN q k s < 4294967296
  | 0, _, hs => hs
  | k + 1, s, hs => steps_lt hq k _ (halveN_lt hs hq)
theorem byteOn_ok (hs : s < 4294967296) (hc : c < 256) (hq : q < 4294967296) (hk : R (.int .u32 (byteN s c q : Int)) h) : Cl 544 #[.int .u32 (s : Int), .int .u8 (c : Int), .int .u32 (q : Int)] h R := by
  have hx := Nat.xor_lt_two_pow (n := 32) (x := s) (y := c) hs (by omega)
  refine sums_byteOn.walk ⟨fun z t g => g = h ∧ ∃ i : Nat, t = (i : Int) ∧ i ≤ 8 ∧ z = (stepsN q i (s ^^^ c) : Int), fun _ t _ => 8 - t.toNat, ⟨rfl, 0, rfl, by omega, ?_⟩, ?_⟩
  · rw [wu32 (n := c) (by omega), xor32 hs (by omega)]; rfl
  rintro _ _ _ ⟨rfl, i, rfl, hi, rfl⟩
  have hl := steps_lt hq i (s ^^^ c) hx
  by_cases c1 : i < 8
  · rw [if_pos (decide_eq_true (by omega))]
    refine halve_ok hl hq ⟨_, rfl, ?_⟩
    rw [wrap_id (by omega) (by omega), ← steps_succ]
    exact ⟨⟨rfl, i + 1, by omega, by omega, rfl⟩, by show 8 - Int.toNat ((i : Int) + 1) < 8 - Int.toNat (i : Int); omega⟩
  · rw [if_neg (fun e => c1 (by have := of_decide_eq_true e; omega))]
    obtain rfl : i = 8 := by omega
    exact hk
theorem runN_lt (hq : q < 4294967296) : ∀ (b : List UInt8) (s : Nat), s < 4294967296 → runN s b q < 4294967296
  | [], _, hs => hs
  | c :: b, s, hs => runN_lt hq b _ (steps_lt hq 8 _ (Nat.xor_lt_two_pow (n := 32) hs (by have := c.toNat_lt; omega)))
theorem run_ok (hs : s < 4294967296) (hq : q < 4294967296) (row : Row h p (bc bs)) (hl : l = bs.length) (hlen : bs.length ≤ 100000000) (hk : R (.int .u32 (runN s bs q : Int)) h) : Cl 480 #[.int .u32 (s : Int), .slice p l c, .int .u32 (q : Int)] h R := by
  subst hl
  refine sums_run.walk ⟨fun z t g => g = h ∧ ∃ i : Nat, t = (i : Int) ∧ i ≤ bs.length ∧ z = (runN s (bs.take i) q : Int), fun _ t _ => bs.length - t.toNat, ⟨rfl, 0, rfl, by omega, by rw [List.take_zero]; rfl⟩, ?_⟩
  rintro _ _ _ ⟨rfl, i, rfl, hi, rfl⟩
  by_cases c1 : i < bs.length
  · rw [if_pos (decide_eq_true (by omega))]
    obtain ⟨a, rfl, cx⟩ := byte_at row c1
    refine ⟨⟨by omega, by omega⟩, onSome_some.2 ⟨_, by rw [Int.toNat_natCast]; exact cx, byteOn_ok (runN_lt hq _ _ hs) (bs[i]).toNat_lt hq ⟨_, rfl, ?_⟩⟩⟩
    rw [wrap_id (by omega) (by omega)]
    refine ⟨⟨rfl, i + 1, by omega, by omega, ?_⟩, by show bs.length - Int.toNat ((i : Int) + 1) < bs.length - Int.toNat (i : Int); omega⟩
    rw [List.take_add_one, List.getElem?_eq_getElem c1]
    unfold runN
    rw [List.foldl_append]; rfl
  · rw [if_neg (fun e => c1 (by have := of_decide_eq_true e; omega))]
    rw [List.take_of_length_le (by omega)]
    exact hk
theorem long_ok (row : Row h p (bc bs)) (hl : l = bs.length) (hlen : bs.length ≤ 100000000) (hk : R (.int .u32 (longN bs : Int)) h) : Cl 423 #[.slice p l c] h R := by
  refine sums_Long.walk (run_ok (s := 4294967295) (q := 2197175160) (by decide) (by decide) row hl hlen ⟨_, rfl, ?_⟩)
  have := xor32 (a := 4294967295) (b := runN 4294967295 bs 2197175160) (by decide) (runN_lt (by decide) _ _ (by decide))
  rw [show (IntKind.max .u32) = ((4294967295 : Nat) : Int) from rfl, this]
  exact hk
theorem longN_lt (b : List UInt8) : longN b < 4294967296 := Nat.xor_lt_two_pow (n := 32) (by decide) (runN_lt (by decide) _ _ (by decide))

end Bt
end
section
namespace Dsk
structure DS where
  L : List (List UInt8)
  W : List (Nat × List UInt8)
structure DS.ok (s : DS) (m : Nat) : Prop where
  n : s.L.length = m
  l : ∀ b ∈ s.L, b.length = 128
  w : ∀ x ∈ s.W, x.1 < m ∧ x.2.length = 128
def lastW (i : Nat) : List (Nat × List UInt8) → List UInt8 → List UInt8
  | [], b => b
  | w :: W, b => lastW i W (if w.1 = i then w.2 else b)
def DS.get (s : DS) (i : Nat) : List UInt8 := lastW i s.W (s.L.getD i [])
def DS.put (s : DS) (i : Nat) (b : List UInt8) : DS := ⟨s.L, s.W ++ [(i, b)]⟩
def DS.sync (s : DS) : DS := ⟨s.W.foldl (fun L w => L.set w.1 w.2) s.L, []⟩
def zeroS : List UInt8 := List.replicate 128 0
def newD (n : Nat) : DS := ⟨List.replicate n zeroS, []⟩
variable {s : DS} {n i : Nat} {b : List UInt8}
theorem newD_ok (n : Nat) : (newD n).ok n := ⟨by simp [newD], fun b hb => by rw [(List.mem_replicate.1 hb).2]; simp [zeroS], fun x hx => by cases hx⟩
theorem DS.ok.put (H : s.ok n) (hi : i < n) (hb : b.length = 128) : (s.put i b).ok n := ⟨H.n, H.l, fun x hx => by
  rcases List.mem_append.1 hx with a | a
  · exact H.w x a
  · rw [List.mem_singleton.1 a]; exact ⟨hi, hb⟩⟩
theorem sync_ok : ∀ (W : List (Nat × List UInt8)) (L : List (List UInt8)), (⟨L, W⟩ : DS).ok n → (∀ b ∈ W.foldl (fun L w => L.set w.1 w.2) L, b.length = 128) ∧ (W.foldl (fun L w => L.set w.1 w.2) L).length = n
  | [], L, H => ⟨H.l, H.n⟩
  | w :: W, L, H => sync_ok W (L.set w.1 w.2) ⟨by rw [List.length_set]; exact H.n, fun b hb => by
      rcases List.mem_or_eq_of_mem_set hb with a | a
      · exact H.l b a
      · rw [a]; exact (H.w w List.mem_cons_self).2, fun x hx => H.w x (List.mem_cons_of_mem _ hx)⟩
theorem DS.ok.sync (H : s.ok n) : s.sync.ok n := ⟨(sync_ok s.W s.L H).2, (sync_ok s.W s.L H).1, fun x hx => by cases hx⟩
theorem lastW_snoc {i : Nat} {w : Nat × List UInt8} : ∀ (W : List (Nat × List UInt8)) (b : List UInt8), lastW i (W ++ [w]) b = if w.1 = i then w.2 else lastW i W b
  | [], b => rfl
  | v :: W, b => by
    rw [List.cons_append]
    unfold lastW
    exact lastW_snoc W _
def fit (b : List UInt8) : List UInt8 := (b ++ zeroS).take 128
theorem fit_len (b : List UInt8) : (fit b).length = 128 := by
  unfold fit zeroS
  rw [List.length_take, List.length_append, List.length_replicate]
  omega
theorem fit_id (h : b.length = 128) : fit b = b := by
  unfold fit
  rw [List.take_append, List.take_of_length_le (by omega), show 128 - b.length = 0 by omega, List.take_zero, List.append_nil]
def senc (b : List UInt8) : List Value := bc (fit b)
def wenc (w : Nat × List UInt8) : List Value := .int .i64 (w.1 : Int) :: bc (fit w.2)
theorem senc_len (b : List UInt8) : (senc b).length = 128 := by unfold senc; rw [bc_len, fit_len]
theorem wenc_len (w : Nat × List UInt8) : (wenc w).length = 129 := by unfold wenc; rw [List.length_cons, bc_len, fit_len]
theorem wenc_one (w : Nat × List UInt8) : ∀ v ∈ wenc w, oneCell v = true := fun v hv => by
  rcases List.mem_cons.1 hv with rfl | a
  · rfl
  · exact bc_one _ v a
theorem flat_zero (n : Nat) : (List.replicate n zeroS).flatMap senc = List.replicate (n * 128) (.int .u8 0) := by
  have e : senc zeroS = List.replicate 128 (.int .u8 0) := by kernel_rfl
  induction n with
  | zero => simp
  | succ n ih => rw [List.replicate_succ, List.flatMap_cons, ih, e, List.replicate_append_replicate]; congr 1; omega
end Dsk
end
section
variable {h:Heap} {R:TyP}
variable {d:Nat} {n i:Int} {a:Addr}
abbrev disk_Disk.atp (h : Heap) (b : Nat) (x : disk_Disk.S) : Prop := h[b]? = some (.cells x.arr 148 (0, 0))
theorem disk_Disk.ex {K : disk_Disk.S → Prop} (x : disk_Disk.S) (hk : K x) : disk_Disk.EX K := ⟨_, _, _, _, _, _, _, _, hk⟩
theorem disk_Disk.boxp {x : disk_Disk.S} {K : Nat → Heap → Prop} (hk : ∀ b h', b = h.size → disk_Disk.atp h' b x → Fr No h h' → K b h') : NewP h (.cells x.arr 148) fun b h_0 => K b h_0 :=
  newP_of (hk _ _ rfl push_new (Fr.push _ _))
theorem disk_Disk_Sectors.walk (hv :
 ∃ t8_p t8_l t8_c, hcell h ⟨d, 0, none⟩ = some (.slice t8_p t8_l t8_c) ∧
 R (.int .i64 ((t8_l : Nat) : Int)) h) : Cl 83 #[.pointer (some ⟨d, 0, none⟩)] h R :=
 callsN [] hv
theorem disk_New.walk (hv :
 JoinP (fun (t9 : Bool) h_1 =>
 ite t9
 (  R (.tuple #[.pointer none, .int .i64 1]) h_1)
 (  Dsz (Instr.makeSlice 140 (.int .i64 n) (.int .i64 n)) h_1 fun v h_2 =>
 ∃ t11_p t11_l t11_c, v = .slice t11_p t11_l t11_c ∧
 NewP h_2 (.cells #[.slice t11_p t11_l t11_c, .slice none 0 0, .int .i64 0, .int .i64 0] 148) fun b h_3 =>
 R (.tuple #[.pointer (some ⟨b, 0, none⟩), .int .i64 0]) h_3))
 (fun J =>
 ite (decide (n < 4))
 (  J true h)
 (  J (decide (n > 4096)) h))) : Cl 42 #[.int .i64 n] h R :=
 callsN [(4, .join [(9, sB)])] hv
theorem disk_Disk_ask.walk (hv :
 Cl 83 #[.pointer (some ⟨d, 0, none⟩)] h fun v h_1 =>
 ∃ t7, v = .int .i64 t7 ∧
 ite (t7 == 0)
 (  R (.int .i64 6) h_1)
 (  JoinP (fun (t9 : Bool) h_2 =>
 ite t9
 (  R (.int .i64 1) h_2)
 (  R (.int .i64 0) h_2))
 (fun J =>
 ite (decide (i < 0))
 (  J true h_1)
 (  ∃ t17_p t17_l t17_c, hcell h_1 ⟨d, 0, none⟩ = some (.slice t17_p t17_l t17_c) ∧
 J (decide (i ≥ ((t17_l : Nat) : Int))) h_1)))) : Cl 408 #[.pointer (some ⟨d, 0, none⟩), .int .i64 i] h R :=
 callsN [(11, .join [(9, sB)])] hv
theorem disk_Disk_Write.walk {b_p : Option Addr} {b_l b_c : Nat} (hv :
 Cl 408 #[.pointer (some ⟨d, 0, none⟩), .int .i64 i] h fun v h_1 =>
 ∃ t10, v = .int .i64 t10 ∧
 ite (t10 != 0)
 (  R (.int .i64 t10) h_1)
 (  ite (((b_l : Nat) : Int) != 128)
 (  R (.int .i64 3) h_1)
 (  ∃ t21_p t21_l t21_c, hcell h_1 ⟨d, 1, none⟩ = some (.slice t21_p t21_l t21_c) ∧
 128 ≤ b_l ∧
 onSome b_p fun a =>
 LoadB h_1 a (List.replicate 128 (.int .u8)) fun t25 =>
 exs ([.int .i64] ++ List.replicate 128 (.int .u8)) fun t26 =>
 BuildV Tryz.prog 383 #[(0, .int .i64 i), (1, .agg t25.toArray)] (.agg t26.toArray) ∧
 Dsz (Instr.buildSlice 141 1 #[(0, .agg t26.toArray)]) h_1 fun v_1 h_2 =>
 ∃ t27_p t27_l t27_c, v_1 = .slice t27_p t27_l t27_c ∧
 Kp h_1 h_2 [b_p, (some ⟨d, 1, none⟩)] ∧
 Dsz (Builtin.append_ #[141, 141] 141 #[.slice t21_p t21_l t21_c, .slice t27_p t27_l t27_c]) h_2 fun v_2 h_3 =>
 ∃ t28_p t28_l t28_c, v_2 = .slice t28_p t28_l t28_c ∧
 Kp h_2 h_3 [b_p] ∧
 StoreP h_3 ⟨d, 1, none⟩ (.slice t28_p t28_l t28_c) fun h_4 =>
 Cl 360 #[.pointer (some ⟨d, 2, none⟩), .int .i64 1] h_4 fun v_3 h_5 =>
 ∃ t34, v_3 = .int .i64 t34 ∧
 R (.int .i64 0) h_5))) : Cl 359 #[.pointer (some ⟨d, 0, none⟩), .int .i64 i, .slice b_p b_l b_c] h R :=
 callsN [(21, fun _ => .planK (runP 15 0 .done))] hv
theorem disk_Disk_Read.walk (hv :
 Cl 408 #[.pointer (some ⟨d, 0, none⟩), .int .i64 i] h fun v h_1 =>
 ∃ t12, v = .int .i64 t12 ∧
 ite (t12 != 0)
 (  R (.tuple #[.slice none 0 0, .int .i64 t12]) h_1)
 (  ∃ t19_p t19_l t19_c, hcell h_1 ⟨d, 0, none⟩ = some (.slice t19_p t19_l t19_c) ∧
 ((0 : Int) ≤ i ∧ i < ((t19_l : Nat) : Int)) ∧
 onSome t19_p fun a =>
 LoadB h_1 (a.add (Int.toNat i * 128)) (List.replicate 128 (.int .u8)) fun t22 =>
 NewP h_1 (.cells ((List.replicate 128 (.int .u8 0) : List Value)).toArray 381) fun b h_2 =>
 t22.length = 128 ∧ storeL ⟨b, 0, none⟩ t22 0 h_2 fun h_3 =>
 ∃ t26_p t26_l t26_c, hcell h_3 ⟨d, 1, none⟩ = some (.slice t26_p t26_l t26_c) ∧
 ∃ (I : Int → Heap → Prop) (mu : Int → Heap → Nat), I 0 h_3 ∧ ∀ t28 h_4, I t28 h_4 →
 ite (decide (t28 < ((t26_l : Nat) : Int)))
 (  JoinP (fun h_5 =>
 (I (IntKind.wrap .i64 (t28 + 1)) h_5 ∧ mu (IntKind.wrap .i64 (t28 + 1)) h_5 < mu t28 h_4))
 (fun J =>
 ((0 : Int) ≤ t28 ∧ t28 < ((t26_l : Nat) : Int)) ∧
 onSome t26_p fun a_1 =>
 LoadB h_4 (a_1.add (Int.toNat t28 * 129)) ([.int .i64] ++ List.replicate 128 (.int .u8)) fun t31 =>
 NewP h_4 (.cells (([.int .i64 0] ++ List.replicate 128 (.int .u8 0) : List Value)).toArray 383) fun b_1 h_6 =>
 t31.length = 129 ∧ storeL ⟨b_1, 0, none⟩ t31 0 h_6 fun h_7 =>
 ∃ t33, hcell h_7 ⟨b_1, 0, none⟩ = some (.int .i64 t33) ∧
 JoinP (fun h_8 =>
 J h_8)
 (fun J_1 =>
 ite (t33 == i)
 (  LoadB h_7 ⟨b_1, 1, none⟩ (List.replicate 128 (.int .u8)) fun t37 =>
 t37.length = 128 ∧ storeL ⟨b, 0, none⟩ t37 0 h_7 fun h_9 =>
 J_1 h_9)
 (  J_1 h_7))))
 (  R (.tuple #[.slice (slBase (some ⟨b, 0, none⟩) 128 0 1) (128 - 0) (128 - 0), .int .i64 0]) h_4))) : Cl 347 #[.pointer (some ⟨d, 0, none⟩), .int .i64 i] h R :=
 callsN [(18, .loop [(28, sI)]), (26, .join []), (31, .join [])] hv
theorem disk_Disk_Sync.walk (hv :
 Cl 83 #[.pointer (some ⟨d, 0, none⟩)] h fun v h_1 =>
 ∃ t6, v = .int .i64 t6 ∧
 ite (t6 == 0)
 (  R (.int .i64 6) h_1)
 (  ∃ t11_p t11_l t11_c, hcell h_1 ⟨d, 1, none⟩ = some (.slice t11_p t11_l t11_c) ∧
 ∃ (I : Int → Heap → Prop) (mu : Int → Heap → Nat), I 0 h_1 ∧ ∀ t13 h_2, I t13 h_2 →
 ite (decide (t13 < ((t11_l : Nat) : Int)))
 (  ((0 : Int) ≤ t13 ∧ t13 < ((t11_l : Nat) : Int)) ∧
 onSome t11_p fun a =>
 LoadB h_2 (a.add (Int.toNat t13 * 129)) ([.int .i64] ++ List.replicate 128 (.int .u8)) fun t16 =>
 NewP h_2 (.cells (([.int .i64 0] ++ List.replicate 128 (.int .u8 0) : List Value)).toArray 383) fun b h_3 =>
 t16.length = 129 ∧ storeL ⟨b, 0, none⟩ t16 0 h_3 fun h_4 =>
 ∃ t20_p t20_l t20_c, hcell h_4 ⟨d, 0, none⟩ = some (.slice t20_p t20_l t20_c) ∧
 ∃ t22, hcell h_4 ⟨b, 0, none⟩ = some (.int .i64 t22) ∧
 LoadB h_4 ⟨b, 1, none⟩ (List.replicate 128 (.int .u8)) fun t24 =>
 ((0 : Int) ≤ t22 ∧ t22 < ((t20_l : Nat) : Int)) ∧
 onSome t20_p fun a_1 =>
 t24.length = 128 ∧ storeL (a_1.add (Int.toNat t22 * 128)) t24 0 h_4 fun h_5 =>
 (I (IntKind.wrap .i64 (t13 + 1)) h_5 ∧ mu (IntKind.wrap .i64 (t13 + 1)) h_5 < mu t13 h_2))
 (  StoreP h_2 ⟨d, 1, none⟩ (.slice none 0 0) fun h_6 =>
 Cl 360 #[.pointer (some ⟨d, 3, none⟩), .int .i64 1] h_6 fun v_1 h_7 =>
 ∃ t33, v_1 = .int .i64 t33 ∧
 R (.int .i64 0) h_7))) : Cl 297 #[.pointer (some ⟨d, 0, none⟩)] h R :=
 callsN [(14, .loop [(13, sI)]), (25, fun _ => .planK (runP 10 0 .done))] hv
theorem sync_atomic_Int64_Add.a.walk {x : Addr} {delta : Int} (hv :
 Dsz (callFunc 424 #[.pointer (some x), .int .i64 delta]) h fun nx h_1 =>
 onVal nx fun v =>
 ∃ t9, v = .int .i64 t9 ∧
 R (.int .i64 t9) h_1) : Cl 360 #[.pointer (some x), .int .i64 delta] h R :=
 callsN [] hv
theorem find_add : Extern.find Tryz.f424 = some (Extern.Atomic.update (Op.intArith .add) .i64 true) := by kernel_rfl
theorem findNext_add : (Extern.findNext Tryz.f424).isNone = true := by kernel_rfl
theorem den_add {δ:Int} {K : Next → Heap → Prop} (hc : hcell h a = some (.int .i64 n))
    (hk : StoreP h a (.int .i64 (IntKind.wrap .i64 (n + δ))) fun h' => K (.value (.int .i64 (IntKind.wrap .i64 (n + δ)))) h') :
    denSem Tryz.prog (callFunc 424 #[.pointer (some a), .int .i64 δ]) h K := by
  have e1 : Tryz.prog.funcs[424]? = some Tryz.f424 := Tryz.func424
  have e2 : Extern.findNext Tryz.f424 = none := Option.isNone_iff_eq_none.1 findNext_add
  have ⟨k1, k2, k3⟩ := hk
  unfold callFunc
  refine den_of_rd (s := program) (a := Tryz.prog) rfl ?_
  rw [e1]
  dsimp only
  rw [if_neg (by decide +kernel), if_pos (by kernel_rfl)]
  refine den_of_rd (s := mark (Mark.extern 424)) (a := ()) rfl ?_
  rw [e2, find_add]
  dsimp only
  rw [den_bind]
  refine ⟨.int .i64 n, hc, ?_⟩
  exact ⟨rfl, k1, k2, k3 _ rfl⟩
theorem add_ok {δ:Int} (hc : hcell h a = some (.int .i64 n)) (hk : StoreP h a (.int .i64 (IntKind.wrap .i64 (n + δ))) fun h' => R (.int .i64 (IntKind.wrap .i64 (n + δ))) h') :
    Cl 360 #[.pointer (some a), .int .i64 δ] h R :=
  sync_atomic_Int64_Add.a.walk (den_add hc (by
    obtain ⟨k1, k2, k3⟩ := hk
    exact ⟨k1, k2, fun h' e => ⟨_, rfl, k3 h' e⟩⟩))

end
end Go.Proofs.YticlajoleibdnaaGreatDoor
namespace Go.Den
section
variable {P : Program}
def fsOf (P : Program) (t : TypeId) : Array Field := match P.underlying t with | some (.struct fs) => fs | _ => #[]
theorem loadB_bc {h : Heap} {a : Addr} {bs : List UInt8} {n : Nat} {F : List Value → Prop} (hn : bs.length = n) (hh : heldL a (bc bs) 0 h) (hF : F (bc bs)) : LoadB h a (List.replicate n (.int .u8)) F := ⟨loadL_u8 hn hh hF⟩
theorem den_buildOne {t elem : TypeId} {sz bytes : Nat} {z v : Value} {h : Heap} {K : Value → Heap → Prop} (T : SlTy P t elem sz bytes z) (h0 : 0 < sz) (hz : sz ≤ 16777216) (hv : v.cells.size = sz)
    (hk : ∀ b h', b = h.size → h'[b]? = some (.cells v.cells elem (0, 0)) → Fr No h h' → K (.slice (some ⟨b, 0, none⟩) 1 1) h') : denSem P (Instr.buildSlice t 1 #[(0, v)]) h K := by
  obtain ⟨i, hi, hsz, rfl, hzz⟩ := T.i
  unfold Instr.buildSlice
  refine den_of_rd (s := underlying t) (rd_underlying T.u) ?_
  simp only []
  refine den_of_rd (s := sizeOf elem) (rd_sizeOf hi) ?_
  rw [hsz]
  rw [if_neg (by omega)]
  rw [if_neg (by omega)]
  refine den_of_rd (s := zeroValue elem) (rd_zeroValue hi hzz) ?_
  refine den_of_rd (s := (pure z.cells : Sem (Array Value))) (a := z.cells) rfl ?_
  obtain ⟨c', d1, d2, d3, d4⟩ := fold_set v.cells.toList 0 ((Array.range (1 * sz)).map fun x => z.cells[x % z.cells.size]!) 0 (by simp; omega)
  have e5 : Instr.fill (fun i => some (i * sz, sz)) ((Array.range (1 * sz)).map fun x => z.cells[x % z.cells.size]!) [(0, v)] = some v.cells := by
    rw [fill_cons (off := 0) (size := sz) (by simp) hv (by simp; omega)]
    show some (Array.foldl (fun (cs : Array Value) (x : Value × Nat) => cs.setIfInBounds (0 + x.2) x.1) ((Array.range (1 * sz)).map fun x => z.cells[x % z.cells.size]!) v.cells.zipIdx) = _
    rw [← Array.foldl_toList, Array.toList_zipIdx, d1]
    congr 1
    refine Array.ext_getElem? fun j => ?_
    by_cases hj : j < v.cells.toList.length
    · have := d3 j hj
      rw [show 0 + 0 + j = j by omega] at this
      rw [this]; simp
    · rw [Array.getElem?_eq_none (by rw [d2]; simp at hj ⊢; omega), Array.getElem?_eq_none (by simpa using hj)]
  show denSem P (match Instr.fill _ _ [(0, v)] with | some cells => _ | _ => _) h K
  rw [e5]
  exact hk _ _ rfl push_new (Fr.push _ _)
theorem exs_w {w : Nat × List UInt8} {F : List Value → Prop} {vs : List Value} (e : vs = .int .i64 (w.1 : Int) :: bc w.2) (hl : w.2.length = 128) (hF : F vs) : exs ([.int .i64] ++ List.replicate 128 (.int .u8)) F := by
  subst e
  refine ⟨(w.1 : Int), ?_⟩
  have := exs_u8 w.2 (fun vs => F (.int .i64 (w.1 : Int) :: vs)) hF
  rw [hl] at this
  exact this
theorem newB {h : Heap} {c : Array Value} {t : TypeId} {vs : List Value} {m : Nat} {K : Nat → Heap → Prop} (hm : vs.length = m) (hl : vs.length = c.size) (hv : ∀ v ∈ vs, oneCell v = true)
    (hk : ∀ b h', b = h.size → h'[b]? = some (.cells vs.toArray t (0, 0)) → Fr No h h' → K b h') : NewP h (.cells c t) fun b h0 => vs.length = m ∧ storeL ⟨b, 0, none⟩ vs 0 h0 (K b) := fun b h' e1 e2 => ⟨hm, new_full hl (List.all_eq_true.2 hv) hk b h' e1 e2⟩
end
end Go.Den
namespace Go.Proofs.YticlajoleibdnaaGreatDoor
open Go.Den
namespace Dsk
variable {h h' : Heap} {R : Value → Heap → Prop} {d n i : Nat} {X : Ft} {s : DS}
structure DkA (h : Heap) (d : Nat) (X : Ft) (n : Nat) (s : DS) (lp wp : Option Addr) (wc : Nat) (a b : Int) : Prop where
  blk : disk_Disk.atp h d ⟨lp, n, n, wp, s.W.length, wc, a, b⟩
  l : Own h lp n n 128 (s.L.flatMap senc)
  w : Own h wp s.W.length wc 129 (s.W.flatMap wenc)
  ok : s.ok n
  m : ∀ y, X.M y ↔ y = d ∨ inBlk lp y ∨ inBlk wp y
  dd : ∀ y, ¬ X.D y
  d1 : ¬ inBlk lp d
  d2 : ¬ inBlk wp d
  lw : ∀ y, inBlk lp y → ¬ inBlk wp y
def Dk (h : Heap) (d : Nat) (X : Ft) (n : Nat) (s : DS) : Prop := ∃ lp wp wc a b, DkA h d X n s lp wp wc a b
theorem Dk.lt (H : Dk h d X n s) (y : Nat) (hy : X.M y) : y < h.size := by
  obtain ⟨lp, wp, wc, a, b, A⟩ := H
  rcases (A.m y).1 hy with rfl | q | q
  · exact lt_of_get A.blk
  · exact A.l.blk_lt q
  · exact A.w.blk_lt q
theorem Dk.frame {Q : Nat → Prop} (H : Dk h d X n s) (f : Fr Q h h') (hq : ∀ y, X.M y → ¬ Q y) : Dk h' d X n s := by
  obtain ⟨lp, wp, wc, a, b, A⟩ := H
  exact ⟨lp, wp, wc, a, b, f.get A.blk (hq d ((A.m d).2 (.inl rfl))), A.l.frame f (fun y q => hq y ((A.m y).2 (.inr (.inl q)))), A.w.frame f (fun y q => hq y ((A.m y).2 (.inr (.inr q)))), A.ok, A.m, A.dd, A.d1, A.d2, A.lw⟩
theorem Dk.on (H : Dk h d X n s) (f : Fr No h h') : Dk h' d X n s := H.frame f (fun _ _ => id)
theorem Dk.ok (H : Dk h d X n s) : s.ok n := by obtain ⟨_, _, _, _, _, A⟩ := H; exact A.ok
theorem Dk.nd (H : Dk h d X n s) (y : Nat) : ¬ X.D y := by obtain ⟨_, _, _, _, _, A⟩ := H; exact A.dd y
theorem tS : SlTy Tryz.prog 140 381 128 128 (.agg (Array.replicate 128 (.int .u8 0))) := ⟨by kernel_rfl, by kernel_rfl, by simp [Value.cells]⟩
theorem tW : SlTy Tryz.prog 141 383 129 136 (.agg (((.int .i64 0 : Value) :: List.replicate 128 (.int .u8 0)).toArray)) := ⟨by kernel_rfl, by kernel_rfl, by simp [Value.cells]⟩
theorem uW : Tryz.prog.underlying 141 = some (.slice 383) := by kernel_rfl
theorem new_ok (h4 : 4 ≤ n) (h5 : n ≤ 4096) (hk : ∀ h' d X, Dk h' d X n (newD n) → UpF h X h' → R (.tuple #[pt d, .int .i64 0]) h') : Cl 42 #[.int .i64 (n : Int)] h R := by
  refine disk_New.walk (JoinP.of fun J hJ => ?_)
  rw [if_neg (by simp; omega), decide_eq_false (by omega)]
  subst hJ
  dsimp only
  rw [if_neg (by decide)]
  refine den_makeN tS rfl (by omega) n (by omega) (by omega) fun h1 p o f g => ⟨_, _, _, rfl, disk_Disk.boxp (x := ⟨p, n, n, none, 0, 0, 0, 0⟩) fun b h2 eb hb f2 => ?_⟩
  have np : ¬ inBlk p b := fun q => by have := o.blk_lt q; omega
  refine hk h2 b ⟨fun y => y = b ∨ inBlk p y, fun _ => False⟩ ⟨p, none, 0, 0, 0, hb, ?_, .nil rfl rfl rfl rfl, newD_ok n, fun y => ⟨fun q => q.imp id .inl, fun q => q.imp id fun q => q.resolve_right fun ⟨a, e, _⟩ => by cases e⟩, fun _ => id, np, (fun ⟨a, e, _⟩ => by cases e), (fun y _ ⟨a, e, _⟩ => by cases e)⟩ ⟨f.tt f2, fun y hy => ?_⟩
  · show Own h2 p n n 128 ((List.replicate n zeroS).flatMap senc)
    rw [flat_zero]
    exact o.frame f2 (fun _ _ => id)
  · have z := f.1
    rcases hy with (rfl | q) | q
    · omega
    · exact g y q
    · exact q.elim
theorem sectors_ok (H : Dk h d X n s) (hk : R (.int .i64 (n : Int)) h) : Cl 83 #[pt d] h R := by
  obtain ⟨lp, wp, wc, a, b, A⟩ := H
  exact disk_Disk_Sectors.walk ⟨_, _, _, cell_at A.blk rfl, hk⟩
theorem ask_ok (H : Dk h d X n s) (hi : i < n) (hk : R (.int .i64 0) h) : Cl 408 #[pt d, .int .i64 (i : Int)] h R := by
  refine disk_Disk_ask.walk (sectors_ok H ⟨_, rfl, ?_⟩)
  rw [if_neg (by simp; omega)]
  refine JoinP.of fun J hJ => ?_
  rw [if_neg (by simp)]
  obtain ⟨lp, wp, wc, a, b, A⟩ := H
  refine ⟨_, _, _, cell_at A.blk rfl, ?_⟩
  rw [decide_eq_false (by show ¬ ((i : Int) ≥ ((n : Nat) : Int)); omega)]
  subst hJ
  dsimp only
  rw [if_neg (by decide)]
  exact hk
theorem sec_at {L : List (List UInt8)} (ok : ∀ b ∈ L, b.length = 128) (hi : i < L.length) : ∃ b, L[i]? = some b ∧ L.getD i [] = b ∧ b.length = 128 ∧ senc b = bc b := by
  refine ⟨L[i], List.getElem?_eq_getElem hi, ?_, ok _ (List.getElem_mem _), ?_⟩
  · rw [List.getD_eq_getElem?_getD, List.getElem?_eq_getElem hi]; rfl
  · unfold senc; rw [fit_id (ok _ (List.getElem_mem _))]
theorem wait_at {W : List (Nat × List UInt8)} (ok : ∀ x ∈ W, x.1 < n ∧ x.2.length = 128) (hi : i < W.length) : ∃ w, W[i]? = some w ∧ w.1 < n ∧ w.2.length = 128 ∧ wenc w = .int .i64 (w.1 : Int) :: bc w.2 := by
  have h1 := ok _ (List.getElem_mem hi)
  exact ⟨W[i], List.getElem?_eq_getElem hi, h1.1, h1.2, by unfold wenc; rw [fit_id h1.2]⟩
theorem loadB_w {a : Addr} {w : Nat × List UInt8} {F : List Value → Prop} (e : wenc w = .int .i64 (w.1 : Int) :: bc w.2) (hl : w.2.length = 128) (hh : heldL a (wenc w) 0 h) (hF : F (wenc w)) : LoadB h a ([.int .i64] ++ List.replicate 128 (.int .u8)) F := by
  rw [e] at hh hF
  refine ⟨⟨_, hh.1, ?_⟩⟩
  have := loadL_bytes w.2 1 (fun vs => F (.int .i64 (w.1 : Int) :: vs)) hh.2 hF
  rw [hl] at this
  exact this
theorem wblk {g : Heap} {b1 : Nat} {w : Nat × List UInt8} {t : TypeId} (e : wenc w = .int .i64 (w.1 : Int) :: bc w.2) (hb : g[b1]? = some (.cells (wenc w).toArray t (0, 0))) : hcell g ⟨b1, 0, none⟩ = some (.int .i64 (w.1 : Int)) ∧ heldL ⟨b1, 1, none⟩ (bc w.2) 0 g := by
  rw [e] at hb
  refine ⟨cell_at hb rfl, heldL_blk hb fun j v hj => ?_⟩
  rw [Nat.add_comm]
  simpa using hj
theorem read_ok (H : Dk h d X n s) (hi : i < n) (hw : s.W.length ≤ 1000000) (hk : ∀ h' p, Own h' p 128 128 1 (bc (s.get i)) → (∀ y, inBlk p y → h.size ≤ y) → Fr No h h' → R (.tuple #[.slice p 128 128, .int .i64 0]) h') :
    Cl 347 #[pt d, .int .i64 (i : Int)] h R := by
  refine disk_Disk_Read.walk (ask_ok H hi ⟨_, rfl, ?_⟩)
  rw [if_neg (by decide)]
  obtain ⟨lp, wp, wc, a, b, A⟩ := H
  obtain ⟨lb, lo, rfl⟩ := A.l.addr (by omega)
  obtain ⟨sec, e1, e2, e3, e4⟩ := sec_at A.ok.l (i := i) (by rw [A.ok.n]; exact hi)
  have hh := A.l.heldAt senc_len e1
  rw [e4] at hh
  refine ⟨_, n, n, cell_at A.blk rfl, ⟨by omega, by omega⟩, onSome_some.2 (loadB_bc e3 (by rw [Int.toNat_natCast]; exact hh) (newB (by rw [bc_len, e3]) (by rw [bc_len, e3]; simp) (bc_one _) fun b1 h1 eb hb f1 => ⟨wp, s.W.length, wc, cell_at (f1.get A.blk id) rfl, ?_⟩))⟩
  refine ⟨fun t g => ∃ j : Nat, t = (j : Int) ∧ j ≤ s.W.length ∧ (lastW i (s.W.take j) sec).length = 128 ∧ g[b1]? = some (.cells (bc (lastW i (s.W.take j) sec)).toArray 381 (0, 0)) ∧ Fr No h g, fun t _ => s.W.length - t.toNat, ⟨0, rfl, Nat.zero_le _, e3, hb, f1⟩, ?_⟩
  rintro _ g ⟨j, rfl, hj, hl, hg, fg⟩
  by_cases hlt : j < s.W.length
  · rw [if_pos (decide_eq_true (by omega))]
    refine JoinP.of fun J hJ => ⟨⟨by omega, by omega⟩, ?_⟩
    obtain ⟨w, w1, w2, w3, w4⟩ := wait_at A.ok.w hlt
    have ow := A.w.frame fg (fun _ _ => id)
    obtain ⟨wb, wo, rfl⟩ := ow.addr (by omega)
    have hw' := ow.heldAt wenc_len w1
    refine onSome_some.2 (loadB_w w4 w3 (by rw [Int.toNat_natCast]; exact hw') (newB (wenc_len w) (by rw [wenc_len]; simp) (wenc_one w) fun b2 h2 eb2 hb2 f2 => ?_))
    obtain ⟨c0, c1⟩ := wblk w4 hb2
    have hg2 := f2.get hg id
    have fin : ∀ g', g'[b1]? = some (.cells (bc (lastW i (s.W.take (j + 1)) sec)).toArray 381 (0, 0)) → (lastW i (s.W.take (j + 1)) sec).length = 128 → Fr No h g' → J g' := fun g' q1 q2 q3 => by
      subst hJ
      dsimp only
      rw [wrap_id (by omega) (by omega)]
      exact ⟨⟨j + 1, rfl, by omega, q2, q1, q3⟩, by show s.W.length - Int.toNat ((j : Int) + 1) < s.W.length - Int.toNat (j : Int); omega⟩
    have el : lastW i (s.W.take (j + 1)) sec = if w.1 = i then w.2 else lastW i (s.W.take j) sec := by rw [List.take_add_one, w1]; exact lastW_snoc _ _
    rw [el] at fin
    refine ⟨_, c0, JoinP.of fun J1 hJ1 => ?_⟩
    have e : J1 = J := hJ1
    subst e
    by_cases he : w.1 = i
    · rw [if_pos he] at fin
      rw [if_pos (beq_iff_eq.2 (by omega))]
      refine loadB_bc w3 c1 ⟨by rw [bc_len, w3], storeL_full hg2 (by rw [bc_len, w3]; simp [bc_len, hl]) (List.all_eq_true.2 (bc_one _)) fun h3 d1 d2 d3 => ?_⟩
      exact fin h3 d1 w3 ((fg.tt f2).fresh (Fr.of_eq (S := fun y => y = b1) d2 d3) (fun y e => by omega))
    · rw [if_neg he] at fin
      rw [if_neg (fun e => he (by have := beq_iff_eq.1 e; omega))]
      exact fin h2 hg2 hl (fg.tt f2)
  rw [if_neg (fun e => hlt (by have := of_decide_eq_true e; omega))]
  obtain rfl : j = s.W.length := by omega
  rw [List.take_length] at hl hg
  rw [slBase_zero]
  have eg : s.get i = lastW i s.W sec := by unfold DS.get; rw [e2]
  refine hk g _ (.row b1 0 _ _ rfl hg (Nat.le_refl _) (by simp [bc_len, hl]) (by rw [bc_len, eg, hl]) (fun k v hv => ?_)) (fun y ⟨a, ea, e⟩ => ?_) fg
  · rw [eg] at hv; rw [Nat.zero_add]; simpa using hv
  · cases ea; exact e ▸ Nat.le_of_eq eb.symm
theorem write_ok {b : List UInt8} {p : Option Addr} {c l : Nat} (H : Dk h d X n s) (hi : i < n) (row : Row h p (bc b)) (hl : l = b.length) (hb : b.length = 128) (hw : s.W.length ≤ 100000) (ap : ∀ y, inBlk p y → ¬ X.M y)
    (hk : ∀ h' X', Dk h' d X' n (s.put i b) → StepF X h X' h' → R (.int .i64 0) h') : Cl 359 #[pt d, .int .i64 (i : Int), .slice p l c] h R := by
  subst hl
  refine disk_Disk_Write.walk (ask_ok H hi ⟨_, rfl, ?_⟩)
  rw [if_neg (by decide), if_neg (by simp [hb])]
  obtain ⟨lp, wp, wc, x, y, A⟩ := H
  obtain ⟨a, rfl⟩ := row.some (by cases b with | nil => cases hb | cons u v => simp [bc])
  have rh : heldL a (bc b) 0 h := by
    rcases row with e | ⟨a', e, q⟩
    · cases b with | nil => cases hb | cons u v => cases e
    · cases e; exact q
  have ew : wenc (i, b) = .int .i64 (i : Int) :: bc b := by unfold wenc; rw [fit_id hb]
  refine ⟨wp, s.W.length, wc, cell_at A.blk rfl, by omega, onSome_some.2 (loadB_bc hb rh (exs_w (w := (i, b)) ew hb ⟨?_, ?_⟩))⟩
  · rw [ew]
    exact buildV_pair (fs := fsOf Tryz.prog 383) (f0 := (((fsOf Tryz.prog 383)[0]?).get (by kernel_rfl))) (f1 := (((fsOf Tryz.prog 383)[1]?).get (by kernel_rfl))) (i0 := (Tryz.prog.info? 3).get (by kernel_rfl)) (i1 := (Tryz.prog.info? 381).get (by kernel_rfl)) (it := (Tryz.prog.info? 383).get (by kernel_rfl)) (z := (((Tryz.prog.info? 383).bind (·.zero)).get (by kernel_rfl))) (by kernel_rfl) (by kernel_rfl) (by kernel_rfl) (by kernel_rfl) (by kernel_rfl) (by kernel_rfl) (by kernel_rfl) (by rw [bc_len, hb]; kernel_rfl) (by kernel_rfl) (by kernel_rfl) (by rw [bc_len, hb]; kernel_rfl) rfl
  refine den_buildOne tW (by omega) (by omega) (by simp [Value.cells, wenc_len]) fun b1 h1 eb hb1 f1 => ⟨_, _, _, rfl, ?_⟩
  refine ⟨f1.kp, den_append tW uW (A.w.frame f1 (fun _ _ => id)) (ds := wenc (i, b)) (.inr ⟨_, rfl, heldL_blk hb1 (fun j v hj => by rw [Nat.zero_add]; simpa [Value.cells] using hj)⟩) (by rw [wenc_len]) (wenc_one _) (by omega) (by omega) fun p' c' h2 o2 _ f2 g2 => ⟨_, _, _, rfl, ?_⟩⟩
  have z1 := f1.1
  have z2 := f2.1
  have nd : ∀ y, X.M y → y < h.size := fun y hy => Dk.lt ⟨lp, wp, wc, _, _, A⟩ y hy
  have hd := nd d ((A.m d).2 (.inl rfl))
  have b2 := f2.get (f1.get A.blk id) A.d2
  refine ⟨f2.kps (fun q hq u e hx => ?_), storeP_blk b2 (by show 1 < 4; omega) fun h3 d1 d2 d3 => ?_⟩
  · rw [List.mem_singleton] at hq
    subst hq
    cases e
    exact ap _ ⟨_, rfl, rfl⟩ ((A.m _).2 (.inr (.inr hx)))
  have f3 : Fr (fun y => y = d) h2 h3 := Fr.of_eq d2 d3
  have np : ∀ y, inBlk p' y → y ≠ d := fun y hy e => by
    rcases g2 y hy with q | q
    · exact A.d2 (e ▸ q)
    · omega
  refine add_ok (n := x) (δ := 1) (cell_at (show h3[d]? = some (.cells _ _ _) from d1) rfl) (storeP_blk d1 (by show 2 < 4; omega) fun h4 q1 q2 q3 => ⟨_, rfl, ?_⟩)
  have f4 : Fr (fun y => y = d) h2 h4 := f3.tt (Fr.of_eq q2 q3)
  have ll : ∀ y, inBlk lp y → y < h.size := fun y hy => A.l.blk_lt hy
  refine hk h4 ⟨fun y => y = d ∨ inBlk lp y ∨ inBlk p' y, fun _ => False⟩ ⟨lp, p', c', IntKind.wrap .i64 (x + 1), y, ?_, ?_, ?_, A.ok.put hi hb, fun y => Iff.rfl, fun _ => id, A.d1, fun q => np d q rfl, fun y q1 q2 => ?_⟩ ⟨?_, ?_, fun y hy => hy.elim, fun y hy => (A.dd y hy).elim⟩
  · show h4[d]? = some (.cells (disk_Disk.S.arr ⟨lp, n, n, p', (s.W ++ [(i, b)]).length, c', IntKind.wrap .i64 (x + 1), y⟩) _ _)
    rw [List.length_append]
    exact q1
  · refine ((A.l.frame f1 (fun _ _ => id)).frame f2 (fun y hy hq => A.lw y hy hq)).frame f4 (fun y hy e => A.d1 (e ▸ hy))
  · show Own h4 p' (s.W ++ [(i, b)]).length c' 129 ((s.W ++ [(i, b)]).flatMap wenc)
    rw [List.length_append, List.flatMap_append]
    have e : [(i, b)].flatMap wenc = wenc (i, b) := by simp
    rw [e]
    exact o2.frame f4 (fun y hy e => np y hy e)
  · rcases g2 y q2 with q | q
    · exact A.lw y q1 q
    · have := ll y q1; omega
  · refine (Fr.no f1 f2).trans f4 (fun y _ hy => (A.m y).2 (.inr (.inr hy))) (fun y _ hy => (A.m y).2 (.inl hy))
  · intro y hy
    rcases hy with q | q | q
    · exact .inl ((A.m y).2 (.inl q))
    · exact .inl ((A.m y).2 (.inr (.inl q)))
    · rcases g2 y q with q | q
      · exact .inl ((A.m y).2 (.inr (.inr q)))
      · exact .inr (by omega)
theorem DkA.fr {Q : Nat → Prop} {lp wp : Option Addr} {wc : Nat} {a b : Int} (A : DkA h d X n s lp wp wc a b) (f : Fr Q h h') (hq : ∀ y, X.M y → ¬ Q y) : DkA h' d X n s lp wp wc a b :=
  ⟨f.get A.blk (hq d ((A.m d).2 (.inl rfl))), A.l.frame f (fun y q => hq y ((A.m y).2 (.inr (.inl q)))), A.w.frame f (fun y q => hq y ((A.m y).2 (.inr (.inr q)))), A.ok, A.m, A.dd, A.d1, A.d2, A.lw⟩
theorem dsync_ok (H : Dk h d X n s) (hn : 0 < n) (hw : s.W.length ≤ 1000000) (hk : ∀ h' X', Dk h' d X' n s.sync → StepF X h X' h' → R (.int .i64 0) h') : Cl 297 #[pt d] h R := by
  refine disk_Disk_Sync.walk (sectors_ok H ⟨_, rfl, ?_⟩)
  rw [if_neg (by simp; omega)]
  obtain ⟨lp, wp, wc, x, y, A⟩ := H
  refine ⟨wp, s.W.length, wc, cell_at A.blk rfl, ?_⟩
  let fo : Nat → List (List UInt8) := fun j => (s.W.take j).foldl (fun L w => L.set w.1 w.2) s.L
  have A0 : DkA h d X n ⟨fo 0, s.W⟩ lp wp wc x y := A
  refine ⟨fun t g => ∃ j : Nat, t = (j : Int) ∧ j ≤ s.W.length ∧ DkA g d X n ⟨fo j, s.W⟩ lp wp wc x y ∧ Fr X.M h g, fun t _ => s.W.length - t.toNat, ⟨0, rfl, Nat.zero_le _, A0, Fr.refl _ _⟩, ?_⟩
  rintro _ g ⟨j, rfl, hj, B, fg⟩
  have zlt : ∀ z, X.M z → z < g.size := fun z hz => Dk.lt ⟨lp, wp, wc, _, _, B⟩ z hz
  by_cases hlt : j < s.W.length
  · rw [if_pos (decide_eq_true (by omega))]
    refine ⟨⟨by omega, by omega⟩, ?_⟩
    obtain ⟨w, w1, w2, w3, w4⟩ := wait_at A.ok.w hlt
    have ow : Own g wp s.W.length wc 129 (s.W.flatMap wenc) := B.w
    obtain ⟨wb, wo, rfl⟩ := ow.addr (by omega)
    have hw' := ow.heldAt wenc_len w1
    refine onSome_some.2 (loadB_w w4 w3 (by rw [Int.toNat_natCast]; exact hw') (newB (wenc_len w) (by rw [wenc_len]; simp) (wenc_one w) fun b2 h2 eb2 hb2 f2 => ?_))
    obtain ⟨c0, c1⟩ := wblk w4 hb2
    have B2 := B.fr f2 (fun _ _ => id)
    have ol : Own h2 lp n n 128 ((fo j).flatMap senc) := B2.l
    have ln : (fo j).length = n := B2.ok.n
    obtain ⟨lb, lo, rfl⟩ := ol.addr hn
    refine ⟨_, n, n, cell_at B2.blk rfl, _, c0, loadB_bc w3 c1 ⟨⟨by omega, by omega⟩, onSome_some.2 ⟨by rw [bc_len, w3], ?_⟩⟩⟩
    have es : senc w.2 = bc w.2 := by unfold senc; rw [fit_id w3]
    rw [← es, Int.toNat_natCast]
    refine ol.storeRow senc_len (fun v hv => by rw [es] at hv; exact bc_one _ v hv) (by omega) fun h3 o3 s3 q3 => ?_
    have f3 : Fr (inBlk (some ⟨lb, lo, none⟩)) h2 h3 := Fr.of_eq s3 q3
    have ef : fo (j + 1) = (fo j).set w.1 w.2 := by
      show (s.W.take (j + 1)).foldl _ _ = _
      rw [List.take_add_one, w1, List.foldl_append]; rfl
    rw [wrap_id (by omega) (by omega)]
    refine ⟨⟨j + 1, rfl, by omega, ⟨f3.get B2.blk B2.d1, ?_, B2.w.frame f3 (fun z q1 q2 => B2.lw z q2 q1), ⟨?_, fun b hb => ?_, A.ok.w⟩, B2.m, B2.dd, B2.d1, B2.d2, B2.lw⟩, (fg.on f2).trans f3 (fun z _ q => q) (fun z _ q => (B2.m z).2 (.inr (.inl q)))⟩, by show s.W.length - Int.toNat ((j : Int) + 1) < s.W.length - Int.toNat (j : Int); omega⟩
    · show Own h3 _ n n 128 ((fo (j + 1)).flatMap senc)
      rw [ef]; exact o3
    · show (fo (j + 1)).length = n
      rw [ef, List.length_set]; exact ln
    · have hb : b ∈ fo (j + 1) := hb
      rw [ef] at hb
      rcases List.mem_or_eq_of_mem_set hb with q | q
      · exact B2.ok.l b q
      · rw [q]; exact w3
  rw [if_neg (fun e => hlt (by have := of_decide_eq_true e; omega))]
  obtain rfl : j = s.W.length := by omega
  have e1 : fo s.W.length = s.sync.L := by show (s.W.take s.W.length).foldl _ _ = _; rw [List.take_length]; rfl
  rw [e1] at B
  refine storeP_blk B.blk (by show 1 < 4; omega) fun h3 d1 d2 d3 => ?_
  refine add_ok (n := y) (δ := 1) (cell_at (show h3[d]? = some (.cells _ _ _) from d1) rfl) (storeP_blk d1 (by show 3 < 4; omega) fun h4 q1 q2 q3 => ⟨_, rfl, ?_⟩)
  have f4 : Fr (fun y => y = d) g h4 := (Fr.of_eq (S := fun y => y = d) d2 d3).tt (Fr.of_eq q2 q3)
  have np : ∀ y, ¬ inBlk none y := fun y ⟨a, e, _⟩ => by cases e
  refine hk h4 ⟨fun y => y = d ∨ inBlk lp y ∨ inBlk none y, fun _ => False⟩ ⟨lp, none, 0, x, IntKind.wrap .i64 (y + 1), q1, B.l.frame f4 (fun z q e => B.d1 (e ▸ q)), .nil rfl rfl rfl rfl, A.ok.sync, fun y => Iff.rfl, fun _ => id, B.d1, np d, fun y _ => np y⟩ ⟨?_, fun z q => .inl ?_, fun z q => q.elim, fun z q => (A.dd z q).elim⟩
  · exact fg.trans f4 (fun z _ q => q) (fun z _ q => (A.m z).2 (.inl q))
  · rcases q with q | q | q
    · exact (A.m z).2 (.inl q)
    · exact (A.m z).2 (.inr (.inl q))
    · exact (np z q).elim
end Dsk
end Go.Proofs.YticlajoleibdnaaGreatDoor
namespace Go.Proofs.YticlajoleibdnaaGreatDoor
open Go.Den
open IntKind (wrap)
open Int (toNat)
section
namespace Sup
variable {h h':Heap} {R:TyP} {d n:Nat} {X:Ft} {s:Dsk.DS}
structure SU where
  gen : Nat
  area : Nat
  len : Nat
abbrev SU.S (x : SU) : super_Super.S := ⟨x.gen, x.area, x.len⟩
def SU.ok (x : SU) : Prop := 1 ≤ x.gen ∧ x.gen ≤ 1099511627776 ∧ x.area ≤ 1 ∧ x.len ≤ 1048576
variable {x:SU}
def beP (k i n : Nat) : List UInt8 := (List.range i).map fun j => UInt8.ofNat (n / 2 ^ (8 * (k - 1 - j)))
def beB (k n : Nat) : List UInt8 := beP k k n
theorem beP_len (k i n : Nat) : (beP k i n).length = i := by simp [beP]
theorem beB_len (k n : Nat) : (beB k n).length = k := beP_len k k n
theorem beP_succ (k i n : Nat) : beP k (i + 1) n = beP k i n ++ [UInt8.ofNat (n / 2 ^ (8 * (k - 1 - i)))] := by simp [beP, List.range_succ]
def supM (x : SU) : List UInt8 := [80, 76, 70, 84] ++ beB 8 x.gen ++ [UInt8.ofNat x.area] ++ beB 4 x.len
theorem supM_len (x : SU) : (supM x).length = 17 := by simp [supM, beB_len]
def supB (x : SU) : List UInt8 := supM x ++ beB 4 (Bt.longN (supM x)) ++ List.replicate 107 0
theorem supB_len (x : SU) : (supB x).length = 128 := by simp [supB, beB_len, supM_len]
theorem wu8n (n : Nat) : IntKind.wrap .u8 (n : Int) = ((UInt8.ofNat n).toNat : Int) := by rw [wrap_u8_nat, UInt8.toNat_ofNat']
theorem put_ok {p : Option Addr} {l c k m : Nat} {bs : List UInt8} (H : Src h p l c bs) (k0 : 0 < k) (k8 : k ≤ 8) (hb : bs.length ≤ 1000000)
    (hk : ∀ p' c' h', Own h' p' (bs ++ beB k m).length c' 1 (bc (bs ++ beB k m)) → Fr (inBlk p) h h' → (∀ y, inBlk p' y → inBlk p y ∨ h.size ≤ y) → R (.slice p' (bs ++ beB k m).length c') h') :
    Cl 422 #[.slice p l c, .int .u64 (m : Int), .int .i64 (k : Int)] h R := by
  refine super_put.walk ⟨fun q lq cq t g => ∃ i : Nat, t = (i : Int) ∧ i ≤ k ∧ Src g q lq cq (bs ++ beP k i m) ∧ (0 < i → Own g q (bs ++ beP k i m).length cq 1 (bc (bs ++ beP k i m))) ∧ Fr (inBlk p) h g ∧ (∀ y, inBlk q y → inBlk p y ∨ h.size ≤ y),
    fun _ _ _ t _ => k - t.toNat, ⟨0, rfl, by omega, by rw [show beP k 0 m = [] from rfl, List.append_nil]; exact H, fun q => absurd q (by omega), Fr.refl _ _, fun _ => .inl⟩, ?_⟩
  rintro q lq cq _ g ⟨i, rfl, hi, S, o, f, gr⟩
  by_cases c1 : i < k
  · rw [if_pos (decide_eq_true (by omega))]
    rw [wrap_id (n := (k : Int) - 1) (by omega) (by omega), wrap_id (n := (k : Int) - 1 - i) (by omega) (by omega), wrap_id (n := 8 * ((k : Int) - 1 - i)) (by omega) (by omega), if_neg (by omega)]
    have l1 : lq = bs.length + i := by rw [S.1, List.length_append, beP_len]
    have e8 : min (Int.toNat (8 * ((k : Int) - 1 - i))) (IntKind.bits .u64) = 8 * (k - 1 - i) := by
      rw [show IntKind.bits .u64 = 64 from rfl]; omega
    refine den_append1S (UInt8.ofNat (m / 2 ^ (8 * (k - 1 - i)))) (by rw [e8, Bt.fdiv2, wu8n]) Fld.tU Fld.uU S (by omega) fun p' c' g' o' f' gr' => ⟨_, _, _, rfl, ?_⟩
    have z1 := f.1
    rw [wrap_id (by omega) (by omega)]
    refine ⟨⟨i + 1, by omega, by omega, ?_, fun _ => ?_, f.trans f' (fun _ _ => id) (fun y hy hq => (gr y hq).elim id (fun e => absurd e (by omega))), fun y hy => (gr' y hy).elim (gr y) (fun e => .inr (by omega))⟩, by show k - Int.toNat ((i : Int) + 1) < k - Int.toNat (i : Int); omega⟩
    · rw [beP_succ, ← List.append_assoc]; exact Src.own o' rfl
    · rw [beP_succ, ← List.append_assoc]; exact o'
  · rw [if_neg (fun e => c1 (by have := of_decide_eq_true e; omega))]
    obtain rfl : i = k := by omega
    have l1 := S.1
    subst l1
    exact hk q cq g (o k0) f gr
theorem right_ok (ok : x.ok) (hk : ∀ g, Fr No h g → R (.bool true) g) : Cl 421 #[x.S.agg] h R := by
  obtain ⟨o1, o2, o3, o4⟩ := ok
  refine super_Right.walk (super_Super.boxp fun b g e b0 f => ⟨_, cell_at b0 rfl, ?_⟩)
  rw [if_pos (decide_eq_true (by show (x.gen : Int) ≥ 1; omega))]
  refine ⟨_, cell_at b0 rfl, ?_⟩
  rw [if_pos (decide_eq_true (by show (x.gen : Int) ≤ 1099511627776; omega))]
  refine ⟨_, cell_at b0 rfl, ?_⟩
  have r := hk g f
  have e3 : decide ((x.len : Int) ≤ 1048576) = true := decide_eq_true (by omega)
  by_cases c : x.area = 0
  · rw [if_pos (by show ((x.area : Int) == 0) = true; rw [c]; rfl)]
    refine ⟨_, cell_at b0 rfl, ?_⟩
    rw [if_pos (decide_eq_true (by show (x.len : Int) ≥ 0; omega))]
    refine ⟨_, cell_at b0 rfl, ?_⟩
    show R (.bool (decide ((x.len : Int) ≤ 1048576))) g
    rw [e3]; exact r
  · have c1 : x.area = 1 := by omega
    rw [if_neg (by show ¬ ((x.area : Int) == 0) = true; rw [c1]; decide)]
    refine ⟨_, cell_at b0 rfl, ?_⟩
    rw [if_pos (by show ((x.area : Int) == 1) = true; rw [c1]; rfl)]
    refine ⟨_, cell_at b0 rfl, ?_⟩
    rw [if_pos (decide_eq_true (by show (x.len : Int) ≥ 0; omega))]
    refine ⟨_, cell_at b0 rfl, ?_⟩
    show R (.bool (decide ((x.len : Int) ≤ 1048576))) g
    rw [e3]; exact r
theorem tI : Tryz.prog.underlying 3 = some (.int .i64) := by kernel_rfl
theorem write_ok (ok : x.ok) (hk : ∀ p c g, Own g p 128 c 1 (bc (supB x)) → Fr No h g → (∀ y, inBlk p y → h.size ≤ y) → R (.tuple #[.slice p 128 c, .int .i64 0]) g) :
    Cl 358 #[x.S.agg] h R := by
  refine super_Write.walk (super_Super.boxp fun b h1 e1 b0 f1 => super_Super.ldp b0 (right_ok ok fun h2 f2 => ⟨_, rfl, ?_⟩))
  rw [if_neg (by decide)]
  have z1 := f1.1
  have z2 := f2.1
  refine Fld.lit_ok (bs := [80, 76, 70, 84]) rfl fun h4 r4 f4 => ?_
  have z4 := f4.1
  have F4 : Fr No h1 h4 := f2.tt f4
  have b4 := F4.get b0 id
  have bl : b < h1.size := (Array.getElem?_eq_some_iff.1 b0).1
  refine ⟨_, cell_at b4 rfl, put_ok (k := 8) (bs := [80, 76, 70, 84]) ⟨rfl, .inr ⟨r4, rfl⟩⟩ (by omega) (by omega) (by decide) fun p5 c5 h5 o5 f5 g5 => ⟨_, _, _, rfl, ?_⟩⟩
  have z5 := f5.1
  have n5 : ∀ y, inBlk p5 y → h2.size ≤ y := fun y hy => by
    rcases g5 y hy with ⟨_, e, rfl⟩ | q
    · cases e; exact Nat.le_refl _
    · omega
  have F5 : Fr No h2 h5 := f4.fresh f5 fun y ⟨_, e, hy⟩ => by cases e; subst hy; exact Nat.le_refl _
  have b5 := F5.get (f2.get b0 id) id
  refine ⟨_, cell_at b5 rfl, ?_⟩
  refine den_append1S (UInt8.ofNat x.area) (wu8n _) Fld.tU Fld.uU (Src.own o5 rfl) (by rw [List.length_append, beB_len]; simp) fun p7 c7 h7 o7 f7 g7 => ⟨_, _, _, rfl, ?_⟩
  have z7 := f7.1
  have n7 : ∀ y, inBlk p7 y → h2.size ≤ y := fun y hy => (g7 y hy).elim (n5 y) (fun q => by omega)
  have F7 : Fr No h2 h7 := F5.fresh f7 n5
  have b7 := F7.get (f2.get b0 id) id
  refine ⟨_, cell_at b7 rfl, ?_⟩
  rw [show IntKind.wrap .u64 (x.S.f2) = (x.len : Int) from wrap_u64 (by show (0 : Int) ≤ x.len; omega) (by have := ok.2.2.2; show (x.len : Int) ≤ _; omega)]
  refine put_ok (k := 4) (m := x.len) (Src.own o7 rfl) (by omega) (by omega) (by simp [beB_len]) fun p8 c8 h8 o8 f8 g8 => ⟨_, _, _, rfl, ?_⟩
  have z8 := f8.1
  have n8 : ∀ y, inBlk p8 y → h2.size ≤ y := fun y hy => (g8 y hy).elim (n7 y) (fun q => by omega)
  have F8 : Fr No h2 h8 := F7.fresh f8 n7
  change Own h8 p8 (supM x).length c8 1 (bc (supM x)) at o8
  refine Bt.long_ok o8.row' rfl (by rw [supM_len]; omega) ⟨_, rfl, ?_⟩
  have hl := Bt.longN_lt (supM x)
  rw [show IntKind.wrap .u64 ((Bt.longN (supM x) : Nat) : Int) = (Bt.longN (supM x) : Int) from wrap_u64 (by omega) (by omega)]
  refine put_ok (k := 4) (m := Bt.longN (supM x)) (Src.own (bs := supM x) o8 rfl) (by omega) (by omega) (by rw [supM_len]; omega) fun p9 c9 h9 o9 f9 g9 => ⟨_, _, _, rfl, ?_⟩
  have z9 := f9.1
  have n9 : ∀ y, inBlk p9 y → h2.size ≤ y := fun y hy => (g9 y hy).elim (n8 y) (fun q => by omega)
  have F9 : Fr No h2 h9 := F8.fresh f9 n8
  have l9 : (supM x ++ beB 4 (Bt.longN (supM x))).length = 21 := by simp [supM_len, beB_len]
  rw [l9] at o9 ⊢
  rw [show IntKind.wrap .i64 (128 - ((21 : Nat) : Int)) = ((107 : Nat) : Int) from rfl]
  refine den_zeros Fld.tU tI o9 l9.symm (by omega) (by omega) fun pA cA hA oA fA gA => ⟨_, _, _, rfl, ?_⟩
  have nA : ∀ y, inBlk pA y → h2.size ≤ y := fun y hy => (gA y hy).elim (n9 y) (fun q => by omega)
  exact hk pA cA hA oA ((f1.tt f2).tt (F9.fresh fA n9)) fun y hy => by have := nA y hy; omega
theorem slot_ok (hg : x.gen ≤ 1099511627776) (hk : ∀ g, Fr No h g → R (.int .i64 ((x.gen % 2 : Nat) : Int)) g) : Cl 349 #[x.S.agg] h R := by
  refine super_slot.walk (super_Super.boxp fun b g e b0 f => ⟨_, cell_at b0 rfl, ?_⟩)
  have e2 : Int.tmod (x.gen : Int) 2 = ((x.gen % 2 : Nat) : Int) := rfl
  show R (.int .i64 (IntKind.wrap .i64 (Int.tmod (x.gen : Int) 2))) g
  rw [e2, wrap_id (by omega) (by omega)]
  exact hk g f
theorem Put_ok (H : Dsk.Dk h d X n s) (n2 : 2 ≤ n) (ok : x.ok) (hw : s.W.length ≤ 100000)
    (hk : ∀ h' X', Dsk.Dk h' d X' n (s.put (x.gen % 2) (supB x)) → StepF X h X' h' → R (.int .i64 0) h') : Cl 296 #[.pointer (some ⟨d, 0, none⟩), x.S.agg] h R := by
  refine super_Put.walk (super_Super.boxp fun b h1 e1 b0 f1 => super_Super.ldp b0 (write_ok ok fun p c h2 o2 f2 g2 => ⟨_, _, _, _, rfl, ?_⟩))
  rw [if_neg (by decide)]
  refine super_Super.ldp (f2.get b0 id) (slot_ok ok.2.1 fun h3 f3 => ⟨_, rfl, ?_⟩)
  have F3 := (f1.tt f2).tt f3
  have z1 := f1.1
  refine Dsk.write_ok (H.on F3) (by omega) (o2.row'.frame f3 (fun _ _ => id)) (supB_len x).symm (supB_len x) hw (fun y hy hx => by have := g2 y hy; have := H.lt y hx; omega) fun h4 X' D4 st => ⟨_, rfl, ?_⟩
  exact hk h4 X' D4 (.no F3 st)

end Sup
end
section
variable {h:Heap} {R:TyP}
variable {b d:Nat}
abbrev area_Area.atp (h : Heap) (b : Nat) (x : area_Area.S) : Prop := h[b]? = some (.cells x.arr 334 (0, 0))
theorem area_Area.ex {K : area_Area.S → Prop} (x : area_Area.S) (hk : K x) : area_Area.EX K := ⟨_, _, hk⟩
theorem area_Area.ldAp {a : Addr} {x : area_Area.S} {K : area_Area.S → Prop} (hb : heldL a x.l 0 h) (hk : K x) : area_Area.LDp h a K := by
  obtain ⟨q0, q1, _⟩ := hb
  rw [add_zero_addr] at q0
  exact ⟨_, q0, _, q1, hk⟩
theorem area_Area.heldp {x : area_Area.S} (hb : area_Area.atp h b x) : heldL ⟨b, 0, none⟩ x.l 0 h :=
  heldL_blk hb (fun j v hj => by rw [Nat.zero_add]; simpa using hj)
theorem area_Area.ldp {x : area_Area.S} {K : area_Area.S → Prop} (hb : area_Area.atp h b x) (hk : K x) : area_Area.LDp h ⟨b, 0, none⟩ K := ldAp (heldp hb) hk
theorem area_Area.boxp {x : area_Area.S} {K : Nat → Heap → Prop} (hk : ∀ b h', b = h.size → area_Area.atp h' b x → Fr No h h' → K b h') : NewP h (.cells x.arr 334) fun b h_0 => K b h_0 :=
  newP_of (hk _ _ rfl push_new (Fr.push _ _))
theorem area_Area.setp {y x : area_Area.S} {K : Heap → Prop} (a0 : area_Area.atp h b y) (hk : ∀ h', area_Area.atp h' b x → Fr (fun y => y = b) h h' → h'.size = h.size → K h') : area_Area.STp h ⟨b, 0, none⟩ x K :=
  (show storeL ⟨b, 0, none⟩ x.l 0 h K from storeL_full a0 rfl rfl fun h1 d1 d2 d3 => hk h1 d1 (Fr.of_eq d2 fun c hc => d3 c hc) d2)
variable {K:area_Area.S→Prop} {a x:area_Area.S}
theorem area_Right.walk (hv :
 NewP h (.cells a.arr 334) fun b h_1 =>
 Cl 83 #[.pointer (some ⟨d, 0, none⟩)] h_1 fun v h_2 =>
 ∃ t7, v = .int .i64 t7 ∧
 ∃ t9, hcell h_2 ⟨b, 0, none⟩ = some (.int .i64 t9) ∧
 ite (decide (t9 ≥ 2))
 (  ∃ t13, hcell h_2 ⟨b, 0, none⟩ = some (.int .i64 t13) ∧
 ite (decide (t13 < t7))
 (  ∃ t19, hcell h_2 ⟨b, 1, none⟩ = some (.int .i64 t19) ∧
 ite (decide (t19 ≥ 1))
 (  ∃ t24, hcell h_2 ⟨b, 1, none⟩ = some (.int .i64 t24) ∧
 ∃ t27, hcell h_2 ⟨b, 0, none⟩ = some (.int .i64 t27) ∧
 R (.bool (decide (t24 ≤ (IntKind.wrap .i64 (t7 - t27))))) h_2)
 (  R (.bool false) h_2))
 (  R (.bool false) h_2))
 (  R (.bool false) h_2)) : Cl 410 #[.pointer (some ⟨d, 0, none⟩), a.agg] h R :=
 callsN [] hv
theorem area_Room.walk (hv :
 NewP h (.cells a.arr 334) fun b h_1 =>
 JoinP (fun (t10 : Bool) h_2 =>
 ite t10
 (  R (.int .i64 0) h_2)
 (  ∃ t12, hcell h_2 ⟨b, 1, none⟩ = some (.int .i64 t12) ∧
 R (.int .i64 (IntKind.wrap .i64 (t12 * 128))) h_2))
 (fun J =>
 ∃ t4, hcell h_1 ⟨b, 1, none⟩ = some (.int .i64 t4) ∧
 ite (decide (t4 < 1))
 (  J true h_1)
 (  ∃ t8, hcell h_1 ⟨b, 1, none⟩ = some (.int .i64 t8) ∧
 J (decide (t8 > 4096)) h_1))) : Cl 295 #[a.agg] h R :=
 callsN [(4, .join [(10, sB)])] hv
theorem area_Halves.walk (hv :
 NewP h (.cells area_Area.S.z.arr 334) fun b h_1 =>
 NewP h_1 (.cells area_Area.S.z.arr 334) fun b_1 h_2 =>
 Cl 83 #[.pointer (some ⟨d, 0, none⟩)] h_2 fun v h_3 =>
 ∃ t7, v = .int .i64 t7 ∧
 ite (t7 == 0)
 (  area_Area.STp h_3 ⟨b, 0, none⟩ area_Area.S.z fun h_4 =>
 area_Area.STp h_4 ⟨b_1, 0, none⟩ area_Area.S.z fun h_5 =>
 area_Area.LDp h_5 ⟨b, 0, none⟩ fun r0 =>
 area_Area.LDp h_5 ⟨b_1, 0, none⟩ fun r1 =>
 R (.tuple #[r0.agg, r1.agg, .int .i64 6]) h_5)
 (  Cl 83 #[.pointer (some ⟨d, 0, none⟩)] h_3 fun v_1 h_6 =>
 ∃ t12, v_1 = .int .i64 t12 ∧
 area_Area.STp h_6 ⟨b, 0, none⟩ ⟨2, (IntKind.wrap .i64 (Int.tdiv (IntKind.wrap .i64 (t12 - 2)) 2))⟩ fun h_7 =>
 area_Area.STp h_7 ⟨b_1, 0, none⟩ ⟨(IntKind.wrap .i64 (2 + (IntKind.wrap .i64 (Int.tdiv (IntKind.wrap .i64 (t12 - 2)) 2)))), (IntKind.wrap .i64 (Int.tdiv (IntKind.wrap .i64 (t12 - 2)) 2))⟩ fun h_8 =>
 area_Area.LDp h_8 ⟨b, 0, none⟩ fun r0_1 =>
 area_Area.LDp h_8 ⟨b_1, 0, none⟩ fun r1_1 =>
 R (.tuple #[r0_1.agg, r1_1.agg, .int .i64 0]) h_8)) : Cl 294 #[.pointer (some ⟨d, 0, none⟩)] h R :=
 callsN [] hv
theorem area_ask.walk {v_at : Int} {n : Int} (hv :
 NewP h (.cells a.arr 334) fun b h_1 =>
 area_Area.LDp h_1 ⟨b, 0, none⟩ fun t11 =>
 Cl 410 #[.pointer (some ⟨d, 0, none⟩), t11.agg] h_1 fun v h_2 =>
 ∃ t12, v = .bool t12 ∧
 ite (!t12)
 (  R (.int .i64 3) h_2)
 (  JoinP (fun (t14 : Bool) h_3 =>
 ite t14
 (  R (.int .i64 1) h_3)
 (  R (.int .i64 0) h_3))
 (fun J =>
 ite (decide (v_at < 0))
 (  J true h_2)
 (  ite (decide (n < 0))
 (  J true h_2)
 (  area_Area.LDp h_2 ⟨b, 0, none⟩ fun t23 =>
 Cl 295 #[t23.agg] h_2 fun v_1 h_4 =>
 ∃ t24, v_1 = .int .i64 t24 ∧
 ite (decide (v_at > t24))
 (  J true h_4)
 (  area_Area.LDp h_4 ⟨b, 0, none⟩ fun t29 =>
 Cl 295 #[t29.agg] h_4 fun v_2 h_5 =>
 ∃ t30, v_2 = .int .i64 t30 ∧
 J (decide (n > (IntKind.wrap .i64 (t30 - v_at)))) h_5)))))) : Cl 350 #[.pointer (some ⟨d, 0, none⟩), a.agg, .int .i64 v_at, .int .i64 n] h R :=
 callsN [(11, .join [(14, sB)])] hv

end
section
namespace Area
variable {h:Heap} {R:TyP} {d n:Nat} {X:Ft} {s:Dsk.DS}
structure AR where
  first : Nat
  count : Nat
abbrev AR.S (x : AR) : area_Area.S := ⟨x.first, x.count⟩
def AR.ok (x : AR) (n : Nat) : Prop := 2 ≤ x.first ∧ x.first < n ∧ 1 ≤ x.count ∧ x.count + x.first ≤ n
variable {x:AR}
def halves (n : Nat) : AR × AR := (⟨2, (n - 2) / 2⟩, ⟨2 + (n - 2) / 2, (n - 2) / 2⟩)
theorem halves_ok (h4 : 4 ≤ n) : (halves n).1.ok n ∧ (halves n).2.ok n := by unfold halves AR.ok; dsimp only; omega
theorem right_ok (H : Dsk.Dk h d X n s) (ok : x.ok n) (n5 : n ≤ 4096) (hk : ∀ g, Fr No h g → R (.bool true) g) : Cl 410 #[.pointer (some ⟨d, 0, none⟩), x.S.agg] h R := by
  obtain ⟨o1, o2, o3, o4⟩ := ok
  refine area_Right.walk (area_Area.boxp fun b g e b0 f => Dsk.sectors_ok (H.on f) ⟨_, rfl, _, cell_at b0 rfl, ?_⟩)
  rw [if_pos (decide_eq_true (by show (x.first : Int) ≥ 2; omega))]
  refine ⟨_, cell_at b0 rfl, ?_⟩
  rw [if_pos (decide_eq_true (by show (x.first : Int) < n; omega))]
  refine ⟨_, cell_at b0 rfl, ?_⟩
  rw [if_pos (decide_eq_true (by show (x.count : Int) ≥ 1; omega))]
  refine ⟨_, cell_at b0 rfl, _, cell_at b0 rfl, ?_⟩
  show R (.bool (decide ((x.count : Int) ≤ IntKind.wrap .i64 ((n : Int) - x.first)))) g
  rw [wrap_id (by omega) (by omega), decide_eq_true (by omega)]
  exact hk g f
theorem room_ok (h1 : 1 ≤ x.count) (h2 : x.count ≤ 4096) (hk : ∀ g, Fr No h g → R (.int .i64 ((x.count * 128 : Nat) : Int)) g) : Cl 295 #[x.S.agg] h R := by
  refine area_Room.walk (area_Area.boxp fun b g e b0 f => JoinP.of fun J hJ => ⟨_, cell_at b0 rfl, ?_⟩)
  rw [if_neg (by simp; show (1 : Int) ≤ x.count; omega)]
  refine ⟨_, cell_at b0 rfl, ?_⟩
  subst hJ
  dsimp only
  rw [if_neg (by simp; show (x.count : Int) ≤ 4096; omega)]
  refine ⟨_, cell_at b0 rfl, ?_⟩
  show R (.int .i64 (IntKind.wrap .i64 ((x.count : Int) * 128))) g
  rw [wrap_id (by omega) (by omega)]
  exact hk g f
theorem halves_call (H : Dsk.Dk h d X n s) (h4 : 4 ≤ n) (n5 : n ≤ 4096) (hk : ∀ g, Fr No h g → R (.tuple #[(halves n).1.S.agg, (halves n).2.S.agg, .int .i64 0]) g) : Cl 294 #[.pointer (some ⟨d, 0, none⟩)] h R := by
  refine area_Halves.walk (newP_of (newP_of ?_))
  have f1 : Fr No h (h.push (.cells area_Area.S.z.arr 334)) := Fr.push _ _
  generalize hg1 : h.push (.cells area_Area.S.z.arr 334) = g1 at f1 ⊢
  have a1 : area_Area.atp g1 h.size area_Area.S.z := hg1 ▸ push_new
  have f2 : Fr No g1 (g1.push (.cells area_Area.S.z.arr 334)) := Fr.push _ _
  generalize hg2 : g1.push (.cells area_Area.S.z.arr 334) = g2 at f2 ⊢
  have a2 : area_Area.atp g2 g1.size area_Area.S.z := hg2 ▸ push_new
  have ne : h.size < g1.size := by rw [← hg1]; simp
  have H2 := H.on (f1.tt f2)
  refine Dsk.sectors_ok H2 ⟨_, rfl, ?_⟩
  rw [if_neg (by simp; omega)]
  refine Dsk.sectors_ok H2 ⟨_, rfl, ?_⟩
  have e1 : IntKind.wrap .i64 (Int.tdiv (IntKind.wrap .i64 ((n : Int) - 2)) 2) = (((n - 2) / 2 : Nat) : Int) := by
    rw [wrap_id (n := (n : Int) - 2) (by omega) (by omega), show (n : Int) - 2 = ((n - 2 : Nat) : Int) by omega, show Int.tdiv ((n - 2 : Nat) : Int) 2 = (((n - 2) / 2 : Nat) : Int) from rfl, wrap_id (by omega) (by omega)]
  rw [e1, wrap_id (n := 2 + (((n - 2) / 2 : Nat) : Int)) (by omega) (by omega)]
  refine area_Area.setp (x := (halves n).1.S) (f2.get a1 id) fun g3 a3 f3 z3 => ?_
  refine area_Area.setp (x := (halves n).2.S) (f3.get a2 (by omega)) fun g4 a4 f4 z4 => ?_
  refine area_Area.ldp (f4.get a3 (by omega)) (area_Area.ldp a4 (hk g4 ?_))
  have u1 := f2.1
  exact ((f1.tt f2).fresh (S := fun y => y = h.size) f3 (fun y hy => by omega)).fresh f4 fun y hy => by omega
theorem ask_ok {a m : Nat} (H : Dsk.Dk h d X n s) (ok : x.ok n) (n5 : n ≤ 4096) (hr : a + m ≤ x.count * 128) (hk : ∀ g, Fr No h g → R (.int .i64 0) g) :
    Cl 350 #[.pointer (some ⟨d, 0, none⟩), x.S.agg, .int .i64 (a : Int), .int .i64 (m : Int)] h R := by
  have o := ok
  obtain ⟨o1, o2, o3, o4⟩ := o
  refine area_ask.walk (area_Area.boxp fun b h1 e1 b0 f1 => area_Area.ldp b0 (right_ok (H.on f1) ok n5 fun h2 f2 => ⟨_, rfl, ?_⟩))
  rw [if_neg (by decide)]
  refine JoinP.of fun J hJ => ?_
  rw [if_neg (by simp), if_neg (by simp)]
  have b2 := f2.get b0 id
  refine area_Area.ldp b2 (room_ok o3 (by omega) fun h3 f3 => ⟨_, rfl, ?_⟩)
  rw [if_neg (by simp; omega)]
  refine area_Area.ldp (f3.get b2 id) (room_ok o3 (by omega) fun h4 f4 => ⟨_, rfl, ?_⟩)
  rw [wrap_id (by omega) (by omega), decide_eq_false (by omega)]
  subst hJ
  dsimp only
  rw [if_neg (by decide)]
  exact hk h4 (((f1.tt f2).tt f3).tt f4)

end Area
end
end Go.Proofs.YticlajoleibdnaaGreatDoor
namespace Go.Den
end Go.Den
namespace Go.Proofs.YticlajoleibdnaaGreatDoor
open Go.Den
namespace Jnl
open Dsk Area Sup
variable {h h0 h' : Heap} {R : Value → Heap → Prop} {d n j : Nat} {X XD : Ft} {s : DS}
structure JN where
  gen : Nat
  area : Nat
  len : Nat
  next : List UInt8
  half : Nat
  at_ : Nat
  plen : Nat
  pdone : Nat
  stage : Nat
  all : Nat
  done : Nat
def room (n : Nat) : Nat := (n - 2) / 2 * 128
def hv (n k : Nat) : AR := if k = 0 then (halves n).1 else (halves n).2
def JN.tl (x : JN) : Nat × Nat := if x.stage = 0 then (x.area, x.len + x.next.length) else (x.half, x.plen + x.next.length)
structure JN.ok (x : JN) (n : Nat) : Prop where
  n4 : 4 ≤ n
  n5 : n ≤ 4096
  g1 : 1 ≤ x.gen
  ar : x.area ≤ 1
  hf : x.half ≤ 1
  le : x.len ≤ room n
  pl : x.plen ≤ room n
  nx : x.tl.2 ≤ room n
  st : x.stage ≤ 3
abbrev JN.S (x : JN) (d n : Nat) (p : Option Addr) (c : Nat) : journal_Journal.S := ⟨some ⟨d, 0, none⟩, ((halves n).1.first : Int), ((halves n).1.count : Int), ((halves n).2.first : Int), ((halves n).2.count : Int), x.gen, x.area, x.len, p, x.next.length, c, x.half, x.at_, x.plen, x.pdone, x.stage, x.all, x.done⟩
structure JnA (h : Heap) (j d : Nat) (X XD : Ft) (n : Nat) (x : JN) (s : DS) (p : Option Addr) (c : Nat) : Prop where
  blk : journal_Journal.atp h j (x.S d n p c)
  own : Own h p x.next.length c 1 (bc x.next)
  dk : Dk h d XD n s
  ok : x.ok n
  m : ∀ y, X.M y ↔ y = j ∨ inBlk p y ∨ XD.M y
  dd : ∀ y, ¬ X.D y
  j1 : ¬ inBlk p j
  j2 : ¬ XD.M j
  jp : ∀ y, inBlk p y → ¬ XD.M y
def Jn (h : Heap) (j d : Nat) (X : Ft) (n : Nat) (x : JN) (s : DS) : Prop := ∃ XD p c, JnA h j d X XD n x s p c
theorem Jn.lt {x : JN} (H : Jn h j d X n x s) (y : Nat) (hy : X.M y) : y < h.size := by
  obtain ⟨XD, p, c, A⟩ := H
  rcases (A.m y).1 hy with rfl | q | q
  · exact (Array.getElem?_eq_some_iff.1 A.blk).1
  · exact A.own.blk_lt q
  · exact A.dk.lt y q
theorem Jn.frame {x : JN} {Q : Nat → Prop} (H : Jn h j d X n x s) (f : Fr Q h h') (hq : ∀ y, X.M y → ¬ Q y) : Jn h' j d X n x s := by
  obtain ⟨XD, p, c, A⟩ := H
  exact ⟨XD, p, c, f.get A.blk (hq j ((A.m j).2 (.inl rfl))), A.own.frame f (fun y q => hq y ((A.m y).2 (.inr (.inl q)))), A.dk.frame f (fun y q => hq y ((A.m y).2 (.inr (.inr q)))), A.ok, A.m, A.dd, A.j1, A.j2, A.jp⟩
theorem Jn.on {x : JN} (H : Jn h j d X n x s) (f : Fr No h h') : Jn h' j d X n x s := H.frame f (fun _ _ => id)
theorem Jn.ok {x : JN} (H : Jn h j d X n x s) : x.ok n := by obtain ⟨_, _, _, A⟩ := H; exact A.ok
theorem Jn.nd {x : JN} (H : Jn h j d X n x s) (y : Nat) : ¬ X.D y := by obtain ⟨_, _, _, A⟩ := H; exact A.dd y
theorem JnA.put {G : Prop} {x x1 : JN} {s1 : DS} {p p1 : Option Addr} {c c1 : Nat} {XD1 : Ft} {h1 h2 : Heap} (A : JnA h j d X XD n x s p c) (D1 : Dk h1 d XD1 n s1) (st : StepF XD h XD1 h1) (f : Fr (fun y => y = j) h1 h2)
    (b2 : journal_Journal.atp h2 j (x1.S d n p1 c1)) (hp : (p1 = p ∧ c1 = c ∧ x1.next = x.next) ∨ (p1 = none ∧ c1 = 0 ∧ x1.next = [])) (ok : x1.ok n) (hk : ∀ X', Jn h2 j d X' n x1 s1 → StepF X h X' h2 → G) : G := by
  have jl : j < h.size := (Array.getElem?_eq_some_iff.1 A.blk).1
  have j2 : ¬ XD1.M j := fun q => st.apartM (Q := fun y => y = j) (fun c hc e => A.j2 (e ▸ hc)) (fun c e => e ▸ jl) j q rfl
  have D2 := D1.frame f (fun y hy e => j2 (e ▸ hy))
  have pl : ∀ y, inBlk p y → y < h.size := fun y hy => A.own.blk_lt hy
  have jp : ∀ y, inBlk p y → ¬ XD1.M y := fun y hy q => st.apartM (Q := fun y => inBlk p y) (fun c hc e => A.jp c e hc) pl y q hy
  have o2 : Own h2 p x.next.length c 1 (bc x.next) := (A.own.frame st.fr (fun y hy q => A.jp y hy q)).frame f (fun y hy e => A.j1 (e ▸ hy))
  have fr : Fr X.M h h2 := st.fr.trans f (fun y _ hy => (A.m y).2 (.inr (.inr hy))) (fun y _ e => (A.m y).2 (.inl e))
  refine hk ⟨fun y => y = j ∨ inBlk p1 y ∨ XD1.M y, fun _ => False⟩ ⟨XD1, p1, c1, b2, ?_, D2, ok, fun y => Iff.rfl, fun _ => id, ?_, j2, ?_⟩ ⟨fr, ?_, fun y hy => hy.elim, fun y hy => (A.dd y hy).elim⟩
  · rcases hp with ⟨rfl, rfl, e⟩ | ⟨rfl, rfl, e⟩
    · rw [e]; exact o2
    · rw [e]; exact .nil rfl rfl rfl rfl
  · rcases hp with ⟨rfl, rfl, e⟩ | ⟨rfl, rfl, e⟩
    · exact A.j1
    · rintro ⟨a, e, _⟩; cases e
  · rcases hp with ⟨rfl, rfl, e⟩ | ⟨rfl, rfl, e⟩
    · exact jp
    · rintro y ⟨a, e, _⟩; cases e
  · rintro y (q | q | q)
    · exact .inl ((A.m y).2 (.inl q))
    · rcases hp with ⟨rfl, rfl, e⟩ | ⟨rfl, rfl, e⟩
      · exact .inl ((A.m y).2 (.inr (.inl q)))
      · obtain ⟨a, e, _⟩ := q; cases e
    · exact (st.newM y q).imp (fun q => (A.m y).2 (.inr (.inr q))) id
def jn0 : JN := ⟨1, 0, 0, [], 0, 0, 0, 0, 0, 0, 0⟩
theorem jn0_ok (h4 : 4 ≤ n) (h5 : n ≤ 4096) : jn0.ok n := ⟨h4, h5, Nat.le_refl _, by decide, by decide, Nat.zero_le _, Nat.zero_le _, Nat.zero_le _, by decide⟩
theorem made_ok (H : Dk h d XD n s) (h4 : 4 ≤ n) (h5 : n ≤ 4096) (hk : ∀ g j X, JnA g j d X XD n jn0 s none 0 → Fr No h g → h.size ≤ j → R (pt j) g) :
    Cl 286 #[.pointer (some ⟨d, 0, none⟩), .agg #[.int .u64 1, .int .i64 0, .int .i64 0]] h R := by
  refine journal_made.walk (s := ⟨1, 0, 0⟩) (super_Super.boxp fun b h1 e1 b0 f1 => halves_call (H.on f1) h4 h5 fun h2 f2 => area_Area.ex (halves n).1.S (area_Area.ex (halves n).2.S ⟨_, rfl, newP_of (newP_of ?_)⟩))
  have f3 : Fr No h2 (h2.push (.cells area_Area.S.z.arr 334)) := Fr.push _ _
  generalize hg3 : h2.push (.cells area_Area.S.z.arr 334) = g3 at f3 ⊢
  have a3 : area_Area.atp g3 h2.size area_Area.S.z := hg3 ▸ push_new
  have f4 : Fr No g3 (g3.push (.cells area_Area.S.z.arr 334)) := Fr.push _ _
  generalize hg4 : g3.push (.cells area_Area.S.z.arr 334) = g4 at f4 ⊢
  have a4 : area_Area.atp g4 g3.size area_Area.S.z := hg4 ▸ push_new
  have ne : h2.size < g3.size := by rw [← hg3]; simp
  have z1 := f1.1
  have z2 := f2.1
  have z4 := f4.1
  have lb : b < h1.size := (Array.getElem?_eq_some_iff.1 b0).1
  refine area_Area.setp (x := (halves n).1.S) (f4.get a3 id) fun g5 a5 f5 z5 => ?_
  refine area_Area.setp (x := (halves n).2.S) (f5.get a4 (by omega)) fun g6 a6 f6 z6 => ?_
  have b6 : super_Super.atp g6 b ⟨1, 0, 0⟩ := f6.get (f5.get (f4.get (f3.get (f2.get b0 id) id) id) (by omega)) (by omega)
  refine area_Area.ldp (f6.get a5 (by omega)) (area_Area.ldp a6 (super_Super.ldp b6 (newP_of ?_)))
  have F6 : Fr No h g6 := (((((f1.tt f2).tt f3).tt f4).fresh (S := fun y => y = h2.size) f5 (fun y hy => by omega)).fresh f6 fun y hy => by omega)
  have f7 : Fr No g6 (g6.push (.cells ((jn0).S d n none 0).arr 341)) := Fr.push _ _
  have u6 := F6.1
  have F7 := F6.tt f7
  have D7 := H.on F7
  refine hk _ g6.size ⟨fun y => y = g6.size ∨ inBlk none y ∨ XD.M y, fun _ => False⟩ ⟨push_new, .nil rfl rfl rfl rfl, D7, jn0_ok h4 h5, fun y => Iff.rfl, fun _ => id, ?_, ?_, ?_⟩ F7 u6
  · rintro ⟨a, e, _⟩; cases e
  · intro q; have := H.lt _ q; omega
  · rintro y ⟨a, e, _⟩; cases e
theorem Format_ok (H : Dk h d XD n s) (h4 : 4 ≤ n) (h5 : n ≤ 4096) (hw : s.W.length ≤ 1000)
    (hk : ∀ g j X, Jn g j d X n jn0 (s.put 1 (supB ⟨1, 0, 0⟩)).sync → StepF XD h X g → R (.tuple #[pt j, .int .i64 0]) g) : Cl 216 #[.pointer (some ⟨d, 0, none⟩)] h R := by
  refine journal_Format.walk (sectors_ok H ⟨_, rfl, ?_⟩)
  rw [if_neg (by simp; omega)]
  refine made_ok H h4 h5 fun h1 j X A f1 lj => ⟨_, rfl, onSome_some.2 ?_⟩
  have jl : j < h1.size := (Array.getElem?_eq_some_iff.1 A.blk).1
  refine super_Super.ldAp (x := ⟨1, 0, 0⟩) ⟨cell_at A.blk rfl, cell_at A.blk rfl, cell_at A.blk rfl, trivial⟩ (Put_ok (x := ⟨1, 0, 0⟩) A.dk (by omega) ⟨by decide, by decide, by decide, by decide⟩ (by omega) fun h2 X2 D2 st2 => ⟨_, rfl, ?_⟩)
  rw [if_neg (by decide)]
  refine dsync_ok D2 (by omega) (by show (s.W ++ _).length ≤ _; simp; omega) fun h3 X3 D3 st3 => ⟨_, rfl, ?_⟩
  have st := st2.trans st3
  refine A.put D3 st (Fr.refl _ h3) (st.fr.get A.blk A.j2) (.inl ⟨rfl, rfl, rfl⟩) A.ok fun X' J' st' => hk h3 j X' J' ?_
  have u1 := f1.1
  refine ⟨f1.no st.fr, fun y hy => ?_, fun y hy => (J'.nd y hy).elim, fun y hy => (H.nd y hy).elim⟩
  rcases st'.newM y hy with q | q
  · rcases (A.m y).1 q with rfl | ⟨a, e, _⟩ | q
    · exact .inr lj
    · cases e
    · exact .inl q
  · exact .inr (by omega)
theorem amade {p : Option Addr} {c : Nat} {x : JN} (A : JnA h j d X XD n x s p c) (hk : R (.bool true) h) : Cl 226 #[.pointer (some ⟨j, 0, none⟩)] h R :=
  journal_Journal_made.walk ⟨_, cell_at A.blk rfl, hk⟩
theorem Done_ok {x : JN} (H : Jn h j d X n x s) (hk : R (.int .i64 x.done) h) : Cl 180 #[.pointer (some ⟨j, 0, none⟩)] h R := by
  obtain ⟨XD, p, c, A⟩ := H
  refine journal_Journal_Done.walk (amade A ⟨_, rfl, ?_⟩)
  rw [if_neg (by decide)]
  exact ⟨_, cell_at A.blk rfl, hk⟩
theorem area_ld {p : Option Addr} {c k : Nat} {x : JN} {K : area_Area.S → Prop} (A : JnA h j d X XD n x s p c) (hk1 : k ≤ 1) (hk : K (hv n k).S) : area_Area.LDp h ((⟨j, 1, none⟩ : Addr).add (Int.toNat (k : Int) * 2)) K := by
  unfold hv at hk
  by_cases c0 : k = 0
  · subst c0
    exact area_Area.ldAp (x := (halves n).1.S) ⟨cell_at A.blk rfl, cell_at A.blk rfl, trivial⟩ hk
  · obtain rfl : k = 1 := by omega
    exact area_Area.ldAp (x := (halves n).2.S) ⟨cell_at A.blk rfl, cell_at A.blk rfl, trivial⟩ hk
theorem hv_ok (h4 : 4 ≤ n) (k : Nat) : (hv n k).ok n ∧ (hv n k).count * 128 = room n := by
  unfold hv
  have := halves_ok h4
  split
  · exact ⟨this.1, rfl⟩
  · exact ⟨this.2, rfl⟩
def JN.fits (x : JN) (n m : Nat) : Prop := 1 ≤ m ∧ m ≤ 2000 ∧ m + 2 + x.tl.2 ≤ room n
end Jnl
end Go.Proofs.YticlajoleibdnaaGreatDoor
namespace Go.Proofs.YticlajoleibdnaaGreatDoor
open Go.Den
open IntKind (wrap)
open Int (toNat)
section
variable {h:Heap} {R:TyP}
variable {b:Nat} {s:ByteArray} {e:Int}
abbrev desk_ask.atp (h : Heap) (b : Nat) (x : desk_ask.S) : Prop := h[b]? = some (.cells x.arr 72 (0, 0))
theorem desk_ask.ex {K : desk_ask.S → Prop} (x : desk_ask.S) (hk : K x) : desk_ask.EX K := ⟨_, _, _, _, _, _, _, _, _, _, hk⟩
theorem desk_ask.ldAp {a : Addr} {x : desk_ask.S} {K : desk_ask.S → Prop} (hb : heldL a x.l 0 h) (hk : K x) : desk_ask.LDp h a K := by
  obtain ⟨q0, q1, q2, q3, _⟩ := hb
  rw [add_zero_addr] at q0
  exact ⟨_, q0, _, _, _, q1, _, _, _, q2, _, _, _, q3, hk⟩
theorem desk_ask.heldp {x : desk_ask.S} (hb : desk_ask.atp h b x) : heldL ⟨b, 0, none⟩ x.l 0 h :=
  heldL_blk hb (fun j v hj => by rw [Nat.zero_add]; simpa using hj)
theorem desk_ask.ldp {x : desk_ask.S} {K : desk_ask.S → Prop} (hb : desk_ask.atp h b x) (hk : K x) : desk_ask.LDp h ⟨b, 0, none⟩ K := ldAp (heldp hb) hk
theorem desk_ask.newp {x : desk_ask.S} {K : Nat → Heap → Prop} (hk : ∀ b h', b = h.size → desk_ask.atp h' b x → Fr No h h' → K b h') : NewP h (.cells desk_ask.S.z.arr 72) fun b h_0 => desk_ask.STp h_0 ⟨b, 0, none⟩ x (K b) :=
  new_full (vs := x.l) rfl rfl hk
theorem desk_ask.boxp {x : desk_ask.S} {K : Nat → Heap → Prop} (hk : ∀ b h', b = h.size → desk_ask.atp h' b x → Fr No h h' → K b h') : NewP h (.cells x.arr 72) fun b h_0 => K b h_0 :=
  newP_of (hk _ _ rfl push_new (Fr.push _ _))
theorem desk_ask.setp {y x : desk_ask.S} {K : Heap → Prop} (a0 : desk_ask.atp h b y) (hk : ∀ h', desk_ask.atp h' b x → Fr (fun y => y = b) h h' → h'.size = h.size → K h') : desk_ask.STp h ⟨b, 0, none⟩ x K :=
  (show storeL ⟨b, 0, none⟩ x.l 0 h K from storeL_full a0 rfl rfl fun h1 d1 d2 d3 => hk h1 d1 (Fr.of_eq d2 fun c hc => d3 c hc) d2)
variable {K:desk_ask.S→Prop} {x:desk_ask.S}
theorem desk_self.walk  (hv :
 NewP h (.cells eid_Eid.S.z.arr 64) fun b h_1 =>
 eid_Eid.STp h_1 ⟨b, 0, none⟩ ⟨true, 7, 0, (⟨#[]⟩ : ByteArray), (⟨#[]⟩ : ByteArray)⟩ fun h_2 =>
 eid_Eid.LDp h_2 ⟨b, 0, none⟩ fun r0 =>
 R (r0.agg) h_2) : Cl 30 #[] h R :=
 callsN [] hv
theorem desk_kinds.walk {verb : ByteArray} (hv :
 JoinP (fun (t5 : Bool) h_1 =>
 ite t5
 (  R (.tuple #[.string (⟨#[]⟩ : ByteArray), .bool true]) h_1)
 (  JoinP (fun (t13 : Bool) h_2 =>
 ite t13
 (  R (.tuple #[.string (⟨#[110]⟩ : ByteArray), .bool true]) h_2)
 (  ite (verb.toList == (⟨#[114, 117, 110]⟩ : ByteArray).toList)
 (  R (.tuple #[.string (⟨#[110, 110]⟩ : ByteArray), .bool true]) h_2)
 (  ite (verb.toList == (⟨#[102, 101, 101, 100]⟩ : ByteArray).toList)
 (  R (.tuple #[.string (⟨#[110, 98]⟩ : ByteArray), .bool true]) h_2)
 (  ite (verb.toList == (⟨#[97, 114, 114, 105, 118, 101]⟩ : ByteArray).toList)
 (  R (.tuple #[.string (⟨#[98]⟩ : ByteArray), .bool true]) h_2)
 (  ite (verb.toList == (⟨#[99, 114, 97, 115, 104]⟩ : ByteArray).toList)
 (  R (.tuple #[.string (⟨#[107]⟩ : ByteArray), .bool true]) h_2)
 (  R (.tuple #[.string (⟨#[]⟩ : ByteArray), .bool false]) h_2))))))
 (fun J_1 =>
 ite (verb.toList == (⟨#[99, 108, 111, 115, 101]⟩ : ByteArray).toList)
 (  J_1 (verb.toList == (⟨#[99, 108, 111, 115, 101]⟩ : ByteArray).toList) h_1)
 (  JoinP (fun (t13_1 : Bool) h_3 =>
 J_1 t13_1 h_3)
 (fun J_2 =>
 ite (verb.toList == (⟨#[111, 117, 116]⟩ : ByteArray).toList)
 (  J_2 (verb.toList == (⟨#[111, 117, 116]⟩ : ByteArray).toList) h_1)
 (  JoinP (fun (t13_2 : Bool) h_4 =>
 J_2 t13_2 h_4)
 (fun J_3 =>
 ite (verb.toList == (⟨#[116, 105, 99, 107]⟩ : ByteArray).toList)
 (  J_3 (verb.toList == (⟨#[116, 105, 99, 107]⟩ : ByteArray).toList) h_1)
 (  J_3 (verb.toList == (⟨#[119, 97, 105, 116, 115]⟩ : ByteArray).toList) h_1))))))))
 (fun J =>
 ite (verb.toList == (⟨#[99, 111, 110, 110, 101, 99, 116]⟩ : ByteArray).toList)
 (  J (verb.toList == (⟨#[99, 111, 110, 110, 101, 99, 116]⟩ : ByteArray).toList) h)
 (  JoinP (fun (t5_1 : Bool) h_5 =>
 J t5_1 h_5)
 (fun J_4 =>
 ite (verb.toList == (⟨#[115, 116, 101, 112]⟩ : ByteArray).toList)
 (  J_4 (verb.toList == (⟨#[115, 116, 101, 112]⟩ : ByteArray).toList) h)
 (  JoinP (fun (t5_2 : Bool) h_6 =>
 J_4 t5_2 h_6)
 (fun J_5 =>
 ite (verb.toList == (⟨#[97, 110, 115, 119, 101, 114]⟩ : ByteArray).toList)
 (  J_5 (verb.toList == (⟨#[97, 110, 115, 119, 101, 114]⟩ : ByteArray).toList) h)
 (  JoinP (fun (t5_3 : Bool) h_7 =>
 J_5 t5_3 h_7)
 (fun J_6 =>
 ite (verb.toList == (⟨#[116, 97, 107, 101]⟩ : ByteArray).toList)
 (  J_6 (verb.toList == (⟨#[116, 97, 107, 101]⟩ : ByteArray).toList) h)
 (  JoinP (fun (t5_4 : Bool) h_8 =>
 J_6 t5_4 h_8)
 (fun J_7 =>
 ite (verb.toList == (⟨#[110, 111, 119]⟩ : ByteArray).toList)
 (  J_7 (verb.toList == (⟨#[110, 111, 119]⟩ : ByteArray).toList) h)
 (  JoinP (fun (t5_5 : Bool) h_9 =>
 J_7 t5_5 h_9)
 (fun J_8 =>
 ite (verb.toList == (⟨#[108, 105, 110, 101, 115]⟩ : ByteArray).toList)
 (  J_8 (verb.toList == (⟨#[108, 105, 110, 101, 115]⟩ : ByteArray).toList) h)
 (  J_8 (verb.toList == (⟨#[106, 117, 100, 103, 101]⟩ : ByteArray).toList) h))))))))))))) : Cl 45 #[.string verb] h R :=
 callsN [(9, .join [(5, sB)]), (13, .join [(5, sB)]), (17, .join [(5, sB)]), (21, .join [(5, sB)]), (25, .join [(5, sB)]), (29, .join [(5, sB)]), (39, .join [(13, sB)]), (43, .join [(13, sB)]), (47, .join [(13, sB)])] hv
theorem desk_number.walk (hv :
 Cl 93 #[.string s, .int .i64 10, .int .i64 64] h fun v h_1 =>
 ∃ t8_0 t8_1, v = .tuple #[.int .u64 t8_0, t8_1] ∧
 ∃ (eq : Bool), Eqz 54 (t8_1) (.nilIface) eq ∧
 ite eq
 (  ite (decide (t8_0 ≤ 2147483648))
 (  Cl 94 #[.int .u64 t8_0, .int .i64 10] h_1 fun v_1 h_2 =>
 ∃ t20, v_1 = .string t20 ∧
 R (.tuple #[.int .u64 t8_0, .bool (t20.toList == s.toList)]) h_2)
 (  R (.tuple #[.int .u64 t8_0, .bool false]) h_1))
 (  R (.tuple #[.int .u64 t8_0, .bool false]) h_1)) : Cl 46 #[.string s] h R :=
 callsN [] hv
theorem desk_bytes.walk (hv :
 ite (s.toList == (⟨#[45]⟩ : ByteArray).toList)
 (  R (.tuple #[.slice none 0 0, .bool true]) h)
 (  ∃ (I : Option Addr → Nat → Nat → Int → Heap → Prop) (mu : Option Addr → Nat → Nat → Int → Heap → Nat), I none 0 0 0 h ∧ ∀ out_p out_l out_c i h_1, I out_p out_l out_c i h_1 →
 ite (decide ((IntKind.wrap .i64 (i + 1)) < ((s.size : Nat) : Int)))
 (  ((0 : Int) ≤ i ∧ i < ((s.size : Nat) : Int)) ∧
 ((0 : Int) ≤ IntKind.wrap .i64 (i + 1) ∧ IntKind.wrap .i64 (i + 1) < ((s.size : Nat) : Int)) ∧
 Cl 95 #[.string (⟨#[48, 49, 50, 51, 52, 53, 54, 55, 56, 57, 97, 98, 99, 100, 101, 102]⟩ : ByteArray), .int .u8 (((s.data.toList.getD (Int.toNat i) 0).toNat : Nat) : Int)] h_1 fun v h_2 =>
 ∃ t20, v = .int .i64 t20 ∧
 Cl 95 #[.string (⟨#[48, 49, 50, 51, 52, 53, 54, 55, 56, 57, 97, 98, 99, 100, 101, 102]⟩ : ByteArray), .int .u8 (((s.data.toList.getD (Int.toNat (IntKind.wrap .i64 (i + 1))) 0).toNat : Nat) : Int)] h_2 fun v_1 h_3 =>
 ∃ t25, v_1 = .int .i64 t25 ∧
 JoinP (fun (t31 : Bool) h_4 =>
 ite t31
 (  R (.tuple #[.slice none 0 0, .bool false]) h_4)
 (  NewP h_4 (.cells #[.int .u8 (IntKind.wrap .u8 (IntKind.wrap .i64 ((BitVec.ofInt (IntKind.bits .i64) (IntKind.wrap .i64 (t20 * 2 ^ min (Int.toNat 4) (IntKind.bits .i64))) ||| BitVec.ofInt (IntKind.bits .i64) t25).toNat : Int)))] 5) fun b h_5 =>
 Dsz (Builtin.append_ #[69, 69] 69 #[.slice out_p out_l out_c, .slice (some ⟨b, 0, none⟩) 1 1]) h_5 fun v_2 h_6 =>
 ∃ t39_p t39_l t39_c, v_2 = .slice t39_p t39_l t39_c ∧
 (I t39_p t39_l t39_c (IntKind.wrap .i64 (i + 2)) h_6 ∧ mu t39_p t39_l t39_c (IntKind.wrap .i64 (i + 2)) h_6 < mu out_p out_l out_c i h_1)))
 (fun J =>
 ite (decide (t20 < 0))
 (  J true h_3)
 (  J (decide (t25 < 0)) h_3)))
 (  ite (!(s.toList == (⟨#[]⟩ : ByteArray).toList))
 (  R (.tuple #[.slice out_p out_l out_c, .bool ((Int.tmod ((s.size : Nat) : Int) 2) == 0)]) h_1)
 (  R (.tuple #[.slice out_p out_l out_c, .bool false]) h_1)))) : Cl 47 #[.string s] h R :=
 callsN [(16, .loop [(4, sS), (5, sI)]), (26, fun _ => .planK (runP 3 0 (runP 4 4 (.op 3 (runP 3 8 .done))))), (29, .join [(31, sB)])] hv
theorem desk_bits.walk (hv :
 ite (s.toList == (⟨#[45]⟩ : ByteArray).toList)
 (  R (.tuple #[.slice none 0 0, .bool true]) h)
 (  ∃ (I : Option Addr → Nat → Nat → Int → Heap → Prop) (mu : Option Addr → Nat → Nat → Int → Heap → Nat), I none 0 0 0 h ∧ ∀ out_p out_l out_c t10 h_1, I out_p out_l out_c t10 h_1 →
 ite (decide (t10 < ((s.size : Nat) : Int)))
 (  JoinP (fun (t22 : Bool) h_2 =>
 ite t22
 (  R (.tuple #[.slice none 0 0, .bool false]) h_2)
 (  ((0 : Int) ≤ t10 ∧ t10 < ((s.size : Nat) : Int)) ∧
 NewP h_2 (.cells #[.bool ((((s.data.toList.getD (Int.toNat t10) 0).toNat : Nat) : Int) == 49)] 4) fun b h_3 =>
 Dsz (Builtin.append_ #[70, 70] 70 #[.slice out_p out_l out_c, .slice (some ⟨b, 0, none⟩) 1 1]) h_3 fun v h_4 =>
 ∃ t29_p t29_l t29_c, v = .slice t29_p t29_l t29_c ∧
 (I t29_p t29_l t29_c (IntKind.wrap .i64 (t10 + 1)) h_4 ∧ mu t29_p t29_l t29_c (IntKind.wrap .i64 (t10 + 1)) h_4 < mu out_p out_l out_c t10 h_1)))
 (fun J =>
 ((0 : Int) ≤ t10 ∧ t10 < ((s.size : Nat) : Int)) ∧
 ite ((((s.data.toList.getD (Int.toNat t10) 0).toNat : Nat) : Int) != 48)
 (  ((0 : Int) ≤ t10 ∧ t10 < ((s.size : Nat) : Int)) ∧
 J ((((s.data.toList.getD (Int.toNat t10) 0).toNat : Nat) : Int) != 49) h_1)
 (  J false h_1)))
 (  ite (!(s.toList == (⟨#[]⟩ : ByteArray).toList))
 (  R (.tuple #[.slice out_p out_l out_c, .bool (decide (((s.size : Nat) : Int) ≤ 64))]) h_1)
 (  R (.tuple #[.slice out_p out_l out_c, .bool false]) h_1)))) : Cl 48 #[.string s] h R :=
 callsN [(16, .loop [(4, sS), (10, sI)]), (29, .join [(22, sB)])] hv
theorem desk_read.walk (hv :
 NewP h (.cells desk_ask.S.z.arr 72) fun b h_1 =>
 Cl 13 #[.string s, .string (⟨#[32]⟩ : ByteArray)] h_1 fun v h_2 =>
 ∃ t12_p t12_l t12_c, v = .slice t12_p t12_l t12_c ∧
 ((0 : Int) ≤ 0 ∧ 0 < ((t12_l : Nat) : Int)) ∧
 onSome t12_p fun a =>
 ∃ t16, hcell h_2 (a.add (Int.toNat 0 * 1)) = some (.string t16) ∧
 Cl 45 #[.string t16] h_2 fun v_1 h_3 =>
 ∃ t17_0 t17_1, v_1 = .tuple #[.string t17_0, .bool t17_1] ∧
 JoinP (fun (t29 : Bool) h_4 =>
 ite t29
 (  desk_ask.STp h_4 ⟨b, 0, none⟩ desk_ask.S.z fun h_5 =>
 desk_ask.LDp h_5 ⟨b, 0, none⟩ fun r0 =>
 R (.tuple #[r0.agg, .bool false]) h_5)
 (  ((0 : Int) ≤ 0 ∧ 0 < ((t12_l : Nat) : Int)) ∧
 onSome t12_p fun a_1 =>
 ∃ t33, hcell h_4 (a_1.add (Int.toNat 0 * 1)) = some (.string t33) ∧
 NewP h_4 (.cells desk_ask.S.z.arr 72) fun b_1 h_6 =>
 desk_ask.STp h_6 ⟨b_1, 0, none⟩ ⟨t33, none, 0, 0, none, 0, 0, none, 0, 0⟩ fun h_7 =>
 ((0 : Int) ≤ 1 ∧ 1 ≤ ((t12_l : Nat) : Int)) ∧
 ∃ (I : Int → Heap → Prop) (mu : Int → Heap → Nat), I 0 h_7 ∧ ∀ t38 h_8, I t38 h_8 →
 ite (decide (t38 < ((t12_l - (Int.toNat 1) : Nat) : Int)))
 (  ((0 : Int) ≤ t38 ∧ t38 < ((t12_l - (Int.toNat 1) : Nat) : Int)) ∧
 onSome (slBase t12_p t12_c (Int.toNat 1) 1) fun a_2 =>
 ∃ t42, hcell h_8 (a_2.add (Int.toNat t38 * 1)) = some (.string t42) ∧
 ((0 : Int) ≤ t38 ∧ t38 < ((t17_0.size : Nat) : Int)) ∧
 JoinP (fun (ok : Bool) h_9 =>
 ite (!ok)
 (  desk_ask.STp h_9 ⟨b, 0, none⟩ desk_ask.S.z fun h_10 =>
 desk_ask.LDp h_10 ⟨b, 0, none⟩ fun r0_1 =>
 R (.tuple #[r0_1.agg, .bool false]) h_10)
 (  (I (IntKind.wrap .i64 (t38 + 1)) h_9 ∧ mu (IntKind.wrap .i64 (t38 + 1)) h_9 < mu t38 h_8)))
 (fun J_1 =>
 JoinP (fun (ok_1 : Bool) h_11 =>
 J_1 ok_1 h_11)
 (fun J_2 =>
 ite ((((t17_0.data.toList.getD (Int.toNat t38) 0).toNat : Nat) : Int) == 110)
 (  Cl 46 #[.string t42] h_8 fun v_2 h_12 =>
 ∃ t56_0 t56_1, v_2 = .tuple #[.int .u64 t56_0, .bool t56_1] ∧
 ∃ t60_p t60_l t60_c, hcell h_12 ⟨b_1, 1, none⟩ = some (.slice t60_p t60_l t60_c) ∧
 NewP h_12 (.cells #[.int .u64 t56_0] 62) fun b_2 h_13 =>
 Dsz (Builtin.append_ #[68, 68] 68 #[.slice t60_p t60_l t60_c, .slice (some ⟨b_2, 0, none⟩) 1 1]) h_13 fun v_3 h_14 =>
 ∃ t63_p t63_l t63_c, v_3 = .slice t63_p t63_l t63_c ∧
 StoreP h_14 ⟨b_1, 1, none⟩ (.slice t63_p t63_l t63_c) fun h_15 =>
 J_2 t56_1 h_15)
 (  JoinP (fun (ok_2 : Bool) h_16 =>
 J_2 ok_2 h_16)
 (fun J_3 =>
 ite ((((t17_0.data.toList.getD (Int.toNat t38) 0).toNat : Nat) : Int) == 98)
 (  Cl 47 #[.string t42] h_8 fun v_4 h_17 =>
 ∃ t69_0_p t69_0_l t69_0_c t69_1, v_4 = .tuple #[.slice t69_0_p t69_0_l t69_0_c, .bool t69_1] ∧
 StoreP h_17 ⟨b_1, 2, none⟩ (.slice t69_0_p t69_0_l t69_0_c) fun h_18 =>
 J_3 t69_1 h_18)
 (  Cl 48 #[.string t42] h_8 fun v_5 h_19 =>
 ∃ t48_0_p t48_0_l t48_0_c t48_1, v_5 = .tuple #[.slice t48_0_p t48_0_l t48_0_c, .bool t48_1] ∧
 StoreP h_19 ⟨b_1, 3, none⟩ (.slice t48_0_p t48_0_l t48_0_c) fun h_20 =>
 J_3 t48_1 h_20))))))
 (  desk_ask.LDp h_8 ⟨b_1, 0, none⟩ fun t77 =>
 desk_ask.STp h_8 ⟨b, 0, none⟩ t77 fun h_21 =>
 desk_ask.LDp h_21 ⟨b, 0, none⟩ fun r0_2 =>
 R (.tuple #[r0_2.agg, .bool true]) h_21)))
 (fun J =>
 ite (!t17_1)
 (  J true h_3)
 (  J (((t12_l : Nat) : Int) != (IntKind.wrap .i64 (((t17_0.size : Nat) : Int) + 1))) h_3))) : Cl 31 #[.string s] h R :=
 callsN [(8, .join [(29, sB)]), (20, .loop [(38, sI)]), (34, .join [(6, sB)]), (37, .join [(6, sB)]), (45, .join [(6, sB)])] hv
theorem desk_tell.walk {l_p : Option Addr} {l_l l_c : Nat} (hv :
 ite (e != 0)
 (  Cl 24 #[.int .i64 e] h fun v h_1 =>
 ∃ t8, v = .string t8 ∧
 (((⟨#[101, 114, 114, 32]⟩ : ByteArray).size + t8.size : Nat) : Int) ≤ IntKind.max .i64 ∧
 R (.string ((⟨#[101, 114, 114, 32]⟩ : ByteArray) ++ t8)) h_1)
 (  NewP h (.cells #[.string (⟨#[111, 107]⟩ : ByteArray)] 9) fun b h_2 =>
 Dsz (Builtin.append_ #[40, 40] 40 #[.slice (some ⟨b, 0, none⟩) 1 1, .slice l_p l_l l_c]) h_2 fun v_1 h_3 =>
 ∃ t12_p t12_l t12_c, v_1 = .slice t12_p t12_l t12_c ∧
 Cl 98 #[.slice t12_p t12_l t12_c, .string (⟨#[32]⟩ : ByteArray)] h_3 fun v_2 h_4 =>
 ∃ t13, v_2 = .string t13 ∧
 R (.string t13) h_4)) : Cl 51 #[.int .i64 e, .slice l_p l_l l_c] h R :=
 callsN [] hv
theorem desk_count.walk {n : Int} (hv :
 Cl 24 #[.int .i64 n] h fun v h_1 =>
 ∃ t7, v = .string t7 ∧
 NewP h_1 (.cells #[.string t7] 9) fun b h_2 =>
 Cl 51 #[.int .i64 e, .slice (some ⟨b, 0, none⟩) 1 1] h_2 fun v_1 h_3 =>
 ∃ t9, v_1 = .string t9 ∧
 R (.string t9) h_3) : Cl 49 #[.int .i64 n, .int .i64 e] h R :=
 callsN [] hv
theorem desk_word.walk {b_p : Option Addr} {b_l b_c : Nat} (hv :
 ite (((b_l : Nat) : Int) == 0)
 (  R (.string (⟨#[45]⟩ : ByteArray)) h)
 (  NewP h (.cells #[.pointer none, .slice none 0 0] 203) fun b h_1 =>
 ∃ (I : Int → Heap → Prop) (mu : Int → Heap → Nat), I 0 h_1 ∧ ∀ t11 h_2, I t11 h_2 →
 ite (decide (t11 < ((b_l : Nat) : Int)))
 (  ((0 : Int) ≤ t11 ∧ t11 < ((b_l : Nat) : Int)) ∧
 onSome b_p fun a =>
 ∃ t14, hcell h_2 (a.add (Int.toNat t11 * 1)) = some (.int .u8 t14) ∧
 ((0 : Int) ≤ Int.fdiv t14 (2 ^ min (Int.toNat 4) (IntKind.bits .u8)) ∧ Int.fdiv t14 (2 ^ min (Int.toNat 4) (IntKind.bits .u8)) < (((⟨#[48, 49, 50, 51, 52, 53, 54, 55, 56, 57, 97, 98, 99, 100, 101, 102]⟩ : ByteArray).size : Nat) : Int)) ∧
 Cl 113 #[.pointer (some ⟨b, 0, none⟩), .int .u8 ((((⟨#[48, 49, 50, 51, 52, 53, 54, 55, 56, 57, 97, 98, 99, 100, 101, 102]⟩ : ByteArray).data.toList.getD (Int.toNat (Int.fdiv t14 (2 ^ min (Int.toNat 4) (IntKind.bits .u8)))) 0).toNat : Nat) : Int)] h_2 fun v h_3 =>
 ∃ t18, v = t18 ∧
 ((0 : Int) ≤ IntKind.wrap .u8 ((BitVec.ofInt (IntKind.bits .u8) t14 &&& BitVec.ofInt (IntKind.bits .u8) 15).toNat : Int) ∧ IntKind.wrap .u8 ((BitVec.ofInt (IntKind.bits .u8) t14 &&& BitVec.ofInt (IntKind.bits .u8) 15).toNat : Int) < (((⟨#[48, 49, 50, 51, 52, 53, 54, 55, 56, 57, 97, 98, 99, 100, 101, 102]⟩ : ByteArray).size : Nat) : Int)) ∧
 Cl 113 #[.pointer (some ⟨b, 0, none⟩), .int .u8 ((((⟨#[48, 49, 50, 51, 52, 53, 54, 55, 56, 57, 97, 98, 99, 100, 101, 102]⟩ : ByteArray).data.toList.getD (Int.toNat (IntKind.wrap .u8 ((BitVec.ofInt (IntKind.bits .u8) t14 &&& BitVec.ofInt (IntKind.bits .u8) 15).toNat : Int))) 0).toNat : Nat) : Int)] h_3 fun v_1 h_4 =>
 ∃ t22, v_1 = t22 ∧
 (I (IntKind.wrap .i64 (t11 + 1)) h_4 ∧ mu (IntKind.wrap .i64 (t11 + 1)) h_4 < mu t11 h_2))
 (  Cl 114 #[.pointer (some ⟨b, 0, none⟩)] h_2 fun v_2 h_5 =>
 ∃ t24, v_2 = .string t24 ∧
 R (.string t24) h_5))) : Cl 59 #[.slice b_p b_l b_c] h R :=
 callsN [(16, .loop [(11, sI)])] hv

end
section
namespace Aud
variable {h h':Heap} {n0:Nat}
def Ut (_ : Heap) : Prop := True
def Ux (_ : Nat) (_ : Heap) : Prop := True
theorem Ut.on (_ : Ut h) (_ : Fr No h h') : Ut h' := trivial
theorem Ux.on (_ : Ux n0 h) (_ : Fr No h h') : Ux n0 h' := trivial
theorem Ut.x (_ : Ut h) (_ : Fr No h h') : Ux h.size h' := trivial

end Aud
end
section
variable {h:Heap} {R:TyP}
variable {l_p s_p:TyO} {l_l l_c b s_l s_c:Nat} {s e_0 e_1:ByteArray}
abbrev audit_Book.atp (h : Heap) (b : Nat) (x : audit_Book.S) : Prop := h[b]? = some (.cells x.arr 36 (0, 0))
theorem audit_Book.ex {K : audit_Book.S → Prop} (x : audit_Book.S) (hk : K x) : audit_Book.EX K := ⟨_, _, _, _, _, _, _, _, hk⟩
theorem audit_Book.boxp {x : audit_Book.S} {K : Nat → Heap → Prop} (hk : ∀ b h', b = h.size → audit_Book.atp h' b x → Fr No h h' → K b h') : NewP h (.cells x.arr 36) fun b h_0 => K b h_0 :=
  newP_of (hk _ _ rfl push_new (Fr.push _ _))
theorem audit_New.walk  (hv :
 NewP h (.cells #[.bool true, .bool false, .int .i64 0, .int .i64 0, .int .i64 0, .int .i64 0, .int .i64 0, .int .i64 0] 36) fun b h_1 =>
 R (.pointer (some ⟨b, 0, none⟩)) h_1) : Cl 8 #[] h R :=
 callsN [] hv
theorem audit_ints.walk (hv :
 ∃ (I : Option Addr → Nat → Nat → Int → Heap → Prop) (mu : Option Addr → Nat → Nat → Int → Heap → Nat), I none 0 0 0 h ∧ ∀ out_p out_l out_c t11 h_1, I out_p out_l out_c t11 h_1 →
 ite (decide (t11 < ((l_l : Nat) : Int)))
 (  ((0 : Int) ≤ t11 ∧ t11 < ((l_l : Nat) : Int)) ∧
 onSome l_p fun a =>
 ∃ t14, hcell h_1 (a.add (Int.toNat t11 * 1)) = some (.string t14) ∧
 Cl 23 #[.string t14] h_1 fun v h_2 =>
 ∃ t17_0 t17_1, v = .tuple #[.int .i64 t17_0, t17_1] ∧
 JoinP (fun (t36 : Bool) h_3 =>
 ite t36
 (  R (.tuple #[.slice none 0 0, .bool false]) h_3)
 (  NewP h_3 (.cells #[.int .i64 t17_0] 3) fun b h_4 =>
 Dsz (Builtin.append_ #[49, 49] 49 #[.slice out_p out_l out_c, .slice (some ⟨b, 0, none⟩) 1 1]) h_4 fun v_1 h_5 =>
 ∃ t40_p t40_l t40_c, v_1 = .slice t40_p t40_l t40_c ∧
 (I t40_p t40_l t40_c (IntKind.wrap .i64 (t11 + 1)) h_5 ∧ mu t40_p t40_l t40_c (IntKind.wrap .i64 (t11 + 1)) h_5 < mu out_p out_l out_c t11 h_1)))
 (fun J =>
 ∃ (eq : Bool), Eqz 54 (t17_1) (.nilIface) eq ∧
 ite (!eq)
 (  J true h_2)
 (  ite (decide (t17_0 < 0))
 (  J true h_2)
 (  Cl 24 #[.int .i64 t17_0] h_2 fun v_2 h_6 =>
 ∃ t28, v_2 = .string t28 ∧
 ite (!(t28.toList == t14.toList))
 (  J true h_6)
 (  J (decide (((t14.size : Nat) : Int) > 18)) h_6)))))
 (  R (.tuple #[.slice out_p out_l out_c, .bool true]) h_1)) : Cl 20 #[.slice l_p l_l l_c] h R :=
 callsN [(8, .loop [(4, sS), (11, sI)]), (23, .join [(36, sB)])] hv
theorem audit_isWord.walk (hv :
 ite (s.toList == (⟨#[45]⟩ : ByteArray).toList)
 (  R (.bool true) h)
 (  ite (!(s.toList == (⟨#[]⟩ : ByteArray).toList))
 (  ite ((Int.tmod ((s.size : Nat) : Int) 2) == 0)
 (  Cl 39 #[.string s, .string (⟨#[48, 49, 50, 51, 52, 53, 54, 55, 56, 57, 97, 98, 99, 100, 101, 102]⟩ : ByteArray)] h fun v h_1 =>
 ∃ t16, v = .string t16 ∧
 R (.bool (t16.toList == (⟨#[]⟩ : ByteArray).toList)) h_1)
 (  R (.bool false) h))
 (  R (.bool false) h))) : Cl 25 #[.string s] h R :=
 callsN [] hv
theorem audit_isLine.walk (hv :
 Cl 17 #[] h fun v h_1 =>
 ∃ t6, v = .pointer t6 ∧
 Cl 18 #[.pointer t6, .string s] h_1 fun v_1 h_2 =>
 ∃ t8_0 t8_1, v_1 = .tuple #[.string t8_0, .int .i64 t8_1] ∧
 R (.bool (t8_1 == 0)) h_2) : Cl 12 #[.string s] h R :=
 callsN [] hv
theorem audit_sure.walk {verb : ByteArray} (hv :
 JoinP (fun (t4 : Bool) h_1 =>
 ite t4
 (  R (.bool true) h_1)
 (  R (.bool false) h_1))
 (fun J =>
 ite (verb.toList == (⟨#[97, 110, 115, 119, 101, 114]⟩ : ByteArray).toList)
 (  J (verb.toList == (⟨#[97, 110, 115, 119, 101, 114]⟩ : ByteArray).toList) h)
 (  JoinP (fun (t4_1 : Bool) h_2 =>
 J t4_1 h_2)
 (fun J_1 =>
 ite (verb.toList == (⟨#[119, 97, 105, 116, 115]⟩ : ByteArray).toList)
 (  J_1 (verb.toList == (⟨#[119, 97, 105, 116, 115]⟩ : ByteArray).toList) h)
 (  JoinP (fun (t4_2 : Bool) h_3 =>
 J_1 t4_2 h_3)
 (fun J_2 =>
 ite (verb.toList == (⟨#[110, 111, 119]⟩ : ByteArray).toList)
 (  J_2 (verb.toList == (⟨#[110, 111, 119]⟩ : ByteArray).toList) h)
 (  JoinP (fun (t4_3 : Bool) h_4 =>
 J_2 t4_3 h_4)
 (fun J_3 =>
 ite (verb.toList == (⟨#[108, 105, 110, 101, 115]⟩ : ByteArray).toList)
 (  J_3 (verb.toList == (⟨#[108, 105, 110, 101, 115]⟩ : ByteArray).toList) h)
 (  J_3 (verb.toList == (⟨#[106, 117, 100, 103, 101]⟩ : ByteArray).toList) h))))))))) : Cl 15 #[.string verb] h R :=
 callsN [(9, .join [(4, sB)]), (13, .join [(4, sB)]), (17, .join [(4, sB)]), (21, .join [(4, sB)])] hv
theorem audit_one.walk {most : Int} (hv :
 Cl 20 #[.slice l_p l_l l_c] h fun v h_1 =>
 ∃ t9_0_p t9_0_l t9_0_c t9_1, v = .tuple #[.slice t9_0_p t9_0_l t9_0_c, .bool t9_1] ∧
 ite t9_1
 (  ite (((t9_0_l : Nat) : Int) == 1)
 (  ((0 : Int) ≤ 0 ∧ 0 < ((t9_0_l : Nat) : Int)) ∧
 onSome t9_0_p fun a =>
 ∃ t21, hcell h_1 (a.add (Int.toNat 0 * 1)) = some (.int .i64 t21) ∧
 R (.bool (decide (t21 ≤ most))) h_1)
 (  R (.bool false) h_1))
 (  R (.bool false) h_1)) : Cl 14 #[.slice l_p l_l l_c, .int .i64 most] h R :=
 callsN [] hv
theorem audit_Book_connect.walk (hv :
 ∃ t8, hcell h ⟨b, 4, none⟩ = some (.int .i64 t8) ∧
 StoreP h ⟨b, 4, none⟩ (.int .i64 (IntKind.wrap .i64 (t8 + 1))) fun h_1 =>
 ∃ t16, hcell h_1 ⟨b, 4, none⟩ = some (.int .i64 t16) ∧
 Cl 14 #[.slice l_p l_l l_c, .int .i64 t16] h_1 fun v h_2 =>
 ∃ t17, v = .bool t17 ∧
 ite t17
 (  ((0 : Int) ≤ 0 ∧ 0 < ((l_l : Nat) : Int)) ∧
 onSome l_p fun a =>
 ∃ t21, hcell h_2 (a.add (Int.toNat 0 * 1)) = some (.string t21) ∧
 ∃ t25, hcell h_2 ⟨b, 4, none⟩ = some (.int .i64 t25) ∧
 Cl 24 #[.int .i64 t25] h_2 fun v_1 h_3 =>
 ∃ t26, v_1 = .string t26 ∧
 Kp h_2 h_3 [(some (a.add (Int.toNat 0 * 1)))] ∧
 R (.bool (t21.toList == t26.toList)) h_3)
 (  R (.bool false) h_2)) : Cl 21 #[.pointer (some ⟨b, 0, none⟩), .slice l_p l_l l_c] h R :=
 callsN [(5, fun _ => .planK (runP 18 0 .done))] hv
theorem audit_Book_crash.walk (hv :
 StoreP h ⟨b, 4, none⟩ (.int .i64 0) fun h_1 =>
 Cl 20 #[.slice l_p l_l l_c] h_1 fun v h_2 =>
 ∃ t12_0_p t12_0_l t12_0_c t12_1, v = .tuple #[.slice t12_0_p t12_0_l t12_0_c, .bool t12_1] ∧
 ite t12_1
 (  R (.bool (((l_l : Nat) : Int) == 1)) h_2)
 (  R (.bool false) h_2)) : Cl 22 #[.pointer (some ⟨b, 0, none⟩), .slice l_p l_l l_c] h R :=
 callsN [] hv
theorem audit_Book_lines.walk (hv :
 Cl 20 #[.slice l_p l_l l_c] h fun v h_1 =>
 ∃ t9_0_p t9_0_l t9_0_c t9_1, v = .tuple #[.slice t9_0_p t9_0_l t9_0_c, .bool t9_1] ∧
 JoinP (fun (t58 : Bool) h_2 =>
 ite t58
 (  R (.bool false) h_2)
 (  3 ≤ t9_0_l ∧
 onSome t9_0_p fun a =>
 ∃ t62_0, hcell h_2 a = some (.int .i64 t62_0) ∧ ∃ t62_1, hcell h_2 (a.add 1) = some (.int .i64 t62_1) ∧ ∃ t62_2, hcell h_2 (a.add 2) = some (.int .i64 t62_2) ∧
 StoreP h_2 ⟨b, 5, none⟩ (.int .i64 t62_0) fun h_3 =>
 StoreP h_3 ⟨b, 6, none⟩ (.int .i64 t62_1) fun h_4 =>
 StoreP h_4 ⟨b, 7, none⟩ (.int .i64 t62_2) fun h_5 =>
 R (.bool true) h_5))
 (fun J =>
 ite (!t9_1)
 (  J true h_1)
 (  ite (((t9_0_l : Nat) : Int) != 3)
 (  J true h_1)
 (  ((0 : Int) ≤ 1 ∧ 1 < ((t9_0_l : Nat) : Int)) ∧
 onSome t9_0_p fun a_1 =>
 ∃ t22, hcell h_1 (a_1.add (Int.toNat 1 * 1)) = some (.int .i64 t22) ∧
 ((0 : Int) ≤ 0 ∧ 0 < ((t9_0_l : Nat) : Int)) ∧
 onSome t9_0_p fun a_2 =>
 ∃ t25, hcell h_1 (a_2.add (Int.toNat 0 * 1)) = some (.int .i64 t25) ∧
 ite (decide (t22 > t25))
 (  J true h_1)
 (  ((0 : Int) ≤ 2 ∧ 2 < ((t9_0_l : Nat) : Int)) ∧
 onSome t9_0_p fun a_3 =>
 ∃ t31, hcell h_1 (a_3.add (Int.toNat 2 * 1)) = some (.int .i64 t31) ∧
 ((0 : Int) ≤ 1 ∧ 1 < ((t9_0_l : Nat) : Int)) ∧
 onSome t9_0_p fun a_4 =>
 ∃ t34, hcell h_1 (a_4.add (Int.toNat 1 * 1)) = some (.int .i64 t34) ∧
 ite (decide (t31 > t34))
 (  J true h_1)
 (  ((0 : Int) ≤ 0 ∧ 0 < ((t9_0_l : Nat) : Int)) ∧
 onSome t9_0_p fun a_5 =>
 ∃ t40, hcell h_1 (a_5.add (Int.toNat 0 * 1)) = some (.int .i64 t40) ∧
 ((0 : Int) ≤ 0 ∧ 0 < ((3 : Nat) : Int)) ∧
 ∃ t45, hcell h_1 ((⟨b, 5, none⟩ : Addr).add (Int.toNat 0 * 1)) = some (.int .i64 t45) ∧
 ite (decide (t40 < t45))
 (  J true h_1)
 (  ((0 : Int) ≤ 2 ∧ 2 < ((t9_0_l : Nat) : Int)) ∧
 onSome t9_0_p fun a_6 =>
 ∃ t51, hcell h_1 (a_6.add (Int.toNat 2 * 1)) = some (.int .i64 t51) ∧
 ((0 : Int) ≤ 2 ∧ 2 < ((3 : Nat) : Int)) ∧
 ∃ t56, hcell h_1 ((⟨b, 5, none⟩ : Addr).add (Int.toNat 2 * 1)) = some (.int .i64 t56) ∧
 J (decide (t51 < t56)) h_1))))))) : Cl 27 #[.pointer (some ⟨b, 0, none⟩), .slice l_p l_l l_c] h R :=
 callsN [(6, .join [(58, sB)]), (6, fun _ => .planK (runP 47 0 .done))] hv
theorem audit_reply_1.walk {k : Int} (hv :
 R (.bool (decide (k > 0))) h) : Cl 40 #[.int .i64 k] h R :=
 callsN [] hv
theorem slices_IndexFunc_s_int_int.above.walk (hv :
 ∃ (I : Int → Heap → Prop) (mu : Int → Heap → Nat), I 0 h ∧ ∀ t8 h_1, I t8 h_1 →
 ite (decide (t8 < ((s_l : Nat) : Int)))
 (  ((0 : Int) ≤ t8 ∧ t8 < ((s_l : Nat) : Int)) ∧
 onSome s_p fun a =>
 ∃ t15, hcell h_1 (a.add (Int.toNat t8 * 1)) = some (.int .i64 t15) ∧
 Cl 40 #[.int .i64 t15] h_1 fun v h_2 =>
 ∃ t16, v = .bool t16 ∧
 ite t16
 (  R (.int .i64 t8) h_2)
 (  (I (IntKind.wrap .i64 (t8 + 1)) h_2 ∧ mu (IntKind.wrap .i64 (t8 + 1)) h_2 < mu t8 h_1)))
 (  R (.int .i64 (-1)) h_1)) : Cl 82 #[.slice s_p s_l s_c, .func (.func 40) #[] #[]] h R :=
 callsN [(6, .loop [(8, sI)])] hv
theorem slices_ContainsFunc_s_int_int.above.walk (hv :
 Cl 82 #[.slice s_p s_l s_c, .func (.func 40) #[] #[]] h fun v h_1 =>
 ∃ t7, v = .int .i64 t7 ∧
 R (.bool (decide (t7 ≥ 0))) h_1) : Cl 41 #[.slice s_p s_l s_c, .func (.func 40) #[] #[]] h R :=
 callsN [] hv
theorem audit_reply.walk {numbered : Bool} (hv :
 JoinP (fun (t17 : Bool) h_1 =>
 ite t17
 (  R (.bool false) h_1)
 (  ((0 : Int) ≤ 5 ∧ 5 ≤ ((l_c : Nat) : Int)) ∧
 Cl 20 #[.slice (slBase l_p l_c 0 1) ((Int.toNat 5) - 0) (l_c - 0)] h_1 fun v h_2 =>
 ∃ t21_0_p t21_0_l t21_0_c t21_1, v = .tuple #[.slice t21_0_p t21_0_l t21_0_c, .bool t21_1] ∧
 JoinP (fun (t41 : Bool) h_3 =>
 ite t41
 (  R (.bool false) h_3)
 (  ((0 : Int) ≤ 1 ∧ 1 < ((t21_0_l : Nat) : Int)) ∧
 onSome t21_0_p fun a =>
 ∃ t44, hcell h_3 (a.add (Int.toNat 1 * 1)) = some (.int .i64 t44) ∧
 ite (t44 == 0)
 (  R (.bool true) h_3)
 (  ((0 : Int) ≤ 2 ∧ 2 ≤ ((t21_0_l : Nat) : Int)) ∧
 Cl 41 #[.slice (slBase t21_0_p t21_0_c (Int.toNat 2) 1) (t21_0_l - (Int.toNat 2)) (t21_0_c - (Int.toNat 2)), .func (.func 40) #[] #[]] h_3 fun v_1 h_4 =>
 ∃ t50, v_1 = .bool t50 ∧
 ite (!t50)
 (  ((0 : Int) ≤ 5 ∧ 5 < ((l_l : Nat) : Int)) ∧
 onSome l_p fun a_1 =>
 ∃ t55, hcell h_4 (a_1.add (Int.toNat 5 * 1)) = some (.string t55) ∧
 R (.bool (t55.toList == (⟨#[45]⟩ : ByteArray).toList)) h_4)
 (  R (.bool false) h_4))))
 (fun J_1 =>
 ite (!t21_1)
 (  J_1 true h_2)
 (  ((0 : Int) ≤ 1 ∧ 1 < ((t21_0_l : Nat) : Int)) ∧
 onSome t21_0_p fun a_2 =>
 ∃ t29, hcell h_2 (a_2.add (Int.toNat 1 * 1)) = some (.int .i64 t29) ∧
 ite (decide (t29 > 99))
 (  J_1 true h_2)
 (  ite (!numbered)
 (  ((0 : Int) ≤ 0 ∧ 0 < ((t21_0_l : Nat) : Int)) ∧
 onSome t21_0_p fun a_3 =>
 ∃ t38, hcell h_2 (a_3.add (Int.toNat 0 * 1)) = some (.int .i64 t38) ∧
 J_1 (t38 != 0) h_2)
 (  J_1 false h_2))))))
 (fun J =>
 ite (((l_l : Nat) : Int) != 6)
 (  J true h)
 (  ((0 : Int) ≤ 5 ∧ 5 < ((l_l : Nat) : Int)) ∧
 onSome l_p fun a_4 =>
 ∃ t14, hcell h (a_4.add (Int.toNat 5 * 1)) = some (.string t14) ∧
 Cl 25 #[.string t14] h fun v_2 h_5 =>
 ∃ t15, v_2 = .bool t15 ∧
 J (!t15) h_5))) : Cl 26 #[.slice l_p l_l l_c, .bool numbered] h R :=
 callsN [(4, .join [(17, sB)]), (14, .join [(41, sB)])] hv
theorem audit_Book_judge.walk (hv :
 Cl 20 #[.slice l_p l_l l_c] h fun v h_1 =>
 ∃ t9_0_p t9_0_l t9_0_c t9_1, v = .tuple #[.slice t9_0_p t9_0_l t9_0_c, .bool t9_1] ∧
 ite t9_1
 (  ite (((t9_0_l : Nat) : Int) == 1)
 (  ((0 : Int) ≤ 0 ∧ 0 < ((t9_0_l : Nat) : Int)) ∧
 onSome t9_0_p fun a =>
 ∃ t21, hcell h_1 (a.add (Int.toNat 0 * 1)) = some (.int .i64 t21) ∧
 ((0 : Int) ≤ 0 ∧ 0 < ((3 : Nat) : Int)) ∧
 ∃ t26, hcell h_1 ((⟨b, 5, none⟩ : Addr).add (Int.toNat 0 * 1)) = some (.int .i64 t26) ∧
 R (.bool (decide (t21 ≥ t26))) h_1)
 (  R (.bool false) h_1))
 (  R (.bool false) h_1)) : Cl 28 #[.pointer (some ⟨b, 0, none⟩), .slice l_p l_l l_c] h R :=
 callsN [(5, fun _ => .planK (runP 18 0 .done))] hv
theorem audit_Book_ok.walk {told_p : Option Addr} {told_l told_c : Nat} (hv :
 ((0 : Int) ≤ 0 ∧ 0 < ((l_l : Nat) : Int)) ∧
 onSome l_p fun a =>
 ∃ t11, hcell h (a.add (Int.toNat 0 * 1)) = some (.string t11) ∧
 ite (t11.toList == (⟨#[99, 111, 110, 110, 101, 99, 116]⟩ : ByteArray).toList)
 (  Cl 21 #[.pointer (some ⟨b, 0, none⟩), .slice told_p told_l told_c] h fun v h_1 =>
 ∃ t16, v = .bool t16 ∧
 R (.bool t16) h_1)
 (  ite (t11.toList == (⟨#[99, 114, 97, 115, 104]⟩ : ByteArray).toList)
 (  Cl 22 #[.pointer (some ⟨b, 0, none⟩), .slice told_p told_l told_c] h fun v_1 h_2 =>
 ∃ t21, v_1 = .bool t21 ∧
 R (.bool t21) h_2)
 (  ite (t11.toList == (⟨#[116, 105, 99, 107]⟩ : ByteArray).toList)
 (  ((0 : Int) ≤ 1 ∧ 1 < ((l_l : Nat) : Int)) ∧
 onSome l_p fun a_1 =>
 ∃ t27, hcell h (a_1.add (Int.toNat 1 * 1)) = some (.string t27) ∧
 Cl 23 #[.string t27] h fun v_2 h_3 =>
 ∃ t28_0 t28_1, v_2 = .tuple #[.int .i64 t28_0, t28_1] ∧
 ∃ t34, hcell h_3 ⟨b, 3, none⟩ = some (.int .i64 t34) ∧
 StoreP h_3 ⟨b, 3, none⟩ (.int .i64 (IntKind.wrap .i64 (t34 + t28_0))) fun h_4 =>
 R (.bool (((told_l : Nat) : Int) == 0)) h_4)
 (  ite (t11.toList == (⟨#[115, 116, 101, 112]⟩ : ByteArray).toList)
 (  Cl 14 #[.slice told_p told_l told_c, .int .i64 3] h fun v_3 h_5 =>
 ∃ t45, v_3 = .bool t45 ∧
 R (.bool t45) h_5)
 (  ite (t11.toList == (⟨#[97, 110, 115, 119, 101, 114]⟩ : ByteArray).toList)
 (  Cl 14 #[.slice told_p told_l told_c, .int .i64 64] h fun v_4 h_6 =>
 ∃ t49, v_4 = .bool t49 ∧
 R (.bool t49) h_6)
 (  ite (t11.toList == (⟨#[119, 97, 105, 116, 115]⟩ : ByteArray).toList)
 (  Cl 14 #[.slice told_p told_l told_c, .int .i64 8] h fun v_5 h_7 =>
 ∃ t53, v_5 = .bool t53 ∧
 R (.bool t53) h_7)
 (  ite (t11.toList == (⟨#[110, 111, 119]⟩ : ByteArray).toList)
 (  ite (((told_l : Nat) : Int) == 1)
 (  ((0 : Int) ≤ 0 ∧ 0 < ((told_l : Nat) : Int)) ∧
 onSome told_p fun a_2 =>
 ∃ t62, hcell h (a_2.add (Int.toNat 0 * 1)) = some (.string t62) ∧
 ∃ t66, hcell h ⟨b, 3, none⟩ = some (.int .i64 t66) ∧
 Cl 24 #[.int .i64 t66] h fun v_6 h_8 =>
 ∃ t67, v_6 = .string t67 ∧
 Kp h h_8 [(some (a_2.add (Int.toNat 0 * 1)))] ∧
 R (.bool (t62.toList == t67.toList)) h_8)
 (  R (.bool false) h))
 (  ite (t11.toList == (⟨#[111, 117, 116]⟩ : ByteArray).toList)
 (  ite (((told_l : Nat) : Int) == 1)
 (  ((0 : Int) ≤ 0 ∧ 0 < ((told_l : Nat) : Int)) ∧
 onSome told_p fun a_3 =>
 ∃ t78, hcell h (a_3.add (Int.toNat 0 * 1)) = some (.string t78) ∧
 Cl 25 #[.string t78] h fun v_7 h_9 =>
 ∃ t79, v_7 = .bool t79 ∧
 R (.bool t79) h_9)
 (  R (.bool false) h))
 (  JoinP (fun (t81 : Bool) h_10 =>
 ite t81
 (  ((0 : Int) ≤ 0 ∧ 0 < ((l_l : Nat) : Int)) ∧
 onSome l_p fun a_4 =>
 ∃ t88, hcell h_10 (a_4.add (Int.toNat 0 * 1)) = some (.string t88) ∧
 Cl 26 #[.slice told_p told_l told_c, .bool (t88.toList == (⟨#[114, 117, 110]⟩ : ByteArray).toList)] h_10 fun v_8 h_11 =>
 ∃ t90, v_8 = .bool t90 ∧
 R (.bool t90) h_11)
 (  ite (t11.toList == (⟨#[108, 105, 110, 101, 115]⟩ : ByteArray).toList)
 (  Cl 27 #[.pointer (some ⟨b, 0, none⟩), .slice told_p told_l told_c] h_10 fun v_9 h_12 =>
 ∃ t95, v_9 = .bool t95 ∧
 R (.bool t95) h_12)
 (  ite (t11.toList == (⟨#[106, 117, 100, 103, 101]⟩ : ByteArray).toList)
 (  Cl 28 #[.pointer (some ⟨b, 0, none⟩), .slice told_p told_l told_c] h_10 fun v_10 h_13 =>
 ∃ t100, v_10 = .bool t100 ∧
 R (.bool t100) h_13)
 (  R (.bool (((told_l : Nat) : Int) == 0)) h_10))))
 (fun J =>
 ite (t11.toList == (⟨#[114, 117, 110]⟩ : ByteArray).toList)
 (  J (t11.toList == (⟨#[114, 117, 110]⟩ : ByteArray).toList) h)
 (  JoinP (fun (t81_1 : Bool) h_14 =>
 J t81_1 h_14)
 (fun J_1 =>
 ite (t11.toList == (⟨#[97, 114, 114, 105, 118, 101]⟩ : ByteArray).toList)
 (  J_1 (t11.toList == (⟨#[97, 114, 114, 105, 118, 101]⟩ : ByteArray).toList) h)
 (  J_1 (t11.toList == (⟨#[116, 97, 107, 101]⟩ : ByteArray).toList) h))))))))))))) : Cl 16 #[.pointer (some ⟨b, 0, none⟩), .slice l_p l_l l_c, .slice told_p told_l told_c] h R :=
 callsN [(50, fun _ => .planK (runP 15 0 .done)), (61, .join [(81, sB)]), (65, .join [(81, sB)])] hv
theorem audit_Book_fits.walk (hv :
 NewP h (.cells #[.string e_0, .string e_1] 32) fun b_1 h_1 =>
 ∃ t8, hcell h_1 ⟨b_1, 0, none⟩ = some (.string t8) ∧
 Cl 12 #[.string t8] h_1 fun v h_2 =>
 ∃ t9, v = .bool t9 ∧
 ite (!t9)
 (  ∃ t12, hcell h_2 ⟨b_1, 1, none⟩ = some (.string t12) ∧
 R (.bool (t12.toList == (⟨#[98, 97, 100]⟩ : ByteArray).toList)) h_2)
 (  ∃ t15, hcell h_2 ⟨b_1, 0, none⟩ = some (.string t15) ∧
 ∃ t18, hcell h_2 ⟨b_1, 1, none⟩ = some (.string t18) ∧
 Cl 13 #[.string t15, .string (⟨#[32]⟩ : ByteArray)] h_2 fun v_1 h_3 =>
 ∃ t16_p t16_l t16_c, v_1 = .slice t16_p t16_l t16_c ∧
 Kp h_2 h_3 [(some ⟨b_1, 1, none⟩)] ∧
 Cl 13 #[.string t18, .string (⟨#[32]⟩ : ByteArray)] h_3 fun v_2 h_4 =>
 ∃ t19_p t19_l t19_c, v_2 = .slice t19_p t19_l t19_c ∧
 ((0 : Int) ≤ 0 ∧ 0 < ((t19_l : Nat) : Int)) ∧
 onSome t19_p fun a =>
 ∃ t23, hcell h_4 (a.add (Int.toNat 0 * 1)) = some (.string t23) ∧
 ite (t23.toList == (⟨#[101, 114, 114]⟩ : ByteArray).toList)
 (  ((0 : Int) ≤ 1 ∧ 1 ≤ ((t19_l : Nat) : Int)) ∧
 Cl 14 #[.slice (slBase t19_p t19_c (Int.toNat 1) 1) (t19_l - (Int.toNat 1)) (t19_c - (Int.toNat 1)), .int .i64 99] h_4 fun v_3 h_5 =>
 ∃ t27, v_3 = .bool t27 ∧
 ite t27
 (  ((0 : Int) ≤ 1 ∧ 1 < ((t19_l : Nat) : Int)) ∧
 onSome t19_p fun a_1 =>
 ∃ t31, hcell h_5 (a_1.add (Int.toNat 1 * 1)) = some (.string t31) ∧
 ite (!(t31.toList == (⟨#[48]⟩ : ByteArray).toList))
 (  ((0 : Int) ≤ 0 ∧ 0 < ((t16_l : Nat) : Int)) ∧
 onSome t16_p fun a_2 =>
 ∃ t37, hcell h_5 (a_2.add (Int.toNat 0 * 1)) = some (.string t37) ∧
 Cl 15 #[.string t37] h_5 fun v_4 h_6 =>
 ∃ t38, v_4 = .bool t38 ∧
 R (.bool (!t38)) h_6)
 (  R (.bool false) h_5))
 (  R (.bool false) h_5))
 (  ((0 : Int) ≤ 0 ∧ 0 < ((t19_l : Nat) : Int)) ∧
 onSome t19_p fun a_3 =>
 ∃ t44, hcell h_4 (a_3.add (Int.toNat 0 * 1)) = some (.string t44) ∧
 ite (!(t44.toList == (⟨#[111, 107]⟩ : ByteArray).toList))
 (  R (.bool false) h_4)
 (  ((0 : Int) ≤ 1 ∧ 1 ≤ ((t19_l : Nat) : Int)) ∧
 Cl 16 #[.pointer (some ⟨b, 0, none⟩), .slice t16_p t16_l t16_c, .slice (slBase t19_p t19_c (Int.toNat 1) 1) (t19_l - (Int.toNat 1)) (t19_c - (Int.toNat 1))] h_4 fun v_5 h_7 =>
 ∃ t50, v_5 = .bool t50 ∧
 R (.bool t50) h_7)))) : Cl 11 #[.pointer (some ⟨b, 0, none⟩), .agg #[.string e_0, .string e_1]] h R :=
 callsN [(11, fun _ => .planK (opL [0,1,3,4,2] (runP 3 5 .done)))] hv
theorem audit_Book_Hear.walk (hv :
 NewP h (.cells #[.string e_0, .string e_1] 32) fun b_1 h_1 =>
 JoinP (fun (t6 : Bool) h_2 =>
 ite t6
 (  R (.tuple #[.bool false, .int .i64 6]) h_2)
 (  ∃ t20, hcell h_2 ⟨b, 1, none⟩ = some (.bool t20) ∧
 ite t20
 (  R (.tuple #[.bool false, .int .i64 7]) h_2)
 (  ∃ t24, hcell h_2 ⟨b, 2, none⟩ = some (.int .i64 t24) ∧
 StoreP h_2 ⟨b, 2, none⟩ (.int .i64 (IntKind.wrap .i64 (t24 + 1))) fun h_3 =>
 ∃ t30_0, hcell h_3 ⟨b_1, 0, none⟩ = some (.string t30_0) ∧ ∃ t30_1, hcell h_3 ⟨b_1, 1, none⟩ = some (.string t30_1) ∧
 Cl 11 #[.pointer (some ⟨b, 0, none⟩), .agg #[.string t30_0, .string t30_1]] h_3 fun v h_4 =>
 ∃ t31, v = .bool t31 ∧
 StoreP h_4 ⟨b, 1, none⟩ (.bool (!t31)) fun h_5 =>
 ∃ t38, hcell h_5 ⟨b, 1, none⟩ = some (.bool t38) ∧
 R (.tuple #[.bool (!t38), .int .i64 0]) h_5)))
 (fun J =>
 ∃ t13, hcell h_1 ⟨b, 0, none⟩ = some (.bool t13) ∧
 J (!t13) h_1)) : Cl 9 #[.pointer (some ⟨b, 0, none⟩), .agg #[.string e_0, .string e_1]] h R :=
 callsN [(5, .join [(6, sB)])] hv
theorem audit_Book_Hear.nil.walk (hv :
 NewP h (.cells #[.string e_0, .string e_1] 32) fun _ h_1 =>
 JoinP (fun (t6 : Bool) h_2 =>
 ite t6
 (  R (.tuple #[.bool false, .int .i64 6]) h_2)
 (  False))
 (fun J =>
 J true h_1)) : Cl 9 #[.pointer none, .agg #[.string e_0, .string e_1]] h R :=
 callsN [(5, .join [(6, sB)])] hv
theorem audit_Book_Heard.walk (hv :
 ∃ t8, hcell h ⟨b, 2, none⟩ = some (.int .i64 t8) ∧
 R (.int .i64 t8) h) : Cl 10 #[.pointer (some ⟨b, 0, none⟩)] h R :=
 callsN [] hv
theorem audit_Book_Heard.nil.walk  (hv :
 R (.int .i64 0) h) : Cl 10 #[.pointer none] h R :=
 callsN [] hv
theorem audit_Judge.walk (hv :
 Cl 8 #[] h fun v h_1 =>
 ∃ t8, v = .pointer t8 ∧
 ∃ (I : Int → Heap → Prop) (mu : Int → Heap → Nat), I 0 h_1 ∧ ∀ t11 h_2, I t11 h_2 →
 ite (decide (t11 < ((l_l : Nat) : Int)))
 (  ((0 : Int) ≤ t11 ∧ t11 < ((l_l : Nat) : Int)) ∧
 onSome l_p fun a =>
 ∃ t15_0, hcell h_2 (a.add (Int.toNat t11 * 2)) = some (.string t15_0) ∧ ∃ t15_1, hcell h_2 ((a.add (Int.toNat t11 * 2)).add 1) = some (.string t15_1) ∧
 NewP h_2 (.cells #[.string (⟨#[]⟩ : ByteArray), .string (⟨#[]⟩ : ByteArray)] 32) fun b h_3 =>
 StoreP h_3 ⟨b, 0, none⟩ (.string t15_0) fun h_4 =>
 StoreP h_4 ⟨b, 1, none⟩ (.string t15_1) fun h_5 =>
 ∃ t18_0, hcell h_5 ⟨b, 0, none⟩ = some (.string t18_0) ∧ ∃ t18_1, hcell h_5 ⟨b, 1, none⟩ = some (.string t18_1) ∧
 Cl 9 #[.pointer t8, .agg #[.string t18_0, .string t18_1]] h_5 fun v_1 h_6 =>
 ∃ t19_0 t19_1, v_1 = .tuple #[.bool t19_0, .int .i64 t19_1] ∧
 ite (!t19_0)
 (  R (.int .i64 t11) h_6)
 (  (I (IntKind.wrap .i64 (t11 + 1)) h_6 ∧ mu (IntKind.wrap .i64 (t11 + 1)) h_6 < mu t11 h_2)))
 (  R (.int .i64 ((l_l : Nat) : Int)) h_2)) : Cl 7 #[.slice l_p l_l l_c] h R :=
 callsN [(8, .loop [(11, sI)])] hv
theorem law38_Great.walk (hv :
 ∃ (I : Int → Int → Heap → Prop) (mu : Int → Int → Heap → Nat), I 0 0 h ∧ ∀ all i h_1, I all i h_1 →
 ite (decide (i < ((l_l : Nat) : Int)))
 (  JoinP (fun (t49 : Bool) h_2 =>
 ite t49
 (  R (.bool true) h_2)
 (  ((0 : Int) ≤ i ∧ i < ((l_l : Nat) : Int)) ∧
 onSome l_p fun a =>
 ∃ t55, hcell h_2 (a.add (Int.toNat i * 2)) = some (.string t55) ∧
 (I (IntKind.wrap .i64 (all + ((t55.size : Nat) : Int))) (IntKind.wrap .i64 (i + 1)) h_2 ∧ mu (IntKind.wrap .i64 (all + ((t55.size : Nat) : Int))) (IntKind.wrap .i64 (i + 1)) h_2 < mu all i h_1)))
 (fun J =>
 ite (decide (((l_l : Nat) : Int) > 40))
 (  J true h_1)
 (  ((0 : Int) ≤ i ∧ i < ((l_l : Nat) : Int)) ∧
 onSome l_p fun a_1 =>
 ∃ t19, hcell h_1 (a_1.add (Int.toNat i * 2)) = some (.string t19) ∧
 ite (decide (((t19.size : Nat) : Int) > 1000))
 (  ((0 : Int) ≤ i ∧ i < ((l_l : Nat) : Int)) ∧
 onSome l_p fun a_2 =>
 ∃ t27, hcell h_1 (a_2.add (Int.toNat i * 2)) = some (.string t27) ∧
 ite (decide (((t27.size : Nat) : Int) ≤ 4096))
 (  J true h_1)
 (  ((0 : Int) ≤ i ∧ i < ((l_l : Nat) : Int)) ∧
 onSome l_p fun a_3 =>
 ∃ t37, hcell h_1 (a_3.add (Int.toNat i * 2)) = some (.string t37) ∧
 ite (decide (((t37.size : Nat) : Int) > 4200))
 (  J true h_1)
 (  ((0 : Int) ≤ i ∧ i < ((l_l : Nat) : Int)) ∧
 onSome l_p fun a_4 =>
 ∃ t46, hcell h_1 ((a_4.add (Int.toNat i * 2)).add 1) = some (.string t46) ∧
 J (decide (((t46.size : Nat) : Int) > 3000)) h_1)))
 (  ((0 : Int) ≤ i ∧ i < ((l_l : Nat) : Int)) ∧
 onSome l_p fun a_5 =>
 ∃ t37_1, hcell h_1 (a_5.add (Int.toNat i * 2)) = some (.string t37_1) ∧
 ite (decide (((t37_1.size : Nat) : Int) > 4200))
 (  J true h_1)
 (  ((0 : Int) ≤ i ∧ i < ((l_l : Nat) : Int)) ∧
 onSome l_p fun a_6 =>
 ∃ t46_1, hcell h_1 ((a_6.add (Int.toNat i * 2)).add 1) = some (.string t46_1) ∧
 J (decide (((t46_1.size : Nat) : Int) > 3000)) h_1)))))
 (  R (.bool (decide (all > 12000))) h_1)) : Cl 5 #[.slice l_p l_l l_c] h R :=
 callsN [(8, .loop [(3, sI), (4, sI)]), (19, .join [(49, sB)])] hv
theorem law38_alive.walk  (hv :
 NewP h (.cells #[.string (⟨#[]⟩ : ByteArray), .string (⟨#[]⟩ : ByteArray)] 32) fun b h_1 =>
 StoreP h_1 ⟨b, 0, none⟩ (.string (⟨#[99, 111, 110, 110, 101, 99, 116]⟩ : ByteArray)) fun h_2 =>
 StoreP h_2 ⟨b, 1, none⟩ (.string (⟨#[111, 107, 32, 49]⟩ : ByteArray)) fun h_3 =>
 NewP h_3 (.cells #[.string (⟨#[]⟩ : ByteArray), .string (⟨#[]⟩ : ByteArray)] 32) fun b_1 h_4 =>
 StoreP h_4 ⟨b_1, 0, none⟩ (.string (⟨#[116, 105, 99, 107, 32, 53]⟩ : ByteArray)) fun h_5 =>
 StoreP h_5 ⟨b_1, 1, none⟩ (.string (⟨#[111, 107]⟩ : ByteArray)) fun h_6 =>
 NewP h_6 (.cells #[.string (⟨#[]⟩ : ByteArray), .string (⟨#[]⟩ : ByteArray)] 32) fun b_2 h_7 =>
 StoreP h_7 ⟨b_2, 0, none⟩ (.string (⟨#[110, 111, 119]⟩ : ByteArray)) fun h_8 =>
 StoreP h_8 ⟨b_2, 1, none⟩ (.string (⟨#[111, 107, 32, 53]⟩ : ByteArray)) fun h_9 =>
 NewP h_9 (.cells #[.string (⟨#[]⟩ : ByteArray), .string (⟨#[]⟩ : ByteArray)] 32) fun b_3 h_10 =>
 StoreP h_10 ⟨b_3, 0, none⟩ (.string (⟨#[119, 104, 97, 116]⟩ : ByteArray)) fun h_11 =>
 StoreP h_11 ⟨b_3, 1, none⟩ (.string (⟨#[98, 97, 100]⟩ : ByteArray)) fun h_12 =>
 NewP h_12 (.cells #[.string (⟨#[]⟩ : ByteArray), .string (⟨#[]⟩ : ByteArray)] 32) fun b_4 h_13 =>
 StoreP h_13 ⟨b_4, 0, none⟩ (.string (⟨#[114, 117, 110, 32, 49, 32, 55]⟩ : ByteArray)) fun h_14 =>
 StoreP h_14 ⟨b_4, 1, none⟩ (.string (⟨#[111, 107, 32, 51, 32, 52, 32, 49, 32, 48, 32, 48, 32, 45]⟩ : ByteArray)) fun h_15 =>
 ∃ t11_0, hcell h_15 ⟨b, 0, none⟩ = some (.string t11_0) ∧ ∃ t11_1, hcell h_15 ⟨b, 1, none⟩ = some (.string t11_1) ∧
 ∃ t12_0, hcell h_15 ⟨b_1, 0, none⟩ = some (.string t12_0) ∧ ∃ t12_1, hcell h_15 ⟨b_1, 1, none⟩ = some (.string t12_1) ∧
 ∃ t13_0, hcell h_15 ⟨b_3, 0, none⟩ = some (.string t13_0) ∧ ∃ t13_1, hcell h_15 ⟨b_3, 1, none⟩ = some (.string t13_1) ∧
 ∃ t14_0, hcell h_15 ⟨b_2, 0, none⟩ = some (.string t14_0) ∧ ∃ t14_1, hcell h_15 ⟨b_2, 1, none⟩ = some (.string t14_1) ∧
 ∃ t15_0, hcell h_15 ⟨b_4, 0, none⟩ = some (.string t15_0) ∧ ∃ t15_1, hcell h_15 ⟨b_4, 1, none⟩ = some (.string t15_1) ∧
 NewP h_15 (.cells #[.string t11_0, .string t11_1, .string t12_0, .string t12_1, .string t13_0, .string t13_1, .string t14_0, .string t14_1, .string t15_0, .string t15_1] 32) fun b_5 h_16 =>
 Cl 7 #[.slice (some ⟨b_5, 0, none⟩) 5 5] h_16 fun v h_17 =>
 ∃ t17, v = .int .i64 t17 ∧
 ite (t17 == 4)
 (  ∃ t20_0, hcell h_17 ⟨b, 0, none⟩ = some (.string t20_0) ∧ ∃ t20_1, hcell h_17 ⟨b, 1, none⟩ = some (.string t20_1) ∧
 ∃ t21_0, hcell h_17 ⟨b, 0, none⟩ = some (.string t21_0) ∧ ∃ t21_1, hcell h_17 ⟨b, 1, none⟩ = some (.string t21_1) ∧
 NewP h_17 (.cells #[.string t20_0, .string t20_1, .string t21_0, .string t21_1] 32) fun b_6 h_18 =>
 Cl 7 #[.slice (some ⟨b_6, 0, none⟩) 2 2] h_18 fun v_1 h_19 =>
 ∃ t23, v_1 = .int .i64 t23 ∧
 ite (t23 == 1)
 (  ∃ t27_0, hcell h_19 ⟨b_2, 0, none⟩ = some (.string t27_0) ∧ ∃ t27_1, hcell h_19 ⟨b_2, 1, none⟩ = some (.string t27_1) ∧
 NewP h_19 (.cells #[.string t27_0, .string t27_1] 32) fun b_7 h_20 =>
 Cl 7 #[.slice (some ⟨b_7, 0, none⟩) 1 1] h_20 fun v_2 h_21 =>
 ∃ t29, v_2 = .int .i64 t29 ∧
 ite (t29 == 0)
 (  Cl 7 #[.slice none 0 0] h_21 fun v_3 h_22 =>
 ∃ t33, v_3 = .int .i64 t33 ∧
 R (.bool (t33 == 0)) h_22)
 (  R (.bool false) h_21))
 (  R (.bool false) h_19))
 (  R (.bool false) h_17)) : Cl 6 #[] h R :=
 callsN [] hv
theorem law38_AuditNobody.walk (hv :
 NewP h (.cells #[.string e_0, .string e_1] 32) fun b h_1 =>
 ∃ t9_0, hcell h_1 ⟨b, 0, none⟩ = some (.string t9_0) ∧ ∃ t9_1, hcell h_1 ⟨b, 1, none⟩ = some (.string t9_1) ∧
 NewP h_1 (.cells #[.string t9_0, .string t9_1] 32) fun b_1 h_2 =>
 Cl 5 #[.slice (some ⟨b_1, 0, none⟩) 1 1] h_2 fun v h_3 =>
 ∃ t11, v = .bool t11 ∧
 ite t11
 (  Cl 6 #[] h_3 fun v_1 h_4 =>
 ∃ t12, v_1 = .bool t12 ∧
 R (.bool t12) h_4)
 (  NewP h_3 (.cells audit_Book.S.z.arr 36) fun b_2 h_5 =>
 ∃ t15_0, hcell h_5 ⟨b, 0, none⟩ = some (.string t15_0) ∧ ∃ t15_1, hcell h_5 ⟨b, 1, none⟩ = some (.string t15_1) ∧
 Cl 9 #[.pointer none, .agg #[.string t15_0, .string t15_1]] h_5 fun v_2 h_6 =>
 ∃ t16_0 t16_1, v_2 = .tuple #[.bool t16_0, .int .i64 t16_1] ∧
 ∃ t20_0, hcell h_6 ⟨b, 0, none⟩ = some (.string t20_0) ∧ ∃ t20_1, hcell h_6 ⟨b, 1, none⟩ = some (.string t20_1) ∧
 Cl 9 #[.pointer (some ⟨b_2, 0, none⟩), .agg #[.string t20_0, .string t20_1]] h_6 fun v_3 h_7 =>
 ∃ t21_0 t21_1, v_3 = .tuple #[.bool t21_0, .int .i64 t21_1] ∧
 Cl 6 #[] h_7 fun v_4 h_8 =>
 ∃ t24, v_4 = .bool t24 ∧
 ite t24
 (  ite (!t16_0)
 (  ite (!t21_0)
 (  ite (t16_1 == 6)
 (  ite (t21_1 == 6)
 (  Cl 10 #[.pointer none] h_8 fun v_5 h_9 =>
 ∃ t43, v_5 = .int .i64 t43 ∧
 Cl 10 #[.pointer (some ⟨b_2, 0, none⟩)] h_9 fun v_6 h_10 =>
 ∃ t44, v_6 = .int .i64 t44 ∧
 R (.bool ((IntKind.wrap .i64 (t43 + t44)) == 0)) h_10)
 (  R (.bool false) h_8))
 (  R (.bool false) h_8))
 (  R (.bool false) h_8))
 (  R (.bool false) h_8))
 (  R (.bool false) h_8))) : Cl 4 #[.agg #[.string e_0, .string e_1]] h R :=
 callsN [] hv

end
end Go.Proofs.YticlajoleibdnaaGreatDoor
