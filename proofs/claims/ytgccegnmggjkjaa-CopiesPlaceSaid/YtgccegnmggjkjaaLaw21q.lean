/-
  What is proved here: law21's CopiesPlace. No condition.
-/
import Derived.Test.YtgccegnmggjkjaaLaw21p
set_option maxRecDepth 100000
namespace Go.Proofs.Ytgccegnmggjkjaa
open Go.Den Go.Heapq
namespace Cps
open Eid Alarm Fld
variable {h h' : Heap} {R : Value → Heap → Prop} {t : Nat} {X X' : Ft} {s s' : CF} {p : Option Addr} {n c : Nat}

/-- Add of one byte to home -/
theorem add1 {K : Int → Int → Heap → Prop} {b : Nat} {v : Value} (H : Ct h t X s) (ok : okb s = true) (hp : 1 ≤ s.next) (hv : v = .int .u8 b) (hb : b < 256)
    (hk : ∀ h' X', Ct h' t X' (addF s hm [UInt8.ofNat b] 500) → StepF X h X' h' → K (addN s hm [UInt8.ofNat b] 500) (addE s hm [UInt8.ofNat b] 500) h') :
    NewP h (.cells #[v] T.uint8) fun b h_4 => CallsH Try.prog F.copies_Table_Add #[.pointer (some ⟨t, 0, none⟩), ev5 hm, .slice (some ⟨b, 0, none⟩) 1 1, .int .u64 500] h_4 fun v_2 h_5 =>
      ∃ (t38_0 : Int), ∃ (t38_1 : Int), v_2 = .tuple #[.int .i64 t38_0, .int .i64 t38_1] ∧ K t38_0 t38_1 h_5 := by
  subst hv
  have e : (.int .u8 (b : Int) : Value) = .int .u8 (((UInt8.ofNat b).toNat : Nat) : Int) := by
    have : (UInt8.ofNat b).toNat = b := by simp; omega
    rw [this]
  have f : Fr (fun _ => False) h (h.push (.cells #[.int .u8 (b : Int)] T.uint8)) := Fr.push _ _
  refine newP_of (add_ok (d := [UInt8.ofNat b]) (H.on f) (okb_ok ok).1 (fun z hz => ((okb_ok ok).2 z hz).2.1) hp hm 500 rfl ?_ rfl (fun a e hm => by cases e; exact absurd (H.lt _ (.inl hm)) (Nat.lt_irrefl _)) fun h' X' H' st => ⟨_, _, rfl, hk h' X' H' (StepF.no f st)⟩)
  rw [e]
  exact row_new (cs := bc [UInt8.ofNat b])
theorem lease1 {K : Nat → Int → Heap → Prop} {z : Cp} {ses k : Int} {dl : Nat} (H : Ct h t X s) (ok : okb s = true) (hm' : mayS ses dl) (hk0 : k = (dl : Int)) (hz : leaseC s.L hm = some z)
    (hk : ∀ b h' X' p c, Ct h' t X' (leaseF s z ses dl) → StepF X h X' h' → Out X' h' (fun y => y = b) → copies_Copy.at h' b (z.num : Int) z.e.ipn z.e.node z.e.svc z.e.host z.e.dem p z.d.length c (z.till : Int) ses (dl : Int) → K b 0 h') :
    CallsH Try.prog F.copies_Table_Lease #[.pointer (some ⟨t, 0, none⟩), ev5 hm, .int .i64 ses, .int .u64 k] h fun v_6 h_12 =>
          ∃ (t67_0_0 : Int), ∃ (t67_0_1 : Bool), ∃ (t67_0_2 : Int), ∃ (t67_0_3 : Int), ∃ (t67_0_4 : ByteArray), ∃ (t67_0_5 : ByteArray), ∃ (t67_0_6_p : Option Addr) (t67_0_6_l t67_0_6_c : Nat), ∃ (t67_0_7 : Int), ∃ (t67_0_8 : Int), ∃ (t67_0_9 : Int), ∃ (t67_1 : Int), v_6 = .tuple #[.agg #[.int .i64 t67_0_0, .bool t67_0_1, .int .u64 t67_0_2, .int .u64 t67_0_3, .string t67_0_4, .string t67_0_5, .slice t67_0_6_p t67_0_6_l t67_0_6_c, .int .u64 t67_0_7, .int .i64 t67_0_8, .int .u64 t67_0_9], .int .i64 t67_1] ∧
          NewP h_12 (.cells #[.int .i64 0, .bool false, .int .u64 0, .int .u64 0, .string (⟨#[]⟩ : ByteArray), .string (⟨#[]⟩ : ByteArray), .slice none 0 0, .int .u64 0, .int .i64 0, .int .u64 0] T.copies_Copy) fun b_2 h_13 =>
          copies_Copy.ST h_13 ⟨b_2, 0, none⟩ t67_0_0 t67_0_1 t67_0_2 t67_0_3 t67_0_4 t67_0_5 t67_0_6_p t67_0_6_l t67_0_6_c t67_0_7 t67_0_8 t67_0_9 fun h_14 => K b_2 t67_1 h_14 := by
  refine lease_ok H (okb_ok ok).1 (okb_ok ok).2 hm ses dl hk0 (fun hn => absurd hm' hn) (fun _ hn => by rw [hz] at hn; cases hn) fun _ y hy h1 X1 p1 c1 H1 s1 r1 g1 => ?_
  rw [hz] at hy; cases hy
  refine ⟨_, _, _, _, _, _, _, _, _, _, _, _, _, rfl, copies_Copy.new fun b h2 e2 hb2 f2 => ?_⟩
  refine hk b h2 X1 p1 c1 (H1.on f2) (s1.on f2) (fun y hy => ?_) hb2
  subst hy
  exact ⟨lt_of_get hb2, fun hm => by have := H1.lt _ (.inl hm); omega⟩
theorem lease1n {K : Int → Heap → Prop} {ses k : Int} {dl : Nat} (H : Ct h t X s) (ok : okb s = true) (hm' : mayS ses dl) (hk0 : k = (dl : Int)) (hz : leaseC s.L hm = none)
    (hk : ∀ h', Fr (fun _ => False) h h' → K 4 h') :
    CallsH Try.prog F.copies_Table_Lease #[.pointer (some ⟨t, 0, none⟩), ev5 hm, .int .i64 ses, .int .u64 k] h fun v_6 h_12 =>
          ∃ (t67_0_0 : Int), ∃ (t67_0_1 : Bool), ∃ (t67_0_2 : Int), ∃ (t67_0_3 : Int), ∃ (t67_0_4 : ByteArray), ∃ (t67_0_5 : ByteArray), ∃ (t67_0_6_p : Option Addr) (t67_0_6_l t67_0_6_c : Nat), ∃ (t67_0_7 : Int), ∃ (t67_0_8 : Int), ∃ (t67_0_9 : Int), ∃ (t67_1 : Int), v_6 = .tuple #[.agg #[.int .i64 t67_0_0, .bool t67_0_1, .int .u64 t67_0_2, .int .u64 t67_0_3, .string t67_0_4, .string t67_0_5, .slice t67_0_6_p t67_0_6_l t67_0_6_c, .int .u64 t67_0_7, .int .i64 t67_0_8, .int .u64 t67_0_9], .int .i64 t67_1] ∧
          NewP h_12 (.cells #[.int .i64 0, .bool false, .int .u64 0, .int .u64 0, .string (⟨#[]⟩ : ByteArray), .string (⟨#[]⟩ : ByteArray), .slice none 0 0, .int .u64 0, .int .i64 0, .int .u64 0] T.copies_Copy) fun b_2 h_13 =>
          copies_Copy.ST h_13 ⟨b_2, 0, none⟩ t67_0_0 t67_0_1 t67_0_2 t67_0_3 t67_0_4 t67_0_5 t67_0_6_p t67_0_6_l t67_0_6_c t67_0_7 t67_0_8 t67_0_9 fun h_14 => K t67_1 h_14 := by
  refine lease_ok H (okb_ok ok).1 (okb_ok ok).2 hm ses dl hk0 (fun hn => absurd hm' hn) (fun _ _ h1 f1 => ?_) fun _ y hy => by rw [hz] at hy; cases hy
  exact ⟨_, _, _, _, _, _, _, _, _, _, _, _, _, rfl, copies_Copy.new fun b h2 e2 hb2 f2 => hk h2 (f1.tt f2)⟩
set_option maxHeartbeats 4000000 in
theorem _root_.Go.Proofs.Ytgccegnmggjkjaa.copiesPlace_ok (n back : Int) (passes : Bool) (wn : (Lit.int .u8 n).wf = true) (wb : (Lit.int .u8 back).wf = true) : LawH Try.prog F.law21_CopiesPlace #[.int .u8 n, .int .u8 back, .bool passes] h := by
  have wn := wf_u8 wn
  have wb := wf_u8 wb
  unfold LawH
  generalize hR : (fun (v : Value) h' => v = .bool true ∧ Fr (fun _ => False) h h') = R
  have hk : ∀ h', Fr (fun _ => False) h h' → R (.bool true) h' := fun h' hf => by rw [← hR]; exact ⟨rfl, hf⟩
  clear hR
  obtain ⟨k, hk1, hk2, ek⟩ : ∃ k : Nat, 0 < k ∧ k < 17 ∧ IntKind.wrap .i64 (1 + (Int.tmod (IntKind.wrap .i64 n) 16)) = (k : Int) := by
    refine ⟨1 + n.toNat % 16, by omega, by omega, ?_⟩
    rw [wrap_id (n := n) (by omega) (by omega), Int.tmod_eq_emod_of_nonneg (by omega), wrap_id (by omega) (by omega)]
    omega
  obtain ⟨a, ha, ea⟩ : ∃ a : Nat, a < k ∧ IntKind.wrap .i64 (1 + (Int.tmod (IntKind.wrap .i64 back) (k : Int))) = ((1 + a : Nat) : Int) := by
    refine ⟨back.toNat % k, Nat.mod_lt _ hk1, ?_⟩
    have hm := Nat.mod_lt back.toNat hk1
    rw [wrap_id (n := back) (by omega) (by omega), Int.tmod_eq_emod_of_nonneg (by omega)]
    have e : back % (k : Int) = ((back.toNat % k : Nat) : Int) := by
      rw [Int.natCast_emod]; congr 1; omega
    rw [e, wrap_id (by omega) (by omega)]
    omega
  refine law21_CopiesPlace.walk (new_ok fun h1 t X1 H1 u1 => ⟨_, rfl, ?_⟩)
  rw [ek, ea]
  refine ⟨fun i g => ∃ (j : Nat) (X : Ft), i = (j : Int) ∧ j ≤ k ∧ Ct g t X (Qs k j 0) ∧ UpF h X g, fun i _ => k - i.toNat, ⟨0, X1, rfl, Nat.zero_le _, H1, u1⟩, ?_⟩
  rintro _ g ⟨j, X, rfl, hj, H, u⟩
  by_cases hlt : j < k
  · obtain ⟨q1, q2, q3, q4⟩ := c_add k hk2 j hlt
    rw [if_pos (decide_eq_true (by omega))]
    refine home_ok fun g1 f1 => ⟨_, _, _, _, _, rfl, add1 (b := j) (H.on f1) q4 (by show 1 ≤ j + 1; omega) (by rw [wrap_u8 (by omega) (by omega)]) (by omega) fun g2 X2 H2 s2 => JoinP.of fun J hJ => ?_⟩
    have ew : IntKind.wrap .i64 ((j : Int) + 1) = (j : Int) + 1 := wrap_id (by omega) (by omega)
    rw [q1, q2, if_neg (by decide)]
    rw [q3] at H2
    subst hJ
    rw [ew]
    have e : ((((j + 1 : Nat) : Int)) != (j : Int) + 1) = false := by simp
    simp only [e, Bool.false_eq_true, if_false]
    exact ⟨⟨j + 1, X2, by omega, by omega, H2, (u.on f1).step s2⟩, by show k - Int.toNat ((j : Int) + 1) < k - j; omega⟩
  · obtain rfl : j = k := by omega
    rw [if_neg (by simp)]
    obtain ⟨q1, q2, q3⟩ := c_full j hk2 hk1
    refine home_ok fun g1 f1 => ⟨_, _, _, _, _, rfl, add1 (b := 1) (H.on f1) q3 (by show 1 ≤ j + 1; omega) rfl (by omega) fun g2 X2 H2 s2 => ?_⟩
    rw [show [UInt8.ofNat 1] = [(1 : UInt8)] from rfl] at H2 ⊢
    rw [q1]
    rw [q2] at H2
    have u2 := (u.on f1).step s2
    refine ⟨fun i g => ∃ (i' : Nat) (X : Ft), i = (i' : Int) ∧ i' ≤ j ∧ Ct g t X (Qs j (mk j) i') ∧ UpF h X g, fun i _ => j - i.toNat, ⟨0, X2, rfl, Nat.zero_le _, H2, u2⟩, ?_⟩
    rintro _ g3 ⟨i, X3, rfl, hi, H3, u3⟩
    by_cases hlt : i < j
    · obtain ⟨q1, q2, q3⟩ := c_lease j hk2 i hlt
      have ew : IntKind.wrap .i64 ((i : Int) + 1) = (i : Int) + 1 := wrap_id (by omega) (by omega)
      have ew2 : IntKind.wrap .u64 (IntKind.wrap .i64 (100 + (i : Int))) = ((100 + i : Nat) : Int) := by
        rw [wrap_id (by omega) (by omega), wrap_u64 (by omega) (by omega)]; omega
      rw [if_pos (decide_eq_true (by omega)), ew, ew2]
      refine home_ok fun g4 f4 => ⟨_, _, _, _, _, rfl, lease1 (H3.on f4) q3 ⟨by omega, by omega, by omega⟩ rfl q1 fun b g5 X5 p5 c5 H5 s5 o5 hb5 => JoinP.of fun J hJ => ?_⟩
      rw [q2] at H5
      rw [if_neg (by decide)]
      refine ⟨_, cell_at hb5 rfl, ?_⟩
      subst hJ
      have e : ((((ck i).num : Nat) : Int) != (i : Int) + 1) = false := by simp [ck]
      simp only [e, Bool.false_eq_true, if_false]
      exact ⟨⟨i + 1, X5, by omega, by omega, H5, (u3.on f4).step s5⟩, by show j - Int.toNat ((i : Int) + 1) < j - i; omega⟩
    · obtain rfl : i = j := by omega
      rw [if_neg (by simp)]
      obtain ⟨q1, q2, q3, q4, q5⟩ := c_none i hk2 hk1
      have held : Held (Cs i) := fun e he => by
        have := List.all_eq_true.1 q5 e he
        obtain ⟨z, hz, ez⟩ := List.any_eq_true.1 this
        exact ⟨z, hz, by simpa using ez⟩
      have eat : IntKind.wrap .u64 (IntKind.wrap .i64 (99 + ((1 + a : Nat) : Int))) = ((100 + a : Nat) : Int) := by
        rw [wrap_id (by omega) (by omega), wrap_u64 (by omega) (by omega)]; omega
      have last : ∀ g X (e : Int), Ct g t X (Cs i) → UpF h X g → (16 ≤ i → e = 4) → if (i : Int) = 0 then False else
          JoinP (fun (v_at : Int) (h_20 : Heap) =>
            CallsH Try.prog F.law21_home #[] h_20 fun v_9 h_21 =>
            ∃ (t102_0 : Bool), ∃ (t102_1 : Int), ∃ (t102_2 : Int), ∃ (t102_3 : ByteArray), ∃ (t102_4 : ByteArray), v_9 = .agg #[.bool t102_0, .int .u64 t102_1, .int .u64 t102_2, .string t102_3, .string t102_4] ∧
            CallsH Try.prog F.copies_Table_Lease #[.pointer (some ⟨t, 0, none⟩), .agg #[.bool t102_0, .int .u64 t102_1, .int .u64 t102_2, .string t102_3, .string t102_4], .int .i64 8, .int .u64 300] h_21 fun v_10 h_22 =>
            ∃ (t103_0_0 : Int), ∃ (t103_0_1 : Bool), ∃ (t103_0_2 : Int), ∃ (t103_0_3 : Int), ∃ (t103_0_4 : ByteArray), ∃ (t103_0_5 : ByteArray), ∃ (t103_0_6_p : Option Addr) (t103_0_6_l t103_0_6_c : Nat), ∃ (t103_0_7 : Int), ∃ (t103_0_8 : Int), ∃ (t103_0_9 : Int), ∃ (t103_1 : Int), v_10 = .tuple #[.agg #[.int .i64 t103_0_0, .bool t103_0_1, .int .u64 t103_0_2, .int .u64 t103_0_3, .string t103_0_4, .string t103_0_5, .slice t103_0_6_p t103_0_6_l t103_0_6_c, .int .u64 t103_0_7, .int .i64 t103_0_8, .int .u64 t103_0_9], .int .i64 t103_1] ∧
            NewP h_22 (.cells #[.int .i64 0, .bool false, .int .u64 0, .int .u64 0, .string (⟨#[]⟩ : ByteArray), .string (⟨#[]⟩ : ByteArray), .slice none 0 0, .int .u64 0, .int .i64 0, .int .u64 0] T.copies_Copy) fun b_4 h_23 =>
            copies_Copy.ST h_23 ⟨b_4, 0, none⟩ t103_0_0 t103_0_1 t103_0_2 t103_0_3 t103_0_4 t103_0_5 t103_0_6_p t103_0_6_l t103_0_6_c t103_0_7 t103_0_8 t103_0_9 fun h_24 =>
            CallsH Try.prog F.law21_alive #[] h_24 fun v_11 h_25 =>
            ∃ (t106 : Bool), v_11 = .bool t106 ∧
            if t106 = true then
              if (t103_1 == 0) = true then
                ∃ (t113 : Int), hcell h_25 ⟨b_4, 0, none⟩ = some (.int .i64 t113) ∧
                if (t113 == v_at) = true then
                  ∃ (t119 : Int), hcell h_25 ⟨b_4, 8, none⟩ = some (.int .i64 t119) ∧
                  if (t119 == 8) = true then
                    if (((if i < 16 then (0 : Int) else 15) == 15) == ((i : Int) == 16)) = true then
                      if (decide ((i : Int) < 16)) = true then
                        R (.bool true) h_25
                      else
                        R (.bool (e == 4)) h_25
                    else
                      R (.bool false) h_25
                  else
                    R (.bool false) h_25
                else
                  R (.bool false) h_25
              else
                R (.bool false) h_25
            else
              R (.bool false) h_25)
          (fun J_2 =>
            if passes = true then
              CallsH Try.prog F.copies_Table_Pass #[.pointer (some ⟨t, 0, none⟩), .int .u64 ((100 + a : Nat) : Int)] g fun v_12 h_26 =>
              ∃ (t95_p : Option Addr) (t95_l t95_c : Nat), v_12 = .slice t95_p t95_l t95_c ∧
              J_2 1 h_26
            else
              CallsH Try.prog F.copies_Table_Release #[.pointer (some ⟨t, 0, none⟩), .int .i64 ((1 + a : Nat) : Int), .int .i64 7] g fun v_13 h_27 =>
              ∃ (t98 : Int), v_13 = .int .i64 t98 ∧
              if (t98 != 0) = true then
                R (.bool false) h_27
              else
                J_2 ((1 + a : Nat) : Int) h_27) := by
        intro g X e H u he
        rw [if_neg (by omega)]
        refine JoinP.of fun J hJ => ?_
        have fin : ∀ g X s (z : Nat), Ct g t X s → UpF h X g → okb s = true → (leaseC s.L hm).map Cp.num = some z → J (z : Int) g := by
          intro g X s z H u ok hz
          subst hJ
          obtain ⟨y, hy, ey⟩ := Option.map_eq_some_iff.1 hz
          refine home_ok fun g4 f4 => ⟨_, _, _, _, _, rfl, lease1 (H.on f4) ok ⟨by omega, by omega, by omega⟩ (dl := 300) rfl hy fun b g5 X5 p5 c5 H5 s5 o5 hb5 => alive_ok fun g6 f6 => ⟨_, rfl, ?_⟩⟩
          have hb6 := f6.get hb5 id
          rw [if_pos (by rfl), if_pos (by rfl)]
          refine ⟨_, cell_at hb6 rfl, ?_⟩
          rw [if_pos (by rw [ey]; simp)]
          refine ⟨_, cell_at hb6 rfl, ?_⟩
          rw [if_pos (by rfl)]
          have hk' := hk g6 (((u.on f4).step s5).fr.tt f6)
          by_cases h16 : i < 16
          · have h16' : (i : Int) < 16 := by omega
            have hne : ((i : Int) == 16) = false := by simp; omega
            rw [if_pos h16, hne, if_pos (by rfl), if_pos (decide_eq_true h16')]
            exact hk'
          · have h16' : ¬ (i : Int) < 16 := by omega
            have hne : ((i : Int) == 16) = true := by simp; omega
            rw [if_neg h16, hne, if_pos (by rfl), if_neg (by simp [h16']), he (by omega)]
            exact hk'
        cases passes with
        | true =>
          rw [if_pos rfl]
          obtain ⟨c1, c2⟩ := c_pass i hk2 a ha
          exact pass_ok H (okb_ok q3).1 (by omega) held _ fun g2 X2 p2 c2' H2 s2 _ _ => ⟨_, _, _, rfl, fin g2 X2 _ 1 H2 (u.step s2) c1 c2⟩
        | false =>
          rw [if_neg (by decide)]
          obtain ⟨c1, c2, c3⟩ := c_rel i hk2 a ha
          refine release_ok H (okb_ok q3).1 _ 7 fun g2 X2 H2 s2 => ⟨_, rfl, ?_⟩
          rw [c1, if_neg (by decide)]
          exact fin g2 X2 _ (1 + a) H2 (u.step s2) c2 c3
      rw [eat]
      refine home_ok fun g4 f4 => ⟨_, _, _, _, _, rfl, ?_⟩
      cases hl : leaseC (Qs i (mk i) i).L hm with
      | none =>
        refine lease1n (H3.on f4) q2 ⟨by omega, by omega, by omega⟩ (dl := 200) rfl hl fun g5 f5 => last g5 X3 4 ?_ ((u3.on f4).on f5) (fun _ => rfl)
        unfold Cs
        rw [hl]
        exact (H3.on f4).on f5
      | some z =>
        refine lease1 (H3.on f4) q2 ⟨by omega, by omega, by omega⟩ (dl := 200) rfl hl fun b g5 X5 p5 c5 H5 s5 o5 hb5 => last g5 X5 0 ?_ ((u3.on f4).step s5) (fun h16 => by rw [q1 h16] at hl; cases hl)
        unfold Cs
        rw [hl]
        exact H5
end Cps
end Go.Proofs.Ytgccegnmggjkjaa
