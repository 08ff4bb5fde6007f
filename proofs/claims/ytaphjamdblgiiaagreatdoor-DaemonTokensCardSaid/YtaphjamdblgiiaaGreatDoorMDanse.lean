/-
  What is proved here: parts of the proof, one behind the other (texts of this work, merged by a program; what the theorem does not use is left out). No condition.
-/
import Derived.Test.YtaphjamdblgiiaaGreatDoorMDansd
set_option linter.defProp false
set_option maxRecDepth 100000
set_option maxHeartbeats 4000000
namespace Go.Proofs.YtaphjamdblgiiaaGreatDoor
open Go.Den
open IntKind (wrap)
open Int (toNat)
section
namespace Opn
open Stt
variable {h:Heap} {R:TyP} {s k k1 bo t n:Nat} {X X':Ft} {I:Ids} {σ:SS}
def rpO (σ : SS) (t : Nat) : reply_Reply.S := if Ses.openE σ.A t = 0 then { reply_Reply.S.z with f2 := Ses.openN σ.A t, f4 := (t : Int) } else { reply_Reply.S.z with f1 := Ses.openE σ.A t }
theorem applyO_ok (H : Pt h s X I σ) (hn : σ.now = 0) (G : Stt.Good σ k) (G1 : Stt.Good (passS σ 0) k1) (hk8 : k ≤ 30000) (t1 : 1 ≤ t) (t2 : t ≤ 2147483648)
    (hk : ∀ g X', Pt g s X' I { passS σ 0 with A := Ses.openA σ.A t } → StepF X h X' g → R (.tuple #[(rpO σ t).agg, .int .i64 0]) g) : Cl 92 #[pt s, (eO t).agg] h R := by
  refine arrive_Apply.walk (event_Event.boxp (x := eO t) fun b h1 eb hb f1 => reply_Reply.boxp (x := reply_Reply.S.z) fun b1 h2 eb1 hb1 f2 => amade_ok ((H.on (f1.tt f2)).blk) ⟨_, rfl, iteF rfl (event_Event.ldp (f2.get hb id) (rightO_ok t1 t2 fun h3 f3 => ⟨_, rfl, iteF rfl ⟨_, cell_at (f3.get (f2.get hb id) id) rfl, ?_⟩⟩))⟩)
  have F3 := (f1.tt f2).tt f3
  have u1 := f1.1
  have u2 := f2.1
  have u3 := f3.1
  have lb := (Array.getElem?_eq_some_iff.1 hb).1
  have lb1 := (Array.getElem?_eq_some_iff.1 hb1).1
  have nx : ∀ y, h.size ≤ y → ¬ X.M y := fun y hy e => by have := H.lt y (.inl e); omega
  have e0 : passE σ 0 = 0 := by unfold passE; rw [hn]; rfl
  refine Stt.pass_ok 0 rfl (H.on F3) G hk8 fun h4 X4 H4 st4 => ⟨_, rfl, ?_⟩
  rw [show passA σ 0 = passS σ 0 from if_pos e0] at H4
  rw [e0]
  refine iteF rfl ?_
  have u4 := st4.fr.1
  have hb4 := st4.fr.get (f3.get (f2.get hb id) id) (nx b (by omega))
  have hb14 := st4.fr.get (f3.get hb1 id) (nx b1 (by omega))
  refine reply_Reply.boxp (x := reply_Reply.S.z) fun b2 h5 eb2 hb2 f5 => event_Event.ldp (f5.get hb4 id) ?_
  have nb2 : ¬ (X4.M b2 ∨ X4.D b2) := fun e => by have := H4.lt b2 e; omega
  have u5 := f5.1
  refine happenO_ok (bo := b2) (t := t) (H4.on f5) G1 hb2 nb2 fun h6 X6 H6 d6 f6 m6 n6 o6 => ⟨_, rfl, ?_⟩
  have n14 : ¬ X4.M b1 := fun e => by
    rcases st4.newM b1 e with q | q
    · exact nx b1 (by omega) q
    · omega
  have hb16 := f6.get (f5.get hb14 id) (fun e => e.elim n14 (fun e => by omega))
  have st : ∀ g, Fr (fun y => y = b1) h6 g → StepF X h X6 g := fun g f => by
    refine ⟨((F3.no st4.fr).trans (f5.no f6) (fun _ _ => id) (fun y yl e => ?_)).trans f (fun _ _ => id) (fun y yl e => by omega), fun y e => ?_, fun y e => ?_, fun y e => o6 y (st4.oldD y e)⟩
    · rcases e with e | e
      · exact (st4.newM y e).resolve_right (by omega)
      · omega
    · rcases m6 y e with q | q
      · exact (st4.newM y q).imp id (fun q => by omega)
      · exact .inr (by omega)
    · rcases n6 y e with q | q
      · exact (st4.newD y q).imp id (fun q => by omega)
      · exact .inr (by omega)
  have n6b : ∀ y, X6.M y ∨ X6.D y → ¬ y = b1 := fun y e q => by
    subst q
    rcases e with e | e
    · rcases m6 _ e with q | q
      · exact n14 q
      · omega
    · rcases n6 _ e with q | q
      · rcases st4.newD _ q with q | q
        · have := H.lt _ (.inr q); omega
        · omega
      · omega
  unfold rpO at hk
  by_cases c : Ses.openE σ.A t = 0
  · rw [if_pos c] at hk
    rw [show Ses.openE (passS σ 0).A t = 0 from c]
    refine iteF rfl (reply_Reply.ldp d6 (reply_Reply.setp hb16 fun h7 d7 f7 _ => reply_Reply.ldp d7 (hk h7 X6 (H6.frame f7 n6b) (st h7 f7))))
  · rw [if_neg c] at hk
    refine iteT (by simp; exact c) (Rep.fail_ok 0 rfl _ fun h7 f7 => reply_Reply.ex { reply_Reply.S.z with f1 := Ses.openE σ.A t } ⟨rfl, reply_Reply.setp (f7.get hb16 id) fun h8 d8 f8 _ => reply_Reply.ldp d8 (hk h8 X6 ((H6.on f7).frame f8 n6b) (st h8 (f7.no f8)))⟩)
def rpD (σ : SS) (n : Nat) : reply_Reply.S := if Ses.downE σ.A (n : Int) = 0 then reply_Reply.S.z else { reply_Reply.S.z with f1 := Ses.downE σ.A (n : Int) }
theorem applyD_ok (H : Pt h s X I σ) (hn : σ.now = 0) (G : Stt.Good σ k) (G1 : Stt.Good (passS σ 0) k1) (hk8 : k ≤ 30000) (t1 : 1 ≤ n) (t2 : n ≤ 1099511627776)
    (hk : ∀ g X', Pt g s X' I { passS σ 0 with A := Ses.downA σ.A (n : Int) } → StepF X h X' g → R (.tuple #[(rpD σ n).agg, .int .i64 0]) g) : Cl 92 #[pt s, (eD n).agg] h R := by
  refine arrive_Apply.walk (event_Event.boxp (x := eD n) fun b h1 eb hb f1 => reply_Reply.boxp (x := reply_Reply.S.z) fun b1 h2 eb1 hb1 f2 => amade_ok ((H.on (f1.tt f2)).blk) ⟨_, rfl, iteF rfl (event_Event.ldp (f2.get hb id) (rightD_ok t1 t2 fun h3 f3 => ⟨_, rfl, iteF rfl ⟨_, cell_at (f3.get (f2.get hb id) id) rfl, ?_⟩⟩))⟩)
  have F3 := (f1.tt f2).tt f3
  have u1 := f1.1
  have u2 := f2.1
  have u3 := f3.1
  have lb := (Array.getElem?_eq_some_iff.1 hb).1
  have lb1 := (Array.getElem?_eq_some_iff.1 hb1).1
  have nx : ∀ y, h.size ≤ y → ¬ X.M y := fun y hy e => by have := H.lt y (.inl e); omega
  have e0 : passE σ 0 = 0 := by unfold passE; rw [hn]; rfl
  refine Stt.pass_ok 0 rfl (H.on F3) G hk8 fun h4 X4 H4 st4 => ⟨_, rfl, ?_⟩
  rw [show passA σ 0 = passS σ 0 from if_pos e0] at H4
  rw [e0]
  refine iteF rfl ?_
  have u4 := st4.fr.1
  have hb4 := st4.fr.get (f3.get (f2.get hb id) id) (nx b (by omega))
  have hb14 := st4.fr.get (f3.get hb1 id) (nx b1 (by omega))
  refine reply_Reply.boxp (x := reply_Reply.S.z) fun b2 h5 eb2 hb2 f5 => event_Event.ldp (f5.get hb4 id) ?_
  have nb2 : ¬ (X4.M b2 ∨ X4.D b2) := fun e => by have := H4.lt b2 e; omega
  have u5 := f5.1
  refine happenD_ok (bo := b2) (n := n) (H4.on f5) G1 fun h6 X6 H6 s6 => ⟨_, rfl, ?_⟩
  have f6 := s6.fr
  have m6 := s6.newM
  have n6 := s6.newD
  have o6 := s6.oldD
  have d6 := f6.get hb2 (fun e => nb2 (.inl e))
  have u6 := f6.1
  have n14 : ¬ X4.M b1 := fun e => by
    rcases st4.newM b1 e with q | q
    · exact nx b1 (by omega) q
    · omega
  have hb16 := f6.get (f5.get hb14 id) n14
  have st : ∀ g, Fr (fun y => y = b1) h6 g → StepF X h X6 g := fun g f => by
    refine ⟨((F3.no st4.fr).trans (f5.no f6) (fun _ _ => id) (fun y yl e => ?_)).trans f (fun _ _ => id) (fun y yl e => by omega), fun y e => ?_, fun y e => ?_, fun y e => o6 y (st4.oldD y e)⟩
    · exact (st4.newM y e).resolve_right (by omega)
    · rcases m6 y e with q | q
      · exact (st4.newM y q).imp id (fun q => by omega)
      · exact .inr (by omega)
    · rcases n6 y e with q | q
      · exact (st4.newD y q).imp id (fun q => by omega)
      · exact .inr (by omega)
  have n6b : ∀ y, X6.M y ∨ X6.D y → ¬ y = b1 := fun y e q => by
    subst q
    rcases e with e | e
    · rcases m6 _ e with q | q
      · exact n14 q
      · omega
    · rcases n6 _ e with q | q
      · rcases st4.newD _ q with q | q
        · have := H.lt _ (.inr q); omega
        · omega
      · omega
  unfold rpD at hk
  by_cases c : Ses.downE σ.A (n : Int) = 0
  · rw [if_pos c] at hk
    rw [show Ses.downE (passS σ 0).A (n : Int) = 0 from c]
    refine iteF rfl (reply_Reply.ldp d6 (reply_Reply.setp hb16 fun h7 d7 f7 _ => reply_Reply.ldp d7 (hk h7 X6 (H6.frame f7 n6b) (st h7 f7))))
  · rw [if_neg c] at hk
    refine iteT (by simp; exact c) (Rep.fail_ok 0 rfl _ fun h7 f7 => reply_Reply.ex { reply_Reply.S.z with f1 := Ses.downE σ.A (n : Int) } ⟨rfl, reply_Reply.setp (f7.get hb16 id) fun h8 d8 f8 _ => reply_Reply.ldp d8 (hk h8 X6 ((H6.on f7).frame f8 n6b) (st h8 (f7.no f8)))⟩)

end Opn
end
section
namespace Flu
open Dsk Jnl Stt
variable {h h':Heap} {R:TyP} {l j d n s:Nat} {X XJ XS:Ft} {ds:DS} {x:JN} {I:Ids} {σ:SS}
structure LgA (h : Heap) (l j d s : Nat) (XJ XS : Ft) (n : Nat) (x : JN) (ds : DS) (I : Ids) (σ : SS) : Prop where
  blk : h[l]? = some (.cells #[.pointer (some ⟨j, 0, none⟩), pt s, .int .i64 (room n : Int)] 94 (0, 0))
  jn : Jn h j d XJ n x ds
  st : Pt h s XS I σ
  js : ∀ y, XJ.M y → ¬ (XS.M y ∨ XS.D y)
  lj : ¬ XJ.M l
  ls : ¬ (XS.M l ∨ XS.D l)
def ftL (l : Nat) (XJ XS : Ft) : Ft := ⟨fun y => y = l ∨ XJ.M y ∨ XS.M y, XS.D⟩
def Lg (h : Heap) (l : Nat) (X : Ft) (n : Nat) (x : JN) (ds : DS) (σ : SS) : Prop := ∃ j d s XJ XS I, LgA h l j d s XJ XS n x ds I σ ∧ X = ftL l XJ XS
theorem LgA.ll (A : LgA h l j d s XJ XS n x ds I σ) : l < h.size := (Array.getElem?_eq_some_iff.1 A.blk).1
theorem Lg.lt (H : Lg h l X n x ds σ) (y : Nat) (hy : X.M y ∨ X.D y) : y < h.size := by
  obtain ⟨j, d, s, XJ, XS, I, A, rfl⟩ := H
  rcases hy with (rfl | e | e) | e
  · exact A.ll
  · exact A.jn.lt y e
  · exact A.st.lt y (.inl e)
  · exact A.st.lt y (.inr e)
theorem Lg.frame {Q : Nat → Prop} (H : Lg h l X n x ds σ) (f : Fr Q h h') (hq : ∀ y, X.M y ∨ X.D y → ¬ Q y) : Lg h' l X n x ds σ := by
  obtain ⟨j, d, s, XJ, XS, I, A, rfl⟩ := H
  exact ⟨j, d, s, XJ, XS, I, ⟨f.get A.blk (hq l (.inl (.inl rfl))), A.jn.frame f (fun y e => hq y (.inl (.inr (.inl e)))), A.st.frame f (fun y e => hq y (e.imp (fun e => .inr (.inr e)) id)), A.js, A.lj, A.ls⟩, rfl⟩
theorem made_ok (A : LgA h l j d s XJ XS n x ds I σ) (hk : R (.bool true) h) : Cl 72 #[.pointer (some ⟨l, 0, none⟩)] h R :=
  flush_Log_made.walk ⟨_, cell_at A.blk rfl, hk⟩
theorem State_ok (A : LgA h l j d s XJ XS n x ds I σ) (hk : R (pt s) h) : Cl 12 #[.pointer (some ⟨l, 0, none⟩)] h R :=
  flush_Log_State.walk ⟨_, cell_at A.blk rfl, hk⟩
theorem Done_ok (H : Lg h l X n x ds σ) (hk : R (.int .i64 x.done) h) : Cl 32 #[.pointer (some ⟨l, 0, none⟩)] h R := by
  obtain ⟨j, d, s, XJ, XS, I, A, rfl⟩ := H
  refine flush_Log_Done.walk (made_ok A ⟨_, rfl, ?_⟩)
  rw [if_neg (by decide)]
  exact ⟨_, cell_at A.blk rfl, Jnl.Done_ok A.jn ⟨_, rfl, hk⟩⟩
theorem LgA.put_j {x' : JN} {ds' : DS} {XJ' : Ft} (A : LgA h l j d s XJ XS n x ds I σ) (J : Jn h' j d XJ' n x' ds') (st : StepF XJ h XJ' h') : LgA h' l j d s XJ' XS n x' ds' I σ ∧ StepF (ftL l XJ XS) h (ftL l XJ' XS) h' := by
  have nJ : ∀ y, XS.M y ∨ XS.D y → ¬ XJ.M y := fun y hy e => A.js y e hy
  refine ⟨⟨st.fr.get A.blk A.lj, J, A.st.frame st.fr nJ, fun y e q => ?_, fun e => ?_, A.ls⟩, ⟨st.fr.mono fun y _ e => .inr (.inl e), ?_, fun y => .inl, fun y => id⟩⟩
  · rcases st.newM y e with e | e
    · exact A.js y e q
    · have := A.st.lt y q; omega
  · rcases st.newM l e with e | e
    · exact A.lj e
    · have := A.ll; omega
  · rintro y (e | e | e)
    · exact .inl (.inl e)
    · exact (st.newM y e).imp (fun e => .inr (.inl e)) id
    · exact .inl (.inr (.inr e))
theorem Step_ok (H : Lg h l X n x ds σ) (hn : x.stage = 0 → x.next ≠ []) (hg : x.gen < 1099511627776) (hw : ds.W.length + x.next.length ≤ 100000)
    (hk : ∀ g X', Lg g l X' n (x.step n ds).1 (x.step n ds).2 σ → StepF X h X' g → R (.tuple #[.int .i64 ((x.step n ds).1.stage : Int), .int .i64 0]) g) : Cl 35 #[.pointer (some ⟨l, 0, none⟩)] h R := by
  obtain ⟨j, d, s, XJ, XS, I, A, rfl⟩ := H
  refine flush_Log_Step.walk (made_ok A ⟨_, rfl, ?_⟩)
  rw [if_neg (by decide)]
  refine ⟨_, cell_at A.blk rfl, Jnl.Step_ok A.jn hn hg hw fun g XJ' J st => ⟨_, _, rfl, ?_⟩⟩
  obtain ⟨A', st'⟩ := A.put_j J st
  exact hk g _ ⟨j, d, s, XJ', XS, I, A', rfl⟩ st'
theorem LgA.put_s {σ' : SS} {XS' : Ft} (A : LgA h l j d s XJ XS n x ds I σ) (S : Pt h' s XS' I σ') (st : StepF XS h XS' h') : LgA h' l j d s XJ XS' n x ds I σ' ∧ StepF (ftL l XJ XS) h (ftL l XJ XS') h' := by
  have nS : ∀ y, XJ.M y → ¬ XS.M y := fun y hy e => A.js y hy (.inl e)
  have gr : ∀ y, y < h.size → ¬ (XS.M y ∨ XS.D y) → ¬ (XS'.M y ∨ XS'.D y) := fun y yl hn e => by
    rcases e with e | e
    · exact (st.newM y e).elim (fun e => hn (.inl e)) (fun e => by omega)
    · exact (st.newD y e).elim (fun e => hn (.inr e)) (fun e => by omega)
  refine ⟨⟨st.fr.get A.blk (fun e => A.ls (.inl e)), A.jn.frame st.fr nS, S, fun y e => gr y (A.jn.lt y e) (A.js y e), A.lj, gr l A.ll A.ls⟩, ⟨st.fr.mono fun y _ e => .inr (.inr e), ?_, st.newD, st.oldD⟩⟩
  rintro y (e | e | e)
  · exact .inl (.inl e)
  · exact .inl (.inr (.inl e))
  · exact (st.newM y e).imp (fun e => .inr (.inr e)) id
theorem room_ok {m : Nat} (A : LgA h l j d s XJ XS n x ds I σ) (hf : x.fits n m) (hk : ∀ g, Fr No h g → R (.int .i64 0) g) : Cl 90 #[.pointer (some ⟨l, 0, none⟩), .int .i64 (m : Int)] h R := by
  refine flush_Log_room.walk ⟨_, cell_at A.blk rfl, Jnl.Fits_ok A.jn hf fun g f => ⟨_, rfl, ?_⟩⟩
  rw [if_pos rfl]
  exact hk g f

end Flu
end
section
namespace Stt
open Eid (Ev rightE ev5)
variable {h h':Heap} {R:TyP} {s k:Nat} {X:Ft} {I:Ids}
def mayE (x : Ev) : Prop := rightE x = true ∧ x ≠ Ev.zero
instance (x : Ev) : Decidable (mayE x) := by unfold mayE; infer_instance
theorem identNew_ok (x : Ev) (k1 : mayE x → ∀ h' b, Mk h' b x 0 0 → h.size ≤ b → Fr No h h' → R (.tuple #[pt b, .int .i64 0]) h')
    (k2 : ¬ mayE x → ∀ h', Fr No h h' → R (.tuple #[.pointer none, .int .i64 3]) h') : Cl 58 #[ev5 x] h R := by
  refine ident_New.walk (eid_Eid.box fun b h1 eb hb f1 => JoinP.of fun J hJ => eid_Eid.ld hb (Eid.right_ok x fun h2 f2 => ⟨_, rfl, ?_⟩))
  have hb2 := f2.get hb id
  cases hr : rightE x with
  | false =>
    subst hJ
    exact k2 (fun m => by rw [m.1] at hr; cases hr) h2 (f1.tt f2)
  | true =>
    refine eid_Eid.ld hb2 ⟨_, Eid.eqv' (y := Ev.zero) rfl rfl, ?_⟩
    subst hJ
    by_cases hz : x = Ev.zero
    · rw [decide_eq_true hz]
      dsimp only
      exact k2 (fun m => m.2 hz) h2 (f1.tt f2)
    · rw [decide_eq_false hz]
      dsimp only
      refine eid_Eid.ld hb2 (newP_of (k1 ⟨hr, hz⟩ _ _ push_new (Nat.le_trans f1.1 f2.1) ((f1.tt f2).tt (Fr.push _ _))))
theorem new_ok (x : Ev) (k1 : mayE x → ∀ h' s X I, Pt h' s X I (newS x) → UpF h X h' → R (.tuple #[pt s, .int .i64 0]) h')
    (k2 : ¬ mayE x → ∀ h', Fr No h h' → R (.tuple #[.pointer none, .int .i64 3]) h') : Cl 27 #[ev5 x] h R := by
  refine state_New.walk (eid_Eid.box fun b h1 eb hb f1 => eid_Eid.ld hb (identNew_ok x (fun hm h2 k M2 g2 f2 => ⟨_, _, rfl, ?_⟩) (fun hm h2 f2 => ⟨_, _, rfl, ?_⟩)))
  · rw [if_neg (by decide)]
    refine Quota.new_ok 4800 1600 (fun _ h3 p m P3 g3 g3' f3 => ⟨_, _, rfl, ?_⟩) (fun e => absurd e (by decide))
    rw [if_neg (by decide)]
    refine Ses.new_ok fun h4 t X0 H4 f4 u4 => ⟨_, rfl, Regs.new_ok fun h5 r X1 H5 u5 => ⟨_, rfl, Cps.new_ok fun h6 c X2 H6 u6 => ⟨_, rfl, Obx.new_ok fun h7 o X3 H7 f7 u7 => ⟨_, rfl, newP_of ?_⟩⟩⟩⟩
    have f8 : Fr No h7 (h7.push (.cells #[.pointer (some ⟨t, 0, none⟩), .pointer (some ⟨r, 0, none⟩), .pointer (some ⟨c, 0, none⟩), .pointer (some ⟨o, 0, none⟩), .pointer (some ⟨p, 0, none⟩), .pointer (some ⟨k, 0, none⟩), .int .u64 0, .int .i64 0] 102)) := Fr.push _ _
    have B8 : (h7.push (.cells #[.pointer (some ⟨t, 0, none⟩), .pointer (some ⟨r, 0, none⟩), .pointer (some ⟨c, 0, none⟩), .pointer (some ⟨o, 0, none⟩), .pointer (some ⟨p, 0, none⟩), .pointer (some ⟨k, 0, none⟩), .int .u64 0, .int .i64 0] 102))[h7.size]? = _ := push_new
    have z8 : (h7.push (.cells #[.pointer (some ⟨t, 0, none⟩), .pointer (some ⟨r, 0, none⟩), .pointer (some ⟨c, 0, none⟩), .pointer (some ⟨o, 0, none⟩), .pointer (some ⟨p, 0, none⟩), .pointer (some ⟨k, 0, none⟩), .int .u64 0, .int .i64 0] 102)).size = h7.size + 1 := Array.size_push _
    generalize h7.push (.cells #[.pointer (some ⟨t, 0, none⟩), .pointer (some ⟨r, 0, none⟩), .pointer (some ⟨c, 0, none⟩), .pointer (some ⟨o, 0, none⟩), .pointer (some ⟨p, 0, none⟩), .pointer (some ⟨k, 0, none⟩), .int .u64 0, .int .i64 0] 102) = h8 at f8 B8 z8 ⊢
    have F7 := f7.tt f8
    have F6 := u6.fr.tt F7
    have F5 := u5.fr.tt F6
    have F4 := f4.tt F5
    have F3 := f3.tt F4
    have F8 := f1.tt (f2.tt F3)
    have z1 := f1.1
    have z2 := f2.1
    have z3 := f3.1
    have z4 := f4.1
    have z5 := u5.fr.1
    have z6 := u6.fr.1
    have z7 := f7.1
    have lp := P3.lt
    have lk := lt_of_get M2
    let Y : Nat → Ft := fun i => match i with
      | 0 => X0 | 1 => X1 | 2 => X2 | 3 => X3
      | 4 => ⟨fun y => y = p ∨ y = m, fun _ => False⟩
      | 5 => ⟨fun y => y = k, fun _ => False⟩
      | 6 => ⟨fun y => y = h7.size, fun _ => False⟩
      | _ => ⟨fun _ => False, fun _ => False⟩
    let lo : Nat → Nat := fun i => [h3.size, h4.size, h5.size, h6.size, h2.size, h1.size].getD i h7.size
    let hi : Nat → Nat := fun i => [h4.size, h5.size, h6.size, h7.size, h3.size, h2.size].getD i h8.size
    have bd : ∀ i y, In (Y i) y → lo i ≤ y ∧ y < hi i := fun i y hy => by
      rcases i with _ | _ | _ | _ | _ | _ | _ | i
      · exact ⟨u4 y hy, H4.lt y hy⟩
      · exact ⟨u5.ge y hy, H5.lt y hy⟩
      · exact ⟨u6.ge y hy, H6.lt y hy⟩
      · exact ⟨u7 y hy, H7.lt y hy⟩
      · rcases hy with hy | hy
        · grind
        · exact hy.elim
      · rcases hy with hy | hy
        · have hy : y = k := hy
          exact ⟨hy ▸ g2, hy ▸ lk⟩
        · exact hy.elim
      · rcases hy with hy | hy
        · grind
        · exact hy.elim
      · rcases hy with hy | hy <;> exact hy.elim
    refine k1 hm h8 h7.size ⟨fun y => ∃ i, (Y i).M y, fun y => ∃ i, (Y i).D y⟩ ⟨t, r, c, o, p, k⟩ ⟨Y, fun i => ?_, fun i j y hij hy hz => ?_, fun _ => Iff.rfl, fun _ => Iff.rfl⟩ ⟨F8, fun y hy => ?_⟩
    · rcases i with _ | _ | _ | _ | _ | _ | _ | i
      · exact H4.frame F5 (fun _ _ => id)
      · exact H5.on F6
      · exact H6.on F7
      · exact Obx.Box.on ⟨[], H7, Obx.okB.nil⟩ f8
      · exact ⟨m, P3.frame F4 id id, fun y => ⟨Iff.rfl, id⟩⟩
      · exact ⟨F3.get M2 id, fun y => ⟨Iff.rfl, id⟩⟩
      · exact ⟨B8, fun y => ⟨Iff.rfl, id⟩⟩
      · exact fun y hy => hy.elim id id
    · have h1 := bd i y hy
      have h2 := bd j y hz
      have e7 : ∀ i, ¬ In (Y (i + 7)) y := fun i hy => hy.elim id id
      rcases i with _ | _ | _ | _ | _ | _ | _ | i <;> first | exact e7 i hy | (rcases j with _ | _ | _ | _ | _ | _ | _ | j <;> first | exact e7 j hz | exact hij rfl | (simp only [lo, hi, List.getD_cons_zero, List.getD_cons_succ, List.getD_nil] at h1 h2; omega))
    · have key : ∀ i, In (Y i) y → h.size ≤ y := fun i a => by
        have h1 := (bd i y a).1
        rcases i with _ | _ | _ | _ | _ | _ | _ | i <;> (simp only [lo, List.getD_cons_zero, List.getD_cons_succ, List.getD_nil] at h1; omega)
      rcases hy with ⟨i, a⟩ | ⟨i, a⟩
      · exact key i (.inl a)
      · exact key i (.inr a)
  · rw [if_pos (by decide)]
    exact k2 hm h2 (f1.tt f2)

end Stt
end
end Go.Proofs.YtaphjamdblgiiaaGreatDoor
namespace Go.Den
theorem StepF.fresh {F F1 : Ft} {h h1 h2 : Heap} {Q : Nat → Prop} (a : StepF F h F1 h1) (f : Fr Q h1 h2) (hq : ∀ y, Q y → h.size ≤ y) : StepF F h F1 h2 :=
  ⟨a.fr.trans f (fun _ _ => id) (fun y yl e => absurd (hq y e) (by omega)), a.newM, a.newD, a.oldD⟩
end Go.Den
namespace Go.Proofs.YtaphjamdblgiiaaGreatDoor
open Go.Den
namespace Flu
open Dsk Jnl Opn Sup
open Stt hiding Good
variable {h h0 h' : Heap} {R : Value → Heap → Prop} {l j d n s : Nat} {X XJ XS XD : Ft} {ds : DS} {x : JN} {I : Ids} {σ σ' : SS} {e : Eid.Ev} {A : List Ses.Ses}
abbrev sA (e : Eid.Ev) (A : List Ses.Ses) : SS := { newS e with A := A }
theorem sA_good (he : mayE e) (h3 : 0 ≤ e.svc) (o : Ses.okA A) : Stt.Good (sA e A) 0 := by
  have G := Stt.Good.new he.1 he.2 h3
  exact ⟨o, G.g, G.c, G.b, G.v, G.q, G.ok, G.n, G.e, G.t, G.r⟩
theorem Lg.dis (H : Lg h l X n x ds σ) (y : Nat) (hm : X.M y) (hd : X.D y) : False := by
  obtain ⟨j, d, s, XJ, XS, I, A, rfl⟩ := H
  rcases hm with rfl | e | e
  · exact A.ls (.inr hd)
  · exact A.js y e (.inr hd)
  · exact A.st.dis y e hd
theorem LgA.frame {Q : Nat → Prop} (A : LgA h l j d s XJ XS n x ds I σ) (f : Fr Q h h') (hq : ∀ y, (ftL l XJ XS).M y ∨ (ftL l XJ XS).D y → ¬ Q y) : LgA h' l j d s XJ XS n x ds I σ :=
  ⟨f.get A.blk (hq l (.inl (.inl rfl))), A.jn.frame f (fun y e => hq y (.inl (.inr (.inl e)))), A.st.frame f (fun y e => hq y (e.imp (fun e => .inr (.inr e)) id)), A.js, A.lj, A.ls⟩
theorem LgA.on (A : LgA h l j d s XJ XS n x ds I σ) (f : Fr No h h') : LgA h' l j d s XJ XS n x ds I σ := A.frame f (fun _ _ => id)
theorem LgA.lg (A : LgA h l j d s XJ XS n x ds I σ) : Lg h l (ftL l XJ XS) n x ds σ := ⟨j, d, s, XJ, XS, I, A, rfl⟩
theorem Format_ok (he : mayE e) (H : Dk h d XD n ds) (h4 : 4 ≤ n) (h5 : n ≤ 4096) (hw : ds.W.length ≤ 1000)
    (hk : ∀ g l X, Lg g l X n jn0 (ds.put 1 (supB ⟨1, 0, 0⟩)).sync (newS e) → Fr XD.M h g → (∀ y, X.M y ∨ X.D y → XD.M y ∨ h.size ≤ y) → R (.tuple #[pt l, .int .i64 0]) g) :
    Cl 10 #[.pointer (some ⟨d, 0, none⟩), Eid.ev5 e] h R := by
  refine flush_Format.walk (self := e.s) (eid_Eid.boxp fun b h1 eb hb f1 => eid_Eid.ldp hb (Stt.new_ok e (fun _ h2 s XS I H2 u2 => ⟨_, _, rfl, iteF rfl (Jnl.Format_ok (H.on (f1.tt u2.fr)) h4 h5 hw fun h3 j XJ J3 st3 => ⟨_, _, rfl, iteF rfl ?_⟩)⟩) (fun q => absurd he q)))
  have u1 := f1.1
  have z2 := u2.fr.1
  have z3 := st3.fr.1
  have sl : ∀ y, XS.M y ∨ XS.D y → h.size ≤ y ∧ y < h2.size := fun y hy => ⟨by have := u2.ge y hy; omega, H2.lt y hy⟩
  have xl : ∀ y, XD.M y → y < h.size := fun y hy => H.lt y hy
  have S3 := H2.frame st3.fr (fun y hy e => by have := sl y hy; have := xl y e; omega)
  obtain ⟨XD3, q, cq, A3⟩ := id J3
  refine half_ok A3.dk h4 h5 fun h4' f4 => ⟨_, rfl, newP_of ?_⟩
  have z4 := f4.1
  have f5 : Fr No h4' (h4'.push (.cells #[pt j, pt s, .int .i64 (room n : Int)] 94)) := Fr.push _ _
  have jl : ∀ y, XJ.M y → (XD.M y ∨ h2.size ≤ y) ∧ y < h3.size := fun y hy => ⟨st3.newM y hy, J3.lt y hy⟩
  refine hk _ h4'.size _ (LgA.lg ⟨push_new, (J3.on f4).on f5, (S3.on f4).on f5, fun y hy q => ?_, fun q => ?_, fun q => ?_⟩) ((f1.tt u2.fr).no (st3.fr.on (f4.tt f5))) ?_
  · have := sl y q
    rcases (jl y hy).1 with a | a
    · have := xl y a; omega
    · omega
  · have := (jl _ q).2; omega
  · have := sl _ q; omega
  · rintro y ((a | a | a) | a)
    · exact .inr (by omega)
    · exact (jl y a).1.imp id (fun a => by omega)
    · exact .inr (sl y (.inl a)).1
    · exact .inr (sl y (.inr a)).1
theorem Do_ok {ev : event_Event.S} {b : List UInt8} {rp : reply_Reply.S} (H : Lg h l X n x ds σ) (h0 : ev.f0 = (σ.now : Int)) (h8 : ev.f1 ≠ 8)
    (hw : ∀ {h : Heap} {R : Value → Heap → Prop}, (∀ g p c, Own g p b.length c 1 (bc b) → Fr No h g → (∀ y, inBlk p y → h.size ≤ y) → R (.tuple #[.slice p b.length c, .int .i64 0]) g) → Cl 89 #[ev.agg] h R)
    (ha : ∀ {h : Heap} {R : Value → Heap → Prop} {s : Nat} {X : Ft} {I : Ids}, Pt h s X I σ → (∀ g X', Pt g s X' I σ' → StepF X h X' g → R (.tuple #[rp.agg, .int .i64 0]) g) → Cl 92 #[pt s, ev.agg] h R)
    (b0 : 1 ≤ b.length) (b1 : b.length ≤ 100) (hf : x.fits n (b.length + 1 + 16)) (hx : x.all ≤ 1000000000)
    (hk : ∀ g X', Lg g l X' n (x.app (69 :: b)) ds σ' → StepF X h X' g → R (.tuple #[rp.agg, .int .i64 ((x.all + 1 : Nat) : Int), .int .i64 0]) g) : Cl 45 #[.pointer (some ⟨l, 0, none⟩), ev.agg] h R := by
  obtain ⟨j, d, s, XJ, XS, I, A, rfl⟩ := H
  refine flush_Log_Do.walk (event_Event.boxp (x := ev) fun bx h1 e1 hx1 f1 => reply_Reply.boxp (x := reply_Reply.S.z) fun br h2 e2 hr2 f2 => made_ok (A.on (f1.tt f2)) ⟨_, rfl, iteF rfl (event_Event.ldp (f2.get hx1 id) (hw fun h3 p c o3 f3 g3 => ⟨_, _, _, _, rfl, iteF rfl ?_⟩))⟩)
  have u1 := f1.1
  have u2 := f2.1
  have u3 := f3.1
  have lx := (Array.getElem?_eq_some_iff.1 hx1).1
  have lr := (Array.getElem?_eq_some_iff.1 hr2).1
  have F3 := (f1.tt f2).tt f3
  have A3 := A.on F3
  refine ⟨_, cell_at (f3.get (f2.get hx1 id) id) rfl, _, cell_at A3.blk rfl, onSome_some.2 ⟨_, cell_at A3.st.blk rfl, iteF (decide_eq_false (by rw [h0]; exact Int.lt_irrefl _)) (newP_of ?_)⟩⟩
  have f4 : Fr No h3 (h3.push (.cells #[.int .u8 69] 5)) := Fr.push _ _
  have r : Row (h3.push (.cells #[.int .u8 69] 5)) (some ⟨h3.size, 0, none⟩) (bc [69]) := row_new (cs := bc [69])
  refine den_appendS Fld.tU Fld.uU (bs := [69]) ⟨rfl, .inr ⟨r, rfl⟩⟩ (o3.row'.frame f4 (fun _ _ => id)) rfl b0 (by omega) fun p5 c5 h5 o5 f5 g5 => ⟨_, _, _, rfl, ?_⟩
  have nb : ∀ y, inBlk (some ⟨h3.size, 0, none⟩) y → h3.size ≤ y := fun y ⟨a, e, hy⟩ => by cases e; exact hy ▸ Nat.le_refl _
  have F35 : Fr No h3 h5 := f4.fresh f5 nb
  have u5 := F35.1
  have A5 := A3.on F35
  have x5 := F35.get (f3.get (f2.get hx1 id) id) id
  have r5 := F35.get (f3.get hr2 id) id
  refine ⟨_, cell_at x5 rfl, JoinP.of fun J hJ => iteT (by simp; exact h8) ?_⟩
  have ew : IntKind.wrap .i64 (((([69] : List UInt8) ++ b).length : Int) + 16) = ((b.length + 1 + 16 : Nat) : Int) := by
    rw [wrap_id (by simp; omega) (by simp; omega)]; simp
  rw [ew]
  subst hJ
  have hf2 : x.fits n (69 :: b).length := ⟨by simp, by simp; omega, by have := hf.2.2; simp; omega⟩
  refine room_ok A5 hf fun h6 f6 => ⟨_, rfl, iteF rfl ⟨_, cell_at (A5.on f6).blk rfl, Append_ok (A5.on f6).jn hf2 rfl (o5.row'.frame f6 (fun _ _ => id)) hx fun h7 XJ' J7 st7 => ⟨_, _, rfl, iteF rfl ?_⟩⟩⟩
  obtain ⟨A7, st7'⟩ := (A5.on f6).put_j J7 st7
  have u6 := f6.1
  have u7 := st7.fr.1
  have nj : ∀ y, h.size ≤ y → ¬ XJ.M y := fun y hy e => by have := A.jn.lt y e; omega
  have ns : ∀ y, h.size ≤ y → ¬ XS.M y := fun y hy e => by have := A.st.lt y (.inl e); omega
  have x7 := st7.fr.get (f6.get x5 id) (nj _ (by omega))
  have r7 := st7.fr.get (f6.get r5 id) (nj _ (by omega))
  have F6 : Fr No h h6 := (F3.tt F35).tt f6
  have lx7 := (Array.getElem?_eq_some_iff.1 x7).1
  have lr7 := (Array.getElem?_eq_some_iff.1 r7).1
  refine JoinP.of fun J1 hJ1 => ⟨_, cell_at A7.blk rfl, event_Event.ldp x7 ?_⟩
  have fin : ∀ g XS' b3, LgA g l j d s XJ' XS' n (x.app (69 :: b)) ds I σ' → StepF (ftL l XJ' XS) h7 (ftL l XJ' XS') g → reply_Reply.atp g b3 rp → reply_Reply.atp g br reply_Reply.S.z → J1 0 (some ⟨b3, 0, none⟩) g := fun g XS' b3 G st d3 dr => by
    subst hJ1
    refine onSome_some.2 (reply_Reply.ldp d3 (reply_Reply.setp dr fun g' d' f' _ => reply_Reply.ldp d' ?_))
    have st' := ((StepF.no F6 st7').trans st).fresh f' (fun y e => by have : y = br := e; omega)
    refine hk g' _ (LgA.lg (G.frame f' fun y hy e => ?_)) st'
    have e : y = br := e
    subst e
    have tot := (StepF.no F6 st7').trans st
    rcases hy with hy | hy
    · rcases st.newM y hy with q | q
      · rcases st7'.newM y q with q | q
        · rcases q with q | q | q
          · have := A.ll; omega
          · exact nj y (by omega) q
          · exact ns y (by omega) q
        · omega
      · omega
    · rcases tot.newD y hy with q | q
      · have := A.st.lt y (.inr q); omega
      · rcases st.newD y hy with q | q
        · have := A.st.lt y (.inr q); omega
        · omega
  refine ⟨ha A7.st fun h8 XS' S8 st8 => reply_Reply.ex rp ⟨_, rfl, reply_Reply.newp (x := rp) fun b3 h9 e9 d9 f9 => ?_⟩, newP_of ⟨(Fr.push _ _).kp, ?_⟩, trivial⟩
  · obtain ⟨A8, st8'⟩ := A7.put_s S8 st8
    exact fin h9 XS' b3 (A8.on f9) (st8'.on f9) d9 (f9.get (st8.fr.get r7 (ns _ (by omega))) id)
  · have f8 : Fr No h7 (h7.push (.cells reply_Reply.S.z.arr 37)) := Fr.push _ _
    refine ha (A7.on f8).st fun h8 XS' S8 st8 => reply_Reply.ex rp ⟨_, rfl, ?_⟩
    obtain ⟨A8, st8'⟩ := (A7.on f8).put_s S8 st8
    have u8 := st8.fr.1
    have d8 : reply_Reply.atp h8 h7.size reply_Reply.S.z := st8.fr.get push_new (ns _ (by omega))
    refine reply_Reply.setp (x := rp) d8 fun h9 d9 f9 _ => ?_
    have sx : StepF (ftL l XJ' XS) h7 (ftL l XJ' XS') h8 := StepF.no f8 st8'
    refine fin h9 XS' h7.size (A8.frame f9 fun y hy e => ?_) (sx.fresh f9 fun y e => by have : y = h7.size := e; omega) d9 (f9.get (st8.fr.get (f8.get r7 id) (ns _ (by omega))) (by show ¬ br = h7.size; omega))
    have e : y = h7.size := e
    subst e
    have z8 : (h7.push (.cells reply_Reply.S.z.arr 37)).size = h7.size + 1 := Array.size_push _
    rcases hy with hy | hy
    · rcases st8'.newM _ hy with q | q
      · have := (A7.lg.lt _ (.inl q)); omega
      · omega
    · rcases st8'.newD _ hy with q | q
      · have := (A7.lg.lt _ (.inr q)); omega
      · omega
theorem DoO_ok {t : Nat} (he : mayE e) (h3 : 0 ≤ e.svc) (ok : Ses.okA A) (H : Lg h l X n x ds (sA e A)) (t1 : 1 ≤ t) (t2 : t ≤ 2147483648) (hf : x.fits n ((eOB t).length + 1 + 16)) (hx : x.all ≤ 1000000000)
    (hk : ∀ g X', Lg g l X' n (x.app (69 :: eOB t)) ds (sA e (Ses.openA A t)) → StepF X h X' g → R (.tuple #[(rpO (sA e A) t).agg, .int .i64 ((x.all + 1 : Nat) : Int), .int .i64 0]) g) : Cl 45 #[.pointer (some ⟨l, 0, none⟩), (eO t).agg] h R :=
  Do_ok H rfl (show (1 : Int) ≠ 8 by decide) (fun k => ewriteO_ok t1 t2 k) (fun P k => applyO_ok P rfl (sA_good he h3 ok) (sA_good he h3 ok) (Nat.zero_le _) t1 t2 k) (eOB_len t).1 (by have := (eOB_len t).2; omega) hf hx hk
theorem DoD_ok {t : Nat} (he : mayE e) (h3 : 0 ≤ e.svc) (ok : Ses.okA A) (H : Lg h l X n x ds (sA e A)) (t1 : 1 ≤ t) (t2 : t ≤ 1099511627776) (hf : x.fits n ((eDB t).length + 1 + 16)) (hx : x.all ≤ 1000000000)
    (hk : ∀ g X', Lg g l X' n (x.app (69 :: eDB t)) ds (sA e (Ses.downA A (t : Int))) → StepF X h X' g → R (.tuple #[(rpD (sA e A) t).agg, .int .i64 ((x.all + 1 : Nat) : Int), .int .i64 0]) g) : Cl 45 #[.pointer (some ⟨l, 0, none⟩), (eD t).agg] h R :=
  Do_ok H rfl (show (3 : Int) ≠ 8 by decide) (fun k => ewriteD_ok t1 t2 k) (fun P k => applyD_ok P rfl (sA_good he h3 ok) (sA_good he h3 ok) (Nat.zero_le _) t1 t2 k) (eDB_len t).1 (by have := (eDB_len t).2; omega) hf hx hk
end Flu
end Go.Proofs.YtaphjamdblgiiaaGreatDoor
namespace Go.Proofs.YtaphjamdblgiiaaGreatDoor
open Go.Den
open IntKind (wrap)
open Int (toNat)
section
variable {h:Heap} {R:TyP}
variable {c b_l b_c s_l s_c d:Nat} {e:Int} {b_p s_p:TyO}
theorem conn_Conn.ex {K : conn_Conn.S → Prop} (x : conn_Conn.S) (hk : K x) : conn_Conn.EX K := ⟨_, _, _, _, _, _, _, _, _, hk⟩
theorem conn_New.walk  (hv :
 Cl 38 #[] h fun v h_1 =>
 ∃ t1, v = .pointer t1 ∧
 NewP h_1 (.cells #[.pointer t1, .slice none 0 0, .int .i64 0, .slice none 0 0, .int .i64 0] 117) fun b h_2 =>
 R (.pointer (some ⟨b, 0, none⟩)) h_2) : Cl 19 #[] h R :=
 callsN [] hv
theorem conn_Conn_made.walk (hv :
 ∃ t10, hcell h ⟨c, 0, none⟩ = some (.pointer t10) ∧
 R (.bool (!t10.isNone)) h) : Cl 79 #[.pointer (some ⟨c, 0, none⟩)] h R :=
 callsN [] hv
theorem conn_Conn_Closed.walk (hv :
 Cl 79 #[.pointer (some ⟨c, 0, none⟩)] h fun v h_1 =>
 ∃ t4, v = .bool t4 ∧
 ite (!t4)
 (  R (.int .i64 6) h_1)
 (  ∃ t9, hcell h_1 ⟨c, 4, none⟩ = some (.int .i64 t9) ∧
 R (.int .i64 t9) h_1)) : Cl 39 #[.pointer (some ⟨c, 0, none⟩)] h R :=
 callsN [] hv
theorem conn_Conn_Waits.walk (hv :
 ∃ t8_p t8_l t8_c, hcell h ⟨c, 1, none⟩ = some (.slice t8_p t8_l t8_c) ∧
 R (.int .i64 ((t8_l : Nat) : Int)) h) : Cl 47 #[.pointer (some ⟨c, 0, none⟩)] h R :=
 callsN [] hv
theorem conn_Conn_Session.walk (hv :
 ∃ t8, hcell h ⟨c, 2, none⟩ = some (.int .i64 t8) ∧
 R (.int .i64 t8) h) : Cl 44 #[.pointer (some ⟨c, 0, none⟩)] h R :=
 callsN [] hv
theorem conn_Conn_Close.walk (hv :
 Cl 39 #[.pointer (some ⟨c, 0, none⟩)] h fun v h_1 =>
 ∃ t5, v = .int .i64 t5 ∧
 ite (t5 != 0)
 (  R (.tuple #[]) h_1)
 (  JoinP (fun (e_1 : Int) h_2 =>
 StoreP h_2 ⟨c, 4, none⟩ (.int .i64 e_1) fun h_3 =>
 StoreP h_3 ⟨c, 1, none⟩ (.slice none 0 0) fun h_4 =>
 R (.tuple #[]) h_4)
 (fun J =>
 ite (e == 0)
 (  J 16 h_1)
 (  J e h_1)))) : Cl 42 #[.pointer (some ⟨c, 0, none⟩), .int .i64 e] h R :=
 callsN [(9, .join [(1, sI)])] hv
theorem conn_Conn_take.walk (hv :
 Cl 87 #[.slice b_p b_l b_c] h fun v h_1 =>
 request_Request.EX fun t9_0 =>
 ∃ t9_1, v = .tuple #[t9_0.agg, .int .i64 t9_1] ∧
 NewP h_1 (.cells request_Request.S.z.arr 33) fun b h_2 =>
 request_Request.STp h_2 ⟨b, 0, none⟩ t9_0 fun h_3 =>
 ite (t9_1 != 0)
 (  R (.int .i64 t9_1) h_3)
 (  ∃ t20_p t20_l t20_c, hcell h_3 ⟨c, 1, none⟩ = some (.slice t20_p t20_l t20_c) ∧
 ite (decide (((t20_l : Nat) : Int) ≥ 8))
 (  R (.int .i64 5) h_3)
 (  ∃ t27_p t27_l t27_c, hcell h_3 ⟨c, 1, none⟩ = some (.slice t27_p t27_l t27_c) ∧
 request_Request.LDp h_3 ⟨b, 0, none⟩ fun t28 =>
 NewP h_3 (.cells t28.arr 33) fun b_1 h_4 =>
 Kp h_3 h_4 [(some ⟨c, 1, none⟩)] ∧
 Dsz (Builtin.append_ #[115, 115] 115 #[.slice t27_p t27_l t27_c, .slice (some ⟨b_1, 0, none⟩) 1 1]) h_4 fun v_1 h_5 =>
 ∃ t30_p t30_l t30_c, v_1 = .slice t30_p t30_l t30_c ∧
 StoreP h_5 ⟨c, 1, none⟩ (.slice t30_p t30_l t30_c) fun h_6 =>
 R (.int .i64 0) h_6))) : Cl 41 #[.pointer (some ⟨c, 0, none⟩), .slice b_p b_l b_c] h R :=
 callsN [(20, fun _ => .planK (runP 11 0 .done))] hv
theorem conn_Conn_Feed.walk (hv :
 Cl 39 #[.pointer (some ⟨c, 0, none⟩)] h fun v h_1 =>
 ∃ t12, v = .int .i64 t12 ∧
 ite (t12 != 0)
 (  R (.int .i64 t12) h_1)
 (  ∃ t21, hcell h_1 ⟨c, 0, none⟩ = some (.pointer t21) ∧
 Cl 40 #[.pointer t21, .slice b_p b_l b_c] h_1 fun v_1 h_2 =>
 ∃ t23_0_p t23_0_l t23_0_c t23_1, v_1 = .tuple #[.slice t23_0_p t23_0_l t23_0_c, .int .i64 t23_1] ∧
 ∃ (I : Int → Heap → Prop) (mu : Int → Heap → Nat), I 0 h_2 ∧ ∀ t28 h_3, I t28 h_3 →
 ite (decide (t28 < ((t23_0_l : Nat) : Int)))
 (  ((0 : Int) ≤ t28 ∧ t28 < ((t23_0_l : Nat) : Int)) ∧
 onSome t23_0_p fun a =>
 ∃ t31_p t31_l t31_c, hcell h_3 (a.add (Int.toNat t28 * 1)) = some (.slice t31_p t31_l t31_c) ∧
 Cl 41 #[.pointer (some ⟨c, 0, none⟩), .slice t31_p t31_l t31_c] h_3 fun v_2 h_4 =>
 ∃ t34, v_2 = .int .i64 t34 ∧
 ite (t34 != 0)
 (  Cl 42 #[.pointer (some ⟨c, 0, none⟩), .int .i64 t34] h_4 fun v_3 h_5 =>
 v_3 = .tuple #[] ∧
 R (.int .i64 t34) h_5)
 (  (I (IntKind.wrap .i64 (t28 + 1)) h_4 ∧ mu (IntKind.wrap .i64 (t28 + 1)) h_4 < mu t28 h_3)))
 (  JoinP (fun h_6 =>
 ∃ t50, hcell h_6 ⟨c, 4, none⟩ = some (.int .i64 t50) ∧
 R (.int .i64 t50) h_6)
 (fun J =>
 ite (t23_1 != 0)
 (  Cl 42 #[.pointer (some ⟨c, 0, none⟩), .int .i64 t23_1] h_3 fun v_4 h_7 =>
 v_4 = .tuple #[] ∧
 J h_7)
 (  J h_3))))) : Cl 21 #[.pointer (some ⟨c, 0, none⟩), .slice b_p b_l b_c] h R :=
 callsN [(18, .loop [(28, sI)]), (44, .join [])] hv
theorem conn_Conn_Next.walk (hv :
 NewP h (.cells request_Request.S.z.arr 33) fun b h_1 =>
 Cl 47 #[.pointer (some ⟨c, 0, none⟩)] h_1 fun v h_2 =>
 ∃ t6, v = .int .i64 t6 ∧
 ite (t6 == 0)
 (  request_Request.STp h_2 ⟨b, 0, none⟩ request_Request.S.z fun h_3 =>
 request_Request.LDp h_3 ⟨b, 0, none⟩ fun r0 =>
 R (.tuple #[r0.agg, .bool false]) h_3)
 (  ∃ t12_p t12_l t12_c, hcell h_2 ⟨c, 1, none⟩ = some (.slice t12_p t12_l t12_c) ∧
 ((0 : Int) ≤ 0 ∧ 0 < ((t12_l : Nat) : Int)) ∧
 onSome t12_p fun a =>
 request_Request.LDp h_2 (a.add (Int.toNat 0 * 19)) fun t14 =>
 NewP h_2 (.cells request_Request.S.z.arr 33) fun b_1 h_4 =>
 request_Request.STp h_4 ⟨b_1, 0, none⟩ t14 fun h_5 =>
 ∃ t19_p t19_l t19_c, hcell h_5 ⟨c, 1, none⟩ = some (.slice t19_p t19_l t19_c) ∧
 ((0 : Int) ≤ 1 ∧ 1 ≤ ((t19_l : Nat) : Int)) ∧
 Cl 48 #[.slice (slBase t19_p t19_c (Int.toNat 1) 19) (t19_l - (Int.toNat 1)) (t19_c - (Int.toNat 1))] h_5 fun v_1 h_6 =>
 ∃ t21_p t21_l t21_c, v_1 = .slice t21_p t21_l t21_c ∧
 StoreP h_6 ⟨c, 1, none⟩ (.slice t21_p t21_l t21_c) fun h_7 =>
 request_Request.LDp h_7 ⟨b_1, 0, none⟩ fun t24 =>
 request_Request.STp h_7 ⟨b, 0, none⟩ t24 fun h_8 =>
 request_Request.LDp h_8 ⟨b, 0, none⟩ fun r0_1 =>
 R (.tuple #[r0_1.agg, .bool true]) h_8)) : Cl 23 #[.pointer (some ⟨c, 0, none⟩)] h R :=
 callsN [] hv
theorem conn_Conn_Bind.walk {session : Int} (hv :
 Cl 79 #[.pointer (some ⟨c, 0, none⟩)] h fun v h_1 =>
 ∃ t7, v = .bool t7 ∧
 ite (!t7)
 (  R (.int .i64 6) h_1)
 (  JoinP (fun (t9 : Bool) h_2 =>
 ite t9
 (  R (.int .i64 1) h_2)
 (  JoinP (fun (t16 : Bool) h_3 =>
 ite t16
 (  R (.int .i64 7) h_3)
 (  StoreP h_3 ⟨c, 2, none⟩ (.int .i64 session) fun h_4 =>
 R (.int .i64 0) h_4))
 (fun J_1 =>
 ∃ t20, hcell h_2 ⟨c, 2, none⟩ = some (.int .i64 t20) ∧
 ite (decide (t20 > 0))
 (  J_1 true h_2)
 (  ∃ t26, hcell h_2 ⟨c, 4, none⟩ = some (.int .i64 t26) ∧
 J_1 (t26 != 0) h_2))))
 (fun J =>
 ite (decide (session < 1))
 (  J true h_1)
 (  J (decide (session > 1099511627776)) h_1)))) : Cl 50 #[.pointer (some ⟨c, 0, none⟩), .int .i64 session] h R :=
 callsN [(11, .join [(9, sB)]), (17, .join [(16, sB)])] hv
theorem conn_Conn_Answer.walk {r : reply_Reply.S} (hv :
 NewP h (.cells r.arr 37) fun b h_1 =>
 Cl 79 #[.pointer (some ⟨c, 0, none⟩)] h_1 fun v h_2 =>
 ∃ t9, v = .bool t9 ∧
 ite (!t9)
 (  R (.int .i64 6) h_2)
 (  reply_Reply.LDp h_2 ⟨b, 0, none⟩ fun t12 =>
 Cl 25 #[t12.agg] h_2 fun v_1 h_3 =>
 ∃ t13_0_p t13_0_l t13_0_c t13_1, v_1 = .tuple #[.slice t13_0_p t13_0_l t13_0_c, .int .i64 t13_1] ∧
 ite (t13_1 != 0)
 (  R (.int .i64 t13_1) h_3)
 (  Cl 80 #[.slice t13_0_p t13_0_l t13_0_c] h_3 fun v_2 h_4 =>
 ∃ t21_0_p t21_0_l t21_0_c t21_1, v_2 = .tuple #[.slice t21_0_p t21_0_l t21_0_c, .int .i64 t21_1] ∧
 JoinP (fun h_5 =>
 R (.int .i64 t21_1) h_5)
 (fun J =>
 ite (t21_1 == 0)
 (  ∃ t30_p t30_l t30_c, hcell h_4 ⟨c, 3, none⟩ = some (.slice t30_p t30_l t30_c) ∧
 Dsz (Builtin.append_ #[26, 26] 26 #[.slice t30_p t30_l t30_c, .slice t21_0_p t21_0_l t21_0_c]) h_4 fun v_3 h_6 =>
 ∃ t32_p t32_l t32_c, v_3 = .slice t32_p t32_l t32_c ∧
 StoreP h_6 ⟨c, 3, none⟩ (.slice t32_p t32_l t32_c) fun h_7 =>
 J h_7)
 (  J h_4))))) : Cl 34 #[.pointer (some ⟨c, 0, none⟩), r.agg] h R :=
 callsN [(25, .join [])] hv
theorem conn_Conn_Out.walk (hv :
 ∃ t9_p t9_l t9_c, hcell h ⟨c, 3, none⟩ = some (.slice t9_p t9_l t9_c) ∧
 StoreP h ⟨c, 3, none⟩ (.slice none 0 0) fun h_1 =>
 R (.slice t9_p t9_l t9_c) h_1) : Cl 36 #[.pointer (some ⟨c, 0, none⟩)] h R :=
 callsN [] hv
theorem slices_Clone_s_request_Request_request_Request.walk (hv :
 ite s_p.isNone
 (  R (.slice none 0 0) h)
 (  NewP h (.cells #[] 33) fun b h_1 =>
 Dsz (Builtin.append_ #[115, 115] 115 #[.slice (some ⟨b, 0, none⟩) 0 0, .slice s_p s_l s_c]) h_1 fun v h_2 =>
 ∃ t7_p t7_l t7_c, v = .slice t7_p t7_l t7_c ∧
 R (.slice t7_p t7_l t7_c) h_2)) : Cl 48 #[.slice s_p s_l s_c] h R :=
 callsN [] hv
theorem frame_Decoder.ex {K : frame_Decoder.S → Prop} (x : frame_Decoder.S) (hk : K x) : frame_Decoder.EX K := ⟨_, _, _, _, _, hk⟩
theorem frame_Write.walk (hv :
 JoinP (fun (t11 : Bool) h_1 =>
 ite t11
 (  R (.tuple #[.slice none 0 0, .int .i64 1]) h_1)
 (  NewP h_1 (.cells #[.int .u8 (IntKind.wrap .u8 (Int.fdiv ((b_l : Nat) : Int) (2 ^ min (Int.toNat 8) (IntKind.bits .i64)))), .int .u8 (IntKind.wrap .u8 ((b_l : Nat) : Int))] 5) fun b h_2 =>
 Dsz (Builtin.append_ #[26, 26] 26 #[.slice (some ⟨b, 0, none⟩) 2 2, .slice b_p b_l b_c]) h_2 fun v h_3 =>
 ∃ t21_p t21_l t21_c, v = .slice t21_p t21_l t21_c ∧
 R (.tuple #[.slice t21_p t21_l t21_c, .int .i64 0]) h_3))
 (fun J =>
 ite (decide (((b_l : Nat) : Int) < 1))
 (  J true h)
 (  J (decide (((b_l : Nat) : Int) > 1000)) h))) : Cl 80 #[.slice b_p b_l b_c] h R :=
 callsN [(4, .join [(11, sB)])] hv
theorem frame_New.walk  (hv :
 NewP h (.cells #[.bool true, .slice none 0 0, .int .i64 0] 172) fun b h_1 =>
 R (.pointer (some ⟨b, 0, none⟩)) h_1) : Cl 38 #[] h R :=
 callsN [] hv
theorem frame_Decoder_Broken.walk (hv :
 JoinP (fun (t11 : Bool) h_1 =>
 ite t11
 (  R (.int .i64 6) h_1)
 (  ∃ t15, hcell h_1 ⟨d, 2, none⟩ = some (.int .i64 t15) ∧
 R (.int .i64 t15) h_1))
 (fun J =>
 ∃ t9, hcell h ⟨d, 0, none⟩ = some (.bool t9) ∧
 J (!t9) h)) : Cl 84 #[.pointer (some ⟨d, 0, none⟩)] h R :=
 callsN [(4, .join [(11, sB)])] hv
theorem frame_Decoder_fail.walk (hv :
 StoreP h ⟨d, 1, none⟩ (.slice none 0 0) fun h_1 =>
 StoreP h_1 ⟨d, 2, none⟩ (.int .i64 e) fun h_2 =>
 R (.tuple #[]) h_2) : Cl 86 #[.pointer (some ⟨d, 0, none⟩), .int .i64 e] h R :=
 callsN [] hv
theorem frame_Decoder_Feed.walk (hv :
 ∃ (I : Option Addr → Nat → Nat → Heap → Prop) (mu : Option Addr → Nat → Nat → Heap → Nat), (
 Cl 84 #[.pointer (some ⟨d, 0, none⟩)] h fun v h_1 =>
 ∃ t11, v = .int .i64 t11 ∧
 ite (t11 != 0)
 (  R (.tuple #[.slice none 0 0, .int .i64 t11]) h_1)
 (  ∃ t19_p t19_l t19_c, hcell h_1 ⟨d, 1, none⟩ = some (.slice t19_p t19_l t19_c) ∧
 NewP h_1 (.cells #[.slice t19_p t19_l t19_c, .slice b_p b_l b_c] 26) fun b h_2 =>
 Cl 85 #[.slice (some ⟨b, 0, none⟩) 2 2] h_2 fun v_1 h_3 =>
 ∃ t22_p t22_l t22_c, v_1 = .slice t22_p t22_l t22_c ∧
 StoreP h_3 ⟨d, 1, none⟩ (.slice t22_p t22_l t22_c) fun h_4 =>
 I none 0 0 h_4)) ∧ ∀ out_p out_l out_c h_5, I out_p out_l out_c h_5 →
 ∃ t28_p t28_l t28_c, hcell h_5 ⟨d, 1, none⟩ = some (.slice t28_p t28_l t28_c) ∧
 ite (decide (((t28_l : Nat) : Int) < 2))
 (  R (.tuple #[.slice out_p out_l out_c, .int .i64 0]) h_5)
 (  ∃ t35_p t35_l t35_c, hcell h_5 ⟨d, 1, none⟩ = some (.slice t35_p t35_l t35_c) ∧
 ((0 : Int) ≤ 0 ∧ 0 < ((t35_l : Nat) : Int)) ∧
 onSome t35_p fun a =>
 ∃ t37, hcell h_5 (a.add (Int.toNat 0 * 1)) = some (.int .u8 t37) ∧
 ∃ t43_p t43_l t43_c, hcell h_5 ⟨d, 1, none⟩ = some (.slice t43_p t43_l t43_c) ∧
 ((0 : Int) ≤ 1 ∧ 1 < ((t43_l : Nat) : Int)) ∧
 onSome t43_p fun a_1 =>
 ∃ t45, hcell h_5 (a_1.add (Int.toNat 1 * 1)) = some (.int .u8 t45) ∧
 JoinP (fun (out_p_1 : Option Addr) (out_l_1 out_c_1 : Nat) h_6 =>
 ∃ t93, hcell h_6 ⟨d, 2, none⟩ = some (.int .i64 t93) ∧
 R (.tuple #[.slice out_p_1 out_l_1 out_c_1, .int .i64 t93]) h_6)
 (fun J =>
 JoinP (fun (out_p_2 : Option Addr) (out_l_2 out_c_2 : Nat) h_7 =>
 J out_p_2 out_l_2 out_c_2 h_7)
 (fun J_1 =>
 ite ((IntKind.wrap .i64 ((BitVec.ofInt (IntKind.bits .i64) (IntKind.wrap .i64 ((IntKind.wrap .i64 t37) * 2 ^ min (Int.toNat 8) (IntKind.bits .i64))) ||| BitVec.ofInt (IntKind.bits .i64) (IntKind.wrap .i64 t45)).toNat : Int)) == 0)
 (  Cl 86 #[.pointer (some ⟨d, 0, none⟩), .int .i64 3] h_5 fun v_2 h_8 =>
 v_2 = .tuple #[] ∧
 J_1 out_p out_l out_c h_8)
 (  JoinP (fun (out_p_3 : Option Addr) (out_l_3 out_c_3 : Nat) h_9 =>
 J_1 out_p_3 out_l_3 out_c_3 h_9)
 (fun J_2 =>
 ite (decide ((IntKind.wrap .i64 ((BitVec.ofInt (IntKind.bits .i64) (IntKind.wrap .i64 ((IntKind.wrap .i64 t37) * 2 ^ min (Int.toNat 8) (IntKind.bits .i64))) ||| BitVec.ofInt (IntKind.bits .i64) (IntKind.wrap .i64 t45)).toNat : Int)) > 1000))
 (  Cl 86 #[.pointer (some ⟨d, 0, none⟩), .int .i64 2] h_5 fun v_3 h_10 =>
 v_3 = .tuple #[] ∧
 J_2 out_p out_l out_c h_10)
 (  ∃ t62_p t62_l t62_c, hcell h_5 ⟨d, 1, none⟩ = some (.slice t62_p t62_l t62_c) ∧
 ite (decide ((IntKind.wrap .i64 (((t62_l : Nat) : Int) - 2)) ≥ (IntKind.wrap .i64 ((BitVec.ofInt (IntKind.bits .i64) (IntKind.wrap .i64 ((IntKind.wrap .i64 t37) * 2 ^ min (Int.toNat 8) (IntKind.bits .i64))) ||| BitVec.ofInt (IntKind.bits .i64) (IntKind.wrap .i64 t45)).toNat : Int))))
 (  ∃ t73_p t73_l t73_c, hcell h_5 ⟨d, 1, none⟩ = some (.slice t73_p t73_l t73_c) ∧
 ((0 : Int) ≤ IntKind.wrap .i64 (2 + (IntKind.wrap .i64 ((BitVec.ofInt (IntKind.bits .i64) (IntKind.wrap .i64 ((IntKind.wrap .i64 t37) * 2 ^ min (Int.toNat 8) (IntKind.bits .i64))) ||| BitVec.ofInt (IntKind.bits .i64) (IntKind.wrap .i64 t45)).toNat : Int))) ∧ IntKind.wrap .i64 (2 + (IntKind.wrap .i64 ((BitVec.ofInt (IntKind.bits .i64) (IntKind.wrap .i64 ((IntKind.wrap .i64 t37) * 2 ^ min (Int.toNat 8) (IntKind.bits .i64))) ||| BitVec.ofInt (IntKind.bits .i64) (IntKind.wrap .i64 t45)).toNat : Int))) ≤ ((t73_c : Nat) : Int)) ∧ ((0 : Int) ≤ IntKind.wrap .i64 (2 + (IntKind.wrap .i64 ((BitVec.ofInt (IntKind.bits .i64) (IntKind.wrap .i64 ((IntKind.wrap .i64 t37) * 2 ^ min (Int.toNat 8) (IntKind.bits .i64))) ||| BitVec.ofInt (IntKind.bits .i64) (IntKind.wrap .i64 t45)).toNat : Int))) ∧ IntKind.wrap .i64 (2 + (IntKind.wrap .i64 ((BitVec.ofInt (IntKind.bits .i64) (IntKind.wrap .i64 ((IntKind.wrap .i64 t37) * 2 ^ min (Int.toNat 8) (IntKind.bits .i64))) ||| BitVec.ofInt (IntKind.bits .i64) (IntKind.wrap .i64 t45)).toNat : Int))) ≤ IntKind.wrap .i64 (2 + (IntKind.wrap .i64 ((BitVec.ofInt (IntKind.bits .i64) (IntKind.wrap .i64 ((IntKind.wrap .i64 t37) * 2 ^ min (Int.toNat 8) (IntKind.bits .i64))) ||| BitVec.ofInt (IntKind.bits .i64) (IntKind.wrap .i64 t45)).toNat : Int)))) ∧ ((0 : Int) ≤ 2 ∧ 2 ≤ IntKind.wrap .i64 (2 + (IntKind.wrap .i64 ((BitVec.ofInt (IntKind.bits .i64) (IntKind.wrap .i64 ((IntKind.wrap .i64 t37) * 2 ^ min (Int.toNat 8) (IntKind.bits .i64))) ||| BitVec.ofInt (IntKind.bits .i64) (IntKind.wrap .i64 t45)).toNat : Int)))) ∧
 Cl 57 #[.slice (slBase t73_p (Int.toNat (IntKind.wrap .i64 (2 + (IntKind.wrap .i64 ((BitVec.ofInt (IntKind.bits .i64) (IntKind.wrap .i64 ((IntKind.wrap .i64 t37) * 2 ^ min (Int.toNat 8) (IntKind.bits .i64))) ||| BitVec.ofInt (IntKind.bits .i64) (IntKind.wrap .i64 t45)).toNat : Int))))) (Int.toNat 2) 1) (Int.toNat (IntKind.wrap .i64 (2 + (IntKind.wrap .i64 ((BitVec.ofInt (IntKind.bits .i64) (IntKind.wrap .i64 ((IntKind.wrap .i64 t37) * 2 ^ min (Int.toNat 8) (IntKind.bits .i64))) ||| BitVec.ofInt (IntKind.bits .i64) (IntKind.wrap .i64 t45)).toNat : Int)))) - Int.toNat 2) (Int.toNat (IntKind.wrap .i64 (2 + (IntKind.wrap .i64 ((BitVec.ofInt (IntKind.bits .i64) (IntKind.wrap .i64 ((IntKind.wrap .i64 t37) * 2 ^ min (Int.toNat 8) (IntKind.bits .i64))) ||| BitVec.ofInt (IntKind.bits .i64) (IntKind.wrap .i64 t45)).toNat : Int)))) - Int.toNat 2)] h_5 fun v_4 h_11 =>
 ∃ t77_p t77_l t77_c, v_4 = .slice t77_p t77_l t77_c ∧
 NewP h_11 (.cells #[.slice t77_p t77_l t77_c] 26) fun b_1 h_12 =>
 Dsz (Builtin.append_ #[119, 119] 119 #[.slice out_p out_l out_c, .slice (some ⟨b_1, 0, none⟩) 1 1]) h_12 fun v_5 h_13 =>
 ∃ t79_p t79_l t79_c, v_5 = .slice t79_p t79_l t79_c ∧
 ∃ t84_p t84_l t84_c, hcell h_13 ⟨d, 1, none⟩ = some (.slice t84_p t84_l t84_c) ∧
 ((0 : Int) ≤ IntKind.wrap .i64 (2 + (IntKind.wrap .i64 ((BitVec.ofInt (IntKind.bits .i64) (IntKind.wrap .i64 ((IntKind.wrap .i64 t37) * 2 ^ min (Int.toNat 8) (IntKind.bits .i64))) ||| BitVec.ofInt (IntKind.bits .i64) (IntKind.wrap .i64 t45)).toNat : Int))) ∧ IntKind.wrap .i64 (2 + (IntKind.wrap .i64 ((BitVec.ofInt (IntKind.bits .i64) (IntKind.wrap .i64 ((IntKind.wrap .i64 t37) * 2 ^ min (Int.toNat 8) (IntKind.bits .i64))) ||| BitVec.ofInt (IntKind.bits .i64) (IntKind.wrap .i64 t45)).toNat : Int))) ≤ ((t84_l : Nat) : Int)) ∧
 StoreP h_13 ⟨d, 1, none⟩ (.slice (slBase t84_p t84_c (Int.toNat (IntKind.wrap .i64 (2 + (IntKind.wrap .i64 ((BitVec.ofInt (IntKind.bits .i64) (IntKind.wrap .i64 ((IntKind.wrap .i64 t37) * 2 ^ min (Int.toNat 8) (IntKind.bits .i64))) ||| BitVec.ofInt (IntKind.bits .i64) (IntKind.wrap .i64 t45)).toNat : Int))))) 1) (t84_l - (Int.toNat (IntKind.wrap .i64 (2 + (IntKind.wrap .i64 ((BitVec.ofInt (IntKind.bits .i64) (IntKind.wrap .i64 ((IntKind.wrap .i64 t37) * 2 ^ min (Int.toNat 8) (IntKind.bits .i64))) ||| BitVec.ofInt (IntKind.bits .i64) (IntKind.wrap .i64 t45)).toNat : Int)))))) (t84_c - (Int.toNat (IntKind.wrap .i64 (2 + (IntKind.wrap .i64 ((BitVec.ofInt (IntKind.bits .i64) (IntKind.wrap .i64 ((IntKind.wrap .i64 t37) * 2 ^ min (Int.toNat 8) (IntKind.bits .i64))) ||| BitVec.ofInt (IntKind.bits .i64) (IntKind.wrap .i64 t45)).toNat : Int))))))) fun h_14 =>
 (I t79_p t79_l t79_c h_14 ∧ mu t79_p t79_l t79_c h_14 < mu out_p out_l out_c h_5))
 (  J_2 out_p out_l out_c h_5)))))))) : Cl 40 #[.pointer (some ⟨d, 0, none⟩), .slice b_p b_l b_c] h R :=
 callsN [(2, fun _ => .scope 0 [(7, sS)] (sq (lq (lq (cq ll lf))) (lq (lq ll))) (lq (sq (lq (cq ll lf)) (sq (.planK (runP 17 0 .done)) (sq (.join [(7, sS)] (bq (lq (.join [(7, sS)] (cq lf (lq (.join [(7, sS)] (cq lf (lq (cq (lq (lq ll)) lf)))))))))) (sq (.planK (runP 7 0 .done)) lf))))))] hv
theorem slices_Concat_s_byte_byte.walk {slices_p : Option Addr} {slices_l slices_c : Nat} (hv :
 ∃ (I : Int → Int → Heap → Prop) (mu : Int → Int → Heap → Nat), I 0 0 h ∧ ∀ size t11 h_1, I size t11 h_1 →
 ite (decide (t11 < ((slices_l : Nat) : Int)))
 (  JoinP (fun (size_1 : Int) h_2 =>
 (I size_1 (IntKind.wrap .i64 (t11 + 1)) h_2 ∧ mu size_1 (IntKind.wrap .i64 (t11 + 1)) h_2 < mu size t11 h_1))
 (fun J =>
 ((0 : Int) ≤ t11 ∧ t11 < ((slices_l : Nat) : Int)) ∧
 onSome slices_p fun a =>
 ∃ t14_p t14_l t14_c, hcell h_1 (a.add (Int.toNat t11 * 1)) = some (.slice t14_p t14_l t14_c) ∧
 JoinP (fun h_3 =>
 J (IntKind.wrap .i64 (size + ((t14_l : Nat) : Int))) h_3)
 (fun J_1 =>
 ite (decide ((IntKind.wrap .i64 (size + ((t14_l : Nat) : Int))) < 0))
 (  False)
 (  J_1 h_1))))
 (  Cl 118 #[.slice none 0 0, .int .i64 size] h_1 fun v h_4 =>
 ∃ t24_p t24_l t24_c, v = .slice t24_p t24_l t24_c ∧
 ∃ (I_1 : Option Addr → Nat → Nat → Int → Heap → Prop) (mu_1 : Option Addr → Nat → Nat → Int → Heap → Nat), I_1 t24_p t24_l t24_c 0 h_4 ∧ ∀ newslice_p newslice_l newslice_c t27 h_5, I_1 newslice_p newslice_l newslice_c t27 h_5 →
 ite (decide (t27 < ((slices_l : Nat) : Int)))
 (  ((0 : Int) ≤ t27 ∧ t27 < ((slices_l : Nat) : Int)) ∧
 onSome slices_p fun a_1 =>
 ∃ t30_p t30_l t30_c, hcell h_5 (a_1.add (Int.toNat t27 * 1)) = some (.slice t30_p t30_l t30_c) ∧
 Dsz (Builtin.append_ #[26, 26] 26 #[.slice newslice_p newslice_l newslice_c, .slice t30_p t30_l t30_c]) h_5 fun v_1 h_6 =>
 ∃ t33_p t33_l t33_c, v_1 = .slice t33_p t33_l t33_c ∧
 (I_1 t33_p t33_l t33_c (IntKind.wrap .i64 (t27 + 1)) h_6 ∧ mu_1 t33_p t33_l t33_c (IntKind.wrap .i64 (t27 + 1)) h_6 < mu_1 newslice_p newslice_l newslice_c t27 h_5))
 (  R (.slice newslice_p newslice_l newslice_c) h_5))) : Cl 85 #[.slice slices_p slices_l slices_c] h R :=
 callsN [(8, .loop [(3, sI), (11, sI)]), (16, .join [(3, sI)]), (23, .join []), (33, .loop [(6, sS), (27, sI)])] hv
theorem slices_Grow_s_byte_byte.walk {n : Int} (hv :
 JoinP (fun h_1 =>
 JoinP (fun (s_p_1 : Option Addr) (s_l_1 s_c_1 : Nat) h_2 =>
 R (.slice s_p_1 s_l_1 s_c_1) h_2)
 (fun J_1 =>
 ite (decide ((IntKind.wrap .i64 (n - (IntKind.wrap .i64 (((s_c : Nat) : Int) - ((s_l : Nat) : Int))))) > 0))
 (  ((0 : Int) ≤ ((s_c : Nat) : Int) ∧ ((s_c : Nat) : Int) ≤ ((s_c : Nat) : Int)) ∧
 Dsz (Builtin.append_ #[26, 3] 26 #[.slice (slBase s_p s_c 0 1) ((Int.toNat ((s_c : Nat) : Int)) - 0) (s_c - 0), .int .i64 (IntKind.wrap .i64 (n - (IntKind.wrap .i64 (((s_c : Nat) : Int) - ((s_l : Nat) : Int)))))]) h_1 fun v h_3 =>
 ∃ t22_p t22_l t22_c, v = .slice t22_p t22_l t22_c ∧
 ((0 : Int) ≤ ((s_l : Nat) : Int) ∧ ((s_l : Nat) : Int) ≤ ((t22_c : Nat) : Int)) ∧
 J_1 (slBase t22_p t22_c 0 1) ((Int.toNat ((s_l : Nat) : Int)) - 0) (t22_c - 0) h_3)
 (  J_1 s_p s_l s_c h_1)))
 (fun J =>
 ite (decide (n < 0))
 (  False)
 (  J h))) : Cl 118 #[.slice s_p s_l s_c, .int .i64 n] h R :=
 callsN [(5, .join []), (13, .join [(0, sS)])] hv

end
section
namespace Frm
open Fld
variable {h h':Heap} {R:TyP} {d:Nat} {X:Ft}
variable {left b:TyL} {e c l n:Nat} {p:TyO} {ts:List BV}
theorem num16 (a b : UInt8) : IntKind.wrap .i64 ((BitVec.ofInt (IntKind.bits .i64) (IntKind.wrap .i64 ((IntKind.wrap .i64 (a.toNat : Int)) * 2 ^ min (Int.toNat 8) (IntKind.bits .i64))) ||| BitVec.ofInt (IntKind.bits .i64) (IntKind.wrap .i64 (b.toNat : Int))).toNat : Int) = ((a.toNat * 256 + b.toNat : Nat) : Int) := by
  have ha := a.toNat_lt
  have hb := b.toNat_lt
  rw [show min (Int.toNat 8) (IntKind.bits .i64) = 8 from rfl, show IntKind.bits .i64 = 64 from rfl, wrap_id (n := (a.toNat : Int)) (by omega) (by omega), wrap_id (n := (a.toNat : Int) * 2 ^ 8) (by omega) (by omega), wrap_id (n := (b.toNat : Int)) (by omega) (by omega),
    show ((a.toNat : Int) * 2 ^ 8) = ((2 ^ 8 * a.toNat : Nat) : Int) by omega, BitVec.ofInt_natCast, BitVec.ofInt_natCast, BitVec.toNat_or, BitVec.toNat_ofNat, BitVec.toNat_ofNat, Nat.mod_eq_of_lt (by omega), Nat.mod_eq_of_lt (by omega), ← Nat.two_pow_add_eq_or_of_lt (show b.toNat < 2 ^ 8 by omega), wrap_id (by omega) (by omega)]
  omega
def feedP : Nat → List UInt8 → List (List UInt8) × List UInt8 × Nat
  | 0, l => ([], l, 0)
  | f + 1, l => match l with
    | a :: b :: r =>
      if a.toNat * 256 + b.toNat = 0 then ([], [], 3)
      else if a.toNat * 256 + b.toNat > 1000 then ([], [], 2)
      else if a.toNat * 256 + b.toNat ≤ r.length then (r.take (a.toNat * 256 + b.toNat) :: (feedP f (r.drop (a.toNat * 256 + b.toNat))).1, (feedP f (r.drop (a.toNat * 256 + b.toNat))).2)
      else ([], l, 0)
    | _ => ([], l, 0)
structure DcA (h : Heap) (d : Nat) (X : Ft) (left : List UInt8) (e : Nat) (p : Option Addr) (c : Nat) : Prop where
  blk : h[d]? = some (.cells #[.bool true, .slice p left.length c, .int .i64 (e : Int)] 172 (0, 0))
  own : Own h p left.length c 1 (bc left)
  m : ∀ y, X.M y ↔ y = d ∨ inBlk p y
  dd : ∀ y, ¬ X.D y
  d1 : ¬ inBlk p d
def Dc (h : Heap) (d : Nat) (X : Ft) (left : List UInt8) (e : Nat) : Prop := ∃ p c, DcA h d X left e p c
theorem Dc.lt (H : Dc h d X left e) (y : Nat) (hy : X.M y) : y < h.size := by
  obtain ⟨p, c, A⟩ := H
  rcases (A.m y).1 hy with rfl | q
  · exact (Array.getElem?_eq_some_iff.1 A.blk).1
  · exact A.own.blk_lt q
theorem Dc.frame {Q : Nat → Prop} (H : Dc h d X left e) (f : Fr Q h h') (hq : ∀ y, X.M y → ¬ Q y) : Dc h' d X left e := by
  obtain ⟨p, c, A⟩ := H
  exact ⟨p, c, f.get A.blk (hq d ((A.m d).2 (.inl rfl))), A.own.frame f (fun y q => hq y ((A.m y).2 (.inr q))), A.m, A.dd, A.d1⟩
theorem new_ok (hk : ∀ g d X, Dc g d X [] 0 → Fr No h g → (∀ y, X.M y → h.size ≤ y) → R (.pointer (some ⟨d, 0, none⟩)) g) : Cl 38 #[] h R := by
  refine frame_New.walk (newP_of (hk _ h.size ⟨fun y => y = h.size ∨ inBlk none y, fun _ => False⟩ ⟨none, 0, push_new, .nil rfl rfl rfl rfl, fun y => Iff.rfl, fun _ => id, fun ⟨a, e, _⟩ => by cases e⟩ (Fr.push _ _) ?_))
  rintro y (rfl | ⟨a, e, _⟩)
  · exact Nat.le_refl _
  · cases e
theorem broken_ok (A : DcA h d X left e p c) (hk : R (.int .i64 (e : Int)) h) : Cl 84 #[.pointer (some ⟨d, 0, none⟩)] h R := by
  refine frame_Decoder_Broken.walk (JoinP.of fun J hJ => ⟨_, cell_at A.blk rfl, ?_⟩)
  subst hJ
  dsimp only
  rw [if_neg (by decide)]
  exact ⟨_, cell_at A.blk rfl, hk⟩
theorem fail_ok {e0 : Int} (b0 : h[d]? = some (.cells #[.bool true, .slice p l c, .int .i64 e0] 172 (0, 0)))
    (hk : ∀ g X', Dc g d X' [] e → Fr (fun y => y = d) h g → (∀ y, X'.M y → y = d) → R (.tuple #[]) g) : Cl 86 #[.pointer (some ⟨d, 0, none⟩), .int .i64 (e : Int)] h R := by
  refine frame_Decoder_fail.walk (storeP_blk b0 (by show 1 < 3; omega) fun h1 b1 z1 q1 => storeP_blk b1 (by show 2 < 3; omega) fun h2 b2 z2 q2 => hk h2 ⟨fun y => y = d ∨ inBlk none y, fun _ => False⟩ ⟨none, 0, b2, .nil rfl rfl rfl rfl, fun y => Iff.rfl, fun _ => id, fun ⟨a, e, _⟩ => by cases e⟩ ((Fr.of_eq z1 q1).tt (Fr.of_eq z2 q2)) ?_)
  rintro y (rfl | ⟨a, e, _⟩)
  · rfl
  · cases e
theorem write_ok (row : Row h p (bc b)) (hl : l = b.length) (h1 : 1 ≤ b.length) (h2 : b.length ≤ 1000)
    (hk : ∀ g p' c', Own g p' (b.length + 2) c' 1 (bc ([UInt8.ofNat (b.length / 256), UInt8.ofNat b.length] ++ b)) → Fr No h g → (∀ y, inBlk p' y → h.size ≤ y) → R (.tuple #[.slice p' (b.length + 2) c', .int .i64 0]) g) : Cl 80 #[.slice p l c] h R := by
  subst hl
  have wu8n : ∀ n : Nat, IntKind.wrap .u8 (n : Int) = ((UInt8.ofNat n).toNat : Int) := fun n => by rw [wrap_u8_nat, UInt8.toNat_ofNat']
  have e1 : IntKind.wrap .u8 (Int.fdiv ((b.length : Nat) : Int) (2 ^ min (Int.toNat 8) (IntKind.bits .i64))) = ((UInt8.ofNat (b.length / 256)).toNat : Int) := by
    rw [show min (Int.toNat 8) (IntKind.bits .i64) = 8 from rfl, Bt.fdiv2, wu8n]
  refine frame_Write.walk (JoinP.of fun J hJ => ?_)
  rw [if_neg (by simp; omega), decide_eq_false (by omega)]
  subst hJ
  dsimp only
  rw [if_neg (by decide), e1, wu8n]
  refine newP_of ?_
  have f1 : Fr No h (h.push (.cells #[.int .u8 ((UInt8.ofNat (b.length / 256)).toNat : Int), .int .u8 ((UInt8.ofNat b.length).toNat : Int)] 5)) := Fr.push _ _
  have r : Row (h.push (.cells #[.int .u8 ((UInt8.ofNat (b.length / 256)).toNat : Int), .int .u8 ((UInt8.ofNat b.length).toNat : Int)] 5)) (some ⟨h.size, 0, none⟩) (bc [UInt8.ofNat (b.length / 256), UInt8.ofNat b.length]) := row_new (cs := bc [UInt8.ofNat (b.length / 256), UInt8.ofNat b.length])
  refine den_appendS tU uU (bs := [UInt8.ofNat (b.length / 256), UInt8.ofNat b.length]) ⟨rfl, .inr ⟨r, rfl⟩⟩ (row.frame f1 (fun _ _ => id)) rfl h1 (by omega) fun p' c' g o f gr => ⟨_, _, _, rfl, ?_⟩
  have nb : ∀ y, inBlk (some ⟨h.size, 0, none⟩) y → h.size ≤ y := fun y ⟨a, e, hy⟩ => by cases e; exact hy ▸ Nat.le_refl _
  have u1 := f1.1
  have el : ([UInt8.ofNat (b.length / 256), UInt8.ofNat b.length] ++ b).length = b.length + 2 := by simp
  rw [el] at o ⊢
  exact hk g p' c' o (f1.fresh f nb) fun y hy => (gr y hy).elim (nb y) (fun q => by omega)
theorem grow_ok (hn : n ≤ 1000000) (hk : ∀ p' c' h', Own h' p' 0 c' 1 [] → Fr No h h' → (∀ y, inBlk p' y → h.size ≤ y) → R (.slice p' 0 c') h') :
    Cl 118 #[.slice none 0 0, .int .i64 (n : Int)] h R := by
  refine slices_Grow_s_byte_byte.walk (JoinP.of fun J hJ => ?_)
  have e2 : IntKind.wrap .i64 ((n) - (IntKind.wrap .i64 (((0 : Nat)) - ((0 : Nat))))) = (n) := by
    rw [show IntKind.wrap .i64 (((0 : Nat)) - ((0 : Nat))) = 0 from rfl, wrap_id (by omega) (by omega)]; omega
  rw [if_neg (fun e => by grind)]
  subst hJ
  refine JoinP.of fun J1 hJ1 => ?_
  rw [e2]
  by_cases hz : n = 0
  · subst hz
    subst hJ1
    exact hk none 0 h (.nil rfl rfl rfl rfl) (Fr.refl _ _) (fun y ⟨a, e, _⟩ => by cases e)
  · rw [if_pos (decide_eq_true (by omega))]
    refine ⟨⟨by omega, by omega⟩, (den_grow tU (by kernel_rfl) (by omega) (by omega) (by omega) fun cap' h' o hc f => ⟨_, _, _, rfl, ⟨by omega, by omega⟩, ?_⟩)⟩
    rw [slBase_zero]
    subst hJ1
    exact hk _ cap' h' o f (fun y ⟨a, e, e2⟩ => by grind)
theorem take_b {j : Nat} {t : BV} (ht : ts[j]? = some t) : (ts.take (j + 1)).flatMap BV.b = (ts.take j).flatMap BV.b ++ t.b := by
  rw [List.take_add_one, ht, List.flatMap_append]; simp
theorem concat_ok {a : Addr} {m:Nat} (hh : Row h (some a) (ts.map BV.val)) (hr : ∀ t ∈ ts, Row h t.p (bc t.b)) (hn : n = ts.length) (ht : ts.length ≤ 1000) (hl : (ts.flatMap BV.b).length ≤ 1000000)
    (hk : ∀ h' p' c', Own h' p' (ts.flatMap BV.b).length c' 1 (bc (ts.flatMap BV.b)) → Fr No h h' → (∀ y, inBlk p' y → h.size ≤ y) → R (.slice p' (ts.flatMap BV.b).length c') h') :
    Cl 85 #[.slice (some a) n m] h R := by
  subst hn
  have tl : ∀ j, ((ts.take j).flatMap BV.b).length ≤ (ts.flatMap BV.b).length := fun j => by
    conv => rhs; rw [← List.take_append_drop j ts]
    rw [List.flatMap_append, List.length_append]; omega
  have at_ : ∀ {g : Heap} {j : Nat} {t : BV}, Fr No h g → ts[j]? = some t → hcell g (a.add (Int.toNat (j : Int) * 1)) = some t.val := fun f ht => by
    rw [Int.toNat_natCast, Nat.mul_one]
    exact (hh.frame f (fun _ _ => id)).cell (by grind)
  refine slices_Concat_s_byte_byte.walk ⟨fun size i g => g = h ∧ ∃ j : Nat, i = (j : Int) ∧ j ≤ ts.length ∧ size = ((((ts.take j).flatMap BV.b).length : Nat) : Int), fun _ i _ => ts.length - i.toNat, ⟨rfl, 0, rfl, Nat.zero_le _, rfl⟩, ?_⟩
  rintro _ _ g ⟨rfl, j, rfl, hj, rfl⟩
  by_cases hlt : j < ts.length
  · rw [if_pos (decide_eq_true (by omega))]
    have hg := List.getElem?_eq_getElem hlt
    have e1 := congrArg List.length (take_b hg)
    rw [List.length_append] at e1
    have t1 := tl (j + 1)
    refine JoinP.of fun J hJ => ⟨⟨by omega, by omega⟩, onSome_some.2 ⟨_, _, _, at_ (Fr.refl _ _) hg, JoinP.of fun J1 hJ1 => ?_⟩⟩
    have e : IntKind.wrap .i64 (((((ts.take j).flatMap BV.b).length : Nat) : Int) + ((ts[j].b.length : Nat) : Int)) = ((((ts.take (j + 1)).flatMap BV.b).length : Nat) : Int) := by rw [wrap_id (by omega) (by omega)]; omega
    rw [e] at hJ1 ⊢
    rw [if_neg (fun e => by have := of_decide_eq_true e; omega)]
    subst hJ1; subst hJ
    dsimp only
    rw [wrap_id (by omega) (by omega)]
    exact ⟨⟨rfl, j + 1, by omega, by omega, rfl⟩, by show ts.length - Int.toNat ((j : Int) + 1) < ts.length - Int.toNat (j : Int); omega⟩
  · rw [if_neg (fun e => by grind)]
    have ej : j = ts.length := by omega
    subst ej
    rw [List.take_length]
    refine grow_ok (by omega) fun p4 c4 h4 o4 f4 g4 => ⟨_, _, _, rfl, ?_⟩
    refine ⟨fun np nl nc i g' => Fr No g g' ∧ (∀ y, inBlk np y → g.size ≤ y) ∧ ∃ j : Nat, i = (j : Int) ∧ j ≤ ts.length ∧ nl = ((ts.take j).flatMap BV.b).length ∧ Own g' np nl nc 1 (bc ((ts.take j).flatMap BV.b)), fun _ _ _ i _ => ts.length - i.toNat, ⟨f4, g4, 0, rfl, Nat.zero_le _, rfl, o4⟩, ?_⟩
    rintro np nl nc i g' ⟨fg, gg, j, rfl, hj, rfl, o⟩
    by_cases hlt : j < ts.length
    · rw [if_pos (decide_eq_true (by omega))]
      have hg := List.getElem?_eq_getElem hlt
      have e1 := congrArg List.length (take_b hg)
      rw [List.length_append] at e1
      have t1 := tl (j + 1)
      refine ⟨⟨by omega, by omega⟩, onSome_some.2 ⟨_, _, _, at_ fg hg, ?_⟩⟩
      refine den_append tU uU o ((hr _ (List.getElem_mem hlt)).frame fg (fun _ _ => id)) (by rw [bc_len, Nat.mul_one]) (bc_one _) (by omega) (by omega) fun p6 c6 h6 o6 _ f6 g6 => ⟨_, _, _, rfl, ?_⟩
      rw [← bc_append, ← take_b hg, ← e1] at o6
      rw [← e1, wrap_id (by omega) (by omega)]
      have z := fg.1
      exact ⟨⟨fg.fresh f6 gg, (fun y hy => (g6 y hy).elim (gg y) (fun h2 => by omega)), j + 1, by omega, by omega, rfl, o6⟩, by grind⟩
    · grind
theorem feed_ok (H : Dc h d X left 0) (row : Row h p (bc b)) (hl : l = b.length) (hb : (left ++ b).length ≤ 100000)
    (hk : ∀ g X' q lq cq, BL h g q lq cq (feedP (left ++ b).length (left ++ b)).1 → Dc g d X' (feedP (left ++ b).length (left ++ b)).2.1 (feedP (left ++ b).length (left ++ b)).2.2 → Fr (fun y => y = d) h g → (∀ y, X'.M y → y = d ∨ h.size ≤ y) →
      R (.tuple #[.slice q lq cq, .int .i64 ((feedP (left ++ b).length (left ++ b)).2.2 : Int)]) g) : Cl 40 #[.pointer (some ⟨d, 0, none⟩), .slice p l c] h R := by
  subst hl
  obtain ⟨p0, c0, A⟩ := H
  have dl : d < h.size := (Array.getElem?_eq_some_iff.1 A.blk).1
  have fin : ∀ g X' q lq cq fs lf (e : Nat), BL h g q lq cq fs → Dc g d X' lf e → Fr (fun y => y = d) h g → (∀ y, X'.M y → y = d ∨ h.size ≤ y) → feedP (left ++ b).length (left ++ b) = (fs, lf, e) → R (.tuple #[.slice q lq cq, .int .i64 (e : Int)]) g := fun g X' q lq cq fs lf e B D f m he => by
    rw [he] at hk
    exact hk g X' q lq cq B D f m
  refine frame_Decoder_Feed.walk ⟨fun q lq cq g => ∃ (f : Nat) (fs : List (List UInt8)) (L : List UInt8) (p1 : Option Addr) (c1 : Nat) (X1 : Ft), BL h g q lq cq fs ∧ DcA g d X1 L 0 p1 c1 ∧ Fr (fun y => y = d) h g ∧ (∀ y, inBlk p1 y → h.size ≤ y ∧ ¬ inBlk q y) ∧ L.length ≤ f ∧ fs.length + L.length ≤ 100000 ∧
      feedP (left ++ b).length (left ++ b) = (fs ++ (feedP f L).1, (feedP f L).2), fun _ lq _ _ => 100001 - lq, ?_, ?_⟩
  · refine broken_ok A ⟨_, rfl, ?_⟩
    rw [if_neg (by decide)]
    refine ⟨p0, left.length, c0, cell_at A.blk rfl, newP_of ?_⟩
    have f1 : Fr No h (h.push (.cells #[.slice p0 left.length c0, .slice p b.length c] 26)) := Fr.push _ _
    refine concat_ok (ts := [⟨p0, c0, left⟩, ⟨p, c, b⟩]) (row_new (cs := [.slice p0 left.length c0, .slice p b.length c])) (fun t ht => ?_) rfl (by simp) (by simp at hb ⊢; omega) fun h3 p3 c3 o3 f3 g3 => ⟨_, _, _, rfl, storeP_blk (f3.get (f1.get A.blk id) id) (by show 1 < 3; omega) fun h4 b4 z4 q4 => ?_⟩
    · rcases List.mem_cons.1 ht with rfl | ht
      · exact A.own.row'.frame f1 (fun _ _ => id)
      · rcases List.mem_cons.1 ht with rfl | ht
        · exact row.frame f1 (fun _ _ => id)
        · cases ht
    have el : [(⟨p0, c0, left⟩ : BV), ⟨p, c, b⟩].flatMap BV.b = left ++ b := by simp
    rw [el] at o3 b4
    have u1 := f1.1
    have F3 := f1.tt f3
    have g3' : ∀ y, inBlk p3 y → h.size ≤ y := fun y hy => by have := g3 y hy; omega
    have n3 : ¬ inBlk p3 d := fun q => by have := g3' d q; omega
    have F4 : Fr (fun y => y = d) h h4 := F3.no (Fr.of_eq z4 q4)
    exact ⟨_, [], left ++ b, p3, c3, ⟨fun y => y = d ∨ inBlk p3 y, fun _ => False⟩, BL.nil, ⟨b4, o3.frame (Fr.of_eq (S := fun y => y = d) z4 q4) (fun y hy e => n3 (e ▸ hy)), fun y => Iff.rfl, fun _ => id, n3⟩, F4, fun y hy => ⟨g3' y hy, fun ⟨a, e, _⟩ => by cases e⟩, Nat.le_refl _, by simpa using hb, by simp⟩
  rintro q lq cq g ⟨f, fs, L, p1, c1, X1, B, A1, fg, gp, hf, hs, he⟩
  have bl := B.len
  have u := fg.1
  have xm : ∀ y, X1.M y → y = d ∨ h.size ≤ y := fun y hy => ((A1.m y).1 hy).imp id (fun z => (gp y z).1)
  refine ⟨p1, L.length, c1, cell_at A1.blk rfl, ?_⟩
  have short : L.length < 2 → feedP f L = ([], L, 0) := fun hlt => by
    cases f with
    | zero => rfl
    | succ f => cases L with
      | nil => rfl
      | cons x t => cases t with
        | nil => rfl
        | cons y r => simp at hlt; omega
  by_cases c2 : L.length < 2
  · rw [if_pos (decide_eq_true (by omega))]
    rw [short c2] at he
    exact fin g X1 q lq cq _ _ 0 B ⟨p1, c1, A1⟩ fg xm (by rw [he]; simp)
  rw [if_neg (by simp; omega)]
  obtain ⟨x, y, r, rfl⟩ : ∃ x y r, L = x :: y :: r := by
    cases L with
    | nil => simp at c2
    | cons x t => cases t with
      | nil => simp at c2
      | cons y r => exact ⟨x, y, r, rfl⟩
  obtain ⟨f, rfl⟩ : ∃ k, f = k + 1 := ⟨f - 1, by simp at hf; omega⟩
  have ll : (x :: y :: r).length = r.length + 2 := by simp
  obtain ⟨a1, ea1, ca1⟩ := Bt.byte_at A1.own.row' (i := 0) (by omega)
  obtain ⟨a2, ea2, ca2⟩ := Bt.byte_at A1.own.row' (i := 1) (by omega)
  refine ⟨p1, _, c1, cell_at A1.blk rfl, ⟨by omega, by omega⟩, onSome_iff.2 ⟨a1, ea1, _, ca1, p1, _, c1, cell_at A1.blk rfl, ⟨by omega, by omega⟩, onSome_iff.2 ⟨a2, ea2, _, ca2, ?_⟩⟩⟩
  rw [show (x :: y :: r)[0] = x from rfl, show (x :: y :: r)[1] = y from rfl, num16]
  have hx := x.toNat_lt
  have hy := y.toNat_lt
  have eF : feedP (f + 1) (x :: y :: r) = (if x.toNat * 256 + y.toNat = 0 then ([], [], 3)
      else if x.toNat * 256 + y.toNat > 1000 then ([], [], 2)
      else if x.toNat * 256 + y.toNat ≤ r.length then (r.take (x.toNat * 256 + y.toNat) :: (feedP f (r.drop (x.toNat * 256 + y.toNat))).1, (feedP f (r.drop (x.toNat * 256 + y.toNat))).2)
      else ([], x :: y :: r, 0)) := rfl
  rw [eF] at he
  generalize x.toNat * 256 + y.toNat = n at he ⊢
  refine JoinP.of fun J hJ => JoinP.of fun J1 hJ1 => ?_
  have fin1 : ∀ g1 X2 (e : Nat) lf, BL h g1 q lq cq fs → Dc g1 d X2 lf e → Fr (fun y => y = d) h g1 → (∀ y, X2.M y → y = d ∨ h.size ≤ y) → feedP (left ++ b).length (left ++ b) = (fs, lf, e) → J1 q lq cq g1 := fun g1 X2 e lf B1 D1 F1 m1 he1 => by
    subst hJ1 hJ
    dsimp only
    have D0 := D1
    obtain ⟨_, _, C⟩ := D0
    exact ⟨_, cell_at C.blk rfl, fin g1 X2 q lq cq fs lf e B1 D1 F1 m1 he1⟩
  have bad : ∀ e : Nat, feedP (left ++ b).length (left ++ b) = (fs, [], e) → Cl 86 #[.pointer (some ⟨d, 0, none⟩), .int .i64 (e : Int)] g fun v g1 => v = .tuple #[] ∧ J1 q lq cq g1 := fun e he1 =>
    fail_ok A1.blk fun g1 X2 D2 f2 m2 => ⟨rfl, fin1 g1 X2 e [] (B.frame f2 (fun y hy e => by omega)) D2 (fg.tt f2) (fun y hy => .inl (m2 y hy)) he1⟩
  by_cases n0 : n = 0
  · subst n0
    rw [if_pos rfl] at he
    rw [if_pos (by decide)]
    exact bad 3 (by rw [he]; simp)
  rw [if_neg n0] at he
  rw [if_neg (by simp; omega)]
  refine JoinP.of fun J2 hJ2 => ?_
  by_cases n1 : n > 1000
  · rw [if_pos n1] at he
    rw [if_pos (decide_eq_true (by omega))]
    refine (bad 2 (by rw [he]; simp)).mono fun v g1 hv => ?_
    subst hJ2
    exact hv
  rw [if_neg n1] at he
  rw [if_neg (by simp; omega)]
  refine ⟨p1, _, c1, cell_at A1.blk rfl, ?_⟩
  rw [wrap_id (n := (((x :: y :: r).length : Nat) : Int) - 2) (by omega) (by omega)]
  by_cases n2 : n ≤ r.length
  · rw [if_pos n2] at he
    rw [if_pos (decide_eq_true (by omega))]
    have le := A1.own.le
    rw [wrap_id (n := 2 + (n : Int)) (by omega) (by omega), show Int.toNat (2 + (n : Int)) = n + 2 by omega, show Int.toNat 2 = 2 from rfl]
    have rs := A1.own.row'.sub (cap := n + 2) (l := 2) (u := n + 2) (sz := 1) (by omega) (Nat.le_refl _)
    rw [Nat.mul_one, Nat.mul_one, bc_take, bc_drop, show ((x :: y :: r).take (n + 2)).drop 2 = r.take n from rfl] at rs
    have ln : (r.take n).length = n := by rw [List.length_take]; omega
    refine ⟨p1, _, c1, cell_at A1.blk rfl, ⟨by omega, by omega⟩, ⟨by omega, by omega⟩, ⟨by omega, by omega⟩, clone_ok rs (by rw [ln]; omega) (by omega) fun p2 c2 g2 o2 f2 k2 => ⟨_, _, _, rfl, ?_⟩⟩
    have u2 := f2.1
    refine BL.push (B.on f2) (by omega) o2 (fun z hz => ⟨by have := k2 z hz; omega, fun e => by have := B.lt e; have := k2 z hz; omega⟩) (by omega) fun p3 c3 g3 B3 f3 k3 => ⟨_, _, _, rfl, ?_⟩
    have nq : ∀ z, inBlk q z → h.size ≤ z := by obtain ⟨_, _, _, _, _, _, _, w⟩ := B; exact w
    have dq : ¬ inBlk q d := fun e => by have := nq d e; omega
    have b3 := f3.get (f2.get A1.blk id) dq
    have u3 := f3.1
    have b3' : hcell g3 ⟨d, 1, none⟩ = some (.slice p1 (x :: y :: r).length c1) := cell_at b3 rfl
    refine ⟨p1, _, c1, b3', ⟨by omega, by omega⟩, storeP_blk b3 (by show 1 < 3; omega) fun g4 b4 z4 q4 => ?_⟩
    have f4 : Fr (fun y => y = d) g3 g4 := Fr.of_eq z4 q4
    have os := ((((A1.own.frame f2 (fun _ _ => id)).frame f3 (fun z hz => (gp z hz).2)).frame f4 (fun z hz e => A1.d1 (e ▸ hz))).sub (l := n + 2) (u := (x :: y :: r).length) (by omega) (Nat.le_refl _))
    rw [Nat.mul_one, Nat.mul_one, bc_take, bc_drop, List.take_length, show (x :: y :: r).drop (n + 2) = r.drop n from rfl] at os
    have ed : (x :: y :: r).length - (n + 2) = (r.drop n).length := by rw [List.length_drop]; omega
    have b4' : g4[d]? = some (.cells #[.bool true, .slice (slBase p1 c1 (n + 2) 1) ((x :: y :: r).length - (n + 2)) (c1 - (n + 2)), .int .i64 ((0 : Nat) : Int)] 172 (0, 0)) := b4
    rw [ed] at b4' os
    refine ⟨⟨f, fs ++ [r.take n], r.drop n, slBase p1 c1 (n + 2) 1, c1 - (n + 2), ⟨fun y => y = d ∨ inBlk (slBase p1 c1 (n + 2) 1) y, fun _ => False⟩, ?_, ⟨b4', os, fun y => Iff.rfl, fun _ => id, fun e => A1.d1 (inBlk_sub e)⟩, ?_, fun z hz => ⟨(gp z (inBlk_sub hz)).1, fun e => ?_⟩, by rw [List.length_drop]; simp at hf; omega, by rw [List.length_append, List.length_drop]; simp at hs ⊢; omega, by rw [he]; simp⟩, ?_⟩
    · have := B3.frame f4 (fun y hy e => by omega)
      rw [← ln] at this
      rw [ln] at this
      exact this
    · exact ((fg.on f2).trans f3 (fun _ _ => id) (fun z zl hz => by have := nq z hz; omega)).tt f4
    · have w := A1.own.blk_lt (inBlk_sub hz)
      rcases k3 z e with e | e
      · exact (gp z (inBlk_sub hz)).2 e
      · omega
    · show 100001 - (lq + 1) < 100001 - lq; simp at hs; omega
  · rw [if_neg n2] at he
    rw [if_neg (by simp; omega)]
    subst hJ2
    exact fin1 g X1 0 _ B ⟨p1, c1, A1⟩ fg xm (by rw [he]; simp)

end Frm
end
section
namespace Con
open Fld Frm Opn
variable {h h0 h':Heap} {R:TyP} {c d:Nat} {X XF:Ft} {wp op:TyO} {wc oc:Nat}
variable {Q:Nat→Prop} {e l k:Nat} {p:TyO}
structure CN where
  left : List UInt8
  derr : Nat
  w : Nat
  ses : Nat
  out : List UInt8
  clo : Nat
def wl (k : Nat) : List Value := (List.replicate k rO).flatMap fun x => x.l
theorem wl_len (k : Nat) : (wl k).length = k * 19 := by
  induction k with
  | zero => rfl
  | succ k ih => unfold wl at ih ⊢; rw [List.replicate_succ, List.flatMap_cons, List.length_append, ih, Nat.succ_mul, Nat.add_comm]; rfl
theorem wl_succ (k : Nat) : wl (k + 1) = wl k ++ rO.l := by unfold wl; rw [List.replicate_succ', List.flatMap_append]; simp
theorem wl_cons (k : Nat) : wl (k + 1) = rO.l ++ wl k := by unfold wl; rw [List.replicate_succ, List.flatMap_cons]
theorem rO_one : ∀ v ∈ rO.l, oneCell v = true := List.all_eq_true.1 (show rO.l.all oneCell = true from rfl)
theorem wl_one (k : Nat) : ∀ v ∈ wl k, oneCell v = true := by
  induction k with
  | zero => intro v hv; cases hv
  | succ k ih =>
    intro v hv
    rw [wl_succ] at hv
    rcases List.mem_append.1 hv with hv | hv
    · exact ih v hv
    · exact rO_one v hv
theorem tR : SlTy Tryz.prog 115 33 19 200 (.agg request_Request.S.z.arr) := ⟨by kernel_rfl, by kernel_rfl, rfl⟩
theorem uR : Tryz.prog.underlying 115 = some (.slice 33) := by kernel_rfl
def ftC (c : Nat) (wp op : Option Addr) (XF : Ft) : Ft := ⟨fun y => y = c ∨ inBlk wp y ∨ inBlk op y ∨ XF.M y, fun _ => False⟩
def CN.cells (x : CN) (d : Nat) (wp op : Option Addr) (wc oc : Nat) : List Value := [.pointer (some ⟨d, 0, none⟩), .slice wp x.w wc, .int .i64 x.ses, .slice op x.out.length oc, .int .i64 x.clo]
structure CnA (h : Heap) (c d : Nat) (XF : Ft) (x : CN) (wp op : Option Addr) (wc oc : Nat) : Prop where
  blk : h[c]? = some (.cells (x.cells d wp op wc oc).toArray 117 (0, 0))
  w : Own h wp x.w wc 19 (wl x.w)
  o : Own h op x.out.length oc 1 (bc x.out)
  dc : Dc h d XF x.left x.derr
  c1 : ¬ inBlk wp c
  c2 : ¬ inBlk op c
  c3 : ¬ XF.M c
  d1 : ∀ y, inBlk wp y → ¬ inBlk op y
  d2 : ∀ y, inBlk wp y → ¬ XF.M y
  d3 : ∀ y, inBlk op y → ¬ XF.M y
def Cn (h : Heap) (c : Nat) (X : Ft) (x : CN) : Prop := ∃ d XF wp op wc oc, CnA h c d XF x wp op wc oc ∧ X = ftC c wp op XF
theorem CnA.cl {x : CN} (A : CnA h c d XF x wp op wc oc) : c < h.size := (Array.getElem?_eq_some_iff.1 A.blk).1
theorem CnA.lt {x : CN} (A : CnA h c d XF x wp op wc oc) (y : Nat) (hy : (ftC c wp op XF).M y) : y < h.size := by
  rcases hy with rfl | e | e | e
  · exact A.cl
  · exact A.w.blk_lt e
  · exact A.o.blk_lt e
  · exact A.dc.lt y e
theorem CnA.frame {x : CN} (A : CnA h c d XF x wp op wc oc) (f : Fr Q h h') (hq : ∀ y, (ftC c wp op XF).M y → ¬ Q y) : CnA h' c d XF x wp op wc oc :=
  ⟨f.get A.blk (hq c (.inl rfl)), A.w.frame f (fun y e => hq y (.inr (.inl e))), A.o.frame f (fun y e => hq y (.inr (.inr (.inl e)))), A.dc.frame f (fun y e => hq y (.inr (.inr (.inr e)))), A.c1, A.c2, A.c3, A.d1, A.d2, A.d3⟩
theorem CnA.on {x : CN} (A : CnA h c d XF x wp op wc oc) (f : Fr No h h') : CnA h' c d XF x wp op wc oc := A.frame f (fun _ _ => id)
theorem Cn.lt {x : CN} (H : Cn h c X x) (y : Nat) (hy : X.M y) : y < h.size := by
  obtain ⟨d, XF, wp, op, wc, oc, A, rfl⟩ := H
  exact A.lt y hy
theorem Cn.nd {x : CN} (H : Cn h c X x) (y : Nat) : ¬ X.D y := by
  obtain ⟨d, XF, wp, op, wc, oc, A, rfl⟩ := H
  exact id
theorem Cn.frame {x : CN} (H : Cn h c X x) (f : Fr Q h h') (hq : ∀ y, X.M y → ¬ Q y) : Cn h' c X x := by
  obtain ⟨d, XF, wp, op, wc, oc, A, rfl⟩ := H
  exact ⟨d, XF, wp, op, wc, oc, A.frame f hq, rfl⟩
theorem Cn.on {x : CN} (H : Cn h c X x) (f : Fr No h h') : Cn h' c X x := H.frame f (fun _ _ => id)
theorem CnA.put_w {x x' : CN} {wp' : Option Addr} {wc' : Nat} (A : CnA h c d XF x wp op wc oc) (f : Fr (fun y => y = c ∨ inBlk wp y) h h') (b : h'[c]? = some (.cells (x'.cells d wp' op wc' oc).toArray 117 (0, 0))) (e1 : x'.left = x.left) (e2 : x'.derr = x.derr) (e3 : x'.out = x.out)
    (w : Own h' wp' x'.w wc' 19 (wl x'.w)) (gw : ∀ y, inBlk wp' y → inBlk wp y ∨ h.size ≤ y) : CnA h' c d XF x' wp' op wc' oc := by
  have n2 : ∀ y, inBlk op y → ¬ (y = c ∨ inBlk wp y) := fun y hy q => q.elim (fun e => A.c2 (e ▸ hy)) (fun e => A.d1 y e hy)
  have n3 : ∀ y, XF.M y → ¬ (y = c ∨ inBlk wp y) := fun y hy q => q.elim (fun e => A.c3 (e ▸ hy)) (fun e => A.d2 y e hy)
  refine ⟨b, w, by rw [e3]; exact A.o.frame f n2, by rw [e1, e2]; exact A.dc.frame f n3, fun e => ?_, A.c2, A.c3, fun y hy e => ?_, fun y hy e => ?_, A.d3⟩
  · rcases gw c e with q | q
    · exact A.c1 q
    · have := A.cl; omega
  · rcases gw y hy with q | q
    · exact A.d1 y q e
    · have := A.o.blk_lt e; omega
  · rcases gw y hy with q | q
    · exact A.d2 y q e
    · have := A.dc.lt y e; omega
theorem CnA.put_o {x x' : CN} {op' : Option Addr} {oc' : Nat} (A : CnA h c d XF x wp op wc oc) (f : Fr (fun y => y = c ∨ inBlk op y) h h') (b : h'[c]? = some (.cells (x'.cells d wp op' wc oc').toArray 117 (0, 0))) (e1 : x'.left = x.left) (e2 : x'.derr = x.derr) (e3 : x'.w = x.w)
    (o : Own h' op' x'.out.length oc' 1 (bc x'.out)) (go : ∀ y, inBlk op' y → inBlk op y ∨ h.size ≤ y) : CnA h' c d XF x' wp op' wc oc' := by
  have n2 : ∀ y, inBlk wp y → ¬ (y = c ∨ inBlk op y) := fun y hy q => q.elim (fun e => A.c1 (e ▸ hy)) (fun e => A.d1 y hy e)
  have n3 : ∀ y, XF.M y → ¬ (y = c ∨ inBlk op y) := fun y hy q => q.elim (fun e => A.c3 (e ▸ hy)) (fun e => A.d3 y e hy)
  refine ⟨b, by rw [e3]; exact A.w.frame f n2, o, by rw [e1, e2]; exact A.dc.frame f n3, A.c1, fun e => ?_, A.c3, fun y hy e => ?_, A.d2, fun y hy e => ?_⟩
  · rcases go c e with q | q
    · exact A.c2 q
    · have := A.cl; omega
  · rcases go y e with q | q
    · exact A.d1 y hy q
    · have := A.w.blk_lt hy; omega
  · rcases go y hy with q | q
    · exact A.d3 y q e
    · have := A.dc.lt y e; omega
theorem CnA.put_d {x x' : CN} {XF' : Ft} (A : CnA h c d XF x wp op wc oc) (f : Fr XF.M h h') (e0 : x'.cells d wp op wc oc = x.cells d wp op wc oc) (e1 : x'.w = x.w) (e2 : x'.out = x.out)
    (dc : Dc h' d XF' x'.left x'.derr) (gd : ∀ y, XF'.M y → XF.M y ∨ h.size ≤ y) : CnA h' c d XF' x' wp op wc oc := by
  refine ⟨by rw [e0]; exact f.get A.blk A.c3, by rw [e1]; exact A.w.frame f A.d2, by rw [e2]; exact A.o.frame f A.d3, dc, A.c1, A.c2, fun e => ?_, A.d1, fun y hy e => ?_, fun y hy e => ?_⟩
  · rcases gd c e with q | q
    · exact A.c3 q
    · have := A.cl; omega
  · rcases gd y e with q | q
    · exact A.d2 y hy q
    · have := A.w.blk_lt hy; omega
  · rcases gd y e with q | q
    · exact A.d3 y hy q
    · have := A.o.blk_lt hy; omega
theorem stepC {wp' op' : Option Addr} {XF' : Ft} (f : Fr (ftC c wp op XF).M h h') (gw : ∀ y, inBlk wp' y → inBlk wp y ∨ h.size ≤ y) (go : ∀ y, inBlk op' y → inBlk op y ∨ h.size ≤ y) (gd : ∀ y, XF'.M y → XF.M y ∨ h.size ≤ y) : StepF (ftC c wp op XF) h (ftC c wp' op' XF') h' := by
  refine ⟨f, ?_, fun y hy => hy.elim, fun y hy => hy.elim⟩
  rintro y (e | e | e | e)
  · exact .inl (.inl e)
  · exact (gw y e).imp (fun e => .inr (.inl e)) id
  · exact (go y e).imp (fun e => .inr (.inr (.inl e))) id
  · exact (gd y e).imp (fun e => .inr (.inr (.inr e))) id
def cn0 : CN := ⟨[], 0, 0, 0, [], 0⟩
theorem new_ok (hk : ∀ g c X, Cn g c X cn0 → Fr No h g → (∀ y, X.M y → h.size ≤ y) → R (.pointer (some ⟨c, 0, none⟩)) g) : Cl 19 #[] h R := by
  refine conn_New.walk (Frm.new_ok fun h1 d XF D1 f1 g1 => ⟨_, rfl, newP_of ?_⟩)
  have u1 := f1.1
  have nn : ∀ y, ¬ inBlk none y := fun y ⟨a, e, _⟩ => by cases e
  have f2 : Fr No h1 (h1.push (.cells #[.pointer (some ⟨d, 0, none⟩), .slice none 0 0, .int .i64 0, .slice none 0 0, .int .i64 0] 117)) := Fr.push _ _
  refine hk _ h1.size _ ⟨d, XF, none, none, 0, 0, ⟨push_new, .nil rfl rfl rfl rfl, .nil rfl rfl rfl rfl, D1.frame f2 (fun _ _ => id), nn _, nn _, fun e => by have := D1.lt _ e; omega, fun y hy => (nn y hy).elim, fun y hy => (nn y hy).elim, fun y hy => (nn y hy).elim⟩, rfl⟩ (f1.tt f2) ?_
  rintro y (rfl | e | e | e)
  · exact u1
  · exact (nn y e).elim
  · exact (nn y e).elim
  · exact g1 y e
theorem made_ok {x : CN} (A : CnA h c d XF x wp op wc oc) (hk : R (.bool true) h) : Cl 79 #[.pointer (some ⟨c, 0, none⟩)] h R :=
  conn_Conn_made.walk ⟨_, cell_at A.blk rfl, hk⟩
theorem closed_ok {x : CN} (A : CnA h c d XF x wp op wc oc) (hk : R (.int .i64 x.clo) h) : Cl 39 #[.pointer (some ⟨c, 0, none⟩)] h R := by
  refine conn_Conn_Closed.walk (made_ok A ⟨_, rfl, ?_⟩)
  rw [if_neg (by decide)]
  exact ⟨_, cell_at A.blk rfl, hk⟩
theorem session_ok {x : CN} (H : Cn h c X x) (hk : R (.int .i64 x.ses) h) : Cl 44 #[.pointer (some ⟨c, 0, none⟩)] h R := by
  obtain ⟨d, XF, wp, op, wc, oc, A, rfl⟩ := H
  exact conn_Conn_Session.walk ⟨_, cell_at A.blk rfl, hk⟩
theorem close_ok {x : CN} (A : CnA h c d XF x wp op wc oc) (h0 : x.clo = 0) (he : e ≠ 0)
    (hk : ∀ g, CnA g c d XF { x with w := 0, clo := e } none op 0 oc → Fr (fun y => y = c) h g → R (.tuple #[]) g) : Cl 42 #[.pointer (some ⟨c, 0, none⟩), .int .i64 (e : Int)] h R := by
  refine conn_Conn_Close.walk (closed_ok A ⟨_, rfl, ?_⟩)
  rw [h0, if_neg (by decide)]
  refine JoinP.of fun J hJ => ?_
  rw [if_neg (by simp; omega)]
  subst hJ
  dsimp only
  refine storeP_blk A.blk (by show 4 < 5; omega) fun h1 b1 z1 q1 => storeP_blk b1 (by show 1 < 5; omega) fun h2 b2 z2 q2 => ?_
  have f : Fr (fun y => y = c) h h2 := (Fr.of_eq z1 q1).tt (Fr.of_eq z2 q2)
  exact hk h2 (A.put_w (x' := { x with w := 0, clo := e }) (f.mono fun y _ => .inl) b2 rfl rfl rfl (.nil rfl rfl rfl rfl) (fun y ⟨a, e, _⟩ => by cases e)) f
theorem take_ok {x : CN} (A : CnA h c d XF x wp op wc oc) (row : Row h p (bc [5, 11])) (hl : l = 2) (hw : x.w < 8)
    (hk : ∀ g wp' wc', CnA g c d XF { x with w := x.w + 1 } wp' op wc' oc → Fr (fun y => y = c ∨ inBlk wp y) h g → (∀ y, inBlk wp' y → inBlk wp y ∨ h.size ≤ y) → R (.int .i64 0) g) : Cl 41 #[.pointer (some ⟨c, 0, none⟩), .slice p l k] h R := by
  refine conn_Conn_take.walk (Opn.read_ok row hl fun h1 f1 => request_Request.ex rO ⟨_, rfl, request_Request.newp (x := rO) fun b h2 eb b2 f2 => ?_⟩)
  rw [if_neg (by decide)]
  have F2 := f1.tt f2
  have A2 := A.on F2
  refine ⟨_, _, _, cell_at A2.blk rfl, ?_⟩
  rw [if_neg (by simp; omega)]
  refine ⟨_, _, _, cell_at A2.blk rfl, request_Request.ldp b2 (newP_of ?_)⟩
  have f3 : Fr No h2 (h2.push (.cells rO.arr 33)) := Fr.push _ _
  have A3 := A2.on f3
  have F3 := F2.tt f3
  have u3 := F3.1
  refine ⟨f3.kp, den_append tR uR A3.w (ds := rO.l) (row_new (cs := rO.l)) rfl rO_one (by omega) (by omega) fun p4 c4 h4 o4 _ f4 g4 => ⟨_, _, _, rfl, ?_⟩⟩
  have b4 := f4.get A3.blk A.c1
  refine storeP_blk b4 (by show 1 < 5; omega) fun h5 b5 z5 q5 => ?_
  have f5 : Fr (fun y => y = c) h4 h5 := Fr.of_eq z5 q5
  have gw : ∀ y, inBlk p4 y → inBlk wp y ∨ h.size ≤ y := fun y hy => (g4 y hy).imp id (fun e => by omega)
  have nc : ¬ inBlk p4 c := fun e => (gw c e).elim A.c1 (fun e => by have := A.cl; omega)
  have f : Fr (fun y => y = c ∨ inBlk wp y) h h5 := (F3.no f4).trans f5 (fun y _ => .inr) (fun y _ => .inl)
  rw [← wl_succ] at o4
  exact hk h5 p4 c4 (A.put_w (x' := { x with w := x.w + 1 }) f b5 rfl rfl rfl (o4.frame f5 (fun y hy e => nc (e ▸ hy))) gw) f gw
def CN.fed (x : CN) (k : Nat) (lf : List UInt8) (e : Nat) : CN := if e = 0 then { x with left := lf, derr := 0, w := x.w + k } else { x with left := lf, derr := e, w := 0, clo := e }
variable {x:CN}
theorem Feed_ok {b : List UInt8} {k0:Nat} {lf : List UInt8} (H : Cn h c X x) (h0 : x.clo = 0) (hd : x.derr = 0) (row : Row h p (bc b)) (hl : l = b.length) (hb : (x.left ++ b).length ≤ 100000)
    (hF : feedP (x.left ++ b).length (x.left ++ b) = (List.replicate k [5, 11], lf, e)) (h8 : x.w + k ≤ 8)
    (hk : ∀ g X', Cn g c X' (x.fed k lf e) → StepF X h X' g → R (.int .i64 (e : Int)) g) : Cl 21 #[.pointer (some ⟨c, 0, none⟩), .slice p l k0] h R := by
  obtain ⟨d, XF, wp, op, wc, oc, A, rfl⟩ := H
  refine conn_Conn_Feed.walk (closed_ok A ⟨_, rfl, ?_⟩)
  rw [h0, if_neg (by decide)]
  refine ⟨_, cell_at A.blk rfl, feed_ok (hd ▸ A.dc) row hl hb fun g XF' q lq cq B D f m => ⟨_, _, _, _, rfl, ?_⟩⟩
  rw [hF] at B D ⊢
  dsimp only at B D ⊢
  have xd : XF.M d := by obtain ⟨_, _, C⟩ := A.dc; exact (C.m d).2 (.inl rfl)
  have gd : ∀ y, XF'.M y → XF.M y ∨ h.size ≤ y := fun y hy => (m y hy).imp (fun (e : y = d) => e ▸ xd) id
  have A1 : CnA g c d XF' { x with left := lf, derr := e } wp op wc oc := A.put_d (f.mono fun y _ (e : y = d) => e ▸ xd) rfl rfl rfl D gd
  have u := f.1
  obtain ⟨xs, D', rfl, o, em, ok, db, ob⟩ := B
  have lx : xs.length = k := by have := congrArg List.length em; simpa using this
  have cl := A.cl
  have qo : ∀ y, h.size ≤ y → ¬ (y = c ∨ inBlk wp y) := fun y hy q => q.elim (fun e => by omega) (fun e => by have := A.w.blk_lt e; omega)
  refine ⟨fun t g' => ∃ (j : Nat) (wp1 : Option Addr) (wc1 : Nat), t = (j : Int) ∧ j ≤ k ∧ CnA g' c d XF' { x with left := lf, derr := e, w := x.w + j } wp1 op wc1 oc ∧ Fr (fun y => y = c ∨ inBlk wp y) g g' ∧ (∀ y, inBlk wp1 y → inBlk wp y ∨ g.size ≤ y),
    fun t _ => k - t.toNat, ⟨0, wp, wc, rfl, Nat.zero_le _, A1, Fr.refl _ _, fun _ => .inl⟩, ?_⟩
  rintro _ g' ⟨j, wp1, wc1, rfl, hj, A2, f2, gw⟩
  have u2 := f2.1
  by_cases hlt : j < k
  · rw [if_pos (decide_eq_true (by omega))]
    have hx : xs[j]? = some (xs[j]'(by omega)) := List.getElem?_eq_getElem _
    have mem : xs[j]'(by omega) ∈ xs := List.getElem_mem _
    have eb : (xs[j]'(by omega)).b = [5, 11] := by
      have := congrArg (fun l => l[j]?) em
      simp only [List.getElem?_map, hx, Option.map_some, List.getElem?_replicate, hlt, if_true] at this
      exact Option.some.inj this
    generalize xs[j]'(by omega) = z at hx mem eb
    have rz := ((ok z mem).frame f2 (fun y hy => qo y (db y hy).1)).row
    have rq : Row g' q (xs.flatMap nenc) := (o.frame f2 (fun y hy => qo y (ob y hy))).row'
    rw [flat_one] at rq
    obtain ⟨a, rfl⟩ := rq.some (by intro e; have := congrArg List.length e; simp at this; rw [this] at lx; simp at lx; omega)
    refine ⟨⟨by omega, by omega⟩, onSome_some.2 ⟨_, _, _, by rw [Int.toNat_natCast, Nat.mul_one]; exact rq.cell (by rw [List.getElem?_map, hx]; rfl), ?_⟩⟩
    rw [eb] at rz ⊢
    refine take_ok A2 rz rfl (by show x.w + j < 8; omega) fun g3 wp3 wc3 A3 f3 gw3 => ⟨_, rfl, ?_⟩
    rw [if_neg (by decide), wrap_id (by omega) (by omega)]
    refine ⟨⟨j + 1, wp3, wc3, by omega, by omega, A3, f2.trans f3 (fun _ _ => id) (fun y yl hy => hy.imp id (fun e => (gw y e).resolve_right (by omega))), fun y hy => (gw3 y hy).elim (gw y) (fun e => .inr (by omega))⟩, by show k - Int.toNat ((j : Int) + 1) < k - Int.toNat (j : Int); omega⟩
  · rw [if_neg (fun e => hlt (by have := of_decide_eq_true e; omega))]
    obtain rfl : j = k := by omega
    have gw' : ∀ y, inBlk wp1 y → inBlk wp y ∨ h.size ≤ y := fun y hy => (gw y hy).imp id (fun e => by omega)
    have F : Fr (ftC c wp op XF).M h g' := f.trans f2 (fun y _ e => .inr (.inr (.inr (e ▸ xd)))) (fun y _ e => e.elim .inl (fun e => .inr (.inl e)))
    refine JoinP.of fun J hJ => ?_
    unfold CN.fed at hk
    by_cases he : e = 0
    · subst he
      rw [if_neg (by decide)]
      subst hJ
      rw [if_pos rfl] at hk
      refine ⟨_, cell_at A2.blk rfl, ?_⟩
      have := hk g' _ ⟨d, XF', wp1, op, wc1, oc, A2, rfl⟩ (stepC F gw' (fun _ => .inl) gd)
      show R (.int .i64 (x.clo : Int)) g'
      rw [h0]; exact this
    · rw [if_pos (by simp; exact he)]
      rw [if_neg he] at hk
      refine close_ok A2 h0 he fun g3 A3 f3 => ⟨rfl, ?_⟩
      subst hJ
      refine ⟨_, cell_at A3.blk rfl, ?_⟩
      refine hk g3 _ ⟨d, XF', none, op, 0, oc, A3, rfl⟩ (stepC (F.trans f3 (fun _ _ => id) (fun y _ e => .inl e)) (fun y ⟨a, e, _⟩ => by cases e) (fun _ => .inl) gd)
theorem Bind_ok {s : Nat} (H : Cn h c X x) (h0 : x.clo = 0) (hs : x.ses = 0) (s1 : 1 ≤ s) (s2 : s ≤ 1099511627776) (hk : ∀ g, Cn g c X { x with ses := s } → StepF X h X g → R (.int .i64 0) g) : Cl 50 #[.pointer (some ⟨c, 0, none⟩), .int .i64 (s : Int)] h R := by
  obtain ⟨d, XF, wp, op, wc, oc, A, rfl⟩ := H
  refine conn_Conn_Bind.walk (made_ok A ⟨_, rfl, ?_⟩)
  rw [if_neg (by decide)]
  refine JoinP.of fun J hJ => ?_
  rw [if_neg (by simp; omega), decide_eq_false (by omega)]
  subst hJ
  dsimp only
  rw [if_neg (by decide)]
  refine JoinP.of fun J hJ => ⟨_, cell_at A.blk rfl, ?_⟩
  rw [if_neg (by rw [hs]; decide)]
  refine ⟨_, cell_at A.blk rfl, ?_⟩
  rw [h0]
  subst hJ
  dsimp only
  rw [if_neg (by decide)]
  refine storeP_blk A.blk (by show 2 < 5; omega) fun h1 b1 z1 q1 => ?_
  have f : Fr (fun y => y = c) h h1 := Fr.of_eq z1 q1
  exact hk h1 ⟨d, XF, wp, op, wc, oc, A.put_w (x' := { x with ses := s }) (f.mono fun y _ => .inl) b1 rfl rfl rfl (A.w.frame f (fun y hy e => A.c1 (e ▸ hy))) (fun _ => .inl), rfl⟩ (stepC (f.mono fun y _ e => .inl e) (fun _ => .inl) (fun _ => .inl) (fun _ => .inl))
theorem Out_ok (H : Cn h c X x) (hk : ∀ g X' op oc, Cn g c X' { x with out := [] } → Own g op x.out.length oc 1 (bc x.out) → StepF X h X' g → R (.slice op x.out.length oc) g) : Cl 36 #[.pointer (some ⟨c, 0, none⟩)] h R := by
  obtain ⟨d, XF, wp, op, wc, oc, A, rfl⟩ := H
  refine conn_Conn_Out.walk ⟨_, _, _, cell_at A.blk rfl, storeP_blk A.blk (by show 3 < 5; omega) fun h1 b1 z1 q1 => ?_⟩
  have f : Fr (fun y => y = c) h h1 := Fr.of_eq z1 q1
  exact hk h1 _ op oc ⟨d, XF, wp, none, wc, 0, A.put_o (x' := { x with out := [] }) (f.mono fun y _ => .inl) b1 rfl rfl rfl (.nil rfl rfl rfl rfl) (fun y ⟨a, e, _⟩ => by cases e), rfl⟩ (A.o.frame f (fun y hy e => A.c2 (e ▸ hy))) (stepC (f.mono fun y _ e => .inl e) (fun _ => .inl) (fun y ⟨a, e, _⟩ => by cases e) (fun _ => .inl))
theorem cloneR_ok {n:Nat} (rs : Row h p (wl n)) (hn : n ≤ 100) (hk : ∀ p' c' g, Own g p' n c' 19 (wl n) → Fr No h g → (∀ y, inBlk p' y → h.size ≤ y) → R (.slice p' n c') g) :
    Cl 48 #[.slice p n k] h R :=
  slices_Clone_s_request_Request_request_Request.walk (clone_all tR uR (by decide) rs (wl_len n) (wl_one n) (by omega) (by omega) hk)
theorem Next_none (H : Cn h c X x) (h0 : x.w = 0) (hk : ∀ g, Fr No h g → R (.tuple #[request_Request.S.z.agg, .bool false]) g) : Cl 23 #[.pointer (some ⟨c, 0, none⟩)] h R := by
  obtain ⟨d, XF, wp, op, wc, oc, A, rfl⟩ := H
  refine conn_Conn_Next.walk (request_Request.boxp (x := request_Request.S.z) fun b h1 eb b1 f1 => conn_Conn_Waits.walk ⟨_, _, _, cell_at (A.on f1).blk rfl, _, rfl, ?_⟩)
  have u1 := f1.1
  rw [h0, if_pos (by decide)]
  exact request_Request.setp b1 fun h2 b2 f2 _ => request_Request.ldp b2 (hk h2 (f1.fresh f2 fun y e => by omega))
theorem Next_ok (H : Cn h c X x) (hw : 0 < x.w) (h8 : x.w ≤ 8) (hk : ∀ g X', Cn g c X' { x with w := x.w - 1 } → StepF X h X' g → R (.tuple #[rO.agg, .bool true]) g) : Cl 23 #[.pointer (some ⟨c, 0, none⟩)] h R := by
  obtain ⟨d, XF, wp, op, wc, oc, A, rfl⟩ := H
  refine conn_Conn_Next.walk (request_Request.boxp (x := request_Request.S.z) fun b h1 eb b1 f1 => conn_Conn_Waits.walk ⟨_, _, _, cell_at (A.on f1).blk rfl, _, rfl, ?_⟩)
  have u1 := f1.1
  have A1 := A.on f1
  rw [if_neg (by simp; omega)]
  obtain ⟨k, ek⟩ : ∃ k, x.w = k + 1 := ⟨x.w - 1, by omega⟩
  obtain ⟨wb, wo, ew⟩ := A1.w.addr hw
  have hd : heldL ((⟨wb, wo, none⟩ : Addr).add (0 * 19)) rO.l 0 h1 := by
    have := A1.w
    rw [ew, ek] at this
    exact Own.heldAt (enc := fun x : request_Request.S => x.l) (xs := List.replicate (k + 1) rO) this (fun _ => rfl) (by rw [List.getElem?_replicate, if_pos (by omega)])
  refine ⟨_, _, _, cell_at A1.blk rfl, ⟨by omega, by omega⟩, onSome_iff.2 ⟨_, ew, request_Request.ldAp (x := rO) hd (request_Request.newp (x := rO) fun b2 h2 eb2 b2' f2 => ?_)⟩⟩
  have A2 := A1.on f2
  have u2 := f2.1
  have le := A.w.le
  have rs := A2.w.row'.sub (cap := wc) (l := 1) (u := x.w) (sz := 19) hw le
  have er : ((wl x.w).take (x.w * 19)).drop (1 * 19) = wl (x.w - 1) := by
    rw [List.take_of_length_le (by rw [wl_len]; exact Nat.le_refl _), ek, wl_cons]
    rfl
  rw [er] at rs
  refine ⟨_, _, _, cell_at A2.blk rfl, ⟨by omega, by omega⟩, cloneR_ok rs (by omega) fun p3 c3 h3 o3 f3 g3 => ⟨_, _, _, rfl, ?_⟩⟩
  have A3 := A2.on f3
  have u3 := f3.1
  have cl := A.cl
  have bl : b < h1.size := (Array.getElem?_eq_some_iff.1 b1).1
  refine storeP_blk A3.blk (by show 1 < 5; omega) fun h4 b4 z4 q4 => ?_
  have f4 : Fr (fun y => y = c) h3 h4 := Fr.of_eq z4 q4
  have F3 : Fr No h h3 := (f1.tt f2).tt f3
  have u5 := F3.1
  have gw : ∀ y, inBlk p3 y → inBlk wp y ∨ h3.size ≤ y ∨ h.size ≤ y := fun y hy => .inr (.inr (by have := g3 y hy; omega))
  have nc : ¬ inBlk p3 c := fun e => by have := g3 c e; omega
  have f4' : Fr (fun y => y = c ∨ inBlk wp y) h h4 := F3.no (f4.mono fun y _ => .inl)
  have A4 : CnA h4 c d XF { x with w := x.w - 1 } p3 op c3 oc := A.put_w (x' := { x with w := x.w - 1 }) f4' b4 rfl rfl rfl (o3.frame f4 (fun y hy e => nc (e ▸ hy))) (fun y hy => .inr (by have := g3 y hy; omega))
  refine request_Request.ldp (f4.get (f3.get b2' id) (by omega)) (request_Request.setp (f4.get (f3.get (f2.get b1 id) id) (by omega)) fun h5 b5 f5 _ => request_Request.ldp b5 ?_)
  have f5' : Fr (fun y => y = b) h4 h5 := f5
  refine hk h5 _ ⟨d, XF, p3, op, c3, oc, A4.frame f5 (fun y hy e => ?_), rfl⟩ (stepC ((f4'.mono fun y _ e => e.elim .inl (fun e => .inr (.inl e))).trans f5 (fun _ _ => id) (fun y yl e => by omega)) (fun y hy => .inr (by have := g3 y hy; omega)) (fun _ => .inl) (fun _ => .inl))
  subst e
  rcases hy with e | e | e | e
  · omega
  · have := g3 _ e; omega
  · have := A.o.blk_lt e; omega
  · have := A.dc.lt _ e; omega

end Con
end
section
variable {h:Heap} {R:TyP}
variable {b q is_c:Nat}
abbrev pend_Queue.atp (h : Heap) (b : Nat) (x : pend_Queue.S) : Prop := h[b]? = some (.cells x.arr 138 (0, 0))
theorem pend_Queue.ex {K : pend_Queue.S → Prop} (x : pend_Queue.S) (hk : K x) : pend_Queue.EX K := ⟨_, _, _, _, hk⟩
abbrev pend_Entry.atp (h : Heap) (b : Nat) (x : pend_Entry.S) : Prop := h[b]? = some (.cells x.arr 77 (0, 0))
theorem pend_Entry.ex {K : pend_Entry.S → Prop} (x : pend_Entry.S) (hk : K x) : pend_Entry.EX K := ⟨_, _, _, _, _, hk⟩
theorem pend_Entry.ldAp {a : Addr} {x : pend_Entry.S} {K : pend_Entry.S → Prop} (hb : heldL a x.l 0 h) (hk : K x) : pend_Entry.LDp h a K := by
  obtain ⟨q0, q1, q2, _⟩ := hb
  rw [add_zero_addr] at q0
  exact ⟨_, q0, _, _, _, q1, _, q2, hk⟩
theorem pend_Entry.heldp {x : pend_Entry.S} (hb : pend_Entry.atp h b x) : heldL ⟨b, 0, none⟩ x.l 0 h :=
  heldL_blk hb (fun j v hj => by rw [Nat.zero_add]; simpa using hj)
theorem pend_Entry.ldp {x : pend_Entry.S} {K : pend_Entry.S → Prop} (hb : pend_Entry.atp h b x) (hk : K x) : pend_Entry.LDp h ⟨b, 0, none⟩ K := ldAp (heldp hb) hk
theorem pend_Entry.newp {x : pend_Entry.S} {K : Nat → Heap → Prop} (hk : ∀ b h', b = h.size → pend_Entry.atp h' b x → Fr No h h' → K b h') : NewP h (.cells pend_Entry.S.z.arr 77) fun b h_0 => pend_Entry.STp h_0 ⟨b, 0, none⟩ x (K b) :=
  new_full (vs := x.l) rfl rfl hk
theorem pend_Entry.boxp {x : pend_Entry.S} {K : Nat → Heap → Prop} (hk : ∀ b h', b = h.size → pend_Entry.atp h' b x → Fr No h h' → K b h') : NewP h (.cells x.arr 77) fun b h_0 => K b h_0 :=
  newP_of (hk _ _ rfl push_new (Fr.push _ _))
variable {K:pend_Entry.S→Prop} {x:pend_Entry.S}
theorem pend_New.walk  (hv :
 NewP h (.cells #[.bool true, .slice none 0 0] 138) fun b h_1 =>
 R (.pointer (some ⟨b, 0, none⟩)) h_1) : Cl 30 #[] h R :=
 callsN [] hv
theorem pend_Queue_Add.walk (hv :
 NewP h (.cells x.arr 77) fun b h_1 =>
 JoinP (fun (t5 : Bool) h_2 =>
 ite t5
 (  R (.int .i64 6) h_2)
 (  JoinP (fun (t15 : Bool) h_3 =>
 ite t15
 (  R (.int .i64 1) h_3)
 (  ∃ t44_p t44_l t44_c, hcell h_3 ⟨q, 1, none⟩ = some (.slice t44_p t44_l t44_c) ∧
 ite (decide (((t44_l : Nat) : Int) ≥ 64))
 (  R (.int .i64 5) h_3)
 (  ∃ t48_p t48_l t48_c, hcell h_3 ⟨b, 1, none⟩ = some (.slice t48_p t48_l t48_c) ∧
 Cl 57 #[.slice t48_p t48_l t48_c] h_3 fun v h_4 =>
 ∃ t49_p t49_l t49_c, v = .slice t49_p t49_l t49_c ∧
 StoreP h_4 ⟨b, 1, none⟩ (.slice t49_p t49_l t49_c) fun h_5 =>
 ∃ t55_p t55_l t55_c, hcell h_5 ⟨q, 1, none⟩ = some (.slice t55_p t55_l t55_c) ∧
 pend_Entry.LDp h_5 ⟨b, 0, none⟩ fun t56 =>
 NewP h_5 (.cells t56.arr 77) fun b_1 h_6 =>
 Kp h_5 h_6 [(some ⟨q, 1, none⟩)] ∧
 Dsz (Builtin.append_ #[104, 104] 104 #[.slice t55_p t55_l t55_c, .slice (some ⟨b_1, 0, none⟩) 1 1]) h_6 fun v_1 h_7 =>
 ∃ t58_p t58_l t58_c, v_1 = .slice t58_p t58_l t58_c ∧
 StoreP h_7 ⟨q, 1, none⟩ (.slice t58_p t58_l t58_c) fun h_8 =>
 R (.int .i64 0) h_8)))
 (fun J_1 =>
 ∃ t17, hcell h_2 ⟨b, 0, none⟩ = some (.int .i64 t17) ∧
 ite (decide (t17 < 1))
 (  J_1 true h_2)
 (  ∃ t21, hcell h_2 ⟨b, 0, none⟩ = some (.int .i64 t21) ∧
 ite (decide (t21 > 1099511627776))
 (  J_1 true h_2)
 (  ∃ t26, hcell h_2 ⟨b, 2, none⟩ = some (.int .i64 t26) ∧
 ite (decide (t26 < 0))
 (  J_1 true h_2)
 (  ∃ t31, hcell h_2 ⟨b, 2, none⟩ = some (.int .i64 t31) ∧
 ite (decide (t31 > 1099511627776))
 (  J_1 true h_2)
 (  ∃ t36_p t36_l t36_c, hcell h_2 ⟨b, 1, none⟩ = some (.slice t36_p t36_l t36_c) ∧
 J_1 (decide (((t36_l : Nat) : Int) > 1002)) h_2)))))))
 (fun J =>
 ∃ t12, hcell h_1 ⟨q, 0, none⟩ = some (.bool t12) ∧
 J (!t12) h_1)) : Cl 26 #[.pointer (some ⟨q, 0, none⟩), x.agg] h R :=
 callsN [(5, .join [(5, sB)]), (11, .join [(15, sB)]), (26, fun _ => .planK (runP 11 0 .done))] hv
theorem pend_Queue_part.ready.walk (hv :
 ∃ t12_p t12_l t12_c, hcell h ⟨q, 1, none⟩ = some (.slice t12_p t12_l t12_c) ∧
 ∃ (I : Option Addr → Nat → Nat → Option Addr → Nat → Nat → Int → Heap → Prop) (mu : Option Addr → Nat → Nat → Option Addr → Nat → Nat → Int → Heap → Nat), I none 0 0 none 0 0 0 h ∧ ∀ out_p out_l out_c left_p left_l left_c t14 h_1, I out_p out_l out_c left_p left_l left_c t14 h_1 →
 ite (decide (t14 < ((t12_l : Nat) : Int)))
 (  JoinP (fun (out_p_1 : Option Addr) (out_l_1 out_c_1 : Nat) (left_p_1 : Option Addr) (left_l_1 left_c_1 : Nat) h_2 =>
 (I out_p_1 out_l_1 out_c_1 left_p_1 left_l_1 left_c_1 (IntKind.wrap .i64 (t14 + 1)) h_2 ∧ mu out_p_1 out_l_1 out_c_1 left_p_1 left_l_1 left_c_1 (IntKind.wrap .i64 (t14 + 1)) h_2 < mu out_p out_l out_c left_p left_l left_c t14 h_1))
 (fun J =>
 ((0 : Int) ≤ t14 ∧ t14 < ((t12_l : Nat) : Int)) ∧
 onSome t12_p fun a =>
 pend_Entry.LDp h_1 (a.add (Int.toNat t14 * 3)) fun t17 =>
 NewP h_1 (.cells pend_Entry.S.z.arr 77) fun b h_3 =>
 pend_Entry.STp h_3 ⟨b, 0, none⟩ t17 fun h_4 =>
 pend_Entry.LDp h_4 ⟨b, 0, none⟩ fun t19 =>
 Cl 71 #[t19.agg, .pointer (some ⟨is_c, 0, none⟩)] h_4 fun v h_5 =>
 ∃ t20, v = .bool t20 ∧
 JoinP (fun (out_p_2 : Option Addr) (out_l_2 out_c_2 : Nat) (left_p_2 : Option Addr) (left_l_2 left_c_2 : Nat) h_6 =>
 J out_p_2 out_l_2 out_c_2 left_p_2 left_l_2 left_c_2 h_6)
 (fun J_1 =>
 ite t20
 (  pend_Entry.LDp h_5 ⟨b, 0, none⟩ fun t22 =>
 NewP h_5 (.cells t22.arr 77) fun b_1 h_7 =>
 Dsz (Builtin.append_ #[104, 104] 104 #[.slice out_p out_l out_c, .slice (some ⟨b_1, 0, none⟩) 1 1]) h_7 fun v_1 h_8 =>
 ∃ t24_p t24_l t24_c, v_1 = .slice t24_p t24_l t24_c ∧
 J_1 t24_p t24_l t24_c left_p left_l left_c h_8)
 (  pend_Entry.LDp h_5 ⟨b, 0, none⟩ fun t26 =>
 NewP h_5 (.cells t26.arr 77) fun b_2 h_9 =>
 Dsz (Builtin.append_ #[104, 104] 104 #[.slice left_p left_l left_c, .slice (some ⟨b_2, 0, none⟩) 1 1]) h_9 fun v_2 h_10 =>
 ∃ t28_p t28_l t28_c, v_2 = .slice t28_p t28_l t28_c ∧
 J_1 out_p out_l out_c t28_p t28_l t28_c h_10))))
 (  StoreP h_1 ⟨q, 1, none⟩ (.slice left_p left_l left_c) fun h_11 =>
 R (.slice out_p out_l out_c) h_11)) : Cl 70 #[.pointer (some ⟨q, 0, none⟩), .func (.func 71) #[] #[.pointer (some ⟨is_c, 0, none⟩)]] h R :=
 callsN [(8, .loop [(5, sS), (6, sS), (14, sI)]), (16, .join [(5, sS), (6, sS)]), (21, .join [(5, sS), (6, sS)])] hv
theorem pend_Queue_part.drop.walk (hv :
 ∃ t12_p t12_l t12_c, hcell h ⟨q, 1, none⟩ = some (.slice t12_p t12_l t12_c) ∧
 ∃ (I : Option Addr → Nat → Nat → Option Addr → Nat → Nat → Int → Heap → Prop) (mu : Option Addr → Nat → Nat → Option Addr → Nat → Nat → Int → Heap → Nat), I none 0 0 none 0 0 0 h ∧ ∀ out_p out_l out_c left_p left_l left_c t14 h_1, I out_p out_l out_c left_p left_l left_c t14 h_1 →
 ite (decide (t14 < ((t12_l : Nat) : Int)))
 (  JoinP (fun (out_p_1 : Option Addr) (out_l_1 out_c_1 : Nat) (left_p_1 : Option Addr) (left_l_1 left_c_1 : Nat) h_2 =>
 (I out_p_1 out_l_1 out_c_1 left_p_1 left_l_1 left_c_1 (IntKind.wrap .i64 (t14 + 1)) h_2 ∧ mu out_p_1 out_l_1 out_c_1 left_p_1 left_l_1 left_c_1 (IntKind.wrap .i64 (t14 + 1)) h_2 < mu out_p out_l out_c left_p left_l left_c t14 h_1))
 (fun J =>
 ((0 : Int) ≤ t14 ∧ t14 < ((t12_l : Nat) : Int)) ∧
 onSome t12_p fun a =>
 pend_Entry.LDp h_1 (a.add (Int.toNat t14 * 3)) fun t17 =>
 NewP h_1 (.cells pend_Entry.S.z.arr 77) fun b h_3 =>
 pend_Entry.STp h_3 ⟨b, 0, none⟩ t17 fun h_4 =>
 pend_Entry.LDp h_4 ⟨b, 0, none⟩ fun t19 =>
 Cl 88 #[t19.agg, .pointer (some ⟨is_c, 0, none⟩)] h_4 fun v h_5 =>
 ∃ t20, v = .bool t20 ∧
 JoinP (fun (out_p_2 : Option Addr) (out_l_2 out_c_2 : Nat) (left_p_2 : Option Addr) (left_l_2 left_c_2 : Nat) h_6 =>
 J out_p_2 out_l_2 out_c_2 left_p_2 left_l_2 left_c_2 h_6)
 (fun J_1 =>
 ite t20
 (  pend_Entry.LDp h_5 ⟨b, 0, none⟩ fun t22 =>
 NewP h_5 (.cells t22.arr 77) fun b_1 h_7 =>
 Dsz (Builtin.append_ #[104, 104] 104 #[.slice out_p out_l out_c, .slice (some ⟨b_1, 0, none⟩) 1 1]) h_7 fun v_1 h_8 =>
 ∃ t24_p t24_l t24_c, v_1 = .slice t24_p t24_l t24_c ∧
 J_1 t24_p t24_l t24_c left_p left_l left_c h_8)
 (  pend_Entry.LDp h_5 ⟨b, 0, none⟩ fun t26 =>
 NewP h_5 (.cells t26.arr 77) fun b_2 h_9 =>
 Dsz (Builtin.append_ #[104, 104] 104 #[.slice left_p left_l left_c, .slice (some ⟨b_2, 0, none⟩) 1 1]) h_9 fun v_2 h_10 =>
 ∃ t28_p t28_l t28_c, v_2 = .slice t28_p t28_l t28_c ∧
 J_1 out_p out_l out_c t28_p t28_l t28_c h_10))))
 (  StoreP h_1 ⟨q, 1, none⟩ (.slice left_p left_l left_c) fun h_11 =>
 R (.slice out_p out_l out_c) h_11)) : Cl 70 #[.pointer (some ⟨q, 0, none⟩), .func (.func 88) #[] #[.pointer (some ⟨is_c, 0, none⟩)]] h R :=
 callsN [(8, .loop [(5, sS), (6, sS), (14, sI)]), (16, .join [(5, sS), (6, sS)]), (21, .join [(5, sS), (6, sS)])] hv
theorem pend_Queue_Ready.walk {done : Int} (hv :
 NewP h (.cells #[.int .i64 done] 3) fun b h_1 =>
 Cl 70 #[.pointer (some ⟨q, 0, none⟩), .func (.func 71) #[] #[.pointer (some ⟨b, 0, none⟩)]] h_1 fun v h_2 =>
 ∃ t9_p t9_l t9_c, v = .slice t9_p t9_l t9_c ∧
 R (.slice t9_p t9_l t9_c) h_2) : Cl 31 #[.pointer (some ⟨q, 0, none⟩), .int .i64 done] h R :=
 callsN [] hv
theorem pend_Queue_Ready_1.walk {c0 : Nat} (hv :
 NewP h (.cells x.arr 77) fun b h_1 =>
 ∃ t5, hcell h_1 ⟨b, 2, none⟩ = some (.int .i64 t5) ∧
 ∃ t6, hcell h_1 ⟨c0, 0, none⟩ = some (.int .i64 t6) ∧
 R (.bool (decide (t5 ≤ t6))) h_1) : Cl 71 #[x.agg, .pointer (some ⟨c0, 0, none⟩)] h R :=
 callsN [] hv
theorem pend_Queue_Drop.walk {to : Int} (hv :
 NewP h (.cells #[.int .i64 to] 3) fun b h_1 =>
 Cl 70 #[.pointer (some ⟨q, 0, none⟩), .func (.func 88) #[] #[.pointer (some ⟨b, 0, none⟩)]] h_1 fun v h_2 =>
 ∃ t9_p t9_l t9_c, v = .slice t9_p t9_l t9_c ∧
 R (.int .i64 ((t9_l : Nat) : Int)) h_2) : Cl 43 #[.pointer (some ⟨q, 0, none⟩), .int .i64 to] h R :=
 callsN [] hv

end
section
namespace Pnd
open Fld
variable {h h':Heap} {R:TyP} {q:Nat} {X:Ft}
variable {p:TyO} {c to done:Nat} {Q:Nat→Prop}
structure PE where
  to : Nat
  data : List UInt8
  need : Nat
variable {l:List PE}
structure PV where
  to : Nat
  b : BV
  need : Nat
def PV.pe (x : PV) : PE := ⟨x.to, x.b.b, x.need⟩
abbrev PV.S (x : PV) : pend_Entry.S := ⟨x.to, x.b.p, x.b.b.length, x.b.c, x.need⟩
variable {xs:List PV}
abbrev penc (x : PV) : List Value := x.S.l
theorem penc_len (x : PV) : (penc x).length = 3 := rfl
theorem penc_one (x : PV) : ∀ v ∈ penc x, oneCell v = true := fun v hv => by
  simp at hv
  rcases hv with rfl | rfl | rfl <;> rfl
theorem tP : SlTy Tryz.prog 104 77 3 40 (.agg pend_Entry.S.z.arr) := ⟨by kernel_rfl, by kernel_rfl, rfl⟩
theorem uP : Tryz.prog.underlying 104 = some (.slice 77) := by kernel_rfl
structure PqA (h : Heap) (q : Nat) (X : Ft) (xs : List PV) (p : Option Addr) (c : Nat) : Prop where
  blk : pend_Queue.atp h q ⟨true, p, xs.length, c⟩
  own : Own h p xs.length c 3 (xs.flatMap penc)
  each : ∀ x ∈ xs, x.b.ok h X.D
  m : ∀ y, X.M y ↔ y = q ∨ inBlk p y
  q1 : ¬ inBlk p q
  md : ∀ y, X.D y → ¬ X.M y
  dl : ∀ y, X.D y → y < h.size
def Pq (h : Heap) (q : Nat) (X : Ft) (l : List PE) : Prop := ∃ xs p c, PqA h q X xs p c ∧ xs.map PV.pe = l
theorem PqA.lt (A : PqA h q X xs p c) (y : Nat) (hy : X.M y) : y < h.size := by
  rcases (A.m y).1 hy with rfl | e
  · exact (Array.getElem?_eq_some_iff.1 A.blk).1
  · exact A.own.blk_lt e
theorem PqA.frame (A : PqA h q X xs p c) (f : Fr Q h h') (hq : ∀ y, X.M y ∨ X.D y → ¬ Q y) : PqA h' q X xs p c :=
  ⟨f.get A.blk (hq q (.inl ((A.m q).2 (.inl rfl)))), A.own.frame f (fun y e => hq y (.inl ((A.m y).2 (.inr e)))), fun x hx => (A.each x hx).frame f (fun y hy => hq y (.inr hy)), A.m, A.q1, A.md, fun y hy => Nat.lt_of_lt_of_le (A.dl y hy) f.1⟩
theorem Pq.frame (H : Pq h q X l) (f : Fr Q h h') (hq : ∀ y, X.M y ∨ X.D y → ¬ Q y) : Pq h' q X l := by
  obtain ⟨xs, p, c, A, e⟩ := H
  exact ⟨xs, p, c, A.frame f hq, e⟩
theorem Pq.lt (H : Pq h q X l) (y : Nat) (hy : X.M y ∨ X.D y) : y < h.size := by
  obtain ⟨xs, p, c, A, e⟩ := H
  exact hy.elim (A.lt y) (A.dl y)
theorem new_ok (hk : ∀ g q X, Pq g q X [] → Fr No h g → (∀ y, X.M y → h.size ≤ y) → (∀ y, ¬ X.D y) → R (.pointer (some ⟨q, 0, none⟩)) g) : Cl 30 #[] h R := by
  refine pend_New.walk (newP_of (hk _ h.size ⟨fun y => y = h.size ∨ inBlk none y, fun _ => False⟩ ⟨[], none, 0, ⟨push_new, .nil rfl rfl rfl rfl, fun x hx => (by cases hx), fun y => Iff.rfl, fun ⟨a, e, _⟩ => (by cases e), fun y hy => hy.elim, fun y hy => hy.elim⟩, rfl⟩ (Fr.push _ _) ?_ (fun y => id)))
  rintro y (rfl | ⟨a, e, _⟩)
  · exact Nat.le_refl _
  · cases e
theorem Add_ok {b : List UInt8} {p0 : Option Addr} {need n c0:Nat} (H : Pq h q X l) (row : Row h p0 (bc b)) (hn : n = b.length) (t1 : 1 ≤ to) (t2 : to ≤ 1099511627776) (n2 : need ≤ 1099511627776) (hb : b.length ≤ 1002) (hl : l.length < 64)
    (hk : ∀ g X', Pq g q X' (l ++ [⟨to, b, need⟩]) → StepF X h X' g → R (.int .i64 0) g) : Cl 26 #[.pointer (some ⟨q, 0, none⟩), (⟨(to : Int), p0, n, c0, (need : Int)⟩ : pend_Entry.S).agg] h R := by
  subst hn
  obtain ⟨xs, p, c, A, rfl⟩ := H
  rw [List.length_map] at hl
  have ql : q < h.size := (Array.getElem?_eq_some_iff.1 A.blk).1
  refine pend_Queue_Add.walk (pend_Entry.boxp fun bx h1 e1 b1 f1 => JoinP.of fun J hJ => ?_)
  have u1 := f1.1
  have A1 := A.frame f1 (fun _ _ => id)
  refine ⟨_, cell_at A1.blk rfl, ?_⟩
  subst hJ
  dsimp only
  rw [if_neg (by decide)]
  refine JoinP.of fun J hJ => ⟨_, cell_at b1 rfl, ?_⟩
  rw [if_neg (by simp; omega)]
  refine ⟨_, cell_at b1 rfl, ?_⟩
  rw [if_neg (by simp; omega)]
  refine ⟨_, cell_at b1 rfl, ?_⟩
  rw [if_neg (by simp)]
  refine ⟨_, cell_at b1 rfl, ?_⟩
  rw [if_neg (by simp; omega)]
  refine ⟨_, _, _, cell_at b1 rfl, ?_⟩
  rw [decide_eq_false (by show ¬ (((b.length : Nat) : Int) > 1002); omega)]
  subst hJ
  dsimp only
  rw [if_neg (by decide)]
  refine ⟨_, _, _, cell_at A1.blk rfl, ?_⟩
  rw [if_neg (by simp; omega)]
  refine ⟨_, _, _, cell_at b1 rfl, clone_ok (row.frame f1 (fun _ _ => id)) rfl (by omega) fun p2 c2 h2 o2 f2 g2 => ⟨_, _, _, rfl, ?_⟩⟩
  have u2 := f2.1
  have b2 := f2.get b1 id
  refine storeP_blk b2 (by show 1 < 3; omega) fun h3 b3 z3 q3 => ?_
  have bl : bx < h1.size := (Array.getElem?_eq_some_iff.1 b1).1
  have f3 : Fr (fun y => y = bx) h2 h3 := Fr.of_eq z3 q3
  have xd : ∀ y, X.M y ∨ X.D y → y < h.size := fun y hy => hy.elim (A.lt y) (A.dl y)
  have A3 := (A1.frame f2 (fun _ _ => id)).frame f3 (fun y hy e => by have := xd y hy; omega)
  have b3' : pend_Entry.atp h3 bx (PV.S ⟨to, ⟨p2, c2, b⟩, need⟩) := b3
  refine ⟨_, _, _, cell_at A3.blk rfl, pend_Entry.ldp b3' ?_⟩
  refine newP_of ?_
  have f4 : Fr No h3 (h3.push (.cells (PV.S ⟨to, ⟨p2, c2, b⟩, need⟩).arr 77)) := Fr.push _ _
  have A4 := A3.frame f4 (fun _ _ => id)
  refine ⟨f4.kp, ?_⟩
  refine den_append tP uP A4.own (ds := penc ⟨to, ⟨p2, c2, b⟩, need⟩) (row_new (cs := penc ⟨to, ⟨p2, c2, b⟩, need⟩)) (by rfl) (penc_one _) (by show (xs.length + 1) * 40 ≤ 70368744177664; omega) (by show xs.length + 1 ≤ 9223372036854775807; omega) fun p5 c5 h5 o5 _ f5 g5 => ⟨_, _, _, rfl, ?_⟩
  have b5 := f5.get A4.blk A.q1
  refine storeP_blk b5 (by show 1 < 2; omega) fun h6 b6 z6 q6 => ?_
  have u4 := f4.1
  have u5 := f5.1
  have f6 : Fr (fun y => y = q) h5 h6 := Fr.of_eq z6 q6
  have F3 : Fr No h h3 := (f1.tt f2).fresh f3 (fun y e => by omega)
  have F4 := F3.tt f4
  have u3 := F3.1
  have g5' : ∀ y, inBlk p5 y → inBlk p y ∨ h3.size ≤ y := fun y hy => (g5 y hy).imp id (fun e => by omega)
  have n5 : ¬ inBlk p5 q := fun e => (g5' q e).elim A.q1 (fun e => by omega)
  have o2l : ∀ y, inBlk p2 y → y < h2.size := fun y hy => o2.blk_lt hy
  refine hk h6 ⟨fun y => y = q ∨ inBlk p5 y, fun y => X.D y ∨ inBlk p2 y⟩ ⟨xs ++ [⟨to, ⟨p2, c2, b⟩, need⟩], p5, c5, ⟨?_, ?_, ?_, fun y => Iff.rfl, n5, ?_, ?_⟩, by simp [PV.pe]⟩ ⟨?_, ?_, ?_, fun y => .inl⟩
  · show h6[q]? = some (.cells (pend_Queue.S.arr ⟨true, p5, (xs ++ [_]).length, c5⟩) _ _)
    rw [List.length_append]
    exact b6
  · rw [List.length_append, List.flatMap_append]
    have : [(⟨to, ⟨p2, c2, b⟩, need⟩ : PV)].flatMap penc = penc ⟨to, ⟨p2, c2, b⟩, need⟩ := by simp
    rw [this]
    exact o5.frame f6 (fun y hy e => n5 (e ▸ hy))
  · intro x hx
    rcases List.mem_append.1 hx with hx | hx
    · exact (((A4.each x hx).frame f5 (fun y hy e => A.md y hy ((A.m y).2 (.inr e)))).frame f6 (fun y hy e => A.md y hy ((A.m y).2 (.inl e)))).mono (fun y => .inl)
    · simp at hx
      subst hx
      refine BV.of_own ((((o2.frame f3 (fun y hy e => ?_)).frame f4 (fun _ _ => id)).frame f5 (fun y hy e => ?_)).frame f6 (fun y hy e => ?_)) (fun y => .inr)
      · have := g2 y hy; omega
      · have := g2 y hy; have := A.own.blk_lt e; omega
      · have := g2 y hy; omega
  · rintro y (hy | hy) (e | e)
    · exact A.md y hy ((A.m y).2 (.inl e))
    · rcases g5' y e with e | e
      · exact A.md y hy ((A.m y).2 (.inr e))
      · have := A.dl y hy; omega
    · have := g2 y hy; omega
    · have w1 := g2 y hy
      have w2 := o2l y hy
      rcases g5' y e with e | e
      · have := A.own.blk_lt e; omega
      · have := f3.1; omega
  · rintro y (hy | hy)
    · have := A.dl y hy; have := f6.1; omega
    · have := o2l y hy; have := f3.1; have := f6.1; omega
  · exact (F4.no f5).trans f6 (fun y _ hy => (A.m y).2 (.inr hy)) (fun y _ e => (A.m y).2 (.inl e))
  · rintro y (e | e)
    · exact .inl ((A.m y).2 (.inl e))
    · exact (g5' y e).imp (fun e => (A.m y).2 (.inr e)) (fun e => by omega)
  · rintro y (e | e)
    · exact .inl e
    · have := g2 y e; exact .inr (by omega)
theorem ready1_ok {x : PV} {b : Nat} (hb : hcell h ⟨b, 0, none⟩ = some (.int .i64 (done : Int))) (hk : ∀ g, Fr No h g → R (.bool (decide (x.need ≤ done))) g) : Cl 71 #[x.S.agg, .pointer (some ⟨b, 0, none⟩)] h R := by
  refine pend_Queue_Ready_1.walk (pend_Entry.boxp fun b1 h1 e1 a1 f1 => ⟨_, cell_at a1 rfl, _, f1.cell hb id, ?_⟩)
  have := hk h1 f1
  rw [show decide (x.need ≤ done) = decide ((x.need : Int) ≤ (done : Int)) by simp] at this
  exact this
def isR (done : Nat) (x : PV) : Bool := decide (x.need ≤ done)
theorem filt {α : Type} {P : α → Bool} {xs : List α} {j : Nat} {x : α} (hx : xs[j]? = some x) : (xs.take (j + 1)).filter P = (xs.take j).filter P ++ (if P x then [x] else []) := by
  rw [List.take_add_one, hx, List.filter_append]
  cases hp : P x <;> simp [hp]
theorem part_ok {cb:Nat} (A : PqA h q X xs p c) (hb : hcell h ⟨cb, 0, none⟩ = some (.int .i64 (done : Int))) (hl : xs.length ≤ 1000)
    (hk : ∀ g X' po co, Pq g q X' ((xs.filter fun x => !isR done x).map PV.pe) → Own g po (xs.filter (isR done)).length co 3 ((xs.filter (isR done)).flatMap penc) → (∀ x ∈ xs, x.b.ok g X.D) → (∀ y, inBlk po y → h.size ≤ y ∧ ¬ X'.M y) → Fr (fun y => y = q) h g → (∀ y, X'.M y → y = q ∨ h.size ≤ y) → X'.D = X.D →
      R (.slice po (xs.filter (isR done)).length co) g) : Cl 70 #[.pointer (some ⟨q, 0, none⟩), .func (.func 71) #[] #[.pointer (some ⟨cb, 0, none⟩)]] h R := by
  have ql : q < h.size := (Array.getElem?_eq_some_iff.1 A.blk).1
  refine pend_Queue_part.ready.walk ⟨p, xs.length, c, cell_at A.blk rfl, ?_⟩
  refine ⟨fun op ol oc lp ll lc t g => ∃ j : Nat, t = (j : Int) ∧ j ≤ xs.length ∧ Fr No h g ∧ ol = ((xs.take j).filter (isR done)).length ∧ ll = ((xs.take j).filter fun x => !isR done x).length ∧
      Own g op ol oc 3 (((xs.take j).filter (isR done)).flatMap penc) ∧ Own g lp ll lc 3 (((xs.take j).filter fun x => !isR done x).flatMap penc) ∧ (∀ y, inBlk op y → h.size ≤ y ∧ ¬ inBlk lp y) ∧ (∀ y, inBlk lp y → h.size ≤ y),
    fun _ _ _ _ _ _ t _ => xs.length - t.toNat, ⟨0, rfl, Nat.zero_le _, Fr.refl _ _, rfl, rfl, .nil rfl rfl rfl rfl, .nil rfl rfl rfl rfl, fun y ⟨a, e, _⟩ => (by cases e), fun y ⟨a, e, _⟩ => (by cases e)⟩, ?_⟩
  rintro op ol oc lp ll lc _ g ⟨j, rfl, hj, f, rfl, rfl, oo, ow, go, gw⟩
  have u := f.1
  have Ag := A.frame f (fun _ _ => id)
  by_cases hlt : j < xs.length
  · rw [if_pos (decide_eq_true (by omega))]
    have hx : xs[j]? = some xs[j] := List.getElem?_eq_getElem hlt
    generalize xs[j] = x at hx
    obtain ⟨pb, poff, rfl⟩ := Ag.own.addr (by omega)
    have hh := Ag.own.heldAt penc_len hx
    refine JoinP.of fun J hJ => ⟨⟨by omega, by omega⟩, onSome_some.2 (pend_Entry.ldAp (x := x.S) (by rw [Int.toNat_natCast]; exact hh) (pend_Entry.newp (x := x.S) fun b1 g1 e1 a1 f1 => pend_Entry.ldp a1 ?_))⟩
    refine ready1_ok (x := x) (done := done) (f1.cell (f.cell hb id) id) fun g2 f2 => ⟨_, rfl, JoinP.of fun J1 hJ1 => ?_⟩
    have u1 := f1.1
    have u2 := f2.1
    have F2 := (f.tt f1).tt f2
    have lx : ((xs.take j).filter (isR done)).length ≤ 1000 := Nat.le_trans (List.length_filter_le _ _) (by rw [List.length_take]; omega)
    have ly : ((xs.take j).filter fun x => !isR done x).length ≤ 1000 := Nat.le_trans (List.length_filter_le _ _) (by rw [List.length_take]; omega)
    have e1 := filt (P := isR done) hx
    have e2 := filt (P := fun x => !isR done x) hx
    by_cases c1 : x.need ≤ done
    · rw [if_pos (decide_eq_true c1)]
      have i1 : isR done x = true := decide_eq_true c1
      rw [if_pos i1] at e1
      rw [if_neg (by simp [i1]), List.append_nil] at e2
      refine pend_Entry.ldp (f2.get a1 id) ?_
      refine den_append1 tP uP (oo.frame (f1.tt f2) (fun _ _ => id)) rfl (penc_one x) (by omega) (by omega) fun p3 c3 g3 o3 f3 k3 => ⟨_, _, _, rfl, ?_⟩
      subst hJ1 hJ
      dsimp only
      rw [wrap_id (by omega) (by omega)]
      have k3' : ∀ y, inBlk p3 y → h.size ≤ y ∧ ¬ inBlk lp y := fun y hy => (k3 y hy).elim (go y) (fun e => ⟨by omega, fun w => by have := ow.blk_lt w; omega⟩)
      refine ⟨⟨j + 1, by omega, by omega, F2.fresh f3 (fun y hy => (go y hy).1), by rw [e1, List.length_append]; rfl, by rw [e2], ?_, ?_, k3', gw⟩, by show xs.length - Int.toNat ((j : Int) + 1) < xs.length - Int.toNat (j : Int); omega⟩
      · rw [e1, List.flatMap_append]; simpa using o3
      · rw [e2]; exact (ow.frame (f1.tt f2) (fun _ _ => id)).frame f3 (fun y hy e => (go y e).2 hy)
    · rw [if_neg (fun e => c1 (of_decide_eq_true e))]
      have i1 : isR done x = false := decide_eq_false c1
      rw [if_neg (by simp [i1]), List.append_nil] at e1
      rw [if_pos (by simp [i1])] at e2
      refine pend_Entry.ldp (f2.get a1 id) ?_
      refine den_append1 tP uP (ow.frame (f1.tt f2) (fun _ _ => id)) rfl (penc_one x) (by omega) (by omega) fun p3 c3 g3 o3 f3 k3 => ⟨_, _, _, rfl, ?_⟩
      subst hJ1 hJ
      dsimp only
      rw [wrap_id (by omega) (by omega)]
      refine ⟨⟨j + 1, by omega, by omega, F2.fresh f3 gw, by rw [e1], by rw [e2, List.length_append]; rfl, ?_, ?_, fun y hy => ⟨(go y hy).1, fun e => ?_⟩, fun y hy => (k3 y hy).elim (gw y) (fun e => by omega)⟩, by show xs.length - Int.toNat ((j : Int) + 1) < xs.length - Int.toNat (j : Int); omega⟩
      · rw [e1]; exact (oo.frame (f1.tt f2) (fun _ _ => id)).frame f3 (fun y hy e => (go y hy).2 e)
      · rw [e2, List.flatMap_append]; simpa using o3
      · rcases k3 y e with e | e
        · exact (go y hy).2 e
        · have := oo.blk_lt hy; omega
  · rw [if_neg (fun e => hlt (by have := of_decide_eq_true e; omega))]
    obtain rfl : j = xs.length := by omega
    rw [List.take_length] at oo ow ⊢
    refine storeP_blk Ag.blk (by show 1 < 2; omega) fun g1 b1 z1 q1 => ?_
    have f1 : Fr (fun y => y = q) g g1 := Fr.of_eq z1 q1
    have xd : ∀ y, X.D y → y ≠ q := fun y hy e => A.md y hy ((A.m y).2 (.inl e))
    have nl : ¬ inBlk lp q := fun e => by have := gw q e; omega
    have each : ∀ x ∈ xs, x.b.ok g1 X.D := fun x hx => (Ag.each x hx).frame f1 xd
    refine hk g1 ⟨fun y => y = q ∨ inBlk lp y, X.D⟩ op oc ⟨xs.filter (fun x => !isR done x), lp, lc, ⟨b1, ow.frame f1 (fun y hy e => nl (e ▸ hy)), fun x hx => each x ((List.mem_filter.1 hx).1), fun y => Iff.rfl, nl, ?_, fun y hy => Nat.lt_of_lt_of_le (A.dl y hy) (by have := f1.1; omega)⟩, rfl⟩ (oo.frame f1 (fun y hy e => by have := go y hy; omega)) each (fun y hy => ⟨(go y hy).1, ?_⟩) (f.no f1) ?_ rfl
    · rintro y hy (e | e)
      · exact xd y hy e
      · have := A.dl y hy; have := gw y e; omega
    · rintro (e | e)
      · have := (go y hy).1; omega
      · exact (go y hy).2 e
    · rintro y (e | e)
      · exact .inl e
      · exact .inr (gw y e)
theorem Ready_ok (H : Pq h q X l) (hl : l.length ≤ 1000)
    (hk : ∀ g X' (ys : List PV) po co, Pq g q X' (l.filter fun x => !decide (x.need ≤ done)) → ys.map PV.pe = l.filter (fun x => decide (x.need ≤ done)) → Own g po ys.length co 3 (ys.flatMap penc) → (∀ y ∈ ys, y.b.ok g X.D) → (∀ y, inBlk po y → h.size ≤ y ∧ ¬ X'.M y) → Fr (fun y => y = q) h g → (∀ y, X'.M y → y = q ∨ h.size ≤ y) → X'.D = X.D →
      R (.slice po ys.length co) g) : Cl 31 #[.pointer (some ⟨q, 0, none⟩), .int .i64 (done : Int)] h R := by
  obtain ⟨xs, p, c, A, rfl⟩ := H
  refine pend_Queue_Ready.walk (newP_of ?_)
  have f1 : Fr No h (h.push (.cells #[.int .i64 (done : Int)] 3)) := Fr.push _ _
  have u1 := f1.1
  refine part_ok (A.frame f1 (fun _ _ => id)) (cell_at (push_new (h := h)) rfl) (by simpa using hl) fun g X' po co H' o each go f xm xd => ⟨_, _, _, rfl, ?_⟩
  refine hk g X' (xs.filter (isR done)) po co ?_ ?_ o (fun y hy => each y ((List.mem_filter.1 hy).1)) (fun y hy => ⟨by have := (go y hy).1; omega, (go y hy).2⟩) (f1.no f) (fun y hy => (xm y hy).imp id (fun e => by omega)) xd
  · rw [List.filter_map]; exact H'
  · rw [List.filter_map]; rfl
theorem Drop_ok (H : Pq h q X []) (hk : ∀ g X', Pq g q X' [] → StepF X h X' g → R (.int .i64 0) g) : Cl 43 #[.pointer (some ⟨q, 0, none⟩), .int .i64 (to : Int)] h R := by
  obtain ⟨xs, p, c, A, e⟩ := H
  obtain rfl : xs = [] := List.map_eq_nil_iff.1 e
  refine pend_Queue_Drop.walk (newP_of ?_)
  have f1 : Fr No h (h.push (.cells #[.int .i64 (to : Int)] 3)) := Fr.push _ _
  have A1 := A.frame f1 (fun _ _ => id)
  refine pend_Queue_part.drop.walk ⟨p, 0, c, cell_at A1.blk rfl, fun op ol oc lp ll lc t g => op = none ∧ ol = 0 ∧ oc = 0 ∧ lp = none ∧ ll = 0 ∧ lc = 0 ∧ t = 0 ∧ Fr No h g, fun _ _ _ _ _ _ _ _ => 0, ⟨rfl, rfl, rfl, rfl, rfl, rfl, rfl, f1⟩, ?_⟩
  rintro _ _ _ _ _ _ _ g ⟨rfl, rfl, rfl, rfl, rfl, rfl, rfl, f⟩
  rw [if_neg (by decide)]
  have Ag := A.frame f (fun _ _ => id)
  refine storeP_blk Ag.blk (by show 1 < 2; omega) fun g1 b1 z1 q1 => ⟨_, _, _, rfl, hk g1 ⟨fun y => y = q ∨ inBlk none y, X.D⟩ ⟨[], none, 0, ⟨b1, .nil rfl rfl rfl rfl, fun x hx => (by cases hx), fun y => Iff.rfl, fun ⟨a, e, _⟩ => (by cases e), ?_, fun y hy => Nat.lt_of_lt_of_le (Ag.dl y hy) (by omega)⟩, rfl⟩ ⟨(f.no (Fr.of_eq z1 q1)).mono (fun y _ e => (A.m y).2 (.inl e)), ?_, fun y => .inl, fun y => id⟩⟩
  · rintro y hy (e | ⟨a, e, _⟩)
    · exact A.md y hy ((A.m y).2 (.inl e))
    · cases e
  · rintro y (e | ⟨a, e, _⟩)
    · exact .inl ((A.m y).2 (.inl e))
    · cases e

end Pnd
end
section
namespace Dae
open Jnl Dsk Stt Con Pnd
variable {h h':Heap} {d n i j:Nat} {X:Ft}
structure DM where
  x : JN
  ds : DS
  A : List Ses.Ses
  q : List PE
  cs : List (Option CN)
  now : Nat
structure DI where
  l : Nat
  q : Nat
  m : Nat
  c : Nat → Nat
def cl (c : Nat → Nat) : Nat → List (Option CN) → List (Int × Value)
  | _, [] => []
  | i, none :: r => cl c (i + 1) r
  | i, some _ :: r => (((i + 1 : Nat) : Int), pt (c i)) :: cl c (i + 1) r
variable {c c' : Nat → Nat}
theorem cl_ge : ∀ (cs : List (Option CN)) (k : Nat) (x : Int × Value), x ∈ cl c k cs → ((k + 1 : Nat) : Int) ≤ x.1 ∧ x.1 ≤ ((k + cs.length : Nat) : Int)
  | [], k, x, hx => by cases hx
  | none :: r, k, x, hx => by have := cl_ge r (k + 1) x hx; rw [List.length_cons]; omega
  | some a :: r, k, x, hx => by
    rw [List.length_cons]
    rcases List.mem_cons.1 hx with rfl | hx
    · dsimp only; omega
    · have := cl_ge r (k + 1) x hx; omega
theorem gget_cons {l : List (Int × Value)} {k k' : Int} {v : Value} : gget ((k', v) :: l) k = if k' = k then some v else gget l k := by
  unfold gget
  rw [List.find?_cons]
  by_cases e : k' = k
  · simp [e]
  · simp [e]
theorem gget_cl : ∀ {cs : List (Option CN)} {k i : Nat} {o : Option CN}, cs[i]? = some o → gget (cl c k cs) ((k + i + 1 : Nat) : Int) = o.map fun _ => pt (c (k + i))
  | [], k, i, o, e => by cases e
  | a :: r, k, 0, o, e => by
    obtain rfl : a = o := by simpa using e
    cases a with
    | none => exact gget_none.2 fun x hx => by have := cl_ge r (k + 1) x hx; omega
    | some a => show gget ((_, _) :: _) _ = _; rw [gget_cons, if_pos (by omega)]; rfl
  | a :: r, k, i + 1, o, e => by
    have ih := gget_cl (cs := r) (k := k + 1) (i := i) (o := o) (by simpa using e)
    rw [show k + 1 + i + 1 = k + (i + 1) + 1 by omega, show k + 1 + i = k + (i + 1) by omega] at ih
    cases a with
    | none => exact ih
    | some a => show gget ((_, _) :: _) _ = _; rw [gget_cons, if_neg (by omega)]; exact ih
theorem cl_set : ∀ {cs : List (Option CN)} {k i : Nat} {a b : CN}, cs[i]? = some (some a) → cl c k (cs.set i (some b)) = cl c k cs
  | [], k, i, a, b, e => by cases e
  | a0 :: r, k, 0, a, b, e => by
    obtain rfl : a0 = some a := by simpa using e
    rfl
  | a0 :: r, k, i + 1, a, b, e => by
    have ih := cl_set (cs := r) (k := k + 1) (i := i) (a := a) (b := b) (by simpa using e)
    cases a0 with
    | none => exact ih
    | some a0 => show (_, _) :: _ = (_, _) :: _; rw [ih]
theorem gdel_cons {l : List (Int × Value)} {k k' : Int} {v : Value} : gdel ((k', v) :: l) k = if k' = k then gdel l k else (k', v) :: gdel l k := by
  unfold gdel
  rw [List.filter_cons]
  by_cases e : k' = k
  · simp [e]
  · simp [e]
theorem cl_del : ∀ {cs : List (Option CN)} {k i : Nat} {a : CN}, cs[i]? = some (some a) → gdel (cl c k cs) ((k + i + 1 : Nat) : Int) = cl c k (cs.set i none)
  | [], k, i, a, e => by cases e
  | a0 :: r, k, 0, a, e => by
    obtain rfl : a0 = some a := by simpa using e
    show gdel ((_, _) :: _) _ = _
    rw [gdel_cons, if_pos (by omega)]
    exact gdel_none fun x hx => by have := cl_ge r (k + 1) x hx; omega
  | a0 :: r, k, i + 1, a, e => by
    have ih := cl_del (cs := r) (k := k + 1) (i := i) (a := a) (by simpa using e)
    rw [show k + 1 + i + 1 = k + (i + 1) + 1 by omega] at ih
    cases a0 with
    | none => exact ih
    | some a0 => show gdel ((_, _) :: _) _ = (_, _) :: _; rw [gdel_cons, if_neg (by omega), ih]
theorem cl_snoc : ∀ (cs : List (Option CN)) (k : Nat) (a : CN), cl c k (cs ++ [some a]) = cl c k cs ++ [(((k + cs.length + 1 : Nat) : Int), pt (c (k + cs.length)))]
  | [], k, a => rfl
  | a0 :: r, k, a => by
    have ih := cl_snoc r (k + 1) a
    rw [show k + 1 + r.length = k + (a0 :: r).length by rw [List.length_cons]; omega] at ih
    cases a0 with
    | none => exact ih
    | some a0 => show (_, _) :: cl c (k + 1) (r ++ [some a]) = _; rw [ih]; rfl
theorem cl_congr : ∀ (cs : List (Option CN)) (k : Nat), (∀ j, j < k + cs.length → c' j = c j) → cl c' k cs = cl c k cs
  | [], k, _ => rfl
  | a0 :: r, k, e => by
    have ih := cl_congr r (k + 1) (fun j hj => e j (by rw [List.length_cons]; omega))
    cases a0 with
    | none => exact ih
    | some a0 => show (_, _) :: _ = (_, _) :: _; rw [ih, e k (by rw [List.length_cons]; omega)]
theorem cl_put (cs : List (Option CN)) (a : CN) (b : Nat) : (gput (cl c 0 cs) ((cs.length + 1 : Nat) : Int) (pt b)).Perm (cl (fun j => if j = cs.length then b else c j) 0 (cs ++ [some a])) := by
  rw [cl_snoc, cl_congr (c := c) cs 0 (fun j hj => if_neg (by omega))]
  unfold gput
  rw [gdel_none (fun x hx => by have := cl_ge cs 0 x hx; omega)]
  simp only [Nat.zero_add, if_true]
  exact (List.perm_append_singleton _ _).symm
def part (n : Nat) (e : Eid.Ev) (D : DM) (I : DI) (d : Nat) (i : Nat) (h : Heap) (X : Ft) : Prop := match i with
  | 0 => Flu.Lg h I.l X n D.x D.ds (Flu.sA e D.A)
  | 1 => Pq h I.q X D.q
  | 2 => (h[d]? = some (.cells #[pt I.l, .map (some I.m), .int .i64 ((D.cs.length + 1 : Nat) : Int), pt I.q, .int .u64 (D.now : Int)] 63 (0, 0)) ∧ MapP h I.m Cps.ienc (cl I.c 0 D.cs)) ∧ only X fun y => y = d ∨ y = I.m
  | k + 3 => match D.cs[k]? with | some (some x) => Cn h (I.c k) X x | _ => ∀ y, ¬ In X y
variable {e : Eid.Ev} {D : DM} {I : DI}
theorem part.lt {i : Nat} (H : part n e D I d i h X) (y : Nat) (hy : In X y) : y < h.size := by
  rcases i with _ | _ | _ | k
  · exact Flu.Lg.lt H y hy
  · exact Pq.lt H y hy
  · obtain ⟨⟨a, b⟩, o⟩ := H
    rcases hy with hy | hy
    · rcases (o y).1.1 hy with rfl | rfl
      · exact lt_of_get a
      · exact b.lt
    · exact absurd hy (o y).2
  · unfold part at H
    dsimp only at H
    split at H
    · rcases hy with hy | hy
      · exact Cn.lt H y hy
      · exact absurd hy (Cn.nd H y)
    · exact absurd hy (H y)
theorem part.frame {i : Nat} {Q : Nat → Prop} (H : part n e D I d i h X) (f : Fr Q h h') (hq : ∀ y, In X y → ¬ Q y) : part n e D I d i h' X := by
  rcases i with _ | _ | _ | k
  · exact Flu.Lg.frame H f hq
  · exact Pq.frame H f hq
  · obtain ⟨⟨a, b⟩, o⟩ := H
    exact ⟨⟨f.get a (hq _ (.inl ((o _).1.2 (.inl rfl)))), b.frame f (hq _ (.inl ((o _).1.2 (.inr rfl))))⟩, o⟩
  · unfold part at H ⊢
    dsimp only at H ⊢
    split at H
    · exact Cn.frame H f (fun y hy => hq y (.inl hy))
    · exact H
theorem part.dis {i : Nat} (H : part n e D I d i h X) (y : Nat) (hm : X.M y) (hd : X.D y) : False := by
  rcases i with _ | _ | _ | k
  · exact Flu.Lg.dis H y hm hd
  · obtain ⟨xs, p, c, A, _⟩ := H
    exact A.md y hd hm
  · exact (H.2 y).2 hd
  · unfold part at H
    dsimp only at H
    split at H
    · exact Cn.nd H y hd
    · exact H y (.inl hm)
theorem part.st (n : Nat) (e : Eid.Ev) (D : DM) (I : DI) (d : Nat) : Stable (part n e D I d) := ⟨part.lt, part.frame, part.dis⟩
def Dm (h : Heap) (d : Nat) (X : Ft) (n : Nat) (e : Eid.Ev) (I : DI) (D : DM) : Prop := Fam (part n e D I d) h X
theorem Dm.lt (H : Dm h d X n e I D) (y : Nat) (hy : X.M y ∨ X.D y) : y < h.size := Fam.lt (part.st _ _ _ _ _) H y hy
theorem Dm.frame {Q : Nat → Prop} (H : Dm h d X n e I D) (f : Fr Q h h') (hq : ∀ y, X.M y ∨ X.D y → ¬ Q y) : Dm h' d X n e I D := Fam.frame (part.st _ _ _ _ _) H f hq
theorem Dm.on (H : Dm h d X n e I D) (f : Fr No h h') : Dm h' d X n e I D := H.frame f (fun _ _ => id)
theorem Dm.use (H : Dm h d X n e I D) (j : Nat) : ∃ Z, part n e D I d j h Z ∧ (∀ y, Z.M y → X.M y) ∧ (∀ y, Z.D y → X.D y) ∧ ∀ h' Z' D' I', part n e D' I' d j h' Z' → StepF Z h Z' h' → (∀ i, i ≠ j → part n e D' I' d i = part n e D I d i) →
    ∃ X', Dm h' d X' n e I' D' ∧ StepF X h X' h' ∧ (∀ y, Z'.D y → X'.D y) ∧ ∀ y, h.size ≤ y → X'.M y ∨ X'.D y → Z'.M y ∨ Z'.D y := by
  obtain ⟨Z, h1, h2, h3, go⟩ := Fam.use (part.st n e D I d) H j
  exact ⟨Z, h1, h2, h3, fun h' Z' D' I' => go h' Z' (part n e D' I' d)⟩
theorem Dm.blk (H : Dm h d X n e I D) : h[d]? = some (.cells #[pt I.l, .map (some I.m), .int .i64 ((D.cs.length + 1 : Nat) : Int), pt I.q, .int .u64 (D.now : Int)] 63 (0, 0)) := by have ⟨Y, hp, _⟩ := H; exact (hp 2).1.1
theorem Dm.map (H : Dm h d X n e I D) : MapP h I.m Cps.ienc (cl I.c 0 D.cs) := by have ⟨Y, hp, _⟩ := H; exact (hp 2).1.2
theorem part_l (x : JN) (ds : DS) (A : List Ses.Ses) (i : Nat) (hi : i ≠ 0) : part n e { D with x := x, ds := ds, A := A } I d i = part n e D I d i := by rcases i with _ | _ | _ | i <;> first | rfl | omega
theorem part_q (q : List PE) (i : Nat) (hi : i ≠ 1) : part n e { D with q := q } I d i = part n e D I d i := by rcases i with _ | _ | _ | i <;> first | rfl | omega
theorem part_c {k : Nat} {a b : CN} (ha : D.cs[k]? = some (some a)) (i : Nat) (hi : i ≠ k + 3) : part n e { D with cs := D.cs.set k (some b) } I d i = part n e D I d i := by
  rcases i with _ | _ | _ | i
  · rfl
  · rfl
  · funext h X
    unfold part
    dsimp only
    rw [List.length_set, cl_set ha]
  · funext h X
    unfold part
    dsimp only
    rw [List.getElem?_set_ne (by omega)]
end Dae
end
section
open Go.Fields
namespace Con
open Fld Frm Opn Jnl
variable {h h0:Heap} {R:TyP} {c d:Nat} {X XF:Ft} {wp op:TyO} {wc oc:Nat}
variable {x:CN}
abbrev rS (x : RD) (p : Option Addr) (k : Nat) : reply_Reply.S := ⟨(x.id : Int), x.err, x.num, x.count, (x.token : Int), p, x.b.length, k⟩
theorem closeC_ok {e : Int} (H : Cn h c X x) (h0 : x.clo ≠ 0) (hk : R (.tuple #[]) h) : Cl 42 #[.pointer (some ⟨c, 0, none⟩), .int .i64 e] h R := by
  obtain ⟨d, XF, wp, op, wc, oc, A, rfl⟩ := H
  exact conn_Conn_Close.walk (closed_ok A ⟨_, rfl, iteT (by simp; exact h0) hk⟩)
theorem enc_pos (x : RD) : 1 ≤ x.enc.length := by
  have := (encN_len 9 x.id).1
  unfold RD.enc encNum
  simp only [List.length_append]
  omega
theorem Answer_ok {r : RD} {p : Option Addr} {k : Nat} (H : Cn h c X x) (hr : r.Right) (rb : Row h p (bc r.b)) (hx : x.out.length ≤ 100000)
    (hk : ∀ g X', Cn g c X' { x with out := x.out ++ frameB r.enc } → StepF X h X' g → R (.int .i64 0) g) : Cl 34 #[.pointer (some ⟨c, 0, none⟩), (rS r p k).agg] h R := by
  obtain ⟨d, XF, wp, op, wc, oc, A, rfl⟩ := H
  have el := enc_len hr.2.2.2.2.2.1
  have e0 := enc_pos r
  refine conn_Conn_Answer.walk (r := rS r p k) (reply_Reply.boxp fun b h1 e1 hb f1 => made_ok (A.on f1) ⟨_, rfl, iteF rfl (reply_Reply.ldp hb (Rep.write_ok r (rb.frame f1 (fun _ _ => id)) (fun _ h2 q d2 o2 f2 g2 => ⟨_, _, _, _, rfl, iteF rfl (Frm.write_ok o2.row' rfl e0 (by omega) fun h3 p3 c3 o3 f3 g3 => ⟨_, _, _, _, rfl, JoinP.of fun J hJ => iteT rfl ?_⟩)⟩) (fun n => absurd hr n)))⟩)
  have F3 := (f1.tt f2).tt f3
  have A3 := A.on F3
  have u3 := F3.1
  refine ⟨_, _, _, cell_at A3.blk rfl, ?_⟩
  refine den_appendS (bs := x.out) (ds := frameB r.enc) tU uU (Src.own A3.o rfl) o3.row' (frameB_len _).symm (by omega) (by omega) fun p5 c5 h5 o5 f5 g5 => ⟨_, _, _, rfl, ?_⟩
  refine storeP_blk (f5.get A3.blk A.c2) (by show 3 < 5; omega) fun h6 b6 z6 q6 => ?_
  subst hJ
  have f6 : Fr (fun y => y = c) h5 h6 := Fr.of_eq z6 q6
  have g5' : ∀ y, inBlk p5 y → inBlk op y ∨ h.size ≤ y := fun y hy => (g5 y hy).imp id (fun e => by omega)
  have nc : ¬ inBlk p5 c := fun e => (g5' c e).elim A.c2 (fun e => by have := A.cl; omega)
  have f : Fr (fun y => y = c ∨ inBlk op y) h h6 := (F3.no f5).trans f6 (fun y _ => .inr) (fun y _ => .inl)
  exact hk h6 _ ⟨d, XF, wp, p5, wc, c5, A.put_o (x' := { x with out := x.out ++ frameB r.enc }) f b6 rfl rfl rfl (o5.frame f6 (fun y hy e => nc (e ▸ hy))) g5', rfl⟩ (stepC (f.mono fun y _ e => e.elim .inl (fun e => .inr (.inr (.inl e)))) (fun _ => .inl) g5' (fun _ => .inl))

end Con
end
end Go.Proofs.YtaphjamdblgiiaaGreatDoor
namespace Go.Den
theorem setLi_mid : ∀ {vs old pre post : List Value}, old.length = vs.length → setLi (pre ++ (old ++ post)) pre.length vs = pre ++ (vs ++ post)
  | [], [], pre, post, _ => rfl
  | v :: vs, o :: old, pre, post, h => by
    have ih := setLi_mid (vs := vs) (old := old) (pre := pre ++ [v]) (post := post) (by simpa using h)
    have e : (pre ++ (o :: old ++ post)).set pre.length v = (pre ++ [v]) ++ (old ++ post) := by simp
    unfold setLi
    rw [e]
    rw [List.length_append] at ih
    rw [show pre.length + 1 = pre.length + [v].length from rfl, ih]
    simp
theorem storeL_mid {h : Heap} {b o : Nat} {ty : TypeId} {pre old vs post : List Value} {K : Heap → Prop} (hb : h[b]? = some (.cells (pre ++ (old ++ post)).toArray ty (0, 0))) (ho : pre.length = o) (hl : old.length = vs.length) (hv : vs.all oneCell = true)
    (hk : ∀ h', h'[b]? = some (.cells (pre ++ (vs ++ post)).toArray ty (0, 0)) → h'.size = h.size → (∀ x, x ≠ b → h'[x]? = h[x]?) → K h') : storeL ⟨b, o, none⟩ vs 0 h K := by
  subst ho
  refine storeL_li vs 0 h _ K hb (by simp; omega) hv fun h' b' z q => hk h' ?_ z q
  rw [Nat.add_zero, setLi_mid hl] at b'
  exact b'
end Go.Den
namespace Go.Proofs.YtaphjamdblgiiaaGreatDoor
open Go.Den
namespace Dae
open Jnl Dsk Con Pnd Opn
variable {h h0 h' : Heap} {R : Value → Heap → Prop} {d n i j k o : Nat} {X : Ft} {e : Eid.Ev} {D : DM} {I : DI} {x : CN}
theorem Dm.conn (H : Dm h d X n e I D) (hx : D.cs[k]? = some (some x)) : ∃ Z, Cn h (I.c k) Z x ∧ (∀ y, Z.M y → X.M y) ∧ ∀ h' Z' x', Cn h' (I.c k) Z' x' → StepF Z h Z' h' → ∃ X', Dm h' d X' n e I { D with cs := D.cs.set k (some x') } ∧ StepF X h X' h' := by
  obtain ⟨Z, hz, zm, _, go⟩ := H.use (k + 3)
  have hz' : Cn h (I.c k) Z x := by unfold part at hz; dsimp only at hz; rw [hx] at hz; exact hz
  have kl := (List.getElem?_eq_some_iff.1 hx).1
  refine ⟨Z, hz', zm, fun h' Z' x' H' st => ?_⟩
  obtain ⟨X', a, b, _⟩ := go h' Z' { D with cs := D.cs.set k (some x') } I (by unfold part; dsimp only; rw [List.getElem?_set_self kl]; exact H') st (fun i hi => part_c hx i hi)
  exact ⟨X', a, b⟩
theorem Dm.log (H : Dm h d X n e I D) : ∃ Z, Flu.Lg h I.l Z n D.x D.ds (Flu.sA e D.A) ∧ (∀ y, Z.M y → X.M y) ∧ ∀ h' Z' x' ds' A', Flu.Lg h' I.l Z' n x' ds' (Flu.sA e A') → StepF Z h Z' h' → ∃ X', Dm h' d X' n e I { D with x := x', ds := ds', A := A' } ∧ StepF X h X' h' := by
  obtain ⟨Z, hz, zm, _, go⟩ := H.use 0
  refine ⟨Z, hz, zm, fun h' Z' x' ds' A' H' st => ?_⟩
  obtain ⟨X', a, b, _⟩ := go h' Z' { D with x := x', ds := ds', A := A' } I H' st (fun i hi => part_l x' ds' A' i hi)
  exact ⟨X', a, b⟩
theorem Dm.que (H : Dm h d X n e I D) : ∃ Z, Pq h I.q Z D.q ∧ (∀ y, Z.M y → X.M y) ∧ ∀ h' Z' q', Pq h' I.q Z' q' → StepF Z h Z' h' → ∃ X', Dm h' d X' n e I { D with q := q' } ∧ StepF X h X' h' := by
  obtain ⟨Z, hz, zm, _, go⟩ := H.use 1
  refine ⟨Z, hz, zm, fun h' Z' q' H' st => ?_⟩
  obtain ⟨X', a, b, _⟩ := go h' Z' { D with q := q' } I H' st (fun i hi => part_q q' i hi)
  exact ⟨X', a, b⟩
theorem box_out {h1 h2 : Heap} {X1 X2 : Ft} {b : Nat} (hx : ¬ (X1.M b ∨ X1.D b)) (lb : b < h1.size) (st : StepF X1 h1 X2 h2) : ¬ (X2.M b ∨ X2.D b) := fun q => by
  rcases q with q | q
  · exact (st.newM b q).elim (fun q => hx (.inl q)) (fun q => by omega)
  · exact (st.newD b q).elim (fun q => hx (.inr q)) (fun q => by omega)
theorem Dm.out (H : Dm h d X n e I D) {b : Nat} (hb : h.size ≤ b) : ¬ (X.M b ∨ X.D b) := fun q => by have := H.lt b q; omega
theorem mapTy : MapKy Tryz.prog 60 Cps.ienc (.pointer none) := MapKy.of 3 64 (by kernel_rfl) Cps.ikey (by kernel_rfl)
theorem made_ok (H : Dm h d X n e I D) (hk : R (.bool true) h) : Cl 18 #[.pointer (some ⟨d, 0, none⟩)] h R := daemon_Daemon_made.walk ⟨_, cell_at H.blk rfl, hk⟩
theorem find_ok (H : Dm h d X n e I D) (hx : D.cs[k]? = some (some x)) (hk : R (.tuple #[pt (I.c k), .int .i64 0]) h) : Cl 20 #[.pointer (some ⟨d, 0, none⟩), .int .i64 ((k + 1 : Nat) : Int)] h R := by
  have L := lookV_P mapTy H.map ((k + 1 : Nat) : Int)
  have g := gget_cl (c := I.c) (k := 0) hx
  rw [Nat.zero_add] at g
  rw [g] at L
  exact daemon_Daemon_find.walk (made_ok H ⟨_, rfl, iteF rfl ⟨_, cell_at H.blk rfl, _, L, iteF rfl ⟨_, cell_at H.blk rfl, _, L, hk⟩⟩⟩)
theorem Step_ok (H : Dm h d X n e I D) (hn : D.x.stage = 0 → D.x.next ≠ []) (hg : D.x.gen < 1099511627776) (hw : D.ds.W.length + D.x.next.length ≤ 100000)
    (hk : ∀ g X', Dm g d X' n e I { D with x := (D.x.step n D.ds).1, ds := (D.x.step n D.ds).2 } → StepF X h X' g → R (.tuple #[.int .i64 ((D.x.step n D.ds).1.stage : Int), .int .i64 0]) g) : Cl 15 #[.pointer (some ⟨d, 0, none⟩)] h R := by
  obtain ⟨Z, L, _, go⟩ := H.log
  refine daemon_Daemon_Step.walk (made_ok H ⟨_, rfl, iteF rfl ⟨_, cell_at H.blk rfl, Flu.Step_ok L hn hg hw fun g Z' L' st => ⟨_, _, rfl, ?_⟩⟩⟩)
  obtain ⟨X', H', st'⟩ := go g Z' _ _ _ L' st
  exact hk g X' H' st'
theorem Out_ok (H : Dm h d X n e I D) (hx : D.cs[k]? = some (some x)) (hk : ∀ g X' p c, Dm g d X' n e I { D with cs := D.cs.set k (some { x with out := [] }) } → StepF X h X' g → R (.tuple #[.slice p x.out.length c, .int .i64 0]) g) :
    Cl 16 #[.pointer (some ⟨d, 0, none⟩), .int .i64 ((k + 1 : Nat) : Int)] h R := by
  obtain ⟨Z, C, _, go⟩ := H.conn hx
  refine daemon_Daemon_Out.walk (find_ok H hx ⟨_, _, rfl, iteF rfl (Con.Out_ok C fun g Z' p c C' o st => ⟨_, _, _, rfl, ?_⟩)⟩)
  obtain ⟨X', H', st'⟩ := go g Z' _ C' st
  exact hk g X' p c H' st'
theorem Bytes_ok {b : List UInt8} {p : Option Addr} {l k0 k1 : Nat} {lf : List UInt8} (H : Dm h d X n e I D) (hx : D.cs[k]? = some (some x)) (h0 : x.clo = 0) (hd : x.derr = 0) (row : Row h p (bc b)) (hl : l = b.length) (hb : (x.left ++ b).length ≤ 100000)
    (hF : Frm.feedP (x.left ++ b).length (x.left ++ b) = (List.replicate k1 [5, 11], lf, 0)) (h8 : x.w + k1 ≤ 8)
    (hk : ∀ g X', Dm g d X' n e I { D with cs := D.cs.set k (some (x.fed k1 lf 0)) } → StepF X h X' g → R (.tuple #[daemon_Deed.S.z.agg, .int .i64 0]) g) :
    Cl 7 #[.pointer (some ⟨d, 0, none⟩), .int .i64 ((k + 1 : Nat) : Int), .slice p l k0] h R := by
  refine daemon_Daemon_Bytes.walk (daemon_Deed.boxp (x := daemon_Deed.S.z) fun bx h1 e1 hbx f1 => find_ok (H.on f1) hx ⟨_, _, rfl, iteF rfl ?_⟩)
  obtain ⟨Z, C, _, go⟩ := (H.on f1).conn hx
  have lb := (Array.getElem?_eq_some_iff.1 hbx).1
  refine Con.Feed_ok C h0 hd (row.frame f1 (fun _ _ => id)) hl hb hF h8 fun h2 Z2 C2 st2 => ⟨_, rfl, iteF rfl ?_⟩
  obtain ⟨X2, H2, st⟩ := go h2 Z2 _ C2 st2
  have nb := H.out (b := bx) (by omega)
  have nb2 := box_out nb lb st
  refine daemon_Deed.setp (x := daemon_Deed.S.z) (st.fr.get hbx (fun q => nb (.inl q))) fun h3 d3 f3 _ => daemon_Deed.ldp d3 (hk h3 X2 (H2.frame f3 fun y hy e => nb2 (e ▸ hy)) ((StepF.no f1 st).fresh f3 fun y e => by have : y = bx := e; omega))
abbrev ddS (nn : Int) (r : request_Request.S) (v : event_Event.S) (p : reply_Reply.S) (need : Int) : daemon_Deed.S := ⟨nn, r.f0, r.f1, r.f2, r.f3, r.f4, r.f5, r.f6, r.f7, r.f8, r.f9, r.f10, r.f11, r.f12, r.f13, r.f14, r.f15p, r.f15l, r.f15c, r.f16, r.f17, r.f18, v.f0, v.f1, v.f2, v.f3, v.f4, v.f5, v.f6, v.f7, v.f8, v.f9, v.f10, v.f11, v.f12, v.f13, v.f14, v.f15, v.f16, v.f17, v.f18, v.f19p, v.f19l, v.f19c, v.f20, v.f21, v.f22, v.f23p, v.f23l, v.f23c, p.f0, p.f1, p.f2, p.f3, p.f4, p.f5p, p.f5l, p.f5c, need⟩
abbrev ddA (h : Heap) (b : Nat) (nn : Int) (r : request_Request.S) (v : event_Event.S) (p : reply_Reply.S) (need : Int) : Prop := daemon_Deed.atp h b (ddS nn r v p need)
variable {nn need need' : Int} {r : request_Request.S} {v v' : event_Event.S} {p p' : reply_Reply.S} {K : Heap → Prop}
theorem dd_ev (hb : ddA h o nn r v p need) (hk : ∀ h', ddA h' o nn r v' p need → Fr (fun y => y = o) h h' → K h') : event_Event.STp h ⟨o, 20, none⟩ v' K :=
  storeL_mid (pre := .int .i64 nn :: r.l) (old := v.l) (post := p.l ++ [.int .i64 need]) hb rfl rfl rfl fun h' b z q => hk h' b (Fr.of_eq z q)
theorem dd_rp (hb : ddA h o nn r v p need) (hk : ∀ h', ddA h' o nn r v p' need → Fr (fun y => y = o) h h' → K h') : reply_Reply.STp h ⟨o, 44, none⟩ p' K :=
  storeL_mid (pre := .int .i64 nn :: (r.l ++ v.l)) (old := p.l) (post := [.int .i64 need]) hb rfl rfl rfl fun h' b z q => hk h' b (Fr.of_eq z q)
theorem dd_need (hb : ddA h o nn r v p need) (hk : ∀ h', ddA h' o nn r v p need' → Fr (fun y => y = o) h h' → K h') : StoreP h ⟨o, 50, none⟩ (.int .i64 need') K :=
  storeP_l hb (by show 50 < 51; omega) fun h' b z q => hk h' b (Fr.of_eq z q)
theorem dd_ldq {K : request_Request.S → Prop} (hb : ddA h o nn r v p need) (hk : K r) : request_Request.LDp h ⟨o, 1, none⟩ K := request_Request.ldAp (held_mid (post := v.l ++ (p.l ++ [.int .i64 need])) hb rfl) hk
theorem dd_lde {K : event_Event.S → Prop} (hb : ddA h o nn r v p need) (hk : K v) : event_Event.LDp h ⟨o, 20, none⟩ K := event_Event.ldAp (held_mid (post := p.l ++ [.int .i64 need]) hb rfl) hk
theorem dd_ldp {K : reply_Reply.S → Prop} (hb : ddA h o nn r v p need) (hk : K p) : reply_Reply.LDp h ⟨o, 44, none⟩ K := reply_Reply.ldAp (held_mid (post := [.int .i64 need]) hb rfl) hk
end Dae
end Go.Proofs.YtaphjamdblgiiaaGreatDoor
namespace Go.Proofs.YtaphjamdblgiiaaGreatDoor
open Go.Den
open IntKind (wrap)
open Int (toNat)
section
open Go.Fields
namespace Dae
open Jnl Dsk Con Pnd Opn
variable {h h0 h':Heap} {R:TyP} {d n j k o t:Nat} {X:Ft} {e:Eid.Ev} {D:DM} {I:DI} {x:CN}
variable {X' X2:Ft} {g:Heap} {nn:Int}
theorem eventOf_ok (H : Dm h d X n e I D) (hn : D.now = 0) (hx : D.cs[k]? = some (some x)) (hk : ∀ g, Fr No h g → R (.tuple #[(eO t).agg, .bool ((x.ses : Int) == 0)]) g) :
    Cl 49 #[.pointer (some ⟨d, 0, none⟩), .pointer (some ⟨I.c k, 0, none⟩), rO.agg, .int .u64 (t : Int)] h R := by
  refine daemon_Daemon_eventOf.walk (request_Request.boxp (x := rO) fun b h1 e1 hb f1 => event_Event.boxp (x := event_Event.S.z) fun b1 h2 e2 hb1 f2 => ?_)
  have blk := H.blk
  rw [hn] at blk
  refine ⟨0, cell_at ((f1.tt f2).get blk id) rfl, event_Event.newp (x := event_Event.S.z) fun b2 h3 e3 hb2 f3 => ⟨_, cell_at (f3.get (f2.get hb id) id) rfl, JoinP.of fun J hJ => JoinP.of fun J1 hJ1 => iteT (b := ((11 : Int) == 11)) rfl (storeP_l hb2 (by show 1 < 24; omega) fun h4 d4 z4 q4 => storeP_l d4 (by show 2 < 24; omega) fun h5 d5 z5 q5 => ?_)⟩⟩
  have u1 := f1.1
  have u2 := f2.1
  have u3 := f3.1
  have lb := (Array.getElem?_eq_some_iff.1 hb).1
  have lb1 := (Array.getElem?_eq_some_iff.1 hb1).1
  subst hJ1 hJ
  have d5' : event_Event.atp h5 b2 (eO t) := d5
  have f5 : Fr (fun y => y = b2) h3 h5 := (Fr.of_eq z4 q4).tt (Fr.of_eq z5 q5)
  have F5 : Fr No h h5 := ((f1.tt f2).tt f3).fresh f5 (fun y hy => by omega)
  obtain ⟨Z, C, _, _⟩ := (H.on F5).conn hx
  refine event_Event.ldp d5' (Con.session_ok C ⟨_, rfl, (Fr.refl _ _).kp, event_Event.setp (x := eO t) (f5.get (f3.get hb1 id) (by omega)) fun h6 d6 f6 _ => event_Event.ldp d6 (hk h6 (F5.fresh f6 fun y hy => by have : y = b1 := hy; omega))⟩)
def bnd (x : CN) (A : List Ses.Ses) (t : Nat) : CN := if Ses.openE A t = 0 then { x with ses := A.length + 1 } else x
def rp5 (e : Eid.Ev) (A : List Ses.Ses) (t : Nat) : reply_Reply.S := { rpO (Flu.sA e A) t with f0 := 5 }
theorem openE_le (A : List Ses.Ses) (t : Nat) : 0 ≤ Ses.openE A t ∧ Ses.openE A t ≤ 12 := by
  unfold Ses.openE
  repeat' split
  all_goals decide
structure StepO (X : Ft) (o : Nat) (h : Heap) (X' : Ft) (g : Heap) : Prop where
  fr : Fr (fun y => X.M y ∨ y = o) h g
  newM : ∀ y, X'.M y → X.M y ∨ h.size ≤ y
  newD : ∀ y, X'.D y → X.D y ∨ h.size ≤ y
  oldD : ∀ y, X.D y → X'.D y
theorem StepO.of (st : StepF X h X' h') : StepO X o h X' h' := ⟨st.fr.mono fun _ _ => .inl, st.newM, st.newD, st.oldD⟩
theorem StepO.box (a : StepO X o h X' h') (f : Fr (fun y => y = o) h' g) : StepO X o h X' g := ⟨a.fr.trans f (fun _ _ => id) (fun _ _ => .inr), a.newM, a.newD, a.oldD⟩
theorem StepO.step (a : StepO X o h X' h') (b : StepF X' h' X2 g) : StepO X o h X2 g := by
  have z := a.fr.1
  refine ⟨a.fr.trans b.fr (fun _ _ => id) (fun y yl hy => .inl ((a.newM y hy).resolve_right (by omega))), fun y hy => ?_, fun y hy => ?_, fun y hy => b.oldD y (a.oldD y hy)⟩
  · rcases b.newM y hy with q | q
    · exact a.newM y q
    · exact .inr (by omega)
  · rcases b.newD y hy with q | q
    · exact a.newD y q
    · exact .inr (by omega)
theorem StepO.fresh {Q : Nat → Prop} (a : StepO X o h X' h') (f : Fr Q h' g) (hq : ∀ y, Q y → h.size ≤ y) : StepO X o h X' g :=
  ⟨a.fr.trans f (fun _ _ => id) (fun y yl e => absurd (hq y e) (by omega)), a.newM, a.newD, a.oldD⟩
theorem doneO_ok (he : Stt.mayE e) (h3 : 0 ≤ e.svc) (ok : Ses.okA D.A) (H : Dm h d X n e I D) (hn : D.now = 0) (hx : D.cs[k]? = some (some x)) (hs : x.ses = 0) (hc : x.clo = 0) (t1 : 1 ≤ t) (t2 : t ≤ 2147483648)
    (hf : D.x.fits n ((eOB t).length + 1 + 16)) (hxa : D.x.all ≤ 1000000000) (hd : ddA h o nn rO event_Event.S.z reply_Reply.S.z 0) (no : ¬ (X.M o ∨ X.D o))
    (hk : ∀ g X', Dm g d X' n e I { D with x := D.x.app (69 :: eOB t), A := Ses.openA D.A t, cs := D.cs.set k (some (bnd x D.A t)) } → ddA g o nn rO (eO t) (rp5 e D.A t) ((D.x.all + 1 : Nat) : Int) → StepO X o h X' g → R (.tuple #[]) g) :
    Cl 24 #[.pointer (some ⟨d, 0, none⟩), .pointer (some ⟨I.c k, 0, none⟩), .pointer (some ⟨o, 0, none⟩), .int .u64 (t : Int)] h R := by
  have lo := (Array.getElem?_eq_some_iff.1 hd).1
  refine daemon_Daemon_done.walk ⟨_, cell_at hd rfl, dd_ldq hd (eventOf_ok (t := t) H hn hx fun h1 f1 => event_Event.ex (eO t) ⟨_, rfl, event_Event.newp (x := eO t) fun b h2 e2 hb f2 => iteF (by rw [hs]; rfl) (JoinP.of fun J hJ => ?_)⟩)⟩
  have u1 := f1.1
  have u2 := f2.1
  have lb := (Array.getElem?_eq_some_iff.1 hb).1
  have F2 := f1.tt f2
  have H2 := H.on F2
  have hd2 := F2.get hd id
  have nb := H.out (b := b) (by omega)
  refine ⟨_, cell_at H2.blk rfl, event_Event.ldp hb ?_⟩
  have fin : ∀ g X2 b3, Dm g d X2 n e I { D with x := D.x.app (69 :: eOB t), A := Ses.openA D.A t } → StepF X h X2 g → reply_Reply.atp g b3 (rpO (Flu.sA e D.A) t) → event_Event.atp g b (eO t) → ddA g o nn rO event_Event.S.z reply_Reply.S.z 0 → h2.size ≤ b3 → ¬ (X2.M b3 ∨ X2.D b3) →
      J (some ⟨b3, 0, none⟩) ((D.x.all + 1 : Nat) : Int) 0 g := fun g X2 b3 G st d3 dv dd l3 n3 => by
    subst hJ
    refine JoinP.of fun J1 hJ1 => iteF rfl ?_
    subst hJ1
    refine iteF rfl (iteF rfl (onSome_some.2 (storeP_l d3 (by show 0 < 6; omega) fun g1 d1 z1 q1 => ?_)))
    replace d1 : reply_Reply.atp g1 b3 (rp5 e D.A t) := d1
    have f1 : Fr (fun y => y = b3) g g1 := Fr.of_eq z1 q1
    refine event_Event.ldp (f1.get dv (by omega)) (onSome_some.2 (reply_Reply.ldp d1 (dd_ev (f1.get dd (by omega)) fun g2 dd2 f2 => ⟨f2.kps fun p hp y e hy => ?_, dd_rp dd2 fun g3 dd3 f3 => dd_need (need' := ((D.x.all + 1 : Nat) : Int)) dd3 fun g4 dd4 f4 => ?_⟩)))
    · simp at hp
      subst hp
      cases e
      have : b3 = o := hy
      omega
    have f14 : Fr (fun y => y = o) g1 g4 := (f2.tt f3).tt f4
    have no2 := box_out no lo st
    have G4 := (G.frame f1 fun y hy e => n3 (e ▸ hy)).frame f14 fun y hy e => no2 (e ▸ hy)
    have st4 : StepO X o h X2 g4 := ((StepO.of st).fresh f1 fun y e => by have : y = b3 := e; omega).box f14
    have d4 := f14.get d1 (by omega)
    refine JoinP.of fun J2 hJ2 => ⟨_, cell_at (f14.get (f1.get dv (by omega)) (by omega)) rfl, iteT rfl (onSome_some.2 ⟨_, cell_at d4 rfl, ?_⟩)⟩
    subst hJ2
    unfold rp5 rpO at d4 dd4 hk ⊢
    unfold bnd at hk
    by_cases c : Ses.openE D.A t = 0
    · rw [if_pos c] at hk
      rw [if_pos c] at d4 dd4 hk ⊢
      obtain ⟨Z, C, _, go⟩ := G4.conn (k := k) (x := x) hx
      refine iteT rfl (onSome_some.2 ⟨_, cell_at d4 rfl, ?_⟩)
      have eN : Ses.openN D.A t = ((D.A.length + 1 : Nat) : Int) := by unfold Ses.openN; rw [if_pos c]; rfl
      show CallsH _ _ #[_, .int .i64 (Ses.openN D.A t)] _ _
      rw [eN]
      refine Con.Bind_ok C hc hs (by omega) (by have := ok.le; omega) fun g5 C5 st5 => ⟨_, rfl, ?_⟩
      obtain ⟨X5, G5, s5⟩ := go g5 _ _ C5 st5
      have no4 : ¬ X2.M o := fun q => no2 (.inl q)
      refine hk g5 X5 G5 ?_ (st4.step s5)
      exact s5.fr.get dd4 no4
    · rw [if_neg c] at hk
      rw [if_neg c] at d4 dd4 hk ⊢
      refine iteF (beq_eq_false_iff_ne.2 c) (hk g4 X2 ?_ dd4 st4)
      have : D.cs.set k (some x) = D.cs := by
        refine List.ext_getElem? fun j => ?_
        by_cases q : k = j
        · subst q; rw [List.getElem?_set_self (List.getElem?_eq_some_iff.1 hx).1, hx]
        · rw [List.getElem?_set_ne q]
      rw [this]
      exact G4
  refine ⟨?_, newP_of ⟨(Fr.push _ _).kp, ?_⟩, trivial⟩
  · obtain ⟨Z, L, zm, go⟩ := H2.log
    refine Flu.DoO_ok he h3 ok L t1 t2 hf hxa fun h4 Z4 L4 st4 => reply_Reply.ex (rpO (Flu.sA e D.A) t) ⟨_, _, rfl, reply_Reply.newp (x := rpO (Flu.sA e D.A) t) fun b3 h5 e5 d5 f5 => ?_⟩
    obtain ⟨X4, H4, s4⟩ := go h4 Z4 _ _ _ L4 st4
    have z4 := s4.fr.1
    exact fin h5 X4 b3 (H4.on f5) ((StepF.no F2 s4).on f5) d5 (f5.get (s4.fr.get hb (fun q => nb (.inl q))) id) (f5.get (s4.fr.get hd2 (fun q => no (.inl q))) id) (by omega) (H4.out (by omega))
  · have f3 : Fr No h2 (h2.push (.cells reply_Reply.S.z.arr 37)) := Fr.push _ _
    obtain ⟨Z, L, zm, go⟩ := (H2.on f3).log
    have nz := H2.out (b := h2.size) (Nat.le_refl _)
    refine Flu.DoO_ok he h3 ok L t1 t2 hf hxa fun h4 Z4 L4 st4 => reply_Reply.ex (rpO (Flu.sA e D.A) t) ⟨_, _, rfl, ?_⟩
    obtain ⟨X4, H4, s4⟩ := go h4 Z4 _ _ _ L4 st4
    have z3 : (h2.push (.cells reply_Reply.S.z.arr 37)).size = h2.size + 1 := Array.size_push _
    have nz4 := box_out nz (by omega) s4
    have d4 : reply_Reply.atp h4 h2.size reply_Reply.S.z := s4.fr.get push_new (fun q => nz (.inl q))
    refine reply_Reply.setp (x := rpO (Flu.sA e D.A) t) d4 fun h5 d5 f5 _ => ?_
    have f5' : Fr (fun y => y = h2.size) h4 h5 := f5
    exact fin h5 X4 h2.size (H4.frame f5' fun y hy e => nz4 (e ▸ hy)) (((StepF.no (F2.tt f3) s4)).fresh f5' fun y e => by omega) d5 (f5'.get (s4.fr.get (f3.get hb id) (fun q => nb (.inl q))) (by omega)) (f5'.get (s4.fr.get (f3.get hd2 id) (fun q => no (.inl q))) (by omega)) (Nat.le_refl _) nz4
theorem thenO {X1:Ft} {h1 h2 : Heap} (a : StepF X h X1 h1) (b : StepO X1 o h1 X2 h2) (ho : h.size ≤ o) : StepF X h X2 h2 := by
  have z := a.fr.1
  refine ⟨a.fr.trans b.fr (fun _ _ => id) (fun y yl hy => ?_), fun y hy => ?_, fun y hy => ?_, fun y hy => b.oldD y (a.oldD y hy)⟩
  · rcases hy with q | q
    · exact (a.newM y q).resolve_right (by omega)
    · omega
  · rcases b.newM y hy with q | q
    · exact a.newM y q
    · exact .inr (by omega)
  · rcases b.newD y hy with q | q
    · exact a.newD y q
    · exact .inr (by omega)
def rd5 (A : List Ses.Ses) (t : Nat) : RD := if Ses.openE A t = 0 then ⟨5, 0, Ses.openN A t, 0, t, []⟩ else ⟨5, Ses.openE A t, 0, 0, 0, []⟩
theorem rp5_eq (e : Eid.Ev) (A : List Ses.Ses) (t : Nat) : rp5 e A t = rS (rd5 A t) none 0 := by
  unfold rp5 rpO rd5
  by_cases c : Ses.openE A t = 0
  · rw [if_pos c, if_pos c]; rfl
  · rw [if_neg c, if_neg c]; rfl
theorem rd5_right {A : List Ses.Ses} (ok : Ses.okA A) (t2 : t ≤ 2147483648) : (rd5 A t).Right := by
  have := openE_le A t
  have := ok.le
  unfold rd5 RD.Right
  by_cases c : Ses.openE A t = 0
  · have eN : Ses.openN A t = (A.length : Int) + 1 := by unfold Ses.openN; rw [if_pos c]
    simp [c, eN]
    omega
  · simp [c]
    omega
theorem rd5_nil (A : List Ses.Ses) (t : Nat) : (rd5 A t).b = [] := by unfold rd5; split <;> rfl
abbrev failS (k : Int) : RD := ⟨5, k, 0, 0, 0, []⟩
theorem failS_right {k : Int} (h0 : 0 ≤ k) (h9 : k ≤ 99) : (failS k).Right := by simp [RD.Right, h0, h9]
theorem doneS_ok (H : Dm h d X n e I D) (hn : D.now = 0) (hx : D.cs[k]? = some (some x)) (hs : x.ses ≠ 0) (hd : ddA h o nn rO event_Event.S.z reply_Reply.S.z 0) (no : ¬ (X.M o ∨ X.D o))
    (hk : ∀ g, Dm g d X n e I D → ddA g o nn rO event_Event.S.z (rS (failS 7) none 0) 0 → Fr (fun y => y = o) h g → R (.tuple #[]) g) :
    Cl 24 #[.pointer (some ⟨d, 0, none⟩), .pointer (some ⟨I.c k, 0, none⟩), .pointer (some ⟨o, 0, none⟩), .int .u64 (t : Int)] h R := by
  have lo := (Array.getElem?_eq_some_iff.1 hd).1
  refine daemon_Daemon_done.walk ⟨_, cell_at hd rfl, dd_ldq hd (eventOf_ok (t := t) H hn hx fun h1 f1 => event_Event.ex (eO t) ⟨_, rfl, event_Event.newp (x := eO t) fun b h2 e2 hb f2 => iteT (by simp; omega) (Rep.fail_ok 5 rfl 7 fun h3 f3 => reply_Reply.ex (rS (failS 7) none 0) ⟨rfl, ?_⟩)⟩)⟩
  have F3 := (f1.tt f2).tt f3
  refine dd_rp (F3.get hd id) fun g dd f => hk g ((H.on F3).frame f fun y hy e => no (e ▸ hy)) dd (F3.no f)
theorem RunO_ok (he : Stt.mayE e) (hv : 0 ≤ e.svc) (ok : Ses.okA D.A) (H : Dm h d X n e I D) (hn : D.now = 0) (hx : D.cs[k]? = some (some x)) (hw : 0 < x.w) (h8 : x.w ≤ 8) (hs : x.ses = 0) (hc : x.clo = 0) (t1 : 1 ≤ t) (t2 : t ≤ 2147483648)
    (hf : D.x.fits n ((eOB t).length + 1 + 16)) (hxa : D.x.all ≤ 1000000000) (hq : D.q.length < 64) (hk8 : k < 1000)
    (hk : ∀ g X', Dm g d X' n e I { D with x := D.x.app (69 :: eOB t), A := Ses.openA D.A t, q := D.q ++ [⟨k + 1, (rd5 D.A t).enc, D.x.all + 1⟩], cs := D.cs.set k (some (bnd { x with w := x.w - 1 } D.A t)) } → StepF X h X' g →
      R (.tuple #[(ddS ((k + 1 : Nat) : Int) rO (eO t) (rS (rd5 D.A t) none 0) ((D.x.all + 1 : Nat) : Int)).agg, .int .i64 0]) g) :
    Cl 8 #[.pointer (some ⟨d, 0, none⟩), .int .i64 ((k + 1 : Nat) : Int), .int .u64 (t : Int)] h R := by
  have kl := (List.getElem?_eq_some_iff.1 hx).1
  refine daemon_Daemon_Run.walk (daemon_Deed.boxp (x := daemon_Deed.S.z) fun b h1 e1 hb f1 => find_ok (H.on f1) hx ⟨_, _, rfl, iteF rfl ?_⟩)
  have H1 := H.on f1
  have u1 := f1.1
  have lb := (Array.getElem?_eq_some_iff.1 hb).1
  have nb := H.out (b := b) (by omega)
  obtain ⟨Z, C, _, go⟩ := H1.conn hx
  refine Con.Next_ok C hw h8 fun h2 Z2 C2 st2 => request_Request.ex rO ⟨_, rfl, request_Request.newp (x := rO) fun b1 h3 e3 hb1 f3 => iteF rfl (request_Request.ldp hb1 (daemon_Deed.newp (x := ddS ((k + 1 : Nat) : Int) rO event_Event.S.z reply_Reply.S.z 0) fun b2 h4 e4 hb2 f4 => ?_))⟩
  obtain ⟨X2, H2, s2⟩ := go h2 Z2 _ C2 st2
  have F4 := f3.tt f4
  have H4 := H2.on F4
  have u2 := s2.fr.1
  have u3 := f3.1
  have u4 := f4.1
  have lb2 := (Array.getElem?_eq_some_iff.1 hb2).1
  have nb2 := H2.out (b := b2) (by omega)
  have S4 : StepF X h X2 h4 := (StepF.no f1 s2).on F4
  have hb4 := F4.get (s2.fr.get hb (fun q => nb (.inl q))) id
  have nb4 := box_out nb lb s2
  refine doneO_ok (D := { D with cs := D.cs.set k (some { x with w := x.w - 1 }) }) (x := { x with w := x.w - 1 }) he hv ok H4 hn (List.getElem?_set_self kl) hs hc t1 t2 hf hxa hb2 nb2 fun h5 X5 H5 dd5 st5 => ⟨rfl, ?_⟩
  rw [rp5_eq] at dd5
  have S5 := thenO S4 st5 (by omega)
  have u5 := st5.fr.1
  have hb5 := st5.fr.get hb4 (fun q => q.elim (fun q => nb4 (.inl q)) (fun q => by omega))
  have no5 : ∀ y, y < h4.size → ¬ (X2.M y ∨ X2.D y) → ¬ (X5.M y ∨ X5.D y) := fun y yl hy q => q.elim (fun q => (st5.newM y q).elim (fun q => hy (.inl q)) (fun q => by omega)) (fun q => (st5.newD y q).elim (fun q => hy (.inr q)) (fun q => by omega))
  have nb5 := no5 b (by omega) nb4
  have nb25 := no5 b2 (by omega) nb2
  have rr := rd5_right ok t2
  refine dd_ldp dd5 (Rep.write_ok (rd5 D.A t) (by rw [rd5_nil]; exact .inl rfl) (fun _ h6 p c o6 f6 g6 => ⟨_, _, _, _, rfl, JoinP.of fun J hJ => iteT rfl ?_⟩) (fun q => absurd rr q))
  have H6 := H5.on f6
  have dd6 := f6.get dd5 id
  have u6 := f6.1
  obtain ⟨ZQ, Q, zq, goq⟩ := H6.que
  have el := enc_len (x := rd5 D.A t) (by rw [rd5_nil]; decide)
  refine ⟨_, cell_at H6.blk rfl, _, cell_at dd6 rfl, Pnd.Add_ok (to := k + 1) (need := D.x.all + 1) Q o6.row' rfl (by omega) (by omega) (by omega) (by omega) hq fun h7 Z7 Q7 st7 => ⟨_, rfl, ?_, ?_⟩⟩
  · refine st7.fr.kps fun p hp y e hy => ?_
    simp at hp
    subst hp
    cases e
    exact nb25 (.inl (zq _ hy))
  obtain ⟨X7, H7, s7⟩ := goq h7 Z7 _ Q7 st7
  subst hJ
  have dd7 := s7.fr.get dd6 (fun q => nb25 (.inl q))
  have lb5 := (Array.getElem?_eq_some_iff.1 hb5).1
  have nb7 := box_out nb5 (by omega) s7
  refine daemon_Deed.ldp dd7 (daemon_Deed.setp (x := ddS ((k + 1 : Nat) : Int) rO (eO t) (rS (rd5 D.A t) none 0) ((D.x.all + 1 : Nat) : Int)) (s7.fr.get (f6.get hb5 id) (fun q => nb5 (.inl q))) fun h8 d8 f8 _ => daemon_Deed.ldp d8 (hk h8 X7 ?_ (((S5.on f6).trans s7).fresh f8 fun y e => by have : y = b := e; omega)))
  have H8 := H7.frame f8 fun y hy (e : y = b) => nb7 (e ▸ hy)
  have ec : (D.cs.set k (some { x with w := x.w - 1 })).set k (some (bnd { x with w := x.w - 1 } D.A t)) = D.cs.set k (some (bnd { x with w := x.w - 1 } D.A t)) := List.set_set ..
  rw [ec] at H8
  exact H8
theorem RunS_ok (H : Dm h d X n e I D) (hn : D.now = 0) (hx : D.cs[k]? = some (some x)) (hw : 0 < x.w) (h8 : x.w ≤ 8) (hs : x.ses ≠ 0) (hq : D.q.length < 64) (hk8 : k < 1000)
    (hk : ∀ g X', Dm g d X' n e I { D with q := D.q ++ [⟨k + 1, (failS 7).enc, 0⟩], cs := D.cs.set k (some { x with w := x.w - 1 }) } → StepF X h X' g →
      R (.tuple #[(ddS ((k + 1 : Nat) : Int) rO event_Event.S.z (rS (failS 7) none 0) 0).agg, .int .i64 0]) g) :
    Cl 8 #[.pointer (some ⟨d, 0, none⟩), .int .i64 ((k + 1 : Nat) : Int), .int .u64 (t : Int)] h R := by
  have kl := (List.getElem?_eq_some_iff.1 hx).1
  refine daemon_Daemon_Run.walk (daemon_Deed.boxp (x := daemon_Deed.S.z) fun b h1 e1 hb f1 => find_ok (H.on f1) hx ⟨_, _, rfl, iteF rfl ?_⟩)
  have H1 := H.on f1
  have u1 := f1.1
  have lb := (Array.getElem?_eq_some_iff.1 hb).1
  have nb := H.out (b := b) (by omega)
  obtain ⟨Z, C, _, go⟩ := H1.conn hx
  refine Con.Next_ok C hw h8 fun h2 Z2 C2 st2 => request_Request.ex rO ⟨_, rfl, request_Request.newp (x := rO) fun b1 h3 e3 hb1 f3 => iteF rfl (request_Request.ldp hb1 (daemon_Deed.newp (x := ddS ((k + 1 : Nat) : Int) rO event_Event.S.z reply_Reply.S.z 0) fun b2 h4 e4 hb2 f4 => ?_))⟩
  obtain ⟨X2, H2, s2⟩ := go h2 Z2 _ C2 st2
  have F4 := f3.tt f4
  have H4 := H2.on F4
  have u2 := s2.fr.1
  have u3 := f3.1
  have u4 := f4.1
  have lb2 := (Array.getElem?_eq_some_iff.1 hb2).1
  have nb2 := H2.out (b := b2) (by omega)
  have S4 : StepF X h X2 h4 := (StepF.no f1 s2).on F4
  have hb4 := F4.get (s2.fr.get hb (fun q => nb (.inl q))) id
  have nb4 := box_out nb lb s2
  refine doneS_ok (D := { D with cs := D.cs.set k (some { x with w := x.w - 1 }) }) (x := { x with w := x.w - 1 }) H4 hn (List.getElem?_set_self kl) hs hb2 nb2 fun h5 H5 dd5 f5 => ⟨rfl, ?_⟩
  have S5 := S4.fresh f5 (fun y e => by have : y = b2 := e; omega)
  have u5 := f5.1
  have hb5 := f5.get hb4 (by omega)
  have rr := failS_right (k := 7) (by decide) (by decide)
  refine dd_ldp dd5 (Rep.write_ok (failS 7) (.inl rfl) (fun _ h6 p c o6 f6 g6 => ⟨_, _, _, _, rfl, JoinP.of fun J hJ => iteT rfl ?_⟩) (fun q => absurd rr q))
  have H6 := H5.on f6
  have dd6 := f6.get dd5 id
  have u6 := f6.1
  obtain ⟨ZQ, Q, zq, goq⟩ := H6.que
  have el := enc_len (x := failS 7) (by decide)
  refine ⟨_, cell_at H6.blk rfl, _, cell_at dd6 rfl, Pnd.Add_ok (to := k + 1) (need := 0) Q o6.row' rfl (by omega) (by omega) (by omega) (by omega) hq fun h7 Z7 Q7 st7 => ⟨_, rfl, ?_, ?_⟩⟩
  · refine st7.fr.kps fun p hp y e hy => ?_
    simp at hp
    subst hp
    cases e
    exact nb2 (.inl (zq _ hy))
  obtain ⟨X7, H7, s7⟩ := goq h7 Z7 _ Q7 st7
  subst hJ
  have dd7 := s7.fr.get dd6 (fun q => nb2 (.inl q))
  have lb5 := (Array.getElem?_eq_some_iff.1 hb5).1
  have nb7 := box_out nb4 (by omega) s7
  refine daemon_Deed.ldp dd7 (daemon_Deed.setp (x := ddS ((k + 1 : Nat) : Int) rO event_Event.S.z (rS (failS 7) none 0) 0) (s7.fr.get (f6.get hb5 id) (fun q => nb4 (.inl q))) fun h8 d8 f8 _ => daemon_Deed.ldp d8 (hk h8 X7 (H7.frame f8 fun y hy (e : y = b) => nb7 (e ▸ hy)) (((S5.on f6).trans s7).fresh f8 fun y e => by have : y = b := e; omega)))
theorem RunN_ok (H : Dm h d X n e I D) (hx : D.cs[k]? = some (some x)) (hw : x.w = 0)
    (hk : ∀ g, Fr No h g → R (.tuple #[daemon_Deed.S.z.agg, .int .i64 4]) g) :
    Cl 8 #[.pointer (some ⟨d, 0, none⟩), .int .i64 ((k + 1 : Nat) : Int), .int .u64 (t : Int)] h R := by
  refine daemon_Daemon_Run.walk (daemon_Deed.boxp (x := daemon_Deed.S.z) fun b h1 e1 hb f1 => find_ok (H.on f1) hx ⟨_, _, rfl, iteF rfl ?_⟩)
  have u1 := f1.1
  obtain ⟨Z, C, _, go⟩ := (H.on f1).conn hx
  refine Con.Next_none C hw fun h2 f2 => request_Request.ex request_Request.S.z ⟨_, rfl, request_Request.newp (x := request_Request.S.z) fun b1 h3 e3 hb1 f3 => iteT rfl (daemon_Deed.setp (x := daemon_Deed.S.z) (f3.get (f2.get hb id) id) fun h4 d4 f4 _ => daemon_Deed.ldp d4 (hk h4 (((f1.tt f2).tt f3).fresh f4 fun y q => by have : y = b := q; omega)))⟩

end Dae
end
section
open Go.Fields
namespace Dae
open Jnl Dsk Con Pnd Opn
variable {h h':Heap} {R:TyP} {d n i j k l now:Nat} {X:Ft} {e:Eid.Ev} {D:DM} {I:DI} {x:CN} {y0:JN} {ds:DS} {A:List Ses.Ses}
theorem New_ok (H : Flu.Lg h l X n y0 ds (Flu.sA e A)) (hw : now ≤ 1099511627776) (hk : ∀ g d X' I, Dm g d X' n e I ⟨y0, ds, A, [], [], now⟩ → Fr No h g → (∀ y, X'.M y ∨ X'.D y → (X.M y ∨ X.D y) ∨ h.size ≤ y) → R (.tuple #[pt d, .int .i64 0]) g) :
    Cl 13 #[.pointer (some ⟨l, 0, none⟩), .int .u64 (now : Int)] h R := by
  have H0 := H
  obtain ⟨j, dd, s, XJ, XS, I, G, rfl⟩ := H0
  refine daemon_New.walk (Flu.State_ok G ⟨_, rfl, iteF rfl (JoinP.of fun J hJ => iteF (decide_eq_false (by omega)) (onSome_some.2 ⟨_, cell_at G.st.blk rfl, ?_⟩))⟩)
  subst hJ
  refine iteF (decide_eq_false (by show ¬ (now : Int) < ((0 : Nat) : Int); omega)) (newP_of (Pnd.new_ok fun h3 q XQ Q f3 g3 nd => ⟨_, rfl, newP_of ?_⟩))
  have f1 : Fr No h (h.push (.map #[] 0)) := Fr.push _ _
  have z1 : (h.push (.map #[] 0)).size = h.size + 1 := Array.size_push _
  have z3 := f3.1
  have f4 : Fr No h3 (h3.push (.cells #[pt l, .map (some h.size), .int .i64 1, pt q, .int .u64 (now : Int)] 63)) := Fr.push _ _
  have F4 := (f1.tt f3).tt f4
  have M1 : MapP (h.push (.map #[] 0)) h.size Cps.ienc ([] : List (Int × Value)) := MapP.push h _
  have xl : ∀ y, (Flu.ftL l XJ XS).M y ∨ (Flu.ftL l XJ XS).D y → y < h.size := fun y hy => H.lt y hy
  have ql : ∀ y, In XQ y → h.size + 1 ≤ y ∧ y < h3.size := fun y hy => ⟨hy.elim (fun a => by have := g3 y a; omega) (fun a => (nd y a).elim), Q.lt y hy⟩
  let Y : Nat → Ft := fun i => match i with
    | 0 => Flu.ftL l XJ XS
    | 1 => XQ
    | 2 => ⟨fun y => y = h3.size ∨ y = h.size, fun _ => False⟩
    | _ => ⟨fun _ => False, fun _ => False⟩
  have e3 : ∀ i y, ¬ In (Y (i + 3)) y := fun i y hy => hy.elim id id
  have s2 : ∀ y, In (Y 2) y → y = h3.size ∨ y = h.size := fun y hy => hy.elim id False.elim
  refine hk _ h3.size ⟨fun y => ∃ i, (Y i).M y, fun y => ∃ i, (Y i).D y⟩ ⟨l, q, h.size, fun _ => 0⟩ ⟨Y, fun i => ?_, fun i j y hij hy hz => ?_, fun _ => Iff.rfl, fun _ => Iff.rfl⟩ F4 ?_
  · rcases i with _ | _ | _ | i
    · exact Flu.Lg.frame H F4 (fun _ _ => id)
    · exact Q.frame f4 (fun _ _ => id)
    · exact ⟨⟨push_new, (M1.frame f3 id).frame f4 id⟩, fun y => ⟨Iff.rfl, id⟩⟩
    · exact fun y hy => e3 i y hy
  · rcases i with _ | _ | _ | i <;> first | exact e3 i y hy | (rcases j with _ | _ | _ | j <;> first | exact e3 j y hz | exact hij rfl | skip)
    · have := xl y hy; have := ql y hz; omega
    · have := xl y hy; have := s2 y hz; omega
    · have := xl y hz; have := ql y hy; omega
    · have := ql y hy; have := s2 y hz; omega
    · have := xl y hz; have := s2 y hy; omega
    · have := ql y hz; have := s2 y hy; omega
  · have key : ∀ i y, In (Y i) y → ((Flu.ftL l XJ XS).M y ∨ (Flu.ftL l XJ XS).D y) ∨ h.size ≤ y := fun i y hy => by
      rcases i with _ | _ | _ | i
      · exact .inl hy
      · have := ql y hy; exact .inr (by omega)
      · have := s2 y hy; exact .inr (by omega)
      · exact (e3 i y hy).elim
    rintro y (⟨i, a⟩ | ⟨i, a⟩)
    · exact key i y (.inl a)
    · exact key i y (.inr a)
theorem New_nil (hk : R (.tuple #[.pointer none, .int .i64 6]) h) : Cl 13 #[.pointer none, .int .u64 (now : Int)] h R :=
  daemon_New.nil.walk (flush_Log_State.nil.walk ⟨_, rfl, iteT rfl hk⟩)
theorem cl_len (c : Nat → Nat) : ∀ (cs : List (Option CN)) (k : Nat), (cl c k cs).length ≤ cs.length
  | [], _ => Nat.le_refl _
  | none :: r, k => Nat.le_succ_of_le (cl_len c r (k + 1))
  | some _ :: r, k => Nat.succ_le_succ (cl_len c r (k + 1))
theorem Connect_ok (H : Dm h d X n e I D) (h8 : D.cs.length < 8) (hk : ∀ g X' I', Dm g d X' n e I' { D with cs := D.cs ++ [some cn0] } → StepF X h X' g → R (.tuple #[.int .i64 ((D.cs.length + 1 : Nat) : Int), .int .i64 0]) g) :
    Cl 6 #[.pointer (some ⟨d, 0, none⟩)] h R := by
  have dl := (Array.getElem?_eq_some_iff.1 H.blk).1
  have ml := H.map.lt
  have cll := cl_len I.c D.cs 0
  refine daemon_Daemon_Connect.walk (made_ok H ⟨_, rfl, iteF rfl ⟨_, cell_at H.blk rfl, _, lenV_P mapTy H.map, iteF (decide_eq_false (by omega)) ⟨_, cell_at H.blk rfl, _, cell_at H.blk rfl, storeP_blk H.blk (by show 2 < 5; omega) fun h1 b1 z1 q1 => ⟨_, cell_at b1 rfl, Con.new_ok fun h2 c XC C2 f2 g2 => ⟨_, rfl, f2.kp, ?_⟩⟩⟩⟩⟩)
  have hdm : d ≠ I.m := fun e0 => by
    have M := H.map
    obtain ⟨T, ck, M, _⟩ := M
    have := M.blk
    rw [← e0, H.blk] at this
    cases this
  have M1 := H.map.of_get (q1 I.m (fun e0 => hdm e0.symm))
  have M2 := M1.frame f2 id
  have f1 : Fr (fun y => y = d) h h1 := Fr.of_eq z1 q1
  have b2 := f2.get b1 id
  refine den_putP mapTy M2 fun h3 M3 z3 q3 => ?_
  have f3 : Fr (fun y => y = I.m) h2 h3 := Fr.of_eq z3 q3
  have u2 := f2.1
  have ew : IntKind.wrap .i64 (((D.cs.length + 1 : Nat) : Int) + 1) = ((D.cs.length + 1 + 1 : Nat) : Int) := by rw [wrap_id (by omega) (by omega)]; omega
  change h2[d]? = some (.cells #[pt I.l, .map (some I.m), .int .i64 (IntKind.wrap .i64 (((D.cs.length + 1 : Nat) : Int) + 1)), pt I.q, .int .u64 (D.now : Int)] 63 (0, 0)) at b2
  rw [ew] at b2
  have cl2 := C2.lt
  obtain ⟨Y, hp, ap, hm, hd⟩ := H
  have lt : ∀ i y, In (Y i) y → y < h.size := fun i y hy => part.lt (hp i) y hy
  have o2 := (hp 2).2
  have F3 : Fr (fun y => y = d ∨ y = I.m) h h3 := ((f1.mono fun y _ => .inl).trans f2 (fun _ _ => id) (fun _ _ => False.elim)).trans f3 (fun _ _ => id) (fun y _ => .inr)
  let k := D.cs.length
  let Y' : Nat → Ft := fun i => if i = k + 3 then XC else Y i
  have yk : ∀ y, ¬ In (Y (k + 3)) y := fun y hy => by
    have a := hp (k + 3)
    unfold part at a
    dsimp only at a
    rw [List.getElem?_eq_none (Nat.le_refl _)] at a
    exact a y hy
  have nX : ∀ y, In XC y → h.size ≤ y := fun y hy => hy.elim (fun a => by have := g2 y a; omega) (fun a => (C2.nd y a).elim)
  have ne : ∀ i, i ≠ 2 → i ≠ k + 3 → ∀ y, In (Y i) y → ¬ (y = d ∨ y = I.m) := fun i h2 _ y hy e0 => ap i 2 y h2 hy (.inl ((o2 y).1.2 e0))
  refine hk h3 ⟨fun y => ∃ i, (Y' i).M y, fun y => ∃ i, (Y' i).D y⟩ { I with c := fun j => if j = k then c else I.c j } ⟨Y', fun i => ?_, fun i j y hij hy hz => ?_, fun _ => Iff.rfl, fun _ => Iff.rfl⟩ ⟨F3.mono fun y _ e0 => (hm y).2 ⟨2, (o2 y).1.2 e0⟩, ?_, ?_, ?_⟩
  · by_cases ik : i = k + 3
    · subst ik
      have a : Y' (k + 3) = XC := if_pos rfl
      rw [a]
      unfold part
      dsimp only
      rw [List.getElem?_append_right (Nat.le_refl _), Nat.sub_self]
      show Cn h3 (if k = k then c else I.c k) XC cn0
      rw [if_pos rfl]
      exact C2.frame f3 fun y hy e0 => by have := nX y (.inl hy); omega
    · have a : Y' i = Y i := if_neg ik
      rw [a]
      rcases i with _ | _ | _ | i
      · exact part.frame (i := 0) (hp 0) F3 (ne 0 (by decide) ik)
      · exact part.frame (i := 1) (hp 1) F3 (ne 1 (by decide) ik)
      · refine ⟨⟨?_, M3.perm (cl_put D.cs cn0 c)⟩, o2⟩
        rw [List.length_append]
        exact f3.get b2 hdm
      · have b := part.frame (hp (i + 3)) F3 (ne (i + 3) (by omega) ik)
        have ik' : i ≠ k := fun e0 => ik (by rw [e0])
        unfold part at b ⊢
        dsimp only at b ⊢
        by_cases il : i < k
        · rw [List.getElem?_append_left il, if_neg ik']
          exact b
        · rw [List.getElem?_eq_none (by show D.cs.length ≤ i; omega)] at b
          rw [List.getElem?_eq_none (by rw [List.length_append]; show k + 1 ≤ i; omega)]
          exact b
  · by_cases ik : i = k + 3
    · have jk : j ≠ k + 3 := fun e0 => hij (ik.trans e0.symm)
      have a : Y' i = XC := if_pos ik
      have b : Y' j = Y j := if_neg jk
      rw [a] at hy; rw [b] at hz
      have := nX y hy; have := lt j y hz; omega
    · have a : Y' i = Y i := if_neg ik
      rw [a] at hy
      by_cases jk : j = k + 3
      · have b : Y' j = XC := if_pos jk
        rw [b] at hz
        have := nX y hz; have := lt i y hy; omega
      · have b : Y' j = Y j := if_neg jk
        rw [b] at hz
        exact ap i j y hij hy hz
  · rintro y ⟨i, a⟩
    by_cases ik : i = k + 3
    · have b : Y' i = XC := if_pos ik
      rw [b] at a; exact .inr (nX y (.inl a))
    · have b : Y' i = Y i := if_neg ik
      rw [b] at a; exact .inl ((hm y).2 ⟨i, a⟩)
  · rintro y ⟨i, a⟩
    by_cases ik : i = k + 3
    · have b : Y' i = XC := if_pos ik
      rw [b] at a; exact .inr (nX y (.inr a))
    · have b : Y' i = Y i := if_neg ik
      rw [b] at a; exact .inl ((hd y).2 ⟨i, a⟩)
  · intro y a
    obtain ⟨i, a⟩ := (hd y).1 a
    have ik : i ≠ k + 3 := fun e0 => yk y (.inr (e0 ▸ a))
    exact ⟨i, by show (if i = k + 3 then XC else Y i).D y; rw [if_neg ik]; exact a⟩
theorem Dm.take (H : Dm h d X n e I D) (hx : D.cs[k]? = some (some x)) (f : Fr (fun y => y = I.m) h h') (M : MapP h' I.m Cps.ienc (cl I.c 0 (D.cs.set k none))) :
    ∃ X1 Z, Dm h' d X1 n e I { D with cs := D.cs.set k none } ∧ Cn h' (I.c k) Z x ∧ (∀ y, Z.M y → ¬ (X1.M y ∨ X1.D y)) ∧ StepF X h X1 h' := by
  have hdm : d ≠ I.m := fun e0 => by
    obtain ⟨T, ck, M, _⟩ := H.map
    have := M.blk
    rw [← e0, H.blk] at this
    cases this
  have kl := (List.getElem?_eq_some_iff.1 hx).1
  obtain ⟨Y, hp, ap, hm, hd⟩ := H
  have o2 := (hp 2).2
  have hc : Cn h (I.c k) (Y (k + 3)) x := by have := hp (k + 3); unfold part at this; dsimp only at this; rw [hx] at this; exact this
  have ne : ∀ i, i ≠ 2 → ∀ y, In (Y i) y → ¬ (y = I.m) := fun i h2 y hy e0 => ap i 2 y h2 hy (.inl ((o2 y).1.2 (.inr e0)))
  let E : Ft := ⟨fun _ => False, fun _ => False⟩
  let Y' : Nat → Ft := fun i => if i = k + 3 then E else Y i
  have sub : ∀ i, (∀ y, (Y' i).M y → (Y i).M y) ∧ ∀ y, (Y' i).D y → (Y i).D y := fun i => by
    by_cases ik : i = k + 3
    · have a : Y' i = E := if_pos ik
      rw [a]; exact ⟨fun _ q => q.elim, fun _ q => q.elim⟩
    · have a : Y' i = Y i := if_neg ik
      rw [a]; exact ⟨fun _ => id, fun _ => id⟩
  refine ⟨⟨fun y => ∃ i, (Y' i).M y, fun y => ∃ i, (Y' i).D y⟩, Y (k + 3), ⟨Y', fun i => ?_, fun i j y hij hy hz => ap i j y hij (hy.imp ((sub i).1 y) ((sub i).2 y)) (hz.imp ((sub j).1 y) ((sub j).2 y)), fun _ => Iff.rfl, fun _ => Iff.rfl⟩, hc.frame f fun y hy => ne (k + 3) (by omega) y (.inl hy), fun y hy q => ?_, ⟨f.mono fun y _ e0 => (hm y).2 ⟨2, (o2 y).1.2 (.inr e0)⟩, ?_, ?_, ?_⟩⟩
  · by_cases ik : i = k + 3
    · subst ik
      have a : Y' (k + 3) = E := if_pos rfl
      rw [a]
      unfold part
      dsimp only
      rw [List.getElem?_set_self kl]
      exact fun y q => q.elim id id
    · have a : Y' i = Y i := if_neg ik
      rw [a]
      rcases i with _ | _ | _ | i
      · exact part.frame (i := 0) (hp 0) f (ne 0 (by decide))
      · exact part.frame (i := 1) (hp 1) f (ne 1 (by decide))
      · refine ⟨⟨?_, M⟩, o2⟩
        rw [List.length_set]
        exact f.get (hp 2).1.1 hdm
      · have b := part.frame (hp (i + 3)) f (ne (i + 3) (by omega))
        unfold part at b ⊢
        dsimp only at b ⊢
        rw [List.getElem?_set_ne (by omega)]
        exact b
  · obtain ⟨i, a⟩ : ∃ i, In (Y' i) y := q.elim (fun ⟨i, a⟩ => ⟨i, .inl a⟩) (fun ⟨i, a⟩ => ⟨i, .inr a⟩)
    by_cases ik : i = k + 3
    · have b : Y' i = E := if_pos ik
      rw [b] at a
      exact a.elim id id
    · exact ap i (k + 3) y ik (a.imp ((sub i).1 y) ((sub i).2 y)) (.inl hy)
  · rintro y ⟨i, a⟩; exact .inl ((hm y).2 ⟨i, (sub i).1 y a⟩)
  · rintro y ⟨i, a⟩; exact .inl ((hd y).2 ⟨i, (sub i).2 y a⟩)
  · intro y a
    obtain ⟨i, a⟩ := (hd y).1 a
    have ik : i ≠ k + 3 := fun e0 => hc.nd y (e0 ▸ a)
    exact ⟨i, by show (if i = k + 3 then E else Y i).D y; rw [if_neg ik]; exact a⟩
theorem Conns_nil (H : Dm h d X n e I D) (hc : cl I.c 0 D.cs = []) (hk : ∀ g, Fr No h g → R (.slice none 0 0) g) : Cl 17 #[.pointer (some ⟨d, 0, none⟩)] h R := by
  have M := H.map
  rw [hc] at M
  refine daemon_Daemon_Conns.walk (made_ok H ⟨_, rfl, JoinP.of fun J hJ => iteT rfl ⟨_, cell_at H.blk rfl, den_rangeP mapTy M fun it h1 e1 I1 f1 => ⟨_, rfl, fun p l c g => p = none ∧ l = 0 ∧ c = 0 ∧ g = h1, fun _ _ _ _ => 0, ⟨rfl, rfl, rfl, rfl⟩, ?_⟩⟩⟩)
  rintro _ _ _ _ ⟨rfl, rfl, rfl, rfl⟩
  refine den_nextP I1 (fun _ => .inl ⟨rfl, ?_⟩) (fun a v h' q => by cases q)
  subst hJ
  exact Srt.sort_ok (xs := []) (.nil rfl rfl rfl rfl) rfl .nil (by decide) fun g zs _ _ _ f => ⟨rfl, hk g (f1.tt (f.mono fun y _ ⟨a, e, _⟩ => by cases e))⟩

end Dae
end
section
open Go.Fields
namespace Dae
open Jnl Dsk Con Pnd Opn
variable {h:Heap} {R:TyP} {d n i k t now:Nat} {X:Ft} {e:Eid.Ev} {D:DM} {I:DI} {x:CN}
theorem Close_ok (he : Stt.mayE e) (hv : 0 ≤ e.svc) (ok : Ses.okA D.A) (H : Dm h d X n e I D) (hn : D.now = 0) (hx : D.cs[k]? = some (some x)) (hq : D.q = []) (hc : x.clo ≠ 0) (s1 : 1 ≤ x.ses) (s2 : x.ses ≤ 1099511627776)
    (hf : D.x.fits n ((eDB x.ses).length + 1 + 16)) (hxa : D.x.all ≤ 1000000000)
    (hk : ∀ g X' y, Dm g d X' n e I { D with x := D.x.app (69 :: eDB x.ses), A := Ses.downA D.A (x.ses : Int), cs := D.cs.set k none } → StepF X h X' g → R (.tuple #[(y : daemon_Deed.S).agg, .int .i64 0]) g) :
    Cl 22 #[.pointer (some ⟨d, 0, none⟩), .int .i64 ((k + 1 : Nat) : Int)] h R := by
  obtain ⟨y0, ds, A, q, cs, now⟩ := D
  dsimp only at ok hn hx hq hf hxa hk
  subst hn hq
  refine daemon_Daemon_Close.walk (daemon_Deed.boxp (x := daemon_Deed.S.z) fun b h1 e1 hb f1 => find_ok (H.on f1) hx ⟨_, _, rfl, iteF rfl ⟨_, cell_at (H.on f1).blk rfl, den_delP mapTy (H.on f1).map fun h2 M2 z2 q2 => ⟨rfl, ?_⟩⟩⟩)
  have H1 := H.on f1
  have u1 := f1.1
  have lb := (Array.getElem?_eq_some_iff.1 hb).1
  have nb := H.out (b := b) (by omega)
  have g0 := cl_del (c := I.c) (k := 0) hx
  rw [Nat.zero_add] at g0
  rw [g0] at M2
  have f2 : Fr (fun y => y = I.m) h1 h2 := Fr.of_eq z2 q2
  obtain ⟨X2, Z, H2, C2, dis, s2'⟩ := H1.take hx f2 M2
  obtain ⟨ZQ, Q, zq, goq⟩ := H2.que
  refine ⟨_, cell_at H2.blk rfl, Pnd.Drop_ok (to := k + 1) Q fun h3 Z3 Q3 st3 => ⟨_, rfl, ?_⟩⟩
  have C3 := C2.frame st3.fr (fun y hy q => dis y hy (.inl (zq y q)))
  obtain ⟨X3, H3, s3⟩ := goq h3 Z3 [] Q3 st3
  have S3 := (StepF.no f1 s2').trans s3
  have nb3 := box_out (box_out nb lb s2') (by have := s2'.fr.1; omega) s3
  have hb3 := s3.fr.get (s2'.fr.get hb (fun q => nb (.inl q))) (fun q => box_out nb lb s2' (.inl q))
  refine Con.closeC_ok C3 hc ⟨rfl, Con.session_ok C3 ⟨_, rfl, iteF (by simp; omega) (JoinP.of fun J hJ => ⟨0, cell_at H3.blk rfl, ?_⟩)⟩⟩
  have u3 := S3.fr.1
  have lb3 := (Array.getElem?_eq_some_iff.1 hb3).1
  have fin : ∀ g b3, Fr No h3 g → ddA g b3 ((k + 1 : Nat) : Int) request_Request.S.z (eD x.ses) reply_Reply.S.z 0 → h3.size ≤ b3 → J (some ⟨b3, 0, none⟩) g := fun g b3 fg d3 l3 => by
    subst hJ
    have HG := H3.on fg
    have ug := fg.1
    have n3 := H3.out l3
    have ld := (Array.getElem?_eq_some_iff.1 d3).1
    refine JoinP.of fun J1 hJ1 => ⟨_, cell_at HG.blk rfl, onSome_some.2 (dd_lde d3 ?_)⟩
    have fin2 : ∀ g4 X4 rb, Dm g4 d X4 n e I ⟨y0.app (69 :: eDB x.ses), ds, Ses.downA A (x.ses : Int), [], cs.set k none, 0⟩ → StepF X3 g X4 g4 → reply_Reply.atp g4 rb (rpD (Flu.sA e A) x.ses) → ddA g4 b3 ((k + 1 : Nat) : Int) request_Request.S.z (eD x.ses) reply_Reply.S.z 0 → daemon_Deed.atp g4 b daemon_Deed.S.z → g.size ≤ rb →
        J1 0 (some ⟨rb, 0, none⟩) ((y0.all + 1 : Nat) : Int) g4 := fun g4 X4 rb H4 st4 dr dd db lr => by
      subst hJ1
      refine onSome_some.2 (reply_Reply.ldp dr (onSome_some.2 (dd_rp dd fun g5 dd5 f5 => onSome_some.2 (dd_need (need' := ((y0.all + 1 : Nat) : Int)) dd5 fun g6 dd6 f6 => JoinP.of fun J2 hJ2 => iteF rfl ?_))))
      subst hJ2
      have f56 : Fr (fun y => y = b3) g4 g6 := f5.tt f6
      refine onSome_some.2 (daemon_Deed.ldp dd6 (daemon_Deed.setp (x := ddS ((k + 1 : Nat) : Int) request_Request.S.z (eD x.ses) (rpD (Flu.sA e A) x.ses) ((y0.all + 1 : Nat) : Int)) (f56.get db (by omega)) fun g7 d7 f7 _ => daemon_Deed.ldp d7 (hk g7 X4 _ ?_ ?_)))
      · have q3 := box_out n3 ld st4
        have qb := box_out nb3 (by omega) st4
        exact (H4.frame f56 fun y hy e0 => q3 (e0 ▸ hy)).frame f7 fun y hy (e0 : y = b) => qb (e0 ▸ hy)
      · exact ((S3.trans (StepF.no fg st4)).fresh f56 fun y e0 => by have : y = b3 := e0; omega).fresh f7 fun y e0 => by have : y = b := e0; omega
    have hbg := fg.get hb3 id
    refine ⟨?_, newP_of ⟨(Fr.push _ _).kp, ?_⟩, trivial⟩
    · obtain ⟨Z4, L, zm, go⟩ := HG.log
      refine Flu.DoD_ok he hv ok L s1 s2 hf hxa fun g4 Z5 L4 st4 => reply_Reply.ex (rpD (Flu.sA e A) x.ses) ⟨_, _, rfl, reply_Reply.newp (x := rpD (Flu.sA e A) x.ses) fun rb g5 e5 d5 f5 => ?_⟩
      obtain ⟨X4, H4, s4⟩ := go g4 Z5 _ _ _ L4 st4
      have u4 := s4.fr.1
      exact fin2 g5 X4 rb (H4.on f5) (s4.on f5) d5 (f5.get (s4.fr.get d3 (fun q => n3 (.inl q))) id) (f5.get (s4.fr.get hbg (fun q => nb3 (.inl q))) id) (by omega)
    · have fp : Fr No g (g.push (.cells reply_Reply.S.z.arr 37)) := Fr.push _ _
      obtain ⟨Z4, L, zm, go⟩ := (HG.on fp).log
      have nz := HG.out (b := g.size) (Nat.le_refl _)
      refine Flu.DoD_ok he hv ok L s1 s2 hf hxa fun g4 Z5 L4 st4 => reply_Reply.ex (rpD (Flu.sA e A) x.ses) ⟨_, _, rfl, ?_⟩
      obtain ⟨X4, H4, s4⟩ := go g4 Z5 _ _ _ L4 st4
      have zp : (g.push (.cells reply_Reply.S.z.arr 37)).size = g.size + 1 := Array.size_push _
      have nz4 := box_out nz (by omega) s4
      have d4 : reply_Reply.atp g4 g.size reply_Reply.S.z := s4.fr.get push_new (fun q => nz (.inl q))
      refine reply_Reply.setp (x := rpD (Flu.sA e A) x.ses) d4 fun g5 d5 f5 _ => ?_
      have f5' : Fr (fun y => y = g.size) g4 g5 := f5
      exact fin2 g5 X4 g.size (H4.frame f5' fun y hy e0 => nz4 (e0 ▸ hy)) ((StepF.no fp s4).fresh f5' fun y e0 => by omega) d5 (f5'.get (s4.fr.get (fp.get d3 id) (fun q => n3 (.inl q))) (by omega)) (f5'.get (s4.fr.get (fp.get hbg id) (fun q => nb3 (.inl q))) (by omega)) (Nat.le_refl _)
  have fp : Fr No h3 (h3.push (.cells daemon_Deed.S.z.arr 39)) := Fr.push _ _
  have st : daemon_Deed.STp (h3.push (.cells daemon_Deed.S.z.arr 39)) ⟨h3.size, 0, none⟩ (ddS ((k + 1 : Nat) : Int) request_Request.S.z (eD x.ses) reply_Reply.S.z 0) fun g => J (some ⟨h3.size, 0, none⟩) g :=
    daemon_Deed.setp push_new fun g d5 f5 _ => fin g h3.size (fp.fresh f5 fun y e0 => Nat.le_of_eq (Eq.symm e0)) d5 (Nat.le_refl _)
  exact ⟨Con.session_ok C3 ⟨_, rfl, (Fr.refl _ _).kp, newP_of ⟨fp.kp, st⟩⟩, newP_of ⟨fp.kp, Con.session_ok (C3.on fp) ⟨_, rfl, (Fr.refl _ _).kp, st⟩⟩, trivial⟩
theorem Answer0_ok (H : Dm h d X n e I D) (hq : ∀ y ∈ D.q, D.x.done < y.need) (hl : D.q.length ≤ 1000) (hk : ∀ g X', Dm g d X' n e I D → StepF X h X' g → R (.int .i64 0) g) : Cl 14 #[.pointer (some ⟨d, 0, none⟩)] h R := by
  obtain ⟨ZL, L, _, _⟩ := H.log
  obtain ⟨ZQ, Q, zq, goq⟩ := H.que
  refine daemon_Daemon_Answer.walk (made_ok H ⟨_, rfl, iteF rfl ⟨_, cell_at H.blk rfl, _, cell_at H.blk rfl, Flu.Done_ok L ⟨_, rfl, (Fr.refl _ _).kp, Pnd.Ready_ok Q hl fun g Z' ys po co Q' ey o2 db gp f xm xd => ⟨_, _, _, rfl, ?_⟩⟩⟩⟩)
  have e1 : D.q.filter (fun x => decide (x.need ≤ D.x.done)) = [] := List.filter_eq_nil_iff.2 fun y hy => by have := hq y hy; simp; omega
  have e2 : D.q.filter (fun x => !decide (x.need ≤ D.x.done)) = D.q := List.filter_eq_self.2 fun y hy => by have := hq y hy; simp; omega
  rw [e1] at ey
  rw [e2] at Q'
  obtain rfl := List.map_eq_nil_iff.1 ey
  have st : StepF ZQ h Z' g := by
    obtain ⟨xs, p, c, A, _⟩ := Q
    exact ⟨f.mono fun y _ e0 => (A.m y).2 (.inl e0), fun y hy => (xm y hy).imp (fun e0 => (A.m y).2 (.inl e0)) id, fun y hy => .inl (xd ▸ hy), fun y hy => xd ▸ hy⟩
  obtain ⟨X', H', st'⟩ := goq g Z' _ Q' st
  refine ⟨fun t g' => t = 0 ∧ g' = g, fun _ _ => 0, ⟨rfl, rfl⟩, ?_⟩
  rintro _ _ ⟨rfl, rfl⟩
  exact iteF rfl (hk _ X' H' st')
theorem Answer1_ok {r : RD} {need : Nat} (H : Dm h d X n e I D) (hq : D.q = [⟨k + 1, r.enc, need⟩]) (hn : need ≤ D.x.done) (hr : r.Right) (hb : r.b = []) (hx : D.cs[k]? = some (some x)) (hl : x.out.length ≤ 100000)
    (hk : ∀ g X', Dm g d X' n e I { D with q := [], cs := D.cs.set k (some { x with out := x.out ++ frameB r.enc }) } → StepF X h X' g → R (.int .i64 1) g) : Cl 14 #[.pointer (some ⟨d, 0, none⟩)] h R := by
  obtain ⟨ZL, L, _, _⟩ := H.log
  obtain ⟨ZQ, Q, zq, goq⟩ := H.que
  refine daemon_Daemon_Answer.walk (made_ok H ⟨_, rfl, iteF rfl ⟨_, cell_at H.blk rfl, _, cell_at H.blk rfl, Flu.Done_ok L ⟨_, rfl, (Fr.refl _ _).kp, Pnd.Ready_ok Q (by rw [hq]; exact Nat.le_add_left 1 999) fun g Z' ys po co Q' ey o2 db gp f xm xd => ⟨_, _, _, rfl, ?_⟩⟩⟩⟩)
  have e1 : D.q.filter (fun x => decide (x.need ≤ D.x.done)) = [⟨k + 1, r.enc, need⟩] := by rw [hq]; simp [hn]
  have e2 : D.q.filter (fun x => !decide (x.need ≤ D.x.done)) = [] := by rw [hq]; simp [hn]
  rw [e1] at ey
  rw [e2] at Q'
  obtain ⟨y, rfl⟩ : ∃ y, ys = [y] := by
    have l1 := congrArg List.length ey
    rw [List.length_map] at l1
    exact List.length_eq_one_iff.1 l1
  have ey' : y.pe = ⟨k + 1, r.enc, need⟩ := by simpa using ey
  have t1 : y.to = k + 1 := congrArg PE.to ey'
  have t2 : y.b.b = r.enc := congrArg PE.data ey'
  have st : StepF ZQ h Z' g := by
    obtain ⟨xs, p, c, A, _⟩ := Q
    exact ⟨f.mono fun y _ e0 => (A.m y).2 (.inl e0), fun y hy => (xm y hy).imp (fun e0 => (A.m y).2 (.inl e0)) id, fun y hy => .inl (xd ▸ hy), fun y hy => xd ▸ hy⟩
  obtain ⟨X', H', st'⟩ := goq g Z' [] Q' st
  refine ⟨fun t g' => (t = 0 ∧ g' = g) ∨ (t = 1 ∧ ∃ X2, Dm g' d X2 n e I { D with q := [], cs := D.cs.set k (some { x with out := x.out ++ frameB r.enc }) } ∧ StepF X h X2 g'), fun t _ => 1 - t.toNat, .inl ⟨rfl, rfl⟩, ?_⟩
  rintro _ g1 (⟨rfl, rfl⟩ | ⟨rfl, X2, H2, st2⟩)
  · obtain ⟨pb, poff, rfl⟩ := o2.addr Nat.one_pos
    have hh := Own.heldAt (i := 0) (enc := penc) (xs := [y]) o2 penc_len rfl
    refine iteT rfl ⟨⟨Int.le_refl 0, Int.one_pos⟩, onSome_some.2 (pend_Entry.ldAp (x := y.S) hh (pend_Entry.newp (x := y.S) fun b h2 eb hb2 f2 => ⟨_, _, _, cell_at hb2 rfl, ?_⟩))⟩
    have ry := (db y (by simp)).row.frame f2 (fun _ _ => id)
    rw [t2] at ry
    have el := enc_len hr.2.2.2.2.2.1
    refine Rep.read_ok ry (congrArg List.length t2) (by omega) (fun r' er h3 p3 c3 o3 f3 g3 => ?_) (fun q => by rw [decR_enc hr] at q; cases q)
    obtain rfl : r = r' := by rw [decR_enc hr] at er; exact Option.some.inj er
    refine reply_Reply.ex (rS r p3 c3) ⟨_, rfl, reply_Reply.newp (x := rS r p3 c3) fun b4 h4 e4 hb4 f4 => ?_⟩
    have F4 := (f2.tt f3).tt f4
    have H4 := H'.on F4
    have L4 := lookV_P mapTy H4.map ((k + 1 : Nat) : Int)
    have g0 := gget_cl (c := I.c) (k := 0) hx
    rw [Nat.zero_add] at g0
    rw [show ({ D with q := [] } : DM).cs = D.cs from rfl, g0, ← t1] at L4
    obtain ⟨Z5, C, zc, goc⟩ := H4.conn (k := k) (x := x) hx
    have rb : Row h4 p3 (bc r.b) := by rw [hb]; exact .inl rfl
    have u4 := F4.1
    have u2 := f2.1
    have lb := (Array.getElem?_eq_some_iff.1 hb2).1
    have dl := (Array.getElem?_eq_some_iff.1 H'.blk).1
    refine ⟨_, cell_at H4.blk rfl, _, cell_at (f4.get (f3.get hb2 id) id) rfl, _, L4, reply_Reply.ldp hb4 (Con.Answer_ok C hr rb hl fun g5 Z6 C5 st5 => ?_)⟩
    obtain ⟨X5, H5, s5⟩ := goc g5 Z6 _ C5 st5
    have nb4 := H'.out (b := b) (by omega)
    refine ⟨_, rfl, fun p hp y e0 hy => ?_, .inr ⟨rfl, ?_⟩, Nat.zero_lt_one⟩
    · simp at hp
      rcases hp with rfl | rfl
      · cases e0
        exact s5.fr.2 _ hy (fun q => nb4 (.inl q))
      · cases e0
        rw [H5.blk, H4.blk]
        show some (Obj.cells #[_, _, .int .i64 (((D.cs.set k _).length + 1 : Nat) : Int), _, _] _ _) = _
        rw [List.length_set]
    · exact ⟨X5, H5, (st'.on F4).trans s5⟩
  · exact iteF rfl (hk g1 X2 H2 st2)

end Dae
end
section
open Go.Fields
namespace Dae
open Jnl Dsk Con Pnd Opn Sup
variable {h h0 h':Heap} {R:TyP} {d n k t l now s:Nat} {X:Ft} {e:Eid.Ev} {D:DM} {I:DI} {x:CN}
variable {b:Nat} {y:daemon_Deed.S}
abbrev e7 : Eid.Ev := ⟨true, 7, 0, ⟨#[]⟩, ⟨#[]⟩⟩
theorem self_ok (hk : ∀ h', Fr No h h' → R (Eid.ev5 e7) h') : Cl 11 #[] h R := law26_Self.walk (eid_Eid.newp fun _ h1 _ hb f1 => eid_Eid.ldp hb (hk h1 f1))
theorem may7 : Stt.mayE e7 := ⟨by kernel_rfl, fun e => by cases congrArg Eid.Ev.ipn e⟩
def dsF (n : Nat) : DS := ((newD n).put 1 (supB ⟨1, 0, 0⟩)).sync
theorem Fresh_ok (h4 : 4 ≤ n) (h5 : n ≤ 4096) (hk : ∀ g d X I, Dm g d X n e7 I ⟨jn0, dsF n, [], [], [], 0⟩ → UpF h X g → R (pt d) g) : Cl 4 #[.int .i64 (n : Int)] h R := by
  refine law32_Fresh.walk (Dsk.new_ok h4 h5 fun h1 d0 XD D1 u1 => ⟨_, _, rfl, JoinP.of fun J hJ => iteF rfl ?_⟩)
  subst hJ
  refine iteF rfl (self_ok fun h2 f2 => eid_Eid.ex e7.s ⟨rfl, Flu.Format_ok may7 (D1.on f2) h4 h5 (Nat.zero_le _) fun h3 l XL L3 f3 g3 => ⟨_, _, rfl, JoinP.of fun J1 hJ1 => iteF rfl (iteF rfl ?_)⟩⟩)
  obtain ⟨_, _, _, _, _, _, G, _⟩ := id L3
  refine Flu.State_ok G ⟨_, rfl, ?_⟩
  subst hJ1
  have U2 : Fr No h h3 := (u1.fr.tt f2).fresh f3 fun y hy => u1.ge y (.inl hy)
  have z2 := (u1.fr.tt f2).1
  have z3 := U2.1
  refine iteF rfl (New_ok (A := []) (now := 0) L3 (Nat.zero_le _) fun h4 d X I H4 f4 g4 => ⟨_, _, rfl, iteF rfl (hk h4 d X I H4 ⟨U2.tt f4, fun y hy => ?_⟩)⟩)
  rcases g4 y hy with q | q
  · rcases g3 y q with q | q
    · exact u1.ge y (.inl q)
    · omega
  · omega
abbrev s1 (t : Nat) : Ses.Ses := ⟨1, t, true, false, [], []⟩
theorem open1 (t1 : 1 ≤ t) (t2 : t ≤ 2147483648) : Ses.openE [] t = 0 := by unfold Ses.openE; rw [if_neg (by omega)]; rfl
theorem openA1 (t1 : 1 ≤ t) (t2 : t ≤ 2147483648) : Ses.openA [] t = [s1 t] := by unfold Ses.openA; rw [if_pos (open1 t1 t2)]; rfl
theorem rd51 (t1 : 1 ≤ t) (t2 : t ≤ 2147483648) : rd5 [] t = ⟨5, 0, 1, 0, t, []⟩ := by unfold rd5 Ses.openN; rw [open1 t1 t2]; rfl
theorem bnd1 (t1 : 1 ≤ t) (t2 : t ≤ 2147483648) : bnd x [] t = { x with ses := 1 } := by unfold bnd; rw [if_pos (open1 t1 t2)]; rfl
theorem ok1 (t1 : 1 ≤ t) (t2 : t ≤ 2147483648) : Ses.okA [s1 t] := by rw [← openA1 t1 t2]; exact Ses.okA.nil.open t
def Kb (h : Heap) (X : Ft) (b : Nat) (y : daemon_Deed.S) : Prop := daemon_Deed.atp h b y ∧ ¬ (X.M b ∨ X.D b)
theorem Kb.step {X' : Ft} (B : Kb h X b y) (st : StepF X h X' h') : Kb h' X' b y :=
  ⟨st.fr.get B.1 (fun q => B.2 (.inl q)), box_out B.2 (Array.getElem?_eq_some_iff.1 B.1).1 st⟩
theorem Kb.on (B : Kb h X b y) (f : Fr No h h') : Kb h' X b y := ⟨f.get B.1 id, B.2⟩
theorem BytesC_ok {b : List UInt8} {p : Option Addr} {l0 k0 : Nat} {lf : List UInt8} {ee : Nat} (he : Stt.mayE e) (hv : 0 ≤ e.svc) (ok : Ses.okA D.A) (H : Dm h d X n e I D) (hn : D.now = 0) (hx : D.cs[k]? = some (some x)) (hq : D.q = []) (h0 : x.clo = 0) (hd : x.derr = 0)
    (s1 : 1 ≤ x.ses) (s2 : x.ses ≤ 1099511627776) (hf : D.x.fits n ((eDB x.ses).length + 1 + 16)) (hxa : D.x.all ≤ 1000000000) (row : Row h p (bc b)) (hl : l0 = b.length) (hb : (x.left ++ b).length ≤ 100000)
    (hF : Frm.feedP (x.left ++ b).length (x.left ++ b) = (List.replicate 0 [5, 11], lf, ee)) (hee : ee ≠ 0) (h8 : x.w ≤ 8)
    (hk : ∀ g X' y, Dm g d X' n e I { D with x := D.x.app (69 :: eDB x.ses), A := Ses.downA D.A (x.ses : Int), cs := D.cs.set k none } → StepF X h X' g → R (.tuple #[(y : daemon_Deed.S).agg, .int .i64 (ee : Int)]) g) :
    Cl 7 #[.pointer (some ⟨d, 0, none⟩), .int .i64 ((k + 1 : Nat) : Int), .slice p l0 k0] h R := by
  have kl := (List.getElem?_eq_some_iff.1 hx).1
  refine daemon_Daemon_Bytes.walk (daemon_Deed.boxp (x := daemon_Deed.S.z) fun bx h1 e1 hbx f1 => find_ok (H.on f1) hx ⟨_, _, rfl, iteF rfl ?_⟩)
  obtain ⟨Z, C, _, go⟩ := (H.on f1).conn hx
  have u1 := f1.1
  have lb := (Array.getElem?_eq_some_iff.1 hbx).1
  refine Con.Feed_ok C h0 hd (row.frame f1 (fun _ _ => id)) hl hb hF h8 fun h2 Z2 C2 st2 => ⟨_, rfl, iteT (by simp; exact hee) ?_⟩
  obtain ⟨X2, H2, st⟩ := go h2 Z2 _ C2 st2
  have ex : x.fed 0 lf ee = { x with left := lf, derr := ee, w := 0, clo := ee } := if_neg hee
  rw [ex] at H2
  have nb := H.out (b := bx) (by omega)
  have nb2 := box_out nb lb st
  have u2 := st.fr.1
  refine Close_ok (D := { D with cs := D.cs.set k (some { x with left := lf, derr := ee, w := 0, clo := ee }) }) (x := { x with left := lf, derr := ee, w := 0, clo := ee }) he hv ok H2 hn (List.getElem?_set_self kl) hq hee s1 s2 hf hxa fun h3 X3 y H3 st3 => daemon_Deed.ex y ⟨_, rfl, daemon_Deed.newp (x := y) fun b4 h4 e4 hb4 f4 => daemon_Deed.ldp hb4 ?_⟩
  have hbx3 := st3.fr.get (st.fr.get hbx (fun q => nb (.inl q))) (fun q => nb2 (.inl q))
  have nb3 := box_out nb2 (by omega) st3
  refine daemon_Deed.setp (x := y) (f4.get hbx3 id) fun h5 d5 f5 _ => daemon_Deed.ldp d5 (hk h5 X3 y ?_ (((((StepF.no f1 st).trans st3).on f4)).fresh f5 fun z q => by have : z = bx := q; omega))
  have ec : (D.cs.set k (some { x with left := lf, derr := ee, w := 0, clo := ee })).set k none = D.cs.set k none := List.set_set ..
  rw [ec] at H3
  exact (H3.on f4).frame f5 fun z hz (q : z = bx) => nb3 (q ▸ hz)

end Dae
end
section
open Go.Fields
namespace Dae
open Jnl Dsk Con Pnd Opn Sup
variable {h h0 h':Heap} {R:TyP} {d n i j k o t l now:Nat} {X:Ft} {e:Eid.Ev} {D:DM} {I:DI} {x:CN}
abbrev opB : List UInt8 := [0, 2, 5, 11]
def jnA (r : List UInt8) : JN := jn0.app r
def itS (p : JN × DS) : Nat → JN × DS
  | 0 => p
  | i + 1 => (itS p i).1.step 40 (itS p i).2
theorem jnA_step {r : List UInt8} (hr : r.length ≤ 100) (W : DS) (hW : W.W = []) :
    ((itS (jnA r, W) 1).1.stage = 1 ∧ (itS (jnA r, W) 1).1.next = [] ∧ (itS (jnA r, W) 1).1.gen = 1 ∧ (itS (jnA r, W) 1).2.W.length ≤ 102) ∧ ((itS (jnA r, W) 2).1.stage = 2 ∧ (itS (jnA r, W) 2).1.next = [] ∧ (itS (jnA r, W) 2).1.gen = 1 ∧ (itS (jnA r, W) 2).2.W.length = 0) ∧
      ((itS (jnA r, W) 3).1.stage = 3 ∧ (itS (jnA r, W) 3).1.next = [] ∧ (itS (jnA r, W) 3).1.gen = 1 ∧ (itS (jnA r, W) 3).2.W.length = 1) ∧ ((itS (jnA r, W) 4).1.stage = 0 ∧ (itS (jnA r, W) 4).1.next = [] ∧ (itS (jnA r, W) 4).1.len = r.length + 2 ∧ (itS (jnA r, W) 4).1.done = 1 ∧ (itS (jnA r, W) 4).1.all = 1) := by
  refine ⟨⟨rfl, rfl, rfl, ?_⟩, ⟨rfl, rfl, rfl, rfl⟩, ⟨rfl, rfl, rfl, rfl⟩, ⟨rfl, rfl, ?_, rfl, rfl⟩⟩
  · have := Area.putA_W (hv 40 0).first (jnA r).next.length W 0 (jnA r).next
    rw [hW] at this
    have l : (jnA r).next.length = r.length + 2 := by show ([] ++ frameB r).length = _; rw [List.nil_append, frameB_len]
    rw [l] at this
    simp at this
    show (Area.putA (hv 40 0).first (jnA r).next.length W 0 (jnA r).next).W.length ≤ 102
    rw [l]
    omega
  · show 0 + ([] ++ frameB r).length = _
    rw [List.nil_append, frameB_len]
    omega
abbrev it (i : Nat) : JN × DS := itS (jnA (69 :: eOB 77), dsF 40) i
theorem fits_le {y : JN} {m : Nat} (hn : 2432 ≤ room n) (h0 : y.stage = 0) (m1 : 1 ≤ m) (hm : m + y.len + y.next.length ≤ 2000) : y.fits n m := by
  refine ⟨m1, by omega, ?_⟩
  unfold JN.tl
  rw [if_pos h0]
  show m + 2 + (y.len + y.next.length) ≤ room n
  omega
theorem alive_ok (hk : ∀ g, Fr No h g → R (.bool true) g) : Cl 5 #[] h R := by
  refine law32_alive.walk (Fresh_ok (n := 40) (by decide) (by decide) fun h1 d X1 I1 H1 u1 => ⟨_, rfl, iteF rfl (Connect_ok H1 (by decide) fun h2 X2 I H2 st2 => ⟨_, _, rfl, newP_of ?_⟩)⟩)
  replace H2 : Dm h2 d X2 40 e7 I ⟨jn0, dsF 40, [], [], [some cn0], 0⟩ := H2
  have r : Row (h2.push (.cells #[.int .u8 0, .int .u8 2, .int .u8 5, .int .u8 11] 5)) (some ⟨h2.size, 0, none⟩) (bc opB) := row_new (cs := bc opB)
  have f3 : Fr No h2 (h2.push (.cells #[.int .u8 0, .int .u8 2, .int .u8 5, .int .u8 11] 5)) := Fr.push _ _
  have u2 := (u1.step st2).on f3
  refine Bytes_ok (k := 0) (x := cn0) (b := opB) (k1 := 1) (lf := []) (H2.on f3) rfl rfl rfl r rfl (by decide) rfl (by decide) fun h4 X4 H4 st4 => daemon_Deed.ex daemon_Deed.S.z ⟨_, rfl, daemon_Deed.newp (x := daemon_Deed.S.z) fun b1 h5 e5 d5 f5 => ?_⟩
  replace H4 : Dm h4 d X4 40 e7 I ⟨jn0, dsF 40, [], [], [some ⟨[], 0, 1, 0, [], 0⟩], 0⟩ := H4
  have u5 := (u2.step st4).on f5
  have el := eOB_len 77
  refine RunO_ok (k := 0) (t := 77) (x := ⟨[], 0, 1, 0, [], 0⟩) may7 (Int.le_refl 0) Ses.okA.nil (H4.on f5) rfl rfl (by decide) (by decide) rfl rfl (by decide) (by decide) (fits_le (by decide) rfl (by omega) (by show _ + 0 + 0 ≤ _; omega)) (Nat.zero_le _) (by decide) (by decide) fun h6 X6 H6 st6 => ?_
  replace H6 : Dm h6 d X6 40 e7 I ⟨jnA (69 :: eOB 77), dsF 40, Ses.openA [] 77, [⟨1, (rd5 [] 77).enc, 1⟩], [some (bnd ⟨[], 0, 0, 0, [], 0⟩ [] 77)], 0⟩ := H6
  dsimp only
  rw [openA1 (by decide) (by decide), rd51 (by decide) (by decide), bnd1 (by decide) (by decide)] at H6
  rw [rd51 (by decide) (by decide)]
  refine daemon_Deed.ex (ddS ((0 + 1 : Nat) : Int) rO (eO 77) (rS ⟨5, 0, 1, 0, 77, []⟩ none 0) ((0 + 1 : Nat) : Int)) ⟨_, rfl, daemon_Deed.newp (x := ddS ((0 + 1 : Nat) : Int) rO (eO 77) (rS ⟨5, 0, 1, 0, 77, []⟩ none 0) ((0 + 1 : Nat) : Int)) fun b2 h7 e7' d7 f7 => ?_⟩
  have k7 : Kb h7 X6 b2 _ := ⟨d7, H6.out (by omega)⟩
  have u7 := (u5.step st6).on f7
  refine Answer0_ok (H6.on f7) (fun y hy => by rw [List.mem_singleton.1 hy]; exact Nat.zero_lt_one) (by decide) fun h8 X8 H8 st8 => ⟨_, rfl, ?_⟩
  obtain ⟨⟨a1, a2, a3, a4⟩, ⟨b1', b2', b3, b4⟩, ⟨c1, c2, c3, c4⟩, ⟨g1, g2, g3, g4, g5⟩⟩ := jnA_step (r := 69 :: eOB 77) (by rw [List.length_cons]; omega) (dsF 40) rfl
  refine ⟨fun i g => ∃ (j : Nat) (X : Ft), i = (j : Int) ∧ j ≤ 4 ∧ Dm g d X 40 e7 I ⟨(it j).1, (it j).2, [s1 77], [⟨1, (⟨5, 0, 1, 0, 77, []⟩ : RD).enc, 1⟩], [some ⟨[], 0, 0, 1, [], 0⟩], 0⟩ ∧ UpF h X g ∧ Kb g X b2 (ddS ((0 + 1 : Nat) : Int) rO (eO 77) (rS ⟨5, 0, 1, 0, 77, []⟩ none 0) ((0 + 1 : Nat) : Int)), fun i _ => 4 - i.toNat, ⟨0, X8, rfl, by decide, H8, u7.step st8, k7.step st8⟩, ?_⟩
  rintro _ g ⟨j, X9, rfl, hj, H9, u9, k9⟩
  by_cases c : j < 4
  · have key : ((it j).1.stage = 0 → (it j).1.next ≠ []) ∧ (it j).1.gen < 1099511627776 ∧ (it j).2.W.length + (it j).1.next.length ≤ 100000 := by
      rcases j with _ | _ | _ | _ | j
      · refine ⟨fun _ q => ?_, by decide, ?_⟩
        · have := congrArg List.length q
          change ([] ++ frameB (69 :: eOB 77)).length = 0 at this
          rw [List.nil_append, frameB_len] at this
          omega
        · show (dsF 40).W.length + ([] ++ frameB (69 :: eOB 77)).length ≤ _
          rw [List.nil_append, frameB_len, List.length_cons, show (dsF 40).W.length = 0 from rfl]
          omega
      · exact ⟨fun q => absurd (a1.symm.trans q) (by decide), by rw [show (it 1).1.gen = 1 from a3]; decide, by rw [show (it 1).1.next = [] from a2]; exact Nat.le_trans a4 (by decide)⟩
      · exact ⟨fun q => absurd (b1'.symm.trans q) (by decide), by rw [show (it 2).1.gen = 1 from b3]; decide, by rw [show (it 2).1.next = [] from b2', show (it 2).2.W.length = 0 from b4]; decide⟩
      · exact ⟨fun q => absurd (c1.symm.trans q) (by decide), by rw [show (it 3).1.gen = 1 from c3]; decide, by rw [show (it 3).1.next = [] from c2, show (it 3).2.W.length = 1 from c4]; decide⟩
      · omega
    refine iteT (decide_eq_true (by omega)) (Step_ok H9 key.1 key.2.1 key.2.2 fun g2 X10 H10 st10 => ⟨_, _, rfl, ⟨j + 1, X10, by rw [wrap_id (by omega) (by omega)]; rfl, by omega, H10, u9.step st10, k9.step st10⟩, ?_⟩)
    show 4 - Int.toNat (IntKind.wrap .i64 ((j : Int) + 1)) < 4 - Int.toNat (j : Int)
    rw [wrap_id (by omega) (by omega)]
    omega
  obtain rfl : j = 4 := by omega
  have rr : (⟨5, 0, 1, 0, 77, []⟩ : RD).Right := by decide
  have el6 : (⟨5, 0, 1, 0, 77, []⟩ : RD).enc.length = 6 := by decide
  refine iteF rfl (Answer1_ok (k := 0) (r := ⟨5, 0, 1, 0, 77, []⟩) (need := 1) (x := ⟨[], 0, 0, 1, [], 0⟩) H9 rfl (Nat.le_of_eq g4.symm) rr rfl rfl (Nat.zero_le _) fun g1' X10 H10 st10 => ⟨_, rfl, ?_⟩)
  replace H10 : Dm g1' d X10 40 e7 I ⟨(it 4).1, (it 4).2, [s1 77], [], [some ⟨[], 0, 0, 1, [] ++ frameB (⟨5, 0, 1, 0, 77, []⟩ : RD).enc, 0⟩], 0⟩ := H10
  refine Out_ok (k := 0) (x := ⟨[], 0, 0, 1, [] ++ frameB (⟨5, 0, 1, 0, 77, []⟩ : RD).enc, 0⟩) H10 rfl fun g2' X11 p c H11 st11 => ⟨_, _, _, _, rfl, newP_of ?_⟩
  replace H11 : Dm g2' d X11 40 e7 I ⟨(it 4).1, (it 4).2, [s1 77], [], [some ⟨[], 0, 0, 1, [], 0⟩], 0⟩ := H11
  have r2 : Row (g2'.push (.cells #[.int .u8 0, .int .u8 0] 5)) (some ⟨g2'.size, 0, none⟩) (bc [0, 0]) := row_new (cs := bc [0, 0])
  have f12 : Fr No g2' (g2'.push (.cells #[.int .u8 0, .int .u8 0] 5)) := Fr.push _ _
  have u12 := ((u9.step st10).step st11).on f12
  have k12 := ((k9.step st10).step st11).on f12
  have dl := eDB_len 1
  refine BytesC_ok (k := 0) (b := [0, 0]) (lf := []) (ee := 3) (x := ⟨[], 0, 0, 1, [], 0⟩) may7 (Int.le_refl 0) (ok1 (by decide) (by decide)) (H11.on f12) rfl rfl rfl rfl rfl (by decide) (by decide) (fits_le (by decide) g1 (by omega) ?_) (by rw [show (it 4).1.all = 1 from g5]; decide) r2 rfl (by decide) rfl (by decide) (by decide) fun g3' X13 y H13 st13 => daemon_Deed.ex y ⟨_, rfl, daemon_Deed.newp (x := y) fun b4 h14 e14 d14 f14 => New_nil (now := 0) ⟨_, _, rfl, ?_⟩⟩
  · rw [show (it 4).1.len = (69 :: eOB 77).length + 2 from g3, show (it 4).1.next = [] from g2]
    simp
    omega
  have k14 := (k12.step st13).on f14
  have u14 := (u12.step st13).on f14
  refine iteT rfl (iteT rfl (iteT rfl ⟨_, cell_at k14.1 rfl, iteT rfl ⟨_, cell_at k14.1 rfl, iteT rfl ⟨_, cell_at k14.1 rfl, iteT rfl ⟨_, cell_at k14.1 rfl, iteT rfl (iteT rfl (iteT rfl (iteT rfl (iteT (decide_eq_true ?_) (iteT rfl (iteT rfl (Conns_nil (H13.on f14) rfl fun g15 f15 => ⟨_, _, _, rfl, iteT rfl (hk g15 (u14.fr.tt f15))⟩)))))))⟩⟩⟩⟩))
  show ((([] ++ frameB (⟨5, 0, 1, 0, 77, []⟩ : RD).enc).length : Nat) : Int) > 6
  rw [List.nil_append, frameB_len, el6]
  decide
abbrev s2 (t : Nat) : Ses.Ses := ⟨2, t, true, false, [], []⟩
variable {a b : Nat}
theorem open2 (t1 : 1 ≤ a) (t2 : a ≤ 2147483648) : Ses.openE [s1 a] a = 12 := by unfold Ses.openE; rw [if_neg (by omega), if_pos (by simp [Ses.hasTk])]
theorem open3 (t1 : 1 ≤ b) (t2 : b ≤ 2147483648) (ne : a ≠ b) : Ses.openE [s1 a] b = 0 := by unfold Ses.openE; rw [if_neg (by omega), if_neg (by simp [Ses.hasTk]; exact ne)]; rfl
theorem openA2 (t1 : 1 ≤ a) (t2 : a ≤ 2147483648) : Ses.openA [s1 a] a = [s1 a] := by unfold Ses.openA; rw [if_neg (by rw [open2 t1 t2]; decide)]
theorem openA3 (t1 : 1 ≤ b) (t2 : b ≤ 2147483648) (ne : a ≠ b) : Ses.openA [s1 a] b = [s1 a, s2 b] := by unfold Ses.openA; rw [if_pos (open3 t1 t2 ne)]; rfl
theorem rd52 (t1 : 1 ≤ a) (t2 : a ≤ 2147483648) : rd5 [s1 a] a = ⟨5, 12, 0, 0, 0, []⟩ := by unfold rd5; rw [open2 t1 t2]; rfl
theorem rd53 (t1 : 1 ≤ b) (t2 : b ≤ 2147483648) (ne : a ≠ b) : rd5 [s1 a] b = ⟨5, 0, 2, 0, b, []⟩ := by unfold rd5 Ses.openN; rw [open3 t1 t2 ne]; rfl
theorem bnd2 (t1 : 1 ≤ a) (t2 : a ≤ 2147483648) : bnd x [s1 a] a = x := by unfold bnd; rw [if_neg (by rw [open2 t1 t2]; decide)]
theorem bnd3 (t1 : 1 ≤ b) (t2 : b ≤ 2147483648) (ne : a ≠ b) : bnd x [s1 a] b = { x with ses := 2 } := by unfold bnd; rw [if_pos (open3 t1 t2 ne)]; rfl
def Rb (h : Heap) (X : Ft) (p : Option Addr) (d : List UInt8) : Prop := Row h p (bc d) ∧ ∀ y, inBlk p y → y < h.size ∧ ¬ (X.M y ∨ X.D y)
theorem Rb.step {X' : Ft} {p : Option Addr} {c : List UInt8} (B : Rb h X p c) (st : StepF X h X' h') : Rb h' X' p c :=
  ⟨B.1.frame st.fr (fun a e q => (B.2 a.block ⟨a, e, rfl⟩).2 (.inl q)), fun y hy => ⟨Nat.lt_of_lt_of_le (B.2 y hy).1 st.fr.1, box_out (B.2 y hy).2 (B.2 y hy).1 st⟩⟩
theorem Rb.on {p : Option Addr} {c : List UInt8} (B : Rb h X p c) (f : Fr No h h') : Rb h' X p c := B.step (StepF.of_no f)
theorem two_ok {q : Option Addr} {K : Option Addr → Nat → Nat → Heap → Prop} (B : Row h q (bc opB)) (hk : ∀ g p c, Row g p (bc (opB ++ opB)) → Fr No h g → K p 8 c g) :
    NewP h (.cells #[] 5) fun b_1 h_7 => denSem Tryz.prog (Builtin.append_ #[26, 26] 26 #[.slice (some ⟨b_1, 0, none⟩) 0 0, .slice q 4 4]) h_7 fun v_4 h_8 => ∃ p l c, v_4 = .slice p l c ∧
      denSem Tryz.prog (Builtin.append_ #[26, 26] 26 #[.slice p l c, .slice q 4 4]) h_8 fun v_5 h_9 => ∃ p l c, v_5 = .slice p l c ∧ K p l c h_9 := by
  refine newP_of ?_
  have f1 : Fr No h (h.push (.cells #[] 5)) := Fr.push _ _
  refine den_appendS (bs := []) Fld.tU Fld.uU ⟨rfl, .inr ⟨.inl rfl, rfl⟩⟩ (B.frame f1 (fun _ _ => id)) rfl (by decide) (by decide) fun p c g o f gr => ⟨_, _, _, rfl, ?_⟩
  have nb : ∀ y, inBlk (some ⟨h.size, 0, none⟩) y → h.size ≤ y := fun y ⟨a, e, hy⟩ => by cases e; exact hy ▸ Nat.le_refl _
  have u1 := f1.1
  have F : Fr No h g := f1.fresh f nb
  have n2 : ∀ y, inBlk p y → h.size ≤ y := fun y hy => (gr y hy).elim (nb y) (fun q => by omega)
  refine den_appendS (bs := opB) Fld.tU Fld.uU (Src.own o rfl) (B.frame F (fun _ _ => id)) rfl (by decide) (by decide) fun p2 c2 g2 o2 f2 gr2 => ⟨_, _, _, rfl, hk g2 p2 c2 o2.row' (F.fresh f2 n2)⟩
theorem _root_.Go.Proofs.YtaphjamdblgiiaaGreatDoor.daemonTokens_ok (draw other : Int) (_ : (Lit.int .u64 draw).wf = true) (_ : (Lit.int .u64 other).wf = true) : LawH Tryz.prog 3 #[.int .u64 draw, .int .u64 other] h := by
  unfold LawH
  generalize hR : (fun (v : Value) h' => v = .bool true ∧ Fr No h h') = R
  have hk : ∀ h', Fr No h h' → R (.bool true) h' := fun h' hf => by rw [← hR]; exact ⟨rfl, hf⟩
  clear hR
  refine law32_DaemonTokens.walk (Fresh_ok (n := 60) (by decide) (by decide) fun h1 d X1 I1 H1 u1 => ⟨_, rfl, JoinP.of fun J hJ => iteF rfl ?_⟩)
  have out : J true h1 := by subst hJ; exact iteT rfl (iteT rfl (alive_ok fun g f => ⟨_, rfl, hk g (u1.fr.tt f)⟩))
  by_cases c1 : draw < 1
  · exact iteT (decide_eq_true c1) out
  refine iteF (decide_eq_false c1) ?_
  by_cases c2 : draw > 2147483648
  · exact iteT (decide_eq_true c2) out
  refine iteF (decide_eq_false c2) ?_
  by_cases c3 : other < 1
  · exact iteT (decide_eq_true c3) out
  refine iteF (decide_eq_false c3) ?_
  by_cases c4 : other > 2147483648
  · exact iteT (decide_eq_true c4) out
  refine iteF (decide_eq_false c4) ?_
  by_cases c5 : draw = other
  · rw [show (draw == other) = true from beq_iff_eq.2 c5]; exact out
  rw [show (draw == other) = false from beq_eq_false_iff_ne.2 c5]
  clear out
  subst hJ
  obtain ⟨a, rfl⟩ : ∃ a : Nat, draw = (a : Int) := ⟨draw.toNat, by omega⟩
  obtain ⟨b, rfl⟩ : ∃ b : Nat, other = (b : Int) := ⟨other.toNat, by omega⟩
  have ne : a ≠ b := by omega
  have a1 : 1 ≤ a := by omega
  have a2 : a ≤ 2147483648 := by omega
  have b1 : 1 ≤ b := by omega
  have b2 : b ≤ 2147483648 := by omega
  have la := eOB_len a
  have lb := eOB_len b
  refine iteF rfl (newP_of ?_)
  have r : Row (h1.push (.cells #[.int .u8 0, .int .u8 2, .int .u8 5, .int .u8 11] 5)) (some ⟨h1.size, 0, none⟩) (bc opB) := row_new (cs := bc opB)
  have f2 : Fr No h1 (h1.push (.cells #[.int .u8 0, .int .u8 2, .int .u8 5, .int .u8 11] 5)) := Fr.push _ _
  have z2 : (h1.push (.cells #[.int .u8 0, .int .u8 2, .int .u8 5, .int .u8 11] 5)).size = h1.size + 1 := Array.size_push _
  have rb : Rb (h1.push (.cells #[.int .u8 0, .int .u8 2, .int .u8 5, .int .u8 11] 5)) X1 (some ⟨h1.size, 0, none⟩) opB := ⟨r, fun y ⟨a, e, hy⟩ => by cases e; exact ⟨by show _ < _; rw [← hy, z2]; exact Nat.lt_succ_self _, H1.out (Nat.le_of_eq hy)⟩⟩
  have H2 := H1.on f2
  have u2 := u1.on f2
  generalize h1.push (.cells #[.int .u8 0, .int .u8 2, .int .u8 5, .int .u8 11] 5) = h2 at H2 u2 rb ⊢
  clear r f2 z2
  refine Connect_ok H2 (by decide) fun h3 X3 I3 H3 st3 => ⟨_, _, rfl, Connect_ok H3 (by decide) fun h4 X4 I H4 st4 => ⟨_, _, rfl, ?_⟩⟩
  replace H4 : Dm h4 d X4 60 e7 I ⟨jn0, dsF 60, [], [], [some cn0, some cn0], 0⟩ := H4
  have u4 := (u2.step st3).step st4
  have rb4 := (rb.step st3).step st4
  refine two_ok rb4.1 fun h5 p5 k5 r5 f5 => ?_
  refine Bytes_ok (k := 0) (x := cn0) (b := opB ++ opB) (k1 := 2) (lf := []) (H4.on f5) rfl rfl rfl r5 rfl (by decide) rfl (by decide) fun h6 X6 H6 st6 => daemon_Deed.ex daemon_Deed.S.z ⟨_, rfl, ?_⟩
  replace H6 : Dm h6 d X6 60 e7 I ⟨jn0, dsF 60, [], [], [some ⟨[], 0, 2, 0, [], 0⟩, some cn0], 0⟩ := H6
  have rb6 := (rb4.on f5).step st6
  have u6 := (u4.on f5).step st6
  refine two_ok rb6.1 fun h7 p7 k7 r7 f7 => ?_
  refine Bytes_ok (k := 1) (x := cn0) (b := opB ++ opB) (k1 := 2) (lf := []) (H6.on f7) rfl rfl rfl r7 rfl (by decide) rfl (by decide) fun h8 X8 H8 st8 => daemon_Deed.ex daemon_Deed.S.z ⟨_, rfl, ?_⟩
  replace H8 : Dm h8 d X8 60 e7 I ⟨jn0, dsF 60, [], [], [some ⟨[], 0, 2, 0, [], 0⟩, some ⟨[], 0, 2, 0, [], 0⟩], 0⟩ := H8
  have u8 := (u6.on f7).step st8
  have w2 : ∀ n, (⟨[], 0, n, 0, [], 0⟩ : CN).w = n := fun _ => rfl
  refine RunO_ok (k := 0) (t := a) (x := ⟨[], 0, 2, 0, [], 0⟩) may7 (Int.le_refl 0) Ses.okA.nil H8 rfl rfl (by decide) (by decide) rfl rfl a1 a2 (fits_le (by decide) rfl (by omega) (by show _ + 0 + 0 ≤ _; omega)) (Nat.zero_le _) (by decide) (by decide) fun h9 X9 H9 st9 => ?_
  replace H9 : Dm h9 d X9 60 e7 I ⟨jnA (69 :: eOB a), dsF 60, Ses.openA [] a, [⟨1, (rd5 [] a).enc, 1⟩], [some (bnd ⟨[], 0, 1, 0, [], 0⟩ [] a), some ⟨[], 0, 2, 0, [], 0⟩], 0⟩ := H9
  dsimp only
  rw [openA1 a1 a2, rd51 a1 a2, bnd1 a1 a2] at H9
  rw [rd51 a1 a2]
  refine daemon_Deed.ex (ddS ((0 + 1 : Nat) : Int) rO (eO a) (rS ⟨5, 0, 1, 0, a, []⟩ none 0) ((0 + 1 : Nat) : Int)) ⟨_, rfl, daemon_Deed.newp (x := ddS ((0 + 1 : Nat) : Int) rO (eO a) (rS ⟨5, 0, 1, 0, a, []⟩ none 0) ((0 + 1 : Nat) : Int)) fun ba h10 e10 d10 f10 => ?_⟩
  have ka : Kb h10 X9 ba _ := ⟨d10, H9.out (by omega)⟩
  have u10 := (u8.step st9).on f10
  have n1 : (jnA (69 :: eOB a)).next.length ≤ 33 := by show ([] ++ frameB _).length ≤ _; rw [List.nil_append, frameB_len, List.length_cons]; omega
  refine RunO_ok (k := 1) (t := a) (x := ⟨[], 0, 2, 0, [], 0⟩) may7 (Int.le_refl 0) (ok1 a1 a2) (H9.on f10) rfl rfl (by decide) (by decide) rfl rfl a1 a2 (fits_le (by decide) rfl (by omega) (by show _ + 0 + (jnA (69 :: eOB a)).next.length ≤ _; omega)) (by show 1 ≤ 1000000000; decide) (by show 1 < 64; decide) (by decide) fun h11 X11 H11 st11 => ?_
  replace H11 : Dm h11 d X11 60 e7 I ⟨(jnA (69 :: eOB a)).app (69 :: eOB a), dsF 60, Ses.openA [s1 a] a, [⟨1, (⟨5, 0, 1, 0, a, []⟩ : RD).enc, 1⟩, ⟨2, (rd5 [s1 a] a).enc, 2⟩], [some ⟨[], 0, 1, 1, [], 0⟩, some (bnd ⟨[], 0, 1, 0, [], 0⟩ [s1 a] a)], 0⟩ := H11
  dsimp only
  rw [openA2 a1 a2, rd52 a1 a2, bnd2 a1 a2] at H11
  rw [rd52 a1 a2]
  refine daemon_Deed.ex (ddS ((1 + 1 : Nat) : Int) rO (eO a) (rS ⟨5, 12, 0, 0, 0, []⟩ none 0) ((1 + 1 : Nat) : Int)) ⟨_, rfl, daemon_Deed.newp (x := ddS ((1 + 1 : Nat) : Int) rO (eO a) (rS ⟨5, 12, 0, 0, 0, []⟩ none 0) ((1 + 1 : Nat) : Int)) fun bb h12 e12 d12 f12 => ?_⟩
  have ka2 := (ka.step st11).on f12
  have kb : Kb h12 X11 bb _ := ⟨d12, H11.out (by omega)⟩
  have u12 := (u10.step st11).on f12
  have n2 : ((jnA (69 :: eOB a)).app (69 :: eOB a)).next.length ≤ 66 := by show (_ ++ frameB _).length ≤ _; rw [List.length_append, frameB_len, List.length_cons]; omega
  refine RunO_ok (k := 1) (t := b) (x := ⟨[], 0, 1, 0, [], 0⟩) may7 (Int.le_refl 0) (ok1 a1 a2) (H11.on f12) rfl rfl (by decide) (by decide) rfl rfl b1 b2 (fits_le (by decide) rfl (by omega) (by show _ + 0 + ((jnA (69 :: eOB a)).app (69 :: eOB a)).next.length ≤ _; omega)) (by show 2 ≤ 1000000000; decide) (by show 2 < 64; decide) (by decide) fun h13 X13 H13 st13 => ?_
  replace H13 : Dm h13 d X13 60 e7 I ⟨((jnA (69 :: eOB a)).app (69 :: eOB a)).app (69 :: eOB b), dsF 60, Ses.openA [s1 a] b, [⟨1, (⟨5, 0, 1, 0, a, []⟩ : RD).enc, 1⟩, ⟨2, (⟨5, 12, 0, 0, 0, []⟩ : RD).enc, 2⟩, ⟨2, (rd5 [s1 a] b).enc, 3⟩], [some ⟨[], 0, 1, 1, [], 0⟩, some (bnd ⟨[], 0, 0, 0, [], 0⟩ [s1 a] b)], 0⟩ := H13
  dsimp only
  rw [openA3 b1 b2 ne, rd53 b1 b2 ne, bnd3 b1 b2 ne] at H13
  rw [rd53 b1 b2 ne]
  refine daemon_Deed.ex (ddS ((1 + 1 : Nat) : Int) rO (eO b) (rS ⟨5, 0, 2, 0, b, []⟩ none 0) ((2 + 1 : Nat) : Int)) ⟨_, rfl, daemon_Deed.newp (x := ddS ((1 + 1 : Nat) : Int) rO (eO b) (rS ⟨5, 0, 2, 0, b, []⟩ none 0) ((2 + 1 : Nat) : Int)) fun bc h14 e14 d14 f14 => ?_⟩
  have ka3 := (ka2.step st13).on f14
  have kb2 := (kb.step st13).on f14
  have kc : Kb h14 X13 bc _ := ⟨d14, H13.out (by omega)⟩
  have u14 := (u12.step st13).on f14
  refine RunS_ok (k := 0) (t := b) (x := ⟨[], 0, 1, 1, [], 0⟩) (H13.on f14) rfl rfl (by decide) (by decide) (by decide) (by show 3 < 64; decide) (by decide) fun h15 X15 H15 st15 => daemon_Deed.ex _ ⟨_, rfl, daemon_Deed.newp (x := ddS ((0 + 1 : Nat) : Int) rO event_Event.S.z (rS (failS 7) none 0) 0) fun bd h16 e16 d16 f16 => ?_⟩
  have ka4 := (ka3.step st15).on f16
  have kb3 := (kb2.step st15).on f16
  have kc2 := (kc.step st15).on f16
  have u16 := (u14.step st15).on f16
  refine RunN_ok (k := 0) (t := b) (x := ⟨[], 0, 0, 1, [], 0⟩) (H15.on f16) rfl rfl fun h17 f17 => daemon_Deed.ex daemon_Deed.S.z ⟨_, rfl, daemon_Deed.newp (x := daemon_Deed.S.z) fun be h18 e18 d18 f18 => alive_ok fun h19 f19 => ⟨_, rfl, iteT rfl ?_⟩⟩
  have f := (f17.tt f18).tt f19
  have ka5 := ka4.on f
  have kb4 := kb3.on f
  have kc3 := kc2.on f
  have kd := f.get d16 id
  have ok := hk h19 (u16.fr.tt f)
  exact iteT rfl ⟨_, cell_at ka5.1 rfl, iteT rfl ⟨_, cell_at ka5.1 rfl, iteT (beq_self_eq_true _) (iteT rfl ⟨_, cell_at kb4.1 rfl, iteT rfl (iteT rfl ⟨_, cell_at kc3.1 rfl, iteT rfl ⟨_, cell_at kc3.1 rfl, iteT (beq_self_eq_true _) (iteT rfl ⟨_, cell_at kd rfl, iteT rfl ⟨_, cell_at kd rfl, iteT rfl ok⟩⟩)⟩⟩)⟩)⟩⟩
end Dae
end
end Go.Proofs.YtaphjamdblgiiaaGreatDoor
