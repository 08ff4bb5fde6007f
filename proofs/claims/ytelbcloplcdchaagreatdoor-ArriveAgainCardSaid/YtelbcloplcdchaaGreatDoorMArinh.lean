/-
  IF is proved here: parts of zp proof, one behind zp other (texts of this work, merged by a program; JW zp theorem JX not use is left out). No condition.
-/
import Derived.Handed
import Derived.Shelf.Vars
import Derived.Lib.LaidU8
import Derived.Lib.LaidTab
import Derived.Test.YtelbcloplcdchaaGreatDoorMAring
set_option linter.defProp false
set_option maxRecDepth 100000
set_option maxHeartbeats 4000000
namespace Go.Proofs.YtelbcloplcdchaaGreatDoor
open Go.Den
open IntKind (wrap)
open Int (toNat)
section
open Go.fv
namespace fE
open ju gg
variable {h H:aA} {R:fp} {b x:Nat} {X y:Ft} {L:List Rg} {p:bZ} {c n l:Nat} {r:Rg}
def Oe.ne(k:Oe r):r.e≠Ev.zero:=by have:=k.rt;unfold jn at this;simp only[aZ,fI,bn,eK]at this;exact this.2.1
def Xh(k:Oe r):jo 0 (kC r)=(fW r.e,0,bm (fx r.lS)++bm (fx r.own)):=by have:=kM k.e.1 k.sv;unfold kC;rw[cu];exact kT ae _
def Vf(k:Oe r)(a:cQ):gV 0 (bm (fx r.lS)++a)=(fx r.lS,0,a):=by have:=k.e;exact gA (by unfold fx;omega) cW a
def SX(k:Oe r):gV 0 (bm (fx r.own))=(fx r.own,0, []):=by have:=k.e;have a:=gA (top:=1099511627776) (n:=fx r.own) (by unfold fx;omega) cW [];rw[fy]at a;exact a
def Iz : ∀{L:List Rg},(∀x∈L,lR x.e r.e=true)->BN r L=L++ [r]
 | [],_=>rfl
 |x::l,h=>by unfold BN;rw[ag (h x bt),Iz (λd a=>h d (bQ _ a))];rfl
def SY(k:Oe r)(g:L.length<8)(a: ∀x∈L,lR x.e r.e=true):jQ L r=0/\BN r L=L++ [r]:=by
 refine⟨?_,Iz a⟩;unfold jQ;have d:jB L r.e=none:=FB.2 λx f e=>by have:=a x f;rw[e,ny]at this;cases this
 rw[k.rt,d];simp;omega
theorem tJ{w : List BV}{rs : List Rg}(b' : gg.Rows h p l c w)(e : w.map BV.b = rs.map kC)(so : rs.Pairwise kW)(ok : ∀ r ∈ rs, Oe r)(l8 : rs.length ≤ 8)(tb : jS.nE h)(mx : jS.Mx h)(k1 : ∀ H b X, Tb H b X rs → xX h X H → R (.tuple #[.pointer (some ⟨b, 0, none⟩), .int .i64 0]) H): Cl 68 #[.slice p l c] h R := by
  have ln : w.length = rs.length := by have := congrArg List.length e; simpa using this
  have l' := b'.len
  subst l'
  refine FL (gC λh1 b X H1 u1 => ⟨_, rfl, ?_⟩)
  refine ⟨λe' g => ∃ k : Nat, e' = (k : Int) ∧ k ≤ w.length ∧ Tb g b X (rs.take k) ∧ xX h X g, λe' _ => w.length - e'.toNat, ⟨0, rfl, by omega, H1, u1⟩, ?_⟩
  rintro _ g ⟨k, rfl, q', I, U⟩
  have Z := b'.on U.fr
  have tg := tb.on U.fr
  have mg := mx.on U.fr
  by_cases m' : k < w.length
  · rw [if_pos (decide_eq_true (by omega)), Int.toNat_natCast]
    have ⟨x, gx⟩ := lP m'
    have gr : rs[k]? = some (rs[k]'(by omega)) := List.getElem?_eq_getElem _
    have dr : rs.drop k = rs[k]'(by omega) :: rs.drop (k + 1) := List.drop_eq_getElem_cons _
    generalize rs[k]'(by omega) = r at gr dr
    have a' : x.b = kC r := by
      have h1 : (w.map BV.b)[k]? = (rs.map kC)[k]? := by rw [e]
      rw [List.getElem?_map, List.getElem?_map, gx, gr] at h1
      exact Option.some.inj h1
    have K := ok r (List.mem_of_getElem? gr)
    have et : rs.take (k + 1) = rs.take k ++ [r] := by rw [List.take_add_one, gr]; rfl
    have tl : (rs.take k).length ≤ k := by rw [List.length_take]; omega
    obtain ⟨ha, eI⟩ := SY K (L := rs.take k) (by omega) (λx hx => by
      rw [← List.take_append_drop k rs, dr] at so
      exact (List.pairwise_append.1 so).2.2 x hx r (by simp))
    have rl := Lv K
    have ke := K.e
    obtain ⟨p', rfl⟩ := Z.row.any dZ (by omega)
    have cx := (Z.row.fa dZ gx).1
    rw [cj] at cx
    have rx := Z.each x (List.mem_of_getElem? gx)
    rw [a'] at rx
    refine ⟨⟨by first | trivial | omega, by first | trivial | omega⟩, ar.2 ⟨_, _, _, cx, gg.lD (bs := kC r) rx (by rw [a']) (by omega) λh3 c' S D3 f3 n3 => ⟨_, rfl, gg.nB D3 (by omega) λh4 p4 c4 V o4 n4 f4 => ?_⟩⟩⟩
    have G : g.size ≤ c' := n3 c' D3.self
    have F4 := f3.fresh f4 (λa e => by rw [e]; exact G)
    rw [Xh K] at V o4 ⊢
    dsimp only at V o4 ⊢
    refine ⟨_, _, _, rfl, _, conv o4.hT rfl, ju.qP ke.1 K.sv K.ne (tg.on F4) (mg.on F4) λh5 f5 => ⟨_, _, _, _, _, _, rfl, av.new λb6 E e6 M f6 => ?_⟩⟩
    have F6 := F4.tt (f5.tt f6)
    have i := V.frame (f5.tt f6) (λ_ _ => id)
    have Q : ¬ S b6 := λv => by have := (V.frame f5 (λ_ _ => id)).lt b6 v; omega
    refine aB.of λj' hJ => av.ld M ?_
    have n1 : ((fx r.lS : Nat) : Int) = r.lS := by unfold fx; omega
    have n2 : ((fx r.own : Nat) : Int) = r.own := by unfold fx; omega
    have s6 := F6.1
    have d' : ∀(J : aA)(B : Nat), Fr No g J → Rd J c' S 0 [] → r.at J B → (¬ S B ∧ g.size ≤ B) → j' (some ⟨B, 0, none⟩) J := by
      intro J B fg Dg h' s'
      subst hJ
      refine aB.of λJ1 k' => gg.mX Dg ⟨_, rfl, ?_⟩
      have e0 : (oA 0 [] != 0) = false := by decide
      rw [e0, if_neg (by decide)]
      refine ar.2 (bg.ld h' (BK (I.on fg) r (by omega) λd H8 s8 => ⟨_, rfl, ?_⟩))
      have u8 := (U.on fg).step s8
      rw [ha, if_neg (by decide)]
      have s : r.at d B := s8.fr.get h' (λhm => by have := I.lt B (.inl hm); omega)
      refine ar.2 (bg.ld s (oM (r := r) K (tb.on u8.fr) λp9 c9 h9 o9 f n9 => ⟨_, _, _, rfl, ?_⟩))
      have n' : Row h9 x.p (bc (kC r)) := by
        have := (b'.on (u8.fr.tt f)).each x (List.mem_of_getElem? gx)
        rwa [a'] at this
      refine Cb.jg o9.hT n' rfl (by rw [a']) ⟨_, rfl, ?_⟩
      subst k'
      simp only [decide_true, Bool.not_true, Bool.false_eq_true, if_false]
      rw [dJ (by omega) (by omega)]
      have eL : Dr (rs.take k) r = rs.take (k + 1) := by unfold Dr; rw [if_pos ha, eI, et]
      rw [eL] at H8
      exact ⟨⟨k + 1, by omega, by omega, H8.on f, u8.on f⟩, by show _ - Int.toNat ((k : Int) + 1) < _; omega⟩
    have zr : bg.at (E.push (.cells #[.bool false, .int .u64 0, .int .u64 0, .string ⟨#[]⟩, .string ⟨#[]⟩, .int .i64 0, .int .i64 0] 173)) E.size false 0 0 ⟨#[]⟩ ⟨#[]⟩ 0 0 := bR
    have r' := aD M
    refine ⟨gg.gp i λt m C => ?_, cg ?_, trivial⟩
    · rw [Vf K] at m ⊢
      dsimp only at m ⊢
      have F7 := F6.fresh C (λa e => by rw [e]; exact G)
      have u := C.get M (λe => Q (by rw [e]; exact i.self))
      refine ⟨_, rfl, av.held u, ⟨gg.gp m λd D F => ?_, cg ?_, trivial⟩⟩
      · rw [SX K] at D ⊢
        dsimp only at D ⊢
        have s := F.get u (λe => Q (by rw [e]; exact i.self))
        have f : Fr No d (d.push (.cells #[.bool false, .int .u64 0, .int .u64 0, .string ⟨#[]⟩, .string ⟨#[]⟩, .int .i64 0, .int .i64 0] 173)) := Fr.push _ _
        have g' : bg.at (d.push (.cells #[.bool false, .int .u64 0, .int .u64 0, .string ⟨#[]⟩, .string ⟨#[]⟩, .int .i64 0, .int .i64 0] 173)) d.size false 0 0 ⟨#[]⟩ ⟨#[]⟩ 0 0 := bR
        refine ⟨_, rfl, av.held s, cg ⟨av.held (f.get s id), bg.set g' λq A i' T => ?_⟩⟩
        rw [n1, n2] at A
        have z := F7.fresh F (λa e => by rw [e]; exact G)
        have z8 := z.1
        have j : ¬ S d.size := λv => by have := D.lt _ v; omega
        have o : Fr (λa => a = d.size) (d.push (.cells #[.bool false, .int .u64 0, .int .u64 0, .string ⟨#[]⟩, .string ⟨#[]⟩, .int .i64 0, .int .i64 0] 173)) q := ⟨by omega, λa _ O => T a O⟩
        exact d' q _ ((z.tt f).fresh o (λa e => by omega)) ((D.frame f (λ_ _ => id)).frame o (λa P e => j (e ▸ P))) A ⟨j, z8⟩
      · have f : Fr No t (t.push (.cells #[.bool false, .int .u64 0, .int .u64 0, .string ⟨#[]⟩, .string ⟨#[]⟩, .int .i64 0, .int .i64 0] 173)) := Fr.push _ _
        have g' : bg.at (t.push (.cells #[.bool false, .int .u64 0, .int .u64 0, .string ⟨#[]⟩, .string ⟨#[]⟩, .int .i64 0, .int .i64 0] 173)) t.size false 0 0 ⟨#[]⟩ ⟨#[]⟩ 0 0 := bR
        have j : ¬ S t.size := λv => by have := m.lt _ v; omega
        refine ⟨av.held (f.get u id), gg.gp (m.frame f (λ_ _ => id)) λd D F => ?_⟩
        rw [SX K] at D ⊢
        dsimp only at D ⊢
        have s := F.get (f.get u id) (λe => Q (by rw [e]; exact i.self))
        have f' := F.get g' (λe => j (by rw [e]; exact i.self))
        refine ⟨_, rfl, av.held s, bg.set f' λq A i' T => ?_⟩
        rw [n1, n2] at A
        have z := (F7.tt f).fresh F (λa e => by rw [e]; exact G)
        have z8 := F7.1
        have o : Fr (λa => a = t.size) d q := ⟨by omega, λa _ O => T a O⟩
        exact d' q _ (z.fresh o (λa e => by omega)) (D.frame o (λa P e => j (e ▸ P))) A ⟨j, z8⟩
    · have f : Fr No E (E.push (.cells #[.bool false, .int .u64 0, .int .u64 0, .string ⟨#[]⟩, .string ⟨#[]⟩, .int .i64 0, .int .i64 0] 173)) := Fr.push _ _
      have j : ¬ S E.size := λv => by have := i.lt _ v; omega
      refine ⟨av.held (f.get M id), gg.gp (i.frame f (λ_ _ => id)) λt m C => ?_⟩
      rw [Vf K] at m ⊢
      dsimp only at m ⊢
      have u := C.get (f.get M id) (λe => Q (by rw [e]; exact i.self))
      have o' := C.get zr (λe => j (by rw [e]; exact i.self))
      refine ⟨_, rfl, av.held u, gg.gp m λd D F => ?_⟩
      rw [SX K] at D ⊢
      dsimp only at D ⊢
      have s := F.get u (λe => Q (by rw [e]; exact i.self))
      have f' := F.get o' (λe => j (by rw [e]; exact i.self))
      refine ⟨_, rfl, av.held s, bg.set f' λq A i' T => ?_⟩
      rw [n1, n2] at A
      have z := ((F6.tt f).fresh C (λa e => by rw [e]; exact G)).fresh F (λa e => by rw [e]; exact G)
      have o : Fr (λa => a = E.size) d q := ⟨by omega, λa _ O => T a O⟩
      exact d' q _ (z.fresh o (λa e => by omega)) (D.frame o (λa P e => j (e ▸ P))) A ⟨j, s6⟩
  · rw [if_neg (by simp only [decide_eq_true_eq]; omega)]
    rw [List.take_of_length_le (by omega)] at I
    refine mz I (by omega) ok tg λh2 p2 l2 c2 B2 f2 => ⟨_, _, _, rfl, ?_⟩
    obtain ⟨ys, y, eY⟩ := B2.AD
    have bl := B2.len
    rw [List.length_map] at bl
    refine gg.AH y (Z.on f2) (by omega) ⟨_, rfl, ?_⟩
    rw [eY, e, decide_eq_true rfl, if_neg (by decide)]
    exact k1 h2 b X (I.on f2) (U.on f2)

end fE
end
section
variable {h:aA} {R:fp}
def Cq{L:bZ}{l j:Nat} (S:ite ((l:Int)==0) (R (.T #[.Q none,.I 3]) h) (Cl 17 #[] h λk' g=>Vp k' λt=>Bd 0 l/\aH L λa=>lW g (a.add (toNat 0*1)) λX V U=>Cl 23 #[.L X V U] g λl' E=>Vp l' λb=>Cl 27 #[.Q b] E λm' F=>Vi m' λZ=>Cl 27 #[.Q b] F λn' G=>Vi n' λa'=>Cl 27 #[.Q b] G λo' K=>Vi o' λb'=>Cl 27 #[.Q b] K λp' M=>Vi p' λc'=>aH t λA=>aO M (A.add 1) (.I Z) λO=>aH t λs=>aO O (s.add 2) (.I a') λP=>aH t λu=>aO P (u.add 3) (.I b') λQ=>aH t λv=>aO Q (v.add 4) (.I c') λC=>Cl 27 #[.Q b] C λq' D=>Vi q' λk=>aB (λ(g':Bool) i=>ite g' (R (.T #[.Q none,.I 3]) i) (((0:Int)<=1/\1<=(l:Int))/\∃(I:Int->kj)(m:Int->kG),I 0 0 i/\∀e T c,I e T c->ite (decide (T<((l - (toNat 1):Nat):Int))) (((0:Int)<=T/\T<((l - (toNat 1):Nat):Int))/\aH (cE L j (toNat 1) 1) λw=>lW c (w.add (toNat T*1)) λj' i' h'=>Cl 110 #[.Q t,.L j' i' h',.I e] c λr' d=> ∃f q,r'=.T #[.I f,.B q]/\ite (!q) (R (.T #[.Q none,.I 3]) d) ((I f (wrap .i64 (T+1)) d/\m f (wrap .i64 (T+1)) d<m e T c))) (R (.T #[.Q t,.I 0]) c))) (λJ=>Cl 30 #[.Q b] D λs' H=> ∃n,s'=.I n/\ite (n !=0) (J true H) (ite (k !=(wrap .i64 ((l:Int) - 1))) (J true H) (aH t λx=> ∃o,aU H (x.add 1)=some (.I o)/\ite (decide (o<1)) (J true H) (aH t λy=>kU H (y.add 1) λd'=>aH t λz=>kU H (z.add 2) λe'=>aH t λB=>kU H (B.add 3) λf'=>aH t λr=> ∃p,aU H (r.add 4)=some (.I p)/\J ((wrap .i64 (d' - 1)) !=(wrap .i64 ((wrap .i64 ((wrap .i64 (e'+f'))+p))+k))) H)))))):Cl 69 #[.L L l j] h R:=aP [(20,.join [(82,sB)]),(20,λ_=>pN 41),(32,.loop [(7,sI),(86,sI)])] S
def tL{t:Nat}{q:bZ}{p B:Nat}{L:Int} (hv:Cl 23 #[.L q p B] h λa5 O=>Vp a5 λg=>Cl 27 #[.Q g] O λa6 X=>Vi a6 λC'=>aW X (.C #[.I C',.B false,.U 0,.U 0,.S (⟨#[]⟩:cF),.S (⟨#[]⟩:cF),.Z,.U 0,.I 0,.U 0] 229) λb Z=>Cl 25 #[.Q g] Z λb5 x=>Vl b5 λL' K' J'=> ∃(A:cF),pV Tryz.prog 32 9 (.L L' K' J') x A/\Cl 24 #[.S A] x λb6 a'=> ∃C D E F G M',b6=.T #[.agg #[.B C,.U D,.U E,.S F,.S G],.I M']/\av.ST a' (AA b 1) C D E F G λb'=>Cl 25 #[.Q g] b' λb7 c'=>Vl b7 λQ' P' O'=>Cl 26 #[.Q g] c' λb8 d'=>Vu b8 λR'=>Cl 27 #[.Q g] d' λb9 e'=>Vi b9 λS'=>Cl 26 #[.Q g] e' λc0 P=> ∃I,c0=.U I/\aO P (AA b 6) (.L Q' P' O') λQ=>aO Q (AA b 7) (.U R') λS=>aO S (AA b 8) (.I S') λU=>aO U (AA b 9) (.U I) λv=>Hi v b 8 λK=>aB (λ(z':Bool) r=>ite z' (R (.T #[.I 0,.B false]) r) (∃y,Cc r t 0 (.map y)/\Hi r b 0 λA'=>jE (Instr.mapUpdate 123 (.map y) (.I A') (.P b 0)) r λ_ s=>Hp s t 5 λB'=>Hi s b 0 λD'=>Hu s b 7 λE'=>Cl 112 #[.Q B',.I D',.U E'] s λc1 l=>Vi c1 λ_=>aB (λw=> ∃z,Cc w b 0 (.I z)/\R (.T #[.I z,.B true]) w) (λu=>ite (decide (K>0)) (Hp l t 6 λF'=>Hi l b 0 λG'=>Hu l b 9 λH'=>Cl 112 #[.Q F',.I G',.U H'] l λc2 V=> ∃I',c2=.I I'/\u V) (u l)))) (λJ=>Cl 30 #[.Q g] v λa7 a=> ∃M,a7=.I M/\ite (M !=0) (J true a) (∃T,Cc a b 0 (.I T)/\ite (decide (T<=L)) (J true a) (Hi a b 0 λd=> ∃c,Cc a t 1 (.I c)/\ite (decide (d≥c)) (J true a) (av.LD a (AA b 1) λT' U' V' X' Z'=>Hl a b 6 λa2 a1 a0=>Hu a b 7 λa3=>Cl 160 #[.agg #[.B T',.U U',.U V',.S X',.S Z'],.L a2 a1 a0,.U a3] a λa8 H=>Vb a8 λa4=>Cc H t 1 (.I c)/\Cc H b 0 (.I d)/\Cc H b 0 (.I T)/\ite (!a4) (J true H) (∃e,Cc H b 9 (.U e)/\ite (decide (e>1099511627776)) (J true H) (ite (!(decide (K>0))) (∃o,Cc H b 9 (.U o)/\ite (decide (o>0)) (J true H) (av.LD H (AA b 1) λf' h' j' l' n'=>Cl 161 #[.P t 0,.agg #[.B f',.U h',.U j',.S l',.S n']] H λa9 f=>Vl a9 λ_ p' _=>Cc f b 9 (.U o)/\Cc f b 9 (.U e)/\Cc f t 1 (.I c)/\Cc f b 0 (.I d)/\Cc f b 0 (.I T)/\ite (decide ((p':Int)≥16)) (J true f) (Cl 82 #[.P b 0] f λb0 i=>Vl b0 λv' t' r'=>Cc i b 9 (.U o)/\Cc i b 9 (.U e)/\Cc i t 1 (.I c)/\Cc i b 0 (.I d)/\Cc i b 0 (.I T)/\Cl 35 #[.L v' t' r',.L q p B] i λb1 j=>Vb b1 λx'=>Cc j b 9 (.U o)/\Cc j b 9 (.U e)/\Cc j t 1 (.I c)/\Cc j b 0 (.I d)/\Cc j b 0 (.I T)/\J (!x') j))) (av.LD H (AA b 1) λg' i' k' m' o'=>Cl 161 #[.P t 0,.agg #[.B g',.U i',.U k',.S m',.S o']] H λb2 k=>Vl b2 λ_ q' _=>Cc k b 9 (.U e)/\Cc k t 1 (.I c)/\Cc k b 0 (.I d)/\Cc k b 0 (.I T)/\ite (decide ((q':Int)≥16)) (J true k) (Cl 82 #[.P b 0] k λb3 m=>Vl b3 λw' u' s'=>Cc m b 9 (.U e)/\Cc m t 1 (.I c)/\Cc m b 0 (.I d)/\Cc m b 0 (.I T)/\Cl 35 #[.L w' u' s',.L q p B] m λb4 n=>Vb b4 λy'=>Cc n b 9 (.U e)/\Cc n t 1 (.I c)/\Cc n b 0 (.I d)/\Cc n b 0 (.I T)/\J (!y') n))))))))):Cl 110 #[.P t 0,.L q p B,.I L] h R:=aP [(14,.join [(124,sB)]),(14,λ_=> .ni (lO [0,1,2,3,4,5,6,7,8,9,10,11,12,13,14,15,16,17,18,19,20,21,22,23,24,25,26,27,28,29,30,31,32,33,34,35,36,37,38,39,40,41,42,43,44,45,46,47,48,49,50,51,52,53,54,55,56,57,58,59,60,61,62,63,64,65,66,67,69,68,70,71,72] .done)),(21,λ_=>pN 10),(23,λ_=>pN 13),(27,.join []),(28,λ_=>pN 13)] hv

end
end Go.Proofs.YtelbcloplcdchaaGreatDoor
namespace Go.Den
def wR{h:aA}{B i:Nat}{c L:Array Value}{t:TypeId}{vs:List Value}{K:dw}(v:h[B]? =some (.C c t (0,0)))(w:i+vs.length<=c.size)(E:vs.all gk=true)(y:L=(c.toList.take i++(vs++c.toList.drop (i+vs.length))).toArray)(e: ∀H,H[B]? =some (.C L t (0,0))->H.size=h.size->(∀k,k≠B->H[k]? =h[k]?)->K H):dG (AA B 0) vs i h K:=by
 refine qa vs i h c K v w E λH C u z r F s o=>e H ?_ s o;have:C=L:=by
  subst y;apply Array.ext';apply fH;intro J;have I:i<=c.toList.length:=by simp;omega
  have D:(c.toList.take i).length=i:=by rw[bT];omega
  rw[dP];by_cases q:J<i;rw[r J (.inl q),fj ae,List.getElem?_take_of_lt q,dP];rw[du ae,D];by_cases G:J<i+vs.length;have e:vs[J - i]? =some (vs[J - i]' ae):=au _;have:=F (J - i) _ e;rw[show i+(J - i)=J by omega]at this;rw[this,fj ae,e];rw[r J (.inr ae),du ae,fC,dP];congr 1;omega
 rw[<-this];exact u
end Go.Den
namespace Go.Proofs.YtelbcloplcdchaaGreatDoor
open Go.Den Go.fv Go.jD
namespace gi
open ju ck gg
variable {h H : aA} {R : Value → aA → Prop} {t : Nat} {X : Ft} {s j : CF} {m A d : Nat} {x : List CV} {a b f g : Nat → Prop} {l : Nat → Option Nat} {p : Option Addr} {n c : Nat}
def Yr{G:aA}{B:Nat}{y:CV}{K:dw}(e:Ev)(o:y.at G B)(k: ∀H,CV.at H B { y with e:=e } ->H.size=G.size->(∀i,i≠B->H[i]? =G[i]?)->K H):av.ST G (AA B 1) e.jY e.node e.fK e.host e.jl K:=
 wR (i:=1) (vs:= [.B e.jY,.U e.node,.U e.fK,.S e.host,.S e.jl]) o bt rfl rfl k
def Ys{G:aA}{B:Nat}{y:CV}{K:dw}(v:BV)(T:Nat)(S:Int)(D:Nat)(r:y.at G B)(q: ∀H,CV.at H B { y with v:=v,dB:=T,ses:=S,dl:=D } ->H.size=G.size->(∀e,e≠B->H[e]? =G[e]?)->K H):
  aO G (AA B 6) (.L v.p v.b.length v.c) λi=>aO i (AA B 7) (.U (T:Int)) λk=>aO k (AA B 8) (.I S) λo=>aO o (AA B 9) (.U (D:Int)) K:=
 wR (i:=6) (vs:= [.L v.p v.b.length v.c,.U (T),.I S,.U (D)]) r bt rfl rfl q
def Gc(s:CF)(z:Cp):CF:= { s with L:=s.L++ [z],E1:=pM s.E1 (z.num:Int) (z.dB:Int),E2:=if z.ses=0 then s.E2 else pM s.E2 (z.num:Int) (z.dl:Int) }
def Y7{z:Cp}(k:Jz z):gV 0 (recC z)=(z.num,0,cX (fW z.e)++(cX z.d++(bm z.dB++(bm (fx z.ses)++bm z.dl)))):=by have:=k.n;unfold recC;simp only[cu];exact gA ae cW _
def Y8{z:Cp}(k:Jz z)(y:cQ):jo 0 (cX (fW z.e)++y)=(fW z.e,0,y):=by have:=kM k.r k.v;exact kT ae _
def Y9{z:Cp}(k:Jz z)(y:cQ):jo 0 (cX z.d++y)=(z.d,0,y):=by have:=k.d;exact kT ae _
def Za{z:Cp}(k:Jz z)(y:cQ):fb 0 (bm z.dB++y)=(z.dB,0,y):=by have:=k.t;exact iW ae _
def Zb{z:Cp}(k:Jz z)(y:cQ):gV 0 (bm (fx z.ses)++y)=(fx z.ses,0,y):=by have:=k.s1;exact gA (by unfold fx;omega) cW _
def Zc{z:Cp}(k:Jz z):fb 0 (bm z.dl)=(z.dl,0, []):=by have:=k.l;have h:=iW (n:=z.dl) ae [];rwa[fy]at h
theorem SZ(w:Ct h t X s)(sm:Small s){z:Cp}(k:Jz z)(K:Ax z.e z.d.length (z.dB:Int)=true)(O':z.ses=0->z.dl=0){r':Int}(hl:r'<(z.num:Int))(h1: ∀y∈s.L,y.num<z.num)(b0:1<=z.num)(hn:z.num<s.next)(P':(nF s.L z.e).length<16)(m':Row h p (bc (recC z)))(i':n=(recC z).length)(tb:jS.nE h)(mx:jS.Mx h)(hk: ∀H X',Ct H t X' (Gc s z)->bp X h X' H->R (.T #[.I (z.num:Int),.B true]) H):
  Cl 110 #[.P t 0,.L p n c,.I r'] h R:=by
 obtain⟨m,x,A,a,d,b,l,w⟩:=w;have rl:=Lu k;have sl:=sm.l;have xl:=w.len;have S':z.e≠Ev.zero:=by have:=K;unfold Ax at this;simp only[aZ,fI,bn,eK]at this;exact this.2.1
 refine tL (gg.lD m' i' ae λg1 U S D1 f1 n1=>⟨_,rfl,gg.gp D1 λG E f2=> ?_⟩);have M:h.size<=U:=n1 U D1.self;have F2:=f1.fresh f2 (λy e=>by rw[e];exact M);rw[Y7 k]at E⊢;dsimp only at E⊢;refine⟨_,rfl,cg ?_⟩;have f3:Fr No G (G.push (.C #[.I (z.num:Int),.B false,.U 0,.U 0,.string ⟨#[]⟩,.string ⟨#[]⟩,.Z,.U 0,.I 0,.U 0] 229)):=Fr.push _ _;have y3:CV.at (G.push (.C #[.I (z.num:Int),.B false,.U 0,.U 0,.string ⟨#[]⟩,.string ⟨#[]⟩,.Z,.U 0,.I 0,.U 0] 229)) G.size ⟨z.num,G.size,.zero,⟨none,0, []⟩,0,0,0⟩:=bR;generalize G.push (.C #[.I (z.num:Int),.B false,.U 0,.U 0,.string ⟨#[]⟩,.string ⟨#[]⟩,.Z,.U 0,.I 0,.U 0] 229)=g3 at f3 y3⊢;have nS: ¬S G.size:=λL=>by have:=E.lt _ L;omega
 have g':h.size<=G.size:=F2.1;generalize G.size=B at y3 nS g'⊢;have T: ¬B=U:=λe=>nS (by rw[e];exact E.self);have D3:=E.frame f3 bC;have tl:=kM k.r k.v;have e1:=lU (fW z.e);have e2:=lU z.d;have dl:=k.d;have e3:=(bw z.dB).2;have e4:=(bw (fx z.ses)).2;have e5:=(bw z.dl).2;refine gg.nB D3 (by grind) λg4 p4 c4 D4 o4 n4 f4=> ?_;rw[Y8 k]at D4 o4⊢;dsimp only at D4 o4⊢;have F4:=(F2.tt f3).fresh f4 (λy e=>by rw[e];exact M);have y4:=f4.get y3 T;refine⟨_,_,_,rfl,_,conv o4.hT rfl,ju.qP k.r k.v S' (tb.on F4) (mx.on F4) λg5 f5=>⟨_,_,_,_,_,_,rfl,Yr z.e (f5.get y4 id) λg6 y6 s6 o6=> ?_⟩⟩;have f6:Fr (λy=>y=B) g5 g6:=⟨ae,λy _ hn=>o6 y hn⟩;have F6:=(F4.tt f5).fresh f6 (λy e=>by rw[e];exact g');have D6:=(D4.frame f5 bC).frame f6 (λy C e=>nS (e▸C));refine gg.nB D6 (by simp only[aq];omega) λg7 P J D7 o7 n7 f7=> ?_;rw[Y9 k]at D7 o7⊢;dsimp only at D7 o7⊢;have F7:=F6.fresh f7 (λy e=>by rw[e];exact M);refine⟨_,_,_,rfl,gg.jU D7 λg8 D8 f8=> ?_⟩;rw[Za k]at D8⊢;dsimp only at D8⊢;refine⟨_,rfl,gg.gp D8 λg9 D9 f9=> ?_⟩;rw[Zb k]at D9⊢;dsimp only at D9⊢;refine⟨_,rfl,gg.jU D9 λJ' b' e'=> ?_⟩;rw[Zc k]at b'⊢;dsimp only at b'⊢;have ns:((fx z.ses:Nat):Int)=z.ses:=by have:=k.s0;unfold fx;omega
 rw[ns];have B':=((F7.fresh f8 (λy e=>by rw[e];exact M)).fresh f9 (λy e=>by rw[e];exact M)).fresh e' (λy e=>by rw[e];exact M);have x':=e'.get (f9.get (f8.get (f7.get y6 T) T) T) T;have j': ∀y,aL P y->¬y=U:=λy C e=>by have h1:=n7 y C;have h2:=D6.lt U D6.self;omega
 have t':=((o7.frame f8 j').frame f9 j').frame e' j';refine⟨_,rfl,Ys ⟨P,J,z.d⟩ z.dB z.ses z.dl x' λq' o b5 u'=>⟨_,ai o,?_⟩⟩;have h':Fr (λy=>y=B) J' q':=⟨ae,λy _ hn=>u' y hn⟩;have I:=B'.fresh h' (λy e=>by rw[e];exact g');have A':=b'.frame h' (λy C e=>nS (e▸C));have b4:=aD y6;have s': ∀y,aL P y->y≠B:=λy C e=>by have:=n7 y C;omega
 have n':=t'.frame h' s';have T': ∀y,aL P y->h.size<=y:=λy C=>by grind
 clear t' x' b' D9 D8 D7 D6 D4 D3 E D1 y6 y4 y3 o7 o4 o6 u' e' f9 f8 f7 f6 f5 f4 f3 f2 f1;refine aB.of λC' hJ=>gg.mX A' ⟨_,rfl,?_⟩;have p': ∀Z,Fr No q' Z->C' false Z:=by
  intro Z fg;subst hJ;dsimp only;rw[dz];have Fg:=I.tt fg;have Hg:=w.on Fg;have yg:=fg.get o id;have wg:=n'.frame fg bC;refine⟨_,ai Hg.cN,_,ai yg,zL ps Hg.map (k:=(z.num:Int)) λf' D' a3 k'=> ?_⟩;obtain⟨a9,b1,d',v'⟩:=w.add (s':= { s with L:=s.L++ [z] }) (y:=⟨z.num,B,z.e,⟨P,J,z.d⟩,z.dB,z.ses,z.dl⟩) Fg yg g' wg.hT wg.le (λc hc=>⟨T' c hc,s' c hc,wg.dk hc⟩)
   (λa5 hu=>by
    have:a5.abs∈s.L:=by rw[<-w.abs];exact bL hu
    exact h1 _ this) D' a3 k' rfl rfl rfl ⟨rfl,rfl,rfl,rfl⟩
  have O:=d'.GQ _ (dy _ (bW.2 rfl));have Q':may (z.num:Int) (z.dB:Int)=true:=lE.2 ⟨ae,bN k.n,bN k.t⟩;have R':may (z.num:Int) (z.dl:Int)=true:=lE.2 ⟨ae,bN k.n,bN k.l⟩;refine⟨_,ai d'.cN,_,ai O,_,ai O,ck.BE d'.LV (by have:=sm.e1;show s.E1.length<_;omega) (z.num:Int) (z.dB:Int) ae (λ_ a' a7 y' a1 V=>⟨_,rfl,?_⟩) (λK=>absurd Q' (by rw[K];simp))⟩;obtain⟨E',b2,q,w',_⟩:=d'.Jr (s':= { s with L:=s.L++ [z],E1:=pM s.E1 (z.num:Int) (z.dB:Int) }) y' a1 V rfl rfl rfl ⟨rfl,rfl,rfl,rfl⟩;have i:=q.GQ _ (dy _ (bW.2 rfl));refine aB.of λJ1 M'=> ?_;subst M';by_cases L:z.ses=0;rw[af (by grind)];have eF:Gc s z= { s with L:=s.L++ [z],E1:=pM s.E1 (z.num:Int) (z.dB:Int) } :=by unfold Gc;rw[ag L]
  rw[eF]at hk;exact⟨_,ai i,hk a' E' ⟨_,_,_,_,_,_,_,q⟩ (v'.trans w')⟩;rw[ag (by have:=k.s0;simp;omega)];have eF:Gc s z= { s with L:=s.L++ [z],E1:=pM s.E1 (z.num:Int) (z.dB:Int),E2:=pM s.E2 (z.num:Int) (z.dl:Int) } :=by unfold Gc;rw[af L]
  rw[eF]at hk;refine⟨_,ai q.cN,_,ai i,_,ai i,ck.BE q.LW (by have:=sm.e2;show s.E2.length<_;omega) (z.num:Int) (z.dl:Int) ae (λ_ L' a8 z' a2 I'=>⟨_,rfl,?_⟩) (λK=>absurd R' (by rw[K];simp))⟩;obtain⟨F',b3,o',a4,_⟩:=q.Jq (s':= { s with L:=s.L++ [z],E1:=pM s.E1 (z.num:Int) (z.dB:Int),E2:=pM s.E2 (z.num:Int) (z.dl:Int) }) z' a2 I' rfl rfl rfl ⟨rfl,rfl,rfl,rfl⟩;have a6:=o'.GQ _ (dy _ (bW.2 rfl));exact⟨_,ai a6,hk L' F' ⟨_,_,_,_,_,_,_,o'⟩ (v'.trans (w'.trans a4))⟩
 clear hJ hk;have Q:=w.on I;have e0:(oA 0 [] !=0)=false:=cW
 rw[e0,dz];refine⟨_,ai o,?_⟩;rw[af (by simp;omega)];refine⟨_,ai o,_,ai Q.cN,?_⟩;rw[af (by simp;omega)];refine GP o ⟨_,_,_,ai o,_,ai o,Ig z.e λK' D=>⟨_,rfl,ai (D.get Q.cN id),ai (D.get o id),ai (D.get o id),?_⟩⟩;rw[K,dz];have r:=D.get o id;have c':=Q.on D;refine⟨_,ai r,?_⟩;have lz:=k.l;rw[af (by simp;omega)];have go: ∀Z,Fr No K' Z->(x.filter (λy=>decide (y.e=z.e))).length<16:=λ_ _=>by rw[Jw w z.e];exact P'
 by_cases L:z.ses=0;rw[ag (by grind)];refine⟨_,ai r,?_⟩;rw[af (by simp;exact O' L)];refine GP r (wx c' z.e ae λf' Z' G' k' U' F=>⟨_,_,_,rfl,ai (F.get r id),ai (F.get r id),ai (F.get c'.cN id),ai (F.get r id),ai (F.get r id),?_⟩);rw[af (by have:=go f' F;simp;omega)];have u:=D.tt F;have O:=u.get o id;refine oM (z:=⟨z.num,B,z.e,⟨P,J,z.d⟩,z.dB,z.ses,z.dl⟩) O ((n'.frame u bC).hT) k (tb.on (I.tt u)) λa0 H' a' l' V V'=> ?_;have v:=u.tt V;have i:=v.get o id;have q:=Q.on v;refine⟨_,_,_,rfl,ai i,ai i,ai q.cN,ai i,ai i,Cb.jg l'.hT (m'.frame (I.tt v) bC) rfl i' ⟨_,rfl,ai i,ai i,ai q.cN,ai i,ai i,?_⟩⟩;have e:(!decide (recC (CV.abs ⟨z.num,B,z.e,⟨P,J,z.d⟩,z.dB,z.ses,z.dl⟩)=recC z))=false:=by simp[CV.abs]
 rw[e];exact p' a' v;rw[af (by have:=k.s0;simp;omega)];refine GP r (wx c' z.e ae λf' Z' G' k' U' F=>⟨_,_,_,rfl,ai (F.get r id),ai (F.get c'.cN id),ai (F.get r id),ai (F.get r id),?_⟩);rw[af (by have:=go f' F;simp;omega)];have u:=D.tt F;have O:=u.get o id;refine oM (z:=⟨z.num,B,z.e,⟨P,J,z.d⟩,z.dB,z.ses,z.dl⟩) O ((n'.frame u bC).hT) k (tb.on (I.tt u)) λa0 H' a' l' V V'=> ?_;have v:=u.tt V;have i:=v.get o id;have q:=Q.on v;refine⟨_,_,_,rfl,ai i,ai q.cN,ai i,ai i,Cb.jg l'.hT (m'.frame (I.tt v) bC) rfl i' ⟨_,rfl,ai i,ai q.cN,ai i,ai i,?_⟩⟩;have e:(!decide (recC (CV.abs ⟨z.num,B,z.e,⟨P,J,z.d⟩,z.dB,z.ses,z.dl⟩)=recC z))=false:=by simp[CV.abs]
 rw[e];exact p' a' v
end gi
end Go.Proofs.YtelbcloplcdchaaGreatDoor
namespace Go.Proofs.YtelbcloplcdchaaGreatDoor
open Go.Den
open IntKind (wrap)
open Int (toNat)
section
open Go.fv Go.jD
namespace gi
open ju ck gg
variable {h H:aA} {R:fp} {t:Nat} {X:Ft} {s a:CF} {p:bZ} {n c l k j:Nat}
variable {z:Cp}
structure Part (s:CF) (j:Nat) (a:CF):Prop where
 L:a.L=s.L.take j
 next:a.next=s.next
 fG:a.fG=s.fG
 over:a.over=s.over
 gone:a.gone=s.gone
 e1: ∀e,e∈a.E1↔ ∃z∈a.L,e=((z.num:Int),(z.dB:Int))
 e2: ∀e,e∈a.E2↔ ∃z∈a.L,z.ses≠0/\e=((z.num:Int),(z.dl:Int))
def Part.nil:Part s 0 ⟨[],s.next,s.fG,s.over,s.gone, [], []⟩:=⟨rfl,rfl,rfl,rfl,rfl,λe=>bt,λe=>bt⟩
theorem Gd(S:(s.L.map Cp.num).Pairwise (· < ·))(m:s.L[j]? =some z){y:Cp}(g:y∈s.L.take j):y.num<z.num:=by
 have⟨i,d⟩:=bA g;have e:i<j:=by grind
 rw[List.getElem?_take_of_lt e]at d;have b:=dM.1 S;rw[List.pairwise_iff_getElem]at b;obtain⟨A,rfl⟩:=aJ.1 d;obtain⟨f,rfl⟩:=aJ.1 m;exact b i j A f e
theorem Part.step(P:Part s j a)(S:(s.L.map Cp.num).Pairwise (· < ·))(f:s.L[j]? =some z):Part s (j+1) (Gc a z):=by
 have g: ∀y∈a.L,y.num<z.num:=λy d=>by rw[P.L]at d;exact Gd S f d
 refine⟨?_,P.next,P.fG,P.over,P.gone,λe=> ?_,λe=> ?_⟩;show a.L++ [z]=_;rw[P.L,aV,f];rfl;show e∈pM a.E1 (z.num) (z.dB)↔ ∃y∈a.L++ [z],_;rw[Az,P.e1];constructor;grind;grind;show e∈(if z.ses=0 then a.E2 else pM a.E2 (z.num) (z.dl))↔ ∃y∈a.L++ [z],_;by_cases b:z.ses=0;rw[ag b,P.e2];constructor;grind;grind;rw[af b,Az,P.e2];constructor;grind;grind
def Part.small(P:Part s j a)(G:Good s k)(O:Ord a)(q:k<=40000):Small a:=by
 have i:=G.L;have m:=G.len;have o:a.L.length<=s.L.length:=by rw[P.L,bT];omega
 have f: ∀{l:List E},(keys l).Nodup->l.Nodup:=fun {l} g=>(dM.1 g).imp (λh e=>h (bV _ e));have e1:=by have:=Io (f O.n1) (λe b=>by obtain⟨z,d,rfl⟩:=(P.e1 e).1 b;exact bh.2 ⟨z,d,rfl⟩);rwa[aw]at this
 have e2:=by have:=Io (f O.n2) (λe b=>by obtain⟨z,d,_,rfl⟩:=(P.e2 e).1 b;exact bh.2 ⟨z,d,rfl⟩);rwa[aw]at this
 have:=P.next;exact⟨ae,ae,ae,ae⟩
def Part.all(P:Part s s.L.length a)(G:Good s k)(O:Ord s)(o:Ord a):a=s:=by
 have b:a.L=s.L:=by rw[P.L,dA]
 refine PQ G.ok O ⟨?_,?_,P.e1,P.e2,?_⟩ o b P.next P.fG P.over P.gone;rw[b,P.next];exact G.ok.bd;rw[b];exact G.ok.sp;rw[b,P.next,P.fG,P.over,P.gone];exact G.ok.zj
def Ct.so(b:Ct h t X s):(s.L.map Cp.num).Pairwise (· < ·):=by have⟨m,x,A,S,e,d,L,b⟩:=b;rw[<-b.abs,dR];exact b.so
def hd(G:Good s k)(b:k<=30000):gV 0 (nI s)=(s.next,0,bm s.fG++(bm s.over++(bm s.gone++bm s.L.length))):=by have:=G.len;unfold nI;simp only[cu];exact gA ae cW _
def Xx(b:n<=40000)(y:cQ):gV 0 (bm n++y)=(n,0,y):=gA ae cW _
def Zd(b:n<=40000):gV 0 (bm n)=(n,0, []):=by have:=Xx b [];rwa[fy]at this
def Yt{g:aA}{B q r V M O P w i m o:Value}{K:dw}(F:g[t]? =some (.C #[B,V,M,O,P,q,r] 127 (0,0)))(f: [w,i,m,o].all gk=true)(G: ∀H,H[t]? =some (.C #[B,w,i,m,o,q,r] 127 (0,0))->H.size=g.size->(∀x,x≠t->H[x]? =g[x]?)->K H):
  aH (some ((AA t 0):Addr)) λA=>aO g (A.add 1) w λb=>aH (some ((AA t 0):Addr)) λu=>aO b (u.add 2) i λd=>aH (some ((AA t 0):Addr)) λv=>aO d (v.add 3) m λe=>aH (some ((AA t 0):Addr)) λy=>aO e (y.add 4) o K:=by
 have:=wR (i:=1) F bt f rfl G;simp only[List.all_cons,aZ]at f;have⟨Q,I,J,L,_⟩:=f;unfold dG at this;rw[Q]at this;refine ar.2 ⟨this.1,this.2.1,λb E=> ?_⟩;have this:=this.2.2 b E;unfold dG at this;rw[I]at this;refine ar.2 ⟨this.1,this.2.1,λd C=> ?_⟩;have this:=this.2.2 d C;unfold dG at this;rw[J]at this;refine ar.2 ⟨this.1,this.2.1,λe D=> ?_⟩;have this:=this.2.2 e D;unfold dG at this;rw[L]at this;exact ar.2 this
theorem tJ{V:List BV}(B:gg.Rows h p l c V)(e:V.map BV.b=nI s::s.L.map recC)(G:Good s k)(T:(s.L.map Cp.num).Pairwise (· < ·))(f':Ord s)(i':k<=30000)(hl:l<=100000)(tb:jS.nE h)(mx:jS.Mx h)(k1: ∀H t X,Ct H t X s->xX h X H->R (.T #[.P t 0,.I 0]) H):Cl 69 #[.L p l c] h R:=by
 obtain⟨v,V,rfl⟩: ∃v o',V=v::o':=by
  cases V with
  |nil=>simp at e
  |cons v V=>exact⟨v,V,rfl⟩
 rw[cp,List.cons.injEq]at e;obtain⟨ev,es⟩:=e;have ll:=B.len;rw[ba]at ll;have hn:s.L.length=V.length:=by simpa using (bV List.length es).symm
 have GL:=G.L;have gl:=G.len;obtain⟨g',rfl⟩:=B.row.some bt;refine Cq ?_;rw[af (by simp;omega)];refine gC λb t X K u1=>⟨_,rfl,⟨by first|trivial|omega,by first|trivial|omega⟩,ar.2 ?_⟩;have a':=B.on u1.fr;have c0:=(a'.row.fa dZ (i:=0) rfl).1;rw[cj]at c0;have rv:=a'.each v bt;rw[ev]at rv;have q':(nI s).length<=100:=by unfold nI;have e1:=(bw s.next).2;have e2:=(bw s.fG).2;have e3:=(bw s.over).2;have e4:=(bw s.gone).2;have e5:=(bw s.L.length).2;simp only[aq];omega
 refine⟨_,_,_,c0,gg.lD rv (by rw[ev]) ae λh2 b' S I f2 n2=>⟨_,rfl,gg.gp I λh3 D f3=> ?_⟩⟩;rw[hd G i']at D⊢;dsimp only at D⊢;refine⟨_,rfl,gg.gp D λh4 r f4=> ?_⟩;rw[Xx ae]at r⊢;dsimp only at r⊢;refine⟨_,rfl,gg.gp r λh5 w f5=> ?_⟩;rw[Xx ae]at w⊢;dsimp only at w⊢;refine⟨_,rfl,gg.gp w λh6 A f6=> ?_⟩;rw[Xx ae]at A⊢;dsimp only at A⊢;refine⟨_,rfl,?_⟩;have F:b.size<=b':=n2 b' I.self;have F6:=(((f2.fresh f3 (λy e=>by rw[e];exact F)).fresh f4 (λy e=>by rw[e];exact F)).fresh f5 (λy e=>by rw[e];exact F)).fresh f6 (λy e=>by rw[e];exact F);have o:=K.on F6;have u6:=u1.on F6;obtain⟨m,x,a1,S1,a2,S2,l',o⟩:=o;have nt: ¬S t:=λhs=>by have b:=n2 t hs;have h2:=K.lt t (.inl ((o.mm t).2 (by rw[o.l0];simp)));omega
 refine Yt o.cN rfl λh7 b7 s7 Q=> ?_;obtain⟨H7,n'⟩:=o.field (s':=⟨[],s.next,s.fG,s.over,s.gone, [], []⟩) rfl rfl rfl b7 s7 Q;have f7:Fr (λy=>y=t) h6 h7:=⟨ae,λy _ hn=>Q y hn⟩;have D7:=A.frame f7 (λy f e=>nt (e▸f));refine gg.gp D7 λh8 J f8=> ?_;rw[Zd ae]at J⊢;dsimp only at J⊢;refine⟨_,rfl,?_⟩;have u7:=u6.step n';have z1:=u1.fr.1;have u8:xX h X h8:=⟨u7.fr.fresh f8 (λy e=>by rw[e];omega),u7.ge⟩;have H8:Ct h8 t X ⟨[],s.next,s.fG,s.over,s.gone, [], []⟩:=Ct.frame ⟨_,_,_,_,_,_,_,H7⟩ f8 (λy f e=>bN (K.lt y f));clear H7 b7 Q o D7 A w r D I;refine aB.of λp' hJ=>gg.mX J ⟨_,rfl,?_⟩;have e0:(oA 0 [] !=0)=false:=cW
 rw[e0,dz,fc];rw[af (by simp;omega)];obtain⟨m,x,a1,S1,a2,S2,l',q⟩:=id H8;have q1:=G.ok.zj;refine ar.2 ⟨_,ai q.cN,?_⟩;rw[af (by simp;omega)];refine ar.2 ⟨_,ai q.cN,ar.2 ⟨_,ai q.cN,ar.2 ⟨_,ai q.cN,ar.2 ⟨_,ai q.cN,?_⟩⟩⟩⟩;have ef:(IntKind.wrap .i64 ((s.next:Int) - 1) !=IntKind.wrap .i64 (IntKind.wrap .i64 (IntKind.wrap .i64 ((s.fG:Int)+(s.over:Int))+(s.gone:Int))+(s.L.length:Int)))=false:=by rw[fc,dJ (n:=(s.fG:Int)+(s.over:Int)) ae ae,dJ (n:=(s.fG:Int)+(s.over:Int)+(s.gone:Int)) ae ae,fc];simp;omega
 rw[ef];subst hJ;dsimp only;rw[dz];refine⟨⟨by first|trivial|omega,by first|trivial|omega⟩,?_⟩;refine⟨λc' i g=> ∃(j:Nat)(a:CF)(E:Ft),i=(j:Int)/\j<=s.L.length/\Part s j a/\Ct g t E a/\xX h E g/\∀z,s.L[j]? =some z->c'<(z.num:Int),λ_ i _=>s.L.length - i.toNat,⟨0,_,X,rfl,ae,Part.nil,H8,u8,λz d=> ?_⟩,?_⟩;have:=(G.ok.bd z (aG d)).1;omega;rintro c' _ g ⟨j,a,E,rfl,hj,P,C,u,j'⟩;have M:(l - Int.toNat 1:Nat)=s.L.length:=by show l - 1=_;omega
 by_cases k':j<s.L.length
 .rw[ag (by rw[M];simp;omega)];refine⟨⟨by first|trivial|omega,by rw[M];omega⟩,?_⟩;have⟨z,d⟩:=lP k';have⟨e',O⟩:=OK V j;have ew:e'.b=recC z:=by
   have b:(V.map BV.b)[j]? =(s.L.map recC)[j]? :=by rw[es]
   rw[aN,aN,O,d]at b;exact bF b
  have L:=B.on u.fr;have U:Row g (cE (some g') c (Int.toNat 1) 1) (V.flatMap ie):=by
   have b:=L.row.sub (cap:=c) (l:=1) (u:=l) (sz:=1) ae L.cap;have e1:((v::V).flatMap ie).take (l*1)=(v::V).flatMap ie:=aX (by
    have fl: ∀x:List BV,(x.flatMap ie).length=x.length:=λx=>by induction x with|nil=>rfl|cons _ _ ih=>simp[ih]
    rw[fl];simp;omega)
   rw[e1]at b;exact b
  obtain⟨a5,h'⟩:=U.any dZ;rw[h']at U⊢;have cw:=(U.fa dZ O).1;rw[cj]at cw;have d':=L.each e' (bQ _ (aG O));rw[ew]at d';have Z:=aG d;have bz:=G.ok.bd z Z;refine ar.2 ⟨_,_,_,cw,SZ C (P.small G C.ord ae) (G.all z Z) (G.may z Z) (G.fr z Z) (j' z d) (λy f=>by rw[P.L]at f;exact Gd T d f) bz.1 (by rw[P.next];exact bz.2.1) ?_ d' (by rw[ew]) (tb.on u.fr) (mx.on u.fr) λg2 X2 H2 m'=>⟨_,_,rfl,?_⟩⟩;have b:=G.full z.e;have h2:(nF s.L z.e).length=(nF (s.L.take j) z.e).length+(nF (s.L.drop j) z.e).length:=by unfold nF;rw[<-aq,<-fz,fM]
  have h3:0<(nF (s.L.drop j) z.e).length:=by
   refine List.length_pos_iff.2 (List.ne_nil_of_mem (a:=z) (bD.2 ⟨?_,bt⟩));have:(s.L.drop j)[0]? =some z:=by rw[fC];exact d
   exact aG this
  rw[P.L];omega;rw[dz,fc];refine⟨⟨j+1,Gc a z,X2,ae,ae,P.step T d,H2,u.step m',λy f=> ?_⟩,by grind⟩;have:z∈s.L.take (j+1):=by rw[aV,d];simp
  have:=Gd T f this;omega
 rw[af (by rw[M];simp;omega)];obtain rfl:j=s.L.length:=ae
 have:=P.all G f' C.ord;subst this;exact k1 g t E C u

end gi
end
section
namespace Ask
open ju (Ev mh)
open dV (SS Good Pt oF Mk Bk)
open gg
variable {V:cQ→Bool} {h d H f g:aA} {R:fp} {s k c:Nat} {X:Ft} {I:oF} {a:SS} {p q:bZ}
variable {l:Nat} {b:List (cQ)}
def BL.BJ{S:gF}(B:BL H h p l c b)(F:Fr S h d)(m: ∀y,H.size<=y->¬S y):BL H d p l c b:=by obtain⟨u,D,f,n,o,r,i,j⟩:=B;exact⟨u,D,f,n.frame F (λy e=>m y (j y e)),o,λx t=>(r x t).frame F (λy e=>m y (i y e).1),λy e=>⟨(i y e).1,bX (i y e).2.1 F.1,(i y e).2.2⟩,j⟩
def Vg{G n:aA}{m e:Nat}{i:List (cQ)}(B:BL G h p l c b)(C:BL n h q m e i)(r:i=b)(w:b.length<=1000000)(o:R (.B true) h):Cl 12 #[.L p l c,.L q m e] h R:=by subst r;have v:=B.len;obtain⟨x,t,E⟩:=B.AD;obtain⟨y,u,j⟩:=C.AD;refine gg.jv t u ae ?_;rw[E,j,aC rfl];exact o
def Ge(a:SS):List (cQ):=dV.x4 a::dV.rL a
def tD(E:En V H h s X I a k):(Ge a).length<=1000000:=by
 have m:=eM.tD E.G.a;have M:=E.G.a.le;have e:=E.G.g.len;have i:(gi.iX a.C).length=a.C.L.length+1:=by unfold gi.iX;simp
 have j:=E.G.c.L;have n:(gI.iE a.B).length=a.B.items.length+1:=by unfold gI.iE;simp
 obtain⟨L,o⟩:=E.H.okB;have r:=o.le;have:=E.hk;unfold Ge dV.rL;simp only[ba,aq,aw];omega

end Ask
end
section
variable {h:aA} {R:fp}
def tM{L:bZ}{l p':Nat}{C:Int} (hv:Cl 5 #[] h λK' c'=>av.EX λD=>K'=D.agg/\Cl 4 #[D.agg] c' λL' j'=> ∃T E,L'=.T #[.Q T,.I E]/\Cl 5 #[] j' λT' n'=>av.EX λF=>T'=F.agg/\Cl 4 #[F.agg] n' λU' c=> ∃j G,U'=.T #[.Q j,.I G]/\aB (λ(y':Bool) y=>ite y' (R (.B false) y) (∃(I:bZ->kj)(M:bZ->kG),I j 0 y/\∀t i d,I t i d->aB (λ(z':Bool) f=>ite z' (Bd i l/\aH L λa=>aR.cJ f (a.add (toNat i*24)) λA'=>Cl 6 #[A'.agg] f λV' g=> ∃K,V'=.B K/\ite K (Cl 7 #[] g λX' o'=> ∃O,X'=.B O/\R (.B O) o') (aB (λ(m:bZ) r=>Bd i l/\aH L λa'=>aR.cJ r (a'.add (toNat i*24)) λF'=>Cl 10 #[.Q T,F'.agg] r λZ' d'=>aj.EX λQ=> ∃S,Z'=.T #[Q.agg,.I S]/\aj.NW d' λb e'=>aj.dv e' (AA b 0) Q λs=>Bd i l/\aH L λb'=>aR.cJ s (b'.add (toNat i*24)) λG'=>Cl 10 #[.Q m,G'.agg] s λa0 f'=>aj.EX λU=> ∃V,a0=.T #[U.agg,.I V]/\aj.NW f' λB g'=>aj.dv g' (AA B 0) U λH=>aB (λ(J':Bool) e=>ite J' (R (.B false) e) ((I m (wrap .i64 (i+1)) e/\M m (wrap .i64 (i+1)) e<M t i d))) (λp=>ite (S !=V) (p true H) (aj.cJ H (AA b 0) λH'=>aj.cJ H (AA B 0) λI'=>Cl 11 #[H'.agg,I'.agg] H λa1 h'=> ∃X,a1=.B X/\p (!X) h'))) (λo=>ite (i==C) (Cl 9 #[.Q t] g λa2 i'=>Vl a2 λD' C' B'=>Cl 8 #[.L D' C' B'] i' λM' u=> ∃k P,M'=.T #[.Q k,.I P]/\aB (λ(E':Bool) v=>ite E' (R (.B false) v) (o k v)) (λq=>ite (P !=0) (q true u) (q k.isNone u))) (o t g)))) (Cl 7 #[] f λO' w=> ∃Z,O'=.B Z/\ite Z (Cl 9 #[.Q T] w λP' k'=>Vl P' λs' r' q'=>Cl 9 #[.Q t] k' λQ' l'=>Vl Q' λv' u' t'=>Cl 12 #[.L s' r' q',.L v' u' t'] l' λR' x=> ∃z,R'=.B z/\ite z (Cl 9 #[.Q T] x λS' m'=> ∃x' A w',S'=.L x' A w'/\R (.B (decide (((A:Nat):Int)>0))) m') (R (.B false) x)) (R (.B false) w))) (λn=>ite (decide (i<(l:Int))) (n (decide (i<50)) d) (n false d)))) (λJ=>ite (E !=0) (J true c) (ite (G !=0) (J true c) (ite T.isNone (J true c) (J j.isNone c))))):Cl 3 #[.L L l p',.I C] h R:=aP [(8,.join [(39,sB)]),(18,.loop [(7,sP),(9,sI)]),(21,.join [(47,sB)]),(38,.join [(7,sP)]),(43,.join [(70,sB)]),(56,.join [(98,sB)])] hv

end
def GZ{H:Type}{E:TypeId×Value->H}{C:Checked}{o:Os}{f:FuncId}{F:Func}{s:ChangeSpec}{l:List PathCond}{A m n k:Bool}{a:Assume}{X:World->Array Value->Prop}(u: ∀(w p:World)(args:Array Value),w.heap=p.heap->X w args->X p args)(J:ownKnob C.prog.godebug=none)(K:o.Started)(I:C.prog.inits.idxOf? f=none)(x:C.prog.funcs[f]? =some F)(L: ∃(w:World)(T:Tape)(i:Input),w.os=o/\(w.forCall T i).Shaped C.prog/\i.vars= []/\Input.okWide C.prog (w.forCall T i) .any w.heap.size f i/\
   ((s.pre E C.prog F l A (w.forCall T i).memory i.args/\X (w.forCall T i).memory i.args)/\sizedMet E C.prog F (OpenSpec.ofChange s) A (w.forCall T i).memory i.args)/\a.holds C.prog (lone (Frame.enter C.prog f i.args .normal) [] (w.forCall T i)))(r: ∀(b:World)(q:Nat)(args:Array Value)(d G:List (DataW H))(B:List MemPlace),b.ShapedOpen C.prog->(∀(j:Nat) t v,F.params[j]? =some t->args[j]? =some v->Value.okWide C.prog b .any q t v)->
   DataW.Whole E C.prog F.params.toList s.vars A b args.toList d G B->X b args->Calls C.prog f args b λe c=> ∃v,e=.returned v/\s.post E C.prog F A m n k b args v c):
  ReturnsInHanded a C o f .any (λw args=>(s.pre E C.prog F l A w args/\X w args)/\sizedMet E C.prog F (OpenSpec.ofChange s) A w args) (s.post E C.prog F A m n k):=
 returnsInHanded_of_calls J K I L λw T i _ S _ O pre _=>by have⟨_,_,_,g,y,_,_,_,_,V⟩:=O;cases bF (y.symm.trans x);have⟨⟨⟨d,G,B,z,_⟩,D⟩,_⟩:=pre;refine(r (w.forCall T i) w.heap.size i.args d G B S V (DataW.Whole.of_heap (by rfl) z) (u _ _ _ (by rfl) D)).mono λe c h=> ?_;obtain⟨v,rfl,h⟩:=h;exact ChangeSpec.post_blind h
def jS.Mx.Qf{w:World}(h:w.ShapedOpen Tryz.prog):jS.Mx w.heap:=by obtain⟨m,H⟩:=cell_of_shapedOpen_int (g:=1) (t:=3) (zero:= #[.I 0]) (k:=.i64) h (bk cZ) cZ rfl cZ cZ cZ;rw[mT]at H;exact⟨m,H⟩

section
namespace jS
def nE.AI{w:World}{l:List (String×DataW Unit)}{s:String}(k:Tryz.prog.globalNamed s=some 0)(h:laidMet Tryz.prog l w)(j:(s,Lib.tabData .u64 Lib.pow10Tab)∈l):nE w.heap:=by
 obtain⟨g,t,C,F,p,a,m,d,i⟩:=Lib.laidMet.reads h j;have a:Tryz.prog.globalNamed s=some g:=a;unfold World.var? at d;rw[a]at d;have H:(match w.heap[g]? with|some (.cells C _ _)=>some C|_=>none)=some C:=d;cases b:w.heap[g]? with
 |none=>rw[b]at H;cases H
 |some o=>
  rw[b]at H;cases o with
  |cells c T f=>
   obtain rfl:c=C:=bF H;have E:g=0:=bF (a.symm.trans k);subst E;refine⟨T,f,?_⟩;have n:t=335:=by
    have e:(Tryz.prog.globals[(0:Nat)]?).map (·.type)=some 335:=cZ
    exact bF (m.symm.trans e)
   subst n;have:=Lib.cells_of_tab (n:=20) (e:=27) cZ cZ cZ cZ i;rw[b,<-this]
  |_=>cases H

end jS
end
section
variable {h:aA} {R:fp}
def nJ{S:bZ}{s i:Nat} (H:Bd 0 s/\aH S λa=>NC h (a.add (toNat 0*1)) λT=>Bd 1 s/\aH S λA=>NC h (A.add (toNat 1*1)) λj=>Bd 2 s/\aH S λb=>NC h (b.add (toNat 2*1)) λk=>Bd 3 s/\aH S λc=>NC h (c.add (toNat 3*1)) λl=>Bd 4 s/\aH S λd=>NC h (d.add (toNat 4*1)) λm=>Bd 5 s/\aH S λe=>NC h (e.add (toNat 5*1)) λn=>Bd 6 s/\aH S λf=>NC h (f.add (toNat 6*1)) λo=>Bd 7 s/\aH S λg=> ∃t,aU h (g.add (toNat 7*1))=some (.int .u8 t)/\R (.U (wrap .u64 ((pG (wrap .u64 ((pG (wrap .u64 ((pG (wrap .u64 ((pG (wrap .u64 ((pG (wrap .u64 ((pG (wrap .u64 ((pG (wrap .u64 T)|||pG (wrap .u64 ((wrap .u64 j)*2 ^ min (toNat 8) (IntKind.bits .u64)))).toNat:Int))|||pG (wrap .u64 ((wrap .u64 k)*2 ^ min (toNat 16) (IntKind.bits .u64)))).toNat:Int))|||pG (wrap .u64 ((wrap .u64 l)*2 ^ min (toNat 24) (IntKind.bits .u64)))).toNat:Int))|||pG (wrap .u64 ((wrap .u64 m)*2 ^ min (toNat 32) (IntKind.bits .u64)))).toNat:Int))|||pG (wrap .u64 ((wrap .u64 n)*2 ^ min (toNat 40) (IntKind.bits .u64)))).toNat:Int))|||pG (wrap .u64 ((wrap .u64 o)*2 ^ min (toNat 48) (IntKind.bits .u64)))).toNat:Int))|||pG (wrap .u64 ((wrap .u64 t)*2 ^ min (toNat 56) (IntKind.bits .u64)))).toNat:Int))) h):Cl 351 #[.L S s i] h R:=aP [(5,λ_=>pN 23),(9,λ_=>pN 47)] H
def rP{K:bZ}{f E:Nat} (hv:((0:Int)<=(f:Int)/\(f:Int)<=(E:Int))/\((0:Int)<=(f:Int)/\(f:Int)<=(f:Int))/\∃(I:bZ->Nat->Nat->dw)(M:bZ->Nat->Nat->aA->Nat),I (cE K (toNat (f:Int)) 0 1) (toNat (f:Int)) (toNat (f:Int)) h/\∀a p P e,I a p P e->ite (decide (((p:Nat):Int)>0)) (aB (λ(L:bZ) (G F:Nat) y=>(I L G F y/\M L G F y<M a p P e)) (λJ=>Bd 0 p/\aH a λl'=> ∃T,aU e (l'.add (toNat 0*1))=some (.int .u8 T)/\ite (decide (T<128)) (((0:Int)<=1/\1<=((p:Nat):Int))/\aB (λ(b1:Bool) n=>aB (λ(Z':bZ) (S' M':Nat) J'=>J Z' S' M' J') (λr=>ite b1 (((0:Int)<=8/\8<=((p - (toNat 1):Nat):Int))/\aB (λ(b3:Bool) C=>aB (λ(a0:bZ) (T' O':Nat) K'=>r a0 T' O' K') (λu=>ite b3 (((0:Int)<=16/\16<=(((p - (toNat 1)) - (toNat 8):Nat):Int))/\∃(l:bZ->Nat->Nat->dw)(D:bZ->Nat->Nat->aA->Nat),l (cE (cE (cE a P (toNat 1) 1) (P - (toNat 1)) (toNat 8) 1) ((P - (toNat 1)) - (toNat 8)) (toNat 16) 1) (((p - (toNat 1)) - (toNat 8)) - (toNat 16)) (((P - (toNat 1)) - (toNat 8)) - (toNat 16)) C/\∀g d c k,l g d c k->aB (λ(b7:Bool) o=>ite b7 (((0:Int)<=32/\32<=((d:Nat):Int))/\(l (cE g c (toNat 32) 1) (d - (toNat 32)) (c - (toNat 32)) o/\D (cE g c (toNat 32) 1) (d - (toNat 32)) (c - (toNat 32)) o<D g d c k)) (u g d c o)) (λv=>ite (decide (((d:Nat):Int)>32)) (((0:Int)<=8/\8<=((d:Nat):Int))/\((0:Int)<=16/\16<=((d:Nat):Int))/\((0:Int)<=24/\24<=((d:Nat):Int))/\Cl 351 #[.L g d c] k λc0 L'=>Vu c0 λb4=>Cl 351 #[.L (cE g c (toNat 8) 1) (d - (toNat 8)) (c - (toNat 8))] L' λc1 y'=>Vu c1 λb5=>Cl 351 #[.L (cE g c (toNat 16) 1) (d - (toNat 16)) (c - (toNat 16))] y' λc2 z'=>Vu c2 λb6=>Cl 351 #[.L (cE g c (toNat 24) 1) (d - (toNat 24)) (c - (toNat 24))] z' λc3 A'=> ∃g',c3=.U g'/\v ((wrap .u64 ((pG (wrap .u64 ((pG (wrap .u64 ((pG b4|||pG b5).toNat:Int))|||pG (wrap .u64 ((pG b6|||pG g').toNat:Int))).toNat:Int)) &&& pG 9259542123273814144).toNat:Int))==0) A') (v false k))) (u (cE (cE a P (toNat 1) 1) (P - (toNat 1)) (toNat 8) 1) ((p - (toNat 1)) - (toNat 8)) ((P - (toNat 1)) - (toNat 8)) C))) (λs=>ite (decide ((((p - (toNat 1)) - (toNat 8):Nat):Int)>16)) (((0:Int)<=8/\8<=(((p - (toNat 1)) - (toNat 8):Nat):Int))/\Cl 351 #[.L (cE (cE a P (toNat 1) 1) (P - (toNat 1)) (toNat 8) 1) ((p - (toNat 1)) - (toNat 8)) ((P - (toNat 1)) - (toNat 8))] n λc4 B'=>Vu c4 λb2=>Cl 351 #[.slice (cE (cE (cE a P (toNat 1) 1) (P - (toNat 1)) (toNat 8) 1) ((P - (toNat 1)) - (toNat 8)) (toNat 8) 1) (((p - (toNat 1)) - (toNat 8)) - (toNat 8)) (((P - (toNat 1)) - (toNat 8)) - (toNat 8))] B' λc5 C'=> ∃f',c5=.U f'/\s ((wrap .u64 ((pG (wrap .u64 ((pG b2|||pG f').toNat:Int)) &&& pG 9259542123273814144).toNat:Int))==0) C') (s false n))) (r (cE a P (toNat 1) 1) (p - (toNat 1)) (P - (toNat 1)) n))) (λq=>ite (decide (((p - (toNat 1):Nat):Int)>8)) (Cl 351 #[.L (cE a P (toNat 1) 1) (p - (toNat 1)) (P - (toNat 1))] e λc6 D'=> ∃e',c6=.U e'/\q ((wrap .u64 ((pG e' &&& pG 9259542123273814144).toNat:Int))==0) D') (q false e))) (Bd T 256/\NC e (((AA 6 0):Addr).add (toNat T*1)) λt=>Bd (Int.fdiv t (2 ^ min (toNat 4) (IntKind.bits .u8))) 16/\∃h',aU e (((AA 7 0):Addr).add (toNat (Int.fdiv t (2 ^ min (toNat 4) (IntKind.bits .u8)))*2))=some (.int .u8 h')/\∃i',aU e ((((AA 7 0):Addr).add (toNat (Int.fdiv t (2 ^ min (toNat 4) (IntKind.bits .u8)))*2)).add 1)=some (.int .u8 i')/\aW e (.C #[.int .u8 0,.int .u8 0] 458) λb E'=>aO E' (AA b 0) (.int .u8 h') λF'=>aO F' (AA b 1) (.int .u8 i') λH=>aB (λ(a1:bZ) (U' P':Nat) G'=>J a1 U' P' G') (λk'=>aB (λ(a2:bZ) (V' Q':Nat) H'=>k' a2 V' Q' H') (λw=>ite ((wrap .i64 (wrap .u8 ((uY t &&& uY 7).toNat:Int)))==2) (aB (λ(a4:Bool) z=>ite a4 (R (.B false) z) (((0:Int)<=2/\2<=((p:Nat):Int))/\w (cE a P (toNat 2) 1) (p - (toNat 2)) (P - (toNat 2)) z)) (λm=>ite (decide (((p:Nat):Int)<2)) (m true H) (Bd 1 p/\aH a λm'=>NC H (m'.add (toNat 1*1)) λb8=> ∃j',Cc H b 0 (.int .u8 j')/\ite (decide (b8<j')) (m true H) (Hy H b 1 λb9=>Bd 1 p/\aH a λq'=> ∃O,aU H (q'.add (toNat 1*1))=some (.int .u8 O)/\m (decide (b9<O)) H)))) (aB (λ(a3:bZ) (X' R':Nat) I'=>w a3 X' R' I') (λx=>ite ((wrap .i64 (wrap .u8 ((uY t &&& uY 7).toNat:Int)))==3) (aB (λ(a7:Bool) A=>ite a7 (R (.B false) A) (((0:Int)<=3/\3<=((p:Nat):Int))/\x (cE a P (toNat 3) 1) (p - (toNat 3)) (P - (toNat 3)) A)) (λi=>ite (decide (((p:Nat):Int)<3)) (i true H) (Bd 1 p/\aH a λr'=>NC H (r'.add (toNat 1*1)) λa5=> ∃Q,Cc H b 0 (.int .u8 Q)/\ite (decide (a5<Q)) (i true H) (Hy H b 1 λa6=>Bd 1 p/\aH a λs'=> ∃S,aU H (s'.add (toNat 1*1))=some (.int .u8 S)/\ite (decide (a6<S)) (i true H) (Bd 2 p/\aH a λt'=> ∃U,aU H (t'.add (toNat 2*1))=some (.int .u8 U)/\ite (decide (U<128)) (i true H) (Bd 2 p/\aH a λu'=> ∃V,aU H (u'.add (toNat 2*1))=some (.int .u8 V)/\i (decide (191<V)) H)))))) (ite ((wrap .i64 (wrap .u8 ((uY t &&& uY 7).toNat:Int)))==4) (aB (λ(b0:Bool) B=>ite b0 (R (.B false) B) (((0:Int)<=4/\4<=((p:Nat):Int))/\x (cE a P (toNat 4) 1) (p - (toNat 4)) (P - (toNat 4)) B)) (λj=>ite (decide (((p:Nat):Int)<4)) (j true H) (Bd 1 p/\aH a λv'=>NC H (v'.add (toNat 1*1)) λa8=> ∃X,Cc H b 0 (.int .u8 X)/\ite (decide (a8<X)) (j true H) (Hy H b 1 λa9=>Bd 1 p/\aH a λw'=> ∃Z,aU H (w'.add (toNat 1*1))=some (.int .u8 Z)/\ite (decide (a9<Z)) (j true H) (Bd 2 p/\aH a λx'=> ∃a',aU H (x'.add (toNat 2*1))=some (.int .u8 a')/\ite (decide (a'<128)) (j true H) (Bd 2 p/\aH a λn'=> ∃b',aU H (n'.add (toNat 2*1))=some (.int .u8 b')/\ite (decide (191<b')) (j true H) (Bd 3 p/\aH a λo'=> ∃c',aU H (o'.add (toNat 3*1))=some (.int .u8 c')/\ite (decide (c'<128)) (j true H) (Bd 3 p/\aH a λp'=> ∃d',aU H (p'.add (toNat 3*1))=some (.int .u8 d')/\j (decide (191<d')) H)))))))) (R (.B false) H))))))))) (R (.B true) e)):Cl 333 #[.L K f E] h R:=aP [(6,.loop [(0,sS)]),(13,.join [(0,sS)]),(24,.join [(31,sB)]),(25,.join [(0,sS)]),(29,.join [(46,sB)]),(29,λ_=> .ni (lO [0,1,2,3,4,6,7,5,8,9,10,11,12] .done)),(30,.join [(0,sS)]),(34,.loop [(0,sS)]),(37,.join [(69,sB)]),(37,λ_=> .ni (lO [0,1,2,3,4,6,7,10,11,13,14,5,8,9,12,15,16,17,18,19,20] .done)),(55,.join [(0,sS)]),(58,.join [(0,sS)]),(61,.join [(103,sB)]),(61,λ_=>pN 19),(70,.join [(0,sS)]),(73,.join [(138,sB)]),(73,λ_=>pN 31),(85,.join [(185,sB)]),(85,λ_=>pN 43)] hv

end
section
namespace Cb
variable {h j H g:aA} {R:fp} {p:bZ} {l c:Nat} {b d:cQ} {FT A0 A1:Nat→Int}
variable {A B:Prop}
def bI(b:cQ)(i:Nat):Int:=((b.getD i 0).toNat:Int)
def Yu(a e f i k m n o:Int):Int:=(IntKind.wrap .u64 ((BitVec.ofInt (IntKind.bits .u64) (IntKind.wrap .u64 ((BitVec.ofInt (IntKind.bits .u64) (IntKind.wrap .u64 ((BitVec.ofInt (IntKind.bits .u64) (IntKind.wrap .u64 ((BitVec.ofInt (IntKind.bits .u64) (IntKind.wrap .u64 ((BitVec.ofInt (IntKind.bits .u64) (IntKind.wrap .u64 ((BitVec.ofInt (IntKind.bits .u64) (IntKind.wrap .u64 ((BitVec.ofInt (IntKind.bits .u64) (IntKind.wrap .u64 a)|||BitVec.ofInt (IntKind.bits .u64) (IntKind.wrap .u64 ((IntKind.wrap .u64 e)*2 ^ min (Int.toNat 8) (IntKind.bits .u64)))).toNat:Int))|||BitVec.ofInt (IntKind.bits .u64) (IntKind.wrap .u64 ((IntKind.wrap .u64 f)*2 ^ min (Int.toNat 16) (IntKind.bits .u64)))).toNat:Int))|||BitVec.ofInt (IntKind.bits .u64) (IntKind.wrap .u64 ((IntKind.wrap .u64 i)*2 ^ min (Int.toNat 24) (IntKind.bits .u64)))).toNat:Int))|||BitVec.ofInt (IntKind.bits .u64) (IntKind.wrap .u64 ((IntKind.wrap .u64 k)*2 ^ min (Int.toNat 32) (IntKind.bits .u64)))).toNat:Int))|||BitVec.ofInt (IntKind.bits .u64) (IntKind.wrap .u64 ((IntKind.wrap .u64 m)*2 ^ min (Int.toNat 40) (IntKind.bits .u64)))).toNat:Int))|||BitVec.ofInt (IntKind.bits .u64) (IntKind.wrap .u64 ((IntKind.wrap .u64 n)*2 ^ min (Int.toNat 48) (IntKind.bits .u64)))).toNat:Int))|||BitVec.ofInt (IntKind.bits .u64) (IntKind.wrap .u64 ((IntKind.wrap .u64 o)*2 ^ min (Int.toNat 56) (IntKind.bits .u64)))).toNat:Int))
def CY(b:cQ):Int:=Yu (bI b 0) (bI b 1) (bI b 2) (bI b 3) (bI b 4) (bI b 5) (bI b 6) (bI b 7)
def Yw(n:Int):Bool:=(IntKind.wrap .u64 ((BitVec.ofInt (IntKind.bits .u64) n &&& BitVec.ofInt (IntKind.bits .u64) 9259542123273814144).toNat:Int))==0
def Xy(a b:Int):Int:=IntKind.wrap .u64 ((BitVec.ofInt (IntKind.bits .u64) a|||BitVec.ofInt (IntKind.bits .u64) b).toNat:Int)
def Gg(b:cQ):Bool:=decide (b.length>32) && Yw (Xy (Xy (CY b) (CY (b.drop 8))) (Xy (CY (b.drop 16)) (CY (b.drop 24))))
def IA(b:cQ):Bool:=decide (b.length>16) && Yw (Xy (CY b) (CY (b.drop 8)))
def Qg(b:cQ):Bool:=decide (b.length>8) && Yw (CY b)
def AJ:Nat->cQ->cQ
 |0,b=>b
 |f+1,b=>if Gg b=true then AJ f (b.drop 32)else b
def LN(b:cQ):cQ:=if Qg b=true then(if IA (b.drop 8)=true then AJ (b.length+1) ((b.drop 8).drop 16)else b.drop 8)else b
def uc(x:Int):Int:=IntKind.wrap .i64 (IntKind.wrap .u8 ((BitVec.ofInt (IntKind.bits .u8) x &&& BitVec.ofInt (IntKind.bits .u8) 7).toNat:Int))
def DA(x:Int):Int:=Int.fdiv x (2 ^ min (Int.toNat 4) (IntKind.bits .u8))
def rQ(n:Nat)(L a:Int)(b:cQ):Bool:=decide (b.length<n)||(decide (bI b 1<L)||decide (a<bI b 1))
def ud(b:cQ)(i:Nat):Bool:=decide (bI b i<128)||decide (191<bI b i)
def CZ(FT A0 A1:Nat->Int)(b:cQ):Option (cQ):=
 if bI b 0<128 then some (LN (b.drop 1))
 else if uc (FT (bI b 0).toNat)=2 then(if rQ 2 (A0 (DA (FT (bI b 0).toNat)).toNat) (A1 (DA (FT (bI b 0).toNat)).toNat) b=true then none else some (b.drop 2))
 else if uc (FT (bI b 0).toNat)=3 then(if(rQ 3 (A0 (DA (FT (bI b 0).toNat)).toNat) (A1 (DA (FT (bI b 0).toNat)).toNat) b||ud b 2)=true then none else some (b.drop 3))
 else if uc (FT (bI b 0).toNat)=4 then(if(rQ 4 (A0 (DA (FT (bI b 0).toNat)).toNat) (A1 (DA (FT (bI b 0).toNat)).toNat) b||(ud b 2||ud b 3))=true then none else some (b.drop 4))
 else none
def Vh(n:cQ->Option (cQ)):Nat->kF
 |0,_=>true
 |f+1,b=>if b.length=0 then true else match n b with|none=>false|some r=>Vh n f r
def Cr(FT A0 A1:Nat->Int)(f:Nat)(b:cQ):Bool:=Vh (CZ FT A0 A1) f b
def UI(f:Nat):AJ (f+1) b=if Gg b=true then AJ f (b.drop 32)else b:=rfl
def LO(f:Nat):Cr FT A0 A1 (f+1) b=if b.length=0 then true else match CZ FT A0 A1 b with|none=>false|some r=>Cr FT A0 A1 f r:=by rfl
def IB: ∀(f:Nat)(b:cQ),(AJ f b).length<=b.length
 |0,b=>bu _
 |f+1,b=>by unfold AJ;split;exact cD (IB f _) bt;omega
def S0(b:cQ):(LN b).length<=b.length:=by
 unfold LN;split;split
 exact cD (IB _ _) bt;simp;omega
theorem Qh{r:cQ}(e:b.length≠0)(a:CZ FT A0 A1 b=some r):r.length<b.length:=by
 have D: ∀k,1<=k->(b.drop k).length<b.length:=λk f=>by grind
 unfold CZ at a
 repeat' split at a
 all_goals first|grind|(cases a;first|grind|exact Nat.lt_of_le_of_lt (S0 _) (D 1 cW))
structure JM (h:aA) (FT A0 A1:Nat->Int):Prop where
 f: ∀i,i<256->aU h ⟨6,i,none⟩=some (.int .u8 (FT i))/\0<=FT i/\FT i<256
 a: ∀i,i<16->aU h ⟨7,i*2,none⟩=some (.int .u8 (A0 i))/\aU h ⟨7,i*2+1,none⟩=some (.int .u8 (A1 i))
def JM.on(U:JM h FT A0 A1)(f:Fr No h H):JM H FT A0 A1:=⟨λi a=>⟨f.cell (U.f i a).1 id,(U.f i a).2⟩,λi a=>⟨f.cell (U.a i a).1 id,f.cell (U.a i a).2 id⟩⟩
structure Sl (h:aA) (p:bZ) (l c:Nat) (b:cQ):Prop where
 row:Row h p (bc b)
 len:l=b.length
 cap:l<=c
theorem Sl.drop(S:Sl h p l c b){k:Nat}(a:k<=b.length):Sl h (cE p c k 1) (l - k) (c - k) (b.drop k):=by have f:=S.len;have e:=S.cap;refine⟨?_,by grind,ae⟩;have:=S.row.sub (cap:=c) (sz:=1) a ae;rw[cC,cC]at this;unfold bc at this⊢;rw[aX bt]at this;rw[List.map_drop];exact this
def Sl.on(S:Sl h p l c b)(f:Fr No h H):Sl H p l c b:=⟨S.row.frame f bC,S.len,S.cap⟩
def Sl.at{i:Nat}(S:Sl h p l c b)(e:i<b.length): ∃a,p=some a/\aU h (a.add (i*1))=some (.int .u8 (bI b i)):=by have⟨a,E,f⟩:=byte_at S.row e;refine⟨a,E,?_⟩;unfold bI;rw[bx,au e];exact f
def Xi(b:cQ)(i:Nat):0<=bI b i/\bI b i<256:=by unfold bI;have:=(b.getD i 0).toNat_lt;omega
def Wg{x:Int}(j:0<=x)(a:x<256):0<=DA x/\DA x<16:=by have e:DA x=x/16:=Int.fdiv_eq_ediv_of_nonneg x cW;omega
theorem Qi{c:Prop}[Decidable c](e:c)(a:A):if c then A else B:=by grind
theorem Qj{c:Prop}[Decidable c](e: ¬c)(a:B):if c then A else B:=by grind
def tO(S:Sl h p l c b)(o:8<=b.length)(k:R (.U (CY b)) h):Cl 351 #[.L p l c] h R:=by
 have q:=S.len;obtain⟨a,rfl,n⟩:=S.at (i:=0) ae;have C: ∀i,i<b.length->aU h (a.add (i*1))=some (.int .u8 (bI b i)):=λi f=>by obtain⟨m,e,c⟩:=S.at (i:=i) f;cases e;exact c
 refine nJ ?_;refine⟨ae,ar.2 ⟨_,C 0 ae,ae,ar.2 ⟨_,C 1 ae,ae,ar.2 ⟨_,C 2 ae,ae,ar.2 ⟨_,C 3 ae,ae,ar.2 ⟨_,C 4 ae,ae,ar.2 ⟨_,C 5 ae,ae,ar.2 ⟨_,C 6 ae,ae,ar.2 ⟨_,C 7 ae,?_⟩⟩⟩⟩⟩⟩⟩⟩⟩;exact k
def Ta{vv:Bool}(hV:Cr FT A0 A1 (d.length+1) d=vv)(UT:JM h FT A0 A1)(y':Row h p (bc d))(hl:d.length<=1000000)(cap:d.length<=c)(M: ∀g,Fr No h g->R (.B vv) g):Cl 333 #[.L p d.length c] h R:=by
 refine rP ⟨ae,ae,λp l c g=>Fr No h g/\∃b f,Sl g p l c b/\b.length<f/\b.length<=1000000/\Cr FT A0 A1 f b=vv,λ_ l _ _=>l,⟨Fr.refl _ _,d,d.length+1,⟨by rw[kI];exact y',aK _,bu _⟩,Nat.lt_succ_self _,hl,hV⟩,?_⟩;clear hV;rintro p l c g ⟨X,b,f,S,hf,hb,I⟩;have D':=S.len;by_cases c0:b.length=0
 case pos=>
  rw[dz];have:Cr FT A0 A1 f b=true:=by
   cases f with
   |zero=>rfl
   |succ f=>rw[LO,ag c0]
  rw[I.symm.trans this]at M;exact M g X
 rw[ag (by simp only[bn];omega)];refine aB.of λu' hJ=> ?_;obtain⟨f,rfl⟩: ∃F,f=F+1:=⟨f - 1,ae⟩;rw[LO,af c0]at I;have n: ∀(G:aA)(p':bZ)(l' c':Nat)(w:cQ),Fr No g G->Sl G p' l' c' w->CZ FT A0 A1 b=some w->u' p' l' c' G:=by intro G p' l' c' w F S' hn;subst hJ;have E':=Qh c0 hn;rw[hn]at I;exact⟨⟨X.tt F,w,f,S',ae,ae,I⟩,by have:=S'.len;show l'<l;omega⟩
 have stop: ∀G,Fr No g G->CZ FT A0 A1 b=none->R (.B false) G:=by intro G F hn;rw[hn]at I;rw[<-I]at M;exact M G (X.tt F)
 clear hJ I M;obtain⟨n',rfl,ca⟩:=S.at (i:=0) ae;have n0:=Xi b 0;refine⟨ae,ar.2 ⟨_,ca,?_⟩⟩;by_cases c1:bI b 0<128;have E:CZ FT A0 A1 b=some (LN (b.drop 1)):=ag c1;rw[E]at n;clear stop E;rw[ag (aC c1)];refine⟨ae,aB.of λJ1 v'=> ?_⟩;have P:=S.drop (k:=1) ae;generalize hr:b.drop 1=r at n P;have r': ∀v,v=Qg r->J1 v g:=by
  intro v a;subst v';refine aB.of λJ2 e'=> ?_;cases y:Qg r with
  |false=>rw[a,y,dz];subst e';exact n g _ _ _ _ (Fr.refl _ _) P (by unfold LN;rw[y];rfl)
  |true=>
  rw[a,y,ag rfl];have l8:r.length>8:=by unfold Qg at y;simp only[aZ,bn]at y;exact y.1
  have T:=P.drop (k:=8) ae;have h':=P.len;refine⟨⟨ae,by show(8:Int)<=((l - 1:Nat):Int);omega⟩,aB.of λJ3 w'=> ?_⟩;have s': ∀v,v=IA (r.drop 8)->J3 v g:=by
   intro v a;subst w';refine aB.of λJ4 o'=> ?_;cases O:IA (r.drop 8)with
   |false=>rw[a,O,dz];subst o';subst e';exact n g _ _ _ _ (Fr.refl _ _) T (by unfold LN;rw[y,ag rfl,O];rfl)
   |true=>
   rw[a,O,ag rfl];have F':(r.drop 8).length>16:=by unfold IA at O;simp only[aZ,bn]at O;exact O.1
   have S3:=T.drop (k:=16) ae;have d':=T.len;have eF:LN r=AJ (r.length+1) ((r.drop 8).drop 16):=by unfold LN;rw[y,ag rfl,O,ag rfl]
   rw[eF]at n;refine⟨⟨ae,by show(16:Int)<=((l - 1 - 8:Nat):Int);omega⟩,λp l c G=>G=g/\∃w F,Sl g p l c w/\w.length<F/\AJ F w=AJ (r.length+1) ((r.drop 8).drop 16),λ_ l _ _=>l,⟨rfl,_,_,S3,by rw[cR,cR];omega,rfl⟩,?_⟩;rintro p5 l5 c5 G ⟨rfl,b5,f5,D,B',V⟩;have C':=D.len;obtain⟨f5,rfl⟩: ∃F,f5=F+1:=⟨f5 - 1,ae⟩;rw[UI]at V;refine aB.of λJ5 x'=> ?_;have t': ∀v,v=Gg b5->J5 v G:=by
    intro v a;subst x';dsimp only;cases J:Gg b5 with
    |false=>rw[a,J,dz];rw[J,dz]at V;subst o';subst e';exact n G _ _ _ _ (Fr.refl _ _) D (by rw[V])
    |true=>
     rw[a,J,ag rfl];rw[J,ag rfl]at V;have G':b5.length>32:=by unfold Gg at J;simp only[aZ,bn]at J;exact J.1
     exact⟨ae,⟨rfl,_,f5,D.drop (k:=32) ae,by rw[cR];omega,V⟩,by show l5 - 32<l5;omega⟩
   by_cases q:b5.length>32;rw[gH];refine⟨ae,ae,ae,tO D ae ⟨_,rfl,tO (D.drop (k:=8) ae) (by rw[cR];omega) ⟨_,rfl,tO (D.drop (k:=16) ae) (by rw[cR];omega) ⟨_,rfl,tO (D.drop (k:=24) ae) (by rw[cR];omega) ⟨_,rfl,t' _ ?_⟩⟩⟩⟩⟩;unfold Gg;rw[aC q];rfl;rw[dz];exact t' false (by unfold Gg;rw[aT q];rfl)
  have d':=T.len;by_cases q:(r.drop 8).length>16;rw[ag (aC (by show((l - 1 - 8:Nat):Int)>16;have:l - 1 - 8=(r.drop 8).length:=d';omega))];refine⟨⟨ae,by show(8:Int)<=((l - 1 - 8:Nat):Int);have:l - 1 - 8=(r.drop 8).length:=d';omega⟩,tO T ae ⟨_,rfl,tO (T.drop (k:=8) ae) (by rw[cR];omega) ⟨_,rfl,s' _ ?_⟩⟩⟩;unfold IA;rw[aC q];rfl;rw[af (by simp only[bn];show¬((l - 1 - 8:Nat):Int)>16;have:l - 1 - 8=(r.drop 8).length:=d';omega)];exact s' false (by unfold IA;rw[aT q];rfl)
 have h':=P.len;by_cases q:r.length>8;rw[ag (aC (by show((l - 1:Nat):Int)>8;have:l - 1=r.length:=h';omega))];refine tO P ae ⟨_,rfl,r' _ ?_⟩;unfold Qg;rw[aC q];rfl;rw[af (by simp only[bn];show¬((l - 1:Nat):Int)>8;have:l - 1=r.length:=h';omega)];exact r' false (by unfold Qg;rw[aT q];rfl);obtain⟨x0,x1,x2⟩:=(UT.on X).f (bI b 0).toNat ae;have E:CZ FT A0 A1 b=_:=af c1;generalize FT (bI b 0).toNat=x at x0 x1 x2 E;have rr:=Wg x1 x2;obtain⟨y0,y1⟩:=(UT.on X).a (DA x).toNat ae;generalize A0 (DA x).toNat=L at y0 E;generalize A1 (DA x).toNat=o at y1 E;rw[dz];refine⟨ae,x,by rw[iP,bj,cC];exact x0,rr,L,by rw[iP,bj];exact y0,o,by rw[iP,iP,bj];exact y1,cg ?_⟩;have k':Fr No g (g.push (.C #[.int .u8 0,.int .u8 0] 458)):=Fr.push _ _;have i':(g.push (.C #[.int .u8 0,.int .u8 0] 458))[g.size]? =_:=bR;generalize g.push (.C #[.int .u8 0,.int .u8 0] 458)=z' at k' i'⊢;refine bf i' bt λA' a1 a2 a3=>bf a1 bt λm j' b2 b3=> ?_;have u:Fr No g m:=(k'.fresh (Fr.of_eq (S:=λb'=>b'=g.size) a2 a3) (λb' e=>ae)).fresh (Fr.of_eq (S:=λb'=>b'=g.size) b2 b3) (λb' e=>ae);have m':=S.on u;have C: ∀i,i<b.length->aU m (n'.add (i*1))=some (.int .u8 (bI b i)):=λi o=>by obtain⟨a',e,c⟩:=m'.at (i:=i) o;cases e;exact c
 have cl:aU m (AA g.size 0)=some (.int .u8 L):=ai j';have ch:aU m (AA g.size 1)=some (.int .u8 o):=ai j';have dr: ∀k,k<=b.length->Sl m (cE (some n') c k 1) (l - k) (c - k) (b.drop k):=λk M=>m'.drop M;refine aB.of λJ6 f'=>aB.of λJ7 g'=> ?_;by_cases s2:uc x=2;replace E:=E.trans (ag s2);refine Qi (show(uc x==2)=true from dQ.2 s2) (aB.of λU Z=> ?_);have K: ∀v,v=rQ 2 L o b->U v m:=by
  intro v a;subst Z;rw[<-a]at E;cases v with
  |true=>exact Qi rfl (stop m u (E.trans (ag rfl)))
  |false=>
   have l2:2<=b.length:=by simp[rQ]at a;omega
   refine Qj cW ⟨ae,?_⟩;subst g';subst f';exact n m _ _ _ _ u (dr 2 l2) (E.trans (dz))
 by_cases z:b.length<2;rw[gH];exact K true (by simp[rQ,z]);rw[dz];refine⟨ae,ar.2 ⟨_,C 1 ae,_,cl,?_⟩⟩;by_cases Q:bI b 1<L;rw[ag (aC Q)];exact K true (by simp[rQ,Q]);rw[af (dH Q)];exact⟨_,ch,ae,ar.2 ⟨_,C 1 ae,K _ (by simp[rQ,z,Q])⟩⟩;replace E:=E.trans (af s2);refine Qj (show¬(uc x==2)=true from λe=>s2 (dQ.1 e)) (aB.of λJ9 q'=> ?_);by_cases s3:uc x=3;replace E:=E.trans (ag s3);refine Qi (show(uc x==3)=true from dQ.2 s3) (aB.of λU Z=> ?_);have K: ∀v,v=(rQ 3 L o b||ud b 2)->U v m:=by
  intro v a;subst Z;rw[<-a]at E;cases v with
  |true=>exact Qi rfl (stop m u (E.trans (ag rfl)))
  |false=>
   have l2:3<=b.length:=by simp[rQ]at a;omega
   refine Qj cW ⟨ae,?_⟩;subst q';subst g';subst f';exact n m _ _ _ _ u (dr 3 l2) (E.trans (dz))
 by_cases z:b.length<3;rw[gH];exact K true (by simp[rQ,z]);rw[dz];refine⟨ae,ar.2 ⟨_,C 1 ae,_,cl,?_⟩⟩;by_cases Q:bI b 1<L;rw[ag (aC Q)];exact K true (by simp[rQ,Q]);rw[af (dH Q)];refine⟨_,ch,ae,ar.2 ⟨_,C 1 ae,?_⟩⟩;by_cases s:o<bI b 1;rw[ag (aC s)];exact K true (by simp[rQ,s]);rw[af (dH s)];refine⟨ae,ar.2 ⟨_,C 2 ae,?_⟩⟩;by_cases t:bI b 2<128;rw[ag (aC t)];exact K true (by simp[ud,t]);rw[af (dH t)];exact⟨ae,ar.2 ⟨_,C 2 ae,K _ (by simp[rQ,ud,z,Q,s,t])⟩⟩;replace E:=E.trans (af s3);refine Qj (show¬(uc x==3)=true from λe=>s3 (dQ.1 e)) ?_;by_cases s4:uc x=4;replace E:=E.trans (ag s4);refine Qi (show(uc x==4)=true from dQ.2 s4) (aB.of λU Z=> ?_);have K: ∀v,v=(rQ 4 L o b||(ud b 2||ud b 3))->U v m:=by
  intro v a;subst Z;rw[<-a]at E;cases v with
  |true=>exact Qi rfl (stop m u (E.trans (ag rfl)))
  |false=>
   have l2:4<=b.length:=by simp[rQ]at a;omega
   refine Qj cW ⟨ae,?_⟩;subst q';subst g';subst f';exact n m _ _ _ _ u (dr 4 l2) (E.trans (dz))
 by_cases z:b.length<4;rw[gH];exact K true (by simp[rQ,z]);rw[dz];refine⟨ae,ar.2 ⟨_,C 1 ae,_,cl,?_⟩⟩;by_cases Q:bI b 1<L;rw[ag (aC Q)];exact K true (by simp[rQ,Q]);rw[af (dH Q)];refine⟨_,ch,ae,ar.2 ⟨_,C 1 ae,?_⟩⟩;by_cases s:o<bI b 1;rw[ag (aC s)];exact K true (by simp[rQ,s]);rw[af (dH s)];refine⟨ae,ar.2 ⟨_,C 2 ae,?_⟩⟩;by_cases t:bI b 2<128;rw[ag (aC t)];exact K true (by simp[ud,t]);rw[af (dH t)];refine⟨ae,ar.2 ⟨_,C 2 ae,?_⟩⟩;by_cases q4:191<bI b 2;rw[ag (aC q4)];exact K true (by simp[ud,q4]);rw[af (dH q4)];refine⟨ae,ar.2 ⟨_,C 3 ae,?_⟩⟩;by_cases q5:bI b 3<128;rw[ag (aC q5)];exact K true (by simp[ud,q5]);rw[af (dH q5)];exact⟨ae,ar.2 ⟨_,C 3 ae,K _ (by simp[rQ,ud,z,Q,s,t,q4,q5])⟩⟩;refine Qj (show¬(uc x==4)=true from λe=>s4 (dQ.1 e)) ?_;exact stop m u (E.trans (af s4))
def JM.Ze(U:JM h FT A0 A1):mG (λd=>Cr FT A0 A1 (d.length+1) d) h:=λ_ _ _ _ _ f r e cap a=>Ta rfl (U.on f) r e cap a

end Cb
end
section
namespace Cb
def Qk: ∀i:Fin 256,Lib.firstT i.val<256:=cW
def JM.AI{w:World}{l:List (String×DataW Unit)}{S x:String}(z:Tryz.prog.globalNamed S=some 6)(A:Tryz.prog.globalNamed x=some 7)(h:laidMet Tryz.prog l w)(M:(S,Lib.firstData)∈l)(B:(x,Lib.acceptData)∈l): ∃V,mG V w.heap:=by
 refine⟨_,JM.Ze (FT:=λi=>(Lib.firstT i:Int)) (A0:=λi=>(Lib.accLo i:Int)) (A1:=λi=>(Lib.accHi i:Int)) ⟨λc r=> ?_,λi v=> ?_⟩⟩;obtain⟨g,t,y,F,p,a,n,k,m⟩:=Lib.laidMet.reads h M;obtain rfl:6=g:=bF (z.symm.trans a);obtain rfl:456=t:=by
  have e:(Tryz.prog.globals[(6:Nat)]?).map (·.type)=some 456:=cZ
  exact bF (e.symm.trans n)
 have b:=Lib.cells_of_tab (n:=256) (e:=5) cZ cZ cZ cZ m;have:=World.var?_cell a k c;rw[mT,<-dP,b]at this;refine⟨?_,Int.natCast_nonneg _,by have:Lib.firstT c<256:=Qk ⟨c,r⟩;show((Lib.firstT c:Nat):Int)<256;omega⟩;rw[this];simp[Lib.firstTab,r];obtain⟨g,t,y,F,p,a,n,k,m⟩:=Lib.laidMet.reads h B;obtain rfl:7=g:=bF (A.symm.trans a);obtain rfl:459=t:=by
  have e:(Tryz.prog.globals[(7:Nat)]?).map (·.type)=some 459:=cZ
  exact bF (e.symm.trans n)
 obtain⟨D,d,q,s,u⟩:=Lib.array_elem (n:=16) (e:=458) cZ m i v;simp only[aN,List.getElem?_range v,eu,cM]at s;subst s;have C:Tryz.prog.cellsOf 458=2:=cZ
 rw[C]at u;have b:=Lib.ints_of_struct (t:=458) (k:=.u8) (fs:= #[Go.Field.mk "lo" 5 0 false "" "unicode/utf8" 0,Go.Field.mk "hi" 5 1 false "" "unicode/utf8" 1]) cZ (λj f H=>by
  match j,H with
  |0,H=>simp at H;subst H;exact⟨cZ,rfl,cZ⟩
  |1,H=>simp at H;subst H;exact⟨cZ,rfl,cZ⟩
  |j+2,H=>simp at H) (by rw[C];rfl) u
 have E:=bV (·[0]?) b;have o:=bV (·[1]?) b;simp only[db,fC]at E o;constructor;have:=World.var?_cell a k (i*2);rw[mT,<-dP]at this;rw[this];simpa using E;have:=World.var?_cell a k (i*2+1);rw[mT,<-dP]at this;rw[this];simpa using o

end Cb
end
end Go.Proofs.YtelbcloplcdchaaGreatDoor
