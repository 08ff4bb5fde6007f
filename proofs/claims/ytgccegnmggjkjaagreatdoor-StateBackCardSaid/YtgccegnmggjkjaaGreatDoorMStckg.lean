/-
  What is proved here: parts of the proof, one behind the other (texts of this work, merged by a program; what the theorem does not use is left out). No condition.
-/
import Derived.RangeFuncLeaves
import Derived.RangeFuncRecord
import Derived.RangeFuncCalls
import Derived.OrdersIn
import Derived.Test.YtgccegnmggjkjaaGreatDoorMStckf
namespace Go.Den
def fw (r:Option Nat):Fence:= { Fence.wide with round:=r }
theorem calls_fw {r:Option Nat} {m:Nat} {P:Program} {f:FuncId} {args:Array Value} {w:World} {R:Ending→World→Prop} (h:Calls P f args w R):CallsIn (fw r) m P f args w R:=
 (callsIn_wide (n:=m)).2 h
theorem fw_depth {r:Option Nat} {m:Nat} :(fw r).depth.isSome=true→1≤m:=fun h=>by cases h
def RoundH (P:Program) (l:Nat) (args:Array Value) (h:Heap) (R:Value→Heap→Prop):Prop:=
 ∀w:World,w.heap=h→ ∃f tmps assign body,(Instr.yield l args).run P w= .ok (.round l f tmps assign body) w∧
  ∀r m,RoundIn (fw r) m P l f tmps assign body w (fun e w'=> ∃v,e= .returned v∧R v w'.heap∧Same w w')
def Act.bare (a:Act):Act:= { a with defers:= [] }
theorem Act.bare_put (a:Act) (d:Option Nat) (v:Value):Act.bare (a.put d v)=(Act.bare a).put d v:=by cases d<;>rfl
theorem Act.put_defers (a:Act) (d:Option Nat) (v:Value):(a.put d v).defers=a.defers:=by cases d<;>rfl
def noDefer (o:Oper):Bool:=match o.op with| .defer _=>false|_=>true
theorem noDefer_ne {o:Oper} (h:noDefer o=true) (c:Call):o.op≠ .defer c:=fun e=>by unfold noDefer at h;rw[e] at h;cases h
theorem OpWp.wpIn {P:Program} {o:Oper} {a:Act} {w:World} {K:Value→Heap→Prop} {next:Act→World→Prop} {Q:Exit→Act→World→Prop} {r:Option Nat} {m:Nat}
  (hh:OpWp P o a.eval w.heap K) (nd:noDefer o=true) (hn: ∀v w',K v w'.heap→Same w w'→next (a.put o.dst v) w'):o.wpIn (fw r) m P a w next Q:=by
 refine⟨fun _ _=>trivial, ?_⟩
 obtain⟨x,w',r1,r2,r3⟩:=denSem_sound _ _ _ hh w rfl
 rw[Oper.semAt_eq _ _ _ (noDefer_ne nd),r1]
 cases x with
 |value v=>exact hn _ _ r2 r3
 |skip=>exact hn _ _ r2 r3
 |enter f args=>
  refine⟨fw_depth,CallsIn.mono (calls_fw (r2 w' rfl)) ?_⟩
  rintro e w'' ⟨v,rfl,hR,hs⟩
  exact hn _ _ hR (r3.trans hs)
 |_=>exact r2.elim
def denOpF (P:Program) (o:Oper) (σ:Env) (h:Heap) (K:Value→Heap→Prop):Prop:=
 match o.op with
 | .call { callee:= .value f,args:=args,argTypes:=_ } =>(match σ.ev f,evs σ args.toList with
  |some (.func (.yield l) c _),some vs=>RoundH P l (c.toList++vs).toArray h fun v h'=> ∃b:Bool,v= .bool b∧K (.bool b) h'
  |_,_=>denOp P o σ h K)
 |_=>denOp P o σ h K
theorem denOpF_ok {P:Program} {o:Oper} {σ:Env} {a:Act} {w:World} {K:Value→Heap→Prop} {next:Act→World→Prop} {Q:Exit→Act→World→Prop} {r:Option Nat} {m:Nat}
  (hf:Fits σ a.eval) (hh:denOpF P o σ w.heap K) (nd:noDefer o=true) (hn: ∀v w',K v w'.heap→Same w w'→next (a.put o.dst v) w'):o.wpIn (fw r) m P a w next Q:=by
 unfold denOpF at hh
 split at hh
 ·rename_i f args tys ho
  split at hh
  ·rename_i l c0 c1 vs hg hvs
   obtain⟨g,tmps,assign,body,hy,hr⟩:=hh w rfl
   refine⟨fun _ _=>trivial, ?_⟩
   rw[Oper.semAt_eq _ _ _ (noDefer_ne nd)]
   have e:(execOp a.eval o).run P w=(Instr.yield l (c0.toList++vs).toArray).run P w:=by
    unfold execOp;rw[ho]
    simp only[resolve,args_map hf hvs,hf _ _ hg,Deferred.ofValue]
    have e:c0++vs.toArray=(c0.toList++vs).toArray:=by
     apply Array.ext'
     simp
    rw[e]
    rfl
   rw[e,hy]
   refine⟨fw_depth,RoundIn.mono (hr r _) ?_⟩
   rintro e w'' ⟨v,rfl,⟨b,rfl,hK⟩,hs⟩
   exact hn _ _ hK hs
  ·exact(denOp_ok hf hh).wpIn nd hn
 ·exact(denOp_ok hf hh).wpIn nd hn
def upF (n:Nat) (a0:Act) (w0:World) (W:List Nat) (K:Env→Heap→Prop):Exit→Act→World→Prop:=
 fun e a w=>e= .normal∧ ∃σ,Rel n σ (Act.bare a)∧K σ w.heap∧Same w0 w∧Unch W (Act.bare a0) (Act.bare a)∧a.defers=a0.defers
def denOpsF (P:Program) (n:Nat) (ops:Array Oper) (ty:List (Nat×Sh)):List Oper→Env→Heap→(Env→Heap→Prop)→Prop
 | [],σ,h,K=>K σ h
 |o::rest,σ,h,K=>gsplit ops o σ
   (fun σ=>denOpF P o σ h fun v h'=>castK ty o.dst v fun v=>putK n σ o.dst v fun σ'=>denOpsF P n ops ty rest σ' h' K)
   (fun σ=>putK n σ o.dst undef fun σ'=>denOpsF P n ops ty rest σ' h K)
theorem denOpsF_ok {P:Program} {n m:Nat} {r:Option Nat} {ops:Array Oper} {ty:List (Nat×Sh)} {K:Env→Heap→Prop} {a0:Act} {w0:World} (nd:ops.all noDefer=true): ∀(rest:List Oper) (k:Nat) (σ:Env) (a:Act) (w:World),
  (∀j,rest[j]? =ops[k+j]?)→Rel n σ (Act.bare a)→Same w0 w→Unch (opWrites ops) (Act.bare a0) (Act.bare a)→a.defers=a0.defers→denOpsF P n ops ty rest σ w.heap K→wpOpsIn (fw r) m P ops (upF n a0 w0 (opWrites ops) K) (List.range' k rest.length) a w
 | [],k,σ,a,w,_,hr,hs,hu,hd,h=>⟨rfl,σ,hr,h,hs,hu,hd⟩
 |o::rest,k,σ,a,w,hj,hr,hs,hu,hd,h=>by
  have h0:ops[k]? =some o:=by have:=hj 0;simpa using this.symm
  have hj': ∀j,rest[j]? =ops[k+1+j]? :=fun j=>by have:=hj (j+1);simpa[Nat.add_assoc,Nat.add_comm 1 j] using this
  have hnd:noDefer o=true:=by
   rw[Array.all_eq_true] at nd
   obtain⟨hlt,rfl⟩:=Array.getElem?_eq_some_iff.1 h0
   exact nd k hlt
  simp only[List.length_cons,List.range'_succ,wpOpsIn,h0]
  simp only[denOpsF] at h
  rcases gsplit_ok hr h with⟨hw,σ',hr',h⟩|⟨hw,σ',hr',h⟩
  ·have hw':Region.wanted o (yielded ops a.tmps)=true:=hw
   rw[if_pos hw']
   refine denOpF_ok (a:=a) (show Fits σ' a.eval from hr'.fits) h hnd ?_
   intro v w' hk hs'
   obtain⟨σ1,hr1,h1⟩:=putK_ok hr' (castK_ok hk)
   exact denOpsF_ok nd rest (k+1) σ1 _ w' hj' (by rw[Act.bare_put];exact hr1) (hs.trans hs') (by rw[Act.bare_put];exact hu.trans (Unch.put (opWrites_mem h0))) (by rw[Act.put_defers];exact hd) h1
  ·have hw':Region.wanted o (yielded ops a.tmps)=false:=hw
   rw[if_neg (by rw[hw'];simp)]
   obtain⟨σ1,hr1,h1⟩:=putK_ok hr' h
   exact⟨fun _ _=>trivial,denOpsF_ok nd rest (k+1) σ1 _ w hj' (by rw[Act.bare_put];exact hr1) hs (by rw[Act.bare_put];exact hu.trans (Unch.put (opWrites_mem h0))) (by rw[Act.put_defers];exact hd) h1⟩
theorem opF_of_wp {P:Program} {o:Oper} {a:Act} {w:World} {K K2:Act→World→Prop} {Q Q2:Exit→Act→World→Prop} {r:Option Nat} {m:Nat} {ds:List Deferred} (nd:noDefer o=true)
  (h:o.wp P a w K Q) (hK: ∀a' w',K a' w'→a'.defers= []∧K2 { a' with defers:=ds } w') (hQ: ∀e a' w',e≠ .normal→ ¬Q e a' w'):
  a.defers= []∧o.wpIn (fw r) m P { a with defers:=ds } w K2 Q2:=by
 unfold Oper.wp at h
 unfold Oper.wpIn
 rw[Oper.semAt_eq _ _ _ (noDefer_ne nd)]
 have e:(execOp (Act.eval { a with defers:=ds }) o).run P w=(execOp a.eval o).run P w:=rfl
 rw[e]
 have pd: ∀(v:Value),({ a with defers:=ds } :Act).put o.dst v= { (a.put o.dst v) with defers:=ds } :=fun v=>by cases o.dst<;>rfl
 generalize (execOp a.eval o).run P w=x at h⊢
 cases x with
 |ok x w'=>
  cases x with
  |value v=>obtain⟨h1,h2⟩:=hK _ _ h;rw[Act.put_defers] at h1;exact⟨h1,fun _ _=>trivial,by simp only[Oper.uponIn,pd];exact h2⟩
  |skip=>obtain⟨h1,h2⟩:=hK _ _ h;rw[Act.put_defers] at h1;exact⟨h1,fun _ _=>trivial,by simp only[Oper.uponIn,pd];exact h2⟩
  |defer d=>obtain⟨h1,h2⟩:=hK _ _ h;rw[Act.put_defers] at h1;cases h1
  |enter f args=>
   simp only[Oper.upon] at h
   have hd:a.defers= []:=by
    obtain⟨e,w'',fr,hR,_⟩:=h []
    cases e with
    |returned v=>have:=(hK _ _ hR).1;rwa[Act.put_defers] at this
    |panicked ch=>exact(hQ _ _ _ (by simp) hR).elim
    |outgrown=>obtain⟨_,_,hq⟩:=hR;exact(hQ _ _ _ (by simp) hq).elim
   refine⟨hd,fun _ _=>trivial,fw_depth,CallsIn.mono (calls_fw h) ?_⟩
   rintro e w'' hR
   cases e with
   |returned v=>have:=(hK _ _ hR).2;simp only[pd];exact this
   |panicked ch=>exact(hQ _ _ _ (by simp) hR).elim
   |outgrown=>obtain⟨_,_,hq⟩:=hR;exact(hQ _ _ _ (by simp) hq).elim
  |row nm args=>
   simp only[Oper.upon] at h
   have hd:a.defers= []:=by
    obtain⟨v,w'',hR,_⟩:=h default []
    have:=(hK _ _ hR).1;rwa[Act.put_defers] at this
   refine⟨hd,fun _ _=>trivial,fw_depth,fun c cs _=> ?_⟩
   obtain⟨v,w'',hR,hst⟩:=h c cs
   exact⟨v,w'',(by show K2 _ _;rw[pd];exact(hK _ _ hR).2),stepsIn_wide.2 hst⟩
  |_=>exact h.elim
 |halt x w'=>cases x<;>simp only[Oper.upon] at h<;>first|exact h.elim|exact(hQ _ _ _ (by simp) h).elim
theorem anyF_of_wp {P:Program} {ops:Array Oper} {Q Q2:Exit→Act→World→Prop} {r:Option Nat} {m:Nat} {ds:List Deferred} (nd:ops.all noDefer=true)
  (hQ: ∀e a' w',Q e a' w'→e= .normal∧a'.defers= []∧Q2 .normal { a' with defers:=ds } w'): ∀(fuel:Nat) (listed:Array Bool) (a:Act) (w:World),
  wpAny P .any ops Q fuel listed a w→a.defers= []∧wpAnyIn (fw r) m P .any ops Q2 fuel listed { a with defers:=ds } w
 |0,listed,a,w,h=>⟨(hQ _ _ _ h.2).2.1,h.1,(hQ _ _ _ h.2).2.2⟩
 |fuel+1,listed,a,w,h=>by
  have step: ∀i∈Region.ready .any ops listed,a.defers= []∧wpOpIn (fw r) m P ops Q2 i (wpAnyIn (fw r) m P .any ops Q2 fuel (listed.setIfInBounds i true)) { a with defers:=ds } w:=fun i hi=>by
   have hh:=h.2 i hi
   have ih:=anyF_of_wp (P:=P) nd hQ (r:=r) (m:=m) fuel (listed.setIfInBounds i true)
   unfold wpOp at hh
   unfold wpOpIn
   split at hh
   ·rename_i ho
    simp only[ho]
    exact ih _ _ hh
   ·rename_i o ho
    have hnd:noDefer o=true:=by
     rw[Array.all_eq_true] at nd
     obtain⟨hlt,rfl⟩:=Array.getElem?_eq_some_iff.1 ho
     exact nd i hlt
    simp only[ho]
    split at hh
    ·rename_i hw
     rw[if_pos hw]
     rcases hh with hh|⟨_,_,_,hq⟩
     ·exact opF_of_wp hnd hh ih (fun e a' w' hne hq=>hne (hQ _ _ _ hq).1)
     ·exact absurd (hQ _ _ _ hq).1 (by simp)
    ·rename_i hw
     rw[if_neg hw]
     obtain⟨h1,h2⟩:=ih _ _ hh
     rw[Act.put_defers] at h1
     have pd:({ a with defers:=ds } :Act).put o.dst undef= { (a.put o.dst undef) with defers:=ds } :=by cases o.dst<;>rfl
     exact⟨h1,fun _ _=>trivial,by rw[pd];exact h2⟩
  by_cases hr:Region.ready .any ops listed= []
  ·obtain⟨_,hd,hq⟩:=hQ _ _ _ (h.1 hr)
   exact⟨hd,fun _=>hq,fun i hi=>(step i hi).2⟩
  ·obtain⟨i,hi⟩:=List.exists_mem_of_ne_nil _ hr
   exact⟨(step i hi).1,fun e=>absurd e hr,fun i hi=>(step i hi).2⟩
def thenF (K:List Nat→Env→Heap→Prop) (Q:Exit→List Nat→Env→Heap→Prop):Exit→List Nat→Env→Heap→Prop
 | .normal=>K
 |e=>Q e
def blkE (b:Bool) (A B:Prop):Prop:=match b with|true=>A|false=>B
def blockF (id:Nat) (Q:Exit→List Nat→Env→Heap→Prop):Exit→List Nat→Env→Heap→Prop
 | .exit i=>fun D σ h=>blkE (Nat.beq i id) (Q .normal D σ h) (Q (.exit i) D σ h)
 |e=>Q e
def failF:Exit→List Nat→Env→Heap→Prop:=fun _ _ _ _=>False
abbrev AtL (h:Heap) (l:Nat) (r:Loop):Prop:=h[l]? =some (.loop r)
abbrev setLoop (h:Heap) (l:Nat) (r:Loop):Heap:=h.setIfInBounds l (.loop r)
abbrev openH (h:Heap) (r:Loop):Heap:=(h.push (.deferred (some []))).push (.loop r)
abbrev Recs:=LoopState→Option Code→Loop
def roundF (l:Nat) (rec:Recs) (C:Bool→Heap→Prop):Exit→List Nat→Env→Heap→Prop
 | .normal,_,_,h=>AtL h l (rec .busy none)∧C true (setLoop h l (rec .ready none))
 | .ret,_,_,h=>AtL h l (rec .busy none)∧C false (setLoop h l (rec .done (some .ret)))
 | .exit i,_,_,h=>AtL h l (rec .busy none)∧C false (setLoop h l (rec .done (some (.exit i))))
 |_,_,_,_=>False
def JumpP (N T:Heap→Prop) (E:Nat→Heap→Prop):Option Code→Heap→Prop
 |none,h=>N h
 |some .ret,h=>T h
 |some (.exit i),h=>E i h
 |_,_=>False
def putAll (n:Nat):List Nat→List Value→Env→(Env→Prop)→Prop
 | [], [],σ,K=>K σ
 |t::ts,v::vs,σ,K=>putK n σ (some t) v fun σ'=>putAll n ts vs σ' K
 |_,_,_,_=>False
def RangeP (P:Program) (v:Value) (h:Heap) (B:Recs→(Bool→Heap→Prop)→List Value→Heap→Prop) (J:Option Code→Heap→Prop):Prop:=
 ∃gf lb,v= .func (.func gf) #[] lb∧hasBody P gf=true∧ ∀rec:Recs,(∀s p,(rec s p).state=s∧(rec s p).pending=p)→
  (∀args g C,AtL g (h.size+1) (rec .ready none)→B rec C args g→RoundH P (h.size+1) args.toArray g fun v g'=> ∃b,v= .bool b∧C b g')→
  CallsH P gf (#[.func (.yield (h.size+1)) #[] #[]]++lb) (openH h (rec .ready none)) fun _ g=> ∃st pe,st≠ .busy∧AtL g (h.size+1) (rec st pe)∧J pe (setLoop g (h.size+1) (rec .exhausted pe))
def natsEq:List Nat→List Nat→Bool
 | [], []=>true
 |x::xs,y::ys=>Nat.beq x y && natsEq xs ys
 |_,_=>false
theorem natsEq_eq: ∀ {a b:List Nat},natsEq a b=true→a=b
 | [], [],_=>rfl
 |x::xs,y::ys,h=>by
  simp only[natsEq,Bool.and_eq_true] at h
  rw[Nat.eq_of_beq_eq_true h.1,natsEq_eq h.2]
def denF (P : Program) (n : Nat) (rd : Bool) : Ann → Code → (Exit → List Nat → Env → Heap → Prop) → List Nat → Env → Heap → Prop
  | .leaf, c, Q, D, σ, h => (match c with
    | .skip => Q .normal D σ h
    | .label _ => Q .normal D σ h
    | .exit id => Q (.exit id) D σ h
    | .ret => Q .ret D σ h
    | .region _ ops false => (match ops.all noDefer with | true => denOpsF P n ops [] ops.toList σ h (Q .normal D) | false => False)
    | _ => False)
  | .typed ty, c, Q, D, σ, h => (match c with
    | .region _ ops false => (match ops.all noDefer with | true => denOpsF P n ops ty ops.toList σ h (Q .normal D) | false => False)
    | _ => False)
  | .plan p, c, Q, D, σ, h => (match c with
    | .region _ ops true => (match (P.follows .mixedOrders && Region.noSelect ops && lenB p ops.size && planB P ops p none (Array.replicate ops.size false)) && ops.all noDefer with
      | true => denPlan P n ops p [] σ h (Q .normal D)
      | false => False)
    | _ => False)
  | .seq a b, c, Q, D, σ, h => (match c with
    | .seq c d => denF P n rd a c (thenF (fun D' σ' h' => denF P n rd b d Q D' σ' h') Q) D σ h
    | _ => False)
  | .cond a b, c, Q, D, σ, h => (match c with
    | .cond x c d => (match σ.ev x with
      | some (.bool q) => if q = true then denF P n rd a c Q D σ h else denF P n rd b d Q D σ h
      | _ => False)
    | _ => False)
  | .block a, c, Q, D, σ, h => (match c with
    | .block id c => denF P n rd a c (blockF id Q) D σ h
    | _ => False)
  | .loop L a, c, Q, D, σ, h => (match c with
    | .loop c => ∃ (I : Tele (Heap → Prop) L) (μ : Tele (Heap → Nat) L), apE False L I σ (fun f => f h) ∧
        allE L (fun σ' => ∀ h', apE False L I σ' (fun f => f h') →
          denF P n rd a c (thenF (fun D' σ'' h'' => D' = D ∧ apE False L I σ'' (fun f => f h'') ∧ apE 0 L μ σ'' (fun f => f h'') < apE 0 L μ σ' (fun f => f h')) Q) D σ' h') (σ.forget (writes c))
    | _ => False)
  | .join L a, c, Q, D, σ, h => JoinP (α := Tele (Heap → Prop) L) (lamE L (fun σ' h' => Q .normal D σ' h') (σ.forget (writes c)))
      (fun J => denF P n rd a c (thenF (fun D' σ' h' => D' = D ∧ apE False L J σ' (fun f => f h')) Q) D σ h)
  | .scope z L a b, c, Q, D, σ, h => (match c with
    | .rangeFunc g ps assign body => (match rd, natsEq (L.map (·.1)) ps.toList, σ.ev g with
      | false, true, some v => RangeP P v h
          (fun rec C args h1 => exShs (L.map (·.2)) fun vs => args = vs ∧ putAll n (L.map (·.1)) vs σ fun σ1 =>
            denF P n true a assign (thenF (fun D2 σ2 h2 => AtL h2 (h.size + 1) (rec .ready none) ∧ ∀ h3, h3 = setLoop h2 (h.size + 1) (rec .busy none) → denF P n true b body (roundF (h.size + 1) rec C) D2 σ2 h3) failF) [] σ1 h1)
          (JumpP (fun g => Q .normal (h.size :: D) σ g) (fun g => Q .ret (h.size :: D) σ g) (match z with | 0 => fun _ _ => False | _ => fun i g => Q (.exit i) (h.size :: D) σ g))
      | _, _, _ => False)
    | _ => False)
def mark (D:Nat):Deferred:= { target:= .collected D,args:= #[] }
def upG (n:Nat) (a0:Act) (w0:World) (W:List Nat) (Q:Exit→List Nat→Env→Heap→Prop):Exit→Act→World→Prop:=
 fun e a w=> ∃D σ,Rel n σ (Act.bare a)∧a.defers=D.map mark∧Q e D σ w.heap∧Same w0 w∧Unch W (Act.bare a0) (Act.bare a)
theorem upG_of_upF {n:Nat} {a0:Act} {w0:World} {W:List Nat} {Q:Exit→List Nat→Env→Heap→Prop} {D:List Nat} (hd:a0.defers=D.map mark) {e:Exit} {a:Act} {w:World} (h:upF n a0 w0 W (Q .normal D) e a w):upG n a0 w0 W Q e a w:=by
 obtain⟨rfl,σ,h1,h2,h3,h4,h5⟩:=h
 exact⟨D,σ,h1,h5.trans hd,h2,h3,h4⟩
theorem same_alloc (w:World) (o:Obj):Same w (w.alloc o):=⟨rfl,rfl,rfl⟩
theorem same_put (w:World) (l:Nat) (o:Obj):Same w (w.putObj l o):=⟨rfl,rfl,rfl⟩
theorem putAll_ok {n:Nat} {K:Env→Prop} : ∀(ts:List Nat) (vs:List Value) (σ:Env) (tm:Array Value),Rel n σ { tmps:=tm,defers:= [] } →putAll n ts vs σ K→
  ts.length=vs.length∧ ∃σ',Rel n σ' { tmps:=(ts.zip vs).foldl (fun t (p,v)=>t.setIfInBounds p v) tm,defers:= [] } ∧K σ'
 | [], [],σ,tm,hr,h=>⟨rfl,σ,hr,h⟩
 |t::ts,v::vs,σ,tm,hr,h=>by
  obtain⟨σ',hr',h'⟩:=putK_ok hr h
  obtain⟨h1,h2⟩:=putAll_ok ts vs σ' _ hr' h'
  exact⟨by simp[h1],h2⟩
 | [],_::_,_,_,_,h=>h.elim
 |_::_, [],_,_,_,h=>h.elim
theorem denF_ok {P:Program} {n:Nat} : ∀(ann:Ann) (rd:Option Nat) (m:Nat) (c:Code) (Q:Exit→List Nat→Env→Heap→Prop) (D:List Nat) (σ:Env) (a:Act) (w:World),Rel n σ (Act.bare a)→a.defers=D.map mark→
  denF P n rd.isSome ann c Q D σ w.heap→c.wpIn (fw rd) m P (upG n a w (writes c) Q) a w
 | .leaf,rd,m,c,Q,D,σ,a,w,hr,hd,h=>by
  unfold denF at h
  split at h
  ·exact wpIn_skip ⟨D,σ,hr,hd,h,Same.refl w,Unch.refl _ _⟩
  ·exact wpIn_label ⟨D,σ,hr,hd,h,Same.refl w,Unch.refl _ _⟩
  ·exact wpIn_exit ⟨D,σ,hr,hd,h,Same.refl w,Unch.refl _ _⟩
  ·exact wpIn_ret ⟨D,σ,hr,hd,h,Same.refl w,Unch.refl _ _⟩
  ·rename_i id ops
   split at h
   ·rename_i nd
    refine wpIn_mono (wpIn_region (Q:=upF n a w (opWrites ops) (Q .normal D)) ?_) (fun e a' w' hq=>upG_of_upF hd hq)
    have:=denOpsF_ok (a0:=a) (w0:=w) (r:=rd) (m:=m) nd ops.toList 0 σ a w (by simp) hr (Same.refl w) (Unch.refl _ _) rfl h
    rw[List.range_eq_range']
    simpa using this
   ·exact h.elim
  ·exact h.elim
 | .typed ty,rd,m,c,Q,D,σ,a,w,hr,hd,h=>by
  unfold denF at h
  split at h
  ·rename_i id ops
   split at h
   ·rename_i nd
    refine wpIn_mono (wpIn_region (Q:=upF n a w (opWrites ops) (Q .normal D)) ?_) (fun e a' w' hq=>upG_of_upF hd hq)
    have:=denOpsF_ok (a0:=a) (w0:=w) (r:=rd) (m:=m) nd ops.toList 0 σ a w (by simp) hr (Same.refl w) (Unch.refl _ _) rfl h
    rw[List.range_eq_range']
    simpa using this
   ·exact h.elim
  ·exact h.elim
 | .plan p,rd,m,c,Q,D,σ,a,w,hr,hd,h=>by
  unfold denF at h
  split at h
  ·rename_i id ops
   split at h
   ·rename_i hb
    simp only[Bool.and_eq_true] at hb
    obtain⟨⟨⟨⟨h1,h2⟩,h3⟩,h4⟩,nd⟩:=hb
    refine wpIn_mono (wpIn_region_any (Q:=upF n a w (opWrites ops) (Q .normal D)) h1 ?_) (fun e a' w' hq=>upG_of_upF hd hq)
    have:=(denPlan_both (a0:=Act.bare a) (w0:=w) h2 p).1 ops.size (Array.replicate ops.size false) [] σ (Act.bare a) { w with drawn:=w.drawn+1 } h3 h4 hr ⟨rfl,rfl,rfl⟩ (Unch.refl _ _) (fun _ hm=>by cases hm) h
    refine(anyF_of_wp (ds:=a.defers) nd (fun e a' w' hq=> ?_) _ _ _ _ (wpAnyG_any _ _ _ _ _ this)).2
    obtain⟨rfl,σ1,hr1,hk,hs,hu⟩:=hq
    have e:({ ({ a' with defers:=a.defers } :Act) with defers:= [] } :Act)=a':=by
     obtain⟨t,d⟩:=a'
     have:d= []:=hr1.defers
     rw[this]
    exact⟨rfl,hr1.defers,rfl,σ1,by show Rel n σ1 _;rw[show Act.bare { a' with defers:=a.defers } =a' from e];exact hr1,hk,hs,by rw[show Act.bare { a' with defers:=a.defers } =a' from e];exact hu,rfl⟩
   ·exact h.elim
  ·exact h.elim
 | .seq x y,rd,m,c,Q,D,σ,a,w,hr,hd,h=>by
  unfold denF at h
  split at h
  ·rename_i c d
   refine wpIn_seq (wpIn_mono (denF_ok x rd m c _ D σ a w hr hd h) ?_)
   rintro e a' w' ⟨D',σ',hr',hd',hq,hs,hu⟩
   have hW: ∀t,t∈writes c→t∈writes (.seq c d):=fun t ht=>List.mem_append_left _ ht
   cases e with
   |normal=>
    refine wpIn_mono (denF_ok y rd m d Q D' σ' a' w' hr' hd' hq) ?_
    rintro e2 a2 w2 ⟨D2,σ2,hr2,hd2,hq2,hs2,hu2⟩
    exact⟨D2,σ2,hr2,hd2,hq2,hs.trans hs2,(hu.mono hW).trans (hu2.mono fun t ht=>List.mem_append_right _ ht)⟩
   |exit id=>exact⟨D',σ',hr',hd',hq,hs,hu.mono hW⟩
   |goto l=>exact⟨D',σ',hr',hd',hq,hs,hu.mono hW⟩
   |ret=>exact⟨D',σ',hr',hd',hq,hs,hu.mono hW⟩
   |panic ch=>exact⟨D',σ',hr',hd',hq,hs,hu.mono hW⟩
   |outgrown=>exact⟨D',σ',hr',hd',hq,hs,hu.mono hW⟩
  ·exact h.elim
 | .cond x y,rd,m,c,Q,D,σ,a,w,hr,hd,h=>by
  unfold denF at h
  split at h
  ·rename_i k c d
   split at h
   ·rename_i q hq
    have he:a.eval k= .bool q:=hr.fits _ _ hq
    split at h
    ·rename_i ht
     subst ht
     refine wpIn_cond_true he (wpIn_mono (denF_ok x rd m c Q D σ a w hr hd h) ?_)
     rintro e a' w' ⟨D',σ',hr',hd',hq,hs,hu⟩
     exact⟨D',σ',hr',hd',hq,hs,hu.mono fun t ht=>List.mem_append_left _ ht⟩
    ·rename_i ht
     have ht:q=false:=by simpa using ht
     subst ht
     refine wpIn_cond_false he (wpIn_mono (denF_ok y rd m d Q D σ a w hr hd h) ?_)
     rintro e a' w' ⟨D',σ',hr',hd',hq,hs,hu⟩
     exact⟨D',σ',hr',hd',hq,hs,hu.mono fun t ht=>List.mem_append_right _ ht⟩
   ·exact h.elim
  ·exact h.elim
 | .block x,rd,m,c,Q,D,σ,a,w,hr,hd,h=>by
  unfold denF at h
  split at h
  ·rename_i id c
   refine wpIn_block (wpIn_mono (denF_ok x rd m c _ D σ a w hr hd h) ?_)
   rintro e a' w' ⟨D',σ',hr',hd',hq,hs,hu⟩
   cases e with
   |exit id'=>
    simp only[Exit.inBlock]
    simp only[blockF,blkE] at hq
    by_cases hid:id'=id
    ·subst hid
     simp only[Nat.beq_refl] at hq
     rw[if_pos rfl];exact⟨D',σ',hr',hd',hq,hs,hu⟩
    ·rw[if_neg hid]
     have:Nat.beq id' id=false:=by cases hb:Nat.beq id' id;rfl;exact absurd (Nat.eq_of_beq_eq_true hb) hid
     rw[this] at hq
     exact⟨D',σ',hr',hd',hq,hs,hu⟩
   |normal=>exact⟨D',σ',hr',hd',hq,hs,hu⟩
   |goto l=>exact⟨D',σ',hr',hd',hq,hs,hu⟩
   |ret=>exact⟨D',σ',hr',hd',hq,hs,hu⟩
   |panic ch=>exact⟨D',σ',hr',hd',hq,hs,hu⟩
   |outgrown=>exact⟨D',σ',hr',hd',hq,hs,hu⟩
  ·exact h.elim
 | .loop L x,rd,m,c,Q,D,σ,a,w,hr,hd,h=>by
  unfold denF at h
  split at h
  ·rename_i c
   obtain⟨I,μ,h0,hstep⟩:=h
   refine wpIn_loop (fun a' w'=> ∃σ',Rel n σ' (Act.bare a')∧a'.defers=D.map mark∧apE False L I σ' (fun f=>f w'.heap)∧Same w w'∧Unch (writes c) (Act.bare a) (Act.bare a'))
    (fun a' w'=>apE 0 L μ (envOf a') (fun f=>f w'.heap)) ⟨σ,hr,hd,h0,Same.refl w,Unch.refl _ _⟩ ?_
   rintro a' w' ⟨σ',hr',hd',hI,hs,hu⟩
   obtain⟨σ'',hF,hsub,hL,_⟩:=allE_at L _ I hstep hI
   have hr'':=Rel.of_sub hr hr' hu hsub
   have hI'':apE False L I σ'' (fun f=>f w'.heap):=by rw[apE_congr L I hL];exact hI
   have hdn:=hF w'.heap hI''
   refine wpIn_mono (denF_ok x rd m c _ D σ'' a' w' hr'' hd' hdn) ?_
   rintro e a1 w1 ⟨D1,σ1,hr1,hd1,hq,hs1,hu1⟩
   have ev: ∀b:Act,envOf (Act.bare b)=envOf b:=fun _=>rfl
   cases e with
   |normal=>
    obtain⟨rfl,hI1,hlt⟩:=hq
    refine⟨⟨σ1,hr1,hd1,hI1,hs.trans hs1,hu.trans hu1⟩, ?_⟩
    rw[←ev a1,←ev a',apE_envOf hr1 (apE_def L I hI1),apE_envOf hr'' (apE_def L I hI'')]
    exact hlt
   |exit id=>exact⟨D1,σ1,hr1,hd1,hq,hs.trans hs1,hu.trans hu1⟩
   |goto l=>exact⟨D1,σ1,hr1,hd1,hq,hs.trans hs1,hu.trans hu1⟩
   |ret=>exact⟨D1,σ1,hr1,hd1,hq,hs.trans hs1,hu.trans hu1⟩
   |panic ch=>exact⟨D1,σ1,hr1,hd1,hq,hs.trans hs1,hu.trans hu1⟩
   |outgrown=>exact⟨D1,σ1,hr1,hd1,hq,hs.trans hs1,hu.trans hu1⟩
  ·exact h.elim
 | .join L x,rd,m,c,Q,D,σ,a,w,hr,hd,h=>by
  unfold denF at h
  unfold JoinP at h
  refine wpIn_mono (denF_ok x rd m c _ D σ a w hr hd h) ?_
  rintro e a' w' ⟨D',σ',hr',hd',hq,hs,hu⟩
  cases e with
  |normal=>
   obtain⟨rfl,hq⟩:=hq
   obtain⟨σ'',hQ,hsub⟩:=apE_lamE L _ hq
   exact⟨D',σ'',Rel.of_sub hr hr' hu hsub,hd',hQ,hs,hu⟩
  |exit id=>exact⟨D',σ',hr',hd',hq,hs,hu⟩
  |goto l=>exact⟨D',σ',hr',hd',hq,hs,hu⟩
  |ret=>exact⟨D',σ',hr',hd',hq,hs,hu⟩
  |panic ch=>exact⟨D',σ',hr',hd',hq,hs,hu⟩
  |outgrown=>exact⟨D',σ',hr',hd',hq,hs,hu⟩
 | .scope z L x y,rd,m,c,Q,D,σ,a,w,hr,hd,h=>by
  unfold denF at h
  split at h
  ·rename_i g ps assign body
   split at h
   ·rename_i v hrd hps hg
    have hrd:rd=none:=by cases rd with|none=>rfl|some _=>cases hrd
    subst hrd
    have hps:=natsEq_eq hps
    obtain⟨gf,lb,rfl,hb,hc⟩:=h
    have hev:a.eval g= .func (.func gf) #[] lb:=hr.fits _ _ hg
    refine wpIn_rangeFunc fun fn _=> ?_
    obtain⟨rec,hrec⟩: ∃rec:Recs,rec=fun s p=> { state:=s,pending:=p,fn,tmps:=a.tmps,params:=ps,assign,body,defers:=w.heap.size } :=⟨_,rfl⟩
    have hcall:=hc rec (fun s p=>by rw[hrec];exact⟨rfl,rfl⟩) ?round
    case round=>
     intro args g1 C hat hB w1 hw1
     subst hw1
     obtain⟨vs,rfl,hput⟩:=exShs_some hB
     obtain⟨hlen,σ1,hr1,hden⟩:=putAll_ok _ _ σ a.tmps hr hput
     have hsz:args.toArray.size=ps.size:=by rw[←Array.length_toList (xs:=ps),←hps,hlen];simp
     refine⟨fn,(ps.zip args.toArray).foldl (fun tmps (t,a)=>tmps.setIfInBounds t a) a.tmps,assign,body, ?_,fun r m2=> ?_⟩
     ·rw[hrec] at hat
      exact run_yield hat hsz
     have etm:(ps.zip args.toArray).foldl (fun tmps (t,a)=>tmps.setIfInBounds t a) a.tmps=((L.map (·.1)).zip args).foldl (fun t (p,v)=>t.setIfInBounds p v) a.tmps:=by
      rw[hps,←Array.foldl_toList,Array.toList_zip]
     refine roundIn_of_wpIn (F:=fw r) trivial ?_
     rw[etm]
     refine wpIn_mono (denF_ok x (some (w.heap.size+1)) m2 assign _ [] σ1 { tmps:=((L.map (·.1)).zip args).foldl (fun t (p,v)=>t.setIfInBounds p v) a.tmps,defers:= [] } w1 hr1 rfl hden) ?_
     rintro e a2 w2 ⟨D2,σ2,hr2,hd2,hq,hs2,_⟩
     cases e with
     |normal=>
      obtain⟨hat2,hbody⟩:=hq
      have hb2:(rec .ready none).state= .ready:=by rw[hrec]
      have e2:({ (rec .ready none) with state:= .busy } :Loop)=rec .busy none:=by rw[hrec]
      refine⟨w2.putObj (w.heap.size+1) (.loop (rec .busy none)),by rw[←e2];exact run_beginRound hat2 hb2, ?_⟩
      refine wpIn_mono (denF_ok y (some (w.heap.size+1)) m2 body _ D2 σ2 a2 (w2.putObj (w.heap.size+1) (.loop (rec .busy none))) hr2 hd2 (hbody _ rfl)) ?_
      rintro e3 a3 w3 ⟨D3,σ3,hr3,hd3,hq3,hs3,_⟩
      have hs4: ∀o,Same w1 (w3.putObj (w.heap.size+1) o):=fun o=>hs2.trans ((same_put _ _ _).trans (hs3.trans (same_put _ _ _)))
      have fin: ∀(j:Option Code),AtL w3.heap (w.heap.size+1) (rec .busy none)→C j.isNone (setLoop w3.heap (w.heap.size+1) (rec (if j.isNone then .ready else .done) j))→
        ∃v w',(Instr.endRound (w.heap.size+1) j).run P w3= .ok v w'∧ ∃v',Ending.returned v= .returned v'∧(∃b,v'= .bool b∧C b w'.heap)∧Same w1 w':=fun j hat3 hC=>by
       have e5:({ (rec .busy none) with state:=if j.isNone then .ready else .done,pending:=j } :Loop)=rec (if j.isNone then .ready else .done) j:=by rw[hrec]
       refine⟨_,_,run_endRound j hat3,_,rfl,⟨_,rfl, ?_⟩,hs4 _⟩
       rw[e5];exact hC
      cases e3 with
      |normal=>exact fin none hq3.1 hq3.2
      |ret=>exact fin (some .ret) hq3.1 hq3.2
      |exit i=>exact fin (some (.exit i)) hq3.1 hq3.2
      |goto t=>exact hq3.elim
      |panic ch=>exact hq3.elim
      |outgrown=>exact hq3.elim
     |exit id=>exact hq.elim
     |goto l=>exact hq.elim
     |ret=>exact hq.elim
     |panic ch=>exact hq.elim
     |outgrown=>exact hq.elim
    have henter:(callFunc gf (#[.func (.yield (w.heap.size+1)) #[] #[]]++lb)).run P ((w.alloc (.deferred (some []))).alloc (.loop (rec .ready none)))= .ok (.enter gf (#[.func (.yield (w.heap.size+1)) #[] #[]]++lb)) ((w.alloc (.deferred (some []))).alloc (.loop (rec .ready none))):=by
     unfold hasBody at hb
     split at hb
     ·rename_i fn' hfn
      simp only[Bool.and_eq_true,Bool.not_eq_true'] at hb
      have hn:fn'.body.isNone=false:=by cases hq:fn'.body<;>simp[hq] at hb⊢
      unfold callFunc
      have h1: ¬fn'.name= "runtime.NumGoroutine" :=fun e=>by have:=hb.2;rw[e] at this;cases this
      have h2: ¬fn'.body=none:=fun e=>by rw[e] at hn;cases hn
      simp[go_sem,hfn,h1,h2]
     ·cases hb
    refine⟨w.heap.size+1, [{ target:= .collected w.heap.size,args:= #[] }],(w.alloc (.deferred (some []))).alloc (.loop (rec .ready none)), { target:= .fn (.func gf) lb,args:= #[.func (.yield (w.heap.size+1)) #[] #[]] },(w.alloc (.deferred (some []))).alloc (.loop (rec .ready none)),gf, #[.func (.yield (w.heap.size+1)) #[] #[]]++lb,(w.alloc (.deferred (some []))).alloc (.loop (rec .ready none)), ?_, ?_,fun _ _=>trivial,by simp only[invoke];exact henter,fw_depth, ?_⟩
    ·rw[hrec];exact run_enterLoop_outer fn a.tmps ps assign body
    ·simp only[resolve,hev]
     simp[go_sem]
    ·refine CallsIn.mono (calls_fw (hcall _ rfl)) ?_
     rintro e w3 ⟨v,rfl,⟨st,pe,hst,hat,hJ⟩,hs⟩
     have hs':Same w w3:=(same_alloc w _).trans ((same_alloc _ _).trans hs)
     have e5:({ (rec st pe) with state:= .exhausted } :Loop)=rec .exhausted pe:=by rw[hrec]
     refine⟨(rec st pe).pending,_,run_endLoop hat (by rw[hrec];exact hst), ?_⟩
     rw[e5,show(rec st pe).pending=pe by rw[hrec]]
     have hs4:Same w (w3.putObj (w.heap.size+1) (.loop (rec .exhausted pe))):=hs'.trans (same_put _ _ _)
     have hd':([{ target:= .collected w.heap.size,args:= #[] }]:List Deferred)++a.defers=(w.heap.size::D).map mark:=by rw[hd];rfl
     cases pe with
     |none=>exact⟨w.heap.size::D,σ,hr,hd',hJ,hs4,Unch.refl _ _⟩
     |some c=>
      cases c with
      |ret=>exact wpIn_ret ⟨w.heap.size::D,σ,hr,hd',hJ,hs4,Unch.refl _ _⟩
      |exit i=>
       cases z with
       |zero=>exact hJ.elim
       |succ z=>exact wpIn_exit ⟨w.heap.size::D,σ,hr,hd',hJ,hs4,Unch.refl _ _⟩
      |_=>exact hJ.elim
   ·exact h.elim
  ·exact h.elim
def marksOff:List Nat→Heap→(Heap→Prop)→Prop
 | [],h,K=>K h
 |d::D,h,K=>h[d]? =some (.deferred (some []))∧marksOff D (h.setIfInBounds d (.deferred none)) K
def retF (P:Program) (rs:Array ResultVar) (R:Value→Heap→Prop):Exit→List Nat→Env→Heap→Prop
 | .normal,D,σ,h=>marksOff D h fun h'=>resL P rs.toList σ h' fun vs=>R (oneOr vs) h'
 | .ret,D,σ,h=>marksOff D h fun h'=>resL P rs.toList σ h' fun vs=>R (oneOr vs) h'
 |_,_,_,_=>False
theorem leaves_ok {P:Program} {m n:Nat} {fn:Func} {tmps:Array Value} {w0:World} {σ:Env} {R:Value→Heap→Prop} (hr:Rel n σ { tmps:=tmps,defers:= [] }): ∀(D:List Nat) (w:World),Same w0 w→
  marksOff D w.heap (fun h'=>resL P fn.results.toList σ h' fun vs=>R (oneOr vs) h')→
  LeavesInM (fw none) m P fn tmps (fun e w'=> ∃v,e= .returned v∧R v w'.heap∧Same w0 w') (D.map mark) .returning w
 | [],w,hs,h=>by
  obtain⟨v,h1,h2⟩:=results_ok (F:=fun v=>R v w.heap) hr h
  exact⟨v,rd_run _ _ _ h2,v,rfl,h1,hs⟩
 |d::D,w,hs,h=>⟨by simp, .inl ⟨d,w.putObj d (.deferred none),rfl,run_takeDeferred h.1,leaves_ok hr D _ (hs.trans (same_put _ _ _)) h.2⟩⟩
theorem callsH_of_bodyF {P:Program} {f:FuncId} {fn:Func} {args:List Value} {h:Heap} {R:Value→Heap→Prop} (ann:Ann)
  (hf:P.funcs[f]? =some fn) (hb:fn.body.isSome=true) (hn:Nat.ble args.length fn.ntmps=true)
  (hd:denF P fn.ntmps false ann (bodyOf fn) (retF P fn.results R) [] (argEnv args) h):CallsH P f args.toArray h R:=by
 obtain⟨c,hc⟩:=Option.isSome_iff_exists.1 hb
 rw[bodyOf,hc] at hd
 intro w hw
 subst hw
 have hn:=Nat.le_of_ble_eq_true hn
 refine(callsIn_wide (n:=0)).1 (callsIn_of_wp_marks (F:=fw none) hf hc trivial ?_)
 have hr:Rel fn.ntmps (argEnv args) { tmps:=args.toArray++Array.replicate (fn.ntmps - args.toArray.size) undef,defers:= [] } :=by
  refine⟨rfl,by simp;omega,fun t v hv=> ?_⟩
  unfold argEnv at hv
  have hlt:t<args.length:=(List.getElem?_eq_some_iff.1 hv).1
  simp only[Array.getD_eq_getD_getElem?]
  rw[Array.getElem?_append_left (by simpa using hlt)]
  simp[hv]
 refine wpIn_mono (denF_ok ann none 0 c _ [] _ { tmps:=args.toArray++Array.replicate (fn.ntmps - args.toArray.size) undef,defers:= [] } w hr rfl hd) ?_
 rintro e a w' ⟨D,σ,hr,hds,hq,hs,_⟩
 cases e with
 |normal=>show LeavesInM _ _ _ _ _ _ a.defers _ _;rw[hds];exact leaves_ok hr D w' hs hq
 |ret=>show LeavesInM _ _ _ _ _ _ a.defers _ _;rw[hds];exact leaves_ok hr D w' hs hq
 |exit id=>exact hq.elim
 |goto l=>exact hq.elim
 |panic ch=>exact hq.elim
 |outgrown=>exact hq.elim
end Go.Den
set_option maxRecDepth 100000
set_option maxHeartbeats 4000000
namespace Go.Proofs.YtgccegnmggjkjaaGreatDoor
open Go.Den
variable {h : Heap} {R : Value → Heap → Prop}
theorem state_parts.walk {l_p : Option Addr} {l_l l_c : Nat} {sizes_0 : Int} {sizes_1 : Int} {sizes_2 : Int} {sizes_3 : Int} (hv :
 NewP h (.cells #[.slice l_p l_l l_c] T.s_s_uint8) fun b h_1 =>
 NewP h_1 (.cells #[.int .i64 sizes_0, .int .i64 sizes_1, .int .i64 sizes_2, .int .i64 sizes_3] T.a4_int) fun b_1 h_2 =>
 R (.func (.func F.state_parts_1) #[] #[.pointer (some ⟨b_1, 0, none⟩), .pointer (some ⟨b, 0, none⟩)]) h_2) : CallsH Tryz.prog F.state_parts #[.slice l_p l_l l_c, .agg #[.int .i64 sizes_0, .int .i64 sizes_1, .int .i64 sizes_2, .int .i64 sizes_3]] h R :=
 callsH_of_body (.seq .leaf (.seq .leaf .leaf)) Tryz.func183 rfl rfl (Eq.mp (by kernel_rfl) hv)
theorem state_parts_1.y.walk {l : Nat} {c0 : Nat} {c1 : Nat} (hv :
 ∃ t6_0, hcell h ⟨c0, 0, none⟩ = some (.int .i64 t6_0) ∧ ∃ t6_1, hcell h ⟨c0, 1, none⟩ = some (.int .i64 t6_1) ∧ ∃ t6_2, hcell h ⟨c0, 2, none⟩ = some (.int .i64 t6_2) ∧ ∃ t6_3, hcell h ⟨c0, 3, none⟩ = some (.int .i64 t6_3) ∧
 ∃ (I : Int → Heap → Prop) (mu : Int → Heap → Nat), I 0 h ∧ ∀ (t7 : Int) (h_1 : Heap), I t7 h_1 →
 if (decide (t7 < 4)) = true then
 ((0 : Int) ≤ t7 ∧ t7 < ((4 : Nat) : Int)) ∧
 (t7 = ((0 : Nat) : Int) →
 JoinP (fun (t23 : Bool) (h_2 : Heap) =>
 if t23 = true then
 R (.tuple #[]) h_2
 else
 ∃ t24_p t24_l t24_c, hcell h_2 ⟨c1, 0, none⟩ = some (.slice t24_p t24_l t24_c) ∧
 ((0 : Int) ≤ t6_0 ∧ t6_0 ≤ ((t24_l : Nat) : Int)) ∧
 StoreP h_2 ⟨c1, 0, none⟩ (.slice (slBase t24_p t24_c (Int.toNat t6_0) 1) (t24_l - (Int.toNat t6_0)) (t24_c - (Int.toNat t6_0))) fun h_3 =>
 (([] : List Nat) = [] ∧ I (IntKind.wrap .i64 (t7 + 1)) h_3 ∧ mu (IntKind.wrap .i64 (t7 + 1)) h_3 < mu t7 h_1))
 (fun J =>
 ∃ t12_p t12_l t12_c, hcell h_1 ⟨c1, 0, none⟩ = some (.slice t12_p t12_l t12_c) ∧
 if (decide (t6_0 > ((t12_l : Nat) : Int))) = true then
 ([] : List Nat) = [] ∧ J true h_1
 else
 ∃ t18_p t18_l t18_c, hcell h_1 ⟨c1, 0, none⟩ = some (.slice t18_p t18_l t18_c) ∧
 ((0 : Int) ≤ t6_0 ∧ t6_0 ≤ ((t18_c : Nat) : Int)) ∧
 RoundH Tryz.prog l #[.int .i64 t7, .slice (slBase t18_p t18_c 0 1) ((Int.toNat t6_0) - 0) (t18_c - 0)] h_1 fun v h_4 =>
 ∃ (t : Bool), v = .bool t ∧
 ([] : List Nat) = [] ∧ J (!t) h_4)) ∧
 (t7 = ((1 : Nat) : Int) →
 JoinP (fun (t23_1 : Bool) (h_5 : Heap) =>
 if t23_1 = true then
 R (.tuple #[]) h_5
 else
 ∃ t24_p_1 t24_l_1 t24_c_1, hcell h_5 ⟨c1, 0, none⟩ = some (.slice t24_p_1 t24_l_1 t24_c_1) ∧
 ((0 : Int) ≤ t6_1 ∧ t6_1 ≤ ((t24_l_1 : Nat) : Int)) ∧
 StoreP h_5 ⟨c1, 0, none⟩ (.slice (slBase t24_p_1 t24_c_1 (Int.toNat t6_1) 1) (t24_l_1 - (Int.toNat t6_1)) (t24_c_1 - (Int.toNat t6_1))) fun h_6 =>
 (([] : List Nat) = [] ∧ I (IntKind.wrap .i64 (t7 + 1)) h_6 ∧ mu (IntKind.wrap .i64 (t7 + 1)) h_6 < mu t7 h_1))
 (fun J_1 =>
 ∃ t12_p_1 t12_l_1 t12_c_1, hcell h_1 ⟨c1, 0, none⟩ = some (.slice t12_p_1 t12_l_1 t12_c_1) ∧
 if (decide (t6_1 > ((t12_l_1 : Nat) : Int))) = true then
 ([] : List Nat) = [] ∧ J_1 true h_1
 else
 ∃ t18_p_1 t18_l_1 t18_c_1, hcell h_1 ⟨c1, 0, none⟩ = some (.slice t18_p_1 t18_l_1 t18_c_1) ∧
 ((0 : Int) ≤ t6_1 ∧ t6_1 ≤ ((t18_c_1 : Nat) : Int)) ∧
 RoundH Tryz.prog l #[.int .i64 t7, .slice (slBase t18_p_1 t18_c_1 0 1) ((Int.toNat t6_1) - 0) (t18_c_1 - 0)] h_1 fun v_1 h_7 =>
 ∃ (t_1 : Bool), v_1 = .bool t_1 ∧
 ([] : List Nat) = [] ∧ J_1 (!t_1) h_7)) ∧
 (t7 = ((2 : Nat) : Int) →
 JoinP (fun (t23_2 : Bool) (h_8 : Heap) =>
 if t23_2 = true then
 R (.tuple #[]) h_8
 else
 ∃ t24_p_2 t24_l_2 t24_c_2, hcell h_8 ⟨c1, 0, none⟩ = some (.slice t24_p_2 t24_l_2 t24_c_2) ∧
 ((0 : Int) ≤ t6_2 ∧ t6_2 ≤ ((t24_l_2 : Nat) : Int)) ∧
 StoreP h_8 ⟨c1, 0, none⟩ (.slice (slBase t24_p_2 t24_c_2 (Int.toNat t6_2) 1) (t24_l_2 - (Int.toNat t6_2)) (t24_c_2 - (Int.toNat t6_2))) fun h_9 =>
 (([] : List Nat) = [] ∧ I (IntKind.wrap .i64 (t7 + 1)) h_9 ∧ mu (IntKind.wrap .i64 (t7 + 1)) h_9 < mu t7 h_1))
 (fun J_2 =>
 ∃ t12_p_2 t12_l_2 t12_c_2, hcell h_1 ⟨c1, 0, none⟩ = some (.slice t12_p_2 t12_l_2 t12_c_2) ∧
 if (decide (t6_2 > ((t12_l_2 : Nat) : Int))) = true then
 ([] : List Nat) = [] ∧ J_2 true h_1
 else
 ∃ t18_p_2 t18_l_2 t18_c_2, hcell h_1 ⟨c1, 0, none⟩ = some (.slice t18_p_2 t18_l_2 t18_c_2) ∧
 ((0 : Int) ≤ t6_2 ∧ t6_2 ≤ ((t18_c_2 : Nat) : Int)) ∧
 RoundH Tryz.prog l #[.int .i64 t7, .slice (slBase t18_p_2 t18_c_2 0 1) ((Int.toNat t6_2) - 0) (t18_c_2 - 0)] h_1 fun v_2 h_10 =>
 ∃ (t_2 : Bool), v_2 = .bool t_2 ∧
 ([] : List Nat) = [] ∧ J_2 (!t_2) h_10)) ∧
 (t7 = ((3 : Nat) : Int) →
 JoinP (fun (t23_3 : Bool) (h_11 : Heap) =>
 if t23_3 = true then
 R (.tuple #[]) h_11
 else
 ∃ t24_p_3 t24_l_3 t24_c_3, hcell h_11 ⟨c1, 0, none⟩ = some (.slice t24_p_3 t24_l_3 t24_c_3) ∧
 ((0 : Int) ≤ t6_3 ∧ t6_3 ≤ ((t24_l_3 : Nat) : Int)) ∧
 StoreP h_11 ⟨c1, 0, none⟩ (.slice (slBase t24_p_3 t24_c_3 (Int.toNat t6_3) 1) (t24_l_3 - (Int.toNat t6_3)) (t24_c_3 - (Int.toNat t6_3))) fun h_12 =>
 (([] : List Nat) = [] ∧ I (IntKind.wrap .i64 (t7 + 1)) h_12 ∧ mu (IntKind.wrap .i64 (t7 + 1)) h_12 < mu t7 h_1))
 (fun J_3 =>
 ∃ t12_p_3 t12_l_3 t12_c_3, hcell h_1 ⟨c1, 0, none⟩ = some (.slice t12_p_3 t12_l_3 t12_c_3) ∧
 if (decide (t6_3 > ((t12_l_3 : Nat) : Int))) = true then
 ([] : List Nat) = [] ∧ J_3 true h_1
 else
 ∃ t18_p_3 t18_l_3 t18_c_3, hcell h_1 ⟨c1, 0, none⟩ = some (.slice t18_p_3 t18_l_3 t18_c_3) ∧
 ((0 : Int) ≤ t6_3 ∧ t6_3 ≤ ((t18_c_3 : Nat) : Int)) ∧
 RoundH Tryz.prog l #[.int .i64 t7, .slice (slBase t18_p_3 t18_c_3 0 1) ((Int.toNat t6_3) - 0) (t18_c_3 - 0)] h_1 fun v_3 h_13 =>
 ∃ (t_3 : Bool), v_3 = .bool t_3 ∧
 ([] : List Nat) = [] ∧ J_3 (!t_3) h_13)) ∧
 True
 else
 R (.tuple #[]) h_1) : CallsH Tryz.prog F.state_parts_1 #[.func (.yield l) #[] #[], .pointer (some ⟨c0, 0, none⟩), .pointer (some ⟨c1, 0, none⟩)] h R :=
 callsH_of_bodyF (.seq .leaf (.block (.loop [(7, .one (.int .i64))] (.seq .leaf (.seq (.cond .leaf .leaf) (.seq (.block (.seq .leaf (.seq (.seq (.join [(23, .one (.bool))] .leaf) (.cond .leaf .leaf)) .leaf))) .leaf)))))) Tryz.func202 rfl rfl (Eq.mp (by kernel_rfl) hv)
theorem state_State_loadParts.walk {s : Nat} {l_p : Option Addr} {l_l l_c : Nat} {sizes_0 : Int} {sizes_1 : Int} {sizes_2 : Int} {sizes_3 : Int} (hv :
 NewP h (.cells #[.pointer (some ⟨s, 0, none⟩)] T.p_state_State) fun b h_1 =>
 NewP h_1 (.cells #[.int .i64 sizes_0, .int .i64 sizes_1, .int .i64 sizes_2, .int .i64 sizes_3] T.a4_int) fun b_1 h_2 =>
 NewP h_2 (.cells #[.bool false] T.bool) fun b_2 h_3 =>
 NewP h_3 (.cells #[.int .i64 0] T.int) fun b_3 h_4 =>
 StoreP h_4 ⟨b_3, 0, none⟩ (.int .i64 0) fun h_5 =>
 ∃ t12_0, hcell h_5 ⟨b_1, 0, none⟩ = some (.int .i64 t12_0) ∧ ∃ t12_1, hcell h_5 ⟨b_1, 1, none⟩ = some (.int .i64 t12_1) ∧ ∃ t12_2, hcell h_5 ⟨b_1, 2, none⟩ = some (.int .i64 t12_2) ∧ ∃ t12_3, hcell h_5 ⟨b_1, 3, none⟩ = some (.int .i64 t12_3) ∧
 Cl F.state_parts #[.slice l_p l_l l_c, .agg #[.int .i64 t12_0, .int .i64 t12_1, .int .i64 t12_2, .int .i64 t12_3]] h_5 fun v h_6 =>
 ∃ t13, v = t13 ∧
 RangeP Tryz.prog (t13) h_6 (fun rec C args h_7 =>
 ∃ t14 t15_p t15_l t15_c, args = [.int .i64 t14, .slice t15_p t15_l t15_c] ∧
 AtL h_7 (h_6.size + 1) (rec .ready none) ∧ ∀ h_8, h_8 = setLoop h_7 (h_6.size + 1) (rec .busy none) →
 JoinP (fun (e : Int) (h_9 : Heap) =>
 if (e != 0) = true then
 StoreP h_9 ⟨b_2, 0, none⟩ (.bool false) fun h_10 =>
 (AtL h_10 (h_6.size + 1) (rec .busy none) ∧ C false (setLoop h_10 (h_6.size + 1) (rec .done (some .ret))))
 else
 ∃ t59, hcell h_9 ⟨b_3, 0, none⟩ = some (.int .i64 t59) ∧
 StoreP h_9 ⟨b_3, 0, none⟩ (.int .i64 (IntKind.wrap .i64 (t59 + ((t15_l : Nat) : Int)))) fun h_11 =>
 (AtL h_11 (h_6.size + 1) (rec .busy none) ∧ C true (setLoop h_11 (h_6.size + 1) (rec .ready none))))
 (fun J =>
 JoinP (fun (e_1 : Int) (h_12 : Heap) =>
 ([] : List Nat) = [] ∧ J e_1 h_12)
 (fun J_1 =>
 if (t14 == 0) = true then
 ∃ t20, hcell h_8 ⟨b, 0, none⟩ = some (.pointer t20) ∧
 Cl F.sessions_Load #[.slice t15_p t15_l t15_c] h_8 fun v_1 h_13 =>
 ∃ t22_0 t22_1, v_1 = .tuple #[.pointer t22_0, .int .i64 t22_1] ∧
 hcell h_13 ⟨b, 0, none⟩ = some (.pointer t20) ∧
 onSome t20 fun a =>
 StoreP h_13 a (.pointer t22_0) fun h_14 =>
 ([] : List Nat) = [] ∧ J_1 t22_1 h_14
 else
 JoinP (fun (e_2 : Int) (h_15 : Heap) =>
 ([] : List Nat) = [] ∧ J_1 e_2 h_15)
 (fun J_2 =>
 if (t14 == 1) = true then
 ∃ t30, hcell h_8 ⟨b, 0, none⟩ = some (.pointer t30) ∧
 Cl F.regs_Load #[.slice t15_p t15_l t15_c] h_8 fun v_2 h_16 =>
 ∃ t32_0 t32_1, v_2 = .tuple #[.pointer t32_0, .int .i64 t32_1] ∧
 hcell h_16 ⟨b, 0, none⟩ = some (.pointer t30) ∧
 onSome t30 fun a_1 =>
 StoreP h_16 (a_1.add 1) (.pointer t32_0) fun h_17 =>
 ([] : List Nat) = [] ∧ J_2 t32_1 h_17
 else
 JoinP (fun (e_3 : Int) (h_18 : Heap) =>
 ([] : List Nat) = [] ∧ J_2 e_3 h_18)
 (fun J_3 =>
 if (t14 == 2) = true then
 ∃ t40, hcell h_8 ⟨b, 0, none⟩ = some (.pointer t40) ∧
 Cl F.copies_Load #[.slice t15_p t15_l t15_c] h_8 fun v_3 h_19 =>
 ∃ t42_0 t42_1, v_3 = .tuple #[.pointer t42_0, .int .i64 t42_1] ∧
 hcell h_19 ⟨b, 0, none⟩ = some (.pointer t40) ∧
 onSome t40 fun a_2 =>
 StoreP h_19 (a_2.add 2) (.pointer t42_0) fun h_20 =>
 ([] : List Nat) = [] ∧ J_3 t42_1 h_20
 else
 JoinP (fun (e_4 : Int) (h_21 : Heap) =>
 ([] : List Nat) = [] ∧ J_3 e_4 h_21)
 (fun J_4 =>
 if (t14 == 3) = true then
 ∃ t50, hcell h_8 ⟨b, 0, none⟩ = some (.pointer t50) ∧
 Cl F.outbox_Load #[.slice t15_p t15_l t15_c] h_8 fun v_4 h_22 =>
 ∃ t52_0 t52_1, v_4 = .tuple #[.pointer t52_0, .int .i64 t52_1] ∧
 hcell h_22 ⟨b, 0, none⟩ = some (.pointer t50) ∧
 onSome t50 fun a_3 =>
 StoreP h_22 (a_3.add 3) (.pointer t52_0) fun h_23 =>
 ([] : List Nat) = [] ∧ J_4 t52_1 h_23
 else
 ([] : List Nat) = [] ∧ J_4 0 h_8))))))
 (JumpP (fun g =>
 ∃ t63, hcell g ⟨b_3, 0, none⟩ = some (.int .i64 t63) ∧
 if (t63 == ((l_l : Nat) : Int)) = true then
 ∃ t68, hcell g ⟨b, 0, none⟩ = some (.pointer t68) ∧
 Cl F.state_State_made #[.pointer t68] g fun v_5 h_24 =>
 ∃ t69, v_5 = .bool t69 ∧
 StoreP h_24 ⟨b_2, 0, none⟩ (.bool t69) fun h_25 =>
 h_25[h_6.size]? = some (.deferred (some [])) ∧ ∃ r, hcell (h_25.setIfInBounds h_6.size (.deferred none)) ⟨b_2, 0, none⟩ = some (.bool r) ∧
 R (.bool r) (h_25.setIfInBounds h_6.size (.deferred none))
 else
 StoreP g ⟨b_2, 0, none⟩ (.bool false) fun h_26 =>
 h_26[h_6.size]? = some (.deferred (some [])) ∧ ∃ r_1, hcell (h_26.setIfInBounds h_6.size (.deferred none)) ⟨b_2, 0, none⟩ = some (.bool r_1) ∧
 R (.bool r_1) (h_26.setIfInBounds h_6.size (.deferred none)))
 (fun g_1 =>
 g_1[h_6.size]? = some (.deferred (some [])) ∧ ∃ r_2, hcell (g_1.setIfInBounds h_6.size (.deferred none)) ⟨b_2, 0, none⟩ = some (.bool r_2) ∧
 R (.bool r_2) (g_1.setIfInBounds h_6.size (.deferred none)))
 (fun _ _ =>
 False))) : CallsH Tryz.prog F.state_State_loadParts #[.pointer (some ⟨s, 0, none⟩), .slice l_p l_l l_c, .agg #[.int .i64 sizes_0, .int .i64 sizes_1, .int .i64 sizes_2, .int .i64 sizes_3]] h R :=
 callsH_of_bodyF (.seq .leaf (.seq .leaf (.seq (.seq .leaf (.block (.scope 0 [(14, .one (.int .i64)), (15, .one (.slice))] (.seq .leaf .leaf) (.block (.seq .leaf (.seq (.seq .leaf (.join [(10, .one (.int .i64))] (.block (.seq .leaf (.join [(10, .one (.int .i64))] (.cond (.plan (.op 0 (.op 1 (.op 2 (.op 3 (.op 4 (.op 5 (.op 6 (.op 7 (.op 8 (.op 9 .done))))))))))) (.seq .leaf (.join [(10, .one (.int .i64))] (.cond (.plan (.op 0 (.op 1 (.op 2 (.op 3 (.op 4 (.op 5 (.op 6 (.op 7 (.op 8 (.op 9 .done))))))))))) (.seq .leaf (.join [(10, .one (.int .i64))] (.cond (.plan (.op 0 (.op 1 (.op 2 (.op 3 (.op 4 (.op 5 (.op 6 (.op 7 (.op 8 (.op 9 .done))))))))))) (.seq .leaf (.join [(10, .one (.int .i64))] (.cond (.plan (.op 0 (.op 1 (.op 2 (.op 3 (.op 4 (.op 5 (.op 6 (.op 7 (.op 8 (.op 9 .done))))))))))) .leaf))))))))))))))) (.seq (.seq .leaf (.cond (.seq .leaf .leaf) .leaf)) .leaf))))))) (.seq .leaf .leaf)))) Tryz.func140 rfl rfl (Eq.mp (by kernel_rfl) hv)
theorem state_Load.walk {l_p : Option Addr} {l_l l_c : Nat} (hv :
 if (((l_l : Nat) : Int) == 0) = true then
 R (.tuple #[.pointer none, .int .i64 3]) h
 else
 ((0 : Int) ≤ 0 ∧ 0 < ((l_l : Nat) : Int)) ∧
 onSome l_p fun a =>
 ∃ t18_p t18_l t18_c, hcell h (a.add (Int.toNat 0 * 1)) = some (.slice t18_p t18_l t18_c) ∧
 Cl F.fields_Read #[.slice t18_p t18_l t18_c] h fun v h_1 =>
 ∃ t19, v = .pointer t19 ∧
 Cl F.fields_Reader_Text #[.pointer t19] h_1 fun v_1 h_2 =>
 ∃ t22_p t22_l t22_c, v_1 = .slice t22_p t22_l t22_c ∧
 ∃ (t23 : ByteArray), ConvV Tryz.prog T.s_uint8 T.string (.slice t22_p t22_l t22_c) h_2 t23 ∧
 Cl F.eid_Parse #[.string t23] h_2 fun v_2 h_3 =>
 ∃ t24_0_0 t24_0_1 t24_0_2 t24_0_3 t24_0_4 t24_1, v_2 = .tuple #[.agg #[.bool t24_0_0, .int .u64 t24_0_1, .int .u64 t24_0_2, .string t24_0_3, .string t24_0_4], .int .i64 t24_1] ∧
 NewP h_3 (.cells #[.bool false, .int .u64 0, .int .u64 0, .string (⟨#[]⟩ : ByteArray), .string (⟨#[]⟩ : ByteArray)] T.eid_Eid) fun b h_4 =>
 eid_Eid.ST h_4 ⟨b, 0, none⟩ t24_0_0 t24_0_1 t24_0_2 t24_0_3 t24_0_4 fun h_5 =>
 eid_Eid.LD h_5 ⟨b, 0, none⟩ fun t28_0 t28_1 t28_2 t28_3 t28_4 =>
 Cl F.state_New #[.agg #[.bool t28_0, .int .u64 t28_1, .int .u64 t28_2, .string t28_3, .string t28_4]] h_5 fun v_3 h_6 =>
 ∃ t29_0 t29_1, v_3 = .tuple #[.pointer t29_0, .int .i64 t29_1] ∧
 if (t29_1 != 0) = true then
 R (.tuple #[.pointer none, .int .i64 3]) h_6
 else
 Cl F.fields_Reader_Num #[.pointer t19] h_6 fun v_4 h_7 =>
 ∃ t37, v_4 = .int .u64 t37 ∧
 Cl F.fields_Reader_Int #[.pointer t19] h_7 fun v_5 h_8 =>
 ∃ t39, v_5 = .int .i64 t39 ∧
 onSome t29_0 fun a_1 =>
 StoreP h_8 (a_1.add 6) (.int .u64 t37) fun h_9 =>
 onSome t29_0 fun a_2 =>
 StoreP h_9 (a_2.add 7) (.int .i64 t39) fun h_10 =>
 JoinP (fun (last : Option Addr) (h_11 : Heap) =>
 Cl F.fields_Reader_Int #[.pointer t19] h_11 fun v_6 h_12 =>
 ∃ t51, v_6 = .int .i64 t51 ∧
 Cl F.fields_Reader_Int #[.pointer t19] h_12 fun v_7 h_13 =>
 ∃ t53, v_7 = .int .i64 t53 ∧
 Cl F.fields_Reader_Int #[.pointer t19] h_13 fun v_8 h_14 =>
 ∃ t55, v_8 = .int .i64 t55 ∧
 Cl F.fields_Reader_Int #[.pointer t19] h_14 fun v_9 h_15 =>
 ∃ t57, v_9 = .int .i64 t57 ∧
 NewP h_15 (.cells #[.int .i64 0, .int .i64 0, .int .i64 0, .int .i64 0] T.a4_int) fun b_1 h_16 =>
 StoreP h_16 ⟨b_1, 0, none⟩ (.int .i64 t51) fun h_17 =>
 StoreP h_17 ⟨b_1, 1, none⟩ (.int .i64 t53) fun h_18 =>
 StoreP h_18 ⟨b_1, 2, none⟩ (.int .i64 t55) fun h_19 =>
 StoreP h_19 ⟨b_1, 3, none⟩ (.int .i64 t57) fun h_20 =>
 JoinP (fun (t74 : Bool) (h_21 : Heap) =>
 if t74 = true then
 R (.tuple #[.pointer none, .int .i64 3]) h_21
 else
 JoinP (fun (t92 : Bool) (h_22 : Heap) =>
 if t92 = true then
 R (.tuple #[.pointer none, .int .i64 3]) h_22
 else
 onSome t29_0 fun a_3 =>
 ∃ t96, hcell h_22 (a_3.add 3) = some (.pointer t96) ∧
 Cl F.outbox_Box_All #[.pointer t96] h_22 fun v_10 h_23 =>
 ∃ t97_p t97_l t97_c, v_10 = .slice t97_p t97_l t97_c ∧
 ∃ (I : Int → Heap → Prop) (mu : Int → Heap → Nat), I 0 h_23 ∧ ∀ (t99 : Int) (h_24 : Heap), I t99 h_24 →
 if (decide (t99 < ((t97_l : Nat) : Int))) = true then
 ((0 : Int) ≤ t99 ∧ t99 < ((t97_l : Nat) : Int)) ∧
 onSome t97_p fun a_4 =>
 outbox_Item.LD h_24 (a_4.add (Int.toNat t99 * 4)) fun t102_0 t102_1 t102_2_p t102_2_l t102_2_c t102_3 =>
 NewP h_24 (.cells #[.int .i64 0, .int .i64 0, .slice none 0 0, .int .u64 0] T.outbox_Item) fun b_2 h_25 =>
 outbox_Item.ST h_25 ⟨b_2, 0, none⟩ t102_0 t102_1 t102_2_p t102_2_l t102_2_c t102_3 fun h_26 =>
 onSome t29_0 fun a_5 =>
 ∃ t106, hcell h_26 (a_5.add 4) = some (.pointer t106) ∧
 ∃ t108, hcell h_26 ⟨b_2, 1, none⟩ = some (.int .i64 t108) ∧
 ∃ t110_p t110_l t110_c, hcell h_26 ⟨b_2, 2, none⟩ = some (.slice t110_p t110_l t110_c) ∧
 Cl F.quota_Purse_Take #[.pointer t106, .int .i64 t108, .int .i64 ((t110_l : Nat) : Int)] h_26 fun v_11 h_27 =>
 ∃ t112, v_11 = .int .i64 t112 ∧
 hcell h_27 ⟨b_2, 2, none⟩ = some (.slice t110_p t110_l t110_c) ∧
 if (t112 != 0) = true then
 R (.tuple #[.pointer none, .int .i64 3]) h_27
 else
 (I (IntKind.wrap .i64 (t99 + 1)) h_27 ∧ mu (IntKind.wrap .i64 (t99 + 1)) h_27 < mu t99 h_24)
 else
 Cl F.state_State_Save #[.pointer t29_0] h_24 fun v_12 h_28 =>
 ∃ t116_p t116_l t116_c, v_12 = .slice t116_p t116_l t116_c ∧
 Cl F.slices_EqualFunc_s_s_byte_s_s_byte_s_byte_s_byte #[.slice t116_p t116_l t116_c, .slice l_p l_l l_c, .func (.func F.bytes_Equal) #[] #[]] h_28 fun v_13 h_29 =>
 ∃ t118, v_13 = .bool t118 ∧
 if (!t118) = true then
 R (.tuple #[.pointer none, .int .i64 3]) h_29
 else
 R (.tuple #[.pointer t29_0, .int .i64 0]) h_29)
 (fun J_2 =>
 Cl F.fields_Reader_End #[.pointer t19] h_21 fun v_14 h_30 =>
 ∃ t76, v_14 = .int .i64 t76 ∧
 if (t76 != 0) = true then
 J_2 true h_30
 else
 onSome t29_0 fun a_6 =>
 ∃ t82, hcell h_30 (a_6.add 6) = some (.int .u64 t82) ∧
 if (decide (t82 > 1099511627776)) = true then
 J_2 true h_30
 else
 ((0 : Int) ≤ 1 ∧ 1 ≤ ((l_l : Nat) : Int)) ∧
 ∃ t89_0, hcell h_30 ⟨b_1, 0, none⟩ = some (.int .i64 t89_0) ∧ ∃ t89_1, hcell h_30 ⟨b_1, 1, none⟩ = some (.int .i64 t89_1) ∧ ∃ t89_2, hcell h_30 ⟨b_1, 2, none⟩ = some (.int .i64 t89_2) ∧ ∃ t89_3, hcell h_30 ⟨b_1, 3, none⟩ = some (.int .i64 t89_3) ∧
 Cl F.state_State_loadParts #[.pointer t29_0, .slice (slBase l_p l_c (Int.toNat 1) 1) (l_l - (Int.toNat 1)) (l_c - (Int.toNat 1)), .agg #[.int .i64 t89_0, .int .i64 t89_1, .int .i64 t89_2, .int .i64 t89_3]] h_30 fun v_15 h_31 =>
 ∃ t90, v_15 = .bool t90 ∧
 hcell h_31 (a_6.add 6) = some (.int .u64 t82) ∧
 J_2 (!t90) h_31))
 (fun J_1 =>
 onSome last fun a_7 =>
 ident_Ident.LD h_20 a_7 fun t59_0 t59_1 t59_2 t59_3 t59_4 t59_5 t59_6 =>
 onSome t29_0 fun a_8 =>
 ∃ t63, hcell h_20 (a_8.add 5) = some (.pointer t63) ∧
 Cl F.ident_Maker_Last #[.pointer t63] h_20 fun v_16 h_32 =>
 ∃ t64_0 t64_1 t64_2 t64_3 t64_4 t64_5 t64_6, v_16 = .agg #[.bool t64_0, .int .u64 t64_1, .int .u64 t64_2, .string t64_3, .string t64_4, .int .u64 t64_5, .int .u64 t64_6] ∧
 heldL a_7 [.bool t59_0, .int .u64 t59_1, .int .u64 t59_2, .string t59_3, .string t59_4, .int .u64 t59_5, .int .u64 t59_6] 0 h_32 ∧
 ∃ (eq : Bool), EqV Tryz.prog T.ident_Ident (.agg #[.bool t59_0, .int .u64 t59_1, .int .u64 t59_2, .string t59_3, .string t59_4, .int .u64 t59_5, .int .u64 t59_6]) (.agg #[.bool t64_0, .int .u64 t64_1, .int .u64 t64_2, .string t64_3, .string t64_4, .int .u64 t64_5, .int .u64 t64_6]) eq ∧
 if (!eq) = true then
 onSome t29_0 fun a_9 =>
 ∃ t70, hcell h_32 (a_9.add 5) = some (.pointer t70) ∧
 onSome last fun a_10 =>
 ident_Ident.LD h_32 a_10 fun t71_0 t71_1 t71_2 t71_3 t71_4 t71_5 t71_6 =>
 Cl F.ident_Maker_Keep #[.pointer t70, .agg #[.bool t71_0, .int .u64 t71_1, .int .u64 t71_2, .string t71_3, .string t71_4, .int .u64 t71_5, .int .u64 t71_6]] h_32 fun v_17 h_33 =>
 ∃ t72, v_17 = .int .i64 t72 ∧
 heldL a_7 [.bool t59_0, .int .u64 t59_1, .int .u64 t59_2, .string t59_3, .string t59_4, .int .u64 t59_5, .int .u64 t59_6] 0 h_33 ∧
 J_1 (t72 != 0) h_33
 else
 J_1 false h_32))
 (fun J =>
 eid_Eid.LD h_10 ⟨b, 0, none⟩ fun t44_0 t44_1 t44_2 t44_3 t44_4 =>
 (Cl F.fields_Reader_Num #[.pointer t19] h_10 fun v_18 h_34 =>
 ∃ t46, v_18 = .int .u64 t46 ∧
 heldL ⟨b, 0, none⟩ [.bool t44_0, .int .u64 t44_1, .int .u64 t44_2, .string t44_3, .string t44_4] 0 h_34 ∧
 (Cl F.fields_Reader_Num #[.pointer t19] h_34 fun v_19 h_35 =>
 ∃ t48, v_19 = .int .u64 t48 ∧
 heldL ⟨b, 0, none⟩ [.bool t44_0, .int .u64 t44_1, .int .u64 t44_2, .string t44_3, .string t44_4] 0 h_35 ∧
 NewP h_35 (.cells #[.bool false, .int .u64 0, .int .u64 0, .string (⟨#[]⟩ : ByteArray), .string (⟨#[]⟩ : ByteArray), .int .u64 0, .int .u64 0] T.ident_Ident) fun b_3 h_36 =>
 heldL ⟨b, 0, none⟩ [.bool t44_0, .int .u64 t44_1, .int .u64 t44_2, .string t44_3, .string t44_4] 0 h_36 ∧
 ident_Ident.ST h_36 ⟨b_3, 0, none⟩ t44_0 t44_1 t44_2 t44_3 t44_4 t46 t48 fun h_37 =>
 J (some ⟨b_3, 0, none⟩) h_37) ∧
 (NewP h_34 (.cells #[.bool false, .int .u64 0, .int .u64 0, .string (⟨#[]⟩ : ByteArray), .string (⟨#[]⟩ : ByteArray), .int .u64 0, .int .u64 0] T.ident_Ident) fun b_4 h_38 =>
 heldL ⟨b, 0, none⟩ [.bool t44_0, .int .u64 t44_1, .int .u64 t44_2, .string t44_3, .string t44_4] 0 h_38 ∧
 Cl F.fields_Reader_Num #[.pointer t19] h_38 fun v_20 h_39 =>
 ∃ t48_1, v_20 = .int .u64 t48_1 ∧
 heldL ⟨b, 0, none⟩ [.bool t44_0, .int .u64 t44_1, .int .u64 t44_2, .string t44_3, .string t44_4] 0 h_39 ∧
 ident_Ident.ST h_39 ⟨b_4, 0, none⟩ t44_0 t44_1 t44_2 t44_3 t44_4 t46 t48_1 fun h_40 =>
 J (some ⟨b_4, 0, none⟩) h_40) ∧
 True) ∧
 (NewP h_10 (.cells #[.bool false, .int .u64 0, .int .u64 0, .string (⟨#[]⟩ : ByteArray), .string (⟨#[]⟩ : ByteArray), .int .u64 0, .int .u64 0] T.ident_Ident) fun b_5 h_41 =>
 heldL ⟨b, 0, none⟩ [.bool t44_0, .int .u64 t44_1, .int .u64 t44_2, .string t44_3, .string t44_4] 0 h_41 ∧
 Cl F.fields_Reader_Num #[.pointer t19] h_41 fun v_21 h_42 =>
 ∃ t46_1, v_21 = .int .u64 t46_1 ∧
 heldL ⟨b, 0, none⟩ [.bool t44_0, .int .u64 t44_1, .int .u64 t44_2, .string t44_3, .string t44_4] 0 h_42 ∧
 Cl F.fields_Reader_Num #[.pointer t19] h_42 fun v_22 h_43 =>
 ∃ t48_2, v_22 = .int .u64 t48_2 ∧
 heldL ⟨b, 0, none⟩ [.bool t44_0, .int .u64 t44_1, .int .u64 t44_2, .string t44_3, .string t44_4] 0 h_43 ∧
 ident_Ident.ST h_43 ⟨b_5, 0, none⟩ t44_0 t44_1 t44_2 t44_3 t44_4 t46_1 t48_2 fun h_44 =>
 J (some ⟨b_5, 0, none⟩) h_44) ∧
 True)) : CallsH Tryz.prog F.state_Load #[.slice l_p l_l l_c] h R :=
 callsH_of_body (.seq .leaf (.seq (.seq .leaf (.cond (.seq .leaf .leaf) .leaf)) (.seq .leaf (.seq .leaf (.seq .leaf (.seq (.seq .leaf (.cond (.seq .leaf .leaf) .leaf)) (.seq .leaf (.seq (.join [(9, .one (.ptr))] (.plan (.op 0 (.op 1 (.op 3 (.alts (.fork 2 (.alts (.fork 4 (.op 5 (.op 6 (.op 7 .done))) (.fork 6 (.op 4 (.op 5 (.op 7 .done))) .noalt))) (.fork 6 (.op 2 (.op 4 (.op 5 (.op 7 .done)))) .noalt)))))))) (.seq .leaf (.seq (.seq (.join [(74, .one (.bool))] (.plan (.op 0 (.op 1 (.op 2 (.op 3 (.op 4 (.op 5 (.op 6 (.op 7 (.op 8 (.op 9 (.op 10 (.op 11 (.op 12 (.op 13 (.op 14 (.op 15 .done)))))))))))))))))) (.cond (.seq .leaf .leaf) .leaf)) (.seq (.seq (.join [(92, .one (.bool))] (.plan (.op 0 (.op 1 (.op 2 (.op 3 (.op 4 (.op 5 (.op 6 (.op 7 (.op 8 (.op 9 (.op 10 (.op 11 (.op 12 (.op 13 (.op 14 (.op 15 (.op 16 (.op 17 .done)))))))))))))))))))) (.cond (.seq .leaf .leaf) .leaf)) (.seq (.seq .leaf (.block (.loop [(99, .one (.int .i64))] (.seq .leaf (.seq (.cond .leaf .leaf) (.seq (.block (.seq .leaf (.seq (.plan (.op 0 (.op 1 (.op 2 (.op 3 (.op 4 (.op 5 (.op 6 (.op 7 (.op 8 (.op 9 (.op 10 .done)))))))))))) (.cond (.seq .leaf .leaf) .leaf)))) .leaf)))))) (.seq (.seq .leaf (.cond (.seq .leaf .leaf) .leaf)) (.seq .leaf .leaf)))))))))))))) Tryz.func56 rfl rfl (Eq.mp (by kernel_rfl) hv)
theorem law26_StateBack.walk {ops_p : Option Addr} {ops_l ops_c : Nat} {more_p : Option Addr} {more_l more_c : Nat} (hv :
 Cl F.law26_Self #[] h fun v h_1 =>
 ∃ t17_0 t17_1 t17_2 t17_3 t17_4, v = .agg #[.bool t17_0, .int .u64 t17_1, .int .u64 t17_2, .string t17_3, .string t17_4] ∧
 Cl F.state_New #[.agg #[.bool t17_0, .int .u64 t17_1, .int .u64 t17_2, .string t17_3, .string t17_4]] h_1 fun v_1 h_2 =>
 ∃ t18_0 t18_1, v_1 = .tuple #[.pointer t18_0, .int .i64 t18_1] ∧
 JoinP (fun (t27 : Bool) (h_3 : Heap) =>
 if t27 = true then
 R (.bool false) h_3
 else
 ∃ (I : Int → Heap → Prop) (mu : Int → Heap → Nat), I 0 h_3 ∧ ∀ (i : Int) (h_4 : Heap), I i h_4 →
 JoinP (fun (t35 : Bool) (h_5 : Heap) =>
 if t35 = true then
 ((0 : Int) ≤ i ∧ i < ((ops_l : Nat) : Int)) ∧
 onSome ops_p fun a =>
 ∃ t42_p t42_l t42_c, hcell h_5 ((a.add (Int.toNat i * 5)).add 3) = some (.slice t42_p t42_l t42_c) ∧
 if (decide (((t42_l : Nat) : Int) > 700)) = true then
 Cl F.law26_alive #[] h_5 fun v_2 h_6 =>
 ∃ t45, v_2 = .bool t45 ∧
 R (.bool t45) h_6
 else
 ((0 : Int) ≤ i ∧ i < ((ops_l : Nat) : Int)) ∧
 onSome ops_p fun a_1 =>
 law26_Op.LD h_5 (a_1.add (Int.toNat i * 5)) fun t50_0 t50_1 t50_2 t50_3_p t50_3_l t50_3_c t50_4 =>
 Cl F.law26_do #[.pointer t18_0, .agg #[.int .i64 t50_0, .int .i64 t50_1, .int .i64 t50_2, .slice t50_3_p t50_3_l t50_3_c, .int .u64 t50_4]] h_5 fun v_3 h_7 =>
 ∃ t51, v_3 = .int .i64 t51 ∧
 (I (IntKind.wrap .i64 (i + 1)) h_7 ∧ mu (IntKind.wrap .i64 (i + 1)) h_7 < mu i h_4)
 else
 Cl F.state_State_Save #[.pointer t18_0] h_5 fun v_4 h_8 =>
 ∃ t53_p t53_l t53_c, v_4 = .slice t53_p t53_l t53_c ∧
 Cl F.state_Load #[.slice t53_p t53_l t53_c] h_8 fun v_5 h_9 =>
 ∃ t56_0 t56_1, v_5 = .tuple #[.pointer t56_0, .int .i64 t56_1] ∧
 JoinP (fun (t77 : Bool) (h_10 : Heap) =>
 if t77 = true then
 R (.bool false) h_10
 else
 ∃ (I_1 : Int → Heap → Prop) (mu_1 : Int → Heap → Nat), I_1 0 h_10 ∧ ∀ (i_1 : Int) (h_11 : Heap), I_1 i_1 h_11 →
 JoinP (fun (t85 : Bool) (h_12 : Heap) =>
 if t85 = true then
 ((0 : Int) ≤ i_1 ∧ i_1 < ((more_l : Nat) : Int)) ∧
 onSome more_p fun a_2 =>
 ∃ t92_p t92_l t92_c, hcell h_12 ((a_2.add (Int.toNat i_1 * 5)).add 3) = some (.slice t92_p t92_l t92_c) ∧
 if (decide (((t92_l : Nat) : Int) > 700)) = true then
 Cl F.law26_alive #[] h_12 fun v_6 h_13 =>
 ∃ t95, v_6 = .bool t95 ∧
 R (.bool t95) h_13
 else
 JoinP (fun (t118 : Bool) (h_14 : Heap) =>
 if t118 = true then
 R (.bool false) h_14
 else
 (I_1 (IntKind.wrap .i64 (i_1 + 1)) h_14 ∧ mu_1 (IntKind.wrap .i64 (i_1 + 1)) h_14 < mu_1 i_1 h_11))
 (fun J_4 =>
 ((0 : Int) ≤ i_1 ∧ i_1 < ((more_l : Nat) : Int)) ∧
 onSome more_p fun a_3 =>
 law26_Op.LD h_12 (a_3.add (Int.toNat i_1 * 5)) fun t100_0 t100_1 t100_2 t100_3_p t100_3_l t100_3_c t100_4 =>
 ((0 : Int) ≤ i_1 ∧ i_1 < ((more_l : Nat) : Int)) ∧
 onSome more_p fun a_4 =>
 law26_Op.LD h_12 (a_4.add (Int.toNat i_1 * 5)) fun t106_0 t106_1 t106_2 t106_3_p t106_3_l t106_3_c t106_4 =>
 Cl F.law26_do #[.pointer t18_0, .agg #[.int .i64 t100_0, .int .i64 t100_1, .int .i64 t100_2, .slice t100_3_p t100_3_l t100_3_c, .int .u64 t100_4]] h_12 fun v_7 h_15 =>
 ∃ t101, v_7 = .int .i64 t101 ∧
 heldL (a_4.add (Int.toNat i_1 * 5)) [.int .i64 t106_0, .int .i64 t106_1, .int .i64 t106_2, .slice t106_3_p t106_3_l t106_3_c, .int .u64 t106_4] 0 h_15 ∧
 Cl F.law26_do #[.pointer t56_0, .agg #[.int .i64 t106_0, .int .i64 t106_1, .int .i64 t106_2, .slice t106_3_p t106_3_l t106_3_c, .int .u64 t106_4]] h_15 fun v_8 h_16 =>
 ∃ t107, v_8 = .int .i64 t107 ∧
 if (t101 != t107) = true then
 J_4 true h_16
 else
 Cl F.law26_pure #[.pointer t18_0] h_16 fun v_9 h_17 =>
 ∃ t111, v_9 = .bool t111 ∧
 if (!t111) = true then
 J_4 true h_17
 else
 Cl F.law26_pure #[.pointer t56_0] h_17 fun v_10 h_18 =>
 ∃ t116, v_10 = .bool t116 ∧
 J_4 (!t116) h_18)
 else
 ((0 : Int) ≤ IntKind.wrap .i64 (((t53_l : Nat) : Int) - 1) ∧ IntKind.wrap .i64 (((t53_l : Nat) : Int) - 1) ≤ ((t53_c : Nat) : Int)) ∧
 Cl F.state_Load #[.slice (slBase t53_p t53_c 0 1) ((Int.toNat (IntKind.wrap .i64 (((t53_l : Nat) : Int) - 1))) - 0) (t53_c - 0)] h_12 fun v_11 h_19 =>
 ∃ t125_0 t125_1, v_11 = .tuple #[.pointer t125_0, .int .i64 t125_1] ∧
 NewP h_19 (.cells #[] T.s_uint8) fun b h_20 =>
 denSem Tryz.prog (Builtin.append_ #[T.s_s_uint8, T.s_s_uint8] T.s_s_uint8 #[.slice (some ⟨b, 0, none⟩) 0 0, .slice t53_p t53_l t53_c]) h_20 fun v_12 h_21 =>
 ∃ t131_p t131_l t131_c, v_12 = .slice t131_p t131_l t131_c ∧
 NewP h_21 (.cells #[.int .u8 1] T.uint8) fun b_1 h_22 =>
 NewP h_22 (.cells #[.slice (some ⟨b_1, 0, none⟩) 1 1] T.s_uint8) fun b_2 h_23 =>
 denSem Tryz.prog (Builtin.append_ #[T.s_s_uint8, T.s_s_uint8] T.s_s_uint8 #[.slice t131_p t131_l t131_c, .slice (some ⟨b_2, 0, none⟩) 1 1]) h_23 fun v_13 h_24 =>
 ∃ t134_p t134_l t134_c, v_13 = .slice t134_p t134_l t134_c ∧
 Cl F.state_Load #[.slice t134_p t134_l t134_c] h_24 fun v_14 h_25 =>
 ∃ t135_0 t135_1, v_14 = .tuple #[.pointer t135_0, .int .i64 t135_1] ∧
 Cl F.law26_alive #[] h_25 fun v_15 h_26 =>
 ∃ t138, v_15 = .bool t138 ∧
 if t138 = true then
 Cl F.state_State_Save #[.pointer t18_0] h_26 fun v_16 h_27 =>
 ∃ t141_p t141_l t141_c, v_16 = .slice t141_p t141_l t141_c ∧
 Cl F.state_State_Save #[.pointer t56_0] h_27 fun v_17 h_28 =>
 ∃ t143_p t143_l t143_c, v_17 = .slice t143_p t143_l t143_c ∧
 Cl F.law19_Same #[.slice t141_p t141_l t141_c, .slice t143_p t143_l t143_c] h_28 fun v_18 h_29 =>
 ∃ t144, v_18 = .bool t144 ∧
 if t144 = true then
 if (t125_1 == 3) = true then
 R (.bool (t135_1 == 3)) h_29
 else
 R (.bool false) h_29
 else
 R (.bool false) h_29
 else
 R (.bool false) h_26)
 (fun J_3 =>
 if (decide (i_1 < ((more_l : Nat) : Int))) = true then
 J_3 (decide (i_1 < 40)) h_11
 else
 J_3 false h_11))
 (fun J_2 =>
 if (t56_1 != 0) = true then
 J_2 true h_9
 else
 Cl F.law26_whole #[.pointer t56_0] h_9 fun v_19 h_30 =>
 ∃ t63, v_19 = .bool t63 ∧
 if (!t63) = true then
 J_2 true h_30
 else
 Cl F.state_State_Save #[.pointer t56_0] h_30 fun v_20 h_31 =>
 ∃ t68_p t68_l t68_c, v_20 = .slice t68_p t68_l t68_c ∧
 Cl F.law19_Same #[.slice t68_p t68_l t68_c, .slice t53_p t53_l t53_c] h_31 fun v_21 h_32 =>
 ∃ t70, v_21 = .bool t70 ∧
 if (!t70) = true then
 J_2 true h_32
 else
 J_2 (((t53_l : Nat) : Int) == 0) h_32))
 (fun J_1 =>
 if (decide (i < ((ops_l : Nat) : Int))) = true then
 J_1 (decide (i < 60)) h_4
 else
 J_1 false h_4))
 (fun J =>
 if (t18_1 != 0) = true then
 J true h_2
 else
 Cl F.law26_whole #[.pointer t18_0] h_2 fun v_22 h_33 =>
 ∃ t25, v_22 = .bool t25 ∧
 J (!t25) h_33)) : CallsH Tryz.prog F.law26_StateBack #[.slice ops_p ops_l ops_c, .slice more_p more_l more_c] h R :=
 callsH_of_body (.seq .leaf (.seq .leaf (.seq (.seq (.join [(27, .one (.bool))] .leaf) (.cond (.seq .leaf .leaf) .leaf)) (.seq (.seq .leaf (.block (.loop [(7, .one (.int .i64))] (.seq (.seq (.join [(35, .one (.bool))] .leaf) (.cond .leaf .leaf)) (.seq (.block (.seq (.seq .leaf (.cond (.seq .leaf .leaf) .leaf)) .leaf)) .leaf))))) (.seq .leaf (.seq .leaf (.seq (.seq (.join [(77, .one (.bool))] .leaf) (.cond (.seq .leaf .leaf) .leaf)) (.seq (.seq .leaf (.block (.loop [(11, .one (.int .i64))] (.seq (.seq (.join [(85, .one (.bool))] .leaf) (.cond .leaf .leaf)) (.seq (.block (.seq (.seq .leaf (.cond (.seq .leaf .leaf) .leaf)) (.seq (.join [(118, .one (.bool))] (.plan (.op 0 (.op 1 (.op 2 (.op 3 (.op 4 (.op 6 (.op 7 (.op 8 (.op 9 (.op 10 (.op 5 (.op 11 (.op 12 (.op 13 (.op 14 (.op 15 (.op 16 (.op 17 (.op 18 (.op 19 (.op 20 (.op 21 (.op 22 .done))))))))))))))))))))))))) (.cond (.seq .leaf .leaf) .leaf)))) .leaf))))) (.seq .leaf (.seq .leaf (.seq .leaf .leaf))))))))))) Tryz.func8 rfl rfl (Eq.mp (by kernel_rfl) hv)
end Go.Proofs.YtgccegnmggjkjaaGreatDoor
set_option maxRecDepth 100000
namespace Go.Proofs.YtgccegnmggjkjaaGreatDoor
open Go.Den Go.Fields
theorem _root_.Go.Den.RoundH.mono {P:Program} {l:Nat} {args:Array Value} {h:Heap} {R R':Value→Heap→Prop} (H:RoundH P l args h R) (hr: ∀v h',R v h'→R' v h'):RoundH P l args h R':=fun w hw=>by
 obtain⟨f,tm,a,b,h1,h2⟩:=H w hw
 refine⟨f,tm,a,b,h1,fun r m=>RoundIn.mono (h2 r m) ?_⟩
 rintro e w' ⟨v,rfl,hv,hs⟩
 exact⟨v,rfl,hr _ _ hv,hs⟩
theorem _root_.Go.Den.Fam.swap {P P':Nat→Heap→Ft→Prop} {h h1:Heap} {X Z':Ft} {j:Nat} (S:Stable P) (H:Fam P h X) (hj:P' j h1 Z') (f:UpF h Z' h1) (hs: ∀i,i≠j→P' i=P i):
  ∃X',Fam P' h1 X'∧ ∀y,In X' y→In X y∨h.size≤y:=by
 obtain⟨Y,hp,ap,hm,hd⟩:=H
 have old: ∀i y,i≠j→In (Y i) y→ ¬In Z' y:=fun i y _ hy hz=>by
  have l:=S.lt (hp i) y hy
  have:=f.ge y hz;omega
 refine⟨⟨fun y=> ∃i,(if i=j then Z' else Y i).M y,fun y=> ∃i,(if i=j then Z' else Y i).D y⟩,⟨fun i=>if i=j then Z' else Y i,fun i=> ?_,fun i k y hik hy hz=> ?_,fun _=>Iff.rfl,fun _=>Iff.rfl⟩,fun y hy=> ?_⟩
 ·show P' i h1 (if i=j then Z' else Y i)
  by_cases e:i=j
  ·rw[if_pos e,e];exact hj
  ·rw[if_neg e,hs i e]
   exact S.frame (hp i) f.fr (fun y hy a=>a)
 ·dsimp only at hy hz
  by_cases e:i=j
  ·rw[if_pos e] at hy;rw[if_neg (fun q=>hik (e.trans q.symm))] at hz
   exact old k y (fun q=>hik (e.trans q.symm)) hz hy
  ·rw[if_neg e] at hy
   by_cases e2:k=j
   ·rw[if_pos e2] at hz;exact old i y e hy hz
   ·rw[if_neg e2] at hz;exact ap i k y hik hy hz
 ·have key: ∀i,In (if i=j then Z' else Y i) y→In X y∨h.size≤y:=fun i a=>by
   by_cases e:i=j
   ·rw[if_pos e] at a;exact .inr (f.ge y a)
   ·rw[if_neg e] at a;exact .inl (a.imp (fun b=>(hm y).2 ⟨i,b⟩) (fun b=>(hd y).2 ⟨i,b⟩))
  rcases hy with⟨i,a⟩|⟨i,a⟩
  ·exact key i (.inl a)
  ·exact key i (.inr a)
namespace Fld
variable {h : Heap} {p : Option Addr} {l c : Nat} {xs : List BV}
theorem Rows.drop (H:Rows h p l c xs) {n:Nat} (hn:n≤l):Rows h (slBase p c n 1) (l - n) (c - n) (xs.drop n):=by
 have hl:=H.len
 have r:=H.row.sub (l:=n) (u:=xs.length) (cap:=c) (sz:=1) (by omega) (by have:=H.cap;omega)
 rw[flat_take nenc 1 nenc_len,List.take_length,flat_drop nenc 1 nenc_len] at r
 exact⟨by rw[List.length_drop];omega,r,by have:=H.cap;omega,fun x hx=>H.each x (List.mem_of_mem_drop hx)⟩
theorem Rows.take (H:Rows h p l c xs) {n:Nat} (hn:n≤l):Rows h (slBase p c 0 1) (n - 0) (c - 0) (xs.take n):=by
 have hl:=H.len
 have r:=H.row.sub (l:=0) (u:=n) (cap:=c) (sz:=1) (by omega) (by have:=H.cap;omega)
 rw[flat_take nenc 1 nenc_len,Nat.zero_mul,List.drop_zero] at r
 exact⟨by rw[List.length_take];omega,r,by have:=H.cap;omega,fun x hx=>H.each x (List.mem_of_mem_take hx)⟩
end Fld
namespace Stt
variable {h h0 : Heap} {R : Value → Heap → Prop} {p : Option Addr} {l c c0 c1 : Nat} {xs : List BV} {n : Nat → Nat}
theorem ite_mk {q:Prop} [Decidable q] {A B:Prop} (h1:q→A) (h2: ¬q→B):if q then A else B:=by
 by_cases h:q
 ·rw[if_pos h];exact h1 h
 ·rw[if_neg h];exact h2 h
theorem Pt.swap {h h1 h2:Heap} {s j:Nat} {X Z':Ft} {I I':Ids} {σ σ':SS} (H:Pt h s X I σ) (j6:j≠6) (hj:part σ' I' s j h1 Z') (f:UpF h Z' h1) (hI: ∀i,i≠j→i≠6→part σ' I' s i=part σ I s i)
  (b:Bk h2 s I' σ'.now σ'.rf) (hs:h2.size=h1.size) (ho: ∀x,x≠s→h2[x]? =h1[x]?): ∃X',Pt h2 s X' I' σ'∧ ∀y,In X' y→In X y∨h.size≤y:=by
 obtain⟨X1,H1,i1⟩:=Fam.swap (P':=fun i=>if i=6 then part σ I s 6 else part σ' I' s i) (part.st σ I s) H (by rw[if_neg j6];exact hj) f (fun i hi=>by
  by_cases e:i=6
  ·rw[if_pos e,e]
  ·rw[if_neg e];exact hI i hi e)
 have st1:Stable (fun i=>if i=6 then part σ I s 6 else part σ' I' s i):=by
  refine⟨fun {i h X} hp y hy=> ?_,fun {i h h' X Q} hp f hq=> ?_,fun {i h X} hp y a b=> ?_⟩
  ·split at hp
   ·exact(part.st σ I s).lt hp y hy
   ·exact(part.st σ' I' s).lt hp y hy
  ·split at hp
   ·rename_i e;rw[if_pos e];exact(part.st σ I s).frame hp f hq
   ·rename_i e;rw[if_neg e];exact(part.st σ' I' s).frame hp f hq
  ·split at hp
   ·exact(part.st σ I s).dis hp y a b
   ·exact(part.st σ' I' s).dis hp y a b
 obtain⟨Z6,h6,m6,d6,go⟩:=Fam.use st1 H1 6
 rw[if_pos rfl] at h6
 obtain⟨B6,o6⟩:=h6
 obtain⟨X2,H2,st2,_,new2⟩:=go h2 Z6 (part σ' I' s) ⟨b,o6⟩ ⟨Fr.of_eq hs (fun c hc=>ho c (fun e=>hc ((o6 c).1.2 e))),fun _=> .inl,fun _=> .inl,fun _=>id⟩ (fun i hi=>by rw[if_neg hi])
 refine⟨X2,H2,fun y hy=> ?_⟩
 have:In X1 y∨h1.size≤y:=by
  rcases hy with hy|hy
  ·exact(st2.newM y hy).imp .inl id
  ·exact(st2.newD y hy).imp .inr id
 rcases this with a|a
 ·exact i1 y a
 ·have:=f.fr.1;exact .inr (by omega)
def off (n:Nat→Nat):Nat→Nat
 |0=>0
 |i+1=>off n i+n i
def Cur (h0 g:Heap) (c1 c:Nat) (xs:List BV) (o:Nat):Prop:= ∃p,g[c1]? =some (.cells #[.slice p (xs.length - o) (c - o)] T.s_s_uint8 (0,0))∧o≤xs.length∧Fld.Rows h0 p (xs.length - o) (c - o) (xs.drop o)
theorem cur_next {g:Heap} {o m:Nat} (ho:o≤xs.length) (H:Fld.Rows h0 p (xs.length - o) (c - o) (xs.drop o)) (hm:m≤xs.length - o) (d:g[c1]? =some (.cells #[.slice (slBase p (c - o) m 1) (xs.length - o - m) (c - o - m)] T.s_s_uint8 (0,0))):Cur h0 g c1 c xs (o+m):=by
 have r:=H.drop hm
 rw[List.drop_drop,show xs.length - o - m=xs.length - (o+m) by omega,show c - o - m=c - (o+m) by omega] at r
 rw[show xs.length - o - m=xs.length - (o+m) by omega,show c - o - m=c - (o+m) by omega] at d
 exact⟨_,d,by omega,r⟩
theorem parts1_ok {St:Nat→Heap→Prop} {ld:Nat} (hn:h[c0]? =some (.cells #[.int .i64 ((n 0:Nat):Int), .int .i64 ((n 1:Nat):Int), .int .i64 ((n 2:Nat):Int), .int .i64 ((n 3:Nat):Int)] T.a4_int (0,0)))
  (hc:Cur h0 h c1 c xs 0) (h00:St 0 h) (hw: ∀i g g',St i g→g'.size=g.size→(∀y,y≠c1→g'[y]? =g[y]?)→St i g')
  (hy: ∀i g p' c',i<4→St i g→off n i+n i≤xs.length→Fld.Rows h0 p' (n i) c' ((xs.drop (off n i)).take (n i))→
   RoundH Tryz.prog ld #[.int .i64 (i:Int), .slice p' (n i) c'] g fun v g'=> ∃b,v= .bool b∧g'[c1]? =g[c1]? ∧(if b=true then St (i+1) g' else R (.tuple #[]) g'))
  (fin: ∀g,St 4 g→R (.tuple #[]) g) (few: ∀i g,i<4→St i g→xs.length<off n i+n i→R (.tuple #[]) g):
  CallsH Tryz.prog F.state_parts_1 #[.func (.yield ld) #[] #[], .pointer (some ⟨c0,0,none⟩), .pointer (some ⟨c1,0,none⟩)] h R:=by
 refine state_parts_1.y.walk ⟨_,cell_at hn rfl,_,cell_at hn rfl,_,cell_at hn rfl,_,cell_at hn rfl, ?_⟩
 refine⟨fun t g=> ∃i:Nat,t=(i:Int)∧i≤4∧St i g∧Cur h0 g c1 c xs (off n i),fun t _=>4 - t.toNat,⟨0,rfl,by omega,h00,hc⟩, ?_⟩
 rintro _ g ⟨i,rfl,hi,hst,p',hcur,ho,hrow⟩
 by_cases h4:i<4
 ·rw[if_pos (decide_eq_true (by omega))]
  refine⟨⟨by omega,by omega⟩,fun e=> ?_,fun e=> ?_,fun e=> ?_,fun e=> ?_,trivial⟩
  all_goals
   have e':=Int.ofNat.inj e
   clear e
   subst e'
   refine JoinP.of fun J hJ=>⟨_,_,_,cell_at hcur rfl, ?_⟩
   have hcap:=hrow.cap
  all_goals
   rw[Int.toNat_natCast]
   refine ite_mk (fun hb=>⟨rfl, ?_⟩) (fun hb=>⟨_,_,_,cell_at hcur rfl,⟨by omega, ?_⟩,RoundH.mono (hy _ g _ _ h4 hst ?_ (hrow.take ?_)) ?_⟩)
   ·subst hJ
    dsimp only
    rw[if_pos rfl]
    exact few _ g h4 hst (by have:=of_decide_eq_true hb;omega)
   ·have hb: ¬_:=fun e=>hb (decide_eq_true e)
    omega
   ·have hb: ¬_:=fun e=>hb (decide_eq_true e)
    omega
   ·have hb: ¬_:=fun e=>hb (decide_eq_true e)
    omega
   ·have hb: ¬_:=fun e=>hb (decide_eq_true e)
    rintro v g' ⟨b,rfl,hsame,hb2⟩
    refine⟨b,rfl,rfl, ?_⟩
    subst hJ
    dsimp only
    cases b with
    |false=>
     rw[if_pos (by rfl)]
     rw[if_neg (by decide)] at hb2
     exact hb2
    |true=>
     rw[if_neg (by decide)]
     rw[if_pos rfl] at hb2
     have hcur':=hsame.trans hcur
     refine⟨_,_,_,cell_at hcur' rfl,⟨by omega,by omega⟩,storeP_blk hcur' Nat.zero_lt_one fun g2 d1 d2 d3=>⟨rfl,⟨_,by rw[wrap_id (by omega) (by omega)];rfl,by omega,hw _ g' g2 hb2 d2 d3, ?_⟩, ?_⟩⟩
     ·rw[Int.toNat_natCast] at d1
      exact cur_next ho hrow (Int.ofNat_le.1 (Int.not_lt.1 hb)) d1
     ·rw[wrap_id (by omega) (by omega)]
      show 4 - Int.toNat (_+1)<4 - Int.toNat _
      omega
 ·rw[if_neg (by intro e;have:=of_decide_eq_true e;omega)]
  obtain rfl:i=4:=by omega
  exact fin g hst
end Stt
end Go.Proofs.YtgccegnmggjkjaaGreatDoor
set_option maxRecDepth 100000
namespace Go.Proofs.YtgccegnmggjkjaaGreatDoor
open Go.Den Go.Fields
namespace Stt
variable {h h0 g h1 : Heap} {R : Value → Heap → Prop} {p : Option Addr} {s N j t o : Nat} {X Z : Ft} {I : Ids} {σ σ1 σ2 : SS} {rc : Loop} {res : Bool}
structure Aux (h0 g:Heap) (s N:Nat) (res:Bool) (o:Nat) (rc:Loop) (X:Ft):Prop where
 gb:g[N]? =some (.cells #[pt s] T.p_state_State (0,0))
 g2:g[N+2]? =some (.cells #[.bool res] T.bool (0,0))
 g3:g[N+3]? =some (.cells #[.int .i64 ((o:Nat):Int)] T.int (0,0))
 gd:g[N+6]? =some (.deferred (some []))
 gl:g[N+7]? =some (.loop rc)
 ap: ∀y,In X y→(y<N∨N+8≤y)∧h0.size≤y
 up:Fr (fun _=>False) h0 g
 hn:h0.size≤N
 sn:s<N
def setI (I:Ids) (j t:Nat):Ids:=match j with
 |0=> { I with t:=t }
 |1=> { I with r:=t }
 |2=> { I with c:=t }
 |_=> { I with o:=t }
theorem arm (H:Pt g s X I σ1) (A:Aux h0 g s N res o rc X) (hj:j<4) (f:UpF g Z h1) (hz:part σ2 (setI I j t) s j h1 Z) (hI: ∀i,i≠j→i≠6→part σ2 (setI I j t) s i=part σ1 I s i) (hr:σ2.now=σ1.now∧σ2.rf=σ1.rf)
  {K:Heap→Prop} (hk: ∀h2 X2,Pt h2 s X2 (setI I j t) σ2→Aux h0 h2 s N res o rc X2→h2[N+4]? =g[N+4]? →K h2):StoreP h1 ⟨s,j,none⟩ (pt t) K:=by
 have b1:=f.fr.get H.blk id
 have z:=lt_of_get A.gl
 refine storeP_blk b1 (by show j<8;omega) fun h2 d1 d2 d3=> ?_
 have d1':Bk h2 s (setI I j t) σ2.now σ2.rf:=by
  show h2[s]? =_
  rw[d1,hr.1,hr.2]
  rcases j with _|_|_|_|j<;>first|rfl|omega
 obtain⟨X2,H2,i2⟩:=H.swap (by omega) hz f hI d1' d2 d3
 have keep: ∀y,N≤y→y<N+8→h2[y]? =g[y]? :=fun y a b=>by
  have:=A.sn
  rw[d3 y (by omega)]
  exact f.fr.2 y (by omega) id
 have u2:Fr (fun _=>False) h0 h2:=(A.up.tt f.fr).fresh (Fr.of_eq (S:=fun y=>y=s) d2 d3) (fun y e=>by
  rw[e]
  obtain⟨Y,hp,_,hm,_⟩:=H
  exact(A.ap s (.inl ((hm s).2 ⟨6,((hp 6).2 s).1.2 rfl⟩))).2)
 refine hk h2 X2 H2 ⟨?_, ?_, ?_, ?_, ?_,fun y hy=> ?_,u2,A.hn,A.sn⟩ (keep _ (by omega) (by omega))
 ·rw[keep _ (by omega) (by omega)];exact A.gb
 ·rw[keep _ (by omega) (by omega)];exact A.g2
 ·rw[keep _ (by omega) (by omega)];exact A.g3
 ·rw[keep _ (by omega) (by omega)];exact A.gd
 ·rw[keep _ (by omega) (by omega)];exact A.gl
 ·have:=A.up.1
  rcases i2 y hy with a|a
  ·exact A.ap y a
  ·exact⟨.inr (by omega),by omega⟩
def part0 (σ:SS) (i:Nat):SS:= { σ with A:=if 1≤i then σ.A else [],G:= [],C:=if 3≤i then σ.C else(newS σ.e).C,B:=if 4≤i then σ.B else(newS σ.e).B,Q:= [] }
def sizesS (σ:SS):Nat→Nat
 |0=>(Ses.recs σ.A).length
 |2=>(Cps.recsC σ.C).length
 |3=>(Obx.recsB σ.B).length
 |_=>0
theorem Aux.loop {rc':Loop} {o':Nat} (A:Aux h0 g s N res o rc X) {g':Heap} (hs:g'.size=g.size) (h3:g'[N+3]? =some (.cells #[.int .i64 ((o':Nat):Int)] T.int (0,0))) (h7:g'[N+7]? =some (.loop rc')) (ho: ∀y,y≠N+3→y≠N+7→g'[y]? =g[y]?):Aux h0 g' s N res o' rc' X:=by
 refine⟨?_, ?_,h3, ?_,h7,A.ap, ?_,A.hn,A.sn⟩
 ·rw[ho _ (by omega) (by omega)];exact A.gb
 ·rw[ho _ (by omega) (by omega)];exact A.g2
 ·rw[ho _ (by omega) (by omega)];exact A.gd
 ·refine A.up.fresh (Fr.of_eq (S:=fun y=>y=N+3∨y=N+7) hs (fun c hc=>ho c (fun e=>hc (.inl e)) (fun e=>hc (.inr e)))) (fun y hy=> ?_)
  have:=A.hn
  rcases hy with e|e<;>omega
theorem pt_loop (H:Pt g s X I σ) (A:Aux h0 g s N res o rc X) {g':Heap} (hs:g'.size=g.size) (ho: ∀y,y≠N+3→y≠N+7→g'[y]? =g[y]?):Pt g' s X I σ:=
 H.frame (Q:=fun y=>y=N+3∨y=N+7) (Fr.of_eq hs (fun c hc=>ho c (fun e=>hc (.inl e)) (fun e=>hc (.inr e)))) (fun y hy e=>by
  have:=(A.ap y hy).1
  rcases e with e|e<;>omega)
theorem Aux.other (A:Aux h0 g s N res o rc X) {g':Heap} (hs:g'.size=g.size) (ho: ∀y,y≠N+4→g'[y]? =g[y]?):Aux h0 g' s N res o rc X:=by
 refine⟨?_, ?_, ?_, ?_, ?_,A.ap, ?_,A.hn,A.sn⟩
 ·rw[ho _ (by omega)];exact A.gb
 ·rw[ho _ (by omega)];exact A.g2
 ·rw[ho _ (by omega)];exact A.g3
 ·rw[ho _ (by omega)];exact A.gd
 ·rw[ho _ (by omega)];exact A.gl
 ·refine A.up.fresh (Fr.of_eq (S:=fun y=>y=N+4) hs (fun c hc=>ho c hc)) (fun y hy=> ?_)
  have:=A.hn
  omega
theorem pt_other {b:Nat} (H:Pt g s X I σ) (A:Aux h0 g s N res o rc X) (hb:N≤b∧b<N+8) {g':Heap} (hs:g'.size=g.size) (ho: ∀y,y≠b→g'[y]? =g[y]?):Pt g' s X I σ:=
 H.frame (Q:=fun y=>y=b) (Fr.of_eq hs (fun c hc=>ho c hc)) (fun y hy e=>by
  have:=(A.ap y hy).1
  omega)
theorem set_get {g:Heap} {b:Nat} {o:Obj} (hb:b<g.size):(g.setIfInBounds b o)[b]? =some o:=by simp[hb]
theorem set_ne {g:Heap} {b y:Nat} {o:Obj} (hb:y≠b):(g.setIfInBounds b o)[y]? =g[y]? :=Array.getElem?_setIfInBounds_ne (fun e=>hb e.symm)
theorem seg {α:Type} {a b:List α} (o n:Nat) (h1:o+n≤a.length) (h2:o+n≤b.length) (h:a=b∨(∃z,a=b++ [z])∨ ∃z,a++ [z]=b):(a.drop o).take n=(b.drop o).take n:=by
 have e: ∀l:List α,(l.drop o).take n=(l.take (o+n)).drop o:=fun l=>by rw[List.drop_take,Nat.add_sub_cancel_left]
 rw[e,e]
 rcases h with rfl|⟨z,rfl⟩|⟨z,rfl⟩
 ·rfl
 ·rw[List.take_append_of_le_length h2]
 ·rw[List.take_append_of_le_length h1]
variable {xs : List BV} {l c k : Nat} {L : List Go.Heapq.E}
set_option maxHeartbeats 2000000 in
theorem loadParts_ok (H:Pt h s X I (part0 σ 0)) (u:UpF h0 X h) (hrow:Fld.Rows h0 p l c xs) (hl:l≤1000) (okA:Ses.okA σ.A) (tb:Num.Tab h0) (mx:Num.Mx h0) (G:Cps.Good σ.C k) (hk8:k≤30000) (okb:Obx.okB σ.B L) (hB:σ.B.next≤1000000000)
  (so:(σ.C.L.map Cps.Cp.num).Pairwise (· < ·)) (O:Cps.Ord σ.C)
  (hx:xs.map BV.b=Ses.recs σ.A++(Cps.recsC σ.C++Obx.recsB σ.B)∨(∃z,xs.map BV.b=Ses.recs σ.A++(Cps.recsC σ.C++Obx.recsB σ.B)++ [z])∨ ∃z,xs.map BV.b++ [z]=Ses.recs σ.A++(Cps.recsC σ.C++Obx.recsB σ.B))
  (k1:xs.map BV.b=Ses.recs σ.A++(Cps.recsC σ.C++Obx.recsB σ.B)→ ∀h' X' I',Pt h' s X' I' (part0 σ 4)→UpF h0 X' h'→R (.bool true) h')
  (k2:xs.map BV.b≠Ses.recs σ.A++(Cps.recsC σ.C++Obx.recsB σ.B)→ ∀h' X' I' i,Pt h' s X' I' (part0 σ i)→UpF h0 X' h'→R (.bool false) h')
  (k3:xs.length=(Ses.recs σ.A).length+(Cps.recsC σ.C).length→σ.B.items= []→ ∀h' X' I',Pt h' s X' I' (part0 σ 3)→UpF h0 X' h'→R (.bool true) h'):
  CallsH Tryz.prog F.state_State_loadParts #[pt s, .slice p l c, .agg #[.int .i64 ((sizesS σ 0:Nat):Int), .int .i64 0, .int .i64 ((sizesS σ 2:Nat):Int), .int .i64 ((sizesS σ 3:Nat):Int)]] h R:=by
 obtain rfl:=hrow.len
 have sX:In X s:=by
  obtain⟨Y,hp,_,hm,_⟩:=H
  exact .inl ((hm s).2 ⟨6,((hp 6).2 s).1.2 rfl⟩)
 have sn:s<h.size:=H.lt s sX
 refine state_State_loadParts.walk (newP_of (newP_of (newP_of (newP_of (storeP_push (by decide) ?_)))))
 obtain⟨h5,e5⟩: ∃h5,h5=(((h.push (.cells #[pt s] T.p_state_State)).push (.cells #[.int .i64 ((sizesS σ 0:Nat):Int), .int .i64 0, .int .i64 ((sizesS σ 2:Nat):Int), .int .i64 ((sizesS σ 3:Nat):Int)] T.a4_int)).push (.cells #[.bool false] T.bool)).push (.cells (#[Value.int .i64 0].setIfInBounds 0 (.int .i64 0)) T.int (0,0)):=⟨_,rfl⟩
 have sz5:h5.size=h.size+4:=by rw[e5];simp
 have a0:h5[h.size]? =some (.cells #[pt s] T.p_state_State (0,0)):=by
  rw[e5];simp only[Array.getElem?_push,Array.size_push]
  repeat (first|rfl|rw[if_pos rfl]|rw[if_neg (by omega)])
 have a1:h5[h.size+1]? =some (.cells #[.int .i64 ((sizesS σ 0:Nat):Int), .int .i64 0, .int .i64 ((sizesS σ 2:Nat):Int), .int .i64 ((sizesS σ 3:Nat):Int)] T.a4_int (0,0)):=by
  rw[e5];simp only[Array.getElem?_push,Array.size_push]
  repeat (first|rfl|rw[if_pos rfl]|rw[if_neg (by omega)])
 have a2:h5[h.size+2]? =some (.cells #[.bool false] T.bool (0,0)):=by
  rw[e5];simp only[Array.getElem?_push,Array.size_push]
  repeat (first|rfl|rw[if_pos rfl]|rw[if_neg (by omega)])
 have a3:h5[h.size+3]? =some (.cells #[.int .i64 0] T.int (0,0)):=by
  rw[e5];simp only[Array.getElem?_push,Array.size_push]
  repeat (first|rfl|rw[if_pos rfl]|rw[if_neg (by omega)])
 have f5:Fr (fun _=>False) h h5:=by rw[e5];exact(((Fr.push _ _).tt (Fr.push _ _)).tt (Fr.push _ _)).tt (Fr.push _ _)
 rw[←e5]
 simp only[Array.size_push]
 clear e5
 refine⟨_,cell_at a1 rfl,_,cell_at a1 rfl,_,cell_at a1 rfl,_,cell_at a1 rfl,state_parts.walk (newP_of (newP_of ⟨_,rfl, ?_⟩))⟩
 obtain⟨N,eN⟩: ∃N,N=h.size:=⟨_,rfl⟩
 rw[←eN] at sz5 a0 a1 a2 a3 sn⊢
 obtain⟨h6,e6⟩: ∃h6,h6=(h5.push (.cells #[.slice p xs.length c] T.s_s_uint8)).push (.cells #[.int .i64 ((sizesS σ 0:Nat):Int), .int .i64 0, .int .i64 ((sizesS σ 2:Nat):Int), .int .i64 ((sizesS σ 3:Nat):Int)] T.a4_int):=⟨_,rfl⟩
 have sz6:h6.size=N+6:=by rw[e6];simp[sz5]
 have b4:h6[N+4]? =some (.cells #[.slice p xs.length c] T.s_s_uint8 (0,0)):=by
  rw[e6];simp only[Array.getElem?_push,Array.size_push,sz5]
  repeat (first|rfl|rw[if_pos rfl]|rw[if_neg (by omega)])
 have b5:h6[N+5]? =some (.cells #[.int .i64 ((sizesS σ 0:Nat):Int), .int .i64 0, .int .i64 ((sizesS σ 2:Nat):Int), .int .i64 ((sizesS σ 3:Nat):Int)] T.a4_int (0,0)):=by
  rw[e6];simp only[Array.getElem?_push,Array.size_push,sz5]
  repeat (first|rfl|rw[if_pos rfl]|rw[if_neg (by omega)])
 have f6:Fr (fun _=>False) h5 h6:=by rw[e6];exact(Fr.push _ _).tt (Fr.push _ _)
 rw[←e6]
 simp only[Array.size_push,sz5]
 clear e6
 refine⟨F.state_parts_1,_,rfl,by kernel_rfl,fun rec hrec hround=> ?_⟩
 rw[sz6] at hround⊢
 obtain⟨h7,e7⟩: ∃h7,h7=openH h6 (rec .ready none):=⟨_,rfl⟩
 have b6:h7[N+6]? =some (.deferred (some [])):=by
  rw[e7];simp only[openH,Array.getElem?_push,Array.size_push,sz6]
  repeat (first|rfl|rw[if_pos rfl]|rw[if_neg (by omega)])
 have b7:h7[N+7]? =some (.loop (rec .ready none)):=by
  rw[e7];simp only[openH,Array.getElem?_push,Array.size_push,sz6]
  repeat (first|rfl|rw[if_pos rfl]|rw[if_neg (by omega)])
 have f7:Fr (fun _=>False) h6 h7:=by rw[e7];exact(Fr.push _ _).tt (Fr.push _ _)
 rw[←e7]
 clear e7
 have ff:=f5.tt (f6.tt f7)
 have hge:=u.fr.1
 have A0:Aux h0 h7 s N false 0 (rec .ready none) X:=⟨(f6.tt f7).get a0 id,(f6.tt f7).get a2 id,(f6.tt f7).get a3 id,b6,b7,fun y hy=>⟨.inl (by rw[eN];exact H.lt y hy),u.ge y hy⟩,u.fr.tt ff,by omega,sn⟩
 show CallsH Tryz.prog F.state_parts_1 #[.func (.yield (N+6+1)) #[] #[], .pointer (some ⟨N+5,0,none⟩), .pointer (some ⟨N+4,0,none⟩)] h7 _
 have fin: ∀i g X I,Pt g s X I (part0 σ i)→Aux h0 g s N false (off (sizesS σ) i) (rec .ready none) X→(off (sizesS σ) i=xs.length→ ∀h',Pt h' s X I (part0 σ i)→UpF h0 X h'→R (.bool true) h')→(off (sizesS σ) i≠xs.length→xs.map BV.b≠Ses.recs σ.A++(Cps.recsC σ.C++Obx.recsB σ.B))→
   ∃st pe,st≠ .busy∧AtL g (N+6+1) (rec st pe)∧JumpP (fun g=> ∃t63,hcell g ⟨N+3,0,none⟩=some (.int .i64 t63)∧if(t63==((xs.length:Nat):Int))=true then∃t68,hcell g ⟨N,0,none⟩=some (.pointer t68)∧Cl F.state_State_made #[.pointer t68] g fun v_5 h_24=> ∃t69,v_5= .bool t69∧StoreP h_24 ⟨N+2,0,none⟩ (.bool t69) fun h_25=>h_25[N+6]? =some (.deferred (some []))∧ ∃r,hcell (h_25.setIfInBounds (N+6) (.deferred none)) ⟨N+2,0,none⟩=some (.bool r)∧R (.bool r) (h_25.setIfInBounds (N+6) (.deferred none)) else StoreP g ⟨N+2,0,none⟩ (.bool false) fun h_26=>h_26[N+6]? =some (.deferred (some []))∧ ∃r_1,hcell (h_26.setIfInBounds (N+6) (.deferred none)) ⟨N+2,0,none⟩=some (.bool r_1)∧R (.bool r_1) (h_26.setIfInBounds (N+6) (.deferred none)))
    (fun g_1=>g_1[N+6]? =some (.deferred (some []))∧ ∃r_2,hcell (g_1.setIfInBounds (N+6) (.deferred none)) ⟨N+2,0,none⟩=some (.bool r_2)∧R (.bool r_2) (g_1.setIfInBounds (N+6) (.deferred none))) (fun _ _=>False) pe (setLoop g (N+6+1) (rec .exhausted pe)):=by
  intro i g X I H A hk hk2
  refine⟨.ready,none,by decide,A.gl, ?_⟩
  show∃t63,_
  have z:=lt_of_get A.gl
  have A9:=A.loop (g':=setLoop g (N+7) (rec .exhausted none)) (rc':=rec .exhausted none) (o':=off (sizesS σ) i) (by simp[setLoop]) (by rw[set_ne (by omega)];exact A.g3) (set_get z) (fun y _ h=>set_ne h)
  have H9:=pt_loop H A (g':=setLoop g (N+7) (rec .exhausted none)) (by simp[setLoop]) (fun y _ h=>set_ne h)
  show∃t63,hcell (setLoop g (N+7) (rec .exhausted none)) _=_∧_
  generalize setLoop g (N+7) (rec .exhausted none)=g9 at A9 H9⊢
  have z9:=lt_of_get A9.gd
  refine⟨_,cell_at A9.g3 rfl,ite_mk (fun hb=>⟨_,cell_at A9.gb rfl,made_ok H9.blk ⟨_,rfl,storeP_blk A9.g2 (by show 0<1;omega) fun g10 d1 d2 d3=> ?_⟩⟩) (fun hb=>storeP_blk A9.g2 (by show 0<1;omega) fun g10 d1 d2 d3=> ?_)⟩
  all_goals
   have H10:=pt_other H9 A9 (b:=N+2) ⟨by omega,by omega⟩ d2 d3
   have c2:(g10.setIfInBounds (N+6) (.deferred none))[N+2]? =g10[N+2]? :=set_ne (by omega)
   have u10:Fr (fun _=>False) h0 (g10.setIfInBounds (N+6) (.deferred none)):=by
    refine(A9.up.fresh (Fr.of_eq (S:=fun y=>y=N+2) d2 (fun c hc=>d3 c hc)) (fun y e=>by have:=A9.hn;omega)).fresh (Fr.of_eq (S:=fun y=>y=N+6) (by simp) (fun c hc=>set_ne hc)) (fun y e=>by have:=A9.hn;omega)
   refine⟨(d3 _ (by omega)).trans A9.gd,_,cell_at (c2.trans d1) rfl, ?_⟩
  ·have e:off (sizesS σ) i=xs.length:=Int.ofNat.inj (by simpa using hb)
   exact hk e _ (H10.frame (Q:=fun y=>y=N+6) (Fr.of_eq (by simp) (fun c hc=>set_ne hc)) (fun y hy e=>by have:=(A9.ap y hy).1;omega)) ⟨u10,fun y hy=>(A9.ap y hy).2⟩
  ·exact k2 (hk2 (fun e=>hb (by rw[e];simp))) _ X I i (H10.frame (Q:=fun y=>y=N+6) (Fr.of_eq (by simp) (fun c hc=>set_ne hc)) (fun y hy e=>by have:=(A9.ap y hy).1;omega)) ⟨u10,fun y hy=>(A9.ap y hy).2⟩
 refine parts1_ok (h0:=h0) (n:=sizesS σ) (xs:=xs) (c:=c) (St:=fun i g=> ∃X I,Pt g s X I (part0 σ i)∧Aux h0 g s N false (off (sizesS σ) i) (rec .ready none) X) (f7.get b5 id) ⟨p,f7.get b4 id,Nat.zero_le _,hrow⟩ ⟨X,I,H.on ff,A0⟩ ?_ ?_ ?_ ?_
 ·rintro i g g' ⟨X,I,H,A⟩ e1 e2
  exact⟨X,I,pt_other H A ⟨by omega,by omega⟩ e1 e2,A.other e1 e2⟩
 ·rintro i g p' c' hi ⟨X,I,H,A⟩ hle rows
  refine RoundH.mono (hround [.int .i64 (i:Int), .slice p' (sizesS σ i) c'] g (fun b g'=>g'[N+4]? =g[N+4]? ∧if b=true then∃X I,Pt g' s X I (part0 σ (i+1))∧Aux h0 g' s N false (off (sizesS σ) (i+1)) (rec .ready none) X else False) A.gl ?_) (fun v g' ⟨b,e,h1,h2⟩=>⟨b,e,h1,by
   cases b with
   |true=>exact h2
   |false=>exact h2.elim⟩)
  refine⟨_,_,_,_,rfl,A.gl,fun h8 e8=> ?_⟩
  have z:=lt_of_get A.gl
  have A8:=A.loop (g':=setLoop g (N+7) (rec .busy none)) (rc':=rec .busy none) (o':=off (sizesS σ) i) (by simp[setLoop]) (by rw[set_ne (by omega)];exact A.g3) (set_get z) (fun y _ h=>set_ne h)
  have H8:=pt_loop H A (g':=setLoop g (N+7) (rec .busy none)) (by simp[setLoop]) (fun y _ h=>set_ne h)
  have c8:(setLoop g (N+7) (rec .busy none))[N+4]? =g[N+4]? :=set_ne (by omega)
  have e8':h8=setLoop g (N+7) (rec .busy none):=e8
  clear e8
  rw[←e8'] at A8 H8 c8
  clear e8'
  refine JoinP.of fun J hJ=> ?_
  have done: ∀g9 X9 I9,Pt g9 s X9 I9 (part0 σ (i+1))→Aux h0 g9 s N false (off (sizesS σ) i) (rec .busy none) X9→g9[N+4]? =h8[N+4]? →J 0 g9:=by
   intro g9 X9 I9 H9 A9 c9
   subst hJ
   dsimp only
   rw[if_neg (by decide)]
   refine⟨_,cell_at A9.g3 rfl,storeP_blk A9.g3 (by show 0<1;omega) fun g10 d1 d2 d3=> ?_⟩
   have l10:g10[N+7]? =some (.loop (rec .busy none)):=(d3 _ (by omega)).trans A9.gl
   have z10:=lt_of_get l10
   rw[wrap_id (by omega) (by omega)] at d1
   have ho: ∀y,y≠N+3→y≠N+7→(setLoop g10 (N+7) (rec .ready none))[y]? =g9[y]? :=fun y a b=>(set_ne b).trans (d3 y a)
   refine⟨l10, ?_, ?_⟩
   ·exact(ho _ (by omega) (by omega)).trans (c9.trans c8)
   ·rw[if_pos rfl]
    refine⟨X9,I9,pt_loop H9 A9 (by simp[setLoop,d2]) ho,A9.loop (by simp[setLoop,d2]) ?_ (set_get z10) ho⟩
    rw[set_ne (by omega),d1]
    rfl
  have hIg: ∀(j:Nat),j<4→i=j→ ∀t,∀m,m≠j→m≠6→part (part0 σ (j+1)) (setI I j t) s m=part (part0 σ j) I s m:=fun j hj _ t m h1 h2=>by
   rcases j with _|_|_|_|j
   ·rcases m with _|_|_|_|_|_|_|m<;>first|rfl|exact absurd rfl h1|exact absurd rfl h2
   ·rcases m with _|_|_|_|_|_|_|m<;>first|rfl|exact absurd rfl h1|exact absurd rfl h2
   ·rcases m with _|_|_|_|_|_|_|m<;>first|rfl|exact absurd rfl h1|exact absurd rfl h2
   ·rcases m with _|_|_|_|_|_|_|m<;>first|rfl|exact absurd rfl h1|exact absurd rfl h2
   ·omega
  have lP:(Ses.recs σ.A++(Cps.recsC σ.C++Obx.recsB σ.B)).length=(Ses.recs σ.A).length+((Cps.recsC σ.C).length+(Obx.recsB σ.B).length):=by rw[List.length_append,List.length_append]
  have e4: ∀o n,o+n≤xs.length→o+n≤(Ses.recs σ.A).length+((Cps.recsC σ.C).length+(Obx.recsB σ.B).length)→((xs.drop o).take n).map BV.b=((Ses.recs σ.A++(Cps.recsC σ.C++Obx.recsB σ.B)).drop o).take n:=fun o n h1 h2=>by
   rw[List.map_take,List.map_drop]
   exact seg o n (by rw[List.length_map];exact h1) (by rw[lP];exact h2) hx
  have tb8:=tb.on A8.up
  have mx8:=mx.on A8.up
  rcases i with _|_|_|_|i
  ·refine JoinP.of fun J1 hJ1=> ?_
   rw[if_pos (by rfl)]
   have ec:((xs.drop (off (sizesS σ) 0)).take (sizesS σ 0)).map BV.b=Ses.recs σ.A:=by
    rw[e4 _ _ hle (by show 0+(Ses.recs σ.A).length≤_;omega)]
    show((Ses.recs σ.A++_).drop 0).take (Ses.recs σ.A).length=_
    rw[List.drop_zero,List.take_left]
   have r8:=rows.on A8.up
   refine⟨_,cell_at A8.gb rfl,Ses.loadA_ok ⟨r8.len,r8.row,r8.cap,r8.each⟩ okA ec fun h1 t Z HZ uZ=>⟨_,_,rfl,uZ.fr.cell (cell_at A8.gb rfl) id,onSome_some.2 (arm H8 A8 (σ2:=part0 σ 1) (t:=t) (j:=0) (by omega) uZ HZ (hIg 0 (by omega) rfl t) ⟨rfl,rfl⟩ fun h2 X2 H2 A2 c2=>⟨trivial, ?_⟩)⟩⟩
   subst hJ1
   exact⟨trivial,done h2 X2 _ H2 A2 c2⟩
  ·refine JoinP.of fun J1 hJ1=> ?_
   rw[if_neg (by decide)]
   refine JoinP.of fun J2 hJ2=> ?_
   rw[if_pos (by rfl)]
   refine⟨_,cell_at A8.gb rfl,Regs.load_ok (rs:= []) (rows.on A8.up) rfl (fun _ h=>by cases h) (by decide) tb8 mx8 (fun L hL _ h1 t Z HZ uZ=>⟨_,_,rfl,uZ.fr.cell (cell_at A8.gb rfl) id,onSome_some.2 (arm H8 A8 (σ2:=part0 σ 2) (t:=t) (j:=1) (by omega) uZ (by cases hL;exact HZ) (hIg 1 (by omega) rfl t) ⟨rfl,rfl⟩ fun h2 X2 H2 A2 c2=>⟨trivial, ?_⟩)⟩) (fun hn=>absurd rfl (hn [] rfl))⟩
   subst hJ2
   refine⟨trivial, ?_⟩
   subst hJ1
   exact⟨trivial,done h2 X2 _ H2 A2 c2⟩
  ·refine JoinP.of fun J1 hJ1=> ?_
   rw[if_neg (by decide)]
   refine JoinP.of fun J2 hJ2=> ?_
   rw[if_neg (by decide)]
   refine JoinP.of fun J3 hJ3=> ?_
   rw[if_pos (by rfl)]
   have ec:((xs.drop (off (sizesS σ) 2)).take (sizesS σ 2)).map BV.b=Cps.headC σ.C::σ.C.L.map Cps.recC:=by
    rw[e4 _ _ hle (by show 0+(Ses.recs σ.A).length+0+(Cps.recsC σ.C).length≤_;omega)]
    show((Ses.recs σ.A++(Cps.recsC σ.C++Obx.recsB σ.B)).drop (0+(Ses.recs σ.A).length+0)).take (Cps.recsC σ.C).length=Cps.recsC σ.C
    rw[Nat.zero_add,Nat.add_zero,List.drop_left,List.take_left]
   refine⟨_,cell_at A8.gb rfl,Cps.load_ok (s:=σ.C) (rows.on A8.up) ec G so O hk8 (by show(Cps.recsC σ.C).length≤_;have hle2:0+(Ses.recs σ.A).length+0+(Cps.recsC σ.C).length≤xs.length:=hle;omega) tb8 mx8 (.inl rfl) (fun _ h1 t Z HZ uZ=>⟨_,_,rfl,uZ.fr.cell (cell_at A8.gb rfl) id,onSome_some.2 (arm H8 A8 (σ2:=part0 σ 3) (t:=t) (j:=2) (by omega) uZ HZ (hIg 2 (by omega) rfl t) ⟨rfl,rfl⟩ fun h2 X2 H2 A2 c2=>⟨trivial, ?_⟩)⟩) (fun hn=>absurd (by simp) hn)⟩
   subst hJ3
   refine⟨trivial, ?_⟩
   subst hJ2
   refine⟨trivial, ?_⟩
   subst hJ1
   exact⟨trivial,done h2 X2 _ H2 A2 c2⟩
  ·refine JoinP.of fun J1 hJ1=> ?_
   rw[if_neg (by decide)]
   refine JoinP.of fun J2 hJ2=> ?_
   rw[if_neg (by decide)]
   refine JoinP.of fun J3 hJ3=> ?_
   rw[if_neg (by decide)]
   refine JoinP.of fun J4 hJ4=> ?_
   rw[if_pos (by rfl)]
   have hle3:0+(Ses.recs σ.A).length+0+(Cps.recsC σ.C).length+(Obx.recsB σ.B).length≤xs.length:=hle
   have ec:((xs.drop (off (sizesS σ) 3)).take (sizesS σ 3)).map BV.b=Obx.recsB σ.B:=by
    rw[e4 _ _ hle (by show 0+(Ses.recs σ.A).length+0+(Cps.recsC σ.C).length+(Obx.recsB σ.B).length≤_;omega)]
    show((Ses.recs σ.A++(Cps.recsC σ.C++Obx.recsB σ.B)).drop (0+(Ses.recs σ.A).length+0+(Cps.recsC σ.C).length)).take (Obx.recsB σ.B).length=Obx.recsB σ.B
    rw[←List.append_assoc,show 0+(Ses.recs σ.A).length+0+(Cps.recsC σ.C).length=(Ses.recs σ.A++Cps.recsC σ.C).length by rw[List.length_append];omega,List.drop_left,List.take_length]
   refine⟨_,cell_at A8.gb rfl,Obx.load_ok (s:=σ.B) (rows.on A8.up) okb hB (by show(Obx.recsB σ.B).length≤_;have:=okb.le;unfold Obx.recsB;simp only[List.length_cons,List.length_map];omega) (.inr (.inr ec)) (fun _ h1 t Z HZ uZ=>⟨_,_,rfl,uZ.fr.cell (cell_at A8.gb rfl) id,onSome_some.2 (arm H8 A8 (σ2:=part0 σ 4) (t:=t) (j:=3) (by omega) uZ HZ (hIg 3 (by omega) rfl t) ⟨rfl,rfl⟩ fun h2 X2 H2 A2 c2=>⟨trivial, ?_⟩)⟩) (fun hn=>absurd ec hn)⟩
   subst hJ4
   refine⟨trivial, ?_⟩
   subst hJ3
   refine⟨trivial, ?_⟩
   subst hJ2
   refine⟨trivial, ?_⟩
   subst hJ1
   exact⟨trivial,done h2 X2 _ H2 A2 c2⟩
  ·omega
 ·rintro g ⟨X,I,H,A⟩
  have e4:off (sizesS σ) 4=0+(Ses.recs σ.A).length+0+(Cps.recsC σ.C).length+(Obx.recsB σ.B).length:=rfl
  refine fin 4 g X I H A (fun e h' H' u'=>k1 ?_ h' X I H' u') (fun hn e=>hn (by have:=congrArg List.length e;simp only[List.length_map,List.length_append] at this;omega))
  rcases hx with hx|⟨z,hx⟩|⟨z,hx⟩
  ·exact hx
  ·have:=congrArg List.length hx;simp only[List.length_map,List.length_append,List.length_singleton] at this;omega
  ·have:=congrArg List.length hx;simp only[List.length_map,List.length_append,List.length_singleton] at this;omega
 ·rintro i g hi ⟨X,I,H,A⟩ hlt
  have nC:(Cps.recsC σ.C).length=σ.C.L.length+1:=by unfold Cps.recsC;simp
  have nB:(Obx.recsB σ.B).length=σ.B.items.length+1:=by unfold Obx.recsB;simp
  have hlen:(Ses.recs σ.A).length+((Cps.recsC σ.C).length+(Obx.recsB σ.B).length)≤xs.length+1:=by
   rcases hx with hx|⟨z,hx⟩|⟨z,hx⟩<;>have:=congrArg List.length hx<;>simp only[List.length_map,List.length_append,List.length_singleton] at this<;>omega
  rcases i with _|_|_|_|i
  ·have hlt:xs.length<0+(Ses.recs σ.A).length:=hlt;omega
  ·have hlt:xs.length<0+(Ses.recs σ.A).length+0:=hlt;omega
  ·have hlt:xs.length<0+(Ses.recs σ.A).length+0+(Cps.recsC σ.C).length:=hlt;omega
  ·have e3:off (sizesS σ) 3=0+(Ses.recs σ.A).length+0+(Cps.recsC σ.C).length:=rfl
   have hlt3:xs.length<0+(Ses.recs σ.A).length+0+(Cps.recsC σ.C).length+(Obx.recsB σ.B).length:=hlt
   refine fin 3 g X I H A (fun e h' H' u'=>k3 (by omega) (List.length_eq_zero_iff.1 (by omega)) h' X I H' u') (fun _ e=>by have:=congrArg List.length e;simp only[List.length_map,List.length_append] at this;omega)
  ·omega
end Stt
end Go.Proofs.YtgccegnmggjkjaaGreatDoor
set_option maxRecDepth 100000
namespace Go.Proofs.YtgccegnmggjkjaaGreatDoor
open Go.Den Go.Fields
namespace Stt
open Fld Eid
variable {h h0 g h1 : Heap} {R : Value → Heap → Prop} {p : Option Addr} {s N j t o l c k : Nat} {X Z : Ft} {I : Ids} {σ : SS} {xs : List BV} {L : List Go.Heapq.E}
theorem eqId (e:Ev) (a b:Int):EqV Tryz.prog T.ident_Ident (.agg #[.bool e.ipn, .int .u64 e.node, .int .u64 e.svc, .string e.host, .string e.dem, .int .u64 a, .int .u64 b]) (.agg #[.bool e.ipn, .int .u64 e.node, .int .u64 e.svc, .string e.host, .string e.dem, .int .u64 a, .int .u64 b]) true:=by
 have q:(eqB e e && (a==a && (b==b && true)))=true:=by rw[eqB_dec];simp
 rw[←q]
 exact EqV.of (by unfold eqB;kernel_rfl)
structure Bare (σ:SS):Prop where
 g:σ.G= []
 t:σ.tm=0
 q:σ.sq=0
def tl (σ:SS) (i:Nat):List UInt8:=match i with
 |0=>encNum σ.now++(encNum σ.rf++(encNum 0++(encNum 0++(encNum (Ses.recs σ.A).length++(encNum 0++(encNum (Cps.recsC σ.C).length++encNum (Obx.recsB σ.B).length))))))
 |1=>encNum σ.rf++(encNum 0++(encNum 0++(encNum (Ses.recs σ.A).length++(encNum 0++(encNum (Cps.recsC σ.C).length++encNum (Obx.recsB σ.B).length)))))
 |2=>encNum 0++(encNum 0++(encNum (Ses.recs σ.A).length++(encNum 0++(encNum (Cps.recsC σ.C).length++encNum (Obx.recsB σ.B).length))))
 |3=>encNum 0++(encNum (Ses.recs σ.A).length++(encNum 0++(encNum (Cps.recsC σ.C).length++encNum (Obx.recsB σ.B).length)))
 |4=>encNum (Ses.recs σ.A).length++(encNum 0++(encNum (Cps.recsC σ.C).length++encNum (Obx.recsB σ.B).length))
 |5=>encNum 0++(encNum (Cps.recsC σ.C).length++encNum (Obx.recsB σ.B).length)
 |6=>encNum (Cps.recsC σ.C).length++encNum (Obx.recsB σ.B).length
 |_=>encNum (Obx.recsB σ.B).length
theorem headS_eq (b:Bare σ):headS σ=encText (textE σ.e)++tl σ 0:=by
 unfold headS tl
 rw[b.g,b.t,b.q]
 simp only[List.append_assoc]
 rfl
theorem headS_len (b:Bare σ) (ht:(textE σ.e).length≤100000000):(headS σ).length≤200000200:=by
 rw[headS_eq b]
 unfold tl
 simp only[List.length_append]
 have:(encText (textE σ.e)).length≤100000010:=by unfold encText;rw[List.length_append];have:=encNum_len (textE σ.e).length;omega
 have:=encNum_len σ.now
 have:=encNum_len σ.rf
 have:=encNum_len 0
 have:=encNum_len (Cps.recsC σ.C).length
 have:=encNum_len (Ses.recs σ.A).length
 have:=encNum_len (Obx.recsB σ.B).length
 omega
theorem rn0 (G:Good σ k):readNum 0 (tl σ 0)=(σ.now,0,tl σ 1):=by have:=G.n;exact readNum_enc (by omega) _
theorem rn1 (G:Good σ k) (hk:k≤30000):readInt 0 (tl σ 1)=(σ.rf,0,tl σ 2):=by have:=G.r;exact readMost_enc (by omega) (by decide) _
theorem rn2:readNum 0 (tl σ 2)=(0,0,tl σ 3):=readNum_enc (by decide) _
theorem rn3:readNum 0 (tl σ 3)=(0,0,tl σ 4):=readNum_enc (by decide) _
theorem rn4 (h:(Ses.recs σ.A).length≤1000000):readInt 0 (tl σ 4)=((Ses.recs σ.A).length,0,tl σ 5):=readMost_enc (by omega) (by decide) _
theorem rn5:readInt 0 (tl σ 5)=(0,0,tl σ 6):=readMost_enc (by decide) (by decide) _
theorem rn6 (h:(Cps.recsC σ.C).length≤1000000):readInt 0 (tl σ 6)=((Cps.recsC σ.C).length,0,tl σ 7):=readMost_enc (by omega) (by decide) _
theorem rn7 (h:(Obx.recsB σ.B).length≤1000000):readInt 0 (tl σ 7)=((Obx.recsB σ.B).length,0, []):=by
 have h1:=readMost_enc (top:=1099511627776) (n:=(Obx.recsB σ.B).length) (by omega) (by decide) []
 rw[List.append_nil] at h1
 exact h1
theorem recsS_eq (b:Bare σ):recsS σ=Ses.recs σ.A++(Cps.recsC σ.C++Obx.recsB σ.B):=by
 unfold recsS
 rw[b.g]
 rfl
theorem okQ.pre {a b:List Obx.It} (ok:okQ (a++b)):okQ a:=by
 induction b with
 |nil=>rwa[List.append_nil] at ok
 |cons x b ih=>exact ih (ok.perm List.perm_middle).sub
theorem fits_pre {a:List Obx.It} {x:Obx.It} (ok:okQ (a++ [x])) (q:okI x):fitsQ a x.owner x.d.length=true:=by
 obtain⟨_,_,_,_,h5,h6⟩:=ok
 have h6:=(h6 x.owner).2
 rw[tot_append,tot_cons] at h5
 rw[own_append,own_cons,if_pos rfl] at h6
 have t0:tot []=0:=rfl
 have o0:own [] x.owner=0:=rfl
 exact Quota.fits_iff.2 ⟨⟨q.2.2.1,q.2.2.2,by omega⟩,by omega,by omega⟩
theorem part0_all (G:Good σ k) (b:Bare σ): { part0 σ 4 with Q:=σ.B.items } =σ:=by
 obtain⟨A,g,C,B,Q,e,tm,sq,now,rf⟩:=σ
 obtain⟨b1,b2,b3⟩:=b
 have q:Q=B.items:=G.q
 subst q
 cases b1
 rfl
theorem good3 (G:Good σ k):Good (part0 σ 3) k:=
 ⟨G.a,⟨Nat.zero_le _,fun _ h=>by cases h⟩,G.c,by show 1≤k+1;omega,Nat.zero_le _,rfl,okQ.nil,G.n,G.e,G.t,G.r⟩
theorem tail_ok {ρ τ:SS} (hρ:ρ.Q= []) (hτ: { ρ with Q:=ρ.B.items } =τ) (H:Pt g s X I ρ) (G:Good τ k) (hk8:k≤30000) (u:UpF h0 X g) (Rw:Fld.Rows h0 p l c xs) (tb:Num.Tab h0)
  (k1:xs.map BV.b=headS τ::recsS τ→ ∀h' X',Pt h' s X' I τ→UpF h0 X' h'→R (.tuple #[pt s, .int .i64 0]) h')
  (k2:xs.map BV.b≠headS τ::recsS τ→ ∀h',Fr (fun _=>False) h0 h'→R (.tuple #[.pointer none, .int .i64 3]) h'):
  ∃(t96:Option Addr),hcell g ((⟨s,0,none⟩:Addr).add 3)=some (.pointer t96)∧
  Cl F.outbox_Box_All #[.pointer t96] g fun v_10 h_23=>
  ∃(t97_p:Option Addr) (t97_l t97_c:Nat),v_10= .slice t97_p t97_l t97_c∧
  ∃(I:Int→Heap→Prop) (mu:Int→Heap→Nat),I 0 h_23∧ ∀(t99:Int) (h_24:Heap),I t99 h_24→
  if(decide (t99<((t97_l:Nat):Int)))=true then
  ((0:Int)≤t99∧t99<((t97_l:Nat):Int))∧
  onSome t97_p fun(a_4:Addr)=>
  outbox_Item.LD h_24 (a_4.add (Int.toNat t99*4)) fun t102_0 t102_1 t102_2_p t102_2_l t102_2_c t102_3=>
  NewP h_24 (.cells #[.int .i64 0, .int .i64 0, .slice none 0 0, .int .u64 0] T.outbox_Item) fun b_2 h_25=>
  outbox_Item.ST h_25 ⟨b_2,0,none⟩ t102_0 t102_1 t102_2_p t102_2_l t102_2_c t102_3 fun h_26=>
  onSome (some (⟨s,0,none⟩:Addr)) fun(a_5:Addr)=>
  ∃(t106:Option Addr),hcell h_26 (a_5.add 4)=some (.pointer t106)∧
  ∃(t108:Int),hcell h_26 ⟨b_2,1,none⟩=some (.int .i64 t108)∧
  ∃(t110_p:Option Addr) (t110_l t110_c:Nat),hcell h_26 ⟨b_2,2,none⟩=some (.slice t110_p t110_l t110_c)∧
  Cl F.quota_Purse_Take #[.pointer t106, .int .i64 t108, .int .i64 ((t110_l:Nat):Int)] h_26 fun v_11 h_27=>
  ∃(t112:Int),v_11= .int .i64 t112∧
  hcell h_27 ⟨b_2,2,none⟩=some (.slice t110_p t110_l t110_c)∧
  if(t112 !=0)=true then
  R (.tuple #[.pointer none, .int .i64 3]) h_27
  else
  (I (IntKind.wrap .i64 (t99+1)) h_27∧mu (IntKind.wrap .i64 (t99+1)) h_27<mu t99 h_24)
  else
  Cl F.state_State_Save #[pt s] h_24 fun v_12 h_28=>
  ∃(t116_p:Option Addr) (t116_l t116_c:Nat),v_12= .slice t116_p t116_l t116_c∧
  Cl F.slices_EqualFunc_s_s_byte_s_s_byte_s_byte_s_byte #[.slice t116_p t116_l t116_c, .slice p l c, .func (.func F.bytes_Equal) #[] #[]] h_28 fun v_13 h_29=>
  ∃(t118:Bool),v_13= .bool t118∧
  if(!t118)=true then
  R (.tuple #[.pointer none, .int .i64 3]) h_29
  else
  R (.tuple #[pt s, .int .i64 0]) h_29:=by
 obtain⟨Z,hz⟩:=H.box
 obtain⟨L,okb⟩:=H.okB
 have le:=okb.le
 have ok:okQ ρ.B.items:=by have:=G.ok;rw[←hτ] at this;exact this
 refine⟨_,cell_at H.blk rfl,Obx.all_ok hz fun g1 p1 l1 c1 L1 f1=>⟨_,_,_,rfl, ?_⟩⟩
 obtain⟨ys,D,rfl,ox,ax,hyd,hD,hpx⟩:=L1
 have ln:ys.length=ρ.B.items.length:=by rw[←ax,List.length_map]
 refine⟨fun t h'=> ∃(j:Nat) (X':Ft),t=(j:Int)∧j≤ys.length∧Pt h' s X' I { ρ with Q:=ρ.B.items.take j } ∧UpF h0 X' h'∧Go.Den.Own h' p1 ys.length c1 4 (ys.flatMap Obx.ienc)∧ ∀y,inBlk p1 y→ ¬X'.M y,fun t _=>ys.length - t.toNat,
  ⟨0,X,rfl,Nat.zero_le _, ?_,u.on f1,ox,fun y hy hm=>by have:=hpx y hy;have:=H.lt y (.inl hm);omega⟩, ?_⟩
 ·have e:({ ρ with Q:=ρ.B.items.take 0 } :SS)=ρ:=by rw[List.take_zero,←hρ]
  rw[e];exact H.on f1
 rintro _ h2 ⟨j,X2,rfl,hj,H2,u2,ox2,sep⟩
 by_cases hlt:j<ys.length
 ·rw[if_pos (decide_eq_true (by omega))]
  have hy:ys[j]? =some ys[j]:=List.getElem?_eq_getElem hlt
  have hyi:ρ.B.items[j]? =some (ys[j]).abs:=by rw[←ax,List.getElem?_map,hy];rfl
  generalize ys[j]=y at hy hyi
  have et:ρ.B.items.take (j+1)=ρ.B.items.take j++ [y.abs]:=by rw[List.take_add_one,hyi];rfl
  have ok1:okQ (ρ.B.items.take j++ [y.abs]):=by
   rw[←et]
   have ok:=ok
   rw[←List.take_append_drop (j+1) ρ.B.items] at ok
   exact ok.pre
  obtain⟨pb,po,rfl⟩:=ox2.addr (by omega)
  refine⟨⟨by omega,by omega⟩,onSome_some.2 (outbox_Item.ldA (by rw[Int.toNat_natCast];exact ox2.row'.heldAt Obx.ienc_len hy) (outbox_Item.new fun b h3 eb hb f3=>onSome_some.2 ⟨_,cell_at (H2.on f3).blk rfl,_,cell_at hb rfl,_,_,_,cell_at hb rfl, ?_⟩))⟩
  refine(H2.on f3).takeQ (x:=y.abs) ok1.pre (fits_pre ok1 (okI_of okb (List.mem_of_getElem? hyi))) rfl rfl fun h4 X4 H4 st4=>⟨_,rfl,st4.fr.cell (cell_at hb rfl) (fun hm=>by have:=H2.lt b (.inl hm);omega), ?_⟩
  rw[if_neg (by decide),wrap_id (by omega) (by omega)]
  have o3:=ox2.frame f3 (fun _ _=>id)
  refine⟨⟨j+1,X4,by omega,by omega, ?_,(u2.on f3).step st4,o3.frame st4.fr (fun z hz hm=>sep z hz hm),fun z hz hm=> ?_⟩,by show ys.length - Int.toNat ((j:Int)+1)<ys.length - Int.toNat (j:Int);omega⟩
  ·rw[et];exact H4
  ·rcases st4.newM z hm with a|a
   ·exact sep z hz a
   ·have:=o3.blk_lt hz;omega
 ·rw[if_neg (fun e=>hlt (by have:=of_decide_eq_true e;omega))]
  rw[List.take_of_length_le (show ρ.B.items.length≤j by omega),hτ] at H2
  refine save_ok H2 G hk8 (tb.on u2.fr) fun h3 p3 l3 c3 B3 f3=>⟨_,_,_,rfl, ?_⟩
  obtain⟨zs,r3,e3⟩:=B3.to_rows
  have m1:=Ses.recs_le G.a
  have m1':=G.a.le
  have m2:=G.g.len
  have m3:(Cps.recsC τ.C).length=τ.C.L.length+1:=by unfold Cps.recsC;simp
  have m3':=G.c.L
  have m4:(Obx.recsB τ.B).length=τ.B.items.length+1:=by unfold Obx.recsB;simp
  have m4':τ.B.items.length≤16:=by rw[←hτ];exact le
  have lt:l3≤1000000000:=by
   rw[B3.len,List.length_cons];unfold recsS
   simp only[List.length_append,List.length_map];omega
  refine Fld.equalFunc_ok r3 (Rw.on (u2.fr.tt f3)) lt ⟨_,rfl, ?_⟩
  rw[e3]
  by_cases e:xs.map BV.b=headS τ::recsS τ
  ·rw[decide_eq_true e.symm,if_neg (by decide)]
   exact k1 e h3 X2 (H2.on f3) (u2.on f3)
  ·rw[decide_eq_false (fun q=>e q.symm),if_pos (by decide)]
   exact k2 e h3 (u2.fr.tt f3)
set_option maxHeartbeats 2000000 in
theorem load_ok (H:Fld.Rows h p l c xs) (hl:l≤1000) (tb:Num.Tab h) (mx:Num.Mx h) (G:Good σ k) (hk8:k≤30000) (ba:Bare σ) (okb:Obx.okB σ.B L) (so:(σ.C.L.map Cps.Cp.num).Pairwise (· < ·)) (O:Cps.Ord σ.C)
  (hx:xs.map BV.b=headS σ::recsS σ∨(∃z,xs.map BV.b=headS σ::(recsS σ++ [z]))∨ ∃r z,xs.map BV.b=headS σ::r∧r++ [z]=recsS σ)
  (k1:xs.map BV.b=headS σ::recsS σ→ ∀h' s X I,Pt h' s X I σ→UpF h X h'→R (.tuple #[pt s, .int .i64 0]) h')
  (k2:xs.map BV.b≠headS σ::recsS σ→ ∀h',Fr (fun _=>False) h h'→R (.tuple #[.pointer none, .int .i64 3]) h'):CallsH Tryz.prog F.state_Load #[.slice p l c] h R:=by
 obtain rfl:=H.len
 obtain⟨x0,xr,rfl,e0⟩: ∃x0 xr,xs=x0::xr∧x0.b=headS σ:=by
  cases xs with
  |nil=>rcases hx with e|⟨z,e⟩|⟨r,z,e,_⟩<;>cases e
  |cons x0 xr=>exact⟨x0,xr,rfl,by rcases hx with e|⟨z,e⟩|⟨r,z,e,_⟩<;>exact(List.cons.inj e).1⟩
 have ht:=text_len G.e.1 G.e.2.2
 have hlen:(Ses.recs σ.A).length+((Cps.recsC σ.C).length+(Obx.recsB σ.B).length)≤1000000:=by
  rw[recsS_eq ba] at hx
  rcases hx with hx|⟨z,hx⟩|⟨r,z,hx,hr⟩
  ·have:=congrArg List.length hx;simp only[List.length_map,List.length_append,List.length_cons] at this hl;omega
  ·have:=congrArg List.length hx;simp only[List.length_map,List.length_append,List.length_cons,List.length_singleton] at this hl;omega
  ·have h1:=congrArg List.length hx;have h2:=congrArg List.length hr;simp only[List.length_map,List.length_append,List.length_cons,List.length_nil] at h1 h2 hl;omega
 have hA6:(Ses.recs σ.A).length≤1000000:=by omega
 have hC6:(Cps.recsC σ.C).length≤1000000:=by omega
 have hB6:(Obx.recsB σ.B).length≤1000000:=by omega
 have hl0:=headS_len ba (by omega)
 refine state_Load.walk ?_
 rw[if_neg (by simp only[List.length_cons,beq_iff_eq];omega)]
 obtain⟨a,rfl⟩:=H.row.some (by simp)
 have cx:=(H.row.heldAt nenc_len (i:=0) (x:=x0) rfl).1
 rw[add_zero_addr] at cx
 have rx:=H.each x0 (by simp)
 rw[e0] at rx
 refine⟨⟨by omega,by simp only[List.length_cons];omega⟩,onSome_some.2 ⟨_,_,_,cx,Fld.read_ok (bs:=headS σ) rx (by rw[e0]) (by omega) fun h1 f S D1 f1 n1=>⟨_,rfl,Fld.rtext_ok D1 (by omega) fun h2 p2 c2 D2 o2 n2 f2=> ?_⟩⟩⟩
 have nf:h.size≤f:=n1 f D1.self
 have F2:=f1.fresh f2 (fun y e=>by rw[e];exact nf)
 rw[headS_eq ba,readText_enc (by omega)] at D2 o2⊢
 dsimp only at D2 o2⊢
 refine⟨_,_,_,rfl,_,conv o2.row' rfl,Eid.parse_ok G.e.1 G.e.2.2 G.e.2.1 (tb.on F2) (mx.on F2) fun h3 f3=>⟨_,_,_,_,_,_,rfl,eid_Eid.new fun b4 h4 e4 hb4 f4=>eid_Eid.ld hb4 (new_ok σ.e (fun hm h5 s X I P5 u5=>⟨_,_,rfl, ?_⟩) (fun hm=>absurd ⟨G.e.1,G.e.2.1⟩ hm))⟩⟩
 rw[if_neg (by decide)]
 have sf:S f:=D1.self
 have D4:=D2.frame (f3.tt f4) (fun _ _=>id)
 have D5:=D4.frame u5.fr (fun _ _=>id)
 have F4:=F2.tt (f3.tt f4)
 have nX: ∀y,S y→ ¬In X y:=fun y hy hX=>by
  have:=u5.ge y hX
  have:=D4.lt y hy
  omega
 have sX:In X s:=by
  obtain⟨Y,hp,_,hm,_⟩:=P5
  exact .inl ((hm s).2 ⟨6,((hp 6).2 s).1.2 rfl⟩)
 refine Fld.rnum_ok D5 fun h6 D6 f6=> ?_
 rw[rn0 G] at D6⊢
 refine⟨_,rfl,Fld.rint_ok D6 fun h7 D7 f7=> ?_⟩
 rw[rn1 G hk8] at D7⊢
 dsimp only at D7⊢
 have P7:=P5.frame (f6.trans f7 (fun _ _=>id) (fun _ _=>id)) (fun y hy e=>nX f sf (e▸hy))
 have B7:=P7.blk
 have sb:s≠f:=fun e=>nX f sf (e▸sX)
 refine⟨_,rfl,onSome_some.2 (storeP_blk B7 (by show 6<8;omega) fun h9 d1 d2 d3=>onSome_some.2 (storeP_blk d1 (by show 7<8;omega) fun h10 e1 e2 e3=> ?_))⟩
 have oth: ∀y,y≠s→h10[y]? =h7[y]? :=fun y hy=>(e3 y hy).trans (d3 y hy)
 have sz10:h10.size=h7.size:=e2.trans d2
 obtain⟨X10,P10,st10⟩:=P7.put (n:=σ.now) (r:=σ.rf) (h':=h10) e1 sz10 oth
 have D10:Rd h10 f S 0 (tl σ 2):=D7.frame (Fr.of_eq (S:=fun y=>y=s) sz10 (fun c hc=>oth c hc)) (fun y hy e=>nX y hy (e▸sX))
 have f57:Fr (fun y=>y=f) h5 h7:=f6.trans f7 (fun _ _=>id) (fun _ _=>id)
 have zb:b4<h4.size:=lt_of_get hb4
 have nb4: ¬In X b4:=fun hX=>by have:=u5.ge b4 hX;omega
 have E10:eid_Eid.at h10 b4 σ.e.ipn σ.e.node σ.e.svc σ.e.host σ.e.dem:=by
  have h5b:=u5.fr.get hb4 id
  have h7b:=f57.get h5b (fun e=>by
   have:=D4.lt f sf
   have:=(D2.frame f3 (fun _ _=>id)).lt f sf
   omega)
  exact(oth b4 (fun e=>nb4 (e▸sX))).trans h7b
 have F10:Fr (fun _=>False) h h10:=by
  refine((F4.tt u5.fr).fresh f57 (fun y e=>by rw[e];exact nf)).fresh (Fr.of_eq (S:=fun y=>y=s) sz10 (fun c hc=>oth c hc)) (fun y e=> ?_)
  have:=u5.ge s sX
  have:=F4.1
  rw[e];omega
 refine JoinP.of fun J hJ=> ?_
 have done: ∀g b,ident_Ident.at g b σ.e.ipn σ.e.node σ.e.svc σ.e.host σ.e.dem 0 0→h10.size≤b→Rd g f S 0 (tl σ 4)→Fr (fun y=>y=f) h10 g→J (some ⟨b,0,none⟩) g:=by
  intro g b hb zb D F
  have Pg:Pt g s X10 I { newS σ.e with now:=σ.now,rf:=σ.rf } :=P10.frame F (fun y hy e=>by
   rcases hy with hy|hy
   ·rcases st10.newM y hy with a|a
    ·exact nX f sf (e▸ .inl a)
    ·have:=D10.lt f sf;have e:y=f:=e;omega
   ·rcases st10.newD y hy with a|a
    ·exact nX f sf (e▸ .inr a)
    ·have:=D10.lt f sf;have e:y=f:=e;omega)
  have Fg:Fr (fun _=>False) h g:=F10.fresh F (fun y e=>by rw[e];exact nf)
  subst hJ
  dsimp only
  refine Fld.rint_ok D fun g1 D1 q1=> ?_
  rw[rn4 hA6] at D1⊢
  refine⟨_,rfl,Fld.rint_ok D1 fun g2 D2 q2=> ?_⟩
  rw[rn5] at D2⊢
  refine⟨_,rfl,Fld.rint_ok D2 fun g3 D3 q3=> ?_⟩
  rw[rn6 hC6] at D3⊢
  refine⟨_,rfl,Fld.rint_ok D3 fun g4 D4 q4=> ?_⟩
  rw[rn7 hB6] at D4⊢
  have Q4:Fr (fun y=>y=f) g g4:=((q1.trans q2 (fun _ _=>id) (fun _ _=>id)).trans q3 (fun _ _=>id) (fun _ _=>id)).trans q4 (fun _ _=>id) (fun _ _=>id)
  refine⟨_,rfl,newP_of (storeP_push (by simp) (storeP_push (by simp) (storeP_push (by simp) (storeP_push (by simp) ?_))))⟩
  obtain⟨g5,e5⟩: ∃g5,g5=g4.push (.cells ((((#[Value.int .i64 0, .int .i64 0, .int .i64 0, .int .i64 0].setIfInBounds 0 (.int .i64 (((Ses.recs σ.A).length:Nat):Int))).setIfInBounds 1 (.int .i64 ((0:Nat):Int))).setIfInBounds 2 (.int .i64 (((Cps.recsC σ.C).length:Nat):Int))).setIfInBounds 3 (.int .i64 (((Obx.recsB σ.B).length:Nat):Int))) T.a4_int (0,0)):=⟨_,rfl⟩
  have a5:g5[g4.size]? =some (.cells #[.int .i64 (((Ses.recs σ.A).length:Nat):Int), .int .i64 0, .int .i64 (((Cps.recsC σ.C).length:Nat):Int), .int .i64 (((Obx.recsB σ.B).length:Nat):Int)] T.a4_int (0,0)):=by rw[e5];exact push_new
  have q5:Fr (fun _=>False) g4 g5:=by rw[e5];exact Fr.push _ _
  obtain⟨b5,eb5⟩: ∃b5,b5=g4.size:=⟨_,rfl⟩
  rw[←eb5] at a5
  have Q5:=Q4.trans q5 (fun _ _=>id) (fun _ _ h=>h.elim)
  have P5':Pt g5 s X10 I { newS σ.e with now:=σ.now,rf:=σ.rf } :=(Pg.frame Q4 (fun y hy e=>by
   rcases hy with hy|hy
   ·rcases st10.newM y hy with a|a
    ·exact nX f sf (e▸ .inl a)
    ·have:=D10.lt f sf;have e:y=f:=e;omega
   ·rcases st10.newD y hy with a|a
    ·exact nX f sf (e▸ .inr a)
    ·have:=D10.lt f sf;have e:y=f:=e;omega)).on q5
  have hb5:=Q5.get hb (fun e=>by have:=D10.lt f sf;omega)
  have F5:=(Fg.fresh Q4 (fun y e=>by rw[e];exact nf)).tt q5
  have D5':=D4.frame q5 (fun _ _=>id)
  have eg5:(g4.push (.cells ((((#[Value.int .i64 0, .int .i64 0, .int .i64 0, .int .i64 0].setIfInBounds 0 (.int .i64 (((Ses.recs σ.A).length:Nat):Int))).setIfInBounds 1 (.int .i64 ((0:Nat):Int))).setIfInBounds 2 (.int .i64 (((Cps.recsC σ.C).length:Nat):Int))).setIfInBounds 3 (.int .i64 (((Obx.recsB σ.B).length:Nat):Int))) T.a4_int (0,0)))=g5:=e5.symm
  dsimp only
  rw[eg5,←eb5]
  clear e5 eg5
  obtain⟨Y5,hp5,_,hm5,hd5⟩:=id P5'
  have M5:Mk g5 I.k σ.e 0 0:=(hp5 5).1
  have B5':=P5'.blk
  refine JoinP.of fun J1 hJ1=>onSome_some.2 (ident_Ident.ld hb5 (onSome_some.2 ⟨_,cell_at B5' rfl,last_ok M5 fun g6 f6=>⟨_,_,_,_,_,_,_,rfl,ident_Ident.held (f6.get hb5 id),true,eqId σ.e _ _, ?_⟩⟩))
  rw[if_neg (by decide)]
  subst hJ1
  dsimp only
  rw[if_neg (by decide)]
  refine JoinP.of fun J2 hJ2=> ?_
  have D6':=D5'.frame f6 (fun _ _=>id)
  have P6:=P5'.on f6
  have B6':=P6.blk
  have F6:=F5.tt f6
  refine Fld.rend_ok D6' ⟨_,rfl, ?_⟩
  rw[if_neg (by show¬(readEnd 0 [] !=0)=true;decide)]
  refine onSome_some.2 ⟨_,cell_at B6' rfl, ?_⟩
  rw[if_neg (by intro e;have e:((σ.now:Nat):Int)>1099511627776:=of_decide_eq_true e;have:=G.n;omega)]
  have a6:=f6.get a5 id
  have hr1:=H.drop (n:=1) (by simp)
  refine⟨⟨by omega,by simp only[List.length_cons];omega⟩,_,cell_at a6 rfl,_,cell_at a6 rfl,_,cell_at a6 rfl,_,cell_at a6 rfl, ?_⟩
  have eP:({ newS σ.e with now:=σ.now,rf:=σ.rf } :SS)=part0 σ 0:=by unfold part0 newS;rw[ba.t,ba.q];rfl
  rw[eP] at P6
  have up:UpF h X10 g6:=⟨F6,fun y hy=>by
   have z7:=F4.1
   have z8:=u5.fr.1
   have z9:=f57.1
   rcases hy with hy|hy
   ·rcases st10.newM y hy with a|a
    ·have:=u5.ge y (.inl a);omega
    ·omega
   ·rcases st10.newD y hy with a|a
    ·have:=u5.ge y (.inr a);omega
    ·omega⟩
  refine loadParts_ok P6 up hr1 (by simp only[List.length_cons] at hl⊢;omega) G.a tb mx G.c hk8 okb (by have:=G.b;omega) so O ?_ ?_ (fun hne h' X' I' i P' u'=>⟨_,rfl,cell_at P'.blk rfl, ?_⟩) ?_
  ·show(xr.map BV.b=_∨(∃z,xr.map BV.b=_)∨ ∃z,xr.map BV.b++ [z]=_)
   rw[recsS_eq ba] at hx
   rcases hx with e|⟨z,e⟩|⟨r,z,e,e'⟩
   ·exact .inl (List.cons.inj e).2
   ·exact .inr (.inl ⟨z,(List.cons.inj e).2⟩)
   ·exact .inr (.inr ⟨z,by rw[show xr.map BV.b=r from(List.cons.inj e).2];exact e'⟩)
  ·intro hE h' X' I' P' u'
   refine⟨_,rfl,cell_at P'.blk rfl, ?_⟩
   subst hJ2
   dsimp only
   rw[if_neg (by decide)]
   exact onSome_some.2 (tail_ok rfl (part0_all G ba) P' G hk8 u' H tb (fun e h'' X'' P'' u''=>k1 e h'' s X'' I' P'' u'') k2)
  ·subst hJ2
   dsimp only
   rw[if_pos (by rfl)]
   exact k2 (fun e=>hne (by have:=(List.cons.inj e).2;rw[recsS_eq ba] at this;exact this)) h' u'.fr
  ·intro hn hit h' X' I' P' u'
   refine⟨_,rfl,cell_at P'.blk rfl, ?_⟩
   subst hJ2
   dsimp only
   rw[if_neg (by decide)]
   have bl:1≤(Obx.recsB σ.B).length:=by unfold Obx.recsB;simp
   have ne:(x0::xr).map BV.b≠headS σ::recsS σ:=fun e=>by
    have:=congrArg List.length e
    rw[recsS_eq ba] at this
    simp only[List.length_map,List.length_cons,List.length_append] at this
    have hn:xr.length=_:=hn
    omega
   refine onSome_some.2 (tail_ok (τ:=part0 σ 3) rfl rfl P' (good3 (σ:=σ) G) hk8 u' H tb (fun e=>absurd (congrArg List.length e) ?_) (fun _=>k2 ne))
   have e3:(recsS (part0 σ 3)).length=(Ses.recs σ.A).length+((Cps.recsC σ.C).length+1):=by
    show(Ses.recs σ.A++([]++(Cps.recsC σ.C++Obx.recsB (newS σ.e).B))).length=_
    simp only[List.length_append,List.nil_append]
    rfl
   show((x0::xr).map BV.b).length≠(headS (part0 σ 3)::recsS (part0 σ 3)).length
   rw[List.length_map,List.length_cons,List.length_cons,e3]
   have hn:xr.length=_:=hn
   omega
 have nbf:b4≠f:=fun e=>by
  have:=(D2.frame f3 (fun _ _=>id)).lt f sf
  omega
 have E: ∀ {g},Fr (fun y=>y=f) h10 g→heldL ⟨b4,0,none⟩ [.bool σ.e.ipn, .int .u64 σ.e.node, .int .u64 σ.e.svc, .string σ.e.host, .string σ.e.dem] 0 g:=fun F=>eid_Eid.held (F.get E10 nbf)
 have nw: ∀ {g g'},Fr (fun y=>y=f) h10 g→Fr (fun _=>False) g g'→Fr (fun y=>y=f) h10 g':=fun a b=>a.trans b (fun _ _=>id) (fun _ _ h=>h.elim)
 have nf': ∀ {g g'},Fr (fun y=>y=f) h10 g→Fr (fun y=>y=f) g g'→Fr (fun y=>y=f) h10 g':=fun a b=>a.trans b (fun _ _=>id) (fun _ _=>id)
 have fin: ∀ {g g' b},Rd g f S 0 (tl σ 4)→Fr (fun y=>y=f) h10 g→h10.size≤b→ident_Ident.at g' b σ.e.ipn σ.e.node σ.e.svc σ.e.host σ.e.dem 0 0→g'.size=g.size→(∀x,x≠b→g'[x]? =g[x]?)→J (some ⟨b,0,none⟩) g':=fun {g g' b} D F hb a1 a2 a3=>by
  refine done g' b a1 hb (D.frame (Fr.of_eq (S:=fun y=>y=b) a2 (fun c hc=>a3 c hc)) (fun y hy e=> ?_)) (F.trans (Fr.of_eq (S:=fun y=>y=b) a2 (fun c hc=>a3 c hc)) (fun _ _ h=>h) (fun y hy e=> ?_))
  ·have:=D10.lt y hy;omega
  ·have:=e;omega
 refine eid_Eid.ld E10 ⟨Fld.rnum_ok D10 fun g1 D1 q1=> ?_,ident_Ident.box fun b g1 eb hb q1=>⟨E (nw (Fr.refl _ _) q1),Fld.rnum_ok (D10.frame q1 (fun _ _=>id)) fun g2 D2 q2=> ?_⟩,trivial⟩
 ·rw[rn2] at D1⊢
  refine⟨_,rfl,E q1,Fld.rnum_ok D1 fun g2 D2 q2=> ?_,ident_Ident.box fun b g2 eb hb q2=>⟨E (nw q1 q2),Fld.rnum_ok (D1.frame q2 (fun _ _=>id)) fun g3 D3 q3=> ?_⟩,trivial⟩
  ·rw[rn3] at D2⊢
   have Q2:=nf' q1 q2
   exact⟨_,rfl,E Q2,ident_Ident.box fun b g3 eb hb q3=>⟨E (nw Q2 q3),ident_Ident.set hb fun g4 a1 a2 a3=>fin (D2.frame q3 (fun _ _=>id)) (nw Q2 q3) (by have:=Q2.1;omega) a1 a2 a3⟩⟩
  ·rw[rn3] at D3⊢
   have Q3:=nf' (nw q1 q2) q3
   have z1:=q1.1
   have hb3:=q3.get hb (fun e=>by have:=D1.lt f sf;omega)
   exact⟨_,rfl,E Q3,ident_Ident.set hb3 fun g4 a1 a2 a3=>fin D3 Q3 (by omega) a1 a2 a3⟩
 ·rw[rn2] at D2⊢
  have Q2:=nf' (nw (Fr.refl _ _) q1) q2
  refine⟨_,rfl,E Q2,Fld.rnum_ok D2 fun g3 D3 q3=> ?_⟩
  rw[rn3] at D3⊢
  have Q3:=nf' Q2 q3
  have nb:b≠f:=fun e=>by have:=D10.lt f sf;omega
  have hb3:=q3.get (q2.get hb nb) nb
  exact⟨_,rfl,E Q3,ident_Ident.set hb3 fun g4 a1 a2 a3=>fin D3 Q3 (by omega) a1 a2 a3⟩
end Stt
end Go.Proofs.YtgccegnmggjkjaaGreatDoor
set_option maxRecDepth 100000
namespace Go.Proofs.YtgccegnmggjkjaaGreatDoor
open Go.Den Go.Fields
namespace Stt
open Eid (Ev rightE ev5)
open Fld
variable {h h' h0 : Heap} {R : Value → Heap → Prop} {s x k : Nat} {X Y : Ft} {I I' : Ids} {σ τ : SS} {p : Option Addr}
theorem Bare.do (b:Bare σ) (f:OP):Bare (doS f σ):=by
 obtain⟨b1,b2,b3⟩:=b
 unfold doS
 split
 ·unfold passA;split<;>exact⟨b1,b2,b3⟩
 split
 ·unfold putS;split<;>exact⟨b1,b2,b3⟩
 split
 ·exact⟨b1,b2,b3⟩
 split
 ·unfold takeA;split<;>exact⟨b1,b2,b3⟩
 split
 ·exact⟨b1,b2,b3⟩
 split
 ·exact⟨b1,b2,b3⟩
 ·exact⟨b1,b2,b3⟩
theorem Good.mono {k':Nat} (G:Good σ k) (hk:k≤k'):Good σ k':=by
 induction hk with
 |refl=>exact G
 |step _ ih=>exact ih.more
theorem Pt.so (H:Pt h s X I σ):(σ.C.L.map Cps.Cp.num).Pairwise (· < ·):=by
 obtain⟨Y,hp,_⟩:=H
 exact Cps.Ct.so (hp 2)
theorem recs_len (G:Good σ k) (hk:k≤200) (ba:Bare σ) {L:List Go.Heapq.E} (okb:Obx.okB σ.B L):(recsS σ).length≤900∧2≤(recsS σ).length:=by
 rw[recsS_eq ba]
 have m1:=Ses.recs_le G.a
 have m1':=G.a.le
 have m3:(Cps.recsC σ.C).length=σ.C.L.length+1:=by unfold Cps.recsC;simp
 have m3':=G.c.L
 have m4:(Obx.recsB σ.B).length=σ.B.items.length+1:=by unfold Obx.recsB;simp
 have m4':=okb.le
 simp only[List.length_append]
 omega
set_option maxHeartbeats 2000000 in
theorem _root_.Go.Proofs.YtgccegnmggjkjaaGreatDoor.stateBack_ok (op:Option Addr) (ol oc:Nat) (mp:Option Addr) (ml mc:Nat) (hv:RokV Tryz.prog h T.s_law26_Op (.slice op ol oc)) (hv2:RokV Tryz.prog h T.s_law26_Op (.slice mp ml mc)) (tb:Num.Tab h) (mx:Num.Mx h):LawH Tryz.prog F.law26_StateBack #[.slice op ol oc, .slice mp ml mc] h:=by
 obtain⟨fs,rfl,hrow,hok⟩:=ops_read hv
 obtain⟨ms,rfl,mrow,mok⟩:=ops_read hv2
 clear hv hv2
 unfold LawH
 generalize hR:(fun(v:Value) h'=>v= .bool true∧Fr (fun _=>False) h h')=R
 have hk: ∀h',Fr (fun _=>False) h h'→R (.bool true) h':=fun h' hf=>by rw[←hR];exact⟨rfl,hf⟩
 clear hR
 have hpm: ∀ {f:OP} {g':Heap} {Z:Ft},Row h f.p (bc f.b)→UpF h Z g'→f.b≠ []→ ∀a,f.p=some a→ ¬Z.M a.block:=fun {f g' Z} rowf w hne a ea hm=>by
  have h1:=row_lt rowf (by cases hb:f.b with|nil=>exact absurd hb hne|cons=>simp[bc]) ⟨a,ea,rfl⟩
  have h2:=w.ge _ (.inl hm)
  omega
 refine law26_StateBack.walk (self_ok fun h1 f1=>⟨_,_,_,_,_,rfl,new_ok e70 (fun _ h2 s X I H2 u2=>⟨_,_,rfl,JoinP.of fun J hJ=> ?_⟩) (fun n=>absurd may70 n)⟩)
 have U2:UpF h X h2:=⟨f1.tt u2.fr,fun c hc=>Nat.le_trans f1.1 (u2.ge c hc)⟩
 rw[if_neg (by decide)]
 refine whole_ok H2.blk ⟨_,rfl, ?_⟩
 subst hJ
 dsimp only
 rw[if_neg (by decide)]
 refine⟨fun i g=> ∃(k:Nat) (X:Ft) (σ:SS),i=(k:Int)∧k≤60∧Pt g s X I σ∧UpF h X g∧Good σ k∧Bare σ,fun i _=>60 - i.toNat,
  ⟨0,X,newS e70,rfl,by omega,H2,U2,Good.new may70.1 may70.2 (by decide),⟨rfl,rfl,rfl⟩⟩, ?_⟩
 clear H2 u2 U2
 rintro _ g ⟨k,X,σ,rfl,hk60,H,u,G,ba⟩
 refine JoinP.of fun J hJ=> ?_
 by_cases hl:k<fs.length∧k<60
 ·rw[if_pos (decide_eq_true (by omega)),decide_eq_true (by omega)]
  subst hJ
  dsimp only
  rw[if_pos rfl]
  obtain⟨f,hf⟩: ∃f,fs[k]? =some f:=⟨fs[k],List.getElem?_eq_getElem hl.1⟩
  obtain⟨rowf,_⟩:=hok f (List.mem_of_getElem? hf)
  have row:=hrow.frame u.fr (fun _ _=>id)
  obtain⟨aa,rfl⟩:=row.some (by intro e;cases fs with|nil=>simp at hf|cons=>simp at e)
  have hh:=row.heldAt oenc_len hf
  have c3:hcell g ((aa.add (Int.toNat (k:Int)*5)).add 3)=some (.slice f.p f.b.length f.c):=by rw[Int.toNat_natCast];exact hh.2.2.2.1
  refine⟨⟨by omega,by omega⟩,onSome_some.2 ⟨_,_,_,c3, ?_⟩⟩
  by_cases g1:f.b.length>700
  ·rw[if_pos (decide_eq_true (by omega))]
   exact alive_ok (tb.on u.fr) fun h2 f2=>⟨_,rfl,hk h2 (u.fr.tt f2)⟩
  rw[if_neg (fun e=>g1 (by have:=of_decide_eq_true e;omega))]
  refine⟨⟨by omega,by omega⟩,onSome_some.2 (law26_Op.ldA (by rw[Int.toNat_natCast];exact hh) (do_ok H G (by omega) f (rowf.frame u.fr (fun _ _=>id)) (by omega) (hpm rowf u) fun g3 X3 H3 st3=>⟨_,rfl, ?_⟩))⟩
  rw[wrap_id (by omega) (by omega)]
  exact⟨⟨k+1,X3,doS f σ,by omega,by omega,H3,u.step st3,G.do H (by omega) f,ba.do f⟩,by show 60 - Int.toNat ((k:Int)+1)<60 - Int.toNat (k:Int);omega⟩
 have hJf:J false g:=by
  subst hJ
  dsimp only
  rw[if_neg (by decide)]
  obtain⟨L0,okb0⟩:=H.okB
  obtain⟨rl1,rl2⟩:=recs_len G (by omega) ba okb0
  refine save_ok H G (by omega) (tb.on u.fr) fun h4 p4 l4 c4 B4 f4=>⟨_,_,_,rfl, ?_⟩
  have ln4:=B4.len
  rw[List.length_cons] at ln4
  obtain⟨xs,D,RD,ex,hD⟩:=Cps.BL.to_rowsD B4
  have F4:=u.fr.tt f4
  refine load_ok RD.rows (by omega) (tb.on F4) (mx.on F4) G (by omega) ba okb0 H.so H.ord (.inl ex) (fun _ h5 v Y I' V5 u5=>⟨_,_,rfl,JoinP.of fun J1 hJ1=> ?_⟩) (fun hn=>absurd ex hn)
  rw[if_neg (by decide)]
  refine whole_ok V5.blk ⟨_,rfl, ?_⟩
  rw[if_neg (by decide)]
  have F5:=F4.tt u5.fr
  refine save_ok V5 G (by omega) (tb.on F5) fun h6 p6 l6 c6 B6 f6=>⟨_,_,_,rfl, ?_⟩
  obtain⟨ys,r6,e6⟩:=B6.to_rows
  have ln6:=B6.len
  rw[List.length_cons] at ln6
  have RD6:=RD.frame (u5.fr.tt f6) (fun _ _=>id)
  refine Fld.same_ok r6 RD6.rows (by omega) ⟨_,rfl, ?_⟩
  have el0:(((l4:Nat):Int)==0)=false:=by simp;omega
  rw[decide_eq_true (e6.trans ex.symm),if_neg (by decide),el0]
  subst hJ1
  dsimp only
  rw[if_neg (by decide)]
  have z5:=u5.fr.1
  have z6:=f6.1
  have H6:=H.on (f4.tt (u5.fr.tt f6))
  have u6:=u.on (f4.tt (u5.fr.tt f6))
  have V6:=V5.on f6
  have w6:UpF h Y h6:=⟨F5.tt f6,fun c hc=>by have:=u5.ge c hc;have:=F4.1;omega⟩
  refine⟨fun i g=> ∃(j:Nat) (X' Y':Ft) (σ':SS),i=(j:Int)∧j≤40∧Pt g s X' I σ'∧Pt g v Y' I' σ'∧UpF h X' g∧UpF h Y' g∧(∀c,X'.M c∨X'.D c→ ¬(Y'.M c∨Y'.D c))∧Cps.RowsD g p4 l4 c4 xs D∧(∀c,D c→c<g.size∧ ¬X'.M c∧ ¬Y'.M c)∧Good σ' (60+j)∧Bare σ',fun i _=>40 - i.toNat,
   ⟨0,X,Y,σ,rfl,by omega,H6,V6,u6,w6,fun c h1 h2=> ?_,RD6,fun c hc=>⟨?_,fun hm=> ?_,fun hm=> ?_⟩,G.mono (by omega),ba⟩, ?_⟩
  ·have:=H.lt c h1
   have:=u5.ge c h2
   have:=f4.1
   omega
  ·have:=hD c hc;omega
  ·have:=hD c hc;have:=H.lt c (.inl hm);omega
  ·have:=hD c hc;have:=u5.ge c (.inl hm);omega
  clear H6 V6 u6 w6 RD6 r6 e6 B6
  rintro _ h7 ⟨j,X',Y',σ',rfl,hj,H7,V7,u7,w7,ap,RD7,hD7,G7,ba7⟩
  refine JoinP.of fun J2 hJ2=> ?_
  by_cases hl2:j<ms.length∧j<40
  ·rw[if_pos (decide_eq_true (by omega)),decide_eq_true (by omega)]
   subst hJ2
   dsimp only
   rw[if_pos rfl]
   obtain⟨f,hf⟩: ∃f,ms[j]? =some f:=⟨ms[j],List.getElem?_eq_getElem hl2.1⟩
   obtain⟨rowf,_⟩:=mok f (List.mem_of_getElem? hf)
   have row7:=mrow.frame u7.fr (fun _ _=>id)
   obtain⟨aa,rfl⟩:=row7.some (by intro e;cases ms with|nil=>simp at hf|cons=>simp at e)
   have hh:=row7.heldAt oenc_len hf
   have c3:hcell h7 ((aa.add (Int.toNat (j:Int)*5)).add 3)=some (.slice f.p f.b.length f.c):=by rw[Int.toNat_natCast];exact hh.2.2.2.1
   refine⟨⟨by omega,by omega⟩,onSome_some.2 ⟨_,_,_,c3, ?_⟩⟩
   by_cases g1:f.b.length>700
   ·rw[if_pos (decide_eq_true (by omega))]
    exact alive_ok (tb.on u7.fr) fun h2 f2=>⟨_,rfl,hk h2 (u7.fr.tt f2)⟩
   rw[if_neg (fun e=>g1 (by have:=of_decide_eq_true e;omega))]
   refine JoinP.of fun J3 hJ3=>⟨⟨by omega,by omega⟩,onSome_some.2 (law26_Op.ldA (by rw[Int.toNat_natCast];exact hh) ⟨⟨by omega,by omega⟩,onSome_some.2 (law26_Op.ldA (by rw[Int.toNat_natCast];exact hh) (do_ok H7 G7 (by omega) f (rowf.frame u7.fr (fun _ _=>id)) (by omega) (hpm rowf u7) fun h9 X9 H9 st9=>⟨_,rfl, ?_⟩))⟩)⟩
   have u9:=u7.step st9
   have row9:=mrow.frame u9.fr (fun _ _=>id)
   have V9:Pt h9 v Y' I' σ':=V7.frame st9.fr (fun y hy hm=>ap y (.inl hm) hy)
   have ap9: ∀c,X9.M c∨X9.D c→ ¬(Y'.M c∨Y'.D c):=st9.apart ap (fun c hc=>V7.lt c hc)
   have w9:UpF h Y' h9:=⟨u9.fr,w7.ge⟩
   refine⟨by rw[Int.toNat_natCast];exact row9.heldAt oenc_len hf,do_ok V9 G7 (by omega) f (rowf.frame u9.fr (fun _ _=>id)) (by omega) (hpm rowf w9) fun h10 Y10 V10 st10=>⟨_,rfl, ?_⟩⟩
   have w10:=w9.step st10
   have H10:Pt h10 s X9 I (doS f σ'):=H9.frame st10.fr (fun y hy hm=>ap9 y hy (.inl hm))
   have ap10: ∀c,X9.M c∨X9.D c→ ¬(Y10.M c∨Y10.D c):=fun c h1 h2=>st10.apart (Q:=fun c=>X9.M c∨X9.D c) (fun c h3 h4=>ap9 c h4 h3) (fun c hc=>H9.lt c hc) c h2 h1
   have G10:=G7.do H7 (by omega) f
   have u10:UpF h X9 h10:=⟨w10.fr,u9.ge⟩
   rw[if_neg (by simp)]
   refine pure_ok H10 G10 fun h11 f11=>⟨_,rfl, ?_⟩
   rw[if_neg (by decide)]
   refine pure_ok (V10.on f11) G10 fun h12 f12=>⟨_,rfl, ?_⟩
   subst hJ3
   dsimp only
   rw[if_neg (by decide),wrap_id (by omega) (by omega)]
   have F12:=f11.tt f12
   have z9:=st9.fr.1
   have z10:=st10.fr.1
   have z12:=F12.1
   have RD12:=((RD7.frame st9.fr (fun y hy=>(hD7 y hy).2.1)).frame st10.fr (fun y hy=>(hD7 y hy).2.2)).frame F12 (fun _ _=>id)
   refine⟨⟨j+1,X9,Y10,doS f σ',by omega,by omega,H10.on F12,V10.on F12,u10.on F12,w10.on F12,ap10,RD12,fun c hc=>⟨?_,fun hm=> ?_,fun hm=> ?_⟩,G10,ba7.do f⟩,by show 40 - Int.toNat ((j:Int)+1)<40 - Int.toNat (j:Int);omega⟩
   ·have:=(hD7 c hc).1;omega
   ·rcases st9.newM c hm with h|h
    ·exact(hD7 c hc).2.1 h
    ·have:=(hD7 c hc).1;omega
   ·rcases st10.newM c hm with h|h
    ·exact(hD7 c hc).2.2 h
    ·have:=(hD7 c hc).1;omega
  have hJ2f:J2 false h7:=by
   subst hJ2
   dsimp only
   rw[if_neg (by decide),wrap_id (by omega) (by omega)]
   have cp:=RD7.rows.cap
   have ln7:=RD7.rows.len
   have F7:=u7.fr
   obtain⟨z,r,hrz⟩: ∃z r,r++ [z]=recsS σ:=⟨(recsS σ).getLast (by intro e;rw[e] at rl2;simp at rl2),(recsS σ).dropLast,List.dropLast_concat_getLast _⟩
   have lrz:=congrArg List.length hrz
   rw[List.length_append,List.length_singleton] at lrz
   refine⟨⟨by omega,by omega⟩, ?_⟩
   have en:(Int.toNat (((l4:Nat):Int) - 1))=l4 - 1:=by omega
   have sub:=RD7.rows.take (n:=l4 - 1) (by omega)
   have es:(xs.take (l4 - 1)).map BV.b=headS σ::r:=by
    rw[List.map_take,ex,←hrz,ln4,←hrz,List.length_append,List.length_singleton,Nat.add_sub_cancel,List.take_succ_cons,List.take_left]
   rw[en]
   refine load_ok sub (by omega) (tb.on F7) (mx.on F7) G (by omega) ba okb0 H.so H.ord (.inr (.inr ⟨r,z,es,hrz⟩)) (fun hn=>absurd (congrArg List.length hn) (by rw[es,←hrz];simp)) fun _ h8 f8=>⟨_,_,rfl, ?_⟩
   refine Cps.app_rows (RD7.rows.on f8) (by omega) fun h9 p9 l9 c9 xs9 R9 e9 f9=>⟨_,_,_,rfl, ?_⟩
   have F9:=f8.tt f9
   rw[ex] at e9
   have l9':=R9.len
   have x9:=congrArg List.length e9
   rw[List.length_map,List.length_append,List.length_cons,List.length_singleton] at x9
   refine load_ok R9 (by omega) (tb.on (F7.tt F9)) (mx.on (F7.tt F9)) G (by omega) ba okb0 H.so H.ord (.inr (.inl ⟨[1],e9⟩)) (fun hn=>absurd (congrArg List.length hn) (by rw[e9];simp)) fun _ h10 f10=>⟨_,_,rfl,alive_ok (tb.on (F7.tt (F9.tt f10))) fun h11 f11=>⟨_,rfl, ?_⟩⟩
   rw[if_pos rfl]
   have F11:=F9.tt (f10.tt f11)
   refine save_ok (H7.on F11) G7 (by omega) (tb.on (F7.tt F11)) fun h12 p12 l12 c12 B12 f12=>⟨_,_,_,rfl,save_ok (V7.on (F11.tt f12)) G7 (by omega) (tb.on (F7.tt (F11.tt f12))) fun h13 p13 l13 c13 B13 f13=>⟨_,_,_,rfl, ?_⟩⟩
   obtain⟨y1,r1,e1⟩:=(B12.on f13).to_rows
   obtain⟨y2,r2,e2⟩:=B13.to_rows
   obtain⟨L7,okb7⟩:=H7.okB
   have lt7:=(recs_len G7 (by omega) ba7 okb7).1
   have ln:=B12.len
   rw[List.length_cons] at ln
   refine Fld.same_ok r1 r2 (by omega) ⟨_,rfl, ?_⟩
   rw[decide_eq_true (e1.trans e2.symm),if_pos rfl,if_pos (by decide)]
   exact hk h13 (F7.tt (F11.tt (f12.tt f13)))
  by_cases q1:j<ms.length
  ·have q2: ¬j<40:=fun e=>hl2 ⟨q1,e⟩
   rw[if_pos (decide_eq_true (by omega)),decide_eq_false (by omega)]
   exact hJ2f
  ·rw[if_neg (fun e=>q1 (by have:=of_decide_eq_true e;omega))]
   exact hJ2f
 by_cases q1:k<fs.length
 ·have q2: ¬k<60:=fun e=>hl ⟨q1,e⟩
  rw[if_pos (decide_eq_true (by omega)),decide_eq_false (by omega)]
  exact hJf
 ·rw[if_neg (fun e=>q1 (by have:=of_decide_eq_true e;omega))]
  exact hJf
end Stt
end Go.Proofs.YtgccegnmggjkjaaGreatDoor
