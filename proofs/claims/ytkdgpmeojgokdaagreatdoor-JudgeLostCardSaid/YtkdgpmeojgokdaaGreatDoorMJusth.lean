/-
  Fu is proved here: parts of xQ proof, one behind xQ other (texts of this work, merged by a program; HU xQ theorem HV not use is left out). No condition.
-/
import Derived.RangeFuncLeaves
import Derived.RangeFuncRecord
import Derived.RangeFuncCalls
import Derived.OrdersIn
import Derived.Test.YtkdgpmeojgokdaaGreatDoorMJustg
set_option maxRecDepth 100000
set_option maxHeartbeats 4000000
namespace Go.Den
section
variable {r:Option Nat} {m n:Nat} {P:Program} {f:FuncId} {w w0:World} {R K:fO} {o:Oper} {fn:Func}
def fw(r:Option Nat):Fence:= { Fence.wide with round:=r }
theorem BI{args:Array Value}{R:Ending->World->Prop}(h:Calls P f args w R):CallsIn (fw r) m P f args w R:=
 (callsIn_wide (n:=m)).2 h
theorem sr :(fw r).depth.isSome=true->1<=m:=λh=>by cases h
def ss(P:Program)(l:Nat)(args:Array Value)(h:ai)(R:fO):Prop:=
 ∀w:World,w.heap=h->∃f t assign b,(Instr.yield l args).run P w=.ok (.round l f t assign b) w/\
  ∀r m,RoundIn (fw r) m P l f t assign b w (λe c=> ∃v,e=.returned v/\R v c.heap/\fc w c)
def Act.bare(a:Act):Act:= { a with defers:= [] }
theorem Act.wA(a:Act)(d:Option Nat)(v:Value):Act.bare (a.put d v)=(Act.bare a).put d v:=by cases d<;>rfl
theorem Act.put_defers(a:Act)(d:Option Nat)(v:Value):(a.put d v).defers=a.defers:=by cases d<;>rfl
variable {a a0:Act} {next:Act->World->Prop} {Q:Exit->Act->World->Prop}
def jW(o:Oper):Bool:=match o.op with| .defer _=>false|_=>true
theorem uW(h:jW o=true)(c:Call):o.op≠ .defer c:=λe=>by unfold jW at h;rw[e]at h;cases h
theorem pF.wpIn(g:pF P o a.eval w.heap K)(j:jW o=true)(h: ∀v b,K v b.heap->fc w b->next (a.put o.dst v) b):o.wpIn (fw r) m P a w next Q:=by
 refine⟨λ_ _=>trivial,?_⟩;obtain⟨x,b,k,c,d⟩:=mN _ _ _ g w rfl;rw[Oper.semAt_eq _ _ _ (uW j),k];cases x with
 |value v=>exact h _ _ c d
 |skip=>exact h _ _ c d
 |enter f args=>
  refine⟨sr,CallsIn.mono (BI (c b rfl)) ?_⟩;rintro e l ⟨v,rfl,H,i⟩;exact h _ _ H (d.trans i)
 |_=>exact c.elim
def JP(P:Program)(o:Oper)(d:Env)(h:ai)(K:fO):Prop:=
 match o.op with
 | .call { callee:=.value f,args:=args,argTypes:=_ } =>(match d.ev f,Nk d args.toList with
  |some (.func (.yield l) c _),some V=>ss P l (c.toList++V).toArray h λv H=> ∃b:Bool,v=.bool b/\K (.bool b) H
  |_,_=>tQ P o d h K)
 |_=>tQ P o d h K
theorem M4{k:Env}(H:Fits k a.eval)(h:JP P o k w.heap K)(i:jW o=true)(d: ∀v j,K v j.heap->fc w j->next (a.put o.dst v) j):o.wpIn (fw r) m P a w next Q:=by
 unfold JP at h;split at h
 .rename_i f args z s;split at h
  .rename_i l c C V q x;obtain⟨g,T,assign,B,y,t⟩:=h w rfl;refine⟨λ_ _=>trivial,?_⟩;rw[Oper.semAt_eq _ _ _ (uW i)];have e:(execOp a.eval o).run P w=(Instr.yield l (c.toList++V).toArray).run P w:=by
    unfold execOp;rw[s];simp only[resolve,qR H x,H _ _ q,Deferred.ofValue];have e:c++V.toArray=(c.toList++V).toArray:=by
     apply Array.ext'
     simp
    rw[e];rfl
   rw[e,y];refine⟨sr,RoundIn.mono (t r _) ?_⟩;rintro e A ⟨v,rfl,⟨b,rfl,p⟩,u⟩;exact d _ _ p u
  .exact(ma H h).wpIn i d
 .exact(ma H h).wpIn i d
def TA(n:Nat)(a0:Act)(w0:World)(c:List Nat)(K:Env->ai->Prop):Exit->Act->World->Prop:=
 λe a w=>e=.normal/\∃b,Rel n b (Act.bare a)/\K b w.heap/\fc w0 w/\eX c (Act.bare a0) (Act.bare a)/\a.defers=a0.defers
def sO(P:Program)(n:Nat)(O:Array Oper)(t:List (Nat×Sh)):List Oper->Env->ai->(Env->ai->Prop)->Prop
 | [],b,h,K=>K b h
 |o::d,b,h,K=>jo O o b
   (λb=>JP P o b h λv H=>CE t o.dst v λv=>iN n b o.dst v λc=>sO P n O t d c H K)
   (λb=>iN n b o.dst undef λc=>sO P n O t d c h K)
theorem qg{O:Array Oper}{T:List (Nat×Sh)}{K:Env->ai->Prop}(l:O.all jW=true): ∀(b:List Oper)(k:Nat)(c:Env)(a:Act)(w:World),
  (∀j,b[j]? =O[k+j]?)->Rel n c (Act.bare a)->fc w0 w->eX (cF O) (Act.bare a0) (Act.bare a)->a.defers=a0.defers->sO P n O T b c w.heap K->wpOpsIn (fw r) m P O (TA n a0 w0 (cF O) K) (List.range' k b.length) a w
 | [],k,c,a,w,_,q,g,i,d,h=>⟨rfl,c,q,h,g,i,d⟩
 |o::b,k,c,a,w,y,q,g,i,d,h=>by
  have H:O[k]? =some o:=by have:=y 0;simpa using this.symm
  have z: ∀j,b[j]? =O[k+1+j]? :=λj=>by have:=y (j+1);simpa[Nat.add_assoc,Nat.add_comm 1 j]using this
  have D:jW o=true:=by
   rw[Array.all_eq_true]at l;obtain⟨C,rfl⟩:=fH.1 H;exact l k C
  simp only[bn,List.range'_succ,wpOpsIn,H];simp only[sO]at h;rcases jD q h with⟨t,A,e,h⟩|⟨t,A,e,h⟩
  .have u:Region.wanted o (yielded O a.tmps)=true:=t;rw[af u];refine M4 (a:=a) (show Fits A a.eval from e.fits) h D ?_;intro v F B E;obtain⟨x,s,p⟩:=iH e (oP B);exact qg l b (k+1) x _ F z (by rw[Act.wA];exact s) (g.trans E) (by rw[Act.wA];exact i.trans (eX.put (ee H))) (by rw[Act.put_defers];exact d) p
  .have u:Region.wanted o (yielded O a.tmps)=false:=t;rw[ae (by rw[u];simp)];obtain⟨x,s,p⟩:=iH e h;exact⟨λ_ _=>trivial,qg l b (k+1) x _ w z (by rw[Act.wA];exact s) g (by rw[Act.wA];exact i.trans (eX.put (ee H))) (by rw[Act.put_defers];exact d) p⟩
theorem M6{K q:Act->World->Prop}{u:Exit->Act->World->Prop}{D:List Deferred}(B:jW o=true)(h:o.wp P a w K Q)(g: ∀A i,K A i->A.defers= []/\q { A with defers:=D } i)(j: ∀e A i,e≠ .normal->¬Q e A i):
  a.defers= []/\o.wpIn (fw r) m P { a with defers:=D } w q u:=by
 unfold Oper.wp at h;unfold Oper.wpIn;rw[Oper.semAt_eq _ _ _ (uW B)];have e:(execOp (Act.eval { a with defers:=D }) o).run P w=(execOp a.eval o).run P w:=rfl;rw[e];have p: ∀(v:Value),({ a with defers:=D } :Act).put o.dst v= { (a.put o.dst v)with defers:=D } :=λv=>by cases o.dst<;>rfl
 generalize (execOp a.eval o).run P w=x at h⊢;cases x with
 |ok x i=>
  cases x with
  |value v=>obtain⟨b,k⟩:=g _ _ h;rw[Act.put_defers]at b;exact⟨b,λ_ _=>trivial,by simp only[Oper.uponIn,p];exact k⟩
  |skip=>obtain⟨b,k⟩:=g _ _ h;rw[Act.put_defers]at b;exact⟨b,λ_ _=>trivial,by simp only[Oper.uponIn,p];exact k⟩
  |defer d=>obtain⟨b,k⟩:=g _ _ h;rw[Act.put_defers]at b;cases b
  |enter f args=>
   simp only[Oper.upon]at h;have s:a.defers= []:=by
    obtain⟨e,l,F,H,_⟩:=h [];cases e with
    |returned v=>have:=(g _ _ H).1;rwa[Act.put_defers]at this
    |panicked C=>exact(j _ _ _ bU H).elim
    |outgrown=>obtain⟨_,_,t⟩:=H;exact(j _ _ _ bU t).elim
   refine⟨s,λ_ _=>trivial,sr,CallsIn.mono (BI h) ?_⟩;rintro e l H;cases e with
   |returned v=>have:=(g _ _ H).2;simp only[p];exact this
   |panicked C=>exact(j _ _ _ bU H).elim
   |outgrown=>obtain⟨_,_,t⟩:=H;exact(j _ _ _ bU t).elim
  |row E args=>
   simp only[Oper.upon]at h;have s:a.defers= []:=by
    obtain⟨v,l,H,_⟩:=h default [];have:=(g _ _ H).1;rwa[Act.put_defers]at this
   refine⟨s,λ_ _=>trivial,sr,λc y _=> ?_⟩;obtain⟨v,l,H,z⟩:=h c y;exact⟨v,l,(by show q _ _;rw[p];exact(g _ _ H).2),stepsIn_wide.2 z⟩
  |_=>exact h.elim
 |halt x i=>cases x<;>simp only[Oper.upon]at h<;>first|exact h.elim|exact(j _ _ _ bU h).elim
theorem uX{P : Program}{O : Array Oper}{Q q : Exit → Act → World → Prop}{r : Option Nat}{m : Nat}{ds : List Deferred}(p : O.all jW = true)(c : ∀ e A s, Q e A s → e = .normal ∧ A.defers = [] ∧ q .normal { A with defers := ds } s): ∀(fuel : Nat)(l : Array Bool)(a : Act)(w : World),
    wpAny P .any O Q fuel l a w → a.defers = [] ∧ wpAnyIn (fw r) m P .any O q fuel l { a with defers := ds } w
  | 0, l, a, w, h => ⟨(c _ _ _ h.2).2.1, h.1, (c _ _ _ h.2).2.2⟩
  | fuel + 1, l, a, w, h => by
    have step : ∀ i ∈ Region.ready .any O l, a.defers = [] ∧ wpOpIn (fw r) m P O q i (wpAnyIn (fw r) m P .any O q fuel (l.setIfInBounds i true)) { a with defers := ds } w := λi b => by
      have H := h.2 i b
      have I := uX (P := P) p c (r := r) (m := m) fuel (l.setIfInBounds i true)
      unfold wpOp at H
      unfold wpOpIn
      split at H
      · rename_i g
        simp only [g]
        exact I _ _ H
      · rename_i o g
        have y : jW o = true := by
          rw [Array.all_eq_true] at p
          obtain ⟨x, rfl⟩ := Array.getElem?_eq_some_iff.1 g
          exact p i x
        simp only [g]
        split at H
        · rename_i k
          rw [if_pos k]
          rcases H with H | ⟨_, _, _, d⟩
          · exact M6 y H I (λe A s z d => z (c _ _ _ d).1)
          · exact absurd (c _ _ _ d).1 (by simp)
        · rename_i k
          rw [if_neg k]
          obtain ⟨t, u⟩ := I _ _ H
          rw [Act.put_defers] at t
          have B : ({ a with defers := ds } : Act).put o.dst undef = { (a.put o.dst undef) with defers := ds } := by cases o.dst <;> rfl
          exact ⟨t, λ_ _ => trivial, by rw [B]; exact u⟩
    by_cases j : Region.ready .any O l = []
    · obtain ⟨_, v, d⟩ := c _ _ _ (h.1 j)
      exact ⟨v, λ_ => d, λi b => (step i b).2⟩
    · obtain ⟨i, b⟩ := List.exists_mem_of_ne_nil _ j
      exact ⟨(step i b).1, λe => absurd e j, λi b => (step i b).2⟩
def KL(K:List Nat->Env->ai->Prop)(Q:Exit->List Nat->Env->ai->Prop):Exit->List Nat->Env->ai->Prop
 | .normal=>K
 |e=>Q e
def Tg(b:Bool)(A B:Prop):Prop:=match b with|true=>A|false=>B
def PY(id:Nat)(Q:Exit->List Nat->Env->ai->Prop):Exit->List Nat->Env->ai->Prop
 | .exit i=>λD b h=>Tg (Nat.beq i id) (Q .normal D b h) (Q (.exit i) D b h)
 |e=>Q e
def UB:Exit->List Nat->Env->ai->Prop:=λ_ _ _ _=>False
abbrev KM(h:ai)(l:Nat)(r:Loop):Prop:=h[l]? =some (.loop r)
abbrev ie(h:ai)(l:Nat)(r:Loop):ai:=h.setIfInBounds l (.loop r)
abbrev BJ(h:ai)(r:Loop):ai:=(h.push (.deferred (some []))).push (.loop r)
abbrev Rx:=LoopState->Option Code->Loop
def Th(l:Nat)(rec:Rx)(C:Bool->ai->Prop):Exit->List Nat->Env->ai->Prop
 | .normal,_,_,h=>KM h l (rec .busy none)/\C true (ie h l (rec .ready none))
 | .ret,_,_,h=>KM h l (rec .busy none)/\C false (ie h l (rec .done (some .ret)))
 | .exit i,_,_,h=>KM h l (rec .busy none)/\C false (ie h l (rec .done (some (.exit i))))
 |_,_,_,_=>False
def PZ(b T:ai->Prop)(E:Nat->ai->Prop):Option Code->ai->Prop
 |none,h=>b h
 |some .ret,h=>T h
 |some (.exit i),h=>E i h
 |_,_=>False
def JQ(n:Nat):List Nat->List Value->Env->(Env->Prop)->Prop
 | [], [],b,K=>K b
 |t::T,v::V,b,K=>iN n b (some t) v λc=>JQ n T V c K
 |_,_,_,_=>False
def JR(P:Program)(v:Value)(h:ai)(B:Rx->(Bool->ai->Prop)->List Value->ai->Prop)(J:Option Code->ai->Prop):Prop:=
 ∃G l,v=.func (.func G) #[] l/\mP P G=true/\∀rec:Rx,(∀s p,(rec s p).state=s/\(rec s p).pending=p)->
  (∀args g C,KM g (h.size+1) (rec .ready none)->B rec C args g->ss P (h.size+1) args.toArray g λv d=> ∃b,v=.bool b/\C b d)->
  kL P G (#[.func (.yield (h.size+1)) #[] #[]]++l) (BJ h (rec .ready none)) λ_ g=> ∃S c,S≠ .busy/\KM g (h.size+1) (rec S c)/\J c (ie g (h.size+1) (rec .exhausted c))
def Fc:List Nat->List Nat->Bool
 | [], []=>true
 |x::X,y::b=>Nat.beq x y && Fc X b
 |_,_=>false
theorem DD: ∀{a b:List Nat},Fc a b=true->a=b
 | [], [],_=>rfl
 |x::X,y::c,h=>by
  simp only[Fc,aW]at h;rw[bR h.1,DD h.2]
def oJ(P : Program)(n : Nat)(rd : Bool): ob -> Code -> (Exit -> List Nat -> Env -> ai -> Prop) -> List Nat -> Env -> ai -> Prop
  | .leaf, c, Q, D, e, h => (match c with
    | .skip => Q .normal D e h
    | .label _ => Q .normal D e h
    | .exit id => Q (.exit id) D e h
    | .ret => Q .ret D e h
    | .region _ O false => (match O.all jW with | true => sO P n O [] O.toList e h (Q .normal D) | false => False)
    | _ => False)
  | .typed T, c, Q, D, e, h => (match c with
    | .region _ O false => (match O.all jW with | true => sO P n O T O.toList e h (Q .normal D) | false => False)
    | _ => False)
  | .qT p, c, Q, D, e, h => (match c with
    | .region _ O true => (match (P.follows .mixedOrders && Region.noSelect O && qD p O.size && iL P O p none (Array.replicate O.size false)) && O.all jW with
      | true => iQ P n O p [] e h (Q .normal D)
      | false => False)
    | _ => False)
  | .iZ p, c, Q, D, e, h => (match c with
    | .region _ O true => (match (P.follows .mixedOrders && Region.noSelect O && qD p O.size && iL P O p none (Array.replicate O.size false)) && O.all jW with
      | true => gS P n O p [] [] e h (Q .normal D)
      | false => False)
    | _ => False)
  | .seq a b, c, Q, D, e, h => (match c with
    | .seq c d => oJ P n rd a c (KL (λk j H => oJ P n rd b d Q k j H) Q) D e h
    | _ => False)
  | .cond a b, c, Q, D, e, h => (match c with
    | .cond x c d => (match e.ev x with
      | some (.bool q) => if q = true then oJ P n rd a c Q D e h else oJ P n rd b d Q D e h
      | _ => False)
    | _ => False)
  | .block a, c, Q, D, e, h => (match c with
    | .block id c => oJ P n rd a c (PY id Q) D e h
    | _ => False)
  | .loop L a, c, Q, D, e, h => (match c with
    | .loop c => ∃(I : qB (ai -> Prop) L)(u : qB (ai -> Nat) L), mn False L I e (λf => f h) /\
        KU L (λj => ∀ H, mn False L I j (λf => f H) ->
          oJ P n rd a c (KL (λk y l => k = D /\ mn False L I y (λf => f l) /\ mn 0 L u y (λf => f l) < mn 0 L u j (λf => f H)) Q) D j H) (e.forget (writes c))
    | _ => False)
  | .join L a, c, Q, D, e, h => aG (α := qB (ai -> Prop) L) (Nn L (λj H => Q .normal D j H) (e.forget (writes c)))
      (λJ => oJ P n rd a c (KL (λk j H => k = D /\ mn False L J j (λf => f H)) Q) D e h)
  | .scope z L a b, c, Q, D, e, h => (match c with
    | .rangeFunc g F assign B => (match rd, Fc (L.map (·.1)) F.toList, e.ev g with
      | false, true, some v => JR P v h
          (λrec C args E => JU (L.map (·.2)) λV => args = V /\ JQ n (L.map (·.1)) V e λG =>
            oJ P n true a assign (KL (λA M s => KM s (h.size + 1) (rec .ready none) /\ ∀ t, t = ie s (h.size + 1) (rec .busy none) -> oJ P n true b B (Th (h.size + 1) rec C) A M t) UB) [] G E)
          (PZ (λg => Q .normal (h.size :: D) e g) (λg => Q .ret (h.size :: D) e g) (match z with | 0 => λ_ _ => False | _ => λi g => Q (.exit i) (h.size :: D) e g))
      | _, _, _ => False)
    | _ => False)
def mark(D:Nat):Deferred:= { target:=.collected D,args:= #[] }
def Wq(n:Nat)(a0:Act)(w0:World)(c:List Nat)(Q:Exit->List Nat->Env->ai->Prop):Exit->Act->World->Prop:=
 λe a w=> ∃D b,Rel n b (Act.bare a)/\a.defers=D.map mark/\Q e D b w.heap/\fc w0 w/\eX c (Act.bare a0) (Act.bare a)
theorem qh{b:List Nat}{Q:Exit->List Nat->Env->ai->Prop}{D:List Nat}(j:a0.defers=D.map mark){e:Exit}(h:TA n a0 w0 b (Q .normal D) e a w):Wq n a0 w0 b Q e a w:=by
 obtain⟨rfl,k,H,c,d,g,i⟩:=h;exact⟨D,k,H,i.trans j,c,d,g⟩
theorem BK(w:World)(o:Obj):fc w (w.alloc o):=⟨rfl,rfl,rfl⟩
theorem wB(w:World)(l:Nat)(o:Obj):fc w (w.putObj l o):=⟨rfl,rfl,rfl⟩
theorem DE{K:Env->Prop}: ∀(T:List Nat)(V:List Value)(b:Env)(c:Array Value),Rel n b { tmps:=c,defers:= [] } ->JQ n T V b K->
  T.length=V.length/\∃d,Rel n d { tmps:=(T.zip V).foldl (λt (p,v)=>t.setIfInBounds p v) c,defers:= [] } /\K d
 | [], [],b,c,H,h=>⟨rfl,b,H,h⟩
 |t::T,v::V,b,c,H,h=>by
  obtain⟨d,j,e⟩:=iH H h;obtain⟨g,i⟩:=DE T V d _ j e;exact⟨by simp[g],i⟩
 | [],_::_,_,_,_,h=>h.elim
 |_::_, [],_,_,_,h=>h.elim
theorem lX {P : Program} {n : Nat} : ∀ (U1 : ob) (rd : Option Nat) (m : Nat) (c : Code) (Q : Exit → List Nat → Env → ai → Prop) (D : List Nat) (σ : Env) (a : Act) (w : World), Rel n σ (Act.bare a) → a.defers = D.map mark →
    oJ P n rd.isSome U1 c Q D σ w.heap → c.wpIn (fw rd) m P (Wq n a w (writes c) Q) a w
  | .leaf, rd, m, c, Q, D, σ, a, w, hr, hd, h => by
    unfold oJ at h
    split at h
    · exact wpIn_skip ⟨D, σ, hr, hd, h, fc.refl w, eX.refl _ _⟩
    · exact wpIn_label ⟨D, σ, hr, hd, h, fc.refl w, eX.refl _ _⟩
    · exact wpIn_exit ⟨D, σ, hr, hd, h, fc.refl w, eX.refl _ _⟩
    · exact wpIn_ret ⟨D, σ, hr, hd, h, fc.refl w, eX.refl _ _⟩
    · rename_i id ops
      split at h
      · rename_i nd
        refine wpIn_mono (wpIn_region (Q := TA n a w (cF ops) (Q .normal D)) ?_) (λe a' w' hq => qh hd hq)
        have := qg (a0 := a) (w0 := w) (r := rd) (m := m) nd ops.toList 0 σ a w (by simp) hr (fc.refl w) (eX.refl _ _) rfl h
        rw [List.range_eq_range']
        simpa using this
      · exact h.elim
    · exact h.elim
  | .typed ty, rd, m, c, Q, D, σ, a, w, hr, hd, h => by
    unfold oJ at h
    split at h
    · rename_i id ops
      split at h
      · rename_i nd
        refine wpIn_mono (wpIn_region (Q := TA n a w (cF ops) (Q .normal D)) ?_) (λe a' w' hq => qh hd hq)
        have := qg (a0 := a) (w0 := w) (r := rd) (m := m) nd ops.toList 0 σ a w (by simp) hr (fc.refl w) (eX.refl _ _) rfl h
        rw [List.range_eq_range']
        simpa using this
      · exact h.elim
    · exact h.elim
  | .qT p, rd, m, c, Q, D, σ, a, w, hr, hd, h => by
    unfold oJ at h
    split at h
    · rename_i id ops
      split at h
      · rename_i hb
        simp only [Bool.and_eq_true] at hb
        obtain ⟨⟨⟨⟨h1, h2⟩, h3⟩, h4⟩, nd⟩ := hb
        refine wpIn_mono (wpIn_region_any (Q := TA n a w (cF ops) (Q .normal D)) h1 ?_) (λe a' w' hq => qh hd hq)
        have := (vi (a0 := Act.bare a) (w0 := w) h2 p).1 ops.size (Array.replicate ops.size false) [] σ (Act.bare a) { w with drawn := w.drawn + 1 } h3 h4 hr ⟨rfl, rfl, rfl⟩ (eX.refl _ _) (λ_ hm => by cases hm) h
        refine (uX (ds := a.defers) nd (λe a' w' hq => ?_) _ _ _ _ (lJ _ _ _ _ _ this)).2
        obtain ⟨rfl, HS, DN, hk, hs, hu⟩ := hq
        have e : ({ ({ a' with defers := a.defers } : Act) with defers := [] } : Act) = a' := by
          obtain ⟨t, d⟩ := a'
          have : d = [] := DN.defers
          rw [this]
        exact ⟨rfl, DN.defers, rfl, HS, by show Rel n HS _; rw [show Act.bare { a' with defers := a.defers } = a' from e]; exact DN, hk, hs, by rw [show Act.bare { a' with defers := a.defers } = a' from e]; exact hu, rfl⟩
      · exact h.elim
    · exact h.elim
  | .iZ p, rd, m, c, Q, D, σ, a, w, hr, hd, h => by
    unfold oJ at h
    split at h
    · rename_i id ops
      split at h
      · rename_i hb
        simp only [Bool.and_eq_true] at hb
        obtain ⟨⟨⟨⟨h1, h2⟩, h3⟩, h4⟩, nd⟩ := hb
        refine wpIn_mono (wpIn_region_any (Q := TA n a w (cF ops) (Q .normal D)) h1 ?_) (λe a' w' hq => qh hd hq)
        have := (tT (a0 := Act.bare a) (w0 := w) h2 p).1 ops.size (Array.replicate ops.size false) [] [] [] σ (Act.bare a) { w with drawn := w.drawn + 1 } h3 h4 hr ⟨rfl, rfl, rfl⟩ (eX.refl _ _) (λ_ hm => by cases hm) (λ_ hm => by cases hm) h
        refine (uX (ds := a.defers) nd (λe a' w' hq => ?_) _ _ _ _ (lJ _ _ _ _ _ this)).2
        obtain ⟨rfl, HS, DN, hk, hs, hu⟩ := hq
        have e : ({ ({ a' with defers := a.defers } : Act) with defers := [] } : Act) = a' := by
          obtain ⟨t, d⟩ := a'
          have : d = [] := DN.defers
          rw [this]
        exact ⟨rfl, DN.defers, rfl, HS, by show Rel n HS _; rw [show Act.bare { a' with defers := a.defers } = a' from e]; exact DN, hk, hs, by rw [show Act.bare { a' with defers := a.defers } = a' from e]; exact hu, rfl⟩
      · exact h.elim
    · exact h.elim
  | .seq x y, rd, m, c, Q, D, σ, a, w, hr, hd, h => by
    unfold oJ at h
    split at h
    · rename_i c d
      refine wpIn_seq (wpIn_mono (lX x rd m c _ D σ a w hr hd h) ?_)
      rintro e a' w' ⟨D', nT, oK, tJ, hq, hs, hu⟩
      have hW : ∀ t, t ∈ writes c → t ∈ writes (.seq c d) := λt ht => List.mem_append_left _ ht
      cases e with
      | normal =>
        refine wpIn_mono (lX y rd m d Q D' nT a' w' oK tJ hq) ?_
        rintro e2 a2 w2 ⟨D2, VT, VU, VV, WZ, VW, W0⟩
        exact ⟨D2, VT, VU, VV, WZ, hs.trans VW, (hu.mono hW).trans (W0.mono λt ht => List.mem_append_right _ ht)⟩
      | exit id => exact ⟨D', nT, oK, tJ, hq, hs, hu.mono hW⟩
      | goto l => exact ⟨D', nT, oK, tJ, hq, hs, hu.mono hW⟩
      | ret => exact ⟨D', nT, oK, tJ, hq, hs, hu.mono hW⟩
      | panic ch => exact ⟨D', nT, oK, tJ, hq, hs, hu.mono hW⟩
      | outgrown => exact ⟨D', nT, oK, tJ, hq, hs, hu.mono hW⟩
    · exact h.elim
  | .cond x y, rd, m, c, Q, D, σ, a, w, hr, hd, h => by
    unfold oJ at h
    split at h
    · rename_i k c d
      split at h
      · rename_i q hq
        have he : a.eval k = .bool q := hr.fits _ _ hq
        split at h
        · rename_i ht
          subst ht
          refine wpIn_cond_true he (wpIn_mono (lX x rd m c Q D σ a w hr hd h) ?_)
          rintro e a' w' ⟨D', nT, oK, tJ, hq, hs, hu⟩
          exact ⟨D', nT, oK, tJ, hq, hs, hu.mono λt ht => List.mem_append_left _ ht⟩
        · rename_i ht
          have ht : q = false := by simpa using ht
          subst ht
          refine wpIn_cond_false he (wpIn_mono (lX y rd m d Q D σ a w hr hd h) ?_)
          rintro e a' w' ⟨D', nT, oK, tJ, hq, hs, hu⟩
          exact ⟨D', nT, oK, tJ, hq, hs, hu.mono λt ht => List.mem_append_right _ ht⟩
      · exact h.elim
    · exact h.elim
  | .block x, rd, m, c, Q, D, σ, a, w, hr, hd, h => by
    unfold oJ at h
    split at h
    · rename_i id c
      refine wpIn_block (wpIn_mono (lX x rd m c _ D σ a w hr hd h) ?_)
      rintro e a' w' ⟨D', nT, oK, tJ, hq, hs, hu⟩
      cases e with
      | exit VX =>
        simp only [Exit.inBlock]
        simp only [PY, Tg] at hq
        by_cases hid : VX = id
        · subst hid
          simp only [Nat.beq_refl] at hq
          rw [if_pos rfl]; exact ⟨D', nT, oK, tJ, hq, hs, hu⟩
        · rw [if_neg hid]
          have : Nat.beq VX id = false := by cases hb : Nat.beq VX id; rfl; exact absurd (Nat.eq_of_beq_eq_true hb) hid
          rw [this] at hq
          exact ⟨D', nT, oK, tJ, hq, hs, hu⟩
      | normal => exact ⟨D', nT, oK, tJ, hq, hs, hu⟩
      | goto l => exact ⟨D', nT, oK, tJ, hq, hs, hu⟩
      | ret => exact ⟨D', nT, oK, tJ, hq, hs, hu⟩
      | panic ch => exact ⟨D', nT, oK, tJ, hq, hs, hu⟩
      | outgrown => exact ⟨D', nT, oK, tJ, hq, hs, hu⟩
    · exact h.elim
  | .loop L x, rd, m, c, Q, D, σ, a, w, hr, hd, h => by
    unfold oJ at h
    split at h
    · rename_i c
      obtain ⟨I, μ, h0, UC⟩ := h
      refine wpIn_loop (λa' w' => ∃ nT, Rel n nT (Act.bare a') ∧ a'.defers = D.map mark ∧ mn False L I nT (λf => f w'.heap) ∧ fc w w' ∧ eX (writes c) (Act.bare a) (Act.bare a'))
        (λa' w' => mn 0 L μ (qU a') (λf => f w'.heap)) ⟨σ, hr, hd, h0, fc.refl w, eX.refl _ _⟩ ?_
      rintro a' w' ⟨nT, oK, tJ, hI, hs, hu⟩
      obtain ⟨Ry, hF, Ti, hL, _⟩ := ve L _ I UC hI
      have UD := Rel.pJ hr oK hu Ti
      have UE : mn False L I Ry (λf => f w'.heap) := by rw [mV L I hL]; exact hI
      have W1 := hF w'.heap UE
      refine wpIn_mono (lX x rd m c _ D Ry a' w' UD tJ W1) ?_
      rintro e a1 w1 ⟨D1, HS, DN, TC, hq, TD, TE⟩
      have ev : ∀ b : Act, qU (Act.bare b) = qU b := λ_ => rfl
      cases e with
      | normal =>
        obtain ⟨rfl, Ws, W2⟩ := hq
        refine ⟨⟨HS, DN, TC, Ws, hs.trans TD, hu.trans TE⟩, ?_⟩
        rw [← ev a1, ← ev a', kC DN (mQ L I Ws), kC UD (mQ L I UE)]
        exact W2
      | exit id => exact ⟨D1, HS, DN, TC, hq, hs.trans TD, hu.trans TE⟩
      | goto l => exact ⟨D1, HS, DN, TC, hq, hs.trans TD, hu.trans TE⟩
      | ret => exact ⟨D1, HS, DN, TC, hq, hs.trans TD, hu.trans TE⟩
      | panic ch => exact ⟨D1, HS, DN, TC, hq, hs.trans TD, hu.trans TE⟩
      | outgrown => exact ⟨D1, HS, DN, TC, hq, hs.trans TD, hu.trans TE⟩
    · exact h.elim
  | .join L x, rd, m, c, Q, D, σ, a, w, hr, hd, h => by
    unfold oJ at h
    unfold aG at h
    refine wpIn_mono (lX x rd m c _ D σ a w hr hd h) ?_
    rintro e a' w' ⟨D', nT, oK, tJ, hq, hs, hu⟩
    cases e with
    | normal =>
      obtain ⟨rfl, hq⟩ := hq
      obtain ⟨Ry, hQ, Ti⟩ := vd L _ hq
      exact ⟨D', Ry, Rel.pJ hr oK hu Ti, tJ, hQ, hs, hu⟩
    | exit id => exact ⟨D', nT, oK, tJ, hq, hs, hu⟩
    | goto l => exact ⟨D', nT, oK, tJ, hq, hs, hu⟩
    | ret => exact ⟨D', nT, oK, tJ, hq, hs, hu⟩
    | panic ch => exact ⟨D', nT, oK, tJ, hq, hs, hu⟩
    | outgrown => exact ⟨D', nT, oK, tJ, hq, hs, hu⟩
  | .scope z L x y, rd, m, c, Q, D, σ, a, w, hr, hd, h => by
    unfold oJ at h
    split at h
    · rename_i g ps assign body
      split at h
      · rename_i v VY UU hg
        have VY : rd = none := by cases rd with | none => rfl | some _ => cases VY
        subst VY
        have UU := DD UU
        obtain ⟨gf, lb, rfl, hb, hc⟩ := h
        have UW : a.eval g = .func (.func gf) #[] lb := hr.fits _ _ hg
        refine wpIn_rangeFunc λfn _ => ?_
        obtain ⟨rec, zT⟩ : ∃ rec : Rx, rec = λs p => { state := s, pending := p, fn, tmps := a.tmps, params := ps, assign, body, defers := w.heap.size } := ⟨_, rfl⟩
        have UF := hc rec (λs p => by rw [zT]; exact ⟨rfl, rfl⟩) ?round
        case round =>
          intro args g1 C UX hB w1 W3
          subst W3
          obtain ⟨vs, rfl, VZ⟩ := uc hB
          obtain ⟨hlen, HS, DN, V1⟩ := DE _ _ σ a.tmps hr VZ
          have W4 : args.toArray.size = ps.size := by rw [← Array.length_toList (xs := ps), ← UU, hlen]; simp
          refine ⟨fn, (ps.zip args.toArray).foldl (λtmps (t, a) => tmps.setIfInBounds t a) a.tmps, assign, body, ?_, λr m2 => ?_⟩
          · rw [zT] at UX
            exact run_yield UX W4
          have W5 : (ps.zip args.toArray).foldl (λtmps (t, a) => tmps.setIfInBounds t a) a.tmps = ((L.map (·.1)).zip args).foldl (λt (p, v) => t.setIfInBounds p v) a.tmps := by
            rw [UU, ← Array.foldl_toList, Array.toList_zip]
          refine roundIn_of_wpIn (F := fw r) trivial ?_
          rw [W5]
          refine wpIn_mono (lX x (some (w.heap.size + 1)) m2 assign _ [] HS { tmps := ((L.map (·.1)).zip args).foldl (λt (p, v) => t.setIfInBounds p v) a.tmps, defers := [] } w1 DN rfl V1) ?_
          rintro e a2 w2 ⟨D2, VT, VU, VV, hq, VW, _⟩
          cases e with
          | normal =>
            obtain ⟨V2, UG⟩ := hq
            have VN : (rec .ready none).state = .ready := by rw [zT]
            have e2 : ({ (rec .ready none) with state := .busy } : Loop) = rec .busy none := by rw [zT]
            refine ⟨w2.putObj (w.heap.size + 1) (.loop (rec .busy none)), by rw [← e2]; exact run_beginRound V2 VN, ?_⟩
            refine wpIn_mono (lX y (some (w.heap.size + 1)) m2 body _ D2 VT a2 (w2.putObj (w.heap.size + 1) (.loop (rec .busy none))) VU VV (UG _ rfl)) ?_
            rintro e3 a3 w3 ⟨D3, Xl, Xm, Xn, Rz, W6, _⟩
            have UH : ∀ o, fc w1 (w3.putObj (w.heap.size + 1) o) := λo => VW.trans ((wB _ _ _).trans (W6.trans (wB _ _ _)))
            have fin : ∀ (j : Option Code), KM w3.heap (w.heap.size + 1) (rec .busy none) → C j.isNone (ie w3.heap (w.heap.size + 1) (rec (if j.isNone then .ready else .done) j)) →
                ∃ v w', (Instr.endRound (w.heap.size + 1) j).run P w3 = .ok v w' ∧ ∃ v', Ending.returned v = .returned v' ∧ (∃ b, v' = .bool b ∧ C b w'.heap) ∧ fc w1 w' := λj V3 hC => by
              have e5 : ({ (rec .busy none) with state := if j.isNone then .ready else .done, pending := j } : Loop) = rec (if j.isNone then .ready else .done) j := by rw [zT]
              refine ⟨_, _, run_endRound j V3, _, rfl, ⟨_, rfl, ?_⟩, UH _⟩
              rw [e5]; exact hC
            cases e3 with
            | normal => exact fin none Rz.1 Rz.2
            | ret => exact fin (some .ret) Rz.1 Rz.2
            | exit i => exact fin (some (.exit i)) Rz.1 Rz.2
            | goto t => exact Rz.elim
            | panic ch => exact Rz.elim
            | outgrown => exact Rz.elim
          | exit id => exact hq.elim
          | goto l => exact hq.elim
          | ret => exact hq.elim
          | panic ch => exact hq.elim
          | outgrown => exact hq.elim
        have Tj : (callFunc gf (#[.func (.yield (w.heap.size + 1)) #[] #[]] ++ lb)).run P ((w.alloc (.deferred (some []))).alloc (.loop (rec .ready none))) = .ok (.enter gf (#[.func (.yield (w.heap.size + 1)) #[] #[]] ++ lb)) ((w.alloc (.deferred (some []))).alloc (.loop (rec .ready none))) := by
          unfold mP at hb
          split at hb
          · rename_i UY V4
            simp only [Bool.and_eq_true, Bool.not_eq_true'] at hb
            have hn : UY.body.isNone = false := by cases hq : UY.body <;> simp [hq] at hb ⊢
            unfold callFunc
            have h1 : ¬ UY.name = "runtime.NumGoroutine" := λe => by have := hb.2; rw [e] at this; cases this
            have h2 : ¬ UY.body = none := λe => by rw [e] at hn; cases hn
            simp [go_sem, V4, h1, h2]
          · cases hb
        refine ⟨w.heap.size + 1, [{ target := .collected w.heap.size, args := #[] }], (w.alloc (.deferred (some []))).alloc (.loop (rec .ready none)), { target := .fn (.func gf) lb, args := #[.func (.yield (w.heap.size + 1)) #[] #[]] }, (w.alloc (.deferred (some []))).alloc (.loop (rec .ready none)), gf, #[.func (.yield (w.heap.size + 1)) #[] #[]] ++ lb, (w.alloc (.deferred (some []))).alloc (.loop (rec .ready none)), ?_, ?_, λ_ _ => trivial, by simp only [invoke]; exact Tj, sr, ?_⟩
        · rw [zT]; exact run_enterLoop_outer fn a.tmps ps assign body
        · simp only [resolve, UW]
          simp [go_sem]
        · refine CallsIn.mono (BI (UF _ rfl)) ?_
          rintro e w3 ⟨v, rfl, ⟨st, pe, W7, UX, hJ⟩, hs⟩
          have TM : fc w w3 := (BK w _).trans ((BK _ _).trans hs)
          have e5 : ({ (rec st pe) with state := .exhausted } : Loop) = rec .exhausted pe := by rw [zT]
          refine ⟨(rec st pe).pending, _, run_endLoop UX (by rw [zT]; exact W7), ?_⟩
          rw [e5, show (rec st pe).pending = pe by rw [zT]]
          have UH : fc w (w3.putObj (w.heap.size + 1) (.loop (rec .exhausted pe))) := TM.trans (wB _ _ _)
          have tJ : ([{ target := .collected w.heap.size, args := #[] }] : List Deferred) ++ a.defers = (w.heap.size :: D).map mark := by rw [hd]; rfl
          cases pe with
          | none => exact ⟨w.heap.size :: D, σ, hr, tJ, hJ, UH, eX.refl _ _⟩
          | some c =>
            cases c with
            | ret => exact wpIn_ret ⟨w.heap.size :: D, σ, hr, tJ, hJ, UH, eX.refl _ _⟩
            | exit i =>
              cases z with
              | zero => exact hJ.elim
              | succ z => exact wpIn_exit ⟨w.heap.size :: D, σ, hr, tJ, hJ, UH, eX.refl _ _⟩
            | _ => exact hJ.elim
      · exact h.elim
    · exact h.elim
def wC:List Nat->ai->(ai->Prop)->Prop
 | [],h,K=>K h
 |d::D,h,K=>h[d]? =some (.deferred (some []))/\wC D (h.setIfInBounds d (.deferred none)) K
def V5(P:Program)(c:Array ResultVar)(R:fO):Exit->List Nat->Env->ai->Prop
 | .normal,D,b,h=>wC D h λH=>qE P c.toList b H λv=>R (qV v) H
 | .ret,D,b,h=>wC D h λH=>qE P c.toList b H λv=>R (qV v) H
 |_,_,_,_=>False
theorem xO{t:Array Value}{i:Env}(c:Rel n i { tmps:=t,defers:= [] }): ∀(D:List Nat)(w:World),fc w0 w->
  wC D w.heap (λb=>qE P fn.results.toList i b λV=>R (qV V) b)->
  LeavesInM (fw none) m P fn t (λe g=> ∃v,e=.returned v/\R v g.heap/\fc w0 g) (D.map mark) .returning w
 | [],w,H,h=>by
  obtain⟨v,j,k⟩:=pL (F:=λv=>R v w.heap) c h;exact⟨v,pE _ _ _ k,v,rfl,j,H⟩
 |d::D,w,H,h=>⟨bU,.inl ⟨d,w.putObj d (.deferred none),rfl,run_takeDeferred h.1,xO c D _ (H.trans (wB _ _ _)) h.2⟩⟩
theorem mH{args:List Value}{h:ai}(A:ob)(u:P.funcs[f]? =some fn)(s:fn.body.isSome=true)(k:Nat.ble args.length fn.ntmps=true)(i:oJ P fn.ntmps false A (nh fn) (V5 P fn.results R) [] (ks args) h):kL P f args.toArray h R:=by
 obtain⟨c,g⟩:=dH.1 s;rw[nh,g]at i;intro w y;subst y;have k:=Nat.le_of_ble_eq_true k;refine(callsIn_wide (n:=0)).1 (callsIn_of_wp_marks (F:=fw none) u g trivial ?_);have b:Rel fn.ntmps (ks args) { tmps:=args.toArray++Array.replicate (fn.ntmps - args.toArray.size) undef,defers:= [] } :=by
  refine⟨rfl,by simp;omega,λt v d=> ?_⟩;unfold ks at d;have x:t<args.length:=(az.1 d).1;simp only[eM];rw[dC (cR x)];simp[d]
 refine wpIn_mono (lX A none 0 c _ [] _ { tmps:=args.toArray++Array.replicate (fn.ntmps - args.toArray.size) undef,defers:= [] } w b rfl i) ?_;rintro e a q ⟨D,z,b,j,H,p,_⟩;cases e with
 |normal=>show LeavesInM _ _ _ _ _ _ a.defers _ _;rw[j];exact xO b D q p H
 |ret=>show LeavesInM _ _ _ _ _ _ a.defers _ _;rw[j];exact xO b D q p H
 |exit id=>exact H.elim
 |goto l=>exact H.elim
 |panic C=>exact H.elim
 |outgrown=>exact H.elim

end
end Go.Den
namespace Go.Proofs.YtkdgpmeojgokdaaGreatDoor
open Go.Den
open IntKind (wrap)
open Int (toNat)
section
variable {h:ai} {R:fO}
variable {c a:ct} {s d L b:Nat} {self:aw.S}
structure aO.S where
 f0:Int
 f1:Int
 f2:Int
 f3:Int
 f4:Int
 f5:Int
 f6:Bool
 f7:Int
 f8:Int
 f9:ByteArray
 f10:ByteArray
 f11:Bool
 f12:Int
 f13:Int
 f14:ByteArray
 f15:ByteArray
 f16:Int
 f17:Int
 f18:Int
 FZ:ct
 F0:Nat
 Ga:Nat
 f20:Int
 f21:Int
 f22:Bool
 Gb:ct
 Gc:Nat
 Gd:Nat
 f24:Int
 f25:Int
 f26:Int
 f27:Int
 f28:Int
 RA:ct
 RB:Nat
 RC:Nat
 f30:Bool
 f31:Bool
abbrev aO.S.l(x:aO.S):List Value:= [.int .u64 x.f0,.int .i64 x.f1,.int .u64 x.f2,.int .i64 x.f3,.int .u64 x.f4,.int .i64 x.f5,.bool x.f6,.int .u64 x.f7,.int .u64 x.f8,.string x.f9,.string x.f10,.bool x.f11,.int .u64 x.f12,.int .u64 x.f13,.string x.f14,.string x.f15,.int .i64 x.f16,.int .i64 x.f17,.int .i64 x.f18,.slice x.FZ x.F0 x.Ga,.int .u64 x.f20,.int .u64 x.f21,.bool x.f22,.slice x.Gb x.Gc x.Gd,.int .u64 x.f24,.int .i64 x.f25,.int .i64 x.f26,.int .i64 x.f27,.int .u64 x.f28,.slice x.RA x.RB x.RC,.bool x.f30,.bool x.f31]
abbrev aO.S.arr(x:aO.S):Array Value:= #[.int .u64 x.f0,.int .i64 x.f1,.int .u64 x.f2,.int .i64 x.f3,.int .u64 x.f4,.int .i64 x.f5,.bool x.f6,.int .u64 x.f7,.int .u64 x.f8,.string x.f9,.string x.f10,.bool x.f11,.int .u64 x.f12,.int .u64 x.f13,.string x.f14,.string x.f15,.int .i64 x.f16,.int .i64 x.f17,.int .i64 x.f18,.slice x.FZ x.F0 x.Ga,.int .u64 x.f20,.int .u64 x.f21,.bool x.f22,.slice x.Gb x.Gc x.Gd,.int .u64 x.f24,.int .i64 x.f25,.int .i64 x.f26,.int .i64 x.f27,.int .u64 x.f28,.slice x.RA x.RB x.RC,.bool x.f30,.bool x.f31]
abbrev aO.S.agg(x:aO.S):Value:=.agg #[.int .u64 x.f0,.int .i64 x.f1,.int .u64 x.f2,.int .i64 x.f3,.int .u64 x.f4,.int .i64 x.f5,.bool x.f6,.int .u64 x.f7,.int .u64 x.f8,.string x.f9,.string x.f10,.bool x.f11,.int .u64 x.f12,.int .u64 x.f13,.string x.f14,.string x.f15,.int .i64 x.f16,.int .i64 x.f17,.int .i64 x.f18,.slice x.FZ x.F0 x.Ga,.int .u64 x.f20,.int .u64 x.f21,.bool x.f22,.slice x.Gb x.Gc x.Gd,.int .u64 x.f24,.int .i64 x.f25,.int .i64 x.f26,.int .i64 x.f27,.int .u64 x.f28,.slice x.RA x.RB x.RC,.bool x.f30,.bool x.f31]
abbrev aO.S.z:aO.S:=⟨0,0,0,0,0,0,false,0,0,(⟨#[]⟩:ByteArray),(⟨#[]⟩:ByteArray),false,0,0,(⟨#[]⟩:ByteArray),(⟨#[]⟩:ByteArray),0,0,0,none,0,0,0,0,false,none,0,0,0,0,0,0,0,none,0,0,false,false⟩
abbrev aO.EX(K:aO.S->Prop):Prop:= ∃(t:Int),∃(T:Int),∃(r:Int),∃(J:Int),∃(P:Int),∃(Q:Int),∃(S:Bool),∃(U:Int),∃(V:Int),∃(X:ByteArray),∃(e:ByteArray),∃(f:Bool),∃(g:Int),∃(i:Int),∃(j:ByteArray),∃(k:ByteArray),∃(l:Int),∃(m:Int),∃(n:Int),∃(q:ct)(p o:Nat),∃(u:Int),∃(v:Int),∃(w:Bool),∃(A:ct)(z y:Nat),∃(B:Int),∃(C:Int),∃(D:Int),∃(E:Int),∃(F:Int),∃(I:ct)(H G:Nat),∃(M:Bool),∃(O:Bool),K ⟨t,T,r,J,P,Q,S,U,V,X,e,f,g,i,j,k,l,m,n,q,p,o,u,v,w,A,z,y,B,C,D,E,F,I,H,G,M,O⟩
abbrev aO.cC(h:ai)(A:Addr)(K:aO.S->Prop):Prop:= ∃(t:Int),aU h A=some (.int .u64 t)/\∃(T:Int),aU h (A.add 1)=some (.int .i64 T)/\∃(r:Int),aU h (A.add 2)=some (.int .u64 r)/\∃(M:Int),aU h (A.add 3)=some (.int .i64 M)/\∃(Q:Int),aU h (A.add 4)=some (.int .u64 Q)/\∃(S:Int),aU h (A.add 5)=some (.int .i64 S)/\∃(U:Bool),aU h (A.add 6)=some (.bool U)/\∃(V:Int),aU h (A.add 7)=some (.int .u64 V)/\∃(X:Int),aU h (A.add 8)=some (.int .u64 X)/\∃(Z:ByteArray),aU h (A.add 9)=some (.string Z)/\∃(e:ByteArray),aU h (A.add 10)=some (.string e)/\∃(f:Bool),aU h (A.add 11)=some (.bool f)/\∃(g:Int),aU h (A.add 12)=some (.int .u64 g)/\∃(i:Int),aU h (A.add 13)=some (.int .u64 i)/\∃(j:ByteArray),aU h (A.add 14)=some (.string j)/\∃(k:ByteArray),aU h (A.add 15)=some (.string k)/\∃(l:Int),aU h (A.add 16)=some (.int .i64 l)/\∃(m:Int),aU h (A.add 17)=some (.int .i64 m)/\∃(n:Int),aU h (A.add 18)=some (.int .i64 n)/\∃(q:ct)(p o:Nat),aU h (A.add 19)=some (.slice q p o)/\∃(u:Int),aU h (A.add 20)=some (.int .u64 u)/\∃(v:Int),aU h (A.add 21)=some (.int .u64 v)/\∃(w:Bool),aU h (A.add 22)=some (.bool w)/\∃(B:ct)(z y:Nat),aU h (A.add 23)=some (.slice B z y)/\∃(C:Int),aU h (A.add 24)=some (.int .u64 C)/\∃(D:Int),aU h (A.add 25)=some (.int .i64 D)/\∃(E:Int),aU h (A.add 26)=some (.int .i64 E)/\∃(F:Int),aU h (A.add 27)=some (.int .i64 F)/\∃(G:Int),aU h (A.add 28)=some (.int .u64 G)/\∃(J:ct)(I H:Nat),aU h (A.add 29)=some (.slice J I H)/\∃(O:Bool),aU h (A.add 30)=some (.bool O)/\∃(P:Bool),aU h (A.add 31)=some (.bool P)/\K ⟨t,T,r,M,Q,S,U,V,X,Z,e,f,g,i,j,k,l,m,n,q,p,o,u,v,w,B,z,y,C,D,E,F,G,J,I,H,O,P⟩
abbrev aO.du(h:ai)(A:Addr)(x:aO.S)(K:ai->Prop):Prop:=aJ h A (.int .u64 x.f0) λH=>aJ H (A.add 1) (.int .i64 x.f1) λp=>aJ p (A.add 2) (.int .u64 x.f2) λD=>aJ D (A.add 3) (.int .i64 x.f3) λI=>aJ I (A.add 4) (.int .u64 x.f4) λJ=>aJ J (A.add 5) (.int .i64 x.f5) λM=>aJ M (A.add 6) (.bool x.f6) λO=>aJ O (A.add 7) (.int .u64 x.f7) λP=>aJ P (A.add 8) (.int .u64 x.f8) λQ=>aJ Q (A.add 9) (.string x.f9) λe=>aJ e (A.add 10) (.string x.f10) λf=>aJ f (A.add 11) (.bool x.f11) λg=>aJ g (A.add 12) (.int .u64 x.f12) λi=>aJ i (A.add 13) (.int .u64 x.f13) λj=>aJ j (A.add 14) (.string x.f14) λk=>aJ k (A.add 15) (.string x.f15) λl=>aJ l (A.add 16) (.int .i64 x.f16) λm=>aJ m (A.add 17) (.int .i64 x.f17) λn=>aJ n (A.add 18) (.int .i64 x.f18) λo=>aJ o (A.add 19) (.slice x.FZ x.F0 x.Ga) λq=>aJ q (A.add 20) (.int .u64 x.f20) λr=>aJ r (A.add 21) (.int .u64 x.f21) λt=>aJ t (A.add 22) (.bool x.f22) λu=>aJ u (A.add 23) (.slice x.Gb x.Gc x.Gd) λv=>aJ v (A.add 24) (.int .u64 x.f24) λw=>aJ w (A.add 25) (.int .i64 x.f25) λy=>aJ y (A.add 26) (.int .i64 x.f26) λz=>aJ z (A.add 27) (.int .i64 x.f27) λB=>aJ B (A.add 28) (.int .u64 x.f28) λC=>aJ C (A.add 29) (.slice x.RA x.RB x.RC) λE=>aJ E (A.add 30) (.bool x.f30) λF=>aJ F (A.add 31) (.bool x.f31) λG=>K G
abbrev aO.fD(h:ai)(B:Nat)(x:aO.S):Prop:=h[B]? =some (.cells x.arr 44 (0,0))
theorem aO.ex{K:aO.S->Prop}(x:aO.S)(H:K x):aO.EX K:=⟨_,_,_,_,_,_,_,_,_,_,_,_,_,_,_,_,_,_,_,_,_,_,_,_,_,_,_,_,_,_,_,_,_,_,_,_,_,_,H⟩
theorem aO.fz{B:Nat}{x:aO.S}{K:aO.S->Prop}(H:aO.fD h B x)(e:K x):aO.cC h (AA B 0) K:=
 ⟨_,au H,_,au H,_,au H,_,au H,_,au H,_,au H,_,au H,_,au H,_,au H,_,au H,_,au H,_,au H,_,au H,_,au H,_,au H,_,au H,_,au H,_,au H,_,au H,_,_,_,au H,_,au H,_,au H,_,au H,_,_,_,au H,_,au H,_,au H,_,au H,_,au H,_,au H,_,_,_,au H,_,au H,_,au H,e⟩
theorem aO.jQ{A:Addr}{x:aO.S}{K:aO.S->Prop}(H:dN A x.l 0 h)(e:K x):aO.cC h A K:=by
 obtain⟨q,Q,r,F,J,M,O,P,S,T,f,g,i,j,k,l,m,n,o,p,t,u,v,w,y,z,B,C,D,E,G,I,_⟩:=H;rw[fy]at q;exact⟨_,q,_,Q,_,r,_,F,_,J,_,M,_,O,_,P,_,S,_,T,_,f,_,g,_,i,_,j,_,k,_,l,_,m,_,n,_,o,_,_,_,p,_,t,_,u,_,v,_,_,_,w,_,y,_,z,_,B,_,C,_,D,_,_,_,E,_,G,_,I,e⟩
theorem aO.fK{x:aO.S}{K:Nat->ai->Prop}(f: ∀B H,B=h.size->aO.fD H B x->Fr No h H->K B H):bf h (.C aO.S.z.arr 44) λB e=>aO.du e (AA B 0) x (K B):=
 gz (vs:=x.l) rfl rfl f
theorem aO.cW{x:aO.S}{K:Nat->ai->Prop}(f: ∀B H,B=h.size->aO.fD H B x->Fr No h H->K B H):bf h (.C x.arr 44) λB e=>K B e:=
 cT (f _ _ rfl bZ (Fr.push _ _))
variable {K:aO.S->Prop} {x:aO.S}
theorem Cy.walk(e:bf h (.C x.arr 44) λB H=> ∃t,Cc H B 30 (.B t)/\if t then∃T,Cc H B 31 (.B T)/\R (.B T) H else R (.B false) H):Cl 50 #[x.agg] h R:=aS [] Tryz.func50 e
theorem jk.UI.walk(f: ∃(I:Int->ai->Prop)(m:Int->ai->Nat),I 0 h/\∀(t:Int)(H:ai),I t H->if(decide (t<(s:Int)))then Bd t s/\aN c λA=>aO.cC H (A.add (toNat t*32)) λg=>Cl 50 #[g.agg] H λv e=> ∃T,v=.B T/\if T then R (.I t) e else(I (wrap .i64 (t+1)) e/\m (wrap .i64 (t+1)) e<m t H)else R (.I (-1)) H):Cl 49 #[.L c s d,.func (.func 50) #[] #[]] h R:=aS [(6,.loop [(8,.one (.int .i64))])] Tryz.func49 f
theorem HN.walk(e:Cl 49 #[.L a L b,.func (.func 50) #[] #[]] h λv H=> ∃t,v=.I t/\if(decide (t<0))then R (.I (L:Int)) H else R (.I t) H):Cl 26 #[.L a L b] h R:=aS [] Tryz.func26 e
theorem BL.walk(e:bf h (.C #[.L a L b] 31) λB H=>R (.func (.func 51) #[] #[.P B 0]) H):Cl 27 #[.L a L b] h R:=aS [] Tryz.func27 e
theorem Fe.y.walk{l:Nat}{C:Nat}(n:Hl h C 0 λr i _=> ∃(I:Int->ai->Prop)(m:Int->ai->Nat),I 0 h/\∀(T:Int)(H:ai),I T H->if(decide (T<(i:Int)))then Bd T i/\aN r λA=>aO.cC H (A.add (toNat T*32)) λo=>bf H (.C aO.S.z.arr 44) λB j=>aO.du j (AA B 0) o λe=>aG (λ(q:Bool) (f:ai)=>if q then R (.T #[]) f else(([]:List Nat)= []/\I (wrap .i64 (T+1)) f/\m (wrap .i64 (T+1)) f<m T H)) (λJ=> ∃g,Cc e B 31 (.B g)/\if(!g)then aO.cC e (AA B 0) λp=>ss Tryz.prog l #[.I T,p.agg] e λv k=> ∃(t:Bool),v=.B t/\([]:List Nat)= []/\J (!t) k else([]:List Nat)= []/\J false e)else R (.T #[]) H):Cl 51 #[.func (.yield l) #[] #[],.P C 0] h R:=mH (lq (bq (.loop [(7,.one (.int .i64))] (lq (sq (cq lf lf) (sq (bq (lq (sq (.join [(21,.one (.bool))] lf) (cq lf lf)))) lf)))))) Tryz.func51 rfl rfl (Eq.mp dA n)
theorem yu.walk (hv:bf h (.C self.arr 29) λa' b'=>bf b' (.C #[.I 0] 3) λB i'=>bf i' (.C #[.I 0] 24) λe w=>aw.cC w (AA a' 0) λs'=>Cl 5 #[s'.agg] w λA' n'=> ∃O t,A'=.T #[.pointer O,.I t]/\bf n' (.C #[.pointer none] 23) λp o'=>aJ o' (AA p 0) (.pointer O) λy=>if(t !=0)then aJ y (AA B 0) (.I 0) λp'=>aJ p' (AA e 0) (.I t) λo=>Hi o B 0 λr0=> ∃E,Cc o e 0 (.I E)/\R (.T #[.I r0,.I E]) o else Cl 26 #[.L a L b] y λB' q'=>Vi B' λt'=>bf q' (.C #[.I 0] 3) λi c'=>aJ c' (AA i 0) (.I t') λd'=>Cl 27 #[.L a L b] d' λC' H=> ∃P,C'=P/\JR Tryz.prog (P) H (λrec C args e'=> ∃T,aO.EX λQ=>args= [.I T,Q.agg]/\bf e' (.C aO.S.z.arr 44) λm f'=>aO.du f' (AA m 0) Q λu=>KM u (H.size+1) (rec .ready none)/\∀f,f=ie u (H.size+1) (rec .busy none)->∃S,Cc f i 0 (.I S)/\if(decide (T≥S))then(KM f (H.size+1) (rec .busy none)/\C false (ie f (H.size+1) (rec .done (some (.exit 0)))))else Hp f p 0 λu'=>aM.cC f (AA m 0) λv'=>Cl 9 #[.pointer u',v'.agg] f λD' g'=>aq.EX λU=> ∃V,D'=.T #[U.agg,.I V]/\aq.NW g' λq h'=>aq.du h' (AA q 0) U λj=>aG (λ(z':Bool) (n:ai)=>if z' then aJ n (AA B 0) (.I T) λj'=>aJ j' (AA e 0) (.I 0) λv=>(KM v (H.size+1) (rec .busy none)/\C false (ie v (H.size+1) (rec .done (some .ret))))else(KM n (H.size+1) (rec .busy none)/\C true (ie n (H.size+1) (rec .ready none)))) (λJ=>if(V !=0)then([]:List Nat)= []/\J true j else aq.cC j (AA q 0) λw'=>aq.cC j (AA m 24) λx'=>Cl 28 #[w'.agg,x'.agg] j λE' k'=>Vb E' λy'=>([]:List Nat)= []/\J (!y') k')) (PZ (λg=> ∃X,Cc g i 0 (.I X)/\aJ g (AA B 0) (.I X) λl'=>aJ l' (AA e 0) (.I 0) λk=>k[H.size]? =some (.deferred (some []))/\∃z,aU (k.setIfInBounds H.size (.deferred none)) (AA B 0)=some (.I z)/\∃F,aU (k.setIfInBounds H.size (.deferred none)) (AA e 0)=some (.I F)/\R (.T #[.I z,.I F]) (k.setIfInBounds H.size (.deferred none))) (λG=>G[H.size]? =some (.deferred (some []))/\∃A,aU (G.setIfInBounds H.size (.deferred none)) (AA B 0)=some (.I A)/\∃I,aU (G.setIfInBounds H.size (.deferred none)) (AA e 0)=some (.I I)/\R (.T #[.I A,.I I]) (G.setIfInBounds H.size (.deferred none))) (λr' r=>Tg (Nat.beq r' 0) (∃Z,Cc r i 0 (.I Z)/\aJ r (AA B 0) (.I Z) λm'=>aJ m' (AA e 0) (.I 0) λl=>l[H.size]? =some (.deferred (some []))/\∃D,aU (l.setIfInBounds H.size (.deferred none)) (AA B 0)=some (.I D)/\∃M,aU (l.setIfInBounds H.size (.deferred none)) (AA e 0)=some (.I M)/\R (.T #[.I D,.I M]) (l.setIfInBounds H.size (.deferred none))) (False)))):Cl 10 #[self.agg,.L a L b] h R:=mH (lq (lq (sq (lq (cq ll lf)) (lq (sq (lq (bq (.scope 1 [(25,.one (.int .i64)),(26,.agg [.int .u64,.int .i64,.int .u64,.int .i64,.int .u64,.int .i64,.bool,.int .u64,.int .u64,.str,.str,.bool,.int .u64,.int .u64,.str,.str,.int .i64,.int .i64,.int .i64,.slice,.int .u64,.int .u64,.bool,.slice,.int .u64,.int .i64,.int .i64,.int .i64,.int .u64,.slice,.bool,.bool])] ll (bq (sq (lq (cq lf lf)) (lq (sq (.join [(45,.one (.bool))] lf) (cq ll lf)))))))) ll))))) Tryz.func10 rfl rfl (Eq.mp dA hv)
theorem HO.walk (hv:bf h (.C self.arr 29) λI M=>bf M (.C #[.pointer none] 23) λB X=>bf X (.C #[.I 0] 24) λe p=>aw.cC p (AA I 0) λc'=>Cl 5 #[c'.agg] p λg' Z=> ∃z t,g'=.T #[.pointer z,.I t]/\bf Z (.C #[.pointer none] 23) λj a'=>aJ a' (AA j 0) (.pointer z) λq=>if(t !=0)then aJ q (AA B 0) (.pointer none) λb'=>aJ b' (AA e 0) (.I t) λl=>Hp l B 0 λr0=> ∃v,Cc l e 0 (.I v)/\R (.T #[.pointer r0,.I v]) l else Cl 27 #[.L a L b] q λh' H=> ∃A,h'=A/\JR Tryz.prog (A) H (λrec C args O=> ∃d',aO.EX λD=>args= [d',D.agg]/\bf O (.C aO.S.z.arr 44) λm P=>aO.du P (AA m 0) D λn=>KM n (H.size+1) (rec .ready none)/\∀f,f=ie n (H.size+1) (rec .busy none)->Hp f j 0 λe'=>aM.cC f (AA m 0) λf'=>Cl 9 #[.pointer e',f'.agg] f λi' Q=>aq.EX λE=> ∃T,i'=.T #[E.agg,.I T]/\aq.NW Q λJ S=>aq.du S (AA J 0) E λk=>if(T !=0)then aJ k (AA B 0) (.pointer none) λU=>aJ U (AA e 0) (.I T) λo=>(KM o (H.size+1) (rec .busy none)/\C false (ie o (H.size+1) (rec .done (some .ret))))else(KM k (H.size+1) (rec .busy none)/\C true (ie k (H.size+1) (rec .ready none)))) (PZ (λg=> ∃F,Cc g j 0 (.pointer F)/\aJ g (AA B 0) (.pointer F) λV=>aJ V (AA e 0) (.I 0) λi=>i[H.size]? =some (.deferred (some []))/\∃r,aU (i.setIfInBounds H.size (.deferred none)) (AA B 0)=some (.pointer r)/\∃w,aU (i.setIfInBounds H.size (.deferred none)) (AA e 0)=some (.I w)/\R (.T #[.pointer r,.I w]) (i.setIfInBounds H.size (.deferred none))) (λG=>G[H.size]? =some (.deferred (some []))/\∃u,aU (G.setIfInBounds H.size (.deferred none)) (AA B 0)=some (.pointer u)/\∃y,aU (G.setIfInBounds H.size (.deferred none)) (AA e 0)=some (.I y)/\R (.T #[.pointer u,.I y]) (G.setIfInBounds H.size (.deferred none))) (λ_ _=>False))):Cl 19 #[self.agg,.L a L b] h R:=mH (lq (lq (sq (lq (cq ll lf)) (sq (lq (bq (.scope 0 [(22,.one (.raw)),(23,.agg [.int .u64,.int .i64,.int .u64,.int .i64,.int .u64,.int .i64,.bool,.int .u64,.int .u64,.str,.str,.bool,.int .u64,.int .u64,.str,.str,.int .i64,.int .i64,.int .i64,.slice,.int .u64,.int .u64,.bool,.slice,.int .u64,.int .i64,.int .i64,.int .i64,.int .u64,.slice,.bool,.bool])] lf (bq (lq (lq (cq ll lf))))))) ll)))) Tryz.func19 rfl rfl (Eq.mp dA hv)
theorem Ff.walk{X:Int}{e:Int}{f:Bool}{g:Bool}{k:ct}{j i:Nat}{n:ct}{m l:Nat}(o:bf h (.C #[.I X,.U e,.B f,.B g,.L k j i,.L n m l] 105) λB H=> ∃t,Cc H B 2 (.B t)/\R (.B t) H):Cl 31 #[.agg #[.I X,.U e,.B f,.B g,.L k j i,.L n m l]] h R:=aS [] Tryz.func31 o
theorem ir.down.walk(f: ∃(I:Int->ai->Prop)(m:Int->ai->Nat),I 0 h/\∀(t:Int)(H:ai),I t H->if(decide (t<(s:Int)))then Bd t s/\aN c λA=>cI.LD H (A.add (toNat t*6)) λg i j k o n l r q p=>Cl 31 #[.agg #[.I g,.U i,.B j,.B k,.L o n l,.L r q p]] H λv e=> ∃T,v=.B T/\if T then R (.I t) e else(I (wrap .i64 (t+1)) e/\m (wrap .i64 (t+1)) e<m t H)else R (.I (-1)) H):Cl 53 #[.L c s d,.func (.func 31) #[] #[]] h R:=aS [(6,.loop [(8,.one (.int .i64))])] Tryz.func53 f
theorem hZ.down.walk(e:Cl 53 #[.L c s d,.func (.func 31) #[] #[]] h λv H=> ∃t,v=.I t/\R (.B (decide (t≥0))) H):Cl 32 #[.L c s d,.func (.func 31) #[] #[]] h R:=aS [] Tryz.func32 e
theorem JS.walk{S:Nat}(l:aM.NW h λB f=>aG (λ(o:Bool) (H:ai)=>if o then aM.du H (AA B 0) aM.S.z λg=>aM.cC g (AA B 0) λr=>R (.T #[r.agg,.B false]) g else Hp H S 0 λp=>Cl 33 #[.pointer p] H λv k=>Vl v λw u q=>Cl 32 #[.L w u q,.func (.func 31) #[] #[]] k λV e=> ∃T,V=.B T/\if(!T)then aM.du e (AA B 0) aM.S.z λi=>aM.cC i (AA B 0) λm=>R (.T #[m.agg,.B false]) i else Hu e S 6 λy=>aM.du e (AA B 0) ⟨y,8,0,0,0,0,false,0,0,ij,ij,false,0,0,ij,ij,0,0,0,none,0,0,0,0,false,none,0,0⟩ λj=>aM.cC j (AA B 0) λn=>R (.T #[n.agg,.B true]) j) (λJ=> ∃t,Cc f S 0 (.pointer t)/\J t.isNone f)):Cl 20 #[.P S 0] h R:=aS [(4,.join [(13,.one (.bool))])] Tryz.func20 l
theorem HP.walk (hv:bf h (.C aO.S.z.arr 44) λf s'=>aO.du s' (AA f 0) ⟨3,1,5,0,0,0,false,0,0,ij,ij,false,0,0,ij,ij,0,0,0,none,0,0,0,0,false,none,0,0,0,0,1,0,5,none,0,0,false,false⟩ λA'=>Cl 18 #[.U 0,.I 12] A' λZ' J'=>aq.EX λt=>Z'=t.agg/\bf J' (.C aO.S.z.arr 44) λB Q'=>aO.du Q' (AA B 0) ⟨4,1,5,0,0,0,false,0,0,ij,ij,false,0,0,ij,ij,0,0,0,none,0,0,0,0,false,none,0,0,t.f0,t.f1,t.f2,t.f3,t.f4,t.TR,t.f5l,t.TT,false,false⟩ λu=>aO.cC u (AA f 0) λU'=>bf u (.C aO.S.z.arr 44) λk R'=>aO.du R' (AA k 0) U' λS'=>aJ S' (AA k 31) (.B true) λi=>aG (λ(T':Int) (e:Int) (j:ai)=>aG (λ(m:Int) (q':Int) (g:ai)=>aG (λ(S:ct) (r':Int) (t':ai)=>Cl 10 #[aw.S.z.agg,.Z] t' λa0 u'=> ∃V' e',a0=.T #[.I V',.I e']/\Cl 20 #[.pointer S] u' λa7 v'=>aM.EX λf'=> ∃g',a7=.T #[f'.agg,.B g']/\aM.NW v' λo w'=>aM.du w' (AA o 0) f' λH=>if(T'==2)then if(e==0)then if(m==1)then if(q'==0)then if(r'==0)then if(!S.isNone)then aN S λj'=> ∃h',aU H (j'.add 6)=some (.U h')/\if(h'==4)then if(e'==3)then if g' then aM.cC H (AA o 0) λX'=>Cl 21 #[X'.agg,.agg #[.U 4,.I 8,.U 0,.I 0,.U 0,.I 0,.B false,.U 0,.U 0,.S ij,.S ij,.B false,.U 0,.U 0,.S ij,.S ij,.I 0,.I 0,.I 0,.Z,.U 0,.U 0,.B false,.Z]] H λa8 x'=> ∃i',a8=.B i'/\R (.B i') x' else R (.B false) H else R (.B false) H else R (.B false) H else R (.B false) H else R (.B false) H else R (.B false) H else R (.B false) H else R (.B false) H else R (.B false) H) (λn=>aO.cC g (AA f 0) λX=>aO.cC g (AA B 0) λZ=>(Cl 6 #[] g λa9 p=>aw.EX λU=>a9=U.agg/\Kp g p [(Sa B 0),(Sa f 0)]/\bf p (.C (X.l++Z.l).toArray 44) λk' y'=>Cl 19 #[U.agg,.L (Sa k' 0) 2 2] y' λb0 z'=> ∃a' c',b0=.T #[.pointer a',.I c']/\n a' c' z')/\(bf g (.C (X.l++Z.l).toArray 44) λl' B'=>Cl 6 #[] B' λb1 C'=>aw.EX λV=>b1=V.agg/\Cl 19 #[V.agg,.L (Sa l' 0) 2 2] C' λb2 D'=> ∃b' d',b2=.T #[.pointer b',.I d']/\n b' d' D')/\True)) (λl=>aO.cC j (AA k 0) λG=>aO.cC j (AA B 0) λI=>(Cl 6 #[] j λb3 q=>aw.EX λE=>b3=E.agg/\Kp j q [(Sa B 0),(Sa k 0)]/\bf q (.C (G.l++I.l).toArray 44) λm' E'=>Cl 10 #[E.agg,.L (Sa m' 0) 2 2] E' λb4 F'=> ∃M P,b4=.T #[.I M,.I P]/\l M P F')/\(bf j (.C (G.l++I.l).toArray 44) λn' G'=>Cl 6 #[] G' λa1 H'=>aw.EX λF=>a1=F.agg/\Cl 10 #[F.agg,.L (Sa n' 0) 2 2] H' λa2 I'=> ∃O Q,a2=.T #[.I O,.I Q]/\l O Q I')/\True)) (λJ=>aO.cC i (AA f 0) λw=>aO.cC i (AA B 0) λy=>(Cl 6 #[] i λa3 r=>aw.EX λT=>a3=T.agg/\Kp i r [(Sa B 0),(Sa f 0)]/\bf r (.C (w.l++y.l).toArray 44) λo' K'=>Cl 10 #[T.agg,.L (Sa o' 0) 2 2] K' λa4 L'=> ∃z C,a4=.T #[.I z,.I C]/\J z C L')/\(bf i (.C (w.l++y.l).toArray 44) λp' M'=>Cl 6 #[] M' λa5 O'=>aw.EX λv=>a5=v.agg/\Cl 10 #[v.agg,.L (Sa p' 0) 2 2] O' λa6 P'=> ∃A D,a6=.T #[.I A,.I D]/\J A D P')/\True)):Cl 8 #[] h R:=aS [(11,.join [(4,.one (.int .i64)),(5,.one (.int .i64))]),(11,λ_=> .iZ (.op 1 (.op 2 (.alts (.fork 0 (fC 7 3 .done) (.fork 3 (.op 0 (fC 6 4 .done)) .gw)))))),(13,.join [(6,.one (.int .i64)),(7,.one (.int .i64))]),(13,λ_=> .iZ (.op 1 (.op 2 (.alts (.fork 0 (fC 7 3 .done) (.fork 3 (.op 0 (fC 6 4 .done)) .gw)))))),(15,.join [(8,.one (.ptr)),(9,.one (.int .i64))]),(15,λ_=> .iZ (.op 1 (.op 2 (.alts (.fork 0 (fC 7 3 .done) (.fork 3 (.op 0 (fC 6 4 .done)) .gw))))))] Tryz.func8 hv
theorem ze.walk{v:Int} (hv:Cl 6 #[] h λp8 d7=>aw.EX λG'=>p8=G'.agg/\Cl 5 #[G'.agg] d7 λp9 e'=> ∃S H',p9=.T #[.pointer S,.I H']/\aG (λ(l1:Bool) (g':ai)=>if l1 then R (.B false) g' else∃(I:ct->Nat->Nat->Int->ai->Prop)(mu:ct->Nat->Nat->Int->ai->Nat),I none 0 0 0 g'/\∀(f:ct)(e l:Nat)(i:Int)(w:ai),I f e l i w->aG (λ(l2:Bool) (O:ai)=>if l2 then aG (λ(n':ct) (m' l':Nat) (j':ai)=>(I n' m' l' (wrap .i64 (i+1)) j'/\mu n' m' l' (wrap .i64 (i+1)) j'<mu f e l i w)) (λb7=>Bd i L/\aN a λb8=>aM.cC O (b8.add (toNat i*24)) λl3=>Cl 7 #[l3.agg] O λr0 P=> ∃I',r0=.B I'/\if I' then Cl 8 #[] P λs1 j1=> ∃J',s1=.B J'/\R (.B J') j1 else Bd i L/\aN a λb9=>aM.cC P (b9.add (toNat i*24)) λl4=>Cl 9 #[.pointer S,l4.agg] P λt2 j2=>aq.EX λK'=> ∃L',t2=.T #[K'.agg,.I L']/\aq.NW j2 λn d8=>aq.du d8 (AA n 0) K' λk=>aG (λ(j5:ct) (j4 j3:Nat) (d9:ai)=>b7 j5 j4 j3 d9) (λX=>if(L'==0)then Bd i L/\aN a λE=>aM.cC k (E.add (toNat i*24)) λt=>aq.cC k (AA n 0) λT=>bf k (.C #[.U t.f0,.I t.f1,.U t.f2,.I t.f3,.U t.f4,.I t.f5,.B t.f6,.U t.f7,.U t.f8,.S t.f9,.S t.f10,.B t.f11,.U t.f12,.U t.f13,.S t.f14,.S t.f15,.I t.f16,.I t.f17,.I t.f18,.L t.FZ t.F0 t.Ga,.U t.f20,.U t.f21,.B t.f22,.L t.Gb t.Gc t.Gd,.U T.f0,.I T.f1,.I T.f2,.I T.f3,.U T.f4,.L T.TR T.f5l T.TT,.B false,.B false] 44) λc3 G=>Kp k G [(Sa n 0),(some (E.add (toNat i*24)))]/\aT Tryz.prog (Builtin.append_ #[31,31] 31 #[.L f e l,.L (Sa c3 0) 1 1]) G λu1 d'=> ∃P' O' M',u1=.L P' O' M'/\Kp G d' [(Sa n 0),(some (E.add (toNat i*24)))]/\X P' O' M' d' else X f e l k))else bf O (.C aO.S.z.arr 44) λB e0=>aO.du e0 (AA B 0) ⟨0,1,77777,0,0,0,false,0,0,ij,ij,false,0,0,ij,ij,0,0,0,none,0,0,0,0,false,none,0,0,0,0,0,0,0,none,0,0,false,true⟩ λH=>aG (λ(o':Int) (c':Int) (o:ai)=>aG (λ(p7:Bool) (p:ai)=>if p7 then if(c'==0)then if(o'==(wrap .i64 ((e:Int)+1)))then Cl 8 #[] p λu2 e1=> ∃p',u2=.B p'/\R (.B p') e1 else R (.B false) p else R (.B false) p else aJ p (AA B 30) (.B true) λq=>aG (λ(c2:ct) (c1 c0:Nat) (e2:ai)=>Cl 6 #[] e2 λu3 e3=>aw.EX λC'=>u3=C'.agg/\Cl 10 #[C'.agg,.L c2 c1 c0] e3 λu4 e4=> ∃D' E',u4=.T #[.I D',.I E']/\Cl 8 #[] e4 λu5 M=> ∃F',u5=.B F'/\if F' then if(E'==0)then R (.B (D'==v)) M else R (.B false) M else R (.B false) M) (λD=>((0:Int)<=v/\v<=(l:Int))/\aO.cC q (AA B 0) λQ=>((0:Int)<=v/\v<=(e:Int))/\(bf q (.C #[] 44) λa' r=>Kp q r [(Sa B 0)]/\(aT Tryz.prog (Builtin.append_ #[31,31] 31 #[.L (Sa a' 0) 0 0,.L (cQ f l 0 32) ((toNat v) - 0) (l - 0)]) r λq0 f'=> ∃s' r' q',q0=.L s' r' q'/\Kp r f' [(Sa B 0)]/\bf f' (.C Q.arr 44) λd2 e5=>aT Tryz.prog (Builtin.append_ #[31,31] 31 #[.L s' r' q',.L (Sa d2 0) 1 1]) e5 λq1 e6=>Vl q1 λk8 k5 k2=>aT Tryz.prog (Builtin.append_ #[31,31] 31 #[.L k8 k5 k2,.L (cQ f l (toNat v) 32) (e - (toNat v)) (l - (toNat v))]) e6 λq2 e7=> ∃z' w' t',q2=.L z' w' t'/\D z' w' t' e7)/\(bf r (.C Q.arr 44) λd3 e8=>aT Tryz.prog (Builtin.append_ #[31,31] 31 #[.L (Sa a' 0) 0 0,.L (cQ f l 0 32) ((toNat v) - 0) (l - 0)]) e8 λq3 e9=>Vl q3 λk0 j8 j6=>aT Tryz.prog (Builtin.append_ #[31,31] 31 #[.L k0 j8 j6,.L (Sa d3 0) 1 1]) e9 λq4 f0=>Vl q4 λk9 k6 k3=>aT Tryz.prog (Builtin.append_ #[31,31] 31 #[.L k9 k6 k3,.L (cQ f l (toNat v) 32) (e - (toNat v)) (l - (toNat v))]) f0 λq5 f1=> ∃A' x' u',q5=.L A' x' u'/\D A' x' u' f1)/\True)/\(bf q (.C Q.arr 44) λd4 f2=>bf f2 (.C #[] 44) λd5 f3=>aT Tryz.prog (Builtin.append_ #[31,31] 31 #[.L (Sa d5 0) 0 0,.L (cQ f l 0 32) ((toNat v) - 0) (l - 0)]) f3 λq6 f4=>Vl q6 λk1 j9 j7=>aT Tryz.prog (Builtin.append_ #[31,31] 31 #[.L k1 j9 j7,.L (Sa d4 0) 1 1]) f4 λq7 f5=>Vl q7 λl0 k7 k4=>aT Tryz.prog (Builtin.append_ #[31,31] 31 #[.L l0 k7 k4,.L (cQ f l (toNat v) 32) (e - (toNat v)) (l - (toNat v))]) f5 λq8 f6=> ∃B' y' v',q8=.L B' y' v'/\D B' y' v' f6)/\True)) (λm=>if(c' !=0)then m true o else if(o' !=(wrap .i64 ((e:Int)+1)))then m true o else if(decide (v<0))then m true o else m (decide (v>(e:Int))) o)) (λj=>aO.cC H (AA B 0) λg=>(Cl 6 #[] H λq9 u=>aw.EX λC=>q9=C.agg/\Kp H u [(Sa B 0)]/\(bf u (.C #[] 44) λb' y=>Kp u y [(Sa B 0)]/\(aT Tryz.prog (Builtin.append_ #[31,31] 31 #[.L (Sa b' 0) 0 0,.L f e l]) y λr1 h'=> ∃Z' V' T',r1=.L Z' V' T'/\Kp y h' [(Sa B 0)]/\bf h' (.C g.arr 44) λd6 f7=>aT Tryz.prog (Builtin.append_ #[31,31] 31 #[.L Z' V' T',.L (Sa d6 0) 1 1]) f7 λr2 f8=>Vl r2 λo9 o1 n3=>Cl 10 #[C.agg,.L o9 o1 n3] f8 λr3 f9=> ∃a1 a9,r3=.T #[.I a1,.I a9]/\j a1 a9 f9)/\(bf y (.C g.arr 44) λc4 g0=>aT Tryz.prog (Builtin.append_ #[31,31] 31 #[.L (Sa b' 0) 0 0,.L f e l]) g0 λr4 g1=>Vl r4 λm7 m1 l5=>aT Tryz.prog (Builtin.append_ #[31,31] 31 #[.L m7 m1 l5,.L (Sa c4 0) 1 1]) g1 λr5 g2=>Vl r5 λp0 o2 n4=>Cl 10 #[C.agg,.L p0 o2 n4] g2 λr6 g3=> ∃a2 b0,r6=.T #[.I a2,.I b0]/\j a2 b0 g3)/\True)/\(bf u (.C g.arr 44) λc5 g4=>bf g4 (.C #[] 44) λc6 g5=>aT Tryz.prog (Builtin.append_ #[31,31] 31 #[.L (Sa c6 0) 0 0,.L f e l]) g5 λr7 g6=>Vl r7 λm8 m2 l6=>aT Tryz.prog (Builtin.append_ #[31,31] 31 #[.L m8 m2 l6,.L (Sa c5 0) 1 1]) g6 λr8 g7=>Vl r8 λp1 o3 n5=>Cl 10 #[C.agg,.L p1 o3 n5] g7 λr9 g8=> ∃a3 b1,r9=.T #[.I a3,.I b1]/\j a3 b1 g8)/\True)/\(bf H (.C #[] 44) λF z=>Kp H z [(Sa B 0)]/\(Cl 6 #[] z λs0 A=>aw.EX λU=>s0=U.agg/\Kp z A [(Sa B 0)]/\(aT Tryz.prog (Builtin.append_ #[31,31] 31 #[.L (Sa F 0) 0 0,.L f e l]) A λs2 i'=> ∃a0 X' U',s2=.L a0 X' U'/\Kp A i' [(Sa B 0)]/\bf i' (.C g.arr 44) λc7 g9=>aT Tryz.prog (Builtin.append_ #[31,31] 31 #[.L a0 X' U',.L (Sa c7 0) 1 1]) g9 λs3 h0=>Vl s3 λp2 o4 n6=>Cl 10 #[U.agg,.L p2 o4 n6] h0 λs4 h1=> ∃a4 b2,s4=.T #[.I a4,.I b2]/\j a4 b2 h1)/\(bf A (.C g.arr 44) λc8 h2=>aT Tryz.prog (Builtin.append_ #[31,31] 31 #[.L (Sa F 0) 0 0,.L f e l]) h2 λs5 h3=>Vl s5 λm9 m3 l7=>aT Tryz.prog (Builtin.append_ #[31,31] 31 #[.L m9 m3 l7,.L (Sa c8 0) 1 1]) h3 λs6 h4=>Vl s6 λp3 o5 n7=>Cl 10 #[U.agg,.L p3 o5 n7] h4 λs7 h5=> ∃a5 b3,s7=.T #[.I a5,.I b3]/\j a5 b3 h5)/\True)/\(bf z (.C g.arr 44) λc9 h6=>Cl 6 #[] h6 λs8 h7=>aw.EX λQ'=>s8=Q'.agg/\aT Tryz.prog (Builtin.append_ #[31,31] 31 #[.L (Sa F 0) 0 0,.L f e l]) h7 λs9 h8=>Vl s9 λn0 m4 l8=>aT Tryz.prog (Builtin.append_ #[31,31] 31 #[.L n0 m4 l8,.L (Sa c9 0) 1 1]) h8 λt0 h9=>Vl t0 λp4 o6 n8=>Cl 10 #[Q'.agg,.L p4 o6 n8] h9 λt1 i0=> ∃a6 b4,t1=.T #[.I a6,.I b4]/\j a6 b4 i0)/\True)/\(bf H (.C g.arr 44) λZ k'=>(Cl 6 #[] k' λt3 i1=>aw.EX λR'=>t3=R'.agg/\bf i1 (.C #[] 44) λd0 i2=>aT Tryz.prog (Builtin.append_ #[31,31] 31 #[.L (Sa d0 0) 0 0,.L f e l]) i2 λt4 i3=>Vl t4 λn1 m5 l9=>aT Tryz.prog (Builtin.append_ #[31,31] 31 #[.L n1 m5 l9,.L (Sa Z 0) 1 1]) i3 λt5 i4=>Vl t5 λp5 o7 n9=>Cl 10 #[R'.agg,.L p5 o7 n9] i4 λt6 i5=> ∃a7 b5,t6=.T #[.I a7,.I b5]/\j a7 b5 i5)/\(bf k' (.C #[] 44) λd1 i6=>Cl 6 #[] i6 λt7 i7=>aw.EX λS'=>t7=S'.agg/\aT Tryz.prog (Builtin.append_ #[31,31] 31 #[.L (Sa d1 0) 0 0,.L f e l]) i7 λt8 i8=>Vl t8 λn2 m6 m0=>aT Tryz.prog (Builtin.append_ #[31,31] 31 #[.L n2 m6 m0,.L (Sa Z 0) 1 1]) i8 λt9 i9=>Vl t9 λp6 o8 o0=>Cl 10 #[S'.agg,.L p6 o8 o0] i9 λu0 j0=> ∃a8 b6,u0=.T #[.I a8,.I b6]/\j a8 b6 j0)/\True)/\True)) (λV=>if(decide (i<(L:Int)))then V (decide (i<40)) w else V false w)) (λJ=>if(H' !=0)then J true e' else J S.isNone e')):Cl 4 #[.L a L b,.I v] h R:=aS [(6,.join [(27,.one (.bool))]),(18,.loop [(7,.one (.slice)),(8,.one (.int .i64))]),(21,.join [(35,.one (.bool))]),(26,.join [(7,.one (.slice))]),(39,.join [(7,.one (.slice))]),(40,λ_=>pK 10),(46,.join [(12,.one (.int .i64)),(13,.one (.int .i64))]),(46,λ_=> .iZ (.op 2 (.op 4 (.alts (.fork 0 (.alts (.fork 1 (.alts (.fork 3 (fC 8 5 .done) (.fork 5 (.op 3 (fC 7 6 .done)) .gw))) (.fork 5 (.op 1 (.op 3 (fC 7 6 .done))) .gw))) (.fork 1 (.alts (.fork 0 (.alts (.fork 3 (fC 8 5 .done) (.fork 5 (.op 3 (fC 7 6 .done)) .gw))) (.fork 5 (.op 0 (.op 3 (fC 7 6 .done))) .gw))) (.fork 5 (.alts (.fork 0 (.op 1 (.op 3 (fC 7 6 .done))) (.fork 1 (.op 0 (.op 3 (fC 7 6 .done))) .gw))) .gw))))))),(49,.join [(95,.one (.bool))]),(58,.join [(14,.one (.slice))]),(58,λ_=> .iZ (fC 3 1 (.op 5 (fC 3 8 (.alts (.fork 0 (.alts (.fork 4 (.op 6 (.op 7 (.op 11 (.op 12 .done)))) (.fork 6 (.op 4 (.op 7 (.op 11 (.op 12 .done)))) .gw))) (.fork 6 (.op 0 (.op 4 (.op 7 (.op 11 (.op 12 .done))))) .gw)))))))] Tryz.func4 hv

end
section
namespace PV
open jG (Ev lC)
open dK (SS Good Pt oN Mk Bk)
open Go.Proofs.YtkdgpmeojgokdaaGreatDoor.Ask (En rS Rw Bx jd tZ lG lB)
open pg (qI dj EV yZ)
open Go.fV (RD)
structure LV where
 f:EV
 y:RD
 r:ct
 e:Nat
 told:Bool
 lost:Bool
abbrev LV.ln(v:LV):Ln:=⟨v.f.x,v.y,v.told,v.lost⟩
abbrev LV.s(v:LV):aO.S:=⟨v.f.x.now,v.f.x.kind,v.f.x.token,v.f.x.ses,v.f.x.iM.id,v.f.x.iM.kind,v.f.x.iM.ep.lE,v.f.x.iM.ep.node,v.f.x.iM.ep.gL,v.f.x.iM.ep.host,v.f.x.iM.ep.jZ,v.f.x.iM.dest.lE,v.f.x.iM.dest.node,v.f.x.iM.dest.gL,v.f.x.iM.dest.host,v.f.x.iM.dest.jZ,v.f.x.iM.lV,v.f.x.iM.num,v.f.x.iM.ja,v.f.p,v.f.x.iM.mh.length,v.f.c,v.f.x.iM.fT,v.f.x.iM.token,v.f.x.iM.on,v.f.q,v.f.x.data.length,v.f.d,(v.y.id:Int),v.y.err,v.y.num,v.y.count,(v.y.token:Int),v.r,v.y.b.length,v.e,v.told,v.lost⟩
abbrev iU(v:LV):List Value:=v.s.l
theorem lu(v:LV):(iU v).length=32:=rfl
variable {V : List UInt8 → Bool} {h H d c g : ai} {R : Value → ai → Prop} {s k j : Nat} {X x : Ft} {I : oN} {n : SS} {l p q : Option Addr} {fs : List LV}
structure LV.ok (h:ai) (v:LV):Prop where
 f:v.f.ok h
 r:Row h v.r (bc v.y.b)
theorem EV.ok.on{f:EV}(o:f.ok h)(F:Fr No h H):f.ok H:=⟨o.r1.frame F bX,o.c1,o.r2.frame F bX,o.c2,o.w1,o.w2⟩
theorem M7(v:LV)(i: hH h R (.B (v.told && v.lost))):Cl 50 #[v.s.agg] h R:=by
 refine Cy.walk (aO.cW (x:=v.s) λb c E a F=> ?_);have C:aU c (AA b 30)=some (.B v.told):=au a;have f:aU c (AA b 31)=some (.B v.lost):=au a;refine⟨_,C,?_⟩;have:=i c F;cases e:v.told with
 |true=>rw[af rfl];rw[e]at this;exact⟨_,f,this⟩
 |false=>rw[dy];rw[e]at this;exact this
theorem P0: ∀fs:List LV,(match fs.findIdx? (λv=>v.told && v.lost)with|some k=>k|none=>fs.length)=wr (fs.map LV.ln)
 | []=>rfl
 |v::fs=>by
  have i:=P0 fs;rw[List.findIdx?_cons,cb,wr];cases e:(v.told && v.lost)with
  |true=>
   rw[af rfl,af (cR e)]
  |false=>
   rw[dy,ae (cR e)];cases q:fs.findIdx? (λv=>v.told && v.lost)with
   |none=>rw[q]at i;dsimp only at i;simp only[gD];rw[<-i];rfl
   |some k=>rw[q]at i;dsimp only at i;simp only[dq];rw[<-i]
theorem nC{i:Nat}(C:Row h l (fs.flatMap iU))(B:i=fs.length)(A:fs.length<=1000000000)(z: hH h R (.I (idxOf (λv:LV=>v.told && v.lost) fs))):
  Cl 49 #[.L l i j,.func (.func 50) #[] #[]] h R:=by
 refine jk.UI.walk (rF (λv:LV=>v.told && v.lost) (λT g K=>((0:Int)<=T/\T<(i:Int))/\aN l λa=>aO.cC g (a.add (Int.toNat T*32)) λD=>
  Cl 50 #[D.agg] g λv G=> ∃q,v=.B q/\K q G) B A (λk g u K r f y=> ?_) (λg f=>z g f))
 have E:=(az.1 r).1;have m:=C.frame f bX;obtain⟨a,rfl⟩:=m.some (λe=>by have:=cf List.length e;rw[eL iU 32 lu,bG]at this;omega);exact⟨ag,ax.2 (aO.jQ (x:=u.s) (by rw[aH];exact m.gB lu r) (M7 u λw F=>⟨_,rfl,y w (f.tt F)⟩))⟩
theorem AI(r:Row h l (fs.flatMap iU))(i:fs.length<=1000000000)(a: hH h R (.I (wr (fs.map LV.ln):Int))):Cl 26 #[.L l fs.length j] h R:=by
 refine HN.walk (nC r rfl i λc f=>⟨_,rfl,?_⟩);have e:=P0 fs;unfold idxOf;cases q:fs.findIdx? (λv=>v.told && v.lost)with
 |none=>
  rw[q]at e;dsimp only at e⊢;rw[gi,e];exact a c f
 |some k=>
  rw[q]at e;dsimp only at e⊢;rw[ae bU,e];exact a c f
def Kx(X:Ft)(g:ai)(L:List (Nat×Obj)):Prop:= ∀e∈L,g[e.1]? =some e.2/\¬(X.M e.1\/X.D e.1)
variable {L t : List (Nat × Obj)} {b : Nat} {o o' : Obj}
theorem Kx.step(K:Kx X g L)(S:bw X g x h):Kx x h L:=λe f=>by
 obtain⟨a,C⟩:=K e f;have z:=aA a;refine⟨S.fr.get a (λq=>C (.inl q)),λq=> ?_⟩;rcases q with q|q
 .rcases S.hN _ q with q|q
  .exact C (.inl q)
  .omega
 .rcases S.ji _ q with q|q
  .exact C (.inr q)
  .omega
theorem Kx.on(K:Kx X g L)(F:Fr No g h):Kx X h L:=λe a=>⟨F.get (K e a).1 id,(K e a).2⟩
theorem Kx.add(K:Kx X g L)(a:g[b]? =some o)(C: ¬(X.M b\/X.D b)):Kx X g ((b,o)::L):=λe he=>by
 rcases bg.1 he with rfl|he
 .exact⟨a,C⟩
 .exact K e he
theorem Kx.sub(K:Kx X g L)(s: ∀e∈t,e∈L):Kx X g t:=λe a=>K e (s e a)
theorem Kx.at(K:Kx X g L)(i:Nat){e:Nat×Obj}(a:L[i]? =some e):g[e.1]? =some e.2:=(K e (aZ a)).1
theorem Kx.QW(K:Kx X g ((b,o)::L))(a:h[b]? =some o')(i: ∀y,y≠b->h[y]? =g[y]?)(f: ∀e∈L,e.1≠b):Kx X h ((b,o')::L):=λe he=>by
 rcases bg.1 he with rfl|he
 .exact⟨a,(K (b,o) (dp ..)).2⟩
 .have:=K e (cv _ he);exact⟨(i _ (f e he)).trans this.1,this.2⟩
theorem En.off(E:En V d g s X I n k)(C: ¬(X.M b\/X.D b))(u:d.size<=b)(m:h.size=g.size)(i: ∀y,y≠b->h[y]? =g[y]?):En V d h s X I n k:=by
 have f:Fr (λy=>y=b) g h:=Fr.of_eq m (λC a=>i C a);exact⟨E.H.frame f (λy r e=>C (e▸r)),E.G,E.hk,⟨E.u.fr.fresh f (λy e=>ag),E.u.ge⟩,E.U,E.mx⟩
theorem En.new(E:En V d g s X I n k)(e:g.size<=b): ¬(X.M b\/X.D b):=λa=>by have:=E.H.lt b a;omega
theorem Kx.put{A B:List (Nat×Obj)}(K:Kx X g (A++(b,o)::B))(a:h[b]? =some o')(i: ∀y,y≠b->h[y]? =g[y]?)(f: ∀e∈A++B,e.1≠b):Kx X h (A++(b,o')::B):=λe he=>by
 rcases bH.1 he with he|he
 .have:=K e (dG _ he);exact⟨(i _ (f e (dG _ he))).trans this.1,this.2⟩
 .rcases bg.1 he with rfl|he
  .exact⟨a,(K (b,o) (dD _ (dp ..))).2⟩
  .have:=K e (dD _ (cv _ he));exact⟨(i _ (f e (dD _ he))).trans this.1,this.2⟩
theorem Kx.Nf(K:Kx X g L)(i:Nat){e:Nat×Obj}(a:L[i]? =some e): ¬(X.M e.1\/X.D e.1):=(K e (aZ a)).2
theorem jX{o:Obj}{K:Nat->ai->Prop}(a: ∀b H,b=h.size->H[b]? =some o->Fr No h H->K b H):bf h o K:=
 λb H e E=>a b H e (by rw[E,e];exact bZ) (by rw[E];exact Fr.push _ _)
theorem ss.mono{P:Program}{u:Nat}{args:Array Value}{R i:fO}(y:ss P u args h R)(A: ∀v H,R v H->i v H):ss P u args h i:=λw D=>by
 obtain⟨f,T,a,b,c,z⟩:=y w D;refine⟨f,T,a,b,c,λr m=>RoundIn.mono (z r m) ?_⟩;rintro e E ⟨v,rfl,C,B⟩;exact⟨v,rfl,A _ _ C,B⟩
theorem KN{g:ai}{b:Nat}{o:Obj}(a:b<g.size):(g.setIfInBounds b o)[b]? =some o:=by simp[a]
theorem mI{g:ai}{b y:Nat}{o:Obj}(a:y≠b):(g.setIfInBounds b o)[y]? =g[y]? :=Array.getElem?_setIfInBounds_ne (λe=>a e.symm)
theorem KO{i:Nat}{f:LV}(e:fs[i]? =some f):(fs.map LV.ln).drop i=f.ln::(fs.map LV.ln).drop (i+1):=by
 obtain⟨c,a⟩:=az.1 e;rw[cP (by rw[aD];exact c),List.getElem_map,a]
theorem HQ{St:Nat->ai->Prop}{D w:Nat}(a': ∀i g,St i g->Row g l (fs.flatMap iU))(O:h[w]? =some (.C #[.L l fs.length j] 31 (0,0)))(hl:fs.length<=1000000000)(K:St 0 h)(Z: ∀i g G,St i g->Fr No g G->St i G)(P: ∀i g f,fs[i]? =some f->f.lost=true->St i g->St (i+1) g)(Q: ∀i g f,fs[i]? =some f->f.lost=false->St i g->ss Tryz.prog D #[.I (i:Int),f.s.agg] g λv G=> ∃b,v=.B b/\((b=true->St (i+1) G)/\(b=false->R (.T #[]) G)))(E: ∀g,St fs.length g->R (.T #[]) g):Cl 51 #[.func (.yield D) #[] #[],.P w 0] h R:=by
 refine Fe.y.walk ⟨_,_,_,au O,λT g=> ∃i:Nat,T=(i:Int)/\i<=fs.length/\St i g,λT _=>fs.length - T.toNat,⟨0,rfl,bQ _,K⟩,?_⟩;rintro _ g ⟨i,rfl,hi,u⟩;by_cases C:i<fs.length
 .rw[gi];obtain⟨f,m⟩: ∃f,fs[i]? =some f:=⟨_,aj C⟩;have r:=a' i g u;obtain⟨b',rfl⟩:=r.some (λe=>by have:=cf List.length e;rw[eL iU 32 lu,bG]at this;omega);refine⟨ag,ax.2 (aO.jQ (x:=f.s) (by rw[aH];exact r.gB lu m) (aO.fK (x:=f.s) λb a eb z F=>aG.of λJ y=> ?_))⟩;have A:=Z i g a u F;have M:aU a (AA b 31)=some (.B f.lost):=au z;refine⟨_,M,?_⟩;have next: ∀G,St (i+1) G->J false G:=λG s'=>by
   subst y;dsimp only;rw[dy,bJ ag ag];exact⟨rfl,⟨i+1,rfl,ag,s'⟩,by show fs.length - Int.toNat ((i:Int)+1)<fs.length - Int.toNat (i:Int);omega⟩
  cases e:f.lost with
  |true=>rw[dy];exact⟨rfl,next a (P i a f m e A)⟩
  |false=>
   rw[gi];refine aO.fz z (ss.mono (Q i a f m e A) ?_);rintro v G ⟨B,rfl,S,U⟩;refine⟨B,rfl,rfl,?_⟩;cases B with
   |true=>exact next G (S rfl)
   |false=>subst y;dsimp only;rw[gi];exact U rfl
 .rw[ae (λe=>C (bW (aV e)))];obtain rfl:i=fs.length:=ag
  exact E g u
end PV
end
section
namespace PV
open jG (Ev lC)
open dK (SS Good Pt oN Mk Bk)
open Go.Proofs.YtkdgpmeojgokdaaGreatDoor.Ask (En rS Rw Bx jd tZ lG lB)
open pg (qI dj EV yZ)
open Go.fV (RD)
variable {V:cG→Bool} {h i d H g:ai} {R:fO} {s k L:Nat} {X:Ft} {I:oN} {a:SS} {l p q:ct} {fs:List LV}
variable {b n c:Nat} {f:LV} {x:List fu.SC}
theorem UW(o:aO.fD h b f.s):dN (AA b 0) (yZ f.f) 0 h:=gH o (λj v m=>by
 rw[bK];have e:f.s.arr.toList=yZ f.f++(iU f).drop 24:=rfl;rw[<-dv,e,cO (az.1 m).1];exact m)
theorem W8(r:aO.fD h b f.s):dN (AA b 24) (rS f.y f.r f.e).l 0 h:=gH r (λj v m=>by
 have e:f.s.arr.toList=(iU f).take 24++((rS f.y f.r f.e).l++(iU f).drop 30):=rfl;have o:((iU f).take 24).length=24:=rfl;rw[<-dv,e,cH (by rw[o];omega),o,show 24+j - 24=j by omega,cO (az.1 m).1];exact m)
theorem sP{j:Nat}{e:Ln}{m:List Ln}:jg V n j a (e::m)=if e.lost=true then jg V n (j+1) a m else if n<=j then n else if(dj V a e.x).e=0/\(dj V a e.x).y.same e.y then jg V n (j+1) (dj V a e.x).σ m else j:=rfl
abbrev JL(B e j m bl D s n len L:Nat)(l:ct)(r:Loop)(w:Nat):List (Nat×Obj):=
 [(D+1,.loop r),(B,.cells #[.int .i64 (w:Int)] 3 (0,0)),(e,.cells #[.int .i64 0] 24 (0,0)),(D,.deferred (some [])),(m,.cells #[.int .i64 (n:Int)] 3 (0,0)),(j,.cells #[pt s] 23 (0,0)),(bl,.cells #[.slice l len L] 31 (0,0))]
theorem HR(U:Cb.kr V d)(mx:nR.Mx d)(M':Fr No d h)(J':Row h l (fs.flatMap iU))(ok: ∀f∈fs,f.ok h)(hl:fs.length<=1000)(hk: hH h R (.T #[.I (yq V (dK.mG lB) (fs.map LV.ln):Int),.I 0])):Cl 10 #[lB.s.agg,.L l fs.length L] h R:=by
 refine yu.walk (aw.cW (x:=lB.s) λb H eb hb f1=>jX λB h2 S' r' f2=>jX λr h3 T' s' f3=>aw.fz (x:=lB.s) (f3.get (f2.get hb id) id) (dK.jj lB (λ_ h4 s X I H4 Z=>⟨_,_,rfl,jX λw h5 U' i' G=>bk i' eW λh6 d1 d2 d3=> ?_⟩) (λn=>absurd tZ n)));have F3:=(f1.tt f2).tt f3;have A:=Ask.En.JK (U.mono M') (mx.on M') F3 H4 Z;have z1:=aA r';have z2:=aA s';have z3:=aA i';have y1:=f1.1;have y3:=f3.1;have y4:=Z.fr.1;have M:Kx X h4 [(B,.C #[.I ((0:Nat):Int)] 3 (0,0)),(r,.C #[.I 0] 24 (0,0))]:=λe m=>by
  simp only[bg,cN,fx]at m;rcases m with rfl|rfl
  .exact⟨Z.fr.get (f3.get r' id) id,λq=>by have:h3.size<=B:=Z.ge _ q;omega⟩
  .exact⟨Z.fr.get s' id,λq=>by have:h3.size<=r:=Z.ge _ q;omega⟩
 have u':=En.new A (b:=w) ag;have E6:=En.off (A.on G) u' ag d2 (λy j=>d3 y j);have K6:=((M.on G).add i' u').QW (o':=.C #[pt s] 23 (0,0)) d1 (λy j=>d3 y j) (by intro e m;simp only[bg,cN,fx]at m;rcases m with rfl|rfl<;>dsimp only<;>omega);clear M i' d1 d3;rw[dy];refine AI (J'.frame E6.u.fr bX) ag λh9 f9=>⟨_,rfl,?_⟩
 obtain⟨n,en⟩: ∃n,n=wr (fs.map LV.ln):=⟨_,rfl⟩;rw[<-en];have hk: ∀i,Fr No h i->R (.T #[.I (jg V n 0 (dK.mG lB) (fs.map LV.ln):Int),.I 0]) i:=by rw[en];exact hk
 clear en;refine jX λv a7 V' j' n'=>bk j' eW λa8 d4 d5 d6=>BL.walk (jX λbl q' a0 t' o'=>⟨_,rfl,51,_,rfl,dA,λrec b1 F'=> ?_⟩)
 have y9:=f9.1;have z4:=aA j';have zc:=aA t';have E9:=E6.on f9;have v':=En.new E9 (b:=v) ag;have l':=En.off (E9.on n') v' ag d5 (λy j=>d6 y j);have z':=(((K6.on f9).on n').add j' v').QW (o':=.C #[.I (n:Int)] 3 (0,0)) d4 (λy j=>d6 y j) (by intro e m;simp only[bg,cN,fx]at m;rcases m with rfl|rfl|rfl<;>dsimp only<;>omega);have H':=En.new l' (b:=bl) ag;have f':=l'.on o';have A':=(z'.on o').add t' H';obtain⟨D,eD⟩: ∃D,D=q'.size:=⟨_,rfl⟩;rw[<-eD]at F'⊢;have nD:=En.new f' (b:=D) ag;have G':=En.new f' (b:=D+1) ag;obtain⟨c',e'⟩: ∃c',c'=BJ q' (rec .ready none):=⟨_,rfl⟩;rw[<-e'];have c0:c'[D]? =some (.deferred (some [])):=by
  rw[e'];simp only[BJ,dY,cY,<-eD];repeat (first|rfl|rw[af rfl]|rw[dy])
 have Q:c'[D+1]? =some (.loop (rec .ready none)):=by
  rw[e'];simp only[BJ,dY,cY,<-eD];repeat (first|rfl|rw[af rfl]|rw[dy])
 have p':Fr No q' c':=by rw[e'];exact(Fr.push _ _).tt (Fr.push _ _)
 clear e';have O':=f'.on p';have B':Kx X c' (JL B r w v bl D s n fs.length L l (rec .ready none) 0):=(((A'.on p').add c0 nD).add Q G').sub λe m=>by
  simp only[bg,cN,fx]at m⊢;rcases m with rfl|rfl|rfl|rfl|rfl|rfl|rfl<;>simp
 have o1:h.size<=B:=ag
 have o2:B<r:=ag
 have o3:r<w:=ag
 have o4:w<v:=ag
 have o5:v<bl:=ag
 have o6:bl<D:=ag
 clear A' z' K6 f' l' E9 E6 A nD G' H' v' u' c0 Q t' j' r' s' d4 d5 d6 p' o' n' f9 G d2 Z H4 F3 hb f1 f2 f3;have D': ∀g X a k z b',En V h g s X I a k->Kx X g (JL B r w v bl D s n fs.length L l z b')->jg V n 0 (dK.mG lB) (fs.map LV.ln)=b'->
   g[D]? =some (.deferred (some []))/\∃r0,aU (g.setIfInBounds D (.deferred none)) (AA B 0)=some (.I r0)/\∃r1,aU (g.setIfInBounds D (.deferred none)) (AA r 0)=some (.I r1)/\R (.T #[.I r0,.I r1]) (g.setIfInBounds D (.deferred none)):=by
  intro g X a k z b' E K ew;refine⟨K.at 3 rfl,_,au ((mI ag).trans (K.at 1 rfl)),_,au ((mI ag).trans (K.at 2 rfl)),?_⟩;have:=hk _ (En.off E (K.Nf 3 rfl) (by show h.size<=D;omega) (h:=g.setIfInBounds D (.deferred none)) bU (λy j=>mI j)).u.fr;rw[ew]at this;exact this
 have C': ∀g X a k z,En V h g s X I a k->Kx X g (JL B r w v bl D s n fs.length L l z 0)->jg V n 0 (dK.mG lB) (fs.map LV.ln)=n->
   ∃L',aU g (AA v 0)=some (.I L')/\aJ g (AA B 0) (.I L') λQ'=>aJ Q' (AA r 0) (.I 0) λh'=>
   h'[D]? =some (.deferred (some []))/\∃r0,aU (h'.setIfInBounds D (.deferred none)) (AA B 0)=some (.I r0)/\∃r1,aU (h'.setIfInBounds D (.deferred none)) (AA r 0)=some (.I r1)/\R (.T #[.I r0,.I r1]) (h'.setIfInBounds D (.deferred none)):=by
  intro g X a k z E K u;refine⟨_,au (K.at 4 rfl),bk (K.at 1 rfl) eW λg1 a1 a2 a3=> ?_⟩;have E1:=En.off E (K.Nf 1 rfl) (by show h.size<=B;omega) a2 (λy j=>a3 y j);have F:Kx X g1 (JL B r w v bl D s n fs.length L l z n):=Kx.put (A:= [(D+1,.loop z)]) K (o':=.C #[.I (n:Int)] 3 (0,0)) a1 (λy j=>a3 y j) (by intro e m;simp only[dk,da,bg,cN,fx]at m;rcases m with rfl|rfl|rfl|rfl|rfl|rfl<;>dsimp only<;>omega);refine bk (F.at 2 rfl) eW λT a4 a5 a6=> ?_
  have E2:=En.off E1 (F.Nf 2 rfl) (by show h.size<=r;omega) a5 (λy j=>a6 y j);have K2:Kx X T (JL B r w v bl D s n fs.length L l z n):=Kx.put (A:= [(D+1,.loop z),(B,.C #[.I (n:Int)] 3 (0,0))]) F (o':=.C #[.I 0] 24 (0,0)) a4 (λy j=>a6 y j) (by intro e m;simp only[dk,da,bg,cN,fx]at m;rcases m with rfl|rfl|rfl|rfl|rfl|rfl<;>dsimp only<;>omega);exact D' T X a k z n E2 K2 u
 have O: ∀g X a k z k' b',En V h g s X I a k->Kx X g (JL B r w v bl D s n fs.length L l z b')->En V h (ie g (D+1) k') s X I a k/\Kx X (ie g (D+1) k') (JL B r w v bl D s n fs.length L l k' b'):=by
  intro g X a k z k' b' E K;have y':=aA (K.at 0 rfl);exact⟨En.off E (K.Nf 0 rfl) (by show h.size<=D+1;omega) (by simp[ie]) (λy j=>mI j),K.QW (KN y') (λy j=>mI j) (by intro e m;simp only[bg,cN,fx]at m;rcases m with rfl|rfl|rfl|rfl|rfl|rfl<;>dsimp only<;>omega)⟩
 refine HQ (St:=λt g=> ∃X a k,k<=3*t/\t<=1000/\En V h g s X I a k/\Kx X g (JL B r w v bl D s n fs.length L l (rec .ready none) 0)/\jg V n 0 (dK.mG lB) (fs.map LV.ln)=jg V n t a ((fs.map LV.ln).drop t)) ?_ (B'.at 6 rfl) ag ⟨X,_,0,bp _,ag,O',B',rfl⟩ ?_ ?_ ?_ ?_
 .rintro t g ⟨X,a,k,_,_,E,_,_⟩;exact J'.frame E.u.fr bX
 .rintro t g g' ⟨X,a,k,E',a',E,K,e⟩ f;exact⟨X,a,k,E',a',E.on f,K.on f,e⟩
 .rintro t g f hf el ⟨X,a,k,E',a',E,K,e⟩;have:=(az.1 hf).1;rw[KO hf,sP,af el]at e;exact⟨X,a,k,ag,ag,E,K,e⟩
 .rintro t g f hf el ⟨X,a,k,a9,_,E,K,u⟩;have b0:=(az.1 hf).1;have S:=ok f (aZ hf);rw[KO hf,sP,ae (λq=>by have q:f.lost=true:=q;rw[el]at q;cases q)]at u;refine F' [.I (t:Int),f.s.agg] g _ (K.at 0 rfl) ⟨_,aO.ex f.s ⟨rfl,aO.fK (x:=f.s) λb5 T X' d' G=>⟨(K.on G).at 0 rfl,λg3 m'=> ?_⟩⟩⟩;have n5:=En.new E (b:=b5) ag;have zl:=aA (K.at 0 rfl);dsimp only at zl;obtain⟨J,C⟩:=O T X a k _ (rec .busy none) 0 (E.on G) (K.on G);have d':aO.fD g3 b5 f.s:=by rw[m'];exact(mI ag).trans d'
  rw[<-m']at J C;clear m' E K G;refine⟨_,au (C.at 4 rfl),?_⟩;by_cases c:n<=t
  .rw[gi];rw[af c]at u;obtain⟨A,M⟩:=O g3 X a k _ (rec .done (some (.exit 0))) 0 J C;obtain⟨E5,K5⟩:=O _ X a k _ (rec .exhausted (some (.exit 0))) 0 A M;exact⟨C.at 0 rfl,(λe=>by cases e),λ_=>⟨.done,some (.exit 0),dS,M.at 0 rfl,C' _ X a k _ E5 K5 u⟩⟩
  rw[ae (λe=>c (bW (aV e)))];rw[ae c]at u;have w': ∀{pp:ct}{dd:cG},Row h pp (bc dd)->Rw g3 X pp dd:=λI'=>⟨I'.frame J.u.fr bX,λhd y' hz hm=>by
   have:=jh I' (by simpa[bc]using hd) hz;have:=J.u.ge y' (.inl hm);omega⟩
  refine⟨_,au (C.at 5 rfl),aM.jQ (x:=f.f.cs) (UW d') (pg.HK J ag f.f.x (w' S.f.r1) S.f.c1 (w' S.f.r2) S.f.c2 S.f.w1 S.f.w2 λg4 P q4 d4 A x' K'=>aq.ex (rS (dj V a f.f.x).y q4 d4) ⟨_,rfl,aq.fK (x:=rS (dj V a f.f.x).y q4 d4) λb6 g5 Z' R' f6=>aG.of λP' hJ=> ?_⟩)⟩;have K5:=(C.step x').on f6;have E5:=A.on f6;have d':aO.fD g5 b5 f.s:=f6.get (x'.fr.get d' (λq=>n5 (.inl q))) id;have ry:=K'.1.frame f6 bX;clear A C x' K' w';have hx:(dj V a f.ln.x)=dj V a f.f.x:=rfl;rw[hx]at u;generalize dj V a f.f.x=o at*;have hT: ∀g,Fr No g5 g->jg V n 0 (dK.mG lB) (fs.map LV.ln)=t->P' true g:=by
   intro g fg e;have E:=E5.on fg;have K:=K5.on fg;subst hJ;dsimp only;rw[af rfl];refine bk (K.at 1 rfl) eW λg1 a1 a2 a3=> ?_
   have E1:=En.off E (K.Nf 1 rfl) (by show h.size<=B;omega) a2 (λy j=>a3 y j);have F:Kx P g1 (JL B r w v bl D s n fs.length L l (rec .busy none) t):=Kx.put (A:= [(D+1,.loop (rec .busy none))]) K (o':=.C #[.I (t:Int)] 3 (0,0)) a1 (λy j=>a3 y j) (by intro e m;simp only[dk,da,bg,cN,fx]at m;rcases m with rfl|rfl|rfl|rfl|rfl|rfl<;>dsimp only<;>omega);refine bk (F.at 2 rfl) eW λT a4 a5 a6=> ?_
   have E2:=En.off E1 (F.Nf 2 rfl) (by show h.size<=r;omega) a5 (λy j=>a6 y j);have K2:Kx P T (JL B r w v bl D s n fs.length L l (rec .busy none) t):=Kx.put (A:= [(D+1,.loop (rec .busy none)),(B,.C #[.I (t:Int)] 3 (0,0))]) F (o':=.C #[.I 0] 24 (0,0)) a4 (λy j=>a6 y j) (by intro e m;simp only[dk,da,bg,cN,fx]at m;rcases m with rfl|rfl|rfl|rfl|rfl|rfl<;>dsimp only<;>omega);obtain⟨J,C⟩:=O T P o.σ _ _ (rec .done (some .ret)) t E2 K2;obtain⟨A,M⟩:=O _ P o.σ _ _ (rec .exhausted (some .ret)) t J C;exact⟨K2.at 0 rfl,(λe=>by cases e),λ_=>⟨.done,some .ret,dS,C.at 0 rfl,D' _ P o.σ _ _ t A M e⟩⟩
  by_cases Q:o.e=0
  .rw[ae (by simp[Q])];refine aq.fz R' (aq.jQ (x:=rS f.y f.r f.e) (W8 d') (yd.jw o.y f.y ry (S.r.frame E5.u.fr bX) λg6 f7=>⟨_,rfl,rfl,?_⟩));by_cases c2:o.y.same f.y
   .rw[af ⟨Q,c2⟩]at u;rw[av c2];subst hJ;dsimp only;rw[dy];obtain⟨E8,K8⟩:=O g6 P o.σ _ _ (rec .ready none) 0 (E5.on f7) (K5.on f7);exact⟨(K5.on f7).at 0 rfl,λ_=>⟨P,o.σ,k+3,ag,ag,E8,K8,u⟩,λe=>by cases e⟩
   .rw[ae (λq=>c2 q.2)]at u;rw[aC c2];exact hT g6 f7 u
  .rw[ae (λq=>Q q.1)]at u;rw[af (cR Q)];exact⟨rfl,hT g5 (Fr.refl _ _) u⟩
 .rintro g ⟨X,a,k,_,_,E,K,u⟩;rw[dE (by rw[aD];exact bp _)]at u;obtain⟨E1,F⟩:=O g X a k _ (rec .exhausted none) 0 E K;exact⟨.ready,none,dS,K.at 0 rfl,C' _ X a k _ E1 F u⟩
theorem JT(K: hH h R (.T #[.I 0,.I 3])):Cl 10 #[aw.S.z.agg,.Z] h R:=by
 refine yu.walk (self:=.z) (aw.cW (x:=.z) λb H O G u=>jX λB T P w v=>jX λt U Q z F=>aw.fz (x:=.z) (F.get (v.get G id) id) (dK.jj .zero (λm=>absurd rfl m.2) (λ_ Z o=>⟨_,_,rfl,jX λA h5 S J r=>bk J eW λh6 M C D=> ?_⟩)));have z1:=aA w;have z2:=aA z;have y1:=u.1;have y3:=F.1;have y4:=o.1;have y5:=r.1;rw[gi];refine bk ((D B ag).trans (r.get (o.get (F.get w id) id) id)) eW λh7 a1 a2 a3=>bk ((a3 t ag).trans ((D t ag).trans (r.get (o.get z id) id))) eW λE a4 a5 a6=>⟨_,au ((a6 B ag).trans a1),_,au a4,K E ?_⟩
 exact(((((((u.tt v).tt F).tt o).tt r).fresh (Fr.of_eq (S:=λy=>y=A) C (λc j=>D c j)) (λy e=>ag)).fresh (Fr.of_eq (S:=λy=>y=B) a2 (λc j=>a3 c j)) (λy e=>ag))).fresh (Fr.of_eq (S:=λy=>y=t) a5 (λc j=>a6 c j)) (λy e=>ag)
abbrev SL(B e j bl D s len L:Nat)(l:ct)(r:Loop)(w:ct):List (Nat×Obj):=
 [(D+1,.loop r),(B,.cells #[.pointer w] 23 (0,0)),(e,.cells #[.int .i64 0] 24 (0,0)),(D,.deferred (some [])),(j,.cells #[pt s] 23 (0,0)),(bl,.cells #[.slice l len L] 31 (0,0))]
theorem P1{st:Nat->SS}(U:Cb.kr V d)(mx:nR.Mx d)(x':Fr No d h)(A':Row h l (fs.flatMap iU))(ok: ∀f∈fs,f.ok h)(hl:fs.length<=1000)(z':st 0=dK.mG lB)(r': ∀j f,fs[j]? =some f->f.lost=false/\(dj V (st j) f.f.x).e=0/\(dj V (st j) f.f.x).σ=st (j+1))(hk: ∀i s X I,En V h i s X I (st fs.length) (3*fs.length)->R (.T #[pt s,.I 0]) i):Cl 19 #[lB.s.agg,.L l fs.length L] h R:=by
 refine HO.walk (aw.cW (x:=lB.s) λb H eb hb f1=>jX λB h2 B' f' f2=>jX λr h3 C' h' M=>aw.fz (x:=lB.s) (M.get (f2.get hb id) id) (dK.jj lB (λ_ h4 s X I H4 u=>⟨_,_,rfl,jX λt h5 D' T F=>bk T eW λh6 d1 d2 d3=> ?_⟩) (λn=>absurd tZ n)));have F3:=(f1.tt f2).tt M;have w:=Ask.En.JK (U.mono x') (mx.on x') F3 H4 u;have z1:=aA f';have z2:=aA h';have z3:=aA T;have y1:=f1.1;have y3:=M.1;have y4:=u.fr.1;have K4:Kx X h4 [(B,.C #[.pointer none] 23 (0,0)),(r,.C #[.I 0] 24 (0,0))]:=λe o=>by
  simp only[bg,cN,fx]at o;rcases o with rfl|rfl
  .exact⟨u.fr.get (M.get f' id) id,λq=>by have:h3.size<=B:=u.ge _ q;omega⟩
  .exact⟨u.fr.get h' id,λq=>by have:h3.size<=r:=u.ge _ q;omega⟩
 have k':=En.new w (b:=t) ag;have E6:=En.off (w.on F) k' ag d2 (λy m=>d3 y m);have K6:=((K4.on F).add T k').QW (o':=.C #[pt s] 23 (0,0)) d1 (λy m=>d3 y m) (by intro e o;simp only[bg,cN,fx]at o;rcases o with rfl|rfl<;>dsimp only<;>omega);clear K4 T d1 d3;rw[dy];refine BL.walk (jX λbl e' G' j' c'=>⟨_,rfl,51,_,rfl,dA,λrec J' q'=> ?_⟩);have zc:=aA j';have t':=En.new E6 (b:=bl) ag;have P:=E6.on c';have o':=(K6.on c').add j' t';obtain⟨D,eD⟩: ∃D,D=e'.size:=⟨_,rfl⟩;rw[<-eD]at q'⊢;have nD:=En.new P (b:=D) ag;have s':=En.new P (b:=D+1) ag;obtain⟨A,J⟩: ∃A,A=BJ e' (rec .ready none):=⟨_,rfl⟩;rw[<-J];have c0:A[D]? =some (.deferred (some [])):=by
  rw[J];simp only[BJ,dY,cY,<-eD];repeat (first|rfl|rw[af rfl]|rw[dy])
 have S:A[D+1]? =some (.loop (rec .ready none)):=by
  rw[J];simp only[BJ,dY,cY,<-eD];repeat (first|rfl|rw[af rfl]|rw[dy])
 have d':Fr No e' A:=by rw[J];exact(Fr.push _ _).tt (Fr.push _ _)
 clear J;have n':=P.on d';rw[<-z']at n';have p':Kx X A (SL B r t bl D s fs.length L l (rec .ready none) none):=(((o'.on d').add c0 nD).add S s').sub λe o=>by
  simp only[bg,cN,fx]at o⊢;rcases o with rfl|rfl|rfl|rfl|rfl|rfl<;>simp
 have o1:h.size<=B:=ag
 have o2:B<r:=ag
 have o3:r<t:=ag
 have o5:t<bl:=ag
 have o6:bl<D:=ag
 clear o' K6 P E6 w nD s' t' k' c0 S j' f' h' d2 d' c' F u H4 F3 hb f1 f2 M;have a': ∀g X a k rc Z l',En V h g s X I a k->Kx X g (SL B r t bl D s fs.length L l rc l')->En V h (ie g (D+1) Z) s X I a k/\Kx X (ie g (D+1) Z) (SL B r t bl D s fs.length L l Z l'):=by
  intro g X a k rc Z l' E K;have m':=aA (K.at 0 rfl);exact⟨En.off E (K.Nf 0 rfl) (by show h.size<=D+1;omega) (by simp[ie]) (λy m=>mI m),K.QW (KN m') (λy m=>mI m) (by intro e o;simp only[bg,cN,fx]at o;rcases o with rfl|rfl|rfl|rfl|rfl<;>dsimp only<;>omega)⟩
 refine HQ (St:=λj g=> ∃X,j<=1000/\En V h g s X I (st j) (3*j)/\Kx X g (SL B r t bl D s fs.length L l (rec .ready none) none)) ?_ (p'.at 5 rfl) ag ⟨X,ag,n',p'⟩ ?_ ?_ ?_ ?_
 .rintro j g ⟨X,_,E,_⟩;exact A'.frame E.u.fr bX
 .rintro j g g' ⟨X,y',E,K⟩ f;exact⟨X,y',E.on f,K.on f⟩
 .intro j g f O el;rw[(r' j f O).1]at el;cases el
 .rintro j g f O el ⟨X,_,E,K⟩;have I':=(az.1 O).1;have z:=ok f (aZ O);obtain⟨_,q1,q2⟩:=r' j f O;refine q' [.I (j:Int),f.s.agg] g _ (K.at 0 rfl) ⟨_,aO.ex f.s ⟨rfl,aO.fK (x:=f.s) λb5 g2 E' i' F=>⟨(K.on F).at 0 rfl,λg3 b'=> ?_⟩⟩⟩;have n5:=En.new E (b:=b5) ag;have zl:=aA (K.at 0 rfl);dsimp only at zl;obtain⟨v,Q⟩:=a' g2 X _ _ _ (rec .busy none) none (E.on F) (K.on F);have i':aO.fD g3 b5 f.s:=by rw[b'];exact(mI ag).trans i'
  rw[<-b']at v Q;clear b' E K F;have v': ∀{pp:ct}{dd:cG},Row h pp (bc dd)->Rw g3 X pp dd:=λu'=>⟨u'.frame v.u.fr bX,λhd m' hz hm=>by
   have:=jh u' (by simpa[bc]using hd) hz;have:=v.u.ge m' (.inl hm);omega⟩
  refine⟨_,au (Q.at 4 rfl),aM.jQ (x:=f.f.cs) (UW i') (pg.HK v ag f.f.x (v' z.f.r1) z.f.c1 (v' z.f.r2) z.f.c2 z.f.w1 z.f.w2 λg4 X4 q4 d4 w w' K'=>aq.ex (rS (dj V (st j) f.f.x).y q4 d4) ⟨_,rfl,aq.fK (x:=rS (dj V (st j) f.f.x).y q4 d4) λb6 g5 F' H' f6=> ?_⟩)⟩;rw[q1,dy];rw[q2]at w;obtain⟨E8,K8⟩:=a' g5 X4 _ _ _ (rec .ready none) none (w.on f6) ((Q.step w').on f6);exact⟨((Q.step w').on f6).at 0 rfl,λ_=>⟨X4,ag,E8,K8⟩,λe=>by cases e⟩
 .rintro g ⟨X,_,E,K⟩;obtain⟨E1,C⟩:=a' g X _ _ _ (rec .exhausted none) none E K;refine⟨.ready,none,dS,K.at 0 rfl,?_⟩;generalize ie g (D+1) (rec .exhausted none)=g0 at E1 C;refine⟨_,au (C.at 4 rfl),bk (C.at 1 rfl) eW λg1 a1 a2 a3=> ?_⟩;have E2:=En.off E1 (C.Nf 1 rfl) (by show h.size<=B;omega) a2 (λy m=>a3 y m);have G:Kx X g1 (SL B r t bl D s fs.length L l (rec .exhausted none) (Sa s 0)):=Kx.put (A:= [(D+1,.loop (rec .exhausted none))]) C (o':=.C #[pt s] 23 (0,0)) a1 (λy m=>a3 y m) (by intro e o;simp only[dk,da,bg,cN,fx]at o;rcases o with rfl|rfl|rfl|rfl|rfl<;>dsimp only<;>omega);refine bk (G.at 2 rfl) eW λg2 a4 a5 a6=> ?_
  have v:=En.off E2 (G.Nf 2 rfl) (by show h.size<=r;omega) a5 (λy m=>a6 y m);have S:=(a6 B ag).trans (G.at 1 rfl);have cD:=(a6 D ag).trans (G.at 3 rfl);refine⟨cD,_,au ((mI ag).trans S),_,au ((mI ag).trans a4),?_⟩;exact hk _ s X I (En.off v (G.Nf 3 rfl) (by show h.size<=D;omega) (h:=g2.setIfInBounds D (.deferred none)) bU (λy m=>mI m))
theorem P2(e:fu.SC)(m: hH h R (.B e.up)):Cl 31 #[.agg (fu.MK e).toArray] h R:=
 Ff.walk (jX λ_ H _ j F=>⟨_,au j,m H F⟩)
theorem RE{j:Type}(P:j->Bool)(x:List j):decide (idxOf P x≥0)=x.any P:=by
 unfold idxOf;cases e:x.findIdx? P with
 |none=>
  have:x.any P=false:=by
   rw[List.any_eq_false];intro t o;exact Bool.not_eq_true _▸dh.1 e t o
  rw[this];rfl
 |some r=>
  obtain⟨H,m,_⟩:=cj.1 e;have:x.any P=true:=List.any_eq_true.2 ⟨_,dF H,m⟩;rw[this];exact av (by show(0:Int)<=(r:Int);omega)
theorem Tk(z:Row h p (x.flatMap fu.MK))(y:n=x.length)(w:x.length<=1000000000)(u: hH h R (.I (idxOf fu.SC.up x))):
  Cl 53 #[.L p n c,.func (.func 31) #[] #[]] h R:=by
 refine ir.down.walk (rF fu.SC.up (λt g K=>((0:Int)<=t/\t<(n:Int))/\aN p λA=>cI.LD g (A.add (Int.toNat t*6)) λT B C D E J M O P Q=>
  Cl 31 #[.agg #[.I T,.U B,.B C,.B D,.L E J M,.L O P Q]] g λv G=> ∃q,v=.B q/\K q G) y w (λk g S K m f r=> ?_) (λg f=>u g f))
 have U:=(az.1 m).1;have j:=z.frame f bX;obtain⟨A,rfl⟩:=j.some (λe=>by have:=cf List.length e;rw[eL fu.MK 6 fu.Hr,bG]at this;omega);exact⟨ag,ax.2 (cI.DZ (by rw[aH];exact j.gB fu.Hr m) (P2 S λo F=>⟨_,rfl,r o (f.tt F)⟩))⟩
theorem AU(r:Row h p (x.flatMap fu.MK))(m:n=x.length)(j:x.length<=1000000000)(e: hH h R (.B (x.any fu.SC.up))):
  Cl 32 #[.L p n c,.func (.func 31) #[] #[]] h R:=
 hZ.down.walk (Tk r m j λg f=>⟨_,rfl,by rw[RE];exact e g f⟩)
theorem vQ(E:En V d h s X I a k)(o:a.A.any fu.fu.up=true)(C: hH h R (.T #[((pg.ev a.now 8 0 []).s none 0 none 0).agg,.B true])):Cl 20 #[pt s] h R:=by
 refine JS.walk (aM.cW (x:=.z) λb H O r m=>aG.of λJ B=>⟨_,au ((E.on m).H.di),?_⟩);have j:=E.on m;subst B;dsimp only;rw[ae bU];obtain⟨Z,K,_⟩:=j.H.use 0;refine⟨_,au j.H.di,fu.Bu K E.G.a λP U T M S u=>⟨_,_,_,rfl,?_⟩⟩;obtain⟨x,D,rfl,own,em,_⟩:=S;have G:=E.G.a.le;rw[<-em,aD]at G;refine AU own.iz rfl ag λQ v=>⟨_,rfl,?_⟩
 have e:x.any fu.SC.up=true:=by
  rw[<-em,List.any_map]at o;exact o
 rw[e,dy];have F:=u.tt v;have z:=aA r;refine⟨_,cB (j.on F).H.di rfl,aM.gX (x:=(pg.ev a.now 8 0 []).s none 0 none 0) (F.get r id) λA t w _=>aM.fz t (C A ?_)⟩;exact(m.tt F).fresh w (λy e=>ag)

end PV
end
section
namespace PV
open jG (Ev lC)
open dK (SS Good Pt oN Mk Bk)
open Go.Proofs.YtkdgpmeojgokdaaGreatDoor.Ask (En rS Rw Bx jd tZ lG lB)
open pg (qI dj EV yZ ev)
open Go.fV (RD)
variable {V:cG→Bool} {h H f k g:ai} {R:fO} {s r:Nat} {X:Ft} {I:oN} {σ:SS} {L i p q:ct} {a w:List LV} {E:List EV}
variable {n c m d b B o j l:Nat} {K:fO} {x y:LV}
theorem tL:oC Tryz.prog 31 44 32 328 aO.S.z.agg:=⟨dA,dA,rfl⟩
theorem uL:Tryz.prog.underlying 31=some (.slice 44):=dA
theorem P3(v:LV): ∀x∈iU v,fZ x=true:=λx e=>List.all_eq_true.1 (show(iU v).all fZ=true from rfl) x e
theorem AH : ∀x∈a.flatMap iU,fZ x=true:=λx e=>by
 obtain⟨v,_,h⟩:=List.mem_flatMap.1 e;exact P3 v x h
theorem BM(own:Go.Den.Own h p n c 32 (a.flatMap iU))(u:Row h q (w.flatMap iU))(t:m=w.length)(v:n+m<=100000)(e: ∀P C H,Go.Den.Own H P (n+m) C 32 ((a++w).flatMap iU)->Fr (aP p) h H->(∀y,aP P y->aP p y\/h.size<=y)->K (.L P (n+m) C) H):
  aT Tryz.prog (Builtin.append_ #[31,31] 31 #[.L p n c,.L q m d]) h K:=by
 refine dR tL uL own u (by rw[eL iU 32 lu,t]) AH ag ag λP C H O _ F g=>e P C H ?_ F g
 rw[cS];exact O
theorem Pz{e:LV}(t:aO.fD h b e.s):Row h (Sa b 0) ([e].flatMap iU):=
 .inr ⟨_,rfl,gH t (λj v u=>by rw[bK];simpa using u)⟩
theorem V6 {b : Nat} (hb : h[b]? = some (.cells #[] 44 (0, 0))) : Go.Den.Own h (some ⟨b, 0, none⟩) 0 0 32 (([] : List LV).flatMap iU) :=
  .row b 0 #[] 44 rfl hb (by omega) (by simp) (by simp) (λj v hj => by simp at hj)
def va:LV:=⟨⟨ev 3 1 5 [],none,0,none,0⟩,⟨0,0,1,0,5, []⟩,none,0,false,false⟩
def vb:LV:=⟨⟨ev 4 1 5 [],none,0,none,0⟩,⟨0,12,0,0,0, []⟩,none,0,false,false⟩
def vc:LV:=⟨⟨ev 3 1 5 [],none,0,none,0⟩,⟨0,0,1,0,5, []⟩,none,0,false,true⟩
theorem R9:va.ok h:=⟨⟨Row.nil,bp _,Row.nil,bp _,dS,dS⟩,Row.nil⟩
theorem P4:vb.ok h:=⟨⟨Row.nil,bp _,Row.nil,bp _,dS,dS⟩,Row.nil⟩
theorem UJ:vc.ok h:=⟨⟨Row.nil,bp _,Row.nil,bp _,dS,dS⟩,Row.nil⟩
def s5:SS:=(dj pg.V0 pg.s1 (ev 4 1 5 [])).σ
theorem a5:dj V pg.s1 (ev 4 1 5 [])=⟨s5,0,lG 0 12⟩:=dA
theorem n5:s5.now=4/\s5.A.any fu.fu.up=true:=⟨dA,dA⟩
theorem j1:yq V (dK.mG lB) [va.ln,vb.ln]=2:=by
 show jg V 2 0 _ _=_;rw[sP,dy,dy,af (by show(dj V _ (ev 3 1 5 [])).e=0/\RD.same (dj V _ (ev 3 1 5 [])).y _;rw[pg.a1];exact⟨rfl,dS⟩)];show jg V 2 1 (dj V _ (ev 3 1 5 [])).σ _=_;rw[pg.a1,sP,dy,dy,af (by show(dj V _ (ev 4 1 5 [])).e=0/\RD.same (dj V _ (ev 4 1 5 [])).y _;rw[a5];exact⟨rfl,dS⟩)];rfl
theorem j2:yq V (dK.mG lB) [vc.ln,vb.ln]=1:=by
 show jg V 2 0 _ _=_;rw[sP,af (by rfl),sP,dy,dy,ae];show¬((dj V _ (ev 4 1 5 [])).e=0/\RD.same (dj V _ (ev 4 1 5 [])).y _);have e:(dj V (dK.mG lB) (ev 4 1 5 [])).y=⟨0,0,1,0,5, []⟩:=dA
 rw[e];exact λq=>absurd q.2 dS
def D0:Nat->SS
 |0=>dK.mG lB
 |1=>pg.s1
 |_=>s5
theorem zE(u:h[b]? =some (.C (x.s.l++y.s.l).toArray 44 (0,0))):Row h (Sa b 0) ([x,y].flatMap iU):=
 .inr ⟨_,rfl,gH u (λj v t=>by
  rw[bK,List.getElem?_toArray];have e: [x,y].flatMap iU=x.s.l++y.s.l:=by simp[fU]
  rw[e]at t;exact t)⟩
theorem P6{J:Int->Int->ai->Prop}(U:Cb.kr V f)(mx:nR.Mx f)(g':Fr No f h)(ox: ∀g,x.ok g)(oy: ∀g,y.ok g)(hJ: ∀g,Fr No h g->J (yq V (dK.mG lB) [x.ln,y.ln]:Int) 0 g):
  (Cl 6 #[] h λh' D=>aw.EX λG=>h'=G.agg/\Kp h D [(Sa o 0),(Sa B 0)]/\bf D (.C (x.s.l++y.s.l).toArray 44) λQ a'=>
   Cl 10 #[G.agg,.L (Sa Q 0) 2 2] a' λC z=> ∃t T,C=.T #[.I t,.I T]/\J t T z)/\
  (bf h (.C (x.s.l++y.s.l).toArray 44) λS b'=>Cl 6 #[] b' λi' c'=>aw.EX λM=>i'=M.agg/\
   Cl 10 #[M.agg,.L (Sa S 0) 2 2] c' λj' d'=> ∃O P,j'=.T #[.I O,.I P]/\J O P d')/\True:=by
 have go: ∀(g:ai)(b:Nat),Fr No h g->Row g (Sa b 0) ([x,y].flatMap iU)->Cl 10 #[lB.s.agg,.L (Sa b 0) 2 2] g λC z=> ∃t T,C=.T #[.I t,.I T]/\J t T z:=λg b u e'=>
  HR (fs:= [x,y]) U mx (g'.tt u) e' (λu hf=>by
   rcases bg.1 hf with rfl|hf
   .exact ox g
   .rw[bP.1 hf];exact oy g) (by show 2<=1000;omega) λH f'=>⟨_,_,rfl,hJ H (u.tt f')⟩
 refine⟨jd λk F=>aw.ex lB.s ⟨rfl,F.kp,jX λb v Z A e=>go v b (F.tt e) (zE A)⟩,jX λb k Z A F=>jd λv e=>aw.ex lB.s ⟨rfl,go v b (F.tt e) ((zE A).frame e bX)⟩,trivial⟩
theorem Tl{J:ct->Int->ai->Prop}(U:Cb.kr V f)(P:nR.Mx f)(u:Fr No f h)(hJ: ∀g s X I,Fr No h g->En V f g s X I s5 6->J (Sa s 0) 0 g):
  (Cl 6 #[] h λi' M=>aw.EX λQ=>i'=Q.agg/\Kp h M [(Sa o 0),(Sa B 0)]/\bf M (.C (va.s.l++vb.s.l).toArray 44) λb' d'=>
   Cl 19 #[Q.agg,.L (Sa b' 0) 2 2] d' λG C=> ∃t T,G=.T #[.pointer t,.I T]/\J t T C)/\
  (bf h (.C (va.s.l++vb.s.l).toArray 44) λc' e'=>Cl 6 #[] e' λj' f'=>aw.EX λS=>j'=S.agg/\
   Cl 19 #[S.agg,.L (Sa c' 0) 2 2] f' λk' g'=> ∃Z a',k'=.T #[.pointer Z,.I a']/\J Z a' g')/\True:=by
 have go: ∀(g:ai)(b:Nat),Fr No h g->Row g (Sa b 0) ([va,vb].flatMap iU)->Cl 19 #[lB.s.agg,.L (Sa b 0) 2 2] g λG C=> ∃t T,G=.T #[.pointer t,.I T]/\J t T C:=λg b F h'=>
  P1 (fs:= [va,vb]) (st:=D0) U P (u.tt F) h' (λF hf=>by
   rcases bg.1 hf with rfl|hf
   .exact R9
   .rw[bP.1 hf];exact P4) (by show 2<=1000;omega) rfl (λO F hf=>by
    rcases O with _|_|O
    .cases hf;show _/\(dj V _ (ev 3 1 5 [])).e=0/\(dj V _ (ev 3 1 5 [])).σ=_;exact⟨rfl,by show(dj V (dK.mG lB) (ev 3 1 5 [])).e=0;rw[pg.a1],by show(dj V (dK.mG lB) (ev 3 1 5 [])).σ=pg.s1;rw[pg.a1]⟩
    .cases hf;exact⟨rfl,by show(dj V pg.s1 (ev 4 1 5 [])).e=0;rw[a5],by show(dj V pg.s1 (ev 4 1 5 [])).σ=s5;rw[a5]⟩
    .cases hf) λH s X I e=>⟨_,_,rfl,hJ H s X I (F.tt e.u.fr) ⟨e.H,e.G,e.hk,⟨(u.tt F).tt e.u.fr,λc hc=>db (u.tt F).1 (e.u.ge c hc)⟩,U,P⟩⟩
 refine⟨jd λk v=>aw.ex lB.s ⟨rfl,v.kp,jX λb A eb D z=>go A b (v.tt z) (zE D)⟩,jX λb k eb D v=>jd λA z=>aw.ex lB.s ⟨rfl,go A b (v.tt z) ((zE D).frame z bX)⟩,trivial⟩
theorem BN(U:Cb.kr V f)(S:nR.Mx f)(u:Fr No f h)(hk: hH h R (.B true)):Cl 8 #[] h R:=by
 refine HP.walk (aO.fK (x:=va.s) λb k eb P f1=>yd.lW 0 rfl 12 λh2 z=>aq.ex (rS (lG 0 12) none 0) ⟨rfl,aO.fK (x:=vb.s) λZ h3 k' d' A=>aO.fz (x:=va.s) ((z.tt A).get P id) (aO.fK (x:=va.s) λb2 h4 l' i' M=>bk i' (by show 31<32;omega) λD d1 d2 G=> ?_)⟩);have z1:=aA P;have z2:=aA d';have y1:=f1.1;have y2:=z.1;have y3:=A.1;have F:Fr No h D:=((((f1.tt z).tt A).tt M)).fresh (Fr.of_eq (S:=λy=>y=b2) d2 (λc hc=>G c hc)) (λy e=>ag);have c':aO.fD D b va.s:=(G b ag).trans (M.get ((z.tt A).get P id) id);have Q:aO.fD D Z vb.s:=(G Z ag).trans (M.get d' id);have j':aO.fD D b2 vc.s:=d1;refine aG.of λJ t=>aO.fz (x:=va.s) c' (aO.fz (x:=vb.s) Q (P6 U S (u.tt F) (λ_=>R9) (λ_=>P4) λh6 C=> ?_))
 rw[j1];subst t;dsimp only;refine aG.of λJ t=>aO.fz (x:=vc.s) (C.get j' id) (aO.fz (x:=vb.s) (C.get Q id) (P6 U S ((u.tt F).tt C) (λ_=>UJ) (λ_=>P4) λh7 f7=> ?_))
 rw[j2];subst t;dsimp only;have v:=C.tt f7;refine aG.of λJ t=>aO.fz (x:=va.s) (v.get c' id) (aO.fz (x:=vb.s) (v.get Q id) (Tl U S ((u.tt F).tt v) λh8 s X I f8 T=> ?_))
 subst t;dsimp only;refine JT λh9 O=>⟨_,_,rfl,vQ (T.on O) n5.2 λn' a'=>aM.ex ((ev s5.now 8 0 []).s none 0 none 0) ⟨_,rfl,aM.fK (x:=(ev s5.now 8 0 []).s none 0 none 0) λb3 o' m' e' b'=> ?_⟩⟩
 have f':=T.on ((O.tt a').tt b');rw[gi,gi,gi,gi,gi,af (by rfl)];refine ax.2 ⟨_,au f'.H.di,?_⟩;rw[n5.1,gi,gi,gi];rw[n5.1]at e';refine aM.fz e' (pg.GW (ev 4 8 0 []) (ev 4 8 0 []) (p:=none) (c:=0) (q:=none) (d:=0) (p':=none) (c':=0) (q':=none) (d':=0) Row.nil Row.nil Row.nil Row.nil λh' g'=>⟨_,rfl,?_⟩);rw[av rfl];exact hk h' (F.tt (v.tt (f8.tt (((O.tt a').tt b').tt g'))))
theorem RG{x:qI}(e:(dj V σ x).e≠0):(dj V σ x).σ=σ:=by
 unfold dj at e⊢;split at e
 .split at e
  .split at e<;>exact absurd rfl e
  .rename_i A b;rw[af A,ae b]
 .rename_i A;rw[ae A]
def Inv(V:cG->Bool)(h g:ai)(s:Nat)(I:oN)(j:Nat)(p:ct)(l c:Nat):Prop:=
 ∃(X:Ft)(σ:SS)(a:List LV),En V h g s X I σ (3*j)/\a.length<=j/\l=a.length/\Go.Den.Own g p l c 32 (a.flatMap iU)/\(∀y,aP p y->¬(X.M y\/X.D y)/\h.size<=y)/\
  (∀v∈a,v.f.ok h/\Row g v.r (bc v.y.b)/\(v.y.b≠ []->∀z,aP v.r z->¬X.M z/\¬aP p z))/\zD V (dK.mG lB) (a.map LV.ln) σ
theorem KP{S:Nat->Prop}{d:cG}(C:Row h q (bc d))(F:Fr S h H)(v:d≠ []->∀z,aP q z->¬S z):Row H q (bc d):=by
 by_cases e:d= []
 .rw[e];exact Row.nil
 .exact C.frame F (λA t u=>v e A.block ⟨A,t,rfl⟩ u)
theorem RH{J2:ct->Nat->Nat->ai->Prop}(U:Cb.kr V h)(mx:nR.Mx h)(O':Inv V h g s I j p l c)(hj:j<E.length)(a1:j<40)(w':Row h i (E.flatMap yZ))(ok: ∀F∈E,F.ok h)(hR: hH h R (.B true))(next: ∀p' l' c' Q,Inv V h Q s I (j+1) p' l' c'->J2 p' l' c' Q):
  ((0:Int)<=(j:Int)/\(j:Int)<((E.length:Nat):Int))/\
  aN i λA=>aM.cC g (A.add (Int.toNat (j:Int)*24)) λS'=>Cl 7 #[S'.agg] g λU' f'=> ∃y',U'=.B y'/\
  if y'=true then Cl 8 #[] f' λV' L'=> ∃z',V'=.B z'/\R (.B z') L'
  else((0:Int)<=(j:Int)/\(j:Int)<((E.length:Nat):Int))/\
  aN i λG'=>aM.cC f' (G'.add (Int.toNat (j:Int)*24)) λT'=>Cl 9 #[pt s,T'.agg] f' λX' M'=>aq.EX λB'=> ∃C',X'=.T #[B'.agg,.I C']/\
  bf M' (.C aq.S.z.arr 40) λb J'=>aq.du J' (AA b 0) B' λb'=>
  aG (λ(R':ct) (Q' P':Nat) (K':ai)=>J2 R' Q' P' K') (λm'=>
   if(C'==0)=true then((0:Int)<=(j:Int)/\(j:Int)<((E.length:Nat):Int))/\
    aN i λd'=>aM.cC b' (d'.add (Int.toNat (j:Int)*24)) λt=>aq.cC b' (AA b 0) λT=>
    bf b' (.C #[.U t.f0,.I t.f1,.U t.f2,.I t.f3,.U t.f4,.I t.f5,.B t.f6,.U t.f7,.U t.f8,.S t.f9,.S t.f10,.B t.f11,.U t.f12,.U t.f13,.S t.f14,.S t.f15,.I t.f16,.I t.f17,.I t.f18,.L t.FZ t.F0 t.Ga,.U t.f20,.U t.f21,.B t.f22,.L t.Gb t.Gc t.Gd,.U T.f0,.I T.f1,.I T.f2,.I T.f3,.U T.f4,.L T.TR T.f5l T.TT,.B false,.B false] 44) λH' e'=>
    Kp b' e' [(Sa b 0),(some (d'.add (Int.toNat (j:Int)*24)))]/\
    aT Tryz.prog (Builtin.append_ #[31,31] 31 #[.L p l c,.L (Sa H' 0) 1 1]) e' λZ' n'=> ∃F' E' D',Z'=.L F' E' D'/\
    Kp e' n' [(Sa b 0),(some (d'.add (Int.toNat (j:Int)*24)))]/\m' F' E' D' n'
   else m' p l c b'):=by
 obtain⟨X,σ,a,k',a2,rfl,own,hp,hv,j'⟩:=O';obtain⟨F,hf⟩: ∃F,E[j]? =some F:=⟨_,aj hj⟩;have O:=ok F (aZ hf);obtain⟨A,rfl⟩: ∃A,i=some A:=w'.some (λe=>by
  have:=cf List.length e;rw[eL yZ 24 (λ_=>rfl)]at this;simp at this;omega)
 have rg: ∀Q,Fr No h Q->dN (A.add (j*24)) (yZ F) 0 Q:=λQ fg=>(w'.frame fg bX).gB pg.PR hf
 have za:A.block<h.size:=by
  have:=nZ (kk.1 (rg h (Fr.refl _ _)) 0 (.U F.x.now) rfl);rw[jU,jU]at this;exact this
 refine⟨ag,ax.2 (aM.jQ (x:=F.cs) (rg g k'.u.fr) (pg.PU F λh3 v f3=>⟨_,rfl,?_⟩))⟩;have P:=k'.on f3;cases v with
 |true=>
  rw[af rfl];exact BN U mx P.u.fr λh4 f4=>⟨_,rfl,hR h4 (P.u.fr.tt f4)⟩
 |false=>
 rw[dy];have x': ∀{pp:ct}{dd:cG},Row h pp (bc dd)->Rw h3 X pp dd:=λv'=>⟨v'.frame P.u.fr bX,λu z C hm=>by
  have:=jh v' (by simpa[bc]using u) C;have:=P.u.ge z (.inl hm);omega⟩
 refine⟨ag,ax.2 (aM.jQ (x:=F.cs) (rg h3 P.u.fr) (pg.DA P ag F.x (x' O.r1) O.c1 (x' O.r2) O.c2 O.w1 O.w2 λh4 G q4 d4 E4 a' h'=>aq.ex (rS (dj V σ F.x).y q4 d4) ⟨_,rfl,aq.fK (x:=rS (dj V σ F.x).y q4 d4) λb h5 eb M f5=>aG.of λJ3 I'=> ?_⟩))⟩;have A':=j'.snoc (x:=F.x);have eE:=RG (V:=V) (σ:=σ) (x:=F.x);generalize dj V σ F.x=Z at*;subst I';dsimp only;have E5:=E4.on f5;have y3:=f3.1;have y4:=a'.fr.1;have y5:=f5.1;have g': ∀y,aP p y->y<g.size:=λy D=>own.dI D
 have u':Go.Den.Own h5 p a.length c 32 (a.flatMap iU):=((own.frame f3 bX).frame a'.fr (λy D hm=>(hp y D).1 (.inl hm))).frame f5 bX;have S: ∀y,aP p y->¬(G.M y\/G.D y)/\h.size<=y:=λy D=>⟨λq=>by
  have:=g' y D;rcases q with q|q
  .rcases a'.hN y q with q|q
   .exact(hp y D).1 (.inl q)
   .omega
  .rcases a'.ji y q with q|q
   .exact(hp y D).1 (.inr q)
   .omega,(hp y D).2⟩
 have s': ∀v∈a,v.f.ok h/\Row h5 v.r (bc v.y.b)/\(v.y.b≠ []->∀z,aP v.r z->¬G.M z/\¬aP p z):=λv hm=>by
  obtain⟨q1,q2,q3⟩:=hv v hm;have r3:=q2.frame f3 bX;refine⟨q1,(KP r3 a'.fr (λu z C=>(q3 u z C).1)).frame f5 bX,λu z C=>⟨λhm=> ?_,(q3 u z C).2⟩⟩;have:=jh r3 (by simpa[bc]using u) C;rcases a'.hN z hm with q|q
  .exact(q3 u z C).1 q
  .omega
 by_cases c1:Z.e=0
 .rw[af (by simp[c1])];refine⟨ag,ax.2 (aM.jQ (x:=F.cs) (rg h5 E5.u.fr) (aq.fz M (jX λb1 h6 a0 o' f6=>⟨f6.kp,?_⟩)))⟩;have y6:=f6.1;have q':aO.fD h6 b1 (⟨F,Z.y,q4,d4,false,false⟩:LV).s:=o';clear o';obtain⟨i',ew⟩: ∃i':LV,i'=⟨F,Z.y,q4,d4,false,false⟩:=⟨_,rfl⟩;rw[<-ew]at q';refine BM (u'.frame f6 bX) (Pz q') rfl ag λp' c' h7 o7 f7 g7=>⟨_,_,_,rfl,?_,?_⟩
  .refine f7.Ts λpp r' x e hx=> ?_
   have hl:=g' _ hx;simp only[bg,cN,fx]at r';rcases r' with rfl|rfl
   .have e:=aX e;rw[<-e]at hl;have hl:b<g.size:=hl;omega
   .have e:=aX e;have:=(S _ hx).2;rw[<-e]at this;have:h.size<=A.block:=by rw[jU]at this;exact this
    omega
  .have J:=E5.on f6;have fX: ∀y,G.M y\/G.D y->¬aP p y:=λy D M=>(S y M).1 D
   have E7:En V h h7 s G I Z.σ (3*(j+1)):=⟨J.H.frame f7 fX,J.G,J.hk,⟨J.u.fr.fresh f7 (λy M=>(S y M).2),J.u.ge⟩,J.U,J.mx⟩;refine next p' _ c' h7 ⟨G,Z.σ,a++ [i'],E7,by rw[aB];show a.length+1<=j+1;omega,by rw[aB];rfl,o7,λy D=> ?_,λv hm=> ?_,?_⟩
   .rcases g7 y D with A|A
    .exact S y A
    .exact⟨En.new J A,bW J.u.fr.1⟩
   .have t': ∀v:LV,v.f.ok h->Row h5 v.r (bc v.y.b)->(v.y.b≠ []->∀z,aP v.r z->¬G.M z/\¬aP p z)->v.f.ok h/\Row h7 v.r (bc v.y.b)/\(v.y.b≠ []->∀z,aP v.r z->¬G.M z/\¬aP p' z):=λv q1 q2 q3=>by
     refine⟨q1,KP (q2.frame f6 bX) f7 (λu z C=>(q3 u z C).2),λu z C=>⟨(q3 u z C).1,λhm=> ?_⟩⟩;have:=jh q2 (by simpa[bc]using u) C;rcases g7 z hm with A|A
     .exact(q3 u z C).2 A
     .omega
    rcases bH.1 hm with hm|hm
    .obtain⟨q1,q2,q3⟩:=s' v hm;exact t' v q1 q2 q3
    .rw[bP.1 hm,ew];refine t' ⟨F,Z.y,q4,d4,false,false⟩ O (h'.1.frame f5 bX) (λu z C=>⟨(h'.2 u z C).2,λM=> ?_⟩);have:=g' z M;rcases(h'.2 u z C).1 with A|A
     .omega
     .exact(S z M).1 (.inr A)
   .rw[ba,ew];exact A' c1
 .rw[ae (cR c1)];rw[eE c1]at E5;exact next p _ c h5 ⟨G,σ,a,by have:=E5;exact this,ag,rfl,u',S,s',j'⟩
theorem Na(U:Cb.kr V h)(M:nR.Mx h)(C:Inv V h g s I j p l c)(D:j<=1000): ∃(a:List LV)(σ:SS),l=a.length/\a.length<=j/\Go.Den.Own g p l c 32 (a.flatMap iU)/\Fr No h g/\(∀G,Fr No g G->∀v∈a,v.ok G)/\zD V (dK.mG lB) (a.map LV.ln) σ:=by
 obtain⟨X,σ,a,e,z,rfl,own,J,u,A⟩:=C;exact⟨a,σ,rfl,z,own,e.u.fr,λG F v t=>⟨EV.ok.on (u v t).1 (e.u.fr.tt F),(u v t).2.1.frame F bX⟩,A⟩
theorem V7(U:Cb.kr V h)(M:nR.Mx h)(F:Fr No h k)(t:Pt g s X I (dK.mG lB))(u:Nb k X g):Inv V h g s I 0 none 0 0:=
 ⟨X,_, [],Ask.En.JK U M F t u,bp _,rfl,.nil rfl rfl rfl rfl,(λy A=>by obtain⟨C,e,_⟩:=A;cases e),(λv z=>by cases z),rfl⟩
def vl(t:Bool):LV:=⟨⟨ev 0 1 77777 [],none,0,none,0⟩,⟨0,0,0,0,0, []⟩,none,0,t,true⟩
theorem Sb{t:Bool}:(vl t).ok h:=⟨⟨Row.nil,bp _,Row.nil,bp _,eh 0,eh 0⟩,Row.nil⟩
abbrev app(A b:Value):Sem Value:=Builtin.append_ #[31,31] 31 #[A,b]
theorem V8(u:g.size<=b): ∀y,aP (some ((AA b 0):Addr)) y->g.size<=y:=λy ⟨A,e,t⟩=>by
 have e:=aX e;rw[<-t,<-e];exact u
theorem wD(z:h[b]? =some (.C #[] 44 (0,0)))(G:Row h q (w.flatMap iU))(D:m=w.length)(M:m<=10000)(A: ∀P C H,Go.Den.Own H P m C 32 (w.flatMap iU)->Fr (λy=>y=b) h H->(∀y,aP P y->y=b\/h.size<=y)->K (.L P m C) H):
  aT Tryz.prog (app (.L (Sa b 0) 0 0) (.L q m d)) h K:=by
 refine BM (V6 z) G D ag λP C H O F g=> ?_
 rw[da,bK]at O;rw[bK];have e: ∀y,aP (some ((AA b 0):Addr)) y->y=b:=λy ⟨J,t,v⟩=>by
  have t:=aX t;rw[<-v,<-t]
 exact A P C H O (F.mono λy _ u=>e y u) (λy u=>(g y u).imp (e y) id)
theorem KQ{fs:List LV}(U:Cb.kr V f)(M:nR.Mx f)(u:Fr No f h)(z:Row h L (fs.flatMap iU))(v:n=fs.length)(O: ∀F∈fs,F.ok h)(t:fs.length<=1000)(e: hH h R (.T #[.I (yq V (dK.mG lB) (fs.map LV.ln):Int),.I 0])):Cl 10 #[lB.s.agg,.L L n r] h R:=by
 subst v;exact HR U M u z O t e
theorem Qa(own:Go.Den.Own h p n c 32 (a.flatMap iU))(t:n=a.length)(e:m<=n):Row h (cQ p c 0 32) ((a.take m).flatMap iU):=by
 have:=(own.sub (l:=0) (u:=m) (bQ _) e).iz;rw[kH iU 32 lu,Nat.zero_mul,gx]at this;exact this
theorem Qb(own:Go.Den.Own h p n c 32 (a.flatMap iU))(t:n=a.length)(e:m<=n):Row h (cQ p c m 32) ((a.drop m).flatMap iU):=by
 have:=(own.sub (l:=m) (u:=n) e (bp _)).iz;rw[kH iU 32 lu,t,fv,lO iU 32 lu]at this;exact this
theorem _root_.Go.Proofs.YtkdgpmeojgokdaaGreatDoor.judgeLost_ok(i : Option Addr)(el ec : Nat)(pos : Int)(hv : rk Tryz.prog h 22 (.slice i el ec))(_ : (Lit.int .i64 pos).wf = true)(ut : ∃ V, Cb.kr V h)(mx : nR.Mx h):
    NB Tryz.prog 4 #[.slice i el ec, .int .i64 pos] h := by
  obtain ⟨E, rfl, a8, a5⟩ := pg.PT hv
  obtain ⟨V, U⟩ := ut
  clear hv
  unfold NB
  generalize hR : (fun (j' : Value) H => j' = .bool true ∧ Fr No h H) = R
  have hk : ∀ H, Fr No h H → R (.bool true) H := λH hf => by rw [← hR]; exact ⟨rfl, hf⟩
  clear hR
  refine ze.walk (jd λk f1 => aw.ex lB.s ⟨rfl, dK.jj lB (λ_ h2 s X I H2 u2 => ⟨_, _, rfl, aG.of λb6 hJ => ?_⟩) (λn => absurd tZ n)⟩)
  have i0 := V7 U mx f1 H2 u2
  rw [if_neg (by decide)]
  subst hJ
  dsimp only
  rw [if_neg (by simp)]
  refine ⟨λp l c v' g => ∃ j : Nat, v' = (j : Int) ∧ j ≤ E.length ∧ j ≤ 40 ∧ Inv V h g s I j p l c, λ_ _ _ v' _ => 41 - v'.toNat, ⟨0, rfl, Nat.zero_le _, by omega, i0⟩, ?_⟩
  rintro p l c _ g ⟨j, rfl, hj, b8, w'⟩
  refine aG.of λJ1 C' => ?_
  by_cases cl : j < E.length ∧ j < 40
  · rw [if_pos (decide_eq_true (by omega)), decide_eq_true (by omega)]
    subst C'
    dsimp only
    rw [if_pos rfl]
    refine aG.of λJ2 q' => RH U mx w' cl.1 cl.2 a8 a5 hk λP l' C g' a6 => ?_
    subst q'
    dsimp only
    rw [bJ (by omega) (by omega)]
    exact ⟨⟨j + 1, rfl, by omega, by omega, a6⟩, by show 41 - Int.toNat ((j : Int) + 1) < 41 - Int.toNat (j : Int); omega⟩
  have I' : J1 false g := by
    subst C'
    dsimp only
    rw [if_neg (by decide)]
    obtain ⟨a, σ, rfl, b9, own, Fg, A', B'⟩ := Na U mx w' (by omega)
    clear w'
    refine aO.fK (x := (vl false).s) λb2 h3 b7 t' f3 => aG.of λJ2 q' => ?_
    have y3 := f3.1
    have z2 := aA t'
    have key : ∀ h4, Fr No h3 h4 → J2 ((a.length + 1 : Nat) : Int) 0 h4 := by
      intro h4 G
      subst q'
      dsimp only
      have e1 : IntKind.wrap .i64 (((a.length : Nat) : Int) + 1) = ((a.length + 1 : Nat) : Int) := bJ (by omega) (by omega)
      rw [e1]
      refine aG.of λJ3 D' => ?_
      have F4 := f3.tt G
      have al : J3 true h4 := by
        subst D'
        dsimp only
        rw [if_pos rfl, if_pos (by decide), if_pos (by simp)]
        exact BN U mx (Fg.tt F4) λO v => ⟨_, rfl, hk O ((Fg.tt F4).tt v)⟩
      rw [if_neg (by decide), if_neg (by simp)]
      by_cases q1 : pos < 0
      · rw [if_pos (decide_eq_true q1)]; exact al
      rw [if_neg (λe => q1 (of_decide_eq_true e))]
      obtain ⟨m, rfl⟩ := Int.eq_ofNat_of_zero_le (show 0 ≤ pos by omega)
      by_cases q2 : m ≤ a.length
      case neg => rw [decide_eq_true (by omega)]; exact al
      rw [decide_eq_false (by omega)]
      clear al
      subst D'
      dsimp only
      rw [if_neg (by decide)]
      refine bk (G.get t' id) (by show 30 < 32; omega) λO d1 d2 d3 => aG.of λJ4 E' => ?_
      have G' : aO.fD O b2 (vl true).s := d1
      have F5 : Fr No g O := F4.fresh (Fr.of_eq (S := λy => y = b2) d2 (λc hc => d3 c hc)) (λy e => by omega)
      have z5 : b2 < O.size := aA G'
      clear d1 d2 d3
      have J' := own.frame F5 (λ_ _ => id)
      have T' : ∀ t P l' C, Fr No O t → Go.Den.Own t P l' C 32 ((a.take m ++ vl true :: a.drop m).flatMap iU) → J4 P l' C t := by
        intro t P l' C F o6
        subst E'
        dsimp only
        have a3 : l' = (a.take m ++ vl true :: a.drop m).length := by
          have := o6.length
          rw [eL iU 32 lu] at this
          omega
        have ll : (a.take m ++ vl true :: a.drop m).length = a.length + 1 := by
          rw [List.length_append, List.length_cons, List.length_take, List.length_drop]; omega
        refine jd λS u => aw.ex lB.s ⟨rfl, KQ U mx ((Fg.tt F5).tt (F.tt u)) (o6.iz.frame u (λ_ _ => id)) a3 (λj' hv => ?_) (by rw [ll]; omega) λT M => ⟨_, _, rfl, BN U mx (((Fg.tt F5).tt (F.tt u)).tt M) λh9 f9 => ⟨_, rfl, ?_⟩⟩⟩
        · rcases List.mem_append.1 hv with A | A
          · exact A' S (F5.tt (F.tt u)) j' (List.mem_of_mem_take A)
          · rcases List.mem_cons.1 A with rfl | A
            · exact Sb
            · exact A' S (F5.tt (F.tt u)) j' (List.mem_of_mem_drop A)
        · have A2 := B'
          rw [← List.take_append_drop m a, List.map_append] at A2
          have jt := JO (l := (vl true).ln) A2 rfl rfl
          rw [List.length_map, List.length_take, Nat.min_eq_left q2] at jt
          rw [List.map_append, List.map_cons, jt, if_pos rfl, if_pos (by decide), show (((m : Nat) : Int) == ((m : Nat) : Int)) = true by simp]
          exact hk h9 ((((Fg.tt F5).tt (F.tt u)).tt M).tt f9)
      clear E'
      have le := own.le
      have tn : Int.toNat (m : Int) = m := Int.toNat_natCast m
      rw [tn]
      have c0 : (a.take m).length = m := by rw [List.length_take]; omega
      have a7 : (a.drop m).length = a.length - m := List.length_drop ..
      have x' : ∀ t P C B, Fr No O t → Go.Den.Own t P (m - 0) C 32 ((a.take m).flatMap iU) → (∀ y, aP P y → O.size ≤ y) → aO.fD t B (vl true).s →
          aT Tryz.prog (app (.slice P (m - 0) C) (.slice (some ⟨B, 0, none⟩) 1 1)) t λa9 U' => ∃ M' L' K', a9 = .slice M' L' K' ∧
          aT Tryz.prog (app (.slice M' L' K') (.slice (cQ p c m 32) (a.length - m) (c - m))) U' λb0 V' => ∃ Q' P' O', b0 = .slice Q' P' O' ∧ J4 Q' P' O' V' := by
        intro t P C B F o6 g6 k'
        refine BM o6 (Pz k') rfl (by omega) λp2 c2 S o7 u g7 => ⟨_, _, _, rfl, ?_⟩
        have F7 := F.fresh u g6
        refine BM o7 (Qb (J'.frame F7 (λ_ _ => id)) rfl q2) a7.symm (by omega) λp3 c3 T o8 M g8 => ⟨_, _, _, rfl, T' T p3 _ c3 (F7.fresh M λy hy => ?_) ?_⟩
        · rcases g7 y hy with A | A
          · exact g6 y A
          · have := F.1; omega
        · rw [List.append_assoc] at o8; exact o8
      have r5 : ∀ t, Fr No O t → Row t (cQ p c 0 32) ((a.take m).flatMap iU) := λt F => Qa (J'.frame F (λ_ _ => id)) rfl q2
      refine ⟨⟨by omega, by omega⟩, aO.fz G' ⟨⟨by omega, by omega⟩, jX λQ t i' D F => ⟨F.kp, wD D (r5 t F) (by omega) (by omega) λP C S o7 u g7 => ⟨_, _, _, rfl, ?_, jX λJ T a' z M => ?_⟩, jX λJ S a' z u => wD (u.get D id) (r5 S (F.tt u)) (by omega) (by omega) λP C T o8 M g8 => ⟨_, _, _, rfl, ?_⟩, trivial⟩, jX λJ t a' z F => jX λQ S i' D u => wD D (r5 S (F.tt u)) (by omega) (by omega) λP C T o8 M g8 => ⟨_, _, _, rfl, ?_⟩, trivial⟩⟩
      · refine u.Ts λpp m' x e hx => ?_
        simp only [List.mem_singleton] at m'
        subst m'
        have e := Option.some.inj e
        rw [← e] at hx
        have hx : b2 = Q := hx
        omega
      · have y6 := F.1
        have G7 : Fr No O S := F.fresh u (λy e => by omega)
        exact x' T P C J (G7.tt M) (o7.frame M (λ_ _ => id)) (λy hy => by rcases g7 y hy with A | A <;> omega) z
      · have y6 := F.1
        have y7 := u.1
        have zb := aA D
        exact x' T P C J ((F.tt u).fresh M (λy e => by omega)) o8 (λy hy => by rcases g8 y hy with A | A <;> omega) (M.get z (λe => by omega))
      · have y6 := F.1
        have y7 := u.1
        have zb := aA z
        exact x' T P C J ((F.tt u).fresh M (λy e => by omega)) o8 (λy hy => by rcases g8 y hy with A | A <;> omega) (M.get (u.get z id) (λe => by omega))
    clear q'
    have jl : yq V (dK.mG lB) ((a ++ [vl false]).map LV.ln) = a.length + 1 := by
      rw [List.map_append]
      have := JN (l := (vl false).ln) B' rfl rfl
      rw [List.length_map] at this
      exact this
    have H' : ∀ t P C B, Fr No h3 t → Go.Den.Own t P a.length C 32 (a.flatMap iU) → (∀ y, aP P y → h3.size ≤ y) → aO.fD t B (vl false).s →
        aT Tryz.prog (app (.slice P a.length C) (.slice (some ⟨B, 0, none⟩) 1 1)) t λy' r' => ∃ d' c' b', y' = .slice d' c' b' ∧
        Cl 10 #[lB.s.agg, .slice d' c' b'] r' λz' s' => ∃ e' f', z' = .tuple #[.int .i64 e', .int .i64 f'] ∧ J2 e' f' s' := by
      intro t P C B F o6 g6 k'
      refine BM o6 (Pz k') rfl (by omega) λp2 c2 S o7 u g7 => ⟨_, _, _, rfl, ?_⟩
      have F7 := F.fresh u g6
      refine KQ U mx ((Fg.tt f3).tt F7) o7.iz (by rw [List.length_append]; rfl) (λj' hv => ?_) (by rw [List.length_append]; show a.length + 1 ≤ 1000; omega) λT M => ⟨_, _, rfl, ?_⟩
      · rcases List.mem_append.1 hv with A | A
        · exact A' S (f3.tt F7) j' A
        · rw [List.mem_singleton.1 A]; exact Sb
      · rw [jl]; exact key T (F7.tt M)
    have r3 : ∀ t, Fr No h3 t → Row t p (a.flatMap iU) := λt F => own.iz.frame (f3.tt F) (λ_ _ => id)
    have h' : ∀ t Z B, Fr No h3 t → t[Z]? = some (.cells #[] 44 (0, 0)) → aO.fD t B (vl false).s → h3.size ≤ Z → B ≠ Z →
        aT Tryz.prog (app (.slice (some ⟨Z, 0, none⟩) 0 0) (.slice p a.length c)) t λb3 Z' => ∃ p' o' n', b3 = .slice p' o' n' ∧
        aT Tryz.prog (app (.slice p' o' n') (.slice (some ⟨B, 0, none⟩) 1 1)) Z' λb4 a0 => ∃ d' c' b', b4 = .slice d' c' b' ∧
        Cl 10 #[lB.s.agg, .slice d' c' b'] a0 λb5 a1 => ∃ e' f', b5 = .tuple #[.int .i64 e', .int .i64 f'] ∧ J2 e' f' a1 := by
      intro t Z B F u' k' a2 a4
      refine wD u' (r3 t F) rfl (by omega) λP C S o7 u g7 => ⟨_, _, _, rfl, ?_⟩
      have y6 := F.1
      exact H' S P C B (F.fresh u (λy e => by omega)) o7 (λy hy => by rcases g7 y hy with A | A <;> omega) (u.get k' (λe => a4 e))
    have one : ∀ t Z, Fr No h3 t → t[Z]? = some (.cells #[] 44 (0, 0)) → h3.size ≤ Z →
        aT Tryz.prog (app (.slice (some ⟨Z, 0, none⟩) 0 0) (.slice p a.length c)) t λb1 F' => ∃ p' o' n', b1 = .slice p' o' n' ∧ Kp t F' [(some ⟨b2, 0, none⟩)] ∧
        bf F' (.cells (vl false).s.arr 44) λR' X' => aT Tryz.prog (app (.slice p' o' n') (.slice (some ⟨R', 0, none⟩) 1 1)) X' λy' r' => ∃ d' c' b', y' = .slice d' c' b' ∧
        Cl 10 #[lB.s.agg, .slice d' c' b'] r' λz' s' => ∃ e' f', z' = .tuple #[.int .i64 e', .int .i64 f'] ∧ J2 e' f' s' := by
      intro t Z F u' a2
      refine wD u' (r3 t F) rfl (by omega) λP C S o7 u g7 => ⟨_, _, _, rfl, ?_, jX λJ T a' z M => ?_⟩
      · refine u.Ts λpp m' x e hx => ?_
        simp only [List.mem_singleton] at m'
        subst m'
        have e := Option.some.inj e
        rw [← e] at hx
        have hx : b2 = Z := hx
        omega
      · have y6 := F.1
        exact H' T P C J ((F.fresh u (λy e => by omega)).tt M) (o7.frame M (λ_ _ => id)) (λy hy => by rcases g7 y hy with A | A <;> omega) z
    refine aO.fz (x := (vl false).s) t' ⟨jd λh4 G => aw.ex lB.s ⟨rfl, G.kp, jX λQ O i' D v => ⟨v.kp, one O Q (G.tt v) D (by have := G.1; omega), jX λJ t a' z F => h' t Q J ((G.tt v).tt F) (F.get D id) z (by have := G.1; omega) (by have := aA D; omega), trivial⟩, jX λJ O a' z v => jX λQ t i' D F => h' t Q J ((G.tt v).tt F) D (F.get z id) (by have := G.1; have := v.1; omega) (by have := aA z; omega), trivial⟩,
      jX λQ h4 i' D G => ⟨G.kp, jd λO v => aw.ex lB.s ⟨rfl, v.kp, one O Q (G.tt v) (v.get D id) (by omega), jX λJ t a' z F => h' t Q J ((G.tt v).tt F) ((v.tt F).get D id) z (by omega) (by have := aA D; have := v.1; omega), trivial⟩, jX λJ O a' z v => jd λt F => aw.ex lB.s ⟨rfl, h' t Q J ((G.tt v).tt F) ((v.tt F).get D id) (F.get z id) (by omega) (by have := aA D; omega)⟩, trivial⟩,
      jX λJ h4 a' z G => ⟨jd λO v => aw.ex lB.s ⟨rfl, jX λQ t i' D F => h' t Q J ((G.tt v).tt F) D ((v.tt F).get z id) (by have := G.1; have := v.1; omega) (by have := aA z; have := v.1; omega)⟩, jX λQ O i' D v => jd λt F => aw.ex lB.s ⟨rfl, h' t Q J ((G.tt v).tt F) (F.get D id) ((v.tt F).get z id) (by have := G.1; omega) (by have := aA z; omega)⟩, trivial⟩, trivial⟩
  by_cases S' : j < E.length
  · rw [if_pos (decide_eq_true (by omega)), decide_eq_false (by omega)]; exact I'
  · rw [if_neg (λe => S' (by have := of_decide_eq_true e; omega))]; exact I'

end PV
end
end Go.Proofs.YtkdgpmeojgokdaaGreatDoor
