/-
  Fo is proved here: parts of xQ proof, one behind xQ other (texts of this work, merged by a program; HT xQ theorem HU not use is left out). No condition.
-/
import Derived.RangeFuncLeaves
import Derived.RangeFuncRecord
import Derived.RangeFuncCalls
import Derived.OrdersIn
import Derived.Test.YtkdgpmeojgokdaaGreatDoorMJuesg
set_option maxRecDepth 100000
set_option maxHeartbeats 4000000
namespace Go.Den
section
variable {r:Option Nat} {m n:Nat} {P:Program} {f:FuncId} {w w0:World} {R K:fM} {o:Oper} {fn:Func}
def fw(r:Option Nat):Fence:= { Fence.wide with round:=r }
theorem BI{args:Array Value}{R:Ending->World->Prop}(h:Calls P f args w R):CallsIn (fw r) m P f args w R:=
 (callsIn_wide (n:=m)).2 h
theorem sr :(fw r).depth.isSome=true->1<=m:=λh=>by cases h
def ss(P:Program)(l:Nat)(args:Array Value)(h:ai)(R:fM):Prop:=
 ∀w:World,w.heap=h->∃f t assign b,(Instr.yield l args).run P w=.ok (.round l f t assign b) w/\
  ∀r m,RoundIn (fw r) m P l f t assign b w (λe c=> ∃v,e=.returned v/\R v c.heap/\fc w c)
def Act.bare(a:Act):Act:= { a with defers:= [] }
theorem Act.wz(a:Act)(d:Option Nat)(v:Value):Act.bare (a.put d v)=(Act.bare a).put d v:=by cases d<;>rfl
theorem Act.put_defers(a:Act)(d:Option Nat)(v:Value):(a.put d v).defers=a.defers:=by cases d<;>rfl
variable {a a0:Act} {next:Act->World->Prop} {Q:Exit->Act->World->Prop}
def jX(o:Oper):Bool:=match o.op with| .defer _=>false|_=>true
theorem uT(h:jX o=true)(c:Call):o.op≠ .defer c:=λe=>by unfold jX at h;rw[e]at h;cases h
theorem pE.wpIn(g:pE P o a.eval w.heap K)(j:jX o=true)(h: ∀v b,K v b.heap->fc w b->next (a.put o.dst v) b):o.wpIn (fw r) m P a w next Q:=by
 refine⟨λ_ _=>trivial,?_⟩;obtain⟨x,b,k,c,d⟩:=mK _ _ _ g w rfl;rw[Oper.semAt_eq _ _ _ (uT j),k];cases x with
 |value v=>exact h _ _ c d
 |skip=>exact h _ _ c d
 |enter f args=>
  refine⟨sr,CallsIn.mono (BI (c b rfl)) ?_⟩;rintro e l ⟨v,rfl,H,i⟩;exact h _ _ H (d.trans i)
 |_=>exact c.elim
def JM(P:Program)(o:Oper)(d:Env)(h:ai)(K:fM):Prop:=
 match o.op with
 | .call { callee:=.value f,args:=args,argTypes:=_ } =>(match d.ev f,KO d args.toList with
  |some (.func (.yield l) c _),some V=>ss P l (c.toList++V).toArray h λv H=> ∃b:Bool,v=.bool b/\K (.bool b) H
  |_,_=>tM P o d h K)
 |_=>tM P o d h K
theorem M1{k:Env}(H:Fits k a.eval)(h:JM P o k w.heap K)(i:jX o=true)(d: ∀v j,K v j.heap->fc w j->next (a.put o.dst v) j):o.wpIn (fw r) m P a w next Q:=by
 unfold JM at h;split at h
 .rename_i f args z s;split at h
  .rename_i l c C V q x;obtain⟨g,T,assign,B,y,t⟩:=h w rfl;refine⟨λ_ _=>trivial,?_⟩;rw[Oper.semAt_eq _ _ _ (uT i)];have e:(execOp a.eval o).run P w=(Instr.yield l (c.toList++V).toArray).run P w:=by
    unfold execOp;rw[s];simp only[resolve,qT H x,H _ _ q,Deferred.ofValue];have e:c++V.toArray=(c.toList++V).toArray:=by
     apply Array.ext'
     simp
    rw[e];rfl
   rw[e,y];refine⟨sr,RoundIn.mono (t r _) ?_⟩;rintro e A ⟨v,rfl,⟨b,rfl,p⟩,u⟩;exact d _ _ p u
  .exact(lZ H h).wpIn i d
 .exact(lZ H h).wpIn i d
def Tt(n:Nat)(a0:Act)(w0:World)(c:List Nat)(K:Env->ai->Prop):Exit->Act->World->Prop:=
 λe a w=>e=.normal/\∃b,Rel n b (Act.bare a)/\K b w.heap/\fc w0 w/\eX c (Act.bare a0) (Act.bare a)/\a.defers=a0.defers
def sN(P:Program)(n:Nat)(O:Array Oper)(t:List (Nat×Sh)):List Oper->Env->ai->(Env->ai->Prop)->Prop
 | [],b,h,K=>K b h
 |o::d,b,h,K=>jo O o b
   (λb=>JM P o b h λv H=>CJ t o.dst v λv=>iP n b o.dst v λc=>sN P n O t d c H K)
   (λb=>iP n b o.dst undef λc=>sN P n O t d c h K)
theorem qh{O:Array Oper}{T:List (Nat×Sh)}{K:Env->ai->Prop}(l:O.all jX=true): ∀(b:List Oper)(k:Nat)(c:Env)(a:Act)(w:World),
  (∀j,b[j]? =O[k+j]?)->Rel n c (Act.bare a)->fc w0 w->eX (cF O) (Act.bare a0) (Act.bare a)->a.defers=a0.defers->sN P n O T b c w.heap K->wpOpsIn (fw r) m P O (Tt n a0 w0 (cF O) K) (List.range' k b.length) a w
 | [],k,c,a,w,_,q,g,i,d,h=>⟨rfl,c,q,h,g,i,d⟩
 |o::b,k,c,a,w,y,q,g,i,d,h=>by
  have H:O[k]? =some o:=by have:=y 0;simpa using this.symm
  have z: ∀j,b[j]? =O[k+1+j]? :=λj=>by have:=y (j+1);simpa[Nat.add_assoc,Nat.add_comm 1 j]using this
  have D:jX o=true:=by
   rw[Array.all_eq_true]at l;obtain⟨C,rfl⟩:=fF.1 H;exact l k C
  simp only[bn,List.range'_succ,wpOpsIn,H];simp only[sN]at h;rcases jE q h with⟨t,A,e,h⟩|⟨t,A,e,h⟩
  .have u:Region.wanted o (yielded O a.tmps)=true:=t;rw[af u];refine M1 (a:=a) (show Fits A a.eval from e.fits) h D ?_;intro v F B E;obtain⟨x,s,p⟩:=iJ e (oP B);exact qh l b (k+1) x _ F z (by rw[Act.wz];exact s) (g.trans E) (by rw[Act.wz];exact i.trans (eX.put (eh H))) (by rw[Act.put_defers];exact d) p
  .have u:Region.wanted o (yielded O a.tmps)=false:=t;rw[ae (by rw[u];simp)];obtain⟨x,s,p⟩:=iJ e h;exact⟨λ_ _=>trivial,qh l b (k+1) x _ w z (by rw[Act.wz];exact s) g (by rw[Act.wz];exact i.trans (eX.put (eh H))) (by rw[Act.put_defers];exact d) p⟩
theorem M4{K q:Act->World->Prop}{u:Exit->Act->World->Prop}{D:List Deferred}(B:jX o=true)(h:o.wp P a w K Q)(g: ∀A i,K A i->A.defers= []/\q { A with defers:=D } i)(j: ∀e A i,e≠ .normal->¬Q e A i):
  a.defers= []/\o.wpIn (fw r) m P { a with defers:=D } w q u:=by
 unfold Oper.wp at h;unfold Oper.wpIn;rw[Oper.semAt_eq _ _ _ (uT B)];have e:(execOp (Act.eval { a with defers:=D }) o).run P w=(execOp a.eval o).run P w:=rfl;rw[e];have p: ∀(v:Value),({ a with defers:=D } :Act).put o.dst v= { (a.put o.dst v)with defers:=D } :=λv=>by cases o.dst<;>rfl
 generalize (execOp a.eval o).run P w=x at h⊢;cases x with
 |ok x i=>
  cases x with
  |value v=>obtain⟨b,k⟩:=g _ _ h;rw[Act.put_defers]at b;exact⟨b,λ_ _=>trivial,by simp only[Oper.uponIn,p];exact k⟩
  |skip=>obtain⟨b,k⟩:=g _ _ h;rw[Act.put_defers]at b;exact⟨b,λ_ _=>trivial,by simp only[Oper.uponIn,p];exact k⟩
  |defer d=>obtain⟨b,k⟩:=g _ _ h;rw[Act.put_defers]at b;cases b
  |enter f args=>
   simp only[Oper.upon]at h;have s:a.defers= []:=by
    obtain⟨e,l,F,H,_⟩:=h [];cases e with
    |returned v=>have:=(g _ _ H).1;rwa[Act.put_defers]at this
    |panicked C=>exact(j _ _ _ bU H).elim
    |outgrown=>obtain⟨_,_,t⟩:=H;exact(j _ _ _ bU t).elim
   refine⟨s,λ_ _=>trivial,sr,CallsIn.mono (BI h) ?_⟩;rintro e l H;cases e with
   |returned v=>have:=(g _ _ H).2;simp only[p];exact this
   |panicked C=>exact(j _ _ _ bU H).elim
   |outgrown=>obtain⟨_,_,t⟩:=H;exact(j _ _ _ bU t).elim
  |row E args=>
   simp only[Oper.upon]at h;have s:a.defers= []:=by
    obtain⟨v,l,H,_⟩:=h default [];have:=(g _ _ H).1;rwa[Act.put_defers]at this
   refine⟨s,λ_ _=>trivial,sr,λc y _=> ?_⟩;obtain⟨v,l,H,z⟩:=h c y;exact⟨v,l,(by show q _ _;rw[p];exact(g _ _ H).2),stepsIn_wide.2 z⟩
  |_=>exact h.elim
 |halt x i=>cases x<;>simp only[Oper.upon]at h<;>first|exact h.elim|exact(j _ _ _ bU h).elim
theorem uV{P : Program}{O : Array Oper}{Q q : Exit → Act → World → Prop}{r : Option Nat}{m : Nat}{ds : List Deferred}(p : O.all jX = true)(c : ∀ e A s, Q e A s → e = .normal ∧ A.defers = [] ∧ q .normal { A with defers := ds } s): ∀(fuel : Nat)(l : Array Bool)(a : Act)(w : World),
    wpAny P .any O Q fuel l a w → a.defers = [] ∧ wpAnyIn (fw r) m P .any O q fuel l { a with defers := ds } w
  | 0, l, a, w, h => ⟨(c _ _ _ h.2).2.1, h.1, (c _ _ _ h.2).2.2⟩
  | fuel + 1, l, a, w, h => by
    have step : ∀ i ∈ Region.ready .any O l, a.defers = [] ∧ wpOpIn (fw r) m P O q i (wpAnyIn (fw r) m P .any O q fuel (l.setIfInBounds i true)) { a with defers := ds } w := λi b => by
      have H := h.2 i b
      have I := uV (P := P) p c (r := r) (m := m) fuel (l.setIfInBounds i true)
      unfold wpOp at H
      unfold wpOpIn
      split at H
      · rename_i g
        simp only [g]
        exact I _ _ H
      · rename_i o g
        have y : jX o = true := by
          rw [Array.all_eq_true] at p
          obtain ⟨x, rfl⟩ := Array.getElem?_eq_some_iff.1 g
          exact p i x
        simp only [g]
        split at H
        · rename_i k
          rw [if_pos k]
          rcases H with H | ⟨_, _, _, d⟩
          · exact M4 y H I (λe A s z d => z (c _ _ _ d).1)
          · exact absurd (c _ _ _ d).1 (by simp)
        · rename_i k
          rw [if_neg k]
          obtain ⟨t, u⟩ := I _ _ H
          rw [Act.put_defers] at t
          have B : ({ a with defers := ds } : Act).put o.dst undef = { (a.put o.dst undef) with defers := ds } := by cases o.dst <;> rfl
          exact ⟨t, λ_ _ => trivial, by rw [B]; exact u⟩
    by_cases j : Region.ready .any O l = []
    · obtain ⟨_, v, d⟩ := c _ _ _ (h.1 j)
      exact ⟨v, λ_ => d, λi b => (step i b).2⟩
    · obtain ⟨i, b⟩ := List.exists_mem_of_ne_nil _ j
      exact ⟨(step i b).1, λe => absurd e j, λi b => (step i b).2⟩
def KI(K:List Nat->Env->ai->Prop)(Q:Exit->List Nat->Env->ai->Prop):Exit->List Nat->Env->ai->Prop
 | .normal=>K
 |e=>Q e
def Tc(b:Bool)(A B:Prop):Prop:=match b with|true=>A|false=>B
def PU(id:Nat)(Q:Exit->List Nat->Env->ai->Prop):Exit->List Nat->Env->ai->Prop
 | .exit i=>λD b h=>Tc (Nat.beq i id) (Q .normal D b h) (Q (.exit i) D b h)
 |e=>Q e
def Uv:Exit->List Nat->Env->ai->Prop:=λ_ _ _ _=>False
abbrev KJ(h:ai)(l:Nat)(r:Loop):Prop:=h[l]? =some (.loop r)
abbrev ij(h:ai)(l:Nat)(r:Loop):ai:=h.setIfInBounds l (.loop r)
abbrev BJ(h:ai)(r:Loop):ai:=(h.push (.deferred (some []))).push (.loop r)
abbrev Rp:=LoopState->Option Code->Loop
def Td(l:Nat)(rec:Rp)(C:Bool->ai->Prop):Exit->List Nat->Env->ai->Prop
 | .normal,_,_,h=>KJ h l (rec .busy none)/\C true (ij h l (rec .ready none))
 | .ret,_,_,h=>KJ h l (rec .busy none)/\C false (ij h l (rec .done (some .ret)))
 | .exit i,_,_,h=>KJ h l (rec .busy none)/\C false (ij h l (rec .done (some (.exit i))))
 |_,_,_,_=>False
def PV(b T:ai->Prop)(E:Nat->ai->Prop):Option Code->ai->Prop
 |none,h=>b h
 |some .ret,h=>T h
 |some (.exit i),h=>E i h
 |_,_=>False
def JN(n:Nat):List Nat->List Value->Env->(Env->Prop)->Prop
 | [], [],b,K=>K b
 |t::T,v::V,b,K=>iP n b (some t) v λc=>JN n T V c K
 |_,_,_,_=>False
def JO(P:Program)(v:Value)(h:ai)(B:Rp->(Bool->ai->Prop)->List Value->ai->Prop)(J:Option Code->ai->Prop):Prop:=
 ∃G l,v=.func (.func G) #[] l/\mM P G=true/\∀rec:Rp,(∀s p,(rec s p).state=s/\(rec s p).pending=p)->
  (∀args g C,KJ g (h.size+1) (rec .ready none)->B rec C args g->ss P (h.size+1) args.toArray g λv d=> ∃b,v=.bool b/\C b d)->
  kM P G (#[.func (.yield (h.size+1)) #[] #[]]++l) (BJ h (rec .ready none)) λ_ g=> ∃S c,S≠ .busy/\KJ g (h.size+1) (rec S c)/\J c (ij g (h.size+1) (rec .exhausted c))
def Fh:List Nat->List Nat->Bool
 | [], []=>true
 |x::X,y::b=>Nat.beq x y && Fh X b
 |_,_=>false
theorem DH: ∀{a b:List Nat},Fh a b=true->a=b
 | [], [],_=>rfl
 |x::X,y::c,h=>by
  simp only[Fh,aV]at h;rw[bQ h.1,DH h.2]
def oJ(P : Program)(n : Nat)(rd : Bool): od -> Code -> (Exit -> List Nat -> Env -> ai -> Prop) -> List Nat -> Env -> ai -> Prop
  | .leaf, c, Q, D, e, h => (match c with
    | .skip => Q .normal D e h
    | .label _ => Q .normal D e h
    | .exit id => Q (.exit id) D e h
    | .ret => Q .ret D e h
    | .region _ O false => (match O.all jX with | true => sN P n O [] O.toList e h (Q .normal D) | false => False)
    | _ => False)
  | .typed T, c, Q, D, e, h => (match c with
    | .region _ O false => (match O.all jX with | true => sN P n O T O.toList e h (Q .normal D) | false => False)
    | _ => False)
  | .qV p, c, Q, D, e, h => (match c with
    | .region _ O true => (match (P.follows .mixedOrders && Region.noSelect O && qF p O.size && iN P O p none (Array.replicate O.size false)) && O.all jX with
      | true => iS P n O p [] e h (Q .normal D)
      | false => False)
    | _ => False)
  | .jm p, c, Q, D, e, h => (match c with
    | .region _ O true => (match (P.follows .mixedOrders && Region.noSelect O && qF p O.size && iN P O p none (Array.replicate O.size false)) && O.all jX with
      | true => gS P n O p [] [] e h (Q .normal D)
      | false => False)
    | _ => False)
  | .seq a b, c, Q, D, e, h => (match c with
    | .seq c d => oJ P n rd a c (KI (λk j H => oJ P n rd b d Q k j H) Q) D e h
    | _ => False)
  | .cond a b, c, Q, D, e, h => (match c with
    | .cond x c d => (match e.ev x with
      | some (.bool q) => if q = true then oJ P n rd a c Q D e h else oJ P n rd b d Q D e h
      | _ => False)
    | _ => False)
  | .block a, c, Q, D, e, h => (match c with
    | .block id c => oJ P n rd a c (PU id Q) D e h
    | _ => False)
  | .loop L a, c, Q, D, e, h => (match c with
    | .loop c => ∃(I : qD (ai -> Prop) L)(u : qD (ai -> Nat) L), mj False L I e (λf => f h) /\
        KR L (λj => ∀ H, mj False L I j (λf => f H) ->
          oJ P n rd a c (KI (λk y l => k = D /\ mj False L I y (λf => f l) /\ mj 0 L u y (λf => f l) < mj 0 L u j (λf => f H)) Q) D j H) (e.forget (writes c))
    | _ => False)
  | .join L a, c, Q, D, e, h => aG (α := qD (ai -> Prop) L) (Nl L (λj H => Q .normal D j H) (e.forget (writes c)))
      (λJ => oJ P n rd a c (KI (λk j H => k = D /\ mj False L J j (λf => f H)) Q) D e h)
  | .scope z L a b, c, Q, D, e, h => (match c with
    | .rangeFunc g F assign B => (match rd, Fh (L.map (·.1)) F.toList, e.ev g with
      | false, true, some v => JO P v h
          (λrec C args E => JR (L.map (·.2)) λV => args = V /\ JN n (L.map (·.1)) V e λG =>
            oJ P n true a assign (KI (λA M s => KJ s (h.size + 1) (rec .ready none) /\ ∀ t, t = ij s (h.size + 1) (rec .busy none) -> oJ P n true b B (Td (h.size + 1) rec C) A M t) Uv) [] G E)
          (PV (λg => Q .normal (h.size :: D) e g) (λg => Q .ret (h.size :: D) e g) (match z with | 0 => λ_ _ => False | _ => λi g => Q (.exit i) (h.size :: D) e g))
      | _, _, _ => False)
    | _ => False)
def mark(D:Nat):Deferred:= { target:=.collected D,args:= #[] }
def Wk(n:Nat)(a0:Act)(w0:World)(c:List Nat)(Q:Exit->List Nat->Env->ai->Prop):Exit->Act->World->Prop:=
 λe a w=> ∃D b,Rel n b (Act.bare a)/\a.defers=D.map mark/\Q e D b w.heap/\fc w0 w/\eX c (Act.bare a0) (Act.bare a)
theorem qi{b:List Nat}{Q:Exit->List Nat->Env->ai->Prop}{D:List Nat}(j:a0.defers=D.map mark){e:Exit}(h:Tt n a0 w0 b (Q .normal D) e a w):Wk n a0 w0 b Q e a w:=by
 obtain⟨rfl,k,H,c,d,g,i⟩:=h;exact⟨D,k,H,i.trans j,c,d,g⟩
theorem BK(w:World)(o:Obj):fc w (w.alloc o):=⟨rfl,rfl,rfl⟩
theorem wA(w:World)(l:Nat)(o:Obj):fc w (w.putObj l o):=⟨rfl,rfl,rfl⟩
theorem DI{K:Env->Prop}: ∀(T:List Nat)(V:List Value)(b:Env)(c:Array Value),Rel n b { tmps:=c,defers:= [] } ->JN n T V b K->
  T.length=V.length/\∃d,Rel n d { tmps:=(T.zip V).foldl (λt (p,v)=>t.setIfInBounds p v) c,defers:= [] } /\K d
 | [], [],b,c,H,h=>⟨rfl,b,H,h⟩
 |t::T,v::V,b,c,H,h=>by
  obtain⟨d,j,e⟩:=iJ H h;obtain⟨g,i⟩:=DI T V d _ j e;exact⟨by simp[g],i⟩
 | [],_::_,_,_,_,h=>h.elim
 |_::_, [],_,_,_,h=>h.elim
theorem lW {P : Program} {n : Nat} : ∀ (UX : od) (rd : Option Nat) (m : Nat) (c : Code) (Q : Exit → List Nat → Env → ai → Prop) (D : List Nat) (σ : Env) (a : Act) (w : World), Rel n σ (Act.bare a) → a.defers = D.map mark →
    oJ P n rd.isSome UX c Q D σ w.heap → c.wpIn (fw rd) m P (Wk n a w (writes c) Q) a w
  | .leaf, rd, m, c, Q, D, σ, a, w, hr, hd, h => by
    unfold oJ at h
    split at h
    · exact wpIn_skip ⟨D, σ, hr, hd, h, fc.refl w, eX.refl _ _⟩
    · exact wpIn_label ⟨D, σ, hr, hd, h, fc.refl w, eX.refl _ _⟩
    · exact wpIn_exit ⟨D, σ, hr, hd, h, fc.refl w, eX.refl _ _⟩
    · exact wpIn_ret ⟨D, σ, hr, hd, h, fc.refl w, eX.refl _ _⟩
    · rename_i id ops
      split at h
      · rename_i nd
        refine wpIn_mono (wpIn_region (Q := Tt n a w (cF ops) (Q .normal D)) ?_) (λe a' w' hq => qi hd hq)
        have := qh (a0 := a) (w0 := w) (r := rd) (m := m) nd ops.toList 0 σ a w (by simp) hr (fc.refl w) (eX.refl _ _) rfl h
        rw [List.range_eq_range']
        simpa using this
      · exact h.elim
    · exact h.elim
  | .typed ty, rd, m, c, Q, D, σ, a, w, hr, hd, h => by
    unfold oJ at h
    split at h
    · rename_i id ops
      split at h
      · rename_i nd
        refine wpIn_mono (wpIn_region (Q := Tt n a w (cF ops) (Q .normal D)) ?_) (λe a' w' hq => qi hd hq)
        have := qh (a0 := a) (w0 := w) (r := rd) (m := m) nd ops.toList 0 σ a w (by simp) hr (fc.refl w) (eX.refl _ _) rfl h
        rw [List.range_eq_range']
        simpa using this
      · exact h.elim
    · exact h.elim
  | .qV p, rd, m, c, Q, D, σ, a, w, hr, hd, h => by
    unfold oJ at h
    split at h
    · rename_i id ops
      split at h
      · rename_i hb
        simp only [Bool.and_eq_true] at hb
        obtain ⟨⟨⟨⟨h1, h2⟩, h3⟩, h4⟩, nd⟩ := hb
        refine wpIn_mono (wpIn_region_any (Q := Tt n a w (cF ops) (Q .normal D)) h1 ?_) (λe a' w' hq => qi hd hq)
        have := (vh (a0 := Act.bare a) (w0 := w) h2 p).1 ops.size (Array.replicate ops.size false) [] σ (Act.bare a) { w with drawn := w.drawn + 1 } h3 h4 hr ⟨rfl, rfl, rfl⟩ (eX.refl _ _) (λ_ hm => by cases hm) h
        refine (uV (ds := a.defers) nd (λe a' w' hq => ?_) _ _ _ _ (lH _ _ _ _ _ this)).2
        obtain ⟨rfl, HR, DR, hk, hs, hu⟩ := hq
        have e : ({ ({ a' with defers := a.defers } : Act) with defers := [] } : Act) = a' := by
          obtain ⟨t, d⟩ := a'
          have : d = [] := DR.defers
          rw [this]
        exact ⟨rfl, DR.defers, rfl, HR, by show Rel n HR _; rw [show Act.bare { a' with defers := a.defers } = a' from e]; exact DR, hk, hs, by rw [show Act.bare { a' with defers := a.defers } = a' from e]; exact hu, rfl⟩
      · exact h.elim
    · exact h.elim
  | .jm p, rd, m, c, Q, D, σ, a, w, hr, hd, h => by
    unfold oJ at h
    split at h
    · rename_i id ops
      split at h
      · rename_i hb
        simp only [Bool.and_eq_true] at hb
        obtain ⟨⟨⟨⟨h1, h2⟩, h3⟩, h4⟩, nd⟩ := hb
        refine wpIn_mono (wpIn_region_any (Q := Tt n a w (cF ops) (Q .normal D)) h1 ?_) (λe a' w' hq => qi hd hq)
        have := (tQ (a0 := Act.bare a) (w0 := w) h2 p).1 ops.size (Array.replicate ops.size false) [] [] [] σ (Act.bare a) { w with drawn := w.drawn + 1 } h3 h4 hr ⟨rfl, rfl, rfl⟩ (eX.refl _ _) (λ_ hm => by cases hm) (λ_ hm => by cases hm) h
        refine (uV (ds := a.defers) nd (λe a' w' hq => ?_) _ _ _ _ (lH _ _ _ _ _ this)).2
        obtain ⟨rfl, HR, DR, hk, hs, hu⟩ := hq
        have e : ({ ({ a' with defers := a.defers } : Act) with defers := [] } : Act) = a' := by
          obtain ⟨t, d⟩ := a'
          have : d = [] := DR.defers
          rw [this]
        exact ⟨rfl, DR.defers, rfl, HR, by show Rel n HR _; rw [show Act.bare { a' with defers := a.defers } = a' from e]; exact DR, hk, hs, by rw [show Act.bare { a' with defers := a.defers } = a' from e]; exact hu, rfl⟩
      · exact h.elim
    · exact h.elim
  | .seq x y, rd, m, c, Q, D, σ, a, w, hr, hd, h => by
    unfold oJ at h
    split at h
    · rename_i c d
      refine wpIn_seq (wpIn_mono (lW x rd m c _ D σ a w hr hd h) ?_)
      rintro e a' w' ⟨D', nT, oK, tG, hq, hs, hu⟩
      have hW : ∀ t, t ∈ writes c → t ∈ writes (.seq c d) := λt ht => List.mem_append_left _ ht
      cases e with
      | normal =>
        refine wpIn_mono (lW y rd m d Q D' nT a' w' oK tG hq) ?_
        rintro e2 a2 w2 ⟨D2, VP, VQ, VR, WT, VS, WU⟩
        exact ⟨D2, VP, VQ, VR, WT, hs.trans VS, (hu.mono hW).trans (WU.mono λt ht => List.mem_append_right _ ht)⟩
      | exit id => exact ⟨D', nT, oK, tG, hq, hs, hu.mono hW⟩
      | goto l => exact ⟨D', nT, oK, tG, hq, hs, hu.mono hW⟩
      | ret => exact ⟨D', nT, oK, tG, hq, hs, hu.mono hW⟩
      | panic ch => exact ⟨D', nT, oK, tG, hq, hs, hu.mono hW⟩
      | outgrown => exact ⟨D', nT, oK, tG, hq, hs, hu.mono hW⟩
    · exact h.elim
  | .cond x y, rd, m, c, Q, D, σ, a, w, hr, hd, h => by
    unfold oJ at h
    split at h
    · rename_i k c d
      split at h
      · rename_i q hq
        have he : a.eval k = .bool q := hr.fits _ _ hq
        split at h
        · rename_i ht
          subst ht
          refine wpIn_cond_true he (wpIn_mono (lW x rd m c Q D σ a w hr hd h) ?_)
          rintro e a' w' ⟨D', nT, oK, tG, hq, hs, hu⟩
          exact ⟨D', nT, oK, tG, hq, hs, hu.mono λt ht => List.mem_append_left _ ht⟩
        · rename_i ht
          have ht : q = false := by simpa using ht
          subst ht
          refine wpIn_cond_false he (wpIn_mono (lW y rd m d Q D σ a w hr hd h) ?_)
          rintro e a' w' ⟨D', nT, oK, tG, hq, hs, hu⟩
          exact ⟨D', nT, oK, tG, hq, hs, hu.mono λt ht => List.mem_append_right _ ht⟩
      · exact h.elim
    · exact h.elim
  | .block x, rd, m, c, Q, D, σ, a, w, hr, hd, h => by
    unfold oJ at h
    split at h
    · rename_i id c
      refine wpIn_block (wpIn_mono (lW x rd m c _ D σ a w hr hd h) ?_)
      rintro e a' w' ⟨D', nT, oK, tG, hq, hs, hu⟩
      cases e with
      | exit VT =>
        simp only [Exit.inBlock]
        simp only [PU, Tc] at hq
        by_cases hid : VT = id
        · subst hid
          simp only [Nat.beq_refl] at hq
          rw [if_pos rfl]; exact ⟨D', nT, oK, tG, hq, hs, hu⟩
        · rw [if_neg hid]
          have : Nat.beq VT id = false := by cases hb : Nat.beq VT id; rfl; exact absurd (Nat.eq_of_beq_eq_true hb) hid
          rw [this] at hq
          exact ⟨D', nT, oK, tG, hq, hs, hu⟩
      | normal => exact ⟨D', nT, oK, tG, hq, hs, hu⟩
      | goto l => exact ⟨D', nT, oK, tG, hq, hs, hu⟩
      | ret => exact ⟨D', nT, oK, tG, hq, hs, hu⟩
      | panic ch => exact ⟨D', nT, oK, tG, hq, hs, hu⟩
      | outgrown => exact ⟨D', nT, oK, tG, hq, hs, hu⟩
    · exact h.elim
  | .loop L x, rd, m, c, Q, D, σ, a, w, hr, hd, h => by
    unfold oJ at h
    split at h
    · rename_i c
      obtain ⟨I, μ, h0, Uw⟩ := h
      refine wpIn_loop (λa' w' => ∃ nT, Rel n nT (Act.bare a') ∧ a'.defers = D.map mark ∧ mj False L I nT (λf => f w'.heap) ∧ fc w w' ∧ eX (writes c) (Act.bare a) (Act.bare a'))
        (λa' w' => mj 0 L μ (qW a') (λf => f w'.heap)) ⟨σ, hr, hd, h0, fc.refl w, eX.refl _ _⟩ ?_
      rintro a' w' ⟨nT, oK, tG, hI, hs, hu⟩
      obtain ⟨Rr, hF, Te, hL, _⟩ := vd L _ I Uw hI
      have Ux := Rel.pI hr oK hu Te
      have Uy : mj False L I Rr (λf => f w'.heap) := by rw [mU L I hL]; exact hI
      have WV := hF w'.heap Uy
      refine wpIn_mono (lW x rd m c _ D Rr a' w' Ux tG WV) ?_
      rintro e a1 w1 ⟨D1, HR, DR, Tu, hq, Tv, Tw⟩
      have ev : ∀ b : Act, qW (Act.bare b) = qW b := λ_ => rfl
      cases e with
      | normal =>
        obtain ⟨rfl, Wl, WW⟩ := hq
        refine ⟨⟨HR, DR, Tu, Wl, hs.trans Tv, hu.trans Tw⟩, ?_⟩
        rw [← ev a1, ← ev a', kG DR (mN L I Wl), kG Ux (mN L I Uy)]
        exact WW
      | exit id => exact ⟨D1, HR, DR, Tu, hq, hs.trans Tv, hu.trans Tw⟩
      | goto l => exact ⟨D1, HR, DR, Tu, hq, hs.trans Tv, hu.trans Tw⟩
      | ret => exact ⟨D1, HR, DR, Tu, hq, hs.trans Tv, hu.trans Tw⟩
      | panic ch => exact ⟨D1, HR, DR, Tu, hq, hs.trans Tv, hu.trans Tw⟩
      | outgrown => exact ⟨D1, HR, DR, Tu, hq, hs.trans Tv, hu.trans Tw⟩
    · exact h.elim
  | .join L x, rd, m, c, Q, D, σ, a, w, hr, hd, h => by
    unfold oJ at h
    unfold aG at h
    refine wpIn_mono (lW x rd m c _ D σ a w hr hd h) ?_
    rintro e a' w' ⟨D', nT, oK, tG, hq, hs, hu⟩
    cases e with
    | normal =>
      obtain ⟨rfl, hq⟩ := hq
      obtain ⟨Rr, hQ, Te⟩ := u9 L _ hq
      exact ⟨D', Rr, Rel.pI hr oK hu Te, tG, hQ, hs, hu⟩
    | exit id => exact ⟨D', nT, oK, tG, hq, hs, hu⟩
    | goto l => exact ⟨D', nT, oK, tG, hq, hs, hu⟩
    | ret => exact ⟨D', nT, oK, tG, hq, hs, hu⟩
    | panic ch => exact ⟨D', nT, oK, tG, hq, hs, hu⟩
    | outgrown => exact ⟨D', nT, oK, tG, hq, hs, hu⟩
  | .scope z L x y, rd, m, c, Q, D, σ, a, w, hr, hd, h => by
    unfold oJ at h
    split at h
    · rename_i g ps assign body
      split at h
      · rename_i v VU UO hg
        have VU : rd = none := by cases rd with | none => rfl | some _ => cases VU
        subst VU
        have UO := DH UO
        obtain ⟨gf, lb, rfl, hb, hc⟩ := h
        have UP : a.eval g = .func (.func gf) #[] lb := hr.fits _ _ hg
        refine wpIn_rangeFunc λfn _ => ?_
        obtain ⟨rec, zS⟩ : ∃ rec : Rp, rec = λs p => { state := s, pending := p, fn, tmps := a.tmps, params := ps, assign, body, defers := w.heap.size } := ⟨_, rfl⟩
        have Uz := hc rec (λs p => by rw [zS]; exact ⟨rfl, rfl⟩) ?round
        case round =>
          intro args g1 C UQ hB w1 WX
          subst WX
          obtain ⟨vs, rfl, VV⟩ := tZ hB
          obtain ⟨hlen, HR, DR, VW⟩ := DI _ _ σ a.tmps hr VV
          have WY : args.toArray.size = ps.size := by rw [← Array.length_toList (xs := ps), ← UO, hlen]; simp
          refine ⟨fn, (ps.zip args.toArray).foldl (λtmps (t, a) => tmps.setIfInBounds t a) a.tmps, assign, body, ?_, λr m2 => ?_⟩
          · rw [zS] at UQ
            exact run_yield UQ WY
          have WZ : (ps.zip args.toArray).foldl (λtmps (t, a) => tmps.setIfInBounds t a) a.tmps = ((L.map (·.1)).zip args).foldl (λt (p, v) => t.setIfInBounds p v) a.tmps := by
            rw [UO, ← Array.foldl_toList, Array.toList_zip]
          refine roundIn_of_wpIn (F := fw r) trivial ?_
          rw [WZ]
          refine wpIn_mono (lW x (some (w.heap.size + 1)) m2 assign _ [] HR { tmps := ((L.map (·.1)).zip args).foldl (λt (p, v) => t.setIfInBounds p v) a.tmps, defers := [] } w1 DR rfl VW) ?_
          rintro e a2 w2 ⟨D2, VP, VQ, VR, hq, VS, _⟩
          cases e with
          | normal =>
            obtain ⟨VX, UA⟩ := hq
            have VJ : (rec .ready none).state = .ready := by rw [zS]
            have e2 : ({ (rec .ready none) with state := .busy } : Loop) = rec .busy none := by rw [zS]
            refine ⟨w2.putObj (w.heap.size + 1) (.loop (rec .busy none)), by rw [← e2]; exact run_beginRound VX VJ, ?_⟩
            refine wpIn_mono (lW y (some (w.heap.size + 1)) m2 body _ D2 VP a2 (w2.putObj (w.heap.size + 1) (.loop (rec .busy none))) VQ VR (UA _ rfl)) ?_
            rintro e3 a3 w3 ⟨D3, Xg, Xh, Xi, Rs, W0, _⟩
            have UB : ∀ o, fc w1 (w3.putObj (w.heap.size + 1) o) := λo => VS.trans ((wA _ _ _).trans (W0.trans (wA _ _ _)))
            have fin : ∀ (j : Option Code), KJ w3.heap (w.heap.size + 1) (rec .busy none) → C j.isNone (ij w3.heap (w.heap.size + 1) (rec (if j.isNone then .ready else .done) j)) →
                ∃ v w', (Instr.endRound (w.heap.size + 1) j).run P w3 = .ok v w' ∧ ∃ v', Ending.returned v = .returned v' ∧ (∃ b, v' = .bool b ∧ C b w'.heap) ∧ fc w1 w' := λj VY hC => by
              have e5 : ({ (rec .busy none) with state := if j.isNone then .ready else .done, pending := j } : Loop) = rec (if j.isNone then .ready else .done) j := by rw [zS]
              refine ⟨_, _, run_endRound j VY, _, rfl, ⟨_, rfl, ?_⟩, UB _⟩
              rw [e5]; exact hC
            cases e3 with
            | normal => exact fin none Rs.1 Rs.2
            | ret => exact fin (some .ret) Rs.1 Rs.2
            | exit i => exact fin (some (.exit i)) Rs.1 Rs.2
            | goto t => exact Rs.elim
            | panic ch => exact Rs.elim
            | outgrown => exact Rs.elim
          | exit id => exact hq.elim
          | goto l => exact hq.elim
          | ret => exact hq.elim
          | panic ch => exact hq.elim
          | outgrown => exact hq.elim
        have Tf : (callFunc gf (#[.func (.yield (w.heap.size + 1)) #[] #[]] ++ lb)).run P ((w.alloc (.deferred (some []))).alloc (.loop (rec .ready none))) = .ok (.enter gf (#[.func (.yield (w.heap.size + 1)) #[] #[]] ++ lb)) ((w.alloc (.deferred (some []))).alloc (.loop (rec .ready none))) := by
          unfold mM at hb
          split at hb
          · rename_i UR VZ
            simp only [Bool.and_eq_true, Bool.not_eq_true'] at hb
            have hn : UR.body.isNone = false := by cases hq : UR.body <;> simp [hq] at hb ⊢
            unfold callFunc
            have h1 : ¬ UR.name = "runtime.NumGoroutine" := λe => by have := hb.2; rw [e] at this; cases this
            have h2 : ¬ UR.body = none := λe => by rw [e] at hn; cases hn
            simp [go_sem, VZ, h1, h2]
          · cases hb
        refine ⟨w.heap.size + 1, [{ target := .collected w.heap.size, args := #[] }], (w.alloc (.deferred (some []))).alloc (.loop (rec .ready none)), { target := .fn (.func gf) lb, args := #[.func (.yield (w.heap.size + 1)) #[] #[]] }, (w.alloc (.deferred (some []))).alloc (.loop (rec .ready none)), gf, #[.func (.yield (w.heap.size + 1)) #[] #[]] ++ lb, (w.alloc (.deferred (some []))).alloc (.loop (rec .ready none)), ?_, ?_, λ_ _ => trivial, by simp only [invoke]; exact Tf, sr, ?_⟩
        · rw [zS]; exact run_enterLoop_outer fn a.tmps ps assign body
        · simp only [resolve, UP]
          simp [go_sem]
        · refine CallsIn.mono (BI (Uz _ rfl)) ?_
          rintro e w3 ⟨v, rfl, ⟨st, pe, W1, UQ, hJ⟩, hs⟩
          have TG : fc w w3 := (BK w _).trans ((BK _ _).trans hs)
          have e5 : ({ (rec st pe) with state := .exhausted } : Loop) = rec .exhausted pe := by rw [zS]
          refine ⟨(rec st pe).pending, _, run_endLoop UQ (by rw [zS]; exact W1), ?_⟩
          rw [e5, show (rec st pe).pending = pe by rw [zS]]
          have UB : fc w (w3.putObj (w.heap.size + 1) (.loop (rec .exhausted pe))) := TG.trans (wA _ _ _)
          have tG : ([{ target := .collected w.heap.size, args := #[] }] : List Deferred) ++ a.defers = (w.heap.size :: D).map mark := by rw [hd]; rfl
          cases pe with
          | none => exact ⟨w.heap.size :: D, σ, hr, tG, hJ, UB, eX.refl _ _⟩
          | some c =>
            cases c with
            | ret => exact wpIn_ret ⟨w.heap.size :: D, σ, hr, tG, hJ, UB, eX.refl _ _⟩
            | exit i =>
              cases z with
              | zero => exact hJ.elim
              | succ z => exact wpIn_exit ⟨w.heap.size :: D, σ, hr, tG, hJ, UB, eX.refl _ _⟩
            | _ => exact hJ.elim
      · exact h.elim
    · exact h.elim
def wB:List Nat->ai->(ai->Prop)->Prop
 | [],h,K=>K h
 |d::D,h,K=>h[d]? =some (.deferred (some []))/\wB D (h.setIfInBounds d (.deferred none)) K
def V1(P:Program)(c:Array ResultVar)(R:fM):Exit->List Nat->Env->ai->Prop
 | .normal,D,b,h=>wB D h λH=>qG P c.toList b H λv=>R (qX v) H
 | .ret,D,b,h=>wB D h λH=>qG P c.toList b H λv=>R (qX v) H
 |_,_,_,_=>False
theorem xO{t:Array Value}{i:Env}(c:Rel n i { tmps:=t,defers:= [] }): ∀(D:List Nat)(w:World),fc w0 w->
  wB D w.heap (λb=>qG P fn.results.toList i b λV=>R (qX V) b)->
  LeavesInM (fw none) m P fn t (λe g=> ∃v,e=.returned v/\R v g.heap/\fc w0 g) (D.map mark) .returning w
 | [],w,H,h=>by
  obtain⟨v,j,k⟩:=pJ (F:=λv=>R v w.heap) c h;exact⟨v,pD _ _ _ k,v,rfl,j,H⟩
 |d::D,w,H,h=>⟨bU,.inl ⟨d,w.putObj d (.deferred none),rfl,run_takeDeferred h.1,xO c D _ (H.trans (wA _ _ _)) h.2⟩⟩
theorem mE{args:List Value}{h:ai}(A:od)(u:P.funcs[f]? =some fn)(s:fn.body.isSome=true)(k:Nat.ble args.length fn.ntmps=true)(i:oJ P fn.ntmps false A (ni fn) (V1 P fn.results R) [] (ku args) h):kM P f args.toArray h R:=by
 obtain⟨c,g⟩:=dK.1 s;rw[ni,g]at i;intro w y;subst y;have k:=Nat.le_of_ble_eq_true k;refine(callsIn_wide (n:=0)).1 (callsIn_of_wp_marks (F:=fw none) u g trivial ?_);have b:Rel fn.ntmps (ku args) { tmps:=args.toArray++Array.replicate (fn.ntmps - args.toArray.size) undef,defers:= [] } :=by
  refine⟨rfl,by simp;omega,λt v d=> ?_⟩;unfold ku at d;have x:t<args.length:=(ay.1 d).1;simp only[eL];rw[dD (cQ x)];simp[d]
 refine wpIn_mono (lW A none 0 c _ [] _ { tmps:=args.toArray++Array.replicate (fn.ntmps - args.toArray.size) undef,defers:= [] } w b rfl i) ?_;rintro e a q ⟨D,z,b,j,H,p,_⟩;cases e with
 |normal=>show LeavesInM _ _ _ _ _ _ a.defers _ _;rw[j];exact xO b D q p H
 |ret=>show LeavesInM _ _ _ _ _ _ a.defers _ _;rw[j];exact xO b D q p H
 |exit id=>exact H.elim
 |goto l=>exact H.elim
 |panic C=>exact H.elim
 |outgrown=>exact H.elim

end
end Go.Den
namespace Go.Proofs.YtkdgpmeojgokdaaGreatDoor
open Go.Den
open IntKind (wrap)
open Int (toNat)
section
variable {h:ai} {R:fM}
variable {c a:ct} {s d L b:Nat} {self:ax.S}
structure aS.S where
 f0:Int
 f1:Int
 f2:Int
 f3:Int
 f4:Int
 f5:Int
 f6:Bool
 f7:Int
 f8:Int
 f9:ByteArray
 f10:ByteArray
 f11:Bool
 f12:Int
 f13:Int
 f14:ByteArray
 f15:ByteArray
 f16:Int
 f17:Int
 f18:Int
 FY:ct
 FZ:Nat
 F0:Nat
 f20:Int
 f21:Int
 f22:Bool
 Ga:ct
 Gb:Nat
 Gc:Nat
 f24:Int
 f25:Int
 f26:Int
 f27:Int
 f28:Int
 Rt:ct
 Ru:Nat
 Rv:Nat
 f30:Bool
 f31:Bool
abbrev aS.S.l(x:aS.S):List Value:= [.int .u64 x.f0,.int .i64 x.f1,.int .u64 x.f2,.int .i64 x.f3,.int .u64 x.f4,.int .i64 x.f5,.bool x.f6,.int .u64 x.f7,.int .u64 x.f8,.string x.f9,.string x.f10,.bool x.f11,.int .u64 x.f12,.int .u64 x.f13,.string x.f14,.string x.f15,.int .i64 x.f16,.int .i64 x.f17,.int .i64 x.f18,.slice x.FY x.FZ x.F0,.int .u64 x.f20,.int .u64 x.f21,.bool x.f22,.slice x.Ga x.Gb x.Gc,.int .u64 x.f24,.int .i64 x.f25,.int .i64 x.f26,.int .i64 x.f27,.int .u64 x.f28,.slice x.Rt x.Ru x.Rv,.bool x.f30,.bool x.f31]
abbrev aS.S.arr(x:aS.S):Array Value:= #[.int .u64 x.f0,.int .i64 x.f1,.int .u64 x.f2,.int .i64 x.f3,.int .u64 x.f4,.int .i64 x.f5,.bool x.f6,.int .u64 x.f7,.int .u64 x.f8,.string x.f9,.string x.f10,.bool x.f11,.int .u64 x.f12,.int .u64 x.f13,.string x.f14,.string x.f15,.int .i64 x.f16,.int .i64 x.f17,.int .i64 x.f18,.slice x.FY x.FZ x.F0,.int .u64 x.f20,.int .u64 x.f21,.bool x.f22,.slice x.Ga x.Gb x.Gc,.int .u64 x.f24,.int .i64 x.f25,.int .i64 x.f26,.int .i64 x.f27,.int .u64 x.f28,.slice x.Rt x.Ru x.Rv,.bool x.f30,.bool x.f31]
abbrev aS.S.agg(x:aS.S):Value:=.agg #[.int .u64 x.f0,.int .i64 x.f1,.int .u64 x.f2,.int .i64 x.f3,.int .u64 x.f4,.int .i64 x.f5,.bool x.f6,.int .u64 x.f7,.int .u64 x.f8,.string x.f9,.string x.f10,.bool x.f11,.int .u64 x.f12,.int .u64 x.f13,.string x.f14,.string x.f15,.int .i64 x.f16,.int .i64 x.f17,.int .i64 x.f18,.slice x.FY x.FZ x.F0,.int .u64 x.f20,.int .u64 x.f21,.bool x.f22,.slice x.Ga x.Gb x.Gc,.int .u64 x.f24,.int .i64 x.f25,.int .i64 x.f26,.int .i64 x.f27,.int .u64 x.f28,.slice x.Rt x.Ru x.Rv,.bool x.f30,.bool x.f31]
abbrev aS.S.z:aS.S:=⟨0,0,0,0,0,0,false,0,0,(⟨#[]⟩:ByteArray),(⟨#[]⟩:ByteArray),false,0,0,(⟨#[]⟩:ByteArray),(⟨#[]⟩:ByteArray),0,0,0,none,0,0,0,0,false,none,0,0,0,0,0,0,0,none,0,0,false,false⟩
abbrev aS.EX(K:aS.S->Prop):Prop:= ∃(t:Int),∃(T:Int),∃(r:Int),∃(J:Int),∃(P:Int),∃(Q:Int),∃(S:Bool),∃(U:Int),∃(V:Int),∃(X:ByteArray),∃(e:ByteArray),∃(f:Bool),∃(g:Int),∃(i:Int),∃(j:ByteArray),∃(k:ByteArray),∃(l:Int),∃(m:Int),∃(n:Int),∃(q:ct)(p o:Nat),∃(u:Int),∃(v:Int),∃(w:Bool),∃(A:ct)(z y:Nat),∃(B:Int),∃(C:Int),∃(D:Int),∃(E:Int),∃(F:Int),∃(I:ct)(H G:Nat),∃(M:Bool),∃(O:Bool),K ⟨t,T,r,J,P,Q,S,U,V,X,e,f,g,i,j,k,l,m,n,q,p,o,u,v,w,A,z,y,B,C,D,E,F,I,H,G,M,O⟩
abbrev aS.cC(h:ai)(A:Addr)(K:aS.S->Prop):Prop:= ∃(t:Int),aT h A=some (.int .u64 t)/\∃(T:Int),aT h (A.add 1)=some (.int .i64 T)/\∃(r:Int),aT h (A.add 2)=some (.int .u64 r)/\∃(M:Int),aT h (A.add 3)=some (.int .i64 M)/\∃(Q:Int),aT h (A.add 4)=some (.int .u64 Q)/\∃(S:Int),aT h (A.add 5)=some (.int .i64 S)/\∃(U:Bool),aT h (A.add 6)=some (.bool U)/\∃(V:Int),aT h (A.add 7)=some (.int .u64 V)/\∃(X:Int),aT h (A.add 8)=some (.int .u64 X)/\∃(Z:ByteArray),aT h (A.add 9)=some (.string Z)/\∃(e:ByteArray),aT h (A.add 10)=some (.string e)/\∃(f:Bool),aT h (A.add 11)=some (.bool f)/\∃(g:Int),aT h (A.add 12)=some (.int .u64 g)/\∃(i:Int),aT h (A.add 13)=some (.int .u64 i)/\∃(j:ByteArray),aT h (A.add 14)=some (.string j)/\∃(k:ByteArray),aT h (A.add 15)=some (.string k)/\∃(l:Int),aT h (A.add 16)=some (.int .i64 l)/\∃(m:Int),aT h (A.add 17)=some (.int .i64 m)/\∃(n:Int),aT h (A.add 18)=some (.int .i64 n)/\∃(q:ct)(p o:Nat),aT h (A.add 19)=some (.slice q p o)/\∃(u:Int),aT h (A.add 20)=some (.int .u64 u)/\∃(v:Int),aT h (A.add 21)=some (.int .u64 v)/\∃(w:Bool),aT h (A.add 22)=some (.bool w)/\∃(B:ct)(z y:Nat),aT h (A.add 23)=some (.slice B z y)/\∃(C:Int),aT h (A.add 24)=some (.int .u64 C)/\∃(D:Int),aT h (A.add 25)=some (.int .i64 D)/\∃(E:Int),aT h (A.add 26)=some (.int .i64 E)/\∃(F:Int),aT h (A.add 27)=some (.int .i64 F)/\∃(G:Int),aT h (A.add 28)=some (.int .u64 G)/\∃(J:ct)(I H:Nat),aT h (A.add 29)=some (.slice J I H)/\∃(O:Bool),aT h (A.add 30)=some (.bool O)/\∃(P:Bool),aT h (A.add 31)=some (.bool P)/\K ⟨t,T,r,M,Q,S,U,V,X,Z,e,f,g,i,j,k,l,m,n,q,p,o,u,v,w,B,z,y,C,D,E,F,G,J,I,H,O,P⟩
abbrev aS.dt(h:ai)(A:Addr)(x:aS.S)(K:ai->Prop):Prop:=aJ h A (.int .u64 x.f0) λH=>aJ H (A.add 1) (.int .i64 x.f1) λp=>aJ p (A.add 2) (.int .u64 x.f2) λD=>aJ D (A.add 3) (.int .i64 x.f3) λI=>aJ I (A.add 4) (.int .u64 x.f4) λJ=>aJ J (A.add 5) (.int .i64 x.f5) λM=>aJ M (A.add 6) (.bool x.f6) λO=>aJ O (A.add 7) (.int .u64 x.f7) λP=>aJ P (A.add 8) (.int .u64 x.f8) λQ=>aJ Q (A.add 9) (.string x.f9) λe=>aJ e (A.add 10) (.string x.f10) λf=>aJ f (A.add 11) (.bool x.f11) λg=>aJ g (A.add 12) (.int .u64 x.f12) λi=>aJ i (A.add 13) (.int .u64 x.f13) λj=>aJ j (A.add 14) (.string x.f14) λk=>aJ k (A.add 15) (.string x.f15) λl=>aJ l (A.add 16) (.int .i64 x.f16) λm=>aJ m (A.add 17) (.int .i64 x.f17) λn=>aJ n (A.add 18) (.int .i64 x.f18) λo=>aJ o (A.add 19) (.slice x.FY x.FZ x.F0) λq=>aJ q (A.add 20) (.int .u64 x.f20) λr=>aJ r (A.add 21) (.int .u64 x.f21) λt=>aJ t (A.add 22) (.bool x.f22) λu=>aJ u (A.add 23) (.slice x.Ga x.Gb x.Gc) λv=>aJ v (A.add 24) (.int .u64 x.f24) λw=>aJ w (A.add 25) (.int .i64 x.f25) λy=>aJ y (A.add 26) (.int .i64 x.f26) λz=>aJ z (A.add 27) (.int .i64 x.f27) λB=>aJ B (A.add 28) (.int .u64 x.f28) λC=>aJ C (A.add 29) (.slice x.Rt x.Ru x.Rv) λE=>aJ E (A.add 30) (.bool x.f30) λF=>aJ F (A.add 31) (.bool x.f31) λG=>K G
abbrev aS.fE(h:ai)(B:Nat)(x:aS.S):Prop:=h[B]? =some (.cells x.arr 44 (0,0))
theorem aS.ex{K:aS.S->Prop}(x:aS.S)(H:K x):aS.EX K:=⟨_,_,_,_,_,_,_,_,_,_,_,_,_,_,_,_,_,_,_,_,_,_,_,_,_,_,_,_,_,_,_,_,_,_,_,_,_,_,H⟩
theorem aS.fy{B:Nat}{x:aS.S}{K:aS.S->Prop}(H:aS.fE h B x)(e:K x):aS.cC h (AA B 0) K:=
 ⟨_,au H,_,au H,_,au H,_,au H,_,au H,_,au H,_,au H,_,au H,_,au H,_,au H,_,au H,_,au H,_,au H,_,au H,_,au H,_,au H,_,au H,_,au H,_,au H,_,_,_,au H,_,au H,_,au H,_,au H,_,_,_,au H,_,au H,_,au H,_,au H,_,au H,_,au H,_,_,_,au H,_,au H,_,au H,e⟩
theorem aS.jR{A:Addr}{x:aS.S}{K:aS.S->Prop}(H:dO A x.l 0 h)(e:K x):aS.cC h A K:=by
 obtain⟨q,Q,r,F,J,M,O,P,S,T,f,g,i,j,k,l,m,n,o,p,t,u,v,w,y,z,B,C,D,E,G,I,_⟩:=H;rw[fx]at q;exact⟨_,q,_,Q,_,r,_,F,_,J,_,M,_,O,_,P,_,S,_,T,_,f,_,g,_,i,_,j,_,k,_,l,_,m,_,n,_,o,_,_,_,p,_,t,_,u,_,v,_,_,_,w,_,y,_,z,_,B,_,C,_,D,_,_,_,E,_,G,_,I,e⟩
theorem aS.fJ{x:aS.S}{K:Nat->ai->Prop}(f: ∀B H,B=h.size->aS.fE H B x->Fr No h H->K B H):bg h (.C aS.S.z.arr 44) λB e=>aS.dt e (AA B 0) x (K B):=
 gA (vs:=x.l) rfl rfl f
theorem aS.cW{x:aS.S}{K:Nat->ai->Prop}(f: ∀B H,B=h.size->aS.fE H B x->Fr No h H->K B H):bg h (.C x.arr 44) λB e=>K B e:=
 cS (f _ _ rfl bZ (Fr.push _ _))
variable {K:aS.S->Prop} {x:aS.S}
theorem CD.walk(e:bg h (.C x.arr 44) λB H=> ∃t,Cc H B 30 (.B t)/\if t then∃T,Cc H B 31 (.B T)/\R (.B T) H else R (.B false) H):Cl 50 #[x.agg] h R:=aR [] Tryz.func50 e
theorem jk.UC.walk(f: ∃(I:Int->ai->Prop)(m:Int->ai->Nat),I 0 h/\∀(t:Int)(H:ai),I t H->if(decide (t<(s:Int)))then Bd t s/\aN c λA=>aS.cC H (A.add (toNat t*32)) λg=>Cl 50 #[g.agg] H λv e=> ∃T,v=.B T/\if T then R (.I t) e else(I (wrap .i64 (t+1)) e/\m (wrap .i64 (t+1)) e<m t H)else R (.I (-1)) H):Cl 49 #[.L c s d,.func (.func 50) #[] #[]] h R:=aR [(6,.loop [(8,.one (.int .i64))])] Tryz.func49 f
theorem HM.walk(e:Cl 49 #[.L a L b,.func (.func 50) #[] #[]] h λv H=> ∃t,v=.I t/\if(decide (t<0))then R (.I (L:Int)) H else R (.I t) H):Cl 26 #[.L a L b] h R:=aR [] Tryz.func26 e
theorem BL.walk(e:bg h (.C #[.L a L b] 31) λB H=>R (.func (.func 51) #[] #[.P B 0]) H):Cl 27 #[.L a L b] h R:=aR [] Tryz.func27 e
theorem Fi.y.walk{l:Nat}{C:Nat}(n:Hl h C 0 λr i _=> ∃(I:Int->ai->Prop)(m:Int->ai->Nat),I 0 h/\∀(T:Int)(H:ai),I T H->if(decide (T<(i:Int)))then Bd T i/\aN r λA=>aS.cC H (A.add (toNat T*32)) λo=>bg H (.C aS.S.z.arr 44) λB j=>aS.dt j (AA B 0) o λe=>aG (λ(q:Bool) (f:ai)=>if q then R (.T #[]) f else(([]:List Nat)= []/\I (wrap .i64 (T+1)) f/\m (wrap .i64 (T+1)) f<m T H)) (λJ=> ∃g,Cc e B 31 (.B g)/\if(!g)then aS.cC e (AA B 0) λp=>ss Tryz.prog l #[.I T,p.agg] e λv k=> ∃(t:Bool),v=.B t/\([]:List Nat)= []/\J (!t) k else([]:List Nat)= []/\J false e)else R (.T #[]) H):Cl 51 #[.func (.yield l) #[] #[],.P C 0] h R:=mE (lq (bq (.loop [(7,.one (.int .i64))] (lq (sq (cq lf lf) (sq (bq (lq (sq (.join [(21,.one (.bool))] lf) (cq lf lf)))) lf)))))) Tryz.func51 rfl rfl (Eq.mp dA n)
theorem yw.walk (hv:bg h (.C self.arr 29) λa' b'=>bg b' (.C #[.I 0] 3) λB i'=>bg i' (.C #[.I 0] 24) λe w=>ax.cC w (AA a' 0) λs'=>Cl 5 #[s'.agg] w λA' n'=> ∃O t,A'=.T #[.pointer O,.I t]/\bg n' (.C #[.pointer none] 23) λp o'=>aJ o' (AA p 0) (.pointer O) λy=>if(t !=0)then aJ y (AA B 0) (.I 0) λp'=>aJ p' (AA e 0) (.I t) λo=>Hi o B 0 λr0=> ∃E,Cc o e 0 (.I E)/\R (.T #[.I r0,.I E]) o else Cl 26 #[.L a L b] y λB' q'=>Vi B' λt'=>bg q' (.C #[.I 0] 3) λi c'=>aJ c' (AA i 0) (.I t') λd'=>Cl 27 #[.L a L b] d' λC' H=> ∃P,C'=P/\JO Tryz.prog (P) H (λrec C args e'=> ∃T,aS.EX λQ=>args= [.I T,Q.agg]/\bg e' (.C aS.S.z.arr 44) λm f'=>aS.dt f' (AA m 0) Q λu=>KJ u (H.size+1) (rec .ready none)/\∀f,f=ij u (H.size+1) (rec .busy none)->∃S,Cc f i 0 (.I S)/\if(decide (T≥S))then(KJ f (H.size+1) (rec .busy none)/\C false (ij f (H.size+1) (rec .done (some (.exit 0)))))else Hp f p 0 λu'=>aM.cC f (AA m 0) λv'=>Cl 9 #[.pointer u',v'.agg] f λD' g'=>aq.EX λU=> ∃V,D'=.T #[U.agg,.I V]/\aq.NW g' λq h'=>aq.dt h' (AA q 0) U λj=>aG (λ(z':Bool) (n:ai)=>if z' then aJ n (AA B 0) (.I T) λj'=>aJ j' (AA e 0) (.I 0) λv=>(KJ v (H.size+1) (rec .busy none)/\C false (ij v (H.size+1) (rec .done (some .ret))))else(KJ n (H.size+1) (rec .busy none)/\C true (ij n (H.size+1) (rec .ready none)))) (λJ=>if(V !=0)then([]:List Nat)= []/\J true j else aq.cC j (AA q 0) λw'=>aq.cC j (AA m 24) λx'=>Cl 28 #[w'.agg,x'.agg] j λE' k'=>Vb E' λy'=>([]:List Nat)= []/\J (!y') k')) (PV (λg=> ∃X,Cc g i 0 (.I X)/\aJ g (AA B 0) (.I X) λl'=>aJ l' (AA e 0) (.I 0) λk=>k[H.size]? =some (.deferred (some []))/\∃z,aT (k.setIfInBounds H.size (.deferred none)) (AA B 0)=some (.I z)/\∃F,aT (k.setIfInBounds H.size (.deferred none)) (AA e 0)=some (.I F)/\R (.T #[.I z,.I F]) (k.setIfInBounds H.size (.deferred none))) (λG=>G[H.size]? =some (.deferred (some []))/\∃A,aT (G.setIfInBounds H.size (.deferred none)) (AA B 0)=some (.I A)/\∃I,aT (G.setIfInBounds H.size (.deferred none)) (AA e 0)=some (.I I)/\R (.T #[.I A,.I I]) (G.setIfInBounds H.size (.deferred none))) (λr' r=>Tc (Nat.beq r' 0) (∃Z,Cc r i 0 (.I Z)/\aJ r (AA B 0) (.I Z) λm'=>aJ m' (AA e 0) (.I 0) λl=>l[H.size]? =some (.deferred (some []))/\∃D,aT (l.setIfInBounds H.size (.deferred none)) (AA B 0)=some (.I D)/\∃M,aT (l.setIfInBounds H.size (.deferred none)) (AA e 0)=some (.I M)/\R (.T #[.I D,.I M]) (l.setIfInBounds H.size (.deferred none))) (False)))):Cl 10 #[self.agg,.L a L b] h R:=mE (lq (lq (sq (lq (cq ll lf)) (lq (sq (lq (bq (.scope 1 [(25,.one (.int .i64)),(26,.agg [.int .u64,.int .i64,.int .u64,.int .i64,.int .u64,.int .i64,.bool,.int .u64,.int .u64,.str,.str,.bool,.int .u64,.int .u64,.str,.str,.int .i64,.int .i64,.int .i64,.slice,.int .u64,.int .u64,.bool,.slice,.int .u64,.int .i64,.int .i64,.int .i64,.int .u64,.slice,.bool,.bool])] ll (bq (sq (lq (cq lf lf)) (lq (sq (.join [(45,.one (.bool))] lf) (cq ll lf)))))))) ll))))) Tryz.func10 rfl rfl (Eq.mp dA hv)
theorem HN.walk (hv:bg h (.C self.arr 29) λI M=>bg M (.C #[.pointer none] 23) λB X=>bg X (.C #[.I 0] 24) λe p=>ax.cC p (AA I 0) λc'=>Cl 5 #[c'.agg] p λg' Z=> ∃z t,g'=.T #[.pointer z,.I t]/\bg Z (.C #[.pointer none] 23) λj a'=>aJ a' (AA j 0) (.pointer z) λq=>if(t !=0)then aJ q (AA B 0) (.pointer none) λb'=>aJ b' (AA e 0) (.I t) λl=>Hp l B 0 λr0=> ∃v,Cc l e 0 (.I v)/\R (.T #[.pointer r0,.I v]) l else Cl 27 #[.L a L b] q λh' H=> ∃A,h'=A/\JO Tryz.prog (A) H (λrec C args O=> ∃d',aS.EX λD=>args= [d',D.agg]/\bg O (.C aS.S.z.arr 44) λm P=>aS.dt P (AA m 0) D λn=>KJ n (H.size+1) (rec .ready none)/\∀f,f=ij n (H.size+1) (rec .busy none)->Hp f j 0 λe'=>aM.cC f (AA m 0) λf'=>Cl 9 #[.pointer e',f'.agg] f λi' Q=>aq.EX λE=> ∃T,i'=.T #[E.agg,.I T]/\aq.NW Q λJ S=>aq.dt S (AA J 0) E λk=>if(T !=0)then aJ k (AA B 0) (.pointer none) λU=>aJ U (AA e 0) (.I T) λo=>(KJ o (H.size+1) (rec .busy none)/\C false (ij o (H.size+1) (rec .done (some .ret))))else(KJ k (H.size+1) (rec .busy none)/\C true (ij k (H.size+1) (rec .ready none)))) (PV (λg=> ∃F,Cc g j 0 (.pointer F)/\aJ g (AA B 0) (.pointer F) λV=>aJ V (AA e 0) (.I 0) λi=>i[H.size]? =some (.deferred (some []))/\∃r,aT (i.setIfInBounds H.size (.deferred none)) (AA B 0)=some (.pointer r)/\∃w,aT (i.setIfInBounds H.size (.deferred none)) (AA e 0)=some (.I w)/\R (.T #[.pointer r,.I w]) (i.setIfInBounds H.size (.deferred none))) (λG=>G[H.size]? =some (.deferred (some []))/\∃u,aT (G.setIfInBounds H.size (.deferred none)) (AA B 0)=some (.pointer u)/\∃y,aT (G.setIfInBounds H.size (.deferred none)) (AA e 0)=some (.I y)/\R (.T #[.pointer u,.I y]) (G.setIfInBounds H.size (.deferred none))) (λ_ _=>False))):Cl 19 #[self.agg,.L a L b] h R:=mE (lq (lq (sq (lq (cq ll lf)) (sq (lq (bq (.scope 0 [(22,.one (.raw)),(23,.agg [.int .u64,.int .i64,.int .u64,.int .i64,.int .u64,.int .i64,.bool,.int .u64,.int .u64,.str,.str,.bool,.int .u64,.int .u64,.str,.str,.int .i64,.int .i64,.int .i64,.slice,.int .u64,.int .u64,.bool,.slice,.int .u64,.int .i64,.int .i64,.int .i64,.int .u64,.slice,.bool,.bool])] lf (bq (lq (lq (cq ll lf))))))) ll)))) Tryz.func19 rfl rfl (Eq.mp dA hv)
theorem Fj.walk{X:Int}{e:Int}{f:Bool}{g:Bool}{k:ct}{j i:Nat}{n:ct}{m l:Nat}(o:bg h (.C #[.I X,.U e,.B f,.B g,.L k j i,.L n m l] 105) λB H=> ∃t,Cc H B 2 (.B t)/\R (.B t) H):Cl 31 #[.agg #[.I X,.U e,.B f,.B g,.L k j i,.L n m l]] h R:=aR [] Tryz.func31 o
theorem iu.down.walk(f: ∃(I:Int->ai->Prop)(m:Int->ai->Nat),I 0 h/\∀(t:Int)(H:ai),I t H->if(decide (t<(s:Int)))then Bd t s/\aN c λA=>cI.LD H (A.add (toNat t*6)) λg i j k o n l r q p=>Cl 31 #[.agg #[.I g,.U i,.B j,.B k,.L o n l,.L r q p]] H λv e=> ∃T,v=.B T/\if T then R (.I t) e else(I (wrap .i64 (t+1)) e/\m (wrap .i64 (t+1)) e<m t H)else R (.I (-1)) H):Cl 53 #[.L c s d,.func (.func 31) #[] #[]] h R:=aR [(6,.loop [(8,.one (.int .i64))])] Tryz.func53 f
theorem ia.down.walk(e:Cl 53 #[.L c s d,.func (.func 31) #[] #[]] h λv H=> ∃t,v=.I t/\R (.B (decide (t≥0))) H):Cl 32 #[.L c s d,.func (.func 31) #[] #[]] h R:=aR [] Tryz.func32 e
theorem JP.walk{S:Nat}(l:aM.NW h λB f=>aG (λ(o:Bool) (H:ai)=>if o then aM.dt H (AA B 0) aM.S.z λg=>aM.cC g (AA B 0) λr=>R (.T #[r.agg,.B false]) g else Hp H S 0 λp=>Cl 33 #[.pointer p] H λv k=>Vl v λw u q=>Cl 32 #[.L w u q,.func (.func 31) #[] #[]] k λV e=> ∃T,V=.B T/\if(!T)then aM.dt e (AA B 0) aM.S.z λi=>aM.cC i (AA B 0) λm=>R (.T #[m.agg,.B false]) i else Hu e S 6 λy=>aM.dt e (AA B 0) ⟨y,8,0,0,0,0,false,0,0,iB,iB,false,0,0,iB,iB,0,0,0,none,0,0,0,0,false,none,0,0⟩ λj=>aM.cC j (AA B 0) λn=>R (.T #[n.agg,.B true]) j) (λJ=> ∃t,Cc f S 0 (.pointer t)/\J t.isNone f)):Cl 20 #[.P S 0] h R:=aR [(4,.join [(13,.one (.bool))])] Tryz.func20 l
theorem HO.walk (hv:bg h (.C aS.S.z.arr 44) λf s'=>aS.dt s' (AA f 0) ⟨3,1,5,0,0,0,false,0,0,iB,iB,false,0,0,iB,iB,0,0,0,none,0,0,0,0,false,none,0,0,0,0,1,0,5,none,0,0,false,false⟩ λA'=>Cl 18 #[.U 0,.I 12] A' λZ' J'=>aq.EX λt=>Z'=t.agg/\bg J' (.C aS.S.z.arr 44) λB Q'=>aS.dt Q' (AA B 0) ⟨4,1,5,0,0,0,false,0,0,iB,iB,false,0,0,iB,iB,0,0,0,none,0,0,0,0,false,none,0,0,t.f0,t.f1,t.f2,t.f3,t.f4,t.TL,t.f5l,t.TM,false,false⟩ λu=>aS.cC u (AA f 0) λU'=>bg u (.C aS.S.z.arr 44) λk R'=>aS.dt R' (AA k 0) U' λS'=>aJ S' (AA k 31) (.B true) λi=>aG (λ(T':Int) (e:Int) (j:ai)=>aG (λ(m:Int) (q':Int) (g:ai)=>aG (λ(S:ct) (r':Int) (t':ai)=>Cl 10 #[ax.S.z.agg,.Z] t' λa0 u'=> ∃V' e',a0=.T #[.I V',.I e']/\Cl 20 #[.pointer S] u' λa7 v'=>aM.EX λf'=> ∃g',a7=.T #[f'.agg,.B g']/\aM.NW v' λo w'=>aM.dt w' (AA o 0) f' λH=>if(T'==2)then if(e==0)then if(m==1)then if(q'==0)then if(r'==0)then if(!S.isNone)then aN S λj'=> ∃h',aT H (j'.add 6)=some (.U h')/\if(h'==4)then if(e'==3)then if g' then aM.cC H (AA o 0) λX'=>Cl 21 #[X'.agg,.agg #[.U 4,.I 8,.U 0,.I 0,.U 0,.I 0,.B false,.U 0,.U 0,.S iB,.S iB,.B false,.U 0,.U 0,.S iB,.S iB,.I 0,.I 0,.I 0,.Z,.U 0,.U 0,.B false,.Z]] H λa8 x'=> ∃i',a8=.B i'/\R (.B i') x' else R (.B false) H else R (.B false) H else R (.B false) H else R (.B false) H else R (.B false) H else R (.B false) H else R (.B false) H else R (.B false) H else R (.B false) H) (λn=>aS.cC g (AA f 0) λX=>aS.cC g (AA B 0) λZ=>(Cl 6 #[] g λa9 p=>ax.EX λU=>a9=U.agg/\Kp g p [(Sa B 0),(Sa f 0)]/\bg p (.C (X.l++Z.l).toArray 44) λk' y'=>Cl 19 #[U.agg,.L (Sa k' 0) 2 2] y' λb0 z'=> ∃a' c',b0=.T #[.pointer a',.I c']/\n a' c' z')/\(bg g (.C (X.l++Z.l).toArray 44) λl' B'=>Cl 6 #[] B' λb1 C'=>ax.EX λV=>b1=V.agg/\Cl 19 #[V.agg,.L (Sa l' 0) 2 2] C' λb2 D'=> ∃b' d',b2=.T #[.pointer b',.I d']/\n b' d' D')/\True)) (λl=>aS.cC j (AA k 0) λG=>aS.cC j (AA B 0) λI=>(Cl 6 #[] j λb3 q=>ax.EX λE=>b3=E.agg/\Kp j q [(Sa B 0),(Sa k 0)]/\bg q (.C (G.l++I.l).toArray 44) λm' E'=>Cl 10 #[E.agg,.L (Sa m' 0) 2 2] E' λb4 F'=> ∃M P,b4=.T #[.I M,.I P]/\l M P F')/\(bg j (.C (G.l++I.l).toArray 44) λn' G'=>Cl 6 #[] G' λa1 H'=>ax.EX λF=>a1=F.agg/\Cl 10 #[F.agg,.L (Sa n' 0) 2 2] H' λa2 I'=> ∃O Q,a2=.T #[.I O,.I Q]/\l O Q I')/\True)) (λJ=>aS.cC i (AA f 0) λw=>aS.cC i (AA B 0) λy=>(Cl 6 #[] i λa3 r=>ax.EX λT=>a3=T.agg/\Kp i r [(Sa B 0),(Sa f 0)]/\bg r (.C (w.l++y.l).toArray 44) λo' K'=>Cl 10 #[T.agg,.L (Sa o' 0) 2 2] K' λa4 L'=> ∃z C,a4=.T #[.I z,.I C]/\J z C L')/\(bg i (.C (w.l++y.l).toArray 44) λp' M'=>Cl 6 #[] M' λa5 O'=>ax.EX λv=>a5=v.agg/\Cl 10 #[v.agg,.L (Sa p' 0) 2 2] O' λa6 P'=> ∃A D,a6=.T #[.I A,.I D]/\J A D P')/\True)):Cl 8 #[] h R:=aR [(11,.join [(4,.one (.int .i64)),(5,.one (.int .i64))]),(11,λ_=> .jm (.op 1 (.op 2 (.alts (.fork 0 (fS 7 3 .done) (.fork 3 (.op 0 (fS 6 4 .done)) .ic)))))),(13,.join [(6,.one (.int .i64)),(7,.one (.int .i64))]),(13,λ_=> .jm (.op 1 (.op 2 (.alts (.fork 0 (fS 7 3 .done) (.fork 3 (.op 0 (fS 6 4 .done)) .ic)))))),(15,.join [(8,.one (.ptr)),(9,.one (.int .i64))]),(15,λ_=> .jm (.op 1 (.op 2 (.alts (.fork 0 (fS 7 3 .done) (.fork 3 (.op 0 (fS 6 4 .done)) .ic))))))] Tryz.func8 hv
theorem wC.walk{v:Int}{num:Int} (hv:Cl 6 #[] h λU' x'=>ax.EX λb'=>U'=b'.agg/\Cl 5 #[b'.agg] x' λV' D=> ∃q c',V'=.T #[.pointer q,.I c']/\aG (λ(O':Bool) (F:ai)=>if O' then R (.B false) F else∃(I:ct->Nat->Nat->Int->ai->Prop)(Q:ct->Nat->Nat->Int->ai->Nat),I none 0 0 0 F/\∀(e:ct)(l f:Nat)(i:Int)(k:ai),I e l f i k->aG (λ(P':Bool) (o:ai)=>if P' then aG (λ(P:ct) (O M:Nat) (G:ai)=>(I P O M (wrap .i64 (i+1)) G/\Q P O M (wrap .i64 (i+1)) G<Q e l f i k)) (λp'=>Bd i L/\aN a λq'=>aM.cC o (q'.add (toNat i*24)) λQ'=>Cl 7 #[Q'.agg] o λa1 p=> ∃d',a1=.B d'/\if d' then Cl 8 #[] p λa2 G'=> ∃e',a2=.B e'/\R (.B e') G' else Bd i L/\aN a λr'=>aM.cC p (r'.add (toNat i*24)) λR'=>Cl 9 #[.pointer q,R'.agg] p λa3 H'=>aq.EX λf'=> ∃g',a3=.T #[f'.agg,.I g']/\aq.NW H' λB y'=>aq.dt y' (AA B 0) f' λg=>aG (λ(K':ct) (J' I':Nat) (z':ai)=>p' K' J' I' z') (λu=>if(g'==0)then Bd i L/\aN a λA=>aM.cC g (A.add (toNat i*24)) λt=>aq.cC g (AA B 0) λT=>bg g (.C #[.U t.f0,.I t.f1,.U t.f2,.I t.f3,.U t.f4,.I t.f5,.B t.f6,.U t.f7,.U t.f8,.S t.f9,.S t.f10,.B t.f11,.U t.f12,.U t.f13,.S t.f14,.S t.f15,.I t.f16,.I t.f17,.I t.f18,.L t.FY t.FZ t.F0,.U t.f20,.U t.f21,.B t.f22,.L t.Ga t.Gb t.Gc,.U T.f0,.I T.f1,.I T.f2,.I T.f3,.U T.f4,.L T.TL T.f5l T.TM,.B false,.B false] 44) λv' m=>Kp g m [(Sa B 0),(some (A.add (toNat i*24)))]/\ba Tryz.prog (Builtin.append_ #[31,31] 31 #[.L e l f,.L (Sa v' 0) 1 1]) m λa4 y=> ∃j' i' h',a4=.L j' i' h'/\Kp m y [(Sa B 0),(some (A.add (toNat i*24)))]/\u j' i' h' y else u e l f g))else Cl 6 #[] o λa5 A'=>ax.EX λk'=>a5=k'.agg/\Cl 10 #[k'.agg,.L e l f] A' λa6 z=> ∃l' m',a6=.T #[.I l',.I m']/\aG (λ(S':Bool) (H:ai)=>if S' then R (.B false) H else aG (λ(T':Bool) (C:ai)=>if T' then Cl 8 #[] C λa7 B'=> ∃o',a7=.B o'/\R (.B o') B' else bg C (.C #[] 44) λw' C'=>ba Tryz.prog (Builtin.append_ #[31,31] 31 #[.L (Sa w' 0) 0 0,.L e l f]) C' λa8 E=>Vl a8 λU S L'=>Bd v l/\aN e λs'=>gz E ((s'.add (toNat v*32)).add 24) λM'=>Bd v S/\aN U λt'=>aq.dt E ((t'.add (toNat v*32)).add 24) ⟨M',0,num,0,0,none,0,0⟩ λD'=>Cl 6 #[] D' λX' E'=>ax.EX λV=>X'=V.agg/\Cl 10 #[V.agg,.L U S L'] E' λZ' F'=> ∃X Z,Z'=.T #[.I X,.I Z]/\Cl 8 #[] F' λa0 n=> ∃a',a0=.B a'/\if a' then if(Z==0)then R (.B (X==v)) n else R (.B false) n else R (.B false) n) (λj=>if(decide (v<0))then j true H else if(decide (v≥(l:Int)))then j true H else if(decide (num<0))then j true H else Bd v l/\aN e λu'=> ∃n',aT H (((u'.add (toNat v*32)).add 24).add 2)=some (.I n')/\j (n'==num) H)) (λw=>if(m' !=0)then w true z else w (l' !=(l:Int)) z)) (λr=>if(decide (i<(L:Int)))then r (decide (i<40)) k else r false k)) (λJ=>if(c' !=0)then J true D else J q.isNone D)):Cl 3 #[.L a L b,.I v,.I num] h R:=aR [(6,.join [(26,.one (.bool))]),(18,.loop [(9,.one (.slice)),(10,.one (.int .i64))]),(21,.join [(34,.one (.bool))]),(26,.join [(9,.one (.slice))]),(39,.join [(9,.one (.slice))]),(40,λ_=>pK 10),(47,.join [(76,.one (.bool))]),(55,.join [(98,.one (.bool))])] Tryz.func3 hv

end
section
namespace PR
open jH (Ev lB)
open dP (SS Good Pt oN Mk Bk)
open Go.Proofs.YtkdgpmeojgokdaaGreatDoor.Ask (En rS Rw Bx ks tX lF mT)
open pf (qK di EV y7)
open Go.fW (RD)
structure LV where
 f:EV
 y:RD
 r:ct
 e:Nat
 told:Bool
 lost:Bool
abbrev LV.ln(v:LV):Ln:=⟨v.f.x,v.y,v.told,v.lost⟩
abbrev LV.s(v:LV):aS.S:=⟨v.f.x.now,v.f.x.kind,v.f.x.token,v.f.x.ses,v.f.x.iO.id,v.f.x.iO.kind,v.f.x.iO.ep.lD,v.f.x.iO.ep.node,v.f.x.iO.ep.gL,v.f.x.iO.ep.host,v.f.x.iO.ep.jZ,v.f.x.iO.dest.lD,v.f.x.iO.dest.node,v.f.x.iO.dest.gL,v.f.x.iO.dest.host,v.f.x.iO.dest.jZ,v.f.x.iO.lU,v.f.x.iO.num,v.f.x.iO.ja,v.f.p,v.f.x.iO.mf.length,v.f.c,v.f.x.iO.fT,v.f.x.iO.token,v.f.x.iO.on,v.f.q,v.f.x.data.length,v.f.d,(v.y.id:Int),v.y.err,v.y.num,v.y.count,(v.y.token:Int),v.r,v.y.b.length,v.e,v.told,v.lost⟩
abbrev kr(v:LV):List Value:=v.s.l
theorem lu(v:LV):(kr v).length=32:=rfl
variable {V : List UInt8 → Bool} {h c d H g : ai} {R : Value → ai → Prop} {s k j : Nat} {X x : Ft} {I : oN} {n : SS} {l p q : Option Addr} {fs : List LV}
structure LV.ok (h:ai) (v:LV):Prop where
 f:v.f.ok h
 r:Row h v.r (bc v.y.b)
theorem EV.ok.on{f:EV}(o:f.ok h)(F:Fr No h c):f.ok c:=⟨o.r1.frame F bX,o.c1,o.r2.frame F bX,o.c2,o.w1,o.w2⟩
theorem M6(v:LV)(i: hM h R (.B (v.told && v.lost))):Cl 50 #[v.s.agg] h R:=by
 refine CD.walk (aS.cW (x:=v.s) λb H E a F=> ?_);have C:aT H (AA b 30)=some (.B v.told):=au a;have f:aT H (AA b 31)=some (.B v.lost):=au a;refine⟨_,C,?_⟩;have:=i H F;cases e:v.told with
 |true=>rw[af rfl];rw[e]at this;exact⟨_,f,this⟩
 |false=>rw[dy];rw[e]at this;exact this
theorem PW: ∀fs:List LV,(match fs.findIdx? (λv=>v.told && v.lost)with|some k=>k|none=>fs.length)=wr (fs.map LV.ln)
 | []=>rfl
 |v::fs=>by
  have i:=PW fs;rw[List.findIdx?_cons,cb,wr];cases e:(v.told && v.lost)with
  |true=>
   rw[af rfl,af (cQ e)]
  |false=>
   rw[dy,ae (cQ e)];cases q:fs.findIdx? (λv=>v.told && v.lost)with
   |none=>rw[q]at i;dsimp only at i;simp only[gD];rw[<-i];rfl
   |some k=>rw[q]at i;dsimp only at i;simp only[dq];rw[<-i]
theorem nE{i:Nat}(C:Row h l (fs.flatMap kr))(B:i=fs.length)(A:fs.length<=1000000000)(z: hM h R (.I (idxOf (λv:LV=>v.told && v.lost) fs))):
  Cl 49 #[.L l i j,.func (.func 50) #[] #[]] h R:=by
 refine jk.UC.walk (rG (λv:LV=>v.told && v.lost) (λT g K=>((0:Int)<=T/\T<(i:Int))/\aN l λa=>aS.cC g (a.add (Int.toNat T*32)) λD=>
  Cl 50 #[D.agg] g λv G=> ∃q,v=.B q/\K q G) B A (λk g u K r f y=> ?_) (λg f=>z g f))
 have E:=(ay.1 r).1;have m:=C.frame f bX;obtain⟨a,rfl⟩:=m.some (λe=>by have:=cf List.length e;rw[dY kr 32 lu,bE]at this;omega);exact⟨ag,aw.2 (aS.jR (x:=u.s) (by rw[aH];exact m.gx lu r) (M6 u λw F=>⟨_,rfl,y w (f.tt F)⟩))⟩
theorem AH(r:Row h l (fs.flatMap kr))(i:fs.length<=1000000000)(a: hM h R (.I (wr (fs.map LV.ln):Int))):Cl 26 #[.L l fs.length j] h R:=by
 refine HM.walk (nE r rfl i λH f=>⟨_,rfl,?_⟩);have e:=PW fs;unfold idxOf;cases q:fs.findIdx? (λv=>v.told && v.lost)with
 |none=>
  rw[q]at e;dsimp only at e⊢;rw[ga,e];exact a H f
 |some k=>
  rw[q]at e;dsimp only at e⊢;rw[ae bU,e];exact a H f
theorem HP{w:Type}{e:w->List Value}{S:Nat}(r: ∀m,(e m).length=S){a:List w}{i O:Nat}{m y:w}{u:List Value}(A:a[i]? =some m)(D:e y=lT (e m) O u)(K:O+u.length<=S):
  lT (a.flatMap e) (i*S+O) u=(a.set i y).flatMap e:=by
 obtain⟨B,_⟩:=ay.1 A;have z:=dY e S r a;have G:i*S+S<=a.length*S:=by
  have:=cV S (show i+1<=a.length by omega);rwa[eO,Nat.one_mul]at this
 refine FI e S r a i y B _ (x9 _ _ _) (λJ hj=> ?_) (λJ v hj f=> ?_)
 .rw[pW _ _ _ (by rw[z];omega),ae];rintro⟨H,F⟩;rcases hj with hj|hj
  .apply hj
   have E:0<S:=ag
   rw[Nat.div_eq_iff E];constructor<;>omega
  .omega
 .rw[D,pW _ _ _ (by rw[r];omega)]at f;rw[pW _ _ _ (by rw[z];omega)];by_cases C:O<=J/\J<O+u.length
  .rw[af C]at f;rw[ga,show i*S+J - (i*S+O)=J - O by omega];exact f
  .rw[ae C]at f;rw[dy];exact pP e S r a i m A J v f
def Kx(X:Ft)(g:ai)(L:List (Nat×Obj)):Prop:= ∀e∈L,g[e.1]? =some e.2/\¬(X.M e.1\/X.D e.1)
variable {L t : List (Nat × Obj)} {b : Nat} {o o' : Obj}
theorem Kx.step(K:Kx X g L)(S:bw X g x h):Kx x h L:=λe f=>by
 obtain⟨a,C⟩:=K e f;have z:=aD a;refine⟨S.fr.get a (λq=>C (.inl q)),λq=> ?_⟩;rcases q with q|q
 .rcases S.hO _ q with q|q
  .exact C (.inl q)
  .omega
 .rcases S.ji _ q with q|q
  .exact C (.inr q)
  .omega
theorem Kx.on(K:Kx X g L)(F:Fr No g h):Kx X h L:=λe a=>⟨F.get (K e a).1 id,(K e a).2⟩
theorem Kx.add(K:Kx X g L)(a:g[b]? =some o)(C: ¬(X.M b\/X.D b)):Kx X g ((b,o)::L):=λe he=>by
 rcases bf.1 he with rfl|he
 .exact⟨a,C⟩
 .exact K e he
theorem Kx.sub(K:Kx X g L)(s: ∀e∈t,e∈L):Kx X g t:=λe a=>K e (s e a)
theorem Kx.at(K:Kx X g L)(i:Nat){e:Nat×Obj}(a:L[i]? =some e):g[e.1]? =some e.2:=(K e (aX a)).1
theorem Kx.QQ(K:Kx X g ((b,o)::L))(a:h[b]? =some o')(i: ∀y,y≠b->h[y]? =g[y]?)(f: ∀e∈L,e.1≠b):Kx X h ((b,o')::L):=λe he=>by
 rcases bf.1 he with rfl|he
 .exact⟨a,(K (b,o) (dk ..)).2⟩
 .have:=K e (cv _ he);exact⟨(i _ (f e he)).trans this.1,this.2⟩
theorem En.off(E:En V d g s X I n k)(C: ¬(X.M b\/X.D b))(u:d.size<=b)(m:h.size=g.size)(i: ∀y,y≠b->h[y]? =g[y]?):En V d h s X I n k:=by
 have f:Fr (λy=>y=b) g h:=Fr.of_eq m (λC a=>i C a);exact⟨E.H.frame f (λy r e=>C (e▸r)),E.G,E.hk,⟨E.u.fr.fresh f (λy e=>ag),E.u.ge⟩,E.U,E.mx⟩
theorem En.new(E:En V d g s X I n k)(e:g.size<=b): ¬(X.M b\/X.D b):=λa=>by have:=E.H.lt b a;omega
theorem Kx.put{A B:List (Nat×Obj)}(K:Kx X g (A++(b,o)::B))(a:h[b]? =some o')(i: ∀y,y≠b->h[y]? =g[y]?)(f: ∀e∈A++B,e.1≠b):Kx X h (A++(b,o')::B):=λe he=>by
 rcases bH.1 he with he|he
 .have:=K e (dJ _ he);exact⟨(i _ (f e (dJ _ he))).trans this.1,this.2⟩
 .rcases bf.1 he with rfl|he
  .exact⟨a,(K (b,o) (dE _ (dk ..))).2⟩
  .have:=K e (dE _ (cv _ he));exact⟨(i _ (f e (dE _ he))).trans this.1,this.2⟩
theorem Kx.Nf(K:Kx X g L)(i:Nat){e:Nat×Obj}(a:L[i]? =some e): ¬(X.M e.1\/X.D e.1):=(K e (aX a)).2
theorem qj{o:Obj}{K:Nat->ai->Prop}(a: ∀b c,b=h.size->c[b]? =some o->Fr No h c->K b c):bg h o K:=
 λb c e E=>a b c e (by rw[E,e];exact bZ) (by rw[E];exact Fr.push _ _)
theorem ss.mono{P:Program}{u:Nat}{args:Array Value}{R i:fM}(y:ss P u args h R)(A: ∀v c,R v c->i v c):ss P u args h i:=λw D=>by
 obtain⟨f,T,a,b,H,z⟩:=y w D;refine⟨f,T,a,b,H,λr m=>RoundIn.mono (z r m) ?_⟩;rintro e E ⟨v,rfl,C,B⟩;exact⟨v,rfl,A _ _ C,B⟩
theorem KK{g:ai}{b:Nat}{o:Obj}(a:b<g.size):(g.setIfInBounds b o)[b]? =some o:=by simp[a]
theorem mF{g:ai}{b y:Nat}{o:Obj}(a:y≠b):(g.setIfInBounds b o)[y]? =g[y]? :=Array.getElem?_setIfInBounds_ne (λe=>a e.symm)
theorem KL{i:Nat}{f:LV}(e:fs[i]? =some f):(fs.map LV.ln).drop i=f.ln::(fs.map LV.ln).drop (i+1):=by
 obtain⟨H,a⟩:=ay.1 e;rw[cP (by rw[aC];exact H),List.getElem_map,a]
theorem HQ{St:Nat->ai->Prop}{D w:Nat}(a': ∀i g,St i g->Row g l (fs.flatMap kr))(O:h[w]? =some (.C #[.L l fs.length j] 31 (0,0)))(hl:fs.length<=1000000000)(K:St 0 h)(Z: ∀i g G,St i g->Fr No g G->St i G)(P: ∀i g f,fs[i]? =some f->f.lost=true->St i g->St (i+1) g)(Q: ∀i g f,fs[i]? =some f->f.lost=false->St i g->ss Tryz.prog D #[.I (i:Int),f.s.agg] g λv G=> ∃b,v=.B b/\((b=true->St (i+1) G)/\(b=false->R (.T #[]) G)))(E: ∀g,St fs.length g->R (.T #[]) g):Cl 51 #[.func (.yield D) #[] #[],.P w 0] h R:=by
 refine Fi.y.walk ⟨_,_,_,au O,λT g=> ∃i:Nat,T=(i:Int)/\i<=fs.length/\St i g,λT _=>fs.length - T.toNat,⟨0,rfl,bT _,K⟩,?_⟩;rintro _ g ⟨i,rfl,hi,u⟩;by_cases C:i<fs.length
 .rw[ga];obtain⟨f,m⟩: ∃f,fs[i]? =some f:=⟨_,aj C⟩;have r:=a' i g u;obtain⟨b',rfl⟩:=r.some (λe=>by have:=cf List.length e;rw[dY kr 32 lu,bE]at this;omega);refine⟨ag,aw.2 (aS.jR (x:=f.s) (by rw[aH];exact r.gx lu m) (aS.fJ (x:=f.s) λb a eb z F=>aG.of λJ y=> ?_))⟩;have A:=Z i g a u F;have M:aT a (AA b 31)=some (.B f.lost):=au z;refine⟨_,M,?_⟩;have next: ∀G,St (i+1) G->J false G:=λG s'=>by
   subst y;dsimp only;rw[dy,bJ ag ag];exact⟨rfl,⟨i+1,rfl,ag,s'⟩,by show fs.length - Int.toNat ((i:Int)+1)<fs.length - Int.toNat (i:Int);omega⟩
  cases e:f.lost with
  |true=>rw[dy];exact⟨rfl,next a (P i a f m e A)⟩
  |false=>
   rw[ga];refine aS.fy z (ss.mono (Q i a f m e A) ?_);rintro v G ⟨B,rfl,S,U⟩;refine⟨B,rfl,rfl,?_⟩;cases B with
   |true=>exact next G (S rfl)
   |false=>subst y;dsimp only;rw[ga];exact U rfl
 .rw[ae (λe=>C (bW (aU e)))];obtain rfl:i=fs.length:=ag
  exact E g u
end PR
end
section
namespace PR
open jH (Ev lB)
open dP (SS Good Pt oN Mk Bk)
open Go.Proofs.YtkdgpmeojgokdaaGreatDoor.Ask (En rS Rw Bx ks tX lF mT)
open pf (qK di EV y7)
open Go.fW (RD)
variable {V:cG→Bool} {h i d H g:ai} {R:fM} {s k L:Nat} {X:Ft} {I:oN} {a:SS} {l p q:ct} {fs:List LV}
variable {b n c:Nat} {f:LV} {x:List fu.SC}
theorem UP(o:aS.fE h b f.s):dO (AA b 0) (y7 f.f) 0 h:=gH o (λj v m=>by
 rw[bP];have e:f.s.arr.toList=y7 f.f++(kr f).drop 24:=rfl;rw[<-dv,e,cO (ay.1 m).1];exact m)
theorem W2(r:aS.fE h b f.s):dO (AA b 24) (rS f.y f.r f.e).l 0 h:=gH r (λj v m=>by
 have e:f.s.arr.toList=(kr f).take 24++((rS f.y f.r f.e).l++(kr f).drop 30):=rfl;have o:((kr f).take 24).length=24:=rfl;rw[<-dv,e,cH (by rw[o];omega),o,show 24+j - 24=j by omega,cO (ay.1 m).1];exact m)
theorem sO{j:Nat}{e:Ln}{m:List Ln}:jg V n j a (e::m)=if e.lost=true then jg V n (j+1) a m else if n<=j then n else if(di V a e.x).e=0/\(di V a e.x).y.same e.y then jg V n (j+1) (di V a e.x).σ m else j:=rfl
abbrev JL(B e j m bl D s n len L:Nat)(l:ct)(r:Loop)(w:Nat):List (Nat×Obj):=
 [(D+1,.loop r),(B,.cells #[.int .i64 (w:Int)] 3 (0,0)),(e,.cells #[.int .i64 0] 24 (0,0)),(D,.deferred (some [])),(m,.cells #[.int .i64 (n:Int)] 3 (0,0)),(j,.cells #[pt s] 23 (0,0)),(bl,.cells #[.slice l len L] 31 (0,0))]
theorem BM(U:Cb.ky V d)(mx:nV.Mx d)(M':Fr No d h)(J':Row h l (fs.flatMap kr))(ok: ∀f∈fs,f.ok h)(hl:fs.length<=1000)(hk: hM h R (.T #[.I (BG V (dP.mS mT) (fs.map LV.ln):Int),.I 0])):Cl 10 #[mT.s.agg,.L l fs.length L] h R:=by
 refine yw.walk (ax.cW (x:=mT.s) λb H eb hb f1=>qj λB h2 S' r' f2=>qj λr h3 T' s' f3=>ax.fy (x:=mT.s) (f3.get (f2.get hb id) id) (dP.jj mT (λ_ h4 s X I H4 Z=>⟨_,_,rfl,qj λw h5 U' i' G=>bk i' eW λh6 d1 d2 d3=> ?_⟩) (λn=>absurd tX n)));have F3:=(f1.tt f2).tt f3;have A:=Ask.En.JJ (U.mono M') (mx.on M') F3 H4 Z;have z1:=aD r';have z2:=aD s';have z3:=aD i';have y1:=f1.1;have y3:=f3.1;have y4:=Z.fr.1;have M:Kx X h4 [(B,.C #[.I ((0:Nat):Int)] 3 (0,0)),(r,.C #[.I 0] 24 (0,0))]:=λe m=>by
  simp only[bf,cN,fv]at m;rcases m with rfl|rfl
  .exact⟨Z.fr.get (f3.get r' id) id,λq=>by have:h3.size<=B:=Z.ge _ q;omega⟩
  .exact⟨Z.fr.get s' id,λq=>by have:h3.size<=r:=Z.ge _ q;omega⟩
 have u':=En.new A (b:=w) ag;have E6:=En.off (A.on G) u' ag d2 (λy j=>d3 y j);have K6:=((M.on G).add i' u').QQ (o':=.C #[pt s] 23 (0,0)) d1 (λy j=>d3 y j) (by intro e m;simp only[bf,cN,fv]at m;rcases m with rfl|rfl<;>dsimp only<;>omega);clear M i' d1 d3;rw[dy];refine AH (J'.frame E6.u.fr bX) ag λh9 f9=>⟨_,rfl,?_⟩
 obtain⟨n,en⟩: ∃n,n=wr (fs.map LV.ln):=⟨_,rfl⟩;rw[<-en];have hk: ∀i,Fr No h i->R (.T #[.I (jg V n 0 (dP.mS mT) (fs.map LV.ln):Int),.I 0]) i:=by rw[en];exact hk
 clear en;refine qj λv a7 V' j' n'=>bk j' eW λa8 d4 d5 d6=>BL.walk (qj λbl q' a0 t' o'=>⟨_,rfl,51,_,rfl,dA,λrec b1 F'=> ?_⟩)
 have y9:=f9.1;have z4:=aD j';have zc:=aD t';have E9:=E6.on f9;have v':=En.new E9 (b:=v) ag;have l':=En.off (E9.on n') v' ag d5 (λy j=>d6 y j);have z':=(((K6.on f9).on n').add j' v').QQ (o':=.C #[.I (n:Int)] 3 (0,0)) d4 (λy j=>d6 y j) (by intro e m;simp only[bf,cN,fv]at m;rcases m with rfl|rfl|rfl<;>dsimp only<;>omega);have H':=En.new l' (b:=bl) ag;have f':=l'.on o';have A':=(z'.on o').add t' H';obtain⟨D,eD⟩: ∃D,D=q'.size:=⟨_,rfl⟩;rw[<-eD]at F'⊢;have nD:=En.new f' (b:=D) ag;have G':=En.new f' (b:=D+1) ag;obtain⟨c',e'⟩: ∃c',c'=BJ q' (rec .ready none):=⟨_,rfl⟩;rw[<-e'];have c0:c'[D]? =some (.deferred (some [])):=by
  rw[e'];simp only[BJ,dZ,cZ,<-eD];repeat (first|rfl|rw[af rfl]|rw[dy])
 have Q:c'[D+1]? =some (.loop (rec .ready none)):=by
  rw[e'];simp only[BJ,dZ,cZ,<-eD];repeat (first|rfl|rw[af rfl]|rw[dy])
 have p':Fr No q' c':=by rw[e'];exact(Fr.push _ _).tt (Fr.push _ _)
 clear e';have O':=f'.on p';have B':Kx X c' (JL B r w v bl D s n fs.length L l (rec .ready none) 0):=(((A'.on p').add c0 nD).add Q G').sub λe m=>by
  simp only[bf,cN,fv]at m⊢;rcases m with rfl|rfl|rfl|rfl|rfl|rfl|rfl<;>simp
 have o1:h.size<=B:=ag
 have o2:B<r:=ag
 have o3:r<w:=ag
 have o4:w<v:=ag
 have o5:v<bl:=ag
 have o6:bl<D:=ag
 clear A' z' K6 f' l' E9 E6 A nD G' H' v' u' c0 Q t' j' r' s' d4 d5 d6 p' o' n' f9 G d2 Z H4 F3 hb f1 f2 f3;have D': ∀g X a k z b',En V h g s X I a k->Kx X g (JL B r w v bl D s n fs.length L l z b')->jg V n 0 (dP.mS mT) (fs.map LV.ln)=b'->
   g[D]? =some (.deferred (some []))/\∃r0,aT (g.setIfInBounds D (.deferred none)) (AA B 0)=some (.I r0)/\∃r1,aT (g.setIfInBounds D (.deferred none)) (AA r 0)=some (.I r1)/\R (.T #[.I r0,.I r1]) (g.setIfInBounds D (.deferred none)):=by
  intro g X a k z b' E K ew;refine⟨K.at 3 rfl,_,au ((mF ag).trans (K.at 1 rfl)),_,au ((mF ag).trans (K.at 2 rfl)),?_⟩;have:=hk _ (En.off E (K.Nf 3 rfl) (by show h.size<=D;omega) (h:=g.setIfInBounds D (.deferred none)) bU (λy j=>mF j)).u.fr;rw[ew]at this;exact this
 have C': ∀g X a k z,En V h g s X I a k->Kx X g (JL B r w v bl D s n fs.length L l z 0)->jg V n 0 (dP.mS mT) (fs.map LV.ln)=n->
   ∃L',aT g (AA v 0)=some (.I L')/\aJ g (AA B 0) (.I L') λQ'=>aJ Q' (AA r 0) (.I 0) λh'=>
   h'[D]? =some (.deferred (some []))/\∃r0,aT (h'.setIfInBounds D (.deferred none)) (AA B 0)=some (.I r0)/\∃r1,aT (h'.setIfInBounds D (.deferred none)) (AA r 0)=some (.I r1)/\R (.T #[.I r0,.I r1]) (h'.setIfInBounds D (.deferred none)):=by
  intro g X a k z E K u;refine⟨_,au (K.at 4 rfl),bk (K.at 1 rfl) eW λg1 a1 a2 a3=> ?_⟩;have E1:=En.off E (K.Nf 1 rfl) (by show h.size<=B;omega) a2 (λy j=>a3 y j);have F:Kx X g1 (JL B r w v bl D s n fs.length L l z n):=Kx.put (A:= [(D+1,.loop z)]) K (o':=.C #[.I (n:Int)] 3 (0,0)) a1 (λy j=>a3 y j) (by intro e m;simp only[dj,dp,bf,cN,fv]at m;rcases m with rfl|rfl|rfl|rfl|rfl|rfl<;>dsimp only<;>omega);refine bk (F.at 2 rfl) eW λT a4 a5 a6=> ?_
  have E2:=En.off E1 (F.Nf 2 rfl) (by show h.size<=r;omega) a5 (λy j=>a6 y j);have K2:Kx X T (JL B r w v bl D s n fs.length L l z n):=Kx.put (A:= [(D+1,.loop z),(B,.C #[.I (n:Int)] 3 (0,0))]) F (o':=.C #[.I 0] 24 (0,0)) a4 (λy j=>a6 y j) (by intro e m;simp only[dj,dp,bf,cN,fv]at m;rcases m with rfl|rfl|rfl|rfl|rfl|rfl<;>dsimp only<;>omega);exact D' T X a k z n E2 K2 u
 have O: ∀g X a k z k' b',En V h g s X I a k->Kx X g (JL B r w v bl D s n fs.length L l z b')->En V h (ij g (D+1) k') s X I a k/\Kx X (ij g (D+1) k') (JL B r w v bl D s n fs.length L l k' b'):=by
  intro g X a k z k' b' E K;have y':=aD (K.at 0 rfl);exact⟨En.off E (K.Nf 0 rfl) (by show h.size<=D+1;omega) (by simp[ij]) (λy j=>mF j),K.QQ (KK y') (λy j=>mF j) (by intro e m;simp only[bf,cN,fv]at m;rcases m with rfl|rfl|rfl|rfl|rfl|rfl<;>dsimp only<;>omega)⟩
 refine HQ (St:=λt g=> ∃X a k,k<=3*t/\t<=1000/\En V h g s X I a k/\Kx X g (JL B r w v bl D s n fs.length L l (rec .ready none) 0)/\jg V n 0 (dP.mS mT) (fs.map LV.ln)=jg V n t a ((fs.map LV.ln).drop t)) ?_ (B'.at 6 rfl) ag ⟨X,_,0,bu _,ag,O',B',rfl⟩ ?_ ?_ ?_ ?_
 .rintro t g ⟨X,a,k,_,_,E,_,_⟩;exact J'.frame E.u.fr bX
 .rintro t g g' ⟨X,a,k,E',a',E,K,e⟩ f;exact⟨X,a,k,E',a',E.on f,K.on f,e⟩
 .rintro t g f hf el ⟨X,a,k,E',a',E,K,e⟩;have:=(ay.1 hf).1;rw[KL hf,sO,af el]at e;exact⟨X,a,k,ag,ag,E,K,e⟩
 .rintro t g f hf el ⟨X,a,k,a9,_,E,K,u⟩;have b0:=(ay.1 hf).1;have S:=ok f (aX hf);rw[KL hf,sO,ae (λq=>by have q:f.lost=true:=q;rw[el]at q;cases q)]at u;refine F' [.I (t:Int),f.s.agg] g _ (K.at 0 rfl) ⟨_,aS.ex f.s ⟨rfl,aS.fJ (x:=f.s) λb5 T X' d' G=>⟨(K.on G).at 0 rfl,λg3 m'=> ?_⟩⟩⟩;have n5:=En.new E (b:=b5) ag;have zl:=aD (K.at 0 rfl);dsimp only at zl;obtain⟨J,C⟩:=O T X a k _ (rec .busy none) 0 (E.on G) (K.on G);have d':aS.fE g3 b5 f.s:=by rw[m'];exact(mF ag).trans d'
  rw[<-m']at J C;clear m' E K G;refine⟨_,au (C.at 4 rfl),?_⟩;by_cases c:n<=t
  .rw[ga];rw[af c]at u;obtain⟨A,M⟩:=O g3 X a k _ (rec .done (some (.exit 0))) 0 J C;obtain⟨E5,K5⟩:=O _ X a k _ (rec .exhausted (some (.exit 0))) 0 A M;exact⟨C.at 0 rfl,(λe=>by cases e),λ_=>⟨.done,some (.exit 0),dT,M.at 0 rfl,C' _ X a k _ E5 K5 u⟩⟩
  rw[ae (λe=>c (bW (aU e)))];rw[ae c]at u;have w': ∀{pp:ct}{dd:cG},Row h pp (bc dd)->Rw g3 X pp dd:=λI'=>⟨I'.frame J.u.fr bX,λhd y' hz hm=>by
   have:=jh I' (by simpa[bc]using hd) hz;have:=J.u.ge y' (.inl hm);omega⟩
  refine⟨_,au (C.at 5 rfl),aM.jR (x:=f.f.cs) (UP d') (pf.HJ J ag f.f.x (w' S.f.r1) S.f.c1 (w' S.f.r2) S.f.c2 S.f.w1 S.f.w2 λg4 P q4 d4 A x' K'=>aq.ex (rS (di V a f.f.x).y q4 d4) ⟨_,rfl,aq.fJ (x:=rS (di V a f.f.x).y q4 d4) λb6 g5 Z' R' f6=>aG.of λP' hJ=> ?_⟩)⟩;have K5:=(C.step x').on f6;have E5:=A.on f6;have d':aS.fE g5 b5 f.s:=f6.get (x'.fr.get d' (λq=>n5 (.inl q))) id;have ry:=K'.1.frame f6 bX;clear A C x' K' w';have hx:(di V a f.ln.x)=di V a f.f.x:=rfl;rw[hx]at u;generalize di V a f.f.x=o at*;have hT: ∀g,Fr No g5 g->jg V n 0 (dP.mS mT) (fs.map LV.ln)=t->P' true g:=by
   intro g fg e;have E:=E5.on fg;have K:=K5.on fg;subst hJ;dsimp only;rw[af rfl];refine bk (K.at 1 rfl) eW λg1 a1 a2 a3=> ?_
   have E1:=En.off E (K.Nf 1 rfl) (by show h.size<=B;omega) a2 (λy j=>a3 y j);have F:Kx P g1 (JL B r w v bl D s n fs.length L l (rec .busy none) t):=Kx.put (A:= [(D+1,.loop (rec .busy none))]) K (o':=.C #[.I (t:Int)] 3 (0,0)) a1 (λy j=>a3 y j) (by intro e m;simp only[dj,dp,bf,cN,fv]at m;rcases m with rfl|rfl|rfl|rfl|rfl|rfl<;>dsimp only<;>omega);refine bk (F.at 2 rfl) eW λT a4 a5 a6=> ?_
   have E2:=En.off E1 (F.Nf 2 rfl) (by show h.size<=r;omega) a5 (λy j=>a6 y j);have K2:Kx P T (JL B r w v bl D s n fs.length L l (rec .busy none) t):=Kx.put (A:= [(D+1,.loop (rec .busy none)),(B,.C #[.I (t:Int)] 3 (0,0))]) F (o':=.C #[.I 0] 24 (0,0)) a4 (λy j=>a6 y j) (by intro e m;simp only[dj,dp,bf,cN,fv]at m;rcases m with rfl|rfl|rfl|rfl|rfl|rfl<;>dsimp only<;>omega);obtain⟨J,C⟩:=O T P o.σ _ _ (rec .done (some .ret)) t E2 K2;obtain⟨A,M⟩:=O _ P o.σ _ _ (rec .exhausted (some .ret)) t J C;exact⟨K2.at 0 rfl,(λe=>by cases e),λ_=>⟨.done,some .ret,dT,C.at 0 rfl,D' _ P o.σ _ _ t A M e⟩⟩
  by_cases Q:o.e=0
  .rw[ae (by simp[Q])];refine aq.fy R' (aq.jR (x:=rS f.y f.r f.e) (W2 d') (yf.jw o.y f.y ry (S.r.frame E5.u.fr bX) λg6 f7=>⟨_,rfl,rfl,?_⟩));by_cases c2:o.y.same f.y
   .rw[af ⟨Q,c2⟩]at u;rw[av c2];subst hJ;dsimp only;rw[dy];obtain⟨E8,K8⟩:=O g6 P o.σ _ _ (rec .ready none) 0 (E5.on f7) (K5.on f7);exact⟨(K5.on f7).at 0 rfl,λ_=>⟨P,o.σ,k+3,ag,ag,E8,K8,u⟩,λe=>by cases e⟩
   .rw[ae (λq=>c2 q.2)]at u;rw[aB c2];exact hT g6 f7 u
  .rw[ae (λq=>Q q.1)]at u;rw[af (cQ Q)];exact⟨rfl,hT g5 (Fr.refl _ _) u⟩
 .rintro g ⟨X,a,k,_,_,E,K,u⟩;rw[dH (by rw[aC];exact bu _)]at u;obtain⟨E1,F⟩:=O g X a k _ (rec .exhausted none) 0 E K;exact⟨.ready,none,dT,K.at 0 rfl,C' _ X a k _ E1 F u⟩
theorem JQ(K: hM h R (.T #[.I 0,.I 3])):Cl 10 #[ax.S.z.agg,.Z] h R:=by
 refine yw.walk (self:=.z) (ax.cW (x:=.z) λb H O G u=>qj λB T P w v=>qj λt U Q z F=>ax.fy (x:=.z) (F.get (v.get G id) id) (dP.jj .zero (λm=>absurd rfl m.2) (λ_ Z o=>⟨_,_,rfl,qj λA h5 S J r=>bk J eW λh6 M C D=> ?_⟩)));have z1:=aD w;have z2:=aD z;have y1:=u.1;have y3:=F.1;have y4:=o.1;have y5:=r.1;rw[ga];refine bk ((D B ag).trans (r.get (o.get (F.get w id) id) id)) eW λh7 a1 a2 a3=>bk ((a3 t ag).trans ((D t ag).trans (r.get (o.get z id) id))) eW λE a4 a5 a6=>⟨_,au ((a6 B ag).trans a1),_,au a4,K E ?_⟩
 exact(((((((u.tt v).tt F).tt o).tt r).fresh (Fr.of_eq (S:=λy=>y=A) C (λc j=>D c j)) (λy e=>ag)).fresh (Fr.of_eq (S:=λy=>y=B) a2 (λc j=>a3 c j)) (λy e=>ag))).fresh (Fr.of_eq (S:=λy=>y=t) a5 (λc j=>a6 c j)) (λy e=>ag)
abbrev SL(B e j bl D s len L:Nat)(l:ct)(r:Loop)(w:ct):List (Nat×Obj):=
 [(D+1,.loop r),(B,.cells #[.pointer w] 23 (0,0)),(e,.cells #[.int .i64 0] 24 (0,0)),(D,.deferred (some [])),(j,.cells #[pt s] 23 (0,0)),(bl,.cells #[.slice l len L] 31 (0,0))]
theorem PX{st:Nat->SS}(U:Cb.ky V d)(mx:nV.Mx d)(x':Fr No d h)(A':Row h l (fs.flatMap kr))(ok: ∀f∈fs,f.ok h)(hl:fs.length<=1000)(z':st 0=dP.mS mT)(r': ∀j f,fs[j]? =some f->f.lost=false/\(di V (st j) f.f.x).e=0/\(di V (st j) f.f.x).σ=st (j+1))(hk: ∀i s X I,En V h i s X I (st fs.length) (3*fs.length)->R (.T #[pt s,.I 0]) i):Cl 19 #[mT.s.agg,.L l fs.length L] h R:=by
 refine HN.walk (ax.cW (x:=mT.s) λb H eb hb f1=>qj λB h2 B' f' f2=>qj λr h3 C' h' M=>ax.fy (x:=mT.s) (M.get (f2.get hb id) id) (dP.jj mT (λ_ h4 s X I H4 u=>⟨_,_,rfl,qj λt h5 D' T F=>bk T eW λh6 d1 d2 d3=> ?_⟩) (λn=>absurd tX n)));have F3:=(f1.tt f2).tt M;have w:=Ask.En.JJ (U.mono x') (mx.on x') F3 H4 u;have z1:=aD f';have z2:=aD h';have z3:=aD T;have y1:=f1.1;have y3:=M.1;have y4:=u.fr.1;have K4:Kx X h4 [(B,.C #[.pointer none] 23 (0,0)),(r,.C #[.I 0] 24 (0,0))]:=λe o=>by
  simp only[bf,cN,fv]at o;rcases o with rfl|rfl
  .exact⟨u.fr.get (M.get f' id) id,λq=>by have:h3.size<=B:=u.ge _ q;omega⟩
  .exact⟨u.fr.get h' id,λq=>by have:h3.size<=r:=u.ge _ q;omega⟩
 have k':=En.new w (b:=t) ag;have E6:=En.off (w.on F) k' ag d2 (λy m=>d3 y m);have K6:=((K4.on F).add T k').QQ (o':=.C #[pt s] 23 (0,0)) d1 (λy m=>d3 y m) (by intro e o;simp only[bf,cN,fv]at o;rcases o with rfl|rfl<;>dsimp only<;>omega);clear K4 T d1 d3;rw[dy];refine BL.walk (qj λbl e' G' j' c'=>⟨_,rfl,51,_,rfl,dA,λrec J' q'=> ?_⟩);have zc:=aD j';have t':=En.new E6 (b:=bl) ag;have P:=E6.on c';have o':=(K6.on c').add j' t';obtain⟨D,eD⟩: ∃D,D=e'.size:=⟨_,rfl⟩;rw[<-eD]at q'⊢;have nD:=En.new P (b:=D) ag;have s':=En.new P (b:=D+1) ag;obtain⟨A,J⟩: ∃A,A=BJ e' (rec .ready none):=⟨_,rfl⟩;rw[<-J];have c0:A[D]? =some (.deferred (some [])):=by
  rw[J];simp only[BJ,dZ,cZ,<-eD];repeat (first|rfl|rw[af rfl]|rw[dy])
 have S:A[D+1]? =some (.loop (rec .ready none)):=by
  rw[J];simp only[BJ,dZ,cZ,<-eD];repeat (first|rfl|rw[af rfl]|rw[dy])
 have d':Fr No e' A:=by rw[J];exact(Fr.push _ _).tt (Fr.push _ _)
 clear J;have n':=P.on d';rw[<-z']at n';have p':Kx X A (SL B r t bl D s fs.length L l (rec .ready none) none):=(((o'.on d').add c0 nD).add S s').sub λe o=>by
  simp only[bf,cN,fv]at o⊢;rcases o with rfl|rfl|rfl|rfl|rfl|rfl<;>simp
 have o1:h.size<=B:=ag
 have o2:B<r:=ag
 have o3:r<t:=ag
 have o5:t<bl:=ag
 have o6:bl<D:=ag
 clear o' K6 P E6 w nD s' t' k' c0 S j' f' h' d2 d' c' F u H4 F3 hb f1 f2 M;have a': ∀g X a k rc Z l',En V h g s X I a k->Kx X g (SL B r t bl D s fs.length L l rc l')->En V h (ij g (D+1) Z) s X I a k/\Kx X (ij g (D+1) Z) (SL B r t bl D s fs.length L l Z l'):=by
  intro g X a k rc Z l' E K;have m':=aD (K.at 0 rfl);exact⟨En.off E (K.Nf 0 rfl) (by show h.size<=D+1;omega) (by simp[ij]) (λy m=>mF m),K.QQ (KK m') (λy m=>mF m) (by intro e o;simp only[bf,cN,fv]at o;rcases o with rfl|rfl|rfl|rfl|rfl<;>dsimp only<;>omega)⟩
 refine HQ (St:=λj g=> ∃X,j<=1000/\En V h g s X I (st j) (3*j)/\Kx X g (SL B r t bl D s fs.length L l (rec .ready none) none)) ?_ (p'.at 5 rfl) ag ⟨X,ag,n',p'⟩ ?_ ?_ ?_ ?_
 .rintro j g ⟨X,_,E,_⟩;exact A'.frame E.u.fr bX
 .rintro j g g' ⟨X,y',E,K⟩ f;exact⟨X,y',E.on f,K.on f⟩
 .intro j g f O el;rw[(r' j f O).1]at el;cases el
 .rintro j g f O el ⟨X,_,E,K⟩;have I':=(ay.1 O).1;have z:=ok f (aX O);obtain⟨_,q1,q2⟩:=r' j f O;refine q' [.I (j:Int),f.s.agg] g _ (K.at 0 rfl) ⟨_,aS.ex f.s ⟨rfl,aS.fJ (x:=f.s) λb5 g2 E' i' F=>⟨(K.on F).at 0 rfl,λg3 b'=> ?_⟩⟩⟩;have n5:=En.new E (b:=b5) ag;have zl:=aD (K.at 0 rfl);dsimp only at zl;obtain⟨v,Q⟩:=a' g2 X _ _ _ (rec .busy none) none (E.on F) (K.on F);have i':aS.fE g3 b5 f.s:=by rw[b'];exact(mF ag).trans i'
  rw[<-b']at v Q;clear b' E K F;have v': ∀{pp:ct}{dd:cG},Row h pp (bc dd)->Rw g3 X pp dd:=λu'=>⟨u'.frame v.u.fr bX,λhd m' hz hm=>by
   have:=jh u' (by simpa[bc]using hd) hz;have:=v.u.ge m' (.inl hm);omega⟩
  refine⟨_,au (Q.at 4 rfl),aM.jR (x:=f.f.cs) (UP i') (pf.HJ v ag f.f.x (v' z.f.r1) z.f.c1 (v' z.f.r2) z.f.c2 z.f.w1 z.f.w2 λg4 X4 q4 d4 w w' K'=>aq.ex (rS (di V (st j) f.f.x).y q4 d4) ⟨_,rfl,aq.fJ (x:=rS (di V (st j) f.f.x).y q4 d4) λb6 g5 F' H' f6=> ?_⟩)⟩;rw[q1,dy];rw[q2]at w;obtain⟨E8,K8⟩:=a' g5 X4 _ _ _ (rec .ready none) none (w.on f6) ((Q.step w').on f6);exact⟨((Q.step w').on f6).at 0 rfl,λ_=>⟨X4,ag,E8,K8⟩,λe=>by cases e⟩
 .rintro g ⟨X,_,E,K⟩;obtain⟨E1,C⟩:=a' g X _ _ _ (rec .exhausted none) none E K;refine⟨.ready,none,dT,K.at 0 rfl,?_⟩;generalize ij g (D+1) (rec .exhausted none)=g0 at E1 C;refine⟨_,au (C.at 4 rfl),bk (C.at 1 rfl) eW λg1 a1 a2 a3=> ?_⟩;have E2:=En.off E1 (C.Nf 1 rfl) (by show h.size<=B;omega) a2 (λy m=>a3 y m);have G:Kx X g1 (SL B r t bl D s fs.length L l (rec .exhausted none) (Sa s 0)):=Kx.put (A:= [(D+1,.loop (rec .exhausted none))]) C (o':=.C #[pt s] 23 (0,0)) a1 (λy m=>a3 y m) (by intro e o;simp only[dj,dp,bf,cN,fv]at o;rcases o with rfl|rfl|rfl|rfl|rfl<;>dsimp only<;>omega);refine bk (G.at 2 rfl) eW λg2 a4 a5 a6=> ?_
  have v:=En.off E2 (G.Nf 2 rfl) (by show h.size<=r;omega) a5 (λy m=>a6 y m);have S:=(a6 B ag).trans (G.at 1 rfl);have cD:=(a6 D ag).trans (G.at 3 rfl);refine⟨cD,_,au ((mF ag).trans S),_,au ((mF ag).trans a4),?_⟩;exact hk _ s X I (En.off v (G.Nf 3 rfl) (by show h.size<=D;omega) (h:=g2.setIfInBounds D (.deferred none)) bU (λy m=>mF m))
theorem PY(e:fu.SC)(m: hM h R (.B e.up)):Cl 31 #[.agg (fu.MH e).toArray] h R:=
 Fj.walk (qj λ_ H _ j F=>⟨_,au j,m H F⟩)
theorem Rx{j:Type}(P:j->Bool)(x:List j):decide (idxOf P x≥0)=x.any P:=by
 unfold idxOf;cases e:x.findIdx? P with
 |none=>
  have:x.any P=false:=by
   rw[List.any_eq_false];intro t o;exact Bool.not_eq_true _▸df.1 e t o
  rw[this];rfl
 |some r=>
  obtain⟨H,m,_⟩:=cj.1 e;have:x.any P=true:=List.any_eq_true.2 ⟨_,dI H,m⟩;rw[this];exact av (by show(0:Int)<=(r:Int);omega)
theorem Tg(z:Row h p (x.flatMap fu.MH))(y:n=x.length)(w:x.length<=1000000000)(u: hM h R (.I (idxOf fu.SC.up x))):
  Cl 53 #[.L p n c,.func (.func 31) #[] #[]] h R:=by
 refine iu.down.walk (rG fu.SC.up (λt g K=>((0:Int)<=t/\t<(n:Int))/\aN p λA=>cI.LD g (A.add (Int.toNat t*6)) λT B C D E J M O P Q=>
  Cl 31 #[.agg #[.I T,.U B,.B C,.B D,.L E J M,.L O P Q]] g λv G=> ∃q,v=.B q/\K q G) y w (λk g S K m f r=> ?_) (λg f=>u g f))
 have U:=(ay.1 m).1;have j:=z.frame f bX;obtain⟨A,rfl⟩:=j.some (λe=>by have:=cf List.length e;rw[dY fu.MH 6 fu.Ho,bE]at this;omega);exact⟨ag,aw.2 (cI.D5 (by rw[aH];exact j.gx fu.Ho m) (PY S λo F=>⟨_,rfl,r o (f.tt F)⟩))⟩
theorem AT(r:Row h p (x.flatMap fu.MH))(m:n=x.length)(j:x.length<=1000000000)(e: hM h R (.B (x.any fu.SC.up))):
  Cl 32 #[.L p n c,.func (.func 31) #[] #[]] h R:=
 ia.down.walk (Tg r m j λg f=>⟨_,rfl,by rw[Rx];exact e g f⟩)
theorem vP(E:En V d h s X I a k)(o:a.A.any fu.fu.up=true)(C: hM h R (.T #[((pf.ev a.now 8 0 []).s none 0 none 0).agg,.B true])):Cl 20 #[pt s] h R:=by
 refine JP.walk (aM.cW (x:=.z) λb H O r m=>aG.of λJ B=>⟨_,au ((E.on m).H.dh),?_⟩);have j:=E.on m;subst B;dsimp only;rw[ae bU];obtain⟨Z,K,_⟩:=j.H.use 0;refine⟨_,au j.H.dh,fu.Bt K E.G.a λP U T M S u=>⟨_,_,_,rfl,?_⟩⟩;obtain⟨x,D,rfl,own,em,_⟩:=S;have G:=E.G.a.le;rw[<-em,aC]at G;refine AT own.iF rfl ag λQ v=>⟨_,rfl,?_⟩
 have e:x.any fu.SC.up=true:=by
  rw[<-em,List.any_map]at o;exact o
 rw[e,dy];have F:=u.tt v;have z:=aD r;refine⟨_,cB (j.on F).H.dh rfl,aM.gY (x:=(pf.ev a.now 8 0 []).s none 0 none 0) (F.get r id) λA t w _=>aM.fy t (C A ?_)⟩;exact(m.tt F).fresh w (λy e=>ag)

end PR
end
section
namespace PR
open jH (Ev lB)
open dP (SS Good Pt oN Mk Bk)
open Go.Proofs.YtkdgpmeojgokdaaGreatDoor.Ask (En rS Rw Bx ks tX lF mT)
open pf (qK di EV y7 ev)
open Go.fW (RD)
variable {V:cG→Bool} {h H d i g:ai} {R:fM} {s:Nat} {X:Ft} {I:oN} {σ:SS} {f p q:ct} {a w:List LV} {E:List EV}
variable {c b B k j l:Nat} {x y:LV}
theorem tL:oC Tryz.prog 31 44 32 328 aS.S.z.agg:=⟨dA,dA,rfl⟩
theorem uL:Tryz.prog.underlying 31=some (.slice 44):=dA
theorem PZ(v:LV): ∀x∈kr v,fV x=true:=λx e=>List.all_eq_true.1 (show(kr v).all fV=true from rfl) x e
theorem AG : ∀x∈a.flatMap kr,fV x=true:=λx e=>by
 obtain⟨v,_,h⟩:=List.mem_flatMap.1 e;exact PZ v x h
theorem P0{n m D:Nat}{K:fM}(own:Go.Den.Own h p n c 32 (a.flatMap kr))(r:Row h q (w.flatMap kr))(o:m=w.length)(t:n+m<=100000)(e: ∀P C H,Go.Den.Own H P (n+m) C 32 ((a++w).flatMap kr)->Fr (aO p) h H->(∀y,aO P y->aO p y\/h.size<=y)->K (.L P (n+m) C) H):
  ba Tryz.prog (Builtin.append_ #[31,31] 31 #[.L p n c,.L q m D]) h K:=by
 refine dS tL uL own r (by rw[dY kr 32 lu,o]) AG ag ag λP C H O _ F g=>e P C H ?_ F g
 rw[cR];exact O
theorem SU{e:LV}(m:aS.fE h b e.s):Row h (Sa b 0) ([e].flatMap kr):=
 .inr ⟨_,rfl,gH m (λj v n=>by rw[bP];simpa using n)⟩
theorem V2 {b : Nat} (hb : h[b]? = some (.cells #[] 44 (0, 0))) : Go.Den.Own h (some ⟨b, 0, none⟩) 0 0 32 (([] : List LV).flatMap kr) :=
  .row b 0 #[] 44 rfl hb (by omega) (by simp) (by simp) (λj v hj => by simp at hj)
def va:LV:=⟨⟨ev 3 1 5 [],none,0,none,0⟩,⟨0,0,1,0,5, []⟩,none,0,false,false⟩
def vb:LV:=⟨⟨ev 4 1 5 [],none,0,none,0⟩,⟨0,12,0,0,0, []⟩,none,0,false,false⟩
def vc:LV:=⟨⟨ev 3 1 5 [],none,0,none,0⟩,⟨0,0,1,0,5, []⟩,none,0,false,true⟩
theorem R5:va.ok h:=⟨⟨Row.nil,bu _,Row.nil,bu _,dT,dT⟩,Row.nil⟩
theorem P1:vb.ok h:=⟨⟨Row.nil,bu _,Row.nil,bu _,dT,dT⟩,Row.nil⟩
theorem UD:vc.ok h:=⟨⟨Row.nil,bu _,Row.nil,bu _,dT,dT⟩,Row.nil⟩
def s5:SS:=(di pf.V0 pf.s1 (ev 4 1 5 [])).σ
theorem a5:di V pf.s1 (ev 4 1 5 [])=⟨s5,0,lF 0 12⟩:=dA
theorem n5:s5.now=4/\s5.A.any fu.fu.up=true:=⟨dA,dA⟩
theorem j1:BG V (dP.mS mT) [va.ln,vb.ln]=2:=by
 show jg V 2 0 _ _=_;rw[sO,dy,dy,af (by show(di V _ (ev 3 1 5 [])).e=0/\RD.same (di V _ (ev 3 1 5 [])).y _;rw[pf.a1];exact⟨rfl,dT⟩)];show jg V 2 1 (di V _ (ev 3 1 5 [])).σ _=_;rw[pf.a1,sO,dy,dy,af (by show(di V _ (ev 4 1 5 [])).e=0/\RD.same (di V _ (ev 4 1 5 [])).y _;rw[a5];exact⟨rfl,dT⟩)];rfl
theorem j2:BG V (dP.mS mT) [vc.ln,vb.ln]=1:=by
 show jg V 2 0 _ _=_;rw[sO,af (by rfl),sO,dy,dy,ae];show¬((di V _ (ev 4 1 5 [])).e=0/\RD.same (di V _ (ev 4 1 5 [])).y _);have e:(di V (dP.mS mT) (ev 4 1 5 [])).y=⟨0,0,1,0,5, []⟩:=dA
 rw[e];exact λq=>absurd q.2 dT
def D6:Nat->SS
 |0=>dP.mS mT
 |1=>pf.s1
 |_=>s5
theorem zD(n:h[b]? =some (.C (x.s.l++y.s.l).toArray 44 (0,0))):Row h (Sa b 0) ([x,y].flatMap kr):=
 .inr ⟨_,rfl,gH n (λj v m=>by
  rw[bP,List.getElem?_toArray];have e: [x,y].flatMap kr=x.s.l++y.s.l:=by simp[fU]
  rw[e]at m;exact m)⟩
theorem P2{J:Int->Int->ai->Prop}(U:Cb.ky V d)(mx:nV.Mx d)(b':Fr No d h)(ox: ∀g,x.ok g)(oy: ∀g,y.ok g)(O: ∀g,Fr No h g->J (BG V (dP.mS mT) [x.ln,y.ln]:Int) 0 g):
  (Cl 6 #[] h λc' u=>ax.EX λz=>c'=z.agg/\Kp h u [(Sa k 0),(Sa B 0)]/\bg u (.C (x.s.l++y.s.l).toArray 44) λG P=>
   Cl 10 #[z.agg,.L (Sa G 0) 2 2] P λv o=> ∃t T,v=.T #[.I t,.I T]/\J t T o)/\
  (bg h (.C (x.s.l++y.s.l).toArray 44) λK Q=>Cl 6 #[] Q λd' S=>ax.EX λA=>d'=A.agg/\
   Cl 10 #[A.agg,.L (Sa K 0) 2 2] S λe' Z=> ∃C D,e'=.T #[.I C,.I D]/\J C D Z)/\True:=by
 have go: ∀(g:ai)(b:Nat),Fr No h g->Row g (Sa b 0) ([x,y].flatMap kr)->Cl 10 #[mT.s.agg,.L (Sa b 0) 2 2] g λv o=> ∃t T,v=.T #[.I t,.I T]/\J t T o:=λg b m a'=>
  BM (fs:= [x,y]) U mx (b'.tt m) a' (λm hf=>by
   rcases bf.1 hf with rfl|hf
   .exact ox g
   .rw[bO.1 hf];exact oy g) (by show 2<=1000;omega) λH M=>⟨_,_,rfl,O H (m.tt M)⟩
 refine⟨ks λi F=>ax.ex mT.s ⟨rfl,F.kp,qj λb n L r e=>go n b (F.tt e) (zD r)⟩,qj λb i L r F=>ks λn e=>ax.ex mT.s ⟨rfl,go n b (F.tt e) ((zD r).frame e bX)⟩,trivial⟩
theorem Th{J:ct->Int->ai->Prop}(U:Cb.ky V d)(M:nV.Mx d)(u:Fr No d h)(S: ∀g s X I,Fr No h g->En V d g s X I s5 6->J (Sa s 0) 0 g):
  (Cl 6 #[] h λe' A=>ax.EX λD=>e'=D.agg/\Kp h A [(Sa k 0),(Sa B 0)]/\bg A (.C (va.s.l++vb.s.l).toArray 44) λO Z=>
   Cl 19 #[D.agg,.L (Sa O 0) 2 2] Z λz r=> ∃t T,z=.T #[.pointer t,.I T]/\J t T r)/\
  (bg h (.C (va.s.l++vb.s.l).toArray 44) λP a'=>Cl 6 #[] a' λf' b'=>ax.EX λG=>f'=G.agg/\
   Cl 19 #[G.agg,.L (Sa P 0) 2 2] b' λg' c'=> ∃K L,g'=.T #[.pointer K,.I L]/\J K L c')/\True:=by
 have go: ∀(g:ai)(b:Nat),Fr No h g->Row g (Sa b 0) ([va,vb].flatMap kr)->Cl 19 #[mT.s.agg,.L (Sa b 0) 2 2] g λz r=> ∃t T,z=.T #[.pointer t,.I T]/\J t T r:=λg b F d'=>
  PX (fs:= [va,vb]) (st:=D6) U M (u.tt F) d' (λF hf=>by
   rcases bf.1 hf with rfl|hf
   .exact R5
   .rw[bO.1 hf];exact P1) (by show 2<=1000;omega) rfl (λC F hf=>by
    rcases C with _|_|C
    .cases hf;show _/\(di V _ (ev 3 1 5 [])).e=0/\(di V _ (ev 3 1 5 [])).σ=_;exact⟨rfl,by show(di V (dP.mS mT) (ev 3 1 5 [])).e=0;rw[pf.a1],by show(di V (dP.mS mT) (ev 3 1 5 [])).σ=pf.s1;rw[pf.a1]⟩
    .cases hf;exact⟨rfl,by show(di V pf.s1 (ev 4 1 5 [])).e=0;rw[a5],by show(di V pf.s1 (ev 4 1 5 [])).σ=s5;rw[a5]⟩
    .cases hf) λH s X I e=>⟨_,_,rfl,S H s X I (F.tt e.u.fr) ⟨e.H,e.G,e.hk,⟨(u.tt F).tt e.u.fr,λc hc=>db (u.tt F).1 (e.u.ge c hc)⟩,U,M⟩⟩
 refine⟨ks λi m=>ax.ex mT.s ⟨rfl,m.kp,qj λb o Q v n=>go o b (m.tt n) (zD v)⟩,qj λb i Q v m=>ks λo n=>ax.ex mT.s ⟨rfl,go o b (m.tt n) ((zD v).frame n bX)⟩,trivial⟩
theorem BN(U:Cb.ky V d)(M:nV.Mx d)(u:Fr No d h)(hk: hM h R (.B true)):Cl 8 #[] h R:=by
 refine HO.walk (aS.fJ (x:=va.s) λb i eb C P=>yf.lV 0 rfl 12 λh2 o=>aq.ex (rS (lF 0 12) none 0) ⟨rfl,aS.fJ (x:=vb.s) λL h3 g' Z r=>aS.fy (x:=va.s) ((o.tt r).get C id) (aS.fJ (x:=va.s) λO h4 h' e' z=>bk e' (by show 31<32;omega) λv d1 d2 D=> ?_)⟩);have z1:=aD C;have z2:=aD Z;have y1:=P.1;have y2:=o.1;have y3:=r.1;have F:Fr No h v:=((((P.tt o).tt r).tt z)).fresh (Fr.of_eq (S:=λy=>y=O) d2 (λc hc=>D c hc)) (λy e=>ag);have T:aS.fE v b va.s:=(D b ag).trans (z.get ((o.tt r).get C id) id);have G:aS.fE v L vb.s:=(D L ag).trans (z.get Z id);have f':aS.fE v O vc.s:=d1;refine aG.of λJ m=>aS.fy (x:=va.s) T (aS.fy (x:=vb.s) G (P2 U M (u.tt F) (λ_=>R5) (λ_=>P1) λh6 t=> ?_))
 rw[j1];subst m;dsimp only;refine aG.of λJ m=>aS.fy (x:=vc.s) (t.get f' id) (aS.fy (x:=vb.s) (t.get G id) (P2 U M ((u.tt F).tt t) (λ_=>UD) (λ_=>P1) λh7 f7=> ?_))
 rw[j2];subst m;dsimp only;have n:=t.tt f7;refine aG.of λJ m=>aS.fy (x:=va.s) (n.get T id) (aS.fy (x:=vb.s) (n.get G id) (Th U M ((u.tt F).tt n) λh8 s X I f8 K=> ?_))
 subst m;dsimp only;refine JQ λh9 A=>⟨_,_,rfl,vP (K.on A) n5.2 λj' Q=>aM.ex ((ev s5.now 8 0 []).s none 0 none 0) ⟨_,rfl,aM.fJ (x:=(ev s5.now 8 0 []).s none 0 none 0) λb3 k' i' a' S=> ?_⟩⟩
 have b':=K.on ((A.tt Q).tt S);rw[ga,ga,ga,ga,ga,af (by rfl)];refine aw.2 ⟨_,au b'.H.dh,?_⟩;rw[n5.1,ga,ga,ga];rw[n5.1]at a';refine aM.fy a' (pf.GV (ev 4 8 0 []) (ev 4 8 0 []) (p:=none) (c:=0) (q:=none) (d:=0) (p':=none) (c':=0) (q':=none) (d':=0) Row.nil Row.nil Row.nil Row.nil λd' c'=>⟨_,rfl,?_⟩);rw[av rfl];exact hk d' (F.tt (n.tt (f8.tt (((A.tt Q).tt S).tt c'))))
theorem Ry{x:qK}(e:(di V σ x).e≠0):(di V σ x).σ=σ:=by
 unfold di at e⊢;split at e
 .split at e
  .split at e<;>exact absurd rfl e
  .rename_i A b;rw[af A,ae b]
 .rename_i A;rw[ae A]
def Inv(V:cG->Bool)(h g:ai)(s:Nat)(I:oN)(j:Nat)(p:ct)(l c:Nat):Prop:=
 ∃(X:Ft)(σ:SS)(a:List LV),En V h g s X I σ (3*j)/\a.length<=j/\l=a.length/\Go.Den.Own g p l c 32 (a.flatMap kr)/\(∀y,aO p y->¬(X.M y\/X.D y)/\h.size<=y)/\
  (∀v∈a,v.f.ok h/\Row g v.r (bc v.y.b)/\(v.y.b≠ []->∀z,aO v.r z->¬X.M z/\¬aO p z))/\zC V (dP.mS mT) (a.map LV.ln) σ
theorem KM{S:Nat->Prop}{D:cG}(r:Row h q (bc D))(F:Fr S h H)(o:D≠ []->∀z,aO q z->¬S z):Row H q (bc D):=by
 by_cases e:D= []
 .rw[e];exact Row.nil
 .exact r.frame F (λA m n=>o e A.block ⟨A,m,rfl⟩ n)
theorem Rz{J2:ct->Nat->Nat->ai->Prop}(U:Cb.ky V h)(mx:nV.Mx h)(L':Inv V h g s I j p l c)(hj:j<E.length)(Z':j<40)(u':Row h f (E.flatMap y7))(ok: ∀F∈E,F.ok h)(hR: hM h R (.B true))(next: ∀p' l' c' K,Inv V h K s I (j+1) p' l' c'->J2 p' l' c' K):
  ((0:Int)<=(j:Int)/\(j:Int)<((E.length:Nat):Int))/\
  aN f λA=>aM.cC g (A.add (Int.toNat (j:Int)*24)) λQ'=>Cl 7 #[Q'.agg] g λS' d'=> ∃w',S'=.B w'/\
  if w'=true then Cl 8 #[] d' λT' J'=> ∃x',T'=.B x'/\R (.B x') J'
  else((0:Int)<=(j:Int)/\(j:Int)<((E.length:Nat):Int))/\
  aN f λE'=>aM.cC d' (E'.add (Int.toNat (j:Int)*24)) λR'=>Cl 9 #[pt s,R'.agg] d' λU' K'=>aq.EX λy'=> ∃z',U'=.T #[y'.agg,.I z']/\
  bg K' (.C aq.S.z.arr 40) λb H'=>aq.dt H' (AA b 0) y' λZ=>
  aG (λ(P':ct) (O' M':Nat) (I':ai)=>J2 P' O' M' I') (λj'=>
   if(z'==0)=true then((0:Int)<=(j:Int)/\(j:Int)<((E.length:Nat):Int))/\
    aN f λa'=>aM.cC Z (a'.add (Int.toNat (j:Int)*24)) λt=>aq.cC Z (AA b 0) λT=>
    bg Z (.C #[.U t.f0,.I t.f1,.U t.f2,.I t.f3,.U t.f4,.I t.f5,.B t.f6,.U t.f7,.U t.f8,.S t.f9,.S t.f10,.B t.f11,.U t.f12,.U t.f13,.S t.f14,.S t.f15,.I t.f16,.I t.f17,.I t.f18,.L t.FY t.FZ t.F0,.U t.f20,.U t.f21,.B t.f22,.L t.Ga t.Gb t.Gc,.U T.f0,.I T.f1,.I T.f2,.I T.f3,.U T.f4,.L T.TL T.f5l T.TM,.B false,.B false] 44) λF' b'=>
    Kp Z b' [(Sa b 0),(some (a'.add (Int.toNat (j:Int)*24)))]/\
    ba Tryz.prog (Builtin.append_ #[31,31] 31 #[.L p l c,.L (Sa F' 0) 1 1]) b' λV' k'=> ∃D' C' B',V'=.L D' C' B'/\
    Kp b' k' [(Sa b 0),(some (a'.add (Int.toNat (j:Int)*24)))]/\j' D' C' B' k'
   else j' p l c Z):=by
 obtain⟨X,σ,a,i',a0,rfl,own,hp,hv,h'⟩:=L';obtain⟨F,hf⟩: ∃F,E[j]? =some F:=⟨_,aj hj⟩;have G:=ok F (aX hf);obtain⟨A,rfl⟩: ∃A,f=some A:=u'.some (λe=>by
  have:=cf List.length e;rw[dY y7 24 (λ_=>rfl)]at this;simp at this;omega)
 have rg: ∀K,Fr No h K->dO (A.add (j*24)) (y7 F) 0 K:=λK fg=>(u'.frame fg bX).gx pf.PM hf
 have za:A.block<h.size:=by
  have:=oa (jz.1 (rg h (Fr.refl _ _)) 0 (.U F.x.now) rfl);rw[jV,jV]at this;exact this
 refine⟨ag,aw.2 (aM.jR (x:=F.cs) (rg g i'.u.fr) (pf.PQ F λh3 v f3=>⟨_,rfl,?_⟩))⟩;have J:=i'.on f3;cases v with
 |true=>
  rw[af rfl];exact BN U mx J.u.fr λh4 f4=>⟨_,rfl,hR h4 (J.u.fr.tt f4)⟩
 |false=>
 rw[dy];have v': ∀{pp:ct}{dd:cG},Row h pp (bc dd)->Rw h3 X pp dd:=λt'=>⟨t'.frame J.u.fr bX,λm z n hm=>by
  have:=jh t' (by simpa[bc]using m) n;have:=J.u.ge z (.inl hm);omega⟩
 refine⟨ag,aw.2 (aM.jR (x:=F.cs) (rg h3 J.u.fr) (pf.DE J ag F.x (v' G.r1) G.c1 (v' G.r2) G.c2 G.w1 G.w2 λh4 u q4 M E4 S f'=>aq.ex (rS (di V σ F.x).y q4 M) ⟨_,rfl,aq.fJ (x:=rS (di V σ F.x).y q4 M) λb Q eb D O=>aG.of λJ3 G'=> ?_⟩))⟩;have A':=h'.snoc (x:=F.x);have eE:=Ry (V:=V) (σ:=σ) (x:=F.x);generalize di V σ F.x=o at*;subst G';dsimp only;have E5:=E4.on O;have y3:=f3.1;have y4:=S.fr.1;have y5:=O.1;have e': ∀y,aO p y->y<g.size:=λy r=>own.dL r
 have s':Go.Den.Own Q p a.length c 32 (a.flatMap kr):=((own.frame f3 bX).frame S.fr (λy r hm=>(hp y r).1 (.inl hm))).frame O bX;have L: ∀y,aO p y->¬(u.M y\/u.D y)/\h.size<=y:=λy r=>⟨λq=>by
  have:=e' y r;rcases q with q|q
  .rcases S.hO y q with q|q
   .exact(hp y r).1 (.inl q)
   .omega
  .rcases S.ji y q with q|q
   .exact(hp y r).1 (.inr q)
   .omega,(hp y r).2⟩
 have q': ∀v∈a,v.f.ok h/\Row Q v.r (bc v.y.b)/\(v.y.b≠ []->∀z,aO v.r z->¬u.M z/\¬aO p z):=λv hm=>by
  obtain⟨q1,q2,q3⟩:=hv v hm;have r3:=q2.frame f3 bX;refine⟨q1,(KM r3 S.fr (λm z n=>(q3 m z n).1)).frame O bX,λm z n=>⟨λhm=> ?_,(q3 m z n).2⟩⟩;have:=jh r3 (by simpa[bc]using m) n;rcases S.hO z hm with q|q
  .exact(q3 m z n).1 q
  .omega
 by_cases c1:o.e=0
 .rw[af (by simp[c1])];refine⟨ag,aw.2 (aM.jR (x:=F.cs) (rg Q E5.u.fr) (aq.fy D (qj λb1 h6 X' m' P=>⟨P.kp,?_⟩)))⟩;have y6:=P.1;have n':aS.fE h6 b1 (⟨F,o.y,q4,M,false,false⟩:LV).s:=m';clear m';obtain⟨g',ew⟩: ∃g':LV,g'=⟨F,o.y,q4,M,false,false⟩:=⟨_,rfl⟩;rw[<-ew]at n';refine P0 (s'.frame P bX) (SU n') rfl ag λp' c' h7 o7 f7 g7=>⟨_,_,_,rfl,?_,?_⟩
  .refine f7.UG λpp o' x e hx=> ?_
   have hl:=e' _ hx;simp only[bf,cN,fv]at o';rcases o' with rfl|rfl
   .have e:=aZ e;rw[<-e]at hl;have hl:b<g.size:=hl;omega
   .have e:=aZ e;have:=(L _ hx).2;rw[<-e]at this;have:h.size<=A.block:=by rw[jV]at this;exact this
    omega
  .have C:=E5.on P;have fX: ∀y,u.M y\/u.D y->¬aO p y:=λy r D=>(L y D).1 r
   have E7:En V h h7 s u I o.σ (3*(j+1)):=⟨C.H.frame f7 fX,C.G,C.hk,⟨C.u.fr.fresh f7 (λy D=>(L y D).2),C.u.ge⟩,C.U,C.mx⟩;refine next p' _ c' h7 ⟨u,o.σ,a++ [g'],E7,by rw[aA];show a.length+1<=j+1;omega,by rw[aA];rfl,o7,λy r=> ?_,λv hm=> ?_,?_⟩
   .rcases g7 y r with A|A
    .exact L y A
    .exact⟨En.new C A,bW C.u.fr.1⟩
   .have r': ∀v:LV,v.f.ok h->Row Q v.r (bc v.y.b)->(v.y.b≠ []->∀z,aO v.r z->¬u.M z/\¬aO p z)->v.f.ok h/\Row h7 v.r (bc v.y.b)/\(v.y.b≠ []->∀z,aO v.r z->¬u.M z/\¬aO p' z):=λv q1 q2 q3=>by
     refine⟨q1,KM (q2.frame P bX) f7 (λm z n=>(q3 m z n).2),λm z n=>⟨(q3 m z n).1,λhm=> ?_⟩⟩;have:=jh q2 (by simpa[bc]using m) n;rcases g7 z hm with A|A
     .exact(q3 m z n).2 A
     .omega
    rcases bH.1 hm with hm|hm
    .obtain⟨q1,q2,q3⟩:=q' v hm;exact r' v q1 q2 q3
    .rw[bO.1 hm,ew];refine r' ⟨F,o.y,q4,M,false,false⟩ G (f'.1.frame O bX) (λm z n=>⟨(f'.2 m z n).2,λD=> ?_⟩);have:=e' z D;rcases(f'.2 m z n).1 with A|A
     .omega
     .exact(L z D).1 (.inr A)
   .rw[aY,ew];exact A' c1
 .rw[ae (cQ c1)];rw[eE c1]at E5;exact next p _ c Q ⟨u,σ,a,by have:=E5;exact this,ag,rfl,s',L,q',h'⟩
theorem M7(U:Cb.ky V h)(M:nV.Mx h)(r:Inv V h g s I j p l c)(t:j<=1000): ∃(a:List LV)(σ:SS),l=a.length/\a.length<=j/\Go.Den.Own g p l c 32 (a.flatMap kr)/\Fr No h g/\(∀G,Fr No g G->∀v∈a,v.ok G)/\zC V (dP.mS mT) (a.map LV.ln) σ:=by
 obtain⟨X,σ,a,e,o,rfl,own,u,n,A⟩:=r;exact⟨a,σ,rfl,o,own,e.u.fr,λG F v m=>⟨EV.ok.on (n v m).1 (e.u.fr.tt F),(n v m).2.1.frame F bX⟩,A⟩
theorem V3(U:Cb.ky V h)(M:nV.Mx h)(F:Fr No h i)(m:Pt g s X I (dP.mS mT))(u:Nb i X g):Inv V h g s I 0 none 0 0:=
 ⟨X,_, [],Ask.En.JJ U M F m u,bu _,rfl,.nil rfl rfl rfl rfl,(λy o=>by obtain⟨A,e,_⟩:=o;cases e),(λv n=>by cases n),rfl⟩
theorem Ti{A:Addr}{x:aq.S}{K:ai->Prop}(e:Den.dR A x.l 0 h K):aq.dt h A x K:=e
theorem _root_.Go.Proofs.YtkdgpmeojgokdaaGreatDoor.judgeAgrees_ok(f : Option Addr)(r ec : Nat)(pos num : Int)(hv : rq Tryz.prog h 22 (.slice f r ec))(_ : (Lit.int .i64 pos).wf = true)(_ : (Lit.int .i64 num).wf = true)(ut : ∃ V, Cb.ky V h)(M : nV.Mx h):
    NA Tryz.prog 3 #[.slice f r ec, .int .i64 pos, .int .i64 num] h := by
  obtain ⟨E, rfl, u', o'⟩ := pf.PO hv
  obtain ⟨V, U⟩ := ut
  clear hv
  unfold NA
  generalize hR : (fun (v : Value) H => v = .bool true ∧ Fr No h H) = R
  have Q : ∀ H, Fr No h H → R (.bool true) H := λH hf => by rw [← hR]; exact ⟨rfl, hf⟩
  clear hR
  refine wC.walk (ks λi f1 => ax.ex mT.s ⟨rfl, dP.jj mT (λ_ h2 s X I H2 u2 => ⟨_, _, rfl, aG.of λw' hJ => ?_⟩) (λs' => absurd tX s')⟩)
  have i0 := V3 U M f1 H2 u2
  rw [if_neg (by decide)]
  subst hJ
  dsimp only
  rw [if_neg (by simp)]
  refine ⟨λp l c T g => ∃ j : Nat, T = (j : Int) ∧ j ≤ E.length ∧ j ≤ 40 ∧ Inv V h g s I j p l c, λ_ _ _ T _ => 41 - T.toNat, ⟨0, rfl, Nat.zero_le _, by omega, i0⟩, ?_⟩
  rintro p l c _ g ⟨j, rfl, hj, y', Z⟩
  refine aG.of λJ1 d' => ?_
  by_cases cl : j < E.length ∧ j < 40
  · rw [if_pos (decide_eq_true (by omega)), decide_eq_true (by omega)]
    subst d'
    dsimp only
    rw [if_pos rfl]
    refine aG.of λJ2 P => Rz U M Z cl.1 cl.2 u' o' Q λp' l' c' G r' => ?_
    subst P
    dsimp only
    rw [bJ (by omega) (by omega)]
    exact ⟨⟨j + 1, rfl, by omega, by omega, r'⟩, by show 41 - Int.toNat ((j : Int) + 1) < 41 - Int.toNat (j : Int); omega⟩
  have h' : J1 false g := by
    subst d'
    dsimp only
    rw [if_neg (by decide)]
    obtain ⟨a, σ, rfl, z', own, F, a', b'⟩ := M7 U M Z (by omega)
    clear Z
    refine ks λh3 D => ax.ex mT.s ⟨rfl, BM U M (F.tt D) (own.iF.frame D (λ_ _ => id)) (a' h3 D) (by omega) λh4 f4 => ⟨_, _, rfl, aG.of λJ2 P => ?_⟩⟩
    have o := D.tt f4
    rw [if_neg (by decide), MT b', List.length_map]
    have e0 : (((a.length : Nat) : Int) != ((a.length : Nat) : Int)) = false := by simp
    rw [e0]
    subst P
    dsimp only
    rw [if_neg (by decide)]
    refine aG.of λJ3 e' => ?_
    have z : J3 true h4 := by
      subst e'
      dsimp only
      rw [if_pos rfl]
      exact BN U M (F.tt o) λh5 C => ⟨_, rfl, Q h5 ((F.tt o).tt C)⟩
    by_cases q1 : pos < 0
    · rw [if_pos (decide_eq_true q1)]; exact z
    rw [if_neg (λe => q1 (of_decide_eq_true e))]
    obtain ⟨m, rfl⟩ := Int.eq_ofNat_of_zero_le (show 0 ≤ pos by omega)
    by_cases q2 : m < a.length
    case neg => rw [if_pos (decide_eq_true (by omega))]; exact z
    rw [if_neg (λe => by have := of_decide_eq_true e; omega)]
    by_cases q3 : num < 0
    · rw [if_pos (decide_eq_true q3)]; exact z
    rw [if_neg (λe => q3 (of_decide_eq_true e))]
    obtain ⟨v, J⟩ : ∃ v, a[m]? = some v := ⟨_, List.getElem?_eq_getElem q2⟩
    have f' : 0 < (a.flatMap kr).length := by rw [dY kr 32 lu]; omega
    obtain ⟨b, t', rfl⟩ := own.some f'
    have rg : ∀ G, Fr No g G → dO ((⟨b, t', none⟩ : Addr).add (m * 32)) (kr v) 0 G := λG fg => ((own.frame fg (λ_ _ => id)).iF).gx lu J
    refine ⟨⟨by omega, by omega⟩, aw.2 ⟨v.y.num, jz.1 (rg h4 o) 26 (.int .i64 v.y.num) rfl, ?_⟩⟩
    by_cases q4 : v.y.num = num
    · rw [show (v.y.num == num) = true by simpa using q4]; exact z
    rw [show (v.y.num == num) = false by simpa using q4]
    clear z
    subst e'
    dsimp only
    rw [if_neg (by decide)]
    refine qj λb2 h5 x' n' C => P0 (V2 n') (own.iF.frame (o.tt C) (λ_ _ => id)) rfl (by omega) λp' c' L O f6 g6 => ⟨_, _, _, rfl, ⟨by omega, by omega⟩, aw.2 ?_⟩
    rw [List.nil_append] at O
    have y4 := o.1
    have y5 := C.1
    have F6 : Fr No g L := (o.tt C).fresh f6 (λy S => by
      obtain ⟨A, e, rfl⟩ := S
      have e := Option.some.inj e
      rw [← e]
      show g.size ≤ b2
      omega)
    refine ⟨(v.y.id : Int), jz.1 (rg L F6) 24 (.int .u64 (v.y.id : Int)) rfl, ⟨by omega, by omega⟩, ?_⟩
    rw [Nat.zero_add] at O ⊢
    obtain ⟨b3, g', rfl⟩ := O.some f'
    refine aw.2 ?_
    rw [Int.toNat_natCast, add_add]
    obtain ⟨n, K⟩ : ∃ n : LV, n = { v with y := ⟨v.y.id, 0, num, 0, 0, []⟩, r := none, e := 0 } := ⟨_, rfl⟩
    have gp : ∀ y, aO (some (⟨b3, g', none⟩ : Addr)) y → g.size ≤ y := λy S => by
      rcases g6 y S with A | A
      · obtain ⟨A, e, rfl⟩ := A
        have e := Option.some.inj e
        rw [← e]
        show g.size ≤ b2
        omega
      · omega
    refine Ti (Go.Den.Own.dR (p := m * 32 + 24) [.int .u64 (v.y.id : Int), .int .i64 0, .int .i64 num, .int .i64 0, .int .u64 0, .slice none 0 0] 0 L _ O (λx hx => List.all_eq_true.1 (show ([.int .u64 (v.y.id : Int), .int .i64 0, .int .i64 num, .int .i64 0, .int .u64 0, .slice none 0 0] : List Value).all fV = true from rfl) x hx) (by
      rw [dY kr 32 lu]
      have := Nat.mul_le_mul_right 32 (show m + 1 ≤ a.length by omega)
      show m * 32 + 24 + 0 + 6 ≤ _
      omega) λh7 o7 s7 x7 => ?_)
    rw [Nat.add_zero, HP (y := n) lu J (by rw [K]; rfl) (by show 24 + 6 ≤ 32; omega)] at o7
    have u : Fr No g h7 := F6.fresh (Fr.of_eq (S := aO (some ⟨b3, g', none⟩)) s7 (λc hc => x7 c hc)) gp
    have r : (a.set m n).length = a.length := List.length_set ..
    rw [← r] at o7
    refine ks λh8 t => ax.ex mT.s ⟨rfl, ?_⟩
    have j' : a.set m n = a.take m ++ n :: a.drop (m + 1) := List.set_eq_take_append_cons_drop .. |>.trans (if_pos q2)
    have KO : a = a.take m ++ v :: a.drop (m + 1) := by
      have := List.take_append_drop m a
      rw [List.drop_eq_getElem_cons q2, (List.getElem?_eq_some_iff.1 J).2] at this
      exact this.symm
    have jb : BG V (dP.mS mT) ((a.set m n).map LV.ln) = m := by
      rw [j', List.map_append, List.map_cons]
      have A2 := b'
      rw [KO, List.map_append, List.map_cons] at A2
      have := MU (y := ⟨v.y.id, 0, num, 0, 0, []⟩) A2 (λe => q4 (congrArg RD.num e))
      rw [List.length_map, List.length_take, Nat.min_eq_left (by omega)] at this
      rw [K]
      exact this
    rw [← r]
    refine BM (V := V) U M ((F.tt u).tt t) (o7.iF.frame t (λ_ _ => id)) (λv' q' => ?_) (by rw [r]; omega) (λh9 f9 => ?_)
    · rcases List.mem_or_eq_of_mem_set q' with A | A
      · exact a' h8 (u.tt t) v' A
      · rw [A, K]
        exact ⟨(a' h8 (u.tt t) v (List.mem_of_getElem? J)).f, Row.nil⟩
    · rw [jb]
      refine ⟨_, _, rfl, BN U M ((((F.tt u).tt t)).tt f9) λm' k' => ⟨_, rfl, ?_⟩⟩
      rw [if_pos rfl, if_pos (by decide), show (((m : Nat) : Int) == ((m : Nat) : Int)) = true by simp]
      exact Q m' (((((F.tt u).tt t)).tt f9).tt k')
  by_cases i' : j < E.length
  · rw [if_pos (decide_eq_true (by omega)), decide_eq_false (by omega)]; exact h'
  · rw [if_neg (λe => i' (by have := of_decide_eq_true e; omega))]; exact h'

end PR
end
end Go.Proofs.YtkdgpmeojgokdaaGreatDoor
