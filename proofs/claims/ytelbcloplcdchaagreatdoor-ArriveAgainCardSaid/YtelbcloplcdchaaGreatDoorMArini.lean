/-
  IF is proved here: parts of zp proof, one behind zp other (texts of this work, merged by a program; JW zp theorem JX not use is left out). No condition.
-/
import Derived.RangeFuncLeaves
import Derived.RangeFuncRecord
import Derived.RangeFuncCalls
import Derived.OrdersIn
import Derived.Test.YtelbcloplcdchaaGreatDoorMArinh
set_option linter.defProp false
set_option maxRecDepth 100000
set_option maxHeartbeats 4000000
namespace Go.Den
section
variable {r:Option Nat} {m n:Nat} {P:Program} {f:FuncId} {w w0:World} {R K:fp} {o:Oper} {F:Func}
def fw(r:Option Nat):Fence:= { Fence.wide with round:=r }
def Gh{args:Array Value}{R:Ending->World->Prop}(h:Calls P f args w R):CallsIn (fw r) m P f args w R:=
 (callsIn_wide).2 h
def wS :(fw r).depth.isSome=true->1<=m:=λh=>by cases h
def nZ(P:Program)(l:Nat)(args:Array Value)(h:aA)(R:fp):Prop:=
 ∀w:World,w.heap=h->∃f t assign b,(Instr.yield l args).run P w=.ok (.round l f t assign b) w/\
  ∀r m,RoundIn (fw r) m P l f t assign b w (λe c=> ∃v,e=.returned v/\R v c.heap/\fQ w c)
def Act.bare(a:Act):Act:= { a with defers:= [] }
def Act.LP(a:Act)(d:Option Nat)(v:Value):Act.bare (a.put d v)=(Act.bare a).put d v:=by cases d<;>rfl
def Act.put_defers(a:Act)(d:Option Nat)(v:Value):(a.put d v).defers=a.defers:=by cases d<;>rfl
variable {a a0:Act} {next:Act->World->Prop} {Q:Exit->Act->World->Prop}
def mC(o:Oper):Bool:=match o.op with| .defer _=>false|_=>true
def za(h:mC o=true)(c:Call):o.op≠ .defer c:=λe=>by unfold mC at h;rw[e]at h;cases h
def rV.wpIn(g:rV P o a.eval w.heap K)(j:mC o=true)(h: ∀v b,K v b.heap->fQ w b->next (a.put o.dst v) b):o.wpIn (fw r) m P a w next Q:=by
 refine⟨λ_ _=>trivial,?_⟩;have⟨x,b,k,c,d⟩:=oq _ _ _ g w rfl;rw[Oper.semAt_eq _ _ _ (za j),k];cases x with
 |value v=>exact h _ _ c d
 |skip=>exact h _ _ c d
 |enter f args=>refine⟨wS,CallsIn.mono (Gh (c b rfl)) ?_⟩;rintro e l ⟨v,rfl,H,i⟩;exact h _ _ H (d.trans i)
 |_=>exact c.elim
def Ns(P:Program)(o:Oper)(d:Env)(h:aA)(K:fp):Prop:=
 match o.op with
 | .call { callee:=.value f,args:=args,argTypes:=_ } =>(match d.ev f,Qw d args.toList with
  |some (.func (.yield l) c _),some V=>nZ P l (c.toList++V).toArray h λv H=> ∃b:Bool,v=.bool b/\K (.bool b) H
  |_,_=>Cw P o d h K)
 |_=>Cw P o d h K
def Ql{k:Env}(H:Fits k a.eval)(h:Ns P o k w.heap K)(i:mC o=true)(d: ∀v j,K v j.heap->fQ w j->next (a.put o.dst v) j):o.wpIn (fw r) m P a w next Q:=by
 unfold Ns at h;split at h;rename_i f args z s;split at h;rename_i l c C V q x;have⟨g,T,assign,B,y,t⟩:=h w rfl;refine⟨λ_ _=>trivial,?_⟩;rw[Oper.semAt_eq _ _ _ (za i)];have e:(execOp a.eval o).run P w=(Instr.yield l (c.toList++V).toArray).run P w:=by
  unfold execOp;rw[s];simp only[resolve,vg H x,H _ _ q,Deferred.ofValue];have e:c++V.toArray=(c.toList++V).toArray:=bt
  rw[e];rfl
 rw[e,y];refine⟨wS,RoundIn.mono (t r _) ?_⟩;rintro e A ⟨v,rfl,⟨b,rfl,p⟩,u⟩;exact d _ _ p u;exact(qI H h).wpIn i d;exact(qI H h).wpIn i d
def Xz(n:Nat)(a0:Act)(w0:World)(c:List Nat)(K:Env->dw):JY:=
 λe a w=>e=.normal/\∃b,Rel n b (Act.bare a)/\K b w.heap/\fQ w0 w/\gP c (Act.bare a0) (Act.bare a)/\a.defers=a0.defers
def DP(P:Program)(n:Nat)(O:Array Oper)(t:List (Nat×Sh)):List Oper->Env->aA->(Env->dw)->Prop
 | [],b,h,K=>K b h
 |o::d,b,h,K=>oP O o b
   (λb=>Ns P o b h λv H=>Kg t o.dst v λv=>mK n b o.dst v λc=>DP P n O t d c H K)
   (λb=>mK n b o.dst undef λc=>DP P n O t d c h K)
theorem zc{O:Array Oper}{T:List (Nat×Sh)}{K:Env->dw}(z:O.all mC=true): ∀(b:List Oper)(k:Nat)(c:Env)(a:Act)(w:World),
  (∀j,b[j]? =O[k+j]?)->Rel n c (Act.bare a)->fQ w0 w->gP (fO O) (Act.bare a0) (Act.bare a)->a.defers=a0.defers->DP P n O T b c w.heap K->wpOpsIn (fw r) m P O (Xz n a0 w0 (fO O) K) (List.range' k b.length) a w
 | [],k,c,a,w,_,p,e,g,H,h=>⟨rfl,c,p,h,e,g,H⟩
 |o::b,k,c,a,w,u,p,e,g,H,h=>by
  have i:=by have:=u 0;simpa using this.symm
  have x: ∀j,b[j]? =O[k+1+j]? :=λj=>by have:=u (j+1);simpa[Nat.add_assoc,Nat.add_comm 1 j]using this
  have C:mC o=true:=by grind
  simp only[ba,List.range'_succ,wpOpsIn,i];rcases wZ p h with⟨s,A,d,h⟩|⟨s,A,d,h⟩;have y:Region.wanted o (yielded O a.tmps)=true:=s;rw[ag y];refine Ql (show Fits A a.eval from d.fits) h C ?_;intro v E B D;have⟨t,q,l⟩:=zC d (vh B);exact zc z b (k+1) t _ E x (by rw[Act.LP];exact q) (e.trans D) (by exact g.trans (gP.put (iF i))) (by rw[Act.put_defers];exact H) l;have y:Region.wanted o (yielded O a.tmps)=false:=s;rw[af (by grind)];have⟨t,q,l⟩:=zC d h;exact⟨λ_ _=>trivial,zc z b (k+1) t _ w x (by rw[Act.LP];exact q) e (by exact g.trans (gP.put (iF i))) (by rw[Act.put_defers];exact H) l⟩
theorem Qm{K s:Act->World->Prop}{u:JY}{D:List Deferred}(B:mC o=true)(h:o.wp P a w K Q)(i: ∀A g,K A g->A.defers= []/\s { A with defers:=D } g)(l: ∀e A g,e≠ .normal->¬Q e A g):
  a.defers= []/\o.wpIn (fw r) m P { a with defers:=D } w s u:=by
 unfold Oper.wp at h;unfold Oper.wpIn;rw[Oper.semAt_eq _ _ _ (za B)];have e:(execOp (Act.eval { a with defers:=D }) o).run P w=(execOp a.eval o).run P w:=rfl;rw[e];have t: ∀(v:Value),({ a with defers:=D }).put o.dst v= { (a.put o.dst v)with defers:=D } :=λv=>by cases o.dst<;>rfl
 generalize (execOp a.eval o).run P w=x at h⊢;cases x with
 |ok x g=>
  cases x with
  |value v=>have⟨H,j⟩:=i _ _ h;rw[Act.put_defers]at H;exact⟨H,λ_ _=>trivial,by simp only[Oper.uponIn,t];exact j⟩
  |skip=>have⟨H,j⟩:=i _ _ h;rw[Act.put_defers]at H;exact⟨H,λ_ _=>trivial,by simp only[Oper.uponIn,t];exact j⟩
  |defer d=>have⟨H,j⟩:=i _ _ h;rw[Act.put_defers]at H;cases H
  |enter f args=>
   have p:a.defers= []:=by
    have⟨e,k,E,b,_⟩:=h [];cases e with
    |returned v=>have:=(i _ _ b).1;rwa[Act.put_defers]at this
    |panicked C=>grind
    |outgrown=>have⟨_,_,q⟩:=b;exact(l _ _ _ bt q).elim
   refine⟨p,λ_ _=>trivial,wS,CallsIn.mono (Gh h) ?_⟩;rintro e k b;cases e with
   |returned v=>grind
   |panicked C=>exact(l _ _ _ bt b).elim
   |outgrown=>have⟨_,_,q⟩:=b;exact(l _ _ _ bt q).elim
  |row G args=>
   have p:a.defers= []:=by have⟨v,k,b,_⟩:=h default [];have:=(i _ _ b).1;rwa[Act.put_defers]at this
   refine⟨p,λ_ _=>trivial,wS,λc y _=> ?_⟩;have⟨v,k,b,z⟩:=h c y;exact⟨v,k,(by grind),stepsIn_wide.2 z⟩
  |_=>exact h.elim
 |halt x g=>cases x<;>simp only[Oper.upon]at h<;>first|exact h.elim|grind
theorem Gi{P : Program}{O : Array Oper}{Q q : Exit → Act → World → Prop}{r : Option Nat}{m : Nat}{ds : List Deferred}(x : O.all mC = true)(c : ∀ e A k, Q e A k → e = .normal ∧ A.defers = [] ∧ q .normal { A with defers := ds } k): ∀(fuel : Nat)(l : Array Bool)(a : Act)(w : World),
    wpAny P .any O Q fuel l a w → a.defers = [] ∧ wpAnyIn (fw r) m P .any O q fuel l { a with defers := ds } w
  | 0, l, a, w, h => ⟨(c _ _ _ h.2).2.1, h.1, (c _ _ _ h.2).2.2⟩
  | fuel + 1, l, a, w, h => by
    have step : ∀ i ∈ Region.ready .any O l, a.defers = [] ∧ wpOpIn (fw r) m P O q i (wpAnyIn (fw r) m P .any O q fuel (l.setIfInBounds i true)) { a with defers := ds } w := λi b => by
      have H := h.2 i b
      have I := Gi (P := P) x c (r := r) (m := m) fuel (l.setIfInBounds i true)
      unfold wpOp at H
      unfold wpOpIn
      split at H
      · grind
      · rename_i o v
        have t : mC o = true := by
          grind
        simp only [v]
        split at H
        · rename_i j
          rw [if_pos j]
          rcases H with H | ⟨_, _, _, d⟩
          · exact Qm t H I (λe A k u d => u (c _ _ _ d).1)
          · grind
        · rename_i j
          rw [if_neg j]
          have ⟨p, y⟩ := I _ _ H
          rw [Act.put_defers] at p
          have z : ({ a with defers := ds }).put o.dst undef = { (a.put o.dst undef) with defers := ds } := by cases o.dst <;> rfl
          exact ⟨p, λ_ _ => trivial, by grind⟩
    by_cases g : Region.ready .any O l = []
    · have ⟨_, s, d⟩ := c _ _ _ (h.1 g)
      exact ⟨s, λ_ => d, λi b => (step i b).2⟩
    · have ⟨i, b⟩ := List.exists_mem_of_ne_nil _ g
      exact ⟨(step i b).1, λe => absurd e g, λi b => (step i b).2⟩
def Ou(K:List Nat->Env->dw)(Q:Exit->List Nat->Env->dw):Exit->List Nat->Env->dw
 | .normal=>K
 |e=>Q e
def Xj(b:Bool)(A B:Prop):Prop:=match b with|true=>A|false=>B
def Tc(id:Nat)(Q:Exit->List Nat->Env->dw):Exit->List Nat->Env->dw
 | .exit i=>λD b h=>Xj (Nat.beq i id) (Q .normal D b h) (Q (.exit i) D b h)
 |e=>Q e
def Xk:Exit->List Nat->Env->dw:=λ_ _ _ _=>False
abbrev Tk(h:aA)(l:Nat)(r:Loop):Prop:=h[l]? =some (.loop r)
abbrev hN(h:aA)(l:Nat)(r:Loop):aA:=h.setIfInBounds l (.loop r)
abbrev Ov(h:aA)(r:Loop):aA:=(h.push (.deferred (some []))).push (.loop r)
abbrev UJ:=LoopState->Option Code->Loop
def Wh(l:Nat)(rec:UJ)(C:Bool->dw):Exit->List Nat->Env->dw
 | .normal,_,_,h=>Tk h l (rec .busy none)/\C true (hN h l (rec .ready none))
 | .ret,_,_,h=>Tk h l (rec .busy none)/\C false (hN h l (rec .done (some .ret)))
 | .exit i,_,_,h=>Tk h l (rec .busy none)/\C false (hN h l (rec .done (some (.exit i))))
 |_,_,_,_=>False
def Vj(b T:dw)(E:Nat->dw):Option Code->dw
 |none,h=>b h
 |some .ret,h=>T h
 |some (.exit i),h=>E i h
 |_,_=>False
def Nt(n:Nat):List Nat->List Value->Env->(Env->Prop)->Prop
 | [], [],b,K=>K b
 |t::T,v::V,b,K=>mK n b (some t) v λc=>Nt n T V c K
 |_,_,_,_=>False
def Td(P:Program)(v:Value)(h:aA)(B:UJ->(Bool->dw)->List Value->dw)(J:Option Code->dw):Prop:=
 ∃G l,v=.func (.func G) #[] l/\ou P G=true/\∀rec:UJ,(∀s p,(rec s p).state=s/\(rec s p).pending=p)->
  (∀args g C,Tk g (h.size+1) (rec .ready none)->B rec C args g->nZ P (h.size+1) args.toArray g λv d=> ∃b,v=.bool b/\C b d)->
  mJ P G (#[.func (.yield (h.size+1)) #[] #[]]++l) (Ov h (rec .ready none)) λ_ g=> ∃S c,S≠ .busy/\Tk g (h.size+1) (rec S c)/\J c (hN g (h.size+1) (rec .exhausted c))
def JN:List Nat->List Nat->Bool
 | [], []=>true
 |x::X,y::b=>Nat.beq x y && JN X b
 |_,_=>false
def IC: ∀{a b:List Nat},JN a b=true->a=b
 | [], [],_=>rfl
 |x::X,y::c,h=>by simp only[JN,aZ]at h;rw[cT h.1,IC h.2]
def tQ(P : Program)(n : Nat)(rd : Bool): pH -> Code -> (Exit -> List Nat -> Env -> aA -> Prop) -> List Nat -> Env -> aA -> Prop
  | .leaf, c, Q, D, e, h => (match c with
    | .skip => Q .normal D e h
    | .label _ => Q .normal D e h
    | .exit id => Q (.exit id) D e h
    | .ret => Q .ret D e h
    | .region _ O false => (match O.all mC with | true => DP P n O [] O.toList e h (Q .normal D) | false => False)
    | _ => False)
  | .jW G p, c, Q, D, e, h => (match c with
    | .region _ O true => (match (P.follows .mixedOrders && Region.noSelect O && DY p O.size && jW P O p none (Array.replicate O.size false)), O.all mC with
      | true, true => gY P [] n O Vs G p [] [] e h (Q .normal D)
      | _, _ => False)
    | _ => False)
  | .seq a b, c, Q, D, e, h => (match c with
    | .seq c d => tQ P n rd a c (Ou (λk j H => tQ P n rd b d Q k j H) Q) D e h
    | _ => False)
  | .cond a b, c, Q, D, e, h => (match c with
    | .cond x c d => (match e.ev x with
      | some (.bool q) => if q = true then tQ P n rd a c Q D e h else tQ P n rd b d Q D e h
      | _ => False)
    | _ => False)
  | .block a, c, Q, D, e, h => (match c with
    | .block id c => tQ P n rd a c (Tc id Q) D e h
    | _ => False)
  | .loop L a, c, Q, D, e, h => (match c with
    | .loop c => ∃(I : uh (aA -> Prop) L)(u : uh (aA -> Nat) L), nK False L I e (λf => f h) /\
        OB L (λj => ∀ H, nK False L I j (λf => f H) ->
          tQ P n rd a c (Ou (λk y l => k = D /\ nK False L I y (λf => f l) /\ nK 0 L u y (λf => f l) < nK 0 L u j (λf => f H)) Q) D j H) (e.forget (writes c))
    | _ => False)
  | .join L a, c, Q, D, e, h => aB (α := uh (aA -> Prop) L) (Qy L (λj H => Q .normal D j H) (e.forget (writes c)))
      (λJ => tQ P n rd a c (Ou (λk j H => k = D /\ nK False L J j (λf => f H)) Q) D e h)
  | .scope z L a b, c, Q, D, e, h => (match c with
    | .rangeFunc g M assign B => (match rd, JN (L.map (·.1)) M.toList, e.ev g with
      | false, true, some v => Td P v h
          (λrec C args E => Nu (L.map (·.2)) λV => args = V /\ Nt n (L.map (·.1)) V e λS =>
            tQ P n true a assign (Ou (λA T s => Tk s (h.size + 1) (rec .ready none) /\ ∀ t, t = hN s (h.size + 1) (rec .busy none) -> tQ P n true b B (Wh (h.size + 1) rec C) A T t) Xk) [] S E)
          (Vj (λg => Q .normal (h.size :: D) e g) (λg => Q .ret (h.size :: D) e g) (match z with | 0 => λ_ _ => False | _ => λi g => Q (.exit i) (h.size :: D) e g))
      | _, _, _ => False)
    | _ => False)
  | .typed _, _, _, _, _, _ => False
def mark(D:Nat):Deferred:= { target:=.collected D,args:= #[] }
def YO(n:Nat)(a0:Act)(w0:World)(c:List Nat)(Q:Exit->List Nat->Env->dw):JY:=
 λe a w=> ∃D b,Rel n b (Act.bare a)/\a.defers=D.map mark/\Q e D b w.heap/\fQ w0 w/\gP c (Act.bare a0) (Act.bare a)
def Gj{b:List Nat}{Q:Exit->List Nat->Env->dw}{D:List Nat}(j:a0.defers=D.map mark){e:Exit}(h:Xz n a0 w0 b (Q .normal D) e a w):YO n a0 w0 b Q e a w:=by obtain⟨rfl,k,H,c,d,g,i⟩:=h;exact⟨D,k,H,i.trans j,c,d,g⟩
def Gk(w:World)(o:Obj):fQ w (w.alloc o):=⟨rfl,rfl,rfl⟩
def AK(w:World)(l:Nat)(o:Obj):fQ w (w.putObj l o):=⟨rfl,rfl,rfl⟩
def ID{K:Env->Prop}: ∀(T:List Nat)(V:List Value)(b:Env)(c:Array Value),Rel n b { tmps:=c,defers:= [] } ->Nt n T V b K->
  T.length=V.length/\∃d,Rel n d { tmps:=(T.zip V).foldl (λt (p,v)=>t.setIfInBounds p v) c,defers:= [] } /\K d
 | [], [],b,c,H,h=>⟨rfl,b,H,h⟩
 |t::T,v::V,b,c,H,h=>by have⟨d,j,e⟩:=zC H h;have⟨g,i⟩:=ID T V d _ j e;exact⟨by simp[g],i⟩
 | [],_::_,_,_,_,h=>h.elim
 |_::_, [],_,_,_,h=>h.elim
def mZ : ∀(D':pH)(rd:Option Nat)(m:Nat)(c:Code)(Q:Exit->List Nat->Env->dw)(D:List Nat)(i:Env)(a:Act)(w:World),Rel n i (Act.bare a)->a.defers=D.map mark->
  tQ P n rd.isSome D' c Q D i w.heap->c.wpIn (fw rd) m P (YO n a w (writes c) Q) a w
 | .leaf,rd,m,c,Q,D,i,a,w,g,q,h=>by unfold tQ at h;split at h;exact wpIn_skip ⟨D,i,g,q,h,fQ.refl w,gP.refl _ _⟩;exact wpIn_label ⟨D,i,g,q,h,fQ.refl w,gP.refl _ _⟩;exact wpIn_exit ⟨D,i,g,q,h,fQ.refl w,gP.refl _ _⟩;exact wpIn_ret ⟨D,i,g,q,h,fQ.refl w,gP.refl _ _⟩;rename_i id h';split at h;rename_i nd;refine wpIn_mono (wpIn_region (Q:=Xz n a w (fO h') (Q .normal D)) ?_) (λe A l H=>Gj q H);have:=zc (a0:=a) (w0:=w) (r:=rd) (m:=m) nd h'.toList 0 i a w bt g (fQ.refl w) (gP.refl _ _) rfl h;rw[List.range_eq_range'];simpa using this;exact h.elim;exact h.elim
 | .typed _,_,_,_,_,_,_,_,_,_,_,h=>h.elim
 | .jW kb p,rd,m,c,Q,D,i,a,w,g,q,h=>by
  unfold tQ at h;split at h;rename_i id h';split at h;rename_i J nd;obtain⟨h1,h2⟩:=vi (a:=Act.bare a) J g.D h;refine wpIn_mono (wpIn_region_any (Q:=Xz n a w (fO h') (Q .normal D)) h1 ((Gi (ds:=a.defers) nd (λe A l H=> ?_) _ _ _ _ h2).2)) (λe A l H=>Gj q H);obtain⟨rfl,X,M,hk,s,u⟩:=D0 H;have e:Act.bare { A with defers:=a.defers } =A:=by obtain⟨t,d⟩:=A;have:d= []:=M.defers;rw[this];rfl
  exact⟨rfl,M.defers,rfl,X,by rw[e];exact M,hk,s,by rw[e];exact u,rfl⟩;exact h.elim;exact h.elim
 | .seq x b',rd,m,c,Q,D,i,a,w,g,q,h=>by
  unfold tQ at h;split at h;rename_i c d;refine wpIn_seq (wpIn_mono (mZ x rd m c _ D i a w g q h) ?_);rintro e A l ⟨E,z,B,y,H,s,u⟩;have hW: ∀t,t∈writes c->t∈writes (.seq c d):=λt G=>dY _ G;cases e with
  |normal=>refine wpIn_mono (mZ b' rd m d Q E z A l B y H) ?_;rintro e2 a2 w2 ⟨D2,r',l',k',U',n',a6⟩;exact⟨D2,r',l',k',U',s.trans n',(u.mono hW).trans (a6.mono λt G=>dy _ G)⟩
  |_=>exact⟨E,z,B,y,H,s,u.mono hW⟩
  exact h.elim
 | .cond x b',rd,m,c,Q,D,i,a,w,g,q,h=>by
  unfold tQ at h;split at h;rename_i k c d;split at h;rename_i A' H;have he:a.eval k=.B A':=g.fits _ _ H;split at h;rename_i G;subst G;refine wpIn_cond_true he (wpIn_mono (mZ x rd m c Q D i a w g q h) ?_);rintro e A l ⟨E,z,B,y,H,s,u⟩;exact⟨E,z,B,y,H,s,u.mono λt G=>dY _ G⟩;rename_i G;have G:A'=false:=by simpa using G
  subst G;refine wpIn_cond_false he (wpIn_mono (mZ b' rd m d Q D i a w g q h) ?_);rintro e A l ⟨E,z,B,y,H,s,u⟩;exact⟨E,z,B,y,H,s,u.mono λt G=>dy _ G⟩;exact h.elim;exact h.elim
 | .block x,rd,m,c,Q,D,i,a,w,g,q,h=>by
  unfold tQ at h;split at h;rename_i id c;refine wpIn_block (wpIn_mono (mZ x rd m c _ D i a w g q h) ?_);rintro e A l ⟨E,z,B,y,H,s,u⟩;cases e with
  |exit p'=>
   simp only[Exit.inBlock];simp only[Tc,Xj]at H;by_cases hid:p'=id;subst hid;simp only[Nat.beq_refl]at H;rw[ag rfl];exact⟨E,z,B,y,H,s,u⟩;rw[af hid];have:Nat.beq p' id=false:=by cases J:Nat.beq p' id;rfl;exact absurd (cT J) hid
   rw[this]at H;exact⟨E,z,B,y,H,s,u⟩
  |_=>exact⟨E,z,B,y,H,s,u⟩
  exact h.elim
 | .loop L x,rd,m,c,Q,D,i,a,w,g,q,h=>by
  unfold tQ at h;split at h;rename_i c;obtain⟨I,μ,h0,a4⟩:=h;refine wpIn_loop (λA l=> ∃z,Rel n z (Act.bare A)/\A.defers=D.map mark/\nK False L I z (λf=>f l.heap)/\fQ w l/\gP (writes c) (Act.bare a) (Act.bare A))
   (λA l=>nK 0 L μ (vj A) (λf=>f l.heap)) ⟨i,g,q,h0,fQ.refl w,gP.refl _ _⟩ ?_
  rintro A l ⟨z,B,y,hI,s,u⟩;obtain⟨i',hF,o',hL,_⟩:=zB L _ I a4 hI;have w':=Rel.rZ g B u o';have s':nK False L I i' (λf=>f l.heap):=by rw[oG L I hL];exact hI
  have M':=hF l.heap s';refine wpIn_mono (mZ x rd m c _ D i' A l w' y M') ?_;rintro e a1 w1 ⟨D1,X,M,u',H,x',y'⟩;have ev: ∀b:Act,vj (Act.bare b)=vj b:=λ_=>rfl;cases e with
  |normal=>obtain⟨rfl,t',S'⟩:=H;refine⟨⟨X,M,u',t',s.trans x',u.trans y'⟩,?_⟩;rw[<-ev a1,<-ev A,lL M (oy L I t'),lL w' (oy L I s')];exact S'
  |_=>exact⟨D1,X,M,u',H,s.trans x',u.trans y'⟩
  exact h.elim
 | .join L x,rd,m,c,Q,D,i,a,w,g,q,h=>by
  unfold tQ at h;unfold aB at h;refine wpIn_mono (mZ x rd m c _ D i a w g q h) ?_;rintro e A l ⟨E,z,B,y,H,s,u⟩;cases e with
  |normal=>obtain⟨rfl,H⟩:=H;obtain⟨i',hQ,o'⟩:=zA L _ H;exact⟨E,i',Rel.rZ g B u o',y,hQ,s,u⟩
  |_=>exact⟨E,z,B,y,H,s,u⟩
 | .scope C' L x b',rd,m,c,Q,D,i,a,w,g,q,h=>by
  unfold tQ at h;split at h
  .rename_i F' V c' d';split at h
   .rename_i v m' g' hg;have m':rd=none:=by cases rd with|none=>rfl|some _=>cases m'
    subst m';have g':=IC g';obtain⟨Z,lb,rfl,J,hc⟩:=h;have P':a.eval F'=.func (.func Z) #[] lb:=g.fits _ _ hg;refine wpIn_rangeFunc λgn _=> ?_;obtain⟨rec,O⟩: ∃rec:UJ,rec=λB' p=> { state:=B',pending:=p,fn:=gn,tmps:=a.tmps,params:=V,assign:=c',body:=d',defers:=w.heap.size } :=⟨_,rfl⟩;have K':=hc rec (λB' p=>by rw[O];exact⟨rfl,rfl⟩) ?round
    case round=>
     intro args g1 C f' hB w1 a7;subst a7;obtain⟨vs,rfl,T'⟩:=x8 hB;obtain⟨R',X,M,L'⟩:=ID _ _ i a.tmps g T';have a5:args.toArray.size=V.size:=by rw[<-Array.length_toList (xs:=V),<-g',R'];simp
     refine⟨gn,(V.zip args.toArray).foldl (λq' (t,a)=>q'.setIfInBounds t a) a.tmps,c',d',?_,λr m2=> ?_⟩;rw[O]at f';exact run_yield f' a5;have E':(V.zip args.toArray).foldl (λq' (t,a)=>q'.setIfInBounds t a) a.tmps=((L.map (·.1)).zip args).foldl (λt (p,v)=>t.setIfInBounds p v) a.tmps:=by rw[g',<-Array.foldl_toList,Array.toList_zip]
     refine roundIn_of_wpIn (F:=fw r) trivial ?_;rw[E'];refine wpIn_mono (mZ x (some (w.heap.size+1)) m2 c' _ [] X { tmps:=((L.map (·.1)).zip args).foldl (λt (p,v)=>t.setIfInBounds p v) a.tmps,defers:= [] } w1 M rfl L') ?_;rintro e a2 w2 ⟨D2,r',l',k',H,n',_⟩;cases e with
     |normal=>
      obtain⟨G',J'⟩:=H;have I':(rec .ready none).state=.ready:=by rw[O]
      have e2:({ (rec .ready none)with state:=.busy } :Loop)=rec .busy none:=by rw[O]
      refine⟨w2.putObj (w.heap.size+1) (.loop (rec .busy none)),by rw[<-e2];exact run_beginRound G' I',?_⟩;refine wpIn_mono (mZ b' (some (w.heap.size+1)) m2 d' _ D2 r' a2 (w2.putObj (w.heap.size+1) (.loop (rec .busy none))) l' k' (J' _ rfl)) ?_;rintro e3 a3 U ⟨D3,b0,a9,a8,S,X',_⟩;have a': ∀o,fQ w1 (U.putObj (w.heap.size+1) o):=λo=>n'.trans ((AK _ _ _).trans (X'.trans (AK _ _ _)));have j': ∀(j:Option Code),Tk U.heap (w.heap.size+1) (rec .busy none)->C j.isNone (hN U.heap (w.heap.size+1) (rec (if j.isNone then .ready else .done) j))->
        ∃v l,(Instr.endRound (w.heap.size+1) j).run P U=.ok v l/\∃v',Ending.returned v=.returned v'/\(∃b,v'=.B b/\C b l.heap)/\fQ w1 l:=λj H' hC=>by
       have e5:({ (rec .busy none)with state:=if j.isNone then .ready else .done,pending:=j } :Loop)=rec (if j.isNone then .ready else .done) j:=by rw[O]
       refine⟨_,_,run_endRound j H',_,rfl,⟨_,rfl,?_⟩,a' _⟩;rw[e5];exact hC
      cases e3 with
      |normal=>exact j' none S.1 S.2
      |ret=>exact j' (some .ret) S.1 S.2
      |exit z'=>exact j' (some (.exit z')) S.1 S.2
      |_=>exact S.elim
     |_=>exact H.elim
    have O':(callFunc Z (#[.func (.yield (w.heap.size+1)) #[] #[]]++lb)).run P ((w.alloc (.deferred (some []))).alloc (.loop (rec .ready none)))=.ok (.enter Z (#[.func (.yield (w.heap.size+1)) #[] #[]]++lb)) ((w.alloc (.deferred (some []))).alloc (.loop (rec .ready none))):=by
     unfold ou at J;split at J;rename_i e' Q';simp only[aZ,fI]at J;have hn:e'.body.isNone=false:=by cases H:e'.body<;>simp[H]at J⊢
     unfold callFunc;have h1: ¬e'.name= "runtime.NumGoroutine" :=λe=>by have:=J.2;rw[e]at this;cases this
     have h2: ¬e'.body=none:=λe=>by rw[e]at hn;cases hn
     simp[go_sem,Q',h1,h2];cases J
    refine⟨w.heap.size+1, [{ target:=.collected w.heap.size,args:= #[] }],(w.alloc (.deferred (some []))).alloc (.loop (rec .ready none)), { target:=.fn (.func Z) lb,args:= #[.func (.yield (w.heap.size+1)) #[] #[]] },(w.alloc (.deferred (some []))).alloc (.loop (rec .ready none)),Z,#[.func (.yield (w.heap.size+1)) #[] #[]]++lb,(w.alloc (.deferred (some []))).alloc (.loop (rec .ready none)),?_,?_,λ_ _=>trivial,by simp only[invoke];exact O',wS,?_⟩;rw[O];exact run_enterLoop_outer gn a.tmps V c' d';simp only[resolve,P'];simp[go_sem];refine CallsIn.mono (Gh (K' _ rfl)) ?_;rintro e U ⟨v,rfl,⟨st,T,Z',f',hJ⟩,s⟩;have V':fQ w U:=(Gk w _).trans ((Gk _ _).trans s);have e5:({ (rec st T)with state:=.exhausted } :Loop)=rec .exhausted T:=by rw[O]
    refine⟨(rec st T).pending,_,run_endLoop f' (by rw[O];exact Z'),?_⟩;rw[e5,show(rec st T).pending=T by rw[O]];have a':fQ w (U.putObj (w.heap.size+1) (.loop (rec .exhausted T))):=V'.trans (AK _ _ _);have y:([{ target:=.collected w.heap.size,args:= #[] }]:List Deferred)++a.defers=(w.heap.size::D).map mark:=by rw[q];rfl
    cases T with
    |none=>exact⟨w.heap.size::D,i,g,y,hJ,a',gP.refl _ _⟩
    |some c=>
     cases c with
     |ret=>exact wpIn_ret ⟨w.heap.size::D,i,g,y,hJ,a',gP.refl _ _⟩
     |exit z'=>
      cases C' with
      |zero=>exact hJ.elim
      |succ C'=>exact wpIn_exit ⟨w.heap.size::D,i,g,y,hJ,a',gP.refl _ _⟩
     |_=>exact hJ.elim
   exact h.elim
  exact h.elim
def AL:List Nat->aA->(dw)->Prop
 | [],h,K=>K h
 |d::D,h,K=>h[d]? =some (.deferred (some []))/\AL D (h.setIfInBounds d (.deferred none)) K
def Yx(P:Program)(c:Array ResultVar)(R:fp):Exit->List Nat->Env->dw
 | .normal,D,b,h=>AL D h λH=>ui P c.toList b H λv=>R (vm v) H
 | .ret,D,b,h=>AL D h λH=>ui P c.toList b H λv=>R (vm v) H
 |_,_,_,_=>False
def IE{t:Array Value}{i:Env}(c:Rel n i { tmps:=t,defers:= [] }): ∀(D:List Nat)(w:World),fQ w0 w->
  AL D w.heap (λb=>ui P F.results.toList i b λV=>R (vm V) b)->
  LeavesInM (fw none) m P F t (λe g=> ∃v,e=.returned v/\R v g.heap/\fQ w0 g) (D.map mark) .returning w
 | [],w,H,h=>by have⟨v,j,k⟩:=sc (F:=λv=>R v w.heap) c h;exact⟨v,x7 _ _ _ k,v,rfl,j,H⟩
 |d::D,w,H,h=>⟨bt,.inl ⟨d,w.putObj d (.deferred none),rfl,run_takeDeferred h.1,IE c D _ (H.trans (AK _ _ _)) h.2⟩⟩
theorem ue{args:List Value}{h:aA}(A:pH)(q:P.funcs[f]? =some F)(k:F.body.isSome=true)(j:Nat.ble args.length F.ntmps=true)(i:tQ P F.ntmps false A (qp F) (Yx P F.results R) [] (mb args) h):mJ P f args.toArray h R:=by
 have⟨c,g⟩:=dL.1 k;rw[qp,g]at i;intro w u;subst u;have j:=Nat.le_of_ble_eq_true j;refine(callsIn_wide (n:=0)).1 (callsIn_of_wp_marks q g trivial ?_);have b:Rel F.ntmps (mb args) { tmps:=args.toArray++Array.replicate (F.ntmps - args.toArray.size) undef,defers:= [] } :=by refine⟨rfl,by grind,λt v d=> ?_⟩;unfold mb at d;have y:=(aJ.1 d).1;simp only[eU];rw[dU ae];simp[d]
 refine wpIn_mono (mZ A none 0 c _ [] _ { tmps:=args.toArray++Array.replicate (F.ntmps - args.toArray.size) undef,defers:= [] } w b rfl i) ?_;rintro e a x ⟨D,z,b,p,H,s,_⟩;cases e with
 |exit id=>exact H.elim
 |goto l=>exact H.elim
 |panic C=>exact H.elim
 |outgrown=>exact H.elim
 |_=>show LeavesInM _ _ _ _ _ _ a.defers _ _;rw[p];exact IE b D x s H

end
end Go.Den
namespace Go.Proofs.YtelbcloplcdchaaGreatDoor
open Go.Den
open IntKind (wrap)
open Int (toNat)
section
variable {h:aA} {R:fp}
variable {a:bZ} {l L:Nat} {s S b c:Int}
def Cs(f:aW h (.C #[.L a l L] 39) λB H=>aW H (.C #[.I s,.I S,.I b,.I c] 84) λd e=>R (.func (.func 107) #[] #[.P d 0,.P B 0]) e):Cl 66 #[.L a l L,.agg #[.I s,.I S,.I b,.I c]] h R:=aP [] f
def wT{j:Nat}{i:Nat}{C:Nat} (hv:Hi h i 0 λd=>Hi h i 1 λe=>Hi h i 2 λf=>Hi h i 3 λg=> ∃(I:kj)(m:kG),I 0 h/\∀T H,I T H->ite (decide (T<4)) (Bd T 4/\(T=((0:Nat):Int)->aB (λ(t':Bool) n=>ite t' (R (.T #[]) n) (Hl n C 0 λx' U M=>((0:Int)<=d/\d<=(U:Int))/\aO n (AA C 0) (.L (cE x' M (toNat d) 1) (U - (toNat d)) (M - (toNat d))) λA=>(([]:List Nat)= []/\I (wrap .i64 (T+1)) A/\m (wrap .i64 (T+1)) A<m T H))) (λJ=> ∃l' E h',Cc H C 0 (.L l' E h')/\ite (decide (d>((E:Nat):Int))) (([]:List Nat)= []/\J true H) (Hl H C 0 λp' _ q=>((0:Int)<=d/\d<=(q:Int))/\nZ Tryz.prog j #[.I T,.L (cE p' q 0 1) ((toNat d) - 0) (q - 0)] H λB' f'=> ∃(t:Bool),B'=.B t/\([]:List Nat)= []/\J (!t) f')))/\(T=((1:Nat):Int)->aB (λ(u':Bool) o=>ite u' (R (.T #[]) o) (Hl o C 0 λy' V O=>((0:Int)<=e/\e<=(V:Int))/\aO o (AA C 0) (.L (cE y' O (toNat e) 1) (V - (toNat e)) (O - (toNat e))) λB=>(([]:List Nat)= []/\I (wrap .i64 (T+1)) B/\m (wrap .i64 (T+1)) B<m T H))) (λw=> ∃m' F i',Cc H C 0 (.L m' F i')/\ite (decide (e>((F:Nat):Int))) (([]:List Nat)= []/\w true H) (Hl H C 0 λq' _ r=>((0:Int)<=e/\e<=(r:Int))/\nZ Tryz.prog j #[.I T,.L (cE q' r 0 1) ((toNat e) - 0) (r - 0)] H λC' g'=> ∃(a':Bool),C'=.B a'/\([]:List Nat)= []/\w (!a') g')))/\(T=((2:Nat):Int)->aB (λ(v':Bool) p=>ite v' (R (.T #[]) p) (Hl p C 0 λz' X P=>((0:Int)<=f/\f<=(X:Int))/\aO p (AA C 0) (.L (cE z' P (toNat f) 1) (X - (toNat f)) (P - (toNat f))) λD=>(([]:List Nat)= []/\I (wrap .i64 (T+1)) D/\m (wrap .i64 (T+1)) D<m T H))) (λx=> ∃n' G j',Cc H C 0 (.L n' G j')/\ite (decide (f>((G:Nat):Int))) (([]:List Nat)= []/\x true H) (Hl H C 0 λr' _ u=>((0:Int)<=f/\f<=(u:Int))/\nZ Tryz.prog j #[.I T,.L (cE r' u 0 1) ((toNat f) - 0) (u - 0)] H λD' d'=> ∃(b':Bool),D'=.B b'/\([]:List Nat)= []/\x (!b') d')))/\(T=((3:Nat):Int)->aB (λ(w':Bool) k=>ite w' (R (.T #[]) k) (Hl k C 0 λA' Z Q=>((0:Int)<=g/\g<=(Z:Int))/\aO k (AA C 0) (.L (cE A' Q (toNat g) 1) (Z - (toNat g)) (Q - (toNat g))) λz=>(([]:List Nat)= []/\I (wrap .i64 (T+1)) z/\m (wrap .i64 (T+1)) z<m T H))) (λy=> ∃o' K k',Cc H C 0 (.L o' K k')/\ite (decide (g>((K:Nat):Int))) (([]:List Nat)= []/\y true H) (Hl H C 0 λs' _ v=>((0:Int)<=g/\g<=(v:Int))/\nZ Tryz.prog j #[.I T,.L (cE s' v 0 1) ((toNat g) - 0) (v - 0)] H λE' e'=> ∃(c':Bool),E'=.B c'/\([]:List Nat)= []/\y (!c') e')))/\True) (R (.T #[]) H)):Cl 107 #[.func (.yield j) #[] #[],.P i 0,.P C 0] h R:=ue (lq (bq (.loop [(7,.one (.int .i64))] (lq (sq (cq lf lf) (sq (bq (lq (sq (sq (.join [(23,.one (.bool))] lf) (cq lf lf)) lf))) lf)))))) Tryz.func107 rfl rfl (Eq.mp cZ hv)
def pF{M:Nat} (hv:aW h (.C #[.P M 0] 23) λB s'=>aW s' (.C #[.I s,.I S,.I b,.I c] 84) λm y'=>aW y' (.C #[.B false] 4) λf D'=>aW D' (.C #[.I 0] 3) λn E'=>aO E' (AA n 0) (.I 0) λi=>Hi i m 0 λF'=>Hi i m 1 λG'=>Hi i m 2 λH'=>Hi i m 3 λI'=>Cl 66 #[.L a l L,.agg #[.I F',.I G',.I H',.I I']] i λK' H=> ∃O,K'=O/\Td Tryz.prog (O) H (λrec C args E=> ∃T k t j,args= [.I T,.L k t j]/\Tk E (H.size+1) (rec .ready none)/\∀d,d=hN E (H.size+1) (rec .busy none)->aB (λ(e:Int) q=>ite (e !=0) (aO q (AA f 0) (.B false) λw=>(Tk w (H.size+1) (rec .busy none)/\C false (hN w (H.size+1) (rec .done (some .ret))))) (∃g',Cc q n 0 (.I g')/\aO q (AA n 0) (.I (wrap .i64 (g'+((t:Nat):Int)))) λx=>(Tk x (H.size+1) (rec .busy none)/\C true (hN x (H.size+1) (rec .ready none))))) (λj'=>aB (λ(o':Int) t'=>([]:List Nat)= []/\j' o' t') (λJ=>ite (T==0) (Hp d B 0 λP=>Cl 67 #[.L k t j] d λL' y=> ∃Q U,L'=.T #[.Q Q,.I U]/\Cc y B 0 (.Q P)/\aH P λk'=>aO y k' (.Q Q) λu'=>([]:List Nat)= []/\J U u') (aB (λ(p':Int) v'=>([]:List Nat)= []/\J p' v') (λr=>ite (T==1) (Hp d B 0 λV=>Cl 68 #[.L k t j] d λM' z=> ∃X Z,M'=.T #[.Q X,.I Z]/\Cc z B 0 (.Q V)/\aH V λl'=>aO z (l'.add 1) (.Q X) λw'=>([]:List Nat)= []/\r Z w') (aB (λ(q':Int) x'=>([]:List Nat)= []/\r q' x') (λu=>ite (T==2) (Hp d B 0 λa'=>Cl 69 #[.L k t j] d λO' A=> ∃b' c',O'=.T #[.Q b',.I c']/\Cc A B 0 (.Q a')/\aH a' λm'=>aO A (m'.add 2) (.Q b') λz'=>([]:List Nat)= []/\u c' z') (aB (λ(r':Int) A'=>([]:List Nat)= []/\u r' A') (λv=>ite (T==3) (Hp d B 0 λd'=>Cl 70 #[.L k t j] d λP' D=> ∃e' f',P'=.T #[.Q e',.I f']/\Cc D B 0 (.Q d')/\aH d' λn'=>aO D (n'.add 3) (.Q e') λB'=>([]:List Nat)= []/\v f' B') (([]:List Nat)= []/\v 0 d)))))))))) (Vj (λg=> ∃h',Cc g n 0 (.I h')/\ite (h'==(l:Int)) (Hp g B 0 λJ'=>Cl 36 #[.Q J'] g λQ' C'=> ∃i',Q'=.B i'/\aO C' (AA f 0) (.B i') λo=>o[H.size]? =some (.deferred (some []))/\∃F,aU (o.setIfInBounds H.size (.deferred none)) (AA f 0)=some (.B F)/\R (.B F) (o.setIfInBounds H.size (.deferred none))) (aO g (AA f 0) (.B false) λp=>p[H.size]? =some (.deferred (some []))/\∃I,aU (p.setIfInBounds H.size (.deferred none)) (AA f 0)=some (.B I)/\R (.B I) (p.setIfInBounds H.size (.deferred none)))) (λG=>G[H.size]? =some (.deferred (some []))/\∃K,aU (G.setIfInBounds H.size (.deferred none)) (AA f 0)=some (.B K)/\R (.B K) (G.setIfInBounds H.size (.deferred none))) (λ_ _=>False))):Cl 31 #[.P M 0,.L a l L,.agg #[.I s,.I S,.I b,.I c]] h R:=ue (lq (lq (sq (lq (bq (.scope 0 [(14,.one (.int .i64)),(15,.one (.slice))] ll (bq (lq (sq (lq (.join [(10,.one (.int .i64))] (bq (lq (.join [(10,.one (.int .i64))] (cq (pN 10) (lq (.join [(10,.one (.int .i64))] (cq (pN 10) (lq (.join [(10,.one (.int .i64))] (cq (pN 10) (lq (.join [(10,.one (.int .i64))] (cq (pN 10) lf))))))))))))))) (sq (lq (cq ll lf)) lf))))))) ll))) Tryz.func31 rfl rfl (Eq.mp cZ hv)
def DC (hv:ite ((l:Int)==0) (R (.T #[.Q none,.I 3]) h) (Bd 0 l/\aH a λG'=>lW h (G'.add (toNat 0*1)) λc9 c8 c7=>Cl 23 #[.L c9 c8 c7] h λg8 Q'=>Vp g8 λt=>Cl 25 #[.Q t] Q' λg9 X=>Vl g9 λd2 d1 d0=> ∃(p':cF),pV Tryz.prog 32 9 (.L d2 d1 d0) X p'/\Cl 24 #[.S p'] X λi0 a5=> ∃q' r' s' t' u' d3,i0=.T #[.agg #[.B q',.U r',.U s',.S t',.S u'],.I d3]/\aW a5 (.C #[.B false,.U 0,.U 0,.S (⟨#[]⟩:cF),.S (⟨#[]⟩:cF)] 29) λB a7=>av.ST a7 (AA B 0) q' r' s' t' u' λk'=>av.LD k' (AA B 0) λd4 d5 d6 d7 d8=>Cl 4 #[.agg #[.B d4,.U d5,.U d6,.S d7,.S d8]] k' λi4 l'=> ∃T v',i4=.T #[.Q T,.I v']/\ite (v' !=0) (R (.T #[.Q none,.I 3]) l') (Cl 26 #[.Q t] l' λi5 b0=>Vu i5 λd9=>Cl 27 #[.Q t] b0 λi6 b1=>Vi i6 λe0=>aH T λH'=>aO b1 (H'.add 6) (.U d9) λb2=>aH T λJ'=>aO b2 (J'.add 7) (.I e0) λu=>aB (λ(m':bZ) R'=>Cl 27 #[.Q t] R' λi7 S'=>Vi i7 λe5=>Cl 27 #[.Q t] S' λi8 T'=>Vi i8 λe6=>Cl 27 #[.Q t] T' λi9 U'=>Vi i9 λe7=>Cl 27 #[.Q t] U' λj0 V'=>Vi j0 λe8=>aW V' (.C #[.I 0,.I 0,.I 0,.I 0] 84) λj X'=>aO X' (AA j 0) (.I e5) λZ'=>aO Z' (AA j 1) (.I e6) λa0=>aO a0 (AA j 2) (.I e7) λa1=>aO a1 (AA j 3) (.I e8) λv=>aB (λ(f9:Bool) Z=>ite f9 (R (.T #[.Q none,.I 3]) Z) (aB (λ(g5:Bool) w=>ite g5 (R (.T #[.Q none,.I 3]) w) (aH T λK'=>AN w (K'.add 3) λg6=>Cl 32 #[.Q g6] w λh0 a2=>Vl h0 λg7 F' _=> ∃(I:kj)(mu:kG),I 0 a2/\∀k m,I k m->ite (decide (k<(F':Int))) (Bd k F'/\aH g7 λL'=>aF.LD m (L'.add (toNat k*4)) λb3 b4 b7 b6 b5 b8=>aW m (.C #[.I 0,.I 0,.Z,.U 0] 92) λo a3=>aF.ST a3 (AA o 0) b3 b4 b7 b6 b5 b8 λp=>aH T λM'=>AN p (M'.add 4) λb9=>Hi p o 1 λc0=>Hl p o 2 λc2 n' c1=>Cl 33 #[.Q b9,.I c0,.I (n':Int)] p λh1 q=>Vi h1 λc3=>Cc q o 2 (.L c2 n' c1)/\ite (c3 !=0) (R (.T #[.Q none,.I 3]) q) ((I (wrap .i64 (k+1)) q/\mu (wrap .i64 (k+1)) q<mu k m))) (Cl 9 #[.Q T] m λh2 a4=>Vl h2 λc6 c5 c4=>Cl 34 #[.L c6 c5 c4,.L a l L,.func (.func 35) #[] #[]] a4 λh3 a'=> ∃o',h3=.B o'/\ite (!o') (R (.T #[.Q none,.I 3]) a') (R (.T #[.Q T,.I 0]) a')))) (λr=>Cl 30 #[.Q t] Z λh4 H=> ∃E',h4=.I E'/\ite (E' !=0) (r true H) (aH T λO=> ∃K,aU H (O.add 6)=some (.U K)/\ite (decide (K>1099511627776)) (r true H) (((0:Int)<=1/\1<=(l:Int))/\Hi H j 0 λg0=>Hi H j 1 λg1=>Hi H j 2 λg2=>Hi H j 3 λg3=>Cl 31 #[.Q T,.L (cE a L (toNat 1) 1) (l - (toNat 1)) (L - (toNat 1)),.agg #[.I g0,.I g1,.I g2,.I g3]] H λh5 b'=>Vb h5 λg4=>aU b' (O.add 6)=some (.U K)/\r (!g4) b'))))) (λM=>aH m' λA=>ah.LD v A λy z C D E F G=>aH T λO'=>AN v (O'.add 5) λe9=>Cl 28 #[.Q e9] v λh6 n=> ∃x' y' z' A' B' C' D',h6=.agg #[.B x',.U y',.U z',.S A',.S B',.U C',.U D']/\cH A [.B y,.U z,.U C,.S D,.S E,.U F,.U G] 0 n/\∃(V:Bool),JS 68 (.agg #[.B y,.U z,.U C,.S D,.S E,.U F,.U G]) (.agg #[.B x',.U y',.U z',.S A',.S B',.U C',.U D']) V/\ite (!V) (aH T λP'=>AN n (P'.add 5) λf0=>aH m' λI'=>ah.LD n I' λf1 f2 f3 f4 f5 f6 f7=>Cl 29 #[.Q f0,.agg #[.B f1,.U f2,.U f3,.S f4,.S f5,.U f6,.U f7]] n λh7 c'=>Vi h7 λf8=>cH A [.B y,.U z,.U C,.S D,.S E,.U F,.U G] 0 c'/\M (f8 !=0) c') (M false n))) (λJ=>av.LD u (AA B 0) λd e f g i=>(Cl 26 #[.Q t] u λh8 x=>Vu h8 λw'=>cH (AA B 0) [.B d,.U e,.U f,.S g,.S i] 0 x/\(Cl 26 #[.Q t] x λh9 d'=>Vu h9 λe2=>cH (AA B 0) [.B d,.U e,.U f,.S g,.S i] 0 d'/\aW d' (.C #[.B false,.U 0,.U 0,.S (⟨#[]⟩:cF),.S (⟨#[]⟩:cF),.U 0,.U 0] 68) λP e'=>cH (AA B 0) [.B d,.U e,.U f,.S g,.S i] 0 e'/\ah.ST e' (AA P 0) d e f g i w' e2 λa6=>J (Sa P 0) a6)/\(aW x (.C #[.B false,.U 0,.U 0,.S (⟨#[]⟩:cF),.S (⟨#[]⟩:cF),.U 0,.U 0] 68) λQ f'=>cH (AA B 0) [.B d,.U e,.U f,.S g,.S i] 0 f'/\Cl 26 #[.Q t] f' λi1 g'=>Vu i1 λe3=>cH (AA B 0) [.B d,.U e,.U f,.S g,.S i] 0 g'/\ah.ST g' (AA Q 0) d e f g i w' e3 λa8=>J (Sa Q 0) a8)/\True)/\(aW u (.C #[.B false,.U 0,.U 0,.S (⟨#[]⟩:cF),.S (⟨#[]⟩:cF),.U 0,.U 0] 68) λU h'=>cH (AA B 0) [.B d,.U e,.U f,.S g,.S i] 0 h'/\Cl 26 #[.Q t] h' λi2 i'=>Vu i2 λe1=>cH (AA B 0) [.B d,.U e,.U f,.S g,.S i] 0 i'/\Cl 26 #[.Q t] i' λi3 j'=>Vu i3 λe4=>cH (AA B 0) [.B d,.U e,.U f,.S g,.S i] 0 j'/\ah.ST j' (AA U 0) d e f g i e1 e4 λa9=>J (Sa U 0) a9)/\True)))):Cl 8 #[.L a l L] h R:=aP [(27,.join [(9,sP)]),(27,λ_=> .ni (lO [0,1,3] (.alts (.fork 2 (.alts (.fork 4 (gB 3 5 .done) (.fork 6 (lO [4,5,7] .done) .hO))) (.fork 6 (lO [2,4,5,7] .done) .hO))))),(32,.join [(74,sB)]),(32,λ_=>pN 16),(40,.join [(92,sB)]),(40,λ_=>pN 18),(50,.loop [(99,sI)]),(62,λ_=>pN 11)] hv

end
section
open Go.fv
def _root_.Go.Den.nZ.mono{P:Program}{l:Nat}{args:Array Value}{h:aA}{R d:fp}(H:nZ P l args h R)(k: ∀v g,R v g->d v g):nZ P l args h d:=λw s=>by obtain⟨f,t,A,b,i,j⟩:=H w s;refine⟨f,t,A,b,i,λr m=>RoundIn.mono (j r m) ?_⟩;rintro e u ⟨v,rfl,q,o⟩;exact⟨v,rfl,k _ _ q,o⟩
def _root_.Go.Den.HC.swap{P P':Nat->aA->Ft->Prop}{h o:aA}{X Z:Ft}{j:Nat}(S:yo P)(H:HC P h X)(v:P' j o Z)(f:xX h Z o)(z: ∀i,i≠j->P' i=P i):
  ∃x,HC P' o x/\∀y,In x y->In X y\/h.size<=y:=by
 obtain⟨m,s,t,w,u⟩:=H;have O: ∀i y,i≠j->In (m i) y->¬In Z y:=λi y _ d g=>by have l:=S.lt (s i) y d;have:=f.ge y g;omega
 refine⟨⟨λy=> ∃i,(if i=j then Z else m i).M y,λy=> ∃i,(if i=j then Z else m i).D y⟩,⟨λi=>if i=j then Z else m i,λi=> ?_,λi k y r d g=> ?_,λ_=>eV,λ_=>eV⟩,λy d=> ?_⟩;show P' i o (if i=j then Z else m i);by_cases e:i=j;rw[ag e,e];exact v;rw[af e,z i e];exact S.frame (s i) f.fr (λy d A=>A);dsimp only at d g;by_cases e:i=j;rw[ag e]at d;rw[af (λq=>r (e.trans q.symm))]at g;exact O k y (λq=>r (e.trans q.symm)) g d;rw[af e]at d;by_cases E:k=j;rw[ag E]at g;exact O i y e d g;rw[af E]at g;exact t i k y r d g;have K: ∀i,In (if i=j then Z else m i) y->In X y\/h.size<=y:=λi A=>by by_cases e:i=j;rw[ag e]at A;exact .inr (f.ge y A);rw[af e]at A;exact .inl (A.imp (λb=>(w y).2 ⟨i,b⟩) (λb=>(u y).2 ⟨i,b⟩))
 rcases d with⟨i,A⟩|⟨i,A⟩;exact K i (.inl A);exact K i (.inr A)
namespace gg
variable {h : aA} {p : Option Addr} {l c : Nat} {xs : List BV}
def Rows.drop(H:Rows h p l c xs){n:Nat}(e:n<=l):Rows h (cE p c n 1) (l - n) (c - n) (xs.drop n):=by have d:=H.len;have r:=H.row.sub (l:=n) (u:=xs.length) (cap:=c) (sz:=1) ae (bN H.cap);rw[kQ ie 1 dZ,dA,kR ie 1 dZ]at r;exact⟨by rw[cR];omega,r,bN H.cap,λx b=>H.each x (List.mem_of_mem_drop b)⟩
def Rows.take(H:Rows h p l c xs){n:Nat}(e:n<=l):Rows h (cE p c 0 1) (n - 0) (c - 0) (xs.take n):=by have d:=H.len;have r:=H.row.sub (l:=0) (u:=n) (cap:=c) (sz:=1) ae (bN H.cap);rw[kQ ie 1 dZ,Nat.zero_mul,gK]at r;exact⟨by rw[bT];omega,r,bN H.cap,λx b=>H.each x (List.mem_of_mem_take b)⟩
end gg
namespace dV
variable {h h0 : aA} {R : Value → aA → Prop} {p : Option Addr} {l c a C : Nat} {xs : List BV} {n : Nat → Nat}
def Wi{q:Prop}[Decidable q]{A B:Prop}(H:q->A)(b: ¬q->B):if q then A else B:=by by_cases h:q;rw[ag h];exact H h;rw[af h];exact b h
def Pt.swap{h o q:aA}{s j:Nat}{X Z:Ft}{I k:oF}{m g:SS}(H:Pt h s X I m)(P:j≠6)(J:part g k s j o Z)(f:xX h Z o)(F: ∀i,i≠j->i≠6->part g k s i=part m I s i)(b:Bk q s k g.now g.rf)(L:q.size=o.size)(K: ∀x,x≠s->q[x]? =o[x]?): ∃t,Pt q s t k g/\∀y,In t y->In X y\/h.size<=y:=by
 obtain⟨B,w,M⟩:=HC.swap (P':=λi=>if i=6 then part m I s 6 else part g k s i) (part.st m I s) H (by rw[af P];exact J) f (λi r=>by by_cases e:i=6;rw[ag e,e];rw[af e];exact F i r e);have T:yo (λi=>if i=6 then part m I s 6 else part g k s i):=by refine⟨fun {i h X} d y hy=> ?_,fun {i h h' X Q} d f v=> ?_,fun {i h X} d y A b=> ?_⟩;split at d;exact(part.st m I s).lt d y hy;exact(part.st g k s).lt d y hy;split at d;rename_i e;rw[ag e];exact(part.st m I s).frame d f v;rename_i e;rw[af e];exact(part.st g k s).frame d f v;split at d;exact(part.st m I s).xY d y A b;exact(part.st g k s).xY d y A b
 obtain⟨E,u,m6,V,go⟩:=HC.use T w 6;rw[ag rfl]at u;obtain⟨U,O⟩:=u;obtain⟨D,z,S,_,a'⟩:=go q E (part g k s) ⟨b,O⟩ ⟨Fr.of_eq L (λc G=>K c (λe=>G ((O c).1.2 e))),λ_=> .inl,λ_=> .inl,λ_=>id⟩ (λi r=>by rw[af r]);refine⟨D,z,λy hy=> ?_⟩;have:In B y\/o.size<=y:=by rcases hy with hy|hy;exact(S.iA y hy).imp .inl id;exact(S.jF y hy).imp .inr id
 rcases this with A|A;exact M y A;have:=f.fr.1;exact .inr ae
def off(n:Nat->Nat):Nat->Nat
 |0=>0
 |i+1=>off n i+n i
def Yy(h0 g:aA)(C c:Nat)(xs:List BV)(o:Nat):Prop:= ∃p,g[C]? =some (.cells #[.slice p (xs.length - o) (c - o)] 39 (0,0))/\o<=xs.length/\gg.Rows h0 p (xs.length - o) (c - o) (xs.drop o)
def Te{g:aA}{o m:Nat}(e:o<=xs.length)(H:gg.Rows h0 p (xs.length - o) (c - o) (xs.drop o))(b:m<=xs.length - o)(d:g[C]? =some (.C #[.L (cE p (c - o) m 1) (xs.length - o - m) (c - o - m)] 39 (0,0))):Yy h0 g C c xs (o+m):=by have r:=H.drop b;rw[List.drop_drop,show xs.length - o - m=xs.length - (o+m) by omega,show c - o - m=c - (o+m) by omega]at r;rw[show xs.length - o - m=xs.length - (o+m) by omega,show c - o - m=c - (o+m) by omega]at d;exact⟨_,d,ae,r⟩
def Qn{St:Nat->dw}{L:Nat}(f:h[a]? =some (.C #[.I ((n 0:Nat):Int),.I ((n 1:Nat):Int),.I ((n 2:Nat):Int),.I ((n 3:Nat):Int)] 84 (0,0)))(B:Yy h0 h C c xs 0)(A:St 0 h)(M: ∀i g G,St i g->G.size=g.size->(∀y,y≠C->G[y]? =g[y]?)->St i G)(O: ∀i g P o,i<4->St i g->off n i+n i<=xs.length->gg.Rows h0 P (n i) o ((xs.drop (off n i)).take (n i))->
   nZ Tryz.prog L #[.I (i:Int),.L P (n i) o] g λv G=> ∃b,v=.B b/\G[C]? =g[C]? /\(if b=true then St (i+1) G else R (.T #[]) G))(x: ∀g,St 4 g->R (.T #[]) g)(F: ∀i g,i<4->St i g->xs.length<off n i+n i->R (.T #[]) g):
  Cl 107 #[.func (.yield L) #[] #[],.P a 0,.P C 0] h R:=by
 refine wT ⟨_,ai f,_,ai f,_,ai f,_,ai f,?_⟩;refine⟨λt g=> ∃i:Nat,t=(i:Int)/\i<=4/\St i g/\Yy h0 g C c xs (off n i),λt _=>4 - t.toNat,⟨0,rfl,ae,A,B⟩,?_⟩;rintro _ g ⟨i,rfl,S,m,P,j,I,k⟩;by_cases q:i<4
 .rw[gH];refine⟨ae,λe=> ?_,λe=> ?_,λe=> ?_,λe=> ?_,trivial⟩;all_goals
   have E:=Int.ofNat.inj e;clear e;subst E;refine aB.of λJ r=>⟨_,_,_,ai j,?_⟩;have Q:=k.cap
  all_goals
   rw[aK];refine Wi (λH=>⟨rfl,?_⟩) (λH=>⟨_,_,_,ai j,⟨ae,?_⟩,nZ.mono (O _ g _ _ q m ?_ (k.take ?_)) ?_⟩);subst r;dsimp only;rw[ag rfl];exact F _ g q m (bN (bk H));have H: ¬_:=λe=>H (aC e);omega;have H: ¬_:=λe=>H (aC e);omega;have H: ¬_:=λe=>H (aC e);omega;have H: ¬_:=λe=>H (aC e);rintro v G ⟨b,rfl,K,d⟩;refine⟨b,rfl,rfl,?_⟩;subst r;dsimp only;cases b with
   |false=>rw[ag (by rfl)];rw[dz]at d;exact d
   |true=>rw[dz];rw[ag rfl]at d;have s:=K.trans j;refine⟨_,_,_,ai s,ae,bf s Nat.zero_lt_one λz D u w=>⟨rfl,⟨_,by rw[fc];rfl,ae,M _ G z d u w,?_⟩,?_⟩⟩;rw[aK]at D;exact Te I k (Int.ofNat_le.1 (Int.not_lt.1 H)) D;rw[fc];show 4 - Int.toNat (_+1)<4 - Int.toNat _;omega
 rw[af (by intro e;have:=bk e;omega)];obtain rfl:i=4:=ae
 exact x g m
end dV
end
section
open Go.fv
namespace dV
variable {h H g d:aA} {R:fp} {p:bZ} {s n j t o:Nat} {X Z:Ft} {I:oF} {a i Tf:SS} {f:Loop} {r:Bool}
structure Ow (H g:aA) (s n:Nat) (r:Bool) (o:Nat) (f:Loop) (X:Ft):Prop where
 gb:g[n]? =some (.cells #[pt s] 23 (0,0))
 g2:g[n+2]? =some (.cells #[.bool r] 4 (0,0))
 g3:g[n+3]? =some (.cells #[.int .i64 (o:Int)] 3 (0,0))
 gd:g[n+6]? =some (.deferred (some []))
 gl:g[n+7]? =some (.loop f)
 ap: ∀y,In X y->(y<n\/n+8<=y)/\H.size<=y
 up:Fr No H g
 hn:H.size<=n
 sn:s<n
def Tg(I:oF)(j t:Nat):oF:=match j with
 |0=> { I with t:=t }
 |1=> { I with r:=t }
 |2=> { I with c:=t }
 |_=> { I with o:=t }
theorem arm(v:Pt g s X I i)(A:Ow H g s n r o f X)(hj:j<4)(F:xX g Z d)(T:part Tf (Tg I j t) s j d Z)(M: ∀u,u≠j->u≠6->part Tf (Tg I j t) s u=part i I s u)(B:Tf.now=i.now/\Tf.rf=i.rf){K:dw}(O: ∀b q,Pt b s q (Tg I j t) Tf->Ow H b s n r o f q->b[n+4]? =g[n+4]? ->K b):aO d (AA s j) (pt t) K:=by
 have E:=F.fr.get v.cN id;have b':=aD A.gl;refine bf E (by grind) λb G z D=> ?_;have J:Bk b s (Tg I j t) Tf.now Tf.rf:=by show b[s]? =_;rw[G,B.1,B.2];rcases j with _|_|_|_|j<;>first|rfl|omega
 obtain⟨q,C,U⟩:=v.swap ae T F M J z D;have m: ∀y,n<=y->y<n+8->b[y]? =g[y]? :=λy w a'=>by have:=A.sn;rw[D y ae];exact F.fr.2 y ae id
 have V:Fr No H b:=(A.up.tt F.fr).fresh (Fr.of_eq (S:=λy=>y=s) z D) (λy e=>by rw[e];obtain⟨Y,Q,_,P,_⟩:=v;exact(A.ap s (.inl ((P s).2 ⟨6,((Q 6).2 s).1.2 rfl⟩))).2);refine O b q C ⟨?_,?_,?_,?_,?_,λy S=> ?_,V,A.hn,A.sn⟩ (m _ ae ae);rw[m _ ae ae];exact A.gb;rw[m _ ae ae];exact A.g2;rw[m _ ae ae];exact A.g3;rw[m _ ae ae];exact A.gd;rw[m _ ae ae];exact A.gl;have:=A.up.1;rcases U y S with w|w;exact A.ap y w;omega
def uf(a:SS)(b:Nat):SS:= { a with A:=if 1<=b then a.A else [],G:=if 2<=b then a.G else [],C:=if 3<=b then a.C else(GS a.e).C,B:=if 4<=b then a.B else(GS a.e).B,Q:= [] }
def eW(a:SS):Nat->Nat
 |0=>(eM.kf a.A).length
 |1=>(a.G.map fE.kC).length
 |2=>(gi.iX a.C).length
 |3=>(gI.iE a.B).length
 |_=>0
def Ow.loop{rc':Loop}{o':Nat}(A:Ow H g s n r o f X){g':aA}(v:g'.size=g.size)(q:g'[n+3]? =some (.C #[.I (o':Int)] 3 (0,0)))(u:g'[n+7]? =some (.loop rc'))(b: ∀y,y≠n+3->y≠n+7->g'[y]? =g[y]?):Ow H g' s n r o' rc' X:=by refine⟨?_,?_,q,?_,u,A.ap,?_,A.hn,A.sn⟩;rw[b _ ae ae];exact A.gb;rw[b _ ae ae];exact A.g2;rw[b _ ae ae];exact A.gd;refine A.up.fresh (Fr.of_eq (S:=λy=>y=n+3\/y=n+7) v (λc m=>b c (λe=>m (.inl e)) (λe=>m (.inr e)))) (λy w=> ?_);have:=A.hn;rcases w with e|e<;>omega
def JO(m:Pt g s X I a)(A:Ow H g s n r o f X){g':aA}(u:g'.size=g.size)(q: ∀y,y≠n+3->y≠n+7->g'[y]? =g[y]?):Pt g' s X I a:=
 m.frame (Q:=λy=>y=n+3\/y=n+7) (Fr.of_eq u (λc b=>q c (λe=>b (.inl e)) (λe=>b (.inr e)))) (λy v e=>by have:=(A.ap y v).1;rcases e with e|e<;>omega)
def Ow.other(A:Ow H g s n r o f X){G:aA}(m:G.size=g.size)(b: ∀y,y≠n+4->G[y]? =g[y]?):Ow H G s n r o f X:=by refine⟨?_,?_,?_,?_,?_,A.ap,?_,A.hn,A.sn⟩;rw[b _ ae];exact A.gb;rw[b _ ae];exact A.g2;rw[b _ ae];exact A.g3;rw[b _ ae];exact A.gd;rw[b _ ae];exact A.gl;refine A.up.fresh (Fr.of_eq m (λc e=>b c e)) (λy q=> ?_);have:=A.hn;omega
def LQ{b:Nat}(m:Pt g s X I a)(A:Ow H g s n r o f X)(z:n<=b/\b<n+8){G:aA}(v:G.size=g.size)(u: ∀y,y≠b->G[y]? =g[y]?):Pt G s X I a:=
 m.frame (Fr.of_eq v (λc q=>u c q)) (λy w e=>bN ((A.ap y w).1))
theorem UK{m:Type}{P Q S x:List m}{o b:Nat}(e:x=P++(Q++S))(u:o=P.length)(q:b=Q.length):(x.drop o).take b=Q:=by grind
def JP{g:aA}{b:Nat}{o:Obj}(e:b<g.size):(g.setIfInBounds b o)[b]? =some o:=by simp[e]
def oa{g:aA}{b y:Nat}{o:Obj}(m:y≠b):(g.setIfInBounds b o)[y]? =g[y]? :=Array.getElem?_setIfInBounds_ne (λe=>m e.symm)
variable {x : List BV} {l c k : Nat} {L : List Go.jD.E}
def JQ(z:Pt h s X I (uf a 0))(k':xX H X h)(o':gg.Rows H p l c x)(hl:l<=1000)(C':eM.lF a.A)(tb:jS.nE H)(mx:jS.Mx H)(u':gi.Good a.C k)(A':k<=30000)(s':gI.okB a.B L)(hB:a.B.next<=1000000000)(so:(a.C.L.map gi.Cp.num).Pairwise (· < ·))(x':gi.Ord a.C)(hx:x.map BV.b=rL a)(gs:a.G.Pairwise fE.kW)(ga: ∀D'∈a.G,fE.Oe D')(g8:a.G.length<=8)(k1: ∀h' X' I',Pt h' s X' I' (uf a 4)->xX H X' h'->R (.B true) h'):
  Cl 31 #[pt s,.L p l c,.agg #[.I ((eW a 0:Nat):Int),.I ((eW a 1:Nat):Int),.I ((eW a 2:Nat):Int),.I ((eW a 3:Nat):Int)]] h R:=by
 obtain rfl:=o'.len;have sX:In X s:=by obtain⟨Y,hp,_,hm,_⟩:=z;exact .inl ((hm s).2 ⟨6,((hp 6).2 s).1.2 rfl⟩)
 have sn:s<h.size:=z.lt s sX;refine pF (cg (cg (cg (cg (kH cW ?_)))));obtain⟨B,E⟩: ∃B,B=(((h.push (.C #[pt s] 23)).push (.C #[.I ((eW a 0:Nat):Int),.I ((eW a 1:Nat):Int),.I ((eW a 2:Nat):Int),.I ((eW a 3:Nat):Int)] 84)).push (.C #[.B false] 4)).push (.C (#[Value.I 0].setIfInBounds 0 (.I 0)) 3 (0,0)):=⟨_,rfl⟩;have d':B.size=h.size+4:=by rw[E];simp
 have a0:B[h.size]? =some (.C #[pt s] 23 (0,0)):=by rw[E];simp only[dh,cI];repeat (first|rfl|rw[ag rfl]|rw[dz])
 have a1:B[h.size+1]? =some (.C #[.I ((eW a 0:Nat):Int),.I ((eW a 1:Nat):Int),.I ((eW a 2:Nat):Int),.I ((eW a 3:Nat):Int)] 84 (0,0)):=by rw[E];simp only[dh,cI];repeat (first|rfl|rw[ag rfl]|rw[dz])
 have a2:B[h.size+2]? =some (.C #[.B false] 4 (0,0)):=by rw[E];simp only[dh,cI];repeat (first|rfl|rw[ag rfl]|rw[dz])
 have a3:B[h.size+3]? =some (.C #[.I 0] 3 (0,0)):=by rw[E];simp only[dh,cI];repeat (first|rfl|rw[ag rfl]|rw[dz])
 have f5:Fr No h B:=by rw[E];exact(((Fr.push _ _).tt (Fr.push _ _)).tt (Fr.push _ _)).tt (Fr.push _ _)
 rw[<-E];simp only[cI];clear E;refine⟨_,ai a1,_,ai a1,_,ai a1,_,ai a1,Cs (cg (cg ⟨_,rfl,?_⟩))⟩;obtain⟨n,eN⟩: ∃n,n=h.size:=⟨_,rfl⟩;rw[<-eN]at d' a0 a1 a2 a3 sn⊢;obtain⟨D,T⟩: ∃D,D=(B.push (.C #[.L p x.length c] 39)).push (.C #[.I ((eW a 0:Nat):Int),.I ((eW a 1:Nat):Int),.I ((eW a 2:Nat):Int),.I ((eW a 3:Nat):Int)] 84):=⟨_,rfl⟩;have j':D.size=n+6:=by rw[T];simp[d']
 have b4:D[n+4]? =some (.C #[.L p x.length c] 39 (0,0)):=by rw[T];simp only[dh,cI,d'];repeat (first|rfl|rw[ag rfl]|rw[dz])
 have b5:D[n+5]? =some (.C #[.I ((eW a 0:Nat):Int),.I ((eW a 1:Nat):Int),.I ((eW a 2:Nat):Int),.I ((eW a 3:Nat):Int)] 84 (0,0)):=by rw[T];simp only[dh,cI,d'];repeat (first|rfl|rw[ag rfl]|rw[dz])
 have f6:Fr No B D:=by rw[T];exact(Fr.push _ _).tt (Fr.push _ _)
 rw[<-T];simp only[cI,d'];clear T;refine⟨107,_,rfl,cZ,λrec K' n'=> ?_⟩;rw[j']at n'⊢;obtain⟨P,e7⟩: ∃P,P=Ov D (rec .ready none):=⟨_,rfl⟩;have b6:P[n+6]? =some (.deferred (some [])):=by rw[e7];simp only[Ov,dh,cI,j'];repeat (first|rfl|rw[ag rfl]|rw[dz])
 have b7:P[n+7]? =some (.loop (rec .ready none)):=by rw[e7];simp only[Ov,dh,cI,j'];repeat (first|rfl|rw[ag rfl]|rw[dz])
 have V:Fr No D P:=by rw[e7];exact(Fr.push _ _).tt (Fr.push _ _)
 rw[<-e7];clear e7;have ff:=f5.tt (f6.tt V);have H':=k'.fr.1;have A0:Ow H P s n false 0 (rec .ready none) X:=⟨(f6.tt V).get a0 id,(f6.tt V).get a2 id,(f6.tt V).get a3 id,b6,b7,λy hy=>⟨.inl (by rw[eN];exact z.lt y hy),k'.ge y hy⟩,k'.fr.tt ff,ae,sn⟩;show Cl 107 #[.func (.yield (n+6+1)) #[] #[],.Q (some ⟨n+5,0,none⟩),.Q (some ⟨n+4,0,none⟩)] P _;have xp:off (eW a) 4=x.length:=by rw[<-aw BV.b,hx];unfold rL;simp only[aq,off,eW];omega
 have L':0+eW a 0+eW a 1+eW a 2+eW a 3=x.length:=xp;refine Qn (h0:=H) (n:=eW a) (xs:=x) (c:=c) (St:=λq g=> ∃X I,Pt g s X I (uf a q)/\Ow H g s n false (off (eW a) q) (rec .ready none) X) (V.get b5 id) ⟨p,V.get b4 id,bK _,o'⟩ ⟨X,I,z.on ff,A0⟩ ?_ ?_ ?_ ?_;rintro q g g' ⟨X,I,z,A⟩ e1 e2;exact⟨X,I,LQ z A ae e1 e2,A.other e1 e2⟩
 .rintro q g p' c' hi ⟨X,I,z,A⟩ B' f';refine nZ.mono (n' [.I (q:Int),.L p' (eW a q) c'] g (λb g'=>g'[n+4]? =g[n+4]? /\if b=true then∃X I,Pt g' s X I (uf a (q+1))/\Ow H g' s n false (off (eW a) (q+1)) (rec .ready none) X else False) A.gl ?_) (λM' g' ⟨b,e,d,w⟩=>⟨b,e,d,by
   cases b with
   |true=>exact w
   |false=>exact w.elim⟩)
  refine⟨_,_,_,_,rfl,A.gl,λh8 e8=> ?_⟩;have l':=aD A.gl;have u:=A.loop (g':=hN g (n+7) (rec .busy none)) (rc':=rec .busy none) (o':=off (eW a) q) (by simp[hN]) (by rw[oa ae];exact A.g3) (JP l') (λy _ h=>oa h);have H8:=JO z A (g':=hN g (n+7) (rec .busy none)) (by simp[hN]) (λy _ h=>oa h);have c8:(hN g (n+7) (rec .busy none))[n+4]? =g[n+4]? :=oa ae;have m':h8=hN g (n+7) (rec .busy none):=e8;clear e8;rw[<-m']at u H8 c8;clear m';refine aB.of λw' hJ=> ?_;have done: ∀O X9 I9,Pt O s X9 I9 (uf a (q+1))->Ow H O s n false (off (eW a) q) (rec .busy none) X9->O[n+4]? =h8[n+4]? ->w' 0 O:=by intro O X9 I9 H9 v c9;subst hJ;dsimp only;rw[dz];refine⟨_,ai v.g3,bf v.g3 (by show 0<1;omega) λa' d1 d2 S=> ?_⟩;have q':a'[n+7]? =some (.loop (rec .busy none)):=(S _ ae).trans v.gl;have G':=aD q';rw[fc]at d1;have ho: ∀y,y≠n+3->y≠n+7->(hN a' (n+7) (rec .ready none))[y]? =O[y]? :=λy y' b=>(oa b).trans (S y y');refine⟨q',?_,?_⟩;exact(ho _ ae ae).trans (c9.trans c8);rw[ag rfl];refine⟨X9,I9,JO H9 v (by simp[hN,d2]) ho,v.loop (by simp[hN,d2]) ?_ (JP G') ho⟩;rw[oa ae,d1];rfl
  have e': ∀(j:Nat),j<4->q=j->∀t,∀m,m≠j->m≠6->part (uf a (j+1)) (Tg I j t) s m=part (uf a j) I s m:=λj hj _ t m d w=>by
   rcases j with _|_|_|_|j
   .rcases m with _|_|_|_|_|_|_|m<;>first|rfl|exact absurd rfl d|exact absurd rfl w
   .rcases m with _|_|_|_|_|_|_|m<;>first|rfl|exact absurd rfl d|exact absurd rfl w
   .rcases m with _|_|_|_|_|_|_|m<;>first|rfl|exact absurd rfl d|exact absurd rfl w
   .rcases m with _|_|_|_|_|_|_|m<;>first|rfl|exact absurd rfl d|exact absurd rfl w
   omega
  have e4:((x.drop (off (eW a) q)).take (eW a q)).map BV.b=((rL a).drop (off (eW a) q)).take (eW a q):=by rw[List.map_take,List.map_drop,hx]
  have t':=tb.on u.up;have r':=mx.on u.up;rcases q with _|_|_|_|q
  .refine aB.of λJ1 Q=> ?_;rw[ag (by rfl)];have ec:=e4.trans (UK (P:= []) (Q:=eM.kf a.A) rfl rfl rfl);have r8:=f'.on u.up;refine⟨_,ai u.gb,eM.SV ⟨r8.len,r8.row,r8.cap,r8.each⟩ C' ec λd t Z K U=>⟨_,_,rfl,U.fr.cell (ai u.gb) id,ar.2 (arm H8 u (Tf:=uf a 1) (t:=t) (j:=0) ae U K (e' 0 ae rfl t) ⟨rfl,rfl⟩ λw M J G C=>⟨trivial,?_⟩)⟩⟩;subst Q;exact⟨trivial,done w M _ J G C⟩
  .refine aB.of λJ1 Q=> ?_;rw[dz];refine aB.of λJ2 b'=> ?_;rw[ag (by rfl)];refine⟨_,ai u.gb,fE.tJ (rs:=a.G) (f'.on u.up) (e4.trans (UK (P:=eM.kf a.A) (Q:=a.G.map fE.kC) rfl (bj _) rfl)) gs ga g8 t' r' (λd t Z K U=>⟨_,_,rfl,U.fr.cell (ai u.gb) id,ar.2 (arm H8 u (Tf:=uf a 2) (t:=t) (j:=1) ae U K (e' 1 ae rfl t) ⟨rfl,rfl⟩ λw M J G C=>⟨trivial,?_⟩)⟩)⟩;subst b';refine⟨trivial,?_⟩;subst Q;exact⟨trivial,done w M _ J G C⟩
  .refine aB.of λJ1 Q=> ?_;rw[dz];refine aB.of λJ2 b'=> ?_;rw[dz];refine aB.of λJ3 i'=> ?_;rw[ag (by rfl)];have ec:((x.drop (off (eW a) 2)).take (eW a 2)).map BV.b=gi.nI a.C::a.C.L.map gi.recC:=e4.trans (UK (P:=eM.kf a.A++a.G.map fE.kC) (Q:=gi.iX a.C) (S:=gI.iE a.B) (by unfold rL;rw[cu]) (by rw[aq];show 0+_+_=_;rw[bj];rfl) rfl);refine⟨_,ai u.gb,gi.tJ (s:=a.C) (f'.on u.up) ec u' so x' A' (by show(gi.iX a.C).length<=_;have J':off (eW a) 2+(gi.iX a.C).length<=x.length:=B';omega) t' r' (λd t Z K U=>⟨_,_,rfl,U.fr.cell (ai u.gb) id,ar.2 (arm H8 u (Tf:=uf a 3) (t:=t) (j:=2) ae U K (e' 2 ae rfl t) ⟨rfl,rfl⟩ λw M J G C=>⟨trivial,?_⟩)⟩)⟩;subst i';refine⟨trivial,?_⟩;subst b';refine⟨trivial,?_⟩;subst Q;exact⟨trivial,done w M _ J G C⟩
  .refine aB.of λJ1 Q=> ?_;rw[dz];refine aB.of λJ2 b'=> ?_;rw[dz];refine aB.of λJ3 i'=> ?_;rw[dz];refine aB.of λJ4 z'=> ?_;rw[ag (by rfl)];have ec:((x.drop (off (eW a) 3)).take (eW a 3)).map BV.b=gI.iE a.B:=e4.trans (UK (P:=eM.kf a.A++(a.G.map fE.kC++gi.iX a.C)) (Q:=gI.iE a.B) (S:= []) (by unfold rL;simp only[cu,fy]) (by simp only[aq];show 0+_+_+_=_;rw[bj,Nat.add_assoc];rfl) rfl);refine⟨_,ai u.gb,gI.tJ (s:=a.B) (f'.on u.up) s' hB (by show(gI.iE a.B).length<=_;have:=s'.le;unfold gI.iE;simp only[ba,aw];omega) ec (λd t Z K U=>⟨_,_,rfl,U.fr.cell (ai u.gb) id,ar.2 (arm H8 u (Tf:=uf a 4) (t:=t) (j:=3) ae U K (e' 3 ae rfl t) ⟨rfl,rfl⟩ λw M J G C=>⟨trivial,?_⟩)⟩)⟩;subst z';refine⟨trivial,?_⟩;subst i';refine⟨trivial,?_⟩;subst b';refine⟨trivial,?_⟩;subst Q;exact⟨trivial,done w M _ J G C⟩
  omega
 rintro g ⟨X,I,z,A⟩;refine⟨.ready,none,cW,A.gl,?_⟩;show∃E',_;have l':=aD A.gl;have v:=A.loop (g':=hN g (n+7) (rec .exhausted none)) (rc':=rec .exhausted none) (o':=off (eW a) 4) (by simp[hN]) (by rw[oa ae];exact A.g3) (JP l') (λy _ h=>oa h);have H9:=JO z A (g':=hN g (n+7) (rec .exhausted none)) (by simp[hN]) (λy _ h=>oa h);show∃E',aU (hN g (n+7) (rec .exhausted none)) _=_/\_;generalize hN g (n+7) (rec .exhausted none)=O at v H9⊢;have z9:=aD v.gd;refine⟨_,ai v.g3,?_⟩;rw[ag (by rw[xp];simp)];refine⟨_,ai v.gb,gh H9.cN ⟨_,rfl,bf v.g2 (by show 0<1;omega) λa' d1 d2 S=> ?_⟩⟩;have v':=LQ H9 v (b:=n+2) ae d2 S;have C:(a'.setIfInBounds (n+6) (.deferred none))[n+2]? =a'[n+2]? :=oa ae;have F':Fr No H (a'.setIfInBounds (n+6) (.deferred none)):=(v.up.fresh (Fr.of_eq (S:=λy=>y=n+2) d2 (λc hc=>S c hc)) (λy e=>bN v.hn)).fresh (Fr.of_eq (S:=λy=>y=n+6) bt (λc hc=>oa hc)) (λy e=>bN v.hn);exact⟨(S _ ae).trans v.gd,_,ai (C.trans d1),k1 _ X I (v'.frame (Q:=λy=>y=n+6) (Fr.of_eq bt (λc hc=>oa hc)) (λy hy e=>bN ((v.ap y hy).1))) ⟨F',λy hy=>(v.ap y hy).2⟩⟩;rintro q g hi _ F;exfalso;rcases q with _|_|_|_|q;have F:x.length<0+eW a 0:=F;omega;have F:x.length<0+eW a 0+eW a 1:=F;omega;have F:x.length<0+eW a 0+eW a 1+eW a 2:=F;omega;have F:x.length<off (eW a) 4:=F;omega;omega
end dV
end
section
open Go.fv
namespace dV
open gg ju
variable {h H g b:aA} {R:fp} {p:bZ} {s j t l c k:Nat} {X Z:Ft} {I:oF} {σ:SS} {x:List BV} {L:List Go.jD.E}
variable {a:List gI.It}
def Yz(e:Ev)(a B c d:Int):Ox Tryz.prog 68 (.agg #[.B e.jY,.U e.node,.U e.fK,.S e.host,.S e.jl,.U a,.U B]) (.agg #[.B e.jY,.U e.node,.U e.fK,.S e.host,.S e.jl,.U c,.U d]) (a==c && B==d):=by
 have q:(Wo e e && (a==c && (B==d && true)))=(a==c && B==d):=by rw[NL];simp
 rw[<-q];exact Ox.of (by rfl)
def tl(σ:SS)(i:Nat):cQ:=match i with
 |0=>bm σ.now++(bm σ.rf++(bm σ.tm++(bm σ.sq++(bm (eM.kf σ.A).length++(bm (σ.G.map fE.kC).length++(bm (gi.iX σ.C).length++bm (gI.iE σ.B).length))))))
 |1=>bm σ.rf++(bm σ.tm++(bm σ.sq++(bm (eM.kf σ.A).length++(bm (σ.G.map fE.kC).length++(bm (gi.iX σ.C).length++bm (gI.iE σ.B).length)))))
 |2=>bm σ.tm++(bm σ.sq++(bm (eM.kf σ.A).length++(bm (σ.G.map fE.kC).length++(bm (gi.iX σ.C).length++bm (gI.iE σ.B).length))))
 |3=>bm σ.sq++(bm (eM.kf σ.A).length++(bm (σ.G.map fE.kC).length++(bm (gi.iX σ.C).length++bm (gI.iE σ.B).length)))
 |4=>bm (eM.kf σ.A).length++(bm (σ.G.map fE.kC).length++(bm (gi.iX σ.C).length++bm (gI.iE σ.B).length))
 |5=>bm (σ.G.map fE.kC).length++(bm (gi.iX σ.C).length++bm (gI.iE σ.B).length)
 |6=>bm (gi.iX σ.C).length++bm (gI.iE σ.B).length
 |_=>bm (gI.iE σ.B).length
def LR:x4 σ=cX (fW σ.e)++tl σ 0:=by unfold x4 tl;simp only[cu]
def Qo(d:(fW σ.e).length<=100000000):(x4 σ).length<=200000200:=by
 rw[LR];unfold tl;simp only[aq];have:(cX (fW σ.e)).length<=100000010:=by unfold cX;rw[aq];have:=bw (fW σ.e).length;omega
 have e:=λn=>(bw n).2;have:=e σ.now;have:=e σ.rf;have:=e σ.tm;have:=e σ.sq;have:=e (σ.G.map fE.kC).length;have:=e (gi.iX σ.C).length;have:=e (eM.kf σ.A).length;have:=e (gI.iE σ.B).length;omega
def Zf(G:Good σ k):fb 0 (tl σ 0)=(σ.now,0,tl σ 1):=by have:=G.n;exact iW ae _
def Zg(G:Good σ k)(d:k<=30000):gV 0 (tl σ 1)=(σ.rf,0,tl σ 2):=by have:=G.r;exact gA ae cW _
def YP(G:Good σ k):fb 0 (tl σ 2)=(σ.tm,0,tl σ 3):=by have:=G.t;exact iW ae _
def YA(G:Good σ k):fb 0 (tl σ 3)=(σ.sq,0,tl σ 4):=by have:=G.t;exact iW ae _
def Zh(h:(eM.kf σ.A).length<=1000000):gV 0 (tl σ 4)=((eM.kf σ.A).length,0,tl σ 5):=gA ae cW _
def Zi(h:(σ.G.map fE.kC).length<=1000000):gV 0 (tl σ 5)=((σ.G.map fE.kC).length,0,tl σ 6):=gA ae cW _
def Zj(h:(gi.iX σ.C).length<=1000000):gV 0 (tl σ 6)=((gi.iX σ.C).length,0,tl σ 7):=gA ae cW _
def Zk(h:(gI.iE σ.B).length<=1000000):gV 0 (tl σ 7)=((gI.iE σ.B).length,0, []):=by have b:=gA (top:=1099511627776) (n:=(gI.iE σ.B).length) ae cW [];rw[fy]at b;exact b
theorem tX.pre{B:List gI.It}(o:tX (a++B)):tX a:=by
 induction B with
 |nil=>grind
 |cons d B i=>exact i (o.perm List.perm_middle).sub
def Th{d:gI.It}(o:tX (a++ [d]))(q:Xv d):wJ a d.owner d.d.length=true:=by have⟨_,_,_,_,f,e⟩:=o;have e:=(e d.owner).2;rw[Fs,jA]at f;rw[MO,nC,ag rfl]at e;have T:xp []=0:=rfl;have O:own [] d.owner=0:=rfl;exact oi.Le.2 ⟨⟨q.2.2.1,q.2.2.2,ae⟩,ae,ae⟩
def Qp(G:Good σ k): { uf σ 4 with Q:=σ.B.items } =σ:=by have⟨A,g,C,B,Q,e,T,sq,n,r⟩:=σ;have q:Q=B.items:=G.q;subst q;rfl
def UL{d i:SS}(y':d.Q= [])(J: { d with Q:=d.B.items } =i)(u:Pt g s X I d)(G:Good i k)(w':k<=30000)(G':xX H X g)(Rw:gg.Rows H p l c x)(tb:jS.nE H)(hx:x.map BV.b=x4 i::rL i)(k1: ∀m q,Pt m s q I i->xX H q m->R (.T #[pt s,.I 0]) m):
  ∃(o':bZ),aU g (((AA s 0):Addr).add 3)=some (.Q o')/\
  Cl 32 #[.Q o'] g λH' t'=>
  ∃(p':bZ)(P F':Nat),H'=.L p' P F'/\
  ∃(I:kj)(mu:kG),I 0 t'/\∀(T:Int)(v:aA),I T v->
  if(decide (T<(P:Int)))=true then
  ((0:Int)<=T/\T<(P:Int))/\
  aH p' λ(q':Addr)=>
  aF.LD v (q'.add (Int.toNat T*4)) λz' A' D' C' B' E'=>
  aW v (.C #[.I 0,.I 0,.Z,.U 0] 92) λB u'=>
  aF.ST u' (AA B 0) z' A' D' C' B' E' λA=>
  aH (some ((AA s 0):Addr)) λ(r':Addr)=>
  ∃(f':bZ),aU A (r'.add 4)=some (.Q f')/\
  ∃(g':Int),aU A (AA B 1)=some (.I g')/\
  ∃(i':bZ)(M h':Nat),aU A (AA B 2)=some (.L i' M h')/\
  Cl 33 #[.Q f',.I g',.I (M:Int)] A λI' C=>
  ∃(j':Int),I'=.I j'/\
  aU C (AA B 2)=some (.L i' M h')/\
  if(j' !=0)=true then
  R (.T #[.Q none,.I 3]) C
  else
  (I (IntKind.wrap .i64 (T+1)) C/\mu (IntKind.wrap .i64 (T+1)) C<mu T v)
  else
  Cl 9 #[pt s] v λJ' v'=>
  ∃(m':bZ)(l' k':Nat),J'=.L m' l' k'/\
  Cl 34 #[.L m' l' k',.L p l c,.func (.func 35) #[] #[]] v' λK' a'=>
  ∃(n':Bool),K'=.B n'/\
  if(!n')=true then
  R (.T #[.Q none,.I 3]) a'
  else
  R (.T #[pt s,.I 0]) a':=by
 obtain⟨Z,r⟩:=u.box;obtain⟨L,d'⟩:=u.okB;have le:=d'.le;have O:tX d.B.items:=by have:=G.ok;rw[<-J]at this;exact this
 refine⟨_,ai u.cN,gI.wF r λg1 p1 l1 c1 L1 f1=>⟨_,_,_,rfl,?_⟩⟩;obtain⟨f,L',rfl,ox,V,M',hD,x'⟩:=L1;have ln:f.length=d.B.items.length:=by rw[<-V,aw]
 refine⟨λt m=> ∃(j:Nat)(q:Ft),t=(j:Int)/\j<=f.length/\Pt m s q I { d with Q:=d.B.items.take j } /\xX H q m/\Go.Den.Own m p1 f.length c1 4 (f.flatMap gI.iC)/\∀y,aL p1 y->¬q.M y,λt _=>f.length - t.toNat,
  ⟨0,X,rfl,bK _,?_,G'.on f1,ox,λy w n=>gM (x' y w) (u.lt y (.inl n))⟩,?_⟩
 have e:({ d with Q:=d.B.items.take 0 } :SS)=d:=by rw[fN,<-y']
 rw[e];exact u.on f1;rintro _ h2 ⟨j,X2,rfl,hj,o,U,K,e'⟩;by_cases b':j<f.length;rw[gH];have w:f[j]? =some f[j]:=au b';have E:d.B.items[j]? =some (f[j]).abs:=by rw[<-V,aN,w];rfl
 generalize f[j]=y at w E;have et:d.B.items.take (j+1)=d.B.items.take j++ [y.abs]:=by rw[aV,E];rfl
 have c':tX (d.B.items.take j++ [y.abs]):=by rw[<-et];have O:=O;rw[<-fM (j+1) d.B.items]at O;exact O.pre
 obtain⟨pb,po,rfl⟩:=K.addr ae;refine⟨ae,ar.2 (aF.qq (by rw[aK];exact K.hT.fa gI.iL w) (aF.new λs' h3 eb D F=>ar.2 ⟨_,gm (o.on F).cN rfl,_,ai D,_,_,_,ai D,?_⟩))⟩;refine(o.on F).Vd (x:=y.abs) c'.pre (Th c' (JE d' (aG E))) rfl rfl λh4 X4 H4 S=>⟨_,rfl,S.fr.cell (ai D) (λn=>bN (o.lt s' (.inl n))),?_⟩;rw[dz,fc];have o3:=K.frame F bC;refine⟨⟨j+1,X4,ae,ae,?_,(U.on F).step S,o3.frame S.fr (λz r n=>e' z r n),λz r n=> ?_⟩,by show f.length - Int.toNat ((j:Int)+1)<f.length - Int.toNat (j:Int);omega⟩;rw[et];exact H4;rcases S.iA z n with a|a;exact e' z r a;have:=o3.dk r;omega;rw[af (λe=>b' (bN (bk e)))];rw[aX (show d.B.items.length<=j by omega),J]at o;refine mz o G w' (tb.on U.fr) λh3 p3 l3 c3 Q F=>⟨_,_,_,rfl,?_⟩;obtain⟨zs,r3,e3⟩:=Q.AD;have m1:=eM.tD G.a;have O':=G.a.le;have m2:=G.g.len;have m3:(gi.iX i.C).length=i.C.L.length+1:=by unfold gi.iX;simp
 have P':=G.c.L;have m4:(gI.iE i.B).length=i.B.items.length+1:=by unfold gI.iE;simp
 have Q':i.B.items.length<=16:=by rw[<-J];exact le
 have lt:l3<=1000000000:=by rw[Q.len,ba];unfold rL;simp only[aq,aw];omega
 refine gg.AH r3 (Rw.on (U.fr.tt F)) lt ⟨_,rfl,?_⟩;rw[e3,aC hx.symm,dz];exact k1 h3 X2 (o.on F) (U.on F)
def tJ(T:gg.Rows h p l c x)(hl:l<=1000)(tb:jS.nE h)(mx:jS.Mx h)(G:Good σ k)(m':k<=30000)(V':gI.okB σ.B L)(so:(σ.C.L.map gi.Cp.num).Pairwise (· < ·))(B':gi.Ord σ.C)(gs:σ.G.Pairwise fE.kW)(hx:x.map BV.b=x4 σ::rL σ)(k1: ∀h' s X I,Pt h' s X I σ->xX h X h'->R (.T #[pt s,.I 0]) h'):Cl 8 #[.L p l c] h R:=by
 obtain rfl:=T.len;obtain⟨x0,xr,rfl⟩: ∃x0 xr,x=x0::xr:=by
  cases x with
  |nil=>cases hx
  |cons x0 xr=>exact⟨x0,xr,rfl⟩
 obtain⟨e0,ex⟩:=List.cons.inj hx;have ht:=kM G.e.1 G.e.2.2;have w':=bV List.length ex;unfold rL at w';simp only[aw,aq,ba]at w' hl;have H':(eM.kf σ.A).length<=1000000:=ae
 have L':(σ.G.map fE.kC).length<=1000000:=by rw[aw];omega
 have K':(gi.iX σ.C).length<=1000000:=ae
 have J':(gI.iE σ.B).length<=1000000:=ae
 have a1:=Qo (σ:=σ) ae;refine DC ?_;rw[af (by simp only[ba,dQ];omega)];obtain⟨a,rfl⟩:=T.row.some bt;have cx:=(T.row.fa dZ (i:=0) (x:=x0) rfl).1;rw[cj]at cx;have rx:=T.each x0 bt;rw[e0]at rx;refine⟨⟨ae,by simp only[ba];omega⟩,ar.2 ⟨_,_,_,cx,gg.lD (bs:=x4 σ) rx (by rw[e0]) ae λb f S m f1 n1=>⟨_,rfl,gg.nB m ae λh2 p2 c2 D o2 n2 f2=> ?_⟩⟩⟩;have nf:h.size<=f:=n1 f m.self;have F2:=f1.fresh f2 (λy e=>by rw[e];exact nf);rw[LR,kT ae]at D o2⊢;dsimp only at D o2⊢;refine⟨_,_,_,rfl,_,conv o2.hT rfl,ju.qP G.e.1 G.e.2.2 G.e.2.1 (tb.on F2) (mx.on F2) λh3 f3=>⟨_,_,_,_,_,_,rfl,av.new λK h4 e4 l' f4=>av.ld l' (gC σ.e (λhm h5 s X I P5 U=>⟨_,_,rfl,?_⟩) (λhm=>absurd ⟨G.e.1,G.e.2.1⟩ hm))⟩⟩;rw[dz];have r:S f:=m.self;have O:=D.frame (f3.tt f4) bC;have D5:=O.frame U.fr bC;have F4:=F2.tt (f3.tt f4);have nX: ∀y,S y->¬In X y:=λy hy hX=>by have:=U.ge y hX;have:=O.lt y hy;omega
 have sX:In X s:=by obtain⟨Y,hp,_,hm,_⟩:=P5;exact .inl ((hm s).2 ⟨6,((hp 6).2 s).1.2 rfl⟩)
 refine gg.jU D5 λh6 D6 n=> ?_;rw[Zf G]at D6⊢;refine⟨_,rfl,gg.gp D6 λh7 D7 f7=> ?_⟩;rw[Zg G m']at D7⊢;dsimp only at D7⊢;have P:=P5.frame (n.trans f7 bC bC) (λy hy e=>nX f r (e▸hy));have B7:=P.cN;have sb:s≠f:=λe=>nX f r (e▸sX);refine⟨_,rfl,ar.2 (bf B7 (by show 6<8;omega) λh9 d1 d2 d3=>ar.2 (bf d1 (by show 7<8;omega) λd e1 e2 e3=> ?_))⟩;have d': ∀y,y≠s->d[y]? =h7[y]? :=λy hy=>(e3 y hy).trans (d3 y hy);have o':d.size=h7.size:=e2.trans d2;obtain⟨V,s',e'⟩:=P.put (n:=σ.now) (r:=σ.rf) (h':=d) e1 o' d';have n': ∀y,S y->¬In V y:=λy hy e=>by have:=D7.lt y hy;rcases e with e|e;rcases e'.iA y e with a|a;exact nX y hy (.inl a);omega;rcases e'.jF y e with a|a;exact nX y hy (.inr a);omega
 have a':Rd d f S 0 (tl σ 2):=D7.frame (Fr.of_eq (S:=λy=>y=s) o' (λc M=>d' c M)) (λy hy e=>nX y hy (e▸sX));have i':Fr (λy=>y=f) h5 h7:=n.trans f7 bC bC;have zb:K<h4.size:=aD l';have S': ¬In X K:=λhX=>by have:=U.ge K hX;omega
 have q':av.at d K σ.e.jY σ.e.node σ.e.fK σ.e.host σ.e.jl:=by have F':=U.fr.get l' id;have G':=i'.get F' (λe=>gM (O.lt f r) ((D.frame f3 bC).lt f r));exact(d' K (λe=>S' (e▸sX))).trans G'
 have A':Fr No h d:=by refine((F4.tt U.fr).fresh i' (λy e=>by rw[e];exact nf)).fresh (Fr.of_eq (S:=λy=>y=s) o' (λc M=>d' c M)) (λy e=> ?_);have:=U.ge s sX;have:=F4.1;rw[e];omega
 refine aB.of λr' hJ=> ?_;have done: ∀g B,ah.at g B σ.e.jY σ.e.node σ.e.fK σ.e.host σ.e.jl σ.tm σ.sq->d.size<=B->Rd g f S 0 (tl σ 4)->Fr (λy=>y=f) d g->r' (Sa B 0) g:=by
  intro g B v zb f' F;have Pg:Pt g s V I { GS σ.e with now:=σ.now,rf:=σ.rf } :=s'.frame F (λy hy e=>n' f r (e▸hy));have Fg:Fr No h g:=A'.fresh F (λy e=>by rw[e];exact nf);subst hJ;dsimp only;refine gg.gp f' λg1 m q=> ?_;rw[Zh H']at m⊢;refine⟨_,rfl,gg.gp m λg2 D o=> ?_⟩;rw[Zi L']at D⊢;refine⟨_,rfl,gg.gp D λg3 w Q=> ?_⟩;rw[Zj K']at w⊢;refine⟨_,rfl,gg.gp w λu O q4=> ?_⟩;rw[Zk J']at O⊢;have Q4:Fr (λy=>y=f) g u:=((q.trans o bC bC).trans Q bC bC).trans q4 bC bC;refine⟨_,rfl,cg (kH bt (kH bt (kH bt (kH bt ?_))))⟩;obtain⟨g5,e5⟩: ∃g5,g5=u.push (.C ((((#[Value.I 0,.I 0,.I 0,.I 0].setIfInBounds 0 (.I (((eM.kf σ.A).length:Nat):Int))).setIfInBounds 1 (.I (((σ.G.map fE.kC).length:Nat):Int))).setIfInBounds 2 (.I (((gi.iX σ.C).length:Nat):Int))).setIfInBounds 3 (.I (((gI.iE σ.B).length:Nat):Int))) 84 (0,0)):=⟨_,rfl⟩;have a5:g5[u.size]? =some (.C #[.I (((eM.kf σ.A).length:Nat):Int),.I (((σ.G.map fE.kC).length:Nat):Int),.I (((gi.iX σ.C).length:Nat):Int),.I (((gI.iE σ.B).length:Nat):Int)] 84 (0,0)):=by rw[e5];exact bR
  have q5:Fr No u g5:=by rw[e5];exact Fr.push _ _
  obtain⟨b5,t'⟩: ∃b5,b5=u.size:=⟨_,rfl⟩;rw[<-t']at a5;have Q5:=Q4.trans q5 bC (λ_ _ h=>h.elim);have P4:=Pg.frame Q4 (λy hy e=>n' f r (e▸hy));have T': ¬V.M b5:=λhy=>by have:=P4.lt b5 (.inl hy);omega
  have g':=P4.on q5;have b':=Q5.get v (λe=>bN (a'.lt f r));have F5:=(Fg.fresh Q4 (λy e=>by rw[e];exact nf)).tt q5;have y':=O.frame q5 bC;have v':(u.push (.C ((((#[Value.I 0,.I 0,.I 0,.I 0].setIfInBounds 0 (.I (((eM.kf σ.A).length:Nat):Int))).setIfInBounds 1 (.I (((σ.G.map fE.kC).length:Nat):Int))).setIfInBounds 2 (.I (((gi.iX σ.C).length:Nat):Int))).setIfInBounds 3 (.I (((gI.iE σ.B).length:Nat):Int))) 84 (0,0)))=g5:=e5.symm;dsimp only;rw[v',<-t'];clear e5 v';obtain⟨Y5,Q',_,a2,a0⟩:=id g';have M5:Mk g5 I.k σ.e 0 0:=(Q' 5).1;have x':=g'.cN;refine aB.of λJ1 M'=>ar.2 (ah.ld b' (ar.2 ⟨_,ai x',DN M5 λg6 n=>⟨_,_,_,_,_,_,_,rfl,ah.held (n.get b' id),_,Yz σ.e _ _ _ _,?_⟩⟩));have z':=y'.frame n bC;have P6:=g'.on n;have a6:=n.get a5 id;have F6:=F5.tt n;have up:xX h V g6:=⟨F6,λy hy=>by have z7:=F4.1;have z8:=U.fr.1;have z9:=i'.1;rcases hy with hy|hy;rcases e'.iA y hy with a|a;have:=U.ge y (.inl a);omega;omega;rcases e'.jF y hy with a|a;have:=U.ge y (.inr a);omega;omega⟩;have go: ∀g7 X7,Pt g7 s X7 I { GS σ.e with now:=σ.now,rf:=σ.rf,tm:=σ.tm,sq:=σ.sq } ->bp V g6 X7 g7->J1 false g7:=by intro g7 X7 P st;subst M';dsimp only;rw[dz];refine aB.of λJ2 O'=>gg.mX (z'.frame st.fr (λy hy hm=>n' y hy (.inl hm))) ⟨_,rfl,?_⟩;rw[af (by show¬(oA 0 [] !=0)=true;decide)];refine ar.2 ⟨_,ai P.cN,?_⟩;rw[af (by intro e;have e:((σ.now:Nat):Int)>1099511627776:=bk e;have:=G.n;omega)];have a7:=st.fr.get a6 T';refine⟨⟨ae,by simp only[ba];omega⟩,_,ai a7,_,ai a7,_,ai a7,_,ai a7,?_⟩;refine JQ P (up.step st) (T.drop (n:=1) bt) (by simp only[ba];omega) G.a tb mx G.c m' V' (bN G.b) so B' ex gs G.g.all G.g.len λh' X' I' P' u'=>⟨_,rfl,ai P'.cN,?_⟩;subst O';dsimp only;rw[dz];exact ar.2 (UL rfl (Qp G) P' G m' u' T tb hx λE' D' C' Z'=>k1 E' s D' I' C' Z')
  by_cases cz:σ.tm=0/\σ.sq=0;rw[af (by rw[cz.1,cz.2];decide)];exact go g6 V (by rw[cz.1,cz.2];exact P6) (bp.refl _ _);rw[ag (by simp;omega)];obtain⟨Y6,R',_⟩:=id P6;refine ar.2 ⟨_,ai P6.cN,ar.2 (ah.ld (n.get b' id) (Ask.FR (R' 5).1 ⟨σ.e,σ.tm,σ.sq⟩ rfl (by unfold Bn.iJ;rw[G.e.1,aC G.t.1,aC G.t.2];rfl) (by show 0<σ.tm\/0=σ.tm/\0<σ.sq;omega) λg7 M7 f7=>⟨_,rfl,ah.held (f7.get (n.get b' id) (λe=>bN (aD (Ask.Pt.mk' s')))),?_⟩))⟩;obtain⟨X7,P,st⟩:=Ask.Pt.BJ P6 M7 f7;exact go g7 X7 P st
 have U':K≠f:=λe=>by have:=(D.frame f3 bC).lt f r;omega
 have E: ∀{g},Fr (λy=>y=f) d g->cH (AA K 0) [.B σ.e.jY,.U σ.e.node,.U σ.e.fK,.S σ.e.host,.S σ.e.jl] 0 g:=λF=>av.held (F.get q' U');have nw: ∀{g i},Fr (λy=>y=f) d g->Fr No g i->Fr (λy=>y=f) d i:=λa B=>a.trans B bC (λ_ _ h=>h.elim);have c': ∀{g i},Fr (λy=>y=f) d g->Fr (λy=>y=f) g i->Fr (λy=>y=f) d i:=λa B=>a.trans B bC bC;have j': ∀{g i B},Rd g f S 0 (tl σ 4)->Fr (λy=>y=f) d g->d.size<=B->ah.at i B σ.e.jY σ.e.node σ.e.fK σ.e.host σ.e.jl σ.tm σ.sq->i.size=g.size->(∀p',p'≠B->i[p']? =g[p']?)->r' (Sa B 0) i:=fun {g i B} f' F v J A z=>by refine done i B J v (f'.frame (Fr.of_eq (S:=λy=>y=B) A (λc M=>z c M)) (λy hy e=> ?_)) (F.trans (Fr.of_eq (S:=λy=>y=B) A (λc M=>z c M)) (λ_ _ h=>h) (λy hy e=> ?_));have:=a'.lt y hy;omega;have:=e;omega
 refine av.ld q' ⟨gg.jU a' λg1 m q=> ?_,ah.box λB g1 eb v q=>⟨E (nw (Fr.refl _ _) q),gg.jU (a'.frame q bC) λg2 D o=> ?_⟩,trivial⟩;rw[YP G]at m⊢;refine⟨_,rfl,E q,gg.jU m λg2 D o=> ?_,ah.box λB g2 eb v o=>⟨E (nw q o),gg.jU (m.frame o bC) λg3 w Q=> ?_⟩,trivial⟩;rw[YA G]at D⊢;have C:=c' q o;exact⟨_,rfl,E C,ah.box λB g3 eb v Q=>⟨E (nw C Q),ah.set v λu J A z=>j' (D.frame Q bC) (nw C Q) (bN C.1) J A z⟩⟩;rw[YA G]at w⊢;have Q3:=c' (nw q o) Q;have z1:=q.1;have k':=Q.get v (λe=>bN (m.lt f r));exact⟨_,rfl,E Q3,ah.set k' λu J A z=>j' w Q3 ae J A z⟩;rw[YP G]at D⊢;have C:=c' (nw (Fr.refl _ _) q) o;refine⟨_,rfl,E C,gg.jU D λg3 w Q=> ?_⟩;rw[YA G]at w⊢;have Q3:=c' C Q;have nb:B≠f:=λe=>by have:=a'.lt f r;omega
 have k':=Q.get (o.get v nb) nb;exact⟨_,rfl,E Q3,ah.set k' λu J A z=>j' w Q3 ae J A z⟩

end dV
end
section
namespace Jk
open ju (Ev mh)
open dV (SS Good Pt oF Mk Bk)
open gg
open Go.Proofs.YtelbcloplcdchaaGreatDoor.Ask (En rS Rw xm CX Nl Ge tD BL.BJ Vg)
open Go.fv (RD)
variable {V:cQ→Bool} {h H f i g G:aA} {R:fp} {s t k n c d:Nat} {X x y:Ft} {I J:oF} {a b:SS} {p q:bZ}
def other(F:En V f g t y J b n)(up:Fr No f G)(S:bp X g x G)(A: ∀c,X.M c\/X.D c->¬(y.M c\/y.D c)):
  En V f G t y J b n/\∀c,x.M c\/x.D c->¬(y.M c\/y.D c):=
 ⟨⟨F.H.frame S.fr (λm l j=>A m (.inl j) l),F.G,F.hk,⟨up,F.u.ge⟩,F.U,F.mx⟩,S.apart A (λc e=>F.H.lt c e)⟩
def Wj{w:aA}{l:Nat}(E:En V f h t y J b k)(D:k<=150)(T:jS.nE f)(B:BL w h p l c (Ge b))(z: ∀H u j m,En V f H u j m b k->(∀c,j.M c\/j.D c->h.size<=c)->Fr No h H->R (.T #[pt u,.I 0]) H):Cl 8 #[.L p l c] h R:=by
 obtain⟨xs,r,e⟩:=B.AD;have C:=B.len;have M:=eM.tD E.G.a;have F:=E.G.a.le;have K:=E.G.g.len;have Q:(gi.iX b.C).length=b.C.L.length+1:=by unfold gi.iX;simp
 have S:=E.G.c.L;have m4:(gI.iE b.B).length=b.B.items.length+1:=by unfold gI.iE;simp
 obtain⟨L,O⟩:=E.H.okB;have a':=O.le;obtain⟨Z,o,_⟩:=id E.H;obtain⟨_,v⟩:=o 1;refine dV.tJ r ?_ (T.on E.u.fr) E.Un E.G E.hk O (gi.Ct.so (o 2)) E.H.ord v.so e λH u j m P U=>z H u j m ⟨P,E.G,E.hk,⟨E.u.fr.tt U.fr,λc A=>cD E.u.fr.1 (U.ge c A)⟩,E.U,E.mx⟩ U.ge U.fr;rw[C];unfold Ge dV.rL;simp only[ba,aq,aw];omega
def flip{A B:gF}(j: ∀c,A c->¬B c): ∀c,B c->¬A c:=λc l e=>j c e l
def _root_.Go.Proofs.YtelbcloplcdchaaGreatDoor.arriveAgain_ok(lp:bZ)(ll lc:Nat)(d':Int)(hv:vy Tryz.prog h 22 (.L lp ll lc))(_:(Lit.int .i64 d').wf=true)(tb:jS.nE h)(ut: ∃V,Cb.mG V h)(mx:jS.Mx h):QN Tryz.prog 3 #[.L lp ll lc,.int .i64 d'] h:=by
 obtain⟨fs,rfl,m',v'⟩:=SQ hv;obtain⟨V,U⟩:=ut;clear hv;unfold QN;generalize hR:(λ(h':Value) H=>h'=.B true/\Fr No h H)=R;have hk: ∀H,Fr No h H->R (.B true) H:=λH T=>by rw[<-hR];exact⟨rfl,T⟩
 clear hR;have al: ∀{g:aA}{K:fp},Fr No h g->(∀G,Fr No g G->K (.B true) G)->Cl 7 #[] g K:=λe hK=>SN U mx e hK;have sv: ∀{g:aA}{s:Nat}{X:Ft}{I:oF}{a:SS}{n:Nat}{K:fp},En V h g s X I a n->(∀H p' l' c',BL g H p' l' c' (Ge a)->Fr No g H->K (.L p' l' c') H)->Cl 9 #[pt s] g K:=λE hK=>dV.mz E.H E.G E.hk (tb.on E.u.fr) hK;refine tM (xm λi o=>av.ex Nl.s ⟨rfl,dV.gC Nl (λ_ Q s X I H2 u2=>⟨_,_,rfl,xm λh3 r=>av.ex Nl.s ⟨rfl,dV.gC Nl (λ_ h4 t y J H4 u4=>⟨_,_,rfl,aB.of λJ1 S=> ?_⟩) (λn=>absurd CX n)⟩⟩) (λn=>absurd CX n)⟩);have w:=Ask.En.Nn U mx o H2 u2;have B:=w.on (r.tt u4.fr);have z:=Ask.En.Nn (h1:=h3) U mx (w.u.fr.tt r) H4 u4;have j': ∀c,X.M c\/X.D c->¬(y.M c\/y.D c):=λc i Q=>by have:=H2.lt c i;have:=u4.ge c Q;have:=r.1;omega
 rw[dz,dz,af bt];subst S;dsimp only;rw[af bt];refine⟨λtp e' g=> ∃(j t:Nat)(X y:Ft)(J:oF)(a:SS),tp=some (AA t 0)/\e'=(j:Int)/\j<=fs.length/\j<=50/\En V h g s X I a (3*j)/\En V h g t y J a (3*j)/\∀c,X.M c\/X.D c->¬(y.M c\/y.D c),λ_ e' _=>51 - e'.toNat,⟨0,t,X,y,J,_,rfl,rfl,bK _,bK _,B,z,j'⟩,?_⟩;clear w B z j' H2 u2 H4 u4;rintro _ _ g ⟨j,t,X,y,J,a,rfl,rfl,hj,A',E,F,O⟩;refine aB.of λJ1 S=> ?_;have f':J1 false g:=by subst S;dsimp only;rw[dz];refine al E.u.fr λg1 o=>⟨_,rfl,?_⟩;rw[ag rfl];refine sv (E.on o) λm p2 l2 c2 B2 v=>⟨_,_,_,rfl,sv (F.on (o.tt v)) λP p3 l3 c3 B3 r=>⟨_,_,_,rfl,Vg (B2.on r) B3 rfl (tD E) ⟨_,rfl,?_⟩⟩⟩;rw[ag rfl];have u:=o.tt (v.tt r);refine sv (E.on u) λg4 p4 l4 c4 B4 D=>⟨_,_,_,rfl,?_⟩;have ln:=B4.len;rw[Ge,ba]at ln;rw[aC ae];exact hk g4 (E.u.fr.tt (u.tt D))
 by_cases hl:j<fs.length
 case neg=>rw[dz];exact f'
 rw[gH];by_cases h5:j<50
 case neg=>rw[aT ae];exact f'
 rw[aC ae];clear f';subst S;dsimp only;rw[ag rfl];obtain⟨e,T⟩: ∃e,fs[j]? =some e:=⟨_,au hl⟩;have l:=v' e (aG T);obtain⟨C,rfl⟩:=m'.any LM;have rg: ∀G,Fr No h G->cH (C.add (j*24)) (SO e) 0 G:=λG fg=>(m'.frame fg bC).fa LM T;have a': ∀{g:aA}{s:Nat}{X:Ft}{I:oF}{a:SS}{k:Nat},En V h g s X I a k->∀{pp:bZ}{dd:cQ},Row h pp (bc dd)->Rw g X pp dd:=λE _ _ k'=>⟨k'.frame E.u.fr bC,λhd b' hz Z=>gM (jd k' (by simpa[bc]using hd) hz) (E.u.ge b' (.inl Z))⟩;refine⟨ae,ar.2 (aR.iR (x:=e.cs) (rg g E.u.fr) (SR e λg1 h' o=>⟨_,rfl,?_⟩))⟩;have A:=E.on o;have M:=F.on o;cases h' with
 |true=>rw[ag rfl];exact al A.u.fr λm v=>⟨_,rfl,hk m (A.u.fr.tt v)⟩
 |false=>
 rw[dz];refine aB.of λJ2 o'=> ?_;have key: ∀m t y J,En V h m s X I a (3*j)->En V h m t y J a (3*j)->(∀c,X.M c\/X.D c->¬(y.M c\/y.D c))->J2 (Sa t 0) m:=by clear E F A M O;intro m t y J E F O;subst o';dsimp only;refine⟨ae,ar.2 (aR.iR (x:=e.cs) (rg m E.u.fr) (Co E ae e.x (a' E l.r1) l.c1 (a' E l.r2) l.c2 l.w1 l.w2 λP X3 q3 d3 E3 w' r3=>aj.ex (rS (gj V a e.x).y q3 d3) ⟨_,rfl,aj.gw (x:=rS (gj V a e.x).y q3 d3) λb3 g4 y' s' D=> ?_⟩))⟩;obtain⟨u,i'⟩:=other F E3.u.fr w' O;have w3:Rw P y q3 (gj V a e.x).y.b:=⟨r3.1,λhd b' hz Z=>(r3.2 hd b' hz).1.elim (λC=>F.nM C Z) (λC=>i' b' (.inr C) (.inl Z))⟩;have B:=E3.on D;have z:=u.on D;refine⟨ae,ar.2 (aR.iR (x:=e.cs) (rg g4 B.u.fr) (Co z ae e.x (a' z l.r1) l.c1 (a' z l.r2) l.c2 l.w1 l.w2 λg5 Y5 q5 d5 F5 g' r5=>aj.ex (rS (gj V a e.x).y q5 d5) ⟨_,rfl,aj.gw (x:=rS (gj V a e.x).y q5 d5) λb5 g6 z' t' L=> ?_⟩))⟩;obtain⟨E5,n'⟩:=other B F5.u.fr g' (flip i');have u':=L.get (g'.fr.get s' (u.nM ae)) id;have w6:=((w3.on D).step g').on L;refine aB.of λJ3 q'=> ?_;rw[af bt];refine aj.fX u' (aj.fX t' (C4.jv (p:=q3) (c:=d3) (q:=q5) (d:=d5) (gj V a e.x).y (gj V a e.x).y w6.1 (r5.1.frame L bC) λg7 f7=>⟨_,rfl,?_⟩));rw[aC (RD.QZ.2 rfl)];subst q';dsimp only;rw[dz,fc];exact⟨⟨j+1,t,X3,Y5,J,_,rfl,rfl,ae,ae,E5.on (L.tt f7),F5.on (L.tt f7),flip n'⟩,by show 51 - ((j:Int)+1).toNat<51 - (j:Int).toNat;omega⟩
 by_cases hc:((j:Int)==d')=true;rw[ag hc];refine sv M λm p2 l2 c2 B2 v=>⟨_,_,_,rfl,Wj (M.on v) ae tb B2 λP x' Y3 J3 u n3 r=>⟨_,_,rfl,aB.of λJ4 r'=> ?_⟩⟩;rw[dz];subst r';dsimp only;rw[af bt];have w:=A.on v;exact key P x' Y3 J3 (w.on r) u λc i Q=>by have:=w.H.lt c i;have:=n3 c Q;omega
 rw[af hc];exact key g1 t y J A M O

end Jk
end
end Go.Proofs.YtelbcloplcdchaaGreatDoor
