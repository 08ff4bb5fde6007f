/-
  IY is proved here: parts of AH proof, one behind AH other (texts of this work, merged by a program; KW AH theorem KX not use is left out). No condition.
-/
import Derived.RangeFuncLeaves
import Derived.RangeFuncRecord
import Derived.RangeFuncCalls
import Derived.OrdersIn
import Derived.Test.YticlajoleibdnaaGreatDoorMAustf
set_option linter.defProp false
set_option maxRecDepth 100000
set_option maxHeartbeats 4000000
namespace Go.Den
section
variable {r:Option Nat} {m n:Nat} {P:Program} {f:FuncId} {w w0:World} {R K:dH} {o:Oper} {F:Func}
def fw(r:Option Nat):Fence:= { Fence.wide with round:=r }
def E8{args:Array Value}{R:Ending->World->Prop}(h:Calls P f args w R):CallsIn (fw r) m P f args w R:=
 (callsIn_wide).2 h
def uR :(fw r).depth.isSome=true->1<=m:=λh=>by cases h
def xB(P:Program)(l:Nat)(args:Array Value)(h:Heap)(R:dH):Prop:=
 ∀w:World,w.heap=h->∃f t assign b,(Instr.yield l args).run P w=.ok (.round l f t assign b) w/\
  ∀r m,RoundIn (fw r) m P l f t assign b w (λe c=> ∃v,e=.returned v/\R v c.heap/\eJ w c)
def Act.bare(a:Act):Act:= { a with defers:= [] }
def Act.KG(a:Act)(d:Option Nat)(v:Value):Act.bare (a.put d v)=(Act.bare a).put d v:=by cases d<;>rfl
def Act.put_defers(a:Act)(d:Option Nat)(v:Value):(a.put d v).defers=a.defers:=by cases d<;>rfl
variable {a a0:Act} {next:Act->World->Prop} {Q:Exit->Act->World->Prop}
def kP(o:Oper):Bool:=match o.op with| .defer _=>false|_=>true
def xC(h:kP o=true)(c:Call):o.op≠ .defer c:=λe=>by unfold kP at h;rw[e]at h;cases h
def nP.wpIn(g:nP P o a.eval w.heap K)(j:kP o=true)(h: ∀v b,K v b.heap->eJ w b->next (a.put o.dst v) b):o.wpIn (fw r) m P a w next Q:=by
 refine⟨λ_ _=>trivial,?_⟩;have⟨x,b,k,c,d⟩:=mw _ _ _ g w rfl;rw[Oper.semAt_eq _ _ _ (xC j),k];cases x with
 |value v=>exact h _ _ c d
 |skip=>exact h _ _ c d
 |enter f args=>refine⟨uR,CallsIn.mono (E8 (c b rfl)) ?_⟩;rintro e l ⟨v,rfl,H,i⟩;exact h _ _ H (d.trans i)
 |_=>exact c.elim
def LU(P:Program)(o:Oper)(d:Env)(h:Heap)(K:dH):Prop:=
 match o.op with
 | .call { callee:=.value f,args:=args,argTypes:=_ } =>(match d.ev f,Py d args.toList with
  |some (.func (.yield l) c _),some V=>xB P l (c.toList++V).toArray h λv H=> ∃b:Bool,v=.bool b/\K (.bool b) H
  |_,_=>AK P o d h K)
 |_=>AK P o d h K
def OW{k:Env}(H:Fits k a.eval)(h:LU P o k w.heap K)(i:kP o=true)(d: ∀v j,K v j.heap->eJ w j->next (a.put o.dst v) j):o.wpIn (fw r) m P a w next Q:=by
 unfold LU at h;split at h;rename_i f args z s;split at h;rename_i l c C V q x;have⟨g,T,assign,B,y,t⟩:=h w rfl;refine⟨λ_ _=>trivial,?_⟩;rw[Oper.semAt_eq _ _ _ (xC i)];have e:(execOp a.eval o).run P w=(Instr.yield l (c.toList++V).toArray).run P w:=by
  unfold execOp;rw[s];simp only[resolve,pj H x,H _ _ q,Deferred.ofValue];have e:c++V.toArray=(c.toList++V).toArray:=bO
  rw[e];rfl
 rw[e,y];refine⟨uR,RoundIn.mono (t r _) ?_⟩;rintro e A ⟨v,rfl,⟨b,rfl,p⟩,u⟩;exact d _ _ p u;exact(pk H h).wpIn i d;exact(pk H h).wpIn i d
def XB(n:Nat)(a0:Act)(w0:World)(c:List Nat)(K:Env->cM):IZ:=
 λe a w=>e=.normal/\∃b,Rel n b (Act.bare a)/\K b w.heap/\eJ w0 w/\fK c (Act.bare a0) (Act.bare a)/\a.defers=a0.defers
def CK(P:Program)(n:Nat)(O:Array Oper)(t:List (Nat×Sh)):List Oper->Env->Heap->(Env->cM)->Prop
 | [],b,h,K=>K b h
 |o::d,b,h,K=>mU O o b
   (λb=>LU P o b h λv H=>I7 t o.dst v λv=>kV n b o.dst v λc=>CK P n O t d c H K)
   (λb=>kV n b o.dst undef λc=>CK P n O t d c h K)
theorem xD{O:Array Oper}{T:List (Nat×Sh)}{K:Env->cM}(z:O.all kP=true): ∀(b:List Oper)(k:Nat)(c:Env)(a:Act)(w:World),
  (∀j,b[j]? =O[k+j]?)->Rel n c (Act.bare a)->eJ w0 w->fK (eW O) (Act.bare a0) (Act.bare a)->a.defers=a0.defers->CK P n O T b c w.heap K->wpOpsIn (fw r) m P O (XB n a0 w0 (eW O) K) (List.range' k b.length) a w
 | [],k,c,a,w,_,p,e,g,H,h=>⟨rfl,c,p,h,e,g,H⟩
 |o::b,k,c,a,w,u,p,e,g,H,h=>by
  have i:=by have:=u 0;simpa using this.symm
  have x: ∀j,b[j]? =O[k+1+j]? :=λj=>by have:=u (j+1);simpa[Nat.add_assoc,Nat.add_comm 1 j]using this
  have C:kP o=true:=by grind
  simp only[bw,List.range'_succ,wpOpsIn,i];rcases vp p h with⟨s,A,d,h⟩|⟨s,A,d,h⟩;have y:Region.wanted o (yielded O a.tmps)=true:=s;rw[ah y];refine OW (show Fits A a.eval from d.fits) h C ?_;intro v E B D;have⟨t,q,l⟩:=xP d (sX B);exact xD z b (k+1) t _ E x (by rw[Act.KG];exact q) (e.trans D) (by exact g.trans (fK.put (gR i))) (by rw[Act.put_defers];exact H) l;have y:Region.wanted o (yielded O a.tmps)=false:=s;rw[af (by grind)];have⟨t,q,l⟩:=xP d h;exact⟨λ_ _=>trivial,xD z b (k+1) t _ w x (by rw[Act.KG];exact q) e (by exact g.trans (fK.put (gR i))) (by rw[Act.put_defers];exact H) l⟩
theorem OX{K s:Act->World->Prop}{u:IZ}{D:List Deferred}(B:kP o=true)(h:o.wp P a w K Q)(i: ∀A g,K A g->A.defers= []/\s { A with defers:=D } g)(l: ∀e A g,e≠ .normal->¬Q e A g):
  a.defers= []/\o.wpIn (fw r) m P { a with defers:=D } w s u:=by
 unfold Oper.wp at h;unfold Oper.wpIn;rw[Oper.semAt_eq _ _ _ (xC B)];have e:(execOp (Act.eval { a with defers:=D }) o).run P w=(execOp a.eval o).run P w:=rfl;rw[e];have t: ∀(v:Value),({ a with defers:=D }).put o.dst v= { (a.put o.dst v)with defers:=D } :=λv=>by cases o.dst<;>rfl
 generalize (execOp a.eval o).run P w=x at h⊢;cases x with
 |ok x g=>
  cases x with
  |value v=>have⟨H,j⟩:=i _ _ h;rw[Act.put_defers]at H;exact⟨H,λ_ _=>trivial,by simp only[Oper.uponIn,t];exact j⟩
  |skip=>have⟨H,j⟩:=i _ _ h;rw[Act.put_defers]at H;exact⟨H,λ_ _=>trivial,by simp only[Oper.uponIn,t];exact j⟩
  |defer d=>have⟨H,j⟩:=i _ _ h;rw[Act.put_defers]at H;cases H
  |enter f args=>
   have p:a.defers= []:=by
    have⟨e,k,E,b,_⟩:=h [];cases e with
    |returned v=>have:=(i _ _ b).1;rwa[Act.put_defers]at this
    |panicked C=>grind
    |outgrown=>have⟨_,_,q⟩:=b;exact(l _ _ _ bO q).elim
   refine⟨p,λ_ _=>trivial,uR,CallsIn.mono (E8 h) ?_⟩;rintro e k b;cases e with
   |returned v=>grind
   |panicked C=>exact(l _ _ _ bO b).elim
   |outgrown=>have⟨_,_,q⟩:=b;exact(l _ _ _ bO q).elim
  |row G args=>
   have p:a.defers= []:=by have⟨v,k,b,_⟩:=h default [];have:=(i _ _ b).1;rwa[Act.put_defers]at this
   refine⟨p,λ_ _=>trivial,uR,λc y _=> ?_⟩;have⟨v,k,b,z⟩:=h c y;exact⟨v,k,(by grind),stepsIn_wide.2 z⟩
  |_=>exact h.elim
 |halt x g=>cases x<;>simp only[Oper.upon]at h<;>first|exact h.elim|grind
theorem E9{P : Program}{O : Array Oper}{Q q : Exit → Act → World → Prop}{r : Option Nat}{m : Nat}{ds : List Deferred}(x : O.all kP = true)(c : ∀ e A k, Q e A k → e = .normal ∧ A.defers = [] ∧ q .normal { A with defers := ds } k): ∀(fuel : Nat)(l : Array Bool)(a : Act)(w : World),
    wpAny P .any O Q fuel l a w → a.defers = [] ∧ wpAnyIn (fw r) m P .any O q fuel l { a with defers := ds } w
  | 0, l, a, w, h => ⟨(c _ _ _ h.2).2.1, h.1, (c _ _ _ h.2).2.2⟩
  | fuel + 1, l, a, w, h => by
    have step : ∀ i ∈ Region.ready .any O l, a.defers = [] ∧ wpOpIn (fw r) m P O q i (wpAnyIn (fw r) m P .any O q fuel (l.setIfInBounds i true)) { a with defers := ds } w := λi b => by
      have H := h.2 i b
      have I := E9 (P := P) x c (r := r) (m := m) fuel (l.setIfInBounds i true)
      unfold wpOp at H
      unfold wpOpIn
      split at H
      · grind
      · rename_i o v
        have t : kP o = true := by
          grind
        simp only [v]
        split at H
        · rename_i j
          rw [if_pos j]
          rcases H with H | ⟨_, _, _, d⟩
          · exact OX t H I (λe A k u d => u (c _ _ _ d).1)
          · grind
        · rename_i j
          rw [if_neg j]
          have ⟨p, y⟩ := I _ _ H
          rw [Act.put_defers] at p
          have z : ({ a with defers := ds }).put o.dst undef = { (a.put o.dst undef) with defers := ds } := by cases o.dst <;> rfl
          exact ⟨p, λ_ _ => trivial, by grind⟩
    by_cases g : Region.ready .any O l = []
    · have ⟨_, s, d⟩ := c _ _ _ (h.1 g)
      exact ⟨s, λ_ => d, λi b => (step i b).2⟩
    · have ⟨i, b⟩ := List.exists_mem_of_ne_nil _ g
      exact ⟨(step i b).1, λe => absurd e g, λi b => (step i b).2⟩
def Np(K:List Nat->Env->cM)(Q:Exit->List Nat->Env->cM):Exit->List Nat->Env->cM
 | .normal=>K
 |e=>Q e
def VL(b:Bool)(A B:Prop):Prop:=match b with|true=>A|false=>B
def Rv(id:Nat)(Q:Exit->List Nat->Env->cM):Exit->List Nat->Env->cM
 | .exit i=>λD b h=>VL (Nat.beq i id) (Q .normal D b h) (Q (.exit i) D b h)
 |e=>Q e
def Xe:Exit->List Nat->Env->cM:=λ_ _ _ _=>False
abbrev CL(h:Heap)(l:Nat)(r:Loop):Prop:=h[l]? =some (.loop r)
abbrev fU(h:Heap)(l:Nat)(r:Loop):Heap:=h.setIfInBounds l (.loop r)
abbrev qp(h:Heap)(r:Loop):Heap:=(h.push (.deferred (some []))).push (.loop r)
abbrev Rw:=LoopState->Option Code->Loop
def VM(l:Nat)(rec:Rw)(C:Bool->cM):Exit->List Nat->Env->cM
 | .normal,_,_,h=>CL h l (rec .busy none)/\C true (fU h l (rec .ready none))
 | .ret,_,_,h=>CL h l (rec .busy none)/\C false (fU h l (rec .done (some .ret)))
 | .exit i,_,_,h=>CL h l (rec .busy none)/\C false (fU h l (rec .done (some (.exit i))))
 |_,_,_,_=>False
def Bm(b T:cM)(E:Nat->cM):Option Code->cM
 |none,h=>b h
 |some .ret,h=>T h
 |some (.exit i),h=>E i h
 |_,_=>False
def LV(n:Nat):List Nat->List Value->Env->(Env->Prop)->Prop
 | [], [],b,K=>K b
 |t::T,v::V,b,K=>kV n b (some t) v λc=>LV n T V c K
 |_,_,_,_=>False
def uT(P:Program)(v:Value)(h:Heap)(B:Rw->(Bool->cM)->List Value->cM)(J:Option Code->cM):Prop:=
 ∃G l,v=.func (.func G) #[] l/\lC P G=true/\∀rec:Rw,(∀s p,(rec s p).state=s/\(rec s p).pending=p)->
  (∀args g C,CL g (h.size+1) (rec .ready none)->B rec C args g->xB P (h.size+1) args.toArray g λv d=> ∃b,v=.bool b/\C b d)->
  jS P G (#[.func (.yield (h.size+1)) #[] #[]]++l) (qp h (rec .ready none)) λ_ g=> ∃S c,S≠ .busy/\CL g (h.size+1) (rec S c)/\J c (fU g (h.size+1) (rec .exhausted c))
def IJ:List Nat->List Nat->Bool
 | [], []=>true
 |x::X,y::b=>Nat.beq x y && IJ X b
 |_,_=>false
def Hr: ∀{a b:List Nat},IJ a b=true->a=b
 | [], [],_=>rfl
 |x::X,y::c,h=>by simp only[IJ,bE]at h;rw[ct h.1,Hr h.2]
def rk(P : Program)(n : Nat)(rd : Bool): nQ -> Code -> (Exit -> List Nat -> Env -> Heap -> Prop) -> List Nat -> Env -> Heap -> Prop
  | .leaf, c, Q, D, e, h => (match c with
    | .skip => Q .normal D e h
    | .label _ => Q .normal D e h
    | .exit id => Q (.exit id) D e h
    | .ret => Q .ret D e h
    | .region _ O false => (match O.all kP with | true => CK P n O [] O.toList e h (Q .normal D) | false => False)
    | _ => False)
  | .je G p, c, Q, D, e, h => (match c with
    | .region _ O true => (match (P.follows .mixedOrders && Region.noSelect O && CW p O.size && je P O p none (Array.replicate O.size false)), O.all kP with
      | true, true => gk P [] n O US G p [] [] e h (Q .normal D)
      | _, _ => False)
    | _ => False)
  | .seq a b, c, Q, D, e, h => (match c with
    | .seq c d => rk P n rd a c (Np (λk j H => rk P n rd b d Q k j H) Q) D e h
    | _ => False)
  | .cond a b, c, Q, D, e, h => (match c with
    | .cond x c d => (match e.ev x with
      | some (.bool q) => if q = true then rk P n rd a c Q D e h else rk P n rd b d Q D e h
      | _ => False)
    | _ => False)
  | .block a, c, Q, D, e, h => (match c with
    | .block id c => rk P n rd a c (Rv id Q) D e h
    | _ => False)
  | .loop L a, c, Q, D, e, h => (match c with
    | .loop c => ∃(I : rS (Heap -> Prop) L)(u : rS (Heap -> Nat) L), mb False L I e (λf => f h) /\
        NG L (λj => ∀ H, mb False L I j (λf => f H) ->
          rk P n rd a c (Np (λk y l => k = D /\ mb False L I y (λf => f l) /\ mb 0 L u y (λf => f l) < mb 0 L u j (λf => f H)) Q) D j H) (e.forget (writes c))
    | _ => False)
  | .join L a, c, Q, D, e, h => ay (α := rS (Heap -> Prop) L) (Pz L (λj H => Q .normal D j H) (e.forget (writes c)))
      (λJ => rk P n rd a c (Np (λk j H => k = D /\ mb False L J j (λf => f H)) Q) D e h)
  | .scope z L a b, c, Q, D, e, h => (match c with
    | .rangeFunc g M assign B => (match rd, IJ (L.map (·.1)) M.toList, e.ev g with
      | false, true, some v => uT P v h
          (λrec C args E => Mo (L.map (·.2)) λV => args = V /\ LV n (L.map (·.1)) V e λS =>
            rk P n true a assign (Np (λA T s => CL s (h.size + 1) (rec .ready none) /\ ∀ t, t = fU s (h.size + 1) (rec .busy none) -> rk P n true b B (VM (h.size + 1) rec C) A T t) Xe) [] S E)
          (Bm (λg => Q .normal (h.size :: D) e g) (λg => Q .ret (h.size :: D) e g) (match z with | 0 => λ_ _ => False | _ => λi g => Q (.exit i) (h.size :: D) e g))
      | _, _, _ => False)
    | _ => False)
  | .typed _, _, _, _, _, _ => False
def mark(D:Nat):Deferred:= { target:=.collected D,args:= #[] }
def YU(n:Nat)(a0:Act)(w0:World)(c:List Nat)(Q:Exit->List Nat->Env->cM):IZ:=
 λe a w=> ∃D b,Rel n b (Act.bare a)/\a.defers=D.map mark/\Q e D b w.heap/\eJ w0 w/\fK c (Act.bare a0) (Act.bare a)
def Fa{b:List Nat}{Q:Exit->List Nat->Env->cM}{D:List Nat}(j:a0.defers=D.map mark){e:Exit}(h:XB n a0 w0 b (Q .normal D) e a w):YU n a0 w0 b Q e a w:=by obtain⟨rfl,k,H,c,d,g,i⟩:=h;exact⟨D,k,H,i.trans j,c,d,g⟩
def Fb(w:World)(o:Obj):eJ w (w.alloc o):=⟨rfl,rfl,rfl⟩
def yS(w:World)(l:Nat)(o:Obj):eJ w (w.putObj l o):=⟨rfl,rfl,rfl⟩
def Ht{K:Env->Prop}: ∀(T:List Nat)(V:List Value)(b:Env)(c:Array Value),Rel n b { tmps:=c,defers:= [] } ->LV n T V b K->
  T.length=V.length/\∃d,Rel n d { tmps:=(T.zip V).foldl (λt (p,v)=>t.setIfInBounds p v) c,defers:= [] } /\K d
 | [], [],b,c,H,h=>⟨rfl,b,H,h⟩
 |t::T,v::V,b,c,H,h=>by have⟨d,j,e⟩:=xP H h;have⟨g,i⟩:=Ht T V d _ j e;exact⟨by simp[g],i⟩
 | [],_::_,_,_,_,h=>h.elim
 |_::_, [],_,_,_,h=>h.elim
def lJ : ∀(D':nQ)(rd:Option Nat)(m:Nat)(c:Code)(Q:Exit->List Nat->Env->cM)(D:List Nat)(i:Env)(a:Act)(w:World),Rel n i (Act.bare a)->a.defers=D.map mark->
  rk P n rd.isSome D' c Q D i w.heap->c.wpIn (fw rd) m P (YU n a w (writes c) Q) a w
 | .leaf,rd,m,c,Q,D,i,a,w,g,q,h=>by unfold rk at h;split at h;exact wpIn_skip ⟨D,i,g,q,h,eJ.refl w,fK.refl _ _⟩;exact wpIn_label ⟨D,i,g,q,h,eJ.refl w,fK.refl _ _⟩;exact wpIn_exit ⟨D,i,g,q,h,eJ.refl w,fK.refl _ _⟩;exact wpIn_ret ⟨D,i,g,q,h,eJ.refl w,fK.refl _ _⟩;rename_i id h';split at h;rename_i nd;refine wpIn_mono (wpIn_region (Q:=XB n a w (eW h') (Q .normal D)) ?_) (λe A l H=>Fa q H);have:=xD (a0:=a) (w0:=w) (r:=rd) (m:=m) nd h'.toList 0 i a w bO g (eJ.refl w) (fK.refl _ _) rfl h;rw[List.range_eq_range'];simpa using this;exact h.elim;exact h.elim
 | .typed _,_,_,_,_,_,_,_,_,_,_,h=>h.elim
 | .je kb p,rd,m,c,Q,D,i,a,w,g,q,h=>by
  unfold rk at h;split at h;rename_i id h';split at h;rename_i J nd;obtain⟨h1,h2⟩:=sY (a:=Act.bare a) J g.D h;refine wpIn_mono (wpIn_region_any (Q:=XB n a w (eW h') (Q .normal D)) h1 ((E9 (ds:=a.defers) nd (λe A l H=> ?_) _ _ _ _ h2).2)) (λe A l H=>Fa q H);obtain⟨rfl,X,M,hk,s,u⟩:=CY H;have e:Act.bare { A with defers:=a.defers } =A:=by obtain⟨t,d⟩:=A;have:d= []:=M.defers;rw[this];rfl
  exact⟨rfl,M.defers,rfl,X,by rw[e];exact M,hk,s,by rw[e];exact u,rfl⟩;exact h.elim;exact h.elim
 | .seq x b',rd,m,c,Q,D,i,a,w,g,q,h=>by
  unfold rk at h;split at h;rename_i c d;refine wpIn_seq (wpIn_mono (lJ x rd m c _ D i a w g q h) ?_);rintro e A l ⟨E,z,B,y,H,s,u⟩;have hW: ∀t,t∈writes c->t∈writes (.seq c d):=λt G=>dp _ G;cases e with
  |normal=>refine wpIn_mono (lJ b' rd m d Q E z A l B y H) ?_;rintro e2 a2 w2 ⟨D2,r',l',k',U',n',a6⟩;exact⟨D2,r',l',k',U',s.trans n',(u.mono hW).trans (a6.mono λt G=>dI _ G)⟩
  |_=>exact⟨E,z,B,y,H,s,u.mono hW⟩
  exact h.elim
 | .cond x b',rd,m,c,Q,D,i,a,w,g,q,h=>by
  unfold rk at h;split at h;rename_i k c d;split at h;rename_i A' H;have he:a.eval k=.B A':=g.fits _ _ H;split at h;rename_i G;subst G;refine wpIn_cond_true he (wpIn_mono (lJ x rd m c Q D i a w g q h) ?_);rintro e A l ⟨E,z,B,y,H,s,u⟩;exact⟨E,z,B,y,H,s,u.mono λt G=>dp _ G⟩;rename_i G;have G:A'=false:=by simpa using G
  subst G;refine wpIn_cond_false he (wpIn_mono (lJ b' rd m d Q D i a w g q h) ?_);rintro e A l ⟨E,z,B,y,H,s,u⟩;exact⟨E,z,B,y,H,s,u.mono λt G=>dI _ G⟩;exact h.elim;exact h.elim
 | .block x,rd,m,c,Q,D,i,a,w,g,q,h=>by
  unfold rk at h;split at h;rename_i id c;refine wpIn_block (wpIn_mono (lJ x rd m c _ D i a w g q h) ?_);rintro e A l ⟨E,z,B,y,H,s,u⟩;cases e with
  |exit p'=>
   simp only[Exit.inBlock];simp only[Rv,VL]at H;by_cases hid:p'=id;subst hid;simp only[Nat.beq_refl]at H;rw[ah rfl];exact⟨E,z,B,y,H,s,u⟩;rw[af hid];have:Nat.beq p' id=false:=by cases J:Nat.beq p' id;rfl;exact absurd (ct J) hid
   rw[this]at H;exact⟨E,z,B,y,H,s,u⟩
  |_=>exact⟨E,z,B,y,H,s,u⟩
  exact h.elim
 | .loop L x,rd,m,c,Q,D,i,a,w,g,q,h=>by
  unfold rk at h;split at h;rename_i c;obtain⟨I,μ,h0,a4⟩:=h;refine wpIn_loop (λA l=> ∃z,Rel n z (Act.bare A)/\A.defers=D.map mark/\mb False L I z (λf=>f l.heap)/\eJ w l/\fK (writes c) (Act.bare a) (Act.bare A))
   (λA l=>mb 0 L μ (sZ A) (λf=>f l.heap)) ⟨i,g,q,h0,eJ.refl w,fK.refl _ _⟩ ?_
  rintro A l ⟨z,B,y,hI,s,u⟩;obtain⟨i',hF,o',hL,_⟩:=xO L _ I a4 hI;have w':=Rel.qE g B u o';have s':mb False L I i' (λf=>f l.heap):=by rw[mJ L I hL];exact hI
  have M':=hF l.heap s';refine wpIn_mono (lJ x rd m c _ D i' A l w' y M') ?_;rintro e a1 w1 ⟨D1,X,M,u',H,x',y'⟩;have ev: ∀b:Act,sZ (Act.bare b)=sZ b:=λ_=>rfl;cases e with
  |normal=>obtain⟨rfl,t',S'⟩:=H;refine⟨⟨X,M,u',t',s.trans x',u.trans y'⟩,?_⟩;rw[<-ev a1,<-ev A,jX M (mA L I t'),jX w' (mA L I s')];exact S'
  |_=>exact⟨D1,X,M,u',H,s.trans x',u.trans y'⟩
  exact h.elim
 | .join L x,rd,m,c,Q,D,i,a,w,g,q,h=>by
  unfold rk at h;unfold ay at h;refine wpIn_mono (lJ x rd m c _ D i a w g q h) ?_;rintro e A l ⟨E,z,B,y,H,s,u⟩;cases e with
  |normal=>obtain⟨rfl,H⟩:=H;obtain⟨i',hQ,o'⟩:=xN L _ H;exact⟨E,i',Rel.qE g B u o',y,hQ,s,u⟩
  |_=>exact⟨E,z,B,y,H,s,u⟩
 | .scope C' L x b',rd,m,c,Q,D,i,a,w,g,q,h=>by
  unfold rk at h;split at h
  .rename_i F' V c' d';split at h
   .rename_i v m' g' hg;have m':rd=none:=by cases rd with|none=>rfl|some _=>cases m'
    subst m';have g':=Hr g';obtain⟨Z,lb,rfl,J,hc⟩:=h;have P':a.eval F'=.func (.func Z) #[] lb:=g.fits _ _ hg;refine wpIn_rangeFunc λgn _=> ?_;obtain⟨rec,O⟩: ∃rec:Rw,rec=λB' p=> { state:=B',pending:=p,fn:=gn,tmps:=a.tmps,params:=V,assign:=c',body:=d',defers:=w.heap.size } :=⟨_,rfl⟩;have K':=hc rec (λB' p=>by rw[O];exact⟨rfl,rfl⟩) ?round
    case round=>
     intro args g1 C f' hB w1 a7;subst a7;obtain⟨vs,rfl,T'⟩:=wF hB;obtain⟨R',X,M,L'⟩:=Ht _ _ i a.tmps g T';have a5:args.toArray.size=V.size:=by rw[<-Array.length_toList (xs:=V),<-g',R'];simp
     refine⟨gn,(V.zip args.toArray).foldl (λq' (t,a)=>q'.setIfInBounds t a) a.tmps,c',d',?_,λr m2=> ?_⟩;rw[O]at f';exact run_yield f' a5;have E':(V.zip args.toArray).foldl (λq' (t,a)=>q'.setIfInBounds t a) a.tmps=((L.map (·.1)).zip args).foldl (λt (p,v)=>t.setIfInBounds p v) a.tmps:=by rw[g',<-Array.foldl_toList,Array.toList_zip]
     refine roundIn_of_wpIn (F:=fw r) trivial ?_;rw[E'];refine wpIn_mono (lJ x (some (w.heap.size+1)) m2 c' _ [] X { tmps:=((L.map (·.1)).zip args).foldl (λt (p,v)=>t.setIfInBounds p v) a.tmps,defers:= [] } w1 M rfl L') ?_;rintro e a2 w2 ⟨D2,r',l',k',H,n',_⟩;cases e with
     |normal=>
      obtain⟨G',J'⟩:=H;have I':(rec .ready none).state=.ready:=by rw[O]
      have e2:({ (rec .ready none)with state:=.busy } :Loop)=rec .busy none:=by rw[O]
      refine⟨w2.putObj (w.heap.size+1) (.loop (rec .busy none)),by rw[<-e2];exact run_beginRound G' I',?_⟩;refine wpIn_mono (lJ b' (some (w.heap.size+1)) m2 d' _ D2 r' a2 (w2.putObj (w.heap.size+1) (.loop (rec .busy none))) l' k' (J' _ rfl)) ?_;rintro e3 a3 U ⟨D3,b0,a9,a8,S,X',_⟩;have a': ∀o,eJ w1 (U.putObj (w.heap.size+1) o):=λo=>n'.trans ((yS _ _ _).trans (X'.trans (yS _ _ _)));have j': ∀(j:Option Code),CL U.heap (w.heap.size+1) (rec .busy none)->C j.isNone (fU U.heap (w.heap.size+1) (rec (if j.isNone then .ready else .done) j))->
        ∃v l,(Instr.endRound (w.heap.size+1) j).run P U=.ok v l/\∃v',Ending.returned v=.returned v'/\(∃b,v'=.B b/\C b l.heap)/\eJ w1 l:=λj H' hC=>by
       have e5:({ (rec .busy none)with state:=if j.isNone then .ready else .done,pending:=j } :Loop)=rec (if j.isNone then .ready else .done) j:=by rw[O]
       refine⟨_,_,run_endRound j H',_,rfl,⟨_,rfl,?_⟩,a' _⟩;rw[e5];exact hC
      cases e3 with
      |normal=>exact j' none S.1 S.2
      |ret=>exact j' (some .ret) S.1 S.2
      |exit z'=>exact j' (some (.exit z')) S.1 S.2
      |_=>exact S.elim
     |_=>exact H.elim
    have O':(callFunc Z (#[.func (.yield (w.heap.size+1)) #[] #[]]++lb)).run P ((w.alloc (.deferred (some []))).alloc (.loop (rec .ready none)))=.ok (.enter Z (#[.func (.yield (w.heap.size+1)) #[] #[]]++lb)) ((w.alloc (.deferred (some []))).alloc (.loop (rec .ready none))):=by
     unfold lC at J;split at J;rename_i e' Q';simp only[bE,Bool.not_eq_true']at J;have hn:e'.body.isNone=false:=by cases H:e'.body<;>simp[H]at J⊢
     unfold callFunc;have h1: ¬e'.name= "runtime.NumGoroutine" :=λe=>by have:=J.2;rw[e]at this;cases this
     have h2: ¬e'.body=none:=λe=>by rw[e]at hn;cases hn
     simp[go_sem,Q',h1,h2];cases J
    refine⟨w.heap.size+1, [{ target:=.collected w.heap.size,args:= #[] }],(w.alloc (.deferred (some []))).alloc (.loop (rec .ready none)), { target:=.fn (.func Z) lb,args:= #[.func (.yield (w.heap.size+1)) #[] #[]] },(w.alloc (.deferred (some []))).alloc (.loop (rec .ready none)),Z,#[.func (.yield (w.heap.size+1)) #[] #[]]++lb,(w.alloc (.deferred (some []))).alloc (.loop (rec .ready none)),?_,?_,λ_ _=>trivial,by simp only[invoke];exact O',uR,?_⟩;rw[O];exact run_enterLoop_outer gn a.tmps V c' d';simp only[resolve,P'];simp[go_sem];refine CallsIn.mono (E8 (K' _ rfl)) ?_;rintro e U ⟨v,rfl,⟨st,T,Z',f',hJ⟩,s⟩;have V':eJ w U:=(Fb w _).trans ((Fb _ _).trans s);have e5:({ (rec st T)with state:=.exhausted } :Loop)=rec .exhausted T:=by rw[O]
    refine⟨(rec st T).pending,_,run_endLoop f' (by rw[O];exact Z'),?_⟩;rw[e5,show(rec st T).pending=T by rw[O]];have a':eJ w (U.putObj (w.heap.size+1) (.loop (rec .exhausted T))):=V'.trans (yS _ _ _);have y:([{ target:=.collected w.heap.size,args:= #[] }]:List Deferred)++a.defers=(w.heap.size::D).map mark:=by rw[q];rfl
    cases T with
    |none=>exact⟨w.heap.size::D,i,g,y,hJ,a',fK.refl _ _⟩
    |some c=>
     cases c with
     |ret=>exact wpIn_ret ⟨w.heap.size::D,i,g,y,hJ,a',fK.refl _ _⟩
     |exit z'=>
      cases C' with
      |zero=>exact hJ.elim
      |succ C'=>exact wpIn_exit ⟨w.heap.size::D,i,g,y,hJ,a',fK.refl _ _⟩
     |_=>exact hJ.elim
   exact h.elim
  exact h.elim
def yT:List Nat->Heap->(cM)->Prop
 | [],h,K=>K h
 |d::D,h,K=>h[d]? =some (.deferred (some []))/\yT D (h.setIfInBounds d (.deferred none)) K
def Yz(P:Program)(c:Array ResultVar)(R:dH):Exit->List Nat->Env->cM
 | .normal,D,b,h=>yT D h λH=>rT P c.toList b H λv=>R (te v) H
 | .ret,D,b,h=>yT D h λH=>rT P c.toList b H λv=>R (te v) H
 |_,_,_,_=>False
def Hv{t:Array Value}{i:Env}(c:Rel n i { tmps:=t,defers:= [] }): ∀(D:List Nat)(w:World),eJ w0 w->
  yT D w.heap (λb=>rT P F.results.toList i b λV=>R (te V) b)->
  LeavesInM (fw none) m P F t (λe g=> ∃v,e=.returned v/\R v g.heap/\eJ w0 g) (D.map mark) .returning w
 | [],w,H,h=>by have⟨v,j,k⟩:=qF (F:=λv=>R v w.heap) c h;exact⟨v,wE _ _ _ k,v,rfl,j,H⟩
 |d::D,w,H,h=>⟨bO,.inl ⟨d,w.putObj d (.deferred none),rfl,run_takeDeferred h.1,Hv c D _ (H.trans (yS _ _ _)) h.2⟩⟩
theorem gE{args:List Value}{h:Heap}(A:nQ)(q:P.funcs[f]? =some F)(k:F.body.isSome=true)(j:Nat.ble args.length F.ntmps=true)(i:rk P F.ntmps false A (oL F) (Yz P F.results R) [] (ku args) h):jS P f args.toArray h R:=by
 have⟨c,g⟩:=dV.1 k;rw[oL,g]at i;intro w u;subst u;have j:=Nat.le_of_ble_eq_true j;refine(callsIn_wide (n:=0)).1 (callsIn_of_wp_marks q g trivial ?_);have b:Rel F.ntmps (ku args) { tmps:=args.toArray++Array.replicate (F.ntmps - args.toArray.size) undef,defers:= [] } :=by refine⟨rfl,by grind,λt v d=> ?_⟩;unfold ku at d;have y:=(aS.1 d).1;simp only[dN];rw[cH ae];simp[d]
 refine wpIn_mono (lJ A none 0 c _ [] _ { tmps:=args.toArray++Array.replicate (F.ntmps - args.toArray.size) undef,defers:= [] } w b rfl i) ?_;rintro e a x ⟨D,z,b,p,H,s,_⟩;cases e with
 |exit id=>exact H.elim
 |goto l=>exact H.elim
 |panic C=>exact H.elim
 |outgrown=>exact H.elim
 |_=>show LeavesInM _ _ _ _ _ _ a.defers _ _;rw[p];exact Hv b D x s H

end
end Go.Den
namespace Go.Proofs.YticlajoleibdnaaGreatDoor
open Go.Den
open IntKind (wrap)
open Int (toNat)
section
variable {h:Heap} {R:dH}
variable {d c b:Nat} {B:bH}
def uV{K:bH}{k C:Nat} (z:Cl 83 #[.P d 0] h λv g=> ∃r,v=.I r/\ite (r==0) (R (.I 6) g) (Hl g d 1 λD T L=> ∃(I:iT)(M:iW),I 0 g/\∀t H,I t H->ite (decide (t<(T:Int))) (ay (λm=>(I (wrap .i64 (t+1)) m/\M (wrap .i64 (t+1)) m<M t H)) (λJ=>Bd t T/\aJ D λa=>sQ H (a.add (toNat t*129)) ([.int .i64]++List.replicate 128 (.int .u8)) λn=>aT H (.C (([.I 0]++List.replicate 128 (.int .u8 0):List Value)).toArray 383) λf u=>n.length=129/\cQ (AA f 0) n 0 u λi=>ay (λ(E:Bool) e=>ay (λw=>J w) (λl=>ite E (Hl e d 0 λG F O=>Hi e f 0 λp=>sQ e (AA f 1) (List.replicate 128 (.int .u8)) λq=>Bd p F/\aJ G λA=>q.length=128/\cQ (A.add (toNat p*128)) q 0 e λx=>l x) (l e))) (λj=>ite (decide (t<(k:Int))) (Bd t k/\aJ K λs=> ∃o,aQ i (s.add (toNat t*1))=some (.B o)/\j o i) (j false i)))) (aI H (AA d 1) (.Z) λy=>R (.I 0) y))):Cl 187 #[.P d 0,.L K k C] h R:=aD [(14,.loop [(15,sI)]),(22,.join []),(26,.join [(29,sB)]),(27,.join []),(28,λ_=>pK 10)] z
def Fc (e: ∃(I:Int->iT)(m:Int->iW),I 0 0 h/\∀n t H,I n t H->ite (decide (t<(c:Int))) (Bd t c/\aJ B λa=> ∃T,aQ H (a.add (toNat t*1))=some (.int .u8 T)/\(I (wrap .u64 ((ry (wrap .u64 (n*2 ^ min (toNat 8) (IntKind.bits .u64)))|||ry (wrap .u64 T)).toNat:Int)) (wrap .i64 (t+1)) H/\m (wrap .u64 ((ry (wrap .u64 (n*2 ^ min (toNat 8) (IntKind.bits .u64)))|||ry (wrap .u64 T)).toNat:Int)) (wrap .i64 (t+1)) H<m n t H)) (R (.U n) H)):Cl 409 #[.L B c b] h R:=aD [(8,.loop [(3,sU),(8,sI)])] e
def Cv (V:au.NW h λe H=>ite ((c:Int) !=128) (au.cR H (AA e 0) au.S.z λv=>au.ck v (AA e 0) λX=>R (.T #[X.agg,.I 3]) v) (ay (λ(s:bH) w=>aJ s λa=>au.ck w a λb'=>Cl 358 #[b'.agg] w λe' x=> ∃K I G L,e'=.T #[.L K I G,.I L]/\ay (λ(c':Bool) l=>ite c' (au.cR l (AA e 0) au.S.z λy=>au.ck y (AA e 0) λZ=>R (.T #[Z.agg,.I 3]) y) (aJ s λO=>au.ck l O λd'=>au.cR l (AA e 0) d' λz=>au.ck z (AA e 0) λa'=>R (.T #[a'.agg,.I 0]) z)) (λm=>ite (L !=0) (m true x) (Cl 194 #[.L K I G,.L B c b] x λf' U=> ∃M,f'=.B M/\m (!M) U))) (λJ=>((0:Int)<=12/\12<=(b:Int))/\((0:Int)<=4/\(4:Int)<=12)/\Bd 12 c/\aJ B λA=>Ji H (A.add (toNat 12*1)) λT=>((0:Int)<=17/\17<=(b:Int))/\((0:Int)<=13/\(13:Int)<=17)/\(Cl 409 #[.L (bV B b (toNat 4) 1) ((toNat 12) - (toNat 4)) (b - (toNat 4))] H λg' f=> ∃t,g'=.U t/\Kp H f [(some (A.add (toNat 12*1)))]/\(Cl 409 #[.L (bV B b (toNat 13) 1) ((toNat 17) - (toNat 13)) (b - (toNat 13))] f λh' g=> ∃D,h'=.U D/\Kp f g [(some (A.add (toNat 12*1)))]/\au.NW g λn q=>Kp g q [(some (A.add (toNat 12*1)))]/\au.cR q (AA n 0) ⟨t,(wrap .i64 T),(wrap .i64 D)⟩ λP=>J (Sa n 0) P)/\(au.NW f λo i=>Kp f i [(some (A.add (toNat 12*1)))]/\Cl 409 #[.L (bV B b (toNat 13) 1) ((toNat 17) - (toNat 13)) (b - (toNat 13))] i λi' r=> ∃E,i'=.U E/\Kp i r [(some (A.add (toNat 12*1)))]/\au.cR r (AA o 0) ⟨t,(wrap .i64 T),(wrap .i64 E)⟩ λQ=>J (Sa o 0) Q)/\True)/\(au.NW H λp j=>Kp H j [(some (A.add (toNat 12*1)))]/\Cl 409 #[.L (bV B b (toNat 4) 1) ((toNat 12) - (toNat 4)) (b - (toNat 4))] j λj' k=> ∃C,j'=.U C/\Kp j k [(some (A.add (toNat 12*1)))]/\Cl 409 #[.L (bV B b (toNat 13) 1) ((toNat 17) - (toNat 13)) (b - (toNat 13))] k λk' u=> ∃F,k'=.U F/\Kp k u [(some (A.add (toNat 12*1)))]/\au.cR u (AA p 0) ⟨C,(wrap .i64 T),(wrap .i64 F)⟩ λS=>J (Sa p 0) S)/\True))):Cl 348 #[.L B c b] h R:=aD [(11,.join [(4,sP)]),(11,λ_=> .ju (mL [0,1] (fE 6 3 (.alts (.fork 2 (.alts (.fork 9 (fE 4 10 .done) (.fork 12 (fE 3 9 (.op 13 .done)) .iH))) (.fork 12 (.op 2 (fE 3 9 (.op 13 .done))) .iH)))))),(16,.join [(35,sB)])] V
def yU (K:au.NW h λa z=>au.NW z λe D=> ∃(I:iT)(M:iW),I 0 D/\∀t H,I t H->ite (decide (t<2)) (ay (λo=>(I (wrap .i64 (t+1)) o/\M (wrap .i64 (t+1)) o<M t H)) (λJ=>Cl 347 #[.P d 0,.I t] H λa' p=> ∃u s r T,a'=.T #[.L u s r,.I T]/\ite (T !=0) (au.cR p (AA a 0) au.S.z λq=>au.ck q (AA a 0) λL=>R (.T #[L.agg,.I T]) q) (Cl 348 #[.L u s r] p λb' F=>au.EX λv=> ∃w,b'=.T #[v.agg,.I w]/\au.NW F λf G=>au.cR G (AA f 0) v λk=>ay (λ(U:Bool) i=>ay (λA=>J A) (λl=>ite U (au.ck i (AA f 0) λV=>au.cR i (AA e 0) V λC=>l C) (l i))) (λj=>ite (w==0) (au.ck k (AA f 0) λQ=>Cl 349 #[Q.agg] k λc' g=> ∃x,c'=.I x/\ite (x==t) (Hu g f 0 λS=> ∃y,Cc g e 0 (.U y)/\j (decide (S>y)) g) (j false g)) (j false k))))) (au.ck H (AA e 0) λX=> ∃(E:Bool),Lj 337 (X.agg) (au.S.z.agg) E/\ite E (au.cR H (AA a 0) au.S.z λm=>au.ck m (AA a 0) λO=>R (.T #[O.agg,.I 4]) m) (au.ck H (AA e 0) λZ=>au.cR H (AA a 0) Z λn=>au.ck n (AA a 0) λP=>R (.T #[P.agg,.I 0]) n))):Cl 285 #[.P d 0] h R:=aD [(8,.loop [(9,sI)]),(16,.join []),(32,.join [(41,sB)]),(33,.join [])] K
def Gf{a:aO.S}{l:Int}{n:Int} (w:aT h (.C a.arr 334) λm p=> ∃(I:Int->Int->bH->Nat->Nat->cM)(M:Int->Int->bH->Nat->Nat->Heap->Nat),(aO.ck p (AA m 0) λx=>Cl 350 #[.P d 0,x.agg,.I l,.I n] p λv q=> ∃T,v=.I T/\ite (T !=0) (R (.T #[.Z,.I T]) q) (I l n none 0 0 q))/\∀V e f O o H,I V e f O o H->ite (decide (e>0)) (Hi H m 0 λy=>Cl 347 #[.P d 0,.I (wrap .i64 (y+(wrap .i64 (Int.tdiv V 128))))] H λA r=> ∃u z t g,A=.T #[.L u z t,.I g]/\ite (g !=0) (R (.T #[.Z,.I g]) r) (((0:Int)<=wrap .i64 ((Int.tmod V 128)+(if wrap .i64 (128 - (Int.tmod V 128))<e then wrap .i64 (128 - (Int.tmod V 128))else e))/\wrap .i64 ((Int.tmod V 128)+(if wrap .i64 (128 - (Int.tmod V 128))<e then wrap .i64 (128 - (Int.tmod V 128))else e))<=((t:Nat):Int))/\((0:Int)<=Int.tmod V 128/\Int.tmod V 128<=wrap .i64 ((Int.tmod V 128)+(if wrap .i64 (128 - (Int.tmod V 128))<e then wrap .i64 (128 - (Int.tmod V 128))else e)))/\ij (Builtin.append_ #[69,69] 69 #[.L f O o,.slice (bV u t (toNat (Int.tmod V 128)) 1) ((toNat (wrap .i64 ((Int.tmod V 128)+(if wrap .i64 (128 - (Int.tmod V 128))<e then wrap .i64 (128 - (Int.tmod V 128))else e)))) - (toNat (Int.tmod V 128))) (t - (toNat (Int.tmod V 128)))]) r λC s=> ∃k j i,C=.L k j i/\(I (wrap .i64 (V+(if wrap .i64 (128 - (Int.tmod V 128))<e then wrap .i64 (128 - (Int.tmod V 128))else e))) (wrap .i64 (e - (if wrap .i64 (128 - (Int.tmod V 128))<e then wrap .i64 (128 - (Int.tmod V 128))else e))) k j i s/\M (wrap .i64 (V+(if wrap .i64 (128 - (Int.tmod V 128))<e then wrap .i64 (128 - (Int.tmod V 128))else e))) (wrap .i64 (e - (if wrap .i64 (128 - (Int.tmod V 128))<e then wrap .i64 (128 - (Int.tmod V 128))else e))) k j i s<M V e f O o H))) (R (.T #[.L f O o,.I 0]) H)):Cl 287 #[.P d 0,a.agg,.I l,.I n] h R:=aD [(2,λ_=> .scope 0 [(2,sI),(3,sI),(11,sS)] (sq (lq (lq (cq ll lf))) (lq ll)) (lq (sq (lq (cq (lq (sq (lq (cq ll lf)) (lq (lq (lq ll))))) lf)) ll)))] w
def uY(e:aT h (.C #[.L B c b] 69) λa H=>R (.func (.func 351) #[] #[.P a 0]) H):Cl 288 #[.L B c b] h R:=aD [] e
def oY{l:Nat}{C:Nat} (D: ∃(I:cM)(M:Heap->Nat),I h/\∀H,I H->∃d' s c',Cc H C 0 (.L d' s c')/\ite (decide (((s:Nat):Int)>0)) (∃f' u e',Cc H C 0 (.L f' u e')/\ite (decide (((u:Nat):Int)<2)) (xB Tryz.prog l #[.Z,.B false] H λh' w=> ∃(t:Bool),h'=.B t/\R (.T #[]) w) (Hl H C 0 λF E m'=>Bd 0 E/\aJ F λa=>Ji H (a.add (toNat 0*1)) λT=>Hl H C 0 λK G n'=>Bd 1 G/\aJ K λA=>Ji H (A.add (toNat 1*1)) λe=>Hl H C 0 λL o n=>((0:Int)<=2/\2<=(o:Int))/\aI H (AA C 0) (.L (bV L n (toNat 2) 1) (o - (toNat 2)) (n - (toNat 2))) λf=>ay (λ(U:Bool) g=>ite U (xB Tryz.prog l #[.Z,.B false] g λi' x=> ∃(g':Bool),i'=.B g'/\R (.T #[]) x) (Hl g C 0 λV p' k=>((0:Int)<=wrap .i64 ((BitVec.ofInt (IntKind.bits .i64) (wrap .i64 ((wrap .i64 T)*2 ^ min (toNat 8) (IntKind.bits .i64)))|||BitVec.ofInt (IntKind.bits .i64) (wrap .i64 e)).toNat:Int)/\wrap .i64 ((BitVec.ofInt (IntKind.bits .i64) (wrap .i64 ((wrap .i64 T)*2 ^ min (toNat 8) (IntKind.bits .i64)))|||BitVec.ofInt (IntKind.bits .i64) (wrap .i64 e)).toNat:Int)<=(k:Int))/\Cl 152 #[.slice (bV V k 0 1) ((toNat (wrap .i64 ((BitVec.ofInt (IntKind.bits .i64) (wrap .i64 ((wrap .i64 T)*2 ^ min (toNat 8) (IntKind.bits .i64)))|||BitVec.ofInt (IntKind.bits .i64) (wrap .i64 e)).toNat:Int))) - 0) (k - 0)] g λj' y=>Vl j' λa' Z X=>xB Tryz.prog l #[.L a' Z X,.B true] y λk' i=> ∃(v:Bool),k'=.B v/\ite (!v) (R (.T #[]) i) (Hl i C 0 λb' r q=>((0:Int)<=wrap .i64 ((BitVec.ofInt (IntKind.bits .i64) (wrap .i64 ((wrap .i64 T)*2 ^ min (toNat 8) (IntKind.bits .i64)))|||BitVec.ofInt (IntKind.bits .i64) (wrap .i64 e)).toNat:Int)/\wrap .i64 ((BitVec.ofInt (IntKind.bits .i64) (wrap .i64 ((wrap .i64 T)*2 ^ min (toNat 8) (IntKind.bits .i64)))|||BitVec.ofInt (IntKind.bits .i64) (wrap .i64 e)).toNat:Int)<=(r:Int))/\aI i (AA C 0) (.slice (bV b' q (toNat (wrap .i64 ((BitVec.ofInt (IntKind.bits .i64) (wrap .i64 ((wrap .i64 T)*2 ^ min (toNat 8) (IntKind.bits .i64)))|||BitVec.ofInt (IntKind.bits .i64) (wrap .i64 e)).toNat:Int))) 1) (r - (toNat (wrap .i64 ((BitVec.ofInt (IntKind.bits .i64) (wrap .i64 ((wrap .i64 T)*2 ^ min (toNat 8) (IntKind.bits .i64)))|||BitVec.ofInt (IntKind.bits .i64) (wrap .i64 e)).toNat:Int)))) (q - (toNat (wrap .i64 ((BitVec.ofInt (IntKind.bits .i64) (wrap .i64 ((wrap .i64 T)*2 ^ min (toNat 8) (IntKind.bits .i64)))|||BitVec.ofInt (IntKind.bits .i64) (wrap .i64 e)).toNat:Int))))) λm=>(([]:List Nat)= []/\I m/\M m<M H)))) (λJ=> ∃P p O,Cc f C 0 (.L P p O)/\ite (decide ((wrap .i64 ((BitVec.ofInt (IntKind.bits .i64) (wrap .i64 ((wrap .i64 T)*2 ^ min (toNat 8) (IntKind.bits .i64)))|||BitVec.ofInt (IntKind.bits .i64) (wrap .i64 e)).toNat:Int))>((p:Nat):Int))) (([]:List Nat)= []/\J true f) (Hl f C 0 λQ o' j=>((0:Int)<=wrap .i64 ((BitVec.ofInt (IntKind.bits .i64) (wrap .i64 ((wrap .i64 T)*2 ^ min (toNat 8) (IntKind.bits .i64)))|||BitVec.ofInt (IntKind.bits .i64) (wrap .i64 e)).toNat:Int)/\wrap .i64 ((BitVec.ofInt (IntKind.bits .i64) (wrap .i64 ((wrap .i64 T)*2 ^ min (toNat 8) (IntKind.bits .i64)))|||BitVec.ofInt (IntKind.bits .i64) (wrap .i64 e)).toNat:Int)<=(j:Int))/\Cl 227 #[.slice (bV Q j 0 1) ((toNat (wrap .i64 ((BitVec.ofInt (IntKind.bits .i64) (wrap .i64 ((wrap .i64 T)*2 ^ min (toNat 8) (IntKind.bits .i64)))|||BitVec.ofInt (IntKind.bits .i64) (wrap .i64 e)).toNat:Int))) - 0) (j - 0)] f λl' z=>Vb l' λS=>([]:List Nat)= []/\J (!S) z)))) (R (.T #[]) H)):Cl 351 #[.func (.yield l) #[] #[],.P C 0] h R:=gE (bq (.loop [] (sq (lq (cq lf lf)) (bq (sq (lq (cq ll lf)) (sq (pN 11) (lq (sq (sq (.join [(34,.one (.bool))] lf) (cq ll lf)) (sq (lq (cq lf lf)) lf))))))))) Tryz.func351 rfl rfl (Eq.mp zzkr D)
def oJ (hv:aT h (.C #[.Q none] 231) λa k'=>aT k' (.C #[.Z] 164) λe p'=>aT p' (.C #[.I 0] 28) λf u'=>Cl 285 #[.P d 0] u' λM' v'=>au.EX λQ=> ∃t,M'=.T #[Q.agg,.I t]/\au.NW v' λi w'=>au.cR w' (AA i 0) Q λq=>ite (t !=0) (aI q (AA a 0) (.Q none) λx'=>aI x' (AA e 0) (.Z) λy'=>aI y' (AA f 0) (.I t) λo=>Hp o a 0 λr0=>Hl o e 0 λE' C' A'=> ∃L,Cc o f 0 (.I L)/\R (.T #[.Q r0,.L E' C' A',.I L]) o) (au.ck q (AA i 0) λG'=>Cl 286 #[.P d 0,G'.agg] q λO' l=>Vp O' λS=>Hi l i 1 λT=>aJ S λi'=>Bd T 2/\aO.ck l ((i'.add 1).add (toNat T*2)) λH'=>Hi l i 2 λI'=>Cl 287 #[.P d 0,H'.agg,.I 0,.I I'] l λP' p=> ∃X V U Z,P'=.T #[.L X V U,.I Z]/\Cc p i 1 (.I T)/\ite (Z !=0) (aI p (AA a 0) (.Q none) λl'=>aI l' (AA e 0) (.Z) λm'=>aI m' (AA f 0) (.I 3) λm=>Hp m a 0 λz'=>Hl m e 0 λF' D' B'=> ∃M,Cc m f 0 (.I M)/\R (.T #[.Q z',.L F' D' B',.I M]) m) (aT p (.C #[.Z] 164) λk n'=>Cl 288 #[.L X V U] n' λQ' H=> ∃a',Q'=a'/\uT Tryz.prog (a') H (λrec C args v=> ∃d' c' b' e',args= [.L d' c' b',.B e']/\CL v (H.size+1) (rec .ready none)/\∀n,n=fU v (H.size+1) (rec .busy none)->ite (!e') (aI n (AA a 0) (.Q none) λo'=>aI o' (AA e 0) (.Z) λq'=>aI q' (AA f 0) (.I 3) λw=>(CL w (H.size+1) (rec .busy none)/\C false (fU w (H.size+1) (rec .done (some .ret))))) (Hl n k 0 λL' K' J'=>aT n (.C #[.L d' c' b'] 69) λj' r'=>ij (Builtin.append_ #[164,164] 164 #[.L L' K' J',.L (Sa j' 0) 1 1]) r' λR' s'=> ∃h' g' f',R'=.L h' g' f'/\aI s' (AA k 0) (.L h' g' f') λx=>(CL x (H.size+1) (rec .busy none)/\C true (fU x (H.size+1) (rec .ready none))))) (Bm (λg=> ∃u s r,Cc g k 0 (.L u s r)/\aI g (AA a 0) (.Q S) λy=>Cc y k 0 (.L u s r)/\aI y (AA e 0) (.L u s r) λt'=>aI t' (AA f 0) (.I 0) λj=>j[H.size]? =some (.deferred (some []))/\∃z,aQ (j.setIfInBounds H.size (.deferred none)) (AA a 0)=some (.Q z)/\∃J F D,aQ (j.setIfInBounds H.size (.deferred none)) (AA e 0)=some (.L J F D)/\∃O,aQ (j.setIfInBounds H.size (.deferred none)) (AA f 0)=some (.I O)/\R (.T #[.Q z,.L J F D,.I O]) (j.setIfInBounds H.size (.deferred none))) (λG=>G[H.size]? =some (.deferred (some []))/\∃A,aQ (G.setIfInBounds H.size (.deferred none)) (AA a 0)=some (.Q A)/\∃K I E,aQ (G.setIfInBounds H.size (.deferred none)) (AA e 0)=some (.L K I E)/\∃P,aQ (G.setIfInBounds H.size (.deferred none)) (AA f 0)=some (.I P)/\R (.T #[.Q A,.L K I E,.I P]) (G.setIfInBounds H.size (.deferred none))) (λ_ _=>False))))):Cl 213 #[.P d 0] h R:=gE (lq (lq (sq (lq (cq ll lf)) (lq (sq (pN 16) (sq (lq (cq ll lf)) (lq (sq (lq (bq (.scope 0 [(41,.one (.slice)),(42,.one (.bool))] ll (bq (sq (lq (cq ll lf)) lf))))) (sq (pN 5) lf))))))))) Tryz.func213 rfl rfl (Eq.mp zzkr hv)
def oZ{j:Nat}(a:Cl 226 #[.P j 0] h λv H=> ∃t,v=.B t/\ite (!t) (R (.I 0) H) (∃T,Cc H j 14 (.I T)/\R (.I T) H)):Cl 232 #[.P j 0] h R:=aD [] a

end
end Go.Proofs.YticlajoleibdnaaGreatDoor
namespace Go.Den
def cF{b:Bool}{A B:Prop}(h:b=true)(a:A):ite (b=true) A B:=by rw[ah h];exact a
def bo{b:Bool}{A B:Prop}(h:b=false)(a:B):ite (b=true) A B:=by rw[af (by rw[h];decide)];exact a
def Rx{h:Heap}{p:bH}{c:cO}(g:Row h p (bc c)){i:Nat}(b:i<c.length): ∃a,p=some a/\aQ h (a.add (i*1))=some (.int .u8 ((c[i]).toNat:Int)):=by obtain⟨a,rfl⟩:=g.some (by intro e;have:=bY List.length e;rw[fO]at this;simp at this;rw[this]at b;cases b);exact⟨a,rfl,by rw[bJ];exact g.cell (by unfold bc;rw[aP,ai b];rfl)⟩
end Go.Den
namespace Go.Proofs.YticlajoleibdnaaGreatDoor
open Go.Den
namespace qM
variable {h H : Heap} {R : Value → Heap → Prop} {d n : Nat} {X : Ft} {s : DS}
def OY{C:bH}{w K:Nat}(k:Dk h d X n s)(J:0<n)(i:s.W= [])(v: ∀H m,Dk H d m n s->cW X h m H->R (.I 0) H):Cl 187 #[pt d,.L C w K] h R:=by
 refine uV (jE k ⟨_,rfl,bo (fV.2 ae) ?_⟩);obtain⟨l,I,G,x,y,A⟩:=k;refine⟨I,s.W.length,G,aj A.cV,λt g=>t=0/\g=h,λ_ _=>0,⟨rfl,rfl⟩,?_⟩;rintro _ g ⟨rfl,u⟩;subst u;refine bo (by rw[i];rfl) (aY A.cV (by show 1<4;omega) λb D o r=> ?_);have F:Fr (λy=>y=d) g b:=Fr.of_eq o r;have j: ∀y,¬aN none y:=λy ⟨a,e,_⟩=>by cases e
 have E:s.W.length=0:=by rw[i];rfl
 have B:eA.ff b d ⟨l,n,n,none,s.W.length,0,x,y⟩:=by rw[E];exact D
 refine v b ⟨λy=>y=d\/aN l y\/aN none y,λ_=>False⟩ ⟨l,none,0,x,y,B,A.l.frame F (λz q e=>A.d1 (e▸q)),by rw[i];exact .nil rfl rfl rfl rfl,A.ok,λy=>dY,λ_=>id,A.d1,j d,λy _=>j y⟩ ⟨F.mono λz _ q=>(A.m z).2 (.inl q),λz q=> .inl ?_,λz q=>q.elim,λz q=>(A.dd z q).elim⟩;rcases q with q|q|q;exact(A.m z).2 (.inl q);exact(A.m z).2 (.inr (.inl q));exact(j z q).elim
end qM
namespace Im
open qM
variable {h f H : Heap} {R : Value → Heap → Prop} {d n : Nat} {X : Ft} {s : DS} {c : List UInt8} {p : Option Addr}
def IX(l:cO):Nat:=l.foldl (λn b=>n*256+b.toNat) 0
def KH(l:cO)(x:UInt8):IX (l++ [x])=IX l*256+x.toNat:=by simp[IX]
def LW: ∀(k:Nat)(l:cO),l.length=k->IX l<256 ^ k
 |0,l,h=>by obtain rfl:=List.eq_nil_of_length_eq_zero h;decide
 |k+1,l,h=>by obtain⟨m,x,rfl⟩: ∃m x,l=m++ [x]:=⟨l.dropLast,l.getLast (by intro e;rw[e]at h;cases h),(List.dropLast_concat_getLast _).symm⟩;have i:=LW k m (dQ h);have:=x.toNat_lt;rw[KH,Nat.pow_succ];omega
def YA(n C:Nat)(b:n<72057594037927936)(a:C<256):IntKind.wrap .u64 ((BitVec.ofInt (IntKind.bits .u64) (IntKind.wrap .u64 ((n:Int)*2 ^ min (Int.toNat 8) (IntKind.bits .u64)))|||BitVec.ofInt (IntKind.bits .u64) (IntKind.wrap .u64 (C:Int))).toNat:Int)=((n*256+C:Nat):Int):=by
 rw[show min (Int.toNat 8) (IntKind.bits .u64)=8 from rfl,show IntKind.bits .u64=64 from rfl,wrap_u64 (n:=(n:Int)*2 ^ 8) ae ae,wrap_u64 (n:=(C:Int)) ae ae,
  show((n:Int)*2 ^ 8)=((2 ^ 8*n:Nat):Int) by omega,fG,fG,BitVec.toNat_or,gg,gg,fo ae,fo ae,<-Nat.two_pow_add_eq_or_of_lt (show C<2 ^ 8 by omega),HN]
 omega
def Ry{l b:Nat}(r:Row h p (bc c))(m:l=c.length)(u:c.length<=8)(k:R (.U (IX c:Int)) h):Cl 409 #[.L p l b] h R:=by
 subst m;refine Fc ⟨λn t g=>g=h/\∃i:Nat,t=(i:Int)/\i<=c.length/\n=(IX (c.take i):Int),λ_ t _=>c.length - t.toNat,⟨rfl,0,rfl,bg _,rfl⟩,?_⟩;rintro _ _ _ ⟨rfl,i,rfl,w,rfl⟩;by_cases C:i<c.length;obtain⟨a,rfl,j⟩:=Rx r C;have v:=LW i (c.take i) (by rw[bM];omega);have o:256 ^ i<=256 ^ 7:=Nat.pow_le_pow_right bA ae;have q:(256:Nat) ^ 7=72057594037927936:=bA
 have x:=(c[i]).toNat_lt;have e:IX (c.take (i+1))=IX (c.take i)*256+(c[i]).toNat:=by rw[bt,ai C];exact KH _ _
 refine cF (aq ae) ⟨ae,av.2 ⟨_,by rw[aG];exact j,?_⟩⟩;rw[YA _ _ ae ae,<-e,eY];exact⟨⟨rfl,i+1,rfl,C,rfl⟩,by show c.length - Int.toNat ((i:Int)+1)<c.length - Int.toNat (i:Int);omega⟩;obtain rfl:i=c.length:=ae
 refine bo (aA ae) ?_;rw[fk];exact k
def LX(a: ∀g,Fr No h g->R (.B false) g):Cl 421 #[(⟨0,0,0⟩:au.S).agg] h R:=
 pD (au.cE λb g e B F=>⟨_,aj B,bo rfl (a g F)⟩)
def LY(i: ∀g,Fr No h g->R (.T #[.Z,.I 3]) g):Cl 358 #[(⟨0,0,0⟩:au.S).agg] h R:=
 pE (au.cE λb j E B F=>au.dZ B (LX λe a=>⟨_,rfl,cF rfl (i e (F.tt a))⟩))
def Rz{J : bH -> Heap -> Prop}(z : Row h p (bc c))(hl : c.length = 128)(I : ∀ g b, Fr No h g -> h.size <= b -> au.ff g b ⟨IX ((c.take 12).drop 4), ((c.getD 12 0).toNat : Int), IX ((c.take 17).drop 13)⟩ -> J (Sa b 0) g):
    ((0 : Int) <= 12 /\ 12 <= ((128 : Nat) : Int)) /\ ((0 : Int) <= 4 /\ (4 : Int) <= 12) /\ ((0 : Int) <= 12 /\ 12 < ((128 : Nat) : Int)) /\ aJ p λA => ∃ t, aQ h (A.add (Int.toNat 12 * 1)) = some (.int .u8 t) /\
      ((0 : Int) <= 17 /\ 17 <= ((128 : Nat) : Int)) /\ ((0 : Int) <= 13 /\ (13 : Int) <= 17) /\
      (Cl 409 #[.L (bV p 128 (Int.toNat 4) 1) ((Int.toNat 12) - (Int.toNat 4)) (128 - (Int.toNat 4))] h λd' j => ∃ T, d' = .U T /\ Kp h j [(some (A.add (Int.toNat 12 * 1)))] /\
        (Cl 409 #[.L (bV p 128 (Int.toNat 13) 1) ((Int.toNat 17) - (Int.toNat 13)) (128 - (Int.toNat 13))] j λe' m => ∃ P, e' = .U P /\ Kp j m [(some (A.add (Int.toNat 12 * 1)))] /\
          aT m (.C au.S.z.arr 337) λB K => Kp m K [(some (A.add (Int.toNat 12 * 1)))] /\ au.cR K (AA B 0) ⟨T, (IntKind.wrap .i64 t), (IntKind.wrap .i64 P)⟩ λo => J (Sa B 0) o) /\
        (aT j (.C au.S.z.arr 337) λC q => Kp j q [(some (A.add (Int.toNat 12 * 1)))] /\
          Cl 409 #[.L (bV p 128 (Int.toNat 13) 1) ((Int.toNat 17) - (Int.toNat 13)) (128 - (Int.toNat 13))] q λh' L => ∃ Q, h' = .U Q /\ Kp q L [(some (A.add (Int.toNat 12 * 1)))] /\
          au.cR L (AA C 0) ⟨T, (IntKind.wrap .i64 t), (IntKind.wrap .i64 Q)⟩ λa' => J (Sa C 0) a') /\ True) /\
      (aT h (.C au.S.z.arr 337) λD v => Kp h v [(some (A.add (Int.toNat 12 * 1)))] /\
        Cl 409 #[.L (bV p 128 (Int.toNat 4) 1) ((Int.toNat 12) - (Int.toNat 4)) (128 - (Int.toNat 4))] v λi' w => ∃ O, i' = .U O /\ Kp v w [(some (A.add (Int.toNat 12 * 1)))] /\
        Cl 409 #[.L (bV p 128 (Int.toNat 13) 1) ((Int.toNat 17) - (Int.toNat 13)) (128 - (Int.toNat 13))] w λj' M => ∃ U, j' = .U U /\ Kp w M [(some (A.add (Int.toNat 12 * 1)))] /\
        au.cR M (AA D 0) ⟨O, (IntKind.wrap .i64 t), (IntKind.wrap .i64 U)⟩ λb' => J (Sa D 0) b') /\ True := by
  have S : ∀{g : Heap}(l u : Nat), Row g p (bc c) -> l <= u -> u <= 128 -> Row g (bV p 128 l 1) (bc ((c.take u).drop l)) := λl u c' h1 h2 => by
    have := c'.sub (cap := 128) (l := l) (u := u) (sz := 1) h1 h2
    rw [bJ, bJ] at this
    unfold bc at this ⊢
    rwa [List.map_drop, List.map_take]
  obtain ⟨a, rfl, hc⟩ := Rx (i := 12) z ae
  have E : ∀{g : Heap}{R : dH}, Fr No h g -> R (.U (IX ((c.take 12).drop 4) : Int)) g -> Cl 409 #[.L (bV (some a) 128 (Int.toNat 4) 1) ((Int.toNat 12) - (Int.toNat 4)) (128 - (Int.toNat 4))] g R := λi x =>
    Ry (S 4 12 (z.frame i (λ_ _ => id)) bA bA) (by rw [cj, bM]; omega) (by rw [cj, bM]; omega) x
  have G : ∀{g : Heap}{R : dH}, Fr No h g -> R (.U (IX ((c.take 17).drop 13) : Int)) g -> Cl 409 #[.L (bV (some a) 128 (Int.toNat 13) 1) ((Int.toNat 17) - (Int.toNat 13)) (128 - (Int.toNat 13))] g R := λi x =>
    Ry (S 13 17 (z.frame i (λ_ _ => id)) bA bA) (by rw [cj, bM]; omega) (by rw [cj, bM]; omega) x
  have Z : c.getD 12 0 = c[12] := by rw [aL, ai ae]; rfl
  have hx := (c[12]).toNat_lt
  have hv := LW 4 ((c.take 17).drop 13) (by rw [cj, bM]; omega)
  have h4 : (256 : Nat) ^ 4 = 4294967296 := bA
  rw [Z] at I
  refine ⟨ae, ae, ae, av.2 ⟨_, hc, ae, ae, ?_⟩⟩
  rw [df (n := ((c[12]).toNat : Int)) ae ae]
  have F : ∀(g : Heap), Fr No g (g.push (.C au.S.z.arr 337)) := λg => Fr.push _ _
  have r : Fr No h h := Fr.refl _ _
  have k : ∀ g b y, Fr No h g -> h.size <= b -> au.ff g b y -> au.cR g (AA b 0) ⟨(IX ((c.take 12).drop 4) : Int), ((c[12]).toNat : Int), IntKind.wrap .i64 (IX ((c.take 17).drop 13) : Int)⟩ λo => J (Sa b 0) o := λg b y i l d => by
    rw [eY]
    exact au.fB d λg' V f' _ => I g' b (i.fresh f' λk' e => by have : k' = b := e; omega) l V
  refine ⟨E r ⟨_, rfl, r.kp, G r ⟨_, rfl, r.kp, bn ⟨(F h).kp, k _ _ _ (F h) (bf _) aU⟩⟩, bn ⟨(F h).kp, G (F h) ⟨_, rfl, (Fr.refl _ _).kp, k _ _ _ (F h) (bf _) aU⟩⟩, trivial⟩, bn ⟨(F h).kp, E (F h) ⟨_, rfl, (Fr.refl _ _).kp, G (F h) ⟨_, rfl, (Fr.refl _ _).kp, k _ _ _ (F h) (bf _) aU⟩⟩⟩, trivial⟩
theorem ja{p q:bH}{n m C d:Nat}{a b:cO}(r:Row h p (bc a))(j:Row h q (bc b))(i:n=a.length)(g:m=b.length)(e:R (.B (decide (a=b))) h):Cl 194 #[.L p n C,.L q m d] h R:=by
 refine la ⟨_,gD.conv r i,_,gD.conv j g,?_⟩;rw[ps,ps];have:(a==b)=decide (a=b):=by grind
 rw[this];exact e
abbrev OZ:SU:=⟨1,0,0⟩
def RA(b:Bool):au.S:=if b=true then OZ.S else au.S.z
def Zk(b:Bool):Int:=if b=true then 0 else 3
def mi(b:Bool):cO:=if b=true then BC OZ else wu
def TE(b:Bool):(mi b).length=128:=by unfold mi;split;exact ua _;rfl
def TF(b:Bool)(u:Row h p (bc (mi b)))(t: ∀g,Fr No h g->R (.T #[(RA b).agg,.I (Zk b)]) g):Cl 348 #[.L p 128 128] h R:=by
 refine Cv (au.cE (x:=au.S.z) λB K E o l=>bo rfl (ay.of λJ x=>Rz (u.frame l bD) (TE b) λg A m L D=> ?_));have M:=(bP.1 o).1;have r:=m.get o id;have F:=l.tt m;have U:=F.1;have y:=u.frame F bD;subst x;cases b with
 |false=>
  have e:(⟨IX (((mi false).take 12).drop 4),(((mi false).getD 12 0).toNat:Int),IX (((mi false).take 17).drop 13)⟩:au.S)=⟨0,0,0⟩:=zzkr
  rw[e]at D;refine av.2 (au.dZ D (LY λw a=>⟨_,_,_,_,rfl,ay.of λv k=>cF rfl ?_⟩));subst k;exact cF rfl (au.fB (x:=au.S.z) (a.get r id) λG i j _=>au.dZ i (t G ((F.tt a).fresh j λz q=>by have:z=B:=q;omega)))
 |true=>
  have e:(⟨IX (((mi true).take 12).drop 4),(((mi true).getD 12 0).toNat:Int),IX (((mi true).take 17).drop 13)⟩:au.S)=OZ.S:=zzkr
  rw[e]at D;refine av.2 (au.dZ D (ye (x:=OZ) ⟨bA,bA,bA,bA⟩ λP C w O a I=>⟨_,_,_,_,rfl,ay.of λv k=>bo rfl ?_⟩));refine ja (a:=BC OZ) (b:=BC OZ) O.iy (y.frame a bD) (ua _).symm (ua _).symm ⟨_,rfl,?_⟩;rw[aq rfl];subst k;exact bo rfl (av.2 (au.dZ (a.get D id) (au.fB (x:=OZ.S) (a.get r id) λG i j _=>au.dZ i (t G ((F.tt a).fresh j λz q=>by have:z=B:=q;omega)))))
def Hw(b:Bool)(T:Dk h d X n s)(n2:2<=n)(hw:s.W.length<=1000000)(f:s.get 0=mi false)(h1:s.get 1=mi b)(Q: ∀g,Fr No h g->R (.T #[(RA b).agg,.I (if b=true then 0 else 4)]) g):
  Cl 285 #[.P d 0] h R:=by
 refine yU (au.cE (x:=au.S.z) λB g0 e0 E K=>au.cE (x:=au.S.z) λm g1 e1 I x=> ?_);have S:=K.tt x;have u0:=K.1;have u1:=x.1;have l0:=(bP.1 E).1;have l1:=(bP.1 I).1;refine⟨λt g=> ∃k:Nat,t=(k:Int)/\k<=2/\Fr No h g/\au.ff g B au.S.z/\au.ff g m (if k=2 then RA b else au.S.z),λt _=>2 - t.toNat,⟨0,rfl,bA,S,x.get E id,I⟩,?_⟩;rintro _ g ⟨k,rfl,b',l,w,D⟩;by_cases a':k<2
 .refine cF (aq ae) (ay.of λJ hJ=>qM.Il (T.on l) (i:=k) ae hw λg2 p o gp L=>⟨_,_,_,_,rfl,bo rfl ?_⟩);rw[fe]at D;have next: ∀G,Fr No h G->au.ff G B au.S.z->au.ff G m (if k+1=2 then RA b else au.S.z)->J G:=λG f' A a=>by
   subst hJ;refine⟨⟨k+1,by rw[eY];rfl,ae,f',A,a⟩,?_⟩;show 2 - Int.toNat (IntKind.wrap .i64 ((k:Int)+1))<2 - Int.toNat (k:Int);rw[eY];omega
  obtain⟨q,Z,C⟩: ∃q:Bool,s.get k=mi q/\(if k+1=2 then RA b else au.S.z)=(if k=1 then RA q else au.S.z)/\(q=true->k=1):=by rcases k with _|_|k;exact⟨false,f,rfl,λe=>by cases e⟩;exact⟨b,h1,rfl,λ_=>rfl⟩;omega
  rw[Z]at o;refine TF q o.iy λr F=>au.ex (RA q) ⟨_,rfl,au.fX (x:=RA q) λb2 g4 e4 v f4=> ?_⟩;have j:=(L.tt F).tt f4;have A:=j.get w id;have a:=j.get D id;have l4:=(bP.1 a).1;have u4:=j.1;have c':=(bP.1 D).1;have u3:=(L.tt F).1;refine ay.of λJ1 P=> ?_;cases q with
  |false=>refine bo rfl ?_;subst P;refine ay.of λU z=>bo rfl ?_;subst z;refine next g4 (l.tt j) A ?_;rw[C.1];rw[show(if k=1 then RA false else au.S.z)=au.S.z by split<;>rfl];exact a
  |true=>obtain rfl:=C.2 rfl;refine cF rfl (au.dZ v (MN (x:=OZ) bA λg5 i=>⟨_,rfl,cF rfl ⟨_,aj (i.get v id),_,aj (i.get a id),?_⟩⟩));subst P;refine ay.of λU z=>cF rfl (au.dZ (i.get v id) (au.fB (x:=RA true) (i.get a id) λO V f6 _=> ?_));subst z;have M:Fr (λy=>y=m) g5 O:=f6;refine next O (((l.tt j).tt i).fresh M λy e=>ae) (M.get (i.get A id) ae) ?_;rw[C.1];exact V
 obtain rfl:k=2:=ae
 rw[ah rfl]at D;refine bo rfl (au.dZ D ?_);have dd:B≠m:=ae
 cases b with
 |false=>exact⟨true,NB.of zzkr,cF rfl (au.fB (x:=au.S.z) w λr u F _=>au.dZ u (Q r (l.fresh F λy e=>by have:y=B:=e;omega)))⟩
 |true=>exact⟨false,NB.of zzkr,bo rfl (au.dZ D (au.fB (x:=RA true) w λr u F _=>au.dZ u (Q r (l.fresh F λy e=>by have:y=B:=e;omega))))⟩
end Im
end Go.Proofs.YticlajoleibdnaaGreatDoor
namespace Go.Proofs.YticlajoleibdnaaGreatDoor
open Go.Den
open IntKind (wrap)
open Int (toNat)
section
namespace zK
open jk
variable {h:Heap} {R:dH} {s:ByteArray}
variable {c d:Bool} {J:Bool->Heap->Prop}
def Po{X:Prop}(H:J (c||d) h)(a:J d h->X):ite (c=true) (J c h) X:=by
 cases c with
 |true=>exact H
 |false=>exact a H
def XC(H:J (c||d) h):ite (c=true) (J c h) (J d h):=Po H id
def O0{A B:Prop}(t:c=true->A)(f:c=false->B):ite (c=true) A B:=by
 cases c with
 |true=>exact t rfl
 |false=>exact f rfl
def RB(H:R (.T #[.S (str (iO s).1),.B (iO s).2]) h):Cl 45 #[.S s] h R:=by
 refine BE ?_;simp only[eqs];refine ay.of λJ b=> ?_;have e:J (isS s [99,111,110,110,101,99,116]||(isS s [115,116,101,112]||(isS s [97,110,115,119,101,114]||(isS s [116,97,107,101]||(isS s [110,111,119]||(isS s [108,105,110,101,115]||isS s [106,117,100,103,101])))))) h:=by
  subst b;unfold iO at H;refine O0 (λq=>by rw[ah q]at H;exact H) λq=> ?_;rw[af (Bool.eq_false_iff.1 q)]at H;refine ay.of λJ b=> ?_;have e:J (isS s [99,108,111,115,101]||(isS s [111,117,116]||(isS s [116,105,99,107]||isS s [119,97,105,116,115]))) h:=by subst b;refine O0 (λq=>by rw[ah q]at H;exact H) λq=> ?_;rw[af (Bool.eq_false_iff.1 q)]at H;refine O0 (λq=>by rw[ah q]at H;exact H) λq=> ?_;rw[af (Bool.eq_false_iff.1 q)]at H;refine O0 (λq=>by rw[ah q]at H;exact H) λq=> ?_;rw[af (Bool.eq_false_iff.1 q)]at H;refine O0 (λq=>by rw[ah q]at H;exact H) λq=> ?_;rw[af (Bool.eq_false_iff.1 q)]at H;refine O0 (λq=>by rw[ah q]at H;exact H) λq=> ?_;rw[af (Bool.eq_false_iff.1 q)]at H;exact H
  exact Po e λe=>ay.of λK a=>by subst a;exact Po (J:=λt g=>J t g) e λe=>ay.of λK a=>by subst a;exact XC (J:=λt g=>J t g) e
 exact Po e λe=>ay.of λK a=>by subst a;exact Po (J:=λt g=>J t g) e λe=>ay.of λK a=>by subst a;exact Po (J:=λt g=>J t g) e λe=>ay.of λK a=>by subst a;exact Po (J:=λt g=>J t g) e λe=>ay.of λK a=>by subst a;exact Po (J:=λt g=>J t g) e λe=>ay.of λK a=>by subst a;exact XC (J:=λt g=>J t g) e
def O2(t:vx h)(E:Er h)(a:s.size<=100000)(H: ∀g,Fr No h g->R (.T #[.U (FE s:Int),.B (U3 s)]) g):Cl 46 #[.S s] h R:=by
 refine zT (U2 E a λg v f e=>⟨_,_,rfl,_,e.eq,?_⟩);have H:=H;unfold U3 at H;cases p:MF s with
 |false=>rw[p]at H;exact bo rfl (H g f)
 |true=>rw[p]at H;refine cF rfl ?_;by_cases c:FE s<=2147483648;rw[aq c]at H;refine cF (aq ae) (jm (t.on f) (Qa s) λG F=>⟨_,rfl,?_⟩);rw[XY];exact H G (f.tt F);rw[aA c]at H;exact bo (aA ae) (H g f)
def RC(s:bC)(i:Nat):(FG s i).toNat<256:=(FG s i).toNat_lt
def Nq(c:UInt8):decide (Lib.indexByte JD c<0)= !Od c:=by simp[Od]
def Hx(c:UInt8):UInt8.ofNat c.toNat=c:=bO
def Zl:jL Tryz.prog 69 5 1 1 (.int .u8 0):=⟨zzkr,zzkr,rfl⟩
def Zm:jL Tryz.prog 70 4 1 1 (.B false):=⟨zzkr,zzkr,rfl⟩
def Zn:Tryz.prog.underlying 70=some (.slice 4):=zzkr
def Xf(n:Int): ∃c:UInt8,IntKind.wrap .u8 n=(c.toNat:Int):=by have h:=IntKind.wrap_u8 n;exact⟨UInt8.ofNat (n%256).toNat,by rw[h];simp;omega⟩
def LZ(c:UInt8)(n:Nat)(H:n<256):((c.toNat:Int)==(n:Int))=(c==UInt8.ofNat n):=
 dA.2 (by rw[cU,cU,<-UInt8.toNat_inj,UInt8.toNat_ofNat',fo H];omega)
def VN{n:Int}{Q:Int->Prop}(h: ∀c:UInt8,Q (c.toNat:Int)):Q (IntKind.wrap .u8 n):=by obtain⟨c,H⟩:=Xf n;rw[H];exact h c
def gJ(D:s.size<=100000)(H: ∀g p c b,Fr No h g->Row g p (bc b)->(∀y,aN p y->h.size<=y/\y<g.size)->b.length<=s.size/\b.length<=c->R (.T #[.L p b.length c,.B (Ls s)]) g):Cl 47 #[.S s] h R:=by
 refine BF ?_;simp only[eqs];unfold Ls at H;cases d:isS s [45]with
 |true=>rw[d]at H;exact cF rfl (H h none 0 [] (Fr.refl _ _) .nil (λy ⟨a,e,_⟩=>by cases e) ⟨bg _,bf _⟩)
 |false=>
  rw[d]at H;refine bo rfl ⟨λp l c i g=> ∃(k:Nat)(b:cO),i=((2*k:Nat):Int)/\l=b.length/\b.length=k/\k<=s.size/2/\Den.Own g p l c 1 (bc b)/\(∀y,aN p y->h.size<=y)/\Fr No h g/\∀j,j<k->GM s j=true,λ_ _ _ i _=>s.size - i.toNat,
   ⟨0, [],rfl,rfl,rfl,bg _,.nil rfl rfl rfl rfl,(λy ⟨a,e,_⟩=>by cases e),Fr.refl _ _,λj n=>absurd n (Nat.not_lt_zero _)⟩,?_⟩
  rintro p _ c _ g ⟨k,b,rfl,rfl,L,K,o,r,f,all⟩;have z:IntKind.wrap .i64 (((2*k:Nat):Int)+1)=((2*k+1:Nat):Int):=by rw[eY];omega
  rw[z];by_cases A:2*k+1<s.size;refine cF (aq ae) ⟨ae,ae,?_⟩;rw[aG,aG];refine MD (s:=⟨JD.toArray⟩) (RC s (2*k)) ⟨_,rfl,MD (s:=⟨JD.toArray⟩) (RC s (2*k+1)) ⟨_,rfl,ay.of λJ t=> ?_⟩⟩;rw[Hx,Hx];show ite (decide (Lib.indexByte JD (FG s (2*k))<0)=true) (J true g) (J (decide (Lib.indexByte JD (FG s (2*k+1))<0)) g);rw[Nq,Nq];cases q:GM s k with
  |false=>
   have no:J true g:=by subst t;refine cF rfl ?_;have:=H g none 0 [] f .nil (λy ⟨a,e,_⟩=>by cases e) ⟨bg _,bf _⟩;rw[all_false (k:=k) ae q]at this;exact this
   unfold GM at q;cases Q:Od (FG s (2*k))with
   |false=>exact cF rfl no
   |true=>rw[Q]at q;rw[show Od (FG s (2*k+1))=false from q];exact bo rfl no
  |true=>unfold GM at q;rw[bE]at q;rw[q.1,q.2];refine bo rfl ?_;subst t;refine bo rfl ?_;refine VN (Q:=λv=>aT g (.C #[.int .u8 v] 5) _) λx=> ?_;refine hX Zl gD.uU o rfl (λv u=>by rw[bT.1 u];rfl) ae ae λP C G O F w=>⟨_,_,_,rfl,⟨k+1,b++ [x],?_,bO,by simp[L],ae,by rw[hZ];exact O,λy m=> ?_,f.fresh F r,λj n=> ?_⟩,?_⟩;rw[eY];omega;rcases w y m with q|q;exact r y q;have:=f.1;omega;by_cases e:j=k;subst e;unfold GM;rw[q.1,q.2];rfl;exact all j ae;show s.size - Int.toNat (IntKind.wrap .i64 (((2*k:Nat):Int)+2))<s.size - Int.toNat ((2*k:Nat):Int);rw[eY];omega
  refine bo (aA ae) ?_;have B:k=s.size/2:=ae
  have:=H g p c b f o.iy (λy m=>⟨r y m,o.dW m⟩) ⟨ae,o.le⟩;rw[all_true (n:=s.size/2) (λj n=>all j ae)]at this;cases e:isS s []with
  |true=>rw[e]at this;exact bo rfl this
  |false=>
   rw[e]at this;refine cF rfl ?_;have E:(Int.tmod (s.size:Int) 2==0)=decide (s.size%2=0):=by rw[show Int.tmod (s.size:Int) 2=((s.size%2:Nat):Int)from rfl];exact dA.2 (by simp;omega)
   rw[E];exact this
def TG(A:s.size<=100000)(H: ∀g p l c,Fr No h g->R (.T #[.L p l c,.B (Qb s)]) g):Cl 48 #[.S s] h R:=by
 refine DO ?_;simp only[eqs];unfold Qb at H;cases d:isS s [45]with
 |true=>rw[d]at H;exact cF rfl (H h none 0 0 (Fr.refl _ _))
 |false=>
  rw[d]at H;refine bo rfl ⟨λp l c i g=> ∃(k:Nat)(b:List Value),i=(k:Int)/\b.length=k/\l=k/\k<=s.size/\Den.Own g p l c 1 b/\(∀y,aN p y->h.size<=y)/\Fr No h g/\∀j,j<k->Lt s j=true,λ_ _ _ i _=>s.size - i.toNat,
   ⟨0, [],rfl,rfl,rfl,bg _,.nil rfl rfl rfl rfl,(λy ⟨a,e,_⟩=>by cases e),Fr.refl _ _,λj m=>absurd m (Nat.not_lt_zero _)⟩,?_⟩
  rintro p k c _ g ⟨_,b,rfl,L,rfl,K,O,r,f,all⟩;by_cases C:k<s.size;refine cF (aq ae) (ay.of λJ o=>⟨ae,?_⟩);rw[aG];show ite ((((FG s k).toNat:Int) !=48)=true) _ _;have E:(((FG s k).toNat:Int) !=48)= !(FG s k==48):=by rw[bne];congr 1;exact LZ (FG s k) 48 bA
  have n:(((FG s k).toNat:Int) !=49)= !(FG s k==49):=by rw[bne];congr 1;exact LZ (FG s k) 49 bA
  cases q:Lt s k with
  |false=>unfold Lt at q;rw[Bool.or_eq_false_iff]at q;rw[E,q.1];refine cF rfl ⟨ae,?_⟩;show J (((FG s k).toNat:Int) !=49) g;rw[n,q.2];subst o;refine cF rfl ?_;have:=H g none 0 0 f;rw[all_false (P:=Lt s) C (by unfold Lt;rw[q.1,q.2];rfl)]at this;exact this
  |true=>
   have go:J false g:=by subst o;refine bo rfl ⟨ae,hX Zm Zn O rfl (λv t=>by rw[bT.1 t];rfl) ae ae λP z G x F w=>⟨_,_,_,rfl,⟨k+1,_,?_,?_,rfl,ae,x,λy u=> ?_,f.fresh F r,λj m=> ?_⟩,?_⟩⟩;rw[eY];omega;simp[L];rcases w y u with q|q;exact r y q;have:=f.1;omega;by_cases e:j=k;subst e;exact q;exact all j ae;show s.size - Int.toNat (IntKind.wrap .i64 ((k:Int)+1))<s.size - Int.toNat (k:Int);rw[eY];omega
   unfold Lt at q;rw[E];cases Q:FG s k==48 with
   |true=>exact bo rfl go
   |false=>rw[Q]at q;refine cF rfl ⟨ae,?_⟩;show J (((FG s k).toNat:Int) !=49) g;rw[n,show(FG s k==49)=true from q];exact go
  refine bo (aA ae) ?_;obtain rfl:k=s.size:=ae
  have:=H g p s.size c f;rw[all_true (n:=s.size) (λj m=>all j ae)]at this;cases e:isS s []with
  |true=>rw[e]at this;exact bo rfl this
  |false=>rw[e]at this;refine cF rfl ?_;rw[show decide ((s.size:Int)<=64)=decide (s.size<=64)from dA.2 (by simp;omega)];exact this
def kR(n:Nat):Value:=.int .u64 (n:Int)
structure L3 (g:Heap) (A:bk.S) (v:bC) (ns:List Nat) (bs:cO) (m:Nat):Prop where
 v:A.f0=v
 n:Row g A.GL (ns.map kR)
 nl:A.MC=ns.length
 lt: ∀n∈ns,n<18446744073709551616
 b:Row g A.Sc (bc bs)
 bl:A.SF=bs.length
 O3:bs.length<=A.Ui
 nm: ∀y,aN A.GL y->m<=y
 bm: ∀y,aN A.Sc y->m<=y
def L3.frame{g G:Heap}{A:bk.S}{v:bC}{n:List Nat}{b:cO}{m:Nat}(H:L3 g A v n b m)(f:Fr No g G):L3 G A v n b m:=
 ⟨H.v,H.n.frame f bD,H.nl,H.lt,H.b.frame f bD,H.bl,H.O3,H.nm,H.bm⟩
def uZ(k:cO):Nat:=(k.filter (· ==110)).length
structure Xg (h2 g:Heap) (b1:Nat) (s:bC) (ks:cO) (k:Nat) (ns:List Nat) (bs:cO) (A:bk.S):Prop where
 fr:Fr No h2 g
 gb:h2.size<=b1
 a:bk.ff g b1 A
 v:A.f0=ga s 0
 n:Den.Own g A.GL ns.length A.vw 1 (ns.map kR)
 nl:A.MC=ns.length
 nn:ns.length=uZ (ks.take k)
 lt: ∀n∈ns,n<18446744073709551616
 bb:Row g A.Sc (bc bs)
 bl:A.SF=bs.length
 O3:bs.length<=A.Ui
 bs:bs.length<=100000
 sep: ∀y,aN A.GL y->b1<y
 L4: ∀y,aN A.Sc y->b1<y/\¬aN A.GL y/\y<g.size
 all: ∀j,j<k->okW (ks.getD j 0) (ga s (j+1))=true
def t64:jL Tryz.prog 68 62 1 8 (.U 0):=⟨zzkr,zzkr,rfl⟩
def YB:Tryz.prog.underlying 68=some (.slice 62):=zzkr
def vc(K:cO)(k:Nat)(H:k<K.length):uZ (K.take (k+1))=uZ (K.take k)+(if K.getD k 0=110 then 1 else 0):=by unfold uZ;rw[bt,ai H,aL,ai H,List.filter_append,ak];congr 1;by_cases q:K[k]=110;simp[q];simp[q]
def Fe{i:Nat}(H:i<(words s).length):((words s).map Value.string)[i]? =some (.S (ga s i)):=by unfold ga;rw[aP,ai H,aL,ai H];rfl
def O4(i:Nat):(ga s i).size<=s.size:=Lr i
theorem Il (tb : vx h) (er : Er h) (mx : Mx h) (hs : s.size ≤ 100000)
    (hk : ∀ g A ok, Fr No h g → ok = A4 s → (ok = true → ∃ ns bs, L3 g A (ga s 0) ns bs h.size ∧ ns.length = uZ (iO (ga s 0)).1 ∧ bs.length ≤ 100000) → R (.tuple #[A.agg, .bool ok]) g) : Cl 31 #[.string s] h R := by
  have wl := pz s
  refine DP (bk.cE (x := bk.S.z) λb h1 eb hb f1 => Dq (mx.on f1) (by omega) λh2 f2 row => ⟨_, _, _, rfl, ⟨by omega, by omega⟩, av.2 ⟨_, row.cell (j := 0) (Fe (by omega)), RB ⟨_, _, rfl, ay.of λJ hJ => ?_⟩⟩⟩)
  have F2 : Fr No h h2 := f1.tt f2
  have YV := f2.get hb id
  have bl : b < h2.size := aE YV
  have zz : ∀ {K : bk.S → Heap → Prop} g, Fr No h2 g → ∀ A, (∀ g', Fr (λy => y = b) g g' → Fr No h g' → K A g') → bk.cR g ⟨b, 0, none⟩ A λUH => bk.ck UH ⟨b, 0, none⟩ λr0 => K r0 UH := λg f A q =>
    bk.fB (f.get YV id) λg' a' f' _ => bk.dZ a' (q g' f' ((F2.tt f).fresh f' λy e => by omega))
  have no : A4 s = false → ∀ g, Fr No h2 g → J true g := λe g f => by
    subst hJ
    exact cF rfl (zz g f bk.S.z (K := λr0 UH => R (.tuple #[r0.agg, .bool false]) UH) λg' _ f' => hk g' _ false f' e.symm (λq => by cases q))
  have VO : A4 s = ((iO (ga s 0)).2 && (decide ((words s).length = (iO (ga s 0)).1.length + 1) && (List.range (iO (ga s 0)).1.length).all λi => okW ((iO (ga s 0)).1.getD i 0) (ga s (i + 1)))) := rfl
  generalize hK : iO (ga s 0) = Q at hk VO hJ ⊢
  obtain ⟨ks, kb⟩ := Q
  dsimp only at hk VO ⊢
  have kl : ks.length ≤ 2 := by have := Qc (ga s 0); rw [hK] at this; exact this
  cases kb with
  | false => exact cF rfl (no (by rw [VO]; rfl) h2 (Fr.refl _ _))
  | true =>
  refine bo rfl ?_
  have Zo : (((words s).length : Int) != IntKind.wrap .i64 (((str ks).size : Int) + 1)) = !decide ((words s).length = ks.length + 1) := by
    have e1 : (str ks).size = ks.length := by simp [str, ByteArray.size]
    rw [e1, df (by omega) (by omega), bne]
    congr 1
    exact Bool.eq_iff_iff.2 (by simp; omega)
  rw [Zo]
  by_cases cl : (words s).length = ks.length + 1
  rotate_left
  · rw [decide_eq_false cl]
    exact no (by rw [VO, decide_eq_false cl]; rfl) h2 (Fr.refl _ _)
  rw [decide_eq_true cl] at VO ⊢
  subst hJ
  refine bo rfl ⟨⟨by omega, by omega⟩, av.2 ⟨_, row.cell (j := 0) (Fe (by omega)), bk.fX (x := ⟨ga s 0, none, 0, 0, none, 0, 0, none, 0, 0⟩) λb1 h7 ZO Zp f7 => ⟨⟨by omega, by omega⟩, ?_⟩⟩⟩
  refine ⟨λi g => ∃ (k : Nat) (ns : List Nat) (bs : List UInt8) (A : bk.S), i = (k : Int) ∧ k ≤ ks.length ∧ Xg h2 g b1 s ks k ns bs A, λi _ => ks.length - i.toNat,
    ⟨0, [], [], _, rfl, Nat.zero_le _, ⟨f7, by omega, Zp, rfl, .nil rfl rfl rfl rfl, rfl, rfl, (λn hn => by cases hn), .nil, rfl, Nat.le_refl _, Nat.zero_le _, (λy ⟨a, e, _⟩ => by cases e), (λy ⟨a, e, _⟩ => by cases e), λj hj => absurd hj (Nat.not_lt_zero _)⟩⟩, ?_⟩
  rintro _ g ⟨k, ns, bs, A, rfl, ZP, H⟩
  have Zq : (words s).length - Int.toNat 1 = ks.length := by rw [cl]; rfl
  rw [Zq]
  by_cases c : k < ks.length
  rotate_left
  · obtain rfl : k = ks.length := by omega
    refine bo (decide_eq_false (by omega)) (bk.dZ H.a (zz g H.fr A (K := λr0 UH => R (.tuple #[r0.agg, .bool true]) UH) λg' fb f' => hk g' A true f' ?_ λ_ => ⟨ns, bs, ⟨H.v, H.n.iy.frame fb λa e q => ?_, H.nl, H.lt, H.bb.frame fb λa e q => ?_, H.bl, H.O3, λy hy => ?_, λy hy => ?_⟩, ?_, H.bs⟩))
    · rw [VO, all_true (n := ks.length) H.all]; rfl
    · have := H.sep _ ⟨a, e, rfl⟩
      have := H.gb; omega
    · have := (H.L4 _ ⟨a, e, rfl⟩).1
      have := H.gb; omega
    · have := H.sep y hy; have := H.gb; have := F2.1; omega
    · have := (H.L4 y hy).1; have := H.gb; have := F2.1; omega
    · rw [H.nn, List.take_length]
  have VP : Row g (bV (some ⟨h1.size, 0, none⟩) (words s).length (Int.toNat 1) 1) (((words s).map Value.string).drop 1) := by
    have := (row.frame H.fr (λ_ _ => id)).sub (cap := (words s).length) (l := 1) (u := (words s).length) (sz := 1) (by omega) (Nat.le_refl _)
    rw [Nat.mul_one, List.take_of_length_le (by simp)] at this
    exact this
  have hw : (((words s).map Value.string).drop 1)[k]? = some (.string (ga s (k + 1))) := by rw [List.getElem?_drop, Nat.add_comm]; exact Fe (by omega)
  obtain ⟨a2, Zr⟩ := VP.some (by intro e; rw [e] at hw; cases hw)
  rw [Zr] at VP ⊢
  refine cF (decide_eq_true (by omega)) ⟨⟨by omega, by omega⟩, av.2 ⟨_, by rw [Int.toNat_natCast, Nat.mul_one]; exact VP.cell hw, ⟨by omega, by simp [str, ByteArray.size]; omega⟩, ay.of λJ1 Zs => ay.of λJ2 YW => ?_⟩⟩
  have fin : ∀ ok g', ok = okW (ks.getD k 0) (ga s (k + 1)) → Fr No h2 g' → (ok = true → ∃ ns bs A, Xg h2 g' b1 s ks (k + 1) ns bs A) → J1 ok g' := λok g' eo f' q => by
    subst Zs
    cases ok with
    | false => exact cF rfl (zz g' f' bk.S.z (K := λr0 UH => R (.tuple #[r0.agg, .bool false]) UH) λg2 _ f2 => hk g2 _ false f2 (by rw [VO, all_false c eo.symm]; rfl) (λq => by cases q))
    | true =>
      obtain ⟨Zt, Zu, A', H'⟩ := q rfl
      rw [df (by omega) (by omega)]
      exact bo rfl ⟨⟨k + 1, Zt, Zu, A', rfl, c, H'⟩, by show ks.length - Int.toNat ((k : Int) + 1) < ks.length - Int.toNat (k : Int); omega⟩
  have YX : ∀ n : Nat, n < 256 → (((((str ks).data.toList.getD (Int.toNat (k : Int)) 0).toNat : Nat) : Int) == (n : Int)) = decide (ks.getD k 0 = UInt8.ofNat n) := λn hn => by
    show (((ks.getD k 0).toNat : Int) == (n : Int)) = _
    rw [LZ _ _ hn]
    exact Bool.eq_iff_iff.2 (by simp)
  have wz := O4 (s := s) (k + 1)
  have Zv := (tb.on F2).on H.fr
  have Zw := (er.on F2).on H.fr
  have YC : (((((str ks).data.toList.getD (Int.toNat (k : Int)) 0).toNat : Nat) : Int) == 110) = decide (ks.getD k 0 = 110) := YX 110 (by decide)
  rw [YC]
  by_cases Ff : ks.getD k 0 = 110
  · rw [decide_eq_true Ff]
    refine cF rfl (O2 Zv Zw (by omega) λg1 f1 => ⟨_, _, rfl, _, _, _, fY (f1.get H.a id) rfl, ?_⟩)
    have Zx := H.n.frame f1 (λ_ _ => id)
    rw [H.nl]
    have n2 : uZ (ks.take k) ≤ 2 := by unfold uZ; have := List.length_filter_le (· == 110) (ks.take k); have := List.length_take_le k ks; omega
    refine hX t64 YB Zx rfl (λv hv => by rw [List.mem_singleton.1 hv]; rfl) (by have := H.nn; omega) (by have := H.nn; omega) λp' c' g2 O5 f2 n2 => ⟨_, _, _, rfl, ?_⟩
    have Zy : ¬ aN A.GL b1 := λq => by have := H.sep b1 q; omega
    have Zz := f2.get (f1.get H.a id) Zy
    refine aY Zz (by show 1 < 4; omega) λg3 i3 z3 q3 => ?_
    have f3 : Fr (λy => y = b1) g2 g3 := Fr.of_eq z3 q3
    subst YW
    have ZQ := H.fr.1
    have zg := f1.1
    refine fin _ g3 (by unfold okW; rw [if_pos Ff]) (((H.fr.tt f1).fresh f2 λy hy => by have := H.sep y hy; have := H.gb; omega).fresh f3 λy e => by have := H.gb; omega) λ_ =>
      ⟨ns ++ [FE (ga s (k + 1))], bs, { A with GL := p', MC := ns.length + 1, vw := c' }, ⟨?_, H.gb, i3, H.v, ?_, by simp, ?_, ?_, ?_, H.bl, H.O3, H.bs, ?_, ?_, ?_⟩⟩
    · exact ((H.fr.tt f1).fresh f2 λy hy => by have := H.sep y hy; have := H.gb; omega).fresh f3 λy e => by have := H.gb; omega
    · have : Den.Own g2 p' (ns.length + 1) c' 1 ((ns ++ [FE (ga s (k + 1))]).map kR) := by rw [List.map_append]; exact O5
      rw [List.length_append]
      exact this.frame f3 λy hy e => by
        rcases n2 y hy with q | q
        · have := H.sep y q; omega
        · have := aE (f1.get H.a id); omega
    · rw [List.length_append, vc ks k c, if_pos Ff, H.nn]; rfl
    · intro n hn
      rcases List.mem_append.1 hn with q | q
      · exact H.lt n q
      · rw [List.mem_singleton.1 q]; exact Qa _
    · exact ((H.bb.frame f1 (λ_ _ => id)).frame f2 λa e q => (H.L4 _ ⟨a, e, rfl⟩).2.1 q).frame f3 λa e q => by have := (H.L4 _ ⟨a, e, rfl⟩).1; omega
    · intro y hy
      rcases n2 y hy with q | q
      · exact H.sep y q
      · have := aE (f1.get H.a id); omega
    · intro y hy
      obtain ⟨q1, q2, ZR⟩ := H.L4 y hy
      have := f2.1
      refine ⟨q1, λq => ?_, by omega⟩
      rcases n2 y q with q | q
      · exact q2 q
      · omega
    · intro j hj
      by_cases e : j = k
      · subst e; unfold okW; rw [if_pos Ff]; rename_i ok; exact ok
      · exact H.all j (by omega)
  · rw [decide_eq_false Ff]
    refine bo rfl (ay.of λJ3 ZA => ?_)
    have ZB : (((((str ks).data.toList.getD (Int.toNat (k : Int)) 0).toNat : Nat) : Int) == 98) = decide (ks.getD k 0 = 98) := YX 98 (by decide)
    rw [ZB]
    subst YW ZA
    have zg := H.fr.1
    have ZS := aE H.a
    by_cases Wc : ks.getD k 0 = 98
    · rw [decide_eq_true Wc]
      refine cF rfl (gJ (by omega) λg1 p c YY f1 YD nb lb => ⟨_, _, _, _, rfl, aY (f1.get H.a id) (by show 2 < 4; omega) λg2 i2 z2 q2 => ?_⟩)
      have f2 : Fr (λy => y = b1) g1 g2 := Fr.of_eq z2 q2
      have FF := (H.fr.tt f1).fresh f2 λy e => by have := H.gb; omega
      refine fin _ g2 (by unfold okW; rw [if_neg Ff, if_pos Wc]) FF λok => ⟨ns, YY, { A with Sc := p, SF := YY.length, Ui := c }, ⟨FF, H.gb, i2, H.v, ?_, H.nl, ?_, H.lt, ?_, rfl, lb.2, by omega, H.sep, ?_, ?_⟩⟩
      · exact (H.n.frame f1 (λ_ _ => id)).frame f2 λy hy e => by have := H.sep y hy; omega
      · rw [vc ks k (by omega), if_neg Ff, H.nn]; rfl
      · exact YD.frame f2 λa e q => by have := (nb _ ⟨a, e, rfl⟩).1; omega
      · intro y hy
        have := nb y hy
        refine ⟨by omega, λq => ?_, by omega⟩
        have := H.n.dW q; omega
      · intro j hj
        by_cases e : j = k
        · subst e; unfold okW; rw [if_neg Ff, if_pos Wc]; exact ok
        · exact H.all j (by omega)
    · rw [decide_eq_false Wc]
      refine bo rfl (TG (by omega) λg1 p l c f1 => ⟨_, _, _, _, rfl, aY (f1.get H.a id) (by show 3 < 4; omega) λg2 i2 z2 q2 => ?_⟩)
      have f2 : Fr (λy => y = b1) g1 g2 := Fr.of_eq z2 q2
      have FF := (H.fr.tt f1).fresh f2 λy e => by have := H.gb; omega
      refine fin _ g2 (by unfold okW; rw [if_neg Ff, if_neg Wc]) FF λok => ⟨ns, bs, { A with Pl := p, Fw := l, Ll := c }, ⟨FF, H.gb, i2, H.v, ?_, H.nl, ?_, H.lt, ?_, H.bl, H.O3, H.bs, H.sep, ?_, ?_⟩⟩
      · exact (H.n.frame f1 (λ_ _ => id)).frame f2 λy hy e => by have := H.sep y hy; omega
      · rw [vc ks k (by omega), if_neg Ff, H.nn]; rfl
      · exact (H.bb.frame f1 (λ_ _ => id)).frame f2 λa e q => by have := (H.L4 _ ⟨a, e, rfl⟩).1; omega
      · intro y hy
        obtain ⟨q1, q2, q3⟩ := H.L4 y hy
        have := f1.1
        exact ⟨q1, q2, by omega⟩
      · intro j hj
        by_cases e : j = k
        · subst e; unfold okW; rw [if_neg Ff, if_neg Wc]; exact ok
        · exact H.all j (by omega)

end zK
end
section
namespace zK
open jk
variable {h i H:Heap} {R:dH} {s:ByteArray} {p q:bH} {l c lc b:Nat} {xs L:List ByteArray} {K:BK}
variable {j:Nat} {d:List Int} {n e:Int}
structure Bs (h:Heap):Prop where
 tb:vx h
 er:Er h
 mx:Mx h
 ut:Ut h
def Bs.on(B:Bs h)(f:Fr No h H):Bs H:=⟨B.tb.on f,B.er.on f,B.mx.on f,B.ut.on f⟩
def nI(n:Int):Value:=.int .i64 n
def ZC:jL Tryz.prog 49 3 1 8 (.I 0):=⟨zzkr,zzkr,rfl⟩
def ZD:Tryz.prog.underlying 49=some (.slice 3):=zzkr
def L7(a:j<xs.length):(xs.map Value.string)[j]? =some (.S xs[j]):=by rw[aP,ai a];rfl
def Hz(e:jw xs=some d):d.length=xs.length:=by unfold jw at e;split at e;cases e;simp;cases e
def Xh(s:bC)(l:cO):(s.toList==(str l).toList)=isS s l:=by rw[toList_data,toList_data];rfl
def YE(s:bC)(l:cO):((str l).toList==s.toList)=isS (str l) s.data.toList:=by rw[toList_data,toList_data];rfl
def yV(B:Bs h)(b':Row h p (xs.map Value.string))(Z:l=xs.length)(hn:xs.length<=100000)(hz: ∀x∈xs,x.size<=100000)(S: ∀g q m c,Fr No h g->(∀d,jw xs=some d->Row g q (d.map nI)/\m=d.length/\m<=c/\∀y,aN q y->h.size<=y)->R (.T #[.L q m c,.B (jw xs).isSome]) g):Cl 20 #[.L p l lc] h R:=by
 subst Z;refine BN ⟨λq m c I g=> ∃k:Nat,I=(k:Int)/\k<=xs.length/\m=k/\Den.Own g q k c 1 ((xs.take k).map λx=>nI (oy x))/\(∀y,aN q y->h.size<=y)/\Fr No h g/\∀j (o:j<xs.length),j<k->Qd xs[j]=true,λ_ _ _ I _=>xs.length - I.toNat,
  ⟨0,rfl,bg _,rfl,.nil rfl rfl rfl rfl,(λy ⟨a,e,_⟩=>by cases e),Fr.refl _ _,λj _ o=>absurd o (Nat.not_lt_zero _)⟩,?_⟩
 rintro q m c _ g ⟨k,rfl,f',rfl,D,A,f,all⟩;by_cases C:m<xs.length;have T:=b'.frame f bD;obtain⟨a,rfl⟩:=T.some (by intro e;have:=bY List.length e;simp at this;rw[this]at C;simp at C);have zx:=hz _ (cx C);have no:Qd xs[m]=false->∀G,Fr No h G->R (.T #[.Z,.B false]) G:=λe G t=>by
  have E:jw xs=none:=by unfold jw;rw[af];intro q;rw[eG.1 q _ (cx C)]at e;cases e
  have:=S G none 0 0 t (λd e=>by rw[E]at e;cases e);rw[E]at this;exact this
 refine cF (aq ae) ⟨ae,av.2 ⟨_,by rw[aG,bJ];exact T.cell (L7 C),ME (B.on f).er zx λw d' Q V=>⟨_,_,rfl,ay.of λJ X=>⟨_,V.eq,?_⟩⟩⟩⟩;have u:=f.tt Q;have F: ∀O G,Qd xs[m]=O->Fr No w G->J (!O) G:=λO G e t=>by
  subst X;cases O with
  |false=>exact cF rfl (no e G (u.tt t))
  |true=>refine bo rfl (hX ZC ZD (D.frame (Q.tt t) bD) rfl (λd' hv=>by rw[bT.1 hv];rfl) ae ae λp' c' z a' v n2=>⟨_,_,_,rfl,⟨m+1,by rw[eY];rfl,C,rfl,?_,λy hy=> ?_,(u.tt t).fresh v A,λj o e'=> ?_⟩,?_⟩);rw[bt,ai C,bB];exact a';rcases n2 y hy with q|q;exact A y q;have:=(u.tt t).1;omega;by_cases U:j=m;subst U;exact e;exact all j o ae;show xs.length - Int.toNat (IntKind.wrap .i64 ((m:Int)+1))<xs.length - Int.toNat (m:Int);rw[eY];omega
 unfold Qd at F;cases O:Ib xs[m]with
 |false=>rw[O]at F;exact cF rfl (F false w rfl (Fr.refl _ _))
 |true=>
  rw[O]at F;refine bo rfl ?_;by_cases M:oy xs[m]<0;rw[aq M]at F⊢;exact cF rfl (F false w rfl (Fr.refl _ _));rw[aA M]at F⊢;refine bo rfl (kC ((B.on u).tb) (JF _).1 (JF _).2 λz v=>⟨_,rfl,?_⟩);rw[YE];cases P:isS (str (Lib.itoa (oy xs[m]))) xs[m].data.toList with
  |false=>rw[P]at F;exact cF rfl (F false z rfl v)
  |true=>rw[P]at F;refine bo rfl ?_;have:=F (!decide (xs[m].size>18)) z rfl v;rw[Bool.not_not]at this;rw[show decide (((xs[m].size:Nat):Int)>18)=decide (xs[m].size>18)from dA.2 (by simp;omega)];exact this
 obtain rfl:m=xs.length:=ae
 have E:jw xs=some (xs.map oy):=by unfold jw;rw[ah];refine eG.2 λx hx=> ?_;obtain⟨j,o,rfl⟩:=List.getElem_of_mem hx;exact all j o o
 refine bo (aA ae) ?_;have:=S g q xs.length c f λd e=>by rw[E]at e;cases e;refine⟨?_,bO,D.le,A⟩;have r:=D.iy;rw[fk]at r;rw[fu];exact r
 rw[E]at this;exact this
def HA(k:s.size<=100000)(a: ∀g,Fr No h g->R (.B (x6 s)) g):Cl 25 #[.S s] h R:=by
 refine ym ?_;simp only[eqs];unfold x6 at a;cases D:isS s [45]with
 |true=>rw[D]at a;exact cF rfl (a h (Fr.refl _ _))
 |false=>
  rw[D]at a;refine bo rfl ?_;cases e:isS s []with
  |true=>rw[e]at a;exact bo rfl (a h (Fr.refl _ _))
  |false=>
   rw[e]at a;refine cF rfl ?_;have E:(Int.tmod (s.size:Int) 2==0)=decide (s.size%2=0):=by rw[show Int.tmod (s.size:Int) 2=((s.size%2:Nat):Int)from rfl];exact dA.2 (by simp;omega)
   rw[E];by_cases c:s.size%2=0;rw[aq c]at a⊢;refine cF rfl (SR k λg f=>⟨_,rfl,?_⟩);exact a g f;rw[aA c]at a⊢;exact bo rfl (a h (Fr.refl _ _))
def IK(f:R (.B (MH s)) h):Cl 15 #[.S s] h R:=by
 refine BO ?_;simp only[eqs];refine ay.of λJ k=> ?_;have e:J (MH s) h:=by
  subst k;cases q:MH s with
  |true=>rw[q]at f;exact cF rfl f
  |false=>rw[q]at f;exact bo rfl f
 exact Po e λe=>ay.of λK a=>by subst a;exact Po (J:=λt g=>J t g) e λe=>ay.of λK a=>by subst a;exact Po (J:=λt g=>J t g) e λe=>ay.of λK a=>by subst a;exact XC (J:=λt g=>J t g) e
def Xi(a:j<d.length):(d.map nI)[j]? =some (.I d[j]):=by rw[aP,ai a];rfl
def Fh{M:Int}(B:Bs h)(w:Row h p (xs.map Value.string))(o:l=xs.length)(t:xs.length<=100000)(v: ∀x∈xs,x.size<=100000)(k: ∀g,Fr No h g->R (.B (Bu xs M)) g):Cl 14 #[.L p l lc,.I M] h R:=by
 refine D8 (yV B w o t v λg q m c f u=>⟨_,_,_,_,rfl,?_⟩);have k:=k g f;unfold Bu at k;cases e:jw xs with
 |none=>rw[e]at k;exact bo rfl k
 |some d=>
  rw[e]at k;obtain⟨r,rfl,_⟩:=u d e;refine cF rfl ?_
  match d,r,k with
  | [],r,k=>exact bo rfl k
  | [n],r,k=>obtain⟨a,rfl⟩:=r.some (by intro e;cases e);exact cF rfl ⟨⟨ae,bO⟩,av.2 ⟨_,r.cell (j:=0) rfl,k⟩⟩
  |n::y::d,r,k=>exact bo (fV.2 (by simp;omega)) k
def YF(K:BK):Array Value:= #[.bool true,.bool K.oz,.int .i64 K.heard,.int .i64 K.now,.int .i64 K.ml,.int .i64 K.l0,.int .i64 K.l1,.int .i64 K.l2]
def Fi(h:Heap)(b:Nat)(K:BK):Prop:=h[b]? =some (.cells (YF K) 36 (0,0))
def RE(n:Int): -9223372036854775808<=wr n/\wr n<=9223372036854775807:=by unfold wr;rw[IntKind.wrap_i64];omega
def Fi.set{v:Value}{K':BK}{Q:cM}(a:Fi h b K)(f:j<8)(e:(YF K).setIfInBounds j v=YF K')(k: ∀g,Fi g b K'->Fr (λy=>y=b) h g->Q g):aI h (AA b j) v Q:=
 aY a f λg I z q=>k g (by rw[e]at I;exact I) (Fr.of_eq z q)
def Fi.on(a:Fi h b K)(f:Fr No h H):Fi H b K:=f.get a id
def L8(B:Bs h)(r:Fi h b K)(T: ∀g,Fr (λy=>y=b) h g->Bs g)(I:Row h p (xs.map Value.string))(D: ¬aN p b)(z:l=xs.length)(A:xs.length<=100000)(C: ∀x∈xs,x.size<=100000)
  (k: ∀g,Fr (λy=>y=b) h g->Fi g b { K with ml:=wr (K.ml+1) } ->R (.B (Bu xs (wr (K.ml+1)) && isS (xs.getD 0 ⟨#[]⟩) (Lib.itoa (wr (K.ml+1))))) g):Cl 21 #[.P b 0,.L p l lc] h R:=by
 refine pI ⟨_,aj r,r.set (K':= { K with ml:=wr (K.ml+1) }) bA rfl λG m F=>⟨_,aj m,?_⟩⟩;have t:=I.frame F λa e q=>D ⟨a,e,q⟩;refine Fh (T G F) t z A C λv f=>⟨_,rfl,?_⟩;have k:=k;cases E:Bu xs (wr (K.ml+1))with
 |false=>rw[E]at k;exact bo rfl (k v (F.on f) (m.on f))
 |true=>
  rw[E]at k;have len:xs.length=1:=by unfold Bu at E;split at E;rename_i e;have:=Hz e;simp at this;omega;cases E
  refine cF rfl ⟨ae,?_⟩;have u:=t.frame f bD;obtain⟨a,rfl⟩:=u.some (by intro e;have:=bY List.length e;simp at this;rw[this]at len;cases len);refine av.2 ⟨_,u.cell (j:=0) (L7 ae),_,aj (m.on f),kC ((T G F).on f).tb (RE _).1 (RE _).2 λw o=>⟨_,rfl,o.kp,?_⟩⟩;rw[Xh];have:=k w ((F.on f).on o) ((m.on f).on o);rw[aL,ai ae]at this;exact this
def RG(o:Fi h b K)(T: ∀g,Fr (λy=>y=b) h g->Bs g)(A:Row h p (xs.map Value.string))(z: ¬aN p b)(u:l=xs.length)(v:xs.length<=100000)(w: ∀x∈xs,x.size<=100000)(f: ∀g,Fr (λy=>y=b) h g->Fi g b { K with ml:=0 } ->R (.B ((jw xs).isSome && decide (xs.length=1))) g):Cl 22 #[.P b 0,.L p l lc] h R:=by
 refine r8 (o.set (K':= { K with ml:=0 }) bA rfl λG r F=>yV (T G F) (A.frame F λa e q=>z ⟨a,e,q⟩) u v w λt q m c k _=>⟨_,_,_,_,rfl,?_⟩);have f:=f t (F.on k) (r.on k);cases e:(jw xs).isSome with
 |false=>rw[e]at f;exact bo rfl f
 |true=>rw[e]at f;refine cF rfl ?_;rw[show((l:Int)==1)=decide (xs.length=1)from dA.2 (by simp;omega)];exact f
def RH(r:Row h p (d.map nI))(v:l=d.length)(o:d.length<=100000)(m:R (.B (d.any λn=>decide (n>0))) h):Cl 41 #[.L p l lc,.func (.func 40) #[] #[]] h R:=by
 subst v;refine jt (jH ⟨λt g=>g=h/\∃k:Nat,t=(k:Int)/\k<=d.length/\∀j (f:j<d.length),j<k->¬d[j]>0,λt _=>d.length - t.toNat,⟨rfl,0,rfl,bg _,λj _ f=>absurd f (Nat.not_lt_zero _)⟩,?_⟩);rintro _ g ⟨u,k,rfl,x,all⟩;subst u;by_cases c:k<d.length;obtain⟨a,rfl⟩:=r.some (by intro e;have:=bY List.length e;simp at this;rw[this]at c;simp at c);refine cF (aq ae) ⟨ae,av.2 ⟨_,by rw[aG,bJ];exact r.cell (Xi c),wY ⟨_,rfl,?_⟩⟩⟩;by_cases q:d[k]>0;refine cF (aq q) ⟨_,rfl,?_⟩;rw[aq ae];rw[List.any_eq_true.2 ⟨_,cx c,aq q⟩]at m;exact m;refine bo (aA q) ⟨⟨rfl,k+1,by rw[eY];rfl,c,λj f w=> ?_⟩,?_⟩;by_cases e:j=k;subst e;exact q;exact all j f ae;show d.length - Int.toNat (IntKind.wrap .i64 ((k:Int)+1))<d.length - Int.toNat (k:Int);rw[eY];omega;refine bo (aA ae) ⟨_,rfl,?_⟩;rw[show decide ((-1:Int)≥0)=false from rfl];have:(d.any λn=>decide (n>0))=false:=by rw[List.any_eq_false];intro n o;obtain⟨j,f,rfl⟩:=List.getElem_of_mem o;simpa using all j f ae
 rw[this]at m;exact m
def RI(B:Bs h)(o:Fi h b K)(y:Row h p (xs.map Value.string))(t:l=xs.length)(u:xs.length<=100000)(w: ∀x∈xs,x.size<=100000)(k: ∀g,Fr No h g->R (.B (match jw xs with|some [n]=>decide (n≥K.l0)|_=>false)) g):Cl 28 #[.P b 0,.L p l lc] h R:=by
 refine sa (yV B y t u w λg q m c f v=>⟨_,_,_,_,rfl,?_⟩);have k:=k g f;cases e:jw xs with
 |none=>rw[e]at k;exact bo rfl k
 |some d=>
  rw[e]at k;obtain⟨r,rfl,_⟩:=v d e;refine cF rfl ?_
  match d,r,k with
  | [],r,k=>exact bo rfl k
  | [n],r,k=>obtain⟨a,rfl⟩:=r.some (by intro e;cases e);exact cF rfl ⟨⟨ae,bO⟩,av.2 ⟨_,r.cell (j:=0) rfl,⟨ae,bO⟩,_,aj (o.on f),k⟩⟩
  |n::z::d,r,k=>exact bo (fV.2 (by simp;omega)) k
def ZE:jL Tryz.prog 40 9 1 16 (.S ByteArray.empty):=⟨zzkr,zzkr,rfl⟩
def ZF:Tryz.prog.underlying 40=some (.slice 9):=zzkr
def mH{u:Nat}(h:u<18446744073709551616):(Lib.decDigits u).length<=20:=by rw[Lib.decDigits_length];by_cases a:u<10;rw[Lib.nDigits_small a];omega;have:=Lib.numDigits_eq u ae h;split at this<;>omega
def vd(i: -9223372036854775808<=n)(a:n<=9223372036854775807):(Lib.itoa n).length<=21:=by unfold Lib.itoa;split;have:=mH (u:=n.natAbs) ae;simp;omega;have:=mH (u:=n.toNat) ae;omega
def KI(S:cO)(f:S.length=1): ∀(L:List (cO))(a:Nat),(∀x∈L,x.length<=a)->(Lib.join L S).length<=L.length*(a+1)
 | [],_,_=>bg _
 | [x],a,h=>by have:=h x (bT.2 rfl);simp[Lib.join];omega
 |x::y::L,a,h=>by
  have I:=KI S f (y::L) a λz g=>h z (cD _ g);have k:=h x dz;have e:Lib.join (x::y::L) S=x++(S++Lib.join (y::L) S):=by simp[Lib.join,List.intercalate]
  rw[e,ak,ak,f,bw];rw[Nat.succ_mul];omega
def ve(r:cO):(str r).size=r.length:=by simp[str,ByteArray.size]
theorem oK {e : Int} (B : Bs h) (he : 0 ≤ e ∧ e ≤ 1000) (row : Row h p (xs.map Value.string)) (hl : l = xs.length) (hn : xs.length ≤ 20) (hz : ∀ x ∈ xs, x.size ≤ 100000)
    (hk : ∀ g s, Fr No h g → R (.string s) g) : Cl 51 #[.int .i64 e, .slice p l lc] h R := by
  subst hl
  refine DQ ?_
  by_cases c : e = 0
  · subst c
    refine bo rfl (bn ?_)
    have f1 : Fr No h (h.push (.cells #[.string (⟨#[111, 107]⟩ : ByteArray)] 9)) := Fr.push _ _
    have e1 : (h.push (.cells #[.string (⟨#[111, 107]⟩ : ByteArray)] 9))[h.size]? = some (.cells #[.string (⟨#[111, 107]⟩ : ByteArray)] 9 (0, 0)) := aU
    generalize h.push (.cells #[.string (⟨#[111, 107]⟩ : ByteArray)] 9) = g1 at f1 e1 ⊢
    have own : Den.Own g1 (some ⟨h.size, 0, none⟩) 1 1 1 [.string (⟨#[111, 107]⟩ : ByteArray)] := .row h.size 0 _ _ rfl e1 (Nat.le_refl _) (by decide) rfl (λj v hj => by rw [Nat.zero_add]; simpa using hj)
    refine du ZE ZF own (row.frame f1 (λ_ _ => id)) (by simp) (λv hv => by obtain ⟨x, _, rfl⟩ := List.mem_map.1 hv; rfl) (by omega) (by omega) λp' c' g2 O5 _ f2 _ => ⟨_, _, _, rfl, ?_⟩
    have F2 := f1.fresh f2 λy ⟨a, e, q⟩ => by cases e; have : h.size = y := q; omega
    obtain ⟨b, off, rfl⟩ := O5.some (by simp)
    have ez : [Value.string (⟨#[111, 107]⟩ : ByteArray)] ++ xs.map Value.string = ((⟨#[111, 107]⟩ : ByteArray) :: xs).map Value.string := rfl
    have r := O5.iy
    rw [ez] at r
    refine Ia (xs := (⟨#[111, 107]⟩ : ByteArray) :: xs) r (by simp; omega) (O5.dW ⟨_, rfl, rfl⟩) (by simp; omega) O5.le ?_ λg3 f3 => ⟨_, rfl, hk g3 _ (F2.tt f3)⟩
    have w := KI [32] rfl (((⟨#[111, 107]⟩ : ByteArray) :: xs).map (·.data.toList)) 100000 λx hx => by
      obtain ⟨y, hy, rfl⟩ := List.mem_map.1 hx
      rcases List.mem_cons.1 hy with rfl | hy
      · decide
      · exact hz y hy
    rw [List.length_map, List.length_cons] at w
    have := Nat.mul_le_mul_right (100000 + 1) (show xs.length + 1 ≤ 21 by omega)
    exact Nat.le_trans w (Nat.le_trans this (by decide))
  · refine cF (bne_iff_ne.2 c) (kC B.tb (by omega) (by omega) λg f => ⟨_, rfl, ?_, hk g _ f⟩)
    have := vd (n := e) (by omega) (by omega)
    rw [ve]
    have hm : IntKind.max .i64 = 9223372036854775807 := rfl
    rw [hm]
    have : (⟨#[101, 114, 114, 32]⟩ : ByteArray).size = 4 := rfl
    omega
def row_of{vs:List bC}{g:Heap}(e:g=h.push (.C (vs.map Value.string).toArray 9)):Row g (Sa h.size 0) (vs.map Value.string):=by subst e;exact gW
def qq(B:Bs h)(a: -9223372036854775808<=n/\n<=9223372036854775807)(m:0<=e/\e<=1000)(o: ∀g s,Fr No h g->R (.S s) g):Cl 49 #[.I n,.I e] h R:=by refine BG (kC B.tb a.1 a.2 λG F=>⟨_,rfl,bn ?_⟩);have k:Fr No G (G.push (.C #[.S (str (Lib.itoa n))] 9)):=Fr.push _ _;exact oK (xs:= [str (Lib.itoa n)]) ((B.on F).on k) m (row_of (vs:= [str (Lib.itoa n)]) rfl) rfl bO (λx r=>by rw[bT.1 r,ve];have:=vd a.1 a.2;omega) λg s f=>⟨_,rfl,o g s ((F.tt k).tt f)⟩
def KJ(a:R (.S (⟨#[45]⟩:bC)) h):Cl 59 #[.Z] h R:=DR (cF rfl a)
def vC{r:Int}(B:Bs h)(S:0<=r/\r<=1000)(z:0<=e/\e<=1000)(A: ∀g s,Fr No h g->R (.S s) g):Cl 53 #[(⟨0,r,0,0,0,none,0,0⟩:ag.S).agg,.I e] h R:=by refine Eb (r:=⟨0,r,0,0,0,none,0,0⟩) (ag.cE λb Q G a v=>⟨_,aj a,_,aj a,_,aj a,_,aj a,_,aj a,_,_,_,aj a,?_⟩);have k:=B.on v;refine jm (u:=0) k.tb bA λI F=>⟨_,rfl,F.kp,kC (n:=r) (k.on F).tb ae ae λJ m=>⟨_,rfl,m.kp,kC (n:=0) ((k.on F).on m).tb bA bA λM o=>⟨_,rfl,o.kp,kC (n:=0) (((k.on F).on m).on o).tb bA bA λO t=>⟨_,rfl,t.kp,jm (u:=0) ((((k.on F).on m).on o).on t).tb bA λP w=>⟨_,rfl,w.kp,KJ ⟨_,rfl,bn ?_⟩⟩⟩⟩⟩⟩;have u:=((((v.tt F).tt m).tt o).tt t).tt w;refine oK (xs:= [str (Lib.decDigits 0),str (Lib.itoa r),str (Lib.itoa 0),str (Lib.itoa 0),str (Lib.decDigits 0),⟨#[45]⟩]) (B.on (u.tt (Fr.push _ _))) z (row_of (vs:= [str (Lib.decDigits 0),str (Lib.itoa r),str (Lib.itoa 0),str (Lib.itoa 0),str (Lib.decDigits 0),⟨#[45]⟩]) rfl) rfl bO (λx y=> ?_) λg s f=>⟨_,rfl,A g s ((u.tt (Fr.push _ _)).tt f)⟩;have D:=mH (u:=0) bA;have C:=vd (n:=r) ae ae;have E:=vd (n:=0) bA bA;simp only[bG,dU,or_false]at y;rcases y with rfl|rfl|rfl|rfl|rfl|rfl;all_goals first|(rw[ve];omega)|decide

end zK
end
section
namespace y7
open qM xH Im
open pg hiding Good
variable {h H:Heap} {R:dH} {l j d n s:Nat} {X b a f:Ft} {D:DS} {x:JN} {I:GY} {c:SS} {e:iZ.Ev} {A:List me.me}
variable {Q:Nat->Prop}
structure Fx (h:Heap) (l j d s:Nat) (b a:Ft) (n:Nat) (x:JN) (D:DS) (I:GY) (c:SS):Prop where
 cV:h[l]? =some (.cells #[.pointer (some ⟨j,0,none⟩),pt s,.int .i64 (room n:Int)] 233 (0,0))
 jn:Jn h j d b n x D
 st:Pt h s a I c
 js: ∀y,b.M y->¬(a.M y\/a.D y)
 lj: ¬b.M l
 ls: ¬(a.M l\/a.D l)
def O6(l:Nat)(b a:Ft):Ft:=⟨λy=>y=l\/b.M y\/a.M y,a.D⟩
def Lg(h:Heap)(l:Nat)(X:Ft)(n:Nat)(x:JN)(D:DS)(c:SS):Prop:= ∃j d s b a I,Fx h l j d s b a n x D I c/\X=O6 l b a
def Fx.ll(A:Fx h l j d s b a n x D I c):l<h.size:=(bP.1 A.cV).1
def Lg.lt(g:Lg h l X n x D c)(y:Nat)(i:X.M y\/X.D y):y<h.size:=by obtain⟨j,d,s,b,a,I,A,rfl⟩:=g;rcases i with(rfl|e|e)|e;exact A.ll;exact A.jn.lt y e;exact A.st.lt y (.inl e);exact A.st.lt y (.inr e)
def fJ(A:Fx h l j d s b a n x D I c)(g:R (.B true) h):Cl 153 #[.P l 0] h R:=
 vO ⟨_,aj A.cV,g⟩
def yW(A:Fx h l j d s b a n x D I c)(g:R (pt s) h):Cl 86 #[.P l 0] h R:=
 uj ⟨_,aj A.cV,g⟩
def qO(g:Lg h l X n x D c)(i:R (.I x.done) h):Cl 108 #[.P l 0] h R:=by obtain⟨j,d,s,b,a,I,A,rfl⟩:=g;refine vP (fJ A ⟨_,rfl,?_⟩);rw[fe];exact⟨_,aj A.cV,xH.qO A.jn ⟨_,rfl,i⟩⟩
def Fx.Xj{k:JN}{i:DS}{g:Ft}(A:Fx h l j d s b a n x D I c)(J:Jn H j d g n k i)(st:cW b h g H):Fx H l j d s g a n k i I c/\cW (O6 l b a) h (O6 l g a) H:=by have o: ∀y,a.M y\/a.D y->¬b.M y:=λy m e=>A.js y e m;refine⟨⟨st.fr.get A.cV A.lj,J,A.st.frame st.fr o,λy e q=> ?_,λe=> ?_,A.ls⟩,⟨st.fr.mono λy _ e=> .inr (.inl e),?_,λy=> .inl,λy=>id⟩⟩;rcases st.nT y e with e|e;exact A.js y e q;have:=A.st.lt y q;omega;rcases st.nT l e with e|e;exact A.lj e;have:=A.ll;omega;rintro y (e|e|e);exact .inl (.inl e);exact(st.nT y e).imp (λe=> .inr (.inl e)) id;exact .inl (.inr (.inr e))
def Fx.frame(A:Fx h l j d s b a n x D I c)(F:Fr Q h H)(g: ∀y,(O6 l b a).M y\/(O6 l b a).D y->¬Q y):Fx H l j d s b a n x D I c:=
 ⟨F.get A.cV (g l (.inl (.inl rfl))),A.jn.frame F (λy e=>g y (.inl (.inr (.inl e)))),A.st.frame F (λy e=>g y (e.imp (λe=> .inr (.inr e)) id)),A.js,A.lj,A.ls⟩
def Fx.on(A:Fx h l j d s b a n x D I c)(F:Fr No h H):Fx H l j d s b a n x D I c:=A.frame F bD
def Fx.lg(A:Fx h l j d s b a n x D I c):Lg h l (O6 l b a) n x D c:=⟨j,d,s,b,a,I,A,rfl⟩
def Sj(h:Heap)(l d:Nat)(X:Ft)(n:Nat)(x:JN)(D:DS)(c:SS):Prop:= ∃j s b a I,Fx h l j d s b a n x D I c/\X=O6 l b a
def Fx.YG(A:Fx h l j d s b a n x D I c):Sj h l d (O6 l b a) n x D c:=⟨j,s,b,a,I,A,rfl⟩
def Sj.lg(g:Sj h l d X n x D c):Lg h l X n x D c:=by obtain⟨j,s,b,a,I,A,rfl⟩:=g;exact A.lg
def Sj.frame(g:Sj h l d X n x D c)(F:Fr Q h H)(i: ∀y,X.M y\/X.D y->¬Q y):Sj H l d X n x D c:=by obtain⟨j,s,b,a,I,A,rfl⟩:=g;exact(A.frame F i).YG
def zS(O:Ak e)(v:Dk h d f n D)(B:4<=n)(C:n<=4096)(T:D.W.length<=1000)(P: ∀g l X,Sj g l d X n Pm (D.put 1 (BC ⟨1,0,0⟩)).sync (kL e)->Fr f.M h g->(∀y,X.M y\/X.D y->f.M y\/h.size<=y)->R (.T #[pt l,.I 0]) g):
  Cl 150 #[.P d 0,iZ.jQ e] h R:=by
 refine yy (self:=e.s) (aw.cE λV h1 Z M o=>aw.dZ M (pg.ft e (λ_ z s a I w u=>⟨_,_,rfl,bo rfl (xH.zS (v.on (o.tt u.fr)) B C T λL j b J m=>⟨_,_,rfl,bo rfl ?_⟩)⟩) (λq=>absurd O q)));have u1:=o.1;have z2:=u.fr.1;have z3:=m.fr.1;have S: ∀y,a.M y\/a.D y->h.size<=y/\y<z.size:=λy i=>⟨cv (u.ge y i),w.lt y i⟩;have E: ∀y,f.M y->y<h.size:=λy i=>v.lt y i;have K:=w.frame m.fr (λy i e=>iI (S y i) (E y e));obtain⟨U,q,cq,G⟩:=id J;refine M0 G.dk B C λr F=>⟨_,rfl,bn ?_⟩;have z4:=F.1;have p:Fr No r (r.push (.C #[pt j,pt s,.I (room n:Int)] 233)):=Fr.push _ _;have t: ∀y,b.M y->(f.M y\/z.size<=y)/\y<L.size:=λy i=>⟨m.nT y i,J.lt y i⟩;refine P _ r.size _ (Fx.YG ⟨aU,(J.on F).on p,(K.on F).on p,λy i q=> ?_,λq=> ?_,λq=> ?_⟩) ((o.tt u.fr).no (m.fr.on (F.tt p))) ?_;have:=S y q;rcases(t y i).1 with k|k;have:=E y k;omega;omega;have:=(t _ q).2;omega;have:=S _ q;omega;rintro y ((k|k|k)|k);exact .inr ae;exact(t y k).1.imp id (λk=>ae);exact .inr (S y (.inl k)).1;exact .inr (S y (.inr k)).1

end y7
end
section
namespace JK
variable {h H a:Heap} {R:dH} {d n:Nat} {X:Ft} {s:qM.DS}
def TH{e:AR}(i:qM.Dk h d X n s)(O:e.ok n)(q:n<=4096)(o: ∀g,Fr No h g->R (.T #[.Z,.I 0]) g):Cl 287 #[.P d 0,e.S.agg,.I 0,.I 0] h R:=by refine Gf (aO.cE (x:=e.S) λb r E B F=>⟨λA m p l c g=>m=0/\p=none/\l=0/\c=0/\Fr No h g,λ_ _ _ _ _ _=>0,aO.dZ B (zP (a:=0) (m:=0) (i.on F) O q (bg _) λt k=>⟨_,rfl,bo rfl ⟨rfl,rfl,rfl,rfl,F.tt k⟩⟩),?_⟩);rintro _ _ _ _ _ g ⟨rfl,rfl,rfl,rfl,f⟩;exact bo rfl (o g f)
end JK
namespace xH
open qM JK Im
variable {h H a : Heap} {R : Value → Heap → Prop} {d n j : Nat} {X x : Ft} {s : DS}
def vf{h:Heap}{b:Nat}{o:Obj}:Fr (λy=>y=b) h (h.setIfInBounds b o):=⟨bO,λf _ c=>by rw[cS,af (λe=>c e.symm)]⟩
def Fj(I:Dk h d x n s)(h4:4<=n)(h5:n<=4096)(hw:s.W.length<=1000000)(H:s.get 0=mi false)(h1:s.get 1=mi true)(hk: ∀g j X,Jn g j d X n Pm s->Fr No h g->(∀y,X.M y->x.M y\/h.size<=y)->R (.T #[pt j,.Z,.I 0]) g):Cl 213 #[.P d 0] h R:=by
 refine oJ (bn (bn (bn ?_)));have p0:Fr No h (h.push (.C #[.Q none] 231)):=Fr.push _ _;have Z:(h.push (.C #[.Q none] 231))[h.size]? =some (.C #[.Q none] 231 (0,0)):=aU;have z0:(h.push (.C #[.Q none] 231)).size=h.size+1:=bK _;generalize h.push (.C #[.Q none] 231)=c at p0 Z z0⊢;have M:Fr No c (c.push (.C #[.Z] 164)):=Fr.push _ _;have c1:(c.push (.C #[.Z] 164))[c.size]? =some (.C #[.Z] 164 (0,0)):=aU;have z1:(c.push (.C #[.Z] 164)).size=c.size+1:=bK _;generalize c.push (.C #[.Z] 164)=f at M c1 z1⊢;have P:Fr No f (f.push (.C #[.I 0] 28)):=Fr.push _ _;have c2:(f.push (.C #[.I 0] 28))[f.size]? =some (.C #[.I 0] 28 (0,0)):=aU;have z2:(f.push (.C #[.I 0] 28)).size=f.size+1:=bK _;generalize f.push (.C #[.I 0] 28)=g2 at P c2 z2⊢;have T:=(p0.tt M).tt P;refine Hw true (I.on T) ae hw H h1 λg3 t=>au.ex OZ.S ⟨_,rfl,au.fX (x:=OZ.S) λb3 g4 e4 D u=>bo rfl (au.dZ D ?_)⟩;have E:=(T.tt t).tt u;have a':=t.tt u;refine fJ (I.on E) h4 h5 λg5 j X A F lj=>⟨_,rfl,_,aj (F.get D id),av.2 ⟨bA,?_⟩⟩;have hh:=Ul h4 0;refine MO (k:=0) A bA ⟨_,aj (F.get D id),TH A.dk hh.1 h5 λb m=>⟨_,_,_,_,rfl,aj (m.get (F.get D id) id),bo rfl (bn ?_)⟩⟩;have jl:=(bP.1 A.cV).1;have u3:=t.1;have u4:=u.1;have u5:=F.1;have u6:=m.1;have F6:Fr No h b:=(E.tt F).tt m;have C:Fr No g2 b:=((t.tt u).tt F).tt m;have S:Jn b j d X n Pm s:=Jn.on ⟨x,none,0,A⟩ m;have xl: ∀y,X.M y->x.M y\/h.size<=y:=λy k=>by rcases(A.m y).1 k with rfl|⟨J,e,_⟩|q;have:=E.1;exact .inr ae;cases e;exact .inl q
 have xs: ∀y,X.M y->y<b.size:=λy k=>S.lt y k;have L: ∀y,h.size<=y->y<g2.size->¬X.M y:=λy J h' q=>by rcases(A.m y).1 q with rfl|⟨J,e,_⟩|q;have:=a'.1;omega;cases e;have:=I.lt y q;omega
 have k0:=C.get ((M.tt P).get Z id) id;have k1:=C.get (P.get c1 id) id;have k2:=C.get c2 id;have p7:Fr No b (b.push (.C #[.Z] 164)):=Fr.push _ _;have c7:(b.push (.C #[.Z] 164))[b.size]? =some (.C #[.Z] 164 (0,0)):=aU;have z7:(b.push (.C #[.Z] 164)).size=b.size+1:=bK _;generalize b.push (.C #[.Z] 164)=i at p7 c7 z7⊢;refine uY (bn ⟨_,rfl,?_⟩);have p8:Fr No i (i.push (.C #[.Z] 69)):=Fr.push _ _;have c8:(i.push (.C #[.Z] 69))[i.size]? =some (.C #[.Z] 69 (0,0)):=aU;have z8:(i.push (.C #[.Z] 69)).size=i.size+1:=bK _;generalize i.push (.C #[.Z] 69)=G at p8 c8 z8⊢;refine⟨351,#[.P i.size 0],rfl,zzkr,λrec i' j'=> ?_⟩;have B:Fr No G (qp G (rec .ready none)):=(Fr.push _ _).tt (Fr.push _ _);have U:(qp G (rec .ready none))[G.size]? =some (.deferred (some [])):=by unfold qp;rw[eV,af bO,aU]
 have V:(qp G (rec .ready none))[G.size+1]? =some (.loop (rec .ready none)):=by unfold qp;rw[show G.size+1=(G.push (.deferred (some []))).size by simp,aU]
 generalize qp G (rec .ready none)=l at B U V⊢;show Cl 351 #[.func (.yield (G.size+1)) #[] #[],.P i.size 0] l _;refine oY ⟨λg=>g=l,λ_=>0,rfl,?_⟩;rintro l c';subst c';refine⟨_,_,_,aj (B.get c8 id),bo rfl ⟨.ready,none,(by intro e;cases e),V,?_⟩⟩;have fs:Fr (λy=>y=G.size+1) l (fU l (G.size+1) (rec .exhausted none)):=vf;generalize fU l (G.size+1) (rec .exhausted none)=K at fs⊢;have Q:Fr (λy=>y=G.size+1) i K:=(p8.tt B).no fs;have u9:=B.1;have r:Fr (λy=>y=G.size+1) b K:=p7.no Q;have ka:=Q.get c7 ae;have e':=r.get k0 ae;have f':=r.get k1 ae;have g':=r.get k2 ae;have b':=fs.get U ae;refine⟨_,_,_,aj ka,aY e' (by show 0<1;omega) λgb ib zb qb=> ?_⟩;have o:Fr (λy=>y=h.size) K gb:=Fr.of_eq zb qb;refine⟨aj (o.get ka ae),aY (o.get f' ae) (by show 0<1;omega) λgc ic zc qc=> ?_⟩;have v:Fr (λy=>y=c.size) gb gc:=Fr.of_eq zc qc;refine aY (v.get (o.get g' ae) ae) (by show 0<1;omega) λz d' zd qd=> ?_;have w:Fr (λy=>y=f.size) gc z:=Fr.of_eq zd qd;have p:Fr (λy=>y=G.size) z (z.setIfInBounds G.size (.deferred none)):=vf;refine⟨w.get (v.get (o.get b' ae) ae) ae,?_⟩;generalize z.setIfInBounds G.size (.deferred none)=ge at p⊢;refine⟨_,aj (p.get (w.get (v.get ib ae) ae) ae),_,_,_,aj (p.get (w.get ic ae) ae),_,aj (p.get d' ae),?_⟩;have O:Fr (λy=>y=h.size\/y=c.size\/y=f.size\/y=G.size\/y=G.size+1) b ge:=by refine(((r.trans o (S'':=λy=>y=h.size\/y=c.size\/y=f.size\/y=G.size\/y=G.size+1) ?_ ?_).trans v bD ?_).trans w bD ?_).trans p bD ?_;all_goals (intro y _ e;omega)
 exact hk ge j X (S.frame O λy k q=>by have J:=xs y k;rcases q with q|q|q|q|q;exact L y ae ae k;exact L y ae ae k;exact L y ae ae k;omega;omega) (F6.fresh O λy q=>ae) xl
end xH
end
section
namespace xH
open qM JK Im
variable {h H g:Heap} {R:dH} {d n j:Nat} {X a:Ft} {s:DS}
def Fk(B:Dk h d a n s)(h4:4<=n)(O:s.W.length<=1000000)(H:s.get 0=mi false)(L:s.get 1=mi false)(M: ∀u,Fr No h u->R (.T #[.Q none,.Z,.I 4]) u):Cl 213 #[.P d 0] h R:=by
 refine oJ (bn (bn (bn ?_)));have A:Fr No h (h.push (.C #[.Q none] 231)):=Fr.push _ _;have C:(h.push (.C #[.Q none] 231))[h.size]? =some (.C #[.Q none] 231 (0,0)):=aU;have z0:(h.push (.C #[.Q none] 231)).size=h.size+1:=bK _;generalize h.push (.C #[.Q none] 231)=G at A C z0⊢;have P:Fr No G (G.push (.C #[.Z] 164)):=Fr.push _ _;have r:(G.push (.C #[.Z] 164))[G.size]? =some (.C #[.Z] 164 (0,0)):=aU;have z1:(G.push (.C #[.Z] 164)).size=G.size+1:=bK _;generalize G.push (.C #[.Z] 164)=b at P r z1⊢;have p:Fr No b (b.push (.C #[.I 0] 28)):=Fr.push _ _;have t:(b.push (.C #[.I 0] 28))[b.size]? =some (.C #[.I 0] 28 (0,0)):=aU;have z2:(b.push (.C #[.I 0] 28)).size=b.size+1:=bK _;generalize b.push (.C #[.I 0] 28)=g2 at p t z2⊢;have q:=(A.tt P).tt p;refine Hw false (B.on q) ae O H L λg3 E=>au.ex au.S.z ⟨_,rfl,au.fX (x:=au.S.z) λb3 K e4 d4 J=>cF rfl ?_⟩;have F:=E.tt J;have U:=F.get ((P.tt p).get C id) id;have V:=F.get (p.get r id) id;have Z:=F.get t id;refine aY U (by show 0<1;omega) λv Q zb qb=> ?_;have k:Fr (λy=>y=h.size) K v:=Fr.of_eq zb qb;refine aY (k.get V ae) (by show 0<1;omega) λw S zc qc=> ?_;have m:Fr (λy=>y=G.size) v w:=Fr.of_eq zc qc;refine aY (m.get (k.get Z ae) ae) (by show 0<1;omega) λz T zd qd=> ?_;have o:Fr (λy=>y=b.size) w z:=Fr.of_eq zd qd;refine⟨_,aj (o.get (m.get Q ae) ae),_,_,_,aj (o.get S ae),_,aj T,M z ?_⟩;exact((((q.tt F).fresh k λy e=>ae).fresh m λy e=>ae).fresh o λy e=>ae)
end xH
namespace y7
open qM xH Im
open pg hiding Good
variable {h H g : Heap} {R : Value → Heap → Prop} {l j d n s : Nat} {X f c a : Ft} {D : DS} {x : JN} {I : GY} {i : SS} {e : iZ.Ev}
def vC(q:R (.T #[pt s,.I 0]) h):Cl 214 #[.Z,.P s 0] h R:=by refine BW (iS ⟨λt G=>t=0/\G=h,λ_ _=>0,⟨rfl,rfl⟩,?_⟩);rintro _ G ⟨rfl,b⟩;subst b;refine bo rfl ⟨_,rfl,ay.of λJ m=>cF rfl ?_⟩;subst m;refine ay.of λr o=>bo rfl ?_;subst o;refine⟨⟨Int.le_refl 0,Int.le_refl 0⟩,yz ⟨λp l C t k=>p=none/\l=0/\C=0/\t=0/\k=G,λ_ _ _ _ _=>0,⟨rfl,rfl,rfl,rfl,rfl⟩,?_⟩⟩;rintro _ _ _ _ k ⟨rfl,rfl,rfl,rfl,b⟩;subst b;refine bo rfl ⟨_,_,_,_,rfl,bo rfl (xj ⟨λt G=>t=0/\G=k,λ_ _=>0,⟨rfl,rfl⟩,?_⟩)⟩;rintro _ u ⟨rfl,b⟩;subst b;exact bo rfl ⟨_,_,rfl,bo rfl q⟩
def VQ(b:Lg h l X n x D i)(k:R (.I x.all) h):Cl 158 #[.P l 0] h R:=by obtain⟨j,d,s,f,c,I,A,rfl⟩:=b;obtain⟨_,_,_,B⟩:=id A.jn;exact xi (fJ A ⟨_,rfl,bo rfl ⟨_,aj A.cV,oZ (DL B ⟨_,rfl,bo rfl ⟨_,aj B.cV,_,rfl,k⟩⟩)⟩⟩)
def Fk(t:Ak e)(k:Dk h d a n D)(p:4<=n)(w:D.W.length<=1000000)(H:D.get 0=mi false)(o:D.get 1=mi false)(v: ∀G,Fr No h G->R (.T #[.Q none,.I 4]) G):Cl 149 #[.P d 0,iZ.jQ e] h R:=
 rN (self:=e.s) (aw.cE λb z E r F=>aw.dZ r (pg.ft e (λ_ A s c I y u=>⟨_,_,rfl,bo rfl (xH.Fk (k.on (F.tt u.fr)) p w H o λG m=>⟨_,_,_,_,_,rfl,cF rfl (v G ((F.tt u.fr).tt m))⟩)⟩) (λq=>absurd t q)))
def Fj(P:Ak e)(v:Dk h d a n D)(B:4<=n)(C:n<=4096)(T:D.W.length<=1000000)(H:D.get 0=mi false)(L:D.get 1=mi true)(Q: ∀G l X,Sj G l d X n Pm D (kL e)->Fr No h G->(∀y,X.M y\/X.D y->a.M y\/h.size<=y)->R (.T #[pt l,.I 0]) G):Cl 149 #[.P d 0,iZ.jQ e] h R:=by
 refine rN (self:=e.s) (aw.cE λb a' Z O m=>aw.dZ O (pg.ft e (λ_ z s c I w u=>⟨_,_,rfl,bo rfl (xH.Fj (v.on (m.tt u.fr)) B C T H L λM j f J o K=>⟨_,_,_,_,_,rfl,bo rfl (vC ⟨_,_,rfl,bo rfl ?_⟩)⟩)⟩) (λq=>absurd P q)));have u1:=m.1;have z2:=u.fr.1;have z3:=o.1;have S: ∀y,c.M y\/c.D y->h.size<=y/\y<z.size:=λy k=>⟨cv (u.ge y k),w.lt y k⟩;have U: ∀y,a.M y->y<h.size:=λy k=>v.lt y k;obtain⟨V,q,cq,E⟩:=id J;refine M0 E.dk B C λr F=>⟨_,rfl,bn ?_⟩;have z4:=F.1;have p:Fr No r (r.push (.C #[pt j,pt s,.I (room n:Int)] 233)):=Fr.push _ _;have t: ∀y,f.M y->(a.M y\/z.size<=y)/\y<M.size:=λy k=>⟨K y k,J.lt y k⟩;refine Q _ r.size _ (Fx.YG ⟨aU,(J.on F).on p,((w.on o).on F).on p,λy k q=> ?_,λq=> ?_,λq=> ?_⟩) ((m.tt u.fr).tt (o.tt (F.tt p))) ?_;have:=S y q;rcases(t y k).1 with A|A;have:=U y A;omega;omega;have:=(t _ q).2;omega;have:=S _ q;omega;rintro y ((A|A|A)|A);exact .inr ae;exact(t y A).1.imp id (λA=>ae);exact .inr (S y (.inl A)).1;exact .inr (S y (.inr A)).1
end y7
namespace Pp
open qM xH Im y7
open pg hiding Good
variable {h H g : Heap} {R : Value → Heap → Prop} {l j d n s now : Nat} {X f c a : Ft} {D : DS} {x : JN} {I : GY} {i : SS} {e : iZ.Ev}
def fmt(b:Bool)(D:DS):DS:=if b=true then D else(D.put 1 (BC OZ)).sync
structure RJ (D:DS) (b:Bool):Prop where
 w:D.W= []
 g0:D.get 0=mi false
 g1:D.get 1=mi b
def RJ.fmt{b:Bool}(O:RJ D b)(o:D.ok n)(m:2<=n):RJ (fmt b D) true:=by
 cases b with
 |true=>exact O
 |false=>obtain⟨L,k⟩:=D;obtain⟨w,g0,g1⟩:=O;dsimp only at w;subst w;have ll:L.length=n:=o.n;refine⟨rfl,?_,?_⟩;show(L.set 1 (BC OZ)).getD 0 []=mi false;rw[aL,List.getElem?_set_ne bA,<-aL];exact g0;show(L.set 1 (BC OZ)).getD 1 []=mi true;rw[aL,List.getElem?_set_self ae];rfl
def RJ.new(n:Nat)(k:2<=n):RJ (qG n) false:=by
 have G: ∀b,b<2->(qG n).get b=mi false:=λb m=>by show(List.replicate n wu).getD b []=wu;rw[aL,List.getElem?_replicate,iE];rfl
 exact⟨rfl,G 0 bA,G 1 bA⟩
def VR{b:Bool}(u:Ak e)(m:Dk h d a n D)(t:4<=n)(w:n<=4096)(o:RJ D b)(A: ∀G l X,Sj G l d X n Pm (fmt b D) (kL e)->Fr a.M h G->(∀y,X.M y\/X.D y->a.M y\/h.size<=y)->R (.T #[pt l,.I 0]) G):Cl 85 #[.P d 0,iZ.jQ e] h R:=by
 have K:D.W.length=0:=by rw[o.w];rfl
 refine FZ (self:=e.s) (aw.cE λB C E z F=>aw.dZ z ?_);have U:=F.1;cases b with
 |false=>refine Fk u (m.on F) t ae o.g0 o.g1 λJ k=>⟨_,_,rfl,cF rfl (aw.dZ (k.get z id) (y7.zS u (m.on (F.tt k)) t w ae λG l X L p r=>⟨_,_,rfl,A G l X L ((F.tt k).no p) λy v=>(r y v).imp id λq=>cv k.1⟩))⟩
 |true=>refine Fj u (m.on F) t w ae o.g0 o.g1 λG l X L p r=>⟨_,_,rfl,bo rfl (A G l X L ((F.tt p).mono λ_ _ q=>q.elim) λy v=>(r y v).imp id λq=>ae)⟩
def IK(b:Lg h l X n Pm D i)(m:R (.I 0) h):Cl 91 #[.P l 0] h R:=by refine EG ⟨λG=>G=h,λ_=>0,rfl,?_⟩;rintro G k;subst k;exact y7.qO b ⟨_,rfl,y7.VQ b ⟨_,rfl,bo rfl m⟩⟩
def Db(h:Heap)(x d:Nat)(X:Ft)(n:Nat)(D:DS)(e:iZ.Ev)(now:Nat):Prop:= ∃l m q b,h[x]? =some (.cells #[pt l,.map (some m),.int .i64 1,pt q,.int .u64 (now:Int)] 249 (0,0))/\
 h[q]? =some (.cells #[.bool true,.slice none 0 0] 346 (0,0))/\jN h m oF.jc ([]:List (Int×Value))/\Sj h l d b n Pm D (kL e)/\¬(b.M x\/b.D x)/\¬(b.M m\/b.D m)/\¬(b.M q\/b.D q)/\X=⟨λy=>b.M y\/y=x\/y=m\/y=q,b.D⟩
def Db.on{x:Nat}(k:Db h x d X n D e now)(F:Fr No h g):Db g x d X n D e now:=by obtain⟨l,m,q,o,A,p,b,C,r⟩:=k;exact⟨l,m,q,o,F.get A id,F.get p id,b.frame F id,C.frame F bD,r⟩
def KK{b:Bool}(u:Ak e)(z:Dk h d a n D)(Q:4<=n)(U:n<=4096)(ok:RJ D b)(hw:now<=1099511627776)(hk: ∀G x X,Db G x d X n (fmt b D) e now->Fr a.M h G->(∀y,X.M y\/X.D y->a.M y\/h.size<=y)->R (.T #[pt x,.I 0]) G):Cl 43 #[.P d 0,iZ.jQ e,.U (now:Int)] h R:=by
 refine B1 (self:=e.s) (aw.cE λb0 h1 eb t o=>qM.jE (z.on o) ⟨_,rfl,bo (fV.2 ae) (ay.of λc' V=>aw.dZ t (iZ.fA e λh2 F=>⟨_,rfl,?_⟩))⟩);rw[u.1];refine bo rfl (aw.dZ (F.get t id) ⟨_,iZ.Dx (y:=iZ.Ev.zero) rfl rfl,?_⟩);rw[aA u.2];subst V;refine bo rfl (bo (aA ae) (aw.dZ (F.get t id) (VR u (z.on (o.tt F)) Q U ok λh3 l X L J K=>⟨_,_,rfl,bo rfl ?_⟩)));obtain⟨j,s,f,c,I,A,rfl⟩:=id L;refine y7.yW A ⟨_,rfl,av.2 ⟨_,aj A.st.cV,y7.yW A ⟨_,rfl,av.2 ⟨_,aj A.st.cV,?_⟩⟩⟩⟩;obtain⟨Y,hp,_⟩:=id A.st;refine me.EC (hp 0) me.Pn.nil λT p4 l4 c4 S p=>⟨_,_,_,rfl,?_⟩;have E:=S.len;rw[show(kL e).A= []from rfl]at E;have E:l4=0:=E;subst E;refine gr (gG ⟨λb' G=>b'=0/\G=T,λ_ _=>0,⟨rfl,rfl⟩,?_⟩);rintro _ G ⟨rfl,hg⟩;subst hg;refine bo rfl ⟨_,rfl,⟨_,rfl,ay.of λJ1 Z=>bo rfl ?_⟩⟩;subst Z;have m:=L.frame p bD;refine IK m.lg ⟨_,rfl,bo rfl ?_⟩;rw[show(if(((kL e).now:Nat):Int)>(now:Int)then(((kL e).now:Nat):Int)else(now:Int))=(now:Int)from af (by show¬((0:Nat):Int)>_;omega)];obtain⟨j',s',d',e',I',w,eX⟩:=id m;refine B5 (y7.yW w ⟨_,rfl,bo rfl (ay.of λJ2 a'=>bo (aA ae) (av.2 ⟨_,aj w.st.cV,?_⟩))⟩);subst a';refine bo (aA (by show¬(now:Int)<((0:Nat):Int);omega)) (bn (F0 (bn ⟨_,rfl,bn ⟨_,_,rfl,?_⟩⟩)));have O:Fr No G (G.push (.map #[] 0)):=Fr.push _ _;have M:jN (G.push (.map #[] 0)) G.size oF.jc ([]:List (Int×Value)):=jN.push G _;have z5:(G.push (.map #[] 0)).size=G.size+1:=bK _;generalize G.push (.map #[] 0)=k at O M z5⊢;have P:Fr No k (k.push (.C #[.B true,.Z] 346)):=Fr.push _ _;have z6:(k.push (.C #[.B true,.Z] 346)).size=k.size+1:=bK _;have C:(k.push (.C #[.B true,.Z] 346))[k.size]? =some (.C #[.B true,.Z] 346 (0,0)):=aU;generalize k.push (.C #[.B true,.Z] 346)=r at P z6 C⊢;have v:Fr No r (r.push (.C #[.P l 0,.map (some G.size),.I 1,.P k.size 0,.U (now:Int)] 249)):=Fr.push _ _;have B:=(O.tt P).tt v;have f':=o.1;have u2:=F.1;have u3:=J.1;have u4:=p.1;have lt: ∀y,(O6 l f c).M y\/(O6 l f c).D y->y<G.size:=λy hy=>m.lg.lt y hy;refine hk _ r.size _ ⟨l,G.size,k.size,_,aU,v.get C id,(M.frame P id).frame v id,m.frame B bD,λq=> ?_,λq=> ?_,λq=> ?_,rfl⟩ (((o.tt F).no J).on (p.tt B)) ?_;have:=lt _ q;omega;have:=lt _ q;omega;have:=lt _ q;omega;rintro y ((q|q|q|q)|q);exact(K y (.inl q)).imp id λq=>ae
 exact .inr ae;exact .inr ae;exact .inr ae;exact(K y (.inr q)).imp id λq=>ae
end Pp
end
section
namespace zK
open jk
open qM xH Im y7 Pp
variable {h H:Heap} {R:dH} {s:ByteArray} {q:bH} {l c b d n:Nat}
variable {w x y hh:Nat} {X:Ft}
abbrev e7:iZ.Ev:=⟨true,7,0,⟨#[]⟩,⟨#[]⟩⟩
def KL:pg.Ak e7:=⟨zzkr,λe=>by cases bY iZ.Ev.lS e⟩
def Nr(g: jA h R (iZ.jQ e7)):Cl 30 #[] h R:=DN (aw.fX λ_ a _ e f=>aw.dZ e (g a f))
structure Fd (g:Heap) (n da wa x y ha:Nat) (X:Ft):Prop where
 d:g[da]? =some (.cells #[pt wa] 67 (0,0))
 w:g[wa]? =some (.cells #[pt x,pt y,.bool true,.int .u64 7,.int .u64 0,.string ⟨#[]⟩,.string ⟨#[]⟩,pt ha,.int .i64 0,.slice none 0 0] 94 (0,0))
 hh:g[ha]? =some (.cells #[.bool true,.slice none 0 0,.int .i64 0] 181 (0,0))
 db:Db g x y X 100 (fmt false (qG 100)) e7 0
 gd:n<=da
 gw:n<=wa
 gh:n<=ha
 gX: ∀z,X.M z\/X.D z->n<=z
 sd: ¬(X.M da\/X.D da)
 sw: ¬(X.M wa\/X.D wa)
 sh: ¬(X.M ha\/X.D ha)
 dw:da≠wa
 wh:wa≠ha
 dh:da≠ha
 ux:Ux n g
def Fd.on(a:Fd h n d w x y hh X)(f:Fr No h H):Fd H n d w x y hh X:=
 { a with d:=f.get a.d id,w:=f.get a.w id,hh:=f.get a.hh id,db:=a.db.on f,ux:=a.ux.on f }
def _root_.Go.Proofs.YticlajoleibdnaaGreatDoor.Pp.Db.lt{i:Nat}{D:DS}{e:iZ.Ev}{j:Nat}(f:Db h x d X i D e j)(y:Nat)(g:X.M y\/X.D y):y<h.size:=by obtain⟨l,m,q,k,a,A,b,c,_,_,_,rfl⟩:=f;rcases g with(q|q|q|q)|q;exact c.lg.lt y (.inl q);subst q;exact aE a;subst q;exact b.lt;subst q;exact aE A;exact c.lg.lt y (.inr q)
def RL(U:Ut h)(v: ∀g d w x y hh X,Fd g h.size d w x y hh X->Fr No h g->R (pt d) g):Cl 17 #[] h R:=by
 refine FO (Nr λJ r=>aw.ex e7.s ⟨rfl,Ea (self:=e7.s) (aw.cE λb K I j t=>qM.ft (n:=100) bA bA λL y E D u=>⟨_,_,rfl,bo rfl (aw.dZ (u.fr.get j id) (KK (b:=false) (now:=0) KL D bA bA (RJ.new 100 bA) bA λa x X m F G=>⟨_,_,rfl,bo rfl ?_⟩))⟩)⟩);have Z:=r.1;have M:=t.1;have O:=u.fr.1;have Q:=F.1;have k:Fr No h a:=((r.tt t).tt u.fr).fresh F λz q=>by have:=u.ge z (.inl q);omega
 have B:=F.get (u.fr.get j id) λq=>by have:=u.ge _ (.inl q);have:=aE j;omega
 refine aw.dZ B (zZ (bn ⟨_,rfl,(Fr.push _ _).kp,bn ⟨(Fr.push _ _).kp,⟨_,_,rfl,bn ?_⟩⟩⟩));have f:Fr No a (a.push (.C #[.B true,.Z,.I 0] 181)):=Fr.push _ _;have C:(a.push (.C #[.B true,.Z,.I 0] 181))[a.size]? =some (.C #[.B true,.Z,.I 0] 181 (0,0)):=aU;have S:(a.push (.C #[.B true,.Z,.I 0] 181)).size=a.size+1:=bK _;generalize a.push (.C #[.B true,.Z,.I 0] 181)=e at f C S⊢;have p:Fr No e (e.push (.C #[pt x,pt y,.B e7.s.f0,.U e7.s.f1,.U e7.s.f2,.S e7.s.f3,.S e7.s.f4,pt a.size,.I 0,.Z] 94)):=Fr.push _ _;have o:(e.push (.C #[pt x,pt y,.B e7.s.f0,.U e7.s.f1,.U e7.s.f2,.S e7.s.f3,.S e7.s.f4,pt a.size,.I 0,.Z] 94))[e.size]? =some (.C #[pt x,pt y,.B e7.s.f0,.U e7.s.f1,.U e7.s.f2,.S e7.s.f3,.S e7.s.f4,pt a.size,.I 0,.Z] 94 (0,0)):=aU;have A:(e.push (.C #[pt x,pt y,.B e7.s.f0,.U e7.s.f1,.U e7.s.f2,.S e7.s.f3,.S e7.s.f4,pt a.size,.I 0,.Z] 94)).size=e.size+1:=bK _;generalize e.push (.C #[pt x,pt y,.B e7.s.f0,.U e7.s.f1,.U e7.s.f2,.S e7.s.f3,.S e7.s.f4,pt a.size,.I 0,.Z] 94)=i at p o A⊢;have P:Fr No i (i.push (.C #[pt e.size] 67)):=Fr.push _ _;have lt: ∀z,X.M z\/X.D z->z<a.size:=m.lt;refine v _ i.size e.size x y a.size X ⟨aU,P.get o id,(p.tt P).get C id,((m.on f).on p).on P,ae,ae,ae,λz q=> ?_,λq=> ?_,λq=> ?_,λq=> ?_,ae,ae,ae,U.x (((k.tt f).tt p).tt P)⟩ (((k.tt f).tt p).tt P);rcases G z q with q|q;have:=u.ge z (.inl q);omega;omega;have:=lt _ q;omega;have:=lt _ q;omega;have:=lt _ q;omega
def gm(a:Fd h n d w x y hh X)(e:R (pt x) h):Cl 96 #[.P w 0] h R:=pJ ⟨_,aj a.w,e⟩
def uB:mY Tryz.prog 245 oF.jc (.Q none):=mY.of 3 250 zzkr oF.WR zzkr
def qt{a:Int}(e:Fd h n d w x y hh X)(g:R (.T #[.Q none,.I 4]) h):Cl 166 #[.P x 0,.I a] h R:=by obtain⟨l,m,q,i,B,bq,M,L,o,j,k,E⟩:=e.db;have f:=Mz uB M a;exact pX (eZ ⟨_,aj B,_,rfl,bo rfl ⟨_,aj B,_,f,cF rfl g⟩⟩)
def O7(f:Fd h n d w x y hh X)(v: ∀g,Fr (λz=>n<=z) h g->R (.T #[.I 1,.I 0]) g):Cl 97 #[.P x 0] h R:=by
 obtain⟨l,m,q,J,B,bq,M,L,U,O,S,i⟩:=f.db;have t:n<=x:=f.gX x (.inl (by rw[i];exact .inr (.inl rfl)));have G:n<=m:=f.gX m (.inl (by rw[i];exact .inr (.inr (.inl rfl))));have A:x≠m:=λE=>by obtain⟨T,K,k,_⟩:=M;have:=k.cV;rw[<-E,B]at this;cases this
 refine nE (eZ ⟨_,aj B,_,rfl,bo rfl ⟨_,aj B,_,PS uB M,bo rfl ⟨_,aj B,_,aj B,aY B (by show 2<5;omega) λa o Z Q=>⟨_,aj o,Gb (EH (bn ⟨_,rfl,bn ?_⟩))⟩⟩⟩⟩);have F:Fr (λz=>z=x) h a:=Fr.of_eq Z Q;have p:Fr No a (a.push (.C #[.B true,.Z,.I 0] 442)):=Fr.push _ _;generalize a.push (.C #[.B true,.Z,.I 0] 442)=j at p⊢;have P:Fr No j (j.push (.C #[.P a.size 0,.Z,.I 0,.Z,.I 0] 353)):=Fr.push _ _;refine⟨_,rfl,(p.tt P).kp,PT uB (((M.mV (Q m λE=>A E.symm)).frame p id).frame P id) λu I D C=>v u ?_⟩;have r:=Fr.of_eq (S:=λz=>z=m) D C;exact((F.mono λz _ e=>by rw[e];exact t).tt ((p.tt P).mono λ_ _=>False.elim)).tt (r.mono λz _ e=>by rw[e];exact G)

end zK
end
section
namespace zK
open jk
variable {h H:Heap} {R:dH} {s:ByteArray} {p q:bH} {l c a b:Nat} {x ls T:List ByteArray} {K:BK}
variable {t:bC} {es:List (bC×bC)} {k:Nat}
def RM(B:Bs h)(I:Fi h b K)(a':Row h p (x.map Value.string))(Z:l=x.length)(hn:x.length<=100000)(hz: ∀b'∈x,b'.size<=100000)
  (G: ∀g r,Fr (λy=>y=b) h g->r=(match jw x with
   |some [X,d,i]=>if(decide (d>X)||(decide (i>d)||(decide (X<K.l0)||decide (i<K.l2))))=true then(K,false)else({ K with l0:=X,l1:=d,l2:=i },true)
   |_=>(K,false))->Fi g b r.1->R (.B r.2) g):Cl 27 #[.P b 0,.L p l a] h R:=by
 refine r9 (yV B a' Z hn hz λg q m c f hr=>⟨_,_,_,_,rfl,ay.of λJ E=> ?_⟩);have j:=I.on f;have F:Fr (λy=>y=b) h g:=f.mono λ_ _ q=>q.elim;have no:(match jw x with
   |some [X,d,i]=>if(decide (d>X)||(decide (i>d)||(decide (X<K.l0)||decide (i<K.l2))))=true then(K,false)else({ K with l0:=X,l1:=d,l2:=i },true)
   |_=>(K,false))=(K,false)->J true g:=λe=>by
  subst E;exact cF rfl (G g (K,false) F e.symm j)
 cases e:jw x with
 |none=>rw[e]at no;exact cF rfl (no rfl)
 |some z=>
  rw[e]at no;obtain⟨r,rfl,M,c'⟩:=hr z e;refine bo rfl ?_
  match z,r,M,no,e with
  | [],r,M,no,e=>exact cF rfl (no rfl)
  | [_],r,M,no,e=>exact cF rfl (no rfl)
  | [_,_],r,M,no,e=>exact cF rfl (no rfl)
  |_::_::_::_::z,r,M,no,e=>exact cF (fp.2 (by simp;omega)) (no rfl)
  | [X,d,i],r,M,no,e=>obtain⟨A,rfl⟩:=r.some (by intro e;cases e);have C:aQ g (A.add (Int.toNat 0*1))=some (.I X):=r.cell (j:=0) rfl;have v:aQ g (A.add (Int.toNat 1*1))=some (.I d):=r.cell (j:=1) rfl;have w:aQ g (A.add (Int.toNat 2*1))=some (.I i):=r.cell (j:=2) rfl;dsimp only at no;refine bo rfl ⟨⟨ae,bO⟩,av.2 ⟨_,v,⟨ae,bO⟩,av.2 ⟨_,C,?_⟩⟩⟩;by_cases D:d>X;exact cF (aq D) (no (by rw[aq D];rfl));refine bo (aA D) ⟨⟨ae,bO⟩,av.2 ⟨_,w,⟨ae,bO⟩,av.2 ⟨_,v,?_⟩⟩⟩;by_cases n:i>d;exact cF (aq n) (no (by rw[aq n,Bool.true_or,Bool.or_true];rfl));refine bo (aA n) ⟨⟨ae,bO⟩,av.2 ⟨_,C,⟨ae,bO⟩,_,(aj j:aQ g (AA b 5)=_),?_⟩⟩;by_cases o:X<K.l0;exact cF (aq o) (no (by rw[aq o,Bool.true_or,Bool.or_true,Bool.or_true];rfl));refine bo (aA o) ⟨⟨ae,bO⟩,av.2 ⟨_,w,⟨ae,bO⟩,_,(aj j:aQ g (AA b 7)=_),?_⟩⟩;by_cases u:i<K.l2;rw[aq u];exact no (by rw[aq u,Bool.or_true,Bool.or_true,Bool.or_true];rfl);rw[aA u];subst E;refine bo rfl ⟨bf _,av.2 ⟨_,by rw[<-cA A];exact C,_,v,_,w,j.set (K':= { K with l0:=X }) bA rfl λg1 L Q=>L.set (K':= { K with l0:=X,l1:=d }) bA rfl λg2 O S=>O.set (K':= { K with l0:=X,l1:=d,l2:=i }) bA rfl λV P U=> ?_⟩⟩;refine G V ({ K with l0:=X,l1:=d,l2:=i },true) (((F.tt Q).tt S).tt U) ?_ P;rw[e];dsimp only;rw[aA D,aA n,aA o,aA u];rfl
def KM{A b c d e:bC}{n:List Int}(q:jw [A,b,c,d,e]=some n): ∃X f g i j,n= [X,f,g,i,j]:=by unfold jw at q;split at q;cases q;exact⟨_,_,_,_,_,rfl⟩;cases q
def RN{j:Bool}(B:Bs h)(O:Row h p (x.map Value.string))(hl:l=x.length)(hc:l<=a)(hn:x.length<=100000)(hz: ∀P∈x,P.size<=100000)(i: ∀g,Fr No h g->R (.B (zL x j)) g):Cl 26 #[.L p l a,.B j] h R:=by
 refine zV (ay.of λa' hJ=> ?_);have no: ∀g,Fr No h g->zL x j=false->a' true g:=λg f e=>by subst hJ;have:=i g f;rw[e]at this;exact cF rfl this
 by_cases len:x.length=6
 rotate_left
 refine cF (fp.2 ae) (no h (Fr.refl _ _) ?_);unfold zL;split;exact absurd rfl len;rfl;obtain⟨X,o,u,v,y,w,rfl⟩: ∃X o u v y w,x= [X,o,u,v,y,w]:=by
  match x,len with
  | [X,o,u,v,y,w],_=>exact⟨_,_,_,_,_,_,rfl⟩
 subst hl;obtain⟨b',rfl⟩:=O.some (by intro e;cases e);refine bo rfl ⟨⟨ae,bO⟩,av.2 ⟨_,O.cell (j:=5) rfl,HA (hz _ bO) λg1 M=>⟨_,rfl,?_⟩⟩⟩;have n: ∀g,Fr No h g->zL [X,o,u,v,y,w] j=false->R (.B false) g:=λg f e=>by have:=i g f;rw[e]at this;exact this
 unfold zL at no n i;dsimp only at no n i;cases Z:x6 w with
 |false=>rw[Z]at no;exact no g1 M rfl
 |true=>
 rw[Z]at n i;subst hJ;refine bo rfl ⟨ae,?_⟩;rw[iV];have r5:Row g1 (some b') ([X,o,u,v,y].map Value.string):=by have:=(O.frame M bD).sub (cap:=a) (l:=0) (u:=5) (sz:=1) (bg _) (by have:6<=a:=hc;omega);rw[iV]at this;exact this
 refine yV (B.on M) r5 rfl bO (λP hx=>hz P (show P∈ [X,o,u,v,y]++ [w]from dp _ hx)) λG q m c f2 hr=>⟨_,_,_,_,rfl,ay.of λU Q=> ?_⟩;have F:=M.tt f2;cases L:jw [X,o,u,v,y]with
 |none=>rw[L]at n;subst Q;exact cF rfl (cF rfl (n G F rfl))
 |some ns=>
  obtain⟨z,A,C,E,I,rfl⟩:=KM L;rw[L]at n i;dsimp only at n i;obtain⟨r,em,mc,d'⟩:=hr _ L;subst em;obtain⟨d,rfl⟩:=r.some (by intro e;cases e);have c0:aQ G (d.add (Int.toNat 0*1))=some (.I z):=r.cell (j:=0) rfl;have V:aQ G (d.add (Int.toNat 1*1))=some (.I A):=r.cell (j:=1) rfl;have S:(!decide (A>99) && ((j||decide (z=0)) && (decide (A=0)||(!(decide (C>0)||(decide (E>0)||decide (I>0))) && isS w [45]))))=false->U true G:=λe=>by subst Q;exact cF rfl (n G F (by rw[e];rfl))
  refine bo rfl ⟨⟨ae,bO⟩,av.2 ⟨_,V,?_⟩⟩;by_cases J:A>99;exact cF (aq J) (S (by rw[aq J];rfl));rw[aA J]at S i;refine bo (aA J) ?_;have go:(j||decide (z=0))=true->U false G:=λen=>by
   rw[en]at i;subst Q;refine bo rfl ⟨⟨ae,bO⟩,av.2 ⟨_,V,?_⟩⟩;by_cases D:A=0;rw[aq D]at i;exact cF (cU.2 D) (i G F);rw[aA D]at i;refine bo (fV.2 D) ⟨⟨ae,by show(2:Int)<=((5:Nat):Int);omega⟩,?_⟩;have r3:Row G (bV (some d) c (Int.toNat 2) 1) ([C,E,I].map nI):=r.sub (cap:=c) (l:=2) (u:=5) (sz:=1) ae mc;refine RH r3 rfl bO ⟨_,rfl,?_⟩;have ea:([C,E,I].any λc'=>decide (c'>0))=(decide (C>0)||(decide (E>0)||decide (I>0))):=by simp[List.any]
   rw[ea];cases ey:(decide (C>0)||(decide (E>0)||decide (I>0)))with
   |true=>rw[ey]at i;exact bo rfl (i G F)
   |false=>rw[ey]at i;refine cF rfl ⟨⟨ae,bO⟩,av.2 ⟨_,(O.frame F bD).cell (j:=5) rfl,?_⟩⟩;rw[eqs];exact i G F
  cases j with
  |true=>exact bo rfl (go rfl)
  |false=>refine cF rfl ⟨⟨ae,bO⟩,av.2 ⟨_,c0,?_⟩⟩;by_cases D:z=0;rw[show(z !=0)=false by simp[D]];exact go (by simp[D]);rw[show(z !=0)=true by simp[D]];exact S (by simp[D])
def rq{i:Nat}(r:Row h p (x.map Value.string))(d:i<x.length): ∃A,p=some A/\aQ h (A.add (i*1))=some (.S (x.getD i ⟨#[]⟩)):=by obtain⟨A,rfl⟩:=r.some (by intro e;have:=bY List.length e;simp at this;rw[this]at d;simp at d);refine⟨A,rfl,?_⟩;rw[bJ,aL,ai d];exact r.cell (L7 d)
def Xk(B:Bs h)(i:Fi h b K)(S: -9223372036854775808<=K.now/\K.now<=9223372036854775807)(Z: ∀g,Fr (λy=>y=b) h g->Bs g){u tc:Nat}(V:Row h p (ls.map Value.string))(nl: ¬aN p b)(hl:l=ls.length)(h1:1<=ls.length)(z:isS (ls.getD 0 ⟨#[]⟩) [116,105,99,107]=true->2<=ls.length)(e': ∀X∈ls,X.size<=100000)(r:Row h q (T.map Value.string))(U: ¬aN q b)(n:u=T.length)(d':u<=tc)(m:T.length<=100000)(j: ∀X∈T,X.size<=100000)(d: ∀g,Fr (λy=>y=b) h g->Fi g b (yY K ls T).1->R (.B (yY K ls T).2) g):Cl 16 #[.P b 0,.L p l a,.L q u tc] h R:=by
 have no: ∀g,Fr No h g->Fr (λy=>y=b) h g:=λg f=>f.mono λ_ _ q=>q.elim;obtain⟨i',rfl,C⟩:=rq V (i:=0) ae;refine wZ ⟨ae,av.2 ⟨_,C,?_⟩⟩;simp only[eqs];unfold yY at d;dsimp only at d;generalize ls.getD 0 ⟨#[]⟩=v at z d C⊢;cases A:isS v [99,111,110,110,101,99,116]with
 |true=>rw[A,ah rfl]at d;exact cF rfl (L8 B i Z r U n m j λg f o=>⟨_,rfl,d g f o⟩)
 |false=>
 rw[A,af cT]at d;refine bo rfl ?_;cases G:isS v [99,114,97,115,104]with
 |true=>rw[G,ah rfl]at d;exact cF rfl (RG i Z r U n m j λg f o=>⟨_,rfl,d g f o⟩)
 |false=>
 rw[G,af cT]at d;refine bo rfl ?_;cases E:isS v [116,105,99,107]with
 |true=>rw[E,ah rfl]at d;have z:=z E;obtain⟨a',ea,b'⟩:=rq V (i:=1) ae;cases ea;refine cF rfl ⟨ae,av.2 ⟨_,b',ME B.er (by rw[aL,ai ae];exact e' _ (cx _)) λg v f _=>⟨_,_,rfl,_,aj (i.on f),(i.on f).set (K':= { K with now:=wr (K.now+oy (ls.getD 1 ⟨#[]⟩)) }) bA rfl λg' o f'=> ?_⟩⟩⟩;rw[show((u:Int)==0)=decide (T.length=0)from dA.2 (by rw[cU,bN];omega)];exact d g' ((no g f).tt f') o
 |false=>
 rw[E,af cT]at d;refine bo rfl ?_;cases I:isS v [115,116,101,112]with
 |true=>rw[I,ah rfl]at d;exact cF rfl (Fh B r n m j λg f=>⟨_,rfl,d g (no g f) (i.on f)⟩)
 |false=>
 rw[I,af cT]at d;refine bo rfl ?_;cases L:isS v [97,110,115,119,101,114]with
 |true=>rw[L,ah rfl]at d;exact cF rfl (Fh B r n m j λg f=>⟨_,rfl,d g (no g f) (i.on f)⟩)
 |false=>
 rw[L,af cT]at d;refine bo rfl ?_;cases M:isS v [119,97,105,116,115]with
 |true=>rw[M,ah rfl]at d;exact cF rfl (Fh B r n m j λg f=>⟨_,rfl,d g (no g f) (i.on f)⟩)
 |false=>
 rw[M,af cT]at d;refine bo rfl ?_;have Q:((u:Int)==1)=decide (T.length=1):=dA.2 (by simp;omega);cases e7:isS v [110,111,119]with
 |true=>rw[e7,ah rfl]at d;refine cF rfl ?_;rw[Q];by_cases c:T.length=1;rw[aq c]at d;obtain⟨c',rfl,w⟩:=rq r (i:=0) ae;refine cF (aq c) ⟨ae,av.2 ⟨_,w,_,aj i,kC B.tb S.1 S.2 λg f=>⟨_,rfl,f.kp,?_⟩⟩⟩;rw[Xh];exact d g (no g f) (i.on f);rw[aA c]at d;exact bo (aA c) (d h (Fr.refl _ _) i)
 |false=>
 rw[e7,af cT]at d;refine bo rfl ?_;cases O:isS v [111,117,116]with
 |true=>rw[O,ah rfl]at d;refine cF rfl ?_;rw[Q];by_cases c:T.length=1;rw[aq c]at d;obtain⟨c',rfl,w⟩:=rq r (i:=0) ae;refine cF (aq c) ⟨ae,av.2 ⟨_,w,HA (by rw[aL,ai ae];exact j _ (cx _)) λg f=>⟨_,rfl,d g (no g f) (i.on f)⟩⟩⟩;rw[aA c]at d;exact bo (aA c) (d h (Fr.refl _ _) i)
 |false=>
 rw[O,af cT]at d;refine bo rfl (ay.of λJ hJ=> ?_);have h':J (isS v [114,117,110]||(isS v [97,114,114,105,118,101]||isS v [116,97,107,101])) h:=by
  subst hJ;cases P:(isS v [114,117,110]||(isS v [97,114,114,105,118,101]||isS v [116,97,107,101]))with
  |true=>rw[P,ah rfl]at d;exact cF rfl ⟨ae,av.2 ⟨_,C,RN B r n d' m j λg f=>⟨_,rfl,d g (no g f) (i.on f)⟩⟩⟩
  |false=>
  rw[P,af cT]at d;refine bo rfl ?_;cases D:isS v [108,105,110,101,115]with
  |true=>rw[D,ah rfl]at d;exact cF rfl (RM B i r n m j λg j' f er o=>⟨_,rfl,by subst er;exact d g f o⟩)
  |false=>
  rw[D,af cT]at d;refine bo rfl ?_;cases F:isS v [106,117,100,103,101]with
  |true=>rw[F,ah rfl]at d;exact cF rfl (RI B i r n m j λg f=>⟨_,rfl,d g (no g f) (i.on f)⟩)
  |false=>
  rw[F,af cT]at d;refine bo rfl ?_;rw[show((u:Int)==0)=decide (T.length=0)from dA.2 (by rw[cU,bN];omega)];exact d h (Fr.refl _ _) i
 exact Po h' λe=>ay.of λK1 hK=>by subst hK;exact XC (J:=λt g=>J t g) e
def O8(s:bC):Prop:= ∀(h:Heap)(R:dH),Bs h->(∀g,Fr No h g->R (.bool (GN s)) g)->Cl 12 #[.string s] h R
def TI{d:Type}{P:d->Prop}{c:Bool}{A b:d}(e:P A)(f:P b):P (if c=true then A else b):=by cases c<;>assumption
def RO{P:BK->Prop}(K:BK)(ls T:List bC)(H:P K)(d: ∀n,P { K with ml:=n })(e: ∀n,P { K with now:=wr n })(f: ∀X g i,P { K with l0:=X,l1:=g,l2:=i }):P (yY K ls T).1:=by have I:= @TI (BK×Bool) (λr=>P r.1);unfold yY;refine I (d _) (I (d _) (I (e _) (I H (I H (I H (I H (I H (I H (I ?_ (I H H))))))))));split;exact I H (f _ _ _);exact H
def TJ(K:BK)(ls T:List bC)(d: -9223372036854775808<=K.now/\K.now<=9223372036854775807): -9223372036854775808<=(yY K ls T).1.now/\(yY K ls T).1.now<=9223372036854775807:=
 RO (P:=λK=> -9223372036854775808<=K.now/\K.now<=9223372036854775807) K ls T d (λ_=>d) (λ_=>RE _) λ_ _ _=>d
def Ma{v:bC}(e:isS v [116,105,99,107]=true):(iO v).1.length=1:=by have:v.data.toList= [116,105,99,107]:=cU.1 e;unfold iO isS;rw[this];rfl
def Mb{s:bC}(e:GN s=true)(E:isS (ga s 0) [116,105,99,107]=true):2<=(words s).length:=by unfold GN A4 at e;simp only[bE,bN]at e;rw[Ma E]at e;omega
def TK{s:bC}(L:O8 s)(B:Bs h)(o:Fi h b K)(a': -9223372036854775808<=K.now/\K.now<=9223372036854775807)(b': ∀g,Fr (λy=>y=b) h g->Bs g)(hs:s.size<=10000)(ht:t.size<=10000)(d: ∀g,Fr (λy=>y=b) h g->Fi g b (pA K s t).1->R (.B (pA K s t).2) g):Cl 11 #[.P b 0,.agg #[.S s,.S t]] h R:=by
 have lb:b<h.size:=aE o;have no: ∀g,Fr No h g->Fr (λy=>y=b) h g:=λg f=>f.mono λ_ _ q=>q.elim;refine ue (bn ?_);have D:Fr No h (h.push (.C #[.S s,.S t] 32)):=Fr.push _ _;have v:(h.push (.C #[.S s,.S t] 32))[h.size]? =some (.C #[.S s,.S t] 32 (0,0)):=aU;generalize h.push (.C #[.S s,.S t] 32)=g1 at D v⊢;refine⟨_,aj v,L g1 _ (B.on D) λI U=>⟨_,rfl,?_⟩⟩;have i:=D.tt U;have w:=U.get v id;unfold pA at d;cases z:GN s with
 |false=>rw[z,af cT]at d;refine cF rfl ⟨_,aj w,?_⟩;rw[eqs];exact d I (no I i) (o.on i)
 |true=>
 rw[z,ah rfl]at d;have w1:=JC s;have w2:=JC t;have l1:=pz s;have l2:=pz t;refine bo rfl ⟨_,aj w,_,aj w,Dq (B.on i).mx ae λJ r u=>⟨_,_,_,rfl,r.kp,Dq ((B.on i).on r).mx ae λG V r4=>⟨_,_,_,rfl,ae,?_⟩⟩⟩;have F:=(i.tt r).tt V;have O:=B.on F;have P:=o.on F;have u:=u.frame V bD;have z2:=i.1;have z3:=r.1;have c': ∀g,Fr (λy=>y=b) G g->Bs g:=λg f=>b' g ((no G F).tt f);obtain⟨A,n,C⟩:=rq r4 (i:=0) ae;cases n;have rd:Row G (bV (Sa J.size 0) (words t).length (Int.toNat 1) 1) (((words t).drop 1).map Value.string):=by have:=r4.sub (cap:=(words t).length) (l:=1) (u:=(words t).length) (sz:=1) ae (bf _);rw[bJ,bz bO]at this;rw[List.map_drop];exact this
 have nd: ¬aN (bV (Sa J.size 0) (words t).length (Int.toNat 1) 1) b:=λq=>by obtain⟨A,e,q⟩:=NP q;cases e;have:J.size=b:=q;omega
 have Z:(words t).length - Int.toNat 1=((words t).drop 1).length:=by rw[cj];rfl
 have zd: ∀X∈(words t).drop 1,X.size<=100000:=λX M=>by have:=zJ (List.mem_of_mem_drop M);omega
 refine av.2 ⟨_,C,?_⟩;simp only[eqs];dsimp only at d;cases S:isS ((words t).getD 0 ⟨#[]⟩) [101,114,114]with
 |true=>
  rw[S,ah rfl]at d;refine cF rfl ⟨ae,Fh O rd Z (by rw[cj];omega) zd λm j=>⟨_,rfl,?_⟩⟩;have d:=λg (f:Fr No m g)=>d g (no g ((F.tt j).tt f)) (o.on ((F.tt j).tt f));cases E:Bu ((words t).drop 1) 99 with
  |false=>rw[E]at d;exact bo rfl (d m (Fr.refl _ _))
  |true=>
   rw[E]at d;have len:2<=(words t).length:=by unfold Bu at E;split at E;rename_i e;have:=Hz e;rw[cj]at this;simp at this;omega;cases E
   obtain⟨A,n,C⟩:=rq (r4.frame j bD) (i:=1) ae;cases n;refine cF rfl ⟨ae,av.2 ⟨_,C,?_⟩⟩;cases Q:isS ((words t).getD 1 ⟨#[]⟩) [48]with
   |true=>rw[Q]at d;exact bo rfl (d m (Fr.refl _ _))
   |false=>rw[Q]at d;obtain⟨A,n,C⟩:=rq (u.frame j bD) (i:=0) ae;cases n;exact cF rfl ⟨ae,av.2 ⟨_,C,IK ⟨_,rfl,d m (Fr.refl _ _)⟩⟩⟩
 |false=>
 rw[S,af cT]at d;refine bo rfl ⟨ae,av.2 ⟨_,C,?_⟩⟩;cases E:isS ((words t).getD 0 ⟨#[]⟩) [111,107]with
 |false=>rw[E,af cT]at d;exact cF rfl (d G (no G F) P)
 |true=>rw[E,ah rfl]at d;refine bo rfl ⟨ae,Xk O P a' c' (ls:=words s) u (λ⟨A,e,q⟩=>by cases e;have:I.size=b:=q;omega) rfl ae (λq=>Mb z q) (λX M=>cv (zJ M)) rd nd Z (bf _) (by rw[cj];omega) zd λm j H5=>⟨_,rfl,d m ((no G F).tt j) H5⟩⟩
def O9(K:BK)(s t:bC)(d: -9223372036854775808<=K.now/\K.now<=9223372036854775807): -9223372036854775808<=(pA K s t).1.now/\(pA K s t).1.now<=9223372036854775807:=by
 unfold pA;dsimp only
 repeat' split
 all_goals first|exact d|exact TJ _ _ _ d
def Pa(K:BK)(X:bC×bC)(d: -9223372036854775808<=K.now/\K.now<=9223372036854775807): -9223372036854775808<=(gH K X).1.now/\(gH K X).1.now<=9223372036854775807:=by unfold gH;split;exact d;exact O9 { K with heard:=wr (K.heard+1) } X.1 X.2 d
def Ns{s:bC}(L:O8 s)(B:Bs h)(d:Fi h b K)(I: -9223372036854775808<=K.now/\K.now<=9223372036854775807)(r: ∀g,Fr (λy=>y=b) h g->Bs g)(M:s.size<=10000)(O:t.size<=10000)(e: ∀g,Fr (λy=>y=b) h g->Fi g b (gH K (s,t)).1->R (.T #[.B (gH K (s,t)).2.1,.I (gH K (s,t)).2.2]) g):Cl 9 #[.P b 0,.agg #[.S s,.S t]] h R:=by
 have no: ∀g,Fr No h g->Fr (λy=>y=b) h g:=λg f=>f.mono λ_ _ q=>q.elim;have Q:b<h.size:=aE d;refine uf (bn ?_);have F:Fr No h (h.push (.C #[.S s,.S t] 32)):=Fr.push _ _;have E:(h.push (.C #[.S s,.S t] 32))[h.size]? =some (.C #[.S s,.S t] 32 (0,0)):=aU;generalize h.push (.C #[.S s,.S t] 32)=G at F E⊢;refine ay.of λJ D=>⟨_,aj (d.on F),?_⟩;subst D;refine bo rfl ⟨_,aj (d.on F),?_⟩;cases n:K.oz with
 |true=>rw[show gH K (s,t)=(K,false,7)from ah n]at e;exact cF rfl (e G (no G F) (d.on F))
 |false=>rw[show gH K (s,t)=({ (pA { K with heard:=wr (K.heard+1) } s t).1 with oz:= !(pA { K with heard:=wr (K.heard+1) } s t).2 },(pA { K with heard:=wr (K.heard+1) } s t).2,0)from af (by rw[n];decide)]at e;refine bo rfl ⟨_,aj (d.on F),(d.on F).set (K':= { K with heard:=wr (K.heard+1) }) bA rfl λA u o=> ?_⟩;have m:=o.get E ae;have i:=(no G F).tt o;refine⟨_,aj m,_,aj m,TK L (r A i) u I (λg f=>r g (i.tt f)) M O λP w v=>⟨_,rfl,v.set (K':= { (pA { K with heard:=wr (K.heard+1) } s t).1 with oz:= !(pA { K with heard:=wr (K.heard+1) } s t).2 }) bA rfl λC j z=>⟨_,aj j,?_⟩⟩⟩;rw[Bool.not_not];exact e C ((i.tt w).tt z) j
def ft(d: ∀g,Fi g h.size CA->Fr No h g->R (.P h.size 0) g):Cl 8 #[] h R:=D7 (bn (d _ aU (Fr.push _ _)))
def Fl(X:bC×bC):List Value:= [.string X.1,.string X.2]
def kh(K:BK):List (bC×bC)->BK
 | []=>K
 |X::l=>kh (gH K X).1 l
def xE: ∀(K:BK)(l:List (bC×bC))(X:bC×bC),kh K (l++ [X])=(gH (kh K l) X).1
 |_, [],_=>rfl
 |K,y::l,X=>xE (gH K y).1 l X
def Az: ∀(K:BK)(l:List (bC×bC)),(-9223372036854775808<=K.now/\K.now<=9223372036854775807)-> -9223372036854775808<=(kh K l).now/\(kh K l).now<=9223372036854775807
 |_, [],h=>h
 |K,X::l,h=>Az _ l (Pa K X h)
def vg: ∀(K:BK)(l m:List (bC×bC)),fR K l=l.length->fR K (l++m)=l.length+fR (kh K l) m
 |_, [],_,_=>by simp[kh]
 |K,X::l,m,h=>by unfold fR at h;split at h;rename_i q;have i:=vg (gH K X).1 l m (dQ h);show(if(gH K X).2.1=true then fR (gH K X).1 (l++m)+1 else 0)=(l.length+1)+fR (kh (gH K X).1 l) m;rw[ah q,i];omega;cases h
def IL{A:Addr}(r:Row h (some A) (es.flatMap Fl))(e:k<es.length):aQ h (A.add (k*2))=some (.S es[k].1)/\aQ h ((A.add (k*2)).add 1)=some (.S es[k].2):=by have d:=r.gL (enc:=Fl) (sz:=2) (λ_=>rfl) (ai e);obtain⟨Q,f,_⟩:=d;rw[cA]at Q;exact⟨Q,f⟩
def mQ{s:bC}{Q:Nat->cM}(i: ∀b g,b=h.size->g[b]? =some (.C #[.S s,.S t] 32 (0,0))->Fr No h g->Q b g):
  aT h (.C #[.S (⟨#[]⟩:bC),.S (⟨#[]⟩:bC)] 32) λb d=>aI d (AA b 0) (.S s) λe=>aI e (AA b 1) (.S t) λf=>Q b f:=
 bn (lQ (by show 0<2;omega) (lQ (by show 1<2;omega) (i _ _ rfl aU (Fr.push _ _))))
def IM(d:k<es.length):es.flatMap Fl≠ []:=by
 match es,d with
 |X::l,_=>exact λe=>by simp[Fl]at e
def vD(B:Bs h)(L: ∀X∈es,O8 X.1/\X.1.size<=10000/\X.2.size<=10000)(u:Row h p (es.flatMap Fl))(O:l=es.length)(hn:es.length<=1000)(j: ∀g,Fr No h g->R (.I (fR CA es:Int)) g):Cl 7 #[.L p l c] h R:=by
 subst O;refine zW (ft λM w o=>⟨_,rfl,λi g=> ∃k:Nat,i=(k:Int)/\k<=es.length/\Fr (λy=>y=h.size) M g/\Fi g h.size (kh CA (es.take k))/\fR CA (es.take k)=k,λi _=>es.length - i.toNat,
  ⟨0,rfl,bg _,Fr.refl _ _,w,rfl⟩,?_⟩)
 rintro _ g ⟨k,rfl,a',f,v,J⟩;have z0:=o.1;have d:Fr No h g:=o.fresh f λy e=>ae
 by_cases C:k<es.length;obtain⟨S,rfl⟩:=u.some (IM C);obtain⟨P,Q⟩:=IL (u.frame d bD) C;refine cF (aq ae) ⟨ae,av.2 ⟨_,by rw[aG];exact P,_,by rw[aG];exact Q,mQ λbq Z U E F=> ?_⟩⟩;have m:=L _ (cx C);refine⟨_,aj E,_,aj E,Ns m.1 (B.on (d.tt F)) (v.on F) (Az _ _ ⟨bA,bA⟩) (λV D=>B.on ((d.tt F).fresh D λy e=>ae)) m.2.1 m.2.2 λG r z=>⟨_,_,rfl,?_⟩⟩;have I:Fr No h G:=(d.tt F).fresh r λy e=>ae
 have n:es.take (k+1)=es.take k++ [es[k]]:=by rw[bt,ai C];rfl
 have A:es=es.take k++es[k]::es.drop (k+1):=by rw[<-cK C,List.take_append_drop]
 have lt:(es.take k).length=k:=by rw[bM];omega
 cases q:(gH (kh CA (es.take k)) (es[k].1,es[k].2)).2.1 with
 |false=>
  have e:fR CA es=k:=by rw[A,vg CA (es.take k) _ (by rw[J,lt]),lt];unfold fR;rw[af (by rw[show es[k]=(es[k].1,es[k].2)from rfl,q];decide)];rfl
  rw[e]at j;exact cF rfl (j G I)
 |true=>refine bo rfl ⟨⟨k+1,by rw[eY];rfl,C,(f.on F).tt r,?_,?_⟩,?_⟩;rw[n,xE];exact z;rw[n,vg CA (es.take k) _ (by rw[J,lt]),lt];unfold fR;rw[ah (by rw[show es[k]=(es[k].1,es[k].2)from rfl,q])];rfl;show es.length - Int.toNat (IntKind.wrap .i64 ((k:Int)+1))<es.length - Int.toNat (k:Int);rw[eY];omega
 obtain rfl:k=es.length:=ae
 rw[fk]at J;rw[J]at j;exact bo (aA ae) (j g d)

end zK
end
section
namespace zK
open jk
open qM xH Im y7 Pp
variable {h:Heap} {R:dH} {s:ByteArray} {p q:bH} {l c b d n:Nat} {x:List ByteArray}
def KN(v:bC):Prop:= ∀(h:Heap)(R:dH)(n d w e y H:Nat)(X:Ft)(A:bk.S)(a:List Nat)(B:cO)(m:Nat),(∀g,Fr (λz=>n<=z) h g->Bs g)->Fd h n d w e y H X->n<=h.size->(d<m/\w<m/\H<m/\∀z,X.M z\/X.D z->z<m)->L3 h A v a B m->a.length=uZ (iO v).1->B.length<=100000->
 (∀g s,Fr (λz=>n<=z) h g->R (.string s) g)->Cl 32 #[pt d,A.agg] h R
def vE{s:bC}(G:s.size<=100000)(D:A4 s=true->KN (ga s 0)):O8 s:=λh R B a=>by
 refine yo (RL B.ut λm d w M y C X H i=>⟨_,rfl,vK (ay.of λJ u=>⟨_,aj H.d,?_⟩)⟩);subst u;refine bo rfl ?_;unfold GN at a;by_cases c:s.size<=4096
 rotate_left
 rw[aA c]at a;exact cF (aq ae) ⟨_,_,rfl,a m i⟩;rw[aq c]at a;have e:=B.on i;refine bo (aA ae) (Il e.tb e.er e.mx G λQ A O k E r=>bk.ex A ⟨_,rfl,bk.fX (x:=A) λb o P v j=> ?_⟩);have F:=(i.tt k).tt j;rw[<-E]at a;cases O with
 |false=>exact cF rfl ⟨_,_,rfl,a o F⟩
 |true=>obtain⟨K,t,V,I,L⟩:=r rfl;have Z:=F.1;refine bo rfl (bk.dZ v (D E.symm o _ h.size d w M y C X A K t m.size (λg f=>B.on (F.fresh f λz q=>q)) ((H.on k).on j) Z ⟨aE H.d,aE H.w,aE H.hh,H.db.lt⟩ (V.frame j) I L λg s f=>⟨_,rfl,_,_,rfl,a g (F.fresh f λz q=>q)⟩))
def nK{v:bC}{l:cO}(e:isS v l=true):v=str l:=by have e:v.data.toList=l:=cU.1 e;rw[<-e,Jj]
def no{g G:Heap}(f:Fr No g G):Fr (λz=>n<=z) g G:=f.mono λ_ _ q=>q.elim
def Fm:KN (str [99,111,110,110,101,99,116]):=λh R n d w z y t X A v o m B H Z lt V u L k=>by refine dv (a:=A) (bk.cE λb r E j F=>⟨_,aj j,?_⟩);rw[V.v];simp only[eqs];have a:=H.on F;refine cF rfl ⟨_,aj a.d,oO (gm a ⟨_,rfl,O7 a λi e=>⟨_,_,rfl,_,_,rfl,qq (B i ((no F).tt e)) ⟨bA,bA⟩ ⟨bA,bA⟩ λg s f=>⟨_,rfl,k g s (((no F).tt e).tt (no f))⟩⟩⟩)⟩
def xF{f:List Nat}{i:Nat}(r:Row h p (f.map kR))(H:i<f.length): ∃a g,p=some a/\f[i]? =some g/\aQ h (a.add (i*1))=some (.U (g:Int)):=by obtain⟨a,rfl⟩:=r.some (by intro e;have:=bY List.length e;simp at this;rw[this]at H;simp at H);refine⟨a,f[i],rfl,ai H,?_⟩;rw[bJ];exact r.cell (by rw[aP,ai H];rfl)
def Nt:KN (str [116,105,99,107]):=λh R n d g' X a' hh c' A S bs m B H z0 lt V y lb M=>by
 refine dv (a:=A) (bk.cE λb i eb u F=>⟨_,aj u,?_⟩);rw[V.v];simp only[eqs];have j:=H.on F;have v:=V.frame F;have y:S.length=1:=y;obtain⟨d',f',G,en,D⟩:=xF v.n (i:=0) ae;have Q:=v.nl;refine bo rfl (bo rfl (bo rfl (bo rfl (bo rfl (bo rfl (bo rfl (bo rfl (bo rfl (cF rfl ⟨_,aj j.d,_,_,_,aj u,⟨ae,by rw[Q];omega⟩,?_⟩)))))))));rw[G];refine av.2 ⟨_,D,sc (gm j ⟨_,rfl,?_⟩)⟩;obtain⟨lg,m,q,X0,a,bq,b',L,nx,nm,nq,E⟩:=j.db;have J:n<=X:=H.gX X (.inl (by rw[E];exact .inr (.inl rfl)));have Z:b≠X:=λe=>by have:=H.db.lt X (.inl (by rw[E];exact .inr (.inl rfl)));omega
 refine pY (eZ ⟨_,aj a,_,rfl,bo rfl ⟨_,aj a,?_⟩⟩);have o: ∀e g,0<=e/\e<=1000->Fr (λz=>z=X) i g->∃t8,Value.I e=.I t8/\∃T,Value.I t8=.I T/\Kp i g [(Sa b 1)]/\Cl 51 #[.I T,.Z] g λU t=> ∃C,U=.S C/\Kp g t [(Sa b 1)]/\R (.S C) t:=λe g K f=>by
  have r:Fr (λz=>n<=z) i g:=f.mono λz _ e=>by rw[e];exact J
  refine⟨_,rfl,_,rfl,f.St λp w a' e P=> ?_,oK (xs:= []) (B g ((no F).tt r)) K .nil rfl bO (λX O=>by cases O) λI s k=>⟨_,rfl,k.kp,M I s (((no F).tt r).tt (no k))⟩⟩;rw[bT]at w;subst w;cases e;exact Z P
 split
 exact o 1 i ⟨bA,bA⟩ (Fr.refl _ _);exact⟨_,aj a,aY a (by show 4<5;omega) λg e' z q=>o 0 g ⟨bA,bA⟩ (Fr.of_eq z q)⟩
def RP:KN (str [110,111,119]):=λh R n d a' w b' K X A U C m B H z0 lt V Q O u=>by refine dv (a:=A) (bk.cE λb I D i k=>⟨_,aj i,?_⟩);rw[V.v];simp only[eqs];refine bo rfl (bo rfl (bo rfl (bo rfl (bo rfl (bo rfl (bo rfl (bo rfl (bo rfl (bo rfl (bo rfl (bk.dZ i (iK (a:=A) (bk.cE λz r G t o=>⟨_,aj t,?_⟩)))))))))))));rw[V.v];simp only[eqs];have F:=k.tt o;have a:=H.on F;obtain⟨P,m,q,y,j,bq,M,L,Z,S,T,E⟩:=a.db;refine bo rfl (cF rfl ⟨_,aj a.d,ke (gm a ⟨_,rfl,_,rfl,kN ⟨_,aj j,_,rfl,jm (u:=0) (B r (no F)).tb bA λJ e=>⟨_,rfl,bn ?_⟩⟩⟩)⟩);refine oK (xs:= [str (Lib.decDigits 0)]) (B _ (no ((F.tt e).tt (Fr.push _ _)))) ⟨bA,bA⟩ (row_of (vs:= [str (Lib.decDigits 0)]) rfl) rfl bO (λw v=>by rw[bT.1 v,ve];have:=mH (u:=0) bA;omega) λg s f=>⟨_,rfl,_,rfl,u g s (no (((F.tt e).tt (Fr.push _ _)).tt f))⟩
def RQ{w G y B:Nat}{X:Ft}{E D:Int}(H:Fd h n d w G y B X)(C: ∀g,Fr No h g->R (.T #[(⟨0,0,0,0,0,none,0,0⟩:ag.S).agg,.I 4]) g):Cl 54 #[.P w 0,.I E,.U D] h R:=by
 refine ug (ag.cE (x:=ag.S.z) λb O K j f=>gm (H.on f) ⟨_,rfl,qV (ao.cE (x:=ao.S.z) λI P L u F=>qt ((H.on f).on F) ⟨_,_,rfl,cF rfl (ao.fB u λo v a U=>ao.dZ v (ao.ex _ ⟨_,rfl,ao.fX (x:=ao.S.z) λJ Q M S i=>cF rfl ?_⟩))⟩)⟩);have Z:=f.1;have T:=F.1;have k:Fr No h o:=(f.tt F).fresh a λz e=>ae
 have t:=i.get (a.get (F.get j id) (cv (aE j))) id;exact ag.fB t λr A m V=>ag.dZ A (C r ((k.tt i).fresh m λz e=>ae))
def RR:KN (str [114,117,110]):=λh R n d w T y O X A u D m B H Z lt V L P t=>by refine dv (a:=A) (bk.cE λb M I i F=>⟨_,aj i,?_⟩);rw[V.v];simp only[eqs];have j:=H.on F;have v:=V.frame F;have L:u.length=2:=L;obtain⟨a,Q,e,J,C⟩:=xF v.n (i:=0) ae;obtain⟨z,S,E,K,r⟩:=xF v.n (i:=1) ae;rw[e]at E;cases E;have o:=v.nl;refine bo rfl (bo rfl (cF rfl ⟨_,aj j.d,_,_,_,aj i,⟨ae,by rw[o];omega⟩,?_⟩));rw[e];refine av.2 ⟨_,C,_,_,_,aj i,⟨ae,by rw[o];omega⟩,?_⟩;rw[e];exact av.2 ⟨_,r,RQ j λg f=>ag.ex _ ⟨_,rfl,f.kp,vC (r:=0) (e:=4) (B g (no (F.tt f))) ⟨bA,bA⟩ ⟨bA,bA⟩ λG s k=>⟨_,rfl,k.kp,t G s (no ((F.tt f).tt k))⟩⟩⟩

end zK
end
section
namespace zK
open jk
open qM xH Im y7 Pp
variable {h j:Heap} {R:dH} {s:ByteArray} {p q:bH} {l c o b d f:Nat} {r:List ByteArray} {w x y H:Nat} {X:Ft}
variable {n:Int} {Q:dH} {A:bk.S} {v:bC} {g:List Nat} {i:cO} {m:Nat} {a:Addr}
def VS(k:Fd h f d w x y H X)(D: ∀G,Fr No h G->Q (.T #[ao.S.z.agg,.I 4]) G):Cl 103 #[.P x 0,.I n] h Q:=
 oU (ao.cE (x:=ao.S.z) λE J I B F=>qt (k.on F) ⟨_,_,rfl,cF rfl (ao.fB B λu C t Z=>ao.dZ C (D u (F.fresh t λz e=>ae)))⟩)
def TL(k:Fd h f d w x y H X)(D: ∀G,Fr No h G->Q (.T #[ao.S.z.agg,.I 4]) G):Cl 99 #[.P x 0,.I n,.L p l c] h Q:=
 oT (ao.cE (x:=ao.S.z) λE J I B F=>qt (k.on F) ⟨_,_,rfl,cF rfl (ao.fB B λu C t Z=>ao.dZ C (D u (F.fresh t λz e=>ae)))⟩)
def TM(k:Fd h f d w x y H X)(C: ∀G,Fr (λz=>f<=z) h G->Fr (λz=>z=w) h G->Q (.T #[]) G):Cl 101 #[.P w 0,.I n] h Q:=by
 refine sG (bn ⟨_,_,_,aj (xT k.w),hG (hT ⟨λt G=>t=0/\G=h.push (.C #[.I n] 3),λ_ _=>0,⟨rfl,rfl⟩,?_⟩)⟩);rintro _ G ⟨rfl,B⟩;have F:Fr No h G:=by rw[B];exact Fr.push _ _
 refine bo rfl ⟨_,rfl,cF rfl ⟨_,_,_,rfl,?_⟩⟩;exact aY (F.get k.w id) (by show 9<10;omega) λu I z q=>C u ((no F).tt ((Fr.of_eq (S:=λz=>z=w) z q).mono λz _ e=>by rw[e];exact k.gw)) (F.no (Fr.of_eq z q))
def Pb(u:Fd h f d w x y H X)(t: ∀G,Fr No h G->Q (.I (-1)) G):Cl 100 #[.P w 0,ao.S.z.agg] h Q:=
 kT (x:=ao.S.z) (ao.cE λb e E k F=>⟨_,aj k,cF rfl (t e F)⟩)
def TN(e:Fd h f d w x y H X)(L: ∀G,Fr (λz=>f<=z) h G->Fr (λz=>z=w) h G->R (.I 4) G):Cl 52 #[.P w 0,.I n,.L p l c] h R:=by refine qW (gm e ⟨_,rfl,TL e λP F=>ao.ex _ ⟨_,rfl,ao.fX (x:=ao.S.z) λb S O K k=>ay.of λJ E=>cF rfl (gm ((e.on F).on k) ⟨_,rfl,?_⟩)⟩⟩);subst E;refine ay.of λM I=>cF rfl (ao.dZ K (Pb ((e.on F).on k) λT u=>⟨_,rfl,TM (((e.on F).on k).on u) λD B C=>⟨rfl,?_⟩⟩));subst I;have t:=(F.tt k).tt u;exact L D ((no t).tt B) (t.no C)
def Pc{z:Nat}(V:L3 h A v g i m)(E:A.GL=some a)(k:z<m):z≠a.block:=λe=>by have:=V.nm a.block ⟨a,E,rfl⟩;omega
def YH{I k:Nat}{u G:Heap}(V:L3 h A v g i m)(E:A.GL=some a)(D:w<m)(C:w≠b)(F:Fr (λz=>z=w) u G):Kp u G [(some (a.add I)),(Sa b k)]:=
 F.St λp B y e t=>by simp only[bG,dU,or_false]at B;rcases B with rfl|rfl;cases e;rw[kX]at t;exact Pc V E D t.symm;cases e;exact C t.symm
def TO:KN (str [102,101,101,100]):=λh R f d w x y H X A g i m B t z0 lt V L Z K=>by
 refine dv (a:=A) (bk.cE λb U S k F=>⟨_,aj k,?_⟩);rw[V.v];simp only[eqs];have u:=t.on F;have e:=V.frame F;have L:g.length=1:=L;obtain⟨a,n,E,T,D⟩:=xF e.n (i:=0) ae;have O:=e.nl;have P:w≠b:=by have:=aE t.w;omega
 refine bo rfl (cF rfl ⟨_,aj u.d,_,_,_,aj k,⟨ae,by rw[O];omega⟩,?_⟩);rw[E];exact av.2 ⟨_,D,_,_,_,aj k,TN u λG z J=>⟨_,rfl,YH e E lt.2.1 P J,oK (xs:= []) (B G ((no F).tt z)) ⟨bA,bA⟩ .nil rfl bO (λx M=>by cases M) λI s C=>⟨_,rfl,C.kp,K I s (((no F).tt z).tt (no C))⟩⟩⟩
def TP(e:Fd h f d w x y H X)(z: ∀G,Fr No h G->R (.I 4) G):Cl 55 #[.P w 0,.I n] h R:=by refine qX (gm e ⟨_,rfl,VS e λB F=>ao.ex _ ⟨_,rfl,ao.fX (x:=ao.S.z) λb t E C k=>ay.of λJ u=>bo rfl ?_⟩⟩);subst u;exact z t (F.tt k)
def RT:KN (str [99,108,111,115,101]):=λh R f d w x y H X A g i m B C Z lt V L T J=>by refine dv (a:=A) (bk.cE λb S O z F=>⟨_,aj z,?_⟩);rw[V.v];simp only[eqs];have k:=C.on F;have t:=V.frame F;have L:g.length=1:=L;obtain⟨a,n,E,P,D⟩:=xF t.n (i:=0) ae;have M:=t.nl;refine bo rfl (bo rfl (bo rfl (cF rfl ⟨_,aj k.d,_,_,_,aj z,⟨ae,by rw[M];omega⟩,?_⟩)));rw[E];exact av.2 ⟨_,D,TP k λG e=>⟨_,rfl,e.kp,oK (xs:= []) (B G (no (F.tt e))) ⟨bA,bA⟩ .nil rfl bO (λx K=>by cases K) λI s u=>⟨_,rfl,u.kp,J I s (no ((F.tt e).tt u))⟩⟩⟩
def VT:KN (str [111,117,116]):=λh R f d w x y H X A g i m B u Z lt V L P D=>by refine dv (a:=A) (bk.cE λb O K t F=>⟨_,aj t,?_⟩);rw[V.v];simp only[eqs];have e:=u.on F;have k:=V.frame F;have L:g.length=1:=L;obtain⟨a,n,E,M,C⟩:=xF k.n (i:=0) ae;have J:=k.nl;refine bo rfl (bo rfl (bo rfl (bo rfl (bo rfl (bo rfl (cF rfl ⟨_,aj e.d,_,_,_,aj t,⟨ae,by rw[J];omega⟩,?_⟩))))));rw[E];refine av.2 ⟨_,C,uJ (gm e ⟨_,rfl,qY (qt e ⟨_,_,rfl,cF rfl ⟨_,_,_,_,rfl,⟨_,_,_,_,rfl,(Fr.refl _ _).kp,KJ ⟨_,rfl,bn ?_⟩⟩⟩⟩)⟩)⟩;exact oK (xs:= [⟨#[45]⟩]) (B _ (no (F.tt (Fr.push _ _)))) ⟨bA,bA⟩ (row_of (vs:= [⟨#[45]⟩]) rfl) rfl bO (λx I=>by rw[bT.1 I];decide) λG s z=>⟨_,rfl,D G s (no ((F.tt (Fr.push _ _)).tt z))⟩
def RU:KN (str [119,97,105,116,115]):=λh R f d w x y H X A g i m B C z0 lt V L lb M=>by refine dv (a:=A) (bk.cE λb Z S u G=>⟨_,aj u,?_⟩);rw[V.v];simp only[eqs];refine bo rfl (bo rfl (bo rfl (bo rfl (bo rfl (bo rfl (bo rfl (bo rfl (bo rfl (bo rfl (bo rfl (bk.dZ u (iK (a:=A) (bk.cE λP K T z I=>⟨_,aj z,?_⟩)))))))))))));rw[V.v];simp only[eqs];have F:=G.tt I;have e:=C.on F;have k:=V.frame F;have L:g.length=1:=L;obtain⟨a,n,E,U,D⟩:=xF k.n (i:=0) ae;have O:=k.nl;refine cF rfl ⟨_,aj e.d,_,_,_,aj z,⟨ae,by rw[O];omega⟩,?_⟩;rw[E];exact av.2 ⟨_,D,ke (gm e ⟨_,rfl,_,rfl,(Fr.refl _ _).kp,oV (qt e ⟨_,_,rfl,cF rfl ⟨_,rfl,(Fr.refl _ _).kp,qq (B K (no F)) ⟨bA,bA⟩ ⟨bA,bA⟩ λJ s t=>⟨_,rfl,t.kp,_,rfl,M J s (no (F.tt t))⟩⟩⟩)⟩)⟩
def VU(k:Fd h f d w x y H X)(t: ∀e,(∃(z:True),Cl 108 #[pt e] h λv G=>v=.I 0/\G=h)->Q (pt e) h):Cl 107 #[.P x 0] h Q:=by obtain⟨e,m,q,u,B,bq,M,L,F,C,D,E⟩:=k.db;exact gx ⟨_,aj B,t e ⟨trivial,y7.qO L.lg ⟨rfl,rfl⟩⟩⟩
def VV(k:Fd h f d w x y H X)(t:R (.T #[.I 0,.I 4]) h):Cl 104 #[.P x 0] h R:=by obtain⟨P,m,q,z,e,bq,M,L,U,S,T,F⟩:=k.db;obtain⟨O,s,D,E,I,A,rfl⟩:=L;obtain⟨C,p,c,B⟩:=A.jn;exact qe (eZ ⟨_,aj e,_,rfl,bo rfl ⟨_,aj e,vT (y7.fJ A ⟨_,rfl,bo rfl ⟨_,aj A.cV,nZ (DL B ⟨_,rfl,bo rfl ⟨_,aj B.cV,ay.of λJ G=>ay.of λu K=>cF rfl ⟨_,_,_,aj B.cV,cF rfl ⟨_,_,rfl,_,_,rfl,t⟩⟩⟩⟩)⟩⟩)⟩⟩)
def VW(k:Fd h f d w x y H X)(F: ∀G,Fr (λz=>f<=z) h G->R (.T #[]) G):Cl 105 #[.P w 0] h R:=by
 refine sH ⟨_,aj k.w,_,aj k.w,_,aj k.w,_,aj k.w,VU k λM ⟨_,D⟩=>⟨_,rfl,(Fr.refl _ _).kp,jS.mono D λv G ⟨u,E⟩=> ?_⟩⟩;subst u E;refine⟨_,rfl,(Fr.refl _ _).kp,iG ⟨_,_,_,aj k.hh,_,rfl,(Fr.refl _ _).kp,jI (ay.of λJ B=>⟨_,aj k.hh,?_⟩)⟩⟩;subst B;refine bo rfl (ay.of λK C=>⟨_,aj k.hh,bo rfl ⟨_,_,_,aj k.hh,?_⟩⟩);subst C;refine bo rfl (aY k.hh (by show 2<3;omega) λG L z q=>⟨_,rfl,?_,?_⟩);exact(Fr.of_eq (S:=λz=>z=H) z q).St λp t y e I=>by rw[bT]at t;subst t;cases e;exact k.wh I
 exact F G ((Fr.of_eq (S:=λz=>z=H) z q).mono λz _ e=>by rw[e];exact k.gh)
def TQ:KN (str [115,116,101,112]):=λh R f d w x y H X A g i m B t Z lt V M L E=>by refine dv (a:=A) (bk.cE λb K I D F=>⟨_,aj D,?_⟩);rw[V.v];simp only[eqs];have e:=t.on F;refine bo rfl (bo rfl (bo rfl (bo rfl (cF rfl ⟨_,aj e.d,sJ (gm e ⟨_,rfl,VV e ⟨_,_,rfl,gm e ⟨_,rfl,ay.of λJ C=>cF rfl (VW e λG k=>⟨rfl,?_⟩)⟩⟩⟩)⟩))));subst C;exact⟨_,_,rfl,qq (B G ((no F).tt k)) ⟨bA,bA⟩ ⟨bA,bA⟩ λz s u=>⟨_,rfl,E z s (((no F).tt k).tt (no u))⟩⟩
def Mc{D:Int}(bq:h[l]? =some (.C #[.B true,.Z] 346 (0,0)))(C: ∀G,Fr (λz=>z=l) h G->Q (.Z) G):Cl 177 #[.P l 0,.I D] h Q:=by refine sK (bn ?_);have F:Fr No h (h.push (.C #[.I D] 3)):=Fr.push _ _;generalize h.push (.C #[.I D] 3)=e at F⊢;have B:=F.get bq id;refine nF ⟨_,_,_,aj B,λI E O L ll o t G=>I=none/\E=0/\O=0/\L=none/\ll=0/\o=0/\t=0/\G=e,λ_ _ _ _ _ _ _ _=>0,⟨rfl,rfl,rfl,rfl,rfl,rfl,rfl,rfl⟩,?_⟩;rintro _ _ _ _ _ _ _ G ⟨rfl,rfl,rfl,rfl,rfl,rfl,rfl,u⟩;subst u;exact bo rfl (aY B (by show 1<2;omega) λk J z q=>⟨_,_,_,rfl,C k (F.no (Fr.of_eq (S:=λz=>z=l) z q))⟩)
def RV(D:Fd h f d w x y H X)(K: ∀G k,Fr X.M h G->aQ G (AA x 0)=some (pt k)->(∀j (u:dH),Fr No G j->u (.I 0) j->Cl 108 #[pt k] j u)->Q (.I 0) G):Cl 106 #[.P x 0] h Q:=by
 obtain⟨k,m,q,V,B,bq,M,L,nx,Z,S,E⟩:=D.db;have T:X.M q:=by rw[E];exact .inr (.inr (.inr rfl))
 have U:x≠q:=λe=>by rw[e,bq]at B;cases B
 refine oe (eZ ⟨_,aj B,_,rfl,bo rfl ⟨_,aj B,_,aj B,y7.qO L.lg ⟨_,rfl,(Fr.refl _ _).kp,Mc bq λG F=>⟨_,_,_,rfl,λt C=>t=0/\C=G,λ_ _=>0,⟨rfl,rfl⟩,?_⟩⟩⟩⟩);rintro _ C ⟨rfl,J⟩;subst J;exact bo rfl (K C k (F.mono λz _ e=>by rw[e];exact T) (aj (F.get B U)) λj u I O=>y7.qO ((L.frame F λz P e=>S (e▸P)).frame I bD).lg O)
def RW(k:Fd h f d w x y H X)(T: ∀G,Fr (λz=>f<=z) h G->R (.T #[.I 0,.I 0]) G):Cl 57 #[.P w 0] h R:=by
 refine pZ (bn ?_);have E:Fr No h (h.push (.C #[pt w] 59)):=Fr.push _ _;have C:(h.push (.C #[pt w] 59))[h.size]? =some (.C #[pt w] 59 (0,0)):=aU;generalize h.push (.C #[pt w] 59)=h2 at E C⊢;have u:=k.on E;refine⟨_,aj C,gm u ⟨_,rfl,bo rfl ⟨_,aj C,gm u ⟨_,rfl,RV u λG lg D M O=>⟨_,rfl,?_⟩⟩⟩⟩⟩;have B:=D.get C λq=>by have:=k.db.lt _ (.inl q);omega
 have I:=D.get u.w λq=>k.sw (.inl q);refine⟨_,aj B,av.2 ⟨_,aj I,gx ⟨_,M,⟨_,rfl,O _ _ (Fr.refl _ _) ⟨_,rfl,bn (aY aU (by show 0<1;omega) λL V Z U=> ?_)⟩⟩⟩⟩⟩;have F:Fr No G L:=(Fr.push _ _).fresh (Fr.of_eq (S:=λz=>z=G.size) Z U) λz e=>by have:z=G.size:=e;omega
 have J:=F.get I id;refine⟨_,aj (F.get B id),_,aj (F.get B id),av.2 ⟨_,_,_,aj J,hU (ie ⟨λt K=>t=0/\K=L,λ_ _=>0,⟨rfl,rfl⟩,?_⟩)⟩⟩;rintro _ K ⟨rfl,S⟩;subst S;refine bo rfl ⟨_,rfl,cF rfl ⟨_,_,_,rfl,(Fr.refl _ _).kp,av.2 ?_⟩⟩;exact aY J (by show 9<10;omega) λP a' z q=>T P ((((no E).tt (D.mono λz _ q=>k.gX z (.inl q))).tt (no F)).tt ((Fr.of_eq (S:=λz=>z=w) z q).mono λz _ e=>by rw[e];exact k.gw))
def Pd:KN (str [97,110,115,119,101,114]):=λh R f d w x y H X A g i m B t Z lt V J L D=>by refine dv (a:=A) (bk.cE λb I E C F=>⟨_,aj C,?_⟩);rw[V.v];simp only[eqs];have e:=t.on F;exact bo rfl (bo rfl (bo rfl (bo rfl (bo rfl (cF rfl ⟨_,aj e.d,RW e λG k=>⟨_,_,rfl,qq (B G ((no F).tt k)) ⟨bA,bA⟩ ⟨bA,bA⟩ λz s u=>⟨_,rfl,D z s (((no F).tt k).tt (no u))⟩⟩⟩)))))

end zK
end
section
variable {h:Heap} {R:dH}
variable {b w l e L a S f:Nat} {H:Heap} {self:aw.S} {c d:bH}
abbrev aF.ff(h:Heap)(b:Nat)(x:aF.S):Prop:=h[b]? =some (.cells x.arr 212 (0,0))
def aF.ex{K:aF.S->Prop}(x:aF.S)(g:K x):aF.EX K:=⟨_,_,_,_,_,_,_,_,_,_,_,_,_,_,_,_,_,_,_,_,_,_,_,_,_,_,_,_,_,_,_,_,_,_,_,_,_,_,g⟩
def aF.gT{A:Addr}{x:aF.S}{K:aF.S->Prop}(g:cz A x.l 0 h)(i:K x):aF.ck h A K:=by obtain⟨q,Q,v,M,T,U,V,X,Z,q9,j,k,m,n,o,p,r,s,t,u,y,z,B,C,D,E,F,G,I,J,O,P,_⟩:=g;rw[cA]at q;exact⟨_,q,_,Q,_,v,_,M,_,T,_,U,_,V,_,X,_,Z,_,q9,_,j,_,k,_,m,_,n,_,o,_,p,_,r,_,s,_,t,_,_,_,u,_,y,_,z,_,B,_,_,_,C,_,D,_,E,_,F,_,G,_,I,_,_,_,J,_,O,_,P,i⟩
def aF.im{x:aF.S}(g:aF.ff h b x):cz (AA b 0) x.l 0 h:=
 dy g (λj v i=>by rw[aX];simpa using i)
def aF.dZ{x:aF.S}{K:aF.S->Prop}(g:aF.ff h b x)(i:K x):aF.ck h (AA b 0) K:=gT (im g) i
def aF.fX{x:aF.S}{K:Nat->cM}(j: ∀b g,b=h.size->aF.ff g b x->Fr No h g->K b g):aT h (.C aF.S.z.arr 212) λb i=>aF.cR i (AA b 0) x (K b):=
 fL (vs:=x.l) rfl rfl j
def aF.cE{x:aF.S}{K:Nat->cM}(j: ∀b g,b=h.size->aF.ff g b x->Fr No h g->K b g):aT h (.C x.arr 212) λb i=>K b i:=
 bn (j _ _ rfl aU (Fr.push _ _))
def aF.fB{y x:aF.S}{K:cM}(A:aF.ff h b y)(n: ∀g,aF.ff g b x->Fr (λy=>y=b) h g->g.size=h.size->K g):aF.cR h (AA b 0) x K:=
 (show cQ (AA b 0) x.l 0 h K from dM A rfl rfl λk i D j=>n k i (Fr.of_eq D λC m=>j C m) D)
variable {K:aF.S->Prop} {x:aF.S}
def pd(g: ∃t,Cc h w 7 (.Q t)/\R (.Q t) h):Cl 131 #[.P w 0] h R:=aD [] g
def vh{D:Nat} (Q:Hp h D 0 λU=>Cl 131 #[.Q U] h λd' H=>Vp d' λj=>Cl 132 #[.Q j] H λe' E=>Vl e' λV n l'=> ∃(I:Int->iT)(M:Int->iW),I 0 0 E/\∀T t g,I T t g->ite (decide (t<(n:Int))) (ay (λ(s:Int) m=>(I s (wrap .i64 (t+1)) m/\M s (wrap .i64 (t+1)) m<M T t g)) (λJ=>Bd t n/\aJ V λA=>aF.ck g (A.add (toNat t*32)) λX=>aF.NW g λb F=>aF.cR F (AA b 0) X λi=>Hb i b 30 λZ=>ay (λ(c':Int) G=>J c' G) (λk=>ite Z (k (wrap .i64 (T+1)) i) (k T i)))) (Cl 124 #[.Q j] g λf' O=>Vi f' λa'=>Cl 24 #[.I a'] O λg' P=> ∃o,g'=.S o/\Cl 120 #[.Q j] P λh' u=>Vl h' λn' b' m'=>Cl 24 #[.I (b':Int)] u λi' v=> ∃p,i'=.S p/\Cl 24 #[.I T] v λj' y=> ∃q,j'=.S q/\aT y (.C #[.S o,.S p,.S q] 9) λB z=>Cl 51 #[.I 0,.L (Sa B 0) 3 3] z λk' C=> ∃r,k'=.S r/\R (.S r) C)):Cl 129 #[.P D 0] h R:=aD [(10,.loop [(4,sI),(15,sI)]),(18,.join [(4,sI)]),(23,.join [(4,sI)])] Q
def pf{h:Nat} (z:ay (λ(E:bH) (D C:Nat) r=>R (.L E D C) r) (λJ=>Hl H h 1 λF p Q=> ∃(I:bH->Nat->Nat->iT)(M:bH->Nat->Nat->iW),I none 0 0 0 H/\∀i O o t g,I i O o t g->ite (decide (t<(p:Int))) (Bd t p/\aJ F λA=>aF.ck g (A.add (toNat t*32)) λG=>aF.NW g λb s=>aF.cR s (AA b 0) G λm=>aF.ck m (AA b 0) λP=>Cl 189 #[P.agg] m λv u=>aF.EX λq=>v=q.agg/\aT u (.C q.arr 212) λB y=>ij (Builtin.append_ #[179,179] 179 #[.L i O o,.L (Sa B 0) 1 1]) y λV n=> ∃k j T,V=.L k j T/\(I k j T (wrap .i64 (t+1)) n/\M k j T (wrap .i64 (t+1)) n<M i O o t g)) (J i O o g))):Cl 132 #[.P h 0] H R:=aD [(7,.join [(3,sS)]),(11,.loop [(3,sS),(13,sI)])] z
def om{h:Nat} (U:aT H (.C #[.P h 0] 90) λb Q=>aT Q (.C #[.Z] 179) λB k=> ∃J,Cc k b 0 (.Q J)/\ite (!J.isNone) (Hp k b 0 λt7=>Cl 188 #[.Q t7] k λe' i=> ∃M,e'=M/\uT Tryz.prog (M) i (λrec C args z=> ∃v,args= [.I v]/\CL z (i.size+1) (rec .ready none)/\∀j,j=fU z (i.size+1) (rec .busy none)->Hl j B 0 λs r q=>Hp j b 0 λt=>aJ t λA=>oM j (A.add 1) λo T u=>Bd v T/\aJ o λO=>aF.ck j (O.add (toNat v*32)) λV=>Cl 189 #[V.agg] j λf' m=>aF.EX λD=>f'=D.agg/\aQ m (A.add 1)=some (.L o T u)/\Cc m b 0 (.Q t)/\Cc m B 0 (.L s r q)/\aT m (.C D.arr 212) λP n=>aQ n (A.add 1)=some (.L o T u)/\Cc n b 0 (.Q t)/\Cc n B 0 (.L s r q)/\ij (Builtin.append_ #[179,179] 179 #[.L s r q,.L (Sa P 0) 1 1]) n λg' p=>Vl g' λa' Z X=>aQ p (A.add 1)=some (.L o T u)/\Cc p b 0 (.Q t)/\aI p (AA B 0) (.L a' Z X) λy=>(CL y (i.size+1) (rec .busy none)/\C true (fU y (i.size+1) (rec .ready none)))) (Bm (λg=>Hl g B 0 λd' c' b'=>g[i.size]? =some (.deferred (some []))/\R (.L d' c' b') (g.setIfInBounds i.size (.deferred none))) (λG=>G[i.size]? =some (.deferred (some []))/\R (.Z) (G.setIfInBounds i.size (.deferred none))) (λ_ _=>False))) (∃I F E,Cc k B 0 (.L I F E)/\R (.L I F E) k)):Cl 120 #[.P h 0] H R:=gE (lq (lq (sq (lq (cq (lq (bq (.scope 0 [(9,.one (.int .i64))] lf (bq (pN 12))))) lf)) ll))) Tryz.func120 rfl rfl (Eq.mp zzkr U)
def iz{h:Nat}(i:aT H (.C #[.P h 0] 90) λb g=>R (.func (.func 259) #[] #[.P b 0]) g):Cl 188 #[.P h 0] H R:=aD [] i
def ma (q:Hp h e 0 λu=>aJ u λA=>oM h (A.add 1) λy k z=> ∃(I:iT)(m:iW),I 0 h/\∀T H,I T H->ite (decide (T<(k:Int))) (Bd T k/\aJ y λn=>aF.ck H (n.add (toNat T*32)) λr=>aF.NW H λb o=>aF.cR o (AA b 0) r λg=>ay (λ(s:Bool) i=>ite s (R (.T #[]) i) ((([]:List Nat)= []/\I (wrap .i64 (T+1)) i/\m (wrap .i64 (T+1)) i<m T H))) (λJ=> ∃j,Cc g b 31 (.B j)/\ite (!j) (xB Tryz.prog l #[.I T] g λv p=> ∃(t:Bool),v=.B t/\([]:List Nat)= []/\J (!t) p) (([]:List Nat)= []/\J false g))) (R (.T #[]) H)):Cl 259 #[.func (.yield l) #[] #[],.P e 0] h R:=gE (lq (bq (.loop [(10,.one (.int .i64))] (lq (sq (cq lf lf) (sq (bq (lq (sq (.join [(23,.one (.bool))] lf) (cq lf lf)))) lf)))))) Tryz.func259 rfl rfl (Eq.mp zzkr q)
def nL{h:Nat}{left:Int} (hv:aT H (.C #[.P h 0] 90) λb n'=>aT n' (.C #[.I left] 3) λp o=>ay (λ(t':Bool) O=>ite t' (R (.T #[.I 0,.I 6]) O) (aT O (.C #[.I 0] 3) λq o'=>aT o' (.C #[.I 0] 3) λB p'=>aI p' (AA q 0) (.I 0) λq'=>aI q' (AA B 0) (.I 0) λP=>Hp P b 0 λu'=>Cl 188 #[.Q u'] P λL' i=> ∃U,L'=U/\uT Tryz.prog (U) i (λrec C args D=> ∃V,args= [.I V]/\CL D (i.size+1) (rec .ready none)/\∀u,u=fU D (i.size+1) (rec .busy none)->∃X,Cc u B 0 (.I X)/\aI u (AA B 0) (.I (wrap .i64 (X+1))) λk=>Hp k b 0 λv'=>aJ v' λf'=> ∃Z,aQ k (f'.add 2)=some (.I Z)/\ite (decide (V<Z)) (∃a',Cc k q 0 (.I a')/\aI k (AA q 0) (.I (wrap .i64 (a'+1))) λE=>(CL E (i.size+1) (rec .busy none)/\C true (fU E (i.size+1) (rec .ready none)))) ((CL k (i.size+1) (rec .busy none)/\C true (fU k (i.size+1) (rec .ready none))))) (Bm (λg=>ay (λ(z':Bool) v=>ite z' (v[i.size]? =some (.deferred (some []))/\R (.T #[.I 0,.I 1]) (v.setIfInBounds i.size (.deferred none))) (aT v (.C #[.I 0] 3) λr m'=>aI m' (AA r 0) (.I 0) λF=>Hp F b 0 λA'=>Cl 188 #[.Q A'] F λM' j=> ∃c',M'=c'/\uT Tryz.prog (c') j (λs e' l' I=> ∃T,l'= [.I T]/\CL I (j.size+1) (s .ready none)/\∀y,y=fU I (j.size+1) (s .busy none)->∃d',Cc y r 0 (.I d')/\aI y (AA r 0) (.I (wrap .i64 (d'+1))) λm=>Hp m b 0 λB'=>aJ B' λg'=>oM m (g'.add 1) λD' C' O'=>Hi m r 0 λE'=>Hi m p 0 λF'=>Bd T C'/\aJ D' λh'=>aI m ((h'.add (toNat T*32)).add 31) (.B (decide (E'>F'))) λM=>(CL M (j.size+1) (s .busy none)/\e' true (fU M (j.size+1) (s .ready none)))) (Bm (λG=>Hp G b 0 λG'=>Hp G b 0 λH'=>aJ H' λi'=>oM G (i'.add 1) λQ' I' P'=>aJ G' λj'=>aI G (j'.add 2) (.I (I':Int)) λn=>Hi n B 0 λJ'=>Hi n p 0 λK'=>n[j.size]? =some (.deferred (some []))/\(n.setIfInBounds j.size (.deferred none))[i.size]? =some (.deferred (some []))/\R (.T #[.I (wrap .i64 (J' - K')),.I 0]) ((n.setIfInBounds j.size (.deferred none)).setIfInBounds i.size (.deferred none))) (λt=>t[j.size]? =some (.deferred (some []))/\(t.setIfInBounds j.size (.deferred none))[i.size]? =some (.deferred (some []))/\R (.T #[.I 0,.I 0]) ((t.setIfInBounds j.size (.deferred none)).setIfInBounds i.size (.deferred none))) (λ_ _=>False)))) (λz=>Hi g p 0 λw'=> ∃b',Cc g q 0 (.I b')/\ite (decide (w'<b')) (([i.size]:List Nat)= [i.size]/\z true g) (Hi g p 0 λx'=>Hi g B 0 λy'=>([i.size]:List Nat)= [i.size]/\z (decide (x'>y')) g))) (λA=>A[i.size]? =some (.deferred (some []))/\R (.T #[.I 0,.I 0]) (A.setIfInBounds i.size (.deferred none))) (λ_ _=>False)))) (λJ=> ∃Q,Cc o b 0 (.Q Q)/\ite Q.isNone (([]:List Nat)= []/\J true o) (Hp o b 0 λr'=>aJ r' λk'=>wj o k' λs'=>([]:List Nat)= []/\J (!s') o))):Cl 122 #[.P h 0,.I left] H R:=gE (lq (sq (sq (.join [(19,.one (.bool))] lf) (cq ll lf)) (lq (sq (lq (bq (.scope 0 [(22,.one (.int .i64))] lf (bq (lq (lq (cq lf lf))))))) (sq (sq (.join [(40,.one (.bool))] lf) (cq ll lf)) (lq (sq (lq (bq (.scope 0 [(43,.one (.int .i64))] lf (bq (lq (pN 11)))))) (sq (pN 9) ll)))))))) Tryz.func122 rfl rfl (Eq.mp zzkr hv)
def AB (hv:aT h (.C self.arr 64) λb H=>aT H (.C #[.I 0] 3) λB l'=>aT l' (.C #[.I 0] 28) λj D=>aw.ck D (AA b 0) λv'=>Cl 198 #[v'.agg] D λD' q'=> ∃V t,D'=.T #[.Q V,.I t]/\aT q' (.C #[.Q none] 161) λu r'=>aI r' (AA u 0) (.Q V) λE=>ite (t !=0) (aI E (AA B 0) (.I 0) λs'=>aI s' (AA j 0) (.I t) λs=>Hi s B 0 λr0=> ∃O,Cc s j 0 (.I O)/\R (.T #[.I r0,.I O]) s) (Cl 199 #[.L c L a] E λE' t'=>Vi E' λw'=>aT t' (.C #[.I 0] 3) λm f'=>aI f' (AA m 0) (.I w') λg'=>Cl 200 #[.L c L a] g' λF' i=> ∃X,F'=X/\uT Tryz.prog (X) i (λrec C args h'=> ∃T,aF.EX λZ=>args= [.I T,Z.agg]/\aF.NW h' λq i'=>aF.cR i' (AA q 0) Z λz=>CL z (i.size+1) (rec .ready none)/\∀k,k=fU z (i.size+1) (rec .busy none)->∃a',Cc k m 0 (.I a')/\ite (decide (T≥a')) ((CL k (i.size+1) (rec .busy none)/\C false (fU k (i.size+1) (rec .done (some (.exit 0)))))) (Hp k u 0 λx'=>ax.ck k (AA q 0) λy'=>Cl 157 #[.Q x',y'.agg] k λG' j'=>ag.EX λb'=> ∃c',G'=.T #[b'.agg,.I c']/\ag.NW j' λv k'=>ag.cR k' (AA v 0) b' λn=>ay (λ(C':Bool) r=>ite C' (aI r (AA B 0) (.I T) λm'=>aI m' (AA j 0) (.I 0) λA=>(CL A (i.size+1) (rec .busy none)/\C false (fU A (i.size+1) (rec .done (some .ret))))) ((CL r (i.size+1) (rec .busy none)/\C true (fU r (i.size+1) (rec .ready none))))) (λJ=>ite (c' !=0) (([]:List Nat)= []/\J true n) (ag.ck n (AA v 0) λz'=>ag.ck n (AA q 24) λA'=>Cl 201 #[z'.agg,A'.agg] n λH' n'=>Vb H' λB'=>([]:List Nat)= []/\J (!B') n')))) (Bm (λg=> ∃d',Cc g m 0 (.I d')/\aI g (AA B 0) (.I d') λo'=>aI o' (AA j 0) (.I 0) λo=>o[i.size]? =some (.deferred (some []))/\∃F,aQ (o.setIfInBounds i.size (.deferred none)) (AA B 0)=some (.I F)/\∃P,aQ (o.setIfInBounds i.size (.deferred none)) (AA j 0)=some (.I P)/\R (.T #[.I F,.I P]) (o.setIfInBounds i.size (.deferred none))) (λG=>G[i.size]? =some (.deferred (some []))/\∃I,aQ (G.setIfInBounds i.size (.deferred none)) (AA B 0)=some (.I I)/\∃Q,aQ (G.setIfInBounds i.size (.deferred none)) (AA j 0)=some (.I Q)/\R (.T #[.I I,.I Q]) (G.setIfInBounds i.size (.deferred none))) (λu' y=>VL (Nat.beq u' 0) (∃e',Cc y m 0 (.I e')/\aI y (AA B 0) (.I e') λp'=>aI p' (AA j 0) (.I 0) λp=>p[i.size]? =some (.deferred (some []))/\∃M,aQ (p.setIfInBounds i.size (.deferred none)) (AA B 0)=some (.I M)/\∃U,aQ (p.setIfInBounds i.size (.deferred none)) (AA j 0)=some (.I U)/\R (.T #[.I M,.I U]) (p.setIfInBounds i.size (.deferred none))) (False))))):Cl 130 #[self.agg,.L c L a] h R:=gE (lq (lq (sq (lq (cq ll lf)) (lq (sq (lq (bq (.scope 1 [(25,.one (.int .i64)),(26,.agg [.int .u64,.int .i64,.int .u64,.int .i64,.int .u64,.int .i64,.bool,.int .u64,.int .u64,.str,.str,.bool,.int .u64,.int .u64,.str,.str,.int .i64,.int .i64,.int .i64,.slice,.int .u64,.int .u64,.bool,.slice,.int .u64,.int .i64,.int .i64,.int .i64,.int .u64,.slice,.bool,.bool])] ll (bq (sq (lq (cq lf lf)) (lq (sq (.join [(45,.one (.bool))] lf) (cq ll lf)))))))) ll))))) Tryz.func130 rfl rfl (Eq.mp zzkr hv)
def AD (hv:aT h (.C self.arr 64) λb H=>aT H (.C #[.Q none] 161) λB b'=>aT b' (.C #[.I 0] 28) λj u=>aw.ck u (AA b 0) λf'=>Cl 198 #[f'.agg] u λj' c'=> ∃F t,j'=.T #[.Q F,.I t]/\aT c' (.C #[.Q none] 161) λn d'=>aI d' (AA n 0) (.Q F) λv=>ite (t !=0) (aI v (AA B 0) (.Q none) λe'=>aI e' (AA j 0) (.I t) λp=>Hp p B 0 λr0=> ∃A,Cc p j 0 (.I A)/\R (.T #[.Q r0,.I A]) p) (Cl 200 #[.L c L a] v λk' i=> ∃I,k'=I/\uT Tryz.prog (I) i (λrec C args Q=> ∃g',aF.EX λJ=>args= [g',J.agg]/\aF.NW Q λq U=>aF.cR U (AA q 0) J λr=>CL r (i.size+1) (rec .ready none)/\∀k,k=fU r (i.size+1) (rec .busy none)->Hp k n 0 λh'=>ax.ck k (AA q 0) λi'=>Cl 157 #[.Q h',i'.agg] k λl' V=>ag.EX λM=> ∃T,l'=.T #[M.agg,.I T]/\ag.NW V λP X=>ag.cR X (AA P 0) M λo=>ite (T !=0) (aI o (AA B 0) (.Q none) λZ=>aI Z (AA j 0) (.I T) λs=>(CL s (i.size+1) (rec .busy none)/\C false (fU s (i.size+1) (rec .done (some .ret))))) ((CL o (i.size+1) (rec .busy none)/\C true (fU o (i.size+1) (rec .ready none))))) (Bm (λg=> ∃O,Cc g n 0 (.Q O)/\aI g (AA B 0) (.Q O) λa'=>aI a' (AA j 0) (.I 0) λm=>m[i.size]? =some (.deferred (some []))/\∃y,aQ (m.setIfInBounds i.size (.deferred none)) (AA B 0)=some (.Q y)/\∃D,aQ (m.setIfInBounds i.size (.deferred none)) (AA j 0)=some (.I D)/\R (.T #[.Q y,.I D]) (m.setIfInBounds i.size (.deferred none))) (λG=>G[i.size]? =some (.deferred (some []))/\∃z,aQ (G.setIfInBounds i.size (.deferred none)) (AA B 0)=some (.Q z)/\∃E,aQ (G.setIfInBounds i.size (.deferred none)) (AA j 0)=some (.I E)/\R (.T #[.Q z,.I E]) (G.setIfInBounds i.size (.deferred none))) (λ_ _=>False)))):Cl 190 #[self.agg,.L c L a] h R:=gE (lq (lq (sq (lq (cq ll lf)) (sq (lq (bq (.scope 0 [(22,.one (.raw)),(23,.agg [.int .u64,.int .i64,.int .u64,.int .i64,.int .u64,.int .i64,.bool,.int .u64,.int .u64,.str,.str,.bool,.int .u64,.int .u64,.str,.str,.int .i64,.int .i64,.int .i64,.slice,.int .u64,.int .u64,.bool,.slice,.int .u64,.int .i64,.int .i64,.int .i64,.int .u64,.slice,.bool,.bool])] lf (bq (lq (lq (cq ll lf))))))) ll)))) Tryz.func190 rfl rfl (Eq.mp zzkr hv)
def Cw{s:Nat}(o:ax.NW h λb H=>ay (λ(u:Bool) g=>ite u (ax.cR g (AA b 0) ax.S.z λj=>ax.ck j (AA b 0) λr=>R (.T #[r.agg,.B false]) j) (Hp g s 0 λy=>Cl 89 #[.Q y] g λv n=>Vl v λB A z=>Cl 88 #[.L B A z,.func (.func 260) #[] #[]] n λV i=> ∃T,V=.B T/\ite (!T) (ax.cR i (AA b 0) ax.S.z λk=>ax.ck k (AA b 0) λp=>R (.T #[p.agg,.B false]) k) (Hu i s 6 λC=>ax.cR i (AA b 0) ⟨C,8,0,0,0,0,false,0,0,(⟨#[]⟩:bC),(⟨#[]⟩:bC),false,0,0,(⟨#[]⟩:bC),(⟨#[]⟩:bC),0,0,0,none,0,0,0,0,false,none,0,0⟩ λm=>ax.ck m (AA b 0) λq=>R (.T #[q.agg,.B true]) m))) (λJ=> ∃t,Cc H s 0 (.Q t)/\J t.isNone H)):Cl 191 #[.P s 0] h R:=aD [(4,.join [(13,sB)])] o
def gq(g:Cl 151 #[.L d S f,.func (.func 260) #[] #[]] h λv H=> ∃t,v=.I t/\R (.B (decide (t≥0))) H):Cl 88 #[.L d S f,.func (.func 260) #[] #[]] h R:=aD [] g
def gy (i: ∃(I:iT)(m:iW),I 0 h/\∀t H,I t H->ite (decide (t<(S:Int))) (Bd t S/\aJ d λA=>cg.LD H (A.add (toNat t*6)) λj k n o r q p y u s=>Cl 260 #[.agg #[.I j,.U k,.B n,.B o,.L r q p,.L y u s]] H λv g=> ∃T,v=.B T/\ite T (R (.I t) g) ((I (wrap .i64 (t+1)) g/\m (wrap .i64 (t+1)) g<m t H))) (R (.I (-1)) H)):Cl 151 #[.L d S f,.func (.func 260) #[] #[]] h R:=aD [(6,.loop [(8,sI)])] i
def AE(g:Cl 279 #[.L c L a,.func (.func 280) #[] #[]] h λv H=> ∃t,v=.I t/\ite (decide (t<0)) (R (.I (L:Int)) H) (R (.I t) H)):Cl 199 #[.L c L a] h R:=aD [] g
def gV (i: ∃(I:iT)(m:iW),I 0 h/\∀t H,I t H->ite (decide (t<(S:Int))) (Bd t S/\aJ d λA=>aF.ck H (A.add (toNat t*32)) λj=>Cl 280 #[j.agg] H λv g=> ∃T,v=.B T/\ite T (R (.I t) g) ((I (wrap .i64 (t+1)) g/\m (wrap .i64 (t+1)) g<m t H))) (R (.I (-1)) H)):Cl 279 #[.L d S f,.func (.func 280) #[] #[]] h R:=aD [(6,.loop [(8,sI)])] i
def rR(g:aT h (.C #[.L c L a] 179) λb H=>R (.func (.func 281) #[] #[.P b 0]) H):Cl 200 #[.L c L a] h R:=aD [] g
def v8 (p:Hl h e 0 λu k y=> ∃(I:iT)(m:iW),I 0 h/\∀T H,I T H->ite (decide (T<(k:Int))) (Bd T k/\aJ u λA=>aF.ck H (A.add (toNat T*32)) λq=>aF.NW H λb n=>aF.cR n (AA b 0) q λg=>ay (λ(s:Bool) i=>ite s (R (.T #[]) i) ((([]:List Nat)= []/\I (wrap .i64 (T+1)) i/\m (wrap .i64 (T+1)) i<m T H))) (λJ=> ∃j,Cc g b 31 (.B j)/\ite (!j) (aF.ck g (AA b 0) λr=>xB Tryz.prog l #[.I T,r.agg] g λv o=> ∃(t:Bool),v=.B t/\([]:List Nat)= []/\J (!t) o) (([]:List Nat)= []/\J false g))) (R (.T #[]) H)):Cl 281 #[.func (.yield l) #[] #[],.P e 0] h R:=gE (lq (bq (.loop [(7,.one (.int .i64))] (lq (sq (cq lf lf) (sq (bq (lq (sq (.join [(21,.one (.bool))] lf) (cq lf lf)))) lf)))))) Tryz.func281 rfl rfl (Eq.mp zzkr p)
def sN (hv:aF.NW h λb H=>aw.ck H (AA w 2) λl'=>Cl 190 #[l'.agg,.L c L a] H λq' C=> ∃m F,q'=.T #[.Q m,.I F]/\ite (F !=0) (aF.cR C (AA b 0) aF.S.z λE=>aF.ck E (AA b 0) λr0=>R (.T #[r0.agg,.B false,.B false]) E) (Cl 191 #[.Q m] C λr' g'=>ax.EX λG=> ∃r,r'=.T #[G.agg,.B r]/\ax.NW g' λg h'=>ax.cR h' (AA g 0) G λi'=>aF.NW i' λB i=>ay (λk=>aF.ck k (AA B 0) λo'=>Hp k w 0 λp'=>Cl 193 #[.Q m] k λs' q=> ∃U Q P,s'=.L U Q P/\Kp k q [(Sa w 0),(Sa B 0)]/\Cl 107 #[.Q p'] q λt' n=> ∃V,t'=.Q V/\Kp q n [(Sa B 0)]/\Cl 86 #[.Q V] n λu' o=> ∃X,u'=.Q X/\Kp n o [(Sa B 0)]/\Cl 193 #[.Q X] o λv' p=> ∃b' a' Z,v'=.L b' a' Z/\Kp o p [(Sa B 0)]/\Cl 192 #[.L U Q P,.L b' a' Z,.func (.func 194) #[] #[]] p λw' v=> ∃c',w'=.B c'/\Kp p v [(Sa B 0)]/\aF.cR v (AA b 0) o' λy=>aF.ck y (AA b 0) λj'=>R (.T #[j'.agg,.B r,.B c']) y) (λJ=>ite r (Hu i g 0 λI=>Hp i w 0 λm'=>Cl 128 #[.Q m'] i λx' z=> ∃s,x'=.U s/\Kp i z [(Sa g 0)]/\aI z (AA g 0) (.U (if s>I then s else I)) λA=>ax.ck A (AA g 0) λn'=>Cl 157 #[.Q m,n'.agg] A λy' d'=>ag.EX λM=> ∃O,y'=.T #[M.agg,.I O]/\ag.NW d' λu e'=>ag.cR e' (AA u 0) M λj=>ite (O !=0) (aF.cR j (AA b 0) aF.S.z λD=>aF.ck D (AA b 0) λk'=>R (.T #[k'.agg,.B false,.B false]) D) (ax.ck j (AA g 0) λt=>ag.ck j (AA u 0) λT=>aF.cR j (AA B 0) ⟨t.f0,t.f1,t.f2,t.f3,t.f4,t.f5,t.f6,t.f7,t.f8,t.f9,t.f10,t.f11,t.f12,t.f13,t.f14,t.f15,t.f16,t.f17,t.f18,t.zI,t.Bp,t.HX,t.f20,t.f21,t.f22,t.Bq,t.Br,t.HY,T.f0,T.f1,T.f2,T.f3,T.f4,T.Wv,T.Ww,T.Wx,false,false⟩ λf'=>J f')) (J i)))):Cl 121 #[.P w 0,.L c L a] h R:=aD [(19,.join []),(21,λ_=>pK 11),(35,λ_=> .ju (fE 3 0 (fE 5 4 (.op 3 (fE 7 9 .done)))))] hv
def rv{z:bH}{y v:Nat} (hv:Cl 96 #[.P w 0] h λv' H=> ∃C,v'=.Q C/\ite C.isNone (R (.T #[.I 0,.I 6]) H) (Hp H w 1 λi'=>aw.ck H (AA w 2) λj'=>Cl 96 #[.P w 0] H λw' r=> ∃D,w'=.Q D/\Kp H r [(Sa w 2),(Sa w 1)]/\Cl 119 #[.Q D,.Q i',.L z y v,j'.agg] r λy' s=> ∃E t,y'=.T #[.Q E,.I t]/\ite (t !=0) (R (.T #[.I 0,.I t]) s) (aI s (AA w 0) (.Q E) λb'=>aI b' (AA w 9) (.Z) λu=>Hp u w 7 λk'=>Cl 120 #[.Q k'] u λz' c'=>Vl z' λm' l' T=>ay (λd'=>R (.T #[.I 0,.I 7]) d') (λJ=> ∃(I:iT)(M:iW),I (l':Int) c'/\∀left k,I left k->ite (decide (left≥0)) (((0:Int)<=left/\left<=(T:Int))/\Cl 121 #[.P w 0,.L (bV m' T 0 32) ((toNat left) - 0) (T - 0)] k λA' e'=>aF.EX λF=> ∃G O,A'=.T #[F.agg,.B G,.B O]/\aF.NW e' λb V=>aF.cR V (AA b 0) F λi=>ite (!O) ((I (wrap .i64 (left - 1)) i/\M (wrap .i64 (left - 1)) i<M left k)) (Hp i w 7 λn'=>Cl 122 #[.Q n',.I left] i λB' g=> ∃P Q,B'=.T #[.I P,.I Q]/\ite (Q !=0) (J g) (ay (λp=>Hp p w 7 λt'=>Cl 124 #[.Q t'] p λC' X=> ∃U,C'=.I U/\aI X (AA w 8) (.I U) λm=>Hp m w 7 λu'=>Hi m w 8 λf'=>Cl 125 #[.Q u',.I f'] m λD' j=>Vi D' λG'=>Hi j w 8 λg'=>Hp j w 0 λh'=>Cl 107 #[.Q h'] j λE' n=> ∃A,E'=.Q A/\Kp j n [(Sa w 8)]/\Cl 108 #[.Q A] n λF' q=> ∃B,F'=.I B/\Kp n q [(Sa w 8)]/\aI q (AA w 8) (.I (wrap .i64 (g' - B))) λZ=>R (.T #[.I P,.I 0]) Z) (λo=>ite G (Hp g w 7 λo'=>ax.ck g (AA b 0) λp'=>ag.ck g (AA b 24) λq'=>Cl 123 #[.Q o',p'.agg,q'.agg] g λx' a'=> ∃r' s',x'=.T #[.I r',.I s']/\o a') (o g))))) (J k))))):Cl 63 #[.P w 0,.L z y v] h R:=aD [(11,λ_=> .ju (.op 0 (fE 9 2 (.op 1 (fE 6 11 .done))))),(27,.join []),(28,.loop [(9,sI)]),(56,.join []),(57,λ_=>pK 9),(62,λ_=>pK 9),(64,λ_=>pK 15)] hv
def gU{j:bH}{s p:Nat}{k:bH}{i q:Nat} (o:ite ((s:Int) !=(i:Int)) (R (.B false) h) (∃(I:iT)(m:iW),I 0 h/\∀t H,I t H->ite (decide (t<(s:Int))) (Bd t s/\aJ j λA=>oM H (A.add (toNat t*1)) λy u r=>Bd t i/\aJ k λn=>oM H (n.add (toNat t*1)) λC B z=>Cl 194 #[.L y u r,.L C B z] H λv g=> ∃T,v=.B T/\ite (!T) (R (.B false) g) ((I (wrap .i64 (t+1)) g/\m (wrap .i64 (t+1)) g<m t H))) (R (.B true) H))):Cl 192 #[.L j s p,.L k i q,.func (.func 194) #[] #[]] h R:=aD [(14,.loop [(17,sI)])] o

end
end Go.Proofs.YticlajoleibdnaaGreatDoor
namespace Go.Den
def nM{P:Program}{j:FuncId}{m:Array Value}{B:Rw->(Bool->cM)->List Value->cM}{r T:cM}{E:Nat->cM}{h:Heap}(A:lC P j=true)(call: ∀k (Q:dH),Fr No h k->(∀G,Fr No k G->Q (.T #[]) G)->jS P j (#[.func (.yield (h.size+1)) #[] #[]]++m) k Q)(C: ∀G,Fr No h G->G[h.size]? =some (.deferred (some []))->r G):uT P (.func (.func j) #[] m) h B (Bm r T E):=by
 refine⟨j,m,rfl,A,λrec D _=> ?_⟩;have o:Fr No h (qp h (rec .ready none)):=(Fr.push _ _).tt (Fr.push _ _);have u:(qp h (rec .ready none))[h.size]? =some (.deferred (some [])):=by unfold qp;rw[eV,af bO,aU]
 have v:(qp h (rec .ready none))[h.size+1]? =some (.loop (rec .ready none)):=by unfold qp;rw[show h.size+1=(h.push (.deferred (some []))).size by simp,aU]
 generalize qp h (rec .ready none)=z at o u v⊢;refine call z _ o λG F=>⟨.ready,none,(by intro e;cases e),F.get v id,?_⟩;have fs:Fr (λy=>y=h.size+1) G (fU G (h.size+1) (rec .exhausted none)):=Go.Proofs.YticlajoleibdnaaGreatDoor.xH.vf;exact C _ ((o.tt F).fresh fs λy e=>ae) (fs.get (F.get u id) ae)
end Go.Den
namespace Go.Proofs.YticlajoleibdnaaGreatDoor
open Go.Den
namespace zK
open jk
open qM xH Im y7 Pp
variable {h a f : Heap} {R : Value → Heap → Prop} {s : ByteArray} {p q : Option Addr} {l c L b d n : Nat} {i g t : List ByteArray} {K : BK} {w x y H : Nat} {X : Ft}
abbrev Sk(h:Heap)(H:Nat):Prop:=h[H]? =some (.cells #[.bool true,.slice none 0 0,.int .i64 0] 181 (0,0))
def xG{C m:Nat}(bc:h[C]? =some (.C #[pt H] 90 (0,0)))(e:Sk h H){Q:dH}(k:Q (.T #[]) h):Cl 259 #[.func (.yield m) #[] #[],.P C 0] h Q:=by refine ma ⟨_,aj bc,av.2 ⟨_,_,_,aj e,λT G=>T=0/\G=h,λ_ _=>0,⟨rfl,rfl⟩,?_⟩⟩;rintro _ G ⟨rfl,j⟩;subst j;exact bo rfl k
def VX{h:Heap}{j:Nat}{o:Obj}{a:Heap}(F:Fr No a h)(k:a.size<=j):Fr No a (h.setIfInBounds j o):=F.fresh xH.vf λy e=>ae
def HB(z:Sk h H){Q:dH}(B: ∀o,Fr No h o->Q (.Z) o):Cl 120 #[.P H 0] h Q:=by refine om (bn (bn ?_));have v:Fr No h (h.push (.C #[pt H] 90)):=Fr.push _ _;have C:(h.push (.C #[pt H] 90))[h.size]? =some (.C #[pt H] 90 (0,0)):=aU;generalize h.push (.C #[pt H] 90)=G at v C⊢;have j:Fr No G (G.push (.C #[.Z] 179)):=Fr.push _ _;have r:(G.push (.C #[.Z] 179))[G.size]? =some (.C #[.Z] 179 (0,0)):=aU;generalize G.push (.C #[.Z] 179)=e at j r⊢;refine⟨_,aj (j.get C id),cF rfl ⟨_,aj (j.get C id),iz (bn ⟨_,rfl,?_⟩)⟩⟩;have m:Fr No e (e.push (.C #[pt H] 90)):=Fr.push _ _;have u:(e.push (.C #[pt H] 90))[e.size]? =some (.C #[pt H] 90 (0,0)):=aU;generalize e.push (.C #[pt H] 90)=I at m u⊢;have k:=(v.tt j).tt m;refine nM zzkr (λA E F D=>xG (F.get u id) ((k.tt F).get z id) (D A (Fr.refl _ _))) λo F dg=>⟨_,_,_,aj (F.get (m.get r id) id),dg,B _ (VX (k.tt F) ?_)⟩;exact k.1
def all_none(e:Sk h H){Q:dH}(m:Q (.Z) h):Cl 132 #[.P H 0] h Q:=by refine pf (ay.of λJ j=>⟨_,_,_,aj e,λp l c T G=>p=none/\l=0/\c=0/\T=0/\G=h,λ_ _ _ _ _=>0,⟨rfl,rfl,rfl,rfl,rfl⟩,?_⟩);rintro _ _ _ _ G ⟨rfl,rfl,rfl,rfl,k⟩;subst k j;exact bo rfl m
def Nu(e:Fd h n d w x y H X){Q:dH}(j:Q (pt H) h):Cl 131 #[.P w 0] h Q:=pd ⟨_,aj e.w,j⟩
def TR(B: ∀G,Fr (λz=>n<=z) h G->Bs G)(e:Fd h n d w x y H X)(C: ∀G s,Fr (λz=>n<=z) h G->R (.S s) G):Cl 129 #[.P d 0] h R:=by refine vh ⟨_,aj e.d,Nu e ⟨_,rfl,all_none e.hh ⟨_,_,_,rfl,λT I G=>T=0/\I=0/\G=h,λ_ _ _=>0,⟨rfl,rfl,rfl⟩,?_⟩⟩⟩;rintro _ _ G ⟨rfl,rfl,A⟩;subst A;have j:=B _ (Fr.refl _ _);refine bo rfl (iG ⟨_,_,_,aj e.hh,_,rfl,kC j.tb bA bA λD F=>⟨_,rfl,HB (F.get e.hh id) λE k=>⟨_,_,_,rfl,kC ((j.on F).on k).tb bA bA λJ o=>⟨_,rfl,kC (((j.on F).on k).on o).tb bA bA λM v=>⟨_,rfl,bn ?_⟩⟩⟩⟩⟩);have m:=((F.tt k).tt o).tt v;have O:=vd (n:=0) bA bA;exact oK (xs:= [str (Lib.itoa 0),str (Lib.itoa 0),str (Lib.itoa 0)]) (B _ (no (m.tt (Fr.push _ _)))) ⟨bA,bA⟩ (row_of (vs:= [str (Lib.itoa 0),str (Lib.itoa 0),str (Lib.itoa 0)]) rfl) rfl bO (λx r=>by simp only[bG,dU,or_false,or_self]at r;subst r;rw[ve];omega) λG s u=>⟨_,rfl,C G s (no ((m.tt (Fr.push _ _)).tt u))⟩
def RX:KN (str [108,105,110,101,115]):=λh R n d w x y H X A P C m B k Z lt V O M v=>by refine dv (a:=A) (bk.cE λb I E j o=>⟨_,aj j,?_⟩);rw[V.v];simp only[eqs];refine bo rfl (bo rfl (bo rfl (bo rfl (bo rfl (bo rfl (bo rfl (bo rfl (bo rfl (bo rfl (bo rfl (bk.dZ j (iK (a:=A) (bk.cE λz J D u r=>⟨_,aj u,?_⟩)))))))))))));rw[V.v];simp only[eqs];have F:=o.tt r;exact bo rfl (bo rfl (cF rfl (TR (λG e=>B G ((no F).tt e)) (k.on F) λG s e=>⟨_,rfl,_,rfl,v G s ((no F).tt e)⟩)))
def Fo{C k:Nat}(bc:h[C]? =some (.C #[.Z] 179 (0,0))){Q:dH}(j:Q (.T #[]) h):Cl 281 #[.func (.yield k) #[] #[],.P C 0] h Q:=by refine v8 ⟨_,_,_,aj bc,λT G=>T=0/\G=h,λ_ _=>0,⟨rfl,rfl⟩,?_⟩;rintro _ G ⟨rfl,e⟩;subst e;exact bo rfl j
def Md{Q:dH}(hk: ∀G,Fr No h G->Q (.T #[.I 0,.I 0]) G):Cl 130 #[iZ.jQ e7,.Z] h Q:=by
 refine AB (self:=e7.s) (aw.cE λb k eb hb Z=>bn (bn ?_));have B:Fr No k (k.push (.C #[.I 0] 3)):=Fr.push _ _;have O:(k.push (.C #[.I 0] 3))[k.size]? =some (.C #[.I 0] 3 (0,0)):=aU;have s1:(k.push (.C #[.I 0] 3)).size=k.size+1:=bK _;generalize k.push (.C #[.I 0] 3)=j at B O s1⊢;have P:Fr No j (j.push (.C #[.I 0] 28)):=Fr.push _ _;have S:(j.push (.C #[.I 0] 28))[j.size]? =some (.C #[.I 0] 28 (0,0)):=aU;have s2:(j.push (.C #[.I 0] 28)).size=j.size+1:=bK _;generalize j.push (.C #[.I 0] 28)=r at P S s2⊢;have J:=(Z.tt B).tt P;refine aw.dZ ((B.tt P).get hb id) (pg.ft e7 (λ_ m s XS I H3 u3=>⟨_,_,rfl,bn ?_⟩) (λq=>absurd KL q));have z3:=u3.fr.1;have p4:Fr No m (m.push (.C #[.Q none] 161)):=Fr.push _ _;have T:(m.push (.C #[.Q none] 161))[m.size]? =some (.C #[.Q none] 161 (0,0)):=aU;generalize m.push (.C #[.Q none] 161)=g4 at p4 T⊢;refine aY T (by show 0<1;omega) λA c5 z5 q5=> ?_;have p5:Fr (λy=>y=m.size) g4 A:=Fr.of_eq z5 q5;have F5:Fr No r A:=(u3.fr.tt p4).fresh p5 λy e=>ae
 refine bo rfl (AE (gV ⟨λb' G=>b'=0/\G=A,λ_ _=>0,⟨rfl,rfl⟩,?_⟩));rintro _ G ⟨rfl,hg⟩;subst hg;refine bo rfl ⟨_,rfl,cF rfl ⟨_,rfl,bn ?_⟩⟩;refine lQ bA ?_;have p6:Fr No G (G.push (.C #[.I 0] 3)):=Fr.push _ _;have U:(G.push (.C #[.I 0] 3))[G.size]? =some (.C #[.I 0] 3 (0,0)):=aU;show Cl 200 #[.Z] (G.push (.C #[.I 0] 3)) _;generalize G.push (.C #[.I 0] 3)=o at p6 U⊢;refine rR (bn ⟨_,rfl,?_⟩);have C:Fr No o (o.push (.C #[.Z] 179)):=Fr.push _ _;have V:(o.push (.C #[.Z] 179))[o.size]? =some (.C #[.Z] 179 (0,0)):=aU;generalize o.push (.C #[.Z] 179)=u at C V⊢;have M:Fr No r u:=(F5.tt p6).tt C;refine nM zzkr (λg0 Q' a' hq=>Fo (a'.get V id) (hq g0 (Fr.refl _ _))) λg8 f8 d8=>⟨_,aj (f8.get (C.get U id) id),?_⟩;have F:=M.tt f8;have l1:k.size<r.size:=ae
 have l2:j.size<r.size:=ae
 have u7:=M.1;refine aY (F.get (P.get O id) id) (by show 0<1;omega) λg9 c9 z9 q9=> ?_;have D:Fr (λy=>y=k.size) g8 g9:=Fr.of_eq z9 q9;refine aY (D.get (F.get S id) ae) (by show 0<1;omega) λv ca za qa=> ?_;have E:Fr (λy=>y=j.size) g9 v:=Fr.of_eq za qa;have z:Fr (λy=>y=u.size) v (v.setIfInBounds u.size (.deferred none)):=xH.vf;refine⟨E.get (D.get d8 ae) ae,?_⟩;generalize v.setIfInBounds u.size (.deferred none)=gb at z⊢;have c':=Z.1;refine⟨_,aj (z.get (E.get c9 ae) ae),_,aj (z.get ca ae),hk gb ?_⟩;exact(((J.tt F).fresh D λy e=>ae).fresh E λy e=>ae).fresh z λy e=>by have:=J.1;omega
def RY:KN (str [106,117,100,103,101]):=λh R n d w x y H X A Z J m B r z0 lt V U T E=>by refine dv (a:=A) (bk.cE λb P M o v=>⟨_,aj o,?_⟩);rw[V.v];simp only[eqs];refine bo rfl (bo rfl (bo rfl (bo rfl (bo rfl (bo rfl (bo rfl (bo rfl (bo rfl (bo rfl (bo rfl (bk.dZ o (iK (a:=A) (bk.cE λI Q O D z=>⟨_,aj D,?_⟩)))))))))))));rw[V.v];simp only[eqs];have e:=v.tt z;have j:=r.on e;exact bo rfl (bo rfl (bo rfl ⟨_,aj j.d,Nr λS F=>aw.ex e7.s ⟨rfl,F.kp,Nu (j.on F) ⟨_,rfl,all_none (j.on F).hh ⟨_,_,_,rfl,Md λG k=>⟨_,_,rfl,qq (B G (no ((e.tt F).tt k))) ⟨bA,bA⟩ ⟨bA,bA⟩ λC s u=>⟨_,rfl,_,rfl,E C s (no (((e.tt F).tt k).tt u))⟩⟩⟩⟩⟩⟩))
end zK
end Go.Proofs.YticlajoleibdnaaGreatDoor
namespace Go.Proofs.YticlajoleibdnaaGreatDoor
open Go.Den
open IntKind (wrap)
open Int (toNat)
section
namespace Pp
open qM xH Im y7
open pg hiding Good
variable {h H:Heap} {R:dH} {l j d n s b x:Nat} {X c f a:Ft} {D:DS} {e:iZ.Ev}
def Xl(h:Heap)(x b:Nat):Prop:= ∃l m q j s r I,h[x]? =some (.cells #[pt l,.map m,.int .i64 1,pt q,.int .u64 (b:Int)] 249 (0,0))/\h[l]? =some (.cells #[pt j,pt s,.int .i64 r] 233 (0,0))/\Bk h s I 0 0
def Db.YI(i:Db h x d X n D e b): ∃a,Dk h d a n D/\(∀y,a.M y->X.M y)/\¬a.M x/\∀H,Fr a.M h H->Xl H x b:=by
 obtain⟨l,m,q,v,o,bq,M,L,g,z,E,rfl⟩:=i;obtain⟨j,s,c,f,I,A,rfl⟩:=L;obtain⟨a,p,C,B⟩:=A.jn;have J: ∀y,a.M y->c.M y:=λy q=>(B.m y).2 (.inr (.inr q));refine⟨a,B.dk,λy q=> .inl (.inr (.inl (J y q))),λq=>g (.inl (.inr (.inl (J x q)))),λH F=>⟨l,some m,q,j,s,_,I,F.get o (λq=>g (.inl (.inr (.inl (J x q))))),F.get A.cV (λq=>A.lj (J l q)),?_⟩⟩;have k:=A.st.cV;have u:f.M s:=by obtain⟨w,t,_,r,_⟩:=A.st;exact(r s).2 ⟨6,((t 6).2 s).1.2 rfl⟩
 exact F.get k (λq=>A.js s (J s q) (.inl u))
def RZ(J:Ak e){V:bH}{U Q:Nat}(p:Db h x d X n D e b)(E:4<=n)(I:n<=4096)(O:RJ D true)(M:b<=2^40)(K: ∀g y i,Db g y d i n D e b->Xl g x b->Fr X.M h g->(∀z,i.M z\/i.D z->X.M z\/h.size<=z)->R (.T #[pt y,.I 0]) g):Cl 119 #[.P x 0,.P d 0,.L V U Q,iZ.jQ e] h R:=by
 obtain⟨a,o,r,xx,T⟩:=p.YI;obtain⟨l,m,q,X0,B,bq,b',L,nx,nm,nq,eX⟩:=id p;refine B3 (self:=e.s) (aw.cE λw h1 eb t k=>gx ⟨_,aj (k.get B id),⟨_,rfl,bo rfl (qM.OY (o.on k) ae O.w λh2 v u S=>⟨_,rfl,bo rfl ?_⟩)⟩⟩);have u1:=k.1;have lb:=(bP.1 t).1;have a': ∀y,h.size<=y->¬a.M y:=λy c' q=>by have:=o.lt y q;omega
 have A:=S.fr.get (k.get B id) xx;refine aw.dZ (S.fr.get t (a' w ae)) (kN ⟨_,aj A,⟨_,rfl,(Fr.refl _ _).kp,KK (b:=true) J u E I O M λg y i Hy C G=>⟨_,_,rfl,?_⟩⟩⟩);have u2:=S.fr.1;have nD: ∀z,z<h.size->v.M z->a.M z:=λz Z q=>(S.nT z q).resolve_right ae;have F:Fr a.M h g:=(k.no S.fr).trans C bD (λz Z q=>nD z Z q);refine K g y i Hy (T g F) (F.mono λz _ q=>r z q) λz P=> ?_;rcases G z P with q|q;rcases S.nT z q with q|q;exact .inl (r z q);exact .inr ae;exact .inr ae

end Pp
end
section
namespace zK
open jk
open qM xH Im y7 Pp
variable {h i:Heap} {R:dH} {s:ByteArray} {q:bH} {c b d n:Nat} {a:List ByteArray} {w x y H:Nat} {X:Ft}
variable {Q:dH} {g j:Nat} {f:Ft}
def R0{M O:Heap}{p P:bH}{J C K t:Nat}{r:List (cO)}(A:gD.BL M h p J C r)(B:gD.BL O h P K t r)(hl:r.length<=100000)(T:Q (.B true) h):
  Cl 192 #[.L p J C,.L P K t,.func (.func 194) #[] #[]] h Q:=by
 obtain⟨a,b',rfl,oa,v,U,_,_⟩:=A;obtain⟨l,c',rfl,ob,z,V,_,_⟩:=B;have Z:a.length=r.length:=by rw[<-v,aM]
 have L:l.length=r.length:=by rw[<-z,aM]
 refine gU (bo (by rw[Z,L];exact bne_self_eq_false _) ⟨λI G=>G=h/\∃k:Nat,I=(k:Int)/\k<=a.length,λI _=>a.length - I.toNat,⟨rfl,0,rfl,bg _⟩,?_⟩);rintro _ G ⟨S,k,rfl,e'⟩;subst S;by_cases c:k<a.length;have m:Row G p (a.flatMap gD.kR):=oa.iy;have o:Row G P (l.flatMap gD.kR):=ob.iy;rw[Dc]at m o;obtain⟨d',rfl⟩:=m.some (by intro e;have:=bY List.length e;simp at this;rw[this]at c;simp at c);obtain⟨a',rfl⟩:=o.some (by intro e;have:=bY List.length e;simp at this;rw[this]at L;simp at L;omega);have D:a[k]? =some a[k]:=ai c;have F:l[k]? =some l[k]:=ai ae;have e:(a[k]).b=(l[k]).b:=by
  have E:(a.map BV.b)[k]? =some (a[k]).b:=by rw[aP,D];rfl
  have u:(l.map BV.b)[k]? =some (l[k]).b:=by rw[aP,F];rfl
  rw[v]at E;rw[z,E]at u;exact bL u
 refine cF (aq ae) ⟨ae,av.2 ⟨_,_,_,by rw[aG,bJ];exact m.cell (by rw[aP,D];rfl),ae,av.2 ⟨_,_,_,by rw[aG,bJ];exact o.cell (by rw[aP,F];rfl),ja (U a[k] (cx c)).row (V l[k] (cx _)).row rfl rfl ⟨_,rfl,?_⟩⟩⟩⟩;refine bo (by rw[aq e];rfl) ⟨⟨rfl,k+1,by rw[eY];rfl,c⟩,?_⟩;show a.length - Int.toNat (IntKind.wrap .i64 ((k:Int)+1))<a.length - Int.toNat (k:Int);rw[eY];omega;exact bo (aA ae) T
def G7:pg.Good (pg.kL e7) 0:=pg.Good.new KL.1 KL.2 bA
def Xm:(pg.Nf (pg.kL e7)::pg.UA (pg.kL e7)).length<=100000:=bj zzkr
def Me(hk: ∀C s p I,pg.Pt C s p I (pg.kL e7)->Fr No h C->Q (.T #[pt s,.I 0]) C):Cl 190 #[iZ.jQ e7,.Z] h Q:=by
 refine AD (self:=e7.s) (aw.cE λb k eb hb Z=>bn (bn ?_));have D:Fr No k (k.push (.C #[.Q none] 161)):=Fr.push _ _;have M:(k.push (.C #[.Q none] 161))[k.size]? =some (.C #[.Q none] 161 (0,0)):=aU;have s1:(k.push (.C #[.Q none] 161)).size=k.size+1:=bK _;generalize k.push (.C #[.Q none] 161)=G at D M s1⊢;have u:Fr No G (G.push (.C #[.I 0] 28)):=Fr.push _ _;have O:(G.push (.C #[.I 0] 28))[G.size]? =some (.C #[.I 0] 28 (0,0)):=aU;have s2:(G.push (.C #[.I 0] 28)).size=G.size+1:=bK _;generalize G.push (.C #[.I 0] 28)=g2 at u O s2⊢;have J:=(Z.tt D).tt u;refine aw.dZ ((D.tt u).get hb id) (pg.ft e7 (λ_ o s p I L U=>⟨_,_,rfl,bn ?_⟩) (λq=>absurd KL q));have z3:=U.fr.1;have p4:Fr No o (o.push (.C #[.Q none] 161)):=Fr.push _ _;have T:(o.push (.C #[.Q none] 161))[o.size]? =some (.C #[.Q none] 161 (0,0)):=aU;generalize o.push (.C #[.Q none] 161)=g4 at p4 T⊢;refine aY T (by show 0<1;omega) λm c5 z5 q5=> ?_;have p5:Fr (λy=>y=o.size) g4 m:=Fr.of_eq z5 q5;have a':Fr No o m:=p4.fresh p5 λy e=>ae
 refine bo rfl (rR (bn ⟨_,rfl,?_⟩));have E:Fr No m (m.push (.C #[.Z] 179)):=Fr.push _ _;have V:(m.push (.C #[.Z] 179))[m.size]? =some (.C #[.Z] 179 (0,0)):=aU;generalize m.push (.C #[.Z] 179)=r at E V⊢;have F:=a'.tt E;refine nM zzkr (λg0 Q' b' hq=>Fo (b'.get V id) (hq g0 (Fr.refl _ _))) λg8 f8 d8=>⟨_,aj (f8.get (E.get c5 id) id),?_⟩;have K:=F.tt f8;have B:Fr No g2 g8:=U.fr.tt K;have u7:=(U.fr.tt F).1;have S8:=L.on K;have S: ∀z,p.M z\/p.D z->g2.size<=z/\z<r.size:=λz l=>⟨U.ge z l,iI (L.lt z l) F.1⟩;refine aY (B.get (u.get M id) id) (by show 0<1;omega) λg9 c9 z9 q9=> ?_;have v:Fr (λy=>y=k.size) g8 g9:=Fr.of_eq z9 q9;refine aY (v.get (B.get O id) ae) (by show 0<1;omega) λt ca za qa=> ?_;have A:Fr (λy=>y=G.size) g9 t:=Fr.of_eq za qa;have P:Fr (λy=>y=r.size) t (t.setIfInBounds r.size (.deferred none)):=xH.vf;refine⟨A.get (v.get d8 ae) ae,?_⟩;generalize t.setIfInBounds r.size (.deferred none)=gb at P⊢;have c':=Z.1;have SS:=((S8.frame v λz l e=>cv (S z l)).frame A λz l e=>cv (S z l)).frame P λz l e=>by have:=S z l;omega
 refine⟨_,aj (P.get (A.get c9 ae) ae),_,aj (P.get ca ae),hk gb s p I SS ?_⟩;exact(((J.tt B).fresh v λy e=>ae).fresh A λy e=>ae).fresh P λy e=>by have:=J.1;omega
def Pe{m:Nat}{p:Ft}{I:pg.GY}(S:pg.Pt h m p I (pg.kL e7))(K: ∀G,Fr No h G->Q (.T #[ax.S.z.agg,.B false]) G):Cl 191 #[pt m] h Q:=by refine Cw (ax.cE (x:=ax.S.z) λb T P B F=>ay.of λJ A=> ?_);have k:=S.on F;obtain⟨f,L,_⟩:=id k;subst A;refine⟨_,aj k.cV,bo rfl ⟨_,aj k.cV,me.EC (L 0) me.Pn.nil λu U M O o l=>⟨_,_,_,rfl,?_⟩⟩⟩;have E:M=0:=o.len;subst E;refine gq (gy ⟨λt G=>t=0/\G=u,λ_ _=>0,⟨rfl,rfl⟩,?_⟩);rintro _ G ⟨rfl,D⟩;subst D;refine bo rfl ⟨_,rfl,⟨_,rfl,cF rfl (ax.fB (l.get B id) λv C r Z=>ax.dZ C (K v ((F.tt l).fresh r λz e=>ae)))⟩⟩
def Pf(T: ∀G,Fr No h G->jk.vx G)(t:h[w]? =some (.C #[pt g,pt y,.B true,.U 7,.U 0,.string ⟨#[]⟩,.string ⟨#[]⟩,pt H,.I 0,.Z] 94 (0,0)))(D:Db h g y f 100 (fmt false (qG 100)) e7 j)(hk: ∀G,Fr No h G->Q (.T #[aF.S.z.agg,.B false,.B true]) G):
  Cl 121 #[.P w 0,.Z] h Q:=by
 refine sN (aF.cE (x:=aF.S.z) λb h1 eb hb u=>aw.gT (x:=e7.s) ?_ ?_);have k:=u.get t id;exact⟨aj k,aj k,aj k,aj k,aj k,trivial⟩;refine Me λP s XS I S v=>⟨_,_,rfl,bo rfl (Pe S λh3 J=>ax.ex ax.S.z ⟨_,rfl,ax.fX (x:=ax.S.z) λb1 h4 f' h' K=>aF.cE (x:=aF.S.z) λb2 U g' a' M=>ay.of λc' Z=>bo rfl ?_⟩)⟩;subst Z;have l:Fr No P U:=(J.tt K).tt M;have p:=(u.tt v).tt l;refine aF.dZ a' ⟨_,aj (p.get t id),pg.lG (S.on l) G7 (bg _) (T _ p) λh6 p6 l6 c6 B r=>⟨_,_,_,rfl,r.kp,?_⟩⟩;have o:=p.tt r;obtain⟨lg,m,q,X0,E,bq,d',L,nx,nm,nq,eX⟩:=D.on o;obtain⟨i',s',XJ,e',I',A,rfl⟩:=id L;refine gx ⟨_,aj E,_,rfl,(Fr.refl _ _).kp,y7.yW A ⟨_,rfl,(Fr.refl _ _).kp,pg.lG A.st G7 (bg _) (T _ o) λh7 p7 l7 c7 z F=>⟨_,_,_,rfl,F.kp,R0 (B.on F) z Xm ⟨_,rfl,(Fr.refl _ _).kp,?_⟩⟩⟩⟩;have C:=(((((v.tt l).tt r).tt F)).get hb id);exact aF.fB C λV b' O z8=>aF.dZ b' (hk V ((o.tt F).fresh O λj' e=>ae))
def KO(v:Sk h H)(hk: ∀a',Fr (λz=>z=H) h a'->Sk a' H->Q (.T #[.I 0,.I 0]) a'):Cl 122 #[.P H 0,.I 0] h Q:=by
 have lh:=aE v;refine nL (bn (bn ?_));have f1:Fr No h (h.push (.C #[pt H] 90)):=Fr.push _ _;have E:(h.push (.C #[pt H] 90))[h.size]? =some (.C #[pt H] 90 (0,0)):=aU;have s1:(h.push (.C #[pt H] 90)).size=h.size+1:=bK _;generalize h.push (.C #[pt H] 90)=r at f1 E s1⊢;have C:Fr No r (r.push (.C #[.I 0] 3)):=Fr.push _ _;have c2:(r.push (.C #[.I 0] 3))[r.size]? =some (.C #[.I 0] 3 (0,0)):=aU;have s2:(r.push (.C #[.I 0] 3)).size=r.size+1:=bK _;generalize r.push (.C #[.I 0] 3)=G at C c2 s2⊢;have S:=f1.tt C;refine ay.of λc' hJ=>⟨_,aj (C.get E id),bo rfl ⟨_,aj (C.get E id),av.2 ⟨_,aj (S.get v id),rfl,?_⟩⟩⟩;subst hJ;refine bo rfl (bn (bn ?_));have f3:Fr No G (G.push (.C #[.I 0] 3)):=Fr.push _ _;have c3:(G.push (.C #[.I 0] 3))[G.size]? =some (.C #[.I 0] 3 (0,0)):=aU;have s3:(G.push (.C #[.I 0] 3)).size=G.size+1:=bK _;generalize G.push (.C #[.I 0] 3)=o at f3 c3 s3⊢;have V:Fr No o (o.push (.C #[.I 0] 3)):=Fr.push _ _;have c4:(o.push (.C #[.I 0] 3))[o.size]? =some (.C #[.I 0] 3 (0,0)):=aU;have s4:(o.push (.C #[.I 0] 3)).size=o.size+1:=bK _;generalize o.push (.C #[.I 0] 3)=g4 at V c4 s4⊢;refine aY (V.get c3 id) (by show 0<1;omega) λg5 c5 z5 q5=> ?_;have f5:Fr (λz=>z=G.size) g4 g5:=Fr.of_eq z5 q5;refine aY (f5.get c4 ae) (by show 0<1;omega) λl c6 z6 q6=> ?_;have f6:Fr (λz=>z=o.size) g5 l:=Fr.of_eq z6 q6;have D:Fr No G l:=((f3.tt V).fresh f5 λz e=>ae).fresh f6 λz e=>ae
 have k:Fr No h l:=S.tt D;have P:=D.get (C.get E id) id;have k2:=D.get c2 id;have k3:=f6.get c5 ae;refine⟨_,aj P,iz (bn ⟨_,rfl,?_⟩)⟩;have I:Fr No l (l.push (.C #[pt H] 90)):=Fr.push _ _;have c7:(l.push (.C #[pt H] 90))[l.size]? =some (.C #[pt H] 90 (0,0)):=aU;generalize l.push (.C #[pt H] 90)=M at I c7⊢;have F7:=k.tt I;refine nM zzkr (λg0 Q' B hq=>xG (B.get c7 id) ((F7.tt B).get v id) (hq g0 (Fr.refl _ _))) λp f8 U=> ?_;have u:=I.tt f8;have u7:=F7.1;have u6:=k.1;have f':=I.1;refine ay.of λc' hJ=>⟨_,aj (u.get k2 id),_,aj (u.get k3 id),bo rfl ⟨_,aj (u.get k2 id),_,aj (u.get c6 id),rfl,?_⟩⟩;subst hJ;refine bo rfl (bn ?_);have J:Fr No p (p.push (.C #[.I 0] 3)):=Fr.push _ _;have c9:(p.push (.C #[.I 0] 3))[p.size]? =some (.C #[.I 0] 3 (0,0)):=aU;generalize p.push (.C #[.I 0] 3)=g9 at J c9⊢;refine aY c9 (by show 0<1;omega) λt ca za qa=> ?_;have Z:Fr (λz=>z=p.size) g9 t:=Fr.of_eq za qa;have u8:=f8.1;have b':Fr No l t:=(u.tt J).fresh Z λz e=>by have:=u.1;omega
 refine⟨_,aj (b'.get P id),iz (bn ⟨_,rfl,?_⟩)⟩;have K:Fr No t (t.push (.C #[pt H] 90)):=Fr.push _ _;have cb:(t.push (.C #[pt H] 90))[t.size]? =some (.C #[pt H] 90 (0,0)):=aU;generalize t.push (.C #[pt H] 90)=gb at K cb⊢;have T:=b'.tt K;refine nM zzkr (λg0 Q' B hq=>xG (B.get cb id) (((k.tt T).tt B).get v id) (hq g0 (Fr.refl _ _))) λgc fc dc=> ?_;have F:=T.tt fc;have Hc:=(k.tt F).get v id;have ub:=T.1;have d':gc[M.size]? =some (.deferred (some [])):=by have:Fr (λz=>z=p.size) p gc:=(J.no Z).on (K.tt fc);have l8:=aE U;exact this.get U ae
 have l8:=aE U;have lH:=aE v;have v1:=S.1;have v2:=D.1;have v3:=J.1;have v4:=Z.1;have v5:=K.1;refine⟨_,aj (F.get P id),_,aj (F.get P id),av.2 ⟨_,_,_,aj Hc,av.2 (aY Hc (by show 2<3;omega) λO e' zd qd=> ?_)⟩⟩;have m:Fr (λz=>z=H) gc O:=Fr.of_eq zd qd;refine⟨_,aj (m.get (F.get c6 id) ae),_,aj (m.get (F.get k2 id) ae),m.get dc ae,?_⟩;have A:Fr (λz=>z=gb.size) O (O.setIfInBounds gb.size (.deferred none)):=xH.vf;refine⟨A.get (m.get d' ae) ae,?_⟩;generalize O.setIfInBounds gb.size (.deferred none)=ge at A⊢;have L:Fr (λz=>z=M.size) ge (ge.setIfInBounds M.size (.deferred none)):=xH.vf;generalize ge.setIfInBounds M.size (.deferred none)=gf at L⊢;refine hk gf ⟨?_,λz zl zn=> ?_⟩ (L.get (A.get e' ae) ae);have:=(k.tt F).1;have:=m.1;have:=A.1;have:=L.1;omega;rw[L.2 z (Pv ((k.tt F).1) m.1 A.1) ae,A.2 z (iI ((k.tt F).1) m.1) ae,m.2 z (cv ((k.tt F).1)) zn,(k.tt F).2 z zl id]
def TT{lx:Nat}(D:Db h g y f 100 (fmt false (qG 100)) e7 j)(k: ∀l,(∀i (e:dH),Fr No h i->e (.I 0) i->Cl 108 #[pt l] i e)->Q (pt l) h):Cl 107 #[.P g 0] h Q:=by obtain⟨l,m,q,p,B,bq,M,L,u,r,t,E⟩:=D;exact gx ⟨_,aj B,k l λi e F o=>y7.qO (L.frame F bD).lg o⟩
def R2(e:Sk h H)(m: ∀G,Sk G H->Fr (λz=>z=H) h G->Q (.I 0) G):Cl 125 #[.P H 0,.I 0] h Q:=by refine jI (ay.of λJ k=>⟨_,aj e,?_⟩);subst k;refine bo rfl (ay.of λo l=>⟨_,aj e,bo rfl ⟨_,_,_,aj e,?_⟩⟩);subst l;exact bo rfl (aY e (by show 2<3;omega) λG I z q=>m G I (Fr.of_eq z q))
def TU{kp:bH}{kl kc:Nat}(B: ∀G,Fr (λz=>n<=z) h G->Bs G)(hn:n<=h.size)(k:Fd h n d w x y H X)(hk: ∀G,Fr (λz=>n<=z) h G->R (.T #[.I 0,.I 0]) G):Cl 63 #[.P w 0,.L kp kl kc] h R:=by
 have lw:=aE k.w;have lh:=aE k.hh;have ok:RJ (fmt false (qG 100)) true:=(RJ.new 100 bA).fmt (MI 100) bA;refine rv (gm k ⟨_,rfl,bo rfl ⟨_,aj k.w,aw.gT (x:=e7.s) ⟨aj k.w,aj k.w,aj k.w,aj k.w,aj k.w,trivial⟩ (gm k ⟨_,rfl,(Fr.refl _ _).kp,Pp.RZ KL k.db bA bA ok bA λh1 g f D1 K1 A g1=>⟨_,_,rfl,bo rfl ?_⟩⟩)⟩⟩);have w1:=A.get k.w λq=>k.sw (.inl q);have d':=A.get k.hh λq=>k.sh (.inl q);have P: ∀z,f.M z\/f.D z->n<=z/\z≠w/\z≠H:=λz o=>by rcases g1 z o with q|q;exact⟨k.gX z (.inl q),λe=>k.sw (.inl (e▸q)),λe=>k.sh (.inl (e▸q))⟩;exact⟨ae,ae,ae⟩
 have F1:Fr (λz=>n<=z) h h1:=A.mono λz _ q=>k.gX z (.inl q);refine aY w1 (by show 0<10;omega) λh2 w2 z2 q2=> ?_;have f2:Fr (λz=>z=w) h1 h2:=Fr.of_eq z2 q2;refine aY w2 (by show 9<10;omega) λS w3 z3 q3=> ?_;have f3:Fr (λz=>z=w) h2 S:=Fr.of_eq z3 q3;have F:=f2.tt f3;have D3:Db S g y f 100 (fmt false (qG 100)) e7 0:=by obtain⟨t,m,q,u,v,bq,M,L,Z,U,V,E⟩:=D1;have l: ∀z,f.M z\/f.D z->¬z=w:=λz o=>(P z o).2.1;rw[E]at l;exact⟨t,m,q,u,F.get v (l _ (.inl (.inr (.inl rfl)))),F.get bq (l q (.inl (.inr (.inr (.inr rfl))))),M.frame F (l m (.inl (.inr (.inr (.inl rfl))))),L.frame F (λz o=>l z (o.imp .inl id)),Z,U,V,E⟩
 have a':=F.get d' k.wh.symm;have F3:Fr (λz=>n<=z) h S:=F1.tt (F.mono λz _ e=>by rw[e];exact k.gw);refine⟨_,aj w3,HB a' λh4 p=>⟨_,_,_,rfl,ay.of λi' hJ=>⟨λh' G=>h'=0/\G=h4,λ_ _=>0,⟨rfl,rfl⟩,?_⟩⟩⟩;rintro _ G ⟨rfl,hg⟩;subst hg;have F4:=F3.tt (no p);have w4:=p.get w3 id;refine cF rfl ⟨⟨bA,bA⟩,?_⟩;rw[iV];refine Pf (λg' f'=>(B g' (F4.tt (no f'))).tb) w4 (D3.on p) λh5 D=>aF.ex _ ⟨_,_,rfl,aF.fX (x:=aF.S.z) λb h6 eb hb I=>bo rfl ⟨_,aj (I.get (D.get w4 id) id),KO (I.get (D.get (p.get a' id) id) id) λh7 J b'=>⟨_,_,rfl,bo rfl (ay.of λJ1 c'=>bo rfl ?_)⟩⟩⟩;subst c';have C:=D.tt I;have w7:=J.get (C.get w4 id) k.wh;have F7:Fr (λz=>n<=z) h h7:=(F4.tt (no C)).tt (J.mono λz _ e=>by rw[e];exact k.gh);refine⟨_,aj w7,iG ⟨_,_,_,aj b',_,rfl,aY w7 (by show 8<10;omega) λh8 w8 z8 q8=> ?_⟩⟩;have K:Fr (λz=>z=w) h7 h8:=Fr.of_eq z8 q8;have e':=K.get b' k.wh.symm;refine⟨_,aj w8,_,aj w8,R2 e' λT j' O=>⟨_,rfl,?_⟩⟩;have w9:=O.get w8 k.wh;refine⟨_,aj w9,_,aj w9,?_⟩;have D9:Db T g y f 100 (fmt false (qG 100)) e7 0:=by obtain⟨t,m,q,u,v,bq,M,L,Z,U,V,E⟩:=(D3.on p).on C;have r:Fr (λz=>z=w\/z=H) _ T:=((J.mono λz _ e=> .inr e).tt (K.mono λz _ e=> .inl e)).tt (O.mono λz _ e=> .inr e);have l: ∀z,f.M z\/f.D z->¬(z=w\/z=H):=λz o e=>e.elim (P z o).2.1 (P z o).2.2;rw[E]at l;exact⟨t,m,q,u,r.get v (l _ (.inl (.inr (.inl rfl)))),r.get bq (l q (.inl (.inr (.inr (.inr rfl))))),M.frame r (l m (.inl (.inr (.inr (.inl rfl))))),L.frame r (λz o=>l z (o.imp .inl id)),Z,U,V,E⟩
 refine TT (lx:=0) D9 λt dn=>⟨_,rfl,(Fr.refl _ _).kp,dn _ _ (Fr.refl _ _) ⟨_,rfl,(Fr.refl _ _).kp,aY w9 (by show 8<10;omega) λha wa za qa=>hk ha ?_⟩⟩;have fa:Fr (λz=>z=w) T ha:=Fr.of_eq za qa;exact((F7.tt (K.mono λz _ e=>by rw[e];exact k.gw)).tt (O.mono λz _ e=>by rw[e];exact k.gh)).tt (fa.mono λz _ e=>by rw[e];exact k.gw)
def R3:KN (str [99,114,97,115,104]):=λh R n d w x y H X A C u m B o Z lt V z L t=>by refine dv (a:=A) (bk.cE λb v E l F=>⟨_,aj l,?_⟩);rw[V.v];simp only[eqs];have k:=o.on F;have D:=F.1;exact bo rfl (bo rfl (bo rfl (bo rfl (bo rfl (bo rfl (bo rfl (bo rfl (bo rfl (bo rfl (cF rfl ⟨_,aj k.d,_,_,_,aj l,TU (λG e=>B G ((no F).tt e)) ae k λG e=>⟨_,_,rfl,qq (B G ((no F).tt e)) ⟨bA,bA⟩ ⟨bA,bA⟩ λr s p=>⟨_,rfl,t r s (((no F).tt e).tt (no p))⟩⟩⟩))))))))))

end zK
end
end Go.Proofs.YticlajoleibdnaaGreatDoor
namespace Go.Den
def Fr.nw{P Q:fZ}{h G k:Heap}(F:Fr P h G)(m:Fr Q G k)(r: ∀y,Q y->h.size<=y):Fr P h k:=F.trans m bD (λy u e=>absurd (r y e) ae)
end Go.Den
namespace Go.Proofs.YticlajoleibdnaaGreatDoor
open Go.Den
namespace zK
open jk
open qM xH Im y7 Pp
open pg (SS GY Pt kL Q4 yG Ks)
open Bh (Ch)
open Go.Fields
variable {h f a g : Heap} {R : Value → Heap → Prop} {V : List UInt8 → Bool} {s : ByteArray} {p q : Option Addr} {l c i b d n w x y H : Nat} {o j t : List ByteArray} {K : BK} {X : Ft}
def vz{m e l J s:Nat}{k r:Ft}{z:JN}{D:DS}{I:GY}{B:SS}(A:Fx h l J d s k r e z D I B)(u:z.fits e m)(v: ∀G,Fr No h G->R (.I 0) G):Cl 155 #[.P l 0,.I (m:Int)] h R:=
 vY ⟨_,aj A.cV,xH.MP A.jn u λG F=>⟨_,rfl,cF rfl (v G F)⟩⟩
def Xn{L:ax.S}{B:cO}{J:ag.S}{e':Nat}{z:JN}{ds:DS}{σ:SS}(j':Lg h l X e' z ds σ)(e0:L.f0=(σ.now:Int))(e8:L.f1≠8)(hw: ∀G (Q:dH),Fr No h G->(∀r p c,Den.Own r p B.length c 1 (bc B)->Fr No G r->Q (.T #[.L p B.length c,.I 0]) r)->Cl 154 #[L.agg] G Q)(ha: ∀G (Q:dH) s k I,Fr X.M h G->Pt G s k I σ->(∀y,k.M y->X.M y)->(∀r,Fr k.M G r->Q (.T #[J.agg,.I 0]) r)->Cl 157 #[pt s,L.agg] G Q)(b0:1<=B.length)(b1:B.length<=1500)(hf:z.fits e' (B.length+1+16))(hx:z.all<=1000000000)(hk: ∀G,Fr X.M h G->R (.T #[J.agg,.I ((z.all+1:Nat):Int),.I 0]) G):Cl 90 #[.P l 0,L.agg] h R:=by
 obtain⟨r',d,s,U,k,I,A,rfl⟩:=j';refine oI (ax.cE (x:=L) λbx h1 e1 a' Z=>ag.cE (x:=ag.S.z) λbr h2 e2 i' u=>y7.fJ (A.on (Z.tt u)) ⟨_,rfl,bo rfl (ax.dZ (u.get a' id) (hw _ _ (Z.tt u) λD p c o3 P=>⟨_,_,_,_,rfl,bo rfl ?_⟩))⟩);have u1:=Z.1;have u2:=u.1;have u3:=P.1;have lx:=aE a';have lr:=aE i';have F3:=(Z.tt u).tt P;have A3:=A.on F3;refine⟨_,aj (P.get (u.get a' id) id),_,aj A3.cV,av.2 ⟨_,aj A3.st.cV,bo (aA (by rw[e0];exact Int.lt_irrefl _)) (bn ?_)⟩⟩;have f4:Fr No D (D.push (.C #[.int .u8 69] 5)):=Fr.push _ _;have m':Row (D.push (.C #[.int .u8 69] 5)) (Sa D.size 0) (bc [69]):=gW (cs:=bc [69]);refine ou gD.tU gD.uU (bs:= [69]) ⟨rfl,.inr ⟨m',rfl⟩⟩ (o3.iy.frame f4 bD) rfl b0 ae λp5 c5 h5 o5 f5 g5=>⟨_,_,_,rfl,?_⟩;have nb: ∀y,aN (Sa D.size 0) y->D.size<=y:=λy ⟨q',e,hy⟩=>by cases e;exact hy▸bf _
 have M:Fr No D h5:=f4.fresh f5 nb;have u5:=M.1;have S:=A3.on M;have x5:=M.get (P.get (u.get a' id) id) id;have r5:=M.get (P.get i' id) id;refine⟨_,aj x5,ay.of λo' hJ=>cF (by simp;exact e8) ?_⟩;have ew:IntKind.wrap .i64 (((([69]:cO)++B).length:Int)+16)=((B.length+1+16:Nat):Int):=by rw[df (by simp;omega) (by simp;omega)];simp
 rw[ew];subst hJ;have l':z.fits e' (69::B).length:=⟨bO,by simp;omega,by have:=hf.2.2;simp;omega⟩;refine vz S hf λh6 m=>⟨_,rfl,bo rfl ⟨_,fY (S.on m).cV rfl,Og (S.on m).jn l' rfl (o5.iy.frame m bD) hx λE p' J7 b'=>⟨_,_,rfl,bo rfl ?_⟩⟩⟩;obtain⟨A7,n'⟩:=(S.on m).Xj J7 b';have u6:=m.1;have u7:=b'.fr.1;have nj: ∀y,h.size<=y->¬U.M y:=λy hy e=>by have:=A.jn.lt y e;omega
 have ns: ∀y,h.size<=y->¬k.M y:=λy hy e=>by have:=A.st.lt y (.inl e);omega
 have x7:=b'.fr.get (m.get x5 id) (nj _ ae);have r7:=b'.fr.get (m.get r5 id) (nj _ ae);have F6:Fr No h h6:=(F3.tt M).tt m;have T:Fr (O6 l U k).M h E:=(cW.no F6 n').fr;refine ay.of λJ1 k'=>⟨_,aj A7.cV,ax.dZ x7 ?_⟩;have h': ∀G O,Fr (O6 l U k).M h G->ag.ff G O J->ag.ff G br ag.S.z->J1 0 (Sa O 0) G:=λG O F d3 dr=>by subst k';exact av.2 (ag.dZ d3 (ag.fB dr λr d' f' _=>ag.dZ d' (hk r (F.nw f' λy e=>by have:y=br:=e;omega))))
 have c': ∀y,k.M y->(O6 l U k).M y:=λy e=> .inr (.inr e);refine⟨ha _ _ _ _ _ T A7.st c' λh8 v=>ag.ex J ⟨_,rfl,ag.fX (x:=J) λO h9 e9 d9 C=>h' h9 O ((T.trans v bD (λy _ e=>c' y e)).on C) d9 (C.get (v.get r7 (ns _ ae)) id)⟩,bn ⟨(Fr.push _ _).kp,?_⟩,trivial⟩;have v:Fr No E (E.push (.C ag.S.z.arr 110)):=Fr.push _ _;refine ha _ _ _ _ _ (T.on v) (A7.on v).st c' λh8 C=>ag.ex J ⟨_,rfl,?_⟩;have u8:=C.1;have d8:ag.ff h8 E.size ag.S.z:=C.get aU (ns _ ae);have s':=aE r7;refine ag.fB (x:=J) d8 λh9 d9 g' _=>h' h9 E.size (((T.on v).trans C bD (λy _ e=>c' y e)).nw g' λy e=>by have:y=E.size:=e;omega) d9 (g'.get (C.get (v.get r7 id) (ns _ ae)) (by show¬br=E.size;omega))
def R4{E:ax.S}{S:Nat}{z:JN}{C:DS}{T:SS}(v:Lg h l X S z C T)(O: ∀G (Q:dH),Fr No h G->(∀r,Fr No G r->Q (.T #[.Z,.I 3]) r)->Cl 154 #[E.agg] G Q)(M: ∀G,Fr No h G->R (.T #[ag.S.z.agg,.I 0,.I 3]) G):Cl 90 #[.P l 0,E.agg] h R:=by
 obtain⟨a',d,s,U,Z,I,A,rfl⟩:=v;refine oI (ax.cE (x:=E) λbx h1 e1 P F=>ag.cE (x:=ag.S.z) λB h2 e2 u k=>y7.fJ (A.on (F.tt k)) ⟨_,rfl,bo rfl (ax.dZ (k.get P id) (O _ _ (F.tt k) λh3 m=>⟨_,_,_,_,rfl,cF rfl ?_⟩))⟩);have u1:=F.1;have lr:=aE u;refine ag.fB (x:=ag.S.z) (m.get u id) λL D J _=>ag.dZ D (M L (((F.tt k).tt m).fresh J λy e=> ?_));have:y=B:=e;omega
def Fq{b O:Nat}{T:TypeId}{L m post:List Value}(r:h[b]? =some (.C L.toArray T (0,0)))(e:L.drop O=m++post):cz (AA b O) m 0 h:=dy r λJ v k=>by
 have u:=(aS.1 k).1;have:(L.drop O)[J]? =some v:=by rw[e,List.getElem?_append_left u];exact k
 rw[fj]at this;simpa using this
abbrev r4:ag.S:=⟨0,4,0,0,0,none,0,0⟩
abbrev IN(T:ax.S)(r:ag.S)(e:Int):ao.S:=⟨0,0,0,false,0,0,(⟨#[]⟩:bC),(⟨#[]⟩:bC),false,0,0,(⟨#[]⟩:bC),(⟨#[]⟩:bC),0,0,0,none,0,0,0,0,false,T.f0,T.f1,T.f2,T.f3,T.f4,T.f5,T.f6,T.f7,T.f8,T.f9,T.f10,T.f11,T.f12,T.f13,T.f14,T.f15,T.f16,T.f17,T.f18,T.zI,T.Bp,T.HX,T.f20,T.f21,T.f22,T.Bq,T.Br,T.HY,r.f0,r.f1,r.f2,r.f3,r.f4,r.Wv,r.Ww,r.Wx,e⟩
def KP{ev:ax.S}{bs:cO}(b':Fd h n d w x y H X)(e0:ev.f0=0)(e8:ev.f1≠8)(hw: ∀G (Q:dH),Fr No h G->(∀r p c,Den.Own r p bs.length c 1 (bc bs)->Fr No G r->Q (.T #[.L p bs.length c,.I 0]) r)->Cl 154 #[ev.agg] G Q)(ha: ∀G (Q:dH) s C I,Fr X.M h G->Pt G s C I (kL e7)->(∀y,C.M y->X.M y)->(∀r,Fr C.M G r->Q (.T #[r4.agg,.I 0]) r)->Cl 157 #[pt s,ev.agg] G Q)(b0:1<=bs.length)(b1:bs.length<=1500)(hk: ∀G,Fr X.M h G->R (.T #[(IN ev r4 1).agg,.I 0]) G):Cl 186 #[.P x 0,ev.agg] h R:=by
 refine jJ (ax.cE (x:=ev) λbx h1 e1 d' f1=>ao.cE (x:=ao.S.z) λU A e2 a' f2=>ay.of λe' hJ=> ?_);have J:=f1.tt f2;have z1:=f1.1;have z2:=f2.1;have lx:=aE d';have ld:=aE a';have nX: ∀z,h.size<=z->¬X.M z:=λz M q=>by have:=b'.db.lt z (.inl q);omega
 obtain⟨lg,m,q,T,f',bq,g',L,nx,nm,nq,eX⟩:=(b'.on J).db;have S: ∀z,T.M z->X.M z:=λz q=>by rw[eX];exact .inl q
 have x2:=f2.get d' id;have c': ∀G D,Fr X.M h G->ax.ff G bx ev->ag.ff G D r4->ao.ff G U ao.S.z->e' (Sa D 0) 1 0 G:=λG D F dx dr dd=>by subst hJ;exact bo rfl (ax.dZ dx (av.2 (ag.dZ dr (ao.fB dd λr Z u _=>ao.dZ Z (hk r (F.nw u λy e=>by have:y=U:=e;omega))))))
 have hf:Pm.fits 100 (bs.length+1+16):=⟨ae,ae,by show bs.length+1+16+2+0<=6272;omega⟩;have dO: ∀G (Q:dH),Fr No A G->(∀r,Fr X.M h r->Fr T.M G r->Q (.T #[r4.agg,.I 1,.I 0]) r)->Cl 90 #[pt lg,ev.agg] G Q:=λG Q v hq=>Xn (L.frame v bD).lg e0 e8 (λr O u k=>hw r O ((J.tt v).tt u) k) (λr O s C I u P sb k=>ha r O s C I ((J.tt v).no (u.mono λz _=>S z)) P (λz M=>S z (sb z M)) k) b0 b1 hf bA λr u=>hq r ((J.tt v).no (u.mono λz _=>S z)) u;have E: ∀z,h.size<=z->¬T.M z:=λz M q=>nX z M (S z q);refine⟨_,aj f',ax.dZ x2 ⟨dO A _ (Fr.refl _ _) λG F v=>ag.ex r4 ⟨_,_,rfl,ag.fX (x:=r4) λD r e3 d3 B=>c' r D (F.on B) (B.get (v.get x2 (E _ ae)) id) d3 (B.get (v.get a' (E _ ae)) id)⟩,bn ⟨(Fr.push _ _).kp,?_⟩,trivial⟩⟩;have B:Fr No A (A.push (.C ag.S.z.arr 110)):=Fr.push _ _;have d3:ag.ff (A.push (.C ag.S.z.arr 110)) A.size ag.S.z:=aU;refine dO _ _ B λG F v=>ag.ex r4 ⟨_,_,rfl,ag.fB (x:=r4) (v.get d3 (E _ ae)) λr Z u _=>c' r A.size (F.nw u λy e=>by have:y=A.size:=e;omega) (u.get (v.get (B.get x2 id) (E _ ae)) (by show¬bx=A.size;omega)) Z (u.get (v.get (B.get a' id) (E _ ae)) (by show¬U=A.size;omega))⟩
def Mf{ev:ax.S}(U:Fd h n d w x y H X)(T: ∀G (Q:dH),Fr No h G->(∀u,Fr No G u->Q (.T #[.Z,.I 3]) u)->Cl 154 #[ev.agg] G Q)(hk: ∀G,Fr No h G->R (.T #[ao.S.z.agg,.I 3]) G):Cl 186 #[.P x 0,ev.agg] h R:=by
 refine jJ (ax.cE (x:=ev) λbx h1 e1 a' P=>ao.cE (x:=ao.S.z) λD z e2 I E=>ay.of λJ hJ=> ?_);have A:=P.tt E;have z1:=P.1;have ld:=aE I;obtain⟨lg,m,q,X0,Z,bq,b',L,nx,nm,nq,eX⟩:=(U.on A).db;have S: ∀G C,Fr No h G->ao.ff G D ao.S.z->J C 0 3 G:=λG C F dd=>by subst hJ;exact cF rfl (ao.fB dd λu M B _=>ao.dZ M (hk u (F.fresh B λy e=>by have:y=D:=e;omega)))
 refine⟨_,aj Z,ax.dZ (E.get a' id) ⟨R4 L.lg (λG Q r k=>T G Q (A.tt r) k) λG r=>ag.ex _ ⟨_,_,rfl,ag.fX (x:=ag.S.z) λC u e3 O v=>S u _ ((A.tt r).tt v) (v.get (r.get I id) id)⟩,bn ⟨(Fr.push _ _).kp,?_⟩,trivial⟩⟩;have v:Fr No z (z.push (.C ag.S.z.arr 110)):=Fr.push _ _;have O:ag.ff (z.push (.C ag.S.z.arr 110)) z.size ag.S.z:=aU;refine R4 (L.frame v bD).lg (λG Q r k=>T G Q ((A.tt v).tt r) k) λG r=>ag.ex _ ⟨_,_,rfl,ag.fB (x:=ag.S.z) (r.get O id) λu M B _=>S u _ (((A.tt v).tt r).fresh B λy e=>by have:y=z.size:=e;have:=E.1;omega) (B.get (r.get (v.get I id) id) (by show¬D=z.size;omega))⟩
def Ab{z:aF.S}(r1:Row h z.zI (bc []))(n1:z.Bp=0){D:cO}(r2:Row h z.Bq (bc D))(n2:z.Br=D.length)(hd:D.length<=100000)(n3:z.U1=0)(hk: ∀G (a':aF.S),Fr No h G->R a'.agg G):Cl 189 #[z.agg] h R:=by
 refine vZ (aF.cE λb h1 e1 r m=>aF.cE (x:=aF.S.z) λB h2 e2 L F=>⟨_,_,_,aj (F.get r id),gD.jC (r2.frame (m.tt F) bD) n2 ae λp3 O I o3 k g3=>⟨_,_,_,rfl,?_⟩⟩);have z1:=m.1;have z2:=F.1;have z3:=k.1;have lb:=aE r;have b':=aE L;refine aY (k.get (F.get r id) id) (by show 23<32;omega) λh4 v z4 q4=> ?_;have T:Fr (λy=>y=b) I h4:=Fr.of_eq z4 q4;refine⟨_,_,_,aj v,gD.jC (bs:= []) .nil n1 bA λp5 P h5 o5 C g5=>⟨_,_,_,rfl,?_⟩⟩;refine aY (C.get v id) (by show 19<32;omega) λh6 A z6 q6=> ?_;have U:Fr (λy=>y=b) h5 h6:=Fr.of_eq z6 q6;refine⟨_,_,_,aj A,gD.jC (bs:= []) .nil n3 bA λp7 Q h7 o7 E g7=>⟨_,_,_,rfl,?_⟩⟩;refine aY (E.get A id) (by show 29<32;omega) λJ M z8 q8=> ?_;have Z:Fr (λy=>y=b) h7 J:=Fr.of_eq z8 q8;have u:Fr (λy=>y=b) I J:=((T.on C).tt (U.on E)).tt Z;refine aF.dZ (x:= { z with Bq:=p3,Br:=D.length,HY:=O,zI:=p5,Bp:=0,HX:=P,Wt:=p7,U1:=0,Wu:=Q }) M (aF.fB (u.get (k.get L id) (by show¬B=b;omega)) λh9 S f9 _=>aF.dZ S (hk h9 _ ?_));exact(((m.tt F).tt k).fresh u λy e=>by have:y=b:=e;omega).fresh f9 λy e=>by have:y=B:=e;omega
def Pg(m: ∀G,Fr No h G->R (.B true) G):Cl 196 #[r4.agg] h R:=
 WD.fA ⟨0,4,0,0,0, []⟩ .nil λG F=>
  have e: ∀b,b=true->R (.B b) G:=λb k=>by rw[k];exact m G F
  e _ bA
def ZG:jL Tryz.prog 179 212 32 328 (.agg aF.S.z.arr):=⟨zzkr,zzkr,rfl⟩
def ZH:Tryz.prog.underlying 179=some (.slice 212):=zzkr
def VY{E:ax.S}{D:cO}(m:Sk h H)(hr: ∀G (Q:dH),Fr No h G->(∀P,Fr No G P->Q (.B true) P)->Cl 195 #[E.agg] G Q)(n1:E.Bp=0)(p1:E.zI=none)(r2:Row h E.Bq (bc D))(n2:E.Br=D.length)(hd:D.length<=100000)(hk: ∀G,Fr (λb'=>b'=H) h G->R (.T #[.I 0,.I 0]) G):Cl 123 #[.P H 0,E.agg,r4.agg] h R:=by
 refine oX (ax.cE (x:=E) λb h1 e1 S z=>ag.cE (x:=r4) λb1 h2 e2 A F=>ay.of λd' hJ=>⟨_,aj ((z.tt F).get m id),?_⟩);subst hJ;have B:=z.tt F;have J:=F.get S id;refine bo rfl (ay.of λJ1 a'=>ax.dZ J (hr h2 _ B λh3 L=>⟨_,rfl,bo rfl (ag.dZ (L.get A id) (Pg λh4 U=>⟨_,rfl,?_⟩))⟩));subst a';have r:=L.tt U;have v:=B.tt r;have I:=v.get m id;have lb:=aE S;have f':=aE A;have lH:=aE m;have z1:=z.1;have z2:=F.1;refine bo rfl ⟨_,_,_,aj I,bo rfl ⟨_,_,_,aj I,ax.dZ (r.get J id) (ag.dZ (r.get A id) ?_)⟩⟩;refine Ab (z:=⟨E.f0,E.f1,E.f2,E.f3,E.f4,E.f5,E.f6,E.f7,E.f8,E.f9,E.f10,E.f11,E.f12,E.f13,E.f14,E.f15,E.f16,E.f17,E.f18,E.zI,E.Bp,E.HX,E.f20,E.f21,E.f22,E.Bq,E.Br,E.HY,0,4,0,0,0,none,0,0,false,false⟩) (by show Row h4 E.zI (bc []);rw[p1];exact .nil) n1 (r2.frame v bD) n2 hd rfl λk u M=>aF.ex u ⟨rfl,M.kp,?_⟩;refine bn ⟨(Fr.push _ _).kp,?_⟩;have Z:Fr No k (k.push (.C u.arr 212)):=Fr.push _ _;have r6:Row (k.push (.C u.arr 212)) (Sa k.size 0) u.arr.toList:=gW (cs:=u.arr.toList);refine du ZG ZH (cs:= []) (.nil rfl rfl rfl rfl) r6 rfl (λg' hv=> ?_) bA bA λp' c' h7 o7 _ f7 g7=>⟨_,_,_,rfl,?_⟩;simp only[aF.S.arr,List.toList_toArray,bG,dU,or_false]at hv;rcases hv with rfl|rfl|rfl|rfl|rfl|rfl|rfl|rfl|rfl|rfl|rfl|rfl|rfl|rfl|rfl|rfl|rfl|rfl|rfl|rfl|rfl|rfl|rfl|rfl|rfl|rfl|rfl|rfl|rfl|rfl|rfl|rfl<;>rfl;have O:Fr No (k.push (.C u.arr 212)) h7:=f7.mono λy _ ⟨e',e,_⟩=>by cases e
 have C:=(v.tt M).tt (Z.tt O);refine⟨O.kp,aY (C.get m id) (by show 1<3;omega) λh8 T z8 q8=>⟨_,_,_,aj T,hk h8 (C.no (Fr.of_eq z8 q8))⟩⟩
def Fs{ev:ax.S}{ds:cO}(T:h[w]? =some (.C #[pt x,pt y,.B true,.U 7,.U 0,.string ⟨#[]⟩,.string ⟨#[]⟩,pt H,.I 0,.Z] 94 (0,0)))(J:Sk h H)(e4:ev.f1≠4)(hr: ∀G (Q:dH),Fr No h G->(∀O,Fr No G O->Q (.B true) O)->Cl 195 #[ev.agg] G Q)(n1:ev.Bp=0)(p1:ev.zI=none)(r2:Row h ev.Bq (bc ds))(n2:ev.Br=ds.length)(hd:ds.length<=100000)(hk: ∀G,Fr (λz=>z=H) h G->R (.T #[r4.agg,.I 0]) G):Cl 115 #[.P w 0,(IN ev r4 1).agg,.I 0] h R:=by
 have lH:=aE J;refine kf (ao.cE (x:=IN ev r4 1) λb h1 e1 E M=>ag.cE (x:=ag.S.z) λL P e2 S u=>bo rfl (ao.dZ (u.get E id) ?_));have I:=M.tt u;have z1:=M.1;have z2:=u.1;have lb:=aE E;have f':=aE S;refine kT (x:=IN ev r4 1) (ao.cE λU h3 e3 m A=>⟨_,aj m,bo rfl (ag.gT (x:=r4) (Fq (post:= [.I 1]) m rfl) (ag.fX (x:=r4) λB h4 e' b' F=>⟨_,aj (F.get m id),ay.of λd' hJ=>cF (by simp;exact e4) (aY b' (by show 0<6;omega) λD Z z5 q5=> ?_)⟩))⟩);have C:Fr (λz=>z=B) h4 D:=Fr.of_eq z5 q5;have z3:=A.1;have z4:=F.1;have g':=aE m;have r:Fr No h D:=((I.tt A).tt F).fresh C λz e=>by have:z=B:=e;omega
 have c':=C.get (F.get m id) (by show¬U=B;omega);subst hJ;refine⟨_,aj (r.get T id),ax.gT (x:=ev) (Fq (post:= [.U 0,.I 4,.I 0,.I 0,.U 0,.Z,.I 1]) c' rfl) (ag.dZ (x:=r4) Z (VY (r.get J id) (λG Q a' k=>hr G Q (r.tt a') k) n1 p1 (r2.frame r bD) n2 hd λh6 f6=>⟨_,_,rfl,bo rfl ⟨_,rfl,?_⟩⟩))⟩;have v:Fr (λz=>z=H) P h6:=by
  have:Fr No P D:=(A.tt F).fresh C λz e=>by have:z=B:=e;omega
  exact this.no f6
 refine ag.gT (x:=r4) (Fq (post:= [.I 1]) (v.get (u.get E id) (by show¬b=H;omega)) rfl) (ag.fB (x:=r4) (v.get S (by show¬L=H;omega)) λh7 d7 f7 _=>ag.dZ d7 (hk h7 ((I.no v).nw f7 λz e=>by have:z=L:=e;omega)))
def KQ{D:ao.S}{e:Int}(A:e≠0)(C: ∀G,Fr No h G->R (.T #[ag.S.z.agg,.I e]) G):Cl 115 #[.P w 0,D.agg,.I e] h R:=
 kf (ao.cE (x:=D) λb J E M F=>ag.cE (x:=ag.S.z) λB L I v m=>cF (dQ A) (ag.fB v λu k r _=>ag.dZ k (C u (F.tt m|>.fresh r λz e=>by have:z=B:=e;have:=F.1;omega))))
end zK
end Go.Proofs.YticlajoleibdnaaGreatDoor
