/- One operation of a region, read over abstract values, in a real run / Regions, read over abstract values, in a real run: the order of a region that draws it counts for nothing / Regions that draw their order, with operations of which either may come first: all orders of those are read, one by one / Code and functions, read over abstract values -/
import Derived.Test.YtbhjehpjjbbhbaaBc3
import Derived.RangeFuncWrites
import Derived.RangeFuncLeaves
import Derived.OrdersIn
import Derived.TacticsIn
set_option linter.unusedSimpArgs false
set_option linter.unusedVariables false
namespace Go.Proofs.Ytbhjehpjjbbhbaa
open Go.RowKit

/-- A call, over abstract values: whatever its real arguments and world are, it returns, and what it returns and leaves is as K says. -/
def ACall (P:Program) (f:FuncId) (xs:List AV) (h:List AB) (K:AV → List AB → Prop):Prop :=
 (∃ fn, P.funcs[f]? = some fn ∧ (fn.name == "runtime.NumGoroutine") = false ∧ fn.body.isNone = false) ∧
 ∀ (F:Nat → Prop) (g:GM) (w:World) (vs:Array Value),HOK F g w h → vs.size = xs.length → (∀ (i:Nat) (x:AV),xs[i]? = some x → rep (MM F g h) w x g (vs.getD i undef)) →
  Calls P f vs w fun en w'=>∃ v r h' g',en = .returned v ∧ Tr F g h w g' h' w' ∧ rep (MM F g' h') w' r g' v ∧ K r h'
theorem ACall.mono' (P:Program) {f:FuncId} {xs:List AV} {h:List AB} {K K':AV → List AB → Prop} (hk:∀ r h',K r h' → K' r h') (H:ACall P f xs h K):ACall P f xs h K' :=
 ⟨H.1,fun F g w vs k hs hv=>(H.2 F g w vs k hs hv).mono fun _ _ ⟨v,r,h',g',a,b,c,d⟩=>⟨v,r,h',g',a,b,c,hk _ _ d⟩⟩

/-- All rights; in a round of a loop over a function, or not. -/
def Wd (r:Option Nat):Fence:={ Fence.wide with round:=r }
theorem Wd.calls {r:Option Nat} {m:Nat} {P:Program} {f:FuncId} {vs:Array Value} {w:World} {R:Ending → World → Prop} (h:Calls P f vs w R):CallsIn (Wd r) m P f vs w R:=callsIn_wide (n:=m).2 h
theorem Wd.deep (r:Option Nat) {p:Prop} (h:(Wd r).depth.isSome = true):p:=by simp [Wd,Fence.wide] at h
/-- The arguments of a function that yields: its yield in front of what it has caught, or behind what it is bound to. -/
def argsOf (mv:Bool) (cs:Array Value) (y:Value):Array Value:=match mv with
 | false=>#[y] ++ cs
 | true=>cs ++ #[y]
/-- A function that yields values, over abstract values: it yields those of L, one after another, until a round says no more; it changes nothing itself. -/
def AIterM (mv:Bool) (P:Program) (f:FuncId) (caps:List AV) (L:List (List AV)):Prop :=
 (∃ fn, P.funcs[f]? = some fn ∧ (fn.name == "runtime.NumGoroutine") = false ∧ fn.body.isNone = false) ∧
 ∀ (M:Nat → Prop) (w0:World) (cs:Array Value),cs.size = caps.length → (∀ (i:Nat) (x:AV),caps[i]? = some x → rep M w0 x g0 (cs.getD i undef)) →
 ∀ (l:Nat) (J Jx:Nat → World → Prop) (W:World),Chg M w0 W → (∀ k A B,J k A → Chg (fun _=>False) A B → J k B) → (∀ k A B,Jx k A → Chg (fun _=>False) A B → Jx k B) →
  (∀ k (vs:Array Value) W1,k < L.length → J k W1 → Chg M w0 W1 → vs.size = (L.getD k []).length → (∀ (i:Nat) (x:AV),(L.getD k [])[i]? = some x → rep M W1 x g0 (vs.getD i undef)) →
   YieldAt (Wd none) 0 P l vs W1 fun e W'=>(e = .returned (.bool true) ∧ J (k + 1) W' ∧ Chg M W1 W') ∨ (e = .returned (.bool false) ∧ Jx k W')) →
  J 0 W →
  CallsIn (Wd none) 0 P f (argsOf mv cs (.func (.yield l) #[] #[])) W fun e W'=>(∃ v,e = .returned v) ∧ (J L.length W' ∨ ∃ k,k < L.length ∧ Jx k W')
abbrev AIter (P:Program) (f:FuncId) (caps:List AV) (L:List (List AV)):Prop:=AIterM false P f caps L
def ACalls (P:Program):CallP:=⟨ACall P,fun mv=>AIterM mv P⟩
theorem ACalls.mono (P:Program):CallP.Mono (ACalls P):=fun _ _ _ _ _ hk H=>ACall.mono' P hk H
/-- The marks that loops over functions have left. -/
structure Marks (wS w:World) (ds:List Deferred):Prop where
 ex:∃ Ds:List Nat,ds = Ds.map (fun D=>{ target:=.collected D,args:=#[] }) ∧ Ds.Nodup ∧ ∀ D ∈ Ds,wS.heap.size ≤ D ∧ w.heap[D]? = some (.deferred (some []))
theorem Marks.nil (wS w:World):Marks wS w []:=⟨[],rfl,List.nodup_nil,fun _ h=>by cases h⟩
/-- A block that is none of a call's own. -/
def ofar : Obj → Bool
 | .cells .. | .map .. | .mapIter ..=>false
 | _=>true
theorem ofar_cells {o:Obj} (h:ofar o = true):o.isCells = false:=by cases o <;> first|rfl|cases h
theorem HOK.noMark {F:Nat → Prop} {g:GM} {w:World} {h:List AB} (k:HOK F g w h) {D:Nat} {o:Obj} (ho:w.heap[D]? = some o) (hc:ofar o = true):¬ MO g h D:=by
 rintro ⟨d,cap,⟨x,hx,hl⟩,hg⟩
 cases x with
 | dead=>exact hl
 | box m c=>obtain ⟨cs,t,h1,_⟩:=k.box d m c D cap hx hg;rw [ho] at h1;injection h1 with h1;rw [h1] at hc;cases hc
 | row n sz c=>obtain ⟨_,_,cs,t,h1,_⟩:=k.row d n sz c D cap hx hg;rw [ho] at h1;injection h1 with h1;rw [h1] at hc;cases hc
 | mp kt L=>obtain ⟨es,h1,_⟩:=k.mp d kt L D cap hx hg;rw [ho] at h1;injection h1 with h1;rw [h1] at hc;cases hc
 | mit m n seen=>obtain ⟨_,_,mb,_,h1⟩:=k.mit d m n seen D cap hx hg;rw [ho] at h1;injection h1 with h1;rw [h1] at hc;cases hc
 | rwg n sz c=>obtain ⟨_,_,cs,t,h1,_⟩:=k.rwg d n sz c D cap hx hg;rw [ho] at h1;injection h1 with h1;rw [h1] at hc;cases hc
theorem Marks.tr {F:Nat → Prop} {g g':GM} {h h':List AB} {wS w w':World} {ds:List Deferred} (m:Marks wS w ds) (k:HOK F g w h) (T:Tr F g h w g' h' w'):Marks wS w' ds:=by
 obtain ⟨Ds,h1,h2,h3⟩:=m.ex
 refine ⟨Ds,h1,h2,fun D hD=>⟨(h3 D hD).1,?_⟩⟩
 rw [T.chg.block D (Array.getElem?_eq_some_iff.1 (h3 D hD).2).1 (k.noMark (h3 D hD).2 rfl)]
 exact (h3 D hD).2

/-- A state of a call: what its temporaries and its blocks say, from the state in which it began. -/
structure Rel (F:Nat → Prop) (n:Nat) (gS:GM) (hS:List AB) (wS:World) (e:Env) (h:List AB) (a:Act) (w:World):Prop where
 ex:∃ g,Tr F gS hS wS g h w ∧ ∀ t,rep (MM F g h) w (e t) g (a.tmps.getD t undef)
 dn:Marks wS w a.defers
 sz:a.tmps.size = n
 dm:∀ d p,gS d = some p → d < hS.length

section
variable {rd:Option Nat} {md:Nat} {F:Nat → Prop} {P:Program} {n:Nat} {gS:GM} {hS:List AB} {wS:World} {e:Env} {h:List AB} {a:Act} {w:World}

theorem rep_undef {M:Nat → Prop} {g:GM}:rep M w und g undef:=⟨#[],rfl,rfl,fun i hi=>by omega⟩
theorem rep_eval {M:Nat → Prop} {g:GM} (hv:∀ t,rep M w (e t) g (a.tmps.getD t undef)) (x:Operand):rep M w (AX.ev e (cx x)) g (a.eval x):=by
 cases x with
 | tmp t=>exact hv t
 | const v=>exact rep_ofV M w g v
 | global g=>trivial
 | func f=>exact ⟨#[],rfl,rfl,fun i hi=>by omega⟩
theorem Rel.put {g g':GM} {h':List AB} {w':World} {dst:Option Nat} {r:AV} {u:Value} (T:Tr F gS hS wS g h w) (hv:∀ t,rep (MM F g h) w (e t) g (a.tmps.getD t undef)) (dn:Marks wS w a.defers) (sz:a.tmps.size = n) (dm:∀ d p,gS d = some p → d < hS.length)
  (T2:Tr F g h w g' h' w') (hu:rep (MM F g' h') w' r g' u) (hd:∀ d,dst = some d → d < n):Rel F n gS hS wS (e.put dst r) h' (a.put dst u) w':=by
 refine ⟨⟨g',T.trans T2,fun t=>?_⟩,?_,?_,dm⟩
 ·cases dst with
  | none=>exact T2.hold (hv t)
  | some d =>
   have hdn:=hd d rfl
   simp only [Env.put,Act.put]
   by_cases e1:t = d
   ·subst e1
    rw [if_pos rfl]
    have:(a.tmps.setIfInBounds t u).getD t undef = u:=by simp [sz,hdn]
    rw [this];exact hu
   ·rw [if_neg e1]
    have:(a.tmps.setIfInBounds d u).getD t undef = a.tmps.getD t undef:=by
     simp [Array.getElem?_setIfInBounds_ne (Ne.symm e1)]
    rw [this];exact T2.hold (hv t)
 ·cases dst <;> exact dn.tr T.ok T2
 ·cases dst <;> simp [Act.put,sz]
theorem Rel.drew (hr:Rel F n gS hS wS e h a w):Rel F n gS hS wS e h a { w with drawn:=w.drawn + 1 }:=by
 obtain ⟨⟨g,T,hv⟩,dn,sz,dm⟩:=hr
 have T2:Tr F g h w g h w.drew:=Tr.keep T.ok (Chg.drew _ w)
 exact ⟨⟨g,T.trans T2,fun t=>T2.hold (hv t)⟩,dn.tr T.ok T2,sz,dm⟩

theorem comp_call {op:Op} {f:FuncId} {xs:List AX} (hc:compOp P op = .call f xs):∃ args ats,op = .call ⟨.value (.func f),args,ats⟩ ∧ xs = args.toList.map cx:=by
 cases op <;> simp only [compOp] at hc
 case call c =>
  obtain ⟨callee,args,ats⟩:=c
  cases callee with
  | invoke a b=>cases hc
  | builtin b=>cases b <;> simp only [compCall] at hc <;> (repeat' split at hc) <;> cases hc
  | value x =>
   cases x <;> simp only [compCall] at hc <;> cases hc
   exact ⟨args,ats,rfl,rfl⟩
 case slice t x lo hi m=>cases m <;> simp only at hc <;> (repeat' split at hc) <;> cases hc
 case makeFunc fn first cap=>cases fn <;> simp only at hc <;> (repeat' split at hc) <;> cases hc
 case makeMap t r=>cases r <;> simp only at hc <;> (repeat' split at hc) <;> cases hc
 case next it s=>cases s <;> cases hc
 all_goals first|cases hc|((repeat' split at hc) <;> cases hc)
theorem comp_calv {op:Op} {x:AX} {xs:List AX} (hc:compOp P op = .calv x xs):∃ t args ats,op = .call ⟨.value (.tmp t),args,ats⟩ ∧ x = .t t ∧ xs = args.toList.map cx:=by
 cases op <;> simp only [compOp] at hc
 case call c =>
  obtain ⟨callee,args,ats⟩:=c
  cases callee with
  | invoke a b=>cases hc
  | builtin b=>cases b <;> simp only [compCall] at hc <;> (repeat' split at hc) <;> cases hc
  | value y =>
   cases y <;> simp only [compCall] at hc <;> cases hc
   exact ⟨_,args,ats,rfl,rfl,rfl⟩
 case slice t x lo hi m=>cases m <;> simp only at hc <;> (repeat' split at hc) <;> cases hc
 case makeFunc fn first cap=>cases fn <;> simp only at hc <;> (repeat' split at hc) <;> cases hc
 case makeMap t r=>cases r <;> simp only at hc <;> (repeat' split at hc) <;> cases hc
 case next it s=>cases s <;> cases hc
 all_goals first|cases hc|((repeat' split at hc) <;> cases hc)
theorem comp_nxt {op:Op} {x:AX} (hc:compOp P op = .nxt x):∃ it,op = .next it false ∧ x = cx it:=by
 cases op <;> simp only [compOp] at hc
 case next it s =>
  cases s
  ·simp only [AOp.nxt.injEq] at hc
   exact ⟨it,rfl,hc.symm⟩
  ·cases hc
 case call c =>
  obtain ⟨callee,args,ats⟩:=c
  simp only [compCall] at hc
  (repeat' split at hc) <;> cases hc
 case slice t x lo hi m=>cases m <;> simp only at hc <;> (repeat' split at hc) <;> cases hc
 case makeFunc fn first cap=>cases fn <;> simp only at hc <;> (repeat' split at hc) <;> cases hc
 case makeMap t r=>cases r <;> simp only at hc <;> (repeat' split at hc) <;> cases hc
 all_goals first|cases hc|((repeat' split at hc) <;> cases hc)
theorem comp_app {op:Op} {sz b:Nat} {x y:AX} (hc:compOp P op = .app sz b x y):∃ t args ats el i zs x0 y0,op = .call ⟨.builtin .append,args,ats⟩ ∧ args.toList = [x0,y0] ∧ ats.toList = [t,t] ∧ tyEl P t = some (el,i) ∧ zcells i = some zs ∧ sz = i.size ∧ b = i.bytes ∧ x = cx x0 ∧ y = cx y0:=by
 cases op <;> simp only [compOp] at hc
 case call c =>
  obtain ⟨callee,args,ats⟩:=c
  cases callee with
  | invoke a b=>cases hc
  | value y=>cases y <;> simp only [compCall] at hc <;> cases hc
  | builtin b =>
   cases b <;> simp only [compCall] at hc
   case append =>
    split at hc
    ·rename_i x0 y0 t t' hl hat
     split at hc
     ·rename_i htt
      subst htt
      split at hc
      ·rename_i el i ht
       split at hc
       ·rename_i zs hz
        cases hc
        exact ⟨t,args,ats,el,i,zs,x0,y0,rfl,hl,hat,ht,hz,rfl,rfl,rfl,rfl⟩
       ·cases hc
      ·cases hc
     ·cases hc
    ·cases hc
   all_goals first|cases hc|((repeat' split at hc) <;> cases hc)
 case slice t x lo hi m=>cases m <;> simp only at hc <;> (repeat' split at hc) <;> cases hc
 case makeFunc fn first cap=>cases fn <;> simp only at hc <;> (repeat' split at hc) <;> cases hc
 case makeMap t r=>cases r <;> simp only at hc <;> (repeat' split at hc) <;> cases hc
 case next it s=>cases s <;> cases hc
 all_goals first|cases hc|((repeat' split at hc) <;> cases hc)

theorem enter_run {f : FuncId} {fn : Func} {vs : Array Value} (hf : P.funcs[f]? = some fn) (hn : (fn.name == "runtime.NumGoroutine") = false) (hb : fn.body.isNone = false) : (callFunc f vs).run P w = .ok (.enter f vs) w := by
 have hn' : ¬ (fn.name == "runtime.NumGoroutine") = true := by rw [hn]; simp
 have hb':¬ fn.body.isNone = true:=by rw [hb];simp
 simp only [callFunc,program,bind,Sem.bind,Sem.run,hf,if_neg hn',if_neg hb']
 rfl

theorem step_ok (o:Oper) {K:AV → List AB → Prop} {Kr:Act → World → Prop} {Q:Exit → Act → World → Prop} (hd:∀ d,o.dst = some d → d < n) (hr:Rel F n gS hS wS e h a w)
  (hK:∀ r h' a' w',K r h' → Rel F n gS hS wS (e.put o.dst r) h' a' w' → Kr a' w') (H:astep (ACalls P) (compOp P o.op) e h K):o.wpIn (Wd rd) md P a w Kr Q:=by
 have hnd:∀ c,o.op ≠ .defer c:=fun c hc=>by rw [hc] at H;exact H.elim
 have semA:∀ ρ,o.semAt (Wd rd).round ρ = execOp ρ o:=fun ρ=>by
  show o.semAt rd ρ = _
  cases rd with
  | none=>simp [Oper.semAt]
  | some l=>exact Oper.semAt_some l _ _ hnd
 obtain ⟨⟨g,T,hv⟩,dn,sz,dm⟩:=hr
 have he:=fun x=>rep_eval hv x
 have plain:aop (compOp P o.op) (AX.ev e) h K → o.wpIn (Wd rd) md P a w Kr Q:=fun H=>by
  obtain ⟨r,h',h1,h2⟩:=aop_one _ _ _ _ H
  obtain ⟨u,w',g',hrun,hu,T2⟩:=aop_ok o T.ok he (fun v=>rfl) h1
  have R:=fun d=>Rel.put (dst:=o.dst) T hv dn sz dm T2 hu d
  rcases hrun with hrun|⟨hrun,rfl⟩
  ·refine ⟨fun _ _=>trivial,?_⟩
   simp only [semA,hrun,Oper.uponIn]
   exact hK _ _ _ _ h2 (R hd)
  ·refine ⟨fun _ _=>trivial,?_⟩
   simp only [semA,hrun,Oper.uponIn]
   exact hK _ _ _ _ h2 (R hd)
 have enter:∀ (f:FuncId) (xs:List AV) (vs:Array Value),(execOp a.eval o).run P w = (callFunc f vs).run P w → vs.size = xs.length → (∀ (i:Nat) (x:AV),xs[i]? = some x → rep (MM F g h) w x g (vs.getD i undef)) → ACall P f xs h K → o.wpIn (Wd rd) md P a w Kr Q:=fun f xs vs hrun hs hx H=>by
  obtain ⟨⟨fn,h1,h2,h3⟩,H⟩:=H
  refine ⟨fun _ _=>trivial,?_⟩
  simp only [semA,hrun,enter_run h1 h2 h3,Oper.uponIn]
  refine ⟨fun hh=>Wd.deep rd hh,Wd.calls ((H F g w vs T.ok hs hx).mono ?_)⟩
  rintro en w' ⟨v,r,h',g',rfl,T2,hu,hk⟩
  exact hK _ _ _ _ hk (Rel.put T hv dn sz dm T2 hu hd)
 have args_ok:∀ (args:Array Operand) (i:Nat) (x:AV),((args.toList.map cx).map (AX.ev e))[i]? = some x → rep (MM F g h) w x g ((args.map a.eval).getD i undef):=fun args i x hx=>by
  rw [List.map_map,List.getElem?_map] at hx
  cases ha:args.toList[i]? with
  | none=>rw [ha] at hx;cases hx
  | some y =>
   rw [ha] at hx
   injection hx with hx
   subst hx
   have ha':args[i]? = some y:=by simpa using ha
   have:(args.map a.eval).getD i undef = a.eval y:=by simp [ha']
   rw [this]
   exact he y
 cases hc:compOp P o.op
 case call f xs =>
  obtain ⟨args,ats,hop,rfl⟩:=comp_call hc
  rw [hc] at H
  refine enter f _ (args.map a.eval) ?_ (by simp) (args_ok args) H
  simp only [execOp,hop,resolve,Deferred.ofValue,Act.eval,Sem.run_bind,Sem.run_pure,Result.andThen_ok,invoke,Array.empty_append,Array.append_empty]
 case calv x xs =>
  obtain ⟨t,args,ats,hop,rfl,rfl⟩:=comp_calv hc
  rw [hc] at H
  simp only [astep,AX.ev] at H
  have ht:=he (.tmp t)
  simp only [cx,AX.ev] at ht
  generalize e t = v at H ht
  cases v <;> simp only at H
  rename_i f m c
  obtain ⟨cs,h1,h2,h3⟩:=ht
  refine enter f _ (args.map a.eval ++ cs) ?_ (by simp [h2]) (fun i x hx=>?_) H
  ·have h1':a.eval (.tmp t) = .func (.func f) #[] cs:=h1
   simp only [execOp,hop,resolve,h1',Deferred.ofValue,Sem.run_bind,Sem.run_pure,Result.andThen_ok,invoke,Array.empty_append]
  ·rcases Nat.lt_or_ge i args.size with hi|hi
   ·rw [List.getElem?_append_left (by simpa using hi)] at hx
    have:=args_ok args i x hx
    have e1:(args.map a.eval ++ cs).getD i undef = (args.map a.eval).getD i undef:=by
     simp [Array.getElem?_append_left (xs:=args.map a.eval) (ys:=cs) (i:=i) (by simpa using hi)]
    rw [e1];exact this
   ·rw [List.getElem?_append_right (by simpa using hi)] at hx
    simp only [List.length_map,Array.length_toList] at hx
    rw [List.getElem?_map] at hx
    have hlt:i - args.size < m:=by
     rcases Nat.lt_or_ge (i - args.size) m with h'|h'
     ·exact h'
     ·rw [List.getElem?_eq_none (by simpa using h')] at hx;cases hx
    rw [List.getElem?_range hlt] at hx
    injection hx with hx
    subst hx
    obtain ⟨u,hu,hrep⟩:=h3 _ hlt
    have e1:(args.map a.eval ++ cs).getD i undef = u:=by
     have:(args.map a.eval ++ cs)[i]? = some u:=by
      rw [Array.getElem?_append_right (by simpa using hi)]
      simpa using hu
     simp [this]
    rw [e1];exact hrep
 case nxt x =>
  obtain ⟨it,hop,rfl⟩:=comp_nxt hc
  rw [hc] at H
  obtain ⟨r,h',u',w',g',hk,hrun,hu,T2⟩:=val_nxt (P:=P) (ty:=o.type) T.ok (he it) H
  have hex:(execOp a.eval o).run P w = .ok (.value u') w':=by
   simp only [execOp,hop]
   simp [hrun]
  refine ⟨fun _ _=>trivial,?_⟩
  simp only [semA,hex,Oper.uponIn]
  exact hK _ _ _ _ hk (Rel.put T hv dn sz dm T2 hu hd)
 case app sz' b x y =>
  rw [hc] at H
  rcases H with H|H
  ·exact plain (by rw [hc];exact H)
  ·obtain ⟨t,args,ats,el,i,zs,x0,y0,hop,hl,hat,ht,hz,rfl,rfl,rfl,rfl⟩:=comp_app hc
   have H':asplit (.app i.size i.bytes (.k (AX.ev e (cx x0))) (.k (AX.ev e (cx y0)))) (fun x=>x.ev (fun _=>.bot)) h K:=H
   obtain ⟨r,h',u',w',g',hk,hrun,hu,T2⟩:=val_split (P:=P) (ty:=o.type) T.ok ht hz (he x0) (he y0) H'
   have ha:args.map a.eval = #[a.eval x0,a.eval y0]:=by
    apply Array.ext'
    simp [hl]
   have hats:ats = #[t,t]:=by
    apply Array.ext'
    simp [hat]
   have hex:(execOp a.eval o).run P w = .ok (.value u') w':=by
    simp only [execOp,hop,resolve,Sem.run_bind,Sem.run_pure,Result.andThen_ok,invoke,ha,hats]
    have:∀ cs,(builtin Builtin.append #[t,t] o.type cs #[a.eval x0,a.eval y0]) = (do pure (.value (← Builtin.append_ #[t,t] o.type #[a.eval x0,a.eval y0]))):=fun _=>rfl
    rw [this]
    simp [hrun]
   refine ⟨fun _ _=>trivial,?_⟩
   simp only [semA,hex,Oper.uponIn]
   exact hK _ _ _ _ hk (Rel.put T hv dn sz dm T2 hu hd)
 all_goals
  rw [hc] at H
  exact plain (by rw [hc];exact H)

/-- From a region's operations to their readings. -/
def compAO (P:Program) (n:Nat) (ops:Array Oper) (o:Oper):Option AO :=
 if o.dst.all (fun d=>decide (d < n)) = true then
  match o.guard with
  | none=>some ⟨o.dst,compOp P o.op,none⟩
  | some (j,b)=>match (ops[j]?).bind (·.dst) with
   | some t=>some ⟨o.dst,compOp P o.op,some (t,b)⟩
   | none=>none
 else none
theorem gstep_ok {ops:Array Oper} {i:Nat} {o:Oper} {x:AO} (hi:ops[i]? = some o) (hx:compAO P n ops o = some x) {K:AV → List AB → Prop} {Kr:Act → World → Prop} {Q:Exit → Act → World → Prop} (hr:Rel F n gS hS wS e h a w)
  (hK:∀ r h' a' w',K r h' → Rel F n gS hS wS (e.put x.dst r) h' a' w' → Kr a' w') (H:gstep (ACalls P) x e h K):wpOpIn (Wd rd) md P ops Q i Kr a w:=by
 unfold compAO at hx
 split at hx
 case isFalse=>cases hx
 rename_i hdn
 have hd:∀ d,o.dst = some d → d < n:=fun d he=>by rw [he] at hdn;simpa using hdn
 have skip:K und h → ∀ dst,dst = o.dst → x.dst = dst → Kr (a.put dst undef) w:=fun hk dst e1 e2=>by
  obtain ⟨⟨g,T,hv⟩,dn,sz,dm⟩:=hr
  refine hK _ _ _ _ hk ?_
  rw [e2]
  exact Rel.put T hv dn sz dm (Tr.refl T.ok) rep_undef (fun d he=>hd d (by rw [← e1];exact he))
 unfold wpOpIn
 simp only [hi]
 unfold gstep at H
 split at hx
 ·rename_i hg
  injection hx with hx
  subst hx
  simp only [Region.wanted,hg,if_true]
  exact step_ok o hd hr hK H
 ·rename_i j b hg
  split at hx
  ·rename_i t ht
   injection hx with hx
   subst hx
   simp only [Region.wanted,hg]
   simp only at H
   have hrt:∃ g,rep (MM F g h) w (e t) g (a.tmps.getD t undef):=hr.ex.elim fun g hh=>⟨g,hh.2 t⟩
   obtain ⟨g,hrt⟩:=hrt
   generalize e t = v at H hrt
   split at H
   ·rename_i q
    have hq:a.tmps.getD t undef = .bool q:=hrt
    have hq':a.tmps[t]? = some (.bool q):=by
     cases hh:a.tmps[t]? with
     | none=>simp [hh,undef] at hq
     | some y=>simp [hh] at hq;rw [hq]
    have hy:yielded ops a.tmps j = some q:=by simp [yielded,ht,hq']
    rw [hy]
    rcases acond_e H with ⟨h1,h2⟩|⟨h1,h2⟩
    ·have:(some q == some b) = true:=by simpa using h1
     rw [this,if_pos rfl]
     exact step_ok o hd hr hK h2
    ·have:(some q == some b) = false:=by simpa using h1
     rw [this]
     simp only [Bool.false_eq_true,if_false]
     exact ⟨fun _ _=>trivial,skip h2 o.dst rfl rfl⟩
   ·obtain ⟨cs,h1,h2,_⟩:=hrt
    have hcs:cs = #[]:=Array.eq_empty_of_size_eq_zero h2
    subst hcs
    have hy:yielded ops a.tmps j = none:=by
     unfold yielded
     rw [ht]
     simp only [Option.bind_some]
     cases hh:a.tmps[t]? with
     | none=>rfl
     | some y=>simp [hh] at h1;rw [h1]
    rw [hy]
    have:((none:Option Bool) == some b) = false:=rfl
    rw [this]
    simp only [Bool.false_eq_true,if_false]
    exact ⟨fun _ _=>trivial,skip H o.dst rfl rfl⟩
   ·exact H.elim
  ·cases hx
end
end Go.Proofs.Ytbhjehpjjbbhbaa

namespace Go.Proofs.Ytbhjehpjjbbhbaa
open Go.RowKit

def watp (C:CallP) (o:AO) (e:Env) (h:List AB):Prop:=match o.dst with
 | some d=>gstep C o e h (fun v _=>v = e d)
 | none=>True
theorem wat_of {C:CallP} {o:AO} {e:Env} {h:List AB} (H:watp C o e h):wat C o e h:=fun d hd=>by
 unfold watp at H
 rw [hd] at H
 exact H
def wats (C:CallP) (ws:List AO) (e:Env) (h:List AB) (p:Prop):Prop:=match ws with
 | []=>p
 | o :: ws=>watp C o e h ∧ wats C ws e h p
theorem wats_e {C:CallP} {e:Env} {h:List AB} {p:Prop}:∀ {ws:List AO},wats C ws e h p → (∀ o ∈ ws,watp C o e h) ∧ p
 | [],H=>⟨fun o ho=>(by cases ho),H⟩
 | _ :: _,H=>⟨fun x hx=>(by
   rcases List.mem_cons.1 hx with rfl|hx
   ·exact H.1
   ·exact (wats_e H.2).1 x hx),(wats_e H.2).2⟩
/-- The operations of a region, one behind another. -/
def aregs (C:CallP) (l:List (AO × List AO)) (Q:Env → List AB → Prop) (e:Env) (h:List AB):Prop :=
 match l with
 | []=>Q e h
 | (o,ws) :: rest=>gstep C o e h (fun r h'=>wats C ws e h' (aregs C rest Q (e.put o.dst r) h'))
theorem arun_of {C:CallP} (hC:C.Mono) {ao:Nat → AO} {W:Nat → List Nat} {Q:Env → List AB → Prop}:∀ (L:List Nat) (D:Nat → Prop) {e:Env} {h:List AB},aregs C (L.map fun i=>(ao i,(W i).map ao)) Q e h → arun C ao W L D Q e h
 | [],_,_,_,H=>H
 | _ :: L,_,_,_,H=>gstep_mono hC (fun _ _ hh=>⟨fun j hj _=>wat_of ((wats_e hh).1 _ (List.mem_map.2 ⟨j,hj,rfl⟩)),arun_of hC L _ (wats_e hh).2⟩) H

def cloB (b:Array Nat) (i j:Nat):Bool:=(b.getD i 0).testBit j
def cloOK (ops:Array Oper) (b:Array Nat):Bool :=
 (List.range ops.size).all fun i=>!cloB b i i && match ops[i]? with
  | some o=>(o.after.toList.all fun x=>!Region.binds .any x || (decide (x.on < ops.size) && cloB b i x.on)) &&
    (List.range ops.size).all fun j=>!cloB b i j || o.after.toList.any fun x=>Region.binds .any x && (x.on == j || cloB b x.on j)
  | none=>false
def touchB (ao:Nat → AO) (k j:Nat):Bool:=match (ao j).dst with
 | none=>false
 | some d=>(ao k).looks.contains d || (ao k).dst == some d
def stillB (N:Nat) (ao:Nat → AO) (W:Nat → List Nat) (clo:Nat → Nat → Bool):Bool :=
 (List.range N).all fun k=>((ao k).op.chg || (W k).isEmpty) && ((List.range N).all fun j=>k == j || !touchB ao k j || clo k j || clo j k) &&
  (W k).all fun l=>(List.range N).all fun j=>match l == j with
   | true=>(match (ao j).dst with
    | none=>true
    | some d=>!(ao j).looks.contains d)
   | false=>clo l j || !touchB ao l j
def pairB (ao:Nat → AO) (W:Nat → List Nat) (clo:Nat → Nat → Bool) (j i:Nat):Bool :=
 j != i && !clo j i && (!(ao j).op.chg || clo i j) && (!(ao i).op.chg || !(ao j).op.rds || clo i j || ((W i).contains j && (ao j).dst.isSome))
def pairsB (ao:Nat → AO) (W:Nat → List Nat) (clo:Nat → Nat → Bool):List Nat → Bool
 | []=>true
 | j :: l=>l.all (pairB ao W clo j) && pairsB ao W clo l
/-- A region's operations in the order of a hint (none: as they stand), each with the looks that it must not spoil. -/
abbrev Hint := List (Nat × List Nat)
def compReg (P:Program) (n:Nat) (ops:Array Oper) (hint:Option Hint):Option (List (AO × List AO)) :=
 match ops.toList.mapM (compAO P n ops) with
 | none=>none
 | some l=>match hint with
  | some L=>some (L.map fun p=>(l.getD p.1 default,p.2.map fun j=>l.getD j default))
  | none=>some (l.map fun x=>(x,[]))
def watchOf (L:Hint) (i:Nat):List Nat:=match L.find? (·.1 == i) with
 | some p=>p.2
 | none=>[]
def okReg (P:Program) (n:Nat) (ops:Array Oper) (draw:Bool) (hint:Option Hint):Bool :=
 match draw,hint with
 | false,none=>true
 | false,some _=>false
 | true,hint =>
  match ops.toList.mapM (compAO P n ops) with
  | none=>false
  | some l =>
   let ao:=fun i=>l.getD i default
   let b:=Region.before ops
   let H:=hint.getD ((List.range ops.size).map fun i=>(i,[]))
   let L:=H.map (·.1)
   let W:=watchOf H
   cloOK ops b && L.length == ops.size && (List.range ops.size).all (L.contains ·) && L.all (decide <| · < ops.size) && (H.all fun p=>p.2.all (decide <| · < ops.size)) && stillB ops.size ao W (cloB b) && pairsB ao W (cloB b) L

theorem touch_no {ao:Nat → AO} {k j d:Nat} (h:touchB ao k j = false) (hd:(ao j).dst = some d):d ∉ (ao k).looks ∧ (ao k).dst ≠ some d:=by
 unfold touchB at h
 rw [hd] at h
 simp only [Bool.or_eq_false_iff,List.contains_eq_mem,decide_eq_false_iff_not,beq_eq_false_iff_ne,ne_eq] at h
 exact h
theorem still_of {N:Nat} {ao:Nat → AO} {W:Nat → List Nat} {clo:Nat → Nat → Bool} (hW:∀ i,∀ k ∈ W i,k < N) (H:stillB N ao W clo = true):Still ao W (fun i j=>clo i j = true) N:=by
 simp only [stillB,List.all_eq_true,List.mem_range,Bool.and_eq_true,Bool.or_eq_true,beq_iff_eq,Bool.not_eq_true'] at H
 refine ⟨fun k j hk hj hne hc hc' d hd=>?_,fun i k j hi hk hj hne hc d hd=>?_,fun i j hi hj d hd=>?_,fun j hj hc=>?_⟩
 ·rcases (H k hk).1.2 j hj with ((h1|h1)|h1)|h1
  ·exact (hne h1).elim
  ·exact touch_no h1 hd
  ·exact (hc h1).elim
  ·exact (hc' h1).elim
 ·have:=(H i hi).2 k hk j hj
  have hb:(k == j) = false:=by simpa using hne
  rw [hb] at this
  simp only [Bool.or_eq_true,Bool.not_eq_true'] at this
  rcases this with h1|h1
  ·exact (hc h1).elim
  ·exact touch_no h1 hd
 ·have:=(H i hi).2 j hj j (hW i j hj)
  have hb:(j == j) = true:=by simp
  rw [hb] at this
  simp only [hd,Bool.not_eq_true'] at this
  simpa using this
 ·rcases (H j hj).1.1 with h1|h1
  ·rw [hc] at h1;cases h1
  ·simpa using h1
theorem pairs_of {ao:Nat → AO} {W:Nat → List Nat} {clo:Nat → Nat → Bool}:∀ {L:List Nat},pairsB ao W clo L = true → L.Pairwise (Pair ao W (fun i j=>clo i j = true))
 | [],_=>List.Pairwise.nil
 | j :: L,H=>by
  simp only [pairsB,Bool.and_eq_true,List.all_eq_true] at H
  refine List.Pairwise.cons (fun i hi=>?_) (pairs_of H.2)
  have:=H.1 i hi
  simp only [pairB,Bool.and_eq_true,Bool.or_eq_true,bne_iff_ne,ne_eq,Bool.not_eq_true',List.contains_iff_mem] at this
  obtain ⟨⟨⟨h1,h2⟩,h3⟩,h4⟩:=this
  refine ⟨h1,by simp [h2],fun hc=>?_,fun hi hj hn=>?_⟩
  ·rcases h3 with h3|h3
   ·rw [hc] at h3;cases h3
   ·exact h3
  ·rcases h4 with ((h4|h4)|h4)|h4
   ·rw [hi] at h4;cases h4
   ·rw [hj] at h4;cases h4
   ·exact (hn h4).elim
   ·exact ⟨h4.1,fun e=>by rw [e] at h4;simp at h4⟩

section
variable {rd:Option Nat} {md:Nat} {F:Nat → Prop} {P:Program} {n:Nat} {gS:GM} {hS:List AB} {wS:World}
theorem mapM_get {ops:Array Oper} {f:Oper → Option AO} {l:List AO} (h:ops.toList.mapM f = some l):∀ (i:Nat) (o:Oper),ops[i]? = some o → ∃ x,l[i]? = some x ∧ f o = some x:=by
 have key:∀ (xs:List Oper) (l:List AO),xs.mapM f = some l → ∀ (i:Nat) (o:Oper),xs[i]? = some o → ∃ x,l[i]? = some x ∧ f o = some x:=by
  intro xs
  induction xs with
  | nil=>intro l _ i o h;simp at h
  | cons y ys ih =>
   intro l hl i o hi
   rw [List.mapM_cons] at hl
   cases hy:f y with
   | none=>rw [hy] at hl;cases hl
   | some z =>
    rw [hy] at hl
    cases hys:ys.mapM f with
    | none=>rw [hys] at hl;cases hl
    | some zs =>
     rw [hys] at hl
     injection hl with hl
     subst hl
     cases i with
     | zero=>simp at hi;subst hi;exact ⟨z,rfl,hy⟩
     | succ i=>exact ih zs hys i o hi
 intro i o hi
 exact key ops.toList l h i o (by simpa using hi)

theorem mapM_len {ops:Array Oper} {f:Oper → Option AO} {l:List AO} (h:ops.toList.mapM f = some l):l.length = ops.toList.length:=by
 have key:∀ (xs:List Oper) (l:List AO),xs.mapM f = some l → l.length = xs.length:=by
  intro xs
  induction xs with
  | nil=>intro l h;simp at h;subst h;rfl
  | cons y ys ih =>
   intro l hl
   rw [List.mapM_cons] at hl
   cases hy:f y with
   | none=>rw [hy] at hl;cases hl
   | some z =>
    rw [hy] at hl
    cases hys:ys.mapM f with
    | none=>rw [hys] at hl;cases hl
    | some zs =>
     rw [hys] at hl
     injection hl with hl
     subst hl
     simp [ih zs hys]
 exact key _ _ h
theorem plain_ok {ops:Array Oper} {ao:Nat → AO} (hao:∀ (i:Nat) (o:Oper),ops[i]? = some o → compAO P n ops o = some (ao i)) {Q':Env → List AB → Prop} {Q:Exit → Act → World → Prop} (hQ:∀ e h a w,Q' e h → Rel F n gS hS wS e h a w → Q .normal a w) :
  ∀ (L:List Nat) (e:Env) (h:List AB) (a:Act) (w:World),(∀ i ∈ L,i < ops.size) → Rel F n gS hS wS e h a w → aregs (ACalls P) (L.map fun i=>(ao i,[])) Q' e h → wpOpsIn (Wd rd) md P ops Q L a w
 | [],e,h,a,w,_,hr,H=>hQ e h a w H hr
 | i :: L,e,h,a,w,hL,hr,H=>by
  rw [wpOpsIn_cons]
  have hi:=hL i List.mem_cons_self
  exact gstep_ok (Array.getElem?_eq_getElem hi) (hao i _ (Array.getElem?_eq_getElem hi)) hr (fun r h' a' w' hk hr'=>plain_ok hao hQ L _ _ _ _ (fun j hj=>hL j (List.mem_cons_of_mem _ hj)) hr' hk) H

theorem any_ok {ops:Array Oper} {ao:Nat → AO} (hao:∀ (i:Nat) (o:Oper),ops[i]? = some o → compAO P n ops o = some (ao i)) {W:Nat → List Nat} {b:Array Nat} (hb:cloOK ops b = true) (S:Still ao W (fun i j=>cloB b i j = true) ops.size)
  {Q':Env → List AB → Prop} {Q:Exit → Act → World → Prop} (hQ:∀ e h a w,Q' e h → Rel F n gS hS wS e h a w → Q .normal a w) :
  ∀ (fuel:Nat) (R:List Nat) (listed:Array Bool) (e:Env) (h:List AB) (a:Act) (w:World),R.length = fuel → listed.size = ops.size → (∀ j,j ∈ R ↔ j < ops.size ∧ listed.getD j false = false) → R.Pairwise (Pair ao W (fun i j=>cloB b i j = true)) →
   (∀ k j,j < ops.size → listed.getD k false = true → cloB b k j = true → listed.getD j false = true) → Rel F n gS hS wS e h a w → arun (ACalls P) ao W R (fun k=>listed.getD k false = true) Q' e h → wpAnyIn (Wd rd) md P .any ops Q fuel listed a w:=by
 have hgt:∀ (listed:Array Bool) (j:Nat),listed.size = ops.size → j < ops.size → listed.getD j true = listed.getD j false:=fun listed j hs hj=>by
  have:j < listed.size:=by omega
  simp [this]
 simp only [cloOK,List.all_eq_true,List.mem_range,Bool.and_eq_true,Bool.not_eq_true'] at hb
 have hcl:∀ (i:Nat) (o:Oper),ops[i]? = some o → cloB b i i = false ∧ (∀ x ∈ o.after,Region.binds .any x = true → x.on < ops.size ∧ cloB b i x.on = true) ∧ ∀ j,j < ops.size → cloB b i j = true → ∃ x ∈ o.after,Region.binds .any x = true ∧ (x.on = j ∨ cloB b x.on j = true):=fun i o ho=>by
  have hi:i < ops.size:=by
   rcases Nat.lt_or_ge i ops.size with h|h
   ·exact h
   ·rw [Array.getElem?_eq_none h] at ho;cases ho
  have:=hb i hi
  rw [ho] at this
  simp only [List.all_eq_true,Bool.and_eq_true,Bool.or_eq_true,Bool.not_eq_true',decide_eq_true_eq,List.any_eq_true,beq_iff_eq,Array.mem_toList_iff,List.mem_range] at this
  refine ⟨this.1,fun x hx hbx=>?_,fun j hj hc=>?_⟩
  ·rcases this.2.1 x hx with h|h
   ·rw [hbx] at h;cases h
   ·exact h
  ·rcases this.2.2 j hj with h|h
   ·rw [hc] at h;cases h
   ·obtain ⟨x,hx,h1,h2⟩:=h
    exact ⟨x,hx,h1,h2⟩
 intro fuel
 induction fuel with
 | zero =>
  intro R listed e h a w hR hs hm hp hclo hr H
  obtain rfl:=List.eq_nil_of_length_eq_zero hR
  refine ⟨?_,hQ e h a w H hr⟩
  rw [List.eq_nil_iff_forall_not_mem]
  intro j hj
  obtain ⟨h1,o,ho,_⟩:=mem_ready.1 hj
  have hjl:j < ops.size:=by
   rcases Nat.lt_or_ge j ops.size with h|h
   ·exact h
   ·rw [Array.getElem?_eq_none h] at ho;cases ho
  have:=(hm j).2 ⟨hjl,by rw [← hgt listed j hs hjl];exact h1⟩
  cases this
 | succ fuel ih =>
  intro R listed e h a w hR hs hm hp hclo hr H
  refine ⟨fun hno=>?_,fun i hi=>?_⟩
  ·cases R with
   | nil=>simp at hR
   | cons i0 R =>
    have h0:=(hm i0).1 List.mem_cons_self
    have ho:ops[i0]? = some ops[i0]:=Array.getElem?_eq_getElem h0.1
    have hc:=hcl i0 _ ho
    have:i0 ∈ Region.ready .any ops listed:=mem_ready.2 ⟨by rw [hgt listed i0 hs h0.1];exact h0.2,_,ho,fun x hx hbx=>by
     obtain ⟨h1,h2⟩:=hc.2.1 x hx hbx
     cases hl:listed.getD x.on false with
     | true=>rfl
     | false =>
      rcases List.mem_cons.1 ((hm x.on).2 ⟨h1,hl⟩) with e1|e1
      ·rw [e1,hc.1] at h2;cases h2
      ·exact ((List.pairwise_cons.1 hp).1 _ e1).2.1 h2 |>.elim⟩
    rw [hno] at this
    cases this
  ·obtain ⟨h1,o,ho,hed⟩:=mem_ready.1 hi
   have hil:i < ops.size:=by
    rcases Nat.lt_or_ge i ops.size with h|h
    ·exact h
    ·rw [Array.getElem?_eq_none h] at ho;cases ho
   have hiR:=(hm i).2 ⟨hil,by rw [← hgt listed i hs hil];exact h1⟩
   obtain ⟨pre,rest,rfl⟩:=List.append_of_mem hiR
   have hc:=hcl i o ho
   rw [List.pairwise_append] at hp
   obtain ⟨p1,p2,p3⟩:=hp
   have preR:∀ j ∈ pre,j < ops.size ∧ listed.getD j false = false:=fun j hj=>(hm j).1 (List.mem_append_left _ hj)
   have hij:∀ j ∈ pre,¬ cloB b i j = true:=fun j hj hcj=>by
    obtain ⟨x,hx,hbx,hxj⟩:=hc.2.2 j (preR j hj).1 hcj
    have hlx:=hed x hx hbx
    have:listed.getD j false = true:=by
     rcases hxj with rfl|hxj
     ·exact hlx
     ·exact hclo _ _ (preR j hj).1 hlx hxj
    rw [(preR j hj).2] at this
    cases this
   have hDN:∀ k,listed.getD k false = true → k < ops.size:=fun k hk=>by
    rcases Nat.lt_or_ge k ops.size with h|h
    ·exact h
    ·have:listed.size ≤ k:=by omega
     simp [Array.getElem?_eq_none this] at hk
   have G:=pull (ACalls.mono P) S hil rest Q' pre (fun k=>listed.getD k false = true) e h (fun j hj=>(preR j hj).1) hDN p1 (fun j hj=>⟨p3 j hj i List.mem_cons_self,hij j hj⟩)
    (fun k hk j hj=>⟨fun hkj=>(by have:=hclo k j (preR j hj).1 hk hkj;rw [(preR j hj).2] at this;cases this),fun e1=>(by subst e1;rw [(preR k hj).2] at hk;cases hk)⟩) H
   refine gstep_ok ho (hao i o ho) hr (fun r h' a' w' hk hr'=>?_) G
   have getne:∀ j,j ≠ i → (listed.setIfInBounds i true).getD j false = listed.getD j false:=fun j hj=>getD_set_ne false (Ne.symm hj)
   have geteq:(listed.setIfInBounds i true).getD i false = true:=by
    have:i < listed.size:=by omega
    simp [this]
   have hnd:i ∉ pre ++ rest:=fun hmem=>by
    rcases List.mem_append.1 hmem with h|h
    ·exact (p3 i h i List.mem_cons_self).1 rfl
    ·exact ((List.pairwise_cons.1 p2).1 i h).1 rfl
   refine ih (pre ++ rest) (listed.setIfInBounds i true) _ _ _ _ (by simp at hR ⊢;omega) (by simp [hs]) (fun j=>?_) ?_ (fun k j hjs hk hkj=>?_) hr' (arun_anti (ACalls.mono P) _ (fun k hk=>?_) hk.2)
   ·by_cases e1:j = i
    ·subst e1
     rw [geteq]
     simp [hnd]
    ·rw [getne j e1,← hm j]
     simp [e1]
   ·rw [List.pairwise_append]
    exact ⟨p1,(List.pairwise_cons.1 p2).2,fun x hx y hy=>p3 x hx y (List.mem_cons_of_mem _ hy)⟩
   ·by_cases e2:j = i
    ·subst e2;exact geteq
    ·rw [getne j e2]
     by_cases e1:k = i
     ·subst e1
      obtain ⟨x,hx,hbx,hxj⟩:=hc.2.2 j hjs hkj
      have hlx:=hed x hx hbx
      rcases hxj with rfl|hxj
      ·exact hlx
      ·exact hclo _ _ hjs hlx hxj
     ·rw [getne k e1] at hk
      exact hclo k j hjs hk hkj
   ·by_cases e1:k = i
    ·exact .inl e1
    ·rw [getne k e1] at hk
     exact .inr hk
end
end Go.Proofs.Ytbhjehpjjbbhbaa

namespace Go.Proofs.Ytbhjehpjjbbhbaa
open Go.RowKit

/-- What may come next: one operation and the quiet ones behind it, then what may come next; or another one. -/
inductive HT where
 | leaf
 | alt (c:Nat) (qs:List Nat) (sub next:HT)
 deriving Inhabited
def HT.ops : HT → List Nat
 | .leaf=>[]
 | .alt c qs sub _=>c :: (qs ++ sub.ops)
def HT.heads : HT → List Nat
 | .leaf=>[]
 | .alt c _ _ next=>c :: next.heads
structure THint where
 qs:List Nat
 t:HT
 w:Hint
 deriving Inhabited
def nodB : List Nat → Bool
 | []=>true
 | x :: xs=>!xs.contains x && nodB xs
theorem nodB_ok : ∀ {l:List Nat},nodB l = true ↔ l.Nodup
 | []=>by simp [nodB]
 | x :: xs=>by simp [nodB,nodB_ok]
def sameB (a b:List Nat):Bool:=(a.all b.contains) && (b.all a.contains)
def covB (clo:Nat → Nat → Bool) (heads rem:List Nat):Bool:=rem.all fun i=>heads.contains i || rem.any fun j=>j != i && clo i j
def okAlt (ao:Nat → AO) (W:Nat → List Nat) (clo:Nat → Nat → Bool) (c:Nat) (qs:List Nat) (sub:HT) (acc rem:List Nat):Bool :=
 sameB rem (c :: (qs ++ sub.ops)) && nodB (acc ++ (c :: (qs ++ sub.ops))) && (qs.all fun j=>!(ao j).op.chg) && (acc.all fun j=>pairB ao W clo j c && qs.all (pairB ao W clo j)) && pairsB ao W clo qs && covB clo sub.heads sub.ops && ((qs ++ sub.ops).all fun k=>!clo c k)
def okT (ao:Nat → AO) (W:Nat → List Nat) (clo:Nat → Nat → Bool):HT → List Nat → List Nat → Bool
 | .leaf,_,_=>true
 | .alt c qs sub next,acc,rem=>okAlt ao W clo c qs sub acc rem && okT ao W clo sub (acc ++ qs) sub.ops && okT ao W clo next acc rem
def opsI (l:List AO) (W:Nat → List Nat) (L:List Nat):List (AO × List AO):=L.map fun i=>(l.getD i default,(W i).map fun j=>l.getD j default)
def atree (C:CallP) (l:List AO) (W:Nat → List Nat):HT → (Env → List AB → Prop) → Env → List AB → Prop
 | .leaf,Q,e,h=>Q e h
 | .alt c qs sub .leaf,Q,e,h=>aregs C (opsI l W (c :: qs)) (atree C l W sub Q) e h
 | .alt c qs sub (.alt c2 qs2 sub2 next2),Q,e,h=>aregs C (opsI l W (c :: qs)) (atree C l W sub Q) e h ∧ atree C l W (.alt c2 qs2 sub2 next2) Q e h
/-- A region with its tree. -/
def aregT (C:CallP) (l:List AO) (T:THint) (Q:Env → List AB → Prop) (e:Env) (h:List AB):Prop:=aregs C (opsI l (watchOf T.w) T.qs) (atree C l (watchOf T.w) T.t Q) e h
def okRegT (P:Program) (n:Nat) (ops:Array Oper) (T:THint):Bool :=
 match ops.toList.mapM (compAO P n ops) with
 | none=>false
 | some l =>
  let ao:=fun i=>l.getD i default
  let b:=Region.before ops
  let W:=watchOf T.w
  cloOK ops b && stillB ops.size ao W (cloB b) && (T.w.all fun p=>p.2.all (decide <| · < ops.size)) && sameB (T.qs ++ T.t.ops) (List.range ops.size) && nodB (T.qs ++ T.t.ops) && (T.qs.all fun j=>!(ao j).op.chg) && pairsB ao W (cloB b) T.qs && covB (cloB b) T.t.heads T.t.ops && okT ao W (cloB b) T.t T.qs T.t.ops

section
variable {ao:Nat → AO} {W:Nat → List Nat} {clo:Nat → Nat → Bool}
theorem pair_of {j i:Nat} (h:pairB ao W clo j i = true):Pair ao W (fun i j=>clo i j = true) j i:=by
 have:pairsB ao W clo [j,i] = true:=by simp [pairsB,h]
 exact List.rel_of_pairwise_cons (pairs_of this) (by simp)
theorem okT_sub : ∀ {t:HT} {acc acc' rem:List Nat},acc'.Sublist acc → okT ao W clo t acc rem = true → okT ao W clo t acc' rem = true
 | .leaf,_,_,_,_,_=>rfl
 | .alt c qs sub next,acc,acc',rem,hs,h=>by
  simp only [okT,okAlt,Bool.and_eq_true] at h ⊢
  obtain ⟨⟨⟨⟨⟨⟨⟨⟨a1,a2⟩,a3⟩,a4⟩,a5⟩,a6⟩,a7⟩,a8⟩,a9⟩:=h
  refine ⟨⟨⟨⟨⟨⟨⟨⟨a1,?_⟩,a3⟩,?_⟩,a5⟩,a6⟩,a7⟩,okT_sub (hs.append_right qs) a8⟩,okT_sub hs a9⟩
  ·rw [nodB_ok] at a2 ⊢
   exact a2.sublist (hs.append_right _)
  ·rw [List.all_eq_true] at a4 ⊢
   exact fun j hj=>a4 j (hs.subset hj)
theorem okT_pairs : ∀ {t:HT} {acc rem:List Nat},okT ao W clo t acc rem = true → ∀ j ∈ acc,∀ k ∈ t.ops,Pair ao W (fun i j=>clo i j = true) j k
 | .leaf,_,_,_,_,_,_,hk=>by cases hk
 | .alt c qs sub next,acc,rem,h,j,hj,k,hk=>by
  simp only [okT,okAlt,Bool.and_eq_true] at h
  obtain ⟨⟨⟨⟨⟨⟨⟨⟨a1,a2⟩,a3⟩,a4⟩,a5⟩,a6⟩,a7⟩,a8⟩,a9⟩:=h
  rw [List.all_eq_true] at a4
  have:=a4 j hj
  simp only [Bool.and_eq_true,List.all_eq_true] at this
  simp only [HT.ops,List.mem_cons,List.mem_append] at hk
  rcases hk with rfl|hk|hk
  ·exact pair_of this.1
  ·exact pair_of (this.2 k hk)
  ·exact okT_pairs a8 j (List.mem_append_left _ hj) k hk
/-- One of the ways that a tree has. -/
theorem head_of {C:CallP} {l:List AO} {W':Nat → List Nat}:∀ {t:HT} {acc rem:List Nat} {i:Nat},i ∈ t.heads → okT ao W clo t acc rem = true →
  ∃ qs sub,(∀ Q e h,atree C l W' t Q e h → aregs C (opsI l W' (i :: qs)) (atree C l W' sub Q) e h) ∧ okAlt ao W clo i qs sub acc rem = true ∧ okT ao W clo sub (acc ++ qs) sub.ops = true
 | .leaf,_,_,_,hi,_=>by cases hi
 | .alt c qs sub next,acc,rem,i,hi,h=>by
  simp only [okT,Bool.and_eq_true] at h
  obtain ⟨⟨a1,a2⟩,a3⟩:=h
  rcases List.mem_cons.1 hi with rfl|hi
  ·refine ⟨qs,sub,fun Q e h H=>?_,a1,a2⟩
   cases next with
   | leaf=>exact H
   | alt=>exact H.1
  ·obtain ⟨qs',sub',k1,k2,k3⟩:=head_of (C:=C) (l:=l) (W':=W') hi a3
   refine ⟨qs',sub',fun Q e h H=>?_,k2,k3⟩
   cases next with
   | leaf=>cases hi
   | alt=>exact k1 Q e h H.2
end
section
variable {C:CallP} {ao:Nat → AO} {W:Nat → List Nat}
theorem arun_Q (hC:C.Mono):∀ (l:List Nat) {D:Nat → Prop} {Q Q':Env → List AB → Prop} {e:Env} {h:List AB},(∀ e h,Q e h → Q' e h) → arun C ao W l D Q e h → arun C ao W l D Q' e h
 | [],_,_,_,_,_,hq,H=>hq _ _ H
 | _ :: rest,_,_,_,_,_,hq,H=>gstep_mono hC (fun _ _ hh=>⟨hh.1,arun_Q hC rest hq hh.2⟩) H
theorem arun_app (hC:C.Mono):∀ (l1 l2:List Nat) {D:Nat → Prop} {Q:Env → List AB → Prop} {e:Env} {h:List AB},arun C ao W l1 D (fun e h=>∀ D,arun C ao W l2 D Q e h) e h → arun C ao W (l1 ++ l2) D Q e h
 | [],_,_,_,_,_,H=>H _
 | _ :: l1,l2,_,_,_,_,H=>gstep_mono hC (fun _ _ hh=>⟨hh.1,arun_app hC l1 l2 hh.2⟩) H
end
section
variable {rd:Option Nat} {md:Nat} {F:Nat → Prop} {P:Program} {n:Nat} {gS:GM} {hS:List AB} {wS:World}
theorem aregs_all {C:CallP} (hC:C.Mono) {l:List AO} {W:Nat → List Nat} {Q:Env → List AB → Prop} {L:List Nat} {e:Env} {h:List AB} (H:aregs C (opsI l W L) Q e h):∀ D,arun C (fun i=>l.getD i default) W L D Q e h:=fun D=>arun_of hC L D H
theorem tree_ok {ops:Array Oper} {l:List AO} (hao:∀ (i:Nat) (o:Oper),ops[i]? = some o → compAO P n ops o = some (l.getD i default)) {W:Nat → List Nat} {b:Array Nat} (hb:cloOK ops b = true) (S:Still (fun i=>l.getD i default) W (fun i j=>cloB b i j = true) ops.size)
  {Q':Env → List AB → Prop} {Q:Exit → Act → World → Prop} (hQ:∀ e h a w,Q' e h → Rel F n gS hS wS e h a w → Q .normal a w) :
  ∀ (fuel:Nat) (qs:List Nat) (t:HT) (listed:Array Bool) (e:Env) (h:List AB) (a:Act) (w:World),(qs ++ t.ops).length = fuel → listed.size = ops.size → (∀ j,j ∈ qs ++ t.ops ↔ j < ops.size ∧ listed.getD j false = false) → (qs ++ t.ops).Nodup →
   (∀ j ∈ qs,(l.getD j default).op.chg = false) → qs.Pairwise (Pair (fun i=>l.getD i default) W (fun i j=>cloB b i j = true)) → covB (cloB b) t.heads t.ops = true → okT (fun i=>l.getD i default) W (cloB b) t qs t.ops = true →
   (∀ k j,j < ops.size → listed.getD k false = true → cloB b k j = true → listed.getD j false = true) → Rel F n gS hS wS e h a w → arun (ACalls P) (fun i=>l.getD i default) W qs (fun k=>listed.getD k false = true) (atree (ACalls P) l W t Q') e h → wpAnyIn (Wd rd) md P .any ops Q fuel listed a w:=by
 have hgt:∀ (listed:Array Bool) (j:Nat),listed.size = ops.size → j < ops.size → listed.getD j true = listed.getD j false:=fun listed j hs hj=>by
  have:j < listed.size:=by omega
  simp [this]
 simp only [cloOK,List.all_eq_true,List.mem_range,Bool.and_eq_true,Bool.not_eq_true'] at hb
 have hcl:∀ (i:Nat) (o:Oper),ops[i]? = some o → cloB b i i = false ∧ (∀ x ∈ o.after,Region.binds .any x = true → x.on < ops.size ∧ cloB b i x.on = true) ∧ ∀ j,j < ops.size → cloB b i j = true → ∃ x ∈ o.after,Region.binds .any x = true ∧ (x.on = j ∨ cloB b x.on j = true):=fun i o ho=>by
  have hi:i < ops.size:=by
   rcases Nat.lt_or_ge i ops.size with h|h
   ·exact h
   ·rw [Array.getElem?_eq_none h] at ho;cases ho
  have:=hb i hi
  rw [ho] at this
  simp only [List.all_eq_true,Bool.and_eq_true,Bool.or_eq_true,Bool.not_eq_true',decide_eq_true_eq,List.any_eq_true,beq_iff_eq,Array.mem_toList_iff,List.mem_range] at this
  refine ⟨this.1,fun x hx hbx=>?_,fun j hj hc=>?_⟩
  ·rcases this.2.1 x hx with h|h
   ·rw [hbx] at h;cases h
   ·exact h
  ·rcases this.2.2 j hj with h|h
   ·rw [hc] at h;cases h
   ·obtain ⟨x,hx,h1,h2⟩:=h
    exact ⟨x,hx,h1,h2⟩
 intro fuel
 induction fuel with
 | zero =>
  intro qs t listed e h a w hR hs hm hnd hqq hp hcov hT hclo hr H
  have hnil:=List.eq_nil_of_length_eq_zero hR
  obtain ⟨rfl,h2⟩:=List.append_eq_nil_iff.1 hnil
  cases t with
  | alt=>simp [HT.ops] at h2
  | leaf =>
   refine ⟨?_,hQ e h a w H hr⟩
   rw [List.eq_nil_iff_forall_not_mem]
   intro j hj
   obtain ⟨h1,o,ho,_⟩:=mem_ready.1 hj
   have hjl:j < ops.size:=by
    rcases Nat.lt_or_ge j ops.size with h|h
    ·exact h
    ·rw [Array.getElem?_eq_none h] at ho;cases ho
   have:=(hm j).2 ⟨hjl,by rw [← hgt listed j hs hjl];exact h1⟩
   cases this
 | succ fuel ih =>
  intro qs t listed e h a w hR hs hm hnd hqq hp hcov hT hclo hr H
  have rdy:∀ i0,i0 ∈ qs ++ t.ops → (∀ k ∈ qs ++ t.ops,k ≠ i0 → cloB b i0 k ≠ true) → i0 ∈ Region.ready .any ops listed:=fun i0 hi0 hfree=>by
   have h0:=(hm i0).1 hi0
   have ho:ops[i0]? = some ops[i0]:=Array.getElem?_eq_getElem h0.1
   have hc:=hcl i0 _ ho
   refine mem_ready.2 ⟨by rw [hgt listed i0 hs h0.1];exact h0.2,_,ho,fun x hx hbx=>?_⟩
   obtain ⟨h1,h2⟩:=hc.2.1 x hx hbx
   cases hl:listed.getD x.on false with
   | true=>rfl
   | false =>
    have hmem:=(hm x.on).2 ⟨h1,hl⟩
    by_cases e1:x.on = i0
    ·rw [e1,hc.1] at h2;cases h2
    ·exact (hfree _ hmem e1 h2).elim
  refine ⟨fun hno=>?_,fun i hi=>?_⟩
  ·cases qs with
   | cons i0 qs =>
    have:=rdy i0 (by simp) (fun k hk hne hcl'=>by
     simp only [List.cons_append,List.mem_cons,List.mem_append] at hk
     rcases hk with h|h|h
     ·exact hne h
     ·exact ((List.pairwise_cons.1 hp).1 _ h).2.1 hcl'
     ·exact (okT_pairs hT i0 (by simp) k h).2.1 hcl')
    rw [hno] at this;cases this
   | nil =>
    cases t with
    | leaf=>simp [HT.ops] at hR
    | alt c qs' sub next =>
     simp only [okT,okAlt,Bool.and_eq_true,List.all_eq_true,Bool.not_eq_true'] at hT
     have a7:=hT.1.1.2
     have:=rdy c (by simp [HT.ops]) (fun k hk hne hcl'=>by
      simp only [HT.ops,List.nil_append,List.mem_cons] at hk
      rcases hk with h|h
      ·exact hne h
      ·rw [a7 k h] at hcl';cases hcl')
     rw [hno] at this;cases this
  ·obtain ⟨h1,o,ho,hed⟩:=mem_ready.1 hi
   have hil:i < ops.size:=by
    rcases Nat.lt_or_ge i ops.size with h|h
    ·exact h
    ·rw [Array.getElem?_eq_none h] at ho;cases ho
   have hiR:=(hm i).2 ⟨hil,by rw [← hgt listed i hs hil];exact h1⟩
   have hc:=hcl i o ho
   have unl:∀ j ∈ qs ++ t.ops,j < ops.size ∧ listed.getD j false = false:=fun j hj=>(hm j).1 hj
   have hij:∀ j ∈ qs ++ t.ops,¬ cloB b i j = true:=fun j hj hcj=>by
    obtain ⟨x,hx,hbx,hxj⟩:=hc.2.2 j (unl j hj).1 hcj
    have hlx:=hed x hx hbx
    have:listed.getD j false = true:=by
     rcases hxj with rfl|hxj
     ·exact hlx
     ·exact hclo _ _ (unl j hj).1 hlx hxj
    rw [(unl j hj).2] at this
    cases this
   have hDN:∀ k,listed.getD k false = true → k < ops.size:=fun k hk=>by
    rcases Nat.lt_or_ge k ops.size with h|h
    ·exact h
    ·have:listed.size ≤ k:=by omega
     simp [Array.getElem?_eq_none this] at hk
   have getne:∀ j,j ≠ i → (listed.setIfInBounds i true).getD j false = listed.getD j false:=fun j hj=>getD_set_ne false (Ne.symm hj)
   have geteq:(listed.setIfInBounds i true).getD i false = true:=by
    have:i < listed.size:=by omega
    simp [this]
   have hDD:∀ k,listed.getD k false = true → ∀ j ∈ qs,¬ cloB b k j = true ∧ k ≠ j:=fun k hk j hj=>by
    have uj:=unl j (List.mem_append_left _ hj)
    exact ⟨fun hkj=>(by have:=hclo k j uj.1 hk hkj;rw [uj.2] at this;cases this),fun e1=>(by subst e1;rw [uj.2] at hk;cases hk)⟩
   have clo':∀ k j,j < ops.size → (listed.setIfInBounds i true).getD k false = true → cloB b k j = true → (listed.setIfInBounds i true).getD j false = true:=fun k j hjs hk hkj=>by
    by_cases e2:j = i
    ·subst e2;exact geteq
    ·rw [getne j e2]
     by_cases e1:k = i
     ·subst e1
      obtain ⟨x,hx,hbx,hxj⟩:=hc.2.2 j hjs hkj
      have hlx:=hed x hx hbx
      rcases hxj with rfl|hxj
      ·exact hlx
      ·exact hclo _ _ hjs hlx hxj
     ·rw [getne k e1] at hk
      exact hclo k j hjs hk hkj
   have anti:∀ k,(listed.setIfInBounds i true).getD k false = true → k = i ∨ listed.getD k false = true:=fun k hk=>by
    by_cases e1:k = i
    ·exact .inl e1
    ·rw [getne k e1] at hk
     exact .inr hk
   rcases List.mem_append.1 hiR with hq|ht
   ·obtain ⟨pre,rest,rfl⟩:=List.append_of_mem hq
    rw [List.pairwise_append] at hp
    obtain ⟨p1,p2,p3⟩:=hp
    have G:=pull (ACalls.mono P) S hil rest (atree (ACalls P) l W t Q') pre (fun k=>listed.getD k false = true) e h (fun j hj=>(unl j (by simp [hj])).1) hDN p1 (fun j hj=>⟨p3 j hj i List.mem_cons_self,hij j (by simp [hj])⟩)
     (fun k hk j hj=>hDD k hk j (by simp [hj])) H
    have hni:i ∉ pre ++ rest ∧ i ∉ t.ops:=by
     have:=hnd
     simp only [List.append_assoc,List.cons_append,List.nodup_append,List.nodup_cons,List.mem_append,List.mem_cons,not_or] at this
     obtain ⟨_,⟨⟨n1,n2⟩,_⟩,n3⟩:=this
     exact ⟨by simp only [List.mem_append,not_or];exact ⟨fun hp=>n3 i hp i (.inl rfl) rfl,n1⟩,n2⟩
    refine gstep_ok ho (hao i o ho) hr (fun r h' a' w' hk hr'=>?_) G
    refine ih (pre ++ rest) t (listed.setIfInBounds i true) _ _ _ _ (by simp at hR ⊢;omega) (by simp [hs]) (fun j=>?_) ?_ (fun j hj=>hqq j ?_) ?_ hcov (okT_sub ?_ hT) clo' hr' (arun_anti (ACalls.mono P) _ anti hk.2)
    ·by_cases e1:j = i
     ·subst e1
      rw [geteq]
      simp only [List.mem_append,not_or] at hni
      simp [hni]
     ·rw [getne j e1,← hm j]
      simp [e1]
    ·refine hnd.sublist ?_
     exact ((List.Sublist.refl pre).append (List.sublist_cons_self i rest)).append_right t.ops
    ·simp only [List.mem_append,List.mem_cons] at hj ⊢
     rcases hj with h|h
     ·exact .inl h
     ·exact .inr (.inr h)
    ·rw [List.pairwise_append]
     exact ⟨p1,(List.pairwise_cons.1 p2).2,fun x hx y hy=>p3 x hx y (List.mem_cons_of_mem _ hy)⟩
    ·exact (List.Sublist.refl pre).append (List.sublist_cons_self i rest)
   ·have hhead:i ∈ t.heads:=by
     unfold covB at hcov
     rw [List.all_eq_true] at hcov
     have:=hcov i ht
     simp only [Bool.or_eq_true,List.contains_iff_mem,List.any_eq_true,Bool.and_eq_true,bne_iff_ne,ne_eq] at this
     rcases this with h|⟨j,hj,_,hc'⟩
     ·exact h
     ·exact (hij j (List.mem_append_right _ hj) hc').elim
    obtain ⟨qs',sub,k1,k2,k3⟩:=head_of (C:=ACalls P) (l:=l) (W':=W) hhead hT
    simp only [okAlt,Bool.and_eq_true] at k2
    obtain ⟨⟨⟨⟨⟨⟨a1,a2⟩,a3⟩,a4⟩,a5⟩,a6⟩,a7⟩:=k2
    have H2:arun (ACalls P) (fun i=>l.getD i default) W (qs ++ i :: qs') (fun k=>listed.getD k false = true) (atree (ACalls P) l W sub Q') e h :=
     arun_app (ACalls.mono P) qs (i :: qs') (arun_Q (ACalls.mono P) qs (fun e h hh=>aregs_all (ACalls.mono P) (k1 Q' e h hh)) H)
    have G:=pull (ACalls.mono P) S hil qs' (atree (ACalls P) l W sub Q') qs (fun k=>listed.getD k false = true) e h (fun j hj=>(unl j (List.mem_append_left _ hj)).1) hDN hp (fun j hj=>⟨okT_pairs hT j hj i ht,hij j (List.mem_append_left _ hj)⟩)
     (fun k hk j hj=>hDD k hk j hj) H2
    simp only [sameB,Bool.and_eq_true,List.all_eq_true,List.contains_iff_mem] at a1
    rw [nodB_ok] at a2
    have a2':=a2
    simp only [List.nodup_append,List.nodup_cons,List.mem_append,List.mem_cons,not_or] at a2'
    obtain ⟨_,⟨⟨n1,n1'⟩,n4⟩,n3⟩:=a2'
    have hlen:(qs ++ t.ops).length = (qs ++ (i :: (qs' ++ sub.ops))).length:=by
     have e1:t.ops.length ≤ (i :: (qs' ++ sub.ops)).length:=nodup_le (hnd.sublist (List.sublist_append_right _ _)) (fun x hx=>a1.1 x hx)
     have e2:(i :: (qs' ++ sub.ops)).length ≤ t.ops.length:=nodup_le (a2.sublist (List.sublist_append_right _ _)) (fun x hx=>a1.2 x hx)
     simp only [List.length_append] at e1 e2 ⊢
     omega
    have hpq:(qs ++ qs').Pairwise (Pair (fun i=>l.getD i default) W (fun i j=>cloB b i j = true)):=by
     rw [List.pairwise_append]
     refine ⟨hp,pairs_of a5,fun x hx y hy=>?_⟩
     rw [List.all_eq_true] at a4
     have:=a4 x hx
     simp only [Bool.and_eq_true,List.all_eq_true] at this
     exact pair_of (this.2 y hy)
    refine gstep_ok ho (hao i o ho) hr (fun r h' a' w' hk hr'=>?_) G
    refine ih (qs ++ qs') sub (listed.setIfInBounds i true) _ _ _ _ (by rw [hR] at hlen;simp at hlen ⊢;omega) (by simp [hs]) (fun j=>?_) ?_ (fun j hj=>?_) hpq a6 k3 clo' hr' (arun_anti (ACalls.mono P) _ anti hk.2)
    ·have hmem:j ∈ t.ops ↔ j = i ∨ j ∈ qs' ∨ j ∈ sub.ops:=by
      constructor
      ·intro h
       have:=a1.1 j h
       simpa using this
      ·intro h
       exact a1.2 j (by simpa using h)
     by_cases e1:j = i
     ·subst e1
      rw [geteq]
      have:j ∉ qs:=fun h=>n3 j h j (.inl rfl) rfl
      simp [this,n1,n1']
     ·rw [getne j e1,← hm j]
      simp only [List.mem_append,hmem,e1,false_or,or_assoc]
    ·refine a2.sublist ?_
     rw [List.append_assoc]
     exact (List.Sublist.refl qs).append (List.sublist_cons_self i _)
    ·rcases List.mem_append.1 hj with h|h
     ·exact hqq j h
     ·rw [List.all_eq_true] at a3
      simpa using a3 j h
end
end Go.Proofs.Ytbhjehpjjbbhbaa

namespace Go.Proofs.Ytbhjehpjjbbhbaa
open Go.RowKit

inductive ACo where
 | skip
 | reg (id:Nat) (l:List (AO × List AO))
 | regT (l:List AO) (T:THint)
 | wk (id:Nat)
 | seq (a b:ACo)
 | cond (c:AX) (a b:ACo)
 | block (id:Nat) (c:ACo)
 | loop (c:ACo)
 | exit (id:Nat)
 | ret
 | rf (it:AX) (ps:List Nat) (a b:ACo)
 | no
 deriving Inhabited
/-- What is said of a function's regions: the orders of some; before which of them a state may be weakened. -/
structure Hints where
 ord:List (Nat × Hint):=[]
 pub:List Nat:=[]
 alt:List (Nat × THint):=[]
def hintOf (hs:Hints) (id:Nat):Option Hint:=(hs.ord.find? (·.1 == id)).map (·.2)
def altOf (hs:Hints) (id:Nat):Option THint:=(hs.alt.find? (·.1 == id)).map (·.2)
/-- No loop over a function. -/
def noRf : Code → Bool
 | .seq a b=>noRf a && noRf b
 | .cond _ a b=>noRf a && noRf b
 | .block _ c=>noRf c
 | .loop c=>noRf c
 | .scope c=>noRf c
 | .rangeFunc ..=>false
 | _=>true
def acomp (P:Program) (n:Nat) (hs:Hints):Code → ACo
 | .skip=>.skip
 | .label _=>.skip
 | .region id ops _=>match altOf hs id with
  | some T=>(match ops.toList.mapM (compAO P n ops) with
   | some l=>if hs.pub.contains id then .seq (.wk id) (.regT l T) else .regT l T
   | none=>.no)
  | none=>(match compReg P n ops (hintOf hs id) with
   | some l=>if hs.pub.contains id then .seq (.wk id) (.reg id l) else .reg id l
   | none=>.no)
 | .seq a b=>.seq (acomp P n hs a) (acomp P n hs b)
 | .cond c a b=>.cond (cx c) (acomp P n hs a) (acomp P n hs b)
 | .block id c=>.block id (acomp P n hs c)
 | .loop c=>.loop (acomp P n hs c)
 | .scope c=>acomp P n hs c
 | .exit id=>.exit id
 | .ret=>.ret
 | .rangeFunc g ps a b=>match noRf a && noRf b && ps.toList.all (decide <| · < n) with
  | true=>.rf (cx g) ps.toList (acomp P n hs a) (acomp P n hs b)
  | false=>.no
 | _=>.no
/-- The orders of the regions that draw them count for nothing. -/
def okCode (P:Program) (n:Nat) (hs:Hints):Code → Bool
 | .region id ops d=>match altOf hs id with
  | some T=>d && okRegT P n ops T
  | none=>okReg P n ops d (hintOf hs id)
 | .seq a b=>okCode P n hs a && okCode P n hs b
 | .cond _ a b=>okCode P n hs a && okCode P n hs b
 | .block _ c=>okCode P n hs c
 | .loop c=>okCode P n hs c
 | .scope c=>okCode P n hs c
 | .rangeFunc _ _ a b=>okCode P n hs a && okCode P n hs b
 | _=>true
inductive AEx where
 | normal
 | exit (id:Nat)
 | ret
def AEx.ex : AEx → Exit
 | .normal=>.normal
 | .exit id=>.exit id
 | .ret=>.ret
def AEx.then (next:Env → List AB → Prop) (Q:AEx → Env → List AB → Prop):AEx → Env → List AB → Prop
 | .normal,e,h=>next e h
 | x,e,h=>Q x e h
def AEx.inBlock (id:Nat) (Q:AEx → Env → List AB → Prop):AEx → Env → List AB → Prop
 | .exit id',e,h=>if id' = id then Q .normal e h else Q (.exit id') e h
 | x,e,h=>Q x e h
/-- A state that says no more than another, in a call whose first N blocks are given. -/
def Wk (N:Nat) (e:Env) (h:List AB) (e2:Env) (h2:List AB):Prop :=
 ∀ F n gS hS wS a w,hS.length = N → Rel F n gS hS wS e h a w → Rel F n gS hS wS e2 h2 a w
theorem Wk.refl (N:Nat) (e:Env) (h:List AB):Wk N e h e h:=fun _ _ _ _ _ _ _ _ r=>r
theorem Wk.trans {N e h e2 h2 e3 h3} (a:Wk N e h e2 h2) (b:Wk N e2 h2 e3 h3):Wk N e h e3 h3:=fun _ _ _ _ _ _ _ q r=>b _ _ _ _ _ _ _ q (a _ _ _ _ _ _ _ q r)

/-- Values put into temporaries, one after another. -/
def putL (e:Env):List Nat → List AV → Env
 | p :: ps,v :: vs=>putL (fun t=>if t = p then v else e t) ps vs
 | _,_=>e
def rfA (K:Env → List AB → Prop):AEx → Env → List AB → Prop
 | .normal,e,h=>K e h
 | _,_,_=>False
/-- A round's end: the temporaries are those before the loop. -/
def rfB (N:Nat) (e1:Env) (K:Env → List AB → Prop) (Q:AEx → Env → List AB → Prop):AEx → Env → List AB → Prop
 | .normal,_,h=>∃ e2 h2,Wk N e1 h e2 h2 ∧ K e2 h2
 | .exit id,_,h=>Q (.exit id) e1 h
 | .ret,_,h=>Q .ret e1 h
/-- A function with what it has caught, or is bound to. -/
def fnv (mv:Bool) (gf m:Nat) (c:Nat → AV):AV:=match mv with
 | false=>.fn gf m c
 | true=>.mv gf m c
def awp (C:CallP) (N:Nat) (c:ACo) (Q:AEx → Env → List AB → Prop) (e:Env) (h:List AB):Prop :=
 match c with
 | .skip=>Q .normal e h
 | .reg _ l=>aregs C l (Q .normal) e h
 | .regT l T=>aregT C l T (Q .normal) e h
 | .wk _=>∃ e2 h2,Wk N e h e2 h2 ∧ Q .normal e2 h2
 | .seq a b=>awp C N a (AEx.then (fun e h=>awp C N b Q e h) Q) e h
 | .cond c a b=>match c.ev e with
  | .bool q=>acond q (awp C N a Q e h) (awp C N b Q e h)
  | _=>False
 | .block id c=>awp C N c (AEx.inBlock id Q) e h
 | .loop c=>∃ (I:Env → List AB → Prop) (μ:Env → List AB → Nat),(∃ e0 h0,Wk N e h e0 h0 ∧ I e0 h0) ∧
   ∀ e h,I e h → awp C N c (AEx.then (fun e' h'=>∃ e2 h2,Wk N e' h' e2 h2 ∧ I e2 h2 ∧ μ e2 h2 < μ e h) Q) e h
 | .exit id=>Q (.exit id) e h
 | .ret=>Q .ret e h
 | .rf it ps a b=>∃ (e0:Env) (h0:List AB) (mv:Bool) (gf m:Nat) (c:Nat → AV) (L:List (List AV)) (I:Nat → Env → List AB → Prop),Wk N e h e0 h0 ∧ I 0 e0 h0 ∧ it.ev e0 = fnv mv gf m c ∧ (∀ i,i < m → (c i).pure) ∧
   C.iter mv gf ((List.range m).map c) L ∧ (∀ x ∈ L,x.length = ps.length) ∧
   (∀ k e1 h1,k < L.length → I k e1 h1 → awp C h1.length a (rfA fun e h=>awp C h1.length b (rfB h0.length e1 (I (k + 1)) Q) e h) (putL e1 ps (L.getD k [])) h1) ∧
   ∀ e1 h1,I L.length e1 h1 → Q .normal e1 h1
 | .no=>False

section
variable {rd:Option Nat} {md:Nat} {F:Nat → Prop} {P:Program} {n:Nat} {gS:GM} {hS:List AB} {wS:World}
def PostR (F:Nat → Prop) (n:Nat) (gS:GM) (hS:List AB) (wS:World) (Q:AEx → Env → List AB → Prop) (x:Exit) (a:Act) (w:World):Prop :=
 ∃ ax e h,x = ax.ex ∧ Q ax e h ∧ Rel F n gS hS wS e h a w

theorem pair_fst {L:Hint} (hnd:(L.map (·.1)).Pairwise (· ≠ ·)):∀ p ∈ L,watchOf L p.1 = p.2:=by
 induction L with
 | nil=>intro p hp;cases hp
 | cons q L ih =>
  intro p hp
  rw [List.map_cons,List.pairwise_cons] at hnd
  unfold watchOf
  rw [List.find?_cons]
  rcases List.mem_cons.1 hp with rfl|hp'
  ·simp
  ·have hne:(q.1 == p.1) = false:=by
    have:=hnd.1 p.1 (List.mem_map.2 ⟨p,hp',rfl⟩)
    simpa using this
   rw [hne]
   exact ih hnd.2 p hp'
theorem reg_ok (hm:P.follows .mixedOrders = true) {id:Nat} {ops:Array Oper} {d:Bool} {hint:Option Hint} (hk:okReg P n ops d hint = true) {l:List (AO × List AO)} (hl:compReg P n ops hint = some l) {Q':Env → List AB → Prop} {Q:Exit → Act → World → Prop} (hQ:∀ e h a w,Q' e h → Rel F n gS hS wS e h a w → Q .normal a w)
  {e:Env} {h:List AB} {a:Act} {w:World} (H:aregs (ACalls P) l Q' e h) (hr:Rel F n gS hS wS e h a w):(Code.region id ops d).wpIn (Wd rd) md P Q a w:=by
 unfold compReg at hl
 split at hl
 ·cases hl
 ·rename_i l0 hl0
  have hget:=mapM_get hl0
  have hlen:l0.length = ops.size:=by
   have:=mapM_len hl0
   simpa using this
  have hao:∀ (i:Nat) (o:Oper),ops[i]? = some o → compAO P n ops o = some (l0.getD i default):=fun i o ho=>by
   obtain ⟨x,h1,h2⟩:=hget i o ho
   rw [h2];simp [h1]
  have hrange:(l0.map fun x=>(x,([]:List AO))) = (List.range ops.size).map fun i=>(l0.getD i default,[]):=by
   apply List.ext_getElem?
   intro i
   simp only [List.getElem?_map]
   by_cases hi:i < ops.size
   ·rw [List.getElem?_range hi]
    have:i < l0.length:=by omega
    simp [this]
   ·rw [List.getElem?_eq_none (by omega),List.getElem?_eq_none (by simp;omega)]
    rfl
  cases d with
  | false =>
   cases hint with
   | some L=>cases hk
   | none =>
    simp only at hl
    injection hl with hl
    subst hl
    rw [hrange] at H
    exact wpIn_region (plain_ok hao hQ _ _ _ _ _ (fun i hi=>by simpa using hi) hr H)
  | true =>
   simp only [okReg,hl0] at hk
   have hL:l = (hint.getD ((List.range ops.size).map fun i=>(i,[]))).map fun p=>(l0.getD p.1 default,p.2.map fun j=>l0.getD j default):=by
    cases hint with
    | some L=>simp only at hl;injection hl with hl;exact hl.symm
    | none =>
     simp only at hl
     injection hl with hl
     rw [← hl,hrange]
     simp
   generalize hint.getD ((List.range ops.size).map fun i=>(i,[])) = L at hk hL
   subst hL
   simp only [Bool.and_eq_true,beq_iff_eq,List.all_eq_true,List.contains_iff_mem,decide_eq_true_eq,List.mem_range] at hk
   obtain ⟨⟨⟨⟨⟨⟨c1,c2⟩,c3⟩,c4⟩,c7⟩,c5⟩,c6⟩:=hk
   have hW:∀ i,∀ k ∈ watchOf L i,k < ops.size:=fun i k hk=>by
    unfold watchOf at hk
    split at hk
    ·rename_i p hp
     exact c7 p (List.mem_of_find?_eq_some hp) k hk
    ·cases hk
   have hfalse:∀ j,(Array.replicate ops.size false).getD j false = false:=fun j=>by
    by_cases hj:j < ops.size <;> simp [hj]
   have hp:=pairs_of c6
   have hw:=pair_fst (hp.imp fun h=>h.1)
   have e1:(L.map fun p=>(l0.getD p.1 default,p.2.map fun j=>l0.getD j default)) = (L.map (·.1)).map fun i=>(l0.getD i default,(watchOf L i).map fun j=>l0.getD j default):=by
    rw [List.map_map]
    refine List.map_congr_left fun p hp=>?_
    simp only [Function.comp,hw p hp]
   rw [e1] at H
   refine wpIn_region_any hm (any_ok (ao:=fun i=>l0.getD i default) hao c1 (still_of hW c5) hQ ops.size _ _ e h a _ c2 (by simp) (fun j=>⟨fun hj=>⟨c4 j hj,hfalse j⟩,fun hj=>c3 j hj.1⟩) hp (fun k j _ hk=>?_) hr.drew (arun_of (ACalls.mono P) _ _ H))
   rw [hfalse k] at hk;cases hk

theorem regT_ok (hm:P.follows .mixedOrders = true) {id:Nat} {ops:Array Oper} {T:THint} (hk:okRegT P n ops T = true) {l:List AO} (hl0:ops.toList.mapM (compAO P n ops) = some l) {Q':Env → List AB → Prop} {Q:Exit → Act → World → Prop} (hQ:∀ e h a w,Q' e h → Rel F n gS hS wS e h a w → Q .normal a w)
  {e:Env} {h:List AB} {a:Act} {w:World} (H:aregT (ACalls P) l T Q' e h) (hr:Rel F n gS hS wS e h a w):(Code.region id ops true).wpIn (Wd rd) md P Q a w:=by
 have hget:=mapM_get hl0
 have hao:∀ (i:Nat) (o:Oper),ops[i]? = some o → compAO P n ops o = some (l.getD i default):=fun i o ho=>by
  obtain ⟨x,h1,h2⟩:=hget i o ho
  rw [h2];simp [h1]
 simp only [okRegT,hl0,Bool.and_eq_true] at hk
 obtain ⟨⟨⟨⟨⟨⟨⟨⟨c1,c2⟩,c3⟩,c4⟩,c5⟩,c6⟩,c7⟩,c8⟩,c9⟩:=hk
 have hW:∀ i,∀ k ∈ watchOf T.w i,k < ops.size:=fun i k hk=>by
  unfold watchOf at hk
  split at hk
  ·rename_i p hp
   simp only [List.all_eq_true,decide_eq_true_eq] at c3
   exact c3 p (List.mem_of_find?_eq_some hp) k hk
  ·cases hk
 have hfalse:∀ j,(Array.replicate ops.size false).getD j false = false:=fun j=>by
  by_cases hj:j < ops.size <;> simp [hj]
 simp only [sameB,Bool.and_eq_true,List.all_eq_true,List.contains_iff_mem,List.mem_range] at c4
 rw [nodB_ok] at c5
 have hlen:(T.qs ++ T.t.ops).length = ops.size:=by
  have e1:(T.qs ++ T.t.ops).length ≤ (List.range ops.size).length:=nodup_le c5 (fun x hx=>List.mem_range.2 (c4.1 x hx))
  have e2:(List.range ops.size).length ≤ (T.qs ++ T.t.ops).length:=nodup_le List.nodup_range (fun x hx=>c4.2 x (List.mem_range.1 hx))
  simp only [List.length_range] at e1 e2
  omega
 refine wpIn_region_any hm (tree_ok hao c1 (still_of hW c2) hQ ops.size T.qs T.t _ e h a _ hlen (by simp) (fun j=>⟨fun hj=>⟨c4.1 j hj,hfalse j⟩,fun hj=>c4.2 j hj.1⟩) c5 (fun j hj=>by
  rw [List.all_eq_true] at c6
  simpa using c6 j hj) (pairs_of c7) c8 c9 (fun k j _ hk=>?_) hr.drew (aregs_all (ACalls.mono P) H _))
 rw [hfalse k] at hk;cases hk

theorem rep_keepc {M:Nat → Prop} {w w':World} (hs:w.heap.size ≤ w'.heap.size) (hc:∀ a u,w.cell? a = some u → w'.cell? a = some u):∀ (v:AV) {g:GM} {u:Value},rep M w v g u → rep M w' v g u:=by
 intro v
 induction v with
 | sl z e n sz c ih =>
  intro g u h
  obtain ⟨A,cap,h1,h2,h3,h4,h4',h5⟩:=h
  refine ⟨A,cap,h1,h2,h3,h4,h4',fun k hk o ho=>?_⟩
  obtain ⟨b,off,x,hA,hb,hn,hcell,h1c,hr⟩:=h5 k hk o ho
  exact ⟨b,off,x,hA,Nat.lt_of_lt_of_le hb hs,hn,hc _ _ hcell,h1c,ih k o hr⟩
 | ip m c o ih =>
  intro g u h
  obtain ⟨b,off,h1,hb,hn,h5⟩:=h
  refine ⟨b,off,h1,Nat.lt_of_lt_of_le hb hs,hn,fun i hi=>?_⟩
  obtain ⟨x,hcell,h1c,hr⟩:=h5 i hi
  exact ⟨x,hc _ _ hcell,h1c,ih i hr⟩
 | fn f m c ih =>
  intro g u h
  obtain ⟨cs,h1,h2,h3⟩:=h
  refine ⟨cs,h1,h2,fun i hi=>?_⟩
  obtain ⟨x,hx,hr⟩:=h3 i hi
  exact ⟨x,hx,ih i hr⟩
 | agg m c ih =>
  intro g u h
  obtain ⟨cs,h1,h2,h3⟩:=h
  refine ⟨cs,h1,h2,fun i hi=>?_⟩
  obtain ⟨x,hx,h1c,hr⟩:=h3 i hi
  exact ⟨x,hx,h1c,ih i hr⟩
 | tup m c ih =>
  intro g u h
  obtain ⟨cs,h1,h2,h3⟩:=h
  refine ⟨cs,h1,h2,fun i hi=>?_⟩
  obtain ⟨x,hx,hr⟩:=h3 i hi
  exact ⟨x,hx,ih i hr⟩
 | mv f m c ih =>
  intro g u h
  obtain ⟨cs,h1,h2,h3⟩:=h
  refine ⟨cs,h1,h2,fun i hi=>?_⟩
  obtain ⟨x,hx,hr⟩:=h3 i hi
  exact ⟨x,hx,ih i hr⟩
 | _=>intro g u h;exact h
theorem cells_putObj {w:World} {l:Nat} {o o':Obj} (h:w.heap[l]? = some o) (hc:o.isCells = false):∀ a u,w.cell? a = some u → (w.putObj l o').cell? a = some u:=fun a u ha=>by
 by_cases e:a.block = l
 ·unfold World.cell? at ha
  rw [e,h] at ha
  cases o <;> simp_all [Obj.isCells]
 ·rw [World.cell?_of_block (World.putObj_heap_other e)];exact ha
theorem blocks_putObj {w:World} {l:Nat} {o o':Obj} (h:w.heap[l]? = some o) (hc:o.isCells = false):∀ (b:Nat) cs t f,w.heap[b]? = some (.cells cs t f) → (w.putObj l o').heap[b]? = some (.cells cs t f):=fun b cs t f hb=>by
 by_cases e:b = l
 ·subst e;rw [h] at hb;injection hb with hb;rw [hb] at hc;cases hc
 ·rw [World.putObj_heap_other e];exact hb
theorem HOK.obj {g:GM} {w:World} {h:List AB} (k:HOK F g w h) {l:Nat} {o o':Obj} (hl:w.heap[l]? = some o) (hc:ofar o = true):HOK F g (w.putObj l o') h:=by
 refine HOK.of_all k.dom k.lv k.inj (fun d b cap x hx hg=>?_) (fun b hb=>⟨by simpa using (k.fr b hb).1,(k.fr b hb).2⟩)
 have hr:∀ (v:AV) {g':GM} {u:Value},rep (MM F g h) w v g' u → rep (MM F g h) (w.putObj l o') v g' u:=fun v {g' u} hh=>rep_keepc (by simp) (cells_putObj hl (ofar_cells hc)) v hh
 have:=k.all hx hg
 cases x with
 | dead=>trivial
 | box m c =>
  obtain ⟨cs,t,h1,h2,h3⟩:=this
  refine ⟨cs,t,blocks_putObj hl (ofar_cells hc) _ _ _ _ h1,h2,fun i hi=>?_⟩
  obtain ⟨u,hu,h1c,hrr⟩:=h3 i hi
  exact ⟨u,hu,h1c,hr _ hrr⟩
 | row n sz c =>
  obtain ⟨hn,hm,cs,t,h1,h2,h3⟩:=this
  refine ⟨hn,hm,cs,t,blocks_putObj hl (ofar_cells hc) _ _ _ _ h1,h2,fun kk hk o ho=>?_⟩
  obtain ⟨u,hu,h1c,hrr⟩:=h3 kk hk o ho
  exact ⟨u,hu,h1c,hr _ hrr⟩
 | mp kt L =>
  obtain ⟨es,h1,h2⟩:=this
  have hne:b ≠ l:=fun e=>by subst e;rw [hl] at h1;injection h1 with h1;rw [h1] at hc;cases hc
  exact ⟨es,by rw [World.putObj_heap_other hne];exact h1,⟨h2.len,fun i hi=>by obtain ⟨e,a,b',c,dd⟩:=h2.ent i hi;exact ⟨e,a,b',c,hr _ dd⟩,h2.nod,h2.one⟩⟩
 | mit m n seen =>
  obtain ⟨h1,h2,mb,h3,h4⟩:=this
  have hne:b ≠ l:=fun e=>by subst e;rw [hl] at h4;injection h4 with h4;rw [h4] at hc;cases hc
  exact ⟨h1,h2,mb,hr _ h3,by rw [World.putObj_heap_other hne];exact h4⟩
 | rwg n sz c =>
  obtain ⟨hn,hm,cs,t,h1,h2,h3⟩:=this
  refine ⟨hn,hm,cs,t,blocks_putObj hl (ofar_cells hc) _ _ _ _ h1,h2,fun kk hk o ho=>?_⟩
  obtain ⟨u,hu,h1c,hrr⟩:=h3 kk hk o ho
  exact ⟨u,hu,h1c,hr _ hrr⟩
theorem Tr.obj {g g':GM} {h h':List AB} {w w':World} (T:Tr F g h w g' h' w') {l:Nat} {o o':Obj} (hl:w'.heap[l]? = some o) (hc:ofar o = true) (hw:w.heap.size ≤ l):Tr F g h w g' h' (w'.putObj l o') :=
 ⟨T.ok.obj hl hc,T.gle,⟨T.chg.os,T.chg.tape,T.chg.output,by simpa using T.chg.size,fun b hb hn=>by rw [World.putObj_heap_other (show b ≠ l by omega)];exact T.chg.block b hb hn⟩,T.new⟩
theorem Tr.obj2 {g g':GM} {h h':List AB} {w w':World} (k:HOK F g w h) (T:Tr F g h w g' h' w') {l:Nat} {o o' x:Obj} (hl:w.heap[l]? = some o) (hc:ofar o = true) (hl':w'.heap[l]? = some o') (hc':ofar o' = true):Tr F g h (w.putObj l x) g' h' (w'.putObj l x) :=
 ⟨T.ok.obj hl' hc',T.gle,⟨T.chg.os,T.chg.tape,T.chg.output,by simpa using T.chg.size,fun b hb hn=>by
  by_cases e:b = l
  ·subst e
   rw [World.putObj_heap_same (Array.getElem?_eq_some_iff.1 hl').1,World.putObj_heap_same (Array.getElem?_eq_some_iff.1 hl).1]
  ·rw [World.putObj_heap_other e,World.putObj_heap_other e];exact T.chg.block b (by simpa using hb) hn⟩,fun b hb=>by simpa using T.new b hb⟩
/-- The temporaries before a loop over a function, in a round of it. -/
structure RSt (F:Nat → Prop) (tm:Array Value) (g0:GM) (h0:List AB) (w:World) (e1:Env) (g1:GM) (h1:List AB) (W:World):Prop where
 T:Tr F g0 h0 w g1 h1 W
 v:∀ t,rep (MM F g1 h1) W (e1 t) g1 (tm.getD t undef)
theorem RSt.tr {tm:Array Value} {g0':GM} {h0:List AB} {w:World} {e1:Env} {g1 g2:GM} {h1 h2:List AB} {W W2:World} (s:RSt F tm g0' h0 w e1 g1 h1 W) (T:Tr F g1 h1 W g2 h2 W2):RSt F tm g0' h0 w e1 g2 h2 W2:=⟨s.T.trans T,fun t=>T.hold (s.v t)⟩
theorem RSt.obj {tm:Array Value} {g0':GM} {h0:List AB} {w:World} {e1:Env} {g1:GM} {h1:List AB} {W:World} (s:RSt F tm g0' h0 w e1 g1 h1 W) {l:Nat} {o o':Obj} (hl:W.heap[l]? = some o) (hc:ofar o = true) (hw:w.heap.size ≤ l):RSt F tm g0' h0 w e1 g1 h1 (W.putObj l o') :=
 ⟨s.T.obj hl hc hw,fun t=>rep_keepc (by simp) (cells_putObj hl (ofar_cells hc)) _ (s.v t)⟩
theorem Tr.keepObj {g g':GM} {h h':List AB} {w w':World} (k:HOK F g w h) (T:Tr F g h w g' h' w') {D:Nat} {o:Obj} (ho:w.heap[D]? = some o) (hc:ofar o = true):w'.heap[D]? = some o:=by
 rw [T.chg.block D (Array.getElem?_eq_some_iff.1 ho).1 (k.noMark ho hc)];exact ho
theorem puts_fold : ∀ (ps:List Nat) (vs:List Value) (tm:Array Value),((ps.zip vs).foldl (fun t (p:Nat × Value)=>t.setIfInBounds p.1 p.2) tm).size = tm.size
 | [],_,_=>rfl
 | _ :: _,[],_=>rfl
 | p :: ps,v :: vs,tm=>by rw [List.zip_cons_cons,List.foldl_cons,puts_fold ps vs];simp
theorem puts_rep {M:Nat → Prop} {W:World} {g:GM}:∀ (ps:List Nat) (vs:List Value) (xs:List AV) (tm:Array Value) (e:Env),(∀ p ∈ ps,p < tm.size) → vs.length = ps.length → xs.length = ps.length → (∀ (i:Nat) (x:AV),xs[i]? = some x → rep M W x g (vs.getD i undef)) → (∀ t,rep M W (e t) g (tm.getD t undef)) →
  ∀ t,rep M W (putL e ps xs t) g (((ps.zip vs).foldl (fun t (p:Nat × Value)=>t.setIfInBounds p.1 p.2) tm).getD t undef)
 | [],vs,xs,tm,e,_,_,_,_,he,t=>by
  have:putL e [] xs = e:=by cases xs <;> rfl
  rw [this];exact he t
 | p :: ps,[],xs,tm,e,_,hv,_,_,_,t=>by simp at hv
 | p :: ps,v :: vs,[],tm,e,_,_,hx,_,_,t=>by simp at hx
 | p :: ps,v :: vs,x :: xs,tm,e,hp,hv,hx,hr,he,t=>by
  rw [List.zip_cons_cons,List.foldl_cons]
  refine puts_rep ps vs xs _ _ (fun q hq=>by simpa using hp q (List.mem_cons_of_mem _ hq)) (by simpa using hv) (by simpa using hx) (fun i y hy=>?_) (fun t=>?_) t
  ·have:=hr (i + 1) y (by simpa using hy)
   simpa using this
  ·have hpt:=hp p List.mem_cons_self
   by_cases e1:t = p
   ·subst e1
    rw [if_pos rfl]
    have:(tm.setIfInBounds t v).getD t undef = v:=by simp [hpt]
    rw [this]
    have:=hr 0 x rfl
    simpa using this
   ·rw [if_neg e1]
    have:(tm.setIfInBounds p v).getD t undef = tm.getD t undef:=by
     simp [Array.getElem?_setIfInBounds_ne (Ne.symm e1)]
    rw [this];exact he t
def AEx.code : AEx → Code
 | .normal=>.skip
 | .exit id=>.exit id
 | .ret=>.ret
theorem range_ok {g:Operand} {ps:Array Tmp} {A B:Code} {acA acB:ACo} {md:Nat} (hps:∀ p ∈ ps.toList,p < n)
  (iA:∀ (l:Nat) (gS:GM) (hS:List AB) (wS:World) (Q:AEx → Env → List AB → Prop) (e:Env) (h:List AB) (a:Act) (w:World),awp (ACalls P) hS.length acA Q e h → Rel F n gS hS wS e h a w → A.wpIn (Wd (some l)) 0 P (PostR F n gS hS wS Q) a w)
  (iB:∀ (l:Nat) (gS:GM) (hS:List AB) (wS:World) (Q:AEx → Env → List AB → Prop) (e:Env) (h:List AB) (a:Act) (w:World),awp (ACalls P) hS.length acB Q e h → Rel F n gS hS wS e h a w → B.wpIn (Wd (some l)) 0 P (PostR F n gS hS wS Q) a w)
  {N:Nat} (hSN:hS.length = N) {Q:AEx → Env → List AB → Prop} {e:Env} {h:List AB} {a:Act} {w:World} (H:awp (ACalls P) N (.rf (cx g) ps.toList acA acB) Q e h) (hr:Rel F n gS hS wS e h a w):(Code.rangeFunc g ps A B).wpIn (Wd none) md P (PostR F n gS hS wS Q) a w:=by
 obtain ⟨e0,h0,mv,gf,m,c,L,I,hwk,hI0,hit,hpure,hiter,hlen,hround,hdone⟩:=H
 obtain ⟨⟨G0,T0,hv0⟩,dn,sz,dm⟩:=hwk _ _ _ _ _ _ _ hSN hr
 have hgv:rep (MM F G0 h0) w (fnv mv gf m c) G0 (a.eval g):=by
  have:=rep_eval hv0 g
  rw [hit] at this;exact this
 obtain ⟨lb,hg1,hlb,hcaps⟩:∃ lb,a.eval g = (match mv with|false=>Value.func (.func gf) #[] lb|true=>Value.func (.func gf) lb #[]) ∧ lb.size = m ∧ ∀ i,i < m → ∃ u,lb[i]? = some u ∧ rep (MM F G0 h0) w (c i) G0 u:=by
  cases mv
  ·exact hgv
  ·obtain ⟨lb,a1,a2,a3⟩:=hgv
   exact ⟨lb,a1,a2,fun i hi=>by obtain ⟨u,b1,b2⟩:=a3 i hi;exact ⟨u,b1,rep_up (g0_le _) b2⟩⟩
 obtain ⟨⟨fn,f1,f2,f3⟩,hseq⟩:=hiter
 obtain ⟨M,hM⟩:∃ M:Nat → Prop,∀ b,M b ↔ (MM F G0 h0 b ∨ w.heap.size ≤ b):=⟨_,fun _=>Iff.rfl⟩
 have hMlt:∀ b,b < w.heap.size → M b → MM F G0 h0 b:=fun b hb h=>((hM b).1 h).resolve_right (by omega)
 have hcap:∀ (i:Nat) (x:AV),((List.range m).map c)[i]? = some x → rep M w x g0 (lb.getD i undef):=fun i x hx=>by
  rw [List.getElem?_map] at hx
  have hi:i < m:=by
   rcases Nat.lt_or_ge i m with h'|h'
   ·exact h'
   ·rw [List.getElem?_eq_none (by simpa using h')] at hx;cases hx
  rw [List.getElem?_range hi] at hx
  injection hx with hx
  subst hx
  obtain ⟨u,hu,hrep⟩:=hcaps i hi
  have:lb.getD i undef = u:=by simp [hu]
  rw [this]
  exact rep_mono (Chg.refl _ w) hMlt _ (GM.le_refl _) (rep_pure _ (hpure i hi) hrep)
 have sub:∀ {g1:GM} {h1:List AB} {W:World},Tr F G0 h0 w g1 h1 W → ∀ b,MM F g1 h1 b → M b:=fun T b hb=>(hM b).2 (by
  rcases hb with hb|hb
  ·exact .inl (.inl hb)
  ·exact (T.new b hb).imp .inr id)
 have chgM:∀ {g1:GM} {h1:List AB} {W:World},Tr F G0 h0 w g1 h1 W → Chg M w W:=fun T=>T.chg.weak fun b _ hb=>(hM b).2 (.inl (.inr hb))
 refine wpIn_rangeFunc ?_
 intro fnid hfn
 obtain ⟨rc,hrc⟩:∃ rc:LoopState → Option Code → Loop,rc = fun st pe=>{ state:=st,pending:=pe,fn:=fnid,tmps:=a.tmps,params:=ps,assign:=A,body:=B,defers:=w.heap.size }:=⟨_,rfl⟩
 obtain ⟨W1,hW1⟩:∃ W1,(w.alloc (.deferred (some []))).alloc (.loop (rc .ready none)) = W1:=⟨_,rfl⟩
 have hsz1:W1.heap.size = w.heap.size + 2:=by rw [← hW1];simp
 have hL1:W1.heap[w.heap.size + 1]? = some (.loop (rc .ready none)):=by
  rw [← hW1];have:=World.alloc_heap_new (w.alloc (.deferred (some []))) (.loop (rc .ready none));rwa [World.size_alloc] at this
 have hK1:W1.heap[w.heap.size]? = some (.deferred (some [])):=by
  rw [← hW1];exact (Below.heap_alloc _ _ _ (by simp)).trans (World.alloc_heap_new w _)
 have hc1:Chg (fun _=>False) w W1:=by
  rw [← hW1];exact (Chg.alloc _ w _).trans (Chg.alloc _ _ _) (fun _ _ h=>h)
 have st1:RSt F a.tmps G0 h0 w e0 G0 h0 W1:=(⟨Tr.refl T0.ok,hv0⟩:RSt F a.tmps G0 h0 w e0 G0 h0 w).tr (Tr.keep T0.ok hc1)
 refine ⟨w.heap.size + 1,[{ target:=.collected w.heap.size,args:=#[] }],W1,(match mv with|false=>{ target:=.fn (.func gf) lb,args:=#[.func (.yield (w.heap.size + 1)) #[] #[]] }|true=>{ target:=.fn (.func gf) #[],args:=lb ++ #[.func (.yield (w.heap.size + 1)) #[] #[]] }),W1,gf,argsOf mv lb (.func (.yield (w.heap.size + 1)) #[] #[]),W1,?_,?_,fun _ _=>trivial,?_,fun h=>Wd.deep none h,?_⟩
 ·rw [← hW1,hrc];exact run_enterLoop_outer _ _ _ _ _
 ·simp only [resolve,hg1]
  cases mv <;> simp [go_sem,Deferred.ofValue]
 ·cases mv <;> simp [invoke,go_sem,enter_run f1 f2 f3,argsOf]
 have deep:∀ {e' w'},(CallsIn (Wd none) 0 P gf e' w' (rangePost (Wd none) md P (w.heap.size + 1) (PostR F n gS hS wS Q) { a with defers:=[{ target:=.collected w.heap.size,args:=#[] }] ++ a.defers })) → CallsIn (Wd none) (md - 1) P gf e' w' (rangePost (Wd none) md P (w.heap.size + 1) (PostR F n gS hS wS Q) { a with defers:=[{ target:=.collected w.heap.size,args:=#[] }] ++ a.defers }):=fun h=>⟨trivial,fun cs _=>h.2 cs (room_wide _)⟩
 refine deep ((hseq M w lb (by simpa using hlb) hcap (w.heap.size + 1)
  (fun k W=>(∃ e1 g1 h1,I k e1 h1 ∧ RSt F a.tmps G0 h0 w e1 g1 h1 W) ∧ W.heap[w.heap.size + 1]? = some (.loop (rc .ready none)) ∧ W.heap[w.heap.size]? = some (.deferred (some [])))
  (fun k W=>(∃ (x:AEx) (e1:Env) (g1:GM) (h1:List AB),x ≠ .normal ∧ Q x e1 h1 ∧ RSt F a.tmps G0 h0 w e1 g1 h1 W ∧ W.heap[w.heap.size + 1]? = some (.loop (rc .done (some x.code)))) ∧ W.heap[w.heap.size]? = some (.deferred (some [])))
  W1 (hc1.weak fun _ _ h=>h.elim) ?_ ?_ ?_ ⟨⟨e0,G0,h0,hI0,st1⟩,hL1,hK1⟩).mono ?_)
 ·rintro k X Y ⟨⟨e1,g1,h1,hi,st⟩,hl,hk⟩ hXY
  exact ⟨⟨e1,g1,h1,hi,st.tr (Tr.keep st.T.ok hXY)⟩,(hXY.block _ (Array.getElem?_eq_some_iff.1 hl).1 (fun h=>h)).trans hl,(hXY.block _ (Array.getElem?_eq_some_iff.1 hk).1 (fun h=>h)).trans hk⟩
 ·rintro k X Y ⟨⟨x,e1,g1,h1,hx,hi,st,hl⟩,hk⟩ hXY
  exact ⟨⟨x,e1,g1,h1,hx,hi,st.tr (Tr.keep st.T.ok hXY),(hXY.block _ (Array.getElem?_eq_some_iff.1 hl).1 (fun h=>h)).trans hl⟩,(hXY.block _ (Array.getElem?_eq_some_iff.1 hk).1 (fun h=>h)).trans hk⟩
 ·-- a round
  rintro k vs W hkL ⟨⟨e1,g1,h1,hi,st⟩,hl,hk⟩ hcW hvs hreps
  have hmem:L.getD k [] ∈ L:=by
   rw [show L.getD k [] = L[k] by simp [List.getD,hkL]];exact List.getElem_mem _
  have hLk:=hlen _ hmem
  have hy:=run_yield (P:=P) (args:=vs) hl (by rw [hrc];simpa using hvs.trans hLk)
  rw [hrc] at hy
  have hfold:(ps.zip vs).foldl (fun tmps (x:Nat × Value)=>tmps.setIfInBounds x.1 x.2) a.tmps = (ps.toList.zip vs.toList).foldl (fun tmps (x:Nat × Value)=>tmps.setIfInBounds x.1 x.2) a.tmps:=by
   rw [← Array.foldl_toList];simp
  have relA:Rel F n g1 h1 W (putL e1 ps.toList (L.getD k [])) h1 { tmps:=(ps.zip vs).foldl (fun tmps (x:Nat × Value)=>tmps.setIfInBounds x.1 x.2) a.tmps,defers:=[] } W:=by
   refine ⟨⟨g1,Tr.refl st.T.ok,fun t=>?_⟩,Marks.nil _ _,?_,fun d p hp=>st.T.ok.lt hp⟩
   ·simp only [hfold]
    refine puts_rep ps.toList vs.toList _ a.tmps e1 (fun p hp=>by rw [sz];exact hps p hp) (by simpa using hvs.trans hLk) (by simpa using hLk) (fun i x hx=>?_) st.v t
    have:=hreps i x hx
    have e2:vs.getD i undef = vs.toList.getD i undef:=by simp [List.getD]
    rw [e2] at this
    exact rep_mono (Chg.refl _ W) (fun b _ hb=>sub st.T b hb) _ (g0_le g1) this
   ·simp only [hfold,puts_fold];exact sz
  refine ⟨fnid,_,A,B,hy,roundIn_of_wpIn hfn (wpIn_mono (iA _ g1 h1 W _ _ _ _ _ (hround k e1 h1 hkL hi) relA) ?_)⟩
  rintro ex a1 w1 ⟨ax,e',h',rfl,hq,hr1⟩
  cases ax with
  | exit id=>exact hq.elim
  | ret=>exact hq.elim
  | normal =>
  obtain ⟨⟨g',T1,hv1⟩,dn1,sz1,_⟩:=hr1
  have hl1:=T1.keepObj st.T.ok hl rfl
  refine ⟨_,run_beginRound hl1 (by rw [hrc]),?_⟩
  have stB:RSt F a.tmps G0 h0 w e1 g1 h1 (W.putObj (w.heap.size + 1) (.loop { rc .ready none with state:=.busy })):=st.obj hl rfl (by omega)
  have TB:=T1.obj2 (x:=.loop { rc .ready none with state:=.busy }) st.T.ok hl rfl hl1 rfl
  have hlB:(W.putObj (w.heap.size + 1) (.loop { rc .ready none with state:=.busy })).heap[w.heap.size + 1]? = some (.loop { rc .ready none with state:=.busy }):=World.putObj_heap_same (Array.getElem?_eq_some_iff.1 hl).1
  have hkB:(W.putObj (w.heap.size + 1) (.loop { rc .ready none with state:=.busy })).heap[w.heap.size]? = some (.deferred (some [])):=(World.putObj_heap_other (by omega)).trans hk
  have relB:Rel F n g1 h1 (W.putObj (w.heap.size + 1) (.loop { rc .ready none with state:=.busy })) e' h' a1 (w1.putObj (w.heap.size + 1) (.loop { rc .ready none with state:=.busy })):=by
   refine ⟨⟨g',TB,fun t=>rep_keepc (by simp) (cells_putObj hl1 rfl) _ (hv1 t)⟩,?_,sz1,fun d p hp=>st.T.ok.lt hp⟩
   obtain ⟨Ds,d1,d2,d3⟩:=dn1.ex
   refine ⟨Ds,d1,d2,fun D hD=>⟨by simpa using (d3 D hD).1,?_⟩⟩
   have hne:D ≠ w.heap.size + 1:=fun e=>by
    have:=(d3 D hD).1
    have:=(Array.getElem?_eq_some_iff.1 hl).1
    omega
   rw [World.putObj_heap_other hne];exact (d3 D hD).2
  refine wpIn_mono (iB _ g1 h1 _ _ _ _ _ _ hq relB) ?_
  rintro ex a3 w3 ⟨ax,e3,h3,rfl,hq3,hr3⟩
  obtain ⟨⟨g3,T3,hv3⟩,_,_,_⟩:=hr3
  have st3:=stB.tr T3
  have hl3:=T3.keepObj stB.T.ok hlB rfl
  have hk3:=T3.keepObj stB.T.ok hkB rfl
  have hend:=fun (jump:Option Code)=>run_endRound (P:=P) jump hl3
  have lt3:=(Array.getElem?_eq_some_iff.1 hl3).1
  have st4:∀ o',RSt F a.tmps G0 h0 w e1 g3 h3 (w3.putObj (w.heap.size + 1) o'):=fun o'=>st3.obj hl3 rfl (by omega)
  cases ax with
  | normal =>
   obtain ⟨e2,h2,hw2,hi2⟩:=hq3
   have s4:=st4 (.loop (rc .ready none))
   obtain ⟨⟨g4,T4,hv4⟩,_,_,_⟩:=hw2 F n G0 h0 w { tmps:=a.tmps,defers:=[] } _ rfl ⟨⟨g3,s4.T,s4.v⟩,Marks.nil _ _,sz,fun d p hp=>T0.ok.lt hp⟩
   refine ⟨_,_,hend none,.inl ⟨rfl,⟨⟨e2,g4,h2,hi2,by rw [hrc] at T4 hv4 ⊢;exact ⟨T4,hv4⟩⟩,by rw [World.putObj_heap_same lt3,hrc];rfl,(World.putObj_heap_other (by omega)).trans hk3⟩,?_⟩⟩
   have c1:Chg M W (W.putObj (w.heap.size + 1) (.loop { rc .ready none with state:=.busy })):=⟨rfl,rfl,rfl,by simp,fun b hb hn=>World.putObj_heap_other (fun e=>hn ((hM b).2 (.inr (by omega))))⟩
   have c2:Chg M (W.putObj (w.heap.size + 1) (.loop { rc .ready none with state:=.busy })) w3:=T3.chg.weak fun b _ hb=>sub st.T b (.inr hb)
   exact (c1.trans c2 (fun _ _ h=>h)).trans ⟨rfl,rfl,rfl,by simp,fun b hb hn=>World.putObj_heap_other (fun e=>hn ((hM b).2 (.inr (by omega))))⟩ (fun _ _ h=>h)
  | exit id =>
   refine ⟨_,_,hend (some (.exit id)),.inr ⟨rfl,⟨.exit id,e1,g3,h3,by simp,hq3,st4 _,by rw [World.putObj_heap_same lt3,hrc];rfl⟩,(World.putObj_heap_other (by omega)).trans hk3⟩⟩
  | ret =>
   refine ⟨_,_,hend (some .ret),.inr ⟨rfl,⟨.ret,e1,g3,h3,by simp,hq3,st4 _,by rw [World.putObj_heap_same lt3,hrc];rfl⟩,(World.putObj_heap_other (by omega)).trans hk3⟩⟩
 ·-- behind the loop
  obtain ⟨Ds,d1,d2,d3⟩:=dn.ex
  have rel:∀ {e1:Env} {g1:GM} {h1:List AB} {W:World},RSt F a.tmps G0 h0 w e1 g1 h1 W → W.heap[w.heap.size]? = some (.deferred (some [])) → Rel F n gS hS wS e1 h1 { a with defers:=[{ target:=.collected w.heap.size,args:=#[] }] ++ a.defers } W:=fun {e1 g1 h1 W} st hk=>by
   refine ⟨⟨g1,T0.trans st.T,st.v⟩,⟨w.heap.size :: Ds,by rw [d1];rfl,List.nodup_cons.2 ⟨fun hD=>?_,d2⟩,fun D hD=>?_⟩,sz,dm⟩
   ·have:=(Array.getElem?_eq_some_iff.1 (d3 _ hD).2).1;omega
   ·rcases List.mem_cons.1 hD with rfl|hD
    ·exact ⟨T0.chg.size,hk⟩
    ·exact ⟨(d3 D hD).1,st.T.keepObj T0.ok (d3 D hD).2 rfl⟩
  rintro en W2 ⟨⟨v,rfl⟩,⟨⟨e1,g1,h1,hi,st⟩,hl,hk⟩|⟨k,hkL,⟨x,e1,g1,h1,hx,hi,st,hl⟩,hk⟩⟩
  ·refine ⟨none,_,by have:=run_endLoop (P:=P) hl (by rw [hrc];simp);rw [hrc] at this;exact this,?_⟩
   refine ⟨.normal,e1,h1,rfl,hdone e1 h1 hi,rel (st.obj hl rfl (by omega)) ((World.putObj_heap_other (by omega)).trans hk)⟩
  ·refine ⟨some x.code,_,by have:=run_endLoop (P:=P) hl (by rw [hrc];simp);rw [hrc] at this;exact this,?_⟩
   have hR:=rel (st.obj (o':=.loop { rc .done (some x.code) with state:=.exhausted }) hl rfl (by omega)) ((World.putObj_heap_other (by omega)).trans hk)
   rw [hrc] at hR
   cases x with
   | normal=>exact (hx rfl).elim
   | exit id=>exact wpIn_exit ⟨.exit id,e1,h1,rfl,hi,hR⟩
   | ret=>exact wpIn_ret ⟨.ret,e1,h1,rfl,hi,hR⟩
theorem wpIn_scope {Fc:Fence} {md:Nat} {PP:Program} {Q:Exit → Act → World → Prop} {a:Act} {w:World} {c:Code} (h:c.wpIn Fc md PP (Exit.noGoto Q) a w):(Code.scope c).wpIn Fc md PP Q a w:=by
 intro b k cs hro hb hr
 have h0:(lone (b.atR a (.code (.scope c) :: k)) cs w).fenced PP Fc:=fenced_calm hb hr rfl
 have s1:step PP (lone (b.atR a (.code (.scope c) :: k)) cs w) = .next (lone (b.atR a (.code c :: .inScope c :: k)) cs w):=step_lone_go (by simp [stepG,stepG.exec,Frame.atR])
 have s2:∀ {a' w'},step PP (lone (b.atR a' (.inScope c :: k)) cs w') = .next (lone (b.atR a' k) cs w'):=step_lone_go (by simp [stepG,stepG.exec,Frame.atR])
 obtain ⟨e,a₁,w₁,hq,harr⟩:=h b (.inScope c :: k) cs hro hb hr
 cases e with
 | normal=>exact ⟨.normal,a₁,w₁,hq,.head h0 s1 (StepsIn.trans harr (.one (fenced_calm hb hr rfl) s2))⟩
 | exit id =>
  have hx:exitTo id (.inScope c :: k) = exitTo id k:=by simp [exitTo]
  exact ⟨.exit id,a₁,w₁,hq,fun k' hk=>.head h0 s1 (harr.1 k' (by rw [hx];exact hk)),
   fun hr' hk=>let ⟨k₁,h1,h2⟩:=harr.2 hr' (by rw [hx];exact hk);⟨k₁,h1,.head h0 s1 h2⟩⟩
 | goto l=>exact hq.elim
 | ret=>exact ⟨_,a₁,w₁,hq,.of_steps (.one h0 s1) harr⟩
 | panic ch=>exact ⟨_,a₁,w₁,hq,.of_steps (.one h0 s1) harr⟩
 | outgrown=>exact ⟨_,a₁,w₁,hq,.of_steps (.one h0 s1) harr⟩
theorem code_ok (hm:P.follows .mixedOrders = true) {hs:Hints}:∀ (c:Code) (_:okCode P n hs c = true) {rd:Option Nat} {md:Nat} (_:rd = none ∨ noRf c = true) {gS:GM} {hS:List AB} {wS:World} {N:Nat} (_:hS.length = N) (Q:AEx → Env → List AB → Prop) (e:Env) (h:List AB) (a:Act) (w:World),awp (ACalls P) N (acomp P n hs c) Q e h → Rel F n gS hS wS e h a w → c.wpIn (Wd rd) md P (PostR F n gS hS wS Q) a w:=by
 intro c
 induction c with
 | skip=>intro hk rd md hrd gS hS wS N hSN Q e h a w H hr;exact wpIn_skip ⟨.normal,e,h,rfl,H,hr⟩
 | label l=>intro hk rd md hrd gS hS wS N hSN Q e h a w H hr;exact wpIn_label ⟨.normal,e,h,rfl,H,hr⟩
 | exit id=>intro hk rd md hrd gS hS wS N hSN Q e h a w H hr;exact wpIn_exit ⟨.exit id,e,h,rfl,H,hr⟩
 | ret=>intro hk rd md hrd gS hS wS N hSN Q e h a w H hr;exact wpIn_ret ⟨.ret,e,h,rfl,H,hr⟩
 | region id ops d =>
  intro hk rd md hrd gS hS wS N hSN Q e h a w H hr
  simp only [acomp] at H
  simp only [okCode] at hk
  split at H
  ·rename_i T hT
   rw [hT] at hk
   simp only [Bool.and_eq_true] at hk
   obtain ⟨rfl,hk⟩:=hk
   split at H
   ·rename_i l hl
    split at H
    ·obtain ⟨e2,h2,hw,H2⟩:=H
     exact regT_ok hm hk hl (fun e h a w hq hr=>⟨.normal,e,h,rfl,hq,hr⟩) H2 (hw _ _ _ _ _ _ _ hSN hr)
    ·exact regT_ok hm hk hl (fun e h a w hq hr=>⟨.normal,e,h,rfl,hq,hr⟩) H hr
   ·exact H.elim
  rename_i hT
  rw [hT] at hk
  simp only at hk
  split at H
  ·rename_i l hl
   split at H
   ·obtain ⟨e2,h2,hw,H2⟩:=H
    exact reg_ok hm hk hl (fun e h a w hq hr=>⟨.normal,e,h,rfl,hq,hr⟩) H2 (hw _ _ _ _ _ _ _ hSN hr)
   ·exact reg_ok hm hk hl (fun e h a w hq hr=>⟨.normal,e,h,rfl,hq,hr⟩) H hr
  ·exact H.elim
 | seq x y ix iy =>
  intro hk rd md hrd gS hS wS N hSN Q e h a w H hr
  simp only [okCode,noRf,Bool.and_eq_true] at hk hrd
  refine wpIn_seq (wpIn_mono (ix hk.1 (hrd.imp id fun h=>h.1) hSN _ e h a w H hr) ?_)
  rintro ex a1 w1 ⟨ax,e1,h1,rfl,hq,hr1⟩
  cases ax with
  | normal=>exact iy hk.2 (hrd.imp id fun h=>h.2) hSN Q e1 h1 a1 w1 hq hr1
  | exit id=>exact ⟨.exit id,e1,h1,rfl,hq,hr1⟩
  | ret=>exact ⟨.ret,e1,h1,rfl,hq,hr1⟩
 | cond c x y ix iy =>
  intro hk rd md hrd gS hS wS N hSN Q e h a w H hr
  simp only [okCode,noRf,Bool.and_eq_true] at hk hrd
  obtain ⟨g,T,hv⟩:=hr.ex
  have hc:=rep_eval hv c
  simp only [acomp,awp] at H
  generalize AX.ev e (cx c) = v at H hc
  cases v <;> simp only at H
  rename_i q
  rcases acond_e H with ⟨rfl,h1⟩|⟨rfl,h1⟩
  ·exact wpIn_cond_true hc (ix hk.1 (hrd.imp id fun h=>h.1) hSN Q e h a w h1 hr)
  ·exact wpIn_cond_false hc (iy hk.2 (hrd.imp id fun h=>h.2) hSN Q e h a w h1 hr)
 | block id c ic =>
  intro hk rd md hrd gS hS wS N hSN Q e h a w H hr
  refine wpIn_block (wpIn_mono (ic hk hrd hSN _ e h a w H hr) ?_)
  rintro ex a1 w1 ⟨ax,e1,h1,rfl,hq,hr1⟩
  cases ax with
  | normal=>exact ⟨.normal,e1,h1,rfl,hq,hr1⟩
  | exit id' =>
   simp only [AEx.inBlock] at hq
   simp only [AEx.ex,Exit.inBlock]
   split
   ·rename_i he
    rw [if_pos he] at hq
    exact ⟨.normal,e1,h1,rfl,hq,hr1⟩
   ·rename_i he
    rw [if_neg he] at hq
    exact ⟨.exit id',e1,h1,rfl,hq,hr1⟩
  | ret=>exact ⟨.ret,e1,h1,rfl,hq,hr1⟩
 | loop c ic =>
  intro hk rd md hrd gS hS wS N hSN Q e h a w H hr
  obtain ⟨I,μ,⟨e0,h0,hwk,hI⟩,round⟩:=H
  have hr0:=hwk _ _ _ _ _ _ _ hSN hr
  let In:Act → World → Nat → Prop:=fun a w k=>∃ e h,I e h ∧ Rel F n gS hS wS e h a w ∧ μ e h = k
  have min:∀ a w,(∃ k,In a w k) → ∃ k,In a w k ∧ ∀ k',In a w k' → k ≤ k':=by
   intro a w hk
   obtain ⟨k,hk⟩:=hk
   induction k using Nat.strongRecOn with
   | _ k ih =>
    by_cases hlt:∃ k',k' < k ∧ In a w k'
    ·obtain ⟨k',h1,h2⟩:=hlt
     exact ih k' h1 h2
    ·exact ⟨k,hk,fun k' hk'=>Nat.le_of_not_lt fun h=>hlt ⟨k',h,hk'⟩⟩
  refine wpIn_loop (fun a w=>∃ k,In a w k) (fun a w=>open Classical in if h:∃ k,In a w k then (min a w h).choose else 0) ⟨_,e0,h0,hI,hr0,rfl⟩ ?_
  intro a1 w1 hk1
  obtain ⟨⟨e1,h1,hI1,hr1,hμ⟩,hmin⟩:=(min a1 w1 hk1).choose_spec
  refine wpIn_mono (ic hk hrd hSN _ e1 h1 a1 w1 (round e1 h1 hI1) hr1) ?_
  rintro ex a2 w2 ⟨ax,e2,h2,rfl,hq,hr2⟩
  cases ax with
  | normal =>
   obtain ⟨e3,h3,hwk3,hI3,hlt⟩:=hq
   have hr3:=hwk3 _ _ _ _ _ _ _ hSN hr2
   have hex:∃ k,In a2 w2 k:=⟨_,e3,h3,hI3,hr3,rfl⟩
   refine ⟨hex,?_⟩
   rw [dif_pos hex,dif_pos hk1,← hμ]
   exact Nat.lt_of_le_of_lt ((min a2 w2 hex).choose_spec.2 _ ⟨e3,h3,hI3,hr3,rfl⟩) hlt
  | exit id=>exact ⟨.exit id,e2,h2,rfl,hq,hr2⟩
  | ret=>exact ⟨.ret,e2,h2,rfl,hq,hr2⟩
 | rangeFunc g ps x y ix iy =>
  intro hk rd md hrd gS hS wS N hSN Q e h a w H hr
  have hrd:rd = none:=hrd.resolve_right (by simp [noRf])
  subst hrd
  simp only [okCode,Bool.and_eq_true] at hk
  simp only [acomp] at H
  split at H
  ·rename_i hb
   simp only [Bool.and_eq_true,List.all_eq_true,decide_eq_true_eq] at hb
   exact range_ok hb.2 (fun l gS hS wS Q e h a w H hr=>ix hk.1 (.inr hb.1.1) rfl Q e h a w H hr) (fun l gS hS wS Q e h a w H hr=>iy hk.2 (.inr hb.1.2) rfl Q e h a w H hr) hSN H hr
  ·exact H.elim
 | scope c ic =>
  intro hk rd md hrd gS hS wS N hSN Q e h a w H hr
  refine wpIn_scope (wpIn_mono (ic hk hrd hSN Q e h a w H hr) ?_)
  rintro ex a1 w1 ⟨ax,e1,h1,rfl,hq,hr1⟩
  cases ax with
  | normal=>exact ⟨.normal,e1,h1,rfl,hq,hr1⟩
  | exit id=>exact ⟨.exit id,e1,h1,rfl,hq,hr1⟩
  | ret=>exact ⟨.ret,e1,h1,rfl,hq,hr1⟩
 | goto=>intro hk rd md hrd gS hS wS N hSN Q e h a w H hr;exact H.elim
 | refuse=>intro hk rd md hrd gS hS wS N hSN Q e h a w H hr;exact H.elim
end

inductive ARes where
 | tmp (t:Nat)
 | cell (t:Nat) (m:Option Nat)
def compRes (P:Program):List ResultVar → Option (List ARes)
 | []=>some []
 | .tmp t :: rs=>(compRes P rs).map (.tmp t :: ·)
 | .cell t ty :: rs=>match tyAgg P ty,tySz P ty,compRes P rs with
  | some true,some m,some l=>some (.cell t (some m) :: l)
  | some false,_,some l=>some (.cell t none :: l)
  | _,_,_=>none
def ares : List ARes → Env → List AB → (List AV → Prop) → Prop
 | [],_,_,K=>K []
 | .tmp t :: rs,e,h,K=>ares rs e h (fun l=>K (e t :: l))
 | .cell t m :: rs,e,h,K=>aop (.ld m (.t t)) (AX.ev e) h (fun v _=>ares rs e h (fun l=>K (v :: l)))
def tupOf : List AV → AV
 | [v]=>v
 | l=>.tup l.length (ofL l)
def afin (rs:List ARes) (K:AV → List AB → Prop):AEx → Env → List AB → Prop
 | .exit _,_,_=>False
 | _,e,h=>ares rs e h (fun l=>K (tupOf l) h)
def eArgs (xs:List AV):Env:=fun t=>xs.getD t und

section
variable {F:Nat → Prop} {P:Program}
theorem ld_pointer {m:Option Nat} {v:AV} {M:Nat → Prop} {w:World} {g:GM} {u:Value} {h:List AB} {K:AV → List AB → Prop} {x:AX} {e:AX → AV} (hx:e x = v) (H:aop (.ld m x) e h K) (hr:rep M w v g u):∃ a,u = .pointer (some a):=by
 cases m <;> simp only [aop] at H <;> rw [hx] at H <;> cases v <;> simp only at H <;> first|(obtain ⟨b,c,rfl,_⟩:=hr;exact ⟨_,rfl⟩)|(obtain ⟨b,c,_,rfl⟩:=hr;exact ⟨_,rfl⟩)
def resOf (tmps:Array Value):ResultVar → Sem Value
 | .tmp t=>pure (tmps.getD t undef)
 | .cell a t=>do loadVar t (← asAddr (tmps.getD a undef))
theorem results_eq (fn:Func) (tmps:Array Value):results fn tmps = (do
  let vs ← fn.results.mapM (resOf tmps)
  pure (if h:vs.size = 1 then vs[0] else .tuple vs)):=by
 unfold results
 congr 1
theorem ares_ok {g:GM} {h:List AB} {w:World} {e:Env} {tmps:Array Value} (hok:HOK F g w h) (hv:∀ t,rep (MM F g h) w (e t) g (tmps.getD t undef)):∀ (rvs:List ResultVar) (rs:List ARes) (K:List AV → Prop),compRes P rvs = some rs → ares rs e h K →
  ∃ vs l,(rvs.mapM (resOf tmps):Sem (List Value)).run P w = .ok vs w ∧ vs.length = l.length ∧ (∀ i (x:AV),l[i]? = some x → rep (MM F g h) w x g (vs.getD i undef)) ∧ K l
 | [],rs,K,hc,H=>by
  cases hc
  exact ⟨[],[],by simp,rfl,fun i x hx=>(by simp at hx),H⟩
 | .tmp t :: rvs,rs,K,hc,H=>by
  simp only [compRes] at hc
  cases hrs:compRes P rvs with
  | none=>rw [hrs] at hc;cases hc
  | some rs' =>
   rw [hrs] at hc
   cases hc
   obtain ⟨vs,l,h1,h2,h3,h4⟩:=ares_ok hok hv rvs rs' _ hrs H
   refine ⟨tmps.getD t undef :: vs,e t :: l,by simp only [List.mapM_cons,resOf,Sem.run_bind,Sem.run_pure,Result.andThen_ok,h1],by simp [h2],fun i x hx=>?_,h4⟩
   cases i with
   | zero=>simp only [List.getElem?_cons_zero,Option.some.injEq] at hx;subst hx;exact hv t
   | succ i=>exact h3 i x hx
 | .cell t ty :: rvs,rs,K,hc,H=>by
  have key:∀ (m:Option Nat) (rs':List ARes),compRes P rvs = some rs' → rs = .cell t m :: rs' → ((m = none ∧ tyAgg P ty = some false) ∨ ∃ k,m = some k ∧ tyAgg P ty = some true ∧ tySz P ty = some k) →
    ∃ vs l,((.cell t ty :: rvs).mapM (resOf tmps):Sem (List Value)).run P w = .ok vs w ∧ vs.length = l.length ∧ (∀ i (x:AV),l[i]? = some x → rep (MM F g h) w x g (vs.getD i undef)) ∧ K l:=by
   rintro m rs' hrs rfl hm
   simp only [ares] at H
   obtain ⟨r,h',e1,e2⟩:=aop_one _ _ _ _ H
   obtain ⟨u,hrun,hu,_⟩:=val_ld (P:=P) (t:=ty) (v:=e t) (m':=m) hok hm (hv t) (by cases m <;> exact e1)
   obtain ⟨ad,had⟩:=ld_pointer (x:=.t t) (e:=AX.ev e) rfl e1 (hv t)
   obtain ⟨vs,l,h1,h2,h3,h4⟩:=ares_ok hok hv rvs rs' _ hrs e2
   rw [had] at hrun
   have hrun':(loadVar ty ad).run P w = .ok u w:=by simpa [Instr.loadAt,Instr.sureAddr] using hrun
   refine ⟨u :: vs,r :: l,by simp only [List.mapM_cons,resOf,Sem.run_bind,had,asAddr,Sem.run_pure,Result.andThen_ok,hrun',h1],by simp [h2],fun i x hx=>?_,h4⟩
   cases i with
   | zero=>simp only [List.getElem?_cons_zero,Option.some.injEq] at hx;subst hx;exact hu
   | succ i=>exact h3 i x hx
  simp only [compRes] at hc
  split at hc
  ·rename_i m l h1 h2 h3
   cases hc
   exact key _ _ h3 rfl (.inr ⟨m,rfl,h1,h2⟩)
  ·rename_i o l h1 h3
   cases hc
   exact key _ _ h3 rfl (.inl ⟨rfl,h1⟩)
  ·cases hc

/-- The marks are taken off, one by one. -/
theorem leaves_marks {g g':GM} {h h':List AB} {w:World} {e:Env} {fn:Func} {tmps:Array Value} {R:Ending → World → Prop}:∀ (Ds:List Nat) (_:Ds.Nodup) {W:World} (_:Tr F g h w g' h' W) (_:∀ t,rep (MM F g' h') W (e t) g' (tmps.getD t undef)) (_:∀ D ∈ Ds,w.heap.size ≤ D ∧ W.heap[D]? = some (.deferred (some [])))
  (_:∀ w2,Tr F g h w g' h' w2 → (∀ t,rep (MM F g' h') w2 (e t) g' (tmps.getD t undef)) → ∃ v,(results fn tmps).run P w2 = .ok v w2 ∧ R (.returned v) w2),LeavesInM Fence.wide 0 P fn tmps R (Ds.map fun D=>{ target:=.collected D,args:=#[] }) .returning W
 | [],_,W,T,hv,_,K=>K W T hv
 | D :: Ds,hnd,W,T,hv,hD,K=>by
  obtain ⟨h1,h2⟩:=hD D List.mem_cons_self
  rw [List.nodup_cons] at hnd
  refine ⟨by simp,.inl ⟨D,_,rfl,run_takeDeferred h2,?_⟩⟩
  refine leaves_marks Ds hnd.2 (T.obj h2 rfl h1) (fun t=>rep_keepc (by simp) (cells_putObj h2 rfl) _ (hv t)) (fun D' hD'=>⟨(hD D' (List.mem_cons_of_mem _ hD')).1,?_⟩) K
  rw [World.putObj_heap_other (fun e=>hnd.1 (by rw [← e];exact hD'))]
  exact (hD D' (List.mem_cons_of_mem _ hD')).2
/-- A function's text, read: what a call of it does. -/
theorem acall_of (hm : P.follows .mixedOrders = true) {f : FuncId} {fn : Func} {c : Code} (hf : P.funcs[f]? = some fn) (hb : fn.body = some c) (hn : (fn.name == "runtime.NumGoroutine") = false) {hs : Hints} (hk : okCode P fn.ntmps hs c = true) {ac : ACo} (hc : acomp P fn.ntmps hs c = ac) {rs : List ARes} (hrs : compRes P fn.results.toList = some rs)
  {xs:List AV} {h:List AB} {K:AV → List AB → Prop} (hl:xs.length ≤ fn.ntmps) (H:awp (ACalls P) h.length ac (afin rs K) (eArgs xs) h):ACall P f xs h K:=by
 refine ⟨⟨fn,hf,hn,by rw [hb];rfl⟩,fun F g w vs hok hsz hv=>callsIn_wide (n:=0).1 (callsIn_of_wp_marks hf hb trivial ?_)⟩
 subst hc
 have hr:Rel F fn.ntmps g h w (eArgs xs) h { tmps:=vs ++ Array.replicate (fn.ntmps - vs.size) undef,defers:=[] } w:=by
  refine ⟨⟨g,Tr.refl hok,fun t=>?_⟩,Marks.nil _ _,by simp;omega,fun d p hp=>hok.lt hp⟩
  rcases Nat.lt_or_ge t xs.length with ht|ht
  ·have h1:xs[t]? = some xs[t]:=List.getElem?_eq_getElem ht
   have h2:=hv t _ h1
   have:(vs ++ Array.replicate (fn.ntmps - vs.size) undef).getD t undef = vs.getD t undef:=by
    simp [Array.getElem?_append_left (xs:=vs) (ys:=Array.replicate (fn.ntmps - vs.size) undef) (i:=t) (by omega)]
   rw [this]
   simpa [eArgs,h1] using h2
  ·have:(vs ++ Array.replicate (fn.ntmps - vs.size) undef).getD t undef = undef:=by
    by_cases hlt:t < fn.ntmps
    ·simp [Array.getElem?_append_right (xs:=vs) (ys:=Array.replicate (fn.ntmps - vs.size) undef) (i:=t) (by omega),show t - vs.size < fn.ntmps - vs.size by omega]
    ·simp [Array.getElem?_append_right (xs:=vs) (ys:=Array.replicate (fn.ntmps - vs.size) undef) (i:=t) (by omega),show ¬ t - vs.size < fn.ntmps - vs.size by omega]
   rw [this]
   have:eArgs xs t = und:=by simp [eArgs,List.getElem?_eq_none ht]
   rw [this]
   exact rep_undef
 refine wpIn_mono (code_ok (rd:=none) (md:=0) hm c hk (.inl rfl) rfl _ _ _ _ _ H hr) ?_
 rintro ex a w' ⟨ax,e,h',rfl,hq,hr'⟩
 have key:ares rs e h' (fun l=>K (tupOf l) h') → LeavesInM Fence.wide 0 P fn a.tmps (fun en w'=>∃ v r h' g',en = .returned v ∧ Tr F g h w g' h' w' ∧ rep (MM F g' h') w' r g' v ∧ K r h') a.defers .returning w':=fun hq=>by
  obtain ⟨⟨g',T,hv'⟩,dn,sz,_⟩:=hr'
  obtain ⟨Ds,hds,hnd,hD⟩:=dn.ex
  rw [hds]
  refine leaves_marks Ds hnd (W:=w') T hv' (fun D hD'=>hD D hD') fun w2 T2 hv2=>?_
  obtain ⟨vs',l,h1,h2,h3,h4⟩:=ares_ok (P:=P) T2.ok hv2 fn.results.toList rs _ hrs hq
  refine ⟨if hh:vs'.toArray.size = 1 then vs'.toArray[0] else .tuple vs'.toArray,?_,_,tupOf l,h',g',rfl,T2,?_,h4⟩
  ·rw [results_eq,Array.mapM_eq_mapM_toList]
   simp only [Sem.run_bind,Sem.run_map,h1,Result.andThen_ok,Sem.run_pure]
  ·match vs',l,h2,h3 with
   | [u],[x],_,h3=>exact h3 0 x rfl
   | [],[],_,_=>exact ⟨#[],rfl,rfl,fun i hi=>by simp at hi⟩
   | u :: u2 :: us,x :: x2 :: xs',h2,h3 =>
    refine ⟨_,rfl,by simpa using h2,fun i hi=>⟨(u :: u2 :: us).getD i undef,?_,?_⟩⟩
    ·have:i < (u :: u2 :: us).length:=by rw [h2];exact hi
     simp [List.getElem?_eq_getElem this]
    ·have:=h3 i ((x :: x2 :: xs')[i]) (List.getElem?_eq_getElem hi)
     rw [ofL_get (List.getElem?_eq_getElem hi)]
     exact this
 cases ax with
 | normal=>exact key hq
 | ret=>exact key hq
 | exit id=>exact hq.elim
end
end Go.Proofs.Ytbhjehpjjbbhbaa
