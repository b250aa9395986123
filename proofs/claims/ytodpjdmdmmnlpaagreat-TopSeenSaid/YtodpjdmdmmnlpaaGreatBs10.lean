/- One operation of a region, read over abstract values, in a real run / Regions, read over abstract values, in a real run: the order of a region that draws it counts for nothing -/
import Derived.Test.YtodpjdmdmmnlpaaGreatBs9
import Derived.RangeFuncWrites
import Derived.RangeFuncLeaves
import Derived.OrdersIn
import Derived.TacticsIn

namespace Go.Proofs.YtodpjdmdmmnlpaaGreat
open Go.RowKit

/-- A call, over abstract values: whatever its real arguments and world are, it returns, and what it returns and leaves is as K says. -/
def ACall (P:Program) (f:FuncId) (xs:List AV) (h:List AB) (K:AV → List AB → Prop):Prop :=
 (∃ fn, P.funcs[f]? = some fn ∧ (fn.name == "runtime.NumGoroutine") = false ∧ fn.body.isNone = false) ∧
 ∀ (F:Nat → Prop) (g:GM) (w:World) (vs:Array Value),HOK F g w h → vs.size = xs.length → (∀ (i:Nat) (x:AV),xs[i]? = some x → rep (MM F g h) w x g (vs.getD i undef)) →
  Calls P f vs w fun en w'=>∃ v r h' g',en = .returned v ∧ Tr F g h w g' h' w' ∧ rep (MM F g' h') w' r g' v ∧ K r h'
theorem ACall.mono' (P:Program) {f:FuncId} {xs:List AV} {h:List AB} {K K':AV → List AB → Prop} (hk:∀ r h',K r h' → K' r h') (H:ACall P f xs h K):ACall P f xs h K' :=
 ⟨H.1,fun F g w vs k hs hv=>(H.2 F g w vs k hs hv).mono fun _ _ ⟨v,r,h',g',a,b,c,d⟩=>⟨v,r,h',g',a,b,c,hk _ _ d⟩⟩

/-- All rights; in a round of a loop over a function, or not. -/
def Wd (r:Option Nat):Fence:={ Fence.wide with round:=r }
theorem Wd.calls {r:Option Nat} {m:Nat} {P:Program} {f:FuncId} {vs:Array Value} {w:World} {R:Ending → World → Prop} (h:Calls P f vs w R):CallsIn (Wd r) m P f vs w R:=callsIn_wide (n:=m).2 h
theorem Wd.deep (r:Option Nat) {p:Prop} (h:(Wd r).depth.isSome = true):p:=by simp [Wd,Fence.wide] at h
/-- The arguments of a function that yields: its yield in front of what it has caught, or behind what it is bound to. -/
def argsOf (mv:Bool) (cs:Array Value) (y:Value):Array Value:=match mv with
 | false=>#[y] ++ cs
 | true=>cs ++ #[y]
/-- A function that yields values, over abstract values: it yields those of L, one after another, until a round says no more; it changes nothing itself. -/
def AIterM (mv:Bool) (P:Program) (f:FuncId) (caps:List AV) (L:List (List AV)):Prop :=
 (∃ fn, P.funcs[f]? = some fn ∧ (fn.name == "runtime.NumGoroutine") = false ∧ fn.body.isNone = false) ∧
 ∀ (M:Nat → Prop) (w0:World) (cs:Array Value),cs.size = caps.length → (∀ (i:Nat) (x:AV),caps[i]? = some x → rep M w0 x g0 (cs.getD i undef)) →
 ∀ (l:Nat) (J Jx:Nat → World → Prop) (W:World),Chg M w0 W → (∀ k A B,J k A → Chg (fun _=>False) A B → J k B) → (∀ k A B,Jx k A → Chg (fun _=>False) A B → Jx k B) →
  (∀ k (vs:Array Value) W1,k < L.length → J k W1 → Chg M w0 W1 → vs.size = (L.getD k []).length → (∀ (i:Nat) (x:AV),(L.getD k [])[i]? = some x → rep M W1 x g0 (vs.getD i undef)) →
   YieldAt (Wd none) 0 P l vs W1 fun e W'=>(e = .returned (.bool true) ∧ J (k + 1) W' ∧ Chg M W1 W') ∨ (e = .returned (.bool false) ∧ Jx k W')) →
  J 0 W →
  CallsIn (Wd none) 0 P f (argsOf mv cs (.func (.yield l) #[] #[])) W fun e W'=>(∃ v,e = .returned v) ∧ (J L.length W' ∨ ∃ k,k < L.length ∧ Jx k W')
abbrev AIter (P:Program) (f:FuncId) (caps:List AV) (L:List (List AV)):Prop:=AIterM false P f caps L
def ACalls (P:Program):CallP:=⟨ACall P,fun mv=>AIterM mv P⟩
theorem ACalls.mono (P:Program):CallP.Mono (ACalls P):=fun _ _ _ _ _ hk H=>ACall.mono' P hk H
/-- The marks that loops over functions have left. -/
structure Marks (wS w:World) (ds:List Deferred):Prop where
 ex:∃ Ds:List Nat,ds = Ds.map (fun D=>{ target:=.collected D,args:=#[] }) ∧ Ds.Nodup ∧ ∀ D ∈ Ds,wS.heap.size ≤ D ∧ w.heap[D]? = some (.deferred (some []))
theorem Marks.nil (wS w:World):Marks wS w []:=⟨[],rfl,List.nodup_nil,fun _ h=>by cases h⟩
/-- A block that is none of a call's own. -/
def ofar : Obj → Bool
 | .cells .. | .map .. | .mapIter ..=>false
 | _=>true
theorem ofar_cells {o:Obj} (h:ofar o = true):o.isCells = false:=by cases o <;> first|rfl|cases h
theorem HOK.noMark {F:Nat → Prop} {g:GM} {w:World} {h:List AB} (k:HOK F g w h) {D:Nat} {o:Obj} (ho:w.heap[D]? = some o) (hc:ofar o = true):¬ MO g h D:=by
 rintro ⟨d,cap,⟨x,hx,hl⟩,hg⟩
 cases x with
 | dead=>exact hl
 | box m c=>obtain ⟨cs,t,h1,_⟩:=k.box d m c D cap hx hg;rw [ho] at h1;injection h1 with h1;rw [h1] at hc;cases hc
 | row n sz c=>obtain ⟨_,_,cs,t,h1,_⟩:=k.row d n sz c D cap hx hg;rw [ho] at h1;injection h1 with h1;rw [h1] at hc;cases hc
 | mp kt L=>obtain ⟨es,h1,_⟩:=k.mp d kt L D cap hx hg;rw [ho] at h1;injection h1 with h1;rw [h1] at hc;cases hc
 | mit m n seen=>obtain ⟨_,_,mb,_,h1⟩:=k.mit d m n seen D cap hx hg;rw [ho] at h1;injection h1 with h1;rw [h1] at hc;cases hc
 | rwg n sz c=>obtain ⟨_,_,cs,t,h1,_⟩:=k.rwg d n sz c D cap hx hg;rw [ho] at h1;injection h1 with h1;rw [h1] at hc;cases hc
theorem Marks.tr {F:Nat → Prop} {g g':GM} {h h':List AB} {wS w w':World} {ds:List Deferred} (m:Marks wS w ds) (k:HOK F g w h) (T:Tr F g h w g' h' w'):Marks wS w' ds:=by
 obtain ⟨Ds,h1,h2,h3⟩:=m.ex
 refine ⟨Ds,h1,h2,fun D hD=>⟨(h3 D hD).1,?_⟩⟩
 rw [T.chg.block D (Array.getElem?_eq_some_iff.1 (h3 D hD).2).1 (k.noMark (h3 D hD).2 rfl)]
 exact (h3 D hD).2

/-- A state of a call: what its temporaries and its blocks say, from the state in which it began. -/
structure Rel (F:Nat → Prop) (n:Nat) (gS:GM) (hS:List AB) (wS:World) (e:Env) (h:List AB) (a:Act) (w:World):Prop where
 ex:∃ g,Tr F gS hS wS g h w ∧ ∀ t,rep (MM F g h) w (e t) g (a.tmps.getD t undef)
 dn:Marks wS w a.defers
 sz:a.tmps.size = n
 dm:∀ d p,gS d = some p → d < hS.length

section
variable {rd:Option Nat} {md:Nat} {F:Nat → Prop} {P:Program} {n:Nat} {gS:GM} {hS:List AB} {wS:World} {e:Env} {h:List AB} {a:Act} {w:World}

theorem rep_undef {M:Nat → Prop} {g:GM}:rep M w und g undef:=⟨#[],rfl,rfl,fun i hi=>by omega⟩
theorem rep_eval {M:Nat → Prop} {g:GM} (hv:∀ t,rep M w (e t) g (a.tmps.getD t undef)) (x:Operand):rep M w (AX.ev e (cx x)) g (a.eval x):=by
 cases x with
 | tmp t=>exact hv t
 | const v=>exact rep_ofV M w g v
 | global g=>trivial
 | func f=>exact ⟨#[],rfl,rfl,fun i hi=>by omega⟩
theorem Rel.put {g g':GM} {h':List AB} {w':World} {dst:Option Nat} {r:AV} {u:Value} (T:Tr F gS hS wS g h w) (hv:∀ t,rep (MM F g h) w (e t) g (a.tmps.getD t undef)) (dn:Marks wS w a.defers) (sz:a.tmps.size = n) (dm:∀ d p,gS d = some p → d < hS.length)
  (T2:Tr F g h w g' h' w') (hu:rep (MM F g' h') w' r g' u) (hd:∀ d,dst = some d → d < n):Rel F n gS hS wS (e.put dst r) h' (a.put dst u) w':=by
 refine ⟨⟨g',T.trans T2,fun t=>?_⟩,?_,?_,dm⟩
 ·cases dst with
  | none=>exact T2.hold (hv t)
  | some d =>
   have hdn:=hd d rfl
   simp only [Env.put,Act.put]
   by_cases e1:t = d
   ·subst e1
    rw [if_pos rfl]
    have:(a.tmps.setIfInBounds t u).getD t undef = u:=by simp [sz,hdn]
    rw [this];exact hu
   ·rw [if_neg e1]
    have:(a.tmps.setIfInBounds d u).getD t undef = a.tmps.getD t undef:=by
     simp [Array.getElem?_setIfInBounds_ne (Ne.symm e1)]
    rw [this];exact T2.hold (hv t)
 ·cases dst <;> exact dn.tr T.ok T2
 ·cases dst <;> simp [Act.put,sz]
theorem Rel.drew (hr:Rel F n gS hS wS e h a w):Rel F n gS hS wS e h a { w with drawn:=w.drawn + 1 }:=by
 obtain ⟨⟨g,T,hv⟩,dn,sz,dm⟩:=hr
 have T2:Tr F g h w g h w.drew:=Tr.keep T.ok (Chg.drew _ w)
 exact ⟨⟨g,T.trans T2,fun t=>T2.hold (hv t)⟩,dn.tr T.ok T2,sz,dm⟩

theorem comp_call {op:Op} {f:FuncId} {xs:List AX} (hc:compOp P op = .call f xs):∃ args ats,op = .call ⟨.value (.func f),args,ats⟩ ∧ xs = args.toList.map cx:=by
 cases op <;> simp only [compOp] at hc
 case call c =>
  obtain ⟨callee,args,ats⟩:=c
  cases callee with
  | invoke a b=>cases hc
  | builtin b=>cases b <;> simp only [compCall] at hc <;> (repeat' split at hc) <;> cases hc
  | value x =>
   cases x <;> simp only [compCall] at hc <;> cases hc
   exact ⟨args,ats,rfl,rfl⟩
 case slice t x lo hi m=>cases m <;> simp only at hc <;> (repeat' split at hc) <;> cases hc
 case makeFunc fn first cap=>cases fn <;> simp only at hc <;> (repeat' split at hc) <;> cases hc
 case makeMap t r=>cases r <;> simp only at hc <;> (repeat' split at hc) <;> cases hc
 case next it s=>cases s <;> cases hc
 all_goals first|cases hc|((repeat' split at hc) <;> cases hc)
theorem comp_calv {op:Op} {x:AX} {xs:List AX} (hc:compOp P op = .calv x xs):∃ t args ats,op = .call ⟨.value (.tmp t),args,ats⟩ ∧ x = .t t ∧ xs = args.toList.map cx:=by
 cases op <;> simp only [compOp] at hc
 case call c =>
  obtain ⟨callee,args,ats⟩:=c
  cases callee with
  | invoke a b=>cases hc
  | builtin b=>cases b <;> simp only [compCall] at hc <;> (repeat' split at hc) <;> cases hc
  | value y =>
   cases y <;> simp only [compCall] at hc <;> cases hc
   exact ⟨_,args,ats,rfl,rfl,rfl⟩
 case slice t x lo hi m=>cases m <;> simp only at hc <;> (repeat' split at hc) <;> cases hc
 case makeFunc fn first cap=>cases fn <;> simp only at hc <;> (repeat' split at hc) <;> cases hc
 case makeMap t r=>cases r <;> simp only at hc <;> (repeat' split at hc) <;> cases hc
 case next it s=>cases s <;> cases hc
 all_goals first|cases hc|((repeat' split at hc) <;> cases hc)
theorem comp_nxt {op:Op} {x:AX} (hc:compOp P op = .nxt x):∃ it,op = .next it false ∧ x = cx it:=by
 cases op <;> simp only [compOp] at hc
 case next it s =>
  cases s
  ·simp only [AOp.nxt.injEq] at hc
   exact ⟨it,rfl,hc.symm⟩
  ·cases hc
 case call c =>
  obtain ⟨callee,args,ats⟩:=c
  simp only [compCall] at hc
  (repeat' split at hc) <;> cases hc
 case slice t x lo hi m=>cases m <;> simp only at hc <;> (repeat' split at hc) <;> cases hc
 case makeFunc fn first cap=>cases fn <;> simp only at hc <;> (repeat' split at hc) <;> cases hc
 case makeMap t r=>cases r <;> simp only at hc <;> (repeat' split at hc) <;> cases hc
 all_goals first|cases hc|((repeat' split at hc) <;> cases hc)
theorem comp_app {op:Op} {sz b:Nat} {x y:AX} (hc:compOp P op = .app sz b x y):∃ t args ats el i zs x0 y0,op = .call ⟨.builtin .append,args,ats⟩ ∧ args.toList = [x0,y0] ∧ ats.toList = [t,t] ∧ tyEl P t = some (el,i) ∧ zcells i = some zs ∧ sz = i.size ∧ b = i.bytes ∧ x = cx x0 ∧ y = cx y0:=by
 cases op <;> simp only [compOp] at hc
 case call c =>
  obtain ⟨callee,args,ats⟩:=c
  cases callee with
  | invoke a b=>cases hc
  | value y=>cases y <;> simp only [compCall] at hc <;> cases hc
  | builtin b =>
   cases b <;> simp only [compCall] at hc
   case append =>
    split at hc
    ·rename_i x0 y0 t t' hl hat
     split at hc
     ·rename_i htt
      subst htt
      split at hc
      ·rename_i el i ht
       split at hc
       ·rename_i zs hz
        cases hc
        exact ⟨t,args,ats,el,i,zs,x0,y0,rfl,hl,hat,ht,hz,rfl,rfl,rfl,rfl⟩
       ·cases hc
      ·cases hc
     ·cases hc
    ·cases hc
   all_goals first|cases hc|((repeat' split at hc) <;> cases hc)
 case slice t x lo hi m=>cases m <;> simp only at hc <;> (repeat' split at hc) <;> cases hc
 case makeFunc fn first cap=>cases fn <;> simp only at hc <;> (repeat' split at hc) <;> cases hc
 case makeMap t r=>cases r <;> simp only at hc <;> (repeat' split at hc) <;> cases hc
 case next it s=>cases s <;> cases hc
 all_goals first|cases hc|((repeat' split at hc) <;> cases hc)

theorem enter_run {f : FuncId} {fn : Func} {vs : Array Value} (hf : P.funcs[f]? = some fn) (hn : (fn.name == "runtime.NumGoroutine") = false) (hb : fn.body.isNone = false) : (callFunc f vs).run P w = .ok (.enter f vs) w := by
 have hn' : ¬ (fn.name == "runtime.NumGoroutine") = true := by rw [hn]; simp
 have hb':¬ fn.body.isNone = true:=by rw [hb];simp
 simp only [callFunc,program,bind,Sem.bind,Sem.run,hf,if_neg hn',if_neg hb']
 rfl

theorem step_ok (o:Oper) {K:AV → List AB → Prop} {Kr:Act → World → Prop} {Q:Exit → Act → World → Prop} (hd:∀ d,o.dst = some d → d < n) (hr:Rel F n gS hS wS e h a w)
  (hK:∀ r h' a' w',K r h' → Rel F n gS hS wS (e.put o.dst r) h' a' w' → Kr a' w') (H:astep (ACalls P) (compOp P o.op) e h K):o.wpIn (Wd rd) md P a w Kr Q:=by
 have hnd:∀ c,o.op ≠ .defer c:=fun c hc=>by rw [hc] at H;exact H.elim
 have semA:∀ ρ,o.semAt (Wd rd).round ρ = execOp ρ o:=fun ρ=>by
  show o.semAt rd ρ = _
  cases rd with
  | none=>simp [Oper.semAt]
  | some l=>exact Oper.semAt_some l _ _ hnd
 obtain ⟨⟨g,T,hv⟩,dn,sz,dm⟩:=hr
 have he:=fun x=>rep_eval hv x
 have plain:aop (compOp P o.op) (AX.ev e) h K → o.wpIn (Wd rd) md P a w Kr Q:=fun H=>by
  obtain ⟨r,h',h1,h2⟩:=aop_one _ _ _ _ H
  obtain ⟨u,w',g',hrun,hu,T2⟩:=aop_ok o T.ok he (fun v=>rfl) h1
  have R:=fun d=>Rel.put (dst:=o.dst) T hv dn sz dm T2 hu d
  rcases hrun with hrun|⟨hrun,rfl⟩
  ·refine ⟨fun _ _=>trivial,?_⟩
   simp only [semA,hrun,Oper.uponIn]
   exact hK _ _ _ _ h2 (R hd)
  ·refine ⟨fun _ _=>trivial,?_⟩
   simp only [semA,hrun,Oper.uponIn]
   exact hK _ _ _ _ h2 (R hd)
 have enter:∀ (f:FuncId) (xs:List AV) (vs:Array Value),(execOp a.eval o).run P w = (callFunc f vs).run P w → vs.size = xs.length → (∀ (i:Nat) (x:AV),xs[i]? = some x → rep (MM F g h) w x g (vs.getD i undef)) → ACall P f xs h K → o.wpIn (Wd rd) md P a w Kr Q:=fun f xs vs hrun hs hx H=>by
  obtain ⟨⟨fn,h1,h2,h3⟩,H⟩:=H
  refine ⟨fun _ _=>trivial,?_⟩
  simp only [semA,hrun,enter_run h1 h2 h3,Oper.uponIn]
  refine ⟨fun hh=>Wd.deep rd hh,Wd.calls ((H F g w vs T.ok hs hx).mono ?_)⟩
  rintro en w' ⟨v,r,h',g',rfl,T2,hu,hk⟩
  exact hK _ _ _ _ hk (Rel.put T hv dn sz dm T2 hu hd)
 have args_ok:∀ (args:Array Operand) (i:Nat) (x:AV),((args.toList.map cx).map (AX.ev e))[i]? = some x → rep (MM F g h) w x g ((args.map a.eval).getD i undef):=fun args i x hx=>by
  rw [List.map_map,List.getElem?_map] at hx
  cases ha:args.toList[i]? with
  | none=>rw [ha] at hx;cases hx
  | some y =>
   rw [ha] at hx
   injection hx with hx
   subst hx
   have ha':args[i]? = some y:=by simpa using ha
   have:(args.map a.eval).getD i undef = a.eval y:=by simp [ha']
   rw [this]
   exact he y
 cases hc:compOp P o.op
 case call f xs =>
  obtain ⟨args,ats,hop,rfl⟩:=comp_call hc
  rw [hc] at H
  refine enter f _ (args.map a.eval) ?_ (by simp) (args_ok args) H
  simp only [execOp,hop,resolve,Deferred.ofValue,Act.eval,Sem.run_bind,Sem.run_pure,Result.andThen_ok,invoke,Array.empty_append,Array.append_empty]
 case calv x xs =>
  obtain ⟨t,args,ats,hop,rfl,rfl⟩:=comp_calv hc
  rw [hc] at H
  simp only [astep,AX.ev] at H
  have ht:=he (.tmp t)
  simp only [cx,AX.ev] at ht
  generalize e t = v at H ht
  cases v <;> simp only at H
  rename_i f m c
  obtain ⟨cs,h1,h2,h3⟩:=ht
  refine enter f _ (args.map a.eval ++ cs) ?_ (by simp [h2]) (fun i x hx=>?_) H
  ·have h1':a.eval (.tmp t) = .func (.func f) #[] cs:=h1
   simp only [execOp,hop,resolve,h1',Deferred.ofValue,Sem.run_bind,Sem.run_pure,Result.andThen_ok,invoke,Array.empty_append]
  ·rcases Nat.lt_or_ge i args.size with hi|hi
   ·rw [List.getElem?_append_left (by simpa using hi)] at hx
    have:=args_ok args i x hx
    have e1:(args.map a.eval ++ cs).getD i undef = (args.map a.eval).getD i undef:=by
     simp [Array.getElem?_append_left (xs:=args.map a.eval) (ys:=cs) (i:=i) (by simpa using hi)]
    rw [e1];exact this
   ·rw [List.getElem?_append_right (by simpa using hi)] at hx
    simp only [List.length_map,Array.length_toList] at hx
    rw [List.getElem?_map] at hx
    have hlt:i - args.size < m:=by
     rcases Nat.lt_or_ge (i - args.size) m with h'|h'
     ·exact h'
     ·rw [List.getElem?_eq_none (by simpa using h')] at hx;cases hx
    rw [List.getElem?_range hlt] at hx
    injection hx with hx
    subst hx
    obtain ⟨u,hu,hrep⟩:=h3 _ hlt
    have e1:(args.map a.eval ++ cs).getD i undef = u:=by
     have:(args.map a.eval ++ cs)[i]? = some u:=by
      rw [Array.getElem?_append_right (by simpa using hi)]
      simpa using hu
     simp [this]
    rw [e1];exact hrep
 case nxt x =>
  obtain ⟨it,hop,rfl⟩:=comp_nxt hc
  rw [hc] at H
  obtain ⟨r,h',u',w',g',hk,hrun,hu,T2⟩:=val_nxt (P:=P) (ty:=o.type) T.ok (he it) H
  have hex:(execOp a.eval o).run P w = .ok (.value u') w':=by
   simp only [execOp,hop]
   simp [hrun]
  refine ⟨fun _ _=>trivial,?_⟩
  simp only [semA,hex,Oper.uponIn]
  exact hK _ _ _ _ hk (Rel.put T hv dn sz dm T2 hu hd)
 case app sz' b x y =>
  rw [hc] at H
  rcases H with H|H
  ·exact plain (by rw [hc];exact H)
  ·obtain ⟨t,args,ats,el,i,zs,x0,y0,hop,hl,hat,ht,hz,rfl,rfl,rfl,rfl⟩:=comp_app hc
   have H':asplit (.app i.size i.bytes (.k (AX.ev e (cx x0))) (.k (AX.ev e (cx y0)))) (fun x=>x.ev (fun _=>.bot)) h K:=H
   obtain ⟨r,h',u',w',g',hk,hrun,hu,T2⟩:=val_split (P:=P) (ty:=o.type) T.ok ht hz (he x0) (he y0) H'
   have ha:args.map a.eval = #[a.eval x0,a.eval y0]:=by
    apply Array.ext'
    simp [hl]
   have hats:ats = #[t,t]:=by
    apply Array.ext'
    simp [hat]
   have hex:(execOp a.eval o).run P w = .ok (.value u') w':=by
    simp only [execOp,hop,resolve,Sem.run_bind,Sem.run_pure,Result.andThen_ok,invoke,ha,hats]
    have:∀ cs,(builtin Builtin.append #[t,t] o.type cs #[a.eval x0,a.eval y0]) = (do pure (.value (← Builtin.append_ #[t,t] o.type #[a.eval x0,a.eval y0]))):=fun _=>rfl
    rw [this]
    simp [hrun]
   refine ⟨fun _ _=>trivial,?_⟩
   simp only [semA,hex,Oper.uponIn]
   exact hK _ _ _ _ hk (Rel.put T hv dn sz dm T2 hu hd)
 all_goals
  rw [hc] at H
  exact plain (by rw [hc];exact H)

/-- From a region's operations to their readings. -/
def compAO (P:Program) (n:Nat) (ops:Array Oper) (o:Oper):Option AO :=
 if o.dst.all (fun d=>decide (d < n)) = true then
  match o.guard with
  | none=>some ⟨o.dst,compOp P o.op,none⟩
  | some (j,b)=>match (ops[j]?).bind (·.dst) with
   | some t=>some ⟨o.dst,compOp P o.op,some (t,b)⟩
   | none=>none
 else none
theorem gstep_ok {ops:Array Oper} {i:Nat} {o:Oper} {x:AO} (hi:ops[i]? = some o) (hx:compAO P n ops o = some x) {K:AV → List AB → Prop} {Kr:Act → World → Prop} {Q:Exit → Act → World → Prop} (hr:Rel F n gS hS wS e h a w)
  (hK:∀ r h' a' w',K r h' → Rel F n gS hS wS (e.put x.dst r) h' a' w' → Kr a' w') (H:gstep (ACalls P) x e h K):wpOpIn (Wd rd) md P ops Q i Kr a w:=by
 unfold compAO at hx
 split at hx
 case isFalse=>cases hx
 rename_i hdn
 have hd:∀ d,o.dst = some d → d < n:=fun d he=>by rw [he] at hdn;simpa using hdn
 have skip:K und h → ∀ dst,dst = o.dst → x.dst = dst → Kr (a.put dst undef) w:=fun hk dst e1 e2=>by
  obtain ⟨⟨g,T,hv⟩,dn,sz,dm⟩:=hr
  refine hK _ _ _ _ hk ?_
  rw [e2]
  exact Rel.put T hv dn sz dm (Tr.refl T.ok) rep_undef (fun d he=>hd d (by rw [← e1];exact he))
 unfold wpOpIn
 simp only [hi]
 unfold gstep at H
 split at hx
 ·rename_i hg
  injection hx with hx
  subst hx
  simp only [Region.wanted,hg,if_true]
  exact step_ok o hd hr hK H
 ·rename_i j b hg
  split at hx
  ·rename_i t ht
   injection hx with hx
   subst hx
   simp only [Region.wanted,hg]
   simp only at H
   have hrt:∃ g,rep (MM F g h) w (e t) g (a.tmps.getD t undef):=hr.ex.elim fun g hh=>⟨g,hh.2 t⟩
   obtain ⟨g,hrt⟩:=hrt
   generalize e t = v at H hrt
   split at H
   ·rename_i q
    have hq:a.tmps.getD t undef = .bool q:=hrt
    have hq':a.tmps[t]? = some (.bool q):=by
     cases hh:a.tmps[t]? with
     | none=>simp [hh,undef] at hq
     | some y=>simp [hh] at hq;rw [hq]
    have hy:yielded ops a.tmps j = some q:=by simp [yielded,ht,hq']
    rw [hy]
    rcases acond_e H with ⟨h1,h2⟩|⟨h1,h2⟩
    ·have:(some q == some b) = true:=by simpa using h1
     rw [this,if_pos rfl]
     exact step_ok o hd hr hK h2
    ·have:(some q == some b) = false:=by simpa using h1
     rw [this]
     simp only [Bool.false_eq_true,if_false]
     exact ⟨fun _ _=>trivial,skip h2 o.dst rfl rfl⟩
   ·obtain ⟨cs,h1,h2,_⟩:=hrt
    have hcs:cs = #[]:=Array.eq_empty_of_size_eq_zero h2
    subst hcs
    have hy:yielded ops a.tmps j = none:=by
     unfold yielded
     rw [ht]
     simp only [Option.bind_some]
     cases hh:a.tmps[t]? with
     | none=>rfl
     | some y=>simp [hh] at h1;rw [h1]
    rw [hy]
    have:((none:Option Bool) == some b) = false:=rfl
    rw [this]
    simp only [Bool.false_eq_true,if_false]
    exact ⟨fun _ _=>trivial,skip H o.dst rfl rfl⟩
   ·exact H.elim
  ·cases hx
end
end Go.Proofs.YtodpjdmdmmnlpaaGreat

namespace Go.Proofs.YtodpjdmdmmnlpaaGreat
open Go.RowKit

def watp (C:CallP) (o:AO) (e:Env) (h:List AB):Prop:=match o.dst with
 | some d=>gstep C o e h (fun v _=>v = e d)
 | none=>True
theorem wat_of {C:CallP} {o:AO} {e:Env} {h:List AB} (H:watp C o e h):wat C o e h:=fun d hd=>by
 unfold watp at H
 rw [hd] at H
 exact H
def wats (C:CallP) (ws:List AO) (e:Env) (h:List AB) (p:Prop):Prop:=match ws with
 | []=>p
 | o :: ws=>watp C o e h ∧ wats C ws e h p
theorem wats_e {C:CallP} {e:Env} {h:List AB} {p:Prop}:∀ {ws:List AO},wats C ws e h p → (∀ o ∈ ws,watp C o e h) ∧ p
 | [],H=>⟨fun o ho=>(by cases ho),H⟩
 | _ :: _,H=>⟨fun x hx=>(by
   rcases List.mem_cons.1 hx with rfl|hx
   ·exact H.1
   ·exact (wats_e H.2).1 x hx),(wats_e H.2).2⟩
/-- The operations of a region, one behind another. -/
def aregs (C:CallP) (l:List (AO × List AO)) (Q:Env → List AB → Prop) (e:Env) (h:List AB):Prop :=
 match l with
 | []=>Q e h
 | (o,ws) :: rest=>gstep C o e h (fun r h'=>wats C ws e h' (aregs C rest Q (e.put o.dst r) h'))
theorem arun_of {C:CallP} (hC:C.Mono) {ao:Nat → AO} {W:Nat → List Nat} {Q:Env → List AB → Prop}:∀ (L:List Nat) (D:Nat → Prop) {e:Env} {h:List AB},aregs C (L.map fun i=>(ao i,(W i).map ao)) Q e h → arun C ao W L D Q e h
 | [],_,_,_,H=>H
 | _ :: L,_,_,_,H=>gstep_mono hC (fun _ _ hh=>⟨fun j hj _=>wat_of ((wats_e hh).1 _ (List.mem_map.2 ⟨j,hj,rfl⟩)),arun_of hC L _ (wats_e hh).2⟩) H

def cloB (b:Array Nat) (i j:Nat):Bool:=(b.getD i 0).testBit j
def cloOK (ops:Array Oper) (b:Array Nat):Bool :=
 (List.range ops.size).all fun i=>!cloB b i i && match ops[i]? with
  | some o=>(o.after.toList.all fun x=>!Region.binds .any x || (decide (x.on < ops.size) && cloB b i x.on)) &&
    (List.range ops.size).all fun j=>!cloB b i j || o.after.toList.any fun x=>Region.binds .any x && (x.on == j || cloB b x.on j)
  | none=>false
def touchB (ao:Nat → AO) (k j:Nat):Bool:=match (ao j).dst with
 | none=>false
 | some d=>(ao k).looks.contains d || (ao k).dst == some d
def stillB (N:Nat) (ao:Nat → AO) (W:Nat → List Nat) (clo:Nat → Nat → Bool):Bool :=
 (List.range N).all fun k=>((ao k).op.chg || (W k).isEmpty) && ((List.range N).all fun j=>k == j || !touchB ao k j || clo k j || clo j k) &&
  (W k).all fun l=>(List.range N).all fun j=>match l == j with
   | true=>(match (ao j).dst with
    | none=>true
    | some d=>!(ao j).looks.contains d)
   | false=>clo l j || !touchB ao l j
def pairB (ao:Nat → AO) (W:Nat → List Nat) (clo:Nat → Nat → Bool) (j i:Nat):Bool :=
 j != i && !clo j i && (!(ao j).op.chg || clo i j) && (!(ao i).op.chg || !(ao j).op.rds || clo i j || ((W i).contains j && (ao j).dst.isSome))
def pairsB (ao:Nat → AO) (W:Nat → List Nat) (clo:Nat → Nat → Bool):List Nat → Bool
 | []=>true
 | j :: l=>l.all (pairB ao W clo j) && pairsB ao W clo l
/-- A region's operations in the order of a hint (none: as they stand), each with the looks that it must not spoil. -/
abbrev Hint := List (Nat × List Nat)
def compReg (P:Program) (n:Nat) (ops:Array Oper) (hint:Option Hint):Option (List (AO × List AO)) :=
 match ops.toList.mapM (compAO P n ops) with
 | none=>none
 | some l=>match hint with
  | some L=>some (L.map fun p=>(l.getD p.1 default,p.2.map fun j=>l.getD j default))
  | none=>some (l.map fun x=>(x,[]))
def watchOf (L:Hint) (i:Nat):List Nat:=match L.find? (·.1 == i) with
 | some p=>p.2
 | none=>[]
def okReg (P:Program) (n:Nat) (ops:Array Oper) (draw:Bool) (hint:Option Hint):Bool :=
 match draw,hint with
 | false,none=>true
 | false,some _=>false
 | true,hint =>
  match ops.toList.mapM (compAO P n ops) with
  | none=>false
  | some l =>
   let ao:=fun i=>l.getD i default
   let b:=Region.before ops
   let H:=hint.getD ((List.range ops.size).map fun i=>(i,[]))
   let L:=H.map (·.1)
   let W:=watchOf H
   cloOK ops b && L.length == ops.size && (List.range ops.size).all (L.contains ·) && L.all (decide <| · < ops.size) && (H.all fun p=>p.2.all (decide <| · < ops.size)) && stillB ops.size ao W (cloB b) && pairsB ao W (cloB b) L

theorem touch_no {ao:Nat → AO} {k j d:Nat} (h:touchB ao k j = false) (hd:(ao j).dst = some d):d ∉ (ao k).looks ∧ (ao k).dst ≠ some d:=by
 unfold touchB at h
 rw [hd] at h
 simp only [Bool.or_eq_false_iff,List.contains_eq_mem,decide_eq_false_iff_not,beq_eq_false_iff_ne,ne_eq] at h
 exact h
theorem still_of {N:Nat} {ao:Nat → AO} {W:Nat → List Nat} {clo:Nat → Nat → Bool} (hW:∀ i,∀ k ∈ W i,k < N) (H:stillB N ao W clo = true):Still ao W (fun i j=>clo i j = true) N:=by
 simp only [stillB,List.all_eq_true,List.mem_range,Bool.and_eq_true,Bool.or_eq_true,beq_iff_eq,Bool.not_eq_true'] at H
 refine ⟨fun k j hk hj hne hc hc' d hd=>?_,fun i k j hi hk hj hne hc d hd=>?_,fun i j hi hj d hd=>?_,fun j hj hc=>?_⟩
 ·rcases (H k hk).1.2 j hj with ((h1|h1)|h1)|h1
  ·exact (hne h1).elim
  ·exact touch_no h1 hd
  ·exact (hc h1).elim
  ·exact (hc' h1).elim
 ·have:=(H i hi).2 k hk j hj
  have hb:(k == j) = false:=by simpa using hne
  rw [hb] at this
  simp only [Bool.or_eq_true,Bool.not_eq_true'] at this
  rcases this with h1|h1
  ·exact (hc h1).elim
  ·exact touch_no h1 hd
 ·have:=(H i hi).2 j hj j (hW i j hj)
  have hb:(j == j) = true:=by simp
  rw [hb] at this
  simp only [hd,Bool.not_eq_true'] at this
  simpa using this
 ·rcases (H j hj).1.1 with h1|h1
  ·rw [hc] at h1;cases h1
  ·simpa using h1
theorem pairs_of {ao:Nat → AO} {W:Nat → List Nat} {clo:Nat → Nat → Bool}:∀ {L:List Nat},pairsB ao W clo L = true → L.Pairwise (Pair ao W (fun i j=>clo i j = true))
 | [],_=>List.Pairwise.nil
 | j :: L,H=>by
  simp only [pairsB,Bool.and_eq_true,List.all_eq_true] at H
  refine List.Pairwise.cons (fun i hi=>?_) (pairs_of H.2)
  have:=H.1 i hi
  simp only [pairB,Bool.and_eq_true,Bool.or_eq_true,bne_iff_ne,ne_eq,Bool.not_eq_true',List.contains_iff_mem] at this
  obtain ⟨⟨⟨h1,h2⟩,h3⟩,h4⟩:=this
  refine ⟨h1,by simp [h2],fun hc=>?_,fun hi hj hn=>?_⟩
  ·rcases h3 with h3|h3
   ·rw [hc] at h3;cases h3
   ·exact h3
  ·rcases h4 with ((h4|h4)|h4)|h4
   ·rw [hi] at h4;cases h4
   ·rw [hj] at h4;cases h4
   ·exact (hn h4).elim
   ·exact ⟨h4.1,fun e=>by rw [e] at h4;simp at h4⟩

section
variable {rd:Option Nat} {md:Nat} {F:Nat → Prop} {P:Program} {n:Nat} {gS:GM} {hS:List AB} {wS:World}
theorem mapM_get {ops:Array Oper} {f:Oper → Option AO} {l:List AO} (h:ops.toList.mapM f = some l):∀ (i:Nat) (o:Oper),ops[i]? = some o → ∃ x,l[i]? = some x ∧ f o = some x:=by
 have key:∀ (xs:List Oper) (l:List AO),xs.mapM f = some l → ∀ (i:Nat) (o:Oper),xs[i]? = some o → ∃ x,l[i]? = some x ∧ f o = some x:=by
  intro xs
  induction xs with
  | nil=>intro l _ i o h;simp at h
  | cons y ys ih =>
   intro l hl i o hi
   rw [List.mapM_cons] at hl
   cases hy:f y with
   | none=>rw [hy] at hl;cases hl
   | some z =>
    rw [hy] at hl
    cases hys:ys.mapM f with
    | none=>rw [hys] at hl;cases hl
    | some zs =>
     rw [hys] at hl
     injection hl with hl
     subst hl
     cases i with
     | zero=>simp at hi;subst hi;exact ⟨z,rfl,hy⟩
     | succ i=>exact ih zs hys i o hi
 intro i o hi
 exact key ops.toList l h i o (by simpa using hi)

theorem mapM_len {ops:Array Oper} {f:Oper → Option AO} {l:List AO} (h:ops.toList.mapM f = some l):l.length = ops.toList.length:=by
 have key:∀ (xs:List Oper) (l:List AO),xs.mapM f = some l → l.length = xs.length:=by
  intro xs
  induction xs with
  | nil=>intro l h;simp at h;subst h;rfl
  | cons y ys ih =>
   intro l hl
   rw [List.mapM_cons] at hl
   cases hy:f y with
   | none=>rw [hy] at hl;cases hl
   | some z =>
    rw [hy] at hl
    cases hys:ys.mapM f with
    | none=>rw [hys] at hl;cases hl
    | some zs =>
     rw [hys] at hl
     injection hl with hl
     subst hl
     simp [ih zs hys]
 exact key _ _ h
theorem plain_ok {ops:Array Oper} {ao:Nat → AO} (hao:∀ (i:Nat) (o:Oper),ops[i]? = some o → compAO P n ops o = some (ao i)) {Q':Env → List AB → Prop} {Q:Exit → Act → World → Prop} (hQ:∀ e h a w,Q' e h → Rel F n gS hS wS e h a w → Q .normal a w) :
  ∀ (L:List Nat) (e:Env) (h:List AB) (a:Act) (w:World),(∀ i ∈ L,i < ops.size) → Rel F n gS hS wS e h a w → aregs (ACalls P) (L.map fun i=>(ao i,[])) Q' e h → wpOpsIn (Wd rd) md P ops Q L a w
 | [],e,h,a,w,_,hr,H=>hQ e h a w H hr
 | i :: L,e,h,a,w,hL,hr,H=>by
  rw [wpOpsIn_cons]
  have hi:=hL i List.mem_cons_self
  exact gstep_ok (Array.getElem?_eq_getElem hi) (hao i _ (Array.getElem?_eq_getElem hi)) hr (fun r h' a' w' hk hr'=>plain_ok hao hQ L _ _ _ _ (fun j hj=>hL j (List.mem_cons_of_mem _ hj)) hr' hk) H

theorem any_ok {ops:Array Oper} {ao:Nat → AO} (hao:∀ (i:Nat) (o:Oper),ops[i]? = some o → compAO P n ops o = some (ao i)) {W:Nat → List Nat} {b:Array Nat} (hb:cloOK ops b = true) (S:Still ao W (fun i j=>cloB b i j = true) ops.size)
  {Q':Env → List AB → Prop} {Q:Exit → Act → World → Prop} (hQ:∀ e h a w,Q' e h → Rel F n gS hS wS e h a w → Q .normal a w) :
  ∀ (fuel:Nat) (R:List Nat) (listed:Array Bool) (e:Env) (h:List AB) (a:Act) (w:World),R.length = fuel → listed.size = ops.size → (∀ j,j ∈ R ↔ j < ops.size ∧ listed.getD j false = false) → R.Pairwise (Pair ao W (fun i j=>cloB b i j = true)) →
   (∀ k j,j < ops.size → listed.getD k false = true → cloB b k j = true → listed.getD j false = true) → Rel F n gS hS wS e h a w → arun (ACalls P) ao W R (fun k=>listed.getD k false = true) Q' e h → wpAnyIn (Wd rd) md P .any ops Q fuel listed a w:=by
 have hgt:∀ (listed:Array Bool) (j:Nat),listed.size = ops.size → j < ops.size → listed.getD j true = listed.getD j false:=fun listed j hs hj=>by
  have:j < listed.size:=by omega
  simp [this]
 simp only [cloOK,List.all_eq_true,List.mem_range,Bool.and_eq_true,Bool.not_eq_true'] at hb
 have hcl:∀ (i:Nat) (o:Oper),ops[i]? = some o → cloB b i i = false ∧ (∀ x ∈ o.after,Region.binds .any x = true → x.on < ops.size ∧ cloB b i x.on = true) ∧ ∀ j,j < ops.size → cloB b i j = true → ∃ x ∈ o.after,Region.binds .any x = true ∧ (x.on = j ∨ cloB b x.on j = true):=fun i o ho=>by
  have hi:i < ops.size:=by
   rcases Nat.lt_or_ge i ops.size with h|h
   ·exact h
   ·rw [Array.getElem?_eq_none h] at ho;cases ho
  have:=hb i hi
  rw [ho] at this
  simp only [List.all_eq_true,Bool.and_eq_true,Bool.or_eq_true,Bool.not_eq_true',decide_eq_true_eq,List.any_eq_true,beq_iff_eq,Array.mem_toList_iff,List.mem_range] at this
  refine ⟨this.1,fun x hx hbx=>?_,fun j hj hc=>?_⟩
  ·rcases this.2.1 x hx with h|h
   ·rw [hbx] at h;cases h
   ·exact h
  ·rcases this.2.2 j hj with h|h
   ·rw [hc] at h;cases h
   ·obtain ⟨x,hx,h1,h2⟩:=h
    exact ⟨x,hx,h1,h2⟩
 intro fuel
 induction fuel with
 | zero =>
  intro R listed e h a w hR hs hm hp hclo hr H
  obtain rfl:=List.eq_nil_of_length_eq_zero hR
  refine ⟨?_,hQ e h a w H hr⟩
  rw [List.eq_nil_iff_forall_not_mem]
  intro j hj
  obtain ⟨h1,o,ho,_⟩:=mem_ready.1 hj
  have hjl:j < ops.size:=by
   rcases Nat.lt_or_ge j ops.size with h|h
   ·exact h
   ·rw [Array.getElem?_eq_none h] at ho;cases ho
  have:=(hm j).2 ⟨hjl,by rw [← hgt listed j hs hjl];exact h1⟩
  cases this
 | succ fuel ih =>
  intro R listed e h a w hR hs hm hp hclo hr H
  refine ⟨fun hno=>?_,fun i hi=>?_⟩
  ·cases R with
   | nil=>simp at hR
   | cons i0 R =>
    have h0:=(hm i0).1 List.mem_cons_self
    have ho:ops[i0]? = some ops[i0]:=Array.getElem?_eq_getElem h0.1
    have hc:=hcl i0 _ ho
    have:i0 ∈ Region.ready .any ops listed:=mem_ready.2 ⟨by rw [hgt listed i0 hs h0.1];exact h0.2,_,ho,fun x hx hbx=>by
     obtain ⟨h1,h2⟩:=hc.2.1 x hx hbx
     cases hl:listed.getD x.on false with
     | true=>rfl
     | false =>
      rcases List.mem_cons.1 ((hm x.on).2 ⟨h1,hl⟩) with e1|e1
      ·rw [e1,hc.1] at h2;cases h2
      ·exact ((List.pairwise_cons.1 hp).1 _ e1).2.1 h2 |>.elim⟩
    rw [hno] at this
    cases this
  ·obtain ⟨h1,o,ho,hed⟩:=mem_ready.1 hi
   have hil:i < ops.size:=by
    rcases Nat.lt_or_ge i ops.size with h|h
    ·exact h
    ·rw [Array.getElem?_eq_none h] at ho;cases ho
   have hiR:=(hm i).2 ⟨hil,by rw [← hgt listed i hs hil];exact h1⟩
   obtain ⟨pre,rest,rfl⟩:=List.append_of_mem hiR
   have hc:=hcl i o ho
   rw [List.pairwise_append] at hp
   obtain ⟨p1,p2,p3⟩:=hp
   have preR:∀ j ∈ pre,j < ops.size ∧ listed.getD j false = false:=fun j hj=>(hm j).1 (List.mem_append_left _ hj)
   have hij:∀ j ∈ pre,¬ cloB b i j = true:=fun j hj hcj=>by
    obtain ⟨x,hx,hbx,hxj⟩:=hc.2.2 j (preR j hj).1 hcj
    have hlx:=hed x hx hbx
    have:listed.getD j false = true:=by
     rcases hxj with rfl|hxj
     ·exact hlx
     ·exact hclo _ _ (preR j hj).1 hlx hxj
    rw [(preR j hj).2] at this
    cases this
   have hDN:∀ k,listed.getD k false = true → k < ops.size:=fun k hk=>by
    rcases Nat.lt_or_ge k ops.size with h|h
    ·exact h
    ·have:listed.size ≤ k:=by omega
     simp [Array.getElem?_eq_none this] at hk
   have G:=pull (ACalls.mono P) S hil rest Q' pre (fun k=>listed.getD k false = true) e h (fun j hj=>(preR j hj).1) hDN p1 (fun j hj=>⟨p3 j hj i List.mem_cons_self,hij j hj⟩)
    (fun k hk j hj=>⟨fun hkj=>(by have:=hclo k j (preR j hj).1 hk hkj;rw [(preR j hj).2] at this;cases this),fun e1=>(by subst e1;rw [(preR k hj).2] at hk;cases hk)⟩) H
   refine gstep_ok ho (hao i o ho) hr (fun r h' a' w' hk hr'=>?_) G
   have getne:∀ j,j ≠ i → (listed.setIfInBounds i true).getD j false = listed.getD j false:=fun j hj=>getD_set_ne false (Ne.symm hj)
   have geteq:(listed.setIfInBounds i true).getD i false = true:=by
    have:i < listed.size:=by omega
    simp [this]
   have hnd:i ∉ pre ++ rest:=fun hmem=>by
    rcases List.mem_append.1 hmem with h|h
    ·exact (p3 i h i List.mem_cons_self).1 rfl
    ·exact ((List.pairwise_cons.1 p2).1 i h).1 rfl
   refine ih (pre ++ rest) (listed.setIfInBounds i true) _ _ _ _ (by simp at hR ⊢;omega) (by simp [hs]) (fun j=>?_) ?_ (fun k j hjs hk hkj=>?_) hr' (arun_anti (ACalls.mono P) _ (fun k hk=>?_) hk.2)
   ·by_cases e1:j = i
    ·subst e1
     rw [geteq]
     simp [hnd]
    ·rw [getne j e1,← hm j]
     simp [e1]
   ·rw [List.pairwise_append]
    exact ⟨p1,(List.pairwise_cons.1 p2).2,fun x hx y hy=>p3 x hx y (List.mem_cons_of_mem _ hy)⟩
   ·by_cases e2:j = i
    ·subst e2;exact geteq
    ·rw [getne j e2]
     by_cases e1:k = i
     ·subst e1
      obtain ⟨x,hx,hbx,hxj⟩:=hc.2.2 j hjs hkj
      have hlx:=hed x hx hbx
      rcases hxj with rfl|hxj
      ·exact hlx
      ·exact hclo _ _ hjs hlx hxj
     ·rw [getne k e1] at hk
      exact hclo k j hjs hk hkj
   ·by_cases e1:k = i
    ·exact .inl e1
    ·rw [getne k e1] at hk
     exact .inr hk
end
end Go.Proofs.YtodpjdmdmmnlpaaGreat
