/- One operation of a region, read over abstract values, in a real run -/
import Derived.Test.YtbpilgflejdhaaaBm21
import Derived.RangeFuncWrites
import Derived.RangeFuncLeaves
import Derived.OrdersIn
import Derived.TacticsIn

namespace Go.Proofs.Ytbpilgflejdhaaa
open Go.RowKit

/-- A call, over abstract values: whatever its real arguments and world are, it returns, and what it returns and leaves is as K says. -/
def ACall (P : Program) (f : FuncId) (xs : List AV) (h : List AB) (K : AV → List AB → Prop) : Prop :=
  (∃ fn, P.funcs[f]? = some fn ∧ (fn.name == "runtime.NumGoroutine") = false ∧ fn.body.isNone = false) ∧
  ∀ (F : Nat → Prop) (g : GM) (w : World) (vs : Array Value), HOK F g w h → vs.size = xs.length → (∀ (i : Nat) (x : AV), xs[i]? = some x → rep (MM F g h) w x g (vs.getD i undef)) →
    Calls P f vs w fun en w' => ∃ v r h' g', en = .returned v ∧ Tr F g h w g' h' w' ∧ rep (MM F g' h') w' r g' v ∧ K r h'
theorem ACall.mono' (P : Program) {f : FuncId} {xs : List AV} {h : List AB} {K K' : AV → List AB → Prop} (hk : ∀ r h', K r h' → K' r h') (H : ACall P f xs h K) : ACall P f xs h K' :=
  ⟨H.1, fun F g w vs k hs hv => (H.2 F g w vs k hs hv).mono fun _ _ ⟨v, r, h', g', a, b, c, d⟩ => ⟨v, r, h', g', a, b, c, hk _ _ d⟩⟩

/-- All rights; in a round of a loop over a function, or not. -/
def Wd (r : Option Nat) : Fence := { Fence.wide with round := r }
theorem Wd.calls {r : Option Nat} {m : Nat} {P : Program} {f : FuncId} {vs : Array Value} {w : World} {R : Ending → World → Prop} (h : Calls P f vs w R) : CallsIn (Wd r) m P f vs w R := callsIn_wide (n := m).2 h
theorem Wd.deep (r : Option Nat) {p : Prop} (h : (Wd r).depth.isSome = true) : p := by simp [Wd, Fence.wide] at h
/-- The arguments of a function that yields: its yield in front of what it has caught, or behind what it is bound to. -/
def argsOf (mv : Bool) (cs : Array Value) (y : Value) : Array Value := match mv with
  | false => #[y] ++ cs
  | true => cs ++ #[y]
/-- A function that yields values, over abstract values: it yields those of L, one after another, until a round says no more; it changes nothing itself. -/
def AIterM (mv : Bool) (P : Program) (f : FuncId) (caps : List AV) (L : List (List AV)) : Prop :=
  (∃ fn, P.funcs[f]? = some fn ∧ (fn.name == "runtime.NumGoroutine") = false ∧ fn.body.isNone = false) ∧
  ∀ (M : Nat → Prop) (w0 : World) (cs : Array Value), cs.size = caps.length → (∀ (i : Nat) (x : AV), caps[i]? = some x → rep M w0 x g0 (cs.getD i undef)) →
  ∀ (l : Nat) (J Jx : Nat → World → Prop) (W : World), Chg M w0 W → (∀ k A B, J k A → Chg (fun _ => False) A B → J k B) → (∀ k A B, Jx k A → Chg (fun _ => False) A B → Jx k B) →
    (∀ k (vs : Array Value) W1, k < L.length → J k W1 → Chg M w0 W1 → vs.size = (L.getD k []).length → (∀ (i : Nat) (x : AV), (L.getD k [])[i]? = some x → rep M W1 x g0 (vs.getD i undef)) →
      YieldAt (Wd none) 0 P l vs W1 fun e W' => (e = .returned (.bool true) ∧ J (k + 1) W' ∧ Chg M W1 W') ∨ (e = .returned (.bool false) ∧ Jx k W')) →
    J 0 W →
    CallsIn (Wd none) 0 P f (argsOf mv cs (.func (.yield l) #[] #[])) W fun e W' => (∃ v, e = .returned v) ∧ (J L.length W' ∨ ∃ k, k < L.length ∧ Jx k W')
abbrev AIter (P : Program) (f : FuncId) (caps : List AV) (L : List (List AV)) : Prop := AIterM false P f caps L
def ACalls (P : Program) : CallP := ⟨ACall P, fun mv => AIterM mv P⟩
theorem ACalls.mono (P : Program) : CallP.Mono (ACalls P) := fun _ _ _ _ _ hk H => ACall.mono' P hk H
/-- The marks that loops over functions have left. -/
structure Marks (wS w : World) (ds : List Deferred) : Prop where
  ex : ∃ Ds : List Nat, ds = Ds.map (fun D => { target := .collected D, args := #[] }) ∧ Ds.Nodup ∧ ∀ D ∈ Ds, wS.heap.size ≤ D ∧ w.heap[D]? = some (.deferred (some []))
theorem Marks.nil (wS w : World) : Marks wS w [] := ⟨[], rfl, List.nodup_nil, fun _ h => by cases h⟩
/-- A block that is none of a call's own. -/
def ofar : Obj → Bool
  | .cells .. | .map .. | .mapIter .. => false
  | _ => true
theorem ofar_cells {o : Obj} (h : ofar o = true) : o.isCells = false := by cases o <;> first | rfl | cases h
theorem HOK.noMark {F : Nat → Prop} {g : GM} {w : World} {h : List AB} (k : HOK F g w h) {D : Nat} {o : Obj} (ho : w.heap[D]? = some o) (hc : ofar o = true) : ¬ MO g h D := by
  rintro ⟨d, cap, ⟨x, hx, hl⟩, hg⟩
  cases x with
  | dead => exact hl
  | box m c => obtain ⟨cs, t, h1, _⟩ := k.box d m c D cap hx hg; rw [ho] at h1; injection h1 with h1; rw [h1] at hc; cases hc
  | row n sz c => obtain ⟨_, _, cs, t, h1, _⟩ := k.row d n sz c D cap hx hg; rw [ho] at h1; injection h1 with h1; rw [h1] at hc; cases hc
  | mp kt L => obtain ⟨es, h1, _⟩ := k.mp d kt L D cap hx hg; rw [ho] at h1; injection h1 with h1; rw [h1] at hc; cases hc
  | mit m n seen => obtain ⟨_, _, mb, _, h1⟩ := k.mit d m n seen D cap hx hg; rw [ho] at h1; injection h1 with h1; rw [h1] at hc; cases hc
  | rwg n sz c => obtain ⟨_, _, cs, t, h1, _⟩ := k.rwg d n sz c D cap hx hg; rw [ho] at h1; injection h1 with h1; rw [h1] at hc; cases hc
theorem Marks.tr {F : Nat → Prop} {g g' : GM} {h h' : List AB} {wS w w' : World} {ds : List Deferred} (m : Marks wS w ds) (k : HOK F g w h) (T : Tr F g h w g' h' w') : Marks wS w' ds := by
  obtain ⟨Ds, h1, h2, h3⟩ := m.ex
  refine ⟨Ds, h1, h2, fun D hD => ⟨(h3 D hD).1, ?_⟩⟩
  rw [T.chg.block D (Array.getElem?_eq_some_iff.1 (h3 D hD).2).1 (k.noMark (h3 D hD).2 rfl)]
  exact (h3 D hD).2

/-- A state of a call: what its temporaries and its blocks say, from the state in which it began. -/
structure Rel (F : Nat → Prop) (n : Nat) (gS : GM) (hS : List AB) (wS : World) (e : Env) (h : List AB) (a : Act) (w : World) : Prop where
  ex : ∃ g, Tr F gS hS wS g h w ∧ ∀ t, rep (MM F g h) w (e t) g (a.tmps.getD t undef)
  dn : Marks wS w a.defers
  sz : a.tmps.size = n
  dm : ∀ d p, gS d = some p → d < hS.length

section
variable {rd : Option Nat} {md : Nat} {F : Nat → Prop} {P : Program} {n : Nat} {gS : GM} {hS : List AB} {wS : World} {e : Env} {h : List AB} {a : Act} {w : World}

theorem rep_undef {M : Nat → Prop} {g : GM} : rep M w und g undef := ⟨#[], rfl, rfl, fun i hi => by omega⟩
theorem rep_eval {M : Nat → Prop} {g : GM} (hv : ∀ t, rep M w (e t) g (a.tmps.getD t undef)) (x : Operand) : rep M w (AX.ev e (cx x)) g (a.eval x) := by
  cases x with
  | tmp t => exact hv t
  | const v => exact rep_ofV M w g v
  | global g => trivial
  | func f => exact ⟨#[], rfl, rfl, fun i hi => by omega⟩
theorem Rel.put {g g' : GM} {h' : List AB} {w' : World} {dst : Option Nat} {r : AV} {u : Value} (T : Tr F gS hS wS g h w) (hv : ∀ t, rep (MM F g h) w (e t) g (a.tmps.getD t undef)) (dn : Marks wS w a.defers) (sz : a.tmps.size = n) (dm : ∀ d p, gS d = some p → d < hS.length)
    (T2 : Tr F g h w g' h' w') (hu : rep (MM F g' h') w' r g' u) (hd : ∀ d, dst = some d → d < n) : Rel F n gS hS wS (e.put dst r) h' (a.put dst u) w' := by
  refine ⟨⟨g', T.trans T2, fun t => ?_⟩, ?_, ?_, dm⟩
  · cases dst with
    | none => exact T2.hold (hv t)
    | some d =>
      have hdn := hd d rfl
      simp only [Env.put, Act.put]
      by_cases e1 : t = d
      · subst e1
        rw [if_pos rfl]
        have : (a.tmps.setIfInBounds t u).getD t undef = u := by simp [sz, hdn]
        rw [this]; exact hu
      · rw [if_neg e1]
        have : (a.tmps.setIfInBounds d u).getD t undef = a.tmps.getD t undef := by
          simp [Array.getElem?_setIfInBounds_ne (Ne.symm e1)]
        rw [this]; exact T2.hold (hv t)
  · cases dst <;> exact dn.tr T.ok T2
  · cases dst <;> simp [Act.put, sz]
theorem Rel.drew (hr : Rel F n gS hS wS e h a w) : Rel F n gS hS wS e h a { w with drawn := w.drawn + 1 } := by
  obtain ⟨⟨g, T, hv⟩, dn, sz, dm⟩ := hr
  have T2 : Tr F g h w g h w.drew := Tr.keep T.ok (Chg.drew _ w)
  exact ⟨⟨g, T.trans T2, fun t => T2.hold (hv t)⟩, dn.tr T.ok T2, sz, dm⟩

theorem comp_call {op : Op} {f : FuncId} {xs : List AX} (hc : compOp P op = .call f xs) : ∃ args ats, op = .call ⟨.value (.func f), args, ats⟩ ∧ xs = args.toList.map cx := by
  cases op <;> simp only [compOp] at hc
  case call c =>
    obtain ⟨callee, args, ats⟩ := c
    cases callee with
    | invoke a b => cases hc
    | builtin b => cases b <;> simp only [compCall] at hc <;> (repeat' split at hc) <;> cases hc
    | value x =>
      cases x <;> simp only [compCall] at hc <;> cases hc
      exact ⟨args, ats, rfl, rfl⟩
  case slice t x lo hi m => cases m <;> simp only at hc <;> (repeat' split at hc) <;> cases hc
  case makeFunc fn first cap => cases fn <;> simp only at hc <;> (repeat' split at hc) <;> cases hc
  case makeMap t r => cases r <;> simp only at hc <;> (repeat' split at hc) <;> cases hc
  case next it s => cases s <;> cases hc
  all_goals first | cases hc | ((repeat' split at hc) <;> cases hc)
theorem comp_calv {op : Op} {x : AX} {xs : List AX} (hc : compOp P op = .calv x xs) : ∃ t args ats, op = .call ⟨.value (.tmp t), args, ats⟩ ∧ x = .t t ∧ xs = args.toList.map cx := by
  cases op <;> simp only [compOp] at hc
  case call c =>
    obtain ⟨callee, args, ats⟩ := c
    cases callee with
    | invoke a b => cases hc
    | builtin b => cases b <;> simp only [compCall] at hc <;> (repeat' split at hc) <;> cases hc
    | value y =>
      cases y <;> simp only [compCall] at hc <;> cases hc
      exact ⟨_, args, ats, rfl, rfl, rfl⟩
  case slice t x lo hi m => cases m <;> simp only at hc <;> (repeat' split at hc) <;> cases hc
  case makeFunc fn first cap => cases fn <;> simp only at hc <;> (repeat' split at hc) <;> cases hc
  case makeMap t r => cases r <;> simp only at hc <;> (repeat' split at hc) <;> cases hc
  case next it s => cases s <;> cases hc
  all_goals first | cases hc | ((repeat' split at hc) <;> cases hc)
theorem comp_nxt {op : Op} {x : AX} (hc : compOp P op = .nxt x) : ∃ it, op = .next it false ∧ x = cx it := by
  cases op <;> simp only [compOp] at hc
  case next it s =>
    cases s
    · simp only [AOp.nxt.injEq] at hc
      exact ⟨it, rfl, hc.symm⟩
    · cases hc
  case call c =>
    obtain ⟨callee, args, ats⟩ := c
    simp only [compCall] at hc
    (repeat' split at hc) <;> cases hc
  case slice t x lo hi m => cases m <;> simp only at hc <;> (repeat' split at hc) <;> cases hc
  case makeFunc fn first cap => cases fn <;> simp only at hc <;> (repeat' split at hc) <;> cases hc
  case makeMap t r => cases r <;> simp only at hc <;> (repeat' split at hc) <;> cases hc
  all_goals first | cases hc | ((repeat' split at hc) <;> cases hc)
theorem comp_app {op : Op} {sz b : Nat} {x y : AX} (hc : compOp P op = .app sz b x y) : ∃ t args ats el i zs x0 y0, op = .call ⟨.builtin .append, args, ats⟩ ∧ args.toList = [x0, y0] ∧ ats.toList = [t, t] ∧ tyEl P t = some (el, i) ∧ zcells i = some zs ∧ sz = i.size ∧ b = i.bytes ∧ x = cx x0 ∧ y = cx y0 := by
  cases op <;> simp only [compOp] at hc
  case call c =>
    obtain ⟨callee, args, ats⟩ := c
    cases callee with
    | invoke a b => cases hc
    | value y => cases y <;> simp only [compCall] at hc <;> cases hc
    | builtin b =>
      cases b <;> simp only [compCall] at hc
      case append =>
        split at hc
        · rename_i x0 y0 t t' hl hat
          split at hc
          · rename_i htt
            subst htt
            split at hc
            · rename_i el i ht
              split at hc
              · rename_i zs hz
                cases hc
                exact ⟨t, args, ats, el, i, zs, x0, y0, rfl, hl, hat, ht, hz, rfl, rfl, rfl, rfl⟩
              · cases hc
            · cases hc
          · cases hc
        · cases hc
      all_goals first | cases hc | ((repeat' split at hc) <;> cases hc)
  case slice t x lo hi m => cases m <;> simp only at hc <;> (repeat' split at hc) <;> cases hc
  case makeFunc fn first cap => cases fn <;> simp only at hc <;> (repeat' split at hc) <;> cases hc
  case makeMap t r => cases r <;> simp only at hc <;> (repeat' split at hc) <;> cases hc
  case next it s => cases s <;> cases hc
  all_goals first | cases hc | ((repeat' split at hc) <;> cases hc)

theorem enter_run {f : FuncId} {fn : Func} {vs : Array Value} (hf : P.funcs[f]? = some fn) (hn : (fn.name == "runtime.NumGoroutine") = false) (hb : fn.body.isNone = false) : (callFunc f vs).run P w = .ok (.enter f vs) w := by
  have hn' : ¬ (fn.name == "runtime.NumGoroutine") = true := by rw [hn]; simp
  have hb' : ¬ fn.body.isNone = true := by rw [hb]; simp
  simp only [callFunc, program, bind, Sem.bind, Sem.run, hf, if_neg hn', if_neg hb']
  rfl

theorem step_ok (o : Oper) {K : AV → List AB → Prop} {Kr : Act → World → Prop} {Q : Exit → Act → World → Prop} (hd : ∀ d, o.dst = some d → d < n) (hr : Rel F n gS hS wS e h a w)
    (hK : ∀ r h' a' w', K r h' → Rel F n gS hS wS (e.put o.dst r) h' a' w' → Kr a' w') (H : astep (ACalls P) (compOp P o.op) e h K) : o.wpIn (Wd rd) md P a w Kr Q := by
  have hnd : ∀ c, o.op ≠ .defer c := fun c hc => by rw [hc] at H; exact H.elim
  have semA : ∀ ρ, o.semAt (Wd rd).round ρ = execOp ρ o := fun ρ => by
    show o.semAt rd ρ = _
    cases rd with
    | none => simp [Oper.semAt]
    | some l => exact Oper.semAt_some l _ _ hnd
  obtain ⟨⟨g, T, hv⟩, dn, sz, dm⟩ := hr
  have he := fun x => rep_eval hv x
  have plain : aop (compOp P o.op) (AX.ev e) h K → o.wpIn (Wd rd) md P a w Kr Q := fun H => by
    obtain ⟨r, h', h1, h2⟩ := aop_one _ _ _ _ H
    obtain ⟨u, w', g', hrun, hu, T2⟩ := aop_ok o T.ok he (fun v => rfl) h1
    have R := fun d => Rel.put (dst := o.dst) T hv dn sz dm T2 hu d
    rcases hrun with hrun | ⟨hrun, rfl⟩
    · refine ⟨fun _ _ => trivial, ?_⟩
      simp only [semA, hrun, Oper.uponIn]
      exact hK _ _ _ _ h2 (R hd)
    · refine ⟨fun _ _ => trivial, ?_⟩
      simp only [semA, hrun, Oper.uponIn]
      exact hK _ _ _ _ h2 (R hd)
  have enter : ∀ (f : FuncId) (xs : List AV) (vs : Array Value), (execOp a.eval o).run P w = (callFunc f vs).run P w → vs.size = xs.length → (∀ (i : Nat) (x : AV), xs[i]? = some x → rep (MM F g h) w x g (vs.getD i undef)) → ACall P f xs h K → o.wpIn (Wd rd) md P a w Kr Q := fun f xs vs hrun hs hx H => by
    obtain ⟨⟨fn, h1, h2, h3⟩, H⟩ := H
    refine ⟨fun _ _ => trivial, ?_⟩
    simp only [semA, hrun, enter_run h1 h2 h3, Oper.uponIn]
    refine ⟨fun hh => Wd.deep rd hh, Wd.calls ((H F g w vs T.ok hs hx).mono ?_)⟩
    rintro en w' ⟨v, r, h', g', rfl, T2, hu, hk⟩
    exact hK _ _ _ _ hk (Rel.put T hv dn sz dm T2 hu hd)
  have args_ok : ∀ (args : Array Operand) (i : Nat) (x : AV), ((args.toList.map cx).map (AX.ev e))[i]? = some x → rep (MM F g h) w x g ((args.map a.eval).getD i undef) := fun args i x hx => by
    rw [List.map_map, List.getElem?_map] at hx
    cases ha : args.toList[i]? with
    | none => rw [ha] at hx; cases hx
    | some y =>
      rw [ha] at hx
      injection hx with hx
      subst hx
      have ha' : args[i]? = some y := by simpa using ha
      have : (args.map a.eval).getD i undef = a.eval y := by simp [ha']
      rw [this]
      exact he y
  cases hc : compOp P o.op
  case call f xs =>
    obtain ⟨args, ats, hop, rfl⟩ := comp_call hc
    rw [hc] at H
    refine enter f _ (args.map a.eval) ?_ (by simp) (args_ok args) H
    simp only [execOp, hop, resolve, Deferred.ofValue, Act.eval, Sem.run_bind, Sem.run_pure, Result.andThen_ok, invoke, Array.empty_append, Array.append_empty]
  case calv x xs =>
    obtain ⟨t, args, ats, hop, rfl, rfl⟩ := comp_calv hc
    rw [hc] at H
    simp only [astep, AX.ev] at H
    have ht := he (.tmp t)
    simp only [cx, AX.ev] at ht
    generalize e t = v at H ht
    cases v <;> simp only at H
    rename_i f m c
    obtain ⟨cs, h1, h2, h3⟩ := ht
    refine enter f _ (args.map a.eval ++ cs) ?_ (by simp [h2]) (fun i x hx => ?_) H
    · have h1' : a.eval (.tmp t) = .func (.func f) #[] cs := h1
      simp only [execOp, hop, resolve, h1', Deferred.ofValue, Sem.run_bind, Sem.run_pure, Result.andThen_ok, invoke, Array.empty_append]
    · rcases Nat.lt_or_ge i args.size with hi | hi
      · rw [List.getElem?_append_left (by simpa using hi)] at hx
        have := args_ok args i x hx
        have e1 : (args.map a.eval ++ cs).getD i undef = (args.map a.eval).getD i undef := by
          simp [Array.getElem?_append_left (xs := args.map a.eval) (ys := cs) (i := i) (by simpa using hi)]
        rw [e1]; exact this
      · rw [List.getElem?_append_right (by simpa using hi)] at hx
        simp only [List.length_map, Array.length_toList] at hx
        rw [List.getElem?_map] at hx
        have hlt : i - args.size < m := by
          rcases Nat.lt_or_ge (i - args.size) m with h' | h'
          · exact h'
          · rw [List.getElem?_eq_none (by simpa using h')] at hx; cases hx
        rw [List.getElem?_range hlt] at hx
        injection hx with hx
        subst hx
        obtain ⟨u, hu, hrep⟩ := h3 _ hlt
        have e1 : (args.map a.eval ++ cs).getD i undef = u := by
          have : (args.map a.eval ++ cs)[i]? = some u := by
            rw [Array.getElem?_append_right (by simpa using hi)]
            simpa using hu
          simp [this]
        rw [e1]; exact hrep
  case nxt x =>
    obtain ⟨it, hop, rfl⟩ := comp_nxt hc
    rw [hc] at H
    obtain ⟨r, h', u', w', g', hk, hrun, hu, T2⟩ := val_nxt (P := P) (ty := o.type) T.ok (he it) H
    have hex : (execOp a.eval o).run P w = .ok (.value u') w' := by
      simp only [execOp, hop]
      simp [hrun]
    refine ⟨fun _ _ => trivial, ?_⟩
    simp only [semA, hex, Oper.uponIn]
    exact hK _ _ _ _ hk (Rel.put T hv dn sz dm T2 hu hd)
  case app sz' b x y =>
    rw [hc] at H
    rcases H with H | H
    · exact plain (by rw [hc]; exact H)
    · obtain ⟨t, args, ats, el, i, zs, x0, y0, hop, hl, hat, ht, hz, rfl, rfl, rfl, rfl⟩ := comp_app hc
      have H' : asplit (.app i.size i.bytes (.k (AX.ev e (cx x0))) (.k (AX.ev e (cx y0)))) (fun x => x.ev (fun _ => .bot)) h K := H
      obtain ⟨r, h', u', w', g', hk, hrun, hu, T2⟩ := val_split (P := P) (ty := o.type) T.ok ht hz (he x0) (he y0) H'
      have ha : args.map a.eval = #[a.eval x0, a.eval y0] := by
        apply Array.ext'
        simp [hl]
      have hats : ats = #[t, t] := by
        apply Array.ext'
        simp [hat]
      have hex : (execOp a.eval o).run P w = .ok (.value u') w' := by
        simp only [execOp, hop, resolve, Sem.run_bind, Sem.run_pure, Result.andThen_ok, invoke, ha, hats]
        have : ∀ cs, (builtin Builtin.append #[t, t] o.type cs #[a.eval x0, a.eval y0]) = (do pure (.value (← Builtin.append_ #[t, t] o.type #[a.eval x0, a.eval y0]))) := fun _ => rfl
        rw [this]
        simp [hrun]
      refine ⟨fun _ _ => trivial, ?_⟩
      simp only [semA, hex, Oper.uponIn]
      exact hK _ _ _ _ hk (Rel.put T hv dn sz dm T2 hu hd)
  all_goals
    rw [hc] at H
    exact plain (by rw [hc]; exact H)

/-- From a region's operations to their readings. -/
def compAO (P : Program) (n : Nat) (ops : Array Oper) (o : Oper) : Option AO :=
  if o.dst.all (fun d => decide (d < n)) = true then
    match o.guard with
    | none => some ⟨o.dst, compOp P o.op, none⟩
    | some (j, b) => match (ops[j]?).bind (·.dst) with
      | some t => some ⟨o.dst, compOp P o.op, some (t, b)⟩
      | none => none
  else none
theorem gstep_ok {ops : Array Oper} {i : Nat} {o : Oper} {x : AO} (hi : ops[i]? = some o) (hx : compAO P n ops o = some x) {K : AV → List AB → Prop} {Kr : Act → World → Prop} {Q : Exit → Act → World → Prop} (hr : Rel F n gS hS wS e h a w)
    (hK : ∀ r h' a' w', K r h' → Rel F n gS hS wS (e.put x.dst r) h' a' w' → Kr a' w') (H : gstep (ACalls P) x e h K) : wpOpIn (Wd rd) md P ops Q i Kr a w := by
  unfold compAO at hx
  split at hx
  case isFalse => cases hx
  rename_i hdn
  have hd : ∀ d, o.dst = some d → d < n := fun d he => by rw [he] at hdn; simpa using hdn
  have skip : K und h → ∀ dst, dst = o.dst → x.dst = dst → Kr (a.put dst undef) w := fun hk dst e1 e2 => by
    obtain ⟨⟨g, T, hv⟩, dn, sz, dm⟩ := hr
    refine hK _ _ _ _ hk ?_
    rw [e2]
    exact Rel.put T hv dn sz dm (Tr.refl T.ok) rep_undef (fun d he => hd d (by rw [← e1]; exact he))
  unfold wpOpIn
  simp only [hi]
  unfold gstep at H
  split at hx
  · rename_i hg
    injection hx with hx
    subst hx
    simp only [Region.wanted, hg, if_true]
    exact step_ok o hd hr hK H
  · rename_i j b hg
    split at hx
    · rename_i t ht
      injection hx with hx
      subst hx
      simp only [Region.wanted, hg]
      simp only at H
      have hrt : ∃ g, rep (MM F g h) w (e t) g (a.tmps.getD t undef) := hr.ex.elim fun g hh => ⟨g, hh.2 t⟩
      obtain ⟨g, hrt⟩ := hrt
      generalize e t = v at H hrt
      split at H
      · rename_i q
        have hq : a.tmps.getD t undef = .bool q := hrt
        have hq' : a.tmps[t]? = some (.bool q) := by
          cases hh : a.tmps[t]? with
          | none => simp [hh, undef] at hq
          | some y => simp [hh] at hq; rw [hq]
        have hy : yielded ops a.tmps j = some q := by simp [yielded, ht, hq']
        rw [hy]
        rcases acond_e H with ⟨h1, h2⟩ | ⟨h1, h2⟩
        · have : (some q == some b) = true := by simpa using h1
          rw [this, if_pos rfl]
          exact step_ok o hd hr hK h2
        · have : (some q == some b) = false := by simpa using h1
          rw [this]
          simp only [Bool.false_eq_true, if_false]
          exact ⟨fun _ _ => trivial, skip h2 o.dst rfl rfl⟩
      · obtain ⟨cs, h1, h2, _⟩ := hrt
        have hcs : cs = #[] := Array.eq_empty_of_size_eq_zero h2
        subst hcs
        have hy : yielded ops a.tmps j = none := by
          unfold yielded
          rw [ht]
          simp only [Option.bind_some]
          cases hh : a.tmps[t]? with
          | none => rfl
          | some y => simp [hh] at h1; rw [h1]
        rw [hy]
        have : ((none : Option Bool) == some b) = false := rfl
        rw [this]
        simp only [Bool.false_eq_true, if_false]
        exact ⟨fun _ _ => trivial, skip H o.dst rfl rfl⟩
      · exact H.elim
    · cases hx
end
end Go.Proofs.Ytbpilgflejdhaaa
