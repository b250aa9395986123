/- The order of a region's operations: over abstract values one order stands for all / One operation of a region, read over abstract values, in a real run / Regions, read over abstract values, in a real run: the order of a region that draws it counts for nothing / Regions that draw their order, with operations of which either may come first: all orders of those are read, one by one -/
import Derived.Test.YtlffjnmbpoemnaaBk3
import Derived.RangeFuncWrites
import Derived.RangeFuncLeaves
import Derived.OrdersIn
import Derived.TacticsIn

namespace Go.Proofs.Ytlffjnmbpoemnaa
open Go.RowKit

structure AO where
  dst : Option Nat
  op : AOp
  guard : Option (Nat × Bool)
  deriving Inhabited
abbrev Env := Nat → AV
def Env.put (e : Env) : Option Nat → AV → Env
  | some d, v => fun t => if t = d then v else e t
  | none, _ => e
/-- What is known of calls, and of functions that yield values. -/
structure CallP where
  call : FuncId → List AV → List AB → (AV → List AB → Prop) → Prop
  iter : Bool → FuncId → List AV → List (List AV) → Prop
instance : CoeFun CallP (fun _ => FuncId → List AV → List AB → (AV → List AB → Prop) → Prop) := ⟨CallP.call⟩
def CallP.Mono (C : CallP) : Prop := ∀ f xs h (K K' : AV → List AB → Prop), (∀ r h', K r h' → K' r h') → C f xs h K → C f xs h K'
def astep (C : CallP) (o : AOp) (e : Env) (h : List AB) (K : AV → List AB → Prop) : Prop :=
  match o with
  | .call f xs => C f (xs.map (AX.ev e)) h K
  | .calv x xs => match x.ev e with
    | .fn f m c => C f (xs.map (AX.ev e) ++ (List.range m).map c) h K
    | _ => False
  | .app sz b x y => aop (.app sz b x y) (AX.ev e) h K ∨ asplit (.app sz b x y) (AX.ev e) h K
  | .nxt x => anext (x.ev e) h K
  | o => aop o (AX.ev e) h K
def gstep (C : CallP) (o : AO) (e : Env) (h : List AB) (K : AV → List AB → Prop) : Prop :=
  match o.guard with
  | none => astep C o.op e h K
  | some (t, b) => match e t with
    | .bool q => acond (q == b) (astep C o.op e h K) (K und h)
    | .tup 0 _ => K und h
    | _ => False
def AX.tmps : AX → List Nat
  | .t i => [i]
  | .k _ => []
def AO.looks (o : AO) : List Nat := o.op.xs.flatMap AX.tmps ++ (match o.guard with | some (t, _) => [t] | none => [])

theorem ev_congr {x : AX} {e e' : Env} (h : ∀ t ∈ x.tmps, e t = e' t) : x.ev e = x.ev e' := by
  cases x with
  | t i => exact h i (by simp [AX.tmps])
  | k v => rfl
theorem astep_env {C : CallP} {o : AOp} {e e' : Env} {h : List AB} {K : AV → List AB → Prop} (hx : ∀ x ∈ o.xs, x.ev e = x.ev e') (H : astep C o e h K) : astep C o e' h K := by
  cases o
  case call f xs =>
    simp only [astep] at H ⊢
    have hm : xs.map (AX.ev e) = xs.map (AX.ev e') := List.map_congr_left hx
    rw [← hm]; exact H
  case calv x xs =>
    simp only [astep] at H ⊢
    have hm : xs.map (AX.ev e) = xs.map (AX.ev e') := List.map_congr_left (fun y hy => hx y (by simp [AOp.xs, hy]))
    rw [← hx x (by simp [AOp.xs]), ← hm]; exact H
  case app sz b x y => exact H.imp (aop_env _ hx) (asplit_env _ hx)
  case nxt x =>
    simp only [astep] at H ⊢
    rw [← hx x (by simp [AOp.xs])]; exact H
  all_goals (simp only [astep] at H ⊢; exact aop_env _ hx H)
theorem astep_mono {C : CallP} (hC : C.Mono) {o : AOp} {e : Env} {h : List AB} {K K' : AV → List AB → Prop} (hk : ∀ r h', K r h' → K' r h') (H : astep C o e h K) : astep C o e h K' := by
  cases o
  case call f xs => exact hC _ _ _ _ _ hk H
  case calv x xs =>
    simp only [astep] at H ⊢
    generalize x.ev e = v at H ⊢
    cases v <;> simp only at H ⊢
    exact hC _ _ _ _ _ hk H
  case app sz b x y => exact H.imp (aop_mono _ hk) (asplit_mono _ hk)
  case nxt x => exact anext_mono hk H
  all_goals (simp only [astep] at H ⊢; exact aop_mono _ hk H)
theorem astep_quiet {C : CallP} {o : AOp} (hc : o.chg = false) (e : Env) (h : List AB) (K : AV → List AB → Prop) : astep C o e h K = aop o (AX.ev e) h K := by
  cases o <;> first | rfl | (simp [AOp.chg] at hc)
theorem gstep_env {C : CallP} {o : AO} {e e' : Env} {h : List AB} {K : AV → List AB → Prop} (hx : ∀ t ∈ o.looks, e t = e' t) (H : gstep C o e h K) : gstep C o e' h K := by
  have hx1 : ∀ x ∈ o.op.xs, x.ev e = x.ev e' := fun x hx' => ev_congr fun t ht => hx t (List.mem_append_left _ (List.mem_flatMap.2 ⟨x, hx', ht⟩))
  unfold gstep at H ⊢
  cases hg : o.guard with
  | none => rw [hg] at H; exact astep_env hx1 H
  | some p =>
    obtain ⟨t, b⟩ := p
    rw [hg] at H
    have ht : e t = e' t := hx t (by simp [AO.looks, hg])
    simp only at H ⊢
    rw [← ht]
    generalize e t = v at H ⊢
    split at H
    · exact acond_i (fun hq => (acond_e H).elim (fun h => astep_env hx1 h.2) (fun h => by rw [h.1] at hq; cases hq)) (fun hq => (acond_e H).elim (fun h => by rw [h.1] at hq; cases hq) (fun h => h.2))
    · exact H
    · exact H.elim
theorem gstep_mono {C : CallP} (hC : C.Mono) {o : AO} {e : Env} {h : List AB} {K K' : AV → List AB → Prop} (hk : ∀ r h', K r h' → K' r h') (H : gstep C o e h K) : gstep C o e h K' := by
  unfold gstep at H ⊢
  cases hg : o.guard with
  | none => rw [hg] at H; exact astep_mono hC hk H
  | some p =>
    obtain ⟨t, b⟩ := p
    rw [hg] at H
    simp only at H ⊢
    generalize e t = v at H ⊢
    split at H
    · exact acond_i (fun hq => (acond_e H).elim (fun h => astep_mono hC hk h.2) (fun h => by rw [h.1] at hq; cases hq)) (fun hq => (acond_e H).elim (fun h => by rw [h.1] at hq; cases hq) (fun h => hk _ _ h.2))
    · exact hk _ _ H
    · exact H.elim
theorem gstep_quiet {C : CallP} {o : AO} (hc : o.op.chg = false) {e : Env} {h : List AB} {K : AV → List AB → Prop} (H : gstep C o e h K) : ∃ r, K r h ∧ gstep C o e h (fun a b => a = r ∧ b = h) ∧ (o.op.rds = false → ∀ h2 (K2 : AV → List AB → Prop), K2 r h2 → gstep C o e h2 K2) := by
  unfold gstep at H ⊢
  simp only [astep_quiet hc] at H ⊢
  cases hg : o.guard with
  | none => rw [hg] at H; exact aop_quiet _ hc H
  | some p =>
    obtain ⟨t, b⟩ := p
    rw [hg] at H
    simp only at H ⊢
    generalize e t = v at H ⊢
    split at H
    · rename_i q
      rcases acond_e H with ⟨h1, h2⟩ | ⟨h1, h2⟩
      · simp only [h1, acond]
        exact aop_quiet _ hc h2
      · simp only [h1, acond]
        exact ⟨und, h2, by simp, fun _ h2 K2 hk => hk⟩
    · exact ⟨und, H, by simp, fun _ h2 K2 hk => hk⟩
    · exact H.elim

theorem put_ne {e : Env} {dst : Option Nat} {v : AV} {t : Nat} (h : dst ≠ some t) : e.put dst v t = e t := by
  cases dst with
  | none => rfl
  | some d => simp only [Env.put]; rw [if_neg (fun e => h (by rw [e]))]
theorem put_eq {e : Env} {t : Nat} {v : AV} : e.put (some t) v t = v := by simp [Env.put]
theorem put_comm {e : Env} {x y : Option Nat} {v u : AV} (h : ∀ d, x = some d → y ≠ some d) : (e.put x v).put y u = (e.put y u).put x v := by
  cases x with
  | none => rfl
  | some d =>
    cases y with
    | none => rfl
    | some d' =>
      have hne : d' ≠ d := fun e => h d rfl (by rw [e])
      funext t
      simp only [Env.put]
      by_cases h1 : t = d'
      · subst h1; simp [hne]
      · simp [h1]

/-- A look into the blocks gives what it gave. -/
def wat (C : CallP) (o : AO) (e : Env) (h : List AB) : Prop := ∀ d, o.dst = some d → gstep C o e h (fun v _ => v = e d)
section
variable (C : CallP) (ao : Nat → AO) (W : Nat → List Nat)
def arun (l : List Nat) (D : Nat → Prop) (Q : Env → List AB → Prop) (e : Env) (h : List AB) : Prop :=
  match l with
  | [] => Q e h
  | i :: rest => gstep C (ao i) e h (fun r h' => (∀ j ∈ W i, D j → wat C (ao j) e h') ∧ arun rest (fun k => k = i ∨ D k) Q (e.put (ao i).dst r) h')
end
section
variable {C : CallP} {ao : Nat → AO} {W : Nat → List Nat}
theorem arun_anti (hC : C.Mono) : ∀ (l : List Nat) {D D' : Nat → Prop} {Q : Env → List AB → Prop} {e : Env} {h : List AB}, (∀ k, D' k → D k) → arun C ao W l D Q e h → arun C ao W l D' Q e h
  | [], _, _, _, _, _, _, H => H
  | _ :: rest, _, _, _, _, _, hd, H => gstep_mono hC (fun _ _ hh => ⟨fun j hj hDj => hh.1 j hj (hd j hDj), arun_anti hC rest (fun k hk => hk.imp id (hd k)) hh.2⟩) H
theorem wat_env {o : AO} {e : Env} {h : List AB} {dst : Option Nat} {v : AV} (h1 : ∀ d, dst = some d → d ∉ o.looks) (h2 : ∀ d, dst = some d → o.dst ≠ some d) (H : wat C o (e.put dst v) h) : wat C o e h := fun d hd => by
  have h3 : dst ≠ some d := fun e => h2 d e hd
  have := H d hd
  rw [put_ne h3] at this
  exact gstep_env (fun t ht => put_ne (fun e => h1 t e ht)) this

/-- What a region's static look gives: clo: what must have come before. -/
structure Still (ao : Nat → AO) (W : Nat → List Nat) (clo : Nat → Nat → Prop) (N : Nat) : Prop where
  apart : ∀ k j, k < N → j < N → k ≠ j → ¬ clo k j → ¬ clo j k → ∀ d, (ao j).dst = some d → d ∉ (ao k).looks ∧ (ao k).dst ≠ some d
  wat : ∀ i k j, i < N → k ∈ W i → j < N → k ≠ j → ¬ clo k j → ∀ d, (ao j).dst = some d → d ∉ (ao k).looks ∧ (ao k).dst ≠ some d
  self : ∀ i j, i < N → j ∈ W i → ∀ d, (ao j).dst = some d → d ∉ (ao j).looks
  wq : ∀ j, j < N → (ao j).op.chg = false → W j = []
def Pair (ao : Nat → AO) (W : Nat → List Nat) (clo : Nat → Nat → Prop) (j i : Nat) : Prop :=
  j ≠ i ∧ ¬ clo j i ∧ ((ao j).op.chg = true → clo i j) ∧ ((ao i).op.chg = true → (ao j).op.rds = true → ¬ clo i j → j ∈ W i ∧ (ao j).dst ≠ none)

theorem pull (hC : C.Mono) {clo : Nat → Nat → Prop} {N : Nat} (S : Still ao W clo N) {i : Nat} (hiN : i < N) (rest : List Nat) (Q : Env → List AB → Prop) : ∀ (pre : List Nat) (D : Nat → Prop) (e : Env) (h : List AB),
    (∀ j ∈ pre, j < N) → (∀ k, D k → k < N) → pre.Pairwise (Pair ao W clo) → (∀ j ∈ pre, Pair ao W clo j i ∧ ¬ clo i j) → (∀ k, D k → ∀ j ∈ pre, ¬ clo k j ∧ k ≠ j) →
    arun C ao W (pre ++ i :: rest) D Q e h →
    gstep C (ao i) e h (fun r h' => (∀ j ∈ W i, D j → wat C (ao j) e h') ∧ arun C ao W (pre ++ rest) (fun k => k = i ∨ D k) Q (e.put (ao i).dst r) h')
  | [], _, _, _, _, _, _, _, _, H => H
  | j :: pre, D, e, h, hN, hDN, hpw, hpi, hD, H => by
    obtain ⟨⟨hne, hji, hcj, hci⟩, hij⟩ := hpi j List.mem_cons_self
    have hjN := hN j List.mem_cons_self
    have hq : (ao j).op.chg = false := by
      cases hh : (ao j).op.chg with
      | false => rfl
      | true => exact (hij (hcj hh)).elim
    have H : gstep C (ao j) e h _ := H
    obtain ⟨rj, ⟨_, Hj⟩, gj, nr⟩ := gstep_quiet hq H
    rw [List.pairwise_cons] at hpw
    have IH := pull hC S hiN rest Q pre (fun k => k = j ∨ D k) (e.put (ao j).dst rj) h (fun k hk => hN k (List.mem_cons_of_mem _ hk)) (fun k hk => hk.elim (fun e => e ▸ hjN) (hDN k)) hpw.2 (fun k hk => hpi k (List.mem_cons_of_mem _ hk))
      (fun k hk k' hk' => hk.elim (fun e => by subst e; exact ⟨(hpw.1 k' hk').2.1, (hpw.1 k' hk').1⟩) (fun hDk => hD k hDk k' (List.mem_cons_of_mem _ hk'))) Hj
    have ai := S.apart i j hiN hjN (Ne.symm hne) hij hji
    have aj := S.apart j i hjN hiN hne hji hij
    have IH2 := gstep_env (e' := e) (fun t ht => put_ne (fun ed => (ai t ed).1 ht)) IH
    have fin : ∀ ri hi, (∀ k ∈ W i, (k = j ∨ D k) → wat C (ao k) (e.put (ao j).dst rj) hi) → arun C ao W (pre ++ rest) (fun k => k = i ∨ k = j ∨ D k) Q ((e.put (ao j).dst rj).put (ao i).dst ri) hi → gstep C (ao j) e hi (fun a b => a = rj ∧ b = hi) →
        (∀ k ∈ W i, D k → wat C (ao k) e hi) ∧ arun C ao W (j :: pre ++ rest) (fun k => k = i ∨ D k) Q (e.put (ao i).dst ri) hi := by
      intro ri hi hw hr hg
      refine ⟨fun k hk hDk => ?_, ?_⟩
      · obtain ⟨n1, n2⟩ := hD k hDk j List.mem_cons_self
        have ak := S.wat i k j hiN hk hjN n2 n1
        exact wat_env (fun d hd => (ak d hd).1) (fun d hd => (ak d hd).2) (hw k hk (.inr hDk))
      · show gstep C (ao j) (e.put (ao i).dst ri) hi _
        refine gstep_mono hC ?_ (gstep_env (fun t ht => (put_ne (fun ed => (aj t ed).1 ht)).symm) hg)
        rintro r h' ⟨rfl, rfl⟩
        refine ⟨fun k hk => (by rw [S.wq j hjN hq] at hk; cases hk), ?_⟩
        rw [← put_comm (fun d hd => (ai d hd).2)]
        exact arun_anti hC _ (fun k hk => by rcases hk with h | h | h; exact .inr (.inl h); exact .inl h; exact .inr (.inr h)) hr
    cases hci' : (ao i).op.chg with
    | false =>
      obtain ⟨ri, ⟨k1, k2⟩, gi, _⟩ := gstep_quiet hci' IH2
      refine gstep_mono hC ?_ gi
      rintro r h' ⟨rfl, rfl⟩
      exact fin _ _ k1 k2 gj
    | true =>
      refine gstep_mono hC ?_ IH2
      rintro ri hi ⟨k1, k2⟩
      refine fin _ _ k1 k2 ?_
      cases hrd : (ao j).op.rds with
      | false => exact nr hrd hi _ ⟨rfl, rfl⟩
      | true =>
        obtain ⟨m1, m2⟩ := hci hci' hrd hij
        obtain ⟨d, hd⟩ := Option.ne_none_iff_exists'.1 m2
        have h1 := k1 j m1 (.inl rfl) d hd
        rw [hd, put_eq] at h1
        obtain ⟨r, e1, e2, _⟩ := gstep_quiet hq h1
        subst e1
        refine gstep_env (fun t ht => ?_) e2
        exact put_ne (fun ed => S.self i j hiN m1 t (by rw [hd]; exact ed) ht)
end
end Go.Proofs.Ytlffjnmbpoemnaa

namespace Go.Proofs.Ytlffjnmbpoemnaa
open Go.RowKit

/-- A call, over abstract values: whatever its real arguments and world are, it returns, and what it returns and leaves is as K says. -/
def ACall (P : Program) (f : FuncId) (xs : List AV) (h : List AB) (K : AV → List AB → Prop) : Prop :=
  (∃ fn, P.funcs[f]? = some fn ∧ (fn.name == "runtime.NumGoroutine") = false ∧ fn.body.isNone = false) ∧
  ∀ (F : Nat → Prop) (g : GM) (w : World) (vs : Array Value), HOK F g w h → vs.size = xs.length → (∀ (i : Nat) (x : AV), xs[i]? = some x → rep (MM F g h) w x g (vs.getD i undef)) →
    Calls P f vs w fun en w' => ∃ v r h' g', en = .returned v ∧ Tr F g h w g' h' w' ∧ rep (MM F g' h') w' r g' v ∧ K r h'
theorem ACall.mono' (P : Program) {f : FuncId} {xs : List AV} {h : List AB} {K K' : AV → List AB → Prop} (hk : ∀ r h', K r h' → K' r h') (H : ACall P f xs h K) : ACall P f xs h K' :=
  ⟨H.1, fun F g w vs k hs hv => (H.2 F g w vs k hs hv).mono fun _ _ ⟨v, r, h', g', a, b, c, d⟩ => ⟨v, r, h', g', a, b, c, hk _ _ d⟩⟩

/-- All rights; in a round of a loop over a function, or not. -/
def Wd (r : Option Nat) : Fence := { Fence.wide with round := r }
theorem Wd.calls {r : Option Nat} {m : Nat} {P : Program} {f : FuncId} {vs : Array Value} {w : World} {R : Ending → World → Prop} (h : Calls P f vs w R) : CallsIn (Wd r) m P f vs w R := callsIn_wide (n := m).2 h
theorem Wd.deep (r : Option Nat) {p : Prop} (h : (Wd r).depth.isSome = true) : p := by simp [Wd, Fence.wide] at h
/-- The arguments of a function that yields: its yield in front of what it has caught, or behind what it is bound to. -/
def argsOf (mv : Bool) (cs : Array Value) (y : Value) : Array Value := match mv with
  | false => #[y] ++ cs
  | true => cs ++ #[y]
/-- A function that yields values, over abstract values: it yields those of L, one after another, until a round says no more; it changes nothing itself. -/
def AIterM (mv : Bool) (P : Program) (f : FuncId) (caps : List AV) (L : List (List AV)) : Prop :=
  (∃ fn, P.funcs[f]? = some fn ∧ (fn.name == "runtime.NumGoroutine") = false ∧ fn.body.isNone = false) ∧
  ∀ (M : Nat → Prop) (w0 : World) (cs : Array Value), cs.size = caps.length → (∀ (i : Nat) (x : AV), caps[i]? = some x → rep M w0 x g0 (cs.getD i undef)) →
  ∀ (l : Nat) (J Jx : Nat → World → Prop) (W : World), Chg M w0 W → (∀ k A B, J k A → Chg (fun _ => False) A B → J k B) → (∀ k A B, Jx k A → Chg (fun _ => False) A B → Jx k B) →
    (∀ k (vs : Array Value) W1, k < L.length → J k W1 → Chg M w0 W1 → vs.size = (L.getD k []).length → (∀ (i : Nat) (x : AV), (L.getD k [])[i]? = some x → rep M W1 x g0 (vs.getD i undef)) →
      YieldAt (Wd none) 0 P l vs W1 fun e W' => (e = .returned (.bool true) ∧ J (k + 1) W' ∧ Chg M W1 W') ∨ (e = .returned (.bool false) ∧ Jx k W')) →
    J 0 W →
    CallsIn (Wd none) 0 P f (argsOf mv cs (.func (.yield l) #[] #[])) W fun e W' => (∃ v, e = .returned v) ∧ (J L.length W' ∨ ∃ k, k < L.length ∧ Jx k W')
abbrev AIter (P : Program) (f : FuncId) (caps : List AV) (L : List (List AV)) : Prop := AIterM false P f caps L
def ACalls (P : Program) : CallP := ⟨ACall P, fun mv => AIterM mv P⟩
theorem ACalls.mono (P : Program) : CallP.Mono (ACalls P) := fun _ _ _ _ _ hk H => ACall.mono' P hk H
/-- The marks that loops over functions have left. -/
structure Marks (wS w : World) (ds : List Deferred) : Prop where
  ex : ∃ Ds : List Nat, ds = Ds.map (fun D => { target := .collected D, args := #[] }) ∧ Ds.Nodup ∧ ∀ D ∈ Ds, wS.heap.size ≤ D ∧ w.heap[D]? = some (.deferred (some []))
theorem Marks.nil (wS w : World) : Marks wS w [] := ⟨[], rfl, List.nodup_nil, fun _ h => by cases h⟩
/-- A block that is none of a call's own. -/
def ofar : Obj → Bool
  | .cells .. | .map .. | .mapIter .. => false
  | _ => true
theorem ofar_cells {o : Obj} (h : ofar o = true) : o.isCells = false := by cases o <;> first | rfl | cases h
theorem HOK.noMark {F : Nat → Prop} {g : GM} {w : World} {h : List AB} (k : HOK F g w h) {D : Nat} {o : Obj} (ho : w.heap[D]? = some o) (hc : ofar o = true) : ¬ MO g h D := by
  rintro ⟨d, cap, ⟨x, hx, hl⟩, hg⟩
  cases x with
  | dead => exact hl
  | box m c => obtain ⟨cs, t, h1, _⟩ := k.box d m c D cap hx hg; rw [ho] at h1; injection h1 with h1; rw [h1] at hc; cases hc
  | row n sz c => obtain ⟨_, _, cs, t, h1, _⟩ := k.row d n sz c D cap hx hg; rw [ho] at h1; injection h1 with h1; rw [h1] at hc; cases hc
  | mp kt L => obtain ⟨es, h1, _⟩ := k.mp d kt L D cap hx hg; rw [ho] at h1; injection h1 with h1; rw [h1] at hc; cases hc
  | mit m n seen => obtain ⟨_, _, mb, _, h1⟩ := k.mit d m n seen D cap hx hg; rw [ho] at h1; injection h1 with h1; rw [h1] at hc; cases hc
  | rwg n sz c => obtain ⟨_, _, cs, t, h1, _⟩ := k.rwg d n sz c D cap hx hg; rw [ho] at h1; injection h1 with h1; rw [h1] at hc; cases hc
theorem Marks.tr {F : Nat → Prop} {g g' : GM} {h h' : List AB} {wS w w' : World} {ds : List Deferred} (m : Marks wS w ds) (k : HOK F g w h) (T : Tr F g h w g' h' w') : Marks wS w' ds := by
  obtain ⟨Ds, h1, h2, h3⟩ := m.ex
  refine ⟨Ds, h1, h2, fun D hD => ⟨(h3 D hD).1, ?_⟩⟩
  rw [T.chg.block D (Array.getElem?_eq_some_iff.1 (h3 D hD).2).1 (k.noMark (h3 D hD).2 rfl)]
  exact (h3 D hD).2

/-- A state of a call: what its temporaries and its blocks say, from the state in which it began. -/
structure Rel (F : Nat → Prop) (n : Nat) (gS : GM) (hS : List AB) (wS : World) (e : Env) (h : List AB) (a : Act) (w : World) : Prop where
  ex : ∃ g, Tr F gS hS wS g h w ∧ ∀ t, rep (MM F g h) w (e t) g (a.tmps.getD t undef)
  dn : Marks wS w a.defers
  sz : a.tmps.size = n
  dm : ∀ d p, gS d = some p → d < hS.length

section
variable {rd : Option Nat} {md : Nat} {F : Nat → Prop} {P : Program} {n : Nat} {gS : GM} {hS : List AB} {wS : World} {e : Env} {h : List AB} {a : Act} {w : World}

theorem rep_undef {M : Nat → Prop} {g : GM} : rep M w und g undef := ⟨#[], rfl, rfl, fun i hi => by omega⟩
theorem rep_eval {M : Nat → Prop} {g : GM} (hv : ∀ t, rep M w (e t) g (a.tmps.getD t undef)) (x : Operand) : rep M w (AX.ev e (cx x)) g (a.eval x) := by
  cases x with
  | tmp t => exact hv t
  | const v => exact rep_ofV M w g v
  | global g => trivial
  | func f => exact ⟨#[], rfl, rfl, fun i hi => by omega⟩
theorem Rel.put {g g' : GM} {h' : List AB} {w' : World} {dst : Option Nat} {r : AV} {u : Value} (T : Tr F gS hS wS g h w) (hv : ∀ t, rep (MM F g h) w (e t) g (a.tmps.getD t undef)) (dn : Marks wS w a.defers) (sz : a.tmps.size = n) (dm : ∀ d p, gS d = some p → d < hS.length)
    (T2 : Tr F g h w g' h' w') (hu : rep (MM F g' h') w' r g' u) (hd : ∀ d, dst = some d → d < n) : Rel F n gS hS wS (e.put dst r) h' (a.put dst u) w' := by
  refine ⟨⟨g', T.trans T2, fun t => ?_⟩, ?_, ?_, dm⟩
  · cases dst with
    | none => exact T2.hold (hv t)
    | some d =>
      have hdn := hd d rfl
      simp only [Env.put, Act.put]
      by_cases e1 : t = d
      · subst e1
        rw [if_pos rfl]
        have : (a.tmps.setIfInBounds t u).getD t undef = u := by simp [sz, hdn]
        rw [this]; exact hu
      · rw [if_neg e1]
        have : (a.tmps.setIfInBounds d u).getD t undef = a.tmps.getD t undef := by
          simp [Array.getElem?_setIfInBounds_ne (Ne.symm e1)]
        rw [this]; exact T2.hold (hv t)
  · cases dst <;> exact dn.tr T.ok T2
  · cases dst <;> simp [Act.put, sz]
theorem Rel.drew (hr : Rel F n gS hS wS e h a w) : Rel F n gS hS wS e h a { w with drawn := w.drawn + 1 } := by
  obtain ⟨⟨g, T, hv⟩, dn, sz, dm⟩ := hr
  have T2 : Tr F g h w g h w.drew := Tr.keep T.ok (Chg.drew _ w)
  exact ⟨⟨g, T.trans T2, fun t => T2.hold (hv t)⟩, dn.tr T.ok T2, sz, dm⟩

theorem comp_call {op : Op} {f : FuncId} {xs : List AX} (hc : compOp P op = .call f xs) : ∃ args ats, op = .call ⟨.value (.func f), args, ats⟩ ∧ xs = args.toList.map cx := by
  cases op <;> simp only [compOp] at hc
  case call c =>
    obtain ⟨callee, args, ats⟩ := c
    cases callee with
    | invoke a b => cases hc
    | builtin b => cases b <;> simp only [compCall] at hc <;> (repeat' split at hc) <;> cases hc
    | value x =>
      cases x <;> simp only [compCall] at hc <;> cases hc
      exact ⟨args, ats, rfl, rfl⟩
  case slice t x lo hi m => cases m <;> simp only at hc <;> (repeat' split at hc) <;> cases hc
  case makeFunc fn first cap => cases fn <;> simp only at hc <;> (repeat' split at hc) <;> cases hc
  case makeMap t r => cases r <;> simp only at hc <;> (repeat' split at hc) <;> cases hc
  case next it s => cases s <;> cases hc
  all_goals first | cases hc | ((repeat' split at hc) <;> cases hc)
theorem comp_calv {op : Op} {x : AX} {xs : List AX} (hc : compOp P op = .calv x xs) : ∃ t args ats, op = .call ⟨.value (.tmp t), args, ats⟩ ∧ x = .t t ∧ xs = args.toList.map cx := by
  cases op <;> simp only [compOp] at hc
  case call c =>
    obtain ⟨callee, args, ats⟩ := c
    cases callee with
    | invoke a b => cases hc
    | builtin b => cases b <;> simp only [compCall] at hc <;> (repeat' split at hc) <;> cases hc
    | value y =>
      cases y <;> simp only [compCall] at hc <;> cases hc
      exact ⟨_, args, ats, rfl, rfl, rfl⟩
  case slice t x lo hi m => cases m <;> simp only at hc <;> (repeat' split at hc) <;> cases hc
  case makeFunc fn first cap => cases fn <;> simp only at hc <;> (repeat' split at hc) <;> cases hc
  case makeMap t r => cases r <;> simp only at hc <;> (repeat' split at hc) <;> cases hc
  case next it s => cases s <;> cases hc
  all_goals first | cases hc | ((repeat' split at hc) <;> cases hc)
theorem comp_nxt {op : Op} {x : AX} (hc : compOp P op = .nxt x) : ∃ it, op = .next it false ∧ x = cx it := by
  cases op <;> simp only [compOp] at hc
  case next it s =>
    cases s
    · simp only [AOp.nxt.injEq] at hc
      exact ⟨it, rfl, hc.symm⟩
    · cases hc
  case call c =>
    obtain ⟨callee, args, ats⟩ := c
    simp only [compCall] at hc
    (repeat' split at hc) <;> cases hc
  case slice t x lo hi m => cases m <;> simp only at hc <;> (repeat' split at hc) <;> cases hc
  case makeFunc fn first cap => cases fn <;> simp only at hc <;> (repeat' split at hc) <;> cases hc
  case makeMap t r => cases r <;> simp only at hc <;> (repeat' split at hc) <;> cases hc
  all_goals first | cases hc | ((repeat' split at hc) <;> cases hc)
theorem comp_app {op : Op} {sz b : Nat} {x y : AX} (hc : compOp P op = .app sz b x y) : ∃ t args ats el i zs x0 y0, op = .call ⟨.builtin .append, args, ats⟩ ∧ args.toList = [x0, y0] ∧ ats.toList = [t, t] ∧ tyEl P t = some (el, i) ∧ zcells i = some zs ∧ sz = i.size ∧ b = i.bytes ∧ x = cx x0 ∧ y = cx y0 := by
  cases op <;> simp only [compOp] at hc
  case call c =>
    obtain ⟨callee, args, ats⟩ := c
    cases callee with
    | invoke a b => cases hc
    | value y => cases y <;> simp only [compCall] at hc <;> cases hc
    | builtin b =>
      cases b <;> simp only [compCall] at hc
      case append =>
        split at hc
        · rename_i x0 y0 t t' hl hat
          split at hc
          · rename_i htt
            subst htt
            split at hc
            · rename_i el i ht
              split at hc
              · rename_i zs hz
                cases hc
                exact ⟨t, args, ats, el, i, zs, x0, y0, rfl, hl, hat, ht, hz, rfl, rfl, rfl, rfl⟩
              · cases hc
            · cases hc
          · cases hc
        · cases hc
      all_goals first | cases hc | ((repeat' split at hc) <;> cases hc)
  case slice t x lo hi m => cases m <;> simp only at hc <;> (repeat' split at hc) <;> cases hc
  case makeFunc fn first cap => cases fn <;> simp only at hc <;> (repeat' split at hc) <;> cases hc
  case makeMap t r => cases r <;> simp only at hc <;> (repeat' split at hc) <;> cases hc
  case next it s => cases s <;> cases hc
  all_goals first | cases hc | ((repeat' split at hc) <;> cases hc)

theorem enter_run {f : FuncId} {fn : Func} {vs : Array Value} (hf : P.funcs[f]? = some fn) (hn : (fn.name == "runtime.NumGoroutine") = false) (hb : fn.body.isNone = false) : (callFunc f vs).run P w = .ok (.enter f vs) w := by
  have hn' : ¬ (fn.name == "runtime.NumGoroutine") = true := by rw [hn]; simp
  have hb' : ¬ fn.body.isNone = true := by rw [hb]; simp
  simp only [callFunc, program, bind, Sem.bind, Sem.run, hf, if_neg hn', if_neg hb']
  rfl

theorem step_ok (o : Oper) {K : AV → List AB → Prop} {Kr : Act → World → Prop} {Q : Exit → Act → World → Prop} (hd : ∀ d, o.dst = some d → d < n) (hr : Rel F n gS hS wS e h a w)
    (hK : ∀ r h' a' w', K r h' → Rel F n gS hS wS (e.put o.dst r) h' a' w' → Kr a' w') (H : astep (ACalls P) (compOp P o.op) e h K) : o.wpIn (Wd rd) md P a w Kr Q := by
  have hnd : ∀ c, o.op ≠ .defer c := fun c hc => by rw [hc] at H; exact H.elim
  have semA : ∀ ρ, o.semAt (Wd rd).round ρ = execOp ρ o := fun ρ => by
    show o.semAt rd ρ = _
    cases rd with
    | none => simp [Oper.semAt]
    | some l => exact Oper.semAt_some l _ _ hnd
  obtain ⟨⟨g, T, hv⟩, dn, sz, dm⟩ := hr
  have he := fun x => rep_eval hv x
  have plain : aop (compOp P o.op) (AX.ev e) h K → o.wpIn (Wd rd) md P a w Kr Q := fun H => by
    obtain ⟨r, h', h1, h2⟩ := aop_one _ _ _ _ H
    obtain ⟨u, w', g', hrun, hu, T2⟩ := aop_ok o T.ok he (fun v => rfl) h1
    have R := fun d => Rel.put (dst := o.dst) T hv dn sz dm T2 hu d
    rcases hrun with hrun | ⟨hrun, rfl⟩
    · refine ⟨fun _ _ => trivial, ?_⟩
      simp only [semA, hrun, Oper.uponIn]
      exact hK _ _ _ _ h2 (R hd)
    · refine ⟨fun _ _ => trivial, ?_⟩
      simp only [semA, hrun, Oper.uponIn]
      exact hK _ _ _ _ h2 (R hd)
  have enter : ∀ (f : FuncId) (xs : List AV) (vs : Array Value), (execOp a.eval o).run P w = (callFunc f vs).run P w → vs.size = xs.length → (∀ (i : Nat) (x : AV), xs[i]? = some x → rep (MM F g h) w x g (vs.getD i undef)) → ACall P f xs h K → o.wpIn (Wd rd) md P a w Kr Q := fun f xs vs hrun hs hx H => by
    obtain ⟨⟨fn, h1, h2, h3⟩, H⟩ := H
    refine ⟨fun _ _ => trivial, ?_⟩
    simp only [semA, hrun, enter_run h1 h2 h3, Oper.uponIn]
    refine ⟨fun hh => Wd.deep rd hh, Wd.calls ((H F g w vs T.ok hs hx).mono ?_)⟩
    rintro en w' ⟨v, r, h', g', rfl, T2, hu, hk⟩
    exact hK _ _ _ _ hk (Rel.put T hv dn sz dm T2 hu hd)
  have args_ok : ∀ (args : Array Operand) (i : Nat) (x : AV), ((args.toList.map cx).map (AX.ev e))[i]? = some x → rep (MM F g h) w x g ((args.map a.eval).getD i undef) := fun args i x hx => by
    rw [List.map_map, List.getElem?_map] at hx
    cases ha : args.toList[i]? with
    | none => rw [ha] at hx; cases hx
    | some y =>
      rw [ha] at hx
      injection hx with hx
      subst hx
      have ha' : args[i]? = some y := by simpa using ha
      have : (args.map a.eval).getD i undef = a.eval y := by simp [ha']
      rw [this]
      exact he y
  cases hc : compOp P o.op
  case call f xs =>
    obtain ⟨args, ats, hop, rfl⟩ := comp_call hc
    rw [hc] at H
    refine enter f _ (args.map a.eval) ?_ (by simp) (args_ok args) H
    simp only [execOp, hop, resolve, Deferred.ofValue, Act.eval, Sem.run_bind, Sem.run_pure, Result.andThen_ok, invoke, Array.empty_append, Array.append_empty]
  case calv x xs =>
    obtain ⟨t, args, ats, hop, rfl, rfl⟩ := comp_calv hc
    rw [hc] at H
    simp only [astep, AX.ev] at H
    have ht := he (.tmp t)
    simp only [cx, AX.ev] at ht
    generalize e t = v at H ht
    cases v <;> simp only at H
    rename_i f m c
    obtain ⟨cs, h1, h2, h3⟩ := ht
    refine enter f _ (args.map a.eval ++ cs) ?_ (by simp [h2]) (fun i x hx => ?_) H
    · have h1' : a.eval (.tmp t) = .func (.func f) #[] cs := h1
      simp only [execOp, hop, resolve, h1', Deferred.ofValue, Sem.run_bind, Sem.run_pure, Result.andThen_ok, invoke, Array.empty_append]
    · rcases Nat.lt_or_ge i args.size with hi | hi
      · rw [List.getElem?_append_left (by simpa using hi)] at hx
        have := args_ok args i x hx
        have e1 : (args.map a.eval ++ cs).getD i undef = (args.map a.eval).getD i undef := by
          simp [Array.getElem?_append_left (xs := args.map a.eval) (ys := cs) (i := i) (by simpa using hi)]
        rw [e1]; exact this
      · rw [List.getElem?_append_right (by simpa using hi)] at hx
        simp only [List.length_map, Array.length_toList] at hx
        rw [List.getElem?_map] at hx
        have hlt : i - args.size < m := by
          rcases Nat.lt_or_ge (i - args.size) m with h' | h'
          · exact h'
          · rw [List.getElem?_eq_none (by simpa using h')] at hx; cases hx
        rw [List.getElem?_range hlt] at hx
        injection hx with hx
        subst hx
        obtain ⟨u, hu, hrep⟩ := h3 _ hlt
        have e1 : (args.map a.eval ++ cs).getD i undef = u := by
          have : (args.map a.eval ++ cs)[i]? = some u := by
            rw [Array.getElem?_append_right (by simpa using hi)]
            simpa using hu
          simp [this]
        rw [e1]; exact hrep
  case nxt x =>
    obtain ⟨it, hop, rfl⟩ := comp_nxt hc
    rw [hc] at H
    obtain ⟨r, h', u', w', g', hk, hrun, hu, T2⟩ := val_nxt (P := P) (ty := o.type) T.ok (he it) H
    have hex : (execOp a.eval o).run P w = .ok (.value u') w' := by
      simp only [execOp, hop]
      simp [hrun]
    refine ⟨fun _ _ => trivial, ?_⟩
    simp only [semA, hex, Oper.uponIn]
    exact hK _ _ _ _ hk (Rel.put T hv dn sz dm T2 hu hd)
  case app sz' b x y =>
    rw [hc] at H
    rcases H with H | H
    · exact plain (by rw [hc]; exact H)
    · obtain ⟨t, args, ats, el, i, zs, x0, y0, hop, hl, hat, ht, hz, rfl, rfl, rfl, rfl⟩ := comp_app hc
      have H' : asplit (.app i.size i.bytes (.k (AX.ev e (cx x0))) (.k (AX.ev e (cx y0)))) (fun x => x.ev (fun _ => .bot)) h K := H
      obtain ⟨r, h', u', w', g', hk, hrun, hu, T2⟩ := val_split (P := P) (ty := o.type) T.ok ht hz (he x0) (he y0) H'
      have ha : args.map a.eval = #[a.eval x0, a.eval y0] := by
        apply Array.ext'
        simp [hl]
      have hats : ats = #[t, t] := by
        apply Array.ext'
        simp [hat]
      have hex : (execOp a.eval o).run P w = .ok (.value u') w' := by
        simp only [execOp, hop, resolve, Sem.run_bind, Sem.run_pure, Result.andThen_ok, invoke, ha, hats]
        have : ∀ cs, (builtin Builtin.append #[t, t] o.type cs #[a.eval x0, a.eval y0]) = (do pure (.value (← Builtin.append_ #[t, t] o.type #[a.eval x0, a.eval y0]))) := fun _ => rfl
        rw [this]
        simp [hrun]
      refine ⟨fun _ _ => trivial, ?_⟩
      simp only [semA, hex, Oper.uponIn]
      exact hK _ _ _ _ hk (Rel.put T hv dn sz dm T2 hu hd)
  all_goals
    rw [hc] at H
    exact plain (by rw [hc]; exact H)

/-- From a region's operations to their readings. -/
def compAO (P : Program) (n : Nat) (ops : Array Oper) (o : Oper) : Option AO :=
  if o.dst.all (fun d => decide (d < n)) = true then
    match o.guard with
    | none => some ⟨o.dst, compOp P o.op, none⟩
    | some (j, b) => match (ops[j]?).bind (·.dst) with
      | some t => some ⟨o.dst, compOp P o.op, some (t, b)⟩
      | none => none
  else none
theorem gstep_ok {ops : Array Oper} {i : Nat} {o : Oper} {x : AO} (hi : ops[i]? = some o) (hx : compAO P n ops o = some x) {K : AV → List AB → Prop} {Kr : Act → World → Prop} {Q : Exit → Act → World → Prop} (hr : Rel F n gS hS wS e h a w)
    (hK : ∀ r h' a' w', K r h' → Rel F n gS hS wS (e.put x.dst r) h' a' w' → Kr a' w') (H : gstep (ACalls P) x e h K) : wpOpIn (Wd rd) md P ops Q i Kr a w := by
  unfold compAO at hx
  split at hx
  case isFalse => cases hx
  rename_i hdn
  have hd : ∀ d, o.dst = some d → d < n := fun d he => by rw [he] at hdn; simpa using hdn
  have skip : K und h → ∀ dst, dst = o.dst → x.dst = dst → Kr (a.put dst undef) w := fun hk dst e1 e2 => by
    obtain ⟨⟨g, T, hv⟩, dn, sz, dm⟩ := hr
    refine hK _ _ _ _ hk ?_
    rw [e2]
    exact Rel.put T hv dn sz dm (Tr.refl T.ok) rep_undef (fun d he => hd d (by rw [← e1]; exact he))
  unfold wpOpIn
  simp only [hi]
  unfold gstep at H
  split at hx
  · rename_i hg
    injection hx with hx
    subst hx
    simp only [Region.wanted, hg, if_true]
    exact step_ok o hd hr hK H
  · rename_i j b hg
    split at hx
    · rename_i t ht
      injection hx with hx
      subst hx
      simp only [Region.wanted, hg]
      simp only at H
      have hrt : ∃ g, rep (MM F g h) w (e t) g (a.tmps.getD t undef) := hr.ex.elim fun g hh => ⟨g, hh.2 t⟩
      obtain ⟨g, hrt⟩ := hrt
      generalize e t = v at H hrt
      split at H
      · rename_i q
        have hq : a.tmps.getD t undef = .bool q := hrt
        have hq' : a.tmps[t]? = some (.bool q) := by
          cases hh : a.tmps[t]? with
          | none => simp [hh, undef] at hq
          | some y => simp [hh] at hq; rw [hq]
        have hy : yielded ops a.tmps j = some q := by simp [yielded, ht, hq']
        rw [hy]
        rcases acond_e H with ⟨h1, h2⟩ | ⟨h1, h2⟩
        · have : (some q == some b) = true := by simpa using h1
          rw [this, if_pos rfl]
          exact step_ok o hd hr hK h2
        · have : (some q == some b) = false := by simpa using h1
          rw [this]
          simp only [Bool.false_eq_true, if_false]
          exact ⟨fun _ _ => trivial, skip h2 o.dst rfl rfl⟩
      · obtain ⟨cs, h1, h2, _⟩ := hrt
        have hcs : cs = #[] := Array.eq_empty_of_size_eq_zero h2
        subst hcs
        have hy : yielded ops a.tmps j = none := by
          unfold yielded
          rw [ht]
          simp only [Option.bind_some]
          cases hh : a.tmps[t]? with
          | none => rfl
          | some y => simp [hh] at h1; rw [h1]
        rw [hy]
        have : ((none : Option Bool) == some b) = false := rfl
        rw [this]
        simp only [Bool.false_eq_true, if_false]
        exact ⟨fun _ _ => trivial, skip H o.dst rfl rfl⟩
      · exact H.elim
    · cases hx
end
end Go.Proofs.Ytlffjnmbpoemnaa

namespace Go.Proofs.Ytlffjnmbpoemnaa
open Go.RowKit

def watp (C : CallP) (o : AO) (e : Env) (h : List AB) : Prop := match o.dst with
  | some d => gstep C o e h (fun v _ => v = e d)
  | none => True
theorem wat_of {C : CallP} {o : AO} {e : Env} {h : List AB} (H : watp C o e h) : wat C o e h := fun d hd => by
  unfold watp at H
  rw [hd] at H
  exact H
def wats (C : CallP) (ws : List AO) (e : Env) (h : List AB) (p : Prop) : Prop := match ws with
  | [] => p
  | o :: ws => watp C o e h ∧ wats C ws e h p
theorem wats_e {C : CallP} {e : Env} {h : List AB} {p : Prop} : ∀ {ws : List AO}, wats C ws e h p → (∀ o ∈ ws, watp C o e h) ∧ p
  | [], H => ⟨fun o ho => (by cases ho), H⟩
  | _ :: _, H => ⟨fun x hx => (by
      rcases List.mem_cons.1 hx with rfl | hx
      · exact H.1
      · exact (wats_e H.2).1 x hx), (wats_e H.2).2⟩
/-- The operations of a region, one behind another. -/
def aregs (C : CallP) (l : List (AO × List AO)) (Q : Env → List AB → Prop) (e : Env) (h : List AB) : Prop :=
  match l with
  | [] => Q e h
  | (o, ws) :: rest => gstep C o e h (fun r h' => wats C ws e h' (aregs C rest Q (e.put o.dst r) h'))
theorem arun_of {C : CallP} (hC : C.Mono) {ao : Nat → AO} {W : Nat → List Nat} {Q : Env → List AB → Prop} : ∀ (L : List Nat) (D : Nat → Prop) {e : Env} {h : List AB}, aregs C (L.map fun i => (ao i, (W i).map ao)) Q e h → arun C ao W L D Q e h
  | [], _, _, _, H => H
  | _ :: L, _, _, _, H => gstep_mono hC (fun _ _ hh => ⟨fun j hj _ => wat_of ((wats_e hh).1 _ (List.mem_map.2 ⟨j, hj, rfl⟩)), arun_of hC L _ (wats_e hh).2⟩) H

def cloB (b : Array Nat) (i j : Nat) : Bool := (b.getD i 0).testBit j
def cloOK (ops : Array Oper) (b : Array Nat) : Bool :=
  (List.range ops.size).all fun i => !cloB b i i && match ops[i]? with
    | some o => (o.after.toList.all fun x => !Region.binds .any x || (decide (x.on < ops.size) && cloB b i x.on)) &&
        (List.range ops.size).all fun j => !cloB b i j || o.after.toList.any fun x => Region.binds .any x && (x.on == j || cloB b x.on j)
    | none => false
def touchB (ao : Nat → AO) (k j : Nat) : Bool := match (ao j).dst with
  | none => false
  | some d => (ao k).looks.contains d || (ao k).dst == some d
def stillB (N : Nat) (ao : Nat → AO) (W : Nat → List Nat) (clo : Nat → Nat → Bool) : Bool :=
  (List.range N).all fun k => ((ao k).op.chg || (W k).isEmpty) && ((List.range N).all fun j => k == j || !touchB ao k j || clo k j || clo j k) &&
    (W k).all fun l => (List.range N).all fun j => match l == j with
      | true => (match (ao j).dst with
        | none => true
        | some d => !(ao j).looks.contains d)
      | false => clo l j || !touchB ao l j
def pairB (ao : Nat → AO) (W : Nat → List Nat) (clo : Nat → Nat → Bool) (j i : Nat) : Bool :=
  j != i && !clo j i && (!(ao j).op.chg || clo i j) && (!(ao i).op.chg || !(ao j).op.rds || clo i j || ((W i).contains j && (ao j).dst.isSome))
def pairsB (ao : Nat → AO) (W : Nat → List Nat) (clo : Nat → Nat → Bool) : List Nat → Bool
  | [] => true
  | j :: l => l.all (pairB ao W clo j) && pairsB ao W clo l
/-- A region's operations in the order of a hint (none: as they stand), each with the looks that it must not spoil. -/
abbrev Hint := List (Nat × List Nat)
def compReg (P : Program) (n : Nat) (ops : Array Oper) (hint : Option Hint) : Option (List (AO × List AO)) :=
  match ops.toList.mapM (compAO P n ops) with
  | none => none
  | some l => match hint with
    | some L => some (L.map fun p => (l.getD p.1 default, p.2.map fun j => l.getD j default))
    | none => some (l.map fun x => (x, []))
def watchOf (L : Hint) (i : Nat) : List Nat := match L.find? (·.1 == i) with
  | some p => p.2
  | none => []
def okReg (P : Program) (n : Nat) (ops : Array Oper) (draw : Bool) (hint : Option Hint) : Bool :=
  match draw, hint with
  | false, none => true
  | false, some _ => false
  | true, hint =>
    match ops.toList.mapM (compAO P n ops) with
    | none => false
    | some l =>
      let ao := fun i => l.getD i default
      let b := Region.before ops
      let H := hint.getD ((List.range ops.size).map fun i => (i, []))
      let L := H.map (·.1)
      let W := watchOf H
      cloOK ops b && L.length == ops.size && (List.range ops.size).all (L.contains ·) && L.all (decide <| · < ops.size) && (H.all fun p => p.2.all (decide <| · < ops.size)) && stillB ops.size ao W (cloB b) && pairsB ao W (cloB b) L

theorem touch_no {ao : Nat → AO} {k j d : Nat} (h : touchB ao k j = false) (hd : (ao j).dst = some d) : d ∉ (ao k).looks ∧ (ao k).dst ≠ some d := by
  unfold touchB at h
  rw [hd] at h
  simp only [Bool.or_eq_false_iff, List.contains_eq_mem, decide_eq_false_iff_not, beq_eq_false_iff_ne, ne_eq] at h
  exact h
theorem still_of {N : Nat} {ao : Nat → AO} {W : Nat → List Nat} {clo : Nat → Nat → Bool} (hW : ∀ i, ∀ k ∈ W i, k < N) (H : stillB N ao W clo = true) : Still ao W (fun i j => clo i j = true) N := by
  simp only [stillB, List.all_eq_true, List.mem_range, Bool.and_eq_true, Bool.or_eq_true, beq_iff_eq, Bool.not_eq_true'] at H
  refine ⟨fun k j hk hj hne hc hc' d hd => ?_, fun i k j hi hk hj hne hc d hd => ?_, fun i j hi hj d hd => ?_, fun j hj hc => ?_⟩
  · rcases (H k hk).1.2 j hj with ((h1 | h1) | h1) | h1
    · exact (hne h1).elim
    · exact touch_no h1 hd
    · exact (hc h1).elim
    · exact (hc' h1).elim
  · have := (H i hi).2 k hk j hj
    have hb : (k == j) = false := by simpa using hne
    rw [hb] at this
    simp only [Bool.or_eq_true, Bool.not_eq_true'] at this
    rcases this with h1 | h1
    · exact (hc h1).elim
    · exact touch_no h1 hd
  · have := (H i hi).2 j hj j (hW i j hj)
    have hb : (j == j) = true := by simp
    rw [hb] at this
    simp only [hd, Bool.not_eq_true'] at this
    simpa using this
  · rcases (H j hj).1.1 with h1 | h1
    · rw [hc] at h1; cases h1
    · simpa using h1
theorem pairs_of {ao : Nat → AO} {W : Nat → List Nat} {clo : Nat → Nat → Bool} : ∀ {L : List Nat}, pairsB ao W clo L = true → L.Pairwise (Pair ao W (fun i j => clo i j = true))
  | [], _ => List.Pairwise.nil
  | j :: L, H => by
    simp only [pairsB, Bool.and_eq_true, List.all_eq_true] at H
    refine List.Pairwise.cons (fun i hi => ?_) (pairs_of H.2)
    have := H.1 i hi
    simp only [pairB, Bool.and_eq_true, Bool.or_eq_true, bne_iff_ne, ne_eq, Bool.not_eq_true', List.contains_iff_mem] at this
    obtain ⟨⟨⟨h1, h2⟩, h3⟩, h4⟩ := this
    refine ⟨h1, by simp [h2], fun hc => ?_, fun hi hj hn => ?_⟩
    · rcases h3 with h3 | h3
      · rw [hc] at h3; cases h3
      · exact h3
    · rcases h4 with ((h4 | h4) | h4) | h4
      · rw [hi] at h4; cases h4
      · rw [hj] at h4; cases h4
      · exact (hn h4).elim
      · exact ⟨h4.1, fun e => by rw [e] at h4; simp at h4⟩

section
variable {rd : Option Nat} {md : Nat} {F : Nat → Prop} {P : Program} {n : Nat} {gS : GM} {hS : List AB} {wS : World}
theorem mapM_get {ops : Array Oper} {f : Oper → Option AO} {l : List AO} (h : ops.toList.mapM f = some l) : ∀ (i : Nat) (o : Oper), ops[i]? = some o → ∃ x, l[i]? = some x ∧ f o = some x := by
  have key : ∀ (xs : List Oper) (l : List AO), xs.mapM f = some l → ∀ (i : Nat) (o : Oper), xs[i]? = some o → ∃ x, l[i]? = some x ∧ f o = some x := by
    intro xs
    induction xs with
    | nil => intro l _ i o h; simp at h
    | cons y ys ih =>
      intro l hl i o hi
      rw [List.mapM_cons] at hl
      cases hy : f y with
      | none => rw [hy] at hl; cases hl
      | some z =>
        rw [hy] at hl
        cases hys : ys.mapM f with
        | none => rw [hys] at hl; cases hl
        | some zs =>
          rw [hys] at hl
          injection hl with hl
          subst hl
          cases i with
          | zero => simp at hi; subst hi; exact ⟨z, rfl, hy⟩
          | succ i => exact ih zs hys i o hi
  intro i o hi
  exact key ops.toList l h i o (by simpa using hi)

theorem mapM_len {ops : Array Oper} {f : Oper → Option AO} {l : List AO} (h : ops.toList.mapM f = some l) : l.length = ops.toList.length := by
  have key : ∀ (xs : List Oper) (l : List AO), xs.mapM f = some l → l.length = xs.length := by
    intro xs
    induction xs with
    | nil => intro l h; simp at h; subst h; rfl
    | cons y ys ih =>
      intro l hl
      rw [List.mapM_cons] at hl
      cases hy : f y with
      | none => rw [hy] at hl; cases hl
      | some z =>
        rw [hy] at hl
        cases hys : ys.mapM f with
        | none => rw [hys] at hl; cases hl
        | some zs =>
          rw [hys] at hl
          injection hl with hl
          subst hl
          simp [ih zs hys]
  exact key _ _ h
theorem plain_ok {ops : Array Oper} {ao : Nat → AO} (hao : ∀ (i : Nat) (o : Oper), ops[i]? = some o → compAO P n ops o = some (ao i)) {Q' : Env → List AB → Prop} {Q : Exit → Act → World → Prop} (hQ : ∀ e h a w, Q' e h → Rel F n gS hS wS e h a w → Q .normal a w) :
    ∀ (L : List Nat) (e : Env) (h : List AB) (a : Act) (w : World), (∀ i ∈ L, i < ops.size) → Rel F n gS hS wS e h a w → aregs (ACalls P) (L.map fun i => (ao i, [])) Q' e h → wpOpsIn (Wd rd) md P ops Q L a w
  | [], e, h, a, w, _, hr, H => hQ e h a w H hr
  | i :: L, e, h, a, w, hL, hr, H => by
    rw [wpOpsIn_cons]
    have hi := hL i List.mem_cons_self
    exact gstep_ok (Array.getElem?_eq_getElem hi) (hao i _ (Array.getElem?_eq_getElem hi)) hr (fun r h' a' w' hk hr' => plain_ok hao hQ L _ _ _ _ (fun j hj => hL j (List.mem_cons_of_mem _ hj)) hr' hk) H

theorem any_ok {ops : Array Oper} {ao : Nat → AO} (hao : ∀ (i : Nat) (o : Oper), ops[i]? = some o → compAO P n ops o = some (ao i)) {W : Nat → List Nat} {b : Array Nat} (hb : cloOK ops b = true) (S : Still ao W (fun i j => cloB b i j = true) ops.size)
    {Q' : Env → List AB → Prop} {Q : Exit → Act → World → Prop} (hQ : ∀ e h a w, Q' e h → Rel F n gS hS wS e h a w → Q .normal a w) :
    ∀ (fuel : Nat) (R : List Nat) (listed : Array Bool) (e : Env) (h : List AB) (a : Act) (w : World), R.length = fuel → listed.size = ops.size → (∀ j, j ∈ R ↔ j < ops.size ∧ listed.getD j false = false) → R.Pairwise (Pair ao W (fun i j => cloB b i j = true)) →
      (∀ k j, j < ops.size → listed.getD k false = true → cloB b k j = true → listed.getD j false = true) → Rel F n gS hS wS e h a w → arun (ACalls P) ao W R (fun k => listed.getD k false = true) Q' e h → wpAnyIn (Wd rd) md P .any ops Q fuel listed a w := by
  have hgt : ∀ (listed : Array Bool) (j : Nat), listed.size = ops.size → j < ops.size → listed.getD j true = listed.getD j false := fun listed j hs hj => by
    have : j < listed.size := by omega
    simp [this]
  simp only [cloOK, List.all_eq_true, List.mem_range, Bool.and_eq_true, Bool.not_eq_true'] at hb
  have hcl : ∀ (i : Nat) (o : Oper), ops[i]? = some o → cloB b i i = false ∧ (∀ x ∈ o.after, Region.binds .any x = true → x.on < ops.size ∧ cloB b i x.on = true) ∧ ∀ j, j < ops.size → cloB b i j = true → ∃ x ∈ o.after, Region.binds .any x = true ∧ (x.on = j ∨ cloB b x.on j = true) := fun i o ho => by
    have hi : i < ops.size := by
      rcases Nat.lt_or_ge i ops.size with h | h
      · exact h
      · rw [Array.getElem?_eq_none h] at ho; cases ho
    have := hb i hi
    rw [ho] at this
    simp only [List.all_eq_true, Bool.and_eq_true, Bool.or_eq_true, Bool.not_eq_true', decide_eq_true_eq, List.any_eq_true, beq_iff_eq, Array.mem_toList_iff, List.mem_range] at this
    refine ⟨this.1, fun x hx hbx => ?_, fun j hj hc => ?_⟩
    · rcases this.2.1 x hx with h | h
      · rw [hbx] at h; cases h
      · exact h
    · rcases this.2.2 j hj with h | h
      · rw [hc] at h; cases h
      · obtain ⟨x, hx, h1, h2⟩ := h
        exact ⟨x, hx, h1, h2⟩
  intro fuel
  induction fuel with
  | zero =>
    intro R listed e h a w hR hs hm hp hclo hr H
    obtain rfl := List.eq_nil_of_length_eq_zero hR
    refine ⟨?_, hQ e h a w H hr⟩
    rw [List.eq_nil_iff_forall_not_mem]
    intro j hj
    obtain ⟨h1, o, ho, _⟩ := mem_ready.1 hj
    have hjl : j < ops.size := by
      rcases Nat.lt_or_ge j ops.size with h | h
      · exact h
      · rw [Array.getElem?_eq_none h] at ho; cases ho
    have := (hm j).2 ⟨hjl, by rw [← hgt listed j hs hjl]; exact h1⟩
    cases this
  | succ fuel ih =>
    intro R listed e h a w hR hs hm hp hclo hr H
    refine ⟨fun hno => ?_, fun i hi => ?_⟩
    · cases R with
      | nil => simp at hR
      | cons i0 R =>
        have h0 := (hm i0).1 List.mem_cons_self
        have ho : ops[i0]? = some ops[i0] := Array.getElem?_eq_getElem h0.1
        have hc := hcl i0 _ ho
        have : i0 ∈ Region.ready .any ops listed := mem_ready.2 ⟨by rw [hgt listed i0 hs h0.1]; exact h0.2, _, ho, fun x hx hbx => by
          obtain ⟨h1, h2⟩ := hc.2.1 x hx hbx
          cases hl : listed.getD x.on false with
          | true => rfl
          | false =>
            rcases List.mem_cons.1 ((hm x.on).2 ⟨h1, hl⟩) with e1 | e1
            · rw [e1, hc.1] at h2; cases h2
            · exact ((List.pairwise_cons.1 hp).1 _ e1).2.1 h2 |>.elim⟩
        rw [hno] at this
        cases this
    · obtain ⟨h1, o, ho, hed⟩ := mem_ready.1 hi
      have hil : i < ops.size := by
        rcases Nat.lt_or_ge i ops.size with h | h
        · exact h
        · rw [Array.getElem?_eq_none h] at ho; cases ho
      have hiR := (hm i).2 ⟨hil, by rw [← hgt listed i hs hil]; exact h1⟩
      obtain ⟨pre, rest, rfl⟩ := List.append_of_mem hiR
      have hc := hcl i o ho
      rw [List.pairwise_append] at hp
      obtain ⟨p1, p2, p3⟩ := hp
      have preR : ∀ j ∈ pre, j < ops.size ∧ listed.getD j false = false := fun j hj => (hm j).1 (List.mem_append_left _ hj)
      have hij : ∀ j ∈ pre, ¬ cloB b i j = true := fun j hj hcj => by
        obtain ⟨x, hx, hbx, hxj⟩ := hc.2.2 j (preR j hj).1 hcj
        have hlx := hed x hx hbx
        have : listed.getD j false = true := by
          rcases hxj with rfl | hxj
          · exact hlx
          · exact hclo _ _ (preR j hj).1 hlx hxj
        rw [(preR j hj).2] at this
        cases this
      have hDN : ∀ k, listed.getD k false = true → k < ops.size := fun k hk => by
        rcases Nat.lt_or_ge k ops.size with h | h
        · exact h
        · have : listed.size ≤ k := by omega
          simp [Array.getElem?_eq_none this] at hk
      have G := pull (ACalls.mono P) S hil rest Q' pre (fun k => listed.getD k false = true) e h (fun j hj => (preR j hj).1) hDN p1 (fun j hj => ⟨p3 j hj i List.mem_cons_self, hij j hj⟩)
        (fun k hk j hj => ⟨fun hkj => (by have := hclo k j (preR j hj).1 hk hkj; rw [(preR j hj).2] at this; cases this), fun e1 => (by subst e1; rw [(preR k hj).2] at hk; cases hk)⟩) H
      refine gstep_ok ho (hao i o ho) hr (fun r h' a' w' hk hr' => ?_) G
      have getne : ∀ j, j ≠ i → (listed.setIfInBounds i true).getD j false = listed.getD j false := fun j hj => getD_set_ne false (Ne.symm hj)
      have geteq : (listed.setIfInBounds i true).getD i false = true := by
        have : i < listed.size := by omega
        simp [this]
      have hnd : i ∉ pre ++ rest := fun hmem => by
        rcases List.mem_append.1 hmem with h | h
        · exact (p3 i h i List.mem_cons_self).1 rfl
        · exact ((List.pairwise_cons.1 p2).1 i h).1 rfl
      refine ih (pre ++ rest) (listed.setIfInBounds i true) _ _ _ _ (by simp at hR ⊢; omega) (by simp [hs]) (fun j => ?_) ?_ (fun k j hjs hk hkj => ?_) hr' (arun_anti (ACalls.mono P) _ (fun k hk => ?_) hk.2)
      · by_cases e1 : j = i
        · subst e1
          rw [geteq]
          simp [hnd]
        · rw [getne j e1, ← hm j]
          simp [e1]
      · rw [List.pairwise_append]
        exact ⟨p1, (List.pairwise_cons.1 p2).2, fun x hx y hy => p3 x hx y (List.mem_cons_of_mem _ hy)⟩
      · by_cases e2 : j = i
        · subst e2; exact geteq
        · rw [getne j e2]
          by_cases e1 : k = i
          · subst e1
            obtain ⟨x, hx, hbx, hxj⟩ := hc.2.2 j hjs hkj
            have hlx := hed x hx hbx
            rcases hxj with rfl | hxj
            · exact hlx
            · exact hclo _ _ hjs hlx hxj
          · rw [getne k e1] at hk
            exact hclo k j hjs hk hkj
      · by_cases e1 : k = i
        · exact .inl e1
        · rw [getne k e1] at hk
          exact .inr hk
end
end Go.Proofs.Ytlffjnmbpoemnaa

namespace Go.Proofs.Ytlffjnmbpoemnaa
open Go.RowKit

/-- What may come next: one operation and the quiet ones behind it, then what may come next; or another one. -/
inductive HT where
  | leaf
  | alt (c : Nat) (qs : List Nat) (sub next : HT)
  deriving Inhabited
def HT.ops : HT → List Nat
  | .leaf => []
  | .alt c qs sub _ => c :: (qs ++ sub.ops)
def HT.heads : HT → List Nat
  | .leaf => []
  | .alt c _ _ next => c :: next.heads
structure THint where
  qs : List Nat
  t : HT
  w : Hint
  deriving Inhabited
def nodB : List Nat → Bool
  | [] => true
  | x :: xs => !xs.contains x && nodB xs
theorem nodB_ok : ∀ {l : List Nat}, nodB l = true ↔ l.Nodup
  | [] => by simp [nodB]
  | x :: xs => by simp [nodB, nodB_ok]
def sameB (a b : List Nat) : Bool := (a.all b.contains) && (b.all a.contains)
def covB (clo : Nat → Nat → Bool) (heads rem : List Nat) : Bool := rem.all fun i => heads.contains i || rem.any fun j => j != i && clo i j
def okAlt (ao : Nat → AO) (W : Nat → List Nat) (clo : Nat → Nat → Bool) (c : Nat) (qs : List Nat) (sub : HT) (acc rem : List Nat) : Bool :=
  sameB rem (c :: (qs ++ sub.ops)) && nodB (acc ++ (c :: (qs ++ sub.ops))) && (qs.all fun j => !(ao j).op.chg) && (acc.all fun j => pairB ao W clo j c && qs.all (pairB ao W clo j)) && pairsB ao W clo qs && covB clo sub.heads sub.ops && ((qs ++ sub.ops).all fun k => !clo c k)
def okT (ao : Nat → AO) (W : Nat → List Nat) (clo : Nat → Nat → Bool) : HT → List Nat → List Nat → Bool
  | .leaf, _, _ => true
  | .alt c qs sub next, acc, rem => okAlt ao W clo c qs sub acc rem && okT ao W clo sub (acc ++ qs) sub.ops && okT ao W clo next acc rem
def opsI (l : List AO) (W : Nat → List Nat) (L : List Nat) : List (AO × List AO) := L.map fun i => (l.getD i default, (W i).map fun j => l.getD j default)
def atree (C : CallP) (l : List AO) (W : Nat → List Nat) : HT → (Env → List AB → Prop) → Env → List AB → Prop
  | .leaf, Q, e, h => Q e h
  | .alt c qs sub .leaf, Q, e, h => aregs C (opsI l W (c :: qs)) (atree C l W sub Q) e h
  | .alt c qs sub (.alt c2 qs2 sub2 next2), Q, e, h => aregs C (opsI l W (c :: qs)) (atree C l W sub Q) e h ∧ atree C l W (.alt c2 qs2 sub2 next2) Q e h
/-- A region with its tree. -/
def aregT (C : CallP) (l : List AO) (T : THint) (Q : Env → List AB → Prop) (e : Env) (h : List AB) : Prop := aregs C (opsI l (watchOf T.w) T.qs) (atree C l (watchOf T.w) T.t Q) e h
def okRegT (P : Program) (n : Nat) (ops : Array Oper) (T : THint) : Bool :=
  match ops.toList.mapM (compAO P n ops) with
  | none => false
  | some l =>
    let ao := fun i => l.getD i default
    let b := Region.before ops
    let W := watchOf T.w
    cloOK ops b && stillB ops.size ao W (cloB b) && (T.w.all fun p => p.2.all (decide <| · < ops.size)) && sameB (T.qs ++ T.t.ops) (List.range ops.size) && nodB (T.qs ++ T.t.ops) && (T.qs.all fun j => !(ao j).op.chg) && pairsB ao W (cloB b) T.qs && covB (cloB b) T.t.heads T.t.ops && okT ao W (cloB b) T.t T.qs T.t.ops

section
variable {ao : Nat → AO} {W : Nat → List Nat} {clo : Nat → Nat → Bool}
theorem pair_of {j i : Nat} (h : pairB ao W clo j i = true) : Pair ao W (fun i j => clo i j = true) j i := by
  have : pairsB ao W clo [j, i] = true := by simp [pairsB, h]
  exact List.rel_of_pairwise_cons (pairs_of this) (by simp)
theorem okT_sub : ∀ {t : HT} {acc acc' rem : List Nat}, acc'.Sublist acc → okT ao W clo t acc rem = true → okT ao W clo t acc' rem = true
  | .leaf, _, _, _, _, _ => rfl
  | .alt c qs sub next, acc, acc', rem, hs, h => by
    simp only [okT, okAlt, Bool.and_eq_true] at h ⊢
    obtain ⟨⟨⟨⟨⟨⟨⟨⟨a1, a2⟩, a3⟩, a4⟩, a5⟩, a6⟩, a7⟩, a8⟩, a9⟩ := h
    refine ⟨⟨⟨⟨⟨⟨⟨⟨a1, ?_⟩, a3⟩, ?_⟩, a5⟩, a6⟩, a7⟩, okT_sub (hs.append_right qs) a8⟩, okT_sub hs a9⟩
    · rw [nodB_ok] at a2 ⊢
      exact a2.sublist (hs.append_right _)
    · rw [List.all_eq_true] at a4 ⊢
      exact fun j hj => a4 j (hs.subset hj)
theorem okT_pairs : ∀ {t : HT} {acc rem : List Nat}, okT ao W clo t acc rem = true → ∀ j ∈ acc, ∀ k ∈ t.ops, Pair ao W (fun i j => clo i j = true) j k
  | .leaf, _, _, _, _, _, _, hk => by cases hk
  | .alt c qs sub next, acc, rem, h, j, hj, k, hk => by
    simp only [okT, okAlt, Bool.and_eq_true] at h
    obtain ⟨⟨⟨⟨⟨⟨⟨⟨a1, a2⟩, a3⟩, a4⟩, a5⟩, a6⟩, a7⟩, a8⟩, a9⟩ := h
    rw [List.all_eq_true] at a4
    have := a4 j hj
    simp only [Bool.and_eq_true, List.all_eq_true] at this
    simp only [HT.ops, List.mem_cons, List.mem_append] at hk
    rcases hk with rfl | hk | hk
    · exact pair_of this.1
    · exact pair_of (this.2 k hk)
    · exact okT_pairs a8 j (List.mem_append_left _ hj) k hk
/-- One of the ways that a tree has. -/
theorem head_of {C : CallP} {l : List AO} {W' : Nat → List Nat} : ∀ {t : HT} {acc rem : List Nat} {i : Nat}, i ∈ t.heads → okT ao W clo t acc rem = true →
    ∃ qs sub, (∀ Q e h, atree C l W' t Q e h → aregs C (opsI l W' (i :: qs)) (atree C l W' sub Q) e h) ∧ okAlt ao W clo i qs sub acc rem = true ∧ okT ao W clo sub (acc ++ qs) sub.ops = true
  | .leaf, _, _, _, hi, _ => by cases hi
  | .alt c qs sub next, acc, rem, i, hi, h => by
    simp only [okT, Bool.and_eq_true] at h
    obtain ⟨⟨a1, a2⟩, a3⟩ := h
    rcases List.mem_cons.1 hi with rfl | hi
    · refine ⟨qs, sub, fun Q e h H => ?_, a1, a2⟩
      cases next with
      | leaf => exact H
      | alt => exact H.1
    · obtain ⟨qs', sub', k1, k2, k3⟩ := head_of (C := C) (l := l) (W' := W') hi a3
      refine ⟨qs', sub', fun Q e h H => ?_, k2, k3⟩
      cases next with
      | leaf => cases hi
      | alt => exact k1 Q e h H.2
end
section
variable {C : CallP} {ao : Nat → AO} {W : Nat → List Nat}
theorem arun_Q (hC : C.Mono) : ∀ (l : List Nat) {D : Nat → Prop} {Q Q' : Env → List AB → Prop} {e : Env} {h : List AB}, (∀ e h, Q e h → Q' e h) → arun C ao W l D Q e h → arun C ao W l D Q' e h
  | [], _, _, _, _, _, hq, H => hq _ _ H
  | _ :: rest, _, _, _, _, _, hq, H => gstep_mono hC (fun _ _ hh => ⟨hh.1, arun_Q hC rest hq hh.2⟩) H
theorem arun_app (hC : C.Mono) : ∀ (l1 l2 : List Nat) {D : Nat → Prop} {Q : Env → List AB → Prop} {e : Env} {h : List AB}, arun C ao W l1 D (fun e h => ∀ D, arun C ao W l2 D Q e h) e h → arun C ao W (l1 ++ l2) D Q e h
  | [], _, _, _, _, _, H => H _
  | _ :: l1, l2, _, _, _, _, H => gstep_mono hC (fun _ _ hh => ⟨hh.1, arun_app hC l1 l2 hh.2⟩) H
end
section
variable {rd : Option Nat} {md : Nat} {F : Nat → Prop} {P : Program} {n : Nat} {gS : GM} {hS : List AB} {wS : World}
theorem aregs_all {C : CallP} (hC : C.Mono) {l : List AO} {W : Nat → List Nat} {Q : Env → List AB → Prop} {L : List Nat} {e : Env} {h : List AB} (H : aregs C (opsI l W L) Q e h) : ∀ D, arun C (fun i => l.getD i default) W L D Q e h := fun D => arun_of hC L D H
theorem tree_ok {ops : Array Oper} {l : List AO} (hao : ∀ (i : Nat) (o : Oper), ops[i]? = some o → compAO P n ops o = some (l.getD i default)) {W : Nat → List Nat} {b : Array Nat} (hb : cloOK ops b = true) (S : Still (fun i => l.getD i default) W (fun i j => cloB b i j = true) ops.size)
    {Q' : Env → List AB → Prop} {Q : Exit → Act → World → Prop} (hQ : ∀ e h a w, Q' e h → Rel F n gS hS wS e h a w → Q .normal a w) :
    ∀ (fuel : Nat) (qs : List Nat) (t : HT) (listed : Array Bool) (e : Env) (h : List AB) (a : Act) (w : World), (qs ++ t.ops).length = fuel → listed.size = ops.size → (∀ j, j ∈ qs ++ t.ops ↔ j < ops.size ∧ listed.getD j false = false) → (qs ++ t.ops).Nodup →
      (∀ j ∈ qs, (l.getD j default).op.chg = false) → qs.Pairwise (Pair (fun i => l.getD i default) W (fun i j => cloB b i j = true)) → covB (cloB b) t.heads t.ops = true → okT (fun i => l.getD i default) W (cloB b) t qs t.ops = true →
      (∀ k j, j < ops.size → listed.getD k false = true → cloB b k j = true → listed.getD j false = true) → Rel F n gS hS wS e h a w → arun (ACalls P) (fun i => l.getD i default) W qs (fun k => listed.getD k false = true) (atree (ACalls P) l W t Q') e h → wpAnyIn (Wd rd) md P .any ops Q fuel listed a w := by
  have hgt : ∀ (listed : Array Bool) (j : Nat), listed.size = ops.size → j < ops.size → listed.getD j true = listed.getD j false := fun listed j hs hj => by
    have : j < listed.size := by omega
    simp [this]
  simp only [cloOK, List.all_eq_true, List.mem_range, Bool.and_eq_true, Bool.not_eq_true'] at hb
  have hcl : ∀ (i : Nat) (o : Oper), ops[i]? = some o → cloB b i i = false ∧ (∀ x ∈ o.after, Region.binds .any x = true → x.on < ops.size ∧ cloB b i x.on = true) ∧ ∀ j, j < ops.size → cloB b i j = true → ∃ x ∈ o.after, Region.binds .any x = true ∧ (x.on = j ∨ cloB b x.on j = true) := fun i o ho => by
    have hi : i < ops.size := by
      rcases Nat.lt_or_ge i ops.size with h | h
      · exact h
      · rw [Array.getElem?_eq_none h] at ho; cases ho
    have := hb i hi
    rw [ho] at this
    simp only [List.all_eq_true, Bool.and_eq_true, Bool.or_eq_true, Bool.not_eq_true', decide_eq_true_eq, List.any_eq_true, beq_iff_eq, Array.mem_toList_iff, List.mem_range] at this
    refine ⟨this.1, fun x hx hbx => ?_, fun j hj hc => ?_⟩
    · rcases this.2.1 x hx with h | h
      · rw [hbx] at h; cases h
      · exact h
    · rcases this.2.2 j hj with h | h
      · rw [hc] at h; cases h
      · obtain ⟨x, hx, h1, h2⟩ := h
        exact ⟨x, hx, h1, h2⟩
  intro fuel
  induction fuel with
  | zero =>
    intro qs t listed e h a w hR hs hm hnd hqq hp hcov hT hclo hr H
    have hnil := List.eq_nil_of_length_eq_zero hR
    obtain ⟨rfl, h2⟩ := List.append_eq_nil_iff.1 hnil
    cases t with
    | alt => simp [HT.ops] at h2
    | leaf =>
      refine ⟨?_, hQ e h a w H hr⟩
      rw [List.eq_nil_iff_forall_not_mem]
      intro j hj
      obtain ⟨h1, o, ho, _⟩ := mem_ready.1 hj
      have hjl : j < ops.size := by
        rcases Nat.lt_or_ge j ops.size with h | h
        · exact h
        · rw [Array.getElem?_eq_none h] at ho; cases ho
      have := (hm j).2 ⟨hjl, by rw [← hgt listed j hs hjl]; exact h1⟩
      cases this
  | succ fuel ih =>
    intro qs t listed e h a w hR hs hm hnd hqq hp hcov hT hclo hr H
    have rdy : ∀ i0, i0 ∈ qs ++ t.ops → (∀ k ∈ qs ++ t.ops, k ≠ i0 → cloB b i0 k ≠ true) → i0 ∈ Region.ready .any ops listed := fun i0 hi0 hfree => by
      have h0 := (hm i0).1 hi0
      have ho : ops[i0]? = some ops[i0] := Array.getElem?_eq_getElem h0.1
      have hc := hcl i0 _ ho
      refine mem_ready.2 ⟨by rw [hgt listed i0 hs h0.1]; exact h0.2, _, ho, fun x hx hbx => ?_⟩
      obtain ⟨h1, h2⟩ := hc.2.1 x hx hbx
      cases hl : listed.getD x.on false with
      | true => rfl
      | false =>
        have hmem := (hm x.on).2 ⟨h1, hl⟩
        by_cases e1 : x.on = i0
        · rw [e1, hc.1] at h2; cases h2
        · exact (hfree _ hmem e1 h2).elim
    refine ⟨fun hno => ?_, fun i hi => ?_⟩
    · cases qs with
      | cons i0 qs =>
        have := rdy i0 (by simp) (fun k hk hne hcl' => by
          simp only [List.cons_append, List.mem_cons, List.mem_append] at hk
          rcases hk with h | h | h
          · exact hne h
          · exact ((List.pairwise_cons.1 hp).1 _ h).2.1 hcl'
          · exact (okT_pairs hT i0 (by simp) k h).2.1 hcl')
        rw [hno] at this; cases this
      | nil =>
        cases t with
        | leaf => simp [HT.ops] at hR
        | alt c qs' sub next =>
          simp only [okT, okAlt, Bool.and_eq_true, List.all_eq_true, Bool.not_eq_true'] at hT
          have a7 := hT.1.1.2
          have := rdy c (by simp [HT.ops]) (fun k hk hne hcl' => by
            simp only [HT.ops, List.nil_append, List.mem_cons] at hk
            rcases hk with h | h
            · exact hne h
            · rw [a7 k h] at hcl'; cases hcl')
          rw [hno] at this; cases this
    · obtain ⟨h1, o, ho, hed⟩ := mem_ready.1 hi
      have hil : i < ops.size := by
        rcases Nat.lt_or_ge i ops.size with h | h
        · exact h
        · rw [Array.getElem?_eq_none h] at ho; cases ho
      have hiR := (hm i).2 ⟨hil, by rw [← hgt listed i hs hil]; exact h1⟩
      have hc := hcl i o ho
      have unl : ∀ j ∈ qs ++ t.ops, j < ops.size ∧ listed.getD j false = false := fun j hj => (hm j).1 hj
      have hij : ∀ j ∈ qs ++ t.ops, ¬ cloB b i j = true := fun j hj hcj => by
        obtain ⟨x, hx, hbx, hxj⟩ := hc.2.2 j (unl j hj).1 hcj
        have hlx := hed x hx hbx
        have : listed.getD j false = true := by
          rcases hxj with rfl | hxj
          · exact hlx
          · exact hclo _ _ (unl j hj).1 hlx hxj
        rw [(unl j hj).2] at this
        cases this
      have hDN : ∀ k, listed.getD k false = true → k < ops.size := fun k hk => by
        rcases Nat.lt_or_ge k ops.size with h | h
        · exact h
        · have : listed.size ≤ k := by omega
          simp [Array.getElem?_eq_none this] at hk
      have getne : ∀ j, j ≠ i → (listed.setIfInBounds i true).getD j false = listed.getD j false := fun j hj => getD_set_ne false (Ne.symm hj)
      have geteq : (listed.setIfInBounds i true).getD i false = true := by
        have : i < listed.size := by omega
        simp [this]
      have hDD : ∀ k, listed.getD k false = true → ∀ j ∈ qs, ¬ cloB b k j = true ∧ k ≠ j := fun k hk j hj => by
        have uj := unl j (List.mem_append_left _ hj)
        exact ⟨fun hkj => (by have := hclo k j uj.1 hk hkj; rw [uj.2] at this; cases this), fun e1 => (by subst e1; rw [uj.2] at hk; cases hk)⟩
      have clo' : ∀ k j, j < ops.size → (listed.setIfInBounds i true).getD k false = true → cloB b k j = true → (listed.setIfInBounds i true).getD j false = true := fun k j hjs hk hkj => by
        by_cases e2 : j = i
        · subst e2; exact geteq
        · rw [getne j e2]
          by_cases e1 : k = i
          · subst e1
            obtain ⟨x, hx, hbx, hxj⟩ := hc.2.2 j hjs hkj
            have hlx := hed x hx hbx
            rcases hxj with rfl | hxj
            · exact hlx
            · exact hclo _ _ hjs hlx hxj
          · rw [getne k e1] at hk
            exact hclo k j hjs hk hkj
      have anti : ∀ k, (listed.setIfInBounds i true).getD k false = true → k = i ∨ listed.getD k false = true := fun k hk => by
        by_cases e1 : k = i
        · exact .inl e1
        · rw [getne k e1] at hk
          exact .inr hk
      rcases List.mem_append.1 hiR with hq | ht
      · obtain ⟨pre, rest, rfl⟩ := List.append_of_mem hq
        rw [List.pairwise_append] at hp
        obtain ⟨p1, p2, p3⟩ := hp
        have G := pull (ACalls.mono P) S hil rest (atree (ACalls P) l W t Q') pre (fun k => listed.getD k false = true) e h (fun j hj => (unl j (by simp [hj])).1) hDN p1 (fun j hj => ⟨p3 j hj i List.mem_cons_self, hij j (by simp [hj])⟩)
          (fun k hk j hj => hDD k hk j (by simp [hj])) H
        have hni : i ∉ pre ++ rest ∧ i ∉ t.ops := by
          have := hnd
          simp only [List.append_assoc, List.cons_append, List.nodup_append, List.nodup_cons, List.mem_append, List.mem_cons, not_or] at this
          obtain ⟨_, ⟨⟨n1, n2⟩, _⟩, n3⟩ := this
          exact ⟨by simp only [List.mem_append, not_or]; exact ⟨fun hp => n3 i hp i (.inl rfl) rfl, n1⟩, n2⟩
        refine gstep_ok ho (hao i o ho) hr (fun r h' a' w' hk hr' => ?_) G
        refine ih (pre ++ rest) t (listed.setIfInBounds i true) _ _ _ _ (by simp at hR ⊢; omega) (by simp [hs]) (fun j => ?_) ?_ (fun j hj => hqq j ?_) ?_ hcov (okT_sub ?_ hT) clo' hr' (arun_anti (ACalls.mono P) _ anti hk.2)
        · by_cases e1 : j = i
          · subst e1
            rw [geteq]
            simp only [List.mem_append, not_or] at hni
            simp [hni]
          · rw [getne j e1, ← hm j]
            simp [e1]
        · refine hnd.sublist ?_
          exact ((List.Sublist.refl pre).append (List.sublist_cons_self i rest)).append_right t.ops
        · simp only [List.mem_append, List.mem_cons] at hj ⊢
          rcases hj with h | h
          · exact .inl h
          · exact .inr (.inr h)
        · rw [List.pairwise_append]
          exact ⟨p1, (List.pairwise_cons.1 p2).2, fun x hx y hy => p3 x hx y (List.mem_cons_of_mem _ hy)⟩
        · exact (List.Sublist.refl pre).append (List.sublist_cons_self i rest)
      · have hhead : i ∈ t.heads := by
          unfold covB at hcov
          rw [List.all_eq_true] at hcov
          have := hcov i ht
          simp only [Bool.or_eq_true, List.contains_iff_mem, List.any_eq_true, Bool.and_eq_true, bne_iff_ne, ne_eq] at this
          rcases this with h | ⟨j, hj, _, hc'⟩
          · exact h
          · exact (hij j (List.mem_append_right _ hj) hc').elim
        obtain ⟨qs', sub, k1, k2, k3⟩ := head_of (C := ACalls P) (l := l) (W' := W) hhead hT
        simp only [okAlt, Bool.and_eq_true] at k2
        obtain ⟨⟨⟨⟨⟨⟨a1, a2⟩, a3⟩, a4⟩, a5⟩, a6⟩, a7⟩ := k2
        have H2 : arun (ACalls P) (fun i => l.getD i default) W (qs ++ i :: qs') (fun k => listed.getD k false = true) (atree (ACalls P) l W sub Q') e h :=
          arun_app (ACalls.mono P) qs (i :: qs') (arun_Q (ACalls.mono P) qs (fun e h hh => aregs_all (ACalls.mono P) (k1 Q' e h hh)) H)
        have G := pull (ACalls.mono P) S hil qs' (atree (ACalls P) l W sub Q') qs (fun k => listed.getD k false = true) e h (fun j hj => (unl j (List.mem_append_left _ hj)).1) hDN hp (fun j hj => ⟨okT_pairs hT j hj i ht, hij j (List.mem_append_left _ hj)⟩)
          (fun k hk j hj => hDD k hk j hj) H2
        simp only [sameB, Bool.and_eq_true, List.all_eq_true, List.contains_iff_mem] at a1
        rw [nodB_ok] at a2
        have a2' := a2
        simp only [List.nodup_append, List.nodup_cons, List.mem_append, List.mem_cons, not_or] at a2'
        obtain ⟨_, ⟨⟨n1, n1'⟩, n4⟩, n3⟩ := a2'
        have hlen : (qs ++ t.ops).length = (qs ++ (i :: (qs' ++ sub.ops))).length := by
          have e1 : t.ops.length ≤ (i :: (qs' ++ sub.ops)).length := nodup_le (hnd.sublist (List.sublist_append_right _ _)) (fun x hx => a1.1 x hx)
          have e2 : (i :: (qs' ++ sub.ops)).length ≤ t.ops.length := nodup_le (a2.sublist (List.sublist_append_right _ _)) (fun x hx => a1.2 x hx)
          simp only [List.length_append] at e1 e2 ⊢
          omega
        have hpq : (qs ++ qs').Pairwise (Pair (fun i => l.getD i default) W (fun i j => cloB b i j = true)) := by
          rw [List.pairwise_append]
          refine ⟨hp, pairs_of a5, fun x hx y hy => ?_⟩
          rw [List.all_eq_true] at a4
          have := a4 x hx
          simp only [Bool.and_eq_true, List.all_eq_true] at this
          exact pair_of (this.2 y hy)
        refine gstep_ok ho (hao i o ho) hr (fun r h' a' w' hk hr' => ?_) G
        refine ih (qs ++ qs') sub (listed.setIfInBounds i true) _ _ _ _ (by rw [hR] at hlen; simp at hlen ⊢; omega) (by simp [hs]) (fun j => ?_) ?_ (fun j hj => ?_) hpq a6 k3 clo' hr' (arun_anti (ACalls.mono P) _ anti hk.2)
        · have hmem : j ∈ t.ops ↔ j = i ∨ j ∈ qs' ∨ j ∈ sub.ops := by
            constructor
            · intro h
              have := a1.1 j h
              simpa using this
            · intro h
              exact a1.2 j (by simpa using h)
          by_cases e1 : j = i
          · subst e1
            rw [geteq]
            have : j ∉ qs := fun h => n3 j h j (.inl rfl) rfl
            simp [this, n1, n1']
          · rw [getne j e1, ← hm j]
            simp only [List.mem_append, hmem, e1, false_or, or_assoc]
        · refine a2.sublist ?_
          rw [List.append_assoc]
          exact (List.Sublist.refl qs).append (List.sublist_cons_self i _)
        · rcases List.mem_append.1 hj with h | h
          · exact hqq j h
          · rw [List.all_eq_true] at a3
            simpa using a3 j h
end
end Go.Proofs.Ytlffjnmbpoemnaa
