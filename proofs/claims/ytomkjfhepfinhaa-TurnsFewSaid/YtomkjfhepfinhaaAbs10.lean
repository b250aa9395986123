/- The order of a region's operations: over abstract values one order stands for all. No program in sight. -/
import Derived.Test.YtomkjfhepfinhaaAbs9
namespace Go.Proofs.Ytomkjfhepfinhaa
open Go.RowKit

structure AO where
  dst : Option Nat
  op : AOp
  guard : Option (Nat × Bool)
  deriving Inhabited
abbrev Env := Nat → AV
def Env.put (e : Env) : Option Nat → AV → Env
  | some d, v => fun t => if t = d then v else e t
  | none, _ => e
/-- What is known of calls, and of functions that yield values. -/
structure CallP where
  call : FuncId → List AV → List AB → (AV → List AB → Prop) → Prop
  iter : FuncId → List AV → List (List AV) → Prop
instance : CoeFun CallP (fun _ => FuncId → List AV → List AB → (AV → List AB → Prop) → Prop) := ⟨CallP.call⟩
def CallP.Mono (C : CallP) : Prop := ∀ f xs h (K K' : AV → List AB → Prop), (∀ r h', K r h' → K' r h') → C f xs h K → C f xs h K'
def astep (C : CallP) (o : AOp) (e : Env) (h : List AB) (K : AV → List AB → Prop) : Prop :=
  match o with
  | .call f xs => C f (xs.map (AX.ev e)) h K
  | .calv x xs => match x.ev e with
    | .fn f m c => C f (xs.map (AX.ev e) ++ (List.range m).map c) h K
    | _ => False
  | .app sz b x y => aop (.app sz b x y) (AX.ev e) h K ∨ asplit (.app sz b x y) (AX.ev e) h K
  | o => aop o (AX.ev e) h K
def gstep (C : CallP) (o : AO) (e : Env) (h : List AB) (K : AV → List AB → Prop) : Prop :=
  match o.guard with
  | none => astep C o.op e h K
  | some (t, b) => match e t with
    | .bool q => acond (q == b) (astep C o.op e h K) (K und h)
    | .tup 0 _ => K und h
    | _ => False
def AX.tmps : AX → List Nat
  | .t i => [i]
  | .k _ => []
def AO.looks (o : AO) : List Nat := o.op.xs.flatMap AX.tmps ++ (match o.guard with | some (t, _) => [t] | none => [])

theorem ev_congr {x : AX} {e e' : Env} (h : ∀ t ∈ x.tmps, e t = e' t) : x.ev e = x.ev e' := by
  cases x with
  | t i => exact h i (by simp [AX.tmps])
  | k v => rfl
theorem astep_env {C : CallP} {o : AOp} {e e' : Env} {h : List AB} {K : AV → List AB → Prop} (hx : ∀ x ∈ o.xs, x.ev e = x.ev e') (H : astep C o e h K) : astep C o e' h K := by
  cases o
  case call f xs =>
    simp only [astep] at H ⊢
    have hm : xs.map (AX.ev e) = xs.map (AX.ev e') := List.map_congr_left hx
    rw [← hm]; exact H
  case calv x xs =>
    simp only [astep] at H ⊢
    have hm : xs.map (AX.ev e) = xs.map (AX.ev e') := List.map_congr_left (fun y hy => hx y (by simp [AOp.xs, hy]))
    rw [← hx x (by simp [AOp.xs]), ← hm]; exact H
  case app sz b x y => exact H.imp (aop_env _ hx) (asplit_env _ hx)
  all_goals (simp only [astep] at H ⊢; exact aop_env _ hx H)
theorem astep_mono {C : CallP} (hC : C.Mono) {o : AOp} {e : Env} {h : List AB} {K K' : AV → List AB → Prop} (hk : ∀ r h', K r h' → K' r h') (H : astep C o e h K) : astep C o e h K' := by
  cases o
  case call f xs => exact hC _ _ _ _ _ hk H
  case calv x xs =>
    simp only [astep] at H ⊢
    generalize x.ev e = v at H ⊢
    cases v <;> simp only at H ⊢
    exact hC _ _ _ _ _ hk H
  case app sz b x y => exact H.imp (aop_mono _ hk) (asplit_mono _ hk)
  all_goals (simp only [astep] at H ⊢; exact aop_mono _ hk H)
theorem astep_quiet {C : CallP} {o : AOp} (hc : o.chg = false) (e : Env) (h : List AB) (K : AV → List AB → Prop) : astep C o e h K = aop o (AX.ev e) h K := by
  cases o <;> first | rfl | (simp [AOp.chg] at hc)
theorem gstep_env {C : CallP} {o : AO} {e e' : Env} {h : List AB} {K : AV → List AB → Prop} (hx : ∀ t ∈ o.looks, e t = e' t) (H : gstep C o e h K) : gstep C o e' h K := by
  have hx1 : ∀ x ∈ o.op.xs, x.ev e = x.ev e' := fun x hx' => ev_congr fun t ht => hx t (List.mem_append_left _ (List.mem_flatMap.2 ⟨x, hx', ht⟩))
  unfold gstep at H ⊢
  cases hg : o.guard with
  | none => rw [hg] at H; exact astep_env hx1 H
  | some p =>
    obtain ⟨t, b⟩ := p
    rw [hg] at H
    have ht : e t = e' t := hx t (by simp [AO.looks, hg])
    simp only at H ⊢
    rw [← ht]
    generalize e t = v at H ⊢
    split at H
    · exact acond_i (fun hq => (acond_e H).elim (fun h => astep_env hx1 h.2) (fun h => by rw [h.1] at hq; cases hq)) (fun hq => (acond_e H).elim (fun h => by rw [h.1] at hq; cases hq) (fun h => h.2))
    · exact H
    · exact H.elim
theorem gstep_mono {C : CallP} (hC : C.Mono) {o : AO} {e : Env} {h : List AB} {K K' : AV → List AB → Prop} (hk : ∀ r h', K r h' → K' r h') (H : gstep C o e h K) : gstep C o e h K' := by
  unfold gstep at H ⊢
  cases hg : o.guard with
  | none => rw [hg] at H; exact astep_mono hC hk H
  | some p =>
    obtain ⟨t, b⟩ := p
    rw [hg] at H
    simp only at H ⊢
    generalize e t = v at H ⊢
    split at H
    · exact acond_i (fun hq => (acond_e H).elim (fun h => astep_mono hC hk h.2) (fun h => by rw [h.1] at hq; cases hq)) (fun hq => (acond_e H).elim (fun h => by rw [h.1] at hq; cases hq) (fun h => hk _ _ h.2))
    · exact hk _ _ H
    · exact H.elim
theorem gstep_quiet {C : CallP} {o : AO} (hc : o.op.chg = false) {e : Env} {h : List AB} {K : AV → List AB → Prop} (H : gstep C o e h K) : ∃ r, K r h ∧ gstep C o e h (fun a b => a = r ∧ b = h) ∧ (o.op.rds = false → ∀ h2 (K2 : AV → List AB → Prop), K2 r h2 → gstep C o e h2 K2) := by
  unfold gstep at H ⊢
  simp only [astep_quiet hc] at H ⊢
  cases hg : o.guard with
  | none => rw [hg] at H; exact aop_quiet _ hc H
  | some p =>
    obtain ⟨t, b⟩ := p
    rw [hg] at H
    simp only at H ⊢
    generalize e t = v at H ⊢
    split at H
    · rename_i q
      rcases acond_e H with ⟨h1, h2⟩ | ⟨h1, h2⟩
      · simp only [h1, acond]
        exact aop_quiet _ hc h2
      · simp only [h1, acond]
        exact ⟨und, h2, by simp, fun _ h2 K2 hk => hk⟩
    · exact ⟨und, H, by simp, fun _ h2 K2 hk => hk⟩
    · exact H.elim

theorem put_ne {e : Env} {dst : Option Nat} {v : AV} {t : Nat} (h : dst ≠ some t) : e.put dst v t = e t := by
  cases dst with
  | none => rfl
  | some d => simp only [Env.put]; rw [if_neg (fun e => h (by rw [e]))]
theorem put_eq {e : Env} {t : Nat} {v : AV} : e.put (some t) v t = v := by simp [Env.put]
theorem put_comm {e : Env} {x y : Option Nat} {v u : AV} (h : ∀ d, x = some d → y ≠ some d) : (e.put x v).put y u = (e.put y u).put x v := by
  cases x with
  | none => rfl
  | some d =>
    cases y with
    | none => rfl
    | some d' =>
      have hne : d' ≠ d := fun e => h d rfl (by rw [e])
      funext t
      simp only [Env.put]
      by_cases h1 : t = d'
      · subst h1; simp [hne]
      · simp [h1]

/-- A look into the blocks gives what it gave. -/
def wat (C : CallP) (o : AO) (e : Env) (h : List AB) : Prop := ∀ d, o.dst = some d → gstep C o e h (fun v _ => v = e d)
section
variable (C : CallP) (ao : Nat → AO) (W : Nat → List Nat)
def arun (l : List Nat) (D : Nat → Prop) (Q : Env → List AB → Prop) (e : Env) (h : List AB) : Prop :=
  match l with
  | [] => Q e h
  | i :: rest => gstep C (ao i) e h (fun r h' => (∀ j ∈ W i, D j → wat C (ao j) e h') ∧ arun rest (fun k => k = i ∨ D k) Q (e.put (ao i).dst r) h')
end
section
variable {C : CallP} {ao : Nat → AO} {W : Nat → List Nat}
theorem arun_anti (hC : C.Mono) : ∀ (l : List Nat) {D D' : Nat → Prop} {Q : Env → List AB → Prop} {e : Env} {h : List AB}, (∀ k, D' k → D k) → arun C ao W l D Q e h → arun C ao W l D' Q e h
  | [], _, _, _, _, _, _, H => H
  | _ :: rest, _, _, _, _, _, hd, H => gstep_mono hC (fun _ _ hh => ⟨fun j hj hDj => hh.1 j hj (hd j hDj), arun_anti hC rest (fun k hk => hk.imp id (hd k)) hh.2⟩) H
theorem wat_env {o : AO} {e : Env} {h : List AB} {dst : Option Nat} {v : AV} (h1 : ∀ d, dst = some d → d ∉ o.looks) (h2 : ∀ d, dst = some d → o.dst ≠ some d) (H : wat C o (e.put dst v) h) : wat C o e h := fun d hd => by
  have h3 : dst ≠ some d := fun e => h2 d e hd
  have := H d hd
  rw [put_ne h3] at this
  exact gstep_env (fun t ht => put_ne (fun e => h1 t e ht)) this

/-- What a region's static look gives: clo: what must have come before. -/
structure Still (ao : Nat → AO) (W : Nat → List Nat) (clo : Nat → Nat → Prop) (N : Nat) : Prop where
  apart : ∀ k j, k < N → j < N → k ≠ j → ¬ clo k j → ¬ clo j k → ∀ d, (ao j).dst = some d → d ∉ (ao k).looks ∧ (ao k).dst ≠ some d
  wat : ∀ i k j, i < N → k ∈ W i → j < N → k ≠ j → ¬ clo k j → ∀ d, (ao j).dst = some d → d ∉ (ao k).looks ∧ (ao k).dst ≠ some d
  self : ∀ i j, i < N → j ∈ W i → ∀ d, (ao j).dst = some d → d ∉ (ao j).looks
  wq : ∀ j, j < N → (ao j).op.chg = false → W j = []
def Pair (ao : Nat → AO) (W : Nat → List Nat) (clo : Nat → Nat → Prop) (j i : Nat) : Prop :=
  j ≠ i ∧ ¬ clo j i ∧ ((ao j).op.chg = true → clo i j) ∧ ((ao i).op.chg = true → (ao j).op.rds = true → ¬ clo i j → j ∈ W i ∧ (ao j).dst ≠ none)

theorem pull (hC : C.Mono) {clo : Nat → Nat → Prop} {N : Nat} (S : Still ao W clo N) {i : Nat} (hiN : i < N) (rest : List Nat) (Q : Env → List AB → Prop) : ∀ (pre : List Nat) (D : Nat → Prop) (e : Env) (h : List AB),
    (∀ j ∈ pre, j < N) → (∀ k, D k → k < N) → pre.Pairwise (Pair ao W clo) → (∀ j ∈ pre, Pair ao W clo j i ∧ ¬ clo i j) → (∀ k, D k → ∀ j ∈ pre, ¬ clo k j ∧ k ≠ j) →
    arun C ao W (pre ++ i :: rest) D Q e h →
    gstep C (ao i) e h (fun r h' => (∀ j ∈ W i, D j → wat C (ao j) e h') ∧ arun C ao W (pre ++ rest) (fun k => k = i ∨ D k) Q (e.put (ao i).dst r) h')
  | [], _, _, _, _, _, _, _, _, H => H
  | j :: pre, D, e, h, hN, hDN, hpw, hpi, hD, H => by
    obtain ⟨⟨hne, hji, hcj, hci⟩, hij⟩ := hpi j List.mem_cons_self
    have hjN := hN j List.mem_cons_self
    have hq : (ao j).op.chg = false := by
      cases hh : (ao j).op.chg with
      | false => rfl
      | true => exact (hij (hcj hh)).elim
    have H : gstep C (ao j) e h _ := H
    obtain ⟨rj, ⟨_, Hj⟩, gj, nr⟩ := gstep_quiet hq H
    rw [List.pairwise_cons] at hpw
    have IH := pull hC S hiN rest Q pre (fun k => k = j ∨ D k) (e.put (ao j).dst rj) h (fun k hk => hN k (List.mem_cons_of_mem _ hk)) (fun k hk => hk.elim (fun e => e ▸ hjN) (hDN k)) hpw.2 (fun k hk => hpi k (List.mem_cons_of_mem _ hk))
      (fun k hk k' hk' => hk.elim (fun e => by subst e; exact ⟨(hpw.1 k' hk').2.1, (hpw.1 k' hk').1⟩) (fun hDk => hD k hDk k' (List.mem_cons_of_mem _ hk'))) Hj
    have ai := S.apart i j hiN hjN (Ne.symm hne) hij hji
    have aj := S.apart j i hjN hiN hne hji hij
    have IH2 := gstep_env (e' := e) (fun t ht => put_ne (fun ed => (ai t ed).1 ht)) IH
    have fin : ∀ ri hi, (∀ k ∈ W i, (k = j ∨ D k) → wat C (ao k) (e.put (ao j).dst rj) hi) → arun C ao W (pre ++ rest) (fun k => k = i ∨ k = j ∨ D k) Q ((e.put (ao j).dst rj).put (ao i).dst ri) hi → gstep C (ao j) e hi (fun a b => a = rj ∧ b = hi) →
        (∀ k ∈ W i, D k → wat C (ao k) e hi) ∧ arun C ao W (j :: pre ++ rest) (fun k => k = i ∨ D k) Q (e.put (ao i).dst ri) hi := by
      intro ri hi hw hr hg
      refine ⟨fun k hk hDk => ?_, ?_⟩
      · obtain ⟨n1, n2⟩ := hD k hDk j List.mem_cons_self
        have ak := S.wat i k j hiN hk hjN n2 n1
        exact wat_env (fun d hd => (ak d hd).1) (fun d hd => (ak d hd).2) (hw k hk (.inr hDk))
      · show gstep C (ao j) (e.put (ao i).dst ri) hi _
        refine gstep_mono hC ?_ (gstep_env (fun t ht => (put_ne (fun ed => (aj t ed).1 ht)).symm) hg)
        rintro r h' ⟨rfl, rfl⟩
        refine ⟨fun k hk => (by rw [S.wq j hjN hq] at hk; cases hk), ?_⟩
        rw [← put_comm (fun d hd => (ai d hd).2)]
        exact arun_anti hC _ (fun k hk => by rcases hk with h | h | h; exact .inr (.inl h); exact .inl h; exact .inr (.inr h)) hr
    cases hci' : (ao i).op.chg with
    | false =>
      obtain ⟨ri, ⟨k1, k2⟩, gi, _⟩ := gstep_quiet hci' IH2
      refine gstep_mono hC ?_ gi
      rintro r h' ⟨rfl, rfl⟩
      exact fin _ _ k1 k2 gj
    | true =>
      refine gstep_mono hC ?_ IH2
      rintro ri hi ⟨k1, k2⟩
      refine fin _ _ k1 k2 ?_
      cases hrd : (ao j).op.rds with
      | false => exact nr hrd hi _ ⟨rfl, rfl⟩
      | true =>
        obtain ⟨m1, m2⟩ := hci hci' hrd hij
        obtain ⟨d, hd⟩ := Option.ne_none_iff_exists'.1 m2
        have h1 := k1 j m1 (.inl rfl) d hd
        rw [hd, put_eq] at h1
        obtain ⟨r, e1, e2, _⟩ := gstep_quiet hq h1
        subst e1
        refine gstep_env (fun t ht => ?_) e2
        exact put_ne (fun ed => S.self i j hiN m1 t (by rw [hd]; exact ed) ht)
end
end Go.Proofs.Ytomkjfhepfinhaa
