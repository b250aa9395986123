/- Regions over abstract values: one order stands for all. No program in sight. -/
import Derived.Test.YtomkjfhepfinhaaAbs8
set_option linter.unusedSimpArgs false
set_option linter.unusedVariables false
namespace Go.Proofs.Ytomkjfhepfinhaa
open Go.RowKit

def AOp.xs : AOp → List AX
  | .mv x | .nilck x | .box x | .ld _ x | .fa x _ | .fld x _ _ | .un _ x | .conv _ x | .len x | .ext x _ | .clr _ x => [x]
  | .pick c a b => [c, a, b]
  | .build _ ps => ps.map (·.2.2)
  | .bsl _ _ _ ps | .bslp _ _ _ ps => ps.map (·.2)
  | .st _ x y | .ia _ x y | .bin _ x y | .binb _ x y | .eqz _ _ x y | .eqa _ _ x y | .msl _ _ _ x y | .app _ _ x y | .mx x y | .mn x y => [x, y]
  | .slc _ x lo hi => x :: (lo.toList ++ hi.toList)
  | .mkf _ xs | .call _ xs => xs
  | .calv x xs => x :: xs
  | .no => []
/-- It may change the call's own blocks. -/
def AOp.chg : AOp → Bool
  | .bslp .. | .box _ | .st .. | .msl .. | .app .. | .clr .. | .call .. | .calv .. => true
  | _ => false
/-- It looks at them. -/
def AOp.rds : AOp → Bool
  | .ld .. => true
  | o => o.chg

theorem map_congr_ev {α : Type} {ps : List α} {f : α → AX} {e e' : AX → AV} (h : ∀ x ∈ ps.map f, e x = e' x) {β : Type} (g : α → AV → β) : (ps.map fun p => g p (e (f p))) = ps.map fun p => g p (e' (f p)) :=
  List.map_congr_left fun p hp => by rw [h (f p) (List.mem_map.2 ⟨p, hp, rfl⟩)]
theorem apubs_env {e e' : AX → AV} : ∀ {ps : List (Nat × AX)} {h : List AB} {K : List (Nat × AV) → List AB → Prop}, (∀ x ∈ ps.map (·.2), e x = e' x) → apubs e ps h K → apubs e' ps h K
  | [], _, _, _, H => H
  | (i, x) :: ps, h, K, hx, H => by
    simp only [apubs] at H ⊢
    rw [← hx x (by simp)]
    obtain ⟨v, h1, H1, k1⟩ := apub_one H
    exact k1 _ (apubs_env (fun y hy => hx y (List.mem_cons_of_mem _ hy)) H1)
theorem aop_env (o : AOp) {e e' : AX → AV} {h : List AB} {K : AV → List AB → Prop} (hx : ∀ x ∈ o.xs, e x = e' x) (H : aop o e h K) : aop o e' h K := by
  cases o <;> simp only [AOp.xs, List.mem_cons, List.not_mem_nil, or_false, forall_eq, forall_eq_or_imp] at hx
  case build zs ps =>
    simp only [aop] at H ⊢
    have h1 := map_congr_ev (f := fun p : Nat × Nat × AX => p.2.2) hx (fun p v => (p.1, p.2.1, v))
    refine ⟨fun p hp => ?_, H.2.1, ?_⟩
    · rw [← hx _ (List.mem_map.2 ⟨p, hp, rfl⟩)]; exact H.1 p hp
    · rw [← h1]; exact H.2.2
  case bsl n sz zs ps =>
    simp only [aop] at H ⊢
    have h1 := map_congr_ev (f := fun p : Nat × AX => p.2) hx (fun p v => (p.1, v))
    refine ⟨fun p hp => ?_, H.2.1, ?_⟩
    · rw [← hx _ (List.mem_map.2 ⟨p, hp, rfl⟩)]; exact H.1 p hp
    · rw [← h1]; exact H.2.2
  case bslp n sz zs ps => exact apubs_env hx H
  case slc sz x lo hi =>
    obtain ⟨h1, h2⟩ := hx
    have hlo : lo.map e = lo.map e' := by
      cases lo with
      | none => rfl
      | some a => simp only [Option.map_some]; rw [h2 a (by simp)]
    have hhi : hi.map e = hi.map e' := by
      cases hi with
      | none => rfl
      | some a => simp only [Option.map_some]; rw [h2 a (by simp)]
    simp only [aop] at H ⊢
    rw [← h1, ← hlo, ← hhi]; exact H
  case mkf f xs =>
    simp only [aop] at H ⊢
    rw [← List.map_congr_left hx]; exact H
  case ld m x => cases m <;> (simp only [aop] at H ⊢; rw [← hx]; exact H)
  case call => exact H
  case calv => exact H
  case no => exact H
  case pick c a b =>
    obtain ⟨h1, h2, h3⟩ := hx
    simp only [aop] at H ⊢
    rw [← h1, ← h2, ← h3]; exact H
  all_goals
    first
    | (simp only [aop] at H ⊢; rw [← hx]; exact H)
    | (obtain ⟨h1, h2⟩ := hx; simp only [aop] at H ⊢; rw [← h1, ← h2]; exact H)
theorem asplit_env (o : AOp) {e e' : AX → AV} {h : List AB} {K : AV → List AB → Prop} (hx : ∀ x ∈ o.xs, e x = e' x) (H : asplit o e h K) : asplit o e' h K := by
  cases o <;> simp only [asplit] at H ⊢
  case app sz b x y =>
    simp only [AOp.xs, List.mem_cons, List.not_mem_nil, or_false, forall_eq, forall_eq_or_imp] at hx
    obtain ⟨h1, h2⟩ := hx
    rw [← h1, ← h2]; exact H
theorem aop_mono (o : AOp) {e : AX → AV} {h : List AB} {K K' : AV → List AB → Prop} (hk : ∀ r h', K r h' → K' r h') (H : aop o e h K) : aop o e h K' := by
  obtain ⟨r, h', h1, h2⟩ := aop_one o e h K H
  have h3 := hk r h' h2
  clear H h2
  have key : ∀ {K1 : AV → List AB → Prop}, aop o e h K1 → (∀ a b, K1 a b → K' a b) → aop o e h K' := by
    clear h1 h3 hk
    intro K1 H hm
    cases o <;> simp only [aop] at H ⊢
    case mv => exact hm _ _ H
    case pick c a b =>
      generalize e c = v at H ⊢
      cases v <;> simp only at H ⊢
      case bool q => cases q <;> exact hm _ _ H
    case nilck x =>
      generalize e x = v at H ⊢
      cases v <;> simp only at H ⊢ <;> exact hm _ _ H
    case box x =>
      generalize e x = v at H ⊢
      cases v <;> simp only at H ⊢ <;> exact hm _ _ H
    case build => exact ⟨H.1, H.2.1, hm _ _ H.2.2⟩
    case bsl => exact ⟨H.1, H.2.1, hm _ _ H.2.2⟩
    case bslp =>
      obtain ⟨l, h', H1, k1⟩ := apubs_one H
      exact k1 _ ⟨H1.1, hm _ _ H1.2⟩
    case ld m x =>
      cases m <;> simp only at H ⊢ <;> generalize e x = v at H ⊢ <;> cases v <;> simp only at H ⊢
      case none.ip => exact ⟨H.1, hm _ _ H.2⟩
      case some.ip => exact ⟨H.1, hm _ _ H.2⟩
      case none.ptr => split at H <;> first | exact ⟨H.1, hm _ _ H.2⟩ | exact H.elim
      case some.ptr => split at H <;> first | exact ⟨H.1, hm _ _ H.2⟩ | exact H.elim
      case none.rp => split at H <;> first | exact ⟨H.1, H.2.1, H.2.2.1, hm _ _ H.2.2.2⟩ | exact H.elim
      case some.rp => split at H <;> first | exact ⟨H.1, H.2.1, H.2.2.1, hm _ _ H.2.2.2⟩ | exact H.elim
    case st m x y =>
      generalize e x = v at H ⊢
      cases v <;> simp only at H ⊢
      case ptr => split at H <;> first | exact ⟨H.1, H.2.1, hm _ _ H.2.2⟩ | exact H.elim
      case rp =>
        split at H
        · exact ⟨H.1, H.2.1, H.2.2.1, H.2.2.2.1, H.2.2.2.2.imp (fun h => ⟨h.1, h.2.1, hm _ _ h.2.2⟩) (fun h => ⟨h.1, h.2.1, hm _ _ h.2.2⟩)⟩
        · exact H.elim
    case fa x off =>
      generalize e x = v at H ⊢
      cases v <;> simp only at H ⊢ <;> exact hm _ _ H
    case fld x off m =>
      generalize e x = v at H ⊢
      cases v <;> simp only at H ⊢
      case agg => cases m <;> exact ⟨H.1, hm _ _ H.2⟩
    case ia sz x i =>
      generalize e x = v at H ⊢
      generalize e i = j at H ⊢
      cases j <;> cases v <;> simp only at H ⊢
      · exact ⟨H.1, H.2.1, H.2.2.1, H.2.2.2.1, hm _ _ H.2.2.2.2⟩
      · exact ⟨H.1, H.2.1, hm _ _ H.2.2⟩
      · exact ⟨H.1, H.2.1, H.2.2.1, hm _ _ H.2.2.2⟩
    case slc sz x lo hi =>
      generalize e x = v at H ⊢
      cases v <;> simp only at H ⊢
      case sl =>
        refine ⟨H.1, ?_⟩
        have H := H.2
        split at H
        · exact hm _ _ H
        · exact ⟨H.1, H.2.1, hm _ _ H.2.2⟩
        · exact ⟨H.1, H.2.1, hm _ _ H.2.2⟩
        · exact ⟨H.1, H.2.1, H.2.2.1, hm _ _ H.2.2.2⟩
        · exact H.elim
      case own =>
        split at H
        · exact hm _ _ H
        · exact ⟨H.1, H.2.1, hm _ _ H.2.2⟩
        · exact ⟨H.1, H.2.1, hm _ _ H.2.2⟩
        · exact H.elim
      case osl =>
        refine ⟨H.1, ?_⟩
        have H := H.2
        split at H
        · exact ⟨H.1, H.2.1, hm _ _ H.2.2⟩
        · exact H.elim
    case eqa m neg x y =>
      generalize e x = v at H ⊢
      generalize e y = u at H ⊢
      cases v <;> cases u <;> simp only at H ⊢
      obtain ⟨q, g1, k1⟩ := eqcs_one H.2.2
      exact ⟨H.1, H.2.1, k1 _ (hm _ _ g1)⟩
    case clr sz x =>
      generalize e x = v at H ⊢
      cases v <;> simp only at H ⊢
      split at H
      · exact ⟨H.1, H.2.1, H.2.2.1, hm _ _ H.2.2.2⟩
      · exact H.elim
    case bin op x y =>
      obtain ⟨r, h1, h2⟩ := abin_one H
      have : ∀ {A B : AV → Prop} {x y : AV}, (∀ r, A r → B r) → abin op x y A → abin op x y B := fun {A B x y} hab hh => by
        cases x <;> cases y <;> simp only [abin] at hh ⊢
        cases op <;> simp only [ishift, ibin] at hh ⊢ <;> first | exact ⟨hh.1, hh.2.1, hab _ hh.2.2⟩ | exact ⟨hh.1, hab _ hh.2⟩ | exact hab _ hh
      exact this (fun r hr => hm _ _ hr) H
    case binb neg x y =>
      generalize e x = v at H ⊢
      generalize e y = u at H ⊢
      cases v <;> cases u <;> simp only at H ⊢ <;> exact hm _ _ H
    case eqz tag neg x y =>
      unfold aeqz at H ⊢
      split at H <;> first | exact hm _ _ H | exact H.elim
    case un op x =>
      generalize e x = v at H ⊢
      cases op <;> cases v <;> simp only at H ⊢ <;> exact hm _ _ H
    case conv k x =>
      generalize e x = v at H ⊢
      cases v <;> simp only at H ⊢ <;> exact hm _ _ H
    case mkf => exact hm _ _ H
    case msl sz bytes zs x y =>
      split at H
      · rename_i h1 h2
        exact ⟨H.1, H.2.1, H.2.2.1, H.2.2.2.1, H.2.2.2.2.1, hm _ _ H.2.2.2.2.2⟩
      · exact H.elim
    case len x =>
      generalize e x = v at H ⊢
      cases v <;> simp only at H ⊢ <;> exact hm _ _ H
    case app sz bytes x y =>
      refine ⟨H.1, ?_⟩
      obtain ⟨m, c', hs, H⟩ := asrc_e H.2
      refine asrc_i hs ?_
      generalize e x = v at H ⊢
      cases v <;> simp only at H ⊢
      case sl => exact ⟨H.1, H.2.1, fun h0 => hm _ _ (H.2.2.1 h0), fun h0 => ⟨(H.2.2.2 h0).1, (H.2.2.2 h0).2.1, hm _ _ (H.2.2.2 h0).2.2⟩⟩
      case own =>
        split at H
        · exact ⟨H.1, H.2.1, H.2.2.1, H.2.2.2.1, hm _ _ H.2.2.2.2⟩
        · exact H.elim
    case mx x y =>
      generalize e x = v at H ⊢
      generalize e y = u at H ⊢
      cases v <;> cases u <;> simp only at H ⊢ <;> exact hm _ _ H
    case mn x y =>
      generalize e x = v at H ⊢
      generalize e y = u at H ⊢
      cases v <;> cases u <;> simp only at H ⊢ <;> exact hm _ _ H
    case ext x i =>
      generalize e x = v at H ⊢
      cases v <;> simp only at H ⊢
      exact ⟨H.1, hm _ _ H.2⟩
  exact key h1 (fun a b ⟨ha, hb⟩ => by rw [ha, hb]; exact h3)
theorem asplit_mono (o : AOp) {e : AX → AV} {h : List AB} {K K' : AV → List AB → Prop} (hk : ∀ r h', K r h' → K' r h') (H : asplit o e h K) : asplit o e h K' := by
  cases o <;> simp only [asplit] at H ⊢
  case app sz b x y =>
    refine ⟨H.1, ?_⟩
    obtain ⟨m, c', hs, H⟩ := asrc_e H.2
    refine asrc_i hs ?_
    generalize e x = vx at H ⊢
    split at H
    · split at H
      · exact ⟨H.1, H.2.1, H.2.2.1, H.2.2.2.1, hk _ _ H.2.2.2.2.1, hk _ _ H.2.2.2.2.2⟩
      · exact H.elim
    · exact H.elim
/-- An operation that does not change the call's own blocks: one value, the same blocks; and, if it does not look at them, in any. -/
theorem aop_quiet (o : AOp) (hc : o.chg = false) {e : AX → AV} {h : List AB} {K : AV → List AB → Prop} (H : aop o e h K) : ∃ r, K r h ∧ aop o e h (fun a b => a = r ∧ b = h) ∧ (o.rds = false → ∀ h2 (K2 : AV → List AB → Prop), K2 r h2 → aop o e h2 K2) := by
  obtain ⟨r, h', h1, h2⟩ := aop_one o e h K H
  have key : h' = h ∧ (o.rds = false → ∀ h2 (K2 : AV → List AB → Prop), K2 r h2 → aop o e h2 K2) := by
    clear H h2
    cases o <;> simp only [AOp.chg, Bool.true_eq_false, reduceCtorEq] at hc <;> simp only [aop] at h1 ⊢
    case mv => obtain ⟨rfl, rfl⟩ := h1; exact ⟨rfl, fun _ h2 K2 hk => hk⟩
    case pick c a b =>
      generalize e c = v at h1 ⊢
      cases v <;> simp only at h1 ⊢
      case bool q => cases q <;> (obtain ⟨rfl, rfl⟩ := h1; exact ⟨rfl, fun _ h2 K2 hk => hk⟩)
    case nilck x =>
      generalize e x = v at h1 ⊢
      cases v <;> simp only at h1 ⊢ <;> (obtain ⟨rfl, rfl⟩ := h1; exact ⟨rfl, fun _ h2 K2 hk => hk⟩)
    case build => obtain ⟨a, b, rfl, rfl⟩ := h1; exact ⟨rfl, fun _ h2 K2 hk => ⟨a, b, hk⟩⟩
    case bsl => obtain ⟨a, b, rfl, rfl⟩ := h1; exact ⟨rfl, fun _ h2 K2 hk => ⟨a, b, hk⟩⟩
    case ld m x =>
      refine ⟨?_, fun hr => by cases hr⟩
      cases m <;> simp only at h1 <;> generalize e x = v at h1 <;> cases v <;> simp only at h1
      case none.ip => exact h1.2.2.symm
      case some.ip => exact h1.2.2.symm
      case none.ptr => split at h1 <;> first | exact h1.2.2.symm | exact h1.elim
      case some.ptr => split at h1 <;> first | exact h1.2.2.symm | exact h1.elim
      case none.rp => split at h1 <;> first | exact h1.2.2.2.2.symm | exact h1.elim
      case some.rp => split at h1 <;> first | exact h1.2.2.2.2.symm | exact h1.elim
    case fa x off =>
      generalize e x = v at h1 ⊢
      cases v <;> simp only at h1 ⊢ <;> (obtain ⟨rfl, rfl⟩ := h1; exact ⟨rfl, fun _ h2 K2 hk => hk⟩)
    case fld x off m =>
      generalize e x = v at h1 ⊢
      cases v <;> simp only at h1 ⊢
      case agg => cases m <;> (obtain ⟨a, rfl, rfl⟩ := h1; exact ⟨rfl, fun _ h2 K2 hk => ⟨a, hk⟩⟩)
    case ia sz x i =>
      generalize e x = v at h1 ⊢
      generalize e i = j at h1 ⊢
      cases j <;> cases v <;> simp only at h1 ⊢
      · obtain ⟨a, b, c, d, rfl, rfl⟩ := h1; exact ⟨rfl, fun _ h2 K2 hk => ⟨a, b, c, d, hk⟩⟩
      · obtain ⟨a, b, rfl, rfl⟩ := h1; exact ⟨rfl, fun _ h2 K2 hk => ⟨a, b, hk⟩⟩
      · obtain ⟨a, b, c, rfl, rfl⟩ := h1; exact ⟨rfl, fun _ h2 K2 hk => ⟨a, b, c, hk⟩⟩
    case slc sz x lo hi =>
      generalize e x = v at h1 ⊢
      cases v <;> simp only at h1 ⊢
      case sl =>
        obtain ⟨h0, h1⟩ := h1
        generalize lo.map e = l at h1 ⊢
        generalize hi.map e = m at h1 ⊢
        split at h1
        · obtain ⟨rfl, rfl⟩ := h1; exact ⟨rfl, fun _ h2 K2 hk => ⟨h0, hk⟩⟩
        · obtain ⟨a, b, rfl, rfl⟩ := h1; exact ⟨rfl, fun _ h2 K2 hk => ⟨h0, a, b, hk⟩⟩
        · obtain ⟨a, b, rfl, rfl⟩ := h1; exact ⟨rfl, fun _ h2 K2 hk => ⟨h0, a, b, hk⟩⟩
        · obtain ⟨a, b, c, rfl, rfl⟩ := h1; exact ⟨rfl, fun _ h2 K2 hk => ⟨h0, a, b, c, hk⟩⟩
        · exact h1.elim
      case own =>
        generalize lo.map e = l at h1 ⊢
        generalize hi.map e = m at h1 ⊢
        split at h1
        · obtain ⟨rfl, rfl⟩ := h1; exact ⟨rfl, fun _ h2 K2 hk => hk⟩
        · obtain ⟨a, b, rfl, rfl⟩ := h1; exact ⟨rfl, fun _ h2 K2 hk => ⟨a, b, hk⟩⟩
        · obtain ⟨a, b, rfl, rfl⟩ := h1; exact ⟨rfl, fun _ h2 K2 hk => ⟨a, b, hk⟩⟩
        · exact h1.elim
      case osl =>
        obtain ⟨h0, h1⟩ := h1
        generalize lo.map e = l at h1 ⊢
        generalize hi.map e = m at h1 ⊢
        split at h1
        · obtain ⟨a, b, rfl, rfl⟩ := h1; exact ⟨rfl, fun _ h2 K2 hk => ⟨h0, a, b, hk⟩⟩
        · exact h1.elim
    case eqa m neg x y =>
      generalize e x = v at h1 ⊢
      generalize e y = u at h1 ⊢
      cases v <;> cases u <;> simp only at h1 ⊢
      obtain ⟨a, b, h1⟩ := h1
      obtain ⟨q, ⟨rfl, rfl⟩, k1⟩ := eqcs_one h1
      exact ⟨rfl, fun _ h2 K2 hk => ⟨a, b, k1 _ hk⟩⟩
    case bin op x y =>
      obtain ⟨r', a, b⟩ := abin_one h1
      obtain ⟨rfl, rfl⟩ := b
      refine ⟨rfl, fun _ h2 K2 hk => ?_⟩
      have : ∀ {A B : AV → Prop} {x y : AV}, (∀ r, A r → B r) → abin op x y A → abin op x y B := fun {A B x y} hab hh => by
        cases x <;> cases y <;> simp only [abin] at hh ⊢
        cases op <;> simp only [ishift, ibin] at hh ⊢ <;> first | exact ⟨hh.1, hh.2.1, hab _ hh.2.2⟩ | exact ⟨hh.1, hab _ hh.2⟩ | exact hab _ hh
      exact this (fun r hr => by rw [hr]; exact hk) a
    case binb neg x y =>
      generalize e x = v at h1 ⊢
      generalize e y = u at h1 ⊢
      cases v <;> cases u <;> simp only at h1 ⊢ <;> (obtain ⟨rfl, rfl⟩ := h1; exact ⟨rfl, fun _ h2 K2 hk => hk⟩)
    case eqz tag neg x y =>
      obtain ⟨q, a, b⟩ := aeqz_one h1
      obtain ⟨rfl, rfl⟩ := b
      refine ⟨rfl, fun _ h2 K2 hk => ?_⟩
      unfold aeqz at a ⊢
      split at a <;> first | (obtain rfl := a; exact hk) | exact a.elim
    case un op x =>
      generalize e x = v at h1 ⊢
      cases op <;> cases v <;> simp only at h1 ⊢ <;> (obtain ⟨rfl, rfl⟩ := h1; exact ⟨rfl, fun _ h2 K2 hk => hk⟩)
    case conv k x =>
      generalize e x = v at h1 ⊢
      cases v <;> simp only at h1 ⊢ <;> (obtain ⟨rfl, rfl⟩ := h1; exact ⟨rfl, fun _ h2 K2 hk => hk⟩)
    case mkf => obtain ⟨rfl, rfl⟩ := h1; exact ⟨rfl, fun _ h2 K2 hk => hk⟩
    case len x =>
      generalize e x = v at h1 ⊢
      cases v <;> simp only at h1 ⊢ <;> (obtain ⟨rfl, rfl⟩ := h1; exact ⟨rfl, fun _ h2 K2 hk => hk⟩)
    case mx x y =>
      generalize e x = v at h1 ⊢
      generalize e y = u at h1 ⊢
      cases v <;> cases u <;> simp only at h1 ⊢ <;> (obtain ⟨rfl, rfl⟩ := h1; exact ⟨rfl, fun _ h2 K2 hk => hk⟩)
    case mn x y =>
      generalize e x = v at h1 ⊢
      generalize e y = u at h1 ⊢
      cases v <;> cases u <;> simp only at h1 ⊢ <;> (obtain ⟨rfl, rfl⟩ := h1; exact ⟨rfl, fun _ h2 K2 hk => hk⟩)
    case ext x i =>
      generalize e x = v at h1 ⊢
      cases v <;> simp only at h1 ⊢
      obtain ⟨a, rfl, rfl⟩ := h1; exact ⟨rfl, fun _ h2 K2 hk => ⟨a, hk⟩⟩
  obtain ⟨rfl, k2⟩ := key
  exact ⟨r, h2, h1, k2⟩
end Go.Proofs.Ytomkjfhepfinhaa
