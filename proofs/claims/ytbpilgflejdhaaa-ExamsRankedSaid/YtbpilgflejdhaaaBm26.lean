/- A call's contract at its place: the caller's other blocks are left alone -/
import Derived.Test.YtbpilgflejdhaaaBm25

namespace Go.Proofs.Ytbpilgflejdhaaa
open Go.RowKit

section
variable {N : Nat} {sel : List Nat}
theorem puts_len : ∀ (ds : List Nat) (xs H : List AB), ds.length ≤ xs.length → (puts N sel ds xs H).length = H.length + (xs.length - ds.length)
  | [], xs, H, _ => by simp [puts]
  | _ :: _, [], H, h => by simp at h
  | d :: ds, x :: xs, H, h => by
    simp only [puts]
    rw [puts_len ds xs _ (by simpa using h)]
    simp
theorem puts_out : ∀ (ds : List Nat) (xs H : List AB) (d : Nat), d < H.length → d ∉ ds → (puts N sel ds xs H)[d]? = H[d]?
  | [], xs, H, d, hd, _ => by simp [puts, List.getElem?_append_left hd]
  | _ :: _, [], H, d, _, _ => rfl
  | d' :: ds, x :: xs, H, d, hd, hn => by
    simp only [puts]
    rw [puts_out ds xs _ d (by simpa using hd) (fun h => hn (List.mem_cons_of_mem _ h))]
    exact List.getElem?_set_ne (fun e => hn (by rw [e]; exact List.mem_cons_self))
theorem puts_new : ∀ (ds : List Nat) (xs H : List AB) (i : Nat), ds.length ≤ xs.length → ds.length ≤ i → (puts N sel ds xs H)[H.length + (i - ds.length)]? = (xs[i]?).map (renB sel N)
  | [], xs, H, i, _, _ => by simp [puts, List.getElem?_append_right (show H.length ≤ H.length + i by omega)]
  | _ :: _, [], H, i, h, _ => by simp at h
  | d :: ds, x :: xs, H, i, h, hi => by
    simp only [puts]
    obtain ⟨i, rfl⟩ : ∃ j, i = j + 1 := ⟨i - 1, by simp at hi; omega⟩
    have := puts_new ds xs (H.set d (renB sel N x)) i (by simpa using h) (by simpa using hi)
    simp only [List.length_set] at this
    rw [show i + 1 - (d :: ds).length = i - ds.length by simp]
    rw [this]
    rfl
theorem puts_sel : ∀ (ds : List Nat) (xs H : List AB) (i d : Nat), ds.Nodup → ds.length ≤ xs.length → ds[i]? = some d → d < H.length → (puts N sel ds xs H)[d]? = (xs[i]?).map (renB sel N)
  | [], xs, H, i, d, _, _, h, _ => by simp at h
  | _ :: _, [], H, i, d, _, h, _, _ => by simp at h
  | d' :: ds, x :: xs, H, i, d, hnd, hl, hi, hd => by
    simp only [puts]
    rw [List.nodup_cons] at hnd
    cases i with
    | zero =>
      simp only [List.getElem?_cons_zero, Option.some.injEq] at hi
      subst hi
      rw [puts_out ds xs _ d' (by simpa using hd) hnd.1]
      simp [hd]
    | succ i => exact puts_sel ds xs _ i d hnd.2 (by simpa using hl) hi (by simpa using hd)
end

def LnL (σ : Nat → Nat → Prop) (Bp : Nat → Prop) (H : List AB) : List AV → List AV → Prop
  | [], [] => True
  | x :: xs, y :: ys => Ln σ Bp H x y ∧ LnL σ Bp H xs ys
  | _, _ => False
theorem LnL.get {σ : Nat → Nat → Prop} {Bp : Nat → Prop} {H : List AB} : ∀ {xs ys : List AV}, LnL σ Bp H xs ys → xs.length = ys.length ∧ ∀ (i : Nat) (y : AV), ys[i]? = some y → ∃ x, xs[i]? = some x ∧ Ln σ Bp H x y
  | [], [], _ => ⟨rfl, fun i y h => by simp at h⟩
  | [], _ :: _, h => h.elim
  | _ :: _, [], h => h.elim
  | x :: xs, y :: ys, h => by
    obtain ⟨h1, h2⟩ := h
    obtain ⟨a, b⟩ := LnL.get h2
    refine ⟨by simp [a], fun i z hz => ?_⟩
    cases i with
    | zero => simp only [List.getElem?_cons_zero, Option.some.injEq] at hz; subst hz; exact ⟨x, rfl, h1⟩
    | succ i => exact b i z hz

theorem ACall.at {P : Program} {f : FuncId} {xs xs' : List AV} {H h' : List AB} {K' K : AV → List AB → Prop} (sel B : List Nat) (con : ACall P f xs' h' K')
    (hnd : sel.Nodup) (hlen : sel.length = h'.length) (hBs : ∀ d ∈ B, d ∉ sel)
    (hh : ∀ (i d : Nat) (x : AB), sel[i]? = some d → h'[i]? = some x → ∃ y, H[d]? = some y ∧ x.live ∧ LnB (fun d i => sel[i]? = some d) (fun _ => False) H y x)
    (hx : LnL (fun d i => sel[i]? = some d) (fun d => d ∈ B) H xs xs')
    (hK : ∀ r h2, K' r h2 → sel.length ≤ h2.length ∧ (B = [] ∨ (r.flat ∧ ∀ x ∈ h2, x.flat)) ∧ K (ren sel H.length r) (put sel H h2)) : ACall P f xs H K := by
  refine ⟨con.1, fun F g w vs k hs hv => ?_⟩
  let gc : GM := fun i => (sel[i]?).bind g
  let Fc : Nat → Prop := fun b => F b ∨ ∃ d cap, live H d ∧ d ∉ sel ∧ d ∉ B ∧ g d = some (b, cap)
  have selH : ∀ i d, sel[i]? = some d → ∃ x y, h'[i]? = some x ∧ H[d]? = some y ∧ x.live ∧ LnB (fun d i => sel[i]? = some d) (fun _ => False) H y x := fun i d hd => by
    have hi : i < sel.length := by
      rcases Nat.lt_or_ge i sel.length with h | h
      · exact h
      · rw [List.getElem?_eq_none h] at hd; cases hd
    have hx : h'[i]? = some h'[i] := List.getElem?_eq_getElem (by omega)
    obtain ⟨y, h1, h2, h3⟩ := hh i d _ hd hx
    exact ⟨_, y, hx, h1, h2, h3⟩
  have selLive : ∀ i d, sel[i]? = some d → live H d := fun i d hd => by
    obtain ⟨x, y, _, h2, h3, h4⟩ := selH i d hd
    exact ⟨y, h2, h4.live h3⟩
  have liveSel : ∀ i, live h' i → ∃ d, sel[i]? = some d ∧ live H d := fun i ⟨x, hx, hl⟩ => by
    have hi : i < h'.length := by
      rcases Nat.lt_or_ge i h'.length with h | h
      · exact h
      · rw [List.getElem?_eq_none h] at hx; cases hx
    have hd : sel[i]? = some sel[i] := List.getElem?_eq_getElem (by omega)
    exact ⟨_, hd, selLive i _ hd⟩
  have gcs : ∀ i p, gc i = some p → ∃ d, sel[i]? = some d ∧ g d = some p := fun i p hp => by
    simp only [gc] at hp
    cases hd : sel[i]? with
    | none => rw [hd] at hp; cases hp
    | some d => rw [hd] at hp; exact ⟨d, rfl, hp⟩
  have gcs' : ∀ i d, sel[i]? = some d → gc i = g d := fun i d hd => by simp only [gc, hd, Option.bind_some]
  have hOc : ∀ b, MO gc h' b → ∃ d cap, d ∈ sel ∧ live H d ∧ g d = some (b, cap) := fun b ⟨i, cap, hl, hg⟩ => by
    obtain ⟨d, h1, h2⟩ := gcs i _ hg
    exact ⟨d, cap, List.mem_of_getElem? h1, selLive i d h1, h2⟩
  have hMc : ∀ b, MM Fc gc h' b → MM F g H b := by
    rintro b ((hF | ⟨d, cap, h1, _, _, h4⟩) | hO)
    · exact .inl hF
    · exact .inr ⟨d, cap, h1, h4⟩
    · obtain ⟨d, cap, _, h1, h2⟩ := hOc b hO
      exact .inr ⟨d, cap, h1, h2⟩
  have hσ : ∀ d i p, sel[i]? = some d → g d = some p → gc i = some p := fun d i p h1 h2 => by rw [gcs' i d h1]; exact h2
  have notO : ∀ d b cap, live H d → d ∉ sel → g d = some (b, cap) → ¬ MO gc h' b := fun d b cap hl hn hg hO => by
    obtain ⟨d', cap', h1, h2, h3⟩ := hOc b hO
    exact hn (k.inj d d' b cap cap' hl h2 hg h3 ▸ h1)
  have hB : ∀ d b cap, d ∈ B → live H d → g d = some (b, cap) → ¬ MM Fc gc h' b := by
    rintro d b cap hdB hl hg ((hF | ⟨d', cap', h1, _, h3, h4⟩) | hO)
    · exact (k.fr b hF).2 ⟨d, cap, hl, hg⟩
    · exact h3 (k.inj d d' b cap cap' hl h1 hg h4 ▸ hdB)
    · exact notO d b cap hl (hBs d hdB) hg hO
  have kc : HOK Fc gc w h' := by
    refine HOK.of_all (fun i hi => ?_) (fun i hl => ?_) (fun i j b c c' h1 h2 e1 e2 => ?_) (fun i b cap x hx hg => ?_) (fun b hF => ?_)
    · simp only [gc, List.getElem?_eq_none (show sel.length ≤ i by omega), Option.bind_none]
    · obtain ⟨d, h1, h2⟩ := liveSel i hl
      obtain ⟨p, hp⟩ := k.lv d h2
      exact ⟨p, hσ d i p h1 hp⟩
    · obtain ⟨d, a1, a2⟩ := gcs i _ e1
      obtain ⟨d', b1, b2⟩ := gcs j _ e2
      have := k.inj d d' b c c' (selLive i d a1) (selLive j d' b1) a2 b2
      subst this
      have hi : i < sel.length := by
        rcases Nat.lt_or_ge i sel.length with h | h
        · exact h
        · rw [List.getElem?_eq_none h] at a1; cases a1
      exact (List.getElem?_inj hi hnd).1 (a1.trans b1.symm)
    · obtain ⟨d, a1, a2⟩ := gcs i _ hg
      obtain ⟨x2, y, a3, a4, a5, a6⟩ := selH i d a1
      rw [hx] at a3
      injection a3 with a3
      subst a3
      exact a6.ok k hMc hσ (fun _ _ _ h => h.elim) (k.all a4 a2)
    · rcases hF with hF | ⟨d, cap, h1, h2, h3, h4⟩
      · exact ⟨(k.fr b hF).1, fun hO => by obtain ⟨d, cap, _, h1, h2⟩ := hOc b hO; exact (k.fr b hF).2 ⟨d, cap, h1, h2⟩⟩
      · exact ⟨k.olt ⟨d, cap, h1, h4⟩, notO d b cap h1 h2 h4⟩
  obtain ⟨hl0, hget⟩ := hx.get
  refine (con.2 Fc gc w vs kc (by omega) (fun i y hy => ?_)).mono ?_
  · obtain ⟨x, h1, h2⟩ := hget i y hy
    exact h2.rep k hMc hσ hB (hv i x h1)
  rintro en w' ⟨v, r, h2, g2, rfl, T, hr, hk⟩
  obtain ⟨hle, hfl, hKr⟩ := hK r h2 hk
  have selLt : ∀ i d, sel[i]? = some d → d < H.length := fun i d hd => by
    obtain ⟨y, hy, _⟩ := selLive i d hd
    rcases Nat.lt_or_ge d H.length with h | h
    · exact h
    · rw [List.getElem?_eq_none h] at hy; cases hy
  let G : GM := fun d => if d < H.length then g d else g2 (d - H.length + sel.length)
  have Gold : ∀ d, d < H.length → G d = g d := fun d hd => by simp only [G, if_pos hd]
  have tau_sel : ∀ i d, sel[i]? = some d → tau sel H.length i = d := fun i d hd => by simp only [tau, hd]
  have tau_new : ∀ i, sel.length ≤ i → tau sel H.length i = H.length + (i - sel.length) := fun i hi => by simp only [tau, List.getElem?_eq_none hi]
  have Gtau : ∀ i p, g2 i = some p → G (tau sel H.length i) = some p := fun i p hp => by
    rcases Nat.lt_or_ge i sel.length with hi | hi
    · have hd : sel[i]? = some sel[i] := List.getElem?_eq_getElem hi
      rw [tau_sel i _ hd, Gold _ (selLt i _ hd)]
      obtain ⟨q, hq⟩ := k.lv _ (selLive i _ hd)
      have := T.gle i q (hσ _ i q hd hq)
      rw [hp] at this
      injection this with this
      rw [this]; exact hq
    · rw [tau_new i hi]
      simp only [G, if_neg (show ¬ H.length + (i - sel.length) < H.length by omega)]
      rw [show H.length + (i - sel.length) - H.length + sel.length = i by omega]
      exact hp
  have len2 : (put sel H h2).length = H.length + (h2.length - sel.length) := puts_len sel h2 H hle
  have at_tau : ∀ i, (put sel H h2)[tau sel H.length i]? = (h2[i]?).map (renB sel H.length) := fun i => by
    rcases Nat.lt_or_ge i sel.length with hi | hi
    · have hd : sel[i]? = some sel[i] := List.getElem?_eq_getElem hi
      rw [tau_sel i _ hd]
      exact puts_sel sel h2 H i _ hnd hle hd (selLt i _ hd)
    · rw [tau_new i hi]
      exact puts_new sel h2 H i hle hi
  have at_out : ∀ d, d < H.length → d ∉ sel → (put sel H h2)[d]? = H[d]? := fun d hd hn => puts_out sel h2 H d hd hn
  have ofD : ∀ d x, (put sel H h2)[d]? = some x → (∃ i y, d = tau sel H.length i ∧ h2[i]? = some y ∧ x = renB sel H.length y) ∨ (d < H.length ∧ d ∉ sel ∧ H[d]? = some x) := fun d x hx => by
    by_cases hd : d < H.length
    · by_cases hs : d ∈ sel
      · obtain ⟨i, hi⟩ := List.getElem?_of_mem hs
        have := at_tau i
        rw [tau_sel i d hi, hx] at this
        cases hy : h2[i]? with
        | none => rw [hy] at this; cases this
        | some y =>
          rw [hy] at this
          injection this with this
          exact .inl ⟨i, y, (tau_sel i d hi).symm, hy, this⟩
      · exact .inr ⟨hd, hs, by rw [← at_out d hd hs]; exact hx⟩
    · have e1 : d = tau sel H.length (d - H.length + sel.length) := by rw [tau_new _ (by omega)]; omega
      have := at_tau (d - H.length + sel.length)
      rw [← e1, hx] at this
      cases hy : h2[d - H.length + sel.length]? with
      | none => rw [hy] at this; cases this
      | some y =>
        rw [hy] at this
        injection this with this
        exact .inl ⟨_, y, e1, hy, this⟩
  have renLive : ∀ y, (renB sel H.length y).live ↔ y.live := fun y => by cases y <;> exact Iff.rfl
  have liveD : ∀ d, live (put sel H h2) d → (∃ i, d = tau sel H.length i ∧ live h2 i) ∨ (d < H.length ∧ d ∉ sel ∧ live H d) := fun d ⟨x, hx, hl⟩ => by
    rcases ofD d x hx with ⟨i, y, h1, h3, rfl⟩ | ⟨h1, h3, h4⟩
    · exact .inl ⟨i, h1, y, h3, (renLive y).1 hl⟩
    · exact .inr ⟨h1, h3, x, h4, hl⟩
  have Gt : ∀ i, live h2 i → ∀ p, G (tau sel H.length i) = some p → g2 i = some p := fun i hl p hp => by
    obtain ⟨q, hq⟩ := T.ok.lv i hl
    rw [Gtau i q hq] at hp
    rw [hq]; exact hp
  have outO : ∀ d b cap, live H d → d ∉ sel → g d = some (b, cap) → ¬ MO g2 h2 b := fun d b cap hl hn hg hO => by
    rcases T.new b hO with h | h
    · exact notO d b cap hl hn hg h
    · have := k.olt ⟨d, cap, hl, hg⟩; omega
  have MOof : ∀ b, MO G (put sel H h2) b → MO g2 h2 b ∨ ∃ d cap, d < H.length ∧ d ∉ sel ∧ live H d ∧ g d = some (b, cap) := fun b ⟨d, cap, hl, hg⟩ => by
    rcases liveD d hl with ⟨i, rfl, hli⟩ | ⟨h1, h3, h4⟩
    · exact .inl ⟨i, cap, hli, Gt i hli _ hg⟩
    · exact .inr ⟨d, cap, h1, h3, h4, by rw [← Gold d h1]; exact hg⟩
  have MOold : ∀ b, b < w.heap.size → MO G (put sel H h2) b → MO g H b := fun b hb hO => by
    rcases MOof b hO with h | ⟨d, cap, h1, _, h3, h4⟩
    · rcases T.new b h with h | h
      · obtain ⟨d, cap, _, h1, h2⟩ := hOc b h
        exact ⟨d, cap, h1, h2⟩
      · omega
    · exact ⟨d, cap, h3, h4⟩
  have trans : ∀ (v : AV) (u : Value), (B = [] ∨ v.flat) → rep (MM Fc g2 h2) w' v g2 u → rep (MM F G (put sel H h2)) w' (ren sel H.length v) G u := fun v u hf h => by
    have h1 : rep (MM F G (put sel H h2)) w' v g2 u := by
      rcases hf with hB0 | hf
      · refine rep_mono (Chg.refl _ w') (fun b _ hM => ?_) v (GM.le_refl _) h
        rcases hM with hF | hO
        · exact .inl (.inl hF)
        · rcases MOof b hO with h | ⟨d, cap, a1, a2, a3, a4⟩
          · exact .inr h
          · exact .inl (.inr ⟨d, cap, a3, a2, by rw [hB0]; simp, a4⟩)
      · exact rep_flat v hf h
    exact rep_ren v Gtau h1
  have GT : Tr F g H w G (put sel H h2) w' := by
    refine ⟨HOK.of_all (fun d hd => ?_) (fun d hl => ?_) (fun d d' b c c' l1 l2 e1 e2 => ?_) (fun d b cap x hx hg => ?_) (fun b hF => ?_), fun d p hp => ?_, ?_, fun b hO => ?_⟩
    · rw [len2] at hd
      simp only [G, if_neg (show ¬ d < H.length by omega)]
      exact T.ok.dom _ (by omega)
    · rcases liveD d hl with ⟨i, rfl, hli⟩ | ⟨h1, h3, h4⟩
      · obtain ⟨p, hp⟩ := T.ok.lv i hli
        exact ⟨p, Gtau i p hp⟩
      · rw [Gold d h1]; exact k.lv d h4
    · rcases liveD d l1 with ⟨i, rfl, hli⟩ | ⟨h1, h3, h4⟩ <;> rcases liveD d' l2 with ⟨j, rfl, hlj⟩ | ⟨h1', h3', h4'⟩
      · have := T.ok.inj i j b c c' hli hlj (Gt i hli _ e1) (Gt j hlj _ e2)
        rw [this]
      · rw [Gold d' h1'] at e2
        exact (outO d' b c' h4' h3' e2 ⟨i, c, hli, Gt i hli _ e1⟩).elim
      · rw [Gold d h1] at e1
        exact (outO d b c h4 h3 e1 ⟨j, c', hlj, Gt j hlj _ e2⟩).elim
      · rw [Gold d h1] at e1
        rw [Gold d' h1'] at e2
        exact k.inj d d' b c c' h4 h4' e1 e2
    · by_cases hxl : x.live
      · rcases ofD d x hx with ⟨i, y, rfl, hy, rfl⟩ | ⟨h1, h3, h4⟩
        · have hyl : live h2 i := ⟨y, hy, (renLive y).1 hxl⟩
          have hg2 := Gt i hyl _ hg
          have hall := T.ok.all hy hg2
          have hyf : B = [] ∨ y.flat := hfl.imp id (fun h => h.2 y (List.mem_of_getElem? hy))
          cases y with
          | dead => trivial
          | box m c =>
            obtain ⟨cs, t, b1, b2, b3⟩ := hall
            refine ⟨cs, t, b1, b2, fun j hj => ?_⟩
            obtain ⟨u, c1, c2, c3⟩ := b3 j hj
            exact ⟨u, c1, c2, by rw [tab_get hj]; exact trans _ _ (hyf.imp id (fun h => h j hj)) c3⟩
          | row n sz c =>
            obtain ⟨b0, b0', cs, t, b1, b2, b3⟩ := hall
            refine ⟨b0, b0', cs, t, b1, b2, fun kk hkk o ho => ?_⟩
            obtain ⟨u, c1, c2, c3⟩ := b3 kk hkk o ho
            refine ⟨u, c1, c2, ?_⟩
            rcases hyf with hB0 | hf
            · refine rep_mono (Chg.refl _ w') (fun b _ hM => ?_) _ (GM.le_refl _) c3
              rcases hM with hF | hO
              · exact .inl (.inl hF)
              · rcases MOof b hO with h | ⟨d, cap, a1, a2, a3, a4⟩
                · exact .inr h
                · exact .inl (.inr ⟨d, cap, a3, a2, by rw [hB0]; simp, a4⟩)
            · exact rep_flat _ (hf kk hkk o ho) c3
          | mp kt L =>
            obtain ⟨es, b1, b2⟩ := hall
            refine ⟨es, b1, b2.len, fun j hj => ?_, b2.nod, b2.one⟩
            obtain ⟨e, c1, c2, c3, c4⟩ := b2.ent j hj
            refine ⟨e, c1, c2, c3, ?_⟩
            rcases hyf with hB0 | hf
            · refine rep_mono (Chg.refl _ w') (fun b _ hM => ?_) _ (GM.le_refl _) c4
              rcases hM with hF | hO
              · exact .inl (.inl hF)
              · rcases MOof b hO with h | ⟨d, cap, a1, a2, a3, a4⟩
                · exact .inr h
                · exact .inl (.inr ⟨d, cap, a3, a2, by rw [hB0]; simp, a4⟩)
            · exact rep_flat _ (hf (L.getD j default) (by simp only [List.getD, List.getElem?_eq_getElem hj, Option.getD_some]; exact List.getElem_mem hj)) c4
          | mit m n s =>
            obtain ⟨b1, b2, mb, b3, b4⟩ := hall
            exact ⟨b1, b2, mb, trans _ _ (hyf.imp id (fun h => h)) b3, b4⟩
          | rwg n sz c =>
            obtain ⟨b0, b0', cs, t, b1, b2, b3⟩ := hall
            refine ⟨b0, b0', cs, t, b1, b2, fun kk hkk o ho => ?_⟩
            obtain ⟨u, c1, c2, c3⟩ := b3 kk hkk o ho
            exact ⟨u, c1, c2, trans _ _ (hyf.imp id (fun h => h kk hkk o ho)) c3⟩
        · rw [Gold d h1] at hg
          have hl : live H d := ⟨x, h4, hxl⟩
          have hb : b < w.heap.size := k.olt ⟨d, cap, hl, hg⟩
          refine (k.all h4 hg).mono (g' := G) (T.chg.weak (fun y _ hO => ?_)) (fun y hy hM => ?_) (fun d p hp => ?_) (T.chg.block b hb (notO d b cap hl h3 hg))
          · obtain ⟨d, cap, _, a1, a2⟩ := hOc y hO
            exact .inr ⟨d, cap, a1, a2⟩
          · exact hM.imp id (MOold y hy)
          · rw [Gold d (k.lt hp)]; exact hp
      · cases x with
        | dead => trivial
        | box => exact (hxl trivial).elim
        | row => exact (hxl trivial).elim
        | mp => exact (hxl trivial).elim
        | mit => exact (hxl trivial).elim
        | rwg => exact (hxl trivial).elim
    · have hb := (k.fr b hF).1
      exact ⟨Nat.lt_of_lt_of_le hb T.chg.size, fun hO => (k.fr b hF).2 (MOold b hb hO)⟩
    · rw [Gold d (k.lt hp)]; exact hp
    · exact T.chg.weak fun y _ hO => by obtain ⟨d, cap, _, a1, a2⟩ := hOc y hO; exact ⟨d, cap, a1, a2⟩
    · rcases Nat.lt_or_ge b w.heap.size with hb | hb
      · exact .inl (MOold b hb hO)
      · exact .inr hb
  exact ⟨v, _, _, G, rfl, GT, trans r v (hfl.imp id (fun h => h.1)) hr, hKr⟩
end Go.Proofs.Ytbpilgflejdhaaa
