/- A call's contract at its place: the caller's other blocks are left alone / The reading in a form that computes: what is to be shown stands behind names at which the computing stops / Words for the steps of a reading / Calls that are given blocks of the caller / A block of the call's own that is handed on for good: from the call on nobody writes it, and what comes back may keep it / Words that find their own proofs / Turns: small functions. / Turns: loops over lists. / Turns: tasks, rotas and courses as plain data; what the document says of them / Turns: the reference's Check, IsRota, CheckRota, IsRight, Right. -/
import Derived.Test.YtomkjfhepfinhaaPl3
import Derived.IntWalk
import Derived.Test.YtomkjfhepfinhaaProg
import Derived.KernelRfl
set_option linter.unusedSimpArgs false
set_option linter.unusedVariables false
namespace Go.Proofs.Ytomkjfhepfinhaa
open Go.RowKit

section
variable {N : Nat} {sel : List Nat}
theorem puts_len : ∀ (ds : List Nat) (xs H : List AB), ds.length ≤ xs.length → (puts N sel ds xs H).length = H.length + (xs.length - ds.length)
  | [], xs, H, _ => by simp [puts]
  | _ :: _, [], H, h => by simp at h
  | d :: ds, x :: xs, H, h => by
    simp only [puts]
    rw [puts_len ds xs _ (by simpa using h)]
    simp
theorem puts_out : ∀ (ds : List Nat) (xs H : List AB) (d : Nat), d < H.length → d ∉ ds → (puts N sel ds xs H)[d]? = H[d]?
  | [], xs, H, d, hd, _ => by simp [puts, List.getElem?_append_left hd]
  | _ :: _, [], H, d, _, _ => rfl
  | d' :: ds, x :: xs, H, d, hd, hn => by
    simp only [puts]
    rw [puts_out ds xs _ d (by simpa using hd) (fun h => hn (List.mem_cons_of_mem _ h))]
    exact List.getElem?_set_ne (fun e => hn (by rw [e]; exact List.mem_cons_self))
theorem puts_new : ∀ (ds : List Nat) (xs H : List AB) (i : Nat), ds.length ≤ xs.length → ds.length ≤ i → (puts N sel ds xs H)[H.length + (i - ds.length)]? = (xs[i]?).map (renB sel N)
  | [], xs, H, i, _, _ => by simp [puts, List.getElem?_append_right (show H.length ≤ H.length + i by omega)]
  | _ :: _, [], H, i, h, _ => by simp at h
  | d :: ds, x :: xs, H, i, h, hi => by
    simp only [puts]
    obtain ⟨i, rfl⟩ : ∃ j, i = j + 1 := ⟨i - 1, by simp at hi; omega⟩
    have := puts_new ds xs (H.set d (renB sel N x)) i (by simpa using h) (by simpa using hi)
    simp only [List.length_set] at this
    rw [show i + 1 - (d :: ds).length = i - ds.length by simp]
    rw [this]
    rfl
theorem puts_sel : ∀ (ds : List Nat) (xs H : List AB) (i d : Nat), ds.Nodup → ds.length ≤ xs.length → ds[i]? = some d → d < H.length → (puts N sel ds xs H)[d]? = (xs[i]?).map (renB sel N)
  | [], xs, H, i, d, _, _, h, _ => by simp at h
  | _ :: _, [], H, i, d, _, h, _, _ => by simp at h
  | d' :: ds, x :: xs, H, i, d, hnd, hl, hi, hd => by
    simp only [puts]
    rw [List.nodup_cons] at hnd
    cases i with
    | zero =>
      simp only [List.getElem?_cons_zero, Option.some.injEq] at hi
      subst hi
      rw [puts_out ds xs _ d' (by simpa using hd) hnd.1]
      simp [hd]
    | succ i => exact puts_sel ds xs _ i d hnd.2 (by simpa using hl) hi (by simpa using hd)
end

def LnL (σ : Nat → Nat → Prop) (Bp : Nat → Prop) (H : List AB) : List AV → List AV → Prop
  | [], [] => True
  | x :: xs, y :: ys => Ln σ Bp H x y ∧ LnL σ Bp H xs ys
  | _, _ => False
theorem LnL.get {σ : Nat → Nat → Prop} {Bp : Nat → Prop} {H : List AB} : ∀ {xs ys : List AV}, LnL σ Bp H xs ys → xs.length = ys.length ∧ ∀ (i : Nat) (y : AV), ys[i]? = some y → ∃ x, xs[i]? = some x ∧ Ln σ Bp H x y
  | [], [], _ => ⟨rfl, fun i y h => by simp at h⟩
  | [], _ :: _, h => h.elim
  | _ :: _, [], h => h.elim
  | x :: xs, y :: ys, h => by
    obtain ⟨h1, h2⟩ := h
    obtain ⟨a, b⟩ := LnL.get h2
    refine ⟨by simp [a], fun i z hz => ?_⟩
    cases i with
    | zero => simp only [List.getElem?_cons_zero, Option.some.injEq] at hz; subst hz; exact ⟨x, rfl, h1⟩
    | succ i => exact b i z hz

theorem ACall.at {P : Program} {f : FuncId} {xs xs' : List AV} {H h' : List AB} {K' K : AV → List AB → Prop} (sel B : List Nat) (con : ACall P f xs' h' K')
    (hnd : sel.Nodup) (hlen : sel.length = h'.length) (hBs : ∀ d ∈ B, d ∉ sel)
    (hh : ∀ (i d : Nat) (x : AB), sel[i]? = some d → h'[i]? = some x → ∃ y, H[d]? = some y ∧ x.live ∧ LnB (fun d i => sel[i]? = some d) (fun _ => False) H y x)
    (hx : LnL (fun d i => sel[i]? = some d) (fun d => d ∈ B) H xs xs')
    (hK : ∀ r h2, K' r h2 → sel.length ≤ h2.length ∧ (B = [] ∨ (r.flat ∧ ∀ x ∈ h2, x.flat)) ∧ K (ren sel H.length r) (put sel H h2)) : ACall P f xs H K := by
  refine ⟨con.1, fun F g w vs k hs hv => ?_⟩
  let gc : GM := fun i => (sel[i]?).bind g
  let Fc : Nat → Prop := fun b => F b ∨ ∃ d cap, live H d ∧ d ∉ sel ∧ d ∉ B ∧ g d = some (b, cap)
  have selH : ∀ i d, sel[i]? = some d → ∃ x y, h'[i]? = some x ∧ H[d]? = some y ∧ x.live ∧ LnB (fun d i => sel[i]? = some d) (fun _ => False) H y x := fun i d hd => by
    have hi : i < sel.length := by
      rcases Nat.lt_or_ge i sel.length with h | h
      · exact h
      · rw [List.getElem?_eq_none h] at hd; cases hd
    have hx : h'[i]? = some h'[i] := List.getElem?_eq_getElem (by omega)
    obtain ⟨y, h1, h2, h3⟩ := hh i d _ hd hx
    exact ⟨_, y, hx, h1, h2, h3⟩
  have selLive : ∀ i d, sel[i]? = some d → live H d := fun i d hd => by
    obtain ⟨x, y, _, h2, h3, h4⟩ := selH i d hd
    exact ⟨y, h2, h4.live h3⟩
  have liveSel : ∀ i, live h' i → ∃ d, sel[i]? = some d ∧ live H d := fun i ⟨x, hx, hl⟩ => by
    have hi : i < h'.length := by
      rcases Nat.lt_or_ge i h'.length with h | h
      · exact h
      · rw [List.getElem?_eq_none h] at hx; cases hx
    have hd : sel[i]? = some sel[i] := List.getElem?_eq_getElem (by omega)
    exact ⟨_, hd, selLive i _ hd⟩
  have gcs : ∀ i p, gc i = some p → ∃ d, sel[i]? = some d ∧ g d = some p := fun i p hp => by
    simp only [gc] at hp
    cases hd : sel[i]? with
    | none => rw [hd] at hp; cases hp
    | some d => rw [hd] at hp; exact ⟨d, rfl, hp⟩
  have gcs' : ∀ i d, sel[i]? = some d → gc i = g d := fun i d hd => by simp only [gc, hd, Option.bind_some]
  have hOc : ∀ b, MO gc h' b → ∃ d cap, d ∈ sel ∧ live H d ∧ g d = some (b, cap) := fun b ⟨i, cap, hl, hg⟩ => by
    obtain ⟨d, h1, h2⟩ := gcs i _ hg
    exact ⟨d, cap, List.mem_of_getElem? h1, selLive i d h1, h2⟩
  have hMc : ∀ b, MM Fc gc h' b → MM F g H b := by
    rintro b ((hF | ⟨d, cap, h1, _, _, h4⟩) | hO)
    · exact .inl hF
    · exact .inr ⟨d, cap, h1, h4⟩
    · obtain ⟨d, cap, _, h1, h2⟩ := hOc b hO
      exact .inr ⟨d, cap, h1, h2⟩
  have hσ : ∀ d i p, sel[i]? = some d → g d = some p → gc i = some p := fun d i p h1 h2 => by rw [gcs' i d h1]; exact h2
  have notO : ∀ d b cap, live H d → d ∉ sel → g d = some (b, cap) → ¬ MO gc h' b := fun d b cap hl hn hg hO => by
    obtain ⟨d', cap', h1, h2, h3⟩ := hOc b hO
    exact hn (k.inj d d' b cap cap' hl h2 hg h3 ▸ h1)
  have hB : ∀ d b cap, d ∈ B → live H d → g d = some (b, cap) → ¬ MM Fc gc h' b := by
    rintro d b cap hdB hl hg ((hF | ⟨d', cap', h1, _, h3, h4⟩) | hO)
    · exact (k.fr b hF).2 ⟨d, cap, hl, hg⟩
    · exact h3 (k.inj d d' b cap cap' hl h1 hg h4 ▸ hdB)
    · exact notO d b cap hl (hBs d hdB) hg hO
  have kc : HOK Fc gc w h' := by
    refine HOK.of_all (fun i hi => ?_) (fun i hl => ?_) (fun i j b c c' h1 h2 e1 e2 => ?_) (fun i b cap x hx hg => ?_) (fun b hF => ?_)
    · simp only [gc, List.getElem?_eq_none (show sel.length ≤ i by omega), Option.bind_none]
    · obtain ⟨d, h1, h2⟩ := liveSel i hl
      obtain ⟨p, hp⟩ := k.lv d h2
      exact ⟨p, hσ d i p h1 hp⟩
    · obtain ⟨d, a1, a2⟩ := gcs i _ e1
      obtain ⟨d', b1, b2⟩ := gcs j _ e2
      have := k.inj d d' b c c' (selLive i d a1) (selLive j d' b1) a2 b2
      subst this
      have hi : i < sel.length := by
        rcases Nat.lt_or_ge i sel.length with h | h
        · exact h
        · rw [List.getElem?_eq_none h] at a1; cases a1
      exact (List.getElem?_inj hi hnd).1 (a1.trans b1.symm)
    · obtain ⟨d, a1, a2⟩ := gcs i _ hg
      obtain ⟨x2, y, a3, a4, a5, a6⟩ := selH i d a1
      rw [hx] at a3
      injection a3 with a3
      subst a3
      exact a6.ok k hMc hσ (fun _ _ _ h => h.elim) (k.all a4 a2)
    · rcases hF with hF | ⟨d, cap, h1, h2, h3, h4⟩
      · exact ⟨(k.fr b hF).1, fun hO => by obtain ⟨d, cap, _, h1, h2⟩ := hOc b hO; exact (k.fr b hF).2 ⟨d, cap, h1, h2⟩⟩
      · exact ⟨k.olt ⟨d, cap, h1, h4⟩, notO d b cap h1 h2 h4⟩
  obtain ⟨hl0, hget⟩ := hx.get
  refine (con.2 Fc gc w vs kc (by omega) (fun i y hy => ?_)).mono ?_
  · obtain ⟨x, h1, h2⟩ := hget i y hy
    exact h2.rep k hMc hσ hB (hv i x h1)
  rintro en w' ⟨v, r, h2, g2, rfl, T, hr, hk⟩
  obtain ⟨hle, hfl, hKr⟩ := hK r h2 hk
  have selLt : ∀ i d, sel[i]? = some d → d < H.length := fun i d hd => by
    obtain ⟨y, hy, _⟩ := selLive i d hd
    rcases Nat.lt_or_ge d H.length with h | h
    · exact h
    · rw [List.getElem?_eq_none h] at hy; cases hy
  let G : GM := fun d => if d < H.length then g d else g2 (d - H.length + sel.length)
  have Gold : ∀ d, d < H.length → G d = g d := fun d hd => by simp only [G, if_pos hd]
  have tau_sel : ∀ i d, sel[i]? = some d → tau sel H.length i = d := fun i d hd => by simp only [tau, hd]
  have tau_new : ∀ i, sel.length ≤ i → tau sel H.length i = H.length + (i - sel.length) := fun i hi => by simp only [tau, List.getElem?_eq_none hi]
  have Gtau : ∀ i p, g2 i = some p → G (tau sel H.length i) = some p := fun i p hp => by
    rcases Nat.lt_or_ge i sel.length with hi | hi
    · have hd : sel[i]? = some sel[i] := List.getElem?_eq_getElem hi
      rw [tau_sel i _ hd, Gold _ (selLt i _ hd)]
      obtain ⟨q, hq⟩ := k.lv _ (selLive i _ hd)
      have := T.gle i q (hσ _ i q hd hq)
      rw [hp] at this
      injection this with this
      rw [this]; exact hq
    · rw [tau_new i hi]
      simp only [G, if_neg (show ¬ H.length + (i - sel.length) < H.length by omega)]
      rw [show H.length + (i - sel.length) - H.length + sel.length = i by omega]
      exact hp
  have len2 : (put sel H h2).length = H.length + (h2.length - sel.length) := puts_len sel h2 H hle
  have at_tau : ∀ i, (put sel H h2)[tau sel H.length i]? = (h2[i]?).map (renB sel H.length) := fun i => by
    rcases Nat.lt_or_ge i sel.length with hi | hi
    · have hd : sel[i]? = some sel[i] := List.getElem?_eq_getElem hi
      rw [tau_sel i _ hd]
      exact puts_sel sel h2 H i _ hnd hle hd (selLt i _ hd)
    · rw [tau_new i hi]
      exact puts_new sel h2 H i hle hi
  have at_out : ∀ d, d < H.length → d ∉ sel → (put sel H h2)[d]? = H[d]? := fun d hd hn => puts_out sel h2 H d hd hn
  have ofD : ∀ d x, (put sel H h2)[d]? = some x → (∃ i y, d = tau sel H.length i ∧ h2[i]? = some y ∧ x = renB sel H.length y) ∨ (d < H.length ∧ d ∉ sel ∧ H[d]? = some x) := fun d x hx => by
    by_cases hd : d < H.length
    · by_cases hs : d ∈ sel
      · obtain ⟨i, hi⟩ := List.getElem?_of_mem hs
        have := at_tau i
        rw [tau_sel i d hi, hx] at this
        cases hy : h2[i]? with
        | none => rw [hy] at this; cases this
        | some y =>
          rw [hy] at this
          injection this with this
          exact .inl ⟨i, y, (tau_sel i d hi).symm, hy, this⟩
      · exact .inr ⟨hd, hs, by rw [← at_out d hd hs]; exact hx⟩
    · have e1 : d = tau sel H.length (d - H.length + sel.length) := by rw [tau_new _ (by omega)]; omega
      have := at_tau (d - H.length + sel.length)
      rw [← e1, hx] at this
      cases hy : h2[d - H.length + sel.length]? with
      | none => rw [hy] at this; cases this
      | some y =>
        rw [hy] at this
        injection this with this
        exact .inl ⟨_, y, e1, hy, this⟩
  have renLive : ∀ y, (renB sel H.length y).live ↔ y.live := fun y => by cases y <;> exact Iff.rfl
  have liveD : ∀ d, live (put sel H h2) d → (∃ i, d = tau sel H.length i ∧ live h2 i) ∨ (d < H.length ∧ d ∉ sel ∧ live H d) := fun d ⟨x, hx, hl⟩ => by
    rcases ofD d x hx with ⟨i, y, h1, h3, rfl⟩ | ⟨h1, h3, h4⟩
    · exact .inl ⟨i, h1, y, h3, (renLive y).1 hl⟩
    · exact .inr ⟨h1, h3, x, h4, hl⟩
  have Gt : ∀ i, live h2 i → ∀ p, G (tau sel H.length i) = some p → g2 i = some p := fun i hl p hp => by
    obtain ⟨q, hq⟩ := T.ok.lv i hl
    rw [Gtau i q hq] at hp
    rw [hq]; exact hp
  have outO : ∀ d b cap, live H d → d ∉ sel → g d = some (b, cap) → ¬ MO g2 h2 b := fun d b cap hl hn hg hO => by
    rcases T.new b hO with h | h
    · exact notO d b cap hl hn hg h
    · have := k.olt ⟨d, cap, hl, hg⟩; omega
  have MOof : ∀ b, MO G (put sel H h2) b → MO g2 h2 b ∨ ∃ d cap, d < H.length ∧ d ∉ sel ∧ live H d ∧ g d = some (b, cap) := fun b ⟨d, cap, hl, hg⟩ => by
    rcases liveD d hl with ⟨i, rfl, hli⟩ | ⟨h1, h3, h4⟩
    · exact .inl ⟨i, cap, hli, Gt i hli _ hg⟩
    · exact .inr ⟨d, cap, h1, h3, h4, by rw [← Gold d h1]; exact hg⟩
  have MOold : ∀ b, b < w.heap.size → MO G (put sel H h2) b → MO g H b := fun b hb hO => by
    rcases MOof b hO with h | ⟨d, cap, h1, _, h3, h4⟩
    · rcases T.new b h with h | h
      · obtain ⟨d, cap, _, h1, h2⟩ := hOc b h
        exact ⟨d, cap, h1, h2⟩
      · omega
    · exact ⟨d, cap, h3, h4⟩
  have trans : ∀ (v : AV) (u : Value), (B = [] ∨ v.flat) → rep (MM Fc g2 h2) w' v g2 u → rep (MM F G (put sel H h2)) w' (ren sel H.length v) G u := fun v u hf h => by
    have h1 : rep (MM F G (put sel H h2)) w' v g2 u := by
      rcases hf with hB0 | hf
      · refine rep_mono (Chg.refl _ w') (fun b _ hM => ?_) v (GM.le_refl _) h
        rcases hM with hF | hO
        · exact .inl (.inl hF)
        · rcases MOof b hO with h | ⟨d, cap, a1, a2, a3, a4⟩
          · exact .inr h
          · exact .inl (.inr ⟨d, cap, a3, a2, by rw [hB0]; simp, a4⟩)
      · exact rep_flat v hf h
    exact rep_ren v Gtau h1
  have GT : Tr F g H w G (put sel H h2) w' := by
    refine ⟨HOK.of_all (fun d hd => ?_) (fun d hl => ?_) (fun d d' b c c' l1 l2 e1 e2 => ?_) (fun d b cap x hx hg => ?_) (fun b hF => ?_), fun d p hp => ?_, ?_, fun b hO => ?_⟩
    · rw [len2] at hd
      simp only [G, if_neg (show ¬ d < H.length by omega)]
      exact T.ok.dom _ (by omega)
    · rcases liveD d hl with ⟨i, rfl, hli⟩ | ⟨h1, h3, h4⟩
      · obtain ⟨p, hp⟩ := T.ok.lv i hli
        exact ⟨p, Gtau i p hp⟩
      · rw [Gold d h1]; exact k.lv d h4
    · rcases liveD d l1 with ⟨i, rfl, hli⟩ | ⟨h1, h3, h4⟩ <;> rcases liveD d' l2 with ⟨j, rfl, hlj⟩ | ⟨h1', h3', h4'⟩
      · have := T.ok.inj i j b c c' hli hlj (Gt i hli _ e1) (Gt j hlj _ e2)
        rw [this]
      · rw [Gold d' h1'] at e2
        exact (outO d' b c' h4' h3' e2 ⟨i, c, hli, Gt i hli _ e1⟩).elim
      · rw [Gold d h1] at e1
        exact (outO d b c h4 h3 e1 ⟨j, c', hlj, Gt j hlj _ e2⟩).elim
      · rw [Gold d h1] at e1
        rw [Gold d' h1'] at e2
        exact k.inj d d' b c c' h4 h4' e1 e2
    · by_cases hxl : x.live
      · rcases ofD d x hx with ⟨i, y, rfl, hy, rfl⟩ | ⟨h1, h3, h4⟩
        · have hyl : live h2 i := ⟨y, hy, (renLive y).1 hxl⟩
          have hg2 := Gt i hyl _ hg
          have hall := T.ok.all hy hg2
          have hyf : B = [] ∨ y.flat := hfl.imp id (fun h => h.2 y (List.mem_of_getElem? hy))
          cases y with
          | dead => trivial
          | box m c =>
            obtain ⟨cs, t, b1, b2, b3⟩ := hall
            refine ⟨cs, t, b1, b2, fun j hj => ?_⟩
            obtain ⟨u, c1, c2, c3⟩ := b3 j hj
            exact ⟨u, c1, c2, by rw [tab_get hj]; exact trans _ _ (hyf.imp id (fun h => h j hj)) c3⟩
          | row n sz c =>
            obtain ⟨b0, b0', cs, t, b1, b2, b3⟩ := hall
            refine ⟨b0, b0', cs, t, b1, b2, fun kk hkk o ho => ?_⟩
            obtain ⟨u, c1, c2, c3⟩ := b3 kk hkk o ho
            refine ⟨u, c1, c2, ?_⟩
            rcases hyf with hB0 | hf
            · refine rep_mono (Chg.refl _ w') (fun b _ hM => ?_) _ (GM.le_refl _) c3
              rcases hM with hF | hO
              · exact .inl (.inl hF)
              · rcases MOof b hO with h | ⟨d, cap, a1, a2, a3, a4⟩
                · exact .inr h
                · exact .inl (.inr ⟨d, cap, a3, a2, by rw [hB0]; simp, a4⟩)
            · exact rep_flat _ (hf kk hkk o ho) c3
        · rw [Gold d h1] at hg
          have hl : live H d := ⟨x, h4, hxl⟩
          have hb : b < w.heap.size := k.olt ⟨d, cap, hl, hg⟩
          refine (k.all h4 hg).mono (g' := G) (T.chg.weak (fun y _ hO => ?_)) (fun y hy hM => ?_) (fun d p hp => ?_) (T.chg.block b hb (notO d b cap hl h3 hg))
          · obtain ⟨d, cap, _, a1, a2⟩ := hOc y hO
            exact .inr ⟨d, cap, a1, a2⟩
          · exact hM.imp id (MOold y hy)
          · rw [Gold d (k.lt hp)]; exact hp
      · cases x with
        | dead => trivial
        | box => exact (hxl trivial).elim
        | row => exact (hxl trivial).elim
    · have hb := (k.fr b hF).1
      exact ⟨Nat.lt_of_lt_of_le hb T.chg.size, fun hO => (k.fr b hF).2 (MOold b hb hO)⟩
    · rw [Gold d (k.lt hp)]; exact hp
    · exact T.chg.weak fun y _ hO => by obtain ⟨d, cap, _, a1, a2⟩ := hOc y hO; exact ⟨d, cap, a1, a2⟩
    · rcases Nat.lt_or_ge b w.heap.size with hb | hb
      · exact .inl (MOold b hb hO)
      · exact .inr hb
  exact ⟨v, _, _, G, rfl, GT, trans r v (hfl.imp id (fun h => h.1)) hr, hKr⟩
end Go.Proofs.Ytomkjfhepfinhaa

namespace Go.Proofs.Ytomkjfhepfinhaa
open Go.RowKit

/-- Two ways. -/
inductive FCond (q : Bool) (A B : Prop) : Prop
  | t (h : q = true) (a : A)
  | f (h : q = false) (b : B)
/-- A condition, and the rest. -/
structure Need (p K : Prop) : Prop where
  a : p
  b : K
/-- A sum that may wrap. -/
structure Fits (k : IntKind) (n : Int) (K : Int → Prop) : Prop where
  h : K (k.wrap n)
/-- An index. -/
structure FIdx (j : Int) (n : Nat) (K : Nat → Prop) : Prop where
  a : 0 ≤ j ∧ j < n
  h : K j.toNat
/-- A bound of a part of a slice. -/
structure FTo (j : Int) (n : Nat) (K : Nat → Prop) : Prop where
  a : 0 ≤ j ∧ j ≤ n
  h : K j.toNat
structure FCall (C : CallP) (f : FuncId) (xs : List AV) (h : List AB) (K : AV → List AB → Prop) : Prop where
  h : C f xs h K
structure Same (a b : AV) : Prop where
  h : a = b
structure Fin (K : AV → List AB → Prop) (r : AV) (h : List AB) : Prop where
  h : K r h
inductive FApp (A B : Prop) : Prop
  | grow (a : A)
  | share (b : B)

theorem FCond.i {q : Bool} {A B : Prop} (h1 : q = true → A) (h2 : q = false → B) : FCond q A B := by
  cases q
  · exact .f rfl (h2 rfl)
  · exact .t rfl (h1 rfl)
theorem FCond.ac {q : Bool} {A B : Prop} (h : FCond q A B) : acond q A B := by
  cases h with
  | t h a => subst h; exact a
  | f h b => subst h; exact b
theorem FIdx.nat {k n : Nat} {K : Nat → Prop} (hk : k < n) (h : K k) : FIdx (k : Int) n K := ⟨⟨by omega, by omega⟩, by simpa using h⟩
theorem FTo.nat {k n : Nat} {K : Nat → Prop} (hk : k ≤ n) (h : K k) : FTo (k : Int) n K := ⟨⟨by omega, by omega⟩, by simpa using h⟩

def cnd (b : Bool) (K : Prop) : Prop := match b with
  | true => K
  | false => False
theorem cnd_e {b : Bool} {K : Prop} (h : cnd b K) : b = true ∧ K := by
  cases b
  · exact h.elim
  · exact ⟨rfl, h⟩
/-- A value is computed before one goes on. -/
def frc (v : AV) (K : AV → Prop) : Prop := match v with
  | .bot => K .bot
  | .int k n => K (.int k n)
  | .bool b => K (.bool b)
  | .nilp => K .nilp
  | .nilf => K .nilf
  | .sl z e n sz c => K (.sl z e n sz c)
  | .ip m c o => K (.ip m c o)
  | .own d n => K (.own d n)
  | .ptr d o => K (.ptr d o)
  | .rp d sz k o => K (.rp d sz k o)
  | .osl d sz lo n => K (.osl d sz lo n)
  | .fn f m c => K (.fn f m c)
  | .agg m c => K (.agg m c)
  | .tup m c => K (.tup m c)
theorem frc_e {v : AV} {K : AV → Prop} (h : frc v K) : K v := by cases v <;> exact h
def frcs (vs : List AV) (K : List AV → Prop) : Prop := match vs with
  | [] => K []
  | v :: vs => frc v fun v => frcs vs fun vs => K (v :: vs)
theorem frcs_e : ∀ {vs : List AV} {K : List AV → Prop}, frcs vs K → K vs
  | [], _, h => h
  | _ :: vs, K, h => by
    simp only [frcs] at h
    exact frcs_e (vs := vs) (K := fun l => K (_ :: l)) (frc_e h)
def frcT (m : Nat) (f : Nat → AV) (K : (Nat → AV) → Prop) : Prop := frcs ((List.range m).map f) fun vs => K (ofL vs)
theorem frcT_e {m : Nat} {f : Nat → AV} {K : (Nat → AV) → Prop} (h : frcT m f K) : K (tab m f) := frcs_e (K := fun vs => K (ofL vs)) h
/-- A small number is computed before one goes on; a list's spine. -/
def nlit (n : Nat) (K : Nat → Prop) : Prop := match n with
  | 0 => K 0
  | 1 => K 1
  | 2 => K 2
  | 3 => K 3
  | 4 => K 4
  | 5 => K 5
  | 6 => K 6
  | 7 => K 7
  | 8 => K 8
  | 9 => K 9
  | 10 => K 10
  | 11 => K 11
  | 12 => K 12
  | 13 => K 13
  | 14 => K 14
  | 15 => K 15
  | 16 => K 16
  | n => K n
theorem nlit_e {n : Nat} {K : Nat → Prop} (h : nlit n K) : K n := by
  unfold nlit at h
  split at h <;> exact h
def frcH (h : List AB) (K : List AB → Prop) : Prop := match h with
  | [] => K []
  | x :: xs => frcH xs fun xs => K (x :: xs)
theorem frcH_e : ∀ {h : List AB} {K : List AB → Prop}, frcH h K → K h
  | [], _, h => h
  | _ :: xs, K, h => frcH_e (h := xs) (K := fun l => K (_ :: l)) h
def elemB (sz : Nat) (v : AV) : Bool := match v with
  | .agg m _ => m == sz
  | v => v.one && sz == 1
theorem elemB_ok {sz : Nat} {v : AV} (h : elemB sz v = true) : elemOK sz v := by
  cases v <;> simp only [elemB, Bool.and_eq_true, beq_iff_eq] at h <;> exact h
def fbin (op : BinOp) (k : IntKind) (x y : Int) (K : AV → Prop) : Prop :=
  match op with
  | .add => Fits k (x + y) (fun z => K (.int k z))
  | .sub => Fits k (x - y) (fun z => K (.int k z))
  | .mul => Fits k (x * y) (fun z => K (.int k z))
  | .quo => Need (y ≠ 0) (Fits k (x.tdiv y) (fun z => K (.int k z)))
  | .rem => Need (y ≠ 0) (K (.int k (x.tmod y)))
  | .shl => Need (0 ≤ y) (Fits k (x * 2 ^ (min y.toNat k.bits)) (fun z => K (.int k z)))
  | .shr => Need (0 ≤ y) (K (.int k (x.fdiv (2 ^ (min y.toNat k.bits)))))
  | op => ibin op k x y K
def frcPs (e : AX → AV) (ps : List (Nat × AX)) (K : List (Nat × AV) → Prop) : Prop := match ps with
  | [] => K []
  | (i, x) :: ps => frc (e x) fun v => frcPs e ps fun l => K ((i, v) :: l)
theorem frcPs_e {e : AX → AV} : ∀ {ps : List (Nat × AX)} {K : List (Nat × AV) → Prop}, frcPs e ps K → K (ps.map fun p => (p.1, e p.2))
  | [], _, h => h
  | (i, x) :: ps, K, h => frcPs_e (ps := ps) (K := fun l => K ((i, e x) :: l)) (frc_e (K := fun v => frcPs e ps fun l => K ((i, v) :: l)) h)
def fpub (h : List AB) (v : AV) (K : AV → List AB → Prop) : Prop :=
  match v with
  | .own d n => (match h[d]? with
    | some (.row N sz c) => Need (n ≤ N) (frcH (h.set d .dead) fun h' => K (.sl false false n sz c) h')
    | _ => False)
  | v => frc v fun v => cnd v.pureB (K v h)
def fpubs (e : AX → AV) (ps : List (Nat × AX)) (h : List AB) (K : List (Nat × AV) → List AB → Prop) : Prop :=
  match ps with
  | [] => K [] h
  | (i, x) :: ps => fpub h (e x) (fun v h' => fpubs e ps h' (fun l h'' => K ((i, v) :: l) h''))
theorem fpub_ok {h : List AB} {v : AV} {K : AV → List AB → Prop} (H : fpub h v K) : apub h v K := by
  cases v
  case own d n =>
    simp only [fpub, apub] at H ⊢
    split at H
    · rename_i hd
      rw [hd]
      exact ⟨H.a, frcH_e H.b⟩
    · exact H.elim
  all_goals
    simp only [fpub] at H
    have H2 := frc_e H
    obtain ⟨h1, h2⟩ := cnd_e H2
    exact ⟨pureB_ok _ h1, h2⟩
theorem fpubs_ok {e : AX → AV} : ∀ {ps : List (Nat × AX)} {h : List AB} {K K' : List (Nat × AV) → List AB → Prop}, (∀ l h, K l h → K' l h) → fpubs e ps h K → apubs e ps h K'
  | [], _, _, _, hk, H => hk _ _ H
  | (i, x) :: ps, h, K, K', hk, H => by
    obtain ⟨v, h1, H1, k1⟩ := apub_one (fpub_ok H)
    exact k1 _ (fpubs_ok (fun l h hh => hk _ _ hh) H1)
def fsrc (sz : Nat) (h : List AB) (y : AV) (K : Nat → (Nat → Nat → AV) → Prop) : Prop :=
  match y with
  | .sl _ _ m sz' c' => Need (sz' = sz ∨ m = 0) (K m c')
  | .own d m => (match h[d]? with
    | some (.row N sz' c') => cnd (sz' == sz) (Need (m ≤ N) (K m c'))
    | _ => False)
  | _ => False
theorem fsrc_e {sz : Nat} {h : List AB} {y : AV} {K : Nat → (Nat → Nat → AV) → Prop} (H : fsrc sz h y K) : ∃ m c', Src sz h y m c' ∧ K m c' := by
  unfold fsrc at H
  split at H
  · exact ⟨_, _, .inl ⟨_, _, _, rfl, H.a⟩, H.b⟩
  · split at H
    · rename_i hd
      obtain ⟨h1, h2⟩ := cnd_e H
      simp only [beq_iff_eq] at h1
      subst h1
      exact ⟨_, _, .inr ⟨_, _, rfl, hd, h2.a⟩, h2.b⟩
    · exact H.elim
  · exact H.elim
def fop (o : AOp) (e : AX → AV) (h : List AB) (K : AV → List AB → Prop) : Prop :=
  match o with
  | .mv x => frc (e x) fun v => K v h
  | .box x => match e x with
    | .agg m c => nlit h.length fun d => frcH (h ++ [.box m c]) fun h' => K (.ptr d 0) h'
    | .bot => False
    | .tup .. => False
    | v => nlit h.length fun d => frcH (h ++ [.box 1 (ofL [v])]) fun h' => K (.ptr d 0) h'
  | .fa x off => match e x with
    | .ptr d o => nlit (o + off) fun o' => K (.ptr d o') h
    | .rp d sz k o => nlit (o + off) fun o' => K (.rp d sz k o') h
    | .ip m c o => nlit (o + off) fun o' => K (.ip m c o') h
    | _ => False
  | .pick c a b => match e c with
    | .bool q => FCond q (frc (e a) fun v => K v h) (frc (e b) fun v => K v h)
    | _ => False
  | .build zs ps => cnd (ps.all fun p => elemB p.2.1 (e p.2.2) && decide (p.1 + p.2.1 ≤ zs.length)) (frcT zs.length (buildC (ofL zs) (ps.map fun p => (p.1, p.2.1, e p.2.2))) fun c => K (.agg zs.length c) h)
  | .bsl n sz zs ps => cnd (ps.all fun p => elemB sz (e p.2) && (e p.2).pureB && decide (p.1 < n)) (frcPs e ps fun es => K (.sl false true n sz (bslC (fun _ => ofL zs) es)) h)
  | .bslp n sz zs ps => fpubs e ps h (fun es h' => cnd (es.all fun p => elemB sz p.2 && decide (p.1 < n)) (K (.sl false true n sz (bslC (fun _ => ofL zs) es)) h'))
  | .ld none x => match e x with
    | .ptr d o => (match h[d]? with
      | some (.box m c) => cnd (decide (o < m)) (frc (c o) fun v => K v h)
      | _ => False)
    | .rp d sz k o => (match h[d]? with
      | some (.row n sz' c) => cnd (decide (o < sz) && sz' == sz) (Need (k < n) (frc (c k o) fun v => K v h))
      | _ => False)
    | .ip m c o => cnd (decide (o < m)) (frc (c o) fun v => K v h)
    | _ => False
  | .ld (some m') x => match e x with
    | .ptr d o => (match h[d]? with
      | some (.box m c) => cnd (decide (o + m' ≤ m)) (frcT m' (fun i => c (o + i)) fun c => K (.agg m' c) h)
      | _ => False)
    | .rp d sz k o => (match h[d]? with
      | some (.row n sz' c) => cnd (decide (o + m' ≤ sz) && sz' == sz) (Need (k < n) (frcT m' (fun i => c k (o + i)) fun c => K (.agg m' c) h))
      | _ => False)
    | .ip m c o => cnd (decide (o + m' ≤ m)) (frcT m' (fun i => c (o + i)) fun c => K (.agg m' c) h)
    | _ => False
  | .st m x y => match e x with
    | .ptr d o => (match h[d]? with
      | some (.box m' c) => cnd (decide (o + m ≤ m') && elemB m (e y)) (frcT m' (stM c o (elemC (e y)) m) fun c => frcH (h.set d (.box m' c)) (K und))
      | _ => False)
    | .rp d sz k o => (match h[d]? with
      | some (.row n sz' c) => cnd (sz' == sz && elemB m (e y) && (e y).pureB) (Need (k < n) (match m == sz && o == 0 with
        | true => frcH (h.set d (.row n sz (updRm c k (elemC (e y))))) (K und)
        | false => cnd (m == 1 && decide (o < sz)) (frcH (h.set d (.row n sz (updR c k o (elemC (e y) 0)))) (K und))))
      | _ => False)
    | _ => False
  | .fld x off m => match e x with
    | .agg n c => (match m with
      | none => cnd (decide (off < n)) (frc (c off) fun v => K v h)
      | some m' => cnd (decide (off + m' ≤ n)) (frcT m' (fun i => c (off + i)) fun c => K (.agg m' c) h))
    | _ => False
  | .ia sz x i => match e i, e x with
    | .int _ j, .sl _ _ n sz' c => cnd (sz' == sz && decide (0 < sz)) (FIdx j n fun j => K (.ip sz (c j) 0) h)
    | .int _ j, .own d n => FIdx j n fun j => K (.rp d sz j 0) h
    | .int _ j, .osl d sz' lo n => cnd (sz' == sz) (FIdx j n fun j => K (.rp d sz (lo + j) 0) h)
    | _, _ => False
  | .slc sz x lo hi => match e x with
    | .sl z _ n sz' c => cnd (sz' == sz) (match lo.map e, hi.map e with
      | none, none => K (.sl z false n sz c) h
      | none, some (.int _ b) => FTo b n fun b => K (.sl z false b sz c) h
      | some (.int _ a), none => FTo a n fun a => K (.sl z false (n - a) sz (fun k => c (k + a))) h
      | some (.int _ a), some (.int _ b) => FTo b n fun b => FTo a b fun a => K (.sl z false (b - a) sz (fun k => c (k + a))) h
      | _, _ => False)
    | .own d n => (match lo.map e, hi.map e with
      | none, none => K (.own d n) h
      | none, some (.int _ b) => FTo b n fun b => K (.own d b) h
      | some (.int _ a), none => FTo a n fun a => K (.osl d sz a (n - a)) h
      | _, _ => False)
    | .osl d sz' l0 n => cnd (sz' == sz) (match lo.map e, hi.map e with
      | some (.int _ a), none => FTo a n fun a => K (.osl d sz (l0 + a) (n - a)) h
      | _, _ => False)
    | _ => False
  | .eqa m neg x y => match e x, e y with
    | .agg m1 c, .agg m2 c' => cnd (m1 == m && m2 == m) (eqcs m c c' m fun b => K (.bool (match neg with | true => !b | false => b)) h)
    | _, _ => False
  | .clr sz x => match e x with
    | .osl d sz' lo _ => (match h[d]? with
      | some (.row N sz2 c) => cnd (sz' == sz && sz2 == sz) (Need (lo ≤ N) (frcH (h.set d (.row lo sz c)) (K und)))
      | _ => False)
    | _ => False
  | .bin op x y => match e x, e y with
    | .int k a, .int k' b => (match op with
      | .shl => fbin .shl k a b (fun v => K v h)
      | .shr => fbin .shr k a b (fun v => K v h)
      | op => cnd (decide (k = k')) (fbin op k a b (fun v => K v h)))
    | _, _ => False
  | .un op x => match op, e x with
    | .not, .bool b => K (.bool !b) h
    | .neg, .int k n => Fits k (0 - n) (fun z => K (.int k z) h)
    | _, _ => False
  | .conv k x => match e x with
    | .int _ n => Fits k n (fun z => K (.int k z) h)
    | _ => False
  | .msl sz bytes zs x y => match e x, e y with
    | .int .i64 n, .int .i64 n' => cnd (zs.length == sz) (Need (0 ≤ n ∧ n ≤ n' ∧ n' ≤ 9223372036854775807 ∧ n' * bytes ≤ 140737488355328) (nlit h.length fun d => frcH (h ++ [.row n.toNat sz fun _ => ofL zs]) fun h' => K (.own d n.toNat) h'))
    | _, _ => False
  | .app sz bytes x y => cnd (decide (0 < sz)) (fsrc sz h (e y) fun m c' => match e x with
      | .sl z ee n sz2 c => cnd ee (Need ((sz2 = sz ∨ n = 0) ∧ n + m ≤ maxLen ∧ (n + m) * bytes ≤ 140737488355328) (match m with
        | 0 => K (.sl z ee n sz2 c) h
        | m' + 1 => nlit h.length fun d => frcH (h ++ [.row (n + (m' + 1)) sz (appc n c c')]) fun h' => K (.own d (n + (m' + 1))) h'))
      | .own d n => (match h[d]? with
        | some (.row n' sz2 c) => cnd (sz2 == sz) (Need (n + m ≤ maxLen ∧ (n + m) * bytes ≤ 140737488355328) (FApp (Need (n' = n) (nlit h.length fun d' => frcH (h.set d .dead ++ [.row (n + m) sz (appc n c c')]) fun h' => K (.own d' (n + m)) h'))
            (Need (n ≤ n') (Need (frcH (h.set d (.row (n + m) sz (appc n c c'))) fun h' => K (.own d (n + m)) h') (nlit h.length fun d' => frcH (h ++ [.row (n + m) sz (appc n c c')]) fun h' => K (.own d' (n + m)) h')))))
        | _ => False)
      | _ => False)
  | .ext x i => match e x with
    | .tup m c => cnd (decide (i < m)) (frc (c i) fun v => K v h)
    | _ => False
  | o => aop o e h K
def fstep (C : CallP) (o : AOp) (e : Env) (h : List AB) (K : AV → List AB → Prop) : Prop :=
  match o with
  | .call f xs => frcs (xs.map (AX.ev e)) fun vs => FCall C f vs h K
  | .calv x xs => match x.ev e with
    | .fn f m c => frcs (xs.map (AX.ev e) ++ (List.range m).map c) fun vs => FCall C f vs h K
    | _ => False
  | o => fop o (AX.ev e) h K

theorem fbin_ok {op : BinOp} {k : IntKind} {x y : Int} {K : AV → Prop} (H : fbin op k x y K) (h1 : op ≠ .shl) (h2 : op ≠ .shr) : ibin op k x y K := by
  cases op <;> simp only [fbin, ibin] at H ⊢ <;> first | exact H | exact H.h | exact ⟨H.a, H.b.h⟩ | exact ⟨H.a, H.b⟩ | exact (h1 rfl).elim | exact (h2 rfl).elim
theorem fop_ok (o : AOp) {e : AX → AV} {h : List AB} {K : AV → List AB → Prop} (H : fop o e h K) : aop o e h K ∨ asplit o e h K := by
  cases o
  case mv x => left; simp only [fop] at H; exact frc_e H
  case box x =>
    left
    simp only [fop, aop] at H ⊢
    generalize e x = v at H ⊢
    cases v <;> simp only at H ⊢ <;> exact frcH_e (nlit_e H)
  case fa x off =>
    left
    simp only [fop, aop] at H ⊢
    generalize e x = v at H ⊢
    cases v <;> simp only at H ⊢ <;> exact nlit_e H
  case pick c a b =>
    left
    simp only [fop, aop] at H ⊢
    generalize e c = v at H ⊢
    cases v <;> simp only at H ⊢
    exact FCond.ac (match H with
      | .t h a => .t h (frc_e a)
      | .f h a => .f h (frc_e a))
  case build zs ps =>
    left
    simp only [fop, aop] at H ⊢
    obtain ⟨h1, h2⟩ := cnd_e H
    simp only [List.all_eq_true, Bool.and_eq_true, decide_eq_true_eq] at h1
    exact ⟨fun p hp => elemB_ok (h1 p hp).1, fun p hp => (h1 p hp).2, frcT_e h2⟩
  case bsl n sz zs ps =>
    left
    simp only [fop, aop] at H ⊢
    obtain ⟨h1, h2⟩ := cnd_e H
    simp only [List.all_eq_true, Bool.and_eq_true, decide_eq_true_eq] at h1
    exact ⟨fun p hp => ⟨elemB_ok (h1 p hp).1.1, pureB_ok _ (h1 p hp).1.2⟩, fun p hp => (h1 p hp).2, frcPs_e (K := fun es => K (.sl false true n sz (bslC (fun _ => ofL zs) es)) h) h2⟩
  case bslp n sz zs ps =>
    left
    simp only [fop, aop] at H ⊢
    refine fpubs_ok (fun l h' hh => ?_) H
    obtain ⟨h1, h2⟩ := cnd_e hh
    simp only [List.all_eq_true, Bool.and_eq_true, decide_eq_true_eq] at h1
    exact ⟨fun p hp => ⟨elemB_ok (h1 p hp).1, (h1 p hp).2⟩, h2⟩
  case ld m x =>
    left
    cases m <;> simp only [fop, aop] at H ⊢ <;> generalize e x = v at H ⊢ <;> cases v <;> simp only at H ⊢
    case none.ip => obtain ⟨h1, h2⟩ := cnd_e H; exact ⟨by simpa using h1, frc_e h2⟩
    case some.ip => obtain ⟨h1, h2⟩ := cnd_e H; exact ⟨by simpa using h1, frcT_e h2⟩
    case none.ptr =>
      split at H
      · rename_i heq
        rw [heq]
        obtain ⟨h1, h2⟩ := cnd_e H
        exact ⟨by simpa using h1, frc_e h2⟩
      · exact H.elim
    case some.ptr =>
      split at H
      · rename_i heq
        rw [heq]
        obtain ⟨h1, h2⟩ := cnd_e H
        exact ⟨by simpa using h1, frcT_e h2⟩
      · exact H.elim
    case none.rp =>
      split at H
      · rename_i heq
        rw [heq]
        obtain ⟨h1, h2⟩ := cnd_e H
        simp only [Bool.and_eq_true, decide_eq_true_eq, beq_iff_eq] at h1
        exact ⟨h2.a, h1.1, h1.2, frc_e h2.b⟩
      · exact H.elim
    case some.rp =>
      split at H
      · rename_i heq
        rw [heq]
        obtain ⟨h1, h2⟩ := cnd_e H
        simp only [Bool.and_eq_true, decide_eq_true_eq, beq_iff_eq] at h1
        exact ⟨h2.a, h1.1, h1.2, frcT_e h2.b⟩
      · exact H.elim
  case st m x y =>
    left
    simp only [fop, aop] at H ⊢
    generalize e x = v at H ⊢
    cases v <;> simp only at H ⊢
    case ptr =>
      split at H
      · rename_i heq
        rw [heq]
        obtain ⟨h1, h2⟩ := cnd_e H
        simp only [Bool.and_eq_true, decide_eq_true_eq] at h1
        exact ⟨h1.1, elemB_ok h1.2, frcH_e (frcT_e (K := fun c => frcH (h.set _ (.box _ c)) (K und)) h2)⟩
      · exact H.elim
    case rp =>
      split at H
      · rename_i heq
        rw [heq]
        obtain ⟨h1, h2⟩ := cnd_e H
        simp only [Bool.and_eq_true, beq_iff_eq] at h1
        refine ⟨h2.a, h1.1.1, elemB_ok h1.1.2, pureB_ok _ h1.2, ?_⟩
        have h3 := h2.b
        split at h3
        · rename_i hc
          simp only [Bool.and_eq_true, beq_iff_eq] at hc
          exact .inr ⟨hc.1, hc.2, frcH_e h3⟩
        · obtain ⟨h4, h5⟩ := cnd_e h3
          simp only [Bool.and_eq_true, beq_iff_eq, decide_eq_true_eq] at h4
          exact .inl ⟨h4.1, h4.2, frcH_e h5⟩
      · exact H.elim
  case fld x off m =>
    left
    simp only [fop, aop] at H ⊢
    generalize e x = v at H ⊢
    cases v <;> simp only at H ⊢
    cases m <;> (simp only at H ⊢; obtain ⟨h1, h2⟩ := cnd_e H; first | exact ⟨by simpa using h1, frcT_e h2⟩ | exact ⟨by simpa using h1, frc_e h2⟩)
  case ia sz x i =>
    left
    simp only [fop, aop] at H ⊢
    generalize e x = v at H ⊢
    generalize e i = j at H ⊢
    cases j <;> cases v <;> simp only at H ⊢
    · obtain ⟨h1, h2⟩ := cnd_e H
      simp only [Bool.and_eq_true, beq_iff_eq, decide_eq_true_eq] at h1
      exact ⟨h1.1, h1.2, h2.a.1, h2.a.2, h2.h⟩
    · exact ⟨H.a.1, H.a.2, H.h⟩
    · obtain ⟨h1, h2⟩ := cnd_e H
      exact ⟨by simpa using h1, h2.a.1, h2.a.2, h2.h⟩
  case slc sz x lo hi =>
    left
    simp only [fop, aop] at H ⊢
    generalize e x = v at H ⊢
    cases v <;> simp only at H ⊢
    case sl =>
      obtain ⟨h1, H⟩ := cnd_e H
      refine ⟨by simpa using h1, ?_⟩
      generalize lo.map e = l at H ⊢
      generalize hi.map e = m at H ⊢
      split at H
      · exact H
      · exact ⟨H.a.1, H.a.2, H.h⟩
      · exact ⟨H.a.1, H.a.2, H.h⟩
      · have h3 := H.h.a
        have h4 := H.a
        exact ⟨h3.1, by omega, h4.2, H.h.h⟩
      · exact H.elim
    case own =>
      generalize lo.map e = l at H ⊢
      generalize hi.map e = m at H ⊢
      split at H
      · exact H
      · exact ⟨H.a.1, H.a.2, H.h⟩
      · exact ⟨H.a.1, H.a.2, H.h⟩
      · exact H.elim
    case osl =>
      obtain ⟨h1, H⟩ := cnd_e H
      refine ⟨by simpa using h1, ?_⟩
      generalize lo.map e = l at H ⊢
      generalize hi.map e = m at H ⊢
      split at H
      · exact ⟨H.a.1, H.a.2, H.h⟩
      · exact H.elim
  case eqa m neg x y =>
    left
    simp only [fop, aop] at H ⊢
    generalize e x = v at H ⊢
    generalize e y = u at H ⊢
    cases v <;> cases u <;> simp only at H ⊢
    obtain ⟨h1, h2⟩ := cnd_e H
    simp only [Bool.and_eq_true, beq_iff_eq] at h1
    refine ⟨h1.1, h1.2, ?_⟩
    obtain ⟨q, g1, k1⟩ := eqcs_one h2
    refine k1 _ ?_
    cases neg <;> exact g1
  case clr sz x =>
    left
    simp only [fop, aop] at H ⊢
    generalize e x = v at H ⊢
    cases v <;> simp only at H ⊢
    split at H
    · rename_i hd
      rw [hd]
      obtain ⟨h1, h2⟩ := cnd_e H
      simp only [Bool.and_eq_true, beq_iff_eq] at h1
      exact ⟨h1.1, h1.2, h2.a, frcH_e h2.b⟩
    · exact H.elim
  case bin op x y =>
    left
    simp only [fop, aop] at H ⊢
    generalize e x = v at H ⊢
    generalize e y = u at H ⊢
    cases v <;> cases u <;> simp only at H ⊢
    simp only [abin]
    cases op <;> simp only at H ⊢
    case shl => exact ⟨H.a, H.b.h⟩
    case shr => exact ⟨H.a, H.b⟩
    all_goals
      obtain ⟨h1, h2⟩ := cnd_e H
      exact ⟨by simpa using h1, fbin_ok h2 (by simp) (by simp)⟩
  case un op x =>
    left
    simp only [fop, aop] at H ⊢
    generalize e x = v at H ⊢
    cases op <;> cases v <;> simp only at H ⊢ <;> first | exact H | exact H.h
  case conv k x =>
    left
    simp only [fop, aop] at H ⊢
    generalize e x = v at H ⊢
    cases v <;> simp only at H ⊢ <;> exact H.h
  case msl sz bytes zs x y =>
    left
    simp only [fop, aop] at H ⊢
    generalize e x = v at H ⊢
    generalize e y = u at H ⊢
    split at H
    · obtain ⟨h1, h2⟩ := cnd_e H
      exact ⟨by simpa using h1, h2.a.1, h2.a.2.1, h2.a.2.2.1, h2.a.2.2.2, frcH_e (nlit_e h2.b)⟩
    · exact H.elim
  case app sz bytes x y =>
    simp only [fop, aop, asplit] at H ⊢
    obtain ⟨h0, H2⟩ := cnd_e H
    clear H
    have h0' : 0 < sz := by simpa using h0
    obtain ⟨m, c', hs, H⟩ := fsrc_e H2
    clear H2 h0
    generalize e x = v at H ⊢
    cases v <;> simp only at H
    case sl z ee n sz2 c =>
      left
      obtain ⟨h1, h2⟩ := cnd_e H
      refine ⟨h0', asrc_i hs ⟨h1, h2.a.1, fun hm => ?_, fun hm => ?_⟩⟩
      · subst hm; exact h2.b
      · obtain ⟨m', rfl⟩ : ∃ m', m = m' + 1 := ⟨m - 1, by omega⟩
        exact ⟨h2.a.2.1, h2.a.2.2, frcH_e (nlit_e h2.b)⟩
    case own d n =>
      split at H
      · rename_i n' sz2 c hd
        obtain ⟨h1, h2⟩ := cnd_e H
        have h1' : sz2 = sz := by simpa using h1
        cases h2.b with
        | grow a => left; exact ⟨h0', asrc_i hs (by simp only [hd]; exact ⟨a.a, h1', h2.a.1, h2.a.2, frcH_e (nlit_e a.b)⟩)⟩
        | share b => right; exact ⟨h0', asrc_i hs (by simp only [hd]; exact ⟨h1', b.a, h2.a.1, h2.a.2, frcH_e b.b.a, frcH_e (nlit_e b.b.b)⟩)⟩
      · exact H.elim
  case ext x i =>
    left
    simp only [fop, aop] at H ⊢
    generalize e x = v at H ⊢
    cases v <;> simp only at H ⊢
    obtain ⟨h1, h2⟩ := cnd_e H
    exact ⟨by simpa using h1, frc_e h2⟩
  all_goals (left; exact H)
theorem fop_aop (o : AOp) {e : AX → AV} {h : List AB} {K : AV → List AB → Prop} (H : fop o e h K) (ho : o.chg = false) : aop o e h K := by
  rcases fop_ok o H with h1 | h1
  · exact h1
  · cases o <;> simp only [asplit] at h1 <;> simp [AOp.chg] at ho
theorem fstep_ok {C : CallP} {o : AOp} {e : Env} {h : List AB} {K : AV → List AB → Prop} (H : fstep C o e h K) : astep C o e h K := by
  cases o
  case call f xs => exact (frcs_e H).h
  case calv x xs =>
    simp only [fstep, astep] at H ⊢
    generalize x.ev e = v at H ⊢
    cases v <;> simp only at H ⊢
    exact (frcs_e H).h
  case app => exact fop_ok _ H
  all_goals
    simp only [fstep] at H
    rcases fop_ok _ H with h1 | h1
    · exact h1
    · exact h1.elim
/-- The next state of the temporaries. -/
def Env.upd (e : Env) (d : Nat) (v : AV) : Env := fun t => if t = d then v else e t
def fput (e : Env) (d : Option Nat) (v : AV) (K : Env → Prop) : Prop := match d with
  | some d => K (e.upd d v)
  | none => K e
theorem fput_e {e : Env} {d : Option Nat} {v : AV} {K : Env → Prop} (h : fput e d v K) : K (e.put d v) := by cases d <;> exact h
def fgstep (C : CallP) (o : AO) (e : Env) (h : List AB) (K : AV → List AB → Prop) : Prop :=
  match o.guard with
  | none => fstep C o.op e h K
  | some (t, b) => match e t with
    | .bool q => (match b with
      | true => FCond q (fstep C o.op e h K) (K und h)
      | false => FCond q (K und h) (fstep C o.op e h K))
    | .tup 0 _ => K und h
    | _ => False
theorem fgstep_ok {C : CallP} {o : AO} {e : Env} {h : List AB} {K : AV → List AB → Prop} (H : fgstep C o e h K) : gstep C o e h K := by
  unfold fgstep at H
  unfold gstep
  cases hg : o.guard with
  | none => rw [hg] at H; exact fstep_ok H
  | some p =>
    obtain ⟨t, b⟩ := p
    rw [hg] at H
    simp only at H ⊢
    generalize e t = v at H ⊢
    split at H
    · rename_i q
      cases b <;> simp only at H
      · cases H with
        | t h a => subst h; exact a
        | f h a => subst h; exact fstep_ok a
      · cases H with
        | t h a => subst h; exact fstep_ok a
        | f h a => subst h; exact a
    · exact H
    · exact H.elim
def fwats (C : CallP) (ws : List AO) (e : Env) (h : List AB) (p : Prop) : Prop := match ws with
  | [] => p
  | o :: ws => match o.dst with
    | some d => Need (fgstep C o e h (fun v _ => Same v (e d))) (fwats C ws e h p)
    | none => fwats C ws e h p
def fregs (C : CallP) (l : List (AO × List AO)) (Q : Env → List AB → Prop) (e : Env) (h : List AB) : Prop :=
  match l with
  | [] => Q e h
  | (⟨dst, op, gd⟩, ws) :: rest => fgstep C ⟨dst, op, gd⟩ e h (fun r h' => fwats C ws e h' (fput e dst r fun e => fregs C rest Q e h'))
theorem fwats_ok {C : CallP} (hC : C.Mono) {e : Env} {h : List AB} {p q : Prop} (hpq : p → q) : ∀ {ws : List AO}, fwats C ws e h p → wats C ws e h q
  | [], H => hpq H
  | o :: ws, H => by
    simp only [fwats] at H
    refine ⟨?_, ?_⟩
    · unfold watp
      cases hd : o.dst with
      | some d => rw [hd] at H; exact gstep_mono hC (fun _ _ h => h.h) (fgstep_ok H.a)
      | none => trivial
    · cases hd : o.dst with
      | some d => rw [hd] at H; exact fwats_ok hC hpq H.b
      | none => rw [hd] at H; exact fwats_ok hC hpq H
theorem fregs_ok {C : CallP} (hC : C.Mono) {Q Q' : Env → List AB → Prop} (hQ : ∀ e h, Q e h → Q' e h) : ∀ (l : List (AO × List AO)) {e : Env} {h : List AB}, fregs C l Q e h → aregs C l Q' e h
  | [], _, _, H => hQ _ _ H
  | (⟨_, _, _⟩, _) :: rest, _, _, H => gstep_mono hC (fun _ _ hh => fwats_ok hC (fun h => fregs_ok hC hQ rest (fput_e h)) hh) (fgstep_ok H)

/-- A loop: it is shown by a relation and a measure. -/
structure FLoop (C : CallP) (N : Nat) (c : ACo) (Q : AEx → Env → List AB → Prop) (e : Env) (h : List AB) : Prop where
  h : awp C N (.loop c) Q e h
/-- A place at which a state may be weakened. -/
structure FWk (N : Nat) (id : Nat) (K : Env → List AB → Prop) (e : Env) (h : List AB) : Prop where
  ex : ∃ e2 h2, Wk N e h e2 h2 ∧ K e2 h2
/-- A loop over a function: shown by what it yields, and a relation. -/
structure FRange (C : CallP) (N : Nat) (it : AX) (ps : List Nat) (a b : ACo) (Q : AEx → Env → List AB → Prop) (e : Env) (h : List AB) : Prop where
  h : awp C N (.rf it ps a b) Q e h
def fawp (C : CallP) (N : Nat) : ACo → (AEx → Env → List AB → Prop) → Env → List AB → Prop
  | .skip, Q, e, h => Q .normal e h
  | .reg _ l, Q, e, h => fregs C l (Q .normal) e h
  | .wk id, Q, e, h => FWk N id (Q .normal) e h
  | .seq a b, Q, e, h => fawp C N a (AEx.then (fawp C N b Q) Q) e h
  | .cond c a b, Q, e, h => match c.ev e with
    | .bool q => FCond q (fawp C N a Q e h) (fawp C N b Q e h)
    | _ => False
  | .block id c, Q, e, h => fawp C N c (AEx.inBlock id Q) e h
  | .loop c, Q, e, h => FLoop C N c Q e h
  | .exit id, Q, e, h => Q (.exit id) e h
  | .ret, Q, e, h => Q .ret e h
  | .rf it ps a b, Q, e, h => FRange C N it ps a b Q e h
  | .no, _, _, _ => False
theorem wats_mono {C : CallP} {e : Env} {h : List AB} {p q : Prop} (hpq : p → q) : ∀ {ws : List AO}, wats C ws e h p → wats C ws e h q
  | [], hw => hpq hw
  | _ :: _, hw => ⟨hw.1, wats_mono hpq hw.2⟩
theorem aregs_mono {C : CallP} (hC : C.Mono) {Q Q' : Env → List AB → Prop} (hQ : ∀ e h, Q e h → Q' e h) : ∀ (l : List (AO × List AO)) {e : Env} {h : List AB}, aregs C l Q e h → aregs C l Q' e h
  | [], _, _, H => hQ _ _ H
  | _ :: rest, _, _, H => gstep_mono hC (fun _ _ hh => wats_mono (aregs_mono hC hQ rest) hh) H
theorem rfA_mono {K K' : Env → List AB → Prop} (hk : ∀ e h, K e h → K' e h) : ∀ x e h, rfA K x e h → rfA K' x e h := fun x e h H => by
  cases x with
  | normal => exact hk _ _ H
  | exit id => exact H
  | ret => exact H
theorem rfB_mono {N : Nat} {e1 : Env} {K : Env → List AB → Prop} {Q Q' : AEx → Env → List AB → Prop} (hq : ∀ x e h, Q x e h → Q' x e h) : ∀ x e h, rfB N e1 K Q x e h → rfB N e1 K Q' x e h := fun x e h H => by
  cases x with
  | normal => exact H
  | exit id => exact hq _ _ _ H
  | ret => exact hq _ _ _ H
theorem awp_mono {C : CallP} (hC : C.Mono) : ∀ (c : ACo) {N : Nat} {Q Q' : AEx → Env → List AB → Prop} {e : Env} {h : List AB}, (∀ x e h, Q x e h → Q' x e h) → awp C N c Q e h → awp C N c Q' e h := by
  intro c
  induction c with
  | rf it ps a b ia ib =>
    rintro N Q Q' e h hQ ⟨e0, h0, gf, m, c, L, I, h1, h2, h3, h4, h5, h6, h7, h8⟩
    exact ⟨e0, h0, gf, m, c, L, I, h1, h2, h3, h4, h5, h6, fun k e1 hh hk hi => ia (rfA_mono fun _ _ H => ib (rfB_mono hQ) H) (h7 k e1 hh hk hi), fun e1 hh hi => hQ _ _ _ (h8 e1 hh hi)⟩
  | skip => intro N Q Q' e h hQ H; exact hQ _ _ _ H
  | reg _ l => intro N Q Q' e h hQ H; exact aregs_mono hC (hQ .normal) l H
  | wk _ => intro N Q Q' e h hQ ⟨e2, h2, hw, hq⟩; exact ⟨e2, h2, hw, hQ _ _ _ hq⟩
  | seq a b ia ib =>
    intro N Q Q' e h hQ H
    refine ia (fun x e h hh => ?_) H
    cases x with
    | normal => exact ib hQ hh
    | exit id => exact hQ _ _ _ hh
    | ret => exact hQ _ _ _ hh
  | cond x a b ia ib =>
    intro N Q Q' e h hQ H
    simp only [awp] at H ⊢
    generalize x.ev e = v at H ⊢
    cases v <;> simp only at H ⊢
    rcases acond_e H with ⟨rfl, h1⟩ | ⟨rfl, h1⟩
    · exact ia hQ h1
    · exact ib hQ h1
  | block id c ic =>
    intro N Q Q' e h hQ H
    refine ic (fun x e h hh => ?_) H
    cases x with
    | normal => exact hQ _ _ _ hh
    | exit id' =>
      simp only [AEx.inBlock] at hh ⊢
      split
      · rename_i he; rw [if_pos he] at hh; exact hQ _ _ _ hh
      · rename_i he; rw [if_neg he] at hh; exact hQ _ _ _ hh
    | ret => exact hQ _ _ _ hh
  | loop c ic =>
    intro N Q Q' e h hQ H
    obtain ⟨I, μ, h0, hr⟩ := H
    refine ⟨I, μ, h0, fun e h hi => ic (fun x e h hh => ?_) (hr e h hi)⟩
    cases x with
    | normal => exact hh
    | exit id => exact hQ _ _ _ hh
    | ret => exact hQ _ _ _ hh
  | exit id => intro N Q Q' e h hQ H; exact hQ _ _ _ H
  | ret => intro N Q Q' e h hQ H; exact hQ _ _ _ H
  | no => intro N Q Q' e h _ H; exact H
theorem fawp_ok {C : CallP} (hC : C.Mono) {N : Nat} : ∀ (c : ACo) {Q : AEx → Env → List AB → Prop} {e : Env} {h : List AB}, fawp C N c Q e h → awp C N c Q e h := by
  intro c
  induction c with
  | skip => intro Q e h H; exact H
  | reg _ l => intro Q e h H; exact fregs_ok hC (fun _ _ h => h) l H
  | wk _ => intro Q e h H; exact H.ex
  | seq a b ia ib =>
    intro Q e h H
    refine awp_mono hC a (fun x e h hh => ?_) (ia H)
    cases x with
    | normal => exact ib hh
    | exit id => exact hh
    | ret => exact hh
  | cond x a b ia ib =>
    intro Q e h H
    simp only [fawp, awp] at H ⊢
    generalize x.ev e = v at H ⊢
    cases v <;> simp only at H ⊢
    cases H with
    | t h a => subst h; exact ia a
    | f h a => subst h; exact ib a
  | block id c ic => intro Q e h H; exact ic H
  | loop c ic => intro Q e h H; exact H.h
  | exit id => intro Q e h H; exact H
  | ret => intro Q e h H; exact H
  | rf it ps a b => intro Q e h H; exact H.h
  | no => intro Q e h H; exact H
def fares : List ARes → Env → List AB → (List AV → Prop) → Prop
  | [], _, _, K => K []
  | .tmp t :: rs, e, h, K => frc (e t) fun v => fares rs e h (fun l => K (v :: l))
  | .cell t m :: rs, e, h, K => fop (.ld m (.t t)) (AX.ev e) h (fun v _ => fares rs e h (fun l => K (v :: l)))
def ffins (K : AV → List AB → Prop) (l : List AV) (h : List AB) : Prop := match l with
  | [v] => Fin K v h
  | l => Fin K (.tup l.length (ofL l)) h
theorem ffins_e {K : AV → List AB → Prop} {l : List AV} {h : List AB} (H : ffins K l h) : K (tupOf l) h := by
  match l with
  | [v] => exact H.h
  | [] => exact H.h
  | _ :: _ :: _ => exact H.h
def ffin (rs : List ARes) (K : AV → List AB → Prop) : AEx → Env → List AB → Prop
  | .exit _, _, _ => False
  | _, e, h => fares rs e h (fun l => ffins K l h)
theorem fares_ok {e : Env} {h : List AB} : ∀ (rs : List ARes) {K K' : List AV → Prop}, (∀ l, K l → K' l) → fares rs e h K → ares rs e h K'
  | [], _, _, hK, H => hK _ H
  | .tmp _ :: rs, _, _, hK, H => fares_ok rs (fun _ h => hK _ h) (frc_e H)
  | .cell _ _ :: rs, _, _, hK, H => aop_mono _ (fun _ _ h => fares_ok rs (fun _ h => hK _ h) h) (fop_aop _ H rfl)
/-- A function's text, read: what a call of it does. -/
theorem fcall_of {P : Program} (hm : P.follows .mixedOrders = true) {f : FuncId} {fn : Func} {c : Code} (hf : P.funcs[f]? = some fn) (hb : fn.body = some c) (hn : (fn.name == "runtime.NumGoroutine") = false) {hs : Hints} (hk : okCode P fn.ntmps hs c = true) {ac : ACo} (hc : acomp P fn.ntmps hs c = ac) {rs : List ARes} (hrs : compRes P fn.results.toList = some rs)
    {xs : List AV} {h : List AB} {K : AV → List AB → Prop} (hl : xs.length ≤ fn.ntmps)
    (H : fawp (ACalls P) h.length ac (ffin rs (fun r h' => ∃ r2 h2 sel, Cut h.length sel h' h2 ∧ LnK sel h' h2 r r2 ∧ K r2 h2)) (eArgs xs) h) : ACall P f xs h K := by
  refine ACall.wk (acall_of hm hf hb hn hk hc hrs hl (awp_mono (ACalls.mono P) _ (fun x e h' hh => ?_) (fawp_ok (ACalls.mono P) _ H)))
  cases x with
  | normal => exact fares_ok rs (fun _ h => ffins_e h) hh
  | ret => exact fares_ok rs (fun _ h => ffins_e h) hh
  | exit id => exact hh
end Go.Proofs.Ytomkjfhepfinhaa

namespace Go.Proofs.Ytomkjfhepfinhaa
open Go.RowKit

theorem Fits.in64 {n : Int} {K : Int → Prop} (hn : -9223372036854775808 ≤ n ∧ n ≤ 9223372036854775807) (h : K n) : Fits .i64 n K := ⟨by
  have : IntKind.i64.wrap n = n := IntWalk.i64_in n (by omega)
  rw [this]; exact h⟩
theorem Fits.any {k : IntKind} {n : Int} {K : Int → Prop} (h : K (k.wrap n)) : Fits k n K := ⟨h⟩
theorem FIdx.lit {j n : Nat} {K : Nat → Prop} [OfNat Int j] (he : (OfNat.ofNat j : Int) = ((j : Nat) : Int)) (hk : j < n) (h : K j) : FIdx (OfNat.ofNat j) n K := by
  rw [he]; exact FIdx.nat hk h
theorem FIdx.int {j : Int} {n : Nat} {K : Nat → Prop} (hj : 0 ≤ j ∧ j < n) (h : K j.toNat) : FIdx j n K := ⟨hj, h⟩
theorem FTo.int {j : Int} {n : Nat} {K : Nat → Prop} (hj : 0 ≤ j ∧ j ≤ n) (h : K j.toNat) : FTo j n K := ⟨hj, h⟩

theorem Ln.sameB {σ : Nat → Nat → Prop} {Bp : Nat → Prop} {H : List AB} (v : AV) (h : v.pureB = true) : Ln σ Bp H v v := .same v (pureB_ok v h)
theorem Ln.int {σ : Nat → Nat → Prop} {Bp : Nat → Prop} {H : List AB} {k : IntKind} {a b : Int} (e : a = b) : Ln σ Bp H (.int k a) (.int k b) := e ▸ .same _ trivial
theorem Ln.bool {σ : Nat → Nat → Prop} {Bp : Nat → Prop} {H : List AB} {a b : Bool} (e : a = b) : Ln σ Bp H (.bool a) (.bool b) := e ▸ .same _ trivial
theorem Ln.ownE {σ : Nat → Nat → Prop} {Bp : Nat → Prop} {H : List AB} {d i n n' : Nat} (h : σ d i) (e : n = n') : Ln σ Bp H (.own d n) (.own i n') := e ▸ .own d n i h
theorem Ln.pubE {σ : Nat → Nat → Prop} {Bp : Nat → Prop} {H : List AB} {d n n' N sz : Nat} {c c' : Nat → Nat → AV} (h : Bp d) (hd : H[d]? = some (.row N sz c)) (hn : n ≤ N) (e : n = n') (hc : ∀ k, k < n → ∀ o, o < sz → c' k o = c k o) : Ln σ Bp H (.own d n) (.sl false false n' sz c') := e ▸ .pub d n N sz c c' h hd hn hc
/-- The first m of two tables. -/
def LnN (σ : Nat → Nat → Prop) (Bp : Nat → Prop) (H : List AB) : Nat → (Nat → AV) → (Nat → AV) → Prop
  | 0, _, _ => True
  | m + 1, c, c' => LnN σ Bp H m c c' ∧ Ln σ Bp H (c m) (c' m)
theorem LnN.get {σ : Nat → Nat → Prop} {Bp : Nat → Prop} {H : List AB} {c c' : Nat → AV} : ∀ {m : Nat}, LnN σ Bp H m c c' → ∀ i, i < m → Ln σ Bp H (c i) (c' i)
  | m + 1, h, i, hi => by
    by_cases e : i = m
    · subst e; exact h.2
    · exact h.1.get i (by omega)
theorem Ln.aggN {σ : Nat → Nat → Prop} {Bp : Nat → Prop} {H : List AB} {m : Nat} {c c' : Nat → AV} (h : LnN σ Bp H m c c') : Ln σ Bp H (.agg m c) (.agg m c') := .agg m c c' h.get
theorem Ln.tupN {σ : Nat → Nat → Prop} {Bp : Nat → Prop} {H : List AB} {m : Nat} {c c' : Nat → AV} (h : LnN σ Bp H m c c') : Ln σ Bp H (.tup m c) (.tup m c') := .tup m c c' h.get
theorem Ln.fnN {σ : Nat → Nat → Prop} {Bp : Nat → Prop} {H : List AB} {f : FuncId} {m : Nat} {c c' : Nat → AV} (h : LnN σ Bp H m c c') : Ln σ Bp H (.fn f m c) (.fn f m c') := .fn f m c c' h.get
theorem LnB.boxN {σ : Nat → Nat → Prop} {Bp : Nat → Prop} {H : List AB} {m : Nat} {c c' : Nat → AV} (h : LnN σ Bp H m c c') : LnB σ Bp H (.box m c) (.box m c') := ⟨rfl, h.get⟩
theorem LnB.rowS {σ : Nat → Nat → Prop} {Bp : Nat → Prop} {H : List AB} {n sz : Nat} {c : Nat → Nat → AV} : LnB σ Bp H (.row n sz c) (.row n sz c) := ⟨rfl, Nat.le_refl _, fun _ _ _ _ => rfl⟩
theorem LnB.rowE {σ : Nat → Nat → Prop} {Bp : Nat → Prop} {H : List AB} {n n' sz : Nat} {c c' : Nat → Nat → AV} (hn : n' ≤ n) (hc : ∀ k, k < n' → ∀ o, o < sz → c' k o = c k o) : LnB σ Bp H (.row n sz c) (.row n' sz c') := ⟨rfl, hn, hc⟩
/-- A row to which one element was appended. -/
theorem LnB.app {σ : Nat → Nat → Prop} {Bp : Nat → Prop} {H : List AB} {n sz : Nat} {c g : Nat → Nat → AV} {z : Nat → Nat → AV} {v : AV} (hg : ∀ k, k < n → ∀ o, o < sz → g k o = c k o) (hv : ∀ o, o < sz → g n o = elemC v o) : LnB σ Bp H (.row (n + 1) sz (appc n c (bslC z [(0, v)]))) (.row (n + 1) sz g) := by
  refine ⟨rfl, Nat.le_refl _, fun k hk o ho => ?_⟩
  simp only [appc, bslC, updRm]
  by_cases h : k < n
  · rw [if_pos h]; exact hg k h o ho
  · have : k = n := by omega
    subst this
    rw [if_neg h, if_pos (Nat.sub_self _)]; exact hv o ho
/-- The blocks that are kept, one by one. -/
def CutL (sel : List Nat) (h h2 : List AB) : List Nat → List AB → Prop
  | [], [] => True
  | d :: ds, y :: ys => d < h.length ∧ (y = .dead ∨ ∃ x, h[d]? = some x ∧ LnB (fun d i => sel[i]? = some d) (fun d => ∀ i, sel[i]? = some d → ¬ live h2 i) h x y) ∧ CutL sel h h2 ds ys
  | _, _ => False
theorem CutL.get {sel : List Nat} {h h2 : List AB} : ∀ {ds : List Nat} {ys : List AB}, CutL sel h h2 ds ys → ds.length = ys.length ∧ ∀ (i d : Nat) (y : AB), ds[i]? = some d → ys[i]? = some y → d < h.length ∧ (y = .dead ∨ ∃ x, h[d]? = some x ∧ LnB (fun d i => sel[i]? = some d) (fun d => ∀ i, sel[i]? = some d → ¬ live h2 i) h x y)
  | [], [], _ => ⟨rfl, fun i d y hd => by simp at hd⟩
  | [], _ :: _, hh => hh.elim
  | _ :: _, [], hh => hh.elim
  | d :: ds, y :: ys, hh => by
    obtain ⟨a, b⟩ := CutL.get hh.2.2
    refine ⟨by simp [a], fun i d' z hd hz => ?_⟩
    cases i with
    | zero =>
      simp only [List.getElem?_cons_zero, Option.some.injEq] at hd hz
      subst hd; subst hz
      exact ⟨hh.1, hh.2.1⟩
    | succ i => exact b i d' z hd hz
def idsB (N : Nat) (sel : List Nat) : Bool := (List.range N).all fun i => sel[i]? == some i
def nodupB : List Nat → Bool
  | [] => true
  | x :: xs => !xs.contains x && nodupB xs
theorem nodupB_ok : ∀ {l : List Nat}, nodupB l = true → l.Nodup
  | [], _ => List.nodup_nil
  | x :: xs, h => by
    simp only [nodupB, Bool.and_eq_true, Bool.not_eq_true', List.contains_eq_mem, decide_eq_false_iff_not] at h
    exact List.nodup_cons.2 ⟨h.1, nodupB_ok h.2⟩
theorem Cut.of {N : Nat} {sel : List Nat} {h h2 : List AB} (hN : N ≤ h2.length) (hid : idsB N sel = true) (hnd : nodupB sel = true) (hc : CutL sel h h2 sel h2) : Cut N sel h h2 :=
  ⟨hN, hc.get.1, nodupB_ok hnd, fun i hi => by simp only [idsB, List.all_eq_true, List.mem_range, beq_iff_eq] at hid; exact hid i hi, hc.get.2⟩
theorem Cut.nil (h : List AB) : Cut 0 [] h [] := ⟨Nat.zero_le _, rfl, List.nodup_nil, fun i hi => by omega, fun i d x hd => by simp at hd⟩
theorem CutL.turned {sel : List Nat} {h h2 : List AB} {d : Nat} {x y : AB} {ds : List Nat} {ys : List AB} (hd : h[d]? = some x) (hx : LnB (fun d i => sel[i]? = some d) (fun d => ∀ i, sel[i]? = some d → ¬ live h2 i) h x y) (hr : CutL sel h h2 ds ys) : CutL sel h h2 (d :: ds) (y :: ys) := by
  refine ⟨?_, .inr ⟨x, hd, hx⟩, hr⟩
  rcases Nat.lt_or_ge d h.length with h' | h'
  · exact h'
  · rw [List.getElem?_eq_none h'] at hd; cases hd
theorem CutL.gone {sel : List Nat} {h h2 : List AB} {d : Nat} {ds : List Nat} {ys : List AB} (hd : d < h.length) (hr : CutL sel h h2 ds ys) : CutL sel h h2 (d :: ds) (.dead :: ys) := ⟨hd, .inl rfl, hr⟩
theorem CutL.done {sel : List Nat} {h h2 : List AB} : CutL sel h h2 [] [] := trivial
/-- A block that is not kept may be read. -/
theorem goneB {sel : List Nat} {h2 : List AB} {d : Nat} (h : sel.contains d = false) : ∀ i, sel[i]? = some d → ¬ live h2 i := fun i hi => by
  have := List.mem_of_getElem? hi
  simp only [List.contains_eq_mem, decide_eq_false_iff_not] at h
  exact (h this).elim

/-- A call of a function that changes nothing and makes nothing that stays. -/
theorem FCall.pure {P : Program} {f : FuncId} {xs xs' : List AV} {H : List AB} {K : AV → List AB → Prop} {R : AV} (con : ACall P f xs' [] (fun r h => r = R ∧ h = [])) (hx : LnL (fun d i => ([] : List Nat)[i]? = some d) (fun d => d ∈ ([] : List Nat)) H xs xs') (hR : R.pureB = true) (h : K R H) : FCall (ACalls P) f xs H K := by
  refine ⟨ACall.at [] [] con (by simp) rfl (by simp) (fun i d x h => by simp at h) hx ?_⟩
  rintro r h2 ⟨rfl, rfl⟩
  refine ⟨Nat.le_refl _, .inl rfl, ?_⟩
  rw [ren_pure _ hR]
  have : Proofs.Ytomkjfhepfinhaa.put [] H [] = H := by simp [Proofs.Ytomkjfhepfinhaa.put, puts]
  rw [this]; exact h
/-- The same, with blocks lent to be read. -/
theorem FCall.lend {P : Program} {f : FuncId} {xs xs' : List AV} {H : List AB} {K : AV → List AB → Prop} {R : AV} (B : List Nat) (con : ACall P f xs' [] (fun r h => r = R ∧ h = [])) (hx : LnL (fun d i => ([] : List Nat)[i]? = some d) (fun d => d ∈ B) H xs xs') (hR : R.pureB = true) (hf : R.flat) (h : K R H) : FCall (ACalls P) f xs H K := by
  refine ⟨ACall.at [] B con (by simp) rfl (by simp) (fun i d x h => by simp at h) hx ?_⟩
  rintro r h2 ⟨rfl, rfl⟩
  refine ⟨Nat.le_refl _, .inr ⟨hf, fun x hx => by cases hx⟩, ?_⟩
  rw [ren_pure _ hR]
  have : Proofs.Ytomkjfhepfinhaa.put [] H [] = H := by simp [Proofs.Ytomkjfhepfinhaa.put, puts]
  rw [this]; exact h
/-- A state of which just some temporaries are known. -/
def slots : List (Nat × AV) → Env
  | [], _ => .bot
  | (k, v) :: r, t => if t = k then v else slots r t
def SlotsL (sel : List Nat) (h h2 : List AB) : List (Nat × AV) → Env → Prop
  | [], _ => True
  | (k, v) :: r, e => LnK sel h h2 (e k) v ∧ SlotsL sel h h2 r e
theorem SlotsL.get {sel : List Nat} {h h2 : List AB} {e : Env} : ∀ {l : List (Nat × AV)}, SlotsL sel h h2 l e → ∀ t, LnK sel h h2 (e t) (slots l t)
  | [], _, t => .bot _
  | (k, v) :: r, hh, t => by
    simp only [slots]
    split
    · rename_i e1; subst e1; exact hh.1
    · exact hh.2.get t
theorem FWk.of {N id : Nat} {K : Env → List AB → Prop} {e : Env} {h : List AB} (l : List (Nat × AV)) (h2 : List AB) (sel : List Nat) (hc : Cut N sel h h2) (hs : SlotsL sel h h2 l e) (H : K (slots l) h2) : FWk N id K e h := ⟨_, _, Wk.gen hc hs.get, H⟩
/-- A round of a loop has come to its end. -/
structure LEnd {X : Type} (N : Nat) (S : X → List (Nat × AV)) (H : X → List AB) (Inv : X → Prop) (μ : X → Nat) (x : X) (e : Env) (h : List AB) : Prop where
  ex : ∃ x', Inv x' ∧ μ x' < μ x ∧ ∃ sel, Cut N sel h (H x') ∧ SlotsL sel h (H x') (S x') e
theorem FLoop.ofA {C : CallP} (hC : C.Mono) {N : Nat} {c : ACo} {Q : AEx → Env → List AB → Prop} {e : Env} {h : List AB} {X : Type} (S : X → List (Nat × AV)) (H : X → List AB) (Inv : X → Prop) (μ : X → Nat) (x0 : X)
    (start : Inv x0 ∧ ∃ sel, Cut N sel h (H x0) ∧ SlotsL sel h (H x0) (S x0) e)
    (round : ∀ x, Inv x → awp C N c (AEx.then (LEnd N S H Inv μ x) Q) (slots (S x)) (H x)) : FLoop C N c Q e h := by
  have ex : ∀ (e : Env) (h : List AB), (∃ x, Inv x ∧ e = slots (S x) ∧ h = H x) → ∃ y, (Inv y ∧ e = slots (S y) ∧ h = H y) ∧ ∀ x, Inv x → e = slots (S x) → h = H x → μ y ≤ μ x := by
    intro e h ⟨x, hx⟩
    induction hk : μ x using Nat.strongRecOn generalizing x with
    | _ k ih =>
      by_cases hlt : ∃ x', μ x' < k ∧ Inv x' ∧ e = slots (S x') ∧ h = H x'
      · obtain ⟨x', h1, h2⟩ := hlt
        exact ih (μ x') h1 x' h2 rfl
      · refine ⟨x, hx, fun x' i1 i2 i3 => Nat.le_of_not_lt fun h => hlt ⟨x', by omega, i1, i2, i3⟩⟩
  let M : Env → List AB → Nat := fun e h => open Classical in if hh : ∃ x, Inv x ∧ e = slots (S x) ∧ h = H x then μ (ex e h hh).choose else 0
  have hM : ∀ (e : Env) (h : List AB) (hh : ∃ x, Inv x ∧ e = slots (S x) ∧ h = H x), M e h = μ (ex e h hh).choose := fun e h hh => by
    simp only [M]
    rw [dif_pos hh]
  refine ⟨fun e h => ∃ x, Inv x ∧ e = slots (S x) ∧ h = H x, M, ⟨_, _, Wk.gen start.2.choose_spec.1 start.2.choose_spec.2.get, x0, start.1, rfl, rfl⟩, ?_⟩
  intro e1 h1 hh1
  obtain ⟨⟨hy1, hy2, hy3⟩, _⟩ := (ex e1 h1 hh1).choose_spec
  have e2 := hM e1 h1 hh1
  generalize (ex e1 h1 hh1).choose = y at *
  subst hy2
  subst hy3
  refine awp_mono hC c (fun ax e' h' hh => ?_) (round y hy1)
  cases ax with
  | normal =>
    obtain ⟨x', i1, i2, sel, i3, i4⟩ := hh.ex
    refine ⟨_, _, Wk.gen i3 i4.get, ⟨x', i1, rfl, rfl⟩, ?_⟩
    have hex' : ∃ x, Inv x ∧ slots (S x') = slots (S x) ∧ H x' = H x := ⟨x', i1, rfl, rfl⟩
    rw [e2, hM _ _ hex']
    exact Nat.lt_of_le_of_lt ((ex _ _ hex').choose_spec.2 x' i1 rfl rfl) i2
  | exit id => exact hh
  | ret => exact hh
theorem then_mono {A B : Env → List AB → Prop} {Q : AEx → Env → List AB → Prop} (h : ∀ e h, A e h → B e h) : ∀ x e h', AEx.then A Q x e h' → AEx.then B Q x e h' := fun x e h' hh => by
  cases x with
  | normal => exact h _ _ hh
  | exit id => exact hh
  | ret => exact hh
theorem FLoop.of {C : CallP} (hC : C.Mono) {N : Nat} {c : ACo} {Q : AEx → Env → List AB → Prop} {e : Env} {h : List AB} {X : Type} (S : X → List (Nat × AV)) (H : X → List AB) (Inv : X → Prop) (μ : X → Nat) (x0 : X)
    (start : Inv x0 ∧ ∃ sel, Cut N sel h (H x0) ∧ SlotsL sel h (H x0) (S x0) e)
    (round : ∀ x, Inv x → fawp C N c (AEx.then (LEnd N S H Inv μ x) Q) (slots (S x)) (H x)) : FLoop C N c Q e h :=
  FLoop.ofA hC S H Inv μ x0 start fun x hx => fawp_ok hC c (round x hx)
structure LEnd2 {X Y : Type} (N : Nat) (S : X → Y → List (Nat × AV)) (H : X → Y → List AB) (Inv : X → Y → Prop) (μ : X → Y → Nat) (x : X) (y : Y) (e : Env) (h : List AB) : Prop where
  ex : ∃ x' y', Inv x' y' ∧ μ x' y' < μ x y ∧ ∃ sel, Cut N sel h (H x' y') ∧ SlotsL sel h (H x' y') (S x' y') e
theorem FLoop.of2 {C : CallP} (hC : C.Mono) {N : Nat} {c : ACo} {Q : AEx → Env → List AB → Prop} {e : Env} {h : List AB} {X Y : Type} (S : X → Y → List (Nat × AV)) (H : X → Y → List AB) (Inv : X → Y → Prop) (μ : X → Y → Nat) (x0 : X) (y0 : Y)
    (start : Inv x0 y0 ∧ ∃ sel, Cut N sel h (H x0 y0) ∧ SlotsL sel h (H x0 y0) (S x0 y0) e)
    (round : ∀ x y, Inv x y → fawp C N c (AEx.then (LEnd2 N S H Inv μ x y) Q) (slots (S x y)) (H x y)) : FLoop C N c Q e h :=
  FLoop.ofA hC (fun p : X × Y => S p.1 p.2) (fun p => H p.1 p.2) (fun p => Inv p.1 p.2) (fun p => μ p.1 p.2) (x0, y0) start fun p hp =>
    awp_mono hC c (then_mono fun _ _ ⟨x', y', h⟩ => ⟨(x', y'), h⟩) (fawp_ok hC c (round p.1 p.2 hp))
structure LEnd3 {X Y Z : Type} (N : Nat) (S : X → Y → Z → List (Nat × AV)) (H : X → Y → Z → List AB) (Inv : X → Y → Z → Prop) (μ : X → Y → Z → Nat) (x : X) (y : Y) (z : Z) (e : Env) (h : List AB) : Prop where
  ex : ∃ x' y' z', Inv x' y' z' ∧ μ x' y' z' < μ x y z ∧ ∃ sel, Cut N sel h (H x' y' z') ∧ SlotsL sel h (H x' y' z') (S x' y' z') e
theorem FLoop.of3 {C : CallP} (hC : C.Mono) {N : Nat} {c : ACo} {Q : AEx → Env → List AB → Prop} {e : Env} {h : List AB} {X Y Z : Type} (S : X → Y → Z → List (Nat × AV)) (H : X → Y → Z → List AB) (Inv : X → Y → Z → Prop) (μ : X → Y → Z → Nat) (x0 : X) (y0 : Y) (z0 : Z)
    (start : Inv x0 y0 z0 ∧ ∃ sel, Cut N sel h (H x0 y0 z0) ∧ SlotsL sel h (H x0 y0 z0) (S x0 y0 z0) e)
    (round : ∀ x y z, Inv x y z → fawp C N c (AEx.then (LEnd3 N S H Inv μ x y z) Q) (slots (S x y z)) (H x y z)) : FLoop C N c Q e h :=
  FLoop.ofA hC (fun p : X × Y × Z => S p.1 p.2.1 p.2.2) (fun p => H p.1 p.2.1 p.2.2) (fun p => Inv p.1 p.2.1 p.2.2) (fun p => μ p.1 p.2.1 p.2.2) (x0, y0, z0) start fun p hp =>
    awp_mono hC c (then_mono fun _ _ ⟨x', y', z', h⟩ => ⟨(x', y', z'), h⟩) (fawp_ok hC c (round p.1 p.2.1 p.2.2 hp))
structure LEnd4 {X Y Z V : Type} (N : Nat) (S : X → Y → Z → V → List (Nat × AV)) (H : X → Y → Z → V → List AB) (Inv : X → Y → Z → V → Prop) (μ : X → Y → Z → V → Nat) (x : X) (y : Y) (z : Z) (v : V) (e : Env) (h : List AB) : Prop where
  ex : ∃ x' y' z' v', Inv x' y' z' v' ∧ μ x' y' z' v' < μ x y z v ∧ ∃ sel, Cut N sel h (H x' y' z' v') ∧ SlotsL sel h (H x' y' z' v') (S x' y' z' v') e
theorem FLoop.of4 {C : CallP} (hC : C.Mono) {N : Nat} {c : ACo} {Q : AEx → Env → List AB → Prop} {e : Env} {h : List AB} {X Y Z V : Type} (S : X → Y → Z → V → List (Nat × AV)) (H : X → Y → Z → V → List AB) (Inv : X → Y → Z → V → Prop) (μ : X → Y → Z → V → Nat) (x0 : X) (y0 : Y) (z0 : Z) (v0 : V)
    (start : Inv x0 y0 z0 v0 ∧ ∃ sel, Cut N sel h (H x0 y0 z0 v0) ∧ SlotsL sel h (H x0 y0 z0 v0) (S x0 y0 z0 v0) e)
    (round : ∀ x y z v, Inv x y z v → fawp C N c (AEx.then (LEnd4 N S H Inv μ x y z v) Q) (slots (S x y z v)) (H x y z v)) : FLoop C N c Q e h :=
  FLoop.ofA hC (fun p : X × Y × Z × V => S p.1 p.2.1 p.2.2.1 p.2.2.2) (fun p => H p.1 p.2.1 p.2.2.1 p.2.2.2) (fun p => Inv p.1 p.2.1 p.2.2.1 p.2.2.2) (fun p => μ p.1 p.2.1 p.2.2.1 p.2.2.2) (x0, y0, z0, v0) start fun p hp =>
    awp_mono hC c (then_mono fun _ _ ⟨x', y', z', v', h⟩ => ⟨(x', y', z', v'), h⟩) (fawp_ok hC c (round p.1 p.2.1 p.2.2.1 p.2.2.2 hp))
/-- A round of a loop over a function has come to its end. -/
structure REnd {X : Type} (N : Nat) (e1 : Env) (S : X → List (Nat × AV)) (H : X → List AB) (Inv : X → Prop) (h : List AB) : Prop where
  ex : ∃ x', Inv x' ∧ ∃ sel, Cut N sel h (H x') ∧ SlotsL sel h (H x') (S x') e1
def rfC {X : Type} (N : Nat) (e1 : Env) (S : X → List (Nat × AV)) (H : X → List AB) (Inv : X → Prop) (Q : AEx → Env → List AB → Prop) : AEx → Env → List AB → Prop
  | .normal, _, h => REnd N e1 S H Inv h
  | .exit id, _, h => Q (.exit id) e1 h
  | .ret, _, h => Q .ret e1 h
theorem FRange.of {C : CallP} (hC : C.Mono) {N : Nat} {it : AX} {ps : List Nat} {a b : ACo} {Q : AEx → Env → List AB → Prop} {e : Env} {h : List AB} {X : Type} (len : Nat) (Lf : Nat → List AV) (S : X → List (Nat × AV)) (H : X → List AB) (Inv : Nat → X → Prop) (x0 : X)
    (start : Inv 0 x0 ∧ ∃ sel, Cut N sel h (H x0) ∧ SlotsL sel h (H x0) (S x0) e)
    {gf m : Nat} {c : Nat → AV} (hit : it.ev (slots (S x0)) = .fn gf m c) (hp : ((List.range m).all fun i => (c i).pureB) = true) (hit2 : C.iter gf ((List.range m).map c) ((List.range len).map Lf)) (hl : ∀ k, k < len → (Lf k).length = ps.length)
    (round : ∀ k x, k < len → Inv k x → fawp C (H x).length a (rfA fun e h => fawp C (H x).length b (rfC (H x0).length (slots (S x)) S H (Inv (k + 1)) Q) e h) (putL (slots (S x)) ps (Lf k)) (H x))
    (done : ∀ x, Inv len x → Q .normal (slots (S x)) (H x)) : FRange C N it ps a b Q e h := by
  obtain ⟨h1, sel, h2, h3⟩ := start
  refine ⟨slots (S x0), H x0, gf, m, c, (List.range len).map Lf, fun k e h => ∃ x, Inv k x ∧ e = slots (S x) ∧ h = H x, Wk.gen h2 h3.get, ⟨x0, h1, rfl, rfl⟩, hit, fun i hi => pureB_ok _ (by simp only [List.all_eq_true, List.mem_range] at hp; exact hp i hi), hit2, fun y hy => ?_, ?_, ?_⟩
  · obtain ⟨k, hk, rfl⟩ := List.mem_map.1 hy
    exact hl k (by simpa using hk)
  · rintro k _ _ hk ⟨x, hx, rfl, rfl⟩
    have hk' : k < len := by simpa using hk
    have e1 : ((List.range len).map Lf).getD k [] = Lf k := by simp [List.getD, hk']
    rw [e1]
    refine awp_mono hC a (rfA_mono fun e h hh => awp_mono hC b (fun y e h hh => ?_) (fawp_ok hC b hh)) (fawp_ok hC a (round k x hk' hx))
    cases y with
    | normal =>
      obtain ⟨x', i1, sel, i2, i3⟩ := hh.ex
      exact ⟨_, _, Wk.gen i2 i3.get, x', i1, rfl, rfl⟩
    | exit id => exact hh
    | ret => exact hh
  · rintro _ _ ⟨x, hx, rfl, rfl⟩
    exact done x (by simpa using hx)
theorem zA {p : Prop} [Decidable p] : (decide p = true) = p := decide_eq_true_eq
theorem zB (a b : Bool) : ((a && b) = true) = (a = true ∧ b = true) := Bool.and_eq_true a b
theorem zC (a b : Bool) : ((a || b) = true) = (a = true ∨ b = true) := Bool.or_eq_true a b
theorem zD (b : Bool) : ((!b) = true) = (b = false) := Bool.not_eq_true' b
theorem zE {p : Prop} [Decidable p] : decide p = false ↔ ¬p := decide_eq_false_iff_not
theorem zF {α : Type} [BEq α] [LawfulBEq α] {a b : α} : (a != b) = true ↔ a ≠ b := bne_iff_ne
theorem zG {α : Type} [BEq α] [LawfulBEq α] {a b : α} : (a == b) = true ↔ a = b := beq_iff_eq
theorem zH {a b : Bool} : (a && b) = false ↔ a = false ∨ b = false := Bool.and_eq_false_iff
theorem zI {a b : Bool} : (a || b) = false ↔ a = false ∧ b = false := Bool.or_eq_false_iff
theorem zJ (b : Bool) : ((!b) = false) = (b = true) := Bool.not_eq_false' b
end Go.Proofs.Ytomkjfhepfinhaa

namespace Go.Proofs.Ytomkjfhepfinhaa
open Go.RowKit

/-- The caller's names for what a callee names, computed before one goes on. -/
def frensL (K1 : AV → (AV → Prop) → Prop) : List AV → (List AV → Prop) → Prop
  | [], K => K []
  | v :: vs, K => K1 v fun v' => frensL K1 vs fun vs' => K (v' :: vs')
def fren (sel : List Nat) (N : Nat) : Nat → AV → (AV → Prop) → Prop
  | 0, v, K => frc (ren sel N v) K
  | _ + 1, .own d n, K => nlit (tau sel N d) fun d' => K (.own d' n)
  | _ + 1, .ptr d o, K => nlit (tau sel N d) fun d' => K (.ptr d' o)
  | _ + 1, .rp d sz k o, K => nlit (tau sel N d) fun d' => K (.rp d' sz k o)
  | _ + 1, .osl d sz lo n, K => nlit (tau sel N d) fun d' => K (.osl d' sz lo n)
  | D + 1, .fn f m c, K => match (AV.fn f m c).pureB with
    | true => K (.fn f m c)
    | false => frensL (fren sel N D) ((List.range m).map c) fun vs => K (.fn f m (ofL vs))
  | D + 1, .agg m c, K => match (AV.agg m c).pureB with
    | true => K (.agg m c)
    | false => frensL (fren sel N D) ((List.range m).map c) fun vs => K (.agg m (ofL vs))
  | D + 1, .tup m c, K => match (AV.tup m c).pureB with
    | true => K (.tup m c)
    | false => frensL (fren sel N D) ((List.range m).map c) fun vs => K (.tup m (ofL vs))
  | _ + 1, v, K => frc (ren sel N v) K
theorem frensL_e {K1 : AV → (AV → Prop) → Prop} {r : AV → AV} (h1 : ∀ v K, K1 v K → K (r v)) : ∀ {vs : List AV} {K : List AV → Prop}, frensL K1 vs K → K (vs.map r)
  | [], _, h => h
  | _ :: _, K, h => frensL_e h1 (K := fun vs' => K (_ :: vs')) (h1 _ _ h)
theorem fren_e {sel : List Nat} {N : Nat} : ∀ (D : Nat) (v : AV) {K : AV → Prop}, fren sel N D v K → K (ren sel N v)
  | 0, v, K, h => frc_e h
  | D + 1, v, K, h => by
    cases v
    case own => exact nlit_e h
    case ptr => exact nlit_e h
    case rp => exact nlit_e h
    case osl => exact nlit_e h
    case fn f m c =>
      simp only [fren] at h
      simp only [ren]
      split at h
      · rename_i hp; rw [hp]; exact h
      · rename_i hp
        rw [hp]
        have := frensL_e (fun v K hh => fren_e D v hh) h
        rw [List.map_map] at this
        exact this
    case agg m c =>
      simp only [fren] at h
      simp only [ren]
      split at h
      · rename_i hp; rw [hp]; exact h
      · rename_i hp
        rw [hp]
        have := frensL_e (fun v K hh => fren_e D v hh) h
        rw [List.map_map] at this
        exact this
    case tup m c =>
      simp only [fren] at h
      simp only [ren]
      split at h
      · rename_i hp; rw [hp]; exact h
      · rename_i hp
        rw [hp]
        have := frensL_e (fun v K hh => fren_e D v hh) h
        rw [List.map_map] at this
        exact this
    all_goals exact frc_e h
def frenB (sel : List Nat) (N : Nat) (x : AB) (K : AB → Prop) : Prop := match x with
  | .dead => K .dead
  | .box m c => frensL (fren sel N 3) ((List.range m).map c) fun vs => K (.box m (ofL vs))
  | .row n sz c => K (.row n sz c)
theorem frenB_e {sel : List Nat} {N : Nat} {x : AB} {K : AB → Prop} (h : frenB sel N x K) : K (renB sel N x) := by
  cases x with
  | dead => exact h
  | box m c =>
    have := frensL_e (fun v K hh => fren_e 3 v hh) h
    rw [List.map_map] at this
    exact this
  | row n sz c => exact h
def frenBs (sel : List Nat) (N : Nat) : List AB → (List AB → Prop) → Prop
  | [], K => K []
  | x :: xs, K => frenB sel N x fun y => frenBs sel N xs fun ys => K (y :: ys)
theorem frenBs_e {sel : List Nat} {N : Nat} : ∀ {xs : List AB} {K : List AB → Prop}, frenBs sel N xs K → K (xs.map (renB sel N))
  | [], _, h => h
  | _ :: _, K, h => frenBs_e (K := fun ys => K (_ :: ys)) (frenB_e h)
def fputs (sel : List Nat) (N : Nat) : List Nat → List AB → List AB → (List AB → Prop) → Prop
  | d :: ds, x :: xs, H, K => frenB sel N x fun y => frcH (H.set d y) fun H' => fputs sel N ds xs H' K
  | [], xs, H, K => frenBs sel N xs fun ys => frcH (H ++ ys) K
  | _ :: _, [], H, K => K H
theorem fputs_e {sel : List Nat} {N : Nat} : ∀ {ds : List Nat} {xs H : List AB} {K : List AB → Prop}, fputs sel N ds xs H K → K (puts N sel ds xs H)
  | _ :: ds, _ :: xs, _, _, h => fputs_e (ds := ds) (xs := xs) (frcH_e (frenB_e h))
  | [], xs, H, K, h => by
    have := frcH_e (frenBs_e h)
    simpa [puts] using this
  | _ :: _, [], _, _, h => h
def GivL (sel : List Nat) (H : List AB) : List Nat → List AB → Prop
  | [], [] => True
  | d :: ds, x :: xs => (∃ y, H[d]? = some y ∧ x.live ∧ LnB (fun d i => sel[i]? = some d) (fun _ => False) H y x) ∧ GivL sel H ds xs
  | _, _ => False
theorem GivL.get {sel : List Nat} {H : List AB} : ∀ {ds : List Nat} {xs : List AB}, GivL sel H ds xs → ds.length = xs.length ∧ ∀ (i d : Nat) (x : AB), ds[i]? = some d → xs[i]? = some x → ∃ y, H[d]? = some y ∧ x.live ∧ LnB (fun d i => sel[i]? = some d) (fun _ => False) H y x
  | [], [], _ => ⟨rfl, fun i d x h => by simp at h⟩
  | [], _ :: _, h => h.elim
  | _ :: _, [], h => h.elim
  | d :: ds, x :: xs, h => by
    obtain ⟨a, b⟩ := GivL.get h.2
    refine ⟨by simp [a], fun i d' y hd hy => ?_⟩
    cases i with
    | zero =>
      simp only [List.getElem?_cons_zero, Option.some.injEq] at hd hy
      subst hd; subst hy
      exact h.1
    | succ i => exact b i d' y hd hy
theorem FCall.give {P : Program} {f : FuncId} {xs xs' : List AV} {H h' : List AB} {K' K : AV → List AB → Prop} (sel B : List Nat) (con : ACall P f xs' h' K') (hnd : nodupB sel = true) (hBs : (B.all fun d => !sel.contains d) = true)
    (hh : GivL sel H sel h') (hx : LnL (fun d i => sel[i]? = some d) (fun d => d ∈ B) H xs xs')
    (hK : ∀ r h2, K' r h2 → sel.length ≤ h2.length ∧ (B = [] ∨ (r.flat ∧ ∀ x ∈ h2, x.flat)) ∧ nlit H.length fun N => fren sel N 3 r fun r' => fputs sel N sel h2 H fun H' => K r' H') : FCall (ACalls P) f xs H K := by
  refine ⟨ACall.at sel B con (nodupB_ok hnd) hh.get.1 (fun d hd hs => ?_) hh.get.2 hx fun r h2 hk => ?_⟩
  · simp only [List.all_eq_true, Bool.not_eq_true', List.contains_eq_mem, decide_eq_false_iff_not] at hBs
    exact hBs d hd hs
  · obtain ⟨a, b, c⟩ := hK r h2 hk
    have c := nlit_e c
    exact ⟨a, b, fputs_e (K := fun H' => K _ H') (fren_e 3 _ (K := fun r' => fputs sel H.length sel h2 H fun H' => K r' H') c)⟩
/-- A row that a function hands back, to be read only. -/
theorem ACall.pub {P : Program} {f : FuncId} {xs : List AV} {n N sz : Nat} {c : Nat → Nat → AV} (hn : n ≤ N) (H : ACall P f xs [] (fun r h => r = .own 0 n ∧ h = [.row N sz c])) : ACall P f xs [] (fun r h => r = .sl false false n sz c ∧ h = []) :=
  ACall.wk (ACall.mono' P (by rintro _ _ ⟨rfl, rfl⟩; exact ⟨_, [], [], Cut.nil _, Ln.pubE (goneB rfl) rfl hn rfl (fun _ _ _ _ => rfl), rfl, rfl⟩) H)
theorem flat_row {n : Nat} {c : Nat → Nat → AV} (h : ∀ k o, (c k o).flat) : (AB.row n 1 c).flat := fun k _ o _ => h k o
theorem flat_one {x : AB} (h : x.flat) : ∀ y ∈ [x], y.flat := fun y hy => by
  rw [List.mem_singleton.1 hy]; exact h
end Go.Proofs.Ytomkjfhepfinhaa

namespace Go.Proofs.Ytomkjfhepfinhaa
open Go.RowKit

theorem live_dead {H : List AB} {d i : Nat} (h : live (H.set d .dead) i) : live H i ∧ i ≠ d := by
  obtain ⟨x, hx, hl⟩ := h
  by_cases e : d = i
  · subst e
    rw [List.getElem?_set_self'] at hx
    cases hy : H[d]? with
    | none => rw [hy] at hx; cases hx
    | some y => rw [hy] at hx; cases hx; exact hl.elim
  · rw [List.getElem?_set_ne e] at hx
    exact ⟨⟨x, hx, hl⟩, fun h => e h.symm⟩
theorem MO_set {g : GM} {H : List AB} {d b : Nat} (h : MO g (H.set d .dead) b) : MO g H b := by
  obtain ⟨i, cap, hl, hg⟩ := h
  exact ⟨i, cap, (live_dead hl).1, hg⟩
theorem MM_set {F : Nat → Prop} {g : GM} {H : List AB} {d b : Nat} (h : MM F g (H.set d .dead) b) : MM F g H b := h.imp id MO_set
theorem HOK.bury {F : Nat → Prop} {g : GM} {w : World} {H : List AB} (d : Nat) (k : HOK F g w H) : HOK F g w (H.set d .dead) := by
  refine HOK.of_all (fun i hi => k.dom i (by simpa using hi)) (fun i hl => k.lv i (live_dead hl).1) (fun i j b c c' h1 h2 => k.inj i j b c c' (live_dead h1).1 (live_dead h2).1) (fun i b cap x hx hg => ?_) (fun b hF => ⟨(k.fr b hF).1, fun h => (k.fr b hF).2 (MO_set h)⟩)
  by_cases e : d = i
  · subst e
    rw [List.getElem?_set_self'] at hx
    cases hy : H[d]? with
    | none => rw [hy] at hx; cases hx
    | some y => rw [hy] at hx; cases hx; trivial
  · rw [List.getElem?_set_ne e] at hx
    exact (k.all hx hg).mono (Chg.refl _ w) (fun _ _ h => MM_set h) (GM.le_refl _) rfl
theorem FCall.bury {P : Program} {f : FuncId} {xs : List AV} {H : List AB} {K : AV → List AB → Prop} (d : Nat) (xs' : List AV) (hx : LnL (fun a i => a = i ∧ a ≠ d) (fun a => a = d) H xs xs') (h : FCall (ACalls P) f xs' (H.set d .dead) K) : FCall (ACalls P) f xs H K := by
  obtain ⟨h1, h2⟩ := h.h
  refine ⟨h1, fun F g w vs k hs hv => ?_⟩
  obtain ⟨hl, hget⟩ := hx.get
  have kd : ∀ a b cap, a = d → live H a → g a = some (b, cap) → ¬ MM F g (H.set d .dead) b := by
    rintro a b cap rfl hla hga (hF | ⟨i, cap', hli, hgi⟩)
    · exact (k.fr b hF).2 ⟨a, cap, hla, hga⟩
    · have := live_dead hli
      exact this.2 (k.inj i a b cap' cap this.1 hla hgi hga)
  refine (h2 F g w vs (k.bury d) (by omega) (fun i y hy => ?_)).mono ?_
  · obtain ⟨x, hx1, hx2⟩ := hget i y hy
    exact hx2.rep k (fun _ h => MM_set h) (fun a i p hai hga => hai.1 ▸ hga) kd (hv i x hx1)
  · rintro en w' ⟨v, r, h', g', e1, T, e2, e3⟩
    exact ⟨v, r, h', g', e1, ⟨T.ok, T.gle, T.chg.weak (fun _ _ h => MO_set h), fun b hb => (T.new b hb).imp MO_set id⟩, e2, e3⟩
end Go.Proofs.Ytomkjfhepfinhaa

namespace Go.Proofs.Ytomkjfhepfinhaa
open Go.RowKit

theorem FCond.tA {q : Bool} {A B : Prop} (a : A) (h : q = true := by first | assumption | (rw [zA]; omega) | (simp only [zA, zB, zC, zD, zE, zF, zG, ne_eq, *]; done) | (simp only [zA, zB, zC, zD, zE, zF, zG, ne_eq]; omega) | decide | fail) : FCond q A B := .t h a
theorem FCond.fA {q : Bool} {A B : Prop} (b : B) (h : q = false := by first | assumption | (rw [zE]; omega) | (simp only [zE, zH, zI, zJ, zA, *]; done) | (simp only [zE, zH, zI, zJ, zA]; omega) | decide | fail) : FCond q A B := .f h b
theorem needA {p : Prop} (h : p := by first | omega | (unfold maxLen; omega) | (simp only [maxLen, List.length_cons, List.length_map, List.length_range, true_or, or_true, true_and, and_true] <;> omega) | ((conv => whnf); exact ⟨rfl⟩) | ((conv => whnf); (repeat ((first | with_reducible refine FCond.tA ?_ | with_reducible refine FCond.fA ?_ | with_reducible refine Need.mk (by omega) ?_ | with_reducible refine FIdx.nat (by omega) ?_ | with_reducible refine FIdx.int (by omega) ?_); (conv => whnf))); exact ⟨rfl⟩) | fail) : p := h
theorem allA {p : Prop} (h : p := by (repeat (first | exact True.intro | exact Ln.sameB _ rfl | exact Ln.sameB _ (by assumption) | exact Ln.slz _ _ _ _ _ _ _ (by decide) | exact Ln.bot _ | exact Ln.own _ _ _ rfl | exact Ln.ptr _ _ _ rfl | exact Ln.rp _ _ _ _ _ rfl | (refine Ln.int ?_; first | rfl | omega) | (refine Ln.ownE rfl ?_; omega) | (refine Ln.bool ?_; first | assumption | (simp; done)) | exact Ln.pub _ _ _ _ _ _ (goneB rfl) rfl (by omega) (fun _ _ _ _ => rfl) | refine Ln.fnN ?_ | refine Ln.aggN ?_ | refine Ln.tupN ?_ | refine ⟨?_, ?_⟩))) : p := h
theorem Ln.A {σ : Nat → Nat → Prop} {Bp : Nat → Prop} {H : List AB} {v v' : AV} (h : Ln σ Bp H v v' := by first | exact Ln.sameB _ rfl | exact Ln.sameB _ (by assumption) | exact Ln.slz _ _ _ _ _ _ _ (by decide) | exact Ln.bot _ | exact Ln.own _ _ _ rfl | exact Ln.ptr _ _ _ rfl | exact Ln.rp _ _ _ _ _ rfl | (refine Ln.int ?_; first | rfl | omega) | (refine Ln.ownE rfl ?_; omega) | (refine Ln.bool ?_; first | assumption | (simp; done)) | exact Ln.pub _ _ _ _ _ _ (goneB rfl) rfl (by omega) (fun _ _ _ _ => rfl) | (refine Ln.fnN ?_; exact allA) | (refine Ln.aggN ?_; exact allA) | (refine Ln.tupN ?_; exact allA) | fail) : Ln σ Bp H v v' := h
theorem LnB.A {σ : Nat → Nat → Prop} {Bp : Nat → Prop} {H : List AB} {x y : AB} (h : LnB σ Bp H x y := by first | exact LnB.rowS | exact LnB.app (fun _ _ _ _ => rfl) (fun _ _ => rfl) | exact LnB.app (fun k hk => absurd hk (Nat.not_lt_zero k)) (fun _ _ => rfl) | (refine LnB.boxN ?_; exact allA) | fail) : LnB σ Bp H x y := h
theorem Cut.A {N : Nat} {sel : List Nat} {h h2 : List AB} (p : Cut N sel h h2 := by (refine Cut.of (Nat.le_of_ble_eq_true rfl) rfl rfl ?_; repeat (first | exact CutL.done | (refine CutL.turned rfl LnB.A ?_) | (refine CutL.gone (Nat.lt_of_lt_of_le (Nat.lt_succ_self _) (Nat.le_of_ble_eq_true rfl)) ?_)))) : Cut N sel h h2 := p
theorem avB {a b : Bool} (h : a = b := by (rw [Bool.eq_iff_iff]; simp only [decide_eq_true_eq, Bool.false_eq_true, Bool.and_eq_true, Bool.or_eq_true, false_iff, true_iff, iff_true, iff_false]; omega)) : AV.bool a = AV.bool b := congrArg AV.bool h
end Go.Proofs.Ytomkjfhepfinhaa

namespace Go.Proofs.Ytomkjfhepfinhaa
open Go.RowKit

theorem mixed : Try.prog.follows .mixedOrders = true := by kernel_rfl
abbrev AI (n : Int) : AV := .int .i64 n
abbrev AB1 (b : Bool) : AV := .bool b
/-- A span, by value. -/
abbrev aSpan (l h : Int) : AV := .agg 2 (ofL [AI l, AI h])

set_option maxHeartbeats 4000000 in
set_option maxRecDepth 100000 in
theorem within_ok (n lo hi : Int) : ACall Try.prog 42 [AI n, AI lo, AI hi] [] (fun r h => r = .bool (decide (lo ≤ n ∧ n ≤ hi)) ∧ h = []) := by
  (refine fcall_of mixed Try.func42 rfl (by decide) (hs := {}) ?k (ac := ?ac) ?c (rs := ?rs) ?r ?l ?H; (case k => kernel_rfl); (case c => (conv => (lhs; cbv))); (case r => (conv => (lhs; cbv))); (case l => exact Nat.le_of_ble_eq_true rfl))
  (repeat' ((try (conv => whnf)); first | (with_reducible first | refine FCond.tA ?_ | refine FCond.fA ?_) | ((with_reducible refine FCond.i (fun hq => ?_) (fun hq => ?_)) <;> (try simp only [zA, zE, zD, zJ, zB, zI, Int.not_le, Int.not_lt] at hq)) | (with_reducible first | refine Fits.in64 (by omega) ?_ | refine FIdx.nat (by omega) ?_ | refine FIdx.int (by omega) ?_ | refine FTo.nat (by omega) ?_ | refine FTo.int (by omega) ?_) | ((with_reducible refine Need.mk ?_ ?_); focus exact needA) | (with_reducible refine FApp.grow ?_)))
  all_goals ((refine ⟨⟨_, [], [], Cut.nil _, Ln.sameB _ rfl, ?_, rfl⟩⟩); (exact avB))
set_option maxHeartbeats 4000000 in
set_option maxRecDepth 100000 in
theorem isSpan_ok (l h most : Int) : ACall Try.prog 47 [aSpan l h, AI most] [] (fun r h' => r = .bool (decide (0 ≤ l ∧ l ≤ h ∧ h ≤ most)) ∧ h' = []) := by
  (refine fcall_of mixed Try.func47 rfl (by decide) (hs := {}) ?k (ac := ?ac) ?c (rs := ?rs) ?r ?l ?H; (case k => kernel_rfl); (case c => (conv => (lhs; cbv))); (case r => (conv => (lhs; cbv))); (case l => exact Nat.le_of_ble_eq_true rfl))
  (repeat' ((try (conv => whnf)); first | (with_reducible first | refine FCond.tA ?_ | refine FCond.fA ?_) | ((with_reducible refine FCond.i (fun hq => ?_) (fun hq => ?_)) <;> (try simp only [zA, zE, zD, zJ, zB, zI, Int.not_le, Int.not_lt] at hq)) | (with_reducible first | refine Fits.in64 (by omega) ?_ | refine FIdx.nat (by omega) ?_ | refine FIdx.int (by omega) ?_ | refine FTo.nat (by omega) ?_ | refine FTo.int (by omega) ?_) | ((with_reducible refine Need.mk ?_ ?_); focus exact needA) | (with_reducible refine FApp.grow ?_)))
  all_goals ((refine ⟨⟨_, [], [], Cut.nil _, Ln.sameB _ rfl, ?_, rfl⟩⟩); (exact avB))
end Go.Proofs.Ytomkjfhepfinhaa

namespace Go.Proofs.Ytomkjfhepfinhaa
open Go.RowKit

/-- A list of numbers. -/
abbrev aInts (z e : Bool) (l : List Int) : AV := .sl z e l.length 1 (fun k _ => AI (l.getD k 0))
theorem drop_eq {α : Type} {l : List α} {i : Nat} (d : α) (h : i < l.length) : l.drop i = l.getD i d :: l.drop (i + 1) := by
  rw [List.drop_eq_getElem_cons h]; simp [List.getD, List.getElem?_eq_getElem h]
def lowerL : List Int → List Int → Bool
  | x :: xs, y :: ys => if x = y then lowerL xs ys else decide (x < y)
  | _, _ => false

set_option maxHeartbeats 4000000 in
set_option maxRecDepth 100000 in
theorem before_ok (za ea zb eb : Bool) (a b : List Int) (hl : a.length ≤ b.length) (hm : a.length ≤ 1000) : ACall Try.prog 19 [aInts za ea a, aInts zb eb b] [] (fun r h => r = .bool (lowerL a b) ∧ h = []) := by
  (refine fcall_of mixed Try.func19 rfl (by decide) (hs := {}) ?k (ac := ?ac) ?c (rs := ?rs) ?r ?l ?H; (case k => kernel_rfl); (case c => (conv => (lhs; cbv))); (case r => (conv => (lhs; cbv))); (case l => exact Nat.le_of_ble_eq_true rfl))
  (repeat' ((try (conv => whnf)); first | (with_reducible first | refine FCond.tA ?_ | refine FCond.fA ?_) | ((with_reducible refine FCond.i (fun hq => ?_) (fun hq => ?_)) <;> (try simp only [zA, zE, zD, zJ, zB, zI, Int.not_le, Int.not_lt] at hq)) | (with_reducible first | refine Fits.in64 (by omega) ?_ | refine FIdx.nat (by omega) ?_ | refine FIdx.int (by omega) ?_ | refine FTo.nat (by omega) ?_ | refine FTo.int (by omega) ?_) | ((with_reducible refine Need.mk ?_ ?_); focus exact needA) | (with_reducible refine FApp.grow ?_)))
  refine FLoop.of (ACalls.mono _) (X := Nat) (fun i => [(0, aInts za ea a), (1, aInts zb eb b), (5, AI i)]) (fun _ => []) (fun i => i ≤ a.length ∧ lowerL a b = lowerL (a.drop i) (b.drop i)) (fun i => a.length - i) 0 ⟨⟨by omega, rfl⟩, [], Cut.nil _, by exact allA⟩ ?_
  rintro i ⟨hi, hL⟩
  (repeat' ((try (conv => whnf)); first | (with_reducible first | refine FCond.tA ?_ | refine FCond.fA ?_) | ((with_reducible refine FCond.i (fun hq => ?_) (fun hq => ?_)) <;> (try simp only [zA, zE, zD, zJ, zB, zI, Int.not_le, Int.not_lt] at hq)) | (with_reducible first | refine Fits.in64 (by omega) ?_ | refine FIdx.nat (by omega) ?_ | refine FIdx.int (by omega) ?_ | refine FTo.nat (by omega) ?_ | refine FTo.int (by omega) ?_) | ((with_reducible refine Need.mk ?_ ?_); focus exact needA) | (with_reducible refine FApp.grow ?_)))
  all_goals (try (conv => whnf))
  · (refine ⟨⟨_, [], [], Cut.nil _, Ln.sameB _ rfl, ?_, rfl⟩⟩)
    rw [hL, drop_eq 0 (l := a) (i := i) (by omega), drop_eq 0 (l := b) (i := i) (by omega)]
    simp only [lowerL, if_neg hq]
  · (refine ⟨⟨(i + 1), ?inv, ?mu, [], Cut.nil _, allA⟩⟩)
    case inv => exact ⟨by omega, by rw [hL, drop_eq 0 (l := a) (i := i) (by omega), drop_eq 0 (l := b) (i := i) (by omega)]; simp only [lowerL, if_pos hq]⟩
    case mu => show _ < _; omega
  · (refine ⟨⟨_, [], [], Cut.nil _, Ln.sameB _ rfl, ?_, rfl⟩⟩)
    rw [hL, List.drop_eq_nil_of_le (by omega)]
    rfl
set_option maxHeartbeats 4000000 in
set_option maxRecDepth 100000 in
theorem lower_ok (za ea zb eb : Bool) (a b : List Int) (hl : a.length ≤ b.length) (hm : a.length ≤ 1000) : ACall Try.prog 64 [aInts za ea a, aInts zb eb b] [] (fun r h => r = .bool (lowerL a b) ∧ h = []) := by
  (refine fcall_of mixed Try.func64 rfl (by decide) (hs := {}) ?k (ac := ?ac) ?c (rs := ?rs) ?r ?l ?H; (case k => kernel_rfl); (case c => (conv => (lhs; cbv))); (case r => (conv => (lhs; cbv))); (case l => exact Nat.le_of_ble_eq_true rfl))
  (repeat' ((try (conv => whnf)); first | (with_reducible first | refine FCond.tA ?_ | refine FCond.fA ?_) | ((with_reducible refine FCond.i (fun hq => ?_) (fun hq => ?_)) <;> (try simp only [zA, zE, zD, zJ, zB, zI, Int.not_le, Int.not_lt] at hq)) | (with_reducible first | refine Fits.in64 (by omega) ?_ | refine FIdx.nat (by omega) ?_ | refine FIdx.int (by omega) ?_ | refine FTo.nat (by omega) ?_ | refine FTo.int (by omega) ?_) | ((with_reducible refine Need.mk ?_ ?_); focus exact needA) | (with_reducible refine FApp.grow ?_)))
  refine FLoop.of (ACalls.mono _) (X := Nat) (fun i => [(0, aInts za ea a), (1, aInts zb eb b), (5, AI i)]) (fun _ => []) (fun i => i ≤ a.length ∧ lowerL a b = lowerL (a.drop i) (b.drop i)) (fun i => a.length - i) 0 ⟨⟨by omega, rfl⟩, [], Cut.nil _, by exact allA⟩ ?_
  rintro i ⟨hi, hL⟩
  (repeat' ((try (conv => whnf)); first | (with_reducible first | refine FCond.tA ?_ | refine FCond.fA ?_) | ((with_reducible refine FCond.i (fun hq => ?_) (fun hq => ?_)) <;> (try simp only [zA, zE, zD, zJ, zB, zI, Int.not_le, Int.not_lt] at hq)) | (with_reducible first | refine Fits.in64 (by omega) ?_ | refine FIdx.nat (by omega) ?_ | refine FIdx.int (by omega) ?_ | refine FTo.nat (by omega) ?_ | refine FTo.int (by omega) ?_) | ((with_reducible refine Need.mk ?_ ?_); focus exact needA) | (with_reducible refine FApp.grow ?_)))
  all_goals (try (conv => whnf))
  · (refine ⟨⟨_, [], [], Cut.nil _, Ln.sameB _ rfl, ?_, rfl⟩⟩)
    rw [hL, drop_eq 0 (l := a) (i := i) (by omega), drop_eq 0 (l := b) (i := i) (by omega)]
    simp only [lowerL, if_neg hq]
  · (refine ⟨⟨(i + 1), ?inv, ?mu, [], Cut.nil _, allA⟩⟩)
    case inv => exact ⟨by omega, by rw [hL, drop_eq 0 (l := a) (i := i) (by omega), drop_eq 0 (l := b) (i := i) (by omega)]; simp only [lowerL, if_pos hq]⟩
    case mu => show _ < _; omega
  · (refine ⟨⟨_, [], [], Cut.nil _, Ln.sameB _ rfl, ?_, rfl⟩⟩)
    rw [hL, List.drop_eq_nil_of_le (by omega)]
    rfl
end Go.Proofs.Ytomkjfhepfinhaa

namespace Go.Proofs.Ytomkjfhepfinhaa

structure Hand where
  sl : Int
  sh : Int
  tl : Int
  th : Int
  el : Int
  eh : Int
  slip : Int
  deriving Inhabited, DecidableEq
structure Task where
  hands : List Hand
  parts : List Int
  limit : Int
  rest : Int
  swap : Int
def hd0 : Hand := ⟨0, 0, 0, 0, 0, 0, 0⟩
def spanOk (l h most : Int) : Bool := decide (0 ≤ l ∧ l ≤ h ∧ h ≤ most)
def Hand.ok (x : Hand) : Bool := spanOk x.sl x.sh 100 && spanOk x.tl x.th 20 && spanOk x.el x.eh 20 && decide (0 ≤ x.slip ∧ x.slip ≤ 100)
def Task.ok (t : Task) : Bool := decide (1 ≤ t.hands.length ∧ t.hands.length ≤ 3) && decide (1 ≤ t.parts.length ∧ t.parts.length ≤ 10) && decide (1 ≤ t.limit ∧ t.limit ≤ 10) && decide (1 ≤ t.rest ∧ t.rest ≤ 10) && decide (0 ≤ t.swap ∧ t.swap ≤ 100) && t.hands.all Hand.ok && t.parts.all (fun p => decide (0 ≤ p ∧ p ≤ 10))
def Task.check (t : Task) : Int := if t.ok then 0 else 40
def isRota (t : Task) (r : List Int) : Bool := r.all (fun h => decide (0 ≤ h ∧ h ≤ (t.hands.length : Int) - 1)) && decide (r.length = t.parts.length)
def checkRota (t : Task) (r : List Int) : Int := if t.ok then (if isRota t r then 0 else 41) else 40
/-- One hand's parts in a row and rest since, over a rota. -/
def rightH (t : Task) (h : Int) : List Int → Int → Int → Bool
  | [], _, _ => true
  | x :: xs, row, rest => if x = h then (if (row = 0 ∧ rest < t.rest) ∨ row = t.limit then false else rightH t h xs (row + 1) 0) else rightH t h xs 0 (rest + 1)
def isRight (t : Task) (r : List Int) : Bool := (List.range t.hands.length).all fun h => rightH t h r 0 t.rest
def endOf (l h : Int) (high : Bool) : Int := if high then h else l
/-- A course: the weariness at the beginning, and for each part and each hand by how much it is greater or less after it. -/
structure Course where
  start : List Int
  steps : List (List Int)
def stepAt (t : Task) (x : Int) (high : Bool) (h : Nat) : Int := if x = (h : Int) then endOf (t.hands.getD h hd0).tl (t.hands.getD h hd0).th high else endOf (t.hands.getD h hd0).el (t.hands.getD h hd0).eh (!high)
def stepsOf (t : Task) (x : Int) (high : Bool) : List Int := (List.range t.hands.length).map (stepAt t x high)
def extreme (t : Task) (r : List Int) (high : Bool) : Course := ⟨t.hands.map fun x => endOf x.sl x.sh high, r.map fun x => stepsOf t x high⟩
/-- The weariness after a part in which x signs. -/
def nextW (now step : List Int) (x : Int) : List Int := (List.range now.length).map fun (h : Nat) => if x = (h : Int) then now.getD h 0 + step.getD h 0 else max 0 (now.getD h 0 - step.getD h 0)
structure RunS where
  now : List Int
  bad : Int
  all : List (List Int)
/-- One part of a course. -/
def runStep (t : Task) (r : List Int) (c : Course) (i : Nat) (s : RunS) : RunS :=
  let x := r.getD i 0
  let now := nextW s.now (c.steps.getD i []) x
  ⟨now, s.bad + t.parts.getD i 0 * ((t.hands.getD x.toNat hd0).slip + s.now.getD x.toNat 0) + (if 0 < i ∧ x ≠ r.getD (i - 1) 0 then t.swap else 0), s.all ++ [now]⟩
def runTo (t : Task) (r : List Int) (c : Course) : Nat → RunS
  | 0 => ⟨c.start, 0, [c.start]⟩
  | i + 1 => runStep t r c i (runTo t r c i)
def runC (t : Task) (r : List Int) (c : Course) : RunS := runTo t r c r.length
def worst (t : Task) (r : List Int) : Int := (runC t r (extreme t r true)).bad
end Go.Proofs.Ytomkjfhepfinhaa

namespace Go.Proofs.Ytomkjfhepfinhaa
open Go.RowKit

abbrev cHand (x : Hand) : Nat → AV := ofL [AI x.sl, AI x.sh, AI x.tl, AI x.th, AI x.el, AI x.eh, AI x.slip]
abbrev aHand (x : Hand) : AV := .agg 7 (cHand x)
abbrev aHands (z e : Bool) (l : List Hand) : AV := .sl z e l.length 7 (fun k => cHand (l.getD k hd0))
/-- What is not said of a task's slices: whether they are nil, whether they are full. -/
structure TFl where
  zh : Bool
  eh : Bool
  zp : Bool
  ep : Bool
abbrev cTask (f : TFl) (t : Task) : Nat → AV := ofL [aHands f.zh f.eh t.hands, aInts f.zp f.ep t.parts, AI t.limit, AI t.rest, AI t.swap]
abbrev aTask (f : TFl) (t : Task) : AV := .agg 5 (cTask f t)

theorem check_40 {t : Task} (h : ¬ t.ok = true) : t.check = 40 := by unfold Task.check; rw [if_neg h]
theorem check_0 {t : Task} (h : t.ok = true) : t.check = 0 := by unfold Task.check; rw [if_pos h]
theorem int_eq {k : IntKind} {a b : Int} (h : a = b) : AV.int k a = AV.int k b := by rw [h]
theorem all_step {α : Type} {p : α → Bool} {l : List α} {i : Nat} (d : α) (h : i < l.length) (e : l.all p = (l.drop i).all p) (hp : p (l.getD i d) = true) : l.all p = (l.drop (i + 1)).all p := by
  rw [e, drop_eq d h, List.all_cons, hp, Bool.true_and]
theorem all_no {α : Type} {p : α → Bool} {l : List α} {i : Nat} (d : α) (h : i < l.length) (e : l.all p = (l.drop i).all p) (hp : p (l.getD i d) = false) : l.all p = false := by
  rw [e, drop_eq d h, List.all_cons, hp, Bool.false_and]
theorem all_end {α : Type} {p : α → Bool} {l : List α} {i : Nat} (h : l.length ≤ i) (e : l.all p = (l.drop i).all p) : l.all p = true := by
  rw [e, List.drop_eq_nil_of_le h]; rfl

set_option maxHeartbeats 4000000 in
set_option maxRecDepth 100000 in
theorem refCheck_ok (f : TFl) (t : Task) (h1 : t.hands.length ≤ 1000000) (h2 : t.parts.length ≤ 1000000) : ACall Try.prog 25 [aTask f t] [] (fun r h => r = AI t.check ∧ h = []) := by
  (refine fcall_of mixed Try.func25 rfl (by decide) (hs := {}) ?k (ac := ?ac) ?c (rs := ?rs) ?r ?l ?H; (case k => kernel_rfl); (case c => (conv => (lhs; cbv))); (case r => (conv => (lhs; cbv))); (case l => exact Nat.le_of_ble_eq_true rfl))
  (repeat' ((try (conv => whnf)); first | (with_reducible first | refine FCond.tA ?_ | refine FCond.fA ?_) | ((with_reducible refine FCond.i (fun hq => ?_) (fun hq => ?_)) <;> (try simp only [zA, zE, zD, zJ, zB, zI, Int.not_le, Int.not_lt] at hq)) | (with_reducible first | refine Fits.in64 (by omega) ?_ | refine FIdx.nat (by omega) ?_ | refine FIdx.int (by omega) ?_ | refine FTo.nat (by omega) ?_ | refine FTo.int (by omega) ?_) | ((with_reducible refine Need.mk ?_ ?_); focus exact needA) | (with_reducible refine FApp.grow ?_) | (refine FCall.pure ((within_ok _ _ _)) ⟨Ln.sameB _ rfl, Ln.sameB _ rfl, Ln.sameB _ rfl, True.intro⟩ rfl ?_)))
  all_goals (try (conv => whnf))
  case H.refine_2.refine_2.refine_2.refine_2.refine_2 =>
    refine FLoop.of (ACalls.mono _) (X := Nat) (fun i => [(1, .ptr 0 0), (3, AI i)]) (fun _ => [.box 5 (cTask f t)]) (fun i => i ≤ t.hands.length ∧ t.hands.all Hand.ok = (t.hands.drop i).all Hand.ok) (fun i => t.hands.length - i) 0 ⟨⟨by omega, rfl⟩, [0], Cut.A, by exact allA⟩ ?_
    rintro i ⟨hi, hL⟩
    (repeat' ((try (conv => whnf)); first | (with_reducible first | refine FCond.tA ?_ | refine FCond.fA ?_) | ((with_reducible refine FCond.i (fun hq => ?_) (fun hq => ?_)) <;> (try simp only [zA, zE, zD, zJ, zB, zI, Int.not_le, Int.not_lt] at hq)) | (with_reducible first | refine Fits.in64 (by omega) ?_ | refine FIdx.nat (by omega) ?_ | refine FIdx.int (by omega) ?_ | refine FTo.nat (by omega) ?_ | refine FTo.int (by omega) ?_) | ((with_reducible refine Need.mk ?_ ?_); focus exact needA) | (with_reducible refine FApp.grow ?_) | (refine FCall.pure ((within_ok _ _ _)) ⟨Ln.sameB _ rfl, Ln.sameB _ rfl, Ln.sameB _ rfl, True.intro⟩ rfl ?_) | (refine FCall.pure ((isSpan_ok _ _ _)) ⟨Ln.sameB _ rfl, Ln.sameB _ rfl, True.intro⟩ rfl ?_)))
    all_goals (try (conv => whnf))
    case refine_2 =>
      have hA := all_end (by omega) hL
      refine FLoop.of (ACalls.mono _) (X := Nat) (fun i => [(1, .ptr 0 0), (5, AI i)]) (fun _ => [.box 5 (cTask f t)]) (fun i => i ≤ t.parts.length ∧ t.parts.all (fun p => decide (0 ≤ p ∧ p ≤ 10)) = (t.parts.drop i).all (fun p => decide (0 ≤ p ∧ p ≤ 10))) (fun i => t.parts.length - i) 0 ⟨⟨by omega, rfl⟩, [0], Cut.A, by exact allA⟩ ?_
      rintro j ⟨hj, hL2⟩
      (repeat' ((try (conv => whnf)); first | (with_reducible first | refine FCond.tA ?_ | refine FCond.fA ?_) | ((with_reducible refine FCond.i (fun hq => ?_) (fun hq => ?_)) <;> (try simp only [zA, zE, zD, zJ, zB, zI, Int.not_le, Int.not_lt] at hq)) | (with_reducible first | refine Fits.in64 (by omega) ?_ | refine FIdx.nat (by omega) ?_ | refine FIdx.int (by omega) ?_ | refine FTo.nat (by omega) ?_ | refine FTo.int (by omega) ?_) | ((with_reducible refine Need.mk ?_ ?_); focus exact needA) | (with_reducible refine FApp.grow ?_) | (refine FCall.pure ((within_ok _ _ _)) ⟨Ln.sameB _ rfl, Ln.sameB _ rfl, Ln.sameB _ rfl, True.intro⟩ rfl ?_)))
      all_goals (try (conv => whnf))
      · (refine ⟨⟨_, [], [], Cut.nil _, Ln.sameB _ rfl, ?_, rfl⟩⟩)
        refine int_eq (check_40 ?_).symm
        have := all_no 0 (by omega) hL2 (by simpa using hq)
        unfold Task.ok; rw [this]; simp
      · (refine ⟨⟨(j + 1), ?inv, ?mu, [0], Cut.A, allA⟩⟩)
        case inv => exact ⟨by omega, all_step 0 (by omega) hL2 (by simpa using hq)⟩
        case mu => show _ < _; omega
      · (refine ⟨⟨_, [], [], Cut.nil _, Ln.sameB _ rfl, ?_, rfl⟩⟩)
        refine int_eq (check_0 ?_).symm
        have hB := all_end (by omega) hL2
        unfold Task.ok; rw [hA, hB]; simp only [Bool.and_true, Bool.and_eq_true, decide_eq_true_eq]
        omega
    case refine_1.refine_2.refine_2.refine_2.refine_2 =>
      (refine ⟨⟨(i + 1), ?inv, ?mu, [0], Cut.A, allA⟩⟩)
      case inv =>
        refine ⟨by omega, all_step hd0 (by omega) hL ?_⟩
        simp only [Hand.ok, spanOk, Bool.and_eq_true, decide_eq_true_eq]
        omega
      case mu => show _ < _; omega
    all_goals
      (refine ⟨⟨_, [], [], Cut.nil _, Ln.sameB _ rfl, ?_, rfl⟩⟩)
      refine int_eq (check_40 ?_).symm
      have := all_no hd0 (by omega) hL (by simp only [Hand.ok, spanOk, Bool.and_eq_false_iff, decide_eq_false_iff_not]; omega)
      unfold Task.ok; rw [this]; simp
  all_goals
    (refine ⟨⟨_, [], [], Cut.nil _, Ln.sameB _ rfl, ?_, rfl⟩⟩)
    refine int_eq (check_40 ?_).symm
    simp only [Task.ok, Bool.and_eq_true, decide_eq_true_eq]
    omega
end Go.Proofs.Ytomkjfhepfinhaa
