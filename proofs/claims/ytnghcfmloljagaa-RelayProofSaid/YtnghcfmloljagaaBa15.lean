/- Relay: the program's Cover. / Relay: the reference's IsCover says yes of a cover. / Relay: the statement RelayMost. / Relay: the statement RelayProof. -/
import Derived.Test.YtnghcfmloljagaaBa14
import Derived.Test.YtnghcfmloljagaaBa13
set_option linter.unusedSimpArgs false
set_option linter.unusedVariables false
namespace Go.Proofs.Ytnghcfmloljagaa
open Go.RowKit

/-- What several ways lead to. -/
structure Hold (A : Prop) : Prop where
  h : A
theorem cutG {A B : Prop} (h : Hold A → B) (a : A) : B := h ⟨a⟩
/-- Every entry says of a spot what the map says of it. -/
theorem full_entry {N : Nat} {L : List (List Int × AV)} (hn : Nums L) (hl : Len N L) {i : Nat} (hi : i < L.length) : ∃ p c : Nat, p < N ∧ lk L p = some c ∧ L.getD i default = ([(p : Int)], .int .i64 (c : Int)) := by
  let ps := (List.range N).filter fun p => (lk L p).isSome
  let φ : Nat → Nat := fun p => (aidx L [(p : Int)]).getD 0
  have hps : ∀ p, p ∈ ps → p < N ∧ ∃ c, lk L p = some c := fun p hp => by
    have := List.mem_filter.1 hp
    exact ⟨List.mem_range.1 this.1, Option.isSome_iff_exists.1 this.2⟩
  have hφ : ∀ p, p ∈ ps → aidx L [(p : Int)] = some (φ p) := fun p hp => by
    obtain ⟨_, c, hc⟩ := hps p hp
    have h1 := (lk_some hn).1 hc
    cases ha : aidx L [(p : Int)] with
    | none => have := (aidx_none ha).2.1; rw [h1] at this; cases this
    | some j => simp only [φ, ha]; rfl
  have hnd : (ps.map φ).Nodup := nodup_map (List.Nodup.sublist List.filter_sublist List.nodup_range) fun p hp q hq e => by
    have h1 := (aidx_some (hφ p hp)).2.1
    have h2 := (aidx_some (hφ q hq)).2.1
    rw [e, h2] at h1
    simp at h1
    omega
  have hlen : (ps.map φ).length = L.length := by
    rw [List.length_map]
    have := hl
    unfold Len at this
    rw [this, cntB_filter]
  have hmem : i ∈ ps.map φ := by
    refine Classical.byContradiction fun hni => ?_
    have := pig (l1 := i :: ps.map φ) (l2 := List.range L.length) (List.nodup_cons.2 ⟨hni, hnd⟩) (fun x hx => by
      rcases List.mem_cons.1 hx with rfl | hx
      · exact List.mem_range.2 hi
      · obtain ⟨p, hp, rfl⟩ := List.mem_map.1 hx
        exact List.mem_range.2 (aidx_some (hφ p hp)).1)
    rw [List.length_cons, hlen, List.length_range] at this
    omega
  obtain ⟨p, hp, e⟩ := List.mem_map.1 hmem
  obtain ⟨h1, c, hc⟩ := hps p hp
  have h3 := aidx_some (hφ p hp)
  rw [e] at h3
  have h4 := (lk_some hn).1 hc
  rw [h3.2.2.1] at h4
  injection h4 with h4
  exact ⟨p, c, h1, hc, Prod.ext h3.2.1 h4⟩
theorem entry_of {N : Nat} {L : List (List Int × AV)} (hn : Nums L) {p c : Nat} (h : lk L p = some c) : ∃ i, i < L.length ∧ L.getD i default = ([(p : Int)], .int .i64 (c : Int)) := by
  have h1 := (lk_some hn).1 h
  cases ha : aidx L [(p : Int)] with
  | none => have := (aidx_none ha).2.1; rw [h1] at this; cases this
  | some j =>
    have h3 := aidx_some ha
    rw [h3.2.2.1] at h1
    injection h1 with h1
    exact ⟨j, h3.1, Prod.ext h3.2.1 h1⟩
theorem all_seen {n : Nat} {l : List Nat} (h1 : l.Nodup) (h2 : ∀ i ∈ l, i < n) (h3 : l.length = n) {i : Nat} (hi : i < n) : i ∈ l := by
  refine Classical.byContradiction fun hni => ?_
  have := pig (l1 := i :: l) (l2 := List.range n) (List.nodup_cons.2 ⟨hni, h1⟩) (fun x hx => by
    rcases List.mem_cons.1 hx with rfl | hx
    · exact List.mem_range.2 hi
    · exact List.mem_range.2 (h2 x hx))
  rw [List.length_cons, h3, List.length_range] at this
  omega
def eP (L : List (List Int × AV)) (i : Nat) : Nat := match (L.getD i default).1 with | [p] => p.toNat | _ => 0
def eC (L : List (List Int × AV)) (i : Nat) : Nat := match (L.getD i default).2 with | .int .i64 c => c.toNat | _ => 0
theorem ent_eq {N : Nat} {L : List (List Int × AV)} (hn : Nums L) (hl : Len N L) {i : Nat} (hi : i < L.length) : L.getD i default = ([(eP L i : Int)], .int .i64 (eC L i : Int)) ∧ eP L i < N ∧ lk L (eP L i) = some (eC L i) := by
  obtain ⟨p, c, h1, h2, h3⟩ := full_entry hn hl hi
  have e1 : eP L i = p := by unfold eP; rw [h3]; simp
  have e2 : eC L i = c := by unfold eC; rw [h3]; simp
  rw [e1, e2]
  exact ⟨h3, h1, h2⟩
/-- The calls of the entries that have been seen. -/
def MtI (L : List (List Int × AV)) (seen : List Nat) (mt : Nat → Bool) : Prop := ∀ c, mt c = true ↔ ∃ i ∈ seen, ∃ k, L.getD i default = (k, .int .i64 ((c : Nat) : Int))
theorem mtI_nil (L : List (List Int × AV)) : MtI L [] (fun _ => false) := fun c => by simp
theorem mtI_snoc {L : List (List Int × AV)} {seen : List Nat} {mt : Nat → Bool} {i c : Nat} {k : List Int} (h : MtI L seen mt) (e : L.getD i default = (k, .int .i64 (c : Int))) : MtI L (seen ++ [i]) (setS mt c) := fun d => by
  constructor
  · intro hd
    rcases setS_or hd with rfl | hd
    · exact ⟨i, by simp, k, e⟩
    · obtain ⟨j, hj, x⟩ := (h d).1 hd
      exact ⟨j, by simp [hj], x⟩
  · rintro ⟨j, hj, k', e'⟩
    rcases List.mem_append.1 hj with hj | hj
    · exact setS_up _ _ _ ((h d).2 ⟨j, hj, k', e'⟩)
    · obtain rfl := List.mem_singleton.1 hj
      rw [e] at e'
      injection e' with _ e'
      injection e' with _ e'
      have : c = d := by omega
      rw [this]; exact setS_at _ _
theorem mtI_all {N : Nat} {L : List (List Int × AV)} {seen : List Nat} {mt : Nat → Bool} (hn : Nums L) (hl : Len N L) (h : MtI L seen mt) (h1 : seen.Nodup) (h2 : ∀ i ∈ seen, i < L.length) (h3 : seen.length = L.length) (c : Nat) : mt c = true ↔ ∃ p, lk L p = some c := by
  rw [h c]
  constructor
  · rintro ⟨i, hi, k, e⟩
    obtain ⟨p, d, _, h5, h6⟩ := full_entry hn hl (h2 i hi)
    rw [e] at h6
    injection h6 with _ h6
    injection h6 with _ h6
    exact ⟨p, by rw [h5]; congr 1; omega⟩
  · rintro ⟨p, hp⟩
    obtain ⟨i, hi, e⟩ := entry_of (N := N) hn hp
    exact ⟨i, all_seen h1 h2 h3 hi, _, e⟩
/-- A list of own, nil if it is empty. -/
def oN (d : Nat) : List Nat → AV
  | [] => nilS
  | _ :: xs => .own d (xs.length + 1)
def hN (h : List AB) (sz : Nat) (g : Nat → Nat → AV) : List Nat → List AB
  | [] => h
  | x :: xs => h ++ [.row (xs.length + 1) sz (fun k => g ((x :: xs).getD k 0))]
abbrev aList (sz : Nat) (g : Nat → Nat → AV) (l : List Nat) : AV := .sl l.isEmpty l.isEmpty l.length sz (fun k => g (l.getD k 0))
theorem snocN_old {x c : Nat} {xs : List Nat} {k : Nat} (h : k < xs.length + 1) : (x :: (xs ++ [c])).getD k 0 = (x :: xs).getD k 0 := by
  cases k with
  | zero => rfl
  | succ k => simp [List.getD, List.getElem?_append_left (show k < xs.length by omega)]
theorem snocN_new {x c : Nat} {xs : List Nat} : (x :: (xs ++ [c])).getD (xs.length + 1) 0 = c := by simp [List.getD]
theorem LnB.snocN {σ : Nat → Nat → Prop} {Bp : Nat → Prop} {H : List AB} {x c : Nat} {xs : List Nat} {sz : Nat} {g : Nat → Nat → AV} {z : Nat → Nat → AV} {v : AV} (hv : ∀ o, o < sz → bslC z [(0, v)] 0 o = g c o) : LnB σ Bp H (.row (xs.length + 1 + 1) sz (appc (xs.length + 1) (fun k => g ((x :: xs).getD k 0)) (bslC z [(0, v)]))) (.row ((xs ++ [c]).length + 1) sz (fun k => g ((x :: (xs ++ [c])).getD k 0))) := by
  refine LnB.rowE (by simp) fun k hk o ho => ?_
  simp only [appc]
  by_cases hk2 : k < xs.length + 1
  · rw [if_pos hk2, snocN_old hk2]
  · simp only [List.length_append, List.length_singleton] at hk
    obtain rfl : k = xs.length + 1 := by omega
    rw [if_neg hk2, snocN_new, Nat.sub_self, hv o ho]
theorem Ln.outN0 {σ : Nat → Nat → Prop} {Bp : Nat → Prop} {H : List AB} {A : List Nat} {sz : Nat} {g : Nat → Nat → AV} (h : [] = A) : Ln σ Bp H nilS (aList sz g A) := h ▸ Ln.slz _ _ _ _ _ _ _ (fun h => h)
theorem Ln.outN1 {σ : Nat → Nat → Prop} {Bp : Nat → Prop} {H : List AB} {d x : Nat} {xs A : List Nat} {sz : Nat} {g : Nat → Nat → AV} (h : x :: xs = A) (hb : Bp d) (hd : H[d]? = some (.row (xs.length + 1) sz (fun k => g ((x :: xs).getD k 0)))) : Ln σ Bp H (.own d (xs.length + 1)) (aList sz g A) := h ▸ Ln.pubE hb hd (Nat.le_refl _) rfl (fun _ _ _ _ => rfl)
abbrev gSp (T : Nat) (p : Nat) : Nat → AV := cSpot ((sp T p).1 : Int) ((sp T p).2 : Int)
abbrev gNat (c : Nat) : Nat → AV := fun _ => AI (c : Int)
set_option maxHeartbeats 16000000
set_option maxRecDepth 100000
theorem cover_yes (f : StF) (s : Std) (hn : NearS s) (hk : s.ok = true) (t : Nat) (ht : t < s.T) (u : Bool) : ACall Try.prog 35 [aStd f s, AI t, .bool u] [] (fun r h => h = [] ∧ ∃ A B, r = .tup 3 (ofL [aList 2 (gSp (t + 1)) A, aList 1 gNat B, AI 0]) ∧ CovR s t u A B) := by
  have hs := std_d hk
  have hN32 : s.n * (t + 1) ≤ 32 := Nat.le_trans (Nat.mul_le_mul hs.n4 (show t + 1 ≤ 8 by have := hs.t8; omega)) (by decide)
  have c12 : s.rg.length ≤ 12 := hs.c12
  have hcl : (clK s u s.C).length ≤ 12 := Nat.le_trans (clK_len s u s.C) c12
  obtain ⟨cl, hcle⟩ : ∃ cl, clK s u s.C = cl := ⟨_, rfl⟩
  obtain ⟨N, hNe⟩ : ∃ N, s.n * (t + 1) = N := ⟨_, rfl⟩
  (refine fcall_of mixed Try.func35 rfl (by decide) (hs := { pub := [10, 24], alt := [(9, ⟨[0, 1, 2, 3, 4, 6, 7, 8, 9, 10], (.alt 5 [] (.alt 11 [] (.alt 12 [] (.alt 13 [] (.alt 14 [] (.alt 15 [] .leaf .leaf) .leaf) .leaf) (.alt 13 [] (.alt 12 [] (.alt 14 [] (.alt 15 [] .leaf .leaf) .leaf) .leaf) .leaf)) (.alt 12 [] (.alt 11 [] (.alt 13 [] (.alt 14 [] (.alt 15 [] .leaf .leaf) .leaf) .leaf) (.alt 13 [] (.alt 11 [] (.alt 14 [] (.alt 15 [] .leaf .leaf) .leaf) (.alt 14 [] (.alt 11 [] (.alt 15 [] .leaf .leaf) .leaf) .leaf)) .leaf)) (.alt 13 [] (.alt 11 [] (.alt 12 [] (.alt 14 [] (.alt 15 [] .leaf .leaf) .leaf) .leaf) (.alt 12 [] (.alt 11 [] (.alt 14 [] (.alt 15 [] .leaf .leaf) .leaf) (.alt 14 [] (.alt 11 [] (.alt 15 [] .leaf .leaf) .leaf) .leaf)) .leaf)) .leaf))) (.alt 11 [] (.alt 5 [] (.alt 12 [] (.alt 13 [] (.alt 14 [] (.alt 15 [] .leaf .leaf) .leaf) .leaf) (.alt 13 [] (.alt 12 [] (.alt 14 [] (.alt 15 [] .leaf .leaf) .leaf) .leaf) .leaf)) (.alt 12 [] (.alt 5 [] (.alt 13 [] (.alt 14 [] (.alt 15 [] .leaf .leaf) .leaf) .leaf) (.alt 13 [] (.alt 5 [] (.alt 14 [] (.alt 15 [] .leaf .leaf) .leaf) .leaf) .leaf)) (.alt 13 [] (.alt 5 [] (.alt 12 [] (.alt 14 [] (.alt 15 [] .leaf .leaf) .leaf) .leaf) (.alt 12 [] (.alt 5 [] (.alt 14 [] (.alt 15 [] .leaf .leaf) .leaf) .leaf) .leaf)) .leaf))) (.alt 12 [] (.alt 5 [] (.alt 11 [] (.alt 13 [] (.alt 14 [] (.alt 15 [] .leaf .leaf) .leaf) .leaf) (.alt 13 [] (.alt 11 [] (.alt 14 [] (.alt 15 [] .leaf .leaf) .leaf) (.alt 14 [] (.alt 11 [] (.alt 15 [] .leaf .leaf) .leaf) .leaf)) .leaf)) (.alt 11 [] (.alt 5 [] (.alt 13 [] (.alt 14 [] (.alt 15 [] .leaf .leaf) .leaf) .leaf) (.alt 13 [] (.alt 5 [] (.alt 14 [] (.alt 15 [] .leaf .leaf) .leaf) .leaf) .leaf)) (.alt 13 [] (.alt 5 [] (.alt 11 [] (.alt 14 [] (.alt 15 [] .leaf .leaf) .leaf) (.alt 14 [] (.alt 11 [] (.alt 15 [] .leaf .leaf) .leaf) .leaf)) (.alt 11 [] (.alt 5 [] (.alt 14 [] (.alt 15 [] .leaf .leaf) .leaf) .leaf) .leaf)) .leaf))) (.alt 13 [] (.alt 5 [] (.alt 11 [] (.alt 12 [] (.alt 14 [] (.alt 15 [] .leaf .leaf) .leaf) .leaf) (.alt 12 [] (.alt 11 [] (.alt 14 [] (.alt 15 [] .leaf .leaf) .leaf) (.alt 14 [] (.alt 11 [] (.alt 15 [] .leaf .leaf) .leaf) .leaf)) .leaf)) (.alt 11 [] (.alt 5 [] (.alt 12 [] (.alt 14 [] (.alt 15 [] .leaf .leaf) .leaf) .leaf) (.alt 12 [] (.alt 5 [] (.alt 14 [] (.alt 15 [] .leaf .leaf) .leaf) .leaf) .leaf)) (.alt 12 [] (.alt 5 [] (.alt 11 [] (.alt 14 [] (.alt 15 [] .leaf .leaf) .leaf) (.alt 14 [] (.alt 11 [] (.alt 15 [] .leaf .leaf) .leaf) .leaf)) (.alt 11 [] (.alt 5 [] (.alt 14 [] (.alt 15 [] .leaf .leaf) .leaf) .leaf) .leaf)) .leaf))) .leaf)))), [(5, [6, 9]), (11, [0, 3]), (12, [0, 3, 6, 9]), (13, [0, 3, 6, 9]), (14, [6, 9])]⟩)] }) ?k (ac := ?ac) ?c (rs := ?rs) ?r ?l ?H; (case k => kernel_rfl); (case c => (conv => (lhs; cbv))); (case r => (conv => (lhs; cbv))); (case l => exact Nat.le_of_ble_eq_true rfl))
  (repeat' ((try (conv => whnf)); first | (with_reducible first | refine FCond.tA ?_ | refine FCond.fA ?_) | ((with_reducible refine FCond.i (fun hq => ?_) (fun hq => ?_)) <;> (try simp only [zA, zE, zD, zJ, zB, zI, Int.not_le, Int.not_lt] at hq)) | (with_reducible first | refine Fits.in64 (by omega) ?_ | refine FIdx.nat (by omega) ?_ | refine FIdx.int (by omega) ?_ | refine FTo.nat (by omega) ?_ | refine FTo.int (by omega) ?_) | ((with_reducible refine Need.mk ?_ ?_); focus exact needA) | (with_reducible refine FApp.grow ?_) | (with_reducible refine FOr.pub ?_)))
  all_goals (try (conv => whnf))
  refine FCall.give [] [] (open_yes f s hn hk t ht u) rfl rfl True.intro ⟨Ln.A, Ln.A, Ln.A, True.intro⟩ ?_
  rw [hcle, hNe]
  rw [hcle] at hcl
  rw [hNe] at hN32
  rintro _ _ ⟨zc, ec, L, rfl, rfl, hF⟩
  refine ⟨Nat.le_of_ble_eq_true rfl, .inl rfl, ?_⟩
  have hLl : L.length ≤ 32 := by
    have := hF.len
    unfold Len at this
    rw [this]
    exact Nat.le_trans (cntB_le _ _) hN32
  (repeat' ((try (conv => whnf)); first | (with_reducible first | refine FCond.tA ?_ | refine FCond.fA ?_) | ((with_reducible refine FCond.i (fun hq => ?_) (fun hq => ?_)) <;> (try simp only [zA, zE, zD, zJ, zB, zI, Int.not_le, Int.not_lt] at hq)) | (with_reducible first | refine Fits.in64 (by omega) ?_ | refine FIdx.nat (by omega) ?_ | refine FIdx.int (by omega) ?_ | refine FTo.nat (by omega) ?_ | refine FTo.int (by omega) ?_) | ((with_reducible refine Need.mk ?_ ?_); focus exact needA) | (with_reducible refine FApp.grow ?_) | (with_reducible refine FOr.pub ?_)))
  all_goals (try (conv => whnf))
  have hB : PlaceB s (t + 1) N cl := ⟨hNe.symm, ht, Nat.succ_le_succ (Nat.zero_le _), hcl, fun j hj => by rw [← hcle] at hj ⊢; exact clK_mem hj⟩
  have hH : RchH s (t + 1) N cl L := ⟨hF.nums, hF.mat⟩
  have hent : ∀ i, i < L.length → L.getD i default = ([(eP L i : Int)], .int .i64 (eC L i : Int)) := fun i hi => (ent_eq hF.nums hF.len hi).1
  have hentC : ∀ i, i < L.length → eC L i < cl.length := fun i hi => (hF.mat.ok _ _ (ent_eq hF.nums hF.len hi).2.2).2.1
  refine FLoop.of (ACalls.mono _) (X := List Nat × (Nat → Bool)) (fun x => [(6, nilS), (7, nilS), (9, .ptr 2 0), (10, .own 3 cl.length), (42, .ptr 4 0)]) (fun x => [.box 6 (cMt f s (t + 1) N zc ec cl 1), .mp 0 L, .box 1 (ofL [.ptr 0 0]), rowS cl.length x.2, .mit (.mpv 1) L.length x.1]) (fun x => x.1.Nodup ∧ (∀ i ∈ x.1, i < L.length) ∧ MtI L x.1 x.2) (fun x => L.length - x.1.length) ([], fun _ => false)
    ⟨⟨List.nodup_nil, (fun i hi => by cases hi), mtI_nil L⟩, [1, 2, 3, 4, 5], Cut.of (Nat.le_of_ble_eq_true rfl) rfl rfl (CutL.turned rfl LnB.A (CutL.turned rfl LnB.A (CutL.turned rfl LnB.A (CutL.turned rfl (LnB.rowE (by omega) fun k hk o ho => by obtain rfl : o = 0 := (by omega); rfl) (CutL.turned rfl (LnB.mitS rfl) CutL.done))))), ⟨Ln.A, Ln.A, Ln.A, Ln.ownE rfl (by omega), Ln.A, True.intro⟩⟩ ?_
  rintro ⟨sE, mt⟩ ⟨hs1, hs2, hs3⟩
  simp only at hs1 hs2 hs3
  (repeat' ((try (conv => whnf)); first | (with_reducible first | refine FCond.tA ?_ | refine FCond.fA ?_) | ((with_reducible refine FCond.i (fun hq => ?_) (fun hq => ?_)) <;> (try simp only [zA, zE, zD, zJ, zB, zI, Int.not_le, Int.not_lt] at hq)) | (with_reducible first | refine Fits.in64 (by omega) ?_ | refine FIdx.nat (by omega) ?_ | refine FIdx.int (by omega) ?_ | refine FTo.nat (by omega) ?_ | refine FTo.int (by omega) ?_) | ((with_reducible refine Need.mk ?_ ?_); focus exact needA) | (refine FNext.mk (fun hlen => ?_) (fun i hi hn => ?_)) | (refine FEnt.of (hent i hi) ?_) | (refine FLast.app ?_) | (refine FIdx.nat (hentC i hi) ?_) | (refine Need.mk (hentC i hi) ?_) | (with_reducible refine FOr.pub ?_)))
  all_goals (try (conv => whnf))
  · have hmt := mtI_all hF.nums hF.len hs3 hs1 hs2 hlen
    apply cutG
    · intro rest
      (repeat' ((try (conv => whnf)); first | (with_reducible first | refine FCond.tA ?_ | refine FCond.fA ?_) | ((with_reducible refine FCond.i (fun hq => ?_) (fun hq => ?_)) <;> (try simp only [zA, zE, zD, zJ, zB, zI, Int.not_le, Int.not_lt] at hq)) | (with_reducible first | refine Fits.in64 (by omega) ?_ | refine FIdx.nat (by omega) ?_ | refine FIdx.int (by omega) ?_ | refine FTo.nat (by omega) ?_ | refine FTo.int (by omega) ?_) | ((with_reducible refine Need.mk ?_ ?_); focus exact needA) | (refine FAlt.mk ?_ ?_) | (with_reducible refine FOr.pub ?_)))
      all_goals (try (conv => whnf))
      all_goals first | (exact FWk.of [(6, nilS), (7, nilS), (9, .ptr 1 0), (10, .own 5 cl.length), (13, .ptr 0 0), (14, .ptr 2 0)] [.box 1 (ofL [.own 3 cl.length]), .box 1 (ofL [.ptr 6 0]), .box 1 (ofL [.own 4 N]), rowS cl.length (fun _ => false), rowS N (fun _ => false), rowS cl.length mt, .box 6 (cMt f s (t + 1) N zc ec cl 7), .mp 0 L] [5, 2, 6, 7, 8, 3, 0, 1] (Cut.of (Nat.le_of_ble_eq_true rfl) rfl rfl (CutL.turned rfl (LnB.boxN ⟨True.intro, Ln.ownE rfl (by omega)⟩) (CutL.turned rfl LnB.A (CutL.turned rfl (LnB.boxN ⟨True.intro, Ln.ownE rfl (by omega)⟩) (CutL.turned rfl (LnB.rowE (by omega) fun k hk o ho => by obtain rfl : o = 0 := (by omega); rfl) (CutL.turned rfl (LnB.rowE (by omega) fun k hk o ho => by obtain rfl : o = 0 := (by omega); rfl) (CutL.turned rfl LnB.A (CutL.turned rfl LnB.A (CutL.turned rfl LnB.A CutL.done))))))))) allA rest.h) | (exact FWk.of [(6, nilS), (7, nilS), (9, .ptr 1 0), (10, .own 5 cl.length), (13, .ptr 0 0), (14, .ptr 2 0)] [.box 1 (ofL [.own 3 cl.length]), .box 1 (ofL [.ptr 6 0]), .box 1 (ofL [.own 4 N]), rowS cl.length (fun _ => false), rowS N (fun _ => false), rowS cl.length mt, .box 6 (cMt f s (t + 1) N zc ec cl 7), .mp 0 L] [5, 2, 6, 8, 7, 3, 0, 1] (Cut.of (Nat.le_of_ble_eq_true rfl) rfl rfl (CutL.turned rfl (LnB.boxN ⟨True.intro, Ln.ownE rfl (by omega)⟩) (CutL.turned rfl LnB.A (CutL.turned rfl (LnB.boxN ⟨True.intro, Ln.ownE rfl (by omega)⟩) (CutL.turned rfl (LnB.rowE (by omega) fun k hk o ho => by obtain rfl : o = 0 := (by omega); rfl) (CutL.turned rfl (LnB.rowE (by omega) fun k hk o ho => by obtain rfl : o = 0 := (by omega); rfl) (CutL.turned rfl LnB.A (CutL.turned rfl LnB.A (CutL.turned rfl LnB.A CutL.done))))))))) allA rest.h) | (exact FWk.of [(6, nilS), (7, nilS), (9, .ptr 1 0), (10, .own 5 cl.length), (13, .ptr 0 0), (14, .ptr 2 0)] [.box 1 (ofL [.own 3 cl.length]), .box 1 (ofL [.ptr 6 0]), .box 1 (ofL [.own 4 N]), rowS cl.length (fun _ => false), rowS N (fun _ => false), rowS cl.length mt, .box 6 (cMt f s (t + 1) N zc ec cl 7), .mp 0 L] [5, 2, 7, 6, 8, 3, 0, 1] (Cut.of (Nat.le_of_ble_eq_true rfl) rfl rfl (CutL.turned rfl (LnB.boxN ⟨True.intro, Ln.ownE rfl (by omega)⟩) (CutL.turned rfl LnB.A (CutL.turned rfl (LnB.boxN ⟨True.intro, Ln.ownE rfl (by omega)⟩) (CutL.turned rfl (LnB.rowE (by omega) fun k hk o ho => by obtain rfl : o = 0 := (by omega); rfl) (CutL.turned rfl (LnB.rowE (by omega) fun k hk o ho => by obtain rfl : o = 0 := (by omega); rfl) (CutL.turned rfl LnB.A (CutL.turned rfl LnB.A (CutL.turned rfl LnB.A CutL.done))))))))) allA rest.h) | (exact FWk.of [(6, nilS), (7, nilS), (9, .ptr 1 0), (10, .own 5 cl.length), (13, .ptr 0 0), (14, .ptr 2 0)] [.box 1 (ofL [.own 3 cl.length]), .box 1 (ofL [.ptr 6 0]), .box 1 (ofL [.own 4 N]), rowS cl.length (fun _ => false), rowS N (fun _ => false), rowS cl.length mt, .box 6 (cMt f s (t + 1) N zc ec cl 7), .mp 0 L] [5, 2, 7, 8, 6, 3, 0, 1] (Cut.of (Nat.le_of_ble_eq_true rfl) rfl rfl (CutL.turned rfl (LnB.boxN ⟨True.intro, Ln.ownE rfl (by omega)⟩) (CutL.turned rfl LnB.A (CutL.turned rfl (LnB.boxN ⟨True.intro, Ln.ownE rfl (by omega)⟩) (CutL.turned rfl (LnB.rowE (by omega) fun k hk o ho => by obtain rfl : o = 0 := (by omega); rfl) (CutL.turned rfl (LnB.rowE (by omega) fun k hk o ho => by obtain rfl : o = 0 := (by omega); rfl) (CutL.turned rfl LnB.A (CutL.turned rfl LnB.A (CutL.turned rfl LnB.A CutL.done))))))))) allA rest.h) | (exact FWk.of [(6, nilS), (7, nilS), (9, .ptr 1 0), (10, .own 5 cl.length), (13, .ptr 0 0), (14, .ptr 2 0)] [.box 1 (ofL [.own 3 cl.length]), .box 1 (ofL [.ptr 6 0]), .box 1 (ofL [.own 4 N]), rowS cl.length (fun _ => false), rowS N (fun _ => false), rowS cl.length mt, .box 6 (cMt f s (t + 1) N zc ec cl 7), .mp 0 L] [5, 2, 8, 6, 7, 3, 0, 1] (Cut.of (Nat.le_of_ble_eq_true rfl) rfl rfl (CutL.turned rfl (LnB.boxN ⟨True.intro, Ln.ownE rfl (by omega)⟩) (CutL.turned rfl LnB.A (CutL.turned rfl (LnB.boxN ⟨True.intro, Ln.ownE rfl (by omega)⟩) (CutL.turned rfl (LnB.rowE (by omega) fun k hk o ho => by obtain rfl : o = 0 := (by omega); rfl) (CutL.turned rfl (LnB.rowE (by omega) fun k hk o ho => by obtain rfl : o = 0 := (by omega); rfl) (CutL.turned rfl LnB.A (CutL.turned rfl LnB.A (CutL.turned rfl LnB.A CutL.done))))))))) allA rest.h) | (exact FWk.of [(6, nilS), (7, nilS), (9, .ptr 1 0), (10, .own 5 cl.length), (13, .ptr 0 0), (14, .ptr 2 0)] [.box 1 (ofL [.own 3 cl.length]), .box 1 (ofL [.ptr 6 0]), .box 1 (ofL [.own 4 N]), rowS cl.length (fun _ => false), rowS N (fun _ => false), rowS cl.length mt, .box 6 (cMt f s (t + 1) N zc ec cl 7), .mp 0 L] [5, 2, 8, 7, 6, 3, 0, 1] (Cut.of (Nat.le_of_ble_eq_true rfl) rfl rfl (CutL.turned rfl (LnB.boxN ⟨True.intro, Ln.ownE rfl (by omega)⟩) (CutL.turned rfl LnB.A (CutL.turned rfl (LnB.boxN ⟨True.intro, Ln.ownE rfl (by omega)⟩) (CutL.turned rfl (LnB.rowE (by omega) fun k hk o ho => by obtain rfl : o = 0 := (by omega); rfl) (CutL.turned rfl (LnB.rowE (by omega) fun k hk o ho => by obtain rfl : o = 0 := (by omega); rfl) (CutL.turned rfl LnB.A (CutL.turned rfl LnB.A (CutL.turned rfl LnB.A CutL.done))))))))) allA rest.h) | (exact FWk.of [(6, nilS), (7, nilS), (9, .ptr 1 0), (10, .own 5 cl.length), (13, .ptr 0 0), (14, .ptr 2 0)] [.box 1 (ofL [.own 3 cl.length]), .box 1 (ofL [.ptr 6 0]), .box 1 (ofL [.own 4 N]), rowS cl.length (fun _ => false), rowS N (fun _ => false), rowS cl.length mt, .box 6 (cMt f s (t + 1) N zc ec cl 7), .mp 0 L] [6, 2, 5, 7, 8, 3, 0, 1] (Cut.of (Nat.le_of_ble_eq_true rfl) rfl rfl (CutL.turned rfl (LnB.boxN ⟨True.intro, Ln.ownE rfl (by omega)⟩) (CutL.turned rfl LnB.A (CutL.turned rfl (LnB.boxN ⟨True.intro, Ln.ownE rfl (by omega)⟩) (CutL.turned rfl (LnB.rowE (by omega) fun k hk o ho => by obtain rfl : o = 0 := (by omega); rfl) (CutL.turned rfl (LnB.rowE (by omega) fun k hk o ho => by obtain rfl : o = 0 := (by omega); rfl) (CutL.turned rfl LnB.A (CutL.turned rfl LnB.A (CutL.turned rfl LnB.A CutL.done))))))))) allA rest.h) | (exact FWk.of [(6, nilS), (7, nilS), (9, .ptr 1 0), (10, .own 5 cl.length), (13, .ptr 0 0), (14, .ptr 2 0)] [.box 1 (ofL [.own 3 cl.length]), .box 1 (ofL [.ptr 6 0]), .box 1 (ofL [.own 4 N]), rowS cl.length (fun _ => false), rowS N (fun _ => false), rowS cl.length mt, .box 6 (cMt f s (t + 1) N zc ec cl 7), .mp 0 L] [6, 2, 5, 8, 7, 3, 0, 1] (Cut.of (Nat.le_of_ble_eq_true rfl) rfl rfl (CutL.turned rfl (LnB.boxN ⟨True.intro, Ln.ownE rfl (by omega)⟩) (CutL.turned rfl LnB.A (CutL.turned rfl (LnB.boxN ⟨True.intro, Ln.ownE rfl (by omega)⟩) (CutL.turned rfl (LnB.rowE (by omega) fun k hk o ho => by obtain rfl : o = 0 := (by omega); rfl) (CutL.turned rfl (LnB.rowE (by omega) fun k hk o ho => by obtain rfl : o = 0 := (by omega); rfl) (CutL.turned rfl LnB.A (CutL.turned rfl LnB.A (CutL.turned rfl LnB.A CutL.done))))))))) allA rest.h) | (exact FWk.of [(6, nilS), (7, nilS), (9, .ptr 1 0), (10, .own 5 cl.length), (13, .ptr 0 0), (14, .ptr 2 0)] [.box 1 (ofL [.own 3 cl.length]), .box 1 (ofL [.ptr 6 0]), .box 1 (ofL [.own 4 N]), rowS cl.length (fun _ => false), rowS N (fun _ => false), rowS cl.length mt, .box 6 (cMt f s (t + 1) N zc ec cl 7), .mp 0 L] [6, 2, 7, 5, 8, 3, 0, 1] (Cut.of (Nat.le_of_ble_eq_true rfl) rfl rfl (CutL.turned rfl (LnB.boxN ⟨True.intro, Ln.ownE rfl (by omega)⟩) (CutL.turned rfl LnB.A (CutL.turned rfl (LnB.boxN ⟨True.intro, Ln.ownE rfl (by omega)⟩) (CutL.turned rfl (LnB.rowE (by omega) fun k hk o ho => by obtain rfl : o = 0 := (by omega); rfl) (CutL.turned rfl (LnB.rowE (by omega) fun k hk o ho => by obtain rfl : o = 0 := (by omega); rfl) (CutL.turned rfl LnB.A (CutL.turned rfl LnB.A (CutL.turned rfl LnB.A CutL.done))))))))) allA rest.h) | (exact FWk.of [(6, nilS), (7, nilS), (9, .ptr 1 0), (10, .own 5 cl.length), (13, .ptr 0 0), (14, .ptr 2 0)] [.box 1 (ofL [.own 3 cl.length]), .box 1 (ofL [.ptr 6 0]), .box 1 (ofL [.own 4 N]), rowS cl.length (fun _ => false), rowS N (fun _ => false), rowS cl.length mt, .box 6 (cMt f s (t + 1) N zc ec cl 7), .mp 0 L] [6, 2, 7, 8, 5, 3, 0, 1] (Cut.of (Nat.le_of_ble_eq_true rfl) rfl rfl (CutL.turned rfl (LnB.boxN ⟨True.intro, Ln.ownE rfl (by omega)⟩) (CutL.turned rfl LnB.A (CutL.turned rfl (LnB.boxN ⟨True.intro, Ln.ownE rfl (by omega)⟩) (CutL.turned rfl (LnB.rowE (by omega) fun k hk o ho => by obtain rfl : o = 0 := (by omega); rfl) (CutL.turned rfl (LnB.rowE (by omega) fun k hk o ho => by obtain rfl : o = 0 := (by omega); rfl) (CutL.turned rfl LnB.A (CutL.turned rfl LnB.A (CutL.turned rfl LnB.A CutL.done))))))))) allA rest.h) | (exact FWk.of [(6, nilS), (7, nilS), (9, .ptr 1 0), (10, .own 5 cl.length), (13, .ptr 0 0), (14, .ptr 2 0)] [.box 1 (ofL [.own 3 cl.length]), .box 1 (ofL [.ptr 6 0]), .box 1 (ofL [.own 4 N]), rowS cl.length (fun _ => false), rowS N (fun _ => false), rowS cl.length mt, .box 6 (cMt f s (t + 1) N zc ec cl 7), .mp 0 L] [6, 2, 8, 5, 7, 3, 0, 1] (Cut.of (Nat.le_of_ble_eq_true rfl) rfl rfl (CutL.turned rfl (LnB.boxN ⟨True.intro, Ln.ownE rfl (by omega)⟩) (CutL.turned rfl LnB.A (CutL.turned rfl (LnB.boxN ⟨True.intro, Ln.ownE rfl (by omega)⟩) (CutL.turned rfl (LnB.rowE (by omega) fun k hk o ho => by obtain rfl : o = 0 := (by omega); rfl) (CutL.turned rfl (LnB.rowE (by omega) fun k hk o ho => by obtain rfl : o = 0 := (by omega); rfl) (CutL.turned rfl LnB.A (CutL.turned rfl LnB.A (CutL.turned rfl LnB.A CutL.done))))))))) allA rest.h) | (exact FWk.of [(6, nilS), (7, nilS), (9, .ptr 1 0), (10, .own 5 cl.length), (13, .ptr 0 0), (14, .ptr 2 0)] [.box 1 (ofL [.own 3 cl.length]), .box 1 (ofL [.ptr 6 0]), .box 1 (ofL [.own 4 N]), rowS cl.length (fun _ => false), rowS N (fun _ => false), rowS cl.length mt, .box 6 (cMt f s (t + 1) N zc ec cl 7), .mp 0 L] [6, 2, 8, 7, 5, 3, 0, 1] (Cut.of (Nat.le_of_ble_eq_true rfl) rfl rfl (CutL.turned rfl (LnB.boxN ⟨True.intro, Ln.ownE rfl (by omega)⟩) (CutL.turned rfl LnB.A (CutL.turned rfl (LnB.boxN ⟨True.intro, Ln.ownE rfl (by omega)⟩) (CutL.turned rfl (LnB.rowE (by omega) fun k hk o ho => by obtain rfl : o = 0 := (by omega); rfl) (CutL.turned rfl (LnB.rowE (by omega) fun k hk o ho => by obtain rfl : o = 0 := (by omega); rfl) (CutL.turned rfl LnB.A (CutL.turned rfl LnB.A (CutL.turned rfl LnB.A CutL.done))))))))) allA rest.h) | (exact FWk.of [(6, nilS), (7, nilS), (9, .ptr 1 0), (10, .own 5 cl.length), (13, .ptr 0 0), (14, .ptr 2 0)] [.box 1 (ofL [.own 3 cl.length]), .box 1 (ofL [.ptr 6 0]), .box 1 (ofL [.own 4 N]), rowS cl.length (fun _ => false), rowS N (fun _ => false), rowS cl.length mt, .box 6 (cMt f s (t + 1) N zc ec cl 7), .mp 0 L] [7, 2, 5, 6, 8, 3, 0, 1] (Cut.of (Nat.le_of_ble_eq_true rfl) rfl rfl (CutL.turned rfl (LnB.boxN ⟨True.intro, Ln.ownE rfl (by omega)⟩) (CutL.turned rfl LnB.A (CutL.turned rfl (LnB.boxN ⟨True.intro, Ln.ownE rfl (by omega)⟩) (CutL.turned rfl (LnB.rowE (by omega) fun k hk o ho => by obtain rfl : o = 0 := (by omega); rfl) (CutL.turned rfl (LnB.rowE (by omega) fun k hk o ho => by obtain rfl : o = 0 := (by omega); rfl) (CutL.turned rfl LnB.A (CutL.turned rfl LnB.A (CutL.turned rfl LnB.A CutL.done))))))))) allA rest.h) | (exact FWk.of [(6, nilS), (7, nilS), (9, .ptr 1 0), (10, .own 5 cl.length), (13, .ptr 0 0), (14, .ptr 2 0)] [.box 1 (ofL [.own 3 cl.length]), .box 1 (ofL [.ptr 6 0]), .box 1 (ofL [.own 4 N]), rowS cl.length (fun _ => false), rowS N (fun _ => false), rowS cl.length mt, .box 6 (cMt f s (t + 1) N zc ec cl 7), .mp 0 L] [7, 2, 5, 8, 6, 3, 0, 1] (Cut.of (Nat.le_of_ble_eq_true rfl) rfl rfl (CutL.turned rfl (LnB.boxN ⟨True.intro, Ln.ownE rfl (by omega)⟩) (CutL.turned rfl LnB.A (CutL.turned rfl (LnB.boxN ⟨True.intro, Ln.ownE rfl (by omega)⟩) (CutL.turned rfl (LnB.rowE (by omega) fun k hk o ho => by obtain rfl : o = 0 := (by omega); rfl) (CutL.turned rfl (LnB.rowE (by omega) fun k hk o ho => by obtain rfl : o = 0 := (by omega); rfl) (CutL.turned rfl LnB.A (CutL.turned rfl LnB.A (CutL.turned rfl LnB.A CutL.done))))))))) allA rest.h) | (exact FWk.of [(6, nilS), (7, nilS), (9, .ptr 1 0), (10, .own 5 cl.length), (13, .ptr 0 0), (14, .ptr 2 0)] [.box 1 (ofL [.own 3 cl.length]), .box 1 (ofL [.ptr 6 0]), .box 1 (ofL [.own 4 N]), rowS cl.length (fun _ => false), rowS N (fun _ => false), rowS cl.length mt, .box 6 (cMt f s (t + 1) N zc ec cl 7), .mp 0 L] [7, 2, 6, 5, 8, 3, 0, 1] (Cut.of (Nat.le_of_ble_eq_true rfl) rfl rfl (CutL.turned rfl (LnB.boxN ⟨True.intro, Ln.ownE rfl (by omega)⟩) (CutL.turned rfl LnB.A (CutL.turned rfl (LnB.boxN ⟨True.intro, Ln.ownE rfl (by omega)⟩) (CutL.turned rfl (LnB.rowE (by omega) fun k hk o ho => by obtain rfl : o = 0 := (by omega); rfl) (CutL.turned rfl (LnB.rowE (by omega) fun k hk o ho => by obtain rfl : o = 0 := (by omega); rfl) (CutL.turned rfl LnB.A (CutL.turned rfl LnB.A (CutL.turned rfl LnB.A CutL.done))))))))) allA rest.h) | (exact FWk.of [(6, nilS), (7, nilS), (9, .ptr 1 0), (10, .own 5 cl.length), (13, .ptr 0 0), (14, .ptr 2 0)] [.box 1 (ofL [.own 3 cl.length]), .box 1 (ofL [.ptr 6 0]), .box 1 (ofL [.own 4 N]), rowS cl.length (fun _ => false), rowS N (fun _ => false), rowS cl.length mt, .box 6 (cMt f s (t + 1) N zc ec cl 7), .mp 0 L] [7, 2, 6, 8, 5, 3, 0, 1] (Cut.of (Nat.le_of_ble_eq_true rfl) rfl rfl (CutL.turned rfl (LnB.boxN ⟨True.intro, Ln.ownE rfl (by omega)⟩) (CutL.turned rfl LnB.A (CutL.turned rfl (LnB.boxN ⟨True.intro, Ln.ownE rfl (by omega)⟩) (CutL.turned rfl (LnB.rowE (by omega) fun k hk o ho => by obtain rfl : o = 0 := (by omega); rfl) (CutL.turned rfl (LnB.rowE (by omega) fun k hk o ho => by obtain rfl : o = 0 := (by omega); rfl) (CutL.turned rfl LnB.A (CutL.turned rfl LnB.A (CutL.turned rfl LnB.A CutL.done))))))))) allA rest.h) | (exact FWk.of [(6, nilS), (7, nilS), (9, .ptr 1 0), (10, .own 5 cl.length), (13, .ptr 0 0), (14, .ptr 2 0)] [.box 1 (ofL [.own 3 cl.length]), .box 1 (ofL [.ptr 6 0]), .box 1 (ofL [.own 4 N]), rowS cl.length (fun _ => false), rowS N (fun _ => false), rowS cl.length mt, .box 6 (cMt f s (t + 1) N zc ec cl 7), .mp 0 L] [7, 2, 8, 5, 6, 3, 0, 1] (Cut.of (Nat.le_of_ble_eq_true rfl) rfl rfl (CutL.turned rfl (LnB.boxN ⟨True.intro, Ln.ownE rfl (by omega)⟩) (CutL.turned rfl LnB.A (CutL.turned rfl (LnB.boxN ⟨True.intro, Ln.ownE rfl (by omega)⟩) (CutL.turned rfl (LnB.rowE (by omega) fun k hk o ho => by obtain rfl : o = 0 := (by omega); rfl) (CutL.turned rfl (LnB.rowE (by omega) fun k hk o ho => by obtain rfl : o = 0 := (by omega); rfl) (CutL.turned rfl LnB.A (CutL.turned rfl LnB.A (CutL.turned rfl LnB.A CutL.done))))))))) allA rest.h) | (exact FWk.of [(6, nilS), (7, nilS), (9, .ptr 1 0), (10, .own 5 cl.length), (13, .ptr 0 0), (14, .ptr 2 0)] [.box 1 (ofL [.own 3 cl.length]), .box 1 (ofL [.ptr 6 0]), .box 1 (ofL [.own 4 N]), rowS cl.length (fun _ => false), rowS N (fun _ => false), rowS cl.length mt, .box 6 (cMt f s (t + 1) N zc ec cl 7), .mp 0 L] [7, 2, 8, 6, 5, 3, 0, 1] (Cut.of (Nat.le_of_ble_eq_true rfl) rfl rfl (CutL.turned rfl (LnB.boxN ⟨True.intro, Ln.ownE rfl (by omega)⟩) (CutL.turned rfl LnB.A (CutL.turned rfl (LnB.boxN ⟨True.intro, Ln.ownE rfl (by omega)⟩) (CutL.turned rfl (LnB.rowE (by omega) fun k hk o ho => by obtain rfl : o = 0 := (by omega); rfl) (CutL.turned rfl (LnB.rowE (by omega) fun k hk o ho => by obtain rfl : o = 0 := (by omega); rfl) (CutL.turned rfl LnB.A (CutL.turned rfl LnB.A (CutL.turned rfl LnB.A CutL.done))))))))) allA rest.h) | (exact FWk.of [(6, nilS), (7, nilS), (9, .ptr 1 0), (10, .own 5 cl.length), (13, .ptr 0 0), (14, .ptr 2 0)] [.box 1 (ofL [.own 3 cl.length]), .box 1 (ofL [.ptr 6 0]), .box 1 (ofL [.own 4 N]), rowS cl.length (fun _ => false), rowS N (fun _ => false), rowS cl.length mt, .box 6 (cMt f s (t + 1) N zc ec cl 7), .mp 0 L] [8, 2, 5, 6, 7, 3, 0, 1] (Cut.of (Nat.le_of_ble_eq_true rfl) rfl rfl (CutL.turned rfl (LnB.boxN ⟨True.intro, Ln.ownE rfl (by omega)⟩) (CutL.turned rfl LnB.A (CutL.turned rfl (LnB.boxN ⟨True.intro, Ln.ownE rfl (by omega)⟩) (CutL.turned rfl (LnB.rowE (by omega) fun k hk o ho => by obtain rfl : o = 0 := (by omega); rfl) (CutL.turned rfl (LnB.rowE (by omega) fun k hk o ho => by obtain rfl : o = 0 := (by omega); rfl) (CutL.turned rfl LnB.A (CutL.turned rfl LnB.A (CutL.turned rfl LnB.A CutL.done))))))))) allA rest.h) | (exact FWk.of [(6, nilS), (7, nilS), (9, .ptr 1 0), (10, .own 5 cl.length), (13, .ptr 0 0), (14, .ptr 2 0)] [.box 1 (ofL [.own 3 cl.length]), .box 1 (ofL [.ptr 6 0]), .box 1 (ofL [.own 4 N]), rowS cl.length (fun _ => false), rowS N (fun _ => false), rowS cl.length mt, .box 6 (cMt f s (t + 1) N zc ec cl 7), .mp 0 L] [8, 2, 5, 7, 6, 3, 0, 1] (Cut.of (Nat.le_of_ble_eq_true rfl) rfl rfl (CutL.turned rfl (LnB.boxN ⟨True.intro, Ln.ownE rfl (by omega)⟩) (CutL.turned rfl LnB.A (CutL.turned rfl (LnB.boxN ⟨True.intro, Ln.ownE rfl (by omega)⟩) (CutL.turned rfl (LnB.rowE (by omega) fun k hk o ho => by obtain rfl : o = 0 := (by omega); rfl) (CutL.turned rfl (LnB.rowE (by omega) fun k hk o ho => by obtain rfl : o = 0 := (by omega); rfl) (CutL.turned rfl LnB.A (CutL.turned rfl LnB.A (CutL.turned rfl LnB.A CutL.done))))))))) allA rest.h) | (exact FWk.of [(6, nilS), (7, nilS), (9, .ptr 1 0), (10, .own 5 cl.length), (13, .ptr 0 0), (14, .ptr 2 0)] [.box 1 (ofL [.own 3 cl.length]), .box 1 (ofL [.ptr 6 0]), .box 1 (ofL [.own 4 N]), rowS cl.length (fun _ => false), rowS N (fun _ => false), rowS cl.length mt, .box 6 (cMt f s (t + 1) N zc ec cl 7), .mp 0 L] [8, 2, 6, 5, 7, 3, 0, 1] (Cut.of (Nat.le_of_ble_eq_true rfl) rfl rfl (CutL.turned rfl (LnB.boxN ⟨True.intro, Ln.ownE rfl (by omega)⟩) (CutL.turned rfl LnB.A (CutL.turned rfl (LnB.boxN ⟨True.intro, Ln.ownE rfl (by omega)⟩) (CutL.turned rfl (LnB.rowE (by omega) fun k hk o ho => by obtain rfl : o = 0 := (by omega); rfl) (CutL.turned rfl (LnB.rowE (by omega) fun k hk o ho => by obtain rfl : o = 0 := (by omega); rfl) (CutL.turned rfl LnB.A (CutL.turned rfl LnB.A (CutL.turned rfl LnB.A CutL.done))))))))) allA rest.h) | (exact FWk.of [(6, nilS), (7, nilS), (9, .ptr 1 0), (10, .own 5 cl.length), (13, .ptr 0 0), (14, .ptr 2 0)] [.box 1 (ofL [.own 3 cl.length]), .box 1 (ofL [.ptr 6 0]), .box 1 (ofL [.own 4 N]), rowS cl.length (fun _ => false), rowS N (fun _ => false), rowS cl.length mt, .box 6 (cMt f s (t + 1) N zc ec cl 7), .mp 0 L] [8, 2, 6, 7, 5, 3, 0, 1] (Cut.of (Nat.le_of_ble_eq_true rfl) rfl rfl (CutL.turned rfl (LnB.boxN ⟨True.intro, Ln.ownE rfl (by omega)⟩) (CutL.turned rfl LnB.A (CutL.turned rfl (LnB.boxN ⟨True.intro, Ln.ownE rfl (by omega)⟩) (CutL.turned rfl (LnB.rowE (by omega) fun k hk o ho => by obtain rfl : o = 0 := (by omega); rfl) (CutL.turned rfl (LnB.rowE (by omega) fun k hk o ho => by obtain rfl : o = 0 := (by omega); rfl) (CutL.turned rfl LnB.A (CutL.turned rfl LnB.A (CutL.turned rfl LnB.A CutL.done))))))))) allA rest.h) | (exact FWk.of [(6, nilS), (7, nilS), (9, .ptr 1 0), (10, .own 5 cl.length), (13, .ptr 0 0), (14, .ptr 2 0)] [.box 1 (ofL [.own 3 cl.length]), .box 1 (ofL [.ptr 6 0]), .box 1 (ofL [.own 4 N]), rowS cl.length (fun _ => false), rowS N (fun _ => false), rowS cl.length mt, .box 6 (cMt f s (t + 1) N zc ec cl 7), .mp 0 L] [8, 2, 7, 5, 6, 3, 0, 1] (Cut.of (Nat.le_of_ble_eq_true rfl) rfl rfl (CutL.turned rfl (LnB.boxN ⟨True.intro, Ln.ownE rfl (by omega)⟩) (CutL.turned rfl LnB.A (CutL.turned rfl (LnB.boxN ⟨True.intro, Ln.ownE rfl (by omega)⟩) (CutL.turned rfl (LnB.rowE (by omega) fun k hk o ho => by obtain rfl : o = 0 := (by omega); rfl) (CutL.turned rfl (LnB.rowE (by omega) fun k hk o ho => by obtain rfl : o = 0 := (by omega); rfl) (CutL.turned rfl LnB.A (CutL.turned rfl LnB.A (CutL.turned rfl LnB.A CutL.done))))))))) allA rest.h) | (exact FWk.of [(6, nilS), (7, nilS), (9, .ptr 1 0), (10, .own 5 cl.length), (13, .ptr 0 0), (14, .ptr 2 0)] [.box 1 (ofL [.own 3 cl.length]), .box 1 (ofL [.ptr 6 0]), .box 1 (ofL [.own 4 N]), rowS cl.length (fun _ => false), rowS N (fun _ => false), rowS cl.length mt, .box 6 (cMt f s (t + 1) N zc ec cl 7), .mp 0 L] [8, 2, 7, 6, 5, 3, 0, 1] (Cut.of (Nat.le_of_ble_eq_true rfl) rfl rfl (CutL.turned rfl (LnB.boxN ⟨True.intro, Ln.ownE rfl (by omega)⟩) (CutL.turned rfl LnB.A (CutL.turned rfl (LnB.boxN ⟨True.intro, Ln.ownE rfl (by omega)⟩) (CutL.turned rfl (LnB.rowE (by omega) fun k hk o ho => by obtain rfl : o = 0 := (by omega); rfl) (CutL.turned rfl (LnB.rowE (by omega) fun k hk o ho => by obtain rfl : o = 0 := (by omega); rfl) (CutL.turned rfl LnB.A (CutL.turned rfl LnB.A (CutL.turned rfl LnB.A CutL.done))))))))) allA rest.h)
    · (repeat' ((try (conv => whnf)); first | (with_reducible first | refine FCond.tA ?_ | refine FCond.fA ?_) | ((with_reducible refine FCond.i (fun hq => ?_) (fun hq => ?_)) <;> (try simp only [zA, zE, zD, zJ, zB, zI, Int.not_le, Int.not_lt] at hq)) | (with_reducible first | refine Fits.in64 (by omega) ?_ | refine FIdx.nat (by omega) ?_ | refine FIdx.int (by omega) ?_ | refine FTo.nat (by omega) ?_ | refine FTo.int (by omega) ?_) | ((with_reducible refine Need.mk ?_ ?_); focus exact needA) | (with_reducible refine FApp.grow ?_) | (with_reducible refine FOr.pub ?_)))
      all_goals (try (conv => whnf))
      obtain ⟨R, Z, hZ, hRf⟩ := hF.full
      refine FLoop.of (ACalls.mono _) (X := Nat × (Nat → Bool) × (Nat → Bool)) (fun x => [(6, nilS), (7, nilS), (9, .ptr 1 0), (13, .ptr 0 0), (14, .ptr 2 0), (15, .ptr 8 0), (63, .own 5 cl.length), (64, AI cl.length), (65, AI x.1)]) (fun x => [.box 1 (ofL [.own 3 cl.length]), .box 1 (ofL [.ptr 6 0]), .box 1 (ofL [.own 4 N]), rowS cl.length x.2.1, rowS N x.2.2, rowS cl.length mt, .box 6 (cMt f s (t + 1) N zc ec cl 7), .mp 0 L, .box 1 (ofL [(.fn 53 4 (ofL [.ptr 0 0, .ptr 1 0, .ptr 2 0, .ptr 8 0]))])]) (fun x => x.1 ≤ cl.length ∧ CovI s (t + 1) N cl L R Z mt x.1 x.2.1 x.2.2) (fun x => cl.length - x.1) (0, (fun _ => false), (fun _ => false))
        ⟨⟨Nat.zero_le _, covI_zero⟩, [0, 1, 2, 3, 4, 5, 6, 7, 8], Cut.of (Nat.le_of_ble_eq_true rfl) rfl rfl (CutL.turned rfl LnB.A (CutL.turned rfl LnB.A (CutL.turned rfl LnB.A (CutL.turned rfl LnB.A (CutL.turned rfl LnB.A (CutL.turned rfl LnB.A (CutL.turned rfl LnB.A (CutL.turned rfl LnB.A (CutL.turned rfl LnB.A CutL.done))))))))), allA⟩ ?_
      rintro ⟨k, rd, sn⟩ ⟨hk2, hI⟩
      simp only at hk2 hI
      by_cases hlt : k < cl.length
      · cases hm : mt k
        · have hP := reach_ok f s hs (t + 1) N zc ec cl hB L hH _ rd sn k hlt (Nat.le_refl _)
          (repeat' ((try (conv => whnf)); first | (with_reducible first | refine FCond.tA ?_ | refine FCond.fA ?_) | ((with_reducible refine FCond.i (fun hq => ?_) (fun hq => ?_)) <;> (try simp only [zA, zE, zD, zJ, zB, zI, Int.not_le, Int.not_lt] at hq)) | (with_reducible first | refine Fits.in64 (by omega) ?_ | refine FIdx.nat (by omega) ?_ | refine FIdx.int (by omega) ?_ | refine FTo.nat (by omega) ?_ | refine FTo.int (by omega) ?_) | ((with_reducible refine Need.mk ?_ ?_); focus exact needA) | (with_reducible refine FApp.grow ?_) | (with_reducible refine FOr.pub ?_)))
          all_goals (try (conv => whnf))
          refine FCall.give [0, 1, 2, 8, 3, 4, 6, 7] [] hP rfl rfl ⟨⟨_, rfl, trivial, LnB.A⟩, ⟨_, rfl, trivial, LnB.A⟩, ⟨_, rfl, trivial, LnB.A⟩, ⟨_, rfl, trivial, LnB.A⟩, ⟨_, rfl, trivial, LnB.A⟩, ⟨_, rfl, trivial, LnB.A⟩, ⟨_, rfl, trivial, LnB.A⟩, ⟨_, rfl, trivial, LnB.A⟩, True.intro⟩ ⟨Ln.A, Ln.A, Ln.A, Ln.A, Ln.A, True.intro⟩ ?_
          rintro _ _ ⟨rfl, rd2, sn2, rfl, hS⟩
          refine ⟨Nat.le_of_ble_eq_true rfl, .inl rfl, ?_⟩
          (repeat' ((try (conv => whnf)); first | (with_reducible first | refine FCond.tA ?_ | refine FCond.fA ?_) | ((with_reducible refine FCond.i (fun hq => ?_) (fun hq => ?_)) <;> (try simp only [zA, zE, zD, zJ, zB, zI, Int.not_le, Int.not_lt] at hq)) | (with_reducible first | refine Fits.in64 (by omega) ?_ | refine FIdx.nat (by omega) ?_ | refine FIdx.int (by omega) ?_ | refine FTo.nat (by omega) ?_ | refine FTo.int (by omega) ?_) | ((with_reducible refine Need.mk ?_ ?_); focus exact needA) | (with_reducible refine FApp.grow ?_) | (with_reducible refine FOr.pub ?_)))
          all_goals (try (conv => whnf))
          have hRk : R k := (hRf k hlt).resolve_right fun hx => by rw [(hmt k).2 hx] at hm; cases hm
          exact ⟨⟨(k + 1, rd2, sn2), ⟨hlt, covI_reach hI hm hZ hRk hS⟩, by show _ < _; simp only; omega, [0, 1, 2, 3, 4, 5, 6, 7, 8], Cut.A, allA⟩⟩
        · (repeat' ((try (conv => whnf)); first | (with_reducible first | refine FCond.tA ?_ | refine FCond.fA ?_) | ((with_reducible refine FCond.i (fun hq => ?_) (fun hq => ?_)) <;> (try simp only [zA, zE, zD, zJ, zB, zI, Int.not_le, Int.not_lt] at hq)) | (with_reducible first | refine Fits.in64 (by omega) ?_ | refine FIdx.nat (by omega) ?_ | refine FIdx.int (by omega) ?_ | refine FTo.nat (by omega) ?_ | refine FTo.int (by omega) ?_) | ((with_reducible refine Need.mk ?_ ?_); focus exact needA) | (with_reducible refine FApp.grow ?_) | (with_reducible refine FOr.pub ?_)))
          all_goals (try (conv => whnf))
          exact ⟨⟨(k + 1, rd, sn), ⟨hlt, covI_skip hI hm⟩, by show _ < _; simp only; omega, [0, 1, 2, 3, 4, 5, 6, 7, 8], Cut.A, allA⟩⟩
      obtain rfl : k = cl.length := by omega
      (repeat' ((try (conv => whnf)); first | (with_reducible first | refine FCond.tA ?_ | refine FCond.fA ?_) | ((with_reducible refine FCond.i (fun hq => ?_) (fun hq => ?_)) <;> (try simp only [zA, zE, zD, zJ, zB, zI, Int.not_le, Int.not_lt] at hq)) | (with_reducible first | refine Fits.in64 (by omega) ?_ | refine FIdx.nat (by omega) ?_ | refine FIdx.int (by omega) ?_ | refine FTo.nat (by omega) ?_ | refine FTo.int (by omega) ?_) | ((with_reducible refine Need.mk ?_ ?_); focus exact needA) | (with_reducible refine FApp.grow ?_) | (with_reducible refine FOr.pub ?_)))
      all_goals (try (conv => whnf))
      refine FLoop.of (ACalls.mono _) (X := Nat × List Nat) (fun x => [(6, oN 7 x.2), (7, nilS), (9, .ptr 1 0), (13, .ptr 0 0), (14, .ptr 2 0), (79, aSpots false false (t + 1) N), (80, AI N), (81, AI x.1)]) (fun x => hN [.box 1 (ofL [.own 3 cl.length]), .box 1 (ofL [.ptr 5 0]), .box 1 (ofL [.own 4 N]), rowS cl.length rd, rowS N sn, .box 6 (cMt f s (t + 1) N zc ec cl 6), .mp 0 L] 2 (gSp (t + 1)) x.2) (fun x => x.1 ≤ N ∧ x.2 = spK sn x.1) (fun x => N - x.1) (0, [])
        ⟨⟨Nat.zero_le _, rfl⟩, [0, 1, 2, 3, 4, 6, 7], Cut.A, allA⟩ ?_
      rintro ⟨i, l⟩ ⟨hi, hl⟩
      simp only at hi hl
      by_cases hlt4 : i < N
      · have hst := spK_succ sn i
        rw [← hl] at hst
        have hll := spK_len sn i
        rw [← hl] at hll
        cases hsi : sn i
        · rw [if_neg (by rw [hsi]; decide)] at hst
          rcases l with _ | ⟨x, xs⟩
          · (repeat' ((try (conv => whnf)); first | (with_reducible first | refine FCond.tA ?_ | refine FCond.fA ?_) | ((with_reducible refine FCond.i (fun hq => ?_) (fun hq => ?_)) <;> (try simp only [zA, zE, zD, zJ, zB, zI, Int.not_le, Int.not_lt] at hq)) | (with_reducible first | refine Fits.in64 (by omega) ?_ | refine FIdx.nat (by omega) ?_ | refine FIdx.int (by omega) ?_ | refine FTo.nat (by omega) ?_ | refine FTo.int (by omega) ?_) | ((with_reducible refine Need.mk ?_ ?_); focus exact needA) | (with_reducible refine FApp.grow ?_) | (with_reducible refine FOr.pub ?_)))
            all_goals (try (conv => whnf))
            exact ⟨⟨(i + 1, []), ⟨hlt4, hst.symm⟩, by show _ < _; simp only; omega, [0, 1, 2, 3, 4, 5, 6], Cut.A, allA⟩⟩
          · (repeat' ((try (conv => whnf)); first | (with_reducible first | refine FCond.tA ?_ | refine FCond.fA ?_) | ((with_reducible refine FCond.i (fun hq => ?_) (fun hq => ?_)) <;> (try simp only [zA, zE, zD, zJ, zB, zI, Int.not_le, Int.not_lt] at hq)) | (with_reducible first | refine Fits.in64 (by omega) ?_ | refine FIdx.nat (by omega) ?_ | refine FIdx.int (by omega) ?_ | refine FTo.nat (by omega) ?_ | refine FTo.int (by omega) ?_) | ((with_reducible refine Need.mk ?_ ?_); focus exact needA) | (with_reducible refine FApp.grow ?_) | (with_reducible refine FOr.pub ?_)))
            all_goals (try (conv => whnf))
            exact ⟨⟨(i + 1, x :: xs), ⟨hlt4, hst.symm⟩, by show _ < _; simp only; omega, [0, 1, 2, 3, 4, 5, 6, 7], Cut.A, allA⟩⟩
        · rw [if_pos hsi] at hst
          rcases l with _ | ⟨x, xs⟩
          · (repeat' ((try (conv => whnf)); first | (with_reducible first | refine FCond.tA ?_ | refine FCond.fA ?_) | ((with_reducible refine FCond.i (fun hq => ?_) (fun hq => ?_)) <;> (try simp only [zA, zE, zD, zJ, zB, zI, Int.not_le, Int.not_lt] at hq)) | (with_reducible first | refine Fits.in64 (by omega) ?_ | refine FIdx.nat (by omega) ?_ | refine FIdx.int (by omega) ?_ | refine FTo.nat (by omega) ?_ | refine FTo.int (by omega) ?_) | ((with_reducible refine Need.mk ?_ ?_); focus exact needA) | (with_reducible refine FApp.grow ?_) | (with_reducible refine FOr.pub ?_)))
            all_goals (try (conv => whnf))
            exact ⟨⟨(i + 1, [i]), ⟨hlt4, hst.symm⟩, by show _ < _; simp only; omega, [0, 1, 2, 3, 4, 5, 6, 8], Cut.of (Nat.le_of_ble_eq_true rfl) rfl rfl (CutL.turned rfl LnB.A (CutL.turned rfl LnB.A (CutL.turned rfl LnB.A (CutL.turned rfl LnB.A (CutL.turned rfl LnB.A (CutL.turned rfl LnB.A (CutL.turned rfl LnB.A (CutL.turned rfl (LnB.app (fun k hk => absurd hk (Nat.not_lt_zero k)) (fun o ho => by rcases (show o = 0 ∨ o = 1 by omega) with rfl | rfl <;> rfl)) CutL.done)))))))), allA⟩⟩
          · simp only [List.length_cons] at hll
            (repeat' ((try (conv => whnf)); first | (with_reducible first | refine FCond.tA ?_ | refine FCond.fA ?_) | ((with_reducible refine FCond.i (fun hq => ?_) (fun hq => ?_)) <;> (try simp only [zA, zE, zD, zJ, zB, zI, Int.not_le, Int.not_lt] at hq)) | (with_reducible first | refine Fits.in64 (by omega) ?_ | refine FIdx.nat (by omega) ?_ | refine FIdx.int (by omega) ?_ | refine FTo.nat (by omega) ?_ | refine FTo.int (by omega) ?_) | ((with_reducible refine Need.mk ?_ ?_); focus exact needA) | (with_reducible refine FApp.grow ?_) | (with_reducible refine FOr.pub ?_)))
            all_goals (try (conv => whnf))
            exact ⟨⟨(i + 1, x :: (xs ++ [i])), ⟨hlt4, hst.symm⟩, by show _ < _; simp only; omega, [0, 1, 2, 3, 4, 5, 6, 9], Cut.of (Nat.le_of_ble_eq_true rfl) rfl rfl (CutL.turned rfl LnB.A (CutL.turned rfl LnB.A (CutL.turned rfl LnB.A (CutL.turned rfl LnB.A (CutL.turned rfl LnB.A (CutL.turned rfl LnB.A (CutL.turned rfl LnB.A (CutL.turned rfl (LnB.snocN (fun o ho => by rcases (show o = 0 ∨ o = 1 by omega) with rfl | rfl <;> rfl)) CutL.done)))))))), ⟨Ln.ownE rfl (by simp), Ln.A, Ln.A, Ln.A, Ln.A, Ln.A, Ln.A, Ln.A, True.intro⟩⟩⟩
      obtain rfl : N = i := by omega
      obtain ⟨A, hA⟩ : ∃ A, A = spK sn N := ⟨_, rfl⟩
      rw [← hA] at hl
      apply cutG
      · intro rest2
        rcases l with _ | ⟨x, xs⟩
        · (repeat' ((try (conv => whnf)); first | (with_reducible first | refine FCond.tA ?_ | refine FCond.fA ?_) | ((with_reducible refine FCond.i (fun hq => ?_) (fun hq => ?_)) <;> (try simp only [zA, zE, zD, zJ, zB, zI, Int.not_le, Int.not_lt] at hq)) | (with_reducible first | refine Fits.in64 (by omega) ?_ | refine FIdx.nat (by omega) ?_ | refine FIdx.int (by omega) ?_ | refine FTo.nat (by omega) ?_ | refine FTo.int (by omega) ?_) | ((with_reducible refine Need.mk ?_ ?_); focus exact needA) | (with_reducible refine FApp.grow ?_) | (with_reducible refine FOr.pub ?_)))
          all_goals (try (conv => whnf))
          exact FWk.of [(6, aList 2 (gSp (t + 1)) A), (7, nilS), (9, .ptr 1 0), (13, .ptr 0 0)] [.box 1 (ofL [.own 3 cl.length]), .box 1 (ofL [.ptr 2 0]), .box 6 (cMt f s (t + 1) N zc ec cl 4), rowS cl.length rd, .mp 0 L] [0, 1, 5, 3, 6] Cut.A ⟨Ln.outN0 hl, Ln.A, Ln.A, Ln.A, True.intro⟩ rest2.h
        · (repeat' ((try (conv => whnf)); first | (with_reducible first | refine FCond.tA ?_ | refine FCond.fA ?_) | ((with_reducible refine FCond.i (fun hq => ?_) (fun hq => ?_)) <;> (try simp only [zA, zE, zD, zJ, zB, zI, Int.not_le, Int.not_lt] at hq)) | (with_reducible first | refine Fits.in64 (by omega) ?_ | refine FIdx.nat (by omega) ?_ | refine FIdx.int (by omega) ?_ | refine FTo.nat (by omega) ?_ | refine FTo.int (by omega) ?_) | ((with_reducible refine Need.mk ?_ ?_); focus exact needA) | (with_reducible refine FApp.grow ?_) | (with_reducible refine FOr.pub ?_)))
          all_goals (try (conv => whnf))
          exact FWk.of [(6, aList 2 (gSp (t + 1)) A), (7, nilS), (9, .ptr 1 0), (13, .ptr 0 0)] [.box 1 (ofL [.own 3 cl.length]), .box 1 (ofL [.ptr 2 0]), .box 6 (cMt f s (t + 1) N zc ec cl 4), rowS cl.length rd, .mp 0 L] [0, 1, 5, 3, 6] Cut.A ⟨Ln.outN1 hl (goneB rfl) rfl, Ln.A, Ln.A, Ln.A, True.intro⟩ rest2.h
      clear hl
      have hcs : cl.Pairwise (· < ·) := by rw [← hcle]; exact clK_sorted s u s.C
      have hcb : ∀ c, c < cl.length → cl.getD c 0 < s.C := fun c hc => by rw [← hcle] at hc ⊢; exact clK_mem hc
      (repeat' ((try (conv => whnf)); first | (with_reducible first | refine FCond.tA ?_ | refine FCond.fA ?_) | ((with_reducible refine FCond.i (fun hq => ?_) (fun hq => ?_)) <;> (try simp only [zA, zE, zD, zJ, zB, zI, Int.not_le, Int.not_lt] at hq)) | (with_reducible first | refine Fits.in64 (by omega) ?_ | refine FIdx.nat (by omega) ?_ | refine FIdx.int (by omega) ?_ | refine FTo.nat (by omega) ?_ | refine FTo.int (by omega) ?_) | ((with_reducible refine Need.mk ?_ ?_); focus exact needA) | (with_reducible refine FApp.grow ?_) | (with_reducible refine FOr.pub ?_)))
      all_goals (try (conv => whnf))
      refine FLoop.of (ACalls.mono _) (X := Nat × List Nat) (fun x => [(6, aList 2 (gSp (t + 1)) A), (7, oN 4 x.2), (9, .ptr 0 0), (95, .own 3 cl.length), (96, AI cl.length), (97, AI x.1)]) (fun x => hN [.box 1 (ofL [.ptr 1 0]), .box 6 (cMt f s (t + 1) N zc ec cl 2), .mp 0 L, rowS cl.length rd] 1 gNat x.2) (fun x => x.1 ≤ cl.length ∧ x.2 = caK cl rd x.1) (fun x => cl.length - x.1) (0, [])
        ⟨⟨Nat.zero_le _, rfl⟩, [1, 2, 4, 3], Cut.A, allA⟩ ?_
      rintro ⟨j, l⟩ ⟨hj, hl⟩
      simp only at hj hl
      by_cases hlt6 : j < cl.length
      · have hst := caK_succ cl rd j
        rw [← hl] at hst
        have hll := caK_len cl rd j
        rw [← hl] at hll
        have hcj := hcb j hlt6
        cases hrj : rd j
        · rw [if_neg (by rw [hrj]; decide)] at hst
          rcases l with _ | ⟨x, xs⟩
          · (repeat' ((try (conv => whnf)); first | (with_reducible first | refine FCond.tA ?_ | refine FCond.fA ?_) | ((with_reducible refine FCond.i (fun hq => ?_) (fun hq => ?_)) <;> (try simp only [zA, zE, zD, zJ, zB, zI, Int.not_le, Int.not_lt] at hq)) | (with_reducible first | refine Fits.in64 (by omega) ?_ | refine FIdx.nat (by omega) ?_ | refine FIdx.int (by omega) ?_ | refine FTo.nat (by omega) ?_ | refine FTo.int (by omega) ?_) | ((with_reducible refine Need.mk ?_ ?_); focus exact needA) | (with_reducible refine FApp.grow ?_) | (with_reducible refine FOr.pub ?_)))
            all_goals (try (conv => whnf))
            exact ⟨⟨(j + 1, [cl.getD j 0]), ⟨hlt6, hst.symm⟩, by show _ < _; simp only; omega, [0, 1, 2, 3, 4], Cut.of (Nat.le_of_ble_eq_true rfl) rfl rfl (CutL.turned rfl LnB.A (CutL.turned rfl LnB.A (CutL.turned rfl LnB.A (CutL.turned rfl LnB.A (CutL.turned rfl (LnB.app (fun k hk => absurd hk (Nat.not_lt_zero k)) (fun o ho => by obtain rfl : o = 0 := (by omega); rfl)) CutL.done))))), allA⟩⟩
          · simp only [List.length_cons] at hll
            (repeat' ((try (conv => whnf)); first | (with_reducible first | refine FCond.tA ?_ | refine FCond.fA ?_) | ((with_reducible refine FCond.i (fun hq => ?_) (fun hq => ?_)) <;> (try simp only [zA, zE, zD, zJ, zB, zI, Int.not_le, Int.not_lt] at hq)) | (with_reducible first | refine Fits.in64 (by omega) ?_ | refine FIdx.nat (by omega) ?_ | refine FIdx.int (by omega) ?_ | refine FTo.nat (by omega) ?_ | refine FTo.int (by omega) ?_) | ((with_reducible refine Need.mk ?_ ?_); focus exact needA) | (with_reducible refine FApp.grow ?_) | (with_reducible refine FOr.pub ?_)))
            all_goals (try (conv => whnf))
            exact ⟨⟨(j + 1, x :: (xs ++ [cl.getD j 0])), ⟨hlt6, hst.symm⟩, by show _ < _; simp only; omega, [0, 1, 2, 3, 5], Cut.of (Nat.le_of_ble_eq_true rfl) rfl rfl (CutL.turned rfl LnB.A (CutL.turned rfl LnB.A (CutL.turned rfl LnB.A (CutL.turned rfl LnB.A (CutL.turned rfl (LnB.snocN (fun o ho => by obtain rfl : o = 0 := (by omega); rfl)) CutL.done))))), ⟨Ln.A, Ln.ownE rfl (by simp), Ln.A, Ln.A, Ln.A, Ln.A, True.intro⟩⟩⟩
        · rw [if_pos hrj] at hst
          rcases l with _ | ⟨x, xs⟩
          · (repeat' ((try (conv => whnf)); first | (with_reducible first | refine FCond.tA ?_ | refine FCond.fA ?_) | ((with_reducible refine FCond.i (fun hq => ?_) (fun hq => ?_)) <;> (try simp only [zA, zE, zD, zJ, zB, zI, Int.not_le, Int.not_lt] at hq)) | (with_reducible first | refine Fits.in64 (by omega) ?_ | refine FIdx.nat (by omega) ?_ | refine FIdx.int (by omega) ?_ | refine FTo.nat (by omega) ?_ | refine FTo.int (by omega) ?_) | ((with_reducible refine Need.mk ?_ ?_); focus exact needA) | (with_reducible refine FApp.grow ?_) | (with_reducible refine FOr.pub ?_)))
            all_goals (try (conv => whnf))
            exact ⟨⟨(j + 1, []), ⟨hlt6, hst.symm⟩, by show _ < _; simp only; omega, [0, 1, 2, 3], Cut.A, allA⟩⟩
          · (repeat' ((try (conv => whnf)); first | (with_reducible first | refine FCond.tA ?_ | refine FCond.fA ?_) | ((with_reducible refine FCond.i (fun hq => ?_) (fun hq => ?_)) <;> (try simp only [zA, zE, zD, zJ, zB, zI, Int.not_le, Int.not_lt] at hq)) | (with_reducible first | refine Fits.in64 (by omega) ?_ | refine FIdx.nat (by omega) ?_ | refine FIdx.int (by omega) ?_ | refine FTo.nat (by omega) ?_ | refine FTo.int (by omega) ?_) | ((with_reducible refine Need.mk ?_ ?_); focus exact needA) | (with_reducible refine FApp.grow ?_) | (with_reducible refine FOr.pub ?_)))
            all_goals (try (conv => whnf))
            exact ⟨⟨(j + 1, x :: xs), ⟨hlt6, hst.symm⟩, by show _ < _; simp only; omega, [0, 1, 2, 3, 4], Cut.A, allA⟩⟩
      obtain rfl : j = cl.length := by omega
      have hR : CovR s t u A l := by
        rw [hA, hl]
        subst hcle hNe
        exact cov_all hF hZ.back hmt hI
      have hsrt : l.Pairwise (· < ·) := hR.spB
      have hll := caK_len cl rd cl.length
      rw [← hl] at hll
      rcases l with _ | ⟨x, xs⟩
      · (repeat' ((try (conv => whnf)); first | (with_reducible first | refine FCond.tA ?_ | refine FCond.fA ?_) | ((with_reducible refine FCond.i (fun hq => ?_) (fun hq => ?_)) <;> (try simp only [zA, zE, zD, zJ, zB, zI, Int.not_le, Int.not_lt] at hq)) | (with_reducible first | refine Fits.in64 (by omega) ?_ | refine FIdx.nat (by omega) ?_ | refine FIdx.int (by omega) ?_ | refine FTo.nat (by omega) ?_ | refine FTo.int (by omega) ?_) | ((with_reducible refine Need.mk ?_ ?_); focus exact needA) | (with_reducible refine FApp.grow ?_) | (refine FCall.pure (sort_nil) ⟨Ln.sameB _ rfl, True.intro⟩ rfl ?_) | (with_reducible refine FOr.pub ?_)))
        all_goals (try (conv => whnf))
        exact ⟨⟨.tup 3 (ofL [aList 2 (gSp (t + 1)) A, aList 1 gNat [], AI 0]), [], [], Cut.nil _, Ln.tupN ⟨⟨⟨True.intro, Ln.sameB _ rfl⟩, Ln.outN0 rfl⟩, Ln.A⟩, rfl, A, [], rfl, hR⟩⟩
      · simp only [List.length_cons] at hll
        have cS := sort_ok (xs.length + 1) (fun k => (((x :: xs).getD k 0 : Nat) : Int)) (by omega) (fun a ha => Int.ofNat_le.2 (Nat.le_of_lt (getD_lt hsrt (Nat.lt_succ_self a) ha)))
        (repeat' ((try (conv => whnf)); first | (with_reducible first | refine FCond.tA ?_ | refine FCond.fA ?_) | ((with_reducible refine FCond.i (fun hq => ?_) (fun hq => ?_)) <;> (try simp only [zA, zE, zD, zJ, zB, zI, Int.not_le, Int.not_lt] at hq)) | (with_reducible first | refine Fits.in64 (by omega) ?_ | refine FIdx.nat (by omega) ?_ | refine FIdx.int (by omega) ?_ | refine FTo.nat (by omega) ?_ | refine FTo.int (by omega) ?_) | ((with_reducible refine Need.mk ?_ ?_); focus exact needA) | (with_reducible refine FApp.grow ?_) | ((refine FCall.give [4] [] (cS) rfl rfl ⟨⟨_, rfl, trivial, LnB.A⟩, True.intro⟩ ⟨Ln.A, True.intro⟩ ?_); rintro _ _ ⟨rfl, rfl⟩; (refine ⟨by first | exact Nat.le_of_ble_eq_true rfl | omega, .inl rfl, ?_⟩)) | (with_reducible refine FOr.pub ?_)))
        all_goals (try (conv => whnf))
        exact ⟨⟨.tup 3 (ofL [aList 2 (gSp (t + 1)) A, aList 1 gNat (x :: xs), AI 0]), [], [], Cut.nil _, Ln.tupN ⟨⟨⟨True.intro, Ln.sameB _ rfl⟩, Ln.outN1 rfl (goneB rfl) rfl⟩, Ln.A⟩, rfl, A, x :: xs, rfl, hR⟩⟩
  · have hnd : (sE ++ [i]).Nodup := by
      rw [List.nodup_append]
      exact ⟨hs1, by simp, fun a ha b hb e => hn (by rw [List.mem_singleton.1 hb] at e; rw [← e]; exact ha)⟩
    have hlt2 : ∀ x ∈ sE ++ [i], x < L.length := fun x hx => by
      rcases List.mem_append.1 hx with hx | hx
      · exact hs2 x hx
      · rw [List.mem_singleton.1 hx]; exact hi
    have hlen2 := pig (l2 := List.range L.length) hnd (fun x hx => List.mem_range.2 (hlt2 x hx))
    rw [List.length_append, List.length_range, List.length_singleton] at hlen2
    exact ⟨⟨(sE ++ [i], setS mt (eC L i)), ⟨hnd, hlt2, mtI_snoc hs3 (hent i hi)⟩, by show L.length - (sE ++ [i]).length < L.length - sE.length; rw [List.length_append, List.length_singleton]; omega, [0, 1, 2, 3, 4], Cut.of (Nat.le_of_ble_eq_true rfl) rfl rfl (CutL.turned rfl LnB.A (CutL.turned rfl LnB.A (CutL.turned rfl LnB.A (CutL.turned rfl (LnB.rowE (Nat.le_refl _) fun k hk o ho => by simp only [updRm, setS]; by_cases e : k = eC L i <;> simp only [e, if_true, if_false] <;> rfl) (CutL.turned rfl (LnB.mitS rfl) CutL.done))))), allA⟩⟩
end Go.Proofs.Ytnghcfmloljagaa

namespace Go.Proofs.Ytnghcfmloljagaa
open Go.RowKit

theorem any_take {f : Nat → Bool} {l : List Nat} {i : Nat} (hi : i < l.length) : (l.take (i + 1)).any f = ((l.take i).any f || f (l.getD i 0)) := by
  rw [List.take_succ_eq_append_getElem hi, List.any_append]
  simp only [List.any_cons, List.any_nil, Bool.or_false, List.getD, List.getElem?_eq_getElem hi, Option.getD_some]
theorem sp_lt {T p q : Nat} (h : p < q) : (sp T p).1 < (sp T q).1 ∨ ((sp T p).1 = (sp T q).1 ∧ (sp T p).2 < (sp T q).2) := by
  unfold sp
  simp only
  rcases Nat.lt_or_eq_of_le (Nat.div_le_div_right (c := T) (Nat.le_of_lt h)) with e | e
  · exact .inl e
  · refine .inr ⟨e, ?_⟩
    have h1 := Nat.div_add_mod p T
    have h2 := Nat.div_add_mod q T
    rw [e] at h1
    omega
theorem sp_bd {n T p : Nat} (h : p < n * T) : (sp T p).1 < n ∧ (sp T p).2 < T := (Dk_all (sp T p)).1 ⟨p, h, rfl⟩
abbrev aList' (sz : Nat) (g : Nat → Nat → AV) (l : List Nat) : AV := .sl l.isEmpty l.isEmpty l.length sz (fun k => g (l.getD k 0))
abbrev gSp' (T : Nat) (p : Nat) : Nat → AV := cSpot ((sp T p).1 : Int) ((sp T p).2 : Int)
abbrev gNat' (c : Nat) : Nat → AV := fun _ => AI (c : Int)
/-- A spot is that of a signer and a time. -/
def isSp (T x τ p : Nat) : Bool := decide ((sp T p).1 = x ∧ (sp T p).2 = τ)
set_option maxHeartbeats 16000000
set_option maxRecDepth 100000
theorem isCover_ok (f : StF) (s : Std) (hs : StdOk s) (t : Nat) (ht : t < s.T) (u : Bool) (A B : List Nat) (h : CovR s t u A B) (hA : A.length ≤ 1000) (hB : B.length ≤ 1000) : ACall Try.prog 36 [aStd f s, AI t, .bool u, aList' 2 (gSp' (t + 1)) A, aList' 1 gNat' B] [] (fun r h => r = .bool true ∧ h = []) := by
  have t8 := hs.t8
  have n4 : s.sg.length ≤ 4 := hs.n4
  have c12 : s.rg.length ≤ 12 := hs.c12
  have hA2 : ∀ i, i < A.length → (sp (t + 1) (A.getD i 0)).1 < s.sg.length ∧ (sp (t + 1) (A.getD i 0)).2 < t + 1 := fun i hi => sp_bd (n := s.sg.length) (h.ltA _ (by simp [List.getD, List.getElem?_eq_getElem hi]))
  have hB2 : ∀ i, i < B.length → B.getD i 0 < s.rg.length := fun i hi => (h.ltB _ (by simp [List.getD, List.getElem?_eq_getElem hi])).1
  (refine fcall_of mixed Try.func36 rfl (by decide) (hs := {}) ?k (ac := ?ac) ?c (rs := ?rs) ?r ?l ?H; (case k => kernel_rfl); (case c => (conv => (lhs; cbv))); (case r => (conv => (lhs; cbv))); (case l => exact Nat.le_of_ble_eq_true rfl))
  (repeat' ((try (conv => whnf)); first | (with_reducible first | refine FCond.tA ?_ | refine FCond.fA ?_) | ((with_reducible refine FCond.i (fun hq => ?_) (fun hq => ?_)) <;> (try simp only [zA, zE, zD, zJ, zB, zI, Int.not_le, Int.not_lt] at hq)) | (with_reducible first | refine Fits.in64 (by omega) ?_ | refine FIdx.nat (by omega) ?_ | refine FIdx.int (by omega) ?_ | refine FTo.nat (by omega) ?_ | refine FTo.int (by omega) ?_) | ((with_reducible refine Need.mk ?_ ?_); focus exact needA) | (with_reducible refine FApp.grow ?_) | (with_reducible refine FOr.pub ?_)))
  all_goals (try (conv => whnf))
  refine FLoop.of (ACalls.mono _) (X := Nat) (fun i => [(1, AI t), (2, .bool u), (3, aList' 2 (gSp' (t + 1)) A), (4, aList' 1 gNat' B), (5, .ptr 0 0), (11, AI i)]) (fun i => [.box 3 (cStd f s)]) (fun i => i ≤ A.length) (fun i => A.length - i) 0 ⟨Nat.zero_le _, [0], Cut.A, allA⟩ ?_
  intro i hi
  by_cases hlt : i < A.length
  · obtain ⟨a1, a2⟩ := hA2 i hlt
    have w1 := within_ok ((sp (t + 1) (A.getD i 0)).1 : Int) 0 ((s.sg.length : Int) - 1)
    rw [show inB ((sp (t + 1) (A.getD i 0)).1 : Int) 0 ((s.sg.length : Int) - 1) = true from decide_eq_true (by omega)] at w1
    have w2 := within_ok ((sp (t + 1) (A.getD i 0)).2 : Int) 0 (t : Int)
    rw [show inB ((sp (t + 1) (A.getD i 0)).2 : Int) 0 (t : Int) = true from decide_eq_true (by omega)] at w2
    rcases i with _ | i
    · (repeat' ((try (conv => whnf)); first | (with_reducible first | refine FCond.tA ?_ | refine FCond.fA ?_) | ((with_reducible refine FCond.i (fun hq => ?_) (fun hq => ?_)) <;> (try simp only [zA, zE, zD, zJ, zB, zI, Int.not_le, Int.not_lt] at hq)) | (with_reducible first | refine Fits.in64 (by omega) ?_ | refine FIdx.nat (by omega) ?_ | refine FIdx.int (by omega) ?_ | refine FTo.nat (by omega) ?_ | refine FTo.int (by omega) ?_) | ((with_reducible refine Need.mk ?_ ?_); focus exact needA) | (with_reducible refine FApp.grow ?_) | (refine FCall.pure (w1) ⟨Ln.sameB _ rfl, Ln.sameB _ rfl, Ln.sameB _ rfl, True.intro⟩ rfl ?_) | (refine FCall.pure (w2) ⟨Ln.sameB _ rfl, Ln.sameB _ rfl, Ln.sameB _ rfl, True.intro⟩ rfl ?_) | (with_reducible refine FOr.pub ?_)))
      all_goals (try (conv => whnf))
      all_goals exact ⟨⟨0 + 1, hlt, by omega, [0], Cut.A, allA⟩⟩
    · have hix : (((i + 1 : Nat) : Int) - 1).toNat = i := by omega
      have b1 : (sp (t + 1) (A.getD (((i + 1 : Nat) : Int) - 1).toNat 0)).1 < (sp (t + 1) (A.getD (i + 1) 0)).1 ∨ ((sp (t + 1) (A.getD (((i + 1 : Nat) : Int) - 1).toNat 0)).1 = (sp (t + 1) (A.getD (i + 1) 0)).1 ∧ (sp (t + 1) (A.getD (((i + 1 : Nat) : Int) - 1).toNat 0)).2 < (sp (t + 1) (A.getD (i + 1) 0)).2) := by
        rw [hix]
        exact sp_lt (getD_lt h.spA (Nat.lt_succ_self i) hlt)
      (repeat' ((try (conv => whnf)); first | (with_reducible first | refine FCond.tA ?_ | refine FCond.fA ?_) | ((with_reducible refine FCond.i (fun hq => ?_) (fun hq => ?_)) <;> (try simp only [zA, zE, zD, zJ, zB, zI, Int.not_le, Int.not_lt] at hq)) | (with_reducible first | refine Fits.in64 (by omega) ?_ | refine FIdx.nat (by omega) ?_ | refine FIdx.int (by omega) ?_ | refine FTo.nat (by omega) ?_ | refine FTo.int (by omega) ?_) | ((with_reducible refine Need.mk ?_ ?_); focus exact needA) | (with_reducible refine FApp.grow ?_) | (refine FCall.pure (w1) ⟨Ln.sameB _ rfl, Ln.sameB _ rfl, Ln.sameB _ rfl, True.intro⟩ rfl ?_) | (refine FCall.pure (w2) ⟨Ln.sameB _ rfl, Ln.sameB _ rfl, Ln.sameB _ rfl, True.intro⟩ rfl ?_) | (with_reducible refine FOr.pub ?_)))
      all_goals (try (conv => whnf))
      all_goals first | (exfalso; omega) | exact ⟨⟨i + 1 + 1, hlt, by omega, [0], Cut.A, allA⟩⟩
  obtain rfl : i = A.length := by omega
  (repeat' ((try (conv => whnf)); first | (with_reducible first | refine FCond.tA ?_ | refine FCond.fA ?_) | ((with_reducible refine FCond.i (fun hq => ?_) (fun hq => ?_)) <;> (try simp only [zA, zE, zD, zJ, zB, zI, Int.not_le, Int.not_lt] at hq)) | (with_reducible first | refine Fits.in64 (by omega) ?_ | refine FIdx.nat (by omega) ?_ | refine FIdx.int (by omega) ?_ | refine FTo.nat (by omega) ?_ | refine FTo.int (by omega) ?_) | ((with_reducible refine Need.mk ?_ ?_); focus exact needA) | (with_reducible refine FApp.grow ?_) | (with_reducible refine FOr.pub ?_)))
  all_goals (try (conv => whnf))
  refine FLoop.of (ACalls.mono _) (X := Nat) (fun i => [(1, AI t), (2, .bool u), (3, aList' 2 (gSp' (t + 1)) A), (4, aList' 1 gNat' B), (5, .ptr 0 0), (13, AI i)]) (fun i => [.box 3 (cStd f s)]) (fun i => i ≤ B.length) (fun i => B.length - i) 0 ⟨Nat.zero_le _, [0], Cut.A, allA⟩ ?_
  intro i hi
  by_cases hlt : i < B.length
  · have b0 := hB2 i hlt
    have w1 := within_ok (B.getD i 0 : Int) 0 ((s.rg.length : Int) - 1)
    rw [show inB (B.getD i 0 : Int) 0 ((s.rg.length : Int) - 1) = true from decide_eq_true (by omega)] at w1
    rcases i with _ | i
    · (repeat' ((try (conv => whnf)); first | (with_reducible first | refine FCond.tA ?_ | refine FCond.fA ?_) | ((with_reducible refine FCond.i (fun hq => ?_) (fun hq => ?_)) <;> (try simp only [zA, zE, zD, zJ, zB, zI, Int.not_le, Int.not_lt] at hq)) | (with_reducible first | refine Fits.in64 (by omega) ?_ | refine FIdx.nat (by omega) ?_ | refine FIdx.int (by omega) ?_ | refine FTo.nat (by omega) ?_ | refine FTo.int (by omega) ?_) | ((with_reducible refine Need.mk ?_ ?_); focus exact needA) | (with_reducible refine FApp.grow ?_) | (refine FCall.pure (w1) ⟨Ln.sameB _ rfl, Ln.sameB _ rfl, Ln.sameB _ rfl, True.intro⟩ rfl ?_) | (with_reducible refine FOr.pub ?_)))
      all_goals (try (conv => whnf))
      all_goals exact ⟨⟨0 + 1, hlt, by omega, [0], Cut.A, allA⟩⟩
    · have hix : (((i + 1 : Nat) : Int) - 1).toNat = i := by omega
      have b1 : B.getD (((i + 1 : Nat) : Int) - 1).toNat 0 < B.getD (i + 1) 0 := by
        rw [hix]
        exact getD_lt h.spB (Nat.lt_succ_self i) hlt
      (repeat' ((try (conv => whnf)); first | (with_reducible first | refine FCond.tA ?_ | refine FCond.fA ?_) | ((with_reducible refine FCond.i (fun hq => ?_) (fun hq => ?_)) <;> (try simp only [zA, zE, zD, zJ, zB, zI, Int.not_le, Int.not_lt] at hq)) | (with_reducible first | refine Fits.in64 (by omega) ?_ | refine FIdx.nat (by omega) ?_ | refine FIdx.int (by omega) ?_ | refine FTo.nat (by omega) ?_ | refine FTo.int (by omega) ?_) | ((with_reducible refine Need.mk ?_ ?_); focus exact needA) | (with_reducible refine FApp.grow ?_) | (refine FCall.pure (w1) ⟨Ln.sameB _ rfl, Ln.sameB _ rfl, Ln.sameB _ rfl, True.intro⟩ rfl ?_) | (with_reducible refine FOr.pub ?_)))
      all_goals (try (conv => whnf))
      all_goals first | (exfalso; omega) | exact ⟨⟨i + 1 + 1, hlt, by omega, [0], Cut.A, allA⟩⟩
  obtain rfl : i = B.length := by omega
  (repeat' ((try (conv => whnf)); first | (with_reducible first | refine FCond.tA ?_ | refine FCond.fA ?_) | ((with_reducible refine FCond.i (fun hq => ?_) (fun hq => ?_)) <;> (try simp only [zA, zE, zD, zJ, zB, zI, Int.not_le, Int.not_lt] at hq)) | (with_reducible first | refine Fits.in64 (by omega) ?_ | refine FIdx.nat (by omega) ?_ | refine FIdx.int (by omega) ?_ | refine FTo.nat (by omega) ?_ | refine FTo.int (by omega) ?_) | ((with_reducible refine Need.mk ?_ ?_); focus exact needA) | (with_reducible refine FApp.grow ?_) | (with_reducible refine FOr.pub ?_)))
  all_goals (try (conv => whnf))
  refine FLoop.of (ACalls.mono _) (X := Nat) (fun c => [(1, AI t), (2, .bool u), (3, aList' 2 (gSp' (t + 1)) A), (4, aList' 1 gNat' B), (5, .ptr 0 0), (14, AI c)]) (fun c => [.box 3 (cStd f s)]) (fun c => c ≤ s.rg.length) (fun c => s.rg.length - c) 0 ⟨Nat.zero_le _, [0], Cut.A, allA⟩ ?_
  intro c hc
  by_cases hltc : c < s.rg.length
  · have cC := counts_ok f s u c hltc
    (repeat' ((try (conv => whnf)); first | (with_reducible first | refine FCond.tA ?_ | refine FCond.fA ?_) | ((with_reducible refine FCond.i (fun hq => ?_) (fun hq => ?_)) <;> (try simp only [zA, zE, zD, zJ, zB, zI, Int.not_le, Int.not_lt] at hq)) | (with_reducible first | refine Fits.in64 (by omega) ?_ | refine FIdx.nat (by omega) ?_ | refine FIdx.int (by omega) ?_ | refine FTo.nat (by omega) ?_ | refine FTo.int (by omega) ?_) | ((with_reducible refine Need.mk ?_ ?_); focus exact needA) | (with_reducible refine FApp.grow ?_) | (refine FCall.pure (cC) ⟨Ln.sameB _ rfl, Ln.sameB _ rfl, Ln.sameB _ rfl, True.intro⟩ rfl ?_) | (with_reducible refine FOr.pub ?_)))
    all_goals (try (conv => whnf))
    refine FLoop.of (ACalls.mono _) (X := Nat) (fun i => [(1, AI t), (2, .bool u), (3, aList' 2 (gSp' (t + 1)) A), (4, aList' 1 gNat' B), (5, .ptr 0 0), (14, AI c), (15, .bool (!counts s u c || (B.take i).any fun b => decide (b = c))), (16, AI i)]) (fun i => [.box 3 (cStd f s)]) (fun i => i ≤ B.length) (fun i => B.length - i) 0 ⟨Nat.zero_le _, [0], Cut.A, ⟨Ln.A, Ln.A, Ln.A, Ln.A, Ln.A, Ln.A, Ln.bool (by simp), Ln.A, True.intro⟩⟩ ?_
    intro i hi
    by_cases hlt6 : i < B.length
    · have hst := any_take (f := fun b => decide (b = c)) hlt6
      cases hcv : (!counts s u c || (B.take i).any fun b => decide (b = c))
      · have e2 : (!counts s u c || (B.take (i + 1)).any fun b => decide (b = c)) = decide (B.getD i 0 = c) := by
          rw [hst, ← Bool.or_assoc, hcv, Bool.false_or]
        (repeat' ((try (conv => whnf)); first | (with_reducible first | refine FCond.tA ?_ | refine FCond.fA ?_) | ((with_reducible refine FCond.i (fun hq => ?_) (fun hq => ?_)) <;> (try simp only [zA, zE, zD, zJ, zB, zI, Int.not_le, Int.not_lt] at hq)) | (with_reducible first | refine Fits.in64 (by omega) ?_ | refine FIdx.nat (by omega) ?_ | refine FIdx.int (by omega) ?_ | refine FTo.nat (by omega) ?_ | refine FTo.int (by omega) ?_) | ((with_reducible refine Need.mk ?_ ?_); focus exact needA) | (with_reducible refine FApp.grow ?_) | (with_reducible refine FOr.pub ?_)))
        all_goals (try (conv => whnf))
        all_goals exact ⟨⟨i + 1, hlt6, by omega, [0], Cut.A, ⟨Ln.A, Ln.A, Ln.A, Ln.A, Ln.A, Ln.A, Ln.bool (by rw [e2]; exact decide_eq_decide.2 (by omega)), Ln.A, True.intro⟩⟩⟩
      · have e2 : (!counts s u c || (B.take (i + 1)).any fun b => decide (b = c)) = true := by
          rw [hst, ← Bool.or_assoc, hcv, Bool.true_or]
        (repeat' ((try (conv => whnf)); first | (with_reducible first | refine FCond.tA ?_ | refine FCond.fA ?_) | ((with_reducible refine FCond.i (fun hq => ?_) (fun hq => ?_)) <;> (try simp only [zA, zE, zD, zJ, zB, zI, Int.not_le, Int.not_lt] at hq)) | (with_reducible first | refine Fits.in64 (by omega) ?_ | refine FIdx.nat (by omega) ?_ | refine FIdx.int (by omega) ?_ | refine FTo.nat (by omega) ?_ | refine FTo.int (by omega) ?_) | ((with_reducible refine Need.mk ?_ ?_); focus exact needA) | (with_reducible refine FApp.grow ?_) | (with_reducible refine FOr.pub ?_)))
        all_goals (try (conv => whnf))
        all_goals exact ⟨⟨i + 1, hlt6, by omega, [0], Cut.A, ⟨Ln.A, Ln.A, Ln.A, Ln.A, Ln.A, Ln.A, Ln.bool (by rw [e2]), Ln.A, True.intro⟩⟩⟩
    obtain rfl : i = B.length := by omega
    rw [List.take_length]
    (repeat' ((try (conv => whnf)); first | (with_reducible first | refine FCond.tA ?_ | refine FCond.fA ?_) | ((with_reducible refine FCond.i (fun hq => ?_) (fun hq => ?_)) <;> (try simp only [zA, zE, zD, zJ, zB, zI, Int.not_le, Int.not_lt] at hq)) | (with_reducible first | refine Fits.in64 (by omega) ?_ | refine FIdx.nat (by omega) ?_ | refine FIdx.int (by omega) ?_ | refine FTo.nat (by omega) ?_ | refine FTo.int (by omega) ?_) | ((with_reducible refine Need.mk ?_ ?_); focus exact needA) | (with_reducible refine FApp.grow ?_) | (with_reducible refine FOr.pub ?_)))
    all_goals (try (conv => whnf))
    obtain ⟨cv, hcv⟩ : ∃ cv, (!counts s u c || B.any fun b => decide (b = c)) = cv := ⟨_, rfl⟩
    rw [hcv]
    refine FLoop.of (ACalls.mono _) (X := Nat) (fun x => [(1, AI t), (2, .bool u), (3, aList' 2 (gSp' (t + 1)) A), (4, aList' 1 gNat' B), (5, .ptr 0 0), (14, AI c), (15, .bool cv), (17, AI x)]) (fun x => [.box 3 (cStd f s)]) (fun x => x ≤ s.sg.length) (fun x => s.sg.length - x) 0 ⟨Nat.zero_le _, [0], Cut.A, allA⟩ ?_
    intro x hx
    by_cases hx2 : x < s.sg.length ∧ cv = false
    · obtain ⟨hltx, rfl⟩ := hx2
      simp only [Bool.or_eq_false_iff, Bool.not_eq_false', List.any_eq_false, decide_eq_true_eq] at hcv
      have hall := (h.all c hltc hcv.1).resolve_left (fun hm => hcv.2 c hm rfl)
      (repeat' ((try (conv => whnf)); first | (with_reducible first | refine FCond.tA ?_ | refine FCond.fA ?_) | ((with_reducible refine FCond.i (fun hq => ?_) (fun hq => ?_)) <;> (try simp only [zA, zE, zD, zJ, zB, zI, Int.not_le, Int.not_lt] at hq)) | (with_reducible first | refine Fits.in64 (by omega) ?_ | refine FIdx.nat (by omega) ?_ | refine FIdx.int (by omega) ?_ | refine FTo.nat (by omega) ?_ | refine FTo.int (by omega) ?_) | ((with_reducible refine Need.mk ?_ ?_); focus exact needA) | (with_reducible refine FApp.grow ?_) | (with_reducible refine FOr.pub ?_)))
      all_goals (try (conv => whnf))
      refine FLoop.of (ACalls.mono _) (X := Nat) (fun τ => [(1, AI t), (2, .bool u), (3, aList' 2 (gSp' (t + 1)) A), (4, aList' 1 gNat' B), (5, .ptr 0 0), (14, AI c), (15, .bool false), (17, AI x), (18, AI τ)]) (fun τ => [.box 3 (cStd f s)]) (fun τ => τ ≤ t + 1) (fun τ => t + 1 - τ) 0 ⟨Nat.zero_le _, [0], Cut.A, allA⟩ ?_
      intro τ hτ
      by_cases hltτ : τ < t + 1
      · (repeat' ((try (conv => whnf)); first | (with_reducible first | refine FCond.tA ?_ | refine FCond.fA ?_) | ((with_reducible refine FCond.i (fun hq => ?_) (fun hq => ?_)) <;> (try simp only [zA, zE, zD, zJ, zB, zI, Int.not_le, Int.not_lt] at hq)) | (with_reducible first | refine Fits.in64 (by omega) ?_ | refine FIdx.nat (by omega) ?_ | refine FIdx.int (by omega) ?_ | refine FTo.nat (by omega) ?_ | refine FTo.int (by omega) ?_) | ((with_reducible refine Need.mk ?_ ?_); focus exact needA) | (with_reducible refine FApp.grow ?_) | (with_reducible refine FOr.pub ?_)))
        all_goals (try (conv => whnf))
        refine FLoop.of (ACalls.mono _) (X := Nat) (fun i => [(1, AI t), (2, .bool u), (3, aList' 2 (gSp' (t + 1)) A), (4, aList' 1 gNat' B), (5, .ptr 0 0), (14, AI c), (15, .bool false), (17, AI x), (18, AI τ), (19, .bool ((A.take i).any (isSp (t + 1) x τ))), (20, AI i)]) (fun i => [.box 3 (cStd f s)]) (fun i => i ≤ A.length) (fun i => A.length - i) 0 ⟨Nat.zero_le _, [0], Cut.A, ⟨Ln.A, Ln.A, Ln.A, Ln.A, Ln.A, Ln.A, Ln.A, Ln.A, Ln.A, Ln.bool (by simp), Ln.A, True.intro⟩⟩ ?_
        intro i hi
        by_cases hlt12 : i < A.length
        · have hst := any_take (f := isSp (t + 1) x τ) hlt12
          cases htk : (A.take i).any (isSp (t + 1) x τ)
          · rw [htk, Bool.false_or] at hst
            (repeat' ((try (conv => whnf)); first | (with_reducible first | refine FCond.tA ?_ | refine FCond.fA ?_) | ((with_reducible refine FCond.i (fun hq => ?_) (fun hq => ?_)) <;> (try simp only [zA, zE, zD, zJ, zB, zI, Int.not_le, Int.not_lt] at hq)) | (with_reducible first | refine Fits.in64 (by omega) ?_ | refine FIdx.nat (by omega) ?_ | refine FIdx.int (by omega) ?_ | refine FTo.nat (by omega) ?_ | refine FTo.int (by omega) ?_) | ((with_reducible refine Need.mk ?_ ?_); focus exact needA) | (with_reducible refine FApp.grow ?_) | (with_reducible refine And.intro rfl ?_) | (with_reducible refine FOr.pub ?_)))
            all_goals (try (conv => whnf))
            all_goals exact ⟨⟨i + 1, hlt12, by omega, [0], Cut.A, ⟨Ln.A, Ln.A, Ln.A, Ln.A, Ln.A, Ln.A, Ln.A, Ln.A, Ln.A, Ln.bool (by
              rw [hst]
              show (decide (((sp (t + 1) (A.getD i 0)).1 : Int) = (x : Int)) && (decide (((sp (t + 1) (A.getD i 0)).2 : Int) = (τ : Int)) && true)) = isSp (t + 1) x τ (A.getD i 0)
              unfold isSp
              rw [Bool.and_true, ← Bool.decide_and]
              exact decide_eq_decide.2 (by omega)), Ln.A, True.intro⟩⟩⟩
          · rw [htk, Bool.true_or] at hst
            (repeat' ((try (conv => whnf)); first | (with_reducible first | refine FCond.tA ?_ | refine FCond.fA ?_) | ((with_reducible refine FCond.i (fun hq => ?_) (fun hq => ?_)) <;> (try simp only [zA, zE, zD, zJ, zB, zI, Int.not_le, Int.not_lt] at hq)) | (with_reducible first | refine Fits.in64 (by omega) ?_ | refine FIdx.nat (by omega) ?_ | refine FIdx.int (by omega) ?_ | refine FTo.nat (by omega) ?_ | refine FTo.int (by omega) ?_) | ((with_reducible refine Need.mk ?_ ?_); focus exact needA) | (with_reducible refine FApp.grow ?_) | (with_reducible refine FOr.pub ?_)))
            all_goals (try (conv => whnf))
            all_goals exact ⟨⟨i + 1, hlt12, by omega, [0], Cut.A, ⟨Ln.A, Ln.A, Ln.A, Ln.A, Ln.A, Ln.A, Ln.A, Ln.A, Ln.A, Ln.bool (by rw [hst]), Ln.A, True.intro⟩⟩⟩
        obtain rfl : i = A.length := by omega
        rw [List.take_length]
        cases htk : A.any (isSp (t + 1) x τ)
        · have hcan : canA s x (τ : Int) c = false := by
            cases hcn : canA s x (τ : Int) c with
            | false => rfl
            | true =>
              have hp : x * (t + 1) + τ < s.n * (t + 1) := by
                have : (x + 1) * (t + 1) ≤ s.n * (t + 1) := Nat.mul_le_mul_right _ hltx
                rw [Nat.add_mul, Nat.one_mul] at this; omega
              have hm := hall _ hp (by rw [sp_mul hltτ]; exact hcn)
              rw [List.any_eq_false] at htk
              exact (htk _ hm (by unfold isSp; rw [sp_mul hltτ]; simp)).elim
          have cA := refCan_ok f s hs x c τ hltx hltc
          rw [hcan] at cA
          (repeat' ((try (conv => whnf)); first | (with_reducible first | refine FCond.tA ?_ | refine FCond.fA ?_) | ((with_reducible refine FCond.i (fun hq => ?_) (fun hq => ?_)) <;> (try simp only [zA, zE, zD, zJ, zB, zI, Int.not_le, Int.not_lt] at hq)) | (with_reducible first | refine Fits.in64 (by omega) ?_ | refine FIdx.nat (by omega) ?_ | refine FIdx.int (by omega) ?_ | refine FTo.nat (by omega) ?_ | refine FTo.int (by omega) ?_) | ((with_reducible refine Need.mk ?_ ?_); focus exact needA) | (with_reducible refine FApp.grow ?_) | (refine FCall.pure (cA) ⟨Ln.sameB _ rfl, Ln.sameB _ rfl, Ln.sameB _ rfl, Ln.sameB _ rfl, True.intro⟩ rfl ?_) | (with_reducible refine FOr.pub ?_)))
          all_goals (try (conv => whnf))
          all_goals exact ⟨⟨τ + 1, hltτ, by omega, [0], Cut.A, allA⟩⟩
        · (repeat' ((try (conv => whnf)); first | (with_reducible first | refine FCond.tA ?_ | refine FCond.fA ?_) | ((with_reducible refine FCond.i (fun hq => ?_) (fun hq => ?_)) <;> (try simp only [zA, zE, zD, zJ, zB, zI, Int.not_le, Int.not_lt] at hq)) | (with_reducible first | refine Fits.in64 (by omega) ?_ | refine FIdx.nat (by omega) ?_ | refine FIdx.int (by omega) ?_ | refine FTo.nat (by omega) ?_ | refine FTo.int (by omega) ?_) | ((with_reducible refine Need.mk ?_ ?_); focus exact needA) | (with_reducible refine FApp.grow ?_) | (with_reducible refine FOr.pub ?_)))
          all_goals (try (conv => whnf))
          all_goals exact ⟨⟨τ + 1, hltτ, by omega, [0], Cut.A, allA⟩⟩
      obtain rfl : τ = t + 1 := by omega
      (repeat' ((try (conv => whnf)); first | (with_reducible first | refine FCond.tA ?_ | refine FCond.fA ?_) | ((with_reducible refine FCond.i (fun hq => ?_) (fun hq => ?_)) <;> (try simp only [zA, zE, zD, zJ, zB, zI, Int.not_le, Int.not_lt] at hq)) | (with_reducible first | refine Fits.in64 (by omega) ?_ | refine FIdx.nat (by omega) ?_ | refine FIdx.int (by omega) ?_ | refine FTo.nat (by omega) ?_ | refine FTo.int (by omega) ?_) | ((with_reducible refine Need.mk ?_ ?_); focus exact needA) | (with_reducible refine FApp.grow ?_) | (with_reducible refine FOr.pub ?_)))
      all_goals (try (conv => whnf))
      all_goals exact ⟨⟨x + 1, hltx, by omega, [0], Cut.A, allA⟩⟩
    · cases cv
      · obtain rfl : x = s.sg.length := by
          have : ¬ x < s.sg.length := fun h => hx2 ⟨h, rfl⟩
          omega
        (repeat' ((try (conv => whnf)); first | (with_reducible first | refine FCond.tA ?_ | refine FCond.fA ?_) | ((with_reducible refine FCond.i (fun hq => ?_) (fun hq => ?_)) <;> (try simp only [zA, zE, zD, zJ, zB, zI, Int.not_le, Int.not_lt] at hq)) | (with_reducible first | refine Fits.in64 (by omega) ?_ | refine FIdx.nat (by omega) ?_ | refine FIdx.int (by omega) ?_ | refine FTo.nat (by omega) ?_ | refine FTo.int (by omega) ?_) | ((with_reducible refine Need.mk ?_ ?_); focus exact needA) | (with_reducible refine FApp.grow ?_) | (with_reducible refine FOr.pub ?_)))
        all_goals (try (conv => whnf))
        all_goals exact ⟨⟨c + 1, hltc, by omega, [0], Cut.A, allA⟩⟩
      · by_cases hltx : x < s.sg.length
        · (repeat' ((try (conv => whnf)); first | (with_reducible first | refine FCond.tA ?_ | refine FCond.fA ?_) | ((with_reducible refine FCond.i (fun hq => ?_) (fun hq => ?_)) <;> (try simp only [zA, zE, zD, zJ, zB, zI, Int.not_le, Int.not_lt] at hq)) | (with_reducible first | refine Fits.in64 (by omega) ?_ | refine FIdx.nat (by omega) ?_ | refine FIdx.int (by omega) ?_ | refine FTo.nat (by omega) ?_ | refine FTo.int (by omega) ?_) | ((with_reducible refine Need.mk ?_ ?_); focus exact needA) | (with_reducible refine FApp.grow ?_) | (with_reducible refine FOr.pub ?_)))
          all_goals (try (conv => whnf))
          all_goals exact ⟨⟨c + 1, hltc, by omega, [0], Cut.A, allA⟩⟩
        · (repeat' ((try (conv => whnf)); first | (with_reducible first | refine FCond.tA ?_ | refine FCond.fA ?_) | ((with_reducible refine FCond.i (fun hq => ?_) (fun hq => ?_)) <;> (try simp only [zA, zE, zD, zJ, zB, zI, Int.not_le, Int.not_lt] at hq)) | (with_reducible first | refine Fits.in64 (by omega) ?_ | refine FIdx.nat (by omega) ?_ | refine FIdx.int (by omega) ?_ | refine FTo.nat (by omega) ?_ | refine FTo.int (by omega) ?_) | ((with_reducible refine Need.mk ?_ ?_); focus exact needA) | (with_reducible refine FApp.grow ?_) | (with_reducible refine FOr.pub ?_)))
          all_goals (try (conv => whnf))
          all_goals exact ⟨⟨c + 1, hltc, by omega, [0], Cut.A, allA⟩⟩
  · obtain rfl : c = s.rg.length := by omega
    (repeat' ((try (conv => whnf)); first | (with_reducible first | refine FCond.tA ?_ | refine FCond.fA ?_) | ((with_reducible refine FCond.i (fun hq => ?_) (fun hq => ?_)) <;> (try simp only [zA, zE, zD, zJ, zB, zI, Int.not_le, Int.not_lt] at hq)) | (with_reducible first | refine Fits.in64 (by omega) ?_ | refine FIdx.nat (by omega) ?_ | refine FIdx.int (by omega) ?_ | refine FTo.nat (by omega) ?_ | refine FTo.int (by omega) ?_) | ((with_reducible refine Need.mk ?_ ?_); focus exact needA) | (with_reducible refine FApp.grow ?_) | (with_reducible refine FOr.pub ?_)))
    all_goals (try (conv => whnf))
    all_goals ((refine ⟨⟨_, [], [], Cut.nil _, Ln.sameB _ rfl, ?_, rfl⟩⟩); rfl)
end Go.Proofs.Ytnghcfmloljagaa

namespace Go.Proofs.Ytnghcfmloljagaa
open Go.RowKit

set_option maxHeartbeats 8000000
set_option maxRecDepth 100000
theorem cover_no (f : StF) (s : Std) (hn : NearS s) (t : Int) (u : Bool) (h : checkT s t ≠ 0) : ACall Try.prog 35 [aStd f s, AI t, .bool u] [] (fun r h => r = .tup 3 (ofL [nilS, nilS, AI (checkT s t)]) ∧ h = []) := by
  (refine fcall_of mixed Try.func35 rfl (by decide) (hs := { pub := [10, 24], alt := [(9, ⟨[0, 1, 2, 3, 4, 6, 7, 8, 9, 10], (.alt 5 [] (.alt 11 [] (.alt 12 [] (.alt 13 [] (.alt 14 [] (.alt 15 [] .leaf .leaf) .leaf) .leaf) (.alt 13 [] (.alt 12 [] (.alt 14 [] (.alt 15 [] .leaf .leaf) .leaf) .leaf) .leaf)) (.alt 12 [] (.alt 11 [] (.alt 13 [] (.alt 14 [] (.alt 15 [] .leaf .leaf) .leaf) .leaf) (.alt 13 [] (.alt 11 [] (.alt 14 [] (.alt 15 [] .leaf .leaf) .leaf) (.alt 14 [] (.alt 11 [] (.alt 15 [] .leaf .leaf) .leaf) .leaf)) .leaf)) (.alt 13 [] (.alt 11 [] (.alt 12 [] (.alt 14 [] (.alt 15 [] .leaf .leaf) .leaf) .leaf) (.alt 12 [] (.alt 11 [] (.alt 14 [] (.alt 15 [] .leaf .leaf) .leaf) (.alt 14 [] (.alt 11 [] (.alt 15 [] .leaf .leaf) .leaf) .leaf)) .leaf)) .leaf))) (.alt 11 [] (.alt 5 [] (.alt 12 [] (.alt 13 [] (.alt 14 [] (.alt 15 [] .leaf .leaf) .leaf) .leaf) (.alt 13 [] (.alt 12 [] (.alt 14 [] (.alt 15 [] .leaf .leaf) .leaf) .leaf) .leaf)) (.alt 12 [] (.alt 5 [] (.alt 13 [] (.alt 14 [] (.alt 15 [] .leaf .leaf) .leaf) .leaf) (.alt 13 [] (.alt 5 [] (.alt 14 [] (.alt 15 [] .leaf .leaf) .leaf) .leaf) .leaf)) (.alt 13 [] (.alt 5 [] (.alt 12 [] (.alt 14 [] (.alt 15 [] .leaf .leaf) .leaf) .leaf) (.alt 12 [] (.alt 5 [] (.alt 14 [] (.alt 15 [] .leaf .leaf) .leaf) .leaf) .leaf)) .leaf))) (.alt 12 [] (.alt 5 [] (.alt 11 [] (.alt 13 [] (.alt 14 [] (.alt 15 [] .leaf .leaf) .leaf) .leaf) (.alt 13 [] (.alt 11 [] (.alt 14 [] (.alt 15 [] .leaf .leaf) .leaf) (.alt 14 [] (.alt 11 [] (.alt 15 [] .leaf .leaf) .leaf) .leaf)) .leaf)) (.alt 11 [] (.alt 5 [] (.alt 13 [] (.alt 14 [] (.alt 15 [] .leaf .leaf) .leaf) .leaf) (.alt 13 [] (.alt 5 [] (.alt 14 [] (.alt 15 [] .leaf .leaf) .leaf) .leaf) .leaf)) (.alt 13 [] (.alt 5 [] (.alt 11 [] (.alt 14 [] (.alt 15 [] .leaf .leaf) .leaf) (.alt 14 [] (.alt 11 [] (.alt 15 [] .leaf .leaf) .leaf) .leaf)) (.alt 11 [] (.alt 5 [] (.alt 14 [] (.alt 15 [] .leaf .leaf) .leaf) .leaf) .leaf)) .leaf))) (.alt 13 [] (.alt 5 [] (.alt 11 [] (.alt 12 [] (.alt 14 [] (.alt 15 [] .leaf .leaf) .leaf) .leaf) (.alt 12 [] (.alt 11 [] (.alt 14 [] (.alt 15 [] .leaf .leaf) .leaf) (.alt 14 [] (.alt 11 [] (.alt 15 [] .leaf .leaf) .leaf) .leaf)) .leaf)) (.alt 11 [] (.alt 5 [] (.alt 12 [] (.alt 14 [] (.alt 15 [] .leaf .leaf) .leaf) .leaf) (.alt 12 [] (.alt 5 [] (.alt 14 [] (.alt 15 [] .leaf .leaf) .leaf) .leaf) .leaf)) (.alt 12 [] (.alt 5 [] (.alt 11 [] (.alt 14 [] (.alt 15 [] .leaf .leaf) .leaf) (.alt 14 [] (.alt 11 [] (.alt 15 [] .leaf .leaf) .leaf) .leaf)) (.alt 11 [] (.alt 5 [] (.alt 14 [] (.alt 15 [] .leaf .leaf) .leaf) .leaf) .leaf)) .leaf))) .leaf)))), [(5, [6, 9]), (11, [0, 3]), (12, [0, 3, 6, 9]), (13, [0, 3, 6, 9]), (14, [6, 9])]⟩)] }) ?k (ac := ?ac) ?c (rs := ?rs) ?r ?l ?H; (case k => kernel_rfl); (case c => (conv => (lhs; cbv))); (case r => (conv => (lhs; cbv))); (case l => exact Nat.le_of_ble_eq_true rfl))
  (repeat' ((try (conv => whnf)); first | (with_reducible first | refine FCond.tA ?_ | refine FCond.fA ?_) | ((with_reducible refine FCond.i (fun hq => ?_) (fun hq => ?_)) <;> (try simp only [zA, zE, zD, zJ, zB, zI, Int.not_le, Int.not_lt] at hq)) | (with_reducible first | refine Fits.in64 (by omega) ?_ | refine FIdx.nat (by omega) ?_ | refine FIdx.int (by omega) ?_ | refine FTo.nat (by omega) ?_ | refine FTo.int (by omega) ?_) | ((with_reducible refine Need.mk ?_ ?_); focus exact needA) | (with_reducible refine FApp.grow ?_) | (refine FCall.pure ((open_no f s hn t u h)) ⟨Ln.sameB _ rfl, Ln.sameB _ rfl, Ln.sameB _ rfl, True.intro⟩ rfl ?_) | (with_reducible refine FOr.pub ?_)))
  all_goals (try (conv => whnf))
  all_goals ((refine ⟨⟨_, [], [], Cut.nil _, Ln.sameB _ rfl, ?_, rfl⟩⟩); rfl)
theorem cov_len {s : Std} {t : Nat} {u : Bool} {A B : List Nat} (h : CovR s t u A B) (hs : StdOk s) : A.length ≤ 12 ∧ B.length ≤ 12 := by
  have h1 := h.len
  have h2 := mostN_C s t u
  have h3 := hs.c12
  omega
theorem mostL_any (f : StF) (s : Std) (hM : Mach s) (t : Int) (u : Bool) : ACall Try.prog 12 [aStd f s, AI t, .bool u] [] (fun v h => v = .bool true ∧ h = []) := by
  have cF := far_ok f s hM.n hM.c
  (refine fcall_of mixed Try.func12 rfl (by decide) (hs := {}) ?k (ac := ?ac) ?c (rs := ?rs) ?r ?l ?H; (case k => kernel_rfl); (case c => (conv => (lhs; cbv))); (case r => (conv => (lhs; cbv))); (case l => exact Nat.le_of_ble_eq_true rfl))
  cases hf : farS s
  · rw [hf] at cF
    have hn := near_of hf
    have cK := copy_ok f s hn
    have cA := most_ok (flC s) s hn t u
    have cB := refMost_ok f s hn t u
    by_cases h0 : checkT s t = 0
    · have hkt : s.ok = true ∧ 0 ≤ t ∧ t < s.times := by
        unfold checkT at h0
        split at h0
        · rename_i hk
          split at h0
          · rename_i h1; exact ⟨hk, h1⟩
          · omega
        · omega
      obtain ⟨hk, ht⟩ := hkt
      have hs := std_d hk
      have tt := hs.t
      obtain ⟨t, rfl⟩ : ∃ n : Nat, t = n := ⟨t.toNat, by omega⟩
      have e : mostV s (t : Int) u = .tup 2 (ofL [AI (mostN s t u : Nat), AI 0]) := by unfold mostV mostE; rw [if_pos hk, if_pos ht]; rfl
      rw [e] at cA cB
      (repeat' ((try (conv => whnf)); first | (with_reducible first | refine FCond.tA ?_ | refine FCond.fA ?_) | ((with_reducible refine FCond.i (fun hq => ?_) (fun hq => ?_)) <;> (try simp only [zA, zE, zD, zJ, zB, zI, Int.not_le, Int.not_lt] at hq)) | (with_reducible first | refine Fits.in64 (by omega) ?_ | refine FIdx.nat (by omega) ?_ | refine FIdx.int (by omega) ?_ | refine FTo.nat (by omega) ?_ | refine FTo.int (by omega) ?_) | ((with_reducible refine Need.mk ?_ ?_); focus exact needA) | (with_reducible refine FApp.grow ?_) | (refine FCall.pure (cF) ⟨Ln.sameB _ rfl, True.intro⟩ rfl ?_) | (refine FCall.pure (cK) ⟨Ln.sameB _ rfl, True.intro⟩ rfl ?_) | (refine FCall.pure (cA) ⟨Ln.sameB _ rfl, Ln.sameB _ rfl, Ln.sameB _ rfl, True.intro⟩ rfl ?_) | (refine FCall.pure (cB) ⟨Ln.sameB _ rfl, Ln.sameB _ rfl, Ln.sameB _ rfl, True.intro⟩ rfl ?_) | (with_reducible refine FOr.pub ?_)))
      all_goals (try (conv => whnf))
      refine FCall.give [] [] (cover_yes (flC s) s hn hk t (by omega) u) rfl rfl True.intro ⟨Ln.A, Ln.A, Ln.A, True.intro⟩ ?_
      rintro _ _ ⟨rfl, A, B, rfl, hR⟩
      refine ⟨Nat.le_of_ble_eq_true rfl, .inl rfl, ?_⟩
      obtain ⟨lA, lB⟩ := cov_len hR hs
      have hl := hR.len
      have cI := isCover_ok f s hs t (by omega) u A B hR (by omega) (by omega)
      (repeat' ((try (conv => whnf)); first | (with_reducible first | refine FCond.tA ?_ | refine FCond.fA ?_) | ((with_reducible refine FCond.i (fun hq => ?_) (fun hq => ?_)) <;> (try simp only [zA, zE, zD, zJ, zB, zI, Int.not_le, Int.not_lt] at hq)) | (with_reducible first | refine Fits.in64 (by omega) ?_ | refine FIdx.nat (by omega) ?_ | refine FIdx.int (by omega) ?_ | refine FTo.nat (by omega) ?_ | refine FTo.int (by omega) ?_) | ((with_reducible refine Need.mk ?_ ?_); focus exact needA) | (with_reducible refine FApp.grow ?_) | (refine FCall.pure (cI) ⟨Ln.sameB _ rfl, Ln.sameB _ rfl, Ln.sameB _ rfl, Ln.sameB _ rfl, Ln.sameB _ rfl, True.intro⟩ rfl ?_) | (refine FCall.pure works_ok True.intro rfl ?_) | (with_reducible refine FOr.pub ?_)))
      all_goals (try (conv => whnf))
      all_goals ((refine ⟨⟨_, [], [], Cut.nil _, Ln.sameB _ rfl, ?_, rfl⟩⟩); rfl)
    · have e : mostV s t u = .tup 2 (ofL [AI 0, AI (checkT s t)]) := by
        unfold mostV mostE checkT at *
        by_cases hk : s.ok = true
        · rw [if_pos hk] at h0 ⊢
          by_cases ht : 0 ≤ t ∧ t < s.times
          · rw [if_pos ht] at h0; exact (h0 rfl).elim
          · simp only [if_neg ht, if_pos hk]
        · simp only [if_neg hk]
      rw [e] at cA cB
      have cC := cover_no (flC s) s hn t u h0
      (repeat' ((try (conv => whnf)); first | (with_reducible first | refine FCond.tA ?_ | refine FCond.fA ?_) | ((with_reducible refine FCond.i (fun hq => ?_) (fun hq => ?_)) <;> (try simp only [zA, zE, zD, zJ, zB, zI, Int.not_le, Int.not_lt] at hq)) | (with_reducible first | refine Fits.in64 (by omega) ?_ | refine FIdx.nat (by omega) ?_ | refine FIdx.int (by omega) ?_ | refine FTo.nat (by omega) ?_ | refine FTo.int (by omega) ?_) | ((with_reducible refine Need.mk ?_ ?_); focus exact needA) | (with_reducible refine FApp.grow ?_) | (refine FCall.pure (cF) ⟨Ln.sameB _ rfl, True.intro⟩ rfl ?_) | (refine FCall.pure (cK) ⟨Ln.sameB _ rfl, True.intro⟩ rfl ?_) | (refine FCall.pure (cA) ⟨Ln.sameB _ rfl, Ln.sameB _ rfl, Ln.sameB _ rfl, True.intro⟩ rfl ?_) | (refine FCall.pure (cB) ⟨Ln.sameB _ rfl, Ln.sameB _ rfl, Ln.sameB _ rfl, True.intro⟩ rfl ?_) | (refine FCall.pure (cC) ⟨Ln.sameB _ rfl, Ln.sameB _ rfl, Ln.sameB _ rfl, True.intro⟩ rfl ?_) | (refine FCall.pure works_ok True.intro rfl ?_) | (with_reducible refine FOr.pub ?_)))
      all_goals (try (conv => whnf))
      all_goals ((refine ⟨⟨_, [], [], Cut.nil _, Ln.sameB _ rfl, ?_, rfl⟩⟩); rfl)
  · rw [hf] at cF
    (repeat' ((try (conv => whnf)); first | (with_reducible first | refine FCond.tA ?_ | refine FCond.fA ?_) | ((with_reducible refine FCond.i (fun hq => ?_) (fun hq => ?_)) <;> (try simp only [zA, zE, zD, zJ, zB, zI, Int.not_le, Int.not_lt] at hq)) | (with_reducible first | refine Fits.in64 (by omega) ?_ | refine FIdx.nat (by omega) ?_ | refine FIdx.int (by omega) ?_ | refine FTo.nat (by omega) ?_ | refine FTo.int (by omega) ?_) | ((with_reducible refine Need.mk ?_ ?_); focus exact needA) | (with_reducible refine FApp.grow ?_) | (refine FCall.pure (cF) ⟨Ln.sameB _ rfl, True.intro⟩ rfl ?_) | (refine FCall.pure works_ok True.intro rfl ?_) | (with_reducible refine FOr.pub ?_)))
    all_goals (try (conv => whnf))
    all_goals ((refine ⟨⟨_, [], [], Cut.nil _, Ln.sameB _ rfl, ?_, rfl⟩⟩); rfl)
end Go.Proofs.Ytnghcfmloljagaa

namespace Go.Proofs.Ytnghcfmloljagaa
open Go.RowKit

theorem upto_isM {s : Std} {D : Nat × Nat → Prop} {S : Nat} {a : Asg} (h : IsM s D S a) (hD : ∀ p, D p → p.1 < s.n) (t : Nat) : IsM s (upT s t) (maskOf (befB (t + 1) a) s.C) (befA (t + 1) a) := by
  refine ⟨fun c => ?_, fun c p hp => ?_, fun c c' p h1 h2 => ?_⟩
  · rw [test_maskOf]
    unfold befA befB
    cases e : a c with
    | none => simp
    | some p =>
      have hc := (isM_some h e).1
      by_cases hp : p.2 < t + 1 <;> simp [hp, hc]
  · unfold befA at hp
    cases e : a c with
    | none => rw [e] at hp; cases hp
    | some q =>
      rw [e] at hp
      simp only at hp
      split at hp
      · rename_i hlt
        obtain rfl := (Option.some.inj hp).symm
        obtain ⟨h1, h2⟩ := h.can c p e
        exact ⟨⟨hD _ h1, by omega⟩, h2⟩
      · cases hp
  · have key : ∀ x p, befA (t + 1) a x = some p → a x = some p := fun x p hx => by
      unfold befA at hx
      cases e : a x with
      | none => rw [e] at hx; cases hx
      | some q => rw [e] at hx; simp only at hx; split at hx <;> simp_all
    exact h.inj c c' p (key c p h1) (key c' p h2)
/-- How many of the calls that count are answered up to a time. -/
def ansB (s : Std) (l : List Anr) (t : Int) (u : Bool) (i : Nat) : Bool := decide (0 ≤ (l.getD i na).t ∧ (l.getD i na).t ≤ t) && counts s u i
def ansN (s : Std) (l : List Anr) (t : Int) (u : Bool) (k : Nat) : Nat := cntB (ansB s l t u) k
theorem ans_most {s : Std} (hs : StdOk s) {l : List Anr} (h : Right s l) (t : Nat) (u : Bool) : ansN s l t u s.C ≤ mostN s t u := by
  have hM := upto_isM (right_isM hs h) (fun p hp => hp.1) t
  refine Nat.le_trans (cntB_mono fun c hc hq => ?_) ((mostN_is s t u).le _ _ hM)
  unfold ansB at hq
  simp only [Bool.and_eq_true, decide_eq_true_eq] at hq ⊢
  refine ⟨?_, hq.2⟩
  rw [test_maskOf]
  have hna : l.getD c na ≠ na := fun e => by
    have := hq.1.1
    rw [e] at this
    exact absurd this (by decide)
  unfold befB asgL
  rw [if_neg hna]
  simp only [Bool.and_eq_true, decide_eq_true_eq]
  exact ⟨hc, by omega⟩
set_option maxHeartbeats 8000000
set_option maxRecDepth 100000
theorem answered_ok (f : StF) (s : Std) (hs : StdOk s) (z e : Bool) (l : List Anr) (hl : l.length = s.C) (t : Int) (u : Bool) : ACall Try.prog 37 [aStd f s, aAns z e l, AI t, .bool u] [] (fun r h => r = AI (ansN s l t u s.C : Nat) ∧ h = []) := by
  have c12 : s.rg.length ≤ 12 := hs.c12
  have hl' : l.length = s.rg.length := hl
  (refine fcall_of mixed Try.func37 rfl (by decide) (hs := {}) ?k (ac := ?ac) ?c (rs := ?rs) ?r ?l ?H; (case k => kernel_rfl); (case c => (conv => (lhs; cbv))); (case r => (conv => (lhs; cbv))); (case l => exact Nat.le_of_ble_eq_true rfl))
  (repeat' ((try (conv => whnf)); first | (with_reducible first | refine FCond.tA ?_ | refine FCond.fA ?_) | ((with_reducible refine FCond.i (fun hq => ?_) (fun hq => ?_)) <;> (try simp only [zA, zE, zD, zJ, zB, zI, Int.not_le, Int.not_lt] at hq)) | (with_reducible first | refine Fits.in64 (by omega) ?_ | refine FIdx.nat (by omega) ?_ | refine FIdx.int (by omega) ?_ | refine FTo.nat (by omega) ?_ | refine FTo.int (by omega) ?_) | ((with_reducible refine Need.mk ?_ ?_); focus exact needA) | (with_reducible refine FApp.grow ?_) | (with_reducible refine FOr.pub ?_)))
  all_goals (try (conv => whnf))
  refine FLoop.of (ACalls.mono _) (X := Nat) (fun i => [(1, aAns z e l), (2, AI t), (3, .bool u), (4, .ptr 0 0), (9, AI (ansN s l t u i : Nat)), (10, AI i)]) (fun i => [.box 3 (cStd f s)]) (fun i => i ≤ s.rg.length) (fun i => s.rg.length - i) 0 ⟨Nat.zero_le _, [0], Cut.A, allA⟩ ?_
  intro i hi
  have hb := cntB_len (ansB s l t u) i
  have hb' : ansN s l t u i ≤ i := hb
  by_cases hlt : i < s.rg.length
  · have cC := counts_ok f s u i hlt
    have hst : ansN s l t u (i + 1) = ansN s l t u i + if ansB s l t u i then 1 else 0 := rfl
    by_cases ht : 0 ≤ (l.getD i na).t ∧ (l.getD i na).t ≤ t
    · cases hq7 : counts s u i
      · rw [hq7] at cC
        rw [show ansB s l t u i = false by unfold ansB; rw [hq7, Bool.and_false]] at hst
        have hst : ansN s l t u (i + 1) = ansN s l t u i := hst
        (repeat' ((try (conv => whnf)); first | (with_reducible first | refine FCond.tA ?_ | refine FCond.fA ?_) | ((with_reducible refine FCond.i (fun hq => ?_) (fun hq => ?_)) <;> (try simp only [zA, zE, zD, zJ, zB, zI, Int.not_le, Int.not_lt] at hq)) | (with_reducible first | refine Fits.in64 (by omega) ?_ | refine FIdx.nat (by omega) ?_ | refine FIdx.int (by omega) ?_ | refine FTo.nat (by omega) ?_ | refine FTo.int (by omega) ?_) | ((with_reducible refine Need.mk ?_ ?_); focus exact needA) | (with_reducible refine FApp.grow ?_) | (refine FCall.pure (cC) ⟨Ln.sameB _ rfl, Ln.sameB _ rfl, Ln.sameB _ rfl, True.intro⟩ rfl ?_) | (with_reducible refine FOr.pub ?_)))
        all_goals (try (conv => whnf))
        all_goals exact ⟨⟨i + 1, hlt, by omega, [0], Cut.A, ⟨Ln.A, Ln.A, Ln.A, Ln.A, Ln.int (by rw [hst]), Ln.A, True.intro⟩⟩⟩
      · rw [hq7] at cC
        rw [show ansB s l t u i = true by unfold ansB; rw [hq7, decide_eq_true ht]; rfl] at hst
        have hst : ansN s l t u (i + 1) = ansN s l t u i + 1 := hst
        (repeat' ((try (conv => whnf)); first | (with_reducible first | refine FCond.tA ?_ | refine FCond.fA ?_) | ((with_reducible refine FCond.i (fun hq => ?_) (fun hq => ?_)) <;> (try simp only [zA, zE, zD, zJ, zB, zI, Int.not_le, Int.not_lt] at hq)) | (with_reducible first | refine Fits.in64 (by omega) ?_ | refine FIdx.nat (by omega) ?_ | refine FIdx.int (by omega) ?_ | refine FTo.nat (by omega) ?_ | refine FTo.int (by omega) ?_) | ((with_reducible refine Need.mk ?_ ?_); focus exact needA) | (with_reducible refine FApp.grow ?_) | (refine FCall.pure (cC) ⟨Ln.sameB _ rfl, Ln.sameB _ rfl, Ln.sameB _ rfl, True.intro⟩ rfl ?_) | (with_reducible refine FOr.pub ?_)))
        all_goals (try (conv => whnf))
        all_goals exact ⟨⟨i + 1, hlt, by omega, [0], Cut.A, ⟨Ln.A, Ln.A, Ln.A, Ln.A, Ln.int (by rw [hst]; omega), Ln.A, True.intro⟩⟩⟩
    · rw [show ansB s l t u i = false by unfold ansB; rw [decide_eq_false ht, Bool.false_and]] at hst
      have hst : ansN s l t u (i + 1) = ansN s l t u i := hst
      by_cases h0 : 0 ≤ (l.getD i na).t
      · (repeat' ((try (conv => whnf)); first | (with_reducible first | refine FCond.tA ?_ | refine FCond.fA ?_) | ((with_reducible refine FCond.i (fun hq => ?_) (fun hq => ?_)) <;> (try simp only [zA, zE, zD, zJ, zB, zI, Int.not_le, Int.not_lt] at hq)) | (with_reducible first | refine Fits.in64 (by omega) ?_ | refine FIdx.nat (by omega) ?_ | refine FIdx.int (by omega) ?_ | refine FTo.nat (by omega) ?_ | refine FTo.int (by omega) ?_) | ((with_reducible refine Need.mk ?_ ?_); focus exact needA) | (with_reducible refine FApp.grow ?_) | (with_reducible refine FOr.pub ?_)))
        all_goals (try (conv => whnf))
        all_goals exact ⟨⟨i + 1, hlt, by omega, [0], Cut.A, ⟨Ln.A, Ln.A, Ln.A, Ln.A, Ln.int (by rw [hst]), Ln.A, True.intro⟩⟩⟩
      · (repeat' ((try (conv => whnf)); first | (with_reducible first | refine FCond.tA ?_ | refine FCond.fA ?_) | ((with_reducible refine FCond.i (fun hq => ?_) (fun hq => ?_)) <;> (try simp only [zA, zE, zD, zJ, zB, zI, Int.not_le, Int.not_lt] at hq)) | (with_reducible first | refine Fits.in64 (by omega) ?_ | refine FIdx.nat (by omega) ?_ | refine FIdx.int (by omega) ?_ | refine FTo.nat (by omega) ?_ | refine FTo.int (by omega) ?_) | ((with_reducible refine Need.mk ?_ ?_); focus exact needA) | (with_reducible refine FApp.grow ?_) | (with_reducible refine FOr.pub ?_)))
        all_goals (try (conv => whnf))
        all_goals exact ⟨⟨i + 1, hlt, by omega, [0], Cut.A, ⟨Ln.A, Ln.A, Ln.A, Ln.A, Ln.int (by rw [hst]), Ln.A, True.intro⟩⟩⟩
  · obtain rfl : i = s.rg.length := by omega
    (repeat' ((try (conv => whnf)); first | (with_reducible first | refine FCond.tA ?_ | refine FCond.fA ?_) | ((with_reducible refine FCond.i (fun hq => ?_) (fun hq => ?_)) <;> (try simp only [zA, zE, zD, zJ, zB, zI, Int.not_le, Int.not_lt] at hq)) | (with_reducible first | refine Fits.in64 (by omega) ?_ | refine FIdx.nat (by omega) ?_ | refine FIdx.int (by omega) ?_ | refine FTo.nat (by omega) ?_ | refine FTo.int (by omega) ?_) | ((with_reducible refine Need.mk ?_ ?_); focus exact needA) | (with_reducible refine FApp.grow ?_) | (with_reducible refine FOr.pub ?_)))
    all_goals (try (conv => whnf))
    all_goals ((refine ⟨⟨_, [], [], Cut.nil _, Ln.sameB _ rfl, ?_, rfl⟩⟩); rfl)
theorem proof_any (f : StF) (s : Std) (hM : Mach s) (z : Bool) (l : List Anr) (hl : l.length ≤ 9223372036854775807) (t : Int) (u : Bool) : ACall Try.prog 11 [aStd f s, aAns z false l, .agg 2 (ofL [AI t, .bool u])] [] (fun v h => v = .bool true ∧ h = []) := by
  have cV := valid_ok f s hM.n hM.c
  (refine fcall_of mixed Try.func11 rfl (by decide) (hs := {}) ?k (ac := ?ac) ?c (rs := ?rs) ?r ?l ?H; (case k => kernel_rfl); (case c => (conv => (lhs; cbv))); (case r => (conv => (lhs; cbv))); (case l => exact Nat.le_of_ble_eq_true rfl))
  cases hv : validS s
  · rw [hv] at cV
    (repeat' ((try (conv => whnf)); first | (with_reducible first | refine FCond.tA ?_ | refine FCond.fA ?_) | ((with_reducible refine FCond.i (fun hq => ?_) (fun hq => ?_)) <;> (try simp only [zA, zE, zD, zJ, zB, zI, Int.not_le, Int.not_lt] at hq)) | (with_reducible first | refine Fits.in64 (by omega) ?_ | refine FIdx.nat (by omega) ?_ | refine FIdx.int (by omega) ?_ | refine FTo.nat (by omega) ?_ | refine FTo.int (by omega) ?_) | ((with_reducible refine Need.mk ?_ ?_); focus exact needA) | (with_reducible refine FApp.grow ?_) | (refine FCall.pure (cV) ⟨Ln.sameB _ rfl, True.intro⟩ rfl ?_) | (refine FCall.pure works_ok True.intro rfl ?_) | (with_reducible refine FOr.pub ?_)))
    all_goals (try (conv => whnf))
    all_goals ((refine ⟨⟨_, [], [], Cut.nil _, Ln.sameB _ rfl, ?_, rfl⟩⟩); rfl)
  · rw [hv] at cV
    obtain ⟨hf, hk⟩ := valid_d hv
    have hn := near_of hf
    have hs := std_d hk
    have tt := hs.t
    have cT := checkTime_ok f s hn t
    by_cases h30 : 30 < l.length
    · (repeat' ((try (conv => whnf)); first | (with_reducible first | refine FCond.tA ?_ | refine FCond.fA ?_) | ((with_reducible refine FCond.i (fun hq => ?_) (fun hq => ?_)) <;> (try simp only [zA, zE, zD, zJ, zB, zI, Int.not_le, Int.not_lt] at hq)) | (with_reducible first | refine Fits.in64 (by omega) ?_ | refine FIdx.nat (by omega) ?_ | refine FIdx.int (by omega) ?_ | refine FTo.nat (by omega) ?_ | refine FTo.int (by omega) ?_) | ((with_reducible refine Need.mk ?_ ?_); focus exact needA) | (with_reducible refine FApp.grow ?_) | (refine FCall.pure (cV) ⟨Ln.sameB _ rfl, True.intro⟩ rfl ?_) | (refine FCall.pure works_ok True.intro rfl ?_) | (with_reducible refine FOr.pub ?_)))
      all_goals (try (conv => whnf))
      all_goals ((refine ⟨⟨_, [], [], Cut.nil _, Ln.sameB _ rfl, ?_, rfl⟩⟩); rfl)
    by_cases ht : 0 ≤ t ∧ t < s.times
    · rw [show checkT s t = 0 from by unfold checkT; rw [if_pos hk, if_pos ht]] at cT
      obtain ⟨t, rfl⟩ : ∃ n : Nat, t = n := ⟨t.toNat, by omega⟩
      have cX := most_yes f s hn hk t (by omega) u
      have cP := plan_yes f s hn hk
      have cA := areRight_ok f s hs false false (bestL s) (bestL_len hs)
      rw [right_d.2 (bestL_right s)] at cA
      have cN := answered_ok f s hs false false (bestL s) (bestL_right s).len t u
      have hm1 := ans_most hs (bestL_right s) t u
      have hmC := mostN_C s t u
      have hc12 := hs.c12
      (repeat' ((try (conv => whnf)); first | (with_reducible first | refine FCond.tA ?_ | refine FCond.fA ?_) | ((with_reducible refine FCond.i (fun hq => ?_) (fun hq => ?_)) <;> (try simp only [zA, zE, zD, zJ, zB, zI, Int.not_le, Int.not_lt] at hq)) | (with_reducible first | refine Fits.in64 (by omega) ?_ | refine FIdx.nat (by omega) ?_ | refine FIdx.int (by omega) ?_ | refine FTo.nat (by omega) ?_ | refine FTo.int (by omega) ?_) | ((with_reducible refine Need.mk ?_ ?_); focus exact needA) | (with_reducible refine FApp.grow ?_) | (refine FCall.pure (cV) ⟨Ln.sameB _ rfl, True.intro⟩ rfl ?_) | (refine FCall.pure (cT) ⟨Ln.sameB _ rfl, Ln.sameB _ rfl, True.intro⟩ rfl ?_) | (refine FCall.pure (cX) ⟨Ln.sameB _ rfl, Ln.sameB _ rfl, Ln.sameB _ rfl, True.intro⟩ rfl ?_) | (with_reducible refine FOr.pub ?_)))
      all_goals (try (conv => whnf))
      refine FCall.give [] [] (cover_yes f s hn hk t (by omega) u) rfl rfl True.intro ⟨Ln.A, Ln.A, Ln.A, True.intro⟩ ?_
      rintro _ _ ⟨rfl, A, B, rfl, hR⟩
      refine ⟨Nat.le_of_ble_eq_true rfl, .inl rfl, ?_⟩
      obtain ⟨lA, lB⟩ := cov_len hR hs
      have hlen := hR.len
      have cI := isCover_ok f s hs t (by omega) u A B hR (by omega) (by omega)
      have cR := areRight_ok f s hs z false l (by omega)
      cases hr : rightL s l
      · rw [hr] at cR
        (repeat' ((try (conv => whnf)); first | (with_reducible first | refine FCond.tA ?_ | refine FCond.fA ?_) | ((with_reducible refine FCond.i (fun hq => ?_) (fun hq => ?_)) <;> (try simp only [zA, zE, zD, zJ, zB, zI, Int.not_le, Int.not_lt] at hq)) | (with_reducible first | refine Fits.in64 (by omega) ?_ | refine FIdx.nat (by omega) ?_ | refine FIdx.int (by omega) ?_ | refine FTo.nat (by omega) ?_ | refine FTo.int (by omega) ?_) | ((with_reducible refine Need.mk ?_ ?_); focus exact needA) | (with_reducible refine FApp.grow ?_) | (refine FCall.pure (cI) ⟨Ln.sameB _ rfl, Ln.sameB _ rfl, Ln.sameB _ rfl, Ln.sameB _ rfl, Ln.sameB _ rfl, True.intro⟩ rfl ?_) | (refine FCall.pure (cP) ⟨Ln.sameB _ rfl, True.intro⟩ rfl ?_) | (refine FCall.pure (cA) ⟨Ln.sameB _ rfl, Ln.sameB _ rfl, True.intro⟩ rfl ?_) | (refine FCall.pure (cN) ⟨Ln.sameB _ rfl, Ln.sameB _ rfl, Ln.sameB _ rfl, Ln.sameB _ rfl, True.intro⟩ rfl ?_) | (refine FCall.pure (cR) ⟨Ln.sameB _ rfl, Ln.sameB _ rfl, True.intro⟩ rfl ?_) | (refine FCall.pure works_ok True.intro rfl ?_) | (with_reducible refine FOr.pub ?_)))
        all_goals (try (conv => whnf))
        all_goals ((refine ⟨⟨_, [], [], Cut.nil _, Ln.sameB _ rfl, ?_, rfl⟩⟩); rfl)
      · rw [hr] at cR
        have hRl := right_d.1 hr
        have cN2 := answered_ok f s hs z false l hRl.len t u
        have hm2 := ans_most hs hRl t u
        (repeat' ((try (conv => whnf)); first | (with_reducible first | refine FCond.tA ?_ | refine FCond.fA ?_) | ((with_reducible refine FCond.i (fun hq => ?_) (fun hq => ?_)) <;> (try simp only [zA, zE, zD, zJ, zB, zI, Int.not_le, Int.not_lt] at hq)) | (with_reducible first | refine Fits.in64 (by omega) ?_ | refine FIdx.nat (by omega) ?_ | refine FIdx.int (by omega) ?_ | refine FTo.nat (by omega) ?_ | refine FTo.int (by omega) ?_) | ((with_reducible refine Need.mk ?_ ?_); focus exact needA) | (with_reducible refine FApp.grow ?_) | (refine FCall.pure (cI) ⟨Ln.sameB _ rfl, Ln.sameB _ rfl, Ln.sameB _ rfl, Ln.sameB _ rfl, Ln.sameB _ rfl, True.intro⟩ rfl ?_) | (refine FCall.pure (cP) ⟨Ln.sameB _ rfl, True.intro⟩ rfl ?_) | (refine FCall.pure (cA) ⟨Ln.sameB _ rfl, Ln.sameB _ rfl, True.intro⟩ rfl ?_) | (refine FCall.pure (cN) ⟨Ln.sameB _ rfl, Ln.sameB _ rfl, Ln.sameB _ rfl, Ln.sameB _ rfl, True.intro⟩ rfl ?_) | (refine FCall.pure (cR) ⟨Ln.sameB _ rfl, Ln.sameB _ rfl, True.intro⟩ rfl ?_) | (refine FCall.pure (cN2) ⟨Ln.sameB _ rfl, Ln.sameB _ rfl, Ln.sameB _ rfl, Ln.sameB _ rfl, True.intro⟩ rfl ?_) | (refine FCall.pure works_ok True.intro rfl ?_) | (with_reducible refine FOr.pub ?_)))
        all_goals (try (conv => whnf))
        all_goals ((refine ⟨⟨_, [], [], Cut.nil _, Ln.sameB _ rfl, ?_, rfl⟩⟩); rfl)
    · rw [show checkT s t = 1 from by unfold checkT; rw [if_pos hk, if_neg ht]] at cT
      (repeat' ((try (conv => whnf)); first | (with_reducible first | refine FCond.tA ?_ | refine FCond.fA ?_) | ((with_reducible refine FCond.i (fun hq => ?_) (fun hq => ?_)) <;> (try simp only [zA, zE, zD, zJ, zB, zI, Int.not_le, Int.not_lt] at hq)) | (with_reducible first | refine Fits.in64 (by omega) ?_ | refine FIdx.nat (by omega) ?_ | refine FIdx.int (by omega) ?_ | refine FTo.nat (by omega) ?_ | refine FTo.int (by omega) ?_) | ((with_reducible refine Need.mk ?_ ?_); focus exact needA) | (with_reducible refine FApp.grow ?_) | (refine FCall.pure (cV) ⟨Ln.sameB _ rfl, True.intro⟩ rfl ?_) | (refine FCall.pure (cT) ⟨Ln.sameB _ rfl, Ln.sameB _ rfl, True.intro⟩ rfl ?_) | (refine FCall.pure works_ok True.intro rfl ?_) | (with_reducible refine FOr.pub ?_)))
      all_goals (try (conv => whnf))
      all_goals ((refine ⟨⟨_, [], [], Cut.nil _, Ln.sameB _ rfl, ?_, rfl⟩⟩); rfl)
end Go.Proofs.Ytnghcfmloljagaa
