/- Regions, read over abstract values, in a real run: the order of a region that draws it counts for nothing. No program in sight. -/
import Derived.Test.YtomkjfhepfinhaaAbs11
namespace Go.Proofs.Ytomkjfhepfinhaa
open Go.RowKit

def watp (C : CallP) (o : AO) (e : Env) (h : List AB) : Prop := match o.dst with
  | some d => gstep C o e h (fun v _ => v = e d)
  | none => True
theorem wat_of {C : CallP} {o : AO} {e : Env} {h : List AB} (H : watp C o e h) : wat C o e h := fun d hd => by
  unfold watp at H
  rw [hd] at H
  exact H
def wats (C : CallP) (ws : List AO) (e : Env) (h : List AB) (p : Prop) : Prop := match ws with
  | [] => p
  | o :: ws => watp C o e h ∧ wats C ws e h p
theorem wats_e {C : CallP} {e : Env} {h : List AB} {p : Prop} : ∀ {ws : List AO}, wats C ws e h p → (∀ o ∈ ws, watp C o e h) ∧ p
  | [], H => ⟨fun o ho => (by cases ho), H⟩
  | _ :: _, H => ⟨fun x hx => (by
      rcases List.mem_cons.1 hx with rfl | hx
      · exact H.1
      · exact (wats_e H.2).1 x hx), (wats_e H.2).2⟩
/-- The operations of a region, one behind another. -/
def aregs (C : CallP) (l : List (AO × List AO)) (Q : Env → List AB → Prop) (e : Env) (h : List AB) : Prop :=
  match l with
  | [] => Q e h
  | (o, ws) :: rest => gstep C o e h (fun r h' => wats C ws e h' (aregs C rest Q (e.put o.dst r) h'))
theorem arun_of {C : CallP} (hC : C.Mono) {ao : Nat → AO} {W : Nat → List Nat} {Q : Env → List AB → Prop} : ∀ (L : List Nat) (D : Nat → Prop) {e : Env} {h : List AB}, aregs C (L.map fun i => (ao i, (W i).map ao)) Q e h → arun C ao W L D Q e h
  | [], _, _, _, H => H
  | _ :: L, _, _, _, H => gstep_mono hC (fun _ _ hh => ⟨fun j hj _ => wat_of ((wats_e hh).1 _ (List.mem_map.2 ⟨j, hj, rfl⟩)), arun_of hC L _ (wats_e hh).2⟩) H

def cloB (b : Array Nat) (i j : Nat) : Bool := (b.getD i 0).testBit j
def cloOK (ops : Array Oper) (b : Array Nat) : Bool :=
  (List.range ops.size).all fun i => !cloB b i i && match ops[i]? with
    | some o => (o.after.toList.all fun x => !Region.binds .any x || (decide (x.on < ops.size) && cloB b i x.on)) &&
        (List.range ops.size).all fun j => !cloB b i j || o.after.toList.any fun x => Region.binds .any x && (x.on == j || cloB b x.on j)
    | none => false
def touchB (ao : Nat → AO) (k j : Nat) : Bool := match (ao j).dst with
  | none => false
  | some d => (ao k).looks.contains d || (ao k).dst == some d
def stillB (N : Nat) (ao : Nat → AO) (W : Nat → List Nat) (clo : Nat → Nat → Bool) : Bool :=
  (List.range N).all fun k => ((ao k).op.chg || (W k).isEmpty) && ((List.range N).all fun j => k == j || !touchB ao k j || clo k j || clo j k) &&
    (W k).all fun l => (List.range N).all fun j => match l == j with
      | true => (match (ao j).dst with
        | none => true
        | some d => !(ao j).looks.contains d)
      | false => clo l j || !touchB ao l j
def pairB (ao : Nat → AO) (W : Nat → List Nat) (clo : Nat → Nat → Bool) (j i : Nat) : Bool :=
  j != i && !clo j i && (!(ao j).op.chg || clo i j) && (!(ao i).op.chg || !(ao j).op.rds || clo i j || ((W i).contains j && (ao j).dst.isSome))
def pairsB (ao : Nat → AO) (W : Nat → List Nat) (clo : Nat → Nat → Bool) : List Nat → Bool
  | [] => true
  | j :: l => l.all (pairB ao W clo j) && pairsB ao W clo l
/-- A region's operations in the order of a hint (none: as they stand), each with the looks that it must not spoil. -/
abbrev Hint := List (Nat × List Nat)
def compReg (P : Program) (n : Nat) (ops : Array Oper) (hint : Option Hint) : Option (List (AO × List AO)) :=
  match ops.toList.mapM (compAO P n ops) with
  | none => none
  | some l => match hint with
    | some L => some (L.map fun p => (l.getD p.1 default, p.2.map fun j => l.getD j default))
    | none => some (l.map fun x => (x, []))
def watchOf (L : Hint) (i : Nat) : List Nat := match L.find? (·.1 == i) with
  | some p => p.2
  | none => []
def okReg (P : Program) (n : Nat) (ops : Array Oper) (draw : Bool) (hint : Option Hint) : Bool :=
  match draw, hint with
  | false, none => true
  | false, some _ => false
  | true, hint =>
    match ops.toList.mapM (compAO P n ops) with
    | none => false
    | some l =>
      let ao := fun i => l.getD i default
      let b := Region.before ops
      let H := hint.getD ((List.range ops.size).map fun i => (i, []))
      let L := H.map (·.1)
      let W := watchOf H
      cloOK ops b && L.length == ops.size && (List.range ops.size).all (L.contains ·) && L.all (decide <| · < ops.size) && (H.all fun p => p.2.all (decide <| · < ops.size)) && stillB ops.size ao W (cloB b) && pairsB ao W (cloB b) L

theorem touch_no {ao : Nat → AO} {k j d : Nat} (h : touchB ao k j = false) (hd : (ao j).dst = some d) : d ∉ (ao k).looks ∧ (ao k).dst ≠ some d := by
  unfold touchB at h
  rw [hd] at h
  simp only [Bool.or_eq_false_iff, List.contains_eq_mem, decide_eq_false_iff_not, beq_eq_false_iff_ne, ne_eq] at h
  exact h
theorem still_of {N : Nat} {ao : Nat → AO} {W : Nat → List Nat} {clo : Nat → Nat → Bool} (hW : ∀ i, ∀ k ∈ W i, k < N) (H : stillB N ao W clo = true) : Still ao W (fun i j => clo i j = true) N := by
  simp only [stillB, List.all_eq_true, List.mem_range, Bool.and_eq_true, Bool.or_eq_true, beq_iff_eq, Bool.not_eq_true'] at H
  refine ⟨fun k j hk hj hne hc hc' d hd => ?_, fun i k j hi hk hj hne hc d hd => ?_, fun i j hi hj d hd => ?_, fun j hj hc => ?_⟩
  · rcases (H k hk).1.2 j hj with ((h1 | h1) | h1) | h1
    · exact (hne h1).elim
    · exact touch_no h1 hd
    · exact (hc h1).elim
    · exact (hc' h1).elim
  · have := (H i hi).2 k hk j hj
    have hb : (k == j) = false := by simpa using hne
    rw [hb] at this
    simp only [Bool.or_eq_true, Bool.not_eq_true'] at this
    rcases this with h1 | h1
    · exact (hc h1).elim
    · exact touch_no h1 hd
  · have := (H i hi).2 j hj j (hW i j hj)
    have hb : (j == j) = true := by simp
    rw [hb] at this
    simp only [hd, Bool.not_eq_true'] at this
    simpa using this
  · rcases (H j hj).1.1 with h1 | h1
    · rw [hc] at h1; cases h1
    · simpa using h1
theorem pairs_of {ao : Nat → AO} {W : Nat → List Nat} {clo : Nat → Nat → Bool} : ∀ {L : List Nat}, pairsB ao W clo L = true → L.Pairwise (Pair ao W (fun i j => clo i j = true))
  | [], _ => List.Pairwise.nil
  | j :: L, H => by
    simp only [pairsB, Bool.and_eq_true, List.all_eq_true] at H
    refine List.Pairwise.cons (fun i hi => ?_) (pairs_of H.2)
    have := H.1 i hi
    simp only [pairB, Bool.and_eq_true, Bool.or_eq_true, bne_iff_ne, ne_eq, Bool.not_eq_true', List.contains_iff_mem] at this
    obtain ⟨⟨⟨h1, h2⟩, h3⟩, h4⟩ := this
    refine ⟨h1, by simp [h2], fun hc => ?_, fun hi hj hn => ?_⟩
    · rcases h3 with h3 | h3
      · rw [hc] at h3; cases h3
      · exact h3
    · rcases h4 with ((h4 | h4) | h4) | h4
      · rw [hi] at h4; cases h4
      · rw [hj] at h4; cases h4
      · exact (hn h4).elim
      · exact ⟨h4.1, fun e => by rw [e] at h4; simp at h4⟩

section
variable {rd : Option Nat} {md : Nat} {F : Nat → Prop} {P : Program} {n : Nat} {gS : GM} {hS : List AB} {wS : World}
theorem mapM_get {ops : Array Oper} {f : Oper → Option AO} {l : List AO} (h : ops.toList.mapM f = some l) : ∀ (i : Nat) (o : Oper), ops[i]? = some o → ∃ x, l[i]? = some x ∧ f o = some x := by
  have key : ∀ (xs : List Oper) (l : List AO), xs.mapM f = some l → ∀ (i : Nat) (o : Oper), xs[i]? = some o → ∃ x, l[i]? = some x ∧ f o = some x := by
    intro xs
    induction xs with
    | nil => intro l _ i o h; simp at h
    | cons y ys ih =>
      intro l hl i o hi
      rw [List.mapM_cons] at hl
      cases hy : f y with
      | none => rw [hy] at hl; cases hl
      | some z =>
        rw [hy] at hl
        cases hys : ys.mapM f with
        | none => rw [hys] at hl; cases hl
        | some zs =>
          rw [hys] at hl
          injection hl with hl
          subst hl
          cases i with
          | zero => simp at hi; subst hi; exact ⟨z, rfl, hy⟩
          | succ i => exact ih zs hys i o hi
  intro i o hi
  exact key ops.toList l h i o (by simpa using hi)

theorem mapM_len {ops : Array Oper} {f : Oper → Option AO} {l : List AO} (h : ops.toList.mapM f = some l) : l.length = ops.toList.length := by
  have key : ∀ (xs : List Oper) (l : List AO), xs.mapM f = some l → l.length = xs.length := by
    intro xs
    induction xs with
    | nil => intro l h; simp at h; subst h; rfl
    | cons y ys ih =>
      intro l hl
      rw [List.mapM_cons] at hl
      cases hy : f y with
      | none => rw [hy] at hl; cases hl
      | some z =>
        rw [hy] at hl
        cases hys : ys.mapM f with
        | none => rw [hys] at hl; cases hl
        | some zs =>
          rw [hys] at hl
          injection hl with hl
          subst hl
          simp [ih zs hys]
  exact key _ _ h
theorem plain_ok {ops : Array Oper} {ao : Nat → AO} (hao : ∀ (i : Nat) (o : Oper), ops[i]? = some o → compAO P n ops o = some (ao i)) {Q' : Env → List AB → Prop} {Q : Exit → Act → World → Prop} (hQ : ∀ e h a w, Q' e h → Rel F n gS hS wS e h a w → Q .normal a w) :
    ∀ (L : List Nat) (e : Env) (h : List AB) (a : Act) (w : World), (∀ i ∈ L, i < ops.size) → Rel F n gS hS wS e h a w → aregs (ACalls P) (L.map fun i => (ao i, [])) Q' e h → wpOpsIn (Wd rd) md P ops Q L a w
  | [], e, h, a, w, _, hr, H => hQ e h a w H hr
  | i :: L, e, h, a, w, hL, hr, H => by
    rw [wpOpsIn_cons]
    have hi := hL i List.mem_cons_self
    exact gstep_ok (Array.getElem?_eq_getElem hi) (hao i _ (Array.getElem?_eq_getElem hi)) hr (fun r h' a' w' hk hr' => plain_ok hao hQ L _ _ _ _ (fun j hj => hL j (List.mem_cons_of_mem _ hj)) hr' hk) H

theorem any_ok {ops : Array Oper} {ao : Nat → AO} (hao : ∀ (i : Nat) (o : Oper), ops[i]? = some o → compAO P n ops o = some (ao i)) {W : Nat → List Nat} {b : Array Nat} (hb : cloOK ops b = true) (S : Still ao W (fun i j => cloB b i j = true) ops.size)
    {Q' : Env → List AB → Prop} {Q : Exit → Act → World → Prop} (hQ : ∀ e h a w, Q' e h → Rel F n gS hS wS e h a w → Q .normal a w) :
    ∀ (fuel : Nat) (R : List Nat) (listed : Array Bool) (e : Env) (h : List AB) (a : Act) (w : World), R.length = fuel → listed.size = ops.size → (∀ j, j ∈ R ↔ j < ops.size ∧ listed.getD j false = false) → R.Pairwise (Pair ao W (fun i j => cloB b i j = true)) →
      (∀ k j, j < ops.size → listed.getD k false = true → cloB b k j = true → listed.getD j false = true) → Rel F n gS hS wS e h a w → arun (ACalls P) ao W R (fun k => listed.getD k false = true) Q' e h → wpAnyIn (Wd rd) md P .any ops Q fuel listed a w := by
  have hgt : ∀ (listed : Array Bool) (j : Nat), listed.size = ops.size → j < ops.size → listed.getD j true = listed.getD j false := fun listed j hs hj => by
    have : j < listed.size := by omega
    simp [this]
  simp only [cloOK, List.all_eq_true, List.mem_range, Bool.and_eq_true, Bool.not_eq_true'] at hb
  have hcl : ∀ (i : Nat) (o : Oper), ops[i]? = some o → cloB b i i = false ∧ (∀ x ∈ o.after, Region.binds .any x = true → x.on < ops.size ∧ cloB b i x.on = true) ∧ ∀ j, j < ops.size → cloB b i j = true → ∃ x ∈ o.after, Region.binds .any x = true ∧ (x.on = j ∨ cloB b x.on j = true) := fun i o ho => by
    have hi : i < ops.size := by
      rcases Nat.lt_or_ge i ops.size with h | h
      · exact h
      · rw [Array.getElem?_eq_none h] at ho; cases ho
    have := hb i hi
    rw [ho] at this
    simp only [List.all_eq_true, Bool.and_eq_true, Bool.or_eq_true, Bool.not_eq_true', decide_eq_true_eq, List.any_eq_true, beq_iff_eq, Array.mem_toList_iff, List.mem_range] at this
    refine ⟨this.1, fun x hx hbx => ?_, fun j hj hc => ?_⟩
    · rcases this.2.1 x hx with h | h
      · rw [hbx] at h; cases h
      · exact h
    · rcases this.2.2 j hj with h | h
      · rw [hc] at h; cases h
      · obtain ⟨x, hx, h1, h2⟩ := h
        exact ⟨x, hx, h1, h2⟩
  intro fuel
  induction fuel with
  | zero =>
    intro R listed e h a w hR hs hm hp hclo hr H
    obtain rfl := List.eq_nil_of_length_eq_zero hR
    refine ⟨?_, hQ e h a w H hr⟩
    rw [List.eq_nil_iff_forall_not_mem]
    intro j hj
    obtain ⟨h1, o, ho, _⟩ := mem_ready.1 hj
    have hjl : j < ops.size := by
      rcases Nat.lt_or_ge j ops.size with h | h
      · exact h
      · rw [Array.getElem?_eq_none h] at ho; cases ho
    have := (hm j).2 ⟨hjl, by rw [← hgt listed j hs hjl]; exact h1⟩
    cases this
  | succ fuel ih =>
    intro R listed e h a w hR hs hm hp hclo hr H
    refine ⟨fun hno => ?_, fun i hi => ?_⟩
    · cases R with
      | nil => simp at hR
      | cons i0 R =>
        have h0 := (hm i0).1 List.mem_cons_self
        have ho : ops[i0]? = some ops[i0] := Array.getElem?_eq_getElem h0.1
        have hc := hcl i0 _ ho
        have : i0 ∈ Region.ready .any ops listed := mem_ready.2 ⟨by rw [hgt listed i0 hs h0.1]; exact h0.2, _, ho, fun x hx hbx => by
          obtain ⟨h1, h2⟩ := hc.2.1 x hx hbx
          cases hl : listed.getD x.on false with
          | true => rfl
          | false =>
            rcases List.mem_cons.1 ((hm x.on).2 ⟨h1, hl⟩) with e1 | e1
            · rw [e1, hc.1] at h2; cases h2
            · exact ((List.pairwise_cons.1 hp).1 _ e1).2.1 h2 |>.elim⟩
        rw [hno] at this
        cases this
    · obtain ⟨h1, o, ho, hed⟩ := mem_ready.1 hi
      have hil : i < ops.size := by
        rcases Nat.lt_or_ge i ops.size with h | h
        · exact h
        · rw [Array.getElem?_eq_none h] at ho; cases ho
      have hiR := (hm i).2 ⟨hil, by rw [← hgt listed i hs hil]; exact h1⟩
      obtain ⟨pre, rest, rfl⟩ := List.append_of_mem hiR
      have hc := hcl i o ho
      rw [List.pairwise_append] at hp
      obtain ⟨p1, p2, p3⟩ := hp
      have preR : ∀ j ∈ pre, j < ops.size ∧ listed.getD j false = false := fun j hj => (hm j).1 (List.mem_append_left _ hj)
      have hij : ∀ j ∈ pre, ¬ cloB b i j = true := fun j hj hcj => by
        obtain ⟨x, hx, hbx, hxj⟩ := hc.2.2 j (preR j hj).1 hcj
        have hlx := hed x hx hbx
        have : listed.getD j false = true := by
          rcases hxj with rfl | hxj
          · exact hlx
          · exact hclo _ _ (preR j hj).1 hlx hxj
        rw [(preR j hj).2] at this
        cases this
      have hDN : ∀ k, listed.getD k false = true → k < ops.size := fun k hk => by
        rcases Nat.lt_or_ge k ops.size with h | h
        · exact h
        · have : listed.size ≤ k := by omega
          simp [Array.getElem?_eq_none this] at hk
      have G := pull (ACalls.mono P) S hil rest Q' pre (fun k => listed.getD k false = true) e h (fun j hj => (preR j hj).1) hDN p1 (fun j hj => ⟨p3 j hj i List.mem_cons_self, hij j hj⟩)
        (fun k hk j hj => ⟨fun hkj => (by have := hclo k j (preR j hj).1 hk hkj; rw [(preR j hj).2] at this; cases this), fun e1 => (by subst e1; rw [(preR k hj).2] at hk; cases hk)⟩) H
      refine gstep_ok ho (hao i o ho) hr (fun r h' a' w' hk hr' => ?_) G
      have getne : ∀ j, j ≠ i → (listed.setIfInBounds i true).getD j false = listed.getD j false := fun j hj => getD_set_ne false (Ne.symm hj)
      have geteq : (listed.setIfInBounds i true).getD i false = true := by
        have : i < listed.size := by omega
        simp [this]
      have hnd : i ∉ pre ++ rest := fun hmem => by
        rcases List.mem_append.1 hmem with h | h
        · exact (p3 i h i List.mem_cons_self).1 rfl
        · exact ((List.pairwise_cons.1 p2).1 i h).1 rfl
      refine ih (pre ++ rest) (listed.setIfInBounds i true) _ _ _ _ (by simp at hR ⊢; omega) (by simp [hs]) (fun j => ?_) ?_ (fun k j hjs hk hkj => ?_) hr' (arun_anti (ACalls.mono P) _ (fun k hk => ?_) hk.2)
      · by_cases e1 : j = i
        · subst e1
          rw [geteq]
          simp [hnd]
        · rw [getne j e1, ← hm j]
          simp [e1]
      · rw [List.pairwise_append]
        exact ⟨p1, (List.pairwise_cons.1 p2).2, fun x hx y hy => p3 x hx y (List.mem_cons_of_mem _ hy)⟩
      · by_cases e2 : j = i
        · subst e2; exact geteq
        · rw [getne j e2]
          by_cases e1 : k = i
          · subst e1
            obtain ⟨x, hx, hbx, hxj⟩ := hc.2.2 j hjs hkj
            have hlx := hed x hx hbx
            rcases hxj with rfl | hxj
            · exact hlx
            · exact hclo _ _ hjs hlx hxj
          · rw [getne k e1] at hk
            exact hclo k j hjs hk hkj
      · by_cases e1 : k = i
        · exact .inl e1
        · rw [getne k e1] at hk
          exact .inr hk
end
end Go.Proofs.Ytomkjfhepfinhaa
