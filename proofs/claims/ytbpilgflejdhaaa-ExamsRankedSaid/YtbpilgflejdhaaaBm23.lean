/- Regions, read over abstract values, in a real run: the order of a region that draws it counts for nothing / Regions that draw their order, with operations of which either may come first: all orders of those are read, one by one -/
import Derived.Test.YtbpilgflejdhaaaBm22

namespace Go.Proofs.Ytbpilgflejdhaaa
open Go.RowKit

def watp (C : CallP) (o : AO) (e : Env) (h : List AB) : Prop := match o.dst with
  | some d => gstep C o e h (fun v _ => v = e d)
  | none => True
theorem wat_of {C : CallP} {o : AO} {e : Env} {h : List AB} (H : watp C o e h) : wat C o e h := fun d hd => by
  unfold watp at H
  rw [hd] at H
  exact H
def wats (C : CallP) (ws : List AO) (e : Env) (h : List AB) (p : Prop) : Prop := match ws with
  | [] => p
  | o :: ws => watp C o e h ∧ wats C ws e h p
theorem wats_e {C : CallP} {e : Env} {h : List AB} {p : Prop} : ∀ {ws : List AO}, wats C ws e h p → (∀ o ∈ ws, watp C o e h) ∧ p
  | [], H => ⟨fun o ho => (by cases ho), H⟩
  | _ :: _, H => ⟨fun x hx => (by
      rcases List.mem_cons.1 hx with rfl | hx
      · exact H.1
      · exact (wats_e H.2).1 x hx), (wats_e H.2).2⟩
/-- The operations of a region, one behind another. -/
def aregs (C : CallP) (l : List (AO × List AO)) (Q : Env → List AB → Prop) (e : Env) (h : List AB) : Prop :=
  match l with
  | [] => Q e h
  | (o, ws) :: rest => gstep C o e h (fun r h' => wats C ws e h' (aregs C rest Q (e.put o.dst r) h'))
theorem arun_of {C : CallP} (hC : C.Mono) {ao : Nat → AO} {W : Nat → List Nat} {Q : Env → List AB → Prop} : ∀ (L : List Nat) (D : Nat → Prop) {e : Env} {h : List AB}, aregs C (L.map fun i => (ao i, (W i).map ao)) Q e h → arun C ao W L D Q e h
  | [], _, _, _, H => H
  | _ :: L, _, _, _, H => gstep_mono hC (fun _ _ hh => ⟨fun j hj _ => wat_of ((wats_e hh).1 _ (List.mem_map.2 ⟨j, hj, rfl⟩)), arun_of hC L _ (wats_e hh).2⟩) H

def cloB (b : Array Nat) (i j : Nat) : Bool := (b.getD i 0).testBit j
def cloOK (ops : Array Oper) (b : Array Nat) : Bool :=
  (List.range ops.size).all fun i => !cloB b i i && match ops[i]? with
    | some o => (o.after.toList.all fun x => !Region.binds .any x || (decide (x.on < ops.size) && cloB b i x.on)) &&
        (List.range ops.size).all fun j => !cloB b i j || o.after.toList.any fun x => Region.binds .any x && (x.on == j || cloB b x.on j)
    | none => false
def touchB (ao : Nat → AO) (k j : Nat) : Bool := match (ao j).dst with
  | none => false
  | some d => (ao k).looks.contains d || (ao k).dst == some d
def stillB (N : Nat) (ao : Nat → AO) (W : Nat → List Nat) (clo : Nat → Nat → Bool) : Bool :=
  (List.range N).all fun k => ((ao k).op.chg || (W k).isEmpty) && ((List.range N).all fun j => k == j || !touchB ao k j || clo k j || clo j k) &&
    (W k).all fun l => (List.range N).all fun j => match l == j with
      | true => (match (ao j).dst with
        | none => true
        | some d => !(ao j).looks.contains d)
      | false => clo l j || !touchB ao l j
def pairB (ao : Nat → AO) (W : Nat → List Nat) (clo : Nat → Nat → Bool) (j i : Nat) : Bool :=
  j != i && !clo j i && (!(ao j).op.chg || clo i j) && (!(ao i).op.chg || !(ao j).op.rds || clo i j || ((W i).contains j && (ao j).dst.isSome))
def pairsB (ao : Nat → AO) (W : Nat → List Nat) (clo : Nat → Nat → Bool) : List Nat → Bool
  | [] => true
  | j :: l => l.all (pairB ao W clo j) && pairsB ao W clo l
/-- A region's operations in the order of a hint (none: as they stand), each with the looks that it must not spoil. -/
abbrev Hint := List (Nat × List Nat)
def compReg (P : Program) (n : Nat) (ops : Array Oper) (hint : Option Hint) : Option (List (AO × List AO)) :=
  match ops.toList.mapM (compAO P n ops) with
  | none => none
  | some l => match hint with
    | some L => some (L.map fun p => (l.getD p.1 default, p.2.map fun j => l.getD j default))
    | none => some (l.map fun x => (x, []))
def watchOf (L : Hint) (i : Nat) : List Nat := match L.find? (·.1 == i) with
  | some p => p.2
  | none => []
def okReg (P : Program) (n : Nat) (ops : Array Oper) (draw : Bool) (hint : Option Hint) : Bool :=
  match draw, hint with
  | false, none => true
  | false, some _ => false
  | true, hint =>
    match ops.toList.mapM (compAO P n ops) with
    | none => false
    | some l =>
      let ao := fun i => l.getD i default
      let b := Region.before ops
      let H := hint.getD ((List.range ops.size).map fun i => (i, []))
      let L := H.map (·.1)
      let W := watchOf H
      cloOK ops b && L.length == ops.size && (List.range ops.size).all (L.contains ·) && L.all (decide <| · < ops.size) && (H.all fun p => p.2.all (decide <| · < ops.size)) && stillB ops.size ao W (cloB b) && pairsB ao W (cloB b) L

theorem touch_no {ao : Nat → AO} {k j d : Nat} (h : touchB ao k j = false) (hd : (ao j).dst = some d) : d ∉ (ao k).looks ∧ (ao k).dst ≠ some d := by
  unfold touchB at h
  rw [hd] at h
  simp only [Bool.or_eq_false_iff, List.contains_eq_mem, decide_eq_false_iff_not, beq_eq_false_iff_ne, ne_eq] at h
  exact h
theorem still_of {N : Nat} {ao : Nat → AO} {W : Nat → List Nat} {clo : Nat → Nat → Bool} (hW : ∀ i, ∀ k ∈ W i, k < N) (H : stillB N ao W clo = true) : Still ao W (fun i j => clo i j = true) N := by
  simp only [stillB, List.all_eq_true, List.mem_range, Bool.and_eq_true, Bool.or_eq_true, beq_iff_eq, Bool.not_eq_true'] at H
  refine ⟨fun k j hk hj hne hc hc' d hd => ?_, fun i k j hi hk hj hne hc d hd => ?_, fun i j hi hj d hd => ?_, fun j hj hc => ?_⟩
  · rcases (H k hk).1.2 j hj with ((h1 | h1) | h1) | h1
    · exact (hne h1).elim
    · exact touch_no h1 hd
    · exact (hc h1).elim
    · exact (hc' h1).elim
  · have := (H i hi).2 k hk j hj
    have hb : (k == j) = false := by simpa using hne
    rw [hb] at this
    simp only [Bool.or_eq_true, Bool.not_eq_true'] at this
    rcases this with h1 | h1
    · exact (hc h1).elim
    · exact touch_no h1 hd
  · have := (H i hi).2 j hj j (hW i j hj)
    have hb : (j == j) = true := by simp
    rw [hb] at this
    simp only [hd, Bool.not_eq_true'] at this
    simpa using this
  · rcases (H j hj).1.1 with h1 | h1
    · rw [hc] at h1; cases h1
    · simpa using h1
theorem pairs_of {ao : Nat → AO} {W : Nat → List Nat} {clo : Nat → Nat → Bool} : ∀ {L : List Nat}, pairsB ao W clo L = true → L.Pairwise (Pair ao W (fun i j => clo i j = true))
  | [], _ => List.Pairwise.nil
  | j :: L, H => by
    simp only [pairsB, Bool.and_eq_true, List.all_eq_true] at H
    refine List.Pairwise.cons (fun i hi => ?_) (pairs_of H.2)
    have := H.1 i hi
    simp only [pairB, Bool.and_eq_true, Bool.or_eq_true, bne_iff_ne, ne_eq, Bool.not_eq_true', List.contains_iff_mem] at this
    obtain ⟨⟨⟨h1, h2⟩, h3⟩, h4⟩ := this
    refine ⟨h1, by simp [h2], fun hc => ?_, fun hi hj hn => ?_⟩
    · rcases h3 with h3 | h3
      · rw [hc] at h3; cases h3
      · exact h3
    · rcases h4 with ((h4 | h4) | h4) | h4
      · rw [hi] at h4; cases h4
      · rw [hj] at h4; cases h4
      · exact (hn h4).elim
      · exact ⟨h4.1, fun e => by rw [e] at h4; simp at h4⟩

section
variable {rd : Option Nat} {md : Nat} {F : Nat → Prop} {P : Program} {n : Nat} {gS : GM} {hS : List AB} {wS : World}
theorem mapM_get {ops : Array Oper} {f : Oper → Option AO} {l : List AO} (h : ops.toList.mapM f = some l) : ∀ (i : Nat) (o : Oper), ops[i]? = some o → ∃ x, l[i]? = some x ∧ f o = some x := by
  have key : ∀ (xs : List Oper) (l : List AO), xs.mapM f = some l → ∀ (i : Nat) (o : Oper), xs[i]? = some o → ∃ x, l[i]? = some x ∧ f o = some x := by
    intro xs
    induction xs with
    | nil => intro l _ i o h; simp at h
    | cons y ys ih =>
      intro l hl i o hi
      rw [List.mapM_cons] at hl
      cases hy : f y with
      | none => rw [hy] at hl; cases hl
      | some z =>
        rw [hy] at hl
        cases hys : ys.mapM f with
        | none => rw [hys] at hl; cases hl
        | some zs =>
          rw [hys] at hl
          injection hl with hl
          subst hl
          cases i with
          | zero => simp at hi; subst hi; exact ⟨z, rfl, hy⟩
          | succ i => exact ih zs hys i o hi
  intro i o hi
  exact key ops.toList l h i o (by simpa using hi)

theorem mapM_len {ops : Array Oper} {f : Oper → Option AO} {l : List AO} (h : ops.toList.mapM f = some l) : l.length = ops.toList.length := by
  have key : ∀ (xs : List Oper) (l : List AO), xs.mapM f = some l → l.length = xs.length := by
    intro xs
    induction xs with
    | nil => intro l h; simp at h; subst h; rfl
    | cons y ys ih =>
      intro l hl
      rw [List.mapM_cons] at hl
      cases hy : f y with
      | none => rw [hy] at hl; cases hl
      | some z =>
        rw [hy] at hl
        cases hys : ys.mapM f with
        | none => rw [hys] at hl; cases hl
        | some zs =>
          rw [hys] at hl
          injection hl with hl
          subst hl
          simp [ih zs hys]
  exact key _ _ h
theorem plain_ok {ops : Array Oper} {ao : Nat → AO} (hao : ∀ (i : Nat) (o : Oper), ops[i]? = some o → compAO P n ops o = some (ao i)) {Q' : Env → List AB → Prop} {Q : Exit → Act → World → Prop} (hQ : ∀ e h a w, Q' e h → Rel F n gS hS wS e h a w → Q .normal a w) :
    ∀ (L : List Nat) (e : Env) (h : List AB) (a : Act) (w : World), (∀ i ∈ L, i < ops.size) → Rel F n gS hS wS e h a w → aregs (ACalls P) (L.map fun i => (ao i, [])) Q' e h → wpOpsIn (Wd rd) md P ops Q L a w
  | [], e, h, a, w, _, hr, H => hQ e h a w H hr
  | i :: L, e, h, a, w, hL, hr, H => by
    rw [wpOpsIn_cons]
    have hi := hL i List.mem_cons_self
    exact gstep_ok (Array.getElem?_eq_getElem hi) (hao i _ (Array.getElem?_eq_getElem hi)) hr (fun r h' a' w' hk hr' => plain_ok hao hQ L _ _ _ _ (fun j hj => hL j (List.mem_cons_of_mem _ hj)) hr' hk) H

theorem any_ok {ops : Array Oper} {ao : Nat → AO} (hao : ∀ (i : Nat) (o : Oper), ops[i]? = some o → compAO P n ops o = some (ao i)) {W : Nat → List Nat} {b : Array Nat} (hb : cloOK ops b = true) (S : Still ao W (fun i j => cloB b i j = true) ops.size)
    {Q' : Env → List AB → Prop} {Q : Exit → Act → World → Prop} (hQ : ∀ e h a w, Q' e h → Rel F n gS hS wS e h a w → Q .normal a w) :
    ∀ (fuel : Nat) (R : List Nat) (listed : Array Bool) (e : Env) (h : List AB) (a : Act) (w : World), R.length = fuel → listed.size = ops.size → (∀ j, j ∈ R ↔ j < ops.size ∧ listed.getD j false = false) → R.Pairwise (Pair ao W (fun i j => cloB b i j = true)) →
      (∀ k j, j < ops.size → listed.getD k false = true → cloB b k j = true → listed.getD j false = true) → Rel F n gS hS wS e h a w → arun (ACalls P) ao W R (fun k => listed.getD k false = true) Q' e h → wpAnyIn (Wd rd) md P .any ops Q fuel listed a w := by
  have hgt : ∀ (listed : Array Bool) (j : Nat), listed.size = ops.size → j < ops.size → listed.getD j true = listed.getD j false := fun listed j hs hj => by
    have : j < listed.size := by omega
    simp [this]
  simp only [cloOK, List.all_eq_true, List.mem_range, Bool.and_eq_true, Bool.not_eq_true'] at hb
  have hcl : ∀ (i : Nat) (o : Oper), ops[i]? = some o → cloB b i i = false ∧ (∀ x ∈ o.after, Region.binds .any x = true → x.on < ops.size ∧ cloB b i x.on = true) ∧ ∀ j, j < ops.size → cloB b i j = true → ∃ x ∈ o.after, Region.binds .any x = true ∧ (x.on = j ∨ cloB b x.on j = true) := fun i o ho => by
    have hi : i < ops.size := by
      rcases Nat.lt_or_ge i ops.size with h | h
      · exact h
      · rw [Array.getElem?_eq_none h] at ho; cases ho
    have := hb i hi
    rw [ho] at this
    simp only [List.all_eq_true, Bool.and_eq_true, Bool.or_eq_true, Bool.not_eq_true', decide_eq_true_eq, List.any_eq_true, beq_iff_eq, Array.mem_toList_iff, List.mem_range] at this
    refine ⟨this.1, fun x hx hbx => ?_, fun j hj hc => ?_⟩
    · rcases this.2.1 x hx with h | h
      · rw [hbx] at h; cases h
      · exact h
    · rcases this.2.2 j hj with h | h
      · rw [hc] at h; cases h
      · obtain ⟨x, hx, h1, h2⟩ := h
        exact ⟨x, hx, h1, h2⟩
  intro fuel
  induction fuel with
  | zero =>
    intro R listed e h a w hR hs hm hp hclo hr H
    obtain rfl := List.eq_nil_of_length_eq_zero hR
    refine ⟨?_, hQ e h a w H hr⟩
    rw [List.eq_nil_iff_forall_not_mem]
    intro j hj
    obtain ⟨h1, o, ho, _⟩ := mem_ready.1 hj
    have hjl : j < ops.size := by
      rcases Nat.lt_or_ge j ops.size with h | h
      · exact h
      · rw [Array.getElem?_eq_none h] at ho; cases ho
    have := (hm j).2 ⟨hjl, by rw [← hgt listed j hs hjl]; exact h1⟩
    cases this
  | succ fuel ih =>
    intro R listed e h a w hR hs hm hp hclo hr H
    refine ⟨fun hno => ?_, fun i hi => ?_⟩
    · cases R with
      | nil => simp at hR
      | cons i0 R =>
        have h0 := (hm i0).1 List.mem_cons_self
        have ho : ops[i0]? = some ops[i0] := Array.getElem?_eq_getElem h0.1
        have hc := hcl i0 _ ho
        have : i0 ∈ Region.ready .any ops listed := mem_ready.2 ⟨by rw [hgt listed i0 hs h0.1]; exact h0.2, _, ho, fun x hx hbx => by
          obtain ⟨h1, h2⟩ := hc.2.1 x hx hbx
          cases hl : listed.getD x.on false with
          | true => rfl
          | false =>
            rcases List.mem_cons.1 ((hm x.on).2 ⟨h1, hl⟩) with e1 | e1
            · rw [e1, hc.1] at h2; cases h2
            · exact ((List.pairwise_cons.1 hp).1 _ e1).2.1 h2 |>.elim⟩
        rw [hno] at this
        cases this
    · obtain ⟨h1, o, ho, hed⟩ := mem_ready.1 hi
      have hil : i < ops.size := by
        rcases Nat.lt_or_ge i ops.size with h | h
        · exact h
        · rw [Array.getElem?_eq_none h] at ho; cases ho
      have hiR := (hm i).2 ⟨hil, by rw [← hgt listed i hs hil]; exact h1⟩
      obtain ⟨pre, rest, rfl⟩ := List.append_of_mem hiR
      have hc := hcl i o ho
      rw [List.pairwise_append] at hp
      obtain ⟨p1, p2, p3⟩ := hp
      have preR : ∀ j ∈ pre, j < ops.size ∧ listed.getD j false = false := fun j hj => (hm j).1 (List.mem_append_left _ hj)
      have hij : ∀ j ∈ pre, ¬ cloB b i j = true := fun j hj hcj => by
        obtain ⟨x, hx, hbx, hxj⟩ := hc.2.2 j (preR j hj).1 hcj
        have hlx := hed x hx hbx
        have : listed.getD j false = true := by
          rcases hxj with rfl | hxj
          · exact hlx
          · exact hclo _ _ (preR j hj).1 hlx hxj
        rw [(preR j hj).2] at this
        cases this
      have hDN : ∀ k, listed.getD k false = true → k < ops.size := fun k hk => by
        rcases Nat.lt_or_ge k ops.size with h | h
        · exact h
        · have : listed.size ≤ k := by omega
          simp [Array.getElem?_eq_none this] at hk
      have G := pull (ACalls.mono P) S hil rest Q' pre (fun k => listed.getD k false = true) e h (fun j hj => (preR j hj).1) hDN p1 (fun j hj => ⟨p3 j hj i List.mem_cons_self, hij j hj⟩)
        (fun k hk j hj => ⟨fun hkj => (by have := hclo k j (preR j hj).1 hk hkj; rw [(preR j hj).2] at this; cases this), fun e1 => (by subst e1; rw [(preR k hj).2] at hk; cases hk)⟩) H
      refine gstep_ok ho (hao i o ho) hr (fun r h' a' w' hk hr' => ?_) G
      have getne : ∀ j, j ≠ i → (listed.setIfInBounds i true).getD j false = listed.getD j false := fun j hj => getD_set_ne false (Ne.symm hj)
      have geteq : (listed.setIfInBounds i true).getD i false = true := by
        have : i < listed.size := by omega
        simp [this]
      have hnd : i ∉ pre ++ rest := fun hmem => by
        rcases List.mem_append.1 hmem with h | h
        · exact (p3 i h i List.mem_cons_self).1 rfl
        · exact ((List.pairwise_cons.1 p2).1 i h).1 rfl
      refine ih (pre ++ rest) (listed.setIfInBounds i true) _ _ _ _ (by simp at hR ⊢; omega) (by simp [hs]) (fun j => ?_) ?_ (fun k j hjs hk hkj => ?_) hr' (arun_anti (ACalls.mono P) _ (fun k hk => ?_) hk.2)
      · by_cases e1 : j = i
        · subst e1
          rw [geteq]
          simp [hnd]
        · rw [getne j e1, ← hm j]
          simp [e1]
      · rw [List.pairwise_append]
        exact ⟨p1, (List.pairwise_cons.1 p2).2, fun x hx y hy => p3 x hx y (List.mem_cons_of_mem _ hy)⟩
      · by_cases e2 : j = i
        · subst e2; exact geteq
        · rw [getne j e2]
          by_cases e1 : k = i
          · subst e1
            obtain ⟨x, hx, hbx, hxj⟩ := hc.2.2 j hjs hkj
            have hlx := hed x hx hbx
            rcases hxj with rfl | hxj
            · exact hlx
            · exact hclo _ _ hjs hlx hxj
          · rw [getne k e1] at hk
            exact hclo k j hjs hk hkj
      · by_cases e1 : k = i
        · exact .inl e1
        · rw [getne k e1] at hk
          exact .inr hk
end
end Go.Proofs.Ytbpilgflejdhaaa

namespace Go.Proofs.Ytbpilgflejdhaaa
open Go.RowKit

/-- What may come next: one operation and the quiet ones behind it, then what may come next; or another one. -/
inductive HT where
  | leaf
  | alt (c : Nat) (qs : List Nat) (sub next : HT)
  deriving Inhabited
def HT.ops : HT → List Nat
  | .leaf => []
  | .alt c qs sub _ => c :: (qs ++ sub.ops)
def HT.heads : HT → List Nat
  | .leaf => []
  | .alt c _ _ next => c :: next.heads
structure THint where
  qs : List Nat
  t : HT
  w : Hint
  deriving Inhabited
def nodB : List Nat → Bool
  | [] => true
  | x :: xs => !xs.contains x && nodB xs
theorem nodB_ok : ∀ {l : List Nat}, nodB l = true ↔ l.Nodup
  | [] => by simp [nodB]
  | x :: xs => by simp [nodB, nodB_ok]
def sameB (a b : List Nat) : Bool := (a.all b.contains) && (b.all a.contains)
def covB (clo : Nat → Nat → Bool) (heads rem : List Nat) : Bool := rem.all fun i => heads.contains i || rem.any fun j => j != i && clo i j
def okAlt (ao : Nat → AO) (W : Nat → List Nat) (clo : Nat → Nat → Bool) (c : Nat) (qs : List Nat) (sub : HT) (acc rem : List Nat) : Bool :=
  sameB rem (c :: (qs ++ sub.ops)) && nodB (acc ++ (c :: (qs ++ sub.ops))) && (qs.all fun j => !(ao j).op.chg) && (acc.all fun j => pairB ao W clo j c && qs.all (pairB ao W clo j)) && pairsB ao W clo qs && covB clo sub.heads sub.ops && ((qs ++ sub.ops).all fun k => !clo c k)
def okT (ao : Nat → AO) (W : Nat → List Nat) (clo : Nat → Nat → Bool) : HT → List Nat → List Nat → Bool
  | .leaf, _, _ => true
  | .alt c qs sub next, acc, rem => okAlt ao W clo c qs sub acc rem && okT ao W clo sub (acc ++ qs) sub.ops && okT ao W clo next acc rem
def opsI (l : List AO) (W : Nat → List Nat) (L : List Nat) : List (AO × List AO) := L.map fun i => (l.getD i default, (W i).map fun j => l.getD j default)
def atree (C : CallP) (l : List AO) (W : Nat → List Nat) : HT → (Env → List AB → Prop) → Env → List AB → Prop
  | .leaf, Q, e, h => Q e h
  | .alt c qs sub .leaf, Q, e, h => aregs C (opsI l W (c :: qs)) (atree C l W sub Q) e h
  | .alt c qs sub (.alt c2 qs2 sub2 next2), Q, e, h => aregs C (opsI l W (c :: qs)) (atree C l W sub Q) e h ∧ atree C l W (.alt c2 qs2 sub2 next2) Q e h
/-- A region with its tree. -/
def aregT (C : CallP) (l : List AO) (T : THint) (Q : Env → List AB → Prop) (e : Env) (h : List AB) : Prop := aregs C (opsI l (watchOf T.w) T.qs) (atree C l (watchOf T.w) T.t Q) e h
def okRegT (P : Program) (n : Nat) (ops : Array Oper) (T : THint) : Bool :=
  match ops.toList.mapM (compAO P n ops) with
  | none => false
  | some l =>
    let ao := fun i => l.getD i default
    let b := Region.before ops
    let W := watchOf T.w
    cloOK ops b && stillB ops.size ao W (cloB b) && (T.w.all fun p => p.2.all (decide <| · < ops.size)) && sameB (T.qs ++ T.t.ops) (List.range ops.size) && nodB (T.qs ++ T.t.ops) && (T.qs.all fun j => !(ao j).op.chg) && pairsB ao W (cloB b) T.qs && covB (cloB b) T.t.heads T.t.ops && okT ao W (cloB b) T.t T.qs T.t.ops

section
variable {ao : Nat → AO} {W : Nat → List Nat} {clo : Nat → Nat → Bool}
theorem pair_of {j i : Nat} (h : pairB ao W clo j i = true) : Pair ao W (fun i j => clo i j = true) j i := by
  have : pairsB ao W clo [j, i] = true := by simp [pairsB, h]
  exact List.rel_of_pairwise_cons (pairs_of this) (by simp)
theorem okT_sub : ∀ {t : HT} {acc acc' rem : List Nat}, acc'.Sublist acc → okT ao W clo t acc rem = true → okT ao W clo t acc' rem = true
  | .leaf, _, _, _, _, _ => rfl
  | .alt c qs sub next, acc, acc', rem, hs, h => by
    simp only [okT, okAlt, Bool.and_eq_true] at h ⊢
    obtain ⟨⟨⟨⟨⟨⟨⟨⟨a1, a2⟩, a3⟩, a4⟩, a5⟩, a6⟩, a7⟩, a8⟩, a9⟩ := h
    refine ⟨⟨⟨⟨⟨⟨⟨⟨a1, ?_⟩, a3⟩, ?_⟩, a5⟩, a6⟩, a7⟩, okT_sub (hs.append_right qs) a8⟩, okT_sub hs a9⟩
    · rw [nodB_ok] at a2 ⊢
      exact a2.sublist (hs.append_right _)
    · rw [List.all_eq_true] at a4 ⊢
      exact fun j hj => a4 j (hs.subset hj)
theorem okT_pairs : ∀ {t : HT} {acc rem : List Nat}, okT ao W clo t acc rem = true → ∀ j ∈ acc, ∀ k ∈ t.ops, Pair ao W (fun i j => clo i j = true) j k
  | .leaf, _, _, _, _, _, _, hk => by cases hk
  | .alt c qs sub next, acc, rem, h, j, hj, k, hk => by
    simp only [okT, okAlt, Bool.and_eq_true] at h
    obtain ⟨⟨⟨⟨⟨⟨⟨⟨a1, a2⟩, a3⟩, a4⟩, a5⟩, a6⟩, a7⟩, a8⟩, a9⟩ := h
    rw [List.all_eq_true] at a4
    have := a4 j hj
    simp only [Bool.and_eq_true, List.all_eq_true] at this
    simp only [HT.ops, List.mem_cons, List.mem_append] at hk
    rcases hk with rfl | hk | hk
    · exact pair_of this.1
    · exact pair_of (this.2 k hk)
    · exact okT_pairs a8 j (List.mem_append_left _ hj) k hk
/-- One of the ways that a tree has. -/
theorem head_of {C : CallP} {l : List AO} {W' : Nat → List Nat} : ∀ {t : HT} {acc rem : List Nat} {i : Nat}, i ∈ t.heads → okT ao W clo t acc rem = true →
    ∃ qs sub, (∀ Q e h, atree C l W' t Q e h → aregs C (opsI l W' (i :: qs)) (atree C l W' sub Q) e h) ∧ okAlt ao W clo i qs sub acc rem = true ∧ okT ao W clo sub (acc ++ qs) sub.ops = true
  | .leaf, _, _, _, hi, _ => by cases hi
  | .alt c qs sub next, acc, rem, i, hi, h => by
    simp only [okT, Bool.and_eq_true] at h
    obtain ⟨⟨a1, a2⟩, a3⟩ := h
    rcases List.mem_cons.1 hi with rfl | hi
    · refine ⟨qs, sub, fun Q e h H => ?_, a1, a2⟩
      cases next with
      | leaf => exact H
      | alt => exact H.1
    · obtain ⟨qs', sub', k1, k2, k3⟩ := head_of (C := C) (l := l) (W' := W') hi a3
      refine ⟨qs', sub', fun Q e h H => ?_, k2, k3⟩
      cases next with
      | leaf => cases hi
      | alt => exact k1 Q e h H.2
end
section
variable {C : CallP} {ao : Nat → AO} {W : Nat → List Nat}
theorem arun_Q (hC : C.Mono) : ∀ (l : List Nat) {D : Nat → Prop} {Q Q' : Env → List AB → Prop} {e : Env} {h : List AB}, (∀ e h, Q e h → Q' e h) → arun C ao W l D Q e h → arun C ao W l D Q' e h
  | [], _, _, _, _, _, hq, H => hq _ _ H
  | _ :: rest, _, _, _, _, _, hq, H => gstep_mono hC (fun _ _ hh => ⟨hh.1, arun_Q hC rest hq hh.2⟩) H
theorem arun_app (hC : C.Mono) : ∀ (l1 l2 : List Nat) {D : Nat → Prop} {Q : Env → List AB → Prop} {e : Env} {h : List AB}, arun C ao W l1 D (fun e h => ∀ D, arun C ao W l2 D Q e h) e h → arun C ao W (l1 ++ l2) D Q e h
  | [], _, _, _, _, _, H => H _
  | _ :: l1, l2, _, _, _, _, H => gstep_mono hC (fun _ _ hh => ⟨hh.1, arun_app hC l1 l2 hh.2⟩) H
end
section
variable {rd : Option Nat} {md : Nat} {F : Nat → Prop} {P : Program} {n : Nat} {gS : GM} {hS : List AB} {wS : World}
theorem aregs_all {C : CallP} (hC : C.Mono) {l : List AO} {W : Nat → List Nat} {Q : Env → List AB → Prop} {L : List Nat} {e : Env} {h : List AB} (H : aregs C (opsI l W L) Q e h) : ∀ D, arun C (fun i => l.getD i default) W L D Q e h := fun D => arun_of hC L D H
theorem tree_ok {ops : Array Oper} {l : List AO} (hao : ∀ (i : Nat) (o : Oper), ops[i]? = some o → compAO P n ops o = some (l.getD i default)) {W : Nat → List Nat} {b : Array Nat} (hb : cloOK ops b = true) (S : Still (fun i => l.getD i default) W (fun i j => cloB b i j = true) ops.size)
    {Q' : Env → List AB → Prop} {Q : Exit → Act → World → Prop} (hQ : ∀ e h a w, Q' e h → Rel F n gS hS wS e h a w → Q .normal a w) :
    ∀ (fuel : Nat) (qs : List Nat) (t : HT) (listed : Array Bool) (e : Env) (h : List AB) (a : Act) (w : World), (qs ++ t.ops).length = fuel → listed.size = ops.size → (∀ j, j ∈ qs ++ t.ops ↔ j < ops.size ∧ listed.getD j false = false) → (qs ++ t.ops).Nodup →
      (∀ j ∈ qs, (l.getD j default).op.chg = false) → qs.Pairwise (Pair (fun i => l.getD i default) W (fun i j => cloB b i j = true)) → covB (cloB b) t.heads t.ops = true → okT (fun i => l.getD i default) W (cloB b) t qs t.ops = true →
      (∀ k j, j < ops.size → listed.getD k false = true → cloB b k j = true → listed.getD j false = true) → Rel F n gS hS wS e h a w → arun (ACalls P) (fun i => l.getD i default) W qs (fun k => listed.getD k false = true) (atree (ACalls P) l W t Q') e h → wpAnyIn (Wd rd) md P .any ops Q fuel listed a w := by
  have hgt : ∀ (listed : Array Bool) (j : Nat), listed.size = ops.size → j < ops.size → listed.getD j true = listed.getD j false := fun listed j hs hj => by
    have : j < listed.size := by omega
    simp [this]
  simp only [cloOK, List.all_eq_true, List.mem_range, Bool.and_eq_true, Bool.not_eq_true'] at hb
  have hcl : ∀ (i : Nat) (o : Oper), ops[i]? = some o → cloB b i i = false ∧ (∀ x ∈ o.after, Region.binds .any x = true → x.on < ops.size ∧ cloB b i x.on = true) ∧ ∀ j, j < ops.size → cloB b i j = true → ∃ x ∈ o.after, Region.binds .any x = true ∧ (x.on = j ∨ cloB b x.on j = true) := fun i o ho => by
    have hi : i < ops.size := by
      rcases Nat.lt_or_ge i ops.size with h | h
      · exact h
      · rw [Array.getElem?_eq_none h] at ho; cases ho
    have := hb i hi
    rw [ho] at this
    simp only [List.all_eq_true, Bool.and_eq_true, Bool.or_eq_true, Bool.not_eq_true', decide_eq_true_eq, List.any_eq_true, beq_iff_eq, Array.mem_toList_iff, List.mem_range] at this
    refine ⟨this.1, fun x hx hbx => ?_, fun j hj hc => ?_⟩
    · rcases this.2.1 x hx with h | h
      · rw [hbx] at h; cases h
      · exact h
    · rcases this.2.2 j hj with h | h
      · rw [hc] at h; cases h
      · obtain ⟨x, hx, h1, h2⟩ := h
        exact ⟨x, hx, h1, h2⟩
  intro fuel
  induction fuel with
  | zero =>
    intro qs t listed e h a w hR hs hm hnd hqq hp hcov hT hclo hr H
    have hnil := List.eq_nil_of_length_eq_zero hR
    obtain ⟨rfl, h2⟩ := List.append_eq_nil_iff.1 hnil
    cases t with
    | alt => simp [HT.ops] at h2
    | leaf =>
      refine ⟨?_, hQ e h a w H hr⟩
      rw [List.eq_nil_iff_forall_not_mem]
      intro j hj
      obtain ⟨h1, o, ho, _⟩ := mem_ready.1 hj
      have hjl : j < ops.size := by
        rcases Nat.lt_or_ge j ops.size with h | h
        · exact h
        · rw [Array.getElem?_eq_none h] at ho; cases ho
      have := (hm j).2 ⟨hjl, by rw [← hgt listed j hs hjl]; exact h1⟩
      cases this
  | succ fuel ih =>
    intro qs t listed e h a w hR hs hm hnd hqq hp hcov hT hclo hr H
    have rdy : ∀ i0, i0 ∈ qs ++ t.ops → (∀ k ∈ qs ++ t.ops, k ≠ i0 → cloB b i0 k ≠ true) → i0 ∈ Region.ready .any ops listed := fun i0 hi0 hfree => by
      have h0 := (hm i0).1 hi0
      have ho : ops[i0]? = some ops[i0] := Array.getElem?_eq_getElem h0.1
      have hc := hcl i0 _ ho
      refine mem_ready.2 ⟨by rw [hgt listed i0 hs h0.1]; exact h0.2, _, ho, fun x hx hbx => ?_⟩
      obtain ⟨h1, h2⟩ := hc.2.1 x hx hbx
      cases hl : listed.getD x.on false with
      | true => rfl
      | false =>
        have hmem := (hm x.on).2 ⟨h1, hl⟩
        by_cases e1 : x.on = i0
        · rw [e1, hc.1] at h2; cases h2
        · exact (hfree _ hmem e1 h2).elim
    refine ⟨fun hno => ?_, fun i hi => ?_⟩
    · cases qs with
      | cons i0 qs =>
        have := rdy i0 (by simp) (fun k hk hne hcl' => by
          simp only [List.cons_append, List.mem_cons, List.mem_append] at hk
          rcases hk with h | h | h
          · exact hne h
          · exact ((List.pairwise_cons.1 hp).1 _ h).2.1 hcl'
          · exact (okT_pairs hT i0 (by simp) k h).2.1 hcl')
        rw [hno] at this; cases this
      | nil =>
        cases t with
        | leaf => simp [HT.ops] at hR
        | alt c qs' sub next =>
          simp only [okT, okAlt, Bool.and_eq_true, List.all_eq_true, Bool.not_eq_true'] at hT
          have a7 := hT.1.1.2
          have := rdy c (by simp [HT.ops]) (fun k hk hne hcl' => by
            simp only [HT.ops, List.nil_append, List.mem_cons] at hk
            rcases hk with h | h
            · exact hne h
            · rw [a7 k h] at hcl'; cases hcl')
          rw [hno] at this; cases this
    · obtain ⟨h1, o, ho, hed⟩ := mem_ready.1 hi
      have hil : i < ops.size := by
        rcases Nat.lt_or_ge i ops.size with h | h
        · exact h
        · rw [Array.getElem?_eq_none h] at ho; cases ho
      have hiR := (hm i).2 ⟨hil, by rw [← hgt listed i hs hil]; exact h1⟩
      have hc := hcl i o ho
      have unl : ∀ j ∈ qs ++ t.ops, j < ops.size ∧ listed.getD j false = false := fun j hj => (hm j).1 hj
      have hij : ∀ j ∈ qs ++ t.ops, ¬ cloB b i j = true := fun j hj hcj => by
        obtain ⟨x, hx, hbx, hxj⟩ := hc.2.2 j (unl j hj).1 hcj
        have hlx := hed x hx hbx
        have : listed.getD j false = true := by
          rcases hxj with rfl | hxj
          · exact hlx
          · exact hclo _ _ (unl j hj).1 hlx hxj
        rw [(unl j hj).2] at this
        cases this
      have hDN : ∀ k, listed.getD k false = true → k < ops.size := fun k hk => by
        rcases Nat.lt_or_ge k ops.size with h | h
        · exact h
        · have : listed.size ≤ k := by omega
          simp [Array.getElem?_eq_none this] at hk
      have getne : ∀ j, j ≠ i → (listed.setIfInBounds i true).getD j false = listed.getD j false := fun j hj => getD_set_ne false (Ne.symm hj)
      have geteq : (listed.setIfInBounds i true).getD i false = true := by
        have : i < listed.size := by omega
        simp [this]
      have hDD : ∀ k, listed.getD k false = true → ∀ j ∈ qs, ¬ cloB b k j = true ∧ k ≠ j := fun k hk j hj => by
        have uj := unl j (List.mem_append_left _ hj)
        exact ⟨fun hkj => (by have := hclo k j uj.1 hk hkj; rw [uj.2] at this; cases this), fun e1 => (by subst e1; rw [uj.2] at hk; cases hk)⟩
      have clo' : ∀ k j, j < ops.size → (listed.setIfInBounds i true).getD k false = true → cloB b k j = true → (listed.setIfInBounds i true).getD j false = true := fun k j hjs hk hkj => by
        by_cases e2 : j = i
        · subst e2; exact geteq
        · rw [getne j e2]
          by_cases e1 : k = i
          · subst e1
            obtain ⟨x, hx, hbx, hxj⟩ := hc.2.2 j hjs hkj
            have hlx := hed x hx hbx
            rcases hxj with rfl | hxj
            · exact hlx
            · exact hclo _ _ hjs hlx hxj
          · rw [getne k e1] at hk
            exact hclo k j hjs hk hkj
      have anti : ∀ k, (listed.setIfInBounds i true).getD k false = true → k = i ∨ listed.getD k false = true := fun k hk => by
        by_cases e1 : k = i
        · exact .inl e1
        · rw [getne k e1] at hk
          exact .inr hk
      rcases List.mem_append.1 hiR with hq | ht
      · obtain ⟨pre, rest, rfl⟩ := List.append_of_mem hq
        rw [List.pairwise_append] at hp
        obtain ⟨p1, p2, p3⟩ := hp
        have G := pull (ACalls.mono P) S hil rest (atree (ACalls P) l W t Q') pre (fun k => listed.getD k false = true) e h (fun j hj => (unl j (by simp [hj])).1) hDN p1 (fun j hj => ⟨p3 j hj i List.mem_cons_self, hij j (by simp [hj])⟩)
          (fun k hk j hj => hDD k hk j (by simp [hj])) H
        have hni : i ∉ pre ++ rest ∧ i ∉ t.ops := by
          have := hnd
          simp only [List.append_assoc, List.cons_append, List.nodup_append, List.nodup_cons, List.mem_append, List.mem_cons, not_or] at this
          obtain ⟨_, ⟨⟨n1, n2⟩, _⟩, n3⟩ := this
          exact ⟨by simp only [List.mem_append, not_or]; exact ⟨fun hp => n3 i hp i (.inl rfl) rfl, n1⟩, n2⟩
        refine gstep_ok ho (hao i o ho) hr (fun r h' a' w' hk hr' => ?_) G
        refine ih (pre ++ rest) t (listed.setIfInBounds i true) _ _ _ _ (by simp at hR ⊢; omega) (by simp [hs]) (fun j => ?_) ?_ (fun j hj => hqq j ?_) ?_ hcov (okT_sub ?_ hT) clo' hr' (arun_anti (ACalls.mono P) _ anti hk.2)
        · by_cases e1 : j = i
          · subst e1
            rw [geteq]
            simp only [List.mem_append, not_or] at hni
            simp [hni]
          · rw [getne j e1, ← hm j]
            simp [e1]
        · refine hnd.sublist ?_
          exact ((List.Sublist.refl pre).append (List.sublist_cons_self i rest)).append_right t.ops
        · simp only [List.mem_append, List.mem_cons] at hj ⊢
          rcases hj with h | h
          · exact .inl h
          · exact .inr (.inr h)
        · rw [List.pairwise_append]
          exact ⟨p1, (List.pairwise_cons.1 p2).2, fun x hx y hy => p3 x hx y (List.mem_cons_of_mem _ hy)⟩
        · exact (List.Sublist.refl pre).append (List.sublist_cons_self i rest)
      · have hhead : i ∈ t.heads := by
          unfold covB at hcov
          rw [List.all_eq_true] at hcov
          have := hcov i ht
          simp only [Bool.or_eq_true, List.contains_iff_mem, List.any_eq_true, Bool.and_eq_true, bne_iff_ne, ne_eq] at this
          rcases this with h | ⟨j, hj, _, hc'⟩
          · exact h
          · exact (hij j (List.mem_append_right _ hj) hc').elim
        obtain ⟨qs', sub, k1, k2, k3⟩ := head_of (C := ACalls P) (l := l) (W' := W) hhead hT
        simp only [okAlt, Bool.and_eq_true] at k2
        obtain ⟨⟨⟨⟨⟨⟨a1, a2⟩, a3⟩, a4⟩, a5⟩, a6⟩, a7⟩ := k2
        have H2 : arun (ACalls P) (fun i => l.getD i default) W (qs ++ i :: qs') (fun k => listed.getD k false = true) (atree (ACalls P) l W sub Q') e h :=
          arun_app (ACalls.mono P) qs (i :: qs') (arun_Q (ACalls.mono P) qs (fun e h hh => aregs_all (ACalls.mono P) (k1 Q' e h hh)) H)
        have G := pull (ACalls.mono P) S hil qs' (atree (ACalls P) l W sub Q') qs (fun k => listed.getD k false = true) e h (fun j hj => (unl j (List.mem_append_left _ hj)).1) hDN hp (fun j hj => ⟨okT_pairs hT j hj i ht, hij j (List.mem_append_left _ hj)⟩)
          (fun k hk j hj => hDD k hk j hj) H2
        simp only [sameB, Bool.and_eq_true, List.all_eq_true, List.contains_iff_mem] at a1
        rw [nodB_ok] at a2
        have a2' := a2
        simp only [List.nodup_append, List.nodup_cons, List.mem_append, List.mem_cons, not_or] at a2'
        obtain ⟨_, ⟨⟨n1, n1'⟩, n4⟩, n3⟩ := a2'
        have hlen : (qs ++ t.ops).length = (qs ++ (i :: (qs' ++ sub.ops))).length := by
          have e1 : t.ops.length ≤ (i :: (qs' ++ sub.ops)).length := nodup_le (hnd.sublist (List.sublist_append_right _ _)) (fun x hx => a1.1 x hx)
          have e2 : (i :: (qs' ++ sub.ops)).length ≤ t.ops.length := nodup_le (a2.sublist (List.sublist_append_right _ _)) (fun x hx => a1.2 x hx)
          simp only [List.length_append] at e1 e2 ⊢
          omega
        have hpq : (qs ++ qs').Pairwise (Pair (fun i => l.getD i default) W (fun i j => cloB b i j = true)) := by
          rw [List.pairwise_append]
          refine ⟨hp, pairs_of a5, fun x hx y hy => ?_⟩
          rw [List.all_eq_true] at a4
          have := a4 x hx
          simp only [Bool.and_eq_true, List.all_eq_true] at this
          exact pair_of (this.2 y hy)
        refine gstep_ok ho (hao i o ho) hr (fun r h' a' w' hk hr' => ?_) G
        refine ih (qs ++ qs') sub (listed.setIfInBounds i true) _ _ _ _ (by rw [hR] at hlen; simp at hlen ⊢; omega) (by simp [hs]) (fun j => ?_) ?_ (fun j hj => ?_) hpq a6 k3 clo' hr' (arun_anti (ACalls.mono P) _ anti hk.2)
        · have hmem : j ∈ t.ops ↔ j = i ∨ j ∈ qs' ∨ j ∈ sub.ops := by
            constructor
            · intro h
              have := a1.1 j h
              simpa using this
            · intro h
              exact a1.2 j (by simpa using h)
          by_cases e1 : j = i
          · subst e1
            rw [geteq]
            have : j ∉ qs := fun h => n3 j h j (.inl rfl) rfl
            simp [this, n1, n1']
          · rw [getne j e1, ← hm j]
            simp only [List.mem_append, hmem, e1, false_or, or_assoc]
        · refine a2.sublist ?_
          rw [List.append_assoc]
          exact (List.Sublist.refl qs).append (List.sublist_cons_self i _)
        · rcases List.mem_append.1 hj with h | h
          · exact hqq j h
          · rw [List.all_eq_true] at a3
            simpa using a3 j h
end
end Go.Proofs.Ytbpilgflejdhaaa
