/- Exams: plain models of the program's functions / Exams: known, Range, Fewest, Grade. / Exams: Far, ready, span, Example. / Exams: the walks over Far, ready, Example. / Exams: the chapter's example, reckoned. / Exams: the walk over Example. / Exams: Next: what it computes. -/
import Derived.Test.YtbpilgflejdhaaaBm5
import Derived.Test.YtbpilgflejdhaaaBm8
import Derived.Test.YtbpilgflejdhaaaBm2

namespace Go.Proofs.Ytbpilgflejdhaaa
open Go.RowKit

/-- The error of known. -/
def knownE (p : Paper) (told : Bool) : Int := if validB p then (if told then (if (openM p).poss then 0 else 3) else 1) else 90
theorem knownE_ok {p : Paper} {t : Bool} (h : knownE p t = 0) : validB p = true ∧ t = true ∧ (openM p).poss = true := by
  unfold knownE at h
  cases h1 : validB p <;> cases h2 : t <;> cases h3 : (openM p).poss <;> simp [h1, h2, h3] at h ⊢
theorem knownE_err {p : Paper} {t : Bool} {c : Int} (h : knownE p t = c) (hc : c ≠ 0) : (validB p = false ∧ c = 90) ∨ (validB p = true ∧ t = false ∧ c = 1) ∨ (validB p = true ∧ t = true ∧ (openM p).poss = false ∧ c = 3) := by
  unfold knownE at h
  cases h1 : validB p <;> cases h2 : t <;> cases h3 : (openM p).poss <;> simp [h1, h2, h3] at h ⊢ <;> omega

def rangeM (p : Paper) : (Int × Int) × Int := if knownE p true = 0 then ((openM p).res, 0) else ((0, 0), knownE p true)
def fewestM (p : Paper) : Int × Int := if validB p then ((openM p).fewest, 0) else (0, 90)
/-- The places of the first k that are false. -/
def blameTo (l : List Bool) (k : Nat) : List Int := ((List.range k).filter (fun j => !l.getD j false)).map (fun j : Nat => (j : Int))
theorem blameTo_succ (l : List Bool) (k : Nat) : blameTo l (k + 1) = if l.getD k false then blameTo l k else blameTo l k ++ [(k : Int)] := by
  unfold blameTo
  rw [List.range_succ, List.filter_append, List.map_append]
  cases h : l.getD k false
  · simp only [List.filter_cons, List.filter_nil, h]; rfl
  · simp only [List.filter_cons, List.filter_nil, h]; simp
theorem blameTo_len (l : List Bool) (k : Nat) : (blameTo l k).length ≤ k := by
  unfold blameTo
  rw [List.length_map]
  exact Nat.le_trans (List.length_filter_le _ _) (by simp)
def blameM (p : Paper) : List Int × Int := if knownE p true = 0 then (blameTo (openM p).right p.judges.length, 0) else ([], knownE p true)
def gradeMod (p : Paper) : (Int × Int) × Int := if knownE p true = 0 then (((gradeP p.grades (openM p).res.1 : Nat), (gradeP p.grades (openM p).res.2 : Nat)), 0) else ((0, 0), knownE p true)
def addS (s o : Int × Int) : Int × Int := (min s.1 o.1, max s.2 o.2)
/-- The spans of item i from n0 on, k of them, added up. -/
def leftTo (S : Surv) (i : Nat) (n0 : Nat) : Nat → Int × Int
  | 0 => noSpan
  | k + 1 => addS (leftTo S i n0 k) (S.it i (n0 + k))
def widthM (s : Int × Int) : Int := max 0 (s.2 - s.1)
/-- What a mark leaves. -/
def markW (S : Surv) (i : Nat) (err mark : Int) : Int :=
  widthM (leftTo S i (max 0 (mark - err)).toNat (min 30 (mark + err) + 1 - max 0 (mark - err)).toNat)
/-- The greatest width over the first k marks. -/
def mostTo (S : Surv) (i : Nat) (err : Int) : Nat → Int
  | 0 => 0
  | k + 1 => max (mostTo S i err k) (markW S i err (-err + k))
def mostM (S : Surv) (i : Nat) (err : Int) : Int := mostTo S i err (31 + 2 * err).toNat
/-- The best of the first k items. -/
def bestTo (S : Surv) (err : Int) : Nat → Int × Int
  | 0 => (0, -1)
  | k + 1 => if (bestTo S err k).2 < 0 ∨ mostM S k err < (bestTo S err k).2 then ((k : Int), mostM S k err) else bestTo S err k
def nextM (p : Paper) (err : Int) : (Int × Int) × Int := if knownE p (wi err 0 5) = 0 then (bestTo (openM p) err p.items.length, 0) else ((0, 0), knownE p (wi err 0 5))

/-- Spans whose ends are small. -/
def SmallS (S : Surv) : Prop := ∀ i n, i < 4 → n < 31 → -1073741824 ≤ (S.it i n).1 ∧ (S.it i n).1 ≤ 1073741824 ∧ -1073741824 ≤ (S.it i n).2 ∧ (S.it i n).2 ≤ 1073741824
theorem leftTo_small {S : Surv} (h : SmallS S) {i : Nat} (hi : i < 4) (n0 : Nat) : ∀ k, n0 + k ≤ 31 → -1073741824 ≤ (leftTo S i n0 k).1 ∧ (leftTo S i n0 k).1 ≤ 1073741824 ∧ -1073741824 ≤ (leftTo S i n0 k).2 ∧ (leftTo S i n0 k).2 ≤ 1073741824 := by
  intro k
  induction k with
  | zero => intro _; simp [leftTo, noSpan]
  | succ k ih =>
    intro hk
    have h1 := ih (by omega)
    have h2 := h i (n0 + k) hi (by omega)
    simp only [leftTo, addS]
    omega
theorem widthM_bd {s : Int × Int} (h : -1073741824 ≤ s.1 ∧ s.1 ≤ 1073741824 ∧ -1073741824 ≤ s.2 ∧ s.2 ≤ 1073741824) : 0 ≤ widthM s ∧ widthM s ≤ 2147483648 := by
  unfold widthM; omega
theorem markW_bd {S : Surv} (h : SmallS S) {i : Nat} (hi : i < 4) {err mark : Int} (he : 0 ≤ err ∧ err ≤ 5) (h1 : -err ≤ mark) (h2 : mark ≤ 30 + err) : 0 ≤ markW S i err mark ∧ markW S i err mark ≤ 2147483648 :=
  widthM_bd (leftTo_small h hi _ _ (by omega))
theorem mostTo_bd {S : Surv} (h : SmallS S) {i : Nat} (hi : i < 4) {err : Int} (he : 0 ≤ err ∧ err ≤ 5) : ∀ k : Nat, (k : Int) ≤ 31 + 2 * err → 0 ≤ mostTo S i err k ∧ mostTo S i err k ≤ 2147483648 := by
  intro k
  induction k with
  | zero => intro _; simp [mostTo]
  | succ k ih =>
    intro hk
    have h1 := ih (by omega)
    have h2 := markW_bd h hi he (mark := -err + k) (by omega) (by omega)
    simp only [mostTo]
    omega
/-- The points of item i that some possible truth has, of the first k numbers. -/
def ptTo (S : Surv) (i : Nat) : Nat → Int × Int
  | 0 => noSpan
  | k + 1 => if (S.it i k).1 ≤ (S.it i k).2 then addS (ptTo S i k) ((k : Int), (k : Int)) else ptTo S i k
def ptsTo (S : Surv) (k : Nat) : List (Int × Int) := (List.range k).map (fun i => ptTo S i 31)
theorem ptsTo_succ (S : Surv) (k : Nat) : ptsTo S (k + 1) = ptsTo S k ++ [ptTo S k 31] := by
  unfold ptsTo; rw [List.range_succ, List.map_append]; rfl
theorem ptsTo_len (S : Surv) (k : Nat) : (ptsTo S k).length = k := by simp [ptsTo]
def pointsM (p : Paper) : List (Int × Int) × Int := if knownE p true = 0 then (ptsTo (openM p) p.items.length, 0) else ([], knownE p true)
theorem ptsTo_get (S : Surv) (k i : Nat) (hi : i < k) : (ptsTo S k).getD i (0, 0) = ptTo S i 31 := by
  unfold ptsTo
  simp [List.getD, hi]
end Go.Proofs.Ytbpilgflejdhaaa

namespace Go.Proofs.Ytbpilgflejdhaaa
open Go.RowKit

theorem box2 {w W : World} {cs cs' : Array Value} {T1 T2 : TypeId} (h : Ext ((w.alloc (.cells cs T1)).alloc (.cells cs' T2)) W) :
    (∀ i, W.cell? ⟨w.heap.size, i, none⟩ = cs[i]?) ∧ (∀ i, W.cell? ⟨w.heap.size + 1, i, none⟩ = cs'[i]?) ∧ (∀ i, W.frozen? ⟨w.heap.size, i, none⟩ = false) ∧ (∀ i, W.frozen? ⟨w.heap.size + 1, i, none⟩ = false) ∧ w.heap.size + 1 < W.heap.size := by
  refine ⟨fun i => h.unalloc.box i, fun i => ?_, fun i => h.unalloc.boxFree i, fun i => ?_, ?_⟩
  · have := h.box i; simpa using this
  · have := h.boxFree i; simpa using this
  · have := h.lt; simpa using this
set_option maxHeartbeats 1000000 in
theorem known_err (iA jA gA : Option Addr) (ic jc gc : Nat) (p : Paper) (t : Bool) (c : Int) (w : World) (h : PaperAt w iA jA gA p) (hk : knownE p t = c) (hc : c ≠ 0) :
    Calls Try.prog 47 #[.agg #[.slice iA p.items.length ic, .slice jA p.judges.length jc, .int .i64 p.wrong, .slice gA p.grades.length gc], .bool t] w fun e w' => e = .returned (.tuple #[.pointer none, .int .i64 c]) ∧ Ext w w' := by
  have HX := Lib.hid (Ext.of_alloc w (.cells #[.slice iA p.items.length ic, .slice jA p.judges.length jc, .int .i64 p.wrong, .slice gA p.grades.length gc] 26))
  have H := Lib.hid h
  clear h
  rcases knownE_err hk hc with ⟨hv, rfl⟩ | ⟨hv, rfl, rfl⟩ | ⟨hv, rfl, hp, rfl⟩
  · have HO := Lib.hid (open_err iA jA gA ic jc gc p _ (H.out.ext HX.out) (by simp [checkE, hv]))
    clear hk hc hv
    go_enter Try.func47, Try.ntmps47
    go_wp2_with fail
    refine HO.out.mono ?_
    rintro e w1 ⟨rfl, hE1⟩
    have HE1 := Lib.hid hE1
    clear hE1
    go_wp2
    go_ret2
    exact ⟨rfl, HX.out.trans HE1.out⟩
  · have HO := Lib.hid (open_ok iA jA gA ic jc gc p _ (H.out.ext HX.out) hv)
    clear hk hc hv
    go_enter Try.func47, Try.ntmps47
    go_wp2_with fail
    refine HO.out.mono ?_
    rintro e w1 ⟨B, M, R, rc, rfl, hS1, hE1⟩
    have HE1 := Lib.hid hE1
    clear hE1 hS1
    go_wp2
    go_ret2
    exact ⟨rfl, HX.out.trans HE1.out⟩
  · have HO := Lib.hid (open_ok iA jA gA ic jc gc p _ (H.out.ext HX.out) hv)
    have HP := Lib.hid hp
    clear hk hc hv hp
    go_enter Try.func47, Try.ntmps47
    go_wp2_with fail
    refine HO.out.mono ?_
    rintro e w1 ⟨B, M, R, rc, rfl, hS1, hE1⟩
    have HE1 := Lib.hid hE1
    obtain ⟨c0, c1, c2, c3, c4, c5, c6, c7, c8, c9⟩ := hS1.cell
    rw [HP.out] at c7
    have hB := hS1.ltB
    clear hE1 hS1
    go_wp2
    go_ret2
    exact ⟨rfl, HX.out.trans HE1.out⟩

set_option maxHeartbeats 1000000 in
theorem known_ok (iA jA gA : Option Addr) (ic jc gc : Nat) (p : Paper) (t : Bool) (w : World) (h : PaperAt w iA jA gA p) (hk : knownE p t = 0) :
    Calls Try.prog 47 #[.agg #[.slice iA p.items.length ic, .slice jA p.judges.length jc, .int .i64 p.wrong, .slice gA p.grades.length gc], .bool t] w fun e w' => ∃ B M R rc, e = .returned (.tuple #[.pointer (some ⟨B, 0, none⟩), .int .i64 0]) ∧ SurvAt w' ⟨B, M, R, rc, iA, jA, gA, ic, jc, gc⟩ p (openM p) ∧ Ext w w' := by
  have HX := Lib.hid (Ext.of_alloc w (.cells #[.slice iA p.items.length ic, .slice jA p.judges.length jc, .int .i64 p.wrong, .slice gA p.grades.length gc] 26))
  obtain ⟨hv, rfl, hp⟩ := knownE_ok hk
  have HO := Lib.hid (open_ok iA jA gA ic jc gc p _ (h.ext HX.out) hv)
  have HP := Lib.hid hp
  clear hk hv hp h
  go_enter Try.func47, Try.ntmps47
  go_wp2_with fail
  refine HO.out.mono ?_
  rintro e w1 ⟨B, M, R, rc, rfl, hS1, hE1⟩
  have HE1 := Lib.hid hE1
  have HS1 := Lib.hid hS1
  obtain ⟨c0, c1, c2, c3, c4, c5, c6, c7, c8, c9⟩ := hS1.cell
  rw [HP.out] at c7
  have hB := hS1.ltB
  clear hE1 hS1
  go_wp2
  go_ret2
  exact ⟨B, M, R, rc, rfl, HS1.out, HX.out.trans HE1.out⟩

set_option maxHeartbeats 1000000 in
theorem range_any (iA jA gA : Option Addr) (ic jc gc : Nat) (p : Paper) (lo hi c : Int) (w : World) (h : PaperAt w iA jA gA p) (hr : rangeM p = ((lo, hi), c)) :
    Calls Try.prog 19 #[.agg #[.slice iA p.items.length ic, .slice jA p.judges.length jc, .int .i64 p.wrong, .slice gA p.grades.length gc]] w fun e w' => e = .returned (.tuple #[.agg #[.int .i64 lo, .int .i64 hi], .int .i64 c]) ∧ Ext w w' := by
  have HX := Lib.hid ((Ext.of_alloc w (.cells #[.slice iA p.items.length ic, .slice jA p.judges.length jc, .int .i64 p.wrong, .slice gA p.grades.length gc] 26)).alloc (.cells #[.int .i64 0, .int .i64 0] 35))
  unfold rangeM at hr
  by_cases hk : knownE p true = 0
  · rw [if_pos hk] at hr
    have HO := Lib.hid (known_ok iA jA gA ic jc gc p true _ (h.ext HX.out) hk)
    injection hr with hr hc
    subst hc
    have HR := Lib.hid hr
    clear hk hr h
    go_enter Try.func19, Try.ntmps19
    go_wp2_with fail
    refine HO.out.mono ?_
    rintro e w1 ⟨B, M, R, rc, rfl, hS1, hE1⟩
    have HE1 := Lib.hid hE1
    obtain ⟨c0, c1, c2, c3, c4, c5, c6, c7, c8, c9⟩ := hS1.cell
    rw [HR.out] at c8 c9
    have hB := hS1.ltB
    obtain ⟨b1, b2, f1, f2, hlt⟩ := box2 hE1
    have HF := Lib.hid (show ∀ W, Below w.heap.size w1 W → Ext w W from fun W hb => Below.trans (HX.out.trans hE1) hb)
    clear hE1 hS1
    go_wp2
    refine bodyPost_ret (v := .tuple #[.agg #[.int .i64 lo, .int .i64 hi], .int .i64 0]) (by simp [results, Try.results19, go_sem, b2]) rfl ⟨rfl, HF.out _ ?_⟩
    exact ((Below.refl _ _).setCell (by simp) _).setCell (by simp) _
  · rw [if_neg hk] at hr
    have HO := Lib.hid (known_err iA jA gA ic jc gc p true _ _ (h.ext HX.out) rfl hk)
    injection hr with hr hc
    injection hr with h1 h2
    subst h1; subst h2
    rw [hc] at HO hk
    have hc0 : (c != 0) = true := by simpa using hk
    clear hk hc h
    go_enter Try.func19, Try.ntmps19
    go_wp2_with fail
    refine HO.out.mono ?_
    rintro e w1 ⟨rfl, hE1⟩
    have HE1 := Lib.hid hE1
    obtain ⟨b1, b2, f1, f2, hlt⟩ := box2 hE1
    have HF := Lib.hid (show ∀ W, Below w.heap.size w1 W → Ext w W from fun W hb => Below.trans (HX.out.trans hE1) hb)
    clear hE1
    go_wp2
    refine bodyPost_ret (v := .tuple #[.agg #[.int .i64 0, .int .i64 0], .int .i64 c]) (by simp [results, Try.results19, go_sem, b2]) rfl ⟨rfl, HF.out _ ?_⟩
    exact ((Below.refl _ _).setCell (by simp) _).setCell (by simp) _

set_option maxHeartbeats 1000000 in
theorem fewest_any (iA jA gA : Option Addr) (ic jc gc : Nat) (p : Paper) (n c : Int) (w : World) (h : PaperAt w iA jA gA p) (hr : fewestM p = (n, c)) :
    Calls Try.prog 24 #[.agg #[.slice iA p.items.length ic, .slice jA p.judges.length jc, .int .i64 p.wrong, .slice gA p.grades.length gc]] w fun e w' => e = .returned (.tuple #[.int .i64 n, .int .i64 c]) ∧ Ext w w' := by
  have HX := Lib.hid ((Ext.of_alloc w (.cells #[.slice iA p.items.length ic, .slice jA p.judges.length jc, .int .i64 p.wrong, .slice gA p.grades.length gc] 26)))
  unfold fewestM at hr
  cases hv : validB p
  · rw [hv] at hr
    injection hr with h1 h2
    subst h1; subst h2
    have HO := Lib.hid (open_err iA jA gA ic jc gc p _ (h.ext HX.out) (by simp [checkE, hv]))
    clear h hv
    go_enter Try.func24, Try.ntmps24
    go_wp2_with fail
    refine HO.out.mono ?_
    rintro e w1 ⟨rfl, hE1⟩
    have HE1 := Lib.hid hE1
    clear hE1
    go_wp2
    go_ret2
    exact ⟨rfl, HX.out.trans HE1.out⟩
  · rw [hv] at hr
    injection hr with h1 h2
    subst h2
    have HN := Lib.hid h1
    have HO := Lib.hid (open_ok iA jA gA ic jc gc p _ (h.ext HX.out) hv)
    clear h hv h1
    go_enter Try.func24, Try.ntmps24
    go_wp2_with fail
    refine HO.out.mono ?_
    rintro e w1 ⟨B, M, R, rc, rfl, hS1, hE1⟩
    have HE1 := Lib.hid hE1
    obtain ⟨c0, c1, c2, c3, c4, c5, c6, c7, c8, c9⟩ := hS1.cell
    rw [HN.out] at c6
    have hB := hS1.ltB
    clear hE1 hS1
    go_wp2
    go_ret2
    exact ⟨rfl, HX.out.trans HE1.out⟩
end Go.Proofs.Ytbpilgflejdhaaa

namespace Go.Proofs.Ytbpilgflejdhaaa
open Go.RowKit

theorem spanL_any (lo hi : Int) (w : World) : Calls Try.prog 21 #[.int .i64 lo, .int .i64 hi] w fun e w' => e = .returned (.agg #[.int .i64 lo, .int .i64 hi]) ∧ Ext w w' := by
  go_enter Try.func21, Try.ntmps21
  go_wp2
  refine bodyPost_ret (v := .agg #[.int .i64 lo, .int .i64 hi]) (by simp [results, Try.results21, go_sem]) rfl ⟨rfl, Ext.of_alloc _ _⟩

def farM (p : Paper) : Bool := decide (20 < p.items.length) || (decide (20 < p.judges.length) || (decide (20 < p.grades.length) || (p.judges.any (fun x => decide (20 < x.marks.length)) || (validB p && decide (3 < p.judges.length)))))
theorem farM_true {p : Paper} (h : 20 < p.items.length ∨ 20 < p.judges.length ∨ 20 < p.grades.length ∨ (∃ k, k < p.judges.length ∧ 20 < (p.judges.getD k default).marks.length) ∨ (validB p = true ∧ 3 < p.judges.length)) : farM p = true := by
  unfold farM
  rcases h with h | h | h | ⟨k, hk, h⟩ | ⟨h, h'⟩
  · simp [h]
  · simp [h]
  · simp [h]
  · have : p.judges.any (fun x => decide (20 < x.marks.length)) = true := by
      rw [List.any_eq_true]
      refine ⟨p.judges.getD k default, ?_, by simpa using h⟩
      rw [List.getD, List.getElem?_eq_getElem hk]
      exact List.getElem_mem hk
    simp [this]
  · simp [h, h']
theorem farM_false {p : Paper} (h1 : ¬ 20 < p.items.length) (h2 : ¬ 20 < p.judges.length) (h3 : ¬ 20 < p.grades.length) (h4 : ∀ k, k < p.judges.length → ¬ 20 < (p.judges.getD k default).marks.length) (h5 : validB p = true → ¬ 3 < p.judges.length) : farM p = false := by
  unfold farM
  have h6 : p.judges.any (fun x => decide (20 < x.marks.length)) = false := by
    rw [List.any_eq_false]
    intro x hx
    obtain ⟨k, hk, rfl⟩ := List.getElem_of_mem hx
    have := h4 k hk
    rw [List.getD, List.getElem?_eq_getElem hk] at this
    simpa using this
  have h7 : (validB p && decide (3 < p.judges.length)) = false := by
    cases hv : validB p
    · rfl
    · have := h5 hv; simp only [Bool.true_and, decide_eq_false_iff_not]; exact this
  rw [h6, h7]
  simp only [Bool.or_false, Bool.or_eq_false_iff, decide_eq_false_iff_not]
  exact ⟨h1, h2, h3⟩
end Go.Proofs.Ytbpilgflejdhaaa

namespace Go.Proofs.Ytbpilgflejdhaaa
open Go.RowKit

set_option maxHeartbeats 2000000 in
theorem far_any (iA jA gA : Option Addr) (ic jc gc : Nat) (p : Paper) (w : World) (h : PaperAt w iA jA gA p) :
    Calls Try.prog 13 #[.agg #[.slice iA p.items.length ic, .slice jA p.judges.length jc, .int .i64 p.wrong, .slice gA p.grades.length gc]] w fun e w' => e = .returned (.bool (farM p)) ∧ Ext w w' := by
  have HX := Lib.hid ((Ext.of_alloc w (.cells #[.slice iA p.items.length ic, .slice jA p.judges.length jc, .int .i64 p.wrong, .slice gA p.grades.length gc] 26)))
  have hil := h.il
  have hjl := h.jl
  have hgl := h.gl
  have HT := Lib.hid (farM_true (p := p))
  have HF := Lib.hid (farM_false (p := p))
  have HC := Lib.hid (fun W (e : Ext w W) => checkR_any iA jA gA ic jc gc p W (h.ext e))
  have HJ := Lib.hid (fun W (e : Ext w W) => (h.judges.ext e))
  generalize farM p = fm at *
  clear h
  by_cases h1 : 20 < p.items.length
  · have h1' : (20 : Int) < p.items.length := by omega
    go_enter Try.func13, Try.ntmps13
    go_wp2
    go_ret
    exact ⟨ret_bool (HT.out (.inl h1)).symm, HX.out⟩
  · have h1' : (p.items.length : Int) ≤ 20 := by omega
    by_cases h2 : 20 < p.judges.length
    · have h2' : (20 : Int) < p.judges.length := by omega
      go_enter Try.func13, Try.ntmps13
      go_wp2
      go_ret
      exact ⟨ret_bool (HT.out (.inr (.inl h2))).symm, HX.out⟩
    · have h2' : (p.judges.length : Int) ≤ 20 := by omega
      by_cases h3 : 20 < p.grades.length
      · have h3' : (20 : Int) < p.grades.length := by omega
        go_enter Try.func13, Try.ntmps13
        go_wp2
        go_ret
        exact ⟨ret_bool (HT.out (.inr (.inr (.inl h3)))).symm, HX.out⟩
      · have h3' : (p.grades.length : Int) ≤ 20 := by omega
        go_enter Try.func13, Try.ntmps13
        go_wp2_with fail
        go_loop [3] (fun cn => ∃ k : Nat, k ≤ p.judges.length ∧ cn = .int .i64 k ∧ ∀ j, j < k → ¬ 20 < (p.judges.getD j default).marks.length) (fun cn => p.judges.length - (intOf cn).toNat)
        case atStart => exact ⟨0, by omega, rfl, fun j h => by omega⟩
        case round =>
          obtain ⟨k, hk, rfl, hs⟩ := hrel
          have HS := Lib.hid hs
          clear hs
          by_cases hlt : k < p.judges.length
          · obtain ⟨b, off, lo, hi, err, ma, mA, mc, rfl, hb, hc1, hc2, hc3, hc4, hma, hml, hx⟩ := (HJ.out _ HX.out).get hlt
            clear hma
            by_cases hm : 20 < ma.length
            · have hm' : (20 : Int) < ma.length := by omega
              go_wp2
              go_ret
              exact ⟨ret_bool (HT.out (.inr (.inr (.inr (.inl ⟨k, hlt, by rw [hx.out]; exact hm⟩))))).symm, HX.out⟩
            · have hm' : (ma.length : Int) ≤ 20 := by omega
              go_wp2
              go_round
              case rel => exact ⟨k + 1, by omega, by go_num, fun j hj => by
                by_cases e : j = k
                · rw [e, hx.out]; exact hm
                · exact HS.out j (by omega)⟩
              case measure => simp [intOf]; omega
          · obtain rfl : k = p.judges.length := by omega
            cases hv : validB p
            · have HV := Lib.hid hv
              have HCk := Lib.hid (HC.out _ HX.out)
              rw [show checkE p = 90 by simp [checkE, hv]] at HCk
              clear hv
              go_wp2_with fail
              refine HCk.out.mono ?_
              rintro e w1 ⟨rfl, hE1⟩
              have hbox := hE1.box
              have HE1 := Lib.hid (HX.out.trans hE1)
              clear hE1
              go_wp2
              go_ret
              exact ⟨ret_bool (HF.out h1 h2 h3 HS.out (by rw [HV.out]; intro h; cases h)).symm, HE1.out⟩
            · have HV := Lib.hid hv
              have HCk := Lib.hid (HC.out _ HX.out)
              rw [show checkE p = 0 by simp [checkE, hv]] at HCk
              clear hv
              by_cases h5 : 3 < p.judges.length
              · have h5' : (3 : Int) < p.judges.length := by omega
                go_wp2_with fail
                refine HCk.out.mono ?_
                rintro e w1 ⟨rfl, hE1⟩
                have hbox := hE1.box
                have HE1 := Lib.hid (HX.out.trans hE1)
                clear hE1
                go_wp2
                go_ret
                exact ⟨ret_bool (HT.out (.inr (.inr (.inr (.inr ⟨HV.out, h5⟩))))).symm, HE1.out⟩
              · have h5' : (p.judges.length : Int) ≤ 3 := by omega
                go_wp2_with fail
                refine HCk.out.mono ?_
                rintro e w1 ⟨rfl, hE1⟩
                have hbox := hE1.box
                have HE1 := Lib.hid (HX.out.trans hE1)
                clear hE1
                go_wp2
                go_ret
                exact ⟨ret_bool ((decide_eq_false (by omega)).trans (HF.out h1 h2 h3 HS.out (fun _ => h5)).symm), HE1.out⟩

def readyM (p : Paper) : Bool := !farM p && validB p
set_option maxHeartbeats 1000000 in
theorem ready_any (iA jA gA : Option Addr) (ic jc gc : Nat) (p : Paper) (w : World) (h : PaperAt w iA jA gA p) :
    Calls Try.prog 18 #[.agg #[.slice iA p.items.length ic, .slice jA p.judges.length jc, .int .i64 p.wrong, .slice gA p.grades.length gc]] w fun e w' => e = .returned (.bool (readyM p)) ∧ Ext w w' := by
  have HX := Lib.hid ((Ext.of_alloc w (.cells #[.slice iA p.items.length ic, .slice jA p.judges.length jc, .int .i64 p.wrong, .slice gA p.grades.length gc] 26)))
  have HFa := Lib.hid (far_any iA jA gA ic jc gc p _ (h.ext HX.out))
  have HC := Lib.hid (fun W (e : Ext w W) => checkR_any iA jA gA ic jc gc p W (h.ext e))
  have HR := Lib.hid (show readyM p = (!farM p && validB p) from rfl)
  generalize readyM p = rm at *
  clear h
  cases hf : farM p
  · rw [hf] at HFa HR
    clear hf
    cases hv : validB p
    · rw [hv] at HR
      have HCk := HC.out
      rw [show checkE p = 90 by simp [checkE, hv]] at HCk
      have HCk := Lib.hid HCk
      clear hv
      go_enter Try.func18, Try.ntmps18
      go_wp2_with fail
      refine HFa.out.mono ?_
      rintro e w1 ⟨rfl, hE1⟩
      have hbox := hE1.box
      have HE1 := Lib.hid (HX.out.trans hE1)
      clear hE1
      go_wp2_with fail
      refine (HCk.out _ HE1.out).mono ?_
      rintro e w2 ⟨rfl, hE2⟩
      have HE2 := Lib.hid (HE1.out.trans hE2)
      clear hE2
      go_wp2
      go_ret
      exact ⟨ret_bool HR.out.symm, HE2.out⟩
    · rw [hv] at HR
      have HCk := HC.out
      rw [show checkE p = 0 by simp [checkE, hv]] at HCk
      have HCk := Lib.hid HCk
      clear hv
      go_enter Try.func18, Try.ntmps18
      go_wp2_with fail
      refine HFa.out.mono ?_
      rintro e w1 ⟨rfl, hE1⟩
      have hbox := hE1.box
      have HE1 := Lib.hid (HX.out.trans hE1)
      clear hE1
      go_wp2_with fail
      refine (HCk.out _ HE1.out).mono ?_
      rintro e w2 ⟨rfl, hE2⟩
      have HE2 := Lib.hid (HE1.out.trans hE2)
      clear hE2
      go_wp2
      go_ret
      exact ⟨ret_bool HR.out.symm, HE2.out⟩
  · rw [hf] at HFa HR
    clear hf
    go_enter Try.func18, Try.ntmps18
    go_wp2_with fail
    refine HFa.out.mono ?_
    rintro e w1 ⟨rfl, hE1⟩
    have hbox := hE1.box
    have HE1 := Lib.hid (HX.out.trans hE1)
    clear hE1
    go_wp2
    go_ret
    exact ⟨ret_bool HR.out.symm, HE1.out⟩
end Go.Proofs.Ytbpilgflejdhaaa

namespace Go.Proofs.Ytbpilgflejdhaaa
open Go.RowKit
def exP : Paper := ⟨[⟨2, 10⟩, ⟨1, 20⟩], [⟨0, 1, 1, [7, 15]⟩, ⟨-1, 0, 0, [6, 13]⟩, ⟨0, 0, 1, [3, 14]⟩], 1, [20, 30]⟩
set_option maxRecDepth 100000 in
theorem ex_range : rangeM exP = ((25, 28), 0) := by decide +kernel
set_option maxRecDepth 100000 in
theorem ex_blame : blameM exP = ([2], 0) := by decide +kernel
set_option maxRecDepth 100000 in
theorem ex_known : knownE exP (wi 1 0 5) = 0 := by decide +kernel
set_option maxRecDepth 100000 in
theorem ex_next : bestTo (openM exP) 1 exP.items.length = (0, 3) := by decide +kernel
end Go.Proofs.Ytbpilgflejdhaaa

namespace Go.Proofs.Ytbpilgflejdhaaa
open Go.RowKit
set_option maxHeartbeats 2000000 in
theorem example_any (w : World) :
    Calls Try.prog 46 #[] w fun e w' => ∃ iA jA gA ic jc gc, e = .returned (.agg #[.slice iA exP.items.length ic, .slice jA exP.judges.length jc, .int .i64 exP.wrong, .slice gA exP.grades.length gc]) ∧ PaperAt w' iA jA gA exP ∧ Ext w w' := by
  go_enter Try.func46, Try.ntmps46
  go_wp2_with fail
  refine (spanL_any _ _ _).mono ?_
  rintro e w1 ⟨rfl, hE1⟩
  have HE1 := Lib.hid hE1
  have hlt := hE1.unalloc.unalloc.lt
  have h0 : ∀ i, w1.cell? ⟨w.heap.size, i, none⟩ = #[Value.slice none 0 0, Value.slice none 0 0, Value.int IntKind.i64 0, Value.slice none 0 0][i]? := hE1.unalloc.unalloc.box
  have f0 : ∀ i, w1.frozen? ⟨w.heap.size, i, none⟩ = false := hE1.unalloc.unalloc.boxFree
  clear hE1
  go_wp2_with fail
  refine (spanL_any _ _ _).mono ?_
  rintro e w2 ⟨rfl, hE2⟩
  have HE2 := Lib.hid hE2
  have hlt2 : w.heap.size < w2.heap.size := Nat.lt_of_lt_of_le hlt hE2.unalloc.size
  have h0' : ∀ i, w2.cell? ⟨w.heap.size, i, none⟩ = #[Value.slice none 0 0, Value.slice none 0 0, Value.int IntKind.i64 0, Value.slice none 0 0][i]? := fun i => (hE2.unalloc.cellOf (p := ⟨_, _, none⟩) hlt).trans (h0 i)
  have f0' : ∀ i, w2.frozen? ⟨w.heap.size, i, none⟩ = false := fun i => (Below.frozen hE2.unalloc (p := ⟨_, _, none⟩) hlt).trans (f0 i)
  have q0 : w2.cell? ⟨w.heap.size, 0, none⟩ = some (.slice none 0 0) := h0' 0
  have q1 : w2.cell? ⟨w.heap.size, 1, none⟩ = some (.slice none 0 0) := h0' 1
  have q2 : w2.cell? ⟨w.heap.size, 2, none⟩ = some (.int .i64 0) := h0' 2
  have q3 : w2.cell? ⟨w.heap.size, 3, none⟩ = some (.slice none 0 0) := h0' 3
  have hEW : Ext w2 ((((w2.alloc (.cells #[.int .i64 6, .int .i64 13] 3)).alloc (.cells #[.int .i64 3, .int .i64 14] 3)).alloc (.cells #[.int .i64 0, .int .i64 1, .int .i64 1, .slice (some ⟨w1.heap.size, 0, none⟩) 2 2, .int .i64 (-1), .int .i64 0, .int .i64 0, .slice (some ⟨w2.heap.size, 0, none⟩) 2 2, .int .i64 0, .int .i64 0, .int .i64 1, .slice (some ⟨w2.heap.size + 1, 0, none⟩) 2 2] 37))) := ((Ext.of_alloc _ _).alloc _).alloc _
  have p0 := (hEW.cellOf (p := ⟨w.heap.size, 0, none⟩) hlt2).trans q0
  have p1 := (hEW.cellOf (p := ⟨w.heap.size, 1, none⟩) hlt2).trans q1
  have p2 := (hEW.cellOf (p := ⟨w.heap.size, 2, none⟩) hlt2).trans q2
  have p3 := (hEW.cellOf (p := ⟨w.heap.size, 3, none⟩) hlt2).trans q3
  have g0 := (Below.frozen hEW (p := ⟨w.heap.size, 0, none⟩) hlt2).trans (f0' 0)
  have g1 := (Below.frozen hEW (p := ⟨w.heap.size, 1, none⟩) hlt2).trans (f0' 1)
  have g2 := (Below.frozen hEW (p := ⟨w.heap.size, 2, none⟩) hlt2).trans (f0' 2)
  have g3 := (Below.frozen hEW (p := ⟨w.heap.size, 3, none⟩) hlt2).trans (f0' 3)
  clear hE2 h0 f0 h0' hEW q0 q1 q2 q3 f0'
  go_wp2
  have n1 : w.heap.size + 1 + 1 < w1.heap.size := by have := HE1.out.lt; simpa using this
  have n2 : w1.heap.size < w2.heap.size := HE2.out.lt
  have k0 := (((((((Blk.new w 26 #[.slice none 0 0, .slice none 0 0, .int .i64 0, .slice none 0 0]).ext HE1.out.unalloc.unalloc).ext HE2.out.unalloc).alloc (.cells #[.int .i64 6, .int .i64 13] 3)).alloc (.cells #[.int .i64 3, .int .i64 14] 3)).alloc (.cells #[.int .i64 0, .int .i64 1, .int .i64 1, .slice (some ⟨w1.heap.size, 0, none⟩) 2 2, .int .i64 (-1), .int .i64 0, .int .i64 0, .slice (some ⟨w2.heap.size, 0, none⟩) 2 2, .int .i64 0, .int .i64 0, .int .i64 1, .slice (some ⟨w2.heap.size + 1, 0, none⟩) 2 2] 37)))
  have k1 : Blk w2 (w.heap.size + 1) 90 #[.int .i64 2, .int .i64 10, .int .i64 1, .int .i64 20] := ((blk_second w (.cells #[.slice none 0 0, .slice none 0 0, .int .i64 0, .slice none 0 0] 26) #[.int .i64 2, .int .i64 10, .int .i64 1, .int .i64 20] 90).ext HE1.out.unalloc).ext HE2.out.unalloc
  have k2 : Blk w2 (w.heap.size + 1 + 1) 3 #[.int .i64 20, .int .i64 30] := by
    have := blk_second (w.alloc (.cells #[.slice none 0 0, .slice none 0 0, .int .i64 0, .slice none 0 0] 26)) (.cells #[.int .i64 2, .int .i64 10, .int .i64 1, .int .i64 20] 90) #[.int .i64 20, .int .i64 30] 3
    exact (by simpa using this : Blk _ _ _ _).ext HE1.out |>.ext HE2.out.unalloc
  have k3 : Blk w2 w1.heap.size 3 #[.int .i64 7, .int .i64 15] := (Blk.new w1 3 #[.int .i64 7, .int .i64 15]).ext HE2.out
  have k4 := ((Blk.new w2 3 #[.int .i64 6, .int .i64 13]).alloc (.cells #[.int .i64 3, .int .i64 14] 3)).alloc (.cells #[.int .i64 0, .int .i64 1, .int .i64 1, .slice (some ⟨w1.heap.size, 0, none⟩) 2 2, .int .i64 (-1), .int .i64 0, .int .i64 0, .slice (some ⟨w2.heap.size, 0, none⟩) 2 2, .int .i64 0, .int .i64 0, .int .i64 1, .slice (some ⟨w2.heap.size + 1, 0, none⟩) 2 2] 37)
  have k5 := (blk_second w2 (.cells #[.int .i64 6, .int .i64 13] 3) #[.int .i64 3, .int .i64 14] 3).alloc (.cells #[.int .i64 0, .int .i64 1, .int .i64 1, .slice (some ⟨w1.heap.size, 0, none⟩) 2 2, .int .i64 (-1), .int .i64 0, .int .i64 0, .slice (some ⟨w2.heap.size, 0, none⟩) 2 2, .int .i64 0, .int .i64 0, .int .i64 1, .slice (some ⟨w2.heap.size + 1, 0, none⟩) 2 2] 37)
  have k6 := blk_second (w2.alloc (.cells #[.int .i64 6, .int .i64 13] 3)) (.cells #[.int .i64 3, .int .i64 14] 3) #[.int .i64 0, .int .i64 1, .int .i64 1, .slice (some ⟨w1.heap.size, 0, none⟩) 2 2, .int .i64 (-1), .int .i64 0, .int .i64 0, .slice (some ⟨w2.heap.size, 0, none⟩) 2 2, .int .i64 0, .int .i64 0, .int .i64 1, .slice (some ⟨w2.heap.size + 1, 0, none⟩) 2 2] 37
  have hAl : Ext w2 (((w2.alloc (.cells #[.int .i64 6, .int .i64 13] 3)).alloc (.cells #[.int .i64 3, .int .i64 14] 3)).alloc (.cells #[.int .i64 0, .int .i64 1, .int .i64 1, .slice (some ⟨w1.heap.size, 0, none⟩) 2 2, .int .i64 (-1), .int .i64 0, .int .i64 0, .slice (some ⟨w2.heap.size, 0, none⟩) 2 2, .int .i64 0, .int .i64 0, .int .i64 1, .slice (some ⟨w2.heap.size + 1, 0, none⟩) 2 2] 37)) := ((Ext.of_alloc _ _).alloc _).alloc _
  rw [show (w2.alloc (.cells #[.int .i64 6, .int .i64 13] 3)).heap.size = w2.heap.size + 1 by simp] at k6
  have k1 := k1.ext hAl
  have k2 := k2.ext hAl
  have k3 := k3.ext hAl
  generalize (((w2.alloc (.cells #[.int .i64 6, .int .i64 13] 3)).alloc (.cells #[.int .i64 3, .int .i64 14] 3)).alloc (.cells #[.int .i64 0, .int .i64 1, .int .i64 1, .slice (some ⟨w1.heap.size, 0, none⟩) 2 2, .int .i64 (-1), .int .i64 0, .int .i64 0, .slice (some ⟨w2.heap.size, 0, none⟩) 2 2, .int .i64 0, .int .i64 0, .int .i64 1, .slice (some ⟨w2.heap.size + 1, 0, none⟩) 2 2] 37)) = w3 at *
  have r0 := (((k0.set 0 (.slice (some ⟨w.heap.size + 1, 0, none⟩) 2 2)).set 1 (.slice (some ⟨w2.heap.size + 1 + 1, 0, none⟩) 3 3)).set 2 (.int .i64 1)).set 3 (.slice (some ⟨w.heap.size + 1 + 1, 0, none⟩) 2 2)
  have hfar : ∀ g T cs, Blk w3 g T cs → g ≠ w.heap.size → Blk ((((w3.setCell ⟨w.heap.size, 0, none⟩ (.slice (some ⟨w.heap.size + 1, 0, none⟩) 2 2)).setCell ⟨w.heap.size, 1, none⟩ (.slice (some ⟨w2.heap.size + 1 + 1, 0, none⟩) 3 3)).setCell ⟨w.heap.size, 2, none⟩ (.int .i64 1)).setCell ⟨w.heap.size, 3, none⟩ (.slice (some ⟨w.heap.size + 1 + 1, 0, none⟩) 2 2)) g T cs :=
    fun g T cs hb hg => (((hb.far (p := ⟨_, _, none⟩) hg _).far (p := ⟨_, _, none⟩) hg _).far (p := ⟨_, _, none⟩) hg _).far (p := ⟨_, _, none⟩) hg _
  have k1 := hfar _ _ _ k1 (by omega)
  have k2 := hfar _ _ _ k2 (by omega)
  have k3 := hfar _ _ _ k3 (by omega)
  have k4 := hfar _ _ _ k4 (by omega)
  have k5 := hfar _ _ _ k5 (by omega)
  have k6 := hfar _ _ _ k6 (by omega)
  have hE3 : Ext w ((((w3.setCell ⟨w.heap.size, 0, none⟩ (.slice (some ⟨w.heap.size + 1, 0, none⟩) 2 2)).setCell ⟨w.heap.size, 1, none⟩ (.slice (some ⟨w2.heap.size + 1 + 1, 0, none⟩) 3 3)).setCell ⟨w.heap.size, 2, none⟩ (.int .i64 1)).setCell ⟨w.heap.size, 3, none⟩ (.slice (some ⟨w.heap.size + 1 + 1, 0, none⟩) 2 2)) :=
    ((((HE1.out.unalloc.unalloc.unalloc.trans (HE2.out.unalloc.trans hAl)).setCell (p := ⟨_, _, none⟩) (Nat.le_refl _) _).setCell (p := ⟨_, _, none⟩) (Nat.le_refl _) _).setCell (p := ⟨_, _, none⟩) (Nat.le_refl _) _).setCell (p := ⟨_, _, none⟩) (Nat.le_refl _) _
  generalize ((((w3.setCell ⟨w.heap.size, 0, none⟩ (.slice (some ⟨w.heap.size + 1, 0, none⟩) 2 2)).setCell ⟨w.heap.size, 1, none⟩ (.slice (some ⟨w2.heap.size + 1 + 1, 0, none⟩) 3 3)).setCell ⟨w.heap.size, 2, none⟩ (.int .i64 1)).setCell ⟨w.heap.size, 3, none⟩ (.slice (some ⟨w.heap.size + 1 + 1, 0, none⟩) 2 2)) = w4 at *
  have c0 : w4.cell? ⟨w.heap.size, 0, none⟩ = some (.slice (some ⟨w.heap.size + 1, 0, none⟩) 2 2) := r0.cell 0
  have c1 : w4.cell? ⟨w.heap.size, 1, none⟩ = some (.slice (some ⟨w2.heap.size + 1 + 1, 0, none⟩) 3 3) := r0.cell 1
  have c2 : w4.cell? ⟨w.heap.size, 2, none⟩ = some (.int .i64 1) := r0.cell 2
  have c3 : w4.cell? ⟨w.heap.size, 3, none⟩ = some (.slice (some ⟨w.heap.size + 1 + 1, 0, none⟩) 2 2) := r0.cell 3
  have hI : ∀ b x y, Blk w4 b 3 #[.int .i64 x, .int .i64 y] → Ints w4 (some ⟨b, 0, none⟩) [x, y] := fun b x y hb k hk => by
    rcases (show k = 0 ∨ k = 1 by simp at hk; omega) with rfl | rfl
    · exact ⟨b, 0, rfl, hb.lt, hb.cell _⟩
    · exact ⟨b, 0, rfl, hb.lt, hb.cell _⟩
  refine bodyPost_ret (v := .agg #[.slice (some ⟨w.heap.size + 1, 0, none⟩) 2 2, .slice (some ⟨w2.heap.size + 1 + 1, 0, none⟩) 3 3, .int .i64 1, .slice (some ⟨w.heap.size + 1 + 1, 0, none⟩) 2 2]) (by simp [results, Try.results46, go_sem, c0, c1, c2, c3]) rfl ⟨_, _, _, _, _, _, rfl, ⟨?_, ?_, hI _ _ _ k2, by simp [exP], by simp [exP], by simp [exP]⟩, hE3⟩
  · intro k hk
    rcases (show k = 0 ∨ k = 1 by simp [exP] at hk; omega) with rfl | rfl
    · exact ⟨_, 0, rfl, k1.lt, k1.cell _, k1.cell _⟩
    · exact ⟨_, 0, rfl, k1.lt, k1.cell _, k1.cell _⟩
  · intro k hk
    rcases (show k = 0 ∨ k = 1 ∨ k = 2 by simp [exP] at hk; omega) with rfl | rfl | rfl
    · exact ⟨_, 0, rfl, k6.lt, k6.cell _, k6.cell _, k6.cell _, _, _, k6.cell _, hI _ _ _ k3, by decide⟩
    · exact ⟨_, 0, rfl, k6.lt, k6.cell _, k6.cell _, k6.cell _, _, _, k6.cell _, hI _ _ _ k4, by decide⟩
    · exact ⟨_, 0, rfl, k6.lt, k6.cell _, k6.cell _, k6.cell _, _, _, k6.cell _, hI _ _ _ k5, by decide⟩
end Go.Proofs.Ytbpilgflejdhaaa

namespace Go.Proofs.Ytbpilgflejdhaaa
open Go.RowKit
end Go.Proofs.Ytbpilgflejdhaaa
