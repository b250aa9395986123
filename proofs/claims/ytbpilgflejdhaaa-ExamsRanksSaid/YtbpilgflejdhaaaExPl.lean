/- Exams: plain models of the program's functions. No program in sight. -/
import Derived.Test.YtbpilgflejdhaaaExQ
namespace Go.Proofs.Ytbpilgflejdhaaa
open Go.RowKit

/-- The error of known. -/
def knownE (p : Paper) (told : Bool) : Int := if validB p then (if told then (if (openM p).poss then 0 else 3) else 1) else 90
theorem knownE_ok {p : Paper} {t : Bool} (h : knownE p t = 0) : validB p = true ∧ t = true ∧ (openM p).poss = true := by
  unfold knownE at h
  cases h1 : validB p <;> cases h2 : t <;> cases h3 : (openM p).poss <;> simp [h1, h2, h3] at h ⊢
theorem knownE_err {p : Paper} {t : Bool} {c : Int} (h : knownE p t = c) (hc : c ≠ 0) : (validB p = false ∧ c = 90) ∨ (validB p = true ∧ t = false ∧ c = 1) ∨ (validB p = true ∧ t = true ∧ (openM p).poss = false ∧ c = 3) := by
  unfold knownE at h
  cases h1 : validB p <;> cases h2 : t <;> cases h3 : (openM p).poss <;> simp [h1, h2, h3] at h ⊢ <;> omega

def rangeM (p : Paper) : (Int × Int) × Int := if knownE p true = 0 then ((openM p).res, 0) else ((0, 0), knownE p true)
def fewestM (p : Paper) : Int × Int := if validB p then ((openM p).fewest, 0) else (0, 90)
/-- The places of the first k that are false. -/
def blameTo (l : List Bool) (k : Nat) : List Int := ((List.range k).filter (fun j => !l.getD j false)).map (fun j : Nat => (j : Int))
theorem blameTo_succ (l : List Bool) (k : Nat) : blameTo l (k + 1) = if l.getD k false then blameTo l k else blameTo l k ++ [(k : Int)] := by
  unfold blameTo
  rw [List.range_succ, List.filter_append, List.map_append]
  cases h : l.getD k false
  · simp only [List.filter_cons, List.filter_nil, h]; rfl
  · simp only [List.filter_cons, List.filter_nil, h]; simp
theorem blameTo_len (l : List Bool) (k : Nat) : (blameTo l k).length ≤ k := by
  unfold blameTo
  rw [List.length_map]
  exact Nat.le_trans (List.length_filter_le _ _) (by simp)
def blameM (p : Paper) : List Int × Int := if knownE p true = 0 then (blameTo (openM p).right p.judges.length, 0) else ([], knownE p true)
def gradeMod (p : Paper) : (Int × Int) × Int := if knownE p true = 0 then (((gradeP p.grades (openM p).res.1 : Nat), (gradeP p.grades (openM p).res.2 : Nat)), 0) else ((0, 0), knownE p true)
def addS (s o : Int × Int) : Int × Int := (min s.1 o.1, max s.2 o.2)
/-- The spans of item i from n0 on, k of them, added up. -/
def leftTo (S : Surv) (i : Nat) (n0 : Nat) : Nat → Int × Int
  | 0 => noSpan
  | k + 1 => addS (leftTo S i n0 k) (S.it i (n0 + k))
def widthM (s : Int × Int) : Int := max 0 (s.2 - s.1)
/-- What a mark leaves. -/
def markW (S : Surv) (i : Nat) (err mark : Int) : Int :=
  widthM (leftTo S i (max 0 (mark - err)).toNat (min 30 (mark + err) + 1 - max 0 (mark - err)).toNat)
/-- The greatest width over the first k marks. -/
def mostTo (S : Surv) (i : Nat) (err : Int) : Nat → Int
  | 0 => 0
  | k + 1 => max (mostTo S i err k) (markW S i err (-err + k))
def mostM (S : Surv) (i : Nat) (err : Int) : Int := mostTo S i err (31 + 2 * err).toNat
/-- The best of the first k items. -/
def bestTo (S : Surv) (err : Int) : Nat → Int × Int
  | 0 => (0, -1)
  | k + 1 => if (bestTo S err k).2 < 0 ∨ mostM S k err < (bestTo S err k).2 then ((k : Int), mostM S k err) else bestTo S err k
def nextM (p : Paper) (err : Int) : (Int × Int) × Int := if knownE p (wi err 0 5) = 0 then (bestTo (openM p) err p.items.length, 0) else ((0, 0), knownE p (wi err 0 5))

/-- Spans whose ends are small. -/
def SmallS (S : Surv) : Prop := ∀ i n, i < 4 → n < 31 → -1073741824 ≤ (S.it i n).1 ∧ (S.it i n).1 ≤ 1073741824 ∧ -1073741824 ≤ (S.it i n).2 ∧ (S.it i n).2 ≤ 1073741824
theorem leftTo_small {S : Surv} (h : SmallS S) {i : Nat} (hi : i < 4) (n0 : Nat) : ∀ k, n0 + k ≤ 31 → -1073741824 ≤ (leftTo S i n0 k).1 ∧ (leftTo S i n0 k).1 ≤ 1073741824 ∧ -1073741824 ≤ (leftTo S i n0 k).2 ∧ (leftTo S i n0 k).2 ≤ 1073741824 := by
  intro k
  induction k with
  | zero => intro _; simp [leftTo, noSpan]
  | succ k ih =>
    intro hk
    have h1 := ih (by omega)
    have h2 := h i (n0 + k) hi (by omega)
    simp only [leftTo, addS]
    omega
theorem widthM_bd {s : Int × Int} (h : -1073741824 ≤ s.1 ∧ s.1 ≤ 1073741824 ∧ -1073741824 ≤ s.2 ∧ s.2 ≤ 1073741824) : 0 ≤ widthM s ∧ widthM s ≤ 2147483648 := by
  unfold widthM; omega
theorem markW_bd {S : Surv} (h : SmallS S) {i : Nat} (hi : i < 4) {err mark : Int} (he : 0 ≤ err ∧ err ≤ 5) (h1 : -err ≤ mark) (h2 : mark ≤ 30 + err) : 0 ≤ markW S i err mark ∧ markW S i err mark ≤ 2147483648 :=
  widthM_bd (leftTo_small h hi _ _ (by omega))
theorem mostTo_bd {S : Surv} (h : SmallS S) {i : Nat} (hi : i < 4) {err : Int} (he : 0 ≤ err ∧ err ≤ 5) : ∀ k : Nat, (k : Int) ≤ 31 + 2 * err → 0 ≤ mostTo S i err k ∧ mostTo S i err k ≤ 2147483648 := by
  intro k
  induction k with
  | zero => intro _; simp [mostTo]
  | succ k ih =>
    intro hk
    have h1 := ih (by omega)
    have h2 := markW_bd h hi he (mark := -err + k) (by omega) (by omega)
    simp only [mostTo]
    omega
/-- The points of item i that some possible truth has, of the first k numbers. -/
def ptTo (S : Surv) (i : Nat) : Nat → Int × Int
  | 0 => noSpan
  | k + 1 => if (S.it i k).1 ≤ (S.it i k).2 then addS (ptTo S i k) ((k : Int), (k : Int)) else ptTo S i k
def ptsTo (S : Surv) (k : Nat) : List (Int × Int) := (List.range k).map (fun i => ptTo S i 31)
theorem ptsTo_succ (S : Surv) (k : Nat) : ptsTo S (k + 1) = ptsTo S k ++ [ptTo S k 31] := by
  unfold ptsTo; rw [List.range_succ, List.map_append]; rfl
theorem ptsTo_len (S : Surv) (k : Nat) : (ptsTo S k).length = k := by simp [ptsTo]
def pointsM (p : Paper) : List (Int × Int) × Int := if knownE p true = 0 then (ptsTo (openM p) p.items.length, 0) else ([], knownE p true)
theorem ptsTo_get (S : Surv) (k i : Nat) (hi : i < k) : (ptsTo S k).getD i (0, 0) = ptTo S i 31 := by
  unfold ptsTo
  simp [List.getD, hi]
end Go.Proofs.Ytbpilgflejdhaaa
