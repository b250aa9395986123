/- Exams: the survey's grade; what end does. -/
import Derived.Test.YtbpilgflejdhaaaExJ
namespace Go.Proofs.Ytbpilgflejdhaaa
open Go.RowKit

def gradeP (l : List Int) (r : Int) : Nat := (l.takeWhile (fun g => decide (g ≤ r))).length
theorem gradeP_eq {l : List Int} {r : Int} {k : Nat} (hk : k ≤ l.length) (h : ∀ j, j < k → l.getD j 0 ≤ r) (he : k = l.length ∨ ¬ l.getD k 0 ≤ r) : gradeP l r = k := by
  unfold gradeP
  induction l generalizing k with
  | nil => simp at hk; simp [hk]
  | cons a l ih =>
    cases k with
    | zero =>
      have h1 : ¬ a ≤ r := by
        rcases he with he | he
        · simp at he
        · simpa using he
      simp [h1]
    | succ k =>
      have h0 : a ≤ r := by simpa using h 0 (by omega)
      simp only [List.takeWhile_cons, h0, decide_true, if_true, List.length_cons]
      rw [ih (k := k) (by simpa using hk) (fun j hj => by simpa using h (j + 1) (by omega)) (by simpa using he)]

set_option maxHeartbeats 1000000 in
theorem gradeS_any (L : Loc) (p : Paper) (S : Surv) (r : Int) (W : World) (h : SurvAt W L p S) (hg : Ints W L.gA p.grades) (hl : p.grades.length ≤ 5) :
    Calls Try.prog 57 #[.pointer (some ⟨L.B, 0, none⟩), .int .i64 r] W fun e W' => e = .returned (.int .i64 (gradeP p.grades r)) ∧ W = W' := by
  obtain ⟨_, _, _, c3, _⟩ := h.cell
  have HG := Lib.hid (fun k => gradeP_eq (l := p.grades) (r := r) (k := k))
  generalize gradeP p.grades r = gp at *
  generalize p.grades = G at *
  obtain ⟨B, M, R, rc, iA, jA, gA, ic, jc, gc⟩ := L
  simp only at *
  clear h
  go_enter Try.func57, Try.ntmps57
  go_wp2
  go_loop [5] (fun n => ∃ k : Nat, k ≤ G.length ∧ n = .int .i64 k ∧ ∀ j, j < k → G.getD j 0 ≤ r) (fun n => G.length - (intOf n).toNat)
  case atStart => exact ⟨0, by omega, rfl, fun j hj => by omega⟩
  case round =>
    obtain ⟨k, hk, rfl, hs⟩ := hrel
    have HS := Lib.hid hs
    clear hs
    by_cases hlt : k < G.length
    · obtain ⟨b, off, x, rfl, hb, hc, hx⟩ := hg.get hlt
      by_cases hr : x ≤ r
      · have HR := Lib.hid (show G.getD k 0 ≤ r by rw [hx.out]; exact hr)
        go_wp2
        go_round
        case rel =>
          refine ⟨k + 1, by omega, by go_num, fun j hj => ?_⟩
          by_cases e : j = k
          · rw [e]; exact HR.out
          · exact HS.out j (by omega)
        case measure => simp [intOf]; omega
      · have HR := Lib.hid (show ¬ G.getD k 0 ≤ r by rw [hx.out]; exact hr)
        go_wp2
        go_ret
        exact ⟨ret_int (by rw [HG.out k hk HS.out (.inr HR.out)]), rfl⟩
    · go_wp2
      go_ret
      exact ⟨ret_int (by rw [HG.out k hk HS.out (.inl (by omega))]), rfl⟩

def okSpan (s : Int × Int) : Bool := decide (s.1 ≤ s.2)
def wrongN (bs : List (Int × Int)) (k : Nat) : Nat := (bs.take k).countP (fun s => !okSpan s)
theorem wrongN_succ (bs : List (Int × Int)) (k : Nat) (h : k < bs.length) : wrongN bs (k + 1) = wrongN bs k + if (bs.getD k (0, 0)).1 ≤ (bs.getD k (0, 0)).2 then 0 else 1 := by
  unfold wrongN
  rw [List.take_succ_eq_append_getElem h, List.countP_append]
  simp [List.countP_cons, h, okSpan]
  split <;> split <;> omega
theorem wrongN_le (bs : List (Int × Int)) (k : Nat) : wrongN bs k ≤ k := by
  unfold wrongN
  have := List.countP_le_length (p := fun s => !okSpan s) (l := bs.take k)
  have := List.length_take_le k bs
  omega
def addSpan (s : Int × Int) (x : Int) : Int × Int := (min s.1 x, max s.2 x)
/-- The first k items' spans, with a result. -/
def itTo (t : List Int) (r : Int) : Nat → (Nat → Nat → Int × Int) → (Nat → Nat → Int × Int)
  | 0, f => f
  | k + 1, f => setIt (itTo t r k f) k (t.getD k 0).toNat (addSpan (itTo t r k f k (t.getD k 0).toNat) r)
/-- The first k judges who are right. -/
def rightTo (bs : List (Int × Int)) : Nat → List Bool → List Bool
  | 0, l => l
  | k + 1, l => (rightTo bs k l).set k ((rightTo bs k l).getD k false || okSpan (bs.getD k (0, 0)))
theorem rightTo_length (bs : List (Int × Int)) (k : Nat) (l : List Bool) : (rightTo bs k l).length = l.length := by
  induction k with
  | zero => rfl
  | succ k ih => simp [rightTo, ih]

/-- What end does with a survey. -/
def endM (p : Paper) (t : List Int) (r : Int) (bs : List (Int × Int)) (S : Surv) : Surv :=
  let S1 := { S with fewest := min S.fewest (wrongN bs bs.length) }
  if p.wrong < wrongN bs bs.length then S1
  else { S1 with poss := true, res := addSpan S.res r, it := itTo t r p.items.length S.it, right := rightTo bs bs.length S.right, shown := putS S.shown (gradeP p.grades r) t }
end Go.Proofs.Ytbpilgflejdhaaa
