/- Exams: papers over abstract values. / Exams: the reference's Copy, with an own row of judges (printed by gen_exqb.py). / Exams: what ExamsMore calls. / Exams: the law ExamsMore, over what it calls. / Exams: the contracts of the first walks in the abstract reading. / Exams: what Range says of a paper with one more judge, and of an eased one (plain). / Exams: ExamsMore. / Exams: how papers, lists of papers and eases read. -/
import Derived.Test.YtbpilgflejdhaaaBm29
import Derived.Test.YtbpilgflejdhaaaBm1
import Derived.Test.YtbpilgflejdhaaaProg
import Derived.KernelRfl
import Derived.Test.YtbpilgflejdhaaaBm11
import Derived.Test.YtbpilgflejdhaaaBm9
set_option linter.unusedSimpArgs false
set_option linter.unusedVariables false
namespace Go.Proofs.Ytbpilgflejdhaaa
open Go.RowKit

theorem mixed : Try.prog.follows .mixedOrders = true := by kernel_rfl
abbrev AI (n : Int) : AV := .int .i64 n
abbrev nilS : AV := .sl true true 0 0 (fun _ _ => .bot)
abbrev aInts (z e : Bool) (l : List Int) : AV := .sl z e l.length 1 (fun k _ => AI (l.getD k 0))
abbrev cItem (x : Item) : Nat → AV := ofL [AI x.weight, AI x.most]
abbrev aItems (z e : Bool) (l : List Item) : AV := .sl z e l.length 2 (fun k => cItem (l.getD k default))
abbrev cJudge (z e : Bool) (x : Judge) : Nat → AV := ofL [AI x.lo, AI x.hi, AI x.err, aInts z e x.marks]
abbrev aJudges (z e : Bool) (rz re : Nat → Bool) (l : List Judge) : AV := .sl z e l.length 4 (fun k => cJudge (rz k) (re k) (l.getD k default))
structure PaF where
  zi : Bool
  ei : Bool
  zj : Bool
  ej : Bool
  zg : Bool
  eg : Bool
  rz : Nat → Bool
  re : Nat → Bool
abbrev cPaper (f : PaF) (p : Paper) : Nat → AV := ofL [aItems f.zi f.ei p.items, aJudges f.zj f.ej f.rz f.re p.judges, AI p.wrong, aInts f.zg f.eg p.grades]
abbrev aPaper (f : PaF) (p : Paper) : AV := .agg 4 (cPaper f p)
/-- The lengths are those of slices. -/
structure Sized (p : Paper) : Prop where
  il : p.items.length ≤ 9223372036854775807
  jl : p.judges.length ≤ 9223372036854775807
  gl : p.grades.length ≤ 9223372036854775807
  ml : ∀ k, k < p.judges.length → (p.judges.getD k default).marks.length ≤ 9223372036854775807
abbrev aRange (r : (Int × Int) × Int) : AV := .tup 2 (ofL [.agg 2 (ofL [AI r.1.1, AI r.1.2]), AI r.2])
end Go.Proofs.Ytbpilgflejdhaaa

namespace Go.Proofs.Ytbpilgflejdhaaa
open Go.RowKit

theorem Ln.slZ {σ : Nat → Nat → Prop} {Bp : Nat → Prop} {H : List AB} {n' sz : Nat} {c c' : Nat → Nat → AV} (h : n' = 0) : Ln σ Bp H (.sl false true 0 sz c) (.sl false (decide (n' = 0)) n' sz c') := by
  subst h
  exact Ln.sl _ _ _ _ _ _ _ (fun _ => rfl) (fun k hk => absurd hk (Nat.not_lt_zero k))
theorem Ln.pubD {σ : Nat → Nat → Prop} {Bp : Nat → Prop} {H : List AB} {d n n' N sz : Nat} {c c' : Nat → Nat → AV} (h0 : 0 < n') (h : Bp d) (hd : H[d]? = some (.row N sz c)) (hn : n ≤ N) (e : n = n') (hc : ∀ k, k < n → ∀ o, o < sz → c' k o = c k o) : Ln σ Bp H (.own d n) (.sl false (decide (n' = 0)) n' sz c') := by
  rw [decide_eq_false (by omega)]; exact Ln.pubE h hd hn e hc
abbrev cpInts (l : List Int) : AV := aInts false (decide (l.length = 0)) l
abbrev cJu (l : List Judge) : Nat → Nat → AV := fun k => cJudge false false (l.getD k default)
abbrev rowJ (n : Nat) (l : List Judge) : AB := .row n 4 (cJu l)
abbrev oJ (d : Nat) (n : Nat) : AV := match n with
  | 0 => nilS
  | n + 1 => .own d (n + 1)
abbrev hJ (n : Nat) (l : List Judge) : List AB := match n with
  | 0 => []
  | n + 1 => [rowJ (n + 1) l]
set_option maxHeartbeats 8000000
set_option maxRecDepth 100000
theorem copyJ3 (f : PaF) (i0 : Item) (is : List Item) (judges : List Judge) (wrong : Int) (grades : List Int) (n1 : is.length ≤ 1000) (n2 : judges.length ≤ 1000) (n3 : grades.length ≤ 1000) (n4 : ∀ k, k < judges.length → 0 < (judges.getD k default).marks.length ∧ (judges.getD k default).marks.length ≤ 1000) : ACall Try.prog 16 [aPaper f ⟨i0 :: is, judges, wrong, grades⟩] [] (fun v h => v = .agg 4 (ofL [aItems false false (i0 :: is), oJ 0 judges.length, AI wrong, cpInts grades]) ∧ h = hJ judges.length judges) := by
  (refine fcall_of mixed Try.func16 rfl (by decide) (hs := { pub := [2, 7], alt := [(1, ⟨[0, 1, 2, 4, 5, 6, 7, 8], (.alt 3 [] (.alt 9 [10] (.alt 11 [] (.alt 12 [] .leaf .leaf) .leaf) (.alt 11 [] (.alt 9 [10] (.alt 12 [] .leaf .leaf) .leaf) .leaf)) (.alt 11 [] (.alt 3 [] (.alt 9 [10] (.alt 12 [] .leaf .leaf) .leaf) .leaf) .leaf)), [(3, [5, 8]), (9, [5]), (11, [2, 5, 8])]⟩)] }) ?k (ac := ?ac) ?c (rs := ?rs) ?r ?l ?H; (case k => kernel_rfl); (case c => (conv => (lhs; cbv))); (case r => (conv => (lhs; cbv))); (case l => exact Nat.le_of_ble_eq_true rfl))
  rcases grades with _ | ⟨g0, gs⟩
  · have n1' : (i0 :: is).length ≤ 1001 := by simp only [List.length_cons]; omega
    simp only [List.length_cons] at n1'
    apply cutG
    · intro rest
      (repeat' ((try (conv => whnf)); first | (with_reducible first | refine FCond.tA ?_ | refine FCond.fA ?_) | ((with_reducible refine FCond.i (fun hq => ?_) (fun hq => ?_)) <;> (try simp only [zA, zE, zD, zJ, zB, zI, Int.not_le, Int.not_lt] at hq)) | (with_reducible first | refine Fits.in64 (by omega) ?_ | refine FIdx.nat (by omega) ?_ | refine FIdx.int (by omega) ?_ | refine FTo.nat (by omega) ?_ | refine FTo.int (by omega) ?_) | ((with_reducible refine Need.mk ?_ ?_); focus exact needA) | (with_reducible refine FApp.grow ?_) | (refine FAlt.mk ?_ ?_) | (with_reducible refine FOr.pub ?_)))
      all_goals (try (conv => whnf))
      all_goals first
        | exact FWk.of [(1, .ptr 0 0), (2, .ptr 1 0), (3, .ptr 2 0)] [.box 4 (cPaper f ⟨i0 :: is, judges, wrong, []⟩), .box 4 (ofL [nilS, nilS, AI 0, nilS]), .box 4 (ofL [aItems false false (i0 :: is), nilS, AI wrong, cpInts []])] [0, 1, 2] (Cut.of (Nat.le_of_ble_eq_true rfl) rfl rfl (CutL.turned rfl (LnB.boxN ⟨⟨⟨⟨True.intro, Ln.sameB _ rfl⟩, Ln.sameB _ rfl⟩, Ln.sameB _ rfl⟩, Ln.sameB _ rfl⟩) (CutL.turned rfl (LnB.boxN ⟨⟨⟨⟨True.intro, Ln.sameB _ rfl⟩, Ln.sameB _ rfl⟩, Ln.sameB _ rfl⟩, Ln.sameB _ rfl⟩) (CutL.turned rfl (LnB.boxN ⟨⟨⟨⟨True.intro, by exact Ln.pubE (goneB rfl) rfl (Nat.le_refl _) (Nat.zero_add _) (fun k hk o ho => by simp [appc])⟩, Ln.sameB _ rfl⟩, Ln.sameB _ rfl⟩, Ln.slZ rfl⟩) CutL.done)))) ⟨Ln.ptr _ _ _ rfl, Ln.ptr _ _ _ rfl, Ln.ptr _ _ _ rfl, True.intro⟩ rest.h
        | exact FWk.of [(1, .ptr 0 0), (2, .ptr 1 0), (3, .ptr 2 0)] [.box 4 (cPaper f ⟨i0 :: is, judges, wrong, []⟩), .box 4 (ofL [nilS, nilS, AI 0, nilS]), .box 4 (ofL [aItems false false (i0 :: is), nilS, AI wrong, cpInts []])] [0, 1, 3] (Cut.of (Nat.le_of_ble_eq_true rfl) rfl rfl (CutL.turned rfl (LnB.boxN ⟨⟨⟨⟨True.intro, Ln.sameB _ rfl⟩, Ln.sameB _ rfl⟩, Ln.sameB _ rfl⟩, Ln.sameB _ rfl⟩) (CutL.turned rfl (LnB.boxN ⟨⟨⟨⟨True.intro, Ln.sameB _ rfl⟩, Ln.sameB _ rfl⟩, Ln.sameB _ rfl⟩, Ln.sameB _ rfl⟩) (CutL.turned rfl (LnB.boxN ⟨⟨⟨⟨True.intro, by exact Ln.pubE (goneB rfl) rfl (Nat.le_refl _) (Nat.zero_add _) (fun k hk o ho => by simp [appc])⟩, Ln.sameB _ rfl⟩, Ln.sameB _ rfl⟩, Ln.slZ rfl⟩) CutL.done)))) ⟨Ln.ptr _ _ _ rfl, Ln.ptr _ _ _ rfl, Ln.ptr _ _ _ rfl, True.intro⟩ rest.h
        | fail
    (try (conv => whnf))
    generalize hgl : ([] : List Int) = grades
    generalize hil : (i0 :: is) = items
    (repeat' ((try (conv => whnf)); first | (with_reducible first | refine FCond.tA ?_ | refine FCond.fA ?_) | ((with_reducible refine FCond.i (fun hq => ?_) (fun hq => ?_)) <;> (try simp only [zA, zE, zD, zJ, zB, zI, Int.not_le, Int.not_lt] at hq)) | (with_reducible first | refine Fits.in64 (by omega) ?_ | refine FIdx.nat (by omega) ?_ | refine FIdx.int (by omega) ?_ | refine FTo.nat (by omega) ?_ | refine FTo.int (by omega) ?_) | ((with_reducible refine Need.mk ?_ ?_); focus exact needA) | (with_reducible refine FApp.grow ?_) | (with_reducible refine FOr.pub ?_)))
    (try (conv => whnf))
    refine FLoop.of (ACalls.mono _) (X := Nat) (fun i => [(1, .ptr 0 0), (2, .ptr 1 0), (3, .ptr 2 0), (4, AI i)]) (fun i => match i with
      | 0 => [.box 4 (cPaper f ⟨items, judges, wrong, grades⟩), .box 4 (ofL [nilS, nilS, AI 0, nilS]), .box 4 (ofL [aItems false false items, nilS, AI wrong, cpInts grades])]
      | i + 1 => [.box 4 (cPaper f ⟨items, judges, wrong, grades⟩), .box 4 (ofL [nilS, nilS, AI 0, nilS]), .box 4 (ofL [aItems false false items, .own 3 (i + 1), AI wrong, cpInts grades]), rowJ (i + 1) judges]) (fun i => i ≤ judges.length) (fun i => judges.length - i) 0 ⟨Nat.zero_le _, [0, 1, 2], Cut.A, allA⟩ ?_
    intro i hi
    by_cases hlt : i < judges.length
    · obtain ⟨q1, q2⟩ := n4 i hlt
      rcases i with _ | i
      · (repeat' ((try (conv => whnf)); first | (with_reducible first | refine FCond.tA ?_ | refine FCond.fA ?_) | ((with_reducible refine FCond.i (fun hq => ?_) (fun hq => ?_)) <;> (try simp only [zA, zE, zD, zJ, zB, zI, Int.not_le, Int.not_lt] at hq)) | (with_reducible first | refine Fits.in64 (by omega) ?_ | refine FIdx.nat (by omega) ?_ | refine FIdx.int (by omega) ?_ | refine FTo.nat (by omega) ?_ | refine FTo.int (by omega) ?_) | ((with_reducible refine Need.mk ?_ ?_); focus exact needA) | (with_reducible refine FApp.grow ?_) | (with_reducible refine FOr.pub ?_)))
        (try (conv => whnf))
        rcases hL : (judges.getD 0 default).marks.length with _ | L
        · omega
        (repeat' ((try (conv => whnf)); first | (with_reducible first | refine FCond.tA ?_ | refine FCond.fA ?_) | ((with_reducible refine FCond.i (fun hq => ?_) (fun hq => ?_)) <;> (try simp only [zA, zE, zD, zJ, zB, zI, Int.not_le, Int.not_lt] at hq)) | (with_reducible first | refine Fits.in64 (by omega) ?_ | refine FIdx.nat (by omega) ?_ | refine FIdx.int (by omega) ?_ | refine FTo.nat (by omega) ?_ | refine FTo.int (by omega) ?_) | ((with_reducible refine Need.mk ?_ ?_); focus exact needA) | (with_reducible refine FApp.grow ?_) | (with_reducible refine FOr.pub ?_)))
        (try (conv => whnf))
        refine FWk.of [(1, .ptr 0 0), (2, .ptr 1 0), (3, .ptr 2 0), (4, AI (0 : Nat)), (5, .ptr 3 0)] [.box 4 (cPaper f ⟨items, judges, wrong, grades⟩), .box 4 (ofL [nilS, nilS, AI 0, nilS]), .box 4 (ofL [aItems false false items, nilS, AI wrong, cpInts grades]), .box 4 (cJu judges 0)] [0, 1, 2, 3] (Cut.of (Nat.le_of_ble_eq_true rfl) rfl rfl (CutL.turned rfl LnB.A (CutL.turned rfl LnB.A (CutL.turned rfl LnB.A (CutL.turned rfl (LnB.boxN ⟨⟨⟨⟨True.intro, Ln.A⟩, Ln.A⟩, Ln.A⟩, by exact Ln.pubE (goneB rfl) rfl (by omega) (by omega) (fun k hk o ho => by simp [appc])⟩) CutL.done))))) ⟨Ln.ptr _ _ _ rfl, Ln.ptr _ _ _ rfl, Ln.ptr _ _ _ rfl, Ln.A, Ln.ptr _ _ _ rfl, True.intro⟩ ?_
        (repeat' ((try (conv => whnf)); first | (with_reducible first | refine FCond.tA ?_ | refine FCond.fA ?_) | ((with_reducible refine FCond.i (fun hq => ?_) (fun hq => ?_)) <;> (try simp only [zA, zE, zD, zJ, zB, zI, Int.not_le, Int.not_lt] at hq)) | (with_reducible first | refine Fits.in64 (by omega) ?_ | refine FIdx.nat (by omega) ?_ | refine FIdx.int (by omega) ?_ | refine FTo.nat (by omega) ?_ | refine FTo.int (by omega) ?_) | ((with_reducible refine Need.mk ?_ ?_); focus exact needA) | (with_reducible refine FApp.grow ?_) | (with_reducible refine FOr.pub ?_)))
        (try (conv => whnf))
        (exact ⟨⟨1, hlt, by show _ < _; omega, [0, 1, 2, 4], (by (refine Cut.of (Nat.le_of_ble_eq_true rfl) rfl rfl ?_; repeat (first | exact CutL.done | (refine CutL.turned rfl (by first | exact LnB.rowS | exact LnB.app (fun k hk => absurd hk (Nat.not_lt_zero k)) (fun o ho => rfl) | exact LnB.A) ?_) | (refine CutL.gone (Nat.lt_of_lt_of_le (Nat.lt_succ_self _) (Nat.le_of_ble_eq_true rfl)) ?_)))), allA⟩⟩)
      · (repeat' ((try (conv => whnf)); first | (with_reducible first | refine FCond.tA ?_ | refine FCond.fA ?_) | ((with_reducible refine FCond.i (fun hq => ?_) (fun hq => ?_)) <;> (try simp only [zA, zE, zD, zJ, zB, zI, Int.not_le, Int.not_lt] at hq)) | (with_reducible first | refine Fits.in64 (by omega) ?_ | refine FIdx.nat (by omega) ?_ | refine FIdx.int (by omega) ?_ | refine FTo.nat (by omega) ?_ | refine FTo.int (by omega) ?_) | ((with_reducible refine Need.mk ?_ ?_); focus exact needA) | (with_reducible refine FApp.grow ?_) | (with_reducible refine FOr.pub ?_)))
        (try (conv => whnf))
        rcases hL : (judges.getD (i + 1) default).marks.length with _ | L
        · omega
        (repeat' ((try (conv => whnf)); first | (with_reducible first | refine FCond.tA ?_ | refine FCond.fA ?_) | ((with_reducible refine FCond.i (fun hq => ?_) (fun hq => ?_)) <;> (try simp only [zA, zE, zD, zJ, zB, zI, Int.not_le, Int.not_lt] at hq)) | (with_reducible first | refine Fits.in64 (by omega) ?_ | refine FIdx.nat (by omega) ?_ | refine FIdx.int (by omega) ?_ | refine FTo.nat (by omega) ?_ | refine FTo.int (by omega) ?_) | ((with_reducible refine Need.mk ?_ ?_); focus exact needA) | (with_reducible refine FApp.grow ?_) | (with_reducible refine FOr.pub ?_)))
        (try (conv => whnf))
        refine FWk.of [(1, .ptr 0 0), (2, .ptr 1 0), (3, .ptr 2 0), (4, AI (i + 1 : Nat)), (5, .ptr 4 0)] [.box 4 (cPaper f ⟨items, judges, wrong, grades⟩), .box 4 (ofL [nilS, nilS, AI 0, nilS]), .box 4 (ofL [aItems false false items, .own 3 (i + 1), AI wrong, cpInts grades]), rowJ (i + 1) judges, .box 4 (cJu judges (i + 1))] [0, 1, 2, 3, 4] (Cut.of (Nat.le_of_ble_eq_true rfl) rfl rfl (CutL.turned rfl LnB.A (CutL.turned rfl LnB.A (CutL.turned rfl LnB.A (CutL.turned rfl LnB.A (CutL.turned rfl (LnB.boxN ⟨⟨⟨⟨True.intro, Ln.A⟩, Ln.A⟩, Ln.A⟩, by exact Ln.pubE (goneB rfl) rfl (by omega) (by omega) (fun k hk o ho => by simp [appc])⟩) CutL.done)))))) ⟨Ln.ptr _ _ _ rfl, Ln.ptr _ _ _ rfl, Ln.ptr _ _ _ rfl, Ln.A, Ln.ptr _ _ _ rfl, True.intro⟩ ?_
        (repeat' ((try (conv => whnf)); first | (with_reducible first | refine FCond.tA ?_ | refine FCond.fA ?_) | ((with_reducible refine FCond.i (fun hq => ?_) (fun hq => ?_)) <;> (try simp only [zA, zE, zD, zJ, zB, zI, Int.not_le, Int.not_lt] at hq)) | (with_reducible first | refine Fits.in64 (by omega) ?_ | refine FIdx.nat (by omega) ?_ | refine FIdx.int (by omega) ?_ | refine FTo.nat (by omega) ?_ | refine FTo.int (by omega) ?_) | ((with_reducible refine Need.mk ?_ ?_); focus exact needA) | (with_reducible refine FApp.grow ?_) | (with_reducible refine FOr.pub ?_)))
        (try (conv => whnf))
        (exact ⟨⟨(i + 2), hlt, by show _ < _; omega, [0, 1, 2, 5], (by (refine Cut.of (Nat.le_of_ble_eq_true rfl) rfl rfl ?_; repeat (first | exact CutL.done | (refine CutL.turned rfl (by first | exact LnB.rowS | exact LnB.app (fun _ _ _ _ => rfl) (fun o ho => rfl) | exact LnB.A) ?_) | (refine CutL.gone (Nat.lt_of_lt_of_le (Nat.lt_succ_self _) (Nat.le_of_ble_eq_true rfl)) ?_)))), allA⟩⟩)
    · obtain rfl : i = judges.length := by omega
      rcases hn : judges.length with _ | n
      · (repeat' ((try (conv => whnf)); first | (with_reducible first | refine FCond.tA ?_ | refine FCond.fA ?_) | ((with_reducible refine FCond.i (fun hq => ?_) (fun hq => ?_)) <;> (try simp only [zA, zE, zD, zJ, zB, zI, Int.not_le, Int.not_lt] at hq)) | (with_reducible first | refine Fits.in64 (by omega) ?_ | refine FIdx.nat (by omega) ?_ | refine FIdx.int (by omega) ?_ | refine FTo.nat (by omega) ?_ | refine FTo.int (by omega) ?_) | ((with_reducible refine Need.mk ?_ ?_); focus exact needA) | (with_reducible refine FApp.grow ?_) | (with_reducible refine FOr.pub ?_)))
        (try (conv => whnf))
        exact ⟨⟨.agg 4 (ofL [aItems false false items, nilS, AI wrong, cpInts grades]), [], [], Cut.nil _, Ln.A, by subst hgl; subst hil; rfl, rfl⟩⟩
      · (repeat' ((try (conv => whnf)); first | (with_reducible first | refine FCond.tA ?_ | refine FCond.fA ?_) | ((with_reducible refine FCond.i (fun hq => ?_) (fun hq => ?_)) <;> (try simp only [zA, zE, zD, zJ, zB, zI, Int.not_le, Int.not_lt] at hq)) | (with_reducible first | refine Fits.in64 (by omega) ?_ | refine FIdx.nat (by omega) ?_ | refine FIdx.int (by omega) ?_ | refine FTo.nat (by omega) ?_ | refine FTo.int (by omega) ?_) | ((with_reducible refine Need.mk ?_ ?_); focus exact needA) | (with_reducible refine FApp.grow ?_) | (with_reducible refine FOr.pub ?_)))
        (try (conv => whnf))
        exact ⟨⟨.agg 4 (ofL [aItems false false items, .own 0 (n + 1), AI wrong, cpInts grades]), [rowJ (n + 1) judges], [3], Cut.A, Ln.aggN ⟨⟨⟨⟨True.intro, Ln.A⟩, Ln.A⟩, Ln.A⟩, Ln.A⟩, by subst hgl; subst hil; rfl, rfl⟩⟩
  · have n1' : (i0 :: is).length ≤ 1001 := by simp only [List.length_cons]; omega
    simp only [List.length_cons] at n1' n3
    apply cutG
    · intro rest
      (repeat' ((try (conv => whnf)); first | (with_reducible first | refine FCond.tA ?_ | refine FCond.fA ?_) | ((with_reducible refine FCond.i (fun hq => ?_) (fun hq => ?_)) <;> (try simp only [zA, zE, zD, zJ, zB, zI, Int.not_le, Int.not_lt] at hq)) | (with_reducible first | refine Fits.in64 (by omega) ?_ | refine FIdx.nat (by omega) ?_ | refine FIdx.int (by omega) ?_ | refine FTo.nat (by omega) ?_ | refine FTo.int (by omega) ?_) | ((with_reducible refine Need.mk ?_ ?_); focus exact needA) | (with_reducible refine FApp.grow ?_) | (refine FAlt.mk ?_ ?_) | (with_reducible refine FOr.pub ?_)))
      all_goals (try (conv => whnf))
      all_goals first
        | exact FWk.of [(1, .ptr 0 0), (2, .ptr 1 0), (3, .ptr 2 0)] [.box 4 (cPaper f ⟨i0 :: is, judges, wrong, (g0 :: gs)⟩), .box 4 (ofL [nilS, nilS, AI 0, nilS]), .box 4 (ofL [aItems false false (i0 :: is), nilS, AI wrong, cpInts (g0 :: gs)])] [0, 1, 2] (Cut.of (Nat.le_of_ble_eq_true rfl) rfl rfl (CutL.turned rfl (LnB.boxN ⟨⟨⟨⟨True.intro, Ln.sameB _ rfl⟩, Ln.sameB _ rfl⟩, Ln.sameB _ rfl⟩, Ln.sameB _ rfl⟩) (CutL.turned rfl (LnB.boxN ⟨⟨⟨⟨True.intro, Ln.sameB _ rfl⟩, Ln.sameB _ rfl⟩, Ln.sameB _ rfl⟩, Ln.sameB _ rfl⟩) (CutL.turned rfl (LnB.boxN ⟨⟨⟨⟨True.intro, by exact Ln.pubE (goneB rfl) rfl (Nat.le_refl _) (Nat.zero_add _) (fun k hk o ho => by simp [appc])⟩, Ln.sameB _ rfl⟩, Ln.sameB _ rfl⟩, by exact Ln.pubD (Nat.succ_pos _) (goneB rfl) rfl (Nat.le_refl _) (Nat.zero_add _) (fun k hk o ho => by simp [appc])⟩) CutL.done)))) ⟨Ln.ptr _ _ _ rfl, Ln.ptr _ _ _ rfl, Ln.ptr _ _ _ rfl, True.intro⟩ rest.h
        | exact FWk.of [(1, .ptr 0 0), (2, .ptr 1 0), (3, .ptr 2 0)] [.box 4 (cPaper f ⟨i0 :: is, judges, wrong, (g0 :: gs)⟩), .box 4 (ofL [nilS, nilS, AI 0, nilS]), .box 4 (ofL [aItems false false (i0 :: is), nilS, AI wrong, cpInts (g0 :: gs)])] [0, 1, 3] (Cut.of (Nat.le_of_ble_eq_true rfl) rfl rfl (CutL.turned rfl (LnB.boxN ⟨⟨⟨⟨True.intro, Ln.sameB _ rfl⟩, Ln.sameB _ rfl⟩, Ln.sameB _ rfl⟩, Ln.sameB _ rfl⟩) (CutL.turned rfl (LnB.boxN ⟨⟨⟨⟨True.intro, Ln.sameB _ rfl⟩, Ln.sameB _ rfl⟩, Ln.sameB _ rfl⟩, Ln.sameB _ rfl⟩) (CutL.turned rfl (LnB.boxN ⟨⟨⟨⟨True.intro, by exact Ln.pubE (goneB rfl) rfl (Nat.le_refl _) (Nat.zero_add _) (fun k hk o ho => by simp [appc])⟩, Ln.sameB _ rfl⟩, Ln.sameB _ rfl⟩, by exact Ln.pubD (Nat.succ_pos _) (goneB rfl) rfl (Nat.le_refl _) (Nat.zero_add _) (fun k hk o ho => by simp [appc])⟩) CutL.done)))) ⟨Ln.ptr _ _ _ rfl, Ln.ptr _ _ _ rfl, Ln.ptr _ _ _ rfl, True.intro⟩ rest.h
        | exact FWk.of [(1, .ptr 0 0), (2, .ptr 1 0), (3, .ptr 2 0)] [.box 4 (cPaper f ⟨i0 :: is, judges, wrong, (g0 :: gs)⟩), .box 4 (ofL [nilS, nilS, AI 0, nilS]), .box 4 (ofL [aItems false false (i0 :: is), nilS, AI wrong, cpInts (g0 :: gs)])] [0, 1, 4] (Cut.of (Nat.le_of_ble_eq_true rfl) rfl rfl (CutL.turned rfl (LnB.boxN ⟨⟨⟨⟨True.intro, Ln.sameB _ rfl⟩, Ln.sameB _ rfl⟩, Ln.sameB _ rfl⟩, Ln.sameB _ rfl⟩) (CutL.turned rfl (LnB.boxN ⟨⟨⟨⟨True.intro, Ln.sameB _ rfl⟩, Ln.sameB _ rfl⟩, Ln.sameB _ rfl⟩, Ln.sameB _ rfl⟩) (CutL.turned rfl (LnB.boxN ⟨⟨⟨⟨True.intro, by exact Ln.pubE (goneB rfl) rfl (Nat.le_refl _) (Nat.zero_add _) (fun k hk o ho => by simp [appc])⟩, Ln.sameB _ rfl⟩, Ln.sameB _ rfl⟩, by exact Ln.pubD (Nat.succ_pos _) (goneB rfl) rfl (Nat.le_refl _) (Nat.zero_add _) (fun k hk o ho => by simp [appc])⟩) CutL.done)))) ⟨Ln.ptr _ _ _ rfl, Ln.ptr _ _ _ rfl, Ln.ptr _ _ _ rfl, True.intro⟩ rest.h
        | fail
    (try (conv => whnf))
    generalize hgl : (g0 :: gs) = grades
    generalize hil : (i0 :: is) = items
    (repeat' ((try (conv => whnf)); first | (with_reducible first | refine FCond.tA ?_ | refine FCond.fA ?_) | ((with_reducible refine FCond.i (fun hq => ?_) (fun hq => ?_)) <;> (try simp only [zA, zE, zD, zJ, zB, zI, Int.not_le, Int.not_lt] at hq)) | (with_reducible first | refine Fits.in64 (by omega) ?_ | refine FIdx.nat (by omega) ?_ | refine FIdx.int (by omega) ?_ | refine FTo.nat (by omega) ?_ | refine FTo.int (by omega) ?_) | ((with_reducible refine Need.mk ?_ ?_); focus exact needA) | (with_reducible refine FApp.grow ?_) | (with_reducible refine FOr.pub ?_)))
    (try (conv => whnf))
    refine FLoop.of (ACalls.mono _) (X := Nat) (fun i => [(1, .ptr 0 0), (2, .ptr 1 0), (3, .ptr 2 0), (4, AI i)]) (fun i => match i with
      | 0 => [.box 4 (cPaper f ⟨items, judges, wrong, grades⟩), .box 4 (ofL [nilS, nilS, AI 0, nilS]), .box 4 (ofL [aItems false false items, nilS, AI wrong, cpInts grades])]
      | i + 1 => [.box 4 (cPaper f ⟨items, judges, wrong, grades⟩), .box 4 (ofL [nilS, nilS, AI 0, nilS]), .box 4 (ofL [aItems false false items, .own 3 (i + 1), AI wrong, cpInts grades]), rowJ (i + 1) judges]) (fun i => i ≤ judges.length) (fun i => judges.length - i) 0 ⟨Nat.zero_le _, [0, 1, 2], Cut.A, allA⟩ ?_
    intro i hi
    by_cases hlt : i < judges.length
    · obtain ⟨q1, q2⟩ := n4 i hlt
      rcases i with _ | i
      · (repeat' ((try (conv => whnf)); first | (with_reducible first | refine FCond.tA ?_ | refine FCond.fA ?_) | ((with_reducible refine FCond.i (fun hq => ?_) (fun hq => ?_)) <;> (try simp only [zA, zE, zD, zJ, zB, zI, Int.not_le, Int.not_lt] at hq)) | (with_reducible first | refine Fits.in64 (by omega) ?_ | refine FIdx.nat (by omega) ?_ | refine FIdx.int (by omega) ?_ | refine FTo.nat (by omega) ?_ | refine FTo.int (by omega) ?_) | ((with_reducible refine Need.mk ?_ ?_); focus exact needA) | (with_reducible refine FApp.grow ?_) | (with_reducible refine FOr.pub ?_)))
        (try (conv => whnf))
        rcases hL : (judges.getD 0 default).marks.length with _ | L
        · omega
        (repeat' ((try (conv => whnf)); first | (with_reducible first | refine FCond.tA ?_ | refine FCond.fA ?_) | ((with_reducible refine FCond.i (fun hq => ?_) (fun hq => ?_)) <;> (try simp only [zA, zE, zD, zJ, zB, zI, Int.not_le, Int.not_lt] at hq)) | (with_reducible first | refine Fits.in64 (by omega) ?_ | refine FIdx.nat (by omega) ?_ | refine FIdx.int (by omega) ?_ | refine FTo.nat (by omega) ?_ | refine FTo.int (by omega) ?_) | ((with_reducible refine Need.mk ?_ ?_); focus exact needA) | (with_reducible refine FApp.grow ?_) | (with_reducible refine FOr.pub ?_)))
        (try (conv => whnf))
        refine FWk.of [(1, .ptr 0 0), (2, .ptr 1 0), (3, .ptr 2 0), (4, AI (0 : Nat)), (5, .ptr 3 0)] [.box 4 (cPaper f ⟨items, judges, wrong, grades⟩), .box 4 (ofL [nilS, nilS, AI 0, nilS]), .box 4 (ofL [aItems false false items, nilS, AI wrong, cpInts grades]), .box 4 (cJu judges 0)] [0, 1, 2, 3] (Cut.of (Nat.le_of_ble_eq_true rfl) rfl rfl (CutL.turned rfl LnB.A (CutL.turned rfl LnB.A (CutL.turned rfl LnB.A (CutL.turned rfl (LnB.boxN ⟨⟨⟨⟨True.intro, Ln.A⟩, Ln.A⟩, Ln.A⟩, by exact Ln.pubE (goneB rfl) rfl (by omega) (by omega) (fun k hk o ho => by simp [appc])⟩) CutL.done))))) ⟨Ln.ptr _ _ _ rfl, Ln.ptr _ _ _ rfl, Ln.ptr _ _ _ rfl, Ln.A, Ln.ptr _ _ _ rfl, True.intro⟩ ?_
        (repeat' ((try (conv => whnf)); first | (with_reducible first | refine FCond.tA ?_ | refine FCond.fA ?_) | ((with_reducible refine FCond.i (fun hq => ?_) (fun hq => ?_)) <;> (try simp only [zA, zE, zD, zJ, zB, zI, Int.not_le, Int.not_lt] at hq)) | (with_reducible first | refine Fits.in64 (by omega) ?_ | refine FIdx.nat (by omega) ?_ | refine FIdx.int (by omega) ?_ | refine FTo.nat (by omega) ?_ | refine FTo.int (by omega) ?_) | ((with_reducible refine Need.mk ?_ ?_); focus exact needA) | (with_reducible refine FApp.grow ?_) | (with_reducible refine FOr.pub ?_)))
        (try (conv => whnf))
        (exact ⟨⟨1, hlt, by show _ < _; omega, [0, 1, 2, 4], (by (refine Cut.of (Nat.le_of_ble_eq_true rfl) rfl rfl ?_; repeat (first | exact CutL.done | (refine CutL.turned rfl (by first | exact LnB.rowS | exact LnB.app (fun k hk => absurd hk (Nat.not_lt_zero k)) (fun o ho => rfl) | exact LnB.A) ?_) | (refine CutL.gone (Nat.lt_of_lt_of_le (Nat.lt_succ_self _) (Nat.le_of_ble_eq_true rfl)) ?_)))), allA⟩⟩)
      · (repeat' ((try (conv => whnf)); first | (with_reducible first | refine FCond.tA ?_ | refine FCond.fA ?_) | ((with_reducible refine FCond.i (fun hq => ?_) (fun hq => ?_)) <;> (try simp only [zA, zE, zD, zJ, zB, zI, Int.not_le, Int.not_lt] at hq)) | (with_reducible first | refine Fits.in64 (by omega) ?_ | refine FIdx.nat (by omega) ?_ | refine FIdx.int (by omega) ?_ | refine FTo.nat (by omega) ?_ | refine FTo.int (by omega) ?_) | ((with_reducible refine Need.mk ?_ ?_); focus exact needA) | (with_reducible refine FApp.grow ?_) | (with_reducible refine FOr.pub ?_)))
        (try (conv => whnf))
        rcases hL : (judges.getD (i + 1) default).marks.length with _ | L
        · omega
        (repeat' ((try (conv => whnf)); first | (with_reducible first | refine FCond.tA ?_ | refine FCond.fA ?_) | ((with_reducible refine FCond.i (fun hq => ?_) (fun hq => ?_)) <;> (try simp only [zA, zE, zD, zJ, zB, zI, Int.not_le, Int.not_lt] at hq)) | (with_reducible first | refine Fits.in64 (by omega) ?_ | refine FIdx.nat (by omega) ?_ | refine FIdx.int (by omega) ?_ | refine FTo.nat (by omega) ?_ | refine FTo.int (by omega) ?_) | ((with_reducible refine Need.mk ?_ ?_); focus exact needA) | (with_reducible refine FApp.grow ?_) | (with_reducible refine FOr.pub ?_)))
        (try (conv => whnf))
        refine FWk.of [(1, .ptr 0 0), (2, .ptr 1 0), (3, .ptr 2 0), (4, AI (i + 1 : Nat)), (5, .ptr 4 0)] [.box 4 (cPaper f ⟨items, judges, wrong, grades⟩), .box 4 (ofL [nilS, nilS, AI 0, nilS]), .box 4 (ofL [aItems false false items, .own 3 (i + 1), AI wrong, cpInts grades]), rowJ (i + 1) judges, .box 4 (cJu judges (i + 1))] [0, 1, 2, 3, 4] (Cut.of (Nat.le_of_ble_eq_true rfl) rfl rfl (CutL.turned rfl LnB.A (CutL.turned rfl LnB.A (CutL.turned rfl LnB.A (CutL.turned rfl LnB.A (CutL.turned rfl (LnB.boxN ⟨⟨⟨⟨True.intro, Ln.A⟩, Ln.A⟩, Ln.A⟩, by exact Ln.pubE (goneB rfl) rfl (by omega) (by omega) (fun k hk o ho => by simp [appc])⟩) CutL.done)))))) ⟨Ln.ptr _ _ _ rfl, Ln.ptr _ _ _ rfl, Ln.ptr _ _ _ rfl, Ln.A, Ln.ptr _ _ _ rfl, True.intro⟩ ?_
        (repeat' ((try (conv => whnf)); first | (with_reducible first | refine FCond.tA ?_ | refine FCond.fA ?_) | ((with_reducible refine FCond.i (fun hq => ?_) (fun hq => ?_)) <;> (try simp only [zA, zE, zD, zJ, zB, zI, Int.not_le, Int.not_lt] at hq)) | (with_reducible first | refine Fits.in64 (by omega) ?_ | refine FIdx.nat (by omega) ?_ | refine FIdx.int (by omega) ?_ | refine FTo.nat (by omega) ?_ | refine FTo.int (by omega) ?_) | ((with_reducible refine Need.mk ?_ ?_); focus exact needA) | (with_reducible refine FApp.grow ?_) | (with_reducible refine FOr.pub ?_)))
        (try (conv => whnf))
        (exact ⟨⟨(i + 2), hlt, by show _ < _; omega, [0, 1, 2, 5], (by (refine Cut.of (Nat.le_of_ble_eq_true rfl) rfl rfl ?_; repeat (first | exact CutL.done | (refine CutL.turned rfl (by first | exact LnB.rowS | exact LnB.app (fun _ _ _ _ => rfl) (fun o ho => rfl) | exact LnB.A) ?_) | (refine CutL.gone (Nat.lt_of_lt_of_le (Nat.lt_succ_self _) (Nat.le_of_ble_eq_true rfl)) ?_)))), allA⟩⟩)
    · obtain rfl : i = judges.length := by omega
      rcases hn : judges.length with _ | n
      · (repeat' ((try (conv => whnf)); first | (with_reducible first | refine FCond.tA ?_ | refine FCond.fA ?_) | ((with_reducible refine FCond.i (fun hq => ?_) (fun hq => ?_)) <;> (try simp only [zA, zE, zD, zJ, zB, zI, Int.not_le, Int.not_lt] at hq)) | (with_reducible first | refine Fits.in64 (by omega) ?_ | refine FIdx.nat (by omega) ?_ | refine FIdx.int (by omega) ?_ | refine FTo.nat (by omega) ?_ | refine FTo.int (by omega) ?_) | ((with_reducible refine Need.mk ?_ ?_); focus exact needA) | (with_reducible refine FApp.grow ?_) | (with_reducible refine FOr.pub ?_)))
        (try (conv => whnf))
        exact ⟨⟨.agg 4 (ofL [aItems false false items, nilS, AI wrong, cpInts grades]), [], [], Cut.nil _, Ln.A, by subst hgl; subst hil; rfl, rfl⟩⟩
      · (repeat' ((try (conv => whnf)); first | (with_reducible first | refine FCond.tA ?_ | refine FCond.fA ?_) | ((with_reducible refine FCond.i (fun hq => ?_) (fun hq => ?_)) <;> (try simp only [zA, zE, zD, zJ, zB, zI, Int.not_le, Int.not_lt] at hq)) | (with_reducible first | refine Fits.in64 (by omega) ?_ | refine FIdx.nat (by omega) ?_ | refine FIdx.int (by omega) ?_ | refine FTo.nat (by omega) ?_ | refine FTo.int (by omega) ?_) | ((with_reducible refine Need.mk ?_ ?_); focus exact needA) | (with_reducible refine FApp.grow ?_) | (with_reducible refine FOr.pub ?_)))
        (try (conv => whnf))
        exact ⟨⟨.agg 4 (ofL [aItems false false items, .own 0 (n + 1), AI wrong, cpInts grades]), [rowJ (n + 1) judges], [3], Cut.A, Ln.aggN ⟨⟨⟨⟨True.intro, Ln.A⟩, Ln.A⟩, Ln.A⟩, Ln.A⟩, by subst hgl; subst hil; rfl, rfl⟩⟩

end Go.Proofs.Ytbpilgflejdhaaa

namespace Go.Proofs.Ytbpilgflejdhaaa
open Go.RowKit

set_option maxHeartbeats 8000000
set_option maxRecDepth 100000
theorem span_ok (a b : Int) : ACall Try.prog 21 [AI a, AI b] [] (fun r h => r = .agg 2 (ofL [AI a, AI b]) ∧ h = []) := by
  (refine fcall_of mixed Try.func21 rfl (by decide) (hs := {}) ?k (ac := ?ac) ?c (rs := ?rs) ?r ?l ?H; (case k => kernel_rfl); (case c => (conv => (lhs; cbv))); (case r => (conv => (lhs; cbv))); (case l => exact Nat.le_of_ble_eq_true rfl))
  (repeat' ((try (conv => whnf)); first | (with_reducible first | refine FCond.tA ?_ | refine FCond.fA ?_) | ((with_reducible refine FCond.i (fun hq => ?_) (fun hq => ?_)) <;> (try simp only [zA, zE, zD, zJ, zB, zI, Int.not_le, Int.not_lt] at hq)) | (with_reducible first | refine Fits.in64 (by omega) ?_ | refine FIdx.nat (by omega) ?_ | refine FIdx.int (by omega) ?_ | refine FTo.nat (by omega) ?_ | refine FTo.int (by omega) ?_) | ((with_reducible refine Need.mk ?_ ?_); focus exact needA) | (with_reducible refine FApp.grow ?_) | (with_reducible refine FOr.pub ?_)))
  all_goals (try (conv => whnf))
  all_goals ((refine ⟨⟨_, [], [], Cut.nil _, Ln.sameB _ rfl, ?_, rfl⟩⟩); rfl)
theorem copyV (f : PaF) (p : Paper) (hv : Valid p) : ACall Try.prog 16 [aPaper f p] [] (fun v h => v = .agg 4 (ofL [aItems false false p.items, oJ 0 p.judges.length, AI p.wrong, cpInts p.grades]) ∧ h = hJ p.judges.length p.judges) := by
  obtain ⟨items, judges, wrong, grades⟩ := p
  have h1 := hv.il
  have h2 : judges.length ≤ 4 := hv.jl
  have h3 : grades.length ≤ 5 := hv.gl
  have h4 := hv.ju
  rcases items with _ | ⟨i0, is⟩
  · exact absurd h1.1 (Nat.not_succ_le_zero 0)
  · simp only [List.length_cons] at h1 h4
    refine copyJ3 f i0 is judges wrong grades (by omega) (by omega) (by omega) (fun k hk => ?_)
    have := (h4 k hk).2.2.2.2.2
    omega
theorem copy_0 (f : PaF) (p : Paper) (hv : Valid p) (h : p.judges.length = 0) : ACall Try.prog 16 [aPaper f p] [] (fun v h => v = .agg 4 (ofL [aItems false false p.items, nilS, AI p.wrong, cpInts p.grades]) ∧ h = []) := by
  have := copyV f p hv
  rw [h] at this
  exact this
theorem copy_s (f : PaF) (p : Paper) (hv : Valid p) {n : Nat} (h : p.judges.length = n + 1) : ACall Try.prog 16 [aPaper f p] [] (fun v h => v = .agg 4 (ofL [aItems false false p.items, .own 0 (n + 1), AI p.wrong, cpInts p.grades]) ∧ h = [rowJ (n + 1) p.judges]) := by
  have := copyV f p hv
  rw [h] at this
  exact this
end Go.Proofs.Ytbpilgflejdhaaa

namespace Go.Proofs.Ytbpilgflejdhaaa
open Go.RowKit

theorem mjRow_ok {n : Nat} {l : List Judge} (hl : l.length = n) (z e : Bool) (j : Judge) (d : Nat → Nat → AV) (hd : ∀ o, o < 4 → d 0 o = cJudge z e j o) {k : Nat} (hk : k < n + 1) {o : Nat} (ho : o < 4) : cJudge (if k < l.length then false else z) (if k < l.length then false else e) ((l ++ [j]).getD k default) o = appc n (cJu l) d k o := by
  by_cases h : k < n
  · simp only [appc, if_pos h, if_pos (show k < l.length by omega)]
    rw [show (l ++ [j]).getD k default = l.getD k default by simp [List.getD, List.getElem?_append_left (show k < l.length by omega)]]
  · obtain rfl : k = n := by omega
    simp only [appc, Nat.lt_irrefl, if_false, Nat.sub_self, if_neg (show ¬ k < l.length by omega)]
    rw [hd o ho, show (l ++ [j]).getD k default = j by simp [List.getD, ← hl]]
theorem mjRow_s (l : List Judge) {n : Nat} (hl : l.length = n + 1) (z e : Bool) (j : Judge) (d : Nat → Nat → AV) (hd : ∀ o, o < 4 → d 0 o = cJudge z e j o) : ∀ k, k < n + 1 + 1 → ∀ o, o < 4 → cJudge (if k < l.length then false else z) (if k < l.length then false else e) ((l ++ [j]).getD k default) o = appc (n + 1) (cJu l) d k o := fun _ hk _ ho => mjRow_ok hl z e j d hd hk ho
theorem mjRow_0 (l : List Judge) (hl : l.length = 0) (z e : Bool) (j : Judge) (d : Nat → Nat → AV) (hd : ∀ o, o < 4 → d 0 o = cJudge z e j o) {c : Nat → Nat → AV} : ∀ k, k < 0 + (0 + 1) → ∀ o, o < 4 → cJudge (if k < l.length then false else z) (if k < l.length then false else e) ((l ++ [j]).getD k default) o = appc 0 c d k o := fun k hk o ho => by
  rw [mjRow_ok hl z e j d hd (by omega) ho]
  simp only [appc, Nat.not_lt_zero, if_false]
/-- What the law asks of Range. -/
structure MoreFacts (rd : Paper → Bool) (rng : Paper → (Int × Int) × Int) : Prop where
  vl : ∀ p, rd p = true → Valid p ∧ validB p = true
  code : ∀ p, validB p = true → (rng p).2 = 0 ∨ (rng p).2 = 3
  more : ∀ p j, validB p = true → validB { p with judges := p.judges ++ [j] } = true → (rng { p with judges := p.judges ++ [j] }).2 = 0 → (rng p).2 = 0 ∧ (rng p).1.1 ≤ (rng { p with judges := p.judges ++ [j] }).1.1 ∧ (rng { p with judges := p.judges ++ [j] }).1.2 ≤ (rng p).1.2
  wide : ∀ p xw xe xd (who : Option Nat), validB p = true → 0 ≤ xw → 0 ≤ xe → 0 ≤ xd → (∀ k, who = some k → k < p.judges.length) → ((rng (wideP p xw xe xd who)).2 = 0 ∨ (rng (wideP p xw xe xd who)).2 = 3) ∧ ((rng p).2 = 0 → (rng (wideP p xw xe xd who)).2 = 0 ∧ (rng (wideP p xw xe xd who)).1.1 ≤ (rng p).1.1 ∧ (rng p).1.2 ≤ (rng (wideP p xw xe xd who)).1.2)
def f1 (p : Paper) (z e : Bool) : PaF := ⟨false, false, false, false, false, decide (p.grades.length = 0), fun k => if k < p.judges.length then false else z, fun k => if k < p.judges.length then false else e⟩
theorem sized_more {p : Paper} (hv : Valid p) {j : Judge} (hj : j.marks.length ≤ 20) : Sized ⟨p.items, p.judges ++ [j], p.wrong, p.grades⟩ := by
  have h1 := hv.il
  have h2 := hv.jl
  have h3 := hv.gl
  refine ⟨by show p.items.length ≤ _; omega, by show (p.judges ++ [j]).length ≤ _; simp; omega, by show p.grades.length ≤ _; omega, fun k hk => ?_⟩
  have hk : k < (p.judges ++ [j]).length := hk
  show ((p.judges ++ [j]).getD k default).marks.length ≤ _
  by_cases h : k < p.judges.length
  · have := (hv.ju k h).2.2.2.2.2
    rw [show (p.judges ++ [j]).getD k default = p.judges.getD k default by simp [List.getD, List.getElem?_append_left h]]
    omega
  · simp only [List.length_append, List.length_cons, List.length_nil] at hk
    obtain rfl : k = p.judges.length := by omega
    rw [show (p.judges ++ [j]).getD p.judges.length default = j by simp [List.getD]]
    omega
theorem set_at {l : List Judge} {k : Nat} (x : Judge) (hk : k < l.length) : (l.set k x).getD k default = x := by simp [List.getD, hk]
theorem set_off {l : List Judge} {k i : Nat} (x : Judge) (h : i ≠ k) : (l.set k x).getD i default = l.getD i default := by simp [List.getD, List.getElem?_set, Ne.symm h]
theorem sized_wide {p : Paper} (hv : Valid p) (xw xe xd : Int) (who : Option Nat) (hk : ∀ k, who = some k → k < p.judges.length) : Sized (wideP p xw xe xd who) := by
  have h1 := hv.il
  have h2 := hv.jl
  have h3 := hv.gl
  cases who with
  | none => exact ⟨by show p.items.length ≤ _; omega, by show p.judges.length ≤ _; omega, by show p.grades.length ≤ _; omega, fun i hi => by
      have hi : i < p.judges.length := hi
      have := (hv.ju i hi).2.2.2.2.2
      show (p.judges.getD i default).marks.length ≤ _
      omega⟩
  | some k =>
    have hk := hk k rfl
    refine ⟨by show p.items.length ≤ _; omega, by show (p.judges.set k _).length ≤ _; rw [List.length_set]; omega, by show p.grades.length ≤ _; omega, fun i hi => ?_⟩
    have hi : i < (p.judges.set k (easeJ (p.judges.getD k default) xe xd)).length := hi
    rw [List.length_set] at hi
    have a := (hv.ju i hi).2.2.2.2.2
    have b := (hv.ju k hk).2.2.2.2.2
    show ((p.judges.set k (easeJ (p.judges.getD k default) xe xd)).getD i default).marks.length ≤ _
    by_cases e : i = k
    · subst e
      rw [set_at (l := p.judges) _ hk]
      show (p.judges.getD i default).marks.length ≤ _
      omega
    · rw [set_off (l := p.judges) _ e]; omega
theorem Ln.nilD {σ : Nat → Nat → Prop} {Bp : Nat → Prop} {H : List AB} {n' sz : Nat} {c' : Nat → Nat → AV} (h : n' = 0) : Ln σ Bp H nilS (.sl (decide (n' = 0)) (decide (n' = 0)) n' sz c') := by
  subst h
  exact Ln.slz _ _ _ _ _ _ _ (fun h => h)
theorem Ln.ownD {σ : Nat → Nat → Prop} {Bp : Nat → Prop} {H : List AB} {d n n' N sz : Nat} {c c' : Nat → Nat → AV} (h0 : 0 < n') (h : Bp d) (hd : H[d]? = some (.row N sz c)) (hn : n ≤ N) (e : n = n') (hc : ∀ k, k < n → ∀ o, o < sz → c' k o = c k o) : Ln σ Bp H (.own d n) (.sl (decide (n' = 0)) (decide (n' = 0)) n' sz c') := by
  rw [decide_eq_false (by omega)]; exact Ln.pubE h hd hn e hc
theorem updJ (l : List Judge) {k n : Nat} (hk : k < l.length) (x : Judge) (d : Nat → AV) (hd : ∀ o, o < 4 → d o = cJudge false false x o) : ∀ i, i < n → ∀ o, o < 4 → cJudge false false ((l.set k x).getD i default) o = updRm (cJu l) k d i o := by
  intro i _ o ho
  unfold updRm
  by_cases e : i = k
  · rw [if_pos e, e, set_at x hk, hd o ho]
  · rw [if_neg e, set_off x e]
def f2 (p : Paper) : PaF := ⟨false, false, decide (p.judges.length = 0), decide (p.judges.length = 0), false, decide (p.grades.length = 0), fun _ => false, fun _ => false⟩
def f3 (p : Paper) : PaF := ⟨false, false, false, false, false, decide (p.grades.length = 0), fun _ => false, fun _ => false⟩
set_option maxHeartbeats 8000000
set_option maxRecDepth 100000
theorem moreL {rd : Paper → Bool} {rng : Paper → (Int × Int) × Int}
    (cR : ∀ f p, Sized p → ACall Try.prog 18 [aPaper f p] [] (fun r h => r = .bool (rd p) ∧ h = []))
    (cK : ∀ f p, Sized p → ACall Try.prog 20 [aPaper f p] [] (fun r h => r = AI (checkE p) ∧ h = []))
    (cG : ∀ f p, Sized p → ACall Try.prog 19 [aPaper f p] [] (fun r h => r = aRange (rng p) ∧ h = []))
    (cW : ACall Try.prog 14 [] [] (fun r h => r = .bool true ∧ h = []))
    (F : MoreFacts rd rng)
    (f : PaF) (p : Paper) (hs : Sized p) (z e : Bool) (j : Judge) (hj : j.marks.length ≤ 9223372036854775807) (xw who xe xd : Int) :
    ACall Try.prog 4 [aPaper f p, .agg 8 (ofL [AI j.lo, AI j.hi, AI j.err, aInts z e j.marks, AI xw, AI who, AI xe, AI xd])] [] (fun r h => r = .bool true ∧ h = []) := by
  have c1 := cR f p hs
  have c2 := cG f p hs
  (refine fcall_of mixed Try.func4 rfl (by decide) (hs := { pub := [8, 12, 19] }) ?k (ac := ?ac) ?c (rs := ?rs) ?r ?l ?H; (case k => kernel_rfl); (case c => (conv => (lhs; cbv))); (case r => (conv => (lhs; cbv))); (case l => exact Nat.le_of_ble_eq_true rfl))
  cases hr : rd p
  · rw [hr] at c1
    (repeat' ((try (conv => whnf)); first | (with_reducible first | refine FCond.t rfl ?_ | refine FCond.f rfl ?_) | ((with_reducible refine FCond.uT (fun hq => ?_)); rw [hq]; (with_reducible refine FCond.t rfl ?_); clear hq) | ((with_reducible refine FCond.uF (fun hq => ?_)); rw [hq]; (with_reducible refine FCond.f rfl ?_); clear hq) | ((with_reducible refine FCond.i2 (fun hq => ?_) (fun hq => ?_)) <;> (rw [hq]; (with_reducible first | refine FCond.t rfl ?_ | refine FCond.f rfl ?_); (try simp only [zA, zE, zD, zJ, zB, zI, Int.not_le, Int.not_lt] at hq))) | (with_reducible first | refine Fits.in64 (by omega) ?_ | refine FIdx.nat (by omega) ?_ | refine FIdx.int (by omega) ?_ | refine FTo.nat (by omega) ?_ | refine FTo.int (by omega) ?_) | ((with_reducible refine Need.mk ?_ ?_); focus exact needA) | (with_reducible refine FApp.grow ?_) | (refine FCall.pure (c1) ⟨Ln.sameB _ rfl, True.intro⟩ rfl ?_) | (refine FCall.pure cW True.intro rfl ?_) | (with_reducible refine FOr.pub ?_)))
    all_goals (try (conv => whnf))
    all_goals ((refine ⟨⟨_, [], [], Cut.nil _, Ln.sameB _ rfl, ?_, rfl⟩⟩); rfl)
  · rw [hr] at c1
    by_cases hc : p.judges.length ≤ 2 ∧ j.marks.length ≤ 20 ∧ 0 ≤ xw ∧ xw ≤ 9 ∧ 0 ≤ xe ∧ xe ≤ 9 ∧ 0 ≤ xd ∧ xd ≤ 9
    · obtain ⟨h1, h2, h3, h4, h5, h6, h7, h8⟩ := hc
      obtain ⟨hV, hv⟩ := F.vl p hr
      have hcode := F.code p hv
      have fm := F.more p j hv
      have sm := sized_more hV h2
      have c4 := cK (f1 p z e) _ sm
      have c5 := cG (f1 p z e) _ sm
      have fc := F.code ⟨p.items, p.judges ++ [j], p.wrong, p.grades⟩
      rcases hM : rng ⟨p.items, p.judges ++ [j], p.wrong, p.grades⟩ with ⟨⟨lo2, hi2⟩, cd⟩
      rw [hM] at c5 fm fc
      have fm : validB ⟨p.items, p.judges ++ [j], p.wrong, p.grades⟩ = true → cd = 0 → (rng p).2 = 0 ∧ (rng p).1.1 ≤ lo2 ∧ hi2 ≤ (rng p).1.2 := fm
      have fc : validB ⟨p.items, p.judges ++ [j], p.wrong, p.grades⟩ = true → cd = 0 ∨ cd = 3 := fc
      rcases hR : rng p with ⟨⟨lo, hi⟩, cc⟩
      rw [hR] at c2 hcode fm
      have fm : validB ⟨p.items, p.judges ++ [j], p.wrong, p.grades⟩ = true → cd = 0 → cc = 0 ∧ lo ≤ lo2 ∧ hi2 ≤ hi := fm
      have hcode : cc = 0 ∨ cc = 3 := hcode
      apply cutG
      · intro rest
        obtain hn | ⟨n, hn⟩ : p.judges.length = 0 ∨ ∃ n, p.judges.length = n + 1 := by cases p.judges.length <;> simp
        · have c3 := copy_0 f p hV hn
          rcases hcode with hcode | hcode
          all_goals
            (repeat' ((try (conv => whnf)); first | (with_reducible first | refine FCond.t rfl ?_ | refine FCond.f rfl ?_) | ((with_reducible refine FCond.uT (fun hq => ?_)); rw [hq]; (with_reducible refine FCond.t rfl ?_); clear hq) | ((with_reducible refine FCond.uF (fun hq => ?_)); rw [hq]; (with_reducible refine FCond.f rfl ?_); clear hq) | ((with_reducible refine FCond.i2 (fun hq => ?_) (fun hq => ?_)) <;> (rw [hq]; (with_reducible first | refine FCond.t rfl ?_ | refine FCond.f rfl ?_); (try simp only [zA, zE, zD, zJ, zB, zI, Int.not_le, Int.not_lt] at hq))) | (with_reducible first | refine Fits.in64 (by omega) ?_ | refine FIdx.nat (by omega) ?_ | refine FIdx.int (by omega) ?_ | refine FTo.nat (by omega) ?_ | refine FTo.int (by omega) ?_) | ((with_reducible refine Need.mk ?_ ?_); focus exact needA) | (with_reducible refine FApp.grow ?_) | (refine FCall.pure (c1) ⟨Ln.sameB _ rfl, True.intro⟩ rfl ?_) | (refine FCall.pure (c2) ⟨Ln.sameB _ rfl, True.intro⟩ rfl ?_) | ((refine FCall.give [] [] (c3) rfl rfl True.intro ⟨Ln.A, True.intro⟩ ?_); rintro _ _ ⟨rfl, rfl⟩; (refine ⟨by first | exact Nat.le_of_ble_eq_true rfl | omega, .inl rfl, ?_⟩)) | (with_reducible refine FOr.pub ?_)))
            all_goals (try (conv => whnf))
            all_goals first
              | (exfalso; omega)
              | exact FWk.of [(2, .ptr 0 0), (3, .ptr 1 0), (4, .bool false), (5, .ptr 2 0), (6, AI cc), (7, .ptr 3 0)] [.box 4 (cPaper f p), .box 8 (ofL [AI j.lo, AI j.hi, AI j.err, aInts z e j.marks, AI xw, AI who, AI xe, AI xd]), .box 2 (ofL [AI lo, AI hi]), .box 4 (cPaper (f1 p z e) ⟨p.items, p.judges ++ [j], p.wrong, p.grades⟩)] [0, 1, 2, 3] (Cut.of (Nat.le_of_ble_eq_true rfl) rfl rfl (CutL.turned rfl (LnB.boxN ⟨⟨⟨⟨True.intro, Ln.sameB _ rfl⟩, Ln.sameB _ rfl⟩, Ln.sameB _ rfl⟩, Ln.sameB _ rfl⟩) (CutL.turned rfl (LnB.boxN ⟨⟨⟨⟨⟨⟨⟨⟨True.intro, Ln.sameB _ rfl⟩, Ln.sameB _ rfl⟩, Ln.sameB _ rfl⟩, Ln.sameB _ rfl⟩, Ln.sameB _ rfl⟩, Ln.sameB _ rfl⟩, Ln.sameB _ rfl⟩, Ln.sameB _ rfl⟩) (CutL.turned rfl (LnB.boxN ⟨⟨True.intro, Ln.sameB _ rfl⟩, Ln.sameB _ rfl⟩) (CutL.turned rfl (LnB.boxN ⟨⟨⟨⟨True.intro, Ln.sameB _ rfl⟩, by exact Ln.pubE (goneB rfl) rfl (Nat.le_refl _) (by show _ = (p.judges ++ [j]).length; rw [List.length_append, hn]; rfl) (mjRow_0 p.judges hn z e j _ (fun o ho => rfl))⟩, Ln.sameB _ rfl⟩, Ln.sameB _ rfl⟩) CutL.done))))) ⟨Ln.ptr _ _ _ rfl, Ln.ptr _ _ _ rfl, Ln.sameB _ rfl, Ln.ptr _ _ _ rfl, Ln.A, Ln.ptr _ _ _ rfl, True.intro⟩ rest.h
        · have c3 := copy_s f p hV hn
          rcases hcode with hcode | hcode
          all_goals
            (repeat' ((try (conv => whnf)); first | (with_reducible first | refine FCond.t rfl ?_ | refine FCond.f rfl ?_) | ((with_reducible refine FCond.uT (fun hq => ?_)); rw [hq]; (with_reducible refine FCond.t rfl ?_); clear hq) | ((with_reducible refine FCond.uF (fun hq => ?_)); rw [hq]; (with_reducible refine FCond.f rfl ?_); clear hq) | ((with_reducible refine FCond.i2 (fun hq => ?_) (fun hq => ?_)) <;> (rw [hq]; (with_reducible first | refine FCond.t rfl ?_ | refine FCond.f rfl ?_); (try simp only [zA, zE, zD, zJ, zB, zI, Int.not_le, Int.not_lt] at hq))) | (with_reducible first | refine Fits.in64 (by omega) ?_ | refine FIdx.nat (by omega) ?_ | refine FIdx.int (by omega) ?_ | refine FTo.nat (by omega) ?_ | refine FTo.int (by omega) ?_) | ((with_reducible refine Need.mk ?_ ?_); focus exact needA) | (with_reducible refine FApp.grow ?_) | (refine FCall.pure (c1) ⟨Ln.sameB _ rfl, True.intro⟩ rfl ?_) | (refine FCall.pure (c2) ⟨Ln.sameB _ rfl, True.intro⟩ rfl ?_) | ((refine FCall.give [] [] (c3) rfl rfl True.intro ⟨Ln.A, True.intro⟩ ?_); rintro _ _ ⟨rfl, rfl⟩; (refine ⟨by first | exact Nat.le_of_ble_eq_true rfl | omega, .inl rfl, ?_⟩)) | (with_reducible refine FOr.pub ?_)))
            all_goals (try (conv => whnf))
            all_goals first
              | (exfalso; omega)
              | exact FWk.of [(2, .ptr 0 0), (3, .ptr 1 0), (4, .bool false), (5, .ptr 2 0), (6, AI cc), (7, .ptr 3 0)] [.box 4 (cPaper f p), .box 8 (ofL [AI j.lo, AI j.hi, AI j.err, aInts z e j.marks, AI xw, AI who, AI xe, AI xd]), .box 2 (ofL [AI lo, AI hi]), .box 4 (cPaper (f1 p z e) ⟨p.items, p.judges ++ [j], p.wrong, p.grades⟩)] [0, 1, 2, 4] (Cut.of (Nat.le_of_ble_eq_true rfl) rfl rfl (CutL.turned rfl (LnB.boxN ⟨⟨⟨⟨True.intro, Ln.sameB _ rfl⟩, Ln.sameB _ rfl⟩, Ln.sameB _ rfl⟩, Ln.sameB _ rfl⟩) (CutL.turned rfl (LnB.boxN ⟨⟨⟨⟨⟨⟨⟨⟨True.intro, Ln.sameB _ rfl⟩, Ln.sameB _ rfl⟩, Ln.sameB _ rfl⟩, Ln.sameB _ rfl⟩, Ln.sameB _ rfl⟩, Ln.sameB _ rfl⟩, Ln.sameB _ rfl⟩, Ln.sameB _ rfl⟩) (CutL.turned rfl (LnB.boxN ⟨⟨True.intro, Ln.sameB _ rfl⟩, Ln.sameB _ rfl⟩) (CutL.turned rfl (LnB.boxN ⟨⟨⟨⟨True.intro, Ln.sameB _ rfl⟩, by exact Ln.pubE (goneB rfl) rfl (Nat.le_refl _) (by show _ = (p.judges ++ [j]).length; rw [List.length_append, hn]; rfl) (mjRow_s p.judges hn z e j _ (fun o ho => rfl))⟩, Ln.sameB _ rfl⟩, Ln.sameB _ rfl⟩) CutL.done))))) ⟨Ln.ptr _ _ _ rfl, Ln.ptr _ _ _ rfl, Ln.sameB _ rfl, Ln.ptr _ _ _ rfl, Ln.A, Ln.ptr _ _ _ rfl, True.intro⟩ rest.h
      · (try (conv => whnf))
        apply cutG
        · intro rest
          cases hvm : validB ⟨p.items, p.judges ++ [j], p.wrong, p.grades⟩
          · rw [show checkE ⟨p.items, p.judges ++ [j], p.wrong, p.grades⟩ = 90 by unfold checkE; rw [hvm]; rfl] at c4
            (repeat' ((try (conv => whnf)); first | (with_reducible first | refine FCond.t rfl ?_ | refine FCond.f rfl ?_) | ((with_reducible refine FCond.uT (fun hq => ?_)); rw [hq]; (with_reducible refine FCond.t rfl ?_); clear hq) | ((with_reducible refine FCond.uF (fun hq => ?_)); rw [hq]; (with_reducible refine FCond.f rfl ?_); clear hq) | ((with_reducible refine FCond.i2 (fun hq => ?_) (fun hq => ?_)) <;> (rw [hq]; (with_reducible first | refine FCond.t rfl ?_ | refine FCond.f rfl ?_); (try simp only [zA, zE, zD, zJ, zB, zI, Int.not_le, Int.not_lt] at hq))) | (with_reducible first | refine Fits.in64 (by omega) ?_ | refine FIdx.nat (by omega) ?_ | refine FIdx.int (by omega) ?_ | refine FTo.nat (by omega) ?_ | refine FTo.int (by omega) ?_) | ((with_reducible refine Need.mk ?_ ?_); focus exact needA) | (with_reducible refine FApp.grow ?_) | (refine FCall.pure (c4) ⟨Ln.sameB _ rfl, True.intro⟩ rfl ?_) | (with_reducible refine FOr.pub ?_)))
            all_goals (try (conv => whnf))
            all_goals first
              | (exfalso; omega)
              | exact FWk.of [(2, .ptr 0 0), (3, .ptr 1 0), (5, .ptr 2 0), (6, AI cc)] [.box 4 (cPaper f p), .box 8 (ofL [AI j.lo, AI j.hi, AI j.err, aInts z e j.marks, AI xw, AI who, AI xe, AI xd]), .box 2 (ofL [AI lo, AI hi])] [0, 1, 2] (Cut.of (Nat.le_of_ble_eq_true rfl) rfl rfl (CutL.turned rfl (LnB.boxN ⟨⟨⟨⟨True.intro, Ln.sameB _ rfl⟩, Ln.sameB _ rfl⟩, Ln.sameB _ rfl⟩, Ln.sameB _ rfl⟩) (CutL.turned rfl (LnB.boxN ⟨⟨⟨⟨⟨⟨⟨⟨True.intro, Ln.sameB _ rfl⟩, Ln.sameB _ rfl⟩, Ln.sameB _ rfl⟩, Ln.sameB _ rfl⟩, Ln.sameB _ rfl⟩, Ln.sameB _ rfl⟩, Ln.sameB _ rfl⟩, Ln.sameB _ rfl⟩) (CutL.turned rfl (LnB.boxN ⟨⟨True.intro, Ln.sameB _ rfl⟩, Ln.sameB _ rfl⟩) CutL.done)))) ⟨Ln.ptr _ _ _ rfl, Ln.ptr _ _ _ rfl, Ln.ptr _ _ _ rfl, Ln.A, True.intro⟩ rest.h
          · rw [show checkE ⟨p.items, p.judges ++ [j], p.wrong, p.grades⟩ = 0 by unfold checkE; rw [hvm]; rfl] at c4
            have fm := fm hvm
            rcases fc hvm with fc | fc
            · obtain ⟨g1, g2, g3⟩ := fm fc
              (repeat' ((try (conv => whnf)); first | (with_reducible first | refine FCond.t rfl ?_ | refine FCond.f rfl ?_) | ((with_reducible refine FCond.uT (fun hq => ?_)); rw [hq]; (with_reducible refine FCond.t rfl ?_); clear hq) | ((with_reducible refine FCond.uF (fun hq => ?_)); rw [hq]; (with_reducible refine FCond.f rfl ?_); clear hq) | ((with_reducible refine FCond.i2 (fun hq => ?_) (fun hq => ?_)) <;> (rw [hq]; (with_reducible first | refine FCond.t rfl ?_ | refine FCond.f rfl ?_); (try simp only [zA, zE, zD, zJ, zB, zI, Int.not_le, Int.not_lt] at hq))) | (with_reducible first | refine Fits.in64 (by omega) ?_ | refine FIdx.nat (by omega) ?_ | refine FIdx.int (by omega) ?_ | refine FTo.nat (by omega) ?_ | refine FTo.int (by omega) ?_) | ((with_reducible refine Need.mk ?_ ?_); focus exact needA) | (with_reducible refine FApp.grow ?_) | (refine FCall.pure (c4) ⟨Ln.sameB _ rfl, True.intro⟩ rfl ?_) | (refine FCall.pure (c5) ⟨Ln.sameB _ rfl, True.intro⟩ rfl ?_) | (with_reducible refine FOr.pub ?_)))
              all_goals (try (conv => whnf))
              all_goals first
                | (exfalso; omega)
                | exact FWk.of [(2, .ptr 0 0), (3, .ptr 1 0), (5, .ptr 2 0), (6, AI cc)] [.box 4 (cPaper f p), .box 8 (ofL [AI j.lo, AI j.hi, AI j.err, aInts z e j.marks, AI xw, AI who, AI xe, AI xd]), .box 2 (ofL [AI lo, AI hi])] [0, 1, 2] (Cut.of (Nat.le_of_ble_eq_true rfl) rfl rfl (CutL.turned rfl (LnB.boxN ⟨⟨⟨⟨True.intro, Ln.sameB _ rfl⟩, Ln.sameB _ rfl⟩, Ln.sameB _ rfl⟩, Ln.sameB _ rfl⟩) (CutL.turned rfl (LnB.boxN ⟨⟨⟨⟨⟨⟨⟨⟨True.intro, Ln.sameB _ rfl⟩, Ln.sameB _ rfl⟩, Ln.sameB _ rfl⟩, Ln.sameB _ rfl⟩, Ln.sameB _ rfl⟩, Ln.sameB _ rfl⟩, Ln.sameB _ rfl⟩, Ln.sameB _ rfl⟩) (CutL.turned rfl (LnB.boxN ⟨⟨True.intro, Ln.sameB _ rfl⟩, Ln.sameB _ rfl⟩) CutL.done)))) ⟨Ln.ptr _ _ _ rfl, Ln.ptr _ _ _ rfl, Ln.ptr _ _ _ rfl, Ln.A, True.intro⟩ rest.h
            · (repeat' ((try (conv => whnf)); first | (with_reducible first | refine FCond.t rfl ?_ | refine FCond.f rfl ?_) | ((with_reducible refine FCond.uT (fun hq => ?_)); rw [hq]; (with_reducible refine FCond.t rfl ?_); clear hq) | ((with_reducible refine FCond.uF (fun hq => ?_)); rw [hq]; (with_reducible refine FCond.f rfl ?_); clear hq) | ((with_reducible refine FCond.i2 (fun hq => ?_) (fun hq => ?_)) <;> (rw [hq]; (with_reducible first | refine FCond.t rfl ?_ | refine FCond.f rfl ?_); (try simp only [zA, zE, zD, zJ, zB, zI, Int.not_le, Int.not_lt] at hq))) | (with_reducible first | refine Fits.in64 (by omega) ?_ | refine FIdx.nat (by omega) ?_ | refine FIdx.int (by omega) ?_ | refine FTo.nat (by omega) ?_ | refine FTo.int (by omega) ?_) | ((with_reducible refine Need.mk ?_ ?_); focus exact needA) | (with_reducible refine FApp.grow ?_) | (refine FCall.pure (c4) ⟨Ln.sameB _ rfl, True.intro⟩ rfl ?_) | (refine FCall.pure (c5) ⟨Ln.sameB _ rfl, True.intro⟩ rfl ?_) | (with_reducible refine FOr.pub ?_)))
              all_goals (try (conv => whnf))
              all_goals first
                | (exfalso; omega)
                | exact FWk.of [(2, .ptr 0 0), (3, .ptr 1 0), (5, .ptr 2 0), (6, AI cc)] [.box 4 (cPaper f p), .box 8 (ofL [AI j.lo, AI j.hi, AI j.err, aInts z e j.marks, AI xw, AI who, AI xe, AI xd]), .box 2 (ofL [AI lo, AI hi])] [0, 1, 2] (Cut.of (Nat.le_of_ble_eq_true rfl) rfl rfl (CutL.turned rfl (LnB.boxN ⟨⟨⟨⟨True.intro, Ln.sameB _ rfl⟩, Ln.sameB _ rfl⟩, Ln.sameB _ rfl⟩, Ln.sameB _ rfl⟩) (CutL.turned rfl (LnB.boxN ⟨⟨⟨⟨⟨⟨⟨⟨True.intro, Ln.sameB _ rfl⟩, Ln.sameB _ rfl⟩, Ln.sameB _ rfl⟩, Ln.sameB _ rfl⟩, Ln.sameB _ rfl⟩, Ln.sameB _ rfl⟩, Ln.sameB _ rfl⟩, Ln.sameB _ rfl⟩) (CutL.turned rfl (LnB.boxN ⟨⟨True.intro, Ln.sameB _ rfl⟩, Ln.sameB _ rfl⟩) CutL.done)))) ⟨Ln.ptr _ _ _ rfl, Ln.ptr _ _ _ rfl, Ln.ptr _ _ _ rfl, Ln.A, True.intro⟩ rest.h
        · (try (conv => whnf))
          clear c4 c5 fm fc hM sm c1 c2
          have hwr := hV.wr
          by_cases hw : 0 ≤ who ∧ who < p.judges.length
          · obtain ⟨k, rfl⟩ := Int.eq_ofNat_of_zero_le hw.1
            have hk : k < p.judges.length := by omega
            obtain ⟨n, hn⟩ : ∃ n, p.judges.length = n + 1 := ⟨p.judges.length - 1, by omega⟩
            have hk2 : k < n + 1 := by omega
            have c3 := copy_s f p hV hn
            have hju := hV.ju k hk
            have hs3 := sized_wide hV xw xe xd (some k) (fun q e => by cases e; exact hk)
            obtain ⟨fd, fw⟩ := F.wide p xw xe xd (some k) hv h3 h5 h7 (fun q e => by cases e; exact hk)
            have c6 := cG (f3 p) _ hs3
            rcases hM : rng (wideP p xw xe xd (some k)) with ⟨⟨lo3, hi3⟩, cf⟩
            rw [hM] at fd fw c6
            rw [hR] at fw
            have fd : cf = 0 ∨ cf = 3 := fd
            have fw : cc = 0 → cf = 0 ∧ lo3 ≤ lo ∧ hi ≤ hi3 := fw
            apply cutG
            · intro rest
              (repeat' ((try (conv => whnf)); first | (with_reducible first | refine FCond.t rfl ?_ | refine FCond.f rfl ?_) | ((with_reducible refine FCond.uT (fun hq => ?_)); rw [hq]; (with_reducible refine FCond.t rfl ?_); clear hq) | ((with_reducible refine FCond.uF (fun hq => ?_)); rw [hq]; (with_reducible refine FCond.f rfl ?_); clear hq) | ((with_reducible refine FCond.i2 (fun hq => ?_) (fun hq => ?_)) <;> (rw [hq]; (with_reducible first | refine FCond.t rfl ?_ | refine FCond.f rfl ?_); (try simp only [zA, zE, zD, zJ, zB, zI, Int.not_le, Int.not_lt] at hq))) | (with_reducible first | refine Fits.in64 (by omega) ?_ | refine FIdx.nat (by omega) ?_ | refine FIdx.int (by omega) ?_ | refine FTo.nat (by omega) ?_ | refine FTo.int (by omega) ?_) | ((with_reducible refine Need.mk ?_ ?_); focus exact needA) | (with_reducible refine FApp.grow ?_) | ((refine FCall.give [] [] (c3) rfl rfl True.intro ⟨Ln.A, True.intro⟩ ?_); rintro _ _ ⟨rfl, rfl⟩; (refine ⟨by first | exact Nat.le_of_ble_eq_true rfl | omega, .inl rfl, ?_⟩)) | (refine FCall.pure ((span_ok _ _)) ⟨Ln.sameB _ rfl, Ln.sameB _ rfl, True.intro⟩ rfl ?_) | (with_reducible refine FOr.pub ?_)))
              all_goals (try (conv => whnf))
              all_goals first
                | (exfalso; omega)
                | exact FWk.of [(5, .ptr 0 0), (6, AI cc), (10, .ptr 1 0)] [.box 2 (ofL [AI lo, AI hi]), .box 4 (cPaper (f3 p) (wideP p xw xe xd (some k)))] [2, 4] (Cut.of (Nat.le_of_ble_eq_true rfl) rfl rfl (CutL.turned rfl (LnB.boxN ⟨⟨True.intro, Ln.sameB _ rfl⟩, Ln.sameB _ rfl⟩) (CutL.turned rfl (LnB.boxN ⟨⟨⟨⟨True.intro, Ln.sameB _ rfl⟩, by exact Ln.pubE (goneB rfl) rfl (Nat.le_refl _) (by show _ = (p.judges.set k _).length; rw [List.length_set, hn]) (updJ p.judges hk _ _ (fun o ho => by match o, ho with | 0, _ => rfl | 1, _ => rfl | 2, _ => rfl | 3, _ => rfl))⟩, Ln.sameB _ rfl⟩, Ln.sameB _ rfl⟩) CutL.done))) ⟨Ln.ptr _ _ _ rfl, Ln.A, Ln.ptr _ _ _ rfl, True.intro⟩ rest.h
            · (try (conv => whnf))
              rcases hcode with hcode | hcode
              · obtain ⟨g1, g2, g3⟩ := fw hcode
                (repeat' ((try (conv => whnf)); first | (with_reducible first | refine FCond.t rfl ?_ | refine FCond.f rfl ?_) | ((with_reducible refine FCond.uT (fun hq => ?_)); rw [hq]; (with_reducible refine FCond.t rfl ?_); clear hq) | ((with_reducible refine FCond.uF (fun hq => ?_)); rw [hq]; (with_reducible refine FCond.f rfl ?_); clear hq) | ((with_reducible refine FCond.i2 (fun hq => ?_) (fun hq => ?_)) <;> (rw [hq]; (with_reducible first | refine FCond.t rfl ?_ | refine FCond.f rfl ?_); (try simp only [zA, zE, zD, zJ, zB, zI, Int.not_le, Int.not_lt] at hq))) | (with_reducible first | refine Fits.in64 (by omega) ?_ | refine FIdx.nat (by omega) ?_ | refine FIdx.int (by omega) ?_ | refine FTo.nat (by omega) ?_ | refine FTo.int (by omega) ?_) | ((with_reducible refine Need.mk ?_ ?_); focus exact needA) | (with_reducible refine FApp.grow ?_) | (refine FCall.pure (c6) ⟨Ln.sameB _ rfl, True.intro⟩ rfl ?_) | (refine FCall.pure cW True.intro rfl ?_) | (with_reducible refine FOr.pub ?_)))
                all_goals (try (conv => whnf))
                all_goals first | ((refine ⟨⟨_, [], [], Cut.nil _, Ln.sameB _ rfl, ?_, rfl⟩⟩); rfl) | (exfalso; omega)
              · rcases fd with fd | fd
                all_goals
                  (repeat' ((try (conv => whnf)); first | (with_reducible first | refine FCond.t rfl ?_ | refine FCond.f rfl ?_) | ((with_reducible refine FCond.uT (fun hq => ?_)); rw [hq]; (with_reducible refine FCond.t rfl ?_); clear hq) | ((with_reducible refine FCond.uF (fun hq => ?_)); rw [hq]; (with_reducible refine FCond.f rfl ?_); clear hq) | ((with_reducible refine FCond.i2 (fun hq => ?_) (fun hq => ?_)) <;> (rw [hq]; (with_reducible first | refine FCond.t rfl ?_ | refine FCond.f rfl ?_); (try simp only [zA, zE, zD, zJ, zB, zI, Int.not_le, Int.not_lt] at hq))) | (with_reducible first | refine Fits.in64 (by omega) ?_ | refine FIdx.nat (by omega) ?_ | refine FIdx.int (by omega) ?_ | refine FTo.nat (by omega) ?_ | refine FTo.int (by omega) ?_) | ((with_reducible refine Need.mk ?_ ?_); focus exact needA) | (with_reducible refine FApp.grow ?_) | (refine FCall.pure (c6) ⟨Ln.sameB _ rfl, True.intro⟩ rfl ?_) | (refine FCall.pure cW True.intro rfl ?_) | (with_reducible refine FOr.pub ?_)))
                  all_goals (try (conv => whnf))
                  all_goals first | ((refine ⟨⟨_, [], [], Cut.nil _, Ln.sameB _ rfl, ?_, rfl⟩⟩); rfl) | (exfalso; omega)
          · have hs3 := sized_wide hV xw xe xd none (fun q e => by cases e)
            obtain ⟨fd, fw⟩ := F.wide p xw xe xd none hv h3 h5 h7 (fun q e => by cases e)
            have c6 := cG (f2 p) _ hs3
            rcases hM : rng (wideP p xw xe xd none) with ⟨⟨lo3, hi3⟩, cf⟩
            rw [hM] at fd fw c6
            rw [hR] at fw
            have fd : cf = 0 ∨ cf = 3 := fd
            have fw : cc = 0 → cf = 0 ∧ lo3 ≤ lo ∧ hi ≤ hi3 := fw
            apply cutG
            · intro rest
              obtain hn | ⟨n, hn⟩ : p.judges.length = 0 ∨ ∃ n, p.judges.length = n + 1 := by cases p.judges.length <;> simp
              · have c3 := copy_0 f p hV hn
                (repeat' ((try (conv => whnf)); first | (with_reducible first | refine FCond.t rfl ?_ | refine FCond.f rfl ?_) | ((with_reducible refine FCond.uT (fun hq => ?_)); rw [hq]; (with_reducible refine FCond.t rfl ?_); clear hq) | ((with_reducible refine FCond.uF (fun hq => ?_)); rw [hq]; (with_reducible refine FCond.f rfl ?_); clear hq) | ((with_reducible refine FCond.i2 (fun hq => ?_) (fun hq => ?_)) <;> (rw [hq]; (with_reducible first | refine FCond.t rfl ?_ | refine FCond.f rfl ?_); (try simp only [zA, zE, zD, zJ, zB, zI, Int.not_le, Int.not_lt] at hq))) | (with_reducible first | refine Fits.in64 (by omega) ?_ | refine FIdx.nat (by omega) ?_ | refine FIdx.int (by omega) ?_ | refine FTo.nat (by omega) ?_ | refine FTo.int (by omega) ?_) | ((with_reducible refine Need.mk ?_ ?_); focus exact needA) | (with_reducible refine FApp.grow ?_) | ((refine FCall.give [] [] (c3) rfl rfl True.intro ⟨Ln.A, True.intro⟩ ?_); rintro _ _ ⟨rfl, rfl⟩; (refine ⟨by first | exact Nat.le_of_ble_eq_true rfl | omega, .inl rfl, ?_⟩)) | (with_reducible refine FOr.pub ?_)))
                all_goals (try (conv => whnf))
                all_goals first
                  | (exfalso; omega)
                  | exact FWk.of [(5, .ptr 0 0), (6, AI cc), (10, .ptr 1 0)] [.box 2 (ofL [AI lo, AI hi]), .box 4 (cPaper (f2 p) (wideP p xw xe xd none))] [2, 3] (Cut.of (Nat.le_of_ble_eq_true rfl) rfl rfl (CutL.turned rfl (LnB.boxN ⟨⟨True.intro, Ln.sameB _ rfl⟩, Ln.sameB _ rfl⟩) (CutL.turned rfl (LnB.boxN ⟨⟨⟨⟨True.intro, Ln.sameB _ rfl⟩, by exact Ln.nilD hn⟩, Ln.sameB _ rfl⟩, Ln.sameB _ rfl⟩) CutL.done))) ⟨Ln.ptr _ _ _ rfl, Ln.A, Ln.ptr _ _ _ rfl, True.intro⟩ rest.h
              · have c3 := copy_s f p hV hn
                (repeat' ((try (conv => whnf)); first | (with_reducible first | refine FCond.t rfl ?_ | refine FCond.f rfl ?_) | ((with_reducible refine FCond.uT (fun hq => ?_)); rw [hq]; (with_reducible refine FCond.t rfl ?_); clear hq) | ((with_reducible refine FCond.uF (fun hq => ?_)); rw [hq]; (with_reducible refine FCond.f rfl ?_); clear hq) | ((with_reducible refine FCond.i2 (fun hq => ?_) (fun hq => ?_)) <;> (rw [hq]; (with_reducible first | refine FCond.t rfl ?_ | refine FCond.f rfl ?_); (try simp only [zA, zE, zD, zJ, zB, zI, Int.not_le, Int.not_lt] at hq))) | (with_reducible first | refine Fits.in64 (by omega) ?_ | refine FIdx.nat (by omega) ?_ | refine FIdx.int (by omega) ?_ | refine FTo.nat (by omega) ?_ | refine FTo.int (by omega) ?_) | ((with_reducible refine Need.mk ?_ ?_); focus exact needA) | (with_reducible refine FApp.grow ?_) | ((refine FCall.give [] [] (c3) rfl rfl True.intro ⟨Ln.A, True.intro⟩ ?_); rintro _ _ ⟨rfl, rfl⟩; (refine ⟨by first | exact Nat.le_of_ble_eq_true rfl | omega, .inl rfl, ?_⟩)) | (with_reducible refine FOr.pub ?_)))
                all_goals (try (conv => whnf))
                all_goals first
                  | (exfalso; omega)
                  | exact FWk.of [(5, .ptr 0 0), (6, AI cc), (10, .ptr 1 0)] [.box 2 (ofL [AI lo, AI hi]), .box 4 (cPaper (f2 p) (wideP p xw xe xd none))] [2, 4] (Cut.of (Nat.le_of_ble_eq_true rfl) rfl rfl (CutL.turned rfl (LnB.boxN ⟨⟨True.intro, Ln.sameB _ rfl⟩, Ln.sameB _ rfl⟩) (CutL.turned rfl (LnB.boxN ⟨⟨⟨⟨True.intro, Ln.sameB _ rfl⟩, by exact Ln.ownD (by show 0 < p.judges.length; omega) (goneB rfl) rfl (Nat.le_refl _) hn.symm (fun _ _ _ _ => rfl)⟩, Ln.sameB _ rfl⟩, Ln.sameB _ rfl⟩) CutL.done))) ⟨Ln.ptr _ _ _ rfl, Ln.A, Ln.ptr _ _ _ rfl, True.intro⟩ rest.h
            · (try (conv => whnf))
              rcases hcode with hcode | hcode
              · obtain ⟨g1, g2, g3⟩ := fw hcode
                (repeat' ((try (conv => whnf)); first | (with_reducible first | refine FCond.t rfl ?_ | refine FCond.f rfl ?_) | ((with_reducible refine FCond.uT (fun hq => ?_)); rw [hq]; (with_reducible refine FCond.t rfl ?_); clear hq) | ((with_reducible refine FCond.uF (fun hq => ?_)); rw [hq]; (with_reducible refine FCond.f rfl ?_); clear hq) | ((with_reducible refine FCond.i2 (fun hq => ?_) (fun hq => ?_)) <;> (rw [hq]; (with_reducible first | refine FCond.t rfl ?_ | refine FCond.f rfl ?_); (try simp only [zA, zE, zD, zJ, zB, zI, Int.not_le, Int.not_lt] at hq))) | (with_reducible first | refine Fits.in64 (by omega) ?_ | refine FIdx.nat (by omega) ?_ | refine FIdx.int (by omega) ?_ | refine FTo.nat (by omega) ?_ | refine FTo.int (by omega) ?_) | ((with_reducible refine Need.mk ?_ ?_); focus exact needA) | (with_reducible refine FApp.grow ?_) | (refine FCall.pure (c6) ⟨Ln.sameB _ rfl, True.intro⟩ rfl ?_) | (refine FCall.pure cW True.intro rfl ?_) | (with_reducible refine FOr.pub ?_)))
                all_goals (try (conv => whnf))
                all_goals first | ((refine ⟨⟨_, [], [], Cut.nil _, Ln.sameB _ rfl, ?_, rfl⟩⟩); rfl) | (exfalso; omega)
              · rcases fd with fd | fd
                all_goals
                  (repeat' ((try (conv => whnf)); first | (with_reducible first | refine FCond.t rfl ?_ | refine FCond.f rfl ?_) | ((with_reducible refine FCond.uT (fun hq => ?_)); rw [hq]; (with_reducible refine FCond.t rfl ?_); clear hq) | ((with_reducible refine FCond.uF (fun hq => ?_)); rw [hq]; (with_reducible refine FCond.f rfl ?_); clear hq) | ((with_reducible refine FCond.i2 (fun hq => ?_) (fun hq => ?_)) <;> (rw [hq]; (with_reducible first | refine FCond.t rfl ?_ | refine FCond.f rfl ?_); (try simp only [zA, zE, zD, zJ, zB, zI, Int.not_le, Int.not_lt] at hq))) | (with_reducible first | refine Fits.in64 (by omega) ?_ | refine FIdx.nat (by omega) ?_ | refine FIdx.int (by omega) ?_ | refine FTo.nat (by omega) ?_ | refine FTo.int (by omega) ?_) | ((with_reducible refine Need.mk ?_ ?_); focus exact needA) | (with_reducible refine FApp.grow ?_) | (refine FCall.pure (c6) ⟨Ln.sameB _ rfl, True.intro⟩ rfl ?_) | (refine FCall.pure cW True.intro rfl ?_) | (with_reducible refine FOr.pub ?_)))
                  all_goals (try (conv => whnf))
                  all_goals first | ((refine ⟨⟨_, [], [], Cut.nil _, Ln.sameB _ rfl, ?_, rfl⟩⟩); rfl) | (exfalso; omega)
    · (repeat' ((try (conv => whnf)); first | (with_reducible first | refine FCond.t rfl ?_ | refine FCond.f rfl ?_) | ((with_reducible refine FCond.uT (fun hq => ?_)); rw [hq]; (with_reducible refine FCond.t rfl ?_); clear hq) | ((with_reducible refine FCond.uF (fun hq => ?_)); rw [hq]; (with_reducible refine FCond.f rfl ?_); clear hq) | ((with_reducible refine FCond.i2 (fun hq => ?_) (fun hq => ?_)) <;> (rw [hq]; (with_reducible first | refine FCond.t rfl ?_ | refine FCond.f rfl ?_); (try simp only [zA, zE, zD, zJ, zB, zI, Int.not_le, Int.not_lt] at hq))) | (with_reducible first | refine Fits.in64 (by omega) ?_ | refine FIdx.nat (by omega) ?_ | refine FIdx.int (by omega) ?_ | refine FTo.nat (by omega) ?_ | refine FTo.int (by omega) ?_) | ((with_reducible refine Need.mk ?_ ?_); focus exact needA) | (with_reducible refine FApp.grow ?_) | (refine FCall.pure (c1) ⟨Ln.sameB _ rfl, True.intro⟩ rfl ?_) | (refine FCall.pure cW True.intro rfl ?_) | (with_reducible refine FOr.pub ?_)))
      all_goals (try (conv => whnf))
      all_goals first | ((refine ⟨⟨_, [], [], Cut.nil _, Ln.sameB _ rfl, ?_, rfl⟩⟩); rfl) | (exfalso; omega)
end Go.Proofs.Ytbpilgflejdhaaa

namespace Go.Proofs.Ytbpilgflejdhaaa
open Go.RowKit

section
variable {M : Nat → Prop} {w : World} {g : GM} {v : Value}
theorem rep_ints {z e : Bool} {l : List Int} (h : rep M w (aInts z e l) g v) : ∃ A cap, v = .slice A l.length cap ∧ Ints w A l := by
  obtain ⟨A, cap, rfl, -, -, -, -, h⟩ := h
  refine ⟨A, cap, rfl, fun k hk => ?_⟩
  obtain ⟨b, off, u, hA, hb, -, hc, -, hr⟩ := h k hk 0 (Nat.lt_succ_self 0)
  have hr : u = .int .i64 (l.getD k 0) := hr
  subst hr
  rw [Nat.mul_one] at hc
  exact ⟨b, off, hA, hb, hc⟩
theorem same_at {A : Option Addr} {b off b' off' : Nat} (h : A = some ⟨b, off, none⟩) (h' : A = some ⟨b', off', none⟩) : b' = b ∧ off' = off := by
  subst h
  cases h'
  exact ⟨rfl, rfl⟩
theorem rep_items {z e : Bool} {l : List Item} (h : rep M w (aItems z e l) g v) : ∃ A cap, v = .slice A l.length cap ∧ ItemsAt w A l := by
  obtain ⟨A, cap, rfl, -, -, -, -, h⟩ := h
  refine ⟨A, cap, rfl, fun k hk => ?_⟩
  obtain ⟨b, off, u, hA, hb, -, hc, -, hr⟩ := h k hk 0 (by omega)
  obtain ⟨b', off', u', hA', -, -, hc', -, hr'⟩ := h k hk 1 (by omega)
  obtain ⟨rfl, rfl⟩ := same_at hA hA'
  have hr : u = .int .i64 (l.getD k default).weight := hr
  have hr' : u' = .int .i64 (l.getD k default).most := hr'
  subst hr; subst hr'
  exact ⟨_, _, hA, hb, hc, hc'⟩
theorem rep_judges {z e : Bool} {rz re : Nat → Bool} {l : List Judge} (hl : ∀ k, k < l.length → (l.getD k default).marks.length ≤ 9223372036854775807) (h : rep M w (aJudges z e rz re l) g v) : ∃ A cap, v = .slice A l.length cap ∧ JudgesAt w A l := by
  obtain ⟨A, cap, rfl, -, -, -, -, h⟩ := h
  refine ⟨A, cap, rfl, fun k hk => ?_⟩
  obtain ⟨b, off, u, hA, hb, -, hc, -, hr⟩ := h k hk 0 (by omega)
  obtain ⟨b1, off1, u1, hA1, -, -, hc1, -, hr1⟩ := h k hk 1 (by omega)
  obtain ⟨b2, off2, u2, hA2, -, -, hc2, -, hr2⟩ := h k hk 2 (by omega)
  obtain ⟨b3, off3, u3, hA3, -, -, hc3, -, hr3⟩ := h k hk 3 (by omega)
  obtain ⟨rfl, rfl⟩ := same_at hA hA1
  obtain ⟨rfl, rfl⟩ := same_at hA hA2
  obtain ⟨rfl, rfl⟩ := same_at hA hA3
  have hr : u = .int .i64 (l.getD k default).lo := hr
  have hr1 : u1 = .int .i64 (l.getD k default).hi := hr1
  have hr2 : u2 = .int .i64 (l.getD k default).err := hr2
  subst hr; subst hr1; subst hr2
  obtain ⟨mA, mc, rfl, hm⟩ := rep_ints (z := rz k) (e := re k) (l := (l.getD k default).marks) hr3
  exact ⟨_, _, hA, hb, hc, hc1, hc2, mA, mc, hc3, hm, hl k hk⟩
theorem rep_paper {f : PaF} {p : Paper} (hs : Sized p) (h : rep M w (aPaper f p) g v) : ∃ iA ic jA jc gA gc, v = .agg #[.slice iA p.items.length ic, .slice jA p.judges.length jc, .int .i64 p.wrong, .slice gA p.grades.length gc] ∧ PaperAt w iA jA gA p := by
  obtain ⟨cs, rfl, hz, h⟩ := h
  match cs, hz with
  | ⟨[a, b, c, d]⟩, _ =>
    obtain ⟨_, h0, -, r0⟩ := h 0 (by omega)
    obtain ⟨_, h1, -, r1⟩ := h 1 (by omega)
    obtain ⟨_, h2, -, r2⟩ := h 2 (by omega)
    obtain ⟨_, h3, -, r3⟩ := h 3 (by omega)
    cases h0; cases h1; cases h2; cases h3
    obtain ⟨iA, ic, ei, hi⟩ := rep_items (z := f.zi) (e := f.ei) r0
    obtain ⟨jA, jc, ej, hj⟩ := rep_judges (z := f.zj) (e := f.ej) (rz := f.rz) (re := f.re) hs.ml r1
    obtain ⟨gA, gc, eg, hg⟩ := rep_ints (z := f.zg) (e := f.eg) r3
    have r2 : c = .int .i64 p.wrong := r2
    subst ei; subst ej; subst eg; subst r2
    exact ⟨iA, ic, jA, jc, gA, gc, rfl, hi, hj, hg, hs.il, hs.jl, hs.gl⟩
end
theorem ext_tr {F : Nat → Prop} {g : GM} {w w' : World} (k : HOK F g w []) (e : Ext w w') : Tr F g [] w g [] w' := by
  refine ⟨⟨k.dom, ?_, ?_, ?_, ?_, ?_, ?_, ?_, fun b hb => ⟨Nat.lt_of_lt_of_le (k.fr b hb).1 e.size, (k.fr b hb).2⟩⟩, GM.le_refl _, ⟨e.os, e.tape, e.output, e.size, fun b hb _ => e.block b hb⟩, fun _ h => .inl h⟩
  · rintro d ⟨x, hx, -⟩; cases hx
  · rintro d d' b c c' ⟨x, hx, -⟩; cases hx
  · intro d _ _ _ _ h; cases h
  · intro d _ _ _ _ _ h; cases h
  · intro d _ _ _ _ h; cases h
  · intro d _ _ _ _ _ h; cases h
  · intro d _ _ _ _ _ h; cases h
/-- A contract over worlds, with a plain result, read over abstract values. -/
theorem ACall.plain {f : FuncId} {xs : List AV} {R : AV} (hf : ∃ fn, Try.prog.funcs[f]? = some fn ∧ (fn.name == "runtime.NumGoroutine") = false ∧ fn.body.isNone = false)
    (H : ∀ (M : Nat → Prop) (g : GM) (w : World) (vs : Array Value), vs.size = xs.length → (∀ (i : Nat) (x : AV), xs[i]? = some x → rep M w x g (vs.getD i undef)) → Calls Try.prog f vs w fun e w' => ∃ v, e = .returned v ∧ Ext w w' ∧ ∀ M g, rep M w' R g v) : ACall Try.prog f xs [] (fun r h => r = R ∧ h = []) :=
  ⟨hf, fun _ g w vs k hs hv => (H _ g w vs hs hv).mono fun _ _ ⟨v, he, hE, hr⟩ => ⟨v, R, [], g, he, ext_tr k hE, hr _ _, rfl, rfl⟩⟩
theorem ACall.paper {f : FuncId} {fl : PaF} {p : Paper} {R : AV} (hs : Sized p) (hf : ∃ fn, Try.prog.funcs[f]? = some fn ∧ (fn.name == "runtime.NumGoroutine") = false ∧ fn.body.isNone = false)
    (H : ∀ iA jA gA ic jc gc w, PaperAt w iA jA gA p → Calls Try.prog f #[.agg #[.slice iA p.items.length ic, .slice jA p.judges.length jc, .int .i64 p.wrong, .slice gA p.grades.length gc]] w fun e w' => ∃ v, e = .returned v ∧ Ext w w' ∧ ∀ M g, rep M w' R g v) : ACall Try.prog f [aPaper fl p] [] (fun r h => r = R ∧ h = []) :=
  ACall.plain hf fun M g w vs hz hv => by
    match vs, hz with
    | ⟨[v]⟩, _ =>
      obtain ⟨iA, ic, jA, jc, gA, gc, h1, h2⟩ := rep_paper hs (hv 0 _ rfl)
      have h1 : v = _ := h1
      subst h1
      exact H iA jA gA ic jc gc w h2
theorem ACall.paperT {f : FuncId} {fl : PaF} {p : Paper} {z e : Bool} {t : List Int} {R : AV} (hs : Sized p) (hf : ∃ fn, Try.prog.funcs[f]? = some fn ∧ (fn.name == "runtime.NumGoroutine") = false ∧ fn.body.isNone = false)
    (H : ∀ iA jA gA tA ic jc gc tc w, PaperAt w iA jA gA p → Ints w tA t → Calls Try.prog f #[.agg #[.slice iA p.items.length ic, .slice jA p.judges.length jc, .int .i64 p.wrong, .slice gA p.grades.length gc], .slice tA t.length tc] w fun e w' => ∃ v, e = .returned v ∧ Ext w w' ∧ ∀ M g, rep M w' R g v) : ACall Try.prog f [aPaper fl p, aInts z e t] [] (fun r h => r = R ∧ h = []) :=
  ACall.plain hf fun M g w vs hz hv => by
    match vs, hz with
    | ⟨[v, u]⟩, _ =>
      obtain ⟨iA, ic, jA, jc, gA, gc, h1, h2⟩ := rep_paper hs (hv 0 _ rfl)
      obtain ⟨tA, tc, h3, h4⟩ := rep_ints (z := z) (e := e) (hv 1 _ rfl)
      have h1 : v = _ := h1
      have h3 : u = _ := h3
      subst h1; subst h3
      exact H iA jA gA tA ic jc gc tc w h2 h4
theorem ready_ab {f : PaF} {p : Paper} (hs : Sized p) : ACall Try.prog 18 [aPaper f p] [] (fun r h => r = .bool (readyM p) ∧ h = []) :=
  ACall.paper hs ⟨_, Try.func18, rfl, rfl⟩ fun iA jA gA ic jc gc w h => (ready_any iA jA gA ic jc gc p w h).mono fun _ _ ⟨he, hE⟩ => ⟨_, he, hE, fun _ _ => rfl⟩
theorem check_ab {f : PaF} {p : Paper} (hs : Sized p) : ACall Try.prog 20 [aPaper f p] [] (fun r h => r = AI (checkE p) ∧ h = []) :=
  ACall.paper hs ⟨_, Try.func20, rfl, rfl⟩ fun iA jA gA ic jc gc w h => (checkR_any iA jA gA ic jc gc p w h).mono fun _ _ ⟨he, hE⟩ => ⟨_, he, hE, fun _ _ => rfl⟩
theorem range_ab {f : PaF} {p : Paper} (hs : Sized p) : ACall Try.prog 19 [aPaper f p] [] (fun r h => r = aRange (rangeM p) ∧ h = []) :=
  ACall.paper hs ⟨_, Try.func19, rfl, rfl⟩ fun iA jA gA ic jc gc w h => (range_any iA jA gA ic jc gc p _ _ _ w h rfl).mono fun _ _ ⟨he, hE⟩ => ⟨_, he, hE, fun _ _ => ⟨_, rfl, rfl, fun i hi => by
    match i, hi with
    | 0, _ => exact ⟨_, rfl, _, rfl, rfl, fun i hi => by
        match i, hi with
        | 0, _ => exact ⟨_, rfl, rfl, rfl⟩
        | 1, _ => exact ⟨_, rfl, rfl, rfl⟩⟩
    | 1, _ => exact ⟨_, rfl, rfl⟩⟩⟩
theorem works_ab : ACall Try.prog 14 [] [] (fun r h => r = .bool true ∧ h = []) :=
  ACall.plain ⟨_, Try.func14, rfl, rfl⟩ fun M g w vs hz hv => by
    match vs, hz with
    | ⟨[]⟩, _ => exact (works_any w).mono fun _ _ ⟨he, hE⟩ => ⟨_, he, hE, fun _ _ => rfl⟩
theorem possible_ab {f : PaF} {p : Paper} {z e : Bool} {t : List Int} (hs : Sized p) (hv : Valid p) (ht : t.length ≤ 9223372036854775807) : ACall Try.prog 22 [aPaper f p, aInts z e t] [] (fun r h => r = .bool (isPossible p t) ∧ h = []) :=
  ACall.paperT hs ⟨_, Try.func22, rfl, rfl⟩ fun iA jA gA tA ic jc gc tc w h h2 => (isPossible_any iA jA gA tA ic jc gc tc p t w h hv h2 ht).mono fun _ _ ⟨he, hE⟩ => ⟨_, he, hE, fun _ _ => rfl⟩
theorem result_ab {f : PaF} {p : Paper} {z e : Bool} {t : List Int} (hs : Sized p) (hv : Valid p) (hp : isPossible p t = true) : ACall Try.prog 23 [aPaper f p, aInts z e t] [] (fun r h => r = AI (resultOf p t) ∧ h = []) := by
  have ht := isTruth_iff.1 (possible_truth hp)
  have hl := ht.1
  have hil := hv.il
  exact ACall.paperT hs ⟨_, Try.func23, rfl, rfl⟩ fun iA jA gA tA ic jc gc tc w h h2 => (result_any iA jA gA tA ic jc gc tc p.judges.length p.grades.length p.wrong p t w h.items hil.2 h2 hl (fun k hk => ⟨(hv.it k (by omega)).1, (hv.it k (by omega)).2.1⟩) (fun k hk => by have a := ht.2 k hk; have b := hv.it k (by omega); omega)).mono fun _ _ ⟨he, hE⟩ => ⟨_, he, hE, fun _ _ => rfl⟩
end Go.Proofs.Ytbpilgflejdhaaa

namespace Go.Proofs.Ytbpilgflejdhaaa
open Go.RowKit

theorem rng_val {q : Paper} (hv : validB q = true) : rangeM q = if (openM q).poss = true then ((openM q).res, 0) else ((0, 0), 3) := by
  unfold rangeM
  rw [known_true hv]
  cases (openM q).poss <;> rfl
theorem rng_code {q : Paper} (hv : validB q = true) : (rangeM q).2 = 0 ∨ (rangeM q).2 = 3 := by
  rw [rng_val hv]
  by_cases h : (openM q).poss = true
  · rw [if_pos h]; exact .inl rfl
  · rw [if_neg h]; exact .inr rfl
theorem rng_poss {q : Paper} (hv : validB q = true) (h : (rangeM q).2 = 0) : (openM q).poss = true := by
  rw [rng_val hv] at h
  by_cases hp : (openM q).poss = true
  · exact hp
  · rw [if_neg hp] at h; cases h
theorem rng_wider {p q : Paper} (hp : validB p = true) (hq : validB q = true) (hpq : ∀ t, isPossible p t = true → isPossible q t = true ∧ resultOf q t = resultOf p t) (h : (rangeM p).2 = 0) :
    (rangeM q).2 = 0 ∧ (rangeM q).1.1 ≤ (rangeM p).1.1 ∧ (rangeM p).1.2 ≤ (rangeM q).1.2 := by
  have h1 := rng_poss hp h
  obtain ⟨a, b, c⟩ := range_wider (valid_of hp) (valid_of hq) hpq h1
  rw [rng_val hp, rng_val hq, if_pos h1, if_pos a]
  exact ⟨rfl, b, c⟩
theorem more_result (p : Paper) (x : Judge) (t : List Int) : ∀ k, resultTo (moreP p x) t k = resultTo p t k
  | 0 => rfl
  | k + 1 => by rw [resultTo, resultTo, more_result p x t k]; rfl
theorem rng_more {p : Paper} {x : Judge} (hp : validB p = true) (hq : validB (moreP p x) = true) (h : (rangeM (moreP p x)).2 = 0) :
    (rangeM p).2 = 0 ∧ (rangeM p).1.1 ≤ (rangeM (moreP p x)).1.1 ∧ (rangeM (moreP p x)).1.2 ≤ (rangeM p).1.2 :=
  rng_wider hq hp (fun t ht => ⟨more_possible ht, (more_result p x t _).symm⟩) h
theorem rng_wide {p : Paper} (hp : validB p = true) {xw xe xd : Int} (hw : 0 ≤ xw) (he : 0 ≤ xe) (hd : 0 ≤ xd) (who : Option Nat) (hk : ∀ k, who = some k → k < p.judges.length) (h : (rangeM p).2 = 0) :
    (rangeM (wideP p xw xe xd who)).2 = 0 ∧ (rangeM (wideP p xw xe xd who)).1.1 ≤ (rangeM p).1.1 ∧ (rangeM p).1.2 ≤ (rangeM (wideP p xw xe xd who)).1.2 :=
  rng_wider hp (wide_valid hp hw he hd who hk) (fun _ ht => wide_possible hp hw he hd who hk ht) h
theorem wide_code {p : Paper} (hp : validB p = true) {xw xe xd : Int} (hw : 0 ≤ xw) (he : 0 ≤ xe) (hd : 0 ≤ xd) (who : Option Nat) (hk : ∀ k, who = some k → k < p.judges.length) : (rangeM (wideP p xw xe xd who)).2 = 0 ∨ (rangeM (wideP p xw xe xd who)).2 = 3 :=
  rng_code (wide_valid hp hw he hd who hk)
end Go.Proofs.Ytbpilgflejdhaaa

namespace Go.Proofs.Ytbpilgflejdhaaa
open Go.RowKit

theorem more_facts : MoreFacts readyM rangeM where
  vl p h := ⟨valid_of (ready_valid h).1, (ready_valid h).1⟩
  code p h := rng_code h
  more p j h1 h2 h := rng_more (x := j) h1 h2 h
  wide p xw xe xd who hv hw he hd hk := ⟨wide_code hv hw he hd who hk, fun h => rng_wide hv hw he hd who hk h⟩
theorem moreX_any (f : PaF) (p : Paper) (hs : Sized p) (z e : Bool) (j : Judge) (hj : j.marks.length ≤ 9223372036854775807) (xw who xe xd : Int) :
    ACall Try.prog 4 [aPaper f p, .agg 8 (ofL [AI j.lo, AI j.hi, AI j.err, aInts z e j.marks, AI xw, AI who, AI xe, AI xd])] [] (fun r h => r = .bool true ∧ h = []) :=
  moreL (fun _ _ h => ready_ab h) (fun _ _ h => check_ab h) (fun _ _ h => range_ab h) works_ab more_facts f p hs z e j hj xw who xe xd
end Go.Proofs.Ytbpilgflejdhaaa

namespace Go.Proofs.Ytbpilgflejdhaaa
open Go.RowKit Go.ChangeShapes Go.WideShapes Go.Deep

structure EaseT where
  z : Bool
  j : Judge
  w : Int
  who : Int
  e : Int
  d : Int
section
variable {H : Type} {enc : TypeId × Value → H} {w : World} {base : Nat} {held : Bool}
theorem csz : Try.prog.cellsOf 3 = 1 ∧ Try.prog.cellsOf 24 = 1 ∧ Try.prog.cellsOf 90 = 2 ∧ Try.prog.cellsOf 22 = 1 ∧ Try.prog.cellsOf 35 = 2 ∧ Try.prog.cellsOf 37 = 4 ∧ Try.prog.cellsOf 23 = 1 ∧ Try.prog.cellsOf 26 = 4 ∧ Try.prog.cellsOf 39 = 8 := by
  refine ⟨?_, ?_, ?_, ?_, ?_, ?_, ?_, ?_, ?_⟩ <;> kernel_rfl
theorem rt_int {n : Nat} {cs : List Value} {y : DataW H × List MemPlace} (h : DataW.trod enc Try.prog w base (fun _ => true) held n 3 cs = some y) : ∃ i : Int, I64 i ∧ CellsAre w cs 1 (fun _ => AI i) := rdr_int Try.underlying3 h
theorem rt_ints {n : Nat} {cs : List Value} {y : DataW H × List MemPlace} (h : DataW.trod enc Try.prog w base (fun _ => true) held n 24 cs = some y) : ∃ (z : Bool) (l : List Int), (l.length ≤ 9223372036854775807 ∧ ∀ x ∈ l, I64 x) ∧ CellsAre w cs 1 (fun _ => aInts z false l) :=
  rdr_slice (fun (x : Int) _ => AI x) I64 0 Try.underlying24 csz.1 (by omega) rt_int h
theorem rt_item {n : Nat} {cs : List Value} {y : DataW H × List MemPlace} (h : DataW.trod enc Try.prog w base (fun _ => true) held n 90 cs = some y) : ∃ x : Item, True ∧ CellsAre w cs 2 (cItem x) := by
  obtain ⟨hl, ⟨_, _, h0⟩, ⟨_, _, h1⟩, _⟩ := rdr_fields Try.underlying90 h
  simp only [csz.1] at h0 h1
  obtain ⟨a, _, c0⟩ := rt_int h0
  obtain ⟨b, _, c1⟩ := rt_int h1
  refine ⟨⟨a, b⟩, trivial, by rw [hl]; exact csz.2.2.1, fun o ho => ?_⟩
  rcases (show o = 0 ∨ o = 1 by omega) with rfl | rfl
  · exact c0.sub (o := 0) (by omega)
  · exact c1.sub (o := 0) (by omega)
theorem rt_items {n : Nat} {cs : List Value} {y : DataW H × List MemPlace} (h : DataW.trod enc Try.prog w base (fun _ => true) held n 22 cs = some y) : ∃ (z : Bool) (l : List Item), (l.length ≤ 9223372036854775807 ∧ ∀ x ∈ l, True) ∧ CellsAre w cs 1 (fun _ => aItems z false l) :=
  rdr_slice cItem (fun _ => True) default Try.underlying22 csz.2.2.1 (by omega) rt_item h
theorem rt_span {n : Nat} {cs : List Value} {y : DataW H × List MemPlace} (h : DataW.trod enc Try.prog w base (fun _ => true) held n 35 cs = some y) : ∃ a b : Int, CellsAre w cs 2 (ofL [AI a, AI b]) := by
  obtain ⟨hl, ⟨_, _, h0⟩, ⟨_, _, h1⟩, _⟩ := rdr_fields Try.underlying35 h
  simp only [csz.1] at h0 h1
  obtain ⟨a, _, c0⟩ := rt_int h0
  obtain ⟨b, _, c1⟩ := rt_int h1
  refine ⟨a, b, by rw [hl]; exact csz.2.2.2.2.1, fun o ho => ?_⟩
  rcases (show o = 0 ∨ o = 1 by omega) with rfl | rfl
  · exact c0.sub (o := 0) (by omega)
  · exact c1.sub (o := 0) (by omega)
theorem rt_judge {n : Nat} {cs : List Value} {y : DataW H × List MemPlace} (h : DataW.trod enc Try.prog w base (fun _ => true) held n 37 cs = some y) : ∃ x : Bool × Judge, x.2.marks.length ≤ 9223372036854775807 ∧ CellsAre w cs 4 (cJudge x.1 false x.2) := by
  obtain ⟨hl, ⟨_, _, h0⟩, ⟨_, _, h1⟩, ⟨_, _, h2⟩, _⟩ := rdr_fields Try.underlying37 h
  simp only [csz.1, csz.2.1, csz.2.2.2.2.1] at h0 h1 h2
  obtain ⟨a, b, c0⟩ := rt_span h0
  obtain ⟨c, _, c1⟩ := rt_int h1
  obtain ⟨z, l, hl2, c2⟩ := rt_ints h2
  refine ⟨(z, ⟨a, b, c, l⟩), hl2.1, by rw [hl]; exact csz.2.2.2.2.2.1, fun o ho => ?_⟩
  rcases (show o = 0 ∨ o = 1 ∨ o = 2 ∨ o = 3 by omega) with rfl | rfl | rfl | rfl
  · exact c0.sub (o := 0) (by omega)
  · exact c0.sub (o := 1) (by omega)
  · exact c1.sub (o := 0) (by omega)
  · exact c2.sub (o := 0) (by omega)
theorem rt_judges {n : Nat} {cs : List Value} {y : DataW H × List MemPlace} (h : DataW.trod enc Try.prog w base (fun _ => true) held n 23 cs = some y) : ∃ (z : Bool) (rz : Nat → Bool) (l : List Judge), (l.length ≤ 9223372036854775807 ∧ ∀ k, k < l.length → (l.getD k default).marks.length ≤ 9223372036854775807) ∧ CellsAre w cs 1 (fun _ => aJudges z false rz (fun _ => false) l) := by
  obtain ⟨z, l, ⟨hl, hq⟩, c⟩ := rdr_slice (fun (x : Bool × Judge) => cJudge x.1 false x.2) (fun x => x.2.marks.length ≤ 9223372036854775807) (true, default) Try.underlying23 csz.2.2.2.2.2.1 (by omega) rt_judge h
  have hb : ∀ k, (l.map Prod.snd).getD k default = (l.getD k (true, default)).2 := fun k => by
    simp only [List.getD, List.getElem?_map]
    cases l[k]? <;> rfl
  refine ⟨z, fun k => (l.getD k (true, default)).1, l.map Prod.snd, ⟨by rw [List.length_map]; exact hl, fun k hk => ?_⟩, ?_⟩
  · rw [List.length_map] at hk
    rw [hb]
    exact hq _ (by rw [List.getD, List.getElem?_eq_getElem hk]; exact List.getElem_mem hk)
  · simp only [aJudges, List.length_map, hb]
    exact c
theorem rt_paper {n : Nat} {cs : List Value} {y : DataW H × List MemPlace} (h : DataW.trod enc Try.prog w base (fun _ => true) held n 26 cs = some y) : ∃ (f : PaF) (p : Paper), Sized p ∧ CellsAre w cs 4 (cPaper f p) := by
  obtain ⟨hl, ⟨_, _, h0⟩, ⟨_, _, h1⟩, ⟨_, _, h2⟩, ⟨_, _, h3⟩, _⟩ := rdr_fields Try.underlying26 h
  simp only [csz.1, csz.2.1, csz.2.2.2.1, csz.2.2.2.2.2.2.1] at h0 h1 h2 h3
  obtain ⟨zi, a, ha, c0⟩ := rt_items h0
  obtain ⟨zj, rz, b, hb, c1⟩ := rt_judges h1
  obtain ⟨c, _, c2⟩ := rt_int h2
  obtain ⟨zg, d, hd, c3⟩ := rt_ints h3
  refine ⟨⟨zi, false, zj, false, zg, false, rz, fun _ => false⟩, ⟨a, b, c, d⟩, ⟨ha.1, hb.1, hd.1, hb.2⟩, by rw [hl]; exact csz.2.2.2.2.2.2.2.1, fun o ho => ?_⟩
  rcases (show o = 0 ∨ o = 1 ∨ o = 2 ∨ o = 3 by omega) with rfl | rfl | rfl | rfl
  · exact c0.sub (o := 0) (by omega)
  · exact c1.sub (o := 0) (by omega)
  · exact c2.sub (o := 0) (by omega)
  · exact c3.sub (o := 0) (by omega)
theorem rt_ease {n : Nat} {cs : List Value} {y : DataW H × List MemPlace} (h : DataW.trod enc Try.prog w base (fun _ => true) held n 39 cs = some y) : ∃ x : EaseT, x.j.marks.length ≤ 9223372036854775807 ∧ CellsAre w cs 8 (ofL [AI x.j.lo, AI x.j.hi, AI x.j.err, aInts x.z false x.j.marks, AI x.w, AI x.who, AI x.e, AI x.d]) := by
  obtain ⟨hl, ⟨_, _, h0⟩, ⟨_, _, h1⟩, ⟨_, _, h2⟩, ⟨_, _, h3⟩, ⟨_, _, h4⟩, _⟩ := rdr_fields Try.underlying39 h
  simp only [csz.1, csz.2.2.2.2.2.1] at h0 h1 h2 h3 h4
  obtain ⟨⟨z, j⟩, hj, c0⟩ := rt_judge h0
  obtain ⟨a, _, c1⟩ := rt_int h1
  obtain ⟨b, _, c2⟩ := rt_int h2
  obtain ⟨c, _, c3⟩ := rt_int h3
  obtain ⟨d, _, c4⟩ := rt_int h4
  refine ⟨⟨z, j, a, b, c, d⟩, hj, by rw [hl]; exact csz.2.2.2.2.2.2.2.2, fun o ho => ?_⟩
  rcases (show o = 0 ∨ o = 1 ∨ o = 2 ∨ o = 3 ∨ o = 4 ∨ o = 5 ∨ o = 6 ∨ o = 7 by omega) with rfl | rfl | rfl | rfl | rfl | rfl | rfl | rfl
  · exact c0.sub (o := 0) (by omega)
  · exact c0.sub (o := 1) (by omega)
  · exact c0.sub (o := 2) (by omega)
  · exact c0.sub (o := 3) (by omega)
  · exact c1.sub (o := 0) (by omega)
  · exact c2.sub (o := 0) (by omega)
  · exact c3.sub (o := 0) (by omega)
  · exact c4.sub (o := 0) (by omega)
end
end Go.Proofs.Ytbpilgflejdhaaa
