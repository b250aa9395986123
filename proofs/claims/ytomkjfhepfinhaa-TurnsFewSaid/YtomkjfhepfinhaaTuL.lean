/- Turns: slices.Backward. -/
import Derived.Test.YtomkjfhepfinhaaTuB
import Derived.RangeFuncNested
import Derived.RangeFuncBound
import Derived.RangeFuncCalls
import Derived.RangeFuncLeaves
import Derived.Shelf.Abstract
import Derived.Shelf.RegionOpen
import Derived.WalkKit
import Derived.OwnWalkIn
import Derived.TacticsInMore
import Derived.LoopNIn
import Derived.LoopIn
set_option linter.unusedSimpArgs false
set_option linter.unusedVariables false
namespace Go.Proofs.Ytomkjfhepfinhaa
open Go.RowKit Go.Shelf

attribute [local go_sem] Oper.semAt_some

theorem arr1 {cs : Array Value} {v : Value} {n : Nat} (h : cs.size = n) (hp : cs.getD 0 undef = v) (hn : n = 1 := by rfl) : cs = #[v] := by
  subst hn
  have h0 : 0 < cs.size := by omega
  have h1 : cs[0] = v := by simpa [h0] using hp
  apply Array.ext
  · simpa using h
  · intro i h2 h3
    obtain rfl : i = 0 := by simp at h3; omega
    simpa using h1

set_option maxRecDepth 100000 in
set_option maxHeartbeats 2000000 in
theorem backward_it (z e : Bool) (l : List Int) (hl : l.length ≤ 1000) : AIter Try.prog 79 [.ip 1 (ofL [aInts z e l]) 0] ((List.range l.length).map fun k => [AI ((l.length - 1 - k : Nat) : Int), AI (l.getD (l.length - 1 - k) 0)]) := by
  refine ⟨⟨_, Try.func79, by decide, rfl⟩, fun M w0 cs hcs hreps lp J Jx W hW hJ hJx hY h0 => ?_⟩
  obtain ⟨Bs, off, hp, hb, hMn, hc⟩ := hreps 0 _ rfl
  obtain ⟨u, hcell, _, A, cap, rfl, hz, hnil, _, hcap, hel⟩ := hc 0 (by omega)
  rw [Nat.add_zero] at hcell hp
  obtain rfl := arr1 hcs hp
  have wn : Wd none = Fence.wide := rfl
  rw [wn] at hY ⊢
  refine callsIn_of_wp Try.func79 rfl trivial ?_ rfl
  simp only [Try.ntmps79, List.size_toArray, List.length_cons, List.length_nil, Nat.reduceAdd, Nat.reduceSub, Array.replicate_succ, Array.replicate_zero, List.push_toArray, List.append_toArray, List.nil_append, List.cons_append]
  have hcell0 := (hW.cell hb hMn).trans hcell
  gi_wp2
  gi_loopw [3] (fun i wr => ∃ k : Nat, k ≤ l.length ∧ i = .int .i64 ((l.length : Int) - 1 - k) ∧ J k wr ∧ Chg M w0 wr)
    (fun i _ => (intOf i + 1).toNat)
  case atStart => exact ⟨0, Nat.zero_le _, by simp, h0, hW⟩
  case round =>
    obtain ⟨k, hk, rfl, hJk, hck⟩ := hrel
    have hcellk := (hck.cell hb hMn).trans hcell
    by_cases hlt : k < l.length
    · obtain ⟨b, off', u, hA, hb', hn', hcu, _, hu⟩ := hel (l.length - 1 - k) (by omega) 0 (by omega)
      obtain ⟨xv, hxv⟩ : ∃ x, x = l.getD (l.length - 1 - k) 0 := ⟨_, rfl⟩
      have hu2 : u = .int .i64 xv := by rw [hxv]; exact hu
      clear hu
      subst hu2
      subst hA
      obtain ⟨fn, tmps, assign, body, hy, hR⟩ := hY k #[.int .i64 ((l.length : Int) - 1 - k), .int .i64 xv] wr (by simpa using hlt) hJk hck (by simp [List.getD, hlt]) (fun i x hx => by
        have e1 : ((l.length - 1 - k : Nat) : Int) = (l.length : Int) - 1 - k := by omega
        simp only [List.getD, List.getElem?_map, List.getElem?_range hlt, Option.map_some, Option.getD_some] at hx
        match i, hx with
        | 0, hx => cases hx; rw [e1]; rfl
        | 1, hx => cases hx; rw [hxv]; rfl)
      have hcuk := (hck.cell hb' hn').trans hcu
      rw [Nat.mul_one, Nat.add_zero] at hcuk
      clear hxv hcu
      gi_wp2
      refine ⟨rfl, hR.mono ?_⟩
      rintro e W3 (⟨rfl, hJ3, hk3⟩ | ⟨rfl, hJx3⟩)
      · gi_wp2
        go_roundw
        case rel => exact ⟨k + 1, by omega, by congr 1; omega, hJ3, hck.trans hk3 (fun _ _ h => h)⟩
        case measure => simp [intOf]; omega
      · gi_wp2
        refine bodyPost_ret (results_none rfl _ _ _) rfl ?_
        exact ⟨⟨_, rfl⟩, .inr ⟨k, by simpa using hlt, hJx3⟩⟩
    · obtain rfl : k = l.length := by omega
      gi_wp2
      go_end0
      exact ⟨⟨_, rfl⟩, .inl (by simpa using hJk)⟩
end Go.Proofs.Ytomkjfhepfinhaa
