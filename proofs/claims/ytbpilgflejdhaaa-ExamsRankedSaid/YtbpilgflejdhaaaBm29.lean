/- Bits of numbers that are not below zero / Words that find their own proofs / How the form's readings of data give cells: slices, ints / What a law's row asks behind the walk: the call returned true and the world only has more / From handed data to abstract values; from a reading of a law to what its row asks -/
import Derived.Test.YtbpilgflejdhaaaBm28
import Derived.Test.YtbpilgflejdhaaaBm1
import Derived.Deep.Slices
import Derived.Lib.SmallJoins
import Derived.OpenShut
import Derived.WideKeyArgs
import Derived.Deep.OwnRows
import Derived.ProofKit
import Derived.JoinedOf
set_option linter.unusedSimpArgs false
set_option linter.unusedVariables false
namespace Go.Proofs.Ytbpilgflejdhaaa
open Go.RowKit

/-- What is in the first set and not in the second one. -/
def sdiff (a b : Nat) : Nat := a ^^^ (a &&& b)
theorem testBit_sdiff (a b i : Nat) : (sdiff a b).testBit i = (a.testBit i && !b.testBit i) := by
  unfold sdiff
  rw [Nat.testBit_xor, Nat.testBit_and]
  cases a.testBit i <;> cases b.testBit i <;> rfl
theorem sdiff_lt {a b n : Nat} (h : a < 2 ^ n) : sdiff a b < 2 ^ n := Nat.xor_lt_two_pow h (Nat.lt_of_le_of_lt Nat.and_le_left h)
abbrev k64 : IntKind → Bool
  | .i64 | .u64 => true
  | _ => false
theorem k64_bits {k : IntKind} (hk : k64 k = true) : k.bits = 64 := by cases k <;> first | rfl | cases hk
theorem wrapN {k : IntKind} (hk : k64 k = true) {n : Nat} (h : n < 9223372036854775808) : k.wrap (n : Int) = n := by
  cases k <;> first | cases hk | skip
  · exact IntWalk.i64_in _ (by omega)
  · exact IntWalk.u64_in _ (by omega)
theorem ofIntN {n : Nat} (h : n < 9223372036854775808) : (BitVec.ofInt 64 (n : Int)).toNat = n := by
  rw [BitVec.ofInt_natCast, BitVec.toNat_ofNat]; exact Nat.mod_eq_of_lt (by omega)
theorem FBit.andN {k : IntKind} (hk : k64 k = true) {a b : Nat} {K : Int → Prop} (ha : a < 9223372036854775808) (hb : b < 9223372036854775808) (h : K ((a &&& b : Nat) : Int)) : FBit .and k (a : Int) (b : Int) K := ⟨by
  have e : ((BitVec.ofInt 64 (a : Int) &&& BitVec.ofInt 64 (b : Int)).toNat : Int) = ((a &&& b : Nat) : Int) := by rw [BitVec.toNat_and, ofIntN ha, ofIntN hb]
  have e2 : rawBit .and k (a : Int) (b : Int) = k.wrap ((BitVec.ofInt 64 (a : Int) &&& BitVec.ofInt 64 (b : Int)).toNat : Int) := by cases k <;> first | rfl | cases hk
  rw [e2, e, wrapN hk (Nat.lt_of_le_of_lt Nat.and_le_left ha)]; exact h⟩
theorem FBit.orN {k : IntKind} (hk : k64 k = true) {a b : Nat} {K : Int → Prop} (ha : a < 9223372036854775808) (hb : b < 9223372036854775808) (h : K ((a ||| b : Nat) : Int)) : FBit .or k (a : Int) (b : Int) K := ⟨by
  have : a ||| b < 2 ^ 63 := Nat.or_lt_two_pow ha hb
  have e2 : rawBit .or k (a : Int) (b : Int) = k.wrap ((BitVec.ofInt 64 (a : Int) ||| BitVec.ofInt 64 (b : Int)).toNat : Int) := by cases k <;> first | rfl | cases hk
  rw [e2, BitVec.toNat_or, ofIntN ha, ofIntN hb, wrapN hk (by omega)]; exact h⟩
theorem FBit.andNotN {k : IntKind} (hk : k64 k = true) {a b : Nat} {K : Int → Prop} (ha : a < 9223372036854775808) (hb : b < 9223372036854775808) (h : K ((sdiff a b : Nat) : Int)) : FBit .andNot k (a : Int) (b : Int) K := ⟨by
  have e2 : rawBit .andNot k (a : Int) (b : Int) = k.wrap ((BitVec.ofInt 64 (a : Int) &&& ~~~ BitVec.ofInt 64 (b : Int)).toNat : Int) := by cases k <;> first | rfl | cases hk
  have e : (BitVec.ofInt 64 (a : Int) &&& ~~~ BitVec.ofInt 64 (b : Int)).toNat = sdiff a b := by
    apply Nat.eq_of_testBit_eq
    intro i
    rw [BitVec.toNat_and, Nat.testBit_and, ofIntN ha, testBit_sdiff]
    by_cases hi : i < 64
    · congr 1
      rw [BitVec.testBit_toNat, BitVec.getLsbD_not, decide_eq_true hi, Bool.true_and, ← BitVec.testBit_toNat, ofIntN hb]
    · have : a.testBit i = false := Nat.testBit_lt_two_pow (Nat.lt_of_lt_of_le ha (by
        have : (2 : Nat) ^ 63 ≤ 2 ^ i := Nat.pow_le_pow_right (by decide) (by omega)
        omega))
      rw [this]; rfl
  rw [e2, e, wrapN hk (Nat.lt_of_lt_of_le (sdiff_lt (n := 63) (by omega)) (by decide))]; exact h⟩
theorem FBit.shl1 {k : IntKind} (hk : k64 k = true) {j : Nat} {K : Int → Prop} (hj : j < 63) (h : K ((2 ^ j : Nat) : Int)) : FBit .shl k 1 (j : Int) K := ⟨by
  simp only [rawBit, k64_bits hk]
  have h1 : (1 : Int) * 2 ^ min ((j : Int)).toNat 64 = ((2 ^ j : Nat) : Int) := by
    rw [Int.toNat_natCast, Nat.min_eq_left (by omega), Int.one_mul]; simp
  have h2 : 2 ^ j < 2 ^ 63 := Nat.pow_lt_pow_right (by decide) hj
  rw [h1, wrapN hk (by omega)]; exact h⟩
theorem FBit.shrN {k : IntKind} (hk : k64 k = true) {m j : Nat} {K : Int → Prop} (hj : j ≤ 64) (h : K ((m >>> j : Nat) : Int)) : FBit .shr k (m : Int) (j : Int) K := ⟨by
  simp only [rawBit, k64_bits hk]
  have h1 : (m : Int).fdiv (2 ^ min ((j : Int)).toNat 64) = ((m >>> j : Nat) : Int) := by
    rw [Int.toNat_natCast, Nat.min_eq_left (by omega), Nat.shiftRight_eq_div_pow]
    have : ((2 : Int) ^ j) = ((2 ^ j : Nat) : Int) := by simp
    rw [this, Int.fdiv_eq_ediv_of_nonneg _ (Int.natCast_nonneg _)]
    rfl
  rw [h1]; exact h⟩
theorem FBit.shrI {k : IntKind} (hk : k64 k = true) {x y : Int} {K : Int → Prop} (hx : 0 ≤ x) (hy : 0 ≤ y ∧ y ≤ 64) (h : K ((x.toNat >>> y.toNat : Nat) : Int)) : FBit .shr k x y K := by
  have := FBit.shrN hk (m := x.toNat) (j := y.toNat) (K := K) (by omega) h
  rwa [Int.toNat_of_nonneg hx, Int.toNat_of_nonneg hy.1] at this
theorem FBit.shrNI {k : IntKind} (hk : k64 k = true) {m : Nat} {y : Int} {K : Int → Prop} (hy : 0 ≤ y ∧ y ≤ 64) (h : K ((m >>> y.toNat : Nat) : Int)) : FBit .shr k (m : Int) y K := FBit.shrI hk (by omega) hy h
theorem FBit.shrIN {k : IntKind} (hk : k64 k = true) {x : Int} {j : Nat} {K : Int → Prop} (hx : 0 ≤ x) (hj : j ≤ 64) (h : K ((x.toNat >>> j : Nat) : Int)) : FBit .shr k x (j : Int) K := FBit.shrI hk hx (by omega) h
theorem FBit.half {k : IntKind} (hk : k64 k = true) {m : Nat} {K : Int → Prop} (h : K ((m / 2 : Nat) : Int)) : FBit .shr k (m : Int) 1 K := by
  refine FBit.shrN (j := 1) hk (by decide) ?_
  rwa [Nat.shiftRight_eq_div_pow]
theorem FBit.shl1I {k : IntKind} (hk : k64 k = true) {y : Int} {K : Int → Prop} (hj : 0 ≤ y ∧ y < 63) (h : K ((2 ^ y.toNat : Nat) : Int)) : FBit .shl k 1 y K := by
  have := FBit.shl1 hk (j := y.toNat) (K := K) (by omega) h
  rwa [Int.toNat_of_nonneg hj.1] at this
theorem FBit.orI {k : IntKind} (hk : k64 k = true) {x y : Int} {a b : Nat} {K : Int → Prop} (hx : x = a) (hy : y = b) (ha : a < 9223372036854775808) (hb : b < 9223372036854775808) (h : K ((a ||| b : Nat) : Int)) : FBit .or k x y K := by
  subst hx; subst hy; exact FBit.orN hk ha hb h
theorem FBit.andI {k : IntKind} (hk : k64 k = true) {x y : Int} {a b : Nat} {K : Int → Prop} (hx : x = a) (hy : y = b) (ha : a < 9223372036854775808) (hb : b < 9223372036854775808) (h : K ((a &&& b : Nat) : Int)) : FBit .and k x y K := by
  subst hx; subst hy; exact FBit.andN hk ha hb h
theorem FBit.andNotI {k : IntKind} (hk : k64 k = true) {x y : Int} {a b : Nat} {K : Int → Prop} (hx : x = a) (hy : y = b) (ha : a < 9223372036854775808) (hb : b < 9223372036854775808) (h : K ((sdiff a b : Nat) : Int)) : FBit .andNot k x y K := by
  subst hx; subst hy; exact FBit.andNotN hk ha hb h
theorem and1 {k : IntKind} (hk : k64 k = true) (m : Nat) : rawBit .and k (m : Int) 1 = ((m % 2 : Nat) : Int) := by
  have e2 : rawBit .and k (m : Int) 1 = k.wrap ((BitVec.ofInt 64 (m : Int) &&& BitVec.ofInt 64 1).toNat : Int) := by cases k <;> first | rfl | cases hk
  have h1 : (BitVec.ofInt 64 (1 : Int)).toNat = 1 := by decide
  have h2 : (BitVec.ofInt 64 (m : Int)).toNat = m % 2 ^ 64 := by rw [BitVec.ofInt_natCast, BitVec.toNat_ofNat]
  rw [e2, BitVec.toNat_and, h1, h2, Nat.and_one_is_mod, wrapN hk (by omega)]
  congr 1
  omega
theorem FBit.and1 {k : IntKind} (hk : k64 k = true) {m : Nat} {K : Int → Prop} (h : K ((m % 2 : Nat) : Int)) : FBit .and k (m : Int) 1 K := ⟨by rw [Proofs.Ytbpilgflejdhaaa.and1 hk]; exact h⟩
theorem bit_mod (m j : Nat) : (m >>> j) % 2 = if m.testBit j then 1 else 0 := by
  rw [Nat.testBit_eq_decide_div_mod_eq, Nat.shiftRight_eq_div_pow]
  by_cases h : m / 2 ^ j % 2 = 1
  · rw [decide_eq_true h, h]; rfl
  · rw [decide_eq_false h]
    simp only [Bool.false_eq_true, if_false]
    omega
theorem FBit.has {k : IntKind} (hk : k64 k = true) {m j : Nat} {K : Int → Prop} (h1 : m.testBit j = true → K 1) (h0 : m.testBit j = false → K 0) : FBit .and k ((m >>> j : Nat) : Int) 1 K := ⟨by
  rw [Proofs.Ytbpilgflejdhaaa.and1 hk, bit_mod]
  cases h : m.testBit j
  · exact h0 h
  · exact h1 h⟩
theorem FBit.hasT {k : IntKind} (hk : k64 k = true) {m j : Nat} {K : Int → Prop} (h : m.testBit j = true) (h1 : K 1) : FBit .and k ((m >>> j : Nat) : Int) 1 K := FBit.has hk (fun _ => h1) (fun h' => by rw [h] at h'; cases h')
theorem FBit.hasF {k : IntKind} (hk : k64 k = true) {m j : Nat} {K : Int → Prop} (h : m.testBit j = false) (h1 : K 0) : FBit .and k ((m >>> j : Nat) : Int) 1 K := FBit.has hk (fun h' => by rw [h] at h'; cases h') (fun _ => h1)
end Go.Proofs.Ytbpilgflejdhaaa

namespace Go.Proofs.Ytbpilgflejdhaaa
open Go.RowKit

theorem FCond.tA {q : Bool} {A B : Prop} (a : A) (h : q = true := by first | assumption | (rw [zA]; omega) | (simp only [zA, zB, zC, zD, zE, zF, zG, ne_eq, *]; done) | (simp only [zA, zB, zC, zD, zE, zF, zG, ne_eq]; omega) | decide | fail) : FCond q A B := .t h a
theorem FCond.fA {q : Bool} {A B : Prop} (b : B) (h : q = false := by first | assumption | (rw [zE]; omega) | (simp only [zE, zH, zI, zJ, zA, *]; done) | (simp only [zE, zH, zI, zJ, zA]; omega) | decide | fail) : FCond q A B := .f h b
theorem needA {p : Prop} (h : p := by first | omega | (unfold maxLen; omega) | (simp only [maxLen, List.length_cons, List.length_map, List.length_range, true_or, or_true, true_and, and_true] <;> omega) | ((conv => whnf); exact ⟨rfl⟩) | ((conv => whnf); (repeat ((first | with_reducible refine FCond.tA ?_ | with_reducible refine FCond.fA ?_ | with_reducible refine Need.mk (by omega) ?_ | with_reducible refine FIdx.nat (by omega) ?_ | with_reducible refine FIdx.int (by omega) ?_); (conv => whnf))); exact ⟨rfl⟩) | fail) : p := h
theorem allA {p : Prop} (h : p := by (repeat (first | exact True.intro | exact Ln.sameB _ rfl | exact Ln.sameB _ (by assumption) | exact Ln.slz _ _ _ _ _ _ _ (by decide) | exact Ln.bot _ | exact Ln.own _ _ _ rfl | exact Ln.ptr _ _ _ rfl | exact Ln.rp _ _ _ _ _ rfl | exact Ln.mpv _ _ rfl | (refine Ln.int ?_; first | rfl | omega) | (refine Ln.ownE rfl ?_; omega) | (refine Ln.bool ?_; first | assumption | (simp; done)) | exact Ln.pub _ _ _ _ _ _ (goneB rfl) rfl (by omega) (fun _ _ _ _ => rfl) | refine Ln.fnN ?_ | refine Ln.aggN ?_ | refine Ln.tupN ?_ | refine ⟨?_, ?_⟩))) : p := h
theorem Ln.A {σ : Nat → Nat → Prop} {Bp : Nat → Prop} {H : List AB} {v v' : AV} (h : Ln σ Bp H v v' := by first | exact Ln.sameB _ rfl | exact Ln.sameB _ (by assumption) | exact Ln.slz _ _ _ _ _ _ _ (by decide) | exact Ln.bot _ | exact Ln.own _ _ _ rfl | exact Ln.ptr _ _ _ rfl | exact Ln.rp _ _ _ _ _ rfl | exact Ln.mpv _ _ rfl | (refine Ln.int ?_; first | rfl | omega) | (refine Ln.ownE rfl ?_; omega) | (refine Ln.bool ?_; first | assumption | (simp; done)) | exact Ln.pub _ _ _ _ _ _ (goneB rfl) rfl (by omega) (fun _ _ _ _ => rfl) | (refine Ln.fnN ?_; exact allA) | (refine Ln.aggN ?_; exact allA) | (refine Ln.tupN ?_; exact allA) | fail) : Ln σ Bp H v v' := h
theorem LnB.mpS {σ : Nat → Nat → Prop} {Bp : Nat → Prop} {H : List AB} {kt : Nat} {L : List (List Int × AV)} : LnB σ Bp H (.mp kt L) (.mp kt L) := ⟨rfl, rfl⟩
theorem LnB.mitS {σ : Nat → Nat → Prop} {Bp : Nat → Prop} {H : List AB} {d i n : Nat} {s : List Nat} (h : σ d i) : LnB σ Bp H (.mit (.mpv d) n s) (.mit (.mpv i) n s) := ⟨.mpv d i h, rfl, rfl⟩
theorem LnB.A {σ : Nat → Nat → Prop} {Bp : Nat → Prop} {H : List AB} {x y : AB} (h : LnB σ Bp H x y := by first | exact LnB.rowS | exact LnB.mpS | exact LnB.mitS rfl | exact LnB.app (fun _ _ _ _ => rfl) (fun _ _ => rfl) | exact LnB.app (fun k hk => absurd hk (Nat.not_lt_zero k)) (fun _ _ => rfl) | (refine LnB.boxN ?_; exact allA) | fail) : LnB σ Bp H x y := h
theorem Cut.A {N : Nat} {sel : List Nat} {h h2 : List AB} (p : Cut N sel h h2 := by (refine Cut.of (Nat.le_of_ble_eq_true rfl) rfl rfl ?_; repeat (first | exact CutL.done | (refine CutL.turned rfl LnB.A ?_) | (refine CutL.gone (Nat.lt_of_lt_of_le (Nat.lt_succ_self _) (Nat.le_of_ble_eq_true rfl)) ?_)))) : Cut N sel h h2 := p
theorem avB {a b : Bool} (h : a = b := by (rw [Bool.eq_iff_iff]; simp only [decide_eq_true_eq, Bool.false_eq_true, Bool.and_eq_true, Bool.or_eq_true, false_iff, true_iff, iff_true, iff_false]; omega)) : AV.bool a = AV.bool b := congrArg AV.bool h
theorem FCond.i2 {q : Bool} {A B : Prop} (h1 : q = true → FCond q A B) (h2 : q = false → FCond q A B) : FCond q A B := by
  cases hq : q
  · rw [hq] at h2; exact h2 rfl
  · rw [hq] at h1; exact h1 rfl
theorem FCond.uT {q : Bool} {A B : Prop} (k : q = true → FCond q A B) (h : q = true := by first | assumption | (rw [zA]; omega) | (simp only [zA, zB, zC, zD, zE, zF, zG, ne_eq, *]; done) | (simp only [zA, zB, zC, zD, zE, zF, zG, ne_eq]; omega) | decide | fail) : FCond q A B := k h
theorem FCond.uF {q : Bool} {A B : Prop} (k : q = false → FCond q A B) (h : q = false := by first | assumption | (rw [zE]; omega) | (simp only [zE, zH, zI, zJ, zA, *]; done) | (simp only [zE, zH, zI, zJ, zA]; omega) | decide | fail) : FCond q A B := k h
/-- What several ways have in common is shown once. -/
structure Hold (A : Prop) : Prop where
  h : A
theorem cutG {A B : Prop} (h : Hold A → B) (a : A) : B := h ⟨a⟩
structure LEndM3 {X Y Z : Type} (N : Nat) (S : X → Y → Z → List (Nat × AV)) (H : X → Y → Z → List AB) (Inv : X → Y → Z → Prop) (μ : X → Y → Z → Nat) (n : Nat) (e : Env) (h : List AB) : Prop where
  ex : ∃ x' y' z', Inv x' y' z' ∧ μ x' y' z' < n ∧ ∃ sel, Cut N sel h (H x' y' z') ∧ SlotsL sel h (H x' y' z') (S x' y' z') e
theorem FLoop.of3M {C : CallP} (hC : C.Mono) {N : Nat} {c : ACo} {Q : AEx → Env → List AB → Prop} {e : Env} {h : List AB} {X Y Z : Type} (S : X → Y → Z → List (Nat × AV)) (H : X → Y → Z → List AB) (Inv : X → Y → Z → Prop) (μ : X → Y → Z → Nat) (x0 : X) (y0 : Y) (z0 : Z)
    (start : Inv x0 y0 z0 ∧ ∃ sel, Cut N sel h (H x0 y0 z0) ∧ SlotsL sel h (H x0 y0 z0) (S x0 y0 z0) e)
    (round : ∀ x y z n, Inv x y z → μ x y z = n → fawp C N c (AEx.then (LEndM3 N S H Inv μ n) Q) (slots (S x y z)) (H x y z)) : FLoop C N c Q e h :=
  FLoop.ofA hC (fun p : X × Y × Z => S p.1 p.2.1 p.2.2) (fun p => H p.1 p.2.1 p.2.2) (fun p => Inv p.1 p.2.1 p.2.2) (fun p => μ p.1 p.2.1 p.2.2) (x0, y0, z0) start fun p hp =>
    awp_mono hC c (then_mono fun _ _ ⟨x', y', z', h⟩ => ⟨(x', y', z'), h⟩) (fawp_ok hC c (round p.1 p.2.1 p.2.2 _ hp rfl))
end Go.Proofs.Ytbpilgflejdhaaa

namespace Go.Proofs.Ytbpilgflejdhaaa
open Go.RowKit Go.ChangeShapes Go.WideShapes Go.Deep

section
variable {H : Type} {enc : TypeId × Value → H} {P : Program} {w : World} {base : Nat} {held : Bool}

/-- A slice's elements, cell by cell. -/
theorem rd_slice {t e : TypeId} {sz n : Nat} {v : Value} {y : DataW H × List MemPlace} (ht : P.underlying t = some (.slice e)) (hc : P.cellsOf e = sz) (hsz : 0 < sz) (h : DataW.trod enc P w base (fun _ => true) held n t [v] = some y) :
    ∃ A len cap, v = .slice A len cap ∧ len ≤ 9223372036854775807 ∧ (A = none → len = 0) ∧ ∀ i, i < len → ∃ b off m cs z, A = some ⟨b, off, none⟩ ∧ b < w.heap.size ∧ cs.length = sz ∧ (∀ j, j < sz → w.cell? ⟨b, off + i * sz + j, none⟩ = cs[j]?) ∧
      DataW.trod enc P w base (fun _ => true) held m e cs = some z := by
  rcases open_slice ht h with ⟨h0, _⟩ | ⟨a, len, cap, m, n', D, Pl, h0, hb, hl, hm, hmm, _, hx⟩
  · injection h0 with h0
    exact ⟨none, 0, 0, h0, by omega, fun _ => rfl, fun i hi => by omega⟩
  · injection h0 with h0
    have hmx : maxLen = 9223372036854775807 := rfl
    refine ⟨some a, len, cap, h0, by omega, (fun h => by cases h), fun i hi => ?_⟩
    simp only [if_true] at hmm
    obtain ⟨cs, h1, h2⟩ := hx i (by omega)
    obtain ⟨_, hlen, hcell⟩ := World.cells?_some h1
    rw [hc] at hlen hcell
    have hc0 := hcell 0 hsz
    rw [List.getElem?_eq_getElem (by omega)] at hc0
    obtain ⟨b, off, spot⟩ := a
    have hadd : ∀ (x y : Nat), ((⟨b, off, spot⟩ : Addr).add x).add y = (⟨b, off, spot⟩ : Addr).add (x + y) := fun x y => add_of_add _ _ _
    have hsp : spot = none := by
      obtain ⟨cs0, g1, _⟩ := hx 0 (by omega)
      obtain ⟨_, glen, gcell⟩ := World.cells?_some g1
      rw [hc] at glen gcell
      have g0 := gcell 0 hsz
      rw [List.getElem?_eq_getElem (by omega)] at g0
      have := World.cell?_spot g0
      simpa [hadd, Addr.add] using this
    subst hsp
    have hform : ∀ x, (⟨b, off, none⟩ : Addr).add x = ⟨b, off + x, none⟩ := fun x => by
      unfold Addr.add
      by_cases hx0 : x = 0 <;> simp [hx0]
    refine ⟨b, off, n', cs, _, rfl, ?_, hlen, fun j hj => ?_, h2⟩
    · have := World.block_lt_of_cell? w _ hc0
      rw [hadd, hform] at this
      exact this
    · have := hcell j hj
      rw [hadd, hform] at this
      rw [← this, Nat.add_assoc]

theorem rd_int {t : TypeId} {n : Nat} {cs : List Value} {y : DataW H × List MemPlace} (ht : P.underlying t = some (.int .i64)) (h : DataW.trod enc P w base (fun _ => true) held n t cs = some y) : ∃ i : Int, cs = [.int .i64 i] ∧ -9223372036854775808 ≤ i ∧ i ≤ 9223372036854775807 := by
  obtain ⟨i, h1, _, h3⟩ := DataW.trod_int ht h
  refine ⟨i, h1, ?_⟩
  simpa [Lit.wf, IntKind.min, IntKind.max, IntKind.signed, IntKind.bits] using h3

def I64 (x : Int) : Prop := -9223372036854775808 ≤ x ∧ x ≤ 9223372036854775807

theorem rd_ints {t e : TypeId} {n : Nat} {v : Value} {y : DataW H × List MemPlace} (ht : P.underlying t = some (.slice e)) (he : P.underlying e = some (.int .i64)) (hc : P.cellsOf e = 1) (h : DataW.trod enc P w base (fun _ => true) held n t [v] = some y) :
    ∃ A c, ∃ l : List Int, v = .slice A l.length c ∧ Ints w A l ∧ l.length ≤ 9223372036854775807 ∧ (A = none → l = []) ∧ ∀ x ∈ l, I64 x := by
  obtain ⟨A, len, cap, rfl, hl, hn, hx⟩ := rd_slice ht hc (by omega) h
  have key : ∀ i, i < len → ∃ x : Int, (∃ b off, A = some ⟨b, off, none⟩ ∧ b < w.heap.size ∧ w.cell? ⟨b, off + i, none⟩ = some (.int .i64 x)) ∧ I64 x := by
    intro i hi
    obtain ⟨b, off, m, cs, z, hA, hb, hlen, hcell, ht'⟩ := hx i hi
    obtain ⟨x, rfl, h1, h2⟩ := rd_int he ht'
    have := hcell 0 (by omega)
    rw [Nat.mul_one, Nat.add_zero] at this
    exact ⟨x, ⟨b, off, hA, hb, this⟩, h1, h2⟩
  obtain ⟨f, hf⟩ := choose_lt key
  have hlen : ((List.range len).map f).length = len := by simp
  refine ⟨A, cap, (List.range len).map f, by rw [hlen], fun k hk => ?_, by omega, fun hA => by rw [hn hA]; rfl, fun x hx' => ?_⟩
  · rw [hlen] at hk
    obtain ⟨⟨b, off, h1, h2, h3⟩, _⟩ := hf k hk
    exact ⟨b, off, h1, h2, by rw [h3]; simp [List.getD, hk]⟩
  · obtain ⟨k, hk, rfl⟩ := List.mem_map.1 hx'
    exact (hf k (by simpa using hk)).2

/-- A world that only has more. -/
theorem since_of_ext {W W' : World} (h : Ext W W') : W.Since W.heap.size W' := ⟨h.os, h.tape, h.output, h.size, fun k hk => h.block k hk⟩
/-- An argument reads as before in a world that only has more. -/
theorem stays {t : TypeId} (hl : laidOutB P = true) (hr : P.readableRec t = true) (hrow : t < P.types.size) {W W' : World} {sp' : Nat → Bool} {v : Value} {d : DataW H} {ps : List MemPlace}
    (h : DataW.Trod enc P W 0 (fun _ => true) true t v d ps) (hE : Ext W W') (hlt : ∀ p ∈ ps, p.block < W.heap.size) (hs : ∀ p ∈ ps, sp' p.block = true) : DataW.Trod enc P W' 0 sp' true t v d ps :=
  WideElems.Trod_stays hl hr hrow h (fun p hp => (since_of_ext hE).sameAt (hlt p hp)) hs
end
end Go.Proofs.Ytbpilgflejdhaaa

namespace Go.Proofs.Ytbpilgflejdhaaa
open Go.RowKit Go.ChangeShapes Go.WideShapes Go.Deep Go.ChangeAt

section
variable {H : Type} {enc : TypeId × Value → H} {P : Program}
theorem staysAll (hl : laidOutB P = true) {W W' : World} (hE : Ext W W') {sp' : Nat → Bool} : ∀ {ts : List TypeId} {vs : List Value} {ds : List (DataW H)} {ps : List MemPlace}, (∀ t ∈ ts, P.readableRec t = true ∧ t < P.types.size) →
    DataW.TrodAll enc P W 0 (fun _ => true) true ts vs ds ps → (∀ p ∈ ps, p.block < W.heap.size) → (∀ p ∈ ps, sp' p.block = true) → DataW.TrodAll enc P W' 0 sp' true ts vs ds ps := by
  intro ts
  induction ts with
  | nil =>
    intro vs ds ps _ h _ _
    obtain ⟨rfl, rfl, rfl⟩ := trodAll_nil h
    exact trodAll_mk0
  | cons t ts ih =>
    intro vs ds ps ht h hlt hs
    obtain ⟨v, vs', d, ds', p, q, rfl, rfl, rfl, h0, hr⟩ := trodAll_cons h
    exact trodAll_cons_mk (stays hl (ht t List.mem_cons_self).1 (ht t List.mem_cons_self).2 h0 hE (fun x hx => hlt x (List.mem_append_left _ hx)) (fun x hx => hs x (List.mem_append_left _ hx)))
      (ih (fun t' h' => ht t' (List.mem_cons_of_mem _ h')) hr (fun x hx => hlt x (List.mem_append_right _ hx)) (fun x hx => hs x (List.mem_append_right _ hx)))

theorem trodLen {w : World} {base : Nat} {spare : Nat → Bool} {held : Bool} : ∀ {ts : List TypeId} {vs : List Value} {ds : List (DataW H)} {ps : List MemPlace}, DataW.TrodAll enc P w base spare held ts vs ds ps → ds.length = ts.length := by
  intro ts
  induction ts with
  | nil =>
    intro vs ds ps h
    obtain ⟨rfl, rfl, rfl⟩ := trodAll_nil h
    rfl
  | cons t ts ih =>
    intro vs ds ps h
    obtain ⟨v, vs', d, ds', p, q, rfl, rfl, rfl, h0, hr⟩ := trodAll_cons h
    simp [ih hr]

theorem law_post {f : Func} {s : ChangeSpec} {W W' : World} {args : Array Value} {ds gs : List (DataW H)} {before : List MemPlace} {tb : TypeId} (hl : laidOutB P = true) (hts : ∀ t ∈ f.params.toList, P.readableRec t = true ∧ t < P.types.size)
    (hv : s.vars = []) (hb : P.underlying tb = some .bool) (hrt : f.resultTypes = #[tb]) (hspec : ∀ l : List (DataW H), l.length = f.params.toList.length → s.fn H (l ++ []) = { results := [.lit (.bool true)], args := l, vars := [] })
    (hW : DataW.Whole enc P f.params.toList s.vars false W args.toList ds gs before) (hE : Ext W W') : s.post enc P f false true false false W args (.bool true) W' := by
  have hW' := hW
  obtain ⟨p, q, hA, hV, rfl, _, _⟩ := hW
  rw [hv] at hV
  obtain ⟨rfl, rfl⟩ := trodVars_none hV
  have hlt : ∀ x ∈ p, x.block < W.heap.size := fun x hx => hW'.lt x (by simp [hx])
  have hlen := trodLen hA
  have hs := hspec ds hlen
  refine ⟨ds, [], _, [], p, [], hW', ?_, ?_, ?_, (since_of_ext hE).frame _, fun h => by cases h⟩
  · rw [hs, hrt]
    exact trodAll_cons_mk (shut_bool hb _) trodAll_mk0
  · rw [hs]
    exact staysAll hl hE hts hA hlt (fun x hx => by simpa using hlt x hx)
  · rw [hs, hv]
    rfl
end
end Go.Proofs.Ytbpilgflejdhaaa

namespace Go.Proofs.Ytbpilgflejdhaaa
open Go.RowKit Go.ChangeShapes Go.WideShapes Go.Deep

def nobody : Nat → Prop := fun _ => False
/-- Cells that are as a table says. -/
def CellsAre (w : World) (cs : List Value) (sz : Nat) (c : Nat → AV) : Prop := cs.length = sz ∧ ∀ o, o < sz → ∃ u, cs[o]? = some u ∧ u.oneCell' = true ∧ rep nobody w (c o) g0 u
theorem law_calls {P : Program} {f : FuncId} {xs : List AV} (H : ACall P f xs [] (fun r h => r = .bool true ∧ h = [])) {w : World} {vs : Array Value} (hs : vs.size = xs.length) (hr : ∀ (i : Nat) (x : AV), xs[i]? = some x → rep nobody w x g0 (vs.getD i undef)) :
    Calls P f vs w fun e w' => e = .returned (.bool true) ∧ Ext w w' := by
  have noM : ∀ b, MM nobody g0 [] b → False := fun b hb => by
    rcases hb with hb | ⟨d, cap, ⟨x, hx, _⟩, _⟩
    · exact hb
    · simp at hx
  refine (H.2 nobody g0 w vs (HOK.nil w (fun _ h => h.elim)) hs fun i x hx => rep_mono (Chg.refl _ w) (fun b _ hb => (noM b hb).elim) _ (GM.le_refl _) (hr i x hx)).mono ?_
  rintro e w' ⟨v, r, h', g', rfl, T, hv, rfl, _⟩
  have : v = .bool true := hv
  subst this
  exact ⟨rfl, T.chg.os, T.chg.tape, T.chg.output, T.chg.size, fun b hb => T.chg.block b hb (fun hm => noM b (.inr hm))⟩
theorem CellsAre.agg {w : World} {cs : List Value} {sz : Nat} {c : Nat → AV} (h : CellsAre w cs sz c) : rep nobody w (.agg sz c) g0 (.agg cs.toArray) :=
  ⟨_, rfl, by simp [h.1], fun i hi => by obtain ⟨u, h1, h2, h3⟩ := h.2 i hi; exact ⟨u, by simpa using h1, h2, h3⟩⟩
theorem CellsAre.val {w : World} {v : Value} {cs : List Value} {c : Nat → AV} (h : CellsAre w cs 1 c) (hv : cs = [v]) : rep nobody w (c 0) g0 v := by
  subst hv
  obtain ⟨u, h1, _, h3⟩ := h.2 0 (by omega)
  simp at h1
  rw [h1]; exact h3
theorem CellsAre.sub {w : World} {cs : List Value} {off k : Nat} {c : Nat → AV} (h : CellsAre w ((cs.drop off).take k) k c) {o : Nat} (ho : o < k) : ∃ u, cs[off + o]? = some u ∧ u.oneCell' = true ∧ rep nobody w (c o) g0 u := by
  obtain ⟨u, h1, h2⟩ := h.2 o ho
  rw [List.getElem?_take] at h1
  simp only [ho, if_true, List.getElem?_drop] at h1
  exact ⟨u, h1, h2⟩
theorem CellsAre.one {w : World} {v : Value} {x : AV} (h1 : v.oneCell' = true) (h : rep nobody w x g0 v) : CellsAre w [v] 1 (fun _ => x) :=
  ⟨rfl, fun o ho => by obtain rfl : o = 0 := (by omega)
                       exact ⟨v, rfl, h1, h⟩⟩
section
variable {H : Type} {enc : TypeId × Value → H} {P : Program} {w : World} {base : Nat} {held : Bool}
theorem rdr_int {t : TypeId} {n : Nat} {cs : List Value} {y : DataW H × List MemPlace} (ht : P.underlying t = some (.int .i64)) (h : DataW.trod enc P w base (fun _ => true) held n t cs = some y) : ∃ i : Int, I64 i ∧ CellsAre w cs 1 (fun _ => .int .i64 i) := by
  obtain ⟨i, rfl, hi⟩ := rd_int ht h
  exact ⟨i, hi, .one rfl rfl⟩
theorem rdr_slice {α : Type} {t e : TypeId} {sz : Nat} (c : α → Nat → AV) (Q : α → Prop) (d : α) (ht : P.underlying t = some (.slice e)) (hc : P.cellsOf e = sz) (hsz : 0 < sz) (rd : ∀ {n : Nat} {cs : List Value} {y : DataW H × List MemPlace}, DataW.trod enc P w base (fun _ => true) held n e cs = some y → ∃ x, Q x ∧ CellsAre w cs sz (c x))
    {n : Nat} {cs : List Value} {y : DataW H × List MemPlace} (h : DataW.trod enc P w base (fun _ => true) held n t cs = some y) :
    ∃ (z : Bool) (l : List α), (l.length ≤ 9223372036854775807 ∧ ∀ x ∈ l, Q x) ∧ CellsAre w cs 1 (fun _ => .sl z false l.length sz (fun k => c (l.getD k d))) := by
  have hmx : maxLen = 9223372036854775807 := rfl
  have h' := h
  rcases open_slice ht h with ⟨rfl, _⟩ | ⟨a, len, cap, m, n', D, Pl, rfl, hb, hl, hm, hmm, _, hx⟩
  · refine ⟨true, [], ⟨by simp, fun x hx => by cases hx⟩, .one rfl ⟨none, 0, rfl, by simp, by simp, fun h => (by cases h), by simp, fun k hk => absurd hk (Nat.not_lt_zero k)⟩⟩
  · obtain ⟨A, len', cap', h0, hl', hn, hxx⟩ := rd_slice ht hc hsz h'
    injection h0 with e1 e2 e3
    subst e1; subst e2; subst e3
    have key : ∀ i, i < len → ∃ x : α, Q x ∧ ∃ b off, (some a : Option Addr) = some ⟨b, off, none⟩ ∧ b < w.heap.size ∧ ∀ o, o < sz → ∃ u, w.cell? ⟨b, off + i * sz + o, none⟩ = some u ∧ u.oneCell' = true ∧ rep nobody w (c x o) g0 u := fun i hi => by
      obtain ⟨b, off, m, cs, z, hA, hb, hlen, hcell, ht'⟩ := hxx i hi
      obtain ⟨x, hq, hcs⟩ := rd ht'
      refine ⟨x, hq, b, off, hA, hb, fun o ho => ?_⟩
      obtain ⟨u, h1, h2⟩ := hcs.2 o ho
      exact ⟨u, (hcell o ho).trans h1, h2⟩
    obtain ⟨f, hf⟩ : ∃ f : Nat → α, ∀ i, i < len → Q (f i) ∧ ∃ b off, (some a : Option Addr) = some ⟨b, off, none⟩ ∧ b < w.heap.size ∧ ∀ o, o < sz → ∃ u, w.cell? ⟨b, off + i * sz + o, none⟩ = some u ∧ u.oneCell' = true ∧ rep nobody w (c (f i) o) g0 u := by
      refine ⟨fun i => open Classical in if hi : i < len then (key i hi).choose else d, fun i hi => ?_⟩
      simp only [hi, dif_pos]
      exact (key i hi).choose_spec
    have hlen : ((List.range len).map f).length = len := by simp
    refine ⟨false, (List.range len).map f, ⟨by rw [hlen]; omega, fun x hx => ?_⟩, ?_⟩
    · obtain ⟨k, hk, rfl⟩ := List.mem_map.1 hx
      exact (hf k (by simpa using hk)).1
    · refine .one rfl ⟨some a, cap, by rw [hlen], by simp, by simp, fun h => (by cases h), by rw [hlen]; exact hl, fun k hk o ho => ?_⟩
      rw [hlen] at hk
      obtain ⟨_, b, off, h1, h2, h3⟩ := hf k hk
      obtain ⟨u, h4, h5, h6⟩ := h3 o ho
      have hg : ((List.range len).map f).getD k d = f k := by simp [List.getD, hk]
      exact ⟨b, off, u, h1, h2, fun h => h, h4, h5, by show rep nobody w (c (((List.range len).map f).getD k d) o) g0 u; rw [hg]; exact h6⟩
theorem rdr_field {t : TypeId} {fs : Array Field} {n : Nat} {cs : List Value} {y : DataW H × List MemPlace} (ht : P.underlying t = some (.struct fs)) (h : DataW.trod enc P w base (fun _ => true) held n t cs = some y) : cs.length = P.cellsOf t ∧ ∀ (k : Nat) (f : Field), fs[k]? = some f → ∃ m x, DataW.trod enc P w base (fun _ => true) held m f.type ((cs.drop f.offset).take (P.cellsOf f.type)) = some x := by
  obtain ⟨xs, m, _, rfl, hl, hlen, hf⟩ := DataW.trod_struct ht h
  refine ⟨hl, fun k f hk => ?_⟩
  have hk' : k < fs.size := by
    rcases Nat.lt_or_ge k fs.size with h | h
    · exact h
    · rw [Array.getElem?_eq_none h] at hk; cases hk
  have := hf k f hk
  rw [List.getElem?_eq_getElem (by omega)] at this
  exact ⟨m, _, this⟩
/-- Each field reads. -/
def FRd (enc : TypeId × Value → H) (P : Program) (w : World) (base : Nat) (held : Bool) (cs : List Value) : List Field → Prop
  | [] => True
  | f :: fs => (∃ m x, DataW.trod enc P w base (fun _ => true) held m f.type ((cs.drop f.offset).take (P.cellsOf f.type)) = some x) ∧ FRd enc P w base held cs fs
theorem FRd.of {cs : List Value} : ∀ {l : List Field}, (∀ f ∈ l, ∃ m x, DataW.trod enc P w base (fun _ => true) held m f.type ((cs.drop f.offset).take (P.cellsOf f.type)) = some x) → FRd enc P w base held cs l
  | [], _ => trivial
  | _ :: _, h => ⟨h _ List.mem_cons_self, FRd.of fun f hf => h f (List.mem_cons_of_mem _ hf)⟩
theorem rdr_fields {t : TypeId} {fs : Array Field} {n : Nat} {cs : List Value} {y : DataW H × List MemPlace} (ht : P.underlying t = some (.struct fs)) (h : DataW.trod enc P w base (fun _ => true) held n t cs = some y) : cs.length = P.cellsOf t ∧ FRd enc P w base held cs fs.toList := by
  obtain ⟨h1, h2⟩ := rdr_field ht h
  refine ⟨h1, FRd.of fun f hf => ?_⟩
  obtain ⟨k, hk, rfl⟩ := List.getElem_of_mem hf
  exact h2 k _ (by simp)
end
end Go.Proofs.Ytbpilgflejdhaaa
