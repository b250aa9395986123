/- Exams: the walk over end. -/
import Derived.Test.YtbpilgflejdhaaaExK
namespace Go.Proofs.Ytbpilgflejdhaaa
open Go.RowKit

theorem only_cell {L : Loc} {w w' : World} (h : Only L w w') {b : Nat} (hb : b < w.heap.size) (h1 : b ≠ L.B) (h2 : b ≠ L.M) (h3 : b ≠ L.R) (i : Nat) : w'.cell? ⟨b, i, none⟩ = w.cell? ⟨b, i, none⟩ :=
  World.cell?_of_block (h.block b hb h1 h2 h3)
theorem SurvAt.ltM {W : World} {L : Loc} {p : Paper} {S : Surv} (h : SurvAt W L p S) : L.M < W.heap.size := h.map.lt
theorem SurvAt.ltR {W : World} {L : Loc} {p : Paper} {S : Surv} (h : SurvAt W L p S) : L.R < W.heap.size := h.right.lt

/-- Spans that are no block of the survey's. -/
structure Bias (L : Loc) (W : World) (A : Option Addr) (bs : List (Int × Int)) : Prop where
  sp : Spans W A bs
  ne : ∀ b off, A = some ⟨b, off, none⟩ → b ≠ L.B ∧ b ≠ L.M ∧ b ≠ L.R
theorem Bias.only {L : Loc} {W W' : World} {A : Option Addr} {bs : List (Int × Int)} (h : Bias L W A bs) (o : Only L W W') : Bias L W' A bs :=
  ⟨fun k hk => by
    obtain ⟨b, off, hA, hb, h1, h2⟩ := h.sp k hk
    obtain ⟨n1, n2, n3⟩ := h.ne b off hA
    exact ⟨b, off, hA, Nat.lt_of_lt_of_le hb o.size, (only_cell o hb n1 n2 n3 _).trans h1, (only_cell o hb n1 n2 n3 _).trans h2⟩, h.ne⟩

set_option maxHeartbeats 4000000 in
set_option maxRecDepth 100000 in
theorem end_no (L : Loc) (p : Paper) (S : Surv) (a b c d r : Int) (A : Option Addr) (cc : Nat) (bs : List (Int × Int)) (W : World) (h : SurvAt W L p S) (hb : Bias L W A bs) (hbl : bs.length ≤ 4) (hw : p.wrong < wrongN bs bs.length) :
    Calls Try.prog 77 #[.pointer (some ⟨L.B, 0, none⟩), .agg #[.int .i64 a, .int .i64 b, .int .i64 c, .int .i64 d], .int .i64 r, .slice A bs.length cc] W fun e W' => e = .returned (.tuple #[]) ∧
      SurvAt W' L p { S with fewest := min S.fewest (wrongN bs bs.length) } ∧ Only L W W' := by
  have H := Lib.hid h
  have HB := Lib.hid hb
  have HN := Lib.hid (wrongN_succ bs)
  have HL := Lib.hid (wrongN_le bs)
  have HZ := Lib.hid (show wrongN bs 0 = 0 from rfl)
  have HW := Lib.hid hw
  have HF := Lib.hid (fun W (h : SurvAt W L p S) (x : Int) => h.setFewest x)
  have HC := Lib.hid (fun W (h : SurvAt W L p S) => h.cell)
  have HFr := Lib.hid (fun W (h : SurvAt W L p S) => h.free)
  have HO := Lib.hid (fun W (x : Value) => Only.setCell W L ⟨L.B, 256, none⟩ x (.inl rfl))
  have hltB := h.ltB
  clear h hb hw
  obtain ⟨B, M, R, rc, iA, jA, gA, ic, jc, gc⟩ := L
  simp only at *
  go_enter Try.func77, Try.ntmps77
  go_wp2
  go_loopw [8, 17] (fun n i wr => ∃ k : Nat, k ≤ bs.length ∧ i = .int .i64 k ∧ n = .int .i64 (wrongN bs k) ∧ Ext W wr) (fun _ i _ => bs.length - (intOf i).toNat)
  case atStart => exact ⟨0, by omega, rfl, by rw [HZ.out]; rfl, Ext.of_alloc _ _⟩
  case round =>
    obtain ⟨k, hk, rfl, rfl, hE⟩ := hrel
    have HE := Lib.hid hE
    have hle := HL.out k
    have hbr := (HB.out.only (Only.of_ext hE)).sp
    clear hE
    by_cases hlt : k < bs.length
    · obtain ⟨b', off, x, y, rfl, _, hc1, hc2, hx⟩ := hbr.get hlt
      have HS := Lib.hid (HN.out k hlt)
      by_cases hxy : x ≤ y
      · go_wp2
        go_roundw
        case rel => exact ⟨k + 1, by omega, by go_num, by rw [HS.out, hx.out]; simp [hxy], HE.out.alloc _⟩
        case measure => simp [intOf]; omega
      · go_wp2
        go_roundw
        case rel => exact ⟨k + 1, by omega, by go_num, by rw [HS.out, hx.out]; simp [hxy], HE.out.alloc _⟩
        case measure => simp [intOf]; omega
    · obtain rfl : k = bs.length := by omega
      have hs := H.out.ext HE.out
      obtain ⟨c0, c1, c2, c3, c4, c5, c6, c7, _⟩ := HC.out _ hs
      have hf := HFr.out _ hs 256
      have hw := HW.out
      have hltB' : B < wr.heap.size := Nat.lt_of_lt_of_le hltB HE.out.size
      have HS := Lib.hid hs
      clear hs hbr
      go_wp2
      all_goals
        refine bodyPost_ret (results_none rfl _ _ _) rfl ⟨rfl, ?_, (Only.of_ext HE.out).trans (HO.out _ _)⟩
        first
        | (rw [show min S.fewest (wrongN bs bs.length : Int) = S.fewest from by omega]; exact HF.out _ HS.out _)
        | (rw [show min S.fewest (wrongN bs bs.length : Int) = (wrongN bs bs.length : Int) from by omega]; exact HF.out _ HS.out _)
end Go.Proofs.Ytbpilgflejdhaaa
