/- Calls that are given blocks of the caller. No program in sight. -/
import Derived.Test.YtomkjfhepfinhaaAbs17
namespace Go.Proofs.Ytomkjfhepfinhaa
open Go.RowKit

/-- The caller's names for what a callee names, computed before one goes on. -/
def frensL (K1 : AV → (AV → Prop) → Prop) : List AV → (List AV → Prop) → Prop
  | [], K => K []
  | v :: vs, K => K1 v fun v' => frensL K1 vs fun vs' => K (v' :: vs')
def fren (sel : List Nat) (N : Nat) : Nat → AV → (AV → Prop) → Prop
  | 0, v, K => frc (ren sel N v) K
  | _ + 1, .own d n, K => nlit (tau sel N d) fun d' => K (.own d' n)
  | _ + 1, .ptr d o, K => nlit (tau sel N d) fun d' => K (.ptr d' o)
  | _ + 1, .rp d sz k o, K => nlit (tau sel N d) fun d' => K (.rp d' sz k o)
  | _ + 1, .osl d sz lo n, K => nlit (tau sel N d) fun d' => K (.osl d' sz lo n)
  | D + 1, .fn f m c, K => match (AV.fn f m c).pureB with
    | true => K (.fn f m c)
    | false => frensL (fren sel N D) ((List.range m).map c) fun vs => K (.fn f m (ofL vs))
  | D + 1, .agg m c, K => match (AV.agg m c).pureB with
    | true => K (.agg m c)
    | false => frensL (fren sel N D) ((List.range m).map c) fun vs => K (.agg m (ofL vs))
  | D + 1, .tup m c, K => match (AV.tup m c).pureB with
    | true => K (.tup m c)
    | false => frensL (fren sel N D) ((List.range m).map c) fun vs => K (.tup m (ofL vs))
  | _ + 1, v, K => frc (ren sel N v) K
theorem frensL_e {K1 : AV → (AV → Prop) → Prop} {r : AV → AV} (h1 : ∀ v K, K1 v K → K (r v)) : ∀ {vs : List AV} {K : List AV → Prop}, frensL K1 vs K → K (vs.map r)
  | [], _, h => h
  | _ :: _, K, h => frensL_e h1 (K := fun vs' => K (_ :: vs')) (h1 _ _ h)
theorem fren_e {sel : List Nat} {N : Nat} : ∀ (D : Nat) (v : AV) {K : AV → Prop}, fren sel N D v K → K (ren sel N v)
  | 0, v, K, h => frc_e h
  | D + 1, v, K, h => by
    cases v
    case own => exact nlit_e h
    case ptr => exact nlit_e h
    case rp => exact nlit_e h
    case osl => exact nlit_e h
    case fn f m c =>
      simp only [fren] at h
      simp only [ren]
      split at h
      · rename_i hp; rw [hp]; exact h
      · rename_i hp
        rw [hp]
        have := frensL_e (fun v K hh => fren_e D v hh) h
        rw [List.map_map] at this
        exact this
    case agg m c =>
      simp only [fren] at h
      simp only [ren]
      split at h
      · rename_i hp; rw [hp]; exact h
      · rename_i hp
        rw [hp]
        have := frensL_e (fun v K hh => fren_e D v hh) h
        rw [List.map_map] at this
        exact this
    case tup m c =>
      simp only [fren] at h
      simp only [ren]
      split at h
      · rename_i hp; rw [hp]; exact h
      · rename_i hp
        rw [hp]
        have := frensL_e (fun v K hh => fren_e D v hh) h
        rw [List.map_map] at this
        exact this
    all_goals exact frc_e h
def frenB (sel : List Nat) (N : Nat) (x : AB) (K : AB → Prop) : Prop := match x with
  | .dead => K .dead
  | .box m c => frensL (fren sel N 3) ((List.range m).map c) fun vs => K (.box m (ofL vs))
  | .row n sz c => K (.row n sz c)
theorem frenB_e {sel : List Nat} {N : Nat} {x : AB} {K : AB → Prop} (h : frenB sel N x K) : K (renB sel N x) := by
  cases x with
  | dead => exact h
  | box m c =>
    have := frensL_e (fun v K hh => fren_e 3 v hh) h
    rw [List.map_map] at this
    exact this
  | row n sz c => exact h
def frenBs (sel : List Nat) (N : Nat) : List AB → (List AB → Prop) → Prop
  | [], K => K []
  | x :: xs, K => frenB sel N x fun y => frenBs sel N xs fun ys => K (y :: ys)
theorem frenBs_e {sel : List Nat} {N : Nat} : ∀ {xs : List AB} {K : List AB → Prop}, frenBs sel N xs K → K (xs.map (renB sel N))
  | [], _, h => h
  | _ :: _, K, h => frenBs_e (K := fun ys => K (_ :: ys)) (frenB_e h)
def fputs (sel : List Nat) (N : Nat) : List Nat → List AB → List AB → (List AB → Prop) → Prop
  | d :: ds, x :: xs, H, K => frenB sel N x fun y => frcH (H.set d y) fun H' => fputs sel N ds xs H' K
  | [], xs, H, K => frenBs sel N xs fun ys => frcH (H ++ ys) K
  | _ :: _, [], H, K => K H
theorem fputs_e {sel : List Nat} {N : Nat} : ∀ {ds : List Nat} {xs H : List AB} {K : List AB → Prop}, fputs sel N ds xs H K → K (puts N sel ds xs H)
  | _ :: ds, _ :: xs, _, _, h => fputs_e (ds := ds) (xs := xs) (frcH_e (frenB_e h))
  | [], xs, H, K, h => by
    have := frcH_e (frenBs_e h)
    simpa [puts] using this
  | _ :: _, [], _, _, h => h
def GivL (sel : List Nat) (H : List AB) : List Nat → List AB → Prop
  | [], [] => True
  | d :: ds, x :: xs => (∃ y, H[d]? = some y ∧ x.live ∧ LnB (fun d i => sel[i]? = some d) (fun _ => False) H y x) ∧ GivL sel H ds xs
  | _, _ => False
theorem GivL.get {sel : List Nat} {H : List AB} : ∀ {ds : List Nat} {xs : List AB}, GivL sel H ds xs → ds.length = xs.length ∧ ∀ (i d : Nat) (x : AB), ds[i]? = some d → xs[i]? = some x → ∃ y, H[d]? = some y ∧ x.live ∧ LnB (fun d i => sel[i]? = some d) (fun _ => False) H y x
  | [], [], _ => ⟨rfl, fun i d x h => by simp at h⟩
  | [], _ :: _, h => h.elim
  | _ :: _, [], h => h.elim
  | d :: ds, x :: xs, h => by
    obtain ⟨a, b⟩ := GivL.get h.2
    refine ⟨by simp [a], fun i d' y hd hy => ?_⟩
    cases i with
    | zero =>
      simp only [List.getElem?_cons_zero, Option.some.injEq] at hd hy
      subst hd; subst hy
      exact h.1
    | succ i => exact b i d' y hd hy
theorem FCall.give {P : Program} {f : FuncId} {xs xs' : List AV} {H h' : List AB} {K' K : AV → List AB → Prop} (sel B : List Nat) (con : ACall P f xs' h' K') (hnd : nodupB sel = true) (hBs : (B.all fun d => !sel.contains d) = true)
    (hh : GivL sel H sel h') (hx : LnL (fun d i => sel[i]? = some d) (fun d => d ∈ B) H xs xs')
    (hK : ∀ r h2, K' r h2 → sel.length ≤ h2.length ∧ (B = [] ∨ (r.flat ∧ ∀ x ∈ h2, x.flat)) ∧ nlit H.length fun N => fren sel N 3 r fun r' => fputs sel N sel h2 H fun H' => K r' H') : FCall (ACalls P) f xs H K := by
  refine ⟨ACall.at sel B con (nodupB_ok hnd) hh.get.1 (fun d hd hs => ?_) hh.get.2 hx fun r h2 hk => ?_⟩
  · simp only [List.all_eq_true, Bool.not_eq_true', List.contains_eq_mem, decide_eq_false_iff_not] at hBs
    exact hBs d hd hs
  · obtain ⟨a, b, c⟩ := hK r h2 hk
    have c := nlit_e c
    exact ⟨a, b, fputs_e (K := fun H' => K _ H') (fren_e 3 _ (K := fun r' => fputs sel H.length sel h2 H fun H' => K r' H') c)⟩
/-- A row that a function hands back, to be read only. -/
theorem ACall.pub {P : Program} {f : FuncId} {xs : List AV} {n N sz : Nat} {c : Nat → Nat → AV} (hn : n ≤ N) (H : ACall P f xs [] (fun r h => r = .own 0 n ∧ h = [.row N sz c])) : ACall P f xs [] (fun r h => r = .sl false false n sz c ∧ h = []) :=
  ACall.wk (ACall.mono' P (by rintro _ _ ⟨rfl, rfl⟩; exact ⟨_, [], [], Cut.nil _, Ln.pubE (goneB rfl) rfl hn rfl (fun _ _ _ _ => rfl), rfl, rfl⟩) H)
theorem flat_row {n : Nat} {c : Nat → Nat → AV} (h : ∀ k o, (c k o).flat) : (AB.row n 1 c).flat := fun k _ o _ => h k o
theorem flat_one {x : AB} (h : x.flat) : ∀ y ∈ [x], y.flat := fun y hy => by
  rw [List.mem_singleton.1 hy]; exact h
end Go.Proofs.Ytomkjfhepfinhaa
