/- Exams: open: what it computes. -/
import Derived.Test.YtbpilgflejdhaaaExN
namespace Go.Proofs.Ytbpilgflejdhaaa
open Go.RowKit

def noSpan : Int × Int := (1073741824, -1073741824)
/-- A survey as it is first made. -/
def survZ (p : Paper) (f : Nat → Nat → Int × Int) : Surv := { res := noSpan, it := f, shown := [], right := List.replicate p.judges.length false, fewest := p.judges.length, poss := false }
def survO (p : Paper) : Surv := survZ p (fun _ _ => noSpan)
def bias0 (p : Paper) : List (Int × Int) := p.judges.map (fun x => (x.lo, x.hi))
def openM (p : Paper) : Surv := visitM p p.items.length [0, 0, 0, 0] 0 (bias0 p) (survO p)

def zeros : List Value := List.replicate 248 (.int .i64 0)
theorem zeros_len : zeros.length = 248 := by unfold zeros; exact List.length_replicate ..
theorem zeros_get (k : Nat) (h : k < 248) : zeros[k]? = some (.int .i64 0) := by unfold zeros; rw [List.getElem?_replicate, if_pos h]
def zhead : List Value := [.slice none 0 0, .slice none 0 0, .int .i64 0, .slice none 0 0, .int .i64 0, .int .i64 0]
def ztail : List Value := [.map none, .slice none 0 0, .int .i64 0, .bool false]
theorem zero_cells : Try.zeroCells84 = (zhead ++ zeros ++ ztail).toArray := by kernel_rfl
/-- The cells of a survey as open makes it. -/
def newCells (z : Array Value) (iA jA gA : Option Addr) (il jl gl ic jc gc : Nat) (wr : Int) (M R : Nat) : Array Value :=
  (((((((((z.setIfInBounds 0 (.slice iA il ic)).setIfInBounds 1 (.slice jA jl jc)).setIfInBounds 2 (.int .i64 wr)).setIfInBounds 3 (.slice gA gl gc)).setIfInBounds 4 (.int .i64 1073741824)).setIfInBounds 5 (.int .i64 (-1073741824))).setIfInBounds
    254 (.map (some M))).setIfInBounds 255 (.slice (some ⟨R, 0, none⟩) jl jl)).setIfInBounds 256 (.int .i64 jl))
set_option maxRecDepth 10000 in
theorem survCs_new (iA jA gA : Option Addr) (ic jc gc B M R : Nat) (p : Paper) :
    SurvCs (newCells Try.zeroCells84 iA jA gA p.items.length p.judges.length p.grades.length ic jc gc p.wrong M R) ⟨B, M, R, p.judges.length, iA, jA, gA, ic, jc, gc⟩ p (survZ p (fun _ _ => (0, 0))) := by
  have hz : (Try.zeroCells84 : Array Value).size = 258 := by
    rw [zero_cells, List.size_toArray, List.length_append, List.length_append, zeros_len]; rfl
  have hlast : (Try.zeroCells84 : Array Value)[257]? = some (.bool false) := by
    rw [zero_cells, List.getElem?_toArray, List.getElem?_append_right (by rw [List.length_append, zeros_len]; simp [zhead]), List.length_append, zeros_len]; rfl
  have hrep : ∀ k, 6 ≤ k → k < 254 → (Try.zeroCells84 : Array Value)[k]? = some (.int .i64 0) := by
    intro k h1 h2
    have hh : zhead.length = 6 := rfl
    rw [zero_cells, List.getElem?_toArray, List.getElem?_append_left (by rw [List.length_append, zeros_len]; omega), List.getElem?_append_right (by omega)]
    exact zeros_get _ (by omega)
  have hq : ∀ k, 6 ≤ k → k < 254 → (newCells Try.zeroCells84 iA jA gA p.items.length p.judges.length p.grades.length ic jc gc p.wrong M R)[k]? = some (.int .i64 0) := by
    intro k h1 h2
    unfold newCells
    exact getq (getq (getq (getq (getq (getq (getq (getq (getq (hrep k h1 h2) _ (by omega)) _ (by omega)) _ (by omega)) _ (by omega)) _ (by omega)) _ (by omega)) _ (by omega)) _ (by omega)) _ (by omega)
  refine ⟨?_, ?_, ?_, ?_, ?_, ?_, ?_, fun i n hi hn => hq _ (by omega) (by omega), fun i n hi hn => hq _ (by omega) (by omega), ?_, ?_, ?_, ?_⟩
  all_goals
    unfold newCells
    generalize Try.zeroCells84 = z at *
  · simpa using hz
  · exact getq (getq (getq (getq (getq (getq (getq (getq (getset _ (by simp [hz])) _ (by omega)) _ (by omega)) _ (by omega)) _ (by omega)) _ (by omega)) _ (by omega)) _ (by omega)) _ (by omega)
  · exact getq (getq (getq (getq (getq (getq (getq (getset _ (by simp [hz])) _ (by omega)) _ (by omega)) _ (by omega)) _ (by omega)) _ (by omega)) _ (by omega)) _ (by omega)
  · exact getq (getq (getq (getq (getq (getq (getset _ (by simp [hz])) _ (by omega)) _ (by omega)) _ (by omega)) _ (by omega)) _ (by omega)) _ (by omega)
  · exact getq (getq (getq (getq (getq (getset _ (by simp [hz])) _ (by omega)) _ (by omega)) _ (by omega)) _ (by omega)) _ (by omega)
  · exact getq (getq (getq (getq (getset _ (by simp [hz])) _ (by omega)) _ (by omega)) _ (by omega)) _ (by omega)
  · exact getq (getq (getq (getset _ (by simp [hz])) _ (by omega)) _ (by omega)) _ (by omega)
  · exact getq (getq (getset _ (by simp [hz])) _ (by omega)) _ (by omega)
  · exact getq (getset _ (by simp [hz])) _ (by omega)
  · exact getset _ (by simp [hz])
  · exact getq (getq (getq (getq (getq (getq (getq (getq (getq hlast _ (by omega)) _ (by omega)) _ (by omega)) _ (by omega)) _ (by omega)) _ (by omega)) _ (by omega)) _ (by omega)) _ (by omega)
theorem surv_new (iA jA gA : Option Addr) (ic jc gc : Nat) (p : Paper) (rv : Array Value) (hrv : rv = rightV (List.replicate p.judges.length false)) (W : World) (B M R : Nat)
    (hB : Blk W B 84 (newCells Try.zeroCells84 iA jA gA p.items.length p.judges.length p.grades.length ic jc gc p.wrong M R)) (hM : W.heap[M]? = some (.map #[] 0)) (hR : Blk W R 4 rv) :
    SurvAt W ⟨B, M, R, p.judges.length, iA, jA, gA, ic, jc, gc⟩ p (survZ p (fun _ _ => (0, 0))) :=
  ⟨⟨_, hB, survCs_new iA jA gA ic jc gc B M R p⟩, ⟨#[], 0, hM, rfl⟩, by rw [hrv] at hR; exact hR, by simp [survZ]⟩
theorem Blk.news {W : World} {b : Nat} {t : TypeId} {cs : List Value} (h : Blk W b t cs.toArray) : ∀ j u, cs[j]? = some u → W.cell? ((⟨b, 0, none⟩ : Addr).add j) = some u := by
  intro j u hu
  have hadd : (⟨b, 0, none⟩ : Addr).add j = ⟨b, j, none⟩ := by
    unfold Addr.add
    by_cases h0 : j = 0 <;> simp [h0]
  rw [hadd, h.cell]
  simpa using hu
theorem blk_second (w : World) (o : Obj) (cs : Array Value) (t : TypeId) : Blk ((w.alloc o).alloc (.cells cs t)) (w.heap.size + 1) t cs := by
  have := Blk.new (w.alloc o) t cs
  simpa using this
theorem ext_append {w1 w w' : World} {e : TypeId} {size n : Nat} {v : Value} {xs : List Value} (h : Ext w1 w) (hown : w.ownsRow w1.heap.size e size v n xs) (hg : w.grownBy w' v.ownBlock) : Ext w1 w' :=
  Below.grown h hg h.size (fun k hk => (hown.lt k hk).1)
theorem heap4 (w1 : World) (o1 o2 o3 o4 : Obj) : ((((w1.alloc o1).alloc o2).alloc o3).alloc o4).drew.heap[w1.heap.size]? = some o1 ∧ ((((w1.alloc o1).alloc o2).alloc o3).alloc o4).drew.heap[w1.heap.size + 1]? = some o2 ∧
    ((((w1.alloc o1).alloc o2).alloc o3).alloc o4).drew.heap[w1.heap.size + 1 + 1]? = some o3 ∧ ((((w1.alloc o1).alloc o2).alloc o3).alloc o4).drew.heap[w1.heap.size + 1 + 1 + 1]? = some o4 := by
  have s1 : (w1.alloc o1).heap.size = w1.heap.size + 1 := by simp
  have s2 : ((w1.alloc o1).alloc o2).heap.size = w1.heap.size + 1 + 1 := by simp
  have s3 : (((w1.alloc o1).alloc o2).alloc o3).heap.size = w1.heap.size + 1 + 1 + 1 := by simp
  refine ⟨?_, ?_, ?_, ?_⟩
  · exact ((((Ext.of_alloc (w1.alloc o1) o2).alloc o3).alloc o4).drew.block w1.heap.size (by omega)).trans (heap_alloc_new w1 o1)
  · rw [← s1]; exact (((Ext.of_alloc ((w1.alloc o1).alloc o2) o3).alloc o4).drew.block (w1.alloc o1).heap.size (by omega)).trans (heap_alloc_new (w1.alloc o1) o2)
  · rw [← s2]; exact ((Ext.of_alloc (((w1.alloc o1).alloc o2).alloc o3) o4).drew.block ((w1.alloc o1).alloc o2).heap.size (by omega)).trans (heap_alloc_new ((w1.alloc o1).alloc o2) o3)
  · rw [← s3]; exact heap_alloc_new (((w1.alloc o1).alloc o2).alloc o3) o4
theorem SurvAt.congr {W : World} {L : Loc} {p : Paper} {S : Surv} (h : SurvAt W L p S) (f : Nat → Nat → Int × Int) (hf : ∀ i n, i < 4 → n < 31 → f i n = S.it i n) : SurvAt W L p { S with it := f } := by
  obtain ⟨cs, hb, hc⟩ := h.cs
  exact ⟨⟨cs, hb, hc.size, hc.c0, hc.c1, hc.c2, hc.c3, hc.c4, hc.c5, (fun i n hi hn => by show cs[6 + i * 62 + n * 2]? = some (.int .i64 (f i n).1); rw [hf i n hi hn]; exact hc.it1 i n hi hn), (fun i n hi hn => by show cs[6 + i * 62 + n * 2 + 1]? = some (.int .i64 (f i n).2); rw [hf i n hi hn]; exact hc.it2 i n hi hn), hc.c254, hc.c255, hc.c256, hc.c257⟩, h.map, h.right, h.rlen⟩
theorem SurvAt.setIts {W : World} {L : Loc} {p : Paper} {S : Surv} (h : SurvAt W L p S) (i n : Nat) (hi : i < 4) (hn : n < 31) (x y : Int) :
    SurvAt ((W.setCell ⟨L.B, 6 + i * 62 + n * 2, none⟩ (.int .i64 x)).setCell ⟨L.B, 6 + i * 62 + n * 2 + 1, none⟩ (.int .i64 y)) L p { S with it := setIt S.it i n (x, y) } := by
  obtain ⟨cs, hb, hc⟩ := h.cs
  exact h.own ((hb.set _ _).set _ _) (hc.item i n hi hn x y) (grown_trans (grown_setCell W ⟨L.B, _, none⟩ _) (grown_setCell _ ⟨L.B, _, none⟩ _)) rfl rfl
theorem run_makeBools (n : Nat) (hn : n ≤ 65536) (w : World) (rv : Array Value) (hrv : rv = rightV (List.replicate n false)) :
    (Instr.makeSlice 82 (.int .i64 n) (.int .i64 n)).run Try.prog w = .ok (.slice (some ⟨w.heap.size, 0, none⟩) n n) (w.alloc (.cells rv 4)) := by
  have hinfo : (Try.prog.info? 4).map (fun i => (i.zero, i.size, i.bytes)) = some (some (.bool false), 1, 1) := by kernel_rfl
  obtain ⟨i0, hi0, hz0, hz1, hz2⟩ := info_parts hinfo
  have := run_make (P := Try.prog) w 82 4 i0 (.bool false) Try.underlying82 hi0 hz0 .i64 .i64 n n (by omega) (by omega) (by rw [hz2]; omega) (by omega)
  rw [this, hrv, hz1]
  have hm : madeCells (Value.cells (.bool false)) ((n : Int).toNat * 1) = rightV (List.replicate n false) := by
    apply Array.ext'
    simp [madeCells, rightV]
    apply List.ext_getElem?
    intro j
    by_cases hj : j < n
    · simp [hj, Value.cells, Nat.mod_one]
    · simp [hj]
  rw [hm]
  rfl
end Go.Proofs.Ytbpilgflejdhaaa
