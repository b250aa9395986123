/- Literals, make and append: abstract and real agree / All operations but calls of functions: abstract and real agree / Regions over abstract values: one order stands for all / The order of a region's operations: over abstract values one order stands for all -/
import Derived.Test.YtomkjfhepfinhaaPl1
set_option linter.unusedSimpArgs false
set_option linter.unusedVariables false
namespace Go.Proofs.Ytomkjfhepfinhaa
open Go.RowKit
variable {F : Nat → Prop}

theorem foldl_zipIdx (off : Nat) : ∀ (l : List Value) (s : Nat) (cells : Array Value), off + s + l.length ≤ cells.size →
    ((l.zipIdx s).foldl (fun cs (x : Value × Nat) => cs.setIfInBounds (off + x.2) x.1) cells).size = cells.size ∧
    ∀ i, ((l.zipIdx s).foldl (fun cs (x : Value × Nat) => cs.setIfInBounds (off + x.2) x.1) cells)[i]? = if off + s ≤ i ∧ i < off + s + l.length then l[i - (off + s)]? else cells[i]? := by
  intro l
  induction l with
  | nil => intro s cells _; exact ⟨rfl, fun i => by simp; omega⟩
  | cons v l ih =>
    intro s cells hl
    simp only [List.length_cons] at hl
    obtain ⟨h1, h2⟩ := ih (s + 1) (cells.setIfInBounds (off + s) v) (by simp; omega)
    simp only [List.zipIdx_cons, List.foldl_cons]
    refine ⟨by rw [h1]; simp, fun i => ?_⟩
    rw [h2 i, Array.getElem?_setIfInBounds]
    by_cases e : i = off + s
    · subst e
      have h0 : off + s < cells.size := by omega
      simp [h0]
      omega
    · by_cases hin : off + s ≤ i ∧ i < off + s + (l.length + 1)
      · rw [if_pos (by omega), if_pos (by simpa using hin)]
        rw [show i - (off + s) = i - (off + (s + 1)) + 1 by omega]
        rfl
      · rw [if_neg (by omega), if_neg (fun h => e h.symm), if_neg (by simpa using hin)]

section
variable {P : Program} {g : GM} {h : List AB} {w : World} {r : AV} {h' : List AB} {M : Nat → Prop}

/-- The parts of a literal, real and abstract. -/
def Fit (M : Nat → Prop) (w : World) (g : GM) (place : Nat → Option (Nat × Nat)) (N : Nat) : List (Nat × Value) → List (Nat × Nat × AV) → Prop
  | [], [] => True
  | (i, u) :: ps, (off, sz, v) :: as => place i = some (off, sz) ∧ rep M w v g u ∧ elemOK sz v ∧ off + sz ≤ N ∧ Fit M w g place N ps as
  | _, _ => False
theorem fill_ok (place : Nat → Option (Nat × Nat)) (N : Nat) : ∀ (ps : List (Nat × Value)) (as : List (Nat × Nat × AV)) (cells : Array Value) (c : Nat → AV), cells.size = N → (∀ i, i < N → ∃ u, cells[i]? = some u ∧ u.oneCell' = true ∧ rep M w (c i) g u) → Fit M w g place N ps as →
    ∃ cs, Instr.fill place cells ps = some cs ∧ cs.size = N ∧ ∀ i, i < N → ∃ u, cs[i]? = some u ∧ u.oneCell' = true ∧ rep M w (buildC c as i) g u
  | [], [], cells, c, hs, hc, _ => ⟨cells, rfl, hs, hc⟩
  | [], _ :: _, _, _, _, _, hf => hf.elim
  | _ :: _, [], _, _, _, _, hf => hf.elim
  | (i, u) :: ps, (off, sz, v) :: as, cells, c, hs, hc, hf => by
    obtain ⟨hp, hr, he, hn, hf⟩ := hf
    obtain ⟨e1, e2⟩ := cells_of_elem he hr
    have hz : u.cells.zipIdx.foldl (fun cs (x : Value × Nat) => cs.setIfInBounds (off + x.2) x.1) cells = (u.cells.toList.zipIdx 0).foldl (fun cs (x : Value × Nat) => cs.setIfInBounds (off + x.2) x.1) cells := by
      rw [← Array.foldl_toList, Array.toList_zipIdx]
    obtain ⟨f1, f2⟩ := foldl_zipIdx off u.cells.toList 0 cells (by simp; omega)
    rw [← hz] at f1
    simp only [← hz] at f2
    obtain ⟨cs, g1, g2, g3⟩ := fill_ok place N ps as _ (stM c off (elemC v) sz) (f1.trans hs) (fun j hj => by
      rw [f2 j, stM_get]
      by_cases hin : off ≤ j ∧ j < off + sz
      · rw [if_pos (by simp; omega), if_pos hin]
        obtain ⟨x, a, b, d⟩ := e2 (j - off) (by omega)
        exact ⟨x, by simpa using a, b, d⟩
      · rw [if_neg (by simp; omega), if_neg hin]
        exact hc j hj) hf
    refine ⟨cs, ?_, g2, g3⟩
    have c1 : (u.cells.size ≠ sz || decide (off + u.cells.size > cells.size)) = false := by simp; omega
    simp only [Instr.fill, hp, c1, Bool.false_eq_true, if_false]
    exact g1

theorem zcells_some {i : TypeInfo} {zs : List Value} (h : zcells i = some zs) : ∃ z, i.zero = some z ∧ z.cells.size = i.size ∧ zs = z.cells.toList ∧ ∀ u ∈ zs, u.oneCell' = true := by
  unfold zcells at h
  split at h
  · rename_i z hz
    split at h
    · rename_i hc
      injection h with h
      subst h
      simp only [Bool.and_eq_true, decide_eq_true_eq, List.all_eq_true] at hc
      exact ⟨z, hz, hc.1, rfl, hc.2⟩
    · cases h
  · cases h
theorem zs_rep {zs : List Value} (h : ∀ u ∈ zs, u.oneCell' = true) (i : Nat) (hi : i < zs.length) : ∃ u, zs[i]? = some u ∧ u.oneCell' = true ∧ rep M w (ofL (zs.map ofV1) i) g u :=
  ⟨zs[i], List.getElem?_eq_getElem hi, h _ (List.getElem_mem hi), by
    rw [ofL_get (v := ofV1 zs[i]) (by simp [hi])]
    exact rep_ofV1 M w g _⟩

theorem buildC_bsl {sz : Nat} : ∀ (es : List (Nat × AV)) (c0 : Nat → AV) (c : Nat → Nat → AV), (∀ k o, o < sz → c0 (k * sz + o) = c k o) → ∀ k o, o < sz → buildC c0 (es.map fun p => (p.1 * sz, sz, p.2)) (k * sz + o) = bslC c es k o
  | [], c0, c, h, k, o, ho => h k o ho
  | (i, v) :: es, c0, c, h, k, o, ho => by
    simp only [List.map_cons, buildC, bslC]
    refine buildC_bsl es _ _ (fun k o ho => ?_) k o ho
    rw [stM_get]
    simp only [updRm]
    by_cases e : k = i
    · subst e
      rw [if_pos (by omega), if_pos rfl, Nat.add_sub_cancel_left]
    · rw [if_neg ?_, if_neg e]
      · exact h k o ho
      · intro hin
        have h1 : ¬ (k < i) := fun hlt => by
          have : (k + 1) * sz ≤ i * sz := Nat.mul_le_mul_right _ hlt
          rw [Nat.add_mul, Nat.one_mul] at this
          omega
        have h2 : ¬ (i < k) := fun hlt => by
          have : (i + 1) * sz ≤ k * sz := Nat.mul_le_mul_right _ hlt
          rw [Nat.add_mul, Nat.one_mul] at this
          omega
        omega

theorem made_get (z : Array Value) (N sz k o : Nat) (hz : z.size = sz) (ho : o < sz) (hk : k * sz + o < N) : ((Array.range N).map (fun j => z[j % z.size]!))[k * sz + o]? = z[o]? := by
  have hm : (k * sz + o) % z.size = o := by rw [hz, Nat.mul_comm, Nat.mul_add_mod, Nat.mod_eq_of_lt ho]
  have ho' : o < z.size := by omega
  simp only [Array.getElem?_map, Array.getElem?_range, hk, if_true, Option.map_some, hm, Array.getElem?_eq_getElem ho', getElem!_pos z o ho']

theorem pure_ofV1 (v : Value) : (ofV1 v).pure := by
  unfold ofV1
  split <;> trivial
theorem pure_ofL {l : List AV} (h : ∀ v ∈ l, v.pure) (i : Nat) : (ofL l i).pure := by
  unfold ofL List.getD
  cases hi : l[i]? with
  | none => trivial
  | some v => exact h v (List.mem_of_getElem? hi)
theorem pure_bsl {n : Nat} : ∀ (es : List (Nat × AV)) (c : Nat → Nat → AV), (∀ k o, o < n → (c k o).pure) → (∀ p ∈ es, elemOK n p.2 ∧ p.2.pure) → ∀ k o, o < n → (bslC c es k o).pure
  | [], c, hc, _, k, o, ho => hc k o ho
  | (i, v) :: es, c, hc, he, k, o, ho => by
    simp only [bslC]
    obtain ⟨h1, h2⟩ := he (i, v) List.mem_cons_self
    refine pure_bsl es _ (fun k o ho => ?_) (fun p hp => he p (List.mem_cons_of_mem _ hp)) k o ho
    simp only [updRm]
    split
    · exact pure_elem h2 n h1 o ho
    · exact hc k o ho
theorem Fit.of (place : Nat → Option (Nat × Nat)) (N : Nat) : ∀ (ps : List (Nat × Value)) (as : List (Nat × Nat × AV)), ps.length = as.length → (∀ (j : Nat) (p : Nat × Value) (a : Nat × Nat × AV), ps[j]? = some p → as[j]? = some a → place p.1 = some (a.1, a.2.1) ∧ rep M w a.2.2 g p.2 ∧ elemOK a.2.1 a.2.2 ∧ a.1 + a.2.1 ≤ N) → Fit M w g place N ps as
  | [], [], _, _ => trivial
  | [], _ :: _, hl, _ => by simp at hl
  | _ :: _, [], hl, _ => by simp at hl
  | p :: ps, a :: as, hl, h => by
    obtain ⟨h1, h2, h3, h4⟩ := h 0 p a rfl rfl
    exact ⟨h1, h2, h3, h4, Fit.of place N ps as (by simpa using hl) (fun j q b hq hb => h (j + 1) q b hq hb)⟩

theorem val_bsl {t e : TypeId} {i : TypeInfo} {zs : List Value} {n : Nat} {ps : List (Nat × Value)} {es : List (Nat × AV)} (hok : HOK F g w h) (ht : tyEl P t = some (e, i)) (hz : zcells i = some zs) (hsz : 0 < i.size ∧ n * i.size ≤ 1000)
    (hl : ps.length = es.length) (hp : ∀ (j : Nat) (p : Nat × Value) (a : Nat × AV), ps[j]? = some p → es[j]? = some a → p.1 = a.1 ∧ rep (MM F g h) w a.2 g p.2) (he : ∀ p ∈ es, elemOK i.size p.2 ∧ p.2.pure) (hn : ∀ p ∈ es, p.1 < n) :
    ∃ u' w' , (Instr.buildSlice t n ps.toArray).run P w = .ok u' w' ∧ rep (MM F g h) w' (.sl false true n i.size (bslC (fun _ => ofL (zs.map ofV1)) es)) g u' ∧ Tr F g h w g h w' := by
  obtain ⟨hu, hi⟩ := tyEl_some ht
  obtain ⟨z, hz0, hz1, rfl, hone⟩ := zcells_some hz
  have hsize : ∀ w : World, (sizeOf e).run P w = .ok i.size w := fun w => tySz_run (by simp [tySz, hi]) w
  have hzv : ∀ w : World, (zeroValue e).run P w = .ok z w := fun w => by simp [zeroValue, typeInfo, hi, hz0]
  have hbig : ¬ (n * i.size > 2 ^ 24) := by omega
  have hfit : Fit (MM F g h) w g (fun j => some (j * i.size, i.size)) (n * i.size) ps (es.map fun p => (p.1 * i.size, i.size, p.2)) := by
    refine Fit.of _ _ _ _ (by simpa using hl) (fun j p a hj ha => ?_)
    rw [List.getElem?_map] at ha
    cases hb : es[j]? with
    | none => rw [hb] at ha; cases ha
    | some b =>
      rw [hb] at ha
      injection ha with ha
      subst ha
      obtain ⟨h1, h2⟩ := hp j p b hj hb
      have hm := List.mem_of_getElem? hb
      have hlt := hn b hm
      have : (b.1 + 1) * i.size ≤ n * i.size := Nat.mul_le_mul_right _ hlt
      rw [Nat.add_mul, Nat.one_mul] at this
      exact ⟨by rw [h1], h2, (he b hm).1, this⟩
  have hbase : ∀ j, j < n * i.size → ∃ u, ((Array.range (n * i.size)).map (fun x => z.cells[x % z.cells.size]!))[j]? = some u ∧ u.oneCell' = true ∧ rep (MM F g h) w (ofL (z.cells.toList.map ofV1) (j % i.size)) g u := by
    intro j hj
    obtain ⟨u, h1, h2, h3⟩ := zs_rep (M := MM F g h) (w := w) (g := g) hone (j % i.size) (by rw [Array.length_toList, hz1]; exact Nat.mod_lt _ hsz.1)
    refine ⟨u, ?_, h2, h3⟩
    have := made_get z.cells (n * i.size) i.size (j / i.size) (j % i.size) hz1 (Nat.mod_lt _ hsz.1) (by rw [Nat.mul_comm, Nat.div_add_mod]; exact hj)
    rw [show j / i.size * i.size + j % i.size = j by rw [Nat.mul_comm]; exact Nat.div_add_mod _ _] at this
    rw [this]
    simpa using h1
  obtain ⟨cs, f1, f2, f3⟩ := fill_ok (M := MM F g h) (w := w) (g := g) _ (n * i.size) ps _ _ _ (by simp) hbase hfit
  have hrun : (Instr.buildSlice t n ps.toArray).run P w = .ok (.slice (some ⟨w.heap.size, 0, none⟩) n n) (w.alloc (.cells cs e)) := by
    by_cases h0 : n * i.size = 0
    · have hps : ps = [] := by
        cases es with
        | nil => exact List.eq_nil_of_length_eq_zero hl
        | cons a es =>
          have := hn a List.mem_cons_self
          have : 0 < n * i.size := Nat.mul_pos (by omega) hsz.1
          omega
      subst hps
      simp only [Instr.fill, Option.some.injEq] at f1
      have hcs : cs = #[] := Array.eq_empty_of_size_eq_zero (by omega)
      simp [Instr.buildSlice, run_underlying hu, hsize, h0, Instr.fill, newRow, hcs, Array.range_zero']
    · simp only [Instr.buildSlice, Sem.run_bind, run_underlying hu, Result.andThen_ok, hsize, Sem.run_ite, hbig, h0, if_false, hzv, Sem.run_pure, f1, newRow, run_newObj, World.alloc_eq]
  refine ⟨_, _, hrun, ⟨_, n, rfl, by simp, by simp, fun _ => rfl, Nat.le_refl _, fun k hk o ho => ?_⟩, Tr.keep hok (Chg.alloc' _ _)⟩
  have hks : (k + 1) * i.size ≤ n * i.size := Nat.mul_le_mul_right _ (by omega)
  rw [Nat.add_mul, Nat.one_mul] at hks
  obtain ⟨u, h1, h2, h3⟩ := f3 (k * i.size + o) (by omega)
  refine ⟨w.heap.size, 0, u, rfl, by simp, fun hm => by have := hok.mlt hm; omega, ?_, h2, ?_⟩
  · rw [Nat.zero_add]
    exact cell_of_heap (heap_alloc_new w _) h1
  · rw [buildC_bsl es _ (fun _ => ofL (z.cells.toList.map ofV1)) (fun k o ho => by rw [Nat.mul_comm, Nat.mul_add_mod, Nat.mod_eq_of_lt ho]) k o ho] at h3
    refine rep_pure _ ?_ (rep_mono (Chg.alloc _ w _) (fun _ _ h => h) _ (GM.le_refl _) h3)
    exact pure_bsl es _ (fun _ o _ => pure_ofL (fun v hv => by obtain ⟨u, _, rfl⟩ := List.mem_map.1 hv; exact pure_ofV1 u) o) he k o ho

theorem partsOf_cons {t : TypeId} {i : Nat} {x : Operand} {ps : List (Nat × Operand)} {l : List (Nat × Nat × AX)} (h : partsOf P t ((i, x) :: ps) = some l) : ∃ f s l', tyFld P t i = some f ∧ tySz P f.type = some s ∧ partsOf P t ps = some l' ∧ l = (f.offset, s, cx x) :: l' := by
  simp only [partsOf] at h
  split at h
  · rename_i f l' hf hl
    split at h
    · rename_i s hs
      injection h with h
      exact ⟨f, s, l', hf, hs, hl, h.symm⟩
    · cases h
  · cases h
theorem run_places {fs : Array Field} (h : ∀ f ∈ fs.toList, (tySz P f.type).isSome) (w : World) : (fs.mapM fun f => do pure (f.offset, ← sizeOf f.type) : Sem (Array (Nat × Nat))).run P w = .ok (fs.map fun f => (f.offset, (tySz P f.type).getD 0)) w := by
  have key : ∀ l : List Field, (∀ f ∈ l, (tySz P f.type).isSome) → (l.mapM fun f => do pure (f.offset, ← sizeOf f.type) : Sem (List (Nat × Nat))).run P w = .ok (l.map fun f => (f.offset, (tySz P f.type).getD 0)) w := by
    intro l
    induction l with
    | nil => intro _; simp
    | cons f l ih =>
      intro h
      have h1 := ih (fun x hx => h x (List.mem_cons_of_mem _ hx))
      obtain ⟨s, hs⟩ := Option.isSome_iff_exists.1 (h f List.mem_cons_self)
      simp only [List.mapM_cons, Sem.run_bind, tySz_run hs, Result.andThen_ok, Sem.run_pure, h1, List.map_cons, hs, Option.getD_some]
  rw [Array.mapM_eq_mapM_toList]
  have hk := key fs.toList h
  rw [Sem.run_map, hk, Result.andThen_ok]
  have : (fs.toList.map fun f => (f.offset, (tySz P f.type).getD 0)).toArray = fs.map fun f => (f.offset, (tySz P f.type).getD 0) := by
    apply Array.ext'
    simp
  rw [this]
theorem val_build {t : TypeId} {i : TypeInfo} {zs : List Value} {fs : Array Field} {ps : List (Nat × Value)} {as : List (Nat × Nat × AV)} (hi : P.info? t = some i) (hu : P.underlying t = some (.struct fs)) (hz : zcells i = some zs) (hsz : ∀ f ∈ fs.toList, (tySz P f.type).isSome)
    (hl : ps.length = as.length) (hp : ∀ (j : Nat) (p : Nat × Value) (a : Nat × Nat × AV), ps[j]? = some p → as[j]? = some a → (∃ f, fs[p.1]? = some f ∧ f.offset = a.1 ∧ tySz P f.type = some a.2.1) ∧ rep (MM F g h) w a.2.2 g p.2) (he : ∀ p ∈ as, elemOK p.2.1 p.2.2) (hn : ∀ p ∈ as, p.1 + p.2.1 ≤ zs.length) :
    ∃ u', (Instr.build t ps.toArray).run P w = .ok u' w ∧ rep (MM F g h) w (.agg zs.length (tab zs.length (buildC (ofL (zs.map ofV1)) as))) g u' := by
  obtain ⟨z, hz0, hz1, rfl, hone⟩ := zcells_some hz
  have hzv : ∀ w : World, (zeroValue t).run P w = .ok z w := fun w => by simp [zeroValue, typeInfo, hi, hz0]
  have hfit : Fit (MM F g h) w g ((fs.map fun f => (f.offset, (tySz P f.type).getD 0))[·]?) z.cells.toList.length ps as := by
    refine Fit.of _ _ _ _ hl (fun j p a hj ha => ?_)
    obtain ⟨⟨f, h1, h2, h3⟩, h4⟩ := hp j p a hj ha
    have hm := List.mem_of_getElem? ha
    exact ⟨by simp [h1, h2, h3], h4, he a hm, hn a hm⟩
  obtain ⟨cs, f1, f2, f3⟩ := fill_ok (M := MM F g h) (w := w) (g := g) _ z.cells.toList.length ps as z.cells (ofL (z.cells.toList.map ofV1)) (by simp) (fun j hj => by
    obtain ⟨u, a, b, c⟩ := zs_rep (M := MM F g h) (w := w) (g := g) hone j hj
    exact ⟨u, by simpa using a, b, c⟩) hfit
  refine ⟨.agg cs, ?_, ⟨cs, rfl, f2, fun i hi => by rw [tab_get hi]; exact f3 i hi⟩⟩
  simp only [Instr.build, Sem.run_bind, hzv, Result.andThen_ok, run_underlying hu, run_places hsz, f1, Sem.run_pure]

theorem val_msl {t e : TypeId} {i : TypeInfo} {zs : List Value} {n n' : Int} (hok : HOK F g w h) (ht : tyEl P t = some (e, i)) (hz : zcells i = some zs) (h0 : 0 ≤ n) (h1 : n ≤ n') (h2 : n' ≤ 9223372036854775807) (h3 : n' * i.bytes ≤ 140737488355328) :
    ∃ u' w' g', (Instr.makeSlice t (.int .i64 n) (.int .i64 n')).run P w = .ok u' w' ∧ rep (MM F g' (h ++ [.row n.toNat i.size fun _ => ofL (zs.map ofV1)])) w' (.own h.length n.toNat) g' u' ∧ Tr F g h w g' (h ++ [.row n.toNat i.size fun _ => ofL (zs.map ofV1)]) w' := by
  obtain ⟨hu, hi⟩ := tyEl_some ht
  obtain ⟨z, hz0, hz1, rfl, hone⟩ := zcells_some hz
  have hrun := run_make (P := P) w t e i z hu hi hz0 .i64 .i64 n n' h0 h1 (by rw [Int.mul_comm]; omega) h2
  refine ⟨_, _, _, hrun, ⟨w.heap.size, n'.toNat, by simp [GM.push], rfl, by omega⟩, Tr.newBlock hok (Chg.alloc' _ _) (heap_alloc_new _ _) n'.toNat (.row n.toNat i.size fun _ => ofL (z.cells.toList.map ofV1)) ⟨by omega, by simp [maxLen]; omega, by simp [madeCells], fun k hk o ho => ?_⟩⟩
  have hks : (k + 1) * i.size ≤ n'.toNat * i.size := Nat.mul_le_mul_right _ (by omega)
  rw [Nat.add_mul, Nat.one_mul] at hks
  obtain ⟨u, a, b, c⟩ := zs_rep (M := MM F g h) (w := w) (g := g) hone o (by rw [Array.length_toList, hz1]; exact ho)
  refine ⟨u, ?_, b, rep_pure _ (pure_ofL (fun v hv => by obtain ⟨u, _, rfl⟩ := List.mem_map.1 hv; exact pure_ofV1 u) o) c⟩
  unfold madeCells
  rw [made_get z.cells _ i.size k o hz1 ho (by omega)]
  simpa using a

theorem run_append_room' (t ty e : TypeId) (i : TypeInfo) (ht : P.underlying t = some (.slice e)) (hi : P.info? e = some i)
    (g sLen sCap : Nat) (cur : Array Value) (te : TypeId) (hg : w.heap[g]? = some (.cells cur te (0, 0)))
    (a : Addr) (m c : Nat) (news : List Value) (hl : news.length = m * i.size) (hnews : ∀ (j : Nat) u, news[j]? = some u → w.cell? (a.add j) = some u) (h1 : ∀ u ∈ news, u.oneCell' = true)
    (hroom : sLen + m ≤ sCap) (hfit : sLen * i.size + news.length ≤ cur.size) :
    (Builtin.append_ #[t, t] ty #[.slice (some ⟨g, 0, none⟩) sLen sCap, .slice (some a) m c]).run P w =
      .ok (.slice (some ⟨g, 0, none⟩) (sLen + m) sCap) (w.setRow g (cur.toList.take (sLen * i.size) ++ news ++ cur.toList.drop (sLen * i.size + news.length)).toArray) := by
  have hf := run_firstCells_some (P := P) w i.size m a m c news hl hnews
  have hst := run_storeCells_at P g (sLen * i.size) te news 0 cur w hg (by simpa using hfit) h1
  simp only [Nat.add_zero] at hst
  simp [Builtin.append_, run_underlying ht, sizeOf, typeInfo, hi, Builtin.lenOf, hroom, hf, Addr.add_lit, hst]

/-- The cells of an immutable slice. -/
theorem sl_cells {z ee : Bool} {n sz sz' : Nat} {c : Nat → Nat → AV} {A : Option Addr} {cap : Nat} (hs : sz' = sz ∨ n = 0) (hsz : 0 < sz) (hr : rep M w (.sl z ee n sz' c) g (.slice A n cap)) :
    ∃ cs : List Value, cs.length = n * sz ∧ (∀ ad, A = some ad → ∀ (j : Nat) (u : Value), cs[j]? = some u → w.cell? (ad.add j) = some u) ∧ (∀ u ∈ cs, u.oneCell' = true) ∧ ∀ k, k < n → ∀ o, o < sz → ∃ u, cs[k * sz + o]? = some u ∧ u.oneCell' = true ∧ rep M w (c k o) g0 u := by
  obtain ⟨A', cap', he, _, hnil, _, _, hc⟩ := hr
  injection he with e1 e2 e3
  subst e1; subst e3
  by_cases h0 : n = 0
  · subst h0
    exact ⟨[], by simp, by simp, by simp, fun k hk => by omega⟩
  · obtain rfl : sz' = sz := hs.resolve_right h0
    have key : ∀ j, j < n * sz' → ∃ u, (∀ ad, A = some ad → w.cell? (ad.add j) = some u) ∧ u.oneCell' = true ∧ rep M w (c (j / sz') (j % sz')) g0 u := fun j hj => by
      obtain ⟨b, off, u, hA, _, _, h1, h2, h3⟩ := hc (j / sz') (Nat.div_lt_of_lt_mul (by rw [Nat.mul_comm]; exact hj)) (j % sz') (Nat.mod_lt _ hsz)
      refine ⟨u, fun ad had => ?_, h2, h3⟩
      rw [hA] at had
      injection had with had
      subst had
      rw [Addr.add_lit]
      rw [Nat.add_assoc, Nat.mul_comm, Nat.div_add_mod] at h1
      exact h1
    obtain ⟨f, hf⟩ := choose_fun key
    have hget : ∀ j, j < n * sz' → ((List.range (n * sz')).map f)[j]? = some (f j) := fun j hj => by simp [hj]
    refine ⟨(List.range (n * sz')).map f, by simp, fun ad had j u hu => ?_, fun u hu => ?_, fun k hk o ho => ?_⟩
    · have hj : j < n * sz' := by
        rcases Nat.lt_or_ge j (n * sz') with h' | h'
        · exact h'
        · rw [List.getElem?_eq_none (by simpa using h')] at hu; cases hu
      rw [hget j hj] at hu
      injection hu with hu
      subst hu
      exact (hf j hj).1 ad had
    · obtain ⟨j, hj, rfl⟩ := List.mem_map.1 hu
      exact (hf j (by simpa using hj)).2.1
    · have hks : (k + 1) * sz' ≤ n * sz' := Nat.mul_le_mul_right _ (by omega)
      rw [Nat.add_mul, Nat.one_mul] at hks
      obtain ⟨a, b, d⟩ := hf (k * sz' + o) (by omega)
      refine ⟨_, hget _ (by omega), b, ?_⟩
      rw [Nat.mul_comm, Nat.mul_add_mod, Nat.mod_eq_of_lt ho, Nat.mul_add_div hsz, Nat.div_eq_of_lt ho, Nat.add_zero] at d
      rw [Nat.mul_comm k]
      exact d

theorem src_cells {sz : Nat} {y : AV} {m : Nat} {c' : Nat → Nat → AV} {u : Value} (hok : HOK F g w h) (hsz : 0 < sz) (hS : Src sz h y m c') (hr : rep (MM F g h) w y g u) :
    ∃ B cap2, u = .slice B m cap2 ∧ (B = none → m = 0) ∧ ∃ cs : List Value, cs.length = m * sz ∧ (∀ ad, B = some ad → ∀ (j : Nat) (u : Value), cs[j]? = some u → w.cell? (ad.add j) = some u) ∧ (∀ u ∈ cs, u.oneCell' = true) ∧ ∀ k, k < m → ∀ o, o < sz → ∃ u, cs[k * sz + o]? = some u ∧ u.oneCell' = true ∧ rep (MM F g h) w (c' k o) g0 u := by
  rcases hS with ⟨z, e, sz', rfl, hs⟩ | ⟨d, N, rfl, hd, hm⟩
  · have hr0 := hr
    obtain ⟨B, cap2, rfl, _, hBnil, _, _, _⟩ := hr0
    exact ⟨B, cap2, rfl, fun h => (hBnil h).1, sl_cells hs hsz hr⟩
  · obtain ⟨b, cap, hg, rfl, hcap⟩ := hr
    obtain ⟨hn, hcm, cs, t', hh, hsize, hc⟩ := hok.row d N _ c' b cap hd hg
    have hle : m * sz ≤ cs.size := by rw [hsize]; exact Nat.mul_le_mul_right _ (by omega)
    have hl : (cs.toList.take (m * sz)).length = m * sz := by simp; omega
    have hget : ∀ k, k < m → ∀ o, o < sz → ∃ u, (cs.toList.take (m * sz))[k * sz + o]? = some u ∧ u.oneCell' = true ∧ rep (MM F g h) w (c' k o) g0 u := fun k hk o ho => by
      have hks : (k + 1) * sz ≤ m * sz := Nat.mul_le_mul_right _ hk
      rw [Nat.add_mul, Nat.one_mul] at hks
      obtain ⟨x, a, b, d⟩ := hc k (by omega) o ho
      exact ⟨x, by rw [List.getElem?_take, if_pos (by omega)]; simpa using a, b, d⟩
    refine ⟨_, cap, rfl, fun h => (by cases h), cs.toList.take (m * sz), hl, fun ad had j v hv => ?_, fun v hv => ?_, hget⟩
    · injection had with had
      subst had
      rw [Addr.add_lit, Nat.zero_add]
      refine cell_of_heap hh ?_
      rw [List.getElem?_take] at hv
      split at hv
      · simpa using hv
      · cases hv
    · obtain ⟨j, hj, rfl⟩ := List.getElem_of_mem hv
      rw [hl] at hj
      have h1 : j / sz < m := Nat.div_lt_of_lt_mul (by rw [Nat.mul_comm]; exact hj)
      obtain ⟨x, a, b, _⟩ := hget (j / sz) h1 (j % sz) (Nat.mod_lt _ hsz)
      rw [show j / sz * sz + j % sz = j by rw [Nat.mul_comm]; exact Nat.div_add_mod _ _] at a
      rw [List.getElem?_eq_getElem (by omega)] at a
      injection a with a
      rw [a]; exact b
theorem val_app_core {t ty e : TypeId} {i : TypeInfo} {zs : List Value} {v : AV} {u u2 : Value} {y : AV} {m : Nat} {c' : Nat → Nat → AV} (hok : HOK F g w h) (ht : tyEl P t = some (e, i)) (hz : zcells i = some zs) (hr : rep (MM F g h) w v g u) (hy : rep (MM F g h) w y g u2) (hsz : 0 < i.size) (hS : Src i.size h y m c') :
    (∀ zz ee n sz2 c, v = .sl zz ee n sz2 c → ee = true ∧ (sz2 = i.size ∨ n = 0) ∧ (m = 0 → (.sl zz ee n sz2 c = r ∧ h = h')) ∧ (0 < m → n + m ≤ maxLen ∧ (n + m) * i.bytes ≤ 140737488355328 ∧ (.own h.length (n + m) = r ∧ h ++ [.row (n + m) i.size (appc n c c')] = h')) →
      ∃ u' w' g', (Builtin.append_ #[t, t] ty #[u, u2]).run P w = .ok u' w' ∧ rep (MM F g' h') w' r g' u' ∧ Tr F g h w g' h' w') ∧
    (∀ d n N c, v = .own d n → h[d]? = some (.row N i.size c) → n ≤ N → n + m ≤ maxLen → (n + m) * i.bytes ≤ 140737488355328 →
      (∃ u' w' b cap, (Builtin.append_ #[t, t] ty #[u, u2]).run P w = .ok u' w' ∧ g d = some (b, cap) ∧ u' = .slice (some ⟨b, 0, none⟩) (n + m) cap ∧ n + m ≤ cap ∧ Tr F g h w g (h.set d (.row (n + m) i.size (appc n c c'))) w') ∨
      (∃ u' w' b cap, (Builtin.append_ #[t, t] ty #[u, u2]).run P w = .ok u' w' ∧ u' = .slice (some ⟨b, 0, none⟩) (n + m) cap ∧ n + m ≤ cap ∧
        Tr F g h w (g.push h.length (b, cap)) (h ++ [.row (n + m) i.size (appc n c c')]) w' ∧ Tr F g h w (g.push h.length (b, cap)) (h.set d .dead ++ [.row (n + m) i.size (appc n c c')]) w')) := by
  obtain ⟨hu, hi⟩ := tyEl_some ht
  obtain ⟨z, hz0, hz1, rfl, hone⟩ := zcells_some hz
  obtain ⟨B, cap2, rfl, hBnil, news, n1, n2, n3, n4⟩ := src_cells hok hsz hS hy
  have hBsome : 0 < m → ∃ ad, B = some ad := fun hm => by
    cases B with
    | none => have := hBnil rfl; omega
    | some ad => exact ⟨ad, rfl⟩
  have grown : ∀ (n capx : Nat) (olds : List Value), olds.length = n * i.size → ∀ (c : Nat → Nat → AV), (∀ k, k < n → ∀ o, o < i.size → ∃ u, olds[k * i.size + o]? = some u ∧ u.oneCell' = true ∧ rep (MM F g h) w (c k o) g0 u) →
      ∀ N capN, N = n + m → N ≤ capN → ∀ k, k < N → ∀ o, o < i.size → ∃ u, (olds.toArray ++ news.toArray ++ Builtin.zeroCells z.cells (capN - N))[k * i.size + o]? = some u ∧ u.oneCell' = true ∧ rep (MM F g h) w (appc n c c' k o) g0 u := by
    intro n capx olds hol c hold N capN hN hcap k hk o ho
    have hks : (k + 1) * i.size ≤ N * i.size := Nat.mul_le_mul_right _ hk
    rw [Nat.add_mul, Nat.one_mul, hN, Nat.add_mul] at hks
    have hlen : (olds.toArray ++ news.toArray).size = n * i.size + m * i.size := by simp [hol, n1]
    rw [Array.getElem?_append_left (by omega)]
    simp only [appc]
    by_cases hkn : k < n
    · rw [if_pos hkn]
      have hks2 : (k + 1) * i.size ≤ n * i.size := Nat.mul_le_mul_right _ hkn
      rw [Nat.add_mul, Nat.one_mul] at hks2
      obtain ⟨x, a, b, d⟩ := hold k hkn o ho
      refine ⟨x, ?_, b, d⟩
      rw [Array.getElem?_append_left (by simp [hol]; omega)]
      simpa using a
    · rw [if_neg hkn]
      obtain ⟨x, a, b, d⟩ := n4 (k - n) (by omega) o ho
      refine ⟨x, ?_, b, d⟩
      have hge : n * i.size ≤ k * i.size := Nat.mul_le_mul_right _ (by omega)
      rw [Array.getElem?_append_right (by simp [hol]; omega)]
      simp only [List.size_toArray, hol, List.getElem?_toArray]
      rw [show k * i.size + o - n * i.size = (k - n) * i.size + o by rw [Nat.sub_mul]; omega]
      exact a
  have newsize : ∀ (n N capN : Nat) (olds : List Value), olds.length = n * i.size → N = n + m → N ≤ capN → (olds.toArray ++ news.toArray ++ Builtin.zeroCells z.cells (capN - N)).size = capN * i.size := by
    intro n N capN olds hol hN hcap
    simp only [Array.size_append, List.size_toArray, hol, n1, size_zeroCells, hz1]
    rw [← Nat.add_mul, ← Nat.add_mul]
    congr 1
    omega
  have push : ∀ (gg : GM) (hh : List AB) (k : HOK F gg w hh) (_ : ∀ x, MM F gg hh x → MM F g h x) (_ : hh.length = h.length) (n : Nat) (olds : List Value), olds.length = n * i.size → ∀ (c : Nat → Nat → AV), (∀ k, k < n → ∀ o, o < i.size → ∃ u, olds[k * i.size + o]? = some u ∧ u.oneCell' = true ∧ rep (MM F g h) w (c k o) g0 u) →
      ∀ capN, n + m ≤ capN → capN ≤ maxLen → Tr F gg hh w (gg.push h.length (w.heap.size, capN)) (hh ++ [.row (n + m) i.size (appc n c c')]) (w.drew.alloc (.cells (olds.toArray ++ news.toArray ++ Builtin.zeroCells z.cells (capN - (n + m))) e)) := by
    intro gg hh k hsub hlen n olds hol c hold capN hc1 hc2
    have := Tr.newBlock k (w' := w.drew.alloc (.cells (olds.toArray ++ news.toArray ++ Builtin.zeroCells z.cells (capN - (n + m))) e)) ((Chg.drew _ w).trans (Chg.alloc _ _ _) (fun _ _ h => h)) (heap_alloc_new w.drew _) capN (.row (n + m) i.size (appc n c c')) ⟨hc1, hc2, newsize n _ _ _ hol rfl hc1, fun kk hk o ho => by
      obtain ⟨x, a, b, d⟩ := grown n 0 olds hol c hold (n + m) capN rfl hc1 kk hk o ho
      exact ⟨x, a, b, rep_mono (Chg.refl _ _) (fun x _ hx => hsub x hx) _ (GM.le_refl _) d⟩⟩
    rw [hlen] at this
    exact this
  refine ⟨?_, ?_⟩
  · rintro zz ee n sz2 c rfl ⟨rfl, hs2, H0, H1⟩
    have hr0 := hr
    obtain ⟨A, cap, rfl, hzA, hAnil, hcapn, _, _⟩ := hr0
    obtain rfl := hcapn rfl
    obtain ⟨olds, o1, o2, o3, o4⟩ := sl_cells hs2 hsz hr
    by_cases hm : m = 0
    · obtain ⟨rfl, rfl⟩ := H0 hm
      subst hm
      have hnews : news = [] := List.eq_nil_of_length_eq_zero (by simpa using n1)
      refine ⟨.slice A cap cap, w, g, ?_, hr, Tr.refl hok⟩
      cases A <;> cases B <;> simp [Builtin.append_, run_underlying hu, sizeOf, typeInfo, hi, Builtin.lenOf, Builtin.firstCells, storeCells, loadCells, loadCellsFrom]
    · obtain ⟨b1, b2, rfl, rfl⟩ := H1 (by omega)
      obtain ⟨ad, rfl⟩ := hBsome (by omega)
      cases A with
      | none =>
        obtain ⟨rfl, _⟩ := hAnil rfl
        rw [Nat.zero_add] at b2
        have hrun := run_append_nil (P := P) (w := w) t ty e i z hu hi hz0 ad m cap2 news n1 (n2 ad rfl) (by omega) (by simp only [maxLen] at b1; omega) (by omega)
        have hT := push g h hok (fun _ h => h) rfl 0 olds o1 c o4 (grownCap w m 0 e) (by rw [Nat.zero_add]; exact grownCap_ge w m 0 e) (grownCap_le_maxLen w m 0 e (by omega))
        have holds : olds = [] := List.eq_nil_of_length_eq_zero (by simpa using o1)
        rw [holds, Nat.zero_add] at hT
        simp only [Array.empty_append] at hT
        refine ⟨_, _, _, hrun, ?_, by rw [Nat.zero_add]; exact hT⟩
        exact ⟨w.heap.size, grownCap w m 0 e, by simp [GM.push], by rw [Nat.zero_add], by rw [Nat.zero_add]; exact grownCap_ge w m 0 e⟩
      | some ad0 =>
        have hrun := run_append_grow (P := P) (w := w) t ty e i z hu hi hz0 ad0 cap cap olds o1 (o2 ad0 rfl) ad m cap2 news n1 (n2 ad rfl) (by omega) (by simp only [maxLen] at b1; omega) (growslice_fits (by omega) b2)
        have hT := push g h hok (fun _ h => h) rfl cap olds o1 c o4 (grownCap w (cap + m) cap e) (grownCap_ge w _ _ e) (grownCap_le_maxLen w _ _ e b1)
        exact ⟨_, _, _, hrun, ⟨w.heap.size, _, by simp [GM.push], rfl, grownCap_ge w _ _ e⟩, hT⟩
  · rintro d n' N c rfl hd hnN b1 b2
    obtain ⟨b, cap, hg, rfl, hncap⟩ := hr
    obtain ⟨_, hcm, cs, t', hh, hm, hc0⟩ := hok.row d N _ c b cap hd hg
    have hn : n' ≤ cap := hncap
    have hc : ∀ k, k < n' → ∀ o, o < i.size → ∃ u, cs[k * i.size + o]? = some u ∧ u.oneCell' = true ∧ rep (MM F g h) w (c k o) g0 u := fun k hk => hc0 k (by omega)
    have hlive : live h d := ⟨_, hd, trivial⟩
    have holen : n' * i.size ≤ cs.size := by rw [hm]; exact Nat.mul_le_mul_right _ hn
    have ho1 : (cs.toList.take (n' * i.size)).length = n' * i.size := by simp; omega
    have hold : ∀ k, k < n' → ∀ o, o < i.size → ∃ u, (cs.toList.take (n' * i.size))[k * i.size + o]? = some u ∧ u.oneCell' = true ∧ rep (MM F g h) w (c k o) g0 u := fun k hk o ho => by
      have hks : (k + 1) * i.size ≤ n' * i.size := Nat.mul_le_mul_right _ hk
      rw [Nat.add_mul, Nat.one_mul] at hks
      obtain ⟨x, a, b, d⟩ := hc k hk o ho
      exact ⟨x, by rw [List.getElem?_take, if_pos (by omega)]; simpa using a, b, d⟩
    by_cases hroom : n' + m ≤ cap
    · have hfit : n' * i.size + news.length ≤ cs.size := by
        rw [n1, hm, ← Nat.add_mul]; exact Nat.mul_le_mul_right _ hroom
      have hfit' : n' * i.size + news.toArray.size ≤ cs.size := by simpa using hfit
      have hrun : (Builtin.append_ #[t, t] ty #[.slice (some ⟨b, 0, none⟩) n' cap, .slice B m cap2]).run P w = .ok (.slice (some ⟨b, 0, none⟩) (n' + m) cap) (w.setRow b (overs cs (n' * i.size) news.toArray)) := by
        by_cases hm0 : m = 0
        · subst hm0
          have hnews : news = [] := List.eq_nil_of_length_eq_zero (by simpa using n1)
          subst hnews
          have : overs cs (n' * i.size) #[] = cs := by simp [overs]
          have hself : w.setRow b cs = w := setRow_self w b cs _ _ hh
          rw [this, hself]
          cases B <;> simp [Builtin.append_, run_underlying hu, sizeOf, typeInfo, hi, Builtin.lenOf, Builtin.firstCells, storeCells, loadCells, loadCellsFrom, hn]
        · obtain ⟨ad, rfl⟩ := hBsome (by omega)
          have ht' : t' = e ∨ t' ≠ e := Decidable.em _
          have := run_append_room' (P := P) (w := w) t ty e i hu hi b n' cap cs t' hh ad m cap2 news n1 (n2 ad rfl) n3 hroom hfit
          simpa [overs] using this
      have hch : Chg (fun y => y = b) w (w.setRow b (overs cs (n' * i.size) news.toArray)) := Chg.setRow _ _ _
      have hchM : Chg (MM F g h) w (w.setRow b (overs cs (n' * i.size) news.toArray)) := hch.weak (fun x _ e => by subst e; exact .inr ⟨d, cap, hlive, hg⟩)
      have T1 := Tr.upd hok (x := .row (n' + m) i.size (appc n' c c')) hlive hg trivial hch ⟨hroom, hcm, _, t', setRow_heap _ _ _ _ _ _ hh, by rw [overs_size hfit']; exact hm, fun k hk o ho => by
        have hks : (k + 1) * i.size ≤ (n' + m) * i.size := Nat.mul_le_mul_right _ hk
        rw [Nat.add_mul, Nat.one_mul, Nat.add_mul] at hks
        simp only [appc]
        by_cases hkn : k < n'
        · rw [if_pos hkn]
          have hks2 : (k + 1) * i.size ≤ n' * i.size := Nat.mul_le_mul_right _ hkn
          rw [Nat.add_mul, Nat.one_mul] at hks2
          obtain ⟨x, a, b, d⟩ := hc k hkn o ho
          exact ⟨x, by rw [overs_out hfit' (.inl (by omega))]; exact a, b, rep_mono hchM (fun _ _ h => h) _ (GM.le_refl _) d⟩
        · rw [if_neg hkn]
          obtain ⟨x, a, b, d⟩ := n4 (k - n') (by omega) o ho
          have hge : n' * i.size ≤ k * i.size := Nat.mul_le_mul_right _ (by omega)
          refine ⟨x, ?_, b, rep_mono hchM (fun _ _ h => h) _ (GM.le_refl _) d⟩
          have := overs_in hfit' (i := (k - n') * i.size + o) (by rw [Nat.sub_mul]; simp [n1]; omega)
          rw [show n' * i.size + ((k - n') * i.size + o) = k * i.size + o by rw [Nat.sub_mul]; omega] at this
          rw [this]
          simpa using a⟩
      exact .inl ⟨_, _, b, cap, hrun, hg, rfl, hroom, T1⟩
    · have hm0 : 0 < m := by omega
      obtain ⟨ad, rfl⟩ := hBsome hm0
      have hcells : ∀ (j : Nat) (v : Value), (cs.toList.take (n' * i.size))[j]? = some v → w.cell? ((⟨b, 0, none⟩ : Addr).add j) = some v := fun j v hv => by
        rw [Addr.add_lit, Nat.zero_add]
        refine cell_of_heap hh ?_
        rw [List.getElem?_take] at hv
        split at hv
        · simpa using hv
        · cases hv
      have hrun := run_append_grow (P := P) (w := w) t ty e i z hu hi hz0 ⟨b, 0, none⟩ n' cap (cs.toList.take (n' * i.size)) ho1 hcells ad m cap2 news n1 (n2 ad rfl) (by omega) (by simp only [maxLen] at b1; omega) (growslice_fits (by omega) b2)
      have T1 := Tr.kill hok d
      have hT := push g (h.set d .dead) T1.ok (fun x hx => T1.old x (T1.ok.mlt hx) hx) (by simp) n' _ ho1 c hold (grownCap w (n' + m) cap e) (grownCap_ge w _ _ e) (grownCap_le_maxLen w _ _ e b1)
      have hT2 := push g h hok (fun _ h => h) rfl n' _ ho1 c hold (grownCap w (n' + m) cap e) (grownCap_ge w _ _ e) (grownCap_le_maxLen w _ _ e b1)
      exact .inr ⟨_, _, w.heap.size, _, hrun, rfl, grownCap_ge w _ _ e, hT2, T1.trans hT⟩

theorem val_app {t ty e : TypeId} {i : TypeInfo} {zs : List Value} {v y : AV} {u u2 : Value} (hok : HOK F g w h) (ht : tyEl P t = some (e, i)) (hz : zcells i = some zs) (hr : rep (MM F g h) w v g u) (hy : rep (MM F g h) w y g u2)
    (H : aop (.app i.size i.bytes (.k v) (.k y)) (fun x => x.ev (fun _ => .bot)) h (fun a b => a = r ∧ b = h')) :
    ∃ u' w' g', (Builtin.append_ #[t, t] ty #[u, u2]).run P w = .ok u' w' ∧ rep (MM F g' h') w' r g' u' ∧ Tr F g h w g' h' w' := by
  simp only [aop, AX.ev] at H
  obtain ⟨hsz, H⟩ := H
  obtain ⟨m, c', hS, H2⟩ := asrc_e H
  clear H
  have H := H2
  clear H2
  cases v <;> simp only at H
  case sl zz ee n sz2 c => exact (val_app_core (ty := ty) hok ht hz hr hy hsz hS).1 zz ee n sz2 c rfl H
  case own d n =>
    split at H
    · rename_i n' sz2 c hd
      obtain ⟨rfl, rfl, b1, b2, rfl, rfl⟩ := H
      have hlive : live h d := ⟨_, hd, trivial⟩
      rcases (val_app_core (ty := ty) (r := .bot) (h' := h) hok ht hz hr hy hsz hS).2 d n' n' c rfl hd (Nat.le_refl _) b1 b2 with ⟨u', w', b, cap, hrun, hg, rfl, hcap, T1⟩ | ⟨u', w', b, cap, hrun, rfl, hcap, _, T⟩
      · have hd1 : d < h.length := hok.lt hg
        have T2 := Tr.move T1.ok (d := d) (b := b) (cap := cap) (x := .row (n' + m) i.size (appc n' c c')) (live_set_eq hd1 trivial) hg (T1.ok.all (by rw [List.getElem?_set]; simp [hd1]) hg)
        have T := T1.trans T2
        have e1 : (h.set d (.row (n' + m) i.size (appc n' c c'))).length = h.length := by simp
        have e2 : (h.set d (.row (n' + m) i.size (appc n' c c'))).set d .dead = h.set d .dead := by simp
        rw [e1, e2] at T
        exact ⟨_, _, _, hrun, ⟨b, cap, by simp [GM.push], rfl, hcap⟩, T⟩
      · exact ⟨_, _, _, hrun, ⟨b, cap, by simp [GM.push], rfl, hcap⟩, T⟩
    · exact H.elim

/-- Append to a row that is used on: either in its place, or in a new one. -/
def asplit (o : AOp) (e : AX → AV) (h : List AB) (K : AV → List AB → Prop) : Prop :=
  match o with
  | .app sz bytes x y => 0 < sz ∧ asrc sz h (e y) (fun m c' => match e x with
    | .own d n => (match h[d]? with
      | some (.row N sz2 c) => sz2 = sz ∧ n ≤ N ∧ n + m ≤ maxLen ∧ (n + m) * bytes ≤ 140737488355328 ∧
        K (.own d (n + m)) (h.set d (.row (n + m) sz (appc n c c'))) ∧ K (.own h.length (n + m)) (h ++ [.row (n + m) sz (appc n c c')])
      | _ => False)
    | _ => False)
  | _ => False
theorem val_split {t ty e : TypeId} {i : TypeInfo} {zs : List Value} {v y : AV} {u u2 : Value} {K : AV → List AB → Prop} (hok : HOK F g w h) (ht : tyEl P t = some (e, i)) (hz : zcells i = some zs) (hr : rep (MM F g h) w v g u) (hy : rep (MM F g h) w y g u2)
    (H : asplit (.app i.size i.bytes (.k v) (.k y)) (fun x => x.ev (fun _ => .bot)) h K) :
    ∃ r h' u' w' g', K r h' ∧ (Builtin.append_ #[t, t] ty #[u, u2]).run P w = .ok u' w' ∧ rep (MM F g' h') w' r g' u' ∧ Tr F g h w g' h' w' := by
  simp only [asplit, AX.ev] at H
  obtain ⟨hsz, H⟩ := H
  obtain ⟨m, c', hS, H2⟩ := asrc_e H
  clear H
  have H := H2
  clear H2
  split at H
  · split at H
    · rename_i N sz2 c hd
      obtain ⟨rfl, hnN, b1, b2, K1, K2⟩ := H
      rcases (val_app_core (ty := ty) (r := .bot) (h' := h) hok ht hz hr hy hsz hS).2 _ _ N c rfl hd hnN b1 b2 with ⟨u', w', b, cap, hrun, hg, rfl, hcap, T1⟩ | ⟨u', w', b, cap, hrun, rfl, hcap, T, _⟩
      · exact ⟨_, _, _, _, g, K1, hrun, ⟨b, cap, hg, rfl, hcap⟩, T1⟩
      · exact ⟨_, _, _, _, _, K2, hrun, ⟨b, cap, by simp [GM.push], rfl, hcap⟩, T⟩
    · exact H.elim
  · exact H.elim
end
end Go.Proofs.Ytomkjfhepfinhaa

namespace Go.Proofs.Ytomkjfhepfinhaa
open Go.RowKit
variable {F : Nat → Prop}

section
variable {P : Program} {g : GM} {h : List AB} {w : World} {r : AV} {h' : List AB}

theorem RunsTo.of_val {s : Sem Value} {u : Value} {w' : World} {g' : GM} (hs : s.run P w = .ok u w') (hr : rep (MM F g' h') w' r g' u) (t : Tr F g h w g' h' w') : RunsTo F P (do pure (.value (← s))) g h w r h' :=
  ⟨u, w', g', .inl (by simp [hs]), hr, t⟩
theorem RunsTo.of_same {s : Sem Value} {u : Value} (k : HOK F g w h) (hs : s.run P w = .ok u w) (hr : rep (MM F g h) w r g u) (he : h = h') : RunsTo F P (do pure (.value (← s))) g h w r h' := by
  subst he
  exact RunsTo.of_val hs hr (Tr.refl k)
theorem partsOf_all {t : TypeId} : ∀ {ps : List (Nat × Operand)} {l : List (Nat × Nat × AX)}, partsOf P t ps = some l → l.length = ps.length ∧ ∀ (j : Nat) (p : Nat × Operand), ps[j]? = some p → ∃ f s, tyFld P t p.1 = some f ∧ tySz P f.type = some s ∧ l[j]? = some (f.offset, s, cx p.2)
  | [], l, h => by
    simp only [partsOf, Option.some.injEq] at h
    subst h
    exact ⟨rfl, fun j p hp => by simp at hp⟩
  | (i, x) :: ps, l, h => by
    obtain ⟨f, s, l', h1, h2, h3, rfl⟩ := partsOf_cons h
    obtain ⟨a, b⟩ := partsOf_all h3
    refine ⟨by simp [a], fun j p hp => ?_⟩
    cases j with
    | zero => simp only [List.getElem?_cons_zero, Option.some.injEq] at hp; subst hp; exact ⟨f, s, h1, h2, rfl⟩
    | succ j => exact b j p hp
theorem tyFld_some {s : TypeId} {f : Nat} {fd : Field} (hf : tyFld P s f = some fd) : ∃ fs, P.underlying s = some (.struct fs) ∧ fs[f]? = some fd := by
  unfold tyFld at hf
  split at hf
  · rename_i fs hfs; exact ⟨fs, hfs, hf⟩
  · cases hf

theorem pub_ok {v : AV} {u : Value} {K : AV → List AB → Prop} (k : HOK F g w h) (hr : rep (MM F g h) w v g u) (H : apub h v K) : ∃ v' h1, K v' h1 ∧ Tr F g h w g h1 w ∧ rep (MM F g h1) w v' g u ∧ v'.pure := by
  have keep : ∀ v : AV, v.pure ∧ K v h → rep (MM F g h) w v g u → ∃ v' h1, K v' h1 ∧ Tr F g h w g h1 w ∧ rep (MM F g h1) w v' g u ∧ v'.pure := fun v hh hr => ⟨v, h, hh.2, Tr.refl k, hr, hh.1⟩
  cases v
  case own d n =>
    simp only [apub] at H
    split at H
    · rename_i N sz c hd
      obtain ⟨hn, H⟩ := H
      obtain ⟨b, cap, hg, rfl, hcap⟩ := hr
      obtain ⟨_, _, cs, t, hh, hs, hc⟩ := k.row d N sz c b cap hd hg
      have T := Tr.kill k d
      have hM : ¬ MM F g (h.set d .dead) b := by
        rintro (hF | hO)
        · exact (k.fr b hF).2 ⟨d, cap, ⟨_, hd, trivial⟩, hg⟩
        · exact MM_kill k ⟨_, hd, trivial⟩ hg hO
      refine ⟨_, _, H, T, ⟨_, cap, rfl, by simp, by simp, fun h => (by cases h), hcap, fun kk hk o ho => ?_⟩, trivial⟩
      obtain ⟨x, e1, e2, e3⟩ := hc kk (by omega) o ho
      refine ⟨b, 0, x, rfl, lt_of_heap hh, hM, ?_, e2, rep_mono (Chg.refl _ w) (fun y hy hM => T.old y hy hM) _ (GM.le_refl _) e3⟩
      rw [Nat.zero_add]; exact cell_of_heap hh e1
    · exact H.elim
  all_goals exact keep _ H hr
theorem pubs_ok {e : AX → AV} {ρ : Operand → Value} : ∀ (ps : List (Nat × Operand)) {h : List AB} {K : List (Nat × AV) → List AB → Prop}, HOK F g w h → (∀ x, rep (MM F g h) w (e (cx x)) g (ρ x)) → apubs e (ps.map fun p => (p.1, cx p.2)) h K →
    ∃ l h1, K l h1 ∧ Tr F g h w g h1 w ∧ l.length = ps.length ∧ (∀ (j : Nat) (p : Nat × Operand) (a : Nat × AV), ps[j]? = some p → l[j]? = some a → p.1 = a.1 ∧ rep (MM F g h1) w a.2 g (ρ p.2)) ∧ ∀ a ∈ l, a.2.pure
  | [], h, K, k, hv, H => ⟨[], h, H, Tr.refl k, rfl, fun j p a hp => by simp at hp, fun a ha => by cases ha⟩
  | (i, x) :: ps, h, K, k, hv, H => by
    obtain ⟨v, h1, H1, T1, r1, p1⟩ := pub_ok k (hv x) H
    obtain ⟨l, h2, H2, T2, e1, e2, e3⟩ := pubs_ok ps T1.ok (fun y => T1.hold (hv y)) H1
    refine ⟨_, _, H2, T1.trans T2, by simp [e1], fun j p a hp ha => ?_, fun a ha => ?_⟩
    · cases j with
      | zero =>
        simp only [List.getElem?_cons_zero, Option.some.injEq] at hp ha
        subst hp; subst ha
        exact ⟨rfl, T2.hold r1⟩
      | succ j => exact e2 j p a hp ha
    · rcases List.mem_cons.1 ha with rfl | ha
      · exact p1
      · exact e3 a ha
theorem call_ok {c : Call} {ty : TypeId} {ρ : Operand → Value} {e : AX → AV} (k : HOK F g w h) (hv : ∀ x, rep (MM F g h) w (e (cx x)) g (ρ x)) (H : aop (compCall P c) e h (fun a b => a = r ∧ b = h')) :
    RunsTo F P (do let d ← resolve ρ c ty; invoke d.target d.args) g h w r h' := by
  obtain ⟨callee, args, ats⟩ := c
  cases callee with
  | invoke a b => exact H.elim
  | value f => cases f <;> exact H.elim
  | builtin b =>
    have hrun : (do let d ← resolve ρ ⟨.builtin b, args, ats⟩ ty; invoke d.target d.args : Sem Next).run P w = (builtin b ats ty (args.map fun | .const _ => true | _ => false) (args.map ρ)).run P w := by
      simp only [resolve, Sem.run_bind, Sem.run_pure, Result.andThen_ok, invoke]
      rfl
    have fin : ∀ {s : Sem Value} {u : Value} {w' : World} {g' : GM}, (builtin b ats ty (args.map fun | .const _ => true | _ => false) (args.map ρ)) = (do pure (.value (← s))) → s.run P w = .ok u w' → rep (MM F g' h') w' r g' u → Tr F g h w g' h' w' → RunsTo F P (do let d ← resolve ρ ⟨.builtin b, args, ats⟩ ty; invoke d.target d.args) g h w r h' := fun hb hs hr ht =>
      ⟨_, _, _, .inl (by rw [hrun, hb]; simp [hs]), hr, ht⟩
    have args2 : ∀ {x y : Operand}, args.toList = [x, y] → args.map ρ = #[ρ x, ρ y] := fun hl => by
      apply Array.ext'
      simp [hl]
    cases b <;> simp only [compCall] at H
    case len =>
      split at H
      · rename_i x el hl ht
        simp only [aop] at H
        have hx := hv x
        obtain ⟨t, ht0, ht1⟩ : ∃ t, ats[0]? = some t ∧ tyEl P t = some el := by
          cases h0 : ats[0]? with
          | none => rw [h0] at ht; cases ht
          | some t => rw [h0] at ht; exact ⟨t, rfl, ht⟩
        obtain ⟨hu, _⟩ := tyEl_some (e := el.1) (i := el.2) ht1
        have ha : args.map ρ = #[ρ x] := by
          apply Array.ext'
          simp [hl]
        have key : ∀ A n cap, ρ x = .slice A n cap → (Builtin.len_ ats ty (args.map ρ)).run P w = .ok (.int .i64 n) w := fun A n cap he => by
          rw [ha, he]
          simp [Builtin.len_, ht0, run_underlying hu, goInt]
        generalize e (cx x) = v at H hx
        cases v <;> simp only at H
        · obtain ⟨A, cap, he, _⟩ := hx
          obtain ⟨rfl, rfl⟩ := H
          exact fin rfl (key _ _ _ he) rfl (Tr.refl k)
        · obtain ⟨b, cap, _, he, _⟩ := hx
          obtain ⟨rfl, rfl⟩ := H
          exact fin rfl (key _ _ _ he) rfl (Tr.refl k)
        · obtain ⟨b, cap, p, _, he, _⟩ := hx
          obtain ⟨rfl, rfl⟩ := H
          exact fin rfl (key _ _ _ he) rfl (Tr.refl k)
      · exact H.elim
    case clear =>
      split at H
      · rename_i x el i hl ht
        split at H
        · rename_i zs hz
          obtain ⟨t, ht0, ht1⟩ : ∃ t, ats[0]? = some t ∧ tyEl P t = some (el, i) := by
            cases h0 : ats[0]? with
            | none => rw [h0] at ht; cases ht
            | some t => rw [h0] at ht; exact ⟨t, rfl, ht⟩
          obtain ⟨hu, hi⟩ := tyEl_some ht1
          have ha : args.map ρ = #[ρ x] := by
            apply Array.ext'
            simp [hl]
          obtain ⟨w', b1, rfl, b3⟩ := val_clr (P := P) (ty := ty) k ht0 hu hi (zcells_some hz) (hv x) H
          refine fin (u := .tuple #[]) rfl ?_ ⟨#[], rfl, rfl, fun i hi => by omega⟩ b3
          rw [ha]; exact b1
        · exact H.elim
      · exact H.elim
    case max =>
      split at H
      · rename_i x y hl
        simp only [aop] at H
        have hx := hv x
        have hy := hv y
        generalize e (cx x) = v at H hx
        generalize e (cx y) = u at H hy
        cases v <;> cases u <;> simp only at H
        rename_i kk a k' b
        have hx' : ρ x = .int kk a := hx
        have hy' : ρ y = .int k' b := hy
        obtain ⟨rfl, rfl⟩ := H
        refine fin (u := .int kk (max a b)) rfl ?_ rfl (Tr.refl k)
        rw [args2 hl, hx', hy', run_max_int2]
        congr 2
        split <;> omega
      · exact H.elim
    case min =>
      split at H
      · rename_i x y hl
        simp only [aop] at H
        have hx := hv x
        have hy := hv y
        generalize e (cx x) = v at H hx
        generalize e (cx y) = u at H hy
        cases v <;> cases u <;> simp only at H
        rename_i kk a k' b
        have hx' : ρ x = .int kk a := hx
        have hy' : ρ y = .int k' b := hy
        obtain ⟨rfl, rfl⟩ := H
        refine fin (u := .int kk (min a b)) rfl ?_ rfl (Tr.refl k)
        rw [args2 hl, hx', hy', run_min_int2]
        congr 2
        split <;> omega
      · exact H.elim
    case append =>
      split at H
      · rename_i x y t t' hl hat
        split at H
        · rename_i htt
          subst htt
          split at H
          · rename_i el i ht
            split at H
            · rename_i zs hz
              have ha : ats = #[t, t] := by
                apply Array.ext'
                simp [hat]
              obtain ⟨u', w', g', b1, b2, b3⟩ := val_app (P := P) (ty := ty) k ht hz (hv x) (hv y) H
              refine fin (u := u') rfl ?_ b2 b3
              rw [args2 hl, ha]
              exact b1
            · exact H.elim
          · exact H.elim
        · exact H.elim
      · exact H.elim
    all_goals exact H.elim
theorem aop_ok (o : Oper) {ρ : Operand → Value} {e : AX → AV} (k : HOK F g w h) (hv : ∀ x, rep (MM F g h) w (e (cx x)) g (ρ x)) (hk : ∀ v, e (.k v) = v) (H : aop (compOp P o.op) e h (fun a b => a = r ∧ b = h')) :
    RunsTo F P (execOp ρ o) g h w r h' := by
  cases hop : o.op <;> simp only [hop, compOp] at H <;> simp only [execOp, hop]
  case move x => obtain ⟨rfl, rfl⟩ := H; exact RunsTo.same k rfl (hv x)
  case assign x => obtain ⟨rfl, rfl⟩ := H; exact RunsTo.same k rfl (hv x)
  case pick c a b =>
    simp only [aop] at H
    have hc := hv c
    generalize e (cx c) = v at H hc
    cases v <;> simp only at H
    rename_i q
    have hc' : ρ c = .bool q := hc
    cases q
    · obtain ⟨rfl, rfl⟩ := H
      exact RunsTo.same k (u := ρ b) (by simp [hc', asBool]) (hv b)
    · obtain ⟨rfl, rfl⟩ := H
      exact RunsTo.same k (u := ρ a) (by simp [hc', asBool]) (hv a)
  case nilCheck x =>
    simp only [aop] at H
    have hx := hv x
    generalize e (cx x) = v at H hx
    cases v <;> simp only at H
    case ptr => obtain ⟨b, cap, hg, he⟩ := hx; obtain ⟨rfl, rfl⟩ := H; rw [he]; exact RunsTo.same k rfl ⟨b, cap, hg, rfl⟩
    case ip => have hx' := hx; obtain ⟨b, off, he, _⟩ := hx; obtain ⟨rfl, rfl⟩ := H; rw [he] at hx' ⊢; exact RunsTo.same k rfl hx'
    case rp => have hx' := hx; obtain ⟨b, off, _, he⟩ := hx; obtain ⟨rfl, rfl⟩ := H; rw [he] at hx' ⊢; exact RunsTo.same k rfl hx'
    case fn => have hx' := hx; obtain ⟨cs, he, _⟩ := hx; obtain ⟨rfl, rfl⟩ := H; rw [he] at hx' ⊢; exact RunsTo.same k rfl hx'
  case alloc t =>
    split at H
    · rename_i i hi
      split at H
      · rename_i z hz
        obtain ⟨u', w', g', h1, h2, h3⟩ := val_box (P := P) (t := t) (r := r) (h' := h') k (rep_ofV (MM F g h) w g z) (by simpa only [aop, hk, AX.ev] using H)
        refine RunsTo.of_val (u := u') ?_ h2 h3
        rw [← h1]
        simp [Instr.alloc, Instr.box, zeroValue, typeInfo, hi, hz]
      · exact H.elim
    · exact H.elim
  case box t x =>
    obtain ⟨u', w', g', h1, h2, h3⟩ := val_box (P := P) (t := t) (r := r) (h' := h') k (hv x) H
    exact RunsTo.of_val h1 h2 h3
  case build t ps =>
    split at H
    · rename_i fs hu
      split at H
      · rename_i hall
        split at H
        · rename_i zs l hz hl
          obtain ⟨i, hi, hzc⟩ : ∃ i, P.info? t = some i ∧ zcells i = some zs := by
            cases hi : P.info? t with
            | none => rw [hi] at hz; cases hz
            | some i => rw [hi] at hz; exact ⟨i, rfl, hz⟩
          obtain ⟨h1, h2, rfl, rfl⟩ := H
          obtain ⟨l1, l2⟩ := partsOf_all hl
          obtain ⟨u', b1, b2⟩ := val_build (P := P) (w := w) (g := g) (h := h) (ps := ps.toList.map fun p => (p.1, ρ p.2)) (as := l.map fun p => (p.1, p.2.1, e p.2.2)) hi hu hzc (fun f hf => List.all_eq_true.1 hall f hf) (by simp [l1]) (fun j p a hp ha => by
              rw [List.getElem?_map] at hp ha
              cases hq : ps.toList[j]? with
              | none => rw [hq] at hp; cases hp
              | some q =>
                obtain ⟨f, s, c1, c2, c3⟩ := l2 j q hq
                rw [hq] at hp
                rw [c3] at ha
                injection hp with hp
                injection ha with ha
                subst hp; subst ha
                obtain ⟨fs', d1, d2⟩ := tyFld_some c1
                rw [hu] at d1
                injection d1 with d1
                injection d1 with d1
                subst d1
                exact ⟨⟨f, d2, rfl, c2⟩, hv q.2⟩) (fun p hp => by obtain ⟨q, hq, rfl⟩ := List.mem_map.1 hp; exact h1 q hq) (fun p hp => by obtain ⟨q, hq, rfl⟩ := List.mem_map.1 hp; simpa using h2 q hq)
          have e1 : (ps.map fun x => match x with | (i, x) => (i, ρ x)) = (ps.toList.map fun p => (p.1, ρ p.2)).toArray := by
            apply Array.ext'
            simp
          rw [e1]
          simp only [List.length_map]
          exact RunsTo.of_same k b1 b2 rfl
        · exact H.elim
      · exact H.elim
    · exact H.elim
  case buildSlice t n ps =>
    split at H
    · rename_i el i ht
      split at H
      · rename_i zs hz
        split at H
        · rename_i hsz
          have e1 : (ps.map fun x => match x with | (i, x) => (i, ρ x)) = (ps.toList.map fun p => (p.1, ρ p.2)).toArray := by
            apply Array.ext'
            simp
          split at H
          · obtain ⟨l, h1, ⟨g1, rfl, rfl⟩, T1, l1, l2, l3⟩ := pubs_ok ps.toList k hv H
            obtain ⟨u', w', b1, b2, b3⟩ := val_bsl (P := P) (w := w) (g := g) (h := h1) (n := n) (ps := ps.toList.map fun p => (p.1, ρ p.2)) (es := l) T1.ok ht hz hsz (by simp [l1]) (fun j p a hp ha => by
              rw [List.getElem?_map] at hp
              cases hq : ps.toList[j]? with
              | none => rw [hq] at hp; cases hp
              | some q =>
                rw [hq] at hp
                injection hp with hp
                subst hp
                exact l2 j q a hq ha) (fun p hp => ⟨(g1 p hp).1, l3 p hp⟩) (fun p hp => (g1 p hp).2)
            rw [e1]
            exact RunsTo.of_val b1 b2 (T1.trans b3)
          obtain ⟨h1, h2, rfl, rfl⟩ := H
          obtain ⟨u', w', b1, b2, b3⟩ := val_bsl (P := P) (w := w) (g := g) (h := h) (n := n) (ps := ps.toList.map fun p => (p.1, ρ p.2)) (es := ps.toList.map fun p => (p.1, e (cx p.2))) k ht hz hsz (by simp) (fun j p a hp ha => by
              rw [List.getElem?_map] at hp ha
              cases hq : ps.toList[j]? with
              | none => rw [hq] at hp; cases hp
              | some q =>
                rw [hq] at hp ha
                injection hp with hp
                injection ha with ha
                subst hp; subst ha
                exact ⟨rfl, hv q.2⟩) (fun p hp => by
              obtain ⟨q, hq, rfl⟩ := List.mem_map.1 hp
              exact h1 (q.1, cx q.2) (List.mem_map.2 ⟨q, hq, rfl⟩)) (fun p hp => by
              obtain ⟨q, hq, rfl⟩ := List.mem_map.1 hp
              exact h2 (q.1, cx q.2) (List.mem_map.2 ⟨q, hq, rfl⟩))
          rw [e1]
          simp only [List.map_map] at b2 ⊢
          exact RunsTo.of_val b1 b2 b3
        · exact H.elim
      · exact H.elim
    · exact H.elim
  case load t a =>
    split at H
    · rename_i ht
      split at H
      · rename_i m hs
        obtain ⟨u', h1, h2, h3⟩ := val_ld (P := P) (t := t) (m' := some m) k (.inr ⟨m, rfl, ht, hs⟩) (hv a) H
        exact RunsTo.of_same k h1 h2 h3
      · exact H.elim
    · rename_i ht
      obtain ⟨u', h1, h2, h3⟩ := val_ld (P := P) (t := t) (m' := none) k (.inl ⟨rfl, ht⟩) (hv a) H
      exact RunsTo.of_same k h1 h2 h3
    · exact H.elim
  case store t a x =>
    split at H
    · rename_i m hs
      obtain ⟨w', h1, rfl, h3⟩ := val_st (P := P) (t := t) k hs (hv a) (hv x) H
      exact ⟨undef, w', g, .inr ⟨by simp [h1], rfl⟩, ⟨#[], rfl, rfl, fun i hi => by omega⟩, h3⟩
    · exact H.elim
  case fieldAddr s x f =>
    split at H
    · rename_i fd hf
      split at H
      · rename_i n hs
        obtain ⟨u', h1, h2, h3⟩ := val_fa (P := P) hf hs (hv x) H
        exact RunsTo.of_same k h1 h2 h3
      · exact H.elim
    · exact H.elim
  case field s x f =>
    split at H
    · rename_i fd hf
      split at H
      · rename_i ht
        split at H
        · rename_i m hs
          obtain ⟨u', h1, h2, h3⟩ := val_fld (P := P) hf (.inr ⟨m, rfl, ht, hs⟩) (hv x) H
          exact RunsTo.of_same k h1 h2 h3
        · exact H.elim
      · rename_i ht
        obtain ⟨u', h1, h2, h3⟩ := val_fld (P := P) hf (.inl ⟨rfl, ht⟩) (hv x) H
        exact RunsTo.of_same k h1 h2 h3
      · exact H.elim
    · exact H.elim
  case indexAddr t x i =>
    split at H
    · rename_i el n ht
      obtain ⟨u', h1, h2, h3⟩ := val_ia (P := P) ht (hv x) (hv i) H
      exact RunsTo.of_same k h1 h2 h3
    · exact H.elim
  case slice t x lo hi mx =>
    cases mx with
    | some _ => exact H.elim
    | none =>
      simp only at H
      split at H
      · rename_i el n ht
        have hm : ∀ (a : Option Operand), (match (a.map fun x => e (cx x)), (a.map ρ) with | none, none => True | some a, some x => rep (MM F g h) w a g x | _, _ => False) := fun a => by
          cases a with
          | none => trivial
          | some x => exact hv x
        obtain ⟨u', h1, h2, h3⟩ := val_slc (P := P) (lo := lo.map fun x => e (cx x)) (hi := hi.map fun x => e (cx x)) (ulo := lo.map ρ) (uhi := hi.map ρ) ht (hv x) (hm lo) (hm hi) (by
          cases lo <;> cases hi <;> exact H)
        exact RunsTo.of_same k h1 h2 h3
      · exact H.elim
  case binOp op t x y ty =>
    split at H
    · simp only [aop] at H
      have : abin op (e (cx x)) (e (cx y)) (fun a => a = r) ∧ h = h' := by
        obtain ⟨r', a, b⟩ := abin_one H
        obtain ⟨rfl, b⟩ := b
        exact ⟨a, b⟩
      obtain ⟨u', h1, h2⟩ := val_bin (P := P) (t := t) (x := x) (y := y) (hv x) (hv y) this.1
      exact RunsTo.of_same k h1 h2 this.2
    · rename_i ht
      have key : ∀ neg : Bool, aop (.binb neg (cx x) (cx y)) e h (fun a b => a = r ∧ b = h') → RunsTo F P (do pure (.value (← (do eqGuard (if neg then .neq else .eql) t x y (ρ x) (ρ y); binOp (if neg then .neq else .eql) t (ρ x) (ρ y) : Sem Value)))) g h w r h' := fun neg H => by
        simp only [aop] at H
        have hx := hv x
        have hy := hv y
        generalize e (cx x) = v at H hx
        generalize e (cx y) = u at H hy
        cases v <;> cases u <;> simp only at H
        rename_i a b
        have hx' : ρ x = .bool a := hx
        have hy' : ρ y = .bool b := hy
        obtain ⟨rfl, rfl⟩ := H
        rw [hx', hy']
        exact RunsTo.of_same k (val_binb (w := w) ht) rfl rfl
      cases op <;> simp only at H <;> first | exact key false H | exact key true H | exact H.elim
    · rename_i d hn1 hn2 ht
      split at H
      · rename_i tag hd
        have key : ∀ neg : Bool, aop (.eqz tag neg (cx x) (cx y)) e h (fun a b => a = r ∧ b = h') → RunsTo F P (do pure (.value (← (do eqGuard (if neg then .neq else .eql) t x y (ρ x) (ρ y); binOp (if neg then .neq else .eql) t (ρ x) (ρ y) : Sem Value)))) g h w r h' := fun neg H => by
          obtain ⟨q, a, b, c⟩ := aeqz_one (show aeqz tag (e (cx x)) (e (cx y)) (fun b => (.bool (if neg then !b else b)) = r ∧ h = h') from H)
          subst b
          exact RunsTo.of_same k (val_eqz (P := P) (x := x) (y := y) ht hd (hv x) (hv y) a) rfl c
        cases op <;> simp only at H <;> first | exact key false H | exact key true H | exact H.elim
      · split at H
        · rename_i fs hnt
          split at H
          · rename_i hf
            have key : ∀ neg : Bool, aop (.eqa fs.size neg (cx x) (cx y)) e h (fun a b => a = r ∧ b = h') → RunsTo F P (do pure (.value (← (do eqGuard (if neg then .neq else .eql) t x y (ρ x) (ρ y); binOp (if neg then .neq else .eql) t (ρ x) (ρ y))))) g h w r h' := fun neg H => by
              simp only [aop] at H
              have hx := hv x
              have hy := hv y
              generalize e (cx x) = v at H hx
              generalize e (cx y) = u at H hy
              cases v <;> cases u <;> simp only at H
              obtain ⟨rfl, h2, h3⟩ := H
              subst h2
              obtain ⟨q, ⟨rfl, h4⟩, k1⟩ := eqcs_one h3
              exact RunsTo.of_same k (val_eqa (P := P) (x := x) (y := y) ht hf rfl hx hy (k1 (fun b => b = q) rfl)) rfl h4
            cases op <;> simp only at H <;> first | exact key false H | exact key true H | exact H.elim
          · exact H.elim
        · exact H.elim
    · exact H.elim
  case unOp op t x =>
    simp only [aop] at H
    have hx := hv x
    generalize e (cx x) = v at H hx
    cases op <;> cases v <;> simp only at H
    · rename_i kk n
      have hx' : ρ x = .int kk n := hx
      obtain ⟨rfl, rfl⟩ := H
      rw [hx']
      exact RunsTo.of_same k (u := .int kk (kk.wrap (0 - n))) (by simp [Op.unary, Op.intArith]) rfl rfl
    · rename_i b
      have hx' : ρ x = .bool b := hx
      obtain ⟨rfl, rfl⟩ := H
      rw [hx']
      exact RunsTo.of_same k (u := .bool !b) (by simp [Op.unary]) rfl rfl
  case convert s d x =>
    split at H
    · rename_i ds kk hs hd
      simp only [aop] at H
      have hx := hv x
      generalize e (cx x) = v at H hx
      cases v <;> simp only at H
      rename_i k' n
      have hx' : ρ x = .int k' n := hx
      obtain ⟨rfl, rfl⟩ := H
      rw [hx']
      exact RunsTo.of_same k (u := .int kk (kk.wrap n)) (by simp [convert, run_underlying hs, run_underlying hd, Conv.intToInt]) rfl rfl
    · exact H.elim
  case makeFunc fn first cap =>
    cases fn with
    | func f =>
      simp only at H
      split at H
      · rename_i hf
        obtain ⟨rfl, rfl⟩ := H
        have hfe : first = #[] := by
          apply Array.ext'
          simpa using hf
        subst hfe
        refine RunsTo.of_same k (u := .func (.func f) #[] (cap.map ρ)) (by simp [Instr.makeFunc]) ⟨_, rfl, by simp, fun i hi => ?_⟩ rfl
        have hi' : i < cap.size := by simpa using hi
        refine ⟨ρ cap[i], by simp [hi'], ?_⟩
        rw [ofL_get (v := e (cx cap[i])) (by simp [hi'])]
        exact hv _
      · exact H.elim
    | _ => exact H.elim
  case makeSlice t l c =>
    split at H
    · rename_i el i ht
      split at H
      · rename_i zs hz
        split at H
        · rename_i hsz
          simp only [aop] at H
          have hl := hv l
          have hc := hv c
          generalize e (cx l) = v at H hl
          generalize e (cx c) = u at H hc
          split at H
          · rename_i n n'
            have hl' : ρ l = .int .i64 n := hl
            have hc' : ρ c = .int .i64 n' := hc
            obtain ⟨h0, h1, h2, h3, h4, rfl, rfl⟩ := H
            rw [hl', hc']
            obtain ⟨u', w', g', b1, b2, b3⟩ := val_msl (P := P) k ht hz h1 h2 h3 h4
            exact RunsTo.of_val b1 b2 b3
          · exact H.elim
        · exact H.elim
      · exact H.elim
    · exact H.elim
  case extract t i =>
    simp only [aop] at H
    have hx := hv t
    generalize e (cx t) = v at H hx
    cases v <;> simp only at H
    obtain ⟨hi, rfl, rfl⟩ := H
    obtain ⟨cs, he, hm, hc⟩ := hx
    obtain ⟨x, hx, hr⟩ := hc i hi
    rw [he]
    exact RunsTo.of_same k (u := x) (by simp [Instr.extract, hx]) hr rfl
  case call c => exact call_ok k hv (by simpa only [hop] using H)
  all_goals exact H.elim
end
end Go.Proofs.Ytomkjfhepfinhaa

namespace Go.Proofs.Ytomkjfhepfinhaa
open Go.RowKit

def AOp.xs : AOp → List AX
  | .mv x | .nilck x | .box x | .ld _ x | .fa x _ | .fld x _ _ | .un _ x | .conv _ x | .len x | .ext x _ | .clr _ x => [x]
  | .pick c a b => [c, a, b]
  | .build _ ps => ps.map (·.2.2)
  | .bsl _ _ _ ps | .bslp _ _ _ ps => ps.map (·.2)
  | .st _ x y | .ia _ x y | .bin _ x y | .binb _ x y | .eqz _ _ x y | .eqa _ _ x y | .msl _ _ _ x y | .app _ _ x y | .mx x y | .mn x y => [x, y]
  | .slc _ x lo hi => x :: (lo.toList ++ hi.toList)
  | .mkf _ xs | .call _ xs => xs
  | .calv x xs => x :: xs
  | .no => []
/-- It may change the call's own blocks. -/
def AOp.chg : AOp → Bool
  | .bslp .. | .box _ | .st .. | .msl .. | .app .. | .clr .. | .call .. | .calv .. => true
  | _ => false
/-- It looks at them. -/
def AOp.rds : AOp → Bool
  | .ld .. => true
  | o => o.chg

theorem map_congr_ev {α : Type} {ps : List α} {f : α → AX} {e e' : AX → AV} (h : ∀ x ∈ ps.map f, e x = e' x) {β : Type} (g : α → AV → β) : (ps.map fun p => g p (e (f p))) = ps.map fun p => g p (e' (f p)) :=
  List.map_congr_left fun p hp => by rw [h (f p) (List.mem_map.2 ⟨p, hp, rfl⟩)]
theorem apubs_env {e e' : AX → AV} : ∀ {ps : List (Nat × AX)} {h : List AB} {K : List (Nat × AV) → List AB → Prop}, (∀ x ∈ ps.map (·.2), e x = e' x) → apubs e ps h K → apubs e' ps h K
  | [], _, _, _, H => H
  | (i, x) :: ps, h, K, hx, H => by
    simp only [apubs] at H ⊢
    rw [← hx x (by simp)]
    obtain ⟨v, h1, H1, k1⟩ := apub_one H
    exact k1 _ (apubs_env (fun y hy => hx y (List.mem_cons_of_mem _ hy)) H1)
theorem aop_env (o : AOp) {e e' : AX → AV} {h : List AB} {K : AV → List AB → Prop} (hx : ∀ x ∈ o.xs, e x = e' x) (H : aop o e h K) : aop o e' h K := by
  cases o <;> simp only [AOp.xs, List.mem_cons, List.not_mem_nil, or_false, forall_eq, forall_eq_or_imp] at hx
  case build zs ps =>
    simp only [aop] at H ⊢
    have h1 := map_congr_ev (f := fun p : Nat × Nat × AX => p.2.2) hx (fun p v => (p.1, p.2.1, v))
    refine ⟨fun p hp => ?_, H.2.1, ?_⟩
    · rw [← hx _ (List.mem_map.2 ⟨p, hp, rfl⟩)]; exact H.1 p hp
    · rw [← h1]; exact H.2.2
  case bsl n sz zs ps =>
    simp only [aop] at H ⊢
    have h1 := map_congr_ev (f := fun p : Nat × AX => p.2) hx (fun p v => (p.1, v))
    refine ⟨fun p hp => ?_, H.2.1, ?_⟩
    · rw [← hx _ (List.mem_map.2 ⟨p, hp, rfl⟩)]; exact H.1 p hp
    · rw [← h1]; exact H.2.2
  case bslp n sz zs ps => exact apubs_env hx H
  case slc sz x lo hi =>
    obtain ⟨h1, h2⟩ := hx
    have hlo : lo.map e = lo.map e' := by
      cases lo with
      | none => rfl
      | some a => simp only [Option.map_some]; rw [h2 a (by simp)]
    have hhi : hi.map e = hi.map e' := by
      cases hi with
      | none => rfl
      | some a => simp only [Option.map_some]; rw [h2 a (by simp)]
    simp only [aop] at H ⊢
    rw [← h1, ← hlo, ← hhi]; exact H
  case mkf f xs =>
    simp only [aop] at H ⊢
    rw [← List.map_congr_left hx]; exact H
  case ld m x => cases m <;> (simp only [aop] at H ⊢; rw [← hx]; exact H)
  case call => exact H
  case calv => exact H
  case no => exact H
  case pick c a b =>
    obtain ⟨h1, h2, h3⟩ := hx
    simp only [aop] at H ⊢
    rw [← h1, ← h2, ← h3]; exact H
  all_goals
    first
    | (simp only [aop] at H ⊢; rw [← hx]; exact H)
    | (obtain ⟨h1, h2⟩ := hx; simp only [aop] at H ⊢; rw [← h1, ← h2]; exact H)
theorem asplit_env (o : AOp) {e e' : AX → AV} {h : List AB} {K : AV → List AB → Prop} (hx : ∀ x ∈ o.xs, e x = e' x) (H : asplit o e h K) : asplit o e' h K := by
  cases o <;> simp only [asplit] at H ⊢
  case app sz b x y =>
    simp only [AOp.xs, List.mem_cons, List.not_mem_nil, or_false, forall_eq, forall_eq_or_imp] at hx
    obtain ⟨h1, h2⟩ := hx
    rw [← h1, ← h2]; exact H
theorem aop_mono (o : AOp) {e : AX → AV} {h : List AB} {K K' : AV → List AB → Prop} (hk : ∀ r h', K r h' → K' r h') (H : aop o e h K) : aop o e h K' := by
  obtain ⟨r, h', h1, h2⟩ := aop_one o e h K H
  have h3 := hk r h' h2
  clear H h2
  have key : ∀ {K1 : AV → List AB → Prop}, aop o e h K1 → (∀ a b, K1 a b → K' a b) → aop o e h K' := by
    clear h1 h3 hk
    intro K1 H hm
    cases o <;> simp only [aop] at H ⊢
    case mv => exact hm _ _ H
    case pick c a b =>
      generalize e c = v at H ⊢
      cases v <;> simp only at H ⊢
      case bool q => cases q <;> exact hm _ _ H
    case nilck x =>
      generalize e x = v at H ⊢
      cases v <;> simp only at H ⊢ <;> exact hm _ _ H
    case box x =>
      generalize e x = v at H ⊢
      cases v <;> simp only at H ⊢ <;> exact hm _ _ H
    case build => exact ⟨H.1, H.2.1, hm _ _ H.2.2⟩
    case bsl => exact ⟨H.1, H.2.1, hm _ _ H.2.2⟩
    case bslp =>
      obtain ⟨l, h', H1, k1⟩ := apubs_one H
      exact k1 _ ⟨H1.1, hm _ _ H1.2⟩
    case ld m x =>
      cases m <;> simp only at H ⊢ <;> generalize e x = v at H ⊢ <;> cases v <;> simp only at H ⊢
      case none.ip => exact ⟨H.1, hm _ _ H.2⟩
      case some.ip => exact ⟨H.1, hm _ _ H.2⟩
      case none.ptr => split at H <;> first | exact ⟨H.1, hm _ _ H.2⟩ | exact H.elim
      case some.ptr => split at H <;> first | exact ⟨H.1, hm _ _ H.2⟩ | exact H.elim
      case none.rp => split at H <;> first | exact ⟨H.1, H.2.1, H.2.2.1, hm _ _ H.2.2.2⟩ | exact H.elim
      case some.rp => split at H <;> first | exact ⟨H.1, H.2.1, H.2.2.1, hm _ _ H.2.2.2⟩ | exact H.elim
    case st m x y =>
      generalize e x = v at H ⊢
      cases v <;> simp only at H ⊢
      case ptr => split at H <;> first | exact ⟨H.1, H.2.1, hm _ _ H.2.2⟩ | exact H.elim
      case rp =>
        split at H
        · exact ⟨H.1, H.2.1, H.2.2.1, H.2.2.2.1, H.2.2.2.2.imp (fun h => ⟨h.1, h.2.1, hm _ _ h.2.2⟩) (fun h => ⟨h.1, h.2.1, hm _ _ h.2.2⟩)⟩
        · exact H.elim
    case fa x off =>
      generalize e x = v at H ⊢
      cases v <;> simp only at H ⊢ <;> exact hm _ _ H
    case fld x off m =>
      generalize e x = v at H ⊢
      cases v <;> simp only at H ⊢
      case agg => cases m <;> exact ⟨H.1, hm _ _ H.2⟩
    case ia sz x i =>
      generalize e x = v at H ⊢
      generalize e i = j at H ⊢
      cases j <;> cases v <;> simp only at H ⊢
      · exact ⟨H.1, H.2.1, H.2.2.1, H.2.2.2.1, hm _ _ H.2.2.2.2⟩
      · exact ⟨H.1, H.2.1, hm _ _ H.2.2⟩
      · exact ⟨H.1, H.2.1, H.2.2.1, hm _ _ H.2.2.2⟩
    case slc sz x lo hi =>
      generalize e x = v at H ⊢
      cases v <;> simp only at H ⊢
      case sl =>
        refine ⟨H.1, ?_⟩
        have H := H.2
        split at H
        · exact hm _ _ H
        · exact ⟨H.1, H.2.1, hm _ _ H.2.2⟩
        · exact ⟨H.1, H.2.1, hm _ _ H.2.2⟩
        · exact ⟨H.1, H.2.1, H.2.2.1, hm _ _ H.2.2.2⟩
        · exact H.elim
      case own =>
        split at H
        · exact hm _ _ H
        · exact ⟨H.1, H.2.1, hm _ _ H.2.2⟩
        · exact ⟨H.1, H.2.1, hm _ _ H.2.2⟩
        · exact H.elim
      case osl =>
        refine ⟨H.1, ?_⟩
        have H := H.2
        split at H
        · exact ⟨H.1, H.2.1, hm _ _ H.2.2⟩
        · exact H.elim
    case eqa m neg x y =>
      generalize e x = v at H ⊢
      generalize e y = u at H ⊢
      cases v <;> cases u <;> simp only at H ⊢
      obtain ⟨q, g1, k1⟩ := eqcs_one H.2.2
      exact ⟨H.1, H.2.1, k1 _ (hm _ _ g1)⟩
    case clr sz x =>
      generalize e x = v at H ⊢
      cases v <;> simp only at H ⊢
      split at H
      · exact ⟨H.1, H.2.1, H.2.2.1, hm _ _ H.2.2.2⟩
      · exact H.elim
    case bin op x y =>
      obtain ⟨r, h1, h2⟩ := abin_one H
      have : ∀ {A B : AV → Prop} {x y : AV}, (∀ r, A r → B r) → abin op x y A → abin op x y B := fun {A B x y} hab hh => by
        cases x <;> cases y <;> simp only [abin] at hh ⊢
        cases op <;> simp only [ishift, ibin] at hh ⊢ <;> first | exact ⟨hh.1, hh.2.1, hab _ hh.2.2⟩ | exact ⟨hh.1, hab _ hh.2⟩ | exact hab _ hh
      exact this (fun r hr => hm _ _ hr) H
    case binb neg x y =>
      generalize e x = v at H ⊢
      generalize e y = u at H ⊢
      cases v <;> cases u <;> simp only at H ⊢ <;> exact hm _ _ H
    case eqz tag neg x y =>
      unfold aeqz at H ⊢
      split at H <;> first | exact hm _ _ H | exact H.elim
    case un op x =>
      generalize e x = v at H ⊢
      cases op <;> cases v <;> simp only at H ⊢ <;> exact hm _ _ H
    case conv k x =>
      generalize e x = v at H ⊢
      cases v <;> simp only at H ⊢ <;> exact hm _ _ H
    case mkf => exact hm _ _ H
    case msl sz bytes zs x y =>
      split at H
      · rename_i h1 h2
        exact ⟨H.1, H.2.1, H.2.2.1, H.2.2.2.1, H.2.2.2.2.1, hm _ _ H.2.2.2.2.2⟩
      · exact H.elim
    case len x =>
      generalize e x = v at H ⊢
      cases v <;> simp only at H ⊢ <;> exact hm _ _ H
    case app sz bytes x y =>
      refine ⟨H.1, ?_⟩
      obtain ⟨m, c', hs, H⟩ := asrc_e H.2
      refine asrc_i hs ?_
      generalize e x = v at H ⊢
      cases v <;> simp only at H ⊢
      case sl => exact ⟨H.1, H.2.1, fun h0 => hm _ _ (H.2.2.1 h0), fun h0 => ⟨(H.2.2.2 h0).1, (H.2.2.2 h0).2.1, hm _ _ (H.2.2.2 h0).2.2⟩⟩
      case own =>
        split at H
        · exact ⟨H.1, H.2.1, H.2.2.1, H.2.2.2.1, hm _ _ H.2.2.2.2⟩
        · exact H.elim
    case mx x y =>
      generalize e x = v at H ⊢
      generalize e y = u at H ⊢
      cases v <;> cases u <;> simp only at H ⊢ <;> exact hm _ _ H
    case mn x y =>
      generalize e x = v at H ⊢
      generalize e y = u at H ⊢
      cases v <;> cases u <;> simp only at H ⊢ <;> exact hm _ _ H
    case ext x i =>
      generalize e x = v at H ⊢
      cases v <;> simp only at H ⊢
      exact ⟨H.1, hm _ _ H.2⟩
  exact key h1 (fun a b ⟨ha, hb⟩ => by rw [ha, hb]; exact h3)
theorem asplit_mono (o : AOp) {e : AX → AV} {h : List AB} {K K' : AV → List AB → Prop} (hk : ∀ r h', K r h' → K' r h') (H : asplit o e h K) : asplit o e h K' := by
  cases o <;> simp only [asplit] at H ⊢
  case app sz b x y =>
    refine ⟨H.1, ?_⟩
    obtain ⟨m, c', hs, H⟩ := asrc_e H.2
    refine asrc_i hs ?_
    generalize e x = vx at H ⊢
    split at H
    · split at H
      · exact ⟨H.1, H.2.1, H.2.2.1, H.2.2.2.1, hk _ _ H.2.2.2.2.1, hk _ _ H.2.2.2.2.2⟩
      · exact H.elim
    · exact H.elim
/-- An operation that does not change the call's own blocks: one value, the same blocks; and, if it does not look at them, in any. -/
theorem aop_quiet (o : AOp) (hc : o.chg = false) {e : AX → AV} {h : List AB} {K : AV → List AB → Prop} (H : aop o e h K) : ∃ r, K r h ∧ aop o e h (fun a b => a = r ∧ b = h) ∧ (o.rds = false → ∀ h2 (K2 : AV → List AB → Prop), K2 r h2 → aop o e h2 K2) := by
  obtain ⟨r, h', h1, h2⟩ := aop_one o e h K H
  have key : h' = h ∧ (o.rds = false → ∀ h2 (K2 : AV → List AB → Prop), K2 r h2 → aop o e h2 K2) := by
    clear H h2
    cases o <;> simp only [AOp.chg, Bool.true_eq_false, reduceCtorEq] at hc <;> simp only [aop] at h1 ⊢
    case mv => obtain ⟨rfl, rfl⟩ := h1; exact ⟨rfl, fun _ h2 K2 hk => hk⟩
    case pick c a b =>
      generalize e c = v at h1 ⊢
      cases v <;> simp only at h1 ⊢
      case bool q => cases q <;> (obtain ⟨rfl, rfl⟩ := h1; exact ⟨rfl, fun _ h2 K2 hk => hk⟩)
    case nilck x =>
      generalize e x = v at h1 ⊢
      cases v <;> simp only at h1 ⊢ <;> (obtain ⟨rfl, rfl⟩ := h1; exact ⟨rfl, fun _ h2 K2 hk => hk⟩)
    case build => obtain ⟨a, b, rfl, rfl⟩ := h1; exact ⟨rfl, fun _ h2 K2 hk => ⟨a, b, hk⟩⟩
    case bsl => obtain ⟨a, b, rfl, rfl⟩ := h1; exact ⟨rfl, fun _ h2 K2 hk => ⟨a, b, hk⟩⟩
    case ld m x =>
      refine ⟨?_, fun hr => by cases hr⟩
      cases m <;> simp only at h1 <;> generalize e x = v at h1 <;> cases v <;> simp only at h1
      case none.ip => exact h1.2.2.symm
      case some.ip => exact h1.2.2.symm
      case none.ptr => split at h1 <;> first | exact h1.2.2.symm | exact h1.elim
      case some.ptr => split at h1 <;> first | exact h1.2.2.symm | exact h1.elim
      case none.rp => split at h1 <;> first | exact h1.2.2.2.2.symm | exact h1.elim
      case some.rp => split at h1 <;> first | exact h1.2.2.2.2.symm | exact h1.elim
    case fa x off =>
      generalize e x = v at h1 ⊢
      cases v <;> simp only at h1 ⊢ <;> (obtain ⟨rfl, rfl⟩ := h1; exact ⟨rfl, fun _ h2 K2 hk => hk⟩)
    case fld x off m =>
      generalize e x = v at h1 ⊢
      cases v <;> simp only at h1 ⊢
      case agg => cases m <;> (obtain ⟨a, rfl, rfl⟩ := h1; exact ⟨rfl, fun _ h2 K2 hk => ⟨a, hk⟩⟩)
    case ia sz x i =>
      generalize e x = v at h1 ⊢
      generalize e i = j at h1 ⊢
      cases j <;> cases v <;> simp only at h1 ⊢
      · obtain ⟨a, b, c, d, rfl, rfl⟩ := h1; exact ⟨rfl, fun _ h2 K2 hk => ⟨a, b, c, d, hk⟩⟩
      · obtain ⟨a, b, rfl, rfl⟩ := h1; exact ⟨rfl, fun _ h2 K2 hk => ⟨a, b, hk⟩⟩
      · obtain ⟨a, b, c, rfl, rfl⟩ := h1; exact ⟨rfl, fun _ h2 K2 hk => ⟨a, b, c, hk⟩⟩
    case slc sz x lo hi =>
      generalize e x = v at h1 ⊢
      cases v <;> simp only at h1 ⊢
      case sl =>
        obtain ⟨h0, h1⟩ := h1
        generalize lo.map e = l at h1 ⊢
        generalize hi.map e = m at h1 ⊢
        split at h1
        · obtain ⟨rfl, rfl⟩ := h1; exact ⟨rfl, fun _ h2 K2 hk => ⟨h0, hk⟩⟩
        · obtain ⟨a, b, rfl, rfl⟩ := h1; exact ⟨rfl, fun _ h2 K2 hk => ⟨h0, a, b, hk⟩⟩
        · obtain ⟨a, b, rfl, rfl⟩ := h1; exact ⟨rfl, fun _ h2 K2 hk => ⟨h0, a, b, hk⟩⟩
        · obtain ⟨a, b, c, rfl, rfl⟩ := h1; exact ⟨rfl, fun _ h2 K2 hk => ⟨h0, a, b, c, hk⟩⟩
        · exact h1.elim
      case own =>
        generalize lo.map e = l at h1 ⊢
        generalize hi.map e = m at h1 ⊢
        split at h1
        · obtain ⟨rfl, rfl⟩ := h1; exact ⟨rfl, fun _ h2 K2 hk => hk⟩
        · obtain ⟨a, b, rfl, rfl⟩ := h1; exact ⟨rfl, fun _ h2 K2 hk => ⟨a, b, hk⟩⟩
        · obtain ⟨a, b, rfl, rfl⟩ := h1; exact ⟨rfl, fun _ h2 K2 hk => ⟨a, b, hk⟩⟩
        · exact h1.elim
      case osl =>
        obtain ⟨h0, h1⟩ := h1
        generalize lo.map e = l at h1 ⊢
        generalize hi.map e = m at h1 ⊢
        split at h1
        · obtain ⟨a, b, rfl, rfl⟩ := h1; exact ⟨rfl, fun _ h2 K2 hk => ⟨h0, a, b, hk⟩⟩
        · exact h1.elim
    case eqa m neg x y =>
      generalize e x = v at h1 ⊢
      generalize e y = u at h1 ⊢
      cases v <;> cases u <;> simp only at h1 ⊢
      obtain ⟨a, b, h1⟩ := h1
      obtain ⟨q, ⟨rfl, rfl⟩, k1⟩ := eqcs_one h1
      exact ⟨rfl, fun _ h2 K2 hk => ⟨a, b, k1 _ hk⟩⟩
    case bin op x y =>
      obtain ⟨r', a, b⟩ := abin_one h1
      obtain ⟨rfl, rfl⟩ := b
      refine ⟨rfl, fun _ h2 K2 hk => ?_⟩
      have : ∀ {A B : AV → Prop} {x y : AV}, (∀ r, A r → B r) → abin op x y A → abin op x y B := fun {A B x y} hab hh => by
        cases x <;> cases y <;> simp only [abin] at hh ⊢
        cases op <;> simp only [ishift, ibin] at hh ⊢ <;> first | exact ⟨hh.1, hh.2.1, hab _ hh.2.2⟩ | exact ⟨hh.1, hab _ hh.2⟩ | exact hab _ hh
      exact this (fun r hr => by rw [hr]; exact hk) a
    case binb neg x y =>
      generalize e x = v at h1 ⊢
      generalize e y = u at h1 ⊢
      cases v <;> cases u <;> simp only at h1 ⊢ <;> (obtain ⟨rfl, rfl⟩ := h1; exact ⟨rfl, fun _ h2 K2 hk => hk⟩)
    case eqz tag neg x y =>
      obtain ⟨q, a, b⟩ := aeqz_one h1
      obtain ⟨rfl, rfl⟩ := b
      refine ⟨rfl, fun _ h2 K2 hk => ?_⟩
      unfold aeqz at a ⊢
      split at a <;> first | (obtain rfl := a; exact hk) | exact a.elim
    case un op x =>
      generalize e x = v at h1 ⊢
      cases op <;> cases v <;> simp only at h1 ⊢ <;> (obtain ⟨rfl, rfl⟩ := h1; exact ⟨rfl, fun _ h2 K2 hk => hk⟩)
    case conv k x =>
      generalize e x = v at h1 ⊢
      cases v <;> simp only at h1 ⊢ <;> (obtain ⟨rfl, rfl⟩ := h1; exact ⟨rfl, fun _ h2 K2 hk => hk⟩)
    case mkf => obtain ⟨rfl, rfl⟩ := h1; exact ⟨rfl, fun _ h2 K2 hk => hk⟩
    case len x =>
      generalize e x = v at h1 ⊢
      cases v <;> simp only at h1 ⊢ <;> (obtain ⟨rfl, rfl⟩ := h1; exact ⟨rfl, fun _ h2 K2 hk => hk⟩)
    case mx x y =>
      generalize e x = v at h1 ⊢
      generalize e y = u at h1 ⊢
      cases v <;> cases u <;> simp only at h1 ⊢ <;> (obtain ⟨rfl, rfl⟩ := h1; exact ⟨rfl, fun _ h2 K2 hk => hk⟩)
    case mn x y =>
      generalize e x = v at h1 ⊢
      generalize e y = u at h1 ⊢
      cases v <;> cases u <;> simp only at h1 ⊢ <;> (obtain ⟨rfl, rfl⟩ := h1; exact ⟨rfl, fun _ h2 K2 hk => hk⟩)
    case ext x i =>
      generalize e x = v at h1 ⊢
      cases v <;> simp only at h1 ⊢
      obtain ⟨a, rfl, rfl⟩ := h1; exact ⟨rfl, fun _ h2 K2 hk => ⟨a, hk⟩⟩
  obtain ⟨rfl, k2⟩ := key
  exact ⟨r, h2, h1, k2⟩
end Go.Proofs.Ytomkjfhepfinhaa

namespace Go.Proofs.Ytomkjfhepfinhaa
open Go.RowKit

structure AO where
  dst : Option Nat
  op : AOp
  guard : Option (Nat × Bool)
  deriving Inhabited
abbrev Env := Nat → AV
def Env.put (e : Env) : Option Nat → AV → Env
  | some d, v => fun t => if t = d then v else e t
  | none, _ => e
/-- What is known of calls, and of functions that yield values. -/
structure CallP where
  call : FuncId → List AV → List AB → (AV → List AB → Prop) → Prop
  iter : FuncId → List AV → List (List AV) → Prop
instance : CoeFun CallP (fun _ => FuncId → List AV → List AB → (AV → List AB → Prop) → Prop) := ⟨CallP.call⟩
def CallP.Mono (C : CallP) : Prop := ∀ f xs h (K K' : AV → List AB → Prop), (∀ r h', K r h' → K' r h') → C f xs h K → C f xs h K'
def astep (C : CallP) (o : AOp) (e : Env) (h : List AB) (K : AV → List AB → Prop) : Prop :=
  match o with
  | .call f xs => C f (xs.map (AX.ev e)) h K
  | .calv x xs => match x.ev e with
    | .fn f m c => C f (xs.map (AX.ev e) ++ (List.range m).map c) h K
    | _ => False
  | .app sz b x y => aop (.app sz b x y) (AX.ev e) h K ∨ asplit (.app sz b x y) (AX.ev e) h K
  | o => aop o (AX.ev e) h K
def gstep (C : CallP) (o : AO) (e : Env) (h : List AB) (K : AV → List AB → Prop) : Prop :=
  match o.guard with
  | none => astep C o.op e h K
  | some (t, b) => match e t with
    | .bool q => acond (q == b) (astep C o.op e h K) (K und h)
    | .tup 0 _ => K und h
    | _ => False
def AX.tmps : AX → List Nat
  | .t i => [i]
  | .k _ => []
def AO.looks (o : AO) : List Nat := o.op.xs.flatMap AX.tmps ++ (match o.guard with | some (t, _) => [t] | none => [])

theorem ev_congr {x : AX} {e e' : Env} (h : ∀ t ∈ x.tmps, e t = e' t) : x.ev e = x.ev e' := by
  cases x with
  | t i => exact h i (by simp [AX.tmps])
  | k v => rfl
theorem astep_env {C : CallP} {o : AOp} {e e' : Env} {h : List AB} {K : AV → List AB → Prop} (hx : ∀ x ∈ o.xs, x.ev e = x.ev e') (H : astep C o e h K) : astep C o e' h K := by
  cases o
  case call f xs =>
    simp only [astep] at H ⊢
    have hm : xs.map (AX.ev e) = xs.map (AX.ev e') := List.map_congr_left hx
    rw [← hm]; exact H
  case calv x xs =>
    simp only [astep] at H ⊢
    have hm : xs.map (AX.ev e) = xs.map (AX.ev e') := List.map_congr_left (fun y hy => hx y (by simp [AOp.xs, hy]))
    rw [← hx x (by simp [AOp.xs]), ← hm]; exact H
  case app sz b x y => exact H.imp (aop_env _ hx) (asplit_env _ hx)
  all_goals (simp only [astep] at H ⊢; exact aop_env _ hx H)
theorem astep_mono {C : CallP} (hC : C.Mono) {o : AOp} {e : Env} {h : List AB} {K K' : AV → List AB → Prop} (hk : ∀ r h', K r h' → K' r h') (H : astep C o e h K) : astep C o e h K' := by
  cases o
  case call f xs => exact hC _ _ _ _ _ hk H
  case calv x xs =>
    simp only [astep] at H ⊢
    generalize x.ev e = v at H ⊢
    cases v <;> simp only at H ⊢
    exact hC _ _ _ _ _ hk H
  case app sz b x y => exact H.imp (aop_mono _ hk) (asplit_mono _ hk)
  all_goals (simp only [astep] at H ⊢; exact aop_mono _ hk H)
theorem astep_quiet {C : CallP} {o : AOp} (hc : o.chg = false) (e : Env) (h : List AB) (K : AV → List AB → Prop) : astep C o e h K = aop o (AX.ev e) h K := by
  cases o <;> first | rfl | (simp [AOp.chg] at hc)
theorem gstep_env {C : CallP} {o : AO} {e e' : Env} {h : List AB} {K : AV → List AB → Prop} (hx : ∀ t ∈ o.looks, e t = e' t) (H : gstep C o e h K) : gstep C o e' h K := by
  have hx1 : ∀ x ∈ o.op.xs, x.ev e = x.ev e' := fun x hx' => ev_congr fun t ht => hx t (List.mem_append_left _ (List.mem_flatMap.2 ⟨x, hx', ht⟩))
  unfold gstep at H ⊢
  cases hg : o.guard with
  | none => rw [hg] at H; exact astep_env hx1 H
  | some p =>
    obtain ⟨t, b⟩ := p
    rw [hg] at H
    have ht : e t = e' t := hx t (by simp [AO.looks, hg])
    simp only at H ⊢
    rw [← ht]
    generalize e t = v at H ⊢
    split at H
    · exact acond_i (fun hq => (acond_e H).elim (fun h => astep_env hx1 h.2) (fun h => by rw [h.1] at hq; cases hq)) (fun hq => (acond_e H).elim (fun h => by rw [h.1] at hq; cases hq) (fun h => h.2))
    · exact H
    · exact H.elim
theorem gstep_mono {C : CallP} (hC : C.Mono) {o : AO} {e : Env} {h : List AB} {K K' : AV → List AB → Prop} (hk : ∀ r h', K r h' → K' r h') (H : gstep C o e h K) : gstep C o e h K' := by
  unfold gstep at H ⊢
  cases hg : o.guard with
  | none => rw [hg] at H; exact astep_mono hC hk H
  | some p =>
    obtain ⟨t, b⟩ := p
    rw [hg] at H
    simp only at H ⊢
    generalize e t = v at H ⊢
    split at H
    · exact acond_i (fun hq => (acond_e H).elim (fun h => astep_mono hC hk h.2) (fun h => by rw [h.1] at hq; cases hq)) (fun hq => (acond_e H).elim (fun h => by rw [h.1] at hq; cases hq) (fun h => hk _ _ h.2))
    · exact hk _ _ H
    · exact H.elim
theorem gstep_quiet {C : CallP} {o : AO} (hc : o.op.chg = false) {e : Env} {h : List AB} {K : AV → List AB → Prop} (H : gstep C o e h K) : ∃ r, K r h ∧ gstep C o e h (fun a b => a = r ∧ b = h) ∧ (o.op.rds = false → ∀ h2 (K2 : AV → List AB → Prop), K2 r h2 → gstep C o e h2 K2) := by
  unfold gstep at H ⊢
  simp only [astep_quiet hc] at H ⊢
  cases hg : o.guard with
  | none => rw [hg] at H; exact aop_quiet _ hc H
  | some p =>
    obtain ⟨t, b⟩ := p
    rw [hg] at H
    simp only at H ⊢
    generalize e t = v at H ⊢
    split at H
    · rename_i q
      rcases acond_e H with ⟨h1, h2⟩ | ⟨h1, h2⟩
      · simp only [h1, acond]
        exact aop_quiet _ hc h2
      · simp only [h1, acond]
        exact ⟨und, h2, by simp, fun _ h2 K2 hk => hk⟩
    · exact ⟨und, H, by simp, fun _ h2 K2 hk => hk⟩
    · exact H.elim

theorem put_ne {e : Env} {dst : Option Nat} {v : AV} {t : Nat} (h : dst ≠ some t) : e.put dst v t = e t := by
  cases dst with
  | none => rfl
  | some d => simp only [Env.put]; rw [if_neg (fun e => h (by rw [e]))]
theorem put_eq {e : Env} {t : Nat} {v : AV} : e.put (some t) v t = v := by simp [Env.put]
theorem put_comm {e : Env} {x y : Option Nat} {v u : AV} (h : ∀ d, x = some d → y ≠ some d) : (e.put x v).put y u = (e.put y u).put x v := by
  cases x with
  | none => rfl
  | some d =>
    cases y with
    | none => rfl
    | some d' =>
      have hne : d' ≠ d := fun e => h d rfl (by rw [e])
      funext t
      simp only [Env.put]
      by_cases h1 : t = d'
      · subst h1; simp [hne]
      · simp [h1]

/-- A look into the blocks gives what it gave. -/
def wat (C : CallP) (o : AO) (e : Env) (h : List AB) : Prop := ∀ d, o.dst = some d → gstep C o e h (fun v _ => v = e d)
section
variable (C : CallP) (ao : Nat → AO) (W : Nat → List Nat)
def arun (l : List Nat) (D : Nat → Prop) (Q : Env → List AB → Prop) (e : Env) (h : List AB) : Prop :=
  match l with
  | [] => Q e h
  | i :: rest => gstep C (ao i) e h (fun r h' => (∀ j ∈ W i, D j → wat C (ao j) e h') ∧ arun rest (fun k => k = i ∨ D k) Q (e.put (ao i).dst r) h')
end
section
variable {C : CallP} {ao : Nat → AO} {W : Nat → List Nat}
theorem arun_anti (hC : C.Mono) : ∀ (l : List Nat) {D D' : Nat → Prop} {Q : Env → List AB → Prop} {e : Env} {h : List AB}, (∀ k, D' k → D k) → arun C ao W l D Q e h → arun C ao W l D' Q e h
  | [], _, _, _, _, _, _, H => H
  | _ :: rest, _, _, _, _, _, hd, H => gstep_mono hC (fun _ _ hh => ⟨fun j hj hDj => hh.1 j hj (hd j hDj), arun_anti hC rest (fun k hk => hk.imp id (hd k)) hh.2⟩) H
theorem wat_env {o : AO} {e : Env} {h : List AB} {dst : Option Nat} {v : AV} (h1 : ∀ d, dst = some d → d ∉ o.looks) (h2 : ∀ d, dst = some d → o.dst ≠ some d) (H : wat C o (e.put dst v) h) : wat C o e h := fun d hd => by
  have h3 : dst ≠ some d := fun e => h2 d e hd
  have := H d hd
  rw [put_ne h3] at this
  exact gstep_env (fun t ht => put_ne (fun e => h1 t e ht)) this

/-- What a region's static look gives: clo: what must have come before. -/
structure Still (ao : Nat → AO) (W : Nat → List Nat) (clo : Nat → Nat → Prop) (N : Nat) : Prop where
  apart : ∀ k j, k < N → j < N → k ≠ j → ¬ clo k j → ¬ clo j k → ∀ d, (ao j).dst = some d → d ∉ (ao k).looks ∧ (ao k).dst ≠ some d
  wat : ∀ i k j, i < N → k ∈ W i → j < N → k ≠ j → ¬ clo k j → ∀ d, (ao j).dst = some d → d ∉ (ao k).looks ∧ (ao k).dst ≠ some d
  self : ∀ i j, i < N → j ∈ W i → ∀ d, (ao j).dst = some d → d ∉ (ao j).looks
  wq : ∀ j, j < N → (ao j).op.chg = false → W j = []
def Pair (ao : Nat → AO) (W : Nat → List Nat) (clo : Nat → Nat → Prop) (j i : Nat) : Prop :=
  j ≠ i ∧ ¬ clo j i ∧ ((ao j).op.chg = true → clo i j) ∧ ((ao i).op.chg = true → (ao j).op.rds = true → ¬ clo i j → j ∈ W i ∧ (ao j).dst ≠ none)

theorem pull (hC : C.Mono) {clo : Nat → Nat → Prop} {N : Nat} (S : Still ao W clo N) {i : Nat} (hiN : i < N) (rest : List Nat) (Q : Env → List AB → Prop) : ∀ (pre : List Nat) (D : Nat → Prop) (e : Env) (h : List AB),
    (∀ j ∈ pre, j < N) → (∀ k, D k → k < N) → pre.Pairwise (Pair ao W clo) → (∀ j ∈ pre, Pair ao W clo j i ∧ ¬ clo i j) → (∀ k, D k → ∀ j ∈ pre, ¬ clo k j ∧ k ≠ j) →
    arun C ao W (pre ++ i :: rest) D Q e h →
    gstep C (ao i) e h (fun r h' => (∀ j ∈ W i, D j → wat C (ao j) e h') ∧ arun C ao W (pre ++ rest) (fun k => k = i ∨ D k) Q (e.put (ao i).dst r) h')
  | [], _, _, _, _, _, _, _, _, H => H
  | j :: pre, D, e, h, hN, hDN, hpw, hpi, hD, H => by
    obtain ⟨⟨hne, hji, hcj, hci⟩, hij⟩ := hpi j List.mem_cons_self
    have hjN := hN j List.mem_cons_self
    have hq : (ao j).op.chg = false := by
      cases hh : (ao j).op.chg with
      | false => rfl
      | true => exact (hij (hcj hh)).elim
    have H : gstep C (ao j) e h _ := H
    obtain ⟨rj, ⟨_, Hj⟩, gj, nr⟩ := gstep_quiet hq H
    rw [List.pairwise_cons] at hpw
    have IH := pull hC S hiN rest Q pre (fun k => k = j ∨ D k) (e.put (ao j).dst rj) h (fun k hk => hN k (List.mem_cons_of_mem _ hk)) (fun k hk => hk.elim (fun e => e ▸ hjN) (hDN k)) hpw.2 (fun k hk => hpi k (List.mem_cons_of_mem _ hk))
      (fun k hk k' hk' => hk.elim (fun e => by subst e; exact ⟨(hpw.1 k' hk').2.1, (hpw.1 k' hk').1⟩) (fun hDk => hD k hDk k' (List.mem_cons_of_mem _ hk'))) Hj
    have ai := S.apart i j hiN hjN (Ne.symm hne) hij hji
    have aj := S.apart j i hjN hiN hne hji hij
    have IH2 := gstep_env (e' := e) (fun t ht => put_ne (fun ed => (ai t ed).1 ht)) IH
    have fin : ∀ ri hi, (∀ k ∈ W i, (k = j ∨ D k) → wat C (ao k) (e.put (ao j).dst rj) hi) → arun C ao W (pre ++ rest) (fun k => k = i ∨ k = j ∨ D k) Q ((e.put (ao j).dst rj).put (ao i).dst ri) hi → gstep C (ao j) e hi (fun a b => a = rj ∧ b = hi) →
        (∀ k ∈ W i, D k → wat C (ao k) e hi) ∧ arun C ao W (j :: pre ++ rest) (fun k => k = i ∨ D k) Q (e.put (ao i).dst ri) hi := by
      intro ri hi hw hr hg
      refine ⟨fun k hk hDk => ?_, ?_⟩
      · obtain ⟨n1, n2⟩ := hD k hDk j List.mem_cons_self
        have ak := S.wat i k j hiN hk hjN n2 n1
        exact wat_env (fun d hd => (ak d hd).1) (fun d hd => (ak d hd).2) (hw k hk (.inr hDk))
      · show gstep C (ao j) (e.put (ao i).dst ri) hi _
        refine gstep_mono hC ?_ (gstep_env (fun t ht => (put_ne (fun ed => (aj t ed).1 ht)).symm) hg)
        rintro r h' ⟨rfl, rfl⟩
        refine ⟨fun k hk => (by rw [S.wq j hjN hq] at hk; cases hk), ?_⟩
        rw [← put_comm (fun d hd => (ai d hd).2)]
        exact arun_anti hC _ (fun k hk => by rcases hk with h | h | h; exact .inr (.inl h); exact .inl h; exact .inr (.inr h)) hr
    cases hci' : (ao i).op.chg with
    | false =>
      obtain ⟨ri, ⟨k1, k2⟩, gi, _⟩ := gstep_quiet hci' IH2
      refine gstep_mono hC ?_ gi
      rintro r h' ⟨rfl, rfl⟩
      exact fin _ _ k1 k2 gj
    | true =>
      refine gstep_mono hC ?_ IH2
      rintro ri hi ⟨k1, k2⟩
      refine fin _ _ k1 k2 ?_
      cases hrd : (ao j).op.rds with
      | false => exact nr hrd hi _ ⟨rfl, rfl⟩
      | true =>
        obtain ⟨m1, m2⟩ := hci hci' hrd hij
        obtain ⟨d, hd⟩ := Option.ne_none_iff_exists'.1 m2
        have h1 := k1 j m1 (.inl rfl) d hd
        rw [hd, put_eq] at h1
        obtain ⟨r, e1, e2, _⟩ := gstep_quiet hq h1
        subst e1
        refine gstep_env (fun t ht => ?_) e2
        exact put_ne (fun ed => S.self i j hiN m1 t (by rw [hd]; exact ed) ht)
end
end Go.Proofs.Ytomkjfhepfinhaa
