/- Exams: what Copy makes: rows that stay. -/
import Derived.Test.YtbpilgflejdhaaaExX
import Derived.Test.YtbpilgflejdhaaaExO
import Derived.Test.YtbpilgflejdhaaaAppend
namespace Go.Proofs.Ytbpilgflejdhaaa
open Go.RowKit

/-- A row of elements of type e that is not lost. -/
def RowAt (w : World) (e : TypeId) (size : Nat) (A : Option Addr) (m c : Nat) (news : List Value) : Prop := 0 < m → w.ownsRow 0 e size (.slice A m c) m news
theorem own_base {w : World} {b b' : Nat} {e : TypeId} {size n : Nat} {v : Value} {xs : List Value} (h : w.ownsRow b e size v n xs) (hb : b' ≤ b) : w.ownsRow b' e size v n xs := by
  refine ⟨h.1, ?_⟩
  rcases h.2 with h2 | ⟨g, cap, cur, h1, h2, h3⟩
  · exact .inl h2
  · exact .inr ⟨g, cap, cur, h1, by omega, h3⟩
theorem RowAt.of_fresh {w w' : World} {e : TypeId} {size m c : Nat} {A : Option Addr} {news : List Value} (h : FreshRow w w' e size A m c news) : RowAt w' e size A m c news := fun hm => own_base (h.2 hm) (Nat.zero_le _)
theorem RowAt.ext {w w' : World} {e : TypeId} {size m c : Nat} {A : Option Addr} {news : List Value} (h : RowAt w e size A m c news) (k : Ext w w') : RowAt w' e size A m c news := fun hm => own_ext (h hm) k
/-- A step that writes to one block of another type. -/
theorem RowAt.step {w w' : World} {e : TypeId} {size m c : Nat} {A : Option Addr} {news : List Value} {row : Option Nat} (h : RowAt w e size A m c news) (hg : w.grownBy w' row)
    (hrow : ∀ b, row = some b → ∃ cur e' fr, w.heap[b]? = some (.cells cur e' fr) ∧ e' ≠ e) : RowAt w' e size A m c news := fun hm => by
  have h1 := h hm
  refine h1.kept hg ?_
  rcases h1.2 with ⟨hv, h2⟩ | ⟨g, cap, cur, hv, _, h3, _⟩
  · exact absurd h2 (by omega)
  · right
    rw [hv]
    intro he
    obtain ⟨cur', e', fr, h4, h5⟩ := hrow g (by rw [← he]; rfl)
    rw [h3] at h4
    injection h4 with h4
    injection h4 with _ h6
    exact h5 h6.symm
theorem Blk.new' {w : World} {t : TypeId} {cs : Array Value} {g : Nat} (h : g = w.heap.size) : Blk (w.alloc (.cells cs t)) g t cs := by subst h; exact Blk.new w t cs
theorem Blk.drew {w : World} {g : Nat} {t : TypeId} {cs : Array Value} (h : Blk w g t cs) : Blk w.drew g t cs := h.ext (Ext.refl _).drew
theorem blk_set4 {w : World} {g : Nat} {t : TypeId} {x0 x1 x2 x3 : Value} (h : Blk w g t #[x0, x1, x2, x3]) (a b c d : Value) : Blk ((((w.setCell ⟨g, 0, none⟩ a).setCell ⟨g, 1, none⟩ b).setCell ⟨g, 2, none⟩ c).setCell ⟨g, 3, none⟩ d) g t #[a, b, c, d] :=
  (((h.set 0 a).set 1 b).set 2 c).set 3 d
theorem RowAt.set4 {w : World} {e t : TypeId} {size m cc : Nat} {A : Option Addr} {news : List Value} {g : Nat} {cs : Array Value} (h : RowAt w e size A m cc news) (hb : Blk w g t cs) (hne : t ≠ e) (a b c d : Value) :
    RowAt ((((w.setCell ⟨g, 0, none⟩ a).setCell ⟨g, 1, none⟩ b).setCell ⟨g, 2, none⟩ c).setCell ⟨g, 3, none⟩ d) e size A m cc news := by
  refine h.step (row := some g) (grown_trans (grown_trans (grown_trans (grown_setCell w ⟨g, 0, none⟩ a) (grown_setCell _ ⟨g, 1, none⟩ b)) (grown_setCell _ ⟨g, 2, none⟩ c)) (grown_setCell _ ⟨g, 3, none⟩ d)) ?_
  intro b hb'
  injection hb' with hb'
  subst hb'
  exact ⟨cs, t, _, hb, hne⟩
theorem RowAt.alloc {w : World} {e : TypeId} {size m c : Nat} {A : Option Addr} {news : List Value} (h : RowAt w e size A m c news) (o : Obj) : RowAt (w.alloc o) e size A m c news := h.ext (Ext.of_alloc _ _)
theorem RowAt.drew {w : World} {e : TypeId} {size m c : Nat} {A : Option Addr} {news : List Value} (h : RowAt w e size A m c news) : RowAt w.drew e size A m c news := h.ext (Ext.refl _).drew
theorem own_type {w : World} {b : Nat} {e e' : TypeId} {size n : Nat} {v : Value} {xs : List Value} (h : w.ownsRow b e size v n xs) (hne : e ≠ e') : ∀ g, v.ownBlock = some g → ∃ cur t fr, w.heap[g]? = some (.cells cur t fr) ∧ t ≠ e' := by
  intro g hg
  rcases h.2 with ⟨hv, _⟩ | ⟨g', cap, cur, hv, _, h3, _⟩
  · rw [hv] at hg; cases hg
  · rw [hv] at hg
    injection hg with hg
    subst hg
    exact ⟨cur, e, _, h3, hne⟩
theorem blk_type {w : World} {g : Nat} {t e' : TypeId} {cs : Array Value} (h : Blk w g t cs) (hne : t ≠ e') : ∀ b, (some g : Option Nat) = some b → ∃ cur t fr, w.heap[b]? = some (.cells cur t fr) ∧ t ≠ e' := by
  intro b hb
  injection hb with hb
  subst hb
  exact ⟨cs, t, _, h, hne⟩
theorem RowAt.ints {w : World} {e : TypeId} {A : Option Addr} {c : Nat} {l : List Int} (h : RowAt w e 1 A l.length c (l.map (.int .i64))) : Ints w A l := fun k hk => (Ints.of_own (h (by omega))).2 k hk
theorem Ints.cells {w : World} {A : Option Addr} {l : List Int} (h : Ints w A l) : ∀ ad, A = some ad → ∀ j u, (l.map (Value.int .i64))[j]? = some u → w.cell? (ad.add j) = some u := by
  intro ad hA j u hu
  rw [List.getElem?_map] at hu
  obtain ⟨x, hx, rfl⟩ := Option.map_eq_some_iff.1 hu
  have hj : j < l.length := by
    rcases Nat.lt_or_ge j l.length with h | h
    · exact h
    · rw [List.getElem?_eq_none h] at hx; cases hx
  obtain ⟨b, off, h1, h2, h3⟩ := h j hj
  rw [hA] at h1
  injection h1 with h1
  subst h1
  have hadd : (⟨b, off, none⟩ : Addr).add j = ⟨b, off + j, none⟩ := by
    unfold Addr.add
    by_cases h0 : j = 0 <;> simp [h0]
  rw [hadd, h3]
  simp [List.getD, hx]
theorem Ints.nil {w : World} {A : Option Addr} {l : List Int} (h : Ints w A l) : A = none → l.length = 0 := fun hA => by
  rcases Nat.eq_zero_or_pos l.length with h0 | h0
  · exact h0
  · obtain ⟨b, off, h1, _⟩ := h 0 h0
    rw [hA] at h1; cases h1

def itemCells (l : List Item) : List Value := spanCells (l.map fun s => (s.weight, s.most))
theorem items_spans {w : World} {A : Option Addr} {l : List Item} : ItemsAt w A l ↔ Spans w A (l.map fun s => (s.weight, s.most)) := by
  have hg : ∀ k, k < l.length → (l.map fun s => (s.weight, s.most)).getD k (0, 0) = ((l.getD k default).weight, (l.getD k default).most) := fun k hk => by simp [List.getD, hk]
  constructor
  · intro h k hk
    rw [List.length_map] at hk
    obtain ⟨b, off, h1, h2, h3, h4⟩ := h k hk
    rw [hg k hk]
    exact ⟨b, off, h1, h2, h3, h4⟩
  · intro h k hk
    obtain ⟨b, off, h1, h2, h3, h4⟩ := h k (by rw [List.length_map]; exact hk)
    rw [hg k hk] at h3 h4
    exact ⟨b, off, h1, h2, h3, h4⟩
theorem ItemsAt.nil {w : World} {A : Option Addr} {l : List Item} (h : ItemsAt w A l) : A = none → l.length = 0 := fun hA => by
  rcases Nat.eq_zero_or_pos l.length with h0 | h0
  · exact h0
  · obtain ⟨b, off, h1, _⟩ := h 0 h0
    rw [hA] at h1; cases h1
theorem ItemsAt.cells {w : World} {A : Option Addr} {l : List Item} (h : ItemsAt w A l) : ∀ ad, A = some ad → ∀ j u, (itemCells l)[j]? = some u → w.cell? (ad.add j) = some u := by
  intro ad hA
  subst hA
  exact (items_spans.1 h).cells
theorem itemCells_len (l : List Item) : (itemCells l).length = l.length * 2 := by unfold itemCells; rw [spanCells_length, List.length_map]
theorem RowAt.items {w : World} {e : TypeId} {A : Option Addr} {c : Nat} {l : List Item} (h : RowAt w e 2 A l.length c (itemCells l)) : ItemsAt w A l := by
  refine items_spans.2 fun k hk => ?_
  rw [List.length_map] at hk
  exact (Spans.of_own (h (by omega))).2 k (by rw [List.length_map]; exact hk)

/-- The cells of judges whose marks lie where ms says. -/
def jCells : List Judge → List (Option Addr × Nat) → List Value
  | x :: l, m :: ms => [.int .i64 x.lo, .int .i64 x.hi, .int .i64 x.err, .slice m.1 x.marks.length m.2] ++ jCells l ms
  | _, _ => []
theorem jCells_len : ∀ (l : List Judge) (ms : List (Option Addr × Nat)), l.length = ms.length → (jCells l ms).length = l.length * 4
  | [], [], _ => rfl
  | x :: l, m :: ms, h => by
    have := jCells_len l ms (by simpa using h)
    simp only [jCells, List.length_append, List.length_cons, List.length_nil, this]
    omega
  | [], m :: ms, h => by simp at h
  | x :: l, [], h => by simp at h
theorem jCells_snoc : ∀ (l : List Judge) (ms : List (Option Addr × Nat)) (x : Judge) (m : Option Addr × Nat), l.length = ms.length → jCells (l ++ [x]) (ms ++ [m]) = jCells l ms ++ [.int .i64 x.lo, .int .i64 x.hi, .int .i64 x.err, .slice m.1 x.marks.length m.2]
  | [], [], _, _, _ => rfl
  | y :: l, n :: ms, x, m, h => by
    have := jCells_snoc l ms x m (by simpa using h)
    simp only [List.cons_append, jCells, this, List.append_assoc]
  | [], m :: ms, _, _, h => by simp at h
  | x :: l, [], _, _, h => by simp at h
theorem jCells_get : ∀ (l : List Judge) (ms : List (Option Addr × Nat)) (k : Nat), l.length = ms.length → k < l.length →
    (jCells l ms)[k * 4]? = some (.int .i64 (l.getD k default).lo) ∧ (jCells l ms)[k * 4 + 1]? = some (.int .i64 (l.getD k default).hi) ∧ (jCells l ms)[k * 4 + 2]? = some (.int .i64 (l.getD k default).err) ∧
      (jCells l ms)[k * 4 + 3]? = some (.slice (ms.getD k (none, 0)).1 (l.getD k default).marks.length (ms.getD k (none, 0)).2)
  | x :: l, m :: ms, 0, _, _ => ⟨rfl, rfl, rfl, rfl⟩
  | x :: l, m :: ms, k + 1, h, hk => by
    have := jCells_get l ms k (by simpa using h) (by simpa using hk)
    simp only [jCells]
    rw [show (k + 1) * 4 = k * 4 + 4 by omega, show k * 4 + 4 + 1 = k * 4 + 1 + 4 by omega, show k * 4 + 4 + 2 = k * 4 + 2 + 4 by omega, show k * 4 + 4 + 3 = k * 4 + 3 + 4 by omega]
    simpa using this
  | [], _, k, _, hk => by simp at hk
  | x :: l, [], _, h, _ => by simp at h
theorem jCells_one (l : List Judge) (ms : List (Option Addr × Nat)) : ∀ u ∈ jCells l ms, u.oneCell' = true := by
  induction l generalizing ms with
  | nil => intro u hu; simp [jCells] at hu
  | cons x l ih =>
    cases ms with
    | nil => intro u hu; simp [jCells] at hu
    | cons m ms =>
      intro u hu
      simp only [jCells, List.mem_append, List.mem_cons, List.not_mem_nil, or_false] at hu
      rcases hu with (rfl | rfl | rfl | rfl) | hu
      · rfl
      · rfl
      · rfl
      · rfl
      · exact ih ms u hu
/-- Judges read off a row of the call's own. -/
theorem judges_of_own {w : World} {base n c : Nat} {e e' : TypeId} {A : Option Addr} {l : List Judge} {ms : List (Option Addr × Nat)} (hl : l.length = ms.length) (hn : n = l.length) (h : w.ownsRow base e 4 (.slice A n c) n (jCells l ms))
    (hm : ∀ k, k < l.length → RowAt w e' 1 (ms.getD k (none, 0)).1 (l.getD k default).marks.length (ms.getD k (none, 0)).2 ((l.getD k default).marks.map (.int .i64))) (hsz : ∀ k, k < l.length → (l.getD k default).marks.length ≤ 9223372036854775807) : JudgesAt w A l := by
  subst hn
  intro k hk
  obtain ⟨b, off, hA, hb, hc⟩ := (Sl.of_own h).2 (by omega)
  obtain ⟨g0, g1, g2, g3⟩ := jCells_get l ms k hl hk
  exact ⟨b, off, hA, hb, by rw [← hc _ _ g0], by rw [Nat.add_assoc, ← hc _ _ g1], by rw [Nat.add_assoc, ← hc _ _ g2], _, _, by rw [Nat.add_assoc]; exact hc _ _ g3, (hm k hk).ints, hsz k hk⟩

/-- A paper in rows of the call's own. -/
structure CopyAt (w : World) (B : Nat) (iA jA gA : Option Addr) (ic jc gc : Nat) (p : Paper) (ms : List (Option Addr × Nat)) : Prop where
  ml : ms.length = p.judges.length
  it : RowAt w 90 2 iA p.items.length ic (itemCells p.items)
  gr : RowAt w 3 1 gA p.grades.length gc (p.grades.map (.int .i64))
  ju : w.ownsRow B 37 4 (.slice jA p.judges.length jc) p.judges.length (jCells p.judges ms)
  ma : ∀ k, k < p.judges.length → RowAt w 3 1 (ms.getD k (none, 0)).1 (p.judges.getD k default).marks.length (ms.getD k (none, 0)).2 ((p.judges.getD k default).marks.map (.int .i64))
theorem CopyAt.paper {w : World} {B : Nat} {iA jA gA : Option Addr} {ic jc gc : Nat} {p : Paper} {ms : List (Option Addr × Nat)} (h : CopyAt w B iA jA gA ic jc gc p ms) (hil : p.items.length ≤ 9223372036854775807) (hjl : p.judges.length ≤ 9223372036854775807) (hgl : p.grades.length ≤ 9223372036854775807)
    (hml : ∀ k, k < p.judges.length → (p.judges.getD k default).marks.length ≤ 9223372036854775807) : PaperAt w iA jA gA p :=
  ⟨h.it.items, judges_of_own (e' := 3) h.ml.symm rfl h.ju h.ma hml, h.gr.ints, hil, hjl, hgl⟩
theorem CopyAt.ext {w w' : World} {B : Nat} {iA jA gA : Option Addr} {ic jc gc : Nat} {p : Paper} {ms : List (Option Addr × Nat)} (h : CopyAt w B iA jA gA ic jc gc p ms) (e : Ext w w') : CopyAt w' B iA jA gA ic jc gc p ms :=
  ⟨h.ml, h.it.ext e, h.gr.ext e, own_ext h.ju e, fun k hk => (h.ma k hk).ext e⟩
/-- Its number of wrong judges lies in no row. -/
theorem CopyAt.wrong {w : World} {B : Nat} {iA jA gA : Option Addr} {ic jc gc : Nat} {p : Paper} {ms : List (Option Addr × Nat)} (h : CopyAt w B iA jA gA ic jc gc p ms) (n : Int) : CopyAt w B iA jA gA ic jc gc { p with wrong := n } ms := ⟨h.ml, h.it, h.gr, h.ju, h.ma⟩
end Go.Proofs.Ytbpilgflejdhaaa
