/- The builtins max and min of two ints, under one name. No program in sight. / append onto a row of the call's own, as one step of a region that draws. No program in sight. / Regions that draw their order: what reads, then a tail in a forced order; the rest under one name, by the quiet walk. No program in sight. / Exams: boxes in memory; an append whose source may be nil. -/
import Derived.Test.YtbpilgflejdhaaaMem
import Derived.StillTail
import Derived.Test.YtbpilgflejdhaaaExW0
import Derived.Test.YtbpilgflejdhaaaExBox
import Derived.Laws.AppendOwnNone
/-! The builtins max and min of two ints, under one name. No program in sight. -/
namespace Go.Proofs.Ytbpilgflejdhaaa
theorem max2_run (P : Program) (x y : Int) : ∃ u : Int, u = max x y ∧ ∀ (w : World) (ts : Array TypeId) (t : TypeId), (Builtin.max_ ts t #[.int .i64 x, .int .i64 y]).run P w = .ok (.int .i64 u) w :=
  ⟨if y > x then y else x, by split <;> omega, fun w ts t => by simp [Builtin.max_, Builtin.max2]⟩
theorem min2_run (P : Program) (x y : Int) : ∃ u : Int, u = min x y ∧ ∀ (w : World) (ts : Array TypeId) (t : TypeId), (Builtin.min_ ts t #[.int .i64 x, .int .i64 y]).run P w = .ok (.int .i64 u) w :=
  ⟨if y < x then y else x, by split <;> omega, fun w ts t => by simp [Builtin.min_, Builtin.min2]⟩
end Go.Proofs.Ytbpilgflejdhaaa
/-! append onto a row of the call's own, as one step of a region that draws. No program in sight. -/
namespace Go.Proofs.Ytbpilgflejdhaaa
theorem step_append_own {P : Program} {w : World} {ops : Array Oper} {o : Oper} {a : Act} {K : Act → World → Prop} {Q : Exit → Act → World → Prop} {E : Prop} (hgd : o.guard = none) (s x : Operand) (t : TypeId)
    (ho : o.op = .call { callee := .builtin .append, args := #[s, x], argTypes := #[t, t] })
    (base : Nat) (e : TypeId) (i : TypeInfo) (z : Value) (size bytes : Nat) (ht : P.underlying t = some (.slice e)) (hi : P.info? e = some i) (hz : i.zero = some z)
    (hsize : i.size = size) (hby : i.bytes = bytes) (hzs : z.cells.size = size) (hsz : 0 < size)
    (v : Value) (n : Nat) (xs : List Value) (hs : a.eval s = v) (hown : w.ownsRow base e size v n xs)
    (ad : Addr) (m c : Nat) (news : List Value) (hx : a.eval x = .slice (some ad) m c) (hl : news.length = m * size) (hnews : ∀ j u, news[j]? = some u → w.cell? (ad.add j) = some u) (h1 : ∀ u ∈ news, u.oneCell' = true)
    (h63 : n + m ≤ maxLen) (hbytes : (n + m) * bytes ≤ 140737488355328) (hbase : base ≤ w.heap.size)
    (h : ∀ v' w', w'.ownsRow base e size v' (n + m) (xs ++ news) → w.grownBy w' v.ownBlock → K (a.put o.dst v') w') : if Region.wanted o (yielded ops a.tmps) = true then Oper.wp P o a w K Q else E := by
  have hw : Region.wanted o (yielded ops a.tmps) = true := by simp [Region.wanted, hgd]
  rw [if_pos hw]
  exact wp_append_own w s x t ho base e i z size bytes ht hi hz hsize hby hzs hsz v n xs hs hown ad m c news hx hl hnews h1 h63 hbytes hbase fun v' w' h2 h3 _ => h v' w' h2 h3
end Go.Proofs.Ytbpilgflejdhaaa
/-! Regions that draw their order: what reads, then a tail in a forced order; the rest under one name, by the quiet walk. No program in sight. -/
namespace Go.Proofs.Ytbpilgflejdhaaa
open Go.RowKit
theorem still_of_quiet {P : Program} {ops : Array Oper} {W : World} {T : Act → Prop} : ∀ (l : List Oper) (a : Act), wpQuiet P ops (fun w' => w' = W) T l a → wpStill P ops W T l a
  | [], _, h => h
  | o :: l, a, h => by
    rw [wpQuiet] at h
    rw [wpStill]
    split
    · rename_i hw
      rw [if_pos hw] at h
      obtain ⟨v, h1, h2⟩ := h
      have h3 := h1 W rfl
      unfold Oper.quietAt at h3
      unfold Oper.still
      generalize (execOp a.eval o).run P W = r at *
      cases r with
      | ok n w' =>
        cases n <;> simp only [Oper.quietUpon] at h3 <;> simp only [Oper.stillUpon]
        case value u =>
          obtain ⟨e1, e2⟩ := h3
          exact ⟨e1, by rw [e2]; exact still_of_quiet l _ h2⟩
        case skip =>
          obtain ⟨e1, e2⟩ := h3
          exact ⟨e1, by rw [← e2]; exact still_of_quiet l _ h2⟩
        case enter f args =>
          obtain ⟨e1, hc⟩ := h3
          exact ⟨e1, v, hc, still_of_quiet l _ h2⟩
      | halt x w' => simp only [Oper.quietUpon] at h3
    · rename_i hw
      rw [if_neg hw] at h
      exact still_of_quiet l _ h
theorem wp_region_tail2 {P : Program} {id : Nat} {Q : Exit → Act → World → Prop} {a : Act} {w : World} {l : List Oper} (n : Nat) (hm : P.follows .mixedOrders = true) (hB : Region.lexTailB .any l.toArray n = true)
    (h : ∀ T : Act → Prop, Hid (∀ a', wpList P l.toArray Q (l.drop n) a' w.drew → T a') → wpQuiet P l.toArray (fun w' => w' = w.drew) T (l.take n) a) : (Code.region id l.toArray true).wp P Q a w :=
  wp_region_still_tail n hm hB (still_of_quiet _ _ (h _ (Lib.hid fun _ h => h)))
end Go.Proofs.Ytbpilgflejdhaaa
/-! Exams: boxes in memory; an append whose source may be nil. -/
namespace Go.Proofs.Ytbpilgflejdhaaa
open Go.RowKit

section
variable {P : Program}
theorem wpList_append_any {w : World} {ops : Array Oper} {rest : List Oper} {o : Oper} {a : Act} {Q : Exit → Act → World → Prop} (hgd : o.guard = none) (s x : Operand) (t : TypeId)
    (ho : o.op = .call { callee := .builtin .append, args := #[s, x], argTypes := #[t, t] })
    (base : Nat) (e : TypeId) (i : TypeInfo) (z : Value) (size bytes : Nat) (ht : P.underlying t = some (.slice e)) (hi : P.info? e = some i) (hz : i.zero = some z)
    (hsize : i.size = size) (hby : i.bytes = bytes) (hzs : z.cells.size = size) (hsz : 0 < size)
    (v : Value) (n : Nat) (xs : List Value) (hs : a.eval s = v) (hown : w.ownsRow base e size v n xs)
    (A : Option Addr) (m c : Nat) (news : List Value) (hx : a.eval x = .slice A m c) (hnil : A = none → m = 0 ∧ c = 0) (hl : news.length = m * size) (hnews : ∀ ad, A = some ad → ∀ j u, news[j]? = some u → w.cell? (ad.add j) = some u) (h1 : ∀ u ∈ news, u.oneCell' = true)
    (h63 : n + m ≤ maxLen) (hbytes : (n + m) * bytes ≤ 140737488355328) (hbase : base ≤ w.heap.size)
    (h : ∀ v' w', w'.ownsRow base e size v' (n + m) (xs ++ news) → w.grownBy w' v.ownBlock → wpList P ops Q rest (a.put o.dst v') w') : wpList P ops Q (o :: rest) a w := by
  cases A with
  | some ad => exact wpList_append_own w hgd s x t ho base e i z size bytes ht hi hz hsize hby hzs hsz v n xs hs hown ad m c news hx hl (hnews ad rfl) h1 h63 hbytes hbase fun v' w' h2 h3 _ => h v' w' h2 h3
  | none =>
    obtain ⟨rfl, rfl⟩ := hnil rfl
    have hn : news = [] := List.eq_nil_of_length_eq_zero (by simpa using hl)
    subst hn
    exact wpList_append_own_none hgd s x t ho base e i size ht hi v n xs hs hown hx (h v w (by simpa using hown) (grown_refl w _))
end

theorem Blk.append {w w' : World} {g base size n : Nat} {t e : TypeId} {cs : Array Value} {v : Value} {xs : List Value} (h : Blk w g t cs) (hown : w.ownsRow base e size v n xs) (hne : e ≠ t) (hg : w.grownBy w' v.ownBlock) : Blk w' g t cs := by
  refine h.grown hg fun he => ?_
  obtain ⟨cur, t', fr, h1, h2⟩ := own_type hown hne g he.symm
  unfold Blk at h
  rw [h] at h1
  injection h1 with h1
  injection h1 with _ h3
  exact h2 h3.symm
theorem RowAt.append {w w' : World} {base size size' n m c : Nat} {t e : TypeId} {A : Option Addr} {v : Value} {xs news : List Value} (h : RowAt w t size' A m c news) (hown : w.ownsRow base e size v n xs) (hne : e ≠ t) (hg : w.grownBy w' v.ownBlock) : RowAt w' t size' A m c news :=
  h.step hg (own_type hown hne)
theorem RowAt.spans {w : World} {e : TypeId} {A : Option Addr} {n c : Nat} {l : List (Int × Int)} (h : RowAt w e 2 A n c (spanCells l)) (hn : n = l.length) : Spans w A l := fun k hk => (Spans.of_own (h (by omega))).2 k hk
theorem own_none {w : World} {base n c size : Nat} {e : TypeId} {A : Option Addr} {xs : List Value} (h : w.ownsRow base e size (.slice A n c) n xs) : A = none → n = 0 ∧ c = 0 := by
  intro hA
  rcases h.2 with ⟨hv, hn⟩ | ⟨g, cap, cur, hv, _⟩
  · injection hv with _ h1 h2
    exact ⟨h1, h2⟩
  · subst hA
    injection hv with h1
    cases h1
theorem own_cells {w : World} {base n c size : Nat} {e : TypeId} {A : Option Addr} {xs : List Value} (h : w.ownsRow base e size (.slice A n c) n xs) : ∀ ad, A = some ad → ∀ j u, xs[j]? = some u → w.cell? (ad.add j) = some u := by
  intro ad hA j u hu
  rcases h.2 with ⟨hv, hn⟩ | ⟨g, cap, cur, hv, _⟩
  · have := h.1
    rw [hn, Nat.zero_mul] at this
    rw [List.eq_nil_of_length_eq_zero this] at hu
    cases hu
  · injection hv with h1
    subst h1
    injection hA with hA
    subst hA
    exact h.cells (g := g) rfl j u hu
theorem own_of_blk {w : World} {g size n : Nat} {e : TypeId} {cs : Array Value} (h : Blk w g e cs) (hs : cs.size = n * size) (hm : n ≤ maxLen) (base : Nat) (hb : base ≤ g) : w.ownsRow base e size (.slice (some ⟨g, 0, none⟩) n n) n cs.toList :=
  ⟨by simpa using hs, .inr ⟨g, n, cs, rfl, hb, h, Nat.le_refl _, hm, hs, by rw [← hs, ← Array.length_toList]; exact List.take_length⟩⟩

/-- The cells of boxes whose spans lie where the second part says. -/
def bxC (L : List (Box × Option Addr × Nat)) : List Value := L.flatMap fun x => [.slice x.2.1 x.1.pts.length x.2.2, .int .i64 (x.1.right : Int)]
theorem bxC_len (L : List (Box × Option Addr × Nat)) : (bxC L).length = L.length * 2 := by
  induction L with
  | nil => rfl
  | cons a l ih => simp [bxC] at ih ⊢; omega
theorem bxC_app (L L' : List (Box × Option Addr × Nat)) : bxC (L ++ L') = bxC L ++ bxC L' := by simp [bxC]
theorem bxC_one (L : List (Box × Option Addr × Nat)) : ∀ u ∈ bxC L, u.oneCell' = true := by
  intro u hu
  simp [bxC] at hu
  obtain ⟨a, b, c, _, rfl | rfl⟩ := hu <;> rfl
theorem bxC_get : ∀ (L : List (Box × Option Addr × Nat)) (k : Nat) (h : k < L.length), (bxC L)[k * 2]? = some (.slice L[k].2.1 L[k].1.pts.length L[k].2.2) ∧ (bxC L)[k * 2 + 1]? = some (.int .i64 (L[k].1.right : Int))
  | x :: L, 0, _ => by simp [bxC]
  | x :: L, k + 1, h => by
    have := bxC_get L k (by simpa using h)
    simp only [bxC, List.flatMap_cons] at this ⊢
    rw [show (k + 1) * 2 = k * 2 + 2 by omega, show k * 2 + 2 + 1 = k * 2 + 1 + 2 by omega]
    simpa using this
def SpanRows (w : World) (L : List (Box × Option Addr × Nat)) : Prop := ∀ x ∈ L, RowAt w 35 2 x.2.1 x.1.pts.length x.2.2 (spanCells x.1.pts)
theorem SpanRows.ext {w w' : World} {L : List (Box × Option Addr × Nat)} (h : SpanRows w L) (e : Ext w w') : SpanRows w' L := fun x hx => (h x hx).ext e
theorem SpanRows.app {w : World} {L L' : List (Box × Option Addr × Nat)} (h : SpanRows w L) (h' : SpanRows w L') : SpanRows w (L ++ L') := fun x hx => by
  rcases List.mem_append.1 hx with hx | hx
  · exact h x hx
  · exact h' x hx
theorem SpanRows.append {w w' : World} {base n : Nat} {v : Value} {xs : List Value} {L : List (Box × Option Addr × Nat)} (h : SpanRows w L) (hown : w.ownsRow base 97 2 v n xs) (hg : w.grownBy w' v.ownBlock) : SpanRows w' L :=
  fun x hx => (h x hx).append hown (by decide) hg

/-- A row of boxes of the call's own. -/
def BoxOwn (w : World) (base : Nat) (v : Value) (l : List Box) : Prop := ∃ L : List (Box × Option Addr × Nat), L.map (·.1) = l ∧ w.ownsRow base 97 2 v l.length (bxC L) ∧ SpanRows w L
theorem BoxOwn.nil (w : World) (base : Nat) : BoxOwn w base (.slice none 0 0) [] := ⟨[], rfl, World.ownsRow_nil _ _ _ _, fun x hx => by cases hx⟩
theorem BoxOwn.ext {w w' : World} {base : Nat} {v : Value} {l : List Box} (h : BoxOwn w base v l) (e : Ext w w') : BoxOwn w' base v l := by
  obtain ⟨L, h1, h2, h3⟩ := h
  exact ⟨L, h1, own_ext h2 e, h3.ext e⟩
theorem BoxOwn.mono {w : World} {base base' : Nat} {v : Value} {l : List Box} (h : BoxOwn w base v l) (hb : base' ≤ base) : BoxOwn w base' v l := by
  obtain ⟨L, h1, h2, h3⟩ := h
  exact ⟨L, h1, own_base h2 hb, h3⟩
theorem BoxOwn.form {w : World} {base : Nat} {v : Value} {l : List Box} (h : BoxOwn w base v l) : ∃ A c, v = .slice A l.length c := by
  obtain ⟨L, h1, h2, h3⟩ := h
  obtain ⟨A, c, hv, _⟩ := own_form h2
  exact ⟨A, c, hv⟩
theorem BoxOwn.get {w : World} {base c : Nat} {A : Option Addr} {l : List Box} (h : BoxOwn w base (.slice A l.length c) l) {k : Nat} (hk : k < l.length) :
    ∃ b off pA pc pts r, A = some ⟨b, off, none⟩ ∧ b < w.heap.size ∧ w.cell? ⟨b, off + k * 2, none⟩ = some (.slice pA pts.length pc) ∧ w.cell? ⟨b, off + k * 2 + 1, none⟩ = some (.int .i64 ((r : Nat) : Int)) ∧ RowAt w 35 2 pA pts.length pc (spanCells pts) ∧ Hid (l.getD k default = ⟨pts, r⟩) := by
  obtain ⟨L, h1, h2, h3⟩ := h
  obtain ⟨b, off, hA, hb, hc⟩ := (Sl.of_own h2).2 (by omega)
  have hk' : k < L.length := by rw [← List.length_map (f := (·.1)), h1]; exact hk
  obtain ⟨g1, g2⟩ := bxC_get L k hk'
  refine ⟨b, off, L[k].2.1, L[k].2.2, L[k].1.pts, L[k].1.right, hA, hb, hc _ _ g1, ?_, h3 _ (List.getElem_mem hk'), ?_⟩
  · rw [Nat.add_assoc]; exact hc _ _ g2
  · refine Lib.hid ?_
    rw [← h1]
    simp [List.getD, hk']

/-- The boxes so far. -/
def boxF (x : Judge) (l : List Judge) (k : Nat) (n : Int) (b : Box) (c : Int) : List Box := if cutOk x c b.pts then boxesM l (k + 1) n ⟨cutL x c b.pts, b.right ||| 1 <<< k⟩ else []
def boxK (x : Judge) (l : List Judge) (k : Nat) (n : Int) (b : Box) (m : Nat) : List Box := (if 0 < n then boxesM l (k + 1) (n - 1) b else []) ++ ((biases x).take m).flatMap (boxF x l k n b)
theorem boxK_succ (x : Judge) (l : List Judge) (k : Nat) (n : Int) (b : Box) (m : Nat) (h : m < (biases x).length) : boxK x l k n b (m + 1) = boxK x l k n b m ++ boxF x l k n b (x.lo + m) := by
  unfold boxK
  rw [List.take_succ_eq_append_getElem h, List.flatMap_append, List.append_assoc]
  congr 2
  simp [biases]
theorem boxK_full (x : Judge) (l : List Judge) (k : Nat) (n : Int) (b : Box) : boxK x l k n b (biases x).length = boxesM (x :: l) k n b := by
  unfold boxK
  rw [List.take_length]
  rfl
theorem boxF_len (x : Judge) (l : List Judge) (k : Nat) (n : Int) (b : Box) (c : Int) (h : ∀ x ∈ l, -3 ≤ x.lo ∧ x.hi ≤ 3) : (boxF x l k n b c).length ≤ 8 ^ l.length := by
  unfold boxF
  split
  · exact boxes_len l _ _ _ h
  · simp
theorem boxK_len (x : Judge) (l : List Judge) (k : Nat) (n : Int) (b : Box) (m : Nat) (hx : -3 ≤ x.lo ∧ x.hi ≤ 3) (h : ∀ x ∈ l, -3 ≤ x.lo ∧ x.hi ≤ 3) : (boxK x l k n b m).length ≤ 8 * 8 ^ l.length := by
  unfold boxK
  rw [List.length_append]
  have h1 : (if 0 < n then boxesM l (k + 1) (n - 1) b else []).length ≤ 8 ^ l.length := by
    split
    · exact boxes_len l _ _ _ h
    · simp
  have h2 := flatMap_len (boxF x l k n b) (8 ^ l.length) ((biases x).take m) (fun c _ => boxF_len x l k n b c h)
  have h3 : ((biases x).take m).length ≤ 7 := Nat.le_trans (List.length_take_le' _ _) (biases_len hx.1 hx.2)
  have h4 := Nat.mul_le_mul_right (8 ^ l.length) h3
  omega
theorem biases_count (x : Judge) : ((biases x).length : Int) = max 0 (x.hi + 1 - x.lo) := by
  unfold biases
  simp
  omega

/-- What boxes returns. -/
def BoxesPost (l : List Box) (w : World) (e : Ending) (w' : World) : Prop := Ext w w' ∧ ∃ v, e = .returned v ∧ BoxOwn w' w.heap.size v l
theorem bit_or (r k : Nat) (hr : r < 16) (hk : k < 4) : bits .or .i64 (r : Int) (wrap64 (2 ^ k)) = ((r ||| 1 <<< k : Nat) : Int) := by
  have h : ∀ r : Fin 16, ∀ k : Fin 4, bits .or .i64 (r.val : Int) (wrap64 (2 ^ k.val)) = ((r.val ||| 1 <<< k.val : Nat) : Int) := by decide +kernel
  exact h ⟨r, hr⟩ ⟨k, hk⟩
end Go.Proofs.Ytbpilgflejdhaaa
