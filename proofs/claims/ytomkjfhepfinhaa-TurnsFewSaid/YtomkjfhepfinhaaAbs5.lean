/- The arithmetic, comparing and other plain operations: abstract and real agree. No program in sight. -/
import Derived.Test.YtomkjfhepfinhaaAbs3
import Derived.Laws.StructEq
namespace Go.Proofs.Ytomkjfhepfinhaa
open Go.RowKit
variable {F : Nat → Prop}

section
variable {P : Program} {g : GM} {h : List AB} {w : World} {r : AV} {h' : List AB}

theorem run_eqGuard_int (op : BinOp) (t : TypeId) (x y : Operand) (k k' : IntKind) (a b : Int) (w : World) : (eqGuard op t x y (.int k a) (.int k' b)).run P w = .ok () w := by
  unfold eqGuard
  cases op <;> rfl
theorem val_bin {op : BinOp} {t : TypeId} {x y : Operand} {v j : AV} {u u2 : Value} (hr : rep (MM F g h) w v g u) (hj : rep (MM F g h) w j g u2)
    (H : abin op v j (fun a => a = r)) : ∃ u', (do eqGuard op t x y u u2; binOp op t u u2 : Sem Value).run P w = .ok u' w ∧ rep (MM F g h) w r g u' := by
  cases v <;> cases j <;> simp only [abin] at H
  case int.int k a k' b =>
    obtain rfl := hr
    obtain rfl := hj
    simp only [Sem.run_bind, run_eqGuard_int, Result.andThen_ok]
    cases op <;> simp only [ishift, ibin] at H
    case shl =>
      obtain ⟨h0, rfl⟩ := H
      refine ⟨_, ?_, rfl⟩
      have h0' : ¬ b < 0 := by omega
      simp [binOp, Op.shift, h0']
    case shr =>
      obtain ⟨h0, rfl⟩ := H
      refine ⟨_, ?_, rfl⟩
      have h0' : ¬ b < 0 := by omega
      simp [binOp, Op.shift, h0']
    case quo =>
      obtain ⟨rfl, h0, rfl⟩ := H
      refine ⟨_, ?_, rfl⟩
      simp [binOp, Op.intDiv, h0]
    case rem =>
      obtain ⟨rfl, h0, rfl⟩ := H
      refine ⟨_, ?_, rfl⟩
      simp [binOp, Op.intDiv, h0]
    case eql =>
      obtain ⟨rfl, rfl⟩ := H
      exact ⟨_, by simp [binOp, Op.intCmp]; rfl, rfl⟩
    case neq =>
      obtain ⟨rfl, rfl⟩ := H
      exact ⟨_, by simp [binOp, Op.intCmp]; rfl, rfl⟩
    all_goals
      obtain ⟨rfl, rfl⟩ := H
      refine ⟨_, ?_, rfl⟩
      simp [binOp, Op.intArith, Op.intBits, Op.intCmp]
theorem val_binb {neg : Bool} {t : TypeId} {x y : Operand} {a b : Bool} (ht : P.underlying t = some .bool) :
    (do eqGuard (if neg then .neq else .eql) t x y (.bool a) (.bool b); binOp (if neg then .neq else .eql) t (.bool a) (.bool b) : Sem Value).run P w = .ok (.bool (if neg then !(a == b) else (a == b))) w := by
  have hg : ∀ op, (eqGuard op t x y (.bool a) (.bool b)).run P w = .ok () w := fun op => by
    unfold eqGuard
    cases op <;> rfl
  simp only [Sem.run_bind, hg, Result.andThen_ok]
  cases neg
  · simp only [Bool.false_eq_true, if_false]; exact run_eql_bool w t a b ht
  · simp only [if_true]; exact run_neq_bool w t a b ht

theorem equal_nil {t : TypeId} {d : TypeDesc} {v j : AV} {u u2 : Value} {q : Bool} {tag : Nat} (ht : P.underlying t = some d) (hd : nilT d = some tag) (hr : rep (MM F g h) w v g u) (hj : rep (MM F g h) w j g u2) (H : aeqz tag v j (fun b => b = q)) (n : Nat) :
    (Op.equalIn (n + 1) t u u2).run P w = .ok q w := by
  unfold aeqz at H
  split at H
  · obtain rfl := H
    obtain ⟨A, cap, rfl, hz, _⟩ := hr
    obtain ⟨B, cap', rfl, hz', _⟩ := hj
    have hA := hz.1 rfl
    subst hA
    cases d <;> simp [nilT] at hd
    simp only [Op.equalIn, Sem.run_bind, run_underlying ht, Result.andThen_ok]
    cases B <;> simp_all
  · obtain rfl := H
    obtain ⟨A, cap, rfl, hz, _⟩ := hr
    obtain ⟨B, cap', rfl, hz', _⟩ := hj
    have hB := hz'.1 rfl
    subst hB
    cases d <;> simp [nilT] at hd
    simp only [Op.equalIn, Sem.run_bind, run_underlying ht, Result.andThen_ok]
    cases A <;> simp_all
  · obtain rfl := H
    obtain ⟨b, cap, _, rfl, _⟩ := hr
    obtain ⟨B, cap', rfl, hz', _⟩ := hj
    have hB := hz'.1 rfl
    subst hB
    cases d <;> simp [nilT] at hd
    simp [Op.equalIn, run_underlying ht]
  · obtain rfl := H
    obtain rfl := hr
    obtain rfl := hj
    cases d <;> simp [nilT] at hd
    simp [Op.equalIn, run_underlying ht]
  · obtain rfl := H
    obtain ⟨b, cap, _, rfl⟩ := hr
    obtain rfl := hj
    cases d <;> simp [nilT] at hd
    simp [Op.equalIn, run_underlying ht]
  · obtain rfl := H
    obtain ⟨b, off, rfl, _⟩ := hr
    obtain rfl := hj
    cases d <;> simp [nilT] at hd
    simp [Op.equalIn, run_underlying ht]
  · obtain rfl := H
    obtain rfl := hr
    obtain rfl := hj
    cases d <;> simp [nilT] at hd
    simp [Op.equalIn, run_underlying ht]
  · obtain rfl := H
    obtain ⟨cs, rfl, _⟩ := hr
    obtain rfl := hj
    cases d <;> simp [nilT] at hd
    simp [Op.equalIn, run_underlying ht]
  · exact H.elim
theorem val_eqz {t : TypeId} {d : TypeDesc} {v j : AV} {u u2 : Value} {q : Bool} {tag : Nat} {neg : Bool} {x y : Operand} (ht : P.underlying t = some d) (hd : nilT d = some tag) (hr : rep (MM F g h) w v g u) (hj : rep (MM F g h) w j g u2) (H : aeqz tag v j (fun b => b = q)) :
    (do eqGuard (if neg then .neq else .eql) t x y u u2; binOp (if neg then .neq else .eql) t u u2 : Sem Value).run P w = .ok (.bool (if neg then !q else q)) w := by
  have he : (Op.equal t u u2).run P w = .ok q w := by
    unfold Op.equal Op.maxDepth
    exact equal_nil ht hd hr hj H 9999
  have hs : (∃ a n c b m d, u = .slice a n c ∧ u2 = .slice b m d) ∨ (∃ a b, u = .pointer a ∧ u2 = .pointer b) ∨ (u = .nilFunc ∧ u2 = .nilFunc) ∨ (∃ f cs, u = .func f #[] cs ∧ u2 = .nilFunc) := by
    unfold aeqz at H
    split at H
    · obtain ⟨A, cap, rfl, _⟩ := hr
      obtain ⟨B, cap', rfl, _⟩ := hj
      exact .inl ⟨_, _, _, _, _, _, rfl, rfl⟩
    · obtain ⟨A, cap, rfl, _⟩ := hr
      obtain ⟨B, cap', rfl, _⟩ := hj
      exact .inl ⟨_, _, _, _, _, _, rfl, rfl⟩
    · obtain ⟨b, cap, _, rfl, _⟩ := hr
      obtain ⟨B, cap', rfl, _⟩ := hj
      exact .inl ⟨_, _, _, _, _, _, rfl, rfl⟩
    · obtain rfl := hr
      obtain rfl := hj
      exact .inr (.inl ⟨_, _, rfl, rfl⟩)
    · obtain ⟨b, cap, _, rfl⟩ := hr
      obtain rfl := hj
      exact .inr (.inl ⟨_, _, rfl, rfl⟩)
    · obtain ⟨b, off, rfl, _⟩ := hr
      obtain rfl := hj
      exact .inr (.inl ⟨_, _, rfl, rfl⟩)
    · obtain rfl := hr
      obtain rfl := hj
      exact .inr (.inr (.inl ⟨rfl, rfl⟩))
    · obtain ⟨cs, rfl, _⟩ := hr
      obtain rfl := hj
      exact .inr (.inr (.inr ⟨_, _, rfl, rfl⟩))
    · exact H.elim
  have hg : (eqGuard (if neg then .neq else .eql) t x y u u2).run P w = .ok () w := by
    rcases hs with ⟨a, n, c, b, m, dd, rfl, rfl⟩ | ⟨a, b, rfl, rfl⟩ | ⟨rfl, rfl⟩ | ⟨f, cs, rfl, rfl⟩ <;> cases neg <;> rfl
  simp only [Sem.run_bind, hg, Result.andThen_ok]
  rcases hs with ⟨a, n, c, b, m, dd, rfl, rfl⟩ | ⟨a, b, rfl, rfl⟩ | ⟨rfl, rfl⟩ | ⟨f, cs, rfl, rfl⟩ <;> cases neg <;> simp [binOp, he]
theorem val_eqa {t : TypeId} {fs : Array Field} {m : Nat} {c c' : Nat → AV} {u u2 : Value} {q neg : Bool} {x y : Operand} (ht : P.underlying t = some (.struct fs)) (hf : flatS P t fs = true) (hm : m = fs.size) (hr : rep (MM F g h) w (.agg m c) g u) (hj : rep (MM F g h) w (.agg m c') g u2)
    (H : eqcs m c c' m (fun b => b = q)) : (do eqGuard (if neg then .neq else .eql) t x y u u2; binOp (if neg then .neq else .eql) t u u2 : Sem Value).run P w = .ok (.bool (if neg then !q else q)) w := by
  obtain ⟨xs, rfl, hxs, hx⟩ := hr
  obtain ⟨ys, rfl, hys, hy⟩ := hj
  subst hm
  simp only [flatS, Bool.and_eq_true, Bool.not_eq_true', List.all_eq_true, List.mem_range] at hf
  obtain ⟨⟨hs, hg⟩, hf⟩ := hf
  have hfo : P.fieldsOf t = fs := by simp [Program.fieldsOf, ht]
  have key : ∀ (k : Nat) (q : Bool), k ≤ fs.size → eqcs fs.size c c' k (fun b => b = q) → ∀ D, (Op.eqFields (D + 1) xs ys (fs.toList.drop (fs.size - k))).run P w = .ok q w := by
    intro k
    induction k with
    | zero =>
      intro q _ hq D
      simp only [eqcs] at hq
      subst hq
      rw [Nat.sub_zero, List.drop_eq_nil_of_le (by simp)]
      simp [Op.eqFields]
    | succ k ih =>
      intro q hk hq D
      obtain ⟨j, hj⟩ : ∃ j, j = fs.size - (k + 1) := ⟨_, rfl⟩
      have hjl : j < fs.size := by omega
      simp only [eqcs, ← hj] at hq
      have hd : fs.toList.drop (fs.size - (k + 1)) = fs[j] :: fs.toList.drop (fs.size - k) := by
        rw [← hj, List.drop_eq_getElem_cons (by simpa using hjl), Array.getElem_toList, show j + 1 = fs.size - k by omega]
      have hfj := hf j hjl
      rw [Array.getElem?_eq_getElem hjl] at hfj
      simp only [Bool.and_eq_true, beq_iff_eq, bne_iff_ne, ne_eq] at hfj
      obtain ⟨⟨⟨h1, h2⟩, h3⟩, h4⟩ := hfj
      obtain ⟨a, ha, _, hra⟩ := hx j hjl
      obtain ⟨b, hb, _, hrb⟩ := hy j hjl
      have pa : (part fs[j].type xs fs[j].offset).run P w = .ok a w := by simp [part, Sem.run_bind, tyAgg_run h3, h1, ha]
      have pb : (part fs[j].type ys fs[j].offset).run P w = .ok b w := by simp [part, Sem.run_bind, tyAgg_run h3, h1, hb]
      obtain ⟨q1, hq1, k1⟩ := eqc_one hq
      obtain ⟨q2, hq2, k2⟩ := eqcs_one hq1
      have he : (Op.equalIn (D + 1) fs[j].type a b).run P w = .ok q1 w := by
        have hq1' := k1 (fun b => b = q1) rfl
        clear hq k1
        unfold eqc at hq1'
        split at hq1'
        · rename_i k a' k' b' e1 e2
          rw [e1] at hra
          rw [e2] at hrb
          obtain rfl := hra
          obtain rfl := hrb
          obtain ⟨rfl, rfl⟩ := hq1'
          split at h4
          · rename_i kk hu
            simp only [Op.equalIn, Sem.run_bind, run_underlying hu, Result.andThen_ok, if_true, Sem.run_pure]
            congr 1
          · cases h4
        · exact hq1'.elim
      have hrest := ih q2 (by omega) (k2 _ rfl) D
      rw [hd]
      subst hq2
      simp only [Op.eqFields, ne_eq, h2, not_false_eq_true, if_true, Sem.run_bind, pa, pb, Result.andThen_ok, he]
      cases q1
      · simp
      · simpa using hrest
  have he : (Op.equal t (.agg xs) (.agg ys)).run P w = .ok q w := by
    unfold Op.equal Op.maxDepth
    rw [run_equalIn_struct w 9999 t xs ys (by rw [hfo]; exact ht) hs, hfo]
    have := key fs.size q (Nat.le_refl _) H 9998
    rw [Nat.sub_self] at this
    simpa using this
  have hgd : (eqGuard (if neg then .neq else .eql) t x y (.agg xs) (.agg ys)).run P w = .ok () w := by
    cases neg <;> simp [eqGuard, Sem.run_bind, hg]
  simp only [Sem.run_bind, hgd, Result.andThen_ok]
  cases neg <;> simp [binOp, he]
end
end Go.Proofs.Ytomkjfhepfinhaa
