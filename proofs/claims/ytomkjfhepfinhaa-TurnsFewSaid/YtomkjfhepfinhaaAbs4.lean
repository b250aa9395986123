/- The operations that change nothing: abstract and real agree. No program in sight. -/
import Derived.Test.YtomkjfhepfinhaaAbs3
namespace Go.Proofs.Ytomkjfhepfinhaa
open Go.RowKit
variable {F : Nat → Prop}

section
variable {P : Program} {g : GM} {h : List AB} {w : World} {r : AV} {h' : List AB}

theorem val_ld {t : TypeId} {v : AV} {u : Value} {m' : Option Nat} (hok : HOK F g w h) (ht : (m' = none ∧ tyAgg P t = some false) ∨ ∃ m, m' = some m ∧ tyAgg P t = some true ∧ tySz P t = some m) (hr : rep (MM F g h) w v g u)
    (H : aop (.ld m' (.k v)) (fun x => x.ev (fun _ => .bot)) h (fun a b => a = r ∧ b = h')) : ∃ u', (Instr.loadAt t u).run P w = .ok u' w ∧ rep (MM F g h) w r g u' ∧ h = h' := by
  rcases ht with ⟨rfl, ht⟩ | ⟨m, rfl, ht, hs⟩
  · simp only [aop, AX.ev] at H
    cases v <;> simp only at H
    case ptr d o =>
      obtain ⟨b, cap, hg, rfl⟩ := hr
      split at H
      · rename_i m c hd
        obtain ⟨ho, rfl, rfl⟩ := H
        obtain ⟨cs, t', hh, hm, hc⟩ := hok.box d m c b cap hd hg
        obtain ⟨x, hx, _, hxr⟩ := hc o ho
        exact ⟨x, by simp only [Instr.loadAt, Instr.sureAddr, Sem.run_bind, Sem.run_pure, Result.andThen_ok]; exact run_loadVar_one ht (cell_of_heap hh hx), hxr, rfl⟩
      · exact H.elim
    case rp d sz k o =>
      obtain ⟨b, cap, hg, rfl⟩ := hr
      split at H
      · rename_i n sz' c hd
        obtain ⟨hk, ho, rfl, rfl, rfl⟩ := H
        obtain ⟨_, _, cs, t', hh, hm, hc⟩ := hok.row d n _ c b cap hd hg
        obtain ⟨x, hx, _, hxr⟩ := hc k hk o ho
        exact ⟨x, by simp only [Instr.loadAt, Instr.sureAddr, Sem.run_bind, Sem.run_pure, Result.andThen_ok]; exact run_loadVar_one ht (cell_of_heap hh hx), rep_up (g0_le g) hxr, rfl⟩
      · exact H.elim
    case ip m c o =>
      obtain ⟨b, off, rfl, hb, hn, hc⟩ := hr
      obtain ⟨ho, rfl, rfl⟩ := H
      obtain ⟨x, hx, _, hxr⟩ := hc o ho
      exact ⟨x, by simp only [Instr.loadAt, Instr.sureAddr, Sem.run_bind, Sem.run_pure, Result.andThen_ok]; exact run_loadVar_one ht hx, rep_up (g0_le g) hxr, rfl⟩
  · simp only [aop, AX.ev] at H
    cases v <;> simp only at H
    case ptr d o =>
      obtain ⟨b, cap, hg, rfl⟩ := hr
      split at H
      · rename_i m1 c hd
        obtain ⟨ho, rfl, rfl⟩ := H
        obtain ⟨cs, t', hh, hm, hc⟩ := hok.box d m1 c b cap hd hg
        obtain ⟨f, hf⟩ := choose_fun (fun i (hi : i < m) => hc (o + i) (by omega))
        refine ⟨_, ?_, rep_cells f (fun i hi => by rw [tab_get hi]; exact (hf i hi).2), rfl⟩
        simp only [Instr.loadAt, Instr.sureAddr, Sem.run_bind, Sem.run_pure, Result.andThen_ok]
        exact run_loadVar_agg f ht hs (fun i hi => cell_of_heap hh (hf i hi).1)
      · exact H.elim
    case rp d sz k o =>
      obtain ⟨b, cap, hg, rfl⟩ := hr
      split at H
      · rename_i n sz' c hd
        obtain ⟨hk, ho, rfl, rfl, rfl⟩ := H
        obtain ⟨_, _, cs, t', hh, hm, hc⟩ := hok.row d n _ c b cap hd hg
        obtain ⟨f, hf⟩ := choose_fun (fun i (hi : i < m) => hc k hk (o + i) (by omega))
        refine ⟨_, ?_, rep_cells f (fun i hi => by rw [tab_get hi]; exact ⟨(hf i hi).2.1, rep_up (g0_le g) (hf i hi).2.2⟩), rfl⟩
        simp only [Instr.loadAt, Instr.sureAddr, Sem.run_bind, Sem.run_pure, Result.andThen_ok]
        exact run_loadVar_agg f ht hs (fun i hi => by rw [Nat.add_assoc]; exact cell_of_heap hh (hf i hi).1)
      · exact H.elim
    case ip m1 c o =>
      obtain ⟨b, off, rfl, hb, hn, hc⟩ := hr
      obtain ⟨ho, rfl, rfl⟩ := H
      obtain ⟨f, hf⟩ := choose_fun (fun i (hi : i < m) => hc (o + i) (by omega))
      refine ⟨_, ?_, rep_cells f (fun i hi => by rw [tab_get hi]; exact ⟨(hf i hi).2.1, rep_up (g0_le g) (hf i hi).2.2⟩), rfl⟩
      simp only [Instr.loadAt, Instr.sureAddr, Sem.run_bind, Sem.run_pure, Result.andThen_ok]
      exact run_loadVar_agg f ht hs (fun i hi => by rw [Nat.add_assoc]; exact (hf i hi).1)

theorem val_fa {s : TypeId} {f : Nat} {fd : Field} {n : Nat} {v : AV} {u : Value} (hf : tyFld P s f = some fd) (hs : tySz P fd.type = some (n + 1)) (hr : rep (MM F g h) w v g u)
    (H : aop (.fa (.k v) fd.offset) (fun x => x.ev (fun _ => .bot)) h (fun a b => a = r ∧ b = h')) : ∃ u', (Instr.fieldAt s u f).run P w = .ok u' w ∧ rep (MM F g h) w r g u' ∧ h = h' := by
  have hd : ∃ fs, P.underlying s = some (.struct fs) ∧ fs[f]? = some fd := by
    unfold tyFld at hf
    split at hf
    · rename_i fs hfs; exact ⟨fs, hfs, hf⟩
    · cases hf
  obtain ⟨fs, hu, hfs⟩ := hd
  have key : ∀ b o, (Instr.fieldAt s (.pointer (some ⟨b, o, none⟩)) f).run P w = .ok (.pointer (some ⟨b, o + fd.offset, none⟩)) w := fun b o => by
    simp only [Instr.fieldAt, Sem.run_bind, run_underlying hu, Result.andThen_ok, hfs, Instr.sureAddr, Sem.run_pure, fieldPlace, tySz_run hs, Nat.add_one_ne_zero, if_false, Addr.add_lit]
  simp only [aop, AX.ev] at H
  cases v <;> simp only at H
  case ptr d o =>
    obtain ⟨b, cap, hg, rfl⟩ := hr
    obtain ⟨rfl, rfl⟩ := H
    exact ⟨_, key b o, ⟨b, cap, hg, rfl⟩, rfl⟩
  case rp d sz k o =>
    obtain ⟨b, cap, hg, rfl⟩ := hr
    obtain ⟨rfl, rfl⟩ := H
    exact ⟨_, key b _, ⟨b, cap, hg, by rw [Nat.add_assoc]⟩, rfl⟩
  case ip m c o =>
    obtain ⟨b, off, rfl, hb, hn, hc⟩ := hr
    obtain ⟨rfl, rfl⟩ := H
    exact ⟨_, key b _, ⟨b, off, by rw [Nat.add_assoc], hb, hn, hc⟩, rfl⟩

theorem val_ia {t e : TypeId} {i : TypeInfo} {v j : AV} {u x : Value} (ht : tyEl P t = some (e, i)) (hr : rep (MM F g h) w v g u) (hj : rep (MM F g h) w j g x)
    (H : aop (.ia i.size (.k v) (.k j)) (fun x => x.ev (fun _ => .bot)) h (fun a b => a = r ∧ b = h')) : ∃ u', (Instr.indexAt t u x).run P w = .ok u' w ∧ rep (MM F g h) w r g u' ∧ h = h' := by
  obtain ⟨hu, hi⟩ := tyEl_some ht
  have hsz : ∀ w : World, (sizeOf e).run P w = .ok i.size w := fun w => tySz_run (by simp [tySz, hi]) w
  simp only [aop, AX.ev] at H
  cases j <;> cases v <;> simp only at H
  case int.sl k n z ee m sz' c =>
    obtain rfl := hj
    obtain ⟨rfl, hs0, h0, hlt, rfl, rfl⟩ := H
    obtain ⟨A, cap, rfl, _, _, _, _, hc⟩ := hr
    obtain ⟨b, off, u0, rfl, hb, hn, _⟩ := hc n.toNat (by omega) 0 hs0
    refine ⟨.pointer (some ⟨b, off + n.toNat * i.size, none⟩), ?_, ⟨b, off + n.toNat * i.size, rfl, hb, hn, fun o ho => ?_⟩, rfl⟩
    · simp [Instr.indexAt, asIntOf, run_underlying hu, h0, hlt, hsz, Addr.add_lit]
    · obtain ⟨b', off', u1, hA, _, _, hcell, h1, hr1⟩ := hc n.toNat (by omega) o ho
      injection hA with hA
      injection hA with e1 e2
      subst e1; subst e2
      exact ⟨u1, hcell, h1, hr1⟩
  case int.own k n d m =>
    obtain rfl := hj
    obtain ⟨h0, hlt, rfl, rfl⟩ := H
    obtain ⟨b, cap, hg, rfl, _⟩ := hr
    refine ⟨.pointer (some ⟨b, n.toNat * i.size, none⟩), ?_, ⟨b, cap, hg, rfl⟩, rfl⟩
    simp [Instr.indexAt, asIntOf, run_underlying hu, h0, hlt, hsz, Addr.add_lit]
  case int.osl k n d sz' lo m =>
    obtain rfl := hj
    obtain ⟨rfl, h0, hlt, rfl, rfl⟩ := H
    obtain ⟨b, cap, p, hg, rfl, hcap, hp⟩ := hr
    have hp' := hp (by omega)
    subst hp'
    refine ⟨.pointer (some ⟨b, (lo + n.toNat) * i.size + 0, none⟩), ?_, ⟨b, cap, hg, rfl⟩, rfl⟩
    simp [Instr.indexAt, asIntOf, run_underlying hu, h0, hlt, hsz, Addr.add_lit, Nat.add_mul]

theorem val_fld {s : TypeId} {f : Nat} {fd : Field} {v : AV} {u : Value} {m' : Option Nat} (hf : tyFld P s f = some fd) (ht : (m' = none ∧ tyAgg P fd.type = some false) ∨ ∃ m, m' = some m ∧ tyAgg P fd.type = some true ∧ tySz P fd.type = some m) (hr : rep (MM F g h) w v g u)
    (H : aop (.fld (.k v) fd.offset m') (fun x => x.ev (fun _ => .bot)) h (fun a b => a = r ∧ b = h')) : ∃ u', (Instr.field s u f).run P w = .ok u' w ∧ rep (MM F g h) w r g u' ∧ h = h' := by
  have hd : ∃ fs, P.underlying s = some (.struct fs) ∧ fs[f]? = some fd := by
    unfold tyFld at hf
    split at hf
    · rename_i fs hfs; exact ⟨fs, hfs, hf⟩
    · cases hf
  obtain ⟨fs, hu, hfs⟩ := hd
  simp only [aop, AX.ev] at H
  cases v <;> simp only at H
  case agg n c =>
    obtain ⟨cs, rfl, hm, hc⟩ := hr
    rcases ht with ⟨rfl, ht⟩ | ⟨m, rfl, ht, hs⟩
    · simp only at H
      obtain ⟨ho, rfl, rfl⟩ := H
      obtain ⟨x, hx, _, hxr⟩ := hc _ ho
      refine ⟨x, ?_, hxr, rfl⟩
      simp only [Instr.field, Sem.run_bind, run_underlying hu, Result.andThen_ok, hfs, asAgg, Sem.run_pure, part, tyAgg_run ht, Bool.false_eq_true, if_false, hx]
    · simp only at H
      obtain ⟨ho, rfl, rfl⟩ := H
      refine ⟨.agg (cs.extract fd.offset (fd.offset + m)), ?_, ⟨_, rfl, by simp; omega, fun i hi => ?_⟩, rfl⟩
      · simp only [Instr.field, Sem.run_bind, run_underlying hu, Result.andThen_ok, hfs, asAgg, Sem.run_pure, part, tyAgg_run ht, if_true, tySz_run hs]
      · obtain ⟨x, hx, h1, hxr⟩ := hc (fd.offset + i) (by omega)
        refine ⟨x, ?_, h1, by rw [tab_get hi]; exact hxr⟩
        rw [Array.getElem?_extract]
        rw [if_pos (by omega)]
        exact hx

theorem val_slc {t e : TypeId} {i : TypeInfo} {v : AV} {u : Value} {lo hi : Option AV} {ulo uhi : Option Value} (ht : tyEl P t = some (e, i)) (hr : rep (MM F g h) w v g u)
    (hlo : match lo, ulo with | none, none => True | some a, some x => rep (MM F g h) w a g x | _, _ => False) (hhi : match hi, uhi with | none, none => True | some a, some x => rep (MM F g h) w a g x | _, _ => False)
    (H : aop (.slc i.size (.k v) (lo.map .k) (hi.map .k)) (fun x => x.ev (fun _ => .bot)) h (fun a b => a = r ∧ b = h')) : ∃ u', (Instr.sliceAt t u ulo uhi none).run P w = .ok u' w ∧ rep (MM F g h) w r g u' ∧ h = h' := by
  obtain ⟨hu, hi'⟩ := tyEl_some ht
  have hsz : ∀ w : World, (sizeOf e).run P w = .ok i.size w := fun w => tySz_run (by simp [tySz, hi']) w
  simp only [aop, AX.ev] at H
  cases v <;> simp only at H
  case own d n =>
    obtain ⟨b, cap, hg, rfl, hncap⟩ := hr
    have run : ∀ (xh : Option Value) (hb : Nat), (Instr.sliceBounds true n cap none xh none).run P w = .ok (0, hb, cap) w → (Instr.sliceAt t (.slice (some ⟨b, 0, none⟩) n cap) none xh none).run P w = .ok (.slice (some ⟨b, 0, none⟩) hb cap) w := by
      intro xh hb hs
      simp [Instr.sliceAt, Instr.slice, run_underlying hu, hs, hsz, Addr.add]
    cases lo <;> cases hi <;> cases ulo <;> cases uhi <;> simp only at hlo hhi <;> simp only [Option.map_none, Option.map_some] at H
    · obtain ⟨rfl, rfl⟩ := H
      exact ⟨_, run none n (by simp [Instr.sliceBounds]), ⟨b, cap, hg, rfl, hncap⟩, rfl⟩
    · rename_i j x
      cases j <;> simp only at H
      rename_i k j
      obtain ⟨h0, h1, rfl, rfl⟩ := H
      obtain rfl := hhi
      have h1' : j ≤ (cap : Int) := by omega
      exact ⟨_, run (some (.int k j)) j.toNat (by simp [Instr.sliceBounds, Instr.sliceBound, asIntOf, h0, h1']), ⟨b, cap, hg, rfl, by omega⟩, rfl⟩
    · rename_i j x
      cases j <;> simp only at H
      rename_i k j
      obtain ⟨h0, h1, rfl, rfl⟩ := H
      obtain rfl := hlo
      have hs : (Instr.sliceBounds true n cap (some (.int k j)) none none).run P w = .ok (j.toNat, n, cap) w := by simp [Instr.sliceBounds, Instr.sliceBound, asIntOf, h0, h1]
      have hrun : (Instr.sliceAt t (.slice (some ⟨b, 0, none⟩) n cap) (some (.int k j)) none none).run P w = .ok (.slice (some ⟨b, if cap = j.toNat then 0 else j.toNat * i.size, none⟩) (n - j.toNat) (cap - j.toNat)) w := by
        simp only [Instr.sliceAt, Instr.slice, Sem.run_bind, Sem.run_pure, Result.andThen_ok, run_underlying hu, hs, hsz]
        by_cases e1 : cap = j.toNat <;> simp [e1, Addr.add_lit]
      exact ⟨_, hrun, ⟨b, cap, _, hg, rfl, by omega, fun h => by rw [if_neg (by omega)]⟩, rfl⟩
  case osl d sz' l0 n =>
    obtain ⟨rfl, H⟩ := H
    obtain ⟨b, cap, p, hg, rfl, hncap, hp⟩ := hr
    cases lo <;> cases hi <;> cases ulo <;> cases uhi <;> simp only at hlo hhi <;> simp only [Option.map_none, Option.map_some] at H
    · rename_i j x
      cases j <;> simp only at H
      rename_i k j
      obtain ⟨h0, h1, rfl, rfl⟩ := H
      obtain rfl := hlo
      have hs : (Instr.sliceBounds true n (cap - l0) (some (.int k j)) none none).run P w = .ok (j.toNat, n, cap - l0) w := by simp [Instr.sliceBounds, Instr.sliceBound, asIntOf, h0, h1]
      have hrun : (Instr.sliceAt t (.slice (some ⟨b, p, none⟩) n (cap - l0)) (some (.int k j)) none none).run P w = .ok (.slice (some ⟨b, if cap - l0 = j.toNat then p else p + j.toNat * i.size, none⟩) (n - j.toNat) (cap - l0 - j.toNat)) w := by
        simp only [Instr.sliceAt, Instr.slice, Sem.run_bind, Sem.run_pure, Result.andThen_ok, run_underlying hu, hs, hsz]
        by_cases e1 : cap - l0 = j.toNat <;> simp [e1, Addr.add_lit]
      refine ⟨_, hrun, ⟨b, cap, _, hg, by rw [Nat.sub_sub], by omega, fun h => ?_⟩, rfl⟩
      rw [if_neg (by omega), hp (by omega), Nat.add_mul]
  case sl z ee n sz' c =>
    obtain ⟨rfl, H⟩ := H
    obtain ⟨A, cap, rfl, hz, hnil, _, hcap, hc⟩ := hr
    have main : ∀ l hb : Nat, l ≤ hb → hb ≤ n → rep (MM F g h) w (.sl z false (hb - l) i.size (fun k => c (k + l))) g (.slice (if cap = l then A else A.map (·.add (l * i.size))) (hb - l) (cap - l)) := by
      intro l hb h1 h2
      refine ⟨_, _, rfl, ?_, ?_, fun h => (by cases h), by omega, fun k hk o ho => ?_⟩
      · rw [hz]; split <;> cases A <;> simp
      · intro hA
        have hA' : A = none := by
          split at hA
          · exact hA
          · cases A <;> simp at hA ⊢
        have := hnil hA'
        omega
      · obtain ⟨b, off, x, hA, hb', hn, hcell, h1c, hr1⟩ := hc (k + l) (by omega) o ho
        subst hA
        by_cases hcl : cap = l
        · omega
        · refine ⟨b, off + l * i.size, x, ?_, hb', hn, ?_, h1c, hr1⟩
          · simp [hcl, Addr.add_lit]
          · rw [← hcell, Nat.add_mul]; congr 2; omega
    have zero : rep (MM F g h) w (.sl z false n i.size c) g (.slice A n cap) := ⟨A, cap, rfl, hz, hnil, fun h => (by cases h), hcap, hc⟩
    have run : ∀ (xl xh : Option Value) (l hb : Nat), (Instr.sliceBounds true n cap xl xh none).run P w = .ok (l, hb, cap) w → (Instr.sliceAt t (.slice A n cap) xl xh none).run P w = .ok (.slice (if cap = l then A else A.map (·.add (l * i.size))) (hb - l) (cap - l)) w := by
      intro xl xh l hb hs
      simp [Instr.sliceAt, Instr.slice, run_underlying hu, hs, hsz]
    cases lo <;> cases hi <;> cases ulo <;> cases uhi <;> simp only at hlo hhi <;> simp only [Option.map_none, Option.map_some] at H
    · obtain ⟨rfl, rfl⟩ := H
      have hm := main 0 n (by omega) (by omega)
      refine ⟨_, run none none 0 n (by simp [Instr.sliceBounds]), ?_, rfl⟩
      simpa using hm
    · rename_i b x
      cases b <;> simp only at H
      rename_i k b
      obtain ⟨h0, h1, rfl, rfl⟩ := H
      obtain rfl := hhi
      have hm := main 0 b.toNat (by omega) (by omega)
      have h1' : b ≤ (cap : Int) := by omega
      refine ⟨_, run none (some (.int k b)) 0 b.toNat (by simp [Instr.sliceBounds, Instr.sliceBound, asIntOf, h0, h1']), ?_, rfl⟩
      simpa using hm
    · rename_i a x
      cases a <;> simp only at H
      rename_i k a
      obtain ⟨h0, h1, rfl, rfl⟩ := H
      obtain rfl := hlo
      exact ⟨_, run (some (.int k a)) none a.toNat n (by simp [Instr.sliceBounds, Instr.sliceBound, asIntOf, h0, h1]), main a.toNat n (by omega) (by omega), rfl⟩
    · rename_i a b x y
      obtain ⟨k, a, rfl⟩ : ∃ k a', a = .int k a' := by
        cases a with
        | int k' b' => exact ⟨_, _, rfl⟩
        | _ => exact H.elim
      obtain ⟨k', b, rfl⟩ : ∃ k' b', b = .int k' b' := by
        cases b with
        | int k' b' => exact ⟨_, _, rfl⟩
        | _ => exact H.elim
      obtain ⟨h0, h1, h2, rfl, rfl⟩ := H
      obtain rfl := hlo
      obtain rfl := hhi
      have h1' : b ≤ (cap : Int) := by omega
      have h2' : (0 : Int) ≤ b := by omega
      have h3' : a ≤ max b 0 := by omega
      exact ⟨_, run (some (.int k a)) (some (.int k' b)) a.toNat b.toNat (by simp [Instr.sliceBounds, Instr.sliceBound, asIntOf, h0, h1', h2', h3']), main a.toNat b.toNat (by omega) (by omega), rfl⟩
end
end Go.Proofs.Ytomkjfhepfinhaa
