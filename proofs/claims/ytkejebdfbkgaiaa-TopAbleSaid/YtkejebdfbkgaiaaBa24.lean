/- Exams: the plain law of grades and of shown truths / Exams: the chapter's example, reckoned. / Exams: what Grade says of a possible truth (plain). / Teams: the program's every and Check (printed by gen_tei.py). -/
import Derived.Test.YtkejebdfbkgaiaaBa23
import Derived.Test.YtkejebdfbkgaiaaBa22
import Derived.Test.YtkejebdfbkgaiaaBa17
set_option linter.unusedSimpArgs false
set_option linter.unusedVariables false
/-! Exams: the plain law of grades and of shown truths. No program in sight. -/
namespace Go.Proofs.Ytkejebdfbkgaiaa
open Go.RowKit

theorem gradeP_le (l : List Int) (r : Int) : gradeP l r ≤ l.length := by
  unfold gradeP
  exact (List.takeWhile_sublist _).length_le
theorem gradeP_mono (l : List Int) {a b : Int} (h : a ≤ b) : gradeP l a ≤ gradeP l b := by
  unfold gradeP
  induction l with
  | nil => simp
  | cons x l ih =>
    simp only [List.takeWhile_cons]
    by_cases hx : x ≤ a
    · have hxb : x ≤ b := by omega
      simp [hx, hxb, ih]
    · simp [hx]
theorem gradeP_count {l : List Int} (h : l.Pairwise (· < ·)) (r : Int) : gradeP l r = l.countP (fun g => decide (g ≤ r)) := by
  unfold gradeP
  induction l with
  | nil => rfl
  | cons x l ih =>
    obtain ⟨h1, h2⟩ := List.pairwise_cons.1 h
    simp only [List.takeWhile_cons, List.countP_cons]
    by_cases hx : x ≤ r
    · simp [hx, ih h2]
    · have : l.countP (fun g => decide (g ≤ r)) = 0 := by
        rw [List.countP_eq_zero]
        intro y hy
        have := h1 y hy
        simp only [decide_eq_true_eq]
        omega
      simp [hx, this]
theorem grades_pairwise {p : Paper} (hV : Valid p) : p.grades.Pairwise (· < ·) := by
  have key : ∀ j, j < p.grades.length → ∀ i, i < j → p.grades.getD i 0 < p.grades.getD j 0 := by
    intro j
    induction j with
    | zero => intro _ i hi; omega
    | succ j ih =>
      intro hj i hi
      have h1 := (hV.gr (j + 1) hj).2.2
      rcases h1 with h1 | h1
      · omega
      · rw [Nat.add_sub_cancel] at h1
        by_cases e : i = j
        · subst e; exact h1
        · have := ih (by omega) i (by omega); omega
  rw [List.pairwise_iff_getElem]
  intro i j hi hj hij
  have := key j hj i hij
  simpa [List.getD, hi, hj] using this
theorem gradeP_gradeOf {p : Paper} (hV : Valid p) (r : Int) : (gradeP p.grades r : Int) = gradeOf p r := by
  unfold gradeOf gradeTo
  rw [List.take_length, gradeP_count (grades_pairwise hV)]
theorem take_pad {p : Paper} {t : List Int} (h : t.length = p.items.length) : (padT t).take p.items.length = t := by
  unfold padT
  rw [← h, List.take_left]
/-- A truth that Show gives. -/
theorem show_some {p : Paper} (hV : Valid p) {g : Int} {v : List Int} (h : getS (openM p).shown g = some v) :
    isPossible p (v.take p.items.length) = true ∧ gradeOf p (resultOf p (v.take p.items.length)) = g ∧ (gradeP p.grades (openM p).res.1 : Int) ≤ g ∧ g ≤ (gradeP p.grades (openM p).res.2 : Int) := by
  obtain ⟨t, ht, hg, rfl⟩ := (open_shown hV g).1 v h
  rw [take_pad (isTruth_iff.1 (possible_truth ht)).1]
  have hr := open_res_in hV ht
  have m1 := gradeP_mono p.grades hr.1
  have m2 := gradeP_mono p.grades hr.2
  exact ⟨ht, by rw [← gradeP_gradeOf hV]; exact hg, by omega, by omega⟩
theorem show_none {p : Paper} (hV : Valid p) (hp : (openM p).poss = true) {g : Int} (h : getS (openM p).shown g = none) : g ≠ (gradeP p.grades (openM p).res.1 : Int) ∧ g ≠ (gradeP p.grades (openM p).res.2 : Int) := by
  obtain ⟨⟨t, ht, h1⟩, ⟨u, hu, h2⟩⟩ := open_res_ex hV hp
  have a := (open_shown hV g).2 h t ht
  have b := (open_shown hV g).2 h u hu
  rw [h1] at a
  rw [h2] at b
  exact ⟨fun e => a e.symm, fun e => b e.symm⟩
end Go.Proofs.Ytkejebdfbkgaiaa
/-! Exams: the plain law of Next. No program in sight. -/
namespace Go.Proofs.Ytkejebdfbkgaiaa
open Go.RowKit

theorem mostTo_ge {S : Surv} {i : Nat} {err : Int} : ∀ (k m : Nat), m < k → markW S i err (-err + m) ≤ mostTo S i err k := by
  intro k
  induction k with
  | zero => intro m h; omega
  | succ k ih =>
    intro m h
    rw [mostTo]
    by_cases e : m = k
    · subst e; omega
    · have := ih m (by omega); omega
theorem mostTo_le {S : Surv} {i : Nat} {err b : Int} (hb : 0 ≤ b) : ∀ (k : Nat), (∀ m, m < k → markW S i err (-err + m) ≤ b) → mostTo S i err k ≤ b := by
  intro k
  induction k with
  | zero => intro _; simpa [mostTo] using hb
  | succ k ih =>
    intro h
    rw [mostTo]
    have h1 := ih (fun m hm => h m (by omega))
    have h2 := h k (by omega)
    omega
theorem mostM_ge {S : Surv} {i : Nat} {err mark : Int} (h1 : -err ≤ mark) (h2 : mark ≤ 30 + err) : markW S i err mark ≤ mostM S i err := by
  have := mostTo_ge (S := S) (i := i) (err := err) (31 + 2 * err).toNat (mark + err).toNat (by omega)
  rw [show -err + ((mark + err).toNat : Int) = mark by omega] at this
  exact this
theorem mostM_bd {S : Surv} (h : SmallS S) {i : Nat} (hi : i < 4) {err : Int} (he : 0 ≤ err ∧ err ≤ 5) : 0 ≤ mostM S i err ∧ mostM S i err ≤ 2147483648 := mostTo_bd h hi he _ (by omega)
theorem bestE_spec {S : Surv} (h : SmallS S) {err : Int} (he : 0 ≤ err ∧ err ≤ 5) : ∀ k : Nat, 1 ≤ k → k ≤ 4 →
    ∃ i : Nat, i < k ∧ bestTo S err k = ((i : Int), mostM S i err) ∧ (∀ j, j < k → mostM S i err ≤ mostM S j err) ∧ ∀ j, j < i → mostM S i err < mostM S j err := by
  intro k
  induction k with
  | zero => intro h; omega
  | succ k ih =>
    intro _ hk
    by_cases h0 : k = 0
    · subst h0
      refine ⟨0, by omega, ?_, fun j hj => ?_, fun j hj => by omega⟩
      · simp [bestTo]
      · obtain rfl : j = 0 := by omega
        exact Int.le_refl _
    · obtain ⟨i, hi, hb, h1, h2⟩ := ih (by omega) (by omega)
      have hbd := mostM_bd h (i := i) (by omega) he
      rw [bestTo, hb]
      simp only
      by_cases hlt : mostM S k err < mostM S i err
      · rw [if_pos (.inr hlt)]
        refine ⟨k, by omega, rfl, fun j hj => ?_, fun j hj => ?_⟩
        · by_cases e : j = k
          · subst e; exact Int.le_refl _
          · have := h1 j (by omega); omega
        · have := h1 j (by omega); omega
      · rw [if_neg (by omega)]
        refine ⟨i, by omega, rfl, fun j hj => ?_, h2⟩
        by_cases e : j = k
        · subst e; omega
        · exact h1 j (by omega)
theorem leftTo_le {S : Surv} {i : Nat} (n0 : Nat) : ∀ (k m : Nat), m < k → (leftTo S i n0 k).1 ≤ (S.it i (n0 + m)).1 ∧ (S.it i (n0 + m)).2 ≤ (leftTo S i n0 k).2 := by
  intro k
  induction k with
  | zero => intro m h; omega
  | succ k ih =>
    intro m h
    rw [leftTo]
    simp only [addS]
    by_cases e : m = k
    · subst e; omega
    · have := ih m (by omega); omega
theorem leftTo_in {S : Surv} {i : Nat} (n0 : Nat) {a b : Int} (ha : a ≤ 1073741824) (hb : -1073741824 ≤ b) (h : ∀ n, a ≤ (S.it i n).1 ∧ (S.it i n).2 ≤ b) : ∀ k, a ≤ (leftTo S i n0 k).1 ∧ (leftTo S i n0 k).2 ≤ b := by
  intro k
  induction k with
  | zero => simpa [leftTo, noSpan] using ⟨ha, hb⟩
  | succ k ih =>
    have := h (n0 + k)
    rw [leftTo]
    simp only [addS]
    omega

section
variable {p : Paper} (hV : Valid p)
include hV
theorem it_in {i : Nat} (hi : i < p.items.length) (hp : (openM p).poss = true) (n : Nat) : (openM p).res.1 ≤ ((openM p).it i n).1 ∧ ((openM p).it i n).2 ≤ (openM p).res.2 := by
  obtain ⟨⟨t1, ht1, hr1⟩, ⟨t2, ht2, hr2⟩⟩ := open_res_ex hV hp
  have b1 := result_bd hV (possible_truth ht1)
  have b2 := result_bd hV (possible_truth ht2)
  obtain ⟨_, h1, h2⟩ := open_it_ex (n := n) hV hi
  constructor
  · rcases h1 with h1 | ⟨t, hp, _, h1⟩
    · omega
    · have := open_res_in hV hp; omega
  · rcases h2 with h2 | ⟨t, hp, _, h2⟩
    · omega
    · have := open_res_in hV hp; omega
theorem mostM_width {i : Nat} (hi : i < p.items.length) (hp : (openM p).poss = true) {err : Int} (_he : 0 ≤ err ∧ err ≤ 5) : mostM (openM p) i err ≤ (openM p).res.2 - (openM p).res.1 := by
  obtain ⟨t, ht⟩ := (open_poss hV).1 hp
  have h0 := open_res_in hV ht
  have hb := result_bd hV (possible_truth ht)
  obtain ⟨⟨t1, ht1, hr1⟩, ⟨t2, ht2, hr2⟩⟩ := open_res_ex hV hp
  have b1 := result_bd hV (possible_truth ht1)
  have b2 := result_bd hV (possible_truth ht2)
  refine mostTo_le (by omega) _ fun m _ => ?_
  have := leftTo_in (S := openM p) (i := i) (max 0 (-err + (m : Int) - err)).toNat (by omega) (by omega) (it_in hV hi hp) (min 30 (-err + (m : Int) + err) + 1 - max 0 (-err + (m : Int) - err)).toNat
  unfold markW widthM
  omega
/-- Two truths that agree with a mark differ by at most the width. -/
theorem mark_law {i : Nat} (hi : i < p.items.length) {err mark : Int} (he : 0 ≤ err ∧ err ≤ 5) {t u : List Int} (ht : isPossible p t = true) (hu : isPossible p u = true)
    (h1 : t.getD i 0 - mark ≤ err) (h2 : mark - t.getD i 0 ≤ err) (h3 : u.getD i 0 - mark ≤ err) (h4 : mark - u.getD i 0 ≤ err) : resultOf p t - resultOf p u ≤ mostM (openM p) i err := by
  have tt := isTruth_iff.1 (possible_truth ht)
  have tu := isTruth_iff.1 (possible_truth hu)
  have a1 := tt.2 i (by omega)
  have a2 := tu.2 i (by omega)
  have a3 := hV.it i hi
  have g1 := open_it_in hV hi ht
  have g2 := open_it_in hV hi hu
  have hm := mostM_ge (S := openM p) (i := i) (err := err) (mark := mark) (by omega) (by omega)
  generalize hn0 : (max 0 (mark - err)).toNat = n0
  generalize hcnt : (min 30 (mark + err) + 1 - max 0 (mark - err)).toNat = cnt
  have l1 := leftTo_le (S := openM p) (i := i) n0 cnt ((t.getD i 0).toNat - n0) (by omega)
  have l2 := leftTo_le (S := openM p) (i := i) n0 cnt ((u.getD i 0).toNat - n0) (by omega)
  rw [show n0 + ((t.getD i 0).toNat - n0) = (t.getD i 0).toNat by omega] at l1
  rw [show n0 + ((u.getD i 0).toNat - n0) = (u.getD i 0).toNat by omega] at l2
  unfold markW at hm
  rw [hn0, hcnt] at hm
  unfold widthM at hm
  omega
end
end Go.Proofs.Ytkejebdfbkgaiaa
/-! Exams: the plain law of what is sure. -/
namespace Go.Proofs.Ytkejebdfbkgaiaa
theorem ptTo_in (S : Surv) (i n : Nat) (h : (S.it i n).1 ≤ (S.it i n).2) : ∀ k, n < k → (ptTo S i k).1 ≤ (n : Int) ∧ (n : Int) ≤ (ptTo S i k).2
  | 0, hk => absurd hk (by omega)
  | k + 1, hk => by
    unfold ptTo
    by_cases hn : n = k
    · subst hn
      rw [if_pos h]
      simp only [addS]
      omega
    · have := ptTo_in S i n h k (by omega)
      split
      · simp only [addS]
        omega
      · exact this
theorem points_in {p : Paper} (hV : Valid p) {t : List Int} (h : isPossible p t = true) (k : Nat) (hk : k < t.length) :
    wi (t.getD k 0) ((ptsTo (openM p) p.items.length).getD k (0, 0)).1 ((ptsTo (openM p) p.items.length).getD k (0, 0)).2 = true := by
  have ht := isTruth_iff.1 (possible_truth h)
  have hi : k < p.items.length := by omega
  have h1 := ht.2 k hk
  have h2 := hV.it k hi
  have h3 := open_it_in hV hi h
  rw [ptsTo_get _ _ _ hi]
  have h4 := ptTo_in (openM p) k (t.getD k 0).toNat (by omega) 31 (by omega)
  refine wi_of ?_
  omega
theorem blame_in {R : List Bool} {n : Int} {k : Nat} (h : n ∈ blameTo R k) : ∃ j : Nat, n = j ∧ j < k ∧ R.getD j false = false := by
  unfold blameTo at h
  obtain ⟨j, hj, rfl⟩ := List.mem_map.1 h
  rw [List.mem_filter, List.mem_range] at hj
  refine ⟨j, rfl, hj.1, ?_⟩
  have := hj.2
  cases hq : R.getD j false
  · rfl
  · rw [hq] at this; cases this
/-- A judge of Blame is right in no possible truth. -/
theorem blame_not_right {p : Paper} (hV : Valid p) {t : List Int} (h : isPossible p t = true) (j : Nat) (hj : j < p.judges.length) (hb : (j : Int) ∈ blameTo (openM p).right p.judges.length) : isRight (p.judges.getD j default) t = false := by
  obtain ⟨j', h1, _, h3⟩ := blame_in hb
  have hjj : j = j' := by omega
  subst hjj
  cases hq : isRight (p.judges.getD j default) t
  · rfl
  · have := (open_right hV hj).2 ⟨t, h, hq⟩
    rw [h3] at this
    cases this
end Go.Proofs.Ytkejebdfbkgaiaa

namespace Go.Proofs.Ytkejebdfbkgaiaa
open Go.RowKit
def exP : Paper := ⟨[⟨2, 10⟩, ⟨1, 20⟩], [⟨0, 1, 1, [7, 15]⟩, ⟨-1, 0, 0, [6, 13]⟩, ⟨0, 0, 1, [3, 14]⟩], 1, [20, 30]⟩
set_option maxRecDepth 100000 in
theorem ex_range : rangeM exP = ((25, 28), 0) := by decide +kernel
set_option maxRecDepth 100000 in
theorem ex_blame : blameM exP = ([2], 0) := by decide +kernel
set_option maxRecDepth 100000 in
theorem ex_known : knownE exP (wi 1 0 5) = 0 := by decide +kernel
set_option maxRecDepth 100000 in
theorem ex_next : bestTo (openM exP) 1 exP.items.length = (0, 3) := by decide +kernel
end Go.Proofs.Ytkejebdfbkgaiaa

namespace Go.Proofs.Ytkejebdfbkgaiaa

theorem known_true' {p:Paper} (hv:validB p = true):knownE p true = (if (openM p).poss then 0 else 3):=by simp [knownE,hv]
theorem grade_facts {p:Paper} {t:List Int} (hv:validB p = true) (hp:isPossible p t = true):(gradeMod p).2 = 0 ∧ 0 ≤ (gradeMod p).1.1 ∧ (gradeMod p).1.1 ≤ gradeOf p (resultOf p t) ∧ gradeOf p (resultOf p t) ≤ 5:=by
 have hV:=valid_of hv
 have hq:(openM p).poss = true:=(open_poss hV).2 ⟨t,hp⟩
 have hk:knownE p true = 0:=by rw [known_true' hv,hq];rfl
 have hr:=open_res_in hV hp
 have hm:=gradeP_mono p.grades hr.1
 have hg:=gradeP_gradeOf hV (resultOf p t)
 have hl:=gradeP_le p.grades (resultOf p t)
 have h5:=hV.gl
 have e:gradeMod p = ((((gradeP p.grades (openM p).res.1:Nat):Int),((gradeP p.grades (openM p).res.2:Nat):Int)),0):=by
  unfold gradeMod;rw [if_pos hk]
 rw [e,← hg]
 refine ⟨rfl,?_,?_,?_⟩
 ·show (0:Int) ≤ (gradeP p.grades (openM p).res.1:Nat);omega
 ·show ((gradeP p.grades (openM p).res.1:Nat):Int) ≤ _;omega
 ·omega
theorem ex_grade : gradeMod exP = ((1,1),0):=by
 have h:=ex_range
 have hk:knownE exP true = 0:=ex_known
 unfold rangeM at h
 rw [if_pos hk] at h
 have hr:(openM exP).res = (25,28):=by injection h
 unfold gradeMod
 rw [if_pos hk,hr]
 rfl
end Go.Proofs.Ytkejebdfbkgaiaa

namespace Go.Proofs.Ytkejebdfbkgaiaa
open Go.RowKit

theorem Ln.boxP {σ:Nat → Nat → Prop} {Bp:Nat → Prop} {H:List AB} {d o m:Nat} {c c':Nat → AV} (h:Bp d) (hd:H[d]? = some (.box m c)) (hc:LnN σ Bp H m c c') (hp:((List.range m).all fun i=>(c' i).pureB) = true):Ln σ Bp H (.ptr d o) (.ip m c' o) :=
 Ln.pubp d o m c c' h hd hc.get fun i hi=>pureB_ok _ (by simp only [List.all_eq_true,List.mem_range] at hp;exact hp i hi)
/-- The first place from a place on at which something is so, or -1. -/
def idxP (n:Nat) (p:Nat → Bool):Nat → Nat → Int
 | 0,_=>-1
 | k + 1,i=>if p i then i else idxP n p k (i + 1)
theorem idxP_any {n:Nat} {p:Nat → Bool}:∀ {k i:Nat},(0 ≤ idxP n p k i) ↔ ∃ j,i ≤ j ∧ j < i + k ∧ p j = true
 | 0,i=>by simp only [idxP];constructor;(· intro h;omega);(· rintro ⟨j,h1,h2,_⟩;omega)
 | k + 1,i=>by
  simp only [idxP]
  split
  ·rename_i h;exact ⟨fun _=>⟨i,by omega,by omega,h⟩,fun _=>by omega⟩
  ·rename_i h
   rw [idxP_any]
   constructor
   ·rintro ⟨j,h1,h2,h3⟩;exact ⟨j,by omega,by omega,h3⟩
   ·rintro ⟨j,h1,h2,h3⟩
    rcases Nat.eq_or_lt_of_le h1 with e|e
    ·subst e;exact (h h3).elim
    ·exact ⟨j,e,by omega,h3⟩
theorem all_idx {α:Type} {q:α → Bool} {l:List α} (d:α):(!decide (0 ≤ idxP l.length (fun k=>!q (l.getD k d)) l.length 0)) = l.all q:=by
 rw [Bool.eq_iff_iff]
 simp only [Bool.not_eq_true',decide_eq_false_iff_not,idxP_any,List.all_eq_true]
 constructor
 ·intro h x hx
  obtain ⟨k,hk,rfl⟩:=List.getElem_of_mem hx
  cases hq:q l[k]
  ·exact (h ⟨k,by omega,by omega,by simp [List.getD,List.getElem?_eq_getElem hk,hq]⟩).elim
  ·rfl
 ·rintro h ⟨j,_,hj,h2⟩
  have hj:j < l.length:=by omega
  have:=h l[j] (List.getElem_mem hj)
  simp [List.getD,List.getElem?_eq_getElem hj,this] at h2
abbrev iFn (v:AV):AV:=.ip 1 (ofL [v]) 0
set_option maxHeartbeats 4000000
set_option maxRecDepth 100000
theorem ev1_int (z e:Bool) (G:FuncId) (l:List Int) (q:Int → Bool) (k:Nat) (hG:ACall Try.prog G (AI (l.getD k 0) :: []) [] (fun r h=>r = .bool (q (l.getD k 0)) ∧ h = [])):ACall Try.prog 70 [AI (l.getD k 0),iFn (.fn G 0 (ofL []))] [] (fun r h=>r = .bool (!q (l.getD k 0)) ∧ h = []):=by
 (refine fcall_of mixed Try.func70 rfl (by decide) (hs:={}) ?k (ac:=?ac) ?c (rs:=?rs) ?r ?l ?H;(case k=>kernel_rfl);(case c=>(conv=>(lhs;cbv)));(case r=>(conv=>(lhs;cbv)));(case l=>exact Nat.le_of_ble_eq_true rfl))
 (repeat' ((try conv=>whnf);first|(with_reducible first|refine wT ?_|refine wF ?_|(refine wI (fun hq=>?_) (fun hq=>?_) <;> try simp only [zA,zE,zD,zJ,zB,zI,wK,wL] at hq)|refine wA ?_|refine wB ?_|refine wC ?_|refine wD ?_|refine wE ?_)|((with_reducible refine wN ?_ ?_);focus exact needA)|(with_reducible refine wG ?_)|(refine FCall.pure (hG) ⟨Ln.sameB _ rfl,True.intro⟩ rfl ?_)|(with_reducible refine wP ?_)))
 all_goals (try conv=>whnf)
 (refine ⟨⟨_,[],[],Cut.nil _,Ln.sameB _ rfl,?_,rfl⟩⟩)
 rfl
theorem idx_int (z e:Bool) (G:FuncId) (l:List Int) (q:Int → Bool) (hl:l.length ≤ 1000) (hG:∀ k,k < l.length → ACall Try.prog G (AI (l.getD k 0) :: []) [] (fun r h=>r = .bool (q (l.getD k 0)) ∧ h = [])):ACall Try.prog 84 [aInts z e l,.fn 70 1 (ofL [iFn (.fn G 0 (ofL []))])] [] (fun r h=>r = AI (idxP l.length (fun k=>!q (l.getD k 0)) l.length 0) ∧ h = []):=by
 (refine fcall_of mixed Try.func84 rfl (by decide) (hs:={}) ?k (ac:=?ac) ?c (rs:=?rs) ?r ?l ?H;(case k=>kernel_rfl);(case c=>(conv=>(lhs;cbv)));(case r=>(conv=>(lhs;cbv)));(case l=>exact Nat.le_of_ble_eq_true rfl))
 (repeat' ((try conv=>whnf);first|(with_reducible first|refine wT ?_|refine wF ?_|(refine wI (fun hq=>?_) (fun hq=>?_) <;> try simp only [zA,zE,zD,zJ,zB,zI,wK,wL] at hq)|refine wA ?_|refine wB ?_|refine wC ?_|refine wD ?_|refine wE ?_)|((with_reducible refine wN ?_ ?_);focus exact needA)|(with_reducible refine wG ?_)|(with_reducible refine wP ?_)))
 all_goals (try conv=>whnf)
 refine FLoop.of (ACalls.mono _) (X:=Nat) (fun k=>[(0,aInts z e l),(1,.fn 70 1 (ofL [iFn (.fn G 0 (ofL []))])),(7,AI l.length),(8,AI k)]) (fun _=>[]) (fun k=>k ≤ l.length ∧ idxP l.length (fun k=>!q (l.getD k 0)) l.length 0 = idxP l.length (fun k=>!q (l.getD k 0)) (l.length - k) k) (fun k=>l.length - k) 0 ⟨⟨Nat.zero_le _,rfl⟩,[],Cut.A,allA⟩ ?_
 rintro k ⟨hk,hL⟩
 by_cases hlt:k < l.length
 ·obtain ⟨m,hm⟩:∃ m,l.length - k = m + 1:=⟨l.length - k - 1,by omega⟩
  rw [hm,idxP] at hL
  (repeat' ((try conv=>whnf);first|(with_reducible first|refine wT ?_|refine wF ?_|(refine wI (fun hq=>?_) (fun hq=>?_) <;> try simp only [zA,zE,zD,zJ,zB,zI,wK,wL] at hq)|refine wA ?_|refine wB ?_|refine wC ?_|refine wD ?_|refine wE ?_)|((with_reducible refine wN ?_ ?_);focus exact needA)|(with_reducible refine wG ?_)|(refine FCall.pure ((ev1_int z e G l q k (hG k hlt))) ⟨Ln.sameB _ rfl,Ln.sameB _ rfl,True.intro⟩ rfl ?_)|(with_reducible refine wP ?_)))
  all_goals (try conv=>whnf)
  ·(refine ⟨⟨_,[],[],Cut.nil _,Ln.sameB _ rfl,?_,rfl⟩⟩)
   rw [hL,if_pos (by simpa using hq)]
  ·(exact ⟨⟨(k + 1),⟨hlt,by rw [hL,if_neg (by simpa using hq),show l.length - (k + 1) = m by omega]⟩,by show _ < _;omega,[],Cut.A,allA⟩⟩)
 ·rw [show l.length - k = 0 by omega,idxP] at hL
  (repeat' ((try conv=>whnf);first|(with_reducible first|refine wT ?_|refine wF ?_|(refine wI (fun hq=>?_) (fun hq=>?_) <;> try simp only [zA,zE,zD,zJ,zB,zI,wK,wL] at hq)|refine wA ?_|refine wB ?_|refine wC ?_|refine wD ?_|refine wE ?_)|((with_reducible refine wN ?_ ?_);focus exact needA)|(with_reducible refine wG ?_)|(with_reducible refine wP ?_)))
  all_goals (try conv=>whnf)
  (refine ⟨⟨_,[],[],Cut.nil _,Ln.sameB _ rfl,?_,rfl⟩⟩)
  rw [hL]
theorem cont_int (z e:Bool) (G:FuncId) (l:List Int) (q:Int → Bool) (hl:l.length ≤ 1000) (hG:∀ k,k < l.length → ACall Try.prog G (AI (l.getD k 0) :: []) [] (fun r h=>r = .bool (q (l.getD k 0)) ∧ h = [])):ACall Try.prog 69 [aInts z e l,.fn 70 1 (ofL [iFn (.fn G 0 (ofL []))])] [] (fun r h=>r = .bool (decide (0 ≤ idxP l.length (fun k=>!q (l.getD k 0)) l.length 0)) ∧ h = []):=by
 (refine fcall_of mixed Try.func69 rfl (by decide) (hs:={}) ?k (ac:=?ac) ?c (rs:=?rs) ?r ?l ?H;(case k=>kernel_rfl);(case c=>(conv=>(lhs;cbv)));(case r=>(conv=>(lhs;cbv)));(case l=>exact Nat.le_of_ble_eq_true rfl))
 (repeat' ((try conv=>whnf);first|(with_reducible first|refine wT ?_|refine wF ?_|(refine wI (fun hq=>?_) (fun hq=>?_) <;> try simp only [zA,zE,zD,zJ,zB,zI,wK,wL] at hq)|refine wA ?_|refine wB ?_|refine wC ?_|refine wD ?_|refine wE ?_)|((with_reducible refine wN ?_ ?_);focus exact needA)|(with_reducible refine wG ?_)|(refine FCall.pure ((idx_int z e G l q hl hG)) ⟨Ln.sameB _ rfl,Ln.sameB _ rfl,True.intro⟩ rfl ?_)|(with_reducible refine wP ?_)))
 all_goals (try conv=>whnf)
 all_goals (refine ⟨⟨_,[],[],Cut.nil _,Ln.sameB _ rfl,?_,rfl⟩⟩)
 all_goals rfl
theorem every_int (z e:Bool) (G:FuncId) (l:List Int) (q:Int → Bool) (hl:l.length ≤ 1000) (hG:∀ k,k < l.length → ACall Try.prog G (AI (l.getD k 0) :: []) [] (fun r h=>r = .bool (q (l.getD k 0)) ∧ h = [])):ACall Try.prog 49 [aInts z e l,(.fn G 0 (ofL []))] [] (fun r h=>r = .bool (l.all q) ∧ h = []):=by
 (refine fcall_of mixed Try.func49 rfl (by decide) (hs:={ pub:=[1] }) ?k (ac:=?ac) ?c (rs:=?rs) ?r ?l ?H;(case k=>kernel_rfl);(case c=>(conv=>(lhs;cbv)));(case r=>(conv=>(lhs;cbv)));(case l=>exact Nat.le_of_ble_eq_true rfl))
 (repeat' ((try conv=>whnf);first|(with_reducible first|refine wT ?_|refine wF ?_|(refine wI (fun hq=>?_) (fun hq=>?_) <;> try simp only [zA,zE,zD,zJ,zB,zI,wK,wL] at hq)|refine wA ?_|refine wB ?_|refine wC ?_|refine wD ?_|refine wE ?_)|((with_reducible refine wN ?_ ?_);focus exact needA)|(with_reducible refine wG ?_)|(with_reducible refine wP ?_)))
 all_goals (try conv=>whnf)
 refine FWk.of [(0,aInts z e l),(3,iFn (.fn G 0 (ofL [])))] [] [] (Cut.nil _) ⟨Ln.A,Ln.boxP (m:=1) (goneB rfl) rfl ⟨True.intro,Ln.sameB _ rfl⟩ rfl,True.intro⟩ ?_
 (repeat' ((try conv=>whnf);first|(with_reducible first|refine wT ?_|refine wF ?_|(refine wI (fun hq=>?_) (fun hq=>?_) <;> try simp only [zA,zE,zD,zJ,zB,zI,wK,wL] at hq)|refine wA ?_|refine wB ?_|refine wC ?_|refine wD ?_|refine wE ?_)|((with_reducible refine wN ?_ ?_);focus exact needA)|(with_reducible refine wG ?_)|(refine FCall.pure ((cont_int z e G l q hl hG)) ⟨Ln.sameB _ rfl,Ln.sameB _ rfl,True.intro⟩ rfl ?_)|(with_reducible refine wP ?_)))
 all_goals (try conv=>whnf)
 (refine ⟨⟨_,[],[],Cut.nil _,Ln.sameB _ rfl,?_,rfl⟩⟩)
 rw [all_idx]
theorem ev1_per (z e:Bool) (pf:Nat → PFl) (G:FuncId) (f:CFl) (c:Crew) (l:List Person) (q:Person → Bool) (k:Nat) (hG:ACall Try.prog G (.agg 6 (cPerson (pf k) (l.getD k ps0)) :: [.ip 3 (cCrew f c) 0,iFn (.fn 46 0 (ofL [])),iFn (.fn 47 0 (ofL []))]) [] (fun r h=>r = .bool (q (l.getD k ps0)) ∧ h = [])):ACall Try.prog 72 [.agg 6 (cPerson (pf k) (l.getD k ps0)),iFn (.fn G 3 (ofL [.ip 3 (cCrew f c) 0,iFn (.fn 46 0 (ofL [])),iFn (.fn 47 0 (ofL []))]))] [] (fun r h=>r = .bool (!q (l.getD k ps0)) ∧ h = []):=by
 (refine fcall_of mixed Try.func72 rfl (by decide) (hs:={}) ?k (ac:=?ac) ?c (rs:=?rs) ?r ?l ?H;(case k=>kernel_rfl);(case c=>(conv=>(lhs;cbv)));(case r=>(conv=>(lhs;cbv)));(case l=>exact Nat.le_of_ble_eq_true rfl))
 (repeat' ((try conv=>whnf);first|(with_reducible first|refine wT ?_|refine wF ?_|(refine wI (fun hq=>?_) (fun hq=>?_) <;> try simp only [zA,zE,zD,zJ,zB,zI,wK,wL] at hq)|refine wA ?_|refine wB ?_|refine wC ?_|refine wD ?_|refine wE ?_)|((with_reducible refine wN ?_ ?_);focus exact needA)|(with_reducible refine wG ?_)|(refine FCall.pure (hG) ⟨Ln.sameB _ rfl,Ln.sameB _ rfl,Ln.sameB _ rfl,Ln.sameB _ rfl,True.intro⟩ rfl ?_)|(with_reducible refine wP ?_)))
 all_goals (try conv=>whnf)
 (refine ⟨⟨_,[],[],Cut.nil _,Ln.sameB _ rfl,?_,rfl⟩⟩)
 rfl
theorem idx_per (z e:Bool) (pf:Nat → PFl) (G:FuncId) (f:CFl) (c:Crew) (l:List Person) (q:Person → Bool) (hl:l.length ≤ 1000) (hG:∀ k,k < l.length → ACall Try.prog G (.agg 6 (cPerson (pf k) (l.getD k ps0)) :: [.ip 3 (cCrew f c) 0,iFn (.fn 46 0 (ofL [])),iFn (.fn 47 0 (ofL []))]) [] (fun r h=>r = .bool (q (l.getD k ps0)) ∧ h = [])):ACall Try.prog 85 [aPeople z e pf l,.fn 72 1 (ofL [iFn (.fn G 3 (ofL [.ip 3 (cCrew f c) 0,iFn (.fn 46 0 (ofL [])),iFn (.fn 47 0 (ofL []))]))])] [] (fun r h=>r = AI (idxP l.length (fun k=>!q (l.getD k ps0)) l.length 0) ∧ h = []):=by
 (refine fcall_of mixed Try.func85 rfl (by decide) (hs:={}) ?k (ac:=?ac) ?c (rs:=?rs) ?r ?l ?H;(case k=>kernel_rfl);(case c=>(conv=>(lhs;cbv)));(case r=>(conv=>(lhs;cbv)));(case l=>exact Nat.le_of_ble_eq_true rfl))
 (repeat' ((try conv=>whnf);first|(with_reducible first|refine wT ?_|refine wF ?_|(refine wI (fun hq=>?_) (fun hq=>?_) <;> try simp only [zA,zE,zD,zJ,zB,zI,wK,wL] at hq)|refine wA ?_|refine wB ?_|refine wC ?_|refine wD ?_|refine wE ?_)|((with_reducible refine wN ?_ ?_);focus exact needA)|(with_reducible refine wG ?_)|(with_reducible refine wP ?_)))
 all_goals (try conv=>whnf)
 refine FLoop.of (ACalls.mono _) (X:=Nat) (fun k=>[(0,aPeople z e pf l),(1,.fn 72 1 (ofL [iFn (.fn G 3 (ofL [.ip 3 (cCrew f c) 0,iFn (.fn 46 0 (ofL [])),iFn (.fn 47 0 (ofL []))]))])),(7,AI l.length),(8,AI k)]) (fun _=>[]) (fun k=>k ≤ l.length ∧ idxP l.length (fun k=>!q (l.getD k ps0)) l.length 0 = idxP l.length (fun k=>!q (l.getD k ps0)) (l.length - k) k) (fun k=>l.length - k) 0 ⟨⟨Nat.zero_le _,rfl⟩,[],Cut.A,allA⟩ ?_
 rintro k ⟨hk,hL⟩
 by_cases hlt:k < l.length
 ·obtain ⟨m,hm⟩:∃ m,l.length - k = m + 1:=⟨l.length - k - 1,by omega⟩
  rw [hm,idxP] at hL
  (repeat' ((try conv=>whnf);first|(with_reducible first|refine wT ?_|refine wF ?_|(refine wI (fun hq=>?_) (fun hq=>?_) <;> try simp only [zA,zE,zD,zJ,zB,zI,wK,wL] at hq)|refine wA ?_|refine wB ?_|refine wC ?_|refine wD ?_|refine wE ?_)|((with_reducible refine wN ?_ ?_);focus exact needA)|(with_reducible refine wG ?_)|(refine FCall.pure ((ev1_per z e pf G f c l q k (hG k hlt))) ⟨Ln.sameB _ rfl,Ln.sameB _ rfl,True.intro⟩ rfl ?_)|(with_reducible refine wP ?_)))
  all_goals (try conv=>whnf)
  ·(refine ⟨⟨_,[],[],Cut.nil _,Ln.sameB _ rfl,?_,rfl⟩⟩)
   rw [hL,if_pos (by simpa using hq)]
  ·(exact ⟨⟨(k + 1),⟨hlt,by rw [hL,if_neg (by simpa using hq),show l.length - (k + 1) = m by omega]⟩,by show _ < _;omega,[],Cut.A,allA⟩⟩)
 ·rw [show l.length - k = 0 by omega,idxP] at hL
  (repeat' ((try conv=>whnf);first|(with_reducible first|refine wT ?_|refine wF ?_|(refine wI (fun hq=>?_) (fun hq=>?_) <;> try simp only [zA,zE,zD,zJ,zB,zI,wK,wL] at hq)|refine wA ?_|refine wB ?_|refine wC ?_|refine wD ?_|refine wE ?_)|((with_reducible refine wN ?_ ?_);focus exact needA)|(with_reducible refine wG ?_)|(with_reducible refine wP ?_)))
  all_goals (try conv=>whnf)
  (refine ⟨⟨_,[],[],Cut.nil _,Ln.sameB _ rfl,?_,rfl⟩⟩)
  rw [hL]
theorem cont_per (z e:Bool) (pf:Nat → PFl) (G:FuncId) (f:CFl) (c:Crew) (l:List Person) (q:Person → Bool) (hl:l.length ≤ 1000) (hG:∀ k,k < l.length → ACall Try.prog G (.agg 6 (cPerson (pf k) (l.getD k ps0)) :: [.ip 3 (cCrew f c) 0,iFn (.fn 46 0 (ofL [])),iFn (.fn 47 0 (ofL []))]) [] (fun r h=>r = .bool (q (l.getD k ps0)) ∧ h = [])):ACall Try.prog 71 [aPeople z e pf l,.fn 72 1 (ofL [iFn (.fn G 3 (ofL [.ip 3 (cCrew f c) 0,iFn (.fn 46 0 (ofL [])),iFn (.fn 47 0 (ofL []))]))])] [] (fun r h=>r = .bool (decide (0 ≤ idxP l.length (fun k=>!q (l.getD k ps0)) l.length 0)) ∧ h = []):=by
 (refine fcall_of mixed Try.func71 rfl (by decide) (hs:={}) ?k (ac:=?ac) ?c (rs:=?rs) ?r ?l ?H;(case k=>kernel_rfl);(case c=>(conv=>(lhs;cbv)));(case r=>(conv=>(lhs;cbv)));(case l=>exact Nat.le_of_ble_eq_true rfl))
 (repeat' ((try conv=>whnf);first|(with_reducible first|refine wT ?_|refine wF ?_|(refine wI (fun hq=>?_) (fun hq=>?_) <;> try simp only [zA,zE,zD,zJ,zB,zI,wK,wL] at hq)|refine wA ?_|refine wB ?_|refine wC ?_|refine wD ?_|refine wE ?_)|((with_reducible refine wN ?_ ?_);focus exact needA)|(with_reducible refine wG ?_)|(refine FCall.pure ((idx_per z e pf G f c l q hl hG)) ⟨Ln.sameB _ rfl,Ln.sameB _ rfl,True.intro⟩ rfl ?_)|(with_reducible refine wP ?_)))
 all_goals (try conv=>whnf)
 all_goals (refine ⟨⟨_,[],[],Cut.nil _,Ln.sameB _ rfl,?_,rfl⟩⟩)
 all_goals rfl
theorem every_per (z e:Bool) (pf:Nat → PFl) (G:FuncId) (f:CFl) (c:Crew) (l:List Person) (q:Person → Bool) (hl:l.length ≤ 1000) (hG:∀ k,k < l.length → ACall Try.prog G (.agg 6 (cPerson (pf k) (l.getD k ps0)) :: [.ip 3 (cCrew f c) 0,iFn (.fn 46 0 (ofL [])),iFn (.fn 47 0 (ofL []))]) [] (fun r h=>r = .bool (q (l.getD k ps0)) ∧ h = [])):ACall Try.prog 52 [aPeople z e pf l,(.fn G 3 (ofL [.ip 3 (cCrew f c) 0,iFn (.fn 46 0 (ofL [])),iFn (.fn 47 0 (ofL []))]))] [] (fun r h=>r = .bool (l.all q) ∧ h = []):=by
 (refine fcall_of mixed Try.func52 rfl (by decide) (hs:={ pub:=[1] }) ?k (ac:=?ac) ?c (rs:=?rs) ?r ?l ?H;(case k=>kernel_rfl);(case c=>(conv=>(lhs;cbv)));(case r=>(conv=>(lhs;cbv)));(case l=>exact Nat.le_of_ble_eq_true rfl))
 (repeat' ((try conv=>whnf);first|(with_reducible first|refine wT ?_|refine wF ?_|(refine wI (fun hq=>?_) (fun hq=>?_) <;> try simp only [zA,zE,zD,zJ,zB,zI,wK,wL] at hq)|refine wA ?_|refine wB ?_|refine wC ?_|refine wD ?_|refine wE ?_)|((with_reducible refine wN ?_ ?_);focus exact needA)|(with_reducible refine wG ?_)|(with_reducible refine wP ?_)))
 all_goals (try conv=>whnf)
 refine FWk.of [(0,aPeople z e pf l),(3,iFn (.fn G 3 (ofL [.ip 3 (cCrew f c) 0,iFn (.fn 46 0 (ofL [])),iFn (.fn 47 0 (ofL []))])))] [] [] (Cut.nil _) ⟨Ln.A,Ln.boxP (m:=1) (goneB rfl) rfl ⟨True.intro,Ln.sameB _ rfl⟩ rfl,True.intro⟩ ?_
 (repeat' ((try conv=>whnf);first|(with_reducible first|refine wT ?_|refine wF ?_|(refine wI (fun hq=>?_) (fun hq=>?_) <;> try simp only [zA,zE,zD,zJ,zB,zI,wK,wL] at hq)|refine wA ?_|refine wB ?_|refine wC ?_|refine wD ?_|refine wE ?_)|((with_reducible refine wN ?_ ?_);focus exact needA)|(with_reducible refine wG ?_)|(refine FCall.pure ((cont_per z e pf G f c l q hl hG)) ⟨Ln.sameB _ rfl,Ln.sameB _ rfl,True.intro⟩ rfl ?_)|(with_reducible refine wP ?_)))
 all_goals (try conv=>whnf)
 (refine ⟨⟨_,[],[],Cut.nil _,Ln.sameB _ rfl,?_,rfl⟩⟩)
 rw [all_idx]
theorem ev1_law (z e:Bool) (G:FuncId) (l:List LawT) (q:LawT → Bool) (k:Nat) (hG:ACall Try.prog G (.agg 3 (cLaw (l.getD k lw0)) :: []) [] (fun r h=>r = .bool (q (l.getD k lw0)) ∧ h = [])):ACall Try.prog 74 [.agg 3 (cLaw (l.getD k lw0)),iFn (.fn G 0 (ofL []))] [] (fun r h=>r = .bool (!q (l.getD k lw0)) ∧ h = []):=by
 (refine fcall_of mixed Try.func74 rfl (by decide) (hs:={}) ?k (ac:=?ac) ?c (rs:=?rs) ?r ?l ?H;(case k=>kernel_rfl);(case c=>(conv=>(lhs;cbv)));(case r=>(conv=>(lhs;cbv)));(case l=>exact Nat.le_of_ble_eq_true rfl))
 (repeat' ((try conv=>whnf);first|(with_reducible first|refine wT ?_|refine wF ?_|(refine wI (fun hq=>?_) (fun hq=>?_) <;> try simp only [zA,zE,zD,zJ,zB,zI,wK,wL] at hq)|refine wA ?_|refine wB ?_|refine wC ?_|refine wD ?_|refine wE ?_)|((with_reducible refine wN ?_ ?_);focus exact needA)|(with_reducible refine wG ?_)|(refine FCall.pure (hG) ⟨Ln.sameB _ rfl,True.intro⟩ rfl ?_)|(with_reducible refine wP ?_)))
 all_goals (try conv=>whnf)
 (refine ⟨⟨_,[],[],Cut.nil _,Ln.sameB _ rfl,?_,rfl⟩⟩)
 rfl
theorem idx_law (z e:Bool) (G:FuncId) (l:List LawT) (q:LawT → Bool) (hl:l.length ≤ 1000) (hG:∀ k,k < l.length → ACall Try.prog G (.agg 3 (cLaw (l.getD k lw0)) :: []) [] (fun r h=>r = .bool (q (l.getD k lw0)) ∧ h = [])):ACall Try.prog 86 [aLaws z e l,.fn 74 1 (ofL [iFn (.fn G 0 (ofL []))])] [] (fun r h=>r = AI (idxP l.length (fun k=>!q (l.getD k lw0)) l.length 0) ∧ h = []):=by
 (refine fcall_of mixed Try.func86 rfl (by decide) (hs:={}) ?k (ac:=?ac) ?c (rs:=?rs) ?r ?l ?H;(case k=>kernel_rfl);(case c=>(conv=>(lhs;cbv)));(case r=>(conv=>(lhs;cbv)));(case l=>exact Nat.le_of_ble_eq_true rfl))
 (repeat' ((try conv=>whnf);first|(with_reducible first|refine wT ?_|refine wF ?_|(refine wI (fun hq=>?_) (fun hq=>?_) <;> try simp only [zA,zE,zD,zJ,zB,zI,wK,wL] at hq)|refine wA ?_|refine wB ?_|refine wC ?_|refine wD ?_|refine wE ?_)|((with_reducible refine wN ?_ ?_);focus exact needA)|(with_reducible refine wG ?_)|(with_reducible refine wP ?_)))
 all_goals (try conv=>whnf)
 refine FLoop.of (ACalls.mono _) (X:=Nat) (fun k=>[(0,aLaws z e l),(1,.fn 74 1 (ofL [iFn (.fn G 0 (ofL []))])),(7,AI l.length),(8,AI k)]) (fun _=>[]) (fun k=>k ≤ l.length ∧ idxP l.length (fun k=>!q (l.getD k lw0)) l.length 0 = idxP l.length (fun k=>!q (l.getD k lw0)) (l.length - k) k) (fun k=>l.length - k) 0 ⟨⟨Nat.zero_le _,rfl⟩,[],Cut.A,allA⟩ ?_
 rintro k ⟨hk,hL⟩
 by_cases hlt:k < l.length
 ·obtain ⟨m,hm⟩:∃ m,l.length - k = m + 1:=⟨l.length - k - 1,by omega⟩
  rw [hm,idxP] at hL
  (repeat' ((try conv=>whnf);first|(with_reducible first|refine wT ?_|refine wF ?_|(refine wI (fun hq=>?_) (fun hq=>?_) <;> try simp only [zA,zE,zD,zJ,zB,zI,wK,wL] at hq)|refine wA ?_|refine wB ?_|refine wC ?_|refine wD ?_|refine wE ?_)|((with_reducible refine wN ?_ ?_);focus exact needA)|(with_reducible refine wG ?_)|(refine FCall.pure ((ev1_law z e G l q k (hG k hlt))) ⟨Ln.sameB _ rfl,Ln.sameB _ rfl,True.intro⟩ rfl ?_)|(with_reducible refine wP ?_)))
  all_goals (try conv=>whnf)
  ·(refine ⟨⟨_,[],[],Cut.nil _,Ln.sameB _ rfl,?_,rfl⟩⟩)
   rw [hL,if_pos (by simpa using hq)]
  ·(exact ⟨⟨(k + 1),⟨hlt,by rw [hL,if_neg (by simpa using hq),show l.length - (k + 1) = m by omega]⟩,by show _ < _;omega,[],Cut.A,allA⟩⟩)
 ·rw [show l.length - k = 0 by omega,idxP] at hL
  (repeat' ((try conv=>whnf);first|(with_reducible first|refine wT ?_|refine wF ?_|(refine wI (fun hq=>?_) (fun hq=>?_) <;> try simp only [zA,zE,zD,zJ,zB,zI,wK,wL] at hq)|refine wA ?_|refine wB ?_|refine wC ?_|refine wD ?_|refine wE ?_)|((with_reducible refine wN ?_ ?_);focus exact needA)|(with_reducible refine wG ?_)|(with_reducible refine wP ?_)))
  all_goals (try conv=>whnf)
  (refine ⟨⟨_,[],[],Cut.nil _,Ln.sameB _ rfl,?_,rfl⟩⟩)
  rw [hL]
theorem cont_law (z e:Bool) (G:FuncId) (l:List LawT) (q:LawT → Bool) (hl:l.length ≤ 1000) (hG:∀ k,k < l.length → ACall Try.prog G (.agg 3 (cLaw (l.getD k lw0)) :: []) [] (fun r h=>r = .bool (q (l.getD k lw0)) ∧ h = [])):ACall Try.prog 73 [aLaws z e l,.fn 74 1 (ofL [iFn (.fn G 0 (ofL []))])] [] (fun r h=>r = .bool (decide (0 ≤ idxP l.length (fun k=>!q (l.getD k lw0)) l.length 0)) ∧ h = []):=by
 (refine fcall_of mixed Try.func73 rfl (by decide) (hs:={}) ?k (ac:=?ac) ?c (rs:=?rs) ?r ?l ?H;(case k=>kernel_rfl);(case c=>(conv=>(lhs;cbv)));(case r=>(conv=>(lhs;cbv)));(case l=>exact Nat.le_of_ble_eq_true rfl))
 (repeat' ((try conv=>whnf);first|(with_reducible first|refine wT ?_|refine wF ?_|(refine wI (fun hq=>?_) (fun hq=>?_) <;> try simp only [zA,zE,zD,zJ,zB,zI,wK,wL] at hq)|refine wA ?_|refine wB ?_|refine wC ?_|refine wD ?_|refine wE ?_)|((with_reducible refine wN ?_ ?_);focus exact needA)|(with_reducible refine wG ?_)|(refine FCall.pure ((idx_law z e G l q hl hG)) ⟨Ln.sameB _ rfl,Ln.sameB _ rfl,True.intro⟩ rfl ?_)|(with_reducible refine wP ?_)))
 all_goals (try conv=>whnf)
 all_goals (refine ⟨⟨_,[],[],Cut.nil _,Ln.sameB _ rfl,?_,rfl⟩⟩)
 all_goals rfl
theorem every_law (z e:Bool) (G:FuncId) (l:List LawT) (q:LawT → Bool) (hl:l.length ≤ 1000) (hG:∀ k,k < l.length → ACall Try.prog G (.agg 3 (cLaw (l.getD k lw0)) :: []) [] (fun r h=>r = .bool (q (l.getD k lw0)) ∧ h = [])):ACall Try.prog 53 [aLaws z e l,(.fn G 0 (ofL []))] [] (fun r h=>r = .bool (l.all q) ∧ h = []):=by
 (refine fcall_of mixed Try.func53 rfl (by decide) (hs:={ pub:=[1] }) ?k (ac:=?ac) ?c (rs:=?rs) ?r ?l ?H;(case k=>kernel_rfl);(case c=>(conv=>(lhs;cbv)));(case r=>(conv=>(lhs;cbv)));(case l=>exact Nat.le_of_ble_eq_true rfl))
 (repeat' ((try conv=>whnf);first|(with_reducible first|refine wT ?_|refine wF ?_|(refine wI (fun hq=>?_) (fun hq=>?_) <;> try simp only [zA,zE,zD,zJ,zB,zI,wK,wL] at hq)|refine wA ?_|refine wB ?_|refine wC ?_|refine wD ?_|refine wE ?_)|((with_reducible refine wN ?_ ?_);focus exact needA)|(with_reducible refine wG ?_)|(with_reducible refine wP ?_)))
 all_goals (try conv=>whnf)
 refine FWk.of [(0,aLaws z e l),(3,iFn (.fn G 0 (ofL [])))] [] [] (Cut.nil _) ⟨Ln.A,Ln.boxP (m:=1) (goneB rfl) rfl ⟨True.intro,Ln.sameB _ rfl⟩ rfl,True.intro⟩ ?_
 (repeat' ((try conv=>whnf);first|(with_reducible first|refine wT ?_|refine wF ?_|(refine wI (fun hq=>?_) (fun hq=>?_) <;> try simp only [zA,zE,zD,zJ,zB,zI,wK,wL] at hq)|refine wA ?_|refine wB ?_|refine wC ?_|refine wD ?_|refine wE ?_)|((with_reducible refine wN ?_ ?_);focus exact needA)|(with_reducible refine wG ?_)|(refine FCall.pure ((cont_law z e G l q hl hG)) ⟨Ln.sameB _ rfl,Ln.sameB _ rfl,True.intro⟩ rfl ?_)|(with_reducible refine wP ?_)))
 all_goals (try conv=>whnf)
 (refine ⟨⟨_,[],[],Cut.nil _,Ln.sameB _ rfl,?_,rfl⟩⟩)
 rw [all_idx]
abbrev fLev : AV:=.fn 46 0 (ofL [])
abbrev fCli : AV:=.fn 47 0 (ofL [])
theorem lev_ok (n:Int):ACall Try.prog 46 [AI n] [] (fun r h=>r = .bool (inB n 0 5) ∧ h = []):=by
 (refine fcall_of mixed Try.func46 rfl (by decide) (hs:={}) ?k (ac:=?ac) ?c (rs:=?rs) ?r ?l ?H;(case k=>kernel_rfl);(case c=>(conv=>(lhs;cbv)));(case r=>(conv=>(lhs;cbv)));(case l=>exact Nat.le_of_ble_eq_true rfl))
 (repeat' ((try conv=>whnf);first|(with_reducible first|refine wT ?_|refine wF ?_|(refine wI (fun hq=>?_) (fun hq=>?_) <;> try simp only [zA,zE,zD,zJ,zB,zI,wK,wL] at hq)|refine wA ?_|refine wB ?_|refine wC ?_|refine wD ?_|refine wE ?_)|((with_reducible refine wN ?_ ?_);focus exact needA)|(with_reducible refine wG ?_)|(refine FCall.pure ((pwithin_ok _ _ _)) ⟨Ln.sameB _ rfl,Ln.sameB _ rfl,Ln.sameB _ rfl,True.intro⟩ rfl ?_)|(with_reducible refine wP ?_)))
 all_goals (try conv=>whnf)
 (refine ⟨⟨_,[],[],Cut.nil _,Ln.sameB _ rfl,?_,rfl⟩⟩)
 rfl
theorem cli_ok (n:Int):ACall Try.prog 47 [AI n] [] (fun r h=>r = .bool (inB n 0 99) ∧ h = []):=by
 (refine fcall_of mixed Try.func47 rfl (by decide) (hs:={}) ?k (ac:=?ac) ?c (rs:=?rs) ?r ?l ?H;(case k=>kernel_rfl);(case c=>(conv=>(lhs;cbv)));(case r=>(conv=>(lhs;cbv)));(case l=>exact Nat.le_of_ble_eq_true rfl))
 (repeat' ((try conv=>whnf);first|(with_reducible first|refine wT ?_|refine wF ?_|(refine wI (fun hq=>?_) (fun hq=>?_) <;> try simp only [zA,zE,zD,zJ,zB,zI,wK,wL] at hq)|refine wA ?_|refine wB ?_|refine wC ?_|refine wD ?_|refine wE ?_)|((with_reducible refine wN ?_ ?_);focus exact needA)|(with_reducible refine wG ?_)|(refine FCall.pure ((pwithin_ok _ _ _)) ⟨Ln.sameB _ rfl,Ln.sameB _ rfl,Ln.sameB _ rfl,True.intro⟩ rfl ?_)|(with_reducible refine wP ?_)))
 all_goals (try conv=>whnf)
 (refine ⟨⟨_,[],[],Cut.nil _,Ln.sameB _ rfl,?_,rfl⟩⟩)
 rfl
theorem lan_ok (f:CFl) (c:Crew) (n:Int) (h:2 ≤ c.langs ∧ c.langs ≤ 5):ACall Try.prog 51 [AI n,.ip 3 (cCrew f c) 0] [] (fun r h=>r = .bool (inB n 0 (c.langs - 1)) ∧ h = []):=by
 (refine fcall_of mixed Try.func51 rfl (by decide) (hs:={}) ?k (ac:=?ac) ?c (rs:=?rs) ?r ?l ?H;(case k=>kernel_rfl);(case c=>(conv=>(lhs;cbv)));(case r=>(conv=>(lhs;cbv)));(case l=>exact Nat.le_of_ble_eq_true rfl))
 (repeat' ((try conv=>whnf);first|(with_reducible first|refine wT ?_|refine wF ?_|(refine wI (fun hq=>?_) (fun hq=>?_) <;> try simp only [zA,zE,zD,zJ,zB,zI,wK,wL] at hq)|refine wA ?_|refine wB ?_|refine wC ?_|refine wD ?_|refine wE ?_)|((with_reducible refine wN ?_ ?_);focus exact needA)|(with_reducible refine wG ?_)|(refine FCall.pure ((pwithin_ok _ _ _)) ⟨Ln.sameB _ rfl,Ln.sameB _ rfl,Ln.sameB _ rfl,True.intro⟩ rfl ?_)|(with_reducible refine wP ?_)))
 all_goals (try conv=>whnf)
 (refine ⟨⟨_,[],[],Cut.nil _,Ln.sameB _ rfl,?_,rfl⟩⟩)
 rfl
theorem lawc_ok (x:LawT):ACall Try.prog 50 [.agg 3 (cLaw x)] [] (fun r h=>r = .bool (LawT.ok x) ∧ h = []):=by
 (refine fcall_of mixed Try.func50 rfl (by decide) (hs:={}) ?k (ac:=?ac) ?c (rs:=?rs) ?r ?l ?H;(case k=>kernel_rfl);(case c=>(conv=>(lhs;cbv)));(case r=>(conv=>(lhs;cbv)));(case l=>exact Nat.le_of_ble_eq_true rfl))
 (repeat' ((try conv=>whnf);first|(with_reducible first|refine wT ?_|refine wF ?_|(refine wI (fun hq=>?_) (fun hq=>?_) <;> try simp only [zA,zE,zD,zJ,zB,zI,wK,wL] at hq)|refine wA ?_|refine wB ?_|refine wC ?_|refine wD ?_|refine wE ?_)|((with_reducible refine wN ?_ ?_);focus exact needA)|(with_reducible refine wG ?_)|(refine FCall.pure ((pwithin_ok _ _ _)) ⟨Ln.sameB _ rfl,Ln.sameB _ rfl,Ln.sameB _ rfl,True.intro⟩ rfl ?_)|(with_reducible refine wP ?_)))
 all_goals (try conv=>whnf)
 all_goals
  (refine ⟨⟨_,[],[],Cut.nil _,Ln.sameB _ rfl,?_,rfl⟩⟩)
  unfold LawT.ok
  (exact avB)
theorem perc_ok (f:CFl) (c:Crew) (g:PFl) (p:Person) (h1:p.levels.length ≤ 1000 ∨ (p.levels.length:Int) ≠ c.langs):ACall Try.prog 48 [.agg 6 (cPerson g p),.ip 3 (cCrew f c) 0,iFn fLev,iFn fCli] [] (fun r h=>r = .bool (Person.ok c.langs p) ∧ h = []):=by
 (refine fcall_of mixed Try.func48 rfl (by decide) (hs:={}) ?k (ac:=?ac) ?c (rs:=?rs) ?r ?l ?H;(case k=>kernel_rfl);(case c=>(conv=>(lhs;cbv)));(case r=>(conv=>(lhs;cbv)));(case l=>exact Nat.le_of_ble_eq_true rfl))
 (repeat' ((try conv=>whnf);first|(with_reducible first|refine wT ?_|refine wF ?_|(refine wI (fun hq=>?_) (fun hq=>?_) <;> try simp only [zA,zE,zD,zJ,zB,zI,wK,wL] at hq)|refine wA ?_|refine wB ?_|refine wC ?_|refine wD ?_|refine wE ?_)|((with_reducible refine wN ?_ ?_);focus exact needA)|(with_reducible refine wG ?_)|(refine FCall.pure ((pwithin_ok _ _ _)) ⟨Ln.sameB _ rfl,Ln.sameB _ rfl,Ln.sameB _ rfl,True.intro⟩ rfl ?_)|(refine FCall.pure ((every_int _ _ _ p.levels (fun n=>inB n 0 5) (by omega) (fun k _=>lev_ok _))) ⟨Ln.sameB _ rfl,Ln.sameB _ rfl,True.intro⟩ rfl ?_)|(refine FCall.pure ((every_int _ _ _ p.ties (fun n=>inB n 0 99) (by omega) (fun k _=>cli_ok _))) ⟨Ln.sameB _ rfl,Ln.sameB _ rfl,True.intro⟩ rfl ?_)|(with_reducible refine wP ?_)))
 all_goals (try conv=>whnf)
 all_goals
  (refine ⟨⟨_,[],[],Cut.nil _,Ln.sameB _ rfl,?_,rfl⟩⟩)
  unfold Person.ok
  refine bool_eq ?_
  rw [Bool.eq_iff_iff]
  generalize (p.levels.all fun n=>inB n 0 5) = A at *
  generalize (p.ties.all fun n=>inB n 0 99) = B at *
  simp only [inB,Bool.and_eq_true,decide_eq_true_eq,Bool.false_eq_true,false_iff,iff_false,true_iff,iff_true]
  cases A <;> cases B <;> first|omega|(simp only [Bool.false_eq_true,and_false,false_and,not_false_eq_true,and_true,true_and,not_true_eq_false,reduceCtorEq] at *;done)|(simp only [Bool.false_eq_true,and_false,false_and,not_false_eq_true,and_true,true_and,not_true_eq_false,reduceCtorEq] at *;omega)
end Go.Proofs.Ytkejebdfbkgaiaa
