/- Exams: the walk over Far. / Exams: the walk over Grade. / How the form's readings of data give cells: slices, ints / What a law's row asks behind the walk: the call returned true and the world only has more / From handed data to abstract values; from a reading of a law to what its row asks -/
import Derived.Test.YtkejebdfbkgaiaaBa30
import Derived.Deep.RegionHeld3
import Derived.Test.YtkejebdfbkgaiaaBa19
import Derived.Deep.Slices
import Derived.Lib.SmallJoins
import Derived.OpenShut
import Derived.WideKeyArgs
import Derived.Deep.OwnRows
import Derived.ProofKit
import Derived.JoinedOf
import Derived.Test.YtkejebdfbkgaiaaBa15
set_option linter.unusedSimpArgs false
set_option linter.unusedVariables false
namespace Go.Proofs.Ytkejebdfbkgaiaa
open Go.RowKit

set_option maxHeartbeats 2000000 in
theorem far_any (iA jA gA : Option Addr) (ic jc gc : Nat) (p : Paper) (w : World) (h : PaperAt w iA jA gA p) :
    Calls Try.prog 8 #[.agg #[.slice iA p.items.length ic, .slice jA p.judges.length jc, .int .i64 p.wrong, .slice gA p.grades.length gc]] w fun e w' => e = .returned (.bool (farM p)) ∧ Ext w w' := by
  have HX := Lib.hid ((Ext.of_alloc w (.cells #[.slice iA p.items.length ic, .slice jA p.judges.length jc, .int .i64 p.wrong, .slice gA p.grades.length gc] 43)))
  have hil := h.il
  have hjl := h.jl
  have hgl := h.gl
  have HT := Lib.hid (farM_true (p := p))
  have HF := Lib.hid (farM_false (p := p))
  have HC := Lib.hid (fun W (e : Ext w W) => checkR_any iA jA gA ic jc gc p W (h.ext e))
  have HJ := Lib.hid (fun W (e : Ext w W) => (h.judges.ext e))
  generalize farM p = fm at *
  clear h
  by_cases h1 : 20 < p.items.length
  · have h1' : (20 : Int) < p.items.length := by omega
    go_enter Try.func8, Try.ntmps8
    go_wp2
    go_ret
    exact ⟨ret_bool (HT.out (.inl h1)).symm, HX.out⟩
  · have h1' : (p.items.length : Int) ≤ 20 := by omega
    by_cases h2 : 20 < p.judges.length
    · have h2' : (20 : Int) < p.judges.length := by omega
      go_enter Try.func8, Try.ntmps8
      go_wp2
      go_ret
      exact ⟨ret_bool (HT.out (.inr (.inl h2))).symm, HX.out⟩
    · have h2' : (p.judges.length : Int) ≤ 20 := by omega
      by_cases h3 : 20 < p.grades.length
      · have h3' : (20 : Int) < p.grades.length := by omega
        go_enter Try.func8, Try.ntmps8
        go_wp2
        go_ret
        exact ⟨ret_bool (HT.out (.inr (.inr (.inl h3)))).symm, HX.out⟩
      · have h3' : (p.grades.length : Int) ≤ 20 := by omega
        go_enter Try.func8, Try.ntmps8
        go_wp2_with fail
        go_loop [3] (fun cn => ∃ k : Nat, k ≤ p.judges.length ∧ cn = .int .i64 k ∧ ∀ j, j < k → ¬ 20 < (p.judges.getD j default).marks.length) (fun cn => p.judges.length - (intOf cn).toNat)
        case atStart => exact ⟨0, by omega, rfl, fun j h => by omega⟩
        case round =>
          obtain ⟨k, hk, rfl, hs⟩ := hrel
          have HS := Lib.hid hs
          clear hs
          by_cases hlt : k < p.judges.length
          · obtain ⟨b, off, lo, hi, err, ma, mA, mc, rfl, hb, hc1, hc2, hc3, hc4, hma, hml, hx⟩ := (HJ.out _ HX.out).get hlt
            clear hma
            by_cases hm : 20 < ma.length
            · have hm' : (20 : Int) < ma.length := by omega
              go_wp2
              go_ret
              exact ⟨ret_bool (HT.out (.inr (.inr (.inr (.inl ⟨k, hlt, by rw [hx.out]; exact hm⟩))))).symm, HX.out⟩
            · have hm' : (ma.length : Int) ≤ 20 := by omega
              go_wp2
              go_round
              case rel => exact ⟨k + 1, by omega, by go_num, fun j hj => by
                by_cases e : j = k
                · rw [e, hx.out]; exact hm
                · exact HS.out j (by omega)⟩
              case measure => simp [intOf]; omega
          · obtain rfl : k = p.judges.length := by omega
            cases hv : validB p
            · have HV := Lib.hid hv
              have HCk := Lib.hid (HC.out _ HX.out)
              rw [show checkE p = 90 by simp [checkE, hv]] at HCk
              clear hv
              go_wp2_with fail
              refine HCk.out.mono ?_
              rintro e w1 ⟨rfl, hE1⟩
              have hbox := hE1.box
              have HE1 := Lib.hid (HX.out.trans hE1)
              clear hE1
              go_wp2
              go_ret
              exact ⟨ret_bool (HF.out h1 h2 h3 HS.out (by rw [HV.out]; intro h; cases h)).symm, HE1.out⟩
            · have HV := Lib.hid hv
              have HCk := Lib.hid (HC.out _ HX.out)
              rw [show checkE p = 0 by simp [checkE, hv]] at HCk
              clear hv
              by_cases h5 : 3 < p.judges.length
              · have h5' : (3 : Int) < p.judges.length := by omega
                go_wp2_with fail
                refine HCk.out.mono ?_
                rintro e w1 ⟨rfl, hE1⟩
                have hbox := hE1.box
                have HE1 := Lib.hid (HX.out.trans hE1)
                clear hE1
                go_wp2
                go_ret
                exact ⟨ret_bool (HT.out (.inr (.inr (.inr (.inr ⟨HV.out, h5⟩))))).symm, HE1.out⟩
              · have h5' : (p.judges.length : Int) ≤ 3 := by omega
                go_wp2_with fail
                refine HCk.out.mono ?_
                rintro e w1 ⟨rfl, hE1⟩
                have hbox := hE1.box
                have HE1 := Lib.hid (HX.out.trans hE1)
                clear hE1
                go_wp2
                go_ret
                exact ⟨ret_bool ((decide_eq_false (by omega)).trans (HF.out h1 h2 h3 HS.out (fun _ => h5)).symm), HE1.out⟩
end Go.Proofs.Ytkejebdfbkgaiaa

namespace Go.Proofs.Ytkejebdfbkgaiaa
open Go.RowKit



set_option maxHeartbeats 2000000 in
theorem grade_any (iA jA gA : Option Addr) (ic jc gc : Nat) (p : Paper) (lo hi c : Int) (w : World) (h : PaperAt w iA jA gA p) (hr : gradeMod p = ((lo, hi), c)) :
    Calls Try.prog 11 #[.agg #[.slice iA p.items.length ic, .slice jA p.judges.length jc, .int .i64 p.wrong, .slice gA p.grades.length gc]] w fun e w' => e = .returned (.tuple #[.agg #[.int .i64 lo, .int .i64 hi], .int .i64 c]) ∧ Ext w w' := by
  have HX := Lib.hid ((Ext.of_alloc w (.cells #[.slice iA p.items.length ic, .slice jA p.judges.length jc, .int .i64 p.wrong, .slice gA p.grades.length gc] 43)).alloc (.cells #[.int .i64 0, .int .i64 0] 48))
  unfold gradeMod at hr
  by_cases hk : knownE p true = 0
  · rw [if_pos hk] at hr
    have HO := Lib.hid (known_ok iA jA gA ic jc gc p true _ (h.ext HX.out) hk)
    have hgl := (valid_of (knownE_ok hk).1).gl
    injection hr with hr hc
    injection hr with h1 h2
    subst hc
    have H1 := Lib.hid h1
    have H2 := Lib.hid h2
    obtain ⟨r1, hr1⟩ : ∃ r1, (openM p).res.1 = r1 := ⟨_, rfl⟩
    obtain ⟨r2, hr2⟩ : ∃ r2, (openM p).res.2 = r2 := ⟨_, rfl⟩
    have HR1 := Lib.hid hr1
    have HR2 := Lib.hid hr2
    have HG := Lib.hid h.grades
    clear hk h1 h2 h hr1 hr2
    go_enter Try.func11, Try.ntmps11
    go_wp2_with fail
    refine HO.out.mono ?_
    rintro e w1 ⟨B, M, R, rc, rfl, hS1, hE1⟩
    have HE1 := Lib.hid hE1
    obtain ⟨c0, c1, c2, c3, c4, c5, c6, c7, c8, c9⟩ := hS1.cell
    rw [HR1.out] at c8
    rw [HR2.out] at c9
    have hB := hS1.ltB
    obtain ⟨b1, b2, f1, f2, hlt⟩ := box2 hE1
    have hne : ¬ B = w.heap.size + 1 := by
      intro e
      rw [e, b2 4] at c8
      cases c8
    have hne' : ¬ w.heap.size + 1 = B := fun e => hne e.symm
    have d0 : w1.cell? ⟨w.heap.size + 1, 0, none⟩ = some (.int .i64 0) := b2 0
    have d1 : w1.cell? ⟨w.heap.size + 1, 1, none⟩ = some (.int .i64 0) := b2 1
    have e0 := f2 0
    have e1 := f2 1
    have HF := Lib.hid (show ∀ W, Below w.heap.size w1 W → Ext w W from fun W hb => Below.trans (HX.out.trans hE1) hb)
    have HC := Lib.hid (show ∀ W r, Ext w1 W → Calls Try.prog 25 #[.pointer (some ⟨B, 0, none⟩), .int .i64 r] W fun e W' => e = .returned (.int .i64 (gradeP p.grades r)) ∧ W = W' from fun W r e => gradeS_any ⟨B, M, R, rc, iA, jA, gA, ic, jc, gc⟩ p (openM p) r W (hS1.ext e) (HG.out.ext ((HX.out.trans hE1).trans e)) hgl)
    clear hE1 hS1 b1 b2 f1 f2
    go_wp2_with fail
    go_region_held3 (fun w' => w'.cell? ⟨B, 4, none⟩ = some (.int .i64 r1) ∧ w'.cell? ⟨B, 5, none⟩ = some (.int .i64 r2)) (go_keep)
      (first
        | (go_at_call 25; refine (HC.out _ _ (Ext.refl _).drew).mono ?_; rintro e w' ⟨rfl, rfl⟩))
    all_goals
      go_wp2
      have q1 := HR1.out
      have q2 := HR2.out
      have h1 := H1.out
      have h2 := H2.out
      rw [q1] at h1
      rw [q2] at h2
      subst h1
      subst h2
      refine bodyPost_ret (v := .tuple #[.agg #[.int .i64 (gradeP p.grades r1 : Nat), .int .i64 (gradeP p.grades r2 : Nat)], .int .i64 0]) (by simp [results, Try.results11, go_sem, d0, d1]) rfl ⟨rfl, HF.out _ ?_⟩
      repeat (first | exact Below.refl _ _ | refine Below.drew ?_ | (refine Below.setCell ?_ (by simp) _))
  · rw [if_neg hk] at hr
    have HO := Lib.hid (known_err iA jA gA ic jc gc p true _ _ (h.ext HX.out) rfl hk)
    injection hr with hr hc
    injection hr with h1 h2
    subst h1; subst h2
    rw [hc] at HO hk
    have hc0 : (c != 0) = true := by simpa using hk
    clear hk hc h
    go_enter Try.func11, Try.ntmps11
    go_wp2_with fail
    refine HO.out.mono ?_
    rintro e w1 ⟨rfl, hE1⟩
    have HE1 := Lib.hid hE1
    obtain ⟨b1, b2, f1, f2, hlt⟩ := box2 hE1
    have HF := Lib.hid (show ∀ W, Below w.heap.size w1 W → Ext w W from fun W hb => Below.trans (HX.out.trans hE1) hb)
    clear hE1
    go_wp2
    refine bodyPost_ret (v := .tuple #[.agg #[.int .i64 0, .int .i64 0], .int .i64 c]) (by simp [results, Try.results11, go_sem, b2]) rfl ⟨rfl, HF.out _ ?_⟩
    exact ((Below.refl _ _).setCell (by simp) _).setCell (by simp) _
end Go.Proofs.Ytkejebdfbkgaiaa

namespace Go.Proofs.Ytkejebdfbkgaiaa
open Go.RowKit Go.ChangeShapes Go.WideShapes Go.Deep

section
variable {H:Type} {enc:TypeId × Value → H} {P:Program} {w:World} {base:Nat} {held:Bool}

/-- A slice's elements, cell by cell. -/
theorem rd_slice {t e:TypeId} {sz n:Nat} {v:Value} {y:DataW H × List MemPlace} (ht:P.underlying t = some (.slice e)) (hc:P.cellsOf e = sz) (hsz:0 < sz) (h:DataW.trod enc P w base (fun _=>true) held n t [v] = some y) :
  ∃ A len cap,v = .slice A len cap ∧ len ≤ 9223372036854775807 ∧ (A = none → len = 0) ∧ ∀ i,i < len → ∃ b off m cs z,A = some ⟨b,off,none⟩ ∧ b < w.heap.size ∧ cs.length = sz ∧ (∀ j,j < sz → w.cell? ⟨b,off + i * sz + j,none⟩ = cs[j]?) ∧
   DataW.trod enc P w base (fun _=>true) held m e cs = some z:=by
 rcases open_slice ht h with ⟨h0,_⟩|⟨a,len,cap,m,n',D,Pl,h0,hb,hl,hm,hmm,_,hx⟩
 ·injection h0 with h0
  exact ⟨none,0,0,h0,by omega,fun _=>rfl,fun i hi=>by omega⟩
 ·injection h0 with h0
  have hmx:maxLen = 9223372036854775807:=rfl
  refine ⟨some a,len,cap,h0,by omega,(fun h=>by cases h),fun i hi=>?_⟩
  simp only [if_true] at hmm
  obtain ⟨cs,h1,h2⟩:=hx i (by omega)
  obtain ⟨_,hlen,hcell⟩:=World.cells?_some h1
  rw [hc] at hlen hcell
  have hc0:=hcell 0 hsz
  rw [List.getElem?_eq_getElem (by omega)] at hc0
  obtain ⟨b,off,spot⟩:=a
  have hadd:∀ (x y:Nat),((⟨b,off,spot⟩:Addr).add x).add y = (⟨b,off,spot⟩:Addr).add (x + y):=fun x y=>add_of_add _ _ _
  have hsp:spot = none:=by
   obtain ⟨cs0,g1,_⟩:=hx 0 (by omega)
   obtain ⟨_,glen,gcell⟩:=World.cells?_some g1
   rw [hc] at glen gcell
   have g0:=gcell 0 hsz
   rw [List.getElem?_eq_getElem (by omega)] at g0
   have:=World.cell?_spot g0
   simpa [hadd,Addr.add] using this
  subst hsp
  have hform:∀ x,(⟨b,off,none⟩:Addr).add x = ⟨b,off + x,none⟩:=fun x=>by
   unfold Addr.add
   by_cases hx0:x = 0 <;> simp [hx0]
  refine ⟨b,off,n',cs,_,rfl,?_,hlen,fun j hj=>?_,h2⟩
  ·have:=World.block_lt_of_cell? w _ hc0
   rw [hadd,hform] at this
   exact this
  ·have:=hcell j hj
   rw [hadd,hform] at this
   rw [← this,Nat.add_assoc]

theorem rd_int {t:TypeId} {n:Nat} {cs:List Value} {y:DataW H × List MemPlace} (ht:P.underlying t = some (.int .i64)) (h:DataW.trod enc P w base (fun _=>true) held n t cs = some y):∃ i:Int,cs = [.int .i64 i] ∧ -9223372036854775808 ≤ i ∧ i ≤ 9223372036854775807:=by
 obtain ⟨i,h1,_,h3⟩:=DataW.trod_int ht h
 refine ⟨i,h1,?_⟩
 simpa [Lit.wf,IntKind.min,IntKind.max,IntKind.signed,IntKind.bits] using h3

def I64 (x:Int):Prop:=-9223372036854775808 ≤ x ∧ x ≤ 9223372036854775807

theorem rd_ints {t e:TypeId} {n:Nat} {v:Value} {y:DataW H × List MemPlace} (ht:P.underlying t = some (.slice e)) (he:P.underlying e = some (.int .i64)) (hc:P.cellsOf e = 1) (h:DataW.trod enc P w base (fun _=>true) held n t [v] = some y) :
  ∃ A c,∃ l:List Int,v = .slice A l.length c ∧ Ints w A l ∧ l.length ≤ 9223372036854775807 ∧ (A = none → l = []) ∧ ∀ x ∈ l,I64 x:=by
 obtain ⟨A,len,cap,rfl,hl,hn,hx⟩:=rd_slice ht hc (by omega) h
 have key:∀ i,i < len → ∃ x:Int,(∃ b off,A = some ⟨b,off,none⟩ ∧ b < w.heap.size ∧ w.cell? ⟨b,off + i,none⟩ = some (.int .i64 x)) ∧ I64 x:=by
  intro i hi
  obtain ⟨b,off,m,cs,z,hA,hb,hlen,hcell,ht'⟩:=hx i hi
  obtain ⟨x,rfl,h1,h2⟩:=rd_int he ht'
  have:=hcell 0 (by omega)
  rw [Nat.mul_one,Nat.add_zero] at this
  exact ⟨x,⟨b,off,hA,hb,this⟩,h1,h2⟩
 obtain ⟨f,hf⟩:=choose_lt key
 have hlen:((List.range len).map f).length = len:=by simp
 refine ⟨A,cap,(List.range len).map f,by rw [hlen],fun k hk=>?_,by omega,fun hA=>by rw [hn hA];rfl,fun x hx'=>?_⟩
 ·rw [hlen] at hk
  obtain ⟨⟨b,off,h1,h2,h3⟩,_⟩:=hf k hk
  exact ⟨b,off,h1,h2,by rw [h3];simp [List.getD,hk]⟩
 ·obtain ⟨k,hk,rfl⟩:=List.mem_map.1 hx'
  exact (hf k (by simpa using hk)).2

/-- A world that only has more. -/
theorem since_of_ext {W W':World} (h:Ext W W'):W.Since W.heap.size W':=⟨h.os,h.tape,h.output,h.size,fun k hk=>h.block k hk⟩
/-- An argument reads as before in a world that only has more. -/
theorem stays {t:TypeId} (hl:laidOutB P = true) (hr:P.readableRec t = true) (hrow:t < P.types.size) {W W':World} {sp':Nat → Bool} {v:Value} {d:DataW H} {ps:List MemPlace}
  (h:DataW.Trod enc P W 0 (fun _=>true) true t v d ps) (hE:Ext W W') (hlt:∀ p ∈ ps,p.block < W.heap.size) (hs:∀ p ∈ ps,sp' p.block = true):DataW.Trod enc P W' 0 sp' true t v d ps :=
 WideElems.Trod_stays hl hr hrow h (fun p hp=>(since_of_ext hE).sameAt (hlt p hp)) hs
end
end Go.Proofs.Ytkejebdfbkgaiaa

namespace Go.Proofs.Ytkejebdfbkgaiaa
open Go.RowKit Go.ChangeShapes Go.WideShapes Go.Deep Go.ChangeAt

section
variable {H:Type} {enc:TypeId × Value → H} {P:Program}
theorem staysAll (hl:laidOutB P = true) {W W':World} (hE:Ext W W') {sp':Nat → Bool}:∀ {ts:List TypeId} {vs:List Value} {ds:List (DataW H)} {ps:List MemPlace},(∀ t ∈ ts,P.readableRec t = true ∧ t < P.types.size) →
  DataW.TrodAll enc P W 0 (fun _=>true) true ts vs ds ps → (∀ p ∈ ps,p.block < W.heap.size) → (∀ p ∈ ps,sp' p.block = true) → DataW.TrodAll enc P W' 0 sp' true ts vs ds ps:=by
 intro ts
 induction ts with
 | nil =>
  intro vs ds ps _ h _ _
  obtain ⟨rfl,rfl,rfl⟩:=trodAll_nil h
  exact trodAll_mk0
 | cons t ts ih =>
  intro vs ds ps ht h hlt hs
  obtain ⟨v,vs',d,ds',p,q,rfl,rfl,rfl,h0,hr⟩:=trodAll_cons h
  exact trodAll_cons_mk (stays hl (ht t List.mem_cons_self).1 (ht t List.mem_cons_self).2 h0 hE (fun x hx=>hlt x (List.mem_append_left _ hx)) (fun x hx=>hs x (List.mem_append_left _ hx)))
   (ih (fun t' h'=>ht t' (List.mem_cons_of_mem _ h')) hr (fun x hx=>hlt x (List.mem_append_right _ hx)) (fun x hx=>hs x (List.mem_append_right _ hx)))

theorem trodLen {w:World} {base:Nat} {spare:Nat → Bool} {held:Bool}:∀ {ts:List TypeId} {vs:List Value} {ds:List (DataW H)} {ps:List MemPlace},DataW.TrodAll enc P w base spare held ts vs ds ps → ds.length = ts.length:=by
 intro ts
 induction ts with
 | nil =>
  intro vs ds ps h
  obtain ⟨rfl,rfl,rfl⟩:=trodAll_nil h
  rfl
 | cons t ts ih =>
  intro vs ds ps h
  obtain ⟨v,vs',d,ds',p,q,rfl,rfl,rfl,h0,hr⟩:=trodAll_cons h
  simp [ih hr]

theorem law_post {f:Func} {s:ChangeSpec} {W W':World} {args:Array Value} {ds gs:List (DataW H)} {before:List MemPlace} {tb:TypeId} (hl:laidOutB P = true) (hts:∀ t ∈ f.params.toList,P.readableRec t = true ∧ t < P.types.size)
  (hv:s.vars = []) (hb:P.underlying tb = some .bool) (hrt:f.resultTypes = #[tb]) (hspec:∀ l:List (DataW H),l.length = f.params.toList.length → s.fn H (l ++ []) = { results:=[.lit (.bool true)],args:=l,vars:=[] })
  (hW:DataW.Whole enc P f.params.toList s.vars false W args.toList ds gs before) (hE:Ext W W'):s.post enc P f false true false false W args (.bool true) W':=by
 have hW':=hW
 obtain ⟨p,q,hA,hV,rfl,_,_⟩:=hW
 rw [hv] at hV
 obtain ⟨rfl,rfl⟩:=trodVars_none hV
 have hlt:∀ x ∈ p,x.block < W.heap.size:=fun x hx=>hW'.lt x (by simp [hx])
 have hlen:=trodLen hA
 have hs:=hspec ds hlen
 refine ⟨ds,[],_,[],p,[],hW',?_,?_,?_,(since_of_ext hE).frame _,fun h=>by cases h⟩
 ·rw [hs,hrt]
  exact trodAll_cons_mk (shut_bool hb _) trodAll_mk0
 ·rw [hs]
  exact staysAll hl hE hts hA hlt (fun x hx=>by simpa using hlt x hx)
 ·rw [hs,hv]
  rfl
end
end Go.Proofs.Ytkejebdfbkgaiaa

namespace Go.Proofs.Ytkejebdfbkgaiaa
open Go.RowKit Go.ChangeShapes Go.WideShapes Go.Deep

def nobody : Nat → Prop:=fun _=>False
/-- Cells that are as a table says. -/
def CellsAre (w:World) (cs:List Value) (sz:Nat) (c:Nat → AV):Prop:=cs.length = sz ∧ ∀ o,o < sz → ∃ u,cs[o]? = some u ∧ u.oneCell' = true ∧ rep nobody w (c o) g0 u
theorem law_calls {P:Program} {f:FuncId} {xs:List AV} (H:ACall P f xs [] (fun r h=>r = .bool true ∧ h = [])) {w:World} {vs:Array Value} (hs:vs.size = xs.length) (hr:∀ (i:Nat) (x:AV),xs[i]? = some x → rep nobody w x g0 (vs.getD i undef)) :
  Calls P f vs w fun e w'=>e = .returned (.bool true) ∧ Ext w w':=by
 have noM:∀ b,MM nobody g0 [] b → False:=fun b hb=>by
  rcases hb with hb|⟨d,cap,⟨x,hx,_⟩,_⟩
  ·exact hb
  ·simp at hx
 refine (H.2 nobody g0 w vs (HOK.nil w (fun _ h=>h.elim)) hs fun i x hx=>rep_mono (Chg.refl _ w) (fun b _ hb=>(noM b hb).elim) _ (GM.le_refl _) (hr i x hx)).mono ?_
 rintro e w' ⟨v,r,h',g',rfl,T,hv,rfl,_⟩
 have:v = .bool true:=hv
 subst this
 exact ⟨rfl,T.chg.os,T.chg.tape,T.chg.output,T.chg.size,fun b hb=>T.chg.block b hb (fun hm=>noM b (.inr hm))⟩
theorem CellsAre.agg {w:World} {cs:List Value} {sz:Nat} {c:Nat → AV} (h:CellsAre w cs sz c):rep nobody w (.agg sz c) g0 (.agg cs.toArray) :=
 ⟨_,rfl,by simp [h.1],fun i hi=>by obtain ⟨u,h1,h2,h3⟩:=h.2 i hi;exact ⟨u,by simpa using h1,h2,h3⟩⟩
theorem CellsAre.val {w:World} {v:Value} {cs:List Value} {c:Nat → AV} (h:CellsAre w cs 1 c) (hv:cs = [v]):rep nobody w (c 0) g0 v:=by
 subst hv
 obtain ⟨u,h1,_,h3⟩:=h.2 0 (by omega)
 simp at h1
 rw [h1];exact h3
theorem CellsAre.sub {w:World} {cs:List Value} {off k:Nat} {c:Nat → AV} (h:CellsAre w ((cs.drop off).take k) k c) {o:Nat} (ho:o < k):∃ u,cs[off + o]? = some u ∧ u.oneCell' = true ∧ rep nobody w (c o) g0 u:=by
 obtain ⟨u,h1,h2⟩:=h.2 o ho
 rw [List.getElem?_take] at h1
 simp only [ho,if_true,List.getElem?_drop] at h1
 exact ⟨u,h1,h2⟩
theorem CellsAre.one {w : World} {v : Value} {x : AV} (h1 : v.oneCell' = true) (h : rep nobody w x g0 v) : CellsAre w [v] 1 (fun _ => x) :=
  ⟨rfl, fun o ho => by obtain rfl : o = 0 := (by omega)
                       exact ⟨v, rfl, h1, h⟩⟩
section
variable {H:Type} {enc:TypeId × Value → H} {P:Program} {w:World} {base:Nat} {held:Bool}
theorem rdr_int {t:TypeId} {n:Nat} {cs:List Value} {y:DataW H × List MemPlace} (ht:P.underlying t = some (.int .i64)) (h:DataW.trod enc P w base (fun _=>true) held n t cs = some y):∃ i:Int,I64 i ∧ CellsAre w cs 1 (fun _=>.int .i64 i):=by
 obtain ⟨i,rfl,hi⟩:=rd_int ht h
 exact ⟨i,hi,.one rfl rfl⟩
theorem rdr_slice {α:Type} {t e:TypeId} {sz:Nat} (c:α → Nat → AV) (Q:α → Prop) (d:α) (ht:P.underlying t = some (.slice e)) (hc:P.cellsOf e = sz) (hsz:0 < sz) (rd:∀ {n:Nat} {cs:List Value} {y:DataW H × List MemPlace},DataW.trod enc P w base (fun _=>true) held n e cs = some y → ∃ x,Q x ∧ CellsAre w cs sz (c x))
  {n:Nat} {cs:List Value} {y:DataW H × List MemPlace} (h:DataW.trod enc P w base (fun _=>true) held n t cs = some y) :
  ∃ (z:Bool) (l:List α),(l.length ≤ 9223372036854775807 ∧ ∀ x ∈ l,Q x) ∧ CellsAre w cs 1 (fun _=>.sl z false l.length sz (fun k=>c (l.getD k d))):=by
 have hmx:maxLen = 9223372036854775807:=rfl
 have h':=h
 rcases open_slice ht h with ⟨rfl,_⟩|⟨a,len,cap,m,n',D,Pl,rfl,hb,hl,hm,hmm,_,hx⟩
 ·refine ⟨true,[],⟨by simp,fun x hx=>by cases hx⟩,.one rfl ⟨none,0,rfl,by simp,by simp,fun h=>(by cases h),by simp,fun k hk=>absurd hk (Nat.not_lt_zero k)⟩⟩
 ·obtain ⟨A,len',cap',h0,hl',hn,hxx⟩:=rd_slice ht hc hsz h'
  injection h0 with e1 e2 e3
  subst e1;subst e2;subst e3
  have key:∀ i,i < len → ∃ x:α,Q x ∧ ∃ b off,(some a:Option Addr) = some ⟨b,off,none⟩ ∧ b < w.heap.size ∧ ∀ o,o < sz → ∃ u,w.cell? ⟨b,off + i * sz + o,none⟩ = some u ∧ u.oneCell' = true ∧ rep nobody w (c x o) g0 u:=fun i hi=>by
   obtain ⟨b,off,m,cs,z,hA,hb,hlen,hcell,ht'⟩:=hxx i hi
   obtain ⟨x,hq,hcs⟩:=rd ht'
   refine ⟨x,hq,b,off,hA,hb,fun o ho=>?_⟩
   obtain ⟨u,h1,h2⟩:=hcs.2 o ho
   exact ⟨u,(hcell o ho).trans h1,h2⟩
  obtain ⟨f,hf⟩:∃ f:Nat → α,∀ i,i < len → Q (f i) ∧ ∃ b off,(some a:Option Addr) = some ⟨b,off,none⟩ ∧ b < w.heap.size ∧ ∀ o,o < sz → ∃ u,w.cell? ⟨b,off + i * sz + o,none⟩ = some u ∧ u.oneCell' = true ∧ rep nobody w (c (f i) o) g0 u:=by
   refine ⟨fun i=>open Classical in if hi:i < len then (key i hi).choose else d,fun i hi=>?_⟩
   simp only [hi,dif_pos]
   exact (key i hi).choose_spec
  have hlen:((List.range len).map f).length = len:=by simp
  refine ⟨false,(List.range len).map f,⟨by rw [hlen];omega,fun x hx=>?_⟩,?_⟩
  ·obtain ⟨k,hk,rfl⟩:=List.mem_map.1 hx
   exact (hf k (by simpa using hk)).1
  ·refine .one rfl ⟨some a,cap,by rw [hlen],by simp,by simp,fun h=>(by cases h),by rw [hlen];exact hl,fun k hk o ho=>?_⟩
   rw [hlen] at hk
   obtain ⟨_,b,off,h1,h2,h3⟩:=hf k hk
   obtain ⟨u,h4,h5,h6⟩:=h3 o ho
   have hg:((List.range len).map f).getD k d = f k:=by simp [List.getD,hk]
   exact ⟨b,off,u,h1,h2,fun h=>h,h4,h5,by show rep nobody w (c (((List.range len).map f).getD k d) o) g0 u;rw [hg];exact h6⟩
theorem rdr_field {t:TypeId} {fs:Array Field} {n:Nat} {cs:List Value} {y:DataW H × List MemPlace} (ht:P.underlying t = some (.struct fs)) (h:DataW.trod enc P w base (fun _=>true) held n t cs = some y):cs.length = P.cellsOf t ∧ ∀ (k:Nat) (f:Field),fs[k]? = some f → ∃ m x,DataW.trod enc P w base (fun _=>true) held m f.type ((cs.drop f.offset).take (P.cellsOf f.type)) = some x:=by
 obtain ⟨xs,m,_,rfl,hl,hlen,hf⟩:=DataW.trod_struct ht h
 refine ⟨hl,fun k f hk=>?_⟩
 have hk':k < fs.size:=by
  rcases Nat.lt_or_ge k fs.size with h|h
  ·exact h
  ·rw [Array.getElem?_eq_none h] at hk;cases hk
 have:=hf k f hk
 rw [List.getElem?_eq_getElem (by omega)] at this
 exact ⟨m,_,this⟩
/-- Each field reads. -/
def FRd (enc:TypeId × Value → H) (P:Program) (w:World) (base:Nat) (held:Bool) (cs:List Value):List Field → Prop
 | []=>True
 | f :: fs=>(∃ m x,DataW.trod enc P w base (fun _=>true) held m f.type ((cs.drop f.offset).take (P.cellsOf f.type)) = some x) ∧ FRd enc P w base held cs fs
theorem FRd.of {cs:List Value}:∀ {l:List Field},(∀ f ∈ l,∃ m x,DataW.trod enc P w base (fun _=>true) held m f.type ((cs.drop f.offset).take (P.cellsOf f.type)) = some x) → FRd enc P w base held cs l
 | [],_=>trivial
 | _ :: _,h=>⟨h _ List.mem_cons_self,FRd.of fun f hf=>h f (List.mem_cons_of_mem _ hf)⟩
theorem rdr_fields {t:TypeId} {fs:Array Field} {n:Nat} {cs:List Value} {y:DataW H × List MemPlace} (ht:P.underlying t = some (.struct fs)) (h:DataW.trod enc P w base (fun _=>true) held n t cs = some y):cs.length = P.cellsOf t ∧ FRd enc P w base held cs fs.toList:=by
 obtain ⟨h1,h2⟩:=rdr_field ht h
 refine ⟨h1,FRd.of fun f hf=>?_⟩
 obtain ⟨k,hk,rfl⟩:=List.getElem_of_mem hf
 exact h2 k _ (by simp)
end
end Go.Proofs.Ytkejebdfbkgaiaa
