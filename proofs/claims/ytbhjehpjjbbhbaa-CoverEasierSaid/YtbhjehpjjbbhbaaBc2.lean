/- The arithmetic, comparing and other plain operations: abstract and real agree / The operations that make or write memory: abstract and real agree / Literals, make and append: abstract and real agree / Keys of maps and the search for an entry -/
import Derived.Test.YtbhjehpjjbbhbaaBc1
import Derived.Laws.StructEq
import Derived.Laws.MakeOwn
import Derived.Laws.CopyRow
import Derived.DeepKeys3
import Derived.MapKept

namespace Go.Proofs.Ytbhjehpjjbbhbaa
open Go.RowKit
variable {F:Nat → Prop}

section
variable {P:Program} {g:GM} {h:List AB} {w:World} {r:AV} {h':List AB}

theorem run_eqGuard_int (op:BinOp) (t:TypeId) (x y:Operand) (k k':IntKind) (a b:Int) (w:World):(eqGuard op t x y (.int k a) (.int k' b)).run P w = .ok () w:=by
 unfold eqGuard
 cases op <;> rfl
theorem val_bin {op:BinOp} {t:TypeId} {x y:Operand} {v j:AV} {u u2:Value} (hr:rep (MM F g h) w v g u) (hj:rep (MM F g h) w j g u2)
  (H:abin op v j (fun a=>a = r)):∃ u',(do eqGuard op t x y u u2;binOp op t u u2:Sem Value).run P w = .ok u' w ∧ rep (MM F g h) w r g u':=by
 cases v <;> cases j <;> simp only [abin] at H
 case int.int k a k' b =>
  obtain rfl:=hr
  obtain rfl:=hj
  simp only [Sem.run_bind,run_eqGuard_int,Result.andThen_ok]
  cases op <;> simp only [ishift,ibin] at H
  case shl =>
   obtain ⟨h0,rfl⟩:=H
   refine ⟨_,?_,rfl⟩
   have h0':¬ b < 0:=by omega
   simp [binOp,Op.shift,h0']
  case shr =>
   obtain ⟨h0,rfl⟩:=H
   refine ⟨_,?_,rfl⟩
   have h0':¬ b < 0:=by omega
   simp [binOp,Op.shift,h0']
  case quo =>
   obtain ⟨rfl,h0,rfl⟩:=H
   refine ⟨_,?_,rfl⟩
   simp [binOp,Op.intDiv,h0]
  case rem =>
   obtain ⟨rfl,h0,rfl⟩:=H
   refine ⟨_,?_,rfl⟩
   simp [binOp,Op.intDiv,h0]
  case eql =>
   obtain ⟨rfl,rfl⟩:=H
   exact ⟨_,by simp [binOp,Op.intCmp];rfl,rfl⟩
  case neq =>
   obtain ⟨rfl,rfl⟩:=H
   exact ⟨_,by simp [binOp,Op.intCmp];rfl,rfl⟩
  all_goals
   obtain ⟨rfl,rfl⟩:=H
   refine ⟨_,?_,rfl⟩
   simp [binOp,Op.intArith,Op.intBits,Op.intCmp]
theorem val_binb {neg:Bool} {t:TypeId} {x y:Operand} {a b:Bool} (ht:P.underlying t = some .bool) :
  (do eqGuard (if neg then .neq else .eql) t x y (.bool a) (.bool b);binOp (if neg then .neq else .eql) t (.bool a) (.bool b):Sem Value).run P w = .ok (.bool (if neg then !(a == b) else (a == b))) w:=by
 have hg:∀ op,(eqGuard op t x y (.bool a) (.bool b)).run P w = .ok () w:=fun op=>by
  unfold eqGuard
  cases op <;> rfl
 simp only [Sem.run_bind,hg,Result.andThen_ok]
 cases neg
 ·simp only [Bool.false_eq_true,if_false];exact run_eql_bool w t a b ht
 ·simp only [if_true];exact run_neq_bool w t a b ht

theorem equal_nil {t:TypeId} {d:TypeDesc} {v j:AV} {u u2:Value} {q:Bool} {tag:Nat} (ht:P.underlying t = some d) (hd:nilT d = some tag) (hr:rep (MM F g h) w v g u) (hj:rep (MM F g h) w j g u2) (H:aeqz tag v j (fun b=>b = q)) (n:Nat) :
  (Op.equalIn (n + 1) t u u2).run P w = .ok q w:=by
 unfold aeqz at H
 split at H
 ·obtain rfl:=H
  obtain ⟨A,cap,rfl,hz,_⟩:=hr
  obtain ⟨B,cap',rfl,hz',_⟩:=hj
  have hA:=hz.1 rfl
  subst hA
  cases d <;> simp [nilT] at hd
  simp only [Op.equalIn,Sem.run_bind,run_underlying ht,Result.andThen_ok]
  cases B <;> simp_all
 ·obtain rfl:=H
  obtain ⟨A,cap,rfl,hz,_⟩:=hr
  obtain ⟨B,cap',rfl,hz',_⟩:=hj
  have hB:=hz'.1 rfl
  subst hB
  cases d <;> simp [nilT] at hd
  simp only [Op.equalIn,Sem.run_bind,run_underlying ht,Result.andThen_ok]
  cases A <;> simp_all
 ·obtain rfl:=H
  obtain ⟨b,cap,_,rfl,_⟩:=hr
  obtain ⟨B,cap',rfl,hz',_⟩:=hj
  have hB:=hz'.1 rfl
  subst hB
  cases d <;> simp [nilT] at hd
  simp [Op.equalIn,run_underlying ht]
 ·obtain rfl:=H
  obtain rfl:=hr
  obtain rfl:=hj
  cases d <;> simp [nilT] at hd
  simp [Op.equalIn,run_underlying ht]
 ·obtain rfl:=H
  obtain ⟨b,cap,_,rfl⟩:=hr
  obtain rfl:=hj
  cases d <;> simp [nilT] at hd
  simp [Op.equalIn,run_underlying ht]
 ·obtain rfl:=H
  obtain ⟨b,off,rfl,_⟩:=hr
  obtain rfl:=hj
  cases d <;> simp [nilT] at hd
  simp [Op.equalIn,run_underlying ht]
 ·obtain rfl:=H
  obtain rfl:=hr
  obtain rfl:=hj
  cases d <;> simp [nilT] at hd
  simp [Op.equalIn,run_underlying ht]
 ·obtain rfl:=H
  obtain ⟨cs,rfl,_⟩:=hr
  obtain rfl:=hj
  cases d <;> simp [nilT] at hd
  simp [Op.equalIn,run_underlying ht]
 ·exact H.elim
theorem val_eqz {t:TypeId} {d:TypeDesc} {v j:AV} {u u2:Value} {q:Bool} {tag:Nat} {neg:Bool} {x y:Operand} (ht:P.underlying t = some d) (hd:nilT d = some tag) (hr:rep (MM F g h) w v g u) (hj:rep (MM F g h) w j g u2) (H:aeqz tag v j (fun b=>b = q)) :
  (do eqGuard (if neg then .neq else .eql) t x y u u2;binOp (if neg then .neq else .eql) t u u2:Sem Value).run P w = .ok (.bool (if neg then !q else q)) w:=by
 have he:(Op.equal t u u2).run P w = .ok q w:=by
  unfold Op.equal Op.maxDepth
  exact equal_nil ht hd hr hj H 9999
 have hs:(∃ a n c b m d,u = .slice a n c ∧ u2 = .slice b m d) ∨ (∃ a b,u = .pointer a ∧ u2 = .pointer b) ∨ (u = .nilFunc ∧ u2 = .nilFunc) ∨ (∃ f cs,u = .func f #[] cs ∧ u2 = .nilFunc):=by
  unfold aeqz at H
  split at H
  ·obtain ⟨A,cap,rfl,_⟩:=hr
   obtain ⟨B,cap',rfl,_⟩:=hj
   exact .inl ⟨_,_,_,_,_,_,rfl,rfl⟩
  ·obtain ⟨A,cap,rfl,_⟩:=hr
   obtain ⟨B,cap',rfl,_⟩:=hj
   exact .inl ⟨_,_,_,_,_,_,rfl,rfl⟩
  ·obtain ⟨b,cap,_,rfl,_⟩:=hr
   obtain ⟨B,cap',rfl,_⟩:=hj
   exact .inl ⟨_,_,_,_,_,_,rfl,rfl⟩
  ·obtain rfl:=hr
   obtain rfl:=hj
   exact .inr (.inl ⟨_,_,rfl,rfl⟩)
  ·obtain ⟨b,cap,_,rfl⟩:=hr
   obtain rfl:=hj
   exact .inr (.inl ⟨_,_,rfl,rfl⟩)
  ·obtain ⟨b,off,rfl,_⟩:=hr
   obtain rfl:=hj
   exact .inr (.inl ⟨_,_,rfl,rfl⟩)
  ·obtain rfl:=hr
   obtain rfl:=hj
   exact .inr (.inr (.inl ⟨rfl,rfl⟩))
  ·obtain ⟨cs,rfl,_⟩:=hr
   obtain rfl:=hj
   exact .inr (.inr (.inr ⟨_,_,rfl,rfl⟩))
  ·exact H.elim
 have hg:(eqGuard (if neg then .neq else .eql) t x y u u2).run P w = .ok () w:=by
  rcases hs with ⟨a,n,c,b,m,dd,rfl,rfl⟩|⟨a,b,rfl,rfl⟩|⟨rfl,rfl⟩|⟨f,cs,rfl,rfl⟩ <;> cases neg <;> rfl
 simp only [Sem.run_bind,hg,Result.andThen_ok]
 rcases hs with ⟨a,n,c,b,m,dd,rfl,rfl⟩|⟨a,b,rfl,rfl⟩|⟨rfl,rfl⟩|⟨f,cs,rfl,rfl⟩ <;> cases neg <;> simp [binOp,he]
theorem val_eqa {t:TypeId} {fs:Array Field} {m:Nat} {c c':Nat → AV} {u u2:Value} {q neg:Bool} {x y:Operand} (ht:P.underlying t = some (.struct fs)) (hf:flatS P t fs = true) (hm:m = fs.size) (hr:rep (MM F g h) w (.agg m c) g u) (hj:rep (MM F g h) w (.agg m c') g u2)
  (H:eqcs m c c' m (fun b=>b = q)):(do eqGuard (if neg then .neq else .eql) t x y u u2;binOp (if neg then .neq else .eql) t u u2:Sem Value).run P w = .ok (.bool (if neg then !q else q)) w:=by
 obtain ⟨xs,rfl,hxs,hx⟩:=hr
 obtain ⟨ys,rfl,hys,hy⟩:=hj
 subst hm
 simp only [flatS,Bool.and_eq_true,Bool.not_eq_true',List.all_eq_true,List.mem_range] at hf
 obtain ⟨⟨hs,hg⟩,hf⟩:=hf
 have hfo:P.fieldsOf t = fs:=by simp [Program.fieldsOf,ht]
 have key:∀ (k:Nat) (q:Bool),k ≤ fs.size → eqcs fs.size c c' k (fun b=>b = q) → ∀ D,(Op.eqFields (D + 1) xs ys (fs.toList.drop (fs.size - k))).run P w = .ok q w:=by
  intro k
  induction k with
  | zero =>
   intro q _ hq D
   simp only [eqcs] at hq
   subst hq
   rw [Nat.sub_zero,List.drop_eq_nil_of_le (by simp)]
   simp [Op.eqFields]
  | succ k ih =>
   intro q hk hq D
   obtain ⟨j,hj⟩:∃ j,j = fs.size - (k + 1):=⟨_,rfl⟩
   have hjl:j < fs.size:=by omega
   simp only [eqcs,← hj] at hq
   have hd:fs.toList.drop (fs.size - (k + 1)) = fs[j] :: fs.toList.drop (fs.size - k):=by
    rw [← hj,List.drop_eq_getElem_cons (by simpa using hjl),Array.getElem_toList,show j + 1 = fs.size - k by omega]
   have hfj:=hf j hjl
   rw [Array.getElem?_eq_getElem hjl] at hfj
   simp only [Bool.and_eq_true,beq_iff_eq,bne_iff_ne,ne_eq] at hfj
   obtain ⟨⟨⟨h1,h2⟩,h3⟩,h4⟩:=hfj
   obtain ⟨a,ha,_,hra⟩:=hx j hjl
   obtain ⟨b,hb,_,hrb⟩:=hy j hjl
   have pa:(part fs[j].type xs fs[j].offset).run P w = .ok a w:=by simp [part,Sem.run_bind,tyAgg_run h3,h1,ha]
   have pb:(part fs[j].type ys fs[j].offset).run P w = .ok b w:=by simp [part,Sem.run_bind,tyAgg_run h3,h1,hb]
   obtain ⟨q1,hq1,k1⟩:=eqc_one hq
   obtain ⟨q2,hq2,k2⟩:=eqcs_one hq1
   have he:(Op.equalIn (D + 1) fs[j].type a b).run P w = .ok q1 w:=by
    have hq1':=k1 (fun b=>b = q1) rfl
    clear hq k1
    unfold eqc at hq1'
    split at hq1'
    ·rename_i k a' k' b' e1 e2
     rw [e1] at hra
     rw [e2] at hrb
     obtain rfl:=hra
     obtain rfl:=hrb
     obtain ⟨rfl,rfl⟩:=hq1'
     split at h4
     ·rename_i kk hu
      simp only [Op.equalIn,Sem.run_bind,run_underlying hu,Result.andThen_ok,if_true,Sem.run_pure]
      congr 1
     ·cases h4
    ·exact hq1'.elim
   have hrest:=ih q2 (by omega) (k2 _ rfl) D
   rw [hd]
   subst hq2
   simp only [Op.eqFields,ne_eq,h2,not_false_eq_true,if_true,Sem.run_bind,pa,pb,Result.andThen_ok,he]
   cases q1
   ·simp
   ·simpa using hrest
 have he:(Op.equal t (.agg xs) (.agg ys)).run P w = .ok q w:=by
  unfold Op.equal Op.maxDepth
  rw [run_equalIn_struct w 9999 t xs ys (by rw [hfo];exact ht) hs,hfo]
  have:=key fs.size q (Nat.le_refl _) H 9998
  rw [Nat.sub_self] at this
  simpa using this
 have hgd:(eqGuard (if neg then .neq else .eql) t x y (.agg xs) (.agg ys)).run P w = .ok () w:=by
  cases neg <;> simp [eqGuard,Sem.run_bind,hg]
 simp only [Sem.run_bind,hgd,Result.andThen_ok]
 cases neg <;> simp [binOp,he]
end
end Go.Proofs.Ytbhjehpjjbbhbaa

namespace Go.Proofs.Ytbhjehpjjbbhbaa
open Go.RowKit
variable {F:Nat → Prop}

theorem cells_of_elem {M:Nat → Prop} {w:World} {g:GM} {m:Nat} {v:AV} {u:Value} (h:elemOK m v) (hr:rep M w v g u):u.cells.size = m ∧ ∀ i,i < m → ∃ x,u.cells[i]? = some x ∧ x.oneCell' = true ∧ rep M w (elemC v i) g x:=by
 have key:v.one = true → m = 1 → elemC v = (fun _=>v) → u.cells.size = m ∧ ∀ i,i < m → ∃ x,u.cells[i]? = some x ∧ x.oneCell' = true ∧ rep M w (elemC v i) g x:=fun h1 hm he=>by
  obtain ⟨a,b⟩:=one_of_rep h1 hr
  subst hm
  refine ⟨by rw [b];rfl,fun i hi=>⟨u,?_,a,by rw [he];exact hr⟩⟩
  obtain rfl:i = 0:=by omega
  rw [b];rfl
 cases v <;> simp only [elemOK,AV.one,Bool.false_eq_true,false_and] at h
 case agg m' c =>
  obtain ⟨cs,rfl,hm,hc⟩:=hr
  subst h
  exact ⟨hm,hc⟩
 all_goals exact key rfl h.2 rfl
theorem pure_elem {v:AV} (h:v.pure) (m:Nat) (hm:elemOK m v) (i:Nat) (hi:i < m):(elemC v i).pure:=by
 cases v <;> simp only [elemOK] at hm <;> simp only [elemC] <;> first|exact h|(subst hm;exact h i hi)

section
variable {P:Program} {g:GM} {h:List AB} {w:World} {r:AV} {h':List AB}

theorem Chg.alloc' (w:World) (o:Obj):Chg (fun _=>False) w (w.alloc o):=Chg.alloc _ w o
theorem Tr.newBlock (k:HOK F g w h) {w':World} (hc:Chg (fun _=>False) w w') {cs:Array Value} {t:TypeId} (hh:w'.heap[w.heap.size]? = some (.cells cs t (0,0))) (cap:Nat) (x:AB)
  (hx:match x with
   | .dead=>True
   | .box m c=>cs.size = m ∧ ∀ i,i < m → ∃ u,cs[i]? = some u ∧ u.oneCell' = true ∧ rep (MM F g h) w (c i) g u
   | .row n sz c=>n ≤ cap ∧ cap ≤ maxLen ∧ cs.size = cap * sz ∧ ∀ k,k < n → ∀ o,o < sz → ∃ u,cs[k * sz + o]? = some u ∧ u.oneCell' = true ∧ rep (MM F g h) w (c k o) g0 u
   | .rwg n sz c=>n ≤ cap ∧ cap ≤ maxLen ∧ cs.size = cap * sz ∧ ∀ k,k < n → ∀ o,o < sz → ∃ u,cs[k * sz + o]? = some u ∧ u.oneCell' = true ∧ rep (MM F g h) w (c k o) g u
   | _=>False) :
  Tr F g h w (g.push h.length (w.heap.size,cap)) (h ++ [x]) w':=by
 have hM:∀ b,b < w.heap.size → MM F (g.push h.length (w.heap.size,cap)) (h ++ [x]) b → MM F g h b:=fun b hb hm=>(MM_push k hm).resolve_right (fun ⟨e,_⟩=>by omega)
 have hc':Chg (MM F g h) w w':=hc.weak (fun _ _ h=>h.elim)
 refine Tr.push k hc (Nat.le_refl _) ?_
 cases x with
 | dead=>trivial
 | box m c =>
  obtain ⟨h1,h2⟩:=hx
  refine ⟨cs,t,hh,h1,fun i hi=>?_⟩
  obtain ⟨u,a,b,c'⟩:=h2 i hi
  exact ⟨u,a,b,rep_mono hc' hM _ (GM.le_push k _) c'⟩
 | row n sz c =>
  obtain ⟨h0,h1,h2,h3⟩:=hx
  refine ⟨h0,h1,cs,t,hh,h2,fun i hi o ho=>?_⟩
  obtain ⟨u,a,b,c'⟩:=h3 i hi o ho
  exact ⟨u,a,b,rep_mono hc' hM _ (GM.le_refl _) c'⟩
 | rwg n sz c =>
  obtain ⟨h0,h1,h2,h3⟩:=hx
  refine ⟨h0,h1,cs,t,hh,h2,fun i hi o ho=>?_⟩
  obtain ⟨u,a,b,c'⟩:=h3 i hi o ho
  exact ⟨u,a,b,rep_mono hc' hM _ (GM.le_push k _) c'⟩
 | mp=>exact hx.elim
 | mit=>exact hx.elim

theorem val_box {t : TypeId} {v : AV} {u : Value} (hok : HOK F g w h) (hr : rep (MM F g h) w v g u) (H : aop (.box (.k v)) (fun x => x.ev (fun _ => .bot)) h (fun a b => a = r ∧ b = h')) :
    ∃ u' w' g', (Instr.box t u).run P w = .ok u' w' ∧ rep (MM F g' h') w' r g' u' ∧ Tr F g h w g' h' w' := by
  have run : (Instr.box t u).run P w = .ok (.pointer (some ⟨w.heap.size, 0, none⟩)) (w.alloc (.cells u.cells t)) := by
    simp [Instr.box, newVar, newRow]
  have key : ∀ m c, elemOK m v → (∀ i, i < m → elemC v i = c i) → ∃ u' w' g', (Instr.box t u).run P w = .ok u' w' ∧ rep (MM F g' (h ++ [.box m c])) w' (.ptr h.length 0) g' u' ∧ Tr F g h w g' (h ++ [.box m c]) w' := fun m c hm hc => by
    obtain ⟨a, b⟩ := cells_of_elem hm hr
    refine ⟨_, _, _, run, ⟨w.heap.size, 0, by simp [GM.push], rfl⟩, Tr.newBlock hok (Chg.alloc' _ _) (heap_alloc_new _ _) 0 (.box m c) ⟨a, fun i hi => ?_⟩⟩
    show ∃ u_1, _ ∧ _ ∧ rep (MM F g h) w (c i) g u_1
    rw [← hc i hi]
    exact b i hi
  simp only [aop, AX.ev] at H
  cases v <;> simp only at H
  case agg m c => obtain ⟨rfl, rfl⟩ := H; exact key m c rfl (fun _ _ => rfl)
  all_goals
    obtain ⟨rfl, rfl⟩ := H
    exact key 1 _ ⟨rfl, rfl⟩ (fun i hi => by obtain rfl : i = 0 := by omega
                                             rfl)

theorem stM_get (c:Nat → AV) (o:Nat) (cy:Nat → AV):∀ (m i:Nat),stM c o cy m i = if o ≤ i ∧ i < o + m then cy (i - o) else c i
 | 0,i=>by simp [stM];omega
 | m + 1,i=>by
  simp only [stM,updN]
  by_cases e:i = o + m
  ·subst e
   simp
  ·rw [if_neg e,stM_get c o cy m i]
   by_cases h1:o ≤ i ∧ i < o + m
   ·rw [if_pos h1,if_pos ⟨h1.1,by omega⟩]
   ·rw [if_neg h1,if_neg (by omega)]
/-- Cells written over cells. -/
def overs (cur:Array Value) (o:Nat) (vs:Array Value):Array Value:=(cur.toList.take o ++ vs.toList ++ cur.toList.drop (o + vs.size)).toArray
theorem overs_size {cur:Array Value} {o:Nat} {vs:Array Value} (h:o + vs.size ≤ cur.size):(overs cur o vs).size = cur.size:=by
 simp [overs];omega
theorem overs_in {cur:Array Value} {o:Nat} {vs:Array Value} (h:o + vs.size ≤ cur.size) {i:Nat} (hi:i < vs.size):(overs cur o vs)[o + i]? = vs[i]?:=by
 have hl:(cur.toList.take o).length = o:=by simp;omega
 simp only [overs,List.getElem?_toArray,List.append_assoc]
 rw [List.getElem?_append_right (by omega),hl,List.getElem?_append_left (by simp;omega),Nat.add_sub_cancel_left]
 simp
theorem overs_out {cur:Array Value} {o:Nat} {vs:Array Value} (h:o + vs.size ≤ cur.size) {i:Nat} (hi:i < o ∨ o + vs.size ≤ i):(overs cur o vs)[i]? = cur[i]?:=by
 have hl:(cur.toList.take o).length = o:=by simp;omega
 simp only [overs,List.getElem?_toArray,List.append_assoc]
 rcases hi with hi|hi
 ·rw [List.getElem?_append_left (by omega),List.getElem?_take]
  simp [hi]
 ·rw [List.getElem?_append_right (by omega),hl,List.getElem?_append_right (by simp;omega),List.getElem?_drop]
  simp
  congr 1
  omega
theorem Chg.setRow (w:World) (b:Nat) (cs:Array Value):Chg (fun y=>y = b) w (w.setRow b cs) :=
 ⟨rfl,rfl,rfl,by simp,fun x _ hn=>by simp only [World.setRow];rw [Array.getElem?_modify,if_neg (fun h=>hn h.symm)]⟩
theorem run_store_row {t ty:TypeId} {b o:Nat} {cur:Array Value} {u:Value} {m:Nat} (hs:tySz P t = some m) (hh:w.heap[b]? = some (.cells cur ty (0,0))) (hm:u.cells.size = m) (hc:∀ i,i < m → ∃ x,u.cells[i]? = some x ∧ x.oneCell' = true) (ho:o + m ≤ cur.size) :
  (Instr.storeAt t (.pointer (some ⟨b,o,none⟩)) u).run P w = .ok () (w.setRow b (overs cur o u.cells)):=by
 have h1:∀ v ∈ u.cells.toList,v.oneCell' = true:=fun v hv=>by
  obtain ⟨i,hi,rfl⟩:=List.getElem_of_mem hv
  obtain ⟨x,hx,h1⟩:=hc i (by simpa [← hm] using hi)
  rw [Array.getElem?_eq_getElem (by simpa using hi)] at hx
  injection hx with hx
  rw [Array.getElem_toList,hx]
  exact h1
 have:=run_storeCells_at P b o ty u.cells.toList 0 cur w hh (by simp;omega) h1
 simp only [Instr.storeAt,Instr.sureAddr,Sem.run_bind,Sem.run_pure,Result.andThen_ok,storeVar,tySz_run hs,hm,ne_eq,not_true_eq_false,if_false,this,overs,Nat.add_zero,Array.length_toList]
theorem mul_add_inj {sz k k' o o':Nat} (ho:o < sz) (ho':o' < sz) (h:k' * sz + o' = k * sz + o):k' = k ∧ o' = o:=by
 have h1:(k' * sz + o') / sz = k':=by rw [Nat.mul_comm,Nat.mul_add_div (by omega),Nat.div_eq_of_lt ho'];omega
 have h2:(k * sz + o) / sz = k:=by rw [Nat.mul_comm,Nat.mul_add_div (by omega),Nat.div_eq_of_lt ho];omega
 have:k' = k:=by rw [← h1,← h2,h]
 subst this
 exact ⟨rfl,by omega⟩

/-- What a row holds, of either kind. -/
def RwOK (M:Nat → Prop) (gg:GM) (w:World) (b cap n sz:Nat) (c:Nat → Nat → AV):Prop :=
 n ≤ cap ∧ cap ≤ maxLen ∧ ∃ cs t,w.heap[b]? = some (.cells cs t (0,0)) ∧ cs.size = cap * sz ∧ ∀ k,k < n → ∀ o,o < sz → ∃ u,cs[k * sz + o]? = some u ∧ u.oneCell' = true ∧ rep M w (c k o) gg u
theorem rw_get {M:Nat → Prop} {q:Bool} {n sz b cap:Nat} {c:Nat → Nat → AV} (h:ABOK M g w b cap (.rw q n sz c)):RwOK M (gq q g) w b cap n sz c:=by cases q <;> exact h
theorem rw_mk {M:Nat → Prop} {q:Bool} {n sz b cap:Nat} {c:Nat → Nat → AV} (h:RwOK M (gq q g) w b cap n sz c):ABOK M g w b cap (.rw q n sz c):=by cases q <;> exact h
theorem val_st {t:TypeId} {m:Nat} {v y:AV} {u u2:Value} (hok:HOK F g w h) (hs:tySz P t = some m) (hr:rep (MM F g h) w v g u) (hy:rep (MM F g h) w y g u2) (H:aop (.st m (.k v) (.k y)) (fun x=>x.ev (fun _=>.bot)) h (fun a b=>a = r ∧ b = h')) :
  ∃ w',(Instr.storeAt t u u2).run P w = .ok () w' ∧ r = und ∧ Tr F g h w g h' w':=by
 simp only [aop,AX.ev] at H
 cases v <;> simp only at H
 case ptr d o =>
  obtain ⟨b,cap,hg,rfl⟩:=hr
  split at H
  ·rename_i m' c hd
   obtain ⟨ho,he,rfl,rfl⟩:=H
   obtain ⟨cs,t',hh,hm,hc⟩:=hok.box d m' c b cap hd hg
   obtain ⟨e1,e2⟩:=cells_of_elem he hy
   have hrun:=run_store_row hs hh e1 (fun i hi=>by obtain ⟨x,a,b,_⟩:=e2 i hi;exact ⟨x,a,b⟩) (by omega:o + m ≤ cs.size)
   have hfit:o + u2.cells.size ≤ cs.size:=by omega
   refine ⟨_,hrun,rfl,Tr.upd hok ⟨_,hd,trivial⟩ hg trivial (Chg.setRow _ _ _) ⟨_,t',setRow_heap _ _ _ _ _ _ hh,by rw [overs_size hfit];exact hm,fun i hi=>?_⟩⟩
   have hch:Chg (MM F g h) w (w.setRow b (overs cs o u2.cells)):=(Chg.setRow w b _).weak (fun x _ e=>by subst e;exact .inr ⟨d,cap,⟨_,hd,trivial⟩,hg⟩)
   rw [tab_get hi,stM_get]
   by_cases hin:o ≤ i ∧ i < o + m
   ·rw [if_pos hin]
    obtain ⟨x,a,a1,a2⟩:=e2 (i - o) (by omega)
    refine ⟨x,?_,a1,rep_mono hch (fun _ _ h=>h) _ (GM.le_refl _) a2⟩
    have:=overs_in hfit (i:=i - o) (by omega)
    rw [show o + (i - o) = i by omega] at this
    rw [this];exact a
   ·rw [if_neg hin]
    obtain ⟨x,a,a1,a2⟩:=hc i hi
    refine ⟨x,?_,a1,rep_mono hch (fun _ _ h=>h) _ (GM.le_refl _) a2⟩
    rw [overs_out hfit (by omega)];exact a
  ·exact H.elim
 case rp d sz k o =>
  obtain ⟨b,cap,hg,rfl⟩:=hr
  have key:∀ (q:Bool) (n:Nat) (c:Nat → Nat → AV),h[d]? = some (.rw q n sz c) → k < n → elemOK m y → (q = false → y.pure) → ((m = 1 ∧ o < sz ∧ r = und ∧ h' = h.set d (.rw q n sz (updR c k o (elemC y 0)))) ∨ (m = sz ∧ o = 0 ∧ r = und ∧ h' = h.set d (.rw q n sz (updRm c k (elemC y))))) →
    ∃ w',(Instr.storeAt t (.pointer (some ⟨b,k * sz + o,none⟩)) u2).run P w = .ok () w' ∧ r = und ∧ Tr F g h w g h' w':=by
   intro q n c hd hk he hp hcases
   obtain ⟨hn,hcm,cs,t',hh,hm,hc⟩:=rw_get (hok.all hd hg)
   obtain ⟨e1,e2⟩:=cells_of_elem he hy
   have hlive:live h d:=⟨_,hd,rw_live q n sz c⟩
   have hpure:∀ i,i < m → ∀ (w:World) (x:Value),rep (MM F g h) w (elemC y i) g x → rep (MM F g h) w (elemC y i) (gq q g) x:=fun i hi w x hx=>by
    cases q with
    | true=>exact hx
    | false=>exact rep_pure _ (pure_elem (hp rfl) m he i hi) hx
   have hks:(k + 1) * sz ≤ cap * sz:=Nat.mul_le_mul_right _ (by omega)
   rw [Nat.add_mul,Nat.one_mul] at hks
   have hom:k * sz + o + m ≤ cs.size:=by rcases hcases with ⟨a,b,_⟩|⟨a,b,_⟩ <;> omega
   have hrun:=run_store_row hs hh e1 (fun i hi=>by obtain ⟨x,a,b,_⟩:=e2 i hi;exact ⟨x,a,b⟩) hom
   have hfit:k * sz + o + u2.cells.size ≤ cs.size:=by omega
   have hch:Chg (MM F g h) w (w.setRow b (overs cs (k * sz + o) u2.cells)):=(Chg.setRow w b _).weak (fun x _ e=>by subst e;exact .inr ⟨d,cap,hlive,hg⟩)
   rcases hcases with ⟨rfl,ho,hre,hh'⟩|⟨rfl,rfl,hre,hh'⟩
   ·subst hh'
    refine ⟨_,hrun,hre,Tr.upd hok hlive hg (rw_live _ _ _ _) (Chg.setRow _ _ _) (rw_mk ⟨hn,hcm,_,t',setRow_heap _ _ _ _ _ _ hh,by rw [overs_size hfit];exact hm,fun k' hk' o' ho'=>?_⟩)⟩
    simp only [updR]
    by_cases hin:k' = k ∧ o' = o
    ·rw [if_pos hin]
     obtain ⟨rfl,rfl⟩:=hin
     obtain ⟨x,a,a1,a2⟩:=e2 0 (by omega)
     refine ⟨x,?_,a1,rep_mono hch (fun _ _ h=>h) _ (GM.le_refl _) (hpure 0 (by omega) _ _ a2)⟩
     have:=overs_in hfit (i:=0) (by omega)
     rw [Nat.add_zero] at this
     rw [this];exact a
    ·rw [if_neg hin]
     obtain ⟨x,a,a1,a2⟩:=hc k' hk' o' ho'
     refine ⟨x,?_,a1,rep_mono hch (fun _ _ h=>h) _ (GM.le_refl _) a2⟩
     rw [overs_out hfit ?_]
     ·exact a
     ·rw [e1]
      have:¬ (k' * sz + o' = k * sz + o):=fun e=>hin (mul_add_inj ho ho' e)
      omega
   ·subst hh'
    refine ⟨_,hrun,hre,Tr.upd hok hlive hg (rw_live _ _ _ _) (Chg.setRow _ _ _) (rw_mk ⟨hn,hcm,_,t',setRow_heap _ _ _ _ _ _ hh,by rw [overs_size hfit];exact hm,fun k' hk' o' ho'=>?_⟩)⟩
    simp only [updRm]
    by_cases hin:k' = k
    ·rw [if_pos hin]
     subst hin
     obtain ⟨x,a,a1,a2⟩:=e2 o' ho'
     refine ⟨x,?_,a1,rep_mono hch (fun _ _ h=>h) _ (GM.le_refl _) (hpure o' ho' _ _ a2)⟩
     have:=overs_in hfit (i:=o') (by omega)
     rw [show k' * m + 0 + o' = k' * m + o' by omega] at this
     rw [this];exact a
    ·rw [if_neg hin]
     obtain ⟨x,a,a1,a2⟩:=hc k' hk' o' ho'
     refine ⟨x,?_,a1,rep_mono hch (fun _ _ h=>h) _ (GM.le_refl _) a2⟩
     rw [overs_out hfit ?_]
     ·exact a
     ·rw [e1]
      rcases Nat.lt_or_gt_of_ne hin with hlt|hgt
      ·left
       have:(k' + 1) * m ≤ k * m:=Nat.mul_le_mul_right _ hlt
       rw [Nat.add_mul,Nat.one_mul] at this
       omega
      ·right
       have:(k + 1) * m ≤ k' * m:=Nat.mul_le_mul_right _ hgt
       rw [Nat.add_mul,Nat.one_mul] at this
       omega
  split at H
  ·rename_i n sz' c hd
   obtain ⟨hk,rfl,he,hp,H⟩:=H
   refine key false n c hd hk he (fun _=>hp) ?_
   rcases H with ⟨a,b,c,d⟩|⟨a,b,c,d⟩
   ·exact .inl ⟨a,b,c.symm,d.symm⟩
   ·exact .inr ⟨a,b,c.symm,d.symm⟩
  ·rename_i n sz' c hd
   obtain ⟨hk,rfl,he,H⟩:=H
   refine key true n c hd hk he (fun h=>by cases h) ?_
   rcases H with ⟨a,b,c,d⟩|⟨a,b,c,d⟩
   ·exact .inl ⟨a,b,c.symm,d.symm⟩
   ·exact .inr ⟨a,b,c.symm,d.symm⟩
  ·exact H.elim
theorem val_clr {t ty e:TypeId} {i:TypeInfo} {zs:List Value} {v:AV} {u:Value} {ats:Array TypeId} (hok:HOK F g w h) (ha:ats[0]? = some t) (ht:P.underlying t = some (.slice e)) (hi:P.info? e = some i) (hz:∃ z,i.zero = some z ∧ z.cells.size = i.size ∧ zs = z.cells.toList ∧ ∀ u ∈ zs,u.oneCell' = true) (hr:rep (MM F g h) w v g u)
  (H:aop (.clr i.size (.k v)) (fun x=>x.ev (fun _=>.bot)) h (fun a b=>a = r ∧ b = h')):∃ w',(Builtin.clear_ ats ty #[u]).run P w = .ok (.tuple #[]) w' ∧ r = und ∧ Tr F g h w g h' w':=by
 simp only [aop,AX.ev] at H
 cases v <;> simp only at H
 rename_i d sz' lo n
 obtain ⟨b,cap,p,hg,rfl,hcap,hp⟩:=hr
 split at H
 ·rename_i N sz2 c hd
  obtain ⟨rfl,rfl,hlo,rfl,rfl⟩:=H
  obtain ⟨hn,hcm,cs,t',hh,hm,hc⟩:=hok.row d N _ c b cap hd hg
  obtain ⟨z,z1,z2,rfl,z4⟩:=hz
  by_cases hn0:n = 0
  ·subst hn0
   refine ⟨w,by simp [Builtin.clear_,ha,run_underlying ht],rfl,Tr.upd hok ⟨_,hd,trivial⟩ hg trivial (Chg.refl _ _) ⟨by omega,hcm,cs,t',hh,hm,fun k hk o ho=>hc k (by omega) o ho⟩⟩
  ·have hp':=hp (by omega)
   subst hp'
   have hlen:(Builtin.zeroCells z.cells n).toList.length = n * i.size:=by simp [Builtin.zeroCells,z2]
   have hone:∀ v ∈ (Builtin.zeroCells z.cells n).toList,v.oneCell' = true:=fun v hv=>by
    simp only [Builtin.zeroCells,Array.toList_map,List.mem_map] at hv
    obtain ⟨j,hj,rfl⟩:=hv
    simp only [Array.toList_range,List.mem_range,z2] at hj
    have hpos:0 < i.size:=by
     rcases Nat.eq_zero_or_pos i.size with h0|h0
     ·rw [h0] at hj;omega
     ·exact h0
    have hlt:j % z.cells.size < z.cells.size:=by rw [z2];exact Nat.mod_lt _ hpos
    rw [getElem!_pos z.cells _ hlt]
    exact z4 _ (by simp)
   have hfit:lo * i.size + 0 + (Builtin.zeroCells z.cells n).toList.length ≤ cs.size:=by
    rw [hlen,hm,Nat.add_zero,← Nat.add_mul]
    exact Nat.mul_le_mul_right _ hcap
   have hst:=run_storeCells_at P b (lo * i.size) t' (Builtin.zeroCells z.cells n).toList 0 cs w hh hfit hone
   obtain ⟨cs2,hcs2⟩:∃ cs2,cs2 = (cs.toList.take (lo * i.size + 0) ++ (Builtin.zeroCells z.cells n).toList ++ cs.toList.drop (lo * i.size + 0 + (Builtin.zeroCells z.cells n).toList.length)).toArray:=⟨_,rfl⟩
   rw [← hcs2] at hst
   refine ⟨w.setRow b cs2,?_,rfl,Tr.upd hok ⟨_,hd,trivial⟩ hg trivial (Chg.setRow _ _ _) ⟨by omega,hcm,cs2,t',setRow_heap _ _ _ _ _ _ hh,?_,fun k hk o ho=>?_⟩⟩
   ·obtain ⟨n',rfl⟩:∃ n',n = n' + 1:=⟨n - 1,by omega⟩
    simp [Builtin.clear_,ha,run_underlying ht,zeroValue,typeInfo,hi,z1,hst]
   ·rw [hcs2];simp at hfit ⊢;omega
   ·obtain ⟨x,a,a1,a2⟩:=hc k (by omega) o ho
    refine ⟨x,?_,a1,rep_mono ((Chg.setRow w b _).weak (fun x _ e=>by subst e;exact .inr ⟨d,cap,⟨_,hd,trivial⟩,hg⟩)) (fun _ _ h=>h) _ (GM.le_refl _) a2⟩
    have hlt:k * i.size + o < lo * i.size:=by
     have:(k + 1) * i.size ≤ lo * i.size:=Nat.mul_le_mul_right _ hk
     rw [Nat.add_mul,Nat.one_mul] at this
     omega
    have hle:lo * i.size ≤ cs.size:=by rw [hlen] at hfit;omega
    rw [hcs2]
    simp only [List.getElem?_toArray,Nat.add_zero,List.append_assoc]
    rw [List.getElem?_append_left (by simp;omega),List.getElem?_take]
    simp only [hlt,if_true]
    rw [← a];simp
 ·exact H.elim
end
end Go.Proofs.Ytbhjehpjjbbhbaa

namespace Go.Proofs.Ytbhjehpjjbbhbaa
open Go.RowKit
variable {F:Nat → Prop}

theorem foldl_zipIdx (off:Nat):∀ (l:List Value) (s:Nat) (cells:Array Value),off + s + l.length ≤ cells.size →
  ((l.zipIdx s).foldl (fun cs (x:Value × Nat)=>cs.setIfInBounds (off + x.2) x.1) cells).size = cells.size ∧
  ∀ i,((l.zipIdx s).foldl (fun cs (x:Value × Nat)=>cs.setIfInBounds (off + x.2) x.1) cells)[i]? = if off + s ≤ i ∧ i < off + s + l.length then l[i - (off + s)]? else cells[i]?:=by
 intro l
 induction l with
 | nil=>intro s cells _;exact ⟨rfl,fun i=>by simp;omega⟩
 | cons v l ih =>
  intro s cells hl
  simp only [List.length_cons] at hl
  obtain ⟨h1,h2⟩:=ih (s + 1) (cells.setIfInBounds (off + s) v) (by simp;omega)
  simp only [List.zipIdx_cons,List.foldl_cons]
  refine ⟨by rw [h1];simp,fun i=>?_⟩
  rw [h2 i,Array.getElem?_setIfInBounds]
  by_cases e:i = off + s
  ·subst e
   have h0:off + s < cells.size:=by omega
   simp [h0]
   omega
  ·by_cases hin:off + s ≤ i ∧ i < off + s + (l.length + 1)
   ·rw [if_pos (by omega),if_pos (by simpa using hin)]
    rw [show i - (off + s) = i - (off + (s + 1)) + 1 by omega]
    rfl
   ·rw [if_neg (by omega),if_neg (fun h=>e h.symm),if_neg (by simpa using hin)]

section
variable {P:Program} {g:GM} {h:List AB} {w:World} {r:AV} {h':List AB} {M:Nat → Prop}

/-- The parts of a literal, real and abstract. -/
def Fit (M:Nat → Prop) (w:World) (g:GM) (place:Nat → Option (Nat × Nat)) (N:Nat):List (Nat × Value) → List (Nat × Nat × AV) → Prop
 | [],[]=>True
 | (i,u) :: ps,(off,sz,v) :: as=>place i = some (off,sz) ∧ rep M w v g u ∧ elemOK sz v ∧ off + sz ≤ N ∧ Fit M w g place N ps as
 | _,_=>False
theorem fill_ok (place:Nat → Option (Nat × Nat)) (N:Nat):∀ (ps:List (Nat × Value)) (as:List (Nat × Nat × AV)) (cells:Array Value) (c:Nat → AV),cells.size = N → (∀ i,i < N → ∃ u,cells[i]? = some u ∧ u.oneCell' = true ∧ rep M w (c i) g u) → Fit M w g place N ps as →
  ∃ cs,Instr.fill place cells ps = some cs ∧ cs.size = N ∧ ∀ i,i < N → ∃ u,cs[i]? = some u ∧ u.oneCell' = true ∧ rep M w (buildC c as i) g u
 | [],[],cells,c,hs,hc,_=>⟨cells,rfl,hs,hc⟩
 | [],_ :: _,_,_,_,_,hf=>hf.elim
 | _ :: _,[],_,_,_,_,hf=>hf.elim
 | (i,u) :: ps,(off,sz,v) :: as,cells,c,hs,hc,hf=>by
  obtain ⟨hp,hr,he,hn,hf⟩:=hf
  obtain ⟨e1,e2⟩:=cells_of_elem he hr
  have hz:u.cells.zipIdx.foldl (fun cs (x:Value × Nat)=>cs.setIfInBounds (off + x.2) x.1) cells = (u.cells.toList.zipIdx 0).foldl (fun cs (x:Value × Nat)=>cs.setIfInBounds (off + x.2) x.1) cells:=by
   rw [← Array.foldl_toList,Array.toList_zipIdx]
  obtain ⟨f1,f2⟩:=foldl_zipIdx off u.cells.toList 0 cells (by simp;omega)
  rw [← hz] at f1
  simp only [← hz] at f2
  obtain ⟨cs,g1,g2,g3⟩:=fill_ok place N ps as _ (stM c off (elemC v) sz) (f1.trans hs) (fun j hj=>by
   rw [f2 j,stM_get]
   by_cases hin:off ≤ j ∧ j < off + sz
   ·rw [if_pos (by simp;omega),if_pos hin]
    obtain ⟨x,a,b,d⟩:=e2 (j - off) (by omega)
    exact ⟨x,by simpa using a,b,d⟩
   ·rw [if_neg (by simp;omega),if_neg hin]
    exact hc j hj) hf
  refine ⟨cs,?_,g2,g3⟩
  have c1:(u.cells.size ≠ sz || decide (off + u.cells.size > cells.size)) = false:=by simp;omega
  simp only [Instr.fill,hp,c1,Bool.false_eq_true,if_false]
  exact g1

theorem zcells_some {i:TypeInfo} {zs:List Value} (h:zcells i = some zs):∃ z,i.zero = some z ∧ z.cells.size = i.size ∧ zs = z.cells.toList ∧ ∀ u ∈ zs,u.oneCell' = true:=by
 unfold zcells at h
 split at h
 ·rename_i z hz
  split at h
  ·rename_i hc
   injection h with h
   subst h
   simp only [Bool.and_eq_true,decide_eq_true_eq,List.all_eq_true] at hc
   exact ⟨z,hz,hc.1,rfl,hc.2⟩
  ·cases h
 ·cases h
theorem zs_rep {zs:List Value} (h:∀ u ∈ zs,u.oneCell' = true) (i:Nat) (hi:i < zs.length):∃ u,zs[i]? = some u ∧ u.oneCell' = true ∧ rep M w (ofL (zs.map ofV1) i) g u :=
 ⟨zs[i],List.getElem?_eq_getElem hi,h _ (List.getElem_mem hi),by
  rw [ofL_get (v:=ofV1 zs[i]) (by simp [hi])]
  exact rep_ofV1 M w g _⟩

theorem buildC_bsl {sz:Nat}:∀ (es:List (Nat × AV)) (c0:Nat → AV) (c:Nat → Nat → AV),(∀ k o,o < sz → c0 (k * sz + o) = c k o) → ∀ k o,o < sz → buildC c0 (es.map fun p=>(p.1 * sz,sz,p.2)) (k * sz + o) = bslC c es k o
 | [],c0,c,h,k,o,ho=>h k o ho
 | (i,v) :: es,c0,c,h,k,o,ho=>by
  simp only [List.map_cons,buildC,bslC]
  refine buildC_bsl es _ _ (fun k o ho=>?_) k o ho
  rw [stM_get]
  simp only [updRm]
  by_cases e:k = i
  ·subst e
   rw [if_pos (by omega),if_pos rfl,Nat.add_sub_cancel_left]
  ·rw [if_neg ?_,if_neg e]
   ·exact h k o ho
   ·intro hin
    have h1:¬ (k < i):=fun hlt=>by
     have:(k + 1) * sz ≤ i * sz:=Nat.mul_le_mul_right _ hlt
     rw [Nat.add_mul,Nat.one_mul] at this
     omega
    have h2:¬ (i < k):=fun hlt=>by
     have:(i + 1) * sz ≤ k * sz:=Nat.mul_le_mul_right _ hlt
     rw [Nat.add_mul,Nat.one_mul] at this
     omega
    omega

theorem made_get (z:Array Value) (N sz k o:Nat) (hz:z.size = sz) (ho:o < sz) (hk:k * sz + o < N):((Array.range N).map (fun j=>z[j % z.size]!))[k * sz + o]? = z[o]?:=by
 have hm:(k * sz + o) % z.size = o:=by rw [hz,Nat.mul_comm,Nat.mul_add_mod,Nat.mod_eq_of_lt ho]
 have ho':o < z.size:=by omega
 simp only [Array.getElem?_map,Array.getElem?_range,hk,if_true,Option.map_some,hm,Array.getElem?_eq_getElem ho',getElem!_pos z o ho']

theorem pure_ofV1 (v:Value):(ofV1 v).pure:=by
 unfold ofV1
 split <;> trivial
theorem pure_ofL {l:List AV} (h:∀ v ∈ l,v.pure) (i:Nat):(ofL l i).pure:=by
 unfold ofL List.getD
 cases hi:l[i]? with
 | none=>trivial
 | some v=>exact h v (List.mem_of_getElem? hi)
theorem pure_bsl {n:Nat}:∀ (es:List (Nat × AV)) (c:Nat → Nat → AV),(∀ k o,o < n → (c k o).pure) → (∀ p ∈ es,elemOK n p.2 ∧ p.2.pure) → ∀ k o,o < n → (bslC c es k o).pure
 | [],c,hc,_,k,o,ho=>hc k o ho
 | (i,v) :: es,c,hc,he,k,o,ho=>by
  simp only [bslC]
  obtain ⟨h1,h2⟩:=he (i,v) List.mem_cons_self
  refine pure_bsl es _ (fun k o ho=>?_) (fun p hp=>he p (List.mem_cons_of_mem _ hp)) k o ho
  simp only [updRm]
  split
  ·exact pure_elem h2 n h1 o ho
  ·exact hc k o ho
theorem Fit.of (place:Nat → Option (Nat × Nat)) (N:Nat):∀ (ps:List (Nat × Value)) (as:List (Nat × Nat × AV)),ps.length = as.length → (∀ (j:Nat) (p:Nat × Value) (a:Nat × Nat × AV),ps[j]? = some p → as[j]? = some a → place p.1 = some (a.1,a.2.1) ∧ rep M w a.2.2 g p.2 ∧ elemOK a.2.1 a.2.2 ∧ a.1 + a.2.1 ≤ N) → Fit M w g place N ps as
 | [],[],_,_=>trivial
 | [],_ :: _,hl,_=>by simp at hl
 | _ :: _,[],hl,_=>by simp at hl
 | p :: ps,a :: as,hl,h=>by
  obtain ⟨h1,h2,h3,h4⟩:=h 0 p a rfl rfl
  exact ⟨h1,h2,h3,h4,Fit.of place N ps as (by simpa using hl) (fun j q b hq hb=>h (j + 1) q b hq hb)⟩

theorem val_bsl0 {t e:TypeId} {i:TypeInfo} {zs:List Value} {n:Nat} {ps:List (Nat × Value)} {es:List (Nat × AV)} (_:HOK F g w h) (ht:tyEl P t = some (e,i)) (hz:zcells i = some zs) (hsz:0 < i.size ∧ n * i.size ≤ 1000)
  (hl:ps.length = es.length) (hp:∀ (j:Nat) (p:Nat × Value) (a:Nat × AV),ps[j]? = some p → es[j]? = some a → p.1 = a.1 ∧ rep (MM F g h) w a.2 g p.2) (he:∀ p ∈ es,elemOK i.size p.2) (hn:∀ p ∈ es,p.1 < n) :
  ∃ cs:Array Value,(Instr.buildSlice t n ps.toArray).run P w = .ok (.slice (some ⟨w.heap.size,0,none⟩) n n) (w.alloc (.cells cs e)) ∧ cs.size = n * i.size ∧ ∀ k,k < n → ∀ o,o < i.size → ∃ u,cs[k * i.size + o]? = some u ∧ u.oneCell' = true ∧ rep (MM F g h) w (bslC (fun _=>ofL (zs.map ofV1)) es k o) g u:=by
 obtain ⟨hu,hi⟩:=tyEl_some ht
 obtain ⟨z,hz0,hz1,rfl,hone⟩:=zcells_some hz
 have hsize:∀ w:World,(sizeOf e).run P w = .ok i.size w:=fun w=>tySz_run (by simp [tySz,hi]) w
 have hzv:∀ w:World,(zeroValue e).run P w = .ok z w:=fun w=>by simp [zeroValue,typeInfo,hi,hz0]
 have hbig:¬ (n * i.size > 2 ^ 24):=by omega
 have hfit:Fit (MM F g h) w g (fun j=>some (j * i.size,i.size)) (n * i.size) ps (es.map fun p=>(p.1 * i.size,i.size,p.2)):=by
  refine Fit.of _ _ _ _ (by simpa using hl) (fun j p a hj ha=>?_)
  rw [List.getElem?_map] at ha
  cases hb:es[j]? with
  | none=>rw [hb] at ha;cases ha
  | some b =>
   rw [hb] at ha
   injection ha with ha
   subst ha
   obtain ⟨h1,h2⟩:=hp j p b hj hb
   have hm:=List.mem_of_getElem? hb
   have hlt:=hn b hm
   have:(b.1 + 1) * i.size ≤ n * i.size:=Nat.mul_le_mul_right _ hlt
   rw [Nat.add_mul,Nat.one_mul] at this
   exact ⟨by rw [h1],h2,he b hm,this⟩
 have hbase:∀ j,j < n * i.size → ∃ u,((Array.range (n * i.size)).map (fun x=>z.cells[x % z.cells.size]!))[j]? = some u ∧ u.oneCell' = true ∧ rep (MM F g h) w (ofL (z.cells.toList.map ofV1) (j % i.size)) g u:=by
  intro j hj
  obtain ⟨u,h1,h2,h3⟩:=zs_rep (M:=MM F g h) (w:=w) (g:=g) hone (j % i.size) (by rw [Array.length_toList,hz1];exact Nat.mod_lt _ hsz.1)
  refine ⟨u,?_,h2,h3⟩
  have:=made_get z.cells (n * i.size) i.size (j / i.size) (j % i.size) hz1 (Nat.mod_lt _ hsz.1) (by rw [Nat.mul_comm,Nat.div_add_mod];exact hj)
  rw [show j / i.size * i.size + j % i.size = j by rw [Nat.mul_comm];exact Nat.div_add_mod _ _] at this
  rw [this]
  simpa using h1
 obtain ⟨cs,f1,f2,f3⟩:=fill_ok (M:=MM F g h) (w:=w) (g:=g) _ (n * i.size) ps _ _ _ (by simp) hbase hfit
 have hrun:(Instr.buildSlice t n ps.toArray).run P w = .ok (.slice (some ⟨w.heap.size,0,none⟩) n n) (w.alloc (.cells cs e)):=by
  by_cases h0:n * i.size = 0
  ·have hps:ps = []:=by
    cases es with
    | nil=>exact List.eq_nil_of_length_eq_zero hl
    | cons a es =>
     have:=hn a List.mem_cons_self
     have:0 < n * i.size:=Nat.mul_pos (by omega) hsz.1
     omega
   subst hps
   simp only [Instr.fill,Option.some.injEq] at f1
   have hcs:cs = #[]:=Array.eq_empty_of_size_eq_zero (by omega)
   simp [Instr.buildSlice,run_underlying hu,hsize,h0,Instr.fill,newRow,hcs,Array.range_zero']
  ·simp only [Instr.buildSlice,Sem.run_bind,run_underlying hu,Result.andThen_ok,hsize,Sem.run_ite,hbig,h0,if_false,hzv,Sem.run_pure,f1,newRow,run_newObj,World.alloc_eq]
 refine ⟨cs,hrun,f2,fun k hk o ho=>?_⟩
 have hks:(k + 1) * i.size ≤ n * i.size:=Nat.mul_le_mul_right _ (by omega)
 rw [Nat.add_mul,Nat.one_mul] at hks
 obtain ⟨u,h1,h2,h3⟩:=f3 (k * i.size + o) (by omega)
 rw [buildC_bsl es _ (fun _=>ofL (z.cells.toList.map ofV1)) (fun k o ho=>by rw [Nat.mul_comm,Nat.mul_add_mod,Nat.mod_eq_of_lt ho]) k o ho] at h3
 exact ⟨u,h1,h2,h3⟩
theorem val_bsl {t e:TypeId} {i:TypeInfo} {zs:List Value} {n:Nat} {ps:List (Nat × Value)} {es:List (Nat × AV)} (hok:HOK F g w h) (ht:tyEl P t = some (e,i)) (hz:zcells i = some zs) (hsz:0 < i.size ∧ n * i.size ≤ 1000)
  (hl:ps.length = es.length) (hp:∀ (j:Nat) (p:Nat × Value) (a:Nat × AV),ps[j]? = some p → es[j]? = some a → p.1 = a.1 ∧ rep (MM F g h) w a.2 g p.2) (he:∀ p ∈ es,elemOK i.size p.2 ∧ p.2.pure) (hn:∀ p ∈ es,p.1 < n) :
  ∃ u' w' ,(Instr.buildSlice t n ps.toArray).run P w = .ok u' w' ∧ rep (MM F g h) w' (.sl false true n i.size (bslC (fun _=>ofL (zs.map ofV1)) es)) g u' ∧ Tr F g h w g h w':=by
 obtain ⟨cs,hrun,_,f3⟩:=val_bsl0 hok ht hz hsz hl hp (fun p hp=>(he p hp).1) hn
 refine ⟨_,_,hrun,⟨_,n,rfl,by simp,by simp,fun _=>rfl,Nat.le_refl _,fun k hk o ho=>?_⟩,Tr.keep hok (Chg.alloc' _ _)⟩
 obtain ⟨u,h1,h2,h3⟩:=f3 k hk o ho
 refine ⟨w.heap.size,0,u,rfl,by simp,fun hm=>by have:=hok.mlt hm;omega,?_,h2,?_⟩
 ·rw [Nat.zero_add]
  exact cell_of_heap (heap_alloc_new w _) h1
 ·refine rep_pure _ ?_ (rep_mono (Chg.alloc _ w _) (fun _ _ h=>h) _ (GM.le_refl _) h3)
  exact pure_bsl es _ (fun _ o _=>pure_ofL (fun v hv=>by obtain ⟨u,_,rfl⟩:=List.mem_map.1 hv;exact pure_ofV1 u) o) he k o ho
/-- The same as a row of the call's own. -/
theorem val_bslk {t e:TypeId} {i:TypeInfo} {zs:List Value} {n:Nat} {ps:List (Nat × Value)} {es:List (Nat × AV)} (hok:HOK F g w h) (ht:tyEl P t = some (e,i)) (hz:zcells i = some zs) (hsz:0 < i.size ∧ n * i.size ≤ 1000)
  (hl:ps.length = es.length) (hp:∀ (j:Nat) (p:Nat × Value) (a:Nat × AV),ps[j]? = some p → es[j]? = some a → p.1 = a.1 ∧ rep (MM F g h) w a.2 g p.2) (he:∀ p ∈ es,elemOK i.size p.2) (hn:∀ p ∈ es,p.1 < n) :
  ∃ u' w' g',(Instr.buildSlice t n ps.toArray).run P w = .ok u' w' ∧ rep (MM F g' (h ++ [.rwg n i.size (bslC (fun _=>ofL (zs.map ofV1)) es)])) w' (.own h.length n) g' u' ∧ Tr F g h w g' (h ++ [.rwg n i.size (bslC (fun _=>ofL (zs.map ofV1)) es)]) w':=by
 obtain ⟨cs,hrun,f2,f3⟩:=val_bsl0 hok ht hz hsz hl hp he hn
 have hn':n ≤ maxLen:=by
  have:n * 1 ≤ n * i.size:=Nat.mul_le_mul_left _ hsz.1
  unfold maxLen
  omega
 exact ⟨_,_,_,hrun,⟨w.heap.size,n,by simp [GM.push],rfl,Nat.le_refl _⟩,Tr.newBlock hok (Chg.alloc' _ _) (heap_alloc_new _ _) n (.rwg n i.size (bslC (fun _=>ofL (zs.map ofV1)) es)) ⟨Nat.le_refl _,hn',f2,f3⟩⟩

theorem partsOf_cons {t:TypeId} {i:Nat} {x:Operand} {ps:List (Nat × Operand)} {l:List (Nat × Nat × AX)} (h:partsOf P t ((i,x) :: ps) = some l):∃ f s l',tyFld P t i = some f ∧ tySz P f.type = some s ∧ partsOf P t ps = some l' ∧ l = (f.offset,s,cx x) :: l':=by
 simp only [partsOf] at h
 split at h
 ·rename_i f l' hf hl
  split at h
  ·rename_i s hs
   injection h with h
   exact ⟨f,s,l',hf,hs,hl,h.symm⟩
  ·cases h
 ·cases h
theorem run_places {fs:Array Field} (h:∀ f ∈ fs.toList,(tySz P f.type).isSome) (w:World):(fs.mapM fun f=>do pure (f.offset,← sizeOf f.type):Sem (Array (Nat × Nat))).run P w = .ok (fs.map fun f=>(f.offset,(tySz P f.type).getD 0)) w:=by
 have key:∀ l:List Field,(∀ f ∈ l,(tySz P f.type).isSome) → (l.mapM fun f=>do pure (f.offset,← sizeOf f.type):Sem (List (Nat × Nat))).run P w = .ok (l.map fun f=>(f.offset,(tySz P f.type).getD 0)) w:=by
  intro l
  induction l with
  | nil=>intro _;simp
  | cons f l ih =>
   intro h
   have h1:=ih (fun x hx=>h x (List.mem_cons_of_mem _ hx))
   obtain ⟨s,hs⟩:=Option.isSome_iff_exists.1 (h f List.mem_cons_self)
   simp only [List.mapM_cons,Sem.run_bind,tySz_run hs,Result.andThen_ok,Sem.run_pure,h1,List.map_cons,hs,Option.getD_some]
 rw [Array.mapM_eq_mapM_toList]
 have hk:=key fs.toList h
 rw [Sem.run_map,hk,Result.andThen_ok]
 have:(fs.toList.map fun f=>(f.offset,(tySz P f.type).getD 0)).toArray = fs.map fun f=>(f.offset,(tySz P f.type).getD 0):=by
  apply Array.ext'
  simp
 rw [this]
theorem val_build {t:TypeId} {i:TypeInfo} {zs:List Value} {fs:Array Field} {ps:List (Nat × Value)} {as:List (Nat × Nat × AV)} (hi:P.info? t = some i) (hu:P.underlying t = some (.struct fs)) (hz:zcells i = some zs) (hsz:∀ f ∈ fs.toList,(tySz P f.type).isSome)
  (hl:ps.length = as.length) (hp:∀ (j:Nat) (p:Nat × Value) (a:Nat × Nat × AV),ps[j]? = some p → as[j]? = some a → (∃ f,fs[p.1]? = some f ∧ f.offset = a.1 ∧ tySz P f.type = some a.2.1) ∧ rep (MM F g h) w a.2.2 g p.2) (he:∀ p ∈ as,elemOK p.2.1 p.2.2) (hn:∀ p ∈ as,p.1 + p.2.1 ≤ zs.length) :
  ∃ u',(Instr.build t ps.toArray).run P w = .ok u' w ∧ rep (MM F g h) w (.agg zs.length (tab zs.length (buildC (ofL (zs.map ofV1)) as))) g u':=by
 obtain ⟨z,hz0,hz1,rfl,hone⟩:=zcells_some hz
 have hzv:∀ w:World,(zeroValue t).run P w = .ok z w:=fun w=>by simp [zeroValue,typeInfo,hi,hz0]
 have hfit:Fit (MM F g h) w g ((fs.map fun f=>(f.offset,(tySz P f.type).getD 0))[·]?) z.cells.toList.length ps as:=by
  refine Fit.of _ _ _ _ hl (fun j p a hj ha=>?_)
  obtain ⟨⟨f,h1,h2,h3⟩,h4⟩:=hp j p a hj ha
  have hm:=List.mem_of_getElem? ha
  exact ⟨by simp [h1,h2,h3],h4,he a hm,hn a hm⟩
 obtain ⟨cs,f1,f2,f3⟩:=fill_ok (M:=MM F g h) (w:=w) (g:=g) _ z.cells.toList.length ps as z.cells (ofL (z.cells.toList.map ofV1)) (by simp) (fun j hj=>by
  obtain ⟨u,a,b,c⟩:=zs_rep (M:=MM F g h) (w:=w) (g:=g) hone j hj
  exact ⟨u,by simpa using a,b,c⟩) hfit
 refine ⟨.agg cs,?_,⟨cs,rfl,f2,fun i hi=>by rw [tab_get hi];exact f3 i hi⟩⟩
 simp only [Instr.build,Sem.run_bind,hzv,Result.andThen_ok,run_underlying hu,run_places hsz,f1,Sem.run_pure]

theorem val_msl {t e:TypeId} {i:TypeInfo} {zs:List Value} {n n':Int} (hok:HOK F g w h) (ht:tyEl P t = some (e,i)) (hz:zcells i = some zs) (h0:0 ≤ n) (h1:n ≤ n') (h2:n' ≤ 9223372036854775807) (h3:n' * i.bytes ≤ 140737488355328) :
  ∃ u' w' g',(Instr.makeSlice t (.int .i64 n) (.int .i64 n')).run P w = .ok u' w' ∧ rep (MM F g' (h ++ [.row n.toNat i.size fun _=>ofL (zs.map ofV1)])) w' (.own h.length n.toNat) g' u' ∧ Tr F g h w g' (h ++ [.row n.toNat i.size fun _=>ofL (zs.map ofV1)]) w':=by
 obtain ⟨hu,hi⟩:=tyEl_some ht
 obtain ⟨z,hz0,hz1,rfl,hone⟩:=zcells_some hz
 have hrun:=run_make (P:=P) w t e i z hu hi hz0 .i64 .i64 n n' h0 h1 (by rw [Int.mul_comm];omega) h2
 refine ⟨_,_,_,hrun,⟨w.heap.size,n'.toNat,by simp [GM.push],rfl,by omega⟩,Tr.newBlock hok (Chg.alloc' _ _) (heap_alloc_new _ _) n'.toNat (.row n.toNat i.size fun _=>ofL (z.cells.toList.map ofV1)) ⟨by omega,by simp [maxLen];omega,by simp [madeCells],fun k hk o ho=>?_⟩⟩
 have hks:(k + 1) * i.size ≤ n'.toNat * i.size:=Nat.mul_le_mul_right _ (by omega)
 rw [Nat.add_mul,Nat.one_mul] at hks
 obtain ⟨u,a,b,c⟩:=zs_rep (M:=MM F g h) (w:=w) (g:=g) hone o (by rw [Array.length_toList,hz1];exact ho)
 refine ⟨u,?_,b,rep_pure _ (pure_ofL (fun v hv=>by obtain ⟨u,_,rfl⟩:=List.mem_map.1 hv;exact pure_ofV1 u) o) c⟩
 unfold madeCells
 rw [made_get z.cells _ i.size k o hz1 ho (by omega)]
 simpa using a

theorem run_append_room' (t ty e:TypeId) (i:TypeInfo) (ht:P.underlying t = some (.slice e)) (hi:P.info? e = some i)
  (g sLen sCap:Nat) (cur:Array Value) (te:TypeId) (hg:w.heap[g]? = some (.cells cur te (0,0)))
  (a:Addr) (m c:Nat) (news:List Value) (hl:news.length = m * i.size) (hnews:∀ (j:Nat) u,news[j]? = some u → w.cell? (a.add j) = some u) (h1:∀ u ∈ news,u.oneCell' = true)
  (hroom:sLen + m ≤ sCap) (hfit:sLen * i.size + news.length ≤ cur.size) :
  (Builtin.append_ #[t,t] ty #[.slice (some ⟨g,0,none⟩) sLen sCap,.slice (some a) m c]).run P w =
   .ok (.slice (some ⟨g,0,none⟩) (sLen + m) sCap) (w.setRow g (cur.toList.take (sLen * i.size) ++ news ++ cur.toList.drop (sLen * i.size + news.length)).toArray):=by
 have hf:=run_firstCells_some (P:=P) w i.size m a m c news hl hnews
 have hst:=run_storeCells_at P g (sLen * i.size) te news 0 cur w hg (by simpa using hfit) h1
 simp only [Nat.add_zero] at hst
 simp [Builtin.append_,run_underlying ht,sizeOf,typeInfo,hi,Builtin.lenOf,hroom,hf,Addr.add_lit,hst]

/-- The cells of an immutable slice. -/
theorem sl_cells {z ee:Bool} {n sz sz':Nat} {c:Nat → Nat → AV} {A:Option Addr} {cap:Nat} (hs:sz' = sz ∨ n = 0) (hsz:0 < sz) (hr:rep M w (.sl z ee n sz' c) g (.slice A n cap)) :
  ∃ cs:List Value,cs.length = n * sz ∧ (∀ ad,A = some ad → ∀ (j:Nat) (u:Value),cs[j]? = some u → w.cell? (ad.add j) = some u) ∧ (∀ u ∈ cs,u.oneCell' = true) ∧ ∀ k,k < n → ∀ o,o < sz → ∃ u,cs[k * sz + o]? = some u ∧ u.oneCell' = true ∧ rep M w (c k o) g0 u:=by
 obtain ⟨A',cap',he,_,hnil,_,_,hc⟩:=hr
 injection he with e1 e2 e3
 subst e1;subst e3
 by_cases h0:n = 0
 ·subst h0
  exact ⟨[],by simp,by simp,by simp,fun k hk=>by omega⟩
 ·obtain rfl:sz' = sz:=hs.resolve_right h0
  have key:∀ j,j < n * sz' → ∃ u,(∀ ad,A = some ad → w.cell? (ad.add j) = some u) ∧ u.oneCell' = true ∧ rep M w (c (j / sz') (j % sz')) g0 u:=fun j hj=>by
   obtain ⟨b,off,u,hA,_,_,h1,h2,h3⟩:=hc (j / sz') (Nat.div_lt_of_lt_mul (by rw [Nat.mul_comm];exact hj)) (j % sz') (Nat.mod_lt _ hsz)
   refine ⟨u,fun ad had=>?_,h2,h3⟩
   rw [hA] at had
   injection had with had
   subst had
   rw [Addr.add_lit]
   rw [Nat.add_assoc,Nat.mul_comm,Nat.div_add_mod] at h1
   exact h1
  obtain ⟨f,hf⟩:=choose_fun key
  have hget:∀ j,j < n * sz' → ((List.range (n * sz')).map f)[j]? = some (f j):=fun j hj=>by simp [hj]
  refine ⟨(List.range (n * sz')).map f,by simp,fun ad had j u hu=>?_,fun u hu=>?_,fun k hk o ho=>?_⟩
  ·have hj:j < n * sz':=by
    rcases Nat.lt_or_ge j (n * sz') with h'|h'
    ·exact h'
    ·rw [List.getElem?_eq_none (by simpa using h')] at hu;cases hu
   rw [hget j hj] at hu
   injection hu with hu
   subst hu
   exact (hf j hj).1 ad had
  ·obtain ⟨j,hj,rfl⟩:=List.mem_map.1 hu
   exact (hf j (by simpa using hj)).2.1
  ·have hks:(k + 1) * sz' ≤ n * sz':=Nat.mul_le_mul_right _ (by omega)
   rw [Nat.add_mul,Nat.one_mul] at hks
   obtain ⟨a,b,d⟩:=hf (k * sz' + o) (by omega)
   refine ⟨_,hget _ (by omega),b,?_⟩
   rw [Nat.mul_comm,Nat.mul_add_mod,Nat.mod_eq_of_lt ho,Nat.mul_add_div hsz,Nat.div_eq_of_lt ho,Nat.add_zero] at d
   rw [Nat.mul_comm k]
   exact d

theorem src_cells {q:Bool} {sz:Nat} {y:AV} {m:Nat} {c':Nat → Nat → AV} {u:Value} (hok:HOK F g w h) (hsz:0 < sz) (hS:Src q sz h y m c') (hr:rep (MM F g h) w y g u) :
  ∃ B cap2,u = .slice B m cap2 ∧ (B = none → m = 0) ∧ ∃ cs:List Value,cs.length = m * sz ∧ (∀ ad,B = some ad → ∀ (j:Nat) (u:Value),cs[j]? = some u → w.cell? (ad.add j) = some u) ∧ (∀ u ∈ cs,u.oneCell' = true) ∧ ∀ k,k < m → ∀ o,o < sz → ∃ u,cs[k * sz + o]? = some u ∧ u.oneCell' = true ∧ rep (MM F g h) w (c' k o) (gq q g) u:=by
 rcases hS with ⟨z,e,sz',rfl,rfl,hs⟩|⟨d,N,rfl,hd,hm⟩|⟨d,lo,N,c0,rfl,rfl,hd,hm,rfl⟩
 ·have hr0:=hr
  obtain ⟨B,cap2,rfl,_,hBnil,_,_,_⟩:=hr0
  exact ⟨B,cap2,rfl,fun h=>(hBnil h).1,sl_cells hs hsz hr⟩
 ·obtain ⟨b,cap,hg,rfl,hcap⟩:=hr
  obtain ⟨hn,hcm,cs,t',hh,hsize,hc⟩:=rw_get (hok.all hd hg)
  have hle:m * sz ≤ cs.size:=by rw [hsize];exact Nat.mul_le_mul_right _ (by omega)
  have hl:(cs.toList.take (m * sz)).length = m * sz:=by simp;omega
  have hget:∀ k,k < m → ∀ o,o < sz → ∃ u,(cs.toList.take (m * sz))[k * sz + o]? = some u ∧ u.oneCell' = true ∧ rep (MM F g h) w (c' k o) (gq q g) u:=fun k hk o ho=>by
   have hks:(k + 1) * sz ≤ m * sz:=Nat.mul_le_mul_right _ hk
   rw [Nat.add_mul,Nat.one_mul] at hks
   obtain ⟨x,a,b,d⟩:=hc k (by omega) o ho
   exact ⟨x,by rw [List.getElem?_take,if_pos (by omega)];simpa using a,b,d⟩
  refine ⟨_,cap,rfl,fun h=>(by cases h),cs.toList.take (m * sz),hl,fun ad had j v hv=>?_,fun v hv=>?_,hget⟩
  ·injection had with had
   subst had
   rw [Addr.add_lit,Nat.zero_add]
   refine cell_of_heap hh ?_
   rw [List.getElem?_take] at hv
   split at hv
   ·simpa using hv
   ·cases hv
  ·obtain ⟨j,hj,rfl⟩:=List.getElem_of_mem hv
   rw [hl] at hj
   have h1:j / sz < m:=Nat.div_lt_of_lt_mul (by rw [Nat.mul_comm];exact hj)
   obtain ⟨x,a,b,_⟩:=hget (j / sz) h1 (j % sz) (Nat.mod_lt _ hsz)
   rw [show j / sz * sz + j % sz = j by rw [Nat.mul_comm];exact Nat.div_add_mod _ _] at a
   rw [List.getElem?_eq_getElem (by omega)] at a
   injection a with a
   rw [a];exact b
 ·obtain ⟨b,cap,p,hg,rfl,hcap,hp⟩:=hr
  obtain ⟨hn,hcm,cs,t',hh,hsize,hc⟩:=rw_get (q:=false) (hok.all hd hg)
  rcases Nat.eq_zero_or_pos m with h0|h0
  ·subst h0
   exact ⟨_,_,rfl,fun h=>(by cases h),[],by simp,fun ad had j v hv=>(by simp at hv),fun v hv=>(by cases hv),fun k hk=>absurd hk (Nat.not_lt_zero k)⟩
  obtain rfl:=hp (by omega)
  have hle:(lo + m) * sz ≤ cs.size:=by rw [hsize];exact Nat.mul_le_mul_right _ (by omega)
  rw [Nat.add_mul] at hle
  have hl:((cs.toList.drop (lo * sz)).take (m * sz)).length = m * sz:=by simp;omega
  have hget:∀ k,k < m → ∀ o,o < sz → ∃ u,((cs.toList.drop (lo * sz)).take (m * sz))[k * sz + o]? = some u ∧ u.oneCell' = true ∧ rep (MM F g h) w (c0 (lo + k) o) (gq false g) u:=fun k hk o ho=>by
   have hks:(k + 1) * sz ≤ m * sz:=Nat.mul_le_mul_right _ hk
   rw [Nat.add_mul,Nat.one_mul] at hks
   obtain ⟨x,a,b,d⟩:=hc (lo + k) (by omega) o ho
   rw [Nat.add_mul] at a
   exact ⟨x,by rw [List.getElem?_take,if_pos (by omega),List.getElem?_drop,← Nat.add_assoc];simpa using a,b,d⟩
  refine ⟨_,_,rfl,fun h=>(by cases h),(cs.toList.drop (lo * sz)).take (m * sz),hl,fun ad had j v hv=>?_,fun v hv=>?_,hget⟩
  ·injection had with had
   subst had
   rw [Addr.add_lit]
   refine cell_of_heap hh ?_
   rw [List.getElem?_take] at hv
   split at hv
   ·rw [List.getElem?_drop] at hv;simpa using hv
   ·cases hv
  ·obtain ⟨j,hj,rfl⟩:=List.getElem_of_mem hv
   rw [hl] at hj
   have h1:j / sz < m:=Nat.div_lt_of_lt_mul (by rw [Nat.mul_comm];exact hj)
   obtain ⟨x,a,b,_⟩:=hget (j / sz) h1 (j % sz) (Nat.mod_lt _ hsz)
   rw [show j / sz * sz + j % sz = j by rw [Nat.mul_comm];exact Nat.div_add_mod _ _] at a
   rw [List.getElem?_eq_getElem (by omega)] at a
   injection a with a
   rw [a];exact b
theorem Tr.newRow (Q:Bool) (k:HOK F g w h) {w':World} (hc:Chg (fun _=>False) w w') {cs:Array Value} {t:TypeId} (hh:w'.heap[w.heap.size]? = some (.cells cs t (0,0))) (cap n sz:Nat) (c:Nat → Nat → AV)
  (hx:n ≤ cap ∧ cap ≤ maxLen ∧ cs.size = cap * sz ∧ ∀ k,k < n → ∀ o,o < sz → ∃ u,cs[k * sz + o]? = some u ∧ u.oneCell' = true ∧ rep (MM F g h) w (c k o) (gq Q g) u) :
  Tr F g h w (g.push h.length (w.heap.size,cap)) (h ++ [.rw Q n sz c]) w':=by
 cases Q
 ·exact Tr.newBlock k hc hh cap (.row n sz c) hx
 ·exact Tr.newBlock k hc hh cap (.rwg n sz c) hx
theorem val_app_core {q:Bool} {t ty e:TypeId} {i:TypeInfo} {zs:List Value} {v:AV} {u u2:Value} {y:AV} {m:Nat} {c':Nat → Nat → AV} (hok:HOK F g w h) (ht:tyEl P t = some (e,i)) (hz:zcells i = some zs) (hr:rep (MM F g h) w v g u) (hy:rep (MM F g h) w y g u2) (hsz:0 < i.size) (hS:Src q i.size h y m c') :
  (∀ zz ee n sz2 c,v = .sl zz ee n sz2 c → ee = true ∧ (sz2 = i.size ∨ n = 0) ∧ (m = 0 → (.sl zz ee n sz2 c = r ∧ h = h')) ∧ (0 < m → n + m ≤ maxLen ∧ (n + m) * i.bytes ≤ 140737488355328 ∧ (.own h.length (n + m) = r ∧ h ++ [.rw q (n + m) i.size (appc n c c')] = h')) →
   ∃ u' w' g',(Builtin.append_ #[t,t] ty #[u,u2]).run P w = .ok u' w' ∧ rep (MM F g' h') w' r g' u' ∧ Tr F g h w g' h' w') ∧
  (∀ qd d n N c,v = .own d n → h[d]? = some (.rw qd N i.size c) → n ≤ N → n + m ≤ maxLen → (n + m) * i.bytes ≤ 140737488355328 →
   (∃ u' w' b cap,(Builtin.append_ #[t,t] ty #[u,u2]).run P w = .ok u' w' ∧ g d = some (b,cap) ∧ u' = .slice (some ⟨b,0,none⟩) (n + m) cap ∧ n + m ≤ cap ∧ Tr F g h w g (h.set d (.rw (qd || q) (n + m) i.size (appc n c c'))) w') ∨
   (∃ u' w' b cap,(Builtin.append_ #[t,t] ty #[u,u2]).run P w = .ok u' w' ∧ u' = .slice (some ⟨b,0,none⟩) (n + m) cap ∧ n + m ≤ cap ∧
    Tr F g h w (g.push h.length (b,cap)) (h ++ [.rw (qd || q) (n + m) i.size (appc n c c')]) w' ∧ Tr F g h w (g.push h.length (b,cap)) (h.set d .dead ++ [.rw (qd || q) (n + m) i.size (appc n c c')]) w')):=by
 obtain ⟨hu,hi⟩:=tyEl_some ht
 obtain ⟨z,hz0,hz1,rfl,hone⟩:=zcells_some hz
 obtain ⟨B,cap2,rfl,hBnil,news,n1,n2,n3,n4⟩:=src_cells hok hsz hS hy
 have hBsome:0 < m → ∃ ad,B = some ad:=fun hm=>by
  cases B with
  | none=>have:=hBnil rfl;omega
  | some ad=>exact ⟨ad,rfl⟩
 have grown:∀ (Q:Bool) (_:(gq q g).le (gq Q g)) (n capx:Nat) (olds:List Value),olds.length = n * i.size → ∀ (c:Nat → Nat → AV),(∀ k,k < n → ∀ o,o < i.size → ∃ u,olds[k * i.size + o]? = some u ∧ u.oneCell' = true ∧ rep (MM F g h) w (c k o) (gq Q g) u) →
   ∀ N capN,N = n + m → N ≤ capN → ∀ k,k < N → ∀ o,o < i.size → ∃ u,(olds.toArray ++ news.toArray ++ Builtin.zeroCells z.cells (capN - N))[k * i.size + o]? = some u ∧ u.oneCell' = true ∧ rep (MM F g h) w (appc n c c' k o) (gq Q g) u:=by
  intro Q hQ n capx olds hol c hold N capN hN hcap k hk o ho
  have hks:(k + 1) * i.size ≤ N * i.size:=Nat.mul_le_mul_right _ hk
  rw [Nat.add_mul,Nat.one_mul,hN,Nat.add_mul] at hks
  have hlen:(olds.toArray ++ news.toArray).size = n * i.size + m * i.size:=by simp [hol,n1]
  rw [Array.getElem?_append_left (by omega)]
  simp only [appc]
  by_cases hkn:k < n
  ·rw [if_pos hkn]
   have hks2:(k + 1) * i.size ≤ n * i.size:=Nat.mul_le_mul_right _ hkn
   rw [Nat.add_mul,Nat.one_mul] at hks2
   obtain ⟨x,a,b,d⟩:=hold k hkn o ho
   refine ⟨x,?_,b,d⟩
   rw [Array.getElem?_append_left (by simp [hol];omega)]
   simpa using a
  ·rw [if_neg hkn]
   obtain ⟨x,a,b,d⟩:=n4 (k - n) (by omega) o ho
   refine ⟨x,?_,b,rep_up hQ d⟩
   have hge:n * i.size ≤ k * i.size:=Nat.mul_le_mul_right _ (by omega)
   rw [Array.getElem?_append_right (by simp [hol];omega)]
   simp only [List.size_toArray,hol,List.getElem?_toArray]
   rw [show k * i.size + o - n * i.size = (k - n) * i.size + o by rw [Nat.sub_mul];omega]
   exact a
 have newsize:∀ (n N capN:Nat) (olds:List Value),olds.length = n * i.size → N = n + m → N ≤ capN → (olds.toArray ++ news.toArray ++ Builtin.zeroCells z.cells (capN - N)).size = capN * i.size:=by
  intro n N capN olds hol hN hcap
  simp only [Array.size_append,List.size_toArray,hol,n1,size_zeroCells,hz1]
  rw [← Nat.add_mul,← Nat.add_mul]
  congr 1
  omega
 have push:∀ (Q:Bool) (_:(gq q g).le (gq Q g)) (hh:List AB) (k:HOK F g w hh) (_:∀ x,MM F g hh x → MM F g h x) (_:hh.length = h.length) (n:Nat) (olds:List Value),olds.length = n * i.size → ∀ (c:Nat → Nat → AV),(∀ k,k < n → ∀ o,o < i.size → ∃ u,olds[k * i.size + o]? = some u ∧ u.oneCell' = true ∧ rep (MM F g h) w (c k o) (gq Q g) u) →
   ∀ capN,n + m ≤ capN → capN ≤ maxLen → Tr F g hh w (g.push h.length (w.heap.size,capN)) (hh ++ [.rw Q (n + m) i.size (appc n c c')]) (w.drew.alloc (.cells (olds.toArray ++ news.toArray ++ Builtin.zeroCells z.cells (capN - (n + m))) e)):=by
  intro Q hQ hh k hsub hlen n olds hol c hold capN hc1 hc2
  have:=Tr.newRow Q k (w':=w.drew.alloc (.cells (olds.toArray ++ news.toArray ++ Builtin.zeroCells z.cells (capN - (n + m))) e)) ((Chg.drew _ w).trans (Chg.alloc _ _ _) (fun _ _ h=>h)) (heap_alloc_new w.drew _) capN (n + m) i.size (appc n c c') ⟨hc1,hc2,newsize n _ _ _ hol rfl hc1,fun kk hk o ho=>by
   obtain ⟨x,a,b,d⟩:=grown Q hQ n 0 olds hol c hold (n + m) capN rfl hc1 kk hk o ho
   exact ⟨x,a,b,rep_mono (Chg.refl _ _) (fun x _ hx=>hsub x hx) _ (GM.le_refl _) d⟩⟩
  rw [hlen] at this
  exact this
 refine ⟨?_,?_⟩
 ·rintro zz ee n sz2 c rfl ⟨rfl,hs2,H0,H1⟩
  have hr0:=hr
  obtain ⟨A,cap,rfl,hzA,hAnil,hcapn,_,_⟩:=hr0
  obtain rfl:=hcapn rfl
  obtain ⟨olds,o1,o2,o3,o4'⟩:=sl_cells hs2 hsz hr
  have o4:∀ k,k < cap → ∀ o,o < i.size → ∃ u,olds[k * i.size + o]? = some u ∧ u.oneCell' = true ∧ rep (MM F g h) w (c k o) (gq q g) u:=fun k hk o ho=>by
   obtain ⟨x,a,b,d⟩:=o4' k hk o ho
   exact ⟨x,a,b,rep_up (g0_le _) d⟩
  by_cases hm:m = 0
  ·obtain ⟨rfl,rfl⟩:=H0 hm
   subst hm
   have hnews:news = []:=List.eq_nil_of_length_eq_zero (by simpa using n1)
   refine ⟨.slice A cap cap,w,g,?_,hr,Tr.refl hok⟩
   cases A <;> cases B <;> simp [Builtin.append_,run_underlying hu,sizeOf,typeInfo,hi,Builtin.lenOf,Builtin.firstCells,storeCells,loadCells,loadCellsFrom]
  ·obtain ⟨b1,b2,rfl,rfl⟩:=H1 (by omega)
   obtain ⟨ad,rfl⟩:=hBsome (by omega)
   cases A with
   | none =>
    obtain ⟨rfl,_⟩:=hAnil rfl
    rw [Nat.zero_add] at b2
    have hrun:=run_append_nil (P:=P) (w:=w) t ty e i z hu hi hz0 ad m cap2 news n1 (n2 ad rfl) (by omega) (by simp only [maxLen] at b1;omega) (by omega)
    have hT:=push q (GM.le_refl _) h hok (fun _ h=>h) rfl 0 olds o1 c o4 (grownCap w m 0 e) (by rw [Nat.zero_add];exact grownCap_ge w m 0 e) (grownCap_le_maxLen w m 0 e (by omega))
    have holds:olds = []:=List.eq_nil_of_length_eq_zero (by simpa using o1)
    rw [holds,Nat.zero_add] at hT
    simp only [Array.empty_append] at hT
    refine ⟨_,_,_,hrun,?_,by rw [Nat.zero_add];exact hT⟩
    exact ⟨w.heap.size,grownCap w m 0 e,by simp [GM.push],by rw [Nat.zero_add],by rw [Nat.zero_add];exact grownCap_ge w m 0 e⟩
   | some ad0 =>
    have hrun:=run_append_grow (P:=P) (w:=w) t ty e i z hu hi hz0 ad0 cap cap olds o1 (o2 ad0 rfl) ad m cap2 news n1 (n2 ad rfl) (by omega) (by simp only [maxLen] at b1;omega) (growslice_fits (by omega) b2)
    have hT:=push q (GM.le_refl _) h hok (fun _ h=>h) rfl cap olds o1 c o4 (grownCap w (cap + m) cap e) (grownCap_ge w _ _ e) (grownCap_le_maxLen w _ _ e b1)
    exact ⟨_,_,_,hrun,⟨w.heap.size,_,by simp [GM.push],rfl,grownCap_ge w _ _ e⟩,hT⟩
 ·rintro qd d n' N c rfl hd hnN b1 b2
  have hQq:(gq q g).le (gq (qd || q) g):=by rw [Bool.or_comm];exact gq_or _ g
  have hQd:(gq qd g).le (gq (qd || q) g):=gq_or _ g
  obtain ⟨b,cap,hg,rfl,hncap⟩:=hr
  obtain ⟨_,hcm,cs,t',hh,hm,hc0⟩:=rw_get (hok.all hd hg)
  have hn:n' ≤ cap:=hncap
  have hc:∀ k,k < n' → ∀ o,o < i.size → ∃ u,cs[k * i.size + o]? = some u ∧ u.oneCell' = true ∧ rep (MM F g h) w (c k o) (gq (qd || q) g) u:=fun k hk o ho=>by
   obtain ⟨x,a,b,d⟩:=hc0 k (by omega) o ho
   exact ⟨x,a,b,rep_up hQd d⟩
  have hlive:live h d:=⟨_,hd,rw_live _ _ _ _⟩
  have holen:n' * i.size ≤ cs.size:=by rw [hm];exact Nat.mul_le_mul_right _ hn
  have ho1:(cs.toList.take (n' * i.size)).length = n' * i.size:=by simp;omega
  have hold:∀ k,k < n' → ∀ o,o < i.size → ∃ u,(cs.toList.take (n' * i.size))[k * i.size + o]? = some u ∧ u.oneCell' = true ∧ rep (MM F g h) w (c k o) (gq (qd || q) g) u:=fun k hk o ho=>by
   have hks:(k + 1) * i.size ≤ n' * i.size:=Nat.mul_le_mul_right _ hk
   rw [Nat.add_mul,Nat.one_mul] at hks
   obtain ⟨x,a,b,d⟩:=hc k hk o ho
   exact ⟨x,by rw [List.getElem?_take,if_pos (by omega)];simpa using a,b,d⟩
  by_cases hroom:n' + m ≤ cap
  ·have hfit:n' * i.size + news.length ≤ cs.size:=by
    rw [n1,hm,← Nat.add_mul];exact Nat.mul_le_mul_right _ hroom
   have hfit':n' * i.size + news.toArray.size ≤ cs.size:=by simpa using hfit
   have hrun:(Builtin.append_ #[t,t] ty #[.slice (some ⟨b,0,none⟩) n' cap,.slice B m cap2]).run P w = .ok (.slice (some ⟨b,0,none⟩) (n' + m) cap) (w.setRow b (overs cs (n' * i.size) news.toArray)):=by
    by_cases hm0:m = 0
    ·subst hm0
     have hnews:news = []:=List.eq_nil_of_length_eq_zero (by simpa using n1)
     subst hnews
     have:overs cs (n' * i.size) #[] = cs:=by simp [overs]
     have hself:w.setRow b cs = w:=setRow_self w b cs _ _ hh
     rw [this,hself]
     cases B <;> simp [Builtin.append_,run_underlying hu,sizeOf,typeInfo,hi,Builtin.lenOf,Builtin.firstCells,storeCells,loadCells,loadCellsFrom,hn]
    ·obtain ⟨ad,rfl⟩:=hBsome (by omega)
     have ht':t' = e ∨ t' ≠ e:=Decidable.em _
     have:=run_append_room' (P:=P) (w:=w) t ty e i hu hi b n' cap cs t' hh ad m cap2 news n1 (n2 ad rfl) n3 hroom hfit
     simpa [overs] using this
   have hch:Chg (fun y=>y = b) w (w.setRow b (overs cs (n' * i.size) news.toArray)):=Chg.setRow _ _ _
   have hchM:Chg (MM F g h) w (w.setRow b (overs cs (n' * i.size) news.toArray)):=hch.weak (fun x _ e=>by subst e;exact .inr ⟨d,cap,hlive,hg⟩)
   have T1:=Tr.upd hok (x:=.rw (qd || q) (n' + m) i.size (appc n' c c')) hlive hg (rw_live _ _ _ _) hch (rw_mk ⟨hroom,hcm,_,t',setRow_heap _ _ _ _ _ _ hh,by rw [overs_size hfit'];exact hm,fun k hk o ho=>by
    have hks:(k + 1) * i.size ≤ (n' + m) * i.size:=Nat.mul_le_mul_right _ hk
    rw [Nat.add_mul,Nat.one_mul,Nat.add_mul] at hks
    simp only [appc]
    by_cases hkn:k < n'
    ·rw [if_pos hkn]
     have hks2:(k + 1) * i.size ≤ n' * i.size:=Nat.mul_le_mul_right _ hkn
     rw [Nat.add_mul,Nat.one_mul] at hks2
     obtain ⟨x,a,b,d⟩:=hc k hkn o ho
     exact ⟨x,by rw [overs_out hfit' (.inl (by omega))];exact a,b,rep_mono hchM (fun _ _ h=>h) _ (GM.le_refl _) d⟩
    ·rw [if_neg hkn]
     obtain ⟨x,a,b,d⟩:=n4 (k - n') (by omega) o ho
     have hge:n' * i.size ≤ k * i.size:=Nat.mul_le_mul_right _ (by omega)
     refine ⟨x,?_,b,rep_mono hchM (fun _ _ h=>h) _ hQq d⟩
     have:=overs_in hfit' (i:=(k - n') * i.size + o) (by rw [Nat.sub_mul];simp [n1];omega)
     rw [show n' * i.size + ((k - n') * i.size + o) = k * i.size + o by rw [Nat.sub_mul];omega] at this
     rw [this]
     simpa using a⟩)
   exact .inl ⟨_,_,b,cap,hrun,hg,rfl,hroom,T1⟩
  ·have hm0:0 < m:=by omega
   obtain ⟨ad,rfl⟩:=hBsome hm0
   have hcells:∀ (j:Nat) (v:Value),(cs.toList.take (n' * i.size))[j]? = some v → w.cell? ((⟨b,0,none⟩:Addr).add j) = some v:=fun j v hv=>by
    rw [Addr.add_lit,Nat.zero_add]
    refine cell_of_heap hh ?_
    rw [List.getElem?_take] at hv
    split at hv
    ·simpa using hv
    ·cases hv
   have hrun:=run_append_grow (P:=P) (w:=w) t ty e i z hu hi hz0 ⟨b,0,none⟩ n' cap (cs.toList.take (n' * i.size)) ho1 hcells ad m cap2 news n1 (n2 ad rfl) (by omega) (by simp only [maxLen] at b1;omega) (growslice_fits (by omega) b2)
   have T1:=Tr.kill hok d
   have hT:=push (qd || q) hQq (h.set d .dead) T1.ok (fun x hx=>T1.old x (T1.ok.mlt hx) hx) (by simp) n' _ ho1 c hold (grownCap w (n' + m) cap e) (grownCap_ge w _ _ e) (grownCap_le_maxLen w _ _ e b1)
   have hT2:=push (qd || q) hQq h hok (fun _ h=>h) rfl n' _ ho1 c hold (grownCap w (n' + m) cap e) (grownCap_ge w _ _ e) (grownCap_le_maxLen w _ _ e b1)
   exact .inr ⟨_,_,w.heap.size,_,hrun,rfl,grownCap_ge w _ _ e,hT2,T1.trans hT⟩

theorem run_append_room2 (t ty e:TypeId) (i:TypeInfo) (ht:P.underlying t = some (.slice e)) (hi:P.info? e = some i)
  (g off sLen sCap:Nat) (cur:Array Value) (te:TypeId) (hg:w.heap[g]? = some (.cells cur te (0,0)))
  (a:Addr) (m c:Nat) (news:List Value) (hl:news.length = m * i.size) (hnews:∀ (j:Nat) u,news[j]? = some u → w.cell? (a.add j) = some u) (h1:∀ u ∈ news,u.oneCell' = true)
  (hroom:sLen + m ≤ sCap) (hfit:off + sLen * i.size + news.length ≤ cur.size) :
  (Builtin.append_ #[t,t] ty #[.slice (some ⟨g,off,none⟩) sLen sCap,.slice (some a) m c]).run P w =
   .ok (.slice (some ⟨g,off,none⟩) (sLen + m) sCap) (w.setRow g (cur.toList.take (off + sLen * i.size) ++ news ++ cur.toList.drop (off + sLen * i.size + news.length)).toArray):=by
 have hf:=run_firstCells_some (P:=P) w i.size m a m c news hl hnews
 have hst:=run_storeCells_at P g (off + sLen * i.size) te news 0 cur w hg (by simpa using hfit) h1
 simp only [Nat.add_zero] at hst
 simp [Builtin.append_,run_underlying ht,sizeOf,typeInfo,hi,Builtin.lenOf,hroom,hf,Addr.add_lit,hst]
/-- Append to a piece of an own row that does not begin it. -/
theorem val_app_osl {t ty e:TypeId} {i:TypeInfo} {zs:List Value} {u u2:Value} {y:AV} {m d lo n' N:Nat} {c c':Nat → Nat → AV} (hok:HOK F g w h) (ht:tyEl P t = some (e,i)) (hz:zcells i = some zs) (hr:rep (MM F g h) w (.osl d i.size lo n') g u) (hy:rep (MM F g h) w y g u2) (hsz:0 < i.size) (hS:Src false i.size h y m c')
  (hd:h[d]? = some (.row N i.size c)) (hnN:lo + n' ≤ N) (b1:n' + m ≤ maxLen) (b2:(n' + m) * i.bytes ≤ 140737488355328) :
   (∃ u' w',(Builtin.append_ #[t,t] ty #[u,u2]).run P w = .ok u' w' ∧ rep (MM F g (h.set d (.row (lo + (n' + m)) i.size (appc (lo + n') c c')))) w' (.osl d i.size lo (n' + m)) g u' ∧ Tr F g h w g (h.set d (.row (lo + (n' + m)) i.size (appc (lo + n') c c'))) w') ∨
   (∃ u' w' b cap,(Builtin.append_ #[t,t] ty #[u,u2]).run P w = .ok u' w' ∧ u' = .slice (some ⟨b,0,none⟩) (n' + m) cap ∧ n' + m ≤ cap ∧
    Tr F g h w (g.push h.length (b,cap)) (h ++ [.row (n' + m) i.size (appc n' (fun k=>c (lo + k)) c')]) w'):=by
 obtain ⟨hu,hi⟩:=tyEl_some ht
 obtain ⟨z,hz0,hz1,rfl,hone⟩:=zcells_some hz
 obtain ⟨B,cap2,rfl,hBnil,news,n1,n2,n3,n4⟩:=src_cells hok hsz hS hy
 have hBsome:0 < m → ∃ ad,B = some ad:=fun hm=>by
  cases B with
  | none=>have:=hBnil rfl;omega
  | some ad=>exact ⟨ad,rfl⟩
 obtain ⟨b,cap,p,hg,rfl,hncap,hp⟩:=hr
 obtain ⟨hNc,hcm,cs,t',hh,hm,hc0⟩:=hok.row d N _ c b cap hd hg
 have hlive:live h d:=⟨_,hd,trivial⟩
 by_cases hroom:n' + m ≤ cap - lo
 ·have hrun:∃ w',(Builtin.append_ #[t,t] ty #[.slice (some ⟨b,p,none⟩) n' (cap - lo),.slice B m cap2]).run P w = .ok (.slice (some ⟨b,p,none⟩) (n' + m) (cap - lo)) w' ∧ w' = w.setRow b (overs cs ((lo + n') * i.size) news.toArray):=by
   by_cases hm0:m = 0
   ·subst hm0
    have hnews:news = []:=List.eq_nil_of_length_eq_zero (by simpa using n1)
    subst hnews
    have:overs cs ((lo + n') * i.size) #[] = cs:=by simp [overs]
    have hself:w.setRow b cs = w:=setRow_self w b cs _ _ hh
    rw [this,hself]
    refine ⟨_,?_,rfl⟩
    have:n' ≤ cap - lo:=by omega
    cases B <;> simp [Builtin.append_,run_underlying hu,sizeOf,typeInfo,hi,Builtin.lenOf,Builtin.firstCells,storeCells,loadCells,loadCellsFrom,this]
   ·obtain ⟨ad,rfl⟩:=hBsome (by omega)
    have hpp:=hp (by omega)
    subst hpp
    have hfit:lo * i.size + n' * i.size + news.length ≤ cs.size:=by
     rw [n1,hm,← Nat.add_mul,← Nat.add_mul];exact Nat.mul_le_mul_right _ (by omega)
    have:=run_append_room2 (P:=P) (w:=w) t ty e i hu hi b (lo * i.size) n' (cap - lo) cs t' hh ad m cap2 news n1 (n2 ad rfl) n3 hroom hfit
    refine ⟨_,this,?_⟩
    rw [← Nat.add_mul]
    simp [overs]
  obtain ⟨w',hrun,rfl⟩:=hrun
  have hfit':(lo + n') * i.size + news.toArray.size ≤ cs.size:=by
   simp only [List.size_toArray]
   rw [n1,hm,← Nat.add_mul];exact Nat.mul_le_mul_right _ (by omega)
  have hch:Chg (fun y=>y = b) w (w.setRow b (overs cs ((lo + n') * i.size) news.toArray)):=Chg.setRow _ _ _
  have hchM:Chg (MM F g h) w (w.setRow b (overs cs ((lo + n') * i.size) news.toArray)):=hch.weak (fun x _ e=>by subst e;exact .inr ⟨d,cap,hlive,hg⟩)
  have T1:=Tr.upd hok (x:=.row (lo + (n' + m)) i.size (appc (lo + n') c c')) hlive hg trivial hch ⟨by omega,hcm,_,t',setRow_heap _ _ _ _ _ _ hh,by rw [overs_size hfit'];exact hm,fun k hk o ho=>by
   have hks:(k + 1) * i.size ≤ (lo + n' + m) * i.size:=Nat.mul_le_mul_right _ (by omega)
   rw [Nat.add_mul,Nat.one_mul,Nat.add_mul (lo + n')] at hks
   simp only [appc]
   by_cases hkn:k < lo + n'
   ·rw [if_pos hkn]
    have hks2:(k + 1) * i.size ≤ (lo + n') * i.size:=Nat.mul_le_mul_right _ hkn
    rw [Nat.add_mul,Nat.one_mul] at hks2
    obtain ⟨x,a,b,d⟩:=hc0 k (by omega) o ho
    exact ⟨x,by rw [overs_out hfit' (.inl (by omega))];exact a,b,rep_mono hchM (fun _ _ h=>h) _ (GM.le_refl _) d⟩
   ·rw [if_neg hkn]
    obtain ⟨x,a,b,d⟩:=n4 (k - (lo + n')) (by omega) o ho
    have hge:(lo + n') * i.size ≤ k * i.size:=Nat.mul_le_mul_right _ (by omega)
    refine ⟨x,?_,b,rep_mono hchM (fun _ _ h=>h) _ (GM.le_refl _) d⟩
    have:=overs_in hfit' (i:=(k - (lo + n')) * i.size + o) (by rw [Nat.sub_mul];simp only [List.size_toArray,n1];omega)
    rw [show (lo + n') * i.size + ((k - (lo + n')) * i.size + o) = k * i.size + o by rw [Nat.sub_mul];omega] at this
    rw [this]
    simpa using a⟩
  exact .inl ⟨_,_,hrun,⟨b,cap,p,hg,rfl,by omega,hp⟩,T1⟩
 ·have hm0:0 < m:=by omega
  obtain ⟨ad,rfl⟩:=hBsome hm0
  have hps:∀ k,k < n' → p = lo * i.size:=fun k hk=>hp (by omega)
  have olds_ok:∃ olds:List Value,olds.length = n' * i.size ∧ (∀ (j:Nat) (v:Value),olds[j]? = some v → w.cell? ((⟨b,p,none⟩:Addr).add j) = some v) ∧ ∀ k,k < n' → ∀ o,o < i.size → ∃ u,olds[k * i.size + o]? = some u ∧ u.oneCell' = true ∧ rep (MM F g h) w (c (lo + k) o) g0 u:=by
   by_cases h0:n' = 0
   ·subst h0
    exact ⟨[],by simp,fun j v hv=>by simp at hv,fun k hk=>by omega⟩
   ·have hpp:=hp (by omega)
    subst hpp
    have hle:lo * i.size + n' * i.size ≤ cs.size:=by rw [hm,← Nat.add_mul];exact Nat.mul_le_mul_right _ (by omega)
    refine ⟨(cs.toList.drop (lo * i.size)).take (n' * i.size),by simp;omega,fun j v hv=>?_,fun k hk o ho=>?_⟩
    ·rw [Addr.add_lit]
     refine cell_of_heap hh ?_
     rw [List.getElem?_take] at hv
     split at hv
     ·rw [List.getElem?_drop] at hv;simpa using hv
     ·cases hv
    ·have hks:(k + 1) * i.size ≤ n' * i.size:=Nat.mul_le_mul_right _ hk
     rw [Nat.add_mul,Nat.one_mul] at hks
     obtain ⟨x,a,b,d⟩:=hc0 (lo + k) (by omega) o ho
     refine ⟨x,?_,b,d⟩
     rw [List.getElem?_take,if_pos (by omega),List.getElem?_drop]
     rw [Nat.add_mul,Nat.add_assoc] at a
     simpa using a
  obtain ⟨olds,o1,o2,o3⟩:=olds_ok
  have hrun:=run_append_grow (P:=P) (w:=w) t ty e i z hu hi hz0 ⟨b,p,none⟩ n' (cap - lo) olds o1 o2 ad m cap2 news n1 (n2 ad rfl) (by omega) (by simp only [maxLen] at b1;omega) (growslice_fits (by omega) b2)
  have hge:=grownCap_ge w (n' + m) (cap - lo) e
  have hlem:=grownCap_le_maxLen w (n' + m) (cap - lo) e b1
  generalize grownCap w (n' + m) (cap - lo) e = capN at hrun hge hlem
  have hlen:(olds.toArray ++ news.toArray).size = n' * i.size + m * i.size:=by simp [o1,n1]
  have:=Tr.newBlock hok (w':=w.drew.alloc (.cells (olds.toArray ++ news.toArray ++ Builtin.zeroCells z.cells (capN - (n' + m))) e)) ((Chg.drew _ w).trans (Chg.alloc _ _ _) (fun _ _ h=>h)) (heap_alloc_new w.drew _) capN (.row (n' + m) i.size (appc n' (fun k=>c (lo + k)) c')) ⟨hge,hlem,by
   simp only [Array.size_append,List.size_toArray,o1,n1,size_zeroCells,hz1]
   rw [← Nat.add_mul,← Nat.add_mul]
   congr 1
   omega,fun k hk o ho=>by
   have hks:(k + 1) * i.size ≤ (n' + m) * i.size:=Nat.mul_le_mul_right _ hk
   rw [Nat.add_mul,Nat.one_mul,Nat.add_mul] at hks
   rw [Array.getElem?_append_left (by omega)]
   simp only [appc]
   by_cases hkn:k < n'
   ·rw [if_pos hkn]
    have hks2:(k + 1) * i.size ≤ n' * i.size:=Nat.mul_le_mul_right _ hkn
    rw [Nat.add_mul,Nat.one_mul] at hks2
    obtain ⟨x,a,b,d⟩:=o3 k hkn o ho
    refine ⟨x,?_,b,d⟩
    rw [Array.getElem?_append_left (by simp [o1];omega)]
    simpa using a
   ·rw [if_neg hkn]
    obtain ⟨x,a,b,d⟩:=n4 (k - n') (by omega) o ho
    refine ⟨x,?_,b,d⟩
    have hge:n' * i.size ≤ k * i.size:=Nat.mul_le_mul_right _ (by omega)
    rw [Array.getElem?_append_right (by simp [o1];omega)]
    simp only [List.size_toArray,o1,List.getElem?_toArray]
    rw [show k * i.size + o - n' * i.size = (k - n') * i.size + o by rw [Nat.sub_mul];omega]
    exact a⟩
  exact .inr ⟨_,_,w.heap.size,capN,hrun,rfl,hge,this⟩

theorem val_app {t ty e:TypeId} {i:TypeInfo} {zs:List Value} {v y:AV} {u u2:Value} (hok:HOK F g w h) (ht:tyEl P t = some (e,i)) (hz:zcells i = some zs) (hr:rep (MM F g h) w v g u) (hy:rep (MM F g h) w y g u2)
  (H:aop (.app i.size i.bytes (.k v) (.k y)) (fun x=>x.ev (fun _=>.bot)) h (fun a b=>a = r ∧ b = h')) :
  ∃ u' w' g',(Builtin.append_ #[t,t] ty #[u,u2]).run P w = .ok u' w' ∧ rep (MM F g' h') w' r g' u' ∧ Tr F g h w g' h' w':=by
 simp only [aop,AX.ev] at H
 obtain ⟨hsz,H⟩:=H
 obtain ⟨q,m,c',hS,H2⟩:=asrc_e H
 clear H
 have H:=H2
 clear H2
 cases v <;> simp only at H
 case sl zz ee n sz2 c=>exact (val_app_core (ty:=ty) hok ht hz hr hy hsz hS).1 zz ee n sz2 c rfl H
 case own d n =>
  have key:∀ (qd:Bool) (c:Nat → Nat → AV),h[d]? = some (.rw qd n i.size c) → n + m ≤ maxLen → (n + m) * i.bytes ≤ 140737488355328 →
    ∃ u' w' g',(Builtin.append_ #[t,t] ty #[u,u2]).run P w = .ok u' w' ∧ rep (MM F g' (h.set d .dead ++ [.rw (qd || q) (n + m) i.size (appc n c c')])) w' (.own h.length (n + m)) g' u' ∧ Tr F g h w g' (h.set d .dead ++ [.rw (qd || q) (n + m) i.size (appc n c c')]) w':=by
   intro qd c hd b1 b2
   rcases (val_app_core (ty:=ty) (r:=.bot) (h':=h) hok ht hz hr hy hsz hS).2 qd d n n c rfl hd (Nat.le_refl _) b1 b2 with ⟨u',w',b,cap,hrun,hg,rfl,hcap,T1⟩|⟨u',w',b,cap,hrun,rfl,hcap,_,T⟩
   ·have hd1:d < h.length:=hok.lt hg
    have T2:=Tr.move T1.ok (d:=d) (b:=b) (cap:=cap) (x:=.rw (qd || q) (n + m) i.size (appc n c c')) (live_set_eq hd1 (rw_live _ _ _ _)) hg (T1.ok.all (by rw [List.getElem?_set];simp [hd1]) hg)
    have T:=T1.trans T2
    have e1:(h.set d (.rw (qd || q) (n + m) i.size (appc n c c'))).length = h.length:=by simp
    have e2:(h.set d (.rw (qd || q) (n + m) i.size (appc n c c'))).set d .dead = h.set d .dead:=by simp
    rw [e1,e2] at T
    exact ⟨_,_,_,hrun,⟨b,cap,by simp [GM.push],rfl,hcap⟩,T⟩
   ·exact ⟨_,_,_,hrun,⟨b,cap,by simp [GM.push],rfl,hcap⟩,T⟩
  split at H
  ·rename_i n' sz2 c hd
   obtain ⟨rfl,rfl,b1,b2,rfl,rfl⟩:=H
   exact key false c hd b1 b2
  ·rename_i n' sz2 c hd
   obtain ⟨rfl,rfl,b1,b2,rfl,rfl⟩:=H
   exact key true c hd b1 b2
  ·exact H.elim

/-- Append to a row that is used on: either in its place, or in a new one. -/
def asplit (o:AOp) (e:AX → AV) (h:List AB) (K:AV → List AB → Prop):Prop :=
 match o with
 | .app sz bytes x y=>0 < sz ∧ asrc sz h (e y) (fun q m c'=>q = false ∧ match e x with
  | .own d n=>(match h[d]? with
   | some (.row N sz2 c)=>sz2 = sz ∧ n ≤ N ∧ n + m ≤ maxLen ∧ (n + m) * bytes ≤ 140737488355328 ∧
    K (.own d (n + m)) (h.set d (.row (n + m) sz (appc n c c'))) ∧ K (.own h.length (n + m)) (h ++ [.row (n + m) sz (appc n c c')])
   | _=>False)
  | .osl d sz3 lo n=>(match h[d]? with
   | some (.row N sz2 c)=>sz3 = sz ∧ sz2 = sz ∧ lo + n ≤ N ∧ n + m ≤ maxLen ∧ (n + m) * bytes ≤ 140737488355328 ∧
    K (.osl d sz lo (n + m)) (h.set d (.row (lo + (n + m)) sz (appc (lo + n) c c'))) ∧ K (.own h.length (n + m)) (h ++ [.row (n + m) sz (appc n (fun k=>c (lo + k)) c')])
   | _=>False)
  | _=>False)
 | _=>False
theorem val_split {t ty e:TypeId} {i:TypeInfo} {zs:List Value} {v y:AV} {u u2:Value} {K:AV → List AB → Prop} (hok:HOK F g w h) (ht:tyEl P t = some (e,i)) (hz:zcells i = some zs) (hr:rep (MM F g h) w v g u) (hy:rep (MM F g h) w y g u2)
  (H:asplit (.app i.size i.bytes (.k v) (.k y)) (fun x=>x.ev (fun _=>.bot)) h K) :
  ∃ r h' u' w' g',K r h' ∧ (Builtin.append_ #[t,t] ty #[u,u2]).run P w = .ok u' w' ∧ rep (MM F g' h') w' r g' u' ∧ Tr F g h w g' h' w':=by
 simp only [asplit,AX.ev] at H
 obtain ⟨hsz,H⟩:=H
 obtain ⟨q,m,c',hS,rfl,H2⟩:=asrc_e H
 clear H
 have H:=H2
 clear H2
 split at H
 ·split at H
  ·rename_i N sz2 c hd
   obtain ⟨rfl,hnN,b1,b2,K1,K2⟩:=H
   rcases (val_app_core (ty:=ty) (r:=.bot) (h':=h) hok ht hz hr hy hsz hS).2 false _ _ N c rfl hd hnN b1 b2 with ⟨u',w',b,cap,hrun,hg,rfl,hcap,T1⟩|⟨u',w',b,cap,hrun,rfl,hcap,T,_⟩
   ·exact ⟨_,_,_,_,g,K1,hrun,⟨b,cap,hg,rfl,hcap⟩,T1⟩
   ·exact ⟨_,_,_,_,_,K2,hrun,⟨b,cap,by simp [GM.push],rfl,hcap⟩,T⟩
  ·exact H.elim
 ·split at H
  ·rename_i N sz2 c hd
   obtain ⟨rfl,rfl,hnN,b1,b2,K1,K2⟩:=H
   rcases val_app_osl (ty:=ty) hok ht hz hr hy hsz hS hd hnN b1 b2 with ⟨u',w',hrun,hv,T1⟩|⟨u',w',b,cap,hrun,rfl,hcap,T⟩
   ·exact ⟨_,_,_,_,g,K1,hrun,hv,T1⟩
   ·exact ⟨_,_,_,_,_,K2,hrun,⟨b,cap,by simp [GM.push],rfl,hcap⟩,T⟩
  ·exact H.elim
 ·exact H.elim
end
end Go.Proofs.Ytbhjehpjjbbhbaa

namespace Go.Proofs.Ytbhjehpjjbbhbaa
open Go.RowKit

def litsOf (l:List Int):List Lit:=l.map (Lit.int .i64)
theorem litsOf_inj {a b:List Int} (h:litsOf a = litsOf b):a = b:=by
 unfold litsOf at h
 induction a generalizing b with
 | nil=>cases b with
  | nil=>rfl
  | cons=>simp at h
 | cons x xs ih=>cases b with
  | nil=>simp at h
  | cons y ys =>
   simp only [List.map_cons,List.cons.injEq,Lit.int.injEq,true_and] at h
   rw [h.1,ih h.2]
theorem lit_wf {a:Int} (h:in64 a):(Lit.int .i64 a).wf = true:=by
 have h1:IntKind.i64.min = -9223372036854775808:=by decide
 have h2:IntKind.i64.max = 9223372036854775807:=by decide
 simp only [Lit.wf,h1,h2,Bool.and_eq_true,decide_eq_true_eq]
 exact h
theorem mapM_some {α β:Type} {f:α → Option β} {g:α → β}:∀ {L:List α},(∀ x ∈ L,f x = some (g x)) → L.mapM f = some (L.map g)
 | [],_=>rfl
 | x :: L,h=>by
  rw [List.mapM_cons,h x List.mem_cons_self,mapM_some fun y hy=>h y (List.mem_cons_of_mem _ hy)];rfl
theorem chunks_flat {α:Type} (s:Nat):∀ (n:Nat) (l:List α),l.length = n * s → ((List.range n).map fun i=>(l.drop (i * s)).take s).flatten = l
 | 0,l,h=>by
  rw [Nat.zero_mul] at h
  rw [List.length_eq_zero_iff.1 h];rfl
 | n + 1,l,h=>by
  have e:(l.take (n * s)).length = n * s:=by rw [List.length_take,h,Nat.add_mul];omega
  have ih:=chunks_flat s n (l.take (n * s)) e
  have hc:∀ i ∈ List.range n,((l.take (n * s)).drop (i * s)).take s = (l.drop (i * s)).take s:=fun i hi=>by
   have hi:=List.mem_range.1 hi
   have:i * s + s ≤ n * s:=by rw [← Nat.succ_mul];exact Nat.mul_le_mul_right s hi
   rw [List.drop_take,List.take_take,Nat.min_eq_left (by omega)]
  rw [List.map_congr_left hc] at ih
  rw [List.range_succ,List.map_append,List.flatten_append,ih]
  simp only [List.map_cons,List.map_nil,List.flatten_cons,List.flatten_nil,List.append_nil]
  have h3:(l.drop (n * s)).take s = l.drop (n * s):=List.take_of_length_le (by rw [List.length_drop,h,Nat.add_mul];omega)
  rw [h3,List.take_append_drop]
section
variable {P:Program}
theorem chain_le : ∀ {fs:List Field} {a b:Nat},chainB P fs a b = true → a ≤ b ∧ ∀ f ∈ fs,f.offset + P.cellsOf f.type ≤ b
 | [],a,b,h=>by
  simp only [chainB,beq_iff_eq] at h
  exact ⟨by omega,fun f hf=>by cases hf⟩
 | f :: fs,a,b,h=>by
  simp only [chainB,Bool.and_eq_true,beq_iff_eq] at h
  obtain ⟨h1,h2⟩:=chain_le h.2
  refine ⟨by omega,fun g hg=>?_⟩
  rcases List.mem_cons.1 hg with rfl|hg
  ·omega
  ·exact h2 g hg
theorem chain_flat {α:Type} {l:List α}:∀ {fs:List Field} {a:Nat},chainB P fs a l.length = true → (fs.map fun f=>(l.drop f.offset).take (P.cellsOf f.type)).flatten = l.drop a
 | [],a,h=>by
  simp only [chainB,beq_iff_eq] at h
  rw [List.drop_eq_nil_of_le (by omega)];rfl
 | f :: fs,a,h=>by
  simp only [chainB,Bool.and_eq_true,beq_iff_eq] at h
  rw [List.map_cons,List.flatten_cons,chain_flat h.2,h.1,← List.drop_drop,List.take_append_drop]
theorem map_chunk {a s:Nat} (l:List Int):((l.map (Value.int .i64)).drop a).take s = ((l.drop a).take s).map (Value.int .i64):=by
 rw [List.map_take,List.map_drop]
theorem flat_map_lits (L:List (List Int)):(L.map litsOf).flatten = litsOf L.flatten:=by
 unfold litsOf
 rw [List.map_flatten]
theorem keyLits_i64 : ∀ (d:Nat) (t:TypeId),i64Key P d t = true → ∀ l:List Int,l.length = P.cellsOf t → (∀ a ∈ l,in64 a) → P.keyLits d t (l.map (Value.int .i64)) = some (litsOf l)
 | 0,t,h,l,_,_=>by simp [i64Key] at h
 | d + 1,t,h,l,hl,hr=>by
  unfold i64Key at h
  unfold Program.keyLits
  split at h
  ·rename_i q hu
   simp only [Bool.and_eq_true,decide_eq_true_eq,beq_iff_eq] at h
   obtain ⟨rfl,h1⟩:=h
   obtain ⟨a,rfl⟩:∃ a,l = [a]:=List.length_eq_one_iff.1 (by omega)
   simp only [hu,List.map_cons,List.map_nil]
   have hw:=lit_wf (hr a (by simp))
   simp [hw,litsOf]
  ·rename_i n e hu
   simp only [Bool.and_eq_true,beq_iff_eq] at h
   simp only [hu]
   rw [if_pos (by rw [List.length_map,hl])]
   have hc:∀ i ∈ List.range n,P.keyLits d e (((l.map (Value.int .i64)).drop (i * P.cellsOf e)).take (P.cellsOf e)) = some (litsOf ((l.drop (i * P.cellsOf e)).take (P.cellsOf e))):=fun i hi=>by
    have hi:=List.mem_range.1 hi
    have:i * P.cellsOf e + P.cellsOf e ≤ n * P.cellsOf e:=by rw [← Nat.succ_mul];exact Nat.mul_le_mul_right _ hi
    rw [map_chunk]
    refine keyLits_i64 d e h.1 _ ?_ fun a ha=>hr a (List.mem_of_mem_drop (List.mem_of_mem_take ha))
    rw [List.length_take,List.length_drop,hl,h.2];omega
   rw [mapM_some (g:=fun i=>litsOf ((l.drop (i * P.cellsOf e)).take (P.cellsOf e))) hc,Option.map_some]
   congr 1
   have e1:((List.range n).map fun i=>litsOf ((l.drop (i * P.cellsOf e)).take (P.cellsOf e))) = ((List.range n).map fun i=>(l.drop (i * P.cellsOf e)).take (P.cellsOf e)).map litsOf:=by rw [List.map_map];rfl
   rw [e1,flat_map_lits,chunks_flat (P.cellsOf e) n l (by rw [hl,h.2])]
  ·rename_i fs hu
   simp only [Bool.and_eq_true,List.all_eq_true,bne_iff_ne,ne_eq] at h
   obtain ⟨h1,h2⟩:=h
   simp only [hu]
   have hb : fs.all (fun f => f.name != "_") = true := by
    rw [Array.all_eq_true']
    intro f hf
    simpa using (h2 f (by simpa using hf)).1
   rw [if_pos ⟨by rw [List.length_map,hl],hb⟩]
   have hc:∀ f ∈ fs.toList,P.keyLits d f.type (((l.map (Value.int .i64)).drop f.offset).take (P.cellsOf f.type)) = some (litsOf ((l.drop f.offset).take (P.cellsOf f.type))):=fun f hf=>by
    have hle:=(chain_le h1).2 f hf
    rw [map_chunk]
    refine keyLits_i64 d f.type (h2 f hf).2 _ ?_ fun a ha=>hr a (List.mem_of_mem_drop (List.mem_of_mem_take ha))
    rw [List.length_take,List.length_drop,hl];omega
   rw [mapM_some (g:=fun f=>litsOf ((l.drop f.offset).take (P.cellsOf f.type))) hc,Option.map_some]
   congr 1
   have e1:(fs.toList.map fun f=>litsOf ((l.drop f.offset).take (P.cellsOf f.type))) = (fs.toList.map fun f=>(l.drop f.offset).take (P.cellsOf f.type)).map litsOf:=by rw [List.map_map];rfl
   rw [e1,flat_map_lits,chain_flat (by rw [hl];exact h1),List.drop_zero]
  ·cases h
/-- What a map's type says of its keys. -/
theorem mapT_some {t:TypeId} {kt:Nat} {k e:TypeId} (h:mapT P t = some (kt,k,e)):P.underlying t = some (.map k e) ∧ ((kt = 0 ∧ P.underlying k = some (.int .i64)) ∨ ((∃ n,kt = n + 1) ∧ P.cellsOf k = kt ∧ P.keyTypeAt 4 k = true ∧ i64Key P 4 k = true ∧ ∃ fs,P.underlying k = some (.struct fs))):=by
 unfold mapT at h
 split at h
 ·rename_i k' e' hu
  split at h
  ·rename_i q hk
   split at h
   ·rename_i hq
    simp only [Option.some.injEq,Prod.mk.injEq] at h
    obtain ⟨rfl,rfl,rfl⟩:=h
    subst hq
    exact ⟨hu,.inl ⟨rfl,hk⟩⟩
   ·cases h
  ·rename_i fs hk
   split at h
   ·rename_i n hn
    split at h
    ·rename_i hc
     simp only [Option.some.injEq,Prod.mk.injEq] at h
     obtain ⟨rfl,rfl,rfl⟩:=h
     simp only [Bool.and_eq_true] at hc
     exact ⟨hu,.inr ⟨⟨n,rfl⟩,hn,hc.1,hc.2,fs,hk⟩⟩
    ·cases h
   ·cases h
  ·cases h
 ·cases h
theorem mapsBits (n:Nat):∀ (l:List Int),((l.map (Value.int .i64)).zip (l.map (Value.int .i64))).all (fun p=>Instr.sameBits (n + 1) p.1 p.2) = true
 | []=>rfl
 | a :: l=>by simp [Instr.sameBits,mapsBits n l]
theorem sameKeyV (kt:Nat) (l:List Int):Instr.sameBits 10000 (keyV kt l) (keyV kt l) = true:=by
 cases kt with
 | zero=>simp [keyV,Instr.sameBits]
 | succ n =>
  simp only [keyV,Instr.sameBits,beq_self_eq_true,Bool.true_and]
  exact mapsBits 9998 l
theorem keyV_stays {kt:Nat} {l:List Int} {w:World}:(Instr.keyThatStays (keyV kt l) (keyV kt l)).run P w = .ok (keyV kt l) w:=by
 simp [Instr.keyThatStays,sameKeyV]
section
variable {t:TypeId} {kt:Nat} {k e:TypeId} (hT:mapT P t = some (kt,k,e)) (w:World)
include hT
theorem checkKey_ok {l:List Int} (hl:KeyOK kt l) (em:Bool):(Instr.checkKey em 10000 k (keyV kt l)).run P w = .ok () w:=by
 obtain ⟨_,⟨rfl,hk⟩|⟨⟨n,rfl⟩,hc,hkt,hi,fs,hk⟩⟩:=mapT_some hT
 ·exact MapKept.run_checkKey hk (by simp [MapKept.IsKey,keyV]) em 9999
 ·have:=run_checkKey_deep (P:=P) em 9996 4 k hkt w 4 (keyV (n + 1) l) (litsOf l) (by
   have hs:l.length = P.cellsOf k:=by rw [hc];have:=hl.1;omega
   simp [Value.formed,keyV,hk,hs]) (by
   have:=keyLits_i64 4 k hi l (by rw [hc];have:=hl.1;omega) hl.2
   simpa [keyV,Value.cells] using this)
  exact this
theorem find_ok {l:List Int} (hl:KeyOK kt l):∀ (es:List MapEntry) (ks:List (List Int)),es.map (·.key) = ks.map (keyV kt) → (∀ x ∈ ks,KeyOK kt x) →
  (Instr.findKey k (keyV kt l) es).run P w = .ok ((ks.findIdx? (· == l)).bind fun j=>(es[j]?).map fun y=>(j,y.val)) w:=by
 intro es ks he hks
 obtain ⟨_,⟨rfl,hk⟩|⟨⟨n,rfl⟩,hc,hkt,hi,fs,hk⟩⟩:=mapT_some hT
 ·have key:∀ (es:List MapEntry) (ks:List (List Int)) (i:Nat),es.map (·.key) = ks.map (keyV 0) → (∀ x ∈ ks,KeyOK 0 x) → Instr.findNow (.int .i64) (keyV 0 l) es i = some ((ks.findIdx? (· == l)).bind fun j=>(es[j]?).map fun y=>(i + j,y.val)):=by
   intro es
   induction es with
   | nil=>intro ks i he _;cases ks with
    | nil=>rfl
    | cons=>simp at he
   | cons y es ih =>
    intro ks i he hks
    cases ks with
    | nil=>simp at he
    | cons x ks =>
     simp only [List.map_cons,List.cons.injEq] at he
     have ih:=ih ks (i + 1) he.2 fun z hz=>hks z (List.mem_cons_of_mem _ hz)
     obtain ⟨a,rfl⟩:∃ a,l = [a]:=List.length_eq_one_iff.1 (by have:=hl.1;omega)
     obtain ⟨b,rfl⟩:∃ b,x = [b]:=List.length_eq_one_iff.1 (by have:=(hks x List.mem_cons_self).1;omega)
     have hy:y.key = .int .i64 b:=he.1
     simp only [Instr.findNow,keyV,hy,Instr.sameNow,if_true,List.getD_cons_zero]
     by_cases hab:a = b
     ·subst hab;simp [List.findIdx?_cons]
     ·have e1:(a == b) = false:=by simpa using hab
      have e2:([b] == [a]) = false:=by simpa using fun h=>hab h.symm
      rw [e1]
      simp only [keyV,List.getD_cons_zero] at ih
      simp only [ih,List.findIdx?_cons,e2]
      cases ks.findIdx? (fun x=>x == [a]) with
      | none=>simp
      | some j=>simp [Nat.add_assoc,Nat.add_comm 1 j]
  have:=key es ks 0 he hks
  simp only [Nat.zero_add] at this
  exact MapKept.run_findKey hk this
 ·have key:∀ (es:List MapEntry) (ks:List (List Int)) (i:Nat),es.map (·.key) = ks.map (keyV (n + 1)) → (∀ x ∈ ks,KeyOK (n + 1) x) → (Instr.findAsking k (keyV (n + 1) l) es i).run P w = .ok ((ks.findIdx? (· == l)).bind fun j=>(es[j]?).map fun y=>(i + j,y.val)) w:=by
   intro es
   induction es with
   | nil=>intro ks i he _;cases ks with
    | nil=>simp [Instr.findAsking]
    | cons=>simp at he
   | cons y es ih =>
    intro ks i he hks
    cases ks with
    | nil=>simp at he
    | cons x ks =>
     simp only [List.map_cons,List.cons.injEq] at he
     have ih:=ih ks (i + 1) he.2 fun z hz=>hks z (List.mem_cons_of_mem _ hz)
     have hx:=hks x List.mem_cons_self
     have frm:∀ l:List Int,KeyOK (n + 1) l → (keyV (n + 1) l).formed P k = true ∧ P.keyLits 4 k (keyV (n + 1) l).cells.toList = some (litsOf l):=fun l hl=>by
      have hs:l.length = P.cellsOf k:=by rw [hc];have:=hl.1;omega
      exact ⟨by simp [Value.formed,keyV,hk,hs],by simpa [keyV,Value.cells] using keyLits_i64 4 k hi l hs hl.2⟩
     obtain ⟨r,hr,hiff⟩:=run_equalIn_deep (P:=P) 9996 4 k hkt w 4 4 (keyV (n + 1) l) (keyV (n + 1) x) (litsOf l) (litsOf x) (frm l hl).1 (frm x hx).1 (frm l hl).2 (frm x hx).2
     have hr':(Op.equal k (keyV (n + 1) l) y.key).run P w = .ok r w:=by rw [he.1];exact hr
     simp only [Instr.findAsking,Sem.run_bind,hr',Result.andThen_ok]
     by_cases hlx:l = x
     ·subst hlx
      obtain rfl:r = true:=hiff.2 rfl
      simp [List.findIdx?_cons]
     ·have hrf:r = false:=by
       cases r
       ·rfl
       ·exact (hlx (litsOf_inj (hiff.1 rfl))).elim
      have e2:(x == l) = false:=by simpa using fun h=>hlx h.symm
      subst hrf
      simp only [Bool.false_eq_true,if_false,ih,List.findIdx?_cons,e2]
      cases ks.findIdx? (fun x=>x == l) with
      | none=>simp
      | some j=>simp [Nat.add_assoc,Nat.add_comm 1 j]
  cases es with
  | nil=>cases ks with
   | nil=>simp [Instr.findKey,run_underlying hk,Instr.findNow]
   | cons=>simp at he
  | cons y es =>
   have h1:Instr.findNow (.struct fs) (keyV (n + 1) l) (y :: es) 0 = none:=by simp [Instr.findNow,Instr.sameNow]
   have:=key (y :: es) ks 0 he hks
   simp only [Nat.zero_add] at this
   simp only [Instr.findKey,Sem.run_bind,run_underlying hk,Result.andThen_ok,h1]
   exact this
end
end
end Go.Proofs.Ytbhjehpjjbbhbaa
