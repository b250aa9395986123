/- The operations that make or write memory: abstract and real agree -/
import Derived.Test.YtodpjdmdmmnlpaaGreatBs3
import Derived.Laws.MakeOwn
import Derived.Laws.CopyRow

namespace Go.Proofs.YtodpjdmdmmnlpaaGreat
open Go.RowKit
variable {F:Nat → Prop}

theorem cells_of_elem {M:Nat → Prop} {w:World} {g:GM} {m:Nat} {v:AV} {u:Value} (h:elemOK m v) (hr:rep M w v g u):u.cells.size = m ∧ ∀ i,i < m → ∃ x,u.cells[i]? = some x ∧ x.oneCell' = true ∧ rep M w (elemC v i) g x:=by
 have key:v.one = true → m = 1 → elemC v = (fun _=>v) → u.cells.size = m ∧ ∀ i,i < m → ∃ x,u.cells[i]? = some x ∧ x.oneCell' = true ∧ rep M w (elemC v i) g x:=fun h1 hm he=>by
  obtain ⟨a,b⟩:=one_of_rep h1 hr
  subst hm
  refine ⟨by rw [b];rfl,fun i hi=>⟨u,?_,a,by rw [he];exact hr⟩⟩
  obtain rfl:i = 0:=by omega
  rw [b];rfl
 cases v <;> simp only [elemOK,AV.one,Bool.false_eq_true,false_and] at h
 case agg m' c =>
  obtain ⟨cs,rfl,hm,hc⟩:=hr
  subst h
  exact ⟨hm,hc⟩
 all_goals exact key rfl h.2 rfl
theorem pure_elem {v:AV} (h:v.pure) (m:Nat) (hm:elemOK m v) (i:Nat) (hi:i < m):(elemC v i).pure:=by
 cases v <;> simp only [elemOK] at hm <;> simp only [elemC] <;> first|exact h|(subst hm;exact h i hi)

section
variable {P:Program} {g:GM} {h:List AB} {w:World} {r:AV} {h':List AB}

theorem Chg.alloc' (w:World) (o:Obj):Chg (fun _=>False) w (w.alloc o):=Chg.alloc _ w o
theorem Tr.newBlock (k:HOK F g w h) {w':World} (hc:Chg (fun _=>False) w w') {cs:Array Value} {t:TypeId} (hh:w'.heap[w.heap.size]? = some (.cells cs t (0,0))) (cap:Nat) (x:AB)
  (hx:match x with
   | .dead=>True
   | .box m c=>cs.size = m ∧ ∀ i,i < m → ∃ u,cs[i]? = some u ∧ u.oneCell' = true ∧ rep (MM F g h) w (c i) g u
   | .row n sz c=>n ≤ cap ∧ cap ≤ maxLen ∧ cs.size = cap * sz ∧ ∀ k,k < n → ∀ o,o < sz → ∃ u,cs[k * sz + o]? = some u ∧ u.oneCell' = true ∧ rep (MM F g h) w (c k o) g0 u
   | .rwg n sz c=>n ≤ cap ∧ cap ≤ maxLen ∧ cs.size = cap * sz ∧ ∀ k,k < n → ∀ o,o < sz → ∃ u,cs[k * sz + o]? = some u ∧ u.oneCell' = true ∧ rep (MM F g h) w (c k o) g u
   | _=>False) :
  Tr F g h w (g.push h.length (w.heap.size,cap)) (h ++ [x]) w':=by
 have hM:∀ b,b < w.heap.size → MM F (g.push h.length (w.heap.size,cap)) (h ++ [x]) b → MM F g h b:=fun b hb hm=>(MM_push k hm).resolve_right (fun ⟨e,_⟩=>by omega)
 have hc':Chg (MM F g h) w w':=hc.weak (fun _ _ h=>h.elim)
 refine Tr.push k hc (Nat.le_refl _) ?_
 cases x with
 | dead=>trivial
 | box m c =>
  obtain ⟨h1,h2⟩:=hx
  refine ⟨cs,t,hh,h1,fun i hi=>?_⟩
  obtain ⟨u,a,b,c'⟩:=h2 i hi
  exact ⟨u,a,b,rep_mono hc' hM _ (GM.le_push k _) c'⟩
 | row n sz c =>
  obtain ⟨h0,h1,h2,h3⟩:=hx
  refine ⟨h0,h1,cs,t,hh,h2,fun i hi o ho=>?_⟩
  obtain ⟨u,a,b,c'⟩:=h3 i hi o ho
  exact ⟨u,a,b,rep_mono hc' hM _ (GM.le_refl _) c'⟩
 | rwg n sz c =>
  obtain ⟨h0,h1,h2,h3⟩:=hx
  refine ⟨h0,h1,cs,t,hh,h2,fun i hi o ho=>?_⟩
  obtain ⟨u,a,b,c'⟩:=h3 i hi o ho
  exact ⟨u,a,b,rep_mono hc' hM _ (GM.le_push k _) c'⟩
 | mp=>exact hx.elim
 | mit=>exact hx.elim

theorem val_box {t : TypeId} {v : AV} {u : Value} (hok : HOK F g w h) (hr : rep (MM F g h) w v g u) (H : aop (.box (.k v)) (fun x => x.ev (fun _ => .bot)) h (fun a b => a = r ∧ b = h')) :
    ∃ u' w' g', (Instr.box t u).run P w = .ok u' w' ∧ rep (MM F g' h') w' r g' u' ∧ Tr F g h w g' h' w' := by
  have run : (Instr.box t u).run P w = .ok (.pointer (some ⟨w.heap.size, 0, none⟩)) (w.alloc (.cells u.cells t)) := by
    simp [Instr.box, newVar, newRow]
  have key : ∀ m c, elemOK m v → (∀ i, i < m → elemC v i = c i) → ∃ u' w' g', (Instr.box t u).run P w = .ok u' w' ∧ rep (MM F g' (h ++ [.box m c])) w' (.ptr h.length 0) g' u' ∧ Tr F g h w g' (h ++ [.box m c]) w' := fun m c hm hc => by
    obtain ⟨a, b⟩ := cells_of_elem hm hr
    refine ⟨_, _, _, run, ⟨w.heap.size, 0, by simp [GM.push], rfl⟩, Tr.newBlock hok (Chg.alloc' _ _) (heap_alloc_new _ _) 0 (.box m c) ⟨a, fun i hi => ?_⟩⟩
    show ∃ u_1, _ ∧ _ ∧ rep (MM F g h) w (c i) g u_1
    rw [← hc i hi]
    exact b i hi
  simp only [aop, AX.ev] at H
  cases v <;> simp only at H
  case agg m c => obtain ⟨rfl, rfl⟩ := H; exact key m c rfl (fun _ _ => rfl)
  all_goals
    obtain ⟨rfl, rfl⟩ := H
    exact key 1 _ ⟨rfl, rfl⟩ (fun i hi => by obtain rfl : i = 0 := by omega
                                             rfl)

theorem stM_get (c:Nat → AV) (o:Nat) (cy:Nat → AV):∀ (m i:Nat),stM c o cy m i = if o ≤ i ∧ i < o + m then cy (i - o) else c i
 | 0,i=>by simp [stM];omega
 | m + 1,i=>by
  simp only [stM,updN]
  by_cases e:i = o + m
  ·subst e
   simp
  ·rw [if_neg e,stM_get c o cy m i]
   by_cases h1:o ≤ i ∧ i < o + m
   ·rw [if_pos h1,if_pos ⟨h1.1,by omega⟩]
   ·rw [if_neg h1,if_neg (by omega)]
/-- Cells written over cells. -/
def overs (cur:Array Value) (o:Nat) (vs:Array Value):Array Value:=(cur.toList.take o ++ vs.toList ++ cur.toList.drop (o + vs.size)).toArray
theorem overs_size {cur:Array Value} {o:Nat} {vs:Array Value} (h:o + vs.size ≤ cur.size):(overs cur o vs).size = cur.size:=by
 simp [overs];omega
theorem overs_in {cur:Array Value} {o:Nat} {vs:Array Value} (h:o + vs.size ≤ cur.size) {i:Nat} (hi:i < vs.size):(overs cur o vs)[o + i]? = vs[i]?:=by
 have hl:(cur.toList.take o).length = o:=by simp;omega
 simp only [overs,List.getElem?_toArray,List.append_assoc]
 rw [List.getElem?_append_right (by omega),hl,List.getElem?_append_left (by simp;omega),Nat.add_sub_cancel_left]
 simp
theorem overs_out {cur:Array Value} {o:Nat} {vs:Array Value} (h:o + vs.size ≤ cur.size) {i:Nat} (hi:i < o ∨ o + vs.size ≤ i):(overs cur o vs)[i]? = cur[i]?:=by
 have hl:(cur.toList.take o).length = o:=by simp;omega
 simp only [overs,List.getElem?_toArray,List.append_assoc]
 rcases hi with hi|hi
 ·rw [List.getElem?_append_left (by omega),List.getElem?_take]
  simp [hi]
 ·rw [List.getElem?_append_right (by omega),hl,List.getElem?_append_right (by simp;omega),List.getElem?_drop]
  simp
  congr 1
  omega
theorem Chg.setRow (w:World) (b:Nat) (cs:Array Value):Chg (fun y=>y = b) w (w.setRow b cs) :=
 ⟨rfl,rfl,rfl,by simp,fun x _ hn=>by simp only [World.setRow];rw [Array.getElem?_modify,if_neg (fun h=>hn h.symm)]⟩
theorem run_store_row {t ty:TypeId} {b o:Nat} {cur:Array Value} {u:Value} {m:Nat} (hs:tySz P t = some m) (hh:w.heap[b]? = some (.cells cur ty (0,0))) (hm:u.cells.size = m) (hc:∀ i,i < m → ∃ x,u.cells[i]? = some x ∧ x.oneCell' = true) (ho:o + m ≤ cur.size) :
  (Instr.storeAt t (.pointer (some ⟨b,o,none⟩)) u).run P w = .ok () (w.setRow b (overs cur o u.cells)):=by
 have h1:∀ v ∈ u.cells.toList,v.oneCell' = true:=fun v hv=>by
  obtain ⟨i,hi,rfl⟩:=List.getElem_of_mem hv
  obtain ⟨x,hx,h1⟩:=hc i (by simpa [← hm] using hi)
  rw [Array.getElem?_eq_getElem (by simpa using hi)] at hx
  injection hx with hx
  rw [Array.getElem_toList,hx]
  exact h1
 have:=run_storeCells_at P b o ty u.cells.toList 0 cur w hh (by simp;omega) h1
 simp only [Instr.storeAt,Instr.sureAddr,Sem.run_bind,Sem.run_pure,Result.andThen_ok,storeVar,tySz_run hs,hm,ne_eq,not_true_eq_false,if_false,this,overs,Nat.add_zero,Array.length_toList]
theorem mul_add_inj {sz k k' o o':Nat} (ho:o < sz) (ho':o' < sz) (h:k' * sz + o' = k * sz + o):k' = k ∧ o' = o:=by
 have h1:(k' * sz + o') / sz = k':=by rw [Nat.mul_comm,Nat.mul_add_div (by omega),Nat.div_eq_of_lt ho'];omega
 have h2:(k * sz + o) / sz = k:=by rw [Nat.mul_comm,Nat.mul_add_div (by omega),Nat.div_eq_of_lt ho];omega
 have:k' = k:=by rw [← h1,← h2,h]
 subst this
 exact ⟨rfl,by omega⟩

/-- What a row holds, of either kind. -/
def RwOK (M:Nat → Prop) (gg:GM) (w:World) (b cap n sz:Nat) (c:Nat → Nat → AV):Prop :=
 n ≤ cap ∧ cap ≤ maxLen ∧ ∃ cs t,w.heap[b]? = some (.cells cs t (0,0)) ∧ cs.size = cap * sz ∧ ∀ k,k < n → ∀ o,o < sz → ∃ u,cs[k * sz + o]? = some u ∧ u.oneCell' = true ∧ rep M w (c k o) gg u
theorem rw_get {M:Nat → Prop} {q:Bool} {n sz b cap:Nat} {c:Nat → Nat → AV} (h:ABOK M g w b cap (.rw q n sz c)):RwOK M (gq q g) w b cap n sz c:=by cases q <;> exact h
theorem rw_mk {M:Nat → Prop} {q:Bool} {n sz b cap:Nat} {c:Nat → Nat → AV} (h:RwOK M (gq q g) w b cap n sz c):ABOK M g w b cap (.rw q n sz c):=by cases q <;> exact h
theorem val_st {t:TypeId} {m:Nat} {v y:AV} {u u2:Value} (hok:HOK F g w h) (hs:tySz P t = some m) (hr:rep (MM F g h) w v g u) (hy:rep (MM F g h) w y g u2) (H:aop (.st m (.k v) (.k y)) (fun x=>x.ev (fun _=>.bot)) h (fun a b=>a = r ∧ b = h')) :
  ∃ w',(Instr.storeAt t u u2).run P w = .ok () w' ∧ r = und ∧ Tr F g h w g h' w':=by
 simp only [aop,AX.ev] at H
 cases v <;> simp only at H
 case ptr d o =>
  obtain ⟨b,cap,hg,rfl⟩:=hr
  split at H
  ·rename_i m' c hd
   obtain ⟨ho,he,rfl,rfl⟩:=H
   obtain ⟨cs,t',hh,hm,hc⟩:=hok.box d m' c b cap hd hg
   obtain ⟨e1,e2⟩:=cells_of_elem he hy
   have hrun:=run_store_row hs hh e1 (fun i hi=>by obtain ⟨x,a,b,_⟩:=e2 i hi;exact ⟨x,a,b⟩) (by omega:o + m ≤ cs.size)
   have hfit:o + u2.cells.size ≤ cs.size:=by omega
   refine ⟨_,hrun,rfl,Tr.upd hok ⟨_,hd,trivial⟩ hg trivial (Chg.setRow _ _ _) ⟨_,t',setRow_heap _ _ _ _ _ _ hh,by rw [overs_size hfit];exact hm,fun i hi=>?_⟩⟩
   have hch:Chg (MM F g h) w (w.setRow b (overs cs o u2.cells)):=(Chg.setRow w b _).weak (fun x _ e=>by subst e;exact .inr ⟨d,cap,⟨_,hd,trivial⟩,hg⟩)
   rw [tab_get hi,stM_get]
   by_cases hin:o ≤ i ∧ i < o + m
   ·rw [if_pos hin]
    obtain ⟨x,a,a1,a2⟩:=e2 (i - o) (by omega)
    refine ⟨x,?_,a1,rep_mono hch (fun _ _ h=>h) _ (GM.le_refl _) a2⟩
    have:=overs_in hfit (i:=i - o) (by omega)
    rw [show o + (i - o) = i by omega] at this
    rw [this];exact a
   ·rw [if_neg hin]
    obtain ⟨x,a,a1,a2⟩:=hc i hi
    refine ⟨x,?_,a1,rep_mono hch (fun _ _ h=>h) _ (GM.le_refl _) a2⟩
    rw [overs_out hfit (by omega)];exact a
  ·exact H.elim
 case rp d sz k o =>
  obtain ⟨b,cap,hg,rfl⟩:=hr
  have key:∀ (q:Bool) (n:Nat) (c:Nat → Nat → AV),h[d]? = some (.rw q n sz c) → k < n → elemOK m y → (q = false → y.pure) → ((m = 1 ∧ o < sz ∧ r = und ∧ h' = h.set d (.rw q n sz (updR c k o (elemC y 0)))) ∨ (m = sz ∧ o = 0 ∧ r = und ∧ h' = h.set d (.rw q n sz (updRm c k (elemC y))))) →
    ∃ w',(Instr.storeAt t (.pointer (some ⟨b,k * sz + o,none⟩)) u2).run P w = .ok () w' ∧ r = und ∧ Tr F g h w g h' w':=by
   intro q n c hd hk he hp hcases
   obtain ⟨hn,hcm,cs,t',hh,hm,hc⟩:=rw_get (hok.all hd hg)
   obtain ⟨e1,e2⟩:=cells_of_elem he hy
   have hlive:live h d:=⟨_,hd,rw_live q n sz c⟩
   have hpure:∀ i,i < m → ∀ (w:World) (x:Value),rep (MM F g h) w (elemC y i) g x → rep (MM F g h) w (elemC y i) (gq q g) x:=fun i hi w x hx=>by
    cases q with
    | true=>exact hx
    | false=>exact rep_pure _ (pure_elem (hp rfl) m he i hi) hx
   have hks:(k + 1) * sz ≤ cap * sz:=Nat.mul_le_mul_right _ (by omega)
   rw [Nat.add_mul,Nat.one_mul] at hks
   have hom:k * sz + o + m ≤ cs.size:=by rcases hcases with ⟨a,b,_⟩|⟨a,b,_⟩ <;> omega
   have hrun:=run_store_row hs hh e1 (fun i hi=>by obtain ⟨x,a,b,_⟩:=e2 i hi;exact ⟨x,a,b⟩) hom
   have hfit:k * sz + o + u2.cells.size ≤ cs.size:=by omega
   have hch:Chg (MM F g h) w (w.setRow b (overs cs (k * sz + o) u2.cells)):=(Chg.setRow w b _).weak (fun x _ e=>by subst e;exact .inr ⟨d,cap,hlive,hg⟩)
   rcases hcases with ⟨rfl,ho,hre,hh'⟩|⟨rfl,rfl,hre,hh'⟩
   ·subst hh'
    refine ⟨_,hrun,hre,Tr.upd hok hlive hg (rw_live _ _ _ _) (Chg.setRow _ _ _) (rw_mk ⟨hn,hcm,_,t',setRow_heap _ _ _ _ _ _ hh,by rw [overs_size hfit];exact hm,fun k' hk' o' ho'=>?_⟩)⟩
    simp only [updR]
    by_cases hin:k' = k ∧ o' = o
    ·rw [if_pos hin]
     obtain ⟨rfl,rfl⟩:=hin
     obtain ⟨x,a,a1,a2⟩:=e2 0 (by omega)
     refine ⟨x,?_,a1,rep_mono hch (fun _ _ h=>h) _ (GM.le_refl _) (hpure 0 (by omega) _ _ a2)⟩
     have:=overs_in hfit (i:=0) (by omega)
     rw [Nat.add_zero] at this
     rw [this];exact a
    ·rw [if_neg hin]
     obtain ⟨x,a,a1,a2⟩:=hc k' hk' o' ho'
     refine ⟨x,?_,a1,rep_mono hch (fun _ _ h=>h) _ (GM.le_refl _) a2⟩
     rw [overs_out hfit ?_]
     ·exact a
     ·rw [e1]
      have:¬ (k' * sz + o' = k * sz + o):=fun e=>hin (mul_add_inj ho ho' e)
      omega
   ·subst hh'
    refine ⟨_,hrun,hre,Tr.upd hok hlive hg (rw_live _ _ _ _) (Chg.setRow _ _ _) (rw_mk ⟨hn,hcm,_,t',setRow_heap _ _ _ _ _ _ hh,by rw [overs_size hfit];exact hm,fun k' hk' o' ho'=>?_⟩)⟩
    simp only [updRm]
    by_cases hin:k' = k
    ·rw [if_pos hin]
     subst hin
     obtain ⟨x,a,a1,a2⟩:=e2 o' ho'
     refine ⟨x,?_,a1,rep_mono hch (fun _ _ h=>h) _ (GM.le_refl _) (hpure o' ho' _ _ a2)⟩
     have:=overs_in hfit (i:=o') (by omega)
     rw [show k' * m + 0 + o' = k' * m + o' by omega] at this
     rw [this];exact a
    ·rw [if_neg hin]
     obtain ⟨x,a,a1,a2⟩:=hc k' hk' o' ho'
     refine ⟨x,?_,a1,rep_mono hch (fun _ _ h=>h) _ (GM.le_refl _) a2⟩
     rw [overs_out hfit ?_]
     ·exact a
     ·rw [e1]
      rcases Nat.lt_or_gt_of_ne hin with hlt|hgt
      ·left
       have:(k' + 1) * m ≤ k * m:=Nat.mul_le_mul_right _ hlt
       rw [Nat.add_mul,Nat.one_mul] at this
       omega
      ·right
       have:(k + 1) * m ≤ k' * m:=Nat.mul_le_mul_right _ hgt
       rw [Nat.add_mul,Nat.one_mul] at this
       omega
  split at H
  ·rename_i n sz' c hd
   obtain ⟨hk,rfl,he,hp,H⟩:=H
   refine key false n c hd hk he (fun _=>hp) ?_
   rcases H with ⟨a,b,c,d⟩|⟨a,b,c,d⟩
   ·exact .inl ⟨a,b,c.symm,d.symm⟩
   ·exact .inr ⟨a,b,c.symm,d.symm⟩
  ·rename_i n sz' c hd
   obtain ⟨hk,rfl,he,H⟩:=H
   refine key true n c hd hk he (fun h=>by cases h) ?_
   rcases H with ⟨a,b,c,d⟩|⟨a,b,c,d⟩
   ·exact .inl ⟨a,b,c.symm,d.symm⟩
   ·exact .inr ⟨a,b,c.symm,d.symm⟩
  ·exact H.elim
theorem val_clr {t ty e:TypeId} {i:TypeInfo} {zs:List Value} {v:AV} {u:Value} {ats:Array TypeId} (hok:HOK F g w h) (ha:ats[0]? = some t) (ht:P.underlying t = some (.slice e)) (hi:P.info? e = some i) (hz:∃ z,i.zero = some z ∧ z.cells.size = i.size ∧ zs = z.cells.toList ∧ ∀ u ∈ zs,u.oneCell' = true) (hr:rep (MM F g h) w v g u)
  (H:aop (.clr i.size (.k v)) (fun x=>x.ev (fun _=>.bot)) h (fun a b=>a = r ∧ b = h')):∃ w',(Builtin.clear_ ats ty #[u]).run P w = .ok (.tuple #[]) w' ∧ r = und ∧ Tr F g h w g h' w':=by
 simp only [aop,AX.ev] at H
 cases v <;> simp only at H
 rename_i d sz' lo n
 obtain ⟨b,cap,p,hg,rfl,hcap,hp⟩:=hr
 split at H
 ·rename_i N sz2 c hd
  obtain ⟨rfl,rfl,hlo,rfl,rfl⟩:=H
  obtain ⟨hn,hcm,cs,t',hh,hm,hc⟩:=hok.row d N _ c b cap hd hg
  obtain ⟨z,z1,z2,rfl,z4⟩:=hz
  by_cases hn0:n = 0
  ·subst hn0
   refine ⟨w,by simp [Builtin.clear_,ha,run_underlying ht],rfl,Tr.upd hok ⟨_,hd,trivial⟩ hg trivial (Chg.refl _ _) ⟨by omega,hcm,cs,t',hh,hm,fun k hk o ho=>hc k (by omega) o ho⟩⟩
  ·have hp':=hp (by omega)
   subst hp'
   have hlen:(Builtin.zeroCells z.cells n).toList.length = n * i.size:=by simp [Builtin.zeroCells,z2]
   have hone:∀ v ∈ (Builtin.zeroCells z.cells n).toList,v.oneCell' = true:=fun v hv=>by
    simp only [Builtin.zeroCells,Array.toList_map,List.mem_map] at hv
    obtain ⟨j,hj,rfl⟩:=hv
    simp only [Array.toList_range,List.mem_range,z2] at hj
    have hpos:0 < i.size:=by
     rcases Nat.eq_zero_or_pos i.size with h0|h0
     ·rw [h0] at hj;omega
     ·exact h0
    have hlt:j % z.cells.size < z.cells.size:=by rw [z2];exact Nat.mod_lt _ hpos
    rw [getElem!_pos z.cells _ hlt]
    exact z4 _ (by simp)
   have hfit:lo * i.size + 0 + (Builtin.zeroCells z.cells n).toList.length ≤ cs.size:=by
    rw [hlen,hm,Nat.add_zero,← Nat.add_mul]
    exact Nat.mul_le_mul_right _ hcap
   have hst:=run_storeCells_at P b (lo * i.size) t' (Builtin.zeroCells z.cells n).toList 0 cs w hh hfit hone
   obtain ⟨cs2,hcs2⟩:∃ cs2,cs2 = (cs.toList.take (lo * i.size + 0) ++ (Builtin.zeroCells z.cells n).toList ++ cs.toList.drop (lo * i.size + 0 + (Builtin.zeroCells z.cells n).toList.length)).toArray:=⟨_,rfl⟩
   rw [← hcs2] at hst
   refine ⟨w.setRow b cs2,?_,rfl,Tr.upd hok ⟨_,hd,trivial⟩ hg trivial (Chg.setRow _ _ _) ⟨by omega,hcm,cs2,t',setRow_heap _ _ _ _ _ _ hh,?_,fun k hk o ho=>?_⟩⟩
   ·obtain ⟨n',rfl⟩:∃ n',n = n' + 1:=⟨n - 1,by omega⟩
    simp [Builtin.clear_,ha,run_underlying ht,zeroValue,typeInfo,hi,z1,hst]
   ·rw [hcs2];simp at hfit ⊢;omega
   ·obtain ⟨x,a,a1,a2⟩:=hc k (by omega) o ho
    refine ⟨x,?_,a1,rep_mono ((Chg.setRow w b _).weak (fun x _ e=>by subst e;exact .inr ⟨d,cap,⟨_,hd,trivial⟩,hg⟩)) (fun _ _ h=>h) _ (GM.le_refl _) a2⟩
    have hlt:k * i.size + o < lo * i.size:=by
     have:(k + 1) * i.size ≤ lo * i.size:=Nat.mul_le_mul_right _ hk
     rw [Nat.add_mul,Nat.one_mul] at this
     omega
    have hle:lo * i.size ≤ cs.size:=by rw [hlen] at hfit;omega
    rw [hcs2]
    simp only [List.getElem?_toArray,Nat.add_zero,List.append_assoc]
    rw [List.getElem?_append_left (by simp;omega),List.getElem?_take]
    simp only [hlt,if_true]
    rw [← a];simp
 ·exact H.elim
end
end Go.Proofs.YtodpjdmdmmnlpaaGreat
