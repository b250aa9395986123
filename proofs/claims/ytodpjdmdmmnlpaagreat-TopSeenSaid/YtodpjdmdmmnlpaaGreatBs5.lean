/- Literals, make and append: abstract and real agree -/
import Derived.Test.YtodpjdmdmmnlpaaGreatBs4

namespace Go.Proofs.YtodpjdmdmmnlpaaGreat
open Go.RowKit
variable {F:Nat → Prop}

theorem foldl_zipIdx (off:Nat):∀ (l:List Value) (s:Nat) (cells:Array Value),off + s + l.length ≤ cells.size →
  ((l.zipIdx s).foldl (fun cs (x:Value × Nat)=>cs.setIfInBounds (off + x.2) x.1) cells).size = cells.size ∧
  ∀ i,((l.zipIdx s).foldl (fun cs (x:Value × Nat)=>cs.setIfInBounds (off + x.2) x.1) cells)[i]? = if off + s ≤ i ∧ i < off + s + l.length then l[i - (off + s)]? else cells[i]?:=by
 intro l
 induction l with
 | nil=>intro s cells _;exact ⟨rfl,fun i=>by simp;omega⟩
 | cons v l ih =>
  intro s cells hl
  simp only [List.length_cons] at hl
  obtain ⟨h1,h2⟩:=ih (s + 1) (cells.setIfInBounds (off + s) v) (by simp;omega)
  simp only [List.zipIdx_cons,List.foldl_cons]
  refine ⟨by rw [h1];simp,fun i=>?_⟩
  rw [h2 i,Array.getElem?_setIfInBounds]
  by_cases e:i = off + s
  ·subst e
   have h0:off + s < cells.size:=by omega
   simp [h0]
   omega
  ·by_cases hin:off + s ≤ i ∧ i < off + s + (l.length + 1)
   ·rw [if_pos (by omega),if_pos (by simpa using hin)]
    rw [show i - (off + s) = i - (off + (s + 1)) + 1 by omega]
    rfl
   ·rw [if_neg (by omega),if_neg (fun h=>e h.symm),if_neg (by simpa using hin)]

section
variable {P:Program} {g:GM} {h:List AB} {w:World} {r:AV} {h':List AB} {M:Nat → Prop}

/-- The parts of a literal, real and abstract. -/
def Fit (M:Nat → Prop) (w:World) (g:GM) (place:Nat → Option (Nat × Nat)) (N:Nat):List (Nat × Value) → List (Nat × Nat × AV) → Prop
 | [],[]=>True
 | (i,u) :: ps,(off,sz,v) :: as=>place i = some (off,sz) ∧ rep M w v g u ∧ elemOK sz v ∧ off + sz ≤ N ∧ Fit M w g place N ps as
 | _,_=>False
theorem fill_ok (place:Nat → Option (Nat × Nat)) (N:Nat):∀ (ps:List (Nat × Value)) (as:List (Nat × Nat × AV)) (cells:Array Value) (c:Nat → AV),cells.size = N → (∀ i,i < N → ∃ u,cells[i]? = some u ∧ u.oneCell' = true ∧ rep M w (c i) g u) → Fit M w g place N ps as →
  ∃ cs,Instr.fill place cells ps = some cs ∧ cs.size = N ∧ ∀ i,i < N → ∃ u,cs[i]? = some u ∧ u.oneCell' = true ∧ rep M w (buildC c as i) g u
 | [],[],cells,c,hs,hc,_=>⟨cells,rfl,hs,hc⟩
 | [],_ :: _,_,_,_,_,hf=>hf.elim
 | _ :: _,[],_,_,_,_,hf=>hf.elim
 | (i,u) :: ps,(off,sz,v) :: as,cells,c,hs,hc,hf=>by
  obtain ⟨hp,hr,he,hn,hf⟩:=hf
  obtain ⟨e1,e2⟩:=cells_of_elem he hr
  have hz:u.cells.zipIdx.foldl (fun cs (x:Value × Nat)=>cs.setIfInBounds (off + x.2) x.1) cells = (u.cells.toList.zipIdx 0).foldl (fun cs (x:Value × Nat)=>cs.setIfInBounds (off + x.2) x.1) cells:=by
   rw [← Array.foldl_toList,Array.toList_zipIdx]
  obtain ⟨f1,f2⟩:=foldl_zipIdx off u.cells.toList 0 cells (by simp;omega)
  rw [← hz] at f1
  simp only [← hz] at f2
  obtain ⟨cs,g1,g2,g3⟩:=fill_ok place N ps as _ (stM c off (elemC v) sz) (f1.trans hs) (fun j hj=>by
   rw [f2 j,stM_get]
   by_cases hin:off ≤ j ∧ j < off + sz
   ·rw [if_pos (by simp;omega),if_pos hin]
    obtain ⟨x,a,b,d⟩:=e2 (j - off) (by omega)
    exact ⟨x,by simpa using a,b,d⟩
   ·rw [if_neg (by simp;omega),if_neg hin]
    exact hc j hj) hf
  refine ⟨cs,?_,g2,g3⟩
  have c1:(u.cells.size ≠ sz || decide (off + u.cells.size > cells.size)) = false:=by simp;omega
  simp only [Instr.fill,hp,c1,Bool.false_eq_true,if_false]
  exact g1

theorem zcells_some {i:TypeInfo} {zs:List Value} (h:zcells i = some zs):∃ z,i.zero = some z ∧ z.cells.size = i.size ∧ zs = z.cells.toList ∧ ∀ u ∈ zs,u.oneCell' = true:=by
 unfold zcells at h
 split at h
 ·rename_i z hz
  split at h
  ·rename_i hc
   injection h with h
   subst h
   simp only [Bool.and_eq_true,decide_eq_true_eq,List.all_eq_true] at hc
   exact ⟨z,hz,hc.1,rfl,hc.2⟩
  ·cases h
 ·cases h
theorem zs_rep {zs:List Value} (h:∀ u ∈ zs,u.oneCell' = true) (i:Nat) (hi:i < zs.length):∃ u,zs[i]? = some u ∧ u.oneCell' = true ∧ rep M w (ofL (zs.map ofV1) i) g u :=
 ⟨zs[i],List.getElem?_eq_getElem hi,h _ (List.getElem_mem hi),by
  rw [ofL_get (v:=ofV1 zs[i]) (by simp [hi])]
  exact rep_ofV1 M w g _⟩

theorem buildC_bsl {sz:Nat}:∀ (es:List (Nat × AV)) (c0:Nat → AV) (c:Nat → Nat → AV),(∀ k o,o < sz → c0 (k * sz + o) = c k o) → ∀ k o,o < sz → buildC c0 (es.map fun p=>(p.1 * sz,sz,p.2)) (k * sz + o) = bslC c es k o
 | [],c0,c,h,k,o,ho=>h k o ho
 | (i,v) :: es,c0,c,h,k,o,ho=>by
  simp only [List.map_cons,buildC,bslC]
  refine buildC_bsl es _ _ (fun k o ho=>?_) k o ho
  rw [stM_get]
  simp only [updRm]
  by_cases e:k = i
  ·subst e
   rw [if_pos (by omega),if_pos rfl,Nat.add_sub_cancel_left]
  ·rw [if_neg ?_,if_neg e]
   ·exact h k o ho
   ·intro hin
    have h1:¬ (k < i):=fun hlt=>by
     have:(k + 1) * sz ≤ i * sz:=Nat.mul_le_mul_right _ hlt
     rw [Nat.add_mul,Nat.one_mul] at this
     omega
    have h2:¬ (i < k):=fun hlt=>by
     have:(i + 1) * sz ≤ k * sz:=Nat.mul_le_mul_right _ hlt
     rw [Nat.add_mul,Nat.one_mul] at this
     omega
    omega

theorem made_get (z:Array Value) (N sz k o:Nat) (hz:z.size = sz) (ho:o < sz) (hk:k * sz + o < N):((Array.range N).map (fun j=>z[j % z.size]!))[k * sz + o]? = z[o]?:=by
 have hm:(k * sz + o) % z.size = o:=by rw [hz,Nat.mul_comm,Nat.mul_add_mod,Nat.mod_eq_of_lt ho]
 have ho':o < z.size:=by omega
 simp only [Array.getElem?_map,Array.getElem?_range,hk,if_true,Option.map_some,hm,Array.getElem?_eq_getElem ho',getElem!_pos z o ho']

theorem pure_ofV1 (v:Value):(ofV1 v).pure:=by
 unfold ofV1
 split <;> trivial
theorem pure_ofL {l:List AV} (h:∀ v ∈ l,v.pure) (i:Nat):(ofL l i).pure:=by
 unfold ofL List.getD
 cases hi:l[i]? with
 | none=>trivial
 | some v=>exact h v (List.mem_of_getElem? hi)
theorem pure_bsl {n:Nat}:∀ (es:List (Nat × AV)) (c:Nat → Nat → AV),(∀ k o,o < n → (c k o).pure) → (∀ p ∈ es,elemOK n p.2 ∧ p.2.pure) → ∀ k o,o < n → (bslC c es k o).pure
 | [],c,hc,_,k,o,ho=>hc k o ho
 | (i,v) :: es,c,hc,he,k,o,ho=>by
  simp only [bslC]
  obtain ⟨h1,h2⟩:=he (i,v) List.mem_cons_self
  refine pure_bsl es _ (fun k o ho=>?_) (fun p hp=>he p (List.mem_cons_of_mem _ hp)) k o ho
  simp only [updRm]
  split
  ·exact pure_elem h2 n h1 o ho
  ·exact hc k o ho
theorem Fit.of (place:Nat → Option (Nat × Nat)) (N:Nat):∀ (ps:List (Nat × Value)) (as:List (Nat × Nat × AV)),ps.length = as.length → (∀ (j:Nat) (p:Nat × Value) (a:Nat × Nat × AV),ps[j]? = some p → as[j]? = some a → place p.1 = some (a.1,a.2.1) ∧ rep M w a.2.2 g p.2 ∧ elemOK a.2.1 a.2.2 ∧ a.1 + a.2.1 ≤ N) → Fit M w g place N ps as
 | [],[],_,_=>trivial
 | [],_ :: _,hl,_=>by simp at hl
 | _ :: _,[],hl,_=>by simp at hl
 | p :: ps,a :: as,hl,h=>by
  obtain ⟨h1,h2,h3,h4⟩:=h 0 p a rfl rfl
  exact ⟨h1,h2,h3,h4,Fit.of place N ps as (by simpa using hl) (fun j q b hq hb=>h (j + 1) q b hq hb)⟩

theorem val_bsl0 {t e:TypeId} {i:TypeInfo} {zs:List Value} {n:Nat} {ps:List (Nat × Value)} {es:List (Nat × AV)} (_:HOK F g w h) (ht:tyEl P t = some (e,i)) (hz:zcells i = some zs) (hsz:0 < i.size ∧ n * i.size ≤ 1000)
  (hl:ps.length = es.length) (hp:∀ (j:Nat) (p:Nat × Value) (a:Nat × AV),ps[j]? = some p → es[j]? = some a → p.1 = a.1 ∧ rep (MM F g h) w a.2 g p.2) (he:∀ p ∈ es,elemOK i.size p.2) (hn:∀ p ∈ es,p.1 < n) :
  ∃ cs:Array Value,(Instr.buildSlice t n ps.toArray).run P w = .ok (.slice (some ⟨w.heap.size,0,none⟩) n n) (w.alloc (.cells cs e)) ∧ cs.size = n * i.size ∧ ∀ k,k < n → ∀ o,o < i.size → ∃ u,cs[k * i.size + o]? = some u ∧ u.oneCell' = true ∧ rep (MM F g h) w (bslC (fun _=>ofL (zs.map ofV1)) es k o) g u:=by
 obtain ⟨hu,hi⟩:=tyEl_some ht
 obtain ⟨z,hz0,hz1,rfl,hone⟩:=zcells_some hz
 have hsize:∀ w:World,(sizeOf e).run P w = .ok i.size w:=fun w=>tySz_run (by simp [tySz,hi]) w
 have hzv:∀ w:World,(zeroValue e).run P w = .ok z w:=fun w=>by simp [zeroValue,typeInfo,hi,hz0]
 have hbig:¬ (n * i.size > 2 ^ 24):=by omega
 have hfit:Fit (MM F g h) w g (fun j=>some (j * i.size,i.size)) (n * i.size) ps (es.map fun p=>(p.1 * i.size,i.size,p.2)):=by
  refine Fit.of _ _ _ _ (by simpa using hl) (fun j p a hj ha=>?_)
  rw [List.getElem?_map] at ha
  cases hb:es[j]? with
  | none=>rw [hb] at ha;cases ha
  | some b =>
   rw [hb] at ha
   injection ha with ha
   subst ha
   obtain ⟨h1,h2⟩:=hp j p b hj hb
   have hm:=List.mem_of_getElem? hb
   have hlt:=hn b hm
   have:(b.1 + 1) * i.size ≤ n * i.size:=Nat.mul_le_mul_right _ hlt
   rw [Nat.add_mul,Nat.one_mul] at this
   exact ⟨by rw [h1],h2,he b hm,this⟩
 have hbase:∀ j,j < n * i.size → ∃ u,((Array.range (n * i.size)).map (fun x=>z.cells[x % z.cells.size]!))[j]? = some u ∧ u.oneCell' = true ∧ rep (MM F g h) w (ofL (z.cells.toList.map ofV1) (j % i.size)) g u:=by
  intro j hj
  obtain ⟨u,h1,h2,h3⟩:=zs_rep (M:=MM F g h) (w:=w) (g:=g) hone (j % i.size) (by rw [Array.length_toList,hz1];exact Nat.mod_lt _ hsz.1)
  refine ⟨u,?_,h2,h3⟩
  have:=made_get z.cells (n * i.size) i.size (j / i.size) (j % i.size) hz1 (Nat.mod_lt _ hsz.1) (by rw [Nat.mul_comm,Nat.div_add_mod];exact hj)
  rw [show j / i.size * i.size + j % i.size = j by rw [Nat.mul_comm];exact Nat.div_add_mod _ _] at this
  rw [this]
  simpa using h1
 obtain ⟨cs,f1,f2,f3⟩:=fill_ok (M:=MM F g h) (w:=w) (g:=g) _ (n * i.size) ps _ _ _ (by simp) hbase hfit
 have hrun:(Instr.buildSlice t n ps.toArray).run P w = .ok (.slice (some ⟨w.heap.size,0,none⟩) n n) (w.alloc (.cells cs e)):=by
  by_cases h0:n * i.size = 0
  ·have hps:ps = []:=by
    cases es with
    | nil=>exact List.eq_nil_of_length_eq_zero hl
    | cons a es =>
     have:=hn a List.mem_cons_self
     have:0 < n * i.size:=Nat.mul_pos (by omega) hsz.1
     omega
   subst hps
   simp only [Instr.fill,Option.some.injEq] at f1
   have hcs:cs = #[]:=Array.eq_empty_of_size_eq_zero (by omega)
   simp [Instr.buildSlice,run_underlying hu,hsize,h0,Instr.fill,newRow,hcs,Array.range_zero']
  ·simp only [Instr.buildSlice,Sem.run_bind,run_underlying hu,Result.andThen_ok,hsize,Sem.run_ite,hbig,h0,if_false,hzv,Sem.run_pure,f1,newRow,run_newObj,World.alloc_eq]
 refine ⟨cs,hrun,f2,fun k hk o ho=>?_⟩
 have hks:(k + 1) * i.size ≤ n * i.size:=Nat.mul_le_mul_right _ (by omega)
 rw [Nat.add_mul,Nat.one_mul] at hks
 obtain ⟨u,h1,h2,h3⟩:=f3 (k * i.size + o) (by omega)
 rw [buildC_bsl es _ (fun _=>ofL (z.cells.toList.map ofV1)) (fun k o ho=>by rw [Nat.mul_comm,Nat.mul_add_mod,Nat.mod_eq_of_lt ho]) k o ho] at h3
 exact ⟨u,h1,h2,h3⟩
theorem val_bsl {t e:TypeId} {i:TypeInfo} {zs:List Value} {n:Nat} {ps:List (Nat × Value)} {es:List (Nat × AV)} (hok:HOK F g w h) (ht:tyEl P t = some (e,i)) (hz:zcells i = some zs) (hsz:0 < i.size ∧ n * i.size ≤ 1000)
  (hl:ps.length = es.length) (hp:∀ (j:Nat) (p:Nat × Value) (a:Nat × AV),ps[j]? = some p → es[j]? = some a → p.1 = a.1 ∧ rep (MM F g h) w a.2 g p.2) (he:∀ p ∈ es,elemOK i.size p.2 ∧ p.2.pure) (hn:∀ p ∈ es,p.1 < n) :
  ∃ u' w' ,(Instr.buildSlice t n ps.toArray).run P w = .ok u' w' ∧ rep (MM F g h) w' (.sl false true n i.size (bslC (fun _=>ofL (zs.map ofV1)) es)) g u' ∧ Tr F g h w g h w':=by
 obtain ⟨cs,hrun,_,f3⟩:=val_bsl0 hok ht hz hsz hl hp (fun p hp=>(he p hp).1) hn
 refine ⟨_,_,hrun,⟨_,n,rfl,by simp,by simp,fun _=>rfl,Nat.le_refl _,fun k hk o ho=>?_⟩,Tr.keep hok (Chg.alloc' _ _)⟩
 obtain ⟨u,h1,h2,h3⟩:=f3 k hk o ho
 refine ⟨w.heap.size,0,u,rfl,by simp,fun hm=>by have:=hok.mlt hm;omega,?_,h2,?_⟩
 ·rw [Nat.zero_add]
  exact cell_of_heap (heap_alloc_new w _) h1
 ·refine rep_pure _ ?_ (rep_mono (Chg.alloc _ w _) (fun _ _ h=>h) _ (GM.le_refl _) h3)
  exact pure_bsl es _ (fun _ o _=>pure_ofL (fun v hv=>by obtain ⟨u,_,rfl⟩:=List.mem_map.1 hv;exact pure_ofV1 u) o) he k o ho
/-- The same as a row of the call's own. -/
theorem val_bslk {t e:TypeId} {i:TypeInfo} {zs:List Value} {n:Nat} {ps:List (Nat × Value)} {es:List (Nat × AV)} (hok:HOK F g w h) (ht:tyEl P t = some (e,i)) (hz:zcells i = some zs) (hsz:0 < i.size ∧ n * i.size ≤ 1000)
  (hl:ps.length = es.length) (hp:∀ (j:Nat) (p:Nat × Value) (a:Nat × AV),ps[j]? = some p → es[j]? = some a → p.1 = a.1 ∧ rep (MM F g h) w a.2 g p.2) (he:∀ p ∈ es,elemOK i.size p.2) (hn:∀ p ∈ es,p.1 < n) :
  ∃ u' w' g',(Instr.buildSlice t n ps.toArray).run P w = .ok u' w' ∧ rep (MM F g' (h ++ [.rwg n i.size (bslC (fun _=>ofL (zs.map ofV1)) es)])) w' (.own h.length n) g' u' ∧ Tr F g h w g' (h ++ [.rwg n i.size (bslC (fun _=>ofL (zs.map ofV1)) es)]) w':=by
 obtain ⟨cs,hrun,f2,f3⟩:=val_bsl0 hok ht hz hsz hl hp he hn
 have hn':n ≤ maxLen:=by
  have:n * 1 ≤ n * i.size:=Nat.mul_le_mul_left _ hsz.1
  unfold maxLen
  omega
 exact ⟨_,_,_,hrun,⟨w.heap.size,n,by simp [GM.push],rfl,Nat.le_refl _⟩,Tr.newBlock hok (Chg.alloc' _ _) (heap_alloc_new _ _) n (.rwg n i.size (bslC (fun _=>ofL (zs.map ofV1)) es)) ⟨Nat.le_refl _,hn',f2,f3⟩⟩

theorem partsOf_cons {t:TypeId} {i:Nat} {x:Operand} {ps:List (Nat × Operand)} {l:List (Nat × Nat × AX)} (h:partsOf P t ((i,x) :: ps) = some l):∃ f s l',tyFld P t i = some f ∧ tySz P f.type = some s ∧ partsOf P t ps = some l' ∧ l = (f.offset,s,cx x) :: l':=by
 simp only [partsOf] at h
 split at h
 ·rename_i f l' hf hl
  split at h
  ·rename_i s hs
   injection h with h
   exact ⟨f,s,l',hf,hs,hl,h.symm⟩
  ·cases h
 ·cases h
theorem run_places {fs:Array Field} (h:∀ f ∈ fs.toList,(tySz P f.type).isSome) (w:World):(fs.mapM fun f=>do pure (f.offset,← sizeOf f.type):Sem (Array (Nat × Nat))).run P w = .ok (fs.map fun f=>(f.offset,(tySz P f.type).getD 0)) w:=by
 have key:∀ l:List Field,(∀ f ∈ l,(tySz P f.type).isSome) → (l.mapM fun f=>do pure (f.offset,← sizeOf f.type):Sem (List (Nat × Nat))).run P w = .ok (l.map fun f=>(f.offset,(tySz P f.type).getD 0)) w:=by
  intro l
  induction l with
  | nil=>intro _;simp
  | cons f l ih =>
   intro h
   have h1:=ih (fun x hx=>h x (List.mem_cons_of_mem _ hx))
   obtain ⟨s,hs⟩:=Option.isSome_iff_exists.1 (h f List.mem_cons_self)
   simp only [List.mapM_cons,Sem.run_bind,tySz_run hs,Result.andThen_ok,Sem.run_pure,h1,List.map_cons,hs,Option.getD_some]
 rw [Array.mapM_eq_mapM_toList]
 have hk:=key fs.toList h
 rw [Sem.run_map,hk,Result.andThen_ok]
 have:(fs.toList.map fun f=>(f.offset,(tySz P f.type).getD 0)).toArray = fs.map fun f=>(f.offset,(tySz P f.type).getD 0):=by
  apply Array.ext'
  simp
 rw [this]
theorem val_build {t:TypeId} {i:TypeInfo} {zs:List Value} {fs:Array Field} {ps:List (Nat × Value)} {as:List (Nat × Nat × AV)} (hi:P.info? t = some i) (hu:P.underlying t = some (.struct fs)) (hz:zcells i = some zs) (hsz:∀ f ∈ fs.toList,(tySz P f.type).isSome)
  (hl:ps.length = as.length) (hp:∀ (j:Nat) (p:Nat × Value) (a:Nat × Nat × AV),ps[j]? = some p → as[j]? = some a → (∃ f,fs[p.1]? = some f ∧ f.offset = a.1 ∧ tySz P f.type = some a.2.1) ∧ rep (MM F g h) w a.2.2 g p.2) (he:∀ p ∈ as,elemOK p.2.1 p.2.2) (hn:∀ p ∈ as,p.1 + p.2.1 ≤ zs.length) :
  ∃ u',(Instr.build t ps.toArray).run P w = .ok u' w ∧ rep (MM F g h) w (.agg zs.length (tab zs.length (buildC (ofL (zs.map ofV1)) as))) g u':=by
 obtain ⟨z,hz0,hz1,rfl,hone⟩:=zcells_some hz
 have hzv:∀ w:World,(zeroValue t).run P w = .ok z w:=fun w=>by simp [zeroValue,typeInfo,hi,hz0]
 have hfit:Fit (MM F g h) w g ((fs.map fun f=>(f.offset,(tySz P f.type).getD 0))[·]?) z.cells.toList.length ps as:=by
  refine Fit.of _ _ _ _ hl (fun j p a hj ha=>?_)
  obtain ⟨⟨f,h1,h2,h3⟩,h4⟩:=hp j p a hj ha
  have hm:=List.mem_of_getElem? ha
  exact ⟨by simp [h1,h2,h3],h4,he a hm,hn a hm⟩
 obtain ⟨cs,f1,f2,f3⟩:=fill_ok (M:=MM F g h) (w:=w) (g:=g) _ z.cells.toList.length ps as z.cells (ofL (z.cells.toList.map ofV1)) (by simp) (fun j hj=>by
  obtain ⟨u,a,b,c⟩:=zs_rep (M:=MM F g h) (w:=w) (g:=g) hone j hj
  exact ⟨u,by simpa using a,b,c⟩) hfit
 refine ⟨.agg cs,?_,⟨cs,rfl,f2,fun i hi=>by rw [tab_get hi];exact f3 i hi⟩⟩
 simp only [Instr.build,Sem.run_bind,hzv,Result.andThen_ok,run_underlying hu,run_places hsz,f1,Sem.run_pure]

theorem val_msl {t e:TypeId} {i:TypeInfo} {zs:List Value} {n n':Int} (hok:HOK F g w h) (ht:tyEl P t = some (e,i)) (hz:zcells i = some zs) (h0:0 ≤ n) (h1:n ≤ n') (h2:n' ≤ 9223372036854775807) (h3:n' * i.bytes ≤ 140737488355328) :
  ∃ u' w' g',(Instr.makeSlice t (.int .i64 n) (.int .i64 n')).run P w = .ok u' w' ∧ rep (MM F g' (h ++ [.row n.toNat i.size fun _=>ofL (zs.map ofV1)])) w' (.own h.length n.toNat) g' u' ∧ Tr F g h w g' (h ++ [.row n.toNat i.size fun _=>ofL (zs.map ofV1)]) w':=by
 obtain ⟨hu,hi⟩:=tyEl_some ht
 obtain ⟨z,hz0,hz1,rfl,hone⟩:=zcells_some hz
 have hrun:=run_make (P:=P) w t e i z hu hi hz0 .i64 .i64 n n' h0 h1 (by rw [Int.mul_comm];omega) h2
 refine ⟨_,_,_,hrun,⟨w.heap.size,n'.toNat,by simp [GM.push],rfl,by omega⟩,Tr.newBlock hok (Chg.alloc' _ _) (heap_alloc_new _ _) n'.toNat (.row n.toNat i.size fun _=>ofL (z.cells.toList.map ofV1)) ⟨by omega,by simp [maxLen];omega,by simp [madeCells],fun k hk o ho=>?_⟩⟩
 have hks:(k + 1) * i.size ≤ n'.toNat * i.size:=Nat.mul_le_mul_right _ (by omega)
 rw [Nat.add_mul,Nat.one_mul] at hks
 obtain ⟨u,a,b,c⟩:=zs_rep (M:=MM F g h) (w:=w) (g:=g) hone o (by rw [Array.length_toList,hz1];exact ho)
 refine ⟨u,?_,b,rep_pure _ (pure_ofL (fun v hv=>by obtain ⟨u,_,rfl⟩:=List.mem_map.1 hv;exact pure_ofV1 u) o) c⟩
 unfold madeCells
 rw [made_get z.cells _ i.size k o hz1 ho (by omega)]
 simpa using a

theorem run_append_room' (t ty e:TypeId) (i:TypeInfo) (ht:P.underlying t = some (.slice e)) (hi:P.info? e = some i)
  (g sLen sCap:Nat) (cur:Array Value) (te:TypeId) (hg:w.heap[g]? = some (.cells cur te (0,0)))
  (a:Addr) (m c:Nat) (news:List Value) (hl:news.length = m * i.size) (hnews:∀ (j:Nat) u,news[j]? = some u → w.cell? (a.add j) = some u) (h1:∀ u ∈ news,u.oneCell' = true)
  (hroom:sLen + m ≤ sCap) (hfit:sLen * i.size + news.length ≤ cur.size) :
  (Builtin.append_ #[t,t] ty #[.slice (some ⟨g,0,none⟩) sLen sCap,.slice (some a) m c]).run P w =
   .ok (.slice (some ⟨g,0,none⟩) (sLen + m) sCap) (w.setRow g (cur.toList.take (sLen * i.size) ++ news ++ cur.toList.drop (sLen * i.size + news.length)).toArray):=by
 have hf:=run_firstCells_some (P:=P) w i.size m a m c news hl hnews
 have hst:=run_storeCells_at P g (sLen * i.size) te news 0 cur w hg (by simpa using hfit) h1
 simp only [Nat.add_zero] at hst
 simp [Builtin.append_,run_underlying ht,sizeOf,typeInfo,hi,Builtin.lenOf,hroom,hf,Addr.add_lit,hst]

/-- The cells of an immutable slice. -/
theorem sl_cells {z ee:Bool} {n sz sz':Nat} {c:Nat → Nat → AV} {A:Option Addr} {cap:Nat} (hs:sz' = sz ∨ n = 0) (hsz:0 < sz) (hr:rep M w (.sl z ee n sz' c) g (.slice A n cap)) :
  ∃ cs:List Value,cs.length = n * sz ∧ (∀ ad,A = some ad → ∀ (j:Nat) (u:Value),cs[j]? = some u → w.cell? (ad.add j) = some u) ∧ (∀ u ∈ cs,u.oneCell' = true) ∧ ∀ k,k < n → ∀ o,o < sz → ∃ u,cs[k * sz + o]? = some u ∧ u.oneCell' = true ∧ rep M w (c k o) g0 u:=by
 obtain ⟨A',cap',he,_,hnil,_,_,hc⟩:=hr
 injection he with e1 e2 e3
 subst e1;subst e3
 by_cases h0:n = 0
 ·subst h0
  exact ⟨[],by simp,by simp,by simp,fun k hk=>by omega⟩
 ·obtain rfl:sz' = sz:=hs.resolve_right h0
  have key:∀ j,j < n * sz' → ∃ u,(∀ ad,A = some ad → w.cell? (ad.add j) = some u) ∧ u.oneCell' = true ∧ rep M w (c (j / sz') (j % sz')) g0 u:=fun j hj=>by
   obtain ⟨b,off,u,hA,_,_,h1,h2,h3⟩:=hc (j / sz') (Nat.div_lt_of_lt_mul (by rw [Nat.mul_comm];exact hj)) (j % sz') (Nat.mod_lt _ hsz)
   refine ⟨u,fun ad had=>?_,h2,h3⟩
   rw [hA] at had
   injection had with had
   subst had
   rw [Addr.add_lit]
   rw [Nat.add_assoc,Nat.mul_comm,Nat.div_add_mod] at h1
   exact h1
  obtain ⟨f,hf⟩:=choose_fun key
  have hget:∀ j,j < n * sz' → ((List.range (n * sz')).map f)[j]? = some (f j):=fun j hj=>by simp [hj]
  refine ⟨(List.range (n * sz')).map f,by simp,fun ad had j u hu=>?_,fun u hu=>?_,fun k hk o ho=>?_⟩
  ·have hj:j < n * sz':=by
    rcases Nat.lt_or_ge j (n * sz') with h'|h'
    ·exact h'
    ·rw [List.getElem?_eq_none (by simpa using h')] at hu;cases hu
   rw [hget j hj] at hu
   injection hu with hu
   subst hu
   exact (hf j hj).1 ad had
  ·obtain ⟨j,hj,rfl⟩:=List.mem_map.1 hu
   exact (hf j (by simpa using hj)).2.1
  ·have hks:(k + 1) * sz' ≤ n * sz':=Nat.mul_le_mul_right _ (by omega)
   rw [Nat.add_mul,Nat.one_mul] at hks
   obtain ⟨a,b,d⟩:=hf (k * sz' + o) (by omega)
   refine ⟨_,hget _ (by omega),b,?_⟩
   rw [Nat.mul_comm,Nat.mul_add_mod,Nat.mod_eq_of_lt ho,Nat.mul_add_div hsz,Nat.div_eq_of_lt ho,Nat.add_zero] at d
   rw [Nat.mul_comm k]
   exact d

theorem src_cells {q:Bool} {sz:Nat} {y:AV} {m:Nat} {c':Nat → Nat → AV} {u:Value} (hok:HOK F g w h) (hsz:0 < sz) (hS:Src q sz h y m c') (hr:rep (MM F g h) w y g u) :
  ∃ B cap2,u = .slice B m cap2 ∧ (B = none → m = 0) ∧ ∃ cs:List Value,cs.length = m * sz ∧ (∀ ad,B = some ad → ∀ (j:Nat) (u:Value),cs[j]? = some u → w.cell? (ad.add j) = some u) ∧ (∀ u ∈ cs,u.oneCell' = true) ∧ ∀ k,k < m → ∀ o,o < sz → ∃ u,cs[k * sz + o]? = some u ∧ u.oneCell' = true ∧ rep (MM F g h) w (c' k o) (gq q g) u:=by
 rcases hS with ⟨z,e,sz',rfl,rfl,hs⟩|⟨d,N,rfl,hd,hm⟩|⟨d,lo,N,c0,rfl,rfl,hd,hm,rfl⟩
 ·have hr0:=hr
  obtain ⟨B,cap2,rfl,_,hBnil,_,_,_⟩:=hr0
  exact ⟨B,cap2,rfl,fun h=>(hBnil h).1,sl_cells hs hsz hr⟩
 ·obtain ⟨b,cap,hg,rfl,hcap⟩:=hr
  obtain ⟨hn,hcm,cs,t',hh,hsize,hc⟩:=rw_get (hok.all hd hg)
  have hle:m * sz ≤ cs.size:=by rw [hsize];exact Nat.mul_le_mul_right _ (by omega)
  have hl:(cs.toList.take (m * sz)).length = m * sz:=by simp;omega
  have hget:∀ k,k < m → ∀ o,o < sz → ∃ u,(cs.toList.take (m * sz))[k * sz + o]? = some u ∧ u.oneCell' = true ∧ rep (MM F g h) w (c' k o) (gq q g) u:=fun k hk o ho=>by
   have hks:(k + 1) * sz ≤ m * sz:=Nat.mul_le_mul_right _ hk
   rw [Nat.add_mul,Nat.one_mul] at hks
   obtain ⟨x,a,b,d⟩:=hc k (by omega) o ho
   exact ⟨x,by rw [List.getElem?_take,if_pos (by omega)];simpa using a,b,d⟩
  refine ⟨_,cap,rfl,fun h=>(by cases h),cs.toList.take (m * sz),hl,fun ad had j v hv=>?_,fun v hv=>?_,hget⟩
  ·injection had with had
   subst had
   rw [Addr.add_lit,Nat.zero_add]
   refine cell_of_heap hh ?_
   rw [List.getElem?_take] at hv
   split at hv
   ·simpa using hv
   ·cases hv
  ·obtain ⟨j,hj,rfl⟩:=List.getElem_of_mem hv
   rw [hl] at hj
   have h1:j / sz < m:=Nat.div_lt_of_lt_mul (by rw [Nat.mul_comm];exact hj)
   obtain ⟨x,a,b,_⟩:=hget (j / sz) h1 (j % sz) (Nat.mod_lt _ hsz)
   rw [show j / sz * sz + j % sz = j by rw [Nat.mul_comm];exact Nat.div_add_mod _ _] at a
   rw [List.getElem?_eq_getElem (by omega)] at a
   injection a with a
   rw [a];exact b
 ·obtain ⟨b,cap,p,hg,rfl,hcap,hp⟩:=hr
  obtain ⟨hn,hcm,cs,t',hh,hsize,hc⟩:=rw_get (q:=false) (hok.all hd hg)
  rcases Nat.eq_zero_or_pos m with h0|h0
  ·subst h0
   exact ⟨_,_,rfl,fun h=>(by cases h),[],by simp,fun ad had j v hv=>(by simp at hv),fun v hv=>(by cases hv),fun k hk=>absurd hk (Nat.not_lt_zero k)⟩
  obtain rfl:=hp (by omega)
  have hle:(lo + m) * sz ≤ cs.size:=by rw [hsize];exact Nat.mul_le_mul_right _ (by omega)
  rw [Nat.add_mul] at hle
  have hl:((cs.toList.drop (lo * sz)).take (m * sz)).length = m * sz:=by simp;omega
  have hget:∀ k,k < m → ∀ o,o < sz → ∃ u,((cs.toList.drop (lo * sz)).take (m * sz))[k * sz + o]? = some u ∧ u.oneCell' = true ∧ rep (MM F g h) w (c0 (lo + k) o) (gq false g) u:=fun k hk o ho=>by
   have hks:(k + 1) * sz ≤ m * sz:=Nat.mul_le_mul_right _ hk
   rw [Nat.add_mul,Nat.one_mul] at hks
   obtain ⟨x,a,b,d⟩:=hc (lo + k) (by omega) o ho
   rw [Nat.add_mul] at a
   exact ⟨x,by rw [List.getElem?_take,if_pos (by omega),List.getElem?_drop,← Nat.add_assoc];simpa using a,b,d⟩
  refine ⟨_,_,rfl,fun h=>(by cases h),(cs.toList.drop (lo * sz)).take (m * sz),hl,fun ad had j v hv=>?_,fun v hv=>?_,hget⟩
  ·injection had with had
   subst had
   rw [Addr.add_lit]
   refine cell_of_heap hh ?_
   rw [List.getElem?_take] at hv
   split at hv
   ·rw [List.getElem?_drop] at hv;simpa using hv
   ·cases hv
  ·obtain ⟨j,hj,rfl⟩:=List.getElem_of_mem hv
   rw [hl] at hj
   have h1:j / sz < m:=Nat.div_lt_of_lt_mul (by rw [Nat.mul_comm];exact hj)
   obtain ⟨x,a,b,_⟩:=hget (j / sz) h1 (j % sz) (Nat.mod_lt _ hsz)
   rw [show j / sz * sz + j % sz = j by rw [Nat.mul_comm];exact Nat.div_add_mod _ _] at a
   rw [List.getElem?_eq_getElem (by omega)] at a
   injection a with a
   rw [a];exact b
theorem Tr.newRow (Q:Bool) (k:HOK F g w h) {w':World} (hc:Chg (fun _=>False) w w') {cs:Array Value} {t:TypeId} (hh:w'.heap[w.heap.size]? = some (.cells cs t (0,0))) (cap n sz:Nat) (c:Nat → Nat → AV)
  (hx:n ≤ cap ∧ cap ≤ maxLen ∧ cs.size = cap * sz ∧ ∀ k,k < n → ∀ o,o < sz → ∃ u,cs[k * sz + o]? = some u ∧ u.oneCell' = true ∧ rep (MM F g h) w (c k o) (gq Q g) u) :
  Tr F g h w (g.push h.length (w.heap.size,cap)) (h ++ [.rw Q n sz c]) w':=by
 cases Q
 ·exact Tr.newBlock k hc hh cap (.row n sz c) hx
 ·exact Tr.newBlock k hc hh cap (.rwg n sz c) hx
theorem val_app_core {q:Bool} {t ty e:TypeId} {i:TypeInfo} {zs:List Value} {v:AV} {u u2:Value} {y:AV} {m:Nat} {c':Nat → Nat → AV} (hok:HOK F g w h) (ht:tyEl P t = some (e,i)) (hz:zcells i = some zs) (hr:rep (MM F g h) w v g u) (hy:rep (MM F g h) w y g u2) (hsz:0 < i.size) (hS:Src q i.size h y m c') :
  (∀ zz ee n sz2 c,v = .sl zz ee n sz2 c → ee = true ∧ (sz2 = i.size ∨ n = 0) ∧ (m = 0 → (.sl zz ee n sz2 c = r ∧ h = h')) ∧ (0 < m → n + m ≤ maxLen ∧ (n + m) * i.bytes ≤ 140737488355328 ∧ (.own h.length (n + m) = r ∧ h ++ [.rw q (n + m) i.size (appc n c c')] = h')) →
   ∃ u' w' g',(Builtin.append_ #[t,t] ty #[u,u2]).run P w = .ok u' w' ∧ rep (MM F g' h') w' r g' u' ∧ Tr F g h w g' h' w') ∧
  (∀ qd d n N c,v = .own d n → h[d]? = some (.rw qd N i.size c) → n ≤ N → n + m ≤ maxLen → (n + m) * i.bytes ≤ 140737488355328 →
   (∃ u' w' b cap,(Builtin.append_ #[t,t] ty #[u,u2]).run P w = .ok u' w' ∧ g d = some (b,cap) ∧ u' = .slice (some ⟨b,0,none⟩) (n + m) cap ∧ n + m ≤ cap ∧ Tr F g h w g (h.set d (.rw (qd || q) (n + m) i.size (appc n c c'))) w') ∨
   (∃ u' w' b cap,(Builtin.append_ #[t,t] ty #[u,u2]).run P w = .ok u' w' ∧ u' = .slice (some ⟨b,0,none⟩) (n + m) cap ∧ n + m ≤ cap ∧
    Tr F g h w (g.push h.length (b,cap)) (h ++ [.rw (qd || q) (n + m) i.size (appc n c c')]) w' ∧ Tr F g h w (g.push h.length (b,cap)) (h.set d .dead ++ [.rw (qd || q) (n + m) i.size (appc n c c')]) w')):=by
 obtain ⟨hu,hi⟩:=tyEl_some ht
 obtain ⟨z,hz0,hz1,rfl,hone⟩:=zcells_some hz
 obtain ⟨B,cap2,rfl,hBnil,news,n1,n2,n3,n4⟩:=src_cells hok hsz hS hy
 have hBsome:0 < m → ∃ ad,B = some ad:=fun hm=>by
  cases B with
  | none=>have:=hBnil rfl;omega
  | some ad=>exact ⟨ad,rfl⟩
 have grown:∀ (Q:Bool) (_:(gq q g).le (gq Q g)) (n capx:Nat) (olds:List Value),olds.length = n * i.size → ∀ (c:Nat → Nat → AV),(∀ k,k < n → ∀ o,o < i.size → ∃ u,olds[k * i.size + o]? = some u ∧ u.oneCell' = true ∧ rep (MM F g h) w (c k o) (gq Q g) u) →
   ∀ N capN,N = n + m → N ≤ capN → ∀ k,k < N → ∀ o,o < i.size → ∃ u,(olds.toArray ++ news.toArray ++ Builtin.zeroCells z.cells (capN - N))[k * i.size + o]? = some u ∧ u.oneCell' = true ∧ rep (MM F g h) w (appc n c c' k o) (gq Q g) u:=by
  intro Q hQ n capx olds hol c hold N capN hN hcap k hk o ho
  have hks:(k + 1) * i.size ≤ N * i.size:=Nat.mul_le_mul_right _ hk
  rw [Nat.add_mul,Nat.one_mul,hN,Nat.add_mul] at hks
  have hlen:(olds.toArray ++ news.toArray).size = n * i.size + m * i.size:=by simp [hol,n1]
  rw [Array.getElem?_append_left (by omega)]
  simp only [appc]
  by_cases hkn:k < n
  ·rw [if_pos hkn]
   have hks2:(k + 1) * i.size ≤ n * i.size:=Nat.mul_le_mul_right _ hkn
   rw [Nat.add_mul,Nat.one_mul] at hks2
   obtain ⟨x,a,b,d⟩:=hold k hkn o ho
   refine ⟨x,?_,b,d⟩
   rw [Array.getElem?_append_left (by simp [hol];omega)]
   simpa using a
  ·rw [if_neg hkn]
   obtain ⟨x,a,b,d⟩:=n4 (k - n) (by omega) o ho
   refine ⟨x,?_,b,rep_up hQ d⟩
   have hge:n * i.size ≤ k * i.size:=Nat.mul_le_mul_right _ (by omega)
   rw [Array.getElem?_append_right (by simp [hol];omega)]
   simp only [List.size_toArray,hol,List.getElem?_toArray]
   rw [show k * i.size + o - n * i.size = (k - n) * i.size + o by rw [Nat.sub_mul];omega]
   exact a
 have newsize:∀ (n N capN:Nat) (olds:List Value),olds.length = n * i.size → N = n + m → N ≤ capN → (olds.toArray ++ news.toArray ++ Builtin.zeroCells z.cells (capN - N)).size = capN * i.size:=by
  intro n N capN olds hol hN hcap
  simp only [Array.size_append,List.size_toArray,hol,n1,size_zeroCells,hz1]
  rw [← Nat.add_mul,← Nat.add_mul]
  congr 1
  omega
 have push:∀ (Q:Bool) (_:(gq q g).le (gq Q g)) (hh:List AB) (k:HOK F g w hh) (_:∀ x,MM F g hh x → MM F g h x) (_:hh.length = h.length) (n:Nat) (olds:List Value),olds.length = n * i.size → ∀ (c:Nat → Nat → AV),(∀ k,k < n → ∀ o,o < i.size → ∃ u,olds[k * i.size + o]? = some u ∧ u.oneCell' = true ∧ rep (MM F g h) w (c k o) (gq Q g) u) →
   ∀ capN,n + m ≤ capN → capN ≤ maxLen → Tr F g hh w (g.push h.length (w.heap.size,capN)) (hh ++ [.rw Q (n + m) i.size (appc n c c')]) (w.drew.alloc (.cells (olds.toArray ++ news.toArray ++ Builtin.zeroCells z.cells (capN - (n + m))) e)):=by
  intro Q hQ hh k hsub hlen n olds hol c hold capN hc1 hc2
  have:=Tr.newRow Q k (w':=w.drew.alloc (.cells (olds.toArray ++ news.toArray ++ Builtin.zeroCells z.cells (capN - (n + m))) e)) ((Chg.drew _ w).trans (Chg.alloc _ _ _) (fun _ _ h=>h)) (heap_alloc_new w.drew _) capN (n + m) i.size (appc n c c') ⟨hc1,hc2,newsize n _ _ _ hol rfl hc1,fun kk hk o ho=>by
   obtain ⟨x,a,b,d⟩:=grown Q hQ n 0 olds hol c hold (n + m) capN rfl hc1 kk hk o ho
   exact ⟨x,a,b,rep_mono (Chg.refl _ _) (fun x _ hx=>hsub x hx) _ (GM.le_refl _) d⟩⟩
  rw [hlen] at this
  exact this
 refine ⟨?_,?_⟩
 ·rintro zz ee n sz2 c rfl ⟨rfl,hs2,H0,H1⟩
  have hr0:=hr
  obtain ⟨A,cap,rfl,hzA,hAnil,hcapn,_,_⟩:=hr0
  obtain rfl:=hcapn rfl
  obtain ⟨olds,o1,o2,o3,o4'⟩:=sl_cells hs2 hsz hr
  have o4:∀ k,k < cap → ∀ o,o < i.size → ∃ u,olds[k * i.size + o]? = some u ∧ u.oneCell' = true ∧ rep (MM F g h) w (c k o) (gq q g) u:=fun k hk o ho=>by
   obtain ⟨x,a,b,d⟩:=o4' k hk o ho
   exact ⟨x,a,b,rep_up (g0_le _) d⟩
  by_cases hm:m = 0
  ·obtain ⟨rfl,rfl⟩:=H0 hm
   subst hm
   have hnews:news = []:=List.eq_nil_of_length_eq_zero (by simpa using n1)
   refine ⟨.slice A cap cap,w,g,?_,hr,Tr.refl hok⟩
   cases A <;> cases B <;> simp [Builtin.append_,run_underlying hu,sizeOf,typeInfo,hi,Builtin.lenOf,Builtin.firstCells,storeCells,loadCells,loadCellsFrom]
  ·obtain ⟨b1,b2,rfl,rfl⟩:=H1 (by omega)
   obtain ⟨ad,rfl⟩:=hBsome (by omega)
   cases A with
   | none =>
    obtain ⟨rfl,_⟩:=hAnil rfl
    rw [Nat.zero_add] at b2
    have hrun:=run_append_nil (P:=P) (w:=w) t ty e i z hu hi hz0 ad m cap2 news n1 (n2 ad rfl) (by omega) (by simp only [maxLen] at b1;omega) (by omega)
    have hT:=push q (GM.le_refl _) h hok (fun _ h=>h) rfl 0 olds o1 c o4 (grownCap w m 0 e) (by rw [Nat.zero_add];exact grownCap_ge w m 0 e) (grownCap_le_maxLen w m 0 e (by omega))
    have holds:olds = []:=List.eq_nil_of_length_eq_zero (by simpa using o1)
    rw [holds,Nat.zero_add] at hT
    simp only [Array.empty_append] at hT
    refine ⟨_,_,_,hrun,?_,by rw [Nat.zero_add];exact hT⟩
    exact ⟨w.heap.size,grownCap w m 0 e,by simp [GM.push],by rw [Nat.zero_add],by rw [Nat.zero_add];exact grownCap_ge w m 0 e⟩
   | some ad0 =>
    have hrun:=run_append_grow (P:=P) (w:=w) t ty e i z hu hi hz0 ad0 cap cap olds o1 (o2 ad0 rfl) ad m cap2 news n1 (n2 ad rfl) (by omega) (by simp only [maxLen] at b1;omega) (growslice_fits (by omega) b2)
    have hT:=push q (GM.le_refl _) h hok (fun _ h=>h) rfl cap olds o1 c o4 (grownCap w (cap + m) cap e) (grownCap_ge w _ _ e) (grownCap_le_maxLen w _ _ e b1)
    exact ⟨_,_,_,hrun,⟨w.heap.size,_,by simp [GM.push],rfl,grownCap_ge w _ _ e⟩,hT⟩
 ·rintro qd d n' N c rfl hd hnN b1 b2
  have hQq:(gq q g).le (gq (qd || q) g):=by rw [Bool.or_comm];exact gq_or _ g
  have hQd:(gq qd g).le (gq (qd || q) g):=gq_or _ g
  obtain ⟨b,cap,hg,rfl,hncap⟩:=hr
  obtain ⟨_,hcm,cs,t',hh,hm,hc0⟩:=rw_get (hok.all hd hg)
  have hn:n' ≤ cap:=hncap
  have hc:∀ k,k < n' → ∀ o,o < i.size → ∃ u,cs[k * i.size + o]? = some u ∧ u.oneCell' = true ∧ rep (MM F g h) w (c k o) (gq (qd || q) g) u:=fun k hk o ho=>by
   obtain ⟨x,a,b,d⟩:=hc0 k (by omega) o ho
   exact ⟨x,a,b,rep_up hQd d⟩
  have hlive:live h d:=⟨_,hd,rw_live _ _ _ _⟩
  have holen:n' * i.size ≤ cs.size:=by rw [hm];exact Nat.mul_le_mul_right _ hn
  have ho1:(cs.toList.take (n' * i.size)).length = n' * i.size:=by simp;omega
  have hold:∀ k,k < n' → ∀ o,o < i.size → ∃ u,(cs.toList.take (n' * i.size))[k * i.size + o]? = some u ∧ u.oneCell' = true ∧ rep (MM F g h) w (c k o) (gq (qd || q) g) u:=fun k hk o ho=>by
   have hks:(k + 1) * i.size ≤ n' * i.size:=Nat.mul_le_mul_right _ hk
   rw [Nat.add_mul,Nat.one_mul] at hks
   obtain ⟨x,a,b,d⟩:=hc k hk o ho
   exact ⟨x,by rw [List.getElem?_take,if_pos (by omega)];simpa using a,b,d⟩
  by_cases hroom:n' + m ≤ cap
  ·have hfit:n' * i.size + news.length ≤ cs.size:=by
    rw [n1,hm,← Nat.add_mul];exact Nat.mul_le_mul_right _ hroom
   have hfit':n' * i.size + news.toArray.size ≤ cs.size:=by simpa using hfit
   have hrun:(Builtin.append_ #[t,t] ty #[.slice (some ⟨b,0,none⟩) n' cap,.slice B m cap2]).run P w = .ok (.slice (some ⟨b,0,none⟩) (n' + m) cap) (w.setRow b (overs cs (n' * i.size) news.toArray)):=by
    by_cases hm0:m = 0
    ·subst hm0
     have hnews:news = []:=List.eq_nil_of_length_eq_zero (by simpa using n1)
     subst hnews
     have:overs cs (n' * i.size) #[] = cs:=by simp [overs]
     have hself:w.setRow b cs = w:=setRow_self w b cs _ _ hh
     rw [this,hself]
     cases B <;> simp [Builtin.append_,run_underlying hu,sizeOf,typeInfo,hi,Builtin.lenOf,Builtin.firstCells,storeCells,loadCells,loadCellsFrom,hn]
    ·obtain ⟨ad,rfl⟩:=hBsome (by omega)
     have ht':t' = e ∨ t' ≠ e:=Decidable.em _
     have:=run_append_room' (P:=P) (w:=w) t ty e i hu hi b n' cap cs t' hh ad m cap2 news n1 (n2 ad rfl) n3 hroom hfit
     simpa [overs] using this
   have hch:Chg (fun y=>y = b) w (w.setRow b (overs cs (n' * i.size) news.toArray)):=Chg.setRow _ _ _
   have hchM:Chg (MM F g h) w (w.setRow b (overs cs (n' * i.size) news.toArray)):=hch.weak (fun x _ e=>by subst e;exact .inr ⟨d,cap,hlive,hg⟩)
   have T1:=Tr.upd hok (x:=.rw (qd || q) (n' + m) i.size (appc n' c c')) hlive hg (rw_live _ _ _ _) hch (rw_mk ⟨hroom,hcm,_,t',setRow_heap _ _ _ _ _ _ hh,by rw [overs_size hfit'];exact hm,fun k hk o ho=>by
    have hks:(k + 1) * i.size ≤ (n' + m) * i.size:=Nat.mul_le_mul_right _ hk
    rw [Nat.add_mul,Nat.one_mul,Nat.add_mul] at hks
    simp only [appc]
    by_cases hkn:k < n'
    ·rw [if_pos hkn]
     have hks2:(k + 1) * i.size ≤ n' * i.size:=Nat.mul_le_mul_right _ hkn
     rw [Nat.add_mul,Nat.one_mul] at hks2
     obtain ⟨x,a,b,d⟩:=hc k hkn o ho
     exact ⟨x,by rw [overs_out hfit' (.inl (by omega))];exact a,b,rep_mono hchM (fun _ _ h=>h) _ (GM.le_refl _) d⟩
    ·rw [if_neg hkn]
     obtain ⟨x,a,b,d⟩:=n4 (k - n') (by omega) o ho
     have hge:n' * i.size ≤ k * i.size:=Nat.mul_le_mul_right _ (by omega)
     refine ⟨x,?_,b,rep_mono hchM (fun _ _ h=>h) _ hQq d⟩
     have:=overs_in hfit' (i:=(k - n') * i.size + o) (by rw [Nat.sub_mul];simp [n1];omega)
     rw [show n' * i.size + ((k - n') * i.size + o) = k * i.size + o by rw [Nat.sub_mul];omega] at this
     rw [this]
     simpa using a⟩)
   exact .inl ⟨_,_,b,cap,hrun,hg,rfl,hroom,T1⟩
  ·have hm0:0 < m:=by omega
   obtain ⟨ad,rfl⟩:=hBsome hm0
   have hcells:∀ (j:Nat) (v:Value),(cs.toList.take (n' * i.size))[j]? = some v → w.cell? ((⟨b,0,none⟩:Addr).add j) = some v:=fun j v hv=>by
    rw [Addr.add_lit,Nat.zero_add]
    refine cell_of_heap hh ?_
    rw [List.getElem?_take] at hv
    split at hv
    ·simpa using hv
    ·cases hv
   have hrun:=run_append_grow (P:=P) (w:=w) t ty e i z hu hi hz0 ⟨b,0,none⟩ n' cap (cs.toList.take (n' * i.size)) ho1 hcells ad m cap2 news n1 (n2 ad rfl) (by omega) (by simp only [maxLen] at b1;omega) (growslice_fits (by omega) b2)
   have T1:=Tr.kill hok d
   have hT:=push (qd || q) hQq (h.set d .dead) T1.ok (fun x hx=>T1.old x (T1.ok.mlt hx) hx) (by simp) n' _ ho1 c hold (grownCap w (n' + m) cap e) (grownCap_ge w _ _ e) (grownCap_le_maxLen w _ _ e b1)
   have hT2:=push (qd || q) hQq h hok (fun _ h=>h) rfl n' _ ho1 c hold (grownCap w (n' + m) cap e) (grownCap_ge w _ _ e) (grownCap_le_maxLen w _ _ e b1)
   exact .inr ⟨_,_,w.heap.size,_,hrun,rfl,grownCap_ge w _ _ e,hT2,T1.trans hT⟩

theorem run_append_room2 (t ty e:TypeId) (i:TypeInfo) (ht:P.underlying t = some (.slice e)) (hi:P.info? e = some i)
  (g off sLen sCap:Nat) (cur:Array Value) (te:TypeId) (hg:w.heap[g]? = some (.cells cur te (0,0)))
  (a:Addr) (m c:Nat) (news:List Value) (hl:news.length = m * i.size) (hnews:∀ (j:Nat) u,news[j]? = some u → w.cell? (a.add j) = some u) (h1:∀ u ∈ news,u.oneCell' = true)
  (hroom:sLen + m ≤ sCap) (hfit:off + sLen * i.size + news.length ≤ cur.size) :
  (Builtin.append_ #[t,t] ty #[.slice (some ⟨g,off,none⟩) sLen sCap,.slice (some a) m c]).run P w =
   .ok (.slice (some ⟨g,off,none⟩) (sLen + m) sCap) (w.setRow g (cur.toList.take (off + sLen * i.size) ++ news ++ cur.toList.drop (off + sLen * i.size + news.length)).toArray):=by
 have hf:=run_firstCells_some (P:=P) w i.size m a m c news hl hnews
 have hst:=run_storeCells_at P g (off + sLen * i.size) te news 0 cur w hg (by simpa using hfit) h1
 simp only [Nat.add_zero] at hst
 simp [Builtin.append_,run_underlying ht,sizeOf,typeInfo,hi,Builtin.lenOf,hroom,hf,Addr.add_lit,hst]
/-- Append to a piece of an own row that does not begin it. -/
theorem val_app_osl {t ty e:TypeId} {i:TypeInfo} {zs:List Value} {u u2:Value} {y:AV} {m d lo n' N:Nat} {c c':Nat → Nat → AV} (hok:HOK F g w h) (ht:tyEl P t = some (e,i)) (hz:zcells i = some zs) (hr:rep (MM F g h) w (.osl d i.size lo n') g u) (hy:rep (MM F g h) w y g u2) (hsz:0 < i.size) (hS:Src false i.size h y m c')
  (hd:h[d]? = some (.row N i.size c)) (hnN:lo + n' ≤ N) (b1:n' + m ≤ maxLen) (b2:(n' + m) * i.bytes ≤ 140737488355328) :
   (∃ u' w',(Builtin.append_ #[t,t] ty #[u,u2]).run P w = .ok u' w' ∧ rep (MM F g (h.set d (.row (lo + (n' + m)) i.size (appc (lo + n') c c')))) w' (.osl d i.size lo (n' + m)) g u' ∧ Tr F g h w g (h.set d (.row (lo + (n' + m)) i.size (appc (lo + n') c c'))) w') ∨
   (∃ u' w' b cap,(Builtin.append_ #[t,t] ty #[u,u2]).run P w = .ok u' w' ∧ u' = .slice (some ⟨b,0,none⟩) (n' + m) cap ∧ n' + m ≤ cap ∧
    Tr F g h w (g.push h.length (b,cap)) (h ++ [.row (n' + m) i.size (appc n' (fun k=>c (lo + k)) c')]) w'):=by
 obtain ⟨hu,hi⟩:=tyEl_some ht
 obtain ⟨z,hz0,hz1,rfl,hone⟩:=zcells_some hz
 obtain ⟨B,cap2,rfl,hBnil,news,n1,n2,n3,n4⟩:=src_cells hok hsz hS hy
 have hBsome:0 < m → ∃ ad,B = some ad:=fun hm=>by
  cases B with
  | none=>have:=hBnil rfl;omega
  | some ad=>exact ⟨ad,rfl⟩
 obtain ⟨b,cap,p,hg,rfl,hncap,hp⟩:=hr
 obtain ⟨hNc,hcm,cs,t',hh,hm,hc0⟩:=hok.row d N _ c b cap hd hg
 have hlive:live h d:=⟨_,hd,trivial⟩
 by_cases hroom:n' + m ≤ cap - lo
 ·have hrun:∃ w',(Builtin.append_ #[t,t] ty #[.slice (some ⟨b,p,none⟩) n' (cap - lo),.slice B m cap2]).run P w = .ok (.slice (some ⟨b,p,none⟩) (n' + m) (cap - lo)) w' ∧ w' = w.setRow b (overs cs ((lo + n') * i.size) news.toArray):=by
   by_cases hm0:m = 0
   ·subst hm0
    have hnews:news = []:=List.eq_nil_of_length_eq_zero (by simpa using n1)
    subst hnews
    have:overs cs ((lo + n') * i.size) #[] = cs:=by simp [overs]
    have hself:w.setRow b cs = w:=setRow_self w b cs _ _ hh
    rw [this,hself]
    refine ⟨_,?_,rfl⟩
    have:n' ≤ cap - lo:=by omega
    cases B <;> simp [Builtin.append_,run_underlying hu,sizeOf,typeInfo,hi,Builtin.lenOf,Builtin.firstCells,storeCells,loadCells,loadCellsFrom,this]
   ·obtain ⟨ad,rfl⟩:=hBsome (by omega)
    have hpp:=hp (by omega)
    subst hpp
    have hfit:lo * i.size + n' * i.size + news.length ≤ cs.size:=by
     rw [n1,hm,← Nat.add_mul,← Nat.add_mul];exact Nat.mul_le_mul_right _ (by omega)
    have:=run_append_room2 (P:=P) (w:=w) t ty e i hu hi b (lo * i.size) n' (cap - lo) cs t' hh ad m cap2 news n1 (n2 ad rfl) n3 hroom hfit
    refine ⟨_,this,?_⟩
    rw [← Nat.add_mul]
    simp [overs]
  obtain ⟨w',hrun,rfl⟩:=hrun
  have hfit':(lo + n') * i.size + news.toArray.size ≤ cs.size:=by
   simp only [List.size_toArray]
   rw [n1,hm,← Nat.add_mul];exact Nat.mul_le_mul_right _ (by omega)
  have hch:Chg (fun y=>y = b) w (w.setRow b (overs cs ((lo + n') * i.size) news.toArray)):=Chg.setRow _ _ _
  have hchM:Chg (MM F g h) w (w.setRow b (overs cs ((lo + n') * i.size) news.toArray)):=hch.weak (fun x _ e=>by subst e;exact .inr ⟨d,cap,hlive,hg⟩)
  have T1:=Tr.upd hok (x:=.row (lo + (n' + m)) i.size (appc (lo + n') c c')) hlive hg trivial hch ⟨by omega,hcm,_,t',setRow_heap _ _ _ _ _ _ hh,by rw [overs_size hfit'];exact hm,fun k hk o ho=>by
   have hks:(k + 1) * i.size ≤ (lo + n' + m) * i.size:=Nat.mul_le_mul_right _ (by omega)
   rw [Nat.add_mul,Nat.one_mul,Nat.add_mul (lo + n')] at hks
   simp only [appc]
   by_cases hkn:k < lo + n'
   ·rw [if_pos hkn]
    have hks2:(k + 1) * i.size ≤ (lo + n') * i.size:=Nat.mul_le_mul_right _ hkn
    rw [Nat.add_mul,Nat.one_mul] at hks2
    obtain ⟨x,a,b,d⟩:=hc0 k (by omega) o ho
    exact ⟨x,by rw [overs_out hfit' (.inl (by omega))];exact a,b,rep_mono hchM (fun _ _ h=>h) _ (GM.le_refl _) d⟩
   ·rw [if_neg hkn]
    obtain ⟨x,a,b,d⟩:=n4 (k - (lo + n')) (by omega) o ho
    have hge:(lo + n') * i.size ≤ k * i.size:=Nat.mul_le_mul_right _ (by omega)
    refine ⟨x,?_,b,rep_mono hchM (fun _ _ h=>h) _ (GM.le_refl _) d⟩
    have:=overs_in hfit' (i:=(k - (lo + n')) * i.size + o) (by rw [Nat.sub_mul];simp only [List.size_toArray,n1];omega)
    rw [show (lo + n') * i.size + ((k - (lo + n')) * i.size + o) = k * i.size + o by rw [Nat.sub_mul];omega] at this
    rw [this]
    simpa using a⟩
  exact .inl ⟨_,_,hrun,⟨b,cap,p,hg,rfl,by omega,hp⟩,T1⟩
 ·have hm0:0 < m:=by omega
  obtain ⟨ad,rfl⟩:=hBsome hm0
  have hps:∀ k,k < n' → p = lo * i.size:=fun k hk=>hp (by omega)
  have olds_ok:∃ olds:List Value,olds.length = n' * i.size ∧ (∀ (j:Nat) (v:Value),olds[j]? = some v → w.cell? ((⟨b,p,none⟩:Addr).add j) = some v) ∧ ∀ k,k < n' → ∀ o,o < i.size → ∃ u,olds[k * i.size + o]? = some u ∧ u.oneCell' = true ∧ rep (MM F g h) w (c (lo + k) o) g0 u:=by
   by_cases h0:n' = 0
   ·subst h0
    exact ⟨[],by simp,fun j v hv=>by simp at hv,fun k hk=>by omega⟩
   ·have hpp:=hp (by omega)
    subst hpp
    have hle:lo * i.size + n' * i.size ≤ cs.size:=by rw [hm,← Nat.add_mul];exact Nat.mul_le_mul_right _ (by omega)
    refine ⟨(cs.toList.drop (lo * i.size)).take (n' * i.size),by simp;omega,fun j v hv=>?_,fun k hk o ho=>?_⟩
    ·rw [Addr.add_lit]
     refine cell_of_heap hh ?_
     rw [List.getElem?_take] at hv
     split at hv
     ·rw [List.getElem?_drop] at hv;simpa using hv
     ·cases hv
    ·have hks:(k + 1) * i.size ≤ n' * i.size:=Nat.mul_le_mul_right _ hk
     rw [Nat.add_mul,Nat.one_mul] at hks
     obtain ⟨x,a,b,d⟩:=hc0 (lo + k) (by omega) o ho
     refine ⟨x,?_,b,d⟩
     rw [List.getElem?_take,if_pos (by omega),List.getElem?_drop]
     rw [Nat.add_mul,Nat.add_assoc] at a
     simpa using a
  obtain ⟨olds,o1,o2,o3⟩:=olds_ok
  have hrun:=run_append_grow (P:=P) (w:=w) t ty e i z hu hi hz0 ⟨b,p,none⟩ n' (cap - lo) olds o1 o2 ad m cap2 news n1 (n2 ad rfl) (by omega) (by simp only [maxLen] at b1;omega) (growslice_fits (by omega) b2)
  have hge:=grownCap_ge w (n' + m) (cap - lo) e
  have hlem:=grownCap_le_maxLen w (n' + m) (cap - lo) e b1
  generalize grownCap w (n' + m) (cap - lo) e = capN at hrun hge hlem
  have hlen:(olds.toArray ++ news.toArray).size = n' * i.size + m * i.size:=by simp [o1,n1]
  have:=Tr.newBlock hok (w':=w.drew.alloc (.cells (olds.toArray ++ news.toArray ++ Builtin.zeroCells z.cells (capN - (n' + m))) e)) ((Chg.drew _ w).trans (Chg.alloc _ _ _) (fun _ _ h=>h)) (heap_alloc_new w.drew _) capN (.row (n' + m) i.size (appc n' (fun k=>c (lo + k)) c')) ⟨hge,hlem,by
   simp only [Array.size_append,List.size_toArray,o1,n1,size_zeroCells,hz1]
   rw [← Nat.add_mul,← Nat.add_mul]
   congr 1
   omega,fun k hk o ho=>by
   have hks:(k + 1) * i.size ≤ (n' + m) * i.size:=Nat.mul_le_mul_right _ hk
   rw [Nat.add_mul,Nat.one_mul,Nat.add_mul] at hks
   rw [Array.getElem?_append_left (by omega)]
   simp only [appc]
   by_cases hkn:k < n'
   ·rw [if_pos hkn]
    have hks2:(k + 1) * i.size ≤ n' * i.size:=Nat.mul_le_mul_right _ hkn
    rw [Nat.add_mul,Nat.one_mul] at hks2
    obtain ⟨x,a,b,d⟩:=o3 k hkn o ho
    refine ⟨x,?_,b,d⟩
    rw [Array.getElem?_append_left (by simp [o1];omega)]
    simpa using a
   ·rw [if_neg hkn]
    obtain ⟨x,a,b,d⟩:=n4 (k - n') (by omega) o ho
    refine ⟨x,?_,b,d⟩
    have hge:n' * i.size ≤ k * i.size:=Nat.mul_le_mul_right _ (by omega)
    rw [Array.getElem?_append_right (by simp [o1];omega)]
    simp only [List.size_toArray,o1,List.getElem?_toArray]
    rw [show k * i.size + o - n' * i.size = (k - n') * i.size + o by rw [Nat.sub_mul];omega]
    exact a⟩
  exact .inr ⟨_,_,w.heap.size,capN,hrun,rfl,hge,this⟩

theorem val_app {t ty e:TypeId} {i:TypeInfo} {zs:List Value} {v y:AV} {u u2:Value} (hok:HOK F g w h) (ht:tyEl P t = some (e,i)) (hz:zcells i = some zs) (hr:rep (MM F g h) w v g u) (hy:rep (MM F g h) w y g u2)
  (H:aop (.app i.size i.bytes (.k v) (.k y)) (fun x=>x.ev (fun _=>.bot)) h (fun a b=>a = r ∧ b = h')) :
  ∃ u' w' g',(Builtin.append_ #[t,t] ty #[u,u2]).run P w = .ok u' w' ∧ rep (MM F g' h') w' r g' u' ∧ Tr F g h w g' h' w':=by
 simp only [aop,AX.ev] at H
 obtain ⟨hsz,H⟩:=H
 obtain ⟨q,m,c',hS,H2⟩:=asrc_e H
 clear H
 have H:=H2
 clear H2
 cases v <;> simp only at H
 case sl zz ee n sz2 c=>exact (val_app_core (ty:=ty) hok ht hz hr hy hsz hS).1 zz ee n sz2 c rfl H
 case own d n =>
  have key:∀ (qd:Bool) (c:Nat → Nat → AV),h[d]? = some (.rw qd n i.size c) → n + m ≤ maxLen → (n + m) * i.bytes ≤ 140737488355328 →
    ∃ u' w' g',(Builtin.append_ #[t,t] ty #[u,u2]).run P w = .ok u' w' ∧ rep (MM F g' (h.set d .dead ++ [.rw (qd || q) (n + m) i.size (appc n c c')])) w' (.own h.length (n + m)) g' u' ∧ Tr F g h w g' (h.set d .dead ++ [.rw (qd || q) (n + m) i.size (appc n c c')]) w':=by
   intro qd c hd b1 b2
   rcases (val_app_core (ty:=ty) (r:=.bot) (h':=h) hok ht hz hr hy hsz hS).2 qd d n n c rfl hd (Nat.le_refl _) b1 b2 with ⟨u',w',b,cap,hrun,hg,rfl,hcap,T1⟩|⟨u',w',b,cap,hrun,rfl,hcap,_,T⟩
   ·have hd1:d < h.length:=hok.lt hg
    have T2:=Tr.move T1.ok (d:=d) (b:=b) (cap:=cap) (x:=.rw (qd || q) (n + m) i.size (appc n c c')) (live_set_eq hd1 (rw_live _ _ _ _)) hg (T1.ok.all (by rw [List.getElem?_set];simp [hd1]) hg)
    have T:=T1.trans T2
    have e1:(h.set d (.rw (qd || q) (n + m) i.size (appc n c c'))).length = h.length:=by simp
    have e2:(h.set d (.rw (qd || q) (n + m) i.size (appc n c c'))).set d .dead = h.set d .dead:=by simp
    rw [e1,e2] at T
    exact ⟨_,_,_,hrun,⟨b,cap,by simp [GM.push],rfl,hcap⟩,T⟩
   ·exact ⟨_,_,_,hrun,⟨b,cap,by simp [GM.push],rfl,hcap⟩,T⟩
  split at H
  ·rename_i n' sz2 c hd
   obtain ⟨rfl,rfl,b1,b2,rfl,rfl⟩:=H
   exact key false c hd b1 b2
  ·rename_i n' sz2 c hd
   obtain ⟨rfl,rfl,b1,b2,rfl,rfl⟩:=H
   exact key true c hd b1 b2
  ·exact H.elim

/-- Append to a row that is used on: either in its place, or in a new one. -/
def asplit (o:AOp) (e:AX → AV) (h:List AB) (K:AV → List AB → Prop):Prop :=
 match o with
 | .app sz bytes x y=>0 < sz ∧ asrc sz h (e y) (fun q m c'=>q = false ∧ match e x with
  | .own d n=>(match h[d]? with
   | some (.row N sz2 c)=>sz2 = sz ∧ n ≤ N ∧ n + m ≤ maxLen ∧ (n + m) * bytes ≤ 140737488355328 ∧
    K (.own d (n + m)) (h.set d (.row (n + m) sz (appc n c c'))) ∧ K (.own h.length (n + m)) (h ++ [.row (n + m) sz (appc n c c')])
   | _=>False)
  | .osl d sz3 lo n=>(match h[d]? with
   | some (.row N sz2 c)=>sz3 = sz ∧ sz2 = sz ∧ lo + n ≤ N ∧ n + m ≤ maxLen ∧ (n + m) * bytes ≤ 140737488355328 ∧
    K (.osl d sz lo (n + m)) (h.set d (.row (lo + (n + m)) sz (appc (lo + n) c c'))) ∧ K (.own h.length (n + m)) (h ++ [.row (n + m) sz (appc n (fun k=>c (lo + k)) c')])
   | _=>False)
  | _=>False)
 | _=>False
theorem val_split {t ty e:TypeId} {i:TypeInfo} {zs:List Value} {v y:AV} {u u2:Value} {K:AV → List AB → Prop} (hok:HOK F g w h) (ht:tyEl P t = some (e,i)) (hz:zcells i = some zs) (hr:rep (MM F g h) w v g u) (hy:rep (MM F g h) w y g u2)
  (H:asplit (.app i.size i.bytes (.k v) (.k y)) (fun x=>x.ev (fun _=>.bot)) h K) :
  ∃ r h' u' w' g',K r h' ∧ (Builtin.append_ #[t,t] ty #[u,u2]).run P w = .ok u' w' ∧ rep (MM F g' h') w' r g' u' ∧ Tr F g h w g' h' w':=by
 simp only [asplit,AX.ev] at H
 obtain ⟨hsz,H⟩:=H
 obtain ⟨q,m,c',hS,rfl,H2⟩:=asrc_e H
 clear H
 have H:=H2
 clear H2
 split at H
 ·split at H
  ·rename_i N sz2 c hd
   obtain ⟨rfl,hnN,b1,b2,K1,K2⟩:=H
   rcases (val_app_core (ty:=ty) (r:=.bot) (h':=h) hok ht hz hr hy hsz hS).2 false _ _ N c rfl hd hnN b1 b2 with ⟨u',w',b,cap,hrun,hg,rfl,hcap,T1⟩|⟨u',w',b,cap,hrun,rfl,hcap,T,_⟩
   ·exact ⟨_,_,_,_,g,K1,hrun,⟨b,cap,hg,rfl,hcap⟩,T1⟩
   ·exact ⟨_,_,_,_,_,K2,hrun,⟨b,cap,by simp [GM.push],rfl,hcap⟩,T⟩
  ·exact H.elim
 ·split at H
  ·rename_i N sz2 c hd
   obtain ⟨rfl,rfl,hnN,b1,b2,K1,K2⟩:=H
   rcases val_app_osl (ty:=ty) hok ht hz hr hy hsz hS hd hnN b1 b2 with ⟨u',w',hrun,hv,T1⟩|⟨u',w',b,cap,hrun,rfl,hcap,T⟩
   ·exact ⟨_,_,_,_,g,K1,hrun,hv,T1⟩
   ·exact ⟨_,_,_,_,_,K2,hrun,⟨b,cap,by simp [GM.push],rfl,hcap⟩,T⟩
  ·exact H.elim
 ·exact H.elim
end
end Go.Proofs.YtodpjdmdmmnlpaaGreat
